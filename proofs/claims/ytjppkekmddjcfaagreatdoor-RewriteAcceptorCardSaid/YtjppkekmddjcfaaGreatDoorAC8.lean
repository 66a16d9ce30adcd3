import Derived.Test.YtjppkekmddjcfaaGreatDoorAC7
import Derived.Test.YtjppkekmddjcfaaGreatDoorAC2
import Derived.Test.YtjppkekmddjcfaaGreatDoorAC4
import Derived.Test.YtjppkekmddjcfaaGreatDoorAC5
import Derived.Shelf.SlSortCmp.WholeK
import Derived.Shelf.SlSortCmp.NoneTotal
import Derived.Shelf.Sort.Plain
import Derived.Shelf.Slices.In.SortNone
set_option linter.unusedSectionVars false
set_option linter.unusedVariables false
set_option linter.unusedSimpArgs false
open Go.Proofs.Tryz
namespace Go.Proofs.YtjppkekmddjcfaaGreatDoor
open Go Go.RowKit V
set_option maxRecDepth 100000
set_option maxHeartbeats 4000000
theorem ag123:dM prog 123=some true:=by kernel_rfl
theorem pl119:dk prog 119=some [(0,1),(1,1)]:=by kernel_rfl
theorem u119:type_of% @underlying119:=@underlying119
theorem z119:cE prog 119=some (.agg #[.slice none 0 0,.slice none 0 0]):=by kernel_rfl
theorem Yz (g:Int) (u:Value) (l:List W8) (rv:Value) (rs:List aQ) (A:AH) (hn:l.length<=9223372036854775807) (hm:rs.length<=9223372036854775807) (hln:bN g l rs=true->ga (il g rs)<=18000) (hL:iB A) (hu:bz A 1 u (dB l)) (hr:bz A 3 rv (dh rs)) (hp:Proofs A rs):bH prog 33 #[.agg #[num (g),u,rv]] A (fun v A1=>∃ av2 nv2 rows2,v=.tuple #[.agg #[num ((na g l rs:Nat):Int),num ((0:Nat):Int),av2,nv2],num ((gR g l rs:Nat):Int)]/\A.le A1/\A1.wf/\Fresh A A1 av2 1 (bQ (jz g l rs).1)/\Fresh A A1 nv2 1 (dx rows2)/\iZ A A1 rows2 (jz g l rs).2/\aL av2 nv2/\au av2 rows2/\au nv2 rows2):=by
 refine aN (e:=[(0,.agg #[num (g),u,rv])]) (args:=[.agg #[num (g),u,rv]]) call33 func33 Z results33 ntmps33 Z Z Z (fun wf=>?_);have CH:=AH.le.refl A;refine ak.sq fun h2=>.region<|.l Z (fun _ _ uP _=>dQ wf rfl rfl fun A5 b4 ox=>?_);have uS:=CH.trans ox.le;refine uP _ _<|.m (fun Cv=>co ox.wf yp rfl fun A10 b9 hH=>?_);have lP:=bh wf (Xj uS.n hH.lo);have uB:=hH.le.g ox.get;have gl:=uS.trans hH.le;refine Cv<|.I Z<|.nil<|h2<|.sq fun C2=>.sq fun C3=>.region<|.p (ao fW fw Z Z uB Z)<|.m (fun Ar=>ax Z (kJ ((g)) u l rv rs A10 hn hm (hL.le gl) (hu.le gl) (hr.le gl) (hp.le gl)) ?_);rintro I1 A20 ⟨rfl,hF,g8⟩;have nj:=hF.g uB;have nk:=hF.g hH.get;have jX:=gl.trans hF;refine Ar<|.p (ff Z)<|.nil<|C3<|.ifB Z (fun CK=>?_) (fun CK=>?_)
 ·refine ak.sq fun C4=>.region<|.p (dn Z (bE YB yp Eo Z))<|.m (fun As=>aU (cs:=[num ((0:Nat):Int),num ((0:Nat):Int),.slice none 0 0,.slice none 0 0]) (c':=[num ((0:Nat):Int),num ((0:Nat):Int),.slice none 0 0,.slice none 0 0]) g8 rfl rfl rfl rfl gr nk G rfl rfl fun A29 hM=>?_);have B8:=an jX wf lP hM.n hM.keep;refine As<|.I Z<|.nil<|C4<|.rt (by exact aH (e8 jA gr Z hM.get Z (fB Z gB)) (⟨_,_,[],by rw [(Al ‹_›).1,(Al ‹_›).2.1];rfl,B8,hM.wf,ci (Fresh.nil _ _ _) (Xk bQ (show []=_ by rw [(Al ‹_›).2.2])),Fresh.nil _ _ _,kw iZ.nil (by rw [(Al ‹_›).2.2]),aL.nil,au.nil,au.nil⟩))
 refine ak.skip<|C2<|.sq fun C7=>?_;have hs:bN g l rs=true:=by simpa using ‹(!bN g l rs)=false›
 obtain ⟨gn,rfl⟩:∃ n:Nat,g=(n:Int):=⟨g.toNat,by have:=kn hs;omega⟩;have hg:=kn hs;have hbs:=hln hs;have hse:=zW hs;have hsn:=ug hs;have hsl:=iL (gn:Int) rs;rw [XY] at hsl;refine ak.region<|.p (ae gy iw U Z)<|.p (ae gj cl U Z)<|.p (ah dK Z Z nj Z)<|.p (oE (a:=2) Z Z O)<|.I Z<|.nil<|C7<|.sq fun Cc=>.region ?_;refine Ops.p (dn Z (bE u119 z119 pl119 Z))<|.m (fun At=>dQ g8 rfl rfl fun A39 a1 eb=>?_);have fS:=ne_new g8 nk eb.lo;have hS:=bh wf (Xj jX.n eb.lo);refine At<|.I Z<|.nil<|Cc<|.sq fun Ch=>?_;have n3:Fresh A A39 (.slice none 0 0) 1 (dx []):=Fresh.nil _ _ _;have n4:Fresh A A39 (.slice none 0 0) 1 (bQ []):=Fresh.nil _ _ _;have mX:iZ A A39 [] []:=iZ.nil;refine ak.region<|.J Z<|.J Z ?_;have hC:=cy (bs:=([some a1,blk (.slice none 0 0),blk (.slice none 0 0)] ++ ([]).map blk)) (jX.trans eb.le) (GX (yn hS (uo n3.lo (uo n4.lo rK))) mX);refine Ops.m (fun Av=>ax Z (Tl (2 * gn) a1 (.slice none 0 0) (.slice none 0 0) ([]) ([]) ([]) (A39.hide ([some a1,blk (.slice none 0 0),blk (.slice none 0 0)] ++ ([]).map blk)) A39 (cL A39 ([some a1,blk (.slice none 0 0),blk (.slice none 0 0)] ++ ([]).map blk)) (cx eb.wf) eb.get (cD (by simp)) (n3.hide (by simp)) (n4.hide (by simp)) (fun q=>by cases q) (fun q=>by cases q) aL.nil mX.hideAll fY au.empty au.empty ⟨by omega,by simp,by simp⟩) ?_);rintro I2 A51 ⟨t9,p4,mE,rfl,hG,mv,fR,h6,h7,h1,h3,hV,g4,hQ,mx,mB⟩;have nV:=ce (bs:=([some a1,blk (.slice none 0 0),blk (.slice none 0 0)] ++ ([]).map blk)) (eb.le.g nj) (BG (rP (ne_new g8 nj eb.lo) (px (fun q=>by cases q) (px (fun q=>by cases q) nZ))) fY);have hw:=ce (bs:=([some a1,blk (.slice none 0 0),blk (.slice none 0 0)] ++ ([]).map blk)) (eb.le.g nk) (BG (rP fS (px (fun q=>by cases q) (px (fun q=>by cases q) nZ))) fY);have uI:=hG.g hw;have n6:=h6.base hC;have n7:=h7.base hC;have n1:=g4.base hC;have H1:=g4.ne nV;have Bk:=g4.ne hw;have ft:=hC.trans hG;have o3:=g4.len;rw [Xz,TQ] at o3;refine Av<|.nil<|Ch<|.sq fun Ck=>.sq fun Cp=>.region<|.p (ao fW fw Z Z (hG.g nV) Z)<|.m (fun Ay=>ax Z (Kn (((gn:Nat):Int)) u l rv rs A51 hg O (hL.le ft) (hu.le ft) (hr.le ft) (hp.le ft)) ?_);rintro gM A74 ⟨ey,EM,er⟩;have w1:=n1.le ey;have n9:=er.base ft;have BT:=au.fresh n1 er;refine Ay<|.p (bx (n:=(bF (((gn:Nat):Int)) rs).length) rL Z n9.slc O (sL _))<|.J Z<|.nil<|Cp<|.block<|.loop (X:=Nat × List Bool × Value × Value × List Value × List (List Int)) (fun ⟨i,E1,a0,rH,rw,L1⟩=>[(2,.pointer (some ⟨b9,0,none⟩)),(4,num ((2 * gn:Nat):Int)),(5,.pointer (some ⟨a1,0,none⟩)),(34,gM),(35,num (((bF (((gn:Nat):Int)) rs).length:Nat):Int)),(36,num ((i:Nat):Int))]) (fun ⟨i,E1,a0,rH,rw,L1⟩ B=>(i<=(bF gn rs).length/\TI (2 * gn) (il gn rs) i L1 E1)/\A.le B/\Fresh A B a0 1 (dx rw)/\Fresh A B rH 1 (bQ E1)/\Fresh A B gM 2 (ir (bF (((gn:Nat):Int)) rs))/\B.get b9=some (.row true [num ((0:Nat):Int),num ((0:Nat):Int),.slice none 0 0,.slice none 0 0] 4)/\B.get a1=some (.row true [a0,rH] 2)/\V.blk a0 ≠ some b9/\V.blk rH ≠ some b9/\V.blk gM ≠ some b9/\V.blk a0 ≠ some a1/\V.blk rH ≠ some a1/\V.blk gM ≠ some a1/\aL a0 rH/\aL a0 gM/\aL rH gM/\iZ A B rw L1/\cu rw b9/\cu rw a1/\au a0 rw/\au rH rw/\au gM rw) (fun ⟨i,E1,a0,rH,rw,L1⟩=>(bF gn rs).length - i) (⟨0,[] ++ [false],t9,p4,mE,([]) ++ [CO (2 * gn)]⟩) (yA Z Z Z Z Z Z) (⟨⟨XZ _,TI.start⟩,(ft.trans ey),(n6.le ey),(n7.le ey),n9,(ey.g uI),(ey.g fR),(h6.seph hw),(h7.seph hw),(er.ne mv uI),h1,h3,(er.ne mv fR),hV,(aL.symm (er.sep0 n6.own)),(aL.symm (er.sep0 n7.own)),w1,Bk,hQ,mx,mB,BT⟩) ?_;rintro ⟨i,E1,a0,rH,rw,L1⟩ B91 ⟨⟨hi,hti⟩,hD,cK,dJ,cT,ex,cP,eM,eL,gE,eg,ec,aI,gL,e0,e1,ev,f2,eA,f3,f4,ct⟩;refine ak.wf fun bO=>?_;have hrw:rw.length=L1.length:=by first | exact iZ.len ‹_›
 have hlb:=hti.bound;have hlE:=hti.len;have o2:=hti.ok;have hwl:=fun q:i < (bF gn rs).length=>vh hg hse _ (aX (d:=(([],[]):Wd × Wd)) q);have hwc:=fun q:i < (bF gn rs).length=>r8 hs _ (aX (d:=(([],[]):Wd × Wd)) q);refine ak.sq fun Cq=>.region<|.p (bK Z Z)<|.nil<|Cq<|.sq fun Cs=>.if rfl (fun CL=>?_) (fun CL=>?_)
 ·refine ak.skip<|Cs<|.sq fun Ct=>.block<|.sq fun wV=>.region ?_;obtain ⟨EN,Fs,Eq,H2,DV,Gl,G1,v1,AG,w2,oJ,Dv⟩:=bz.at (i:=i) cT.slc OP O;refine Ops.p (al rL oU Z v1 Z AG)<|.p (ao ag123 oU Z Z w2 (oJ.trans (Xk some (Nz O))))<|.m (fun r4=>co bO Jm rfl fun A105 EQ av=>?_);have eK:=ne_new bO cP av.lo;have lZ:=cK.own.ne_new bO av.lo;have m1:=dJ.own.ne_new bO av.lo;have m6:=ev.ne_new bO av.lo;have p5:=ev.le av.le;refine r4<|.m (fun r6=>aU (cs:=[aM (((bF (((gn:Nat):Int)) rs).getD i ([],[])).1),aM (((bF (((gn:Nat):Int)) rs).getD i ([],[])).2)]) (c':=[aM (((bF (((gn:Nat):Int)) rs).getD i ([],[])).1),aM (((bF (((gn:Nat):Int)) rs).getD i ([],[])).2)]) av.wf rfl rfl rfl rfl oU av.get G rfl rfl fun A119 bC=>?_);have wY:=bC.k eK (av.le.g cP);have kv:=(cK.le av.le).keep bC.keep lZ;have kC:=(dJ.le av.le).keep bC.keep m1;have g5:=(cT.le av.le).keep bC.keep (cT.own.ne_new bO av.lo);have k2:=p5.keep bC.keep m6;refine r6<|.nil<|wV<|.region<|.J Z<|.J Z<|.p (jt (i:=0) CE fK Z Z O)<|.p (ah gK Z Z bC.get Z) ?_;have f6:=cy (bs:=([some a1,blk a0,blk rH] ++ rw.map blk)) (an (hD.trans av.le) wf (bh wf (Xj hD.n av.lo)) bC.n bC.keep) (GX (yn hS (uo kv.lo (uo kC.lo rK))) k2);refine Ops.m (fun r7=>ax Z (s_add (2 * gn) (((bF (((gn:Nat):Int)) rs).getD i ([],[])).1) a1 a0 rH rw L1 E1 (A119.hide ([some a1,blk a0,blk rH] ++ rw.map blk)) A119 (cL A119 ([some a1,blk a0,blk rH] ++ rw.map blk)) (cx bC.wf) wY (cD (by simp)) (kv.hide (by simp)) (kC.hide (by simp)) eg ec gL k2.hideAll eA f3 f4 (hL.le f6) ⟨by omega,by omega,by have:=(hwl O).2.1;omega⟩ o2.1 o2.2 (hwc O)) ?_);rintro Hl A130 ⟨oy,mV,k1,rfl,gm,CR,hz,eT,eV,gq,gs,hN,f1,hl,iT,iV⟩;have g7:=ce (bs:=([some a1,blk a0,blk rH] ++ rw.map blk)) (bC.k (ne_new bO ex av.lo) (av.le.g ex)) (BG (rP fS (px eM (px eL nZ))) f2);have r3:=ce (bs:=([some a1,blk a0,blk rH] ++ rw.map blk)) bC.get (BG (rP eK.symm (px lZ (px m1 nZ))) m6);have tw:=f1.sepOff g5.own (ns (ln aI (j8 e0 (j8 e1 lm))) ct);have p6:=f1.base f6;have tb:=f1.ne g7;have Dz:=f1.ne r3;refine r7<|.nil<|Ct<|.region<|.p (bk (b:=1) Z Z O)<|.J Z<|.nil ?_;exact ⟨⟨i + 1,vI (2 * gn) L1 E1 (((bF (((gn:Nat):Int)) rs).getD i ([],[])).1),oy,mV,k1,vJ (2 * gn) L1 E1 (((bF (((gn:Nat):Int)) rs).getD i ([],[])).1)⟩,yA Z Z Z Z Z Z,Z,⟨⟨by omega,hti.next2 O (hwc O)⟩,(f6.trans gm),(eT.base f6),(eV.base f6),(g5.off (ns (ln aI (j8 e0 (j8 e1 lm))) ct) gm),(gm.g g7),hz,(eT.seph g7),(eV.seph g7),gE,gq,gs,aI,hN,(eT.sep g5.own (ns (ln aI (j8 e0 (j8 e1 lm))) ct)),(eV.sep g5.own (ns (ln aI (j8 e0 (j8 e1 lm))) ct)),p6,tb,hl,iT,iV,tw⟩,O1⟩
 refine ak.exit<|Ck<|.sq fun wZ=>?_;have Az:rw.length=L1.length:=hrw;obtain ⟨W,nT⟩:=BO.start (k:=2 * gn) (show TI (2 * gn) (il gn rs) (il gn rs).length L1 E1 by rw [rE,<- show i=(bF gn rs).length by omega];exact hti) (yi hs);obtain ⟨Hx,Hy,Hz,HA,HB⟩:=nT.lens;refine ak.region<|.J Z<|.p (cW Z)<|.p (ae jw fC U Z)<|.p (ah ie Z Z cP Z)<|.p (bx (n:=rw.length) jg Z cK.slc O (fp _))<|.m (fun r9=>jo (n:=rw.length) (k:=rw.length) bO hD rfl rfl cQ cl z3 jq rfl (XX _) (by show 8 * _<=_;omega) O fun A155 v0 a3 ho=>?_);rw [ef] at ho;have hJ:=ne_new bO ex a3.lo;have gZ:=ne_new bO cP a3.lo;have ti:=ev.ne_new bO a3.lo;have nb:=a3.le.g ex;have nd:=a3.le.g cP;have kD:=cK.le a3.le;have kK:=dJ.le a3.le;have k3:=ev.le a3.le;have lT:=hD.trans a3.le;have tz:=aL.of_new (n:=rw.length) (c:=rw.length) cK.own bO a3.lo;have tB:=aL.of_new (n:=rw.length) (c:=rw.length) dJ.own bO a3.lo;have EL:=aL.of_new (n:=rw.length) (c:=rw.length) cT.own bO a3.lo;refine r9<|.I Z<|.nil<|wZ<|.sq fun x0=>.region<|.m (fun ri=>aE (c:=[num ((0:Nat):Int)]) a3.wf rfl (aq cQ cl z3 rfl U U rfl) fun A176 mK aF=>?_);have hK:=ne_new a3.wf nb aF.lo;have h0:=ne_new a3.wf nd aF.lo;have t6:=kD.own.ne_new a3.wf aF.lo;have t7:=kK.own.ne_new a3.wf aF.lo;have t8:=ho.own.ne_new a3.wf aF.lo;have tj:=k3.ne_new a3.wf aF.lo;have x1:=aF.le.g nb;have x2:=aF.le.g nd;have pw:=kD.le aF.le;have pA:=kK.le aF.le;have pC:=ho.le aF.le;have p7:=k3.le aF.le;have ss:=lT.trans aF.le;refine ri<|.I Z<|.nil<|x0<|.sq fun x3=>.sq fun x4=>.region<|.I Z<|.nil<|x4 ?_;refine ak.block ?_;have pE:Fresh A A176 (.slice (some ⟨mK,0,none⟩) 1 1) 1 (cf [((0:Nat):Int)]):=Fresh.lit aF.get (bh wf (Xj lT.n aF.lo)) Z G;refine ak.loop (X:=Nat × List Int × List Int × List Bool × Value × Value × Value × List (List Int)) (fun ⟨j,fl,qu,en,fv,qv,kg,Lt⟩=>[(2,.pointer (some ⟨b9,0,none⟩)),(4,num ((2 * gn:Nat):Int)),(5,.pointer (some ⟨a1,0,none⟩)),(8,fv),(9,qv),(10,num ((j:Nat):Int))]) (fun ⟨j,fl,qu,en,fv,qv,kg,Lt⟩ B=>(BO (2 * gn) L1 W ((il gn rs).map d8) (s8 (2 * gn) (il gn rs)) j Lt en fl qu)/\A.le B/\Fresh A B fv 1 (cf fl)/\Fresh A B qv 1 (cf qu)/\Fresh A B kg 1 (bQ en)/\Fresh A B a0 1 (dx rw)/\B.get b9=some (.row true [num ((0:Nat):Int),num ((0:Nat):Int),.slice none 0 0,.slice none 0 0] 4)/\B.get a1=some (.row true [a0,kg] 2)/\V.blk fv ≠ some b9/\V.blk qv ≠ some b9/\V.blk kg ≠ some b9/\V.blk a0 ≠ some b9/\V.blk fv ≠ some a1/\V.blk qv ≠ some a1/\V.blk kg ≠ some a1/\V.blk a0 ≠ some a1/\aL fv qv/\aL fv kg/\aL fv a0/\aL qv kg/\aL qv a0/\aL kg a0/\iZ A B rw Lt/\cu rw b9/\cu rw a1/\au fv rw/\au qv rw/\au kg rw/\au a0 rw) (fun ⟨j,fl,qu,en,fv,qv,kg,Lt⟩=>W.length + 1 - j) (⟨0,List.replicate rw.length 0,[0],E1,.slice (some ⟨v0,0,none⟩) rw.length rw.length,.slice (some ⟨mK,0,none⟩) 1 1,rH,L1⟩) (yA Z Z Z Z Z Z) (⟨(by rw [Az];exact nT),ss,pC,pE,pA,pw,x1,x2,(fun q=>by cases q;exact hJ rfl),(fun q=>by cases q;exact hK rfl),eL,eM,(fun q=>by cases q;exact gZ rfl),(fun q=>by cases q;exact h0 rfl),ec,eg,(aL.symm (fun c hc hq=>by cases hc;exact t8 hq)),tB,tz,(fun c hc hq=>by cases hc;exact t7 hq),(fun c hc hq=>by cases hc;exact t6 hq),(aL.symm gL),p7,f2,eA,(au.new ti),(au.new tj),f4,f3⟩) ?_;rintro ⟨j,fl,qu,en,fv,qv,kg,Lt⟩ B198 ⟨hbo,hA,iS,eX,e5,ck,eY,cX,h4,h5,ee,e3,gC,gF,e2,dw,hW,hX,hY,hZ,i1,fT,dO,eB,e9,gN,gQ,eE,eG⟩;refine ak.wf fun ez=>?_;obtain ⟨HI,HJ,uP,HK,HL⟩:=hbo.lens;have hat:=fun q:j < qu.length=>hbo.at q;refine ak.sq fun x5=>.sq fun x6=>.region<|.J Z<|.J Z<|.p (bx (n:=qu.length) cQ Z eX.slc O (c9 _))<|.p (bK Z Z)<|.nil<|x6<|.if rfl (fun Bl=>?_) (fun Bl=>?_)
 ·refine ak.skip<|x5<|.sq fun x7=>.block<|.sq fun x8=>.region<|.J Z<|.J Z ?_;obtain ⟨ER,Ft,Er,H3,DW,Gm,G2,v2,AI,w3,CS,oK⟩:=bz.at (i:=j) eX.slc O2 O;refine Ops.p (al cQ cl Z v2 Z AI)<|.p (ah dK Z Z w3 ((cb oK).trans (bJ O)))<|.I Z<|.nil<|x8<|.sq fun x9=>?_;obtain ⟨Hu,Hv,Hw⟩:=hat O;refine ak.region<|.J Z<|.p (cW Z)<|.p (ae jw fC U Z)<|.p (ah ie Z Z cX Z)<|.J Z ?_;obtain ⟨ES,Fu,Es,H4,DZ,Gn,G3,v3,AP,w4,CT,oN⟩:=bz.at (i:=(qu.getD j 0).toNat) ck.slc Of O;refine Ops.p (al jg dX Z v3 (go O) AP)<|.p (ah jc Z Z w4 ((cb oN).trans (c6 O)))<|.p (bx (n:=((Lt.getD ((qu.getD j 0).toNat) [])).length) cQ Z (dO.fr ((qu.getD j 0).toNat) O).slc O (c9 _))<|.J Z<|.nil<|x9<|.block<|.loop (X:=Nat × List Int × List Int × List Bool × Value × Value × Value × List (List Int)) (fun ⟨x,b0,bl,uE,bP,aY,jh,Lt1⟩=>[(2,.pointer (some ⟨b9,0,none⟩)),(4,num ((2 * gn:Nat):Int)),(5,.pointer (some ⟨a1,0,none⟩)),(8,bP),(9,aY),(10,num ((j:Nat):Int)),(11,num (qu.getD j 0)),(69,rw.getD ((qu.getD j 0).toNat) undef),(70,num ((((Lt.getD ((qu.getD j 0).toNat) [])).length:Nat):Int)),(71,num ((x:Nat):Int))]) (fun ⟨x,b0,bl,uE,bP,aY,jh,Lt1⟩ B=>(x<=2 * gn/\BN (2 * gn) L1 W ((il gn rs).map d8) (s8 (2 * gn) (il gn rs)) j Lt en fl qu x Lt1 uE b0 bl)/\A.le B/\Fresh A B bP 1 (cf b0)/\Fresh A B aY 1 (cf bl)/\Fresh A B jh 1 (bQ uE)/\Fresh A B a0 1 (dx rw)/\B.get b9=some (.row true [num ((0:Nat):Int),num ((0:Nat):Int),.slice none 0 0,.slice none 0 0] 4)/\B.get a1=some (.row true [a0,jh] 2)/\V.blk bP ≠ some b9/\V.blk aY ≠ some b9/\V.blk jh ≠ some b9/\V.blk a0 ≠ some b9/\V.blk bP ≠ some a1/\V.blk aY ≠ some a1/\V.blk jh ≠ some a1/\V.blk a0 ≠ some a1/\aL bP aY/\aL bP jh/\aL bP a0/\aL aY jh/\aL aY a0/\aL jh a0/\iZ A B rw Lt1/\cu rw b9/\cu rw a1/\au bP rw/\au aY rw/\au jh rw/\au a0 rw) (fun ⟨x,b0,bl,uE,bP,aY,jh,Lt1⟩=>2 * gn - x) (⟨0,fl,qu,en,fv,qv,kg,Lt⟩) (si Z Z Z Z Z Z Z Z Z Z) (⟨⟨XZ _,BN.start hbo O⟩,hA,iS,eX,e5,ck,eY,cX,h4,h5,ee,e3,gC,gF,e2,dw,hW,hX,hY,hZ,i1,fT,dO,eB,e9,gN,gQ,eE,eG⟩) ?_;rintro ⟨x,b0,bl,uE,bP,aY,jh,Lt1⟩ B214 ⟨⟨hx,hbn⟩,lV,e6,fO,fN,dD,gf,ea,b2,aB,aA,bp,aG,a9,a8,b7,b3,b5,c4,aD,bv,bA,dS,ba,b1,aP,ap,ar,bd⟩;refine ak.wf fun mm=>?_;obtain ⟨HM,HN,HO,HP,HQ⟩:=hbn.lens;obtain ⟨CC,HS,HT⟩:=hbn.facts;refine ak.sq fun xn=>.region<|.p (bK Z Z)<|.nil<|xn<|.sq fun xr=>.if rfl (fun Bm=>?_) (fun Bm=>?_)
  ·refine ak.skip<|xr<|.sq fun iX=>.block<|.sq fun xt=>.region<|.J Z ?_;obtain ⟨ET,Fv,Et,H5,E2,Go,G4,v4,AR,w5,CV,oP⟩:=bz.at (i:=x) (dS.fr ((qu.getD j 0).toNat) O).slc O2 O;refine Ops.p (al cQ cl Z v4 Z AR)<|.p (ah dK Z Z w5 ((cb oP).trans (bJ O)))<|.I Z<|.I Z<|.nil<|xt<|.sq fun xA=>.region<|.I Z<|.nil ?_;refine xA<|.join (fun f A1=>am [(14,num ((yu Lt1 uE b0 bl (qu.getD j 0).toNat x))),(2,.pointer (some ⟨b9,0,none⟩)),(4,num ((2 * gn:Nat):Int)),(5,.pointer (some ⟨a1,0,none⟩)),(8,bP),(9,aY),(10,num ((j:Nat):Int)),(11,num (qu.getD j 0)),(69,rw.getD ((qu.getD j 0).toNat) undef),(70,num ((((Lt.getD ((qu.getD j 0).toNat) [])).length:Nat):Int)),(71,num ((x:Nat):Int)),(72,.bool (decide (x < ((Lt.getD ((qu.getD j 0).toNat) [])).length))),(73,num ((x:Nat):Int)),(75,num (((Lt1.getD ((qu.getD j 0).toNat) [])).getD x 0)),(12,num ((x:Nat):Int)),(13,num (((Lt1.getD ((qu.getD j 0).toNat) [])).getD x 0))] f.e/\f.ds=[]/\B214.le A1/\A1.wf) ?_ ?_
   ·have lS:=AH.le.refl B214;refine ak.sq fun xF=>.region<|.J Z<|.p (MD Z Z)<|.nil<|xF<|.if rfl (fun Bo=>?_) (fun Bo=>?_)
    ·obtain ⟨HF,HG,HH⟩:=hbn.fail ‹_›;refine ak.drawn [0,1,2,3,4,5,6,7,8,9,10,11,12,13] mixed Y Y Z<|.p Z (aK Z)<|.p Z (cW Z)<|.p Z (ae jw fC U Z)<|.p Z (ah ie Z Z ea Z)<|.p Z (aK Z)<|.p Z (aK Z) ?_;obtain ⟨EV,FD,Ev,H6,E3,Gp,G5,v5,AS,w6,D0,oQ⟩:=bz.at (i:=(qu.getD j 0).toNat) e6.slc O2 O;refine DOps.p Z (al cQ cl Z v5 (go O) AS)<|.p Z (ah dK Z Z w6 ((cb oQ).trans (bJ O))) ?_;obtain ⟨EX,FE,Ex,H7,E4,Gq,G6,v6,AT,w7,D1,oR⟩:=bz.at (i:=(b0.getD ((qu.getD j 0).toNat) 0).toNat) dD.slc Of O;refine DOps.p Z (al jg dX Z v6 (go O) AT)<|.p Z (ah jc Z Z w7 ((cb oR).trans (c6 O)))<|.p Z (aK Z) ?_;obtain ⟨EY,FI,Ey,H8,E5,Gs,G7,v7,AV,wc,D2,oS⟩:=bz.at (i:=x) (dS.fr ((b0.getD ((qu.getD j 0).toNat) 0).toNat) O).slc O2 O;refine DOps.p Z (al cQ cl Z v7 Z AV)<|.p Z (ah dK Z Z wc ((cb oS).trans (bJ O)))<|.p Z (d7 Z)<|.done ?_;exact ⟨am.cons (Xk some (by exact XU ‹_› CC))<|am.cons Z<|am.cons Z<|am.cons Z<|am.cons Z<|am.cons Z<|am.cons Z<|am.cons Z<|am.cons Z<|am.cons Z<|am.cons Z<|am.cons Z<|am.cons Z<|am.cons Z<|am.cons Z<|am.cons Z<|am.nil _,Z,lS,mm⟩
    refine ak.skip ?_;exact ⟨am.cons (Xk some (by exact ZZ ‹_›))<|am.cons Z<|am.cons Z<|am.cons Z<|am.cons Z<|am.cons Z<|am.cons Z<|am.cons Z<|am.cons Z<|am.cons Z<|am.cons Z<|am.cons Z<|am.cons Z<|am.cons Z<|am.cons Z<|am.cons Z<|am.nil _,Z,lS,mm⟩
   rintro ⟨fe,fd⟩ A237 ⟨hE,rfl,c3,iH⟩;refine ak.forget hE ?_;have nl:=c3.g gf;have j1:=c3.g ea;have kL:=e6.le c3;have kM:=fO.le c3;have kP:=fN.le c3;have ht:=dD.le c3;have cV:=dS.le c3;have lW:=lV.trans c3;refine ak.sq fun xN=>.sq fun xR=>.region<|.J Z<|.p (iU Z Z)<|.nil<|xR<|.if rfl (fun Bp=>?_) (fun Bp=>?_)
   ·refine ak.sq fun xS=>.region<|.J Z<|.p (cW Z)<|.p (ae jw fC U Z)<|.p (ah ie Z Z j1 Z)<|.J Z ?_;obtain ⟨EZ,FL,Ez,H9,E6,GC,G8,v8,AY,wl,D3,oV⟩:=bz.at (i:=(qu.getD j 0).toNat) ht.slc Of O;refine Ops.p (al jg dX Z v8 (go O) AY)<|.p (ah jc Z Z wl ((cb oV).trans (c6 O)))<|.J Z<|.J Z ?_;obtain ⟨hb,GD,Fl,BD,E7,eN,AZ,wm,Hp,B9,Hg,AA⟩:=cV.at (s:=(qu.getD j 0).toNat) (x:=x) O O;refine Ops.p (al cQ cl Z eN Z (by rw [AZ];omega))<|.m (fun rj=>aU (off:=x) (c':=BD.set x (num ((yu Lt1 uE b0 bl (qu.getD j 0).toNat x)))) iH rfl (by simp) rfl rfl cl wm (by show x + 1<=_;omega) rfl rfl fun A257 cH=>?_);have xT:=cH.k (fun q=>cF ba (s:=(qu.getD j 0).toNat) (by have:=cV.len;omega) (by rw [eN];exact Xk some q.symm)) nl;have xV:=cH.k (fun q=>cF b1 (s:=(qu.getD j 0).toNat) (by have:=cV.len;omega) (by rw [eN];exact Xk some q.symm)) j1;have pF:=kL.keep cH.keep (fun q=>cF aP (s:=(qu.getD j 0).toNat) (by have:=cV.len;omega) hb q (by rw [eN];rfl));have pI:=kM.keep cH.keep (fun q=>cF ap (s:=(qu.getD j 0).toNat) (by have:=cV.len;omega) hb q (by rw [eN];rfl));have pJ:=kP.keep cH.keep (fun q=>cF ar (s:=(qu.getD j 0).toNat) (by have:=cV.len;omega) hb q (by rw [eN];rfl));have pL:=ht.keep cH.keep (fun q=>cF bd (s:=(qu.getD j 0).toNat) (by have:=cV.len;omega) hb q (by rw [eN];rfl));have p8:=AA (((yu Lt1 uE b0 bl (qu.getD j 0).toNat x))) A257 cH;refine rj<|.nil<|xS<|.exit<|iX<|.region<|.p (bk (b:=1) Z Z O)<|.J Z<|.nil ?_;exact ⟨⟨x + 1,b0,bl,uE,bP,aY,jh,Lt1.set ((qu.getD j 0).toNat) ((Lt1.getD ((qu.getD j 0).toNat) []).set x (((yu Lt1 uE b0 bl (qu.getD j 0).toNat x))))⟩,si Z Z Z Z Z Z Z Z Z Z,Z,⟨⟨by omega,by exact hbn.neg O ‹_›⟩,(an lW wf B9 cH.n cH.keep),pF,pI,pJ,pL,xT,xV,b2,aB,aA,bp,aG,a9,a8,b7,b3,b5,c4,aD,bv,bA,p8,ba,b1,aP,ap,ar,bd⟩,O1⟩
   refine ak.skip<|xN<|.sq fun y0=>?_;obtain ⟨HV,HW⟩:=hbn.to (show x < 2 * gn by omega);have HR:=hbn.met (show x < 2 * gn by omega);refine ak.region<|.J Z<|.J Z<|.J Z ?_;obtain ⟨he,GE,Fm,BL,E9,eQ,o4,wp,Hq,Ba,Hh,AB⟩:=kL.at1 (x:=(((Lt1.getD ((qu.getD j 0).toNat) [])).getD x 0).toNat) O2;rw [aj] at o4;refine Ops.p (al cQ cl Z eQ (go O) (by rw [o4];omega))<|.m (fun rr=>aU (off:=(((Lt1.getD ((qu.getD j 0).toNat) [])).getD x 0).toNat) (c':=BL.set ((((Lt1.getD ((qu.getD j 0).toNat) [])).getD x 0).toNat) (num ((yu Lt1 uE b0 bl (qu.getD j 0).toNat x)))) iH rfl (by simp) rfl rfl cl wp (by show ((((Lt1.getD ((qu.getD j 0).toNat) [])).getD x 0).toNat) + 1<=_;omega) rfl rfl fun A271 bD=>?_);have nn:=bD.k (fun q=>b2 (by rw [eQ];exact Xk some q.symm)) nl;have gc:=bD.k (fun q=>aG (by rw [eQ];exact Xk some q.symm)) j1;have kT:=kM.keep bD.keep (b3 he (by rw [eQ];rfl));have g6:=kP.keep bD.keep (b5 he (by rw [eQ];rfl));have kV:=ht.keep bD.keep (c4 he (by rw [eQ];rfl));have k4:=cV.keep bD.keep (fun r hr=>aP r hr he (by rw [eQ];rfl));have hv:=AB (num ((yu Lt1 uE b0 bl (qu.getD j 0).toNat x))) A271 bD;rw [dp] at hv;have lX:=an lW wf Ba bD.n bD.keep;refine rr<|.nil<|y0<|.sq fun nq=>.drawn [0,1,2,3,4,5,6,7,8,9,10,11,12,13,14,15,16,17,18,19,20,21,22] mixed Y Y Z<|.p Z (aK Z)<|.p Z (cW Z)<|.p Z (ae np gV U Z)<|.p Z (ah io Z Z gc Z)<|.p Z (aK Z) ?_;refine DOps.p Z (aK Z)<|.p Z (cW Z)<|.p Z (ae np gV U Z)<|.p Z (ah io Z Z gc Z)<|.p Z (aK Z) ?_;obtain ⟨F0,FM,EA,Ha,Ea,GF,G9,v9,B0,wv,Dd,oW⟩:=bz.at (i:=(((Lt1.getD ((qu.getD j 0).toNat) [])).getD x 0).toNat) g6.slc Oj O;refine DOps.p Z (al jQ kN Z v9 (go O) B0)<|.p Z (ah um Z Z wv ((cb oW).trans (dC O)))<|.p Z (aK Z)<|.partB (t:=119) Z (fun Br=>?_) (fun Br=>?_)
   ·refine DOps.qOff Z Z Z Z Z Z<|.qOff Z Z Z Z Z Z<|.qOff Z Z Z Z Z Z<|.qOff Z Z Z Z Z Z<|.qOff Z Z Z Z Z Z<|.qOff Z Z Z Z Z Z<|.qOff Z Z Z Z Z Z<|.p Z (aJ Z Z) ?_;obtain ⟨hf,GG,Fn,BM,Eb,eR,oi,wy,Hr,Bb,Hi,AC⟩:=g6.at1 (x:=(((Lt1.getD ((qu.getD j 0).toNat) [])).getD x 0).toNat) Oj;rw [bi] at oi;refine DOps.p Z (al jQ kN Z eR (go O) (by rw [oi];omega))<|.m Z (fun rI=>aU (off:=(((Lt1.getD ((qu.getD j 0).toNat) [])).getD x 0).toNat) (c':=BM.set ((((Lt1.getD ((qu.getD j 0).toNat) [])).getD x 0).toNat) (.bool (true))) bD.wf rfl (by simp) rfl rfl kN wy (by show ((((Lt1.getD ((qu.getD j 0).toNat) [])).getD x 0).toNat) + 1<=_;omega) rfl rfl fun A290 bL=>?_);have y1:=bL.k (fun q=>aA (by rw [eR];exact Xk some q.symm)) nn;have y2:=bL.k (fun q=>a8 (by rw [eR];exact Xk some q.symm)) gc;have pP:=hv.keep bL.keep ((aL.symm b5) hf (by rw [eR];rfl));have pS:=kT.keep bL.keep ((aL.symm aD) hf (by rw [eR];rfl));have pV:=kV.keep bL.keep (bA hf (by rw [eR];rfl));have k6:=k4.keep bL.keep (fun r hr=>ar r hr hf (by rw [eR];rfl));have l0:=AC (.bool (true)) A290 bL;rw [my] at l0;refine rI (bg.none Y)<|.done<|nq<|.region<|.J Z<|.J Z<|.m (fun rJ=>aE (c:=[num (((Lt1.getD ((qu.getD j 0).toNat) [])).getD x 0)]) bL.wf rfl (aq cQ cl z3 rfl U U rfl) fun A302 F2 ay=>?_);have DD:=k6.ne_new bL.wf ay.lo;have nv:=ay.le.g y1;have nB:=ay.le.g y2;have l1:=pP.le ay.le;have l4:=pS.le ay.le;have l6:=l0.le ay.le;have l7:=pV.le ay.le;have k7:=k6.le ay.le;have sv:=(an lX wf Bb bL.n bL.keep).trans ay.le;refine rJ<|.m (fun rR=>cm (ys:=[num (((Lt1.getD ((qu.getD j 0).toNat) [])).getD x 0)]) rfl rfl cQ cl jq z3 rfl U cQ (fun _ h=>by cases h) l4.own (bG (n:=1) ay.get Z) rfl rfl (by show (_ + _) * 8<=_;simp only [aj,Xq,Xx];(try simp only [Xz,Xq,Xx]);omega) O3 fun A318 BU aR=>?_);rw [show ([num (((Lt1.getD ((qu.getD j 0).toNat) [])).getD x 0)]:List Value)=cf [((Lt1.getD ((qu.getD j 0).toNat) [])).getD x 0] from rfl,cJ] at aR;obtain ⟨pW,sz⟩:=Fresh.grow l4 sv wf aR;have y3:=aR.keep aB nv;have sV:=aR.ne aB ay.wf nv;have y4:=aR.keep a9 nB;have sZ:=aR.ne a9 ay.wf nB;have tI:=aL.appd (show aL aY bP from (aL.symm b3)) l1.own ay.wf aR;have q0:=l1.appd aR (aL.symm b3);have tJ:=aL.appd (show aL aY jh from aD) l6.own ay.wf aR;have q1:=l6.appd aR aD;have tO:=aL.appd (show aL aY a0 from bv) l7.own ay.wf aR;have q2:=l7.appd aR bv;have tS:=au.appd (show au aY rw from ap) k7 ay.wf aR;have p9:=k7.appd aR (show au aY rw from ap);refine rR<|.I Z<|.nil<|iX<|.region<|.p (bk (b:=1) Z Z O)<|.J Z<|.nil ?_;exact ⟨⟨x + 1,b0.set ((((Lt1.getD ((qu.getD j 0).toNat) [])).getD x 0).toNat) (((yu Lt1 uE b0 bl (qu.getD j 0).toNat x))),bl ++ [((Lt1.getD ((qu.getD j 0).toNat) [])).getD x 0],uE.set ((((Lt1.getD ((qu.getD j 0).toNat) [])).getD x 0).toNat) true,bP,BU,jh,Lt1⟩,si Z Z Z Z Z Z Z Z Z Z,Z,⟨⟨by omega,by exact hbn.pos O ‹_› (by rw [‹uE.getD ((Lt1.getD (qu.getD j 0).toNat []).getD x 0).toNat false=true›];rfl)⟩,sz,q0,pW,q1,q2,y3,y4,b2,sV,aA,bp,aG,sZ,a8,b7,(aL.symm tI),b5,c4,tJ,tO,bA,p9,ba,b1,aP,tS,ar,bd⟩,O1⟩
   refine DOps.qOn Z Z Z Z Z (aK Z)<|.qOn Z Z Z Z Z (cW Z)<|.qOn Z Z Z Z Z (ae np gV U Z)<|.qOn Z Z Z Z Z (ah io Z Z gc Z)<|.qOn Z Z Z Z Z (aK Z) ?_;obtain ⟨F3,FN,EB,Hb,Ec,GL,Gc,vC,B2,wz,Dg,oX⟩:=bz.at (i:=((yu Lt1 uE b0 bl (qu.getD j 0).toNat x)).toNat) g6.slc Oj O;refine DOps.qOn Z Z Z Z Z (al jQ kN Z vC (go O) B2)<|.qOn Z Z Z Z Z (ah um Z Z wz ((cb oX).trans (dC O)))<|.p Z (aO Z Z) ?_;obtain ⟨hh,GM,Fo,BP,Ee,eS,oj,wC,Hs,Bc,Hj,AD⟩:=g6.at1 (x:=(((Lt1.getD ((qu.getD j 0).toNat) [])).getD x 0).toNat) Oj;rw [bi] at oj;refine DOps.p Z (al jQ kN Z eS (go O) (by rw [oj];omega))<|.m Z (fun rS=>aU (off:=(((Lt1.getD ((qu.getD j 0).toNat) [])).getD x 0).toNat) (c':=BP.set ((((Lt1.getD ((qu.getD j 0).toNat) [])).getD x 0).toNat) (.bool (uE.getD (((yu Lt1 uE b0 bl (qu.getD j 0).toNat x)).toNat) false))) bD.wf rfl (by simp) rfl rfl kN wC (by show ((((Lt1.getD ((qu.getD j 0).toNat) [])).getD x 0).toNat) + 1<=_;omega) rfl rfl fun A342 bM=>?_);have y5:=bM.k (fun q=>aA (by rw [eS];exact Xk some q.symm)) nn;have y6:=bM.k (fun q=>a8 (by rw [eS];exact Xk some q.symm)) gc;have q3:=hv.keep bM.keep ((aL.symm b5) hh (by rw [eS];rfl));have q4:=kT.keep bM.keep ((aL.symm aD) hh (by rw [eS];rfl));have q5:=kV.keep bM.keep (bA hh (by rw [eS];rfl));have k9:=k4.keep bM.keep (fun r hr=>ar r hr hh (by rw [eS];rfl));have l9:=AD (.bool (uE.getD (((yu Lt1 uE b0 bl (qu.getD j 0).toNat x)).toNat) false)) A342 bM;rw [my] at l9;refine rS (bg.none Y)<|.done<|nq<|.region<|.J Z<|.J Z<|.m (fun rT=>aE (c:=[num (((Lt1.getD ((qu.getD j 0).toNat) [])).getD x 0)]) bM.wf rfl (aq cQ cl z3 rfl U U rfl) fun A354 F4 az=>?_);have DG:=k9.ne_new bM.wf az.lo;have nC:=az.le.g y5;have nD:=az.le.g y6;have la:=q3.le az.le;have lb:=q4.le az.le;have lc:=l9.le az.le;have li:=q5.le az.le;have kc:=k9.le az.le;have sB:=(an lX wf Bc bM.n bM.keep).trans az.le;refine rT<|.m (fun rV=>cm (ys:=[num (((Lt1.getD ((qu.getD j 0).toNat) [])).getD x 0)]) rfl rfl cQ cl jq z3 rfl U cQ (fun _ h=>by cases h) lb.own (bG (n:=1) az.get Z) rfl rfl (by show (_ + _) * 8<=_;simp only [aj,Xq,Xx];(try simp only [Xz,Xq,Xx]);omega) O3 fun A370 BV aS=>?_);rw [show ([num (((Lt1.getD ((qu.getD j 0).toNat) [])).getD x 0)]:List Value)=cf [((Lt1.getD ((qu.getD j 0).toNat) [])).getD x 0] from rfl,cJ] at aS;obtain ⟨q6,sD⟩:=Fresh.grow lb sB wf aS;have y7:=aS.keep aB nC;have t0:=aS.ne aB az.wf nC;have y8:=aS.keep a9 nD;have t1:=aS.ne a9 az.wf nD;have tT:=aL.appd (show aL aY bP from (aL.symm b3)) la.own az.wf aS;have q7:=la.appd aS (aL.symm b3);have tW:=aL.appd (show aL aY jh from aD) lc.own az.wf aS;have q8:=lc.appd aS aD;have tY:=aL.appd (show aL aY a0 from bv) li.own az.wf aS;have q9:=li.appd aS bv;have tZ:=au.appd (show au aY rw from ap) kc az.wf aS;have pa:=kc.appd aS (show au aY rw from ap);refine rV<|.I Z<|.nil<|iX<|.region<|.p (bk (b:=1) Z Z O)<|.J Z<|.nil ?_;exact ⟨⟨x + 1,b0.set ((((Lt1.getD ((qu.getD j 0).toNat) [])).getD x 0).toNat) (((yu Lt1 uE b0 bl (qu.getD j 0).toNat x))),bl ++ [((Lt1.getD ((qu.getD j 0).toNat) [])).getD x 0],uE.set ((((Lt1.getD ((qu.getD j 0).toNat) [])).getD x 0).toNat) (uE.getD (((yu Lt1 uE b0 bl (qu.getD j 0).toNat x)).toNat) false),bP,BV,jh,Lt1⟩,si Z Z Z Z Z Z Z Z Z Z,Z,⟨⟨by omega,by exact hbn.pos O ‹_› (by rw [‹uE.getD ((Lt1.getD (qu.getD j 0).toNat []).getD x 0).toNat false=false›,Bool.false_or])⟩,sD,q7,q6,q8,q9,y7,y8,b2,t0,aA,bp,aG,t1,a8,b7,(aL.symm tT),b5,c4,tW,tY,bA,pa,ba,b1,aP,tZ,ar,bd⟩,O1⟩
  refine ak.exit<|x7<|.region<|.J Z<|.p (bk (b:=1) Z Z O)<|.I Z<|.nil ?_;exact ⟨⟨j + 1,b0,bl,uE,bP,aY,jh,Lt1⟩,yA Z Z Z Z Z Z,Z,⟨BO.next hbn O,lV,e6,fO,fN,dD,gf,ea,b2,aB,aA,bp,aG,a9,a8,b7,b3,b5,c4,aD,bv,bA,dS,ba,b1,aP,ap,ar,bd⟩,O1⟩
 refine ak.exit<|x3<|.sq fun y9=>?_;obtain ⟨hR,hAh⟩:=hbo.fin' O;have hpw:=hAh.pos;refine ak.region<|.J Z<|.p (dn Z (bE YB yp Eo Z))<|.m (fun rW=>co ez yp rfl fun A393 bu aT=>?_);have dZ:=ne_new ez eY aT.lo;have dv:=ne_new ez cX aT.lo;have m2:=e5.own.ne_new ez aT.lo;have m3:=ck.own.ne_new ez aT.lo;have mb:=dO.ne_new ez aT.lo;have fo:=bh wf (Xj hA.n aT.lo);have pc:=dO.le aT.le;refine rW<|.m (fun s0=>aU (cs:=[num ((2 * gn:Nat):Int),num ((0:Nat):Int),.slice none 0 0,.slice none 0 0]) (c':=[num ((2 * gn:Nat):Int),num ((0:Nat):Int),.slice none 0 0,.slice none 0 0]) aT.wf rfl rfl rfl rfl gr aT.get G rfl rfl fun A409 d0=>?_);have yt:=d0.k dZ (aT.le.g eY);have nE:=d0.k dv (aT.le.g cX);have qa:=(e5.le aT.le).keep d0.keep m2;have lj:=(ck.le aT.le).keep d0.keep m3;have pe:=pc.keep d0.keep mb;have sF:=an (hA.trans aT.le) wf fo d0.n d0.keep;refine s0<|.nil<|y9<|.sq fun yS=>.sq fun yT=>.region<|.J Z<|.p (cW Z)<|.p (ae jw fC U Z)<|.p (ah ie Z Z nE Z) ?_;refine Ops.p (bx (n:=rw.length) jg Z lj.slc O (fp _))<|.J Z<|.nil<|yT<|.block<|.loop (X:=Nat × List Value × List Bool × Value × Value × List (List Int)) (fun ⟨s,hd,ac,a5,aC,Lc⟩=>[(2,.pointer (some ⟨b9,0,none⟩)),(5,.pointer (some ⟨a1,0,none⟩)),(15,.pointer (some ⟨bu,0,none⟩)),(139,a0),(140,num ((rw.length:Nat):Int)),(141,num ((s:Nat):Int))]) (fun ⟨s,hd,ac,a5,aC,Lc⟩ B=>(s<=rw.length/\Lc=og en Lt s 0/\hd=rw.take s/\ac=(en.take s).map (fun e=>!e))/\A.le B/\Fresh A B a5 1 (bQ ac)/\Fresh A B aC 1 (dx hd)/\Fresh A B kg 1 (bQ en)/\Fresh A B a0 1 (dx rw)/\B.get b9=some (.row true [num ((0:Nat):Int),num ((0:Nat):Int),.slice none 0 0,.slice none 0 0] 4)/\B.get a1=some (.row true [a0,kg] 2)/\B.get bu=some (.row true [num ((2 * gn:Nat):Int),num ((0:Nat):Int),a5,aC] 4)/\V.blk a5 ≠ some b9/\V.blk aC ≠ some b9/\V.blk kg ≠ some b9/\V.blk a0 ≠ some b9/\V.blk a5 ≠ some a1/\V.blk aC ≠ some a1/\V.blk kg ≠ some a1/\V.blk a0 ≠ some a1/\V.blk a5 ≠ some bu/\V.blk aC ≠ some bu/\V.blk kg ≠ some bu/\V.blk a0 ≠ some bu/\aL a5 aC/\aL a5 kg/\aL a5 a0/\aL aC kg/\aL aC a0/\aL kg a0/\iZ A B rw Lc/\cu rw b9/\cu rw a1/\cu rw bu/\au a5 rw/\au aC rw/\au kg rw/\au a0 rw) (fun ⟨s,hd,ac,a5,aC,Lc⟩=>rw.length - s) (⟨0,[],[],.slice none 0 0,.slice none 0 0,Lt⟩) (yA Z Z Z Z Z Z) (⟨⟨XZ _,GJ.symm,by simp,by simp⟩,sF,(Fresh.nil A A409 1),(Fresh.nil A A409 1),qa,lj,yt,nE,d0.get,(fun q=>by cases q),(fun q=>by cases q),ee,e3,(fun q=>by cases q),(fun q=>by cases q),e2,dw,(fun q=>by cases q),(fun q=>by cases q),m2,m3,aL.nil,aL.nil,aL.nil,aL.nil,aL.nil,fT,pe,eB,e9,mb,au.nil,au.nil,eE,eG⟩) ?_;rintro ⟨s,hd,ac,a5,aC,Lc⟩ B424 ⟨⟨HU,hLc,hhd,hac⟩,dW,fM,e7,hk,f0,cS,fQ,cv,gA,gD,g0,g1,fV,fX,fI,fL,fD,fE,f7,f9,i2,ih,it,iv,iD,iF,dV,eC,ge,fU,gP,gS,gX,gY⟩;refine ak.wf fun mt=>?_;have hcl:Lc.length=Lt.length:=by rw [hLc];exact De
 have hhl:hd.length=s:=by rw [hhd,Vz];omega
 have hacl:ac.length=s:=by rw [hac,Tq,Vz];omega
 refine ak.sq fun z0=>.region<|.p (bK Z Z)<|.nil<|z0<|.sq fun z1=>.if rfl (fun Bs=>?_) (fun Bs=>?_)
 ·refine ak.skip<|z1<|.sq fun z2=>.block<|.sq fun zi=>.region<|.J Z ?_;obtain ⟨F6,FO,EC,Hc,Eg,GN,Gd,vS,B3,wF,Di,oY⟩:=bz.at (i:=s) f0.slc Of O;refine Ops.p (al jg dX Z vS Z B3)<|.p (ah jc Z Z wF ((cb oY).trans (c6 O)))<|.I Z<|.I Z<|.nil<|zi<|.sq fun zs=>.sq fun zI=>.region<|.J Z ?_;refine Ops.p (bx (n:=((Lc.getD s [])).length) cQ Z (dV.fr s O).slc O (c9 _))<|.J Z<|.nil<|zI<|.block ?_;have hrs:(Lt.getD s []).length=2 * gn:=hAh.row s O;have G0:(Lc.getD s []).length=2 * gn:=by rw [hLc,te O,Df];exact hrs
  refine ak.loop (X:=Nat × List (List Int)) (fun ⟨y,Lc1⟩=>[(2,.pointer (some ⟨b9,0,none⟩)),(5,.pointer (some ⟨a1,0,none⟩)),(15,.pointer (some ⟨bu,0,none⟩)),(16,num ((s:Nat):Int)),(17,rw.getD s undef),(139,a0),(140,num ((rw.length:Nat):Int)),(141,num ((s:Nat):Int)),(146,rw.getD s undef),(147,num ((((Lc.getD s [])).length:Nat):Int)),(148,num ((y:Nat):Int))]) (fun ⟨y,Lc1⟩ B=>(y<=2 * gn/\Lc1=og en Lt s y)/\A.le B/\Fresh A B a5 1 (bQ ac)/\Fresh A B aC 1 (dx hd)/\Fresh A B kg 1 (bQ en)/\Fresh A B a0 1 (dx rw)/\B.get b9=some (.row true [num ((0:Nat):Int),num ((0:Nat):Int),.slice none 0 0,.slice none 0 0] 4)/\B.get a1=some (.row true [a0,kg] 2)/\B.get bu=some (.row true [num ((2 * gn:Nat):Int),num ((0:Nat):Int),a5,aC] 4)/\V.blk a5 ≠ some b9/\V.blk aC ≠ some b9/\V.blk kg ≠ some b9/\V.blk a0 ≠ some b9/\V.blk a5 ≠ some a1/\V.blk aC ≠ some a1/\V.blk kg ≠ some a1/\V.blk a0 ≠ some a1/\V.blk a5 ≠ some bu/\V.blk aC ≠ some bu/\V.blk kg ≠ some bu/\V.blk a0 ≠ some bu/\aL a5 aC/\aL a5 kg/\aL a5 a0/\aL aC kg/\aL aC a0/\aL kg a0/\iZ A B rw Lc1/\cu rw b9/\cu rw a1/\cu rw bu/\au a5 rw/\au aC rw/\au kg rw/\au a0 rw) (fun ⟨y,Lc1⟩=>2 * gn - y) (⟨0,Lc⟩) (uF Z Z Z Z Z Z Z Z Z Z Z) (⟨⟨XZ _,hLc⟩,dW,fM,e7,hk,f0,cS,fQ,cv,gA,gD,g0,g1,fV,fX,fI,fL,fD,fE,f7,f9,i2,ih,it,iv,iD,iF,dV,eC,ge,fU,gP,gS,gX,gY⟩) ?_;rintro ⟨y,Lc1⟩ B441 ⟨⟨hy,fq⟩,hB,dz,dI,ch,dG,eZ,cZ,cC,bm,br,c7,cc,b6,b8,bR,bS,ad,aV,ag,ai,d2,d3,dd,di,dj,ek,a2,bT,bB,a7,bb,bc,bU,bV⟩;refine ak.wf fun hO=>?_;have FV:Lc1.length=Lt.length:=by rw [fq];exact De
  have hrc:(Lc1.getD s []).length=2 * gn:=by rw [fq,te O,Df];exact hrs
  have hce:=fun q:y < 2 * gn=>(show (Lc1.getD s []).getD y 0=(Lt.getD s []).getD y 0 by rw [fq];exact KS O O);have hca:=fun q:y < 2 * gn=>hAh.at (s:=s) (x:=y) O q;refine ak.sq fun zS=>.region<|.p (bK Z Z)<|.nil<|zS<|.sq fun zV=>.if rfl (fun Bt=>?_) (fun Bt=>?_)
  ·refine ak.skip<|zV<|.sq fun nH=>.block<|.sq fun A6=>.region<|.J Z ?_;obtain ⟨F7,FQ,EE,Hd,Ek,GP,Ge,vX,B4,wL,Dj,oZ⟩:=bz.at (i:=y) (a2.fr s O).slc O2 O;refine Ops.p (al cQ cl Z vX Z B4)<|.p (ah dK Z Z wL ((cb oZ).trans (bJ O)))<|.I Z<|.I Z<|.nil<|A6<|.sq fun A7=>?_;obtain ⟨HC,HD⟩:=hca O;have HE:=hce O;refine ak.region<|.J Z<|.p (cW Z)<|.p (ae np gV U Z)<|.p (ah io Z Z cZ Z)<|.J Z ?_;obtain ⟨F9,FS,EG,He,El,GQ,Gf,vZ,B5,wM,Do,p0⟩:=bz.at (i:=(((Lc1.getD s [])).getD y 0).toNat) ch.slc Oj O;refine Ops.p (al jQ kN Z vZ (go O) B5)<|.p (ah um Z Z wM ((cb p0).trans (dC O)))<|.nil<|A7<|.ifB Z (fun Bu=>?_) (fun Bu=>?_)
   ·refine ak.region<|.J Z<|.J Z ?_;obtain ⟨hj,GS,Fq,BR,Em,e4,B6,wP,Ht,Bd,Hk,AF⟩:=a2.at (s:=s) (x:=y) O O;refine Ops.p (al cQ cl Z e4 Z (by rw [B6];omega))<|.m (fun s1=>aU (off:=y) (c':=BR.set y (num (-1))) hO rfl (by simp) rfl rfl cl wP (by show y + 1<=_;omega) rfl rfl fun A459 bY=>?_);have A8:=bY.k (fun q=>cF bT (s:=s) (by have:=a2.len;omega) (by rw [e4];exact Xk some q.symm)) eZ;have A9:=bY.k (fun q=>cF bB (s:=s) (by have:=a2.len;omega) (by rw [e4];exact Xk some q.symm)) cZ;have Aa:=bY.k (fun q=>cF a7 (s:=s) (by have:=a2.len;omega) (by rw [e4];exact Xk some q.symm)) cC;have qb:=dz.keep bY.keep (fun q=>cF bb (s:=s) (by have:=a2.len;omega) hj q (by rw [e4];rfl));have qd:=dI.keep bY.keep (fun q=>cF bc (s:=s) (by have:=a2.len;omega) hj q (by rw [e4];rfl));have qp:=ch.keep bY.keep (fun q=>cF bU (s:=s) (by have:=a2.len;omega) hj q (by rw [e4];rfl));have qr:=dG.keep bY.keep (fun q=>cF bV (s:=s) (by have:=a2.len;omega) hj q (by rw [e4];rfl));have pf:=AF ((-1)) A459 bY;have sN:=an hB wf Bd bY.n bY.keep;refine s1<|.nil<|nH<|.region<|.p (bk (b:=1) Z Z O)<|.J Z<|.nil ?_;exact ⟨⟨y + 1,Lc1.set s ((Lc1.getD s []).set y ((-1)))⟩,uF Z Z Z Z Z Z Z Z Z Z Z,Z,⟨⟨by omega,by (rw [fq];exact Pk O O (by rw [<- hce O];assumption))⟩,sN,qb,qd,qp,qr,A8,A9,Aa,bm,br,c7,cc,b6,b8,bR,bS,ad,aV,ag,ai,d2,d3,dd,di,dj,ek,pf,bT,bB,a7,bb,bc,bU,bV⟩,O1⟩
   refine ak.skip<|nH<|.region<|.p (bk (b:=1) Z Z O)<|.J Z<|.nil ?_;exact ⟨⟨y + 1,Lc1⟩,uF Z Z Z Z Z Z Z Z Z Z Z,Z,⟨⟨by omega,by (rw [fq];exact Vb O O (by rw [<- hce O];assumption))⟩,hB,dz,dI,ch,dG,eZ,cZ,cC,bm,br,c7,cc,b6,b8,bR,bS,ad,aV,ag,ai,d2,d3,dd,di,dj,ek,a2,bT,bB,a7,bb,bc,bU,bV⟩,O1⟩
  refine ak.exit<|zs<|.sq fun Ab=>?_;obtain ⟨hU,hT,hP,hsh,_⟩:=(a2.fr s O).own.slice;rw [hsh];refine ak.region<|.p (ae eF fC U Z)<|.p (ah ie Z Z cC Z)<|.J Z<|.m (fun s2=>aE (c:=[.slice hU hT hP]) hO rfl (aq jg dX Gi rfl U U rfl) fun A474 Fd a6=>?_);have DI:=a2.ne_new hO a6.lo;have nJ:=a6.le.g eZ;have nK:=a6.le.g cZ;have nL:=a6.le.g cC;have lp:=dz.le a6.le;have lt:=dI.le a6.le;have lA:=ch.le a6.le;have lB:=dG.le a6.le;have kl:=a2.le a6.le;refine s2<|.m (fun s3=>cm (ys:=[.slice hU hT hP]) rfl rfl jg dX xb Gi rfl U jg (fun _ h=>by cases h) lt.own (bG (n:=1) a6.get Z) rfl rfl (by show (_ + _) * 24<=_;simp only [bw,Xq,Xx];(try simp only [Xz,Xq,Xx]);omega) OF fun A491 Hm aa=>?_);rw [show ([.slice hU hT hP]:List Value)=dx [Value.slice hU hT hP] from rfl,lx] at aa;obtain ⟨lC,sP⟩:=Fresh.grow lt (hB.trans a6.le) wf aa;have t2:=aa.ne br a6.wf nJ;have t3:=aa.ne b8 a6.wf nK;have hI:=aa.ne aV a6.wf nL;have me:=aL.appd (show aL aC a5 from (aL.symm d2)) lp.own a6.wf aa;have u0:=aL.appd (show aL aC kg from di) lA.own a6.wf aa;have u1:=aL.appd (show aL aC a0 from dj) lB.own a6.wf aa;have u8:=au.appd (show au aC rw from bc) kl a6.wf aa;have pi:=kl.appd aa (show au aC rw from bc);refine s3<|.p (ae eF fC U Z) ?_;obtain ⟨gG,gg,g9,By,_⟩:=lC.own.slice;subst By;refine Ops.m (fun s4=>aU (cs:=[.slice gG gg g9]) (c':=[num ((2 * gn:Nat):Int),num ((0:Nat):Int),a5,.slice gG gg g9]) aa.wf rfl rfl rfl rfl fC (aa.keep aV nL) G rfl rfl fun A514 aZ=>?_);have nM:=aZ.k dv (aa.keep b8 nK);have qA:=(lp.appd aa (aL.symm d2)).keep aZ.keep ad;have lE:=(lA.appd aa di).keep aZ.keep ag;have qB:=(lB.appd aa dj).keep aZ.keep ai;have km:=pi.keep aZ.keep a7;refine s4<|.nil<|Ab<|.drawn [0,1,2,3,4,5,6,7,8,9,10,11,12,13] mixed Y Y Z<|.p Z (ae ip gV U Z) ?_;have r1:=cR (off:=2) aZ.get (show _=some (a5) from rfl);refine DOps.p Z (ah io Z Z aZ.get Z)<|.p Z (aK Z)<|.p Z (cW Z)<|.p Z (ae np gV U Z)<|.p Z (ah io Z Z nM Z)<|.p Z (aK Z) ?_;obtain ⟨Fe,FT,EK,Hf,En,H0,Gg,w0,B7,wS,Ds,p3⟩:=bz.at (i:=s) lE.slc Oj O;refine DOps.p Z (al jQ kN Z w0 Z B7)<|.p Z (ah um Z Z wS ((cb p3).trans (dC O)))<|.p Z (ff Z)<|.m Z (fun s5=>aE (c:=[.bool (!(en.getD s false))]) aZ.wf rfl (aq jQ kN z4 rfl U U rfl) fun A530 Fi a4=>?_);have DJ:=km.ne_new aZ.wf a4.lo;have nN:=a4.le.g (aZ.k dZ (aa.keep br nJ));have nO:=a4.le.g nM;have nQ:=a4.le.g aZ.get;have lF:=qA.le a4.le;have lI:=lE.le a4.le;have lJ:=qB.le a4.le;have lK:=(lC.keep aZ.keep hI).le a4.le;have kp:=km.le a4.le;have r2:=bI a4.le r1;have sQ:=(an sP wf fo aZ.n aZ.keep).trans a4.le;refine s5 (bg.list (L:=[(⟨bu,2,none⟩,a5)]) Y (bf r2 bX))<|.m Z (fun s6=>cm (ys:=[.bool (!(en.getD s false))]) rfl rfl jQ kN DB z4 rfl U jQ (fun _ h=>by cases h) lF.own (bG (n:=1) a4.get Z) rfl rfl (by show (_ + _) * 1<=_;simp only [bi,Xq,Xx];(try simp only [Xz,Xq,Xx]);omega) Oy fun A550 Hn ab=>?_);rw [show ([.bool (!(en.getD s false))]:List Value)=bQ [!(en.getD s false)] from rfl,jd] at ab;obtain ⟨lO,sR⟩:=Fresh.grow lF sQ wf ab;have t4:=ab.ne bm a4.wf nN;have t5:=ab.ne b6 a4.wf nO;have lY:=ab.ne ad a4.wf nQ;have ub:=aL.appd (show aL a5 kg from d3) lI.own a4.wf ab;have ui:=aL.appd (show aL a5 a0 from dd) lJ.own a4.wf ab;have up:=aL.appd (show aL a5 (.slice gG gg g9) from (aL.symm me)) lK.own a4.wf ab;have us:=au.appd (show au a5 rw from bb) kp a4.wf ab;have pj:=kp.appd ab (show au a5 rw from bb);refine s6 (bg.none Y)<|.p Z (ae ip gV U Z) ?_;obtain ⟨k0,j4,iN,BA,_⟩:=lO.own.slice;subst BA;refine DOps.m Z (fun sb=>aU (cs:=[.slice k0 j4 iN]) (c':=[num ((2 * gn:Nat):Int),num ((0:Nat):Int),.slice k0 j4 iN,.slice gG gg g9]) ab.wf rfl rfl rfl rfl gV (ab.keep ad nQ) G rfl rfl fun A574 c0=>?_);have Ac:=c0.k dZ (ab.keep bm nN);have Ad:=c0.k dv (ab.keep b6 nO);have qD:=(lI.appd ab d3).keep c0.keep ag;have qN:=(lJ.appd ab dd).keep c0.keep ai;have qP:=(lK.appd ab (aL.symm me)).keep c0.keep hI;have qR:=lO.keep c0.keep lY;have pl:=pj.keep c0.keep a7;have sS:=an sR wf fo c0.n c0.keep;refine sb (bg.none Y)<|.done<|z2<|.region<|.p (bk (b:=1) Z Z O)<|.J Z<|.nil ?_;exact ⟨⟨s + 1,hd ++ [Value.slice hU hT hP],ac ++ [!(en.getD s false)],.slice k0 j4 iN,.slice gG gg g9,Lc1⟩,yA Z Z Z Z Z Z,Z,⟨⟨by omega,by rw [fq,show y=(Lt.getD s []).length by omega];exact KU O O,by rw [hhd,<- hsh];exact fP O,by rw [hac];exact Md O⟩,sS,qR,qP,qD,qN,Ac,Ad,c0.get,t4,t2,c7,cc,t5,t3,bR,bS,lY,hI,ag,ai,up,ub,ui,u0,u1,ek,pl,bT,bB,a7,us,u8,bU,bV⟩,O1⟩
 refine ak.exit<|yS<|.sq fun Af=>.sq fun Ag=>.region<|.p (ae eF fC U Z)<|.p (ah ie Z Z cv Z)<|.p (bx (n:=hd.length) jg Z e7.slc O (fp _))<|.p (ej (b:=20000) Z Z)<|.nil ?_;refine Ag<|.if rfl (fun Bv=>?_) (fun Bv=>?_)
 ·refine ak.sq fun FU=>?_;exfalso;omega
 refine ak.skip<|Af<|.sq fun Ai=>.region<|.p (ao jA gr Z Z cv Z) ?_;have Ap:hd=rw:=by rw [hhd,Vw O]
 have j2:Lc=Lt.map (ew en):=by rw [hLc];exact Ph O
 have j3:ac=en.map (fun e=>!e):=by rw [hac,Vw O]
 have hao:n0 (2 * gn) ac Lc:=by rw [j2,j3];exact Ol hAh O O
 refine Ops.m (fun sf=>ax Z (S8 (2 * gn) ac Lc a5 aC hd B424 O hao fM.slc e7.slc O (fun i hi=>by rw [Ap];exact (dV.fr i hi).slc)) ?_);rintro Ho A595 ⟨BY,C0,C1,rfl,gp,oI,fm,fn,em,h8,h9,ha⟩;have pp:=dV.le gp;have xa:=fm;have xv:=fn;have xf:=em;have HX:=h8;have HY:=h9;have HZ:=ha;have tt:=em.ne cS;have DO:=em.ne fQ;have DS:=em.ne cv;refine sf<|.p (bj Z Z)<|.p (bj Z Z) ?_;obtain ⟨oz,ov,mM,BB,_⟩:=(fm.base dW).own.slice;subst BB;obtain ⟨oF,ow,mT,BC,_⟩:=(fn.base dW).own.slice;subst BC;refine Ops.m (fun sr=>aU (cs:=[num ((2 * gn:Nat):Int),num ((0:Nat):Int),.slice oz ov mM,.slice oF ow mT]) (c':=[num ((2 * gn:Nat):Int),num ((0:Nat):Int),.slice oz ov mM,.slice oF ow mT]) oI rfl rfl rfl rfl gr (gp.g cS) G rfl rfl fun A618 d1=>?_);have qU:=(fm.base dW).keep d1.keep (fm.ne mt cS);have qV:=(fn.base dW).keep d1.keep (fn.ne mt cS);have Dw:=pp.keep d1.keep eC;have pv:=(em.base dW).keep d1.keep tt;have sT:=an (dW.trans gp) wf lP d1.n d1.keep;refine sr<|.I Z<|.nil<|Ai<|.rt (by exact aH (e8 jA gr Z d1.get Z (fB Z gB)) (⟨_,_,_,by rw [(rk hs).1,(rk hs).2.1];rfl,sT,d1.wf,ci qU (Xk bQ (by rw [(rk hs).2.2,j3,j2,Gv,Ak,hR])),qV,kw pv (by rw [(rk hs).2.2,j3,j2,Gv,Ak,hR]),h8,h9,ha⟩))
def dP:List Wd:=[[97,98,65,66]]
def cO (a b c d:Value):List aQ:=[⟨[98,97],[97,98],a,[⟨[],0,true⟩]⟩,⟨[98,65],[65,98],b,[⟨[65],0,false⟩]⟩,⟨[66,97],[97,66],c,[⟨[66],0,false⟩]⟩,⟨[66,65],[65,66],d,[⟨[66,65],0,true⟩]⟩]
section
variable (a b c d:Value)
set_option maxRecDepth 100000
theorem xp:bN 2 dP (cO a b c d)=true:=by kernel_rfl
theorem We:(oT 2 dP (cO a b c d) [98,98,97,65]).word=[98,98]/\(oT 2 dP (cO a b c d) [98,98,97,65]).steps=4/\mh 2 dP (cO a b c d) [98,98,97,65]=0:=by refine ⟨?_,?_,?_⟩ <;> kernel_rfl
theorem Wg:(oT 2 dP (cO a b c d) [98,97,66]).word=[97]/\(oT 2 dP (cO a b c d) [98,97,66]).steps=1/\mh 2 dP (cO a b c d) [98,97,66]=0:=by refine ⟨?_,?_,?_⟩ <;> kernel_rfl
theorem Wh:(oT 2 dP (cO a b c d) [98,97,98,97]).word=[97,97,98,98]/\(oT 2 dP (cO a b c d) [98,97,98,97]).steps=3/\mh 2 dP (cO a b c d) [98,97,98,97]=0:=by refine ⟨?_,?_,?_⟩ <;> kernel_rfl
theorem Wi:gO 2 dP (cO a b c d)=(true,.zero,0):=by kernel_rfl
theorem Wj:pd 2 dP (cO a b c d)=(true,0):=by kernel_rfl
theorem Wk:isRed 2 dP (cO a b c d)=true:=by kernel_rfl
theorem Wn:jz 2 dP (cO a b c d)=([true,true,true,true,true],[[1,2,3,4],[1,-1,3,4],[-1,2,3,4],[-1,-1,3,-1],[-1,-1,-1,4]])/\na 2 dP (cO a b c d)=4/\gR 2 dP (cO a b c d)=0:=by refine ⟨?_,?_,?_⟩ <;> kernel_rfl
theorem Wo:gO 2 dP ((cO a b c d).take 1)=(false,⟨0,-1,[98,97,65],[97,98,65],[98]⟩,0):=by kernel_rfl
theorem JY:nS (cO a b c d) [97,66]=true/\nS (cO a b c d) [66,97]=false/\bZ 2 [97,66]=0/\bZ 2 [66,97]=0:=by refine ⟨?_,?_,?_,?_⟩ <;> kernel_rfl
theorem tH:(bn 2 (cO a b c d)).length<=50000/\(bn 2 ((cO a b c d).take 1)).length<=50000/\ga (il 2 (cO a b c d))<=18000:=by
  refine ⟨?_,?_,?_⟩ <;> exact Sw Y
theorem Rh:jf true (cO a b c d) (cO a b c d)=true:=by kernel_rfl
end
structure gI (A:AH) (u rv:Value) (a b c d:Value):Prop where
  L:iB A
  M:sX A
  u:bz A 1 u (dB dP)
  r:bz A 3 rv (dh (cO a b c d))
  p:Proofs A (cO a b c d)
theorem gI.le {A B:AH} {u rv a b c d:Value} (h:gI A u rv a b c d) (le:A.le B):gI B u rv a b c d:=⟨h.L.le le,h.M.le le,h.u.le le,h.r.le le,h.p.le le⟩
theorem gI.one {A:AH} {u:Value} {br:Nat} {a b c d:Value} (h:gI A u (.slice (some ⟨br,0,none⟩) 4 4) a b c d):bz A 3 (.slice (some ⟨br,0,none⟩) 1 4) (dh ((cO a b c d).take 1))/\Proofs A ((cO a b c d).take 1):=by
  obtain ⟨p,n,k,e,h1,h2,h3⟩:=h.r
  cases e
  rcases h3 with h3 | ⟨b',off,rw,r,rcap,e,g1,g2⟩
  · cases h3
  · cases e
    refine ⟨⟨_,1,4,rfl,rfl,by decide,.inr ⟨_,0,rw,r,rcap,rfl,g1,?_⟩⟩,fun r hr=>h.p r (List.mem_of_mem_take hr)⟩
    have:((r.drop 0).take (4 * 3)).take 3=(dh (cO a b c d)).take 3:=by rw [g2]
    rw [List.take_take] at this
    exact this
theorem pl24:dk prog 24=some [(0,1),(1,1)]:=by kernel_rfl
theorem pl27:dk prog 27=some [(0,2),(2,1)]:=by kernel_rfl
theorem Wb:dk prog 83=some [(0,1),(1,1),(2,1)]:=by kernel_rfl
theorem u24:type_of% @underlying24:=@underlying24
theorem u27:type_of% @underlying27:=@underlying27
theorem u83:type_of% @underlying83:=@underlying83
theorem z24:cE prog 24=some (.agg #[.int .i64 0,.slice none 0 0]):=by kernel_rfl
theorem z27:cE prog 27=some (.agg #[.int .i64 0,.slice none 0 0,.slice none 0 0]):=by kernel_rfl
theorem nU {α:Type} {l m:List α} {d:α} (h:l.length=m.length) (q:∀ j,j < l.length->l.getD j d=m.getD j d):l=m:=by
 apply List.ext_getElem h;intro i h1 h2;have:=q i h1;rwa [gd h1,gd h2] at this
theorem IZ (u1 u2:Value) (l1 l2:List Int) (A:AH) (hn:l1.length<=100000000) (a1:bz A 1 u1 (cf l1)) (a3:bz A 1 u2 (cf l2)):bH prog 80 #[u1,u2] A (fun v A1=>v=.bool (decide (l1=l2))/\A.le A1/\A1.wf):=by
 refine aN (e:=[(0,u1),(1,u2)]) (args:=[u1,u2]) call80 func80 Z results80 ntmps80 Z Z Z (fun wf=>?_);have a0:=AH.le.refl A;refine ak.sq fun h2=>.region<|.I Z<|.nil<|h2<|.sq fun h4=>.sq fun h6=>.region<|.J Z<|.p (bx (n:=l1.length) cQ Z (a1.le a0) O (c9 _)) ?_;refine Ops.J Z<|.p (bx (n:=l2.length) cQ Z (a3.le a0) O (c9 _))<|.p (fy Z Z)<|.nil<|h6<|.if rfl (fun p7=>?_) (fun p7=>?_)
 ·refine ak.sq fun h9=>.region<|.I Z<|.nil<|h9<|.rt (by exact aH Z (⟨by (rw [Xv (fun e=>‹¬ l1.length=l2.length› (Xk List.length e))];rfl),a0,wf⟩))
 refine ak.skip<|h4<|.sq fun aa=>.sq fun ab=>.region<|.I Z<|.nil<|ab<|.block<|.loop (X:=Nat) (fun i=>[(0,u1),(1,u2),(5,num ((i:Nat):Int))]) (fun i B=>(i<=l1.length/\l1.length=l2.length/\∀ j,j < i->l1.getD j 0=l2.getD j 0)/\A.le B) (fun i=>l1.length - i) 0 (jh Z Z Z) (⟨⟨XZ _,by omega,fun j h=>by omega⟩,a0⟩) ?_;rintro i B15 ⟨⟨hi,hl,hq⟩,V⟩;refine ak.wf fun a2=>.sq fun ac=>.sq fun ad=>.region<|.J Z<|.J Z<|.p (bx (n:=l1.length) cQ Z (a1.le V) O (c9 _))<|.p (bK Z Z)<|.nil<|ad ?_;refine ak.if rfl (fun az=>?_) (fun az=>?_)
 ·refine ak.skip<|ac<|.sq fun ag=>.block<|.sq fun ai=>.drawn [0,1,2,3,4,5,6,7,8] mixed Y Y Z<|.p Z (aK Z)<|.p Z (aK Z) ?_;obtain ⟨aP,aS,aG,b1,aD,aZ,aV,a6,av,a8,aB,a4⟩:=bz.at (i:=i) (a1.le V) O2 O;refine DOps.p Z (al cQ cl Z a6 Z av)<|.p Z (ah dK Z Z a8 ((cb a4).trans (bJ O)))<|.p Z (aK Z)<|.p Z (aK Z) ?_;obtain ⟨aR,aT,aI,b2,aF,b0,aY,a7,ay,a9,aC,a5⟩:=bz.at (i:=i) (a3.le V) O2 O;refine DOps.p Z (al cQ cl Z a7 Z ay)<|.p Z (ah dK Z Z a9 ((cb a5).trans (bJ O)))<|.p Z (MD Z Z)<|.done<|ai<|.if rfl (fun aA=>?_) (fun aA=>?_)
  ·refine ak.sq fun ap=>.region<|.I Z<|.nil<|ap<|.rt (by exact aH Z (⟨by (rw [Xv (fun e=>‹¬ l1.getD i 0=l2.getD i 0› (Xk (fun z=>z.getD i 0) e))];rfl),V,a2⟩))
  refine ak.skip<|ag<|.region<|.J Z<|.p (bk (b:=1) Z Z O)<|.I Z<|.nil ?_;exact ⟨i + 1,jh Z Z Z,Z,⟨⟨by omega,hl,fun j h=>(XV.1 h).elim (hq j) (fun z=>by subst z;exact Decidable.not_not.1 ‹_›)⟩,V⟩,O1⟩
 refine ak.exit<|aa<|.sq fun ar=>.region<|.I Z<|.nil<|ar<|.rt (by exact aH Z (⟨by (rw [Vv (nU hl (fun j h=>hq j O))];rfl),V,a2⟩))
theorem Fh (k1 s1 k2 s2:Int) (aa ad ab ag:Value) (V a3:List Bool) (N1 N2:List (List Int)) (a0 a2:List Value) (A:AH) (dZ:V.length<=1000000) (e0:N1.length<=1000000) (hrn:∀ r ∈ N1,r.length<=100000) (ar:bz A 1 aa (bQ V)) (av:bz A 1 ad (dx a0)) (aY:a0.length=N1.length) (bV:∀ i,i < N1.length->bz A 1 (a0.getD i undef) (cf (N1.getD i []))) (az:bz A 1 ab (bQ a3)) (aA:bz A 1 ag (dx a2)) (aZ:a2.length=N2.length) (bY:∀ i,i < N2.length->bz A 1 (a2.getD i undef) (cf (N2.getD i []))):bH prog 34 #[.agg #[num (k1),num (s1),aa,ad],.agg #[num (k2),num (s2),ab,ag]] A (fun v A1=>v=.bool (decide (k1=k2/\s1=s2/\V=a3/\N1=N2))/\A.le A1/\A1.wf):=by
 refine aN (e:=[(0,.agg #[num (k1),num (s1),aa,ad]),(1,.agg #[num (k2),num (s2),ab,ag])]) (args:=[.agg #[num (k1),num (s1),aa,ad],.agg #[num (k2),num (s2),ab,ag]]) call34 func34 Z results34 ntmps34 Z Z Z (fun wf=>?_);have ct:=AH.le.refl A;refine ak.sq fun h2=>.region<|.m (fun c0=>dQ wf rfl rfl fun A5 b4 aC=>?_);refine c0<|.m (fun c3=>dQ aC.wf rfl rfl fun A10 b9 a1=>?_);have ap:=a1.le.g aC.get;have a4:=(ct.trans aC.le).trans a1.le;refine c3<|.I Z<|.nil<|h2<|.sq fun bc=>.sq fun ay=>.region<|.p (ae jk cl U Z)<|.p (ah dK Z Z ap Z)<|.p (ae jk cl U Z) ?_;refine Ops.p (ah dK Z Z a1.get Z)<|.p (MD Z Z)<|.J Z<|.part (t:=12) Z (fun cv=>?_) (fun cv=>?_)
 ·refine Ops.off Z Z Z Z<|.off Z Z Z Z<|.off Z Z Z Z<|.off Z Z Z Z<|.off Z Z Z Z<|.p (aJ Z Z)<|.J Z<|.off Z Z Z Z<|.off Z Z Z Z<|.off Z Z Z Z ?_;refine Ops.off Z Z Z Z<|.off Z Z Z Z<|.off Z Z Z Z<|.off Z Z Z Z<|.p (aJ Z Z)<|.J Z<|.off Z Z Z Z<|.off Z Z Z Z<|.off Z Z Z Z<|.off Z Z Z Z ?_;refine Ops.off Z Z Z Z<|.off Z Z Z Z<|.off Z Z Z Z<|.p (aJ Z Z)<|.nil<|ay<|.cond_true Z<|.sq fun bd=>.region<|.I Z ?_;refine Ops.nil<|bd<|.rt (by exact aH Z (⟨by (rw [Xv (fun e=>‹¬ k1=k2› e.1)];rfl),a4,a1.wf⟩))
 refine Ops.on Z Z<|.p (ae mS cl U Z)<|.on Z Z<|.p (ah dK Z Z ap Z)<|.on Z Z<|.p (ae mS cl U Z)<|.on Z Z<|.p (ah dK Z Z a1.get Z)<|.on Z Z<|.p (MD Z Z) ?_;refine Ops.p (aO Z Z)<|.J Z<|.part (t:=19) Z (fun cC=>?_) (fun cC=>?_)
 ·refine Ops.off Z Z Z Z<|.off Z Z Z Z<|.off Z Z Z Z<|.off Z Z Z Z<|.off Z Z Z Z<|.off Z Z Z Z<|.off Z Z Z Z<|.p (aJ Z Z)<|.J Z<|.off Z Z Z Z ?_;refine Ops.off Z Z Z Z<|.off Z Z Z Z<|.off Z Z Z Z<|.off Z Z Z Z<|.off Z Z Z Z<|.off Z Z Z Z<|.p (aJ Z Z)<|.nil<|ay<|.cond_true Z ?_;refine ak.sq fun bl=>.region<|.I Z<|.nil<|bl<|.rt (by exact aH Z (⟨by (rw [Xv (fun e=>‹¬ s1=s2› e.2.1)];rfl),a4,a1.wf⟩))
 refine Ops.on Z Z<|.p (ae ip gV U Z)<|.on Z Z<|.p (ah io Z Z ap Z)<|.on Z Z<|.p (bx (n:=V.length) jQ Z (ar.le a4) O (fH _))<|.on Z Z<|.p (ae ip gV U Z)<|.on Z Z<|.p (ah io Z Z a1.get Z) ?_;refine Ops.on Z Z<|.p (bx (n:=a3.length) jQ Z (az.le a4) O (fH _))<|.on Z Z<|.p (fy Z Z)<|.p (aO Z Z)<|.J Z<|.part (t:=28) Z (fun cH=>?_) (fun cH=>?_)
 ·refine Ops.off Z Z Z Z<|.off Z Z Z Z<|.off Z Z Z Z<|.off Z Z Z Z<|.off Z Z Z Z<|.off Z Z Z Z<|.off Z Z Z Z<|.p (aJ Z Z)<|.nil<|ay ?_;refine ak.cond_true Z<|.sq fun bm=>.region<|.I Z<|.nil<|bm<|.rt (by exact aH Z (⟨by (rw [Xv (fun e=>‹¬ V.length=a3.length› (Xk List.length e.2.2.1))];rfl),a4,a1.wf⟩))
 refine Ops.on Z Z<|.p (ae eF fC U Z)<|.on Z Z<|.p (ah ie Z Z ap Z)<|.on Z Z<|.p (bx (n:=a0.length) jg Z (av.le a4) O (fp _))<|.on Z Z<|.p (ae eF fC U Z)<|.on Z Z<|.p (ah ie Z Z a1.get Z) ?_;refine Ops.on Z Z<|.p (bx (n:=a2.length) jg Z (aA.le a4) O (fp _))<|.on Z Z<|.p (fy Z Z)<|.p (aO Z Z)<|.nil<|ay<|.if rfl (fun cK=>?_) (fun cK=>?_)
 ·refine ak.sq fun bp=>.region<|.I Z<|.nil<|bp<|.rt (by exact aH Z (⟨by (rw [Xv (fun e=>‹¬ a0.length=a2.length› (by rw [aY,aZ,e.2.2.2]))];rfl),a4,a1.wf⟩))
 refine ak.skip<|bc<|.sq fun br=>.sq fun bu=>.region<|.I Z<|.nil<|bu<|.block<|.loop (X:=Nat) (fun i=>[(2,.pointer (some ⟨b4,0,none⟩)),(3,.pointer (some ⟨b9,0,none⟩)),(5,num ((i:Nat):Int))]) (fun i B=>(i<=V.length/\(k1=k2/\s1=s2/\V.length=a3.length/\a0.length=a2.length)/\∀ j,j < i->V.getD j false=a3.getD j false)/\A.le B/\B.get b4=some (.row true [num (k1),num (s1),aa,ad] 4)/\B.get b9=some (.row true [num (k2),num (s2),ab,ag] 4)) (fun i=>V.length - i) 0 (jh Z Z Z) (⟨⟨XZ _,⟨Decidable.not_not.1 ‹¬ ¬ k1=k2›,Decidable.not_not.1 ‹¬ ¬ s1=s2›,Decidable.not_not.1 ‹¬ ¬ V.length=a3.length›,Decidable.not_not.1 ‹¬ ¬ a0.length=a2.length›⟩,fun j h=>by omega⟩,a4,ap,a1.get⟩) ?_;rintro i B35 ⟨⟨hi,hl,hq⟩,a9,a5,a8⟩;refine ak.wf fun b0=>?_;obtain ⟨aF,aG,aI,c4⟩:=hl;refine ak.sq fun bv=>.sq fun bA=>.region<|.J Z<|.p (ae ip gV U Z)<|.p (ah io Z Z a5 Z)<|.p (bx (n:=V.length) jQ Z (ar.le a9) O (fH _))<|.p (bK Z Z)<|.nil<|bA ?_;refine ak.if rfl (fun cP=>?_) (fun cP=>?_)
 ·refine ak.skip<|bv<|.sq fun bB=>.block<|.sq fun bC=>.drawn [0,1,2,3,4,5,6,7,8,9,10] mixed Y Y Z<|.p Z (ae ip gV U Z)<|.p Z (ah io Z Z a5 Z)<|.p Z (aK Z) ?_;obtain ⟨dD,dO,dj,ea,d2,e5,e1,b2,c7,b7,cX,aP⟩:=bz.at (i:=i) (ar.le a9) Oj O;refine DOps.p Z (al jQ kN Z b2 Z c7)<|.p Z (ah um Z Z b7 ((cb aP).trans (dC O)))<|.p Z (ae ip gV U Z)<|.p Z (ah io Z Z a8 Z)<|.p Z (aK Z) ?_;obtain ⟨dG,dS,dv,eb,d3,e6,e2,b3,cc,b8,cZ,aR⟩:=bz.at (i:=i) (az.le a9) Oj O;refine DOps.p Z (al jQ kN Z b3 Z cc)<|.p Z (ah um Z Z b8 ((cb aR).trans (dC O)))<|.p Z (Yx u4 Z Z)<|.done<|bC<|.ifB Z (fun cS=>?_) (fun cS=>?_)
  ·refine ak.sq fun bD=>.region<|.I Z<|.nil<|bD<|.rt (by exact aH Z (⟨by (rw [Xv (fun e=>absurd (Xk (fun z=>z.getD i false) e.2.2.1) (by simpa using ‹(!(V.getD i false == a3.getD i false))=true›))];rfl),a9,b0⟩))
  refine ak.skip<|bB<|.region<|.J Z<|.p (bk (b:=1) Z Z O)<|.I Z<|.nil ?_;exact ⟨i + 1,jh Z Z Z,Z,⟨⟨by omega,⟨aF,aG,aI,c4⟩,fun j h=>(XV.1 h).elim (hq j) (fun z=>by subst z;simpa using ‹(!(V.getD j false == a3.getD j false))=false›)⟩,a9,a5,a8⟩,O1⟩
 refine ak.exit<|br<|.sq fun bL=>.sq fun bM=>.region<|.I Z<|.nil<|bM<|.block<|.loop (X:=Nat) (fun j=>[(2,.pointer (some ⟨b4,0,none⟩)),(3,.pointer (some ⟨b9,0,none⟩)),(6,num ((j:Nat):Int))]) (fun j B=>(j<=a0.length/\V=a3/\∀ z,z < j->N1.getD z []=N2.getD z [])/\A.le B/\B.get b4=some (.row true [num (k1),num (s1),aa,ad] 4)/\B.get b9=some (.row true [num (k2),num (s2),ab,ag] 4)) (fun j=>a0.length - j) 0 (jh Z Z Z) (⟨⟨XZ _,nU aI (fun j h=>hq j O),fun j h=>by omega⟩,a9,a5,a8⟩) ?_;rintro j B56 ⟨⟨hj,hac,hr⟩,a6,a7,ac⟩;refine ak.wf fun b1=>?_;have hrj:=fun q:j < N1.length=>hrn _ (aX (d:=([]:List Int)) q);refine ak.sq fun bO=>.sq fun bP=>.region<|.J Z<|.p (ae eF fC U Z)<|.p (ah ie Z Z a7 Z)<|.p (bx (n:=a0.length) jg Z (av.le a6) O (fp _))<|.p (bK Z Z)<|.nil<|bP ?_;refine ak.if rfl (fun cT=>?_) (fun cT=>?_)
 ·refine ak.skip<|bO<|.sq fun bR=>.block<|.sq fun bS=>.drawn [0,1,2,3,4,5,6,7,8,9,10,11] mixed Y Y Z<|.p Z (ae eF fC U Z)<|.p Z (ah ie Z Z a7 Z)<|.p Z (aK Z) ?_;obtain ⟨dI,dV,dw,ec,dd,e7,e3,b5,ch,ba,d0,aS⟩:=bz.at (i:=j) (av.le a6) Of O;refine DOps.p Z (al jg dX Z b5 Z ch)<|.p Z (ah jc Z Z ba ((cb aS).trans (c6 O)))<|.p Z (ae eF fC U Z)<|.p Z (ah ie Z Z ac Z)<|.p Z (aK Z) ?_;obtain ⟨dJ,dW,dz,ee,di,e9,e4,b6,ck,bb,d1,aT⟩:=bz.at (i:=j) (aA.le a6) Of O;refine DOps.p Z (al jg dX Z b6 Z ck)<|.p Z (ah jc Z Z bb ((cb aT).trans (c6 O)))<|.m Z (fun aV=>ax Z (IZ (a0.getD j undef) (a2.getD j undef) ((N1.getD j [])) ((N2.getD j [])) B56 (by have:=hrj O;omega) ((bV j O).le a6) ((bY j O).le a6)) ?_);rintro eg A75 ⟨rfl,ai,aD⟩;have aB:=a6.trans ai;refine aV (bg.none Y)<|.p Z (m5 Z)<|.done<|bS<|.if rfl (fun cV=>?_) (fun cV=>?_)
  ·refine ak.sq fun bT=>.region<|.I Z<|.nil<|bT<|.rt (by exact aH Z (⟨by (rw [Xv (fun e=>‹¬ N1.getD j []=N2.getD j []› (Xk (fun z=>z.getD j []) e.2.2.2))];rfl),aB,aD⟩))
  refine ak.skip<|bR<|.region<|.J Z<|.p (bk (b:=1) Z Z O)<|.I Z<|.nil ?_;exact ⟨j + 1,jh Z Z Z,Z,⟨⟨by omega,hac,fun z h=>(XV.1 h).elim (hr z) (fun w=>by subst w;exact Decidable.not_not.1 ‹¬ ¬ N1.getD z []=N2.getD z []›)⟩,aB,(ai.g a7),(ai.g ac)⟩,O1⟩
 refine ak.exit<|bL<|.sq fun bU=>.region<|.I Z<|.nil<|bU<|.rt (by exact aH Z (⟨by (rw [Vv ⟨aF,aG,hac,nU O (fun z h=>hr z O)⟩];rfl),a6,b1⟩))
theorem Cw (w:W8) (r:Nat) (iv:Bool) (A:AH):bH prog 89 #[aM (w),num ((r:Nat):Int),.bool (iv)] A (fun v A1=>A.le A1/\A1.wf/\Fresh A A1 v 3 (cN [⟨w,(r:Int),iv⟩])):=by
 refine aN (e:=[(0,aM (w)),(1,num ((r:Nat):Int)),(2,.bool (iv))]) (args:=[aM (w),num ((r:Nat):Int),.bool (iv)]) call89 func89 Z results89 ntmps89 Z Z Z (fun wf=>?_);have V:=AH.le.refl A;refine ak.sq fun h2=>.region<|.I Z<|.nil<|h2<|.sq fun h4=>.region<|.J Z<|.J Z<|.J Z ?_;refine Ops.p (dn Z (bE u85 Yi pl85 Z))<|.m (fun X=>aE (c:=[aM (w),num ((r:Nat):Int),.bool (iv)]) wf rfl (aq vA mu Yi rfl U U rfl) fun A7 b6 h=>?_);refine X<|.I Z<|.nil<|h4<|.rt (by exact aH Z (⟨(V.trans h.le),h.wf,Fresh.lit h.get (bh wf (Xj V.n h.lo)) Z G⟩))
theorem WW (A:AH):bH prog 43 #[] A (fun v A1=>∃ bu br a b c d,v=.agg #[num ((2:Nat):Int),(.slice (some ⟨bu,0,none⟩) 1 1),(.slice (some ⟨br,0,none⟩) 4 4)]/\A.le A1/\A1.wf/\bz A1 1 (.slice (some ⟨bu,0,none⟩) 1 1) (dB dP)/\bz A1 3 (.slice (some ⟨br,0,none⟩) 4 4) (dh (cO a b c d))/\Proofs A1 (cO a b c d)):=by
 refine aN (e:=[]) (args:=[]) call43 func43 Z results43 ntmps43 Z Z Z (fun wf=>?_);have b1:=AH.le.refl A;refine ak.sq fun h2=>.region<|.m (fun bR=>co wf z27 rfl fun A5 b4 a3=>?_);refine bR<|.nil<|h2<|.sq fun h9=>.region<|.m (fun bm=>aE (c:=[aM ([97,98,65,66])]) a3.wf rfl (aq ko fK z9 rfl U U rfl) fun A12 aa a2=>?_);have aI:=a2.le.g a3.get;have ap:=(b1.trans a3.le).trans a2.le;refine bm<|.p (dn Z (bE u24 z24 pl24 Z))<|.m (fun bp=>ax Z (Cw ([]) 0 true A12) ?_);rintro bY A18 ⟨a4,az,a5⟩;have aP:=a4.g aI;have ar:=ap.trans a4;have ac:=a5.base ap;refine bp ?_;obtain ⟨b2,aV,aC,bS,_⟩:=ac.own.slice;subst bS;refine Ops.p (dn Z (bE u83 NX Wb Z))<|.m (fun bv=>ax Z (Cw ([65]) 0 false A18) ?_);rintro c0 A29 ⟨a1,aA,a6⟩;have aR:=a1.g aP;have av:=ar.trans a1;have ad:=a6.base ar;refine bv ?_;obtain ⟨b3,aY,aD,bT,_⟩:=ad.own.slice;subst bT;refine Ops.p (dn Z (bE u83 NX Wb Z))<|.m (fun bA=>ax Z (Cw ([66]) 0 false A29) ?_);rintro c3 A42 ⟨a0,aB,a7⟩;have aS:=a0.g aR;have b7:=(ac.le a1).le a0;have ay:=av.trans a0;have ag:=a7.base av;refine bA ?_;obtain ⟨b5,aZ,aF,bU,_⟩:=ag.own.slice;subst bU;refine Ops.p (dn Z (bE u83 NX Wb Z))<|.m (fun bB=>ax Z (Cw ([66,65]) 0 true A42) ?_);rintro c4 A57 ⟨X,a9,a8⟩;have aT:=X.g aS;have b8:=(ad.le a0).le X;have ai:=a8.base ay;refine bB ?_;obtain ⟨b6,b0,aG,bV,_⟩:=ai.own.slice;subst bV;refine Ops.p (dn Z (bE u83 NX Wb Z))<|.m (fun bC=>aE (c:=[aM ([98,97]),aM ([97,98]),.slice b2 aV aC,aM ([98,65]),aM ([65,98]),.slice b3 aY aD,aM ([66,97]),aM ([97,66]),.slice b5 aZ aF,aM ([66,65]),aM ([65,66]),.slice b6 b0 aG]) a9 rfl (aq o6 iW NX rfl U U rfl) fun A74 ab h=>?_);have b9:=(b7.le X).le h.le;have ba:=(ag.le X).le h.le;have bL:=(ay.trans X).trans h.le;refine bC<|.p (dn Z (bE u27 z27 pl27 Z))<|.m (fun bD=>aU (cs:=[num ((2:Nat):Int),.slice (some ⟨aa,0,none⟩) 1 1,.slice (some ⟨ab,0,none⟩) 4 4]) (c':=[num ((2:Nat):Int),.slice (some ⟨aa,0,none⟩) 1 1,.slice (some ⟨ab,0,none⟩) 4 4]) h.wf rfl rfl rfl rfl fw (h.le.g aT) G rfl rfl fun A88 V=>?_);have bO:=V.k (ne_new a3.wf a3.get a2.lo).symm (h.le.g (X.g (a0.g (a1.g (a4.g a2.get)))));have bP:=V.k (ne_new a9 aT h.lo).symm h.get;have bb:=b9.keep V.keep (a5.ne a2.wf aI);have bc:=(b8.le h.le).keep V.keep (a6.ne az aP);have bd:=ba.keep V.keep (a7.ne aA aR);have bl:=(ai.le h.le).keep V.keep (a8.ne aB aS);have bM:=an bL wf (bh wf (Xj b1.n a3.lo)) V.n V.keep;refine bD<|.nil<|h9<|.rt (by exact aH (e8 fW fw Z V.get Z gB) (⟨aa,ab,(Value.slice b2 aV aC),(Value.slice b3 aY aD),(Value.slice b5 aZ aF),(Value.slice b6 b0 aG),rfl,bM,V.wf,fg (n:=1) bO rfl (XX _),fg (n:=4) bP rfl (XX _),fun r hr=>by simp only [cO,Vy,SQ,or_false] at hr;rcases hr with rfl | rfl | rfl | rfl;exact bb.slc;exact bc.slc;exact bd.slc;exact bl.slc⟩))
theorem ZA (u:Value) (br:Nat) (a b c d:Value) (A:AH) (h:gI A u (.slice (some ⟨br,0,none⟩) 4 4) a b c d):bH prog 12 #[.agg #[num ((2:Nat):Int),u,(.slice (some ⟨br,0,none⟩) 4 4)]] A (fun v A1=>v=num ((0:Nat):Int)/\A.le A1/\A1.wf) :=
 (WO 2 u dP (.slice (some ⟨br,0,none⟩) 4 4) (cO a b c d) A G G h.L h.u h.r h.p).mono (fun v A1 z=>by rw [xp] at z;exact z)
theorem WX (u:Value) (br:Nat) (a b c d:Value) (A:AH) (h:gI A u (.slice (some ⟨br,0,none⟩) 4 4) a b c d):bH prog 21 #[.agg #[num ((2:Nat):Int),u,(.slice (some ⟨br,0,none⟩) 4 4)],aM [98,98,97,65]] A (fun v A1=>∃ dv,v=.tuple #[.agg #[aM [98,98],num ((4:Nat):Int),dv],num ((0:Nat):Int)]/\A.le A1/\A1.wf/\Fresh A A1 dv 3 (cN (oT 2 dP (cO a b c d) [98,98,97,65]).disk)) :=
 (vg 2 u dP (.slice (some ⟨br,0,none⟩) 4 4) (cO a b c d) [98,98,97,65] A G G h.L h.u h.r h.p).mono (fun v A1 z=>by have e:=We a b c d;rw [e.1,e.2.1,e.2.2] at z;exact z)
theorem W9 (u:Value) (br:Nat) (a b c d:Value) (A:AH) (h:gI A u (.slice (some ⟨br,0,none⟩) 4 4) a b c d):bH prog 21 #[.agg #[num ((2:Nat):Int),u,(.slice (some ⟨br,0,none⟩) 4 4)],aM [98,97,66]] A (fun v A1=>∃ dv,v=.tuple #[.agg #[aM [97],num ((1:Nat):Int),dv],num ((0:Nat):Int)]/\A.le A1/\A1.wf/\Fresh A A1 dv 3 (cN (oT 2 dP (cO a b c d) [98,97,66]).disk)) :=
 (vg 2 u dP (.slice (some ⟨br,0,none⟩) 4 4) (cO a b c d) [98,97,66] A G G h.L h.u h.r h.p).mono (fun v A1 z=>by have e:=Wg a b c d;rw [e.1,e.2.1,e.2.2] at z;exact z)
theorem Xb (u:Value) (br:Nat) (a b c d:Value) (A:AH) (h:gI A u (.slice (some ⟨br,0,none⟩) 4 4) a b c d):bH prog 21 #[.agg #[num ((2:Nat):Int),u,(.slice (some ⟨br,0,none⟩) 4 4)],aM [98,97,98,97]] A (fun v A1=>∃ dv,v=.tuple #[.agg #[aM [97,97,98,98],num ((3:Nat):Int),dv],num ((0:Nat):Int)]/\A.le A1/\A1.wf/\Fresh A A1 dv 3 (cN (oT 2 dP (cO a b c d) [98,97,98,97]).disk)) :=
 (vg 2 u dP (.slice (some ⟨br,0,none⟩) 4 4) (cO a b c d) [98,97,98,97] A G G h.L h.u h.r h.p).mono (fun v A1 z=>by have e:=Wh a b c d;rw [e.1,e.2.1,e.2.2] at z;exact z)
theorem Su (u:Value) (br:Nat) (a b c d:Value) (A:AH) (h:gI A u (.slice (some ⟨br,0,none⟩) 4 4) a b c d):bH prog 28 #[.agg #[num ((2:Nat):Int),u,(.slice (some ⟨br,0,none⟩) 4 4)]] A (fun v A1=>v=.tuple #[.bool true,Yo .zero,num ((0:Nat):Int)]/\A.le A1/\A1.wf) :=
 (Co 2 u dP (.slice (some ⟨br,0,none⟩) 4 4) (cO a b c d) A G G (fun _=>(tH a b c d).1) h.L h.u h.r h.p).mono (fun v A1 z=>by rw [Wi] at z;exact z)
theorem MR (u:Value) (br:Nat) (a b c d:Value) (A:AH) (h:gI A u (.slice (some ⟨br,0,none⟩) 4 4) a b c d):bH prog 28 #[.agg #[num ((2:Nat):Int),u,.slice (some ⟨br,0,none⟩) 1 4]] A (fun v A1=>v=.tuple #[.bool false,Yo ⟨0,-1,[98,97,65],[97,98,65],[98]⟩,num ((0:Nat):Int)]/\A.le A1/\A1.wf) :=
 (Co 2 u dP _ ((cO a b c d).take 1) A G G (fun _=>(tH a b c d).2.1) h.L h.u h.one.1 h.one.2).mono (fun v A1 z=>by rw [Wo] at z;exact z)
theorem So (u:Value) (br:Nat) (a b c d:Value) (A:AH) (h:gI A u (.slice (some ⟨br,0,none⟩) 4 4) a b c d):bH prog 30 #[.agg #[num ((2:Nat):Int),u,(.slice (some ⟨br,0,none⟩) 4 4)]] A (fun v A1=>v=.tuple #[.bool true,num ((0:Nat):Int)]/\A.le A1/\A1.wf) :=
 (WQ 2 u dP (.slice (some ⟨br,0,none⟩) 4 4) (cO a b c d) A G G (fun _=>(tH a b c d).1) h.L h.u h.r h.p).mono (fun v A1 z=>by rw [Wj] at z;exact z)
theorem SH (u:Value) (br:Nat) (a b c d:Value) (A:AH) (h:gI A u (.slice (some ⟨br,0,none⟩) 4 4) a b c d):bH prog 16 #[.agg #[num ((2:Nat):Int),u,(.slice (some ⟨br,0,none⟩) 4 4)]] A (fun v A1=>v=.bool true/\A.le A1/\A1.wf) :=
 (Ff 2 u dP (.slice (some ⟨br,0,none⟩) 4 4) (cO a b c d) A G G h.L h.M h.u h.r h.p).mono (fun v A1 z=>by rw [Wk] at z;exact z)
theorem WR (u:Value) (br:Nat) (a b c d:Value) (A:AH) (h:gI A u (.slice (some ⟨br,0,none⟩) 4 4) a b c d):bH prog 14 #[.agg #[num ((2:Nat):Int),u,(.slice (some ⟨br,0,none⟩) 4 4)],aM [97,66]] A (fun v A1=>v=.bool true/\A.le A1/\A1.wf) :=
 (r0 2 u dP (.slice (some ⟨br,0,none⟩) 4 4) (cO a b c d) [97,66] A G G h.L h.M h.u h.r h.p).mono (fun v A1 z=>by have e:=JY a b c d;rw [xp,e.1,e.2.2.1] at z;exact z)
theorem WT (u:Value) (br:Nat) (a b c d:Value) (A:AH) (h:gI A u (.slice (some ⟨br,0,none⟩) 4 4) a b c d):bH prog 14 #[.agg #[num ((2:Nat):Int),u,(.slice (some ⟨br,0,none⟩) 4 4)],aM [66,97]] A (fun v A1=>v=.bool false/\A.le A1/\A1.wf) :=
 (r0 2 u dP (.slice (some ⟨br,0,none⟩) 4 4) (cO a b c d) [66,97] A G G h.L h.M h.u h.r h.p).mono (fun v A1 z=>by have e:=JY a b c d;rw [xp,e.2.1,e.2.2.2] at z;exact z)
theorem Xd (u:Value) (br:Nat) (a b c d:Value) (A:AH) (h:gI A u (.slice (some ⟨br,0,none⟩) 4 4) a b c d):bH prog 18 #[.agg #[num ((2:Nat):Int),u,(.slice (some ⟨br,0,none⟩) 4 4)],.agg #[num ((2:Nat):Int),u,(.slice (some ⟨br,0,none⟩) 4 4)]] A (fun v A1=>v=.bool true/\A.le A1/\A1.wf) :=
 (ZC 2 u dP (.slice (some ⟨br,0,none⟩) 4 4) (cO a b c d) 2 u dP (.slice (some ⟨br,0,none⟩) 4 4) (cO a b c d) A G G G (fun r hr=>by simp only [cO,Vy,SQ,or_false] at hr;rcases hr with rfl | rfl | rfl | rfl <;> exact G) h.u h.r h.p h.u h.r h.p).mono (fun v A1 z=>by rw [Rh] at z;exact z)
theorem Zx (u:Value) (br:Nat) (a b c d:Value) (A:AH) (h:gI A u (.slice (some ⟨br,0,none⟩) 4 4) a b c d):bH prog 33 #[.agg #[num ((2:Nat):Int),u,(.slice (some ⟨br,0,none⟩) 4 4)]] A (fun v A1=>∃ av2 nv2 rows2,v=.tuple #[.agg #[num ((4:Nat):Int),num ((0:Nat):Int),av2,nv2],num ((0:Nat):Int)]/\A.le A1/\A1.wf/\Fresh A A1 av2 1 (bQ [true,true,true,true,true])/\Fresh A A1 nv2 1 (dx rows2)/\iZ A A1 rows2 [[1,2,3,4],[1,-1,3,4],[-1,2,3,4],[-1,-1,3,-1],[-1,-1,-1,4]]/\aL av2 nv2/\au av2 rows2/\au nv2 rows2) :=
 (Yz 2 u dP (.slice (some ⟨br,0,none⟩) 4 4) (cO a b c d) A G G (fun _=>(tH a b c d).2.2) h.L h.u h.r h.p).mono (fun v A1 z=>by have e:=Wn a b c d;rw [e.1,e.2.1,e.2.2] at z;exact z)
theorem Va:CN prog 47 (.agg #[num 0,num (-1),aM [98,97,65],aM [97,98,65],aM [98]]) (.agg #[num ((0:Nat):Int),num (-1),aM [98,97,65],aM [97,98,65],aM [98]])=some true:=by kernel_rfl
theorem ZQ (A:AH) (hL:iB A) (hM:sX A):bH prog 10 #[] A (fun v A1=>v=.bool true/\A.le A1/\A1.wf):=by
 refine aN (e:=[]) (args:=[]) call10 func10 Z results10 ntmps10 Z Z Z (fun wf=>?_);have hy:=AH.le.refl A;refine ak.sq fun h2=>.region<|.I Z<|.nil<|h2<|.sq fun h4=>.region<|.m (fun hx=>ax Z (WW A) ?_);rintro v6 A7 ⟨aT,aP,hl,hm,hn,ho,rfl,hk,ex,er,en,em⟩;have eg:=hy.trans hk;have qu:=er;have qr:=en;have qp:=em;have hPl:gI A7 _ _ hl hm hn ho:=⟨hL.le eg,hM.le eg,er,en,em⟩;have leA:=eg;have X:=ex;have leR:=AH.le.refl A7;refine hx<|.m (fun h9=>co ex z27 rfl fun A12 iX ba=>?_);refine h9<|.m (fun ha=>aU (cs:=[num ((2:Nat):Int),.slice (some ⟨aT,0,none⟩) 1 1,.slice (some ⟨aP,0,none⟩) 4 4]) (c':=[num ((2:Nat):Int),.slice (some ⟨aT,0,none⟩) 1 1,.slice (some ⟨aP,0,none⟩) 4 4]) ba.wf rfl rfl rfl rfl fw ba.get G rfl rfl fun A16 bb=>?_);have bM:=an (leR.trans ba.le) X (bh X (Xj leR.n ba.lo)) bb.n bb.keep;refine ha<|.nil<|h4<|.sq fun hu=>.region<|.p (ao fW fw Z Z bb.get Z)<|.m (fun hb=>ax Z (WX _ _ _ _ _ _ A16 (hPl.le bM)) ?_);rintro k1 A23 ⟨hG,rfl,d1,d3,eY⟩;have g8:=d1.g bb.get;have eb:=bM.trans d1;refine hb<|.J Z<|.p (bj Z Z)<|.p (bj Z Z)<|.m (fun hc=>co d3 Kz rfl fun A31 j1 aF=>?_);have gE:=(eY.base bM).le aF.le;refine hc ?_;obtain ⟨gs,gp,g6,hz,_⟩:=gE.own.slice;subst hz;refine Ops.m (fun hd=>aU (cs:=[aM ([98,98]),num ((4:Nat):Int),.slice gs gp g6]) (c':=[aM ([98,98]),num ((4:Nat):Int),.slice gs gp g6]) aF.wf rfl rfl rfl rfl jb aF.get G rfl rfl fun A39 bc=>?_);have g9:=bc.k (ne_new d3 g8 aF.lo) (aF.le.g g8);have bO:=an (eb.trans aF.le) X (bh X (Xj eb.n aF.lo)) bc.n bc.keep;refine hd<|.I Z<|.nil<|hu<|.sq fun hv=>.region<|.p (ao fW fw Z Z g9 Z)<|.m (fun he=>ax Z (W9 _ _ _ _ _ _ A39 (hPl.le bO)) ?_);rintro k2 A48 ⟨hH,rfl,b9,bd,eZ⟩;have gc:=b9.g g9;have ge:=b9.g bc.get;have ec:=bO.trans b9;refine he<|.J Z<|.p (bj Z Z)<|.p (bj Z Z)<|.m (fun hf=>co bd Kz rfl fun A60 j2 ar=>?_);have gF:=(eZ.base bO).le ar.le;refine hf ?_;obtain ⟨gA,gq,g7,hA,_⟩:=gF.own.slice;subst hA;refine Ops.m (fun hg=>aU (cs:=[aM ([97]),num ((1:Nat):Int),.slice gA gq g7]) (c':=[aM ([97]),num ((1:Nat):Int),.slice gA gq g7]) ar.wf rfl rfl rfl rfl jb ar.get G rfl rfl fun A71 b1=>?_);have gf:=b1.k (ne_new bd gc ar.lo) (ar.le.g gc);have bP:=an (ec.trans ar.le) X (bh X (Xj ec.n ar.lo)) b1.n b1.keep;refine hg<|.I Z<|.nil<|hv<|.sq fun hw=>.region<|.p (ao fW fw Z Z gf Z)<|.m (fun hh=>ax Z (Xb _ _ _ _ _ _ A71 (hPl.le bP)) ?_);rintro k3 A82 ⟨hI,rfl,aR,aS,f0⟩;have gg:=aR.g gf;have gl:=aR.g (b1.k (ne_new bd ge ar.lo) (ar.le.g ge));have gm:=aR.g b1.get;have ee:=bP.trans aR;refine hh<|.J Z<|.p (bj Z Z)<|.p (bj Z Z)<|.m (fun hj=>co aS Kz rfl fun A98 j3 aa=>?_);have eL:=(f0.base bP).le aa.le;refine hj ?_;obtain ⟨ek,ea,dJ,hp,_⟩:=eL.own.slice;subst hp;refine Ops.m (fun f1=>aU (cs:=[aM ([97,97,98,98]),num ((3:Nat):Int),.slice ek ea dJ]) (c':=[aM ([97,97,98,98]),num ((3:Nat):Int),.slice ek ea dJ]) aa.wf rfl rfl rfl rfl jb aa.get G rfl rfl fun A112 aB=>?_);have dO:=aB.k (ne_new aS gg aa.lo) (aa.le.g gg);have ct:=an (ee.trans aa.le) X (bh X (Xj ee.n aa.lo)) aB.n aB.keep;refine f1<|.I Z<|.nil<|hw<|.sq fun gG=>.region<|.p (ao fW fw Z Z dO Z)<|.m (fun f2=>ax Z (Su _ _ _ _ _ _ A112 (hPl.le ct)) ?_);rintro ih A125 ⟨rfl,ay,az⟩;have dS:=ay.g dO;have dV:=ay.g (aB.k (ne_new aS gl aa.lo) (aa.le.g gl));have dW:=ay.g (aB.k (ne_new aS gm aa.lo) (aa.le.g gm));have dZ:=ay.g aB.get;have cv:=ct.trans ay;refine f2<|.J Z<|.p (bj Z Z)<|.p (bj Z Z)<|.p (bj Z Z)<|.m (fun f3=>co az Gh rfl fun A137 hY a2=>?_);refine f3<|.I Z<|.m (fun f4=>aU (cs:=[num ((0:Nat):Int),num ((0:Nat):Int),aM ([]),aM ([]),aM ([])]) (c':=[num ((0:Nat):Int),num ((0:Nat):Int),aM ([]),aM ([]),aM ([])]) a2.wf rfl rfl rfl rfl lN a2.get G rfl rfl fun A151 av=>?_);have e0:=av.k (ne_new az dS a2.lo) (a2.le.g dS);have cC:=an (cv.trans a2.le) X (bh X (Xj cv.n a2.lo)) av.n av.keep;refine f4<|.I Z<|.nil<|gG<|.sq fun gL=>.region<|.p (ao fW fw Z Z e0 Z)<|.m (fun f6=>ax Z (So _ _ _ _ _ _ A151 (hPl.le cC)) ?_);rintro it A165 ⟨rfl,ag,hB⟩;have e1:=ag.g e0;have cH:=cC.trans ag;refine f6<|.J Z<|.p (bj Z Z)<|.p (bj Z Z)<|.I Z<|.I Z<|.nil<|gL<|.sq fun gM=>.sq fun gN=>?_;refine ak.region ?_;skip;refine Ops.p (ao fW fw Z Z e1 Z)<|.m (fun f7=>ax Z (ZA _ _ _ _ _ _ A165 (hPl.le cH)) ?_);rintro iv A182 ⟨rfl,ai,hC⟩;have e2:=ai.g e1;have bu:=ai.g (ag.g (av.k (ne_new az dV a2.lo) (a2.le.g dV)));have bv:=ai.g (ag.g (av.k (ne_new az dW a2.lo) (a2.le.g dW)));have bA:=ai.g (ag.g (av.k (ne_new az dZ a2.lo) (a2.le.g dZ)));have cK:=cH.trans ai;refine f7<|.p (((fy (a:=0) (b:=0) Z Z).trans (Xk (fun z=>some (Value.bool z,[])) (Xv (fun q=>q Z)))))<|.J Z<|.on Z Z<|.J Z<|.on Z Z<|.p (((fy (a:=0) (b:=0) Z Z).trans (Xk (fun z=>some (Value.bool z,[])) (Xv (fun q=>q Z)))))<|.p (aO Z Z)<|.J Z<|.on Z Z ?_;refine Ops.J Z<|.on Z Z<|.p (((fy (a:=0) (b:=0) Z Z).trans (Xk (fun z=>some (Value.bool z,[])) (Xv (fun q=>q Z)))))<|.p (aO Z Z)<|.J Z<|.on Z Z<|.J Z<|.on Z Z<|.p (((fy (a:=0) (b:=0) Z Z).trans (Xk (fun z=>some (Value.bool z,[])) (Xv (fun q=>q Z)))))<|.p (aO Z Z) ?_;refine Ops.J Z<|.on Z Z<|.J Z<|.on Z Z<|.p (((fy (a:=0) (b:=0) Z Z).trans (Xk (fun z=>some (Value.bool z,[])) (Xv (fun q=>q Z)))))<|.p (aO Z Z)<|.J Z<|.on Z Z<|.J Z<|.on Z Z ?_;refine Ops.p (((fy (a:=0) (b:=0) Z Z).trans (Xk (fun z=>some (Value.bool z,[])) (Xv (fun q=>q Z)))))<|.p (aO Z Z)<|.J Z<|.on Z Z<|.p (ae sk fK U Z)<|.on Z Z<|.p (ah gK Z Z bu Z)<|.on Z Z<|.p (((qO Z Z).trans (Xk (fun z=>some (Value.bool z,[])) (Xv (fun q=>q Z)))))<|.p (aO Z Z) ?_;refine Ops.J Z<|.on Z Z<|.p (ae uJ cl U Z)<|.on Z Z<|.p (ah dK Z Z bu Z)<|.on Z Z<|.p (((fy (a:=4) (b:=4) Z Z).trans (Xk (fun z=>some (Value.bool z,[])) (Xv (fun q=>q Z)))))<|.p (aO Z Z)<|.J Z<|.on Z Z ?_;refine Ops.p (ae sk fK U Z)<|.on Z Z<|.p (ah gK Z Z bv Z)<|.on Z Z<|.p (((qO Z Z).trans (Xk (fun z=>some (Value.bool z,[])) (Xv (fun q=>q Z)))))<|.p (aO Z Z)<|.J Z<|.on Z Z<|.p (ae uJ cl U Z)<|.on Z Z ?_;refine Ops.p (ah dK Z Z bv Z)<|.on Z Z<|.p (((fy (a:=1) (b:=1) Z Z).trans (Xk (fun z=>some (Value.bool z,[])) (Xv (fun q=>q Z)))))<|.p (aO Z Z)<|.J Z<|.on Z Z<|.p (ae sk fK U Z)<|.on Z Z<|.p (ah gK Z Z bA Z)<|.on Z Z ?_;refine Ops.p (((qO Z Z).trans (Xk (fun z=>some (Value.bool z,[])) (Xv (fun q=>q Z)))))<|.p (aO Z Z)<|.J Z<|.on Z Z<|.p (ae uJ cl U Z)<|.on Z Z<|.p (ah dK Z Z bA Z)<|.on Z Z<|.p (((fy (a:=3) (b:=3) Z Z).trans (Xk (fun z=>some (Value.bool z,[])) (Xv (fun q=>q Z)))))<|.p (aO Z Z) ?_;refine Ops.J Z<|.on Z Z<|.J Z<|.on Z Z<|.p (ff Z)<|.p (aO Z Z)<|.J Z<|.on Z Z<|.J Z<|.on Z Z ?_;refine Ops.p (ff Z)<|.p (aO Z Z)<|.J Z<|.on Z Z<|.p (ao fW fw Z Z e2 Z)<|.on Z Z<|.m (fun f9=>ax Z (SH _ _ _ _ _ _ A182 (hPl.le cK)) ?_);rintro iD A195 ⟨rfl,ap,hD⟩;have bB:=ap.g e2;have ab:=cK.trans ap;refine f9<|.on Z Z<|.p (ff Z)<|.p (aO Z Z)<|.nil<|gN<|.cond_false Z<|.skip<|gM<|.sq fun gP=>?_;refine ak.region<|.p (ao fW fw Z Z bB Z)<|.m (fun fd=>ax Z (Zx _ _ _ _ _ _ A195 (hPl.le ab)) ?_);rintro iF A210 ⟨hs,ht,dv,rfl,bl,aA,b5,b6,a7,dd,di,dj⟩;have e3:=bl.g bB;have cP:=ab.trans bl;have xa:=b5;have xv:=b6;have xf:=a7;have j4:=dd;have jX:=di;have k0:=dj;have hK:=a7.ne bB;have hN:=a7.ne (ap.g bu);have hO:=a7.ne (ap.g bv);have hP:=a7.ne (ap.g bA);have hQ:=a7.ne (ap.g (ai.g (ag.g av.get)));refine fd<|.J Z<|.p (bj Z Z)<|.p (bj Z Z)<|.m (fun fe=>co aA yp rfl fun A238 hZ a3=>?_);have g0:=(b5.base ab).own.ne_new aA a3.lo;have g1:=(b6.base ab).own.ne_new aA a3.lo;have g4:=(a7.base ab).ne_new aA a3.lo;have ch:=(b5.base ab).le a3.le;have ck:=(b6.base ab).le a3.le;have ey:=(a7.base ab).le a3.le;refine fe ?_;obtain ⟨bR,bD,bp,hq,_⟩:=ch.own.slice;subst hq;obtain ⟨bS,bL,br,hr,_⟩:=ck.own.slice;subst hr;refine Ops.m (fun fl=>aU (cs:=[num ((4:Nat):Int),num ((0:Nat):Int),.slice bR bD bp,.slice bS bL br]) (c':=[num ((4:Nat):Int),num ((0:Nat):Int),.slice bR bD bp,.slice bS bL br]) a3.wf rfl rfl rfl rfl gr a3.get G rfl rfl fun A261 a9=>?_);have bT:=ey.keep a9.keep g4;refine fl<|.I Z<|.nil<|gP<|.sq fun gQ=>.sq fun gS=>.region<|.J Z<|.p (((fy (a:=0) (b:=0) Z Z).trans (Xk (fun z=>some (Value.bool z,[])) (Xv (fun q=>q Z)))))<|.J Z ?_;refine Ops.on Z Z<|.p (ao jA gr Z Z a9.get Z)<|.on Z Z<|.m (fun fm=>aE (c:=[.bool (true),.bool (true),.bool (true),.bool (true),.bool (true)]) a9.wf rfl (aq jQ kN z4 rfl U U rfl) fun A281 gC a8=>?_);have hR:=bT.ne_new a9.wf a8.lo;have eM:=(ch.keep a9.keep g0).le a8.le;have eN:=(ck.keep a9.keep g1).le a8.le;have bU:=bT.le a8.le;refine fm<|.on Z Z<|.m (fun fn=>aE (c:=[num ((1:Nat):Int),num ((2:Nat):Int),num ((3:Nat):Int),num ((4:Nat):Int)]) a8.wf rfl (aq cQ cl z3 rfl U U rfl) fun A304 dw a6=>?_);have hS:=bU.ne_new a8.wf a6.lo;have bV:=bU.le a6.le;have fU:=((an (cP.trans a3.le) X (bh X (Xj cP.n a3.lo)) a9.n a9.keep).trans a8.le).trans a6.le;refine fn<|.on Z Z<|.m (fun fo=>aE (c:=[num ((1:Nat):Int),num (-1),num ((3:Nat):Int),num ((4:Nat):Int)]) a6.wf rfl (aq cQ cl z3 rfl U U rfl) fun A328 dz a5=>?_);have hT:=bV.ne_new a6.wf a5.lo;have eQ:=(eM.le a6.le).le a5.le;have eR:=(eN.le a6.le).le a5.le;have bY:=bV.le a5.le;refine fo<|.on Z Z<|.m (fun fq=>aE (c:=[num (-1),num ((2:Nat):Int),num ((3:Nat):Int),num ((4:Nat):Int)]) a5.wf rfl (aq cQ cl z3 rfl U U rfl) fun A353 dD a4=>?_);have hU:=bY.ne_new a5.wf a4.lo;have c0:=bY.le a4.le;have fV:=(fU.trans a5.le).trans a4.le;refine fq<|.on Z Z<|.m (fun ft=>aE (c:=[num (-1),num (-1),num ((3:Nat):Int),num (-1)]) a4.wf rfl (aq cQ cl z3 rfl U U rfl) fun A379 dG a0=>?_);have hV:=c0.ne_new a4.wf a0.lo;have eS:=(eQ.le a4.le).le a0.le;have eT:=(eR.le a4.le).le a0.le;have c3:=c0.le a0.le;refine ft<|.on Z Z<|.m (fun fv=>aE (c:=[num (-1),num (-1),num (-1),num ((4:Nat):Int)]) a0.wf rfl (aq cQ cl z3 rfl U U rfl) fun A406 dI V=>?_);have hW:=c3.ne_new a0.wf V.lo;have c4:=c3.le V.le;have fX:=(fV.trans a0.le).trans V.le;refine fv<|.on Z Z<|.m (fun fD=>aE (c:=[.slice (some ⟨dw,0,none⟩) 4 4,.slice (some ⟨dz,0,none⟩) 4 4,.slice (some ⟨dD,0,none⟩) 4 4,.slice (some ⟨dG,0,none⟩) 4 4,.slice (some ⟨dI,0,none⟩) 4 4]) V.wf rfl (aq jg dX Gi rfl U U rfl) fun A434 gD a1=>?_);have hX:=c4.ne_new V.wf a1.lo;have gX:=a1.le.g (V.le.g (a0.le.g (a4.le.g (a5.le.g (a6.le.g a8.get)))));have gY:=a1.le.g (V.le.g (a0.le.g (a4.le.g (a5.le.g a6.get))));have gZ:=a1.le.g (V.le.g (a0.le.g (a4.le.g a5.get)));have h0:=a1.le.g (V.le.g (a0.le.g a4.get));have h1:=a1.le.g (V.le.g a0.get);have h3:=a1.le.g V.get;have eV:=(eS.le V.le).le a1.le;have eX:=(eT.le V.le).le a1.le;have b8:=c4.le a1.le;refine fD<|.on Z Z<|.p (dn Z (bE YB yp Eo Z))<|.on Z Z<|.m (fun fE=>ax Z ((Fh 4 0 4 0 (.slice bR bD bp) (.slice bS bL br) (.slice (some ⟨gC,0,none⟩) 5 5) (.slice (some ⟨gD,0,none⟩) 5 5) [true,true,true,true,true] [true,true,true,true,true] [[1,2,3,4],[1,-1,3,4],[-1,2,3,4],[-1,-1,3,-1],[-1,-1,-1,4]] [[1,2,3,4],[1,-1,3,4],[-1,2,3,4],[-1,-1,3,-1],[-1,-1,-1,4]] dv [Value.slice (some ⟨dw,0,none⟩) 4 4,Value.slice (some ⟨dz,0,none⟩) 4 4,Value.slice (some ⟨dD,0,none⟩) 4 4,Value.slice (some ⟨dG,0,none⟩) 4 4,Value.slice (some ⟨dI,0,none⟩) 4 4] A434 U U U eV.slc eX.slc b8.len (fun i hi=>(b8.fr i hi).slc) (fg (n:=5) gX rfl (XX _)) (fg (n:=5) a1.get rfl (XX _)) rfl (fun i hi=>match i,hi with | 0,_=>fg (n:=4) gY rfl (XX _) | 1,_=>fg (n:=4) gZ rfl (XX _) | 2,_=>fg (n:=4) h0 rfl (XX _) | 3,_=>fg (n:=4) h1 rfl (XX _) | 4,_=>fg (n:=4) h3 rfl (XX _))).mono (fun v A1 h=>by rw [Vv U] at h;exact h)) ?_);rintro iH A463 ⟨rfl,aV,b2⟩;have bC:=aV.g (a1.le.g (V.le.g (a0.le.g (a4.le.g (a5.le.g (a6.le.g (a8.le.g (a9.k (ne_new aA e3 a3.lo) (a3.le.g e3)))))))));have c7:=b8.le aV;have cS:=(fX.trans a1.le).trans aV;refine fE<|.on Z Z<|.p (ff Z)<|.p (aO Z Z)<|.nil<|gS<|.cond_false Z<|.skip<|gQ<|.sq fun h5=>?_;refine ak.region<|.p (ao fW fw Z Z bC Z)<|.m (fun fI=>co b2 z27 rfl fun A489 i1 ac=>?_);have aD:=ne_new b2 bC ac.lo;have d2:=c7.ne_new b2 ac.lo;have b7:=bh X (Xj cS.n ac.lo);have ez:=c7.le ac.le;refine fI<|.m (fun fL=>aU (cs:=[num ((2:Nat):Int),.slice (some ⟨aT,0,none⟩) 1 1,.slice (some ⟨aP,0,none⟩) 4 4]) (c':=[num ((2:Nat):Int),.slice (some ⟨aT,0,none⟩) 1 1,.slice (some ⟨aP,0,none⟩) 4 4]) ac.wf rfl rfl rfl rfl fw ac.get G rfl rfl fun A518 aC=>?_);have e4:=aC.k aD (ac.le.g bC);have eA:=ez.keep aC.keep d2;refine fL<|.nil<|h5<|.sq fun h6=>.region<|.p (ae dU ja U Z)<|.p (ah jj Z Z e4 Z)<|.p (m7 (j:=1) o6 iW Z Z O)<|.p (ae dU ja U Z)<|.m (fun fM=>aU (cs:=[.slice (some ⟨aP,0,none⟩) 1 4]) (c':=[num ((2:Nat):Int),.slice (some ⟨aT,0,none⟩) 1 1,.slice (some ⟨aP,0,none⟩) 1 4]) aC.wf rfl rfl rfl rfl ja aC.get G rfl rfl fun A543 aG=>?_);have eB:=eA.keep aG.keep d2;have cT:=an (an (cS.trans ac.le) X b7 aC.n aC.keep) X b7 aG.n aG.keep;refine fM<|.nil<|h6<|.sq fun h7=>.region<|.p (ao fW fw Z Z aG.get Z)<|.m (fun fN=>ax Z (MR _ _ _ _ _ _ A543 (hPl.le cT)) ?_);rintro iN A569 ⟨rfl,aY,b3⟩;have e5:=aY.g (aG.k aD e4);have cc:=eB.le aY;have cV:=cT.trans aY;refine fN<|.J Z<|.p (bj Z Z)<|.p (bj Z Z)<|.p (bj Z Z)<|.m (fun fO=>co b3 Gh rfl fun A594 i2 ad=>?_);have g5:=cc.ne_new b3 ad.lo;have eC:=cc.le ad.le;refine fO<|.I Z<|.m (fun fQ=>aU (cs:=[num (0),num (-1),aM ([98,97,65]),aM ([97,98,65]),aM ([98])]) (c':=[num (0),num (-1),aM ([98,97,65]),aM ([97,98,65]),aM ([98])]) ad.wf rfl rfl rfl rfl lN ad.get G rfl rfl fun A624 aI=>?_);have e6:=aI.k (ne_new b3 e5 ad.lo) (ad.le.g e5);have eE:=eC.keep aI.keep g5;have cX:=an (cV.trans ad.le) X (bh X (Xj cV.n ad.lo)) aI.n aI.keep;refine fQ<|.I Z<|.nil<|h7<|.sq fun h8=>.region<|.J Z<|.p (((jM (a:=0) (b:=0) Z Z).trans (Xk (fun z=>some (Value.bool z,[])) (Vv Z))))<|.J Z<|.on Z Z ?_;refine Ops.J Z<|.on Z Z<|.p (ff Z)<|.p (aJ Z Z)<|.J Z<|.on Z Z<|.p (ao wA lN Z Z aI.get Z)<|.on Z Z<|.p (dn Z (bE Z7 Gh Iz Z))<|.on Z Z ?_;refine Ops.p (qeqv Z Z (fun _ _ q=>by cases q) (fun _ q=>by cases q) Va)<|.p (aJ Z Z)<|.J Z<|.on Z Z<|.p (ao fW fw Z Z e6 Z)<|.on Z Z<|.m (fun fR=>ax Z (WR _ _ _ _ _ _ A624 (hPl.le cX)) ?_);rintro iS A651 ⟨rfl,aZ,hE⟩;have e7:=aZ.g e6;have eG:=eE.le aZ;have cZ:=cX.trans aZ;refine fR<|.p (aJ Z Z)<|.J Z<|.on Z Z<|.p (ao fW fw Z Z e7 Z)<|.on Z Z<|.m (fun fS=>ax Z (WT _ _ _ _ _ _ A651 (hPl.le cZ)) ?_);rintro iT A677 ⟨rfl,b0,hF⟩;have e9:=b0.g e7;have eK:=eG.le b0;have d0:=cZ.trans b0;refine fS<|.on Z Z<|.p (ff Z)<|.p (aJ Z Z)<|.J Z<|.on Z Z<|.p (ao fW fw Z Z e9 Z)<|.on Z Z<|.p (ao fW fw Z Z e9 Z)<|.on Z Z ?_;refine Ops.m (fun fT=>ax Z (Xd _ _ _ _ _ _ A677 (hPl.le d0)) ?_);rintro iV A703 ⟨rfl,bm,ev⟩;have hJ:=eK.le bm;refine fT<|.p (aJ Z Z)<|.I Z<|.nil<|h8<|.rt (by exact aH Z (⟨Z,leA.trans (d0.trans bm),ev⟩))
def d5 (held:List (Nat × fx)) (A:AH):Prop:=∀ p ∈ held,∀ q ∈ p.2,A.cell q.1=some q.2
theorem d5.now {ops:Array Oper} {held:List (Nat × fx)} {i:Nat} {A:AH} (h:d5 held A):bg ops held i A:=bg.of fun p hp _ q hq=>h p hp q hq
theorem d5.nil {A:AH}:d5 [] A:=fun _ h=>by cases h
theorem d5.cons {held:List (Nat × fx)} {i:Nat} {T:fx} {A:AH} (h:∀ q ∈ T,A.cell q.1=some q.2) (h2:d5 held A):d5 ((i,T) :: held) A:=fun p hp=>(Vy.1 hp).elim (fun q=>q ▸ h) (h2 p)
theorem d5.filter {held:List (Nat × fx)} {f:Nat × fx->Bool} {A:AH} (h:d5 held A):d5 (held.filter f) A:=fun p hp=>h p (SK.1 hp).1
def ra (r:aQ):Bool:=decide (r.left.length<=40) && decide (r.right.length<=40) && decide (r.proof.length<=60) && r.proof.all fun c=>decide (c.conj.length<=200)
def jn (l:List Wd) (rs:List aQ):Bool:=decide (rs.length<=30) && decide (l.length<=10) && l.all (fun w=>decide (w.length<=60)) && rs.all ra
section
variable {l:List Wd} {rs:List aQ} {i j:Nat} {r:aQ}
theorem lL:ra r=true ↔ r.left.length<=40/\r.right.length<=40/\r.proof.length<=60/\∀ c ∈ r.proof,c.conj.length<=200:=by
  simp only [ra,XK,Vq,Vx,and_assoc]
theorem iA:jn l rs=true ↔ rs.length<=30/\l.length<=10/\(∀ w ∈ l,w.length<=60)/\∀ r ∈ rs,ra r=true:=by
  simp only [jn,XK,Vq,Vx,and_assoc]
theorem rb {P:Prop} (h:jn l rs=true->False):jn l rs=false:=by
  cases q:jn l rs with
  | false=>rfl
  | true=>exact (h q).elim
theorem XI (h:30 < rs.length):jn l rs=false:=rb (P:=True) fun q=>by have:=(iA.1 q).1;omega
theorem XL (h:10 < l.length):jn l rs=false:=rb (P:=True) fun q=>by have:=(iA.1 q).2.1;omega
theorem XM (hi:i < l.length) (h:60 < (l.getD i []).length):jn l rs=false:=rb (P:=True) fun q=>by have:=(iA.1 q).2.2.1 _ (aX (d:=([]:Wd)) hi);omega
theorem Cy (hi:i < rs.length) (h:40 < (rs.getD i .zero).left.length\/40 < (rs.getD i .zero).right.length\/60 < (rs.getD i .zero).proof.length):jn l rs=false:=rb (P:=True) fun q=>by
  have:=lL.1 ((iA.1 q).2.2.2 _ (aX (d:=.zero) hi));omega
theorem XO (hi:i < rs.length) (hj:j < (rs.getD i .zero).proof.length) (h:200 < ((rs.getD i .zero).proof.getD j .zero).conj.length):jn l rs=false:=rb (P:=True) fun q=>by
  have:=(lL.1 ((iA.1 q).2.2.2 _ (aX (d:=.zero) hi))).2.2.2 _ (aX (d:=ca.zero) hj);omega
theorem wD {α:Type} {p:α->Prop} {l:List α} {d:α} (hi:l.length<=i) (h:∀ j,j < i->p (l.getD j d)):∀ x ∈ l,p x:=fun x hx=>by
  obtain ⟨j,hj,rfl⟩:=VQ hx
  have:=h j O
  rwa [gd hj] at this
theorem NF (h1:rs.length<=30) (h2:l.length<=10) (hi:l.length<=i) (h3:∀ j,j < i->(l.getD j []).length<=60) (hj:rs.length<=j) (h4:∀ k,k < j->ra (rs.getD k .zero)=true):jn l rs=true :=
  iA.2 ⟨h1,h2,wD (p:=fun w=>w.length<=60) hi h3,wD (p:=fun r=>ra r=true) hj h4⟩
theorem I4 (h1:¬ 40 < r.left.length) (h2:¬ 40 < r.right.length) (h3:¬ 60 < r.proof.length) (hj:r.proof.length<=j) (h4:∀ k,k < j->(r.proof.getD k .zero).conj.length<=200):ra r=true :=
  lL.2 ⟨by omega,by omega,by omega,wD (p:=fun c=>c.conj.length<=200) hj h4⟩
theorem KR {k:Nat} {d:List ca} (h:∀ c ∈ d,c.conj.length<=k):dN d<=k * d.length:=by
  induction d with
  | nil=>simp [dN]
  | cons a d ih =>
    rw [wO,Xq,Nat.mul_succ]
    have h1:=h a VX
    have h2:=ih fun c hc=>h c (VZ _ hc)
    omega
theorem NA (h:jn l rs=true):Sml l rs:=by
  obtain ⟨h1,h2,h3,h4⟩:=iA.1 h
  refine ⟨by omega,fun x hx=>by have:=h3 x hx;omega,by omega,fun r hr=>?_⟩
  have h5:=lL.1 (h4 r hr)
  have h6:=KR h5.2.2.2
  have h7:dN r.proof<=200 * 60:=Xj h6 (Nat.mul_le_mul_left _ h5.2.2.1)
  omega
end
theorem Xu (g:Int) (u:Value) (l:List W8) (rv:Value) (rs:List aQ) (A:AH) (hu:bz A 1 u (dB l)) (hr:bz A 3 rv (dh rs)) (hp:Proofs A rs):bH prog 11 #[.agg #[num (g),u,rv]] A (fun v A1=>v=.bool (jn l rs)/\A.le A1/\A1.wf):=by
 refine aN (e:=[(0,.agg #[num (g),u,rv])]) (args:=[.agg #[num (g),u,rv]]) call11 func11 Z results11 ntmps11 Z Z Z (fun wf=>?_);have bP:=AH.le.refl A;refine ak.sq fun h2=>.region<|.l Z (fun _ _ ac _=>dQ wf rfl rfl fun A5 b4 a9=>?_);have aa:=bP.trans a9.le;refine ac _ _<|.I Z<|.nil<|h2<|.sq fun h9=>.sq fun ai=>.region<|.p (ae dU ja U Z)<|.p (ah jj Z Z a9.get Z)<|.p (bx (n:=rs.length) o6 Z (hr.le aa) O (dt _)) ?_;refine Ops.p (ej (b:=30) Z Z)<|.J Z<|.part (t:=11) Z (fun bR=>?_) (fun bR=>?_)
 ·refine Ops.off Z Z Z Z<|.off Z Z Z Z<|.off Z Z Z Z<|.off Z Z Z Z<|.off Z Z Z Z<|.p (aJ Z Z)<|.nil<|ai<|.cond_true Z<|.sq fun aV=>?_;refine ak.region<|.I Z<|.nil<|aV<|.rt (by exact aH Z (⟨by (rw [XI ‹_›];rfl),aa,a9.wf⟩))
 refine Ops.on Z Z<|.p (ae gy iw U Z)<|.on Z Z<|.p (ae iR qk U Z)<|.on Z Z<|.p (ah qc Z Z a9.get Z)<|.on Z Z<|.p (bx (n:=l.length) ko Z (hu.le aa) O (dY _))<|.on Z Z<|.p (ej (b:=10) Z Z) ?_;refine Ops.p (aO Z Z)<|.nil<|ai<|.if rfl (fun bS=>?_) (fun bS=>?_)
 ·refine ak.sq fun aY=>.region<|.I Z<|.nil<|aY<|.rt (by exact aH Z (⟨by (rw [XL ‹_›];rfl),aa,a9.wf⟩))
 refine ak.skip<|h9<|.sq fun aZ=>.sq fun b0=>.region<|.I Z<|.nil<|b0<|.block<|.loop (X:=Nat) (fun j=>[(1,.pointer (some ⟨b4,0,none⟩)),(3,num ((j:Nat):Int))]) (fun j B=>(j<=l.length/\rs.length<=30/\l.length<=10/\∀ k,k < j->(l.getD k []).length<=60)/\A.le B/\B.get b4=some (.row true [num (g),u,rv] 3)) (fun j=>l.length - j) 0 (kg Z Z) (⟨⟨XZ _,by omega,by omega,fun k h=>by omega⟩,aa,a9.get⟩) ?_;rintro j B23 ⟨⟨hj,ap,ar,av⟩,a4,a0⟩;refine ak.wf fun aD=>.sq fun b1=>.sq fun b2=>.region<|.J Z<|.p (ae gy iw U Z)<|.p (ae iR qk U Z)<|.p (ah qc Z Z a0 Z)<|.p (bx (n:=l.length) ko Z (hu.le a4) O (dY _))<|.p (bK Z Z) ?_;refine Ops.nil<|b2<|.if rfl (fun bT=>?_) (fun bT=>?_)
 ·refine ak.skip<|b1<|.sq fun b3=>.block<|.sq fun b5=>.region<|.p (ae gy iw U Z)<|.p (ae iR qk U Z)<|.p (ah qc Z Z a0 Z)<|.J Z ?_;obtain ⟨cS,cX,cH,dv,ct,dd,d1,aG,bL,aR,cc,az⟩:=bz.at (i:=j) (hu.le a4) Ok O;refine Ops.p (al ko fK Z aG Z bL)<|.p (ah gK Z Z aR ((cb az).trans (dm O)))<|.p (cM u9 Z)<|.p (ej (b:=60) Z Z)<|.nil<|b5<|.if rfl (fun bU=>?_) (fun bU=>?_)
  ·refine ak.sq fun b6=>.region<|.I Z<|.nil<|b6<|.rt (by exact aH Z (⟨by (rw [XM (i:=j) O ‹_›];rfl),a4,aD⟩))
  refine ak.skip<|b3<|.region<|.J Z<|.p (bk (b:=1) Z Z O)<|.I Z<|.nil ?_;exact ⟨j + 1,kg Z Z,Z,⟨⟨by omega,ap,ar,fun k h=>(XV.1 h).elim (av k) (fun z=>by subst z;omega)⟩,a4,a0⟩,O1⟩
 refine ak.exit<|aZ<|.sq fun b7=>.sq fun b8=>.region<|.I Z<|.nil<|b8<|.block<|.loop (X:=Nat) (fun i=>[(1,.pointer (some ⟨b4,0,none⟩)),(4,num ((i:Nat):Int))]) (fun i B=>(i<=rs.length/\∀ k,k < i->ra (rs.getD k .zero)=true)/\A.le B/\B.get b4=some (.row true [num (g),u,rv] 3)) (fun i=>rs.length - i) 0 (kg Z Z) (⟨⟨XZ _,fun k h=>by omega⟩,a4,a0⟩) ?_;rintro i B43 ⟨⟨hi,hc⟩,a5,a1⟩;refine ak.wf fun ab=>.sq fun b9=>.sq fun ba=>.region<|.J Z<|.p (ae dU ja U Z)<|.p (ah jj Z Z a1 Z)<|.p (bx (n:=rs.length) o6 Z (hr.le a5) O (dt _))<|.p (bK Z Z)<|.nil ?_;refine ba<|.if rfl (fun bV=>?_) (fun bV=>?_)
 ·refine ak.skip<|b9<|.sq fun bb=>.block<|.sq fun bc=>.region<|.p (ae dU ja U Z)<|.p (ah jj Z Z a1 Z)<|.J Z ?_;obtain ⟨cT,cZ,cK,dw,cv,di,d2,aI,bM,aS,ay,ck⟩:=bz.at (i:=i) (hr.le a5) Ow O;refine Ops.p (al o6 iW Z aI Z bM)<|.p (ao wB iW Z Z aS (ay.trans (Xk some (ju O))))<|.m (fun aB=>co ab NX rfl fun A57 ag a3=>?_);refine aB<|.m (fun aC=>aU (cs:=[aM ((rs.getD i .zero).left),aM ((rs.getD i .zero).right),(rs.getD i .zero).pv]) (c':=[aM ((rs.getD i .zero).left),aM ((rs.getD i .zero).right),(rs.getD i .zero).pv]) a3.wf rfl rfl rfl rfl iW a3.get G (lr (hp.get (show i < rs.length by omega))) rfl fun A62 V=>?_);have a6:=an (a5.trans a3.le) wf (bh wf (Xj a5.n a3.lo)) V.n V.keep;refine aC<|.nil<|bc<|.sq fun bd=>.sq fun ad=>.region<|.p (ae gk fK U Z)<|.p (ah gK Z Z V.get Z)<|.p (cM u9 Z)<|.p (ej (b:=40) Z Z) ?_;refine Ops.J Z<|.part (t:=50) Z (fun bY=>?_) (fun bY=>?_)
  ·refine Ops.off Z Z Z Z<|.off Z Z Z Z<|.off Z Z Z Z<|.off Z Z Z Z<|.p (aJ Z Z)<|.J Z<|.off Z Z Z Z<|.off Z Z Z Z<|.off Z Z Z Z<|.off Z Z Z Z ?_;refine Ops.p (aJ Z Z)<|.nil<|ad<|.cond_true Z<|.sq fun bl=>.region<|.I Z<|.nil<|bl<|.rt (by exact aH Z (⟨by (rw [Cy (i:=i) O O];rfl),a6,V.wf⟩))
  refine Ops.on Z Z<|.p (ae kx fK U Z)<|.on Z Z<|.p (ah gK Z Z V.get Z)<|.on Z Z<|.p (cM u9 Z)<|.on Z Z<|.p (ej (b:=40) Z Z)<|.p (aO Z Z)<|.J Z ?_;refine Ops.part (t:=56) Z (fun c0=>?_) (fun c0=>?_)
  ·refine Ops.off Z Z Z Z<|.off Z Z Z Z<|.off Z Z Z Z<|.off Z Z Z Z<|.p (aJ Z Z)<|.nil<|ad<|.cond_true Z<|.sq fun bm=>.region ?_;refine Ops.I Z<|.nil<|bm<|.rt (by exact aH Z (⟨by (rw [Cy (i:=i) O O];rfl),a6,V.wf⟩))
  refine Ops.on Z Z<|.p (ae pm rc U Z)<|.on Z Z<|.p (ah uv Z Z V.get Z)<|.on Z Z<|.p (bx (n:=((rs.getD i .zero).proof).length) vA Z ((hp.get O).le a6) O (eJ _))<|.on Z Z<|.p (ej (b:=60) Z Z)<|.p (aO Z Z)<|.nil ?_;refine ad<|.if rfl (fun c3=>?_) (fun c3=>?_)
  ·refine ak.sq fun bp=>.region<|.I Z<|.nil<|bp<|.rt (by exact aH Z (⟨by (rw [Cy (i:=i) O O];rfl),a6,V.wf⟩))
  refine ak.skip<|bd<|.sq fun br=>.region<|.I Z<|.nil<|br<|.block<|.loop (X:=Nat) (fun m=>[(1,.pointer (some ⟨b4,0,none⟩)),(4,num ((i:Nat):Int)),(5,.pointer (some ⟨ag,0,none⟩)),(6,num ((m:Nat):Int))]) (fun m B=>(m<=(rs.getD i .zero).proof.length/\∀ k,k < m->((rs.getD i .zero).proof.getD k .zero).conj.length<=200)/\A.le B/\B.get b4=some (.row true [num (g),u,rv] 3)/\B.get ag=some (.row true [aM ((rs.getD i .zero).left),aM ((rs.getD i .zero).right),(rs.getD i .zero).pv] 3)) (fun m=>(rs.getD i .zero).proof.length - m) 0 (mc Z Z Z Z) (⟨⟨XZ _,fun k h=>by omega⟩,a6,(V.k (ne_new ab a1 a3.lo) (a3.le.g a1)),V.get⟩) ?_;rintro m B82 ⟨⟨hk,ac⟩,a7,a8,a2⟩;refine ak.wf fun aF=>.sq fun bu=>.sq fun bv=>.region<|.J Z<|.p (ae pm rc U Z)<|.p (ah uv Z Z a2 Z)<|.p (bx (n:=((rs.getD i .zero).proof).length) vA Z ((hp.get O).le a7) O (eJ _))<|.p (bK Z Z)<|.nil ?_;refine bv<|.if rfl (fun c4=>?_) (fun c4=>?_)
  ·refine ak.skip<|bu<|.sq fun bA=>.block<|.sq fun bB=>.region<|.p (ae pm rc U Z)<|.p (ah uv Z Z a2 Z)<|.J Z ?_;obtain ⟨cV,d0,cP,dz,cC,dj,d3,aP,bO,aT,ch,aA⟩:=bz.at (i:=m) ((hp.get O).le a7) OJ O;refine Ops.p (al vA mu Z aP Z bO)<|.p (ae ky fK U Z)<|.p (ah gK Z Z aT ((aA 0 U).trans (KW O)))<|.p (cM u9 Z)<|.p (ej (b:=200) Z Z)<|.nil<|bB<|.if rfl (fun c7=>?_) (fun c7=>?_)
   ·refine ak.sq fun bC=>.region<|.I Z<|.nil<|bC<|.rt (by exact aH Z (⟨by (rw [XO (i:=i) (j:=m) O O ‹_›];rfl),a7,aF⟩))
   refine ak.skip<|bA<|.region<|.J Z<|.p (bk (b:=1) Z Z O)<|.I Z<|.nil ?_;exact ⟨m + 1,mc Z Z Z Z,Z,⟨⟨by omega,fun k h=>(XV.1 h).elim (ac k) (fun z=>by subst z;omega)⟩,a7,a8,a2⟩,O1⟩
  refine ak.exit<|bb<|.region<|.J Z<|.p (bk (b:=1) Z Z O)<|.I Z<|.nil ?_;exact ⟨i + 1,kg Z Z,Z,⟨⟨by omega,fun k h=>(XV.1 h).elim (hc k) (fun z=>by subst z;exact I4 ‹_› ‹_› ‹_› O ac)⟩,a7,a8⟩,O1⟩
 refine ak.exit<|b7<|.sq fun bD=>.region<|.I Z<|.nil<|bD<|.rt (by exact aH Z (⟨by (rw [NF ap ar O av O hc];rfl),a5,ab⟩))
namespace Fr
def NC (w:W8):Prop:=∀ i,i + 1 < w.length->w.getD (i + 1) 0 ≠ w.getD i 0 ^^^ 32
theorem mD {a b:W8} {i:Nat} (h:i < a.length):(a ++ b).getD i 0=a.getD i 0:=by
  rw [XJ,Sx h,<- XJ]
theorem po {a b:W8} {i:Nat} (h:a.length<=i):(a ++ b).getD i 0=b.getD (i - a.length) 0:=by
  rw [XJ,TV h,<- XJ]
theorem ze {a:W8} {i n:Nat} (h:i < n):(a.take n).getD i 0=a.getD i 0:=by
  rw [XJ,SY h,<- XJ]
theorem NC.left {a b:W8} (h:NC (a ++ b)):NC a:=fun i hi=>by
  have:=h i (by rw [Xz];omega)
  rwa [mD O,mD O] at this
theorem NC.take {a:W8} (h:NC a) (n:Nat):NC (a.take n):=NC.left (b:=a.drop n) (by rw [Rq];exact h)
theorem NC.fold:∀ (w s:W8),NC (s ++ w)->w.foldl push s=s ++ w
  | [],s,_=>by simp
  | c :: w,s,h=>by
    have hp:push s c=s ++ [c]:=by
      unfold push
      rw [Xy]
      rintro ⟨q1,q2⟩
      have:=h (s.length - 1) Or
      rw [show s.length - 1 + 1=s.length by omega,po (XX _),mD O,q2,uL] at this
      simp at this
    rw [Tj,hp,NC.fold w (s ++ [c]) (by simpa using h)]
    simp
theorem NC.isRed {w:W8} (h:NC w):uq w=w:=NC.fold w [] (by simpa using h)
theorem NC.pushC {s:W8} (h:NC s) (c:UInt8):NC (push s c):=by
  unfold push
  split
  · exact h.take _
  · rename_i q
    intro i hi
    simp only [Xz,Xq,Xx] at hi
    by_cases e:i + 1 < s.length
    · rw [mD e,mD O];exact h i e
    · have e2:i + 1=s.length:=by omega
      rw [po O,mD O,show i + 1 - s.length=0 by omega]
      have e3:i=s.length - 1:=by omega
      intro r
      refine q ⟨by omega,?_⟩
      rw [<- e3]
      have r:c=s.getD i 0 ^^^ 32:=r
      rw [r,uL]
theorem NC.ofFold:∀ (w s:W8),NC s->NC (w.foldl push s)
  | [],_,h=>h
  | c :: w,s,h=>NC.ofFold w _ (h.pushC c)
theorem NC.ofRed (w:W8):NC (uq w):=NC.ofFold w [] fun i hi=>by simp at hi
theorem NC.iff (w:W8):NC w ↔ uq w=w:=⟨NC.isRed,fun h=>h ▸ NC.ofRed w⟩
def E (a b:W8):Prop:=uq a=uq b
theorem all_wcheck {g:Int} {w:W8} (h:bZ g w=0):(1<=g/\g<=8)/\w.length<=100000/\w.all (je g)=true:=by
  unfold bZ at h
  split at h
  · cases h
  · split at h
    · cases h
    · split at h
      · rename_i h1 h2 h3;exact ⟨by omega,by omega,h3⟩
      · cases h
end Fr
open Fr
namespace Fr
theorem okc8 {g:Int} (hg:g<=8) {w:W8} (h:w.all (je g)=true):w.all (je 8)=true:=by
  rw [Vx] at h ⊢
  intro c hc
  have:=h c hc
  simp only [je,XK,Vq] at this ⊢
  omega
theorem JI {g:Int} (hg:g<=8) {w:W8} (hl:w.length<=100000) (h:w.all (je g)=true):rN w=true:=by
  simp only [rN,XK,Vq]
  exact ⟨hl,okc8 hg h⟩
theorem Ze {g:Int} (hg:g<=8) {rs:List aQ} {k:W8} (hn:NC k) (hk:k.all (je g)=true) (hl:k.length<=100000) (h:∀ r ∈ rs,∀ i,¬ Mh k r.left i):nS rs k=true:=by
  simp only [nS,XK,Vq,Vx]
  refine ⟨by rw [c8,Xw (JI hg hl hk)];exact hn.isRed,fun r hr=>?_⟩
  have:¬ 0<=yZ k r.left 0:=fun q=>by
    obtain ⟨i,hi⟩:=AO.1 q
    exact h r hr i hi
  omega
end Fr
namespace CR
inductive St (L:List (Wd × Wd)):Wd->Wd->Prop
  | mk (a b:Wd) (s:Wd × Wd) (h:s ∈ L):St L (a ++ s.1 ++ b) (a ++ s.2 ++ b)
section
variable {L:List (Wd × Wd)} {x y z:Wd}
def dg (c:UInt8):Nat:=(ix c + 2).toNat
def code:Wd->Nat
  | []=>0
  | c :: w=>dg c * 18 ^ w.length + code w
theorem pre {a a' x y:Wd} (h:a ++ x=a' ++ y) (hl:a.length<=a'.length):∃ p,a'=a ++ p/\x=p ++ y:=by
  rcases List.append_eq_append_iff.1 h with ⟨p,h1,h2⟩ | ⟨p,h1,h2⟩
  · exact ⟨p,h1,h2⟩
  · have:p=[]:=TX.1 (by have:=Xk List.length h1;rw [Xz] at this;omega)
    subst this
    exact ⟨[],by simpa using h1.symm,by simpa using h2.symm⟩
variable {n:Nat}
end
end CR
namespace CR
variable {g:Int} {l:List Wd} {rs:List aQ} {w v x y:Wd}
theorem VF:∀ c:UInt8,0<=ix c->bq.getD (ix c).toNat 0=c/\bq.getD ((ix c).toNat ^^^ 1) 0=c ^^^ 32/\((ix c).toNat ^^^ 1) ^^^ 1=(ix c).toNat/\((ix c).toNat ^^^ 1) / 2=(ix c).toNat / 2:=iQ (by decide +kernel)
theorem Vg {c:UInt8} (h:je g c=true):([c ^^^ 32,c],([]:Wd)) ∈ bF g rs:=by
  simp only [je,XK,Vq] at h
  obtain ⟨k1,k2,k3,k4⟩:=VF c h.1
  refine List.mem_append_right _ (Vk.2 ⟨(ix c).toNat ^^^ 1,TY.2 O,?_⟩)
  rw [QM,k2,k3,k1]
theorem flip1:∀ x:Fin 16,bq.getD (x.1 ^^^ 1) 0=bq.getD x.1 0 ^^^ 32:=by decide
theorem WG {r:aQ} (h:r ∈ rs):(r.left,r.right) ∈ bF g rs:=List.mem_append_left _ (Vk.2 ⟨r,h,rfl⟩)
theorem in_cases {s:Wd × Wd} (h:s ∈ bF g rs):(∃ r ∈ rs,s=(r.left,r.right))\/∃ x,x < 2 * g.toNat/\s=(QM x,[]):=by
  rcases VJ.1 h with h | h
  · obtain ⟨r,hr,rfl⟩:=Vk.1 h;exact .inl ⟨r,hr,Z⟩
  · obtain ⟨x,hx,rfl⟩:=Vk.1 h;exact .inr ⟨x,TY.1 hx,Z⟩
theorem sides_at (i:Nat) (hi:i < (bF g rs).length) (h:rs.length<=i):(bF g rs).getD i ([],[])=(QM (i - rs.length),[])/\i - rs.length < 2 * g.toNat:=by
  rw [iL] at hi
  refine ⟨?_,by omega⟩
  unfold bF
  rw [XJ,TV (by simpa using h)]
  simp [show i - rs.length < 2 * g.toNat by omega]
end CR
def uX (rs:List aQ):Bool:=decide (rs.length<=14) && rs.all fun r=>decide (r.left.length<=14)
section
variable {rs:List aQ} {i:Nat}
theorem QH (hi:i < rs.length) (h:14 < (rs.getD i .zero).left.length):uX rs=false:=by
  rw [uX,show (rs.all fun r=>decide (r.left.length<=14))=false from List.all_eq_false.2 ⟨_,aX (d:=.zero) hi,by simp only [Vq];omega⟩,Bool.and_false]
theorem zn (hi:i<=rs.length) (h:rs.length<=i\/15<=i) (hc:∀ k,k < i->(rs.getD k .zero).left.length<=14):uX rs=decide (rs.length<=14):=by
  rcases h with h | h
  · rw [uX,show (rs.all fun r=>decide (r.left.length<=14))=true from Vx.2 fun r hr=>by
      obtain ⟨k,hk,rfl⟩:=VQ hr
      have:=hc k O
      rw [gd hk] at this;simpa using this,Bool.and_true]
  · rw [uX,Xv O];rfl
variable {w:Wd} {a b:Int} {m j:Nat}
end
theorem TM {w:Wd} {m n:Nat} (h:m + n<=w.length):w=w.take m ++ (w.take (m + n)).drop m ++ w.drop (m + n):=by
  conv=>lhs;rw [<- Rq (m + n) w]
  congr 1
  have:=Rq m (w.take (m + n))
  rw [List.take_take,Nat.min_eq_left O] at this
  exact this.symm
theorem Pr {w:Wd} {m:Nat} (h:m + 1 < w.length):(w.take (m + 2)).drop m=[w.getD m 0,w.getD (m + 1) 0]:=by
  rw [Tv Or,Tv Or,SV Or]
  simp [show m < w.length by omega,h]
theorem UX {g:Int} {l:List Wd} {rs:List aQ} (h:¬ ¬ ((if bN g l rs then 0 else 100:Nat)=0)):bN g l rs=true:=by
  cases q:bN g l rs with
  | true=>rfl
  | false=>rw [q] at h;exact absurd (Decidable.not_not.1 h) U
theorem Xi (g:Int) (u:Value) (l:List W8) (rv:Value) (rs:List aQ) (A:AH) (hr:bz A 3 rv (dh rs)):bH prog 26 #[.agg #[num (g),u,rv]] A (fun v A1=>v=.bool (uX rs)/\A.le A1/\A1.wf):=by
 refine aN (e:=[(0,.agg #[num (g),u,rv])]) (args:=[.agg #[num (g),u,rv]]) call26 func26 Z results26 ntmps26 Z Z Z (fun wf=>?_);have ap:=AH.le.refl A;refine ak.sq fun h2=>.region<|.m (fun ag=>dQ wf rfl rfl fun A5 b4 a3=>?_);refine ag<|.I Z<|.nil<|h2<|.sq fun h9=>.sq fun a7=>.region<|.I Z<|.nil<|a7 ?_;refine ak.block<|.loop (X:=Nat) (fun i=>[(1,.pointer (some ⟨b4,0,none⟩)),(3,num ((i:Nat):Int))]) (fun i B=>(i<=rs.length/\i<=15/\∀ k,k < i->(rs.getD k .zero).left.length<=14)/\A.le B/\B.get b4=some (.row true [num (g),u,rv] 3)) (fun i=>rs.length - i) 0 (kg Z Z) (⟨⟨XZ _,by omega,fun k h=>by omega⟩,(ap.trans a3.le),a3.get⟩) ?_;rintro i B13 ⟨⟨hi,aF,hc⟩,a0,V⟩;refine ak.wf fun a1=>.sq fun a8=>.sq fun a2=>.region<|.J Z<|.p (ae dU ja U Z)<|.p (ah jj Z Z V Z)<|.p (bx (n:=rs.length) o6 Z (hr.le a0) O (dt _))<|.p (bK Z Z)<|.J Z ?_;refine Ops.part (t:=9) Z (fun ar=>?_) (fun ar=>?_)
 ·refine Ops.on Z Z<|.J Z<|.on Z Z<|.p (bK (b:=15) Z Z)<|.p (aJ Z Z)<|.nil<|a2<|.if rfl (fun av=>?_) (fun av=>?_)
  ·refine ak.skip<|a8<|.sq fun a9=>.block<|.sq fun aa=>.region<|.p (ae dU ja U Z)<|.p (ah jj Z Z V Z)<|.J Z ?_;obtain ⟨aC,aD,aB,aP,aA,aI,aG,a5,ai,a6,az,a4⟩:=bz.at (i:=i) (hr.le a0) Ow O;refine Ops.p (al o6 iW Z a5 Z ai)<|.p (ae gk fK U Z)<|.p (ah gK Z Z a6 ((a4 0 U).trans (oM O)))<|.p (cM u9 Z)<|.p (ej (b:=14) Z Z)<|.nil<|aa<|.if rfl (fun ay=>?_) (fun ay=>?_)
   ·refine ak.sq fun ab=>.region<|.I Z<|.nil<|ab<|.rt (by exact aH Z (⟨by (rw [QH (i:=i) O O];rfl),a0,a1⟩))
   refine ak.skip<|a9<|.region<|.J Z<|.p (bk (b:=1) Z Z O)<|.I Z<|.nil ?_;exact ⟨i + 1,kg Z Z,Z,⟨⟨by omega,by omega,fun k h=>(XV.1 h).elim (hc k) (fun z=>by subst z;omega)⟩,a0,V⟩,O1⟩
  refine ak.exit<|h9<|.sq fun ac=>.region<|.p (ae dU ja U Z)<|.p (ah jj Z Z V Z)<|.p (bx (n:=rs.length) o6 Z (hr.le a0) O (dt _))<|.p (oD (b:=14) Z Z)<|.I Z<|.nil ?_;refine ac<|.rt (by exact aH Z (⟨by (rw [zn hi O hc];rfl),a0,a1⟩))
 refine Ops.off Z Z Z Z<|.off Z Z Z Z<|.p (aO Z Z)<|.nil<|a2<|.cond_false Z<|.exit<|h9<|.sq fun ad=>.region ?_;refine Ops.p (ae dU ja U Z)<|.p (ah jj Z Z V Z)<|.p (bx (n:=rs.length) o6 Z (hr.le a0) O (dt _))<|.p (oD (b:=14) Z Z)<|.I Z<|.nil<|ad<|.rt (by exact aH Z (⟨by (rw [zn hi O hc];rfl),a0,a1⟩))
section
variable {g:Int} {l:List Wd} {z w s x y:Wd}
end
section
variable {g:Int} {l:List Wd} {rs:List aQ} {w v:Wd}
end
section
variable {A0 A:AH} {rs:List aQ} {r:aQ} {b:Nat} {u:Value}
end
theorem inf9:prog.info? 9=some Tryz.t9:=by kernel_rfl
namespace CR
end CR
abbrev UA:=Wd × Wd × List ca
section
variable {rs rs2:List aQ} {i:Nat} {acc:List UA} {R:Option (List UA)}
end
section
variable {g:Int} {l:List Wd} {rs rs2:List aQ}
end
open Go.Sort
namespace V
section
variable {A:AH} {w:World} {α:Type} [Inhabited α]
theorem AX (enc:α->List Value) (k:Nat) (hk:∀ x,(enc x).length=k) (d:List α):(flatK enc k d.toArray).toList=d.flatMap enc:=by
  apply List.ext_getElem?
  intro t
  by_cases h:t < d.length * k
  · have k0 : 0 < k := by rcases Sz k with q | q; · subst q; simp at h
                          · exact q
    have hq:t / k < d.length:=Nat.div_lt_of_lt_mul (by rw [Nat.mul_comm];exact h)
    have e1:(flatK enc k d.toArray).toList[t]? = some ((enc d.toArray[t / k]!)[t % k]!):=by
      have:=get_flatK enc k d.toArray t (by simpa using h)
      rw [Array.getElem?_toList,<- this]
      simp [h]
    rw [e1]
    have key:∀ (d:List α) (t:Nat),t / k < d.length->(d.flatMap enc)[t]? = some ((enc d[t / k]!)[t % k]!):=by
      intro d
      induction d with
      | nil=>intro t h;simp at h
      | cons a d ih =>
        intro t ht
        rw [Sj]
        by_cases q:t < k
        · rw [Sx (by rw [hk];exact q),Nat.div_eq_of_lt q,Nat.mod_eq_of_lt q]
          have:t < (enc a).length:=by rw [hk];exact q
          simp [this]
        · rw [TV (by rw [hk];omega),hk]
          have h1:t / k=(t - k) / k + 1:=by rw [Nat.div_eq_sub_div k0 O]
          have h2:t % k=(t - k) % k:=Nat.mod_eq_sub_mod O
          rw [ih (t - k) (by simp only [Xq] at ht;omega),h1,h2]
          simp
    rw [key d t hq]
    simp
  · rw [RJ Or,RJ]
    rw [List.length_flatMap]
    have:(d.map fun x=>(enc x).length).sum=d.length * k:=by
      clear h
      induction d with
      | nil=>simp
      | cons a d ih=>simp only [Tz,List.sum_cons,Xq,hk a,ih,Rk];omega
    omega
end
end V
abbrev okMn (x:aQ):Prop:=rN x.left=true/\x.pv.oneCell'=true
abbrev OkMn:={x:aQ // okMn x}
instance:Inhabited OkMn:=⟨⟨.zero,by decide,by decide⟩⟩
theorem FG {g:Int} {l:List Wd} {rs:List aQ} (hs:bN g l rs=true) (h:jn l rs=true):ga (il g rs)<=18000:=by
  have hg:=kn hs
  obtain ⟨n1,_,_,n2⟩:=iA.1 h
  have key:∀ L:List (Wd × Wd),(∀ s ∈ L,s.1.length<=40)->ga (L.map (·.1))<=L.length * 40:=by
    intro L
    induction L with
    | nil=>intro _;simp [ga]
    | cons a L ih =>
      intro h
      have h1:=ih fun s hs=>h s (VZ _ hs)
      have h2:=h a VX
      simp only [ga,Tz,List.sum_cons,Xq] at h1 ⊢
      omega
  have h1:=key (bF g rs) fun s hs=>by
    rcases CR.in_cases hs with ⟨r,hr,rfl⟩ | ⟨x,_,rfl⟩
    · exact (lL.1 (n2 r hr)).1
    · show 2<=40;decide
  have h2:=iL g rs
  unfold il
  omega
theorem JB:∀ c:UInt8,c < 128->(Utf8.encode (c.toNat:Int)).data = #[c]:=iQ (by decide +kernel)
section
variable {P:Program} {nt:Nat} {all:Array Oper} {os:List Oper} {Q:Exit->Fr->AH->Prop} {e:ii} {ds:List Deferred} {A:AH} {x:Operand} {s t:TypeId} {ty:TypeId} {ps:String} {af:Array Edge} {dst:Option Nat} {k:IntKind} {c:UInt8}
theorem V.Ops.runeStr (hd:ij nt dst=true) (hs:P.underlying s=some (.int k)) (ht:P.underlying t=some .string) (hx:cd e x=some (dT c)) (hc:c < 128)
    (h:Ops P nt all os Q ⟨gw e dst (aM [c]),ds⟩ A):Ops P nt all ({ dst:=dst,op:=.convert s t x,type:=ty,pos:=ps,after:=af,guard:=none } :: os) Q ⟨e,ds⟩ A:=by
  refine Ops.val Z hd (fun a ha w hw=>?_) h
  have h1:=cI ha hx
  have h2:Utf8.encode (c.toNat:Int)=⟨#[c]⟩:=by
    have:=JB c hc
    cases q:Utf8.encode (c.toNat:Int) with | mk d=>rw [q] at this;simp only at this;rw [this]
  simp only [execOp,h1,Go.convert,Sem.run_bind,cg hs,cg ht,Result.andThen_ok,dT,Conv.intToString,Sem.run_pure,h2]
  rfl
end
def tQ (g:Int) (rs:List aQ) (i:Nat):Sd:=⟨nm rs.length i,((bF g rs).getD i ([],[])).1,((bF g rs).getD i ([],[])).2⟩
def xB (g:Int) (rs:List aQ):List Sd:=(List.range (bF g rs).length).map (tQ g rs)
section
variable {g:Int} {rs:List aQ} {i x:Nat}
theorem WE:(xB g rs).length=rs.length + 2 * g.toNat:=by simp [xB,iL]
theorem Zw (h:i < (bF g rs).length):(xB g rs).getD i .zero=tQ g rs i:=by simp [xB,h]
theorem R5 (h:i < rs.length):tQ g rs i=⟨(i:Int),(rs.getD i .zero).left,(rs.getD i .zero).right⟩:=by
  have:(bF g rs).getD i ([],[])=((rs.getD i .zero).left,(rs.getD i .zero).right):=by
    unfold bF
    rw [XJ,Sx (by simpa using h)]
    simp [h]
  rw [tQ,this,nm,Xw h]
theorem R0 (h:x < 2 * g.toNat):tQ g rs (rs.length + x)=⟨-1 - (x:Int),QM x,[]⟩:=by
  have:=(CR.sides_at (g:=g) (rs:=rs) (rs.length + x) (by rw [iL];omega) O).1
  rw [tQ,this,nm,Xy O,Nat.add_sub_cancel_left]
  congr 1;omega
theorem MI (h:i < rs.length):(List.range i).map (tQ g rs) ++ [(⟨((i:Nat):Int),(rs.getD i .zero).left,(rs.getD i .zero).right⟩:Sd)]=(List.range (i + 1)).map (tQ g rs):=by
  rw [Ty,VV,<- R5 h];rfl
theorem MJ (h:x < 2 * g.toNat):(List.range (rs.length + x)).map (tQ g rs) ++ [(⟨-1 - ((x:Nat):Int),[bq.getD x 0] ++ [bq.getD (x ^^^ 1) 0],[]⟩:Sd)]=(List.range (rs.length + (x + 1))).map (tQ g rs):=by
  rw [<- Nat.add_assoc,Ty,VV]
  have:=R0 (g:=g) (rs:=rs) h
  show _ ++ _=_ ++ [tQ g rs (rs.length + x)]
  rw [this];rfl
end
section
variable {x y:Sd} {m k:Nat} {I J:Int} {a b:Wd × Wd}
end
theorem tu {x:Nat} (h:x < 16):bq.getD x 0 < 128:=(show ∀ a:Fin 16,bq.getD a.1 0 < 128 by decide) ⟨x,h⟩
theorem xor1n {x:Nat} (h:x < 16):qf .xor .i64 ((x:Nat):Int) ((1:Nat):Int)=some (num (((x ^^^ 1:Nat)):Int)):=by
  have key:∀ k:Fin 16,IntKind.i64.wrap ((BitVec.ofInt 64 (k.1:Int) ^^^ BitVec.ofInt 64 1).toNat:Int)=(k.1 ^^^ 1:Nat):=by decide +kernel
  have h3:=key ⟨x,h⟩
  simp only at h3
  rw [<- h3];rfl
theorem JD:eo prog 113 1=some (9,1):=by kernel_rfl
theorem PX:prog.info? 113=some Tryz.t113:=by kernel_rfl
theorem Yu:dk prog 113=some [(0,1),(1,1),(2,1)]:=by kernel_rfl
theorem zX:dy prog 113=some 3:=by kernel_rfl
theorem CD:type_of% @underlying110:=@underlying110
theorem u113:type_of% @underlying113:=@underlying113
theorem NW:cE prog 113=some (.agg #[.int .i64 0,.string ⟨⟨[]⟩⟩,.string ⟨⟨[]⟩⟩]):=by kernel_rfl
theorem SO (g:Int) (u:Value) (l:List W8) (rv:Value) (rs:List aQ) (A:AH) (hg:1<=g/\g<=8) (hn:rs.length<=1000000) (hu:bz A 1 u (dB l)) (hr:bz A 3 rv (dh rs)) (hp:Proofs A rs):bH prog 71 #[.agg #[num (g),u,rv]] A (fun v A1=>A.le A1/\A1.wf/\Fresh A A1 v 3 (FB (xB g rs))):=by
 refine aN (e:=[(0,.agg #[num (g),u,rv])]) (args:=[.agg #[num (g),u,rv]]) call71 func71 Z results71 ntmps71 Z Z Z (fun wf=>?_);have bA:=AH.le.refl A;obtain ⟨gn,rfl⟩:∃ n:Nat,g=n:=⟨g.toNat,by omega⟩;refine ak.sq fun h2=>.region<|.m (fun bp=>dQ wf rfl rfl fun A5 b4 ar=>?_);have bv:=bA.trans ar.le;refine bp<|.I Z<|.nil<|h2<|.sq fun h9=>.region<|.I Z<|.nil<|h9<|.sq fun b2=>?_;refine ak.sq fun b3=>.region<|.I Z<|.nil<|b3<|.block<|.loop (X:=Nat × List Sd × Value) (fun ⟨i,o,s⟩=>[(1,.pointer (some ⟨b4,0,none⟩)),(3,s),(4,num ((i:Nat):Int))]) (fun ⟨i,o,s⟩ B=>(i<=rs.length/\o=(List.range i).map (tQ (gn:Int) rs))/\A.le B/\Fresh A B s 3 (FB o)/\B.get b4=some (.row true [num ((gn:Nat):Int),u,rv] 3)/\V.blk s ≠ some b4) (fun ⟨i,o,s⟩=>rs.length - i) (⟨0,[],.slice none 0 0⟩) (jh Z Z Z) (⟨⟨XZ _,by simp⟩,bv,(Fresh.nil A A5 3),ar.get,(fun q=>by cases q)⟩) ?_;rintro ⟨i,o,s⟩ B15 ⟨⟨hi,ho⟩,a3,a9,a0,a1⟩;refine ak.wf fun aV=>?_;have hlo:o.length=i:=by rw [ho];simp
 refine ak.sq fun b5=>.sq fun b6=>.region<|.J Z<|.p (ae dU ja U Z)<|.p (ah jj Z Z a0 Z)<|.p (bx (n:=rs.length) o6 Z (hr.le a3) O (dt _))<|.p (bK Z Z)<|.nil<|b6 ?_;refine ak.if rfl (fun bB=>?_) (fun bB=>?_)
 ·refine ak.skip<|b5<|.sq fun b7=>.block<|.drawn [0,1,2,3,4,5,6,7,8,9,10,11,12,13,14,15,16,17] mixed Y Y Z<|.p Z (aK Z)<|.p Z (aK Z)<|.p Z (ae dU ja U Z)<|.p Z (ah jj Z Z a0 Z)<|.p Z (aK Z) ?_;obtain ⟨bU,c3,bS,cv,bP,ck,cc,aY,br,b0,bM,av⟩:=bz.at (i:=i) (hr.le a3) Ow O;refine DOps.p Z (al o6 iW Z aY Z br)<|.p Z (ae gk fK U Z)<|.p Z (ah gK Z Z b0 ((av 0 U).trans (oM O)))<|.p Z (ae dU ja U Z)<|.p Z (ah jj Z Z a0 Z)<|.p Z (aK Z) ?_;obtain ⟨bV,c4,bT,cC,bR,ct,ch,aZ,bu,b1,bO,ay⟩:=bz.at (i:=i) (hr.le a3) Ow O;refine DOps.p Z (al o6 iW Z aZ Z bu)<|.p Z (ae kx fK U Z)<|.p Z (ah gK Z Z b1 ((ay 1 U).trans (Sa O)))<|.p Z (dn Z (bE u113 NW Yu Z))<|.m Z (fun aB=>aE (c:=[num ((i:Nat):Int),aM ((rs.getD i .zero).left),aM ((rs.getD i .zero).right)]) aV rfl (aq CD zX NW rfl U U rfl) fun A32 bY a4=>?_);have ai:=a4.le.g a0;have ab:=a9.le a4.le;refine aB (bg.none Y)<|.m Z (fun aC=>cm (ys:=[num ((i:Nat):Int),aM ((rs.getD i .zero).left),aM ((rs.getD i .zero).right)]) rfl rfl CD zX PX NW rfl U CD (fun _ h=>by cases h) ab.own (bG (n:=1) a4.get Z) rfl rfl (by show (_ + _) * 40<=_;simp only [jC,Xq,Xx];(try simp only [Xz,Xq,Xx]);omega) (by simp only [jC,Xq,Xx];(try simp only [Xz,Xq,Xx]);omega) fun A43 bD a7=>?_);rw [show ([num ((i:Nat):Int),aM ((rs.getD i .zero).left),aM ((rs.getD i .zero).right)]:List Value)=FB [⟨((i:Nat):Int),(rs.getD i .zero).left,(rs.getD i .zero).right⟩] from rfl,xU] at a7;obtain ⟨az,aP⟩:=Fresh.grow ab (a3.trans a4.le) wf a7;have b8:=a7.keep a1 ai;have aS:=a7.ne a1 a4.wf ai;refine aC (bg.none Y)<|.p Z (d7 Z)<|.done<|b7<|.region<|.J Z<|.p (bk (b:=1) Z Z OI)<|.I Z<|.nil ?_;exact ⟨⟨i + 1,o ++ [⟨((i:Nat):Int),(rs.getD i .zero).left,(rs.getD i .zero).right⟩],bD⟩,jh Z Z Z,Z,⟨⟨by omega,by rw [ho];exact MI O⟩,aP,az,b8,aS⟩,O1⟩
 refine ak.exit<|b2<|.sq fun b9=>.sq fun ba=>.region<|.I Z<|.nil<|ba<|.block<|.loop (X:=Nat × List Sd × Value) (fun ⟨x,o,s⟩=>[(1,.pointer (some ⟨b4,0,none⟩)),(3,s),(5,num ((x:Nat):Int))]) (fun ⟨x,o,s⟩ B=>(x<=2 * gn/\o=(List.range (rs.length + x)).map (tQ (gn:Int) rs))/\A.le B/\Fresh A B s 3 (FB o)/\B.get b4=some (.row true [num ((gn:Nat):Int),u,rv] 3)/\V.blk s ≠ some b4) (fun ⟨x,o,s⟩=>2 * gn - x) (⟨0,(List.range (rs.length + 0)).map (tQ (gn:Int) rs),s⟩) (jh Z Z Z) (⟨⟨XZ _,Z⟩,a3,(ci a9 (Xk FB ((by first | rfl | (rw [ho,show i=rs.length + 0 by omega]))))),a0,a1⟩) ?_;rintro ⟨x,o,s⟩ B57 ⟨⟨hx,ho⟩,ad,aa,a6,a2⟩;refine ak.wf fun ag=>?_;have hlo:o.length=rs.length + x:=by rw [ho];simp
 have c7:=fun q:x < 16=>rF q;refine ak.sq fun bb=>.sq fun bc=>.region<|.J Z<|.p (ae gy iw U Z)<|.p (ae gj cl U Z)<|.p (ah dK Z Z a6 Z)<|.p (oE (a:=2) Z Z OI)<|.p (bK Z Z)<|.nil ?_;refine bc<|.if rfl (fun bC=>?_) (fun bC=>?_)
 ·refine ak.skip<|bb<|.sq fun bd=>.block<|.region<|.J Z<|.J Z<|.p (tL Z Z OI)<|.J Z<|.m (fun aD=>ax Z (rC x B57 (by first | omega | exact rF O)) ?_);rintro cH A68 ⟨rfl,rfl⟩;refine aD<|.runeStr Y u5 u9 Z (by first | exact tu O | exact tu (rF O))<|.J Z<|.p (yD U U Z Z (xor1n O))<|.m (fun aF=>ax Z (rC (x ^^^ 1) B57 (by first | omega | exact rF O)) ?_);rintro cK A72 ⟨rfl,rfl⟩;refine aF<|.runeStr Y u5 u9 Z (by first | exact tu O | exact tu (rF O))<|.p (rU Z Z OI)<|.p (dn Z (bE u113 NW Yu Z))<|.m (fun aG=>aE (c:=[num ((-1) - ((x:Nat):Int)),aM (([bq.getD x 0]) ++ ([bq.getD (x ^^^ 1) 0])),aM ([])]) ag rfl (aq CD zX NW rfl U U rfl) fun A76 c0 a5=>?_);have ap:=a5.le.g a6;have ac:=aa.le a5.le;refine aG<|.m (fun aI=>cm (ys:=[num ((-1) - ((x:Nat):Int)),aM (([bq.getD x 0]) ++ ([bq.getD (x ^^^ 1) 0])),aM ([])]) rfl rfl CD zX PX NW rfl U CD (fun _ h=>by cases h) ac.own (bG (n:=1) a5.get Z) rfl rfl (by show (_ + _) * 40<=_;simp only [jC,Xq,Xx];(try simp only [Xz,Xq,Xx]);omega) (by simp only [jC,Xq,Xx];(try simp only [Xz,Xq,Xx]);omega) fun A83 bL a8=>?_);rw [show ([num ((-1) - ((x:Nat):Int)),aM (([bq.getD x 0]) ++ ([bq.getD (x ^^^ 1) 0])),aM ([])]:List Value)=FB [⟨(-1) - ((x:Nat):Int),([bq.getD x 0]) ++ ([bq.getD (x ^^^ 1) 0]),[]⟩] from rfl,xU] at a8;obtain ⟨aA,aR⟩:=Fresh.grow ac (ad.trans a5.le) wf a8;have bl:=a8.keep a2 ap;have aT:=a8.ne a2 a5.wf ap;refine aI<|.I Z<|.nil<|bd<|.region<|.J Z<|.p (bk (b:=1) Z Z OI)<|.I Z<|.nil ?_;exact ⟨⟨x + 1,o ++ [⟨(-1) - ((x:Nat):Int),([bq.getD x 0]) ++ ([bq.getD (x ^^^ 1) 0]),[]⟩],bL⟩,jh Z Z Z,Z,⟨⟨by omega,by rw [ho];exact MJ (by rw [XY];omega)⟩,aR,(ci aA (Xk FB ((by first | rfl | (rw [ho,show i=rs.length + 0 by omega]))))),bl,aT⟩,O1⟩
 refine ak.exit<|b9<|.sq fun bm=>.region<|.J Z<|.I Z<|.nil<|bm<|.rt (by exact aH Z (⟨ad,ag,ci aa (Xk FB (by rw [ho,show x=2 * gn by omega,xB,iL,XY]))⟩))
section
variable {g:Int} {l:List Wd} {rs:List aQ} {w:Wd}
end
theorem Aw {g:Int} {l:List Wd} {rs:List aQ} (h:¬ ((if bN g l rs then 0 else 100:Nat)=0)):bN g l rs=false:=by
  cases q:bN g l rs with
  | true=>rw [q] at h;exact absurd Z h
  | false=>rfl
section
variable {o q:List aQ} {k:Nat} {y z:aQ} {w r:Wd}
end
section
variable {rs:List aQ} {i:Nat} {acc:List UA} {R:Option (List UA)}
end
section
variable {o:List aQ} {k:Nat} {y:aQ} {w r:Wd}
end
namespace CR
abbrev Ird (g:Int) (rs:List aQ) (w:Wd):Prop:=∀ y,¬ St (bF g rs) w y
section
variable {g:Int} {l:List Wd} {rs rs1 rs2:List aQ} {w u v x y:Wd}
theorem VN {a b:Wd} {x:Nat} (hx:x < 16) (h:NC (a ++ QM x ++ b)):False:=by
  have:=h a.length (by simp only [Xz,QM,Xq,Xx];omega)
  apply this
  have f1:=flip1 ⟨x,hx⟩
  simp only at f1
  simp only [QM,Tk]
  rw [po (a:=a) O,po (a:=a) O,show a.length + 1 - a.length=1 by omega,Qx]
  exact f1
theorem Zd (hg:g<=8) (hw:w.all (je g)=true) (hl:w.length<=100000) (h:c8 w=w):NC w:=by
  rw [c8,Xw (JI hg hl hw)] at h;exact (NC.iff _).2 h
theorem Zm (a b c:Wd):Mh (a ++ b ++ c) b a.length:=by
  refine ⟨by simp only [Xz];omega,?_⟩
  rw [Tk,List.take_length_add_append,List.drop_left,List.take_left]
theorem irr_iff (hg:1<=g/\g<=8) (hw:w.all (je g)=true) (hl:w.length<=100000):nS rs w=true ↔ Ird g rs w:=by
  refine ⟨fun h y hy=>?_,fun h=>Ze hg.2 (fun i hi q=>?_) hw hl fun r hr i ho=>?_⟩
  · simp only [nS,XK,Vq,Vx] at h
    cases hy with
    | mk a b s hs =>
      rcases in_cases hs with ⟨r,hr,rfl⟩ | ⟨x,hx,rfl⟩
      · have h9:yZ (a ++ r.left ++ b) r.left 0 < 0:=h.2 r hr
        have:=AO.2 ⟨_,Zm a r.left b⟩
        omega
      · exact VN O (Zd hg.2 hw hl h.1)
  · have e:=TM (w:=w) (m:=i) (n:=2) O
    rw [Pr hi] at e
    rw [e] at h
    have hk:je g (w.getD (i + 1) 0)=true:=Vx.1 hw _ (aX (d:=0) hi)
    have:w.getD i 0=w.getD (i + 1) 0 ^^^ 32:=by rw [q,uL]
    rw [this] at h
    exact h _ (St.mk (L:=bF g rs) _ _ _ (Vg hk))
  · have e:=TM ho.1
    rw [ho.2] at e
    rw [e] at h
    exact h _ (St.mk (L:=bF g rs) _ _ _ (WG hr))
end
end CR
namespace CR
section
variable {g g2 g3:Int} {l l2 l3:List Wd} {rs rs2 rs3 ts ls:List aQ} {w u v x y:Wd}
end
end CR
def lng (step:Int->Nat->Option Int) (acc:Int->Bool):List Nat->Int->Bool
  | [],s=>acc s
  | x :: w,s=>match step s x with
    | none=>false
    | some t=>lng step acc w t
def Ls (k:Nat) (w:List Nat):Prop:=∀ x ∈ w,x < k
def gb (N:List (List Int)) (s:Int) (x:Nat):Option Int:=if 0<=c5 N s.toNat x then some (c5 N s.toNat x) else none
def KE (acc:List Bool) (s:Int):Bool:=acc.getD s.toNat false
abbrev fG (acc:List Bool) (N:List (List Int)):List Nat->Int->Bool:=lng (gb N) (KE acc)
theorem Ls.tail {k x:Nat} {w:List Nat} (h:Ls k (x :: w)):x < k/\Ls k w:=⟨h x VX,fun y hy=>h y (VZ _ hy)⟩
theorem Ls.cons {k x:Nat} {w:List Nat} (hx:x < k) (h:Ls k w):Ls k (x :: w):=fun y hy=>by
  rcases Vy.1 hy with rfl | hy
  · exact hx
  · exact h y hy
theorem Ls.nil {k:Nat}:Ls k []:=fun y hy=>by cases hy
def d4 (key:Int->Int) (step:Int->Nat->Option Int) (q:Int) (st:List Int × List Int) (c:Nat):List Int × List Int :=
  match step q c with
  | none=>(st.1 ++ [-1],st.2)
  | some t=>if key t ∈ st.2.map key then (st.1 ++ [((st.2.map key).idxOf (key t):Int)],st.2) else (st.1 ++ [(st.2.length:Int)],st.2 ++ [t])
def pT (k:Nat) (key:Int->Int) (step:Int->Nat->Option Int) (q:Int) (Q:List Int):List Int × List Int:=(List.range k).foldl (d4 key step q) ([],Q)
def eP (k:Nat) (key:Int->Int) (step:Int->Nat->Option Int):Nat->Nat->List Int->List (List Int)->List Int × List (List Int)
  | 0,_,Q,R=>(Q,R)
  | f + 1,i,Q,R=>if i < Q.length then eP k key step f (i + 1) (pT k key step (Q.getD i 0) Q).2 (R ++ [(pT k key step (Q.getD i 0) Q).1]) else (Q,R)
theorem VD {step:Int->Nat->Option Int} {q:Int}:d4 id step q=gT step q:=by
  funext st c
  unfold d4 gT
  simp only [List.map_id,id_eq]
  cases step q c <;> rfl
theorem zm {k:Nat} {step:Int->Nat->Option Int}:∀ (f i:Nat) (Q:List Int) (R:List (List Int)),eP k id step f i Q R=eD k step f i Q R
  | 0,_,_,_=>rfl
  | f + 1,i,Q,R=>by
    unfold eP eD pT JC
    rw [VD]
    split
    · exact zm f _ _ _
    · rfl
section
variable {k m:Nat} {key:Int->Int} {step:Int->Nat->Option Int} {q:Int} {Q Q1 r:List Int} {D:Int->Prop}
def yr (key:Int->Int) (step:Int->Nat->Option Int) (q:Int) (Q r:List Int) (m:Nat):Prop :=
  r.length=m/\∀ x,x < m->(step q x=none->r.getD x 0 = -1)/\∀ t,step q x=some t->0<=r.getD x 0/\(r.getD x 0).toNat < Q.length/\key (Q.getD (r.getD x 0).toNat 0)=key t
theorem yr.mono (h:yr key step q Q r m) (hp:Q <+: Q1):yr key step q Q1 r m:=⟨h.1,fun x hx=>⟨(h.2 x hx).1,fun t ht=>by
  obtain ⟨h1,h2,h3⟩:=(h.2 x hx).2 t ht
  exact ⟨h1,SX h2 hp.length_le,by rw [i9 hp h2];exact h3⟩⟩⟩
structure QK (key:Int->Int) (D:Int->Prop) (Q:List Int):Prop where
  nd:(Q.map key).Nodup
  dom:∀ q ∈ Q,D q
theorem QK.add {t:Int} (h:QK key D Q) (ht:D t) (hn:key t ∉ Q.map key):QK key D (Q ++ [t]) :=
  ⟨by rw [VV,Tz,Qv];exact lh h.nd hn,kB h.dom ht⟩
theorem LN (hDs:∀ q c t,D q->c < k->step q c=some t->D t) (hq:D q) {c:Nat} (hc:c < k) (h1:QK key D Q) (h2:yr key step q Q r c) :
    QK key D (d4 key step q (r,Q) c).2/\yr key step q (d4 key step q (r,Q) c).2 (d4 key step q (r,Q) c).1 (c + 1)/\Q <+: (d4 key step q (r,Q) c).2:=by
  have hl:=h2.1
  have old:∀ (y:Int) (x:Nat),x < c->(r ++ [y]).getD x 0=r.getD x 0:=fun y x hx=>i5 O
  have new:∀ y:Int,(r ++ [y]).getD c 0=y:=fun y=>by rw [<- hl];simp
  have mk:∀ (y:Int) (Q1:List Int),Q <+: Q1->(step q c=none->y = -1)->(∀ t,step q c=some t->0<=y/\y.toNat < Q1.length/\key (Q1.getD y.toNat 0)=key t)->yr key step q Q1 (r ++ [y]) (c + 1):=fun y Q1 hp h V=>by
    refine ⟨by simp [hl],fun x hx=>?_⟩
    rcases VW x c with z | z
    · rw [old y x z];exact (h2.mono hp).2 x z
    · obtain rfl:x=c:=by omega
      rw [new];exact ⟨h,V⟩
  unfold d4
  split
  · rename_i hs
    exact ⟨h1,mk _ _ (Tx _) (fun _=>rfl) (fun t ht=>by rw [hs] at ht;cases ht),Tx _⟩
  · rename_i t hs
    dsimp only
    split
    · rename_i hm
      refine ⟨h1,mk _ _ (Tx _) (fun z=>by rw [hs] at z;cases z) (fun t' ht=>?_),Tx _⟩
      rw [hs] at ht;cases ht
      have hi:=Vj.2 hm
      have e:=TZ hi
      rw [XY]
      rw [Tq] at hi
      refine ⟨by omega,hi,?_⟩
      rw [List.getElem_map] at e
      rw [gd hi];exact e
    · rename_i hm
      refine ⟨h1.add (hDs q c t hq hc hs) hm,mk _ _ (SZ _ _) (fun z=>by rw [hs] at z;cases z) (fun t' ht=>?_),SZ _ _⟩
      rw [hs] at ht;cases ht
      rw [XY]
      exact ⟨by omega,by simp,by simp⟩
theorem DM (hDs:∀ q c t,D q->c < k->step q c=some t->D t) (hq:D q) (h1:QK key D Q) :
    QK key D (pT k key step q Q).2/\yr key step q (pT k key step q Q).2 (pT k key step q Q).1 k/\Q <+: (pT k key step q Q).2:=by
  have:∀ c,c<=k->QK key D ((List.range c).foldl (d4 key step q) ([],Q)).2/\yr key step q ((List.range c).foldl (d4 key step q) ([],Q)).2 ((List.range c).foldl (d4 key step q) ([],Q)).1 c/\Q <+: ((List.range c).foldl (d4 key step q) ([],Q)).2:=by
    intro c
    induction c with
    | zero=>intro _;exact ⟨h1,⟨rfl,fun x hx=>by omega⟩,Tx _⟩
    | succ c ih =>
      intro hc
      obtain ⟨g1,g2,g3⟩:=ih O
      rw [Ty,SJ,Tj,List.foldl_nil]
      obtain ⟨e1,e2,e3⟩:=LN hDs hq O g1 g2
      exact ⟨e1,e2,g3.trans e3⟩
  exact this k (XX _)
structure KxR (k:Nat) (key:Int->Int) (step:Int->Nat->Option Int) (D:Int->Prop) (Q:List Int) (R:List (List Int)):Prop where
  q:QK key D Q
  len:R.length=Q.length
  row:∀ i,i < Q.length->yr key step (Q.getD i 0) Q (R.getD i []) k
theorem om {bd:Nat} (hDs:∀ q c t,D q->c < k->step q c=some t->D t) (hfin:∀ Q:List Int,QK key D Q->Q.length<=bd) :
    ∀ (f i:Nat) (Q:List Int) (R:List (List Int)),QK key D Q->bd < f + i->R.length=i->i<=Q.length->(∀ j,j < i->yr key step (Q.getD j 0) Q (R.getD j []) k) ->
      KxR k key step D (eP k key step f i Q R).1 (eP k key step f i Q R).2/\Q <+: (eP k key step f i Q R).1
  | 0,i,Q,R,h1,h2,h3,h4,h5=>by have:=hfin Q h1;omega
  | f + 1,i,Q,R,h1,h2,h3,h4,h5=>by
    unfold eP;split
    · rename_i hi
      obtain ⟨g1,g2,g3⟩:=DM hDs (h1.dom _ (aX (d:=(0:Int)) hi)) h1
      have hl:=g3.length_le
      obtain ⟨e1,e2⟩:=om hDs hfin f (i + 1) _ (R ++ [(pT k key step (Q.getD i 0) Q).1]) g1 O (by simp [h3]) O fun j hj=>by
        rcases VW j i with z | z
        · rw [i5 O,i9 g3 O];exact (h5 j z).mono g3
        · obtain rfl:j=i:=by omega
          rw [i9 g3 hi,show (R ++ [(pT k key step (Q.getD j 0) Q).1]).getD j []=(pT k key step (Q.getD j 0) Q).1 by rw [<- h3];simp];exact g2
      exact ⟨e1,g3.trans e2⟩
    · rename_i hi
      obtain rfl:i=Q.length:=by omega
      exact ⟨⟨h1,h3,h5⟩,Tx _⟩
theorem KxR.lng {R:List (List Int)} {acc:Int->Bool} (h:KxR k key step D Q R) (hDs:∀ q c t,D q->c < k->step q c=some t->D t)
    (hk:∀ s t,D s->D t->key s=key t->∀ w,Ls k w->lng step acc w s=lng step acc w t):∀ w,Ls k w->∀ i,i < Q.length->fG (Q.map acc) R w (i:Int)=lng step acc w (Q.getD i 0):=by
  intro w
  induction w with
  | nil =>
    intro _ i hi
    show (Q.map acc).getD (i:Int).toNat false=acc (Q.getD i 0)
    simp [XJ,hi]
  | cons x w ih =>
    intro hw i hi
    obtain ⟨hx,hw⟩:=hw.tail
    obtain ⟨r1,r2⟩:=(h.row i hi).2 x hx
    show (match gb R (i:Int) x with | none=>false | some t=>Go.Proofs.YtjppkekmddjcfaaGreatDoor.lng (gb R) (KE (Q.map acc)) w t)=(match step (Q.getD i 0) x with | none=>false | some t=>Go.Proofs.YtjppkekmddjcfaaGreatDoor.lng step acc w t)
    have er:c5 R (i:Int).toNat x=(R.getD i []).getD x 0:=rfl
    cases hs:step (Q.getD i 0) x with
    | none =>
      have:=r1 hs
      rw [gb,er,this];rfl
    | some t =>
      obtain ⟨a1,a2,a3⟩:=r2 t hs
      rw [gb,er,Xw a1]
      show fG (Q.map acc) R w ((R.getD i []).getD x 0)=Go.Proofs.YtjppkekmddjcfaaGreatDoor.lng step acc w t
      have:=ih hw _ a2
      rw [show (((R.getD i []).getD x 0).toNat:Int)=(R.getD i []).getD x 0 by omega] at this
      rw [this]
      exact hk _ _ (h.q.dom _ (aX (d:=(0:Int)) a2)) (hDs _ x t (h.q.dom _ (aX (d:=(0:Int)) hi)) hx hs) a3 w hw
end
inductive PW (p:Int->Int->Prop):List Int->List Int->Prop
  | nil:PW p [] []
  | cons {a b:Int} {s t:List Int}:p a b->PW p s t->PW p (a :: s) (b :: t)
section
variable {p:Int->Int->Prop} {s t:List Int} {key key2:Int->Int} {step step2:Int->Nat->Option Int} {k:Nat}
theorem PW.len (h:PW p s t):s.length=t.length:=by
  induction h with
  | nil=>rfl
  | cons _ _ ih=>simp [ih]
theorem PW.snoc {a b:Int} (h:PW p s t) (hp:p a b):PW p (s ++ [a]) (t ++ [b]):=by
  induction h with
  | nil=>exact .cons hp .nil
  | cons h1 _ ih=>exact .cons h1 ih
theorem PW.at (h:PW p s t):∀ i,i < s.length->p (s.getD i 0) (t.getD i 0):=by
  induction h with
  | nil=>intro i hi;cases hi
  | cons h1 _ ih =>
    intro i hi
    cases i with
    | zero=>exact h1
    | succ i=>simp only [List.getD_cons_succ];exact ih i (by simpa using hi)
theorem PW.keys (hk:∀ a b c d,p a b->p c d->(key a=key c ↔ key2 b=key2 d)) {a b:Int} (hp:p a b) (h:PW p s t):(key a ∈ s.map key ↔ key2 b ∈ t.map key2)/\(s.map key).idxOf (key a)=(t.map key2).idxOf (key2 b):=by
  induction h with
  | nil=>simp
  | @cons c d s t h1 _ ih =>
    have:=hk c d a b h1 hp
    simp only [Tz,Vy,List.idxOf_cons]
    refine ⟨?_,?_⟩
    · rw [ih.1,eq_comm,this,eq_comm]
    · by_cases q:key c=key a
      · have q2:=this.1 q
        simp [q,q2]
      · have q2:=fun z=>q (this.2 z)
        rw [beq_eq_false_iff_ne.2 q,beq_eq_false_iff_ne.2 q2,cond_false,cond_false,ih.2]
theorem wn (hk:∀ a b c d,p a b->p c d->(key a=key c ↔ key2 b=key2 d))
    (hs:∀ a b x,p a b->x < k->(step a x=none/\step2 b x=none)\/∃ c d,step a x=some c/\step2 b x=some d/\p c d) {a b:Int} (hp:p a b) :
    ∀ (l:List Nat),(∀ c ∈ l,c < k)->∀ r s t,PW p s t->(l.foldl (d4 key step a) (r,s)).1=(l.foldl (d4 key2 step2 b) (r,t)).1/\PW p (l.foldl (d4 key step a) (r,s)).2 (l.foldl (d4 key2 step2 b) (r,t)).2
  | [],_,r,s,t,h=>⟨rfl,h⟩
  | x :: l,hl,r,s,t,h=>by
    rw [Tj,Tj]
    have V:∀ c ∈ l,c < k:=fun c hc=>hl c (VZ _ hc)
    rcases hs a b x hp (hl x VX) with ⟨h1,h2⟩ | ⟨c,d,h1,h2,h3⟩
    · rw [show d4 key step a (r,s) x=(r ++ [-1],s) by unfold d4;rw [h1],show d4 key2 step2 b (r,t) x=(r ++ [-1],t) by unfold d4;rw [h2]]
      exact wn hk hs hp l V _ _ _ h
    · obtain ⟨k1,k2⟩:=PW.keys hk h3 h
      by_cases q:key c ∈ s.map key
      · rw [show d4 key step a (r,s) x=(r ++ [((s.map key).idxOf (key c):Int)],s) by unfold d4;rw [h1];dsimp only;rw [Xw q],
          show d4 key2 step2 b (r,t) x=(r ++ [((t.map key2).idxOf (key2 d):Int)],t) by unfold d4;rw [h2];dsimp only;rw [Xw (k1.1 q)],k2]
        exact wn hk hs hp l V _ _ _ h
      · rw [show d4 key step a (r,s) x=(r ++ [(s.length:Int)],s ++ [c]) by unfold d4;rw [h1];dsimp only;rw [Xy q],
          show d4 key2 step2 b (r,t) x=(r ++ [(t.length:Int)],t ++ [d]) by unfold d4;rw [h2];dsimp only;rw [Xy fun z=>q (k1.2 z)],h.len]
        exact wn hk hs hp l V _ _ _ (h.snoc h3)
theorem xX {D:Int->Prop} {bd:Nat} (hDs:∀ q c t,D q->c < k->step q c=some t->D t) (hfin:∀ Q:List Int,QK key D Q->Q.length<=bd)
    (hk:∀ a b c d,p a b->p c d->(key a=key c ↔ key2 b=key2 d))
    (hs:∀ a b x,p a b->x < k->(step a x=none/\step2 b x=none)\/∃ c d,step a x=some c/\step2 b x=some d/\p c d) :
    ∀ (f f2 i:Nat) (s t:List Int) (R:List (List Int)),QK key D s->bd < f + i->bd < f2 + i->PW p s t->(eP k key step f i s R).2=(eP k key2 step2 f2 i t R).2/\PW p (eP k key step f i s R).1 (eP k key2 step2 f2 i t R).1
  | 0,f2,i,s,t,R,h1,h2,h3,h4=>by
    have:=hfin s h1;have hl:=h4.len
    cases f2 with
    | zero=>exact ⟨Z,h4⟩
    | succ f2=>unfold eP;rw [Xy O];exact ⟨Z,h4⟩
  | f + 1,0,i,s,t,R,h1,h2,h3,h4=>by
    have:=hfin s h1;have hl:=h4.len
    unfold eP;rw [Xy O];exact ⟨Z,h4⟩
  | f + 1,f2 + 1,i,s,t,R,h1,h2,h3,h4=>by
    have hl:=h4.len
    unfold eP
    by_cases q:i < s.length
    · rw [Xw q,Xw O]
      obtain ⟨g1,_,_⟩:=DM hDs (h1.dom _ (aX (d:=(0:Int)) q)) h1
      obtain ⟨e1,e2⟩:=wn hk hs (h4.at i q) (List.range k) (fun c hc=>TY.1 hc) [] s t h4
      rw [show (pT k key step (s.getD i 0) s).1=(pT k key2 step2 (t.getD i 0) t).1 from e1]
      exact xX hDs hfin hk hs f f2 (i + 1) _ _ _ g1 O O e2
    · rw [Xy q,Xy O];exact ⟨Z,h4⟩
end
section
variable {K:Type} [DecidableEq K] {n:Nat}
theorem Mf {L:Type} [DecidableEq L] (l:List K) (m:List L) (d:K) (d2:L) (hl:l.length=m.length) (h:∀ i j,i < m.length->j < m.length->m.getD i d2=m.getD j d2->l.getD i d=l.getD j d) (hc:(bW m).2.length<=(bW l).2.length) :
    ∀ i j,i < m.length->j < m.length->l.getD i d=l.getD j d->m.getD i d2=m.getD j d2:=by
  intro i j hi hj e
  refine Classical.byContradiction fun ne=>?_
  -- all of l's keys come from m's keys other than the one at j
  have hm:=fk m
  have hb:(bW l).2.length<=((bW m).2.erase (m.getD j d2)).length:=by
    refine sw (fk l).1 (fun a=>if a=l.getD j d then ((bW m).2.erase (m.getD j d2)).idxOf (m.getD i d2) else ((bW m).2.erase (m.getD j d2)).idxOf (m.getD (l.idxOf a) d2)) (fun a ha b hb e2=>?_) (fun a ha=>?_)
    all_goals
      have mem_i:m.getD i d2 ∈ (bW m).2.erase (m.getD j d2):=(List.mem_erase_of_ne ne).2 (kX m (d:=d2) hi).2
    · have ha:=((fk l).2.1 a).1 ha
      have hb:=((fk l).2.1 b).1 hb
      have la:=Vj.2 ha
      have lb:=Vj.2 hb
      have ea:=TZ la
      have eb:=TZ lb
      have gl:∀ x:Nat,(hx:x < l.length)->l.getD x d=l[x]:=fun x hx=>gd hx
      have back:∀ a,a ∈ l->a ≠ l.getD j d->m.getD (l.idxOf a) d2 ∈ (bW m).2.erase (m.getD j d2):=fun a ha q=>by
        have la:=Vj.2 ha
        refine (List.mem_erase_of_ne fun z=>q ?_).2 (kX m (d:=d2) O).2
        have:=h _ _ O hj z
        rw [gl _ la,TZ la] at this;exact this
      have inj:∀ (X:List L) (x y:L),x ∈ X->y ∈ X->X.idxOf x=X.idxOf y->x=y:=fun X x y hx hy z=>by
        have e1:=TZ (Vj.2 hx)
        have e2:=TZ (Vj.2 hy)
        rw [<- e1,<- e2];congr 1
      by_cases qa:a=l.getD j d
      · by_cases qb:b=l.getD j d
        · rw [qa,qb]
        · rw [Xw qa,Xy qb] at e2
          have:=inj _ _ _ mem_i (back b hb qb) e2
          have:=h _ _ hi O this
          rw [gl _ lb,eb,e] at this
          rw [qa,this]
      · by_cases qb:b=l.getD j d
        · rw [Xy qa,Xw qb] at e2
          have:=inj _ _ _ (back a ha qa) mem_i e2
          have:=h _ _ O hi this
          rw [gl _ la,ea,e] at this
          rw [qb,this]
        · rw [Xy qa,Xy qb] at e2
          have:=inj _ _ _ (back a ha qa) (back b hb qb) e2
          have:=h _ _ O O this
          rw [gl _ la,gl _ lb,ea,eb] at this
          exact this
    · have ha:=((fk l).2.1 a).1 ha
      have la:=Vj.2 ha
      split
      · exact Vj.2 mem_i
      · rename_i q
        refine Vj.2 ((List.mem_erase_of_ne fun z=>q ?_).2 (kX m (d:=d2) O).2)
        have:=h _ _ O hj z
        rw [gd la,TZ la] at this;exact this
  rw [List.length_erase_of_mem (kX m (d:=d2) hj).2] at hb
  have:0 < (bW m).2.length:=List.length_pos_of_mem (kX m (d:=d2) hj).2
  omega
theorem xm (l:List K) (d:K):(bW l).2.length<=(bW (bW l).1).2.length :=
  pz l (bW l).1 d 0 (ll l).symm fun i j hi hj e=>(py l (d:=d) (by rwa [ll] at hi) (by rwa [ll] at hj)).1 e
def i4 (n:Nat) (key:List Int->Nat->K):Nat->Nat->List Int->List Int
  | 0,_,cls=>cls
  | f + 1,count,cls=>if (bW ((List.range n).map (key cls))).2.length=count then (bW ((List.range n).map (key cls))).1 else i4 n key f (bW ((List.range n).map (key cls))).2.length (bW ((List.range n).map (key cls))).1
theorem nP (key:List Int->Nat->K) (d:K) (P:List Int->Prop) (hP:∀ cls,P cls->P (bW ((List.range n).map (key cls))).1) (hfi:∀ cls,P cls->∀ i j,i < n->j < n->key cls i=key cls j->cls.getD i 0=cls.getD j 0) (hln:∀ cls,P cls->cls.length=n) :
    ∀ f count cls,P cls->count<=(bW cls).2.length->n < f + count->∃ c0,P c0/\i4 n key f count cls=(bW ((List.range n).map (key c0))).1/\∀ i j,i < n->j < n->c0.getD i 0=c0.getD j 0->key c0 i=key c0 j
  | 0,count,cls,h1,h2,h3=>by have:=wd cls;have:=hln cls h1;omega
  | f + 1,count,cls,h1,h2,h3=>by
    have hl:=hln cls h1
    have hfin:∀ i j,i < ((List.range n).map (key cls)).length->j < ((List.range n).map (key cls)).length->((List.range n).map (key cls)).getD i d=((List.range n).map (key cls)).getD j d->cls.getD i 0=cls.getD j 0:=fun i j hi hj e=>by
      simp only [Tq,Qz] at hi hj
      rw [eW _ d hi,eW _ d hj] at e
      exact hfi cls h1 i j hi hj e
    have hle:=pz cls ((List.range n).map (key cls)) 0 d (by simp [hl]) hfin
    unfold i4
    split
    · rename_i q
      refine ⟨cls,h1,rfl,fun i j hi hj e=>?_⟩
      have:=Mf cls ((List.range n).map (key cls)) 0 d (by simp [hl]) hfin O i j (by simpa using hi) (by simpa using hj) e
      rwa [eW _ d hi,eW _ d hj] at this
    · rename_i q
      exact nP key d P hP hfi hln f _ _ (hP cls h1) (xm _ d) O
theorem yU (key:List Int->Nat->Wd):∀ f count cls,kS n key f count cls=i4 n key f count cls
  | 0,_,_=>rfl
  | f + 1,count,cls=>by
    unfold kS i4
    split
    · rfl
    · exact yU key f _ _
end
section
variable {k n i j x:Nat} {acc lv:List Bool} {N:List (List Int)} {cls:List Int} {K:Type} [DecidableEq K]
structure vE (k n:Nat) (acc lv:List Bool) (N:List (List Int)):Prop where
  rng:∀ s x,s < n->x < k->c5 N s x < n
  live:∀ s,s < n->(lv.getD s false=true ↔ ∃ w,Ls k w/\fG acc N w (s:Int)=true)
theorem vE.at (h:vE k n acc lv N) (hi:i < n) (hx:x < k):cB lv (c5 N i x)=true ↔ ∃ w,Ls k w/\fG acc N (x :: w) (i:Int)=true:=by
  have hr:=h.rng i x hi hx
  have e:∀ w,fG acc N (x :: w) (i:Int)=(if 0<=c5 N i x then fG acc N w (c5 N i x) else false):=fun w=>by
    show (match gb N (i:Int) x with | none=>false | some t=>lng (gb N) (KE acc) w t)=_
    rw [gb,XY]
    by_cases q:0<=c5 N i x
    · rw [Xw q,Xw q]
    · rw [Xy q,Xy q]
  by_cases q:0<=c5 N i x
  · have:=h.live (c5 N i x).toNat O
    rw [cB,Vv q,QX,this,show (((c5 N i x).toNat:Nat):Int)=c5 N i x by omega]
    simp only [e,Xw q]
  · rw [cB,Xv q,Bool.false_and]
    simp only [e,Xy q]
    exact ⟨(fun z=>by cases z),fun ⟨_,_,z⟩=>by cases z⟩
def nc (lv:List Bool) (N:List (List Int)) (cls:List Int) (i x:Nat):Option Int:=if cB lv (c5 N i x) then some (cls.getD (c5 N i x).toNat 0) else none
theorem uY (h:vE k n acc lv N) (hi:i < n) (hx:x < k) {w:List Nat} (hw:Ls k w):fG acc N (x :: w) (i:Int)=(if cB lv (c5 N i x) then fG acc N w (((c5 N i x).toNat:Nat):Int) else false):=by
  by_cases q:cB lv (c5 N i x)=true
  · rw [Xw q]
    have q2:0<=c5 N i x:=by rw [cB] at q;simp only [XK,Vq] at q;exact q.1
    show (match gb N (i:Int) x with | none=>false | some t=>lng (gb N) (KE acc) w t)=_
    rw [gb,XY,Xw q2,show (((c5 N i x).toNat:Nat):Int)=c5 N i x by omega]
  · rw [Xy q]
    cases z:fG acc N (x :: w) (i:Int) with
    | false=>rfl
    | true=>exact absurd ((h.at hi hx).2 ⟨w,hw,z⟩) q
structure Yj (k n:Nat) (acc lv:List Bool) (N:List (List Int)) (cls:List Int):Prop where
  len:cls.length=n
  eq:∀ i j,i < n->j < n->lv.getD i false=true->lv.getD j false=true->(∀ w,Ls k w->fG acc N w (i:Int)=fG acc N w (j:Int))->cls.getD i 0=cls.getD j 0
  acc:∀ i j,i < n->j < n->lv.getD i false=true->lv.getD j false=true->cls.getD i 0=cls.getD j 0->acc.getD i false=acc.getD j false
theorem Yj.nc (h:Yj k n acc lv N cls) (hl:vE k n acc lv N) (hi:i < n) (hj:j < n) (e:∀ w,Ls k w->fG acc N w (i:Int)=fG acc N w (j:Int)) (hx:x < k):nc lv N cls i x=nc lv N cls j x:=by
  have ri:=hl.rng i x hi hx
  have rj:=hl.rng j x hj hx
  have hb:cB lv (c5 N i x)=cB lv (c5 N j x):=by
    rw [Rz,hl.at hi hx,hl.at hj hx]
    exact ⟨fun ⟨w,h1,h2⟩=>⟨w,h1,by rw [<- e _ (h1.cons hx)];exact h2⟩,fun ⟨w,h1,h2⟩=>⟨w,h1,by rw [e _ (h1.cons hx)];exact h2⟩⟩
  unfold Go.Proofs.YtjppkekmddjcfaaGreatDoor.nc
  rw [<- hb]
  split
  · rename_i q
    have q2:=hb ▸ q
    have a1:lv.getD (c5 N i x).toNat false=true:=by rw [cB] at q;simp only [XK] at q;exact q.2
    have a2:lv.getD (c5 N j x).toNat false=true:=by rw [cB] at q2;simp only [XK] at q2;exact q2.2
    have n1:n ≠ 0:=by omega
    rw [h.eq _ _ O O a1 a2 fun w hw=>by
      have z:=e (x :: w) (hw.cons hx)
      rwa [uY hl hi hx hw,uY hl hj hx hw,Xw q,Xw q2] at z]
  · rfl
theorem Yj.next (h:Yj k n acc lv N cls) (hl:vE k n acc lv N) (key:Nat->K) (d:K) (hk:∀ i j,i < n->j < n->lv.getD i false=true->lv.getD j false=true->(key i=key j ↔ cls.getD i 0=cls.getD j 0/\∀ x,x < k->Go.Proofs.YtjppkekmddjcfaaGreatDoor.nc lv N cls i x=Go.Proofs.YtjppkekmddjcfaaGreatDoor.nc lv N cls j x)) :
    Yj k n acc lv N (bW ((List.range n).map key)).1:=by
  have e:∀ i j,i < n->j < n->((bW ((List.range n).map key)).1.getD i 0=(bW ((List.range n).map key)).1.getD j 0 ↔ key i=key j):=fun i j hi hj=>by
    rw [py _ (d:=d) (by simpa using hi) (by simpa using hj),eW key d hi,eW key d hj]
  refine ⟨by rw [ll];simp,fun i j hi hj li lj q=>?_,fun i j hi hj li lj q=>?_⟩
  · rw [e i j hi hj,hk i j hi hj li lj]
    exact ⟨h.eq i j hi hj li lj q,fun x hx=>h.nc hl hi hj q hx⟩
  · rw [e i j hi hj,hk i j hi hj li lj] at q
    exact h.acc i j hi hj li lj q.1
structure sY (k n:Nat) (acc lv:List Bool) (N:List (List Int)) (cls:List Int):Prop where
  inv:Yj k n acc lv N cls
  st:∀ i j,i < n->j < n->lv.getD i false=true->lv.getD j false=true->cls.getD i 0=cls.getD j 0->∀ x,x < k->nc lv N cls i x=nc lv N cls j x
theorem sY.lng (h:sY k n acc lv N cls) (hl:vE k n acc lv N):∀ w,Ls k w->∀ i j,i < n->j < n->lv.getD i false=true->lv.getD j false=true->cls.getD i 0=cls.getD j 0->fG acc N w (i:Int)=fG acc N w (j:Int):=by
  intro w
  induction w with
  | nil=>intro _ i j hi hj li lj e;exact h.inv.acc i j hi hj li lj e
  | cons x w ih =>
    intro hw i j hi hj li lj e
    obtain ⟨hx,hw⟩:=hw.tail
    have:=h.st i j hi hj li lj e x hx
    have ri:=hl.rng i x hi hx
    have rj:=hl.rng j x hj hx
    rw [uY hl hi hx hw,uY hl hj hx hw]
    unfold nc at this
    by_cases q:cB lv (c5 N i x)=true
    · rw [Xw q] at this
      by_cases q2:cB lv (c5 N j x)=true
      · rw [Xw q2] at this
        rw [Xw q,Xw q2]
        have a1:lv.getD (c5 N i x).toNat false=true:=by rw [cB] at q;simp only [XK] at q;exact q.2
        have a2:lv.getD (c5 N j x).toNat false=true:=by rw [cB] at q2;simp only [XK] at q2;exact q2.2
        exact ih hw _ _ O O a1 a2 (Option.some.inj this)
      · rw [Xy q2] at this;cases this
    · rw [Xy q] at this
      by_cases q2:cB lv (c5 N j x)=true
      · rw [Xw q2] at this;cases this
      · rw [Xy q,Xy q2]
theorem sY.iff (h:sY k n acc lv N cls) (hl:vE k n acc lv N) (hi:i < n) (hj:j < n) (li:lv.getD i false=true) (lj:lv.getD j false=true):cls.getD i 0=cls.getD j 0 ↔ ∀ w,Ls k w->fG acc N w (i:Int)=fG acc N w (j:Int) :=
  ⟨fun e w hw=>h.lng hl w hw i j hi hj li lj e,h.inv.eq i j hi hj li lj⟩
theorem xl (hl:vE k n acc lv N) (key:List Int->Nat->K) (d:K) (Q:List Int->Prop) (hQ:∀ cls,cls.length=n->Q cls->Q (bW ((List.range n).map (key cls))).1)
    (hfi:∀ cls,cls.length=n->Q cls->∀ i j,i < n->j < n->key cls i=key cls j->cls.getD i 0=cls.getD j 0)
    (hk:∀ cls,cls.length=n->Q cls->∀ i j,i < n->j < n->lv.getD i false=true->lv.getD j false=true->(key cls i=key cls j ↔ cls.getD i 0=cls.getD j 0/\∀ x,x < k->nc lv N cls i x=nc lv N cls j x))
    {f count:Nat} (h1:Yj k n acc lv N cls) (h2:Q cls) (h3:count<=(bW cls).2.length) (h4:n < f + count):sY k n acc lv N (i4 n key f count cls)/\Q (i4 n key f count cls):=by
  obtain ⟨c0,⟨p1,p2⟩,p3,p4⟩:=nP key d (fun c=>Yj k n acc lv N c/\Q c) (fun c hc=>⟨hc.1.next hl _ d (hk c hc.1.len hc.2),hQ c hc.1.len hc.2⟩) (fun c hc=>hfi c hc.1.len hc.2) (fun c hc=>hc.1.len) f count cls ⟨h1,h2⟩ h3 h4
  rw [p3]
  refine ⟨⟨p1.next hl _ d (hk c0 p1.len p2),fun i j hi hj li lj e x hx=>?_⟩,hQ c0 p1.len p2⟩
  have e0:∀ i j,i < n->j < n->((bW ((List.range n).map (key c0))).1.getD i 0=(bW ((List.range n).map (key c0))).1.getD j 0 ↔ key c0 i=key c0 j):=fun i j hi hj=>by
    rw [py _ (d:=d) (by simpa using hi) (by simpa using hj),eW _ d hi,eW _ d hj]
  have ek:=(e0 i j hi hj).1 e
  have en:=((hk c0 p1.len p2 i j hi hj li lj).1 ek).2 x hx
  have ri:=hl.rng i x hi hx
  have rj:=hl.rng j x hj hx
  unfold nc at en ⊢
  by_cases q:cB lv (c5 N i x)=true
  · rw [Xw q] at en
    by_cases q2:cB lv (c5 N j x)=true
    · rw [Xw q2] at en
      rw [Xw q,Xw q2,(e0 (c5 N i x).toNat (c5 N j x).toNat O O).2 (p4 _ _ O O (Option.some.inj en))]
    · rw [Xy q2] at en;cases en
  · rw [Xy q] at en
    by_cases q2:cB lv (c5 N j x)=true
    · rw [Xw q2] at en;cases en
    · rw [Xy q,Xy q2]
end
end Go.Proofs.YtjppkekmddjcfaaGreatDoor
