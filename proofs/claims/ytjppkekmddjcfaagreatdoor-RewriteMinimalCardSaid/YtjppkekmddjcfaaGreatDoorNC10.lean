/- 'cayleylaw10.RewriteMinimal': true at every system, every word and every rotation. Its proof. Conditions: the tables that the row lists are as the program lays them; the card ties that to the program's text. -/
import Derived.Test.YtjppkekmddjcfaaGreatDoorNC9
import Derived.Test.YtjppkekmddjcfaaGreatDoorNC2
set_option linter.unusedSectionVars false
set_option linter.unusedVariables false
set_option linter.unusedSimpArgs false
open Go.Proofs.Tryz
namespace Go.Proofs.YtjppkekmddjcfaaGreatDoor
open Go Go.RowKit V
set_option maxRecDepth 100000
theorem ag113:ef prog 113=some true:=by kernel_rfl
theorem nY:eO prog 113 0=some (3,0):=by kernel_rfl
theorem ie:eO prog 113 1=some (9,1):=by kernel_rfl
theorem w8:eO prog 113 2=some (9,2):=by kernel_rfl
theorem Ug:prog.info? 113=some Tryz.t113:=by kernel_rfl
theorem pl113:dQ prog 113=some [(0,1),(1,1),(2,1)]:=by kernel_rfl
theorem wH:dY prog 113=some 3:=by kernel_rfl
theorem zH:type_of% @underlying110:=@underlying110
theorem u113:type_of% @underlying113:=@underlying113
theorem Rh:c5 prog 113=some (.agg #[.int .i64 0,.string ⟨⟨[]⟩⟩,.string ⟨⟨[]⟩⟩]):=by kernel_rfl
theorem WD (g:Int) (u:Value) (l:List W8) (rv:Value) (rs:List an) (A:AH) (hg:1<=g/\g<=8) (hn:rs.length<=1000000) (hu:bJ A 1 u (dN l)) (hr:bJ A 3 rv (cd rs)) (hp:Proofs A rs):bH prog 71 #[.agg #[num (g),u,rv]] A (fun v A1=>A.le A1/\A1.wf/\Fresh A A1 v 3 (IK (vP g rs))):=by
 refine bi (e:=[(0,.agg #[num (g),u,rv])]) (args:=[.agg #[num (g),u,rv]]) call71 func71 Z results71 ntmps71 Z Z Z (fun wf=>?_);have bu:=AH.le.refl A;obtain ⟨gn,rfl⟩:∃ n:Nat,g=n:=⟨g.toNat,by omega⟩;refine ak.sq fun h2=>.region<|.m (fun bl=>d8 wf rfl rfl fun A5 b4 ap=>?_);have br:=bu.trans ap.le;refine bl<|.I Z<|.nil<|h2<|.sq fun h9=>.region<|.I Z<|.nil<|h9<|.sq fun b0=>?_;refine ak.sq fun b1=>.region<|.I Z<|.nil<|b1<|.block<|.loop (X:=Nat × List Sd × Value) (fun ⟨i,o,s⟩=>[(1,.pointer (some ⟨b4,0,none⟩)),(3,s),(4,num ((i:Nat):Int))]) (fun ⟨i,o,s⟩ B=>(i<=rs.length/\o=(List.range i).map (ud (gn:Int) rs))/\A.le B/\Fresh A B s 3 (IK o)/\B.get b4=some (.row true [num ((gn:Nat):Int),u,rv] 3)/\V.blk s ≠ some b4) (fun ⟨i,o,s⟩=>rs.length - i) (⟨0,[],.slice none 0 0⟩) (jc Z Z Z) (⟨⟨XK _,by simp⟩,br,(Fresh.nil A A5 3),ap.get,(fun q=>by cases q)⟩) ?_;rintro ⟨i,o,s⟩ B15 ⟨⟨hi,ho⟩,a2,a8,D,a0⟩;refine ak.wf fun aS=>?_;have hlo:o.length=i:=by rw [ho];simp
 refine ak.sq fun b2=>.sq fun b3=>.region<|.J Z<|.p (ae cW fp U Z)<|.p (ah ga Z Z D Z)<|.p (bE (n:=rs.length) i4 Z (hr.le a2) O (cL _))<|.p (ca Z Z)<|.nil<|b3 ?_;refine ak.if rfl (fun bv=>?_) (fun bv=>?_)
 ·refine ak.skip<|b2<|.sq fun b5=>.block<|.drawn [0,1,2,3,4,5,6,7,8,9,10,11,12,13,14,15,16,17] mixed Y Y Z<|.p Z (aN Z)<|.p Z (aN Z)<|.p Z (ae cW fp U Z)<|.p Z (ah ga Z Z D Z)<|.p Z (aN Z) ?_;obtain ⟨bS,bY,bP,ch,bM,cc,c7,aT,bm,aY,bD,ar⟩:=bJ.at (i:=i) (hr.le a2) O3 O;refine bn.p Z (au i4 eE Z aT Z bm)<|.p Z (ae ew ek U Z)<|.p Z (ah eJ Z Z aY ((ar 0 U).trans (jK O)))<|.p Z (ae cW fp U Z)<|.p Z (ah ga Z Z D Z)<|.p Z (aN Z) ?_;obtain ⟨bT,c3,bR,ck,bO,cf,cb,aV,bp,aZ,bL,av⟩:=bJ.at (i:=i) (hr.le a2) O3 O;refine bn.p Z (au i4 eE Z aV Z bp)<|.p Z (ae jw ek U Z)<|.p Z (ah eJ Z Z aZ ((av 1 U).trans (yK O)))<|.p Z (cx Z (bg u113 Rh pl113 Z))<|.m Z (fun aA=>bf (c:=[num ((i:Nat):Int),ax ((rs.getD i .zero).left),ax ((rs.getD i .zero).right)]) aS rfl (aw zH wH Rh rfl U U rfl) fun A32 bU a3=>?_);have ag:=a3.le.g D;have aa:=a8.le a3.le;refine aA (aU.none Y)<|.m Z (fun aB=>ct (ys:=[num ((i:Nat):Int),ax ((rs.getD i .zero).left),ax ((rs.getD i .zero).right)]) rfl rfl zH wH Ug Rh rfl U zH (fun _ h=>by cases h) aa.own (bN (n:=1) a3.get Z) rfl rfl (by show (_ + _) * 40<=_;simp only [jV,Xq,Xz];(try simp only [Xx,Xq,Xz]);omega) (by simp only [jV,Xq,Xz];(try simp only [Xx,Xq,Xz]);omega) fun A43 bB a6=>?_);rw [show ([num ((i:Nat):Int),ax ((rs.getD i .zero).left),ax ((rs.getD i .zero).right)]:List Value)=IK [⟨((i:Nat):Int),(rs.getD i .zero).left,(rs.getD i .zero).right⟩] from rfl,za] at a6;obtain ⟨ay,aG⟩:=Fresh.grow aa (a2.trans a3.le) wf a6;have b6:=a6.keep a0 ag;have aP:=a6.ne a0 a3.wf ag;refine aB (aU.none Y)<|.p Z (dB Z)<|.done<|b5<|.region<|.J Z<|.p (bF (b:=1) Z Z Ox)<|.I Z<|.nil ?_;exact ⟨⟨i + 1,o ++ [⟨((i:Nat):Int),(rs.getD i .zero).left,(rs.getD i .zero).right⟩],bB⟩,jc Z Z Z,Z,⟨⟨by omega,by rw [ho];exact PN O⟩,aG,ay,b6,aP⟩,O1⟩
 refine ak.exit<|b0<|.sq fun b7=>.sq fun b8=>.region<|.I Z<|.nil<|b8<|.block<|.loop (X:=Nat × List Sd × Value) (fun ⟨x,o,s⟩=>[(1,.pointer (some ⟨b4,0,none⟩)),(3,s),(5,num ((x:Nat):Int))]) (fun ⟨x,o,s⟩ B=>(x<=2 * gn/\o=(List.range (rs.length + x)).map (ud (gn:Int) rs))/\A.le B/\Fresh A B s 3 (IK o)/\B.get b4=some (.row true [num ((gn:Nat):Int),u,rv] 3)/\V.blk s ≠ some b4) (fun ⟨x,o,s⟩=>2 * gn - x) (⟨0,(List.range (rs.length + 0)).map (ud (gn:Int) rs),s⟩) (jc Z Z Z) (⟨⟨XK _,Z⟩,a2,(ce a8 (Xk IK ((by first | rfl | (rw [ho,show i=rs.length + 0 by omega]))))),D,a0⟩) ?_;rintro ⟨x,o,s⟩ B57 ⟨⟨hx,ho⟩,ac,a9,a5,a1⟩;refine ak.wf fun ad=>?_;have hlo:o.length=rs.length + x:=by rw [ho];simp
 have c4:=fun q:x < 16=>sJ q;refine ak.sq fun b9=>.sq fun ba=>.region<|.J Z<|.p (ae gi ik U Z)<|.p (ae gh dH U Z)<|.p (ah fA Z Z a5 Z)<|.p (qG (a:=2) Z Z Ox)<|.p (ca Z Z)<|.nil ?_;refine ba<|.if rfl (fun bA=>?_) (fun bA=>?_)
 ·refine ak.skip<|b9<|.sq fun bb=>.block<|.region<|.J Z<|.J Z<|.p (vK Z Z Ox)<|.J Z<|.m (fun aC=>aq Z (vR x B57 (by first | omega | exact sJ O)) ?_);rintro cu A68 ⟨rfl,rfl⟩;refine aC<|.runeStr Y u5 u9 Z (by first | exact xi O | exact xi (sJ O))<|.J Z<|.p (zA U U Z Z (xor1n O))<|.m (fun aD=>aq Z (vR (x ^^^ 1) B57 (by first | omega | exact sJ O)) ?_);rintro cv A72 ⟨rfl,rfl⟩;refine aD<|.runeStr Y u5 u9 Z (by first | exact xi O | exact xi (sJ O))<|.p (nf Z Z Ox)<|.p (cx Z (bg u113 Rh pl113 Z))<|.m (fun aE=>bf (c:=[num ((-1) - ((x:Nat):Int)),ax (([bW.getD x 0]) ++ ([bW.getD (x ^^^ 1) 0])),ax ([])]) ad rfl (aw zH wH Rh rfl U U rfl) fun A76 bV a4=>?_);have ai:=a4.le.g a5;have ab:=a9.le a4.le;refine aE<|.m (fun aF=>ct (ys:=[num ((-1) - ((x:Nat):Int)),ax (([bW.getD x 0]) ++ ([bW.getD (x ^^^ 1) 0])),ax ([])]) rfl rfl zH wH Ug Rh rfl U zH (fun _ h=>by cases h) ab.own (bN (n:=1) a4.get Z) rfl rfl (by show (_ + _) * 40<=_;simp only [jV,Xq,Xz];(try simp only [Xx,Xq,Xz]);omega) (by simp only [jV,Xq,Xz];(try simp only [Xx,Xq,Xz]);omega) fun A83 bC a7=>?_);rw [show ([num ((-1) - ((x:Nat):Int)),ax (([bW.getD x 0]) ++ ([bW.getD (x ^^^ 1) 0])),ax ([])]:List Value)=IK [⟨(-1) - ((x:Nat):Int),([bW.getD x 0]) ++ ([bW.getD (x ^^^ 1) 0]),[]⟩] from rfl,za] at a7;obtain ⟨az,aI⟩:=Fresh.grow ab (ac.trans a4.le) wf a7;have bc:=a7.keep a1 ai;have aR:=a7.ne a1 a4.wf ai;refine aF<|.I Z<|.nil<|bb<|.region<|.J Z<|.p (bF (b:=1) Z Z Ox)<|.I Z<|.nil ?_;exact ⟨⟨x + 1,o ++ [⟨(-1) - ((x:Nat):Int),([bW.getD x 0]) ++ ([bW.getD (x ^^^ 1) 0]),[]⟩],bC⟩,jc Z Z Z,Z,⟨⟨by omega,by rw [ho];exact PO (by rw [RX];omega)⟩,aI,(ce az (Xk IK ((by first | rfl | (rw [ho,show i=rs.length + 0 by omega]))))),bc,aR⟩,O1⟩
 refine ak.exit<|b7<|.sq fun bd=>.region<|.J Z<|.I Z<|.nil<|bd<|.rt (by exact aH Z (⟨ac,ad,ce a9 (Xk IK (by rw [ho,show x=2 * gn by omega,vP,jq,RX]))⟩))
theorem aac (x y:Sd) (A:AH) (hx:x.left.length<=100000/\x.right.length<=100000) (hy:y.left.length<=100000/\y.right.length<=100000):bH prog 153 #[.agg #[num (x.n),ax (x.left),ax (x.right)],.agg #[num (y.n),ax (y.left),ax (y.right)]] A (fun v A1=>A.le A1/\A1.wf/\Fresh A A1 v 5 (sW (ni x y))):=by
 refine bi (e:=[(0,.agg #[num (x.n),ax (x.left),ax (x.right)]),(1,.agg #[num (y.n),ax (y.left),ax (y.right)])]) (args:=[.agg #[num (x.n),ax (x.left),ax (x.right)],.agg #[num (y.n),ax (y.left),ax (y.right)]]) call153 func153 Z results153 ntmps153 Z Z Z (fun wf=>?_);have c7:=AH.le.refl A;refine ak.sq fun h2=>.region<|.m (fun c3=>d8 wf rfl rfl fun A5 b4 aF=>?_);refine c3<|.m (fun c4=>d8 aF.wf rfl rfl fun A10 b9 ad=>?_);have b0:=ad.le.g aF.get;have aD:=(c7.trans aF.le).trans ad.le;refine c4<|.I Z<|.nil<|h2<|.sq fun bv=>.region<|.I Z<|.nil<|bv<|.sq fun bA=>?_;refine ak.join (fun f A1=>aj [(16,.bool (decide (x.n < 0/\y.n < 0))),(0,.agg #[num (x.n),ax (x.left),ax (x.right)]),(1,.agg #[num (y.n),ax (y.left),ax (y.right)]),(2,.pointer (some ⟨b4,0,none⟩)),(3,.pointer (some ⟨b9,0,none⟩)),(4,.slice none 0 0),(5,.slice none 0 0)] f.e/\f.ds=[]/\A10=A1) ?_ ?_
 ·refine ak.region<|.p (ae nY dH U Z)<|.p (ah fA Z Z b0 Z)<|.p (kY Z Z)<|.J Z<|.part (t:=12) Z (fun cb=>?_) (fun cb=>?_)
  ·refine Ops.on Z Z<|.p (ae nY dH U Z)<|.on Z Z<|.p (ah fA Z Z ad.get Z)<|.on Z Z<|.p (kY Z Z)<|.p (aL Z Z)<|.nil ?_;exact ⟨aj.cons (show some _=some _ from Xk (fun b=>some (Value.bool b)) (show (decide ((y.n) < ((0:Nat):Int)))=decide (x.n < 0/\y.n < 0) from (by simp [*])))<|ya Z Z Z Z Z Z,Z,Z⟩
  refine Ops.off Z Z Z Z<|.off Z Z Z Z<|.off Z Z Z Z<|.p (bh Z Z)<|.nil ?_;exact ⟨aj.cons (show some _=some _ from Xk (fun b=>some (Value.bool b)) (show (false)=decide (x.n < 0/\y.n < 0) from (by simp [*])))<|ya Z Z Z Z Z Z,Z,Z⟩
 rintro ⟨fe,fd⟩ _ ⟨hE,rfl,rfl⟩;refine ak.forget hE<|.if rfl (fun cc=>?_) (fun cc=>?_)
 ·refine ak.sq fun bB=>.region<|.I Z<|.nil<|bB<|.rt (by exact aH Z (⟨aD,ad.wf,ce (Fresh.nil _ _ _) (Xk sW (rb_neg ‹x.n < 0/\y.n < 0›.1 ‹x.n < 0/\y.n < 0›.2).symm)⟩))
 refine ak.skip<|bA<|.sq fun bC=>.sq fun bD=>.region<|.I Z<|.nil<|bD<|.block<|.loop (X:=Nat × List CP × Value) (fun ⟨k,o,s⟩=>[(2,.pointer (some ⟨b4,0,none⟩)),(3,.pointer (some ⟨b9,0,none⟩)),(5,s),(6,num ((k:Nat):Int))]) (fun ⟨k,o,s⟩ B=>(1<=k/\(k<=x.left.length\/k=1)/\o=oc x.n y.n (x.left,x.right) (y.left,y.right) k/\o.length<=k)/\A.le B/\Fresh A B s 5 (sW o)/\B.get b4=some (.row true [num (x.n),ax (x.left),ax (x.right)] 3)/\B.get b9=some (.row true [num (y.n),ax (y.left),ax (y.right)] 3)/\V.blk s ≠ some b4/\V.blk s ≠ some b9) (fun ⟨k,o,s⟩=>x.left.length - k) (⟨1,[],.slice none 0 0⟩) (jC Z Z Z Z) (⟨⟨XV _,.inr rfl,MD.symm,XK _⟩,aD,(Fresh.nil A A10 5),b0,ad.get,(fun q=>by cases q),(fun q=>by cases q)⟩) ?_;rintro ⟨k,o,s⟩ B29 ⟨⟨ai,hk,ho,hol⟩,ac,a5,D,a0,a1,a2⟩;refine ak.wf fun aG=>.sq fun bL=>.sq fun bM=>.region<|.J Z<|.p (ae ie ek U Z)<|.p (ah eJ Z Z D Z)<|.p (cN u9 Z)<|.p (ca Z Z)<|.nil ?_;refine bM<|.if rfl (fun cf=>?_) (fun cf=>?_)
 ·refine ak.skip<|bL<|.sq fun aB=>.block<|.sq fun bO=>.region<|.p (ae ie ek U Z)<|.p (ah eJ Z Z D Z)<|.p (cN u9 Z)<|.J Z ?_;refine Ops.p (fJ Z Z O)<|.I Z<|.nil<|bO<|.sq fun b1=>.drawn [0,1,2,3,4,5,6,7,8,9,10,11,12,13,14,15] mixed Y Y Z<|.p Z (aN Z)<|.p Z (ae ie ek U Z)<|.p Z (ah eJ Z Z a0 Z)<|.p Z (cN u9 Z) ?_;refine bn.p Z (ca Z Z)<|.p Z (aN Z)<|.part (t:=34) Z (fun ch=>?_) (fun ch=>?_)
  ·refine bn.qOn Z Z Z Z Z (ae ie ek U Z)<|.qOn Z Z Z Z Z (ah eJ Z Z D Z)<|.qOn Z Z Z Z Z (aN Z)<|.qOn Z Z Z Z Z (tc u9 Z Z O)<|.qOn Z Z Z Z Z (ae ie ek U Z)<|.qOn Z Z Z Z Z (ah eJ Z Z a0 Z)<|.qOn Z Z Z Z Z (aN Z)<|.qOn Z Z Z Z Z (wx u9 Z Z O)<|.qOn Z Z Z Z Z (ng Z Z)<|.p Z (aL Z Z) ?_;refine bn.done<|b1<|.if rfl (fun ck=>?_) (fun ck=>?_)
   ·refine ak.drawn [0,1,2,3,4,5,6,7,8,9,10,11,12,13,14,15,16,17,18,19,20,21,22,23,24,25,26,27,28,29] mixed Y Y Z<|.p Z (aN Z)<|.p Z (ae nY dH U Z)<|.p Z (ah fA Z Z D Z)<|.p Z (ae nY dH U Z)<|.p Z (ah fA Z Z a0 Z)<|.p Z (ae ie ek U Z)<|.p Z (ah eJ Z Z D Z)<|.p Z (ae ie ek U Z)<|.p Z (ah eJ Z Z a0 Z) ?_;refine bn.p Z (aN Z)<|.p Z (tc u9 Z Z O)<|.p Z (nf Z Z Ov)<|.p Z (ae w8 ek U Z)<|.p Z (ah eJ Z Z D Z)<|.p Z (ae ie ek U Z)<|.p Z (ah eJ Z Z a0 Z)<|.p Z (aN Z)<|.p Z (tc u9 Z Z O)<|.p Z (nf Z Z Ov) ?_;refine bn.p Z (ae ie ek U Z)<|.p Z (ah eJ Z Z D Z)<|.p Z (aN Z)<|.p Z (wx u9 Z Z O)<|.p Z (ae w8 ek U Z)<|.p Z (ah eJ Z Z a0 Z)<|.p Z (nf Z Z Ov)<|.p Z (cx Z (bg QY tk vI Z))<|.m Z (fun bb=>bf (c:=[num (x.n),num (y.n),ax (x.left ++ (y.left.drop (x.left.length - k))),ax (x.right ++ (y.left.drop (x.left.length - k))),ax ((x.left.take k) ++ y.right)]) aG rfl (aw Ew gy tk rfl U U rfl) fun A54 cF a8=>?_);have b2:=a8.le.g D;have b3:=a8.le.g a0;have ar:=a5.le a8.le;refine bb (aU.none Y)<|.m Z (fun bc=>ct (ys:=[num (x.n),num (y.n),ax (x.left ++ (y.left.drop (x.left.length - k))),ax (x.right ++ (y.left.drop (x.left.length - k))),ax ((x.left.take k) ++ y.right)]) rfl rfl Ew gy LN tk rfl U Ew (fun _ h=>by cases h) ar.own (bN (n:=1) a8.get Z) rfl rfl (by show (_ + _) * 64<=_;simp only [e8,Xq,Xz];(try simp only [Xx,Xq,Xz]);omega) OB fun A70 cv ab=>?_);rw [show ([num (x.n),num (y.n),ax (x.left ++ (y.left.drop (x.left.length - k))),ax (x.right ++ (y.left.drop (x.left.length - k))),ax ((x.left.take k) ++ y.right)]:List Value)=sW [⟨x.n,y.n,x.left ++ (y.left.drop (x.left.length - k)),x.right ++ (y.left.drop (x.left.length - k)),(x.left.take k) ++ y.right⟩] from rfl,pY] at ab;obtain ⟨b5,bl⟩:=Fresh.grow ar (ac.trans a8.le) wf ab;have bP:=ab.keep a1 b2;have bm:=ab.ne a1 a8.wf b2;have bR:=ab.keep a2 b3;have bp:=ab.ne a2 a8.wf b3;refine bc (aU.none Y)<|.p Z (dB Z)<|.done<|aB<|.region<|.J Z<|.p (bF (b:=1) Z Z O)<|.I Z<|.nil ?_;exact ⟨⟨k + 1,o ++ [⟨x.n,y.n,x.left ++ (y.left.drop (x.left.length - k)),x.right ++ (y.left.drop (x.left.length - k)),(x.left.take k) ++ y.right⟩],cv⟩,jC Z Z Z Z,Z,⟨⟨by omega,by omega,by rw [ho];first | exact Vh ai ‹_› ‹_› | exact Vg (fun q=>by first | exact absurd q.2 ‹_› | exact absurd q.1 ‹_›),by (try simp only [Xx,Xq,Xz]);omega⟩,bl,b5,bP,bR,bm,bp⟩,O1⟩
   refine ak.skip<|aB<|.region<|.J Z<|.p (bF (b:=1) Z Z O)<|.I Z<|.nil ?_;exact ⟨⟨k + 1,o,s⟩,jC Z Z Z Z,Z,⟨⟨by omega,by omega,by rw [ho];first | exact Vh ai ‹_› ‹_› | exact Vg (fun q=>by first | exact absurd q.2 ‹_› | exact absurd q.1 ‹_›),by (try simp only [Xx,Xq,Xz]);omega⟩,ac,a5,D,a0,a1,a2⟩,O1⟩
  refine bn.qOff Z Z Z Z Z Z<|.qOff Z Z Z Z Z Z<|.qOff Z Z Z Z Z Z<|.qOff Z Z Z Z Z Z<|.qOff Z Z Z Z Z Z<|.qOff Z Z Z Z Z Z<|.qOff Z Z Z Z Z Z<|.qOff Z Z Z Z Z Z<|.qOff Z Z Z Z Z Z<|.p Z (bh Z Z) ?_;refine bn.done<|b1<|.cond_false Z<|.skip<|aB<|.region<|.J Z<|.p (bF (b:=1) Z Z O)<|.I Z<|.nil ?_;exact ⟨⟨k + 1,o,s⟩,jC Z Z Z Z,Z,⟨⟨by omega,by omega,by rw [ho];first | exact Vh ai ‹_› ‹_› | exact Vg (fun q=>by first | exact absurd q.2 ‹_› | exact absurd q.1 ‹_›),by (try simp only [Xx,Xq,Xz]);omega⟩,ac,a5,D,a0,a1,a2⟩,O1⟩
 refine ak.exit<|bC<|.sq fun bS=>.sq fun bT=>.region<|.p (ae nY dH U Z)<|.p (ah fA Z Z D Z)<|.p (ae nY dH U Z)<|.p (ah fA Z Z a0 Z)<|.p (ZK Z Z) ?_;refine Ops.nil<|bT<|.if rfl (fun cu=>?_) (fun cu=>?_)
 ·refine ak.sq fun bU=>.region<|.J Z<|.I Z<|.nil<|bU<|.rt (by exact aH Z (⟨ac,aG,ce a5 (Xk sW (by first | (rw [ho,DN ai hk ‹_›];exact (MJ ‹¬ (x.n < 0/\y.n < 0)› ‹_›).symm) | (rw [aC,inc_z hm (LI O)];exact (GZ ‹¬ (x.n < 0/\y.n < 0)› ‹_›).symm)))⟩))
 refine ak.skip<|bS<|.sq fun bV=>.sq fun bY=>.region<|.p (ae ie ek U Z)<|.p (ah eJ Z Z D Z)<|.p (ae ie ek U Z)<|.p (ah eJ Z Z a0 Z)<|.m (fun bd=>aq Z (yX x.left y.left 0 B29 O O O) ?_);rintro cH A94 ⟨rfl,rfl⟩;refine bd<|.I Z<|.nil<|bY<|.block<|.loop (X:=Nat × Int × List CP × Value) (fun ⟨m,t,o2,s2⟩=>[(2,.pointer (some ⟨b4,0,none⟩)),(3,.pointer (some ⟨b9,0,none⟩)),(5,s2),(8,num (t))]) (fun ⟨m,t,o2,s2⟩ B=>(m<=x.left.length + 1/\t=vq x.left y.left m/\o2=oc x.n y.n (x.left,x.right) (y.left,y.right) x.left.length ++ si x.n y.n (x.left,x.right) (y.left,y.right) m/\o2.length<=x.left.length + 1 + m)/\A.le B/\Fresh A B s2 5 (sW o2)/\B.get b4=some (.row true [num (x.n),ax (x.left),ax (x.right)] 3)/\B.get b9=some (.row true [num (y.n),ax (y.left),ax (y.right)] 3)/\V.blk s2 ≠ some b4/\V.blk s2 ≠ some b9) (fun ⟨m,t,o2,s2⟩=>x.left.length + 1 - m) (⟨0,vq x.left y.left 0,o,s⟩) (jC Z Z Z Z) (⟨⟨XK _,Z,by rw [ho,DN ai hk ‹_›];exact (Sk _).symm,by omega⟩,ac,a5,D,a0,a1,a2⟩) ?_;rintro ⟨m,t,o2,s2⟩ B97 ⟨⟨hm,ht,aC,cB⟩,aE,ag,a3,a7,a9,aa⟩;refine ak.wf fun aI=>.sq fun b6=>.sq fun b7=>.region<|.J Z<|.p (ml Z Z)<|.nil<|b7<|.if rfl (fun br=>?_) (fun br=>?_)
 ·refine ak.skip<|b6<|.sq fun b8=>.block ?_;obtain ⟨K,rfl⟩:∃ n:Nat,t=n:=⟨t.toNat,by omega⟩;have hfn:=YM ht;have hfo:=hfn.2.1.1;refine ak.drawn [0,1,2,3,4,5,6,7,8,9,10,11,12,13,14,15,16,17,18,19,20,21,22,23,24,25,26,27,28] mixed Y Y Z<|.p Z (aN Z)<|.p Z (ae nY dH U Z)<|.p Z (ah fA Z Z a3 Z)<|.p Z (ae nY dH U Z)<|.p Z (ah fA Z Z a7 Z)<|.p Z (ae ie ek U Z)<|.p Z (ah eJ Z Z a3 Z)<|.p Z (ae w8 ek U Z)<|.p Z (ah eJ Z Z a3 Z) ?_;refine bn.p Z (ae ie ek U Z)<|.p Z (ah eJ Z Z a3 Z)<|.p Z (aN Z)<|.p Z (wx u9 Z Z O)<|.p Z (ae w8 ek U Z)<|.p Z (ah eJ Z Z a7 Z)<|.p Z (nf Z Z Ov)<|.p Z (ae ie ek U Z)<|.p Z (ah eJ Z Z a3 Z)<|.p Z (aN Z) ?_;refine bn.p Z (ae ie ek U Z)<|.p Z (ah eJ Z Z a7 Z)<|.p Z (cN u9 Z)<|.p Z (bF Z Z O)<|.p Z (tc u9 Z Z O)<|.p Z (nf Z Z Ov)<|.p Z (cx Z (bg QY tk vI Z))<|.m Z (fun aR=>bf (c:=[num (x.n),num (y.n),ax (x.left),ax (x.right),ax (((x.left.take K) ++ y.right) ++ (x.left.drop (K + y.left.length)))]) aI rfl (aw Ew gy tk rfl U U rfl) fun A116 cA a4=>?_);have av:=a4.le.g a3;have ay:=a4.le.g a7;have ap:=ag.le a4.le;refine aR (aU.none Y)<|.m Z (fun aS=>ct (ys:=[num (x.n),num (y.n),ax (x.left),ax (x.right),ax (((x.left.take K) ++ y.right) ++ (x.left.drop (K + y.left.length)))]) rfl rfl Ew gy LN tk rfl U Ew (fun _ h=>by cases h) ap.own (bN (n:=1) a4.get Z) rfl rfl (by show (_ + _) * 64<=_;simp only [e8,Xq,Xz];(try simp only [Xx,Xq,Xz]);omega) OB fun A132 bu a6=>?_);rw [show ([num (x.n),num (y.n),ax (x.left),ax (x.right),ax (((x.left.take K) ++ y.right) ++ (x.left.drop (K + y.left.length)))]:List Value)=sW [⟨x.n,y.n,x.left,x.right,((x.left.take K) ++ y.right) ++ (x.left.drop (K + y.left.length))⟩] from rfl,pY] at a6;obtain ⟨aP,aV⟩:=Fresh.grow ap (aE.trans a4.le) wf a6;have az:=a6.keep a9 av;have aY:=a6.ne a9 a4.wf av;have aA:=a6.keep aa ay;have aZ:=a6.ne aa a4.wf ay;refine aS (aU.none Y)<|.p Z (dB Z)<|.done<|b8<|.region<|.p (ae ie ek U Z)<|.p (ah eJ Z Z az Z)<|.p (ae ie ek U Z)<|.p (ah eJ Z Z aA Z)<|.J Z ?_;refine Ops.p (bF (b:=1) Z Z O)<|.m (fun aT=>aq Z (yX x.left y.left (K + 1) A132 O O O) ?_);rintro cC A145 ⟨rfl,rfl⟩;refine aT<|.I Z<|.nil ?_;exact ⟨⟨K + 1,vq x.left y.left (K + 1),o2 ++ [⟨x.n,y.n,x.left,x.right,((x.left.take K) ++ y.right) ++ (x.left.drop (K + y.left.length))⟩],bu⟩,jC Z Z Z Z,Z,⟨⟨by omega,Z,by rw [aC,XY,inc_y hfn],by simp only [Xx,Xq,Xz];omega⟩,aV,aP,az,aA,aY,aZ⟩,O1⟩
 refine ak.exit<|bV<|.sq fun ba=>.region<|.J Z<|.I Z<|.nil<|ba<|.rt (by exact aH Z (⟨aE,aI,ce ag (Xk sW (by first | (rw [ho,DN ai hk ‹_›];exact (MJ ‹¬ (x.n < 0/\y.n < 0)› ‹_›).symm) | (rw [aC,inc_z hm (LI O)];exact (GZ ‹¬ (x.n < 0/\y.n < 0)› ‹_›).symm)))⟩))
theorem WB (g:Int) (u:Value) (l:List W8) (rv:Value) (rs:List an) (A:AH) (hs:bI g l rs=true) (hmx:(aM g rs).length<=50000) (hu:bJ A 1 u (dN l)) (hr:bJ A 3 rv (cd rs)) (hp:Proofs A rs):bH prog 120 #[.agg #[num (g),u,rv]] A (fun v A1=>∃ w,v=.tuple #[w,.bool true]/\A.le A1/\A1.wf/\Fresh A A1 w 5 (sW (aM g rs))):=by
 refine bi (e:=[(0,.agg #[num (g),u,rv])]) (args:=[.agg #[num (g),u,rv]]) call120 func120 Z results120 ntmps120 Z Z Z (fun wf=>?_);have bl:=AH.le.refl A;have hg:=ja hs;have hrl:=(cT hs).2.1;have hsl:(aO g rs).length=rs.length + 2 * g.toNat:=jq g rs;have hdl:(vP g rs).length=rs.length + 2 * g.toNat:=ZR;have hln:=Ig hs;have hpl:=fun i j (h:i < (aO g rs).length) (k:j<=(aO g rs).length)=>PL_le (n:=rs.length) h k;refine ak.sq fun h2=>.region<|.m (fun bb=>d8 wf rfl rfl fun A5 b4 av=>?_);have a6:=bl.trans av.le;refine bb<|.I Z<|.I Z<|.nil<|h2<|.seq fun _ h9=>.region<|.I Z<|.nil<|h9 _ _ ?_;refine ak.sq fun aV=>.region<|.p (am ei dE Z Z av.get Z)<|.m (fun aC=>aq Z (WD ((g)) u l rv rs A5 hg O (hu.le a6) (hr.le a6) (hp.le a6)) ?_);rintro a1 A14 ⟨ap,bv,ag⟩;refine aC<|.I Z<|.nil<|aV<|.sq fun aY=>.sq fun aZ=>.region<|.I Z<|.nil<|aZ ?_;refine ak.block<|.loop (X:=Nat × List CP × Value) (fun ⟨i,o,s⟩=>[(4,s),(5,a1),(6,num ((i:Nat):Int))]) (fun ⟨i,o,s⟩ B=>(i<=(aO g rs).length/\o=uj rs.length (aO g rs)  i 0)/\A.le B/\Fresh A B s 5 (sW o)/\Fresh A B a1 3 (IK (vP ((g)) rs))/\bx s a1) (fun ⟨i,o,s⟩=>(aO g rs).length - i) (⟨0,[],.slice none 0 0⟩) (jc Z Z Z) (⟨⟨XK _,Z⟩,(a6.trans ap),(Fresh.nil A A14 5),(ag.base a6),bx.nil⟩) ?_;rintro ⟨i,o,s⟩ B25 ⟨⟨hi,ho⟩,ad,a5,a0,a8⟩;refine ak.wf fun aI=>.sq fun b0=>.sq fun b1=>.region<|.J Z<|.J Z<|.p (bE (n:=(vP ((g)) rs).length) zH Z a0.slc O (Ng _))<|.p (ca Z Z)<|.nil<|b1 ?_;refine ak.if rfl (fun bm=>?_) (fun bm=>?_)
 ·refine ak.skip<|b0<|.sq fun b2=>.block<|.sq fun b3=>.region<|.I Z<|.nil<|b3<|.block ?_;refine ak.loop (X:=Nat × List CP × Value) (fun ⟨k,o2,s2⟩=>[(4,s2),(5,a1),(6,num ((i:Nat):Int)),(7,num ((k:Nat):Int))]) (fun ⟨k,o2,s2⟩ B=>(k<=(aO g rs).length/\o2=uj rs.length (aO g rs)  i k)/\A.le B/\Fresh A B s2 5 (sW o2)/\Fresh A B a1 3 (IK (vP ((g)) rs))/\bx s2 a1) (fun ⟨k,o2,s2⟩=>(aO g rs).length - k) (⟨0,o,s⟩) (jC Z Z Z Z) (⟨⟨XK _,ho⟩,ad,a5,a0,a8⟩) ?_;rintro ⟨k,o2,s2⟩ B37 ⟨⟨hk,a9⟩,a7,a2,D,V⟩;refine ak.wf fun bO=>?_;have hol:o2.length<=50000:=by rw [a9];exact Xj (hpl i k O hk) hmx
  have hnx:=fun q:k < (aO g rs).length=>J5 (rs:=rs) (g:=g) (i:=i) O q;refine ak.sq fun b5=>.sq fun b6=>.region<|.J Z<|.J Z<|.p (bE (n:=(vP ((g)) rs).length) zH Z D.slc O (Ng _))<|.p (ca Z Z)<|.nil<|b6<|.if rfl (fun bp=>?_) (fun bp=>?_)
  ·refine ak.skip<|b5<|.sq fun b7=>.block<|.sq fun b8=>.drawn [0,1,2,3,4,5,6,7,8,9,10,11] mixed Y Y Z<|.p Z (aN Z)<|.p Z (aN Z)<|.p Z (aN Z) ?_;obtain ⟨bP,bS,bL,c7,bC,c3,bV,aP,bc,aS,ay,bA⟩:=bJ.at (i:=i) D.slc (by simp only [jV];omega) O;refine bn.p Z (au zH wH Z aP Z bc)<|.p Z (am ag113 wH Z Z aS (ay.trans (Xk some (Xc O))))<|.p Z (aN Z)<|.p Z (aN Z) ?_;obtain ⟨bR,bT,bM,cb,bD,c4,bY,aR,bd,aT,az,bB⟩:=bJ.at (i:=k) D.slc (by simp only [jV];omega) O;refine bn.p Z (au zH wH Z aR Z bd)<|.p Z (am ag113 wH Z Z aT (az.trans (Xk some (Xc O))))<|.m Z (fun aD=>aq Z (aac (((vP ((g)) rs).getD i .zero)) (((vP ((g)) rs).getD k .zero)) B37 (hln _ O) (hln _ O)) ?_);rintro cc A58 ⟨a4,ar,ai⟩;have aa:=a2.le a4;have ab:=D.le a4;have aA:=ai.base a7;refine aD (aU.none Y)<|.m Z (fun aE=>ct rfl rfl Ew gy LN tk rfl U Ew (fun _ h=>by cases h) aa.own (aA.slc.listOf (n:=(ni (((vP ((g)) rs).getD i .zero)) (((vP ((g)) rs).getD k .zero))).length) (by simp only [e8] <;> omega) O) (by simp only [e8] <;> omega) (YE _) (by show (_ + _) * 64<=_;simp only [e8,Xq,Xz];(try simp only [Xx,Xq,Xz]);have:=VI hs (show i < (aO g rs).length by omega) (show k < (aO g rs).length by omega);omega) (by simp only [e8,Xq,Xz];(try simp only [Xx,Xq,Xz]);have:=VI hs (show i < (aO g rs).length by omega) (show k < (aO g rs).length by omega);omega) fun A73 bu a3=>?_);rw [pY] at a3;obtain ⟨ac,aF⟩:=Fresh.grow aa (a7.trans a4) wf a3;have aG:=bx.appd (show bx s2 a1 from V) ab.own ar a3;have aB:=ab.appd a3 V;refine aE (aU.none Y)<|.p Z (dB Z)<|.done<|b8<|.sq fun b9=>.region<|.J Z<|.p (bE (n:=(o2 ++ ni (((vP ((g)) rs).getD i .zero)) (((vP ((g)) rs).getD k .zero))).length) Ew Z ac.slc O (wW _))<|.p (eh (b:=50000) Z Z)<|.nil ?_;refine b9<|.if rfl (fun br=>?_) (fun br=>?_)
   ·refine ak.sq fun bU=>?_;exfalso;have h9:=hpl i (k + 1) O O;rw [<- hnx O,<- a9] at h9;have:=Xj h9 hmx;omega
   refine ak.skip<|b7<|.region<|.J Z<|.p (bF (b:=1) Z Z O)<|.I Z<|.nil ?_;exact ⟨⟨k + 1,o2 ++ ni (((vP ((g)) rs).getD i .zero)) (((vP ((g)) rs).getD k .zero)),bu⟩,jC Z Z Z Z,Z,⟨⟨by omega,by rw [a9,hnx O]⟩,aF,ac,aB,aG⟩,O1⟩
  refine ak.exit<|b2<|.region<|.J Z<|.p (bF (b:=1) Z Z O)<|.I Z<|.nil ?_;exact ⟨⟨i + 1,o2,s2⟩,jc Z Z Z,Z,⟨⟨by omega,by rw [Cn,a9,show k=(aO g rs).length by omega]⟩,a7,a2,D,V⟩,O1⟩
 refine ak.exit<|aY<|.sq fun ba=>.region<|.J Z<|.I Z<|.I Z<|.nil<|ba<|.rt (by exact aH Z (⟨_,Z,ad,aI,ce a5 (Xk sW (by rw [ho,show i=(aO g rs).length by omega];exact Jg))⟩))
open Fr
theorem IM (p:List Value):∀ (ws t:List Value) (i:Nat),jW (p ++ t) (p.length + i) ws=p ++ jW t i ws
  | [],_,_=>rfl
  | w :: ws,t,i=>by
    rw [jW,jW,RZ _ _ O,Nat.add_sub_cancel_left]
    exact IM p ws _ (i + 1)
theorem Ca (m:Nat):∀ (ws r:List Value) (i:Nat),(jW r i ws).take m=jW (r.take m) i ws
  | [],_,_=>rfl
  | w :: ws,r,i=>by rw [jW,jW,Ca m ws,List.take_set]
theorem AX (R:an):∀ (L:List an) (x:Nat),x < L.length->jW (cd L) (x * 3) (ky R)=cd (L.set x R)
  | [],x,h=>absurd h (Nat.not_lt_zero _)
  | a :: L,0,_=>rfl
  | a :: L,x + 1,h=>by
    have ih:=AX R L x (by simpa using h)
    have:=IM (ky a) (ky R) (cd L) (x * 3)
    rw [ih] at this
    rw [show (x + 1) * 3=(ky a).length + x * 3 by show _=3 + _;omega]
    exact this
theorem Fresh.at3 {A0 A:AH} {v:Value} {L:List an} {x:Nat} (fr:Fresh A0 A v 3 (cd L)) (hx:x < L.length):∃ b n c r rcap,v=.slice (some ⟨b,0,none⟩) n c/\n=L.length/\A.get b=some (.row true r rcap)/\x * 3 + 3<=r.length/\A0.get b=none/\r.take (n * 3)=cd L /\
    ∀ (R:an) A1,sL A A1 b (.row true (jW r (x * 3) [ax R.left,ax R.right,R.pv]) rcap)->Fresh A0 A1 v 3 (cd (L.set x R)):=by
  have hl:(cd L).length=L.length * 3:=cL L
  obtain ⟨b,n,c,e,h1,h2⟩:=fr.nonnil (by intro q;rw [q] at hl;simp at hl;omega)
  have lo:=fr.lo b (by rw [e];rfl)
  subst e
  obtain ⟨r,rcap,g,h3,h4⟩:=fr.row
  have hn:n=L.length:=by omega
  have hr:n * 3<=r.length:=by have:=Xk List.length h3;rw [XZ] at this;omega
  refine ⟨b,n,c,r,rcap,rfl,hn,g,by omega,lo,h3,fun R A1 sb=>⟨?_,fr.lo⟩⟩
  rcases fr.own with ⟨q,_⟩ | ⟨b',n',k,r',rcap',k1,k2,k3,k4,k5,k6⟩
  · cases q
  · cases k1
    rw [g] at k2;cases k2
    have e2:=AX R L x hx
    refine .inr ⟨b,n,c,_,rcap,Z,sb.get,by rw [<- e2,wG];exact k3,?_,k5,k6⟩
    rw [Ca,k4];exact e2
def Zm (r:an):Prop:=r.pv=.slice none 0 0/\r.proof=[]
theorem Vd {r:an} (h:Zm r):lG [ax r.left,ax r.right,r.pv]=true:=by rw [h.1];rfl
section
variable {g:Int} {l:List Wd} {rs:List an} {w:Wd}
theorem iw (h:bG g w=0):fK g rs w=da (cG rs w)/\gJ g rs w=if (cG rs w).isSome then 0 else 2:=by
  unfold fK gJ
  rw [yD h,Xy O];exact ⟨Z,Z⟩
theorem go (h:bG g w=0) (q:¬ gJ g rs w=0):(!(cG rs w).isSome)=true:=by
  rw [(iw h).2] at q
  cases z:(cG rs w).isSome with
  | true=>rw [z] at q;exact absurd Z q
  | false=>rfl
theorem ic (h:bG g w=0) (q:¬ ¬ gJ g rs w=0):(!(cG rs w).isSome)=false:=by
  rw [(iw h).2] at q
  cases z:(cG rs w).isSome with
  | true=>rfl
  | false=>rw [z] at q;exact absurd U q
theorem GI (hs:bI g l rs=true) {c:CP} (h:c ∈ aM g rs):bG g c.u=0/\bG g c.v=0:=by
  have hg:=ja hs
  obtain ⟨h1,h2⟩:=CR.pair_ok hs h
  have hlen:c.u.length<=3000/\c.v.length<=3000:=by
    have hL:∀ s ∈ aO g rs,s.1.length<=1000/\s.2.length<=1000:=fun s D=>by
      rcases CR.in_cases D with ⟨r,hr,rfl⟩ | ⟨x,_,rfl⟩
      · exact (rP hs r hr).2
      · exact ⟨by show 2<=1000;omega,by show 0<=1000;omega⟩
    simp only [aM,jA,zB,Qv,VV] at h
    obtain ⟨i,hi,j,hj,h⟩:=h
    have a1:=hL _ (bj (d:=([],[])) hi)
    have a2:=hL _ (bj (d:=([],[])) hj)
    unfold qz at h
    split at h
    · cases h
    · obtain ⟨c,hc,rfl⟩:=Vj.1 h
      simp only [ren]
      unfold i0 jR at hc
      generalize (aO g rs).getD i ([],[])=s at *
      generalize (aO g rs).getD j ([],[])=t at *
      rcases Vw.1 hc with hc | hc
      · obtain ⟨k,_,rfl⟩:=Vj.1 hc
        simp only [Xx,Tx,XZ];omega
      · split at hc
        · cases hc
        · obtain ⟨k,_,rfl⟩:=Vj.1 hc
          simp only [Xx,Tx,XZ];omega
  exact ⟨j6 hg O h1,j6 hg O h2⟩
end
theorem xP {g:Int} {l:List Wd} {rs:List an} (h:¬ ((if bI g l rs then 0 else 100:Nat)=0)):bI g l rs=false:=by
  cases q:bI g l rs with
  | true=>rw [q] at h;exact absurd Z h
  | false=>rfl
abbrev bareR (w r:Wd):an:=⟨w,r,.slice none 0 0,[]⟩
def yj (w r:Wd) (o:List an) (k:Nat):List an:=o.take k ++ bareR w r :: o.drop k
abbrev lr (r:an):Wd × Wd:=(r.left,r.right)
abbrev lr3 (z:vj):Wd × Wd:=(z.1,z.2.1)
abbrev Asc (o:List an):Prop:=o.Pairwise (fun x y=>¬ fc y.left x.left < 0)
section
variable {o q:List an} {k:Nat} {y z:an} {w r:Wd}
theorem Zh (hk:k<=o.length):(o.take k ++ y :: o.drop k).length=o.length + 1:=by simp;omega
theorem Dt (hk:k<=o.length) (h0:0 < k):(o.take k ++ y :: o.drop k).getD (k - 1) .zero=o.getD (k - 1) .zero:=by
  simp only [Vq]
  rw [Tv Oi,SX O]
theorem xk (hk:k<=o.length):(o.take k ++ y :: o.drop k).set k z=o.take k ++ z :: o.drop k:=by
  rw [RZ _ _ Oi]
  simp [QZ hk]
theorem UT (hk:k<=o.length) (h0:0 < k):o.take k ++ o.getD (k - 1) .zero :: o.drop k=o.take (k - 1) ++ o.getD (k - 1) .zero :: o.drop (k - 1):=by
  have h1:=gz (l:=o) (i:=k - 1) (z:=an.zero) O
  rw [show k - 1 + 1=k by omega] at h1
  have h2:=pb (l:=o) (i:=k - 1) (z:=an.zero) O
  rw [show k - 1 + 1=k by omega] at h2
  rw [<- h1,h2,XY];rfl
theorem Ul:((yj w r o k).map lr).Perm ((w,r) :: o.map lr):=by
  unfold yj
  rw [VJ,TJ]
  refine List.perm_middle.trans ?_
  rw [<- VJ,VW]
theorem LX (hk:k<=o.length) (ho:Asc o) (h1:∀ j,k<=j->j < o.length->fc w (o.getD j .zero).left < 0) (h2:0 < k->¬ fc w (o.getD (k - 1) .zero).left < 0):Asc (yj w r o k):=by
  unfold yj
  have hd:Asc (o.take k ++ o.drop k):=by rw [VW];exact ho
  obtain ⟨p1,p2,p3⟩:=List.pairwise_append.1 hd
  refine List.pairwise_append.2 ⟨p1,List.pairwise_cons.2 ⟨fun b hb=>?_,p2⟩,fun a ha b hb=>?_⟩
  · obtain ⟨j,hj,rfl⟩:=VQ hb
    rw [Tx] at hj
    have:=h1 (k + j) O O
    rw [List.getElem_drop]
    have e:o.getD (k + j) .zero=o[k + j]'O:=by simp [show k + j < o.length by omega]
    rw [e,CR.cmpw_code] at this
    rw [CR.cmpw_code];show ¬ CR.code _ < CR.code w;omega
  · rcases Vz.1 hb with rfl | hb
    · obtain ⟨j,hj,rfl⟩:=VQ ha
      rw [XZ] at hj
      have h3:=h2 O
      rw [List.getElem_take]
      have e:o.getD (k - 1) .zero=o[k - 1]'O:=by simp [show k - 1 < o.length by omega]
      rw [e,CR.cmpw_code] at h3
      rw [CR.cmpw_code]
      show ¬ CR.code w < _
      rcases VY j (k - 1) with q | q
      · have:=List.pairwise_iff_getElem.1 ho j (k - 1) O O q
        rw [CR.cmpw_code] at this;omega
      · have:j=k - 1:=by omega
        subst this;exact h3
    · exact p3 a ha b hb
end
structure EH (g:Int) (l:List Wd) (rs ls:List an):Prop where
  nil:∀ r ∈ ls,Zm r
  bad:dU g l rs ≠ 0->ls=[]
  good:dU g l rs=0->Asc ls/\∃ acc,dP rs rs []=some acc/\(ls.map lr).Perm (acc.map lr3)
theorem EH.none {g:Int} {l:List Wd} {rs:List an} (h:dU g l rs ≠ 0):EH g l rs []:=⟨fun _ h=>by (cases h),fun _=>rfl,fun q=>absurd q h⟩
section
variable {rs:List an} {i:Nat} {acc:List vj} {R:Option (List vj)}
theorem Sg (hi:i < rs.length) (h:dP rs (rs.drop i) acc=R) (q:(!qj rs (rs.getD i .zero).left)=false) (t:(!(cG rs (rs.getD i .zero).left).isSome)=false) :
    dP rs (rs.drop (i + 1)) (acc ++ [((rs.getD i .zero).left,(da (cG rs (rs.getD i .zero).left)).word,(da (cG rs (rs.getD i .zero).left)).disk)])=R:=by
  rw [<- h,pb (z:=an.zero) hi]
  conv=>rhs;rw [dP,XX (qS q),np t]
theorem GO {o:List an} {k:Nat} {w r:Wd} {d:List bK} (h:(o.map lr).Perm (acc.map lr3)):((yj w r o k).map lr).Perm ((acc ++ [(w,r,d)]).map lr3):=by
  rw [VJ]
  refine Ul.trans ((List.Perm.cons _ h).trans ?_)
  exact (List.perm_append_comm (l₁:=[(w,r)])).trans (.refl _)
end
theorem Wx (g:Int) (u:Value) (l:List W8) (rv:Value) (rs:List an) (A:AH) (hmx:bI g l rs=true->(aM g rs).length<=50000) (hz:Sml l rs) (hu:bJ A 1 u (dN l)) (hr:bJ A 3 rv (cd rs)) (hp:Proofs A rs):bH prog 83 #[.agg #[num (g),u,rv]] A (fun v A1=>v=.tuple #[.bool (ci g l rs).1,YF (ci g l rs).2.1,num (((ci g l rs).2.2:Nat):Int)]/\A.le A1/\A1.wf):=by
 refine bi (e:=[(0,.agg #[num (g),u,rv])]) (args:=[.agg #[num (g),u,rv]]) call83 func83 Z results83 ntmps83 Z Z Z (fun wf=>?_);have gQ:=AH.le.refl A;refine ak.sq fun h2=>.region<|.m (fun gM=>d8 wf rfl rfl fun A5 b4 dD=>?_);have eZ:=gQ.trans dD.le;refine gM<|.I Z<|.m (fun gN=>bZ dD.wf tk rfl fun A10 b9 bR=>?_);have aR:=aX wf (Xj eZ.n bR.lo);have eV:=bR.le.g dD.get;have bM:=eZ.trans bR.le;refine gN<|.I Z<|.nil<|h2<|.sq fun gm=>.sq fun gp=>.region<|.p (am ei dE Z Z eV Z)<|.m (fun fI=>aq Z (Ww ((g)) u l rv rs A10 hz (hu.le bM) (hr.le bM) (hp.le bM)) ?_);rintro ht A20 ⟨rfl,bO,bU⟩;have dm:=bO.g eV;have dv:=bO.g bR.get;have b6:=bM.trans bO;refine fI<|.p (eB (b:=0) Z Z)<|.nil<|gp<|.if rfl (fun gS=>?_) (fun gS=>?_)
 ·refine ak.sq fun gq=>.region<|.p (cx Z (bg QY tk vI Z))<|.I Z<|.m (fun fL=>aW (cs:=[num ((0:Nat):Int),num ((0:Nat):Int),ax ([]),ax ([]),ax ([])]) (c':=[num ((0:Nat):Int),num ((0:Nat):Int),ax ([]),ax ([]),ax ([])]) bU rfl rfl rfl rfl gy dv G rfl rfl fun A29 bS=>?_);have fT:=al b6 wf aR bS.n bS.keep;refine fL<|.I Z<|.nil<|gq<|.rt (by exact aH (dA Z (df rd gy Z bS.get Z (dA Z d5))) (⟨by first | (rw [sc (by simp [xP ‹_›])];rfl) | (rw [iq (by simp [hs]),nw O hsc (by first | exact .inl (go (hpk O).1 ‹_›) | exact .inr (go (hpk O).2 ‹_›))];rfl) | (rw [iq (by simp [hs]),py O hsc (ic (hpk O).1 ‹_›) (ic (hpk O).2 ‹_›) (by rw [<- (iw (hpk O).1).1,<- (iw (hpk O).2).1];assumption)];rfl) | (rw [iq (by simp [hs]),pz O hsc];rfl),fT,bS.wf⟩))
 refine ak.skip<|gm<|.sq fun gs=>?_;have hs:bI g l rs=true:=YA ‹_›;have ha:=hmx hs;refine ak.region<|.p (am ei dE Z Z dm Z)<|.m (fun fM=>aq Z (WB ((g)) u l rv rs A20 hs (hmx hs) (hu.le b6) (hr.le b6) (hp.le b6)) ?_);rintro hv A37 ⟨a1,rfl,bP,h6,bD⟩;refine fM<|.J Z<|.p (aQ Z Z)<|.p (aQ Z Z)<|.I Z<|.I Z<|.nil<|gs<|.sq fun gA=>.sq fun gC=>?_;refine ak.region<|.J Z<|.p (eD Z)<|.nil<|gC<|.cond_false Z<|.skip<|gA<|.sq fun gD=>.sq fun gE=>?_;refine ak.region<|.I Z<|.nil<|gE<|.block<|.loop (X:=Nat) (fun i=>[(1,.pointer (some ⟨b4,0,none⟩)),(3,.pointer (some ⟨b9,0,none⟩)),(5,a1),(7,num ((i:Nat):Int))]) (fun i B=>(i<=(aM g rs).length/\fZ rs ((aM g rs).drop i)=fZ rs (aM g rs))/\A.le B/\Fresh A B a1 5 (sW (aM ((g)) rs))/\B.get b4=some (.row true [num (g),u,rv] 3)/\B.get b9=some (.row true [num ((0:Nat):Int),num ((0:Nat):Int),ax ([]),ax ([]),ax ([])] 5)/\V.blk a1 ≠ some b4/\V.blk a1 ≠ some b9) (fun i=>(aM g rs).length - i) 0 (jC Z Z Z Z) (⟨⟨XK _,Z⟩,(b6.trans bP),(bD.base b6),(bP.g dm),(bP.g dv),(bD.ne bU dm),(bD.ne bU dv)⟩) ?_;rintro i B54 ⟨⟨hi,hsc⟩,ag,a4,a2,aB,ar,ay⟩;refine ak.wf fun bv=>?_;have hpk:=fun q:i < (aM g rs).length=>GI hs (bj (d:=CP.zero) q);have hpu:=fun q:i < (aM g rs).length=>gO (hpk q).1;have hpv:=fun q:i < (aM g rs).length=>gO (hpk q).2;refine ak.sq fun gF=>.sq fun gG=>.region<|.J Z<|.J Z<|.p (bE (n:=(aM ((g)) rs).length) Ew Z a4.slc O (wW _))<|.p (ca Z Z)<|.nil<|gG<|.if rfl (fun gX=>?_) (fun gX=>?_)
 ·refine ak.skip<|gF<|.sq fun gL=>.block<|.join (fun f B=>∃ z:Nat × Value,(fun ⟨ad,zu⟩=>aj [(1,.pointer (some ⟨b4,0,none⟩)),(3,.pointer (some ⟨b9,0,none⟩)),(5,a1),(7,num ((i:Nat):Int)),(8,.pointer (some ⟨ad,0,none⟩)),(9,num ((gJ g rs ((aM g rs).getD i .zero).u:Nat):Int))] f.e/\f.ds=[]/\(True)/\A.le B/\Fresh A B a1 5 (sW (aM ((g)) rs))/\B.get ad=some (.row true [ax ((fK g rs ((aM g rs).getD i .zero).u).word),num (((fK g rs ((aM g rs).getD i .zero).u).steps:Nat):Int),zu] 3)/\B.get b4=some (.row true [num (g),u,rv] 3)/\B.get b9=some (.row true [num ((0:Nat):Int),num ((0:Nat):Int),ax ([]),ax ([]),ax ([])] 5)/\V.blk a1 ≠ some ad/\V.blk a1 ≠ some b4/\V.blk a1 ≠ some b9/\(A.get ad=none/\b4 ≠ ad/\b9 ≠ ad)) z) ?_ ?_
  ·refine ak.drawnP [0,1,2,3,4,5] 6 10 [7,8,9,10,11,12] [6,7,8,9,11,12] mixed Y Y Z ?_;have ft:=de (off:=0) a2 (show _=some (num (g)) from rfl);have fv:=de (off:=1) a2 (show _=some (u) from rfl);have fD:=de (off:=2) a2 (show _=some (rv) from rfl);refine i8.p Z (am ei dE Z Z a2 Z)<|.p Z (aN Z)<|.p Z (aN Z) ?_;obtain ⟨g8,eS,hj,hq,hh,ho,hn,gg,gP,eT,h8,cZ⟩:=bJ.at (i:=i) a4.slc OR O;refine i8.p Z (au Ew gy Z gg Z gP)<|.p Z (ae TH ek U Z) ?_;have fE:=de (off:=eS + i * 5 + 3) eT ((cZ 3 U).trans (S8 O));refine i8.p Z (ah eJ Z Z eT ((cZ 3 U).trans (S8 O)))<|.both Z Z Z Z Z Z ?_ ?_
   ·refine fun _ _ fN _=>aq Z (pw ((g)) u l rv rs (((aM ((g)) rs).getD i .zero).u) B54 hs (by have:=hpu O;have:=hpv O;omega) (hu.le ag) (hr.le ag) (hp.le ag)) ?_;rintro hw A74 ⟨h0,rfl,bd,bu,dZ⟩;have eX:=bd.g a2;have eY:=bd.g aB;have d1:=a4.le bd;have dz:=ag.trans bd;refine fN _ _ (aU.none Y)<|.p Z (aN Z)<|.p Z (aQ Z Z)<|.p Z (aQ Z Z)<|.m Z (fun fO=>bZ bu s8 rfl fun A90 g9 a5=>?_);have b7:=ne_new bu eX a5.lo;have b8:=ne_new bu eY a5.lo;have dG:=d1.own.ne_new bu a5.lo;have bV:=aX wf (Xj dz.n a5.lo);have f9:=(dZ.base ag).le a5.le;refine fO (aU.none Y) ?_;obtain ⟨cv,cf,c3,g1,_⟩:=f9.own.slice;subst g1;refine bn.m Z (fun fQ=>aW (cs:=[ax ((fK ((g)) rs (((aM ((g)) rs).getD i .zero).u)).word),num (((fK ((g)) rs (((aM ((g)) rs).getD i .zero).u)).steps:Nat):Int),.slice cv cf c3]) (c':=[ax ((fK ((g)) rs (((aM ((g)) rs).getD i .zero).u)).word),num (((fK ((g)) rs (((aM ((g)) rs).getD i .zero).u)).steps:Nat):Int),.slice cv cf c3]) a5.wf rfl rfl rfl rfl eW a5.get G rfl rfl fun A101 aC=>?_);have dM:=(d1.le a5.le).keep aC.keep dG;refine fQ (aU.none Y)<|.p Z (dB Z)<|.done ?_;exact ⟨⟨g9,.slice cv cf c3⟩,ya Z Z Z Z Z Z,Z,⟨trivial,(al (dz.trans a5.le) wf bV aC.n aC.keep),dM,aC.get,(aC.k b7 (a5.le.g eX)),(aC.k b8 (a5.le.g eY)),dG,ar,ay,⟨bV,b7,b8⟩⟩⟩
   refine fun _ _ e4 _=>bZ bv s8 rfl fun A110 f2 D=>?_;have aV:=ne_new bv a2 D.lo;have b0:=ne_new bv aB D.lo;have cP:=a4.own.ne_new bv D.lo;have bA:=aX wf (Xj ag.n D.lo);have aS:=ag.trans D.le;refine e4 _ _ (aU.list (L:=[(⟨g8,eS + i * 5 + 3,none⟩,ax (((aM ((g)) rs).getD i .zero).u)),(⟨b4,0,none⟩,num (g)),(⟨b4,1,none⟩,u),(⟨b4,2,none⟩,rv)]) Y (bz (cl D.le fE) (bz (cl D.le ft) (bz (cl D.le fv) (bz (cl D.le fD) cm)))))<|.m Z (fun e5=>aq Z (pw ((g)) u l rv rs (((aM ((g)) rs).getD i .zero).u) A110 hs (by have:=hpu O;have:=hpv O;omega) (hu.le aS) (hr.le aS) (hp.le aS)) ?_);rintro hk A123 ⟨gc,rfl,ai,dI,d2⟩;have dO:=(a4.le D.le).le ai;refine e5 (aU.none Y)<|.p Z (aN Z)<|.p Z (aQ Z Z)<|.p Z (aQ Z Z) ?_;obtain ⟨cA,ch,c4,g4,_⟩:=(d2.base aS).own.slice;subst g4;refine bn.m Z (fun e6=>aW (cs:=[ax ((fK ((g)) rs (((aM ((g)) rs).getD i .zero).u)).word),num (((fK ((g)) rs (((aM ((g)) rs).getD i .zero).u)).steps:Nat):Int),.slice cA ch c4]) (c':=[ax ((fK ((g)) rs (((aM ((g)) rs).getD i .zero).u)).word),num (((fK ((g)) rs (((aM ((g)) rs).getD i .zero).u)).steps:Nat):Int),.slice cA ch c4]) dI rfl rfl rfl rfl eW (ai.g D.get) G rfl rfl fun A141 aD=>?_);refine e6 (aU.none Y)<|.p Z (dB Z)<|.done ?_;exact ⟨⟨f2,.slice cA ch c4⟩,ya Z Z Z Z Z Z,Z,⟨trivial,(al (aS.trans ai) wf bA aD.n aD.keep),(dO.keep aD.keep cP),aD.get,(aD.k aV (ai.g (D.le.g a2))),(aD.k b0 (ai.g (D.le.g aB))),cP,ar,ay,⟨bA,aV,b0⟩⟩⟩
  rintro ⟨fe,fd⟩ B148 ⟨⟨ad,zu⟩,hE,rfl,⟨_,aI,a6,aG,a3,b5,ab,av,az,⟨gl,f0,f1⟩⟩⟩;refine ak.forget hE<|.wf fun b3=>.join (fun f B=>∃ z:Nat × Value,(fun ⟨ac,zv⟩=>aj [(1,.pointer (some ⟨b4,0,none⟩)),(3,.pointer (some ⟨b9,0,none⟩)),(5,a1),(7,num ((i:Nat):Int)),(8,.pointer (some ⟨ad,0,none⟩)),(9,num ((gJ g rs ((aM g rs).getD i .zero).u:Nat):Int)),(10,.pointer (some ⟨ac,0,none⟩)),(11,num ((gJ g rs ((aM g rs).getD i .zero).v:Nat):Int))] f.e/\f.ds=[]/\(True)/\A.le B/\Fresh A B a1 5 (sW (aM ((g)) rs))/\B.get ac=some (.row true [ax ((fK g rs ((aM g rs).getD i .zero).v).word),num (((fK g rs ((aM g rs).getD i .zero).v).steps:Nat):Int),zv] 3)/\B.get ad=some (.row true [ax ((fK g rs ((aM g rs).getD i .zero).u).word),num (((fK g rs ((aM g rs).getD i .zero).u).steps:Nat):Int),zu] 3)/\B.get b4=some (.row true [num (g),u,rv] 3)/\B.get b9=some (.row true [num ((0:Nat):Int),num ((0:Nat):Int),ax ([]),ax ([]),ax ([])] 5)/\V.blk a1 ≠ some ac/\V.blk a1 ≠ some ad/\V.blk a1 ≠ some b4/\V.blk a1 ≠ some b9/\(A.get ac=none/\ad ≠ ac/\b4 ≠ ac/\b9 ≠ ac)) z) ?_ ?_
  ·refine ak.drawnP [0,1,2,3,4,5] 6 10 [7,8,9,10,11,12] [6,7,8,9,11,12] mixed Y Y Z ?_;have e0:=de (off:=0) a3 (show _=some (num (g)) from rfl);have e1:=de (off:=1) a3 (show _=some (u) from rfl);have e2:=de (off:=2) a3 (show _=some (rv) from rfl);refine i8.p Z (am ei dE Z Z a3 Z)<|.p Z (aN Z)<|.p Z (aN Z) ?_;obtain ⟨f3,d0,h4,hf,h1,hd,hb,f7,fR,di,gY,cF⟩:=bJ.at (i:=i) a6.slc OR O;refine i8.p Z (au Ew gy Z f7 Z fR)<|.p Z (ae TL ek U Z) ?_;have e3:=de (off:=d0 + i * 5 + 4) di ((cF 4 U).trans (S9 O));refine i8.p Z (ah eJ Z Z di ((cF 4 U).trans (S9 O)))<|.both Z Z Z Z Z Z ?_ ?_
   ·refine fun _ _ e7 _=>aq Z (pw ((g)) u l rv rs (((aM ((g)) rs).getD i .zero).v) B148 hs (by have:=hpu O;have:=hpv O;omega) (hu.le aI) (hr.le aI) (hp.le aI)) ?_;rintro hl A161 ⟨ge,rfl,ap,aA,d3⟩;have dj:=ap.g aG;have dk:=ap.g a3;have dl:=ap.g b5;have cH:=a6.le ap;have cK:=aI.trans ap;refine e7 _ _ (aU.none Y)<|.p Z (aN Z)<|.p Z (aQ Z Z)<|.p Z (aQ Z Z)<|.m Z (fun e9=>bZ aA s8 rfl fun A179 f4 a0=>?_);have aE:=ne_new aA dj a0.lo;have aY:=ne_new aA dk a0.lo;have b1:=ne_new aA dl a0.lo;have cS:=cH.own.ne_new aA a0.lo;have bB:=aX wf (Xj cK.n a0.lo);have dS:=(d3.base aI).le a0.le;refine e9 (aU.none Y) ?_;obtain ⟨cB,ck,c7,g5,_⟩:=dS.own.slice;subst g5;refine bn.m Z (fun ea=>aW (cs:=[ax ((fK ((g)) rs (((aM ((g)) rs).getD i .zero).v)).word),num (((fK ((g)) rs (((aM ((g)) rs).getD i .zero).v)).steps:Nat):Int),.slice cB ck c7]) (c':=[ax ((fK ((g)) rs (((aM ((g)) rs).getD i .zero).v)).word),num (((fK ((g)) rs (((aM ((g)) rs).getD i .zero).v)).steps:Nat):Int),.slice cB ck c7]) a0.wf rfl rfl rfl rfl eW a0.get G rfl rfl fun A191 a9=>?_);have dV:=(cH.le a0.le).keep a9.keep cS;refine ea (aU.none Y)<|.p Z (dB Z)<|.done ?_;exact ⟨⟨f4,.slice cB ck c7⟩,zZ Z Z Z Z Z Z Z Z,Z,⟨trivial,(al (cK.trans a0.le) wf bB a9.n a9.keep),dV,a9.get,(a9.k aE (a0.le.g dj)),(a9.k aY (a0.le.g dk)),(a9.k b1 (a0.le.g dl)),cS,ab,av,az,⟨bB,aE,aY,b1⟩⟩⟩
   refine fun _ _ ec _=>bZ b3 s8 rfl fun A201 f6 h=>?_;have aF:=ne_new b3 aG h.lo;have aZ:=ne_new b3 a3 h.lo;have b2:=ne_new b3 b5 h.lo;have cU:=a6.own.ne_new b3 h.lo;have bC:=aX wf (Xj aI.n h.lo);have aT:=aI.trans h.le;refine ec _ _ (aU.list (L:=[(⟨f3,d0 + i * 5 + 4,none⟩,ax (((aM ((g)) rs).getD i .zero).v)),(⟨b4,0,none⟩,num (g)),(⟨b4,1,none⟩,u),(⟨b4,2,none⟩,rv)]) Y (bz (cl h.le e3) (bz (cl h.le e0) (bz (cl h.le e1) (bz (cl h.le e2) cm)))))<|.m Z (fun eg=>aq Z (pw ((g)) u l rv rs (((aM ((g)) rs).getD i .zero).v) A201 hs (by have:=hpu O;have:=hpv O;omega) (hu.le aT) (hr.le aT) (hp.le aT)) ?_);rintro hm A215 ⟨gf,rfl,a7,dJ,dd⟩;have dW:=(a6.le h.le).le a7;refine eg (aU.none Y)<|.p Z (aN Z)<|.p Z (aQ Z Z)<|.p Z (aQ Z Z) ?_;obtain ⟨cC,cu,cb,g6,_⟩:=(dd.base aT).own.slice;subst g6;refine bn.m Z (fun en=>aW (cs:=[ax ((fK ((g)) rs (((aM ((g)) rs).getD i .zero).v)).word),num (((fK ((g)) rs (((aM ((g)) rs).getD i .zero).v)).steps:Nat):Int),.slice cC cu cb]) (c':=[ax ((fK ((g)) rs (((aM ((g)) rs).getD i .zero).v)).word),num (((fK ((g)) rs (((aM ((g)) rs).getD i .zero).v)).steps:Nat):Int),.slice cC cu cb]) dJ rfl rfl rfl rfl eW (a7.g h.get) G rfl rfl fun A235 aa=>?_);refine en (aU.none Y)<|.p Z (dB Z)<|.done ?_;exact ⟨⟨f6,.slice cC cu cb⟩,zZ Z Z Z Z Z Z Z Z,Z,⟨trivial,(al (aT.trans a7) wf bC aa.n aa.keep),(dW.keep aa.keep cU),aa.get,(aa.k aF (a7.g (h.le.g aG))),(aa.k aZ (a7.g (h.le.g a3))),(aa.k b2 (a7.g (h.le.g b5))),cU,ab,av,az,⟨bC,aF,aZ,b2⟩⟩⟩
  rintro ⟨fe,fd⟩ B243 ⟨⟨ac,zv⟩,hE,rfl,⟨_,bc,aP,bL,bY,cc,a8,cV,cX,ba,bb,⟨g7,dK,eN,eQ⟩⟩⟩;refine ak.forget hE<|.wf fun bT=>.sq fun fl=>.sq fun dw=>.region<|.J Z<|.p (eB (b:=0) Z Z)<|.J Z<|.part (t:=52) Z (fun fV=>?_) (fun fV=>?_)
  ·refine Ops.off Z Z Z Z<|.off Z Z Z Z<|.p (aL Z Z)<|.nil<|dw<|.cond_true Z<|.sq fun fm=>.region<|.p (cx Z (bg QY tk vI Z))<|.I Z ?_;refine Ops.m (fun ev=>aW (cs:=[num ((0:Nat):Int),num ((0:Nat):Int),ax ([]),ax ([]),ax ([])]) (c':=[num ((0:Nat):Int),num ((0:Nat):Int),ax ([]),ax ([]),ax ([])]) bT rfl rfl rfl rfl gy a8 G rfl rfl fun A253 bl=>?_);have eA:=al bc wf aR bl.n bl.keep;refine ev<|.I Z<|.nil<|fm<|.rt (by exact aH (dA Z (df rd gy Z bl.get Z (dA Z d5))) (⟨by first | (rw [sc (by simp [xP ‹_›])];rfl) | (rw [iq (by simp [hs]),nw O hsc (by first | exact .inl (go (hpk O).1 ‹_›) | exact .inr (go (hpk O).2 ‹_›))];rfl) | (rw [iq (by simp [hs]),py O hsc (ic (hpk O).1 ‹_›) (ic (hpk O).2 ‹_›) (by rw [<- (iw (hpk O).1).1,<- (iw (hpk O).2).1];assumption)];rfl) | (rw [iq (by simp [hs]),pz O hsc];rfl),eA,bl.wf⟩))
  refine Ops.on Z Z<|.J Z<|.on Z Z<|.p (eB (b:=0) Z Z)<|.p (bh Z Z)<|.nil<|dw<|.if rfl (fun fX=>?_) (fun fX=>?_)
  ·refine ak.sq fun fn=>.region<|.p (cx Z (bg QY tk vI Z))<|.I Z<|.m (fun ex=>aW (cs:=[num ((0:Nat):Int),num ((0:Nat):Int),ax ([]),ax ([]),ax ([])]) (c':=[num ((0:Nat):Int),num ((0:Nat):Int),ax ([]),ax ([]),ax ([])]) bT rfl rfl rfl rfl gy a8 G rfl rfl fun A264 bm=>?_);have eC:=al bc wf aR bm.n bm.keep;refine ex<|.I Z<|.nil<|fn<|.rt (by exact aH (dA Z (df rd gy Z bm.get Z (dA Z d5))) (⟨by first | (rw [sc (by simp [xP ‹_›])];rfl) | (rw [iq (by simp [hs]),nw O hsc (by first | exact .inl (go (hpk O).1 ‹_›) | exact .inr (go (hpk O).2 ‹_›))];rfl) | (rw [iq (by simp [hs]),py O hsc (ic (hpk O).1 ‹_›) (ic (hpk O).2 ‹_›) (by rw [<- (iw (hpk O).1).1,<- (iw (hpk O).2).1];assumption)];rfl) | (rw [iq (by simp [hs]),pz O hsc];rfl),eC,bm.wf⟩))
  refine ak.skip<|fl<|.sq fun fo=>.region<|.p (ae jT ek U Z)<|.p (ah eJ Z Z bY Z)<|.p (ae jT ek U Z)<|.p (ah eJ Z Z bL Z)<|.p (nh Z Z)<|.nil ?_;refine fo<|.if rfl (fun g0=>?_) (fun g0=>?_)
  ·refine ak.sq fun fq=>.drawn [0,1,2,3,4,5,6] mixed Y Y Z<|.p Z (aN Z)<|.p Z (aN Z) ?_;obtain ⟨h7,h9,h5,hg,h3,he,hc,f8,fS,fi,dL,gZ⟩:=bJ.at (i:=i) aP.slc OR O;refine bn.p Z (au Ew gy Z f8 Z fS)<|.p Z (am rd gy Z Z fi (dL.trans (Xk some (S7 O))))<|.p Z (dB Z)<|.m Z (fun ey=>aW (cs:=[num (((aM ((g)) rs).getD i .zero).i),num (((aM ((g)) rs).getD i .zero).j),ax (((aM ((g)) rs).getD i .zero).word),ax (((aM ((g)) rs).getD i .zero).u),ax (((aM ((g)) rs).getD i .zero).v)]) (c':=[num (((aM ((g)) rs).getD i .zero).i),num (((aM ((g)) rs).getD i .zero).j),ax (((aM ((g)) rs).getD i .zero).word),ax (((aM ((g)) rs).getD i .zero).u),ax (((aM ((g)) rs).getD i .zero).v)]) bT rfl rfl rfl rfl gy a8 G rfl rfl fun A283 bp=>?_);have eG:=al bc wf aR bp.n bp.keep;refine ey (aU.none Y)<|.p Z (dB Z)<|.done<|fq<|.rt (by exact aH (dA Z (df rd gy Z bp.get Z (dA Z d5))) (⟨by first | (rw [sc (by simp [xP ‹_›])];rfl) | (rw [iq (by simp [hs]),nw O hsc (by first | exact .inl (go (hpk O).1 ‹_›) | exact .inr (go (hpk O).2 ‹_›))];rfl) | (rw [iq (by simp [hs]),py O hsc (ic (hpk O).1 ‹_›) (ic (hpk O).2 ‹_›) (by rw [<- (iw (hpk O).1).1,<- (iw (hpk O).2).1];assumption)];rfl) | (rw [iq (by simp [hs]),pz O hsc];rfl),eG,bp.wf⟩))
  refine ak.skip<|gL<|.region<|.J Z<|.p (bF (b:=1) Z Z O)<|.I Z<|.nil ?_;exact ⟨i + 1,jC Z Z Z Z,Z,⟨⟨by omega,BG O hsc (ic (hpk O).1 ‹_›) (ic (hpk O).2 ‹_›) (by rw [<- (iw (hpk O).1).1,<- (iw (hpk O).2).1];assumption)⟩,bc,aP,cc,a8,ba,bb⟩,O1⟩
 refine ak.exit<|gD<|.sq fun fr=>.region<|.p (cx Z (bg QY tk vI Z))<|.I Z<|.m (fun ez=>aW (cs:=[num ((0:Nat):Int),num ((0:Nat):Int),ax ([]),ax ([]),ax ([])]) (c':=[num ((0:Nat):Int),num ((0:Nat):Int),ax ([]),ax ([]),ax ([])]) bv rfl rfl rfl rfl gy aB G rfl rfl fun A293 br=>?_);have eL:=al ag wf aR br.n br.keep;refine ez<|.I Z<|.nil<|fr<|.rt (by exact aH (dA Z (df rd gy Z br.get Z (dA Z d5))) (⟨by first | (rw [sc (by simp [xP ‹_›])];rfl) | (rw [iq (by simp [hs]),nw O hsc (by first | exact .inl (go (hpk O).1 ‹_›) | exact .inr (go (hpk O).2 ‹_›))];rfl) | (rw [iq (by simp [hs]),py O hsc (ic (hpk O).1 ‹_›) (ic (hpk O).2 ‹_›) (by rw [<- (iw (hpk O).1).1,<- (iw (hpk O).2).1];assumption)];rfl) | (rw [iq (by simp [hs]),pz O hsc];rfl),eL,br.wf⟩))
theorem mf {g:Int} {l:List Wd} {rs:List an} (hs:bI g l rs=true) {r:an} (hr:r ∈ rs):bG g r.left=0:=ii (dx ((cT hs).2.2.1 r hr)).1
theorem Jl {g:Int} {rs:List an} {w:Wd} (h:bG g w=0) (q:¬ gJ g rs w=0):gJ g rs w=2:=by
  rw [(iw h).2] at q ⊢
  cases z:(cG rs w).isSome with
  | true=>rw [z] at q;exact absurd Z q
  | false=>rfl
def bok (x:an):Prop:=Zm x/\oU x.left=true/\x.left.length<=1000
theorem aaD {g:Int} {l:List Wd} {rs:List an} (hs:bI g l rs=true) {r:an} (hr:r ∈ rs):oU r.left=true:=by
  have hw:=gb (ii (dx ((cT hs).2.2.1 r hr)).1)
  exact my (ja hs).2 hw.2.1 hw.2.2
theorem Mn {o:List an}:o ++ [(⟨[],[],.slice none 0 0,[]⟩:an)]=o.take ((o ++ [(⟨[],[],.slice none 0 0,[]⟩:an)]).length - 1) ++ an.zero :: o.drop ((o ++ [(⟨[],[],.slice none 0 0,[]⟩:an)]).length - 1):=by
  rw [Xx];simp [an.zero]
theorem ini_k {o:List an} {z:an}:(o ++ [z]).length - 1=o.length:=by simp
section
variable {o:List an} {k:Nat} {y:an} {w r:Wd}
theorem UU (hk:k<=o.length) (h0:0 < k):(o.take k ++ y :: o.drop k).set k ((o.take k ++ y :: o.drop k).getD (k - 1) .zero)=o.take (k - 1) ++ o.getD (k - 1) .zero :: o.drop (k - 1):=by
  rw [Dt hk h0,xk hk,UT hk h0]
theorem Ml (ho:∀ x ∈ o,bok x) (hk:k<=o.length) (h0:0 < k):bok ((o.take k ++ y :: o.drop k).getD (k - 1) .zero):=by
  rw [Dt hk h0];exact ho _ (bj (d:=an.zero) O)
theorem bn_cmp (hw:oU w=true) (ho:∀ x ∈ o,bok x) (hk:k<=o.length) (h0:0 < k):dr w ((o.take k ++ y :: o.drop k).getD (k - 1) .zero).left=fc w (o.getD (k - 1) .zero).left:=by
  rw [dr,XX ⟨hw,(Ml ho hk h0).2.1⟩,Dt hk h0]
theorem Yq (hlt:∀ j,k<=j->j < o.length->fc w (o.getD j .zero).left < 0) (h0:0 < k) (h:fc w (o.getD (k - 1) .zero).left < 0):∀ j,k - 1<=j->j < o.length->fc w (o.getD j .zero).left < 0:=fun j h1 h2=>by
  rcases VY j k with q | q
  · rw [show j=k - 1 by omega];exact h
  · exact hlt j q h2
theorem LY (ho:∀ x ∈ o,bok x) (hw:oU w=true) (hl:w.length<=1000):∀ x ∈ yj w r o k,bok x:=fun x hx=>by
  unfold yj at hx
  rcases Vw.1 hx with h | h
  · exact ho x (SY h)
  · rcases Vz.1 h with rfl | h
    · exact ⟨⟨Z,Z⟩,hw,hl⟩
    · exact ho x (List.mem_of_mem_drop h)
theorem LZ:(yj w r o k).length=o.length + 1:=by
  unfold yj;simp [Nat.min_def];split <;> omega
end
theorem aab (g:Int) (u:Value) (l:List W8) (rv:Value) (rs:List an) (A:AH) (hmx:bI g l rs=true->(aM g rs).length<=50000) (hz:Sml l rs) (hu:bJ A 1 u (dN l)) (hr:bJ A 3 rv (cd rs)) (hp:Proofs A rs):bH prog 37 #[.agg #[num (g),u,rv]] A (fun v A1=>∃ lv ls,v=.tuple #[lv,num ((dU g l rs:Nat):Int)]/\A.le A1/\A1.wf/\Fresh A A1 lv 3 (cd ls)/\EH g l rs ls):=by
 refine bi (e:=[(0,.agg #[num (g),u,rv])]) (args:=[.agg #[num (g),u,rv]]) call37 func37 Z results37 ntmps37 Z Z Z (fun wf=>?_);have f8:=AH.le.refl A;refine ak.seq fun _ h2=>.region<|.m (fun f6=>d8 wf rfl rfl fun A5 b4 bB=>?_);have b6:=f8.trans bB.le;refine f6<|.I Z<|.I Z<|.nil<|h2 _ _<|.sq fun h9=>.region<|.p (am ei dE Z Z bB.get Z)<|.m (fun dI=>aq Z (Wx ((g)) u l rv rs A5 hmx hz (hu.le b6) (hr.le b6) (hp.le b6)) ?_);rintro gN A12 ⟨rfl,b7,b8⟩;have cB:=b7.g bB.get;have bv:=b6.trans b7;refine dI<|.J Z<|.p (aQ Z Z)<|.p (aQ Z Z)<|.p (aQ Z Z)<|.m (fun dJ=>bZ b8 tk rfl fun A18 gD ad=>?_);refine dJ<|.I Z<|.m (fun dK=>aW (cs:=[num ((ci ((g)) l rs).2.1.i),num ((ci ((g)) l rs).2.1.j),ax ((ci ((g)) l rs).2.1.word),ax ((ci ((g)) l rs).2.1.u),ax ((ci ((g)) l rs).2.1.v)]) (c':=[num ((ci ((g)) l rs).2.1.i),num ((ci ((g)) l rs).2.1.j),ax ((ci ((g)) l rs).2.1.word),ax ((ci ((g)) l rs).2.1.u),ax ((ci ((g)) l rs).2.1.v)]) ad.wf rfl rfl rfl rfl gy ad.get G rfl rfl fun A23 aC=>?_);have aV:=al (bv.trans ad.le) wf (aX wf (Xj bv.n ad.lo)) aC.n aC.keep;refine dK<|.I Z<|.nil<|h9<|.sq fun eG=>.sq fun eL=>.region<|.J Z<|.p (eB (b:=0) Z Z)<|.nil ?_;refine eL<|.if rfl (fun f9=>?_) (fun f9=>?_)
 ·refine ak.sq fun eN=>.region<|.J Z<|.I Z<|.I Z<|.nil<|eN<|.rt (by exact aH Z (⟨_,[],by first | (rw [wq ‹_›];rfl) | (rw [wr ‹_› ‹_›];rfl) | (rw [Jl (mf hs (bj (d:=an.zero) O)) ‹_›,wt ‹_› ‹_› (n5 O hsc ‹_› (go (mf hs (bj (d:=an.zero) O)) ‹_›)).symm];rfl),aV,aC.wf,Fresh.nil _ _ _,.none (by first | (rw [wq ‹_›];assumption) | (rw [wr ‹_› ‹_›];decide) | (rw [wt ‹_› ‹_› (n5 O hsc ‹_› (go (mf hs (bj (d:=an.zero) O)) ‹_›)).symm];decide))⟩))
 refine ak.skip<|eG<|.sq fun eQ=>.sq fun eS=>?_;have hs:bI g l rs=true:=kQ ‹_›;have hsl:=(cT hs).2.1;refine ak.region<|.J Z<|.p (eD Z)<|.nil<|eS<|.ifB Z (fun fd=>?_) (fun fd=>?_)
 ·refine ak.sq fun eT=>.region<|.I Z<|.I Z<|.nil<|eT<|.rt (by exact aH Z (⟨_,[],by first | (rw [wq ‹_›];rfl) | (rw [wr ‹_› ‹_›];rfl) | (rw [Jl (mf hs (bj (d:=an.zero) O)) ‹_›,wt ‹_› ‹_› (n5 O hsc ‹_› (go (mf hs (bj (d:=an.zero) O)) ‹_›)).symm];rfl),aV,aC.wf,Fresh.nil _ _ _,.none (by first | (rw [wq ‹_›];assumption) | (rw [wr ‹_› ‹_›];decide) | (rw [wt ‹_› ‹_› (n5 O hsc ‹_› (go (mf hs (bj (d:=an.zero) O)) ‹_›)).symm];decide))⟩))
 refine ak.skip<|eQ<|.sq fun eV=>.region<|.I Z<|.nil<|eV<|.sq fun eX=>.sq fun eY=>.region ?_;refine Ops.I Z<|.nil<|eY<|.block<|.loop (X:=Nat × List vj × List an × Value) (fun ⟨i,acc,o,ro⟩=>[(1,.pointer (some ⟨b4,0,none⟩)),(7,ro),(8,num ((i:Nat):Int))]) (fun ⟨i,acc,o,ro⟩ B=>(i<=rs.length/\o.length<=i/\(∀ x ∈ o,bok x)/\Asc o/\(o.map lr).Perm (acc.map lr3)/\dP rs (rs.drop i) acc=dP rs rs [])/\A.le B/\Fresh A B ro 3 (cd o)/\B.get b4=some (.row true [num (g),u,rv] 3)/\V.blk ro ≠ some b4) (fun ⟨i,acc,o,ro⟩=>rs.length - i) (⟨0,[],[],.slice none 0 0⟩) (jc Z Z Z) (⟨⟨XK _,XK _,(fun x h=>by cases h),.nil,.refl _,rfl⟩,aV,(Fresh.nil A A23 3),(aC.k (ne_new b8 cB ad.lo) (ad.le.g cB)),(fun q=>by cases q)⟩) ?_;rintro ⟨i,acc,o,ro⟩ B48 ⟨⟨hi,hol,hob,hoa,hop,hsc⟩,ab,aD,a8,a4⟩;refine ak.wf fun ez=>?_;have hlw:=fun q:i < rs.length=>rP hs _ (bj (d:=an.zero) q);have hww:=fun q:i < rs.length=>aaD hs (bj (d:=an.zero) q);have hrt:=fun q:i < rs.length=>iw (rs:=rs) (mf hs (bj (d:=an.zero) q));refine ak.sq fun eZ=>.sq fun f0=>.region<|.J Z<|.p (ae cW fp U Z)<|.p (ah ga Z Z a8 Z)<|.p (bE (n:=rs.length) i4 Z (hr.le ab) O (cL _))<|.p (ca Z Z)<|.nil<|f0 ?_;refine ak.if rfl (fun fe=>?_) (fun fe=>?_)
 ·refine ak.skip<|eZ<|.sq fun bu=>.block<|.sq fun f1=>.region<|.p (ae cW fp U Z)<|.p (ah ga Z Z a8 Z)<|.J Z ?_;obtain ⟨gE,gF,gg,gM,gf,gL,gG,eA,f7,eC,fV,cH⟩:=bJ.at (i:=i) (hr.le ab) O3 O;refine Ops.p (au i4 eE Z eA Z f7)<|.p (ae ew ek U Z)<|.p (ah eJ Z Z eC ((cH 0 U).trans (jK O)))<|.I Z<|.nil<|f1<|.sq fun f2=>.sq fun f3=>.region<|.p (am ei dE Z Z a8 Z) ?_;refine Ops.J Z<|.m (fun dL=>aq Z (s_Rmin ((g)) u l rv rs ((rs.getD i .zero).left) B48 O (fun r q=>by have:=rP hs r q;omega) (by have:=hlw O;omega) (hlw O).1 (hu.le ab) (hr.le ab)) ?_);rintro gP A66 ⟨rfl,aP,cA⟩;have b3:=aP.g a8;have aT:=aD.le aP;have ac:=ab.trans aP;refine dL<|.p (eD Z)<|.nil<|f3<|.ifB Z (fun fi=>?_) (fun fi=>?_)
  ·refine ak.exit<|bu<|.region<|.J Z<|.p (bF (b:=1) Z Z O)<|.I Z<|.nil ?_;exact ⟨⟨i + 1,acc,o,ro⟩,jc Z Z Z,Z,⟨⟨by omega,by omega,hob,hoa,hop,Mq O hsc ‹_›⟩,ac,(ce aT (Xk cd ((by first | rfl | exact xk hk)))),b3,a4⟩,O1⟩
  refine ak.skip<|f2<|.sq fun f4=>.region<|.p (am ei dE Z Z b3 Z)<|.J Z<|.m (fun dM=>aq Z (pw ((g)) u l rv rs ((rs.getD i .zero).left) A66 hs (by have:=hlw O;omega) (hu.le ac) (hr.le ac) (hp.le ac)) ?_);rintro gQ A76 ⟨fo,rfl,aR,aB,aG⟩;have cC:=aR.g b3;have bb:=aT.le aR;have bA:=ac.trans aR;have bc:=aG.base ac;have bD:=aG.sep0 aT.own;have e5:=aG.ne cA b3;refine dM<|.J Z<|.p (aQ Z Z)<|.p (aQ Z Z)<|.m (fun dO=>bZ aB s8 rfl fun A86 aZ a3=>?_);have aY:=bb.own.ne_new aB a3.lo;have bC:=bc.own.ne_new aB a3.lo;have bd:=bc.le a3.le;refine dO ?_;obtain ⟨ar,ap,ai,fl,_⟩:=bd.own.slice;subst fl;refine Ops.m (fun dS=>aW (cs:=[ax ((fK ((g)) rs ((rs.getD i .zero).left)).word),num (((fK ((g)) rs ((rs.getD i .zero).left)).steps:Nat):Int),.slice ar ap ai]) (c':=[ax ((fK ((g)) rs ((rs.getD i .zero).left)).word),num (((fK ((g)) rs ((rs.getD i .zero).left)).steps:Nat):Int),.slice ar ap ai]) a3.wf rfl rfl rfl rfl eW a3.get G rfl rfl fun A96 a7=>?_);have cS:=(bb.le a3.le).keep a7.keep aY;have b5:=al (bA.trans a3.le) wf (aX wf (Xj bA.n a3.lo)) a7.n a7.keep;refine dS<|.I Z<|.nil<|f4<|.sq fun d1=>.sq fun d2=>.region<|.J Z<|.p (eB (b:=0) Z Z)<|.nil ?_;refine d2<|.if rfl (fun ea=>?_) (fun ea=>?_)
  ·refine ak.sq fun d3=>.region<|.J Z<|.I Z<|.I Z<|.nil<|d3<|.rt (by exact aH Z (⟨_,[],by first | (rw [wq ‹_›];rfl) | (rw [wr ‹_› ‹_›];rfl) | (rw [Jl (mf hs (bj (d:=an.zero) O)) ‹_›,wt ‹_› ‹_› (n5 O hsc ‹_› (go (mf hs (bj (d:=an.zero) O)) ‹_›)).symm];rfl),b5,a7.wf,Fresh.nil _ _ _,.none (by first | (rw [wq ‹_›];assumption) | (rw [wr ‹_› ‹_›];decide) | (rw [wt ‹_› ‹_› (n5 O hsc ‹_› (go (mf hs (bj (d:=an.zero) O)) ‹_›)).symm];decide))⟩))
  refine ak.skip<|d1<|.sq fun dd=>.region<|.J Z<|.p (cx Z (bg u83 wJ GR Z))<|.m (fun bU=>bf (c:=[ax ([]),ax ([]),.slice none 0 0]) a7.wf rfl (aw i4 eE wJ rfl U U rfl) fun A113 fL a0=>?_);have bl:=a0.le.g (a7.k (ne_new aB cC a3.lo) (a3.le.g cC));have bm:=a0.le.g a7.get;have b0:=cS.le a0.le;have b1:=(bd.keep a7.keep bC).le a0.le;refine bU<|.m (fun bV=>ct (ys:=[ax ([]),ax ([]),.slice none 0 0]) rfl rfl i4 eE LU wJ rfl U i4 (fun _ h=>by cases h) b0.own (bN (n:=1) a0.get Z) rfl rfl (by show (_ + _) * 56<=_;simp only [bw,Xq,Xz];(try simp only [Xx,Xq,Xz]);omega) (by simp only [bw,Xq,Xz];(try simp only [Xx,Xq,Xz]);omega) fun A123 ey a2=>?_);rw [show ([ax ([]),ax ([]),.slice none 0 0]:List Value)=cd [(⟨[],[],.slice none 0 0,[]⟩:an)] from rfl,mF] at a2;obtain ⟨b2,cb⟩:=Fresh.grow b0 (b5.trans a0.le) wf a2;have di:=a2.keep a4 bl;have ck:=a2.ne a4 a0.wf bl;have dj:=a2.keep aY bm;have cu:=a2.ne aY a0.wf bm;have cv:=bx.appd (show bx ro (.slice ar ap ai) from (bx.symm bD)) b1.own a0.wf a2;have bO:=b1.appd a2 (bx.symm bD);refine bV<|.I Z<|.nil<|dd<|.sq fun dk=>.region<|.J Z<|.p (bE (n:=(o ++ [(⟨[],[],.slice none 0 0,[]⟩:an)]).length) i4 Z b2.slc O (cL _))<|.p (fJ (b:=1) Z Z Oy)<|.I Z ?_;refine Ops.nil<|dk<|.sq fun bp=>.block<|.loop (X:=Nat × an × Value) (fun ⟨k,y,rq⟩=>[(1,.pointer (some ⟨b4,0,none⟩)),(7,rq),(8,num ((i:Nat):Int)),(9,ax ((rs.getD i .zero).left)),(10,.pointer (some ⟨aZ,0,none⟩)),(12,num ((k:Nat):Int))]) (fun ⟨k,y,rq⟩ B=>(k<=o.length/\∀ j,k<=j->j < o.length->fc (rs.getD i .zero).left (o.getD j .zero).left < 0)/\A.le B/\Fresh A B rq 3 (cd (o.take k ++ y :: o.drop k))/\Fresh A B (.slice ar ap ai) 3 (co ((fK ((g)) rs ((rs.getD i .zero).left)).disk))/\B.get b4=some (.row true [num (g),u,rv] 3)/\B.get aZ=some (.row true [ax ((fK ((g)) rs ((rs.getD i .zero).left)).word),num (((fK ((g)) rs ((rs.getD i .zero).left)).steps:Nat):Int),.slice ar ap ai] 3)/\V.blk rq ≠ some b4/\V.blk (.slice ar ap ai) ≠ some b4/\V.blk rq ≠ some aZ/\V.blk (.slice ar ap ai) ≠ some aZ/\bx rq (.slice ar ap ai)) (fun ⟨k,y,rq⟩=>k) (⟨(o ++ [(⟨[],[],.slice none 0 0,[]⟩:an)]).length - 1,.zero,ey⟩) (ya Z Z Z Z Z Z) (⟨⟨by rw [ini_k];exact XV _,fun j h1 h2=>by rw [ini_k] at h1;omega⟩,cb,(ce b2 (Xk cd ((by first | exact Mn | exact UU hk ‹_›)))),bO,di,dj,ck,e5,cu,bC,cv⟩) ?_;rintro ⟨k,y,rq⟩ B141 ⟨⟨hk,hlt⟩,aI,a1,aF,aa,a5,D,ay,a6,ag,av⟩;refine ak.wf fun aS=>?_;have hml:=Zh (y:=y) hk;have hmb:=fun h0:0 < k=>Ml (y:=y) hob hk h0;have hcm:=fun h0:0 < k=>bn_cmp (y:=y) (hww O) hob hk h0;refine ak.sq fun dl=>.sq fun br=>.region<|.J Z<|.p (eh (b:=0) Z Z)<|.J Z<|.part (t:=59) Z (fun ec=>?_) (fun ec=>?_)
  ·refine Ops.on Z Z<|.J Z<|.on Z Z<|.J Z<|.on Z Z<|.J Z<|.on Z Z<|.p (fJ (b:=1) Z Z O)<|.on Z Z ?_;obtain ⟨fM,fX,fE,gc,fq,g5,g1,cK,e0,cU,fm,bM⟩:=bJ.at (i:=k - 1) a1.slc O3 O;refine Ops.p (au i4 eE Z cK Z e0)<|.on Z Z<|.p (ae ew ek U Z)<|.on Z Z<|.p (ah eJ Z Z cU ((bM 0 U).trans (jK O)))<|.on Z Z<|.m (fun bY=>aq Z (yU ((rs.getD i .zero).left) (((o.take k ++ y :: o.drop k).getD (k - 1) .zero).left) B141 (by first | omega | (have:=hlw O;omega) | (have:=(hmb O).2.2;omega)) (by first | omega | (have:=hlw O;omega) | (have:=(hmb O).2.2;omega))) ?_);rintro gq A151 ⟨rfl,rfl⟩;refine bY<|.on Z Z<|.p (kY Z Z)<|.p (aL Z Z)<|.nil<|br<|.if rfl (fun eg=>?_) (fun eg=>?_)
   ·refine ak.skip<|dl<|.block<|.sq fun dm=>.region<|.J Z<|.J Z<|.J Z<|.J Z<|.p (fJ (b:=1) Z Z O) ?_;obtain ⟨fN,g0,fI,ge,fr,g6,g4,cP,e1,cV,bL,fn⟩:=bJ.at (i:=k - 1) a1.slc O3 O;refine Ops.p (au i4 eE Z cP Z e1)<|.p (am uo eE Z Z cV (bL.trans (Xk some (iI O)))) ?_;obtain ⟨cF,g7,fR,en,ft,aE,e2,cX,gs,e6,gl,dV⟩:=Fresh.at3 (x:=k) a1 O;refine Ops.p (au i4 eE Z aE Z (by rw [e2];omega))<|.m (fun c3=>aW (cs:=[ax (((o.take k ++ y :: o.drop k).getD (k - 1) .zero).left),ax (((o.take k ++ y :: o.drop k).getD (k - 1) .zero).right),((o.take k ++ y :: o.drop k).getD (k - 1) .zero).pv]) (off:=k * 3) (c':=jW en (k * 3) [ax (((o.take k ++ y :: o.drop k).getD (k - 1) .zero).left),ax (((o.take k ++ y :: o.drop k).getD (k - 1) .zero).right),((o.take k ++ y :: o.drop k).getD (k - 1) .zero).pv]) aS rfl (by simp) rfl rfl eE cX (by show k * 3 + 3<=_;omega) (Vd (hmb O).1) rfl fun A159 a9=>?_);have dv:=a9.k (fun q=>D (by rw [aE];exact Xk some q.symm)) aa;have dw:=a9.k (fun q=>a6 (by rw [aE];exact Xk some q.symm)) a5;have bP:=aF.keep a9.keep (av cF (by rw [aE];rfl));have bR:=dV (((o.take k ++ y :: o.drop k).getD (k - 1) .zero)) A159 a9;have cc:=al aI wf e6 a9.n a9.keep;refine c3<|.nil<|dm<|.region<|.J Z<|.p (fJ (b:=1) Z Z O)<|.I Z<|.nil ?_;exact ⟨⟨k - 1,o.getD (k - 1) .zero,rq⟩,ya Z Z Z Z Z Z,Z,⟨⟨by omega,Yq hlt ‹_› (by rw [<- hcm ‹_›];assumption)⟩,cc,(ce bR (Xk cd ((by first | exact Mn | exact UU hk ‹_›)))),bP,dv,dw,D,ay,a6,ag,av⟩,O1⟩
   refine ak.exit<|bp<|.region<|.J Z<|.J Z<|.J Z<|.p (ae jT ek U Z)<|.p (ah eJ Z Z a5 Z)<|.p (cx Z (bg u83 wJ GR Z)) ?_;obtain ⟨fO,g8,fS,ev,fv,b9,e3,cZ,gA,e7,gm,dW⟩:=Fresh.at3 (x:=k) a1 O;refine Ops.p (au i4 eE Z b9 Z (by rw [e3];omega))<|.m (fun c4=>aW (cs:=[ax ((rs.getD i .zero).left),ax ((fK ((g)) rs ((rs.getD i .zero).left)).word),.slice none 0 0]) (off:=k * 3) (c':=jW ev (k * 3) [ax ((rs.getD i .zero).left),ax ((fK ((g)) rs ((rs.getD i .zero).left)).word),.slice none 0 0]) aS rfl (by simp) rfl rfl eE cZ (by show k * 3 + 3<=_;omega) rfl rfl fun A168 az=>?_);have dz:=az.k (fun q=>D (by rw [b9];exact Xk some q.symm)) aa;have bS:=dW (⟨(rs.getD i .zero).left,(fK ((g)) rs ((rs.getD i .zero).left)).word,.slice none 0 0,[]⟩:an) A168 az;have cf:=al aI wf e7 az.n az.keep;refine c4<|.nil<|bu<|.region<|.J Z<|.p (bF (b:=1) Z Z O)<|.I Z<|.nil ?_;exact ⟨⟨i + 1,acc ++ [((rs.getD i .zero).left,(da (cG rs (rs.getD i .zero).left)).word,(da (cG rs (rs.getD i .zero).left)).disk)],yj (rs.getD i .zero).left (fK g rs (rs.getD i .zero).left).word o k,rq⟩,jc Z Z Z,Z,⟨⟨by omega,by rw [LZ];omega,LY hob (hww O) (hlw O).2.1,LX hk hoa hlt (by first | exact fun a=>absurd a ‹_› | exact fun a=>by rw [<- hcm a];assumption),by rw [(hrt O).1];exact GO hop,Sg O hsc ‹_› (ic (mf hs (bj (d:=an.zero) O)) ‹_›)⟩,cf,(ce bS (Xk cd ((by first | rfl | exact xk hk)))),dz,D⟩,O1⟩
  refine Ops.off Z Z Z Z<|.off Z Z Z Z<|.off Z Z Z Z<|.off Z Z Z Z<|.off Z Z Z Z<|.off Z Z Z Z<|.off Z Z Z Z<|.off Z Z Z Z<|.off Z Z Z Z<|.p (bh Z Z) ?_;refine Ops.nil<|br<|.cond_false Z<|.exit<|bp<|.region<|.J Z<|.J Z<|.J Z<|.p (ae jT ek U Z) ?_;refine Ops.p (ah eJ Z Z a5 Z)<|.p (cx Z (bg u83 wJ GR Z)) ?_;obtain ⟨fQ,g9,fT,ex,fD,ba,e4,d0,gC,e9,gp,dZ⟩:=Fresh.at3 (x:=k) a1 O;refine Ops.p (au i4 eE Z ba Z (by rw [e4];omega))<|.m (fun c7=>aW (cs:=[ax ((rs.getD i .zero).left),ax ((fK ((g)) rs ((rs.getD i .zero).left)).word),.slice none 0 0]) (off:=k * 3) (c':=jW ex (k * 3) [ax ((rs.getD i .zero).left),ax ((fK ((g)) rs ((rs.getD i .zero).left)).word),.slice none 0 0]) aS rfl (by simp) rfl rfl eE d0 (by show k * 3 + 3<=_;omega) rfl rfl fun A177 aA=>?_);have dD:=aA.k (fun q=>D (by rw [ba];exact Xk some q.symm)) aa;have bT:=dZ (⟨(rs.getD i .zero).left,(fK ((g)) rs ((rs.getD i .zero).left)).word,.slice none 0 0,[]⟩:an) A177 aA;have ch:=al aI wf e9 aA.n aA.keep;refine c7<|.nil<|bu<|.region<|.J Z<|.p (bF (b:=1) Z Z O)<|.I Z<|.nil ?_;exact ⟨⟨i + 1,acc ++ [((rs.getD i .zero).left,(da (cG rs (rs.getD i .zero).left)).word,(da (cG rs (rs.getD i .zero).left)).disk)],yj (rs.getD i .zero).left (fK g rs (rs.getD i .zero).left).word o k,rq⟩,jc Z Z Z,Z,⟨⟨by omega,by rw [LZ];omega,LY hob (hww O) (hlw O).2.1,LX hk hoa hlt (by first | exact fun a=>absurd a ‹_› | exact fun a=>by rw [<- hcm a];assumption),by rw [(hrt O).1];exact GO hop,Sg O hsc ‹_› (ic (mf hs (bj (d:=an.zero) O)) ‹_›)⟩,ch,(ce bT (Xk cd ((by first | rfl | exact xk hk)))),dD,D⟩,O1⟩
 refine ak.exit<|eX<|.sq fun dG=>.region<|.J Z<|.I Z<|.I Z<|.nil<|dG<|.rt (by exact aH Z (⟨_,o,by rw [Mp ‹_› ‹_› (Dx O hsc)];rfl,ab,ez,aD,⟨fun x h=>(hob x h).1,fun q=>absurd (Mp ‹_› ‹_› (Dx O hsc)) q,fun _=>⟨hoa,acc,Dx O hsc,hop⟩⟩⟩))
namespace CR
abbrev Ird (g:Int) (rs:List an) (w:Wd):Prop:=∀ y,¬ St (aO g rs) w y
section
variable {g:Int} {l:List Wd} {rs rs1 rs2:List an} {w u v x y:Wd}
theorem DA {a b:Wd} {x:Nat} (hx:x < 16) (h:NC (a ++ Ru x ++ b)):False:=by
  have:=h a.length (by simp only [Xx,Ru,Xq,Xz];omega)
  apply this
  have f1:=TM ⟨x,hx⟩
  simp only at f1
  simp only [Ru,XY]
  rw [jU (a:=a) O,jU (a:=a) O,show a.length + 1 - a.length=1 by omega,Nat.sub_self]
  exact f1
theorem Un (hg:g<=8) (hw:w.all (iu g)=true) (hl:w.length<=100000) (h:cq w=w):NC w:=by
  rw [cq,XX (my hg hl hw)] at h;exact (NC.iff _).2 h
theorem occ_mk (a b c:Wd):vE (a ++ b ++ c) b a.length:=by
  refine ⟨by simp only [Xx];omega,?_⟩
  rw [XY,List.take_length_add_append,RY,List.take_left]
theorem L5 (hg:1<=g/\g<=8) (hw:w.all (iu g)=true) (hl:w.length<=100000):sj rs w=true ↔ Ird g rs w:=by
  refine ⟨fun h y hy=>?_,fun h=>Uo hg.2 (fun i hi q=>?_) hw hl fun r hr i ho=>?_⟩
  · simp only [sj,XQ,Xw,Vx] at h
    cases hy with
    | mk a b s hs =>
      rcases in_cases hs with ⟨r,hr,rfl⟩ | ⟨x,hx,rfl⟩
      · have h9:vq (a ++ r.left ++ b) r.left 0 < 0:=h.2 r hr
        have:=CJ.2 ⟨_,occ_mk a r.left b⟩
        omega
      · exact DA O (Un hg.2 hw hl h.1)
  · have e:=KE (w:=w) (m:=i) (n:=2) O
    rw [Tl hi] at e
    rw [e] at h
    have hk:iu g (w.getD (i + 1) 0)=true:=Vx.1 hw _ (bj (d:=0) hi)
    have:w.getD i 0=w.getD (i + 1) 0 ^^^ 32:=by rw [q,j8]
    rw [this] at h
    exact h _ (St.mk (L:=aO g rs) _ _ _ (LL hk))
  · have e:=KE ho.1
    rw [ho.2] at e
    rw [e] at h
    exact h _ (St.mk (L:=aO g rs) _ _ _ (sC hr))
structure zo (g:Int) (l:List Wd) (rs rs1:List an):Prop where
  sys:bI g l rs1=true
  cv:∀ s ∈ aO g rs1,Cv (aO g rs) s.1 s.2
  ird:∀ w,Ird g rs w ↔ Ird g rs1 w
theorem zo.st (k:zo g l rs rs1) (h:St (aO g rs1) x y):Cv (aO g rs) x y:=by
  cases h with | mk a b s hs=>exact (k.cv s hs).ctx a b
theorem zo.rt (k:zo g l rs rs1) (h:Rt (aO g rs1) x y):Cv (aO g rs) x y:=by
  induction h with
  | rf=>exact .of (.rf _)
  | hd s _ ih=>exact (k.st s).tr ih
theorem zo.cvs (k:zo g l rs rs1) (h:Cv (aO g rs1) x y):Cv (aO g rs) x y:=by
  induction h with
  | of h=>exact k.rt h
  | sm _ ih=>exact ih.sm
  | tr _ _ ih1 ih2=>exact ih1.tr ih2
theorem St.self {L:List (Wd × Wd)} {s:Wd × Wd} (h:s ∈ L):St L s.1 s.2:=by simpa using St.mk (L:=L) [] [] s h
theorem zo.same (hs:bI g l rs1=true) (h:∀ s,s ∈ aO g rs1 ↔ s ∈ aO g rs):zo g l rs rs1:=by
  refine ⟨hs,fun s q=>.of (.one (.self ((h s).1 q))),fun w=>⟨fun q y hy=>?_,fun q y hy=>?_⟩⟩
  · cases hy with | mk a b s hs=>exact q _ (.mk a b s ((h s).1 hs))
  · cases hy with | mk a b s hs=>exact q _ (.mk a b s ((h s).2 hs))
theorem zo.rf (hs:bI g l rs=true):zo g l rs rs:=.same hs fun _=>.rfl
theorem ym (hs:bI g l rs=true) (hc:(ci g l rs).1=true) (k1:zo g l rs rs1) (k2:zo g l rs rs2) (hu:bG g u=0) (hv:bG g v=0) {R1 R2:Ja} (h1:cG rs1 u=some R1) (h2:cG rs2 v=some R2) (h:Cv (aO g rs) u v):R1.word=R2.word:=by
  obtain ⟨la,ra⟩:=nz h1
  obtain ⟨lb,rb⟩:=nz h2
  obtain ⟨a1,a2⟩:=vN k1.sys hu la ra
  obtain ⟨b1,b2⟩:=vN k2.sys hv lb rb
  obtain ⟨z,z1,z2⟩:=YC hs hc ((k1.rt a1).sm.tr (h.tr (k2.rt b1)))
  rw [z1.stuck ((k1.ird _).2 a2),z2.stuck ((k2.ird _).2 b2)]
theorem Zy {c:CP} (h:c ∈ aM g rs):Cv (aO g rs) c.u c.v:=by
  simp only [aM,jA,zB,Qv,VV] at h
  obtain ⟨i,hi,j,hj,h⟩:=h
  have a1:=bj (d:=([],[])) hi
  have a2:=bj (d:=([],[])) hj
  unfold qz at h
  split at h
  · cases h
  · obtain ⟨c,hc,rfl⟩:=Vj.1 h
    simp only [ren]
    unfold i0 jR at hc
    generalize (aO g rs).getD i ([],[])=s at *
    generalize (aO g rs).getD j ([],[])=t at *
    rcases Vw.1 hc with hc | hc
    · obtain ⟨k,hk,rfl⟩:=Vj.1 hc
      have hk:=(Sq.1 hk).2
      simp only [p1,XQ,Xw] at hk
      have h1:=Rt.one (St.mk (L:=aO g rs) [] (t.1.drop (s.1.length - k)) s a1)
      have h2:=Rt.one (St.mk (L:=aO g rs) (s.1.take k) [] t a2)
      have e:s.1.take k ++ t.1=s.1 ++ t.1.drop (s.1.length - k):=by
        conv=>lhs;rw [<- VW (s.1.length - k) t.1,<- hk.2,<- XY,VW]
      simp only [Rq,Sk] at h1 h2
      rw [e] at h2
      exact (Cv.of h1).sm.tr (.of h2)
    · split at hc
      · cases hc
      · obtain ⟨k,hk,rfl⟩:=Vj.1 hc
        have hk:=(Sq.1 hk).2
        simp only [p2,XQ,Xw] at hk
        have h1:=Rt.one (St.self a1)
        have h2:=Rt.one (St.mk (L:=aO g rs) (s.1.take k) (s.1.drop (k + t.1.length)) t a2)
        have e:=KE hk.1
        rw [hk.2] at e
        rw [<- e] at h2
        exact (Cv.of h1).sm.tr (.of h2)
theorem Nf:∀ {P:List CP},(∀ c ∈ P,∀ a b,cG rs c.u=some a->cG rs c.v=some b->a.word=b.word)->(fZ rs P).2.2=0->(fZ rs P).1=true
  | [],_,_=>rfl
  | p :: t,h,q=>by
    rw [fZ] at q ⊢
    split at q
    · rename_i a b h1 h2
      have e:=h p Vy a b h1 h2
      rw [XX e] at q ⊢
      exact Nf (fun c hc=>h c (VZ _ hc)) q
    · cases q
theorem FZ (hs:bI g l rs=true) (hc:(ci g l rs).1=true) (k:zo g l rs rs1) (h:(ci g l rs1).2.2=0):(ci g l rs1).1=true:=by
  rw [ci,XX k.sys] at h ⊢
  refine Nf (fun c D a b ha hb=>?_) h
  obtain ⟨c1,c2⟩:=GI k.sys D
  have hcv:=Zy D
  exact ym hs hc k k c1 c2 ha hb (k.cvs hcv)
theorem nx {rs:List an}:∀ {t:List an} {acc A:List vj},dP rs t acc=some A->∃ B,A=acc ++ B/\(B.map (·.1)).Sublist (t.map (·.left))/\∀ z,z ∈ B ↔ ∃ r ∈ t,qj rs r.left=true/\∃ R,cG rs r.left=some R/\z=(r.left,R.word,R.disk)
  | [],acc,A,h=>by rw [dP] at h;cases h;exact ⟨[],by simp,by simp,fun z=>by simp⟩
  | r :: t,acc,A,h=>by
    rw [dP] at h
    by_cases q:qj rs r.left=true
    · rw [XX q] at h
      cases hr:cG rs r.left with
      | none=>rw [hr] at h;cases h
      | some R =>
        rw [hr] at h
        obtain ⟨B,h1,h2,h3⟩:=nx h
        refine ⟨(r.left,R.word,R.disk) :: B,by rw [h1,XY];rfl,h2.cons_cons _,fun z=>?_⟩
        rw [Vz,h3]
        constructor
        · rintro (rfl | ⟨r',m,z⟩)
          · exact ⟨r,Vy,q,R,hr,Z⟩
          · exact ⟨r',VZ _ m,z⟩
        · rintro ⟨r',m,q',R',e,rfl⟩
          rcases Vz.1 m with rfl | m
          · rw [hr] at e;cases e;exact .inl Z
          · exact .inr ⟨r',m,q',R',e,Z⟩
    · rw [Xy q] at h
      obtain ⟨B,h1,h2,h3⟩:=nx h
      refine ⟨B,h1,h2.trans (List.sublist_cons_self _ _),fun z=>?_⟩
      rw [h3]
      constructor
      · rintro ⟨r',m,z⟩;exact ⟨r',VZ _ m,z⟩
      · rintro ⟨r',m,q',z⟩
        rcases Vz.1 m with rfl | m
        · exact absurd q' q
        · exact ⟨r',m,q',z⟩
def Rm (rs o:List an):Prop:=Asc o/\∃ acc,dP rs rs []=some acc/\(o.map lr).Perm (acc.map lr3)
theorem BX {α:Type} {f:α->Nat}:∀ {L M:List α},L.Pairwise (fun x y=>f x < f y)->M.Pairwise (fun x y=>f x < f y)->(∀ z,z ∈ L ↔ z ∈ M)->L=M
  | [],[],_,_,_=>rfl
  | [],b :: M,_,_,h=>absurd ((h b).2 Vy) Ty
  | a :: L,[],_,_,h=>absurd ((h a).1 Vy) Ty
  | a :: L,b :: M,h1,h2,h=>by
    obtain ⟨p1,p2⟩:=List.pairwise_cons.1 h1
    obtain ⟨q1,q2⟩:=List.pairwise_cons.1 h2
    have e:a=b:=by
      rcases Vz.1 ((h a).1 Vy) with e | e
      · exact e
      · rcases Vz.1 ((h b).2 Vy) with e2 | e2
        · exact e2.symm
        · have:=q1 a e;have:=p1 b e2;omega
    subst e
    rw [BX p2 q2 fun z=>?_]
    have:=h z
    simp only [Vz] at this
    constructor
    · intro m
      rcases this.1 (.inr m) with rfl | m2
      · have:=p1 _ m;omega
      · exact m2
    · intro m
      rcases this.2 (.inr m) with rfl | m2
      · have:=q1 _ m;omega
      · exact m2
theorem uO {o:List an} (h:Rm rs o) (z:Wd × Wd):z ∈ o.map lr ↔ ∃ r ∈ rs,qj rs r.left=true/\∃ R,cG rs r.left=some R/\z=(r.left,R.word):=by
  obtain ⟨_,acc,h1,h2⟩:=h
  obtain ⟨B,rfl,_,h3⟩:=nx h1
  rw [h2.mem_iff,Vj]
  constructor
  · rintro ⟨b,hb,rfl⟩
    obtain ⟨r,m,q,R,e,rfl⟩:=(h3 b).1 hb
    exact ⟨r,m,q,R,e,Z⟩
  · rintro ⟨r,m,q,R,e,rfl⟩
    exact ⟨_,(h3 _).2 ⟨r,m,q,R,e,Z⟩,Z⟩
theorem MC {o:List an} (h:Rm rs o):∀ r ∈ rs,qj rs r.left=true->∃ R,cG rs r.left=some R:=by
  obtain ⟨_,acc,h1,_⟩:=h
  have aux:∀ {t:List an} {a A:List vj},dP rs t a=some A->∀ r ∈ t,qj rs r.left=true->∃ R,cG rs r.left=some R:=by
    intro t
    induction t with
    | nil=>intro a A _ r hr;cases hr
    | cons b t ih =>
      intro a A h r hr q
      rw [dP] at h
      by_cases k:qj rs b.left=true
      · rw [XX k] at h
        cases e:cG rs b.left with
        | none=>rw [e] at h;cases h
        | some R =>
          rw [e] at h
          rcases Vz.1 hr with rfl | hr
          · exact ⟨R,e⟩
          · exact ih h r hr q
      · rw [Xy k] at h
        rcases Vz.1 hr with rfl | hr
        · exact absurd q k
        · exact ih h r hr q
  exact aux h1
theorem AK {o:List an} (hs:bI g l rs=true) (h:Rm rs o):(iZ o).Nodup:=by
  obtain ⟨_,acc,h1,h2⟩:=h
  obtain ⟨B,rfl,h3,_⟩:=nx h1
  have h4:=h2.map Prod.fst
  rw [RQ,RQ] at h4
  exact h4.nodup_iff.2 (h3.nodup (cT hs).2.2.2)
theorem xh (hs:bI g l rs=true) {r:an} (hr:r ∈ rs):r.left.all (iu g)=true/\r.left.length<=1000/\NC r.left:=by
  have h1:=(dx ((cT hs).2.2.1 r hr)).1
  have h2:=(gb (ii h1)).2.2
  exact ⟨h2,jp h1,Un (ja hs).2 h2 (by have:=jp h1;omega) (Xh h1)⟩
theorem My {o:List an} (hs:bI g l rs=true) (h:Rm rs o):(o.map lr).Pairwise (fun x y=>code x.1 < code y.1):=by
  have hn:=AK hs h
  have hk:∀ x ∈ o,uk x.left:=fun x hx=>by
    obtain ⟨r,m,_,R,_,e⟩:=(uO h (lr x)).1 (Vj.2 ⟨x,hx,rfl⟩)
    have:x.left=r.left:=Xk Prod.fst e
    rw [this];exact Zp (xh hs m).1
  rw [Qz]
  have ha:=h.1
  unfold iZ at hn
  unfold List.Nodup at hn
  rw [Qz] at hn
  refine (ha.and hn).imp_of_mem fun {a b} ma mb q=>?_
  obtain ⟨q1,q2⟩:=q
  rw [cmpw_code] at q1
  rcases VY (code a.left) (code b.left) with z | z
  · exact z
  · exact absurd (SL _ _ (hk a ma) (hk b mb) O) q2
theorem Du (hs:bI g l rs=true) {r:an} (hr:r ∈ rs):qj rs r.left=true ↔ Ird g rs (r.left.take (r.left.length - 1))/\Ird g rs (r.left.drop 1):=by
  obtain ⟨h1,h2,_⟩:=xh hs hr
  have hg:=ja hs
  rw [<- L5 hg (xD _ h1) (by rw [XZ];omega),<- L5 hg (xC _ h1) (by rw [Tx];omega)]
  simp only [qj,XQ]
theorem UV (hs:bI g l rs=true) (k1:zo g l rs rs1) (k2:zo g l rs rs2) {r:an} (hr:r ∈ rs1) (h:qj rs1 r.left=true):∃ q ∈ rs2,q.left=r.left/\qj rs2 q.left=true:=by
  obtain ⟨_,_,hn⟩:=xh k1.sys hr
  obtain ⟨i1,i2⟩:=(Du k1.sys hr).1 h
  have i1:=(k2.ird _).1 ((k1.ird _).2 i1)
  have i2:=(k2.ird _).1 ((k1.ird _).2 i2)
  have hred:¬ Ird g rs2 r.left:=fun q=>(k1.ird _).1 ((k2.ird _).2 q) _ (St.self (s:=(r.left,r.right)) (sC hr))
  have hred:∃ y,St (aO g rs2) r.left y:=Classical.byContradiction fun q=>hred fun y hy=>q ⟨y,hy⟩
  obtain ⟨y,hy⟩:=hred
  generalize hw:r.left=w at *
  cases hy with
  | mk a b s hs2 =>
    have ha:a=[]:=by
      cases a with
      | nil=>rfl
      | cons c a=>exact absurd (St.mk (L:=aO g rs2) a b s hs2) (i2 _)
    have hb:b=[]:=by
      rcases List.eq_nil_or_concat b with q | ⟨b',c,rfl⟩
      · exact q
      · refine absurd (St.mk (L:=aO g rs2) a b' s hs2) ?_
        have e:(a ++ s.1 ++ b'.concat c).take ((a ++ s.1 ++ b'.concat c).length - 1)=a ++ s.1 ++ b':=by
          rw [List.concat_eq_append,<- XY,Xx,Tw,Nat.add_sub_cancel,List.take_left]
        rw [e] at i1
        exact i1 _
    subst ha;subst hb
    simp only [Rq,Sk] at *
    rcases in_cases hs2 with ⟨q,hq,rfl⟩ | ⟨x,hx,rfl⟩
    · exact ⟨q,hq,Z,(Du k2.sys hq).2 ⟨i1,i2⟩⟩
    · have hg:=ja hs
      exact (DA (a:=[]) (b:=[]) (x:=x) O (by simpa using hn)).elim
theorem Mz (hs:bI g l rs=true) (hc:(ci g l rs).1=true) (k1:zo g l rs rs1) (k2:zo g l rs rs2) {o p:List an} (h1:Rm rs1 o) (h2:Rm rs2 p) (z:Wd × Wd) (hz:z ∈ o.map lr):z ∈ p.map lr:=by
  obtain ⟨r,m,q,R,e,rfl⟩:=(uO h1 z).1 hz
  obtain ⟨r',m',e',q'⟩:=UV hs k1 k2 m q
  obtain ⟨R',e2⟩:=MC h2 r' m' q'
  have hch:=ii (dx ((cT k1.sys).2.2.1 r m)).1
  rw [e'] at e2
  have:=ym hs hc k1 k2 hch hch e e2 (.of (.rf _))
  exact (uO h2 _).2 ⟨r',m',q',R',by rw [e'];exact e2,by rw [e',this]⟩
theorem JZ (hs:bI g l rs=true) (hc:(ci g l rs).1=true) (k1:zo g l rs rs1) (k2:zo g l rs rs2) {o p:List an} (h1:Rm rs1 o) (h2:Rm rs2 p):o.map lr=p.map lr :=
  BX (f:=fun x=>code x.1) (My k1.sys h1) (My k2.sys h2) fun z=>⟨Mz hs hc k1 k2 h1 h2 z,Mz hs hc k2 k1 h2 h1 z⟩
end
end CR
namespace CR
section
variable {g g2 g3:Int} {l l2 l3:List Wd} {rs rs2 rs3 ts ls:List an} {w u v x y:Wd}
theorem m8 (h:dU g l rs=0):bI g l rs=true/\(ci g l rs).1=true:=by
  unfold dU at h
  split at h
  · rename_i q
    split at h
    · rename_i q2
      exact ⟨kQ (Decidable.not_not.2 q),q2⟩
    · cases h
  · rename_i q;exact absurd h q
theorem mz (m:qZ g l rs g2 l2 rs2) (h:dU g l rs=0):Rm rs rs2:=by
  obtain ⟨_,_,h3,acc,h4,h5⟩:=m.good h
  refine ⟨h3,acc,h4,?_⟩
  have:=h5.map lr3
  rwa [RQ] at this
theorem Sa (m:EH g l rs ls) (h:dU g l rs=0):Rm rs ls:=m.good h
theorem Mh (hs:bI g l rs=true) (hc:(ci g l rs).1=true) (k:zo g l rs ts):dU g l ts=0\/dU g l ts=2:=by
  unfold dU
  rcases Ff k.sys with q | q
  · rw [XX q,XX (FZ hs hc k q)]
    split
    · exact .inl Z
    · exact .inr Z
  · rw [Xy O];exact .inr q
theorem UD (hs:bI g l rs=true) (h:ts.Perm rs):zo g l rs ts:=by
  refine .same ?_ fun s=>?_
  · obtain ⟨h1,h2,h3,h4⟩:=cT hs
    simp only [bI,XQ,Xw,Vx]
    exact ⟨⟨⟨h1,by rw [h.length_eq];exact h2⟩,fun r hr=>h3 r (h.mem_iff.1 hr)⟩,(h.map _).nodup_iff.2 h4⟩
  · simp only [aO,Vw,Vj,h.mem_iff]
theorem ru {o:List an} (h:Rm rs o) {z:an} (hz:z ∈ o):∃ r ∈ rs,qj rs r.left=true/\∃ R,cG rs r.left=some R/\z.left=r.left/\z.right=R.word:=by
  obtain ⟨r,m,q,R,e,k⟩:=(uO h (lr z)).1 (Vj.2 ⟨z,hz,rfl⟩)
  exact ⟨r,m,q,R,e,Xk Prod.fst k,Xk Prod.snd k⟩
theorem Pk (m:qZ g l rs g2 l2 rs2) (h:dU g l rs=0) {z:an} (hz:z ∈ rs2):∃ r ∈ rs,qj rs r.left=true/\∃ R,cG rs r.left=some R/\z.left=r.left/\z.right=R.word/\z.proof=R.disk:=by
  obtain ⟨_,_,_,acc,h4,h5⟩:=m.good h
  obtain ⟨B,rfl,_,h6⟩:=nx h4
  obtain ⟨r,q,k,R,e,f⟩:=(h6 _).1 (h5.mem_iff.1 (Vj.2 ⟨z,hz,rfl⟩))
  simp only [io,Prod.mk.injEq] at f
  exact ⟨r,q,k,R,e,f.1,f.2.1,by simpa using f.2.2⟩
theorem Rt.code (hs:bI g l rs=true) (h:Rt (aO g rs) x y):code y<=code x:=by
  induction h with
  | rf=>exact XV _
  | hd s _ ih=>have:=s.down (vW hs);omega
theorem min_sys (m:qZ g l rs g2 l2 rs2) (h:dU g l rs=0):bI g l rs2=true:=by
  obtain ⟨hs,hc⟩:=m8 h
  have ho:=mz m h
  obtain ⟨_,acc,h1,h2⟩:=id ho
  obtain ⟨B,rfl,h3,_⟩:=nx h1
  have hln:rs2.length<=rs.length:=by
    have a:=h2.length_eq
    have b:=h3.length_le
    simp only [TX] at a b
    rw [a];exact b
  simp only [bI,XQ,Xw,Vx]
  have hsp:=cT hs
  refine ⟨⟨⟨hsp.1,by omega⟩,fun z hz=>?_⟩,AK hs ho⟩
  obtain ⟨r,hr,_,R,e,e1,e2,e3⟩:=Pk m h hz
  obtain ⟨k1,k2,k3,k4⟩:=dx (hsp.2.2.1 r hr)
  have hw:=ii k1
  obtain ⟨la,ra⟩:=nz e
  obtain ⟨r1,r2,r3,_,_,r6⟩:=Ib hs hw la ra
  obtain ⟨a1,a2⟩:=vN hs hw la ra
  have hl:=jp k1
  have hg:=ja hs
  have hlt:code R.word < code r.left:=by
    have hst:=St.self (s:=(r.left,r.right)) (sC (g:=g) hr)
    simp only at hst
    generalize r.left=X at *
    generalize R.word=Y at *
    cases a1 with
    | rf=>exact absurd hst (a2 _)
    | hd s k=>have:=s.down (vW hs);have:=k.code hs;omega
  simp only [gK,XQ,Xw]
  have D:cq R.word=R.word:=by simp only [sj,XQ,Xw] at r2;exact r2.1
  rw [e1,e2,e3]
  refine ⟨⟨⟨k1,?_⟩,?_⟩,r1⟩
  · simp only [jB,Xw];exact ⟨by omega,r3,D⟩
  · have i1:=my hg.2 O (gb r3).2.2
    have i2:=my hg.2 O (gb hw).2.2
    rw [dr,XX ⟨i1,i2⟩];exact cmpw_code.2 hlt
theorem Mo {o:List an} (hs:bI g l rs=true) (h:Rm rs o):∀ (n:Nat) (r:an),r ∈ rs->r.left.length<=n->∃ z ∈ o,∃ c d,r.left=c ++ z.left ++ d
  | 0,r,hr,hn=>by have:=(rP hs r hr).1;omega
  | n + 1,r,hr,hn=>by
    obtain ⟨k1,k2,k3⟩:=xh hs hr
    have hg:=ja hs
    have hpos:=(rP hs r hr).1
    by_cases q:qj rs r.left=true
    · obtain ⟨R,e⟩:=MC h r hr q
      obtain ⟨z,hz,k⟩:=Vj.1 ((uO h _).2 ⟨r,hr,q,R,e,rfl⟩)
      have D:z.left=r.left:=Xk Prod.fst k
      exact ⟨z,hz,[],[],by rw [D];simp⟩
    · have key:∀ a b t:Wd,r.left=a ++ t ++ b->t.length < r.left.length->¬ Ird g rs t->∃ z ∈ o,∃ c d,r.left=c ++ z.left ++ d:=fun a b t e hlt hne=>by
        obtain ⟨y,hy⟩:∃ y,St (aO g rs) t y:=Classical.byContradiction fun q=>hne fun y hy=>q ⟨y,hy⟩
        cases hy with
        | mk p q s hs2 =>
          rcases in_cases hs2 with ⟨r',hr',rfl⟩ | ⟨x,hx,rfl⟩
          · obtain ⟨z,hz,c,d,e2⟩:=Mo hs h n r' hr' (by simp only [Xx] at hlt;omega)
            refine ⟨z,hz,a ++ p ++ c,d ++ q ++ b,?_⟩
            rw [e];simp only [e2,XY]
          · rw [e] at k3
            exact (DA (a:=a ++ p) (b:=q ++ b) (x:=x) O (by simpa only [XY] using k3)).elim
      have hsp:r.left=r.left.take (r.left.length - 1) ++ r.left.drop (r.left.length - 1):=(VW _ _).symm
      have hsd:r.left=r.left.take 1 ++ r.left.drop 1:=(VW _ _).symm
      rw [Du hs hr] at q
      by_cases q1:Ird g rs (r.left.take (r.left.length - 1))
      · exact key (r.left.take 1) [] (r.left.drop 1) (by rw [Sk];exact hsd) (by rw [Tx];omega) fun q2=>q ⟨q1,q2⟩
      · exact key [] (r.left.drop (r.left.length - 1)) _ (by simp) (by rw [XZ];omega) q1
theorem Dc (m:qZ g l rs g2 l2 rs2) (h:dU g l rs=0):zo g l rs rs2:=by
  obtain ⟨hs,hc⟩:=m8 h
  have ho:=mz m h
  have hms:=min_sys m h
  refine ⟨hms,fun s hq=>?_,fun w=>⟨fun q y hy=>?_,fun q y hy=>?_⟩⟩
  · rcases in_cases hq with ⟨z,hz,rfl⟩ | ⟨x,hx,rfl⟩
    · obtain ⟨r,hr,_,R,e,e1,e2⟩:=ru ho hz
      obtain ⟨la,ra⟩:=nz e
      have:=(vN hs (ii (dx ((cT hs).2.2.1 r hr)).1) la ra).1
      rw [e1,e2];exact .of this
    · exact .of (.one (.self (RJ _ (Vj.2 ⟨x,VV.2 hx,Z⟩))))
  · cases hy with
    | mk a b s hq =>
      rcases in_cases hq with ⟨z,hz,rfl⟩ | ⟨x,hx,rfl⟩
      · obtain ⟨r,hr,_,R,e,e1,e2⟩:=ru ho hz
        simp only [e1] at q
        exact q _ (St.mk (L:=aO g rs) a b _ (sC hr))
      · exact q _ (St.mk (L:=aO g rs) a b _ (RJ _ (Vj.2 ⟨x,VV.2 hx,Z⟩)))
  · cases hy with
    | mk a b s hq =>
      rcases in_cases hq with ⟨r,hr,rfl⟩ | ⟨x,hx,rfl⟩
      · obtain ⟨z,hz,c,d,e⟩:=Mo hs ho _ r hr (XV _)
        have:=St.mk (L:=aO g rs2) (a ++ c) (d ++ b) _ (sC hz)
        simp only [e] at q
        exact q _ (by simpa only [XY] using this)
      · exact q _ (St.mk (L:=aO g rs2) a b _ (RJ _ (Vj.2 ⟨x,VV.2 hx,Z⟩)))
theorem Pg (m:qZ g l rs g2 l2 rs2) (h:dU g l rs=0):isRed g l rs2=true:=by
  obtain ⟨hs,hc⟩:=m8 h
  have ho:=mz m h
  have hsub:∀ w,sj rs w=true->sj rs2 w=true:=fun w q=>by
    simp only [sj,XQ,Xw,Vx] at q ⊢
    refine ⟨q.1,fun z hz=>?_⟩
    obtain ⟨r,hr,_,R,e,e1,e2⟩:=ru ho hz
    rw [e1];exact q.2 r hr
  rw [isRed,min_sys m h,Bool.true_and,Vx]
  intro z hz
  obtain ⟨r,hr,q,R,e,e1,e2⟩:=ru ho hz
  obtain ⟨la,ra⟩:=nz e
  have:=(Ib hs (ii (dx ((cT hs).2.2.1 r hr)).1) la ra).2.1
  simp only [qj,XQ] at q
  rw [e1,e2,hsub _ this,hsub _ q.1,hsub _ q.2];rfl
theorem Ej {a b:List an} (h:a.map lr=b.map lr):fH false a b=true:=by
  rw [fH,Sy]
  have:=Xk (List.map fun z:Wd × Wd=>(z.1,z.2,([]:List bK))) h
  rw [RQ,RQ] at this
  exact this
theorem Ph (m:qZ g l rs g2 l2 rs2) (h:dU g l rs=0) (hl:i6 rs=true):i6 rs2=true:=by
  have ho:=mz m h
  obtain ⟨_,acc,h1,h2⟩:=id ho
  obtain ⟨B,rfl,h3,_⟩:=nx h1
  have a:=h2.length_eq
  have b:=h3.length_le
  simp only [TX] at a b
  obtain ⟨k1,k2⟩:=tK hl
  simp only [i6,XQ,Xw,Vx]
  refine ⟨by rw [a];exact Xj b k1,fun z hz=>?_⟩
  obtain ⟨r,hr,_,R,_,e,_⟩:=ru ho hz
  rw [e];exact k2 r hr
theorem Zj (m:qZ g l rs g2 l2 rs2) (h:dU g l rs=0) (hl:i7 l rs=true):Sml l rs2:=by
  have hs:=min_sys m h
  obtain ⟨h1,h2,_,_⟩:=BW hl
  refine ⟨h1,h2,by have:=(cT hs).2.1;omega,fun z hz=>?_⟩
  have k:=rP hs z hz
  have hp:=(dx ((cT hs).2.2.1 z hz)).2.2.2
  unfold iC at hp
  split at hp
  · rename_i q;exact absurd hp q
  · rename_i q
    have:=m7 (je q).2.2
    omega
theorem min_all (m:qZ g l rs g2 l2 rs2) (b:EH g l rs ls) (h:dU g l rs=0) (hsm:i7 l rs=true) (hlt:i6 rs=true) :
    (g2=g/\l2=l)/\bI g2 l2 rs2=true/\isRed g2 l2 rs2=true/\fH false rs2 ls=true/\Sml l2 rs2/\i6 rs2=true/\((ci g2 l2 rs2).2.2=0\/(ci g2 l2 rs2).2.2=2)/\((ci g2 l2 rs2).2.2=0->(ci g2 l2 rs2).1=true):=by
  obtain ⟨rfl,rfl,_⟩:=m.good h
  obtain ⟨hs,hc⟩:=m8 h
  have k:=Dc m h
  exact ⟨⟨Z,Z⟩,k.sys,Pg m h,Ej (JZ hs hc (.rf hs) (.rf hs) (mz m h) (Sa b h)),Zj m h hsm,Ph m h hlt,Ff k.sys,FZ hs hc k⟩
theorem min_again (m:qZ g l rs g2 l2 rs2) (h:dU g l rs=0) {r3:List an} (m3:qZ g2 l2 rs2 g3 l3 r3):(dU g2 l2 rs2=0\/dU g2 l2 rs2=2)/\(dU g2 l2 rs2=0->fH false r3 rs2=true):=by
  obtain ⟨rfl,rfl,_⟩:=m.good h
  obtain ⟨hs,hc⟩:=m8 h
  have k:=Dc m h
  exact ⟨Mh hs hc k,fun q=>Ej (JZ hs hc k (.rf hs) (mz m3 q) (mz m h))⟩
theorem min_turn (m:qZ g l rs g2 l2 rs2) (h:dU g l rs=0) (hp:ts.Perm rs) {r3:List an} (m3:qZ g l ts g3 l3 r3):(dU g l ts=0\/dU g l ts=2)/\(dU g l ts=0->fH false r3 rs2=true):=by
  obtain ⟨hs,hc⟩:=m8 h
  have k:=UD hs hp
  exact ⟨Mh hs hc k,fun q=>Ej (JZ hs hc k (.rf hs) (mz m3 q) (mz m h))⟩
theorem min_red (m:qZ g l rs g2 l2 rs2) (h:dU g l rs=0) (w:Wd):(fU g l rs w=4->fU g2 l2 rs2 w=4)/\(¬ fU g l rs w=4->(fU g l rs w=0\/fU g l rs w=2)/\(fU g2 l2 rs2 w=0\/fU g2 l2 rs2 w=2))/\(fU g l rs w=0->fU g2 l2 rs2 w=0->(jZ g l rs w).word=(jZ g2 l2 rs2 w).word):=by
  obtain ⟨rfl,rfl,_⟩:=m.good h
  obtain ⟨hs,hc⟩:=m8 h
  have k:=Dc m h
  by_cases hw:bG g2 w=0
  · refine ⟨fun q=>?_,fun _=>⟨Er hs hw,Er k.sys hw⟩,fun e f=>?_⟩
    · rcases Er hs hw with z | z <;> rw [z] at q <;> cases q
    · obtain ⟨_,_,a1,a2⟩:=BZ e
      obtain ⟨_,_,b1,b2⟩:=BZ f
      exact ym hs hc (.rf hs) k hw hw (by rw [cG,Xy O];exact a2) (by rw [cG,Xy O];exact b2) (.of (.rf _))
  · have e:fU g2 l2 rs w=4:=by rw [(ny hs).2];exact (ua hw).2
    have f:fU g2 l2 rs2 w=4:=by rw [(ny k.sys).2];exact (ua hw).2
    exact ⟨fun _=>f,fun q=>absurd e q,fun q=>by rw [q] at e;cases e⟩
end
end CR
def hiV:Value->Nat->Value
  | .slice p _ c,k=>.slice p k c
  | v,_=>v
theorem bJ.hi {A:AH} {size k:Nat} {v:Value} {xs:List Value} (s:bJ A size v xs) (h0:0 < size) (hk:k * size<=xs.length):bJ A size (hiV v k) (xs.take (k * size)):=by
  obtain ⟨p,n,c,rfl,h2,h3,h4⟩:=s
  have hkn:k<=n:=by rw [h2] at hk;exact Nat.le_of_mul_le_mul_right hk h0
  refine ⟨p,k,c,Z,by rw [XZ];omega,by omega,?_⟩
  rcases h4 with h4 | ⟨b,off,rw,r,rcap,rfl,g2,g3⟩
  · left;omega
  · refine .inr ⟨b,off,rw,r,rcap,Z,g2,?_⟩
    rw [<- g3,List.take_take,QZ (TY _ hkn)]
theorem PM {P:Program} {e:im} {A:AH} {x hi:Operand} {t el:TypeId} {size k:Nat} {v:Value} {xs:List Value} (hu:P.underlying t=some (.slice el)) (hs:dY P el=some size) (h:cg e x=some v) (s:bJ A size v xs) (hhi:cg e hi=some (num (k:Nat))) (h0:0 < size) (hk:k * size<=xs.length) :
    bk P e A (.slice t x none (some hi) none)=some (hiV v k,[]):=by
  obtain ⟨p,n,c,rfl,h2,h3,h4⟩:=s
  have hkn:k<=n:=by rw [h2] at hk;exact Nat.le_of_mul_le_mul_right hk h0
  exact jo hu hs h hhi ⟨hkn,h3⟩
theorem Kb (l:List an) (i:Nat):(cd l).take (i * 3)=cd (l.take i):=by
  have h:=VW i l
  conv=>lhs;rw [<- h,cd,List.flatMap_append]
  by_cases q:i<=l.length
  · exact List.take_left' (by rw [show List.flatMap ky (l.take i)=cd (l.take i) from rfl,bw,XZ,QZ q])
  · rw [Sx O,List.flatMap_nil,Sk,show List.flatMap ky (l.take i)=cd (l.take i) from rfl]
    exact VX (by rw [bw,XZ];omega)
theorem yG {rs:List an} {k:Nat}:(rs.drop k ++ rs.take k).Perm rs:=by
  have:=List.perm_append_comm (l₁:=rs.drop k) (l₂:=rs.take k)
  rwa [VW] at this
theorem Proofs.perm {A:AH} {rs ts:List an} (h:Proofs A rs) (p:ts.Perm rs):Proofs A ts:=fun r hr=>h r (p.mem_iff.1 hr)
theorem JS {A:AH} {ls:List an} (h:∀ r ∈ ls,Zm r):Proofs A ls:=fun r hr=>by
  obtain ⟨h1,h2⟩:=h r hr
  rw [h1,h2];exact ⟨none,0,0,Z,Z,XV _,.inl Z⟩
theorem JK {rs ts:List an} (h:i6 rs=true) (p:ts.Perm rs):i6 ts=true:=by
  obtain ⟨k1,k2⟩:=tK h
  simp only [i6,XQ,Xw,Vx]
  exact ⟨by rw [p.length_eq];exact k1,fun r hr=>k2 r (p.mem_iff.1 hr)⟩
theorem tM {g g2:Int} {l l2:List Wd} {rs D:List an} (m:qZ g l rs g2 l2 D) (h:dU g l rs=0):D.length<=2000/\∀ r ∈ D,r.proof.length<=9223372036854775807:=by
  have hs:=CR.min_sys m h
  refine ⟨(cT hs).2.1,fun z hz=>?_⟩
  have hp:=(dx ((cT hs).2.2.1 z hz)).2.2.2
  unfold iC at hp
  split at hp
  · rename_i q;exact absurd hp q
  · rename_i q
    have:=m7 (je q).2.2
    omega
theorem tf {b:Bool} (h:b=true) (k:(!b)=true):False:=by rw [h] at k;cases k
theorem gW {g:Int} {l:List Wd} {rs:List an} (h:bI g l rs=true) (k:¬ (if bI g l rs then 0 else 100:Nat)=0):False:=k (by rw [h];rfl)
theorem yL {A:AH} {rs ts:List an} (h:Proofs A rs) (hm:∀ r ∈ ts,r ∈ rs):lG (cd ts)=true:=by
  simp only [lG,cd,Vx,Qv]
  rintro v ⟨r,hr,hv⟩
  have:=jm (a:=r.left) (b:=r.right) (h r (hm r hr))
  simp only [lG,Vx] at this
  exact this v hv
theorem zP {A A1:AH} {b c off:Nat} {o:fB} {u:Value} (sb:sL A A1 b o) (ne:c ≠ b) (h:A.cell ⟨c,off,none⟩=some u):A1.cell ⟨c,off,none⟩=some u:=by
  unfold AH.cell at h ⊢
  simp only [Option.isSome_none] at h ⊢
  cases hg:A.get c with
  | none=>rw [hg] at h;cases h
  | some o'=>rw [hg] at h;rw [sb.keep _ _ ne hg];exact h
theorem vU (g:Int) (u:Value) (l:List W8) (rv:Value) (rs:List an) (w:W8) (n:Int) (A:AH) (hL:ib A) (hM:tl A) (bV:l.length<=9223372036854775807) (gN:rs.length<=9223372036854775807) (hu:bJ A 1 u (dN l)) (hr:bJ A 3 rv (cd rs)) (bL:Proofs A rs):bH prog 8 #[.agg #[num (g),u,rv],ax (w),num (n)] A (fun v A1=>v=.bool true/\A.le A1/\A1.wf):=by
 refine bi (e:=[(0,.agg #[num (g),u,rv]),(1,ax (w)),(2,num (n))]) (args:=[.agg #[num (g),u,rv],ax (w),num (n)]) call8 func8 Z results8 ntmps8 Z Z Z (fun wf=>?_);have mV:=AH.le.refl A;refine ak.sq fun h2=>.region<|.m (fun mE=>d8 wf rfl rfl fun A5 b4 iF=>?_);have gY:=mV.trans iF.le;refine mE<|.I Z<|.nil<|h2<|.sq fun h9=>.sq fun m2=>.region<|.m (fun kc=>aq Z (s_sane A5 (hL.le gY) (hM.le gY)) ?_);rintro ob A14 ⟨rfl,f6,nj⟩;have hY:=f6.g iF.get;have d1:=gY.trans f6;refine kc<|.p (eD Z)<|.nil<|m2<|.cond_false Z<|.skip<|h9<|.sq fun m3=>.sq fun gf=>.region ?_;refine Ops.p (am ei dE Z Z hY Z)<|.m (fun kl=>aq Z (aaq ((g)) u l rv rs  A14  (hu.le d1) (hr.le d1) (bL.le d1)) ?_);rintro oi A24 ⟨rfl,f7,hX⟩;have hZ:=f7.g hY;have e9:=d1.trans f7;refine kl<|.p (eD Z)<|.J Z<|.partB (t:=24) Z (fun mX=>?_) (fun mX=>?_)
 ·refine Ops.off Z Z Z Z<|.off Z Z Z Z<|.off Z Z Z Z<|.p (aL Z Z)<|.J Z<|.off Z Z Z Z<|.off Z Z Z Z<|.off Z Z Z Z<|.p (aL Z Z)<|.nil ?_;refine gf<|.cond_true Z<|.sq fun m6=>.region<|.I Z<|.nil<|m6<|.rt (by exact aH Z (⟨Z,e9,hX⟩))
 refine Ops.on Z Z<|.p (am ei dE Z Z hZ Z)<|.on Z Z<|.m (fun km=>aq Z (aal ((g)) u l rv rs A24 (hr.le e9)) ?_);rintro oj A33 ⟨rfl,f8,fn⟩;have i1:=f8.g hZ;have bB:=e9.trans f8;refine km<|.on Z Z<|.p (eD Z)<|.p (bh Z Z)<|.J Z<|.partB (t:=29) Z (fun n1=>?_) (fun n1=>?_)
 ·refine Ops.off Z Z Z Z<|.off Z Z Z Z<|.off Z Z Z Z<|.p (aL Z Z)<|.nil<|gf<|.cond_true Z<|.sq fun ma=>.region<|.I Z ?_;refine Ops.nil<|ma<|.rt (by exact aH Z (⟨Z,bB,fn⟩))
 refine Ops.on Z Z<|.J Z<|.on Z Z<|.p (cN u9 Z)<|.on Z Z<|.p (eh (b:=40) Z Z)<|.p (bh Z Z)<|.nil<|gf<|.if rfl (fun n2=>?_) (fun n2=>?_)
 ·refine ak.sq fun mb=>.region<|.I Z<|.nil<|mb<|.rt (by exact aH Z (⟨Z,bB,fn⟩))
 refine ak.skip<|m3<|.sq fun me=>?_;have e5:i7 l rs=true:=(qS ‹(!i7 l rs)=false›);have hli:i6 rs=true:=qS ‹_›;obtain ⟨nV,o1,o2⟩:=KB e5;refine ak.region<|.p (am ei dE Z Z i1 Z)<|.m (fun kp=>aq Z (aab ((g)) u l rv rs A33 (fun z=>lx (ja z) hli) (BW e5) (hu.le bB) (hr.le bB) (bL.le bB)) ?_);rintro ok A47 ⟨hV,hU,rfl,f9,nk,hb,hd⟩;have i2:=f9.g i1;have bC:=bB.trans f9;have hB:=hd;refine kp<|.J Z<|.p (aQ Z Z)<|.p (aQ Z Z)<|.I Z<|.I Z<|.nil<|me<|.sq fun mm=>.region ?_;refine Ops.p (am ei dE Z Z i2 Z)<|.m (fun kv=>aq Z (vQ ((g)) u l rv rs A47 bV gN (fun z=>lx (ja z) hli) (hL.le bC) (hM.le bC) (hu.le bC) (hr.le bC) (bL.le bC)) ?_);rintro ov A57 ⟨nc,n6,V,X,D,rfl,d3,bp,bY,hc,dw,dv⟩;have ih:=d3.g i2;have fM:=(hb.base bB).le d3;have gX:=bC.trans d3;have fN:=hc.base bC;have iD:=bY;have iv:=dw;have it:=dv;obtain ⟨aB,aA,ar,h7,_⟩:=bY.slc;subst h7;have gP:=AH.le.refl A57;refine kv<|.J Z<|.p (aQ Z Z)<|.p (aQ Z Z)<|.m (fun kA=>bZ bp Je rfl fun A68 fv ag=>?_);have fV:=aX bp (Xj gP.n ag.lo);have fO:=fN.le ag.le;refine kA ?_;obtain ⟨b2,b1,b0,n4,_⟩:=fO.own.slice;subst n4;refine Ops.m (fun kC=>aW (cs:=[num (V),.slice aB aA ar,.slice b2 b1 b0]) (c':=[num (V),.slice aB aA ar,.slice b2 b1 b0]) ag.wf rfl rfl rfl rfl dE ag.get G rfl rfl fun A79 ai=>?_);have ir:=ai.k (ne_new bp ih ag.lo) (ag.le.g ih);have iN:=(fM.le ag.le).keep ai.keep (fM.own.ne_new bp ag.lo);refine kC<|.I Z<|.nil<|mm<|.sq fun mt=>.sq fun mv=>?_;have leM:=(al (gP.trans ag.le) bp fV ai.n ai.keep);have leA:=(al (gX.trans ag.le) wf (aX wf (Xj gX.n ag.lo)) ai.n ai.keep);have a6:=ai.wf;have hum:=bY.slc.le leM;have hrm:=(fO.keep ai.keep (fN.own.ne_new bp ag.lo)).slc;have hpm:=dw.le leM;have a0:=dv;have hlm:=iN.slc;have cZ:=hu.le leA;have aP:=hr.le leA;have bL:=bL.le leA;have hL:=hL.le leA;have hM:=hM.le leA;have leR:=AH.le.refl A79;refine ak.region<|.J Z<|.J Z<|.p (((eB Z Z).trans (Xk (fun z=>some (Value.bool z,[])) (Xv (fun q=>q Z)))))<|.nil<|mv<|.cond_false Z<|.skip<|mt<|.sq fun mx=>?_;refine ak.sq fun mA=>.region<|.J Z<|.p (eB (b:=0) Z Z)<|.nil<|mA<|.if rfl (fun n3=>?_) (fun n3=>?_)
 ·refine ak.sq fun mB=>.region<|.p (ae cW fp U Z)<|.p (ah ga Z Z ai.get Z)<|.p (bE (n:=D.length) i4 Z (hrm.le leR) O (cL _))<|.p (gI (b:=0) Z Z)<|.I Z<|.nil<|mB<|.rt (by exact aH Z (⟨by first | rfl | (rw [XJ O];rfl) | exact (by omega:False).elim | (rw [XJ (by rw [(a0.bad ‹_›).2.2];rfl)];rfl) | exact absurd hgl ‹_› | exact (tf hsr ‹_›).elim | exact (gW a5 ‹_›).elim | exact (tf a3 ‹_›).elim | exact (tf (hct O) ‹_›).elim | exact (tf (hmb O) ‹_›).elim | exact (tf (htb O) ‹_›).elim | (rw [a4 O O];simp [ej]),leA.trans leR,ai.wf⟩))
 refine ak.skip<|mx<|.sq fun iR=>.sq fun cS=>?_;have h0:dU g l rs=0:=Decidable.not_not.1 ‹_›;obtain ⟨hgl,a5,a3,hsr,mK,gM,hce,hct⟩:=CR.min_all a0 hB h0 e5 hli;have hpl:=tM a0 h0;refine ak.region<|.p (ae gi ik U Z)<|.p (am pH ik Z Z ai.get Z)<|.p (ae gi ik U Z)<|.p (am pH ik Z Z ir Z)<|.m (fun hj=>aq Z (Kn ((V)) (.slice aB aA ar) X ((g)) u l A79 (by rw [hgl.2];omega) O (hum.le leR) (cZ.le leR)) ?_);rintro nB A105 ⟨rfl,c3,h3⟩;have fX:=c3.g ai.get;have bM:=leR.trans c3;refine hj<|.p (kI Z)<|.J Z<|.part (t:=59) Z (fun kD=>?_) (fun kD=>?_)
 ·refine Ops.off Z Z Z Z<|.off Z Z Z Z<|.off Z Z Z Z<|.off Z Z Z Z<|.off Z Z Z Z<|.p (aL Z Z)<|.J Z<|.off Z Z Z Z<|.off Z Z Z Z<|.off Z Z Z Z ?_;refine Ops.p (aL Z Z)<|.J Z<|.off Z Z Z Z<|.off Z Z Z Z<|.off Z Z Z Z<|.p (aL Z Z)<|.nil<|cS<|.cond_true Z<|.sq fun iS=>?_;refine ak.region<|.I Z<|.nil<|iS<|.rt (by exact aH Z (⟨by first | rfl | (rw [XJ O];rfl) | exact (by omega:False).elim | (rw [XJ (by rw [(a0.bad ‹_›).2.2];rfl)];rfl) | exact absurd hgl ‹_› | exact (tf hsr ‹_›).elim | exact (gW a5 ‹_›).elim | exact (tf a3 ‹_›).elim | exact (tf (hct O) ‹_›).elim | exact (tf (hmb O) ‹_›).elim | exact (tf (htb O) ‹_›).elim | (rw [a4 O O];simp [ej]),leA.trans bM,h3⟩))
 refine Ops.on Z Z<|.p (ae cW fp U Z)<|.on Z Z<|.p (ah ga Z Z fX Z)<|.on Z Z<|.J Z<|.on Z Z<|.m (fun hk=>aq Z (oh (.slice b2 b1 b0) hV D hU false A105 (by have:=hpl.1;omega) hpl.2 (hrm.le bM) (hlm.le bM) (hpm.le bM) (JS hB.nil)) ?_);rintro nC A115 ⟨rfl,c4,h4⟩;have g0:=c4.g fX;have bO:=bM.trans c4;refine hk<|.on Z Z<|.p (eD Z)<|.p (bh Z Z)<|.J Z<|.partB (t:=66) Z (fun kK=>?_) (fun kK=>?_)
 ·refine Ops.off Z Z Z Z<|.off Z Z Z Z<|.off Z Z Z Z<|.p (aL Z Z)<|.J Z<|.off Z Z Z Z<|.off Z Z Z Z<|.off Z Z Z Z<|.p (aL Z Z)<|.nil ?_;refine cS<|.cond_true Z<|.sq fun iT=>.region<|.I Z<|.nil<|iT<|.rt (by exact aH Z (⟨by first | rfl | (rw [XJ O];rfl) | exact (by omega:False).elim | (rw [XJ (by rw [(a0.bad ‹_›).2.2];rfl)];rfl) | exact absurd hgl ‹_› | exact (tf hsr ‹_›).elim | exact (gW a5 ‹_›).elim | exact (tf a3 ‹_›).elim | exact (tf (hct O) ‹_›).elim | exact (tf (hmb O) ‹_›).elim | exact (tf (htb O) ‹_›).elim | (rw [a4 O O];simp [ej]),leA.trans bO,h4⟩))
 refine Ops.on Z Z<|.p (am ei dE Z Z g0 Z)<|.on Z Z<|.m (fun hl=>aq Z (Ww ((V)) (.slice aB aA ar) X (.slice b2 b1 b0) D A115 mK (hum.le bO) (hrm.le bO) (hpm.le bO)) ?_);rintro nD A125 ⟨rfl,c7,h5⟩;have g1:=c7.g g0;have aT:=bO.trans c7;refine hl<|.on Z Z<|.p (eB (b:=0) Z Z)<|.p (bh Z Z)<|.J Z<|.part (t:=71) Z (fun kL=>?_) (fun kL=>?_)
 ·refine Ops.off Z Z Z Z<|.off Z Z Z Z<|.off Z Z Z Z<|.p (aL Z Z)<|.nil<|cS<|.cond_true Z<|.sq fun iV=>.region<|.I Z ?_;refine Ops.nil<|iV<|.rt (by exact aH Z (⟨by first | rfl | (rw [XJ O];rfl) | exact (by omega:False).elim | (rw [XJ (by rw [(a0.bad ‹_›).2.2];rfl)];rfl) | exact absurd hgl ‹_› | exact (tf hsr ‹_›).elim | exact (gW a5 ‹_›).elim | exact (tf a3 ‹_›).elim | exact (tf (hct O) ‹_›).elim | exact (tf (hmb O) ‹_›).elim | exact (tf (htb O) ‹_›).elim | (rw [a4 O O];simp [ej]),leA.trans aT,h5⟩))
 refine Ops.on Z Z<|.p (am ei dE Z Z g1 Z)<|.on Z Z<|.m (fun hm=>aq Z (wD ((V)) (.slice aB aA ar) X (.slice b2 b1 b0) D A125 (by rw [hgl.2];exact bV) O (hL.le aT) (hM.le aT) (hum.le aT) (hrm.le aT) (hpm.le aT)) ?_);rintro nE A135 ⟨rfl,cb,h6⟩;have g4:=cb.g g1;have bb:=aT.trans cb;refine hm<|.on Z Z<|.p (eD Z)<|.p (bh Z Z)<|.nil<|cS<|.ifB Z (fun kM=>?_) (fun kM=>?_)
 ·refine ak.sq fun iX=>.region<|.I Z<|.nil<|iX<|.rt (by exact aH Z (⟨by first | rfl | (rw [XJ O];rfl) | exact (by omega:False).elim | (rw [XJ (by rw [(a0.bad ‹_›).2.2];rfl)];rfl) | exact absurd hgl ‹_› | exact (tf hsr ‹_›).elim | exact (gW a5 ‹_›).elim | exact (tf a3 ‹_›).elim | exact (tf (hct O) ‹_›).elim | exact (tf (hmb O) ‹_›).elim | exact (tf (htb O) ‹_›).elim | (rw [a4 O O];simp [ej]),leA.trans bb,h6⟩))
 refine ak.skip<|iR<|.sq fun j1=>.region<|.p (am ei dE Z Z g4 Z)<|.m (fun hn=>aq Z (uV ((V)) (.slice aB aA ar) X (.slice b2 b1 b0) D A135 (by rw [hgl.2];exact bV) O (fun z=>lx (ja z) gM) (hL.le bb) (hum.le bb) (hrm.le bb) (hpm.le bb)) ?_);rintro nH A147 ⟨rfl,cc,cv⟩;have g5:=cc.g (cb.g (c7.g (c4.g (c3.g ir))));have g6:=cc.g g4;have eY:=bb.trans cc;refine hn<|.J Z<|.p (aQ Z Z)<|.p (aQ Z Z)<|.p (aQ Z Z)<|.m (fun ho=>bZ cv tk rfl fun A154 nl aE=>?_);refine ho<|.I Z<|.m (fun hp=>aW (cs:=[num ((ci ((V)) X D).2.1.i),num ((ci ((V)) X D).2.1.j),ax ((ci ((V)) X D).2.1.word),ax ((ci ((V)) X D).2.1.u),ax ((ci ((V)) X D).2.1.v)]) (c':=[num ((ci ((V)) X D).2.1.i),num ((ci ((V)) X D).2.1.j),ax ((ci ((V)) X D).2.1.word),ax ((ci ((V)) X D).2.1.u),ax ((ci ((V)) X D).2.1.v)]) aE.wf rfl rfl rfl rfl gy aE.get G rfl rfl fun A160 bR=>?_);have g7:=bR.k (ne_new cv g6 aE.lo) (aE.le.g g6);have aV:=al (eY.trans aE.le) a6 (aX a6 (Xj eY.n aE.lo)) bR.n bR.keep;refine hp<|.I Z<|.nil<|j1<|.sq fun j2=>.region<|.p (am ei dE Z Z g7 Z)<|.m (fun hq=>aq Z (vQ ((V)) (.slice aB aA ar) X (.slice b2 b1 b0) D A160 (by rw [hgl.2];exact bV) O (fun z=>lx (ja z) gM) (hL.le aV) (hM.le aV) (hum.le aV) (hrm.le aV) (hpm.le aV)) ?_);rintro nJ A169 ⟨n7,lX,dl,mM,fr,rfl,cf,aR,cF,fQ,cB,b9⟩;have g8:=cf.g (bR.k (ne_new cv g5 aE.lo) (aE.le.g g5));have g9:=cf.g g7;have eZ:=aV.trans cf;have eg:=fQ.base aV;have iD:=cF;have iv:=cB;have it:=b9;obtain ⟨dM,dK,dj,fI,_⟩:=cF.slc;subst fI;have eV:=AH.le.refl A169;refine hq<|.J Z<|.p (aQ Z Z)<|.p (aQ Z Z)<|.m (fun hs=>bZ aR Je rfl fun A182 nn a7=>?_);have fo:=aX aR (Xj eV.n a7.lo);have en:=eg.le a7.le;refine hs ?_;obtain ⟨ea,e6,e0,lO,_⟩:=en.own.slice;subst lO;refine Ops.m (fun ht=>aW (cs:=[num (dl),.slice dM dK dj,.slice ea e6 e0]) (c':=[num (dl),.slice dM dK dj,.slice ea e6 e0]) a7.wf rfl rfl rfl rfl dE a7.get G rfl rfl fun A193 a2=>?_);have gc:=a2.k (ne_new aR g9 a7.lo) (a7.le.g g9);have av:=al (eZ.trans a7.le) a6 (aX a6 (Xj eZ.n a7.lo)) a2.n a2.keep;refine ht<|.I Z<|.nil<|j2<|.sq fun j3=>.sq fun cU=>?_;obtain ⟨hma,hmb⟩:=CR.min_again a0 h0 b9;refine ak.region<|.J Z<|.p (eB (b:=0) Z Z)<|.J Z<|.part (t:=89) Z (fun kP=>?_) (fun kP=>?_)
 ·refine Ops.off Z Z Z Z<|.off Z Z Z Z<|.p (aL Z Z)<|.J Z<|.off Z Z Z Z<|.off Z Z Z Z<|.p (aL Z Z)<|.J Z<|.off Z Z Z Z<|.off Z Z Z Z ?_;refine Ops.off Z Z Z Z<|.off Z Z Z Z<|.off Z Z Z Z<|.off Z Z Z Z<|.p (aL Z Z)<|.nil<|cU<|.cond_true Z<|.sq fun ge=>.region ?_;refine Ops.J Z<|.p (gI (b:=2) Z Z)<|.J Z<|.part (t:=107) Z (fun kT=>?_) (fun kT=>?_)
  ·refine Ops.off Z Z Z Z<|.off Z Z Z Z<|.p (aL Z Z)<|.I Z<|.nil<|ge<|.rt (by exact aH Z (⟨by first | rfl | (rw [XJ O];rfl) | exact (by omega:False).elim | (rw [XJ (by rw [(a0.bad ‹_›).2.2];rfl)];rfl) | exact absurd hgl ‹_› | exact (tf hsr ‹_›).elim | exact (gW a5 ‹_›).elim | exact (tf a3 ‹_›).elim | exact (tf (hct O) ‹_›).elim | exact (tf (hmb O) ‹_›).elim | exact (tf (htb O) ‹_›).elim | (rw [a4 O O];simp [ej]),leA.trans av,a2.wf⟩))
  refine Ops.on Z Z<|.J Z<|.on Z Z<|.p (gI (b:=2) Z Z)<|.p (bh Z Z)<|.I Z<|.nil<|ge<|.rt (by exact aH Z (⟨by first | rfl | (rw [XJ O];rfl) | exact (by omega:False).elim | (rw [XJ (by rw [(a0.bad ‹_›).2.2];rfl)];rfl) | exact absurd hgl ‹_› | exact (tf hsr ‹_›).elim | exact (gW a5 ‹_›).elim | exact (tf a3 ‹_›).elim | exact (tf (hct O) ‹_›).elim | exact (tf (hmb O) ‹_›).elim | exact (tf (htb O) ‹_›).elim | (rw [a4 O O];simp [ej]),leA.trans av,a2.wf⟩))
 refine Ops.on Z Z<|.J Z<|.on Z Z<|.p (eB (b:=0) Z Z)<|.p (bh Z Z)<|.J Z<|.part (t:=93) Z (fun kV=>?_) (fun kV=>?_)
 ·refine Ops.off Z Z Z Z<|.off Z Z Z Z<|.p (aL Z Z)<|.J Z<|.off Z Z Z Z<|.off Z Z Z Z<|.off Z Z Z Z<|.off Z Z Z Z<|.off Z Z Z Z<|.off Z Z Z Z ?_;refine Ops.p (aL Z Z)<|.nil<|cU<|.cond_true Z<|.sq fun gg=>.region<|.J Z<|.p (gI (b:=2) Z Z)<|.J Z<|.part (t:=107) Z (fun l0=>?_) (fun l0=>?_)
  ·refine Ops.off Z Z Z Z<|.off Z Z Z Z<|.p (aL Z Z)<|.I Z<|.nil<|gg<|.rt (by exact aH Z (⟨by first | rfl | (rw [XJ O];rfl) | exact (by omega:False).elim | (rw [XJ (by rw [(a0.bad ‹_›).2.2];rfl)];rfl) | exact absurd hgl ‹_› | exact (tf hsr ‹_›).elim | exact (gW a5 ‹_›).elim | exact (tf a3 ‹_›).elim | exact (tf (hct O) ‹_›).elim | exact (tf (hmb O) ‹_›).elim | exact (tf (htb O) ‹_›).elim | (rw [a4 O O];simp [ej]),leA.trans av,a2.wf⟩))
  refine Ops.on Z Z<|.J Z<|.on Z Z<|.p (gI (b:=2) Z Z)<|.p (bh Z Z)<|.I Z<|.nil<|gg<|.rt (by exact aH Z (⟨by first | rfl | (rw [XJ O];rfl) | exact (by omega:False).elim | (rw [XJ (by rw [(a0.bad ‹_›).2.2];rfl)];rfl) | exact absurd hgl ‹_› | exact (tf hsr ‹_›).elim | exact (gW a5 ‹_›).elim | exact (tf a3 ‹_›).elim | exact (tf (hct O) ‹_›).elim | exact (tf (hmb O) ‹_›).elim | exact (tf (htb O) ‹_›).elim | (rw [a4 O O];simp [ej]),leA.trans av,a2.wf⟩))
 refine Ops.on Z Z<|.J Z<|.on Z Z<|.p (eD Z)<|.p (bh Z Z)<|.J Z<|.partB (t:=97) Z (fun l1=>?_) (fun l1=>?_)
 ·refine Ops.off Z Z Z Z<|.off Z Z Z Z<|.off Z Z Z Z<|.off Z Z Z Z<|.off Z Z Z Z<|.off Z Z Z Z<|.p (aL Z Z)<|.nil<|cU<|.cond_true Z ?_;refine ak.sq fun gl=>.region<|.J Z<|.p (gI (b:=2) Z Z)<|.J Z<|.part (t:=107) Z (fun l4=>?_) (fun l4=>?_)
  ·refine Ops.off Z Z Z Z<|.off Z Z Z Z<|.p (aL Z Z)<|.I Z<|.nil<|gl<|.rt (by exact aH Z (⟨by first | rfl | (rw [XJ O];rfl) | exact (by omega:False).elim | (rw [XJ (by rw [(a0.bad ‹_›).2.2];rfl)];rfl) | exact absurd hgl ‹_› | exact (tf hsr ‹_›).elim | exact (gW a5 ‹_›).elim | exact (tf a3 ‹_›).elim | exact (tf (hct O) ‹_›).elim | exact (tf (hmb O) ‹_›).elim | exact (tf (htb O) ‹_›).elim | (rw [a4 O O];simp [ej]),leA.trans av,a2.wf⟩))
  refine Ops.on Z Z<|.J Z<|.on Z Z<|.p (gI (b:=2) Z Z)<|.p (bh Z Z)<|.I Z<|.nil<|gl<|.rt (by exact aH Z (⟨by first | rfl | (rw [XJ O];rfl) | exact (by omega:False).elim | (rw [XJ (by rw [(a0.bad ‹_›).2.2];rfl)];rfl) | exact absurd hgl ‹_› | exact (tf hsr ‹_›).elim | exact (gW a5 ‹_›).elim | exact (tf a3 ‹_›).elim | exact (tf (hct O) ‹_›).elim | exact (tf (hmb O) ‹_›).elim | exact (tf (htb O) ‹_›).elim | (rw [a4 O O];simp [ej]),leA.trans av,a2.wf⟩))
 refine Ops.on Z Z<|.p (ae cW fp U Z)<|.on Z Z<|.p (ah ga Z Z a2.get Z)<|.on Z Z<|.p (ae cW fp U Z)<|.on Z Z<|.p (ah ga Z Z gc Z)<|.on Z Z<|.m (fun hv=>aq Z (oh (.slice ea e6 e0) (.slice b2 b1 b0) fr D false A193 (by have:=(tM b9 O).1;omega) (tM b9 O).2 (en.keep a2.keep (eg.own.ne_new aR a7.lo)).slc (hrm.le av) (cB.le (al (eV.trans a7.le) aR fo a2.n a2.keep)) (hpm.le av)) ?_);rintro nK A219 ⟨rfl,ch,b8⟩;have e2:=ch.g (a2.k (ne_new aR g8 a7.lo) (a7.le.g g8));have gm:=ch.g gc;have bP:=av.trans ch;refine hv<|.on Z Z<|.p (eD Z)<|.p (bh Z Z)<|.nil<|cU<|.ifB Z (fun l6=>?_) (fun l6=>?_)
 ·refine ak.sq fun gp=>.region<|.J Z<|.p (gI (b:=2) Z Z)<|.J Z<|.part (t:=107) Z (fun l7=>?_) (fun l7=>?_)
  ·refine Ops.off Z Z Z Z<|.off Z Z Z Z<|.p (aL Z Z)<|.I Z<|.nil<|gp<|.rt (by exact aH Z (⟨by first | rfl | (rw [XJ O];rfl) | exact (by omega:False).elim | (rw [XJ (by rw [(a0.bad ‹_›).2.2];rfl)];rfl) | exact absurd hgl ‹_› | exact (tf hsr ‹_›).elim | exact (gW a5 ‹_›).elim | exact (tf a3 ‹_›).elim | exact (tf (hct O) ‹_›).elim | exact (tf (hmb O) ‹_›).elim | exact (tf (htb O) ‹_›).elim | (rw [a4 O O];simp [ej]),leA.trans bP,b8⟩))
  refine Ops.on Z Z<|.J Z<|.on Z Z<|.p (gI (b:=2) Z Z)<|.p (bh Z Z)<|.I Z<|.nil<|gp<|.rt (by exact aH Z (⟨by first | rfl | (rw [XJ O];rfl) | exact (by omega:False).elim | (rw [XJ (by rw [(a0.bad ‹_›).2.2];rfl)];rfl) | exact absurd hgl ‹_› | exact (tf hsr ‹_›).elim | exact (gW a5 ‹_›).elim | exact (tf a3 ‹_›).elim | exact (tf (hct O) ‹_›).elim | exact (tf (hmb O) ‹_›).elim | exact (tf (htb O) ‹_›).elim | (rw [a4 O O];simp [ej]),leA.trans bP,b8⟩))
 refine ak.skip<|j3<|.sq fun j4=>.region<|.p (am ei dE Z Z e2 Z)<|.m (fun hw=>bZ b8 Je rfl fun A236 ft aF=>?_);have ay:=ne_new b8 e2 aF.lo;have br:=ne_new b8 gm aF.lo;have cA:=aX a6 (Xj bP.n aF.lo);have d2:=bP.trans aF.le;refine hw ?_;obtain ⟨bD,bA,bv,lP,_⟩:=(cZ.le d2);subst lP;obtain ⟨b7,b5,b3,lR,_⟩:=(aP.le d2);subst lR;refine Ops.m (fun hx=>aW (cs:=[num (g),.slice bD bA bv,.slice b7 b5 b3]) (c':=[num (g),.slice bD bA bv,.slice b7 b5 b3]) aF.wf rfl rfl rfl rfl dE aF.get G rfl rfl fun A248 a9=>?_);have aI:=a9.k ay (aF.le.g e2);have cV:=a9.k br (aF.le.g gm);have ac:=al d2 a6 cA a9.n a9.keep;refine hx<|.nil<|j4<|.join (fun f B=>∃ z:Value × List an,(fun ⟨tv,ts⟩=>aj [(1,ax (w)),(3,.pointer (some ⟨b4,0,none⟩)),(9,.pointer (some ⟨fv,0,none⟩)),(14,.pointer (some ⟨ft,0,none⟩))] f.e/\f.ds=[]/\(ts.Perm rs)/\A79.le B/\B.get ft=some (.row true [num (g),.slice bD bA bv,tv] 3)/\B.get b4=some (.row true [num (g),.slice bD bA bv,.slice b7 b5 b3] 3)/\B.get fv=some (.row true [num (V),.slice aB aA ar,.slice b2 b1 b0] 3)/\(bJ B 3 tv (cd ts))) z) ?_ ?_
 ·refine ak.sq fun gq=>.region<|.p (ae cW fp U Z)<|.p (ah ga Z Z aI Z)<|.p (bE (n:=rs.length) i4 Z (aP.le ac) O (cL _))<|.p (eh (b:=0) Z Z)<|.J Z<|.part (t:=116) Z (fun l9=>?_) (fun l9=>?_)
  ·refine Ops.on Z Z<|.J Z<|.on Z Z<|.p (ml Z Z)<|.p (aL Z Z)<|.nil<|gq<|.if rfl (fun la=>?_) (fun la=>?_)
   ·refine ak.sq fun jn=>?_;obtain ⟨m,rfl⟩:∃ z:Nat,n=z:=⟨n.toNat,by omega⟩;have hmm:=Nat.mod_lt m (show 0 < rs.length by omega);refine ak.region<|.J Z<|.p (ae cW fp U Z)<|.p (ah ga Z Z aI Z)<|.p (bE (n:=rs.length) i4 Z (aP.le ac) O (cL _))<|.p (qremN Z Z O)<|.I Z<|.nil<|jn<|.drawn [1,2,3,4,6,7,8,9,0,5,10,11,12] mixed Y Y Z ?_;refine bn.p Z (ae cW fp U Z) ?_;have he:=de (off:=2) aI (show _=some (.slice b7 b5 b3) from rfl);refine bn.p Z (ah ga Z Z aI Z)<|.p Z (aN Z) ?_;have fl:=bJ.lo (j:=m % rs.length) aP U O3;rw [yJ] at fl;refine bn.p Z (yB i4 eE Z (aP.le ac) Z U O3)<|.p Z (ae cW fp U Z) ?_;have hf:=de (off:=2) aI (show _=some (.slice b7 b5 b3) from rfl);refine bn.p Z (ah ga Z Z aI Z)<|.p Z (aN Z) ?_;have fm:=bJ.hi (k:=m % rs.length) aP U O3;rw [Kb] at fm;refine bn.p Z (PM i4 eE Z (aP.le ac) Z U O3)<|.m Z (fun hy=>bf (c:=[]) a9.wf rfl (aw i4 eE wJ rfl U U rfl) fun A271 iH a1=>?_);have az:=ne_new a9.wf aI a1.lo;have bu:=ne_new a9.wf cV a1.lo;have b6:=ne_new a9.wf a9.get a1.lo;have gs:=a1.le.g aI;have gA:=a1.le.g cV;have gC:=a1.le.g a9.get;have eG:=cl a1.le he;have eL:=cl a1.le hf;have f0:=ac.trans a1.le;refine hy (eF.now (by repeat (first | with_reducible exact eF.nil | with_reducible refine eF.filter ?_ | ((with_reducible refine eF.cons ?_ ?_);first | exact cm | exact (bz eG cm) | exact (bz eL cm))))) ?_;have ev:Fresh A79 A271 (.slice (some ⟨iH,0,none⟩) 0 0) 3 (cd []):=Fresh.lit a1.get (aX a6 (Xj ac.n a1.lo)) Z G;refine bn.m Z (fun hz=>ct rfl rfl i4 eE LU wJ rfl U i4 (fun _ h=>by cases h) ev.own ((fl.le f0).listOf (n:=(rs.drop (m % rs.length)).length) OP O) OP (yL bL (fun r h=>by first | exact List.mem_of_mem_drop h | exact SY h)) (by show (_ + _) * 56<=_;simp only [bw,Xq,Xz];(try simp only [Xx,Xq,Xz,Tx,XZ]);omega) (by simp only [bw,Xq,Xz];(try simp only [Xx,Xq,Xz,Tx,XZ]);omega) fun A285 nL ab=>?_);rw [mF] at ab;obtain ⟨ex,f1⟩:=Fresh.grow ev f0 a6 ab;have jN:=ab.keep (fun q=>by cases q;exact az Z) gs;have dd:=ab.ne (fun q=>by cases q;exact az Z) a1.wf gs;have jX:=ab.keep (fun q=>by cases q;exact bu Z) gA;have hW:=ab.ne (fun q=>by cases q;exact bu Z) a1.wf gA;have gD:=ab.keep (fun q=>by cases q;exact b6 Z) gC;have fi:=ab.ne (fun q=>by cases q;exact b6 Z) a1.wf gC;have eN:=ab.cell (fun q=>by cases q;exact az Z) eG;have eQ:=ab.cell (fun q=>by cases q;exact az Z) eL;refine hz (eF.now (by repeat (first | with_reducible exact eF.nil | with_reducible refine eF.filter ?_ | ((with_reducible refine eF.cons ?_ ?_);first | exact cm | exact (bz eN cm) | exact (bz eQ cm)))))<|.m Z (fun hA=>ct rfl rfl i4 eE LU wJ rfl U i4 (fun _ h=>by cases h) ex.own ((fm.le f1).listOf (n:=(rs.take (m % rs.length)).length) OP O) OP (yL bL (fun r h=>by first | exact List.mem_of_mem_drop h | exact SY h)) (by show (_ + _) * 56<=_;simp only [bw,Xq,Xz];(try simp only [Xx,Xq,Xz,Tx,XZ]);omega) (by simp only [bw,Xq,Xz];(try simp only [Xx,Xq,Xz,Tx,XZ]);omega) fun A307 nM ap=>?_);rw [mF] at ap;obtain ⟨ey,hR⟩:=Fresh.grow ex f1 a6 ap;have eS:=ap.cell dd eN;have eT:=ap.cell dd eQ;refine hA (eF.now (by repeat (first | with_reducible exact eF.nil | with_reducible refine eF.filter ?_ | ((with_reducible refine eF.cons ?_ ?_);first | exact cm | exact (bz eS cm) | exact (bz eT cm)))))<|.p Z (ae cW fp U Z) ?_;obtain ⟨ec,e7,e1,lS,_⟩:=ey.own.slice;subst lS;refine bn.m Z (fun hC=>aW (cs:=[.slice ec e7 e1]) (c':=[num (g),.slice bD bA bv,.slice ec e7 e1]) ap.wf rfl rfl rfl rfl fp (ap.keep fi gD) G rfl rfl fun A330 aG=>?_);have hg:=zP aG ay eS;have hh:=zP aG ay eT;refine hC (eF.now (by repeat (first | with_reducible exact eF.nil | with_reducible refine eF.filter ?_ | ((with_reducible refine eF.cons ?_ ?_);first | exact cm | exact (bz hg cm) | exact (bz hh cm)))))<|.done ?_;exact ⟨⟨.slice ec e7 e1,(([]) ++ rs.drop (m % rs.length)) ++ rs.take (m % rs.length)⟩,jC Z Z Z Z,Z,⟨(by first | exact .refl _ | exact yG),(al hR a6 cA aG.n aG.keep),aG.get,(aG.k ay (ap.keep dd jN)),(aG.k br (ap.keep hW jX)),(ey.keep aG.keep (ap.ne fi ab.wf gD)).slc⟩⟩
   refine ak.skip ?_;exact ⟨⟨.slice b7 b5 b3,rs⟩,jC Z Z Z Z,Z,⟨(by first | exact .refl _ | exact yG),ac,a9.get,aI,cV,(aP.le ac)⟩⟩
  refine Ops.off Z Z Z Z<|.off Z Z Z Z<|.p (bh Z Z)<|.nil<|gq<|.cond_false Z<|.skip ?_;exact ⟨⟨.slice b7 b5 b3,rs⟩,jC Z Z Z Z,Z,⟨(by first | exact .refl _ | exact yG),ac,a9.get,aI,cV,(aP.le ac)⟩⟩
 rintro ⟨fe,fd⟩ B341 ⟨⟨tv,ts⟩,hE,rfl,⟨hpt,bc,cX,e4,dz,htv⟩⟩;refine ak.forget hE<|.wf fun nd=>.sq fun k0=>.region<|.p (am ei dE Z Z cX Z)<|.m (fun hD=>aq Z (vQ ((g)) (.slice bD bA bv) l tv ts B341 bV (by rw [hpt.length_eq];exact gN) (fun z=>lx (ja z) (JK hli hpt)) (hL.le bc) (hM.le bc) (cZ.le bc) htv ((bL.perm hpt).le bc)) ?_);rintro nN A347 ⟨n9,lY,dm,mT,cK,rfl,ck,aS,cH,fR,cC,aC⟩;have gE:=ck.g e4;have gF:=ck.g dz;have f2:=bc.trans ck;have ez:=fR.base bc;have iD:=cH;have iv:=cC;have it:=aC;obtain ⟨dO,dL,dk,fL,_⟩:=cH.slc;subst fL;have eX:=AH.le.refl A347;refine hD<|.J Z<|.p (aQ Z Z)<|.p (aQ Z Z)<|.m (fun hF=>bZ aS Je rfl fun A361 nq a8=>?_);have fq:=aX aS (Xj eX.n a8.lo);have eA:=ez.le a8.le;refine hF ?_;obtain ⟨di,d0,cP,lT,_⟩:=eA.own.slice;subst lT;refine Ops.m (fun hG=>aW (cs:=[num (dm),.slice dO dL dk,.slice di d0 cP]) (c':=[num (dm),.slice dO dL dk,.slice di d0 cP]) a8.wf rfl rfl rfl rfl dE a8.get G rfl rfl fun A372 aa=>?_);have e3:=aa.k (ne_new aS gF a8.lo) (a8.le.g gF);have eC:=eA.keep aa.keep (ez.own.ne_new aS a8.lo);have aD:=al (f2.trans a8.le) a6 (aX a6 (Xj f2.n a8.lo)) aa.n aa.keep;refine hG<|.I Z<|.nil ?_;have hpy:=cC.le (al (eX.trans a8.le) aS fq aa.n aa.keep);refine k0<|.join (fun f A1=>aj [(1,ax (w)),(3,.pointer (some ⟨b4,0,none⟩)),(9,.pointer (some ⟨fv,0,none⟩))] f.e/\f.ds=[]/\A372.le A1/\A1.wf) ?_ ?_
 ·have ba:=AH.le.refl A372;refine ak.sq fun bT=>?_;obtain ⟨hta,htb⟩:=CR.min_turn a0 h0 hpt aC;refine ak.region<|.J Z<|.p (eB (b:=0) Z Z)<|.J Z<|.part (t:=144) Z (fun lb=>?_) (fun lb=>?_)
  ·refine Ops.on Z Z<|.J Z<|.on Z Z<|.p (eB (b:=2) Z Z)<|.p (aL Z Z)<|.J Z<|.part (t:=148) Z (fun lc=>?_) (fun lc=>?_)
   ·refine Ops.off Z Z Z Z<|.off Z Z Z Z<|.off Z Z Z Z<|.und Z Z Z<|.und Z Z Z<|.und Z Z Z<|.und Z Z Z<|.und Z Z Z<|.und Z Z Z<|.off Z Z Z Z ?_;refine Ops.p (aL Z Z)<|.nil<|bT<|.cond_true Z<|.sq fun k1=>.region<|.I Z<|.nil<|k1<|.rt (by exact aH Z (⟨by first | rfl | (rw [XJ O];rfl) | exact (by omega:False).elim | (rw [XJ (by rw [(a0.bad ‹_›).2.2];rfl)];rfl) | exact absurd hgl ‹_› | exact (tf hsr ‹_›).elim | exact (gW a5 ‹_›).elim | exact (tf a3 ‹_›).elim | exact (tf (hct O) ‹_›).elim | exact (tf (hmb O) ‹_›).elim | exact (tf (htb O) ‹_›).elim | (rw [a4 O O];simp [ej]),leA.trans aD,aa.wf⟩))
   refine Ops.on Z Z<|.J Z<|.on Z Z<|.p (gI (b:=0) Z Z)<|.on Z Z<|.J Z<|.part (t:=151) Z (fun lp=>?_) (fun lp=>?_)
   ·refine Ops.on Z Z<|.p (ae cW fp U Z)<|.on Z Z<|.p (ah ga Z Z aa.get Z)<|.on Z Z<|.p (ae cW fp U Z)<|.on Z Z<|.p (ah ga Z Z e3 Z)<|.on Z Z<|.m (fun hH=>aq Z (oh (.slice di d0 cP) (.slice b2 b1 b0) cK D false A372 (by have:=(tM aC O).1;omega) (tM aC O).2 eC.slc (hrm.le aD) (hpy.le ba) (hpm.le aD)) ?_);rintro nO A392 ⟨rfl,dD,dS⟩;have hS:=aD.trans dD;refine hH<|.on Z Z<|.p (eD Z)<|.on Z Z<|.p (aL Z Z)<|.p (bh Z Z)<|.nil<|bT<|.ifB Z (fun lt=>?_) (fun lt=>?_)
    ·refine ak.sq fun k2=>.region<|.I Z<|.nil<|k2<|.rt (by exact aH Z (⟨by first | rfl | (rw [XJ O];rfl) | exact (by omega:False).elim | (rw [XJ (by rw [(a0.bad ‹_›).2.2];rfl)];rfl) | exact absurd hgl ‹_› | exact (tf hsr ‹_›).elim | exact (gW a5 ‹_›).elim | exact (tf a3 ‹_›).elim | exact (tf (hct O) ‹_›).elim | exact (tf (hmb O) ‹_›).elim | exact (tf (htb O) ‹_›).elim | (rw [a4 O O];simp [ej]),leA.trans hS,dS⟩))
    refine ak.skip ?_;exact ⟨jc Z Z Z,Z,(ba.trans dD),dS⟩
   refine Ops.off Z Z Z Z<|.off Z Z Z Z<|.off Z Z Z Z<|.off Z Z Z Z<|.off Z Z Z Z<|.off Z Z Z Z<|.on Z Z<|.p (bh Z Z)<|.p (bh Z Z)<|.nil ?_;refine bT<|.cond_false Z<|.skip ?_;exact ⟨jc Z Z Z,Z,ba,aa.wf⟩
  refine Ops.off Z Z Z Z<|.off Z Z Z Z<|.p (bh Z Z)<|.J Z<|.on Z Z<|.J Z<|.on Z Z<|.p (gI (b:=0) Z Z)<|.on Z Z<|.J Z ?_;refine Ops.part (t:=151) Z (fun lw=>?_) (fun lw=>?_)
  ·refine Ops.on Z Z<|.p (ae cW fp U Z)<|.on Z Z<|.p (ah ga Z Z aa.get Z)<|.on Z Z<|.p (ae cW fp U Z)<|.on Z Z<|.p (ah ga Z Z e3 Z)<|.on Z Z<|.m (fun hI=>aq Z (oh (.slice di d0 cP) (.slice b2 b1 b0) cK D false A372 (by have:=(tM aC O).1;omega) (tM aC O).2 eC.slc (hrm.le aD) (hpy.le ba) (hpm.le aD)) ?_);rintro nQ A407 ⟨rfl,dG,dV⟩;have hT:=aD.trans dG;refine hI<|.on Z Z<|.p (eD Z)<|.on Z Z<|.p (aL Z Z)<|.p (bh Z Z)<|.nil<|bT<|.ifB Z (fun lA=>?_) (fun lA=>?_)
   ·refine ak.sq fun k3=>.region<|.I Z<|.nil<|k3<|.rt (by exact aH Z (⟨by first | rfl | (rw [XJ O];rfl) | exact (by omega:False).elim | (rw [XJ (by rw [(a0.bad ‹_›).2.2];rfl)];rfl) | exact absurd hgl ‹_› | exact (tf hsr ‹_›).elim | exact (gW a5 ‹_›).elim | exact (tf a3 ‹_›).elim | exact (tf (hct O) ‹_›).elim | exact (tf (hmb O) ‹_›).elim | exact (tf (htb O) ‹_›).elim | (rw [a4 O O];simp [ej]),leA.trans hT,dV⟩))
   refine ak.skip ?_;exact ⟨jc Z Z Z,Z,(ba.trans dG),dV⟩
  refine Ops.off Z Z Z Z<|.off Z Z Z Z<|.off Z Z Z Z<|.off Z Z Z Z<|.off Z Z Z Z<|.off Z Z Z Z<|.on Z Z<|.p (bh Z Z)<|.p (bh Z Z)<|.nil ?_;refine bT<|.cond_false Z<|.skip ?_;exact ⟨jc Z Z Z,Z,ba,aa.wf⟩
 rintro ⟨fe,fd⟩ A419 ⟨hE,rfl,cu,nb⟩;refine ak.forget hE ?_;have bd:=aD.trans cu;refine ak.sq fun k4=>.region<|.p (am ei dE Z Z (cu.g (aa.k (ne_new aS gE a8.lo) (a8.le.g gE))) Z)<|.J Z<|.m (fun hJ=>aq Z (px ((g)) (.slice bD bA bv) l (.slice b7 b5 b3) rs w A419 bV gN (hL.le bd) (cZ.le bd) (aP.le bd) (bL.le bd)) ?_);rintro nT A431 ⟨lZ,rfl,dI,dW,fS⟩;have gG:=dI.g (cu.g e3);have f3:=bd.trans dI;refine hJ<|.J Z<|.p (aQ Z Z)<|.p (aQ Z Z)<|.m (fun hK=>bZ dW s8 rfl fun A447 nu aY=>?_);have h8:=(fS.base bd).le aY.le;refine hK ?_;obtain ⟨gZ,gQ,fD,lV,_⟩:=h8.own.slice;subst lV;refine Ops.m (fun hN=>aW (cs:=[ax ((jZ ((g)) l rs w).word),num (((jZ ((g)) l rs w).steps:Nat):Int),.slice gZ gQ fD]) (c':=[ax ((jZ ((g)) l rs w).word),num (((jZ ((g)) l rs w).steps:Nat):Int),.slice gZ gQ fD]) aY.wf rfl rfl rfl rfl eW aY.get G rfl rfl fun A460 bS=>?_);have k5:=bS.k (ne_new dW gG aY.lo) (aY.le.g gG);have bl:=al (f3.trans aY.le) a6 (aX a6 (Xj f3.n aY.lo)) bS.n bS.keep;refine hN<|.I Z<|.nil<|k4<|.sq fun k6=>.region<|.p (am ei dE Z Z k5 Z)<|.J Z<|.m (fun hO=>aq Z (px ((V)) (.slice aB aA ar) X (.slice b2 b1 b0) D w A460 (by rw [hgl.2];exact bV) O (hL.le bl) (hum.le bl) (hrm.le bl) (hpm.le bl)) ?_);rintro nU A473 ⟨m1,rfl,dJ,dZ,fT⟩;have gL:=dJ.g bS.get;have f4:=bl.trans dJ;refine hO<|.J Z<|.p (aQ Z Z)<|.p (aQ Z Z)<|.m (fun hP=>bZ dZ s8 rfl fun A493 nv aZ=>?_);have ha:=(fT.base bl).le aZ.le;refine hP ?_;obtain ⟨h1,gS,fE,lW,_⟩:=ha.own.slice;subst lW;refine Ops.m (fun hQ=>aW (cs:=[ax ((jZ ((V)) X D w).word),num (((jZ ((V)) X D w).steps:Nat):Int),.slice h1 gS fE]) (c':=[ax ((jZ ((V)) X D w).word),num (((jZ ((V)) X D w).steps:Nat):Int),.slice h1 gS fE]) aZ.wf rfl rfl rfl rfl eW aZ.get G rfl rfl fun A509 ad=>?_);have bm:=al (f4.trans aZ.le) a6 (aX a6 (Xj f4.n aZ.lo)) ad.n ad.keep;refine hQ<|.I Z<|.nil<|k6<|.sq fun k7=>.sq fun k9=>?_;obtain ⟨o3,oa,a4⟩:=CR.min_red a0 h0 w;refine ak.region<|.J Z<|.p (gI (b:=4) Z Z)<|.nil<|k9<|.if rfl (fun lB=>?_) (fun lB=>?_)
 ·refine ak.sq fun ka=>.region<|.J Z<|.J Z<|.p (gI Z Z)<|.I Z<|.nil<|ka<|.rt (by exact aH Z (⟨by first | rfl | (rw [XJ O];rfl) | exact (by omega:False).elim | (rw [XJ (by rw [(a0.bad ‹_›).2.2];rfl)];rfl) | exact absurd hgl ‹_› | exact (tf hsr ‹_›).elim | exact (gW a5 ‹_›).elim | exact (tf a3 ‹_›).elim | exact (tf (hct O) ‹_›).elim | exact (tf (hmb O) ‹_›).elim | exact (tf (htb O) ‹_›).elim | (rw [a4 O O];simp [ej]),leA.trans bm,ad.wf⟩))
 refine ak.skip<|k7<|.sq fun bU=>.region<|.J Z<|.p (gI (b:=2) Z Z)<|.J Z<|.part (t:=179) Z (fun lC=>?_) (fun lC=>?_)
 ·refine Ops.off Z Z Z Z<|.off Z Z Z Z<|.p (aL Z Z)<|.J Z<|.off Z Z Z Z<|.off Z Z Z Z<|.off Z Z Z Z<|.und Z Z Z<|.und Z Z Z<|.off Z Z Z Z ?_;refine Ops.off Z Z Z Z<|.und Z Z Z<|.und Z Z Z<|.und Z Z Z<|.und Z Z Z<|.und Z Z Z<|.off Z Z Z Z<|.p (aL Z Z)<|.I Z<|.nil ?_;refine bU<|.rt (by exact aH Z (⟨by first | rfl | (rw [XJ O];rfl) | exact (by omega:False).elim | (rw [XJ (by rw [(a0.bad ‹_›).2.2];rfl)];rfl) | exact absurd hgl ‹_› | exact (tf hsr ‹_›).elim | exact (gW a5 ‹_›).elim | exact (tf a3 ‹_›).elim | exact (tf (hct O) ‹_›).elim | exact (tf (hmb O) ‹_›).elim | exact (tf (htb O) ‹_›).elim | (rw [a4 O O];simp [ej]),leA.trans bm,ad.wf⟩))
 refine Ops.on Z Z<|.J Z<|.on Z Z<|.p (gI (b:=2) Z Z)<|.p (bh Z Z)<|.J Z<|.part (t:=183) Z (fun lE=>?_) (fun lE=>?_)
 ·refine Ops.off Z Z Z Z<|.off Z Z Z Z<|.off Z Z Z Z<|.und Z Z Z<|.und Z Z Z<|.off Z Z Z Z<|.off Z Z Z Z<|.und Z Z Z<|.und Z Z Z<|.und Z Z Z ?_;refine Ops.und Z Z Z<|.und Z Z Z<|.off Z Z Z Z<|.p (aL Z Z)<|.I Z<|.nil<|bU<|.rt (by exact aH Z (⟨by first | rfl | (rw [XJ O];rfl) | exact (by omega:False).elim | (rw [XJ (by rw [(a0.bad ‹_›).2.2];rfl)];rfl) | exact absurd hgl ‹_› | exact (tf hsr ‹_›).elim | exact (gW a5 ‹_›).elim | exact (tf a3 ‹_›).elim | exact (tf (hct O) ‹_›).elim | exact (tf (hmb O) ‹_›).elim | exact (tf (htb O) ‹_›).elim | (rw [a4 O O];simp [ej]),leA.trans bm,ad.wf⟩))
 refine Ops.on Z Z<|.J Z<|.on Z Z<|.p (gI (b:=0) Z Z)<|.on Z Z<|.J Z<|.part (t:=186) Z (fun lF=>?_) (fun lF=>?_)
 ·refine Ops.on Z Z<|.J Z<|.on Z Z<|.p (gI (b:=0) Z Z)<|.on Z Z<|.p (aL Z Z)<|.on Z Z<|.J Z<|.part (t:=190) Z (fun lK=>?_) (fun lK=>?_)
  ·refine Ops.on Z Z<|.p (ae jT ek U Z)<|.on Z Z<|.p (ah eJ Z Z (ad.k (ne_new dZ gL aZ.lo) (aZ.le.g gL)) Z)<|.on Z Z<|.p (ae jT ek U Z)<|.on Z Z<|.p (ah eJ Z Z ad.get Z)<|.on Z Z<|.p (ng Z Z) ?_;refine Ops.on Z Z<|.p (aL Z Z)<|.p (bh Z Z)<|.I Z<|.nil<|bU<|.rt (by exact aH Z (⟨by first | rfl | (rw [XJ O];rfl) | exact (by omega:False).elim | (rw [XJ (by rw [(a0.bad ‹_›).2.2];rfl)];rfl) | exact absurd hgl ‹_› | exact (tf hsr ‹_›).elim | exact (gW a5 ‹_›).elim | exact (tf a3 ‹_›).elim | exact (tf (hct O) ‹_›).elim | exact (tf (hmb O) ‹_›).elim | exact (tf (htb O) ‹_›).elim | (rw [a4 O O];simp [ej]),leA.trans bm,ad.wf⟩))
  refine Ops.off Z Z Z Z<|.off Z Z Z Z<|.off Z Z Z Z<|.off Z Z Z Z<|.off Z Z Z Z<|.on Z Z<|.p (bh Z Z)<|.p (bh Z Z)<|.I Z<|.nil ?_;refine bU<|.rt (by exact aH Z (⟨by first | rfl | (rw [XJ O];rfl) | exact (by omega:False).elim | (rw [XJ (by rw [(a0.bad ‹_›).2.2];rfl)];rfl) | exact absurd hgl ‹_› | exact (tf hsr ‹_›).elim | exact (gW a5 ‹_›).elim | exact (tf a3 ‹_›).elim | exact (tf (hct O) ‹_›).elim | exact (tf (hmb O) ‹_›).elim | exact (tf (htb O) ‹_›).elim | (rw [a4 O O];simp [ej]),leA.trans bm,ad.wf⟩))
 refine Ops.off Z Z Z Z<|.off Z Z Z Z<|.on Z Z<|.p (bh Z Z)<|.on Z Z<|.J Z<|.off Z Z Z Z<|.off Z Z Z Z<|.off Z Z Z Z<|.off Z Z Z Z ?_;refine Ops.off Z Z Z Z<|.on Z Z<|.p (bh Z Z)<|.p (bh Z Z)<|.I Z<|.nil<|bU<|.rt (by exact aH Z (⟨by first | rfl | (rw [XJ O];rfl) | exact (by omega:False).elim | (rw [XJ (by rw [(a0.bad ‹_›).2.2];rfl)];rfl) | exact absurd hgl ‹_› | exact (tf hsr ‹_›).elim | exact (gW a5 ‹_›).elim | exact (tf a3 ‹_›).elim | exact (tf (hct O) ‹_›).elim | exact (tf (hmb O) ‹_›).elim | exact (tf (htb O) ‹_›).elim | (rw [a4 O O];simp [ej]),leA.trans bm,ad.wf⟩))
open Go.ChangeShapes Go.WideShapes Go.ChangeAt
theorem vh (H:Type) (enc:TypeId × Value->H) (W:World) (base:Nat) (args:Array Value) (ds gs:List (DataW H)) (before:List MemPlace)
    (hval:∀ (j:Nat) t v,Tryz.f8.params[j]? = some t->args[j]? = some v->Value.okWide prog W .any base t v)
    (hW:DataW.Whole enc prog Tryz.f8.params.toList Rows.rewriteMinimalSpec.vars false W args.toList ds gs before) (hL:laidMetH prog Rows.rewriteMinimalRow.laid W) (hS:W.ShapedOpen prog) :
    Calls prog 8 args W fun e W'=>∃ v,e=.returned v/\Rows.rewriteMinimalSpec.post enc prog Tryz.f8 false true false false W args v W':=by
  have hW':=hW
  obtain ⟨p,q,D,hV,rfl,hfz,hnd⟩:=hW
  have hA:DataW.TrodAll enc prog W 0 (fun _=>true) true Tryz.f8.params.toList args.toList ds p:=D
  rw [Tryz.params8] at hA hval
  obtain ⟨v0,v1,v2,d0,d1,d2,p0,p1,p2,rfl,rfl,rfl,h0,h1,h2⟩:=trodAll_three hA
  obtain ⟨rfl,rfl⟩:=trodVars_none hV
  clear D
  simp only [Sk] at hW'
  have X:=h0
  obtain ⟨g0,u0,l0,V,a7,rfl,a2,a3,a6,a5,a4⟩:=Ve (hval 0 27 v0 Z Z) h0
  have a0:=h1
  obtain ⟨s1,rfl,_,_,a8⟩:=Go.ChangeMaps.open_string underlying9 (hval 1 9 v1 Z Z) h1
  have a1:=h2
  obtain ⟨n2,rfl,_,_,_⟩:=open_int underlying3 (hval 2 3 v2 Z Z) h2
  have hlt:∀ x ∈ p0 ++ p1 ++ p2,x.block < W.heap.size:=fun x hx=>by simpa using hW'.lt x (by simpa using hx)
  have walk:=Jq (k:=8) (args:=[.agg #[.int .i64 g0,u0,V],.string s1,.int .i64 n2]) (by
    rw [rN s1]
    exact vU g0 u0 l0 V a7 s1.data.toList n2 (AH.ofWorld W) (JJ (table hL)) (Pc hS) a2 a3 a6 a5 a4)
  refine walk.mono ?_
  rintro e W' ⟨rfl,bel⟩
  refine ⟨_,rfl,_,_,_,[],p0 ++ p1 ++ p2,[],(by simpa using hW'),?_,?_,?_,bel.frame _,fun h=>by cases h⟩
  · exact trodAll_cons_mk (shut_bool underlying4 _) trodAll_mk0
  · have mk:=trodAll_mk3 (Below.trod De Y (of_decide_eq_true Y) X bel (fun x hx=>hlt x (by simp [hx]))) (Below.trod De Y (of_decide_eq_true Y) a0 bel (fun x hx=>hlt x (by simp [hx]))) (Below.trod De Y (of_decide_eq_true Y) a1 bel (fun x hx=>hlt x (by simp [hx])))
    first | exact mk | (simp only [XY];exact mk)
  · rfl
theorem EJ (os:Os):laidMet prog Rows.rewriteMinimalRow.laid ((vB os).forCall (fun _ _=>0) ⟨#[],#[.agg #[.int .i64 0,.slice none 0 0,.slice none 0 0],.string ⟨#[]⟩,.int .i64 0],[]⟩).memory :=
  laidMet_of_run3 20 Y Y Y
theorem zr (os:Os) {H:Type} (enc:TypeId × Value->H):∃ places,DataW.whole enc prog ((vB os).forCall (fun _ _=>0) ⟨#[],#[.agg #[.int .i64 0,.slice none 0 0,.slice none 0 0],.string ⟨#[]⟩,.int .i64 0],[]⟩).memory Tryz.f8.params.toList Rows.rewriteMinimalSpec.vars false #[.agg #[.int .i64 0,.slice none 0 0,.slice none 0 0],.string ⟨#[]⟩,.int .i64 0].toList 20=some ([.agg [.agg [.lit (.int .i64 0),.nil],.nil],.lit (.string []),.lit (.int .i64 0)],[],places) :=
  ⟨[],by kernel_rfl⟩
theorem xw (os:Os) (started:os.Started) (H:Type) (enc:TypeId × Value->H) (F:Stop.Interp) :
    ReturnsInHanded {} Tryz.checked os 8 .any ((OpenSpec.ofChange Rows.rewriteMinimalSpec).preRow enc prog Tryz.f8 Rows.rewriteMinimalRow.domain false Rows.rewriteMinimalRow.laid) (((OpenSpec.ofChange Rows.rewriteMinimalSpec).at F).post enc prog Tryz.f8 false true false false):=by
  obtain ⟨places,hx⟩:=zr os enc
  refine returnsInHanded_of_row (C:=Tryz.checked) (s:=OpenSpec.ofChange Rows.rewriteMinimalSpec) own started Y func8
    (witness_row_at (enc:=enc) (C:=Tryz.checked) false (vB os) #[.agg #[.int .i64 0,.slice none 0 0,.slice none 0 0],.string ⟨#[]⟩,.int .i64 0] Z Y Y Y
      (OpenSpec.preRow_of_cond 20 hx Y (fun k hk=>by cases hk) Y (EJ os))) ?_
  intro W base args ds gs before hval hW _ _ _ hL hS _
  exact vh H enc W base args ds gs before hval hW hL hS
theorem Cl:Rows.RewriteMinimalSaid :=
  OpenClaim.holds_of_cond 8 Tryz.f8 Z Z Z Z Z Z Z ⟨rfl,rfl,rfl,rfl,rfl⟩ Z Z Z Z Z Y func8 Y
    (of_decide_eq_true Y) (by unfold Func.isWrapper;first | (rw [XX (by decide +kernel)];kernel_rfl) | (rw [Xy (by decide +kernel)];exact ⟨Z,Z⟩))
    (fun os started H enc _ F=>by rw [OpenClaim.pre_eq_preRow];exact xw os started H enc F)
theorem zq (f:FuncId) (fn:Func) (hf:Tryz.pinned.checked.prog.funcNamed "cayley/cayleylaw10.RewriteMinimal" = some f) (hfn:Tryz.pinned.checked.prog.funcs[f]? = some fn) :
    true=Tryz.pinned.checked.prog.looks []/\∀ (j:Nat) t,fn.params[j]? = some t->Tryz.pinned.checked.prog.wantsStandIn t=false:=by
  obtain rfl:f=8:=Option.some.inj ((show prog.funcNamed "cayley/cayleylaw10.RewriteMinimal" = some 8 by kernel_rfl).symm.trans hf) |>.symm
  obtain rfl:fn=Tryz.f8:=(Option.some.inj (func8.symm.trans hfn)).symm
  refine ⟨by kernel_rfl,fun j t ht=>?_⟩
  rw [Tryz.params8] at ht
  have:t=27\/t=9\/t=3:=by simpa using Array.mem_of_getElem? ht
  rcases this with rfl | rfl | rfl
  · exact (show prog.wantsStandIn 27=false by kernel_rfl)
  · exact (show prog.wantsStandIn 9=false by kernel_rfl)
  · exact (show prog.wantsStandIn 3=false by kernel_rfl)
theorem Minimal_card:Rows.RewriteMinimalCardSaid :=
  Claim7.holds_tied_plain_at .later [] _ _ _ _ Cl (fun _ h=>by cases h) Y (fun _ h=>by cases h) rewriteMinimal_row_tie Z ⟨rfl,rfl⟩ Y Z zq Y
end Go.Proofs.YtjppkekmddjcfaaGreatDoor
