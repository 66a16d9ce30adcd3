import Derived.Test.YtjppkekmddjcfaaGreatDoorNC3
import Derived.Test.YtjppkekmddjcfaaGreatDoorNC2
import Derived.Recover
set_option linter.unusedSectionVars false
set_option linter.unusedVariables false
set_option linter.unusedSimpArgs false
open Go.Proofs.Tryz
namespace Go.Proofs.YtjppkekmddjcfaaGreatDoor
open Go Go.RowKit V
set_option maxRecDepth 100000
theorem Ef (g:Nat) (caps:Array Value) (q:an->Bool) (rv:Value) (rs:List an) (A:AH) (hn:rs.length<=9223372036854775807) (hr:bJ A 3 rv (cd rs)) (hf:∀ r,r ∈ rs->∀ B,A.le B->B.wf->bH prog g (#[] ++ #[.agg #[ax r.left,ax r.right,r.pv]] ++ caps) B (fun v B1=>v=.bool (q r)/\B.le B1/\B1.wf)):bH prog 103 #[rv,.func (.func g) #[] caps] A (fun v A1=>v=num (FK q rs)/\A.le A1/\A1.wf):=by
 refine bi (e:=[(0,rv),(1,.func (.func g) #[] caps)]) (args:=[rv,.func (.func g) #[] caps]) call103 func103 Z results103 ntmps103 Z Z Z (fun wf=>?_);have a2:=AH.le.refl A;refine ak.sq fun h2=>.region<|.I Z<|.nil<|h2<|.sq fun h4=>.sq fun h6=>.region<|.J Z<|.p (bE (n:=rs.length) i4 Z (hr.le a2) O (cL _)) ?_;refine Ops.J Z<|.nil<|h6<|.block<|.loop (X:=Nat) (fun k=>[(0,rv),(1,.func (.func g) #[] caps),(7,num ((rs.length:Nat):Int)),(8,num ((k:Nat):Int))]) (fun k B=>(k<=rs.length/\∀ j,j < k->q (rs.getD j .zero)=false)/\A.le B) (fun k=>rs.length - k) 0 (jC Z Z Z Z) (⟨⟨by omega,fun j h=>by omega⟩,a2⟩) ?_;rintro k B8 ⟨⟨hk,hq⟩,D⟩;refine ak.wf fun a3=>.sq fun a8=>.region<|.p (ca Z Z)<|.nil<|a8<|.sq fun a9=>.if rfl (fun ap=>?_) (fun ap=>?_)
 ·refine ak.skip<|a9<|.sq fun aa=>.block<|.sq fun ab=>.region<|.J Z<|.I Z<|.nil<|ab ?_;refine ak.sq fun ac=>.region<|.J Z<|.J Z<|.J Z ?_;obtain ⟨aA,aB,az,aE,ay,aD,aC,a6,ai,a7,a4,av⟩:=bJ.at (i:=k) (hr.le D) O3 O;refine Ops.p (au i4 eE Z a6 Z ai)<|.p (am uo eE Z Z a7 (a4.trans (Xk some (iI O))))<|.m (fun a5=>qJ Z Z (hf ((rs.getD k .zero)) (bj (d:=an.zero) O) B8 D a3) ?_);rintro aF A24 ⟨rfl,a0,a1⟩;have V:=D.trans a0;refine a5<|.nil<|ac<|.ifB Z (fun ar=>?_) (fun ar=>?_)
  ·refine ak.sq fun ad=>.region<|.J Z<|.I Z<|.nil<|ad<|.rt (by exact aH Z (⟨by rw [Ah (d:=.zero) Ow hq ‹_›];rfl,V,a1⟩))
  refine ak.skip<|aa<|.region<|.p (bF (b:=1) Z Z O)<|.J Z<|.nil ?_;exact ⟨k + 1,jC Z Z Z Z,Z,⟨⟨by omega,fun j h=>(XW.1 h).elim (hq j) (fun z=>by subst z;assumption)⟩,V⟩,O1⟩
 refine ak.exit<|h4<|.sq fun ag=>.region<|.I Z<|.nil<|ag<|.rt (by exact aH Z (⟨by rw [FP (d:=.zero) (fun j h=>hq j O)];rfl,D,a3⟩))
theorem qH (g:Nat) (caps:Array Value) (q:an->Bool) (rv:Value) (rs:List an) (A:AH) (hn:rs.length<=9223372036854775807) (hr:bJ A 3 rv (cd rs)) (hf:∀ r,r ∈ rs->∀ B,A.le B->B.wf->bH prog g (#[] ++ #[.agg #[ax r.left,ax r.right,r.pv]] ++ caps) B (fun v B1=>v=.bool (q r)/\B.le B1/\B1.wf)):bH prog 50 #[rv,.func (.func g) #[] caps] A (fun v A1=>v=.bool (decide (0<=FK q rs))/\A.le A1/\A1.wf):=by
 refine bi (e:=[(0,rv),(1,.func (.func g) #[] caps)]) (args:=[rv,.func (.func g) #[] caps]) call50 func50 Z results50 ntmps50 Z Z Z (fun wf=>?_);have h:=AH.le.refl A;refine ak.sq fun h2=>.region<|.I Z<|.nil<|h2<|.sq fun h4=>.region<|.J Z<|.J Z<|.m (fun X=>aq Z (Ef g caps q rv rs A hn (hr.le h) (fun s hs B le wf=>hf s hs B (h.trans le) wf)) ?_);rintro v6 A7 ⟨rfl,D,V⟩;refine X<|.p (ml Z Z)<|.I Z<|.nil<|h4<|.rt (by exact aH Z (⟨Z,(h.trans D),V⟩))
theorem s_irr1 (r:an) (w:W8) (b cap:Nat) (rw:Bool) (A:AH) (hM:tl A) (hw:w.length<=1000000) (hb:A.get b=some (.row rw [ax w] cap)):bH prog 100 #[.agg #[ax (r.left),ax (r.right),r.pv],.pointer (some ⟨b,0,none⟩)] A (fun v A1=>v=.bool (decide (0<=vq w r.left 0))/\A.le A1/\A1.wf):=by
 refine bi (e:=[(0,.agg #[ax (r.left),ax (r.right),r.pv]),(1,.pointer (some ⟨b,0,none⟩))]) (args:=[.agg #[ax (r.left),ax (r.right),r.pv],.pointer (some ⟨b,0,none⟩)]) call100 func100 Z results100 ntmps100 Z Z Z (fun wf=>?_);have a0:=AH.le.refl A;refine ak.sq fun h2=>.region<|.m (fun X=>d8 wf rfl rfl fun A5 b4 D=>?_);have h:=a0.trans D.le;refine X<|.I Z<|.nil<|h2<|.sq fun h9=>.region<|.p (ah eJ Z Z (h.g hb) Z)<|.p (ae ew ek U Z)<|.p (ah eJ Z Z D.get Z)<|.m (fun V=>aq Z (Ki w r.left A5 (hM.le h) O) ?_);rintro a1 A12 ⟨rfl,rfl⟩;refine V<|.I Z<|.nil<|h9<|.rt (by exact aH Z (⟨Z,h,D.wf⟩))
theorem M5 (g:Int) (u:Value) (l:List W8) (rv:Value) (rs:List an) (w:W8) (A:AH) (hn:rs.length<=9223372036854775807) (hw:w.length<=1000000) (hL:ib A) (hM:tl A) (hu:bJ A 1 u (dN l)) (hr:bJ A 3 rv (cd rs)):bH prog 48 #[.agg #[num (g),u,rv],ax (w)] A (fun v A1=>v=.bool (sj rs w)/\A.le A1/\A1.wf):=by
 refine bi (e:=[(0,.agg #[num (g),u,rv]),(1,ax (w))]) (args:=[.agg #[num (g),u,rv],ax (w)]) call48 func48 Z results48 ntmps48 Z Z Z (fun wf=>?_);have ab:=AH.le.refl A;refine ak.sq fun h2=>.region<|.m (fun a9=>d8 wf rfl rfl fun A5 b4 a0=>?_);refine a9<|.m (fun aa=>d8 a0.wf rfl rfl fun A10 b9 h=>?_);have X:=(ab.trans a0.le).trans h.le;refine aa<|.I Z<|.nil<|h2<|.sq fun a4=>.drawn [0,2,1,3,4,5,6,7,8,9,10,11] mixed Y Y Z<|.p Z (ah eJ Z Z h.get Z) ?_;have a5:=de (off:=0) h.get (show _=some (ax (w)) from rfl);refine bn.p Z (ah eJ Z Z h.get Z)<|.m Z (fun a6=>aq Z (uZ w A10 O (hL.le X)) ?_);rintro ad A20 ⟨rfl,D,a2⟩;have V:=X.trans D;refine a6 (aU.list (L:=[(⟨b9,0,none⟩,ax (w))]) Y (bz (cl D a5) cm))<|.p Z (ng Z Z)<|.p Z (aN Z)<|.part (t:=9) Z (fun ac=>?_) (fun ac=>?_)
 ·refine bn.qOn Z Z Z Z Z (ae cW fp U Z)<|.qOn Z Z Z Z Z (ah ga Z Z (D.g (h.le.g a0.get)) Z)<|.qOn Z Z Z Z Z (od Z Z)<|.lOn Z Z Z Z Z (fun _ _ a7 _=>aq Z (qH 100 #[.pointer (some ⟨b9,0,none⟩)] (fun r:an=>decide (0<=vq w r.left 0)) rv rs A20 O (hr.le V) (fun r hs B le wf=>s_irr1 r w b9 _ _ B ((hM.le V).le le) O (le.g (D.g h.get)))) ?_);rintro ag A31 ⟨rfl,a1,a3⟩;have a8:=V.trans a1;refine a7 _ _ (aU.none Y)<|.qOn Z Z Z Z Z (kI Z)<|.p Z (aL Z Z)<|.p Z (dB Z)<|.done<|a4<|.rt (by exact aH Z (⟨by (rw [YX ‹_›,<- decide_not];rfl),a8,a3⟩))
 refine bn.qOff Z Z Z Z Z Z<|.qOff Z Z Z Z Z Z<|.qOff Z Z Z Z Z Z<|.lOff Z Z Z Z Z Z<|.qOff Z Z Z Z Z Z<|.p Z (bh Z Z)<|.p Z (dB Z)<|.done<|a4<|.rt (by exact aH Z (⟨by (rw [FX ‹_›];rfl),V,a2⟩))
theorem s_min (g:Int) (u:Value) (l:List W8) (rv:Value) (rs:List an) (w:W8) (A:AH) (hn:rs.length<=9223372036854775807) (hw:w.length<=1000000) (h0:0 < w.length) (hL:ib A) (hM:tl A) (hu:bJ A 1 u (dN l)) (hr:bJ A 3 rv (cd rs)):bH prog 52 #[.agg #[num (g),u,rv],ax (w)] A (fun v A1=>v=.bool (sj rs (w.take (w.length - 1)) && sj rs (w.drop 1))/\A.le A1/\A1.wf):=by
 refine bi (e:=[(0,.agg #[num (g),u,rv]),(1,ax (w))]) (args:=[.agg #[num (g),u,rv],ax (w)]) call52 func52 Z results52 ntmps52 Z Z Z (fun wf=>?_);have a7:=AH.le.refl A;refine ak.sq fun h2=>.region<|.m (fun a6=>d8 wf rfl rfl fun A5 b4 X=>?_);have D:=a7.trans X.le;refine a6<|.I Z<|.nil<|h2<|.sq fun h9=>.drawn [0,1,2,3,4,5,6,7,8,9,10,11,12,13] mixed Y Y Z<|.p Z (am ei dE Z Z X.get Z)<|.p Z (aN Z)<|.p Z (aN Z)<|.p Z (cN u9 Z) ?_;refine bn.p Z (fJ (b:=1) Z Z O)<|.p Z (wx u9 Z Z O)<|.m Z (fun a3=>aq Z (M5 ((g)) u l rv rs (w.take (w.length - 1)) A5 hn Oi (hL.le D) (hM.le D) (hu.le D) (hr.le D)) ?_);rintro a9 A15 ⟨rfl,V,a1⟩;have a5:=V.g X.get;have h:=D.trans V;refine a3 (aU.none Y)<|.p Z (aN Z)<|.partB (t:=12) Z (fun a8=>?_) (fun a8=>?_)
 ·refine bn.qOn Z Z Z Z Z (am ei dE Z Z a5 Z)<|.qOn Z Z Z Z Z (aN Z)<|.qOn Z Z Z Z Z (tc (i:=1) u9 Z Z O)<|.lOn Z Z Z Z Z (fun _ _ a4 _=>aq Z (M5 ((g)) u l rv rs (w.drop 1) A15 hn Oi (hL.le h) (hM.le h) (hu.le h) (hr.le h)) ?_);rintro aa A28 ⟨rfl,a0,a2⟩;refine a4 _ _ (aU.none Y)<|.p Z (aL Z Z)<|.p Z (dB Z)<|.done<|h9<|.rt (by exact aH Z (⟨by simp_all [ej],(h.trans a0),a2⟩))
 refine bn.qOff Z Z Z Z Z Z<|.qOff Z Z Z Z Z Z<|.qOff Z Z Z Z Z Z<|.lOff Z Z Z Z Z Z<|.p Z (bh Z Z)<|.p Z (dB Z)<|.done<|h9<|.rt (by exact aH Z (⟨by simp_all [ej],h,a1⟩))
theorem tg (g:Int) (u:Value) (l:List W8) (rv:Value) (rs:List an) (w:W8) (A:AH) (hn:l.length<=9223372036854775807) (hm:rs.length<=9223372036854775807) (hL:ib A) (hM:tl A) (hu:bJ A 1 u (dN l)) (hr:bJ A 3 rv (cd rs)) (hp:Proofs A rs):bH prog 14 #[.agg #[num (g),u,rv],ax (w)] A (fun v A1=>v=.bool (bI g l rs && decide (bG g w=0) && sj rs w)/\A.le A1/\A1.wf):=by
 refine bi (e:=[(0,.agg #[num (g),u,rv]),(1,ax (w))]) (args:=[.agg #[num (g),u,rv],ax (w)]) call14 func14 Z results14 ntmps14 Z Z Z (fun wf=>?_);have ab:=AH.le.refl A;refine ak.sq fun h2=>.region<|.m (fun aa=>d8 wf rfl rfl fun A5 b4 a1=>?_);have D:=ab.trans a1.le;refine aa<|.I Z<|.nil<|h2<|.sq fun h9=>.region<|.p (am ei dE Z Z a1.get Z)<|.m (fun a7=>aq Z (ld ((g)) u l rv rs A5 hn hm (hL.le D) (hu.le D) (hr.le D) (hp.le D)) ?_);rintro ag A12 ⟨rfl,X,a3⟩;have a6:=X.g a1.get;have V:=D.trans X;refine a7<|.J Z<|.partB (t:=7) Z (fun ac=>?_) (fun ac=>?_)
 ·refine Ops.on Z Z<|.p (ae gi ik U Z)<|.on Z Z<|.p (ae gh dH U Z)<|.on Z Z<|.p (ah fA Z Z a6 Z)<|.on Z Z<|.J Z<|.on Z Z<|.m (fun a8=>aq Z (rJ (g) w A12 (hL.le V)) ?_);rintro ai A19 ⟨rfl,a0,a4⟩;have h:=V.trans a0;refine a8<|.on Z Z<|.p (gI (b:=0) Z Z)<|.p (aL Z Z)<|.J Z<|.part (t:=15) Z (fun ad=>?_) (fun ad=>?_)
  ·refine Ops.on Z Z<|.p (am ei dE Z Z (a0.g a6) Z)<|.on Z Z<|.J Z<|.on Z Z<|.m (fun a9=>aq Z (M5 ((g)) u l rv rs w A19 hm (by have:=gO ‹bG g w=0›;omega) (hL.le h) (hM.le h) (hu.le h) (hr.le h)) ?_);rintro ap A26 ⟨rfl,a2,a5⟩;refine a9<|.p (aL Z Z)<|.I Z<|.nil<|h9<|.rt (by exact aH Z (⟨by simp_all [ej],(h.trans a2),a5⟩))
  refine Ops.off Z Z Z Z<|.off Z Z Z Z<|.off Z Z Z Z<|.p (bh Z Z)<|.I Z<|.nil<|h9<|.rt (by exact aH Z (⟨by simp_all [ej],h,a4⟩))
 refine Ops.off Z Z Z Z<|.off Z Z Z Z<|.off Z Z Z Z<|.off Z Z Z Z<|.off Z Z Z Z<|.off Z Z Z Z<|.p (bh Z Z)<|.J Z<|.off Z Z Z Z<|.off Z Z Z Z ?_;refine Ops.off Z Z Z Z<|.p (bh Z Z)<|.I Z<|.nil<|h9<|.rt (by exact aH Z (⟨by simp_all [ej],V,a3⟩))
theorem WQ (r:an) (g:Int) (u:Value) (l:List W8) (rv:Value) (rs:List an) (b cap:Nat) (rw:Bool) (A:AH) (hm:rs.length<=9223372036854775807) (hll:r.left.length<=1000/\r.right.length<=1000/\0 < r.left.length) (hL:ib A) (hM:tl A) (hu:bJ A 1 u (dN l)) (hr:bJ A 3 rv (cd rs)) (hb:A.get b=some (.row rw [num g,u,rv] cap)):bH prog 51 #[.agg #[ax (r.left),ax (r.right),r.pv],.pointer (some ⟨b,0,none⟩)] A (fun v A1=>v=.bool (rg rs r)/\A.le A1/\A1.wf):=by
 refine bi (e:=[(0,.agg #[ax (r.left),ax (r.right),r.pv]),(1,.pointer (some ⟨b,0,none⟩))]) (args:=[.agg #[ax (r.left),ax (r.right),r.pv],.pointer (some ⟨b,0,none⟩)]) call51 func51 Z results51 ntmps51 Z Z Z (fun wf=>?_);have a6:=AH.le.refl A;refine ak.sq fun h2=>.region<|.m (fun a5=>d8 wf rfl rfl fun A5 b4 X=>?_);have D:=a6.trans X.le;refine a5<|.I Z<|.nil<|h2<|.sq fun h9=>.region<|.p (am ei dE Z Z (D.g hb) Z)<|.p (ae jw ek U Z)<|.p (ah eJ Z Z X.get Z)<|.m (fun a3=>aq Z (M5 ((g)) u l rv rs r.right A5 hm O (hL.le D) (hM.le D) (hu.le D) (hr.le D)) ?_);rintro a8 A12 ⟨rfl,V,a1⟩;have h:=D.trans V;refine a3<|.p (eD Z)<|.J Z<|.partB (t:=9) Z (fun a7=>?_) (fun a7=>?_)
 ·refine Ops.off Z Z Z Z<|.off Z Z Z Z<|.off Z Z Z Z<|.off Z Z Z Z<|.off Z Z Z Z<|.p (aL Z Z)<|.I Z<|.nil<|h9<|.rt (by exact aH Z (⟨by simp_all [ej,rg],h,a1⟩))
 refine Ops.on Z Z<|.p (am ei dE Z Z (h.g hb) Z)<|.on Z Z<|.p (ae ew ek U Z)<|.on Z Z<|.p (ah eJ Z Z (V.g X.get) Z)<|.on Z Z<|.m (fun a4=>aq Z (s_min ((g)) u l rv rs r.left A12 hm O hll.2.2 (hL.le h) (hM.le h) (hu.le h) (hr.le h)) ?_);rintro a9 A19 ⟨rfl,a0,a2⟩;refine a4<|.on Z Z<|.p (eD Z)<|.p (bh Z Z)<|.I Z<|.nil<|h9<|.rt (by exact aH Z (⟨by simp_all [ej,rg],(h.trans a0),a2⟩))
theorem wD (g:Int) (u:Value) (l:List W8) (rv:Value) (rs:List an) (A:AH) (hn:l.length<=9223372036854775807) (hm:rs.length<=9223372036854775807) (hL:ib A) (hM:tl A) (hu:bJ A 1 u (dN l)) (hr:bJ A 3 rv (cd rs)) (hp:Proofs A rs):bH prog 16 #[.agg #[num (g),u,rv]] A (fun v A1=>v=.bool (isRed g l rs)/\A.le A1/\A1.wf):=by
 refine bi (e:=[(0,.agg #[num (g),u,rv])]) (args:=[.agg #[num (g),u,rv]]) call16 func16 Z results16 ntmps16 Z Z Z (fun wf=>?_);have a8:=AH.le.refl A;refine ak.sq fun h2=>.region<|.m (fun a7=>d8 wf rfl rfl fun A5 b4 X=>?_);have D:=a8.trans X.le;refine a7<|.I Z<|.nil<|h2<|.sq fun h9=>.region<|.p (am ei dE Z Z X.get Z)<|.m (fun a4=>aq Z (ld ((g)) u l rv rs A5 hn hm (hL.le D) (hu.le D) (hr.le D) (hp.le D)) ?_);rintro aa A12 ⟨rfl,V,a1⟩;have a3:=V.g X.get;have h:=D.trans V;refine a4<|.J Z<|.partB (t:=5) Z (fun a9=>?_) (fun a9=>?_)
 ·refine Ops.on Z Z<|.p (ae cW fp U Z)<|.on Z Z<|.p (ah ga Z Z a3 Z)<|.on Z Z<|.p (od Z Z)<|.on Z Z<|.m (fun a5=>aq Z (qH 51 #[.pointer (some ⟨b4,0,none⟩)] (rg rs) rv rs A12 O (hr.le h) (fun r hs B le wf=>WQ r g u l rv rs b4 _ _ B hm (mO ‹bI g l rs=true› hs) ((hL.le h).le le) ((hM.le h).le le) ((hu.le h).le le) ((hr.le h).le le) (le.g a3))) ?_);rintro ab A19 ⟨rfl,a0,a2⟩;have a6:=h.trans a0;refine a5<|.on Z Z<|.p (kI Z)<|.p (aL Z Z)<|.I Z<|.nil<|h9<|.rt (by exact aH Z (⟨by (rw [OM ‹_›,<- decide_not];rfl),a6,a2⟩))
 refine Ops.off Z Z Z Z<|.off Z Z Z Z<|.off Z Z Z Z<|.off Z Z Z Z<|.off Z Z Z Z<|.p (bh Z Z)<|.I Z<|.nil<|h9<|.rt (by exact aH Z (⟨by (rw [OO ‹_›];rfl),h,a1⟩))
theorem u85:type_of% @underlying85:=@underlying85
theorem eqc (a b:bK):zY prog 85 (.agg #[ax a.conj,num a.rel,.bool a.inv]) (.agg #[ax b.conj,num b.rel,.bool b.inv])=some (decide (a=b)) :=
  eqCell u85 Y ⟨rfl,rfl,by decide⟩ ⟨rfl,rfl,by decide⟩ ⟨rfl,rfl,by decide⟩ eJ fA wQ u9 u3 u4 a b
theorem Wk (v1 v2:Value) (l1 l2:List bK) (A:AH) (hn:l1.length<=9223372036854775807) (V:bJ A 3 v1 (co l1)) (a0:bJ A 3 v2 (co l2)):bH prog 55 #[v1,v2] A (fun v A1=>v=.bool (decide (l1=l2))/\A=A1):=by
 refine bi (e:=[(0,v1),(1,v2)]) (args:=[v1,v2]) call55 func55 Z results55 ntmps55 Z Z Z (fun wf=>?_);have D:=AH.le.refl A;refine ak.sq fun h2=>.region<|.I Z<|.nil<|h2<|.sq fun h4=>.sq fun h6=>.region<|.J Z<|.p (bE (n:=l1.length) oq Z (V.le D) O (dR _)) ?_;refine Ops.J Z<|.p (bE (n:=l2.length) oq Z (a0.le D) O (dR _))<|.p (eB Z Z)<|.nil<|h6<|.if rfl (fun p7=>?_) (fun p7=>?_)
 ·refine ak.sq fun h9=>.region<|.I Z<|.nil<|h9<|.rt (by exact aH Z (⟨by (rw [Xv (fun q=>by have:=Xk List.length q;omega)];rfl),Z⟩))
 refine ak.skip<|h4<|.sq fun a7=>.sq fun a8=>.region<|.J Z<|.p (bE (n:=l1.length) oq Z (V.le D) O (dR _))<|.J Z<|.nil<|a8 ?_;refine ak.block<|.loop (X:=Nat) (fun k=>[(0,v1),(1,v2),(12,num ((l1.length:Nat):Int)),(13,num ((k:Nat):Int))]) (fun k B=>(k<=l1.length/\l1.length=l2.length/\∀ j,j < k->l1.getD j .zero=l2.getD j .zero)/\A=B) (fun k=>l1.length - k) 0 (jC Z Z Z Z) (⟨⟨XK _,by omega,fun j h=>by omega⟩,Z⟩) ?_;rintro k B15 ⟨⟨hk,hl,hq⟩,rfl⟩;refine ak.sq fun a9=>.region<|.p (ca Z Z)<|.nil<|a9<|.sq fun aa=>.if rfl (fun av=>?_) (fun av=>?_)
 ·refine ak.skip<|aa<|.sq fun ab=>.block<|.sq fun ac=>.region<|.J Z<|.I Z<|.nil<|ac ?_;refine ak.sq fun ad=>.drawn [0,1,2,3,4,5,6,7,8] mixed Y Y Z<|.p Z (aN Z)<|.p Z (aN Z) ?_;obtain ⟨aF,aI,aD,aY,aB,aT,aR,a3,ap,a5,a1,az⟩:=bJ.at (i:=k) (V.le D) Or O;refine bn.p Z (au oq jb Z a3 Z ap)<|.p Z (am zy jb Z Z a5 (a1.trans (Xk some (i3 O))))<|.p Z (aN Z)<|.p Z (aN Z) ?_;obtain ⟨aG,aP,aE,aZ,aC,aV,aS,a4,ar,a6,a2,aA⟩:=bJ.at (i:=k) (a0.le D) Or O;refine bn.p Z (au oq jb Z a4 Z ar)<|.p Z (am zy jb Z Z a6 (a2.trans (Xk some (i3 O))))<|.p Z ((qnev Z Z (fun _ _ q=>by cases q) (fun _ q=>by cases q) (eqc ((l1.getD k .zero)) ((l2.getD k .zero)))).trans (Xk (fun z=>some (Value.bool z,[])) (decide_not (p:=(l1.getD k .zero)=(l2.getD k .zero))).symm))<|.done<|ad<|.if rfl (fun ay=>?_) (fun ay=>?_)
  ·refine ak.sq fun ag=>.region<|.I Z<|.nil<|ag<|.rt (by exact aH Z (⟨by (rw [Xv (CY (i:=k) ‹_›)];rfl),Z⟩))
  refine ak.skip<|ab<|.region<|.p (bF (b:=1) Z Z O)<|.J Z<|.nil ?_;exact ⟨k + 1,jC Z Z Z Z,Z,⟨⟨by omega,hl,fun j h=>(XW.1 h).elim (hq j) (fun z=>by subst z;exact Decidable.not_not.1 ‹_›)⟩,Z⟩,O1⟩
 refine ak.exit<|a7<|.sq fun ai=>.region<|.I Z<|.nil<|ai<|.rt (by exact aH Z (⟨by (rw [XJ (sk hl O hq)];rfl),Z⟩))
theorem Wu (v1 v2:Value) (l1 l2:List bK) (A:AH) (hn:l1.length<=9223372036854775807) (V:bJ A 3 v1 (co l1)) (a0:bJ A 3 v2 (co l2)):bH prog 61 #[v1,v2] A (fun v A1=>v=.bool (decide (l1=l2))/\A=A1):=by
 refine bi (e:=[(0,v1),(1,v2)]) (args:=[v1,v2]) call61 func61 Z results61 ntmps61 Z Z Z (fun wf=>?_);have D:=AH.le.refl A;refine ak.sq fun h2=>.region<|.I Z<|.nil<|h2<|.sq fun h4=>.sq fun h6=>.region<|.J Z<|.p (bE (n:=l1.length) oq Z (V.le D) O (dR _)) ?_;refine Ops.J Z<|.p (bE (n:=l2.length) oq Z (a0.le D) O (dR _))<|.p (eB Z Z)<|.nil<|h6<|.if rfl (fun p7=>?_) (fun p7=>?_)
 ·refine ak.sq fun h9=>.region<|.I Z<|.nil<|h9<|.rt (by exact aH Z (⟨by (rw [Xv (fun q=>by have:=Xk List.length q;omega)];rfl),Z⟩))
 refine ak.skip<|h4<|.sq fun a7=>.sq fun a8=>.region<|.J Z<|.p (bE (n:=l1.length) oq Z (V.le D) O (dR _))<|.J Z<|.nil<|a8 ?_;refine ak.block<|.loop (X:=Nat) (fun k=>[(0,v1),(1,v2),(12,num ((l1.length:Nat):Int)),(13,num ((k:Nat):Int))]) (fun k B=>(k<=l1.length/\l1.length=l2.length/\∀ j,j < k->l1.getD j .zero=l2.getD j .zero)/\A=B) (fun k=>l1.length - k) 0 (jC Z Z Z Z) (⟨⟨XK _,by omega,fun j h=>by omega⟩,Z⟩) ?_;rintro k B15 ⟨⟨hk,hl,hq⟩,rfl⟩;refine ak.sq fun a9=>.region<|.p (ca Z Z)<|.nil<|a9<|.sq fun aa=>.if rfl (fun av=>?_) (fun av=>?_)
 ·refine ak.skip<|aa<|.sq fun ab=>.block<|.sq fun ac=>.region<|.J Z<|.I Z<|.nil<|ac ?_;refine ak.sq fun ad=>.drawn [0,1,2,3,4,5,6,7,8] mixed Y Y Z<|.p Z (aN Z)<|.p Z (aN Z) ?_;obtain ⟨aF,aI,aD,aY,aB,aT,aR,a3,ap,a5,a1,az⟩:=bJ.at (i:=k) (V.le D) Or O;refine bn.p Z (au oq jb Z a3 Z ap)<|.p Z (am zy jb Z Z a5 (a1.trans (Xk some (i3 O))))<|.p Z (aN Z)<|.p Z (aN Z) ?_;obtain ⟨aG,aP,aE,aZ,aC,aV,aS,a4,ar,a6,a2,aA⟩:=bJ.at (i:=k) (a0.le D) Or O;refine bn.p Z (au oq jb Z a4 Z ar)<|.p Z (am zy jb Z Z a6 (a2.trans (Xk some (i3 O))))<|.p Z ((qnev Z Z (fun _ _ q=>by cases q) (fun _ q=>by cases q) (eqc ((l1.getD k .zero)) ((l2.getD k .zero)))).trans (Xk (fun z=>some (Value.bool z,[])) (decide_not (p:=(l1.getD k .zero)=(l2.getD k .zero))).symm))<|.done<|ad<|.if rfl (fun ay=>?_) (fun ay=>?_)
  ·refine ak.sq fun ag=>.region<|.I Z<|.nil<|ag<|.rt (by exact aH Z (⟨by (rw [Xv (CY (i:=k) ‹_›)];rfl),Z⟩))
  refine ak.skip<|ab<|.region<|.p (bF (b:=1) Z Z O)<|.J Z<|.nil ?_;exact ⟨k + 1,jC Z Z Z Z,Z,⟨⟨by omega,hl,fun j h=>(XW.1 h).elim (hq j) (fun z=>by subst z;exact Decidable.not_not.1 ‹_›)⟩,Z⟩,O1⟩
 refine ak.exit<|a7<|.sq fun ai=>.region<|.I Z<|.nil<|ai<|.rt (by exact aH Z (⟨by (rw [XJ (sk hl O hq)];rfl),Z⟩))
theorem Wo (v1 v2:Value) (l1 l2:List W8) (A:AH) (hn:l1.length<=9223372036854775807) (V:bJ A 1 v1 (dN l1)) (a0:bJ A 1 v2 (dN l2)):bH prog 56 #[v1,v2] A (fun v A1=>v=.bool (decide (l1=l2))/\A=A1):=by
 refine bi (e:=[(0,v1),(1,v2)]) (args:=[v1,v2]) call56 func56 Z results56 ntmps56 Z Z Z (fun wf=>?_);have D:=AH.le.refl A;refine ak.sq fun h2=>.region<|.I Z<|.nil<|h2<|.sq fun h4=>.sq fun h6=>.region<|.J Z<|.p (bE (n:=l1.length) mp Z (V.le D) O (eP _)) ?_;refine Ops.J Z<|.p (bE (n:=l2.length) mp Z (a0.le D) O (eP _))<|.p (eB Z Z)<|.nil<|h6<|.if rfl (fun p7=>?_) (fun p7=>?_)
 ·refine ak.sq fun h9=>.region<|.I Z<|.nil<|h9<|.rt (by exact aH Z (⟨by (rw [Xv (fun q=>by have:=Xk List.length q;omega)];rfl),Z⟩))
 refine ak.skip<|h4<|.sq fun a7=>.sq fun a8=>.region<|.J Z<|.p (bE (n:=l1.length) mp Z (V.le D) O (eP _))<|.J Z<|.nil<|a8 ?_;refine ak.block<|.loop (X:=Nat) (fun k=>[(0,v1),(1,v2),(12,num ((l1.length:Nat):Int)),(13,num ((k:Nat):Int))]) (fun k B=>(k<=l1.length/\l1.length=l2.length/\∀ j,j < k->l1.getD j []=l2.getD j [])/\A=B) (fun k=>l1.length - k) 0 (jC Z Z Z Z) (⟨⟨XK _,by omega,fun j h=>by omega⟩,Z⟩) ?_;rintro k B15 ⟨⟨hk,hl,hq⟩,rfl⟩;refine ak.sq fun a9=>.region<|.p (ca Z Z)<|.nil<|a9<|.sq fun aa=>.if rfl (fun av=>?_) (fun av=>?_)
 ·refine ak.skip<|aa<|.sq fun ab=>.block<|.sq fun ac=>.region<|.J Z<|.I Z<|.nil<|ac ?_;refine ak.sq fun ad=>.drawn [0,1,2,3,4,5,6,7,8] mixed Y Y Z<|.p Z (aN Z)<|.p Z (aN Z) ?_;obtain ⟨aF,aI,aD,aY,aB,aT,aR,a3,ap,a5,az,a1⟩:=bJ.at (i:=k) (V.le D) Oj O;refine bn.p Z (au mp ek Z a3 Z ap)<|.p Z (ah eJ Z Z a5 ((dt a1).trans (fz O)))<|.p Z (aN Z)<|.p Z (aN Z) ?_;obtain ⟨aG,aP,aE,aZ,aC,aV,aS,a4,ar,a6,aA,a2⟩:=bJ.at (i:=k) (a0.le D) Oj O;refine bn.p Z (au mp ek Z a4 Z ar)<|.p Z (ah eJ Z Z a6 ((dt a2).trans (fz O)))<|.p Z (nh Z Z)<|.done<|ad<|.if rfl (fun ay=>?_) (fun ay=>?_)
  ·refine ak.sq fun ag=>.region<|.I Z<|.nil<|ag<|.rt (by exact aH Z (⟨by (rw [Xv (CY (i:=k) ‹_›)];rfl),Z⟩))
  refine ak.skip<|ab<|.region<|.p (bF (b:=1) Z Z O)<|.J Z<|.nil ?_;exact ⟨k + 1,jC Z Z Z Z,Z,⟨⟨by omega,hl,fun j h=>(XW.1 h).elim (hq j) (fun z=>by subst z;exact Decidable.not_not.1 ‹_›)⟩,Z⟩,O1⟩
 refine ak.exit<|a7<|.sq fun ai=>.region<|.I Z<|.nil<|ai<|.rt (by exact aH Z (⟨by (rw [XJ (sk hl O hq)];rfl),Z⟩))
theorem aag (r s:an) (A:AH) (hn:r.proof.length<=9223372036854775807) (a4:bJ A 3 r.pv (co r.proof)) (a5:bJ A 3 s.pv (co s.proof)):bH prog 54 #[.agg #[ax (r.left),ax (r.right),r.pv],.agg #[ax (s.left),ax (s.right),s.pv]] A (fun v A1=>v=.bool (decide (io true r=io true s))/\A.le A1/\A1.wf):=by
 refine bi (e:=[(0,.agg #[ax (r.left),ax (r.right),r.pv]),(1,.agg #[ax (s.left),ax (s.right),s.pv])]) (args:=[.agg #[ax (r.left),ax (r.right),r.pv],.agg #[ax (s.left),ax (s.right),s.pv]]) call54 func54 Z results54 ntmps54 Z Z Z (fun wf=>?_);have a6:=AH.le.refl A;refine ak.sq fun h2=>.region<|.m (fun a2=>d8 wf rfl rfl fun A5 b4 a0=>?_);refine a2<|.m (fun a3=>d8 a0.wf rfl rfl fun A10 b9 h=>?_);have V:=h.le.g a0.get;have D:=(a6.trans a0.le).trans h.le;refine a3<|.I Z<|.nil<|h2<|.sq fun X=>.region<|.p (ae ew ek U Z)<|.p (ah eJ Z Z V Z)<|.p (ae ew ek U Z)<|.p (ah eJ Z Z h.get Z) ?_;refine Ops.p (ng Z Z)<|.J Z<|.part (t:=10) Z (fun a7=>?_) (fun a7=>?_)
 ·refine Ops.on Z Z<|.p (ae jw ek U Z)<|.on Z Z<|.p (ah eJ Z Z V Z)<|.on Z Z<|.p (ae jw ek U Z)<|.on Z Z<|.p (ah eJ Z Z h.get Z)<|.on Z Z<|.p (ng Z Z) ?_;refine Ops.p (aL Z Z)<|.J Z<|.part (t:=17) Z (fun a8=>?_) (fun a8=>?_)
  ·refine Ops.on Z Z<|.p (ae mg mn U Z)<|.on Z Z<|.p (ah pK Z Z V Z)<|.on Z Z<|.p (ae mg mn U Z)<|.on Z Z<|.p (ah pK Z Z h.get Z)<|.on Z Z<|.m (fun a1=>aq Z (Wk r.pv s.pv r.proof s.proof A10 hn (a4.le D) (a5.le D)) ?_);rintro a9 A20 ⟨rfl,rfl⟩;refine a1<|.p (aL Z Z)<|.I Z<|.nil<|X<|.rt (by exact aH Z (⟨by simp_all [ej,io],D,h.wf⟩))
  refine Ops.off Z Z Z Z<|.off Z Z Z Z<|.off Z Z Z Z<|.off Z Z Z Z<|.off Z Z Z Z<|.p (bh Z Z)<|.I Z<|.nil<|X<|.rt (by exact aH Z (⟨by simp_all [ej,io],D,h.wf⟩))
 refine Ops.off Z Z Z Z<|.off Z Z Z Z<|.off Z Z Z Z<|.off Z Z Z Z<|.off Z Z Z Z<|.p (bh Z Z)<|.J Z<|.off Z Z Z Z<|.off Z Z Z Z<|.off Z Z Z Z ?_;refine Ops.off Z Z Z Z<|.off Z Z Z Z<|.p (bh Z Z)<|.I Z<|.nil<|X<|.rt (by exact aH Z (⟨by simp_all [ej,io],D,h.wf⟩))
theorem Wn (v1 v2:Value) (rs ss:List an) (A:AH) (hn:rs.length<=9223372036854775807) (hpn:∀ r ∈ rs,r.proof.length<=9223372036854775807) (a6:bJ A 3 v1 (cd rs)) (ad:bJ A 3 v2 (cd ss)) (ab:Proofs A rs) (ac:Proofs A ss):bH prog 57 #[v1,v2,.func (.func 54) #[] #[]] A (fun v A1=>v=.bool (fH true rs ss)/\A.le A1/\A1.wf):=by
 refine bi (e:=[(0,v1),(1,v2),(2,.func (.func 54) #[] #[])]) (args:=[v1,v2,.func (.func 54) #[] #[]]) call57 func57 Z results57 ntmps57 Z Z Z (fun wf=>?_);have a3:=AH.le.refl A;refine ak.sq fun h2=>.region<|.I Z<|.nil<|h2<|.sq fun h4=>.sq fun h6=>.region<|.J Z<|.p (bE (n:=rs.length) i4 Z (a6.le a3) O (cL _)) ?_;refine Ops.J Z<|.p (bE (n:=ss.length) i4 Z (ad.le a3) O (cL _))<|.p (eB Z Z)<|.nil<|h6<|.if rfl (fun p7=>?_) (fun p7=>?_)
 ·refine ak.sq fun h9=>.region<|.I Z<|.nil<|h9<|.rt (by exact aH Z (⟨by (rw [Bz ‹_›];rfl),a3,wf⟩))
 refine ak.skip<|h4<|.sq fun aE=>.sq fun aF=>.region<|.J Z<|.p (bE (n:=rs.length) i4 Z (a6.le a3) O (cL _))<|.J Z<|.nil<|aF ?_;refine ak.block<|.loop (X:=Nat) (fun k=>[(1,v2),(2,.func (.func 54) #[] #[]),(15,v1),(16,num ((rs.length:Nat):Int)),(17,num ((k:Nat):Int))]) (fun k B=>(k<=rs.length/\rs.length=ss.length/\∀ j,j < k->io true (rs.getD j .zero)=io true (ss.getD j .zero))/\A.le B) (fun k=>rs.length - k) 0 (sY Z Z Z Z Z) (⟨⟨XK _,by omega,fun j h=>by omega⟩,a3⟩) ?_;rintro k B15 ⟨⟨hk,hl,hq⟩,a0⟩;refine ak.wf fun a8=>.sq fun aG=>.region<|.p (ca Z Z)<|.nil<|aG<|.sq fun aI=>.if rfl (fun b1=>?_) (fun b1=>?_)
 ·refine ak.skip<|aI<|.sq fun aP=>.block<|.sq fun aR=>.region<|.J Z ?_;obtain ⟨ba,bl,b8,bA,b6,bu,bp,aA,aZ,aC,ag,b3⟩:=bJ.at (i:=k) (a6.le a0) O3 O;refine Ops.p (au i4 eE Z aA Z aZ)<|.p (am uo eE Z Z aC (ag.trans (Xk some (iI O))))<|.m (fun ap=>bZ a8 wJ rfl fun A29 bb a1=>?_);refine ap<|.I Z<|.m (fun ar=>aW (cs:=[ax ((rs.getD k .zero).left),ax ((rs.getD k .zero).right),(rs.getD k .zero).pv]) (c':=[ax ((rs.getD k .zero).left),ax ((rs.getD k .zero).right),(rs.getD k .zero).pv]) a1.wf rfl rfl rfl rfl eE a1.get G (jm (ab.get O)) rfl fun A33 V=>?_);have a4:=al (a0.trans a1.le) wf (aX wf (Xj a0.n a1.lo)) V.n V.keep;refine ar<|.nil<|aR<|.sq fun aS=>.region<|.J Z<|.J Z ?_;obtain ⟨bc,bm,b9,bB,b7,bv,br,aB,b0,aD,ai,b5⟩:=bJ.at (i:=k) (ad.le a4) O3 O;refine Ops.p (au i4 eE Z aB Z b0)<|.p (am uo eE Z Z aD (ai.trans (Xk some (iI O))))<|.m (fun av=>bZ V.wf wJ rfl fun A41 bd D=>?_);refine av<|.m (fun ay=>aW (cs:=[ax ((ss.getD k .zero).left),ax ((ss.getD k .zero).right),(ss.getD k .zero).pv]) (c':=[ax ((ss.getD k .zero).left),ax ((ss.getD k .zero).right),(ss.getD k .zero).pv]) D.wf rfl rfl rfl rfl eE D.get G (jm (ac.get O)) rfl fun A46 a2=>?_);have a5:=al (a4.trans D.le) wf (aX wf (Xj a4.n D.lo)) a2.n a2.keep;refine ay<|.nil<|aS<|.sq fun aT=>.region<|.J Z<|.p (am uo eE Z Z (a2.k (ne_new V.wf V.get D.lo) (D.le.g V.get)) Z)<|.p (am uo eE Z Z a2.get Z)<|.m (fun az=>qJ Z Z (aag ((rs.getD k .zero)) ((ss.getD k .zero)) A46 (hpn _ (bj (d:=an.zero) O)) ((ab.get O).le a5) ((ac.get O).le a5)) ?_);rintro bC A56 ⟨rfl,a9,aa⟩;have a7:=a5.trans a9;refine az<|.p (kI Z)<|.nil<|aT<|.if rfl (fun b2=>?_) (fun b2=>?_)
  ·refine ak.sq fun aV=>.region<|.I Z<|.nil<|aV<|.rt (by exact aH Z (⟨by (rw [va (i:=k) hl O ‹_›];rfl),a7,aa⟩))
  refine ak.skip<|aP<|.region<|.p (bF (b:=1) Z Z O)<|.J Z<|.nil ?_;exact ⟨k + 1,sY Z Z Z Z Z,Z,⟨⟨by omega,hl,fun j h=>(XW.1 h).elim (hq j) (fun z=>by subst z;exact Decidable.not_not.1 ‹_›)⟩,a7⟩,O1⟩
 refine ak.exit<|aE<|.sq fun aY=>.region<|.I Z<|.nil<|aY<|.rt (by exact aH Z (⟨by (rw [BE hl O hq];rfl),a0,a8⟩))
theorem s_Same (g1:Int) (u1:Value) (l1:List W8) (V:Value) (rs:List an) (g2:Int) (u2:Value) (l2:List W8) (X:Value) (ss:List an) (A:AH) (ay:l1.length<=1000000) (az:l2.length<=1000000) (hn:rs.length<=1000000) (hpn:∀ r ∈ rs,r.proof.length<=1000000000) (ag:bJ A 1 u1 (dN l1)) (ac:bJ A 3 V (cd rs)) (aa:Proofs A rs) (ai:bJ A 1 u2 (dN l2)) (ad:bJ A 3 X (cd ss)) (ab:Proofs A ss):bH prog 18 #[.agg #[num (g1),u1,V],.agg #[num (g2),u2,X]] A (fun v A1=>v=.bool (decide (g1=g2) && decide (l1=l2) && fH true rs ss)/\A.le A1/\A1.wf):=by
 refine bi (e:=[(0,.agg #[num (g1),u1,V]),(1,.agg #[num (g2),u2,X])]) (args:=[.agg #[num (g1),u1,V],.agg #[num (g2),u2,X]]) call18 func18 Z results18 ntmps18 Z Z Z (fun wf=>?_);have ap:=AH.le.refl A;refine ak.sq fun h2=>.region<|.m (fun a8=>d8 wf rfl rfl fun A5 b4 a2=>?_);refine a8<|.m (fun a9=>d8 a2.wf rfl rfl fun A10 b9 D=>?_);have a0:=D.le.g a2.get;have h:=(ap.trans a2.le).trans D.le;refine a9<|.I Z<|.nil<|h2<|.sq fun a7=>.region<|.I Z<|.nil<|a7<|.sq fun a1=>?_;refine ak.region<|.p (ae gi ik U Z)<|.p (ae gh dH U Z)<|.p (ah fA Z Z a0 Z)<|.p (ae gi ik U Z)<|.p (ae gh dH U Z)<|.p (ah fA Z Z D.get Z)<|.p (ZK Z Z)<|.J Z<|.part (t:=13) Z (fun ar=>?_) (fun ar=>?_)
 ·refine Ops.on Z Z<|.p (ae gi ik U Z)<|.on Z Z<|.p (ae gv mH U Z)<|.on Z Z<|.p (ah mr Z Z a0 Z)<|.on Z Z<|.p (ae gi ik U Z)<|.on Z Z<|.p (ae gv mH U Z) ?_;refine Ops.on Z Z<|.p (ah mr Z Z D.get Z)<|.on Z Z<|.m (fun a5=>aq Z (Wo u1 u2 l1 l2 A10 O (ag.le h) (ai.le h)) ?_);rintro aA A21 ⟨rfl,rfl⟩;refine a5<|.p (aL Z Z)<|.J Z<|.part (t:=22) Z (fun av=>?_) (fun av=>?_)
  ·refine Ops.on Z Z<|.p (ae cW fp U Z)<|.on Z Z<|.p (ah ga Z Z a0 Z)<|.on Z Z<|.p (ae cW fp U Z)<|.on Z Z<|.p (ah ga Z Z D.get Z)<|.on Z Z<|.J Z ?_;refine Ops.on Z Z<|.m (fun a6=>aq Z (Wn V X rs ss A10 O (fun r q=>by have:=hpn r q;omega) (ac.le h) (ad.le h) (aa.le h) (ab.le h)) ?_);rintro aB A26 ⟨rfl,a3,a4⟩;refine a6<|.p (aL Z Z)<|.I Z<|.nil<|a1<|.rt (by exact aH Z (⟨by simp_all [ej],(h.trans a3),a4⟩))
  refine Ops.off Z Z Z Z<|.off Z Z Z Z<|.off Z Z Z Z<|.off Z Z Z Z<|.off Z Z Z Z<|.off Z Z Z Z<|.p (bh Z Z)<|.I Z<|.nil<|a1 ?_;refine ak.ret ?_;repeat first | with_reducible refine cR ?_ | with_reducible refine cr ?_
  exact aH Z (⟨by simp_all [ej],h,D.wf⟩)
 refine Ops.off Z Z Z Z<|.off Z Z Z Z<|.off Z Z Z Z<|.off Z Z Z Z<|.off Z Z Z Z<|.off Z Z Z Z<|.off Z Z Z Z<|.p (bh Z Z)<|.J Z<|.off Z Z Z Z ?_;refine Ops.off Z Z Z Z<|.off Z Z Z Z<|.off Z Z Z Z<|.off Z Z Z Z<|.off Z Z Z Z<|.p (bh Z Z)<|.I Z<|.nil<|a1<|.rt (by exact aH Z (⟨by simp_all [ej],h,D.wf⟩))
theorem oh (v1 v2:Value) (rs ss:List an) (pf:Bool) (A:AH) (hn:rs.length<=9223372036854775807) (hpn:∀ r ∈ rs,r.proof.length<=9223372036854775807) (a0:bJ A 3 v1 (cd rs)) (a2:bJ A 3 v2 (cd ss)) (aT:Proofs A rs) (aV:Proofs A ss):bH prog 40 #[v1,v2,.bool (pf)] A (fun v A1=>v=.bool (fH pf rs ss)/\A.le A1/\A1.wf):=by
 refine bi (e:=[(0,v1),(1,v2),(2,.bool (pf))]) (args:=[v1,v2,.bool (pf)]) call40 func40 Z results40 ntmps40 Z Z Z (fun wf=>?_);have a3:=AH.le.refl A;refine ak.sq fun h2=>.region<|.I Z<|.nil<|h2<|.sq fun h4=>.sq fun h6=>.region<|.J Z<|.p (bE (n:=rs.length) i4 Z (a0.le a3) O (cL _)) ?_;refine Ops.J Z<|.p (bE (n:=ss.length) i4 Z (a2.le a3) O (cL _))<|.p (eB Z Z)<|.nil<|h6<|.if rfl (fun p7=>?_) (fun p7=>?_)
 ·refine ak.sq fun h9=>.region<|.I Z<|.nil<|h9<|.rt (by exact aH Z (⟨by (rw [Bz ‹_›];rfl),a3,wf⟩))
 refine ak.skip<|h4<|.sq fun aD=>.sq fun aE=>.region<|.I Z<|.nil<|aE<|.block<|.loop (X:=Nat) (fun k=>[(0,v1),(1,v2),(2,.bool (pf)),(7,num ((k:Nat):Int))]) (fun k B=>(k<=rs.length/\rs.length=ss.length/\∀ j,j < k->io pf (rs.getD j .zero)=io pf (ss.getD j .zero))/\A.le B) (fun k=>rs.length - k) 0 (jC Z Z Z Z) (⟨⟨XK _,by omega,fun j h=>by omega⟩,a3⟩) ?_;rintro k B15 ⟨⟨hk,hl,hq⟩,D⟩;refine ak.wf fun V=>.sq fun aF=>.sq fun aG=>.region<|.J Z<|.J Z<|.p (bE (n:=rs.length) i4 Z (a0.le D) O (cL _))<|.p (ca Z Z)<|.nil<|aG ?_;refine ak.if rfl (fun b5=>?_) (fun b5=>?_)
 ·refine ak.skip<|aF<|.sq fun a4=>.block<|.sq fun a1=>.drawn [0,1,2,3,4,5,6,7,8,9,10,11,12,13,14,15,16,17,18,19,20,21,22,23,24,25,26,27,28,29,30,31,32,33,34,35,36,37,38,39,40] mixed Y Y Z<|.p Z (aN Z)<|.p Z (aN Z) ?_;obtain ⟨bR,c3,bC,cU,bp,cC,ch,ac,aY,av,ba,a5⟩:=bJ.at (i:=k) (a0.le D) O3 O;refine bn.p Z (au i4 eE Z ac Z aY)<|.p Z (ae ew ek U Z)<|.p Z (ah eJ Z Z av ((a5 0 U).trans (jK O)))<|.p Z (aN Z)<|.p Z (aN Z) ?_;obtain ⟨bS,c4,bD,cV,br,cF,ck,ad,aZ,ay,bb,a6⟩:=bJ.at (i:=k) (a2.le D) O3 O;refine bn.p Z (au i4 eE Z ad Z aZ)<|.p Z (ae ew ek U Z)<|.p Z (ah eJ Z Z ay ((a6 0 U).trans (jK O)))<|.p Z (nh Z Z)<|.p Z (aN Z)<|.part (t:=30) Z (fun b6=>?_) (fun b6=>?_)
  ·refine bn.qOff Z Z Z Z Z Z<|.qOff Z Z Z Z Z Z<|.qOff Z Z Z Z Z Z<|.qOff Z Z Z Z Z Z<|.qOff Z Z Z Z Z Z<|.qOff Z Z Z Z Z Z<|.qOff Z Z Z Z Z Z<|.qOff Z Z Z Z Z Z<|.qOff Z Z Z Z Z Z<|.qOff Z Z Z Z Z Z ?_;refine bn.qOff Z Z Z Z Z Z<|.p Z (aL Z Z)<|.p Z (aN Z)<|.qOff Z Z Z Z Z Z<|.qOff Z Z Z Z Z Z<|.qUnd Z Z Z Z Z<|.qUnd Z Z Z Z Z<|.qUnd Z Z Z Z Z<|.qUnd Z Z Z Z Z<|.qUnd Z Z Z Z Z ?_;refine bn.qUnd Z Z Z Z Z<|.qUnd Z Z Z Z Z<|.qUnd Z Z Z Z Z<|.qUnd Z Z Z Z Z<|.qUnd Z Z Z Z Z<|.lUnd Z Z Z Z Z<|.qUnd Z Z Z Z Z<|.qOff Z Z Z Z Z Z<|.p Z (aL Z Z)<|.done ?_;refine a1<|.cond_true Z<|.sq fun aI=>.region<|.I Z<|.nil<|aI<|.rt (by exact aH Z (⟨by (rw [va (i:=k) hl O (by simp_all [io])];rfl),D,V⟩))
  refine bn.qOn Z Z Z Z Z (aN Z)<|.qOn Z Z Z Z Z (aN Z) ?_;obtain ⟨bT,c7,bL,cX,bu,cH,cu,ag,b0,az,bc,a7⟩:=bJ.at (i:=k) (a0.le D) O3 O;refine bn.qOn Z Z Z Z Z (au i4 eE Z ag Z b0)<|.qOn Z Z Z Z Z (ae jw ek U Z)<|.qOn Z Z Z Z Z (ah eJ Z Z az ((a7 1 U).trans (yK O)))<|.qOn Z Z Z Z Z (aN Z)<|.qOn Z Z Z Z Z (aN Z) ?_;obtain ⟨bU,cb,bM,cZ,bv,cK,cv,ai,b1,aA,bd,a8⟩:=bJ.at (i:=k) (a2.le D) O3 O;refine bn.qOn Z Z Z Z Z (au i4 eE Z ai Z b1)<|.qOn Z Z Z Z Z (ae jw ek U Z)<|.qOn Z Z Z Z Z (ah eJ Z Z aA ((a8 1 U).trans (yK O)))<|.qOn Z Z Z Z Z (nh Z Z)<|.p Z (bh Z Z)<|.p Z (aN Z)<|.part (t:=43) Z (fun b7=>?_) (fun b7=>?_)
  ·refine bn.qOff Z Z Z Z Z Z<|.qOff Z Z Z Z Z Z<|.qUnd Z Z Z Z Z<|.qUnd Z Z Z Z Z<|.qUnd Z Z Z Z Z<|.qUnd Z Z Z Z Z<|.qUnd Z Z Z Z Z<|.qUnd Z Z Z Z Z<|.qUnd Z Z Z Z Z<|.qUnd Z Z Z Z Z ?_;refine bn.qUnd Z Z Z Z Z<|.qUnd Z Z Z Z Z<|.lUnd Z Z Z Z Z<|.qUnd Z Z Z Z Z<|.qOff Z Z Z Z Z Z<|.p Z (aL Z Z)<|.done<|a1<|.cond_true Z<|.sq fun aP=>?_;refine ak.region<|.I Z<|.nil<|aP<|.rt (by exact aH Z (⟨by (rw [va (i:=k) hl O (by simp_all [io])];rfl),D,V⟩))
  refine bn.qOn Z Z Z Z Z (aN Z)<|.qOn Z Z Z Z Z (aN Z)<|.partB (t:=45) Z (fun b8=>?_) (fun b8=>?_)
  ·refine bn.qOn Z Z Z Z Z (aN Z)<|.qOn Z Z Z Z Z (aN Z) ?_;obtain ⟨bV,cc,bO,d0,bA,cP,cA,ap,b2,aB,bl,a9⟩:=bJ.at (i:=k) (a0.le D) O3 O;refine bn.qOn Z Z Z Z Z (au i4 eE Z ap Z b2)<|.qOn Z Z Z Z Z (ae mg mn U Z)<|.qOn Z Z Z Z Z (ah pK Z Z aB ((a9 2 U).trans (Ik O)))<|.qOn Z Z Z Z Z (aN Z)<|.qOn Z Z Z Z Z (aN Z) ?_;obtain ⟨bY,cf,bP,d1,bB,cS,cB,ar,b3,aC,bm,aa⟩:=bJ.at (i:=k) (a2.le D) O3 O;refine bn.qOn Z Z Z Z Z (au i4 eE Z ar Z b3)<|.qOn Z Z Z Z Z (ae mg mn U Z)<|.qOn Z Z Z Z Z (ah pK Z Z aC ((aa 2 U).trans (Ik O)))<|.lOn Z Z Z Z Z (fun _ _ ab _=>aq Z (Wu ((rs.getD k .zero).pv) ((ss.getD k .zero).pv) ((rs.getD k .zero).proof) ((ss.getD k .zero).proof) B15 (hpn _ (bj (d:=an.zero) O)) ((aT.get O).le D) ((aV.get O).le D)) ?_);rintro d2 A49 ⟨rfl,rfl⟩;refine ab _ _ (aU.none Y)<|.qOn Z Z Z Z Z (kI Z)<|.qOn Z Z Z Z Z (aL Z Z)<|.p Z (bh Z Z)<|.done<|a1<|.if rfl (fun b9=>?_) (fun b9=>?_)
   ·refine ak.sq fun aR=>.region<|.I Z<|.nil<|aR<|.rt (by exact aH Z (⟨by (rw [va (i:=k) hl O (by simp_all [io])];rfl),D,V⟩))
   refine ak.skip<|a4<|.region<|.J Z<|.p (bF (b:=1) Z Z O)<|.I Z<|.nil ?_;exact ⟨k + 1,jC Z Z Z Z,Z,⟨⟨by omega,hl,fun j h=>(XW.1 h).elim (hq j) (fun z=>by subst z;simp_all [io])⟩,D⟩,O1⟩
  refine bn.qOff Z Z Z Z Z Z<|.qOff Z Z Z Z Z Z<|.qOff Z Z Z Z Z Z<|.qOff Z Z Z Z Z Z<|.qOff Z Z Z Z Z Z<|.qOff Z Z Z Z Z Z<|.qOff Z Z Z Z Z Z<|.qOff Z Z Z Z Z Z<|.qOff Z Z Z Z Z Z<|.qOff Z Z Z Z Z Z ?_;refine bn.lOff Z Z Z Z Z Z<|.qOff Z Z Z Z Z Z<|.qOn Z Z Z Z Z (bh Z Z)<|.p Z (bh Z Z)<|.done<|a1<|.cond_false Z<|.skip<|a4<|.region ?_;refine Ops.J Z<|.p (bF (b:=1) Z Z O)<|.I Z<|.nil ?_;exact ⟨k + 1,jC Z Z Z Z,Z,⟨⟨by omega,hl,fun j h=>(XW.1 h).elim (hq j) (fun z=>by subst z;simp_all [io])⟩,D⟩,O1⟩
 refine ak.exit<|aD<|.sq fun aS=>.region<|.I Z<|.nil<|aS<|.rt (by exact aH Z (⟨by (rw [BE hl O hq];rfl),D,V⟩))
theorem V.Fresh.sep0 {A B:AH} {v u:Value} {size s2:Nat} {xs ys:List Value} (h:Fresh A B v size xs) (hu:qW A u s2 ys):bx v u:=fun c hv hc=>by
  obtain ⟨x,hx⟩:=hu.blkget hc
  have:=h.lo c hv
  rw [hx] at this;cases this
def DF (p:W8) (d:List bK):Bool:=d.all fun c=>decide (p.length + c.conj.length<=100000)
def qE (p:W8) (c:bK):bK:=⟨cq (p ++ c.conj),c.rel,c.inv⟩
def iM (p:W8) (d:List bK):List bK:=if DF p d then d.map (qE p) else []
theorem JV {p:W8} {d:List bK} {i:Nat} (hi:i < d.length) (h:100000 < p.length + (d.getD i .zero).conj.length):DF p d=false :=
  List.all_eq_false.2 ⟨_,bj (d:=.zero) hi,by simp only [Xw];omega⟩
theorem DH {p:W8} {d:List bK} {i:Nat} (hi:d.length<=i) (h:∀ j,j < i->p.length + (d.getD j .zero).conj.length<=100000):DF p d=true :=
  Vx.2 fun c hc=>by
    obtain ⟨j,hj,rfl⟩:=VQ hc
    have:=h j O
    simpa [hj] using this
theorem yq {p:W8} {d o:List bK} {i:Nat} (hi:i < d.length) (h:o=(d.take i).map (qE p)):o ++ [⟨cq (p ++ (d.getD i .zero).conj),(d.getD i .zero).rel,(d.getD i .zero).inv⟩]=(d.take (i + 1)).map (qE p):=by
  have e:d.getD i .zero=d[i]:=by simp [hi]
  rw [h,List.take_succ_eq_append_getElem hi,VJ,e];rfl
theorem Ax {p:W8} {d o:List bK} {i:Nat} (hi:d.length<=i) (h:o=(d.take i).map (qE p)) (hk:DF p d=true):o=iM p d:=by
  rw [h,iM,XX hk,VX hi]
theorem wu (p:W8) (d:List bK):(iM p d).length<=d.length:=by unfold iM;split <;> simp
theorem Gk {p:W8} {d:List bK} (h:DF p d=true):(iM p d).length=d.length:=by rw [iM,XX h];simp
theorem Zk {p:W8} {d:List bK} (h:DF p d=false):iM p d=[]:=by rw [iM,h];rfl
theorem Aw {p:W8} {d:List bK}:∀ c ∈ iM p d,c.conj.length<=100000:=fun c hc=>by
  unfold iM at hc
  split at hc
  · rename_i h
    obtain ⟨x,hx,rfl⟩:=Vj.1 hc
    have:=Vx.1 h x hx
    simp only [Xw] at this
    have h2:=nG (p ++ x.conj)
    simp only [Xx] at h2
    show (cq (p ++ x.conj)).length<=100000
    omega
  · cases hc
theorem pX (a b:List bK):dp (a ++ b)=dp a + dp b:=by simp [dp]
theorem tq (c:bK) (d:List bK):dp (c :: d)=c.conj.length + dp d:=by simp [dp]
theorem Fg {d:List bK} (h:∀ c ∈ d,c.conj.length<=100000):dp d<=100000 * d.length:=by
  induction d with
  | nil=>simp [dp]
  | cons a d ih =>
    rw [tq,Xq]
    have h1:=h a Vy
    have h2:=ih fun c hc=>h c (VZ _ hc)
    omega
structure Ja where
  word:W8
  steps:Nat
  disk:List bK
def Ja.zero:Ja:=⟨[],0,[]⟩
structure Jh where
  rest:W8
  stack:W8
  steps:Nat
  disk:List bK
  sum:Nat
abbrev kh (q:W8):UInt8:=q.getD (q.length - 1) 0
abbrev qF (q:W8):W8:=q.take (q.length - 1)
abbrev yk (k q:W8):Prop:=0 < k.length/\kh k=kh q ^^^ 32
abbrev rY (rs:List an) (k:W8):an:=rs.getD (bq rs k).toNat .zero
abbrev xY (rs:List an) (k:W8):W8:=k.take (k.length - (rY rs k).left.length)
abbrev Gt (rs:List an) (k:W8):List bK:=iM (xY rs k) (rY rs k).proof
def fits (rs:List an) (k:W8) (n:Nat) (d:List bK) (m:Nat):Prop :=
  DF (xY rs k) (rY rs k).proof=true/\n + 1<=20000/\d.length + (rY rs k).proof.length<=100000/\m + dp (Gt rs k)<=1000000
instance (rs:List an) (k:W8) (n:Nat) (d:List bK) (m:Nat):Decidable (fits rs k n d m):=by unfold fits;infer_instance
def te (rs:List an) (s:Jh):Option Jh :=
  if yk s.stack s.rest then some ⟨qF s.rest,qF s.stack,s.steps,s.disk,s.sum⟩
  else if bq rs (s.stack ++ [kh s.rest]) < 0 then some ⟨qF s.rest,s.stack ++ [kh s.rest],s.steps,s.disk,s.sum⟩
  else if fits rs (s.stack ++ [kh s.rest]) s.steps s.disk s.sum then
    some ⟨qF s.rest ++ (rY rs (s.stack ++ [kh s.rest])).right.reverse,xY rs (s.stack ++ [kh s.rest]),s.steps + 1,s.disk ++ Gt rs (s.stack ++ [kh s.rest]),s.sum + dp (Gt rs (s.stack ++ [kh s.rest]))⟩
  else none
def iG (rs:List an):Nat->Jh->Option Jh
  | 0,_=>none
  | f + 1,s=>if s.rest=[] then some s else match te rs s with | none=>none | some s'=>iG rs f s'
def uC:Nat:=2001000000
def start (w:W8):Jh:=⟨w.reverse,[],0,[],0⟩
def gT (rs:List an) (w:W8):Option Ja:=(iG rs uC (start w)).map fun s=>⟨s.stack,s.steps,s.disk⟩
section
variable {rs:List an} {f n m:Nat} {q k:W8} {d:List bK} {R:Option Jh}
theorem uR (hf:0 < f) (hq:q.length=0) (h:iG rs f ⟨q,k,n,d,m⟩=R):R=some ⟨q,k,n,d,m⟩:=by
  obtain ⟨f,rfl⟩:∃ g,f=g + 1:=⟨f - 1,by omega⟩
  rw [<- h,iG,XX (Vv.1 hq)]
theorem Ed (hf:0 < f) (hq:0 < q.length) (h:iG rs f ⟨q,k,n,d,m⟩=R) {s:Jh} (e:te rs ⟨q,k,n,d,m⟩=some s):iG rs (f - 1) s=R:=by
  obtain ⟨f,rfl⟩:∃ g,f=g + 1:=⟨f - 1,by omega⟩
  rw [<- h,iG,Xy (fun z=>by rw [show q=[] from z] at hq;exact absurd hq (by simp)),e];rfl
theorem MQ (hf:0 < f) (hq:0 < q.length) (h:iG rs f ⟨q,k,n,d,m⟩=R) (hc:yk k q):iG rs (f - 1) ⟨qF q,qF k,n,d,m⟩=R :=
  Ed hf hq h (by rw [te,XX hc])
theorem Iq (hf:0 < f) (hq:0 < q.length) (h:iG rs f ⟨q,k,n,d,m⟩=R) (hc:¬ yk k q) (hr:bq rs (k ++ [kh q]) < 0):iG rs (f - 1) ⟨qF q,k ++ [kh q],n,d,m⟩=R :=
  Ed hf hq h (by rw [te,Xy hc,XX hr])
theorem Iu (hf:0 < f) (hq:0 < q.length) (h:iG rs f ⟨q,k,n,d,m⟩=R) (hc:¬ yk k q) (hr:¬ bq rs (k ++ [kh q]) < 0) (hx:fits rs (k ++ [kh q]) n d m) :
    iG rs (f - 1) ⟨qF q ++ (rY rs (k ++ [kh q])).right.reverse,xY rs (k ++ [kh q]),n + 1,d ++ Gt rs (k ++ [kh q]),m + dp (Gt rs (k ++ [kh q]))⟩=R :=
  Ed hf hq h (by rw [te,Xy hc,Xy hr,XX hx])
theorem kz (hf:0 < f) (hq:0 < q.length) (h:iG rs f ⟨q,k,n,d,m⟩=R) (hc:¬ yk k q) (hr:¬ bq rs (k ++ [kh q]) < 0) (hx:¬ fits rs (k ++ [kh q]) n d m):R=none:=by
  obtain ⟨f,rfl⟩:∃ g,f=g + 1:=⟨f - 1,by omega⟩
  rw [<- h,iG,Xy (fun z=>by rw [show q=[] from z] at hq;exact absurd hq (by simp)),te,Xy hc,Xy hr,Xy hx]
theorem og {o:W8} (h:¬ bq rs o < 0):(bq rs o).toNat < rs.length/\gH o (rY rs o).left=true/\bq rs o=((bq rs o).toNat:Nat):=by
  unfold rY
  unfold bq at h ⊢
  split at h
  · rename_i i hi
    have h1:=VV.1 (List.mem_of_find?_eq_some hi)
    have h2:=List.find?_some hi
    exact ⟨by simpa using h1,by simpa using h2,by simp⟩
  · exact absurd O h
theorem Tp {o w:W8} (h:gH o w=true):w.length<=o.length:=by simp only [gH,Xw] at h;exact h.1
theorem SI {u v:W8} (h:fc u v < 0):u.length<=v.length:=by
  unfold fc at h
  split at h
  · split at h <;> omega
  · omega
theorem VP {g:Int} {l:List W8} {r:an} (h:gK g l r=true):r.right.length<=r.left.length:=by
  have:=(dx h).2.2.1
  unfold dr at this
  split at this
  · exact SI this
  · omega
theorem wv {g:Int} {w:W8} (h:jB g w=true):uk w:=kX (fun q=>q (ii h))
theorem ns {g:Int} {l:List W8} {r:an} (hs:bI g l rs=true) (hr:r ∈ rs):r.right.length<=r.left.length/\r.left.length<=1000/\r.proof.length<=100000/\dp r.proof<=1000000/\uk r.right/\uk r.left:=by
  have h:=(cT hs).2.2.1 r hr
  have h2:=dx h
  have h3:iC g l r.proof (r.left ++ eb r.right)=0:=h2.2.2.2
  unfold iC at h3
  split at h3
  · exact absurd h3 ‹_›
  · rename_i hc
    have:=m7 (je hc).2.2
    exact ⟨VP h,jp h2.1,this.1,this.2,wv h2.2.1,wv h2.1⟩
theorem yu {w:W8} (h:uk w) (n:Nat):uk (w.take n):=fun c hc=>h c (SY hc)
theorem ww {w:W8} (h:uk w):uk w.reverse:=fun c hc=>h c (List.mem_reverse.1 hc)
theorem okl_top {w:W8} (h:uk w) (hw:0 < w.length):0<=ix (kh w):=h _ (bj O)
theorem uK {o:W8} (h:¬ bq rs o < 0):rY rs o ∈ rs:=bj (og h).1
theorem Ij {g:Int} {l:List W8} {o:W8} (hs:bI g l rs=true) (h:¬ bq rs o < 0):(bq rs o).toNat < rs.length/\(rs.getD (bq rs o).toNat .zero).left.length<=o.length/\(rs.getD (bq rs o).toNat .zero).right.length<=(rs.getD (bq rs o).toNat .zero).left.length/\(rs.getD (bq rs o).toNat .zero).left.length<=1000/\(rs.getD (bq rs o).toNat .zero).proof.length<=100000/\dp (rs.getD (bq rs o).toNat .zero).proof<=1000000/\0<=bq rs o:=by
  have h1:=og h
  have h2:=ns hs (uK h)
  exact ⟨h1.1,Tp h1.2.1,h2.1,h2.2.1,h2.2.2.1,h2.2.2.2.1,by omega⟩
theorem Zq {q:W8} (h:uk q) (hq:0 < q.length):0<=ix (q.getD (q.length - 1) 0):=h _ (bj O)
theorem Vc {g:Int} {l:List W8} {q o:W8} (hs:bI g l rs=true) (hq:uk q) (h:¬ bq rs o < 0):uk (q.take (q.length - 1) ++ (rs.getD (bq rs o).toNat .zero).right.reverse) :=
  JW (yu hq _) (ww (ns hs (uK h)).2.2.2.2.1)
theorem UX (q r:W8) (hq:0 < q.length):(q.take (q.length - 1) ++ r.reverse).length=q.length - 1 + r.length:=by simp
theorem Gu {q k K r:W8} {W n:Nat} (h:q.length + k.length<=W) (hK:K.length=k.length + 1) (hr:r.length<=n) (hn:n<=K.length) (hq:0 < q.length):(q.take (q.length - 1) ++ r.reverse).length + (K.take (K.length - n)).length<=W:=by
  rw [UX q r hq,XZ];omega
theorem Mr {q r:W8} {n f:Nat} (hf:(20000 - n) * 100001 + q.length < f) (hn:n + 1<=20000) (hr:r.length<=1000) (hq:0 < q.length):(20000 - (n + 1)) * 100001 + (q.take (q.length - 1) ++ r.reverse).length < f - 1:=by
  rw [UX q r hq]
  obtain ⟨e,he⟩:∃ e,20000 - n=e + 1:=⟨20000 - n - 1,by omega⟩
  have h2:20000 - (n + 1)=e:=by omega
  rw [h2];rw [he,SW,Nat.one_mul] at hf
  generalize e * 100001=z at *
  have:z + (q.length - 1 + r.length) + 1 < f:=by
    refine Nat.lt_of_le_of_lt ?_ hf
    have:q.length - 1 + r.length + 1<=100001 + q.length:=by omega
    omega
  omega
def redOf (s:Jh):Ja:=⟨s.stack,s.steps,s.disk⟩
def da (o:Option Ja):Ja:=o.getD .zero
theorem pr {w:W8} {s:Jh} (h:iG rs uC (start w)=some s):gT rs w=some (redOf s):=by rw [gT,h];rfl
theorem js {w:W8} (h:iG rs uC (start w)=none):gT rs w=none:=by rw [gT,h];rfl
def uc (g:Int) (rs:List an) (w:W8):Option Ja:=if bG g w=0/\w.length<=20000 then gT rs w else none
def gJ (g:Int) (rs:List an) (w:W8):Nat:=if ¬ bG g w=0 then 4 else if (uc g rs w).isSome then 0 else 2
def fK (g:Int) (rs:List an) (w:W8):Ja:=da (uc g rs w)
variable {g:Int} {w:W8}
theorem ua (h:¬ bG g w=0):fK g rs w=.zero/\gJ g rs w=4:=by simp [fK,uc,gJ,h,da]
theorem D6 (h:¬ ¬ bG g w=0) (hl:20000 < w.length):fK g rs w=.zero/\gJ g rs w=2:=by
  have:=Decidable.not_not.1 h
  simp [fK,uc,gJ,this,da,show ¬ w.length<=20000 by omega]
theorem vL (h:¬ ¬ bG g w=0) (hl:¬ 20000 < w.length):fK g rs w=da (gT rs w)/\gJ g rs w=if (gT rs w).isSome then 0 else 2:=by
  have:=Decidable.not_not.1 h
  simp [fK,uc,gJ,this,show w.length<=20000 by omega]
def jZ (g:Int) (l:List W8) (rs:List an) (w:W8):Ja:=if bI g l rs then fK g rs w else .zero
def fU (g:Int) (l:List W8) (rs:List an) (w:W8):Nat:=if bI g l rs then gJ g rs w else 100
theorem D7 (h:¬ ¬ bG g w=0) (hl:¬ 20000 < w.length) (q:(!(gT rs w).isSome)=true):fK g rs w=.zero/\gJ g rs w=2:=by
  have e:gT rs w=none:=by cases h:gT rs w <;> simp_all
  rw [(vL h hl).1,(vL h hl).2,e];exact ⟨Z,Z⟩
theorem D8 (h:¬ ¬ bG g w=0) (hl:¬ 20000 < w.length) (q:(!(gT rs w).isSome)=false):fK g rs w=da (gT rs w)/\gJ g rs w=0:=by
  rw [(vL h hl).1,(vL h hl).2];exact ⟨Z,by simp_all⟩
theorem Xm {l:List W8} (h:bI g l rs=false):jZ g l rs w=.zero/\fU g l rs w=100:=by simp [jZ,fU,h]
theorem ny {l:List W8} (h:bI g l rs=true):jZ g l rs w=fK g rs w/\fU g l rs w=gJ g rs w:=by simp [jZ,fU,h]
theorem rI {o:Option Ja} (h:(!o.isSome)=true):o=none:=by cases o <;> simp_all
theorem np {o:Option Ja} (h:(!o.isSome)=false):o=some (da o):=by cases o <;> simp_all [da]
end
theorem oC:ef prog 37=some true:=by kernel_rfl
theorem jT:eO prog 37 0=some (9,0):=by kernel_rfl
theorem qc:eO prog 37 1=some (3,1):=by kernel_rfl
theorem tx:eO prog 37 2=some (35,2):=by kernel_rfl
theorem Uk:prog.info? 85=some Tryz.t85:=by kernel_rfl
theorem yv:dQ prog 37=some [(0,1),(1,1),(2,1)]:=by kernel_rfl
theorem pl85:dQ prog 85=some [(0,1),(1,1),(2,1)]:=by kernel_rfl
theorem eW:dY prog 37=some 3:=by kernel_rfl
theorem XC:type_of% @underlying37:=@underlying37
theorem s8:c5 prog 37=some (.agg #[.string ⟨⟨[]⟩⟩,.int .i64 0,.slice none 0 0]):=by kernel_rfl
theorem aan (dv:Value) (d:List bK) (p:W8) (A:AH) (hn:d.length<=1000000) (hcl:dp d<=100000000) (hpl:p.length<=1000000) (hv:bJ A 3 dv (co d)):bH prog 137 #[dv,ax (p)] A (fun v A1=>∃ s,v=.tuple #[s,.bool (DF p d)]/\A.le A1/\A1.wf/\Fresh A A1 s 3 (co (iM p d))):=by
 refine bi (e:=[(0,dv),(1,ax (p))]) (args:=[dv,ax (p)]) call137 func137 Z results137 ntmps137 Z Z Z (fun wf=>?_);have b6:=AH.le.refl A;refine ak.sq fun h2=>.region<|.I Z<|.I Z<|.nil<|h2<|.sq fun h4=>.region<|.I Z<|.nil ?_;refine h4<|.sq fun h6=>.sq fun h8=>.region<|.I Z<|.nil<|h8<|.block<|.loop (X:=Nat × List bK × Value) (fun ⟨i,o,s⟩=>[(0,dv),(1,ax (p)),(6,s),(7,num ((i:Nat):Int))]) (fun ⟨i,o,s⟩ B=>(i<=d.length/\o=(d.take i).map (qE p)/\∀ j,j < i->p.length + (d.getD j .zero).conj.length<=100000)/\A.le B/\Fresh A B s 3 (co o)) (fun ⟨i,o,s⟩=>d.length - i) (⟨0,[],.slice none 0 0⟩) (jC Z Z Z Z) (⟨⟨XK _,by simp,fun j h=>by omega⟩,b6,(Fresh.nil A A 3)⟩) ?_;rintro ⟨i,o,s⟩ B10 ⟨⟨hi,ho,hb⟩,D,a1⟩;refine ak.wf fun a6=>?_;have hck:=fun q:i < d.length=>LD (bj (d:=bK.zero) q);have hol:o.length<=i:=by rw [ho];simp;omega
 refine ak.sq fun aR=>.sq fun aS=>.region<|.J Z<|.J Z<|.p (bE (n:=d.length) oq Z (hv.le D) O (dR _))<|.p (ca Z Z)<|.nil<|aS<|.if rfl (fun b7=>?_) (fun b7=>?_)
 ·refine ak.skip<|aR<|.sq fun aT=>.block<|.sq fun aV=>.sq fun aY=>.region<|.J Z<|.p (cN u9 Z)<|.J Z ?_;refine Ops.J Z ?_;obtain ⟨bC,bM,bu,c4,bl,bU,bP,aD,b1,aI,ba,ac⟩:=bJ.at (i:=i) (hv.le D) Or O;refine Ops.p (au oq jb Z aD Z b1)<|.p (ae jx ek U Z)<|.p (ah eJ Z Z aI ((ac 0 U).trans (se O)))<|.p (cN u9 Z)<|.p (bF Z Z O)<|.p (eh (b:=100000) Z Z)<|.nil<|aY<|.if rfl (fun b8=>?_) (fun b8=>?_)
  ·refine ak.sq fun aZ=>.region<|.I Z<|.I Z<|.nil<|aZ<|.rt (by exact aH Z (⟨_,by (rw [JV (i:=i) O O];rfl),D,a6,(Fresh.nil A B10 3:Fresh _ _ _ _ []) |> fun z=>ce z (by rw [Zk (JV (i:=i) O O)];rfl)⟩))
  refine ak.skip<|aV<|.drawn [0,1,2,3,4,5,6,7,9,10,11,12,13,14,15,16,17,18,8,19,20,21,22] mixed Y Y Z<|.p Z (aN Z)<|.p Z (aN Z)<|.p Z (aN Z)<|.p Z (aN Z) ?_;obtain ⟨bD,bO,bv,c7,bm,bV,bR,aE,b2,aP,bb,ad⟩:=bJ.at (i:=i) (hv.le D) Or O;refine bn.p Z (au oq jb Z aE Z b2)<|.p Z (ae jx ek U Z)<|.p Z (ah eJ Z Z aP ((ad 0 U).trans (se O)))<|.p Z (nf Z Z O)<|.p Z (aN Z)<|.p Z (aN Z) ?_;obtain ⟨aB,a8,bA,cb,bp,bY,bS,aF,b3,aa,bc,a3⟩:=bJ.at (i:=i) (hv.le D) Or O;refine bn.p Z (au oq jb Z aF Z b3)<|.p Z (ae tA dH U Z) ?_;have ai:=de (off:=a8 + i * 3 + 1) aa ((a3 1 U).trans (zT O));refine bn.p Z (ah fA Z Z aa ((a3 1 U).trans (zT O)))<|.p Z (aN Z)<|.p Z (aN Z) ?_;obtain ⟨aC,a9,bB,cc,br,c3,bT,aG,b5,ab,bd,a4⟩:=bJ.at (i:=i) (hv.le D) Or O;refine bn.p Z (au oq jb Z aG Z b5)<|.p Z (ae JC nR U Z) ?_;have ap:=de (off:=a9 + i * 3 + 2) ab ((a4 2 U).trans (zW O));refine bn.p Z (ah wQ Z Z ab ((a4 2 U).trans (zW O)))<|.m Z (fun ar=>aq Z (vT (p ++ ((d.getD i .zero).conj)) B10 (by (simp only [Xx];omega))) ?_);rintro cf A35 ⟨rfl,V,a7⟩;refine ar (aU.list (L:=[(⟨aC,a9 + i * 3 + 2,none⟩,.bool ((d.getD i .zero).inv)),(⟨aB,a8 + i * 3 + 1,none⟩,num ((d.getD i .zero).rel))]) Y (bz (cl V ap) (bz (cl V ai) cm)))<|.p Z (cx Z (bg u85 Rl pl85 Z))<|.m Z (fun av=>bf (c:=[ax (cq (p ++ ((d.getD i .zero).conj))),num ((d.getD i .zero).rel),.bool ((d.getD i .zero).inv)]) a7 rfl (aw oq jb Rl rfl U U rfl) fun A44 bL a0=>?_);have a5:=(a1.le V).le a0.le;have az:=(D.trans V).trans a0.le;refine av (aU.none Y)<|.m Z (fun ay=>ct (ys:=[ax (cq (p ++ ((d.getD i .zero).conj))),num ((d.getD i .zero).rel),.bool ((d.getD i .zero).inv)]) rfl rfl oq jb Uk Rl rfl U oq (fun _ h=>by cases h) a5.own (bN (n:=1) a0.get Z) rfl rfl (by show (_ + _) * 32<=_;simp only [cj,Xq,Xz];(try simp only [Xx,Xq,Xz]);omega) (by simp only [cj,Xq,Xz];(try simp only [Xx,Xq,Xz]);omega) fun A52 b9 a2=>?_);rw [show ([ax (cq (p ++ ((d.getD i .zero).conj))),num ((d.getD i .zero).rel),.bool ((d.getD i .zero).inv)]:List Value)=co [⟨cq (p ++ ((d.getD i .zero).conj)),(d.getD i .zero).rel,(d.getD i .zero).inv⟩] from rfl,oG] at a2;obtain ⟨ag,aA⟩:=Fresh.grow a5 az wf a2;refine ay (aU.none Y)<|.p Z (dB Z)<|.done<|aT<|.region<|.J Z<|.p (bF (b:=1) Z Z O)<|.I Z<|.nil ?_;exact ⟨⟨i + 1,o ++ [⟨cq (p ++ ((d.getD i .zero).conj)),(d.getD i .zero).rel,(d.getD i .zero).inv⟩],b9⟩,jC Z Z Z Z,Z,⟨⟨by omega,yq O ho,fun j h=>(XW.1 h).elim (hb j) (fun z=>by subst z;omega)⟩,aA,ag⟩,O1⟩
 refine ak.exit<|h6<|.sq fun b0=>.region<|.J Z<|.I Z<|.I Z<|.nil<|b0<|.rt (by exact aH Z (⟨_,by (rw [DH (i:=i) O hb];rfl),D,a6,ce a1 (Xk co (Ax (i:=i) O ho (DH (i:=i) O hb)))⟩))
theorem s_RRun (g:Int) (u:Value) (l:List W8) (rv:Value) (rs:List an) (w:W8) (A:AH) (hs:bI g l rs=true) (hw:bG g w=0) (hwl:w.length<=20000) (hu:bJ A 1 u (dN l)) (hr:bJ A 3 rv (cd rs)) (hp:Proofs A rs):bH prog 104 #[.agg #[num (g),u,rv],ax (w)] A (fun v A1=>∃ dv,v=.tuple #[.agg #[ax (da (gT rs w)).word,num (((da (gT rs w)).steps:Nat):Int),dv],.bool (gT rs w).isSome]/\A.le A1/\A1.wf/\Fresh A A1 dv 3 (co (da (gT rs w)).disk)):=by
 refine bi (e:=[(0,.agg #[num (g),u,rv]),(1,ax (w))]) (args:=[.agg #[num (g),u,rv],ax (w)]) call104 func104 Z results104 ntmps104 Z Z Z (fun wf=>?_);have hv:=AH.le.refl A;refine ak.sq fun h2=>.region<|.m (fun hl=>d8 wf rfl rfl fun A5 b4 dV=>?_);have fo:=hv.trans dV.le;refine hl<|.m (fun ho=>bZ dV.wf s8 rfl fun A10 b9 aG=>?_);have b0:=aX wf (Xj fo.n aG.lo);have f8:=aG.le.g dV.get;have dO:=fo.trans aG.le;refine ho<|.I Z<|.nil<|h2<|.sq fun gZ=>.region<|.m (fun g7=>bZ aG.wf s8 rfl fun A18 bB av=>?_);have b5:=ne_new aG.wf f8 av.lo;have aI:=ne_new aG.wf aG.get av.lo;have br:=aX wf (Xj dO.n av.lo);have f9:=av.le.g f8;have fi:=av.le.g aG.get;have dS:=dO.trans av.le;refine g7<|.nil<|gZ<|.sq fun h3=>.region<|.I Z<|.nil<|h3<|.sq fun h4=>.region ?_;refine Ops.I Z<|.nil<|h4<|.sq fun h5=>.region<|.J Z<|.m (fun g8=>aq Z (yY w A18 O) ?_);rintro hF A31 ⟨b8,hJ,b6⟩;have h6:=b8.g f9;have h7:=b8.g fi;have h8:=b8.g av.get;have gg:=dS.trans b8;have fv:=b6.base dS;have gm:=b6.ne av.wf f9;have gp:=b6.ne av.wf fi;have gq:=b6.ne av.wf av.get;refine g8<|.I Z<|.nil<|h5<|.sq fun ha=>.block<|.loop (X:=W8 × W8 × Nat × List bK × Nat × Nat × Value × Value × Value) (fun ⟨q,k,n,d,m,f,qv,kv,dv⟩=>[(2,.pointer (some ⟨b4,0,none⟩)),(4,.pointer (some ⟨b9,0,none⟩)),(6,.pointer (some ⟨bB,0,none⟩)),(7,kv),(8,num ((m:Nat):Int)),(9,qv)]) (fun ⟨q,k,n,d,m,f,qv,kv,dv⟩ B=>(iG rs f ⟨q,k,n,d,m⟩=iG rs uC (start w)/\q.length + k.length<=w.length/\uk q/\n<=20000/\d.length<=100000/\m<=1000000/\(20000 - n) * 100001 + q.length < f)/\A.le B/\Fresh A B qv 1 (ao q)/\Fresh A B kv 1 (ao k)/\Fresh A B dv 3 (co d)/\B.get bB=some (.row true [ax ([]),num ((n:Nat):Int),dv] 3)/\B.get b4=some (.row true [num (g),u,rv] 3)/\B.get b9=some (.row true [ax ([]),num ((0:Nat):Int),.slice none 0 0] 3)/\V.blk qv ≠ some bB/\V.blk kv ≠ some bB/\V.blk dv ≠ some bB/\V.blk qv ≠ some b4/\V.blk kv ≠ some b4/\V.blk dv ≠ some b4/\V.blk qv ≠ some b9/\V.blk kv ≠ some b9/\V.blk dv ≠ some b9/\bx qv kv/\bx qv dv/\bx kv dv) (fun ⟨q,k,n,d,m,f,qv,kv,dv⟩=>f) (⟨w.reverse,[],0,[],0,uC,hF,.slice none 0 0,.slice none 0 0⟩) (ya Z Z Z Z Z Z) (⟨⟨Z,by simp,ww (kX (fun z=>z hw)),by omega,by simp,by omega,by have h1:w.length<=20000:=hwl;simp only [QQ];unfold uC;omega⟩,gg,fv,(Fresh.nil A A31 1),(Fresh.nil A A31 3),h8,h6,h7,gq,(fun q=>by cases q),(fun q=>by cases q),gm,(fun q=>by cases q),(fun q=>by cases q),gp,(fun q=>by cases q),(fun q=>by cases q),(bx.symm bx.nil),(bx.symm bx.nil),bx.nil⟩) ?_;rintro ⟨q,k,n,d,m,f,qv,kv,dv⟩ B44 ⟨⟨hrun,hlen,hok,hn,hd,hm,hf⟩,cu,ai,ag,b2,aV,bC,b3,a2,aA,a3,ac,aD,ab,ad,aE,a7,aY,aF,aZ⟩;refine ak.wf fun dZ=>?_;have htop:=fun z:0 < q.length=>Zq hok z;have hrf:=fun z:¬ bq rs (k ++ [q.getD (q.length - 1) 0]) < 0=>Ij hs z;have hkl:(k ++ [q.getD (q.length - 1) 0]).length=k.length + 1:=by simp
 have hmv:(iM ((k ++ [q.getD (q.length - 1) 0]).take ((k ++ [q.getD (q.length - 1) 0]).length - (rs.getD (bq rs (k ++ [q.getD (q.length - 1) 0])).toNat .zero).left.length)) (rs.getD (bq rs (k ++ [q.getD (q.length - 1) 0])).toNat .zero).proof).length<=(rs.getD (bq rs (k ++ [q.getD (q.length - 1) 0])).toNat .zero).proof.length:=wu _ _;have hmk:DF ((k ++ [q.getD (q.length - 1) 0]).take ((k ++ [q.getD (q.length - 1) 0]).length - (rs.getD (bq rs (k ++ [q.getD (q.length - 1) 0])).toNat .zero).left.length)) (rs.getD (bq rs (k ++ [q.getD (q.length - 1) 0])).toNat .zero).proof=true->(iM ((k ++ [q.getD (q.length - 1) 0]).take ((k ++ [q.getD (q.length - 1) 0]).length - (rs.getD (bq rs (k ++ [q.getD (q.length - 1) 0])).toNat .zero).left.length)) (rs.getD (bq rs (k ++ [q.getD (q.length - 1) 0])).toNat .zero).proof).length=(rs.getD (bq rs (k ++ [q.getD (q.length - 1) 0])).toNat .zero).proof.length:=Gk;have hmc:dp (iM ((k ++ [q.getD (q.length - 1) 0]).take ((k ++ [q.getD (q.length - 1) 0]).length - (rs.getD (bq rs (k ++ [q.getD (q.length - 1) 0])).toNat .zero).left.length)) (rs.getD (bq rs (k ++ [q.getD (q.length - 1) 0])).toNat .zero).proof)<=100000 * (iM ((k ++ [q.getD (q.length - 1) 0]).take ((k ++ [q.getD (q.length - 1) 0]).length - (rs.getD (bq rs (k ++ [q.getD (q.length - 1) 0])).toNat .zero).left.length)) (rs.getD (bq rs (k ++ [q.getD (q.length - 1) 0])).toNat .zero).proof).length:=Fg Aw;refine ak.sq fun hb=>.sq fun hc=>.region<|.J Z<|.p (bE (n:=q.length) c0 Z ai.slc O (d6 _))<|.p (eh (b:=0) Z Z)<|.nil<|hc<|.if rfl (fun hz=>?_) (fun hz=>?_)
 ·refine ak.skip<|hb<|.block<|.sq fun he=>.region<|.J Z<|.J Z<|.p (bE (n:=q.length) c0 Z ai.slc O (d6 _))<|.p (fJ (b:=1) Z Z O) ?_;obtain ⟨ir,iF,hW,iV,hU,iR,iH,gS,hq,gY,hM,fr⟩:=bJ.at (i:=q.length - 1) ai.slc On O;refine Ops.p (au c0 j0 Z gS Z hq)<|.p (ah NF Z Z gY ((dt fr).trans (fF O)))<|.I Z<|.nil<|he<|.sq fun hg=>.region<|.J Z<|.J Z<|.p (bE (n:=q.length) c0 Z ai.slc O (d6 _)) ?_;refine Ops.p (fJ (b:=1) Z Z O) ?_;obtain ⟨aB,c4,aC,hC,hx,iv⟩:=ai.nonnil (by intro q;have:=Xk List.length q;simp only [aK,Xz] at this;omega);subst hC;rw [aK,TK] at hx;have cc:=ai.take (k:=q.length - 1) O;rw [TK,iQ] at cc;refine Ops.p (jo c0 j0 Z Z O)<|.I Z<|.nil<|hg<|.sq fun hh=>.region<|.J Z<|.p (bE (n:=k.length) c0 Z ag.slc O (d6 _))<|.I Z<|.nil ?_;refine hh<|.sq fun hi=>.join (fun f A1=>aj [(45,.bool (decide (0 < k.length/\k.getD (k.length - 1) 0=q.getD (q.length - 1) 0 ^^^ 32))),(2,.pointer (some ⟨b4,0,none⟩)),(4,.pointer (some ⟨b9,0,none⟩)),(6,.pointer (some ⟨bB,0,none⟩)),(7,kv),(8,num ((m:Nat):Int)),(9,.slice (some ⟨aB,0,none⟩) (q.length - 1) aC),(18,.slice (some ⟨aB,0,none⟩) c4 aC),(19,num ((q.length:Nat):Int)),(20,.bool (decide (0 < q.length))),(21,.slice (some ⟨aB,0,none⟩) c4 aC),(22,.slice (some ⟨aB,0,none⟩) c4 aC),(23,num ((q.length:Nat):Int)),(24,num ((q.length - 1:Nat):Int)),(26,ed (q.getD (q.length - 1) 0)),(10,ed (q.getD (q.length - 1) 0)),(27,.slice (some ⟨aB,0,none⟩) c4 aC),(28,.slice (some ⟨aB,0,none⟩) c4 aC),(29,num ((q.length:Nat):Int)),(30,num ((q.length - 1:Nat):Int)),(31,.slice (some ⟨aB,0,none⟩) (q.length - 1) aC),(32,kv),(33,num ((k.length:Nat):Int)),(11,num ((k.length:Nat):Int))] f.e/\f.ds=[]/\B44=A1) ?_ ?_
  ·refine ak.drawn [0,1,2,3,4,5,6,7,8,9,10,11] mixed Y Y Z<|.p Z (aN Z)<|.p Z (eh (b:=0) Z Z)<|.p Z (aN Z)<|.part (t:=36) Z (fun hA=>?_) (fun hA=>?_)
   ·refine bn.qOn Z Z Z Z Z (aN Z)<|.qOn Z Z Z Z Z (aN Z)<|.qOn Z Z Z Z Z (fJ (b:=1) Z Z O) ?_;obtain ⟨gN,f6,hX,iX,hV,iS,iN,gX,ht,f7,hN,di⟩:=bJ.at (i:=k.length - 1) ag.slc On O;refine bn.qOn Z Z Z Z Z (au c0 j0 Z gX Z ht) ?_;have g6:=de (off:=f6 + (k.length - 1) * 1) f7 ((dt di).trans (fF O));refine bn.qOn Z Z Z Z Z (ah NF Z Z f7 ((dt di).trans (fF O)))<|.qOn Z Z Z Z Z (aN Z)<|.lOn Z Z Z Z Z (fun _ _ g9 _=>aq Z (yV (q.getD (q.length - 1) 0) B44 (htop O)) ?_);rintro j1 A69 ⟨rfl,rfl⟩;refine g9 _ _ (aU.list (L:=[(⟨gN,f6 + (k.length - 1) * 1,none⟩,ed (k.getD (k.length - 1) 0))]) Y (bz g6 cm))<|.qOn Z Z Z Z Z (yz Z Z)<|.p Z (aL Z Z)<|.done ?_;exact ⟨aj.cons (show some _=some _ from Xk (fun b=>some (Value.bool b)) (show (decide ((k.getD (k.length - 1) 0)=((q.getD (q.length - 1) 0) ^^^ 32)))=decide (0 < k.length/\k.getD (k.length - 1) 0=q.getD (q.length - 1) 0 ^^^ 32) from (by simp only [‹0 < _›,true_and])))<|aj.cons Z<|aj.cons Z<|aj.cons Z<|aj.cons Z<|aj.cons Z<|aj.cons Z<|aj.cons Z<|aj.cons Z<|aj.cons Z<|aj.cons Z<|aj.cons Z<|aj.cons Z<|aj.cons Z<|aj.cons Z<|aj.cons Z<|aj.cons Z<|aj.cons Z<|aj.cons Z<|aj.cons Z<|aj.cons Z<|aj.cons Z<|aj.cons Z<|aj.cons Z<|aj.nil _,Z,Z⟩
   refine bn.qOff Z Z Z Z Z Z<|.qOff Z Z Z Z Z Z<|.qOff Z Z Z Z Z Z<|.qOff Z Z Z Z Z Z<|.qOff Z Z Z Z Z Z<|.qOff Z Z Z Z Z Z<|.lOff Z Z Z Z Z Z<|.qOff Z Z Z Z Z Z<|.p Z (bh Z Z)<|.done ?_;exact ⟨aj.cons (show some _=some _ from Xk (fun b=>some (Value.bool b)) (show (false)=decide (0 < k.length/\k.getD (k.length - 1) 0=q.getD (q.length - 1) 0 ^^^ 32) from (by simp only [‹¬ 0 < _›,false_and,decide_false])))<|aj.cons Z<|aj.cons Z<|aj.cons Z<|aj.cons Z<|aj.cons Z<|aj.cons Z<|aj.cons Z<|aj.cons Z<|aj.cons Z<|aj.cons Z<|aj.cons Z<|aj.cons Z<|aj.cons Z<|aj.cons Z<|aj.cons Z<|aj.cons Z<|aj.cons Z<|aj.cons Z<|aj.cons Z<|aj.cons Z<|aj.cons Z<|aj.cons Z<|aj.cons Z<|aj.nil _,Z,Z⟩
  rintro ⟨fe,fd⟩ _ ⟨hE,rfl,rfl⟩;refine ak.forget hE<|.if rfl (fun hB=>?_) (fun hB=>?_)
  ·refine ak.sq fun hj=>.region<|.J Z<|.J Z<|.p (fJ (b:=1) Z Z O) ?_;obtain ⟨gP,iT,gQ,hD,hy,iD⟩:=ag.nonnil (by intro q;have:=Xk List.length q;simp only [aK,Xz] at this;omega);subst hD;rw [aK,TK] at hy;have dj:=ag.take (k:=k.length - 1) O;rw [TK,iQ] at dj;refine Ops.p (jo c0 j0 Z Z O)<|.I Z<|.nil<|hj<|.exit ?_;exact ⟨⟨q.take (q.length - 1),k.take (k.length - 1),n,d,m,f - 1,.slice (some ⟨aB,0,none⟩) (q.length - 1) aC,.slice (some ⟨gP,0,none⟩) (k.length - 1) gQ,dv⟩,ya Z Z Z Z Z Z,Z,⟨⟨MQ O O hrun ‹_›,by simp only [XZ];omega,yu hok _,hn,hd,hm,by simp only [XZ];omega⟩,cu,cc,dj,b2,aV,bC,b3,a2,aA,a3,ac,aD,ab,ad,aE,a7,aY,aF,aZ⟩,O1⟩
  refine ak.skip<|hi<|.sq fun hk=>.region<|.J Z<|.J Z<|.m (fun gc=>bf (c:=[ed (q.getD (q.length - 1) 0)]) dZ rfl (aw c0 j0 z5 rfl U U rfl) fun A80 it a8=>?_);have fl:=a8.le.g aV;have fm:=a8.le.g bC;have fn:=a8.le.g b3;have dk:=ag.le a8.le;have dl:=b2.le a8.le;have dm:=cc.le a8.le;refine gc<|.m (fun ge=>ct (ys:=[ed (q.getD (q.length - 1) 0)]) rfl rfl c0 j0 tD z5 rfl U c0 (fun _ h=>by cases h) dk.own (bN (n:=1) a8.get Z) rfl rfl (by show (_ + _) * 1<=_;simp only [aK,Xq,Xz];(try simp only [Xx,Xq,Xz]);omega) Ob fun A95 fq aa=>?_);rw [show ([ed (q.getD (q.length - 1) 0)]:List Value)=ao [q.getD (q.length - 1) 0] from rfl,eu] at aa;obtain ⟨cv,bT⟩:=Fresh.grow dk (cu.trans a8.le) wf aa;have ba:=aa.ne aA a8.wf fl;have dz:=aa.keep aD fm;have cZ:=aa.ne aD a8.wf fm;have d0:=aa.ne aE a8.wf fn;have bY:=bx.appd (show bx kv dv from aZ) dl.own a8.wf aa;have c3:=bx.appd (show bx kv (.slice (some ⟨aB,0,none⟩) (q.length - 1) aC) from (bx.symm aY)) dm.own a8.wf aa;refine ge<|.I Z<|.nil<|hk<|.sq fun fE=>.region<|.p (am ei dE Z Z dz Z)<|.J Z<|.m (fun e9=>aq Z (s_rule ((g)) u l rv rs fq (k ++ [q.getD (q.length - 1) 0]) A95 (by have:=(cT hs).2.1;omega) (fun r z=>by have:=(mO hs z).1;omega) (by simp only [Xx,Xq,Xz];omega) (hu.le bT) (hr.le bT) cv.slc) ?_);rintro hY A118 ⟨rfl,ap,ay⟩;have cf:=ap.g (aa.keep aA fl);have bR:=ap.g dz;have ch:=ap.g (aa.keep aE fn);have bD:=(dl.appd aa aZ).le ap;have bL:=(dm.appd aa (bx.symm aY)).le ap;have bM:=cv.le ap;have b7:=bT.trans ap;refine e9<|.I Z<|.nil<|fE<|.sq fun fI=>.sq fun fL=>.region<|.J Z<|.p (kY Z Z)<|.nil ?_;refine fL<|.if rfl (fun gs=>?_) (fun gs=>?_)
  ·refine ak.exit ?_;exact ⟨⟨q.take (q.length - 1),k ++ [q.getD (q.length - 1) 0],n,d,m,f - 1,.slice (some ⟨aB,0,none⟩) (q.length - 1) aC,fq,dv⟩,ya Z Z Z Z Z Z,Z,⟨⟨Iq O O hrun ‹_› ‹_›,by simp only [XZ,Xx,Xq,Xz];omega,yu hok _,hn,hd,hm,by simp only [XZ];omega⟩,b7,bL,bM,bD,cf,bR,ch,a2,ba,a3,ac,cZ,ab,ad,d0,a7,(bx.symm c3),aF,bY⟩,O1⟩
  refine ak.skip<|fI<|.sq fun fM=>.region<|.p (ae cW fp U Z)<|.p (ah ga Z Z bR Z)<|.J Z ?_;obtain ⟨hK,hP,hI,hT,hH,hR,hQ,ft,gf,fD,e0,hG⟩:=bJ.at (i:=(bq rs (k ++ [q.getD (q.length - 1) 0])).toNat) (hr.le b7) (by simp only [bw];have:=hrf ‹_›;omega) O;refine Ops.p (au i4 eE Z ft (jz (by have:=hrf ‹_›;omega)) gf)<|.p (am uo eE Z Z fD (e0.trans (Xk some (iI O))))<|.m (fun ea=>bZ ay wJ rfl fun A138 hL D=>?_);have az:=ne_new ay cf D.lo;have d1:=bD.own.ne_new ay D.lo;refine ea<|.m (fun ec=>aW (cs:=[ax ((rs.getD ((bq rs (k ++ [q.getD (q.length - 1) 0])).toNat) .zero).left),ax ((rs.getD ((bq rs (k ++ [q.getD (q.length - 1) 0])).toNat) .zero).right),(rs.getD ((bq rs (k ++ [q.getD (q.length - 1) 0])).toNat) .zero).pv]) (c':=[ax ((rs.getD ((bq rs (k ++ [q.getD (q.length - 1) 0])).toNat) .zero).left),ax ((rs.getD ((bq rs (k ++ [q.getD (q.length - 1) 0])).toNat) .zero).right),(rs.getD ((bq rs (k ++ [q.getD (q.length - 1) 0])).toNat) .zero).pv]) D.wf rfl rfl rfl rfl eE D.get G (jm (hp.get (hrf ‹_›).1)) rfl fun A153 a5=>?_);have dD:=a5.k az (D.le.g cf);have cA:=(bD.le D.le).keep a5.keep d1;have e1:=(bL.le D.le).keep a5.keep (bL.own.ne_new ay D.lo);have bO:=(bM.le D.le).keep a5.keep (bM.own.ne_new ay D.lo);have bU:=al (b7.trans D.le) wf (aX wf (Xj b7.n D.lo)) a5.n a5.keep;refine ec<|.nil<|fM<|.sq fun fN=>.region<|.J Z<|.J Z<|.p (bE (n:=(k ++ [q.getD (q.length - 1) 0]).length) c0 Z bO.slc O (d6 _))<|.p (ae ew ek U Z)<|.p (ah eJ Z Z a5.get Z) ?_;refine Ops.p (cN u9 Z)<|.p (fJ Z Z O) ?_;obtain ⟨c7,hS,cb,gF,gl,hO⟩:=bO.nonnil (by intro q;have:=Xk List.length q;simp only [aK,Xz] at this;omega);subst gF;rw [aK,TK] at gl;have bP:=bO.take (k:=((k ++ [q.getD (q.length - 1) 0]).length) - (((rs.getD ((bq rs (k ++ [q.getD (q.length - 1) 0])).toNat) .zero).left).length)) O;rw [TK,iQ] at bP;refine Ops.p (jo c0 j0 Z Z O)<|.I Z<|.nil<|fN<|.sq fun fO=>.region<|.p (ae mg mn U Z)<|.p (ah pK Z Z a5.get Z)<|.J Z<|.m (fun eg=>eK (s:=(k ++ [q.getD (q.length - 1) 0]).take (((k ++ [q.getD (q.length - 1) 0]).length) - (((rs.getD ((bq rs (k ++ [q.getD (q.length - 1) 0])).toNat) .zero).left).length))) Z c0 u9 u5 bP.slc ?_);refine eg<|.m (fun en=>aq Z (aan ((rs.getD ((bq rs (k ++ [q.getD (q.length - 1) 0])).toNat) .zero).pv) ((rs.getD ((bq rs (k ++ [q.getD (q.length - 1) 0])).toNat) .zero).proof) ((k ++ [q.getD (q.length - 1) 0]).take (((k ++ [q.getD (q.length - 1) 0]).length) - (((rs.getD ((bq rs (k ++ [q.getD (q.length - 1) 0])).toNat) .zero).left).length))) A153 (by have:=hrf ‹_›;omega) (by have:=hrf ‹_›;omega) (by simp only [XZ];omega) ((hp.get (hrf ‹_›).1).le bU)) ?_);rintro hZ A173 ⟨f4,rfl,a9,aP,bp⟩;have ck:=a9.g dD;have dG:=a9.g (a5.k (ne_new ay bR D.lo) (D.le.g bR));have dI:=a9.g (a5.k (ne_new ay ch D.lo) (D.le.g ch));have cB:=cA.le a9;have cC:=e1.le a9;have cF:=bP.le a9;have cH:=bp.base bU;have d2:=bp.ne a5.wf dD;refine en<|.J Z<|.p (aQ Z Z)<|.p (aQ Z Z)<|.I Z<|.I Z<|.nil<|fO<|.sq fun fQ=>.region ?_;refine Ops.p (ae tx mn U Z)<|.p (ah pK Z Z ck Z)<|.J Z<|.m (fun ev=>ct rfl rfl oq jb Uk Rl rfl U oq (fun _ h=>by cases h) cB.own (cH.slc.listOf (n:=(iM ((k ++ [q.getD (q.length - 1) 0]).take (((k ++ [q.getD (q.length - 1) 0]).length) - (((rs.getD ((bq rs (k ++ [q.getD (q.length - 1) 0])).toNat) .zero).left).length))) ((rs.getD ((bq rs (k ++ [q.getD (q.length - 1) 0])).toNat) .zero).proof)).length) (by simp only [cj] <;> omega) O) (by simp only [cj] <;> omega) (Jx _) (by show (_ + _) * 32<=_;simp only [cj,Xq,Xz];have h0:=hrf ‹_›;omega) (by simp only [cj,Xq,Xz];have h0:=hrf ‹_›;omega) fun A198 i1 a1=>?_);rw [oG] at a1;obtain ⟨cK,eX⟩:=Fresh.grow cB (bU.trans a9) wf a1;have bV:=a1.ne a3 aP ck;have d3:=bx.appd (show bx dv (.slice (some ⟨aB,0,none⟩) (q.length - 1) aC) from (bx.symm aF)) cC.own aP a1;refine ev<|.p (ae tx mn U Z) ?_;obtain ⟨bA,bv,bm,gG,_⟩:=cK.own.slice;subst gG;refine Ops.m (fun ex=>aW (cs:=[.slice bA bv bm]) (c':=[ax ([]),num ((n:Nat):Int),.slice bA bv bm]) a1.wf rfl rfl rfl rfl mn (a1.keep a3 ck) G rfl rfl fun A225 a6=>?_);have e2:=(cC.appd a1 (bx.symm aF)).keep a6.keep a2;have e3:=(cF.appd a1 (bx.symm bY)).keep a6.keep ba;refine ex<|.nil<|fQ<|.sq fun fR=>.region<|.p (ae qc dH U Z)<|.p (ah fA Z Z a6.get Z)<|.p (bF (b:=1) Z Z O)<|.p (ae qc dH U Z)<|.m (fun ey=>aW (cs:=[num ((n + 1:Nat):Int)]) (c':=[ax ([]),num ((n + 1:Nat):Int),.slice bA bv bm]) a6.wf rfl rfl rfl rfl dH a6.get G rfl rfl fun A240 a0=>?_);have bu:=a0.k aI (a6.k aI (a1.keep a7 dI));have e4:=((cH.appd a1 (bx.symm (bp.sep0 cA.own))).keep a6.keep d2).keep a0.keep d2;have cP:=(cK.keep a6.keep bV).keep a0.keep bV;have aS:=al (al eX wf br a6.n a6.keep) wf br a0.n a0.keep;refine ey<|.nil<|fR<|.sq fun fS=>.region<|.J Z<|.J Z<|.m (fun ez=>aq Z (QF f4 (iM ((k ++ [q.getD (q.length - 1) 0]).take (((k ++ [q.getD (q.length - 1) 0]).length) - (((rs.getD ((bq rs (k ++ [q.getD (q.length - 1) 0])).toNat) .zero).left).length))) ((rs.getD ((bq rs (k ++ [q.getD (q.length - 1) 0])).toNat) .zero).proof)) A240 (by have:=hrf ‹_›;omega) Aw e4.slc) ?_);rintro i2 A256 ⟨rfl,rfl⟩;refine ez<|.p (bF Z Z O)<|.I Z<|.nil<|fS<|.sq fun fT=>.sq fun bS=>.region<|.J Z<|.p (eD Z) ?_;refine Ops.J Z<|.partB (t:=95) Z (fun gA=>?_) (fun gA=>?_)
  ·refine Ops.off Z Z Z Z<|.off Z Z Z Z<|.off Z Z Z Z<|.p (aL Z Z)<|.J Z<|.off Z Z Z Z<|.off Z Z Z Z<|.off Z Z Z Z<|.off Z Z Z Z<|.p (aL Z Z) ?_;refine Ops.J Z<|.off Z Z Z Z<|.off Z Z Z Z<|.p (aL Z Z)<|.nil<|bS<|.cond_true Z<|.sq fun fV=>.region<|.p (cx Z (bg XC s8 yv Z)) ?_;refine Ops.m (fun eA=>aW (cs:=[ax ([]),num ((0:Nat):Int),.slice none 0 0]) (c':=[ax ([]),num ((0:Nat):Int),.slice none 0 0]) a0.wf rfl rfl rfl rfl eW bu G rfl rfl fun A266 bb=>?_);have eY:=al aS wf b0 bb.n bb.keep;refine eA<|.I Z<|.nil<|fV<|.rt (by exact aH (df oC eW Z bb.get Z (dA Z d5)) (⟨_,by rw [js (kz O O hrun ‹_› ‹¬ bq rs (k ++ [q.getD (q.length - 1) 0]) < 0› (fun z=>by (have z1:=z.1;rw [Pn ‹(!DF _ _)=true›] at z1;cases z1)))];rfl,eY,bb.wf,by rw [js (kz O O hrun ‹_› ‹¬ bq rs (k ++ [q.getD (q.length - 1) 0]) < 0› (fun z=>by (have z1:=z.1;rw [Pn ‹(!DF _ _)=true›] at z1;cases z1)))];exact Fresh.nil _ _ _⟩))
  refine Ops.on Z Z<|.p (ae qc dH U Z)<|.on Z Z<|.p (ah fA Z Z a0.get Z)<|.on Z Z<|.p (eh (b:=20000) Z Z)<|.p (bh Z Z)<|.J Z<|.part (t:=100) Z (fun gC=>?_) (fun gC=>?_)
  ·refine Ops.off Z Z Z Z<|.off Z Z Z Z<|.off Z Z Z Z<|.off Z Z Z Z<|.p (aL Z Z)<|.J Z<|.off Z Z Z Z<|.off Z Z Z Z<|.p (aL Z Z)<|.nil ?_;refine bS<|.cond_true Z<|.sq fun fX=>.region<|.p (cx Z (bg XC s8 yv Z))<|.m (fun eC=>aW (cs:=[ax ([]),num ((0:Nat):Int),.slice none 0 0]) (c':=[ax ([]),num ((0:Nat):Int),.slice none 0 0]) a0.wf rfl rfl rfl rfl eW bu G rfl rfl fun A282 bc=>?_);have eZ:=al aS wf b0 bc.n bc.keep;refine eC<|.I Z<|.nil<|fX<|.rt (by exact aH (df oC eW Z bc.get Z (dA Z d5)) (⟨_,by rw [js (kz O O hrun ‹_› ‹¬ bq rs (k ++ [q.getD (q.length - 1) 0]) < 0› (fun z=>by (have z2:=z.2.1;omega)))];rfl,eZ,bc.wf,by rw [js (kz O O hrun ‹_› ‹¬ bq rs (k ++ [q.getD (q.length - 1) 0]) < 0› (fun z=>by (have z2:=z.2.1;omega)))];exact Fresh.nil _ _ _⟩))
  refine Ops.on Z Z<|.p (ae tx mn U Z)<|.on Z Z<|.p (ah pK Z Z a0.get Z)<|.on Z Z<|.p (bE (n:=(d ++ iM ((k ++ [q.getD (q.length - 1) 0]).take (((k ++ [q.getD (q.length - 1) 0]).length) - (((rs.getD ((bq rs (k ++ [q.getD (q.length - 1) 0])).toNat) .zero).left).length))) ((rs.getD ((bq rs (k ++ [q.getD (q.length - 1) 0])).toNat) .zero).proof)).length) oq Z cP.slc O (dR _))<|.on Z Z<|.p (eh (b:=100000) Z Z)<|.p (bh Z Z)<|.J Z ?_;refine Ops.part (t:=106) Z (fun gD=>?_) (fun gD=>?_)
  ·refine Ops.off Z Z Z Z<|.off Z Z Z Z<|.p (aL Z Z)<|.nil<|bS<|.cond_true Z<|.sq fun g0=>.region<|.p (cx Z (bg XC s8 yv Z))<|.m (fun eG=>aW (cs:=[ax ([]),num ((0:Nat):Int),.slice none 0 0]) (c':=[ax ([]),num ((0:Nat):Int),.slice none 0 0]) a0.wf rfl rfl rfl rfl eW bu G rfl rfl fun A298 bd=>?_);have f0:=al aS wf b0 bd.n bd.keep;refine eG<|.I Z<|.nil<|g0<|.rt (by exact aH (df oC eW Z bd.get Z (dA Z d5)) (⟨_,by rw [js (kz O O hrun ‹_› ‹¬ bq rs (k ++ [q.getD (q.length - 1) 0]) < 0› (fun z=>by (have z3:d.length + (rs.getD (bq rs (k ++ [q.getD (q.length - 1) 0])).toNat .zero).proof.length<=100000:=z.2.2.1;have h0:=hmk (qS ‹(!DF _ _)=false›);have h9:=@Xx _ d (iM ((k ++ [q.getD (q.length - 1) 0]).take ((k ++ [q.getD (q.length - 1) 0]).length - (rs.getD (bq rs (k ++ [q.getD (q.length - 1) 0])).toNat .zero).left.length)) (rs.getD (bq rs (k ++ [q.getD (q.length - 1) 0])).toNat .zero).proof);omega)))];rfl,f0,bd.wf,by rw [js (kz O O hrun ‹_› ‹¬ bq rs (k ++ [q.getD (q.length - 1) 0]) < 0› (fun z=>by (have z3:d.length + (rs.getD (bq rs (k ++ [q.getD (q.length - 1) 0])).toNat .zero).proof.length<=100000:=z.2.2.1;have h0:=hmk (qS ‹(!DF _ _)=false›);have h9:=@Xx _ d (iM ((k ++ [q.getD (q.length - 1) 0]).take ((k ++ [q.getD (q.length - 1) 0]).length - (rs.getD (bq rs (k ++ [q.getD (q.length - 1) 0])).toNat .zero).left.length)) (rs.getD (bq rs (k ++ [q.getD (q.length - 1) 0])).toNat .zero).proof);omega)))];exact Fresh.nil _ _ _⟩))
  refine Ops.on Z Z<|.J Z<|.on Z Z<|.p (eh (b:=1000000) Z Z)<|.p (bh Z Z)<|.nil<|bS<|.if rfl (fun gE=>?_) (fun gE=>?_)
  ·refine ak.sq fun g1=>.region<|.p (cx Z (bg XC s8 yv Z))<|.m (fun eL=>aW (cs:=[ax ([]),num ((0:Nat):Int),.slice none 0 0]) (c':=[ax ([]),num ((0:Nat):Int),.slice none 0 0]) a0.wf rfl rfl rfl rfl eW bu G rfl rfl fun A314 bl=>?_);have f1:=al aS wf b0 bl.n bl.keep;refine eL<|.I Z<|.nil<|g1<|.rt (by exact aH (df oC eW Z bl.get Z (dA Z d5)) (⟨_,by rw [js (kz O O hrun ‹_› ‹¬ bq rs (k ++ [q.getD (q.length - 1) 0]) < 0› (fun z=>by (have z4:m + dp (iM ((k ++ [q.getD (q.length - 1) 0]).take ((k ++ [q.getD (q.length - 1) 0]).length - (rs.getD (bq rs (k ++ [q.getD (q.length - 1) 0])).toNat .zero).left.length)) (rs.getD (bq rs (k ++ [q.getD (q.length - 1) 0])).toNat .zero).proof)<=1000000:=z.2.2.2;omega)))];rfl,f1,bl.wf,by rw [js (kz O O hrun ‹_› ‹¬ bq rs (k ++ [q.getD (q.length - 1) 0]) < 0› (fun z=>by (have z4:m + dp (iM ((k ++ [q.getD (q.length - 1) 0]).take ((k ++ [q.getD (q.length - 1) 0]).length - (rs.getD (bq rs (k ++ [q.getD (q.length - 1) 0])).toNat .zero).left.length)) (rs.getD (bq rs (k ++ [q.getD (q.length - 1) 0])).toNat .zero).proof)<=1000000:=z.2.2.2;omega)))];exact Fresh.nil _ _ _⟩))
  refine ak.skip<|fT<|.region<|.J Z<|.p (ae jw ek U Z)<|.p (ah eJ Z Z (a0.k az.symm (a6.k az.symm (a1.keep d1 (a9.g a5.get)))) Z)<|.m (fun eN=>aq Z (yY ((rs.getD ((bq rs (k ++ [q.getD (q.length - 1) 0])).toNat) .zero).right) A240 O) ?_);rintro ih A328 ⟨ar,aR,dw⟩;have dJ:=ar.g a0.get;have dK:=ar.g (a0.k b5 (a6.k b5 (a1.keep ab dG)));have dL:=ar.g bu;have cS:=(e2.keep a0.keep a2).le ar;have cU:=(e3.keep a0.keep ba).le ar;have cV:=cP.le ar;have e5:=dw.base aS;refine eN<|.m (fun eQ=>ct rfl rfl c0 j0 tD z5 rfl U c0 (fun _ h=>by cases h) cS.own (e5.slc.listOf (n:=(((rs.getD ((bq rs (k ++ [q.getD (q.length - 1) 0])).toNat) .zero).right).reverse).length) ON O) ON (zO _) (by show (_ + _) * 1<=_;simp only [aK,Xq,Xz];have h0:=hrf ‹_›;(try simp only [Xx,QQ,XZ]);omega) (by simp only [aK,Xq,Xz];have h0:=hrf ‹_›;(try simp only [Xx,QQ,XZ]);omega) fun A353 gM a4=>?_);rw [eu] at a4;obtain ⟨e6,f2⟩:=Fresh.grow cS (aS.trans ar) wf a4;refine eQ<|.I Z<|.nil ?_;exact ⟨⟨(q.take (q.length - 1)) ++ ((rs.getD ((bq rs (k ++ [q.getD (q.length - 1) 0])).toNat) .zero).right).reverse,(k ++ [q.getD (q.length - 1) 0]).take (((k ++ [q.getD (q.length - 1) 0]).length) - (((rs.getD ((bq rs (k ++ [q.getD (q.length - 1) 0])).toNat) .zero).left).length)),n + 1,d ++ iM ((k ++ [q.getD (q.length - 1) 0]).take (((k ++ [q.getD (q.length - 1) 0]).length) - (((rs.getD ((bq rs (k ++ [q.getD (q.length - 1) 0])).toNat) .zero).left).length))) ((rs.getD ((bq rs (k ++ [q.getD (q.length - 1) 0])).toNat) .zero).proof),m + (dp (iM ((k ++ [q.getD (q.length - 1) 0]).take (((k ++ [q.getD (q.length - 1) 0]).length) - (((rs.getD ((bq rs (k ++ [q.getD (q.length - 1) 0])).toNat) .zero).left).length))) ((rs.getD ((bq rs (k ++ [q.getD (q.length - 1) 0])).toNat) .zero).proof))),f - 1,gM,.slice (some ⟨c7,0,none⟩) (((k ++ [q.getD (q.length - 1) 0]).length) - (((rs.getD ((bq rs (k ++ [q.getD (q.length - 1) 0])).toNat) .zero).left).length)) cb,.slice bA bv bm⟩,ya Z Z Z Z Z Z,Z,⟨⟨Iu O O hrun ‹_› ‹¬ bq rs (k ++ [q.getD (q.length - 1) 0]) < 0› ⟨qS ‹(!DF _ _)=false›,by omega,by show d.length + (rs.getD (bq rs (k ++ [q.getD (q.length - 1) 0])).toNat .zero).proof.length<=100000;have h0:=hmk (qS ‹(!DF _ _)=false›);have h9:=@Xx _ d (iM ((k ++ [q.getD (q.length - 1) 0]).take ((k ++ [q.getD (q.length - 1) 0]).length - (rs.getD (bq rs (k ++ [q.getD (q.length - 1) 0])).toNat .zero).left.length)) (rs.getD (bq rs (k ++ [q.getD (q.length - 1) 0])).toNat .zero).proof);omega,by show m + dp (iM ((k ++ [q.getD (q.length - 1) 0]).take ((k ++ [q.getD (q.length - 1) 0]).length - (rs.getD (bq rs (k ++ [q.getD (q.length - 1) 0])).toNat .zero).left.length)) (rs.getD (bq rs (k ++ [q.getD (q.length - 1) 0])).toNat .zero).proof)<=1000000;omega⟩,Gu hlen hkl (hrf ‹¬ bq rs (k ++ [q.getD (q.length - 1) 0]) < 0›).2.2.1 (hrf ‹¬ bq rs (k ++ [q.getD (q.length - 1) 0]) < 0›).2.1 ‹0 < q.length›,Vc hs hok ‹¬ bq rs (k ++ [q.getD (q.length - 1) 0]) < 0›,by omega,by omega,by omega,Mr hf O (by have h1:=hrf ‹¬ bq rs (k ++ [q.getD (q.length - 1) 0]) < 0›;omega) ‹0 < q.length›⟩,f2,e6,(cU.appd a4 (bx.symm c3)),(cV.appd a4 (bx.symm d3)),(a4.keep a2 dJ),(a4.keep ac dK),(a4.keep ad dL),(a4.ne a2 aR dJ),ba,bV,(a4.ne ac aR dK),cZ,(a1.ne ab aP dG),(a4.ne ad aR dL),d0,(a1.ne a7 aP dI),(bx.appd (show bx (.slice (some ⟨aB,0,none⟩) (q.length - 1) aC) (.slice (some ⟨c7,0,none⟩) (((k ++ [q.getD (q.length - 1) 0]).length) - (((rs.getD ((bq rs (k ++ [q.getD (q.length - 1) 0])).toNat) .zero).left).length)) cb) from (bx.symm c3)) cU.own aR a4),(bx.appd (show bx (.slice (some ⟨aB,0,none⟩) (q.length - 1) aC) (.slice bA bv bm) from (bx.symm d3)) cV.own aR a4),(bx.symm (bx.appd (show bx dv (.slice (some ⟨c7,0,none⟩) (((k ++ [q.getD (q.length - 1) 0]).length) - (((rs.getD ((bq rs (k ++ [q.getD (q.length - 1) 0])).toNat) .zero).left).length)) cb) from (bx.symm bY)) cF.own aP a1))⟩,O1⟩
 refine ak.exit<|ha<|.sq fun g4=>.region<|.J Z<|.m (fun eS=>eK (s:=k) Z c0 u9 u5 ag.slc ?_);refine eS<|.p (ae jT ek U Z)<|.m (fun eT=>aW (cs:=[ax (k)]) (c':=[ax (k),num ((n:Nat):Int),dv]) dZ rfl rfl rfl rfl ek aV G rfl rfl fun A382 aT=>?_);have cX:=b2.keep aT.keep a3;refine eT<|.nil<|g4<|.sq fun g5=>.region<|.p (am oC eW Z Z aT.get Z) ?_;obtain ⟨dW,dM,dd,gL,_⟩:=cX.own.slice;subst gL;refine Ops.m (fun eV=>aW (cs:=[ax (k),num ((n:Nat):Int),.slice dW dM dd]) (c':=[ax (k),num ((n:Nat):Int),.slice dW dM dd]) aT.wf rfl rfl rfl rfl eW (aT.k aI b3) G rfl rfl fun A394 b1=>?_);have e7:=cX.keep b1.keep a7;have f3:=al (al cu wf br aT.n aT.keep) wf b0 b1.n b1.keep;refine eV<|.I Z<|.nil<|g5<|.rt (by exact aH (df oC eW Z b1.get Z (dA Z d5)) (⟨_,by rw [pr (uR O O hrun)];rfl,f3,b1.wf,by rw [pr (uR O O hrun)];exact e7⟩))
theorem pw (g:Int) (u:Value) (l:List W8) (rv:Value) (rs:List an) (w:W8) (A:AH) (hs:bI g l rs=true) (hwn:w.length<=9223372036854775807) (hu:bJ A 1 u (dN l)) (hr:bJ A 3 rv (cd rs)) (hp:Proofs A rs):bH prog 58 #[.agg #[num (g),u,rv],ax (w)] A (fun v A1=>∃ dv,v=.tuple #[.agg #[ax (fK g rs w).word,num (((fK g rs w).steps:Nat):Int),dv],num ((gJ g rs w:Nat):Int)]/\A.le A1/\A1.wf/\Fresh A A1 dv 3 (co (fK g rs w).disk)):=by
 refine bi (e:=[(0,.agg #[num (g),u,rv]),(1,ax (w))]) (args:=[.agg #[num (g),u,rv],ax (w)]) call58 func58 Z results58 ntmps58 Z Z Z (fun wf=>?_);have bc:=AH.le.refl A;refine ak.sq fun h2=>.region<|.m (fun ba=>d8 wf rfl rfl fun A5 b4 ai=>?_);have ay:=bc.trans ai.le;refine ba<|.m (fun bb=>bZ ai.wf s8 rfl fun A10 b9 h=>?_);have a0:=aX wf (Xj ay.n h.lo);have ap:=h.le.g ai.get;have V:=ay.trans h.le;refine bb<|.I Z<|.nil<|h2<|.sq fun aV=>.sq fun aY=>.region<|.J Z<|.p (ae gi ik U Z)<|.p (ae gh dH U Z) ?_;refine Ops.p (ah fA Z Z ap Z)<|.m (fun aA=>aq Z (qm w ((g)) A10 hwn (dc (cT hs).1).1) ?_);rintro bv A20 ⟨rfl,rfl⟩;refine aA<|.p (kI Z)<|.nil<|aY<|.if rfl (fun bd=>?_) (fun bd=>?_)
 ·refine ak.sq fun aZ=>.region<|.p (cx Z (bg XC s8 yv Z))<|.m (fun aB=>aW (cs:=[ax ([]),num ((0:Nat):Int),.slice none 0 0]) (c':=[ax ([]),num ((0:Nat):Int),.slice none 0 0]) h.wf rfl rfl rfl rfl eW h.get G rfl rfl fun A26 a2=>?_);have aP:=al V wf a0 a2.n a2.keep;refine aB<|.I Z<|.nil<|aZ<|.rt (by exact aH (df oC eW Z a2.get Z (dA Z d5)) (⟨_,by (rw [(ua ‹_›).1,(ua ‹_›).2];rfl),aP,a2.wf,by (rw [(ua ‹_›).1];exact Fresh.nil _ _ _)⟩))
 refine ak.skip<|aV<|.sq fun b0=>.sq fun b1=>.region<|.J Z<|.p (cN u9 Z)<|.p (eh (b:=20000) Z Z)<|.nil<|b1 ?_;refine ak.if rfl (fun bl=>?_) (fun bl=>?_)
 ·refine ak.sq fun b2=>.region<|.p (cx Z (bg XC s8 yv Z))<|.m (fun aC=>aW (cs:=[ax ([]),num ((0:Nat):Int),.slice none 0 0]) (c':=[ax ([]),num ((0:Nat):Int),.slice none 0 0]) h.wf rfl rfl rfl rfl eW h.get G rfl rfl fun A38 a3=>?_);have aR:=al V wf a0 a3.n a3.keep;refine aC<|.I Z<|.nil<|b2<|.rt (by exact aH (df oC eW Z a3.get Z (dA Z d5)) (⟨_,by (rw [(D6 ‹_› ‹_›).1,(D6 ‹_› ‹_›).2];rfl),aR,a3.wf,by (rw [(D6 ‹_› ‹_›).1];exact Fresh.nil _ _ _)⟩))
 refine ak.skip<|b0<|.sq fun b3=>.region<|.p (am ei dE Z Z ap Z)<|.J Z<|.m (fun aD=>aq Z (s_RRun ((g)) u l rv rs w A10 hs (Decidable.not_not.1 ‹_›) O (hu.le V) (hr.le V) (hp.le V)) ?_);rintro bA A46 ⟨br,rfl,a9,a5,a7⟩;have ar:=a9.g h.get;have ad:=V.trans a9;have ab:=a7.base V;refine aD<|.J Z<|.p (aQ Z Z)<|.p (aQ Z Z)<|.m (fun aE=>bZ a5 s8 rfl fun A56 bu D=>?_);have ac:=ab.le D.le;refine aE ?_;obtain ⟨aa,a8,a6,bp,_⟩:=ac.own.slice;subst bp;refine Ops.m (fun aF=>aW (cs:=[ax ((da (gT rs w)).word),num (((da (gT rs w)).steps:Nat):Int),.slice aa a8 a6]) (c':=[ax ((da (gT rs w)).word),num (((da (gT rs w)).steps:Nat):Int),.slice aa a8 a6]) D.wf rfl rfl rfl rfl eW D.get G rfl rfl fun A65 X=>?_);have av:=X.k (ne_new a5 ar D.lo) (D.le.g ar);have ag:=al (ad.trans D.le) wf (aX wf (Xj ad.n D.lo)) X.n X.keep;refine aF<|.I Z<|.nil<|b3<|.sq fun b5=>.sq fun b6=>.region<|.J Z<|.p (eD Z)<|.nil ?_;refine b6<|.ifB Z (fun bm=>?_) (fun bm=>?_)
 ·refine ak.sq fun b7=>.region<|.p (cx Z (bg XC s8 yv Z))<|.m (fun aG=>aW (cs:=[ax ([]),num ((0:Nat):Int),.slice none 0 0]) (c':=[ax ([]),num ((0:Nat):Int),.slice none 0 0]) X.wf rfl rfl rfl rfl eW av G rfl rfl fun A79 a4=>?_);have aS:=al ag wf a0 a4.n a4.keep;refine aG<|.I Z<|.nil<|b7<|.rt (by exact aH (df oC eW Z a4.get Z (dA Z d5)) (⟨_,by (rw [(D7 ‹_› ‹_› ‹_›).1,(D7 ‹_› ‹_› ‹_›).2];rfl),aS,a4.wf,by (rw [(D7 ‹_› ‹_› ‹_›).1];exact Fresh.nil _ _ _)⟩))
 refine ak.skip<|b5<|.sq fun b8=>.region<|.p (am oC eW Z Z X.get Z)<|.m (fun aI=>aW (cs:=[ax ((da (gT rs w)).word),num (((da (gT rs w)).steps:Nat):Int),.slice aa a8 a6]) (c':=[ax ((da (gT rs w)).word),num (((da (gT rs w)).steps:Nat):Int),.slice aa a8 a6]) X.wf rfl rfl rfl rfl eW av G rfl rfl fun A88 a1=>?_);have az:=(ac.keep X.keep (ab.own.ne_new a5 D.lo)).keep a1.keep (a7.ne h.wf h.get);have aT:=al ag wf a0 a1.n a1.keep;refine aI<|.I Z<|.nil<|b8<|.rt (by exact aH (df oC eW Z a1.get Z (dA Z d5)) (⟨_,by (rw [(D8 ‹_› ‹_› ‹_›).1,(D8 ‹_› ‹_› ‹_›).2];rfl),aT,a1.wf,by (rw [(D8 ‹_› ‹_› ‹_›).1];exact az)⟩))
namespace V
end V
namespace V
section
variable {A B C:AH} {b:Nat} {v v':Value} {size:Nat} {xs ys:List Value}
def Defs (A0 A:AH) (Ds:List Nat):Prop:=Ds.Nodup/\∀ D ∈ Ds,A.get D=some (.obj true (.deferred (some [])))/\A0.get D=none
end
end V
namespace V
def xL (ops:Array Oper):Array Bool->List Nat->Nat->Nat->List Nat->List Nat->Bool
  | listed,[],i,j,C,D=>(Region.ready .any ops listed == [i,j]) && nW ops (listed.setIfInBounds i true) C && nW ops (listed.setIfInBounds j true) D && (C.length == D.length)
  | listed,q :: Cq,i,j,C,D=>match ops[q]? with
    | none=>false
    | some o=>dF o.op && (Region.ready .any ops listed).contains q && Region.free .any ops listed q && xL ops (listed.setIfInBounds q true) Cq i j C D
section
variable {P:Program} {nt:Nat} {ops:Array Oper} {Q:Exit->Fr->AH->Prop} {f:Fr} {A:AH}
def i8 (P:Program) (nt:Nat) (ops:Array Oper) (Q:Exit->Fr->AH->Prop) (listed:Array Bool) (held:List (Nat × fC)) (Cq:List Nat) (i j:Nat) (C D:List Nat) (f:Fr) (A:AH):Prop :=
  xL ops listed Cq i j C D=true->Region.noSelect ops=true->∀ a w,dC nt f a->cD A w->eH ops held listed w->md ops listed ->
    ∀ (A₀:AH) (w₀:World),fx A₀ w₀ A w->fW P ops (eM nt Q A₀ w₀) (eH ops held) (Cq.length + (C.length + 1)) listed a w
theorem i8.quiet {listed:Array Bool} {held:List (Nat × fC)} {q i j:Nat} {Cq C D:List Nat} {o:Oper} {v:Value} {T:fC} (ho:ops[q]? = some o) (hq:dF o.op=true) (hd:∀ t,o.dst=some t->t < nt)
    (hv:∀ a w,dC nt f a->cD A w->gt T w/\YieldsIf P ops (gt T) o v a)
    (h:i8 P nt ops Q (listed.setIfInBounds q true) ((q,T) :: held) Cq i j C D ⟨gj f.e o.dst v,f.ds⟩ A):i8 P nt ops Q listed held (q :: Cq) i j C D f A:=by
  intro hc hn a w ha hw hh hcl A₀ w₀ hs
  simp only [xL,ho,XQ] at hc
  obtain ⟨⟨⟨_,c1⟩,c2⟩,c3⟩:=hc
  obtain ⟨t1,t2⟩:=hv a w ha hw
  have hr:q ∈ Region.ready .any ops listed:=by simpa using c1
  have hheld:eH ops ((q,T) :: held) listed w:=fun p hp hj=>by
    rcases Vz.1 hp with rfl | hp
    · exact t1
    · exact hh p hp hj
  have H:=h c3 hn _ w (ha.put o.dst v hd) hw ((j9 ho hq _ _).2 hheld) (iU hcl hr) A₀ w₀ hs
  have free:=Region.free_spec ho c2
  have H':fW P ops (eM nt Q A₀ w₀) (eH ops ((q,T) :: held)) (Cq.length + (C.length + 1) + 1) listed a w :=
    qs (T:=gt T) ho (Region.noSelect_spec hn) (fun c a w g=>vH _ _ c a w g)
      (fun l w' hcl' hun hS=>hS (q,T) (Vy ..) fun j hl ⟨oj,hoj,_⟩=>by
        cases e:ms ops q ops.size j with
        | false=>rfl
        | true =>
          have:=kJ hcl' ops.size j oj hoj (hcl' j oj hoj hl) e
          rw [jg hun] at this;cases this)
      (fun l w'=>j9 ho hq l w') _ listed a w hcl (fun j oj hoj hne hun hno=>free j oj hoj hne hun hno) hr t2 hheld H
  have weaken:∀ (fuel:Nat) (l:Array Bool) (a:Act) (w:World),fW P ops (eM nt Q A₀ w₀) (eH ops ((q,T) :: held)) fuel l a w->fW P ops (eM nt Q A₀ w₀) (eH ops held) fuel l a w:=by
    intro fuel
    induction fuel with
    | zero=>intro l a w h;exact h
    | succ fuel ih=>intro l a w h;exact ⟨h.1,fun j hj=>wpOp_mono (fun a' w' h'=>⟨fun p hp=>h'.1 p (VZ _ hp),ih _ _ _ h'.2⟩) (h.2 j hj)⟩
  rw [Xq,Nat.add_right_comm]
  exact weaken _ _ _ _ H'
theorem Ao {listed:Array Bool} {held:List (Nat × fC)} {i:Nat} {C:List Nat} {o:Oper} {a:Act} {w:World} {A₀:AH} {w₀:World} (ho:ops[i]? = some o) (hq:dF o.op=false) (hd:∀ t,o.dst=some t->t < nt) (hwn:∀ a:Act,dC nt f a->Region.wanted o (yielded ops a.tmps)=true)
    (c2:nW ops (listed.setIfInBounds i true) C=true) (hn:Region.noSelect ops=true) (ha:dC nt f a) (hw:cD A w) (hcl:md ops listed) (hs:fx A₀ w₀ A w) (hr:i ∈ Region.ready .any ops listed)
    (h:∀ (K:Value->AH->Prop) (Kp:List PanicEntry->AH->Prop),
      (∀ v A',(∀ w',cD A' w'->∀ p ∈ held,ms ops p.1 ops.size i=false->gt p.2 w')->bn P nt ops Q (listed.setIfInBounds i true) (held.filter fun p=>!ms ops p.1 ops.size i) C ⟨gj f.e o.dst v,f.ds⟩ A'->K v A') ->
      (∀ ch A',Q (.panic ch) ⟨[],f.ds⟩ A'->Kp ch A')->ll P f.e A o K Kp) :
    wpOp P ops (eM nt Q A₀ w₀) i (fun a' w'=>eH ops held (listed.setIfInBounds i true) w'/\fW P ops (eM nt Q A₀ w₀) (eH ops held) C.length (listed.setIfInBounds i true) a' w') a w:=by
  have hlt:i < listed.size:=by
    have:=(mem_ready.1 hr).1
    rcases VY i listed.size with h' | h'
    · exact h'
    · simp [Ry h'] at this
  have hl:(listed.setIfInBounds i true).getD i false=true:=by simp [hlt]
  unfold wpOp
  simp only [ho,hwn a ha,if_true]
  left
  have:=sA (o:=o) (K:=fun v A'=>(∀ w',cD A' w'->∀ p ∈ held,ms ops p.1 ops.size i=false->gt p.2 w')/\bn P nt ops Q (listed.setIfInBounds i true) (held.filter fun p=>!ms ops p.1 ops.size i) C ⟨gj f.e o.dst v,f.ds⟩ A')
    (Kp:=fun ch A'=>Q (.panic ch) ⟨[],f.ds⟩ A') ha hw (h _ _ (fun v A' g1 g2=>⟨g1,g2⟩) (fun ch A' g=>g))
  unfold Oper.wp at this ⊢
  have up:∀ r,o.upon P a (kF A a w o fun v A'=>(∀ w',cD A' w'->∀ p ∈ held,ms ops p.1 ops.size i=false->gt p.2 w')/\bn P nt ops Q (listed.setIfInBounds i true) (held.filter fun p=>!ms ops p.1 ops.size i) C ⟨gj f.e o.dst v,f.ds⟩ A') (i5 A a w fun ch A'=>Q (.panic ch) ⟨[],f.ds⟩ A') r ->
      o.upon P a (fun a' w'=>eH ops held (listed.setIfInBounds i true) w'/\fW P ops (eM nt Q A₀ w₀) (eH ops held) C.length (listed.setIfInBounds i true) a' w') (eM nt Q A₀ w₀) r:=by
    have next:∀ a' w',(kF A a w o fun v A'=>(∀ w',cD A' w'->∀ p ∈ held,ms ops p.1 ops.size i=false->gt p.2 w')/\bn P nt ops Q (listed.setIfInBounds i true) (held.filter fun p=>!ms ops p.1 ops.size i) C ⟨gj f.e o.dst v,f.ds⟩ A') a' w' ->
        eH ops held (listed.setIfInBounds i true) w'/\fW P ops (eM nt Q A₀ w₀) (eH ops held) C.length (listed.setIfInBounds i true) a' w':=by
      rintro a' w' ⟨v,A',rfl,hv',hs',g1,g2⟩
      have hlo:V.loud ops i:=⟨o,ho,hq⟩
      have hh':eH ops held (listed.setIfInBounds i true) w':=fun p hp hj=>g1 w' hv' p hp (hj i hl hlo)
      refine ⟨hh',?_⟩
      have H:=g2 c2 hn _ w' (ha.put o.dst v hd) hv' (fun p hp hj=>hh' p (Sq.1 hp).1 hj) (iU hcl hr) A₀ w₀ (hs.trans hs')
      refine mc (x:=i) (fun l w hx hS p hp hj=>hS p (Sq.2 ⟨hp,?_⟩) hj) _ _ _ _ hl H
      simp [hj i hx hlo]
    have pan:∀ x a' w',i5 A a w (fun ch A'=>Q (.panic ch) ⟨[],f.ds⟩ A') x a' w'->eM nt Q A₀ w₀ x a' w':=by
      rintro x a' w' ⟨ch,A',rfl,rfl,hv',hs',g⟩
      exact ⟨⟨[],f.ds⟩,A',⟨ha.size,(fun _ _ q=>by cases q),ha.ds⟩,hv',hs.trans hs',g,fun _ _=>rfl⟩
    intro r hr'
    cases r with
    | ok n w' =>
      cases n <;> simp only [Oper.upon] at hr' ⊢ <;> (try exact hr'.elim)
      case value v=>exact next _ _ hr'
      case skip=>exact next _ _ hr'
      case defer d=>exact next _ _ hr'
      case enter f' args =>
        refine hr'.mono fun e w'' he=>?_
        cases e with
        | returned v=>exact next _ _ he
        | panicked ch=>exact pan _ _ _ he
        | outgrown=>obtain ⟨a₁,w₁,ch,A',q,_⟩:=he;cases q
      case row row args=>exact hr'.mono fun v w'' he=>next _ _ he
    | halt x w' =>
      cases x <;> simp only [Oper.upon] at hr' ⊢ <;> (try exact hr'.elim)
      case panic v=>exact pan _ _ _ hr'
  exact up _ this
variable {e:im} {ds:List Deferred}
theorem i8.q {listed:Array Bool} {held:List (Nat × fC)} {i j k d:Nat} {Cq C D:List Nat} {op:Op} {ty:TypeId} {ps:String} {af:Array Edge} {v:Value} {T:fC} (ho:ops[k]? = some { dst:=some d,op:=op,type:=ty,pos:=ps,after:=af,guard:=none }) (hq:dF op=true) (hd:Nat.blt d nt=true) (hv:bk P e A op=some (v,T))
    (h:i8 P nt ops Q (listed.setIfInBounds k true) ((k,T) :: held) Cq i j C D ⟨(d,v) :: e,ds⟩ A):i8 P nt ops Q listed held (k :: Cq) i j C D ⟨e,ds⟩ A :=
  i8.quiet (f:=⟨e,ds⟩) (T:=T) (v:=v) ho hq (dq (d:=some d) hd) (fun a w ha hw=>by
    have key:=ig (P:=P) (f:=(⟨e,ds⟩:Fr)) (o:={ dst:=some d,op:=op,type:=ty,pos:=ps,after:=af,guard:=none }) hv ha hw
    exact ⟨key.1,.inl ⟨by simp [Region.wanted],key.2⟩⟩) h
theorem i8.p {listed:Array Bool} {held:List (Nat × fC)} {i j k d:Nat} {Cq C D:List Nat} {op:Op} {ty:TypeId} {ps:String} {af:Array Edge} {v:Value} {T:fC} (ho:ops[k]? = some { dst:=some d,op:=op,type:=ty,pos:=ps,after:=af,guard:=none }) (hv:bk P e A op=some (v,T))
    (h:i8 P nt ops Q (listed.setIfInBounds k true) ((k,T) :: held) Cq i j C D ⟨(d,v) :: e,ds⟩ A) (hq:dF op=true:=by exact Z) (hd:Nat.blt d nt=true:=by exact Z):i8 P nt ops Q listed held (k :: Cq) i j C D ⟨e,ds⟩ A:=i8.q ho hq hd hv h
theorem i8.both {listed:Array Bool} {held:List (Nat × fC)} {i j:Nat} {C D:List Nat} {di dj:Option Nat} {opi opj:Op} {ti tj:TypeId} {pi pj:String} {afi afj:Array Edge}
    (hoi:ops[i]? = some { dst:=di,op:=opi,type:=ti,pos:=pi,after:=afi,guard:=none }) (hoj:ops[j]? = some { dst:=dj,op:=opj,type:=tj,pos:=pj,after:=afj,guard:=none }) (hqi:dF opi=false) (hqj:dF opj=false) (hdi:gB nt di=true) (hdj:gB nt dj=true)
    (hi:∀ (K:Value->AH->Prop) (Kp:List PanicEntry->AH->Prop),(∀ v A',aU ops held i A'->bn P nt ops Q (listed.setIfInBounds i true) (held.filter fun p=>!ms ops p.1 ops.size i) C ⟨gj e di v,ds⟩ A'->K v A') ->
      (∀ ch A',Q (.panic ch) ⟨[],ds⟩ A'->Kp ch A')->ll P e A { dst:=di,op:=opi,type:=ti,pos:=pi,after:=afi,guard:=none } K Kp)
    (hj:∀ (K:Value->AH->Prop) (Kp:List PanicEntry->AH->Prop),(∀ v A',aU ops held j A'->bn P nt ops Q (listed.setIfInBounds j true) (held.filter fun p=>!ms ops p.1 ops.size j) D ⟨gj e dj v,ds⟩ A'->K v A') ->
      (∀ ch A',Q (.panic ch) ⟨[],ds⟩ A'->Kp ch A')->ll P e A { dst:=dj,op:=opj,type:=tj,pos:=pj,after:=afj,guard:=none } K Kp):i8 P nt ops Q listed held [] i j C D ⟨e,ds⟩ A:=by
  intro hc hn a w ha hw hh hcl A₀ w₀ hs
  simp only [xL,XQ,QX] at hc
  obtain ⟨⟨⟨c1,c2⟩,c3⟩,c4⟩:=hc
  rw [Xz,Qq]
  refine ⟨fun h0=>(by rw [c1] at h0;cases h0),fun k hk=>?_⟩
  have hk':=hk
  rw [c1] at hk'
  simp only [Vz,Ty,or_false] at hk'
  rcases hk' with rfl | rfl
  · exact Ao (C:=C) hoi hqi (dq hdi) (fun a _=>by simp [Region.wanted]) c2 hn ha hw hcl hs hk hi
  · rw [c4];exact Ao (C:=D) hoj hqj (dq hdj) (fun a _=>by simp [Region.wanted]) c3 hn ha hw hcl hs hk hj
theorem ak.drawnP {id:Nat} (Cq:List Nat) (i j:Nat) (C D:List Nat) (hm:P.follows .mixedOrders=true) (hc:xL ops (Array.replicate ops.size false) Cq i j C D=true) (hn:Region.noSelect ops=true) (hl:Cq.length + (C.length + 1)=ops.size)
    (h:i8 P nt ops Q (Array.replicate ops.size false) [] Cq i j C D f A):ak P nt (.region id ops true) Q f A:=by
  intro a w ha hw
  obtain ⟨v1,s1⟩:=j5 hw
  refine wp_mono (wp_region_any hm (lh (Q:=eM nt Q A w) (S:=eH ops []) _ _ _ _ ?_)) (fun _ _ _=>eM.q)
  have key:=h hc hn a _ ha v1 (fun p hp=>by cases hp) (fun j o _ hj=>by
    exfalso
    rcases VY j ops.size with q | q
    · simp [q] at hj
    · simp [q] at hj) A w s1
  rw [hl] at key
  exact key
end
end V
namespace V
section
variable {P:Program} {nt:Nat} {A:AH}
def lj (P:Program) (g:FuncId) (args:Array Value) (u:FrameMode) (A:AH) (Q:Ending->FrameMode->AH->Prop):Prop :=
  ∀ w,cD A w->CallsD P g args u w fun e u' w'=>∃ A',cD A' w'/\fx A w A' w'/\Q e u' A'
theorem lj.mono {g:FuncId} {args:Array Value} {u:FrameMode} {Q Q':Ending->FrameMode->AH->Prop} (h:lj P g args u A Q)
    (k:∀ e u' A',Q e u' A'->Q' e u' A'):lj P g args u A Q' :=
  fun w hw=>(h w hw).mono fun _ _ _ ⟨A',v,s,q⟩=>⟨A',v,s,k _ _ _ q⟩
def nS (P:Program) (rs:List ResultVar) (e:im) (Q:Ending->AH->Prop):List Deferred->FrameMode->AH->Prop
  | [],.returning,A=>∃ vs,iE P e A rs=some vs/\Q (.returned (ej vs)) A
  | [],.panicking ch,A=>Q (.panicked ch) A
  | [],.run,_=>False
  | d :: ds,u,A=>u ≠ .run/\∃ fv cap g args,d.target=.fn fv cap/\(∀ w,(invoke d.target d.args).run P w=.ok (.enter g args) w) /\
      lj P g args u A fun
        | .returned _,u',A'=>nS P rs e Q ds (settle u') A'
        | .panicked ch,u',A'=>nS P rs e Q ds (raised u' ch) A'
        | .outgrown,_,_=>False
theorem Df {fn:Func} {e:im} {a:Act} {Q:Ending->AH->Prop} {A₀:AH} {w₀:World} (hsz:a.tmps.size=nt) (hsl:∀ t v,cM e t=some v->a.tmps.getD t undef=v/\t < nt) :
    ∀ (ds:List Deferred) (u:FrameMode) (A:AH) (w:World),cD A w->fx A₀ w₀ A w->nS P fn.results.toList e Q ds u A ->
      Leaves P fn a.tmps (fun en w'=>∃ A',cD A' w'/\fx A₀ w₀ A' w'/\Q en A') ds u w:=by
  intro ds
  induction ds with
  | nil =>
    intro u A w hv hs h
    cases u with
    | run=>exact h.elim
    | returning =>
      obtain ⟨vs,hr,hq⟩:=h
      exact ⟨_,ke (nt:=nt) (f:=⟨e,a.defers⟩) (a:=a) ⟨hsz,hsl,Z⟩ hv hr,A,hv,hs,hq⟩
    | panicking ch=>exact ⟨A,hv,hs,h⟩
  | cons d ds ih =>
    intro u A w hv hs h
    obtain ⟨hu,fv,cap,g,args,ht,hi,hc⟩:=h
    refine ⟨hu,fv,cap,g,args,ht,hi w,(hc w hv).mono ?_⟩
    rintro en u' w' ⟨A',hv',hs',hq⟩
    cases en with
    | returned v=>exact ih _ A' w' hv' (hs.trans hs') hq
    | panicked ch=>exact ih _ A' w' hv' (hs.trans hs') hq
    | outgrown=>exact hq.elim
def Jm (P:Program) (rs:List ResultVar) (Q:Ending->AH->Prop):Exit->Fr->AH->Prop
  | .normal,f,A | .ret,f,A=>nS P rs f.e Q f.ds .returning A
  | .panic ch,f,A=>nS P rs f.e Q f.ds (.panicking ch) A
  | _,_,_=>False
theorem RN {args:List Value} (hn:args.length<=nt):dC nt ⟨uq args 0,[]⟩ { tmps:=args.toArray ++ Array.replicate (nt - args.toArray.size) undef,defers:=[] }:=by
  refine ⟨by simp;omega,fun t v q=>?_,Z⟩
  obtain ⟨_,h2⟩:=xG args 0 t v q
  simp only [Nat.sub_zero] at h2
  have hlt:t < args.length:=(Rx.1 h2).1
  refine ⟨?_,by omega⟩
  simp only [Array.getD_eq_getD_getElem?]
  rw [SV (by simpa using hlt)]
  simp [h2]
theorem iy.enterD {g:FuncId} {fn:Func} {c:Code} {args:List Value} {Qe:Ending->AH->Prop} (he:f5 P g) (hf:P.funcs[g]? = some fn) (hb:fn.body=some c) (hn:args.length<=fn.ntmps)
    (h:A.wf->ak P fn.ntmps c (Jm P fn.results.toList Qe) ⟨uq args 0,[]⟩ A):iy P g args.toArray A Qe:=by
  refine ⟨he,fun w hw=>calls_of_wp_defers hf hb ?_⟩
  refine wp_mono (h hw.wf _ w (RN hn) hw) ?_
  rintro x a' w' ⟨f',A',h1,h2,h3,h4,h5⟩
  cases x <;> simp only [Jm] at h4 <;> (try exact h4.elim)
  case normal=>simp only [bodyPostD];rw [h1.ds];exact Df h1.size h1.slot _ _ _ _ h2 h3 h4
  case ret=>simp only [bodyPostD];rw [h1.ds];exact Df h1.size h1.slot _ _ _ _ h2 h3 h4
  case panic ch=>simp only [bodyPostD];rw [h1.ds];exact Df h1.size h1.slot _ _ _ _ h2 h3 h4
def PostS (nt:Nat) (Q:Exit->FrameMode->Fr->AH->Prop) (A:AH) (w:World) (c₀:Frame) (cs:List Frame):Exit->Act->List Frame->World->Prop :=
  fun x a' cs' w'=>∃ u' f' A',cs'={ c₀ with mode:=u' } :: cs/\dC nt f' a'/\cD A' w'/\fx A w A' w'/\Q x u' f' A'
def tm (P:Program) (nt:Nat) (c:Code) (Q:Exit->FrameMode->Fr->AH->Prop) (u:FrameMode) (f:Fr) (A:AH):Prop :=
  ∀ a w (c₀:Frame) cs,c₀.mode=u->dC nt f a->cD A w->c.wpS P (PostS nt Q A w c₀ cs) a (c₀ :: cs) w
def vi (P:Program) (nt:Nat) (all:Array Oper) (l:List Nat) (Q:Exit->FrameMode->Fr->AH->Prop) (u:FrameMode) (f:Fr) (A:AH):Prop :=
  ∀ a w (c₀:Frame) cs,c₀.mode=u->dC nt f a->cD A w->∀ (A₀:AH) (w₀:World),fx A₀ w₀ A w->wpOpsS P all (PostS nt Q A₀ w₀ c₀ cs) l a (c₀ :: cs) w
variable {Q:Exit->FrameMode->Fr->AH->Prop} {u:FrameMode} {f:Fr} {all:Array Oper} {l:List Nat} {e:im} {ds:List Deferred}
theorem zk {c:Code} {R R':Exit->Act->List Frame->World->Prop} {a:Act} {cs:List Frame} {w:World} (h:c.wpS P R a cs w) (k:∀ x a cs w,R x a cs w->R' x a cs w):c.wpS P R' a cs w :=
  fun b kk hb hr=>let ⟨x,a',cs',w',q,r⟩:=h b kk hb hr;⟨x,a',cs',w',k _ _ _ _ q,r⟩
theorem tm.of_run {c:Code} (h:ak P nt c (fun x f A=>Q x u f A) f A):tm P nt c Q u f A:=by
  intro a w c₀ cs hu ha hw
  refine wpS_of_wp (wp_mono (h a w ha hw) ?_)
  rintro x a' w' ⟨f',A',h1,h2,h3,h4,_⟩
  exact ⟨u,f',A',by subst hu;rfl,h1,h2,h3,h4⟩
def thenS (K:FrameMode->Fr->AH->Prop) (Q:Exit->FrameMode->Fr->AH->Prop):Exit->FrameMode->Fr->AH->Prop
  | .normal,u,f,A=>K u f A
  | x,u,f,A=>Q x u f A
theorem tm.seq {x y:Code} (h:tm P nt x (thenS (fun u f A=>tm P nt y Q u f A) Q) u f A):tm P nt (x.seq y) Q u f A:=by
  intro a w c₀ cs hu ha hw
  refine wpS_seq (zk (h a w c₀ cs hu ha hw) ?_)
  rintro e a' cs' w' ⟨u',f',A',rfl,h1,h2,h3,h4⟩
  cases e with
  | normal =>
    refine zk (h4 a' w' { c₀ with mode:=u' } cs Z h1 h2) ?_
    rintro x a'' cs'' w'' ⟨u2,f2,A2,rfl,g1,g2,g3,g4⟩
    exact ⟨u2,f2,A2,Z,g1,g2,h3.trans g3,g4⟩
  | _=>exact ⟨u',f',A',Z,h1,h2,h3,h4⟩
theorem tm.region {id:Nat} {ops:Array Oper} (hl:List.range ops.size=l) (h:vi P nt ops l Q u f A):tm P nt (.region id ops false) Q u f A:=by
  intro a w c₀ cs hu ha hw
  refine wpS_region ?_
  rw [hl]
  exact h a w c₀ cs hu ha hw A w (.refl _ _)
theorem vi.nil (h:Q .normal u f A):vi P nt all [] Q u f A:=by
  intro a w c₀ cs hu ha hw A₀ w₀ hs
  exact ⟨u,f,A,by subst hu;rfl,ha,hw,hs,h⟩
theorem vi.recover {i:Nat} {o:Oper} {d:Nat} {v:Value} {older:List PanicEntry} (ho:all[i]? = some o) (hg:o.guard=none) (hd:o.dst=some d) (hdn:d < nt)
    (hr:∀ ρ w,(execOp ρ o).run P w=.ok .recover w)
    (h:vi P nt all l Q (.panicking ({ v:=v,recovered:=true } :: older)) ⟨(d,v) :: e,ds⟩ A) :
    vi P nt all (i :: l) Q (.panicking ({ v:=v,recovered:=false } :: older)) ⟨e,ds⟩ A:=by
  intro a w c₀ cs hu ha hw A₀ w₀ hs
  simp only [wpOpsS,ho]
  rw [XX (by simp [Region.wanted,hg]),hr]
  simp only [recoverD,hu]
  have:=h (a.put o.dst v) w { c₀ with mode:=.panicking ({ v:=v,recovered:=true } :: older) } cs Z (by have:=ha.put o.dst v (by rw [hd];rintro t ⟨⟩;exact hdn);rw [hd] at this ⊢;exact this) hw A₀ w₀ hs
  exact this
theorem vi.recoverNil {i:Nat} {o:Oper} {d:Nat} (ho:all[i]? = some o) (hg:o.guard=none) (hd:o.dst=some d) (hdn:d < nt)
    (hr:∀ ρ w,(execOp ρ o).run P w=.ok .recover w)
    (h:vi P nt all l Q .returning ⟨(d,.nilIface) :: e,ds⟩ A) :
    vi P nt all (i :: l) Q .returning ⟨e,ds⟩ A:=by
  intro a w c₀ cs hu ha hw A₀ w₀ hs
  simp only [wpOpsS,ho]
  rw [XX (by simp [Region.wanted,hg]),hr]
  simp only [recoverD,hu]
  have:=h (a.put o.dst .nilIface) w c₀ cs hu (by have:=ha.put o.dst .nilIface (by rw [hd];rintro t ⟨⟩;exact hdn);rw [hd] at this ⊢;exact this) hw A₀ w₀ hs
  exact this
def Si (P:Program) (rs:List ResultVar) (R:Ending->FrameMode->AH->Prop):Exit->FrameMode->Fr->AH->Prop
  | .normal,u,f,A | .ret,u,f,A=>f.ds=[]/\∃ vs,iE P f.e A rs=some vs/\R (.returned (ej vs)) u A
  | .panic ch,u,f,A=>f.ds=[]/\R (.panicked ch) u A
  | _,_,_,_=>False
theorem lj.enter {g:FuncId} {fn:Func} {c:Code} {args:List Value} {R:Ending->FrameMode->AH->Prop} (hf:P.funcs[g]? = some fn) (hb:fn.body=some c) (hn:args.length<=fn.ntmps)
    (h:A.wf->tm P fn.ntmps c (Si P fn.results.toList R) u ⟨uq args 0,[]⟩ A):lj P g args.toArray u A R:=by
  intro w hw
  refine callsD_of_wpS hf hb fun c₀ cs hu=>?_
  refine zk (h hw.wf _ w c₀ cs hu (RN hn) hw) ?_
  rintro x a' cs' w' ⟨u',f',A',rfl,h1,h2,h3,h4⟩
  cases x <;> simp only [Si] at h4 <;> (try exact h4.elim)
  case normal=>obtain ⟨q,vs,hr,hq⟩:=h4;exact ⟨h1.ds.trans q,u',Z,_,ke h1 h2 hr,A',h2,h3,hq⟩
  case ret=>obtain ⟨q,vs,hr,hq⟩:=h4;exact ⟨h1.ds.trans q,u',Z,_,ke h1 h2 hr,A',h2,h3,hq⟩
  case panic ch=>exact ⟨h1.ds.trans h4.1,u',Z,A',h2,h3,h4.2⟩
end
theorem Kf {P:Program} {t x:TypeId} {fs:Array Field} {v:Value} {w:World} (hu:P.underlying t=some (.struct fs)):(Instr.typeAssert (.iface t v) x t true).run P w=.ok (.tuple #[v,.bool true]) w:=by
  have h1:(underlying t).run P w=.ok (.struct fs) w:=by simp [underlying,go_sem,hu]
  simp [Instr.typeAssert,go_sem,h1]
section
variable {P:Program} {nt:Nat} {A:AH} {Q:Exit->Fr->AH->Prop} {all:Array Oper} {os:List Oper} {e:im} {ds:List Deferred} {o:Oper}
theorem Ops.raise {v:Value} (hg:o.guard=none) (hr:∀ a:Act,dC nt ⟨e,ds⟩ a->∀ w,cD A w->(execOp a.eval o).run P w=.halt (.panic v) w) (h:Q (.panic [{ v:=v,recovered:=false }]) ⟨e,ds⟩ A) :
    Ops P nt all (o :: os) Q ⟨e,ds⟩ A:=by
  intro a w ha hw A₀ w₀ hs
  unfold wpList
  rw [XX (by simp [Region.wanted,hg])]
  left
  unfold Oper.wp
  rw [hr a ha w hw]
  exact ⟨⟨e,ds⟩,A,ha,hw,hs,h,fun _ _=>trivial⟩
theorem Ops.val {v:Value} (hg:o.guard=none) (hd:gB nt o.dst=true) (hr:∀ a:Act,dC nt ⟨e,ds⟩ a->∀ w,cD A w->(execOp a.eval o).run P w=.ok (.value v) w) (h:Ops P nt all os Q ⟨gj e o.dst v,ds⟩ A) :
    Ops P nt all (o :: os) Q ⟨e,ds⟩ A:=by
  intro a w ha hw A₀ w₀ hs
  unfold wpList
  rw [XX (by simp [Region.wanted,hg])]
  left
  unfold Oper.wp
  rw [hr a ha w hw]
  exact h _ w (ha.put o.dst v (dq hd)) hw A₀ w₀ hs
theorem Ops.defer {d:Deferred} (hg:o.guard=none) (hd:o.dst=none) (hr:∀ a:Act,dC nt ⟨e,ds⟩ a->∀ w,cD A w->(execOp a.eval o).run P w=.ok (.defer d) w) (h:Ops P nt all os Q ⟨e,d :: ds⟩ A) :
    Ops P nt all (o :: os) Q ⟨e,ds⟩ A:=by
  intro a w ha hw A₀ w₀ hs
  unfold wpList
  rw [XX (by simp [Region.wanted,hg])]
  left
  unfold Oper.wp
  rw [hr a ha w hw]
  simp only [Oper.upon,hd]
  exact h ({ a with defers:=d :: a.defers }:Act) w ⟨ha.size,ha.slot,by have:=ha.ds;simp only at this ⊢;rw [this]⟩ hw A₀ w₀ hs
def Ci (P:Program) (g:FuncId) (args:Array Value) (A:AH) (R:Value->AH->Prop) (Rp:List PanicEntry->AH->Prop):Prop:=iy P g args A (Fw R Rp)
theorem Ci.ret {g:FuncId} {args:Array Value} {R:Value->AH->Prop} (h:Ci P g args A R (fun _ _=>False)):bH P g args A R :=
  iy.mono h fun en A' q=>by
    cases en with
    | returned v=>exact ⟨v,Z,q⟩
    | panicked ch=>exact q.elim
    | outgrown=>exact q.elim
variable {K:Value->AH->Prop} {Kp:List PanicEntry->AH->Prop} {g:Option (Nat × Bool)} {dst:Option Nat} {ty:TypeId} {ps:String} {af:Array Edge}
theorem XE {gg:FuncId} {vs:List Value} {R:Value->AH->Prop} {Rp:List PanicEntry->AH->Prop} {aa:Array Operand} {tt:Array TypeId} (ha:ki (cg e) aa.toList=some vs)
    (hc:Ci P gg vs.toArray A R Rp) (h:∀ v A',R v A'->K v A') (hp:∀ ch A',Rp ch A'->Kp ch A'):ll P e A { dst:=dst,op:=.call { callee:=.value (.func gg),args:=aa,argTypes:=tt },type:=ty,pos:=ps,after:=af,guard:=g } K Kp:=by
  simp only [ll,xK,cg,ha]
  refine iy.mono (Q:=Fw R Rp) (by unfold Ci at hc;simpa using hc) fun en A' q=>?_
  cases en with
  | returned v=>exact h _ _ q
  | panicked ch=>exact hp _ _ q
  | outgrown=>exact q.elim
theorem Tu {gg:FuncId} {fn:Func} {c:Code} {rs:Array ResultVar} {args:List Value} {a:Array Value} {R:Value->AH->Prop} {Rp:List PanicEntry->AH->Prop} (he:f5 P gg) (hf:P.funcs[gg]? = some fn) (hb:fn.body=some c)
    (hr:fn.results=rs) (hnt:fn.ntmps=nt) (ha:args.toArray=a) (hn:Nat.ble args.length nt=true) (hE:uq args 0=e) (h:A.wf->ak P nt c (j7 P rs.toList (Fw R Rp)) ⟨e,[]⟩ A):Ci P gg a A R Rp:=by
  subst hr;subst hnt;subst ha;subst hE
  exact iy.enter he hf hb (Sv hn) h
theorem enterD {gg:FuncId} {fn:Func} {c:Code} {rs:Array ResultVar} {args:List Value} {a:Array Value} {R:Value->AH->Prop} {Rp:List PanicEntry->AH->Prop} (he:f5 P gg) (hf:P.funcs[gg]? = some fn) (hb:fn.body=some c)
    (hr:fn.results=rs) (hnt:fn.ntmps=nt) (ha:args.toArray=a) (hn:Nat.ble args.length nt=true) (hE:uq args 0=e) (h:A.wf->ak P nt c (Jm P rs.toList (Fw R Rp)) ⟨e,[]⟩ A):Ci P gg a A R Rp:=by
  subst hr;subst hnt;subst ha;subst hE
  exact iy.enterD he hf hb (Sv hn) h
end
section
variable {P:Program} {A:AH} {e:im} {r:List ResultVar} {vs:List Value} {v:Value} {t:TypeId} {a b off cap n:Nat} {rw:Bool} {c cs:List Value}
theorem iE.nil:iE P e A []=some []:=rfl
theorem iE.cell {p:Addr} (hx:cM e a=some (.pointer (some p))) (hv:ly P A t (.pointer (some p))=some v) (hr:iE P e A r=some vs):iE P e A (.cell a t :: r)=some (v :: vs):=by
  simp only [iE,hx,hr,hv];rfl
theorem rp (ha:ef P t=some false) (hg:A.get b=some (.row rw c cap)) (hc:c[off]? = some v):ly P A t (.pointer (some ⟨b,off,none⟩))=some v:=by
  simp only [ly,ha];simp [AH.cell,hg,hc]
theorem rn (ha:ef P t=some true) (hs:dY P t=some n) (hg:A.get b=some (.row rw c cap)) (hc:kO c off n=some cs):ly P A t (.pointer (some ⟨b,off,none⟩))=some (.agg cs.toArray):=by
  simp only [ly,ha,hs,Sz];simp [AH.cellsAt,hg,hc]
end
end V
namespace V
section
variable {P:Program} {nt:Nat} {A:AH} {Q:Exit->Fr->AH->Prop} {all:Array Oper} {os:List Oper} {e:im} {ds:List Deferred} {o:Oper} {x:Operand} {v:Value} {dst:Option Nat} {ty:TypeId} {ps:String} {af:Array Edge} {t:TypeId} {fs:Array Field}
theorem Ops.iface (hu:P.underlying t=some (.struct fs)) (hx:cg e x=some v) (hd:gB nt dst=true) (h:Ops P nt all os Q ⟨gj e dst (.iface t v),ds⟩ A) :
    Ops P nt all ({ dst:=dst,op:=.makeInterface t x,type:=ty,pos:=ps,after:=af,guard:=none } :: os) Q ⟨e,ds⟩ A :=
  Ops.val Z hd (fun a ha w hw=>by
    have h5:=c9 ha hx
    simp only [execOp,h5,Instr.makeInterface,Sem.run_bind,cn hu,Result.andThen_ok];rfl) h
theorem Ops.panicI (hx:cg e x=some (.iface t v)) (h:Q (.panic [{ v:=.iface t v,recovered:=false }]) ⟨e,ds⟩ A) :
    Ops P nt all ({ dst:=dst,op:=.panic x,type:=ty,pos:=ps,after:=af,guard:=none } :: os) Q ⟨e,ds⟩ A :=
  Ops.raise Z (fun a ha w hw=>by
    have h5:=c9 ha hx
    simp only [execOp,h5,Instr.panic,Sem.run_bind];rfl) h
theorem lQ {K:Fr->AH->Prop} {f:Fr} {ch:List PanicEntry} (h:Q (.panic ch) f A):rX K Q (.panic ch) f A:=h
theorem kn {i:Nat} {f:Fr} {ch:List PanicEntry} (h:Q (.panic ch) f A):oE i Q (.panic ch) f A:=h
theorem jF {f:Fr} {ch:List PanicEntry} (h:Q (.panic ch) f A):DC Q (.panic ch) f A:=h
variable {rs:List ResultVar} {R:Value->AH->Prop} {Rp:List PanicEntry->AH->Prop} {vs:List Value}
theorem retE (hr:iE P e A rs=some vs) (h:R (ej vs) A):j7 P rs (Fw R Rp) .ret ⟨e,[]⟩ A:=⟨rfl,vs,hr,h⟩
theorem retEn (hr:iE P e A rs=some vs) (h:R (ej vs) A):j7 P rs (Fw R Rp) .normal ⟨e,[]⟩ A:=⟨rfl,vs,hr,h⟩
theorem Vi {ch:List PanicEntry} (h:Rp ch A):j7 P rs (Fw R Rp) (.panic ch) ⟨e,[]⟩ A:=⟨rfl,h⟩
end
end V
def dy (l:List Int):List Value:=l.map fun i=>num i
theorem aJ (l:List Int):(dy l).length=l.length:=by simp [dy]
theorem fy (l:List Int):(dy l).length=l.length * 1:=by simp [dy]
theorem dT {l:List Int} {i:Nat} (h:i < l.length):(dy l)[i]? = some (num (l.getD i 0)):=by simp [dy,h]
theorem eo (a b:List Int):dy a ++ dy b=dy (a ++ b):=by simp [dy]
theorem ji (a:List Int) (n:Nat) (c:Int):(dy a).set n (num c)=dy (a.set n c):=by simp [dy,List.map_set]
theorem jh (n:Nat):List.replicate n (num 0)=dy (List.replicate n 0):=by simp [dy]
def cy (l:List Bool):List Value:=l.map fun b=>.bool b
theorem bQ (l:List Bool):(cy l).length=l.length:=by simp [cy]
theorem gx (l:List Bool):(cy l).length=l.length * 1:=by simp [cy]
theorem fg {l:List Bool} {i:Nat} (h:i < l.length):(cy l)[i]? = some (.bool (l.getD i false)):=by simp [cy,h]
theorem pN (a b:List Bool):cy a ++ cy b=cy (a ++ b):=by simp [cy]
theorem mI (a:List Bool) (n:Nat) (c:Bool):(cy a).set n (.bool c)=cy (a.set n c):=by simp [cy,List.map_set]
theorem qx (n:Nat):List.replicate n (.bool false)=cy (List.replicate n false):=by simp [cy]
def vD (r:an):UInt8:=r.left.getD (r.left.length - 1) 0
def iL (rs:List an) (c:UInt8):List Int:=((List.range rs.length).filter fun i=>decide (vD (rs.getD i .zero)=c)).map fun (i:Nat)=>(i:Int)
def ou (A:AH) (m:Nat) (rs:List an):Prop:=∃ rw es ck,∃ E:List (UInt8 × Value),A.get m=some (.obj rw (.map es ck))/\d9 ed es E/\∀ c,bJ A 1 ((lk E c).getD (.slice none 0 0)) (dy (iL rs c))
theorem ou.le {A B:AH} {m:Nat} {rs:List an} (h:ou A m rs) (le:A.le B):ou B m rs:=by
  obtain ⟨rw,es,ck,E,h1,h2,h3⟩:=h
  exact ⟨rw,es,ck,E,le.g h1,h2,fun c=>(h3 c).le le⟩
theorem Uc {rs:List an} {c:UInt8} {j:Nat} (hj:j < (iL rs c).length):∃ i:Nat,(iL rs c).getD j 0=i/\i < rs.length:=by
  have h:=bj (d:=0) hj
  generalize (iL rs c).getD j 0=z at h
  simp only [iL,Vj,Sq,VV] at h
  obtain ⟨i,⟨h1,h2⟩,rfl⟩:=h
  exact ⟨i,Z,h1⟩
theorem YP {rs:List an} {c:UInt8} {j:Nat} (hj:j < (iL rs c).length):0<=(iL rs c).getD j 0/\((iL rs c).getD j 0).toNat < rs.length/\(iL rs c).getD j 0=(((iL rs c).getD j 0).toNat:Nat):=by
  obtain ⟨i,h1,h2⟩:=Uc hj
  rw [h1];exact ⟨by omega,by simpa using h2,by simp⟩
theorem FJ (rs:List an) (c:UInt8):(iL rs c).length<=rs.length:=by
  simp only [iL,TX]
  exact Xj (List.length_filter_le _ _) (by simp)
theorem Tn {k w:W8} (h:¬ (0:Int)<=(k.length:Int) - (w.length:Int)):gH k w=false:=by
  simp only [gH,VK];intro q;omega
theorem Tm {k w:W8} (h:(0:Int)<=(k.length:Int) - (w.length:Int)):gH k w=decide (k.drop ((k.length:Int) - (w.length:Int)).toNat=w):=by
  rw [gH,show ((k.length:Int) - (w.length:Int)).toNat=k.length - w.length by omega]
  congr 1;rw [eq_iff_iff];exact ⟨fun q=>q.2,fun q=>⟨by omega,q⟩⟩
theorem Og {o w:W8} (h:gH o w=true) (hw:0 < w.length):w.getD (w.length - 1) 0=o.getD (o.length - 1) 0:=by
  simp only [gH,Xw] at h
  obtain ⟨h1,h2⟩:=h
  have h3:w.getD (w.length - 1) 0=(o.drop (o.length - w.length)).getD (w.length - 1) 0:=by rw [h2]
  rw [h3]
  simp only [Vq,RV]
  congr 2;omega
theorem FA {p q:Nat->Bool} {l:List Nat} (h:∀ x ∈ l,q x=true->p x=true):(l.filter p).find? q=l.find? q:=by
  induction l with
  | nil=>rfl
  | cons x l ih =>
    have ih:=ih fun y hy=>h y (VZ _ hy)
    by_cases hp:p x=true
    · rw [List.filter_cons_of_pos hp,QJ,QJ,ih]
    · have hq:q x=false:=by
        cases e:q x with
        | false=>rfl
        | true=>exact absurd (h x Vy e) hp
      rw [List.filter_cons_of_neg hp,ih,QJ,hq]
theorem wB {rs:List an} {o:W8} (h0:∀ r ∈ rs,0 < r.left.length) :
    bq rs o=match (iL rs (o.getD (o.length - 1) 0)).find? (fun i=>gH o (rs.getD i.toNat .zero).left) with | some i=>i | none=>-1:=by
  unfold bq iL
  rw [List.find?_map]
  have e:((fun i:Int=>gH o (rs.getD i.toNat .zero).left) ∘ fun (i:Nat)=>(i:Int))=fun i:Nat=>gH o (rs.getD i .zero).left:=by funext i;simp
  rw [e,FA (p:=fun i=>decide (vD (rs.getD i .zero)=o.getD (o.length - 1) 0)) fun x hx hq=>by
    rw [Sy]
    exact Og hq (h0 _ (bj (d:=.zero) (VV.1 hx)))]
  cases (List.range rs.length).find? fun i=>gH o (rs.getD i .zero).left <;> rfl
theorem gd {α:Type} {l:List α} {j:Nat} {d:α} (h:j < l.length):l.getD j d=l[j]:=by simp [h]
theorem OG {rs:List an} {o:W8} {j i:Nat} (h0:∀ r ∈ rs,0 < r.left.length) (hj:j < (iL rs (o.getD (o.length - 1) 0)).length) (hi:(iL rs (o.getD (o.length - 1) 0)).getD j 0=i) (hn:∀ k,k < j->gH o (rs.getD ((iL rs (o.getD (o.length - 1) 0)).getD k 0).toNat .zero).left=false) (h:gH o (rs.getD i .zero).left=true):bq rs o=i:=by
  rw [wB h0]
  generalize iL rs (o.getD (o.length - 1) 0)=L at *
  have hf:L.find? (fun i=>gH o (rs.getD i.toNat .zero).left)=some (i:Int):=by
    rw [List.find?_eq_some_iff_getElem]
    refine ⟨by simpa using h,j,hj,by rw [<- gd hj];exact hi,fun k hk=>?_⟩
    have:=hn k hk
    rw [gd (show k < L.length by omega)] at this
    rw [this];rfl
  rw [hf]
theorem Ua {rs:List an} {o:W8} {j:Nat} (h0:∀ r ∈ rs,0 < r.left.length) (hj:(iL rs (o.getD (o.length - 1) 0)).length<=j) (hn:∀ k,k < j->gH o (rs.getD ((iL rs (o.getD (o.length - 1) 0)).getD k 0).toNat .zero).left=false):bq rs o = -1:=by
  rw [wB h0]
  generalize iL rs (o.getD (o.length - 1) 0)=L at *
  have hf:L.find? (fun i=>gH o (rs.getD i.toNat .zero).left)=none:=by
    rw [RW]
    intro x hx
    obtain ⟨k,hk,rfl⟩:=VQ hx
    have:=hn k O
    rw [gd hk] at this
    rw [this];decide
  rw [hf]
def JB (x:an) (k:W8) (n:Nat) (d:List bK) (m:Nat):Prop :=
  DF (k.take (k.length - x.left.length)) x.proof=true/\n + 1<=20000/\d.length + x.proof.length<=100000/\m + dp (iM (k.take (k.length - x.left.length)) x.proof)<=1000000
def pre (p:W8) (P:List bK) (j:Nat):List bK:=(P.take j).map (qE p)
theorem ZJ {p:W8} {P:List bK} {j:Nat} (h:j<=P.length):(pre p P j).length=j:=by simp [pre];omega
theorem GV {p:W8} {P:List bK} {j:Nat} (h:j < P.length):pre p P (j + 1)=pre p P j ++ [⟨cq (p ++ (P.getD j .zero).conj),(P.getD j .zero).rel,(P.getD j .zero).inv⟩]:=(yq h Z).symm
theorem GU {p:W8} {P:List bK} {j:Nat} (h:j < P.length):dp (pre p P (j + 1))=dp (pre p P j) + (cq (p ++ (P.getD j .zero).conj)).length:=by
  rw [GV h,pX,tq];rfl
theorem DQ {p:W8} {P:List bK} {j:Nat} (hj:P.length<=j) (h:∀ i,i < j->p.length + (P.getD i .zero).conj.length<=100000):pre p P j=iM p P/\DF p P=true:=by
  have hk:=DH hj h
  exact ⟨Ax hj Z hk,hk⟩
theorem pre_le {p:W8} {P:List bK} (j:Nat) (h:DF p P=true):dp (pre p P j)<=dp (iM p P):=by
  rw [iM,XX h,pre,<- VW j P,VJ,pX,VW]
  exact Nat.le_add_right _ _
theorem fitU_1 {x:an} {k:W8} {n m:Nat} {d:List bK} (h:20000 < n + 1):¬ JB x k n d m:=fun q=>by have:=q.2.1;omega
theorem fitU_2 {x:an} {k:W8} {n m:Nat} {d:List bK} (h:100000 < d.length + x.proof.length):¬ JB x k n d m:=fun q=>by have:=q.2.2.1;omega
theorem fitU_3 {x:an} {k:W8} {n m j:Nat} {d:List bK} (hj:j < x.proof.length) (h:100000 < (k.take (k.length - x.left.length)).length + (x.proof.getD j .zero).conj.length):¬ JB x k n d m:=fun q=>by
  have:=q.1;rw [JV hj h] at this;cases this
theorem fitU_4 {x:an} {k:W8} {n m j:Nat} {d:List bK} (h:1000000 < m + dp (pre (k.take (k.length - x.left.length)) x.proof j)):¬ JB x k n d m:=fun q=>by
  have:=pre_le j q.1;have:=q.2.2.2;omega
theorem fitU_y {x:an} {k:W8} {n m j:Nat} {d:List bK} (h1:¬ 20000 < n + 1) (h2:¬ 100000 < d.length + x.proof.length) (hj:x.proof.length<=j) (h:∀ i,i < j->(k.take (k.length - x.left.length)).length + (x.proof.getD i .zero).conj.length<=100000) (hm:m + dp (pre (k.take (k.length - x.left.length)) x.proof j)<=1000000):JB x k n d m:=by
  have:=DQ hj h
  exact ⟨this.2,by omega,by omega,by rw [<- this.1];exact hm⟩
end Go.Proofs.YtjppkekmddjcfaaGreatDoor
