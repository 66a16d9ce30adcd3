import Derived.Test.YtjppkekmddjcfaaGreatDoorRC3
import Derived.Test.YtjppkekmddjcfaaGreatDoorRC2
import Derived.Recover
set_option linter.unusedSectionVars false
set_option linter.unusedVariables false
set_option linter.unusedSimpArgs false
namespace Go.Proofs.YtjppkekmddjcfaaGreatDoor
open Go Go.RowKit V
set_option maxRecDepth 100000


theorem zr (g:Nat) (caps:Array Value) (q:bf->Bool) (rv:Value) (rs:List bf) (A:AH) (hn:rs.length<=9223372036854775807) (hr:bK A 3 rv (c9 rs)) (hf:∀ r,r ∈ rs->∀ B,A.le B->B.wf->bH Tryz.prog g (#[] ++ #[.agg #[aX r.left,aX r.right,r.pv]] ++ caps) B (fun v B1=>v=.bool (q r)/\B.le B1/\B1.wf)):bH Tryz.prog 103 #[rv,.func (.func g) #[] caps] A (fun v A1=>v=num (AJ q rs)/\A.le A1/\A1.wf):=by
 refine jP Tryz.call103 Tryz.func103 Z Tryz.results103 Tryz.ntmps103 Z (fun wf=>?_);have a2:=AH.le.refl A;refine am.seq fun _ h2=>.region<|.q Z (ae Z)<|.nil<|h2 _ _<|.seq fun _ h4=>.seq fun _ h6=>.region<|.q Z (ah Z)<|.q Z (bF (n:=rs.length) qq Z (hr.le a2) O (dR _)) ?_;refine Ops.q Z (ah Z)<|.nil<|h6 _ _<|.block<|.loop (X:=Nat) (fun k=>[(0,rv),(1,.func (.func g) #[] caps),(7,num ((rs.length:Nat):Int)),(8,num ((k:Nat):Int))]) (fun k B=>(k<=rs.length/\∀ j,j < k->q (rs.getD j .zero)=false)/\A.le B) (fun k=>rs.length - k) 0 (lD Z Z Z Z) (⟨⟨by omega,fun j h=>by omega⟩,a2⟩) ?_;rintro k B8 ⟨⟨hk,hq⟩,D⟩;refine am.wf fun a3=>.seq fun _ a8=>.region<|.q Z (cd Z Z)<|.nil<|a8 _ _<|.seq fun _ a9=>.if rfl (fun ap=>?_) (fun ap=>?_)
 ·refine am.skip<|a9 _ _<|.seq fun _ aa=>.block<|.seq fun _ ab=>.region<|.q Z (ah Z)<|.q Z (ae Z)<|.nil<|ab _ _ ?_;refine am.seq fun _ ac=>.region<|.q Z (ah Z)<|.q Z (ah Z)<|.q Z (ah Z) ?_;obtain ⟨aA,aB,az,aF,ay,aD,aC,a6,ai,a7,a4,av⟩:=bK.at (i:=k) (hr.le D) OI O;refine Ops.q Z (ax qq ij Z a6 Z ai)<|.q Z (aq uj ij Z Z a7 (a4.trans (congrArg some (iB O))))<|.l Z (fun _ _ a5 _=>oB Z Z (hf ((rs.getD k .zero)) (bw (d:=bf.zero) O) B8 D a3) ?_);rintro aG A24 ⟨rfl,a0,a1⟩;have V:=D.trans a0;refine a5 _ _<|.nil<|ac _ _<|.ifB Z (fun ar=>?_) (fun ar=>?_)
  ·refine am.seq fun _ ad=>.region<|.q Z (ah Z)<|.q Z (ae Z)<|.nil<|ad _ _<|.rt (by exact aJ Z (⟨by rw [xw (d:=.zero) OF hq ‹_›];rfl,V,a1⟩))
  refine am.skip<|aa _ _<|.region<|.q Z (bE (b:=1) Z Z O)<|.q Z (ah Z)<|.nil ?_;exact ⟨k + 1,lD Z Z Z Z,Z,⟨⟨by omega,fun j h=>(Nat.lt_succ_iff_lt_or_eq.1 h).elim (hq j) (fun z=>by subst z;assumption)⟩,V⟩,O1⟩
 refine am.exit<|h4 _ _<|.seq fun _ ag=>.region<|.q Z (ae Z)<|.nil<|ag _ _<|.rt (by exact aJ Z (⟨by rw [AK (d:=.zero) (fun j h=>hq j O)];rfl,D,a3⟩))

theorem ou (g:Nat) (caps:Array Value) (q:bf->Bool) (rv:Value) (rs:List bf) (A:AH) (hn:rs.length<=9223372036854775807) (hr:bK A 3 rv (c9 rs)) (hf:∀ r,r ∈ rs->∀ B,A.le B->B.wf->bH Tryz.prog g (#[] ++ #[.agg #[aX r.left,aX r.right,r.pv]] ++ caps) B (fun v B1=>v=.bool (q r)/\B.le B1/\B1.wf)):bH Tryz.prog 50 #[rv,.func (.func g) #[] caps] A (fun v A1=>v=.bool (decide (0<=AJ q rs))/\A.le A1/\A1.wf):=by
 refine jP Tryz.call50 Tryz.func50 Z Tryz.results50 Tryz.ntmps50 Z (fun wf=>?_);have h:=AH.le.refl A;refine am.seq fun _ h2=>.region<|.q Z (ae Z)<|.nil<|h2 _ _<|.seq fun _ h4=>.region<|.q Z (ah Z)<|.q Z (ah Z)<|.l Z (fun _ _ X _=>au Z (zr g caps q rv rs A hn (hr.le h) (fun s hs B le wf=>hf s hs B (h.trans le) wf)) ?_);rintro v6 A7 ⟨rfl,D,V⟩;have a0:=h.trans D;refine X _ _<|.q Z (lM Z Z)<|.q Z (ae Z)<|.nil<|h4 _ _<|.rt (by exact aJ Z (⟨Z,a0,V⟩))

theorem Tp (r:bf) (w:List UInt8) (b cap:Nat) (rw:Bool) (A:AH) (hM:rB A) (hw:w.length<=1000000) (hb:A.get b=some (.row rw [aX w] cap)):bH Tryz.prog 100 #[.agg #[aX (r.left),aX (r.right),r.pv],.pointer (some ⟨b,0,none⟩)] A (fun v A1=>v=.bool (decide (0<=yE w r.left 0))/\A.le A1/\A1.wf):=by
 refine jP Tryz.call100 Tryz.func100 Z Tryz.results100 Tryz.ntmps100 Z (fun wf=>?_);have a0:=AH.le.refl A;refine am.seq fun _ h2=>.region<|.l Z (fun _ _ X _=>dQ wf rfl rfl fun A5 b4 D=>?_);have h:=a0.trans D.le;refine X _ _<|.q Z (ae Z)<|.nil<|h2 _ _<|.seq fun _ h9=>.region<|.q Z (ak fP Z Z (h.get _ _ hb) Z)<|.q Z (aj fz fc U Z)<|.q Z (ak fP Z Z D.get Z)<|.l Z (fun _ _ V _=>au Z (Ej w r.left A5 (hM.le h) O) ?_);rintro a1 A12 ⟨rfl,rfl⟩;refine V _ _<|.q Z (ae Z)<|.nil<|h9 _ _<|.rt (by exact aJ Z (⟨Z,h,D.wf⟩))

theorem GT (g:Int) (u:Value) (l:List (List UInt8)) (rv:Value) (rs:List bf) (w:List UInt8) (A:AH) (hn:rs.length<=9223372036854775807) (hw:w.length<=1000000) (hL:gJ A) (hM:rB A) (hu:bK A 1 u (d5 l)) (hr:bK A 3 rv (c9 rs)):bH Tryz.prog 48 #[.agg #[num (g),u,rv],aX (w)] A (fun v A1=>v=.bool (s9 rs w)/\A.le A1/\A1.wf):=by
 refine jP Tryz.call48 Tryz.func48 Z Tryz.results48 Tryz.ntmps48 Z (fun wf=>?_);have ap:=AH.le.refl A;refine am.seq fun _ h2=>.region<|.l Z (fun _ _ ad _=>dQ wf rfl rfl fun A5 b4 a0=>?_);have ai:=ap.trans a0.le;refine ad _ _<|.l Z (fun _ _ ag _=>dQ a0.wf rfl rfl fun A10 b9 h=>?_);have aa:=h.le.get _ _ a0.get;have X:=ai.trans h.le;refine ag _ _<|.q Z (ae Z)<|.nil<|h2 _ _<|.seq fun _ a4=>.drawn [0,2,1,3,4,5,6,7,8,9,10,11] mixed Y Y Z<|.q Z Z Z (ak fP Z Z h.get Z) ?_;have a5:=cG (off:=0) h.get (show _=some (aX (w)) from rfl);refine bj.q Z Z Z (ak fP Z Z h.get Z)<|.l Z Z Z (fun _ _ a7 _=>au Z (sk w A10 O (hL.le X)) ?_);rintro av A20 ⟨rfl,D,a2⟩;have ab:=D.get _ _ aa;have ac:=D.get _ _ h.get;have a6:=bW D a5;have V:=X.trans D;refine a7 _ _ (be.list (L:=[(⟨b9,0,none⟩,aX (w))]) Y (bg a6 bZ))<|.q Z Z Z (mn Z Z)<|.q Z Z Z (ah Z)<|.part (t:=9) Z (fun ar=>?_) (fun ar=>?_)
 ·refine bj.qOn Z Z Z Z Z (aj er jJ U Z)<|.qOn Z Z Z Z Z (ak jR Z Z ab Z)<|.qOn Z Z Z Z Z (ml Z Z)<|.lOn Z Z Z Z Z (fun _ _ a8 _=>au Z (ou 100 #[.pointer (some ⟨b9,0,none⟩)] (fun r:bf=>decide (0<=yE w r.left 0)) rv rs A20 O (hr.le V) (fun r hs B le wf=>Tp r w b9 _ _ B ((hM.le V).le le) O (le.get _ _ ac))) ?_);rintro ay A31 ⟨rfl,a1,a3⟩;have a9:=V.trans a1;refine a8 _ _ (be.none Y)<|.qOn Z Z Z Z Z (kY Z)<|.q Z Z Z (aM Z Z)<|.q Z Z Z (ae Z)<|.done<|a4 _ _<|.rt (by exact aJ Z (⟨by (rw [Qf ‹_›,<- decide_not];rfl),a9,a3⟩))
 refine bj.qOff Z Z Z Z Z Z<|.qOff Z Z Z Z Z Z<|.qOff Z Z Z Z Z Z<|.lOff Z Z Z Z Z Z<|.qOff Z Z Z Z Z Z<|.q Z Z Z (aW Z Z)<|.q Z Z Z (ae Z)<|.done<|a4 _ _<|.rt (by exact aJ Z (⟨by (rw [AM ‹_›];rfl),V,a2⟩))

theorem UL (g:Int) (u:Value) (l:List (List UInt8)) (rv:Value) (rs:List bf) (w:List UInt8) (A:AH) (hn:rs.length<=9223372036854775807) (hw:w.length<=1000000) (h0:0 < w.length) (hL:gJ A) (hM:rB A) (hu:bK A 1 u (d5 l)) (hr:bK A 3 rv (c9 rs)):bH Tryz.prog 52 #[.agg #[num (g),u,rv],aX (w)] A (fun v A1=>v=.bool (s9 rs (w.take (w.length - 1)) && s9 rs (w.drop 1))/\A.le A1/\A1.wf):=by
 refine jP Tryz.call52 Tryz.func52 Z Tryz.results52 Tryz.ntmps52 Z (fun wf=>?_);have a8:=AH.le.refl A;refine am.seq fun _ h2=>.region<|.l Z (fun _ _ a7 _=>dQ wf rfl rfl fun A5 b4 X=>?_);have D:=a8.trans X.le;refine a7 _ _<|.q Z (ae Z)<|.nil<|h2 _ _<|.seq fun _ h9=>.drawn [0,1,2,3,4,5,6,7,8,9,10,11,12,13] mixed Y Y Z<|.q Z Z Z (aq eR ew Z Z X.get Z)<|.q Z Z Z (ah Z)<|.q Z Z Z (ah Z)<|.q Z Z Z (cB u9 Z) ?_;refine bj.q Z Z Z (fJ (b:=1) Z Z O)<|.q Z Z Z (Gw u9 Z Z O)<|.l Z Z Z (fun _ _ a3 _=>au Z (GT ((g)) u l rv rs (w.take (w.length - 1)) A5 hn Oz (hL.le D) (hM.le D) (hu.le D) (hr.le D)) ?_);rintro aa A15 ⟨rfl,V,a1⟩;have a6:=V.get _ _ X.get;have h:=D.trans V;refine a3 _ _ (be.none Y)<|.q Z Z Z (ah Z)<|.partB (t:=12) Z (fun a9=>?_) (fun a9=>?_)
 ·refine bj.qOn Z Z Z Z Z (aq eR ew Z Z a6 Z)<|.qOn Z Z Z Z Z (ah Z)<|.qOn Z Z Z Z Z (BJ (i:=1) u9 Z Z O)<|.lOn Z Z Z Z Z (fun _ _ a4 _=>au Z (GT ((g)) u l rv rs (w.drop 1) A15 hn Oz (hL.le h) (hM.le h) (hu.le h) (hr.le h)) ?_);rintro ab A28 ⟨rfl,a0,a2⟩;have a5:=h.trans a0;refine a4 _ _ (be.none Y)<|.q Z Z Z (aM Z Z)<|.q Z Z Z (ae Z)<|.done<|h9 _ _<|.rt (by exact aJ Z (⟨by simp_all [eE],a5,a2⟩))
 refine bj.qOff Z Z Z Z Z Z<|.qOff Z Z Z Z Z Z<|.qOff Z Z Z Z Z Z<|.lOff Z Z Z Z Z Z<|.q Z Z Z (aW Z Z)<|.q Z Z Z (ae Z)<|.done<|h9 _ _<|.rt (by exact aJ Z (⟨by simp_all [eE],h,a1⟩))

theorem qL (g:Int) (u:Value) (l:List (List UInt8)) (rv:Value) (rs:List bf) (w:List UInt8) (A:AH) (hn:l.length<=9223372036854775807) (hm:rs.length<=9223372036854775807) (hL:gJ A) (hM:rB A) (hu:bK A 1 u (d5 l)) (hr:bK A 3 rv (c9 rs)) (hp:Proofs A rs):bH Tryz.prog 14 #[.agg #[num (g),u,rv],aX (w)] A (fun v A1=>v=.bool (cj g l rs && decide (bG g w=0) && s9 rs w)/\A.le A1/\A1.wf):=by
 refine jP Tryz.call14 Tryz.func14 Z Tryz.results14 Tryz.ntmps14 Z (fun wf=>?_);have ad:=AH.le.refl A;refine am.seq fun _ h2=>.region<|.l Z (fun _ _ ac _=>dQ wf rfl rfl fun A5 b4 a1=>?_);have D:=ad.trans a1.le;refine ac _ _<|.q Z (ae Z)<|.nil<|h2 _ _<|.seq fun _ h9=>.region<|.q Z (aq eR ew Z Z a1.get Z)<|.l Z (fun _ _ a7 _=>au Z (j8 ((g)) u l rv rs A5 hn hm (hL.le D) (hu.le D) (hr.le D) (hp.le D)) ?_);rintro ap A12 ⟨rfl,X,a3⟩;have a6:=X.get _ _ a1.get;have V:=D.trans X;refine a7 _ _<|.q Z (ah Z)<|.partB (t:=7) Z (fun ag=>?_) (fun ag=>?_)
 ·refine Ops.on Z Z<|.q Z (aj fY gz U Z)<|.on Z Z<|.q Z (aj fW c5 U Z)<|.on Z Z<|.q Z (ak eM Z Z a6 Z)<|.on Z Z<|.q Z (ah Z)<|.on Z Z<|.l Z (fun _ _ a8 _=>au Z (pH (g) w A12 (hL.le V)) ?_);rintro ar A19 ⟨rfl,a0,a4⟩;have ab:=a0.get _ _ a6;have h:=V.trans a0;refine a8 _ _<|.on Z Z<|.q Z (ku (b:=0) Z Z)<|.q Z (aM Z Z)<|.q Z (ah Z)<|.part (t:=15) Z (fun ai=>?_) (fun ai=>?_)
  ·refine Ops.on Z Z<|.q Z (aq eR ew Z Z ab Z)<|.on Z Z<|.q Z (ah Z)<|.on Z Z<|.l Z (fun _ _ a9 _=>au Z (GT ((g)) u l rv rs w A19 hm (by have:=gi ‹bG g w=0›;omega) (hL.le h) (hM.le h) (hu.le h) (hr.le h)) ?_);rintro av A26 ⟨rfl,a2,a5⟩;have aa:=h.trans a2;refine a9 _ _<|.q Z (aM Z Z)<|.q Z (ae Z)<|.nil<|h9 _ _<|.rt (by exact aJ Z (⟨by simp_all [eE],aa,a5⟩))
  refine Ops.off Z Z Z Z<|.off Z Z Z Z<|.off Z Z Z Z<|.q Z (aW Z Z)<|.q Z (ae Z)<|.nil<|h9 _ _<|.rt (by exact aJ Z (⟨by simp_all [eE],h,a4⟩))
 refine Ops.off Z Z Z Z<|.off Z Z Z Z<|.off Z Z Z Z<|.off Z Z Z Z<|.off Z Z Z Z<|.off Z Z Z Z<|.q Z (aW Z Z)<|.q Z (ah Z)<|.off Z Z Z Z<|.off Z Z Z Z ?_;refine Ops.off Z Z Z Z<|.q Z (aW Z Z)<|.q Z (ae Z)<|.nil<|h9 _ _<|.rt (by exact aJ Z (⟨by simp_all [eE],V,a3⟩))

theorem Oa (r:bf) (g:Int) (u:Value) (l:List (List UInt8)) (rv:Value) (rs:List bf) (b cap:Nat) (rw:Bool) (A:AH) (hm:rs.length<=9223372036854775807) (hll:r.left.length<=1000/\r.right.length<=1000/\0 < r.left.length) (hL:gJ A) (hM:rB A) (hu:bK A 1 u (d5 l)) (hr:bK A 3 rv (c9 rs)) (hb:A.get b=some (.row rw [num g,u,rv] cap)):bH Tryz.prog 51 #[.agg #[aX (r.left),aX (r.right),r.pv],.pointer (some ⟨b,0,none⟩)] A (fun v A1=>v=.bool (o5 rs r)/\A.le A1/\A1.wf):=by
 refine jP Tryz.call51 Tryz.func51 Z Tryz.results51 Tryz.ntmps51 Z (fun wf=>?_);have a8:=AH.le.refl A;refine am.seq fun _ h2=>.region<|.l Z (fun _ _ a7 _=>dQ wf rfl rfl fun A5 b4 X=>?_);have D:=a8.trans X.le;refine a7 _ _<|.q Z (ae Z)<|.nil<|h2 _ _<|.seq fun _ h9=>.region<|.q Z (aq eR ew Z Z (D.get _ _ hb) Z)<|.q Z (aj jY fc U Z)<|.q Z (ak fP Z Z X.get Z)<|.l Z (fun _ _ a3 _=>au Z (GT ((g)) u l rv rs r.right A5 hm O (hL.le D) (hM.le D) (hu.le D) (hr.le D)) ?_);rintro aa A12 ⟨rfl,V,a1⟩;have a6:=V.get _ _ X.get;have h:=D.trans V;refine a3 _ _<|.q Z (eu Z)<|.q Z (ah Z)<|.partB (t:=9) Z (fun a9=>?_) (fun a9=>?_)
 ·refine Ops.off Z Z Z Z<|.off Z Z Z Z<|.off Z Z Z Z<|.off Z Z Z Z<|.off Z Z Z Z<|.q Z (aM Z Z)<|.q Z (ae Z)<|.nil<|h9 _ _<|.rt (by exact aJ Z (⟨by simp_all [eE,o5],h,a1⟩))
 refine Ops.on Z Z<|.q Z (aq eR ew Z Z (h.get _ _ hb) Z)<|.on Z Z<|.q Z (aj fz fc U Z)<|.on Z Z<|.q Z (ak fP Z Z a6 Z)<|.on Z Z<|.l Z (fun _ _ a4 _=>au Z (UL ((g)) u l rv rs r.left A12 hm O hll.2.2 (hL.le h) (hM.le h) (hu.le h) (hr.le h)) ?_);rintro ab A19 ⟨rfl,a0,a2⟩;have a5:=h.trans a0;refine a4 _ _<|.on Z Z<|.q Z (eu Z)<|.q Z (aW Z Z)<|.q Z (ae Z)<|.nil<|h9 _ _<|.rt (by exact aJ Z (⟨by simp_all [eE,o5],a5,a2⟩))

theorem Cn (g:Int) (u:Value) (l:List (List UInt8)) (rv:Value) (rs:List bf) (A:AH) (hn:l.length<=9223372036854775807) (hm:rs.length<=9223372036854775807) (hL:gJ A) (hM:rB A) (hu:bK A 1 u (d5 l)) (hr:bK A 3 rv (c9 rs)) (hp:Proofs A rs):bH Tryz.prog 16 #[.agg #[num (g),u,rv]] A (fun v A1=>v=.bool (isRed g l rs)/\A.le A1/\A1.wf):=by
 refine ia Tryz.call16 Tryz.func16 Z Tryz.results16 Tryz.ntmps16 Z (fun wf=>?_);have a8:=AH.le.refl A;refine am.seq fun _ h2=>.region<|.l Z (fun _ _ a7 _=>dQ wf rfl rfl fun A5 b4 X=>?_);have D:=a8.trans X.le;refine a7 _ _<|.q Z (ae Z)<|.nil<|h2 _ _<|.seq fun _ h9=>.region<|.q Z (aq eR ew Z Z X.get Z)<|.l Z (fun _ _ a4 _=>au Z (j8 ((g)) u l rv rs A5 hn hm (hL.le D) (hu.le D) (hr.le D) (hp.le D)) ?_);rintro aa A12 ⟨rfl,V,a1⟩;have a3:=V.get _ _ X.get;have h:=D.trans V;refine a4 _ _<|.q Z (ah Z)<|.partB (t:=5) Z (fun a9=>?_) (fun a9=>?_)
 ·refine Ops.on Z Z<|.q Z (aj er jJ U Z)<|.on Z Z<|.q Z (ak jR Z Z a3 Z)<|.on Z Z<|.q Z (ml Z Z)<|.on Z Z<|.l Z (fun _ _ a5 _=>au Z (ou 51 #[.pointer (some ⟨b4,0,none⟩)] (o5 rs) rv rs A12 O (hr.le h) (fun r hs B le wf=>Oa r g u l rv rs b4 _ _ B hm (lm ‹cj g l rs=true› hs) ((hL.le h).le le) ((hM.le h).le le) ((hu.le h).le le) ((hr.le h).le le) (le.get _ _ a3))) ?_);rintro ab A19 ⟨rfl,a0,a2⟩;have a6:=h.trans a0;refine a5 _ _<|.on Z Z<|.q Z (kY Z)<|.q Z (aM Z Z)<|.q Z (ae Z)<|.nil<|h9 _ _<|.rt (by exact aJ Z (⟨by (rw [I8 ‹_›,<- decide_not];rfl),a6,a2⟩))
 refine Ops.off Z Z Z Z<|.off Z Z Z Z<|.off Z Z Z Z<|.off Z Z Z Z<|.off Z Z Z Z<|.q Z (aW Z Z)<|.q Z (ae Z)<|.nil<|h9 _ _<|.rt (by exact aJ Z (⟨by (rw [I9 ‹_›];rfl),h,a1⟩))
end Go.Proofs.YtjppkekmddjcfaaGreatDoor

namespace Go.Proofs.YtjppkekmddjcfaaGreatDoor
open Go Go.RowKit V
set_option maxRecDepth 100000
theorem Vy:type_of% @Tryz.underlying85:=@Tryz.underlying85

theorem VJ (a b:bI):zD Tryz.prog 85 (.agg #[aX a.conj,num a.rel,.bool a.inv]) (.agg #[aX b.conj,num b.rel,.bool b.inv])=some (decide (a=b)) :=
  So Vy Y ⟨rfl,rfl,by decide⟩ ⟨rfl,rfl,by decide⟩ ⟨rfl,rfl,by decide⟩ fP eM ut u9 u3 u4 a b

theorem Nz (v1 v2:Value) (l1 l2:List bI) (A:AH) (hn:l1.length<=9223372036854775807) (V:bK A 3 v1 (cb l1)) (a0:bK A 3 v2 (cb l2)):bH Tryz.prog 55 #[v1,v2] A (fun v A1=>v=.bool (decide (l1=l2))/\A=A1):=by
 refine jP Tryz.call55 Tryz.func55 Z Tryz.results55 Tryz.ntmps55 Z (fun wf=>?_);have D:=AH.le.refl A;refine am.seq fun _ h2=>.region<|.q Z (ae Z)<|.nil<|h2 _ _<|.seq fun _ h4=>.seq fun _ h6=>.region<|.q Z (ah Z)<|.q Z (bF (n:=l1.length) mz Z (V.le D) O (c6 _)) ?_;refine Ops.q Z (ah Z)<|.q Z (bF (n:=l2.length) mz Z (a0.le D) O (c6 _))<|.q Z (fh Z Z)<|.nil<|h6 _ _<|.if rfl (fun p7=>?_) (fun p7=>?_)
 ·refine am.seq fun _ h9=>.region<|.q Z (ae Z)<|.nil<|h9 _ _<|.rt (by exact aJ Z (⟨by (rw [decide_eq_false (fun q=>by have:=congrArg List.length q;omega)];rfl),Z⟩))
 refine am.skip<|h4 _ _<|.seq fun _ a7=>.seq fun _ a8=>.region<|.q Z (ah Z)<|.q Z (bF (n:=l1.length) mz Z (V.le D) O (c6 _))<|.q Z (ah Z)<|.nil<|a8 _ _ ?_;refine am.block<|.loop (X:=Nat) (fun k=>[(0,v1),(1,v2),(12,num ((l1.length:Nat):Int)),(13,num ((k:Nat):Int))]) (fun k B=>(k<=l1.length/\l1.length=l2.length/\∀ j,j < k->l1.getD j .zero=l2.getD j .zero)/\A=B) (fun k=>l1.length - k) 0 (lD Z Z Z Z) (⟨⟨Nat.zero_le _,by omega,fun j h=>by omega⟩,Z⟩) ?_;rintro k B15 ⟨⟨hk,hl,hq⟩,rfl⟩;refine am.seq fun _ a9=>.region<|.q Z (cd Z Z)<|.nil<|a9 _ _<|.seq fun _ aa=>.if rfl (fun av=>?_) (fun av=>?_)
 ·refine am.skip<|aa _ _<|.seq fun _ ab=>.block<|.seq fun _ ac=>.region<|.q Z (ah Z)<|.q Z (ae Z)<|.nil<|ac _ _ ?_;refine am.seq fun _ ad=>.drawn [0,1,2,3,4,5,6,7,8] mixed Y Y Z<|.q Z Z Z (ah Z)<|.q Z Z Z (ah Z) ?_;obtain ⟨aG,aP,aD,aZ,aB,aV,aS,a3,ap,a5,a1,az⟩:=bK.at (i:=k) (V.le D) Ox O;refine bj.q Z Z Z (ax mz im Z a3 Z ap)<|.q Z Z Z (aq wO im Z Z a5 (a1.trans (congrArg some (ic O))))<|.q Z Z Z (ah Z)<|.q Z Z Z (ah Z) ?_;obtain ⟨aI,aR,aF,b0,aC,aY,aT,a4,ar,a6,a2,aA⟩:=bK.at (i:=k) (a0.le D) Ox O;refine bj.q Z Z Z (ax mz im Z a4 Z ar)<|.q Z Z Z (aq wO im Z Z a6 (a2.trans (congrArg some (ic O))))<|.q Z Z Z ((UA Z Z (fun _ _ q=>by cases q) (fun _ q=>by cases q) (VJ ((l1.getD k .zero)) ((l2.getD k .zero)))).trans (congrArg (fun z=>some (Value.bool z,[])) (decide_not (p:=(l1.getD k .zero)=(l2.getD k .zero))).symm))<|.done<|ad _ _<|.if rfl (fun ay=>?_) (fun ay=>?_)
  ·refine am.seq fun _ ag=>.region<|.q Z (ae Z)<|.nil<|ag _ _<|.rt (by exact aJ Z (⟨by (rw [decide_eq_false (yJ (i:=k) ‹_›)];rfl),Z⟩))
  refine am.skip<|ab _ _<|.region<|.q Z (bE (b:=1) Z Z O)<|.q Z (ah Z)<|.nil ?_;exact ⟨k + 1,lD Z Z Z Z,Z,⟨⟨by omega,hl,fun j h=>(Nat.lt_succ_iff_lt_or_eq.1 h).elim (hq j) (fun z=>by subst z;exact Decidable.not_not.1 ‹_›)⟩,Z⟩,O1⟩
 refine am.exit<|a7 _ _<|.seq fun _ ai=>.region<|.q Z (ae Z)<|.nil<|ai _ _<|.rt (by exact aJ Z (⟨by (rw [decide_eq_true (qe hl O hq)];rfl),Z⟩))

theorem NI (v1 v2:Value) (l1 l2:List bI) (A:AH) (hn:l1.length<=9223372036854775807) (V:bK A 3 v1 (cb l1)) (a0:bK A 3 v2 (cb l2)):bH Tryz.prog 61 #[v1,v2] A (fun v A1=>v=.bool (decide (l1=l2))/\A=A1):=by
 refine jP Tryz.call61 Tryz.func61 Z Tryz.results61 Tryz.ntmps61 Z (fun wf=>?_);have D:=AH.le.refl A;refine am.seq fun _ h2=>.region<|.q Z (ae Z)<|.nil<|h2 _ _<|.seq fun _ h4=>.seq fun _ h6=>.region<|.q Z (ah Z)<|.q Z (bF (n:=l1.length) mz Z (V.le D) O (c6 _)) ?_;refine Ops.q Z (ah Z)<|.q Z (bF (n:=l2.length) mz Z (a0.le D) O (c6 _))<|.q Z (fh Z Z)<|.nil<|h6 _ _<|.if rfl (fun p7=>?_) (fun p7=>?_)
 ·refine am.seq fun _ h9=>.region<|.q Z (ae Z)<|.nil<|h9 _ _<|.rt (by exact aJ Z (⟨by (rw [decide_eq_false (fun q=>by have:=congrArg List.length q;omega)];rfl),Z⟩))
 refine am.skip<|h4 _ _<|.seq fun _ a7=>.seq fun _ a8=>.region<|.q Z (ah Z)<|.q Z (bF (n:=l1.length) mz Z (V.le D) O (c6 _))<|.q Z (ah Z)<|.nil<|a8 _ _ ?_;refine am.block<|.loop (X:=Nat) (fun k=>[(0,v1),(1,v2),(12,num ((l1.length:Nat):Int)),(13,num ((k:Nat):Int))]) (fun k B=>(k<=l1.length/\l1.length=l2.length/\∀ j,j < k->l1.getD j .zero=l2.getD j .zero)/\A=B) (fun k=>l1.length - k) 0 (lD Z Z Z Z) (⟨⟨Nat.zero_le _,by omega,fun j h=>by omega⟩,Z⟩) ?_;rintro k B15 ⟨⟨hk,hl,hq⟩,rfl⟩;refine am.seq fun _ a9=>.region<|.q Z (cd Z Z)<|.nil<|a9 _ _<|.seq fun _ aa=>.if rfl (fun av=>?_) (fun av=>?_)
 ·refine am.skip<|aa _ _<|.seq fun _ ab=>.block<|.seq fun _ ac=>.region<|.q Z (ah Z)<|.q Z (ae Z)<|.nil<|ac _ _ ?_;refine am.seq fun _ ad=>.drawn [0,1,2,3,4,5,6,7,8] mixed Y Y Z<|.q Z Z Z (ah Z)<|.q Z Z Z (ah Z) ?_;obtain ⟨aG,aP,aD,aZ,aB,aV,aS,a3,ap,a5,a1,az⟩:=bK.at (i:=k) (V.le D) Ox O;refine bj.q Z Z Z (ax mz im Z a3 Z ap)<|.q Z Z Z (aq wO im Z Z a5 (a1.trans (congrArg some (ic O))))<|.q Z Z Z (ah Z)<|.q Z Z Z (ah Z) ?_;obtain ⟨aI,aR,aF,b0,aC,aY,aT,a4,ar,a6,a2,aA⟩:=bK.at (i:=k) (a0.le D) Ox O;refine bj.q Z Z Z (ax mz im Z a4 Z ar)<|.q Z Z Z (aq wO im Z Z a6 (a2.trans (congrArg some (ic O))))<|.q Z Z Z ((UA Z Z (fun _ _ q=>by cases q) (fun _ q=>by cases q) (VJ ((l1.getD k .zero)) ((l2.getD k .zero)))).trans (congrArg (fun z=>some (Value.bool z,[])) (decide_not (p:=(l1.getD k .zero)=(l2.getD k .zero))).symm))<|.done<|ad _ _<|.if rfl (fun ay=>?_) (fun ay=>?_)
  ·refine am.seq fun _ ag=>.region<|.q Z (ae Z)<|.nil<|ag _ _<|.rt (by exact aJ Z (⟨by (rw [decide_eq_false (yJ (i:=k) ‹_›)];rfl),Z⟩))
  refine am.skip<|ab _ _<|.region<|.q Z (bE (b:=1) Z Z O)<|.q Z (ah Z)<|.nil ?_;exact ⟨k + 1,lD Z Z Z Z,Z,⟨⟨by omega,hl,fun j h=>(Nat.lt_succ_iff_lt_or_eq.1 h).elim (hq j) (fun z=>by subst z;exact Decidable.not_not.1 ‹_›)⟩,Z⟩,O1⟩
 refine am.exit<|a7 _ _<|.seq fun _ ai=>.region<|.q Z (ae Z)<|.nil<|ai _ _<|.rt (by exact aJ Z (⟨by (rw [decide_eq_true (qe hl O hq)];rfl),Z⟩))

theorem NF (v1 v2:Value) (l1 l2:List (List UInt8)) (A:AH) (hn:l1.length<=9223372036854775807) (V:bK A 1 v1 (d5 l1)) (a0:bK A 1 v2 (d5 l2)):bH Tryz.prog 56 #[v1,v2] A (fun v A1=>v=.bool (decide (l1=l2))/\A=A1):=by
 refine jP Tryz.call56 Tryz.func56 Z Tryz.results56 Tryz.ntmps56 Z (fun wf=>?_);have D:=AH.le.refl A;refine am.seq fun _ h2=>.region<|.q Z (ae Z)<|.nil<|h2 _ _<|.seq fun _ h4=>.seq fun _ h6=>.region<|.q Z (ah Z)<|.q Z (bF (n:=l1.length) mO Z (V.le D) O (eF _)) ?_;refine Ops.q Z (ah Z)<|.q Z (bF (n:=l2.length) mO Z (a0.le D) O (eF _))<|.q Z (fh Z Z)<|.nil<|h6 _ _<|.if rfl (fun p7=>?_) (fun p7=>?_)
 ·refine am.seq fun _ h9=>.region<|.q Z (ae Z)<|.nil<|h9 _ _<|.rt (by exact aJ Z (⟨by (rw [decide_eq_false (fun q=>by have:=congrArg List.length q;omega)];rfl),Z⟩))
 refine am.skip<|h4 _ _<|.seq fun _ a7=>.seq fun _ a8=>.region<|.q Z (ah Z)<|.q Z (bF (n:=l1.length) mO Z (V.le D) O (eF _))<|.q Z (ah Z)<|.nil<|a8 _ _ ?_;refine am.block<|.loop (X:=Nat) (fun k=>[(0,v1),(1,v2),(12,num ((l1.length:Nat):Int)),(13,num ((k:Nat):Int))]) (fun k B=>(k<=l1.length/\l1.length=l2.length/\∀ j,j < k->l1.getD j []=l2.getD j [])/\A=B) (fun k=>l1.length - k) 0 (lD Z Z Z Z) (⟨⟨Nat.zero_le _,by omega,fun j h=>by omega⟩,Z⟩) ?_;rintro k B15 ⟨⟨hk,hl,hq⟩,rfl⟩;refine am.seq fun _ a9=>.region<|.q Z (cd Z Z)<|.nil<|a9 _ _<|.seq fun _ aa=>.if rfl (fun av=>?_) (fun av=>?_)
 ·refine am.skip<|aa _ _<|.seq fun _ ab=>.block<|.seq fun _ ac=>.region<|.q Z (ah Z)<|.q Z (ae Z)<|.nil<|ac _ _ ?_;refine am.seq fun _ ad=>.drawn [0,1,2,3,4,5,6,7,8] mixed Y Y Z<|.q Z Z Z (ah Z)<|.q Z Z Z (ah Z) ?_;obtain ⟨aG,aP,aD,aZ,aB,aV,aS,a3,ap,a5,az,a1⟩:=bK.at (i:=k) (V.le D) Or O;refine bj.q Z Z Z (ax mO fc Z a3 Z ap)<|.q Z Z Z (ak fP Z Z a5 ((cT a1).trans (fj O)))<|.q Z Z Z (ah Z)<|.q Z Z Z (ah Z) ?_;obtain ⟨aI,aR,aF,b0,aC,aY,aT,a4,ar,a6,aA,a2⟩:=bK.at (i:=k) (a0.le D) Or O;refine bj.q Z Z Z (ax mO fc Z a4 Z ar)<|.q Z Z Z (ak fP Z Z a6 ((cT a2).trans (fj O)))<|.q Z Z Z (py Z Z)<|.done<|ad _ _<|.if rfl (fun ay=>?_) (fun ay=>?_)
  ·refine am.seq fun _ ag=>.region<|.q Z (ae Z)<|.nil<|ag _ _<|.rt (by exact aJ Z (⟨by (rw [decide_eq_false (yJ (i:=k) ‹_›)];rfl),Z⟩))
  refine am.skip<|ab _ _<|.region<|.q Z (bE (b:=1) Z Z O)<|.q Z (ah Z)<|.nil ?_;exact ⟨k + 1,lD Z Z Z Z,Z,⟨⟨by omega,hl,fun j h=>(Nat.lt_succ_iff_lt_or_eq.1 h).elim (hq j) (fun z=>by subst z;exact Decidable.not_not.1 ‹_›)⟩,Z⟩,O1⟩
 refine am.exit<|a7 _ _<|.seq fun _ ai=>.region<|.q Z (ae Z)<|.nil<|ai _ _<|.rt (by exact aJ Z (⟨by (rw [decide_eq_true (qe hl O hq)];rfl),Z⟩))

theorem Rl (r s:bf) (A:AH) (hn:r.proof.length<=9223372036854775807) (a4:bK A 3 r.pv (cb r.proof)) (a5:bK A 3 s.pv (cb s.proof)):bH Tryz.prog 54 #[.agg #[aX (r.left),aX (r.right),r.pv],.agg #[aX (s.left),aX (s.right),s.pv]] A (fun v A1=>v=.bool (decide (lu true r=lu true s))/\A.le A1/\A1.wf):=by
 refine jP Tryz.call54 Tryz.func54 Z Tryz.results54 Tryz.ntmps54 Z (fun wf=>?_);have a7:=AH.le.refl A;refine am.seq fun _ h2=>.region<|.l Z (fun _ _ a2 _=>dQ wf rfl rfl fun A5 b4 a0=>?_);have a6:=a7.trans a0.le;refine a2 _ _<|.l Z (fun _ _ a3 _=>dQ a0.wf rfl rfl fun A10 b9 h=>?_);have V:=h.le.get _ _ a0.get;have D:=a6.trans h.le;refine a3 _ _<|.q Z (ae Z)<|.nil<|h2 _ _<|.seq fun _ X=>.region<|.q Z (aj fz fc U Z)<|.q Z (ak fP Z Z V Z)<|.q Z (aj fz fc U Z)<|.q Z (ak fP Z Z h.get Z) ?_;refine Ops.q Z (mn Z Z)<|.q Z (ah Z)<|.part (t:=10) Z (fun a8=>?_) (fun a8=>?_)
 ·refine Ops.on Z Z<|.q Z (aj jY fc U Z)<|.on Z Z<|.q Z (ak fP Z Z V Z)<|.on Z Z<|.q Z (aj jY fc U Z)<|.on Z Z<|.q Z (ak fP Z Z h.get Z)<|.on Z Z<|.q Z (mn Z Z) ?_;refine Ops.q Z (aM Z Z)<|.q Z (ah Z)<|.part (t:=17) Z (fun a9=>?_) (fun a9=>?_)
  ·refine Ops.on Z Z<|.q Z (aj mH kW U Z)<|.on Z Z<|.q Z (ak ns Z Z V Z)<|.on Z Z<|.q Z (aj mH kW U Z)<|.on Z Z<|.q Z (ak ns Z Z h.get Z)<|.on Z Z<|.l Z (fun _ _ a1 _=>au Z (Nz r.pv s.pv r.proof s.proof A10 hn (a4.le D) (a5.le D)) ?_);rintro aa A20 ⟨rfl,rfl⟩;refine a1 _ _<|.q Z (aM Z Z)<|.q Z (ae Z)<|.nil<|X _ _<|.rt (by exact aJ Z (⟨by simp_all [eE,lu],D,h.wf⟩))
  refine Ops.off Z Z Z Z<|.off Z Z Z Z<|.off Z Z Z Z<|.off Z Z Z Z<|.off Z Z Z Z<|.q Z (aW Z Z)<|.q Z (ae Z)<|.nil<|X _ _<|.rt (by exact aJ Z (⟨by simp_all [eE,lu],D,h.wf⟩))
 refine Ops.off Z Z Z Z<|.off Z Z Z Z<|.off Z Z Z Z<|.off Z Z Z Z<|.off Z Z Z Z<|.q Z (aW Z Z)<|.q Z (ah Z)<|.off Z Z Z Z<|.off Z Z Z Z<|.off Z Z Z Z ?_;refine Ops.off Z Z Z Z<|.off Z Z Z Z<|.q Z (aW Z Z)<|.q Z (ae Z)<|.nil<|X _ _<|.rt (by exact aJ Z (⟨by simp_all [eE,lu],D,h.wf⟩))

theorem NA (v1 v2:Value) (rs ss:List bf) (A:AH) (hn:rs.length<=9223372036854775807) (hpn:∀ r ∈ rs,r.proof.length<=9223372036854775807) (a9:bK A 3 v1 (c9 rs)) (ap:bK A 3 v2 (c9 ss)) (ag:Proofs A rs) (ai:Proofs A ss):bH Tryz.prog 57 #[v1,v2,.func (.func 54) #[] #[]] A (fun v A1=>v=.bool (iJ true rs ss)/\A.le A1/\A1.wf):=by
 refine wQ Tryz.call57 Tryz.func57 Z Tryz.results57 Tryz.ntmps57 Z (fun wf=>?_);have a4:=AH.le.refl A;refine am.seq fun _ h2=>.region<|.q Z (ae Z)<|.nil<|h2 _ _<|.seq fun _ h4=>.seq fun _ h6=>.region<|.q Z (ah Z)<|.q Z (bF (n:=rs.length) qq Z (a9.le a4) O (dR _)) ?_;refine Ops.q Z (ah Z)<|.q Z (bF (n:=ss.length) qq Z (ap.le a4) O (dR _))<|.q Z (fh Z Z)<|.nil<|h6 _ _<|.if rfl (fun p7=>?_) (fun p7=>?_)
 ·refine am.seq fun _ h9=>.region<|.q Z (ae Z)<|.nil<|h9 _ _<|.rt (by exact aJ Z (⟨by (rw [JW ‹_›];rfl),a4,wf⟩))
 refine am.skip<|h4 _ _<|.seq fun _ aS=>.seq fun _ aT=>.region<|.q Z (ah Z)<|.q Z (bF (n:=rs.length) qq Z (a9.le a4) O (dR _))<|.q Z (ah Z)<|.nil<|aT _ _ ?_;refine am.block<|.loop (X:=Nat) (fun k=>[(1,v2),(2,.func (.func 54) #[] #[]),(15,v1),(16,num ((rs.length:Nat):Int)),(17,num ((k:Nat):Int))]) (fun k B=>(k<=rs.length/\rs.length=ss.length/\∀ j,j < k->lu true (rs.getD j .zero)=lu true (ss.getD j .zero))/\A.le B) (fun k=>rs.length - k) 0 (pZ Z Z Z Z Z) (⟨⟨Nat.zero_le _,by omega,fun j h=>by omega⟩,a4⟩) ?_;rintro k B15 ⟨⟨hk,hl,hq⟩,a0⟩;refine am.wf fun ab=>.seq fun _ aV=>.region<|.q Z (cd Z Z)<|.nil<|aV _ _<|.seq fun _ aY=>.if rfl (fun ba=>?_) (fun ba=>?_)
 ·refine am.skip<|aY _ _<|.seq fun _ aZ=>.block<|.seq fun _ b0=>.region<|.q Z (ah Z) ?_;obtain ⟨bu,bC,bp,bR,bl,bO,bL,aG,b8,aP,ar,bc⟩:=bK.at (i:=k) (a9.le a0) OI O;refine Ops.q Z (ax qq ij Z aG Z b8)<|.q Z (aq uj ij Z Z aP (ar.trans (congrArg some (iB O))))<|.l Z (fun _ _ ay _=>cg ab Ij rfl fun A29 bv a1=>?_);have a7:=aU wf (Nat.le_trans a0.n a1.lo);have aD:=a0.trans a1.le;refine ay _ _<|.q Z (ae Z)<|.l Z (fun _ _ az _=>aQ (cs:=[aX ((rs.getD k .zero).left),aX ((rs.getD k .zero).right),(rs.getD k .zero).pv]) (c':=[aX ((rs.getD k .zero).left),aX ((rs.getD k .zero).right),(rs.getD k .zero).pv]) a1.wf rfl rfl rfl rfl ij a1.get (Nat.le_of_ble_eq_true rfl) (jE (ag.get O)) rfl fun A33 V=>?_);have a5:=an aD wf a7 V.n V.keep;refine az _ _<|.nil<|b0 _ _<|.seq fun _ b1=>.region<|.q Z (ah Z)<|.q Z (ah Z) ?_;obtain ⟨bA,bD,br,bS,bm,bP,bM,aI,b9,aR,av,bd⟩:=bK.at (i:=k) (ap.le a5) OI O;refine Ops.q Z (ax qq ij Z aI Z b9)<|.q Z (aq uj ij Z Z aR (av.trans (congrArg some (iB O))))<|.l Z (fun _ _ aA _=>cg V.wf Ij rfl fun A41 bB D=>?_);have a2:=ne_new V.wf V.get D.lo;have a8:=aU wf (Nat.le_trans a5.n D.lo);have b2:=D.le.get _ _ V.get;have aF:=a5.trans D.le;refine aA _ _<|.l Z (fun _ _ aB _=>aQ (cs:=[aX ((ss.getD k .zero).left),aX ((ss.getD k .zero).right),(ss.getD k .zero).pv]) (c':=[aX ((ss.getD k .zero).left),aX ((ss.getD k .zero).right),(ss.getD k .zero).pv]) D.wf rfl rfl rfl rfl ij D.get (Nat.le_of_ble_eq_true rfl) (jE (ai.get O)) rfl fun A46 a3=>?_);have b3:=a3.keep _ _ a2 b2;have a6:=an aF wf a8 a3.n a3.keep;refine aB _ _<|.nil<|b1 _ _<|.seq fun _ b5=>.region<|.q Z (ah Z)<|.q Z (aq uj ij Z Z b3 Z)<|.q Z (aq uj ij Z Z a3.get Z)<|.l Z (fun _ _ aC _=>oB Z Z (Rl ((rs.getD k .zero)) ((ss.getD k .zero)) A46 (hpn _ (bw (d:=bf.zero) O)) ((ag.get O).le a6) ((ai.get O).le a6)) ?_);rintro bT A56 ⟨rfl,ac,ad⟩;have aa:=a6.trans ac;refine aC _ _<|.q Z (kY Z)<|.nil<|b5 _ _<|.if rfl (fun bb=>?_) (fun bb=>?_)
  ·refine am.seq fun _ b6=>.region<|.q Z (ae Z)<|.nil<|b6 _ _<|.rt (by exact aJ Z (⟨by (rw [Oq (i:=k) hl O ‹_›];rfl),aa,ad⟩))
  refine am.skip<|aZ _ _<|.region<|.q Z (bE (b:=1) Z Z O)<|.q Z (ah Z)<|.nil ?_;exact ⟨k + 1,pZ Z Z Z Z Z,Z,⟨⟨by omega,hl,fun j h=>(Nat.lt_succ_iff_lt_or_eq.1 h).elim (hq j) (fun z=>by subst z;exact Decidable.not_not.1 ‹_›)⟩,aa⟩,O1⟩
 refine am.exit<|aS _ _<|.seq fun _ b7=>.region<|.q Z (ae Z)<|.nil<|b7 _ _<|.rt (by exact aJ Z (⟨by (rw [JX hl O hq];rfl),a0,ab⟩))

theorem Te (g1:Int) (u1:Value) (l1:List (List UInt8)) (a1:Value) (rs:List bf) (g2:Int) (u2:Value) (l2:List (List UInt8)) (a2:Value) (ss:List bf) (A:AH) (aA:l1.length<=1000000) (aB:l2.length<=1000000) (hn:rs.length<=1000000) (hpn:∀ r ∈ rs,r.proof.length<=1000000000) (ai:bK A 1 u1 (d5 l1)) (ad:bK A 3 a1 (c9 rs)) (ab:Proofs A rs) (ap:bK A 1 u2 (d5 l2)) (ag:bK A 3 a2 (c9 ss)) (ac:Proofs A ss):bH Tryz.prog 18 #[.agg #[num (g1),u1,a1],.agg #[num (g2),u2,a2]] A (fun v A1=>v=.bool (decide (g1=g2) && decide (l1=l2) && iJ true rs ss)/\A.le A1/\A1.wf):=by
 refine jP Tryz.call18 Tryz.func18 Z Tryz.results18 Tryz.ntmps18 Z (fun wf=>?_);have av:=AH.le.refl A;refine am.seq fun _ h2=>.region<|.l Z (fun _ _ a9 _=>dQ wf rfl rfl fun A5 b4 a0=>?_);have ar:=av.trans a0.le;refine a9 _ _<|.l Z (fun _ _ aa _=>dQ a0.wf rfl rfl fun A10 b9 D=>?_);have V:=D.le.get _ _ a0.get;have h:=ar.trans D.le;refine aa _ _<|.q Z (ae Z)<|.nil<|h2 _ _<|.seq fun _ a8=>.region<|.q Z (ae Z)<|.nil<|a8 _ _<|.seq fun _ X=>?_;refine am.region<|.q Z (aj fY gz U Z)<|.q Z (aj fW c5 U Z)<|.q Z (ak eM Z Z V Z)<|.q Z (aj fY gz U Z)<|.q Z (aj fW c5 U Z)<|.q Z (ak eM Z Z D.get Z)<|.q Z (SX Z Z)<|.q Z (ah Z)<|.part (t:=13) Z (fun ay=>?_) (fun ay=>?_)
 ·refine Ops.on Z Z<|.q Z (aj fY gz U Z)<|.on Z Z<|.q Z (aj ii oM U Z)<|.on Z Z<|.q Z (ak oD Z Z V Z)<|.on Z Z<|.q Z (aj fY gz U Z)<|.on Z Z<|.q Z (aj ii oM U Z) ?_;refine Ops.on Z Z<|.q Z (ak oD Z Z D.get Z)<|.on Z Z<|.l Z (fun _ _ a5 _=>au Z (NF u1 u2 l1 l2 A10 O (ai.le h) (ap.le h)) ?_);rintro aC A21 ⟨rfl,rfl⟩;refine a5 _ _<|.q Z (aM Z Z)<|.q Z (ah Z)<|.part (t:=22) Z (fun az=>?_) (fun az=>?_)
  ·refine Ops.on Z Z<|.q Z (aj er jJ U Z)<|.on Z Z<|.q Z (ak jR Z Z V Z)<|.on Z Z<|.q Z (aj er jJ U Z)<|.on Z Z<|.q Z (ak jR Z Z D.get Z)<|.on Z Z<|.q Z (ah Z) ?_;refine Ops.on Z Z<|.l Z (fun _ _ a6 _=>au Z (NA a1 a2 rs ss A10 O (fun r q=>by have:=hpn r q;omega) (ad.le h) (ag.le h) (ab.le h) (ac.le h)) ?_);rintro aD A26 ⟨rfl,a3,a4⟩;have a7:=h.trans a3;refine a6 _ _<|.q Z (aM Z Z)<|.q Z (ae Z)<|.nil<|X _ _<|.rt (by exact aJ Z (⟨by simp_all [eE],a7,a4⟩))
  refine Ops.off Z Z Z Z<|.off Z Z Z Z<|.off Z Z Z Z<|.off Z Z Z Z<|.off Z Z Z Z<|.off Z Z Z Z<|.q Z (aW Z Z)<|.q Z (ae Z)<|.nil<|X _ _ ?_;refine am.ret ?_;repeat first | with_reducible refine bz ?_ | with_reducible refine bi ?_
  exact aJ Z (⟨by simp_all [eE],h,D.wf⟩)
 refine Ops.off Z Z Z Z<|.off Z Z Z Z<|.off Z Z Z Z<|.off Z Z Z Z<|.off Z Z Z Z<|.off Z Z Z Z<|.off Z Z Z Z<|.q Z (aW Z Z)<|.q Z (ah Z)<|.off Z Z Z Z ?_;refine Ops.off Z Z Z Z<|.off Z Z Z Z<|.off Z Z Z Z<|.off Z Z Z Z<|.off Z Z Z Z<|.q Z (aW Z Z)<|.q Z (ae Z)<|.nil<|X _ _<|.rt (by exact aJ Z (⟨by simp_all [eE],h,D.wf⟩))

end Go.Proofs.YtjppkekmddjcfaaGreatDoor

namespace Go.Proofs.YtjppkekmddjcfaaGreatDoor
open Go Go.RowKit V
theorem V.Fresh.sep0 {A B:AH} {v u:Value} {size s2:Nat} {xs ys:List Value} (h:Fresh A B v size xs) (hu:oO A u s2 ys):bq v u:=fun c hv hc=>by
  obtain ⟨x,hx⟩:=hu.blkget hc
  have:=h.lo c hv
  rw [hx] at this;cases this
def rk (p:List UInt8) (d:List bI):Bool:=d.all fun c=>decide (p.length + c.conj.length<=100000)
def ot (p:List UInt8) (c:bI):bI:=⟨cn (p ++ c.conj),c.rel,c.inv⟩
def eU (p:List UInt8) (d:List bI):List bI:=if rk p d then d.map (ot p) else []
theorem za {p:List UInt8} {d:List bI} {i:Nat} (hi:i < d.length) (h:100000 < p.length + (d.getD i .zero).conj.length):rk p d=false :=
  List.all_eq_false.2 ⟨_,bw (d:=.zero) hi,by simp only [decide_eq_true_eq];omega⟩
theorem uG {p:List UInt8} {d:List bI} {i:Nat} (hi:d.length<=i) (h:∀ j,j < i->p.length + (d.getD j .zero).conj.length<=100000):rk p d=true :=
  List.all_eq_true.2 fun c hc=>by
    obtain ⟨j,hj,rfl⟩:=List.getElem_of_mem hc
    have:=h j O
    simpa [hj] using this
theorem vB {p:List UInt8} {d o:List bI} {i:Nat} (hi:i < d.length) (h:o=(d.take i).map (ot p)):o ++ [⟨cn (p ++ (d.getD i .zero).conj),(d.getD i .zero).rel,(d.getD i .zero).inv⟩]=(d.take (i + 1)).map (ot p):=by
  have e:d.getD i .zero=d[i]:=by simp [hi]
  rw [h,List.take_succ_eq_append_getElem hi,List.map_append,e];rfl
theorem xJ {p:List UInt8} {d o:List bI} {i:Nat} (hi:d.length<=i) (h:o=(d.take i).map (ot p)) (hk:rk p d=true):o=eU p d:=by
  rw [h,eU,if_pos hk,List.take_of_length_le hi]
theorem tP (p:List UInt8) (d:List bI):(eU p d).length<=d.length:=by unfold eU;split <;> simp
theorem Be {p:List UInt8} {d:List bI} (h:rk p d=true):(eU p d).length=d.length:=by rw [eU,if_pos h];simp
theorem Qo {p:List UInt8} {d:List bI} (h:rk p d=false):eU p d=[]:=by rw [eU,h];rfl
theorem xI {p:List UInt8} {d:List bI}:∀ c ∈ eU p d,c.conj.length<=100000:=fun c hc=>by
  unfold eU at hc
  split at hc
  · rename_i h
    obtain ⟨x,hx,rfl⟩:=List.mem_map.1 hc
    have:=List.all_eq_true.1 h x hx
    simp only [decide_eq_true_eq] at this
    have h2:=l5 (p ++ x.conj)
    simp only [List.length_append] at h2
    show (cn (p ++ x.conj)).length<=100000
    omega
  · cases hc
theorem nz (a b:List bI):cz (a ++ b)=cz a + cz b:=by simp [cz]
theorem qZ (c:bI) (d:List bI):cz (c :: d)=c.conj.length + cz d:=by simp [cz]
theorem zY {d:List bI} (h:∀ c ∈ d,c.conj.length<=100000):cz d<=100000 * d.length:=by
  induction d with
  | nil=>simp [cz]
  | cons a d ih =>
    rw [qZ,List.length_cons]
    have h1:=h a List.mem_cons_self
    have h2:=ih fun c hc=>h c (List.mem_cons_of_mem _ hc)
    omega
structure Fj where
  word:List UInt8
  steps:Nat
  disk:List bI
def Fj.zero:Fj:=⟨[],0,[]⟩
structure Il where
  rest:List UInt8
  stack:List UInt8
  steps:Nat
  disk:List bI
  sum:Nat
abbrev lR (q:List UInt8):UInt8:=q.getD (q.length - 1) 0
abbrev sC (q:List UInt8):List UInt8:=q.take (q.length - 1)
abbrev xx (k q:List UInt8):Prop:=0 < k.length/\lR k=lR q ^^^ 32
abbrev qS (rs:List bf) (k:List UInt8):bf:=rs.getD (aK rs k).toNat .zero
abbrev z8 (rs:List bf) (k:List UInt8):List UInt8:=k.take (k.length - (qS rs k).left.length)
abbrev Bg (rs:List bf) (k:List UInt8):List bI:=eU (z8 rs k) (qS rs k).proof
def fits (rs:List bf) (k:List UInt8) (n:Nat) (d:List bI) (m:Nat):Prop :=
  rk (z8 rs k) (qS rs k).proof=true/\n + 1<=20000/\d.length + (qS rs k).proof.length<=100000/\m + cz (Bg rs k)<=1000000
instance (rs:List bf) (k:List UInt8) (n:Nat) (d:List bI) (m:Nat):Decidable (fits rs k n d m):=by unfold fits;infer_instance
def uc (rs:List bf) (s:Il):Option Il :=
  if xx s.stack s.rest then some ⟨sC s.rest,sC s.stack,s.steps,s.disk,s.sum⟩
  else if aK rs (s.stack ++ [lR s.rest]) < 0 then some ⟨sC s.rest,s.stack ++ [lR s.rest],s.steps,s.disk,s.sum⟩
  else if fits rs (s.stack ++ [lR s.rest]) s.steps s.disk s.sum then
    some ⟨sC s.rest ++ (qS rs (s.stack ++ [lR s.rest])).right.reverse,z8 rs (s.stack ++ [lR s.rest]),s.steps + 1,s.disk ++ Bg rs (s.stack ++ [lR s.rest]),s.sum + cz (Bg rs (s.stack ++ [lR s.rest]))⟩
  else none
def il (rs:List bf):Nat->Il->Option Il
  | 0,_=>none
  | f + 1,s=>if s.rest=[] then some s else match uc rs s with | none=>none | some s'=>il rs f s'
def rL:Nat:=2001000000
def start (w:List UInt8):Il:=⟨w.reverse,[],0,[],0⟩
def ga (rs:List bf) (w:List UInt8):Option Fj:=(il rs rL (start w)).map fun s=>⟨s.stack,s.steps,s.disk⟩
section
variable {rs:List bf} {f n m:Nat} {q k:List UInt8} {d:List bI} {R:Option Il}
theorem se (hf:0 < f) (hq:q.length=0) (h:il rs f ⟨q,k,n,d,m⟩=R):R=some ⟨q,k,n,d,m⟩:=by
  obtain ⟨f,rfl⟩:∃ g,f=g + 1:=⟨f - 1,by omega⟩
  rw [<- h,il,if_pos (List.length_eq_zero_iff.1 hq)]
theorem zo (hf:0 < f) (hq:0 < q.length) (h:il rs f ⟨q,k,n,d,m⟩=R) {s:Il} (e:uc rs ⟨q,k,n,d,m⟩=some s):il rs (f - 1) s=R:=by
  obtain ⟨f,rfl⟩:∃ g,f=g + 1:=⟨f - 1,by omega⟩
  rw [<- h,il,if_neg (fun z=>by rw [show q=[] from z] at hq;exact absurd hq (by simp)),e];rfl
theorem GA (hf:0 < f) (hq:0 < q.length) (h:il rs f ⟨q,k,n,d,m⟩=R) (hc:xx k q):il rs (f - 1) ⟨sC q,sC k,n,d,m⟩=R :=
  zo hf hq h (by rw [uc,if_pos hc])
theorem Ci (hf:0 < f) (hq:0 < q.length) (h:il rs f ⟨q,k,n,d,m⟩=R) (hc:¬ xx k q) (hr:aK rs (k ++ [lR q]) < 0):il rs (f - 1) ⟨sC q,k ++ [lR q],n,d,m⟩=R :=
  zo hf hq h (by rw [uc,if_neg hc,if_pos hr])
theorem Cj (hf:0 < f) (hq:0 < q.length) (h:il rs f ⟨q,k,n,d,m⟩=R) (hc:¬ xx k q) (hr:¬ aK rs (k ++ [lR q]) < 0) (hx:fits rs (k ++ [lR q]) n d m) :
    il rs (f - 1) ⟨sC q ++ (qS rs (k ++ [lR q])).right.reverse,z8 rs (k ++ [lR q]),n + 1,d ++ Bg rs (k ++ [lR q]),m + cz (Bg rs (k ++ [lR q]))⟩=R :=
  zo hf hq h (by rw [uc,if_neg hc,if_neg hr,if_pos hx])
theorem jH (hf:0 < f) (hq:0 < q.length) (h:il rs f ⟨q,k,n,d,m⟩=R) (hc:¬ xx k q) (hr:¬ aK rs (k ++ [lR q]) < 0) (hx:¬ fits rs (k ++ [lR q]) n d m):R=none:=by
  obtain ⟨f,rfl⟩:∃ g,f=g + 1:=⟨f - 1,by omega⟩
  rw [<- h,il,if_neg (fun z=>by rw [show q=[] from z] at hq;exact absurd hq (by simp)),uc,if_neg hc,if_neg hr,if_neg hx]
theorem pD {o:List UInt8} (h:¬ aK rs o < 0):(aK rs o).toNat < rs.length/\fH o (qS rs o).left=true/\aK rs o=((aK rs o).toNat:Nat):=by
  unfold qS
  unfold aK at h ⊢
  split at h
  · rename_i i hi
    have h1:=List.mem_range.1 (List.mem_of_find?_eq_some hi)
    have h2:=List.find?_some hi
    exact ⟨by simpa using h1,by simpa using h2,by simp⟩
  · exact absurd O h
theorem Lu {o w:List UInt8} (h:fH o w=true):w.length<=o.length:=by simp only [fH,decide_eq_true_eq] at h;exact h.1
theorem Lg {u v:List UInt8} (h:gT u v < 0):u.length<=v.length:=by
  unfold gT at h
  split at h
  · split at h <;> omega
  · omega
theorem Np {g:Int} {l:List (List UInt8)} {r:bf} (h:fZ g l r=true):r.right.length<=r.left.length:=by
  have:=(gB h).2.2.1
  unfold da at this
  split at this
  · exact Lg this
  · omega
theorem tU {g:Int} {w:List UInt8} (h:js g w=true):tQ w:=j5 (fun q=>q (so h))
theorem lN {g:Int} {l:List (List UInt8)} {r:bf} (hs:cj g l rs=true) (hr:r ∈ rs):r.right.length<=r.left.length/\r.left.length<=1000/\r.proof.length<=100000/\cz r.proof<=1000000/\tQ r.right/\tQ r.left:=by
  have h:=(fB hs).2.2.1 r hr
  have h2:=gB h
  have h3:gu g l r.proof (r.left ++ c0 r.right)=0:=h2.2.2.2
  unfold gu at h3
  split at h3
  · exact absurd h3 ‹_›
  · rename_i hc
    have:=nR (iY hc).2.2
    exact ⟨Np h,kB h2.1,this.1,this.2,tU h2.2.1,tU h2.1⟩
theorem vE {w:List UInt8} (h:tQ w) (n:Nat):tQ (w.take n):=fun c hc=>h c (List.mem_of_mem_take hc)
theorem tV {w:List UInt8} (h:tQ w):tQ w.reverse:=fun c hc=>h c (List.mem_reverse.1 hc)
theorem Vc {w:List UInt8} (h:tQ w) (hw:0 < w.length):0<=ix (lR w):=h _ (bw O)
theorem vA {o:List UInt8} (h:¬ aK rs o < 0):qS rs o ∈ rs:=bw (pD h).1
theorem Cd {g:Int} {l:List (List UInt8)} {o:List UInt8} (hs:cj g l rs=true) (h:¬ aK rs o < 0):(aK rs o).toNat < rs.length/\(rs.getD (aK rs o).toNat .zero).left.length<=o.length/\(rs.getD (aK rs o).toNat .zero).right.length<=(rs.getD (aK rs o).toNat .zero).left.length/\(rs.getD (aK rs o).toNat .zero).left.length<=1000/\(rs.getD (aK rs o).toNat .zero).proof.length<=100000/\cz (rs.getD (aK rs o).toNat .zero).proof<=1000000/\0<=aK rs o:=by
  have h1:=pD h
  have h2:=lN hs (vA h)
  exact ⟨h1.1,Lu h1.2.1,h2.1,h2.2.1,h2.2.2.1,h2.2.2.2.1,by omega⟩
theorem Qx {q:List UInt8} (h:tQ q) (hq:0 < q.length):0<=ix (q.getD (q.length - 1) 0):=h _ (bw O)
theorem MG {g:Int} {l:List (List UInt8)} {q o:List UInt8} (hs:cj g l rs=true) (hq:tQ q) (h:¬ aK rs o < 0):tQ (q.take (q.length - 1) ++ (rs.getD (aK rs o).toNat .zero).right.reverse) :=
  DX (vE hq _) (tV (lN hs (vA h)).2.2.2.2.1)
theorem Mw (q r:List UInt8) (hq:0 < q.length):(q.take (q.length - 1) ++ r.reverse).length=q.length - 1 + r.length:=by simp
theorem Bh {q k K r:List UInt8} {W n:Nat} (h:q.length + k.length<=W) (hK:K.length=k.length + 1) (hr:r.length<=n) (hn:n<=K.length) (hq:0 < q.length):(q.take (q.length - 1) ++ r.reverse).length + (K.take (K.length - n)).length<=W:=by
  rw [Mw q r hq,List.length_take];omega
theorem Gi {q r:List UInt8} {n f:Nat} (hf:(20000 - n) * 100001 + q.length < f) (hn:n + 1<=20000) (hr:r.length<=1000) (hq:0 < q.length):(20000 - (n + 1)) * 100001 + (q.take (q.length - 1) ++ r.reverse).length < f - 1:=by
  rw [Mw q r hq]
  obtain ⟨e,he⟩:∃ e,20000 - n=e + 1:=⟨20000 - n - 1,by omega⟩
  have h2:20000 - (n + 1)=e:=by omega
  rw [h2];rw [he,Nat.add_mul,Nat.one_mul] at hf
  generalize e * 100001=z at *
  have:z + (q.length - 1 + r.length) + 1 < f:=by
    refine Nat.lt_of_le_of_lt ?_ hf
    have:q.length - 1 + r.length + 1<=100001 + q.length:=by omega
    omega
  omega
def UG (s:Il):Fj:=⟨s.stack,s.steps,s.disk⟩
def eh (o:Option Fj):Fj:=o.getD .zero
theorem na {w:List UInt8} {s:Il} (h:il rs rL (start w)=some s):ga rs w=some (UG s):=by rw [ga,h];rfl
theorem iI {w:List UInt8} (h:il rs rL (start w)=none):ga rs w=none:=by rw [ga,h];rfl
def ro (g:Int) (rs:List bf) (w:List UInt8):Option Fj:=if bG g w=0/\w.length<=20000 then ga rs w else none
def j6 (g:Int) (rs:List bf) (w:List UInt8):Nat:=if ¬ bG g w=0 then 4 else if (ro g rs w).isSome then 0 else 2
def n0 (g:Int) (rs:List bf) (w:List UInt8):Fj:=eh (ro g rs w)
variable {g:Int} {w:List UInt8}
theorem jg (h:¬ bG g w=0):n0 g rs w=.zero/\j6 g rs w=4:=by simp [n0,ro,j6,h,eh]
theorem jG (h:¬ ¬ bG g w=0) (hl:20000 < w.length):n0 g rs w=.zero/\j6 g rs w=2:=by
  have:=Decidable.not_not.1 h
  simp [n0,ro,j6,this,eh,show ¬ w.length<=20000 by omega]
theorem pB (h:¬ ¬ bG g w=0) (hl:¬ 20000 < w.length):n0 g rs w=eh (ga rs w)/\j6 g rs w=if (ga rs w).isSome then 0 else 2:=by
  have:=Decidable.not_not.1 h
  simp [n0,ro,j6,this,show w.length<=20000 by omega]
def ei (g:Int) (l:List (List UInt8)) (rs:List bf) (w:List UInt8):Fj:=if cj g l rs then n0 g rs w else .zero
def gV (g:Int) (l:List (List UInt8)) (rs:List bf) (w:List UInt8):Nat:=if cj g l rs then j6 g rs w else 100
theorem jc (h:¬ ¬ bG g w=0) (hl:¬ 20000 < w.length) (q:(!(ga rs w).isSome)=true):n0 g rs w=.zero/\j6 g rs w=2:=by
  have e:ga rs w=none:=by cases h:ga rs w <;> simp_all
  rw [(pB h hl).1,(pB h hl).2,e];exact ⟨Z,Z⟩
theorem jd (h:¬ ¬ bG g w=0) (hl:¬ 20000 < w.length) (q:(!(ga rs w).isSome)=false):n0 g rs w=eh (ga rs w)/\j6 g rs w=0:=by
  rw [(pB h hl).1,(pB h hl).2];exact ⟨Z,by simp_all⟩
theorem od {l:List (List UInt8)} (h:cj g l rs=false):ei g l rs w=.zero/\gV g l rs w=100:=by simp [ei,gV,h]
theorem iW {l:List (List UInt8)} (h:cj g l rs=true):ei g l rs w=n0 g rs w/\gV g l rs w=j6 g rs w:=by simp [ei,gV,h]
theorem sc {o:Option Fj} (h:(!o.isSome)=true):o=none:=by cases o <;> simp_all
theorem pC {o:Option Fj} (h:(!o.isSome)=false):o=some (eh o):=by cases o <;> simp_all [eh]
end
end Go.Proofs.YtjppkekmddjcfaaGreatDoor

namespace Go.Proofs.YtjppkekmddjcfaaGreatDoor
open Go Go.RowKit V
set_option maxRecDepth 100000
theorem kR:dx Tryz.prog 37=some true:=by kernel_rfl
theorem jW:ee Tryz.prog 37 0=some (9,0):=by kernel_rfl
theorem lG:ee Tryz.prog 37 1=some (3,1):=by kernel_rfl
theorem nI:ee Tryz.prog 37 2=some (35,2):=by kernel_rfl
theorem LX:Tryz.prog.info? 85=some Tryz.t85:=by kernel_rfl
theorem um:dh Tryz.prog 37=some [(0,1),(1,1),(2,1)]:=by kernel_rfl
theorem Ut:dh Tryz.prog 85=some [(0,1),(1,1),(2,1)]:=by kernel_rfl
theorem d6:dp Tryz.prog 37=some 3:=by kernel_rfl
theorem Ku:type_of% @Tryz.underlying37:=@Tryz.underlying37
theorem sy:cD Tryz.prog 37=some (.agg #[.string ⟨⟨[]⟩⟩,.int .i64 0,.slice none 0 0]):=by kernel_rfl

theorem wd (g:Int) (u:Value) (l:List (List UInt8)) (rv:Value) (rs:List bf) (w:List UInt8) (A:AH) (hw:w.length<=9223372036854775807) (hz:Va l rs) (hu:bK A 1 u (d5 l)) (hr:bK A 3 rv (c9 rs)) (hp:Proofs A rs):bH Tryz.prog 15 #[.agg #[num (g),u,rv],aX (w)] A (fun v A1=>v=.bool (cj g l rs && decide (bG g w=0) && s9 rs w)/\A.le A1/\A1.wf):=by
 refine jP Tryz.call15 Tryz.func15 Z Tryz.results15 Tryz.ntmps15 Z (fun wf=>?_);have ab:=AH.le.refl A;obtain ⟨ag,ai,a9,aa⟩:=id hz;refine am.seq fun _ h2=>.region<|.l Z (fun _ _ a8 _=>dQ wf rfl rfl fun A5 b4 a0=>?_);have D:=ab.trans a0.le;refine a8 _ _<|.q Z (ae Z)<|.nil<|h2 _ _<|.seq fun _ h9=>.region<|.q Z (aq eR ew Z Z a0.get Z)<|.l Z (fun _ _ a4 _=>au Z (NR ((g)) u l rv rs A5 hz (hu.le D) (hr.le D) (hp.le D)) ?_);rintro ap A12 ⟨rfl,V,X⟩;have a3:=V.get _ _ a0.get;have h:=D.trans V;refine a4 _ _<|.q Z (ku (b:=0) Z Z)<|.q Z (ah Z)<|.part (t:=8) Z (fun ac=>?_) (fun ac=>?_)
 ·refine Ops.on Z Z<|.q Z (ah Z)<|.on Z Z<|.q Z (aj fY gz U Z)<|.on Z Z<|.q Z (aj fW c5 U Z)<|.on Z Z<|.q Z (ak eM Z Z a3 Z)<|.on Z Z<|.l Z (fun _ _ a5 _=>au Z (lQ w ((g)) A12 hw (cR (fB (qO ‹_›)).1).1) ?_);rintro ar A19 ⟨rfl,rfl⟩;refine a5 _ _<|.q Z (aM Z Z)<|.q Z (ah Z)<|.part (t:=15) Z (fun ad=>?_) (fun ad=>?_)
  ·refine Ops.on Z Z<|.q Z (aq eR ew Z Z a3 Z)<|.on Z Z<|.q Z (ah Z)<|.on Z Z<|.l Z (fun _ _ a6 _=>au Z (Td ((g)) u l rv rs w A12 a9 (fun r q=>by have:=aa r q;omega) (by have:=gi ‹bG g w=0›;omega) (hu.le h) (hr.le h)) ?_);rintro av A24 ⟨rfl,a1,a2⟩;have a7:=h.trans a1;refine a6 _ _<|.q Z (aM Z Z)<|.q Z (ae Z)<|.nil<|h9 _ _<|.rt (by exact aJ Z (⟨by (rw [qO ‹_›];simp_all [eE]),a7,a2⟩))
  refine Ops.off Z Z Z Z<|.off Z Z Z Z<|.off Z Z Z Z<|.q Z (aW Z Z)<|.q Z (ae Z)<|.nil<|h9 _ _<|.rt (by exact aJ Z (⟨by (rw [qO ‹_›];simp_all [eE]),h,X⟩))
 refine Ops.off Z Z Z Z<|.off Z Z Z Z<|.off Z Z Z Z<|.off Z Z Z Z<|.off Z Z Z Z<|.q Z (aW Z Z)<|.q Z (ah Z)<|.off Z Z Z Z<|.off Z Z Z Z<|.off Z Z Z Z ?_;refine Ops.q Z (aW Z Z)<|.q Z (ae Z)<|.nil<|h9 _ _<|.rt (by exact aJ Z (⟨by (rw [ru ‹_›];simp_all [eE]),h,X⟩))

theorem Rx (dv:Value) (d:List bI) (p:List UInt8) (A:AH) (hn:d.length<=1000000) (hcl:cz d<=100000000) (hpl:p.length<=1000000) (hv:bK A 3 dv (cb d)):bH Tryz.prog 137 #[dv,aX (p)] A (fun v A1=>∃ s,v=.tuple #[s,.bool (rk p d)]/\A.le A1/\A1.wf/\Fresh A A1 s 3 (cb (eU p d))):=by
 refine jP Tryz.call137 Tryz.func137 Z Tryz.results137 Tryz.ntmps137 Z (fun wf=>?_);have bb:=AH.le.refl A;refine am.seq fun _ h2=>.region<|.q Z (ae Z)<|.q Z (ae Z)<|.nil<|h2 _ _<|.seq fun _ h4=>.region<|.q Z (ae Z)<|.nil ?_;refine h4 _ _<|.seq fun _ h6=>.seq fun _ h8=>.region<|.q Z (ae Z)<|.nil<|h8 _ _<|.block<|.loop (X:=Nat × List bI × Value) (fun ⟨i,o,s⟩=>[(0,dv),(1,aX (p)),(6,s),(7,num ((i:Nat):Int))]) (fun ⟨i,o,s⟩ B=>(i<=d.length/\o=(d.take i).map (ot p)/\∀ j,j < i->p.length + (d.getD j .zero).conj.length<=100000)/\A.le B/\Fresh A B s 3 (cb o)) (fun ⟨i,o,s⟩=>d.length - i) (⟨0,[],.slice none 0 0⟩) (lD Z Z Z Z) (⟨⟨Nat.zero_le _,by simp,fun j h=>by omega⟩,bb,(Fresh.nil A A 3)⟩) ?_;rintro ⟨i,o,s⟩ B10 ⟨⟨hi,ho,hb⟩,D,a1⟩;refine am.wf fun a6=>?_;have hck:=fun q:i < d.length=>FB (bw (d:=bI.zero) q);have hol:o.length<=i:=by rw [ho];simp;omega
 refine am.seq fun _ aZ=>.seq fun _ b0=>.region<|.q Z (ah Z)<|.q Z (ah Z)<|.q Z (bF (n:=d.length) mz Z (hv.le D) O (c6 _))<|.q Z (cd Z Z)<|.nil<|b0 _ _<|.if rfl (fun bc=>?_) (fun bc=>?_)
 ·refine am.skip<|aZ _ _<|.seq fun _ b1=>.block<|.seq fun _ b2=>.seq fun _ b3=>.region<|.q Z (ah Z)<|.q Z (cB u9 Z)<|.q Z (ah Z) ?_;refine Ops.q Z (ah Z) ?_;obtain ⟨bP,bT,bD,cv,bv,c7,bV,aP,b7,aV,bm,ac⟩:=bK.at (i:=i) (hv.le D) Ox O;refine Ops.q Z (ax mz im Z aP Z b7)<|.q Z (aj iO fc U Z)<|.q Z (ak fP Z Z aV ((ac 0 U).trans (pX O)))<|.q Z (cB u9 Z)<|.q Z (bE Z Z (by first | omega | (have:=hck O;omega)))<|.q Z (dP (b:=100000) Z Z)<|.nil<|b3 _ _<|.if rfl (fun bd=>?_) (fun bd=>?_)
  ·refine am.seq fun _ b5=>.region<|.q Z (ae Z)<|.q Z (ae Z)<|.nil<|b5 _ _<|.rt (by exact aJ Z (⟨_,by first | (rw [za (i:=i) O O];rfl) | (rw [uG (i:=i) O hb];rfl),D,a6,(Fresh.nil A B10 3:Fresh _ _ _ _ []) |> fun z=>cw z (by rw [Qo (za (i:=i) O O)];rfl)⟩))
  refine am.skip<|b2 _ _<|.drawn [0,1,2,3,4,5,6,7,9,10,11,12,13,14,15,16,17,18,8,19,20,21,22] mixed Y Y Z<|.q Z Z Z (ah Z)<|.q Z Z Z (ah Z)<|.q Z Z Z (ah Z)<|.q Z Z Z (ah Z) ?_;obtain ⟨bR,bU,bL,cA,bA,cc,bY,aR,b8,aY,bp,ad⟩:=bK.at (i:=i) (hv.le D) Ox O;refine bj.q Z Z Z (ax mz im Z aR Z b8)<|.q Z Z Z (aj iO fc U Z)<|.q Z Z Z (ak fP Z Z aY ((ad 0 U).trans (pX O)))<|.q Z Z Z (qI Z Z (by first | omega | (have:=hck O;omega)))<|.q Z Z Z (ah Z)<|.q Z Z Z (ah Z) ?_;obtain ⟨aG,a8,bM,cC,bB,ch,c3,aS,b9,aa,br,a3⟩:=bK.at (i:=i) (hv.le D) Ox O;refine bj.q Z Z Z (ax mz im Z aS Z b9)<|.q Z Z Z (aj rb c5 U Z) ?_;have ap:=cG (off:=a8 + i * 3 + 1) aa ((a3 1 U).trans (xj O));refine bj.q Z Z Z (ak eM Z Z aa ((a3 1 U).trans (xj O)))<|.q Z Z Z (ah Z)<|.q Z Z Z (ah Z) ?_;obtain ⟨aI,a9,bO,cH,bC,ck,c4,aT,ba,ab,bu,a4⟩:=bK.at (i:=i) (hv.le D) Ox O;refine bj.q Z Z Z (ax mz im Z aT Z ba)<|.q Z Z Z (aj Dx mc U Z) ?_;have ar:=cG (off:=a9 + i * 3 + 2) ab ((a4 2 U).trans (xk O));refine bj.q Z Z Z (ak ut Z Z ab ((a4 2 U).trans (xk O)))<|.l Z Z Z (fun _ _ az _=>au Z (tq (p ++ ((d.getD i .zero).conj)) B10 (by first | omega | (simp only [List.length_append];omega))) ?_);rintro cK A35 ⟨rfl,V,a7⟩;have ag:=a1.le V;have av:=bW V ap;have ay:=bW V ar;have aC:=D.trans V;refine az _ _ (be.list (L:=[(⟨aI,a9 + i * 3 + 2,none⟩,.bool ((d.getD i .zero).inv)),(⟨aG,a8 + i * 3 + 1,none⟩,num ((d.getD i .zero).rel))]) Y (bg ay (bg av bZ)))<|.q Z Z Z (cU Z (bn Vy Kn Ut Z))<|.l Z Z Z (fun _ _ aA _=>aN (c:=[aX (cn (p ++ ((d.getD i .zero).conj))),num ((d.getD i .zero).rel),.bool ((d.getD i .zero).inv)]) a7 rfl (aw mz im Kn rfl U U rfl) fun A44 bS a0=>?_);have a5:=ag.le a0.le;have aD:=aC.trans a0.le;refine aA _ _ (be.none Y)<|.l Z Z Z (fun _ _ aB _=>cF (ys:=[aX (cn (p ++ ((d.getD i .zero).conj))),num ((d.getD i .zero).rel),.bool ((d.getD i .zero).inv)]) rfl rfl mz im LX Kn rfl U mz (fun _ h=>by cases h) a5.own (bN (n:=1) a0.get Z) rfl rfl (by show (_ + _) * 32<=_;simp only [ca,List.length_cons,List.length_nil];(try simp only [List.length_append,List.length_cons,List.length_nil]);omega) (by simp only [ca,List.length_cons,List.length_nil];(try simp only [List.length_append,List.length_cons,List.length_nil]);omega) fun A52 bl a2=>?_);rw [show ([aX (cn (p ++ ((d.getD i .zero).conj))),num ((d.getD i .zero).rel),.bool ((d.getD i .zero).inv)]:List Value)=cb [⟨cn (p ++ ((d.getD i .zero).conj)),(d.getD i .zero).rel,(d.getD i .zero).inv⟩] from rfl,mF] at a2;obtain ⟨ai,aF⟩:=Fresh.grow a5 aD wf a2;refine aB _ _ (be.none Y)<|.q Z Z Z (ae Z)<|.done<|b1 _ _<|.region<|.q Z (ah Z)<|.q Z (bE (b:=1) Z Z (by first | omega | (have:=hck O;omega)))<|.q Z (ae Z)<|.nil ?_;exact ⟨⟨i + 1,o ++ [⟨cn (p ++ ((d.getD i .zero).conj)),(d.getD i .zero).rel,(d.getD i .zero).inv⟩],bl⟩,lD Z Z Z Z,Z,⟨⟨by omega,vB O ho,fun j h=>(Nat.lt_succ_iff_lt_or_eq.1 h).elim (hb j) (fun z=>by subst z;omega)⟩,aF,ai⟩,O1⟩
 refine am.exit<|h6 _ _<|.seq fun _ b6=>.region<|.q Z (ah Z)<|.q Z (ae Z)<|.q Z (ae Z)<|.nil<|b6 _ _<|.rt (by exact aJ Z (⟨_,by first | (rw [za (i:=i) O O];rfl) | (rw [uG (i:=i) O hb];rfl),D,a6,cw a1 (congrArg cb (xJ (i:=i) O ho (uG (i:=i) O hb)))⟩))

theorem Tc (g:Int) (u:Value) (l:List (List UInt8)) (rv:Value) (rs:List bf) (w:List UInt8) (A:AH) (hs:cj g l rs=true) (hw:bG g w=0) (hwl:w.length<=20000) (hu:bK A 1 u (d5 l)) (hr:bK A 3 rv (c9 rs)) (hp:Proofs A rs):bH Tryz.prog 104 #[.agg #[num (g),u,rv],aX (w)] A (fun v A1=>∃ dv,v=.tuple #[.agg #[aX (eh (ga rs w)).word,num (((eh (ga rs w)).steps:Nat):Int),dv],.bool (ga rs w).isSome]/\A.le A1/\A1.wf/\Fresh A A1 dv 3 (cb (eh (ga rs w)).disk)):=by
 refine jP Tryz.call104 Tryz.func104 Z Tryz.results104 Tryz.ntmps104 Z (fun wf=>?_);have kp:=AH.le.refl A;refine am.seq fun _ h2=>.region<|.l Z (fun _ _ kc _=>dQ wf rfl rfl fun A5 b4 e9=>?_);have gG:=kp.trans e9.le;refine kc _ _<|.l Z (fun _ _ kk _=>cg e9.wf sy rfl fun A10 b9 aI=>?_);have b1:=aU wf (Nat.le_trans gG.n aI.lo);have gs:=aI.le.get _ _ e9.get;have e6:=gG.trans aI.le;refine kk _ _<|.q Z (ae Z)<|.nil<|h2 _ _<|.seq fun _ iV=>.region<|.l Z (fun _ _ hM _=>cg aI.wf sy rfl fun A18 bC av=>?_);have b6:=ne_new aI.wf gs av.lo;have aP:=ne_new aI.wf aI.get av.lo;have bu:=aU wf (Nat.le_trans e6.n av.lo);have gA:=av.le.get _ _ gs;have gC:=av.le.get _ _ aI.get;have e7:=e6.trans av.le;refine hM _ _<|.nil<|iV _ _<|.seq fun _ iX=>.region<|.q Z (ae Z)<|.nil<|iX _ _<|.seq fun _ j1=>.region ?_;refine Ops.q Z (ae Z)<|.nil<|j1 _ _<|.seq fun _ j2=>.region<|.q Z (ah Z)<|.l Z (fun _ _ hN _=>au Z (wi w A18 (by first | omega | (have:=hrf ‹_›;omega))) ?_);rintro kT A31 ⟨ba,l2,b7⟩;have j3:=ba.get _ _ gA;have j4:=ba.get _ _ gC;have jX:=ba.get _ _ av.get;have hS:=e7.trans ba;have gP:=b7.base e7;have hV:=b7.ne av.wf gA;have hW:=b7.ne av.wf gC;have hX:=b7.ne av.wf av.get;refine hN _ _<|.q Z (ae Z)<|.nil<|j2 _ _<|.seq fun _ k0=>.block<|.loop (X:=List UInt8 × List UInt8 × Nat × List bI × Nat × Nat × Value × Value × Value) (fun ⟨q,k,n,d,m,f,qv,kv,dv⟩=>[(2,.pointer (some ⟨b4,0,none⟩)),(4,.pointer (some ⟨b9,0,none⟩)),(6,.pointer (some ⟨bC,0,none⟩)),(7,kv),(8,num ((m:Nat):Int)),(9,qv)]) (fun ⟨q,k,n,d,m,f,qv,kv,dv⟩ B=>(il rs f ⟨q,k,n,d,m⟩=il rs rL (start w)/\q.length + k.length<=w.length/\tQ q/\n<=20000/\d.length<=100000/\m<=1000000/\(20000 - n) * 100001 + q.length < f)/\A.le B/\Fresh A B qv 1 (ao q)/\Fresh A B kv 1 (ao k)/\Fresh A B dv 3 (cb d)/\B.get bC=some (.row true [aX ([]),num ((n:Nat):Int),dv] 3)/\B.get b4=some (.row true [num (g),u,rv] 3)/\B.get b9=some (.row true [aX ([]),num ((0:Nat):Int),.slice none 0 0] 3)/\V.blk qv ≠ some bC/\V.blk kv ≠ some bC/\V.blk dv ≠ some bC/\V.blk qv ≠ some b4/\V.blk kv ≠ some b4/\V.blk dv ≠ some b4/\V.blk qv ≠ some b9/\V.blk kv ≠ some b9/\V.blk dv ≠ some b9/\bq qv kv/\bq qv dv/\bq kv dv) (fun ⟨q,k,n,d,m,f,qv,kv,dv⟩=>f) (⟨w.reverse,[],0,[],0,rL,kT,.slice none 0 0,.slice none 0 0⟩) (zE Z Z Z Z Z Z) (⟨⟨Z,by simp,tV (j5 (fun z=>z hw)),by omega,by simp,by omega,by have h1:w.length<=20000:=hwl;simp only [List.length_reverse];unfold rL;omega⟩,hS,gP,(Fresh.nil A A31 1),(Fresh.nil A A31 3),jX,j3,j4,hX,(fun q=>by cases q),(fun q=>by cases q),hV,(fun q=>by cases q),(fun q=>by cases q),hW,(fun q=>by cases q),(fun q=>by cases q),(bq.symm bq.nil),(bq.symm bq.nil),bq.nil⟩) ?_;rintro ⟨q,k,n,d,m,f,qv,kv,dv⟩ B44 ⟨⟨hrun,hlen,hok,hn,hd,hm,hf⟩,cP,ai,ag,b3,aY,bD,b5,a2,aA,a3,ac,aD,ab,ad,aF,a7,aZ,aG,b0⟩;refine am.wf fun ec=>?_;have htop:=fun z:0 < q.length=>Qx hok z;have hrf:=fun z:¬ aK rs (k ++ [q.getD (q.length - 1) 0]) < 0=>Cd hs z;have hkl:(k ++ [q.getD (q.length - 1) 0]).length=k.length + 1:=by simp
 have hmv:(eU ((k ++ [q.getD (q.length - 1) 0]).take ((k ++ [q.getD (q.length - 1) 0]).length - (rs.getD (aK rs (k ++ [q.getD (q.length - 1) 0])).toNat .zero).left.length)) (rs.getD (aK rs (k ++ [q.getD (q.length - 1) 0])).toNat .zero).proof).length<=(rs.getD (aK rs (k ++ [q.getD (q.length - 1) 0])).toNat .zero).proof.length:=tP _ _;have hmk:rk ((k ++ [q.getD (q.length - 1) 0]).take ((k ++ [q.getD (q.length - 1) 0]).length - (rs.getD (aK rs (k ++ [q.getD (q.length - 1) 0])).toNat .zero).left.length)) (rs.getD (aK rs (k ++ [q.getD (q.length - 1) 0])).toNat .zero).proof=true->(eU ((k ++ [q.getD (q.length - 1) 0]).take ((k ++ [q.getD (q.length - 1) 0]).length - (rs.getD (aK rs (k ++ [q.getD (q.length - 1) 0])).toNat .zero).left.length)) (rs.getD (aK rs (k ++ [q.getD (q.length - 1) 0])).toNat .zero).proof).length=(rs.getD (aK rs (k ++ [q.getD (q.length - 1) 0])).toNat .zero).proof.length:=Be;have hmc:cz (eU ((k ++ [q.getD (q.length - 1) 0]).take ((k ++ [q.getD (q.length - 1) 0]).length - (rs.getD (aK rs (k ++ [q.getD (q.length - 1) 0])).toNat .zero).left.length)) (rs.getD (aK rs (k ++ [q.getD (q.length - 1) 0])).toNat .zero).proof)<=100000 * (eU ((k ++ [q.getD (q.length - 1) 0]).take ((k ++ [q.getD (q.length - 1) 0]).length - (rs.getD (aK rs (k ++ [q.getD (q.length - 1) 0])).toNat .zero).left.length)) (rs.getD (aK rs (k ++ [q.getD (q.length - 1) 0])).toNat .zero).proof).length:=zY xI;refine am.seq fun _ k1=>.seq fun _ k2=>.region<|.q Z (ah Z)<|.q Z (bF (n:=q.length) cy Z ai.slc O (dq _))<|.q Z (dP (b:=0) Z Z)<|.nil<|k2 _ _<|.if rfl (fun kD=>?_) (fun kD=>?_)
 ·refine am.skip<|k1 _ _<|.block<|.seq fun _ k3=>.region<|.q Z (ah Z)<|.q Z (ah Z)<|.q Z (bF (n:=q.length) cy Z ai.slc O (dq _))<|.q Z (fJ (b:=1) Z Z (by first | omega | (have:=hrf ‹_›;omega))) ?_;obtain ⟨lX,m2,lF,mt,lC,mb,m3,iR,kl,iT,l6,gM⟩:=bK.at (i:=q.length - 1) ai.slc On O;refine Ops.q Z (ax cy ji Z iR Z kl)<|.q Z (ak Iq Z Z iT ((cT gM).trans (eH O)))<|.q Z (ae Z)<|.nil<|k3 _ _<|.seq fun _ k4=>.region<|.q Z (ah Z)<|.q Z (ah Z)<|.q Z (bF (n:=q.length) cy Z ai.slc O (dq _)) ?_;refine Ops.q Z (fJ (b:=1) Z Z (by first | omega | (have:=hrf ‹_›;omega))) ?_;obtain ⟨aB,ch,aC,kM,kA,lZ⟩:=ai.nonnil (by intro q;have:=congrArg List.length q;simp only [aH,List.length_nil] at this;omega);subst kM;rw [aH,Nat.mul_one] at kA;have cA:=ai.take (k:=q.length - 1) O;rw [Nat.mul_one,gO] at cA;refine Ops.q Z (i5 cy ji Z Z O)<|.q Z (ae Z)<|.nil<|k4 _ _<|.seq fun _ k6=>.region<|.q Z (ah Z)<|.q Z (bF (n:=k.length) cy Z ag.slc O (dq _))<|.q Z (ae Z)<|.nil ?_;refine k6 _ _<|.seq fun _ k7=>.join (fun f A1=>al [(45,.bool (decide (0 < k.length/\k.getD (k.length - 1) 0=q.getD (q.length - 1) 0 ^^^ 32))),(2,.pointer (some ⟨b4,0,none⟩)),(4,.pointer (some ⟨b9,0,none⟩)),(6,.pointer (some ⟨bC,0,none⟩)),(7,kv),(8,num ((m:Nat):Int)),(9,.slice (some ⟨aB,0,none⟩) (q.length - 1) aC),(18,.slice (some ⟨aB,0,none⟩) ch aC),(19,num ((q.length:Nat):Int)),(20,.bool (decide (0 < q.length))),(21,.slice (some ⟨aB,0,none⟩) ch aC),(22,.slice (some ⟨aB,0,none⟩) ch aC),(23,num ((q.length:Nat):Int)),(24,num ((q.length - 1:Nat):Int)),(26,d8 (q.getD (q.length - 1) 0)),(10,d8 (q.getD (q.length - 1) 0)),(27,.slice (some ⟨aB,0,none⟩) ch aC),(28,.slice (some ⟨aB,0,none⟩) ch aC),(29,num ((q.length:Nat):Int)),(30,num ((q.length - 1:Nat):Int)),(31,.slice (some ⟨aB,0,none⟩) (q.length - 1) aC),(32,kv),(33,num ((k.length:Nat):Int)),(11,num ((k.length:Nat):Int))] f.e/\f.ds=[]/\B44=A1) ?_ ?_
  ·refine am.drawn [0,1,2,3,4,5,6,7,8,9,10,11] mixed Y Y Z<|.q Z Z Z (ah Z)<|.q Z Z Z (dP (b:=0) Z Z)<|.q Z Z Z (ah Z)<|.part (t:=36) Z (fun kK=>?_) (fun kK=>?_)
   ·refine bj.qOn Z Z Z Z Z (ah Z)<|.qOn Z Z Z Z Z (ah Z)<|.qOn Z Z Z Z Z (fJ (b:=1) Z Z (by first | omega | (have:=hrf ‹_›;omega))) ?_;obtain ⟨iF,gp,lK,mv,lE,me,m6,iS,km,gq,l7,dK⟩:=bK.at (i:=k.length - 1) ag.slc On O;refine bj.qOn Z Z Z Z Z (ax cy ji Z iS Z km) ?_;have hL:=cG (off:=gp + (k.length - 1) * 1) gq ((cT dK).trans (eH O));refine bj.qOn Z Z Z Z Z (ak Iq Z Z gq ((cT dK).trans (eH O)))<|.qOn Z Z Z Z Z (ah Z)<|.lOn Z Z Z Z Z (fun _ _ hO _=>au Z (we (q.getD (q.length - 1) 0) B44 (htop O)) ?_);rintro mx A69 ⟨rfl,rfl⟩;refine hO _ _ (be.list (L:=[(⟨iF,gp + (k.length - 1) * 1,none⟩,d8 (k.getD (k.length - 1) 0))]) Y (bg hL bZ))<|.qOn Z Z Z Z Z (vJ Z Z)<|.q Z Z Z (aM Z Z)<|.done ?_;exact ⟨al.cons (show some _=some _ from congrArg (fun b=>some (Value.bool b)) (show (decide ((k.getD (k.length - 1) 0)=((q.getD (q.length - 1) 0) ^^^ 32)))=decide (0 < k.length/\k.getD (k.length - 1) 0=q.getD (q.length - 1) 0 ^^^ 32) from (by first | rfl | simp only [‹0 < _›,true_and] | simp only [‹¬ 0 < _›,false_and,decide_false])))<|al.cons Z<|al.cons Z<|al.cons Z<|al.cons Z<|al.cons Z<|al.cons Z<|al.cons Z<|al.cons Z<|al.cons Z<|al.cons Z<|al.cons Z<|al.cons Z<|al.cons Z<|al.cons Z<|al.cons Z<|al.cons Z<|al.cons Z<|al.cons Z<|al.cons Z<|al.cons Z<|al.cons Z<|al.cons Z<|al.cons Z<|al.nil _,Z,Z⟩
   refine bj.qOff Z Z Z Z Z Z<|.qOff Z Z Z Z Z Z<|.qOff Z Z Z Z Z Z<|.qOff Z Z Z Z Z Z<|.qOff Z Z Z Z Z Z<|.qOff Z Z Z Z Z Z<|.lOff Z Z Z Z Z Z<|.qOff Z Z Z Z Z Z<|.q Z Z Z (aW Z Z)<|.done ?_;exact ⟨al.cons (show some _=some _ from congrArg (fun b=>some (Value.bool b)) (show (false)=decide (0 < k.length/\k.getD (k.length - 1) 0=q.getD (q.length - 1) 0 ^^^ 32) from (by first | rfl | simp only [‹0 < _›,true_and] | simp only [‹¬ 0 < _›,false_and,decide_false])))<|al.cons Z<|al.cons Z<|al.cons Z<|al.cons Z<|al.cons Z<|al.cons Z<|al.cons Z<|al.cons Z<|al.cons Z<|al.cons Z<|al.cons Z<|al.cons Z<|al.cons Z<|al.cons Z<|al.cons Z<|al.cons Z<|al.cons Z<|al.cons Z<|al.cons Z<|al.cons Z<|al.cons Z<|al.cons Z<|al.cons Z<|al.nil _,Z,Z⟩
  rintro ⟨fe,fd⟩ _ ⟨hE,rfl,rfl⟩;refine am.forget hE<|.if rfl (fun kL=>?_) (fun kL=>?_)
  ·refine am.seq fun _ k9=>.region<|.q Z (ah Z)<|.q Z (ah Z)<|.q Z (fJ (b:=1) Z Z (by first | omega | (have:=hrf ‹_›;omega))) ?_;obtain ⟨iH,mm,iN,kP,kC,m1⟩:=ag.nonnil (by intro q;have:=congrArg List.length q;simp only [aH,List.length_nil] at this;omega);subst kP;rw [aH,Nat.mul_one] at kC;have dL:=ag.take (k:=k.length - 1) O;rw [Nat.mul_one,gO] at dL;refine Ops.q Z (i5 cy ji Z Z O)<|.q Z (ae Z)<|.nil<|k9 _ _<|.exit ?_;exact ⟨⟨q.take (q.length - 1),k.take (k.length - 1),n,d,m,f - 1,.slice (some ⟨aB,0,none⟩) (q.length - 1) aC,.slice (some ⟨iH,0,none⟩) (k.length - 1) iN,dv⟩,zE Z Z Z Z Z Z,Z,⟨⟨GA O O hrun ‹_›,by simp only [List.length_take];omega,vE hok _,hn,hd,hm,by simp only [List.length_take];omega⟩,cP,cA,dL,b3,aY,bD,b5,a2,aA,a3,ac,aD,ab,ad,aF,a7,aZ,aG,b0⟩,O1⟩
  refine am.skip<|k7 _ _<|.seq fun _ ka=>.region<|.q Z (ah Z)<|.q Z (ah Z)<|.l Z (fun _ _ hP _=>aN (c:=[d8 (q.getD (q.length - 1) 0)]) ec rfl (aw cy ji z5 rfl U U rfl) fun A80 lY a8=>?_);have gD:=a8.le.get _ _ aY;have gE:=a8.le.get _ _ bD;have gF:=a8.le.get _ _ b5;have dM:=ag.le a8.le;have dO:=b3.le a8.le;have dS:=cA.le a8.le;have hT:=cP.trans a8.le;refine hP _ _<|.l Z (fun _ _ hQ _=>cF (ys:=[d8 (q.getD (q.length - 1) 0)]) rfl rfl cy ji rd z5 rfl U cy (fun _ h=>by cases h) dM.own (bN (n:=1) a8.get Z) rfl rfl (by show (_ + _) * 1<=_;simp only [aH,List.length_cons,List.length_nil];(try simp only [List.length_append,List.length_cons,List.length_nil]);omega) O3 fun A95 gL aa=>?_);rw [show ([d8 (q.getD (q.length - 1) 0)]:List Value)=ao [q.getD (q.length - 1) 0] from rfl,dE] at aa;obtain ⟨cS,bU⟩:=Fresh.grow dM hT wf aa;have gS:=aa.keep aA gD;have bb:=aa.ne aA a8.wf gD;have dW:=aa.keep aD gE;have dl:=aa.ne aD a8.wf gE;have gX:=aa.keep aF gF;have dm:=aa.ne aF a8.wf gF;have c7:=bq.appd (show bq kv dv from b0) dO.own a8.wf aa;have en:=dO.appd aa b0;have cc:=bq.appd (show bq kv (.slice (some ⟨aB,0,none⟩) (q.length - 1) aC) from (bq.symm aZ)) dS.own a8.wf aa;have ev:=dS.appd aa (bq.symm aZ);refine hQ _ _<|.q Z (ae Z)<|.nil<|ka _ _<|.seq fun _ gY=>.region<|.q Z (aq eR ew Z Z dW Z)<|.q Z (ah Z)<|.l Z (fun _ _ f4 _=>au Z (Tx ((g)) u l rv rs gL (k ++ [q.getD (q.length - 1) 0]) A95 (by have:=(fB hs).2.1;omega) (fun r z=>by have:=(lm hs z).1;omega) (by simp only [List.length_append,List.length_cons,List.length_nil];omega) (hu.le bU) (hr.le bU) cS.slc) ?_);rintro lO A118 ⟨rfl,ap,ay⟩;have cC:=ap.get _ _ gS;have bS:=ap.get _ _ dW;have cH:=ap.get _ _ gX;have bL:=en.le ap;have bM:=ev.le ap;have bO:=cS.le ap;have b8:=bU.trans ap;refine f4 _ _<|.q Z (ae Z)<|.nil<|gY _ _<|.seq fun _ gZ=>.seq fun _ h3=>.region<|.q Z (ah Z)<|.q Z (k8 Z Z)<|.nil ?_;refine h3 _ _<|.if rfl (fun hY=>?_) (fun hY=>?_)
  ·refine am.exit ?_;exact ⟨⟨q.take (q.length - 1),k ++ [q.getD (q.length - 1) 0],n,d,m,f - 1,.slice (some ⟨aB,0,none⟩) (q.length - 1) aC,gL,dv⟩,zE Z Z Z Z Z Z,Z,⟨⟨Ci O O hrun ‹_› ‹_›,by simp only [List.length_take,List.length_append,List.length_cons,List.length_nil];omega,vE hok _,hn,hd,hm,by simp only [List.length_take];omega⟩,b8,bM,bO,bL,cC,bS,cH,a2,bb,a3,ac,dl,ab,ad,dm,a7,(bq.symm cc),aG,c7⟩,O1⟩
  refine am.skip<|gZ _ _<|.seq fun _ h4=>.region<|.q Z (aj er jJ U Z)<|.q Z (ak jR Z Z bS Z)<|.q Z (ah Z) ?_;obtain ⟨l3,lb,l1,lB,l0,lt,lp,gN,hR,gQ,eg,kV⟩:=bK.at (i:=(aK rs (k ++ [q.getD (q.length - 1) 0])).toNat) (hr.le b8) (by simp only [dg];have:=hrf ‹_›;omega) O;refine Ops.q Z (ax qq ij Z gN (iQ (by have:=hrf ‹_›;omega)) hR)<|.q Z (aq uj ij Z Z gQ (eg.trans (congrArg some (iB O))))<|.l Z (fun _ _ f6 _=>cg ay Ij rfl fun A138 l4 D=>?_);have az:=ne_new ay cC D.lo;have c3:=ne_new ay bS D.lo;have c4:=ne_new ay cH D.lo;have dw:=bL.own.ne_new ay D.lo;have g9:=bM.own.ne_new ay D.lo;have gc:=bO.own.ne_new ay D.lo;have dI:=aU wf (Nat.le_trans b8.n D.lo);have h5:=D.le.get _ _ cC;have h6:=D.le.get _ _ bS;have h7:=D.le.get _ _ cH;have ex:=bL.le D.le;have ey:=bM.le D.le;have ez:=bO.le D.le;have fN:=b8.trans D.le;refine f6 _ _<|.l Z (fun _ _ f7 _=>aQ (cs:=[aX ((rs.getD ((aK rs (k ++ [q.getD (q.length - 1) 0])).toNat) .zero).left),aX ((rs.getD ((aK rs (k ++ [q.getD (q.length - 1) 0])).toNat) .zero).right),(rs.getD ((aK rs (k ++ [q.getD (q.length - 1) 0])).toNat) .zero).pv]) (c':=[aX ((rs.getD ((aK rs (k ++ [q.getD (q.length - 1) 0])).toNat) .zero).left),aX ((rs.getD ((aK rs (k ++ [q.getD (q.length - 1) 0])).toNat) .zero).right),(rs.getD ((aK rs (k ++ [q.getD (q.length - 1) 0])).toNat) .zero).pv]) D.wf rfl rfl rfl rfl ij D.get (Nat.le_of_ble_eq_true rfl) (jE (hp.get (hrf ‹_›).1)) rfl fun A153 a5=>?_);have dZ:=a5.keep _ _ az h5;have h8:=a5.keep _ _ c3 h6;have ha:=a5.keep _ _ c4 h7;have cV:=ex.keep a5.keep dw;have eA:=ey.keep a5.keep g9;have bP:=ez.keep a5.keep gc;have bV:=an fN wf dI a5.n a5.keep;refine f7 _ _<|.nil<|h4 _ _<|.seq fun _ hb=>.region<|.q Z (ah Z)<|.q Z (ah Z)<|.q Z (bF (n:=(k ++ [q.getD (q.length - 1) 0]).length) cy Z bP.slc O (dq _))<|.q Z (aj fz fc U Z)<|.q Z (ak fP Z Z a5.get Z) ?_;refine Ops.q Z (cB u9 Z)<|.q Z (fJ Z Z (by first | omega | (have:=hrf ‹_›;omega))) ?_;obtain ⟨ck,lw,cv,ir,hU,l9⟩:=bP.nonnil (by intro q;have:=congrArg List.length q;simp only [aH,List.length_nil] at this;omega);subst ir;rw [aH,Nat.mul_one] at hU;have bR:=bP.take (k:=((k ++ [q.getD (q.length - 1) 0]).length) - (((rs.getD ((aK rs (k ++ [q.getD (q.length - 1) 0])).toNat) .zero).left).length)) O;rw [Nat.mul_one,gO] at bR;refine Ops.q Z (i5 cy ji Z Z O)<|.q Z (ae Z)<|.nil<|hb _ _<|.seq fun _ hc=>.region<|.q Z (aj mH kW U Z)<|.q Z (ak ns Z Z a5.get Z)<|.q Z (ah Z)<|.l Z (fun _ _ f9 _=>dT (s:=(k ++ [q.getD (q.length - 1) 0]).take (((k ++ [q.getD (q.length - 1) 0]).length) - (((rs.getD ((aK rs (k ++ [q.getD (q.length - 1) 0])).toNat) .zero).left).length))) Z cy u9 u5 bR.slc ?_);refine f9 _ _<|.l Z (fun _ _ fi _=>au Z (Rx ((rs.getD ((aK rs (k ++ [q.getD (q.length - 1) 0])).toNat) .zero).pv) ((rs.getD ((aK rs (k ++ [q.getD (q.length - 1) 0])).toNat) .zero).proof) ((k ++ [q.getD (q.length - 1) 0]).take (((k ++ [q.getD (q.length - 1) 0]).length) - (((rs.getD ((aK rs (k ++ [q.getD (q.length - 1) 0])).toNat) .zero).left).length))) A153 (by have:=hrf ‹_›;omega) (by have:=hrf ‹_›;omega) (by simp only [List.length_take];omega) ((hp.get (hrf ‹_›).1).le bV)) ?_);rintro lP A173 ⟨gm,rfl,a9,aR,br⟩;have cK:=a9.get _ _ dZ;have e0:=a9.get _ _ h8;have e1:=a9.get _ _ ha;have he:=a9.get _ _ a5.get;have cX:=cV.le a9;have cZ:=eA.le a9;have d0:=bR.le a9;have fO:=bV.trans a9;have d1:=br.base bV;have ge:=br.sep0 cV.own;have dz:=br.ne a5.wf dZ;refine fi _ _<|.q Z (ah Z)<|.q Z (bh Z Z)<|.q Z (bh Z Z)<|.q Z (ae Z)<|.q Z (ae Z)<|.nil<|hc _ _<|.seq fun _ hg=>.region ?_;refine Ops.q Z (aj nI kW U Z)<|.q Z (ak ns Z Z cK Z)<|.q Z (ah Z)<|.l Z (fun _ _ fl _=>cF rfl rfl mz im LX Kn rfl U mz (fun _ h=>by cases h) cX.own (d1.slc.listOf (n:=(eU ((k ++ [q.getD (q.length - 1) 0]).take (((k ++ [q.getD (q.length - 1) 0]).length) - (((rs.getD ((aK rs (k ++ [q.getD (q.length - 1) 0])).toNat) .zero).left).length))) ((rs.getD ((aK rs (k ++ [q.getD (q.length - 1) 0])).toNat) .zero).proof)).length) (by simp only [ca] <;> omega) O) (by simp only [ca] <;> omega) (Dp _) (by show (_ + _) * 32<=_;simp only [ca,List.length_cons,List.length_nil];have h0:=hrf ‹_›;omega) (by simp only [ca,List.length_cons,List.length_nil];have h0:=hrf ‹_›;omega) fun A198 lT a1=>?_);rw [mF] at a1;obtain ⟨d2,fQ⟩:=Fresh.grow cX fO wf a1;have hh:=a1.keep a3 cK;have bY:=a1.ne a3 aR cK;have hi:=a1.keep ab e0;have g4:=a1.ne ab aR e0;have hj:=a1.keep a7 e1;have g5:=a1.ne a7 aR e1;have hk:=a1.keep dw he;have dD:=bq.appd (show bq dv (.slice (some ⟨aB,0,none⟩) (q.length - 1) aC) from (bq.symm aG)) cZ.own aR a1;have eC:=cZ.appd a1 (bq.symm aG);have gf:=bq.appd (show bq dv (.slice (some ⟨ck,0,none⟩) (((k ++ [q.getD (q.length - 1) 0]).length) - (((rs.getD ((aK rs (k ++ [q.getD (q.length - 1) 0])).toNat) .zero).left).length)) cv) from (bq.symm c7)) d0.own aR a1;have eG:=d0.appd a1 (bq.symm c7);have eL:=d1.appd a1 (bq.symm ge);refine fl _ _<|.q Z (aj nI kW U Z) ?_;obtain ⟨bB,bA,bp,it,_⟩:=d2.own.slice;subst it;refine Ops.l Z (fun _ _ fm _=>aQ (cs:=[.slice bB bA bp]) (c':=[aX ([]),num ((n:Nat):Int),.slice bB bA bp]) a1.wf rfl rfl rfl rfl kW hh (Nat.le_of_ble_eq_true rfl) rfl rfl fun A225 a6=>?_);have hl:=a6.keep _ _ b6 hi;have ho:=a6.keep _ _ aP hj;have hq:=a6.keep _ _ az.symm hk;have eN:=eC.keep a6.keep a2;have eQ:=eG.keep a6.keep bb;have eS:=eL.keep a6.keep dz;have eT:=d2.keep a6.keep bY;have fR:=an fQ wf bu a6.n a6.keep;refine fm _ _<|.nil<|hg _ _<|.seq fun _ ht=>.region<|.q Z (aj lG c5 U Z)<|.q Z (ak eM Z Z a6.get Z)<|.q Z (bE (b:=1) Z Z (by first | omega | (have:=hrf ‹_›;omega)))<|.q Z (aj lG c5 U Z)<|.l Z (fun _ _ fn _=>aQ (cs:=[num ((n + 1:Nat):Int)]) (c':=[aX ([]),num ((n + 1:Nat):Int),.slice bB bA bp]) a6.wf rfl rfl rfl rfl c5 a6.get (Nat.le_of_ble_eq_true rfl) rfl rfl fun A240 a0=>?_);have hv:=a0.keep _ _ b6 hl;have bv:=a0.keep _ _ aP ho;have hx:=a0.keep _ _ az.symm hq;have eV:=eN.keep a0.keep a2;have eX:=eQ.keep a0.keep bb;have eY:=eS.keep a0.keep dz;have d3:=eT.keep a0.keep bY;have aT:=an fR wf bu a0.n a0.keep;refine fn _ _<|.nil<|ht _ _<|.seq fun _ hy=>.region<|.q Z (ah Z)<|.q Z (ah Z)<|.l Z (fun _ _ fo _=>au Z (JU gm (eU ((k ++ [q.getD (q.length - 1) 0]).take (((k ++ [q.getD (q.length - 1) 0]).length) - (((rs.getD ((aK rs (k ++ [q.getD (q.length - 1) 0])).toNat) .zero).left).length))) ((rs.getD ((aK rs (k ++ [q.getD (q.length - 1) 0])).toNat) .zero).proof)) A240 (by have:=hrf ‹_›;omega) xI eY.slc) ?_);rintro lV A256 ⟨rfl,rfl⟩;refine fo _ _<|.q Z (bE Z Z (by first | omega | (have:=hrf ‹_›;omega)))<|.q Z (ae Z)<|.nil<|hy _ _<|.seq fun _ hz=>.seq fun _ bT=>.region<|.q Z (ah Z)<|.q Z (eu Z) ?_;refine Ops.q Z (ah Z)<|.partB (t:=95) Z (fun hZ=>?_) (fun hZ=>?_)
  ·refine Ops.off Z Z Z Z<|.off Z Z Z Z<|.off Z Z Z Z<|.q Z (aM Z Z)<|.q Z (ah Z)<|.off Z Z Z Z<|.off Z Z Z Z<|.off Z Z Z Z<|.off Z Z Z Z<|.q Z (aM Z Z) ?_;refine Ops.q Z (ah Z)<|.off Z Z Z Z<|.off Z Z Z Z<|.q Z (aM Z Z)<|.nil<|bT _ _<|.cond_true Z<|.seq fun _ hA=>.region<|.q Z (cU Z (bn Ku sy um Z)) ?_;refine Ops.l Z (fun _ _ fq _=>aQ (cs:=[aX ([]),num ((0:Nat):Int),.slice none 0 0]) (c':=[aX ([]),num ((0:Nat):Int),.slice none 0 0]) a0.wf rfl rfl rfl rfl d6 bv (Nat.le_of_ble_eq_true rfl) rfl rfl fun A266 bc=>?_);have fS:=an aT wf b1 bc.n bc.keep;refine fq _ _<|.q Z (ae Z)<|.nil<|hA _ _<|.ret ?_;repeat first | with_reducible refine bz ?_ | with_reducible refine bi ?_
   exact aJ (df kR d6 Z bc.get Z (dF Z d7)) (⟨_,by rw [iI (jH O O hrun ‹_› ‹¬ aK rs (k ++ [q.getD (q.length - 1) 0]) < 0› (fun z=>by first | (have z1:=z.1;rw [wU ‹(!rk _ _)=true›] at z1;cases z1) | (have z2:=z.2.1;omega) | (have z3:d.length + (rs.getD (aK rs (k ++ [q.getD (q.length - 1) 0])).toNat .zero).proof.length<=100000:=z.2.2.1;have h0:=hmk (pq ‹(!rk _ _)=false›);have h9:=@List.length_append _ d (eU ((k ++ [q.getD (q.length - 1) 0]).take ((k ++ [q.getD (q.length - 1) 0]).length - (rs.getD (aK rs (k ++ [q.getD (q.length - 1) 0])).toNat .zero).left.length)) (rs.getD (aK rs (k ++ [q.getD (q.length - 1) 0])).toNat .zero).proof);omega) | (have z4:m + cz (eU ((k ++ [q.getD (q.length - 1) 0]).take ((k ++ [q.getD (q.length - 1) 0]).length - (rs.getD (aK rs (k ++ [q.getD (q.length - 1) 0])).toNat .zero).left.length)) (rs.getD (aK rs (k ++ [q.getD (q.length - 1) 0])).toNat .zero).proof)<=1000000:=z.2.2.2;omega)))];rfl,fS,bc.wf,by rw [iI (jH O O hrun ‹_› ‹¬ aK rs (k ++ [q.getD (q.length - 1) 0]) < 0› (fun z=>by first | (have z1:=z.1;rw [wU ‹(!rk _ _)=true›] at z1;cases z1) | (have z2:=z.2.1;omega) | (have z3:d.length + (rs.getD (aK rs (k ++ [q.getD (q.length - 1) 0])).toNat .zero).proof.length<=100000:=z.2.2.1;have h0:=hmk (pq ‹(!rk _ _)=false›);have h9:=@List.length_append _ d (eU ((k ++ [q.getD (q.length - 1) 0]).take ((k ++ [q.getD (q.length - 1) 0]).length - (rs.getD (aK rs (k ++ [q.getD (q.length - 1) 0])).toNat .zero).left.length)) (rs.getD (aK rs (k ++ [q.getD (q.length - 1) 0])).toNat .zero).proof);omega) | (have z4:m + cz (eU ((k ++ [q.getD (q.length - 1) 0]).take ((k ++ [q.getD (q.length - 1) 0]).length - (rs.getD (aK rs (k ++ [q.getD (q.length - 1) 0])).toNat .zero).left.length)) (rs.getD (aK rs (k ++ [q.getD (q.length - 1) 0])).toNat .zero).proof)<=1000000:=z.2.2.2;omega)))];exact Fresh.nil _ _ _⟩)
  refine Ops.on Z Z<|.q Z (aj lG c5 U Z)<|.on Z Z<|.q Z (ak eM Z Z a0.get Z)<|.on Z Z<|.q Z (dP (b:=20000) Z Z)<|.q Z (aW Z Z)<|.q Z (ah Z)<|.part (t:=100) Z (fun i1=>?_) (fun i1=>?_)
  ·refine Ops.off Z Z Z Z<|.off Z Z Z Z<|.off Z Z Z Z<|.off Z Z Z Z<|.q Z (aM Z Z)<|.q Z (ah Z)<|.off Z Z Z Z<|.off Z Z Z Z<|.q Z (aM Z Z)<|.nil ?_;refine bT _ _<|.cond_true Z<|.seq fun _ hB=>.region<|.q Z (cU Z (bn Ku sy um Z))<|.l Z (fun _ _ fr _=>aQ (cs:=[aX ([]),num ((0:Nat):Int),.slice none 0 0]) (c':=[aX ([]),num ((0:Nat):Int),.slice none 0 0]) a0.wf rfl rfl rfl rfl d6 bv (Nat.le_of_ble_eq_true rfl) rfl rfl fun A282 bd=>?_);have fT:=an aT wf b1 bd.n bd.keep;refine fr _ _<|.q Z (ae Z)<|.nil<|hB _ _<|.ret ?_;repeat first | with_reducible refine bz ?_ | with_reducible refine bi ?_
   exact aJ (df kR d6 Z bd.get Z (dF Z d7)) (⟨_,by rw [iI (jH O O hrun ‹_› ‹¬ aK rs (k ++ [q.getD (q.length - 1) 0]) < 0› (fun z=>by first | (have z1:=z.1;rw [wU ‹(!rk _ _)=true›] at z1;cases z1) | (have z2:=z.2.1;omega) | (have z3:d.length + (rs.getD (aK rs (k ++ [q.getD (q.length - 1) 0])).toNat .zero).proof.length<=100000:=z.2.2.1;have h0:=hmk (pq ‹(!rk _ _)=false›);have h9:=@List.length_append _ d (eU ((k ++ [q.getD (q.length - 1) 0]).take ((k ++ [q.getD (q.length - 1) 0]).length - (rs.getD (aK rs (k ++ [q.getD (q.length - 1) 0])).toNat .zero).left.length)) (rs.getD (aK rs (k ++ [q.getD (q.length - 1) 0])).toNat .zero).proof);omega) | (have z4:m + cz (eU ((k ++ [q.getD (q.length - 1) 0]).take ((k ++ [q.getD (q.length - 1) 0]).length - (rs.getD (aK rs (k ++ [q.getD (q.length - 1) 0])).toNat .zero).left.length)) (rs.getD (aK rs (k ++ [q.getD (q.length - 1) 0])).toNat .zero).proof)<=1000000:=z.2.2.2;omega)))];rfl,fT,bd.wf,by rw [iI (jH O O hrun ‹_› ‹¬ aK rs (k ++ [q.getD (q.length - 1) 0]) < 0› (fun z=>by first | (have z1:=z.1;rw [wU ‹(!rk _ _)=true›] at z1;cases z1) | (have z2:=z.2.1;omega) | (have z3:d.length + (rs.getD (aK rs (k ++ [q.getD (q.length - 1) 0])).toNat .zero).proof.length<=100000:=z.2.2.1;have h0:=hmk (pq ‹(!rk _ _)=false›);have h9:=@List.length_append _ d (eU ((k ++ [q.getD (q.length - 1) 0]).take ((k ++ [q.getD (q.length - 1) 0]).length - (rs.getD (aK rs (k ++ [q.getD (q.length - 1) 0])).toNat .zero).left.length)) (rs.getD (aK rs (k ++ [q.getD (q.length - 1) 0])).toNat .zero).proof);omega) | (have z4:m + cz (eU ((k ++ [q.getD (q.length - 1) 0]).take ((k ++ [q.getD (q.length - 1) 0]).length - (rs.getD (aK rs (k ++ [q.getD (q.length - 1) 0])).toNat .zero).left.length)) (rs.getD (aK rs (k ++ [q.getD (q.length - 1) 0])).toNat .zero).proof)<=1000000:=z.2.2.2;omega)))];exact Fresh.nil _ _ _⟩)
  refine Ops.on Z Z<|.q Z (aj nI kW U Z)<|.on Z Z<|.q Z (ak ns Z Z a0.get Z)<|.on Z Z<|.q Z (bF (n:=(d ++ eU ((k ++ [q.getD (q.length - 1) 0]).take (((k ++ [q.getD (q.length - 1) 0]).length) - (((rs.getD ((aK rs (k ++ [q.getD (q.length - 1) 0])).toNat) .zero).left).length))) ((rs.getD ((aK rs (k ++ [q.getD (q.length - 1) 0])).toNat) .zero).proof)).length) mz Z d3.slc O (c6 _))<|.on Z Z<|.q Z (dP (b:=100000) Z Z)<|.q Z (aW Z Z)<|.q Z (ah Z) ?_;refine Ops.part (t:=106) Z (fun i2=>?_) (fun i2=>?_)
  ·refine Ops.off Z Z Z Z<|.off Z Z Z Z<|.q Z (aM Z Z)<|.nil<|bT _ _<|.cond_true Z<|.seq fun _ hC=>.region<|.q Z (cU Z (bn Ku sy um Z))<|.l Z (fun _ _ ft _=>aQ (cs:=[aX ([]),num ((0:Nat):Int),.slice none 0 0]) (c':=[aX ([]),num ((0:Nat):Int),.slice none 0 0]) a0.wf rfl rfl rfl rfl d6 bv (Nat.le_of_ble_eq_true rfl) rfl rfl fun A298 bl=>?_);have fV:=an aT wf b1 bl.n bl.keep;refine ft _ _<|.q Z (ae Z)<|.nil<|hC _ _<|.ret ?_;repeat first | with_reducible refine bz ?_ | with_reducible refine bi ?_
   exact aJ (df kR d6 Z bl.get Z (dF Z d7)) (⟨_,by rw [iI (jH O O hrun ‹_› ‹¬ aK rs (k ++ [q.getD (q.length - 1) 0]) < 0› (fun z=>by first | (have z1:=z.1;rw [wU ‹(!rk _ _)=true›] at z1;cases z1) | (have z2:=z.2.1;omega) | (have z3:d.length + (rs.getD (aK rs (k ++ [q.getD (q.length - 1) 0])).toNat .zero).proof.length<=100000:=z.2.2.1;have h0:=hmk (pq ‹(!rk _ _)=false›);have h9:=@List.length_append _ d (eU ((k ++ [q.getD (q.length - 1) 0]).take ((k ++ [q.getD (q.length - 1) 0]).length - (rs.getD (aK rs (k ++ [q.getD (q.length - 1) 0])).toNat .zero).left.length)) (rs.getD (aK rs (k ++ [q.getD (q.length - 1) 0])).toNat .zero).proof);omega) | (have z4:m + cz (eU ((k ++ [q.getD (q.length - 1) 0]).take ((k ++ [q.getD (q.length - 1) 0]).length - (rs.getD (aK rs (k ++ [q.getD (q.length - 1) 0])).toNat .zero).left.length)) (rs.getD (aK rs (k ++ [q.getD (q.length - 1) 0])).toNat .zero).proof)<=1000000:=z.2.2.2;omega)))];rfl,fV,bl.wf,by rw [iI (jH O O hrun ‹_› ‹¬ aK rs (k ++ [q.getD (q.length - 1) 0]) < 0› (fun z=>by first | (have z1:=z.1;rw [wU ‹(!rk _ _)=true›] at z1;cases z1) | (have z2:=z.2.1;omega) | (have z3:d.length + (rs.getD (aK rs (k ++ [q.getD (q.length - 1) 0])).toNat .zero).proof.length<=100000:=z.2.2.1;have h0:=hmk (pq ‹(!rk _ _)=false›);have h9:=@List.length_append _ d (eU ((k ++ [q.getD (q.length - 1) 0]).take ((k ++ [q.getD (q.length - 1) 0]).length - (rs.getD (aK rs (k ++ [q.getD (q.length - 1) 0])).toNat .zero).left.length)) (rs.getD (aK rs (k ++ [q.getD (q.length - 1) 0])).toNat .zero).proof);omega) | (have z4:m + cz (eU ((k ++ [q.getD (q.length - 1) 0]).take ((k ++ [q.getD (q.length - 1) 0]).length - (rs.getD (aK rs (k ++ [q.getD (q.length - 1) 0])).toNat .zero).left.length)) (rs.getD (aK rs (k ++ [q.getD (q.length - 1) 0])).toNat .zero).proof)<=1000000:=z.2.2.2;omega)))];exact Fresh.nil _ _ _⟩)
  refine Ops.on Z Z<|.q Z (ah Z)<|.on Z Z<|.q Z (dP (b:=1000000) Z Z)<|.q Z (aW Z Z)<|.nil<|bT _ _<|.if rfl (fun ih=>?_) (fun ih=>?_)
  ·refine am.seq fun _ hD=>.region<|.q Z (cU Z (bn Ku sy um Z))<|.l Z (fun _ _ fv _=>aQ (cs:=[aX ([]),num ((0:Nat):Int),.slice none 0 0]) (c':=[aX ([]),num ((0:Nat):Int),.slice none 0 0]) a0.wf rfl rfl rfl rfl d6 bv (Nat.le_of_ble_eq_true rfl) rfl rfl fun A314 bm=>?_);have fX:=an aT wf b1 bm.n bm.keep;refine fv _ _<|.q Z (ae Z)<|.nil<|hD _ _<|.ret ?_;repeat first | with_reducible refine bz ?_ | with_reducible refine bi ?_
   exact aJ (df kR d6 Z bm.get Z (dF Z d7)) (⟨_,by rw [iI (jH O O hrun ‹_› ‹¬ aK rs (k ++ [q.getD (q.length - 1) 0]) < 0› (fun z=>by first | (have z1:=z.1;rw [wU ‹(!rk _ _)=true›] at z1;cases z1) | (have z2:=z.2.1;omega) | (have z3:d.length + (rs.getD (aK rs (k ++ [q.getD (q.length - 1) 0])).toNat .zero).proof.length<=100000:=z.2.2.1;have h0:=hmk (pq ‹(!rk _ _)=false›);have h9:=@List.length_append _ d (eU ((k ++ [q.getD (q.length - 1) 0]).take ((k ++ [q.getD (q.length - 1) 0]).length - (rs.getD (aK rs (k ++ [q.getD (q.length - 1) 0])).toNat .zero).left.length)) (rs.getD (aK rs (k ++ [q.getD (q.length - 1) 0])).toNat .zero).proof);omega) | (have z4:m + cz (eU ((k ++ [q.getD (q.length - 1) 0]).take ((k ++ [q.getD (q.length - 1) 0]).length - (rs.getD (aK rs (k ++ [q.getD (q.length - 1) 0])).toNat .zero).left.length)) (rs.getD (aK rs (k ++ [q.getD (q.length - 1) 0])).toNat .zero).proof)<=1000000:=z.2.2.2;omega)))];rfl,fX,bm.wf,by rw [iI (jH O O hrun ‹_› ‹¬ aK rs (k ++ [q.getD (q.length - 1) 0]) < 0› (fun z=>by first | (have z1:=z.1;rw [wU ‹(!rk _ _)=true›] at z1;cases z1) | (have z2:=z.2.1;omega) | (have z3:d.length + (rs.getD (aK rs (k ++ [q.getD (q.length - 1) 0])).toNat .zero).proof.length<=100000:=z.2.2.1;have h0:=hmk (pq ‹(!rk _ _)=false›);have h9:=@List.length_append _ d (eU ((k ++ [q.getD (q.length - 1) 0]).take ((k ++ [q.getD (q.length - 1) 0]).length - (rs.getD (aK rs (k ++ [q.getD (q.length - 1) 0])).toNat .zero).left.length)) (rs.getD (aK rs (k ++ [q.getD (q.length - 1) 0])).toNat .zero).proof);omega) | (have z4:m + cz (eU ((k ++ [q.getD (q.length - 1) 0]).take ((k ++ [q.getD (q.length - 1) 0]).length - (rs.getD (aK rs (k ++ [q.getD (q.length - 1) 0])).toNat .zero).left.length)) (rs.getD (aK rs (k ++ [q.getD (q.length - 1) 0])).toNat .zero).proof)<=1000000:=z.2.2.2;omega)))];exact Fresh.nil _ _ _⟩)
  refine am.skip<|hz _ _<|.region<|.q Z (ah Z)<|.q Z (aj jY fc U Z)<|.q Z (ak fP Z Z hx Z)<|.l Z (fun _ _ fD _=>au Z (wi ((rs.getD ((aK rs (k ++ [q.getD (q.length - 1) 0])).toNat) .zero).right) A240 (by first | omega | (have:=hrf ‹_›;omega))) ?_);rintro lW A328 ⟨ar,aS,dV⟩;have e2:=ar.get _ _ a0.get;have e3:=ar.get _ _ hv;have e4:=ar.get _ _ bv;have dd:=eV.le ar;have di:=eX.le ar;have dj:=d3.le ar;have g0:=aT.trans ar;have eZ:=dV.base aT;refine fD _ _<|.l Z (fun _ _ fE _=>cF rfl rfl cy ji rd z5 rfl U cy (fun _ h=>by cases h) dd.own (eZ.slc.listOf (n:=(((rs.getD ((aK rs (k ++ [q.getD (q.length - 1) 0])).toNat) .zero).right).reverse).length) OP O) OP (xe _) (by show (_ + _) * 1<=_;simp only [aH,List.length_cons,List.length_nil];have h0:=hrf ‹_›;(try simp only [List.length_append,List.length_reverse,List.length_take]);omega) (by simp only [aH,List.length_cons,List.length_nil];have h0:=hrf ‹_›;(try simp only [List.length_append,List.length_reverse,List.length_take]);omega) fun A353 iD a4=>?_);rw [dE] at a4;obtain ⟨f0,g1⟩:=Fresh.grow dd g0 wf a4;have hF:=a4.keep a2 e2;have g6:=a4.ne a2 aS e2;have hG:=a4.keep ac e3;have g7:=a4.ne ac aS e3;have hH:=a4.keep ad e4;have g8:=a4.ne ad aS e4;have gg:=bq.appd (show bq (.slice (some ⟨aB,0,none⟩) (q.length - 1) aC) (.slice (some ⟨ck,0,none⟩) (((k ++ [q.getD (q.length - 1) 0]).length) - (((rs.getD ((aK rs (k ++ [q.getD (q.length - 1) 0])).toNat) .zero).left).length)) cv) from (bq.symm cc)) di.own aS a4;have f1:=di.appd a4 (bq.symm cc);have gl:=bq.appd (show bq (.slice (some ⟨aB,0,none⟩) (q.length - 1) aC) (.slice bB bA bp) from (bq.symm dD)) dj.own aS a4;have f2:=dj.appd a4 (bq.symm dD);refine fE _ _<|.q Z (ae Z)<|.nil ?_;exact ⟨⟨(q.take (q.length - 1)) ++ ((rs.getD ((aK rs (k ++ [q.getD (q.length - 1) 0])).toNat) .zero).right).reverse,(k ++ [q.getD (q.length - 1) 0]).take (((k ++ [q.getD (q.length - 1) 0]).length) - (((rs.getD ((aK rs (k ++ [q.getD (q.length - 1) 0])).toNat) .zero).left).length)),n + 1,d ++ eU ((k ++ [q.getD (q.length - 1) 0]).take (((k ++ [q.getD (q.length - 1) 0]).length) - (((rs.getD ((aK rs (k ++ [q.getD (q.length - 1) 0])).toNat) .zero).left).length))) ((rs.getD ((aK rs (k ++ [q.getD (q.length - 1) 0])).toNat) .zero).proof),m + (cz (eU ((k ++ [q.getD (q.length - 1) 0]).take (((k ++ [q.getD (q.length - 1) 0]).length) - (((rs.getD ((aK rs (k ++ [q.getD (q.length - 1) 0])).toNat) .zero).left).length))) ((rs.getD ((aK rs (k ++ [q.getD (q.length - 1) 0])).toNat) .zero).proof))),f - 1,iD,.slice (some ⟨ck,0,none⟩) (((k ++ [q.getD (q.length - 1) 0]).length) - (((rs.getD ((aK rs (k ++ [q.getD (q.length - 1) 0])).toNat) .zero).left).length)) cv,.slice bB bA bp⟩,zE Z Z Z Z Z Z,Z,⟨⟨Cj O O hrun ‹_› ‹¬ aK rs (k ++ [q.getD (q.length - 1) 0]) < 0› ⟨pq ‹(!rk _ _)=false›,by omega,by show d.length + (rs.getD (aK rs (k ++ [q.getD (q.length - 1) 0])).toNat .zero).proof.length<=100000;have h0:=hmk (pq ‹(!rk _ _)=false›);have h9:=@List.length_append _ d (eU ((k ++ [q.getD (q.length - 1) 0]).take ((k ++ [q.getD (q.length - 1) 0]).length - (rs.getD (aK rs (k ++ [q.getD (q.length - 1) 0])).toNat .zero).left.length)) (rs.getD (aK rs (k ++ [q.getD (q.length - 1) 0])).toNat .zero).proof);omega,by show m + cz (eU ((k ++ [q.getD (q.length - 1) 0]).take ((k ++ [q.getD (q.length - 1) 0]).length - (rs.getD (aK rs (k ++ [q.getD (q.length - 1) 0])).toNat .zero).left.length)) (rs.getD (aK rs (k ++ [q.getD (q.length - 1) 0])).toNat .zero).proof)<=1000000;omega⟩,Bh hlen hkl (hrf ‹¬ aK rs (k ++ [q.getD (q.length - 1) 0]) < 0›).2.2.1 (hrf ‹¬ aK rs (k ++ [q.getD (q.length - 1) 0]) < 0›).2.1 ‹0 < q.length›,MG hs hok ‹¬ aK rs (k ++ [q.getD (q.length - 1) 0]) < 0›,by omega,by omega,by omega,Gi hf O (by have h1:=hrf ‹¬ aK rs (k ++ [q.getD (q.length - 1) 0]) < 0›;omega) ‹0 < q.length›⟩,g1,f0,f1,f2,hF,hG,hH,g6,bb,bY,g7,dl,g4,g8,dm,g5,gg,gl,(bq.symm gf)⟩,O1⟩
 refine am.exit<|k0 _ _<|.seq fun _ hI=>.region<|.q Z (ah Z)<|.l Z (fun _ _ fI _=>dT (s:=k) Z cy u9 u5 ag.slc ?_);refine fI _ _<|.q Z (aj jW fc U Z)<|.l Z (fun _ _ fL _=>aQ (cs:=[aX (k)]) (c':=[aX (k),num ((n:Nat):Int),dv]) ec rfl rfl rfl rfl fc aY (Nat.le_of_ble_eq_true rfl) rfl rfl fun A382 aV=>?_);have hJ:=aV.keep _ _ aP b5;have dk:=b3.keep aV.keep a3;have g2:=an cP wf bu aV.n aV.keep;refine fL _ _<|.nil<|hI _ _<|.seq fun _ hK=>.region<|.q Z (aq kR d6 Z Z aV.get Z) ?_;obtain ⟨ea,e5,dJ,iv,_⟩:=dk.own.slice;subst iv;refine Ops.l Z (fun _ _ fM _=>aQ (cs:=[aX (k),num ((n:Nat):Int),.slice ea e5 dJ]) (c':=[aX (k),num ((n:Nat):Int),.slice ea e5 dJ]) aV.wf rfl rfl rfl rfl d6 hJ (Nat.le_of_ble_eq_true rfl) rfl rfl fun A394 b2=>?_);have f3:=dk.keep b2.keep a7;have g3:=an g2 wf b1 b2.n b2.keep;refine fM _ _<|.q Z (ae Z)<|.nil<|hK _ _<|.ret ?_;repeat first | with_reducible refine bz ?_ | with_reducible refine bi ?_
 exact aJ (df kR d6 Z b2.get Z (dF Z d7)) (⟨_,by rw [na (se O O hrun)];rfl,g3,b2.wf,by rw [na (se O O hrun)];exact f3⟩)

theorem JJ (g:Int) (u:Value) (l:List (List UInt8)) (rv:Value) (rs:List bf) (w:List UInt8) (A:AH) (hs:cj g l rs=true) (hwn:w.length<=9223372036854775807) (hu:bK A 1 u (d5 l)) (hr:bK A 3 rv (c9 rs)) (hp:Proofs A rs):bH Tryz.prog 58 #[.agg #[num (g),u,rv],aX (w)] A (fun v A1=>∃ dv,v=.tuple #[.agg #[aX (n0 g rs w).word,num (((n0 g rs w).steps:Nat):Int),dv],num ((j6 g rs w:Nat):Int)]/\A.le A1/\A1.wf/\Fresh A A1 dv 3 (cb (n0 g rs w).disk)):=by
 refine jP Tryz.call58 Tryz.func58 Z Tryz.results58 Tryz.ntmps58 Z (fun wf=>?_);have bA:=AH.le.refl A;refine am.seq fun _ h2=>.region<|.l Z (fun _ _ bu _=>dQ wf rfl rfl fun A5 b4 av=>?_);have aB:=bA.trans av.le;refine bu _ _<|.l Z (fun _ _ bv _=>cg av.wf sy rfl fun A10 b9 h=>?_);have a0:=aU wf (Nat.le_trans aB.n h.lo);have ay:=h.le.get _ _ av.get;have V:=aB.trans h.le;refine bv _ _<|.q Z (ae Z)<|.nil<|h2 _ _<|.seq fun _ b5=>.seq fun _ b6=>.region<|.q Z (ah Z)<|.q Z (aj fY gz U Z)<|.q Z (aj fW c5 U Z) ?_;refine Ops.q Z (ak eM Z Z ay Z)<|.l Z (fun _ _ aD _=>au Z (lQ w ((g)) A10 hwn (cR (fB hs).1).1) ?_);rintro bP A20 ⟨rfl,rfl⟩;refine aD _ _<|.q Z (kY Z)<|.nil<|b6 _ _<|.if rfl (fun bB=>?_) (fun bB=>?_)
 ·refine am.seq fun _ b7=>.region<|.q Z (cU Z (bn Ku sy um Z))<|.l Z (fun _ _ aF _=>aQ (cs:=[aX ([]),num ((0:Nat):Int),.slice none 0 0]) (c':=[aX ([]),num ((0:Nat):Int),.slice none 0 0]) h.wf rfl rfl rfl rfl d6 h.get (Nat.le_of_ble_eq_true rfl) rfl rfl fun A26 a3=>?_);have aV:=an V wf a0 a3.n a3.keep;refine aF _ _<|.q Z (ae Z)<|.nil<|b7 _ _<|.ret ?_;repeat first | with_reducible refine bz ?_ | with_reducible refine bi ?_
  exact aJ (df kR d6 Z a3.get Z (dF Z d7)) (⟨_,by first | (rw [(jg ‹_›).1,(jg ‹_›).2];rfl) | (rw [(jG ‹_› ‹_›).1,(jG ‹_› ‹_›).2];rfl) | (rw [(jc ‹_› ‹_› ‹_›).1,(jc ‹_› ‹_› ‹_›).2];rfl) | (rw [(jd ‹_› ‹_› ‹_›).1,(jd ‹_› ‹_› ‹_›).2];rfl),aV,a3.wf,by first | (rw [(jg ‹_›).1];exact Fresh.nil _ _ _) | (rw [(jG ‹_› ‹_›).1];exact Fresh.nil _ _ _) | (rw [(jc ‹_› ‹_› ‹_›).1];exact Fresh.nil _ _ _) | (rw [(jd ‹_› ‹_› ‹_›).1];exact Fresh.nil _ _ _)⟩)
 refine am.skip<|b5 _ _<|.seq fun _ b8=>.seq fun _ ba=>.region<|.q Z (ah Z)<|.q Z (cB u9 Z)<|.q Z (dP (b:=20000) Z Z)<|.nil<|ba _ _ ?_;refine am.if rfl (fun bC=>?_) (fun bC=>?_)
 ·refine am.seq fun _ bb=>.region<|.q Z (cU Z (bn Ku sy um Z))<|.l Z (fun _ _ aG _=>aQ (cs:=[aX ([]),num ((0:Nat):Int),.slice none 0 0]) (c':=[aX ([]),num ((0:Nat):Int),.slice none 0 0]) h.wf rfl rfl rfl rfl d6 h.get (Nat.le_of_ble_eq_true rfl) rfl rfl fun A38 a4=>?_);have aY:=an V wf a0 a4.n a4.keep;refine aG _ _<|.q Z (ae Z)<|.nil<|bb _ _<|.ret ?_;repeat first | with_reducible refine bz ?_ | with_reducible refine bi ?_
  exact aJ (df kR d6 Z a4.get Z (dF Z d7)) (⟨_,by first | (rw [(jg ‹_›).1,(jg ‹_›).2];rfl) | (rw [(jG ‹_› ‹_›).1,(jG ‹_› ‹_›).2];rfl) | (rw [(jc ‹_› ‹_› ‹_›).1,(jc ‹_› ‹_› ‹_›).2];rfl) | (rw [(jd ‹_› ‹_› ‹_›).1,(jd ‹_› ‹_› ‹_›).2];rfl),aY,a4.wf,by first | (rw [(jg ‹_›).1];exact Fresh.nil _ _ _) | (rw [(jG ‹_› ‹_›).1];exact Fresh.nil _ _ _) | (rw [(jc ‹_› ‹_› ‹_›).1];exact Fresh.nil _ _ _) | (rw [(jd ‹_› ‹_› ‹_›).1];exact Fresh.nil _ _ _)⟩)
 refine am.skip<|b8 _ _<|.seq fun _ bc=>.region<|.q Z (aq eR ew Z Z ay Z)<|.q Z (ah Z)<|.l Z (fun _ _ aI _=>au Z (Tc ((g)) u l rv rs w A10 hs (Decidable.not_not.1 ‹_›) O (hu.le V) (hr.le V) (hp.le V)) ?_);rintro bR A46 ⟨bM,rfl,ab,a6,a9⟩;have az:=ab.get _ _ h.get;have ap:=V.trans ab;have ad:=a9.base V;have b2:=a9.ne h.wf h.get;refine aI _ _<|.q Z (ah Z)<|.q Z (bh Z Z)<|.q Z (bh Z Z)<|.l Z (fun _ _ aP _=>cg a6 sy rfl fun A56 bO D=>?_);have a7:=ne_new a6 az D.lo;have b3:=ad.own.ne_new a6 D.lo;have ai:=aU wf (Nat.le_trans ap.n D.lo);have bd:=D.le.get _ _ az;have ag:=ad.le D.le;have aZ:=ap.trans D.le;refine aP _ _ ?_;obtain ⟨ac,aa,a8,bL,_⟩:=ag.own.slice;subst bL;refine Ops.l Z (fun _ _ aR _=>aQ (cs:=[aX ((eh (ga rs w)).word),num (((eh (ga rs w)).steps:Nat):Int),.slice ac aa a8]) (c':=[aX ((eh (ga rs w)).word),num (((eh (ga rs w)).steps:Nat):Int),.slice ac aa a8]) D.wf rfl rfl rfl rfl d6 D.get (Nat.le_of_ble_eq_true rfl) rfl rfl fun A65 X=>?_);have aA:=X.keep _ _ a7 bd;have aC:=ag.keep X.keep b3;have ar:=an aZ wf ai X.n X.keep;refine aR _ _<|.q Z (ae Z)<|.nil<|bc _ _<|.seq fun _ bl=>.seq fun _ bm=>.region<|.q Z (ah Z)<|.q Z (eu Z)<|.nil ?_;refine bm _ _<|.ifB Z (fun bD=>?_) (fun bD=>?_)
 ·refine am.seq fun _ bp=>.region<|.q Z (cU Z (bn Ku sy um Z))<|.l Z (fun _ _ aS _=>aQ (cs:=[aX ([]),num ((0:Nat):Int),.slice none 0 0]) (c':=[aX ([]),num ((0:Nat):Int),.slice none 0 0]) X.wf rfl rfl rfl rfl d6 aA (Nat.le_of_ble_eq_true rfl) rfl rfl fun A79 a5=>?_);have b0:=an ar wf a0 a5.n a5.keep;refine aS _ _<|.q Z (ae Z)<|.nil<|bp _ _<|.ret ?_;repeat first | with_reducible refine bz ?_ | with_reducible refine bi ?_
  exact aJ (df kR d6 Z a5.get Z (dF Z d7)) (⟨_,by first | (rw [(jg ‹_›).1,(jg ‹_›).2];rfl) | (rw [(jG ‹_› ‹_›).1,(jG ‹_› ‹_›).2];rfl) | (rw [(jc ‹_› ‹_› ‹_›).1,(jc ‹_› ‹_› ‹_›).2];rfl) | (rw [(jd ‹_› ‹_› ‹_›).1,(jd ‹_› ‹_› ‹_›).2];rfl),b0,a5.wf,by first | (rw [(jg ‹_›).1];exact Fresh.nil _ _ _) | (rw [(jG ‹_› ‹_›).1];exact Fresh.nil _ _ _) | (rw [(jc ‹_› ‹_› ‹_›).1];exact Fresh.nil _ _ _) | (rw [(jd ‹_› ‹_› ‹_›).1];exact Fresh.nil _ _ _)⟩)
 refine am.skip<|bl _ _<|.seq fun _ br=>.region<|.q Z (aq kR d6 Z Z X.get Z)<|.l Z (fun _ _ aT _=>aQ (cs:=[aX ((eh (ga rs w)).word),num (((eh (ga rs w)).steps:Nat):Int),.slice ac aa a8]) (c':=[aX ((eh (ga rs w)).word),num (((eh (ga rs w)).steps:Nat):Int),.slice ac aa a8]) X.wf rfl rfl rfl rfl d6 aA (Nat.le_of_ble_eq_true rfl) rfl rfl fun A88 a1=>?_);have a2:=aC.keep a1.keep b2;have b1:=an ar wf a0 a1.n a1.keep;refine aT _ _<|.q Z (ae Z)<|.nil<|br _ _<|.ret ?_;repeat first | with_reducible refine bz ?_ | with_reducible refine bi ?_
 exact aJ (df kR d6 Z a1.get Z (dF Z d7)) (⟨_,by first | (rw [(jg ‹_›).1,(jg ‹_›).2];rfl) | (rw [(jG ‹_› ‹_›).1,(jG ‹_› ‹_›).2];rfl) | (rw [(jc ‹_› ‹_› ‹_›).1,(jc ‹_› ‹_› ‹_›).2];rfl) | (rw [(jd ‹_› ‹_› ‹_›).1,(jd ‹_› ‹_› ‹_›).2];rfl),b1,a1.wf,by first | (rw [(jg ‹_›).1];exact a2) | (rw [(jG ‹_› ‹_›).1];exact a2) | (rw [(jc ‹_› ‹_› ‹_›).1];exact a2) | (rw [(jd ‹_› ‹_› ‹_›).1];exact a2)⟩)

theorem Ek (g:Int) (u:Value) (l:List (List UInt8)) (rv:Value) (rs:List bf) (w:List UInt8) (A:AH) (hwn:w.length<=9223372036854775807) (hz:Va l rs) (hu:bK A 1 u (d5 l)) (hr:bK A 3 rv (c9 rs)) (hp:Proofs A rs):bH Tryz.prog 20 #[.agg #[num (g),u,rv],aX (w)] A (fun v A1=>∃ dv,v=.tuple #[.agg #[aX (ei g l rs w).word,num (((ei g l rs w).steps:Nat):Int),dv],num ((gV g l rs w:Nat):Int)]/\A.le A1/\A1.wf/\Fresh A A1 dv 3 (cb (ei g l rs w).disk)):=by
 refine jP Tryz.call20 Tryz.func20 Z Tryz.results20 Tryz.ntmps20 Z (fun wf=>?_);have aV:=AH.le.refl A;refine am.seq fun _ h2=>.region<|.l Z (fun _ _ aS _=>dQ wf rfl rfl fun A5 b4 a9=>?_);have ag:=aV.trans a9.le;refine aS _ _<|.l Z (fun _ _ aT _=>cg a9.wf sy rfl fun A10 b9 a0=>?_);have a3:=aU wf (Nat.le_trans ag.n a0.lo);have ac:=a0.le.get _ _ a9.get;have V:=ag.trans a0.le;refine aT _ _<|.q Z (ae Z)<|.nil<|h2 _ _<|.seq fun _ aD=>.seq fun _ aF=>.region<|.q Z (aq eR ew Z Z ac Z)<|.l Z (fun _ _ ap _=>au Z (NR ((g)) u l rv rs A10 hz (hu.le V) (hr.le V) (hp.le V)) ?_);rintro b1 A20 ⟨rfl,X,a5⟩;have aG:=X.get _ _ ac;have a8:=X.get _ _ a0.get;have h:=V.trans X;refine ap _ _<|.q Z (fh (b:=0) Z Z)<|.nil<|aF _ _<|.if rfl (fun aY=>?_) (fun aY=>?_)
 ·refine am.seq fun _ aI=>.region<|.q Z (cU Z (bn Ku sy um Z))<|.l Z (fun _ _ ar _=>aQ (cs:=[aX ([]),num ((0:Nat):Int),.slice none 0 0]) (c':=[aX ([]),num ((0:Nat):Int),.slice none 0 0]) a5 rfl rfl rfl rfl d6 a8 (Nat.le_of_ble_eq_true rfl) rfl rfl fun A29 a1=>?_);have az:=an h wf a3 a1.n a1.keep;refine ar _ _<|.q Z (ae Z)<|.nil<|aI _ _<|.ret ?_;repeat first | with_reducible refine bz ?_ | with_reducible refine bi ?_
  exact aJ (df kR d6 Z a1.get Z (dF Z d7)) (⟨_,by first | (rw [(od (ru ‹_›)).1,(od (ru ‹_›)).2];rfl) | (rw [(iW (qO (Decidable.not_not.1 ‹_›))).1,(iW (qO (Decidable.not_not.1 ‹_›))).2];rfl),az,a1.wf,by first | (rw [(od (ru ‹_›)).1];exact Fresh.nil _ _ _) | (rw [(iW (qO (Decidable.not_not.1 ‹_›))).1];exact Fresh.nil _ _ _)⟩)
 refine am.skip<|aD _ _<|.seq fun _ aP=>.region<|.q Z (aq eR ew Z Z aG Z)<|.q Z (ah Z)<|.l Z (fun _ _ av _=>au Z (JJ ((g)) u l rv rs w A20 (qO (Decidable.not_not.1 ‹_›)) hwn (hu.le h) (hr.le h) (hp.le h)) ?_);rintro b2 A37 ⟨b0,rfl,a4,aa,a2⟩;have aR:=a4.get _ _ a8;have aA:=h.trans a4;have a6:=a2.base h;have aC:=a2.ne a5 a8;refine av _ _<|.q Z (bh Z Z)<|.q Z (bh Z Z) ?_;obtain ⟨ai,ad,ab,aZ,_⟩:=a6.own.slice;subst aZ;refine Ops.l Z (fun _ _ ay _=>aQ (cs:=[aX ((n0 ((g)) rs w).word),num (((n0 ((g)) rs w).steps:Nat):Int),.slice ai ad ab]) (c':=[aX ((n0 ((g)) rs w).word),num (((n0 ((g)) rs w).steps:Nat):Int),.slice ai ad ab]) aa rfl rfl rfl rfl d6 aR (Nat.le_of_ble_eq_true rfl) rfl rfl fun A47 D=>?_);have a7:=a6.keep D.keep aC;have aB:=an aA wf a3 D.n D.keep;refine ay _ _<|.q Z (ae Z)<|.nil<|aP _ _<|.ret ?_;repeat first | with_reducible refine bz ?_ | with_reducible refine bi ?_
 exact aJ (df kR d6 Z D.get Z (dF Z d7)) (⟨_,by first | (rw [(od (ru ‹_›)).1,(od (ru ‹_›)).2];rfl) | (rw [(iW (qO (Decidable.not_not.1 ‹_›))).1,(iW (qO (Decidable.not_not.1 ‹_›))).2];rfl),aB,D.wf,by first | (rw [(od (ru ‹_›)).1];exact a7) | (rw [(iW (qO (Decidable.not_not.1 ‹_›))).1];exact a7)⟩)
end Go.Proofs.YtjppkekmddjcfaaGreatDoor

namespace Go.Proofs.YtjppkekmddjcfaaGreatDoor
open Go Go.RowKit
namespace V

end V
end Go.Proofs.YtjppkekmddjcfaaGreatDoor

namespace Go.Proofs.YtjppkekmddjcfaaGreatDoor
open Go Go.RowKit
namespace V
section
variable {A B C:AH} {b:Nat} {v v':Value} {size:Nat} {xs ys:List Value}
def TX (A0 A:AH) (Ds:List Nat):Prop:=Ds.Nodup/\∀ D ∈ Ds,A.get D=some (.obj true (.deferred (some [])))/\A0.get D=none
end
end V
end Go.Proofs.YtjppkekmddjcfaaGreatDoor

namespace Go.Proofs.YtjppkekmddjcfaaGreatDoor
open Go Go.RowKit
namespace V
def va (ops:Array Oper):Array Bool->List Nat->Nat->Nat->List Nat->List Nat->Bool
  | listed,[],i,j,C,D=>(Region.ready .any ops listed == [i,j]) && mf ops (listed.setIfInBounds i true) C && mf ops (listed.setIfInBounds j true) D && (C.length == D.length)
  | listed,q :: Cq,i,j,C,D=>match ops[q]? with
    | none=>false
    | some o=>de o.op && (Region.ready .any ops listed).contains q && Region.free .any ops listed q && va ops (listed.setIfInBounds q true) Cq i j C D
section
variable {P:Program} {nt:Nat} {ops:Array Oper} {Q:Exit->Fr->AH->Prop} {f:Fr} {A:AH}
def ol (P:Program) (nt:Nat) (ops:Array Oper) (Q:Exit->Fr->AH->Prop) (listed:Array Bool) (held:List (Nat × eK)) (Cq:List Nat) (i j:Nat) (C D:List Nat) (f:Fr) (A:AH):Prop :=
  va ops listed Cq i j C D=true->Region.noSelect ops=true->∀ a w,cW nt f a->cu A w->dN ops held listed w->kQ ops listed ->
    ∀ (A₀:AH) (w₀:World),eJ A₀ w₀ A w->eP P ops (dU nt Q A₀ w₀) (dN ops held) (Cq.length + (C.length + 1)) listed a w
theorem ol.quiet {listed:Array Bool} {held:List (Nat × eK)} {q i j:Nat} {Cq C D:List Nat} {o:Oper} {v:Value} {T:eK} (ho:ops[q]? = some o) (hq:de o.op=true) (hd:∀ t,o.dst=some t->t < nt)
    (hv:∀ a w,cW nt f a->cu A w->fg T w/\YieldsIf P ops (fg T) o v a)
    (h:ol P nt ops Q (listed.setIfInBounds q true) ((q,T) :: held) Cq i j C D ⟨fx f.e o.dst v,f.ds⟩ A):ol P nt ops Q listed held (q :: Cq) i j C D f A:=by
  intro hc hn a w ha hw hh hcl A₀ w₀ hs
  simp only [va,ho,Bool.and_eq_true] at hc
  obtain ⟨⟨⟨_,c1⟩,c2⟩,c3⟩:=hc
  obtain ⟨t1,t2⟩:=hv a w ha hw
  have hr:q ∈ Region.ready .any ops listed:=by simpa using c1
  have hheld:dN ops ((q,T) :: held) listed w:=fun p hp hj=>by
    rcases List.mem_cons.1 hp with rfl | hp
    · exact t1
    · exact hh p hp hj
  have H:=h c3 hn _ w (ha.put o.dst v hd) hw ((jl ho hq _ _).2 hheld) (gR hcl hr) A₀ w₀ hs
  have free:=Region.free_spec ho c2
  have H':eP P ops (dU nt Q A₀ w₀) (dN ops ((q,T) :: held)) (Cq.length + (C.length + 1) + 1) listed a w :=
    og (T:=fg T) ho (Region.noSelect_spec hn) (fun c a w g=>tk _ _ c a w g)
      (fun l w' hcl' hun hS=>hS (q,T) (List.mem_cons_self ..) fun j hl ⟨oj,hoj,_⟩=>by
        cases e:ld ops q ops.size j with
        | false=>rfl
        | true =>
          have:=jS hcl' ops.size j oj hoj (hcl' j oj hoj hl) e
          rw [iq hun] at this;cases this)
      (fun l w'=>jl ho hq l w') _ listed a w hcl (fun j oj hoj hne hun hno=>free j oj hoj hne hun hno) hr t2 hheld H
  have weaken:∀ (fuel:Nat) (l:Array Bool) (a:Act) (w:World),eP P ops (dU nt Q A₀ w₀) (dN ops ((q,T) :: held)) fuel l a w->eP P ops (dU nt Q A₀ w₀) (dN ops held) fuel l a w:=by
    intro fuel
    induction fuel with
    | zero=>intro l a w h;exact h
    | succ fuel ih=>intro l a w h;exact ⟨h.1,fun j hj=>wpOp_mono (fun a' w' h'=>⟨fun p hp=>h'.1 p (List.mem_cons_of_mem _ hp),ih _ _ _ h'.2⟩) (h.2 j hj)⟩
  rw [List.length_cons,Nat.add_right_comm]
  exact weaken _ _ _ _ H'
theorem xE {listed:Array Bool} {held:List (Nat × eK)} {i:Nat} {C:List Nat} {o:Oper} {a:Act} {w:World} {A₀:AH} {w₀:World} (ho:ops[i]? = some o) (hq:de o.op=false) (hd:∀ t,o.dst=some t->t < nt) (hwn:∀ a:Act,cW nt f a->Region.wanted o (yielded ops a.tmps)=true)
    (c2:mf ops (listed.setIfInBounds i true) C=true) (hn:Region.noSelect ops=true) (ha:cW nt f a) (hw:cu A w) (hcl:kQ ops listed) (hs:eJ A₀ w₀ A w) (hr:i ∈ Region.ready .any ops listed)
    (h:∀ (K:Value->AH->Prop) (Kp:List PanicEntry->AH->Prop),
      (∀ v A',(∀ w',cu A' w'->∀ p ∈ held,ld ops p.1 ops.size i=false->fg p.2 w')->bj P nt ops Q (listed.setIfInBounds i true) (held.filter fun p=>!ld ops p.1 ops.size i) C ⟨fx f.e o.dst v,f.ds⟩ A'->K v A') ->
      (∀ ch A',Q (.panic ch) ⟨[],f.ds⟩ A'->Kp ch A')->kO P f.e A o K Kp) :
    wpOp P ops (dU nt Q A₀ w₀) i (fun a' w'=>dN ops held (listed.setIfInBounds i true) w'/\eP P ops (dU nt Q A₀ w₀) (dN ops held) C.length (listed.setIfInBounds i true) a' w') a w:=by
  have hlt:i < listed.size:=by
    have:=(mem_ready.1 hr).1
    rcases Nat.lt_or_ge i listed.size with h' | h'
    · exact h'
    · simp [Array.getElem?_eq_none h'] at this
  have hl:(listed.setIfInBounds i true).getD i false=true:=by simp [hlt]
  unfold wpOp
  simp only [ho,hwn a ha,if_true]
  left
  have:=qk (o:=o) (K:=fun v A'=>(∀ w',cu A' w'->∀ p ∈ held,ld ops p.1 ops.size i=false->fg p.2 w')/\bj P nt ops Q (listed.setIfInBounds i true) (held.filter fun p=>!ld ops p.1 ops.size i) C ⟨fx f.e o.dst v,f.ds⟩ A')
    (Kp:=fun ch A'=>Q (.panic ch) ⟨[],f.ds⟩ A') ha hw (h _ _ (fun v A' g1 g2=>⟨g1,g2⟩) (fun ch A' g=>g))
  unfold Oper.wp at this ⊢
  have up:∀ r,o.upon P a (jN A a w o fun v A'=>(∀ w',cu A' w'->∀ p ∈ held,ld ops p.1 ops.size i=false->fg p.2 w')/\bj P nt ops Q (listed.setIfInBounds i true) (held.filter fun p=>!ld ops p.1 ops.size i) C ⟨fx f.e o.dst v,f.ds⟩ A') (ig A a w fun ch A'=>Q (.panic ch) ⟨[],f.ds⟩ A') r ->
      o.upon P a (fun a' w'=>dN ops held (listed.setIfInBounds i true) w'/\eP P ops (dU nt Q A₀ w₀) (dN ops held) C.length (listed.setIfInBounds i true) a' w') (dU nt Q A₀ w₀) r:=by
    have next:∀ a' w',(jN A a w o fun v A'=>(∀ w',cu A' w'->∀ p ∈ held,ld ops p.1 ops.size i=false->fg p.2 w')/\bj P nt ops Q (listed.setIfInBounds i true) (held.filter fun p=>!ld ops p.1 ops.size i) C ⟨fx f.e o.dst v,f.ds⟩ A') a' w' ->
        dN ops held (listed.setIfInBounds i true) w'/\eP P ops (dU nt Q A₀ w₀) (dN ops held) C.length (listed.setIfInBounds i true) a' w':=by
      rintro a' w' ⟨v,A',rfl,hv',hs',g1,g2⟩
      have hlo:V.loud ops i:=⟨o,ho,hq⟩
      have hh':dN ops held (listed.setIfInBounds i true) w':=fun p hp hj=>g1 w' hv' p hp (hj i hl hlo)
      refine ⟨hh',?_⟩
      have H:=g2 c2 hn _ w' (ha.put o.dst v hd) hv' (fun p hp hj=>hh' p (List.mem_filter.1 hp).1 hj) (gR hcl hr) A₀ w₀ (hs.trans hs')
      refine kN (x:=i) (fun l w hx hS p hp hj=>hS p (List.mem_filter.2 ⟨hp,?_⟩) hj) _ _ _ _ hl H
      simp [hj i hx hlo]
    have pan:∀ x a' w',ig A a w (fun ch A'=>Q (.panic ch) ⟨[],f.ds⟩ A') x a' w'->dU nt Q A₀ w₀ x a' w':=by
      rintro x a' w' ⟨ch,A',rfl,rfl,hv',hs',g⟩
      exact ⟨⟨[],f.ds⟩,A',⟨ha.size,(fun _ _ q=>by cases q),ha.ds⟩,hv',hs.trans hs',g,fun _ _=>rfl⟩
    intro r hr'
    cases r with
    | ok n w' =>
      cases n <;> simp only [Oper.upon] at hr' ⊢ <;> (try exact hr'.elim)
      case value v=>exact next _ _ hr'
      case skip=>exact next _ _ hr'
      case defer d=>exact next _ _ hr'
      case enter f' args =>
        refine hr'.mono fun e w'' he=>?_
        cases e with
        | returned v=>exact next _ _ he
        | panicked ch=>exact pan _ _ _ he
        | outgrown=>obtain ⟨a₁,w₁,ch,A',q,_⟩:=he;cases q
      case row row args=>exact hr'.mono fun v w'' he=>next _ _ he
    | halt x w' =>
      cases x <;> simp only [Oper.upon] at hr' ⊢ <;> (try exact hr'.elim)
      case panic v=>exact pan _ _ _ hr'
  exact up _ this
variable {e:gx} {ds:List Deferred}
theorem ol.q {listed:Array Bool} {held:List (Nat × eK)} {i j k d:Nat} {Cq C D:List Nat} {op:Op} {ty:TypeId} {ps:String} {af:Array Edge} {v:Value} {T:eK} (ho:ops[k]? = some { dst:=some d,op:=op,type:=ty,pos:=ps,after:=af,guard:=none }) (hq:de op=true) (hd:Nat.blt d nt=true) (hv:aO P e A op=some (v,T))
    (h:ol P nt ops Q (listed.setIfInBounds k true) ((k,T) :: held) Cq i j C D ⟨(d,v) :: e,ds⟩ A):ol P nt ops Q listed held (k :: Cq) i j C D ⟨e,ds⟩ A :=
  ol.quiet (f:=⟨e,ds⟩) (T:=T) (v:=v) ho hq (cN (d:=some d) hd) (fun a w ha hw=>by
    have key:=f8 (P:=P) (f:=(⟨e,ds⟩:Fr)) (o:={ dst:=some d,op:=op,type:=ty,pos:=ps,after:=af,guard:=none }) hv ha hw
    exact ⟨key.1,.inl ⟨by simp [Region.wanted],key.2⟩⟩) h
theorem ol.both {listed:Array Bool} {held:List (Nat × eK)} {i j:Nat} {C D:List Nat} {di dj:Option Nat} {opi opj:Op} {ti tj:TypeId} {pi pj:String} {afi afj:Array Edge}
    (hoi:ops[i]? = some { dst:=di,op:=opi,type:=ti,pos:=pi,after:=afi,guard:=none }) (hoj:ops[j]? = some { dst:=dj,op:=opj,type:=tj,pos:=pj,after:=afj,guard:=none }) (hqi:de opi=false) (hqj:de opj=false) (hdi:gj nt di=true) (hdj:gj nt dj=true)
    (hi:∀ (K:Value->AH->Prop) (Kp:List PanicEntry->AH->Prop),(∀ v A',be ops held i A'->bj P nt ops Q (listed.setIfInBounds i true) (held.filter fun p=>!ld ops p.1 ops.size i) C ⟨fx e di v,ds⟩ A'->K v A') ->
      (∀ ch A',Q (.panic ch) ⟨[],ds⟩ A'->Kp ch A')->kO P e A { dst:=di,op:=opi,type:=ti,pos:=pi,after:=afi,guard:=none } K Kp)
    (hj:∀ (K:Value->AH->Prop) (Kp:List PanicEntry->AH->Prop),(∀ v A',be ops held j A'->bj P nt ops Q (listed.setIfInBounds j true) (held.filter fun p=>!ld ops p.1 ops.size j) D ⟨fx e dj v,ds⟩ A'->K v A') ->
      (∀ ch A',Q (.panic ch) ⟨[],ds⟩ A'->Kp ch A')->kO P e A { dst:=dj,op:=opj,type:=tj,pos:=pj,after:=afj,guard:=none } K Kp):ol P nt ops Q listed held [] i j C D ⟨e,ds⟩ A:=by
  intro hc hn a w ha hw hh hcl A₀ w₀ hs
  simp only [va,Bool.and_eq_true,beq_iff_eq] at hc
  obtain ⟨⟨⟨c1,c2⟩,c3⟩,c4⟩:=hc
  rw [List.length_nil,Nat.zero_add]
  refine ⟨fun h0=>(by rw [c1] at h0;cases h0),fun k hk=>?_⟩
  have hk':=hk
  rw [c1] at hk'
  simp only [List.mem_cons,List.not_mem_nil,or_false] at hk'
  rcases hk' with rfl | rfl
  · exact xE (C:=C) hoi hqi (cN hdi) (fun a _=>by simp [Region.wanted]) c2 hn ha hw hcl hs hk hi
  · rw [c4];exact xE (C:=D) hoj hqj (cN hdj) (fun a _=>by simp [Region.wanted]) c3 hn ha hw hcl hs hk hj
theorem am.drawnP {id:Nat} (Cq:List Nat) (i j:Nat) (C D:List Nat) (hm:P.follows .mixedOrders=true) (hc:va ops (Array.replicate ops.size false) Cq i j C D=true) (hn:Region.noSelect ops=true) (hl:Cq.length + (C.length + 1)=ops.size)
    (h:ol P nt ops Q (Array.replicate ops.size false) [] Cq i j C D f A):am P nt (.region id ops true) Q f A:=by
  intro a w ha hw
  obtain ⟨v1,s1⟩:=jj hw
  refine wp_mono (wp_region_any hm (kb (Q:=dU nt Q A w) (S:=dN ops []) _ _ _ _ ?_)) (fun _ _ _=>dU.q)
  have key:=h hc hn a _ ha v1 (fun p hp=>by cases hp) (fun j o _ hj=>by
    exfalso
    rcases Nat.lt_or_ge j ops.size with q | q
    · simp [q] at hj
    · simp [q] at hj) A w s1
  rw [hl] at key
  exact key
end
end V
end Go.Proofs.YtjppkekmddjcfaaGreatDoor

namespace Go.Proofs.YtjppkekmddjcfaaGreatDoor
open Go Go.RowKit
namespace V
section
variable {P:Program} {nt:Nat} {A:AH}

def kf (P:Program) (g:FuncId) (args:Array Value) (u:FrameMode) (A:AH) (Q:Ending->FrameMode->AH->Prop):Prop :=
  ∀ w,cu A w->CallsD P g args u w fun e u' w'=>∃ A',cu A' w'/\eJ A w A' w'/\Q e u' A'

theorem kf.mono {g:FuncId} {args:Array Value} {u:FrameMode} {Q Q':Ending->FrameMode->AH->Prop} (h:kf P g args u A Q)
    (k:∀ e u' A',Q e u' A'->Q' e u' A'):kf P g args u A Q' :=
  fun w hw=>(h w hw).mono fun _ _ _ ⟨A',v,s,q⟩=>⟨A',v,s,k _ _ _ q⟩

def md (P:Program) (rs:List ResultVar) (e:gx) (Q:Ending->AH->Prop):List Deferred->FrameMode->AH->Prop
  | [],.returning,A=>∃ vs,gv P e A rs=some vs/\Q (.returned (eE vs)) A
  | [],.panicking ch,A=>Q (.panicked ch) A
  | [],.run,_=>False
  | d :: ds,u,A=>u ≠ .run/\∃ fv cap g args,d.target=.fn fv cap/\(∀ w,(invoke d.target d.args).run P w=.ok (.enter g args) w) /\
      kf P g args u A fun
        | .returned _,u',A'=>md P rs e Q ds (settle u') A'
        | .panicked ch,u',A'=>md P rs e Q ds (raised u' ch) A'
        | .outgrown,_,_=>False

theorem yQ {fn:Func} {e:gx} {a:Act} {Q:Ending->AH->Prop} {A₀:AH} {w₀:World} (hsz:a.tmps.size=nt) (hsl:∀ t v,ct e t=some v->a.tmps.getD t undef=v/\t < nt) :
    ∀ (ds:List Deferred) (u:FrameMode) (A:AH) (w:World),cu A w->eJ A₀ w₀ A w->md P fn.results.toList e Q ds u A ->
      Leaves P fn a.tmps (fun en w'=>∃ A',cu A' w'/\eJ A₀ w₀ A' w'/\Q en A') ds u w:=by
  intro ds
  induction ds with
  | nil =>
    intro u A w hv hs h
    cases u with
    | run=>exact h.elim
    | returning =>
      obtain ⟨vs,hr,hq⟩:=h
      exact ⟨_,jo (nt:=nt) (f:=⟨e,a.defers⟩) (a:=a) ⟨hsz,hsl,Z⟩ hv hr,A,hv,hs,hq⟩
    | panicking ch=>exact ⟨A,hv,hs,h⟩
  | cons d ds ih =>
    intro u A w hv hs h
    obtain ⟨hu,fv,cap,g,args,ht,hi,hc⟩:=h
    refine ⟨hu,fv,cap,g,args,ht,hi w,(hc w hv).mono ?_⟩
    rintro en u' w' ⟨A',hv',hs',hq⟩
    cases en with
    | returned v=>exact ih _ A' w' hv' (hs.trans hs') hq
    | panicked ch=>exact ih _ A' w' hv' (hs.trans hs') hq
    | outgrown=>exact hq.elim

def C8 (P:Program) (rs:List ResultVar) (Q:Ending->AH->Prop):Exit->Fr->AH->Prop
  | .normal,f,A | .ret,f,A=>md P rs f.e Q f.ds .returning A
  | .panic ch,f,A=>md P rs f.e Q f.ds (.panicking ch) A
  | _,_,_=>False

theorem KH {args:List Value} (hn:args.length<=nt):cW nt ⟨rC args 0,[]⟩ { tmps:=args.toArray ++ Array.replicate (nt - args.toArray.size) undef,defers:=[] }:=by
  refine ⟨by simp;omega,fun t v q=>?_,Z⟩
  obtain ⟨_,h2⟩:=uY args 0 t v q
  simp only [Nat.sub_zero] at h2
  have hlt:t < args.length:=(List.getElem?_eq_some_iff.1 h2).1
  refine ⟨?_,by omega⟩
  simp only [Array.getD_eq_getD_getElem?]
  rw [Array.getElem?_append_left (by simpa using hlt)]
  simp [h2]

theorem go.enterD {g:FuncId} {fn:Func} {c:Code} {args:List Value} {Qe:Ending->AH->Prop} (he:fy P g) (hf:P.funcs[g]? = some fn) (hb:fn.body=some c) (hn:args.length<=fn.ntmps)
    (h:A.wf->am P fn.ntmps c (C8 P fn.results.toList Qe) ⟨rC args 0,[]⟩ A):go P g args.toArray A Qe:=by
  refine ⟨he,fun w hw=>calls_of_wp_defers hf hb ?_⟩
  refine wp_mono (h hw.wf _ w (KH hn) hw) ?_
  rintro x a' w' ⟨f',A',h1,h2,h3,h4,h5⟩
  cases x <;> simp only [C8] at h4 <;> (try exact h4.elim)
  case normal=>simp only [bodyPostD];rw [h1.ds];exact yQ h1.size h1.slot _ _ _ _ h2 h3 h4
  case ret=>simp only [bodyPostD];rw [h1.ds];exact yQ h1.size h1.slot _ _ _ _ h2 h3 h4
  case panic ch=>simp only [bodyPostD];rw [h1.ds];exact yQ h1.size h1.slot _ _ _ _ h2 h3 h4

def RU (nt:Nat) (Q:Exit->FrameMode->Fr->AH->Prop) (A:AH) (w:World) (c₀:Frame) (cs:List Frame):Exit->Act->List Frame->World->Prop :=
  fun x a' cs' w'=>∃ u' f' A',cs'={ c₀ with mode:=u' } :: cs/\cW nt f' a'/\cu A' w'/\eJ A w A' w'/\Q x u' f' A'

def qW (P:Program) (nt:Nat) (c:Code) (Q:Exit->FrameMode->Fr->AH->Prop) (u:FrameMode) (f:Fr) (A:AH):Prop :=
  ∀ a w (c₀:Frame) cs,c₀.mode=u->cW nt f a->cu A w->c.wpS P (RU nt Q A w c₀ cs) a (c₀ :: cs) w

def sE (P:Program) (nt:Nat) (all:Array Oper) (l:List Nat) (Q:Exit->FrameMode->Fr->AH->Prop) (u:FrameMode) (f:Fr) (A:AH):Prop :=
  ∀ a w (c₀:Frame) cs,c₀.mode=u->cW nt f a->cu A w->∀ (A₀:AH) (w₀:World),eJ A₀ w₀ A w->wpOpsS P all (RU nt Q A₀ w₀ c₀ cs) l a (c₀ :: cs) w

variable {Q:Exit->FrameMode->Fr->AH->Prop} {u:FrameMode} {f:Fr} {all:Array Oper} {l:List Nat} {e:gx} {ds:List Deferred}

theorem wA {c:Code} {R R':Exit->Act->List Frame->World->Prop} {a:Act} {cs:List Frame} {w:World} (h:c.wpS P R a cs w) (k:∀ x a cs w,R x a cs w->R' x a cs w):c.wpS P R' a cs w :=
  fun b kk hb hr=>let ⟨x,a',cs',w',q,r⟩:=h b kk hb hr;⟨x,a',cs',w',k _ _ _ _ q,r⟩

theorem qW.of_run {c:Code} (h:am P nt c (fun x f A=>Q x u f A) f A):qW P nt c Q u f A:=by
  intro a w c₀ cs hu ha hw
  refine wpS_of_wp (wp_mono (h a w ha hw) ?_)
  rintro x a' w' ⟨f',A',h1,h2,h3,h4,_⟩
  exact ⟨u,f',A',by subst hu;rfl,h1,h2,h3,h4⟩

def UU (K:FrameMode->Fr->AH->Prop) (Q:Exit->FrameMode->Fr->AH->Prop):Exit->FrameMode->Fr->AH->Prop
  | .normal,u,f,A=>K u f A
  | x,u,f,A=>Q x u f A

theorem qW.seq {x y:Code} (h:qW P nt x (UU (fun u f A=>qW P nt y Q u f A) Q) u f A):qW P nt (x.seq y) Q u f A:=by
  intro a w c₀ cs hu ha hw
  refine wpS_seq (wA (h a w c₀ cs hu ha hw) ?_)
  rintro e a' cs' w' ⟨u',f',A',rfl,h1,h2,h3,h4⟩
  cases e with
  | normal =>
    refine wA (h4 a' w' { c₀ with mode:=u' } cs Z h1 h2) ?_
    rintro x a'' cs'' w'' ⟨u2,f2,A2,rfl,g1,g2,g3,g4⟩
    exact ⟨u2,f2,A2,Z,g1,g2,h3.trans g3,g4⟩
  | _=>exact ⟨u',f',A',Z,h1,h2,h3,h4⟩

theorem qW.region {id:Nat} {ops:Array Oper} (hl:List.range ops.size=l) (h:sE P nt ops l Q u f A):qW P nt (.region id ops false) Q u f A:=by
  intro a w c₀ cs hu ha hw
  refine wpS_region ?_
  rw [hl]
  exact h a w c₀ cs hu ha hw A w (.refl _ _)

theorem sE.nil (h:Q .normal u f A):sE P nt all [] Q u f A:=by
  intro a w c₀ cs hu ha hw A₀ w₀ hs
  exact ⟨u,f,A,by subst hu;rfl,ha,hw,hs,h⟩

theorem sE.recover {i:Nat} {o:Oper} {d:Nat} {v:Value} {older:List PanicEntry} (ho:all[i]? = some o) (hg:o.guard=none) (hd:o.dst=some d) (hdn:d < nt)
    (hr:∀ ρ w,(execOp ρ o).run P w=.ok .recover w)
    (h:sE P nt all l Q (.panicking ({ v:=v,recovered:=true } :: older)) ⟨(d,v) :: e,ds⟩ A) :
    sE P nt all (i :: l) Q (.panicking ({ v:=v,recovered:=false } :: older)) ⟨e,ds⟩ A:=by
  intro a w c₀ cs hu ha hw A₀ w₀ hs
  simp only [wpOpsS,ho]
  rw [if_pos (by simp [Region.wanted,hg]),hr]
  simp only [recoverD,hu]
  have:=h (a.put o.dst v) w { c₀ with mode:=.panicking ({ v:=v,recovered:=true } :: older) } cs Z (by have:=ha.put o.dst v (by rw [hd];rintro t ⟨⟩;exact hdn);rw [hd] at this ⊢;exact this) hw A₀ w₀ hs
  exact this

theorem sE.recoverNil {i:Nat} {o:Oper} {d:Nat} (ho:all[i]? = some o) (hg:o.guard=none) (hd:o.dst=some d) (hdn:d < nt)
    (hr:∀ ρ w,(execOp ρ o).run P w=.ok .recover w)
    (h:sE P nt all l Q .returning ⟨(d,.nilIface) :: e,ds⟩ A) :
    sE P nt all (i :: l) Q .returning ⟨e,ds⟩ A:=by
  intro a w c₀ cs hu ha hw A₀ w₀ hs
  simp only [wpOpsS,ho]
  rw [if_pos (by simp [Region.wanted,hg]),hr]
  simp only [recoverD,hu]
  have:=h (a.put o.dst .nilIface) w c₀ cs hu (by have:=ha.put o.dst .nilIface (by rw [hd];rintro t ⟨⟩;exact hdn);rw [hd] at this ⊢;exact this) hw A₀ w₀ hs
  exact this

def KU (P:Program) (rs:List ResultVar) (R:Ending->FrameMode->AH->Prop):Exit->FrameMode->Fr->AH->Prop
  | .normal,u,f,A | .ret,u,f,A=>f.ds=[]/\∃ vs,gv P f.e A rs=some vs/\R (.returned (eE vs)) u A
  | .panic ch,u,f,A=>f.ds=[]/\R (.panicked ch) u A
  | _,_,_,_=>False

theorem kf.enter {g:FuncId} {fn:Func} {c:Code} {args:List Value} {R:Ending->FrameMode->AH->Prop} (hf:P.funcs[g]? = some fn) (hb:fn.body=some c) (hn:args.length<=fn.ntmps)
    (h:A.wf->qW P fn.ntmps c (KU P fn.results.toList R) u ⟨rC args 0,[]⟩ A):kf P g args.toArray u A R:=by
  intro w hw
  refine callsD_of_wpS hf hb fun c₀ cs hu=>?_
  refine wA (h hw.wf _ w c₀ cs hu (KH hn) hw) ?_
  rintro x a' cs' w' ⟨u',f',A',rfl,h1,h2,h3,h4⟩
  cases x <;> simp only [KU] at h4 <;> (try exact h4.elim)
  case normal=>obtain ⟨q,vs,hr,hq⟩:=h4;exact ⟨h1.ds.trans q,u',Z,_,jo h1 h2 hr,A',h2,h3,hq⟩
  case ret=>obtain ⟨q,vs,hr,hq⟩:=h4;exact ⟨h1.ds.trans q,u',Z,_,jo h1 h2 hr,A',h2,h3,hq⟩
  case panic ch=>exact ⟨h1.ds.trans h4.1,u',Z,A',h2,h3,h4.2⟩
end
theorem Ef {P:Program} {t x:TypeId} {fs:Array Field} {v:Value} {w:World} (hu:P.underlying t=some (.struct fs)):(Instr.typeAssert (.iface t v) x t true).run P w=.ok (.tuple #[v,.bool true]) w:=by
  have h1:(underlying t).run P w=.ok (.struct fs) w:=by simp [underlying,go_sem,hu]
  simp [Instr.typeAssert,go_sem,h1]

section
variable {P:Program} {nt:Nat} {A:AH} {Q:Exit->Fr->AH->Prop} {all:Array Oper} {os:List Oper} {e:gx} {ds:List Deferred} {o:Oper}

theorem Ops.raise {v:Value} (hg:o.guard=none) (hr:∀ a:Act,cW nt ⟨e,ds⟩ a->∀ w,cu A w->(execOp a.eval o).run P w=.halt (.panic v) w) (h:Q (.panic [{ v:=v,recovered:=false }]) ⟨e,ds⟩ A) :
    Ops P nt all (o :: os) Q ⟨e,ds⟩ A:=by
  intro a w ha hw A₀ w₀ hs
  unfold wpList
  rw [if_pos (by simp [Region.wanted,hg])]
  left
  unfold Oper.wp
  rw [hr a ha w hw]
  exact ⟨⟨e,ds⟩,A,ha,hw,hs,h,fun _ _=>trivial⟩

theorem Ops.val {v:Value} (hg:o.guard=none) (hd:gj nt o.dst=true) (hr:∀ a:Act,cW nt ⟨e,ds⟩ a->∀ w,cu A w->(execOp a.eval o).run P w=.ok (.value v) w) (h:Ops P nt all os Q ⟨fx e o.dst v,ds⟩ A) :
    Ops P nt all (o :: os) Q ⟨e,ds⟩ A:=by
  intro a w ha hw A₀ w₀ hs
  unfold wpList
  rw [if_pos (by simp [Region.wanted,hg])]
  left
  unfold Oper.wp
  rw [hr a ha w hw]
  exact h _ w (ha.put o.dst v (cN hd)) hw A₀ w₀ hs

theorem Ops.defer {d:Deferred} (hg:o.guard=none) (hd:o.dst=none) (hr:∀ a:Act,cW nt ⟨e,ds⟩ a->∀ w,cu A w->(execOp a.eval o).run P w=.ok (.defer d) w) (h:Ops P nt all os Q ⟨e,d :: ds⟩ A) :
    Ops P nt all (o :: os) Q ⟨e,ds⟩ A:=by
  intro a w ha hw A₀ w₀ hs
  unfold wpList
  rw [if_pos (by simp [Region.wanted,hg])]
  left
  unfold Oper.wp
  rw [hr a ha w hw]
  simp only [Oper.upon,hd]
  exact h ({ a with defers:=d :: a.defers }:Act) w ⟨ha.size,ha.slot,by have:=ha.ds;simp only at this ⊢;rw [this]⟩ hw A₀ w₀ hs

def yl (P:Program) (g:FuncId) (args:Array Value) (A:AH) (R:Value->AH->Prop) (Rp:List PanicEntry->AH->Prop):Prop:=go P g args A (Ak R Rp)
theorem yl.ret {g:FuncId} {args:Array Value} {R:Value->AH->Prop} (h:yl P g args A R (fun _ _=>False)):bH P g args A R :=
  go.mono h fun en A' q=>by
    cases en with
    | returned v=>exact ⟨v,Z,q⟩
    | panicked ch=>exact q.elim
    | outgrown=>exact q.elim
variable {K:Value->AH->Prop} {Kp:List PanicEntry->AH->Prop} {g:Option (Nat × Bool)} {dst:Option Nat} {ty:TypeId} {ps:String} {af:Array Edge}
theorem OU {gg:FuncId} {vs:List Value} {R:Value->AH->Prop} {Rp:List PanicEntry->AH->Prop} {aa:Array Operand} {tt:Array TypeId} (ha:ju (bX e) aa.toList=some vs)
    (hc:yl P gg vs.toArray A R Rp) (h:∀ v A',R v A'->K v A') (hp:∀ ch A',Rp ch A'->Kp ch A'):kO P e A { dst:=dst,op:=.call { callee:=.value (.func gg),args:=aa,argTypes:=tt },type:=ty,pos:=ps,after:=af,guard:=g } K Kp:=by
  simp only [kO,u7,bX,ha]
  refine go.mono (Q:=Ak R Rp) (by unfold yl at hc;simpa using hc) fun en A' q=>?_
  cases en with
  | returned v=>exact h _ _ q
  | panicked ch=>exact hp _ _ q
  | outgrown=>exact q.elim
theorem Lx {gg:FuncId} {fn:Func} {c:Code} {rs:Array ResultVar} {args:List Value} {a:Array Value} {R:Value->AH->Prop} {Rp:List PanicEntry->AH->Prop} (he:fy P gg) (hf:P.funcs[gg]? = some fn) (hb:fn.body=some c)
    (hr:fn.results=rs) (hnt:fn.ntmps=nt) (ha:args.toArray=a) (hn:Nat.ble args.length nt=true) (hE:rC args 0=e) (h:A.wf->am P nt c (jk P rs.toList (Ak R Rp)) ⟨e,[]⟩ A):yl P gg a A R Rp:=by
  subst hr;subst hnt;subst ha;subst hE
  exact go.enter he hf hb (Nat.le_of_ble_eq_true hn) h

theorem enterD {gg:FuncId} {fn:Func} {c:Code} {rs:Array ResultVar} {args:List Value} {a:Array Value} {R:Value->AH->Prop} {Rp:List PanicEntry->AH->Prop} (he:fy P gg) (hf:P.funcs[gg]? = some fn) (hb:fn.body=some c)
    (hr:fn.results=rs) (hnt:fn.ntmps=nt) (ha:args.toArray=a) (hn:Nat.ble args.length nt=true) (hE:rC args 0=e) (h:A.wf->am P nt c (C8 P rs.toList (Ak R Rp)) ⟨e,[]⟩ A):yl P gg a A R Rp:=by
  subst hr;subst hnt;subst ha;subst hE
  exact go.enterD he hf hb (Nat.le_of_ble_eq_true hn) h
end
section
variable {P:Program} {A:AH} {e:gx} {r:List ResultVar} {vs:List Value} {v:Value} {t:TypeId} {a b off cap n:Nat} {rw:Bool} {c cs:List Value}
theorem gv.nil:gv P e A []=some []:=rfl
theorem gv.cell {p:Addr} (hx:ct e a=some (.pointer (some p))) (hv:kn P A t (.pointer (some p))=some v) (hr:gv P e A r=some vs):gv P e A (.cell a t :: r)=some (v :: vs):=by
  simp only [gv,hx,hr,hv];rfl
theorem pk (ha:dx P t=some false) (hg:A.get b=some (.row rw c cap)) (hc:c[off]? = some v):kn P A t (.pointer (some ⟨b,off,none⟩))=some v:=by
  simp only [kn,ha];simp [AH.cell,hg,hc]
theorem ph (ha:dx P t=some true) (hs:dp P t=some n) (hg:A.get b=some (.row rw c cap)) (hc:jU c off n=some cs):kn P A t (.pointer (some ⟨b,off,none⟩))=some (.agg cs.toArray):=by
  simp only [kn,ha,hs,Option.bind_some];simp [AH.cellsAt,hg,hc]
end
end V
end Go.Proofs.YtjppkekmddjcfaaGreatDoor

namespace Go.Proofs.YtjppkekmddjcfaaGreatDoor
open Go Go.RowKit
namespace V
section
variable {P:Program} {nt:Nat} {A:AH} {Q:Exit->Fr->AH->Prop} {all:Array Oper} {os:List Oper} {e:gx} {ds:List Deferred} {o:Oper} {x:Operand} {v:Value} {dst:Option Nat} {ty:TypeId} {ps:String} {af:Array Edge} {t:TypeId} {fs:Array Field}
theorem Ops.iface (hu:P.underlying t=some (.struct fs)) (hx:bX e x=some v) (hd:gj nt dst=true) (h:Ops P nt all os Q ⟨fx e dst (.iface t v),ds⟩ A) :
    Ops P nt all ({ dst:=dst,op:=.makeInterface t x,type:=ty,pos:=ps,after:=af,guard:=none } :: os) Q ⟨e,ds⟩ A :=
  Ops.val Z hd (fun a ha w hw=>by
    have h5:=cL ha hx
    simp only [execOp,h5,Instr.makeInterface,Sem.run_bind,ce hu,Result.andThen_ok];rfl) h
theorem Ops.panicI (hx:bX e x=some (.iface t v)) (h:Q (.panic [{ v:=.iface t v,recovered:=false }]) ⟨e,ds⟩ A) :
    Ops P nt all ({ dst:=dst,op:=.panic x,type:=ty,pos:=ps,after:=af,guard:=none } :: os) Q ⟨e,ds⟩ A :=
  Ops.raise Z (fun a ha w hw=>by
    have h5:=cL ha hx
    simp only [execOp,h5,Instr.panic,Sem.run_bind];rfl) h
theorem kG {K:Fr->AH->Prop} {f:Fr} {ch:List PanicEntry} (h:Q (.panic ch) f A):qQ K Q (.panic ch) f A:=h
theorem jw {i:Nat} {f:Fr} {ch:List PanicEntry} (h:Q (.panic ch) f A):mD i Q (.panic ch) f A:=h
theorem i3 {f:Fr} {ch:List PanicEntry} (h:Q (.panic ch) f A):yY Q (.panic ch) f A:=h
variable {rs:List ResultVar} {R:Value->AH->Prop} {Rp:List PanicEntry->AH->Prop} {vs:List Value}
theorem Vt (hr:gv P e A rs=some vs) (h:R (eE vs) A):jk P rs (Ak R Rp) .ret ⟨e,[]⟩ A:=⟨rfl,vs,hr,h⟩
theorem UH (hr:gv P e A rs=some vs) (h:R (eE vs) A):jk P rs (Ak R Rp) .normal ⟨e,[]⟩ A:=⟨rfl,vs,hr,h⟩
theorem MJ {ch:List PanicEntry} (h:Rp ch A):jk P rs (Ak R Rp) (.panic ch) ⟨e,[]⟩ A:=⟨rfl,h⟩
end
end V
end Go.Proofs.YtjppkekmddjcfaaGreatDoor

namespace Go.Proofs.YtjppkekmddjcfaaGreatDoor
open Go Go.RowKit V
def cO (l:List Int):List Value:=l.map fun i=>num i
theorem aE (l:List Int):(cO l).length=l.length:=by simp [cO]
theorem eD (l:List Int):(cO l).length=l.length * 1:=by simp [cO]
theorem c8 {l:List Int} {i:Nat} (h:i < l.length):(cO l)[i]? = some (num (l.getD i 0)):=by simp [cO,h]
theorem dA (a b:List Int):cO a ++ cO b=cO (a ++ b):=by simp [cO]
theorem iw (a:List Int) (n:Nat) (c:Int):(cO a).set n (num c)=cO (a.set n c):=by simp [cO,List.map_set]
theorem iu (n:Nat):List.replicate n (num 0)=cO (List.replicate n 0):=by simp [cO]
def cl (l:List Bool):List Value:=l.map fun b=>.bool b
theorem bJ (l:List Bool):(cl l).length=l.length:=by simp [cl]
theorem fw (l:List Bool):(cl l).length=l.length * 1:=by simp [cl]
theorem ek {l:List Bool} {i:Nat} (h:i < l.length):(cl l)[i]? = some (.bool (l.getD i false)):=by simp [cl,h]
theorem nu (a b:List Bool):cl a ++ cl b=cl (a ++ b):=by simp [cl]
theorem lg (a:List Bool) (n:Nat) (c:Bool):(cl a).set n (.bool c)=cl (a.set n c):=by simp [cl,List.map_set]
theorem om (n:Nat):List.replicate n (.bool false)=cl (List.replicate n false):=by simp [cl]
def te (r:bf):UInt8:=r.left.getD (r.left.length - 1) 0
def gy (rs:List bf) (c:UInt8):List Int:=((List.range rs.length).filter fun i=>decide (te (rs.getD i .zero)=c)).map fun (i:Nat)=>(i:Int)
def oU (A:AH) (m:Nat) (rs:List bf):Prop:=∃ rw es ck,∃ E:List (UInt8 × Value),A.get m=some (.obj rw (.map es ck))/\du d8 es E/\∀ c,bK A 1 ((lk E c).getD (.slice none 0 0)) (cO (gy rs c))
theorem oU.le {A B:AH} {m:Nat} {rs:List bf} (h:oU A m rs) (le:A.le B):oU B m rs:=by
  obtain ⟨rw,es,ck,E,h1,h2,h3⟩:=h
  exact ⟨rw,es,ck,E,le.get _ _ h1,h2,fun c=>(h3 c).le le⟩
theorem LM {rs:List bf} {c:UInt8} {j:Nat} (hj:j < (gy rs c).length):∃ i:Nat,(gy rs c).getD j 0=i/\i < rs.length:=by
  have h:=bw (d:=0) hj
  generalize (gy rs c).getD j 0=z at h
  simp only [gy,List.mem_map,List.mem_filter,List.mem_range] at h
  obtain ⟨i,⟨h1,h2⟩,rfl⟩:=h
  exact ⟨i,Z,h1⟩
theorem PY {rs:List bf} {c:UInt8} {j:Nat} (hj:j < (gy rs c).length):0<=(gy rs c).getD j 0/\((gy rs c).getD j 0).toNat < rs.length/\(gy rs c).getD j 0=(((gy rs c).getD j 0).toNat:Nat):=by
  obtain ⟨i,h1,h2⟩:=LM hj
  rw [h1];exact ⟨by omega,by simpa using h2,by simp⟩
theorem AE (rs:List bf) (c:UInt8):(gy rs c).length<=rs.length:=by
  simp only [gy,List.length_map]
  exact Nat.le_trans (List.length_filter_le _ _) (by simp)
theorem Ls {k w:List UInt8} (h:¬ (0:Int)<=(k.length:Int) - (w.length:Int)):fH k w=false:=by
  simp only [fH,decide_eq_false_iff_not];intro q;omega
theorem Lr {k w:List UInt8} (h:(0:Int)<=(k.length:Int) - (w.length:Int)):fH k w=decide (k.drop ((k.length:Int) - (w.length:Int)).toNat=w):=by
  rw [fH,show ((k.length:Int) - (w.length:Int)).toNat=k.length - w.length by omega]
  congr 1;rw [eq_iff_iff];exact ⟨fun q=>q.2,fun q=>⟨by omega,q⟩⟩
theorem IQ {o w:List UInt8} (h:fH o w=true) (hw:0 < w.length):w.getD (w.length - 1) 0=o.getD (o.length - 1) 0:=by
  simp only [fH,decide_eq_true_eq] at h
  obtain ⟨h1,h2⟩:=h
  have h3:w.getD (w.length - 1) 0=(o.drop (o.length - w.length)).getD (w.length - 1) 0:=by rw [h2]
  rw [h3]
  simp only [List.getD_eq_getElem?_getD,List.getElem?_drop]
  congr 2;omega
theorem Ao {p q:Nat->Bool} {l:List Nat} (h:∀ x ∈ l,q x=true->p x=true):(l.filter p).find? q=l.find? q:=by
  induction l with
  | nil=>rfl
  | cons x l ih =>
    have ih:=ih fun y hy=>h y (List.mem_cons_of_mem _ hy)
    by_cases hp:p x=true
    · rw [List.filter_cons_of_pos hp,List.find?_cons,List.find?_cons,ih]
    · have hq:q x=false:=by
        cases e:q x with
        | false=>rfl
        | true=>exact absurd (h x List.mem_cons_self e) hp
      rw [List.filter_cons_of_neg hp,ih,List.find?_cons,hq]
theorem ud {rs:List bf} {o:List UInt8} (h0:∀ r ∈ rs,0 < r.left.length) :
    aK rs o=match (gy rs (o.getD (o.length - 1) 0)).find? (fun i=>fH o (rs.getD i.toNat .zero).left) with | some i=>i | none=>-1:=by
  unfold aK gy
  rw [List.find?_map]
  have e:((fun i:Int=>fH o (rs.getD i.toNat .zero).left) ∘ fun (i:Nat)=>(i:Int))=fun i:Nat=>fH o (rs.getD i .zero).left:=by funext i;simp
  rw [e,Ao (p:=fun i=>decide (te (rs.getD i .zero)=o.getD (o.length - 1) 0)) fun x hx hq=>by
    rw [decide_eq_true_iff]
    exact IQ hq (h0 _ (bw (d:=.zero) (List.mem_range.1 hx)))]
  cases (List.range rs.length).find? fun i=>fH o (rs.getD i .zero).left <;> rfl
theorem gd {α:Type} {l:List α} {j:Nat} {d:α} (h:j < l.length):l.getD j d=l[j]:=by simp [h]
theorem I5 {rs:List bf} {o:List UInt8} {j i:Nat} (h0:∀ r ∈ rs,0 < r.left.length) (hj:j < (gy rs (o.getD (o.length - 1) 0)).length) (hi:(gy rs (o.getD (o.length - 1) 0)).getD j 0=i) (hn:∀ k,k < j->fH o (rs.getD ((gy rs (o.getD (o.length - 1) 0)).getD k 0).toNat .zero).left=false) (h:fH o (rs.getD i .zero).left=true):aK rs o=i:=by
  rw [ud h0]
  generalize gy rs (o.getD (o.length - 1) 0)=L at *
  have hf:L.find? (fun i=>fH o (rs.getD i.toNat .zero).left)=some (i:Int):=by
    rw [List.find?_eq_some_iff_getElem]
    refine ⟨by simpa using h,j,hj,by rw [<- gd hj];exact hi,fun k hk=>?_⟩
    have:=hn k hk
    rw [gd (show k < L.length by omega)] at this
    rw [this];rfl
  rw [hf]
theorem LL {rs:List bf} {o:List UInt8} {j:Nat} (h0:∀ r ∈ rs,0 < r.left.length) (hj:(gy rs (o.getD (o.length - 1) 0)).length<=j) (hn:∀ k,k < j->fH o (rs.getD ((gy rs (o.getD (o.length - 1) 0)).getD k 0).toNat .zero).left=false):aK rs o = -1:=by
  rw [ud h0]
  generalize gy rs (o.getD (o.length - 1) 0)=L at *
  have hf:L.find? (fun i=>fH o (rs.getD i.toNat .zero).left)=none:=by
    rw [List.find?_eq_none]
    intro x hx
    obtain ⟨k,hk,rfl⟩:=List.getElem_of_mem hx
    have:=hn k O
    rw [gd hk] at this
    rw [this];decide
  rw [hf]
def Du (x:bf) (k:List UInt8) (n:Nat) (d:List bI) (m:Nat):Prop :=
  rk (k.take (k.length - x.left.length)) x.proof=true/\n + 1<=20000/\d.length + x.proof.length<=100000/\m + cz (eU (k.take (k.length - x.left.length)) x.proof)<=1000000
def pre (p:List UInt8) (P:List bI) (j:Nat):List bI:=(P.take j).map (ot p)
theorem QO {p:List UInt8} {P:List bI} {j:Nat} (h:j<=P.length):(pre p P j).length=j:=by simp [pre];omega
theorem BF {p:List UInt8} {P:List bI} {j:Nat} (h:j < P.length):pre p P (j + 1)=pre p P j ++ [⟨cn (p ++ (P.getD j .zero).conj),(P.getD j .zero).rel,(P.getD j .zero).inv⟩]:=(vB h Z).symm
theorem BE {p:List UInt8} {P:List bI} {j:Nat} (h:j < P.length):cz (pre p P (j + 1))=cz (pre p P j) + (cn (p ++ (P.getD j .zero).conj)).length:=by
  rw [BF h,nz,qZ];rfl
theorem zc {p:List UInt8} {P:List bI} {j:Nat} (hj:P.length<=j) (h:∀ i,i < j->p.length + (P.getD i .zero).conj.length<=100000):pre p P j=eU p P/\rk p P=true:=by
  have hk:=uG hj h
  exact ⟨xJ hj Z hk,hk⟩
theorem SW {p:List UInt8} {P:List bI} (j:Nat) (h:rk p P=true):cz (pre p P j)<=cz (eU p P):=by
  rw [eU,if_pos h,pre,<- List.take_append_drop j P,List.map_append,nz,List.take_append_drop]
  exact Nat.le_add_right _ _
theorem Su {x:bf} {k:List UInt8} {n m:Nat} {d:List bI} (h:20000 < n + 1):¬ Du x k n d m:=fun q=>by have:=q.2.1;omega
theorem Sw {x:bf} {k:List UInt8} {n m:Nat} {d:List bI} (h:100000 < d.length + x.proof.length):¬ Du x k n d m:=fun q=>by have:=q.2.2.1;omega
theorem Sx {x:bf} {k:List UInt8} {n m j:Nat} {d:List bI} (hj:j < x.proof.length) (h:100000 < (k.take (k.length - x.left.length)).length + (x.proof.getD j .zero).conj.length):¬ Du x k n d m:=fun q=>by
  have:=q.1;rw [za hj h] at this;cases this
theorem Sy {x:bf} {k:List UInt8} {n m j:Nat} {d:List bI} (h:1000000 < m + cz (pre (k.take (k.length - x.left.length)) x.proof j)):¬ Du x k n d m:=fun q=>by
  have:=SW j q.1;have:=q.2.2.2;omega
theorem SA {x:bf} {k:List UInt8} {n m j:Nat} {d:List bI} (h1:¬ 20000 < n + 1) (h2:¬ 100000 < d.length + x.proof.length) (hj:x.proof.length<=j) (h:∀ i,i < j->(k.take (k.length - x.left.length)).length + (x.proof.getD i .zero).conj.length<=100000) (hm:m + cz (pre (k.take (k.length - x.left.length)) x.proof j)<=1000000):Du x k n d m:=by
  have:=zc hj h
  exact ⟨this.2,by omega,by omega,by rw [<- this.1];exact hm⟩
end Go.Proofs.YtjppkekmddjcfaaGreatDoor
