import Derived.Test.YtjppkekmddjcfaaGreatDoorBD3
import Derived.Test.YtjppkekmddjcfaaGreatDoorBD2
import Derived.Recover
set_option linter.unusedSectionVars false
set_option linter.unusedVariables false
set_option linter.unusedSimpArgs false
namespace Go.Proofs.YtjppkekmddjcfaaGreatDoor
open Go Go.RowKit V
set_option maxRecDepth 100000


theorem xJ (g:Nat) (caps:Array Value) (q:bg->Bool) (rv:Value) (rs:List bg) (A:AH) (hn:rs.length<=9223372036854775807) (hr:bH A 3 rv (cL rs)) (hf:∀ r,r ∈ rs->∀ B,A.le B->B.wf->bF Tryz.prog g (#[] ++ #[.agg #[bi r.left,bi r.right,r.pv]] ++ caps) B (fun v B1=>v=.bool (q r)/\B.le B1/\B1.wf)):bF Tryz.prog 103 #[rv,.func (.func g) #[] caps] A (fun v A1=>v=num (yJ q rs)/\A.le A1/\A1.wf):=by
 refine jE Tryz.call103 Tryz.func103 Z Tryz.results103 Tryz.ntmps103 Z (fun wf=>?_);have a2:=AH.le.refl A;refine an.seq fun _ h2=>.region<|.q Z (ae Z)<|.nil<|h2 _ _<|.seq fun _ h4=>.seq fun _ h6=>.region<|.q Z (ah Z)<|.q Z (bE (n:=rs.length) la Z (hr.le a2) O (c8 _)) ?_;refine Ops.q Z (ah Z)<|.nil<|h6 _ _<|.block<|.loop (X:=Nat) (fun k=>[(0,rv),(1,.func (.func g) #[] caps),(7,num ((rs.length:Nat):Int)),(8,num ((k:Nat):Int))]) (fun k B=>(k<=rs.length/\∀ j,j < k->q (rs.getD j .zero)=false)/\A.le B) (fun k=>rs.length - k) 0 (kq Z Z Z Z) (⟨⟨by omega,fun j h=>by omega⟩,a2⟩) ?_;rintro k B8 ⟨⟨hk,hq⟩,D⟩;refine an.wf fun a3=>.seq fun _ a8=>.region<|.q Z (ca Z Z)<|.nil<|a8 _ _<|.seq fun _ a9=>.if rfl (fun ap=>?_) (fun ap=>?_)
 ·refine an.skip<|a9 _ _<|.seq fun _ aa=>.block<|.seq fun _ ab=>.region<|.q Z (ah Z)<|.q Z (ae Z)<|.nil<|ab _ _ ?_;refine an.seq fun _ ac=>.region<|.q Z (ah Z)<|.q Z (ah Z)<|.q Z (ah Z) ?_;obtain ⟨aA,aB,az,aF,ay,aD,aC,a6,ai,a7,a4,av⟩:=bH.at (i:=k) (hr.le D) Oj O;refine Ops.q Z (aE la fJ Z a6 Z ai)<|.q Z (aq s7 fJ Z Z a7 (a4.trans (congrArg some (iu O))))<|.l Z (fun _ _ a5 _=>ng Z Z (hf ((rs.getD k .zero)) (bq (d:=bg.zero) O) B8 D a3) ?_);rintro aG A24 ⟨rfl,a0,a1⟩;have V:=D.trans a0;refine a5 _ _<|.nil<|ac _ _<|.ifB Z (fun ar=>?_) (fun ar=>?_)
  ·refine an.seq fun _ ad=>.region<|.q Z (ah Z)<|.q Z (ae Z)<|.nil<|ad _ _<|.rt (by exact aK Z (⟨by rw [vr (d:=.zero) OF hq ‹_›];rfl,V,a1⟩))
  refine an.skip<|aa _ _<|.region<|.q Z (bz (b:=1) Z Z O)<|.q Z (ah Z)<|.nil ?_;exact ⟨k + 1,kq Z Z Z Z,Z,⟨⟨by omega,fun j h=>(Nat.lt_succ_iff_lt_or_eq.1 h).elim (hq j) (fun z=>by subst z;assumption)⟩,V⟩,O1⟩
 refine an.exit<|h4 _ _<|.seq fun _ ag=>.region<|.q Z (ae Z)<|.nil<|ag _ _<|.rt (by exact aK Z (⟨by rw [yK (d:=.zero) (fun j h=>hq j O)];rfl,D,a3⟩))

theorem nc (g:Nat) (caps:Array Value) (q:bg->Bool) (rv:Value) (rs:List bg) (A:AH) (hn:rs.length<=9223372036854775807) (hr:bH A 3 rv (cL rs)) (hf:∀ r,r ∈ rs->∀ B,A.le B->B.wf->bF Tryz.prog g (#[] ++ #[.agg #[bi r.left,bi r.right,r.pv]] ++ caps) B (fun v B1=>v=.bool (q r)/\B.le B1/\B1.wf)):bF Tryz.prog 50 #[rv,.func (.func g) #[] caps] A (fun v A1=>v=.bool (decide (0<=yJ q rs))/\A.le A1/\A1.wf):=by
 refine jE Tryz.call50 Tryz.func50 Z Tryz.results50 Tryz.ntmps50 Z (fun wf=>?_);have h:=AH.le.refl A;refine an.seq fun _ h2=>.region<|.q Z (ae Z)<|.nil<|h2 _ _<|.seq fun _ h4=>.region<|.q Z (ah Z)<|.q Z (ah Z)<|.l Z (fun _ _ X _=>ax Z (xJ g caps q rv rs A hn (hr.le h) (fun s hs B le wf=>hf s hs B (h.trans le) wf)) ?_);rintro v6 A7 ⟨rfl,D,V⟩;have a0:=h.trans D;refine X _ _<|.q Z (k8 Z Z)<|.q Z (ae Z)<|.nil<|h4 _ _<|.rt (by exact aK Z (⟨Z,a0,V⟩))

theorem QG (r:bg) (w:List UInt8) (b cap:Nat) (rw:Bool) (A:AH) (hM:pW A) (hw:w.length<=1000000) (hb:A.get b=some (.row rw [bi w] cap)):bF Tryz.prog 100 #[.agg #[bi (r.left),bi (r.right),r.pv],.pointer (some ⟨b,0,none⟩)] A (fun v A1=>v=.bool (decide (0<=yb w r.left 0))/\A.le A1/\A1.wf):=by
 refine jE Tryz.call100 Tryz.func100 Z Tryz.results100 Tryz.ntmps100 Z (fun wf=>?_);have a0:=AH.le.refl A;refine an.seq fun _ h2=>.region<|.l Z (fun _ _ X _=>dy wf rfl rfl fun A5 b4 D=>?_);have h:=a0.trans D.le;refine X _ _<|.q Z (ae Z)<|.nil<|h2 _ _<|.seq fun _ h9=>.region<|.q Z (ak fA Z Z (h.get _ _ hb) Z)<|.q Z (aj eD eO U Z)<|.q Z (ak fA Z Z D.get Z)<|.l Z (fun _ _ V _=>ax Z (Cf w r.left A5 (hM.le h) O) ?_);rintro a1 A12 ⟨rfl,rfl⟩;refine V _ _<|.q Z (ae Z)<|.nil<|h9 _ _<|.rt (by exact aK Z (⟨Z,h,D.wf⟩))

theorem DU (g:Int) (u:Value) (l:List (List UInt8)) (rv:Value) (rs:List bg) (w:List UInt8) (A:AH) (hn:rs.length<=9223372036854775807) (hw:w.length<=1000000) (hL:gk A) (hM:pW A) (hu:bH A 1 u (du l)) (hr:bH A 3 rv (cL rs)):bF Tryz.prog 48 #[.agg #[num (g),u,rv],bi (w)] A (fun v A1=>v=.bool (k5 rs w)/\A.le A1/\A1.wf):=by
 refine jE Tryz.call48 Tryz.func48 Z Tryz.results48 Tryz.ntmps48 Z (fun wf=>?_);have ap:=AH.le.refl A;refine an.seq fun _ h2=>.region<|.l Z (fun _ _ ad _=>dy wf rfl rfl fun A5 b4 a0=>?_);have ai:=ap.trans a0.le;refine ad _ _<|.l Z (fun _ _ ag _=>dy a0.wf rfl rfl fun A10 b9 h=>?_);have aa:=h.le.get _ _ a0.get;have X:=ai.trans h.le;refine ag _ _<|.q Z (ae Z)<|.nil<|h2 _ _<|.seq fun _ a4=>.drawn [0,2,1,3,4,5,6,7,8,9,10,11] mixed Y Y Z<|.q Z Z Z (ak fA Z Z h.get Z) ?_;have a5:=bQ (off:=0) h.get (show _=some (bi (w)) from rfl);refine be.q Z Z Z (ak fA Z Z h.get Z)<|.l Z Z Z (fun _ _ a7 _=>ax Z (qH w A10 O (hL.le X)) ?_);rintro av A20 ⟨rfl,D,a2⟩;have ab:=D.get _ _ aa;have ac:=D.get _ _ h.get;have a6:=am D a5;have V:=X.trans D;refine a7 _ _ (aU.list (L:=[(⟨b9,0,none⟩,bi (w))]) Y (al a6 bf))<|.q Z Z Z (mn Z Z)<|.q Z Z Z (ah Z)<|.part (t:=9) Z (fun ar=>?_) (fun ar=>?_)
 ·refine be.qOn Z Z Z Z Z (aj dE il U Z)<|.qOn Z Z Z Z Z (ak iC Z Z ab Z)<|.qOn Z Z Z Z Z (ll Z Z)<|.lOn Z Z Z Z Z (fun _ _ a8 _=>ax Z (nc 100 #[.pointer (some ⟨b9,0,none⟩)] (fun r:bg=>decide (0<=yb w r.left 0)) rv rs A20 O (hr.le V) (fun r hs B le wf=>QG r w b9 _ _ B ((hM.le V).le le) O (le.get _ _ ac))) ?_);rintro ay A31 ⟨rfl,a1,a3⟩;have a9:=V.trans a1;refine a8 _ _ (aU.none Y)<|.qOn Z Z Z Z Z (ke Z)<|.q Z Z Z (aL Z Z)<|.q Z Z Z (ae Z)<|.done<|a4 _ _<|.rt (by exact aK Z (⟨by (rw [Nc ‹_›,<- decide_not];rfl),a9,a3⟩))
 refine be.qOff Z Z Z Z Z Z<|.qOff Z Z Z Z Z Z<|.qOff Z Z Z Z Z Z<|.lOff Z Z Z Z Z Z<|.qOff Z Z Z Z Z Z<|.q Z Z Z (aW Z Z)<|.q Z Z Z (ae Z)<|.done<|a4 _ _<|.rt (by exact aK Z (⟨by (rw [yM ‹_›];rfl),V,a2⟩))

theorem RX (g:Int) (u:Value) (l:List (List UInt8)) (rv:Value) (rs:List bg) (w:List UInt8) (A:AH) (hn:rs.length<=9223372036854775807) (hw:w.length<=1000000) (h0:0 < w.length) (hL:gk A) (hM:pW A) (hu:bH A 1 u (du l)) (hr:bH A 3 rv (cL rs)):bF Tryz.prog 52 #[.agg #[num (g),u,rv],bi (w)] A (fun v A1=>v=.bool (k5 rs (w.take (w.length - 1)) && k5 rs (w.drop 1))/\A.le A1/\A1.wf):=by
 refine jE Tryz.call52 Tryz.func52 Z Tryz.results52 Tryz.ntmps52 Z (fun wf=>?_);have a8:=AH.le.refl A;refine an.seq fun _ h2=>.region<|.l Z (fun _ _ a7 _=>dy wf rfl rfl fun A5 b4 X=>?_);have D:=a8.trans X.le;refine a7 _ _<|.q Z (ae Z)<|.nil<|h2 _ _<|.seq fun _ h9=>.drawn [0,1,2,3,4,5,6,7,8,9,10,11,12,13] mixed Y Y Z<|.q Z Z Z (aq dL dx Z Z X.get Z)<|.q Z Z Z (ah Z)<|.q Z Z Z (ah Z)<|.q Z Z Z (cF u9 Z) ?_;refine be.q Z Z Z (gh (b:=1) Z Z O)<|.q Z Z Z (zn u9 Z Z O)<|.l Z Z Z (fun _ _ a3 _=>ax Z (DU ((g)) u l rv rs (w.take (w.length - 1)) A5 hn Oz (hL.le D) (hM.le D) (hu.le D) (hr.le D)) ?_);rintro aa A15 ⟨rfl,V,a1⟩;have a6:=V.get _ _ X.get;have h:=D.trans V;refine a3 _ _ (aU.none Y)<|.q Z Z Z (ah Z)<|.partB (t:=12) Z (fun a9=>?_) (fun a9=>?_)
 ·refine be.qOn Z Z Z Z Z (aq dL dx Z Z a6 Z)<|.qOn Z Z Z Z Z (ah Z)<|.qOn Z Z Z Z Z (vI (i:=1) u9 Z Z O)<|.lOn Z Z Z Z Z (fun _ _ a4 _=>ax Z (DU ((g)) u l rv rs (w.drop 1) A15 hn Oz (hL.le h) (hM.le h) (hu.le h) (hr.le h)) ?_);rintro ab A28 ⟨rfl,a0,a2⟩;have a5:=h.trans a0;refine a4 _ _ (aU.none Y)<|.q Z Z Z (aL Z Z)<|.q Z Z Z (ae Z)<|.done<|h9 _ _<|.rt (by exact aK Z (⟨by simp_all [dR],a5,a2⟩))
 refine be.qOff Z Z Z Z Z Z<|.qOff Z Z Z Z Z Z<|.qOff Z Z Z Z Z Z<|.lOff Z Z Z Z Z Z<|.q Z Z Z (aW Z Z)<|.q Z Z Z (ae Z)<|.done<|h9 _ _<|.rt (by exact aK Z (⟨by simp_all [dR],h,a1⟩))

theorem lN (g:Int) (u:Value) (l:List (List UInt8)) (rv:Value) (rs:List bg) (w:List UInt8) (A:AH) (hn:l.length<=9223372036854775807) (hm:rs.length<=9223372036854775807) (hL:gk A) (hM:pW A) (hu:bH A 1 u (du l)) (hr:bH A 3 rv (cL rs)) (hp:Proofs A rs):bF Tryz.prog 14 #[.agg #[num (g),u,rv],bi (w)] A (fun v A1=>v=.bool (cw g l rs && decide (bN g w=0) && k5 rs w)/\A.le A1/\A1.wf):=by
 refine jE Tryz.call14 Tryz.func14 Z Tryz.results14 Tryz.ntmps14 Z (fun wf=>?_);have ad:=AH.le.refl A;refine an.seq fun _ h2=>.region<|.l Z (fun _ _ ac _=>dy wf rfl rfl fun A5 b4 a1=>?_);have D:=ad.trans a1.le;refine ac _ _<|.q Z (ae Z)<|.nil<|h2 _ _<|.seq fun _ h9=>.region<|.q Z (aq dL dx Z Z a1.get Z)<|.l Z (fun _ _ a7 _=>ax Z (jw ((g)) u l rv rs A5 hn hm (hL.le D) (hu.le D) (hr.le D) (hp.le D)) ?_);rintro ap A12 ⟨rfl,X,a3⟩;have a6:=X.get _ _ a1.get;have V:=D.trans X;refine a7 _ _<|.q Z (ah Z)<|.partB (t:=7) Z (fun ag=>?_) (fun ag=>?_)
 ·refine Ops.on Z Z<|.q Z (aj fw f8 U Z)<|.on Z Z<|.q Z (aj eW c0 U Z)<|.on Z Z<|.q Z (ak eB Z Z a6 Z)<|.on Z Z<|.q Z (ah Z)<|.on Z Z<|.l Z (fun _ _ a8 _=>ax Z (oh (g) w A12 (hL.le V)) ?_);rintro ar A19 ⟨rfl,a0,a4⟩;have ab:=a0.get _ _ a6;have h:=V.trans a0;refine a8 _ _<|.on Z Z<|.q Z (kb (b:=0) Z Z)<|.q Z (aL Z Z)<|.q Z (ah Z)<|.part (t:=15) Z (fun ai=>?_) (fun ai=>?_)
  ·refine Ops.on Z Z<|.q Z (aq dL dx Z Z ab Z)<|.on Z Z<|.q Z (ah Z)<|.on Z Z<|.l Z (fun _ _ a9 _=>ax Z (DU ((g)) u l rv rs w A19 hm (by have:=fG ‹bN g w=0›;omega) (hL.le h) (hM.le h) (hu.le h) (hr.le h)) ?_);rintro av A26 ⟨rfl,a2,a5⟩;have aa:=h.trans a2;refine a9 _ _<|.q Z (aL Z Z)<|.q Z (ae Z)<|.nil<|h9 _ _<|.rt (by exact aK Z (⟨by simp_all [dR],aa,a5⟩))
  refine Ops.off Z Z Z Z<|.off Z Z Z Z<|.off Z Z Z Z<|.q Z (aW Z Z)<|.q Z (ae Z)<|.nil<|h9 _ _<|.rt (by exact aK Z (⟨by simp_all [dR],h,a4⟩))
 refine Ops.off Z Z Z Z<|.off Z Z Z Z<|.off Z Z Z Z<|.off Z Z Z Z<|.off Z Z Z Z<|.off Z Z Z Z<|.q Z (aW Z Z)<|.q Z (ah Z)<|.off Z Z Z Z<|.off Z Z Z Z ?_;refine Ops.off Z Z Z Z<|.q Z (aW Z Z)<|.q Z (ae Z)<|.nil<|h9 _ _<|.rt (by exact aK Z (⟨by simp_all [dR],V,a3⟩))

theorem Ln (r:bg) (g:Int) (u:Value) (l:List (List UInt8)) (rv:Value) (rs:List bg) (b cap:Nat) (rw:Bool) (A:AH) (hm:rs.length<=9223372036854775807) (hll:r.left.length<=1000/\r.right.length<=1000/\0 < r.left.length) (hL:gk A) (hM:pW A) (hu:bH A 1 u (du l)) (hr:bH A 3 rv (cL rs)) (hb:A.get b=some (.row rw [num g,u,rv] cap)):bF Tryz.prog 51 #[.agg #[bi (r.left),bi (r.right),r.pv],.pointer (some ⟨b,0,none⟩)] A (fun v A1=>v=.bool (nA rs r)/\A.le A1/\A1.wf):=by
 refine jE Tryz.call51 Tryz.func51 Z Tryz.results51 Tryz.ntmps51 Z (fun wf=>?_);have a8:=AH.le.refl A;refine an.seq fun _ h2=>.region<|.l Z (fun _ _ a7 _=>dy wf rfl rfl fun A5 b4 X=>?_);have D:=a8.trans X.le;refine a7 _ _<|.q Z (ae Z)<|.nil<|h2 _ _<|.seq fun _ h9=>.region<|.q Z (aq dL dx Z Z (D.get _ _ hb) Z)<|.q Z (aj iI eO U Z)<|.q Z (ak fA Z Z X.get Z)<|.l Z (fun _ _ a3 _=>ax Z (DU ((g)) u l rv rs r.right A5 hm O (hL.le D) (hM.le D) (hu.le D) (hr.le D)) ?_);rintro aa A12 ⟨rfl,V,a1⟩;have a6:=V.get _ _ X.get;have h:=D.trans V;refine a3 _ _<|.q Z (eb Z)<|.q Z (ah Z)<|.partB (t:=9) Z (fun a9=>?_) (fun a9=>?_)
 ·refine Ops.off Z Z Z Z<|.off Z Z Z Z<|.off Z Z Z Z<|.off Z Z Z Z<|.off Z Z Z Z<|.q Z (aL Z Z)<|.q Z (ae Z)<|.nil<|h9 _ _<|.rt (by exact aK Z (⟨by simp_all [dR,nA],h,a1⟩))
 refine Ops.on Z Z<|.q Z (aq dL dx Z Z (h.get _ _ hb) Z)<|.on Z Z<|.q Z (aj eD eO U Z)<|.on Z Z<|.q Z (ak fA Z Z a6 Z)<|.on Z Z<|.l Z (fun _ _ a4 _=>ax Z (RX ((g)) u l rv rs r.left A12 hm O hll.2.2 (hL.le h) (hM.le h) (hu.le h) (hr.le h)) ?_);rintro ab A19 ⟨rfl,a0,a2⟩;have a5:=h.trans a0;refine a4 _ _<|.on Z Z<|.q Z (eb Z)<|.q Z (aW Z Z)<|.q Z (ae Z)<|.nil<|h9 _ _<|.rt (by exact aK Z (⟨by simp_all [dR,nA],a5,a2⟩))

theorem r5 (g:Int) (u:Value) (l:List (List UInt8)) (rv:Value) (rs:List bg) (A:AH) (hn:l.length<=9223372036854775807) (hm:rs.length<=9223372036854775807) (hL:gk A) (hM:pW A) (hu:bH A 1 u (du l)) (hr:bH A 3 rv (cL rs)) (hp:Proofs A rs):bF Tryz.prog 16 #[.agg #[num (g),u,rv]] A (fun v A1=>v=.bool (nS g l rs)/\A.le A1/\A1.wf):=by
 refine gw Tryz.call16 Tryz.func16 Z Tryz.results16 Tryz.ntmps16 Z (fun wf=>?_);have a8:=AH.le.refl A;refine an.seq fun _ h2=>.region<|.l Z (fun _ _ a7 _=>dy wf rfl rfl fun A5 b4 X=>?_);have D:=a8.trans X.le;refine a7 _ _<|.q Z (ae Z)<|.nil<|h2 _ _<|.seq fun _ h9=>.region<|.q Z (aq dL dx Z Z X.get Z)<|.l Z (fun _ _ a4 _=>ax Z (jw ((g)) u l rv rs A5 hn hm (hL.le D) (hu.le D) (hr.le D) (hp.le D)) ?_);rintro aa A12 ⟨rfl,V,a1⟩;have a3:=V.get _ _ X.get;have h:=D.trans V;refine a4 _ _<|.q Z (ah Z)<|.partB (t:=5) Z (fun a9=>?_) (fun a9=>?_)
 ·refine Ops.on Z Z<|.q Z (aj dE il U Z)<|.on Z Z<|.q Z (ak iC Z Z a3 Z)<|.on Z Z<|.q Z (ll Z Z)<|.on Z Z<|.l Z (fun _ _ a5 _=>ax Z (nc 51 #[.pointer (some ⟨b4,0,none⟩)] (nA rs) rv rs A12 O (hr.le h) (fun r hs B le wf=>Ln r g u l rv rs b4 _ _ B hm (ks ‹cw g l rs=true› hs) ((hL.le h).le le) ((hM.le h).le le) ((hu.le h).le le) ((hr.le h).le le) (le.get _ _ a3))) ?_);rintro ab A19 ⟨rfl,a0,a2⟩;have a6:=h.trans a0;refine a5 _ _<|.on Z Z<|.q Z (ke Z)<|.q Z (aL Z Z)<|.q Z (ae Z)<|.nil<|h9 _ _<|.rt (by exact aK Z (⟨by (rw [Fg ‹_›,<- decide_not];rfl),a6,a2⟩))
 refine Ops.off Z Z Z Z<|.off Z Z Z Z<|.off Z Z Z Z<|.off Z Z Z Z<|.off Z Z Z Z<|.q Z (aW Z Z)<|.q Z (ae Z)<|.nil<|h9 _ _<|.rt (by exact aK Z (⟨by (rw [vt ‹_›];rfl),h,a1⟩))
end Go.Proofs.YtjppkekmddjcfaaGreatDoor

namespace Go.Proofs.YtjppkekmddjcfaaGreatDoor
open Go Go.RowKit V
set_option maxRecDepth 100000
theorem Tq:type_of% @Tryz.underlying85:=@Tryz.underlying85

theorem Th (a b:bK):ya Tryz.prog 85 (.agg #[bi a.conj,num a.rel,.bool a.inv]) (.agg #[bi b.conj,num b.rel,.bool b.inv])=some (decide (a=b)) :=
  PK Tq Y ⟨rfl,rfl,by decide⟩ ⟨rfl,rfl,by decide⟩ ⟨rfl,rfl,by decide⟩ fA eB sY u9 u3 u4 a b

theorem KQ (v1 v2:Value) (l1 l2:List bK) (A:AH) (hn:l1.length<=9223372036854775807) (V:bH A 3 v1 (cA l1)) (a0:bH A 3 v2 (cA l2)):bF Tryz.prog 55 #[v1,v2] A (fun v A1=>v=.bool (decide (l1=l2))/\A=A1):=by
 refine jE Tryz.call55 Tryz.func55 Z Tryz.results55 Tryz.ntmps55 Z (fun wf=>?_);have D:=AH.le.refl A;refine an.seq fun _ h2=>.region<|.q Z (ae Z)<|.nil<|h2 _ _<|.seq fun _ h4=>.seq fun _ h6=>.region<|.q Z (ah Z)<|.q Z (bE (n:=l1.length) pQ Z (V.le D) O (dn _)) ?_;refine Ops.q Z (ah Z)<|.q Z (bE (n:=l2.length) pQ Z (a0.le D) O (dn _))<|.q Z (eI Z Z)<|.nil<|h6 _ _<|.if rfl (fun p7=>?_) (fun p7=>?_)
 ·refine an.seq fun _ h9=>.region<|.q Z (ae Z)<|.nil<|h9 _ _<|.rt (by exact aK Z (⟨by (rw [decide_eq_false (fun q=>by have:=congrArg List.length q;omega)];rfl),Z⟩))
 refine an.skip<|h4 _ _<|.seq fun _ a7=>.seq fun _ a8=>.region<|.q Z (ah Z)<|.q Z (bE (n:=l1.length) pQ Z (V.le D) O (dn _))<|.q Z (ah Z)<|.nil<|a8 _ _ ?_;refine an.block<|.loop (X:=Nat) (fun k=>[(0,v1),(1,v2),(12,num ((l1.length:Nat):Int)),(13,num ((k:Nat):Int))]) (fun k B=>(k<=l1.length/\l1.length=l2.length/\∀ j,j < k->l1.getD j .zero=l2.getD j .zero)/\A=B) (fun k=>l1.length - k) 0 (kq Z Z Z Z) (⟨⟨Nat.zero_le _,by omega,fun j h=>by omega⟩,Z⟩) ?_;rintro k B15 ⟨⟨hk,hl,hq⟩,rfl⟩;refine an.seq fun _ a9=>.region<|.q Z (ca Z Z)<|.nil<|a9 _ _<|.seq fun _ aa=>.if rfl (fun av=>?_) (fun av=>?_)
 ·refine an.skip<|aa _ _<|.seq fun _ ab=>.block<|.seq fun _ ac=>.region<|.q Z (ah Z)<|.q Z (ae Z)<|.nil<|ac _ _ ?_;refine an.seq fun _ ad=>.drawn [0,1,2,3,4,5,6,7,8] mixed Y Y Z<|.q Z Z Z (ah Z)<|.q Z Z Z (ah Z) ?_;obtain ⟨aG,aP,aD,aZ,aB,aV,aS,a3,ap,a5,a1,az⟩:=bH.at (i:=k) (V.le D) OI O;refine be.q Z Z Z (aE pQ jm Z a3 Z ap)<|.q Z Z Z (aq uT jm Z Z a5 (a1.trans (congrArg some (gz O))))<|.q Z Z Z (ah Z)<|.q Z Z Z (ah Z) ?_;obtain ⟨aI,aR,aF,b0,aC,aY,aT,a4,ar,a6,a2,aA⟩:=bH.at (i:=k) (a0.le D) OI O;refine be.q Z Z Z (aE pQ jm Z a4 Z ar)<|.q Z Z Z (aq uT jm Z Z a6 (a2.trans (congrArg some (gz O))))<|.q Z Z Z ((RJ Z Z (fun _ _ q=>by cases q) (fun _ q=>by cases q) (Th ((l1.getD k .zero)) ((l2.getD k .zero)))).trans (congrArg (fun z=>some (Value.bool z,[])) (decide_not (p:=(l1.getD k .zero)=(l2.getD k .zero))).symm))<|.done<|ad _ _<|.if rfl (fun ay=>?_) (fun ay=>?_)
  ·refine an.seq fun _ ag=>.region<|.q Z (ae Z)<|.nil<|ag _ _<|.rt (by exact aK Z (⟨by (rw [decide_eq_false (wT (i:=k) ‹_›)];rfl),Z⟩))
  refine an.skip<|ab _ _<|.region<|.q Z (bz (b:=1) Z Z O)<|.q Z (ah Z)<|.nil ?_;exact ⟨k + 1,kq Z Z Z Z,Z,⟨⟨by omega,hl,fun j h=>(Nat.lt_succ_iff_lt_or_eq.1 h).elim (hq j) (fun z=>by subst z;exact Decidable.not_not.1 ‹_›)⟩,Z⟩,O1⟩
 refine an.exit<|a7 _ _<|.seq fun _ ai=>.region<|.q Z (ae Z)<|.nil<|ai _ _<|.rt (by exact aK Z (⟨by (rw [decide_eq_true (oG hl O hq)];rfl),Z⟩))

theorem KY (v1 v2:Value) (l1 l2:List bK) (A:AH) (hn:l1.length<=9223372036854775807) (V:bH A 3 v1 (cA l1)) (a0:bH A 3 v2 (cA l2)):bF Tryz.prog 61 #[v1,v2] A (fun v A1=>v=.bool (decide (l1=l2))/\A=A1):=by
 refine jE Tryz.call61 Tryz.func61 Z Tryz.results61 Tryz.ntmps61 Z (fun wf=>?_);have D:=AH.le.refl A;refine an.seq fun _ h2=>.region<|.q Z (ae Z)<|.nil<|h2 _ _<|.seq fun _ h4=>.seq fun _ h6=>.region<|.q Z (ah Z)<|.q Z (bE (n:=l1.length) pQ Z (V.le D) O (dn _)) ?_;refine Ops.q Z (ah Z)<|.q Z (bE (n:=l2.length) pQ Z (a0.le D) O (dn _))<|.q Z (eI Z Z)<|.nil<|h6 _ _<|.if rfl (fun p7=>?_) (fun p7=>?_)
 ·refine an.seq fun _ h9=>.region<|.q Z (ae Z)<|.nil<|h9 _ _<|.rt (by exact aK Z (⟨by (rw [decide_eq_false (fun q=>by have:=congrArg List.length q;omega)];rfl),Z⟩))
 refine an.skip<|h4 _ _<|.seq fun _ a7=>.seq fun _ a8=>.region<|.q Z (ah Z)<|.q Z (bE (n:=l1.length) pQ Z (V.le D) O (dn _))<|.q Z (ah Z)<|.nil<|a8 _ _ ?_;refine an.block<|.loop (X:=Nat) (fun k=>[(0,v1),(1,v2),(12,num ((l1.length:Nat):Int)),(13,num ((k:Nat):Int))]) (fun k B=>(k<=l1.length/\l1.length=l2.length/\∀ j,j < k->l1.getD j .zero=l2.getD j .zero)/\A=B) (fun k=>l1.length - k) 0 (kq Z Z Z Z) (⟨⟨Nat.zero_le _,by omega,fun j h=>by omega⟩,Z⟩) ?_;rintro k B15 ⟨⟨hk,hl,hq⟩,rfl⟩;refine an.seq fun _ a9=>.region<|.q Z (ca Z Z)<|.nil<|a9 _ _<|.seq fun _ aa=>.if rfl (fun av=>?_) (fun av=>?_)
 ·refine an.skip<|aa _ _<|.seq fun _ ab=>.block<|.seq fun _ ac=>.region<|.q Z (ah Z)<|.q Z (ae Z)<|.nil<|ac _ _ ?_;refine an.seq fun _ ad=>.drawn [0,1,2,3,4,5,6,7,8] mixed Y Y Z<|.q Z Z Z (ah Z)<|.q Z Z Z (ah Z) ?_;obtain ⟨aG,aP,aD,aZ,aB,aV,aS,a3,ap,a5,a1,az⟩:=bH.at (i:=k) (V.le D) OI O;refine be.q Z Z Z (aE pQ jm Z a3 Z ap)<|.q Z Z Z (aq uT jm Z Z a5 (a1.trans (congrArg some (gz O))))<|.q Z Z Z (ah Z)<|.q Z Z Z (ah Z) ?_;obtain ⟨aI,aR,aF,b0,aC,aY,aT,a4,ar,a6,a2,aA⟩:=bH.at (i:=k) (a0.le D) OI O;refine be.q Z Z Z (aE pQ jm Z a4 Z ar)<|.q Z Z Z (aq uT jm Z Z a6 (a2.trans (congrArg some (gz O))))<|.q Z Z Z ((RJ Z Z (fun _ _ q=>by cases q) (fun _ q=>by cases q) (Th ((l1.getD k .zero)) ((l2.getD k .zero)))).trans (congrArg (fun z=>some (Value.bool z,[])) (decide_not (p:=(l1.getD k .zero)=(l2.getD k .zero))).symm))<|.done<|ad _ _<|.if rfl (fun ay=>?_) (fun ay=>?_)
  ·refine an.seq fun _ ag=>.region<|.q Z (ae Z)<|.nil<|ag _ _<|.rt (by exact aK Z (⟨by (rw [decide_eq_false (wT (i:=k) ‹_›)];rfl),Z⟩))
  refine an.skip<|ab _ _<|.region<|.q Z (bz (b:=1) Z Z O)<|.q Z (ah Z)<|.nil ?_;exact ⟨k + 1,kq Z Z Z Z,Z,⟨⟨by omega,hl,fun j h=>(Nat.lt_succ_iff_lt_or_eq.1 h).elim (hq j) (fun z=>by subst z;exact Decidable.not_not.1 ‹_›)⟩,Z⟩,O1⟩
 refine an.exit<|a7 _ _<|.seq fun _ ai=>.region<|.q Z (ae Z)<|.nil<|ai _ _<|.rt (by exact aK Z (⟨by (rw [decide_eq_true (oG hl O hq)];rfl),Z⟩))

theorem KS (v1 v2:Value) (l1 l2:List (List UInt8)) (A:AH) (hn:l1.length<=9223372036854775807) (V:bH A 1 v1 (du l1)) (a0:bH A 1 v2 (du l2)):bF Tryz.prog 56 #[v1,v2] A (fun v A1=>v=.bool (decide (l1=l2))/\A=A1):=by
 refine jE Tryz.call56 Tryz.func56 Z Tryz.results56 Tryz.ntmps56 Z (fun wf=>?_);have D:=AH.le.refl A;refine an.seq fun _ h2=>.region<|.q Z (ae Z)<|.nil<|h2 _ _<|.seq fun _ h4=>.seq fun _ h6=>.region<|.q Z (ah Z)<|.q Z (bE (n:=l1.length) kU Z (V.le D) O (dG _)) ?_;refine Ops.q Z (ah Z)<|.q Z (bE (n:=l2.length) kU Z (a0.le D) O (dG _))<|.q Z (eI Z Z)<|.nil<|h6 _ _<|.if rfl (fun p7=>?_) (fun p7=>?_)
 ·refine an.seq fun _ h9=>.region<|.q Z (ae Z)<|.nil<|h9 _ _<|.rt (by exact aK Z (⟨by (rw [decide_eq_false (fun q=>by have:=congrArg List.length q;omega)];rfl),Z⟩))
 refine an.skip<|h4 _ _<|.seq fun _ a7=>.seq fun _ a8=>.region<|.q Z (ah Z)<|.q Z (bE (n:=l1.length) kU Z (V.le D) O (dG _))<|.q Z (ah Z)<|.nil<|a8 _ _ ?_;refine an.block<|.loop (X:=Nat) (fun k=>[(0,v1),(1,v2),(12,num ((l1.length:Nat):Int)),(13,num ((k:Nat):Int))]) (fun k B=>(k<=l1.length/\l1.length=l2.length/\∀ j,j < k->l1.getD j []=l2.getD j [])/\A=B) (fun k=>l1.length - k) 0 (kq Z Z Z Z) (⟨⟨Nat.zero_le _,by omega,fun j h=>by omega⟩,Z⟩) ?_;rintro k B15 ⟨⟨hk,hl,hq⟩,rfl⟩;refine an.seq fun _ a9=>.region<|.q Z (ca Z Z)<|.nil<|a9 _ _<|.seq fun _ aa=>.if rfl (fun av=>?_) (fun av=>?_)
 ·refine an.skip<|aa _ _<|.seq fun _ ab=>.block<|.seq fun _ ac=>.region<|.q Z (ah Z)<|.q Z (ae Z)<|.nil<|ac _ _ ?_;refine an.seq fun _ ad=>.drawn [0,1,2,3,4,5,6,7,8] mixed Y Y Z<|.q Z Z Z (ah Z)<|.q Z Z Z (ah Z) ?_;obtain ⟨aG,aP,aD,aZ,aB,aV,aS,a3,ap,a5,az,a1⟩:=bH.at (i:=k) (V.le D) Ok O;refine be.q Z Z Z (aE kU eO Z a3 Z ap)<|.q Z Z Z (ak fA Z Z a5 ((cN a1).trans (eh O)))<|.q Z Z Z (ah Z)<|.q Z Z Z (ah Z) ?_;obtain ⟨aI,aR,aF,b0,aC,aY,aT,a4,ar,a6,aA,a2⟩:=bH.at (i:=k) (a0.le D) Ok O;refine be.q Z Z Z (aE kU eO Z a4 Z ar)<|.q Z Z Z (ak fA Z Z a6 ((cN a2).trans (eh O)))<|.q Z Z Z (lm Z Z)<|.done<|ad _ _<|.if rfl (fun ay=>?_) (fun ay=>?_)
  ·refine an.seq fun _ ag=>.region<|.q Z (ae Z)<|.nil<|ag _ _<|.rt (by exact aK Z (⟨by (rw [decide_eq_false (wT (i:=k) ‹_›)];rfl),Z⟩))
  refine an.skip<|ab _ _<|.region<|.q Z (bz (b:=1) Z Z O)<|.q Z (ah Z)<|.nil ?_;exact ⟨k + 1,kq Z Z Z Z,Z,⟨⟨by omega,hl,fun j h=>(Nat.lt_succ_iff_lt_or_eq.1 h).elim (hq j) (fun z=>by subst z;exact Decidable.not_not.1 ‹_›)⟩,Z⟩,O1⟩
 refine an.exit<|a7 _ _<|.seq fun _ ai=>.region<|.q Z (ae Z)<|.nil<|ai _ _<|.rt (by exact aK Z (⟨by (rw [decide_eq_true (oG hl O hq)];rfl),Z⟩))

theorem Ou (r s:bg) (A:AH) (hn:r.proof.length<=9223372036854775807) (a4:bH A 3 r.pv (cA r.proof)) (a5:bH A 3 s.pv (cA s.proof)):bF Tryz.prog 54 #[.agg #[bi (r.left),bi (r.right),r.pv],.agg #[bi (s.left),bi (s.right),s.pv]] A (fun v A1=>v=.bool (decide (ig true r=ig true s))/\A.le A1/\A1.wf):=by
 refine jE Tryz.call54 Tryz.func54 Z Tryz.results54 Tryz.ntmps54 Z (fun wf=>?_);have a7:=AH.le.refl A;refine an.seq fun _ h2=>.region<|.l Z (fun _ _ a2 _=>dy wf rfl rfl fun A5 b4 a0=>?_);have a6:=a7.trans a0.le;refine a2 _ _<|.l Z (fun _ _ a3 _=>dy a0.wf rfl rfl fun A10 b9 h=>?_);have V:=h.le.get _ _ a0.get;have D:=a6.trans h.le;refine a3 _ _<|.q Z (ae Z)<|.nil<|h2 _ _<|.seq fun _ X=>.region<|.q Z (aj eD eO U Z)<|.q Z (ak fA Z Z V Z)<|.q Z (aj eD eO U Z)<|.q Z (ak fA Z Z h.get Z) ?_;refine Ops.q Z (mn Z Z)<|.q Z (ah Z)<|.part (t:=10) Z (fun a8=>?_) (fun a8=>?_)
 ·refine Ops.on Z Z<|.q Z (aj iI eO U Z)<|.on Z Z<|.q Z (ak fA Z Z V Z)<|.on Z Z<|.q Z (aj iI eO U Z)<|.on Z Z<|.q Z (ak fA Z Z h.get Z)<|.on Z Z<|.q Z (mn Z Z) ?_;refine Ops.q Z (aL Z Z)<|.q Z (ah Z)<|.part (t:=17) Z (fun a9=>?_) (fun a9=>?_)
  ·refine Ops.on Z Z<|.q Z (aj kH mY U Z)<|.on Z Z<|.q Z (ak pr Z Z V Z)<|.on Z Z<|.q Z (aj kH mY U Z)<|.on Z Z<|.q Z (ak pr Z Z h.get Z)<|.on Z Z<|.l Z (fun _ _ a1 _=>ax Z (KQ r.pv s.pv r.proof s.proof A10 hn (a4.le D) (a5.le D)) ?_);rintro aa A20 ⟨rfl,rfl⟩;refine a1 _ _<|.q Z (aL Z Z)<|.q Z (ae Z)<|.nil<|X _ _<|.rt (by exact aK Z (⟨by simp_all [dR,ig],D,h.wf⟩))
  refine Ops.off Z Z Z Z<|.off Z Z Z Z<|.off Z Z Z Z<|.off Z Z Z Z<|.off Z Z Z Z<|.q Z (aW Z Z)<|.q Z (ae Z)<|.nil<|X _ _<|.rt (by exact aK Z (⟨by simp_all [dR,ig],D,h.wf⟩))
 refine Ops.off Z Z Z Z<|.off Z Z Z Z<|.off Z Z Z Z<|.off Z Z Z Z<|.off Z Z Z Z<|.q Z (aW Z Z)<|.q Z (ah Z)<|.off Z Z Z Z<|.off Z Z Z Z<|.off Z Z Z Z ?_;refine Ops.off Z Z Z Z<|.off Z Z Z Z<|.q Z (aW Z Z)<|.q Z (ae Z)<|.nil<|X _ _<|.rt (by exact aK Z (⟨by simp_all [dR,ig],D,h.wf⟩))

theorem KR (v1 v2:Value) (rs ss:List bg) (A:AH) (hn:rs.length<=9223372036854775807) (hpn:∀ r ∈ rs,r.proof.length<=9223372036854775807) (a9:bH A 3 v1 (cL rs)) (ap:bH A 3 v2 (cL ss)) (ag:Proofs A rs) (ai:Proofs A ss):bF Tryz.prog 57 #[v1,v2,.func (.func 54) #[] #[]] A (fun v A1=>v=.bool (eR true rs ss)/\A.le A1/\A1.wf):=by
 refine tm Tryz.call57 Tryz.func57 Z Tryz.results57 Tryz.ntmps57 Z (fun wf=>?_);have a4:=AH.le.refl A;refine an.seq fun _ h2=>.region<|.q Z (ae Z)<|.nil<|h2 _ _<|.seq fun _ h4=>.seq fun _ h6=>.region<|.q Z (ah Z)<|.q Z (bE (n:=rs.length) la Z (a9.le a4) O (c8 _)) ?_;refine Ops.q Z (ah Z)<|.q Z (bE (n:=ss.length) la Z (ap.le a4) O (c8 _))<|.q Z (eI Z Z)<|.nil<|h6 _ _<|.if rfl (fun p7=>?_) (fun p7=>?_)
 ·refine an.seq fun _ h9=>.region<|.q Z (ae Z)<|.nil<|h9 _ _<|.rt (by exact aK Z (⟨by (rw [wb ‹_›];rfl),a4,wf⟩))
 refine an.skip<|h4 _ _<|.seq fun _ aS=>.seq fun _ aT=>.region<|.q Z (ah Z)<|.q Z (bE (n:=rs.length) la Z (a9.le a4) O (c8 _))<|.q Z (ah Z)<|.nil<|aT _ _ ?_;refine an.block<|.loop (X:=Nat) (fun k=>[(1,v2),(2,.func (.func 54) #[] #[]),(15,v1),(16,num ((rs.length:Nat):Int)),(17,num ((k:Nat):Int))]) (fun k B=>(k<=rs.length/\rs.length=ss.length/\∀ j,j < k->ig true (rs.getD j .zero)=ig true (ss.getD j .zero))/\A.le B) (fun k=>rs.length - k) 0 (pd Z Z Z Z Z) (⟨⟨Nat.zero_le _,by omega,fun j h=>by omega⟩,a4⟩) ?_;rintro k B15 ⟨⟨hk,hl,hq⟩,a0⟩;refine an.wf fun ab=>.seq fun _ aV=>.region<|.q Z (ca Z Z)<|.nil<|aV _ _<|.seq fun _ aY=>.if rfl (fun ba=>?_) (fun ba=>?_)
 ·refine an.skip<|aY _ _<|.seq fun _ aZ=>.block<|.seq fun _ b0=>.region<|.q Z (ah Z) ?_;obtain ⟨bu,bC,bp,bR,bl,bO,bL,aG,b8,aP,ar,bc⟩:=bH.at (i:=k) (a9.le a0) Oj O;refine Ops.q Z (aE la fJ Z aG Z b8)<|.q Z (aq s7 fJ Z Z aP (ar.trans (congrArg some (iu O))))<|.l Z (fun _ _ ay _=>cu ab Ij rfl fun A29 bv a1=>?_);have a7:=aX wf (Nat.le_trans a0.n a1.lo);have aD:=a0.trans a1.le;refine ay _ _<|.q Z (ae Z)<|.l Z (fun _ _ az _=>bh (cs:=[bi ((rs.getD k .zero).left),bi ((rs.getD k .zero).right),(rs.getD k .zero).pv]) (c':=[bi ((rs.getD k .zero).left),bi ((rs.getD k .zero).right),(rs.getD k .zero).pv]) a1.wf rfl rfl rfl rfl fJ a1.get (Nat.le_of_ble_eq_true rfl) (jL (ag.get O)) rfl fun A33 V=>?_);have a5:=aw aD wf a7 V.n V.keep;refine az _ _<|.nil<|b0 _ _<|.seq fun _ b1=>.region<|.q Z (ah Z)<|.q Z (ah Z) ?_;obtain ⟨bA,bD,br,bS,bm,bP,bM,aI,b9,aR,av,bd⟩:=bH.at (i:=k) (ap.le a5) Oj O;refine Ops.q Z (aE la fJ Z aI Z b9)<|.q Z (aq s7 fJ Z Z aR (av.trans (congrArg some (iu O))))<|.l Z (fun _ _ aA _=>cu V.wf Ij rfl fun A41 bB D=>?_);have a2:=ne_new V.wf V.get D.lo;have a8:=aX wf (Nat.le_trans a5.n D.lo);have b2:=D.le.get _ _ V.get;have aF:=a5.trans D.le;refine aA _ _<|.l Z (fun _ _ aB _=>bh (cs:=[bi ((ss.getD k .zero).left),bi ((ss.getD k .zero).right),(ss.getD k .zero).pv]) (c':=[bi ((ss.getD k .zero).left),bi ((ss.getD k .zero).right),(ss.getD k .zero).pv]) D.wf rfl rfl rfl rfl fJ D.get (Nat.le_of_ble_eq_true rfl) (jL (ai.get O)) rfl fun A46 a3=>?_);have b3:=a3.keep _ _ a2 b2;have a6:=aw aF wf a8 a3.n a3.keep;refine aB _ _<|.nil<|b1 _ _<|.seq fun _ b5=>.region<|.q Z (ah Z)<|.q Z (aq s7 fJ Z Z b3 Z)<|.q Z (aq s7 fJ Z Z a3.get Z)<|.l Z (fun _ _ aC _=>ng Z Z (Ou ((rs.getD k .zero)) ((ss.getD k .zero)) A46 (hpn _ (bq (d:=bg.zero) O)) ((ag.get O).le a6) ((ai.get O).le a6)) ?_);rintro bT A56 ⟨rfl,ac,ad⟩;have aa:=a6.trans ac;refine aC _ _<|.q Z (ke Z)<|.nil<|b5 _ _<|.if rfl (fun bb=>?_) (fun bb=>?_)
  ·refine an.seq fun _ b6=>.region<|.q Z (ae Z)<|.nil<|b6 _ _<|.rt (by exact aK Z (⟨by (rw [qJ (i:=k) hl O ‹_›];rfl),aa,ad⟩))
  refine an.skip<|aZ _ _<|.region<|.q Z (bz (b:=1) Z Z O)<|.q Z (ah Z)<|.nil ?_;exact ⟨k + 1,pd Z Z Z Z Z,Z,⟨⟨by omega,hl,fun j h=>(Nat.lt_succ_iff_lt_or_eq.1 h).elim (hq j) (fun z=>by subst z;exact Decidable.not_not.1 ‹_›)⟩,aa⟩,O1⟩
 refine an.exit<|aS _ _<|.seq fun _ b7=>.region<|.q Z (ae Z)<|.nil<|b7 _ _<|.rt (by exact aK Z (⟨by (rw [wd hl O hq];rfl),a0,ab⟩))

theorem Cl (g1:Int) (u1:Value) (l1:List (List UInt8)) (a1:Value) (rs:List bg) (g2:Int) (u2:Value) (l2:List (List UInt8)) (a2:Value) (ss:List bg) (A:AH) (aA:l1.length<=1000000) (aB:l2.length<=1000000) (hn:rs.length<=1000000) (hpn:∀ r ∈ rs,r.proof.length<=1000000000) (ai:bH A 1 u1 (du l1)) (ad:bH A 3 a1 (cL rs)) (ab:Proofs A rs) (ap:bH A 1 u2 (du l2)) (ag:bH A 3 a2 (cL ss)) (ac:Proofs A ss):bF Tryz.prog 18 #[.agg #[num (g1),u1,a1],.agg #[num (g2),u2,a2]] A (fun v A1=>v=.bool (decide (g1=g2) && decide (l1=l2) && eR true rs ss)/\A.le A1/\A1.wf):=by
 refine jE Tryz.call18 Tryz.func18 Z Tryz.results18 Tryz.ntmps18 Z (fun wf=>?_);have av:=AH.le.refl A;refine an.seq fun _ h2=>.region<|.l Z (fun _ _ a9 _=>dy wf rfl rfl fun A5 b4 a0=>?_);have ar:=av.trans a0.le;refine a9 _ _<|.l Z (fun _ _ aa _=>dy a0.wf rfl rfl fun A10 b9 D=>?_);have V:=D.le.get _ _ a0.get;have h:=ar.trans D.le;refine aa _ _<|.q Z (ae Z)<|.nil<|h2 _ _<|.seq fun _ a8=>.region<|.q Z (ae Z)<|.nil<|a8 _ _<|.seq fun _ X=>?_;refine an.region<|.q Z (aj fw f8 U Z)<|.q Z (aj eW c0 U Z)<|.q Z (ak eB Z Z V Z)<|.q Z (aj fw f8 U Z)<|.q Z (aj eW c0 U Z)<|.q Z (ak eB Z Z D.get Z)<|.q Z (Qk Z Z)<|.q Z (ah Z)<|.part (t:=13) Z (fun ay=>?_) (fun ay=>?_)
 ·refine Ops.on Z Z<|.q Z (aj fw f8 U Z)<|.on Z Z<|.q Z (aj e8 kS U Z)<|.on Z Z<|.q Z (ak ky Z Z V Z)<|.on Z Z<|.q Z (aj fw f8 U Z)<|.on Z Z<|.q Z (aj e8 kS U Z) ?_;refine Ops.on Z Z<|.q Z (ak ky Z Z D.get Z)<|.on Z Z<|.l Z (fun _ _ a5 _=>ax Z (KS u1 u2 l1 l2 A10 O (ai.le h) (ap.le h)) ?_);rintro aC A21 ⟨rfl,rfl⟩;refine a5 _ _<|.q Z (aL Z Z)<|.q Z (ah Z)<|.part (t:=22) Z (fun az=>?_) (fun az=>?_)
  ·refine Ops.on Z Z<|.q Z (aj dE il U Z)<|.on Z Z<|.q Z (ak iC Z Z V Z)<|.on Z Z<|.q Z (aj dE il U Z)<|.on Z Z<|.q Z (ak iC Z Z D.get Z)<|.on Z Z<|.q Z (ah Z) ?_;refine Ops.on Z Z<|.l Z (fun _ _ a6 _=>ax Z (KR a1 a2 rs ss A10 O (fun r q=>by have:=hpn r q;omega) (ad.le h) (ag.le h) (ab.le h) (ac.le h)) ?_);rintro aD A26 ⟨rfl,a3,a4⟩;have a7:=h.trans a3;refine a6 _ _<|.q Z (aL Z Z)<|.q Z (ae Z)<|.nil<|X _ _<|.rt (by exact aK Z (⟨by simp_all [dR],a7,a4⟩))
  refine Ops.off Z Z Z Z<|.off Z Z Z Z<|.off Z Z Z Z<|.off Z Z Z Z<|.off Z Z Z Z<|.off Z Z Z Z<|.q Z (aW Z Z)<|.q Z (ae Z)<|.nil<|X _ _ ?_;refine an.ret ?_;repeat first | with_reducible refine bJ ?_ | with_reducible refine bx ?_
  exact aK Z (⟨by simp_all [dR],h,D.wf⟩)
 refine Ops.off Z Z Z Z<|.off Z Z Z Z<|.off Z Z Z Z<|.off Z Z Z Z<|.off Z Z Z Z<|.off Z Z Z Z<|.off Z Z Z Z<|.q Z (aW Z Z)<|.q Z (ah Z)<|.off Z Z Z Z ?_;refine Ops.off Z Z Z Z<|.off Z Z Z Z<|.off Z Z Z Z<|.off Z Z Z Z<|.off Z Z Z Z<|.q Z (aW Z Z)<|.q Z (ae Z)<|.nil<|X _ _<|.rt (by exact aK Z (⟨by simp_all [dR],h,D.wf⟩))

theorem zE (v1 v2:Value) (rs ss:List bg) (pf:Bool) (A:AH) (hn:rs.length<=9223372036854775807) (hpn:∀ r ∈ rs,r.proof.length<=9223372036854775807) (a0:bH A 3 v1 (cL rs)) (a2:bH A 3 v2 (cL ss)) (aV:Proofs A rs) (aY:Proofs A ss):bF Tryz.prog 40 #[v1,v2,.bool (pf)] A (fun v A1=>v=.bool (eR pf rs ss)/\A.le A1/\A1.wf):=by
 refine tm Tryz.call40 Tryz.func40 Z Tryz.results40 Tryz.ntmps40 Z (fun wf=>?_);have a3:=AH.le.refl A;refine an.seq fun _ h2=>.region<|.q Z (ae Z)<|.nil<|h2 _ _<|.seq fun _ h4=>.seq fun _ h6=>.region<|.q Z (ah Z)<|.q Z (bE (n:=rs.length) la Z (a0.le a3) O (c8 _)) ?_;refine Ops.q Z (ah Z)<|.q Z (bE (n:=ss.length) la Z (a2.le a3) O (c8 _))<|.q Z (eI Z Z)<|.nil<|h6 _ _<|.if rfl (fun p7=>?_) (fun p7=>?_)
 ·refine an.seq fun _ h9=>.region<|.q Z (ae Z)<|.nil<|h9 _ _<|.rt (by exact aK Z (⟨by (rw [wb ‹_›];rfl),a3,wf⟩))
 refine an.skip<|h4 _ _<|.seq fun _ aD=>.seq fun _ aF=>.region<|.q Z (ae Z)<|.nil<|aF _ _<|.block<|.loop (X:=Nat) (fun k=>[(0,v1),(1,v2),(2,.bool (pf)),(7,num ((k:Nat):Int))]) (fun k B=>(k<=rs.length/\rs.length=ss.length/\∀ j,j < k->ig pf (rs.getD j .zero)=ig pf (ss.getD j .zero))/\A.le B) (fun k=>rs.length - k) 0 (kq Z Z Z Z) (⟨⟨Nat.zero_le _,by omega,fun j h=>by omega⟩,a3⟩) ?_;rintro k B15 ⟨⟨hk,hl,hq⟩,D⟩;refine an.wf fun V=>.seq fun _ aG=>.seq fun _ aI=>.region<|.q Z (ah Z)<|.q Z (ah Z)<|.q Z (bE (n:=rs.length) la Z (a0.le D) O (c8 _))<|.q Z (ca Z Z)<|.nil<|aI _ _ ?_;refine an.if rfl (fun b6=>?_) (fun b6=>?_)
 ·refine an.skip<|aG _ _<|.seq fun _ a4=>.block<|.seq fun _ a1=>.drawn [0,1,2,3,4,5,6,7,8,9,10,11,12,13,14,15,16,17,18,19,20,21,22,23,24,25,26,27,28,29,30,31,32,33,34,35,36,37,38,39,40] mixed Y Y Z<|.q Z Z Z (ah Z)<|.q Z Z Z (ah Z) ?_;obtain ⟨bS,c4,bD,dd,br,cX,cC,ac,aZ,av,bb,a5⟩:=bH.at (i:=k) (a0.le D) Oj O;refine be.q Z Z Z (aE la fJ Z ac Z aZ)<|.q Z Z Z (aj eD eO U Z)<|.q Z Z Z (ak fA Z Z av ((a5 0 U).trans (kR O)))<|.q Z Z Z (ah Z)<|.q Z Z Z (ah Z) ?_;obtain ⟨bT,c7,bL,di,bu,cZ,cH,ad,b0,ay,bc,a6⟩:=bH.at (i:=k) (a2.le D) Oj O;refine be.q Z Z Z (aE la fJ Z ad Z b0)<|.q Z Z Z (aj eD eO U Z)<|.q Z Z Z (ak fA Z Z ay ((a6 0 U).trans (kR O)))<|.q Z Z Z (lm Z Z)<|.q Z Z Z (ah Z)<|.part (t:=30) Z (fun b7=>?_) (fun b7=>?_)
  ·refine be.qOff Z Z Z Z Z Z<|.qOff Z Z Z Z Z Z<|.qOff Z Z Z Z Z Z<|.qOff Z Z Z Z Z Z<|.qOff Z Z Z Z Z Z<|.qOff Z Z Z Z Z Z<|.qOff Z Z Z Z Z Z<|.qOff Z Z Z Z Z Z<|.qOff Z Z Z Z Z Z<|.qOff Z Z Z Z Z Z ?_;refine be.qOff Z Z Z Z Z Z<|.q Z Z Z (aL Z Z)<|.q Z Z Z (ah Z)<|.qOff Z Z Z Z Z Z<|.qOff Z Z Z Z Z Z<|.qUnd Z Z Z Z Z<|.qUnd Z Z Z Z Z<|.qUnd Z Z Z Z Z<|.qUnd Z Z Z Z Z<|.qUnd Z Z Z Z Z ?_;refine be.qUnd Z Z Z Z Z<|.qUnd Z Z Z Z Z<|.qUnd Z Z Z Z Z<|.qUnd Z Z Z Z Z<|.qUnd Z Z Z Z Z<|.lUnd Z Z Z Z Z<|.qUnd Z Z Z Z Z<|.qOff Z Z Z Z Z Z<|.q Z Z Z (aL Z Z)<|.done ?_;refine a1 _ _<|.cond_true Z<|.seq fun _ aP=>.region<|.q Z (ae Z)<|.nil<|aP _ _<|.rt (by exact aK Z (⟨by (rw [qJ (i:=k) hl O (by simp_all [ig])];rfl),D,V⟩))
  refine be.qOn Z Z Z Z Z (ah Z)<|.qOn Z Z Z Z Z (ah Z) ?_;obtain ⟨bU,cc,bM,dj,bv,d0,cK,ag,b1,az,bd,a7⟩:=bH.at (i:=k) (a0.le D) Oj O;refine be.qOn Z Z Z Z Z (aE la fJ Z ag Z b1)<|.qOn Z Z Z Z Z (aj iI eO U Z)<|.qOn Z Z Z Z Z (ak fA Z Z az ((a7 1 U).trans (uf O)))<|.qOn Z Z Z Z Z (ah Z)<|.qOn Z Z Z Z Z (ah Z) ?_;obtain ⟨bV,ch,bO,dv,bA,d1,cP,ai,b2,aA,bl,a8⟩:=bH.at (i:=k) (a2.le D) Oj O;refine be.qOn Z Z Z Z Z (aE la fJ Z ai Z b2)<|.qOn Z Z Z Z Z (aj iI eO U Z)<|.qOn Z Z Z Z Z (ak fA Z Z aA ((a8 1 U).trans (uf O)))<|.qOn Z Z Z Z Z (lm Z Z)<|.q Z Z Z (aW Z Z)<|.q Z Z Z (ah Z)<|.part (t:=43) Z (fun b8=>?_) (fun b8=>?_)
  ·refine be.qOff Z Z Z Z Z Z<|.qOff Z Z Z Z Z Z<|.qUnd Z Z Z Z Z<|.qUnd Z Z Z Z Z<|.qUnd Z Z Z Z Z<|.qUnd Z Z Z Z Z<|.qUnd Z Z Z Z Z<|.qUnd Z Z Z Z Z<|.qUnd Z Z Z Z Z<|.qUnd Z Z Z Z Z ?_;refine be.qUnd Z Z Z Z Z<|.qUnd Z Z Z Z Z<|.lUnd Z Z Z Z Z<|.qUnd Z Z Z Z Z<|.qOff Z Z Z Z Z Z<|.q Z Z Z (aL Z Z)<|.done<|a1 _ _<|.cond_true Z<|.seq fun _ aR=>?_;refine an.region<|.q Z (ae Z)<|.nil<|aR _ _<|.rt (by exact aK Z (⟨by (rw [qJ (i:=k) hl O (by simp_all [ig])];rfl),D,V⟩))
  refine be.qOn Z Z Z Z Z (ah Z)<|.qOn Z Z Z Z Z (ah Z)<|.partB (t:=45) Z (fun b9=>?_) (fun b9=>?_)
  ·refine be.qOn Z Z Z Z Z (ah Z)<|.qOn Z Z Z Z Z (ah Z) ?_;obtain ⟨bY,ck,bP,dw,bB,d2,cS,ap,b3,aB,bm,a9⟩:=bH.at (i:=k) (a0.le D) Oj O;refine be.qOn Z Z Z Z Z (aE la fJ Z ap Z b3)<|.qOn Z Z Z Z Z (aj kH mY U Z)<|.qOn Z Z Z Z Z (ak pr Z Z aB ((a9 2 U).trans (zu O)))<|.qOn Z Z Z Z Z (ah Z)<|.qOn Z Z Z Z Z (ah Z) ?_;obtain ⟨c3,cv,bR,dz,bC,d3,cV,ar,b5,aC,bp,aa⟩:=bH.at (i:=k) (a2.le D) Oj O;refine be.qOn Z Z Z Z Z (aE la fJ Z ar Z b5)<|.qOn Z Z Z Z Z (aj kH mY U Z)<|.qOn Z Z Z Z Z (ak pr Z Z aC ((aa 2 U).trans (zu O)))<|.lOn Z Z Z Z Z (fun _ _ ab _=>ax Z (KY ((rs.getD k .zero).pv) ((ss.getD k .zero).pv) ((rs.getD k .zero).proof) ((ss.getD k .zero).proof) B15 (hpn _ (bq (d:=bg.zero) O)) ((aV.get O).le D) ((aY.get O).le D)) ?_);rintro dD A49 ⟨rfl,rfl⟩;refine ab _ _ (aU.none Y)<|.qOn Z Z Z Z Z (ke Z)<|.qOn Z Z Z Z Z (aL Z Z)<|.q Z Z Z (aW Z Z)<|.done<|a1 _ _<|.if rfl (fun ba=>?_) (fun ba=>?_)
   ·refine an.seq fun _ aS=>.region<|.q Z (ae Z)<|.nil<|aS _ _<|.rt (by exact aK Z (⟨by (rw [qJ (i:=k) hl O (by simp_all [ig])];rfl),D,V⟩))
   refine an.skip<|a4 _ _<|.region<|.q Z (ah Z)<|.q Z (bz (b:=1) Z Z O)<|.q Z (ae Z)<|.nil ?_;exact ⟨k + 1,kq Z Z Z Z,Z,⟨⟨by omega,hl,fun j h=>(Nat.lt_succ_iff_lt_or_eq.1 h).elim (hq j) (fun z=>by subst z;simp_all [ig])⟩,D⟩,O1⟩
  refine be.qOff Z Z Z Z Z Z<|.qOff Z Z Z Z Z Z<|.qOff Z Z Z Z Z Z<|.qOff Z Z Z Z Z Z<|.qOff Z Z Z Z Z Z<|.qOff Z Z Z Z Z Z<|.qOff Z Z Z Z Z Z<|.qOff Z Z Z Z Z Z<|.qOff Z Z Z Z Z Z<|.qOff Z Z Z Z Z Z ?_;refine be.lOff Z Z Z Z Z Z<|.qOff Z Z Z Z Z Z<|.qOn Z Z Z Z Z (aW Z Z)<|.q Z Z Z (aW Z Z)<|.done<|a1 _ _<|.cond_false Z<|.skip<|a4 _ _<|.region ?_;refine Ops.q Z (ah Z)<|.q Z (bz (b:=1) Z Z O)<|.q Z (ae Z)<|.nil ?_;exact ⟨k + 1,kq Z Z Z Z,Z,⟨⟨by omega,hl,fun j h=>(Nat.lt_succ_iff_lt_or_eq.1 h).elim (hq j) (fun z=>by subst z;simp_all [ig])⟩,D⟩,O1⟩
 refine an.exit<|aD _ _<|.seq fun _ aT=>.region<|.q Z (ae Z)<|.nil<|aT _ _<|.rt (by exact aK Z (⟨by (rw [wd hl O hq];rfl),D,V⟩))

theorem Om (g1:Int) (u1:Value) (l1:List (List UInt8)) (a1:Value) (rs:List bg) (g2:Int) (u2:Value) (l2:List (List UInt8)) (a2:Value) (ss:List bg) (A:AH) (ai:l1.length<=1000000) (ap:l2.length<=1000000) (hn:rs.length<=1000000) (hpn:∀ r ∈ rs,r.proof.length<=1000000000) (aA:bH A 1 u1 (du l1)) (ay:bH A 3 a1 (cL rs)) (ar:Proofs A rs) (aB:bH A 1 u2 (du l2)) (az:bH A 3 a2 (cL ss)) (av:Proofs A ss):bF Tryz.prog 19 #[.agg #[num (g1),u1,a1],.agg #[num (g2),u2,a2]] A (fun v A1=>v=.bool (decide (g1=g2) && decide (l1=l2) && eR true rs ss)/\A.le A1/\A1.wf):=by
 refine jE Tryz.call19 Tryz.func19 Z Tryz.results19 Tryz.ntmps19 Z (fun wf=>?_);have aD:=AH.le.refl A;refine an.seq fun _ h2=>.region<|.l Z (fun _ _ ad _=>dy wf rfl rfl fun A5 b4 a0=>?_);have aC:=aD.trans a0.le;refine ad _ _<|.l Z (fun _ _ ag _=>dy a0.wf rfl rfl fun A10 b9 V=>?_);have a6:=V.le.get _ _ a0.get;have X:=aC.trans V.le;refine ag _ _<|.q Z (ae Z)<|.nil<|h2 _ _<|.seq fun _ a7=>.region<|.q Z (aj fw f8 U Z)<|.q Z (aq mA f8 Z Z a6 Z)<|.q Z (aj fw f8 U Z)<|.q Z (aq mA f8 Z Z V.get Z) ?_;refine Ops.l Z (fun _ _ a8 _=>ax Z (Cm ((g1)) u1 l1 ((g2)) u2 l2 A10 ai ap (aA.le X) (aB.le X)) ?_);rintro aG A18 ⟨rfl,D,a4⟩;have ab:=D.get _ _ a6;have ac:=D.get _ _ V.get;have h:=X.trans D;refine a8 _ _<|.q Z (ah Z)<|.part (t:=10) Z (fun aF=>?_) (fun aF=>?_)
 ·refine Ops.on Z Z<|.q Z (aj dE il U Z)<|.on Z Z<|.q Z (ak iC Z Z ab Z)<|.on Z Z<|.q Z (aj dE il U Z)<|.on Z Z<|.q Z (ak iC Z Z ac Z)<|.on Z Z<|.l Z (fun _ _ a9 _=>ax Z (zE a1 a2 rs ss true A18 O (fun r q=>by have:=hpn r q;omega) (ay.le h) (az.le h) (ar.le h) (av.le h)) ?_);rintro aI A26 ⟨rfl,a3,a5⟩;have aa:=h.trans a3;refine a9 _ _<|.q Z (aL Z Z)<|.q Z (ae Z)<|.nil<|a7 _ _<|.rt (by exact aK Z (⟨by simp_all [dR],aa,a5⟩))
 refine Ops.off Z Z Z Z<|.off Z Z Z Z<|.off Z Z Z Z<|.off Z Z Z Z<|.off Z Z Z Z<|.q Z (aW Z Z)<|.q Z (ae Z)<|.nil<|a7 _ _<|.rt (by exact aK Z (⟨by simp_all [dR],h,a4⟩))
end Go.Proofs.YtjppkekmddjcfaaGreatDoor

namespace Go.Proofs.YtjppkekmddjcfaaGreatDoor
open Go Go.RowKit V
theorem V.Fresh.sep0 {A B:AH} {v u:Value} {size s2:Nat} {xs ys:List Value} (h:Fresh A B v size xs) (hu:nu A u s2 ys):bw v u:=fun c hv hc=>by
  obtain ⟨x,hx⟩:=hu.blkget hc
  have:=h.lo c hv
  rw [hx] at this;cases this
def Mn (p:List UInt8) (d:List bK):Bool:=d.all fun c=>decide (p.length + c.conj.length<=100000)
def yY (p:List UInt8) (c:bK):bK:=⟨cU (p ++ c.conj),c.rel,c.inv⟩
def nr (p:List UInt8) (d:List bK):List bK:=if Mn p d then d.map (yY p) else []
theorem Qg {p:List UInt8} {d:List bK} {i:Nat} (hi:i < d.length) (h:100000 < p.length + (d.getD i .zero).conj.length):Mn p d=false :=
  List.all_eq_false.2 ⟨_,bq (d:=.zero) hi,by simp only [decide_eq_true_eq];omega⟩
theorem Ny {p:List UInt8} {d:List bK} {i:Nat} (hi:d.length<=i) (h:∀ j,j < i->p.length + (d.getD j .zero).conj.length<=100000):Mn p d=true :=
  List.all_eq_true.2 fun c hc=>by
    obtain ⟨j,hj,rfl⟩:=List.getElem_of_mem hc
    have:=h j O
    simpa [hj] using this
theorem Bx {p:List UInt8} {d o:List bK} {i:Nat} (hi:i < d.length) (h:o=(d.take i).map (yY p)):o ++ [⟨cU (p ++ (d.getD i .zero).conj),(d.getD i .zero).rel,(d.getD i .zero).inv⟩]=(d.take (i + 1)).map (yY p):=by
  have e:d.getD i .zero=d[i]:=by simp [hi]
  rw [h,List.take_succ_eq_append_getElem hi,List.map_append,e];rfl
theorem FC {p:List UInt8} {d o:List bK} {i:Nat} (hi:d.length<=i) (h:o=(d.take i).map (yY p)) (hk:Mn p d=true):o=nr p d:=by
  rw [h,nr,if_pos hk,List.take_of_length_le hi]
theorem yX (p:List UInt8) (d:List bK):(nr p d).length<=d.length:=by unfold nr;split <;> simp
theorem JR {p:List UInt8} {d:List bK} (h:Mn p d=true):(nr p d).length=d.length:=by rw [nr,if_pos h];simp
theorem pZ (a b:List bK):dm (a ++ b)=dm a + dm b:=by simp [dm]
theorem tg (c:bK) (d:List bK):dm (c :: d)=c.conj.length + dm d:=by simp [dm]
structure Im where
  word:List UInt8
  steps:Nat
  disk:List bK
def Im.zero:Im:=⟨[],0,[]⟩
structure Mq where
  rest:List UInt8
  stack:List UInt8
  steps:Nat
  disk:List bK
  sum:Nat
abbrev vc (q:List UInt8):UInt8:=q.getD (q.length - 1) 0
abbrev Pu (q:List UInt8):List UInt8:=q.take (q.length - 1)
abbrev yN (k q:List UInt8):Prop:=0 < k.length/\vc k=vc q ^^^ 32
abbrev qM (rs:List bg) (k:List UInt8):bg:=rs.getD (cf rs k).toNat .zero
abbrev MS (rs:List bg) (k:List UInt8):List UInt8:=k.take (k.length - (qM rs k).left.length)
abbrev JS (rs:List bg) (k:List UInt8):List bK:=nr (MS rs k) (qM rs k).proof
def fits (rs:List bg) (k:List UInt8) (n:Nat) (d:List bK) (m:Nat):Prop :=
  Mn (MS rs k) (qM rs k).proof=true/\n + 1<=20000/\d.length + (qM rs k).proof.length<=100000/\m + dm (JS rs k)<=1000000
instance (rs:List bg) (k:List UInt8) (n:Nat) (d:List bK) (m:Nat):Decidable (fits rs k n d m):=by unfold fits;infer_instance
def vL (rs:List bg) (s:Mq):Option Mq :=
  if yN s.stack s.rest then some ⟨Pu s.rest,Pu s.stack,s.steps,s.disk,s.sum⟩
  else if cf rs (s.stack ++ [vc s.rest]) < 0 then some ⟨Pu s.rest,s.stack ++ [vc s.rest],s.steps,s.disk,s.sum⟩
  else if fits rs (s.stack ++ [vc s.rest]) s.steps s.disk s.sum then
    some ⟨Pu s.rest ++ (qM rs (s.stack ++ [vc s.rest])).right.reverse,MS rs (s.stack ++ [vc s.rest]),s.steps + 1,s.disk ++ JS rs (s.stack ++ [vc s.rest]),s.sum + dm (JS rs (s.stack ++ [vc s.rest]))⟩
  else none
def jg (rs:List bg):Nat->Mq->Option Mq
  | 0,_=>none
  | f + 1,s=>if s.rest=[] then some s else match vL rs s with | none=>none | some s'=>jg rs f s'
def vn:Nat:=2001000000
def start (w:List UInt8):Mq:=⟨w.reverse,[],0,[],0⟩
def mp (rs:List bg) (w:List UInt8):Option Im:=(jg rs vn (start w)).map fun s=>⟨s.stack,s.steps,s.disk⟩
section
variable {rs:List bg} {f n m:Nat} {q k:List UInt8} {d:List bK} {R:Option Mq}
theorem xD (hf:0 < f) (hq:q.length=0) (h:jg rs f ⟨q,k,n,d,m⟩=R):R=some ⟨q,k,n,d,m⟩:=by
  obtain ⟨f,rfl⟩:∃ g,f=g + 1:=⟨f - 1,by omega⟩
  rw [<- h,jg,if_pos (List.length_eq_zero_iff.1 hq)]
theorem xG (hf:0 < f) (hq:0 < q.length) (h:jg rs f ⟨q,k,n,d,m⟩=R) {s:Mq} (e:vL rs ⟨q,k,n,d,m⟩=some s):jg rs (f - 1) s=R:=by
  obtain ⟨f,rfl⟩:∃ g,f=g + 1:=⟨f - 1,by omega⟩
  rw [<- h,jg,if_neg (fun z=>by rw [show q=[] from z] at hq;exact absurd hq (by simp)),e];rfl
theorem Oa (hf:0 < f) (hq:0 < q.length) (h:jg rs f ⟨q,k,n,d,m⟩=R) (hc:yN k q):jg rs (f - 1) ⟨Pu q,Pu k,n,d,m⟩=R :=
  xG hf hq h (by rw [vL,if_pos hc])
theorem KG (hf:0 < f) (hq:0 < q.length) (h:jg rs f ⟨q,k,n,d,m⟩=R) (hc:¬ yN k q) (hr:cf rs (k ++ [vc q]) < 0):jg rs (f - 1) ⟨Pu q,k ++ [vc q],n,d,m⟩=R :=
  xG hf hq h (by rw [vL,if_neg hc,if_pos hr])
theorem KH (hf:0 < f) (hq:0 < q.length) (h:jg rs f ⟨q,k,n,d,m⟩=R) (hc:¬ yN k q) (hr:¬ cf rs (k ++ [vc q]) < 0) (hx:fits rs (k ++ [vc q]) n d m) :
    jg rs (f - 1) ⟨Pu q ++ (qM rs (k ++ [vc q])).right.reverse,MS rs (k ++ [vc q]),n + 1,d ++ JS rs (k ++ [vc q]),m + dm (JS rs (k ++ [vc q]))⟩=R :=
  xG hf hq h (by rw [vL,if_neg hc,if_neg hr,if_pos hx])
theorem KF (hf:0 < f) (hq:0 < q.length) (h:jg rs f ⟨q,k,n,d,m⟩=R) (hc:¬ yN k q) (hr:¬ cf rs (k ++ [vc q]) < 0) (hx:¬ fits rs (k ++ [vc q]) n d m):R=none:=by
  obtain ⟨f,rfl⟩:∃ g,f=g + 1:=⟨f - 1,by omega⟩
  rw [<- h,jg,if_neg (fun z=>by rw [show q=[] from z] at hq;exact absurd hq (by simp)),vL,if_neg hc,if_neg hr,if_neg hx]
theorem r0 {o:List UInt8} (h:¬ cf rs o < 0):(cf rs o).toNat < rs.length/\gx o (qM rs o).left=true/\cf rs o=((cf rs o).toNat:Nat):=by
  unfold qM
  unfold cf at h ⊢
  split at h
  · rename_i i hi
    have h1:=List.mem_range.1 (List.mem_of_find?_eq_some hi)
    have h2:=List.find?_some hi
    exact ⟨by simpa using h1,by simpa using h2,by simp⟩
  · exact absurd O h
theorem Jd {o w:List UInt8} (h:gx o w=true):w.length<=o.length:=by simp only [gx,decide_eq_true_eq] at h;exact h.1
theorem I0 {u v:List UInt8} (h:kZ u v < 0):u.length<=v.length:=by
  unfold kZ at h
  split at h
  · split at h <;> omega
  · omega
theorem Kz {g:Int} {l:List (List UInt8)} {r:bg} (h:fx g l r=true):r.right.length<=r.left.length:=by
  have:=(iR h).2.2.1
  unfold dP at this
  split at this
  · exact I0 this
  · omega
theorem rQ {g:Int} {w:List UInt8} (h:i0 g w=true):Dy w:=kN (fun q=>q (zO h))
theorem ue {g:Int} {l:List (List UInt8)} {r:bg} (hs:cw g l rs=true) (hr:r ∈ rs):r.right.length<=r.left.length/\r.left.length<=1000/\r.proof.length<=100000/\dm r.proof<=1000000/\Dy r.right/\Dy r.left:=by
  have h:=(jT hs).2.2.1 r hr
  have h2:=iR h
  have h3:je g l r.proof (r.left ++ eJ r.right)=0:=h2.2.2.2
  unfold je at h3
  split at h3
  · exact absurd h3 ‹_›
  · rename_i hc
    have:=py (jD hc).2.2
    exact ⟨Kz h,jQ h2.1,this.1,this.2,rQ h2.2.1,rQ h2.1⟩
theorem JQ {o:List UInt8} (h:¬ cf rs o < 0):qM rs o ∈ rs:=bq (r0 h).1
theorem KA {g:Int} {l:List (List UInt8)} {o:List UInt8} (hs:cw g l rs=true) (h:¬ cf rs o < 0):(cf rs o).toNat < rs.length/\(rs.getD (cf rs o).toNat .zero).left.length<=o.length/\(rs.getD (cf rs o).toNat .zero).right.length<=(rs.getD (cf rs o).toNat .zero).left.length/\(rs.getD (cf rs o).toNat .zero).left.length<=1000/\(rs.getD (cf rs o).toNat .zero).proof.length<=100000/\dm (rs.getD (cf rs o).toNat .zero).proof<=1000000/\0<=cf rs o:=by
  have h1:=r0 h
  have h2:=ue hs (JQ h)
  exact ⟨h1.1,Jd h1.2.1,h2.1,h2.2.1,h2.2.2.1,h2.2.2.2.1,by omega⟩
theorem JU (q r:List UInt8) (hq:0 < q.length):(q.take (q.length - 1) ++ r.reverse).length=q.length - 1 + r.length:=by simp
theorem JT {q k K r:List UInt8} {W n:Nat} (h:q.length + k.length<=W) (hK:K.length=k.length + 1) (hr:r.length<=n) (hn:n<=K.length) (hq:0 < q.length):(q.take (q.length - 1) ++ r.reverse).length + (K.take (K.length - n)).length<=W:=by
  rw [JU q r hq,List.length_take];omega
theorem Nu {q r:List UInt8} {n f:Nat} (hf:(20000 - n) * 100001 + q.length < f) (hn:n + 1<=20000) (hr:r.length<=1000) (hq:0 < q.length):(20000 - (n + 1)) * 100001 + (q.take (q.length - 1) ++ r.reverse).length < f - 1:=by
  rw [JU q r hq]
  obtain ⟨e,he⟩:∃ e,20000 - n=e + 1:=⟨20000 - n - 1,by omega⟩
  have h2:20000 - (n + 1)=e:=by omega
  rw [h2];rw [he,Nat.add_mul,Nat.one_mul] at hf
  generalize e * 100001=z at *
  have:z + (q.length - 1 + r.length) + 1 < f:=by
    refine Nat.lt_of_le_of_lt ?_ hf
    have:q.length - 1 + r.length + 1<=100001 + q.length:=by omega
    omega
  omega
def RO (s:Mq):Im:=⟨s.stack,s.steps,s.disk⟩
def fh (o:Option Im):Im:=o.getD .zero
theorem rA {w:List UInt8} {s:Mq} (h:jg rs vn (start w)=some s):mp rs w=some (RO s):=by rw [mp,h];rfl
theorem Gh {w:List UInt8} (h:jg rs vn (start w)=none):mp rs w=none:=by rw [mp,h];rfl
def tV (g:Int) (rs:List bg) (w:List UInt8):Option Im:=if bN g w=0/\w.length<=20000 then mp rs w else none
def rx (g:Int) (rs:List bg) (w:List UInt8):Nat:=if ¬ bN g w=0 then 4 else if (tV g rs w).isSome then 0 else 2
def Ga (g:Int) (rs:List bg) (w:List UInt8):Im:=fh (tV g rs w)
variable {g:Int} {w:List UInt8}
theorem Ql (h:¬ bN g w=0):Ga g rs w=.zero/\rx g rs w=4:=by simp [Ga,tV,rx,h,fh]
def mr (g:Int) (l:List (List UInt8)) (rs:List bg) (w:List UInt8):Im:=if cw g l rs then Ga g rs w else .zero
def j9 (g:Int) (l:List (List UInt8)) (rs:List bg) (w:List UInt8):Nat:=if cw g l rs then rx g rs w else 100
theorem QS {l:List (List UInt8)} (h:cw g l rs=false):mr g l rs w=.zero/\j9 g l rs w=100:=by simp [mr,j9,h]
theorem rF {l:List (List UInt8)} (h:cw g l rs=true):mr g l rs w=Ga g rs w/\j9 g l rs w=rx g rs w:=by simp [mr,j9,h]
theorem qz {o:Option Im} (h:(!o.isSome)=true):o=none:=by cases o <;> simp_all
theorem oe {o:Option Im} (h:(!o.isSome)=false):o=some (fh o):=by cases o <;> simp_all [fh]
end
end Go.Proofs.YtjppkekmddjcfaaGreatDoor

namespace Go.Proofs.YtjppkekmddjcfaaGreatDoor
open Go Go.RowKit V
set_option maxRecDepth 100000
theorem uR:dk Tryz.prog 37=some true:=by kernel_rfl
theorem pw:dT Tryz.prog 37 0=some (9,0):=by kernel_rfl
theorem rc:dT Tryz.prog 37 1=some (3,1):=by kernel_rfl
theorem AW:dT Tryz.prog 37 2=some (35,2):=by kernel_rfl
theorem Rq:Tryz.prog.info? 85=some Tryz.t85:=by kernel_rfl
theorem NC:da Tryz.prog 37=some [(0,1),(1,1),(2,1)]:=by kernel_rfl
theorem SG:da Tryz.prog 85=some [(0,1),(1,1),(2,1)]:=by kernel_rfl
theorem ia:dc Tryz.prog 37=some 3:=by kernel_rfl
theorem So:type_of% @Tryz.underlying37:=@Tryz.underlying37
theorem Ei:cx Tryz.prog 37=some (.agg #[.string ⟨⟨[]⟩⟩,.int .i64 0,.slice none 0 0]):=by kernel_rfl

theorem un (g:Int) (u:Value) (l:List (List UInt8)) (rv:Value) (rs:List bg) (w:List UInt8) (A:AH) (hw:w.length<=9223372036854775807) (hz:Sl l rs) (hu:bH A 1 u (du l)) (hr:bH A 3 rv (cL rs)) (hp:Proofs A rs):bF Tryz.prog 15 #[.agg #[num (g),u,rv],bi (w)] A (fun v A1=>v=.bool (cw g l rs && decide (bN g w=0) && k5 rs w)/\A.le A1/\A1.wf):=by
 refine jE Tryz.call15 Tryz.func15 Z Tryz.results15 Tryz.ntmps15 Z (fun wf=>?_);have ab:=AH.le.refl A;obtain ⟨ag,ai,a9,aa⟩:=id hz;refine an.seq fun _ h2=>.region<|.l Z (fun _ _ a8 _=>dy wf rfl rfl fun A5 b4 a0=>?_);have D:=ab.trans a0.le;refine a8 _ _<|.q Z (ae Z)<|.nil<|h2 _ _<|.seq fun _ h9=>.region<|.q Z (aq dL dx Z Z a0.get Z)<|.l Z (fun _ _ a4 _=>ax Z (Cg ((g)) u l rv rs A5 hz (hu.le D) (hr.le D) (hp.le D)) ?_);rintro ap A12 ⟨rfl,V,X⟩;have a3:=V.get _ _ a0.get;have h:=D.trans V;refine a4 _ _<|.q Z (kb (b:=0) Z Z)<|.q Z (ah Z)<|.part (t:=8) Z (fun ac=>?_) (fun ac=>?_)
 ·refine Ops.on Z Z<|.q Z (ah Z)<|.on Z Z<|.q Z (aj fw f8 U Z)<|.on Z Z<|.q Z (aj eW c0 U Z)<|.on Z Z<|.q Z (ak eB Z Z a3 Z)<|.on Z Z<|.l Z (fun _ _ a5 _=>ax Z (mU w ((g)) A12 hw (c5 (jT (D6 ‹_›)).1).1) ?_);rintro ar A19 ⟨rfl,rfl⟩;refine a5 _ _<|.q Z (aL Z Z)<|.q Z (ah Z)<|.part (t:=15) Z (fun ad=>?_) (fun ad=>?_)
  ·refine Ops.on Z Z<|.q Z (aq dL dx Z Z a3 Z)<|.on Z Z<|.q Z (ah Z)<|.on Z Z<|.l Z (fun _ _ a6 _=>ax Z (xL ((g)) u l rv rs w A12 a9 (fun r q=>by have:=aa r q;omega) (by have:=fG ‹bN g w=0›;omega) (hu.le h) (hr.le h)) ?_);rintro av A24 ⟨rfl,a1,a2⟩;have a7:=h.trans a1;refine a6 _ _<|.q Z (aL Z Z)<|.q Z (ae Z)<|.nil<|h9 _ _<|.rt (by exact aK Z (⟨by (rw [D6 ‹_›];simp_all [dR]),a7,a2⟩))
  refine Ops.off Z Z Z Z<|.off Z Z Z Z<|.off Z Z Z Z<|.q Z (aW Z Z)<|.q Z (ae Z)<|.nil<|h9 _ _<|.rt (by exact aK Z (⟨by (rw [D6 ‹_›];simp_all [dR]),h,X⟩))
 refine Ops.off Z Z Z Z<|.off Z Z Z Z<|.off Z Z Z Z<|.off Z Z Z Z<|.off Z Z Z Z<|.q Z (aW Z Z)<|.q Z (ah Z)<|.off Z Z Z Z<|.off Z Z Z Z<|.off Z Z Z Z ?_;refine Ops.q Z (aW Z Z)<|.q Z (ae Z)<|.nil<|h9 _ _<|.rt (by exact aK Z (⟨by (rw [LL ‹_›];simp_all [dR]),h,X⟩))

theorem xK (g:Int) (u:Value) (l:List (List UInt8)) (rv:Value) (rs:List bg) (A:AH) (hz:Sl l rs) (hu:bH A 1 u (du l)) (hr:bH A 3 rv (cL rs)) (hp:Proofs A rs):bF Tryz.prog 17 #[.agg #[num (g),u,rv]] A (fun v A1=>v=.bool (nS g l rs)/\A.le A1/\A1.wf):=by
 refine gw Tryz.call17 Tryz.func17 Z Tryz.results17 Tryz.ntmps17 Z (fun wf=>?_);have b7:=AH.le.refl A;obtain ⟨bC,bD,ag,a6⟩:=id hz;refine an.seq fun _ h2=>.region<|.l Z (fun _ _ b2 _=>dy wf rfl rfl fun A5 b4 a9=>?_);have a1:=b7.trans a9.le;refine b2 _ _<|.q Z (ae Z)<|.nil<|h2 _ _<|.seq fun _ h9=>.seq fun _ aF=>.region<|.q Z (aq dL dx Z Z a9.get Z)<|.l Z (fun _ _ ar _=>ax Z (Cg ((g)) u l rv rs A5 hz (hu.le a1) (hr.le a1) (hp.le a1)) ?_);rintro bT A14 ⟨rfl,a2,aa⟩;have aG:=a2.get _ _ a9.get;have a7:=a1.trans a2;refine ar _ _<|.q Z (eI (b:=0) Z Z)<|.nil<|aF _ _<|.if rfl (fun b8=>?_) (fun b8=>?_)
 ·refine an.seq fun _ aI=>.region<|.q Z (ae Z)<|.nil<|aI _ _<|.rt (by exact aK Z (⟨by (rw [vt (LL ‹_›)];rfl),a7,aa⟩))
 refine an.skip<|h9 _ _<|.seq fun _ aP=>.seq fun _ aR=>.region<|.q Z (ae Z)<|.nil<|aR _ _<|.block<|.loop (X:=Nat) (fun i=>[(1,.pointer (some ⟨b4,0,none⟩)),(3,num ((i:Nat):Int))]) (fun i B=>(i<=rs.length/\cw g l rs=true/\∀ j,j < i->(k5 rs (rs.getD j .zero).right && (k5 rs ((rs.getD j .zero).left.take ((rs.getD j .zero).left.length - 1)) && k5 rs ((rs.getD j .zero).left.drop 1)))=true)/\A.le B/\B.get b4=some (.row true [num (g),u,rv] 3)) (fun i=>rs.length - i) 0 (jk Z Z) (⟨⟨Nat.zero_le _,D6 (Decidable.not_not.1 ‹_›),fun j h=>by omega⟩,a7,aG⟩) ?_;rintro i B26 ⟨⟨hi,hs,hb⟩,V,D⟩;refine an.wf fun az=>?_;have hll:=fun q:i < rs.length=>a6 _ (bq (d:=.zero) q);have b3:=fun q:i < rs.length=>ks hs (bq (d:=.zero) q);refine an.seq fun _ aS=>.seq fun _ aT=>.region<|.q Z (ah Z)<|.q Z (aj dE il U Z)<|.q Z (ak iC Z Z D Z)<|.q Z (bE (n:=rs.length) la Z (hr.le V) O (c8 _))<|.q Z (ca Z Z)<|.nil<|aT _ _ ?_;refine an.if rfl (fun b9=>?_) (fun b9=>?_)
 ·refine an.skip<|aS _ _<|.seq fun _ aV=>.block<|.seq fun _ ad=>.drawn [0,1,2,3,4,5,6,7,8,9,10,11,12,13,14,15,16,17,18,19] mixed Y Y Z<|.q Z Z Z (aq dL dx Z Z D Z)<|.q Z Z Z (aj dE il U Z)<|.q Z Z Z (ak iC Z Z D Z)<|.q Z Z Z (ah Z) ?_;obtain ⟨bu,bA,bp,bR,bl,bO,bL,aA,b5,aC,bc,ai⟩:=bH.at (i:=i) (hr.le V) Oj O;refine be.q Z Z Z (aE la fJ Z aA Z b5)<|.q Z Z Z (aj iI eO U Z)<|.q Z Z Z (ak fA Z Z aC ((ai 1 U).trans (uf O)))<|.l Z Z Z (fun _ _ av _=>ax Z (xL ((g)) u l rv rs ((rs.getD i .zero).right) B26 ag (fun r q=>by have:=a6 r q;omega) (by have:=hll O;omega) (hu.le V) (hr.le V)) ?_);rintro bU A45 ⟨rfl,a3,ab⟩;have a5:=a3.get _ _ D;have a0:=V.trans a3;refine av _ _ (aU.none Y)<|.q Z Z Z (eb Z)<|.q Z Z Z (ah Z)<|.partB (t:=23) Z (fun ba=>?_) (fun ba=>?_)
  ·refine be.qOff Z Z Z Z Z Z<|.qOff Z Z Z Z Z Z<|.qOff Z Z Z Z Z Z<|.qOff Z Z Z Z Z Z<|.qOff Z Z Z Z Z Z<|.qOff Z Z Z Z Z Z<|.qOff Z Z Z Z Z Z<|.lOff Z Z Z Z Z Z<|.qOff Z Z Z Z Z Z<|.q Z Z Z (aL Z Z) ?_;refine be.done<|ad _ _<|.cond_true Z<|.seq fun _ aY=>.region<|.q Z (ae Z)<|.nil<|aY _ _<|.rt (by exact aK Z (⟨by (rw [yO (i:=i) O (by first | (rw [FG ‹(!k5 rs (rs.getD i .zero).right)=true›];rfl) | (rw [FG ‹(!(k5 rs _ && k5 rs _))=true›,Bool.and_false]))];rfl),a0,ab⟩))
  refine be.qOn Z Z Z Z Z (aq dL dx Z Z a5 Z)<|.qOn Z Z Z Z Z (aj dE il U Z)<|.qOn Z Z Z Z Z (ak iC Z Z a5 Z)<|.qOn Z Z Z Z Z (ah Z) ?_;obtain ⟨bv,bB,br,bS,bm,bP,bM,aB,b6,aD,bd,ap⟩:=bH.at (i:=i) (hr.le a0) Oj O;refine be.qOn Z Z Z Z Z (aE la fJ Z aB Z b6)<|.qOn Z Z Z Z Z (aj eD eO U Z)<|.qOn Z Z Z Z Z (ak fA Z Z aD ((ap 0 U).trans (kR O)))<|.lOn Z Z Z Z Z (fun _ _ ay _=>ax Z (Qt ((g)) u l rv rs ((rs.getD i .zero).left) A45 ag (fun r q=>by have:=a6 r q;omega) (by have:=hll O;omega) (b3 O).2.2 (hu.le a0) (hr.le a0)) ?_);rintro bV A65 ⟨rfl,a4,ac⟩;have aZ:=a4.get _ _ a5;have a8:=a0.trans a4;refine ay _ _ (aU.none Y)<|.qOn Z Z Z Z Z (eb Z)<|.q Z Z Z (aW Z Z)<|.done<|ad _ _<|.ifB Z (fun bb=>?_) (fun bb=>?_)
  ·refine an.seq fun _ b0=>.region<|.q Z (ae Z)<|.nil<|b0 _ _<|.rt (by exact aK Z (⟨by (rw [yO (i:=i) O (by first | (rw [FG ‹(!k5 rs (rs.getD i .zero).right)=true›];rfl) | (rw [FG ‹(!(k5 rs _ && k5 rs _))=true›,Bool.and_false]))];rfl),a8,ac⟩))
  refine an.skip<|aV _ _<|.region<|.q Z (ah Z)<|.q Z (bz (b:=1) Z Z O)<|.q Z (ae Z)<|.nil ?_;exact ⟨i + 1,jk Z Z,Z,⟨⟨by omega,hs,fun j h=>(Nat.lt_succ_iff_lt_or_eq.1 h).elim (hb j) (fun z=>by subst z;rw [xk ‹(!k5 rs (rs.getD j .zero).right)=false›,xk ‹(!(k5 rs _ && k5 rs _))=false›];rfl)⟩,a8,aZ⟩,O1⟩
 refine an.exit<|aP _ _<|.seq fun _ b1=>.region<|.q Z (ae Z)<|.nil<|b1 _ _<|.rt (by exact aK Z (⟨by (rw [Fh hs O hb];rfl),V,az⟩))

end Go.Proofs.YtjppkekmddjcfaaGreatDoor

namespace Go.Proofs.YtjppkekmddjcfaaGreatDoor
open Go Go.RowKit
namespace V

end V
end Go.Proofs.YtjppkekmddjcfaaGreatDoor

namespace Go.Proofs.YtjppkekmddjcfaaGreatDoor
open Go Go.RowKit
namespace V
section
variable {A B C:AH} {b:Nat} {v v':Value} {size:Nat} {xs ys:List Value}
def Rf (A0 A:AH) (Ds:List Nat):Prop:=Ds.Nodup/\∀ D ∈ Ds,A.get D=some (.obj true (.deferred (some [])))/\A0.get D=none
end
end V
end Go.Proofs.YtjppkekmddjcfaaGreatDoor

namespace Go.Proofs.YtjppkekmddjcfaaGreatDoor
open Go Go.RowKit
namespace V
def te (ops:Array Oper):Array Bool->List Nat->Nat->Nat->List Nat->List Nat->Bool
  | listed,[],i,j,C,D=>(Region.ready .any ops listed == [i,j]) && ld ops (listed.setIfInBounds i true) C && ld ops (listed.setIfInBounds j true) D && (C.length == D.length)
  | listed,q :: Cq,i,j,C,D=>match ops[q]? with
    | none=>false
    | some o=>c9 o.op && (Region.ready .any ops listed).contains q && Region.free .any ops listed q && te ops (listed.setIfInBounds q true) Cq i j C D
section
variable {P:Program} {nt:Nat} {ops:Array Oper} {Q:Exit->Fr->AH->Prop} {f:Fr} {A:AH}
def m5 (P:Program) (nt:Nat) (ops:Array Oper) (Q:Exit->Fr->AH->Prop) (listed:Array Bool) (held:List (Nat × em)) (Cq:List Nat) (i j:Nat) (C D:List Nat) (f:Fr) (A:AH):Prop :=
  te ops listed Cq i j C D=true->Region.noSelect ops=true->∀ a w,cT nt f a->cq A w->dB ops held listed w->j6 ops listed ->
    ∀ (A₀:AH) (w₀:World),ej A₀ w₀ A w->ep P ops (dC nt Q A₀ w₀) (dB ops held) (Cq.length + (C.length + 1)) listed a w
theorem m5.quiet {listed:Array Bool} {held:List (Nat × em)} {q i j:Nat} {Cq C D:List Nat} {o:Oper} {v:Value} {T:em} (ho:ops[q]? = some o) (hq:c9 o.op=true) (hd:∀ t,o.dst=some t->t < nt)
    (hv:∀ a w,cT nt f a->cq A w->eH T w/\YieldsIf P ops (eH T) o v a)
    (h:m5 P nt ops Q (listed.setIfInBounds q true) ((q,T) :: held) Cq i j C D ⟨fc f.e o.dst v,f.ds⟩ A):m5 P nt ops Q listed held (q :: Cq) i j C D f A:=by
  intro hc hn a w ha hw hh hcl A₀ w₀ hs
  simp only [te,ho,Bool.and_eq_true] at hc
  obtain ⟨⟨⟨_,c1⟩,c2⟩,c3⟩:=hc
  obtain ⟨t1,t2⟩:=hv a w ha hw
  have hr:q ∈ Region.ready .any ops listed:=by simpa using c1
  have hheld:dB ops ((q,T) :: held) listed w:=fun p hp hj=>by
    rcases List.mem_cons.1 hp with rfl | hp
    · exact t1
    · exact hh p hp hj
  have H:=h c3 hn _ w (ha.put o.dst v hd) hw ((iO ho hq _ _).2 hheld) (gr hcl hr) A₀ w₀ hs
  have free:=Region.free_spec ho c2
  have H':ep P ops (dC nt Q A₀ w₀) (dB ops ((q,T) :: held)) (Cq.length + (C.length + 1) + 1) listed a w :=
    m0 (T:=eH T) ho (Region.noSelect_spec hn) (fun c a w g=>rp _ _ c a w g)
      (fun l w' hcl' hun hS=>hS (q,T) (List.mem_cons_self ..) fun j hl ⟨oj,hoj,_⟩=>by
        cases e:kj ops q ops.size j with
        | false=>rfl
        | true =>
          have:=jp hcl' ops.size j oj hoj (hcl' j oj hoj hl) e
          rw [gR hun] at this;cases this)
      (fun l w'=>iO ho hq l w') _ listed a w hcl (fun j oj hoj hne hun hno=>free j oj hoj hne hun hno) hr t2 hheld H
  have weaken:∀ (fuel:Nat) (l:Array Bool) (a:Act) (w:World),ep P ops (dC nt Q A₀ w₀) (dB ops ((q,T) :: held)) fuel l a w->ep P ops (dC nt Q A₀ w₀) (dB ops held) fuel l a w:=by
    intro fuel
    induction fuel with
    | zero=>intro l a w h;exact h
    | succ fuel ih=>intro l a w h;exact ⟨h.1,fun j hj=>wpOp_mono (fun a' w' h'=>⟨fun p hp=>h'.1 p (List.mem_cons_of_mem _ hp),ih _ _ _ h'.2⟩) (h.2 j hj)⟩
  rw [List.length_cons,Nat.add_right_comm]
  exact weaken _ _ _ _ H'
theorem vz {listed:Array Bool} {held:List (Nat × em)} {i:Nat} {C:List Nat} {o:Oper} {a:Act} {w:World} {A₀:AH} {w₀:World} (ho:ops[i]? = some o) (hq:c9 o.op=false) (hd:∀ t,o.dst=some t->t < nt) (hwn:∀ a:Act,cT nt f a->Region.wanted o (yielded ops a.tmps)=true)
    (c2:ld ops (listed.setIfInBounds i true) C=true) (hn:Region.noSelect ops=true) (ha:cT nt f a) (hw:cq A w) (hcl:j6 ops listed) (hs:ej A₀ w₀ A w) (hr:i ∈ Region.ready .any ops listed)
    (h:∀ (K:Value->AH->Prop) (Kp:List PanicEntry->AH->Prop),
      (∀ v A',(∀ w',cq A' w'->∀ p ∈ held,kj ops p.1 ops.size i=false->eH p.2 w')->be P nt ops Q (listed.setIfInBounds i true) (held.filter fun p=>!kj ops p.1 ops.size i) C ⟨fc f.e o.dst v,f.ds⟩ A'->K v A') ->
      (∀ ch A',Q (.panic ch) ⟨[],f.ds⟩ A'->Kp ch A')->j5 P f.e A o K Kp) :
    wpOp P ops (dC nt Q A₀ w₀) i (fun a' w'=>dB ops held (listed.setIfInBounds i true) w'/\ep P ops (dC nt Q A₀ w₀) (dB ops held) C.length (listed.setIfInBounds i true) a' w') a w:=by
  have hlt:i < listed.size:=by
    have:=(mem_ready.1 hr).1
    rcases Nat.lt_or_ge i listed.size with h' | h'
    · exact h'
    · simp [Array.getElem?_eq_none h'] at this
  have hl:(listed.setIfInBounds i true).getD i false=true:=by simp [hlt]
  unfold wpOp
  simp only [ho,hwn a ha,if_true]
  left
  have:=oU (o:=o) (K:=fun v A'=>(∀ w',cq A' w'->∀ p ∈ held,kj ops p.1 ops.size i=false->eH p.2 w')/\be P nt ops Q (listed.setIfInBounds i true) (held.filter fun p=>!kj ops p.1 ops.size i) C ⟨fc f.e o.dst v,f.ds⟩ A')
    (Kp:=fun ch A'=>Q (.panic ch) ⟨[],f.ds⟩ A') ha hw (h _ _ (fun v A' g1 g2=>⟨g1,g2⟩) (fun ch A' g=>g))
  unfold Oper.wp at this ⊢
  have up:∀ r,o.upon P a (jn A a w o fun v A'=>(∀ w',cq A' w'->∀ p ∈ held,kj ops p.1 ops.size i=false->eH p.2 w')/\be P nt ops Q (listed.setIfInBounds i true) (held.filter fun p=>!kj ops p.1 ops.size i) C ⟨fc f.e o.dst v,f.ds⟩ A') (gH A a w fun ch A'=>Q (.panic ch) ⟨[],f.ds⟩ A') r ->
      o.upon P a (fun a' w'=>dB ops held (listed.setIfInBounds i true) w'/\ep P ops (dC nt Q A₀ w₀) (dB ops held) C.length (listed.setIfInBounds i true) a' w') (dC nt Q A₀ w₀) r:=by
    have next:∀ a' w',(jn A a w o fun v A'=>(∀ w',cq A' w'->∀ p ∈ held,kj ops p.1 ops.size i=false->eH p.2 w')/\be P nt ops Q (listed.setIfInBounds i true) (held.filter fun p=>!kj ops p.1 ops.size i) C ⟨fc f.e o.dst v,f.ds⟩ A') a' w' ->
        dB ops held (listed.setIfInBounds i true) w'/\ep P ops (dC nt Q A₀ w₀) (dB ops held) C.length (listed.setIfInBounds i true) a' w':=by
      rintro a' w' ⟨v,A',rfl,hv',hs',g1,g2⟩
      have hlo:V.loud ops i:=⟨o,ho,hq⟩
      have hh':dB ops held (listed.setIfInBounds i true) w':=fun p hp hj=>g1 w' hv' p hp (hj i hl hlo)
      refine ⟨hh',?_⟩
      have H:=g2 c2 hn _ w' (ha.put o.dst v hd) hv' (fun p hp hj=>hh' p (List.mem_filter.1 hp).1 hj) (gr hcl hr) A₀ w₀ (hs.trans hs')
      refine j0 (x:=i) (fun l w hx hS p hp hj=>hS p (List.mem_filter.2 ⟨hp,?_⟩) hj) _ _ _ _ hl H
      simp [hj i hx hlo]
    have pan:∀ x a' w',gH A a w (fun ch A'=>Q (.panic ch) ⟨[],f.ds⟩ A') x a' w'->dC nt Q A₀ w₀ x a' w':=by
      rintro x a' w' ⟨ch,A',rfl,rfl,hv',hs',g⟩
      exact ⟨⟨[],f.ds⟩,A',⟨ha.size,(fun _ _ q=>by cases q),ha.ds⟩,hv',hs.trans hs',g,fun _ _=>rfl⟩
    intro r hr'
    cases r with
    | ok n w' =>
      cases n <;> simp only [Oper.upon] at hr' ⊢ <;> (try exact hr'.elim)
      case value v=>exact next _ _ hr'
      case skip=>exact next _ _ hr'
      case defer d=>exact next _ _ hr'
      case enter f' args =>
        refine hr'.mono fun e w'' he=>?_
        cases e with
        | returned v=>exact next _ _ he
        | panicked ch=>exact pan _ _ _ he
        | outgrown=>obtain ⟨a₁,w₁,ch,A',q,_⟩:=he;cases q
      case row row args=>exact hr'.mono fun v w'' he=>next _ _ he
    | halt x w' =>
      cases x <;> simp only [Oper.upon] at hr' ⊢ <;> (try exact hr'.elim)
      case panic v=>exact pan _ _ _ hr'
  exact up _ this
variable {e:ga} {ds:List Deferred}
theorem m5.q {listed:Array Bool} {held:List (Nat × em)} {i j k d:Nat} {Cq C D:List Nat} {op:Op} {ty:TypeId} {ps:String} {af:Array Edge} {v:Value} {T:em} (ho:ops[k]? = some { dst:=some d,op:=op,type:=ty,pos:=ps,after:=af,guard:=none }) (hq:c9 op=true) (hd:Nat.blt d nt=true) (hv:aO P e A op=some (v,T))
    (h:m5 P nt ops Q (listed.setIfInBounds k true) ((k,T) :: held) Cq i j C D ⟨(d,v) :: e,ds⟩ A):m5 P nt ops Q listed held (k :: Cq) i j C D ⟨e,ds⟩ A :=
  m5.quiet (f:=⟨e,ds⟩) (T:=T) (v:=v) ho hq (cM (d:=some d) hd) (fun a w ha hw=>by
    have key:=fB (P:=P) (f:=(⟨e,ds⟩:Fr)) (o:={ dst:=some d,op:=op,type:=ty,pos:=ps,after:=af,guard:=none }) hv ha hw
    exact ⟨key.1,.inl ⟨by simp [Region.wanted],key.2⟩⟩) h
theorem m5.both {listed:Array Bool} {held:List (Nat × em)} {i j:Nat} {C D:List Nat} {di dj:Option Nat} {opi opj:Op} {ti tj:TypeId} {pi pj:String} {afi afj:Array Edge}
    (hoi:ops[i]? = some { dst:=di,op:=opi,type:=ti,pos:=pi,after:=afi,guard:=none }) (hoj:ops[j]? = some { dst:=dj,op:=opj,type:=tj,pos:=pj,after:=afj,guard:=none }) (hqi:c9 opi=false) (hqj:c9 opj=false) (hdi:fP nt di=true) (hdj:fP nt dj=true)
    (hi:∀ (K:Value->AH->Prop) (Kp:List PanicEntry->AH->Prop),(∀ v A',aU ops held i A'->be P nt ops Q (listed.setIfInBounds i true) (held.filter fun p=>!kj ops p.1 ops.size i) C ⟨fc e di v,ds⟩ A'->K v A') ->
      (∀ ch A',Q (.panic ch) ⟨[],ds⟩ A'->Kp ch A')->j5 P e A { dst:=di,op:=opi,type:=ti,pos:=pi,after:=afi,guard:=none } K Kp)
    (hj:∀ (K:Value->AH->Prop) (Kp:List PanicEntry->AH->Prop),(∀ v A',aU ops held j A'->be P nt ops Q (listed.setIfInBounds j true) (held.filter fun p=>!kj ops p.1 ops.size j) D ⟨fc e dj v,ds⟩ A'->K v A') ->
      (∀ ch A',Q (.panic ch) ⟨[],ds⟩ A'->Kp ch A')->j5 P e A { dst:=dj,op:=opj,type:=tj,pos:=pj,after:=afj,guard:=none } K Kp):m5 P nt ops Q listed held [] i j C D ⟨e,ds⟩ A:=by
  intro hc hn a w ha hw hh hcl A₀ w₀ hs
  simp only [te,Bool.and_eq_true,beq_iff_eq] at hc
  obtain ⟨⟨⟨c1,c2⟩,c3⟩,c4⟩:=hc
  rw [List.length_nil,Nat.zero_add]
  refine ⟨fun h0=>(by rw [c1] at h0;cases h0),fun k hk=>?_⟩
  have hk':=hk
  rw [c1] at hk'
  simp only [List.mem_cons,List.not_mem_nil,or_false] at hk'
  rcases hk' with rfl | rfl
  · exact vz (C:=C) hoi hqi (cM hdi) (fun a _=>by simp [Region.wanted]) c2 hn ha hw hcl hs hk hi
  · rw [c4];exact vz (C:=D) hoj hqj (cM hdj) (fun a _=>by simp [Region.wanted]) c3 hn ha hw hcl hs hk hj
theorem an.drawnP {id:Nat} (Cq:List Nat) (i j:Nat) (C D:List Nat) (hm:P.follows .mixedOrders=true) (hc:te ops (Array.replicate ops.size false) Cq i j C D=true) (hn:Region.noSelect ops=true) (hl:Cq.length + (C.length + 1)=ops.size)
    (h:m5 P nt ops Q (Array.replicate ops.size false) [] Cq i j C D f A):an P nt (.region id ops true) Q f A:=by
  intro a w ha hw
  obtain ⟨v1,s1⟩:=iL hw
  refine wp_mono (wp_region_any hm (jy (Q:=dC nt Q A w) (S:=dB ops []) _ _ _ _ ?_)) (fun _ _ _=>dC.q)
  have key:=h hc hn a _ ha v1 (fun p hp=>by cases hp) (fun j o _ hj=>by
    exfalso
    rcases Nat.lt_or_ge j ops.size with q | q
    · simp [q] at hj
    · simp [q] at hj) A w s1
  rw [hl] at key
  exact key
end
end V
end Go.Proofs.YtjppkekmddjcfaaGreatDoor

namespace Go.Proofs.YtjppkekmddjcfaaGreatDoor
open Go Go.RowKit
namespace V
section
variable {P:Program} {nt:Nat} {A:AH}

def jA (P:Program) (g:FuncId) (args:Array Value) (u:FrameMode) (A:AH) (Q:Ending->FrameMode->AH->Prop):Prop :=
  ∀ w,cq A w->CallsD P g args u w fun e u' w'=>∃ A',cq A' w'/\ej A w A' w'/\Q e u' A'

theorem jA.mono {g:FuncId} {args:Array Value} {u:FrameMode} {Q Q':Ending->FrameMode->AH->Prop} (h:jA P g args u A Q)
    (k:∀ e u' A',Q e u' A'->Q' e u' A'):jA P g args u A Q' :=
  fun w hw=>(h w hw).mono fun _ _ _ ⟨A',v,s,q⟩=>⟨A',v,s,k _ _ _ q⟩

def lc (P:Program) (rs:List ResultVar) (e:ga) (Q:Ending->AH->Prop):List Deferred->FrameMode->AH->Prop
  | [],.returning,A=>∃ vs,fZ P e A rs=some vs/\Q (.returned (dR vs)) A
  | [],.panicking ch,A=>Q (.panicked ch) A
  | [],.run,_=>False
  | d :: ds,u,A=>u ≠ .run/\∃ fv cap g args,d.target=.fn fv cap/\(∀ w,(invoke d.target d.args).run P w=.ok (.enter g args) w) /\
      jA P g args u A fun
        | .returned _,u',A'=>lc P rs e Q ds (settle u') A'
        | .panicked ch,u',A'=>lc P rs e Q ds (raised u' ch) A'
        | .outgrown,_,_=>False

theorem xc {fn:Func} {e:ga} {a:Act} {Q:Ending->AH->Prop} {A₀:AH} {w₀:World} (hsz:a.tmps.size=nt) (hsl:∀ t v,cr e t=some v->a.tmps.getD t undef=v/\t < nt) :
    ∀ (ds:List Deferred) (u:FrameMode) (A:AH) (w:World),cq A w->ej A₀ w₀ A w->lc P fn.results.toList e Q ds u A ->
      Leaves P fn a.tmps (fun en w'=>∃ A',cq A' w'/\ej A₀ w₀ A' w'/\Q en A') ds u w:=by
  intro ds
  induction ds with
  | nil =>
    intro u A w hv hs h
    cases u with
    | run=>exact h.elim
    | returning =>
      obtain ⟨vs,hr,hq⟩:=h
      exact ⟨_,iU (nt:=nt) (f:=⟨e,a.defers⟩) (a:=a) ⟨hsz,hsl,Z⟩ hv hr,A,hv,hs,hq⟩
    | panicking ch=>exact ⟨A,hv,hs,h⟩
  | cons d ds ih =>
    intro u A w hv hs h
    obtain ⟨hu,fv,cap,g,args,ht,hi,hc⟩:=h
    refine ⟨hu,fv,cap,g,args,ht,hi w,(hc w hv).mono ?_⟩
    rintro en u' w' ⟨A',hv',hs',hq⟩
    cases en with
    | returned v=>exact ih _ A' w' hv' (hs.trans hs') hq
    | panicked ch=>exact ih _ A' w' hv' (hs.trans hs') hq
    | outgrown=>exact hq.elim

def Aq (P:Program) (rs:List ResultVar) (Q:Ending->AH->Prop):Exit->Fr->AH->Prop
  | .normal,f,A | .ret,f,A=>lc P rs f.e Q f.ds .returning A
  | .panic ch,f,A=>lc P rs f.e Q f.ds (.panicking ch) A
  | _,_,_=>False

theorem IC {args:List Value} (hn:args.length<=nt):cT nt ⟨pX args 0,[]⟩ { tmps:=args.toArray ++ Array.replicate (nt - args.toArray.size) undef,defers:=[] }:=by
  refine ⟨by simp;omega,fun t v q=>?_,Z⟩
  obtain ⟨_,h2⟩:=s9 args 0 t v q
  simp only [Nat.sub_zero] at h2
  have hlt:t < args.length:=(List.getElem?_eq_some_iff.1 h2).1
  refine ⟨?_,by omega⟩
  simp only [Array.getD_eq_getD_getElem?]
  rw [Array.getElem?_append_left (by simpa using hlt)]
  simp [h2]

theorem fK.enterD {g:FuncId} {fn:Func} {c:Code} {args:List Value} {Qe:Ending->AH->Prop} (he:eU P g) (hf:P.funcs[g]? = some fn) (hb:fn.body=some c) (hn:args.length<=fn.ntmps)
    (h:A.wf->an P fn.ntmps c (Aq P fn.results.toList Qe) ⟨pX args 0,[]⟩ A):fK P g args.toArray A Qe:=by
  refine ⟨he,fun w hw=>calls_of_wp_defers hf hb ?_⟩
  refine wp_mono (h hw.wf _ w (IC hn) hw) ?_
  rintro x a' w' ⟨f',A',h1,h2,h3,h4,h5⟩
  cases x <;> simp only [Aq] at h4 <;> (try exact h4.elim)
  case normal=>simp only [bodyPostD];rw [h1.ds];exact xc h1.size h1.slot _ _ _ _ h2 h3 h4
  case ret=>simp only [bodyPostD];rw [h1.ds];exact xc h1.size h1.slot _ _ _ _ h2 h3 h4
  case panic ch=>simp only [bodyPostD];rw [h1.ds];exact xc h1.size h1.slot _ _ _ _ h2 h3 h4

def Ph (nt:Nat) (Q:Exit->FrameMode->Fr->AH->Prop) (A:AH) (w:World) (c₀:Frame) (cs:List Frame):Exit->Act->List Frame->World->Prop :=
  fun x a' cs' w'=>∃ u' f' A',cs'={ c₀ with mode:=u' } :: cs/\cT nt f' a'/\cq A' w'/\ej A w A' w'/\Q x u' f' A'

def pq (P:Program) (nt:Nat) (c:Code) (Q:Exit->FrameMode->Fr->AH->Prop) (u:FrameMode) (f:Fr) (A:AH):Prop :=
  ∀ a w (c₀:Frame) cs,c₀.mode=u->cT nt f a->cq A w->c.wpS P (Ph nt Q A w c₀ cs) a (c₀ :: cs) w

def qW (P:Program) (nt:Nat) (all:Array Oper) (l:List Nat) (Q:Exit->FrameMode->Fr->AH->Prop) (u:FrameMode) (f:Fr) (A:AH):Prop :=
  ∀ a w (c₀:Frame) cs,c₀.mode=u->cT nt f a->cq A w->∀ (A₀:AH) (w₀:World),ej A₀ w₀ A w->wpOpsS P all (Ph nt Q A₀ w₀ c₀ cs) l a (c₀ :: cs) w

variable {Q:Exit->FrameMode->Fr->AH->Prop} {u:FrameMode} {f:Fr} {all:Array Oper} {l:List Nat} {e:ga} {ds:List Deferred}

theorem uG {c:Code} {R R':Exit->Act->List Frame->World->Prop} {a:Act} {cs:List Frame} {w:World} (h:c.wpS P R a cs w) (k:∀ x a cs w,R x a cs w->R' x a cs w):c.wpS P R' a cs w :=
  fun b kk hb hr=>let ⟨x,a',cs',w',q,r⟩:=h b kk hb hr;⟨x,a',cs',w',k _ _ _ _ q,r⟩

theorem pq.of_run {c:Code} (h:an P nt c (fun x f A=>Q x u f A) f A):pq P nt c Q u f A:=by
  intro a w c₀ cs hu ha hw
  refine wpS_of_wp (wp_mono (h a w ha hw) ?_)
  rintro x a' w' ⟨f',A',h1,h2,h3,h4,_⟩
  exact ⟨u,f',A',by subst hu;rfl,h1,h2,h3,h4⟩

def Sc (K:FrameMode->Fr->AH->Prop) (Q:Exit->FrameMode->Fr->AH->Prop):Exit->FrameMode->Fr->AH->Prop
  | .normal,u,f,A=>K u f A
  | x,u,f,A=>Q x u f A

theorem pq.seq {x y:Code} (h:pq P nt x (Sc (fun u f A=>pq P nt y Q u f A) Q) u f A):pq P nt (x.seq y) Q u f A:=by
  intro a w c₀ cs hu ha hw
  refine wpS_seq (uG (h a w c₀ cs hu ha hw) ?_)
  rintro e a' cs' w' ⟨u',f',A',rfl,h1,h2,h3,h4⟩
  cases e with
  | normal =>
    refine uG (h4 a' w' { c₀ with mode:=u' } cs Z h1 h2) ?_
    rintro x a'' cs'' w'' ⟨u2,f2,A2,rfl,g1,g2,g3,g4⟩
    exact ⟨u2,f2,A2,Z,g1,g2,h3.trans g3,g4⟩
  | _=>exact ⟨u',f',A',Z,h1,h2,h3,h4⟩

theorem pq.region {id:Nat} {ops:Array Oper} (hl:List.range ops.size=l) (h:qW P nt ops l Q u f A):pq P nt (.region id ops false) Q u f A:=by
  intro a w c₀ cs hu ha hw
  refine wpS_region ?_
  rw [hl]
  exact h a w c₀ cs hu ha hw A w (.refl _ _)

theorem qW.nil (h:Q .normal u f A):qW P nt all [] Q u f A:=by
  intro a w c₀ cs hu ha hw A₀ w₀ hs
  exact ⟨u,f,A,by subst hu;rfl,ha,hw,hs,h⟩

theorem qW.recover {i:Nat} {o:Oper} {d:Nat} {v:Value} {older:List PanicEntry} (ho:all[i]? = some o) (hg:o.guard=none) (hd:o.dst=some d) (hdn:d < nt)
    (hr:∀ ρ w,(execOp ρ o).run P w=.ok .recover w)
    (h:qW P nt all l Q (.panicking ({ v:=v,recovered:=true } :: older)) ⟨(d,v) :: e,ds⟩ A) :
    qW P nt all (i :: l) Q (.panicking ({ v:=v,recovered:=false } :: older)) ⟨e,ds⟩ A:=by
  intro a w c₀ cs hu ha hw A₀ w₀ hs
  simp only [wpOpsS,ho]
  rw [if_pos (by simp [Region.wanted,hg]),hr]
  simp only [recoverD,hu]
  have:=h (a.put o.dst v) w { c₀ with mode:=.panicking ({ v:=v,recovered:=true } :: older) } cs Z (by have:=ha.put o.dst v (by rw [hd];rintro t ⟨⟩;exact hdn);rw [hd] at this ⊢;exact this) hw A₀ w₀ hs
  exact this

theorem qW.recoverNil {i:Nat} {o:Oper} {d:Nat} (ho:all[i]? = some o) (hg:o.guard=none) (hd:o.dst=some d) (hdn:d < nt)
    (hr:∀ ρ w,(execOp ρ o).run P w=.ok .recover w)
    (h:qW P nt all l Q .returning ⟨(d,.nilIface) :: e,ds⟩ A) :
    qW P nt all (i :: l) Q .returning ⟨e,ds⟩ A:=by
  intro a w c₀ cs hu ha hw A₀ w₀ hs
  simp only [wpOpsS,ho]
  rw [if_pos (by simp [Region.wanted,hg]),hr]
  simp only [recoverD,hu]
  have:=h (a.put o.dst .nilIface) w c₀ cs hu (by have:=ha.put o.dst .nilIface (by rw [hd];rintro t ⟨⟩;exact hdn);rw [hd] at this ⊢;exact this) hw A₀ w₀ hs
  exact this

def IQ (P:Program) (rs:List ResultVar) (R:Ending->FrameMode->AH->Prop):Exit->FrameMode->Fr->AH->Prop
  | .normal,u,f,A | .ret,u,f,A=>f.ds=[]/\∃ vs,fZ P f.e A rs=some vs/\R (.returned (dR vs)) u A
  | .panic ch,u,f,A=>f.ds=[]/\R (.panicked ch) u A
  | _,_,_,_=>False

theorem jA.enter {g:FuncId} {fn:Func} {c:Code} {args:List Value} {R:Ending->FrameMode->AH->Prop} (hf:P.funcs[g]? = some fn) (hb:fn.body=some c) (hn:args.length<=fn.ntmps)
    (h:A.wf->pq P fn.ntmps c (IQ P fn.results.toList R) u ⟨pX args 0,[]⟩ A):jA P g args.toArray u A R:=by
  intro w hw
  refine callsD_of_wpS hf hb fun c₀ cs hu=>?_
  refine uG (h hw.wf _ w c₀ cs hu (IC hn) hw) ?_
  rintro x a' cs' w' ⟨u',f',A',rfl,h1,h2,h3,h4⟩
  cases x <;> simp only [IQ] at h4 <;> (try exact h4.elim)
  case normal=>obtain ⟨q,vs,hr,hq⟩:=h4;exact ⟨h1.ds.trans q,u',Z,_,iU h1 h2 hr,A',h2,h3,hq⟩
  case ret=>obtain ⟨q,vs,hr,hq⟩:=h4;exact ⟨h1.ds.trans q,u',Z,_,iU h1 h2 hr,A',h2,h3,hq⟩
  case panic ch=>exact ⟨h1.ds.trans h4.1,u',Z,A',h2,h3,h4.2⟩
end
theorem Cb {P:Program} {t x:TypeId} {fs:Array Field} {v:Value} {w:World} (hu:P.underlying t=some (.struct fs)):(Instr.typeAssert (.iface t v) x t true).run P w=.ok (.tuple #[v,.bool true]) w:=by
  have h1:(underlying t).run P w=.ok (.struct fs) w:=by simp [underlying,go_sem,hu]
  simp [Instr.typeAssert,go_sem,h1]

section
variable {P:Program} {nt:Nat} {A:AH} {Q:Exit->Fr->AH->Prop} {all:Array Oper} {os:List Oper} {e:ga} {ds:List Deferred} {o:Oper}

theorem Ops.raise {v:Value} (hg:o.guard=none) (hr:∀ a:Act,cT nt ⟨e,ds⟩ a->∀ w,cq A w->(execOp a.eval o).run P w=.halt (.panic v) w) (h:Q (.panic [{ v:=v,recovered:=false }]) ⟨e,ds⟩ A) :
    Ops P nt all (o :: os) Q ⟨e,ds⟩ A:=by
  intro a w ha hw A₀ w₀ hs
  unfold wpList
  rw [if_pos (by simp [Region.wanted,hg])]
  left
  unfold Oper.wp
  rw [hr a ha w hw]
  exact ⟨⟨e,ds⟩,A,ha,hw,hs,h,fun _ _=>trivial⟩

theorem Ops.val {v:Value} (hg:o.guard=none) (hd:fP nt o.dst=true) (hr:∀ a:Act,cT nt ⟨e,ds⟩ a->∀ w,cq A w->(execOp a.eval o).run P w=.ok (.value v) w) (h:Ops P nt all os Q ⟨fc e o.dst v,ds⟩ A) :
    Ops P nt all (o :: os) Q ⟨e,ds⟩ A:=by
  intro a w ha hw A₀ w₀ hs
  unfold wpList
  rw [if_pos (by simp [Region.wanted,hg])]
  left
  unfold Oper.wp
  rw [hr a ha w hw]
  exact h _ w (ha.put o.dst v (cM hd)) hw A₀ w₀ hs

theorem Ops.defer {d:Deferred} (hg:o.guard=none) (hd:o.dst=none) (hr:∀ a:Act,cT nt ⟨e,ds⟩ a->∀ w,cq A w->(execOp a.eval o).run P w=.ok (.defer d) w) (h:Ops P nt all os Q ⟨e,d :: ds⟩ A) :
    Ops P nt all (o :: os) Q ⟨e,ds⟩ A:=by
  intro a w ha hw A₀ w₀ hs
  unfold wpList
  rw [if_pos (by simp [Region.wanted,hg])]
  left
  unfold Oper.wp
  rw [hr a ha w hw]
  simp only [Oper.upon,hd]
  exact h ({ a with defers:=d :: a.defers }:Act) w ⟨ha.size,ha.slot,by have:=ha.ds;simp only at this ⊢;rw [this]⟩ hw A₀ w₀ hs

def wr (P:Program) (g:FuncId) (args:Array Value) (A:AH) (R:Value->AH->Prop) (Rp:List PanicEntry->AH->Prop):Prop:=fK P g args A (yA R Rp)
theorem wr.ret {g:FuncId} {args:Array Value} {R:Value->AH->Prop} (h:wr P g args A R (fun _ _=>False)):bF P g args A R :=
  fK.mono h fun en A' q=>by
    cases en with
    | returned v=>exact ⟨v,Z,q⟩
    | panicked ch=>exact q.elim
    | outgrown=>exact q.elim
variable {K:Value->AH->Prop} {Kp:List PanicEntry->AH->Prop} {g:Option (Nat × Bool)} {dst:Option Nat} {ty:TypeId} {ps:String} {af:Array Edge}
theorem LY {gg:FuncId} {vs:List Value} {R:Value->AH->Prop} {Rp:List PanicEntry->AH->Prop} {aa:Array Operand} {tt:Array TypeId} (ha:i4 (bX e) aa.toList=some vs)
    (hc:wr P gg vs.toArray A R Rp) (h:∀ v A',R v A'->K v A') (hp:∀ ch A',Rp ch A'->Kp ch A'):j5 P e A { dst:=dst,op:=.call { callee:=.value (.func gg),args:=aa,argTypes:=tt },type:=ty,pos:=ps,after:=af,guard:=g } K Kp:=by
  simp only [j5,td,bX,ha]
  refine fK.mono (Q:=yA R Rp) (by unfold wr at hc;simpa using hc) fun en A' q=>?_
  cases en with
  | returned v=>exact h _ _ q
  | panicked ch=>exact hp _ _ q
  | outgrown=>exact q.elim
theorem Je {gg:FuncId} {fn:Func} {c:Code} {rs:Array ResultVar} {args:List Value} {a:Array Value} {R:Value->AH->Prop} {Rp:List PanicEntry->AH->Prop} (he:eU P gg) (hf:P.funcs[gg]? = some fn) (hb:fn.body=some c)
    (hr:fn.results=rs) (hnt:fn.ntmps=nt) (ha:args.toArray=a) (hn:Nat.ble args.length nt=true) (hE:pX args 0=e) (h:A.wf->an P nt c (iM P rs.toList (yA R Rp)) ⟨e,[]⟩ A):wr P gg a A R Rp:=by
  subst hr;subst hnt;subst ha;subst hE
  exact fK.enter he hf hb (Nat.le_of_ble_eq_true hn) h

theorem enterD {gg:FuncId} {fn:Func} {c:Code} {rs:Array ResultVar} {args:List Value} {a:Array Value} {R:Value->AH->Prop} {Rp:List PanicEntry->AH->Prop} (he:eU P gg) (hf:P.funcs[gg]? = some fn) (hb:fn.body=some c)
    (hr:fn.results=rs) (hnt:fn.ntmps=nt) (ha:args.toArray=a) (hn:Nat.ble args.length nt=true) (hE:pX args 0=e) (h:A.wf->an P nt c (Aq P rs.toList (yA R Rp)) ⟨e,[]⟩ A):wr P gg a A R Rp:=by
  subst hr;subst hnt;subst ha;subst hE
  exact fK.enterD he hf hb (Nat.le_of_ble_eq_true hn) h
end
section
variable {P:Program} {A:AH} {e:ga} {r:List ResultVar} {vs:List Value} {v:Value} {t:TypeId} {a b off cap n:Nat} {rw:Bool} {c cs:List Value}
theorem fZ.nil:fZ P e A []=some []:=rfl
theorem fZ.cell {p:Addr} (hx:cr e a=some (.pointer (some p))) (hv:jG P A t (.pointer (some p))=some v) (hr:fZ P e A r=some vs):fZ P e A (.cell a t :: r)=some (v :: vs):=by
  simp only [fZ,hx,hr,hv];rfl
theorem nX (ha:dk P t=some false) (hg:A.get b=some (.row rw c cap)) (hc:c[off]? = some v):jG P A t (.pointer (some ⟨b,off,none⟩))=some v:=by
  simp only [jG,ha];simp [AH.cell,hg,hc]
theorem nW (ha:dk P t=some true) (hs:dc P t=some n) (hg:A.get b=some (.row rw c cap)) (hc:js c off n=some cs):jG P A t (.pointer (some ⟨b,off,none⟩))=some (.agg cs.toArray):=by
  simp only [jG,ha,hs,Option.bind_some];simp [AH.cellsAt,hg,hc]
end
end V
end Go.Proofs.YtjppkekmddjcfaaGreatDoor

namespace Go.Proofs.YtjppkekmddjcfaaGreatDoor
open Go Go.RowKit
namespace V
section
variable {P:Program} {nt:Nat} {A:AH} {Q:Exit->Fr->AH->Prop} {all:Array Oper} {os:List Oper} {e:ga} {ds:List Deferred} {o:Oper} {x:Operand} {v:Value} {dst:Option Nat} {ty:TypeId} {ps:String} {af:Array Edge} {t:TypeId} {fs:Array Field}
theorem Ops.iface (hu:P.underlying t=some (.struct fs)) (hx:bX e x=some v) (hd:fP nt dst=true) (h:Ops P nt all os Q ⟨fc e dst (.iface t v),ds⟩ A) :
    Ops P nt all ({ dst:=dst,op:=.makeInterface t x,type:=ty,pos:=ps,after:=af,guard:=none } :: os) Q ⟨e,ds⟩ A :=
  Ops.val Z hd (fun a ha w hw=>by
    have h5:=cE ha hx
    simp only [execOp,h5,Instr.makeInterface,Sem.run_bind,cb hu,Result.andThen_ok];rfl) h
theorem Ops.panicI (hx:bX e x=some (.iface t v)) (h:Q (.panic [{ v:=.iface t v,recovered:=false }]) ⟨e,ds⟩ A) :
    Ops P nt all ({ dst:=dst,op:=.panic x,type:=ty,pos:=ps,after:=af,guard:=none } :: os) Q ⟨e,ds⟩ A :=
  Ops.raise Z (fun a ha w hw=>by
    have h5:=cE ha hx
    simp only [execOp,h5,Instr.panic,Sem.run_bind];rfl) h
theorem jV {K:Fr->AH->Prop} {f:Fr} {ch:List PanicEntry} (h:Q (.panic ch) f A):po K Q (.panic ch) f A:=h
theorem i6 {i:Nat} {f:Fr} {ch:List PanicEntry} (h:Q (.panic ch) f A):lH i Q (.panic ch) f A:=h
theorem ip {f:Fr} {ch:List PanicEntry} (h:Q (.panic ch) f A):xj Q (.panic ch) f A:=h
variable {rs:List ResultVar} {R:Value->AH->Prop} {Rp:List PanicEntry->AH->Prop} {vs:List Value}
theorem SM (hr:fZ P e A rs=some vs) (h:R (dR vs) A):iM P rs (yA R Rp) .ret ⟨e,[]⟩ A:=⟨rfl,vs,hr,h⟩
theorem RP (hr:fZ P e A rs=some vs) (h:R (dR vs) A):iM P rs (yA R Rp) .normal ⟨e,[]⟩ A:=⟨rfl,vs,hr,h⟩
theorem J5 {ch:List PanicEntry} (h:Rp ch A):iM P rs (yA R Rp) (.panic ch) ⟨e,[]⟩ A:=⟨rfl,h⟩
end
end V
end Go.Proofs.YtjppkekmddjcfaaGreatDoor

namespace Go.Proofs.YtjppkekmddjcfaaGreatDoor
open Go Go.RowKit V
def cI (l:List Int):List Value:=l.map fun i=>num i
theorem aH (l:List Int):(cI l).length=l.length:=by simp [cI]
theorem ee (l:List Int):(cI l).length=l.length * 1:=by simp [cI]
theorem cW {l:List Int} {i:Nat} (h:i < l.length):(cI l)[i]? = some (num (l.getD i 0)):=by simp [cI,h]
theorem dp (a b:List Int):cI a ++ cI b=cI (a ++ b):=by simp [cI]
theorem gU (a:List Int) (n:Nat) (c:Int):(cI a).set n (num c)=cI (a.set n c):=by simp [cI,List.map_set]
theorem gT (n:Nat):List.replicate n (num 0)=cI (List.replicate n 0):=by simp [cI]
def cg (l:List Bool):List Value:=l.map fun b=>.bool b
theorem bG (l:List Bool):(cg l).length=l.length:=by simp [cg]
theorem eP (l:List Bool):(cg l).length=l.length * 1:=by simp [cg]
theorem dY {l:List Bool} {i:Nat} (h:i < l.length):(cg l)[i]? = some (.bool (l.getD i false)):=by simp [cg,h]
theorem mC (a b:List Bool):cg a ++ cg b=cg (a ++ b):=by simp [cg]
theorem kn (a:List Bool) (n:Nat) (c:Bool):(cg a).set n (.bool c)=cg (a.set n c):=by simp [cg,List.map_set]
theorem m7 (n:Nat):List.replicate n (.bool false)=cg (List.replicate n false):=by simp [cg]
def rm (r:bg):UInt8:=r.left.getD (r.left.length - 1) 0
def gb (rs:List bg) (c:UInt8):List Int:=((List.range rs.length).filter fun i=>decide (rm (rs.getD i .zero)=c)).map fun (i:Nat)=>(i:Int)
def nx (A:AH) (m:Nat) (rs:List bg):Prop:=∃ rw es ck,∃ E:List (UInt8 × Value),A.get m=some (.obj rw (.map es ck))/\dh d8 es E/\∀ c,bH A 1 ((lk E c).getD (.slice none 0 0)) (cI (gb rs c))
theorem nx.le {A B:AH} {m:Nat} {rs:List bg} (h:nx A m rs) (le:A.le B):nx B m rs:=by
  obtain ⟨rw,es,ck,E,h1,h2,h3⟩:=h
  exact ⟨rw,es,ck,E,le.get _ _ h1,h2,fun c=>(h3 c).le le⟩
theorem Jq {rs:List bg} {c:UInt8} {j:Nat} (hj:j < (gb rs c).length):∃ i:Nat,(gb rs c).getD j 0=i/\i < rs.length:=by
  have h:=bq (d:=0) hj
  generalize (gb rs c).getD j 0=z at h
  simp only [gb,List.mem_map,List.mem_filter,List.mem_range] at h
  obtain ⟨i,⟨h1,h2⟩,rfl⟩:=h
  exact ⟨i,Z,h1⟩
theorem M7 {rs:List bg} {c:UInt8} {j:Nat} (hj:j < (gb rs c).length):0<=(gb rs c).getD j 0/\((gb rs c).getD j 0).toNat < rs.length/\(gb rs c).getD j 0=(((gb rs c).getD j 0).toNat:Nat):=by
  obtain ⟨i,h1,h2⟩:=Jq hj
  rw [h1];exact ⟨by omega,by simpa using h2,by simp⟩
theorem yI (rs:List bg) (c:UInt8):(gb rs c).length<=rs.length:=by
  simp only [gb,List.length_map]
  exact Nat.le_trans (List.length_filter_le _ _) (by simp)
theorem Jc {k w:List UInt8} (h:¬ (0:Int)<=(k.length:Int) - (w.length:Int)):gx k w=false:=by
  simp only [gx,decide_eq_false_iff_not];intro q;omega
theorem Jb {k w:List UInt8} (h:(0:Int)<=(k.length:Int) - (w.length:Int)):gx k w=decide (k.drop ((k.length:Int) - (w.length:Int)).toNat=w):=by
  rw [gx,show ((k.length:Int) - (w.length:Int)).toNat=k.length - w.length by omega]
  congr 1;rw [eq_iff_iff];exact ⟨fun q=>q.2,fun q=>⟨by omega,q⟩⟩
theorem EM {o w:List UInt8} (h:gx o w=true) (hw:0 < w.length):w.getD (w.length - 1) 0=o.getD (o.length - 1) 0:=by
  simp only [gx,decide_eq_true_eq] at h
  obtain ⟨h1,h2⟩:=h
  have h3:w.getD (w.length - 1) 0=(o.drop (o.length - w.length)).getD (w.length - 1) 0:=by rw [h2]
  rw [h3]
  simp only [List.getD_eq_getElem?_getD,List.getElem?_drop]
  congr 2;omega
theorem yE {p q:Nat->Bool} {l:List Nat} (h:∀ x ∈ l,q x=true->p x=true):(l.filter p).find? q=l.find? q:=by
  induction l with
  | nil=>rfl
  | cons x l ih =>
    have ih:=ih fun y hy=>h y (List.mem_cons_of_mem _ hy)
    by_cases hp:p x=true
    · rw [List.filter_cons_of_pos hp,List.find?_cons,List.find?_cons,ih]
    · have hq:q x=false:=by
        cases e:q x with
        | false=>rfl
        | true=>exact absurd (h x List.mem_cons_self e) hp
      rw [List.filter_cons_of_neg hp,ih,List.find?_cons,hq]
theorem rZ {rs:List bg} {o:List UInt8} (h0:∀ r ∈ rs,0 < r.left.length) :
    cf rs o=match (gb rs (o.getD (o.length - 1) 0)).find? (fun i=>gx o (rs.getD i.toNat .zero).left) with | some i=>i | none=>-1:=by
  unfold cf gb
  rw [List.find?_map]
  have e:((fun i:Int=>gx o (rs.getD i.toNat .zero).left) ∘ fun (i:Nat)=>(i:Int))=fun i:Nat=>gx o (rs.getD i .zero).left:=by funext i;simp
  rw [e,yE (p:=fun i=>decide (rm (rs.getD i .zero)=o.getD (o.length - 1) 0)) fun x hx hq=>by
    rw [decide_eq_true_iff]
    exact EM hq (h0 _ (bq (d:=.zero) (List.mem_range.1 hx)))]
  cases (List.range rs.length).find? fun i=>gx o (rs.getD i .zero).left <;> rfl
theorem gd {α:Type} {l:List α} {j:Nat} {d:α} (h:j < l.length):l.getD j d=l[j]:=by simp [h]
theorem Fc {rs:List bg} {o:List UInt8} {j i:Nat} (h0:∀ r ∈ rs,0 < r.left.length) (hj:j < (gb rs (o.getD (o.length - 1) 0)).length) (hi:(gb rs (o.getD (o.length - 1) 0)).getD j 0=i) (hn:∀ k,k < j->gx o (rs.getD ((gb rs (o.getD (o.length - 1) 0)).getD k 0).toNat .zero).left=false) (h:gx o (rs.getD i .zero).left=true):cf rs o=i:=by
  rw [rZ h0]
  generalize gb rs (o.getD (o.length - 1) 0)=L at *
  have hf:L.find? (fun i=>gx o (rs.getD i.toNat .zero).left)=some (i:Int):=by
    rw [List.find?_eq_some_iff_getElem]
    refine ⟨by simpa using h,j,hj,by rw [<- gd hj];exact hi,fun k hk=>?_⟩
    have:=hn k hk
    rw [gd (show k < L.length by omega)] at this
    rw [this];rfl
  rw [hf]
theorem Jp {rs:List bg} {o:List UInt8} {j:Nat} (h0:∀ r ∈ rs,0 < r.left.length) (hj:(gb rs (o.getD (o.length - 1) 0)).length<=j) (hn:∀ k,k < j->gx o (rs.getD ((gb rs (o.getD (o.length - 1) 0)).getD k 0).toNat .zero).left=false):cf rs o = -1:=by
  rw [rZ h0]
  generalize gb rs (o.getD (o.length - 1) 0)=L at *
  have hf:L.find? (fun i=>gx o (rs.getD i.toNat .zero).left)=none:=by
    rw [List.find?_eq_none]
    intro x hx
    obtain ⟨k,hk,rfl⟩:=List.getElem_of_mem hx
    have:=hn k O
    rw [gd hk] at this
    rw [this];decide
  rw [hf]
def AU (x:bg) (k:List UInt8) (n:Nat) (d:List bK) (m:Nat):Prop :=
  Mn (k.take (k.length - x.left.length)) x.proof=true/\n + 1<=20000/\d.length + x.proof.length<=100000/\m + dm (nr (k.take (k.length - x.left.length)) x.proof)<=1000000
def pre (p:List UInt8) (P:List bK) (j:Nat):List bK:=(P.take j).map (yY p)
theorem NY {p:List UInt8} {P:List bK} {j:Nat} (h:j<=P.length):(pre p P j).length=j:=by simp [pre];omega
theorem zj {p:List UInt8} {P:List bK} {j:Nat} (h:j < P.length):pre p P (j + 1)=pre p P j ++ [⟨cU (p ++ (P.getD j .zero).conj),(P.getD j .zero).rel,(P.getD j .zero).inv⟩]:=(Bx h Z).symm
theorem zh {p:List UInt8} {P:List bK} {j:Nat} (h:j < P.length):dm (pre p P (j + 1))=dm (pre p P j) + (cU (p ++ (P.getD j .zero).conj)).length:=by
  rw [zj h,pZ,tg];rfl
theorem xo {p:List UInt8} {P:List bK} {j:Nat} (hj:P.length<=j) (h:∀ i,i < j->p.length + (P.getD i .zero).conj.length<=100000):pre p P j=nr p P/\Mn p P=true:=by
  have hk:=Ny hj h
  exact ⟨FC hj Z hk,hk⟩
theorem Qj {p:List UInt8} {P:List bK} (j:Nat) (h:Mn p P=true):dm (pre p P j)<=dm (nr p P):=by
  rw [nr,if_pos h,pre,<- List.take_append_drop j P,List.map_append,pZ,List.take_append_drop]
  exact Nat.le_add_right _ _
theorem PN {x:bg} {k:List UInt8} {n m:Nat} {d:List bK} (h:20000 < n + 1):¬ AU x k n d m:=fun q=>by have:=q.2.1;omega
theorem PO {x:bg} {k:List UInt8} {n m:Nat} {d:List bK} (h:100000 < d.length + x.proof.length):¬ AU x k n d m:=fun q=>by have:=q.2.2.1;omega
theorem PQ {x:bg} {k:List UInt8} {n m j:Nat} {d:List bK} (hj:j < x.proof.length) (h:100000 < (k.take (k.length - x.left.length)).length + (x.proof.getD j .zero).conj.length):¬ AU x k n d m:=fun q=>by
  have:=q.1;rw [Qg hj h] at this;cases this
theorem PR {x:bg} {k:List UInt8} {n m j:Nat} {d:List bK} (h:1000000 < m + dm (pre (k.take (k.length - x.left.length)) x.proof j)):¬ AU x k n d m:=fun q=>by
  have:=Qj j q.1;have:=q.2.2.2;omega
theorem PT {x:bg} {k:List UInt8} {n m j:Nat} {d:List bK} (h1:¬ 20000 < n + 1) (h2:¬ 100000 < d.length + x.proof.length) (hj:x.proof.length<=j) (h:∀ i,i < j->(k.take (k.length - x.left.length)).length + (x.proof.getD i .zero).conj.length<=100000) (hm:m + dm (pre (k.take (k.length - x.left.length)) x.proof j)<=1000000):AU x k n d m:=by
  have:=xo hj h
  exact ⟨this.2,by omega,by omega,by rw [<- this.1];exact hm⟩
end Go.Proofs.YtjppkekmddjcfaaGreatDoor

namespace Go.Proofs.YtjppkekmddjcfaaGreatDoor
open Go Go.RowKit V
set_option maxRecDepth 100000
theorem jB:dk Tryz.prog 102=some false:=by kernel_rfl
theorem IG:dk Tryz.prog 143=some false:=by kernel_rfl
theorem gJ:dT Tryz.prog 145 0=some (102,0):=by kernel_rfl
theorem iA:dT Tryz.prog 147 0=some (145,0):=by kernel_rfl
theorem Dk:dT Tryz.prog 147 1=some (27,1):=by kernel_rfl
theorem wQ:dT Tryz.prog 147 2=some (143,4):=by kernel_rfl
theorem kf:dT Tryz.prog 147 3=some (102,5):=by kernel_rfl
theorem sy:dT Tryz.prog 147 4=some (3,6):=by kernel_rfl
theorem kg:dT Tryz.prog 147 5=some (37,7):=by kernel_rfl
theorem DC:da Tryz.prog 149=some []:=by kernel_rfl
theorem fC:dc Tryz.prog 102=some 1:=by kernel_rfl
theorem LN:dc Tryz.prog 143=some 1:=by kernel_rfl
theorem nf:dc Tryz.prog 145=some 1:=by kernel_rfl
theorem LS:type_of% @Tryz.underlying143:=@Tryz.underlying143
theorem zU:type_of% @Tryz.underlying149:=@Tryz.underlying149
theorem d9:type_of% @Tryz.underlying67:=@Tryz.underlying67
theorem Mi:cx Tryz.prog 149=some (.agg #[]):=by kernel_rfl
theorem Iq:cx Tryz.prog 67=some (.slice none 0 0):=by kernel_rfl

theorem OL (b:Nat) (kv x1 x2 x3 x4 x5 x6 x7 x8 x9:Value) (k w:List UInt8) (rw:Bool) (cap:Nat) (A:AH) (X:k.length<=1000000) (hw:w.length<=1000000) (hb:A.get b=some (.row rw [kv,x1,x2,x3,x4,x5,x6,x7,x8,x9] cap)) (hk:bH A 1 kv (au k)):bF Tryz.prog 179 #[.pointer (some ⟨b,0,none⟩),bi (w)] A (fun v A1=>v=.bool (gx k w)/\A=A1):=by
 refine jE Tryz.call179 Tryz.func179 Z Tryz.results179 Tryz.ntmps179 Z (fun wf=>?_);have h:=AH.le.refl A;refine an.seq fun _ h2=>.region<|.q Z (ae Z)<|.nil<|h2 _ _<|.seq fun _ h4=>.region<|.q Z (ah Z)<|.q Z (cJ Z)<|.q Z (aj gJ fC U Z) ?_;refine Ops.q Z (ak jB Z Z (h.get _ _ hb) Z)<|.q Z (bE (n:=k.length) cR Z (hk.le h) O (d4 _))<|.q Z (ah Z)<|.q Z (cF u9 Z)<|.q Z (uZ Z Z O)<|.q Z (ae Z)<|.nil<|h4 _ _<|.seq fun _ h6=>.region ?_;refine Ops.q Z (ah Z)<|.q Z (k8 Z Z)<|.q Z (ah Z)<|.part (t:=16) Z (fun p7=>?_) (fun p7=>?_)
 ·refine Ops.on Z Z<|.q Z (ah Z)<|.on Z Z<|.q Z (cJ Z)<|.on Z Z<|.q Z (aj gJ fC U Z)<|.on Z Z<|.q Z (ak jB Z Z (h.get _ _ hb) Z)<|.on Z Z<|.q Z (ah Z) ?_;refine Ops.on Z Z ?_;have D:=bH.lo (j:=(((k.length:Nat):Int) - ((w.length:Nat):Int)).toNat) (hk.le h) U Ox;rw [Nat.mul_one,pu] at D;refine Ops.q Z (zo cR jU Z (hk.le h) (iJ O) U Ox)<|.on Z Z<|.l Z (fun _ _ V _=>d5 (s:=k.drop ((((k.length:Nat):Int) - ((w.length:Nat):Int)).toNat)) Z cR u9 u5 D ?_);refine V _ _<|.on Z Z<|.q Z (ah Z)<|.on Z Z<|.q Z (mn Z Z)<|.q Z (aL Z Z)<|.q Z (ae Z)<|.nil<|h6 _ _<|.rt (by exact aK Z (⟨by (rw [Jb ‹_›];rfl),Z⟩))
 refine Ops.off Z Z Z Z<|.off Z Z Z Z<|.off Z Z Z Z<|.off Z Z Z Z<|.off Z Z Z Z<|.off Z Z Z Z<|.off Z Z Z Z<|.off Z Z Z Z<|.off Z Z Z Z<|.q Z (aW Z Z) ?_;refine Ops.q Z (ae Z)<|.nil<|h6 _ _<|.rt (by exact aK Z (⟨by (rw [Jc ‹_›];rfl),Z⟩))

theorem D5 (n:Nat) (k:List UInt8) (b:Nat) (kv x1 x2 x3 x4 x5 x6 x7 x8 x9:Value) (A0 A:AH) (a2:A0.le A) (a4:A0.wf) (hb:A.get b=some (.row true [kv,x1,x2,x3,x4,x5,x6,x7,x8,x9] 10)) (a3:A0.get b=none) (fr:Fresh A0 A kv 1 (au k)) (V:blk kv ≠ some b) (hn:0 < n/\n<=k.length/\k.length<=1000000):bF Tryz.prog 140 #[.pointer (some ⟨b,0,none⟩),num ((n:Nat):Int)] A (fun v A1=>∃ kv2,v=.tuple #[]/\A0.le A1/\A1.wf/\A1.get b=some (.row true [kv2,x1,x2,x3,x4,x5,x6,x7,x8,x9] 10)/\Fresh A0 A1 kv2 1 (au (k.take (k.length - n)))/\blk kv2 ≠ some b):=by
 refine jE Tryz.call140 Tryz.func140 Z Tryz.results140 Tryz.ntmps140 Z (fun wf=>?_);refine an.drawn [0,1,2,3,4,5,6,7,8,9,10,11,12,13,14,15] mixed Y Y Z<|.q Z Z Z (ah Z)<|.q Z Z Z (ah Z)<|.q Z Z Z (cJ Z)<|.q Z Z Z (aj gJ fC U Z)<|.q Z Z Z (ak jB Z Z hb Z)<|.q Z Z Z (ah Z)<|.q Z Z Z (cJ Z)<|.q Z Z Z (aj gJ fC U Z)<|.q Z Z Z (ak jB Z Z hb Z) ?_;refine be.q Z Z Z (bE (n:=k.length) cR Z fr.slc O (d4 _))<|.q Z Z Z (ah Z)<|.q Z Z Z (gh Z Z O) ?_;obtain ⟨b3,n3,c3,q3,m3,d3⟩:=fr.nonnil (by intro q;have:=congrArg List.length q;simp only [aN,List.length_nil] at this;omega);subst q3;rw [aN,Nat.mul_one] at m3;have D:=fr.take (k:=k.length - n) O;rw [Nat.mul_one,jr] at D;refine be.q Z Z Z (kQ cR jU Z Z O)<|.q Z Z Z (cJ Z)<|.q Z Z Z (aj gJ fC U Z)<|.l Z Z Z (fun _ _ a1 _=>bh (cs:=[.slice (some ⟨b3,0,none⟩) (k.length - n) c3]) (c':=[.slice (some ⟨b3,0,none⟩) (k.length - n) c3,x1,x2,x3,x4,x5,x6,x7,x8,x9]) wf rfl rfl rfl rfl fC hb (Nat.le_of_ble_eq_true rfl) rfl rfl fun A6 h=>?_);have a0:=D.keep h.keep V;have X:=aw a2 a4 a3 h.n h.keep;refine a1 _ _ (aU.none Y)<|.done ?_;repeat first | with_reducible refine bJ ?_ | with_reducible refine bx ?_
 repeat first | with_reducible refine eF ?_ | with_reducible refine d7 ?_ | with_reducible refine dH U ?_ | with_reducible refine dK ?_ | with_reducible refine db ?_
 exact vK (vs:=[]) Z (⟨_,Z,X,h.wf,h.get,a0,V⟩)

theorem OH (b:Nat) (kv:Value) (g:Int) (u rv:Value) (mb:Nat) (qv:Value) (x6 x7 x8 x9:Value) (rs:List bg) (k:List UInt8) (rw:Bool) (cap:Nat) (A:AH) (b8:0 < k.length/\k.length<=1000000/\rs.length<=1000000) (V:∀ r ∈ rs,0 < r.left.length/\r.left.length<=1000000) (hb:A.get b=some (.row rw [kv,num g,u,rv,.map (some mb),qv,x6,x7,x8,x9] cap)) (hk:bH A 1 kv (au k)) (hr:bH A 3 rv (cL rs)) (hI:nx A mb rs):bF Tryz.prog 141 #[.pointer (some ⟨b,0,none⟩)] A (fun v A1=>v=num (cf rs k)/\A=A1):=by
 refine gw Tryz.call141 Tryz.func141 Z Tryz.results141 Tryz.ntmps141 Z (fun wf=>?_);have D:=AH.le.refl A;obtain ⟨mrw,mes,mck,mE,az,aA,a1⟩:=hI;have a0:=fun r (q:r ∈ rs)=>(V r q).1;have hxl:=yI rs (k.getD (k.length - 1) 0);refine an.seq fun _ h2=>.region<|.q Z (ae Z)<|.nil<|h2 _ _<|.seq fun _ h4=>.seq fun _ h6=>.drawn [0,1,2,3,4,5,6,7,8,9,10,11,12,13,14,15,16,17,20,18,19] mixed Y Y Z<|.q Z Z Z (ah Z)<|.q Z Z Z (cJ Z) ?_;refine be.q Z Z Z (aj wQ LN U Z)<|.q Z Z Z (ak IG Z Z (D.get _ _ hb) Z)<|.q Z Z Z (ah Z)<|.q Z Z Z (cJ Z)<|.q Z Z Z (aj iA nf U Z)<|.q Z Z Z (aj gJ fC U Z)<|.q Z Z Z (ak jB Z Z (D.get _ _ hb) Z)<|.q Z Z Z (ah Z)<|.q Z Z Z (cJ Z)<|.q Z Z Z (aj iA nf U Z) ?_;refine be.q Z Z Z (aj gJ fC U Z)<|.q Z Z Z (ak jB Z Z (D.get _ _ hb) Z)<|.q Z Z Z (bE (n:=k.length) cR Z (hk.le D) O (d4 _))<|.q Z Z Z (gh (b:=1) Z Z O) ?_;obtain ⟨b1,b5,aY,bm,aS,bc,b9,a7,aB,aa,aI,a2⟩:=bH.at (i:=k.length - 1) (hk.le D) Ox O;refine be.q Z Z Z (aE cR jU Z a7 Z aB)<|.q Z Z Z (ak IJ Z Z aa ((cN a2).trans (fy O)))<|.q Z Z Z (ah Z)<|.l Z Z Z (fun _ _ a5 _=>oA qi Z Z LS u5 Iq az aA ?_);refine a5 _ _ (aU.none Y)<|.q Z Z Z (bE (n:=(gb rs (k.getD (k.length - 1) 0)).length) d9 Z ((a1 (k.getD (k.length - 1) 0)).le D) O (ee _))<|.done<|h6 _ _<|.block<|.loop (X:=Nat) (fun j=>[(0,.pointer (some ⟨b,0,none⟩)),(23,(lk mE (k.getD (k.length - 1) 0)).getD (.slice none 0 0)),(24,num (((gb rs (k.getD (k.length - 1) 0)).length:Nat):Int)),(25,num ((j:Nat):Int))]) (fun j B=>(j<=(gb rs (k.getD (k.length - 1) 0)).length/\∀ i,i < j->gx k (rs.getD ((gb rs (k.getD (k.length - 1) 0)).getD i 0).toNat .zero).left=false)/\A=B) (fun j=>(gb rs (k.getD (k.length - 1) 0)).length - j) 0 (kq Z Z Z Z) (⟨⟨Nat.zero_le _,fun i h=>by omega⟩,Z⟩) ?_;rintro j B14 ⟨⟨hj,hq⟩,rfl⟩;have hio:=fun q:j < (gb rs (k.getD (k.length - 1) 0)).length=>M7 q;have hlo:=fun q:j < (gb rs (k.getD (k.length - 1) 0)).length=>V _ (bq (d:=bg.zero) (hio q).2.1);refine an.seq fun _ ad=>.region<|.q Z (ca Z Z)<|.nil<|ad _ _<|.seq fun _ ag=>.if rfl (fun aF=>?_) (fun aF=>?_)
 ·refine an.skip<|ag _ _<|.seq fun _ ai=>.block<|.seq fun _ ap=>.region ?_;obtain ⟨b2,b6,aZ,bp,aT,bd,ba,a8,aC,ab,aP,a3⟩:=bH.at (i:=j) ((a1 (k.getD (k.length - 1) 0)).le D) Of O;refine Ops.q Z (aE d9 c0 Z a8 Z aC)<|.q Z (ak eB Z Z ab ((cN a3).trans (cW O)))<|.q Z (ae Z)<|.nil<|ap _ _<|.seq fun _ ar=>.drawn [0,1,2,3,4,5,6,7,8,9,10,11,12] mixed Y Y Z<|.q Z Z Z (ah Z)<|.q Z Z Z (cJ Z)<|.q Z Z Z (aj iA nf U Z) ?_;refine be.q Z Z Z (ah Z)<|.q Z Z Z (cJ Z)<|.q Z Z Z (aj Dk dx U Z)<|.q Z Z Z (aj dE il U Z)<|.q Z Z Z (ak iC Z Z (D.get _ _ hb) Z)<|.q Z Z Z (ah Z) ?_;obtain ⟨b3,b7,b0,br,aV,bl,bb,a9,aD,ac,aR,a4⟩:=bH.at (i:=((gb rs (k.getD (k.length - 1) 0)).getD j 0).toNat) (hr.le D) (by simp only [co];have:=hio O;omega) O;refine be.q Z Z Z (aE la fJ Z a9 (iJ (by have:=hio O;omega)) aD)<|.q Z Z Z (aj eD eO U Z)<|.q Z Z Z (ak fA Z Z ac ((a4 0 U).trans (kR (by have:=hio O;omega))))<|.l Z Z Z (fun _ _ a6 _=>ax Z (OL b kv (num (g)) u rv (.map (some mb)) qv x6 x7 x8 x9 k ((rs.getD (((gb rs (k.getD (k.length - 1) 0)).getD j 0).toNat) .zero).left) _ _ A O (hlo O).2 (D.get _ _ hb) (hk.le D)) ?_);rintro bu A32 ⟨rfl,rfl⟩;refine a6 _ _ (aU.none Y)<|.done<|ar _ _<|.ifB Z (fun aG=>?_) (fun aG=>?_)
  ·refine an.seq fun _ av=>.region<|.q Z (ah Z)<|.q Z (ae Z)<|.nil<|av _ _<|.rt (by exact aK Z (⟨by (rw [Fc a0 ‹_› (hio O).2.2 hq ‹_›,<- (hio O).2.2];rfl),Z⟩))
  refine an.skip<|ai _ _<|.region<|.q Z (bz (b:=1) Z Z O)<|.q Z (ah Z)<|.nil ?_;exact ⟨j + 1,kq Z Z Z Z,Z,⟨⟨by omega,fun i h=>(Nat.lt_succ_iff_lt_or_eq.1 h).elim (hq i) (fun z=>by subst z;assumption)⟩,Z⟩,O1⟩
 refine an.exit<|h4 _ _<|.seq fun _ ay=>.region<|.q Z (ae Z)<|.nil<|ay _ _<|.rt (by exact aK Z (⟨by (rw [Jp a0 O hq];rfl),Z⟩))

theorem zK (w q:List UInt8) (b:Nat) (x0 x1 x2 x3 x4 qv x6 x7 x8 x9:Value) (A0 A:AH) (aI:A0.le A) (ag:A0.wf) (hb:A.get b=some (.row true [x0,x1,x2,x3,x4,qv,x6,x7,x8,x9] 10)) (aR:A0.get b=none) (fr:Fresh A0 A qv 1 (au q)) (aP:blk qv ≠ some b) (hn:w.length + q.length<=1000000):bF Tryz.prog 139 #[.pointer (some ⟨b,0,none⟩),bi (w)] A (fun v A1=>∃ qv2,v=.tuple #[]/\A0.le A1/\A1.wf/\A1.get b=some (.row true [x0,x1,x2,x3,x4,qv2,x6,x7,x8,x9] 10)/\Fresh A0 A1 qv2 1 (au (q ++ w.reverse))/\blk qv2 ≠ some b):=by
 refine jE Tryz.call139 Tryz.func139 Z Tryz.results139 Tryz.ntmps139 Z (fun wf=>?_);refine an.seq fun _ h2=>.region<|.q Z (ah Z)<|.q Z (cF u9 Z)<|.q Z (uZ Z Z O)<|.q Z (ae Z)<|.nil<|h2 _ _<|.block<|.loop (X:=Nat × List UInt8 × Value) (fun ⟨j,o,s⟩=>[(0,.pointer (some ⟨b,0,none⟩)),(1,bi (w)),(4,num ((j:Int) - 1))]) (fun ⟨j,o,s⟩ B=>(j<=w.length/\o=q ++ (w.drop j).reverse)/\A0.le B/\Fresh A0 B s 1 (au o)/\B.get b=some (.row true [x0,x1,x2,x3,x4,s,x6,x7,x8,x9] 10)/\V.blk s ≠ some b) (fun ⟨j,o,s⟩=>j) (⟨w.length,q,qv⟩) (ao.cons Z<|ao.cons Z<|ao.cons (congrArg (fun z:Int=>some (num z)) O)<|ao.nil _) (⟨⟨Nat.le_refl _,by simp⟩,aI,fr,hb,aP⟩) ?_;rintro ⟨j,o,s⟩ B4 ⟨⟨hj,ho⟩,ad,a4,a0,a1⟩;refine an.wf fun ab=>?_;have hlo:o.length=q.length + (w.length - j):=by rw [ho];simp
 have htn:((j:Int) - 1).toNat=j - 1:=by omega
 refine an.seq fun _ h7=>.seq fun _ h9=>.region<|.q Z (ah Z)<|.q Z (k8 Z Z)<|.nil<|h9 _ _<|.if rfl (fun aS=>?_) (fun aS=>?_)
 ·refine an.skip<|h7 _ _<|.seq fun _ aF=>.block<|.drawn [0,1,2,3,4,5,6,7,8,9,10,11,12] mixed Y Y Z<|.q Z Z Z (ah Z)<|.q Z Z Z (ah Z)<|.q Z Z Z (cJ Z)<|.q Z Z Z (aj kf fC U Z) ?_;have ap:=bQ (off:=5) a0 (show _=some (s) from rfl);refine be.q Z Z Z (ak jB Z Z a0 Z)<|.q Z Z Z (ah Z)<|.q Z Z Z (ah Z)<|.q Z Z Z (lM u9 Z (iJ O) O)<|.l Z Z Z (fun _ _ av _=>aQ (c:=[d8 (w.getD ((j:Int) - 1).toNat 0)]) ab rfl (aJ cR jU z5 rfl U U rfl) fun A16 aV D=>?_);have aD:=ne_new ab a0 D.lo;have ac:=D.le.get _ _ a0;have a6:=a4.le D.le;have ar:=am D.le ap;have aA:=ad.trans D.le;refine av _ _ (aU.list (L:=[(⟨b,5,none⟩,s)]) Y (al ar bf))<|.l Z Z Z (fun _ _ ay _=>cQ (ys:=[d8 (w.getD ((j:Int) - 1).toNat 0)]) rfl rfl cR jU si z5 rfl U cR (fun _ h=>by cases h) a6.own (bZ (n:=1) D.get Z) rfl rfl (by show (_ + _) * 1<=_;simp only [aN,List.length_cons,List.length_nil];(try simp only [List.length_append,List.length_cons,List.length_nil]);omega) O3 fun A24 aY a2=>?_);rw [show ([d8 (w.getD ((j:Int) - 1).toNat 0)]:List Value)=au [w.getD ((j:Int) - 1).toNat 0] from rfl,ek] at a2;obtain ⟨a7,aB⟩:=Fresh.grow a6 aA ag a2;have aG:=a2.keep a1 ac;have a9:=a2.ne a1 D.wf ac;refine ay _ _ (aU.none Y)<|.q Z Z Z (cJ Z)<|.q Z Z Z (aj kf fC U Z) ?_;obtain ⟨aa,a8,a5,aT,_⟩:=a7.own.slice;subst aT;refine be.l Z Z Z (fun _ _ az _=>bh (cs:=[.slice aa a8 a5]) (c':=[x0,x1,x2,x3,x4,.slice aa a8 a5,x6,x7,x8,x9]) a2.wf rfl rfl rfl rfl fC aG (Nat.le_of_ble_eq_true rfl) rfl rfl fun A36 a3=>?_);have ai:=a7.keep a3.keep a9;have aC:=aw aB ag aR a3.n a3.keep;refine az _ _ (aU.none Y)<|.done<|aF _ _<|.region<|.q Z (ah Z)<|.q Z (uZ Z Z O)<|.q Z (ae Z)<|.nil ?_;exact ⟨⟨j - 1,o ++ [w.getD ((j:Int) - 1).toNat 0],.slice aa a8 a5⟩,ao.cons Z<|ao.cons Z<|ao.cons (congrArg (fun z:Int=>some (num z)) O)<|ao.nil _,Z,⟨⟨by omega,by rw [ho,htn,List.append_assoc,Ky O hj]⟩,aC,ai,a3.get,a9⟩,O1⟩
 refine an.exit ?_;repeat first | with_reducible refine bJ ?_ | with_reducible refine bx ?_
 repeat first | with_reducible refine eF ?_ | with_reducible refine d7 ?_ | with_reducible refine dH U ?_ | with_reducible refine dK ?_ | with_reducible refine db ?_
 exact vK (vs:=[]) Z (⟨_,Z,ad,ab,a0,cy a4 (congrArg au (by rw [ho,show j=0 by omega];rfl)),a1⟩)

theorem RY (zi:Int) (i:Nat) (hzi:zi=(i:Int)) (rs:List bg) (k q:List UInt8) (d:List bK) (n m:Nat) (b0:Nat) (kv:Value) (g:Int) (u rv:Value) (mb:Nat) (qv x7 dv:Value) (A0 A:AH) (bV:A0.le A) (aD:A0.wf) (hb:A.get b0=some (.row true [kv,num g,u,rv,.map (some mb),qv,num ((m:Nat):Int),x7,num ((n:Nat):Int),dv] 10)) (bb:A0.get b0=none) (frk:Fresh A0 A kv 1 (au k)) (frq:Fresh A0 A qv 1 (au q)) (frd:Fresh A0 A dv 3 (cA d)) (nk:blk kv ≠ some b0) (nq:blk qv ≠ some b0) (nd:blk dv ≠ some b0) (skq:bw kv qv) (skd:bw kv dv) (sqd:bw qv dv) (hi:i < rs.length/\rs.length<=1000000) (hx:(rs.getD i .zero).left.length<=k.length/\0 < (rs.getD i .zero).left.length/\k.length<=100000/\(rs.getD i .zero).right.length + q.length<=100000) (hd:d.length<=100000/\n<=20000/\m<=1000000/\(rs.getD i .zero).proof.length<=100000/\dm (rs.getD i .zero).proof<=1000000) (hL:gk A0) (hr:bH A0 3 rv (cL rs)) (hp:Proofs A0 rs):wr Tryz.prog 142 #[.pointer (some ⟨b0,0,none⟩),num (zi)] A (fun v A1=>∃ kv2 qv2 dv2,v=.tuple #[]/\A0.le A1/\A1.wf/\A1.get b0=some (.row true [kv2,num g,u,rv,.map (some mb),qv2,num ((m + dm (nr (k.take (k.length - (rs.getD i .zero).left.length)) (rs.getD i .zero).proof):Nat):Int),x7,num ((n + 1:Nat):Int),dv2] 10)/\Fresh A0 A1 kv2 1 (au (k.take (k.length - (rs.getD i .zero).left.length)))/\Fresh A0 A1 qv2 1 (au (q ++ (rs.getD i .zero).right.reverse))/\Fresh A0 A1 dv2 3 (cA (d ++ (nr (k.take (k.length - (rs.getD i .zero).left.length)) (rs.getD i .zero).proof)))/\blk kv2 ≠ some b0/\blk qv2 ≠ some b0/\blk dv2 ≠ some b0/\bw kv2 qv2/\bw kv2 dv2/\bw qv2 dv2/\AU (rs.getD i .zero) k n d m) (fun ch A1=>¬ AU (rs.getD i .zero) k n d m/\ch=[{ v:=.iface 149 (.agg #[]),recovered:=false }]/\A0.le A1/\A1.wf/\∃ y0 y5 y6 y7 y8 y9,A1.get b0=some (.row true [y0,num g,u,rv,.map (some mb),y5,y6,y7,y8,y9] 10)):=by
 refine Je (e:=[(0,.pointer (some ⟨b0,0,none⟩)),(1,num (zi))]) (args:=[.pointer (some ⟨b0,0,none⟩),num (zi)]) Tryz.call142 Tryz.func142 Z Tryz.results142 Tryz.ntmps142 Z Z Z (fun wf=>?_);subst hzi;refine an.seq fun _ h2=>.region<|.q Z (ah Z)<|.q Z (cJ Z)<|.q Z (aj Dk dx U Z)<|.q Z (aj dE il U Z)<|.q Z (ak iC Z Z hb Z)<|.q Z (ah Z) ?_;obtain ⟨b3,f3,h1,r3,h0,n3,k3,e3,l3,g3,fV,gQ⟩:=bH.at (i:=i) (hr.le bV) Oj O;refine Ops.q Z (aE la fJ Z e3 Z l3)<|.q Z (aq s7 fJ Z Z g3 (fV.trans (congrArg some (iu O))))<|.l Z (fun _ _ gp _=>cu wf Ij rfl fun A6 b5 ay=>?_);have ap:=ne_new wf hb ay.lo;have eA:=frk.own.ne_new wf ay.lo;have eC:=frq.own.ne_new wf ay.lo;have fM:=frd.own.ne_new wf ay.lo;have dI:=aX aD (Nat.le_trans bV.n ay.lo);have g1:=ay.le.get _ _ hb;have eL:=frk.le ay.le;have eN:=frq.le ay.le;have eQ:=frd.le ay.le;have fD:=bV.trans ay.le;refine gp _ _<|.l Z (fun _ _ fn _=>bh (cs:=[bi ((rs.getD i .zero).left),bi ((rs.getD i .zero).right),(rs.getD i .zero).pv]) (c':=[bi ((rs.getD i .zero).left),bi ((rs.getD i .zero).right),(rs.getD i .zero).pv]) ay.wf rfl rfl rfl rfl fJ ay.get (Nat.le_of_ble_eq_true rfl) (jL (hp.get hi.1)) rfl fun A17 av=>?_);have g2:=av.keep _ _ ap g1;have bA:=eL.keep av.keep eA;have bB:=eN.keep av.keep eC;have bC:=eQ.keep av.keep fM;have fE:=aw fD aD dI av.n av.keep;refine fn _ _<|.nil<|h2 _ _<|.seq fun _ g4=>.drawn [0,1,2,3,4,5,6] mixed Y Y Z<|.q Z Z Z (ah Z)<|.q Z Z Z (cJ Z)<|.q Z Z Z (aj iA nf U Z)<|.q Z Z Z (aj eD eO U Z)<|.q Z Z Z (ak fA Z Z av.get Z) ?_;refine be.q Z Z Z (cF u9 Z) ?_;have bT:=ce (bs:=[some b0,blk kv]) fE (sh bb (qS bA.lo nw));refine be.l Z Z Z (fun _ _ fo _=>ax Z (D5 (((rs.getD i .zero).left).length) k b0 kv (num (g)) u rv (.map (some mb)) qv (num ((m:Nat):Int)) x7 (num ((n:Nat):Int)) dv (A17.hide [some b0,blk kv]) A17 (cz A17 [some b0,blk kv]) (ci av.wf) g2 (cn (by simp)) (bA.hide (by simp)) nk O) ?_);rintro h3 A30 ⟨a5,rfl,aS,en,bd,aF,a8⟩;have fl:=bW (bs:=[some b0,blk kv]) av.get (o9 ap.symm (mQ eA lJ));have ex:=aS.get _ _ fl;have c4:=aF.sep bB.own (jJ nq (jd skq jI));have bD:=bB.off (jJ nq (jd skq jI)) aS;have fR:=aF.sep bC.own (jJ nd (jd skd jI));have bL:=bC.off (jJ nd (jd skd jI)) aS;have bM:=aF.base bT;have fI:=bT.trans aS;refine fo _ _ (aU.none Y)<|.done<|g4 _ _<|.seq fun _ g5=>.region<|.q Z (ah Z)<|.q Z (aj iI eO U Z)<|.q Z (ak fA Z Z ex Z) ?_;have bU:=ce (bs:=[some b0,blk qv]) fI (sh bb (qS bD.lo nw));refine Ops.l Z (fun _ _ fq _=>ax Z (zK ((rs.getD i .zero).right) q b0 a5 (num (g)) u rv (.map (some mb)) qv (num ((m:Nat):Int)) x7 (num ((n:Nat):Int)) dv (A30.hide [some b0,blk qv]) A30 (cz A30 [some b0,blk qv]) (ci en) bd (cn (by simp)) (bD.hide (by simp)) nq O) ?_);rintro h4 A46 ⟨a9,rfl,aT,ev,aV,aG,aC⟩;have fm:=bW (bs:=[some b0,blk qv]) ex (o9 ap.symm (mQ eC lJ));have g6:=aT.get _ _ fm;have fS:=aG.sep bL.own (jJ nd (jd sqd jI));have eS:=bL.off (jJ nd (jd sqd jI)) aT;have fT:=aG.sep bM.own (jJ a8 (jd (bw.symm c4) jI));have eT:=bM.off (jJ a8 (jd (bw.symm c4) jI)) aT;have eV:=aG.base bU;have fL:=bU.trans aT;refine fq _ _<|.nil<|g5 _ _<|.seq fun _ g7=>.region<|.q Z (ah Z)<|.q Z (cJ Z)<|.q Z (aj kg ia U Z)<|.q Z (aj rc c0 U Z)<|.q Z (ak eB Z Z aV Z) ?_;refine Ops.q Z (bz (b:=1) Z Z O)<|.q Z (cJ Z)<|.q Z (aj kg ia U Z)<|.q Z (aj rc c0 U Z)<|.l Z (fun _ _ fr _=>bh (cs:=[num ((n + 1:Nat):Int)]) (c':=[a5,num (g),u,rv,.map (some mb),a9,num ((m:Nat):Int),x7,num ((n + 1:Nat):Int),dv]) ev rfl rfl rfl rfl c0 aV (Nat.le_of_ble_eq_true rfl) rfl rfl fun A61 a3=>?_);have ey:=a3.keep _ _ ap.symm g6;have bO:=eS.keep a3.keep nd;have bP:=eT.keep a3.keep a8;have eX:=eV.keep a3.keep aC;have aY:=aw fL aD bb a3.n a3.keep;refine fr _ _<|.nil<|g7 _ _<|.seq fun _ g8=>.seq fun _ ez=>.drawn [0,1,2,3,4,5,6,7,8,9,10,11,12,13,14,15,16,17,18] mixed Y Y Z<|.q Z Z Z (ah Z)<|.q Z Z Z (cJ Z)<|.q Z Z Z (aj kg ia U Z)<|.q Z Z Z (aj rc c0 U Z) ?_;refine be.q Z Z Z (ak eB Z Z a3.get Z)<|.q Z Z Z (ef (b:=20000) Z Z)<|.q Z Z Z (ah Z)<|.part (t:=42) Z (fun gs=>?_) (fun gs=>?_)
 ·refine be.qOff Z Z Z Z Z Z<|.qOff Z Z Z Z Z Z<|.qOff Z Z Z Z Z Z<|.qOff Z Z Z Z Z Z<|.qOff Z Z Z Z Z Z<|.qOff Z Z Z Z Z Z<|.qOff Z Z Z Z Z Z<|.qOff Z Z Z Z Z Z<|.qOff Z Z Z Z Z Z<|.qOff Z Z Z Z Z Z ?_;refine be.qOff Z Z Z Z Z Z<|.q Z Z Z (aL Z Z)<|.done<|ez _ _<|.cond_true Z<|.region<|.q Z (dr Z (bI zU Mi DC Z))<|.iface zU Z Z<|.panicI Z ?_;(repeat first | with_reducible refine jV ?_ | with_reducible refine i6 ?_ | with_reducible refine ip ?_);exact J5 (⟨by exact PN ‹_›,Z,aY,a3.wf,_,_,_,_,_,_,a3.get⟩)
 refine be.qOn Z Z Z Z Z (ah Z)<|.qOn Z Z Z Z Z (cJ Z)<|.qOn Z Z Z Z Z (aj kg ia U Z)<|.qOn Z Z Z Z Z (aj AW mY U Z)<|.qOn Z Z Z Z Z (ak pr Z Z a3.get Z)<|.qOn Z Z Z Z Z (bE (n:=d.length) pQ Z bO.slc O (dn _))<|.qOn Z Z Z Z Z (aj kH mY U Z)<|.qOn Z Z Z Z Z (ak pr Z Z ey Z)<|.qOn Z Z Z Z Z (bE (n:=((rs.getD i .zero).proof).length) pQ Z ((hp.get hi.1).le aY) O (dn _))<|.qOn Z Z Z Z Z (bz Z Z O) ?_;refine be.qOn Z Z Z Z Z (ef (b:=100000) Z Z)<|.q Z Z Z (aW Z Z)<|.done<|ez _ _<|.if rfl (fun gA=>?_) (fun gA=>?_)
 ·refine an.region<|.q Z (dr Z (bI zU Mi DC Z))<|.iface zU Z Z<|.panicI Z ?_;(repeat first | with_reducible refine jV ?_ | with_reducible refine i6 ?_ | with_reducible refine ip ?_);exact J5 (⟨by exact PO ‹_›,Z,aY,a3.wf,_,_,_,_,_,_,a3.get⟩)
 refine an.skip<|g8 _ _<|.seq fun _ g9=>.region<|.q Z (ah Z)<|.q Z (cJ Z)<|.q Z (aj iA nf U Z)<|.q Z (aj gJ fC U Z)<|.q Z (ak jB Z Z a3.get Z)<|.l Z (fun _ _ ft _=>d5 (s:=k.take (k.length - (((rs.getD i .zero).left).length))) Z cR u9 u5 bP.slc ?_);refine ft _ _<|.q Z (ae Z)<|.nil<|g9 _ _<|.seq fun _ gc=>.region<|.q Z (aj kH mY U Z)<|.q Z (ak pr Z Z ey Z)<|.q Z (bE (n:=((rs.getD i .zero).proof).length) pQ Z ((hp.get hi.1).le aY) O (dn _))<|.q Z (ah Z) ?_;refine Ops.nil<|gc _ _<|.block<|.loop (X:=Nat × List bK × Nat × Value) (fun ⟨j,D,mm,dw⟩=>[(0,.pointer (some ⟨b0,0,none⟩)),(5,bi (k.take (k.length - (((rs.getD i .zero).left).length)))),(64,(rs.getD i .zero).pv),(65,num ((((rs.getD i .zero).proof).length:Nat):Int)),(66,num ((j:Nat):Int))]) (fun ⟨j,D,mm,dw⟩ B=>(j<=(rs.getD i .zero).proof.length/\D=d ++ pre (k.take (k.length - (rs.getD i .zero).left.length)) (rs.getD i .zero).proof j/\mm=m + dm (pre (k.take (k.length - (rs.getD i .zero).left.length)) (rs.getD i .zero).proof j)/\mm<=1000000/\∀ i2,i2 < j->(k.take (k.length - (rs.getD i .zero).left.length)).length + ((rs.getD i .zero).proof.getD i2 .zero).conj.length<=100000)/\A0.le B/\Fresh A0 B dw 3 (cA D)/\Fresh A0 B a5 1 (au (k.take (k.length - (((rs.getD i .zero).left).length))))/\Fresh A0 B a9 1 (au (q ++ ((rs.getD i .zero).right).reverse))/\B.get b0=some (.row true [a5,num (g),u,rv,.map (some mb),a9,num ((mm:Nat):Int),x7,num ((n + 1:Nat):Int),dw] 10)/\V.blk dw ≠ some b0/\V.blk a5 ≠ some b0/\V.blk a9 ≠ some b0/\bw dw a5/\bw dw a9/\bw a5 a9) (fun ⟨j,D,mm,dw⟩=>(rs.getD i .zero).proof.length - j) (⟨0,d,m,dv⟩) (pd Z Z Z Z Z) (⟨⟨Nat.zero_le _,by simp [pre],by simp [pre,dm],hd.2.2.1,fun i2 h=>by omega⟩,aY,bO,bP,eX,a3.get,nd,a8,aC,(bw.symm fR),(bw.symm fS),(bw.symm fT)⟩) ?_;rintro ⟨j,D,mm,dw⟩ B80 ⟨⟨hj,hD,hmm,hml,hq⟩,b7,aI,ad,ag,aP,ar,a0,a1,aA,aB,aZ⟩;refine an.wf fun aR=>?_;have hDl:D.length=d.length + j:=by rw [hD,List.length_append,NY hj]
 have hck:=fun z:j < (rs.getD i .zero).proof.length=>MP (bq (d:=bK.zero) z);have hpc:=fun z:j < (rs.getD i .zero).proof.length=>zh (p:=(k.take (k.length - (rs.getD i .zero).left.length))) z;have hps:=fun z:j < (rs.getD i .zero).proof.length=>zj (p:=(k.take (k.length - (rs.getD i .zero).left.length))) z;have hwr:=uy ((k.take (k.length - (rs.getD i .zero).left.length)) ++ ((rs.getD i .zero).proof.getD j .zero).conj);have hkp:(k.take (k.length - (rs.getD i .zero).left.length)).length<=k.length:=by simp
 have hla:=@List.length_append _ (k.take (k.length - (rs.getD i .zero).left.length)) ((rs.getD i .zero).proof.getD j .zero).conj;refine an.seq fun _ ge=>.region<|.q Z (ca Z Z)<|.nil<|ge _ _<|.seq fun _ gf=>.if rfl (fun gC=>?_) (fun gC=>?_)
 ·refine an.skip<|gf _ _<|.seq fun _ gg=>.block<|.seq fun _ gl=>.region ?_;obtain ⟨gN,gS,gG,gZ,gF,gY,gX,fX,gq,g0,eG,gE⟩:=bH.at (i:=j) ((hp.get hi.1).le b7) OI O;refine Ops.q Z (aE pQ jm Z fX Z gq)<|.q Z (aq uT jm Z Z g0 (eG.trans (congrArg some (gz O))))<|.l Z (fun _ _ fv _=>cu aR Pg rfl fun A94 gP a7=>?_);have az:=ne_new aR aP a7.lo;have bl:=aI.own.ne_new aR a7.lo;have bY:=ad.own.ne_new aR a7.lo;have c3:=ag.own.ne_new aR a7.lo;have ba:=aX aD (Nat.le_trans b7.n a7.lo);have gm:=a7.le.get _ _ aP;have cc:=aI.le a7.le;have ck:=ad.le a7.le;have cv:=ag.le a7.le;have e4:=b7.trans a7.le;refine fv _ _<|.l Z (fun _ _ dS _=>bh (cs:=[bi ((((rs.getD i .zero).proof).getD j .zero).conj),num ((((rs.getD i .zero).proof).getD j .zero).rel),.bool ((((rs.getD i .zero).proof).getD j .zero).inv)]) (c':=[bi ((((rs.getD i .zero).proof).getD j .zero).conj),num ((((rs.getD i .zero).proof).getD j .zero).rel),.bool ((((rs.getD i .zero).proof).getD j .zero).inv)]) a7.wf rfl rfl rfl rfl jm a7.get (Nat.le_of_ble_eq_true rfl) rfl rfl fun A105 a6=>?_);have bR:=a6.keep _ _ az gm;have cC:=cc.keep a6.keep bl;have cH:=ck.keep a6.keep bY;have cK:=cv.keep a6.keep c3;have b6:=aw e4 aD ba a6.n a6.keep;refine dS _ _<|.nil<|gl _ _<|.seq fun _ eY=>.seq fun _ eZ=>.region<|.q Z (ah Z)<|.q Z (cF u9 Z)<|.q Z (aj jt eO U Z)<|.q Z (ak fA Z Z a6.get Z) ?_;refine Ops.q Z (cF u9 Z)<|.q Z (bz Z Z O)<|.q Z (ef (b:=100000) Z Z)<|.nil<|eZ _ _<|.if rfl (fun fN=>?_) (fun fN=>?_)
  ·refine an.region<|.q Z (dr Z (bI zU Mi DC Z))<|.iface zU Z Z<|.panicI Z ?_;(repeat first | with_reducible refine jV ?_ | with_reducible refine i6 ?_ | with_reducible refine ip ?_);exact J5 (⟨by exact PQ O ‹_›,Z,b6,a6.wf,_,_,_,_,_,_,bR⟩)
  refine an.skip<|eY _ _<|.seq fun _ f0=>.region<|.q Z (ah Z)<|.q Z (aj jt eO U Z)<|.q Z (ak fA Z Z a6.get Z)<|.q Z (rX Z Z O)<|.l Z (fun _ _ dV _=>ax Z (qH ((k.take (k.length - (((rs.getD i .zero).left).length))) ++ ((((rs.getD i .zero).proof).getD j .zero).conj)) A105 O (hL.le b6)) ?_);rintro gL A121 ⟨rfl,ai,c7⟩;have f1:=ai.get _ _ bR;have f2:=ai.get _ _ a6.get;have cP:=cC.le ai;have cS:=cH.le ai;have cV:=cK.le ai;have e5:=b6.trans ai;refine dV _ _<|.q Z (aj jt eO U Z)<|.l Z (fun _ _ dW _=>bh (cs:=[bi (cU ((k.take (k.length - (((rs.getD i .zero).left).length))) ++ ((((rs.getD i .zero).proof).getD j .zero).conj)))]) (c':=[bi (cU ((k.take (k.length - (((rs.getD i .zero).left).length))) ++ ((((rs.getD i .zero).proof).getD j .zero).conj))),num ((((rs.getD i .zero).proof).getD j .zero).rel),.bool ((((rs.getD i .zero).proof).getD j .zero).inv)]) c7 rfl rfl rfl rfl eO f2 (Nat.le_of_ble_eq_true rfl) rfl rfl fun A130 aa=>?_);have bc:=aa.keep _ _ az f1;have cX:=cP.keep aa.keep bl;have cZ:=cS.keep aa.keep bY;have d0:=cV.keep aa.keep c3;have e6:=aw e5 aD ba aa.n aa.keep;refine dW _ _<|.nil<|f0 _ _<|.seq fun _ f4=>.drawn [0,1,2,3,4,5,6,7,8,9,10,11,12] mixed Y Y Z<|.q Z Z Z (ah Z)<|.q Z Z Z (ah Z)<|.q Z Z Z (cJ Z)<|.q Z Z Z (aj kg ia U Z)<|.q Z Z Z (aj AW mY U Z) ?_;have dJ:=bQ (off:=9) bc (show _=some (dw) from rfl);refine be.q Z Z Z (ak pr Z Z bc Z)<|.q Z Z Z (aq uT jm Z Z aa.get Z)<|.l Z Z Z (fun _ _ dZ _=>aQ (c:=[bi (cU ((k.take (k.length - (((rs.getD i .zero).left).length))) ++ ((((rs.getD i .zero).proof).getD j .zero).conj))),num ((((rs.getD i .zero).proof).getD j .zero).rel),.bool ((((rs.getD i .zero).proof).getD j .zero).inv)]) aa.wf rfl (aJ pQ jm Pg rfl U U rfl) fun A145 gD a2=>?_);have bS:=a2.le.get _ _ bc;have f6:=a2.le.get _ _ aa.get;have bm:=cX.le a2.le;have bp:=cZ.le a2.le;have br:=d0.le a2.le;have dO:=am a2.le dJ;have e7:=e6.trans a2.le;refine dZ _ _ (aU.list (L:=[(⟨b0,9,none⟩,dw)]) Y (al dO bf))<|.l Z Z Z (fun _ _ e0 _=>cQ (ys:=[bi (cU ((k.take (k.length - (((rs.getD i .zero).left).length))) ++ ((((rs.getD i .zero).proof).getD j .zero).conj))),num ((((rs.getD i .zero).proof).getD j .zero).rel),.bool ((((rs.getD i .zero).proof).getD j .zero).inv)]) rfl rfl pQ jm Rq Pg rfl U pQ (fun _ h=>by cases h) bm.own (bZ (n:=1) a2.get Z) rfl rfl (by show (_ + _) * 32<=_;simp only [de,List.length_cons,List.length_nil];(try simp only [List.length_append,List.length_cons,List.length_nil]);omega) (by simp only [de,List.length_cons,List.length_nil];(try simp only [List.length_append,List.length_cons,List.length_nil]);omega) fun A161 gM a4=>?_);rw [show ([bi (cU ((k.take (k.length - (((rs.getD i .zero).left).length))) ++ ((((rs.getD i .zero).proof).getD j .zero).conj))),num ((((rs.getD i .zero).proof).getD j .zero).rel),.bool ((((rs.getD i .zero).proof).getD j .zero).inv)]:List Value)=cA [⟨cU ((k.take (k.length - (((rs.getD i .zero).left).length))) ++ ((((rs.getD i .zero).proof).getD j .zero).conj)),(((rs.getD i .zero).proof).getD j .zero).rel,(((rs.getD i .zero).proof).getD j .zero).inv⟩] from rfl,uW] at a4;obtain ⟨bu,e9⟩:=Fresh.grow bm e7 aD a4;have f7:=a4.keep ar bS;have b8:=a4.ne ar a2.wf bS;have f9:=a4.keep bl f6;have ec:=bw.appd (show bw dw a5 from aA) bp.own a2.wf a4;have d1:=bp.appd a4 aA;have eg:=bw.appd (show bw dw a9 from aB) br.own a2.wf a4;have d2:=br.appd a4 aB;refine e0 _ _ (aU.none Y)<|.q Z Z Z (cJ Z)<|.q Z Z Z (aj kg ia U Z)<|.q Z Z Z (aj AW mY U Z) ?_;obtain ⟨b9,b2,b1,fQ,_⟩:=bu.own.slice;subst fQ;refine be.l Z Z Z (fun _ _ e1 _=>bh (cs:=[.slice b9 b2 b1]) (c':=[a5,num (g),u,rv,.map (some mb),a9,num ((mm:Nat):Int),x7,num ((n + 1:Nat):Int),.slice b9 b2 b1]) a4.wf rfl rfl rfl rfl mY f7 (Nat.le_of_ble_eq_true rfl) rfl rfl fun A179 ab=>?_);have fd:=ab.keep _ _ az.symm f9;have d3:=d1.keep ab.keep a0;have dd:=d2.keep ab.keep a1;have di:=bu.keep ab.keep b8;have ea:=aw e9 aD bb ab.n ab.keep;refine e1 _ _ (aU.none Y)<|.done<|f4 _ _<|.seq fun _ fe=>.drawn [0,1,2,3,4,5,6,7,8,9,10] mixed Y Y Z<|.q Z Z Z (ah Z)<|.q Z Z Z (cJ Z)<|.q Z Z Z (aj sy c0 U Z)<|.q Z Z Z (ak eB Z Z ab.get Z)<|.q Z Z Z (aj jt eO U Z) ?_;refine be.q Z Z Z (ak fA Z Z fd Z)<|.q Z Z Z (cF u9 Z)<|.q Z Z Z (bz Z Z O)<|.q Z Z Z (cJ Z)<|.q Z Z Z (aj sy c0 U Z)<|.l Z Z Z (fun _ _ e2 _=>bh (cs:=[num ((mm + ((cU ((k.take (k.length - (((rs.getD i .zero).left).length))) ++ ((((rs.getD i .zero).proof).getD j .zero).conj))).length):Nat):Int)]) (c':=[a5,num (g),u,rv,.map (some mb),a9,num ((mm + ((cU ((k.take (k.length - (((rs.getD i .zero).left).length))) ++ ((((rs.getD i .zero).proof).getD j .zero).conj))).length):Nat):Int),x7,num ((n + 1:Nat):Int),.slice b9 b2 b1]) ab.wf rfl rfl rfl rfl c0 ab.get (Nat.le_of_ble_eq_true rfl) rfl rfl fun A191 ac=>?_);have dj:=d3.keep ac.keep a0;have dz:=dd.keep ac.keep a1;have dD:=di.keep ac.keep b8;have bv:=aw ea aD bb ac.n ac.keep;refine e2 _ _ (aU.none Y)<|.done<|fe _ _<|.seq fun _ fi=>.region<|.q Z (ah Z)<|.q Z (cJ Z)<|.q Z (aj sy c0 U Z)<|.q Z (ak eB Z Z ac.get Z)<|.q Z (ef (b:=1000000) Z Z) ?_;refine Ops.nil<|fi _ _<|.if rfl (fun fO=>?_) (fun fO=>?_)
  ·refine an.region<|.q Z (dr Z (bI zU Mi DC Z))<|.iface zU Z Z<|.panicI Z ?_;(repeat first | with_reducible refine jV ?_ | with_reducible refine i6 ?_ | with_reducible refine ip ?_);exact J5 (⟨by exact PR (j:=j + 1) (by rw [zh O];omega),Z,bv,ac.wf,_,_,_,_,_,_,ac.get⟩)
  refine an.skip<|gg _ _<|.region<|.q Z (bz (b:=1) Z Z O)<|.q Z (ah Z)<|.nil ?_;exact ⟨⟨j + 1,D ++ [⟨cU ((k.take (k.length - (((rs.getD i .zero).left).length))) ++ ((((rs.getD i .zero).proof).getD j .zero).conj)),(((rs.getD i .zero).proof).getD j .zero).rel,(((rs.getD i .zero).proof).getD j .zero).inv⟩],mm + ((cU ((k.take (k.length - (((rs.getD i .zero).left).length))) ++ ((((rs.getD i .zero).proof).getD j .zero).conj))).length),.slice b9 b2 b1⟩,pd Z Z Z Z Z,Z,⟨⟨by omega,by rw [hps O,hD,List.append_assoc],by have:=hpc O;omega,by omega,fun i2 h=>(Nat.lt_succ_iff_lt_or_eq.1 h).elim (hq i2) (fun z=>by subst z;omega)⟩,bv,dD,dj,dz,ac.get,b8,a0,a1,ec,eg,aZ⟩,O1⟩
 refine an.exit ?_;repeat first | with_reducible refine bJ ?_ | with_reducible refine bx ?_
 repeat first | with_reducible refine eF ?_ | with_reducible refine d7 ?_ | with_reducible refine dH U ?_ | with_reducible refine dK ?_ | with_reducible refine db ?_
 exact RP (vs:=[]) Z (⟨_,_,_,Z,b7,aR,ud aP (by rw [hmm,(xo O hq).1]),ad,ag,cy aI (congrArg cA (by rw [hD,(xo O hq).1])),a0,a1,ar,aZ,(bw.symm aA),(bw.symm aB),PT ‹_› ‹_› O hq O⟩)

theorem QJ (w:List UInt8) (rs:List bg) (l:List (List UInt8)) (b0:Nat) (g:Int) (u rv:Value) (mb:Nat) (x0 x5 x6 x7 x8 x9:Value) (A0 A:AH) (eG:A0.le A) (aG:A0.wf) (hb:A.get b0=some (.row true [x0,num g,u,rv,.map (some mb),x5,x6,x7,x8,x9] 10)) (aF:A0.get b0=none) (hs:cw g l rs=true) (hwl:w.length<=20000) (hL:gk A0) (hr:bH A0 3 rv (cL rs)) (hp:Proofs A0 rs) (hI:nx A0 mb rs):wr Tryz.prog 106 #[.pointer (some ⟨b0,0,none⟩),bi (w)] A (fun v A1=>∃ dv2 y0 y5 y6 y7 y8 y9,v=.agg #[bi (fh (mp rs w)).word,num (((fh (mp rs w)).steps:Nat):Int),dv2]/\A0.le A1/\A1.wf/\A1.get b0=some (.row true [y0,num g,u,rv,.map (some mb),y5,y6,y7,y8,y9] 10)/\Fresh A0 A1 dv2 3 (cA (fh (mp rs w)).disk)/\blk dv2 ≠ some b0/\(mp rs w).isSome=true) (fun ch A1=>mp rs w=none/\ch=[{ v:=.iface 149 (.agg #[]),recovered:=false }]/\A0.le A1/\A1.wf/\∃ y0 y5 y6 y7 y8 y9,A1.get b0=some (.row true [y0,num g,u,rv,.map (some mb),y5,y6,y7,y8,y9] 10)):=by
 refine Je (e:=[(0,.pointer (some ⟨b0,0,none⟩)),(1,bi (w))]) (args:=[.pointer (some ⟨b0,0,none⟩),bi (w)]) Tryz.call106 Tryz.func106 Z Tryz.results106 Tryz.ntmps106 Z Z Z (fun wf=>?_);refine an.seq fun _ h2=>.region<|.l Z (fun _ _ gs _=>cu wf Ei rfl fun A5 b4 bl=>?_);have a0:=ne_new wf hb bl.lo;have dZ:=aX aG (Nat.le_trans eG.n bl.lo);have h7:=bl.le.get _ _ hb;have gD:=eG.trans bl.le;refine gs _ _<|.nil<|h2 _ _<|.seq fun _ g2=>.region<|.q Z (ah Z)<|.q Z (ah Z)<|.q Z (ah Z)<|.q Z (ah Z)<|.q Z (dr Z (bI So Ei NC Z)) ?_;refine Ops.q Z (cJ Z)<|.q Z (aj iA nf U Z)<|.q Z (aj gJ fC U Z)<|.l Z (fun _ _ f9 _=>bh (cs:=[.slice none 0 0]) (c':=[.slice none 0 0,num (g),u,rv,.map (some mb),x5,x6,x7,x8,x9]) bl.wf rfl rfl rfl rfl fC h7 (Nat.le_of_ble_eq_true rfl) rfl rfl fun A12 b2=>?_);have g3:=b2.keep _ _ a0.symm bl.get;have fr:=aw gD aG aF b2.n b2.keep;refine f9 _ _<|.q Z (cJ Z)<|.q Z (aj kf fC U Z)<|.l Z (fun _ _ fi _=>bh (cs:=[.slice none 0 0]) (c':=[.slice none 0 0,num (g),u,rv,.map (some mb),.slice none 0 0,x6,x7,x8,x9]) b2.wf rfl rfl rfl rfl fC b2.get (Nat.le_of_ble_eq_true rfl) rfl rfl fun A17 b3=>?_);have g4:=b3.keep _ _ a0.symm g3;have ft:=aw fr aG aF b3.n b3.keep;refine fi _ _<|.q Z (cJ Z)<|.q Z (aj sy c0 U Z)<|.l Z (fun _ _ fl _=>bh (cs:=[num ((0:Nat):Int)]) (c':=[.slice none 0 0,num (g),u,rv,.map (some mb),.slice none 0 0,num ((0:Nat):Int),x7,x8,x9]) b3.wf rfl rfl rfl rfl c0 b3.get (Nat.le_of_ble_eq_true rfl) rfl rfl fun A22 b5=>?_);have g5:=b5.keep _ _ a0.symm g4;have fv:=aw ft aG aF b5.n b5.keep;refine fl _ _<|.q Z (cJ Z)<|.q Z (aj kg ia U Z)<|.l Z (fun _ _ fm _=>bh (cs:=[bi ([]),num ((0:Nat):Int),.slice none 0 0]) (c':=[.slice none 0 0,num (g),u,rv,.map (some mb),.slice none 0 0,num ((0:Nat):Int),bi ([]),num ((0:Nat):Int),.slice none 0 0]) b5.wf rfl rfl rfl rfl ia b5.get (Nat.le_of_ble_eq_true rfl) rfl rfl fun A27 b6=>?_);have g6:=b6.keep _ _ a0.symm g5;have fD:=aw fv aG aF b6.n b6.keep;refine fm _ _<|.nil<|g2 _ _<|.seq fun _ g7=>.region<|.q Z (ah Z)<|.q Z (ah Z) ?_;have cH:=Fresh.nil A0 A27 1;have d3:=ce (bs:=[some b0,blk (.slice none 0 0)]) fD (sh aF (qS cH.lo nw));refine Ops.l Z (fun _ _ fn _=>ax Z (zK w ([]) b0 (.slice none 0 0) (num (g)) u rv (.map (some mb)) (.slice none 0 0) (num ((0:Nat):Int)) (bi ([])) (num ((0:Nat):Int)) (.slice none 0 0) (A27.hide [some b0,blk (.slice none 0 0)]) A27 (cz A27 [some b0,blk (.slice none 0 0)]) (ci b6.wf) b6.get (cn (by simp)) (cH.hide (by simp)) (fun q=>by cases q) Oz) ?_);rintro hv A37 ⟨eA,rfl,c4,gP,bR,ba,bu⟩;have cX:=bW (bs:=[some b0,blk (.slice none 0 0)]) g6 (o9 a0.symm (mQ (fun q=>by cases q) lJ));have g8:=c4.get _ _ cX;have eQ:=ba.base d3;have fL:=ba.seph cX;have fE:=d3.trans c4;refine fn _ _<|.nil<|g7 _ _<|.seq fun _ g9=>.block<|.loop (X:=List UInt8 × List UInt8 × Nat × List bK × Nat × Nat × Value × Value × Value) (fun ⟨q,k,n,d,m,f,kv,qv,dv⟩=>[(0,.pointer (some ⟨b0,0,none⟩)),(4,.pointer (some ⟨b4,0,none⟩))]) (fun ⟨q,k,n,d,m,f,kv,qv,dv⟩ B=>(jg rs f ⟨q,k,n,d,m⟩=jg rs vn (start w)/\q.length + k.length<=w.length/\n<=20000/\d.length<=100000/\m<=1000000/\(20000 - n) * 100001 + q.length < f)/\A0.le B/\Fresh A0 B kv 1 (au k)/\Fresh A0 B qv 1 (au q)/\Fresh A0 B dv 3 (cA d)/\B.get b0=some (.row true [kv,num (g),u,rv,.map (some mb),qv,num ((m:Nat):Int),bi ([]),num ((n:Nat):Int),dv] 10)/\B.get b4=some (.row true [bi ([]),num ((0:Nat):Int),.slice none 0 0] 3)/\V.blk kv ≠ some b0/\V.blk qv ≠ some b0/\V.blk dv ≠ some b0/\V.blk kv ≠ some b4/\V.blk qv ≠ some b4/\V.blk dv ≠ some b4/\bw kv qv/\bw kv dv/\bw qv dv) (fun ⟨q,k,n,d,m,f,kv,qv,dv⟩=>f) (⟨w.reverse,[],0,[],0,vn,.slice none 0 0,eA,.slice none 0 0⟩) (jk Z Z) (⟨⟨Z,by simp,by omega,by simp,by omega,by have h1:w.length<=20000:=hwl;simp only [List.length_reverse];unfold vn;omega⟩,fE,(Fresh.nil A0 A37 1),(cy eQ (congrArg au ((by rfl)))),(Fresh.nil A0 A37 3),bR,g8,(fun q=>by cases q),bu,(fun q=>by cases q),(fun q=>by cases q),fL,(fun q=>by cases q),bw.nil,bw.nil,(bw.symm bw.nil)⟩) ?_;rintro ⟨q,k,n,d,m,f,kv,qv,dv⟩ B48 ⟨⟨hrun,hlen,hn,hd,hm,hf⟩,dd,bc,ac,bb,a2,bd,ab,a1,D,ap,ar,aa,az,aA,aI⟩;refine an.wf fun dD=>?_;have hrf:=fun z:¬ cf rs (k ++ [q.getD (q.length - 1) 0]) < 0=>KA hs z;have hkl:(k ++ [q.getD (q.length - 1) 0]).length=k.length + 1:=by simp
 have hmv:(nr ((k ++ [q.getD (q.length - 1) 0]).take ((k ++ [q.getD (q.length - 1) 0]).length - (rs.getD (cf rs (k ++ [q.getD (q.length - 1) 0])).toNat .zero).left.length)) (rs.getD (cf rs (k ++ [q.getD (q.length - 1) 0])).toNat .zero).proof).length<=(rs.getD (cf rs (k ++ [q.getD (q.length - 1) 0])).toNat .zero).proof.length:=yX _ _;have hmk:Mn ((k ++ [q.getD (q.length - 1) 0]).take ((k ++ [q.getD (q.length - 1) 0]).length - (rs.getD (cf rs (k ++ [q.getD (q.length - 1) 0])).toNat .zero).left.length)) (rs.getD (cf rs (k ++ [q.getD (q.length - 1) 0])).toNat .zero).proof=true->(nr ((k ++ [q.getD (q.length - 1) 0]).take ((k ++ [q.getD (q.length - 1) 0]).length - (rs.getD (cf rs (k ++ [q.getD (q.length - 1) 0])).toNat .zero).left.length)) (rs.getD (cf rs (k ++ [q.getD (q.length - 1) 0])).toNat .zero).proof).length=(rs.getD (cf rs (k ++ [q.getD (q.length - 1) 0])).toNat .zero).proof.length:=JR;refine an.seq fun _ gc=>.seq fun _ ge=>.region<|.q Z (ah Z)<|.q Z (cJ Z)<|.q Z (aj kf fC U Z)<|.q Z (ak jB Z Z a2 Z)<|.q Z (bE (n:=q.length) cR Z ac.slc O (d4 _))<|.q Z (ef (b:=0) Z Z)<|.nil ?_;refine ge _ _<|.if rfl (fun gF=>?_) (fun gF=>?_)
 ·refine an.skip<|gc _ _<|.block<|.seq fun _ gf=>.drawn [0,1,2,3,4,5,6,7,8,9,10,11,12] mixed Y Y Z<|.q Z Z Z (ah Z)<|.q Z Z Z (cJ Z)<|.q Z Z Z (aj kf fC U Z)<|.q Z Z Z (ak jB Z Z a2 Z)<|.q Z Z Z (ah Z) ?_;refine be.q Z Z Z (cJ Z)<|.q Z Z Z (aj kf fC U Z)<|.q Z Z Z (ak jB Z Z a2 Z)<|.q Z Z Z (bE (n:=q.length) cR Z ac.slc O (d4 _))<|.q Z Z Z (gh (b:=1) Z Z O) ?_;obtain ⟨he,hi,h4,ht,gZ,ho,hk,fV,gA,g0,gX,eL⟩:=bH.at (i:=q.length - 1) ac.slc Ox O;refine be.q Z Z Z (aE cR jU Z fV Z gA)<|.q Z Z Z (ak IJ Z Z g0 ((cN eL).trans (fy O)))<|.q Z Z Z (ae Z)<|.done<|gf _ _<|.seq fun _ gg=>.drawn [0,1,2,3,4,5,6,7,8,9,10,11,12,13,14] mixed Y Y Z<|.q Z Z Z (ah Z)<|.q Z Z Z (ah Z)<|.q Z Z Z (cJ Z) ?_;refine be.q Z Z Z (aj kf fC U Z)<|.q Z Z Z (ak jB Z Z a2 Z)<|.q Z Z Z (ah Z)<|.q Z Z Z (cJ Z)<|.q Z Z Z (aj kf fC U Z)<|.q Z Z Z (ak jB Z Z a2 Z)<|.q Z Z Z (bE (n:=q.length) cR Z ac.slc O (d4 _))<|.q Z Z Z (gh (b:=1) Z Z O) ?_;obtain ⟨a4,bM,a5,gM,gE,hh⟩:=ac.nonnil (by intro q;have:=congrArg List.length q;simp only [aN,List.length_nil] at this;omega);subst gM;rw [aN,Nat.mul_one] at gE;have cK:=ac.take (k:=q.length - 1) O;rw [Nat.mul_one,jr] at cK;refine be.q Z Z Z (kQ cR jU Z Z O)<|.q Z Z Z (cJ Z)<|.q Z Z Z (aj kf fC U Z)<|.l Z Z Z (fun _ _ fo _=>bh (cs:=[.slice (some ⟨a4,0,none⟩) (q.length - 1) a5]) (c':=[kv,num (g),u,rv,.map (some mb),.slice (some ⟨a4,0,none⟩) (q.length - 1) a5,num ((m:Nat):Int),bi ([]),num ((n:Nat):Int),dv]) dD rfl rfl rfl rfl fC a2 (Nat.le_of_ble_eq_true rfl) rfl rfl fun A65 a8=>?_);have eC:=a8.keep _ _ a0.symm bd;have b1:=bc.keep a8.keep ab;have bO:=bb.keep a8.keep D;have bP:=cK.keep a8.keep a1;have di:=aw dd aG aF a8.n a8.keep;refine fo _ _ (aU.none Y)<|.done<|gg _ _<|.seq fun _ gl=>.seq fun _ gm=>.region<|.q Z (ah Z)<|.q Z (cJ Z)<|.q Z (aj iA nf U Z)<|.q Z (aj gJ fC U Z) ?_;refine Ops.q Z (ak jB Z Z a8.get Z)<|.q Z (bE (n:=k.length) cR Z b1.slc O (d4 _))<|.q Z (ae Z)<|.nil<|gm _ _<|.join (fun f A1=>ao [(78,.bool (decide (0 < k.length/\k.getD (k.length - 1) 0=q.getD (q.length - 1) 0 ^^^ 32))),(0,.pointer (some ⟨b0,0,none⟩)),(4,.pointer (some ⟨b4,0,none⟩)),(25,.pointer (some ⟨b0,0,none⟩)),(26,.pointer (some ⟨b0,0,none⟩)),(27,.pointer (some ⟨b0,5,none⟩)),(28,.slice (some ⟨a4,0,none⟩) bM a5),(29,num ((q.length:Nat):Int)),(30,.bool (decide (0 < q.length))),(31,.pointer (some ⟨b0,0,none⟩)),(32,.pointer (some ⟨b0,0,none⟩)),(33,.pointer (some ⟨b0,5,none⟩)),(34,.slice (some ⟨a4,0,none⟩) bM a5),(35,.pointer (some ⟨b0,0,none⟩)),(36,.pointer (some ⟨b0,0,none⟩)),(37,.pointer (some ⟨b0,5,none⟩)),(38,.slice (some ⟨a4,0,none⟩) bM a5),(39,num ((q.length:Nat):Int)),(40,num ((q.length - 1:Nat):Int)),(42,d8 (q.getD (q.length - 1) 0)),(5,d8 (q.getD (q.length - 1) 0)),(43,.pointer (some ⟨b0,0,none⟩)),(44,.pointer (some ⟨b0,0,none⟩)),(45,.pointer (some ⟨b0,0,none⟩)),(46,.pointer (some ⟨b0,5,none⟩)),(47,.slice (some ⟨a4,0,none⟩) bM a5),(48,.pointer (some ⟨b0,0,none⟩)),(49,.pointer (some ⟨b0,0,none⟩)),(50,.pointer (some ⟨b0,5,none⟩)),(51,.slice (some ⟨a4,0,none⟩) bM a5),(52,num ((q.length:Nat):Int)),(53,num ((q.length - 1:Nat):Int)),(54,.slice (some ⟨a4,0,none⟩) (q.length - 1) a5),(55,.pointer (some ⟨b0,0,none⟩)),(56,.pointer (some ⟨b0,5,none⟩)),(57,.pointer (some ⟨b0,0,none⟩)),(58,.pointer (some ⟨b0,0,none⟩)),(59,.pointer (some ⟨b0,0,none⟩)),(60,.pointer (some ⟨b0,0,none⟩)),(61,kv),(62,num ((k.length:Nat):Int)),(6,num ((k.length:Nat):Int))] f.e/\f.ds=[]/\A65=A1) ?_ ?_
  ·refine an.region<|.q Z (ah Z)<|.q Z (ef (b:=0) Z Z)<|.q Z (ah Z)<|.part (t:=65) Z (fun gG=>?_) (fun gG=>?_)
   ·refine Ops.on Z Z<|.q Z (ah Z)<|.on Z Z<|.q Z (cJ Z)<|.on Z Z<|.q Z (aj iA nf U Z)<|.on Z Z<|.q Z (aj gJ fC U Z)<|.on Z Z<|.q Z (ak jB Z Z a8.get Z) ?_;refine Ops.on Z Z<|.q Z (ah Z)<|.on Z Z<|.q Z (gh (b:=1) Z Z O)<|.on Z Z ?_;obtain ⟨hg,hj,h5,hu,h3,hq,hl,fX,gC,g1,gY,eN⟩:=bH.at (i:=k.length - 1) b1.slc Ox O;refine Ops.q Z (aE cR jU Z fX Z gC)<|.on Z Z<|.q Z (ak IJ Z Z g1 ((cN eN).trans (fy O)))<|.on Z Z<|.q Z (ah Z)<|.on Z Z<|.q Z (Kq (d:=32) Z Z)<|.on Z Z<|.q Z (vG Z Z)<|.q Z (aL Z Z) ?_;refine Ops.nil ?_;exact ⟨ao.cons (show some _=some _ from congrArg (fun b=>some (Value.bool b)) (show (decide ((k.getD (k.length - 1) 0)=((q.getD (q.length - 1) 0) ^^^ 32)))=decide (0 < k.length/\k.getD (k.length - 1) 0=q.getD (q.length - 1) 0 ^^^ 32) from (by simp only [‹0 < _›,true_and])))<|ao.cons Z<|ao.cons Z<|ao.cons Z<|ao.cons Z<|ao.cons Z<|ao.cons Z<|ao.cons Z<|ao.cons Z<|ao.cons Z<|ao.cons Z<|ao.cons Z<|ao.cons Z<|ao.cons Z<|ao.cons Z<|ao.cons Z<|ao.cons Z<|ao.cons Z<|ao.cons Z<|ao.cons Z<|ao.cons Z<|ao.cons Z<|ao.cons Z<|ao.cons Z<|ao.cons Z<|ao.cons Z<|ao.cons Z<|ao.cons Z<|ao.cons Z<|ao.cons Z<|ao.cons Z<|ao.cons Z<|ao.cons Z<|ao.cons Z<|ao.cons Z<|ao.cons Z<|ao.cons Z<|ao.cons Z<|ao.cons Z<|ao.cons Z<|ao.cons Z<|ao.cons Z<|ao.nil _,Z,Z⟩
   refine Ops.off Z Z Z Z<|.off Z Z Z Z<|.off Z Z Z Z<|.off Z Z Z Z<|.off Z Z Z Z<|.off Z Z Z Z<|.off Z Z Z Z<|.off Z Z Z Z<|.off Z Z Z Z<|.off Z Z Z Z ?_;refine Ops.off Z Z Z Z<|.off Z Z Z Z<|.q Z (aW Z Z)<|.nil ?_;exact ⟨ao.cons (show some _=some _ from congrArg (fun b=>some (Value.bool b)) (show (false)=decide (0 < k.length/\k.getD (k.length - 1) 0=q.getD (q.length - 1) 0 ^^^ 32) from (by simp only [‹¬ 0 < _›,false_and,decide_false])))<|ao.cons Z<|ao.cons Z<|ao.cons Z<|ao.cons Z<|ao.cons Z<|ao.cons Z<|ao.cons Z<|ao.cons Z<|ao.cons Z<|ao.cons Z<|ao.cons Z<|ao.cons Z<|ao.cons Z<|ao.cons Z<|ao.cons Z<|ao.cons Z<|ao.cons Z<|ao.cons Z<|ao.cons Z<|ao.cons Z<|ao.cons Z<|ao.cons Z<|ao.cons Z<|ao.cons Z<|ao.cons Z<|ao.cons Z<|ao.cons Z<|ao.cons Z<|ao.cons Z<|ao.cons Z<|ao.cons Z<|ao.cons Z<|ao.cons Z<|ao.cons Z<|ao.cons Z<|ao.cons Z<|ao.cons Z<|ao.cons Z<|ao.cons Z<|ao.cons Z<|ao.cons Z<|ao.nil _,Z,Z⟩
  rintro ⟨fe,fd⟩ _ ⟨hE,rfl,rfl⟩;refine an.forget hE<|.if rfl (fun gL=>?_) (fun gL=>?_)
  ·refine an.seq fun _ gp=>.region<|.q Z (ah Z)<|.q Z (cJ Z)<|.q Z (aj iA nf U Z) ?_;have dj:=ce (bs:=[some b0,blk kv]) di (sh aF (qS b1.lo nw));refine Ops.l Z (fun _ _ fq _=>ax Z (D5 1 k b0 kv (num (g)) u rv (.map (some mb)) (.slice (some ⟨a4,0,none⟩) (q.length - 1) a5) (num ((m:Nat):Int)) (bi ([])) (num ((n:Nat):Int)) dv (A65.hide [some b0,blk kv]) A65 (cz A65 [some b0,blk kv]) (ci a8.wf) a8.get (cn (by simp)) (b1.hide (by simp)) ab O) ?_);rintro hw A86 ⟨e9,rfl,aT,gQ,bS,aC,bv⟩;have cZ:=bW (bs:=[some b0,blk kv]) eC (o9 a0.symm (mQ ap lJ));have gq:=aT.get _ _ cZ;have fR:=aC.sep bO.own (jJ D (jd aA jI));have eS:=bO.off (jJ D (jd aA jI)) aT;have fS:=aC.sep bP.own (jJ a1 (jd az jI));have eT:=bP.off (jJ a1 (jd az jI)) aT;have eV:=aC.base dj;have fM:=aC.seph cZ;have fI:=dj.trans aT;refine fq _ _<|.nil<|gp _ _<|.exit ?_;exact ⟨⟨q.take (q.length - 1),k.take (k.length - 1),n,d,m,f - 1,e9,.slice (some ⟨a4,0,none⟩) (q.length - 1) a5,dv⟩,jk Z Z,Z,⟨⟨Oa O O hrun ‹_›,by simp only [List.length_take];omega,hn,hd,hm,by simp only [List.length_take];omega⟩,fI,(cy eV (congrArg au ((by rfl)))),(cy eT (congrArg au ((by rfl)))),(cy eS (congrArg cA ((by rfl)))),bS,gq,bv,a1,D,fM,ar,aa,fS,fR,aI⟩,O1⟩
  refine an.skip<|gl _ _<|.seq fun _ eX=>.region<|.q Z (ah Z)<|.q Z (ah Z)<|.q Z (cJ Z)<|.q Z (aj iA nf U Z)<|.q Z (aj gJ fC U Z)<|.q Z (ak jB Z Z a8.get Z) ?_;refine Ops.q Z (ah Z)<|.l Z (fun _ _ e0 _=>aQ (c:=[d8 (q.getD (q.length - 1) 0)]) a8.wf rfl (aJ cR jU z5 rfl U U rfl) fun A104 gS a6=>?_);have cP:=a6.le.get _ _ a8.get;have cS:=a6.le.get _ _ eC;have bT:=b1.le a6.le;have bU:=bO.le a6.le;have bV:=bP.le a6.le;have ea:=di.trans a6.le;refine e0 _ _<|.l Z (fun _ _ e1 _=>cQ (ys:=[d8 (q.getD (q.length - 1) 0)]) rfl rfl cR jU si z5 rfl U cR (fun _ h=>by cases h) bT.own (bZ (n:=1) a6.get Z) rfl rfl (by show (_ + _) * 1<=_;simp only [aN,List.length_cons,List.length_nil];(try simp only [List.length_append,List.length_cons,List.length_nil]);omega) O3 fun A118 h6 a3=>?_);rw [show ([d8 (q.getD (q.length - 1) 0)]:List Value)=au [q.getD (q.length - 1) 0] from rfl,ek] at a3;obtain ⟨bY,ec⟩:=Fresh.grow bT ea aG a3;have eY:=a3.keep ab cP;have br:=a3.ne ab a6.wf cP;have eZ:=a3.keep ap cS;have c7:=a3.ne ap a6.wf cS;have cc:=bw.appd (show bw kv dv from aA) bU.own a6.wf a3;have dI:=bU.appd a3 aA;have ck:=bw.appd (show bw kv (.slice (some ⟨a4,0,none⟩) (q.length - 1) a5) from az) bV.own a6.wf a3;have dJ:=bV.appd a3 az;refine e1 _ _<|.q Z (cJ Z)<|.q Z (aj iA nf U Z)<|.q Z (aj gJ fC U Z) ?_;obtain ⟨av,ai,ag,fO,_⟩:=bY.own.slice;subst fO;refine Ops.l Z (fun _ _ e2 _=>bh (cs:=[.slice av ai ag]) (c':=[.slice av ai ag,num (g),u,rv,.map (some mb),.slice (some ⟨a4,0,none⟩) (q.length - 1) a5,num ((m:Nat):Int),bi ([]),num ((n:Nat):Int),dv]) a3.wf rfl rfl rfl rfl fC eY (Nat.le_of_ble_eq_true rfl) rfl rfl fun A137 a9=>?_);have cV:=a9.keep _ _ a0.symm eZ;have bm:=dI.keep a9.keep D;have bp:=dJ.keep a9.keep a1;have aP:=bY.keep a9.keep br;have aS:=aw ec aG aF a9.n a9.keep;refine e2 _ _<|.nil<|eX _ _<|.seq fun _ f0=>.region<|.q Z (ah Z)<|.l Z (fun _ _ e3 _=>ax Z (OH b0 (.slice av ai ag) ((g)) u rv mb (.slice (some ⟨a4,0,none⟩) (q.length - 1) a5) (num ((m:Nat):Int)) (bi ([])) (num ((n:Nat):Int)) dv rs (k ++ [q.getD (q.length - 1) 0]) _ _ A137 (by simp only [List.length_append,List.length_cons,List.length_nil];have:=(jT hs).2.1;omega) (fun r z=>by have:=ks hs z;omega) a9.get aP.slc (hr.le aS) (hI.le aS)) ?_);rintro ha A149 ⟨rfl,rfl⟩;refine e3 _ _<|.q Z (ae Z)<|.nil<|f0 _ _<|.seq fun _ f1=>.region<|.q Z (ah Z)<|.q Z (k8 Z Z)<|.nil<|f1 _ _ ?_;refine an.if rfl (fun fN=>?_) (fun fN=>?_)
  ·refine an.region<|.q Z (ah Z)<|.q Z (ah Z) ?_;have ad:=ce (bs:=[some b0,blk (.slice av ai ag),blk (.slice (some ⟨a4,0,none⟩) (q.length - 1) a5),blk dv]) aS (sh aF (qS aP.lo (qS bp.lo (qS bm.lo nw))));refine Ops.l Z (fun _ _ e4 d0=>LY Z (RY ((cf rs (k ++ [q.getD (q.length - 1) 0]))) ((cf rs (k ++ [q.getD (q.length - 1) 0])).toNat) (by have:=hrf (show ¬ cf rs (k ++ [q.getD (q.length - 1) 0]) < 0 by omega);omega) rs (k ++ [q.getD (q.length - 1) 0]) (q.take (q.length - 1)) d n m b0 (.slice av ai ag) g u rv mb (.slice (some ⟨a4,0,none⟩) (q.length - 1) a5) (bi ([])) dv (A137.hide [some b0,blk (.slice av ai ag),blk (.slice (some ⟨a4,0,none⟩) (q.length - 1) a5),blk dv]) A137 (cz A137 [some b0,blk (.slice av ai ag),blk (.slice (some ⟨a4,0,none⟩) (q.length - 1) a5),blk dv]) (ci a9.wf) a9.get (cn (by simp)) (aP.hide (by simp)) (bp.hide (by simp)) (bm.hide (by simp)) br a1 D ck cc aI (by have:=hrf (show ¬ cf rs (k ++ [q.getD (q.length - 1) 0]) < 0 by omega);have h2:=(jT hs).2.1;omega) (by have:=hrf (show ¬ cf rs (k ++ [q.getD (q.length - 1) 0]) < 0 by omega);simp only [List.length_take];have:=ks hs (bq (d:=bg.zero) this.1);omega) (by have:=hrf (show ¬ cf rs (k ++ [q.getD (q.length - 1) 0]) < 0 by omega);omega) (hL.le ad) (hr.le ad) (hp.le ad)) ?_ (fun fT Cq157 aB=>d0 _ _ (by (repeat first | with_reducible refine jV ?_ | with_reducible refine i6 ?_ | with_reducible refine ip ?_);exact J5 (⟨Gh (KF O O hrun ‹_› (show ¬ cf rs (k ++ [q.getD (q.length - 1) 0]) < 0 by omega) (fun z=>aB.1 z)),aB.2.1,ad.trans aB.2.2.1,aB.2.2.2.1,aB.2.2.2.2⟩))));rintro hc A156 ⟨d1,dz,cC,rfl,bL,gN,bD,aV,aY,aZ,b7,b8,b9,bA,bB,bC,a7⟩;have aR:=bW (bs:=[some b0,blk (.slice av ai ag),blk (.slice (some ⟨a4,0,none⟩) (q.length - 1) a5),blk dv]) cV (o9 a0.symm (mQ c7 (mQ ar (mQ aa lJ))));have f2:=bL.get _ _ aR;have dO:=aV.base ad;have ex:=aV.seph aR;have dS:=aY.base ad;have ey:=aY.seph aR;have dV:=aZ.base ad;have ez:=aZ.seph aR;have eg:=ad.trans bL;refine e4 _ _<|.nil ?_;exact ⟨⟨(q.take (q.length - 1)) ++ (rs.getD ((cf rs (k ++ [q.getD (q.length - 1) 0])).toNat) .zero).right.reverse,((k ++ [q.getD (q.length - 1) 0]).take ((k ++ [q.getD (q.length - 1) 0]).length - (rs.getD ((cf rs (k ++ [q.getD (q.length - 1) 0])).toNat) .zero).left.length)),n + 1,d ++ (nr ((k ++ [q.getD (q.length - 1) 0]).take ((k ++ [q.getD (q.length - 1) 0]).length - (rs.getD ((cf rs (k ++ [q.getD (q.length - 1) 0])).toNat) .zero).left.length)) (rs.getD ((cf rs (k ++ [q.getD (q.length - 1) 0])).toNat) .zero).proof),m + dm (nr ((k ++ [q.getD (q.length - 1) 0]).take ((k ++ [q.getD (q.length - 1) 0]).length - (rs.getD ((cf rs (k ++ [q.getD (q.length - 1) 0])).toNat) .zero).left.length)) (rs.getD ((cf rs (k ++ [q.getD (q.length - 1) 0])).toNat) .zero).proof),f - 1,d1,dz,cC⟩,jk Z Z,Z,⟨⟨KH O O hrun ‹_› (show ¬ cf rs (k ++ [q.getD (q.length - 1) 0]) < 0 by omega) a7,JT hlen hkl (hrf (show ¬ cf rs (k ++ [q.getD (q.length - 1) 0]) < 0 by omega)).2.2.1 (hrf (show ¬ cf rs (k ++ [q.getD (q.length - 1) 0]) < 0 by omega)).2.1 O,by have:=a7.2.1;omega,by have h0:=hmk a7.1;have h9:=@List.length_append _ d (nr ((k ++ [q.getD (q.length - 1) 0]).take ((k ++ [q.getD (q.length - 1) 0]).length - (rs.getD (cf rs (k ++ [q.getD (q.length - 1) 0])).toNat .zero).left.length)) (rs.getD (cf rs (k ++ [q.getD (q.length - 1) 0])).toNat .zero).proof);have h8:d.length + (rs.getD (cf rs (k ++ [q.getD (q.length - 1) 0])).toNat .zero).proof.length<=100000:=a7.2.2.1;omega,a7.2.2.2,Nu hf a7.2.1 (by have h1:=hrf (show ¬ cf rs (k ++ [q.getD (q.length - 1) 0]) < 0 by omega);omega) O⟩,eg,(cy dO (congrArg au ((by rfl)))),(cy dS (congrArg au ((by rfl)))),(cy dV (congrArg cA ((by rfl)))),bD,f2,b7,b8,b9,ex,ey,ez,bA,bB,bC⟩,O1⟩
  refine an.skip ?_;exact ⟨⟨q.take (q.length - 1),k ++ [q.getD (q.length - 1) 0],n,d,m,f - 1,.slice av ai ag,.slice (some ⟨a4,0,none⟩) (q.length - 1) a5,dv⟩,jk Z Z,Z,⟨⟨KG O O hrun ‹_› (show cf rs (k ++ [q.getD (q.length - 1) 0]) < 0 by omega),by simp only [List.length_take,List.length_append,List.length_cons,List.length_nil];omega,hn,hd,hm,by simp only [List.length_take];omega⟩,aS,(cy aP (congrArg au ((by rfl)))),(cy bp (congrArg au ((by rfl)))),(cy bm (congrArg cA ((by rfl)))),a9.get,cV,br,a1,D,c7,ar,aa,ck,cc,aI⟩,O1⟩
 refine an.exit<|g9 _ _<|.seq fun _ f3=>.region<|.q Z (ah Z)<|.q Z (ah Z)<|.q Z (cJ Z)<|.q Z (aj iA nf U Z)<|.q Z (aj gJ fC U Z)<|.q Z (ak jB Z Z a2 Z) ?_;refine Ops.l Z (fun _ _ e5 _=>d5 (s:=k) Z cR u9 u5 bc.slc ?_);refine e5 _ _<|.q Z (cJ Z)<|.q Z (aj kg ia U Z)<|.q Z (aj pw eO U Z)<|.l Z (fun _ _ e6 _=>bh (cs:=[bi (k)]) (c':=[kv,num (g),u,rv,.map (some mb),qv,num ((m:Nat):Int),bi (k),num ((n:Nat):Int),dv]) dD rfl rfl rfl rfl eO a2 (Nat.le_of_ble_eq_true rfl) rfl rfl fun A172 ay=>?_);have f4:=ay.keep _ _ a0.symm bd;have c3:=bb.keep ay.keep D;have en:=aw dd aG aF ay.n ay.keep;refine e6 _ _<|.nil<|f3 _ _<|.seq fun _ f6=>.region<|.q Z (ah Z)<|.q Z (cJ Z)<|.q Z (aj kg ia U Z)<|.q Z (aq uR ia Z Z ay.get Z) ?_;obtain ⟨dw,d2,cv,fQ,_⟩:=c3.own.slice;subst fQ;refine Ops.l Z (fun _ _ e7 _=>bh (cs:=[bi (k),num ((n:Nat):Int),.slice dw d2 cv]) (c':=[bi (k),num ((n:Nat):Int),.slice dw d2 cv]) ay.wf rfl rfl rfl rfl ia f4 (Nat.le_of_ble_eq_true rfl) rfl rfl fun A183 aD=>?_);have f7:=aD.keep _ _ a0 ay.get;have dW:=c3.keep aD.keep aa;have ev:=aw en aG dZ aD.n aD.keep;refine e7 _ _<|.nil<|f6 _ _<|.ret ?_;repeat first | with_reducible refine bJ ?_ | with_reducible refine bx ?_
 exact SM (ew uR ia Z aD.get Z fY) (⟨_,_,_,_,_,_,_,by rw [rA (xD O O hrun)];rfl,ev,aD.wf,f7,by rw [rA (xD O O hrun)];exact dW,D,by rw [rA (xD O O hrun)];rfl⟩)
end Go.Proofs.YtjppkekmddjcfaaGreatDoor

namespace Go.Proofs.YtjppkekmddjcfaaGreatDoor
open Go Go.RowKit V
abbrev Po (E:List (UInt8 × Value)) (c:UInt8):Value:=(lk E c).getD (.slice none 0 0)
structure mw (A0 A:AH) (E:List (UInt8 × Value)) (rs:List bg) (i:Nat) (bs:List Nat):Prop where
  nd:(E.map (·.1)).Nodup
  fr:∀ c,Fresh A0 A (Po E c) 1 (cI (gb (rs.take i) c))
  ne:∀ c,∀ b ∈ bs,blk (Po E c) ≠ some b
  sp:∀ c d,c ≠ d->bw (Po E c) (Po E d)
section
variable {A0 A A2 A3 A4:AH} {E:List (UInt8 × Value)} {rs:List bg} {i m b:Nat} {bs:List Nat} {c d:UInt8} {v:Value} {o:fp}
theorem Jr (c:UInt8):gb [] c=[]:=by simp [gb]
theorem mw.nil:mw A0 A [] rs 0 bs:=⟨by simp,fun c=>by rw [List.take_zero,Jr];exact Fresh.nil _ _ _,fun c b _ q=>(by cases q),fun _ _ _=>bw.nil⟩
theorem Fa {rs:List bg} {i j:Nat} (h:j < i):(rs.take i).getD j .zero=rs.getD j .zero:=by
  simp [List.getD_eq_getElem?_getD,List.getElem?_take,h]
theorem Ff (hi:i < rs.length) (d:UInt8):gb (rs.take (i + 1)) d=if rm (rs.getD i .zero)=d then gb (rs.take i) d ++ [(i:Int)] else gb (rs.take i) d:=by
  have e:∀ k,k<=rs.length->gb (rs.take k) d=((List.range k).filter fun i=>decide (rm (rs.getD i .zero)=d)).map fun (i:Nat)=>(i:Int):=fun k hk=>by
    unfold gb
    rw [List.length_take,Nat.min_eq_left hk]
    congr 1
    apply List.filter_congr
    intro j hj
    rw [Fa (List.mem_range.1 hj)]
  rw [e _ O,e _ O,List.range_succ,List.filter_append,List.map_append]
  by_cases h:rm (rs.getD i .zero)=d
  · rw [if_pos h,List.filter_cons,decide_eq_true h];rfl
  · simp only [if_neg h,List.filter_cons,List.filter_nil,decide_eq_false h];simp
theorem sq (d:UInt8):Po (wj E c v) d=if d=c then v else Po E d:=by
  show (lk (wj E c v) d).getD _=_
  rw [P4]
  split <;> rfl
theorem mw.step (h:mw A0 A E rs i bs) (le:A.le A2) (D:A2.wf) (ap:lD A2 (Po E c) 1 (cI (gb (rs.take i) c ++ [(i:Int)])) v A3) (fr:Fresh A0 A3 v 1 (cI (gb (rs.take i) c ++ [(i:Int)]))) (sb:se A3 A4 m o) (hm:m ∈ bs)
    (hne:∀ b ∈ bs,blk v ≠ some b) (hi:i < rs.length) (hc:rm (rs.getD i .zero)=c):mw A0 A4 (wj E c v) rs (i + 1) bs:=by
  have hs:∀ d,d ≠ c->bw v (Po E d):=fun d hd=>bw.appd (h.sp c d hd.symm) ((h.fr d).own.le le) D ap
  refine ⟨Ib h.nd,fun d=>?_,fun d b hb=>?_,fun d e hde=>?_⟩
  · rw [sq,Ff hi,hc]
    by_cases hd:d=c
    · subst hd;rw [if_pos Z,if_pos Z];exact fr.keep sb.keep (hne m hm)
    · rw [if_neg hd,if_neg (fun q=>hd q.symm)]
      exact (((h.fr d).le le).appd ap (h.sp c d (fun q=>hd q.symm))).keep sb.keep (h.ne d m hm)
  · rw [sq];split
    · exact hne b hb
    · exact h.ne d b hb
  · rw [sq,sq]
    by_cases hd:d=c
    · subst hd;rw [if_pos Z,if_neg (fun q=>hde q.symm)];exact hs e (fun q=>hde q.symm)
    · rw [if_neg hd]
      by_cases he:e=c
      · subst he;rw [if_pos Z];exact (hs d hd).symm
      · rw [if_neg he];exact h.sp d e hde
theorem mw.map {rw:Bool} {es:Array MapEntry} {ck:Nat} (h:mw A0 A E rs i bs) (hi:rs.length<=i) (g:A.get m=some (.obj rw (.map es ck))) (hE:dh d8 es E) (hb:b ∈ bs) (hm:m ≠ b):nx (A.hide [some b]) m rs:=by
  refine ⟨rw,es,ck,E,bW g (o9 hm lJ),hE,fun c=>?_⟩
  have:=((h.fr c).off (bs:=[some b]) (jJ (h.ne c b hb) jI) (AH.le.refl _)).slc
  rwa [List.take_of_length_le hi] at this
theorem Ry {p:Nat->Prop} {a b:Nat} (ha:p a) (hb:p b):∀ c ∈ [a,b],p c:=fun c hc=>by
  simp only [List.mem_cons,List.not_mem_nil,or_false] at hc
  rcases hc with rfl | rfl
  · exact ha
  · exact hb
theorem yk {v:Value} {n:Nat} {l:List Value} (h:nu A v n l) (g:A.get b=none):blk v ≠ some b:=fun q=>by
  obtain ⟨o,ho⟩:=h.blkget q;rw [g] at ho;cases ho
theorem qq (le:A.le A2) (h:A2.get b=none):A.get b=none:=by
  cases q:A.get b with
  | none=>rfl
  | some o=>rw [le.get b o q] at h;cases h
theorem Fp {v:Value} {n:Nat} {l:List Value} (le:A.le A2) (h:Fresh A2 A3 v n l):∀ b,blk v=some b->A.get b=none:=fun b hb=>qq le (h.lo b hb)
theorem Du {s v:Value} {n:Nat} {l:List Value} (le:A.le A2) (wf:A.wf) (ap:lD A2 s n l v A3) (h:∀ b,blk s=some b->A.get b=none):∀ b,blk v=some b->A.get b=none:=fun b hb =>
  (ap.blk b hb).elim (fun q=>h b q) fun q=>aX wf (Nat.le_trans le.n q)
theorem Dt {s v:Value} {n:Nat} {l:List Value} (le:A.le A2) (wf:A.wf) (ap:lD A2 s n l v A3) (h:∀ b,blk s=some b->A.get b=none):A.le A3 :=
  ⟨Nat.le_trans le.n ap.n,fun b o g=>ap.get b o (le.get b o g) fun q=>by rw [h b q] at g;cases g⟩
theorem vo {bs:List (Option Nat)} (le:A.le A2):(A.hide bs).le (A2.hide bs):=ce ((cz A bs).trans le) fun b q=>cn q
end
def eM (rs:List bg) (w:List UInt8):Option Im:=if 20000 < w.length then none else mp rs w
section
variable {g:Int} {l:List (List UInt8)} {rs:List bg} {w:List UInt8}
theorem zq (h:bN g w=0):tV g rs w=eM rs w:=by
  unfold tV eM
  by_cases q:w.length<=20000
  · rw [if_pos ⟨h,q⟩,if_neg O]
  · rw [if_neg (fun z=>q z.2),if_pos O]
theorem Cz (h:(!cw g l rs)=true):mr g l rs w=.zero/\j9 g l rs w=100:=QS (by simpa using h)
theorem CA (h:(!cw g l rs)=false) (h2:¬ bN g w=0):mr g l rs w=.zero/\j9 g l rs w=4:=by
  rw [(rF (by simpa using h)).1,(rF (by simpa using h)).2];exact Ql h2
theorem CB (h:(!cw g l rs)=false) (h2:¬ ¬ bN g w=0) (q:(!(eM rs w).isSome)=true):mr g l rs w=.zero/\j9 g l rs w=2:=by
  have h2:=Decidable.not_not.1 h2
  rw [(rF (by simpa using h)).1,(rF (by simpa using h)).2,Ga,rx,zq h2,qz q]
  simp [h2,fh]
theorem CD (h:(!cw g l rs)=false) (h2:¬ ¬ bN g w=0) (q:(!(eM rs w).isSome)=false):mr g l rs w=fh (eM rs w)/\j9 g l rs w=0:=by
  have h2:=Decidable.not_not.1 h2
  rw [(rF (by simpa using h)).1,(rF (by simpa using h)).2,Ga,rx,zq h2]
  simp_all
theorem uw (hs:cw g l rs=true):∀ r ∈ rs,0 < r.left.length/\r.left.length<=1000000:=fun r hr=>by have:=ks hs hr;omega
theorem qL (hs:cw g l rs=true):rs.length<=1000000:=by have:=(jT hs).2.1;omega
end
end Go.Proofs.YtjppkekmddjcfaaGreatDoor

namespace Go.Proofs.YtjppkekmddjcfaaGreatDoor
open Go Go.RowKit V
set_option maxRecDepth 100000

theorem Nz {A:AH} {n:Nat} {a:List UInt8} {i:Int} {v:Value} {xs:List Value} (h:bH A n v xs):pb [bi a,num i,v]=true:=by
  obtain ⟨p,k,c,rfl,_⟩:=h;rfl
theorem iK {A:AH} {k b:Nat} {o x:fp} (h:A.get b=some x) (hn:b ≠ k):(A.set k o).get b=some x:=(AH.set_get_ne _ _ hn).trans h
theorem pz {A0 A:AH} {k:Nat} {o:fp} (le:A0.le A) (D:A0.wf) (h:A0.get k=none):A0.le (A.set k o):=aw le D h rfl fun b' o' hn g=>iK g hn
theorem qI (p q:Value) (A:AH):jA Tryz.prog 105 #[p,q] .returning A (fun en u' A1=>en=.returned (dR [])/\u'=.returning/\A=A1):=by
  refine jA.enter (args:=[p,q]) Tryz.func105 Z (by rw [Tryz.ntmps105];exact Nat.le_of_ble_eq_true rfl) (fun wf=>?_)
  have hn:Tryz.f105.ntmps=12:=Tryz.ntmps105
  have hr:Tryz.f105.results = #[]:=Tryz.results105
  rw [hn,hr]
  refine pq.seq (pq.region Z (qW.recoverNil Z Z Z O (fun _ _=>rfl) (qW.nil ?_)))
  refine pq.of_run ?_
  refine an.block ?_
  refine an.seq fun K3 h4=>?_
  refine an.region ?_
  refine Ops.val (v:=.bool true) Z Z (fun a ha w hw=>?_) ?_
  · have h5:=cE (x:=.tmp 5) ha Z
    simp only [execOp,h5]
    simp [Act.eval,go_sem]
  refine Ops.nil (h4 _ _ ?_)
  refine an.cond_true Z ?_
  refine an.region<|.q Z (ae Z)<|.nil ?_
  exact ⟨Z,[],Z,Z,Z,Z⟩

theorem RZ:dc Tryz.prog 149=some 0:=by kernel_rfl
theorem Pz:kA Tryz.prog 37 []=some (.agg #[bi [],num 0,.slice none 0 0]):=by kernel_rfl

theorem xO (a b:Nat) (c1 c2:List Value) (k1 k2:Nat) (older:List PanicEntry) (A:AH) (hab:a ≠ b) (h1:A.get a=some (.row true c1 k1)) (l1:3<=c1.length) (h2:A.get b=some (.row true c2 k2)) (l2:1<=c2.length) :
    jA Tryz.prog 105 #[.pointer (some ⟨a,0,none⟩),.pointer (some ⟨b,0,none⟩)] (.panicking ({ v:=.iface 149 (.agg #[]),recovered:=false } :: older)) A (fun en u' A1=>en=.returned (dR [])/\u'=.panicking ({ v:=.iface 149 (.agg #[]),recovered:=true } :: older) /\
      A1=(((A.new (.row true [] 0)).set A.n (.row true [] 0)).set a (.row true (ns c1 0 [bi [],num 0,.slice none 0 0]) k1)).set b (.row true (ns c2 0 [.bool false]) k2)):=by
  refine jA.enter (args:=[_,_]) Tryz.func105 Z (by rw [Tryz.ntmps105];exact Nat.le_of_ble_eq_true rfl) (fun wf=>?_)
  have hn:Tryz.f105.ntmps=12:=Tryz.ntmps105
  have hr:Tryz.f105.results = #[]:=Tryz.results105
  rw [hn,hr]
  refine pq.seq (pq.region Z (qW.recover Z Z Z O (fun _ _=>rfl) (qW.nil ?_)))
  refine pq.of_run ?_
  refine an.block ?_
  refine an.seq fun K3 h4=>?_
  refine an.region ?_
  refine Ops.val (v:=.bool false) Z Z (fun a ha w hw=>?_) ?_
  · have h5:=cE (x:=.tmp 5) ha Z
    simp only [execOp,h5]
    simp [Act.eval,go_sem]
  refine Ops.nil (h4 _ _ ?_)
  refine an.cond_false Z ?_
  refine an.seq fun K5 h6=>?_
  refine an.region ?_
  refine Ops.val (v:=.tuple #[.agg #[],.bool true]) Z Z (fun a ha w hw=>?_) ?_
  · have h5:=cE (x:=.tmp 5) ha Z
    simp only [execOp,h5]
    simp [Act.eval,go_sem]
    rw [Cb Tryz.underlying149];rfl
  refine Ops.q Z (bk Z Z)<|.q Z (bk Z Z)<|.nil (h6 _ _ ?_)
  refine an.cond_true Z ?_
  refine an.seq fun K7 h8=>?_
  refine an.region ?_
  refine Ops.l rfl fun K Kp hK _=>xX (z:=.agg #[]) (cs:=[]) Mi Z (hK _ _ ?_)
  refine Ops.l rfl fun K Kp hK _=>ou (cs:=[]) Z Z Z RZ Z (AH.new_get_same _ _) (by simp) Z (hK _ _ ?_)
  refine Ops.nil (h8 _ _ ?_)
  have ha:=wf a _ h1
  have hb:=wf b _ h2
  refine an.region ?_
  refine Ops.q Z (dr Z Pz) ?_
  refine Ops.l rfl fun K Kp hK _=>ou (cs:=[bi [],num 0,.slice none 0 0]) (c:=c1) (cap:=k1) Z Z Z ia Z (by rw [AH.set_get_ne _ _ (by show a ≠ A.n;omega),AH.new_get_ne _ _ (by show a ≠ A.n;omega)];exact h1) (by simpa using l1) Z (hK _ _ ?_)
  refine Ops.l rfl fun K Kp hK _=>ou (cs:=[.bool false]) (c:=c2) (cap:=k2) Z Z Z lA Z (by rw [AH.set_get_ne _ _ (by show b ≠ a;omega),AH.set_get_ne _ _ (by show b ≠ A.n;omega),AH.new_get_ne _ _ (by show b ≠ A.n;omega)];exact h2) (by simpa using l2) Z (hK _ _ ?_)
  refine Ops.nil ?_
  exact ⟨Z,[],Z,Z,Z,Z⟩


theorem sL (w:List UInt8) (rs:List bg) (l:List (List UInt8)) (b0:Nat) (g:Int) (u rv:Value) (mb:Nat) (x0 x5 x6 x7 x8 x9:Value) (A0 A:AH) (a2:A0.le A) (D:A0.wf)
    (hb:A.get b0=some (.row true [x0,num g,u,rv,.map (some mb),x5,x6,x7,x8,x9] 10)) (a8:A0.get b0=none) (hs:cw g l rs=true) (hL:gk A0) (hr:bH A0 3 rv (cL rs)) (hp:Proofs A0 rs) (hI:nx A0 mb rs) :
    bF Tryz.prog 60 #[.pointer (some ⟨b0,0,none⟩),bi (w)] A (fun v A1=>∃ V y0 y5 y6 y7 y8 y9,v=.tuple #[.agg #[bi (fh (eM rs w)).word,num (((fh (eM rs w)).steps:Nat):Int),V],.bool (eM rs w).isSome]/\A0.le A1/\A1.wf /\
      A1.get b0=some (.row true [y0,num g,u,rv,.map (some mb),y5,y6,y7,y8,y9] 10)/\Fresh A0 A1 V 3 (cA (fh (eM rs w)).disk)/\blk V ≠ some b0):=by
  refine wr.ret (enterD (e:=[(0,.pointer (some ⟨b0,0,none⟩)),(1,bi w)]) (args:=[.pointer (some ⟨b0,0,none⟩),bi w]) Tryz.call60 Tryz.func60 Z Tryz.results60 Tryz.ntmps60 Z Z Z (fun wf=>?_))
  have ac:b0 < A.n:=wf _ _ hb
  have n1:b0 ≠ A.n:=by omega
  have n2:b0 ≠ A.n + 1:=by omega
  have n3:A.n + 1 ≠ A.n:=by omega
  have a5:∀ o1 o2:fp,A.le ((A.new o1).new o2):=fun o1 o2=>AH.le_new (AH.le_new (AH.le.refl A) wf o1) wf o2
  have g0:∀ b,A.n<=b->A0.get b=none:=fun b h=>aX D (Nat.le_trans a2.n h)
  refine an.seq fun K1 h1=>?_
  refine an.region ?_
  refine Ops.l rfl fun K Kp hK _=>xX (z:=.agg #[bi [],num 0,.slice none 0 0]) (cs:=[bi [],num 0,.slice none 0 0]) Ei Z (hK _ _ ?_)
  refine Ops.l rfl fun K Kp hK _=>xX (z:=.bool false) (cs:=[.bool false]) z4 Z (hK _ _ ?_)
  refine Ops.nil (h1 _ _ ?_)
  have a9:=AH.wf_new wf (.row true [bi [],num 0,.slice none 0 0] 3)
  have a3:=AH.wf_new a9 (.row true [.bool false] 1)
  have a1:=a5 (.row true [bi [],num 0,.slice none 0 0] 3) (.row true [.bool false] 1)
  have e1:((A.new (.row true [bi [],num 0,.slice none 0 0] 3)).new (.row true [.bool false] 1)).get A.n=some (.row true [bi [],num 0,.slice none 0 0] 3):=by
    rw [AH.new_get_ne _ _ (by show A.n ≠ A.n + 1;omega)];exact AH.new_get_same _ _
  have e2:((A.new (.row true [bi [],num 0,.slice none 0 0] 3)).new (.row true [.bool false] 1)).get (A.n + 1)=some (.row true [.bool false] 1):=AH.new_get_same _ _
  have e0:=a1.get _ _ hb
  have nB:((A.new (.row true [bi [],num 0,.slice none 0 0] 3)).new (.row true [.bool false] 1)).n=A.n + 2:=rfl
  generalize ((A.new (.row true [bi [],num 0,.slice none 0 0] 3)).new (.row true [.bool false] 1))=B at *
  have leB:=a2.trans a1
  refine an.seq fun K2 h2=>?_
  refine an.region ?_
  refine Ops.q Z (ll Z Z) ?_
  refine Ops.defer (d:={ target:=.fn (.func 105) #[.pointer (some ⟨A.n,0,none⟩),.pointer (some ⟨A.n + 1,0,none⟩)],args:=#[] }) Z Z (fun a ha w hw=>?_) ?_
  · have h6:=cE (x:=.tmp 6) ha Z
    simp only [execOp,resolve,h6]
    simp [Deferred.ofValue]
  refine Ops.nil (h2 _ _ ?_)
  refine an.seq fun K3 h3=>?_
  refine an.seq fun K3' a4=>?_
  refine an.region ?_
  refine Ops.q Z (ah Z)<|.q Z (cF u9 Z) ?_
  refine Ops.q Z (ef (b:=20000) Z Z) ?_
  refine Ops.nil (a4 _ _ ?_)
  refine an.if (p:=20000 < w.length) Z (fun hl=>?_) (fun hl=>?_)
  · have et:eM rs w=none:=if_pos hl
    refine an.seq fun K5 h5=>?_
    refine an.region ?_
    refine Ops.q Z (dr Z Pz) ?_
    refine Ops.l rfl fun K Kp hK _=>ou (cs:=[bi [],num 0,.slice none 0 0]) (c:=[bi [],num 0,.slice none 0 0]) (cap:=3) Z Z Z ia Z e1 (by simp) Z (hK _ _ ?_)
    refine Ops.l rfl fun K Kp hK _=>ou (cs:=[.bool false]) (c:=[.bool false]) (cap:=1) Z Z Z lA Z (iK e2 n3) (by simp) Z (hK _ _ ?_)
    refine Ops.nil (h5 _ _ ?_)
    refine an.ret ?_
    show lc _ _ _ _ _ _ _
    refine ⟨by simp,_,_,105,_,Z,(fun w=>rfl),(qI _ _ _).mono ?_⟩
    rintro en u' A1 ⟨rfl,rfl,rfl⟩
    refine ⟨[.agg #[bi [],num 0,.slice none 0 0],.bool false],?_,?_⟩
    · exact fZ.cell Z (nW uR ia (iK (AH.set_get_same _ _ _) n3.symm) Z) (fZ.cell Z (nX sY (AH.set_get_same _ _ _) Z) fZ.nil)
    · rw [et]
      have a0:=AH.wf_set a3 (k:=A.n) O (.row true (ns [bi [],num 0,.slice none 0 0] 0 [bi [],num 0,.slice none 0 0]) 3)
      refine ⟨.slice none 0 0,x0,x5,x6,x7,x8,x9,rfl,?_,AH.wf_set a0 (by show A.n + 1 < B.n;omega) _,?_,Fresh.nil _ _ _,fun q=>by cases q⟩
      · exact pz (pz leB D (g0 A.n (Nat.le_refl _))) D (g0 (A.n + 1) O)
      · exact iK (iK e0 n1) n2
  refine an.skip (h3 _ _ ?_)
  have et:eM rs w=mp rs w:=if_neg hl
  refine an.seq fun K5 h5=>?_
  refine an.region ?_
  refine Ops.q Z (ah Z)<|.q Z (ah Z) ?_
  have hle:=ce (A:=B) (bs:=[some b0]) leB (fun b q=>by rw [List.mem_singleton] at q;cases q;exact a8)
  have hwf:=ci (bs:=[some b0]) a3
  have hno:(B.hide [some b0]).get b0=none:=cn (List.mem_singleton.2 rfl)
  have k1:=bW (bs:=[some b0]) e1 Oz
  have k2:=bW (bs:=[some b0]) e2 Oz
  refine Ops.l rfl fun K Kp hK hKp=>LY Z (QJ w rs l b0 g u rv mb x0 x5 x6 x7 x8 x9 (B.hide [some b0]) B (cz _ _) hwf e0 hno hs O (hL.le hle) (hr.le hle) (hp.le hle) (hI.le hle)) (fun v C hv=>hK _ _ ?_) (fun ch C hc=>hKp _ _ ?_)
  · obtain ⟨V,y0,y5,y6,y7,y8,y9,rfl,leC,wfC,gC,frC,neC,isC⟩:=hv
    have a6:=frC.seph k1
    have a7:=frC.seph k2
    have one:pb [bi (fh (mp rs w)).word,num (((fh (mp rs w)).steps:Nat):Int),V]=true:=Nz frC.slc
    refine Ops.l rfl fun K Kp hK _=>ou (cs:=[bi (fh (mp rs w)).word,num (((fh (mp rs w)).steps:Nat):Int),V]) (c:=[bi [],num 0,.slice none 0 0]) (cap:=3) Z Z Z ia Z (leC.get _ _ k1) (by simp) one (hK _ _ ?_)
    refine Ops.l rfl fun K Kp hK _=>ou (cs:=[.bool true]) (c:=[.bool false]) (cap:=1) Z Z Z lA Z (iK (leC.get _ _ k2) n3) (by simp) Z (hK _ _ ?_)
    refine Ops.nil (h5 _ _ ?_)
    refine an.ret ?_
    show lc _ _ _ _ _ _ _
    refine ⟨by simp,_,_,105,_,Z,(fun w=>rfl),(qI _ _ _).mono ?_⟩
    rintro en u' A1 ⟨rfl,rfl,rfl⟩
    refine ⟨[.agg #[bi (fh (mp rs w)).word,num (((fh (mp rs w)).steps:Nat):Int),V],.bool true],?_,?_⟩
    · exact fZ.cell Z (nW uR ia (iK (AH.set_get_same _ _ _) n3.symm) Z) (fZ.cell Z (nX sY (AH.set_get_same _ _ _) Z) fZ.nil)
    · rw [et]
      have X:=hle.trans leC
      have nC:=leC.n
      have nH:(B.hide [some b0]).n=B.n:=rfl
      have a0:=AH.wf_set wfC (k:=A.n) O (.row true (ns [bi [],num 0,.slice none 0 0] 0 [bi (fh (mp rs w)).word,num (((fh (mp rs w)).steps:Nat):Int),V]) 3)
      refine ⟨V,y0,y5,y6,y7,y8,y9,by rw [isC];rfl,?_,AH.wf_set a0 (by show A.n + 1 < C.n;omega) _,?_,?_,neC⟩
      · exact pz (pz X D (g0 A.n (Nat.le_refl _))) D (g0 (A.n + 1) O)
      · exact iK (iK gC n1) n2
      · exact ((frC.base hle).keep (fun b' o hn h=>iK h hn) a6).keep (fun b' o hn h=>iK h hn) a7
  · obtain ⟨hn,rfl,leC,wfC,y0,y5,y6,y7,y8,y9,gC⟩:=hc
    show lc _ _ _ _ _ _ _
    refine ⟨by simp,_,_,105,_,Z,(fun w=>rfl),(xO A.n (A.n + 1) _ _ 3 1 [] C O (leC.get _ _ k1) (by simp) (leC.get _ _ k2) (by simp)).mono ?_⟩
    rintro en u' A1 ⟨rfl,rfl,rfl⟩
    refine ⟨[.agg #[bi [],num 0,.slice none 0 0],.bool false],?_,?_⟩
    · exact fZ.cell Z (nW uR ia (iK (AH.set_get_same _ _ _) n3.symm) Z) (fZ.cell Z (nX sY (AH.set_get_same _ _ _) Z) fZ.nil)
    · rw [et,hn]
      have X:=hle.trans leC
      have nC:=leC.n
      have nH:(B.hide [some b0]).n=B.n:=rfl
      have lbC:=wfC _ _ gC
      have a0:=AH.wf_new wfC (.row true [] 0)
      have aa:=AH.wf_set a0 (k:=C.n) (by show C.n < C.n + 1;omega) (.row true [] 0)
      have ab:=AH.wf_set aa (k:=A.n) (by show A.n < C.n + 1;omega) (.row true (ns [bi [],num 0,.slice none 0 0] 0 [bi [],num 0,.slice none 0 0]) 3)
      have l1:=AH.le_new X D (.row true [] 0)
      have l2:A0.le ((C.new (.row true [] 0)).set C.n (.row true [] 0)):=pz l1 D (aX D X.n)
      refine ⟨.slice none 0 0,y0,y5,y6,y7,y8,y9,rfl,?_,AH.wf_set ab (by show A.n + 1 < C.n + 1;omega) _,?_,Fresh.nil _ _ _,fun q=>by cases q⟩
      · exact pz (pz l2 D (g0 A.n (Nat.le_refl _))) D (g0 (A.n + 1) O)
      · exact iK (iK (iK ((AH.new_get_ne _ _ O).trans gC) O) n1) n2
end Go.Proofs.YtjppkekmddjcfaaGreatDoor
