import Derived.Test.YtjppkekmddjcfaaGreatDoorTC7
import Derived.Test.YtjppkekmddjcfaaGreatDoorTC3
import Derived.Test.YtjppkekmddjcfaaGreatDoorTC2
import Derived.Test.YtjppkekmddjcfaaGreatDoorTC5
import Derived.Shelf.SlSortCmp.WholeK
import Derived.Shelf.SlSortCmp.NoneTotal
import Derived.Shelf.Sort.Plain
import Derived.Shelf.Slices.In.SortNone
set_option linter.unusedSectionVars false
set_option linter.unusedVariables false
set_option linter.unusedSimpArgs false
namespace Go.Proofs.YtjppkekmddjcfaaGreatDoor
open Go Go.RowKit V
set_option maxRecDepth 100000
theorem GT:dq Tryz.prog 24=some [(0,1),(1,1)]:=by kernel_rfl
theorem vw:dq Tryz.prog 27=some [(0,2),(2,1)]:=by kernel_rfl
theorem GU:dq Tryz.prog 83=some [(0,1),(1,1),(2,1)]:=by kernel_rfl
theorem Sh:type_of% @Tryz.underlying24:=@Tryz.underlying24
theorem MQ:type_of% @Tryz.underlying27:=@Tryz.underlying27
theorem Sj:type_of% @Tryz.underlying83:=@Tryz.underlying83
theorem Sk:cO Tryz.prog 24=some (.agg #[.int .i64 0,.slice none 0 0]):=by kernel_rfl
theorem vp:cO Tryz.prog 27=some (.agg #[.int .i64 0,.slice none 0 0,.slice none 0 0]):=by kernel_rfl

theorem dU {α:Type} {l m:List α} {d:α} (h:l.length=m.length) (q:∀ j,j < l.length->l.getD j d=m.getD j d):l=m:=by
 apply List.ext_getElem h;intro i h1 h2;have:=q i h1;rwa [gd h1,gd h2] at this

theorem CX (u1 u2:Value) (l1 l2:List Int) (A:AH) (hn:l1.length<=100000000) (a0:bJ A 1 u1 (c9 l1)) (a2:bJ A 1 u2 (c9 l2)):bG Tryz.prog 80 #[u1,u2] A (fun v A1=>v=.bool (decide (l1=l2))/\A.le A1/\A1.wf):=by
 refine lN Tryz.call80 Tryz.func80 Z Tryz.results80 Tryz.ntmps80 Z (fun wf=>?_);have V:=AH.le.refl A;refine ao.seq fun _ h2=>.region<|.q Z (ah Z)<|.nil<|h2 _ _<|.seq fun _ h4=>.seq fun _ h6=>.region<|.q Z (ae Z)<|.q Z (bH (n:=l1.length) er Z (a0.le V) O (eB _)) ?_;refine Ops.q Z (ae Z)<|.q Z (bH (n:=l2.length) er Z (a2.le V) O (eB _))<|.q Z (fF Z Z)<|.nil<|h6 _ _<|.if rfl (fun p7=>?_) (fun p7=>?_)
 ·refine ao.seq fun _ h9=>.region<|.q Z (ah Z)<|.nil<|h9 _ _<|.rt (by exact be Z (⟨by first | (rw [decide_eq_false (fun e=>‹¬ l1.length=l2.length› (congrArg List.length e))];rfl) | (rw [decide_eq_false (fun e=>‹¬ l1.getD i 0=l2.getD i 0› (congrArg (fun z=>z.getD i 0) e))];rfl) | (rw [decide_eq_true (dU hl (fun j h=>hq j O))];rfl),V,wf⟩))
 refine ao.skip<|h4 _ _<|.seq fun _ a9=>.seq fun _ aa=>.region<|.q Z (ah Z)<|.nil<|aa _ _<|.block<|.loop (X:=Nat) (fun i=>[(0,u1),(1,u2),(5,num ((i:Nat):Int))]) (fun i B=>(i<=l1.length/\l1.length=l2.length/\∀ j,j < i->l1.getD j 0=l2.getD j 0)/\A.le B) (fun i=>l1.length - i) 0 (nR Z Z Z) (⟨⟨Nat.zero_le _,by omega,fun j h=>by omega⟩,V⟩) ?_;rintro i B15 ⟨⟨hi,hl,hq⟩,D⟩;refine ao.wf fun a1=>.seq fun _ ab=>.seq fun _ ac=>.region<|.q Z (ae Z)<|.q Z (ae Z)<|.q Z (bH (n:=l1.length) er Z (a0.le D) O (eB _))<|.q Z (cA Z Z)<|.nil<|ac _ _ ?_;refine ao.if rfl (fun ay=>?_) (fun ay=>?_)
 ·refine ao.skip<|ab _ _<|.seq fun _ ad=>.block<|.seq fun _ ag=>.drawn [0,1,2,3,4,5,6,7,8] mixed Y Y Z<|.q Z Z Z (ae Z)<|.q Z Z Z (ae Z) ?_;obtain ⟨aG,aP,aE,aZ,aC,aV,aS,a5,ar,a7,aA,a3⟩:=bJ.at (i:=i) (a0.le D) O3 O;refine bj.q Z Z Z (aJ er dx Z a5 Z ar)<|.q Z Z Z (ak fj Z Z a7 ((dh a3).trans (df O)))<|.q Z Z Z (ae Z)<|.q Z Z Z (ae Z) ?_;obtain ⟨aI,aR,aF,b0,aD,aY,aT,a6,av,a8,aB,a4⟩:=bJ.at (i:=i) (a2.le D) O3 O;refine bj.q Z Z Z (aJ er dx Z a6 Z av)<|.q Z Z Z (ak fj Z Z a8 ((dh a4).trans (df O)))<|.q Z Z Z (GZ Z Z)<|.done<|ag _ _<|.if rfl (fun az=>?_) (fun az=>?_)
  ·refine ao.seq fun _ ai=>.region<|.q Z (ah Z)<|.nil<|ai _ _<|.rt (by exact be Z (⟨by first | (rw [decide_eq_false (fun e=>‹¬ l1.length=l2.length› (congrArg List.length e))];rfl) | (rw [decide_eq_false (fun e=>‹¬ l1.getD i 0=l2.getD i 0› (congrArg (fun z=>z.getD i 0) e))];rfl) | (rw [decide_eq_true (dU hl (fun j h=>hq j O))];rfl),D,a1⟩))
  refine ao.skip<|ad _ _<|.region<|.q Z (ae Z)<|.q Z (bN (b:=1) Z Z O)<|.q Z (ah Z)<|.nil ?_;exact ⟨i + 1,nR Z Z Z,Z,⟨⟨by omega,hl,fun j h=>(Nat.lt_succ_iff_lt_or_eq.1 h).elim (hq j) (fun z=>by subst z;exact Decidable.not_not.1 ‹_›)⟩,D⟩,O1⟩
 refine ao.exit<|a9 _ _<|.seq fun _ ap=>.region<|.q Z (ah Z)<|.nil<|ap _ _<|.rt (by exact be Z (⟨by first | (rw [decide_eq_false (fun e=>‹¬ l1.length=l2.length› (congrArg List.length e))];rfl) | (rw [decide_eq_false (fun e=>‹¬ l1.getD i 0=l2.getD i 0› (congrArg (fun z=>z.getD i 0) e))];rfl) | (rw [decide_eq_true (dU hl (fun j h=>hq j O))];rfl),D,a1⟩))

theorem LC (k1 s1 k2 s2:Int) (av aA ay aB:Value) (D V:List Bool) (N1 N2:List (List Int)) (a0 a1:List Value) (A:AH) (dO:D.length<=1000000) (dS:N1.length<=1000000) (hrn:∀ r ∈ N1,r.length<=100000) (ap:bJ A 1 av (cq D)) (ar:bJ A 1 aA (em a0)) (a5:a0.length=N1.length) (bV:∀ i,i < N1.length->bJ A 1 (a0.getD i undef) (c9 (N1.getD i []))) (aC:bJ A 1 ay (cq V)) (aD:bJ A 1 aB (em a1)) (a6:a1.length=N2.length) (bY:∀ i,i < N2.length->bJ A 1 (a1.getD i undef) (c9 (N2.getD i []))):bG Tryz.prog 34 #[.agg #[num (k1),num (s1),av,aA],.agg #[num (k2),num (s2),ay,aB]] A (fun v A1=>v=.bool (decide (k1=k2/\s1=s2/\D=V/\N1=N2))/\A.le A1/\A1.wf):=by
 refine lN Tryz.call34 Tryz.func34 Z Tryz.results34 Tryz.ntmps34 Z (fun wf=>?_);have cu:=AH.le.refl A;refine ao.seq fun _ h2=>.region<|.l Z (fun _ _ c3 _=>ej wf rfl rfl fun A5 b4 aF=>?_);have ck:=cu.trans aF.le;refine c3 _ _<|.l Z (fun _ _ c4 _=>ej aF.wf rfl rfl fun A10 b9 a2=>?_);have ai:=a2.le.get _ _ aF.get;have a3:=ck.trans a2.le;refine c4 _ _<|.q Z (ah Z)<|.nil<|h2 _ _<|.seq fun _ ba=>.seq fun _ az=>.region<|.q Z (aj rD dx U Z)<|.q Z (ak fj Z Z ai Z)<|.q Z (aj rD dx U Z) ?_;refine Ops.q Z (ak fj Z Z a2.get Z)<|.q Z (GZ Z Z)<|.q Z (ae Z)<|.part (t:=12) Z (fun cv=>?_) (fun cv=>?_)
 ·refine Ops.off Z Z Z Z<|.off Z Z Z Z<|.off Z Z Z Z<|.off Z Z Z Z<|.off Z Z Z Z<|.q Z (bi Z Z)<|.q Z (ae Z)<|.off Z Z Z Z<|.off Z Z Z Z<|.off Z Z Z Z ?_;refine Ops.off Z Z Z Z<|.off Z Z Z Z<|.off Z Z Z Z<|.off Z Z Z Z<|.q Z (bi Z Z)<|.q Z (ae Z)<|.off Z Z Z Z<|.off Z Z Z Z<|.off Z Z Z Z<|.off Z Z Z Z ?_;refine Ops.off Z Z Z Z<|.off Z Z Z Z<|.off Z Z Z Z<|.q Z (bi Z Z)<|.nil<|az _ _<|.cond_true Z<|.seq fun _ bb=>.region<|.q Z (ah Z) ?_;refine Ops.nil<|bb _ _<|.rt (by exact be Z (⟨by first | (rw [decide_eq_false (fun e=>‹¬ k1=k2› e.1)];rfl) | (rw [decide_eq_false (fun e=>‹¬ s1=s2› e.2.1)];rfl) | (rw [decide_eq_false (fun e=>‹¬ D.length=V.length› (congrArg List.length e.2.2.1))];rfl) | (rw [decide_eq_false (fun e=>‹¬ a0.length=a1.length› (by rw [a5,a6,e.2.2.2]))];rfl) | (rw [decide_eq_false (fun e=>absurd (congrArg (fun z=>z.getD i false) e.2.2.1) (by simpa using ‹(!(D.getD i false == V.getD i false))=true›))];rfl) | (rw [decide_eq_false (fun e=>‹¬ N1.getD j []=N2.getD j []› (congrArg (fun z=>z.getD j []) e.2.2.2))];rfl) | (rw [decide_eq_true ⟨ab,ac,hac,dU O (fun z h=>hr z O)⟩];rfl),a3,a2.wf⟩))
 refine Ops.on Z Z<|.q Z (aj uf dx U Z)<|.on Z Z<|.q Z (ak fj Z Z ai Z)<|.on Z Z<|.q Z (aj uf dx U Z)<|.on Z Z<|.q Z (ak fj Z Z a2.get Z)<|.on Z Z<|.q Z (GZ Z Z) ?_;refine Ops.q Z (bw Z Z)<|.q Z (ae Z)<|.part (t:=19) Z (fun cB=>?_) (fun cB=>?_)
 ·refine Ops.off Z Z Z Z<|.off Z Z Z Z<|.off Z Z Z Z<|.off Z Z Z Z<|.off Z Z Z Z<|.off Z Z Z Z<|.off Z Z Z Z<|.q Z (bi Z Z)<|.q Z (ae Z)<|.off Z Z Z Z ?_;refine Ops.off Z Z Z Z<|.off Z Z Z Z<|.off Z Z Z Z<|.off Z Z Z Z<|.off Z Z Z Z<|.off Z Z Z Z<|.q Z (bi Z Z)<|.nil<|az _ _<|.cond_true Z ?_;refine ao.seq fun _ bc=>.region<|.q Z (ah Z)<|.nil<|bc _ _<|.rt (by exact be Z (⟨by first | (rw [decide_eq_false (fun e=>‹¬ k1=k2› e.1)];rfl) | (rw [decide_eq_false (fun e=>‹¬ s1=s2› e.2.1)];rfl) | (rw [decide_eq_false (fun e=>‹¬ D.length=V.length› (congrArg List.length e.2.2.1))];rfl) | (rw [decide_eq_false (fun e=>‹¬ a0.length=a1.length› (by rw [a5,a6,e.2.2.2]))];rfl) | (rw [decide_eq_false (fun e=>absurd (congrArg (fun z=>z.getD i false) e.2.2.1) (by simpa using ‹(!(D.getD i false == V.getD i false))=true›))];rfl) | (rw [decide_eq_false (fun e=>‹¬ N1.getD j []=N2.getD j []› (congrArg (fun z=>z.getD j []) e.2.2.2))];rfl) | (rw [decide_eq_true ⟨ab,ac,hac,dU O (fun z h=>hr z O)⟩];rfl),a3,a2.wf⟩))
 refine Ops.on Z Z<|.q Z (aj kF iB U Z)<|.on Z Z<|.q Z (ak iu Z Z ai Z)<|.on Z Z<|.q Z (bH (n:=D.length) kR Z (ap.le a3) O (ff _))<|.on Z Z<|.q Z (aj kF iB U Z)<|.on Z Z<|.q Z (ak iu Z Z a2.get Z) ?_;refine Ops.on Z Z<|.q Z (bH (n:=V.length) kR Z (aC.le a3) O (ff _))<|.on Z Z<|.q Z (fF Z Z)<|.q Z (bw Z Z)<|.q Z (ae Z)<|.part (t:=28) Z (fun cC=>?_) (fun cC=>?_)
 ·refine Ops.off Z Z Z Z<|.off Z Z Z Z<|.off Z Z Z Z<|.off Z Z Z Z<|.off Z Z Z Z<|.off Z Z Z Z<|.off Z Z Z Z<|.q Z (bi Z Z)<|.nil<|az _ _ ?_;refine ao.cond_true Z<|.seq fun _ bd=>.region<|.q Z (ah Z)<|.nil<|bd _ _<|.rt (by exact be Z (⟨by first | (rw [decide_eq_false (fun e=>‹¬ k1=k2› e.1)];rfl) | (rw [decide_eq_false (fun e=>‹¬ s1=s2› e.2.1)];rfl) | (rw [decide_eq_false (fun e=>‹¬ D.length=V.length› (congrArg List.length e.2.2.1))];rfl) | (rw [decide_eq_false (fun e=>‹¬ a0.length=a1.length› (by rw [a5,a6,e.2.2.2]))];rfl) | (rw [decide_eq_false (fun e=>absurd (congrArg (fun z=>z.getD i false) e.2.2.1) (by simpa using ‹(!(D.getD i false == V.getD i false))=true›))];rfl) | (rw [decide_eq_false (fun e=>‹¬ N1.getD j []=N2.getD j []› (congrArg (fun z=>z.getD j []) e.2.2.2))];rfl) | (rw [decide_eq_true ⟨ab,ac,hac,dU O (fun z h=>hr z O)⟩];rfl),a3,a2.wf⟩))
 refine Ops.on Z Z<|.q Z (aj kG iQ U Z)<|.on Z Z<|.q Z (ak jN Z Z ai Z)<|.on Z Z<|.q Z (bH (n:=a0.length) m5 Z (ar.le a3) O (iO _))<|.on Z Z<|.q Z (aj kG iQ U Z)<|.on Z Z<|.q Z (ak jN Z Z a2.get Z) ?_;refine Ops.on Z Z<|.q Z (bH (n:=a1.length) m5 Z (aD.le a3) O (iO _))<|.on Z Z<|.q Z (fF Z Z)<|.q Z (bw Z Z)<|.nil<|az _ _<|.if rfl (fun cF=>?_) (fun cF=>?_)
 ·refine ao.seq fun _ bl=>.region<|.q Z (ah Z)<|.nil<|bl _ _<|.rt (by exact be Z (⟨by first | (rw [decide_eq_false (fun e=>‹¬ k1=k2› e.1)];rfl) | (rw [decide_eq_false (fun e=>‹¬ s1=s2› e.2.1)];rfl) | (rw [decide_eq_false (fun e=>‹¬ D.length=V.length› (congrArg List.length e.2.2.1))];rfl) | (rw [decide_eq_false (fun e=>‹¬ a0.length=a1.length› (by rw [a5,a6,e.2.2.2]))];rfl) | (rw [decide_eq_false (fun e=>absurd (congrArg (fun z=>z.getD i false) e.2.2.1) (by simpa using ‹(!(D.getD i false == V.getD i false))=true›))];rfl) | (rw [decide_eq_false (fun e=>‹¬ N1.getD j []=N2.getD j []› (congrArg (fun z=>z.getD j []) e.2.2.2))];rfl) | (rw [decide_eq_true ⟨ab,ac,hac,dU O (fun z h=>hr z O)⟩];rfl),a3,a2.wf⟩))
 refine ao.skip<|ba _ _<|.seq fun _ bm=>.seq fun _ bp=>.region<|.q Z (ah Z)<|.nil<|bp _ _<|.block<|.loop (X:=Nat) (fun i=>[(2,.pointer (some ⟨b4,0,none⟩)),(3,.pointer (some ⟨b9,0,none⟩)),(5,num ((i:Nat):Int))]) (fun i B=>(i<=D.length/\(k1=k2/\s1=s2/\D.length=V.length/\a0.length=a1.length)/\∀ j,j < i->D.getD j false=V.getD j false)/\A.le B/\B.get b4=some (.row true [num (k1),num (s1),av,aA] 4)/\B.get b9=some (.row true [num (k2),num (s2),ay,aB] 4)) (fun i=>D.length - i) 0 (nR Z Z Z) (⟨⟨Nat.zero_le _,⟨Decidable.not_not.1 ‹¬ ¬ k1=k2›,Decidable.not_not.1 ‹¬ ¬ s1=s2›,Decidable.not_not.1 ‹¬ ¬ D.length=V.length›,Decidable.not_not.1 ‹¬ ¬ a0.length=a1.length›⟩,fun j h=>by omega⟩,a3,ai,a2.get⟩) ?_;rintro i B35 ⟨⟨hi,hl,hq⟩,aa,a4,a9⟩;refine ao.wf fun aY=>?_;obtain ⟨ab,ac,aI,c7⟩:=hl;refine ao.seq fun _ br=>.seq fun _ bu=>.region<|.q Z (ae Z)<|.q Z (aj kF iB U Z)<|.q Z (ak iu Z Z a4 Z)<|.q Z (bH (n:=D.length) kR Z (ap.le aa) O (ff _))<|.q Z (cA Z Z)<|.nil<|bu _ _ ?_;refine ao.if rfl (fun cH=>?_) (fun cH=>?_)
 ·refine ao.skip<|br _ _<|.seq fun _ bv=>.block<|.seq fun _ bA=>.drawn [0,1,2,3,4,5,6,7,8,9,10] mixed Y Y Z<|.q Z Z Z (aj kF iB U Z)<|.q Z Z Z (ak iu Z Z a4 Z)<|.q Z Z Z (ae Z) ?_;obtain ⟨dv,dG,dd,e5,d0,e1,dV,b0,cb,b5,cU,aP⟩:=bJ.at (i:=i) (ap.le aa) Oi O;refine bj.q Z Z Z (aJ kR lJ Z b0 Z cb)<|.q Z Z Z (ak vm Z Z b5 ((dh aP).trans (ek O)))<|.q Z Z Z (aj kF iB U Z)<|.q Z Z Z (ak iu Z Z a9 Z)<|.q Z Z Z (ae Z) ?_;obtain ⟨dw,dI,di,e6,d1,e2,dW,b1,cc,b6,cV,aR⟩:=bJ.at (i:=i) (aC.le aa) Oi O;refine bj.q Z Z Z (aJ kR lJ Z b1 Z cc)<|.q Z Z Z (ak vm Z Z b6 ((dh aR).trans (ek O)))<|.q Z Z Z (SO u4 Z Z)<|.done<|bA _ _<|.ifB Z (fun cK=>?_) (fun cK=>?_)
  ·refine ao.seq fun _ bB=>.region<|.q Z (ah Z)<|.nil<|bB _ _<|.rt (by exact be Z (⟨by first | (rw [decide_eq_false (fun e=>‹¬ k1=k2› e.1)];rfl) | (rw [decide_eq_false (fun e=>‹¬ s1=s2› e.2.1)];rfl) | (rw [decide_eq_false (fun e=>‹¬ D.length=V.length› (congrArg List.length e.2.2.1))];rfl) | (rw [decide_eq_false (fun e=>‹¬ a0.length=a1.length› (by rw [a5,a6,e.2.2.2]))];rfl) | (rw [decide_eq_false (fun e=>absurd (congrArg (fun z=>z.getD i false) e.2.2.1) (by simpa using ‹(!(D.getD i false == V.getD i false))=true›))];rfl) | (rw [decide_eq_false (fun e=>‹¬ N1.getD j []=N2.getD j []› (congrArg (fun z=>z.getD j []) e.2.2.2))];rfl) | (rw [decide_eq_true ⟨ab,ac,hac,dU O (fun z h=>hr z O)⟩];rfl),aa,aY⟩))
  refine ao.skip<|bv _ _<|.region<|.q Z (ae Z)<|.q Z (bN (b:=1) Z Z O)<|.q Z (ah Z)<|.nil ?_;exact ⟨i + 1,nR Z Z Z,Z,⟨⟨by omega,⟨ab,ac,aI,c7⟩,fun j h=>(Nat.lt_succ_iff_lt_or_eq.1 h).elim (hq j) (fun z=>by subst z;simpa using ‹(!(D.getD j false == V.getD j false))=false›)⟩,aa,a4,a9⟩,O1⟩
 refine ao.exit<|bm _ _<|.seq fun _ bC=>.seq fun _ bD=>.region<|.q Z (ah Z)<|.nil<|bD _ _<|.block<|.loop (X:=Nat) (fun j=>[(2,.pointer (some ⟨b4,0,none⟩)),(3,.pointer (some ⟨b9,0,none⟩)),(6,num ((j:Nat):Int))]) (fun j B=>(j<=a0.length/\D=V/\∀ z,z < j->N1.getD z []=N2.getD z [])/\A.le B/\B.get b4=some (.row true [num (k1),num (s1),av,aA] 4)/\B.get b9=some (.row true [num (k2),num (s2),ay,aB] 4)) (fun j=>a0.length - j) 0 (nR Z Z Z) (⟨⟨Nat.zero_le _,dU aI (fun j h=>hq j O),fun j h=>by omega⟩,aa,a4,a9⟩) ?_;rintro j B56 ⟨⟨hj,hac,hr⟩,a7,a8,ad⟩;refine ao.wf fun aZ=>?_;have hrj:=fun q:j < N1.length=>hrn _ (bx (d:=([]:List Int)) q);refine ao.seq fun _ bL=>.seq fun _ bM=>.region<|.q Z (ae Z)<|.q Z (aj kG iQ U Z)<|.q Z (ak jN Z Z a8 Z)<|.q Z (bH (n:=a0.length) m5 Z (ar.le a7) O (iO _))<|.q Z (cA Z Z)<|.nil<|bM _ _ ?_;refine ao.if rfl (fun cP=>?_) (fun cP=>?_)
 ·refine ao.skip<|bL _ _<|.seq fun _ bO=>.block<|.seq fun _ bP=>.drawn [0,1,2,3,4,5,6,7,8,9,10,11] mixed Y Y Z<|.q Z Z Z (aj kG iQ U Z)<|.q Z Z Z (ak jN Z Z a8 Z)<|.q Z Z Z (ae Z) ?_;obtain ⟨dz,dJ,dj,e7,d2,e3,dZ,b2,cf,b7,cX,aS⟩:=bJ.at (i:=j) (ar.le a7) Ok O;refine bj.q Z Z Z (aJ m5 fC Z b2 Z cf)<|.q Z Z Z (ak kW Z Z b7 ((dh aS).trans (eH O)))<|.q Z Z Z (aj kG iQ U Z)<|.q Z Z Z (ak jN Z Z ad Z)<|.q Z Z Z (ae Z) ?_;obtain ⟨dD,dK,dk,e9,d3,e4,e0,b3,ch,b8,cZ,aT⟩:=bJ.at (i:=j) (aD.le a7) Ok O;refine bj.q Z Z Z (aJ m5 fC Z b3 Z ch)<|.q Z Z Z (ak kW Z Z b8 ((dh aT).trans (eH O)))<|.l Z Z Z (fun _ _ aV _=>aK Z (CX (a0.getD j undef) (a1.getD j undef) ((N1.getD j [])) ((N2.getD j [])) B56 (by have:=hrj O;omega) ((bV j O).le a7) ((bY j O).le a7)) ?_);rintro ea A75 ⟨rfl,ag,aG⟩;have bR:=ag.get _ _ a8;have bS:=ag.get _ _ ad;have aE:=a7.trans ag;refine aV _ _ (aO.none Y)<|.q Z Z Z (ot Z)<|.done<|bP _ _<|.if rfl (fun cS=>?_) (fun cS=>?_)
  ·refine ao.seq fun _ bT=>.region<|.q Z (ah Z)<|.nil<|bT _ _<|.rt (by exact be Z (⟨by first | (rw [decide_eq_false (fun e=>‹¬ k1=k2› e.1)];rfl) | (rw [decide_eq_false (fun e=>‹¬ s1=s2› e.2.1)];rfl) | (rw [decide_eq_false (fun e=>‹¬ D.length=V.length› (congrArg List.length e.2.2.1))];rfl) | (rw [decide_eq_false (fun e=>‹¬ a0.length=a1.length› (by rw [a5,a6,e.2.2.2]))];rfl) | (rw [decide_eq_false (fun e=>absurd (congrArg (fun z=>z.getD i false) e.2.2.1) (by simpa using ‹(!(D.getD i false == V.getD i false))=true›))];rfl) | (rw [decide_eq_false (fun e=>‹¬ N1.getD j []=N2.getD j []› (congrArg (fun z=>z.getD j []) e.2.2.2))];rfl) | (rw [decide_eq_true ⟨ab,ac,hac,dU O (fun z h=>hr z O)⟩];rfl),aE,aG⟩))
  refine ao.skip<|bO _ _<|.region<|.q Z (ae Z)<|.q Z (bN (b:=1) Z Z O)<|.q Z (ah Z)<|.nil ?_;exact ⟨j + 1,nR Z Z Z,Z,⟨⟨by omega,hac,fun z h=>(Nat.lt_succ_iff_lt_or_eq.1 h).elim (hr z) (fun w=>by subst w;exact Decidable.not_not.1 ‹¬ ¬ N1.getD z []=N2.getD z []›)⟩,aE,bR,bS⟩,O1⟩
 refine ao.exit<|bC _ _<|.seq fun _ bU=>.region<|.q Z (ah Z)<|.nil<|bU _ _<|.rt (by exact be Z (⟨by first | (rw [decide_eq_false (fun e=>‹¬ k1=k2› e.1)];rfl) | (rw [decide_eq_false (fun e=>‹¬ s1=s2› e.2.1)];rfl) | (rw [decide_eq_false (fun e=>‹¬ D.length=V.length› (congrArg List.length e.2.2.1))];rfl) | (rw [decide_eq_false (fun e=>‹¬ a0.length=a1.length› (by rw [a5,a6,e.2.2.2]))];rfl) | (rw [decide_eq_false (fun e=>absurd (congrArg (fun z=>z.getD i false) e.2.2.1) (by simpa using ‹(!(D.getD i false == V.getD i false))=true›))];rfl) | (rw [decide_eq_false (fun e=>‹¬ N1.getD j []=N2.getD j []› (congrArg (fun z=>z.getD j []) e.2.2.2))];rfl) | (rw [decide_eq_true ⟨ab,ac,hac,dU O (fun z h=>hr z O)⟩];rfl),a7,aZ⟩))

theorem ya (w:List UInt8) (r:Nat) (iv:Bool) (A:AH):bG Tryz.prog 89 #[aX (w),num ((r:Nat):Int),.bool (iv)] A (fun v A1=>A.le A1/\A1.wf/\Fresh A A1 v 3 (cN [⟨w,(r:Int),iv⟩])):=by
 refine yl Tryz.call89 Tryz.func89 Z Tryz.results89 Tryz.ntmps89 Z (fun wf=>?_);have V:=AH.le.refl A;refine ao.seq fun _ h2=>.region<|.q Z (ah Z)<|.nil<|h2 _ _<|.seq fun _ h4=>.region<|.q Z (ae Z)<|.q Z (ae Z)<|.q Z (ae Z) ?_;refine Ops.q Z (cR Z (aU Uy IW TR Z))<|.l Z (fun _ _ X _=>aN (c:=[aX (w),num ((r:Nat):Int),.bool (iv)]) wf rfl (ax oO jz IW rfl U U rfl) fun A7 b6 h=>?_);have D:=aL wf (Nat.le_trans V.n h.lo);have a0:=V.trans h.le;refine X _ _<|.q Z (ah Z)<|.nil<|h4 _ _<|.rt (by exact be Z (⟨a0,h.wf,Fresh.lit h.get D Z (Nat.le_of_ble_eq_true Z)⟩))

theorem Pn (A:AH):bG Tryz.prog 43 #[] A (fun v A1=>∃ bu br a b c d,v=.agg #[num ((2:Nat):Int),(.slice (some ⟨bu,0,none⟩) 1 1),(.slice (some ⟨br,0,none⟩) 4 4)]/\A.le A1/\A1.wf/\bJ A1 1 (.slice (some ⟨bu,0,none⟩) 1 1) (dc dN)/\bJ A1 3 (.slice (some ⟨br,0,none⟩) 4 4) (ci (cW a b c d))/\Proofs A1 (cW a b c d)):=by
 refine Uo Tryz.call43 Tryz.func43 Z Tryz.results43 Tryz.ntmps43 Z (fun wf=>?_);have b2:=AH.le.refl A;refine ao.seq fun _ h2=>.region<|.l Z (fun _ _ cF _=>ca wf vp rfl fun A5 b4 a2=>?_);have aA:=aL wf (Nat.le_trans b2.n a2.lo);have cH:=b2.trans a2.le;refine cF _ _<|.nil<|h2 _ _<|.seq fun _ h9=>.region<|.l Z (fun _ _ bL _=>aN (c:=[aX ([97,98,65,66])]) a2.wf rfl (ax kh fz z9 rfl U U rfl) fun A12 ab a1=>?_);have a4:=ne_new a2.wf a2.get a1.lo;have aP:=a1.le.get _ _ a2.get;have ar:=cH.trans a1.le;refine bL _ _<|.q Z (cR Z (aU Sh Sk GT Z))<|.l Z (fun _ _ bM _=>aK Z (ya ([]) 0 true A12) ?_);rintro cV A18 ⟨a3,aB,a6⟩;have aR:=a3.get _ _ aP;have cc:=a3.get _ _ a1.get;have av:=ar.trans a3;have ad:=a6.base ar;have c3:=a6.ne a1.wf aP;refine bM _ _ ?_;obtain ⟨b3,aY,aE,cK,_⟩:=ad.own.slice;subst cK;refine Ops.q Z (cR Z (aU Sj rm GU Z))<|.l Z (fun _ _ bO _=>aK Z (ya ([65]) 0 false A18) ?_);rintro cX A29 ⟨a0,aC,a7⟩;have aS:=a0.get _ _ aR;have cf:=a0.get _ _ cc;have b8:=ad.le a0;have ay:=av.trans a0;have ag:=a7.base av;have c4:=a7.ne aB aR;refine bO _ _ ?_;obtain ⟨b5,aZ,aF,cP,_⟩:=ag.own.slice;subst cP;refine Ops.q Z (cR Z (aU Sj rm GU Z))<|.l Z (fun _ _ bP _=>aK Z (ya ([66]) 0 false A29) ?_);rintro cZ A42 ⟨X,aD,a8⟩;have aT:=X.get _ _ aS;have ch:=X.get _ _ cf;have b9:=b8.le X;have ba:=ag.le X;have az:=ay.trans X;have ai:=a8.base ay;have c7:=a8.ne aC aS;refine bP _ _ ?_;obtain ⟨b6,b0,aG,cS,_⟩:=ai.own.slice;subst cS;refine Ops.q Z (cR Z (aU Sj rm GU Z))<|.l Z (fun _ _ bR _=>aK Z (ya ([66,65]) 0 true A42) ?_);rintro d0 A57 ⟨V,aa,a9⟩;have aV:=V.get _ _ aT;have ck:=V.get _ _ ch;have bb:=b9.le V;have bc:=ba.le V;have bd:=ai.le V;have bU:=az.trans V;have ap:=a9.base az;have cb:=a9.ne aD aT;refine bR _ _ ?_;obtain ⟨b7,b1,aI,cU,_⟩:=ap.own.slice;subst cU;refine Ops.q Z (cR Z (aU Sj rm GU Z))<|.l Z (fun _ _ bS _=>aN (c:=[aX ([98,97]),aX ([97,98]),.slice b3 aY aE,aX ([98,65]),aX ([65,98]),.slice b5 aZ aF,aX ([66,97]),aX ([97,66]),.slice b6 b0 aG,aX ([66,65]),aX ([65,66]),.slice b7 b1 aI]) aa rfl (ax jw d8 rm rfl U U rfl) fun A74 ac h=>?_);have a5:=ne_new aa aV h.lo;have cu:=h.le.get _ _ aV;have cv:=h.le.get _ _ ck;have bl:=bb.le h.le;have bm:=bc.le h.le;have bp:=bd.le h.le;have bv:=ap.le h.le;have bV:=bU.trans h.le;refine bS _ _<|.q Z (cR Z (aU MQ vp vw Z))<|.l Z (fun _ _ bT _=>aM (cs:=[num ((2:Nat):Int),.slice (some ⟨ab,0,none⟩) 1 1,.slice (some ⟨ac,0,none⟩) 4 4]) (c':=[num ((2:Nat):Int),.slice (some ⟨ab,0,none⟩) 1 1,.slice (some ⟨ac,0,none⟩) 4 4]) h.wf rfl rfl rfl rfl cT cu (Nat.le_of_ble_eq_true rfl) rfl rfl fun A88 D=>?_);have cB:=D.keep _ _ a4.symm cv;have cC:=D.keep _ _ a5.symm h.get;have bA:=bl.keep D.keep c3;have bB:=bm.keep D.keep c4;have bC:=bp.keep D.keep c7;have bD:=bv.keep D.keep cb;have bY:=al bV wf aA D.n D.keep;refine bT _ _<|.nil<|h9 _ _<|.ret ?_;repeat first | with_reducible refine bE ?_ | with_reducible refine bk ?_
 exact be (dE dn cT Z D.get Z eh) (⟨ab,ac,(Value.slice b3 aY aE),(Value.slice b5 aZ aF),(Value.slice b6 b0 aG),(Value.slice b7 b1 aI),rfl,bY,D.wf,eR (n:=1) cB rfl (Nat.le_refl _),eR (n:=4) cC rfl (Nat.le_refl _),fun r hr=>by simp only [cW,List.mem_cons,List.not_mem_nil,or_false] at hr;rcases hr with rfl | rfl | rfl | rfl;exact bA.slc;exact bB.slc;exact bC.slc;exact bD.slc⟩)

theorem RC (u:Value) (br:Nat) (a b c d:Value) (A:AH) (h:fy A u (.slice (some ⟨br,0,none⟩) 4 4) a b c d):bG Tryz.prog 12 #[.agg #[num ((2:Nat):Int),u,(.slice (some ⟨br,0,none⟩) 4 4)]] A (fun v A1=>v=num ((0:Nat):Int)/\A.le A1/\A1.wf) :=
 (EB 2 u dN (.slice (some ⟨br,0,none⟩) 4 4) (cW a b c d) A (Nat.le_of_ble_eq_true rfl) (Nat.le_of_ble_eq_true rfl) h.L h.u h.r h.p).mono (fun v A1 z=>by rw [ux] at z;exact z)

theorem Po (u:Value) (br:Nat) (a b c d:Value) (A:AH) (h:fy A u (.slice (some ⟨br,0,none⟩) 4 4) a b c d):bG Tryz.prog 21 #[.agg #[num ((2:Nat):Int),u,(.slice (some ⟨br,0,none⟩) 4 4)],aX [98,98,97,65]] A (fun v A1=>∃ dv,v=.tuple #[.agg #[aX [98,98],num ((4:Nat):Int),dv],num ((0:Nat):Int)]/\A.le A1/\A1.wf/\Fresh A A1 dv 3 (cN (mq 2 dN (cW a b c d) [98,98,97,65]).disk)) :=
 (pn 2 u dN (.slice (some ⟨br,0,none⟩) 4 4) (cW a b c d) [98,98,97,65] A (Nat.le_of_ble_eq_true rfl) (Nat.le_of_ble_eq_true rfl) h.L h.u h.r h.p).mono (fun v A1 z=>by have e:=OH a b c d;rw [e.1,e.2.1,e.2.2] at z;exact z)

theorem Pq (u:Value) (br:Nat) (a b c d:Value) (A:AH) (h:fy A u (.slice (some ⟨br,0,none⟩) 4 4) a b c d):bG Tryz.prog 21 #[.agg #[num ((2:Nat):Int),u,(.slice (some ⟨br,0,none⟩) 4 4)],aX [98,97,66]] A (fun v A1=>∃ dv,v=.tuple #[.agg #[aX [97],num ((1:Nat):Int),dv],num ((0:Nat):Int)]/\A.le A1/\A1.wf/\Fresh A A1 dv 3 (cN (mq 2 dN (cW a b c d) [98,97,66]).disk)) :=
 (pn 2 u dN (.slice (some ⟨br,0,none⟩) 4 4) (cW a b c d) [98,97,66] A (Nat.le_of_ble_eq_true rfl) (Nat.le_of_ble_eq_true rfl) h.L h.u h.r h.p).mono (fun v A1 z=>by have e:=OL a b c d;rw [e.1,e.2.1,e.2.2] at z;exact z)

theorem Pr (u:Value) (br:Nat) (a b c d:Value) (A:AH) (h:fy A u (.slice (some ⟨br,0,none⟩) 4 4) a b c d):bG Tryz.prog 21 #[.agg #[num ((2:Nat):Int),u,(.slice (some ⟨br,0,none⟩) 4 4)],aX [98,97,98,97]] A (fun v A1=>∃ dv,v=.tuple #[.agg #[aX [97,97,98,98],num ((3:Nat):Int),dv],num ((0:Nat):Int)]/\A.le A1/\A1.wf/\Fresh A A1 dv 3 (cN (mq 2 dN (cW a b c d) [98,97,98,97]).disk)) :=
 (pn 2 u dN (.slice (some ⟨br,0,none⟩) 4 4) (cW a b c d) [98,97,98,97] A (Nat.le_of_ble_eq_true rfl) (Nat.le_of_ble_eq_true rfl) h.L h.u h.r h.p).mono (fun v A1 z=>by have e:=OM a b c d;rw [e.1,e.2.1,e.2.2] at z;exact z)

theorem Ls (u:Value) (br:Nat) (a b c d:Value) (A:AH) (h:fy A u (.slice (some ⟨br,0,none⟩) 4 4) a b c d):bG Tryz.prog 28 #[.agg #[num ((2:Nat):Int),u,(.slice (some ⟨br,0,none⟩) 4 4)]] A (fun v A1=>v=.tuple #[.bool true,NG .zero,num ((0:Nat):Int)]/\A.le A1/\A1.wf) :=
 (ra 2 u dN (.slice (some ⟨br,0,none⟩) 4 4) (cW a b c d) A (Nat.le_of_ble_eq_true rfl) (Nat.le_of_ble_eq_true rfl) (fun _=>(qM a b c d).1) h.L h.u h.r h.p).mono (fun v A1 z=>by rw [OO] at z;exact z)

theorem Ij (u:Value) (br:Nat) (a b c d:Value) (A:AH) (h:fy A u (.slice (some ⟨br,0,none⟩) 4 4) a b c d):bG Tryz.prog 28 #[.agg #[num ((2:Nat):Int),u,.slice (some ⟨br,0,none⟩) 1 4]] A (fun v A1=>v=.tuple #[.bool false,NG ⟨0,-1,[98,97,65],[97,98,65],[98]⟩,num ((0:Nat):Int)]/\A.le A1/\A1.wf) :=
 (ra 2 u dN _ ((cW a b c d).take 1) A (Nat.le_of_ble_eq_true rfl) (Nat.le_of_ble_eq_true rfl) (fun _=>(qM a b c d).2.1) h.L h.u h.one.1 h.one.2).mono (fun v A1 z=>by rw [O4] at z;exact z)

theorem Lr (u:Value) (br:Nat) (a b c d:Value) (A:AH) (h:fy A u (.slice (some ⟨br,0,none⟩) 4 4) a b c d):bG Tryz.prog 30 #[.agg #[num ((2:Nat):Int),u,(.slice (some ⟨br,0,none⟩) 4 4)]] A (fun v A1=>v=.tuple #[.bool true,num ((0:Nat):Int)]/\A.le A1/\A1.wf) :=
 (ED 2 u dN (.slice (some ⟨br,0,none⟩) 4 4) (cW a b c d) A (Nat.le_of_ble_eq_true rfl) (Nat.le_of_ble_eq_true rfl) (fun _=>(qM a b c d).1) h.L h.u h.r h.p).mono (fun v A1 z=>by rw [OQ] at z;exact z)

theorem Lz (u:Value) (br:Nat) (a b c d:Value) (A:AH) (h:fy A u (.slice (some ⟨br,0,none⟩) 4 4) a b c d):bG Tryz.prog 16 #[.agg #[num ((2:Nat):Int),u,(.slice (some ⟨br,0,none⟩) 4 4)]] A (fun v A1=>v=.bool true/\A.le A1/\A1.wf) :=
 (sA 2 u dN (.slice (some ⟨br,0,none⟩) 4 4) (cW a b c d) A (Nat.le_of_ble_eq_true rfl) (Nat.le_of_ble_eq_true rfl) h.L h.M h.u h.r h.p).mono (fun v A1 z=>by rw [OU] at z;exact z)

theorem Ph (u:Value) (br:Nat) (a b c d:Value) (A:AH) (h:fy A u (.slice (some ⟨br,0,none⟩) 4 4) a b c d):bG Tryz.prog 14 #[.agg #[num ((2:Nat):Int),u,(.slice (some ⟨br,0,none⟩) 4 4)],aX [97,66]] A (fun v A1=>v=.bool true/\A.le A1/\A1.wf) :=
 (lI 2 u dN (.slice (some ⟨br,0,none⟩) 4 4) (cW a b c d) [97,66] A (Nat.le_of_ble_eq_true rfl) (Nat.le_of_ble_eq_true rfl) h.L h.M h.u h.r h.p).mono (fun v A1 z=>by have e:=Ed a b c d;rw [ux,e.1,e.2.2.1] at z;exact z)

theorem Pk (u:Value) (br:Nat) (a b c d:Value) (A:AH) (h:fy A u (.slice (some ⟨br,0,none⟩) 4 4) a b c d):bG Tryz.prog 14 #[.agg #[num ((2:Nat):Int),u,(.slice (some ⟨br,0,none⟩) 4 4)],aX [66,97]] A (fun v A1=>v=.bool false/\A.le A1/\A1.wf) :=
 (lI 2 u dN (.slice (some ⟨br,0,none⟩) 4 4) (cW a b c d) [66,97] A (Nat.le_of_ble_eq_true rfl) (Nat.le_of_ble_eq_true rfl) h.L h.M h.u h.r h.p).mono (fun v A1 z=>by have e:=Ed a b c d;rw [ux,e.2.1,e.2.2.2] at z;exact z)

theorem Pw (u:Value) (br:Nat) (a b c d:Value) (A:AH) (h:fy A u (.slice (some ⟨br,0,none⟩) 4 4) a b c d):bG Tryz.prog 18 #[.agg #[num ((2:Nat):Int),u,(.slice (some ⟨br,0,none⟩) 4 4)],.agg #[num ((2:Nat):Int),u,(.slice (some ⟨br,0,none⟩) 4 4)]] A (fun v A1=>v=.bool true/\A.le A1/\A1.wf) :=
 (LD 2 u dN (.slice (some ⟨br,0,none⟩) 4 4) (cW a b c d) 2 u dN (.slice (some ⟨br,0,none⟩) 4 4) (cW a b c d) A (Nat.le_of_ble_eq_true rfl) (Nat.le_of_ble_eq_true rfl) (Nat.le_of_ble_eq_true rfl) (fun r hr=>by simp only [cW,List.mem_cons,List.not_mem_nil,or_false] at hr;rcases hr with rfl | rfl | rfl | rfl <;> exact (Nat.le_of_ble_eq_true rfl)) h.u h.r h.p h.u h.r h.p).mono (fun v A1 z=>by rw [Ku] at z;exact z)

theorem Rz (u:Value) (br:Nat) (a b c d:Value) (A:AH) (h:fy A u (.slice (some ⟨br,0,none⟩) 4 4) a b c d):bG Tryz.prog 33 #[.agg #[num ((2:Nat):Int),u,(.slice (some ⟨br,0,none⟩) 4 4)]] A (fun v A1=>∃ av2 nv2 rows2,v=.tuple #[.agg #[num ((4:Nat):Int),num ((0:Nat):Int),av2,nv2],num ((0:Nat):Int)]/\A.le A1/\A1.wf/\Fresh A A1 av2 1 (cq [true,true,true,true,true])/\Fresh A A1 nv2 1 (em rows2)/\kg A A1 rows2 [[1,2,3,4],[1,-1,3,4],[-1,2,3,4],[-1,-1,3,-1],[-1,-1,-1,4]]/\bh av2 nv2/\aq av2 rows2/\aq nv2 rows2) :=
 (Qy 2 u dN (.slice (some ⟨br,0,none⟩) 4 4) (cW a b c d) A (Nat.le_of_ble_eq_true rfl) (Nat.le_of_ble_eq_true rfl) (fun _=>(qM a b c d).2.2) h.L h.u h.r h.p).mono (fun v A1 z=>by have e:=O0 a b c d;rw [e.1,e.2.1,e.2.2] at z;exact z)

theorem NF:vJ Tryz.prog 47 (.agg #[num 0,num (-1),aX [98,97,65],aX [97,98,65],aX [98]]) (.agg #[num ((0:Nat):Int),num (-1),aX [98,97,65],aX [97,98,65],aX [98]])=some true:=by kernel_rfl

theorem RO (A:AH) (hL:eF A) (hM:nr A):bG Tryz.prog 10 #[] A (fun v A1=>v=.bool true/\A.le A1/\A1.wf):=by
 refine Uo Tryz.call10 Tryz.func10 Z Tryz.results10 Tryz.ntmps10 Z (fun wf=>?_);have mv:=AH.le.refl A;refine ao.seq fun _ h2=>.region<|.q Z (ah Z)<|.nil<|h2 _ _<|.seq fun _ h4=>.region<|.l Z (fun _ _ mt _=>aK Z (Pn A) ?_);rintro v6 A7 ⟨aR,aG,lK,lO,lP,lT,rfl,lF,f2,f0,eZ,eY⟩;have eV:=mv.trans lF;have qu:=f0;have qr:=eZ;have qp:=eY;have hPl:fy A7 _ _ lK lO lP lT:=⟨hL.le eV,hM.le eV,f0,eZ,eY⟩;have leA:=eV;have V:=f2;have leR:=AH.le.refl A7;refine mt _ _<|.l Z (fun _ _ l2 _=>ca f2 vp rfl fun A12 nU bl=>?_);have e3:=aL V (Nat.le_trans leR.n bl.lo);have lB:=leR.trans bl.le;refine l2 _ _<|.l Z (fun _ _ l3 _=>aM (cs:=[num ((2:Nat):Int),.slice (some ⟨aR,0,none⟩) 1 1,.slice (some ⟨aG,0,none⟩) 4 4]) (c':=[num ((2:Nat):Int),.slice (some ⟨aR,0,none⟩) 1 1,.slice (some ⟨aG,0,none⟩) 4 4]) bl.wf rfl rfl rfl rfl cT bl.get (Nat.le_of_ble_eq_true rfl) rfl rfl fun A16 bB=>?_);have c4:=al lB V e3 bB.n bB.keep;refine l3 _ _<|.nil<|h4 _ _<|.seq fun _ m1=>.region<|.q Z (am dn cT Z Z bB.get Z)<|.l Z (fun _ _ l4 _=>aK Z (Po _ _ _ _ _ _ A16 (hPl.le c4)) ?_);rintro ok A23 ⟨mX,rfl,dv,dz,fT⟩;have hg:=dv.get _ _ bB.get;have eQ:=c4.trans dv;have hv:=fT.base c4;refine l4 _ _<|.q Z (ae Z)<|.q Z (bf Z Z)<|.q Z (bf Z Z)<|.l Z (fun _ _ l6 _=>ca dz AN rfl fun A31 nV aD=>?_);have bm:=ne_new dz hg aD.lo;have e4:=aL V (Nat.le_trans eQ.n aD.lo);have m2:=aD.le.get _ _ hg;have hw:=hv.le aD.le;have lC:=eQ.trans aD.le;refine l6 _ _ ?_;obtain ⟨hr,hp,he,mx,_⟩:=hw.own.slice;subst mx;refine Ops.l Z (fun _ _ l7 _=>aM (cs:=[aX ([98,98]),num ((4:Nat):Int),.slice hr hp he]) (c':=[aX ([98,98]),num ((4:Nat):Int),.slice hr hp he]) aD.wf rfl rfl rfl rfl ie aD.get (Nat.le_of_ble_eq_true rfl) rfl rfl fun A39 bC=>?_);have hh:=bC.keep _ _ bm m2;have c7:=al lC V e4 bC.n bC.keep;refine l7 _ _<|.q Z (ah Z)<|.nil<|m1 _ _<|.seq fun _ m3=>.region<|.q Z (am dn cT Z Z hh Z)<|.l Z (fun _ _ l9 _=>aK Z (Pq _ _ _ _ _ _ A39 (hPl.le c7)) ?_);rintro ov A48 ⟨n1,rfl,bd,bD,fV⟩;have hj:=bd.get _ _ hh;have hk:=bd.get _ _ bC.get;have eS:=c7.trans bd;have hx:=fV.base c7;refine l9 _ _<|.q Z (ae Z)<|.q Z (bf Z Z)<|.q Z (bf Z Z)<|.l Z (fun _ _ lb _=>ca bD AN rfl fun A60 o1 ap=>?_);have bp:=ne_new bD hj ap.lo;have bu:=ne_new bD hk ap.lo;have e5:=aL V (Nat.le_trans eS.n ap.lo);have m6:=ap.le.get _ _ hj;have mb:=ap.le.get _ _ hk;have hy:=hx.le ap.le;have lE:=eS.trans ap.le;refine lb _ _ ?_;obtain ⟨hs,hq,hf,mB,_⟩:=hy.own.slice;subst mB;refine Ops.l Z (fun _ _ lp _=>aM (cs:=[aX ([97]),num ((1:Nat):Int),.slice hs hq hf]) (c':=[aX ([97]),num ((1:Nat):Int),.slice hs hq hf]) ap.wf rfl rfl rfl rfl ie ap.get (Nat.le_of_ble_eq_true rfl) rfl rfl fun A71 aZ=>?_);have hl:=aZ.keep _ _ bp m6;have me:=aZ.keep _ _ bu mb;have cb:=al lE V e5 aZ.n aZ.keep;refine lp _ _<|.q Z (ah Z)<|.nil<|m3 _ _<|.seq fun _ mm=>.region<|.q Z (am dn cT Z Z hl Z)<|.l Z (fun _ _ lt _=>aK Z (Pr _ _ _ _ _ _ A71 (hPl.le cb)) ?_);rintro ow A82 ⟨n2,rfl,aI,aP,fX⟩;have hm:=aI.get _ _ hl;have hn:=aI.get _ _ me;have ho:=aI.get _ _ aZ.get;have eT:=cb.trans aI;have hz:=fX.base cb;refine lt _ _<|.q Z (ae Z)<|.q Z (bf Z Z)<|.q Z (bf Z Z)<|.l Z (fun _ _ lw _=>ca aP AN rfl fun A98 o2 a9=>?_);have br:=ne_new aP hm a9.lo;have bv:=ne_new aP hn a9.lo;have bA:=ne_new aP ho a9.lo;have e6:=aL V (Nat.le_trans eT.n a9.lo);have hA:=a9.le.get _ _ hm;have hB:=a9.le.get _ _ hn;have hC:=a9.le.get _ _ ho;have fl:=hz.le a9.le;have gN:=eT.trans a9.le;refine lw _ _ ?_;obtain ⟨eX,eN,e2,lV,_⟩:=fl.own.slice;subst lV;refine Ops.l Z (fun _ _ g0 _=>aM (cs:=[aX ([97,97,98,98]),num ((3:Nat):Int),.slice eX eN e2]) (c':=[aX ([97,97,98,98]),num ((3:Nat):Int),.slice eX eN e2]) a9.wf rfl rfl rfl rfl ie a9.get (Nat.le_of_ble_eq_true rfl) rfl rfl fun A112 aA=>?_);have e7:=aA.keep _ _ br hA;have hD:=aA.keep _ _ bv hB;have hE:=aA.keep _ _ bA hC;have cU:=al gN V e6 aA.n aA.keep;refine g0 _ _<|.q Z (ah Z)<|.nil<|mm _ _<|.seq fun _ hF=>.region<|.q Z (am dn cT Z Z e7 Z)<|.l Z (fun _ _ g1 _=>aK Z (Ls _ _ _ _ _ _ A112 (hPl.le cU)) ?_);rintro nE A125 ⟨rfl,av,ay⟩;have e9:=av.get _ _ e7;have ea:=av.get _ _ hD;have ec:=av.get _ _ hE;have eg:=av.get _ _ aA.get;have cV:=cU.trans av;refine g1 _ _<|.q Z (ae Z)<|.q Z (bf Z Z)<|.q Z (bf Z Z)<|.q Z (bf Z Z)<|.l Z (fun _ _ g2 _=>ca ay yi rfl fun A137 nv a1=>?_);have b5:=ne_new ay e9 a1.lo;have b8:=ne_new ay ea a1.lo;have b9:=ne_new ay ec a1.lo;have ba:=ne_new ay eg a1.lo;have dD:=aL V (Nat.le_trans cV.n a1.lo);have hG:=a1.le.get _ _ e9;have hH:=a1.le.get _ _ ea;have hI:=a1.le.get _ _ ec;have hJ:=a1.le.get _ _ eg;have gP:=cV.trans a1.le;refine g2 _ _<|.q Z (ah Z)<|.l Z (fun _ _ g3 _=>aM (cs:=[num ((0:Nat):Int),num ((0:Nat):Int),aX ([]),aX ([]),aX ([])]) (c':=[num ((0:Nat):Int),num ((0:Nat):Int),aX ([]),aX ([]),aX ([])]) a1.wf rfl rfl rfl rfl jv a1.get (Nat.le_of_ble_eq_true rfl) rfl rfl fun A151 ar=>?_);have en:=ar.keep _ _ b5 hG;have hK:=ar.keep _ _ b8 hH;have hN:=ar.keep _ _ b9 hI;have hO:=ar.keep _ _ ba hJ;have cX:=al gP V dD ar.n ar.keep;refine g3 _ _<|.q Z (ah Z)<|.nil<|hF _ _<|.seq fun _ hP=>.region<|.q Z (am dn cT Z Z en Z)<|.l Z (fun _ _ g4 _=>aK Z (Lr _ _ _ _ _ _ A151 (hPl.le cX)) ?_);rintro nH A165 ⟨rfl,ad,mE⟩;have ev:=ad.get _ _ en;have hQ:=ad.get _ _ hK;have hR:=ad.get _ _ hN;have hS:=ad.get _ _ hO;have hT:=ad.get _ _ ar.get;have cZ:=cX.trans ad;refine g4 _ _<|.q Z (ae Z)<|.q Z (bf Z Z)<|.q Z (bf Z Z)<|.q Z (ah Z)<|.q Z (ah Z)<|.nil<|hP _ _<|.seq fun _ hU=>.seq fun _ hV=>?_;refine ao.region ?_;skip;refine Ops.q Z (am dn cT Z Z ev Z)<|.l Z (fun _ _ g5 _=>aK Z (RC _ _ _ _ _ _ A165 (hPl.le cZ)) ?_);rintro nJ A182 ⟨rfl,ag,mK⟩;have ex:=ag.get _ _ ev;have bR:=ag.get _ _ hQ;have bS:=ag.get _ _ hR;have bT:=ag.get _ _ hS;have hW:=ag.get _ _ hT;have d0:=cZ.trans ag;refine g5 _ _<|.q Z (((fF (a:=0) (b:=0) Z Z).trans (congrArg (fun z=>some (Value.bool z,[])) (decide_eq_false (fun q=>q Z)))))<|.q Z (ae Z)<|.on Z Z<|.q Z (ae Z)<|.on Z Z<|.q Z (((fF (a:=0) (b:=0) Z Z).trans (congrArg (fun z=>some (Value.bool z,[])) (decide_eq_false (fun q=>q Z)))))<|.q Z (bw Z Z)<|.q Z (ae Z)<|.on Z Z ?_;refine Ops.q Z (ae Z)<|.on Z Z<|.q Z (((fF (a:=0) (b:=0) Z Z).trans (congrArg (fun z=>some (Value.bool z,[])) (decide_eq_false (fun q=>q Z)))))<|.q Z (bw Z Z)<|.q Z (ae Z)<|.on Z Z<|.q Z (ae Z)<|.on Z Z<|.q Z (((fF (a:=0) (b:=0) Z Z).trans (congrArg (fun z=>some (Value.bool z,[])) (decide_eq_false (fun q=>q Z)))))<|.q Z (bw Z Z) ?_;refine Ops.q Z (ae Z)<|.on Z Z<|.q Z (ae Z)<|.on Z Z<|.q Z (((fF (a:=0) (b:=0) Z Z).trans (congrArg (fun z=>some (Value.bool z,[])) (decide_eq_false (fun q=>q Z)))))<|.q Z (bw Z Z)<|.q Z (ae Z)<|.on Z Z<|.q Z (ae Z)<|.on Z Z ?_;refine Ops.q Z (((fF (a:=0) (b:=0) Z Z).trans (congrArg (fun z=>some (Value.bool z,[])) (decide_eq_false (fun q=>q Z)))))<|.q Z (bw Z Z)<|.q Z (ae Z)<|.on Z Z<|.q Z (aj mL fz U Z)<|.on Z Z<|.q Z (ak gz Z Z bR Z)<|.on Z Z<|.q Z (((oA Z Z).trans (congrArg (fun z=>some (Value.bool z,[])) (decide_eq_false (fun q=>q Z)))))<|.q Z (bw Z Z) ?_;refine Ops.q Z (ae Z)<|.on Z Z<|.q Z (aj rC dx U Z)<|.on Z Z<|.q Z (ak fj Z Z bR Z)<|.on Z Z<|.q Z (((fF (a:=4) (b:=4) Z Z).trans (congrArg (fun z=>some (Value.bool z,[])) (decide_eq_false (fun q=>q Z)))))<|.q Z (bw Z Z)<|.q Z (ae Z)<|.on Z Z ?_;refine Ops.q Z (aj mL fz U Z)<|.on Z Z<|.q Z (ak gz Z Z bS Z)<|.on Z Z<|.q Z (((oA Z Z).trans (congrArg (fun z=>some (Value.bool z,[])) (decide_eq_false (fun q=>q Z)))))<|.q Z (bw Z Z)<|.q Z (ae Z)<|.on Z Z<|.q Z (aj rC dx U Z)<|.on Z Z ?_;refine Ops.q Z (ak fj Z Z bS Z)<|.on Z Z<|.q Z (((fF (a:=1) (b:=1) Z Z).trans (congrArg (fun z=>some (Value.bool z,[])) (decide_eq_false (fun q=>q Z)))))<|.q Z (bw Z Z)<|.q Z (ae Z)<|.on Z Z<|.q Z (aj mL fz U Z)<|.on Z Z<|.q Z (ak gz Z Z bT Z)<|.on Z Z ?_;refine Ops.q Z (((oA Z Z).trans (congrArg (fun z=>some (Value.bool z,[])) (decide_eq_false (fun q=>q Z)))))<|.q Z (bw Z Z)<|.q Z (ae Z)<|.on Z Z<|.q Z (aj rC dx U Z)<|.on Z Z<|.q Z (ak fj Z Z bT Z)<|.on Z Z<|.q Z (((fF (a:=3) (b:=3) Z Z).trans (congrArg (fun z=>some (Value.bool z,[])) (decide_eq_false (fun q=>q Z)))))<|.q Z (bw Z Z) ?_;refine Ops.q Z (ae Z)<|.on Z Z<|.q Z (ae Z)<|.on Z Z<|.q Z (eE Z)<|.q Z (bw Z Z)<|.q Z (ae Z)<|.on Z Z<|.q Z (ae Z)<|.on Z Z ?_;refine Ops.q Z (eE Z)<|.q Z (bw Z Z)<|.q Z (ae Z)<|.on Z Z<|.q Z (am dn cT Z Z ex Z)<|.on Z Z<|.l Z (fun _ _ g6 _=>aK Z (Lz _ _ _ _ _ _ A182 (hPl.le d0)) ?_);rintro nK A195 ⟨rfl,ai,mM⟩;have bU:=ai.get _ _ ex;have hX:=ai.get _ _ bR;have hY:=ai.get _ _ bS;have hZ:=ai.get _ _ bT;have i1:=ai.get _ _ hW;have aa:=d0.trans ai;refine g6 _ _<|.on Z Z<|.q Z (eE Z)<|.q Z (bw Z Z)<|.nil<|hV _ _<|.cond_false Z<|.skip<|hU _ _<|.seq fun _ i2=>?_;refine ao.region<|.q Z (am dn cT Z Z bU Z)<|.l Z (fun _ _ g7 _=>aK Z (Rz _ _ _ _ _ _ A195 (hPl.le aa)) ?_);rintro nL A210 ⟨lY,lZ,dS,rfl,bL,az,b2,b3,a6,dJ,dK,dO⟩;have ey:=bL.get _ _ bU;have d1:=aa.trans bL;have xa:=b2;have xv:=b3;have xf:=a6;have o3:=dJ;have oi:=dK;have oj:=dO;have n4:=a6.ne bU;have n6:=a6.ne hX;have n7:=a6.ne hY;have n9:=a6.ne hZ;have nb:=a6.ne i1;refine g7 _ _<|.q Z (ae Z)<|.q Z (bf Z Z)<|.q Z (bf Z Z)<|.l Z (fun _ _ g8 _=>ca az IU rfl fun A238 nB a2=>?_);have b6:=ne_new az ey a2.lo;have ha:=(b2.base aa).own.ne_new az a2.lo;have hb:=(b3.base aa).own.ne_new az a2.lo;have hc:=(a6.base aa).ne_new az a2.lo;have dG:=aL V (Nat.le_trans d1.n a2.lo);have ih:=a2.le.get _ _ ey;have cP:=(b2.base aa).le a2.le;have cS:=(b3.base aa).le a2.le;have f3:=(a6.base aa).le a2.le;have gQ:=d1.trans a2.le;refine g8 _ _ ?_;obtain ⟨cc,bY,bO,lW,_⟩:=cP.own.slice;subst lW;obtain ⟨cf,c3,bP,lX,_⟩:=cS.own.slice;subst lX;refine Ops.l Z (fun _ _ g9 _=>aM (cs:=[num ((4:Nat):Int),num ((0:Nat):Int),.slice cc bY bO,.slice cf c3 bP]) (c':=[num ((4:Nat):Int),num ((0:Nat):Int),.slice cc bY bO,.slice cf c3 bP]) a2.wf rfl rfl rfl rfl jH a2.get (Nat.le_of_ble_eq_true rfl) rfl rfl fun A261 a8=>?_);have it:=a8.keep _ _ b6 ih;have fm:=cP.keep a8.keep ha;have fn:=cS.keep a8.keep hb;have ch:=f3.keep a8.keep hc;have gS:=al gQ V dG a8.n a8.keep;refine g9 _ _<|.q Z (ah Z)<|.nil<|i2 _ _<|.seq fun _ iv=>.seq fun _ iD=>.region<|.q Z (ae Z)<|.q Z (((fF (a:=0) (b:=0) Z Z).trans (congrArg (fun z=>some (Value.bool z,[])) (decide_eq_false (fun q=>q Z)))))<|.q Z (ae Z) ?_;refine Ops.on Z Z<|.q Z (am px jH Z Z a8.get Z)<|.on Z Z<|.l Z (fun _ _ gc _=>aN (c:=[.bool (true),.bool (true),.bool (true),.bool (true),.bool (true)]) a8.wf rfl (ax kR lJ z4 rfl U U rfl) fun A281 ht a7=>?_);have nd:=ch.ne_new a8.wf a7.lo;have iF:=a7.le.get _ _ it;have fo:=fm.le a7.le;have fq:=fn.le a7.le;have ck:=ch.le a7.le;have gX:=gS.trans a7.le;refine gc _ _<|.on Z Z<|.l Z (fun _ _ ge _=>aN (c:=[num ((1:Nat):Int),num ((2:Nat):Int),num ((3:Nat):Int),num ((4:Nat):Int)]) a7.wf rfl (ax er dx z3 rfl U U rfl) fun A304 dV a5=>?_);have nj:=ck.ne_new a7.wf a5.lo;have iH:=a5.le.get _ _ iF;have iN:=a5.le.get _ _ a7.get;have ft:=fo.le a5.le;have fv:=fq.le a5.le;have cu:=ck.le a5.le;have gY:=gX.trans a5.le;refine ge _ _<|.on Z Z<|.l Z (fun _ _ gf _=>aN (c:=[num ((1:Nat):Int),num (-1),num ((3:Nat):Int),num ((4:Nat):Int)]) a5.wf rfl (ax er dx z3 rfl U U rfl) fun A328 dW a4=>?_);have nk:=cu.ne_new a5.wf a4.lo;have iS:=a4.le.get _ _ iH;have iT:=a4.le.get _ _ iN;have iV:=a4.le.get _ _ a5.get;have fD:=ft.le a4.le;have fE:=fv.le a4.le;have cv:=cu.le a4.le;have gZ:=gY.trans a4.le;refine gf _ _<|.on Z Z<|.l Z (fun _ _ gg _=>aN (c:=[num (-1),num ((2:Nat):Int),num ((3:Nat):Int),num ((4:Nat):Int)]) a4.wf rfl (ax er dx z3 rfl U U rfl) fun A353 dZ a3=>?_);have nl:=cv.ne_new a4.wf a3.lo;have iX:=a3.le.get _ _ iS;have j1:=a3.le.get _ _ iT;have j2:=a3.le.get _ _ iV;have j3:=a3.le.get _ _ a4.get;have fI:=fD.le a3.le;have fL:=fE.le a3.le;have cB:=cv.le a3.le;have h0:=gZ.trans a3.le;refine gg _ _<|.on Z Z<|.l Z (fun _ _ gl _=>aN (c:=[num (-1),num (-1),num ((3:Nat):Int),num (-1)]) a3.wf rfl (ax er dx z3 rfl U U rfl) fun A379 e0 X=>?_);have nn:=cB.ne_new a3.wf X.lo;have j4:=X.le.get _ _ iX;have jX:=X.le.get _ _ j1;have k0:=X.le.get _ _ j2;have k1:=X.le.get _ _ j3;have k2:=X.le.get _ _ a3.get;have fM:=fI.le X.le;have fN:=fL.le X.le;have cC:=cB.le X.le;have h1:=h0.trans X.le;refine gl _ _<|.on Z Z<|.l Z (fun _ _ gm _=>aN (c:=[num (-1),num (-1),num (-1),num ((4:Nat):Int)]) X.wf rfl (ax er dx z3 rfl U U rfl) fun A406 e1 D=>?_);have nq:=cC.ne_new X.wf D.lo;have k3:=D.le.get _ _ j4;have k4:=D.le.get _ _ jX;have k6:=D.le.get _ _ k0;have k7:=D.le.get _ _ k1;have k9:=D.le.get _ _ k2;have kc:=D.le.get _ _ X.get;have fO:=fM.le D.le;have fQ:=fN.le D.le;have cF:=cC.le D.le;have h3:=h1.trans D.le;refine gm _ _<|.on Z Z<|.l Z (fun _ _ gp _=>aN (c:=[.slice (some ⟨dV,0,none⟩) 4 4,.slice (some ⟨dW,0,none⟩) 4 4,.slice (some ⟨dZ,0,none⟩) 4 4,.slice (some ⟨e0,0,none⟩) 4 4,.slice (some ⟨e1,0,none⟩) 4 4]) D.wf rfl (ax m5 fC I0 rfl U U rfl) fun A434 hu a0=>?_);have nu:=cF.ne_new D.wf a0.lo;have kl:=a0.le.get _ _ k3;have km:=a0.le.get _ _ k4;have kp:=a0.le.get _ _ k6;have kv:=a0.le.get _ _ k7;have kC:=a0.le.get _ _ k9;have kD:=a0.le.get _ _ kc;have kK:=a0.le.get _ _ D.get;have fR:=fO.le a0.le;have fS:=fQ.le a0.le;have bc:=cF.le a0.le;have h5:=h3.trans a0.le;refine gp _ _<|.on Z Z<|.q Z (cR Z (aU Tv IU Ks Z))<|.on Z Z<|.l Z (fun _ _ gq _=>aK Z ((LC 4 0 4 0 (.slice cc bY bO) (.slice cf c3 bP) (.slice (some ⟨ht,0,none⟩) 5 5) (.slice (some ⟨hu,0,none⟩) 5 5) [true,true,true,true,true] [true,true,true,true,true] [[1,2,3,4],[1,-1,3,4],[-1,2,3,4],[-1,-1,3,-1],[-1,-1,-1,4]] [[1,2,3,4],[1,-1,3,4],[-1,2,3,4],[-1,-1,3,-1],[-1,-1,-1,4]] dS [Value.slice (some ⟨dV,0,none⟩) 4 4,Value.slice (some ⟨dW,0,none⟩) 4 4,Value.slice (some ⟨dZ,0,none⟩) 4 4,Value.slice (some ⟨e0,0,none⟩) 4 4,Value.slice (some ⟨e1,0,none⟩) 4 4] A434 U U U fR.slc fS.slc bc.len (fun i hi=>(bc.fr i hi).slc) (eR (n:=5) km rfl (Nat.le_refl _)) (eR (n:=5) a0.get rfl (Nat.le_refl _)) rfl (fun i hi=>match i,hi with | 0,_=>eR (n:=4) kp rfl (Nat.le_refl _) | 1,_=>eR (n:=4) kv rfl (Nat.le_refl _) | 2,_=>eR (n:=4) kC rfl (Nat.le_refl _) | 3,_=>eR (n:=4) kD rfl (Nat.le_refl _) | 4,_=>eR (n:=4) kK rfl (Nat.le_refl _))).mono (fun v A1 h=>by rw [decide_eq_true U] at h;exact h)) ?_);rintro nM A463 ⟨rfl,aS,b0⟩;have bV:=aS.get _ _ kl;have cH:=bc.le aS;have d2:=h5.trans aS;refine gq _ _<|.on Z Z<|.q Z (eE Z)<|.q Z (bw Z Z)<|.nil<|iD _ _<|.cond_false Z<|.skip<|iv _ _<|.seq fun _ kL=>?_;refine ao.region<|.q Z (am dn cT Z Z bV Z)<|.l Z (fun _ _ gs _=>ca b0 vp rfl fun A489 nC ab=>?_);have aC:=ne_new b0 bV ab.lo;have dw:=cH.ne_new b0 ab.lo;have bb:=aL V (Nat.le_trans d2.n ab.lo);have kM:=ab.le.get _ _ bV;have f4:=cH.le ab.le;have h6:=d2.trans ab.le;refine gs _ _<|.l Z (fun _ _ gA _=>aM (cs:=[num ((2:Nat):Int),.slice (some ⟨aR,0,none⟩) 1 1,.slice (some ⟨aG,0,none⟩) 4 4]) (c':=[num ((2:Nat):Int),.slice (some ⟨aR,0,none⟩) 1 1,.slice (some ⟨aG,0,none⟩) 4 4]) ab.wf rfl rfl rfl rfl cT ab.get (Nat.le_of_ble_eq_true rfl) rfl rfl fun A518 aB=>?_);have ez:=aB.keep _ _ aC kM;have f6:=f4.keep aB.keep dw;have h7:=al h6 V bb aB.n aB.keep;refine gA _ _<|.nil<|kL _ _<|.seq fun _ kP=>.region<|.q Z (aj de fw U Z)<|.q Z (ak ii Z Z ez Z)<|.q Z (ou (j:=1) jw d8 Z Z O)<|.q Z (aj de fw U Z)<|.l Z (fun _ _ gC _=>aM (cs:=[.slice (some ⟨aG,0,none⟩) 1 4]) (c':=[num ((2:Nat):Int),.slice (some ⟨aR,0,none⟩) 1 1,.slice (some ⟨aG,0,none⟩) 1 4]) aB.wf rfl rfl rfl rfl fw aB.get (Nat.le_of_ble_eq_true rfl) rfl rfl fun A543 aE=>?_);have kT:=aE.keep _ _ aC ez;have f7:=f6.keep aE.keep dw;have d3:=al h7 V bb aE.n aE.keep;refine gC _ _<|.nil<|kP _ _<|.seq fun _ kV=>.region<|.q Z (am dn cT Z Z aE.get Z)<|.l Z (fun _ _ gD _=>aK Z (Ij _ _ _ _ _ _ A543 (hPl.le d3)) ?_);rintro nN A569 ⟨rfl,aT,b1⟩;have eA:=aT.get _ _ kT;have cK:=f7.le aT;have dd:=d3.trans aT;refine gD _ _<|.q Z (ae Z)<|.q Z (bf Z Z)<|.q Z (bf Z Z)<|.q Z (bf Z Z)<|.l Z (fun _ _ gE _=>ca b1 yi rfl fun A594 nD ac=>?_);have b7:=ne_new b1 eA ac.lo;have hd:=cK.ne_new b1 ac.lo;have dI:=aL V (Nat.le_trans dd.n ac.lo);have l0:=ac.le.get _ _ eA;have f9:=cK.le ac.le;have h8:=dd.trans ac.le;refine gE _ _<|.q Z (ah Z)<|.l Z (fun _ _ gF _=>aM (cs:=[num (0),num (-1),aX ([98,97,65]),aX ([97,98,65]),aX ([98])]) (c':=[num (0),num (-1),aX ([98,97,65]),aX ([97,98,65]),aX ([98])]) ac.wf rfl rfl rfl rfl jv ac.get (Nat.le_of_ble_eq_true rfl) rfl rfl fun A624 aF=>?_);have eC:=aF.keep _ _ b7 l0;have fd:=f9.keep aF.keep hd;have di:=al h8 V dI aF.n aF.keep;refine gF _ _<|.q Z (ah Z)<|.nil<|kV _ _<|.seq fun _ l1=>.region<|.q Z (ae Z)<|.q Z (((oq (a:=0) (b:=0) Z Z).trans (congrArg (fun z=>some (Value.bool z,[])) (decide_eq_true Z))))<|.q Z (ae Z)<|.on Z Z ?_;refine Ops.q Z (ae Z)<|.on Z Z<|.q Z (eE Z)<|.q Z (bi Z Z)<|.q Z (ae Z)<|.on Z Z<|.q Z (am sH jv Z Z aF.get Z)<|.on Z Z<|.q Z (cR Z (aU R0 yi Cz Z))<|.on Z Z ?_;refine Ops.q Z (SU Z Z (fun _ _ q=>by cases q) (fun _ q=>by cases q) NF)<|.q Z (bi Z Z)<|.q Z (ae Z)<|.on Z Z<|.q Z (am dn cT Z Z eC Z)<|.on Z Z<|.l Z (fun _ _ gG _=>aK Z (Ph _ _ _ _ _ _ A624 (hPl.le di)) ?_);rintro nO A651 ⟨rfl,aV,mT⟩;have eG:=aV.get _ _ eC;have fe:=fd.le aV;have dj:=di.trans aV;refine gG _ _<|.q Z (bi Z Z)<|.q Z (ae Z)<|.on Z Z<|.q Z (am dn cT Z Z eG Z)<|.on Z Z<|.l Z (fun _ _ gL _=>aK Z (Pk _ _ _ _ _ _ A651 (hPl.le dj)) ?_);rintro nQ A677 ⟨rfl,aY,mV⟩;have eL:=aY.get _ _ eG;have fi:=fe.le aY;have dk:=dj.trans aY;refine gL _ _<|.on Z Z<|.q Z (eE Z)<|.q Z (bi Z Z)<|.q Z (ae Z)<|.on Z Z<|.q Z (am dn cT Z Z eL Z)<|.on Z Z<|.q Z (am dn cT Z Z eL Z)<|.on Z Z ?_;refine Ops.l Z (fun _ _ gM _=>aK Z (Pw _ _ _ _ _ _ A677 (hPl.le dk)) ?_);rintro nT A703 ⟨rfl,bM,f1⟩;have n3:=fi.le bM;have h9:=dk.trans bM;refine gM _ _<|.q Z (bi Z Z)<|.q Z (ah Z)<|.nil<|l1 _ _<|.rt (by exact be Z (⟨Z,leA.trans h9,f1⟩))
end Go.Proofs.YtjppkekmddjcfaaGreatDoor

namespace Go.Proofs.YtjppkekmddjcfaaGreatDoor
open Go Go.RowKit V
def m4 (r:au):Bool:=decide (r.left.length<=40) && decide (r.right.length<=40) && decide (r.proof.length<=60) && r.proof.all fun c=>decide (c.conj.length<=200)
def ic (l:List Wd) (rs:List au):Bool:=decide (rs.length<=30) && decide (l.length<=10) && l.all (fun w=>decide (w.length<=60)) && rs.all m4
section
variable {l:List Wd} {rs:List au} {i j:Nat} {r:au}
theorem je:m4 r=true ↔ r.left.length<=40/\r.right.length<=40/\r.proof.length<=60/\∀ c ∈ r.proof,c.conj.length<=200:=by
  simp only [m4,Bool.and_eq_true,decide_eq_true_eq,List.all_eq_true,and_assoc]
theorem eI:ic l rs=true ↔ rs.length<=30/\l.length<=10/\(∀ w ∈ l,w.length<=60)/\∀ r ∈ rs,m4 r=true:=by
  simp only [ic,Bool.and_eq_true,decide_eq_true_eq,List.all_eq_true,and_assoc]
theorem oG {P:Prop} (h:ic l rs=true->False):ic l rs=false:=by
  cases q:ic l rs with
  | false=>rfl
  | true=>exact (h q).elim
theorem li (h:30 < rs.length):ic l rs=false:=oG (P:=True) fun q=>by have:=(eI.1 q).1;omega
theorem lj (h:10 < l.length):ic l rs=false:=oG (P:=True) fun q=>by have:=(eI.1 q).2.1;omega
theorem ll (hi:i < l.length) (h:60 < (l.getD i []).length):ic l rs=false:=oG (P:=True) fun q=>by have:=(eI.1 q).2.2.1 _ (bx (d:=([]:Wd)) hi);omega
theorem lm (hi:i < rs.length) (h:40 < (rs.getD i .zero).left.length\/40 < (rs.getD i .zero).right.length\/60 < (rs.getD i .zero).proof.length):ic l rs=false:=oG (P:=True) fun q=>by
  have:=je.1 ((eI.1 q).2.2.2 _ (bx (d:=.zero) hi));omega
theorem ln (hi:i < rs.length) (hj:j < (rs.getD i .zero).proof.length) (h:200 < ((rs.getD i .zero).proof.getD j .zero).conj.length):ic l rs=false:=oG (P:=True) fun q=>by
  have:=(je.1 ((eI.1 q).2.2.2 _ (bx (d:=.zero) hi))).2.2.2 _ (bx (d:=bX.zero) hj);omega
theorem tx {α:Type} {p:α->Prop} {l:List α} {d:α} (hi:l.length<=i) (h:∀ j,j < i->p (l.getD j d)):∀ x ∈ l,p x:=fun x hx=>by
  obtain ⟨j,hj,rfl⟩:=List.getElem_of_mem hx
  have:=h j O
  rwa [gd hj] at this
theorem jf (h1:rs.length<=30) (h2:l.length<=10) (hi:l.length<=i) (h3:∀ j,j < i->(l.getD j []).length<=60) (hj:rs.length<=j) (h4:∀ k,k < j->m4 (rs.getD k .zero)=true):ic l rs=true :=
  eI.2 ⟨h1,h2,tx (p:=fun w=>w.length<=60) hi h3,tx (p:=fun r=>m4 r=true) hj h4⟩
theorem C5 (h1:¬ 40 < r.left.length) (h2:¬ 40 < r.right.length) (h3:¬ 60 < r.proof.length) (hj:r.proof.length<=j) (h4:∀ k,k < j->(r.proof.getD k .zero).conj.length<=200):m4 r=true :=
  je.2 ⟨by omega,by omega,by omega,tx (p:=fun c=>c.conj.length<=200) hj h4⟩
theorem jF (h:ic l rs=true):l.length<=10/\rs.length<=30/\∀ r ∈ rs,r.proof.length<=60:=by
  obtain ⟨h1,h2,h3,h4⟩:=eI.1 h
  exact ⟨h2,h1,fun r hr=>(je.1 (h4 r hr)).2.2.1⟩
end
end Go.Proofs.YtjppkekmddjcfaaGreatDoor

namespace Go.Proofs.YtjppkekmddjcfaaGreatDoor
open Go Go.RowKit V
set_option maxRecDepth 100000


theorem PG (g:Int) (u:Value) (l:List (List UInt8)) (rv:Value) (rs:List au) (A:AH) (hu:bJ A 1 u (dc l)) (hr:bJ A 3 rv (ci rs)) (hp:Proofs A rs):bG Tryz.prog 11 #[.agg #[num (g),u,rv]] A (fun v A1=>v=.bool (ic l rs)/\A.le A1/\A1.wf):=by
 refine iy Tryz.call11 Tryz.func11 Z Tryz.results11 Tryz.ntmps11 Z (fun wf=>?_);have bT:=AH.le.refl A;refine ao.seq fun _ h2=>.region<|.l Z (fun _ _ ai _=>ej wf rfl rfl fun A5 b4 ab=>?_);have ac:=bT.trans ab.le;refine ai _ _<|.q Z (ah Z)<|.nil<|h2 _ _<|.seq fun _ h9=>.seq fun _ ay=>.region<|.q Z (aj de fw U Z)<|.q Z (ak ii Z Z ab.get Z)<|.q Z (bH (n:=rs.length) jw Z (hr.le ac) O (dm _)) ?_;refine Ops.q Z (fu (b:=30) Z Z)<|.q Z (ae Z)<|.part (t:=11) Z (fun bU=>?_) (fun bU=>?_)
 ·refine Ops.off Z Z Z Z<|.off Z Z Z Z<|.off Z Z Z Z<|.off Z Z Z Z<|.off Z Z Z Z<|.q Z (bi Z Z)<|.nil<|ay _ _<|.cond_true Z<|.seq fun _ aY=>?_;refine ao.region<|.q Z (ah Z)<|.nil<|aY _ _<|.rt (by exact be Z (⟨by first | (rw [li ‹_›];rfl) | (rw [lj ‹_›];rfl) | (rw [ll (i:=j) O ‹_›];rfl) | (rw [lm (i:=i) O O];rfl) | (rw [ln (i:=i) (j:=m) O O ‹_›];rfl) | (rw [jf a2 a3 O a4 O hc];rfl),ac,ab.wf⟩))
 refine Ops.on Z Z<|.q Z (aj fH iA U Z)<|.on Z Z<|.q Z (aj go ms U Z)<|.on Z Z<|.q Z (ak lU Z Z ab.get Z)<|.on Z Z<|.q Z (bH (n:=l.length) kh Z (hu.le ac) O (eJ _))<|.on Z Z<|.q Z (fu (b:=10) Z Z) ?_;refine Ops.q Z (bw Z Z)<|.nil<|ay _ _<|.if rfl (fun bV=>?_) (fun bV=>?_)
 ·refine ao.seq fun _ aZ=>.region<|.q Z (ah Z)<|.nil<|aZ _ _<|.rt (by exact be Z (⟨by first | (rw [li ‹_›];rfl) | (rw [lj ‹_›];rfl) | (rw [ll (i:=j) O ‹_›];rfl) | (rw [lm (i:=i) O O];rfl) | (rw [ln (i:=i) (j:=m) O O ‹_›];rfl) | (rw [jf a2 a3 O a4 O hc];rfl),ac,ab.wf⟩))
 refine ao.skip<|h9 _ _<|.seq fun _ b0=>.seq fun _ b1=>.region<|.q Z (ah Z)<|.nil<|b1 _ _<|.block<|.loop (X:=Nat) (fun j=>[(1,.pointer (some ⟨b4,0,none⟩)),(3,num ((j:Nat):Int))]) (fun j B=>(j<=l.length/\rs.length<=30/\l.length<=10/\∀ k,k < j->(l.getD k []).length<=60)/\A.le B/\B.get b4=some (.row true [num (g),u,rv] 3)) (fun j=>l.length - j) 0 (jO Z Z) (⟨⟨Nat.zero_le _,by omega,by omega,fun k h=>by omega⟩,ac,ab.get⟩) ?_;rintro j B23 ⟨⟨hj,a2,a3,a4⟩,a6,V⟩;refine ao.wf fun aF=>.seq fun _ b2=>.seq fun _ b3=>.region<|.q Z (ae Z)<|.q Z (aj fH iA U Z)<|.q Z (aj go ms U Z)<|.q Z (ak lU Z Z V Z)<|.q Z (bH (n:=l.length) kh Z (hu.le a6) O (eJ _))<|.q Z (cA Z Z) ?_;refine Ops.nil<|b3 _ _<|.if rfl (fun bY=>?_) (fun bY=>?_)
 ·refine ao.skip<|b2 _ _<|.seq fun _ b5=>.block<|.seq fun _ b6=>.region<|.q Z (aj fH iA U Z)<|.q Z (aj go ms U Z)<|.q Z (ak lU Z Z V Z)<|.q Z (ae Z) ?_;obtain ⟨cS,cX,cH,dk,cB,dd,d1,aI,bP,aS,ck,aA⟩:=bJ.at (i:=j) (hu.le a6) Ow O;refine Ops.q Z (aJ kh fz Z aI Z bP)<|.q Z (ak gz Z Z aS ((dh aA).trans (f5 O)))<|.q Z (d6 u9 Z)<|.q Z (fu (b:=60) Z Z)<|.nil<|b6 _ _<|.if rfl (fun c3=>?_) (fun c3=>?_)
  ·refine ao.seq fun _ b7=>.region<|.q Z (ah Z)<|.nil<|b7 _ _<|.rt (by exact be Z (⟨by first | (rw [li ‹_›];rfl) | (rw [lj ‹_›];rfl) | (rw [ll (i:=j) O ‹_›];rfl) | (rw [lm (i:=i) O O];rfl) | (rw [ln (i:=i) (j:=m) O O ‹_›];rfl) | (rw [jf a2 a3 O a4 O hc];rfl),a6,aF⟩))
  refine ao.skip<|b5 _ _<|.region<|.q Z (ae Z)<|.q Z (bN (b:=1) Z Z O)<|.q Z (ah Z)<|.nil ?_;exact ⟨j + 1,jO Z Z,Z,⟨⟨by omega,a2,a3,fun k h=>(Nat.lt_succ_iff_lt_or_eq.1 h).elim (a4 k) (fun z=>by subst z;omega)⟩,a6,V⟩,O1⟩
 refine ao.exit<|b0 _ _<|.seq fun _ b8=>.seq fun _ b9=>.region<|.q Z (ah Z)<|.nil<|b9 _ _<|.block<|.loop (X:=Nat) (fun i=>[(1,.pointer (some ⟨b4,0,none⟩)),(4,num ((i:Nat):Int))]) (fun i B=>(i<=rs.length/\∀ k,k < i->m4 (rs.getD k .zero)=true)/\A.le B/\B.get b4=some (.row true [num (g),u,rv] 3)) (fun i=>rs.length - i) 0 (jO Z Z) (⟨⟨Nat.zero_le _,fun k h=>by omega⟩,a6,V⟩) ?_;rintro i B43 ⟨⟨hi,hc⟩,a7,a0⟩;refine ao.wf fun ag=>.seq fun _ ba=>.seq fun _ bb=>.region<|.q Z (ae Z)<|.q Z (aj de fw U Z)<|.q Z (ak ii Z Z a0 Z)<|.q Z (bH (n:=rs.length) jw Z (hr.le a7) O (dm _))<|.q Z (cA Z Z)<|.nil ?_;refine bb _ _<|.if rfl (fun c4=>?_) (fun c4=>?_)
 ·refine ao.skip<|ba _ _<|.seq fun _ bc=>.block<|.seq fun _ bd=>.region<|.q Z (aj de fw U Z)<|.q Z (ak ii Z Z a0 Z)<|.q Z (ae Z) ?_;obtain ⟨cU,cZ,cK,dv,cC,di,d2,aP,bR,aT,az,cv⟩:=bJ.at (i:=i) (hr.le a7) Oj O;refine Ops.q Z (aJ jw d8 Z aP Z bR)<|.q Z (am nw d8 Z Z aT (az.trans (congrArg some (fZ O))))<|.l Z (fun _ _ aC _=>ca ag rm rfl fun A57 av a5=>?_);have ad:=ne_new ag a0 a5.lo;have ap:=aL wf (Nat.le_trans a7.n a5.lo);have bl:=a5.le.get _ _ a0;have aE:=a7.trans a5.le;refine aC _ _<|.l Z (fun _ _ aD _=>aM (cs:=[aX ((rs.getD i .zero).left),aX ((rs.getD i .zero).right),(rs.getD i .zero).pv]) (c':=[aX ((rs.getD i .zero).left),aX ((rs.getD i .zero).right),(rs.getD i .zero).pv]) a5.wf rfl rfl rfl rfl d8 a5.get (Nat.le_of_ble_eq_true rfl) (gK (hp.get (show i < rs.length by omega))) rfl fun A62 D=>?_);have bm:=D.keep _ _ ad bl;have a8:=al aE wf ap D.n D.keep;refine aD _ _<|.nil<|bd _ _<|.seq fun _ bp=>.seq fun _ ar=>.region<|.q Z (aj eW fz U Z)<|.q Z (ak gz Z Z D.get Z)<|.q Z (d6 u9 Z)<|.q Z (fu (b:=40) Z Z) ?_;refine Ops.q Z (ae Z)<|.part (t:=50) Z (fun c7=>?_) (fun c7=>?_)
  ·refine Ops.off Z Z Z Z<|.off Z Z Z Z<|.off Z Z Z Z<|.off Z Z Z Z<|.q Z (bi Z Z)<|.q Z (ae Z)<|.off Z Z Z Z<|.off Z Z Z Z<|.off Z Z Z Z<|.off Z Z Z Z ?_;refine Ops.q Z (bi Z Z)<|.nil<|ar _ _<|.cond_true Z<|.seq fun _ br=>.region<|.q Z (ah Z)<|.nil<|br _ _<|.rt (by exact be Z (⟨by first | (rw [li ‹_›];rfl) | (rw [lj ‹_›];rfl) | (rw [ll (i:=j) O ‹_›];rfl) | (rw [lm (i:=i) O O];rfl) | (rw [ln (i:=i) (j:=m) O O ‹_›];rfl) | (rw [jf a2 a3 O a4 O hc];rfl),a8,D.wf⟩))
  refine Ops.on Z Z<|.q Z (aj kH fz U Z)<|.on Z Z<|.q Z (ak gz Z Z D.get Z)<|.on Z Z<|.q Z (d6 u9 Z)<|.on Z Z<|.q Z (fu (b:=40) Z Z)<|.q Z (bw Z Z)<|.q Z (ae Z) ?_;refine Ops.part (t:=56) Z (fun cb=>?_) (fun cb=>?_)
  ·refine Ops.off Z Z Z Z<|.off Z Z Z Z<|.off Z Z Z Z<|.off Z Z Z Z<|.q Z (bi Z Z)<|.nil<|ar _ _<|.cond_true Z<|.seq fun _ bu=>.region ?_;refine Ops.q Z (ah Z)<|.nil<|bu _ _<|.rt (by exact be Z (⟨by first | (rw [li ‹_›];rfl) | (rw [lj ‹_›];rfl) | (rw [ll (i:=j) O ‹_›];rfl) | (rw [lm (i:=i) O O];rfl) | (rw [ln (i:=i) (j:=m) O O ‹_›];rfl) | (rw [jf a2 a3 O a4 O hc];rfl),a8,D.wf⟩))
  refine Ops.on Z Z<|.q Z (aj iE jG U Z)<|.on Z Z<|.q Z (ak ns Z Z D.get Z)<|.on Z Z<|.q Z (bH (n:=((rs.getD i .zero).proof).length) oO Z ((hp.get O).le a8) O (ee _))<|.on Z Z<|.q Z (fu (b:=60) Z Z)<|.q Z (bw Z Z)<|.nil ?_;refine ar _ _<|.if rfl (fun cc=>?_) (fun cc=>?_)
  ·refine ao.seq fun _ bv=>.region<|.q Z (ah Z)<|.nil<|bv _ _<|.rt (by exact be Z (⟨by first | (rw [li ‹_›];rfl) | (rw [lj ‹_›];rfl) | (rw [ll (i:=j) O ‹_›];rfl) | (rw [lm (i:=i) O O];rfl) | (rw [ln (i:=i) (j:=m) O O ‹_›];rfl) | (rw [jf a2 a3 O a4 O hc];rfl),a8,D.wf⟩))
  refine ao.skip<|bp _ _<|.seq fun _ bA=>.region<|.q Z (ah Z)<|.nil<|bA _ _<|.block<|.loop (X:=Nat) (fun m=>[(1,.pointer (some ⟨b4,0,none⟩)),(4,num ((i:Nat):Int)),(5,.pointer (some ⟨av,0,none⟩)),(6,num ((m:Nat):Int))]) (fun m B=>(m<=(rs.getD i .zero).proof.length/\∀ k,k < m->((rs.getD i .zero).proof.getD k .zero).conj.length<=200)/\A.le B/\B.get b4=some (.row true [num (g),u,rv] 3)/\B.get av=some (.row true [aX ((rs.getD i .zero).left),aX ((rs.getD i .zero).right),(rs.getD i .zero).pv] 3)) (fun m=>(rs.getD i .zero).proof.length - m) 0 (ks Z Z Z Z) (⟨⟨Nat.zero_le _,fun k h=>by omega⟩,a8,bm,D.get⟩) ?_;rintro m B82 ⟨⟨hk,ai⟩,a9,aa,a1⟩;refine ao.wf fun aG=>.seq fun _ bB=>.seq fun _ bC=>.region<|.q Z (ae Z)<|.q Z (aj iE jG U Z)<|.q Z (ak ns Z Z a1 Z)<|.q Z (bH (n:=((rs.getD i .zero).proof).length) oO Z ((hp.get O).le a9) O (ee _))<|.q Z (cA Z Z)<|.nil ?_;refine bC _ _<|.if rfl (fun cf=>?_) (fun cf=>?_)
  ·refine ao.skip<|bB _ _<|.seq fun _ bD=>.block<|.seq fun _ bL=>.region<|.q Z (aj iE jG U Z)<|.q Z (ak ns Z Z a1 Z)<|.q Z (ae Z) ?_;obtain ⟨cV,d0,cP,dw,cF,dj,d3,aR,bS,aV,cu,aB⟩:=bJ.at (i:=m) ((hp.get O).le a9) ON O;refine Ops.q Z (aJ oO jz Z aR Z bS)<|.q Z (aj mN fz U Z)<|.q Z (ak gz Z Z aV ((aB 0 U).trans (FA O)))<|.q Z (d6 u9 Z)<|.q Z (fu (b:=200) Z Z)<|.nil<|bL _ _<|.if rfl (fun ch=>?_) (fun ch=>?_)
   ·refine ao.seq fun _ bM=>.region<|.q Z (ah Z)<|.nil<|bM _ _<|.rt (by exact be Z (⟨by first | (rw [li ‹_›];rfl) | (rw [lj ‹_›];rfl) | (rw [ll (i:=j) O ‹_›];rfl) | (rw [lm (i:=i) O O];rfl) | (rw [ln (i:=i) (j:=m) O O ‹_›];rfl) | (rw [jf a2 a3 O a4 O hc];rfl),a9,aG⟩))
   refine ao.skip<|bD _ _<|.region<|.q Z (ae Z)<|.q Z (bN (b:=1) Z Z O)<|.q Z (ah Z)<|.nil ?_;exact ⟨m + 1,ks Z Z Z Z,Z,⟨⟨by omega,fun k h=>(Nat.lt_succ_iff_lt_or_eq.1 h).elim (ai k) (fun z=>by subst z;omega)⟩,a9,aa,a1⟩,O1⟩
  refine ao.exit<|bc _ _<|.region<|.q Z (ae Z)<|.q Z (bN (b:=1) Z Z O)<|.q Z (ah Z)<|.nil ?_;exact ⟨i + 1,jO Z Z,Z,⟨⟨by omega,fun k h=>(Nat.lt_succ_iff_lt_or_eq.1 h).elim (hc k) (fun z=>by subst z;exact C5 ‹_› ‹_› ‹_› O ai)⟩,a9,aa⟩,O1⟩
 refine ao.exit<|b8 _ _<|.seq fun _ bO=>.region<|.q Z (ah Z)<|.nil<|bO _ _<|.rt (by exact be Z (⟨by first | (rw [li ‹_›];rfl) | (rw [lj ‹_›];rfl) | (rw [ll (i:=j) O ‹_›];rfl) | (rw [lm (i:=i) O O];rfl) | (rw [ln (i:=i) (j:=m) O O ‹_›];rfl) | (rw [jf a2 a3 O a4 O hc];rfl),a7,ag⟩))

end Go.Proofs.YtjppkekmddjcfaaGreatDoor

namespace Go.Proofs.YtjppkekmddjcfaaGreatDoor
open Go Go.RowKit V
namespace Fr
def NC (w:List UInt8):Prop:=∀ i,i + 1 < w.length->w.getD (i + 1) 0 ≠ w.getD i 0 ^^^ 32
theorem mf {a b:List UInt8} {i:Nat} (h:i < a.length):(a ++ b).getD i 0=a.getD i 0:=by
  rw [List.getD_eq_getElem?_getD,List.getElem?_append_left h,<- List.getD_eq_getElem?_getD]
theorem BZ {a b:List UInt8} {i:Nat} (h:a.length<=i):(a ++ b).getD i 0=b.getD (i - a.length) 0:=by
  rw [List.getD_eq_getElem?_getD,List.getElem?_append_right h,<- List.getD_eq_getElem?_getD]
theorem vN {a:List UInt8} {i n:Nat} (h:i < n):(a.take n).getD i 0=a.getD i 0:=by
  rw [List.getD_eq_getElem?_getD,List.getElem?_take_of_lt h,<- List.getD_eq_getElem?_getD]
theorem NC.left {a b:List UInt8} (h:NC (a ++ b)):NC a:=fun i hi=>by
  have:=h i (by rw [List.length_append];omega)
  rwa [mf O,mf O] at this
theorem NC.take {a:List UInt8} (h:NC a) (n:Nat):NC (a.take n):=NC.left (b:=a.drop n) (by rw [List.take_append_drop];exact h)
theorem NC.pushC {s:List UInt8} (h:NC s) (c:UInt8):NC (push s c):=by
  unfold push
  split
  · exact h.take _
  · rename_i q
    intro i hi
    simp only [List.length_append,List.length_cons,List.length_nil] at hi
    by_cases e:i + 1 < s.length
    · rw [mf e,mf O];exact h i e
    · have e2:i + 1=s.length:=by omega
      rw [BZ O,mf O,show i + 1 - s.length=0 by omega]
      have e3:i=s.length - 1:=by omega
      intro r
      refine q ⟨by omega,?_⟩
      rw [<- e3]
      have r:c=s.getD i 0 ^^^ 32:=r
      rw [r,FP]
theorem NC.ofFold:∀ (w s:List UInt8),NC s->NC (w.foldl push s)
  | [],_,h=>h
  | c :: w,s,h=>NC.ofFold w _ (h.pushC c)
theorem NC.ofRed (w:List UInt8):NC (th w):=NC.ofFold w [] fun i hi=>by simp at hi
def E (a b:List UInt8):Prop:=th a=th b
theorem tA {g:Int} {w:List UInt8} (h:co g w=0):(1<=g/\g<=8)/\w.length<=100000/\w.all (qe g)=true:=by
  unfold co at h
  split at h
  · cases h
  · split at h
    · cases h
    · split at h
      · rename_i h1 h2 h3;exact ⟨by omega,by omega,h3⟩
      · cases h
end Fr
end Go.Proofs.YtjppkekmddjcfaaGreatDoor

namespace Go.Proofs.YtjppkekmddjcfaaGreatDoor
open Go Go.RowKit V Fr
namespace Fr
theorem TP {g:Int} (hg:g<=8) {w:List UInt8} (h:w.all (qe g)=true):w.all (qe 8)=true:=by
  rw [List.all_eq_true] at h ⊢
  intro c hc
  have:=h c hc
  simp only [qe,Bool.and_eq_true,decide_eq_true_eq] at this ⊢
  omega
theorem D5 {g:Int} (hg:g<=8) {w:List UInt8} (hl:w.length<=100000) (h:w.all (qe g)=true):vn w=true:=by
  simp only [vn,Bool.and_eq_true,decide_eq_true_eq]
  exact ⟨hl,TP hg h⟩
end Fr
end Go.Proofs.YtjppkekmddjcfaaGreatDoor

namespace Go.Proofs.YtjppkekmddjcfaaGreatDoor
open Go Go.RowKit V Fr
end Go.Proofs.YtjppkekmddjcfaaGreatDoor

namespace Go.Proofs.YtjppkekmddjcfaaGreatDoor
open Go Go.RowKit V
set_option maxRecDepth 100000


end Go.Proofs.YtjppkekmddjcfaaGreatDoor

namespace Go.Proofs.YtjppkekmddjcfaaGreatDoor
open Go Go.RowKit V Fr
namespace CR
section
variable {L:List (Wd × Wd)} {x y z:Wd}
def dg (c:UInt8):Nat:=(ix c + 2).toNat
theorem SE (c:UInt8):1<=dg c/\dg c<=17:=(show ∀ c:UInt8,1<=dg c/\dg c<=17 from rx (by decide +kernel)) c
theorem Od (c:UInt8):-1<=ix c:=(show ∀ c:UInt8,-1<=ix c from rx (by decide +kernel)) c
def code:Wd->Nat
  | []=>0
  | c :: w=>dg c * 18 ^ w.length + code w
theorem qo:∀ w:Wd,code w < 18 ^ w.length
  | []=>by decide
  | c :: w=>by
    have h1:=qo w
    have h2:=Nat.mul_le_mul_right (18 ^ w.length) (SE c).2
    rw [code,List.length_cons,Nat.pow_succ]
    omega
theorem tN {u v:Wd} (h:u.length < v.length):code u < code v:=by
  cases v with
  | nil=>exact absurd h (Nat.not_lt_zero _)
  | cons c v =>
    rw [List.length_cons] at h
    have h1:=qo u
    have h2:=Nat.pow_le_pow_right (n:=18) U (show u.length<=v.length by omega)
    have h3:=Nat.mul_le_mul_right (18 ^ v.length) (SE c).1
    rw [code]
    omega
theorem yD:∀ u v:Wd,u.length=v.length->nx u v < 0->code u < code v
  | [],v,_,h=>by unfold nx at h;cases v <;> simp at h
  | _ :: _,[],h,_=>by simp at h
  | a :: u,b :: v,h,k=>by
    have hl:u.length=v.length:=by simpa using h
    rw [nx] at k
    rw [code,code,hl]
    by_cases q1:ix a < ix b
    · have h1:=qo u
      rw [hl] at h1
      have h2:dg a + 1<=dg b:=by have:=Od a;have:=Od b;unfold dg;omega
      have h3:=Nat.mul_le_mul_right (18 ^ v.length) h2
      rw [Nat.add_mul] at h3
      omega
    · rw [if_neg q1] at k
      by_cases q2:ix b < ix a
      · rw [if_pos q2] at k;omega
      · rw [if_neg q2] at k
        have:=yD u v hl k
        have e:dg a=dg b:=by unfold dg;omega
        rw [e];omega
theorem DL {u v:Wd}:nZ u v < 0 ↔ u.length < v.length\/(u.length=v.length/\nx u v < 0):=by
  unfold nZ
  by_cases h:u.length=v.length
  · simp [h]
  · by_cases h2:u.length < v.length
    · simp [h,h2]
    · simp [h,h2]
theorem Jm {u v:Wd} (h:nZ u v < 0):code u < code v:=by
  rcases DL.1 h with q | ⟨q,q'⟩
  · exact tN q
  · exact yD u v q q'
theorem pre {a a' x y:Wd} (h:a ++ x=a' ++ y) (hl:a.length<=a'.length):∃ p,a'=a ++ p/\x=p ++ y:=by
  rcases List.append_eq_append_iff.1 h with ⟨p,h1,h2⟩ | ⟨p,h1,h2⟩
  · exact ⟨p,h1,h2⟩
  · have:p=[]:=List.length_eq_zero_iff.1 (by have:=congrArg List.length h1;rw [List.length_append] at this;omega)
    subst this
    exact ⟨[],by simpa using h1.symm,by simpa using h2.symm⟩
variable {n:Nat}
end
end CR
end Go.Proofs.YtjppkekmddjcfaaGreatDoor

namespace Go.Proofs.YtjppkekmddjcfaaGreatDoor
open Go Go.RowKit V Fr
namespace CR
variable {g:Int} {l:List Wd} {rs:List au} {w v x y:Wd}
theorem flip1:∀ x:Fin 16,c5.getD (x.1 ^^^ 1) 0=c5.getD x.1 0 ^^^ 32:=by decide
theorem in_cases {s:Wd × Wd} (h:s ∈ aW g rs):(∃ r ∈ rs,s=(r.left,r.right))\/∃ x,x < 2 * g.toNat/\s=(Oh x,[]):=by
  rcases List.mem_append.1 h with h | h
  · obtain ⟨r,hr,rfl⟩:=List.mem_map.1 h;exact .inl ⟨r,hr,Z⟩
  · obtain ⟨x,hx,rfl⟩:=List.mem_map.1 h;exact .inr ⟨x,List.mem_range.1 hx,Z⟩
theorem sides_at (i:Nat) (hi:i < (aW g rs).length) (h:rs.length<=i):(aW g rs).getD i ([],[])=(Oh (i - rs.length),[])/\i - rs.length < 2 * g.toNat:=by
  rw [kQ] at hi
  refine ⟨?_,by omega⟩
  unfold aW
  rw [List.getD_eq_getElem?_getD,List.getElem?_append_right (by simpa using h)]
  simp [show i - rs.length < 2 * g.toNat by omega]
end CR
end Go.Proofs.YtjppkekmddjcfaaGreatDoor

namespace Go.Proofs.YtjppkekmddjcfaaGreatDoor
open Go Go.RowKit V Fr
section
variable {rs:List au} {i:Nat}
theorem DU {α:Type} {f:Nat->List α} {B:Nat}:∀ k,(∀ i,i < k->(f i).length<=B)->((List.range k).flatMap f).length<=k * B
  | 0,_=>by simp
  | k + 1,h=>by
    rw [List.range_succ,List.flatMap_append,List.length_append,Nat.succ_mul]
    have h1:=DU k fun i hi=>h i O
    have h2:=h k O
    simp only [List.flatMap_cons,List.flatMap_nil,List.append_nil]
    omega
variable {w:Wd} {a b:Int} {m j:Nat}
end
theorem Ju {w:Wd} {m:Nat} (h:m + 1 < w.length):(w.take (m + 2)).drop m=[w.getD m 0,w.getD (m + 1) 0]:=by
  rw [List.drop_eq_getElem_cons Ox,List.drop_eq_getElem_cons Ox,List.drop_eq_nil_of_le Ox]
  simp [show m < w.length by omega,h]
end Go.Proofs.YtjppkekmddjcfaaGreatDoor

namespace Go.Proofs.YtjppkekmddjcfaaGreatDoor
open Go Go.RowKit V
set_option maxRecDepth 100000


end Go.Proofs.YtjppkekmddjcfaaGreatDoor

namespace Go.Proofs.YtjppkekmddjcfaaGreatDoor
open Go Go.RowKit V
set_option maxRecDepth 100000
end Go.Proofs.YtjppkekmddjcfaaGreatDoor

namespace Go.Proofs.YtjppkekmddjcfaaGreatDoor
open Go Go.RowKit V Fr
section
variable {g:Int} {l:List Wd} {z w s x y:Wd}
end
section
variable {g:Int} {l:List Wd} {rs:List au} {w v:Wd}
end
end Go.Proofs.YtjppkekmddjcfaaGreatDoor

namespace Go.Proofs.YtjppkekmddjcfaaGreatDoor
open Go Go.RowKit V
set_option maxRecDepth 100000
end Go.Proofs.YtjppkekmddjcfaaGreatDoor

namespace Go.Proofs.YtjppkekmddjcfaaGreatDoor
open Go Go.RowKit V
abbrev fB (rs:List au):List Value:=rs.map au.pv
abbrev lx (A0 A:AH) (rs:List au):Prop:=fP 3 cN A0 A (fB rs) (rs.map au.proof)
section
variable {A0 A:AH} {rs:List au} {r:au} {b:Nat} {u:Value}
theorem yR:lx A0 A []:=fP.nil
theorem jS:bI (fB []) b:=fun _ h=>by cases h
theorem Ah:aq u (fB []):=fun _ h=>by cases h
theorem md (h:lx A0 A rs) (fr:Fresh A0 A r.pv 3 (cN r.proof)) (hs:aq r.pv (fB rs)):lx A0 A (rs ++ [r]):=by
  unfold lx fB
  rw [List.map_append,List.map_append]
  exact fP.snoc h fr hs
theorem cQ (h:bI (fB rs) b) (hv:V.blk r.pv ≠ some b):bI (fB (rs ++ [r])) b:=by
  unfold fB;rw [List.map_append];exact h.snoc hv
theorem gT (h:aq u (fB rs)) (hv:bh u r.pv):aq u (fB (rs ++ [r])):=by
  unfold fB;rw [List.map_append];exact h.snoc hv
theorem i9 (h:lx A0 A rs):Proofs A rs:=fun r hr=>by
  obtain ⟨i,hi,rfl⟩:=List.getElem_of_mem hr
  have:=(h.fr i (by simpa using hi)).slc
  simpa [hi] using this
end
end Go.Proofs.YtjppkekmddjcfaaGreatDoor

namespace Go.Proofs.YtjppkekmddjcfaaGreatDoor
open Go Go.RowKit V
theorem tQ {rs D:List au} {i:Nat} {v:Value} (hi:i < rs.length) (h:D.map (dA true)=(rs.take i).map (dA true)) :
    (D ++ [(⟨(rs.getD i .zero).left,(rs.getD i .zero).right,v,(rs.getD i .zero).proof⟩:au)]).map (dA true)=(rs.take (i + 1)).map (dA true):=by
  rw [List.map_append,h,<- od (dA true) (z:=au.zero) hi];rfl
end Go.Proofs.YtjppkekmddjcfaaGreatDoor

namespace Go.Proofs.YtjppkekmddjcfaaGreatDoor
open Go Go.RowKit V
set_option maxRecDepth 100000
theorem zd:Tryz.prog.info? 83=some Tryz.t83:=by kernel_rfl
theorem Ob:Tryz.prog.info? 9=some Tryz.t9:=by kernel_rfl

theorem zW (g:Int) (u:Value) (l:List (List UInt8)) (rv:Value) (rs:List au) (A:AH) (hln:l.length<=1000000) (hrn:rs.length<=1000000) (hpn:∀ r ∈ rs,r.proof.length<=1000000) (hu:bJ A 1 u (dc l)) (hr:bJ A 3 rv (ci rs)) (hp:Proofs A rs):bG Tryz.prog 41 #[.agg #[num (g),u,rv]] A (fun v A1=>∃ u2 rv2 D,v=.agg #[num g,u2,rv2]/\A.le A1/\A1.wf/\Fresh A A1 u2 1 (dc l)/\Fresh A A1 rv2 3 (ci D)/\Proofs A1 D/\D.map (dA true)=rs.map (dA true)):=by
 refine iy Tryz.call41 Tryz.func41 Z Tryz.results41 Tryz.ntmps41 Z (fun wf=>?_);have B9:=AH.le.refl A;refine ao.seq fun _ h2=>.region<|.l Z (fun _ _ B6 _=>ej wf rfl rfl fun A5 b4 me=>?_);have u1:=B9.trans me.le;refine B6 _ _<|.l Z (fun _ _ B7 _=>ca me.wf vp rfl fun A10 b9 b7=>?_);have fL:=aL wf (Nat.le_trans u1.n b7.lo);have eV:=b7.le.get _ _ me.get;have fO:=u1.trans b7.le;refine B7 _ _<|.nil<|h2 _ _<|.seq fun _ kv=>.drawnT (.one 0 (.one 1 (.one 2 (.one 4 (.one 5 (.one 6 (.two 3 10 (.two 7 10 (.one 8 (.one 9 (.one 10 (.one 11 (.done))))) (.one 7 (.one 8 (.one 9 (.one 11 (.done)))))) (.one 3 (.one 7 (.one 8 (.one 9 (.one 11 (.done))))))))))))) mixed Y Y Z ?_;refine cd.q Z Z Z (aj fH iA U Z) ?_;refine cd.q Z Z Z (aj ia dx U Z) ?_;have lX:=dL (off:=0) eV (show _=some (num (g)) from rfl);refine cd.q Z Z Z (ak fj Z Z eV Z) ?_;refine cd.q Z Z Z (aj fH iA U Z) ?_;refine cd.q Z Z Z (aj go ms U Z) ?_;have lY:=dL (off:=1) eV (show _=some (u) from rfl);refine cd.q Z Z Z (ak lU Z Z eV Z) ?_;refine cd.both Z Z Z Z Z Z ?_ ?_
 ·refine fun _ _ zs _=>aN (c:=[]) b7.wf rfl (ax kh fz z9 rfl U U rfl) fun A20 tS aA=>?_;have b6:=ne_new b7.wf eV aA.lo;have bC:=ne_new b7.wf b7.get aA.lo;have fT:=aL wf (Nat.le_trans fO.n aA.lo);have hz:=aA.le.get _ _ eV;have hA:=aA.le.get _ _ b7.get;have g7:=cm aA.le lX;have lZ:=cm aA.le lY;have fQ:=fO.trans aA.le;refine zs _ _ (aO.list (L:=[(⟨b4,1,none⟩,u),(⟨b4,0,none⟩,num (g))]) Y (bq lZ (bq g7 cL))) ?_;refine cd.both Z Z Z Z Z Z ?_ ?_
  ·have k6:Fresh A A20 (.slice (some ⟨tS,0,none⟩) 0 0) 1 (dc []):=Fresh.lit aA.get fT Z (Nat.le_of_ble_eq_true Z);refine fun _ _ zE _=>cJ rfl rfl kh fz Ob z9 rfl U kh (fun _ h=>by cases h) k6.own ((hu.le fQ).listOf (n:=l.length) OJ O) OJ (rg _) (by show (_ + _) * 16<=_;simp only [bQ,List.length_cons,List.length_nil];(try simp only [List.length_append,List.length_cons,List.length_nil]);(try have:=hpi O);omega) (by simp only [bQ,List.length_cons,List.length_nil];(try simp only [List.length_append,List.length_cons,List.length_nil]);(try have:=hpi O);omega) fun A29 Cu bb=>?_;rw [lr] at bb;obtain ⟨g3,mb⟩:=Fresh.grow k6 fQ wf bb;have tT:=bb.keep (fun q=>by cases q;exact b6 Z) hz;have Ac:=bb.ne (fun q=>by cases q;exact b6 Z) aA.wf hz;have tW:=bb.keep (fun q=>by cases q;exact bC Z) hA;have Ad:=bb.ne (fun q=>by cases q;exact bC Z) aA.wf hA;have m1:=bb.cell (fun q=>by cases q;exact b6 Z) g7;refine zE _ _ (aO.list (L:=[(⟨b4,0,none⟩,num (g))]) Y (bq m1 cL)) ?_;obtain ⟨bv,bd,bc,Bb,_⟩:=g3.own.slice;subst Bb;refine cd.q Z Z Z (cR Z (aU Sh Sk GT Z)) ?_;refine cd.q Z Z Z (cR Z (aU MQ vp vw Z)) ?_;refine cd.l Z Z Z (fun _ _ zI _=>ca bb.wf vp rfl fun A45 ft bl=>?_);have eX:=ne_new bb.wf tT bl.lo;have eZ:=ne_new bb.wf tW bl.lo;have mm:=g3.own.ne_new bb.wf bl.lo;have fV:=aL wf (Nat.le_trans mb.n bl.lo);have AI:=bl.le.get _ _ tT;have AP:=bl.le.get _ _ tW;have v1:=g3.le bl.le;have zi:=cm bl.le m1;have A9:=mb.trans bl.le;refine zI _ _ (aO.list (L:=[(⟨b4,0,none⟩,num (g))]) Y (bq zi cL)) ?_;refine cd.l Z Z Z (fun _ _ zS _=>aM (cs:=[num (g),.slice bv bd bc,.slice none 0 0]) (c':=[num (g),.slice bv bd bc,.slice none 0 0]) bl.wf rfl rfl rfl rfl cT bl.get (Nat.le_of_ble_eq_true rfl) rfl rfl fun A54 eT=>?_);have AR:=eT.keep _ _ eX AI;have AS:=eT.keep _ _ eZ AP;have v2:=v1.keep eT.keep mm;have Aa:=al A9 wf fV eT.n eT.keep;refine zS _ _ (aO.none Y) ?_;refine cd.done ?_;refine kv _ _<|.seq fun _ AT=>.seq fun _ AV=>.region<|.q Z (ah Z)<|.nil<|AV _ _<|.block ?_;have fd:lx A A54 []:=yR;refine ao.loop (X:=Nat × List au × Value) (fun ⟨i,D,a0⟩=>[(1,.pointer (some ⟨b4,0,none⟩)),(2,.pointer (some ⟨b9,0,none⟩)),(3,.pointer (some ⟨ft,0,none⟩)),(4,num ((i:Nat):Int))]) (fun ⟨i,D,a0⟩ B=>(i<=rs.length/\D.map (dA true)=(rs.take i).map (dA true))/\A.le B/\Fresh A B a0 3 (ci D)/\Fresh A B (.slice bv bd bc) 1 (dc (([]) ++ l))/\B.get ft=some (.row true [num (g),.slice bv bd bc,a0] 3)/\B.get b4=some (.row true [num (g),u,rv] 3)/\B.get b9=some (.row true [num ((0:Nat):Int),.slice none 0 0,.slice none 0 0] 3)/\V.blk a0 ≠ some ft/\V.blk (.slice bv bd bc) ≠ some ft/\V.blk a0 ≠ some b4/\V.blk (.slice bv bd bc) ≠ some b4/\V.blk a0 ≠ some b9/\V.blk (.slice bv bd bc) ≠ some b9/\bh a0 (.slice bv bd bc)/\lx A B D/\bI (fB D) ft/\bI (fB D) b4/\bI (fB D) b9/\aq a0 (fB D)/\aq (.slice bv bd bc) (fB D)) (fun ⟨i,D,a0⟩=>rs.length - i) (⟨0,[],.slice none 0 0⟩) (ks Z Z Z Z) (⟨⟨Nat.zero_le _,rfl⟩,Aa,(Fresh.nil A A54 3),v2,eT.get,AR,AS,(fun q=>by cases q),mm,(fun q=>by cases q),Ac,(fun q=>by cases q),Ad,bh.nil,fd,jS,jS,jS,aq.nil,Ah⟩) ?_;rintro ⟨i,D,a0⟩ B65 ⟨⟨hi,hb⟩,fe,c4,cC,dO,d3,eN,d0,cB,dI,fi,bT,cX,fl,eL,fn,fM,dW,dZ,fN⟩;refine ao.wf fun d2=>?_;have hbl:D.length=i:=by have:=congrArg List.length hb;simp only [List.length_map,List.length_take] at this;omega
   have hpi:=fun q:i < rs.length=>hpn _ (bx (d:=au.zero) q);refine ao.seq fun _ AY=>.seq fun _ AZ=>.region<|.q Z (ae Z)<|.q Z (aj de fw U Z)<|.q Z (ak ii Z Z d3 Z)<|.q Z (bH (n:=rs.length) jw Z (hr.le fe) O (dm _))<|.q Z (cA Z Z)<|.nil<|AZ _ _ ?_;refine ao.if rfl (fun Ba=>?_) (fun Ba=>?_)
   ·refine ao.skip<|AY _ _<|.seq fun _ B0=>.block<|.seq fun _ B2=>.region<|.q Z (aj de fw U Z)<|.q Z (ak ii Z Z d3 Z)<|.q Z (ae Z) ?_;obtain ⟨Ch,Ck,BY,Cs,BV,Cq,Cp,AF,B8,AG,uI,BB⟩:=bJ.at (i:=i) (hr.le fe) Oj O;refine Ops.q Z (aJ jw d8 Z AF Z B8)<|.q Z (am nw d8 Z Z AG (uI.trans (congrArg some (fZ O))))<|.l Z (fun _ _ zV _=>ca d2 rm rfl fun A79 AD aS=>?_);have e2:=ne_new d2 dO aS.lo;have eY:=ne_new d2 d3 aS.lo;have f0:=ne_new d2 eN aS.lo;have mt:=c4.own.ne_new d2 aS.lo;have mv:=cC.own.ne_new d2 aS.lo;have ge:=eL.ne_new d2 aS.lo;have fX:=aL wf (Nat.le_trans fe.n aS.lo);have B3:=aS.le.get _ _ dO;have B4:=aS.le.get _ _ d3;have B5:=aS.le.get _ _ eN;have v3:=c4.le aS.le;have v4:=cC.le aS.le;have v0:=eL.le aS.le;have Ab:=fe.trans aS.le;refine zV _ _<|.l Z (fun _ _ A6 _=>aM (cs:=[aX ((rs.getD i .zero).left),aX ((rs.getD i .zero).right),(rs.getD i .zero).pv]) (c':=[aX ((rs.getD i .zero).left),aX ((rs.getD i .zero).right),(rs.getD i .zero).pv]) aS.wf rfl rfl rfl rfl d8 aS.get (Nat.le_of_ble_eq_true rfl) (gK (hp.get (show i < rs.length by omega))) rfl fun A92 av=>?_);have tY:=av.keep _ _ e2 B3;have tZ:=av.keep _ _ eY B4;have u0:=av.keep _ _ f0 B5;have k7:=v3.keep av.keep mt;have k9:=v4.keep av.keep mv;have k4:=v0.keep av.keep ge;have hF:=al Ab wf fX av.n av.keep;refine A6 _ _<|.nil<|B2 _ _<|.seq fun _ v7=>.region<|.l Z (fun _ _ oY _=>aN (c:=[]) av.wf rfl (ax oO jz IW rfl U U rfl) fun A105 f6 a1=>?_);have dD:=ne_new av.wf tY a1.lo;have e3:=ne_new av.wf tZ a1.lo;have ec:=ne_new av.wf u0 a1.lo;have dG:=ne_new av.wf av.get a1.lo;have hW:=k7.own.ne_new av.wf a1.lo;have hX:=k9.own.ne_new av.wf a1.lo;have iF:=k4.ne_new av.wf a1.lo;have j3:=aL wf (Nat.le_trans hF.n a1.lo);have kc:=a1.le.get _ _ tY;have kl:=a1.le.get _ _ tZ;have km:=a1.le.get _ _ u0;have g4:=a1.le.get _ _ av.get;have gM:=k7.le a1.le;have gN:=k9.le a1.le;have gm:=k4.le a1.le;have hG:=hF.trans a1.le;refine oY _ _<|.q Z (aj iE jG U Z)<|.q Z (ak ns Z Z g4 Z) ?_;have gP:Fresh A A105 (.slice (some ⟨f6,0,none⟩) 0 0) 3 (cN []):=Fresh.lit a1.get j3 Z (Nat.le_of_ble_eq_true Z);refine Ops.l Z (fun _ _ oZ _=>cJ rfl rfl oO jz D4 IW rfl U oO (fun _ h=>by cases h) gP.own (((hp.get O).le hG).listOf (n:=((rs.getD i .zero).proof).length) OR O) OR (pM _) (by show (_ + _) * 32<=_;simp only [ce,List.length_cons,List.length_nil];(try simp only [List.length_append,List.length_cons,List.length_nil]);(try have:=hpi O);omega) (by simp only [ce,List.length_cons,List.length_nil];(try simp only [List.length_append,List.length_cons,List.length_nil]);(try have:=hpi O);omega) fun A120 C1 a6=>?_);rw [jL] at a6;obtain ⟨gQ,q6⟩:=Fresh.grow gP hG wf a6;have v8:=a6.keep (fun q=>by cases q;exact dD Z) kc;have r7:=a6.ne (fun q=>by cases q;exact dD Z) a1.wf kc;have v9:=a6.keep (fun q=>by cases q;exact e3 Z) kl;have r9:=a6.ne (fun q=>by cases q;exact e3 Z) a1.wf kl;have vC:=a6.keep (fun q=>by cases q;exact ec Z) km;have rr:=a6.ne (fun q=>by cases q;exact ec Z) a1.wf km;have vS:=a6.keep (fun q=>by cases q;exact dG Z) g4;have hO:=a6.ne (fun q=>by cases q;exact dG Z) a1.wf g4;have iX:=bh.appd (show bh (.slice (some ⟨f6,0,none⟩) 0 0) a0 from (fun c hc hq=>by cases hc;exact hW hq)) gM.own a1.wf a6;have nu:=gM.appd a6 (fun c hc hq=>by cases hc;exact hW hq);have t0:=bh.appd (show bh (.slice (some ⟨f6,0,none⟩) 0 0) (.slice bv bd bc) from (fun c hc hq=>by cases hc;exact hX hq)) gN.own a1.wf a6;have nv:=gN.appd a6 (fun c hc hq=>by cases hc;exact hX hq);have t1:=aq.appd (show aq (.slice (some ⟨f6,0,none⟩) 0 0) (fB D) from (aq.new iF)) gm a1.wf a6;have mT:=gm.appd a6 (show aq (.slice (some ⟨f6,0,none⟩) 0 0) (fB D) from (aq.new iF));refine oZ _ _<|.q Z (aj iE jG U Z) ?_;obtain ⟨aT,aI,aE,Ai,_⟩:=gQ.own.slice;subst Ai;refine Ops.l Z (fun _ _ p0 _=>aM (cs:=[.slice aT aI aE]) (c':=[aX ((rs.getD i .zero).left),aX ((rs.getD i .zero).right),.slice aT aI aE]) a6.wf rfl rfl rfl rfl jG vS (Nat.le_of_ble_eq_true rfl) rfl rfl fun A143 aB=>?_);have kp:=aB.keep _ _ e2 v8;have vX:=aB.keep _ _ eY v9;have vZ:=aB.keep _ _ f0 vC;have nB:=nu.keep aB.keep mt;have nC:=nv.keep aB.keep mv;have gS:=gQ.keep aB.keep hO;have gp:=mT.keep aB.keep ge;have q7:=al q6 wf fX aB.n aB.keep;refine p0 _ _<|.nil<|v7 _ _<|.region<|.q Z (aj de fw U Z)<|.q Z (ak ii Z Z kp Z)<|.q Z (am nw d8 Z Z aB.get Z)<|.l Z (fun _ _ p5 _=>aN (c:=[aX ((rs.getD i .zero).left),aX ((rs.getD i .zero).right),.slice aT aI aE]) aB.wf rfl (ax jw d8 rm rfl U U rfl) fun A155 u8 a9=>?_);have ss:=gS.own.ne_new aB.wf a9.lo;have sB:=gp.ne_new aB.wf a9.lo;have kC:=a9.le.get _ _ kp;have kD:=a9.le.get _ _ vX;have kK:=a9.le.get _ _ vZ;have gX:=nB.le a9.le;have gY:=nC.le a9.le;have gZ:=gS.le a9.le;have gq:=gp.le a9.le;have q8:=q7.trans a9.le;refine p5 _ _<|.l Z (fun _ _ p6 _=>cJ (ys:=[aX ((rs.getD i .zero).left),aX ((rs.getD i .zero).right),.slice aT aI aE]) rfl rfl jw d8 zd rm rfl U jw (fun _ h=>by cases h) gX.own (bW (n:=1) a9.get Z) rfl rfl (by show (_ + _) * 56<=_;simp only [bK,List.length_cons,List.length_nil];(try simp only [List.length_append,List.length_cons,List.length_nil]);(try have:=hpi O);omega) (by simp only [bK,List.length_cons,List.length_nil];(try simp only [List.length_append,List.length_cons,List.length_nil]);(try have:=hpi O);omega) fun A171 C2 ag=>?_);rw [show ([aX ((rs.getD i .zero).left),aX ((rs.getD i .zero).right),.slice aT aI aE]:List Value)=ci [(⟨(rs.getD i .zero).left,(rs.getD i .zero).right,.slice aT aI aE,([]) ++ (rs.getD i .zero).proof⟩:au)] from rfl,ju] at ag;obtain ⟨h0,q9⟩:=Fresh.grow gX q8 wf ag;have w0:=ag.keep d0 kC;have hP:=ag.ne d0 a9.wf kC;have w1:=ag.keep dI kD;have rt:=ag.ne dI a9.wf kD;have w2:=ag.keep bT kK;have rR:=ag.ne bT a9.wf kK;have t2:=bh.appd (show bh a0 (.slice bv bd bc) from fl) gY.own a9.wf ag;have nD:=gY.appd ag fl;have t3:=bh.appd (show bh a0 (.slice aT aI aE) from (bh.symm iX)) gZ.own a9.wf ag;have nE:=gZ.appd ag (bh.symm iX);have t4:=aq.appd (show aq a0 (fB D) from dZ) gq a9.wf ag;have mV:=gq.appd ag (show aq a0 (fB D) from dZ);have mX:lx A A171 (D ++ [(⟨(rs.getD i .zero).left,(rs.getD i .zero).right,.slice aT aI aE,([]) ++ (rs.getD i .zero).proof⟩:au)]):=md mV nE t1;have iH:bI (fB (D ++ [(⟨(rs.getD i .zero).left,(rs.getD i .zero).right,.slice aT aI aE,([]) ++ (rs.getD i .zero).proof⟩:au)])) ft:=cQ fn r7;have sF:bI (fB (D ++ [(⟨(rs.getD i .zero).left,(rs.getD i .zero).right,.slice aT aI aE,([]) ++ (rs.getD i .zero).proof⟩:au)])) b4:=cQ fM r9;have sN:bI (fB (D ++ [(⟨(rs.getD i .zero).left,(rs.getD i .zero).right,.slice aT aI aE,([]) ++ (rs.getD i .zero).proof⟩:au)])) b9:=cQ dW rr;have Bk:bI (fB (D ++ [(⟨(rs.getD i .zero).left,(rs.getD i .zero).right,.slice aT aI aE,([]) ++ (rs.getD i .zero).proof⟩:au)])) AD:=cQ ge hO;have Bl:bI (fB (D ++ [(⟨(rs.getD i .zero).left,(rs.getD i .zero).right,.slice aT aI aE,([]) ++ (rs.getD i .zero).proof⟩:au)])) u8:=cQ sB ss;have t5:aq (.slice bv bd bc) (fB (D ++ [(⟨(rs.getD i .zero).left,(rs.getD i .zero).right,.slice aT aI aE,([]) ++ (rs.getD i .zero).proof⟩:au)])):=gT fN (bh.symm t0);have t6:aq _ (fB (D ++ [(⟨(rs.getD i .zero).left,(rs.getD i .zero).right,.slice aT aI aE,([]) ++ (rs.getD i .zero).proof⟩:au)])):=gT t4 t3;refine p6 _ _<|.q Z (aj de fw U Z) ?_;obtain ⟨gf,g8,g0,Ap,_⟩:=h0.own.slice;subst Ap;refine Ops.l Z (fun _ _ p7 _=>aM (cs:=[.slice gf g8 g0]) (c':=[num (g),.slice bv bd bc,.slice gf g8 g0]) ag.wf rfl rfl rfl rfl fw w0 (Nat.le_of_ble_eq_true rfl) rfl rfl fun A202 bD=>?_);have w3:=bD.keep _ _ eX w1;have w4:=bD.keep _ _ eZ w2;have nH:=nD.keep bD.keep cB;have nJ:=h0.keep bD.keep hP;have n1:=mX.keep bD.keep iH;have qa:=al q9 wf fV bD.n bD.keep;refine p7 _ _<|.nil<|B0 _ _<|.region<|.q Z (ae Z)<|.q Z (bN (b:=1) Z Z O)<|.q Z (ah Z)<|.nil ?_;exact ⟨⟨i + 1,D ++ [(⟨(rs.getD i .zero).left,(rs.getD i .zero).right,.slice aT aI aE,([]) ++ (rs.getD i .zero).proof⟩:au)],.slice gf g8 g0⟩,ks Z Z Z Z,Z,⟨⟨by omega,tQ O hb⟩,qa,nJ,nH,bD.get,w3,w4,hP,cB,rt,fi,rR,cX,t2,n1,iH,sF,sN,t6,t5⟩,O1⟩
   refine ao.exit<|AT _ _<|.seq fun _ w5=>.region<|.q Z (am dn cT Z Z dO Z) ?_;obtain ⟨mx,m2,k1,Ar,_⟩:=c4.own.slice;subst Ar;refine Ops.l Z (fun _ _ p8 _=>aM (cs:=[num (g),.slice bv bd bc,.slice mx m2 k1]) (c':=[num (g),.slice bv bd bc,.slice mx m2 k1]) d2 rfl rfl rfl rfl cT eN (Nat.le_of_ble_eq_true rfl) rfl rfl fun A215 ck=>?_);have nK:=c4.keep ck.keep bT;have nL:=cC.keep ck.keep cX;have n2:=eL.keep ck.keep dW;have qb:=al fe wf fL ck.n ck.keep;refine p8 _ _<|.nil<|w5 _ _<|.ret ?_;repeat first | with_reducible refine bE ?_ | with_reducible refine bk ?_
   exact be (dE dn cT Z ck.get Z eh) (⟨_,_,_,Z,qb,ck.wf,nL,nK,i9 n2,by rw [hb,List.take_of_length_le O]⟩)
  refine fun _ _ p9 _=>ca aA.wf vp rfl fun A225 eC ar=>?_;have e4:=ne_new aA.wf hz ar.lo;have eg:=ne_new aA.wf hA ar.lo;have dz:=ne_new aA.wf aA.get ar.lo;have fv:=aL wf (Nat.le_trans fQ.n ar.lo);have kL:=ar.le.get _ _ hz;have kM:=ar.le.get _ _ hA;have w6:=ar.le.get _ _ aA.get;have hB:=cm ar.le g7;have oS:=cm ar.le lZ;have hH:=fQ.trans ar.le;refine p9 _ _ (aO.list (L:=[(⟨b4,1,none⟩,u),(⟨b4,0,none⟩,num (g))]) Y (bq oS (bq hB cL))) ?_;have h1:Fresh A A225 (.slice (some ⟨tS,0,none⟩) 0 0) 1 (dc []):=Fresh.lit w6 fT Z (Nat.le_of_ble_eq_true Z);refine cd.l Z Z Z (fun _ _ pa _=>cJ rfl rfl kh fz Ob z9 rfl U kh (fun _ h=>by cases h) h1.own ((hu.le hH).listOf (n:=l.length) OJ O) OJ (rg _) (by show (_ + _) * 16<=_;simp only [bQ,List.length_cons,List.length_nil];(try simp only [List.length_append,List.length_cons,List.length_nil]);(try have:=hpi O);omega) (by simp only [bQ,List.length_cons,List.length_nil];(try simp only [List.length_append,List.length_cons,List.length_nil]);(try have:=hpi O);omega) fun A235 C3 b8=>?_);rw [lr] at b8;obtain ⟨h3,qd⟩:=Fresh.grow h1 hH wf b8;have w7:=b8.keep (fun q=>by cases q;exact b6 Z) kL;have rS:=b8.ne (fun q=>by cases q;exact b6 Z) ar.wf kL;have wc:=b8.keep (fun q=>by cases q;exact bC Z) kM;have rT:=b8.ne (fun q=>by cases q;exact bC Z) ar.wf kM;have wl:=b8.keep (fun q=>by cases q;exact dz.symm Z) ar.get;have hQ:=b8.ne (fun q=>by cases q;exact dz.symm Z) ar.wf ar.get;have oV:=b8.cell (fun q=>by cases q;exact b6 Z) hB;refine pa _ _ (aO.list (L:=[(⟨b4,0,none⟩,num (g))]) Y (bq oV cL)) ?_;obtain ⟨b3,b1,aZ,As,_⟩:=h3.own.slice;subst As;refine cd.q Z Z Z (cR Z (aU Sh Sk GT Z)) ?_;refine cd.q Z Z Z (cR Z (aU MQ vp vw Z)) ?_;refine cd.l Z Z Z (fun _ _ pe _=>aM (cs:=[num (g),.slice b3 b1 aZ,.slice none 0 0]) (c':=[num (g),.slice b3 b1 aZ,.slice none 0 0]) b8.wf rfl rfl rfl rfl cT wl (Nat.le_of_ble_eq_true rfl) rfl rfl fun A252 dd=>?_);have wm:=dd.keep _ _ e4 w7;have wp:=dd.keep _ _ eg wc;have nM:=h3.keep dd.keep hQ;have qp:=al qd wf fv dd.n dd.keep;refine pe _ _ (aO.none Y) ?_;refine cd.done ?_;refine kv _ _<|.seq fun _ wy=>.seq fun _ wz=>.region<|.q Z (ah Z)<|.nil<|wz _ _<|.block ?_;have fd:lx A A252 []:=yR;refine ao.loop (X:=Nat × List au × Value) (fun ⟨i,D,a0⟩=>[(1,.pointer (some ⟨b4,0,none⟩)),(2,.pointer (some ⟨b9,0,none⟩)),(3,.pointer (some ⟨eC,0,none⟩)),(4,num ((i:Nat):Int))]) (fun ⟨i,D,a0⟩ B=>(i<=rs.length/\D.map (dA true)=(rs.take i).map (dA true))/\A.le B/\Fresh A B a0 3 (ci D)/\Fresh A B (.slice b3 b1 aZ) 1 (dc (([]) ++ l))/\B.get eC=some (.row true [num (g),.slice b3 b1 aZ,a0] 3)/\B.get b4=some (.row true [num (g),u,rv] 3)/\B.get b9=some (.row true [num ((0:Nat):Int),.slice none 0 0,.slice none 0 0] 3)/\V.blk a0 ≠ some eC/\V.blk (.slice b3 b1 aZ) ≠ some eC/\V.blk a0 ≠ some b4/\V.blk (.slice b3 b1 aZ) ≠ some b4/\V.blk a0 ≠ some b9/\V.blk (.slice b3 b1 aZ) ≠ some b9/\bh a0 (.slice b3 b1 aZ)/\lx A B D/\bI (fB D) eC/\bI (fB D) b4/\bI (fB D) b9/\aq a0 (fB D)/\aq (.slice b3 b1 aZ) (fB D)) (fun ⟨i,D,a0⟩=>rs.length - i) (⟨0,[],.slice none 0 0⟩) (ks Z Z Z Z) (⟨⟨Nat.zero_le _,rfl⟩,qp,(Fresh.nil A A252 3),nM,dd.get,wm,wp,(fun q=>by cases q),hQ,(fun q=>by cases q),rS,(fun q=>by cases q),rT,bh.nil,fd,jS,jS,jS,aq.nil,Ah⟩) ?_;rintro ⟨i,D,a0⟩ B263 ⟨⟨hi,hb⟩,e0,bA,bR,c7,cc,dS,bY,bm,cZ,eQ,br,bU,f1,dJ,f3,fm,dj,dv,fq⟩;refine ao.wf fun bO=>?_;have hbl:D.length=i:=by have:=congrArg List.length hb;simp only [List.length_map,List.length_take] at this;omega
  have hpi:=fun q:i < rs.length=>hpn _ (bx (d:=au.zero) q);refine ao.seq fun _ wC=>.seq fun _ wF=>.region<|.q Z (ae Z)<|.q Z (aj de fw U Z)<|.q Z (ak ii Z Z cc Z)<|.q Z (bH (n:=rs.length) jw Z (hr.le e0) O (dm _))<|.q Z (cA Z Z)<|.nil<|wF _ _ ?_;refine ao.if rfl (fun Af=>?_) (fun Af=>?_)
  ·refine ao.skip<|wC _ _<|.seq fun _ wL=>.block<|.seq fun _ wM=>.region<|.q Z (aj de fw U Z)<|.q Z (ak ii Z Z cc Z)<|.q Z (ae Z) ?_;obtain ⟨By,BC,Bu,BT,Bs,BP,BL,uP,A7,v5,mK,Bc⟩:=bJ.at (i:=i) (hr.le e0) Oj O;refine Ops.q Z (aJ jw d8 Z uP Z A7)<|.q Z (am nw d8 Z Z v5 (mK.trans (congrArg some (fZ O))))<|.l Z (fun _ _ pf _=>ca bO rm rfl fun A277 ub ac=>?_);have cF:=ne_new bO c7 ac.lo;have e5:=ne_new bO cc ac.lo;have en:=ne_new bO dS ac.lo;have hY:=bA.own.ne_new bO ac.lo;have hZ:=bR.own.ne_new bO ac.lo;have fR:=dJ.ne_new bO ac.lo;have fD:=aL wf (Nat.le_trans e0.n ac.lo);have wP:=ac.le.get _ _ c7;have wS:=ac.le.get _ _ cc;have wY:=ac.le.get _ _ dS;have nN:=bA.le ac.le;have nO:=bR.le ac.le;have n3:=dJ.le ac.le;have qr:=e0.trans ac.le;refine pf _ _<|.l Z (fun _ _ pi _=>aM (cs:=[aX ((rs.getD i .zero).left),aX ((rs.getD i .zero).right),(rs.getD i .zero).pv]) (c':=[aX ((rs.getD i .zero).left),aX ((rs.getD i .zero).right),(rs.getD i .zero).pv]) ac.wf rfl rfl rfl rfl d8 ac.get (Nat.le_of_ble_eq_true rfl) (gK (hp.get (show i < rs.length by omega))) rfl fun A290 a4=>?_);have kP:=a4.keep _ _ cF wP;have kT:=a4.keep _ _ e5 wS;have kV:=a4.keep _ _ en wY;have h4:=nN.keep a4.keep hY;have h5:=nO.keep a4.keep hZ;have gs:=n3.keep a4.keep fR;have hI:=al qr wf fD a4.n a4.keep;refine pi _ _<|.nil<|wM _ _<|.seq fun _ wZ=>.region<|.l Z (fun _ _ pj _=>aN (c:=[]) a4.wf rfl (ax oO jz IW rfl U U rfl) fun A303 f7 a2=>?_);have cH:=ne_new a4.wf kP a2.lo;have e6:=ne_new a4.wf kT a2.lo;have ev:=ne_new a4.wf kV a2.lo;have cK:=ne_new a4.wf a4.get a2.lo;have i1:=h4.own.ne_new a4.wf a2.lo;have i2:=h5.own.ne_new a4.wf a2.lo;have iN:=gs.ne_new a4.wf a2.lo;have j4:=aL wf (Nat.le_trans hI.n a2.lo);have l0:=a2.le.get _ _ kP;have l1:=a2.le.get _ _ kT;have l2:=a2.le.get _ _ kV;have g5:=a2.le.get _ _ a4.get;have h6:=h4.le a2.le;have h7:=h5.le a2.le;have gA:=gs.le a2.le;have hJ:=hI.trans a2.le;refine pj _ _<|.q Z (aj iE jG U Z)<|.q Z (ak ns Z Z g5 Z) ?_;have h8:Fresh A A303 (.slice (some ⟨f7,0,none⟩) 0 0) 3 (cN []):=Fresh.lit a2.get j4 Z (Nat.le_of_ble_eq_true Z);refine Ops.l Z (fun _ _ pl _=>cJ rfl rfl oO jz D4 IW rfl U oO (fun _ h=>by cases h) h8.own (((hp.get O).le hJ).listOf (n:=((rs.getD i .zero).proof).length) OR O) OR (pM _) (by show (_ + _) * 32<=_;simp only [ce,List.length_cons,List.length_nil];(try simp only [List.length_append,List.length_cons,List.length_nil]);(try have:=hpi O);omega) (by simp only [ce,List.length_cons,List.length_nil];(try simp only [List.length_append,List.length_cons,List.length_nil]);(try have:=hpi O);omega) fun A318 C4 a7=>?_);rw [jL] at a7;obtain ⟨h9,qu⟩:=Fresh.grow h8 hJ wf a7;have x0:=a7.keep (fun q=>by cases q;exact cH Z) l0;have rV:=a7.ne (fun q=>by cases q;exact cH Z) a2.wf l0;have x1:=a7.keep (fun q=>by cases q;exact e6 Z) l1;have rW:=a7.ne (fun q=>by cases q;exact e6 Z) a2.wf l1;have x2:=a7.keep (fun q=>by cases q;exact ev Z) l2;have s0:=a7.ne (fun q=>by cases q;exact ev Z) a2.wf l2;have x3:=a7.keep (fun q=>by cases q;exact cK Z) g5;have hR:=a7.ne (fun q=>by cases q;exact cK Z) a2.wf g5;have j1:=bh.appd (show bh (.slice (some ⟨f7,0,none⟩) 0 0) a0 from (fun c hc hq=>by cases hc;exact i1 hq)) h6.own a2.wf a7;have nQ:=h6.appd a7 (fun c hc hq=>by cases hc;exact i1 hq);have t7:=bh.appd (show bh (.slice (some ⟨f7,0,none⟩) 0 0) (.slice b3 b1 aZ) from (fun c hc hq=>by cases hc;exact i2 hq)) h7.own a2.wf a7;have nT:=h7.appd a7 (fun c hc hq=>by cases hc;exact i2 hq);have t8:=aq.appd (show aq (.slice (some ⟨f7,0,none⟩) 0 0) (fB D) from (aq.new iN)) gA a2.wf a7;have n4:=gA.appd a7 (show aq (.slice (some ⟨f7,0,none⟩) 0 0) (fB D) from (aq.new iN));refine pl _ _<|.q Z (aj iE jG U Z) ?_;obtain ⟨aV,aP,aF,At,_⟩:=h9.own.slice;subst At;refine Ops.l Z (fun _ _ pp _=>aM (cs:=[.slice aV aP aF]) (c':=[aX ((rs.getD i .zero).left),aX ((rs.getD i .zero).right),.slice aV aP aF]) a7.wf rfl rfl rfl rfl jG x3 (Nat.le_of_ble_eq_true rfl) rfl rfl fun A341 aC=>?_);have l3:=aC.keep _ _ cF x0;have x4:=aC.keep _ _ e5 x1;have x5:=aC.keep _ _ en x2;have nU:=nQ.keep aC.keep hY;have nV:=nT.keep aC.keep hZ;have ha:=h9.keep aC.keep hR;have gC:=n4.keep aC.keep fR;have qv:=al qu wf fD aC.n aC.keep;refine pp _ _<|.nil<|wZ _ _<|.region<|.q Z (aj de fw U Z)<|.q Z (ak ii Z Z l3 Z)<|.q Z (am nw d8 Z Z aC.get Z)<|.l Z (fun _ _ pu _=>aN (c:=[aX ((rs.getD i .zero).left),aX ((rs.getD i .zero).right),.slice aV aP aF]) aC.wf rfl (ax jw d8 rm rfl U U rfl) fun A353 ui aa=>?_);have sv:=ha.own.ne_new aC.wf aa.lo;have sP:=gC.ne_new aC.wf aa.lo;have l4:=aa.le.get _ _ l3;have l6:=aa.le.get _ _ x4;have l7:=aa.le.get _ _ x5;have hd:=nU.le aa.le;have he:=nV.le aa.le;have hf:=ha.le aa.le;have gD:=gC.le aa.le;have qA:=qv.trans aa.le;refine pu _ _<|.l Z (fun _ _ pA _=>cJ (ys:=[aX ((rs.getD i .zero).left),aX ((rs.getD i .zero).right),.slice aV aP aF]) rfl rfl jw d8 zd rm rfl U jw (fun _ h=>by cases h) hd.own (bW (n:=1) aa.get Z) rfl rfl (by show (_ + _) * 56<=_;simp only [bK,List.length_cons,List.length_nil];(try simp only [List.length_append,List.length_cons,List.length_nil]);(try have:=hpi O);omega) (by simp only [bK,List.length_cons,List.length_nil];(try simp only [List.length_append,List.length_cons,List.length_nil]);(try have:=hpi O);omega) fun A369 C7 ai=>?_);rw [show ([aX ((rs.getD i .zero).left),aX ((rs.getD i .zero).right),.slice aV aP aF]:List Value)=ci [(⟨(rs.getD i .zero).left,(rs.getD i .zero).right,.slice aV aP aF,([]) ++ (rs.getD i .zero).proof⟩:au)] from rfl,ju] at ai;obtain ⟨hg,qB⟩:=Fresh.grow hd qA wf ai;have x6:=ai.keep bY l4;have hS:=ai.ne bY aa.wf l4;have x7:=ai.keep cZ l6;have s1:=ai.ne cZ aa.wf l6;have x8:=ai.keep br l7;have s2:=ai.ne br aa.wf l7;have t9:=bh.appd (show bh a0 (.slice b3 b1 aZ) from f1) he.own aa.wf ai;have o1:=he.appd ai f1;have tb:=bh.appd (show bh a0 (.slice aV aP aF) from (bh.symm j1)) hf.own aa.wf ai;have o2:=hf.appd ai (bh.symm j1);have ti:=aq.appd (show aq a0 (fB D) from dv) gD aa.wf ai;have n6:=gD.appd ai (show aq a0 (fB D) from dv);have n7:lx A A369 (D ++ [(⟨(rs.getD i .zero).left,(rs.getD i .zero).right,.slice aV aP aF,([]) ++ (rs.getD i .zero).proof⟩:au)]):=md n6 o2 t8;have iS:bI (fB (D ++ [(⟨(rs.getD i .zero).left,(rs.getD i .zero).right,.slice aV aP aF,([]) ++ (rs.getD i .zero).proof⟩:au)])) eC:=cQ f3 rV;have sR:bI (fB (D ++ [(⟨(rs.getD i .zero).left,(rs.getD i .zero).right,.slice aV aP aF,([]) ++ (rs.getD i .zero).proof⟩:au)])) b4:=cQ fm rW;have sS:bI (fB (D ++ [(⟨(rs.getD i .zero).left,(rs.getD i .zero).right,.slice aV aP aF,([]) ++ (rs.getD i .zero).proof⟩:au)])) b9:=cQ dj s0;have Bm:bI (fB (D ++ [(⟨(rs.getD i .zero).left,(rs.getD i .zero).right,.slice aV aP aF,([]) ++ (rs.getD i .zero).proof⟩:au)])) ub:=cQ fR hR;have Bo:bI (fB (D ++ [(⟨(rs.getD i .zero).left,(rs.getD i .zero).right,.slice aV aP aF,([]) ++ (rs.getD i .zero).proof⟩:au)])) ui:=cQ sP sv;have tj:aq (.slice b3 b1 aZ) (fB (D ++ [(⟨(rs.getD i .zero).left,(rs.getD i .zero).right,.slice aV aP aF,([]) ++ (rs.getD i .zero).proof⟩:au)])):=gT fq (bh.symm t7);have ts:aq _ (fB (D ++ [(⟨(rs.getD i .zero).left,(rs.getD i .zero).right,.slice aV aP aF,([]) ++ (rs.getD i .zero).proof⟩:au)])):=gT ti tb;refine pA _ _<|.q Z (aj de fw U Z) ?_;obtain ⟨gg,g9,g1,Av,_⟩:=hg.own.slice;subst Av;refine Ops.l Z (fun _ _ pE _=>aM (cs:=[.slice gg g9 g1]) (c':=[num (g),.slice b3 b1 aZ,.slice gg g9 g1]) ai.wf rfl rfl rfl rfl fw x6 (Nat.le_of_ble_eq_true rfl) rfl rfl fun A400 bL=>?_);have x9:=bL.keep _ _ e4 x7;have xa:=bL.keep _ _ eg x8;have o3:=o1.keep bL.keep bm;have oi:=hg.keep bL.keep hS;have n9:=n7.keep bL.keep iS;have qD:=al qB wf fv bL.n bL.keep;refine pE _ _<|.nil<|wL _ _<|.region<|.q Z (ae Z)<|.q Z (bN (b:=1) Z Z O)<|.q Z (ah Z)<|.nil ?_;exact ⟨⟨i + 1,D ++ [(⟨(rs.getD i .zero).left,(rs.getD i .zero).right,.slice aV aP aF,([]) ++ (rs.getD i .zero).proof⟩:au)],.slice gg g9 g1⟩,ks Z Z Z Z,Z,⟨⟨by omega,tQ O hb⟩,qD,oi,o3,bL.get,x9,xa,hS,bm,s1,eQ,s2,bU,t9,n9,iS,sR,sS,ts,tj⟩,O1⟩
  refine ao.exit<|wy _ _<|.seq fun _ xf=>.region<|.q Z (am dn cT Z Z c7 Z) ?_;obtain ⟨mB,m3,k2,Ay,_⟩:=bA.own.slice;subst Ay;refine Ops.l Z (fun _ _ pF _=>aM (cs:=[num (g),.slice b3 b1 aZ,.slice mB m3 k2]) (c':=[num (g),.slice b3 b1 aZ,.slice mB m3 k2]) bO rfl rfl rfl rfl cT dS (Nat.le_of_ble_eq_true rfl) rfl rfl fun A413 cu=>?_);have oj:=bA.keep cu.keep br;have ok:=bR.keep cu.keep bU;have nb:=dJ.keep cu.keep dj;have qN:=al e0 wf fL cu.n cu.keep;refine pF _ _<|.nil<|xf _ _<|.ret ?_;repeat first | with_reducible refine bE ?_ | with_reducible refine bk ?_
  exact be (dE dn cT Z cu.get Z eh) (⟨_,_,_,Z,qN,cu.wf,ok,oj,i9 nb,by rw [hb,List.take_of_length_le O]⟩)
 refine fun _ _ pI _=>ca b7.wf vp rfl fun A423 eG ay=>?_;have e7:=ne_new b7.wf eV ay.lo;have ex:=ne_new b7.wf b7.get ay.lo;have fE:=aL wf (Nat.le_trans fO.n ay.lo);have l9:=ay.le.get _ _ eV;have lb:=ay.le.get _ _ b7.get;have hC:=cm ay.le lX;have hD:=cm ay.le lY;have hK:=fO.trans ay.le;refine pI _ _ (aO.list (L:=[(⟨b4,1,none⟩,u),(⟨b4,0,none⟩,num (g))]) Y (bq hD (bq hC cL))) ?_;refine cd.l Z Z Z (fun _ _ pJ _=>aN (c:=[]) ay.wf rfl (ax kh fz z9 rfl U U rfl) fun A432 up az=>?_);have ch:=ne_new ay.wf l9 az.lo;have ey:=ne_new ay.wf lb az.lo;have cP:=ne_new ay.wf ay.get az.lo;have jX:=aL wf (Nat.le_trans hK.n az.lo);have lp:=az.le.get _ _ l9;have lt:=az.le.get _ _ lb;have lw:=az.le.get _ _ ay.get;have hE:=cm az.le hC;have oW:=cm az.le hD;have hL:=hK.trans az.le;refine pJ _ _ (aO.list (L:=[(⟨b4,1,none⟩,u),(⟨b4,0,none⟩,num (g))]) Y (bq oW (bq hE cL))) ?_;have hh:Fresh A A432 (.slice (some ⟨up,0,none⟩) 0 0) 1 (dc []):=Fresh.lit az.get jX Z (Nat.le_of_ble_eq_true Z);refine cd.l Z Z Z (fun _ _ pL _=>cJ rfl rfl kh fz Ob z9 rfl U kh (fun _ h=>by cases h) hh.own ((hu.le hL).listOf (n:=l.length) OJ O) OJ (rg _) (by show (_ + _) * 16<=_;simp only [bQ,List.length_cons,List.length_nil];(try simp only [List.length_append,List.length_cons,List.length_nil]);(try have:=hpi O);omega) (by simp only [bQ,List.length_cons,List.length_nil];(try simp only [List.length_append,List.length_cons,List.length_nil]);(try have:=hpi O);omega) fun A442 Cb ba=>?_);rw [lr] at ba;obtain ⟨hj,qP⟩:=Fresh.grow hh hL wf ba;have xn:=ba.keep (fun q=>by cases q;exact ch Z) lp;have s3:=ba.ne (fun q=>by cases q;exact ch Z) az.wf lp;have xr:=ba.keep (fun q=>by cases q;exact ey Z) lt;have s4:=ba.ne (fun q=>by cases q;exact ey Z) az.wf lt;have xt:=ba.keep (fun q=>by cases q;exact cP Z) lw;have hT:=ba.ne (fun q=>by cases q;exact cP Z) az.wf lw;have oX:=ba.cell (fun q=>by cases q;exact ch Z) hE;refine pL _ _ (aO.list (L:=[(⟨b4,0,none⟩,num (g))]) Y (bq oX cL)) ?_;obtain ⟨b5,b2,b0,Az,_⟩:=hj.own.slice;subst Az;refine cd.q Z Z Z (cR Z (aU Sh Sk GT Z)) ?_;refine cd.q Z Z Z (cR Z (aU MQ vp vw Z)) ?_;refine cd.l Z Z Z (fun _ _ pP _=>aM (cs:=[num (g),.slice b5 b2 b0,.slice none 0 0]) (c':=[num (g),.slice b5 b2 b0,.slice none 0 0]) ba.wf rfl rfl rfl rfl cT xt (Nat.le_of_ble_eq_true rfl) rfl rfl fun A459 di=>?_);have xv:=di.keep _ _ e7 xn;have xA:=di.keep _ _ ex xr;have ov:=hj.keep di.keep hT;have qR:=al qP wf fE di.n di.keep;refine pP _ _ (aO.none Y) ?_;refine cd.done ?_;refine kv _ _<|.seq fun _ xF=>.seq fun _ xN=>.region<|.q Z (ah Z)<|.nil<|xN _ _<|.block ?_;have fd:lx A A459 []:=yR;refine ao.loop (X:=Nat × List au × Value) (fun ⟨i,D,a0⟩=>[(1,.pointer (some ⟨b4,0,none⟩)),(2,.pointer (some ⟨b9,0,none⟩)),(3,.pointer (some ⟨eG,0,none⟩)),(4,num ((i:Nat):Int))]) (fun ⟨i,D,a0⟩ B=>(i<=rs.length/\D.map (dA true)=(rs.take i).map (dA true))/\A.le B/\Fresh A B a0 3 (ci D)/\Fresh A B (.slice b5 b2 b0) 1 (dc (([]) ++ l))/\B.get eG=some (.row true [num (g),.slice b5 b2 b0,a0] 3)/\B.get b4=some (.row true [num (g),u,rv] 3)/\B.get b9=some (.row true [num ((0:Nat):Int),.slice none 0 0,.slice none 0 0] 3)/\V.blk a0 ≠ some eG/\V.blk (.slice b5 b2 b0) ≠ some eG/\V.blk a0 ≠ some b4/\V.blk (.slice b5 b2 b0) ≠ some b4/\V.blk a0 ≠ some b9/\V.blk (.slice b5 b2 b0) ≠ some b9/\bh a0 (.slice b5 b2 b0)/\lx A B D/\bI (fB D) eG/\bI (fB D) b4/\bI (fB D) b9/\aq a0 (fB D)/\aq (.slice b5 b2 b0) (fB D)) (fun ⟨i,D,a0⟩=>rs.length - i) (⟨0,[],.slice none 0 0⟩) (ks Z Z Z Z) (⟨⟨Nat.zero_le _,rfl⟩,qR,(Fresh.nil A A459 3),ov,di.get,xv,xA,(fun q=>by cases q),hT,(fun q=>by cases q),s3,(fun q=>by cases q),s4,bh.nil,fd,jS,jS,jS,aq.nil,Ah⟩) ?_;rintro ⟨i,D,a0⟩ B470 ⟨⟨hi,hb⟩,e1,bB,bS,cb,cf,dV,c3,bp,d1,eS,bu,bV,f2,dK,f4,fo,dk,dw,fr⟩;refine ao.wf fun bP=>?_;have hbl:D.length=i:=by have:=congrArg List.length hb;simp only [List.length_map,List.length_take] at this;omega
 have hpi:=fun q:i < rs.length=>hpn _ (bx (d:=au.zero) q);refine ao.seq fun _ xR=>.seq fun _ xS=>.region<|.q Z (ae Z)<|.q Z (aj de fw U Z)<|.q Z (ak ii Z Z cf Z)<|.q Z (bH (n:=rs.length) jw Z (hr.le e1) O (dm _))<|.q Z (cA Z Z)<|.nil<|xS _ _ ?_;refine ao.if rfl (fun Ag=>?_) (fun Ag=>?_)
 ·refine ao.skip<|xR _ _<|.seq fun _ xT=>.block<|.seq fun _ xV=>.region<|.q Z (aj de fw U Z)<|.q Z (ak ii Z Z cf Z)<|.q Z (ae Z) ?_;obtain ⟨BA,BD,Bv,BU,Bt,BR,BM,uS,A8,v6,mM,Bd⟩:=bJ.at (i:=i) (hr.le e1) Oj O;refine Ops.q Z (aJ jw d8 Z uS Z A8)<|.q Z (am nw d8 Z Z v6 (mM.trans (congrArg some (fZ O))))<|.l Z (fun _ _ pS _=>ca bP rm rfl fun A484 us ad=>?_);have cS:=ne_new bP cb ad.lo;have e9:=ne_new bP cf ad.lo;have ez:=ne_new bP dV ad.lo;have ih:=bB.own.ne_new bP ad.lo;have it:=bS.own.ne_new bP ad.lo;have fS:=dK.ne_new bP ad.lo;have fI:=aL wf (Nat.le_trans e1.n ad.lo);have y0:=ad.le.get _ _ cb;have y1:=ad.le.get _ _ cf;have y2:=ad.le.get _ _ dV;have ow:=bB.le ad.le;have ox:=bS.le ad.le;have nd:=dK.le ad.le;have qU:=e1.trans ad.le;refine pS _ _<|.l Z (fun _ _ pU _=>aM (cs:=[aX ((rs.getD i .zero).left),aX ((rs.getD i .zero).right),(rs.getD i .zero).pv]) (c':=[aX ((rs.getD i .zero).left),aX ((rs.getD i .zero).right),(rs.getD i .zero).pv]) ad.wf rfl rfl rfl rfl d8 ad.get (Nat.le_of_ble_eq_true rfl) (gK (hp.get (show i < rs.length by omega))) rfl fun A497 a5=>?_);have lB:=a5.keep _ _ cS y0;have lC:=a5.keep _ _ e9 y1;have lE:=a5.keep _ _ ez y2;have hk:=ow.keep a5.keep ih;have hl:=ox.keep a5.keep it;have gE:=nd.keep a5.keep fS;have hM:=al qU wf fI a5.n a5.keep;refine pU _ _<|.nil<|xV _ _<|.seq fun _ y3=>.region<|.l Z (fun _ _ pV _=>aN (c:=[]) a5.wf rfl (ax oO jz IW rfl U U rfl) fun A510 f9 a3=>?_);have cU:=ne_new a5.wf lB a3.lo;have ea:=ne_new a5.wf lC a3.lo;have eA:=ne_new a5.wf lE a3.lo;have cV:=ne_new a5.wf a5.get a3.lo;have iv:=hk.own.ne_new a5.wf a3.lo;have iD:=hl.own.ne_new a5.wf a3.lo;have iT:=gE.ne_new a5.wf a3.lo;have k0:=aL wf (Nat.le_trans hM.n a3.lo);have lF:=a3.le.get _ _ lB;have lK:=a3.le.get _ _ lC;have lO:=a3.le.get _ _ lE;have g6:=a3.le.get _ _ a5.get;have hm:=hk.le a3.le;have hn:=hl.le a3.le;have gF:=gE.le a3.le;have hN:=hM.trans a3.le;refine pV _ _<|.q Z (aj iE jG U Z)<|.q Z (ak ns Z Z g6 Z) ?_;have ho:Fresh A A510 (.slice (some ⟨f9,0,none⟩) 0 0) 3 (cN []):=Fresh.lit a3.get k0 Z (Nat.le_of_ble_eq_true Z);refine Ops.l Z (fun _ _ q0 _=>cJ rfl rfl oO jz D4 IW rfl U oO (fun _ h=>by cases h) ho.own (((hp.get O).le hN).listOf (n:=((rs.getD i .zero).proof).length) OR O) OR (pM _) (by show (_ + _) * 32<=_;simp only [ce,List.length_cons,List.length_nil];(try simp only [List.length_append,List.length_cons,List.length_nil]);(try have:=hpi O);omega) (by simp only [ce,List.length_cons,List.length_nil];(try simp only [List.length_append,List.length_cons,List.length_nil]);(try have:=hpi O);omega) fun A525 Cc a8=>?_);rw [jL] at a8;obtain ⟨hs,qV⟩:=Fresh.grow ho hN wf a8;have y4:=a8.keep (fun q=>by cases q;exact cU Z) lF;have s5:=a8.ne (fun q=>by cases q;exact cU Z) a3.wf lF;have y5:=a8.keep (fun q=>by cases q;exact ea Z) lK;have s6:=a8.ne (fun q=>by cases q;exact ea Z) a3.wf lK;have y6:=a8.keep (fun q=>by cases q;exact eA Z) lO;have sb:=a8.ne (fun q=>by cases q;exact eA Z) a3.wf lO;have y7:=a8.keep (fun q=>by cases q;exact cV Z) g6;have hU:=a8.ne (fun q=>by cases q;exact cV Z) a3.wf g6;have j2:=bh.appd (show bh (.slice (some ⟨f9,0,none⟩) 0 0) a0 from (fun c hc hq=>by cases hc;exact iv hq)) hm.own a3.wf a8;have oy:=hm.appd a8 (fun c hc hq=>by cases hc;exact iv hq);have tt:=bh.appd (show bh (.slice (some ⟨f9,0,none⟩) 0 0) (.slice b5 b2 b0) from (fun c hc hq=>by cases hc;exact iD hq)) hn.own a3.wf a8;have oz:=hn.appd a8 (fun c hc hq=>by cases hc;exact iD hq);have tw:=aq.appd (show aq (.slice (some ⟨f9,0,none⟩) 0 0) (fB D) from (aq.new iT)) gF a3.wf a8;have nj:=gF.appd a8 (show aq (.slice (some ⟨f9,0,none⟩) 0 0) (fB D) from (aq.new iT));refine q0 _ _<|.q Z (aj iE jG U Z) ?_;obtain ⟨aY,aR,aG,AA,_⟩:=hs.own.slice;subst AA;refine Ops.l Z (fun _ _ q1 _=>aM (cs:=[.slice aY aR aG]) (c':=[aX ((rs.getD i .zero).left),aX ((rs.getD i .zero).right),.slice aY aR aG]) a8.wf rfl rfl rfl rfl jG y7 (Nat.le_of_ble_eq_true rfl) rfl rfl fun A548 aD=>?_);have lP:=aD.keep _ _ cS y4;have y8:=aD.keep _ _ e9 y5;have y9:=aD.keep _ _ ez y6;have oF:=oy.keep aD.keep ih;have oI:=oz.keep aD.keep it;have ht:=hs.keep aD.keep hU;have gG:=nj.keep aD.keep fS;have r1:=al qV wf fI aD.n aD.keep;refine q1 _ _<|.nil<|y3 _ _<|.region<|.q Z (aj de fw U Z)<|.q Z (ak ii Z Z lP Z)<|.q Z (am nw d8 Z Z aD.get Z)<|.l Z (fun _ _ q2 _=>aN (c:=[aX ((rs.getD i .zero).left),aX ((rs.getD i .zero).right),.slice aY aR aG]) aD.wf rfl (ax jw d8 rm rfl U U rfl) fun A560 uB ab=>?_);have sz:=ht.own.ne_new aD.wf ab.lo;have sT:=gG.ne_new aD.wf ab.lo;have lT:=ab.le.get _ _ lP;have lV:=ab.le.get _ _ y8;have lW:=ab.le.get _ _ y9;have hv:=oF.le ab.le;have hw:=oI.le ab.le;have hx:=ht.le ab.le;have gL:=gG.le ab.le;have r2:=r1.trans ab.le;refine q2 _ _<|.l Z (fun _ _ q3 _=>cJ (ys:=[aX ((rs.getD i .zero).left),aX ((rs.getD i .zero).right),.slice aY aR aG]) rfl rfl jw d8 zd rm rfl U jw (fun _ h=>by cases h) hv.own (bW (n:=1) ab.get Z) rfl rfl (by show (_ + _) * 56<=_;simp only [bK,List.length_cons,List.length_nil];(try simp only [List.length_append,List.length_cons,List.length_nil]);(try have:=hpi O);omega) (by simp only [bK,List.length_cons,List.length_nil];(try simp only [List.length_append,List.length_cons,List.length_nil]);(try have:=hpi O);omega) fun A576 Cf ap=>?_);rw [show ([aX ((rs.getD i .zero).left),aX ((rs.getD i .zero).right),.slice aY aR aG]:List Value)=ci [(⟨(rs.getD i .zero).left,(rs.getD i .zero).right,.slice aY aR aG,([]) ++ (rs.getD i .zero).proof⟩:au)] from rfl,ju] at ap;obtain ⟨hy,r3⟩:=Fresh.grow hv r2 wf ap;have yt:=ap.keep c3 lT;have hV:=ap.ne c3 ab.wf lT;have yS:=ap.keep d1 lV;have sf:=ap.ne d1 ab.wf lV;have yT:=ap.keep bu lW;have sr:=ap.ne bu ab.wf lW;have tz:=bh.appd (show bh a0 (.slice b5 b2 b0) from f2) hw.own ab.wf ap;have oJ:=hw.appd ap f2;have tB:=bh.appd (show bh a0 (.slice aY aR aG) from (bh.symm j2)) hx.own ab.wf ap;have oK:=hx.appd ap (bh.symm j2);have tI:=aq.appd (show aq a0 (fB D) from dw) gL ab.wf ap;have nk:=gL.appd ap (show aq a0 (fB D) from dw);have nl:lx A A576 (D ++ [(⟨(rs.getD i .zero).left,(rs.getD i .zero).right,.slice aY aR aG,([]) ++ (rs.getD i .zero).proof⟩:au)]):=md nk oK tw;have iV:bI (fB (D ++ [(⟨(rs.getD i .zero).left,(rs.getD i .zero).right,.slice aY aR aG,([]) ++ (rs.getD i .zero).proof⟩:au)])) eG:=cQ f4 s5;have sV:bI (fB (D ++ [(⟨(rs.getD i .zero).left,(rs.getD i .zero).right,.slice aY aR aG,([]) ++ (rs.getD i .zero).proof⟩:au)])) b4:=cQ fo s6;have sZ:bI (fB (D ++ [(⟨(rs.getD i .zero).left,(rs.getD i .zero).right,.slice aY aR aG,([]) ++ (rs.getD i .zero).proof⟩:au)])) b9:=cQ dk sb;have Bp:bI (fB (D ++ [(⟨(rs.getD i .zero).left,(rs.getD i .zero).right,.slice aY aR aG,([]) ++ (rs.getD i .zero).proof⟩:au)])) us:=cQ fS hU;have Br:bI (fB (D ++ [(⟨(rs.getD i .zero).left,(rs.getD i .zero).right,.slice aY aR aG,([]) ++ (rs.getD i .zero).proof⟩:au)])) uB:=cQ sT sz;have tJ:aq (.slice b5 b2 b0) (fB (D ++ [(⟨(rs.getD i .zero).left,(rs.getD i .zero).right,.slice aY aR aG,([]) ++ (rs.getD i .zero).proof⟩:au)])):=gT fr (bh.symm tt);have tO:aq _ (fB (D ++ [(⟨(rs.getD i .zero).left,(rs.getD i .zero).right,.slice aY aR aG,([]) ++ (rs.getD i .zero).proof⟩:au)])):=gT tI tB;refine q3 _ _<|.q Z (aj de fw U Z) ?_;obtain ⟨gl,gc,g2,AB,_⟩:=hy.own.slice;subst AB;refine Ops.l Z (fun _ _ q4 _=>aM (cs:=[.slice gl gc g2]) (c':=[num (g),.slice b5 b2 b0,.slice gl gc g2]) ap.wf rfl rfl rfl rfl fw yt (Nat.le_of_ble_eq_true rfl) rfl rfl fun A607 bM=>?_);have z0:=bM.keep _ _ e7 yS;have z1:=bM.keep _ _ ex yT;have oN:=oJ.keep bM.keep bp;have oP:=hy.keep bM.keep hV;have nn:=nl.keep bM.keep iV;have r4:=al r3 wf fE bM.n bM.keep;refine q4 _ _<|.nil<|xT _ _<|.region<|.q Z (ae Z)<|.q Z (bN (b:=1) Z Z O)<|.q Z (ah Z)<|.nil ?_;exact ⟨⟨i + 1,D ++ [(⟨(rs.getD i .zero).left,(rs.getD i .zero).right,.slice aY aR aG,([]) ++ (rs.getD i .zero).proof⟩:au)],.slice gl gc g2⟩,ks Z Z Z Z,Z,⟨⟨by omega,tQ O hb⟩,r4,oP,oN,bM.get,z0,z1,hV,bp,sf,eS,sr,bV,tz,nn,iV,sV,sZ,tO,tJ⟩,O1⟩
 refine ao.exit<|xF _ _<|.seq fun _ z2=>.region<|.q Z (am dn cT Z Z cb Z) ?_;obtain ⟨mE,m6,k3,AC,_⟩:=bB.own.slice;subst AC;refine Ops.l Z (fun _ _ q5 _=>aM (cs:=[num (g),.slice b5 b2 b0,.slice mE m6 k3]) (c':=[num (g),.slice b5 b2 b0,.slice mE m6 k3]) bP rfl rfl rfl rfl cT dV (Nat.le_of_ble_eq_true rfl) rfl rfl fun A620 cv=>?_);have oQ:=bB.keep cv.keep bu;have oR:=bS.keep cv.keep bV;have nq:=dK.keep cv.keep dk;have r6:=al e1 wf fL cv.n cv.keep;refine q5 _ _<|.nil<|z2 _ _<|.ret ?_;repeat first | with_reducible refine bE ?_ | with_reducible refine bk ?_
 exact be (dE dn cT Z cv.get Z eh) (⟨_,_,_,Z,r6,cv.wf,oR,oQ,i9 nq,by rw [hb,List.take_of_length_le O]⟩)
end Go.Proofs.YtjppkekmddjcfaaGreatDoor

namespace Go.Proofs.YtjppkekmddjcfaaGreatDoor
open Go Go.RowKit V Fr
namespace CR
theorem yE:∀ u v:Wd,u.length=v.length->(nx u v < 0/\code u < code v)\/(nx u v=0/\code u=code v)\/(0 < nx u v/\code v < code u)
  | [],[],_=>.inr (.inl ⟨by unfold nx;rfl,rfl⟩)
  | [],_ :: _,h=>by simp at h
  | _ :: _,[],h=>by simp at h
  | a :: u,b :: v,h=>by
    have hl:u.length=v.length:=by simpa using h
    have h1:=qo u
    have h2:=qo v
    rw [hl] at h1
    have key:∀ a b:UInt8,ix a < ix b->dg a * 18 ^ v.length + 18 ^ v.length<=dg b * 18 ^ v.length:=fun a b q=>by
      have h2:dg a + 1<=dg b:=by have:=Od a;have:=Od b;unfold dg;omega
      have h3:=Nat.mul_le_mul_right (18 ^ v.length) h2
      rw [Nat.add_mul] at h3;omega
    rw [nx,code,code,hl]
    by_cases q1:ix a < ix b
    · rw [if_pos q1];have:=key a b q1;exact .inl ⟨by omega,by omega⟩
    · rw [if_neg q1]
      by_cases q2:ix b < ix a
      · rw [if_pos q2];have:=key b a q2;exact .inr (.inr ⟨by omega,by omega⟩)
      · rw [if_neg q2]
        have e:dg a=dg b:=by unfold dg;omega
        rw [e]
        rcases yE u v hl with ⟨k1,k2⟩ | ⟨k1,k2⟩ | ⟨k1,k2⟩
        · exact .inl ⟨k1,by omega⟩
        · exact .inr (.inl ⟨k1,by omega⟩)
        · exact .inr (.inr ⟨k1,by omega⟩)
theorem cmpw_code {u v:Wd}:nZ u v < 0 ↔ code u < code v:=by
  refine ⟨Jm,fun h=>?_⟩
  rw [DL]
  rcases Nat.lt_trichotomy u.length v.length with q | q | q
  · exact .inl q
  · rcases yE u v q with ⟨k,_⟩ | ⟨_,k⟩ | ⟨_,k⟩
    · exact .inr ⟨q,k⟩
    · omega
    · omega
  · have:=tN q;omega
end CR
abbrev Oo (rs:List au) (w:Wd):Bool:=ym rs (w.take (w.length - 1)) && ym rs (w.drop 1)
abbrev AW:=Wd × Wd × List bX
def ef (rs:List au):List au->List AW->Option (List AW)
  | [],acc=>some acc
  | r :: t,acc=>if Oo rs r.left then (match cy rs r.left with | none=>none | some R=>ef rs t (acc ++ [(r.left,R.word,R.disk)])) else ef rs t acc
section
variable {rs rs2:List au} {i:Nat} {acc:List AW} {R:Option (List AW)}
theorem Ka (hi:rs.length<=i) (h:ef rs (rs.drop i) acc=R):R=some acc:=by
  rw [<- h,List.drop_eq_nil_of_le hi];rfl
theorem tf (hi:i < rs.length) (h:ef rs (rs.drop i) acc=R) (q:(!Oo rs (rs.getD i .zero).left)=true):ef rs (rs.drop (i + 1)) acc=R:=by
  rw [<- h,n5 (z:=au.zero) hi]
  conv=>rhs;rw [ef,if_neg (by rw [Ou q];exact Bool.false_ne_true)]
theorem lc (hi:i < rs.length) (h:ef rs (rs.drop i) acc=R) (q:(!Oo rs (rs.getD i .zero).left)=false) (t:(!(cy rs (rs.getD i .zero).left).isSome)=true):R=none:=by
  rw [<- h,n5 (z:=au.zero) hi,ef,if_pos (sK q),oC t]
theorem xz {v:Value} (hi:i < rs.length) (h:ef rs (rs.drop i) (rs2.map (dA true))=R) (q:(!Oo rs (rs.getD i .zero).left)=false) (t:(!(cy rs (rs.getD i .zero).left).isSome)=false) :
    ef rs (rs.drop (i + 1)) ((rs2 ++ [(⟨(rs.getD i .zero).left,(cI (cy rs (rs.getD i .zero).left)).word,v,(cI (cy rs (rs.getD i .zero).left)).disk⟩:au)]).map (dA true))=R:=by
  rw [<- h,n5 (z:=au.zero) hi]
  conv=>rhs;rw [ef,if_pos (sK q),mj t]
  rw [List.map_append];rfl
end
theorem xB {rs:List au}:∀ {t:List au} {acc R:List AW},ef rs t acc=some R->(∀ z ∈ acc,∃ r ∈ rs,z.1=r.left)->(∀ r ∈ t,r ∈ rs)->∀ z ∈ R,∃ r ∈ rs,z.1=r.left
  | [],acc,R,h,ha,_=>by rw [ef] at h;cases h;exact ha
  | r :: t,acc,R,h,ha,hr=>by
    have ht:∀ x ∈ t,x ∈ rs:=fun x hx=>hr x (List.mem_cons_of_mem _ hx)
    rw [ef] at h
    split at h
    · split at h
      · cases h
      · refine xB h (fun z hz=>?_) ht
        rcases List.mem_append.1 hz with q | q
        · exact ha z q
        · rw [List.mem_singleton] at q;exact ⟨r,hr r List.mem_cons_self,by rw [q]⟩
    · exact xB h ha ht
theorem Qq {g:Int} {l:List Wd} {rs D:List au} {A0 A:AH} (hs:cx g l rs=true) (h:ef rs rs []=some (D.map (dA true))) (hf:lx A0 A D):∀ x ∈ D,vn x.left=true/\x.pv.oneCell'=true:=fun x hx=>by
  refine ⟨?_,?_⟩
  · obtain ⟨r,hr,e⟩:=xB h (fun z hz=>by cases hz) (fun r hr=>hr) _ (List.mem_map.2 ⟨x,hx,rfl⟩)
    have e:x.left=r.left:=e
    rw [e]
    have hw:=tA (rf (gx ((ir hs).2.2.1 r hr)).1)
    exact D5 (ri hs).2 hw.2.1 hw.2.2
  · obtain ⟨p,n,c,e,_⟩:=i9 hf x hx
    rw [e];rfl
def j9 (g:Int) (l:List Wd) (rs:List au):Nat:=if (dr g l rs).2.2=0 then (if (dr g l rs).1 then (if (ef rs rs []).isSome then 0 else 2) else 6) else (dr g l rs).2.2
structure QC (g:Int) (l:List Wd) (rs:List au) (g2:Int) (l2:List Wd) (rs2:List au):Prop where
  bad:j9 g l rs ≠ 0->g2=0/\l2=[]/\rs2=[]
  good:j9 g l rs=0->g2=g/\l2=l/\rs2.Pairwise (fun x y=>¬ nZ y.left x.left < 0)/\∃ acc,ef rs rs []=some acc/\(rs2.map (dA true)).Perm acc
section
variable {g:Int} {l:List Wd} {rs rs2:List au}
theorem QC.none (h:j9 g l rs ≠ 0):QC g l rs 0 [] []:=⟨fun _=>⟨rfl,rfl,rfl⟩,fun q=>absurd q h⟩
theorem sm (h:¬ (dr g l rs).2.2=0):j9 g l rs=(dr g l rs).2.2:=by rw [j9,if_neg h]
theorem so (h:¬ ¬ (dr g l rs).2.2=0) (q:(!(dr g l rs).1)=true):j9 g l rs=6:=by
  rw [j9,if_pos (Decidable.not_not.1 h),if_neg (by rw [Ou q];exact Bool.false_ne_true)]
theorem sq (h:¬ ¬ (dr g l rs).2.2=0) (q:(!(dr g l rs).1)=false) (t:(none:Option (List AW))=ef rs rs []):j9 g l rs=2:=by
  rw [j9,if_pos (Decidable.not_not.1 h),if_pos (sK q),<- t];rfl
theorem D9 {acc:List AW} (h:¬ ¬ (dr g l rs).2.2=0) (q:(!(dr g l rs).1)=false) (t:ef rs rs []=some acc):j9 g l rs=0:=by
  rw [j9,if_pos (Decidable.not_not.1 h),if_pos (sK q),t];rfl
theorem QS {P:Program} {t e:TypeId} {p:Option Addr} {n c:Nat} (h:P.underlying t=some (.slice e)):vJ P t (.slice p n c) (.slice none 0 0)=some p.isNone:=by
  unfold vJ;rw [h];cases p <;> rfl
theorem Fx {A A1:AH} {l:List Wd} {p:Option Addr} {n:Nat} (h1:(dc l).length=n * 1) (h3:n=0\/∃ b off rw r rcap,p=some ⟨b,off,none⟩/\A.get b=some (.row rw r rcap)/\(r.drop off).take (n * 1)=dc l) (q:p.isNone=true):Fresh A A1 (.slice none 0 0) 1 (dc l):=by
  have:l=[]:=by
    rcases h3 with h | ⟨b,off,_,_,_,h,_⟩
    · rw [bQ] at h1;exact List.length_eq_zero_iff.1 O
    · rw [h] at q;cases q
  subst this;exact Fresh.nil _ _ _
end
end Go.Proofs.YtjppkekmddjcfaaGreatDoor

namespace Go.Proofs.YtjppkekmddjcfaaGreatDoor
open Go Go.RowKit V
set_option maxRecDepth 100000


theorem zQ (u:Value) (l:List (List UInt8)) (A:AH) (hn:l.length<=1000000) (hu:bJ A 1 u (dc l)):bG Tryz.prog 84 #[u] A (fun v A1=>A.le A1/\A1.wf/\Fresh A A1 v 1 (dc l)):=by
 refine iy Tryz.call84 Tryz.func84 Z Tryz.results84 Tryz.ntmps84 Z (fun wf=>?_);have a2:=AH.le.refl A;have a9:=hu;obtain ⟨pu,nu,cu,rfl,aa,ac,ab⟩:=a9;refine ao.seq fun _ h2=>.region<|.q Z (ah Z)<|.nil<|h2 _ _<|.seq fun _ h4=>.seq fun _ h6=>.region<|.q Z (ae Z)<|.q Z (SU Z Z (fun _ _ q=>by cases q) (fun _ q=>by cases q) (QS kh)) ?_;refine Ops.nil<|h6 _ _<|.ifB Z (fun p7=>?_) (fun p7=>?_)
 ·refine ao.seq fun _ h9=>.region<|.q Z (ah Z)<|.nil<|h9 _ _<|.rt (by exact be Z (⟨a2,wf,Fx aa ab ‹_›⟩))
 refine ao.skip<|h4 _ _<|.seq fun _ a8=>.region<|.l Z (fun _ _ a4 _=>aN (c:=[]) wf rfl (ax kh fz z9 rfl U U rfl) fun A14 a7 V=>?_);have a0:=aL wf (Nat.le_trans a2.n V.lo);have a1:=a2.trans V.le;refine a4 _ _<|.q Z (ae Z) ?_;have X:Fresh A A14 (.slice (some ⟨a7,0,none⟩) 0 0) 1 (dc []):=Fresh.lit V.get a0 Z (Nat.le_of_ble_eq_true Z);refine Ops.l Z (fun _ _ a5 _=>cJ rfl rfl kh fz Ob z9 rfl U kh (fun _ h=>by cases h) X.own ((hu.le a1).listOf (n:=l.length) OJ O) OJ (rg _) (by show (_ + _) * 16<=_;simp only [bQ,List.length_cons,List.length_nil];(try simp only [List.length_append,List.length_cons,List.length_nil]);omega) (by simp only [bQ,List.length_cons,List.length_nil];(try simp only [List.length_append,List.length_cons,List.length_nil]);omega) fun A19 ad D=>?_);rw [lr] at D;obtain ⟨a3,a6⟩:=Fresh.grow X a1 wf D;refine a5 _ _<|.q Z (ah Z)<|.nil<|a8 _ _<|.rt (by exact be Z (⟨a6,D.wf,a3⟩))

theorem Pm (g:Int) (u:Value) (l:List (List UInt8)) (rv:Value) (rs:List au) (A:AH) (hn:l.length<=9223372036854775807) (hm:rs.length<=9223372036854775807) (hmx:cx g l rs=true->(bg g rs).length<=50000) (hL:eF A) (hu:bJ A 1 u (dc l)) (hr:bJ A 3 rv (ci rs)) (hp:Proofs A rs):bG Tryz.prog 42 #[.agg #[num (g),u,rv]] A (fun v A1=>A.le A1/\A1.wf):=by
 refine iy Tryz.call42 Tryz.func42 Z Tryz.results42 Tryz.ntmps42 Z (fun wf=>?_);have ag:=AH.le.refl A;refine ao.seq fun _ h2=>.region<|.l Z (fun _ _ ad _=>ej wf rfl rfl fun A5 b4 X=>?_);have D:=ag.trans X.le;refine ad _ _<|.q Z (ah Z)<|.q Z (ah Z)<|.nil<|h2 _ _<|.seq fun _ h9=>.seq fun _ a6=>.region<|.q Z (am dn cT Z Z X.get Z)<|.l Z (fun _ _ a3 _=>aK Z (i3 ((g)) u l rv rs A5 hn hm (hL.le D) (hu.le D) (hr.le D) (hp.le D)) ?_);rintro av A14 ⟨rfl,V,a1⟩;have a7:=V.get _ _ X.get;have h:=D.trans V;refine a3 _ _<|.q Z (eE Z)<|.nil<|a6 _ _<|.ifB Z (fun ai=>?_) (fun ai=>?_)
 ·refine ao.seq fun _ a8=>.region<|.q Z (ah Z)<|.q Z (ah Z)<|.nil<|a8 _ _<|.rt (by exact be Z (⟨h,a1⟩))
 refine ao.skip<|h9 _ _<|.seq fun _ a9=>.region<|.q Z (am dn cT Z Z a7 Z)<|.l Z (fun _ _ a4 _=>aK Z (z7 ((g)) u l rv rs A14 (ri (by simpa using ‹(!cx g l rs)=false›)) (ls (by simpa using ‹(!cx g l rs)=false›)) (u7 (by simpa using ‹(!cx g l rs)=false›)) (hmx (by simpa using ‹(!cx g l rs)=false›)) (hL.le h) (hu.le h) (hr.le h) (hp.le h)) ?_);rintro ay A25 ⟨ar,rfl,a0,a2,ap⟩;have a5:=h.trans a0;refine a4 _ _<|.q Z (ae Z)<|.q Z (bf Z Z)<|.q Z (bf Z Z)<|.q Z (ah Z)<|.q Z (ah Z)<|.nil<|a9 _ _<|.seq fun _ aa=>.seq fun _ ab=>?_;refine ao.region<|.q Z (ae Z)<|.q Z (eE Z)<|.nil<|ab _ _<|.cond_false Z<|.skip<|aa _ _<|.seq fun _ ac=>.region ?_;refine Ops.q Z (ae Z)<|.q Z (ah Z)<|.q Z (ah Z)<|.nil<|ac _ _<|.rt (by exact be Z (⟨a5,a2⟩))

theorem RI (x y:au) (A:AH) (hL:eF A) (hx:x.left.length<=1000000) (hy:y.left.length<=1000000):bG Tryz.prog 86 #[.agg #[aX (x.left),aX (x.right),x.pv],.agg #[aX (y.left),aX (y.right),y.pv]] A (fun v A1=>v=num (fx x.left y.left)):=by
 refine lN Tryz.call86 Tryz.func86 Z Tryz.results86 Tryz.ntmps86 Z (fun wf=>?_);have a5:=AH.le.refl A;refine ao.seq fun _ h2=>.region<|.l Z (fun _ _ a2 _=>ej wf rfl rfl fun A5 b4 D=>?_);have a4:=a5.trans D.le;refine a2 _ _<|.l Z (fun _ _ a3 _=>ej D.wf rfl rfl fun A10 b9 h=>?_);have a0:=h.le.get _ _ D.get;have X:=a4.trans h.le;refine a3 _ _<|.q Z (ah Z)<|.nil<|h2 _ _<|.seq fun _ a1=>.region<|.q Z (aj eW fz U Z)<|.q Z (ak gz Z Z a0 Z)<|.q Z (aj eW fz U Z)<|.q Z (ak gz Z Z h.get Z) ?_;refine Ops.l Z (fun _ _ V _=>aK Z (ww x.left y.left A10 (by first | omega | (simp only [List.length_append,List.length_drop,List.length_take,iZ];omega)) (by first | omega | (simp only [List.length_append,List.length_drop,List.length_take,iZ];omega)) (hL.le X)) ?_);rintro a8 A18 ⟨rfl,a6,a7⟩;refine V _ _<|.q Z (ah Z)<|.nil<|a1 _ _<|.rt (by exact be Z (rfl))
end Go.Proofs.YtjppkekmddjcfaaGreatDoor

namespace Go.Proofs.YtjppkekmddjcfaaGreatDoor
open Go Go.RowKit Go.Sort
namespace V
section
variable {A:AH} {w:World} {α:Type} [Inhabited α]

theorem xL (enc:α->Value) (d:Array α) (c:Array Value) (i:Nat) (hd:d.size<=c.size):(putCells enc 0 d c)[i]? = if i < d.size then some (enc d[i]!) else c[i]?:=by
  simp only [putCells,Array.getElem?_mapIdx]
  by_cases h:i < d.size
  · have:i < c.size:=by omega
    simp [h,this]
  · rw [if_neg h]
    cases c[i]? with
    | none=>rfl
    | some x=>simp [h]

theorem Ax (enc:α->Value) {b cap:Nat} {r:List Value} (d:Array α) (n:Nat) (os:Array Obj) (h:ct A w) (g:A.get b=some (.row true r cap)) (hd:d.size<=r.length) :
    ct ((A.set b (.row true (d.toList.map enc ++ r.drop d.size) cap)).grow (A.n + os.size)) (Sort.grow (putRow enc (Sort.ahead w n) b 0 d) os) /\
    eu A w ((A.set b (.row true (d.toList.map enc ++ r.drop d.size) cap)).grow (A.n + os.size)) (Sort.grow (putRow enc (Sort.ahead w n) b 0 d) os):=by
  obtain ⟨cs,e,fr,h1,h0,h2,h3,h4⟩:=h.fits b _ g
  have hb:b < w.heap.size:=(Array.getElem?_eq_some_iff.1 h1).1
  have hsz:(Sort.grow (putRow enc (Sort.ahead w n) b 0 d) os).heap.size=w.heap.size + os.size:=by simp [Sort.grow,putRow,mapBlock,Sort.ahead]
  have old:∀ k,k < w.heap.size->k ≠ b->(Sort.grow (putRow enc (Sort.ahead w n) b 0 d) os).heap[k]? = w.heap[k]?:=fun k hk hne=>by
    simp only [Sort.grow,putRow,mapBlock,Sort.ahead]
    rw [Array.getElem?_append_left (by simpa using hk),Array.getElem?_modify,if_neg (Ne.symm hne)]
  have new:(Sort.grow (putRow enc (Sort.ahead w n) b 0 d) os).heap[b]? = some (.cells (putCells enc 0 d cs) e fr):=by
    simp only [Sort.grow,putRow,mapBlock,Sort.ahead]
    rw [Array.getElem?_append_left (by simpa using hb),Array.getElem?_modify,if_pos Z,h1]
    rfl
  refine ⟨⟨by rw [hsz,h.size];rfl,fun k o hk=>?_⟩,⟨Z,Z,⟨Z,Nat.le_add_right _ _⟩,by rw [hsz];omega,fun k hk hr=>?_,fun k hk=>?_⟩⟩
  · simp only [AH.grow_get,AH.set_get] at hk
    split at hk
    · rename_i q;subst q;cases hk
      have hps:(putCells enc 0 d cs).size=cs.size:=by simp [putCells]
      refine ⟨_,_,_,new,by simp;omega,by rw [hps];exact h2,fun i hi=>?_,h4⟩
      rw [xL enc d cs i O]
      simp only [List.length_append,List.length_map,Array.length_toList,List.length_drop] at hi
      by_cases q:i < d.size
      · rw [if_pos q,List.getElem?_append_left (by simpa using q)]
        simp [q]
      · rw [if_neg q,List.getElem?_append_right Ox,h3 i O,List.getElem?_drop]
        congr 1;simp;omega
    · rename_i q
      have:=h.wf k o hk
      rw [old k (by rw [h.size];exact this) q]
      exact h.fits k o hk
  · have:k ≠ b:=by rintro rfl;simp [AH.rw,g,eM.rw] at hr
    exact old k hk this
  · left
    simp only [AH.rw,AH.grow_get,AH.set_get] at hk ⊢
    split at hk
    · rename_i o ho
      split at ho
      · rename_i e;subst e;simp [g,eM.rw]
      · simp [ho,hk]
    · cases hk

def eM.freeze:eM->eM
  | .row _ c cap=>.row false c cap
  | .obj _ o=>.obj false o
def AH.frozen (A:AH) (b n:Nat):AH:=⟨n,fun k=>if k=b then none else (A.get k).map eM.freeze⟩
theorem yY {b n:Nat} {W:World} (h:ct A w) (hn:W.heap.size=n) (hle:w.heap.size<=n) (hk:∀ k,k < w.heap.size->k ≠ b->W.heap[k]? = w.heap[k]?):ct (A.frozen b n) W:=by
  refine ⟨hn,fun k o ho=>?_⟩
  simp only [AH.frozen] at ho
  split at ho
  · cases ho
  · rename_i q
    cases hg:A.get k with
    | none=>rw [hg] at ho;cases ho
    | some x =>
      rw [hg] at ho;cases ho
      have hlt:=h.wf k x hg
      rw [hk k (by rw [h.size];exact hlt) q]
      have:=h.fits k x hg
      cases x with
      | row rw c cap =>
        obtain ⟨cs,e,fr,h1,h0,h2,h3,h4⟩:=this
        exact ⟨cs,e,fr,h1,h0,h2,h3,fun q=>by cases q⟩
      | obj rw o=>exact this
theorem FY {b n k:Nat}:(A.frozen b n).rw k=false:=by
  unfold AH.rw AH.frozen
  simp only
  split
  · rename_i o ho
    split at ho
    · cases ho
    · cases hg:A.get k with
      | none=>rw [hg] at ho;cases ho
      | some x=>rw [hg] at ho;cases ho;cases x <;> rfl
  · rfl
theorem IK {A1:AH} {W w':World} {b n:Nat} (h:eu (A.frozen b n) W A1 w'):∃ q os',w'=Sort.grow (W.drewN q) os':=by
  refine ⟨w'.drawn - W.drawn,w'.heap.extract W.heap.size w'.heap.size,?_⟩
  have hh:w'.heap=W.heap ++ w'.heap.extract W.heap.size w'.heap.size:=by
    apply Array.ext_getElem?
    intro k
    by_cases hk:k < W.heap.size
    · rw [Array.getElem?_append_left hk];exact h.kept k hk FY
    · rw [Array.getElem?_append_right O,Array.getElem?_extract]
      have:=h.size
      by_cases q:k < w'.heap.size
      · rw [if_pos O];congr 1;omega
      · rw [if_neg O];exact Array.getElem?_eq_none O
  have ho:=h.output.1;have hd:=h.output.2;have hos:=h.os;have ht:=h.tape
  cases w' with | mk heap tape drawn os output =>
  cases W with | mk heap0 tape0 drawn0 os0 output0 =>
  simp only at ho hd hos ht hh
  subst ho;subst hos;subst ht
  simp only [Sort.grow,World.drewN]
  rw [show drawn0 + (drawn - drawn0)=drawn by omega]
  congr 1

theorem xk (enc:α->List Value) (k:Nat) (hk:∀ x,(enc x).length=k) (d:List α):(flatK enc k d.toArray).toList=d.flatMap enc:=by
  apply List.ext_getElem?
  intro t
  by_cases h:t < d.length * k
  · have k0 : 0 < k := by rcases Nat.eq_zero_or_pos k with q | q; · subst q; simp at h
                          · exact q
    have hq:t / k < d.length:=Nat.div_lt_of_lt_mul (by rw [Nat.mul_comm];exact h)
    have e1:(flatK enc k d.toArray).toList[t]? = some ((enc d.toArray[t / k]!)[t % k]!):=by
      have:=get_flatK enc k d.toArray t (by simpa using h)
      rw [Array.getElem?_toList,<- this]
      simp [h]
    rw [e1]
    have key:∀ (d:List α) (t:Nat),t / k < d.length->(d.flatMap enc)[t]? = some ((enc d[t / k]!)[t % k]!):=by
      intro d
      induction d with
      | nil=>intro t h;simp at h
      | cons a d ih =>
        intro t ht
        rw [List.flatMap_cons]
        by_cases q:t < k
        · rw [List.getElem?_append_left (by rw [hk];exact q),Nat.div_eq_of_lt q,Nat.mod_eq_of_lt q]
          have:t < (enc a).length:=by rw [hk];exact q
          simp [this]
        · rw [List.getElem?_append_right (by rw [hk];omega),hk]
          have h1:t / k=(t - k) / k + 1:=by rw [Nat.div_eq_sub_div k0 O]
          have h2:t % k=(t - k) % k:=Nat.mod_eq_sub_mod O
          rw [ih (t - k) (by simp only [List.length_cons] at ht;omega),h1,h2]
          simp
    rw [key d t hq]
    simp
  · rw [List.getElem?_eq_none Ox,List.getElem?_eq_none]
    rw [List.length_flatMap]
    have:(d.map fun x=>(enc x).length).sum=d.length * k:=by
      clear h
      induction d with
      | nil=>simp
      | cons a d ih=>simp only [List.map_cons,List.sum_cons,List.length_cons,hk a,ih,Nat.add_mul];omega
    omega

theorem yc {P:Program} {ρ:Go.Shelf.Ren} (L:SlLaysF0.n6 P ρ) (k:Nat) (k0:0 < k) (aE:∀ w,(isAgg (ρ.t 24)).run P w=.ok true w) (zE:∀ w,(Go.sizeOf (ρ.t 24)).run P w=.ok k w) (enc:α->List Value) (hk:∀ x,(enc x).length=k) (h1:∀ x,∀ v ∈ enc x,v.oneCell'=true)
    (cf:α->α->Int) (hO:SWO (ltOf cf)) (g:Nat) (cb:Array Value) (e6:eU P (ρ.f 6)) (eg:eU P g) {v:Value} {d:List α} {A0:AH} (hsz:d.length < 4611686018427387904) (D:A0.wf) (le:A0.le A) (own:Fresh A0 A v k (d.flatMap enc))
    (hcmp:∀ n,A.n<=n->∀ b,blk v=some b->∀ x y:α,bG P g (#[.agg (enc x).toArray,.agg (enc y).toArray] ++ cb) (A.frozen b n) fun u _=>u=.int .i64 (cf x y)) :
    bG P (ρ.f 6) #[v,.func (.func g) #[] cb] A fun u A1=>u=.tuple #[]/\A0.le A1/\A1.wf/\(∀ b o,A.get b=some o->blk v ≠ some b->A1.get b=some o)/\∃ d':List α,d'.Perm d/\d'.Pairwise (fun x y=>¬ cf y x < 0)/\Fresh A0 A1 v k (d'.flatMap enc):=by
  have hfl:∀ d:List α,(d.flatMap enc).length=d.length * k:=fun d=>by
    rw [<- xk enc k hk];simp
  have nilcase:∀ (p:Option Addr) (c:Nat),v=.slice p 0 c->d=[]->bG P (ρ.f 6) #[v,.func (.func g) #[] cb] A fun u A1=>u=.tuple #[]/\A0.le A1/\A1.wf/\(∀ b o,A.get b=some o->blk v ≠ some b->A1.get b=some o)/\∃ d':List α,d'.Perm d/\d'.Pairwise (fun x y=>¬ cf y x < 0)/\Fresh A0 A1 v k (d'.flatMap enc):=by
    rintro p c rfl rfl
    refine ⟨e6,fun w hw=>(AnyF.slices_SortFunc_none L p c _ w).mono ?_⟩
    rintro e w' ⟨rfl,rfl⟩
    exact ⟨A,hw,.refl _ _,_,rfl,rfl,le,hw.wf,fun _ _ h _=>h,[],.refl _,List.Pairwise.nil,own⟩
  rcases own.own with ⟨rfl,hx⟩ | ⟨b,n,c,r,rcap,rfl,g2,g3,g4,g5,g6⟩
  · have:d=[]:=List.length_eq_zero_iff.1 (by
      have:=hfl d;rw [hx] at this
      rcases Nat.mul_eq_zero.1 this.symm with q | q
      · exact q
      · omega)
    exact nilcase none 0 rfl this
  · have hn:n=d.length:=Nat.eq_of_mul_eq_mul_right k0 (g3.symm.trans (hfl d))
    subst hn
    have hrl:d.length * k<=r.length:=by rw [<- g4,List.length_take] at g3;omega
    refine ⟨e6,fun w hw=>?_⟩
    obtain ⟨cs,el,fr,q1,q0,q2,q3,q4⟩:=hw.fits b _ g2
    have hb:b < w.heap.size:=(Array.getElem?_eq_some_iff.1 q1).1
    have hfe:(flatK enc k d.toArray).toList=r.take (d.length * k):=by rw [xk enc k hk,g4]
    have hH:HoldsK enc k w b 0 d.toArray:=fun j hj=>by
      simp only [size_flatK,List.size_toArray] at hj
      have hjr:j < r.length:=by omega
      have hjc:j < cs.size:=by omega
      have e1:(flatK enc k d.toArray)[j]! = r[j]:=by
        have:(flatK enc k d.toArray).toList[j]? = (r.take (d.length * k))[j]?:=by rw [hfe]
        have hlt:j < (flatK enc k d.toArray).size:=by rw [size_flatK];simpa using hj
        rw [List.getElem?_take_of_lt hj,List.getElem?_eq_getElem hjr,Array.getElem?_toList,Array.getElem?_eq_getElem hlt] at this
        rw [getElem!_pos (flatK enc k d.toArray) j hlt];exact Option.some.inj this
      have e2:=q3 j hjr
      rw [List.getElem?_eq_getElem hjr] at e2
      refine ⟨?_,?_⟩
      · simp only [World.cell?,q1,Nat.zero_add,id];rw [e1];exact e2
      · have:=q4 Z j O
        simp only [World.frozen?,q1,Nat.zero_add]
        obtain ⟨f1,f2⟩:=fr
        simp only at this ⊢
        simp only [Bool.and_eq_false_iff,decide_eq_false_iff_not];omega
    have hc:CmpLays P g cb enc k cf b 0 d.toArray.size w:=fun m os dk hdk x y=>by
      have hs:(sortWorldK enc k w b 0 m dk os).heap.size=w.heap.size + os.size:=by simp [sortWorldK,Sort.grow,putRowK,putRow,mapBlock,Sort.ahead]
      have hv:ct (A.frozen b (w.heap.size + os.size)) (sortWorldK enc k w b 0 m dk os):=yY hw hs O fun j hj hne=>by
        simp only [sortWorldK,Sort.grow,putRowK,putRow,mapBlock,Sort.ahead]
        rw [Array.getElem?_append_left (by simpa using hj),Array.getElem?_modify,if_neg (Ne.symm hne)]
      refine ((hcmp (w.heap.size + os.size) (by rw [hw.size];omega) b Z x y).2 _ hv).mono ?_
      rintro e w' ⟨A1,_,hst,u,rfl,rfl⟩
      exact ⟨Z,IK hst⟩
    have key:=AnyQ.slices_SortFunc L k aE zE enc hk h1 cf hO g cb b 0 c d.toArray w eg hc hH hb (by simpa using hsz)
    simp only [List.size_toArray] at key
    refine key.mono ?_
    rintro e w' ⟨rfl,d',m,os,hp,hs,rfl⟩
    have hds:d'.size=d.length:=by simpa using hp.1
    obtain ⟨v1,s1⟩:=Ax (α:=Value) id (flatK enc k d') m os hw g2 (by rw [size_flatK,hds];exact hrl)
    refine ⟨_,v1,s1,_,rfl,rfl,?_,v1.wf,fun j o hj hne=>?_,d'.toList,?_,?_,?_⟩
    · exact ⟨Nat.le_trans le.n (Nat.le_add_right _ _),fun j o hj=>by
        rw [AH.grow_get,AH.set_get_ne _ _ (by rintro rfl;rw [own.lo j Z] at hj;cases hj)];exact le.get j o hj⟩
    · rw [AH.grow_get,AH.set_get_ne _ _ (by rintro rfl;exact hne Z)];exact hj
    · have:=hp.2.2
      have e1:d'.extract 0 d.length=d':=by rw [<- hds];simp
      have e2:d.toArray.extract 0 d.length=d.toArray:=by
        simp
      rw [e1,e2] at this
      exact this
    · rw [List.pairwise_iff_getElem]
      intro i j hi hj hij
      have:=hs i j (Nat.zero_le _) hij (by simpa [hds] using hj)
      simp only [ltOf,decide_eq_false_iff_not] at this
      simp only [Array.length_toList] at hi hj
      simpa [hi,hj] using this
    · have e3:(flatK enc k d').toList=d'.toList.flatMap enc:=by
        have:=xk enc k hk d'.toList;simpa using this
      refine ⟨.inr ⟨b,d.length,c,_,rcap,Z,by rw [AH.grow_get];exact AH.set_get_same _ _ _,?_,?_,g5,g6⟩,own.lo⟩
      · rw [hfl,Array.length_toList,hds]
      · rw [List.map_id_fun,id,List.take_left' (by rw [Array.length_toList,size_flatK,hds])]
        exact e3

end
end V
end Go.Proofs.YtjppkekmddjcfaaGreatDoor
