/- 'cayleylaw10.RewriteReduces': true at every system and every word. Its proof. Conditions: the tables that the row lists are as the program lays them; the card ties that to the program's text. -/
import Derived.Test.YtjppkekmddjcfaaGreatDoorRC8
import Derived.Test.YtjppkekmddjcfaaGreatDoorRC4
import Derived.Test.YtjppkekmddjcfaaGreatDoorRC2
set_option linter.unusedSectionVars false
set_option linter.unusedVariables false
set_option linter.unusedSimpArgs false
namespace Go.Proofs.YtjppkekmddjcfaaGreatDoor
open Go Go.RowKit V
set_option maxRecDepth 100000
theorem Vl:dh Tryz.prog 24=some [(0,1),(1,1)]:=by kernel_rfl
theorem Vm:dh Tryz.prog 27=some [(0,2),(2,1)]:=by kernel_rfl
theorem QC:dh Tryz.prog 83=some [(0,1),(1,1),(2,1)]:=by kernel_rfl
theorem VW:type_of% @Tryz.underlying24:=@Tryz.underlying24
theorem VX:type_of% @Tryz.underlying27:=@Tryz.underlying27
theorem Vd:type_of% @Tryz.underlying83:=@Tryz.underlying83
theorem VY:cD Tryz.prog 24=some (.agg #[.int .i64 0,.slice none 0 0]):=by kernel_rfl
theorem Ve:cD Tryz.prog 27=some (.agg #[.int .i64 0,.slice none 0 0,.slice none 0 0]):=by kernel_rfl

theorem dX {α:Type} {l m:List α} {d:α} (h:l.length=m.length) (q:∀ j,j < l.length->l.getD j d=m.getD j d):l=m:=by
 apply List.ext_getElem h;intro i h1 h2;have:=q i h1;rwa [gd h1,gd h2] at this

theorem Ep (u1 u2:Value) (l1 l2:List Int) (A:AH) (hn:l1.length<=100000000) (a0:bK A 1 u1 (cO l1)) (a2:bK A 1 u2 (cO l2)):bH Tryz.prog 80 #[u1,u2] A (fun v A1=>v=.bool (decide (l1=l2))/\A.le A1/\A1.wf):=by
 refine jP Tryz.call80 Tryz.func80 Z Tryz.results80 Tryz.ntmps80 Z (fun wf=>?_);have V:=AH.le.refl A;refine am.seq fun _ h2=>.region<|.q Z (ae Z)<|.nil<|h2 _ _<|.seq fun _ h4=>.seq fun _ h6=>.region<|.q Z (ah Z)<|.q Z (bF (n:=l1.length) ep Z (a0.le V) O (eD _)) ?_;refine Ops.q Z (ah Z)<|.q Z (bF (n:=l2.length) ep Z (a2.le V) O (eD _))<|.q Z (fh Z Z)<|.nil<|h6 _ _<|.if rfl (fun p7=>?_) (fun p7=>?_)
 ·refine am.seq fun _ h9=>.region<|.q Z (ae Z)<|.nil<|h9 _ _<|.rt (by exact aJ Z (⟨by first | (rw [decide_eq_false (fun e=>‹¬ l1.length=l2.length› (congrArg List.length e))];rfl) | (rw [decide_eq_false (fun e=>‹¬ l1.getD i 0=l2.getD i 0› (congrArg (fun z=>z.getD i 0) e))];rfl) | (rw [decide_eq_true (dX hl (fun j h=>hq j O))];rfl),V,wf⟩))
 refine am.skip<|h4 _ _<|.seq fun _ a9=>.seq fun _ aa=>.region<|.q Z (ae Z)<|.nil<|aa _ _<|.block<|.loop (X:=Nat) (fun i=>[(0,u1),(1,u2),(5,num ((i:Nat):Int))]) (fun i B=>(i<=l1.length/\l1.length=l2.length/\∀ j,j < i->l1.getD j 0=l2.getD j 0)/\A.le B) (fun i=>l1.length - i) 0 (jQ Z Z Z) (⟨⟨Nat.zero_le _,by omega,fun j h=>by omega⟩,V⟩) ?_;rintro i B15 ⟨⟨hi,hl,hq⟩,D⟩;refine am.wf fun a1=>.seq fun _ ab=>.seq fun _ ac=>.region<|.q Z (ah Z)<|.q Z (ah Z)<|.q Z (bF (n:=l1.length) ep Z (a0.le D) O (eD _))<|.q Z (cd Z Z)<|.nil<|ac _ _ ?_;refine am.if rfl (fun ay=>?_) (fun ay=>?_)
 ·refine am.skip<|ab _ _<|.seq fun _ ad=>.block<|.seq fun _ ag=>.drawn [0,1,2,3,4,5,6,7,8] mixed Y Y Z<|.q Z Z Z (ah Z)<|.q Z Z Z (ah Z) ?_;obtain ⟨aI,aR,aF,b0,aC,aY,aT,a5,ar,a7,aA,a3⟩:=bK.at (i:=i) (a0.le D) Of O;refine bj.q Z Z Z (ax ep c5 Z a5 Z ar)<|.q Z Z Z (ak eM Z Z a7 ((cT a3).trans (c8 O)))<|.q Z Z Z (ah Z)<|.q Z Z Z (ah Z) ?_;obtain ⟨aP,aS,aG,b1,aD,aZ,aV,a6,av,a8,aB,a4⟩:=bK.at (i:=i) (a2.le D) Of O;refine bj.q Z Z Z (ax ep c5 Z a6 Z av)<|.q Z Z Z (ak eM Z Z a8 ((cT a4).trans (c8 O)))<|.q Z Z Z (M5 Z Z)<|.done<|ag _ _<|.if rfl (fun az=>?_) (fun az=>?_)
  ·refine am.seq fun _ ai=>.region<|.q Z (ae Z)<|.nil<|ai _ _<|.rt (by exact aJ Z (⟨by first | (rw [decide_eq_false (fun e=>‹¬ l1.length=l2.length› (congrArg List.length e))];rfl) | (rw [decide_eq_false (fun e=>‹¬ l1.getD i 0=l2.getD i 0› (congrArg (fun z=>z.getD i 0) e))];rfl) | (rw [decide_eq_true (dX hl (fun j h=>hq j O))];rfl),D,a1⟩))
  refine am.skip<|ad _ _<|.region<|.q Z (ah Z)<|.q Z (bE (b:=1) Z Z O)<|.q Z (ae Z)<|.nil ?_;exact ⟨i + 1,jQ Z Z Z,Z,⟨⟨by omega,hl,fun j h=>(Nat.lt_succ_iff_lt_or_eq.1 h).elim (hq j) (fun z=>by subst z;exact Decidable.not_not.1 ‹_›)⟩,D⟩,O1⟩
 refine am.exit<|a9 _ _<|.seq fun _ ap=>.region<|.q Z (ae Z)<|.nil<|ap _ _<|.rt (by exact aJ Z (⟨by first | (rw [decide_eq_false (fun e=>‹¬ l1.length=l2.length› (congrArg List.length e))];rfl) | (rw [decide_eq_false (fun e=>‹¬ l1.getD i 0=l2.getD i 0› (congrArg (fun z=>z.getD i 0) e))];rfl) | (rw [decide_eq_true (dX hl (fun j h=>hq j O))];rfl),D,a1⟩))

theorem NP (k1 s1 k2 s2:Int) (av aA ay aB:Value) (D V:List Bool) (N1 N2:List (List Int)) (a0 a1:List Value) (A:AH) (dW:D.length<=1000000) (dZ:N1.length<=1000000) (hrn:∀ r ∈ N1,r.length<=100000) (ap:bK A 1 av (cl D)) (ar:bK A 1 aA (em a0)) (a5:a0.length=N1.length) (bY:∀ i,i < N1.length->bK A 1 (a0.getD i undef) (cO (N1.getD i []))) (aC:bK A 1 ay (cl V)) (aD:bK A 1 aB (em a1)) (a6:a1.length=N2.length) (c3:∀ i,i < N2.length->bK A 1 (a1.getD i undef) (cO (N2.getD i []))):bH Tryz.prog 34 #[.agg #[num (k1),num (s1),av,aA],.agg #[num (k2),num (s2),ay,aB]] A (fun v A1=>v=.bool (decide (k1=k2/\s1=s2/\D=V/\N1=N2))/\A.le A1/\A1.wf):=by
 refine jP Tryz.call34 Tryz.func34 Z Tryz.results34 Tryz.ntmps34 Z (fun wf=>?_);have cH:=AH.le.refl A;refine am.seq fun _ h2=>.region<|.l Z (fun _ _ c4 _=>dQ wf rfl rfl fun A5 b4 aG=>?_);have cC:=cH.trans aG.le;refine c4 _ _<|.l Z (fun _ _ c7 _=>dQ aG.wf rfl rfl fun A10 b9 a2=>?_);have ai:=a2.le.get _ _ aG.get;have a3:=cC.trans a2.le;refine c7 _ _<|.q Z (ae Z)<|.nil<|h2 _ _<|.seq fun _ bb=>.seq fun _ az=>.region<|.q Z (aj sU c5 U Z)<|.q Z (ak eM Z Z ai Z)<|.q Z (aj sU c5 U Z) ?_;refine Ops.q Z (ak eM Z Z a2.get Z)<|.q Z (M5 Z Z)<|.q Z (ah Z)<|.part (t:=12) Z (fun cK=>?_) (fun cK=>?_)
 ·refine Ops.off Z Z Z Z<|.off Z Z Z Z<|.off Z Z Z Z<|.off Z Z Z Z<|.off Z Z Z Z<|.q Z (aM Z Z)<|.q Z (ah Z)<|.off Z Z Z Z<|.off Z Z Z Z<|.off Z Z Z Z ?_;refine Ops.off Z Z Z Z<|.off Z Z Z Z<|.off Z Z Z Z<|.off Z Z Z Z<|.q Z (aM Z Z)<|.q Z (ah Z)<|.off Z Z Z Z<|.off Z Z Z Z<|.off Z Z Z Z<|.off Z Z Z Z ?_;refine Ops.off Z Z Z Z<|.off Z Z Z Z<|.off Z Z Z Z<|.q Z (aM Z Z)<|.nil<|az _ _<|.cond_true Z<|.seq fun _ bc=>.region<|.q Z (ae Z) ?_;refine Ops.nil<|bc _ _<|.rt (by exact aJ Z (⟨by first | (rw [decide_eq_false (fun e=>‹¬ k1=k2› e.1)];rfl) | (rw [decide_eq_false (fun e=>‹¬ s1=s2› e.2.1)];rfl) | (rw [decide_eq_false (fun e=>‹¬ D.length=V.length› (congrArg List.length e.2.2.1))];rfl) | (rw [decide_eq_false (fun e=>‹¬ a0.length=a1.length› (by rw [a5,a6,e.2.2.2]))];rfl) | (rw [decide_eq_false (fun e=>absurd (congrArg (fun z=>z.getD i false) e.2.2.1) (by simpa using ‹(!(D.getD i false == V.getD i false))=true›))];rfl) | (rw [decide_eq_false (fun e=>‹¬ N1.getD j []=N2.getD j []› (congrArg (fun z=>z.getD j []) e.2.2.2))];rfl) | (rw [decide_eq_true ⟨ab,ac,hac,dX O (fun z h=>hr z O)⟩];rfl),a3,a2.wf⟩))
 refine Ops.on Z Z<|.q Z (aj vp c5 U Z)<|.on Z Z<|.q Z (ak eM Z Z ai Z)<|.on Z Z<|.q Z (aj vp c5 U Z)<|.on Z Z<|.q Z (ak eM Z Z a2.get Z)<|.on Z Z<|.q Z (M5 Z Z) ?_;refine Ops.q Z (aW Z Z)<|.q Z (ah Z)<|.part (t:=19) Z (fun cP=>?_) (fun cP=>?_)
 ·refine Ops.off Z Z Z Z<|.off Z Z Z Z<|.off Z Z Z Z<|.off Z Z Z Z<|.off Z Z Z Z<|.off Z Z Z Z<|.off Z Z Z Z<|.q Z (aM Z Z)<|.q Z (ah Z)<|.off Z Z Z Z ?_;refine Ops.off Z Z Z Z<|.off Z Z Z Z<|.off Z Z Z Z<|.off Z Z Z Z<|.off Z Z Z Z<|.off Z Z Z Z<|.q Z (aM Z Z)<|.nil<|az _ _<|.cond_true Z ?_;refine am.seq fun _ bd=>.region<|.q Z (ae Z)<|.nil<|bd _ _<|.rt (by exact aJ Z (⟨by first | (rw [decide_eq_false (fun e=>‹¬ k1=k2› e.1)];rfl) | (rw [decide_eq_false (fun e=>‹¬ s1=s2› e.2.1)];rfl) | (rw [decide_eq_false (fun e=>‹¬ D.length=V.length› (congrArg List.length e.2.2.1))];rfl) | (rw [decide_eq_false (fun e=>‹¬ a0.length=a1.length› (by rw [a5,a6,e.2.2.2]))];rfl) | (rw [decide_eq_false (fun e=>absurd (congrArg (fun z=>z.getD i false) e.2.2.1) (by simpa using ‹(!(D.getD i false == V.getD i false))=true›))];rfl) | (rw [decide_eq_false (fun e=>‹¬ N1.getD j []=N2.getD j []› (congrArg (fun z=>z.getD j []) e.2.2.2))];rfl) | (rw [decide_eq_true ⟨ab,ac,hac,dX O (fun z h=>hr z O)⟩];rfl),a3,a2.wf⟩))
 refine Ops.on Z Z<|.q Z (aj lH iK U Z)<|.on Z Z<|.q Z (ak iE Z Z ai Z)<|.on Z Z<|.q Z (bF (n:=D.length) lS Z (ap.le a3) O (fw _))<|.on Z Z<|.q Z (aj lH iK U Z)<|.on Z Z<|.q Z (ak iE Z Z a2.get Z) ?_;refine Ops.on Z Z<|.q Z (bF (n:=V.length) lS Z (aC.le a3) O (fw _))<|.on Z Z<|.q Z (fh Z Z)<|.q Z (aW Z Z)<|.q Z (ah Z)<|.part (t:=28) Z (fun cS=>?_) (fun cS=>?_)
 ·refine Ops.off Z Z Z Z<|.off Z Z Z Z<|.off Z Z Z Z<|.off Z Z Z Z<|.off Z Z Z Z<|.off Z Z Z Z<|.off Z Z Z Z<|.q Z (aM Z Z)<|.nil<|az _ _ ?_;refine am.cond_true Z<|.seq fun _ bl=>.region<|.q Z (ae Z)<|.nil<|bl _ _<|.rt (by exact aJ Z (⟨by first | (rw [decide_eq_false (fun e=>‹¬ k1=k2› e.1)];rfl) | (rw [decide_eq_false (fun e=>‹¬ s1=s2› e.2.1)];rfl) | (rw [decide_eq_false (fun e=>‹¬ D.length=V.length› (congrArg List.length e.2.2.1))];rfl) | (rw [decide_eq_false (fun e=>‹¬ a0.length=a1.length› (by rw [a5,a6,e.2.2.2]))];rfl) | (rw [decide_eq_false (fun e=>absurd (congrArg (fun z=>z.getD i false) e.2.2.1) (by simpa using ‹(!(D.getD i false == V.getD i false))=true›))];rfl) | (rw [decide_eq_false (fun e=>‹¬ N1.getD j []=N2.getD j []› (congrArg (fun z=>z.getD j []) e.2.2.2))];rfl) | (rw [decide_eq_true ⟨ab,ac,hac,dX O (fun z h=>hr z O)⟩];rfl),a3,a2.wf⟩))
 refine Ops.on Z Z<|.q Z (aj lI i8 U Z)<|.on Z Z<|.q Z (ak kh Z Z ai Z)<|.on Z Z<|.q Z (bF (n:=a0.length) oe Z (ar.le a3) O (i6 _))<|.on Z Z<|.q Z (aj lI i8 U Z)<|.on Z Z<|.q Z (ak kh Z Z a2.get Z) ?_;refine Ops.on Z Z<|.q Z (bF (n:=a1.length) oe Z (aD.le a3) O (i6 _))<|.on Z Z<|.q Z (fh Z Z)<|.q Z (aW Z Z)<|.nil<|az _ _<|.if rfl (fun cV=>?_) (fun cV=>?_)
 ·refine am.seq fun _ bm=>.region<|.q Z (ae Z)<|.nil<|bm _ _<|.rt (by exact aJ Z (⟨by first | (rw [decide_eq_false (fun e=>‹¬ k1=k2› e.1)];rfl) | (rw [decide_eq_false (fun e=>‹¬ s1=s2› e.2.1)];rfl) | (rw [decide_eq_false (fun e=>‹¬ D.length=V.length› (congrArg List.length e.2.2.1))];rfl) | (rw [decide_eq_false (fun e=>‹¬ a0.length=a1.length› (by rw [a5,a6,e.2.2.2]))];rfl) | (rw [decide_eq_false (fun e=>absurd (congrArg (fun z=>z.getD i false) e.2.2.1) (by simpa using ‹(!(D.getD i false == V.getD i false))=true›))];rfl) | (rw [decide_eq_false (fun e=>‹¬ N1.getD j []=N2.getD j []› (congrArg (fun z=>z.getD j []) e.2.2.2))];rfl) | (rw [decide_eq_true ⟨ab,ac,hac,dX O (fun z h=>hr z O)⟩];rfl),a3,a2.wf⟩))
 refine am.skip<|bb _ _<|.seq fun _ bp=>.seq fun _ br=>.region<|.q Z (ae Z)<|.nil<|br _ _<|.block<|.loop (X:=Nat) (fun i=>[(2,.pointer (some ⟨b4,0,none⟩)),(3,.pointer (some ⟨b9,0,none⟩)),(5,num ((i:Nat):Int))]) (fun i B=>(i<=D.length/\(k1=k2/\s1=s2/\D.length=V.length/\a0.length=a1.length)/\∀ j,j < i->D.getD j false=V.getD j false)/\A.le B/\B.get b4=some (.row true [num (k1),num (s1),av,aA] 4)/\B.get b9=some (.row true [num (k2),num (s2),ay,aB] 4)) (fun i=>D.length - i) 0 (jQ Z Z Z) (⟨⟨Nat.zero_le _,⟨Decidable.not_not.1 ‹¬ ¬ k1=k2›,Decidable.not_not.1 ‹¬ ¬ s1=s2›,Decidable.not_not.1 ‹¬ ¬ D.length=V.length›,Decidable.not_not.1 ‹¬ ¬ a0.length=a1.length›⟩,fun j h=>by omega⟩,a3,ai,a2.get⟩) ?_;rintro i B35 ⟨⟨hi,hl,hq⟩,aa,a4,a9⟩;refine am.wf fun aZ=>?_;obtain ⟨ab,ac,aP,cc⟩:=hl;refine am.seq fun _ bu=>.seq fun _ bv=>.region<|.q Z (ah Z)<|.q Z (aj lH iK U Z)<|.q Z (ak iE Z Z a4 Z)<|.q Z (bF (n:=D.length) lS Z (ap.le aa) O (fw _))<|.q Z (cd Z Z)<|.nil<|bv _ _ ?_;refine am.if rfl (fun cX=>?_) (fun cX=>?_)
 ·refine am.skip<|bu _ _<|.seq fun _ bA=>.block<|.seq fun _ bB=>.drawn [0,1,2,3,4,5,6,7,8,9,10] mixed Y Y Z<|.q Z Z Z (aj lH iK U Z)<|.q Z Z Z (ak iE Z Z a4 Z)<|.q Z Z Z (ah Z) ?_;obtain ⟨dI,dM,dv,e9,dj,e4,e0,b1,ch,b6,d2,aR⟩:=bK.at (i:=i) (ap.le aa) Oi O;refine bj.q Z Z Z (ax lS mc Z b1 Z ch)<|.q Z Z Z (ak ut Z Z b6 ((cT aR).trans (ek O)))<|.q Z Z Z (aj lH iK U Z)<|.q Z Z Z (ak iE Z Z a9 Z)<|.q Z Z Z (ah Z) ?_;obtain ⟨dJ,dO,dw,ea,dk,e5,e1,b2,ck,b7,d3,aS⟩:=bK.at (i:=i) (aC.le aa) Oi O;refine bj.q Z Z Z (ax lS mc Z b2 Z ck)<|.q Z Z Z (ak ut Z Z b7 ((cT aS).trans (ek O)))<|.q Z Z Z (Uv u4 Z Z)<|.done<|bB _ _<|.ifB Z (fun cZ=>?_) (fun cZ=>?_)
  ·refine am.seq fun _ bC=>.region<|.q Z (ae Z)<|.nil<|bC _ _<|.rt (by exact aJ Z (⟨by first | (rw [decide_eq_false (fun e=>‹¬ k1=k2› e.1)];rfl) | (rw [decide_eq_false (fun e=>‹¬ s1=s2› e.2.1)];rfl) | (rw [decide_eq_false (fun e=>‹¬ D.length=V.length› (congrArg List.length e.2.2.1))];rfl) | (rw [decide_eq_false (fun e=>‹¬ a0.length=a1.length› (by rw [a5,a6,e.2.2.2]))];rfl) | (rw [decide_eq_false (fun e=>absurd (congrArg (fun z=>z.getD i false) e.2.2.1) (by simpa using ‹(!(D.getD i false == V.getD i false))=true›))];rfl) | (rw [decide_eq_false (fun e=>‹¬ N1.getD j []=N2.getD j []› (congrArg (fun z=>z.getD j []) e.2.2.2))];rfl) | (rw [decide_eq_true ⟨ab,ac,hac,dX O (fun z h=>hr z O)⟩];rfl),aa,aZ⟩))
  refine am.skip<|bA _ _<|.region<|.q Z (ah Z)<|.q Z (bE (b:=1) Z Z O)<|.q Z (ae Z)<|.nil ?_;exact ⟨i + 1,jQ Z Z Z,Z,⟨⟨by omega,⟨ab,ac,aP,cc⟩,fun j h=>(Nat.lt_succ_iff_lt_or_eq.1 h).elim (hq j) (fun z=>by subst z;simpa using ‹(!(D.getD j false == V.getD j false))=false›)⟩,aa,a4,a9⟩,O1⟩
 refine am.exit<|bp _ _<|.seq fun _ bD=>.seq fun _ bL=>.region<|.q Z (ae Z)<|.nil<|bL _ _<|.block<|.loop (X:=Nat) (fun j=>[(2,.pointer (some ⟨b4,0,none⟩)),(3,.pointer (some ⟨b9,0,none⟩)),(6,num ((j:Nat):Int))]) (fun j B=>(j<=a0.length/\D=V/\∀ z,z < j->N1.getD z []=N2.getD z [])/\A.le B/\B.get b4=some (.row true [num (k1),num (s1),av,aA] 4)/\B.get b9=some (.row true [num (k2),num (s2),ay,aB] 4)) (fun j=>a0.length - j) 0 (jQ Z Z Z) (⟨⟨Nat.zero_le _,dX aP (fun j h=>hq j O),fun j h=>by omega⟩,aa,a4,a9⟩) ?_;rintro j B56 ⟨⟨hj,hac,hr⟩,a7,a8,ad⟩;refine am.wf fun b0=>?_;have hrj:=fun q:j < N1.length=>hrn _ (bw (d:=([]:List Int)) q);refine am.seq fun _ bM=>.seq fun _ bO=>.region<|.q Z (ah Z)<|.q Z (aj lI i8 U Z)<|.q Z (ak kh Z Z a8 Z)<|.q Z (bF (n:=a0.length) oe Z (ar.le a7) O (i6 _))<|.q Z (cd Z Z)<|.nil<|bO _ _ ?_;refine am.if rfl (fun d0=>?_) (fun d0=>?_)
 ·refine am.skip<|bM _ _<|.seq fun _ bP=>.block<|.seq fun _ bR=>.drawn [0,1,2,3,4,5,6,7,8,9,10,11] mixed Y Y Z<|.q Z Z Z (aj lI i8 U Z)<|.q Z Z Z (ak kh Z Z a8 Z)<|.q Z Z Z (ah Z) ?_;obtain ⟨dK,dS,dz,ec,dl,e6,e2,b3,cv,b8,dd,aT⟩:=bK.at (i:=j) (ar.le a7) Ok O;refine bj.q Z Z Z (ax oe fF Z b3 Z cv)<|.q Z Z Z (ak l8 Z Z b8 ((cT aT).trans (eO O)))<|.q Z Z Z (aj lI i8 U Z)<|.q Z Z Z (ak kh Z Z ad Z)<|.q Z Z Z (ah Z) ?_;obtain ⟨dL,dV,dD,eg,dm,e7,e3,b5,cA,ba,di,aV⟩:=bK.at (i:=j) (aD.le a7) Ok O;refine bj.q Z Z Z (ax oe fF Z b5 Z cA)<|.q Z Z Z (ak l8 Z Z ba ((cT aV).trans (eO O)))<|.l Z Z Z (fun _ _ aY _=>au Z (Ep (a0.getD j undef) (a1.getD j undef) ((N1.getD j [])) ((N2.getD j [])) B56 (by have:=hrj O;omega) ((bY j O).le a7) ((c3 j O).le a7)) ?_);rintro en A75 ⟨rfl,ag,aI⟩;have bS:=ag.get _ _ a8;have bT:=ag.get _ _ ad;have aF:=a7.trans ag;refine aY _ _ (be.none Y)<|.q Z Z Z (kY Z)<|.done<|bR _ _<|.if rfl (fun d1=>?_) (fun d1=>?_)
  ·refine am.seq fun _ bU=>.region<|.q Z (ae Z)<|.nil<|bU _ _<|.rt (by exact aJ Z (⟨by first | (rw [decide_eq_false (fun e=>‹¬ k1=k2› e.1)];rfl) | (rw [decide_eq_false (fun e=>‹¬ s1=s2› e.2.1)];rfl) | (rw [decide_eq_false (fun e=>‹¬ D.length=V.length› (congrArg List.length e.2.2.1))];rfl) | (rw [decide_eq_false (fun e=>‹¬ a0.length=a1.length› (by rw [a5,a6,e.2.2.2]))];rfl) | (rw [decide_eq_false (fun e=>absurd (congrArg (fun z=>z.getD i false) e.2.2.1) (by simpa using ‹(!(D.getD i false == V.getD i false))=true›))];rfl) | (rw [decide_eq_false (fun e=>‹¬ N1.getD j []=N2.getD j []› (congrArg (fun z=>z.getD j []) e.2.2.2))];rfl) | (rw [decide_eq_true ⟨ab,ac,hac,dX O (fun z h=>hr z O)⟩];rfl),aF,aI⟩))
  refine am.skip<|bP _ _<|.region<|.q Z (ah Z)<|.q Z (bE (b:=1) Z Z O)<|.q Z (ae Z)<|.nil ?_;exact ⟨j + 1,jQ Z Z Z,Z,⟨⟨by omega,hac,fun z h=>(Nat.lt_succ_iff_lt_or_eq.1 h).elim (hr z) (fun w=>by subst w;exact Decidable.not_not.1 ‹¬ ¬ N1.getD z []=N2.getD z []›)⟩,aF,bS,bT⟩,O1⟩
 refine am.exit<|bD _ _<|.seq fun _ bV=>.region<|.q Z (ae Z)<|.nil<|bV _ _<|.rt (by exact aJ Z (⟨by first | (rw [decide_eq_false (fun e=>‹¬ k1=k2› e.1)];rfl) | (rw [decide_eq_false (fun e=>‹¬ s1=s2› e.2.1)];rfl) | (rw [decide_eq_false (fun e=>‹¬ D.length=V.length› (congrArg List.length e.2.2.1))];rfl) | (rw [decide_eq_false (fun e=>‹¬ a0.length=a1.length› (by rw [a5,a6,e.2.2.2]))];rfl) | (rw [decide_eq_false (fun e=>absurd (congrArg (fun z=>z.getD i false) e.2.2.1) (by simpa using ‹(!(D.getD i false == V.getD i false))=true›))];rfl) | (rw [decide_eq_false (fun e=>‹¬ N1.getD j []=N2.getD j []› (congrArg (fun z=>z.getD j []) e.2.2.2))];rfl) | (rw [decide_eq_true ⟨ab,ac,hac,dX O (fun z h=>hr z O)⟩];rfl),a7,b0⟩))

theorem zt (w:List UInt8) (r:Nat) (iv:Bool) (A:AH):bH Tryz.prog 89 #[aX (w),num ((r:Nat):Int),.bool (iv)] A (fun v A1=>A.le A1/\A1.wf/\Fresh A A1 v 3 (cb [⟨w,(r:Int),iv⟩])):=by
 refine wQ Tryz.call89 Tryz.func89 Z Tryz.results89 Tryz.ntmps89 Z (fun wf=>?_);have V:=AH.le.refl A;refine am.seq fun _ h2=>.region<|.q Z (ae Z)<|.nil<|h2 _ _<|.seq fun _ h4=>.region<|.q Z (ah Z)<|.q Z (ah Z)<|.q Z (ah Z) ?_;refine Ops.q Z (cU Z (bn Vy Kn Ut Z))<|.l Z (fun _ _ X _=>aN (c:=[aX (w),num ((r:Nat):Int),.bool (iv)]) wf rfl (aw mz im Kn rfl U U rfl) fun A7 b6 h=>?_);have D:=aU wf (Nat.le_trans V.n h.lo);have a0:=V.trans h.le;refine X _ _<|.q Z (ae Z)<|.nil<|h4 _ _<|.rt (by exact aJ Z (⟨a0,h.wf,Fresh.lit h.get D Z (Nat.le_of_ble_eq_true Z)⟩))

theorem Rh (A:AH):bH Tryz.prog 43 #[] A (fun v A1=>∃ bu br a b c d,v=.agg #[num ((2:Nat):Int),(.slice (some ⟨bu,0,none⟩) 1 1),(.slice (some ⟨br,0,none⟩) 4 4)]/\A.le A1/\A1.wf/\bK A1 1 (.slice (some ⟨bu,0,none⟩) 1 1) (d5 dB)/\bK A1 3 (.slice (some ⟨br,0,none⟩) 4 4) (c9 (cJ a b c d))/\Proofs A1 (cJ a b c d)):=by
 refine VG Tryz.call43 Tryz.func43 Z Tryz.results43 Tryz.ntmps43 Z (fun wf=>?_);have b3:=AH.le.refl A;refine am.seq fun _ h2=>.region<|.l Z (fun _ _ cV _=>cg wf Ve rfl fun A5 b4 a2=>?_);have aA:=aU wf (Nat.le_trans b3.n a2.lo);have cX:=b3.trans a2.le;refine cV _ _<|.nil<|h2 _ _<|.seq fun _ h9=>.region<|.l Z (fun _ _ bM _=>aN (c:=[aX ([97,98,65,66])]) a2.wf rfl (aw mO fc z9 rfl U U rfl) fun A12 ab a1=>?_);have a4:=ne_new a2.wf a2.get a1.lo;have aR:=a1.le.get _ _ a2.get;have ar:=cX.trans a1.le;refine bM _ _<|.q Z (cU Z (bn VW VY Vl Z))<|.l Z (fun _ _ bO _=>au Z (zt ([]) 0 true A12) ?_);rintro d3 A18 ⟨a3,aB,a6⟩;have aS:=a3.get _ _ aR;have ck:=a3.get _ _ a1.get;have av:=ar.trans a3;have ad:=a6.base ar;have c4:=a6.ne a1.wf aR;refine bO _ _ ?_;obtain ⟨b5,aZ,aF,cZ,_⟩:=ad.own.slice;subst cZ;refine Ops.q Z (cU Z (bn Vd Ij QC Z))<|.l Z (fun _ _ bP _=>au Z (zt ([65]) 0 false A18) ?_);rintro dd A29 ⟨a0,aC,a7⟩;have aT:=a0.get _ _ aS;have cv:=a0.get _ _ ck;have b9:=ad.le a0;have ay:=av.trans a0;have ag:=a7.base av;have c7:=a7.ne aB aS;refine bP _ _ ?_;obtain ⟨b6,b0,aG,d0,_⟩:=ag.own.slice;subst d0;refine Ops.q Z (cU Z (bn Vd Ij QC Z))<|.l Z (fun _ _ bR _=>au Z (zt ([66]) 0 false A29) ?_);rintro di A42 ⟨X,aD,a8⟩;have aV:=X.get _ _ aT;have cA:=X.get _ _ cv;have ba:=b9.le X;have bb:=ag.le X;have az:=ay.trans X;have ai:=a8.base ay;have cc:=a8.ne aC aT;refine bR _ _ ?_;obtain ⟨b7,b1,aI,d1,_⟩:=ai.own.slice;subst d1;refine Ops.q Z (cU Z (bn Vd Ij QC Z))<|.l Z (fun _ _ bS _=>au Z (zt ([66,65]) 0 true A42) ?_);rintro dj A57 ⟨V,aa,a9⟩;have aY:=V.get _ _ aV;have cC:=V.get _ _ cA;have bc:=ba.le V;have bd:=bb.le V;have bl:=ai.le V;have bV:=az.trans V;have ap:=a9.base az;have ch:=a9.ne aD aV;refine bS _ _ ?_;obtain ⟨b8,b2,aP,d2,_⟩:=ap.own.slice;subst d2;refine Ops.q Z (cU Z (bn Vd Ij QC Z))<|.l Z (fun _ _ bT _=>aN (c:=[aX ([98,97]),aX ([97,98]),.slice b5 aZ aF,aX ([98,65]),aX ([65,98]),.slice b6 b0 aG,aX ([66,97]),aX ([97,66]),.slice b7 b1 aI,aX ([66,65]),aX ([65,66]),.slice b8 b2 aP]) aa rfl (aw qq ij Ij rfl U U rfl) fun A74 ac h=>?_);have a5:=ne_new aa aY h.lo;have cH:=h.le.get _ _ aY;have cK:=h.le.get _ _ cC;have bm:=bc.le h.le;have bp:=bd.le h.le;have bv:=bl.le h.le;have bA:=ap.le h.le;have bY:=bV.trans h.le;refine bT _ _<|.q Z (cU Z (bn VX Ve Vm Z))<|.l Z (fun _ _ bU _=>aQ (cs:=[num ((2:Nat):Int),.slice (some ⟨ab,0,none⟩) 1 1,.slice (some ⟨ac,0,none⟩) 4 4]) (c':=[num ((2:Nat):Int),.slice (some ⟨ab,0,none⟩) 1 1,.slice (some ⟨ac,0,none⟩) 4 4]) h.wf rfl rfl rfl rfl ew cH (Nat.le_of_ble_eq_true rfl) rfl rfl fun A88 D=>?_);have cP:=D.keep _ _ a4.symm cK;have cS:=D.keep _ _ a5.symm h.get;have bB:=bm.keep D.keep c4;have bC:=bp.keep D.keep c7;have bD:=bv.keep D.keep cc;have bL:=bA.keep D.keep ch;have c3:=an bY wf aA D.n D.keep;refine bU _ _<|.nil<|h9 _ _<|.ret ?_;repeat first | with_reducible refine bz ?_ | with_reducible refine bi ?_
 exact aJ (df eR ew Z D.get Z d7) (⟨ab,ac,(Value.slice b5 aZ aF),(Value.slice b6 b0 aG),(Value.slice b7 b1 aI),(Value.slice b8 b2 aP),rfl,c3,D.wf,eB (n:=1) cP rfl (Nat.le_refl _),eB (n:=4) cS rfl (Nat.le_refl _),fun r hr=>by simp only [cJ,List.mem_cons,List.not_mem_nil,or_false] at hr;rcases hr with rfl | rfl | rfl | rfl;exact bB.slc;exact bC.slc;exact bD.slc;exact bL.slc⟩)

theorem Ta (u:Value) (br:Nat) (a b c d:Value) (A:AH) (h:fC A u (.slice (some ⟨br,0,none⟩) 4 4) a b c d):bH Tryz.prog 12 #[.agg #[num ((2:Nat):Int),u,(.slice (some ⟨br,0,none⟩) 4 4)]] A (fun v A1=>v=num ((0:Nat):Int)/\A.le A1/\A1.wf) :=
 (Rc 2 u dB (.slice (some ⟨br,0,none⟩) 4 4) (cJ a b c d) A (Nat.le_of_ble_eq_true rfl) (Nat.le_of_ble_eq_true rfl) h.L h.u h.r h.p).mono (fun v A1 z=>by rw [vG] at z;exact z)

theorem Ri (u:Value) (br:Nat) (a b c d:Value) (A:AH) (h:fC A u (.slice (some ⟨br,0,none⟩) 4 4) a b c d):bH Tryz.prog 21 #[.agg #[num ((2:Nat):Int),u,(.slice (some ⟨br,0,none⟩) 4 4)],aX [98,98,97,65]] A (fun v A1=>∃ dv,v=.tuple #[.agg #[aX [98,98],num ((4:Nat):Int),dv],num ((0:Nat):Int)]/\A.le A1/\A1.wf/\Fresh A A1 dv 3 (cb (ei 2 dB (cJ a b c d) [98,98,97,65]).disk)) :=
 (qm 2 u dB (.slice (some ⟨br,0,none⟩) 4 4) (cJ a b c d) [98,98,97,65] A (Nat.le_of_ble_eq_true rfl) (Nat.le_of_ble_eq_true rfl) h.L h.u h.r h.p).mono (fun v A1 z=>by have e:=QE a b c d;rw [e.1,e.2.1,e.2.2] at z;exact z)

theorem Rj (u:Value) (br:Nat) (a b c d:Value) (A:AH) (h:fC A u (.slice (some ⟨br,0,none⟩) 4 4) a b c d):bH Tryz.prog 21 #[.agg #[num ((2:Nat):Int),u,(.slice (some ⟨br,0,none⟩) 4 4)],aX [98,97,66]] A (fun v A1=>∃ dv,v=.tuple #[.agg #[aX [97],num ((1:Nat):Int),dv],num ((0:Nat):Int)]/\A.le A1/\A1.wf/\Fresh A A1 dv 3 (cb (ei 2 dB (cJ a b c d) [98,97,66]).disk)) :=
 (qm 2 u dB (.slice (some ⟨br,0,none⟩) 4 4) (cJ a b c d) [98,97,66] A (Nat.le_of_ble_eq_true rfl) (Nat.le_of_ble_eq_true rfl) h.L h.u h.r h.p).mono (fun v A1 z=>by have e:=QF a b c d;rw [e.1,e.2.1,e.2.2] at z;exact z)

theorem Rk (u:Value) (br:Nat) (a b c d:Value) (A:AH) (h:fC A u (.slice (some ⟨br,0,none⟩) 4 4) a b c d):bH Tryz.prog 21 #[.agg #[num ((2:Nat):Int),u,(.slice (some ⟨br,0,none⟩) 4 4)],aX [98,97,98,97]] A (fun v A1=>∃ dv,v=.tuple #[.agg #[aX [97,97,98,98],num ((3:Nat):Int),dv],num ((0:Nat):Int)]/\A.le A1/\A1.wf/\Fresh A A1 dv 3 (cb (ei 2 dB (cJ a b c d) [98,97,98,97]).disk)) :=
 (qm 2 u dB (.slice (some ⟨br,0,none⟩) 4 4) (cJ a b c d) [98,97,98,97] A (Nat.le_of_ble_eq_true rfl) (Nat.le_of_ble_eq_true rfl) h.L h.u h.r h.p).mono (fun v A1 z=>by have e:=QG a b c d;rw [e.1,e.2.1,e.2.2] at z;exact z)

theorem Ny (u:Value) (br:Nat) (a b c d:Value) (A:AH) (h:fC A u (.slice (some ⟨br,0,none⟩) 4 4) a b c d):bH Tryz.prog 28 #[.agg #[num ((2:Nat):Int),u,(.slice (some ⟨br,0,none⟩) 4 4)]] A (fun v A1=>v=.tuple #[.bool true,PQ .zero,num ((0:Nat):Int)]/\A.le A1/\A1.wf) :=
 (zp 2 u dB (.slice (some ⟨br,0,none⟩) 4 4) (cJ a b c d) A (Nat.le_of_ble_eq_true rfl) (Nat.le_of_ble_eq_true rfl) (fun _=>(sa a b c d).1) h.L h.u h.r h.p).mono (fun v A1 z=>by rw [QH] at z;exact z)

theorem JF (u:Value) (br:Nat) (a b c d:Value) (A:AH) (h:fC A u (.slice (some ⟨br,0,none⟩) 4 4) a b c d):bH Tryz.prog 28 #[.agg #[num ((2:Nat):Int),u,.slice (some ⟨br,0,none⟩) 1 4]] A (fun v A1=>v=.tuple #[.bool false,PQ ⟨0,-1,[98,97,65],[97,98,65],[98]⟩,num ((0:Nat):Int)]/\A.le A1/\A1.wf) :=
 (zp 2 u dB _ ((cJ a b c d).take 1) A (Nat.le_of_ble_eq_true rfl) (Nat.le_of_ble_eq_true rfl) (fun _=>(sa a b c d).2.1) h.L h.u h.one.1 h.one.2).mono (fun v A1 z=>by rw [QL] at z;exact z)

theorem Nx (u:Value) (br:Nat) (a b c d:Value) (A:AH) (h:fC A u (.slice (some ⟨br,0,none⟩) 4 4) a b c d):bH Tryz.prog 30 #[.agg #[num ((2:Nat):Int),u,(.slice (some ⟨br,0,none⟩) 4 4)]] A (fun v A1=>v=.tuple #[.bool true,num ((0:Nat):Int)]/\A.le A1/\A1.wf) :=
 (Rd 2 u dB (.slice (some ⟨br,0,none⟩) 4 4) (cJ a b c d) A (Nat.le_of_ble_eq_true rfl) (Nat.le_of_ble_eq_true rfl) (fun _=>(sa a b c d).1) h.L h.u h.r h.p).mono (fun v A1 z=>by rw [QI] at z;exact z)

theorem NH (u:Value) (br:Nat) (a b c d:Value) (A:AH) (h:fC A u (.slice (some ⟨br,0,none⟩) 4 4) a b c d):bH Tryz.prog 16 #[.agg #[num ((2:Nat):Int),u,(.slice (some ⟨br,0,none⟩) 4 4)]] A (fun v A1=>v=.bool true/\A.le A1/\A1.wf) :=
 (Cn 2 u dB (.slice (some ⟨br,0,none⟩) 4 4) (cJ a b c d) A (Nat.le_of_ble_eq_true rfl) (Nat.le_of_ble_eq_true rfl) h.L h.M h.u h.r h.p).mono (fun v A1 z=>by rw [QJ] at z;exact z)

theorem Re (u:Value) (br:Nat) (a b c d:Value) (A:AH) (h:fC A u (.slice (some ⟨br,0,none⟩) 4 4) a b c d):bH Tryz.prog 14 #[.agg #[num ((2:Nat):Int),u,(.slice (some ⟨br,0,none⟩) 4 4)],aX [97,66]] A (fun v A1=>v=.bool true/\A.le A1/\A1.wf) :=
 (qL 2 u dB (.slice (some ⟨br,0,none⟩) 4 4) (cJ a b c d) [97,66] A (Nat.le_of_ble_eq_true rfl) (Nat.le_of_ble_eq_true rfl) h.L h.M h.u h.r h.p).mono (fun v A1 z=>by have e:=Gt a b c d;rw [vG,e.1,e.2.2.1] at z;exact z)

theorem Rg (u:Value) (br:Nat) (a b c d:Value) (A:AH) (h:fC A u (.slice (some ⟨br,0,none⟩) 4 4) a b c d):bH Tryz.prog 14 #[.agg #[num ((2:Nat):Int),u,(.slice (some ⟨br,0,none⟩) 4 4)],aX [66,97]] A (fun v A1=>v=.bool false/\A.le A1/\A1.wf) :=
 (qL 2 u dB (.slice (some ⟨br,0,none⟩) 4 4) (cJ a b c d) [66,97] A (Nat.le_of_ble_eq_true rfl) (Nat.le_of_ble_eq_true rfl) h.L h.M h.u h.r h.p).mono (fun v A1 z=>by have e:=Gt a b c d;rw [vG,e.2.1,e.2.2.2] at z;exact z)

theorem Rm (u:Value) (br:Nat) (a b c d:Value) (A:AH) (h:fC A u (.slice (some ⟨br,0,none⟩) 4 4) a b c d):bH Tryz.prog 18 #[.agg #[num ((2:Nat):Int),u,(.slice (some ⟨br,0,none⟩) 4 4)],.agg #[num ((2:Nat):Int),u,(.slice (some ⟨br,0,none⟩) 4 4)]] A (fun v A1=>v=.bool true/\A.le A1/\A1.wf) :=
 (Te 2 u dB (.slice (some ⟨br,0,none⟩) 4 4) (cJ a b c d) 2 u dB (.slice (some ⟨br,0,none⟩) 4 4) (cJ a b c d) A (Nat.le_of_ble_eq_true rfl) (Nat.le_of_ble_eq_true rfl) (Nat.le_of_ble_eq_true rfl) (fun r hr=>by simp only [cJ,List.mem_cons,List.not_mem_nil,or_false] at hr;rcases hr with rfl | rfl | rfl | rfl <;> exact (Nat.le_of_ble_eq_true rfl)) h.u h.r h.p h.u h.r h.p).mono (fun v A1 z=>by rw [MN] at z;exact z)

theorem S7 (u:Value) (br:Nat) (a b c d:Value) (A:AH) (h:fC A u (.slice (some ⟨br,0,none⟩) 4 4) a b c d):bH Tryz.prog 33 #[.agg #[num ((2:Nat):Int),u,(.slice (some ⟨br,0,none⟩) 4 4)]] A (fun v A1=>∃ av2 nv2 rows2,v=.tuple #[.agg #[num ((4:Nat):Int),num ((0:Nat):Int),av2,nv2],num ((0:Nat):Int)]/\A.le A1/\A1.wf/\Fresh A A1 av2 1 (cl [true,true,true,true,true])/\Fresh A A1 nv2 1 (em rows2)/\ib A A1 rows2 [[1,2,3,4],[1,-1,3,4],[-1,2,3,4],[-1,-1,3,-1],[-1,-1,-1,4]]/\bq av2 nv2/\aL av2 rows2/\aL nv2 rows2) :=
 (UJ 2 u dB (.slice (some ⟨br,0,none⟩) 4 4) (cJ a b c d) A (Nat.le_of_ble_eq_true rfl) (Nat.le_of_ble_eq_true rfl) (fun _=>(sa a b c d).2.2) h.L h.u h.r h.p).mono (fun v A1 z=>by have e:=QK a b c d;rw [e.1,e.2.1,e.2.2] at z;exact z)

theorem PO:zD Tryz.prog 47 (.agg #[num 0,num (-1),aX [98,97,65],aX [97,98,65],aX [98]]) (.agg #[num ((0:Nat):Int),num (-1),aX [98,97,65],aX [97,98,65],aX [98]])=some true:=by kernel_rfl

theorem TA (A:AH) (hL:gJ A) (hM:rB A):bH Tryz.prog 10 #[] A (fun v A1=>v=.bool true/\A.le A1/\A1.wf):=by
 refine VG Tryz.call10 Tryz.func10 Z Tryz.results10 Tryz.ntmps10 Z (fun wf=>?_);have mm:=AH.le.refl A;refine am.seq fun _ h2=>.region<|.q Z (ae Z)<|.nil<|h2 _ _<|.seq fun _ h4=>.region<|.l Z (fun _ _ me _=>au Z (Rh A) ?_);rintro v6 A7 ⟨aS,aI,lE,lF,lK,lO,rfl,lC,f6,f3,f2,f1⟩;have eZ:=mm.trans lC;have qu:=f3;have qr:=f2;have qp:=f1;have hPl:fC A7 _ _ lE lF lK lO:=⟨hL.le eZ,hM.le eZ,f3,f2,f1⟩;have leA:=eZ;have V:=f6;have leR:=AH.le.refl A7;refine me _ _<|.l Z (fun _ _ l0 _=>cg f6 Ve rfl fun A12 nQ bm=>?_);have e6:=aU V (Nat.le_trans leR.n bm.lo);have lt:=leR.trans bm.le;refine l0 _ _<|.l Z (fun _ _ l1 _=>aQ (cs:=[num ((2:Nat):Int),.slice (some ⟨aS,0,none⟩) 1 1,.slice (some ⟨aI,0,none⟩) 4 4]) (c':=[num ((2:Nat):Int),.slice (some ⟨aS,0,none⟩) 1 1,.slice (some ⟨aI,0,none⟩) 4 4]) bm.wf rfl rfl rfl rfl ew bm.get (Nat.le_of_ble_eq_true rfl) rfl rfl fun A16 bC=>?_);have c7:=an lt V e6 bC.n bC.keep;refine l1 _ _<|.nil<|h4 _ _<|.seq fun _ lY=>.region<|.q Z (aq eR ew Z Z bC.get Z)<|.l Z (fun _ _ l2 _=>au Z (Ri _ _ _ _ _ _ A16 (hPl.le c7)) ?_);rintro oj A23 ⟨mT,rfl,dI,dK,g0⟩;have hk:=dI.get _ _ bC.get;have eV:=c7.trans dI;have hy:=g0.base c7;refine l2 _ _<|.q Z (ah Z)<|.q Z (bh Z Z)<|.q Z (bh Z Z)<|.l Z (fun _ _ l3 _=>cg dK sy rfl fun A31 nT aD=>?_);have bp:=ne_new dK hk aD.lo;have e7:=aU V (Nat.le_trans eV.n aD.lo);have lZ:=aD.le.get _ _ hk;have hz:=hy.le aD.le;have lw:=eV.trans aD.le;refine l3 _ _ ?_;obtain ⟨hu,hs,hh,mt,_⟩:=hz.own.slice;subst mt;refine Ops.l Z (fun _ _ l4 _=>aQ (cs:=[aX ([98,98]),num ((4:Nat):Int),.slice hu hs hh]) (c':=[aX ([98,98]),num ((4:Nat):Int),.slice hu hs hh]) aD.wf rfl rfl rfl rfl d6 aD.get (Nat.le_of_ble_eq_true rfl) rfl rfl fun A39 bD=>?_);have hl:=bD.keep _ _ bp lZ;have cc:=an lw V e7 bD.n bD.keep;refine l4 _ _<|.q Z (ae Z)<|.nil<|lY _ _<|.seq fun _ m1=>.region<|.q Z (aq eR ew Z Z hl Z)<|.l Z (fun _ _ l6 _=>au Z (Rj _ _ _ _ _ _ A39 (hPl.le cc)) ?_);rintro ok A48 ⟨mV,rfl,bl,bL,g1⟩;have hm:=bl.get _ _ hl;have hn:=bl.get _ _ bD.get;have eX:=cc.trans bl;have hA:=g1.base cc;refine l6 _ _<|.q Z (ah Z)<|.q Z (bh Z Z)<|.q Z (bh Z Z)<|.l Z (fun _ _ l7 _=>cg bL sy rfl fun A60 nV ap=>?_);have br:=ne_new bL hm ap.lo;have bv:=ne_new bL hn ap.lo;have e9:=aU V (Nat.le_trans eX.n ap.lo);have m2:=ap.le.get _ _ hm;have m3:=ap.le.get _ _ hn;have hB:=hA.le ap.le;have lB:=eX.trans ap.le;refine l7 _ _ ?_;obtain ⟨hv,ht,hj,mv,_⟩:=hB.own.slice;subst mv;refine Ops.l Z (fun _ _ l9 _=>aQ (cs:=[aX ([97]),num ((1:Nat):Int),.slice hv ht hj]) (c':=[aX ([97]),num ((1:Nat):Int),.slice hv ht hj]) ap.wf rfl rfl rfl rfl d6 ap.get (Nat.le_of_ble_eq_true rfl) rfl rfl fun A71 b0=>?_);have ho:=b0.keep _ _ br m2;have m6:=b0.keep _ _ bv m3;have ch:=an lB V e9 b0.n b0.keep;refine l9 _ _<|.q Z (ae Z)<|.nil<|m1 _ _<|.seq fun _ mb=>.region<|.q Z (aq eR ew Z Z ho Z)<|.l Z (fun _ _ lb _=>au Z (Rk _ _ _ _ _ _ A71 (hPl.le ch)) ?_);rintro ov A82 ⟨mX,rfl,aP,aR,g2⟩;have hp:=aP.get _ _ ho;have hq:=aP.get _ _ m6;have hr:=aP.get _ _ b0.get;have eY:=ch.trans aP;have hC:=g2.base ch;refine lb _ _<|.q Z (ah Z)<|.q Z (bh Z Z)<|.q Z (bh Z Z)<|.l Z (fun _ _ lp _=>cg aR sy rfl fun A98 o1 a9=>?_);have bu:=ne_new aR hp a9.lo;have bA:=ne_new aR hq a9.lo;have bB:=ne_new aR hr a9.lo;have ea:=aU V (Nat.le_trans eY.n a9.lo);have hD:=a9.le.get _ _ hp;have hE:=a9.le.get _ _ hq;have hF:=a9.le.get _ _ hr;have fo:=hC.le a9.le;have gS:=eY.trans a9.le;refine lp _ _ ?_;obtain ⟨f0,eT,e5,lP,_⟩:=fo.own.slice;subst lP;refine Ops.l Z (fun _ _ g3 _=>aQ (cs:=[aX ([97,97,98,98]),num ((3:Nat):Int),.slice f0 eT e5]) (c':=[aX ([97,97,98,98]),num ((3:Nat):Int),.slice f0 eT e5]) a9.wf rfl rfl rfl rfl d6 a9.get (Nat.le_of_ble_eq_true rfl) rfl rfl fun A112 aA=>?_);have ec:=aA.keep _ _ bu hD;have hG:=aA.keep _ _ bA hE;have hH:=aA.keep _ _ bB hF;have d2:=an gS V ea aA.n aA.keep;refine g3 _ _<|.q Z (ae Z)<|.nil<|mb _ _<|.seq fun _ hI=>.region<|.q Z (aq eR ew Z Z ec Z)<|.l Z (fun _ _ g4 _=>au Z (Ny _ _ _ _ _ _ A112 (hPl.le d2)) ?_);rintro nC A125 ⟨rfl,av,ay⟩;have eg:=av.get _ _ ec;have en:=av.get _ _ hG;have ev:=av.get _ _ hH;have ex:=av.get _ _ aA.get;have d3:=d2.trans av;refine g4 _ _<|.q Z (ah Z)<|.q Z (bh Z Z)<|.q Z (bh Z Z)<|.q Z (bh Z Z)<|.l Z (fun _ _ g5 _=>cg ay zG rfl fun A137 nn a1=>?_);have b6:=ne_new ay eg a1.lo;have b9:=ne_new ay en a1.lo;have ba:=ne_new ay ev a1.lo;have bb:=ne_new ay ex a1.lo;have dL:=aU V (Nat.le_trans d3.n a1.lo);have hJ:=a1.le.get _ _ eg;have hK:=a1.le.get _ _ en;have hN:=a1.le.get _ _ ev;have hO:=a1.le.get _ _ ex;have gX:=d3.trans a1.le;refine g5 _ _<|.q Z (ae Z)<|.l Z (fun _ _ g6 _=>aQ (cs:=[num ((0:Nat):Int),num ((0:Nat):Int),aX ([]),aX ([]),aX ([])]) (c':=[num ((0:Nat):Int),num ((0:Nat):Int),aX ([]),aX ([]),aX ([])]) a1.wf rfl rfl rfl rfl jM a1.get (Nat.le_of_ble_eq_true rfl) rfl rfl fun A151 ar=>?_);have ey:=ar.keep _ _ b6 hJ;have hP:=ar.keep _ _ b9 hK;have hQ:=ar.keep _ _ ba hN;have hR:=ar.keep _ _ bb hO;have dd:=an gX V dL ar.n ar.keep;refine g6 _ _<|.q Z (ae Z)<|.nil<|hI _ _<|.seq fun _ hS=>.region<|.q Z (aq eR ew Z Z ey Z)<|.l Z (fun _ _ g7 _=>au Z (Nx _ _ _ _ _ _ A151 (hPl.le dd)) ?_);rintro nD A165 ⟨rfl,ad,mx⟩;have ez:=ad.get _ _ ey;have hT:=ad.get _ _ hP;have hU:=ad.get _ _ hQ;have hV:=ad.get _ _ hR;have hW:=ad.get _ _ ar.get;have di:=dd.trans ad;refine g7 _ _<|.q Z (ah Z)<|.q Z (bh Z Z)<|.q Z (bh Z Z)<|.q Z (ae Z)<|.q Z (ae Z)<|.nil<|hS _ _<|.seq fun _ hX=>.seq fun _ hY=>?_;refine am.region ?_;skip;refine Ops.q Z (aq eR ew Z Z ez Z)<|.l Z (fun _ _ g8 _=>au Z (Ta _ _ _ _ _ _ A165 (hPl.le di)) ?_);rintro nE A182 ⟨rfl,ag,mB⟩;have eA:=ag.get _ _ ez;have bS:=ag.get _ _ hT;have bT:=ag.get _ _ hU;have bU:=ag.get _ _ hV;have hZ:=ag.get _ _ hW;have dj:=di.trans ag;refine g8 _ _<|.q Z (((fh (a:=0) (b:=0) Z Z).trans (congrArg (fun z=>some (Value.bool z,[])) (decide_eq_false (fun q=>q Z)))))<|.q Z (ah Z)<|.on Z Z<|.q Z (ah Z)<|.on Z Z<|.q Z (((fh (a:=0) (b:=0) Z Z).trans (congrArg (fun z=>some (Value.bool z,[])) (decide_eq_false (fun q=>q Z)))))<|.q Z (aW Z Z)<|.q Z (ah Z)<|.on Z Z ?_;refine Ops.q Z (ah Z)<|.on Z Z<|.q Z (((fh (a:=0) (b:=0) Z Z).trans (congrArg (fun z=>some (Value.bool z,[])) (decide_eq_false (fun q=>q Z)))))<|.q Z (aW Z Z)<|.q Z (ah Z)<|.on Z Z<|.q Z (ah Z)<|.on Z Z<|.q Z (((fh (a:=0) (b:=0) Z Z).trans (congrArg (fun z=>some (Value.bool z,[])) (decide_eq_false (fun q=>q Z)))))<|.q Z (aW Z Z) ?_;refine Ops.q Z (ah Z)<|.on Z Z<|.q Z (ah Z)<|.on Z Z<|.q Z (((fh (a:=0) (b:=0) Z Z).trans (congrArg (fun z=>some (Value.bool z,[])) (decide_eq_false (fun q=>q Z)))))<|.q Z (aW Z Z)<|.q Z (ah Z)<|.on Z Z<|.q Z (ah Z)<|.on Z Z ?_;refine Ops.q Z (((fh (a:=0) (b:=0) Z Z).trans (congrArg (fun z=>some (Value.bool z,[])) (decide_eq_false (fun q=>q Z)))))<|.q Z (aW Z Z)<|.q Z (ah Z)<|.on Z Z<|.q Z (aj jW fc U Z)<|.on Z Z<|.q Z (ak fP Z Z bS Z)<|.on Z Z<|.q Z (((py Z Z).trans (congrArg (fun z=>some (Value.bool z,[])) (decide_eq_false (fun q=>q Z)))))<|.q Z (aW Z Z) ?_;refine Ops.q Z (ah Z)<|.on Z Z<|.q Z (aj lG c5 U Z)<|.on Z Z<|.q Z (ak eM Z Z bS Z)<|.on Z Z<|.q Z (((fh (a:=4) (b:=4) Z Z).trans (congrArg (fun z=>some (Value.bool z,[])) (decide_eq_false (fun q=>q Z)))))<|.q Z (aW Z Z)<|.q Z (ah Z)<|.on Z Z ?_;refine Ops.q Z (aj jW fc U Z)<|.on Z Z<|.q Z (ak fP Z Z bT Z)<|.on Z Z<|.q Z (((py Z Z).trans (congrArg (fun z=>some (Value.bool z,[])) (decide_eq_false (fun q=>q Z)))))<|.q Z (aW Z Z)<|.q Z (ah Z)<|.on Z Z<|.q Z (aj lG c5 U Z)<|.on Z Z ?_;refine Ops.q Z (ak eM Z Z bT Z)<|.on Z Z<|.q Z (((fh (a:=1) (b:=1) Z Z).trans (congrArg (fun z=>some (Value.bool z,[])) (decide_eq_false (fun q=>q Z)))))<|.q Z (aW Z Z)<|.q Z (ah Z)<|.on Z Z<|.q Z (aj jW fc U Z)<|.on Z Z<|.q Z (ak fP Z Z bU Z)<|.on Z Z ?_;refine Ops.q Z (((py Z Z).trans (congrArg (fun z=>some (Value.bool z,[])) (decide_eq_false (fun q=>q Z)))))<|.q Z (aW Z Z)<|.q Z (ah Z)<|.on Z Z<|.q Z (aj lG c5 U Z)<|.on Z Z<|.q Z (ak eM Z Z bU Z)<|.on Z Z<|.q Z (((fh (a:=3) (b:=3) Z Z).trans (congrArg (fun z=>some (Value.bool z,[])) (decide_eq_false (fun q=>q Z)))))<|.q Z (aW Z Z) ?_;refine Ops.q Z (ah Z)<|.on Z Z<|.q Z (ah Z)<|.on Z Z<|.q Z (eu Z)<|.q Z (aW Z Z)<|.q Z (ah Z)<|.on Z Z<|.q Z (ah Z)<|.on Z Z ?_;refine Ops.q Z (eu Z)<|.q Z (aW Z Z)<|.q Z (ah Z)<|.on Z Z<|.q Z (aq eR ew Z Z eA Z)<|.on Z Z<|.l Z (fun _ _ g9 _=>au Z (NH _ _ _ _ _ _ A182 (hPl.le dj)) ?_);rintro nH A195 ⟨rfl,ai,mE⟩;have bV:=ai.get _ _ eA;have i1:=ai.get _ _ bS;have i2:=ai.get _ _ bT;have ih:=ai.get _ _ bU;have ir:=ai.get _ _ hZ;have aa:=dj.trans ai;refine g9 _ _<|.on Z Z<|.q Z (eu Z)<|.q Z (aW Z Z)<|.nil<|hY _ _<|.cond_false Z<|.skip<|hX _ _<|.seq fun _ it=>?_;refine am.region<|.q Z (aq eR ew Z Z bV Z)<|.l Z (fun _ _ gc _=>au Z (S7 _ _ _ _ _ _ A195 (hPl.le aa)) ?_);rintro nJ A210 ⟨lW,lX,dZ,rfl,bM,az,b3,b5,a6,dS,dV,dW⟩;have eC:=bM.get _ _ bV;have dk:=aa.trans bM;have xa:=b3;have xv:=b5;have xf:=a6;have o2:=dS;have o3:=dV;have oi:=dW;have n2:=a6.ne bV;have n3:=a6.ne i1;have n4:=a6.ne i2;have n6:=a6.ne ih;have n7:=a6.ne ir;refine gc _ _<|.q Z (ah Z)<|.q Z (bh Z Z)<|.q Z (bh Z Z)<|.l Z (fun _ _ ge _=>cg az Kj rfl fun A238 nq a2=>?_);have b7:=ne_new az eC a2.lo;have hd:=(b3.base aa).own.ne_new az a2.lo;have he:=(b5.base aa).own.ne_new az a2.lo;have hf:=(a6.base aa).ne_new az a2.lo;have dM:=aU V (Nat.le_trans dk.n a2.lo);have iv:=a2.le.get _ _ eC;have d0:=(b3.base aa).le a2.le;have d1:=(b5.base aa).le a2.le;have f7:=(a6.base aa).le a2.le;have gY:=dk.trans a2.le;refine ge _ _ ?_;obtain ⟨ck,c3,bP,lT,_⟩:=d0.own.slice;subst lT;obtain ⟨cv,c4,bR,lV,_⟩:=d1.own.slice;subst lV;refine Ops.l Z (fun _ _ gf _=>aQ (cs:=[num ((4:Nat):Int),num ((0:Nat):Int),.slice ck c3 bP,.slice cv c4 bR]) (c':=[num ((4:Nat):Int),num ((0:Nat):Int),.slice ck c3 bP,.slice cv c4 bR]) a2.wf rfl rfl rfl rfl j9 a2.get (Nat.le_of_ble_eq_true rfl) rfl rfl fun A261 a8=>?_);have iD:=a8.keep _ _ b7 iv;have fq:=d0.keep a8.keep hd;have ft:=d1.keep a8.keep he;have cA:=f7.keep a8.keep hf;have gZ:=an gY V dM a8.n a8.keep;refine gf _ _<|.q Z (ae Z)<|.nil<|it _ _<|.seq fun _ iF=>.seq fun _ iH=>.region<|.q Z (ah Z)<|.q Z (((fh (a:=0) (b:=0) Z Z).trans (congrArg (fun z=>some (Value.bool z,[])) (decide_eq_false (fun q=>q Z)))))<|.q Z (ah Z) ?_;refine Ops.on Z Z<|.q Z (aq qx j9 Z Z a8.get Z)<|.on Z Z<|.l Z (fun _ _ gg _=>aN (c:=[.bool (true),.bool (true),.bool (true),.bool (true),.bool (true)]) a8.wf rfl (aw lS mc z4 rfl U U rfl) fun A281 hw a7=>?_);have n9:=cA.ne_new a8.wf a7.lo;have iN:=a7.le.get _ _ iD;have fv:=fq.le a7.le;have fD:=ft.le a7.le;have cC:=cA.le a7.le;have h0:=gZ.trans a7.le;refine gg _ _<|.on Z Z<|.l Z (fun _ _ gl _=>aN (c:=[num ((1:Nat):Int),num ((2:Nat):Int),num ((3:Nat):Int),num ((4:Nat):Int)]) a7.wf rfl (aw ep c5 z3 rfl U U rfl) fun A304 e0 a5=>?_);have nb:=cC.ne_new a7.wf a5.lo;have iR:=a5.le.get _ _ iN;have iS:=a5.le.get _ _ a7.get;have fE:=fv.le a5.le;have fI:=fD.le a5.le;have cH:=cC.le a5.le;have h1:=h0.trans a5.le;refine gl _ _<|.on Z Z<|.l Z (fun _ _ gm _=>aN (c:=[num ((1:Nat):Int),num (-1),num ((3:Nat):Int),num ((4:Nat):Int)]) a5.wf rfl (aw ep c5 z3 rfl U U rfl) fun A328 e1 a4=>?_);have nc:=cH.ne_new a5.wf a4.lo;have iT:=a4.le.get _ _ iR;have iV:=a4.le.get _ _ iS;have iX:=a4.le.get _ _ a5.get;have fL:=fE.le a4.le;have fM:=fI.le a4.le;have cK:=cH.le a4.le;have h3:=h1.trans a4.le;refine gm _ _<|.on Z Z<|.l Z (fun _ _ gp _=>aN (c:=[num (-1),num ((2:Nat):Int),num ((3:Nat):Int),num ((4:Nat):Int)]) a4.wf rfl (aw ep c5 z3 rfl U U rfl) fun A353 e2 a3=>?_);have nd:=cK.ne_new a4.wf a3.lo;have j1:=a3.le.get _ _ iT;have j2:=a3.le.get _ _ iV;have j3:=a3.le.get _ _ iX;have j4:=a3.le.get _ _ a4.get;have fN:=fL.le a3.le;have fO:=fM.le a3.le;have cP:=cK.le a3.le;have h5:=h3.trans a3.le;refine gp _ _<|.on Z Z<|.l Z (fun _ _ gq _=>aN (c:=[num (-1),num (-1),num ((3:Nat):Int),num (-1)]) a3.wf rfl (aw ep c5 z3 rfl U U rfl) fun A379 e3 X=>?_);have nj:=cP.ne_new a3.wf X.lo;have jX:=X.le.get _ _ j1;have k0:=X.le.get _ _ j2;have k1:=X.le.get _ _ j3;have k2:=X.le.get _ _ j4;have k3:=X.le.get _ _ a3.get;have fQ:=fN.le X.le;have fR:=fO.le X.le;have cS:=cP.le X.le;have h6:=h5.trans X.le;refine gq _ _<|.on Z Z<|.l Z (fun _ _ gs _=>aN (c:=[num (-1),num (-1),num (-1),num ((4:Nat):Int)]) X.wf rfl (aw ep c5 z3 rfl U U rfl) fun A406 e4 D=>?_);have nk:=cS.ne_new X.wf D.lo;have k4:=D.le.get _ _ jX;have k6:=D.le.get _ _ k0;have k7:=D.le.get _ _ k1;have k9:=D.le.get _ _ k2;have ka:=D.le.get _ _ k3;have kc:=D.le.get _ _ X.get;have fS:=fQ.le D.le;have fT:=fR.le D.le;have cV:=cS.le D.le;have h7:=h6.trans D.le;refine gs _ _<|.on Z Z<|.l Z (fun _ _ gA _=>aN (c:=[.slice (some ⟨e0,0,none⟩) 4 4,.slice (some ⟨e1,0,none⟩) 4 4,.slice (some ⟨e2,0,none⟩) 4 4,.slice (some ⟨e3,0,none⟩) 4 4,.slice (some ⟨e4,0,none⟩) 4 4]) D.wf rfl (aw oe fF Kw rfl U U rfl) fun A434 hx a0=>?_);have nl:=cV.ne_new D.wf a0.lo;have kk:=a0.le.get _ _ k4;have kl:=a0.le.get _ _ k6;have km:=a0.le.get _ _ k7;have kp:=a0.le.get _ _ k9;have kv:=a0.le.get _ _ ka;have kA:=a0.le.get _ _ kc;have kC:=a0.le.get _ _ D.get;have fV:=fS.le a0.le;have fX:=fT.le a0.le;have bd:=cV.le a0.le;have h8:=h7.trans a0.le;refine gA _ _<|.on Z Z<|.q Z (cU Z (bn UY Kj ML Z))<|.on Z Z<|.l Z (fun _ _ gC _=>au Z ((NP 4 0 4 0 (.slice ck c3 bP) (.slice cv c4 bR) (.slice (some ⟨hw,0,none⟩) 5 5) (.slice (some ⟨hx,0,none⟩) 5 5) [true,true,true,true,true] [true,true,true,true,true] [[1,2,3,4],[1,-1,3,4],[-1,2,3,4],[-1,-1,3,-1],[-1,-1,-1,4]] [[1,2,3,4],[1,-1,3,4],[-1,2,3,4],[-1,-1,3,-1],[-1,-1,-1,4]] dZ [Value.slice (some ⟨e0,0,none⟩) 4 4,Value.slice (some ⟨e1,0,none⟩) 4 4,Value.slice (some ⟨e2,0,none⟩) 4 4,Value.slice (some ⟨e3,0,none⟩) 4 4,Value.slice (some ⟨e4,0,none⟩) 4 4] A434 U U U fV.slc fX.slc bd.len (fun i hi=>(bd.fr i hi).slc) (eB (n:=5) kl rfl (Nat.le_refl _)) (eB (n:=5) a0.get rfl (Nat.le_refl _)) rfl (fun i hi=>match i,hi with | 0,_=>eB (n:=4) km rfl (Nat.le_refl _) | 1,_=>eB (n:=4) kp rfl (Nat.le_refl _) | 2,_=>eB (n:=4) kv rfl (Nat.le_refl _) | 3,_=>eB (n:=4) kA rfl (Nat.le_refl _) | 4,_=>eB (n:=4) kC rfl (Nat.le_refl _))).mono (fun v A1 h=>by rw [decide_eq_true U] at h;exact h)) ?_);rintro nK A463 ⟨rfl,aT,b1⟩;have bY:=aT.get _ _ kk;have cX:=bd.le aT;have dl:=h8.trans aT;refine gC _ _<|.on Z Z<|.q Z (eu Z)<|.q Z (aW Z Z)<|.nil<|iH _ _<|.cond_false Z<|.skip<|iF _ _<|.seq fun _ kD=>?_;refine am.region<|.q Z (aq eR ew Z Z bY Z)<|.l Z (fun _ _ gD _=>cg b1 Ve rfl fun A489 nv ab=>?_);have aC:=ne_new b1 bY ab.lo;have dJ:=cX.ne_new b1 ab.lo;have bc:=aU V (Nat.le_trans dl.n ab.lo);have kK:=ab.le.get _ _ bY;have f9:=cX.le ab.le;have h9:=dl.trans ab.le;refine gD _ _<|.l Z (fun _ _ gE _=>aQ (cs:=[num ((2:Nat):Int),.slice (some ⟨aS,0,none⟩) 1 1,.slice (some ⟨aI,0,none⟩) 4 4]) (c':=[num ((2:Nat):Int),.slice (some ⟨aS,0,none⟩) 1 1,.slice (some ⟨aI,0,none⟩) 4 4]) ab.wf rfl rfl rfl rfl ew ab.get (Nat.le_of_ble_eq_true rfl) rfl rfl fun A518 aB=>?_);have eG:=aB.keep _ _ aC kK;have fd:=f9.keep aB.keep dJ;have ha:=an h9 V bc aB.n aB.keep;refine gE _ _<|.nil<|kD _ _<|.seq fun _ kL=>.region<|.q Z (aj er jJ U Z)<|.q Z (ak jR Z Z eG Z)<|.q Z (i5 (j:=1) qq ij Z Z O)<|.q Z (aj er jJ U Z)<|.l Z (fun _ _ gF _=>aQ (cs:=[.slice (some ⟨aI,0,none⟩) 1 4]) (c':=[num ((2:Nat):Int),.slice (some ⟨aS,0,none⟩) 1 1,.slice (some ⟨aI,0,none⟩) 1 4]) aB.wf rfl rfl rfl rfl jJ aB.get (Nat.le_of_ble_eq_true rfl) rfl rfl fun A543 aF=>?_);have kM:=aF.keep _ _ aC eG;have fe:=fd.keep aF.keep dJ;have dm:=an ha V bc aF.n aF.keep;refine gF _ _<|.nil<|kL _ _<|.seq fun _ kP=>.region<|.q Z (aq eR ew Z Z aF.get Z)<|.l Z (fun _ _ gG _=>au Z (JF _ _ _ _ _ _ A543 (hPl.le dm)) ?_);rintro nL A569 ⟨rfl,aV,b2⟩;have eL:=aV.get _ _ kM;have cZ:=fe.le aV;have dv:=dm.trans aV;refine gG _ _<|.q Z (ah Z)<|.q Z (bh Z Z)<|.q Z (bh Z Z)<|.q Z (bh Z Z)<|.l Z (fun _ _ gL _=>cg b2 zG rfl fun A594 nB ac=>?_);have b8:=ne_new b2 eL ac.lo;have hg:=cZ.ne_new b2 ac.lo;have dO:=aU V (Nat.le_trans dv.n ac.lo);have kT:=ac.le.get _ _ eL;have fi:=cZ.le ac.le;have hb:=dv.trans ac.le;refine gL _ _<|.q Z (ae Z)<|.l Z (fun _ _ gM _=>aQ (cs:=[num (0),num (-1),aX ([98,97,65]),aX ([97,98,65]),aX ([98])]) (c':=[num (0),num (-1),aX ([98,97,65]),aX ([97,98,65]),aX ([98])]) ac.wf rfl rfl rfl rfl jM ac.get (Nat.le_of_ble_eq_true rfl) rfl rfl fun A624 aG=>?_);have eN:=aG.keep _ _ b8 kT;have fl:=fi.keep aG.keep hg;have dw:=an hb V dO aG.n aG.keep;refine gM _ _<|.q Z (ae Z)<|.nil<|kP _ _<|.seq fun _ kV=>.region<|.q Z (ah Z)<|.q Z (((ku (a:=0) (b:=0) Z Z).trans (congrArg (fun z=>some (Value.bool z,[])) (decide_eq_true Z))))<|.q Z (ah Z)<|.on Z Z ?_;refine Ops.q Z (ah Z)<|.on Z Z<|.q Z (eu Z)<|.q Z (aM Z Z)<|.q Z (ah Z)<|.on Z Z<|.q Z (aq uh jM Z Z aG.get Z)<|.on Z Z<|.q Z (cU Z (bn TH zG D6 Z))<|.on Z Z ?_;refine Ops.q Z (Vo Z Z (fun _ _ q=>by cases q) (fun _ q=>by cases q) PO)<|.q Z (aM Z Z)<|.q Z (ah Z)<|.on Z Z<|.q Z (aq eR ew Z Z eN Z)<|.on Z Z<|.l Z (fun _ _ gN _=>au Z (Re _ _ _ _ _ _ A624 (hPl.le dw)) ?_);rintro nM A651 ⟨rfl,aY,mK⟩;have eQ:=aY.get _ _ eN;have fm:=fl.le aY;have dz:=dw.trans aY;refine gN _ _<|.q Z (aM Z Z)<|.q Z (ah Z)<|.on Z Z<|.q Z (aq eR ew Z Z eQ Z)<|.on Z Z<|.l Z (fun _ _ gP _=>au Z (Rg _ _ _ _ _ _ A651 (hPl.le dz)) ?_);rintro nN A677 ⟨rfl,aZ,mM⟩;have eS:=aZ.get _ _ eQ;have fn:=fm.le aZ;have dD:=dz.trans aZ;refine gP _ _<|.on Z Z<|.q Z (eu Z)<|.q Z (aM Z Z)<|.q Z (ah Z)<|.on Z Z<|.q Z (aq eR ew Z Z eS Z)<|.on Z Z<|.q Z (aq eR ew Z Z eS Z)<|.on Z Z ?_;refine Ops.l Z (fun _ _ gQ _=>au Z (Rm _ _ _ _ _ _ A677 (hPl.le dD)) ?_);rintro nO A703 ⟨rfl,bO,f4⟩;have n1:=fn.le bO;have hc:=dD.trans bO;refine gQ _ _<|.q Z (aM Z Z)<|.q Z (ae Z)<|.nil<|kV _ _<|.rt (by exact aJ Z (⟨Z,leA.trans hc,f4⟩))
end Go.Proofs.YtjppkekmddjcfaaGreatDoor

namespace Go.Proofs.YtjppkekmddjcfaaGreatDoor
open Go Go.RowKit V
def dH (held:List (Nat × eK)) (A:AH):Prop:=∀ p ∈ held,∀ q ∈ p.2,A.cell q.1=some q.2
theorem dH.now {ops:Array Oper} {held:List (Nat × eK)} {i:Nat} {A:AH} (h:dH held A):be ops held i A:=be.of fun p hp _ q hq=>h p hp q hq
theorem dH.nil {A:AH}:dH [] A:=fun _ h=>by cases h
theorem dH.cons {held:List (Nat × eK)} {i:Nat} {T:eK} {A:AH} (h:∀ q ∈ T,A.cell q.1=some q.2) (h2:dH held A):dH ((i,T) :: held) A:=fun p hp=>(List.mem_cons.1 hp).elim (fun q=>q ▸ h) (h2 p)
theorem dH.filter {held:List (Nat × eK)} {f:Nat × eK->Bool} {A:AH} (h:dH held A):dH (held.filter f) A:=fun p hp=>h p (List.mem_filter.1 hp).1
def pM (r:bf):Bool:=decide (r.left.length<=40) && decide (r.right.length<=40) && decide (r.proof.length<=60) && r.proof.all fun c=>decide (c.conj.length<=200)
def iC (l:List Wd) (rs:List bf):Bool:=decide (rs.length<=30) && decide (l.length<=10) && l.all (fun w=>decide (w.length<=60)) && rs.all pM
section
variable {l:List Wd} {rs:List bf} {i j:Nat} {r:bf}
theorem kE:pM r=true ↔ r.left.length<=40/\r.right.length<=40/\r.proof.length<=60/\∀ c ∈ r.proof,c.conj.length<=200:=by
  simp only [pM,Bool.and_eq_true,decide_eq_true_eq,List.all_eq_true,and_assoc]
theorem gI:iC l rs=true ↔ rs.length<=30/\l.length<=10/\(∀ w ∈ l,w.length<=60)/\∀ r ∈ rs,pM r=true:=by
  simp only [iC,Bool.and_eq_true,decide_eq_true_eq,List.all_eq_true,and_assoc]
theorem pN {P:Prop} (h:iC l rs=true->False):iC l rs=false:=by
  cases q:iC l rs with
  | false=>rfl
  | true=>exact (h q).elim
theorem mq (h:30 < rs.length):iC l rs=false:=pN (P:=True) fun q=>by have:=(gI.1 q).1;omega
theorem mr (h:10 < l.length):iC l rs=false:=pN (P:=True) fun q=>by have:=(gI.1 q).2.1;omega
theorem ms (hi:i < l.length) (h:60 < (l.getD i []).length):iC l rs=false:=pN (P:=True) fun q=>by have:=(gI.1 q).2.2.1 _ (bw (d:=([]:Wd)) hi);omega
theorem mu (hi:i < rs.length) (h:40 < (rs.getD i .zero).left.length\/40 < (rs.getD i .zero).right.length\/60 < (rs.getD i .zero).proof.length):iC l rs=false:=pN (P:=True) fun q=>by
  have:=kE.1 ((gI.1 q).2.2.2 _ (bw (d:=.zero) hi));omega
theorem mw (hi:i < rs.length) (hj:j < (rs.getD i .zero).proof.length) (h:200 < ((rs.getD i .zero).proof.getD j .zero).conj.length):iC l rs=false:=pN (P:=True) fun q=>by
  have:=(kE.1 ((gI.1 q).2.2.2 _ (bw (d:=.zero) hi))).2.2.2 _ (bw (d:=bI.zero) hj);omega
theorem uX {α:Type} {p:α->Prop} {l:List α} {d:α} (hi:l.length<=i) (h:∀ j,j < i->p (l.getD j d)):∀ x ∈ l,p x:=fun x hx=>by
  obtain ⟨j,hj,rfl⟩:=List.getElem_of_mem hx
  have:=h j O
  rwa [gd hj] at this
theorem jp (h1:rs.length<=30) (h2:l.length<=10) (hi:l.length<=i) (h3:∀ j,j < i->(l.getD j []).length<=60) (hj:rs.length<=j) (h4:∀ k,k < j->pM (rs.getD k .zero)=true):iC l rs=true :=
  gI.2 ⟨h1,h2,uX (p:=fun w=>w.length<=60) hi h3,uX (p:=fun r=>pM r=true) hj h4⟩
theorem EB (h1:¬ 40 < r.left.length) (h2:¬ 40 < r.right.length) (h3:¬ 60 < r.proof.length) (hj:r.proof.length<=j) (h4:∀ k,k < j->(r.proof.getD k .zero).conj.length<=200):pM r=true :=
  kE.2 ⟨by omega,by omega,by omega,uX (p:=fun c=>c.conj.length<=200) hj h4⟩
theorem IG {k:Nat} {d:List bI} (h:∀ c ∈ d,c.conj.length<=k):cz d<=k * d.length:=by
  induction d with
  | nil=>simp [cz]
  | cons a d ih =>
    rw [qZ,List.length_cons,Nat.mul_succ]
    have h1:=h a List.mem_cons_self
    have h2:=ih fun c hc=>h c (List.mem_cons_of_mem _ hc)
    omega
theorem J7 (h:iC l rs=true):Va l rs:=by
  obtain ⟨h1,h2,h3,h4⟩:=gI.1 h
  refine ⟨by omega,fun x hx=>by have:=h3 x hx;omega,by omega,fun r hr=>?_⟩
  have h5:=kE.1 (h4 r hr)
  have h6:=IG h5.2.2.2
  have h7:cz r.proof<=200 * 60:=Nat.le_trans h6 (Nat.mul_le_mul_left _ h5.2.2.1)
  omega
theorem ED (h:iC l rs=true):l.length<=10/\rs.length<=30/\∀ r ∈ rs,r.proof.length<=60:=by
  obtain ⟨h1,h2,h3,h4⟩:=gI.1 h
  exact ⟨h2,h1,fun r hr=>(kE.1 (h4 r hr)).2.2.1⟩
end
end Go.Proofs.YtjppkekmddjcfaaGreatDoor

namespace Go.Proofs.YtjppkekmddjcfaaGreatDoor
open Go Go.RowKit V
set_option maxRecDepth 100000


theorem RA (g:Int) (u:Value) (l:List (List UInt8)) (rv:Value) (rs:List bf) (A:AH) (hu:bK A 1 u (d5 l)) (hr:bK A 3 rv (c9 rs)) (hp:Proofs A rs):bH Tryz.prog 11 #[.agg #[num (g),u,rv]] A (fun v A1=>v=.bool (iC l rs)/\A.le A1/\A1.wf):=by
 refine ia Tryz.call11 Tryz.func11 Z Tryz.results11 Tryz.ntmps11 Z (fun wf=>?_);have bU:=AH.le.refl A;refine am.seq fun _ h2=>.region<|.l Z (fun _ _ ai _=>dQ wf rfl rfl fun A5 b4 ab=>?_);have ac:=bU.trans ab.le;refine ai _ _<|.q Z (ae Z)<|.nil<|h2 _ _<|.seq fun _ h9=>.seq fun _ ay=>.region<|.q Z (aj er jJ U Z)<|.q Z (ak jR Z Z ab.get Z)<|.q Z (bF (n:=rs.length) qq Z (hr.le ac) O (dR _)) ?_;refine Ops.q Z (dP (b:=30) Z Z)<|.q Z (ah Z)<|.part (t:=11) Z (fun bV=>?_) (fun bV=>?_)
 ·refine Ops.off Z Z Z Z<|.off Z Z Z Z<|.off Z Z Z Z<|.off Z Z Z Z<|.off Z Z Z Z<|.q Z (aM Z Z)<|.nil<|ay _ _<|.cond_true Z<|.seq fun _ aZ=>?_;refine am.region<|.q Z (ae Z)<|.nil<|aZ _ _<|.rt (by exact aJ Z (⟨by first | (rw [mq ‹_›];rfl) | (rw [mr ‹_›];rfl) | (rw [ms (i:=j) O ‹_›];rfl) | (rw [mu (i:=i) O O];rfl) | (rw [mw (i:=i) (j:=m) O O ‹_›];rfl) | (rw [jp a2 a3 O a4 O hc];rfl),ac,ab.wf⟩))
 refine Ops.on Z Z<|.q Z (aj fY gz U Z)<|.on Z Z<|.q Z (aj ii oM U Z)<|.on Z Z<|.q Z (ak oD Z Z ab.get Z)<|.on Z Z<|.q Z (bF (n:=l.length) mO Z (hu.le ac) O (eF _))<|.on Z Z<|.q Z (dP (b:=10) Z Z) ?_;refine Ops.q Z (aW Z Z)<|.nil<|ay _ _<|.if rfl (fun bY=>?_) (fun bY=>?_)
 ·refine am.seq fun _ b0=>.region<|.q Z (ae Z)<|.nil<|b0 _ _<|.rt (by exact aJ Z (⟨by first | (rw [mq ‹_›];rfl) | (rw [mr ‹_›];rfl) | (rw [ms (i:=j) O ‹_›];rfl) | (rw [mu (i:=i) O O];rfl) | (rw [mw (i:=i) (j:=m) O O ‹_›];rfl) | (rw [jp a2 a3 O a4 O hc];rfl),ac,ab.wf⟩))
 refine am.skip<|h9 _ _<|.seq fun _ b1=>.seq fun _ b2=>.region<|.q Z (ae Z)<|.nil<|b2 _ _<|.block<|.loop (X:=Nat) (fun j=>[(1,.pointer (some ⟨b4,0,none⟩)),(3,num ((j:Nat):Int))]) (fun j B=>(j<=l.length/\rs.length<=30/\l.length<=10/\∀ k,k < j->(l.getD k []).length<=60)/\A.le B/\B.get b4=some (.row true [num (g),u,rv] 3)) (fun j=>l.length - j) 0 (jV Z Z) (⟨⟨Nat.zero_le _,by omega,by omega,fun k h=>by omega⟩,ac,ab.get⟩) ?_;rintro j B23 ⟨⟨hj,a2,a3,a4⟩,a6,V⟩;refine am.wf fun aG=>.seq fun _ b3=>.seq fun _ b5=>.region<|.q Z (ah Z)<|.q Z (aj fY gz U Z)<|.q Z (aj ii oM U Z)<|.q Z (ak oD Z Z V Z)<|.q Z (bF (n:=l.length) mO Z (hu.le a6) O (eF _))<|.q Z (cd Z Z) ?_;refine Ops.nil<|b5 _ _<|.if rfl (fun c3=>?_) (fun c3=>?_)
 ·refine am.skip<|b3 _ _<|.seq fun _ b6=>.block<|.seq fun _ b7=>.region<|.q Z (aj fY gz U Z)<|.q Z (aj ii oM U Z)<|.q Z (ak oD Z Z V Z)<|.q Z (ah Z) ?_;obtain ⟨d1,dd,cX,dD,cP,dv,dk,aP,bR,aT,cC,aA⟩:=bK.at (i:=j) (hu.le a6) Or O;refine Ops.q Z (ax mO fc Z aP Z bR)<|.q Z (ak fP Z Z aT ((cT aA).trans (fj O)))<|.q Z (cB u9 Z)<|.q Z (dP (b:=60) Z Z)<|.nil<|b7 _ _<|.if rfl (fun c4=>?_) (fun c4=>?_)
  ·refine am.seq fun _ b8=>.region<|.q Z (ae Z)<|.nil<|b8 _ _<|.rt (by exact aJ Z (⟨by first | (rw [mq ‹_›];rfl) | (rw [mr ‹_›];rfl) | (rw [ms (i:=j) O ‹_›];rfl) | (rw [mu (i:=i) O O];rfl) | (rw [mw (i:=i) (j:=m) O O ‹_›];rfl) | (rw [jp a2 a3 O a4 O hc];rfl),a6,aG⟩))
  refine am.skip<|b6 _ _<|.region<|.q Z (ah Z)<|.q Z (bE (b:=1) Z Z O)<|.q Z (ae Z)<|.nil ?_;exact ⟨j + 1,jV Z Z,Z,⟨⟨by omega,a2,a3,fun k h=>(Nat.lt_succ_iff_lt_or_eq.1 h).elim (a4 k) (fun z=>by subst z;omega)⟩,a6,V⟩,O1⟩
 refine am.exit<|b1 _ _<|.seq fun _ b9=>.seq fun _ ba=>.region<|.q Z (ae Z)<|.nil<|ba _ _<|.block<|.loop (X:=Nat) (fun i=>[(1,.pointer (some ⟨b4,0,none⟩)),(4,num ((i:Nat):Int))]) (fun i B=>(i<=rs.length/\∀ k,k < i->pM (rs.getD k .zero)=true)/\A.le B/\B.get b4=some (.row true [num (g),u,rv] 3)) (fun i=>rs.length - i) 0 (jV Z Z) (⟨⟨Nat.zero_le _,fun k h=>by omega⟩,a6,V⟩) ?_;rintro i B43 ⟨⟨hi,hc⟩,a7,a0⟩;refine am.wf fun ag=>.seq fun _ bb=>.seq fun _ bc=>.region<|.q Z (ah Z)<|.q Z (aj er jJ U Z)<|.q Z (ak jR Z Z a0 Z)<|.q Z (bF (n:=rs.length) qq Z (hr.le a7) O (dR _))<|.q Z (cd Z Z)<|.nil ?_;refine bc _ _<|.if rfl (fun c7=>?_) (fun c7=>?_)
 ·refine am.skip<|bb _ _<|.seq fun _ bd=>.block<|.seq fun _ bl=>.region<|.q Z (aj er jJ U Z)<|.q Z (ak jR Z Z a0 Z)<|.q Z (ah Z) ?_;obtain ⟨d2,di,cZ,dI,cS,dw,dl,aR,bS,aV,az,cK⟩:=bK.at (i:=i) (hr.le a7) OI O;refine Ops.q Z (ax qq ij Z aR Z bS)<|.q Z (aq uj ij Z Z aV (az.trans (congrArg some (iB O))))<|.l Z (fun _ _ aC _=>cg ag Ij rfl fun A57 av a5=>?_);have ad:=ne_new ag a0 a5.lo;have ap:=aU wf (Nat.le_trans a7.n a5.lo);have bm:=a5.le.get _ _ a0;have aF:=a7.trans a5.le;refine aC _ _<|.l Z (fun _ _ aD _=>aQ (cs:=[aX ((rs.getD i .zero).left),aX ((rs.getD i .zero).right),(rs.getD i .zero).pv]) (c':=[aX ((rs.getD i .zero).left),aX ((rs.getD i .zero).right),(rs.getD i .zero).pv]) a5.wf rfl rfl rfl rfl ij a5.get (Nat.le_of_ble_eq_true rfl) (jE (hp.get (show i < rs.length by omega))) rfl fun A62 D=>?_);have bp:=D.keep _ _ ad bm;have a8:=an aF wf ap D.n D.keep;refine aD _ _<|.nil<|bl _ _<|.seq fun _ br=>.seq fun _ ar=>.region<|.q Z (aj fz fc U Z)<|.q Z (ak fP Z Z D.get Z)<|.q Z (cB u9 Z)<|.q Z (dP (b:=40) Z Z) ?_;refine Ops.q Z (ah Z)<|.part (t:=50) Z (fun cc=>?_) (fun cc=>?_)
  ·refine Ops.off Z Z Z Z<|.off Z Z Z Z<|.off Z Z Z Z<|.off Z Z Z Z<|.q Z (aM Z Z)<|.q Z (ah Z)<|.off Z Z Z Z<|.off Z Z Z Z<|.off Z Z Z Z<|.off Z Z Z Z ?_;refine Ops.q Z (aM Z Z)<|.nil<|ar _ _<|.cond_true Z<|.seq fun _ bu=>.region<|.q Z (ae Z)<|.nil<|bu _ _<|.rt (by exact aJ Z (⟨by first | (rw [mq ‹_›];rfl) | (rw [mr ‹_›];rfl) | (rw [ms (i:=j) O ‹_›];rfl) | (rw [mu (i:=i) O O];rfl) | (rw [mw (i:=i) (j:=m) O O ‹_›];rfl) | (rw [jp a2 a3 O a4 O hc];rfl),a8,D.wf⟩))
  refine Ops.on Z Z<|.q Z (aj jY fc U Z)<|.on Z Z<|.q Z (ak fP Z Z D.get Z)<|.on Z Z<|.q Z (cB u9 Z)<|.on Z Z<|.q Z (dP (b:=40) Z Z)<|.q Z (aW Z Z)<|.q Z (ah Z) ?_;refine Ops.part (t:=56) Z (fun ch=>?_) (fun ch=>?_)
  ·refine Ops.off Z Z Z Z<|.off Z Z Z Z<|.off Z Z Z Z<|.off Z Z Z Z<|.q Z (aM Z Z)<|.nil<|ar _ _<|.cond_true Z<|.seq fun _ bv=>.region ?_;refine Ops.q Z (ae Z)<|.nil<|bv _ _<|.rt (by exact aJ Z (⟨by first | (rw [mq ‹_›];rfl) | (rw [mr ‹_›];rfl) | (rw [ms (i:=j) O ‹_›];rfl) | (rw [mu (i:=i) O O];rfl) | (rw [mw (i:=i) (j:=m) O O ‹_›];rfl) | (rw [jp a2 a3 O a4 O hc];rfl),a8,D.wf⟩))
  refine Ops.on Z Z<|.q Z (aj mH kW U Z)<|.on Z Z<|.q Z (ak ns Z Z D.get Z)<|.on Z Z<|.q Z (bF (n:=((rs.getD i .zero).proof).length) mz Z ((hp.get O).le a8) O (c6 _))<|.on Z Z<|.q Z (dP (b:=60) Z Z)<|.q Z (aW Z Z)<|.nil ?_;refine ar _ _<|.if rfl (fun ck=>?_) (fun ck=>?_)
  ·refine am.seq fun _ bA=>.region<|.q Z (ae Z)<|.nil<|bA _ _<|.rt (by exact aJ Z (⟨by first | (rw [mq ‹_›];rfl) | (rw [mr ‹_›];rfl) | (rw [ms (i:=j) O ‹_›];rfl) | (rw [mu (i:=i) O O];rfl) | (rw [mw (i:=i) (j:=m) O O ‹_›];rfl) | (rw [jp a2 a3 O a4 O hc];rfl),a8,D.wf⟩))
  refine am.skip<|br _ _<|.seq fun _ bB=>.region<|.q Z (ae Z)<|.nil<|bB _ _<|.block<|.loop (X:=Nat) (fun m=>[(1,.pointer (some ⟨b4,0,none⟩)),(4,num ((i:Nat):Int)),(5,.pointer (some ⟨av,0,none⟩)),(6,num ((m:Nat):Int))]) (fun m B=>(m<=(rs.getD i .zero).proof.length/\∀ k,k < m->((rs.getD i .zero).proof.getD k .zero).conj.length<=200)/\A.le B/\B.get b4=some (.row true [num (g),u,rv] 3)/\B.get av=some (.row true [aX ((rs.getD i .zero).left),aX ((rs.getD i .zero).right),(rs.getD i .zero).pv] 3)) (fun m=>(rs.getD i .zero).proof.length - m) 0 (lD Z Z Z Z) (⟨⟨Nat.zero_le _,fun k h=>by omega⟩,a8,bp,D.get⟩) ?_;rintro m B82 ⟨⟨hk,ai⟩,a9,aa,a1⟩;refine am.wf fun aI=>.seq fun _ bC=>.seq fun _ bD=>.region<|.q Z (ah Z)<|.q Z (aj mH kW U Z)<|.q Z (ak ns Z Z a1 Z)<|.q Z (bF (n:=((rs.getD i .zero).proof).length) mz Z ((hp.get O).le a9) O (c6 _))<|.q Z (cd Z Z)<|.nil ?_;refine bD _ _<|.if rfl (fun cv=>?_) (fun cv=>?_)
  ·refine am.skip<|bC _ _<|.seq fun _ bL=>.block<|.seq fun _ bM=>.region<|.q Z (aj mH kW U Z)<|.q Z (ak ns Z Z a1 Z)<|.q Z (ah Z) ?_;obtain ⟨d3,dj,d0,dJ,cV,dz,dm,aS,bT,aY,cH,aB⟩:=bK.at (i:=m) ((hp.get O).le a9) Ox O;refine Ops.q Z (ax mz im Z aS Z bT)<|.q Z (aj iO fc U Z)<|.q Z (ak fP Z Z aY ((aB 0 U).trans (pX O)))<|.q Z (cB u9 Z)<|.q Z (dP (b:=200) Z Z)<|.nil<|bM _ _<|.if rfl (fun cA=>?_) (fun cA=>?_)
   ·refine am.seq fun _ bO=>.region<|.q Z (ae Z)<|.nil<|bO _ _<|.rt (by exact aJ Z (⟨by first | (rw [mq ‹_›];rfl) | (rw [mr ‹_›];rfl) | (rw [ms (i:=j) O ‹_›];rfl) | (rw [mu (i:=i) O O];rfl) | (rw [mw (i:=i) (j:=m) O O ‹_›];rfl) | (rw [jp a2 a3 O a4 O hc];rfl),a9,aI⟩))
   refine am.skip<|bL _ _<|.region<|.q Z (ah Z)<|.q Z (bE (b:=1) Z Z O)<|.q Z (ae Z)<|.nil ?_;exact ⟨m + 1,lD Z Z Z Z,Z,⟨⟨by omega,fun k h=>(Nat.lt_succ_iff_lt_or_eq.1 h).elim (ai k) (fun z=>by subst z;omega)⟩,a9,aa,a1⟩,O1⟩
  refine am.exit<|bd _ _<|.region<|.q Z (ah Z)<|.q Z (bE (b:=1) Z Z O)<|.q Z (ae Z)<|.nil ?_;exact ⟨i + 1,jV Z Z,Z,⟨⟨by omega,fun k h=>(Nat.lt_succ_iff_lt_or_eq.1 h).elim (hc k) (fun z=>by subst z;exact EB ‹_› ‹_› ‹_› O ai)⟩,a9,aa⟩,O1⟩
 refine am.exit<|b9 _ _<|.seq fun _ bP=>.region<|.q Z (ae Z)<|.nil<|bP _ _<|.rt (by exact aJ Z (⟨by first | (rw [mq ‹_›];rfl) | (rw [mr ‹_›];rfl) | (rw [ms (i:=j) O ‹_›];rfl) | (rw [mu (i:=i) O O];rfl) | (rw [mw (i:=i) (j:=m) O O ‹_›];rfl) | (rw [jp a2 a3 O a4 O hc];rfl),a7,ag⟩))

end Go.Proofs.YtjppkekmddjcfaaGreatDoor

namespace Go.Proofs.YtjppkekmddjcfaaGreatDoor
open Go Go.RowKit V
namespace Fr
def NC (w:List UInt8):Prop:=∀ i,i + 1 < w.length->w.getD (i + 1) 0 ≠ w.getD i 0 ^^^ 32
theorem li {a b:List UInt8} {i:Nat} (h:i < a.length):(a ++ b).getD i 0=a.getD i 0:=by
  rw [List.getD_eq_getElem?_getD,List.getElem?_append_left h,<- List.getD_eq_getElem?_getD]
theorem rc {a b:List UInt8} {i:Nat} (h:a.length<=i):(a ++ b).getD i 0=b.getD (i - a.length) 0:=by
  rw [List.getD_eq_getElem?_getD,List.getElem?_append_right h,<- List.getD_eq_getElem?_getD]
theorem s7 {a:List UInt8} {i n:Nat} (h:i < n):(a.take n).getD i 0=a.getD i 0:=by
  rw [List.getD_eq_getElem?_getD,List.getElem?_take_of_lt h,<- List.getD_eq_getElem?_getD]
theorem NC.left {a b:List UInt8} (h:NC (a ++ b)):NC a:=fun i hi=>by
  have:=h i (by rw [List.length_append];omega)
  rwa [li O,li O] at this
theorem NC.take {a:List UInt8} (h:NC a) (n:Nat):NC (a.take n):=NC.left (b:=a.drop n) (by rw [List.take_append_drop];exact h)
theorem NC.fold:∀ (w s:List UInt8),NC (s ++ w)->w.foldl push s=s ++ w
  | [],s,_=>by simp
  | c :: w,s,h=>by
    have hp:push s c=s ++ [c]:=by
      unfold push
      rw [if_neg]
      rintro ⟨q1,q2⟩
      have:=h (s.length - 1) Oz
      rw [show s.length - 1 + 1=s.length by omega,rc (Nat.le_refl _),li O,q2,jZ] at this
      simp at this
    rw [List.foldl_cons,hp,NC.fold w (s ++ [c]) (by simpa using h)]
    simp
theorem NC.isRed {w:List UInt8} (h:NC w):ll w=w:=NC.fold w [] (by simpa using h)
theorem NC.pushC {s:List UInt8} (h:NC s) (c:UInt8):NC (push s c):=by
  unfold push
  split
  · exact h.take _
  · rename_i q
    intro i hi
    simp only [List.length_append,List.length_cons,List.length_nil] at hi
    by_cases e:i + 1 < s.length
    · rw [li e,li O];exact h i e
    · have e2:i + 1=s.length:=by omega
      rw [rc O,li O,show i + 1 - s.length=0 by omega]
      have e3:i=s.length - 1:=by omega
      intro r
      refine q ⟨by omega,?_⟩
      rw [<- e3]
      have r:c=s.getD i 0 ^^^ 32:=r
      rw [r,jZ]
theorem NC.ofFold:∀ (w s:List UInt8),NC s->NC (w.foldl push s)
  | [],_,h=>h
  | c :: w,s,h=>NC.ofFold w _ (h.pushC c)
theorem NC.ofRed (w:List UInt8):NC (ll w):=NC.ofFold w [] fun i hi=>by simp at hi
theorem tC {s:List UInt8} {i:Nat} (h:i < s.length):s.take i ++ [s.getD i 0]=s.take (i + 1):=by
  rw [List.take_add_one,List.getElem?_eq_getElem h];simp [h]

theorem xM {s:List UInt8} (h:NC s) (c:UInt8):push (push s (c ^^^ 32)) c=s:=by
  by_cases q:0 < s.length/\s.getD (s.length - 1) 0=c ^^^ 32 ^^^ 32
  · have e:push s (c ^^^ 32)=s.take (s.length - 1):=by rw [push,if_pos q]
    rw [e]
    obtain ⟨q1,q2⟩:=q
    rw [jZ] at q2
    have hne:¬ (0 < (s.take (s.length - 1)).length/\(s.take (s.length - 1)).getD ((s.take (s.length - 1)).length - 1) 0=c ^^^ 32):=by
      rintro ⟨r1,r2⟩
      rw [List.length_take] at r1 r2
      rw [s7 O] at r2
      have:=h (s.length - 2) O
      rw [show s.length - 2 + 1=s.length - 1 by omega,q2] at this
      rw [show min (s.length - 1) s.length - 1=s.length - 2 by omega] at r2
      rw [r2,jZ] at this
      exact this Z
    rw [push,if_neg hne,<- q2]
    have:=tC (s:=s) (i:=s.length - 1) O
    rw [this,show s.length - 1 + 1=s.length by omega,List.take_length]
  · have e:push s (c ^^^ 32)=s ++ [c ^^^ 32]:=by rw [push,if_neg q]
    rw [e,push,if_pos ⟨by simp,by rw [List.length_append,rc (by simp)];simp⟩]
    simp
theorem Jv {s:List UInt8} (h:NC s) (c:UInt8):push (push s c) (c ^^^ 32)=s:=by
  have:=xM h (c ^^^ 32)
  rwa [jZ] at this
theorem LY (c:UInt8) (y:List UInt8):inv (c :: y)=inv y ++ [c ^^^ 32]:=by simp [inv]
theorem Qc (a b:List UInt8):inv (a ++ b)=inv b ++ inv a:=by simp [inv]
theorem Ax:∀ (x s:List UInt8),NC s->(inv x).foldl push (x.foldl push s)=s
  | [],s,_=>rfl
  | c :: y,s,h=>by
    rw [LY,List.foldl_append,show (c :: y).foldl push s=y.foldl push (push s c) from rfl,Ax y _ (h.pushC c)]
    exact Jv h c
theorem vq (s:List UInt8) (hs:NC s):∀ (b t:List UInt8),NC t->(b.foldl push t).foldl push s=b.foldl push (t.foldl push s)
  | [],_,_=>rfl
  | c :: b,t,ht=>by
    rw [List.foldl_cons,List.foldl_cons,vq s hs b _ (ht.pushC c)]
    congr 1
    by_cases q:0 < t.length/\t.getD (t.length - 1) 0=c ^^^ 32
    · have e:push t c=t.take (t.length - 1):=by rw [push,if_pos q]
      have e2:t=t.take (t.length - 1) ++ [c ^^^ 32]:=by
        have:=tC (s:=t) (i:=t.length - 1) O
        rw [q.2,show t.length - 1 + 1=t.length by omega,List.take_length] at this
        exact this.symm
      rw [e]
      conv=>rhs;rw [e2,List.foldl_append]
      exact (xM (NC.ofFold _ _ hs) c).symm
    · have e:push t c=t ++ [c]:=by rw [push,if_neg q]
      rw [e,List.foldl_append];rfl
theorem DQ:NC []:=fun i hi=>by simp at hi
theorem Gy (a:List UInt8):ll (ll a)=ll a:=(NC.ofRed a).isRed
def E (a b:List UInt8):Prop:=ll a=ll b
theorem E.rf (a:List UInt8):E a a:=rfl
theorem E.of {a b:List UInt8} (h:a=b):E a b:=by rw [h];rfl
theorem E.sm {a b:List UInt8} (h:E a b):E b a:=Eq.symm h
theorem E.tr {a b c:List UInt8} (h:E a b) (k:E b c):E a c:=Eq.trans h k
theorem E.ofRed (a:List UInt8):E (ll a) a:=Gy a
theorem Gx (a b:List UInt8):ll (a ++ b)=b.foldl push (ll a):=by simp [ll]
theorem BX (a b:List UInt8):ll (a ++ b)=(ll b).foldl push (ll a):=by
  rw [Gx]
  exact (vq (ll a) (NC.ofRed a) b [] DQ).symm
theorem E.app {a a' b b':List UInt8} (h:E a a') (k:E b b'):E (a ++ b) (a' ++ b'):=by
  unfold E at h k ⊢
  rw [BX,BX,h,k]
theorem E.cancel (x:List UInt8):E (x ++ inv x) []:=by
  show ll (x ++ inv x)=ll []
  rw [Gx]
  exact Ax x [] DQ
theorem E.cancel2 (x:List UInt8):E (inv x ++ x) []:=by
  have:=E.cancel (inv x)
  rwa [I7] at this
theorem E.mid (a x b:List UInt8):E (a ++ x ++ inv x ++ b) (a ++ b):=by
  have:=((E.rf a).app (E.cancel x)).app (E.rf b)
  simpa only [List.append_assoc,List.nil_append] using this
theorem E.mid2 (a x b:List UInt8):E (a ++ inv x ++ x ++ b) (a ++ b):=by
  have:=((E.rf a).app (E.cancel2 x)).app (E.rf b)
  simpa only [List.append_assoc,List.nil_append] using this
theorem E.ofInv {a b:List UInt8} (h:E a b):E (inv a) (inv b):=by
  have h1:E (inv a ++ b ++ inv b) (inv a):=by
    have:=E.mid (inv a) b []
    simpa only [List.append_nil] using this
  have h2:E (inv a ++ b ++ inv b) (inv a ++ a ++ inv b):=((E.rf _).app h.sm).app (E.rf _)
  have h3:E (inv a ++ a ++ inv b) (inv b):=by
    have:=E.mid2 [] a (inv b)
    simpa only [List.nil_append] using this
  exact h1.sm.tr (h2.tr h3)

theorem Jn (g:Int) {c:UInt8} (h:iU g c=true):iU g (c ^^^ 32)=true:=by
  have key:∀ c:UInt8,0<=ix c->0<=ix (c ^^^ 32)/\ix (c ^^^ 32) / 2=ix c / 2:=iM (by decide +kernel)
  simp only [iU,Bool.and_eq_true,decide_eq_true_eq] at h ⊢
  have:=key c h.1
  omega
theorem uu {g:Int} {a b:List UInt8} (h:b.all (iU g)=true) (hs:∀ c ∈ a,c ∈ b):a.all (iU g)=true:=by
  rw [List.all_eq_true] at h ⊢
  exact fun c hc=>h c (hs c hc)
theorem Pw {g:Int} {a:List UInt8} (h:a.all (iU g)=true):(inv a).all (iU g)=true:=by
  rw [List.all_eq_true] at h ⊢
  intro c hc
  simp only [inv,List.mem_reverse,List.mem_map] at hc
  obtain ⟨d,hd,rfl⟩:=hc
  exact Jn g (h d hd)
theorem KO {g:Int} {a:List UInt8} (h:a.all (iU g)=true):(cn a).all (iU g)=true:=by
  unfold cn;split
  · exact uu h QX
  · rfl
theorem yq {g:Int} {a b:List UInt8} (ha:a.all (iU g)=true) (hb:b.all (iU g)=true):(a ++ b).all (iU g)=true:=by
  rw [List.all_append,ha,hb];rfl
theorem ls {g:Int} {w:List UInt8} (h:bG g w=0):(1<=g/\g<=8)/\w.length<=100000/\w.all (iU g)=true:=by
  unfold bG at h
  split at h
  · cases h
  · split at h
    · cases h
    · split at h
      · rename_i h1 h2 h3;exact ⟨by omega,by omega,h3⟩
      · cases h
theorem ry {g:Int} {w:List UInt8} (hg:1<=g/\g<=8) (hl:w.length<=100000) (h:w.all (iU g)=true):bG g w=0:=by
  unfold bG
  rw [if_neg O,if_neg O,if_pos h]
theorem rE (l:List (List UInt8)) (d:List bI):ki l d=ll (d.flatMap (jO l)):=by
  unfold ki ll
  rw [List.foldl_flatMap];rfl
end Fr
end Go.Proofs.YtjppkekmddjcfaaGreatDoor

namespace Go.Proofs.YtjppkekmddjcfaaGreatDoor
open Go Go.RowKit V Fr
namespace Fr
theorem nx {u v:List UInt8}:gT u v<=0 ↔ u.length < v.length\/(u.length=v.length/\je u v<=0):=by
  unfold gT
  by_cases h:u.length=v.length
  · simp [h]
  · by_cases h2:u.length < v.length
    · simp [h,h2]
    · simp [h,h2]
theorem sK:∀ a:List UInt8,je a a=0
  | []=>by unfold je;rfl
  | c :: a=>by unfold je;rw [if_neg O,if_neg O];exact sK a
theorem xg:∀ a u v:List UInt8,je (a ++ u) (a ++ v)=je u v
  | [],_,_=>rfl
  | c :: a,u,v=>by
    show je (c :: (a ++ u)) (c :: (a ++ v))=_
    rw [je,if_neg O,if_neg O];exact xg a u v
theorem ve:∀ u v b:List UInt8,u.length=v.length->je (u ++ b) (v ++ b)=je u v
  | [],[],b,_=>by simp only [List.nil_append];rw [sK];unfold je;rfl
  | [],_ :: _,_,h=>by simp at h
  | _ :: _,[],_,h=>by simp at h
  | x :: u,y :: v,b,h=>by
    show je (x :: (u ++ b)) (y :: (v ++ b))=_
    rw [je,je,ve u v b (by simpa using h)]
theorem vf:∀ a b c:List UInt8,a.length=b.length->b.length=c.length->je a b<=0->je b c<=0->je a c<=0
  | [],b,c,_,_,_,_=>by unfold je;simp
  | x :: a,[],c,h,_,_,_=>by simp at h
  | x :: a,y :: b,[],_,h,_,_=>by simp at h
  | x :: a,y :: b,z :: c,h1,h2,k1,k2=>by
    rw [je] at k1 k2 ⊢
    by_cases q1:ix x < ix z
    · rw [if_pos q1];decide
    · rw [if_neg q1]
      by_cases q2:ix x < ix y
      · rw [if_neg (show ¬ ix y < ix z by omega),if_pos (show ix z < ix y by omega)] at k2
        exact absurd k2 U
      · rw [if_neg q2] at k1
        by_cases q3:ix y < ix x
        · rw [if_pos q3] at k1;exact absurd k1 U
        · rw [if_neg q3] at k1
          by_cases q4:ix z < ix y
          · rw [if_neg O,if_pos q4] at k2;exact absurd k2 U
          · rw [if_neg O,if_neg q4] at k2
            rw [if_neg O]
            exact vf a b c (by simpa using h1) (by simpa using h2) k1 k2
theorem vg {a b c:List UInt8} (h:gT a b<=0) (k:gT b c<=0):gT a c<=0:=by
  rw [nx] at h k ⊢
  rcases h with h | ⟨h,h'⟩
  · rcases k with k | ⟨k,_⟩
    · left;omega
    · left;omega
  · rcases k with k | ⟨k,k'⟩
    · left;omega
    · exact .inr ⟨by omega,vf a b c h k h' k'⟩
theorem Ld {r l:List UInt8} (h:gT r l < 0) (a b:List UInt8):gT (a ++ r ++ b) (a ++ l ++ b)<=0:=by
  rcases nx.1 (show gT r l<=0 by omega) with q | ⟨q,q'⟩
  · exact nx.2 (.inl (by simp only [List.length_append];omega))
  · refine nx.2 (.inr ⟨by simp only [List.length_append];omega,?_⟩)
    rw [ve _ _ _ (by simp only [List.length_append];omega),xg];exact q'
theorem Df {a b:List UInt8} (h:a.length < b.length):gT a b<=0:=nx.2 (.inl h)
theorem IC (a:List UInt8):gT a a<=0:=nx.2 (.inr ⟨rfl,by rw [sK];omega⟩)
theorem Vj {g:Int} (hg:g<=8) {w:List UInt8} (h:w.all (iU g)=true):w.all (iU 8)=true:=by
  rw [List.all_eq_true] at h ⊢
  intro c hc
  have:=h c hc
  simp only [iU,Bool.and_eq_true,decide_eq_true_eq] at this ⊢
  omega
theorem uE {g:Int} (hg:g<=8) {w:List UInt8} (hl:w.length<=100000) (h:w.all (iU g)=true):p4 w=true:=by
  simp only [p4,Bool.and_eq_true,decide_eq_true_eq]
  exact ⟨hl,Vj hg h⟩
theorem Jz {rs:List bf} {o:List UInt8} (h:aK rs o < 0):∀ r ∈ rs,fH o r.left=false:=fun r hr=>by
  unfold aK at h
  split at h
  · omega
  · rename_i q
    obtain ⟨i,hi,rfl⟩:=List.getElem_of_mem hr
    have:=List.find?_eq_none.1 q i (List.mem_range.2 hi)
    simpa [hi] using this
theorem MC {a w:List UInt8} {i:Nat} (h:zF a w i) (e:i + w.length=a.length):fH a w=true:=by
  obtain ⟨h1,h2⟩:=h
  rw [e,List.take_length] at h2
  simp only [fH,decide_eq_true_eq]
  exact ⟨by omega,by rw [show a.length - w.length=i by omega];exact h2⟩
theorem Bw {a w:List UInt8} {i n:Nat} (h:zF (a.take n) w i):zF a w i:=by
  obtain ⟨h1,h2⟩:=h
  rw [List.length_take] at h1
  refine ⟨by omega,?_⟩
  rw [List.take_take,Nat.min_eq_left O] at h2;exact h2
theorem MD {k w:List UInt8} {c:UInt8} {i:Nat} (h:zF (k ++ [c]) w i):zF k w i\/fH (k ++ [c]) w=true:=by
  by_cases q:i + w.length=(k ++ [c]).length
  · exact .inr (MC h q)
  · left
    obtain ⟨h1,h2⟩:=h
    rw [List.length_append,List.length_singleton] at h1 q
    refine ⟨by omega,?_⟩
    rw [List.take_append_of_le_length O] at h2;exact h2
theorem Qq {k:List UInt8} {c:UInt8} (h:NC k) (hc:¬ (0 < k.length/\k.getD (k.length - 1) 0=c ^^^ 32)):NC (k ++ [c]):=by
  have:=h.pushC c
  rwa [push,if_neg hc] at this
theorem SH {g:Int} (hg:g<=8) {rs:List bf} {k:List UInt8} (hn:NC k) (hk:k.all (iU g)=true) (hl:k.length<=100000) (h:∀ r ∈ rs,∀ i,¬ zF k r.left i):s9 rs k=true:=by
  simp only [s9,Bool.and_eq_true,decide_eq_true_eq,List.all_eq_true]
  refine ⟨by rw [cn,if_pos (uE hg hl hk)];exact hn.isRed,fun r hr=>?_⟩
  have:¬ 0<=yE k r.left 0:=fun q=>by
    obtain ⟨i,hi⟩:=FK.1 q
    exact h r hr i hi
  omega
theorem vb {g:Int} (l:List (List UInt8)) (p:List UInt8):∀ ds:List bI,(∀ c ∈ ds,p4 (p ++ c.conj)=true)->E ((ds.map (ot p)).flatMap (jO l)) (p ++ ds.flatMap (jO l) ++ inv p)
  | [],_=>by
    have:=(E.cancel p).sm
    simpa using this
  | c :: ds,hw=>by
    rw [List.map_cons,List.flatMap_cons,List.flatMap_cons]
    have h1:E (jO l (ot p c)) (p ++ jO l c ++ inv p):=by
      have hj:E (cn (p ++ c.conj)) (p ++ c.conj):=by rw [cn,if_pos (hw c List.mem_cons_self)];exact E.ofRed _
      have hji:=hj.ofInv
      rw [Qc] at hji
      have e:jO l (ot p c)=cn (p ++ c.conj) ++ II l c ++ inv (cn (p ++ c.conj)):=rfl
      rw [e]
      refine ((hj.app (E.rf _)).app hji).tr (E.of ?_)
      simp only [jO,List.append_assoc]
    have h2:=vb (g:=g) l p ds fun c hc=>hw c (List.mem_cons_of_mem _ hc)
    refine (h1.app h2).tr ?_
    have:=E.mid2 (p ++ jO l c) p (ds.flatMap (jO l) ++ inv p)
    refine E.tr (E.of ?_) (this.tr (E.of ?_))
    · simp only [List.append_assoc]
    · simp only [List.append_assoc]
theorem Iy (l:List (List UInt8)) (p:List UInt8) (d ds:List bI) (hw:∀ c ∈ ds,p4 (p ++ c.conj)=true):E (ki l (d ++ ds.map (ot p))) (ki l d ++ p ++ ki l ds ++ inv p):=by
  rw [rE,rE,rE,List.flatMap_append]
  refine (E.ofRed _).tr ?_
  have h:=vb (g:=0) l p ds hw
  refine ((E.ofRed (d.flatMap (jO l))).sm.app h).tr ?_
  have:=(((E.rf (ll (d.flatMap (jO l)) ++ p)).app (E.ofRed (ds.flatMap (jO l))).sm).app (E.rf (inv p)))
  refine E.tr (E.of ?_) this
  simp only [List.append_assoc]
structure sH (g:Int) (l:List (List UInt8)) (rs:List bf) (w:List UInt8) (s:Il):Prop where
  eq:E (ki l s.disk ++ (s.stack ++ s.rest.reverse)) w
  qa:s.rest.all (iU g)=true
  ka:s.stack.all (iU g)=true
  nc:NC s.stack
  ir:∀ r ∈ rs,∀ i,¬ zF s.stack r.left i
  dk:∀ c ∈ s.disk,iA g l c=true
  dl:s.disk.length<=100000
  dm:cz s.disk=s.sum/\s.sum<=1000000
  le:gT (s.stack ++ s.rest.reverse) w<=0
theorem sH.len {g:Int} {l:List (List UInt8)} {rs:List bf} {w:List UInt8} {s:Il} (h:sH g l rs w s):s.stack.length + s.rest.length<=w.length:=by
  rcases nx.1 h.le with q | ⟨q,_⟩ <;> simp only [List.length_append,List.length_reverse] at q <;> omega
theorem vx {q:List UInt8} (h:q ≠ []):q=sC q ++ [lR q]:=by
  have h0:0 < q.length:=List.length_pos_iff.2 h
  have:=tC (s:=q) (i:=q.length - 1) O
  rw [show q.length - 1 + 1=q.length by omega,List.take_length] at this
  exact this.symm
theorem Jx {q:List UInt8} (h:q ≠ []):q.reverse=lR q :: (sC q).reverse:=by
  conv=>lhs;rw [vx h]
  simp
theorem sH.step {g:Int} {l:List (List UInt8)} {rs:List bf} {w:List UInt8} (hs:cj g l rs=true) (hw:w.length<=20000) {s s':Il} (h:sH g l rs w s) (hq:s.rest ≠ []) (e:uc rs s=some s'):sH g l rs w s':=by
  obtain ⟨q,k,n,d,m⟩:=s
  simp only at hq
  have hlen:=h.len
  obtain ⟨eq,qa,ka,nc,ir,dk,dl,dm,le⟩:=h
  simp only at eq qa ka nc ir dk dl dm le hlen
  have hg:=(cR (fB hs).1).1
  have hql:0 < q.length:=List.length_pos_iff.2 hq
  rw [Jx hq] at eq le
  have qp:(sC q).all (iU g)=true:=uu qa fun c hc=>List.mem_of_mem_take hc
  have qt:iU g (lR q)=true:=List.all_eq_true.1 qa _ (bw O)
  unfold uc at e
  simp only at e
  by_cases hc:xx k q
  · rw [if_pos hc] at e
    cases e
    have hk:k ≠ []:=fun z=>by rw [z] at hc;exact absurd hc.1 (by simp)
    have e2:k ++ lR q :: (sC q).reverse=sC k ++ [lR q ^^^ 32] ++ inv [lR q ^^^ 32] ++ (sC q).reverse:=by
      conv=>lhs;rw [vx hk,hc.2]
      simp [inv,jZ]
    refine ⟨?_,qp,uu ka fun c hc=>List.mem_of_mem_take hc,nc.take _,fun r hr i hi=>ir r hr i (Bw hi),dk,dl,dm,?_⟩
    · refine E.tr ?_ eq
      rw [e2]
      have:=(E.mid (ki l d ++ sC k) [lR q ^^^ 32] (sC q).reverse).sm
      refine E.tr (E.of ?_) (this.tr (E.of ?_)) <;> simp only [List.append_assoc]
    · refine vg (Df ?_) le
      simp only [List.length_append,List.length_cons,List.length_reverse,List.length_take];omega
  · rw [if_neg hc] at e
    by_cases hr:aK rs (k ++ [lR q]) < 0
    · rw [if_pos hr] at e
      cases e
      refine ⟨by simpa using eq,qp,?_,Qq nc hc,fun r hm i hi=>?_,dk,dl,dm,by simpa using le⟩
      · rw [List.all_append,ka,Bool.true_and];show (iU g (lR q) && true)=true;rw [qt];rfl
      · rcases MD hi with h1 | h1
        · exact ir r hm i h1
        · rw [Jz hr r hm] at h1;cases h1
    · rw [if_neg hr] at e
      split at e
      · rename_i hx
        cases e
        have hK:(k ++ [lR q]).all (iU g)=true:=by rw [List.all_append,ka,Bool.true_and];show (iU g (lR q) && true)=true;rw [qt];rfl
        have hsp:=pD hr
        have hm:=vA hr
        obtain ⟨x1,x2,x3,x4⟩:=hx
        have hR:=gB ((fB hs).2.2.1 _ hm)
        have hfx:=lN hs hm
        generalize hU:qS rs (k ++ [lR q])=U at *
        have hC:z8 rs (k ++ [lR q])=(k ++ [lR q]).take ((k ++ [lR q]).length - U.left.length):=by unfold z8;rw [hU]
        have hN:Bg rs (k ++ [lR q])=eU (z8 rs (k ++ [lR q])) U.proof:=by unfold Bg;rw [hU]
        generalize z8 rs (k ++ [lR q])=C at *
        generalize Bg rs (k ++ [lR q])=D at *
        have hend:=hsp.2.1
        simp only [fH,decide_eq_true_eq] at hend
        have hsplit:k ++ [lR q]=C ++ U.left:=by
          rw [hC];conv=>lhs;rw [<- List.take_append_drop ((k ++ [lR q]).length - U.left.length) (k ++ [lR q])]
          rw [hend.2]
        have hcw:gT U.right U.left < 0:=by
          have:=hR.2.2.1
          unfold da at this
          split at this
          · exact this
          · omega
        have a0:0 < U.left.length:=by
          rcases Nat.eq_zero_or_pos U.left.length with z | z
          · exfalso
            have z2:=List.length_eq_zero_iff.1 z
            have z3:U.right=[]:=List.length_eq_zero_iff.1 (by have:=hfx.1;omega)
            rw [z2,z3] at hcw
            simp [gT,je] at hcw
          · exact z
        have hCk:C=k.take ((k ++ [lR q]).length - U.left.length):=by
          rw [hC,List.take_append_of_le_length Oz]
        have aS:=ls (so hR.1)
        have aR:=ls (so hR.2.1)
        have cA:C.all (iU g)=true:=by rw [hCk];exact uu ka fun c hc=>List.mem_of_mem_take hc
        have hpv:=hR.2.2.2
        unfold gu at hpv
        have hck:¬ ¬ vc g l [U.left ++ c0 U.right] [U.proof]=0:=fun z=>by rw [if_pos z] at hpv;exact z hpv
        rw [if_neg hck] at hpv
        have hbd:ki l U.proof=ll (U.left ++ c0 U.right):=by
          by_cases z:¬ ki l U.proof=ll (U.left ++ c0 U.right)
          · rw [if_pos z] at hpv;cases hpv
          · exact Decidable.not_not.1 z
        rw [c0,if_pos (uE hg.2 aR.2.1 aR.2.2)] at hbd
        have hdk:=(iY hck).2.2
        have hcell:=pd hdk
        have okm:∀ c ∈ U.proof,C.length + c.conj.length<=100000:=fun c hc=>by
          have:=List.all_eq_true.1 x1 c hc
          simpa using this
        have V:∀ c ∈ U.proof,(C ++ c.conj).all (iU g)=true:=fun c hc=>yq cA (ls (hcell c hc).2).2.2
        have hisw:∀ c ∈ U.proof,p4 (C ++ c.conj)=true:=fun c hc=>uE hg.2 (by rw [List.length_append];exact okm c hc) (V c hc)
        rw [hN,eU,if_pos x1] at x4 ⊢
        refine ⟨?_,?_,cA,by rw [hCk];exact nc.take _,fun r X i hi=>ir r X i (Bw (by rw [<- hCk];exact hi)),?_,?_,?_,?_⟩
        · refine E.tr ?_ eq
          have e3:(sC q ++ U.right.reverse).reverse=U.right ++ (sC q).reverse:=by simp
          have e4:k ++ lR q :: (sC q).reverse=C ++ U.left ++ (sC q).reverse:=by rw [<- hsplit];simp
          show E (ki l (d ++ U.proof.map (ot C)) ++ (C ++ (sC q ++ U.right.reverse).reverse)) _
          rw [e3,e4]
          have hb:E (ki l (d ++ U.proof.map (ot C))) (ki l d ++ C ++ (U.left ++ inv U.right) ++ inv C):=by
            refine (Iy l C d U.proof hisw).tr ?_
            rw [hbd]
            exact (((E.rf _).app (E.ofRed _)).app (E.rf _))
          refine (hb.app (E.rf _)).tr ?_
          have h1:=E.mid2 (ki l d ++ C ++ (U.left ++ inv U.right)) C (U.right ++ (sC q).reverse)
          have h2:=E.mid2 (ki l d ++ C ++ U.left) U.right (sC q).reverse
          refine E.tr (E.of ?_) (h1.tr (E.tr (E.of ?_) (h2.tr (E.of ?_)))) <;> simp only [List.append_assoc]
        · exact yq qp (by rw [List.all_reverse];exact aR.2.2)
        · intro c hc
          rcases List.mem_append.1 hc with hc | hc
          · exact dk c hc
          · obtain ⟨x,hx,rfl⟩:=List.mem_map.1 hc
            have h3:=l5 (C ++ x.conj)
            rw [List.length_append] at h3
            exact tg (by have:=(hcell x hx).1.1;show ¬ x.rel < 0;omega) (by have:=(hcell x hx).1.2;show ¬ (l.length:Int)<=x.rel;omega)
              (fun z=>z (ry hg (by have:=okm x hx;show (cn (C ++ x.conj)).length<=100000;omega) (KO (V x hx))))
        · simpa using x3
        · exact ⟨by rw [nz,dm.1],x4⟩
        · refine vg ?_ le
          have e3:C ++ (sC q ++ U.right.reverse).reverse=C ++ U.right ++ (sC q).reverse:=by simp
          have e4:k ++ lR q :: (sC q).reverse=C ++ U.left ++ (sC q).reverse:=by rw [<- hsplit];simp
          rw [e4]
          show gT (C ++ (sC q ++ U.right.reverse).reverse) _<=0
          rw [e3]
          exact Ld hcw _ _
      · cases e
theorem sH.run {g:Int} {l:List (List UInt8)} {rs:List bf} {w:List UInt8} (hs:cj g l rs=true) (hw:w.length<=20000):∀ (f:Nat) {s s':Il},sH g l rs w s->il rs f s=some s'->sH g l rs w s'/\s'.rest=[]
  | 0,s,s',h,e=>by simp [il] at e
  | f + 1,s,s',h,e=>by
    rw [il] at e
    by_cases q:s.rest=[]
    · rw [if_pos q] at e;cases e;exact ⟨h,q⟩
    · rw [if_neg q] at e
      split at e
      · cases e
      · rename_i s2 e2
        exact sH.run hs hw f (h.step hs hw q e2) e
theorem sH.start {g:Int} {l:List (List UInt8)} {rs:List bf} {w:List UInt8} (hs:cj g l rs=true) (hw:bG g w=0):sH g l rs w (start w) :=
  ⟨by show E (ki l [] ++ ([] ++ w.reverse.reverse)) w;simp [ki];exact E.rf _,by show w.reverse.all (iU g)=true;rw [List.all_reverse];exact (ls hw).2.2,rfl,DQ,
   fun r hr i hi=>by
     have hR:=gB ((fB hs).2.2.1 r hr)
     have h1:=hi.1
     have z:i + r.left.length<=0:=h1
     have z2:r.left=[]:=List.length_eq_zero_iff.1 O
     have hcw:=hR.2.2.1
     have hfx:=(lN hs hr).1
     have z3:r.right=[]:=List.length_eq_zero_iff.1 (by rw [z2] at hfx;simpa using hfx)
     rw [z2,z3] at hcw
     simp [da,gT,je] at hcw,
   (fun c hc=>absurd hc List.not_mem_nil),(by show ([]:List bI).length<=_;simp),⟨rfl,by show (0:Nat)<=_;omega⟩,by show gT ([] ++ w.reverse.reverse) w<=0;simpa using IC w⟩
theorem Na {g:Int} {l:List (List UInt8)} {rs:List bf} {w:List UInt8} (hs:cj g l rs=true) (hw:bG g w=0) (hl:w.length<=20000) {R:Fj} (h:ga rs w=some R) :
    gu g l R.disk (w ++ c0 R.word)=0/\s9 rs R.word=true/\bG g R.word=0/\gT R.word w<=0/\da R.word w<=0/\R.word.length<=w.length:=by
  unfold ga at h
  obtain ⟨s,hr,rfl⟩:=Option.map_eq_some_iff.1 h
  obtain ⟨hi,hn⟩:=sH.run hs hl _ (sH.start hs hw) hr
  have hlen:=hi.len
  have hg:=(cR (fB hs).1).1
  have D:=hi.eq
  have hle:=hi.le
  rw [hn,List.reverse_nil,List.append_nil] at D hle
  have hiw:=uE hg.2 (show s.stack.length<=100000 by omega) hi.ka
  have hww:=ls hw
  refine ⟨?_,SH hg.2 hi.nc hi.ka (show s.stack.length<=100000 by omega) hi.ir,ry hg (by show s.stack.length<=_;omega) hi.ka,hle,?_,by show s.stack.length<=_;omega⟩
  · have e:c0 s.stack=inv s.stack:=by rw [c0,if_pos hiw]
    show gu g l s.disk (w ++ c0 s.stack)=0
    rw [e]
    have hc:vc g l [w ++ inv s.stack] [s.disk]=0:=by
      refine KY (i:=1) (Decidable.not_not.2 (fB hs).1) (by simp) (fun j hj=>?_) ?_
      · obtain rfl:j=0:=by omega
        show bG g (w ++ inv s.stack)=0
        exact ry hg (by rw [List.length_append,fA];omega) (yq hww.2.2 (Pw hi.ka))
      · simp only [fp,Bool.and_eq_true,decide_eq_true_eq,List.all_eq_true]
        exact ⟨⟨hi.dk,hi.dl⟩,by rw [hi.dm.1];exact hi.dm.2⟩
    have hb:ki l s.disk=ll (w ++ inv s.stack):=by
      have h1:E (ki l s.disk) (w ++ inv s.stack):=by
        have h2:=(D.sm.app (E.rf (inv s.stack))).sm
        have h3:=E.mid (ki l s.disk) s.stack []
        refine E.tr ?_ h2
        refine E.tr (h3.sm.tr (E.of ?_)).sm.sm (E.rf _) |>.sm.sm |> fun z=>E.tr (E.of (by simp)) z
        simp only [List.append_assoc,List.append_nil]
      have h4:ll (ki l s.disk)=ki l s.disk:=by rw [rE,Gy]
      rw [<- h4];exact h1
    unfold gu
    rw [if_neg (Decidable.not_not.2 hc),if_neg (Decidable.not_not.2 hb)]
  · show da s.stack w<=0
    unfold da
    split
    · exact hle
    · omega
end Fr
end Go.Proofs.YtjppkekmddjcfaaGreatDoor

namespace Go.Proofs.YtjppkekmddjcfaaGreatDoor
open Go Go.RowKit V Fr
theorem Ig (w:Wd):(c0 w).length<=w.length:=by
  unfold c0;split
  · rw [fA];omega
  · simp
theorem Ke {g:Int} {l:List Wd} {rs:List bf} {w:Wd} (h:gV g l rs w=0):cj g l rs=true/\bG g w=0/\w.length<=20000/\ga rs w=some (ei g l rs w):=by
  cases hs:cj g l rs with
  | false=>rw [(od hs).2] at h;cases h
  | true =>
    rw [(iW hs).2] at h
    rw [(iW hs).1]
    by_cases hw:bG g w=0
    · by_cases hl:20000 < w.length
      · rw [(jG (Decidable.not_not.2 hw) hl).2] at h;cases h
      · rw [(pB (Decidable.not_not.2 hw) hl).2] at h
        rw [(pB (Decidable.not_not.2 hw) hl).1]
        refine ⟨Z,hw,by omega,?_⟩
        cases q:ga rs w with
        | none=>rw [q] at h;cases h
        | some R=>rfl
    · rw [(jg hw).2] at h;cases h
theorem jI {g:Int} {l:List Wd} {rs:List bf} {w:Wd} (h:gV g l rs w=0) :
    cj g l rs=true/\gu g l (ei g l rs w).disk (w ++ c0 (ei g l rs w).word)=0/\s9 rs (ei g l rs w).word=true/\bG g (ei g l rs w).word=0/\da (ei g l rs w).word w<=0/\w.length<=20000/\(ei g l rs w).word.length<=w.length:=by
  obtain ⟨h1,h2,h3,h4⟩:=Ke h
  obtain ⟨r1,r2,r3,_,r5,r6⟩:=Na h1 h2 h3 h4
  exact ⟨h1,r1,r2,r3,r5,h3,r6⟩
theorem Kb (g:Int) (l:List Wd) (rs:List bf) (w:Wd):(ei g l rs w).disk.length<=100000/\cz (ei g l rs w).disk<=1000000:=by
  by_cases h:gV g l rs w=0
  · have hp:=(jI h).2.1
    unfold gu at hp
    split at hp
    · rename_i q;exact absurd hp q
    · rename_i q;exact nR (iY q).2.2
  · have:ei g l rs w=.zero:=by
      cases hs:cj g l rs with
      | false=>exact (od hs).1
      | true =>
        rw [(iW hs).2] at h
        rw [(iW hs).1]
        by_cases hw:bG g w=0
        · by_cases hl:20000 < w.length
          · exact (jG (Decidable.not_not.2 hw) hl).1
          · rw [(pB (Decidable.not_not.2 hw) hl).2] at h
            rw [(pB (Decidable.not_not.2 hw) hl).1]
            cases q:ga rs w with
            | none=>rfl
            | some R=>rw [q] at h;exact absurd Z h
        · exact (jg hw).1
    rw [this];exact ⟨by decide,by decide⟩
theorem oc {R:Fj} (h:(!(decide (R.word=R.word) && decide (R.steps=R.steps) && decide (R.disk=R.disk)))=true):False:=by simp at h
theorem n8 {g:Int} {l:List Wd} {rs:List bf} {w:Wd} (h:gV g l rs w=0) (k:(cj g l rs && decide (bG g (ei g l rs w).word=0) && s9 rs (ei g l rs w).word)=false):False:=by
  obtain ⟨h1,_,h3,h4,_⟩:=jI h
  rw [h1,h3,decide_eq_true h4] at k;cases k
theorem n5 {g:Int} {l:List Wd} {rs:List bf} {w:Wd} (h:gV g l rs w=0):decide (da (ei g l rs w).word w<=0)=true:=decide_eq_true (jI h).2.2.2.2.1
end Go.Proofs.YtjppkekmddjcfaaGreatDoor

namespace Go.Proofs.YtjppkekmddjcfaaGreatDoor
open Go Go.RowKit V
set_option maxRecDepth 100000


theorem Ol (W1:List UInt8) (n1:Nat) (V:Value) (d1:List bI) (W2:List UInt8) (n2:Nat) (X:Value) (d2:List bI) (A:AH) (hn:d1.length<=9223372036854775807) (a6:bK A 3 V (cb d1)) (a7:bK A 3 X (cb d2)):bH Tryz.prog 22 #[.agg #[aX (W1),num ((n1:Nat):Int),V],.agg #[aX (W2),num ((n2:Nat):Int),X]] A (fun v A1=>v=.bool (decide (W1=W2) && decide (n1=n2) && decide (d1=d2))/\A.le A1/\A1.wf):=by
 refine jP Tryz.call22 Tryz.func22 Z Tryz.results22 Tryz.ntmps22 Z (fun wf=>?_);have a9:=AH.le.refl A;refine am.seq fun _ h2=>.region<|.l Z (fun _ _ a4 _=>dQ wf rfl rfl fun A5 b4 a2=>?_);have a8:=a9.trans a2.le;refine a4 _ _<|.l Z (fun _ _ a5 _=>dQ a2.wf rfl rfl fun A10 b9 h=>?_);have a0:=h.le.get _ _ a2.get;have D:=a8.trans h.le;refine a5 _ _<|.q Z (ae Z)<|.nil<|h2 _ _<|.seq fun _ a1=>.region<|.q Z (aj jW fc U Z)<|.q Z (ak fP Z Z a0 Z)<|.q Z (aj jW fc U Z)<|.q Z (ak fP Z Z h.get Z) ?_;refine Ops.q Z (mn Z Z)<|.q Z (ah Z)<|.part (t:=10) Z (fun aa=>?_) (fun aa=>?_)
 ·refine Ops.on Z Z<|.q Z (aj lG c5 U Z)<|.on Z Z<|.q Z (ak eM Z Z a0 Z)<|.on Z Z<|.q Z (aj lG c5 U Z)<|.on Z Z<|.q Z (ak eM Z Z h.get Z)<|.on Z Z<|.q Z (ku Z Z) ?_;refine Ops.q Z (aM Z Z)<|.q Z (ah Z)<|.part (t:=17) Z (fun ab=>?_) (fun ab=>?_)
  ·refine Ops.on Z Z<|.q Z (aj nI kW U Z)<|.on Z Z<|.q Z (ak ns Z Z a0 Z)<|.on Z Z<|.q Z (aj nI kW U Z)<|.on Z Z<|.q Z (ak ns Z Z h.get Z)<|.on Z Z<|.l Z (fun _ _ a3 _=>au Z (NI V X d1 d2 A10 hn (a6.le D) (a7.le D)) ?_);rintro ac A20 ⟨rfl,rfl⟩;refine a3 _ _<|.q Z (aM Z Z)<|.q Z (ae Z)<|.nil<|a1 _ _<|.rt (by exact aJ Z (⟨by simp_all [eE],D,h.wf⟩))
  refine Ops.off Z Z Z Z<|.off Z Z Z Z<|.off Z Z Z Z<|.off Z Z Z Z<|.off Z Z Z Z<|.q Z (aW Z Z)<|.q Z (ae Z)<|.nil<|a1 _ _<|.rt (by exact aJ Z (⟨by simp_all [eE],D,h.wf⟩))
 refine Ops.off Z Z Z Z<|.off Z Z Z Z<|.off Z Z Z Z<|.off Z Z Z Z<|.off Z Z Z Z<|.q Z (aW Z Z)<|.q Z (ah Z)<|.off Z Z Z Z<|.off Z Z Z Z<|.off Z Z Z Z ?_;refine Ops.off Z Z Z Z<|.off Z Z Z Z<|.q Z (aW Z Z)<|.q Z (ae Z)<|.nil<|a1 _ _<|.rt (by exact aJ Z (⟨by simp_all [eE],D,h.wf⟩))

theorem tu (g:Int) (u:Value) (l:List (List UInt8)) (rv:Value) (rs:List bf) (w:List UInt8) (A:AH) (hwn:w.length<=9223372036854775807) (hL:gJ A) (hM:rB A) (eT:l.length<=9223372036854775807) (eV:rs.length<=9223372036854775807) (hu:bK A 1 u (d5 l)) (hr:bK A 3 rv (c9 rs)) (b9:Proofs A rs):bH Tryz.prog 4 #[.agg #[num (g),u,rv],aX (w)] A (fun v A1=>v=.bool true/\A.le A1/\A1.wf):=by
 refine jP Tryz.call4 Tryz.func4 Z Tryz.results4 Tryz.ntmps4 Z (fun wf=>?_);have eX:=AH.le.refl A;refine am.seq fun _ h2=>.region<|.l Z (fun _ _ eS _=>dQ wf rfl rfl fun A5 b4 dm=>?_);have bU:=eX.trans dm.le;refine eS _ _<|.q Z (ae Z)<|.nil<|h2 _ _<|.seq fun _ h9=>.seq fun _ eg=>.region<|.l Z (fun _ _ dK _=>au Z (TA A5 (hL.le bU) (hM.le bU)) ?_);rintro fI A14 ⟨rfl,bc,f7⟩;have d3:=bc.get _ _ dm.get;have ai:=bU.trans bc;refine dK _ _<|.q Z (eu Z)<|.nil<|eg _ _<|.cond_false Z<|.skip<|h9 _ _<|.join (fun f B=>∃ z:Nat,(fun e0=>al [(0,.agg #[num (g),u,rv]),(1,aX (w)),(2,.pointer (some ⟨b4,0,none⟩)),(9,.bool (true)),(10,.bool (false))] f.e/\f.ds=[]/\(iC l rs=true/\(w.length<=60\/20000 < w.length))/\A.le B/\B.get b4=some (.row true [num (g),u,rv] 3)) z) ?_ ?_
 ·refine am.seq fun _ bO=>.region<|.q Z (aq eR ew Z Z d3 Z)<|.l Z (fun _ _ dL _=>au Z (RA ((g)) u l rv rs  A14  (hu.le ai) (hr.le ai) (b9.le ai)) ?_);rintro fL A25 ⟨rfl,bd,bm⟩;have dd:=bd.get _ _ d3;have ap:=ai.trans bd;refine dL _ _<|.q Z (eu Z)<|.q Z (ah Z)<|.partB (t:=14) Z (fun eY=>?_) (fun eY=>?_)
  ·refine Ops.off Z Z Z Z<|.off Z Z Z Z<|.off Z Z Z Z<|.off Z Z Z Z<|.und Z Z Z<|.und Z Z Z<|.und Z Z Z<|.off Z Z Z Z<|.q Z (aM Z Z)<|.nil ?_;refine bO _ _<|.cond_true Z<|.seq fun _ en=>.region<|.q Z (ae Z)<|.nil<|en _ _<|.rt (by exact aJ Z (⟨by first | rfl | (rw [n5 (Decidable.not_not.1 ‹_›)];rfl) | exact (oc ‹_›).elim | exact (n8 (Decidable.not_not.1 ‹_›) ‹_›).elim | exact absurd (jI (Decidable.not_not.1 ‹_›)).2.1 ‹_›,ap,bm⟩))
  refine Ops.on Z Z<|.q Z (ah Z)<|.on Z Z<|.q Z (cB u9 Z)<|.on Z Z<|.q Z (dP (b:=60) Z Z)<|.on Z Z<|.q Z (ah Z)<|.part (t:=18) Z (fun eZ=>?_) (fun eZ=>?_)
  ·refine Ops.on Z Z<|.q Z (ah Z)<|.on Z Z<|.q Z (cB u9 Z)<|.on Z Z<|.q Z (qH (b:=20000) Z Z)<|.on Z Z<|.q Z (aM Z Z)<|.q Z (aW Z Z)<|.nil ?_;refine bO _ _<|.if rfl (fun f0=>?_) (fun f0=>?_)
   ·refine am.seq fun _ ev=>.region<|.q Z (ae Z)<|.nil<|ev _ _<|.rt (by exact aJ Z (⟨by first | rfl | (rw [n5 (Decidable.not_not.1 ‹_›)];rfl) | exact (oc ‹_›).elim | exact (n8 (Decidable.not_not.1 ‹_›) ‹_›).elim | exact absurd (jI (Decidable.not_not.1 ‹_›)).2.1 ‹_›,ap,bm⟩))
   refine am.skip ?_;exact ⟨0,pZ Z Z Z Z Z,Z,⟨⟨by simpa using ‹(!iC l rs)=false›,by omega⟩,ap,dd⟩⟩
  refine Ops.off Z Z Z Z<|.off Z Z Z Z<|.off Z Z Z Z<|.on Z Z<|.q Z (aW Z Z)<|.q Z (aW Z Z)<|.nil<|bO _ _<|.cond_false Z<|.skip ?_;exact ⟨0,pZ Z Z Z Z Z,Z,⟨⟨by simpa using ‹(!iC l rs)=false›,by omega⟩,ap,dd⟩⟩
 rintro ⟨fe,fd⟩ B36 ⟨e0,hE,rfl,⟨⟨bP,f9⟩,a8,aa⟩⟩;refine am.forget hE<|.wf fun fq=>.seq fun _ ex=>?_;have bR:=J7 bP;obtain ⟨fv,fD,fE⟩:=ED bP;have hdk:=Kb g l rs w;refine am.region<|.q Z (aq eR ew Z Z aa Z)<|.q Z (ah Z)<|.l Z (fun _ _ dM _=>au Z (Ek ((g)) u l rv rs w B36 hwn bR (hu.le a8) (hr.le a8) (b9.le a8)) ?_);rintro fM A42 ⟨f4,rfl,bl,av,cc⟩;have di:=bl.get _ _ aa;have bT:=a8.trans bl;have br:=cc.base a8;refine dM _ _<|.q Z (ah Z)<|.q Z (bh Z Z)<|.q Z (bh Z Z)<|.l Z (fun _ _ dO _=>cg av sy rfl fun A50 fr a0=>?_);have aA:=ne_new av di a0.lo;have e4:=br.own.ne_new av a0.lo;have bD:=aU wf (Nat.le_trans bT.n a0.lo);have ey:=a0.le.get _ _ di;have bu:=br.le a0.le;have e1:=bT.trans a0.le;refine dO _ _ ?_;obtain ⟨bY,bS,bp,f1,_⟩:=bu.own.slice;subst f1;refine Ops.l Z (fun _ _ dS _=>aQ (cs:=[aX ((ei ((g)) l rs w).word),num (((ei ((g)) l rs w).steps:Nat):Int),.slice bY bS bp]) (c':=[aX ((ei ((g)) l rs w).word),num (((ei ((g)) l rs w).steps:Nat):Int),.slice bY bS bp]) a0.wf rfl rfl rfl rfl d6 a0.get (Nat.le_of_ble_eq_true rfl) rfl rfl fun A58 a9=>?_);have dj:=a9.keep _ _ aA ey;have dv:=bu.keep a9.keep e4;have a5:=an e1 wf bD a9.n a9.keep;refine dS _ _<|.q Z (ae Z)<|.nil<|ex _ _<|.seq fun _ ez=>.region<|.q Z (aq eR ew Z Z dj Z)<|.q Z (ah Z)<|.l Z (fun _ _ dV _=>au Z (qm ((g)) u l rv rs w A58 eT eV (hL.le a5) (hu.le a5) (hr.le a5) (b9.le a5)) ?_);rintro fN A67 ⟨f6,rfl,a6,a4,ch⟩;have dk:=a6.get _ _ dj;have dl:=a6.get _ _ a9.get;have bv:=dv.le a6;have bV:=a5.trans a6;have bA:=ch.base a5;refine dV _ _<|.q Z (ah Z)<|.q Z (bh Z Z)<|.q Z (bh Z Z)<|.l Z (fun _ _ dW _=>cg a4 sy rfl fun A78 ft V=>?_);have aB:=ne_new a4 dk V.lo;have ar:=ne_new a4 dl V.lo;have e5:=bv.own.ne_new a4 V.lo;have e6:=bA.own.ne_new a4 V.lo;have bL:=aU wf (Nat.le_trans bV.n V.lo);have eA:=V.le.get _ _ dk;have eC:=V.le.get _ _ dl;have dw:=bv.le V.le;have bB:=bA.le V.le;have e2:=bV.trans V.le;refine dW _ _ ?_;obtain ⟨aC,az,ay,f2,_⟩:=bB.own.slice;subst f2;refine Ops.l Z (fun _ _ dZ _=>aQ (cs:=[aX ((ei ((g)) l rs w).word),num (((ei ((g)) l rs w).steps:Nat):Int),.slice aC az ay]) (c':=[aX ((ei ((g)) l rs w).word),num (((ei ((g)) l rs w).steps:Nat):Int),.slice aC az ay]) V.wf rfl rfl rfl rfl d6 V.get (Nat.le_of_ble_eq_true rfl) rfl rfl fun A89 a1=>?_);have eG:=a1.keep _ _ aB eA;have eL:=a1.keep _ _ ar eC;have dz:=dw.keep a1.keep e5;have bC:=bB.keep a1.keep e6;have e3:=an e2 wf bL a1.n a1.keep;refine dZ _ _<|.q Z (ae Z)<|.nil<|ez _ _<|.seq fun _ eN=>.seq fun _ eQ=>.region<|.q Z (ah Z)<|.q Z (ah Z)<|.q Z (((fh Z Z).trans (congrArg (fun z=>some (Value.bool z,[])) (decide_eq_false (fun q=>q Z))))) ?_;refine Ops.q Z (ah Z)<|.on Z Z<|.q Z (aq kR d6 Z Z a1.get Z)<|.on Z Z<|.q Z (aq kR d6 Z Z eL Z)<|.on Z Z<|.l Z (fun _ _ cX _=>au Z (Ol ((ei ((g)) l rs w).word) ((ei ((g)) l rs w).steps) (.slice aC az ay) ((ei ((g)) l rs w).disk) ((ei ((g)) l rs w).word) ((ei ((g)) l rs w).steps) (.slice bY bS bp) ((ei ((g)) l rs w).disk) A89 O bC.slc dz.slc) ?_);rintro fi A102 ⟨rfl,a3,aD⟩;have ab:=a3.get _ _ eG;have a7:=a3.get _ _ a1.get;have c4:=bC.le a3;have ag:=e3.trans a3;refine cX _ _<|.on Z Z<|.q Z (eu Z)<|.q Z (aW Z Z)<|.nil<|eQ _ _<|.ifB Z (fun e7=>?_) (fun e7=>?_)
 ·refine am.seq fun _ dD=>.region<|.q Z (ae Z)<|.nil<|dD _ _<|.rt (by exact aJ Z (⟨by first | rfl | (rw [n5 (Decidable.not_not.1 ‹_›)];rfl) | exact (oc ‹_›).elim | exact (n8 (Decidable.not_not.1 ‹_›) ‹_›).elim | exact absurd (jI (Decidable.not_not.1 ‹_›)).2.1 ‹_›,ag,aD⟩))
 refine am.skip<|eN _ _<|.seq fun _ ac=>?_;have hER:=fun z:gV g l rs w=0=>jI z;have hwv:=Ig (ei g l rs w).word;refine am.drawn [0,1,2,3,4,5,6,7,8,9,10,11,12,13,14,15,16,17,18,19,20,21,22,23,24,25,26,27,28] mixed Y Y Z<|.q Z Z Z (ah Z)<|.q Z Z Z (fh (b:=0) Z Z)<|.q Z Z Z (ah Z)<|.part (t:=47) Z (fun e9=>?_) (fun e9=>?_)
 ·refine bj.qOff Z Z Z Z Z Z<|.qOff Z Z Z Z Z Z<|.qOff Z Z Z Z Z Z<|.qOff Z Z Z Z Z Z<|.qOff Z Z Z Z Z Z<|.qOff Z Z Z Z Z Z<|.qOff Z Z Z Z Z Z<|.lOff Z Z Z Z Z Z<|.qOff Z Z Z Z Z Z<|.lOff Z Z Z Z Z Z ?_;refine bj.qOff Z Z Z Z Z Z<|.qOff Z Z Z Z Z Z<|.qUnd Z Z Z Z Z<|.qUnd Z Z Z Z Z<|.qUnd Z Z Z Z Z<|.lUnd Z Z Z Z Z<|.qOff Z Z Z Z Z Z<|.qOff Z Z Z Z Z Z<|.qUnd Z Z Z Z Z<|.qUnd Z Z Z Z Z ?_;refine bj.qUnd Z Z Z Z Z<|.lUnd Z Z Z Z Z<|.qUnd Z Z Z Z Z<|.qOff Z Z Z Z Z Z<|.q Z Z Z (aM Z Z)<|.q Z Z Z (ae Z)<|.done<|ac _ _<|.rt (by exact aJ Z (⟨by first | rfl | (rw [n5 (Decidable.not_not.1 ‹_›)];rfl) | exact (oc ‹_›).elim | exact (n8 (Decidable.not_not.1 ‹_›) ‹_›).elim | exact absurd (jI (Decidable.not_not.1 ‹_›)).2.1 ‹_›,ag,aD⟩))
 refine bj.qOn Z Z Z Z Z (aj fY gz U Z) ?_;have ck:=cG (off:=0) ab (show _=some (num (g)) from rfl);have cv:=cG (off:=1) ab (show _=some (u) from rfl);refine bj.qOn Z Z Z Z Z (aq oE gz Z Z ab Z)<|.qOn Z Z Z Z Z (aj nI kW U Z) ?_;have cA:=cG (off:=2) a7 (show _=some (.slice aC az ay) from rfl);refine bj.qOn Z Z Z Z Z (ak ns Z Z a7 Z)<|.qOn Z Z Z Z Z (ah Z)<|.qOn Z Z Z Z Z (aj jW fc U Z) ?_;have cC:=cG (off:=0) a7 (show _=some (aX ((ei ((g)) l rs w).word)) from rfl);refine bj.qOn Z Z Z Z Z (ak fP Z Z a7 Z)<|.lOn Z Z Z Z Z (fun _ _ cZ _=>au Z (wb ((ei ((g)) l rs w).word) A102 (by first | omega | (have:=hER (Decidable.not_not.1 ‹_›);omega))) ?_);rintro fl A122 ⟨rfl,D,f3⟩;have dI:=D.get _ _ ab;have dJ:=D.get _ _ a7;have c7:=c4.le D;have aI:=bW D ck;have aP:=bW D cv;have aR:=bW D cA;have aS:=bW D cC;have ba:=ag.trans D;refine cZ _ _ (dH.now (by repeat (first | with_reducible exact dH.nil | with_reducible refine dH.filter ?_ | ((with_reducible refine dH.cons ?_ ?_);first | exact bZ | exact (bg aI (bg aP bZ)) | exact (bg aR bZ) | exact (bg aS bZ)))))<|.qOn Z Z Z Z Z (qI Z Z Oj)<|.lOn Z Z Z Z Z (fun _ _ d0 _=>au Z (Cr ((g)) u l (.slice aC az ay) ((ei ((g)) l rs w).disk) (w ++ (c0 ((ei ((g)) l rs w).word))) A122 O (fun x q=>by have:=bR.2.1 x q;omega) (by have:=hER (Decidable.not_not.1 ‹_›);simp only [List.length_append];have:=Ig (ei g l rs w).word;omega) O O (hu.le ba) c7.slc) ?_);rintro fm A136 ⟨rfl,X,c3⟩;have ad:=X.get _ _ dI;have aG:=X.get _ _ dJ;have aT:=bW X aI;have aV:=bW X aP;have aY:=bW X aR;have aZ:=bW X aS;have a2:=ba.trans X;refine d0 _ _ (dH.now (by repeat (first | with_reducible exact dH.nil | with_reducible refine dH.filter ?_ | ((with_reducible refine dH.cons ?_ ?_);first | exact bZ | exact (bg aT (bg aV bZ)) | exact (bg aY bZ) | exact (bg aZ bZ)))))<|.qOn Z Z Z Z Z (ku (b:=0) Z Z)<|.qOn Z Z Z Z Z (ah Z)<|.part (t:=59) Z (fun ea=>?_) (fun ea=>?_)
 ·have cH:=cG (off:=0) ad (show _=some (num (g)) from rfl);have cK:=cG (off:=1) ad (show _=some (u) from rfl);have cP:=cG (off:=2) ad (show _=some (rv) from rfl);refine bj.qOn Z Z Z Z Z (aq eR ew Z Z ad Z)<|.qOn Z Z Z Z Z (aj jW fc U Z) ?_;have cS:=cG (off:=0) aG (show _=some (aX ((ei ((g)) l rs w).word)) from rfl);refine bj.qOn Z Z Z Z Z (ak fP Z Z aG Z)<|.lOn Z Z Z Z Z (fun _ _ d1 _=>au Z (wd ((g)) u l rv rs ((ei ((g)) l rs w).word) A136 O bR (hu.le a2) (hr.le a2) (b9.le a2)) ?_);rintro fn A155 ⟨rfl,h,aF⟩;have bM:=h.get _ _ aG;have b0:=bW h aT;have b1:=bW h aV;have b2:=bW h aY;have b3:=bW h aZ;have b5:=bW h cH;have b6:=bW h cK;have b7:=bW h cP;have b8:=bW h cS;have bb:=a2.trans h;refine d1 _ _ (dH.now (by repeat (first | with_reducible exact dH.nil | with_reducible refine dH.filter ?_ | ((with_reducible refine dH.cons ?_ ?_);first | exact bZ | exact (bg b0 (bg b1 bZ)) | exact (bg b2 bZ) | exact (bg b3 bZ) | exact (bg b5 (bg b6 (bg b7 bZ))) | exact (bg b8 bZ)))))<|.qOn Z Z Z Z Z (aM Z Z)<|.qOn Z Z Z Z Z (ah Z)<|.partB (t:=65) Z (fun ec=>?_) (fun ec=>?_)
  ·refine bj.qOn Z Z Z Z Z (aj jW fc U Z) ?_;have cV:=cG (off:=0) bM (show _=some (aX ((ei ((g)) l rs w).word)) from rfl);refine bj.qOn Z Z Z Z Z (ak fP Z Z bM Z)<|.qOn Z Z Z Z Z (ah Z)<|.lOn Z Z Z Z Z (fun _ _ d2 _=>au Z (wa ((ei ((g)) l rs w).word) w A155 (by first | omega | (have:=hER (Decidable.not_not.1 ‹_›);omega)) (by first | omega | (have:=hER (Decidable.not_not.1 ‹_›);omega))) ?_);rintro fo A175 ⟨rfl,rfl⟩;refine d2 _ _ (dH.now (by repeat (first | with_reducible exact dH.nil | with_reducible refine dH.filter ?_ | ((with_reducible refine dH.cons ?_ ?_);first | exact bZ | exact (bg b0 (bg b1 bZ)) | exact (bg b2 bZ) | exact (bg b3 bZ) | exact (bg b5 (bg b6 (bg b7 bZ))) | exact (bg b8 bZ) | exact (bg cV bZ)))))<|.qOn Z Z Z Z Z (SY Z Z)<|.qOn Z Z Z Z Z (aM Z Z)<|.q Z Z Z (aW Z Z)<|.q Z Z Z (ae Z)<|.done<|ac _ _<|.rt (by exact aJ Z (⟨by first | rfl | (rw [n5 (Decidable.not_not.1 ‹_›)];rfl) | exact (oc ‹_›).elim | exact (n8 (Decidable.not_not.1 ‹_›) ‹_›).elim | exact absurd (jI (Decidable.not_not.1 ‹_›)).2.1 ‹_›,bb,aF⟩))
  refine bj.qOff Z Z Z Z Z Z<|.qOff Z Z Z Z Z Z<|.qOff Z Z Z Z Z Z<|.lOff Z Z Z Z Z Z<|.qOff Z Z Z Z Z Z<|.qOn Z Z Z Z Z (aW Z Z)<|.q Z Z Z (aW Z Z)<|.q Z Z Z (ae Z)<|.done<|ac _ _ ?_;refine am.ret ?_;repeat first | with_reducible refine bz ?_ | with_reducible refine bi ?_
  exact aJ Z (⟨by first | rfl | (rw [n5 (Decidable.not_not.1 ‹_›)];rfl) | exact (oc ‹_›).elim | exact (n8 (Decidable.not_not.1 ‹_›) ‹_›).elim | exact absurd (jI (Decidable.not_not.1 ‹_›)).2.1 ‹_›,bb,aF⟩)
 refine bj.qOff Z Z Z Z Z Z<|.qOff Z Z Z Z Z Z<|.qOff Z Z Z Z Z Z<|.lOff Z Z Z Z Z Z<|.qOn Z Z Z Z Z (aW Z Z)<|.qOn Z Z Z Z Z (ah Z)<|.qOff Z Z Z Z Z Z<|.qOff Z Z Z Z Z Z<|.qOff Z Z Z Z Z Z<|.lOff Z Z Z Z Z Z ?_;refine bj.qOff Z Z Z Z Z Z<|.qOn Z Z Z Z Z (aW Z Z)<|.q Z Z Z (aW Z Z)<|.q Z Z Z (ae Z)<|.done<|ac _ _<|.rt (by exact aJ Z (⟨by first | rfl | (rw [n5 (Decidable.not_not.1 ‹_›)];rfl) | exact (oc ‹_›).elim | exact (n8 (Decidable.not_not.1 ‹_›) ‹_›).elim | exact absurd (jI (Decidable.not_not.1 ‹_›)).2.1 ‹_›,a2,c3⟩))
end Go.Proofs.YtjppkekmddjcfaaGreatDoor


namespace Go.Proofs.YtjppkekmddjcfaaGreatDoor
open Go Go.ChangeShapes Go.WideShapes Go.ChangeAt Go.RowKit V
set_option maxRecDepth 100000

theorem sI (H:Type) (enc:TypeId × Value->H) (W:World) (base:Nat) (args:Array Value) (ds gs:List (DataW H)) (before:List MemPlace)
    (hval:∀ (j:Nat) t v,Tryz.f4.params[j]? = some t->args[j]? = some v->Value.okWide Tryz.prog W .any base t v)
    (hW:DataW.Whole enc Tryz.prog Tryz.f4.params.toList Rows.rewriteReducesSpec.vars false W args.toList ds gs before) (hL:laidMetH Tryz.prog Rows.rewriteReducesRow.laid W) (hS:W.ShapedOpen Tryz.prog) :
    Calls Tryz.prog 4 args W fun e W'=>∃ v,e=.returned v/\Rows.rewriteReducesSpec.post enc Tryz.prog Tryz.f4 false true false false W args v W':=by
  have hW':=hW
  obtain ⟨p,q,D,hV,rfl,hfz,hnd⟩:=hW
  have hA:DataW.TrodAll enc Tryz.prog W 0 (fun _=>true) true Tryz.f4.params.toList args.toList ds p:=D
  rw [Tryz.params4] at hA hval
  obtain ⟨v0,v1,d0,d1,p0,p1,rfl,rfl,rfl,h0,h1⟩:=trodAll_two hA
  obtain ⟨rfl,rfl⟩:=trodVars_none hV
  clear D
  simp only [List.append_nil] at hW'
  have X:=h0
  obtain ⟨g0,u0,l0,V,a7,rfl,a1,a2,a5,a4,a3⟩:=MH (hval 0 27 v0 Z Z) h0
  have a0:=h1
  obtain ⟨s1,rfl,_,_,a6⟩:=Go.ChangeMaps.open_string Tryz.underlying9 (hval 1 9 v1 Z Z) h1
  have hlt:∀ x ∈ p0 ++ p1,x.block < W.heap.size:=fun x hx=>by simpa using hW'.lt x (by simpa using hx)
  have walk:=Db (k:=4) (args:=[.agg #[.int .i64 g0,u0,V],.string s1]) (by
    rw [pO s1]
    exact tu g0 u0 l0 V a7 s1.data.toList (AH.ofWorld W) (by have hq:s1.data.toList.length=s1.size:=Array.length_toList;unfold maxLen at a6;omega) (DG (UT hL)) (Ji hS) a1 a2 a5 a4 a3)
  refine walk.mono ?_
  rintro e W' ⟨rfl,bel⟩
  refine ⟨_,rfl,_,_,_,[],p0 ++ p1,[],(by simpa using hW'),?_,?_,?_,bel.frame _,fun h=>by cases h⟩
  · exact trodAll_cons_mk (shut_bool Tryz.underlying4 _) trodAll_mk0
  · have mk:=trodAll_mk2 (Below.trod Gb Y (of_decide_eq_true Y) X bel (fun x hx=>hlt x (by simp [hx]))) (Below.trod Gb Y (of_decide_eq_true Y) a0 bel (fun x hx=>hlt x (by simp [hx])))
    first | exact mk | (simp only [List.append_assoc];exact mk)
  · rfl

theorem zK (os:Os):laidMet Tryz.prog Rows.rewriteReducesRow.laid ((td os).forCall (fun _ _=>0) ⟨#[],#[.agg #[.int .i64 0,.slice none 0 0,.slice none 0 0],.string ⟨#[]⟩],[]⟩).memory :=
  laidMet_of_run3 20 Y Y Y
theorem wI (os:Os) {H:Type} (enc:TypeId × Value->H):∃ places,DataW.whole enc Tryz.prog ((td os).forCall (fun _ _=>0) ⟨#[],#[.agg #[.int .i64 0,.slice none 0 0,.slice none 0 0],.string ⟨#[]⟩],[]⟩).memory Tryz.f4.params.toList Rows.rewriteReducesSpec.vars false #[.agg #[.int .i64 0,.slice none 0 0,.slice none 0 0],.string ⟨#[]⟩].toList 20=some ([.agg [.agg [.lit (.int .i64 0),.nil],.nil],.lit (.string [])],[],places) :=
  ⟨[],by kernel_rfl⟩
theorem uR (os:Os) (started:os.Started) (H:Type) (enc:TypeId × Value->H) (F:Stop.Interp) :
    ReturnsInHanded {} Tryz.checked os 4 .any ((OpenSpec.ofChange Rows.rewriteReducesSpec).preRow enc Tryz.prog Tryz.f4 Rows.rewriteReducesRow.domain false Rows.rewriteReducesRow.laid) (((OpenSpec.ofChange Rows.rewriteReducesSpec).at F).post enc Tryz.prog Tryz.f4 false true false false):=by
  obtain ⟨places,hx⟩:=wI os enc
  refine returnsInHanded_of_row (C:=Tryz.checked) (s:=OpenSpec.ofChange Rows.rewriteReducesSpec) own started Y Tryz.func4
    (witness_row_at (enc:=enc) (C:=Tryz.checked) false (td os) #[.agg #[.int .i64 0,.slice none 0 0,.slice none 0 0],.string ⟨#[]⟩] Z Y Y Y
      (OpenSpec.preRow_of_cond 20 hx Y (fun k hk=>by cases hk) Y (zK os))) ?_
  intro W base args ds gs before hval hW _ _ _ hL hS _
  exact sI H enc W base args ds gs before hval hW hL hS
theorem yn:Rows.RewriteReducesSaid :=
  OpenClaim.holds_of_cond 4 Tryz.f4 Z Z Z Z Z Z Z ⟨rfl,rfl,rfl,rfl,rfl⟩ Z Z Z Z Z Y Tryz.func4 Y
    (of_decide_eq_true Y) (by unfold Func.isWrapper;first | (rw [if_pos (by decide +kernel)];kernel_rfl) | (rw [if_neg (by decide +kernel)];exact ⟨Z,Z⟩))
    (fun os started H enc _ F=>by rw [OpenClaim.pre_eq_preRow];exact uR os started H enc F)
theorem wH (f:FuncId) (fn:Func) (hf:Tryz.pinned.checked.prog.funcNamed "cayley/cayleylaw10.RewriteReduces" = some f) (hfn:Tryz.pinned.checked.prog.funcs[f]? = some fn) :
    true=Tryz.pinned.checked.prog.looks []/\∀ (j:Nat) t,fn.params[j]? = some t->Tryz.pinned.checked.prog.wantsStandIn t=false:=by
  obtain rfl:f=4:=Option.some.inj ((show Tryz.prog.funcNamed "cayley/cayleylaw10.RewriteReduces" = some 4 by kernel_rfl).symm.trans hf) |>.symm
  obtain rfl:fn=Tryz.f4:=(Option.some.inj (Tryz.func4.symm.trans hfn)).symm
  refine ⟨by kernel_rfl,fun j t ht=>?_⟩
  rw [Tryz.params4] at ht
  have:t=27\/t=9:=by simpa using Array.mem_of_getElem? ht
  rcases this with rfl | rfl
  · exact (show Tryz.prog.wantsStandIn 27=false by kernel_rfl)
  · exact (show Tryz.prog.wantsStandIn 9=false by kernel_rfl)

theorem Reduces_card:Rows.RewriteReducesCardSaid :=
  Claim7.holds_tied_plain_at .later [] _ _ _ _ yn (fun _ h=>by cases h) Y (fun _ h=>by cases h) rewriteReduces_row_tie Z ⟨rfl,rfl⟩ Y Z wH Y
end Go.Proofs.YtjppkekmddjcfaaGreatDoor
