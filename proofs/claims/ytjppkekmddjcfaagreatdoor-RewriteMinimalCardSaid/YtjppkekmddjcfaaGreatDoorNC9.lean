import Derived.Test.YtjppkekmddjcfaaGreatDoorNC8
import Derived.Test.YtjppkekmddjcfaaGreatDoorNC4
import Derived.Test.YtjppkekmddjcfaaGreatDoorNC2
import Derived.Test.YtjppkekmddjcfaaGreatDoorNC6
import Derived.Shelf.SlSortCmp.WholeK
import Derived.Shelf.SlSortCmp.NoneTotal
import Derived.Shelf.Sort.Plain
import Derived.Shelf.Slices.In.SortNone
set_option linter.unusedSectionVars false
set_option linter.unusedVariables false
set_option linter.unusedSimpArgs false
open Go.Proofs.Tryz
namespace Go.Proofs.YtjppkekmddjcfaaGreatDoor
open Go Go.RowKit V
set_option maxRecDepth 100000
theorem pl24:dQ prog 24=some [(0,1),(1,1)]:=by kernel_rfl
theorem Pz:dQ prog 27=some [(0,2),(2,1)]:=by kernel_rfl
theorem GR:dQ prog 83=some [(0,1),(1,1),(2,1)]:=by kernel_rfl
theorem u24:type_of% @underlying24:=@underlying24
theorem u27:type_of% @underlying27:=@underlying27
theorem u83:type_of% @underlying83:=@underlying83
theorem z24:c5 prog 24=some (.agg #[.int .i64 0,.slice none 0 0]):=by kernel_rfl
theorem Je:c5 prog 27=some (.agg #[.int .i64 0,.slice none 0 0,.slice none 0 0]):=by kernel_rfl
theorem oL {α:Type} {l m:List α} {d:α} (h:l.length=m.length) (q:∀ j,j < l.length->l.getD j d=m.getD j d):l=m:=by
 apply List.ext_getElem h;intro i h1 h2;have:=q i h1;rwa [gd h1,gd h2] at this
theorem Ku (u1 u2:Value) (l1 l2:List Int) (A:AH) (hn:l1.length<=100000000) (a0:bJ A 1 u1 (dy l1)) (a2:bJ A 1 u2 (dy l2)):bH prog 80 #[u1,u2] A (fun v A1=>v=.bool (decide (l1=l2))/\A.le A1/\A1.wf):=by
 refine bi (e:=[(0,u1),(1,u2)]) (args:=[u1,u2]) call80 func80 Z results80 ntmps80 Z Z Z (fun wf=>?_);have V:=AH.le.refl A;refine ak.sq fun h2=>.region<|.I Z<|.nil<|h2<|.sq fun h4=>.sq fun h6=>.region<|.J Z<|.p (bE (n:=l1.length) fk Z (a0.le V) O (fy _)) ?_;refine Ops.J Z<|.p (bE (n:=l2.length) fk Z (a2.le V) O (fy _))<|.p (eB Z Z)<|.nil<|h6<|.if rfl (fun p7=>?_) (fun p7=>?_)
 ·refine ak.sq fun h9=>.region<|.I Z<|.nil<|h9<|.rt (by exact aH Z (⟨by (rw [Xv (fun e=>‹¬ l1.length=l2.length› (Xk List.length e))];rfl),V,wf⟩))
 refine ak.skip<|h4<|.sq fun a9=>.sq fun aa=>.region<|.I Z<|.nil<|aa<|.block<|.loop (X:=Nat) (fun i=>[(0,u1),(1,u2),(5,num ((i:Nat):Int))]) (fun i B=>(i<=l1.length/\l1.length=l2.length/\∀ j,j < i->l1.getD j 0=l2.getD j 0)/\A.le B) (fun i=>l1.length - i) 0 (jc Z Z Z) (⟨⟨XK _,by omega,fun j h=>by omega⟩,V⟩) ?_;rintro i B15 ⟨⟨hi,hl,hq⟩,D⟩;refine ak.wf fun a1=>.sq fun ab=>.sq fun ac=>.region<|.J Z<|.J Z<|.p (bE (n:=l1.length) fk Z (a0.le D) O (fy _))<|.p (ca Z Z)<|.nil<|ac ?_;refine ak.if rfl (fun ay=>?_) (fun ay=>?_)
 ·refine ak.skip<|ab<|.sq fun ad=>.block<|.sq fun ag=>.drawn [0,1,2,3,4,5,6,7,8] mixed Y Y Z<|.p Z (aN Z)<|.p Z (aN Z) ?_;obtain ⟨aG,aP,aE,aZ,aC,aV,aS,a5,ar,a7,aA,a3⟩:=bJ.at (i:=i) (a0.le D) Oa O;refine bn.p Z (au fk dH Z a5 Z ar)<|.p Z (ah fA Z Z a7 ((dt a3).trans (dT O)))<|.p Z (aN Z)<|.p Z (aN Z) ?_;obtain ⟨aI,aR,aF,b0,aD,aY,aT,a6,av,a8,aB,a4⟩:=bJ.at (i:=i) (a2.le D) Oa O;refine bn.p Z (au fk dH Z a6 Z av)<|.p Z (ah fA Z Z a8 ((dt a4).trans (dT O)))<|.p Z (PK Z Z)<|.done<|ag<|.if rfl (fun az=>?_) (fun az=>?_)
  ·refine ak.sq fun ai=>.region<|.I Z<|.nil<|ai<|.rt (by exact aH Z (⟨by (rw [Xv (fun e=>‹¬ l1.getD i 0=l2.getD i 0› (Xk (fun z=>z.getD i 0) e))];rfl),D,a1⟩))
  refine ak.skip<|ad<|.region<|.J Z<|.p (bF (b:=1) Z Z O)<|.I Z<|.nil ?_;exact ⟨i + 1,jc Z Z Z,Z,⟨⟨by omega,hl,fun j h=>(XW.1 h).elim (hq j) (fun z=>by subst z;exact Decidable.not_not.1 ‹_›)⟩,D⟩,O1⟩
 refine ak.exit<|a9<|.sq fun ap=>.region<|.I Z<|.nil<|ap<|.rt (by exact aH Z (⟨by (rw [XJ (oL hl (fun j h=>hq j O))];rfl),D,a1⟩))
theorem Wv (k1 s1 k2 s2:Int) (a9 ac aa ad:Value) (D a2:List Bool) (N1 N2:List (List Int)) (V a1:List Value) (A:AH) (dz:D.length<=1000000) (dD:N1.length<=1000000) (hrn:∀ r ∈ N1,r.length<=100000) (ap:bJ A 1 a9 (cy D)) (ar:bJ A 1 ac (fh V)) (aT:V.length=N1.length) (bT:∀ i,i < N1.length->bJ A 1 (V.getD i undef) (dy (N1.getD i []))) (ay:bJ A 1 aa (cy a2)) (az:bJ A 1 ad (fh a1)) (aV:a1.length=N2.length) (bU:∀ i,i < N2.length->bJ A 1 (a1.getD i undef) (dy (N2.getD i []))):bH prog 34 #[.agg #[num (k1),num (s1),a9,ac],.agg #[num (k2),num (s2),aa,ad]] A (fun v A1=>v=.bool (decide (k1=k2/\s1=s2/\D=a2/\N1=N2))/\A.le A1/\A1.wf):=by
 refine bi (e:=[(0,.agg #[num (k1),num (s1),a9,ac]),(1,.agg #[num (k2),num (s2),aa,ad])]) (args:=[.agg #[num (k1),num (s1),a9,ac],.agg #[num (k2),num (s2),aa,ad]]) call34 func34 Z results34 ntmps34 Z Z Z (fun wf=>?_);have cf:=AH.le.refl A;refine ak.sq fun h2=>.region<|.m (fun bV=>d8 wf rfl rfl fun A5 b4 aB=>?_);refine bV<|.m (fun bY=>d8 aB.wf rfl rfl fun A10 b9 a0=>?_);have ai:=a0.le.g aB.get;have a3:=(cf.trans aB.le).trans a0.le;refine bY<|.I Z<|.nil<|h2<|.sq fun ba=>.sq fun av=>.region<|.p (ae vt dH U Z)<|.p (ah fA Z Z ai Z)<|.p (ae vt dH U Z) ?_;refine Ops.p (ah fA Z Z a0.get Z)<|.p (PK Z Z)<|.J Z<|.part (t:=12) Z (fun ch=>?_) (fun ch=>?_)
 ·refine Ops.off Z Z Z Z<|.off Z Z Z Z<|.off Z Z Z Z<|.off Z Z Z Z<|.off Z Z Z Z<|.p (aL Z Z)<|.J Z<|.off Z Z Z Z<|.off Z Z Z Z<|.off Z Z Z Z ?_;refine Ops.off Z Z Z Z<|.off Z Z Z Z<|.off Z Z Z Z<|.off Z Z Z Z<|.p (aL Z Z)<|.J Z<|.off Z Z Z Z<|.off Z Z Z Z<|.off Z Z Z Z<|.off Z Z Z Z ?_;refine Ops.off Z Z Z Z<|.off Z Z Z Z<|.off Z Z Z Z<|.p (aL Z Z)<|.nil<|av<|.cond_true Z<|.sq fun bb=>.region<|.I Z ?_;refine Ops.nil<|bb<|.rt (by exact aH Z (⟨by (rw [Xv (fun e=>‹¬ k1=k2› e.1)];rfl),a3,a0.wf⟩))
 refine Ops.on Z Z<|.p (ae yg dH U Z)<|.on Z Z<|.p (ah fA Z Z ai Z)<|.on Z Z<|.p (ae yg dH U Z)<|.on Z Z<|.p (ah fA Z Z a0.get Z)<|.on Z Z<|.p (PK Z Z) ?_;refine Ops.p (bh Z Z)<|.J Z<|.part (t:=19) Z (fun ck=>?_) (fun ck=>?_)
 ·refine Ops.off Z Z Z Z<|.off Z Z Z Z<|.off Z Z Z Z<|.off Z Z Z Z<|.off Z Z Z Z<|.off Z Z Z Z<|.off Z Z Z Z<|.p (aL Z Z)<|.J Z<|.off Z Z Z Z ?_;refine Ops.off Z Z Z Z<|.off Z Z Z Z<|.off Z Z Z Z<|.off Z Z Z Z<|.off Z Z Z Z<|.off Z Z Z Z<|.p (aL Z Z)<|.nil<|av<|.cond_true Z ?_;refine ak.sq fun bc=>.region<|.I Z<|.nil<|bc<|.rt (by exact aH Z (⟨by (rw [Xv (fun e=>‹¬ s1=s2› e.2.1)];rfl),a3,a0.wf⟩))
 refine Ops.on Z Z<|.p (ae m0 jt U Z)<|.on Z Z<|.p (ah jr Z Z ai Z)<|.on Z Z<|.p (bE (n:=D.length) nA Z (ap.le a3) O (gx _))<|.on Z Z<|.p (ae m0 jt U Z)<|.on Z Z<|.p (ah jr Z Z a0.get Z) ?_;refine Ops.on Z Z<|.p (bE (n:=a2.length) nA Z (ay.le a3) O (gx _))<|.on Z Z<|.p (eB Z Z)<|.p (bh Z Z)<|.J Z<|.part (t:=28) Z (fun cu=>?_) (fun cu=>?_)
 ·refine Ops.off Z Z Z Z<|.off Z Z Z Z<|.off Z Z Z Z<|.off Z Z Z Z<|.off Z Z Z Z<|.off Z Z Z Z<|.off Z Z Z Z<|.p (aL Z Z)<|.nil<|av ?_;refine ak.cond_true Z<|.sq fun bd=>.region<|.I Z<|.nil<|bd<|.rt (by exact aH Z (⟨by (rw [Xv (fun e=>‹¬ D.length=a2.length› (Xk List.length e.2.2.1))];rfl),a3,a0.wf⟩))
 refine Ops.on Z Z<|.p (ae m4 jM U Z)<|.on Z Z<|.p (ah ln Z Z ai Z)<|.on Z Z<|.p (bE (n:=V.length) qq Z (ar.le a3) O (jJ _))<|.on Z Z<|.p (ae m4 jM U Z)<|.on Z Z<|.p (ah ln Z Z a0.get Z) ?_;refine Ops.on Z Z<|.p (bE (n:=a1.length) qq Z (az.le a3) O (jJ _))<|.on Z Z<|.p (eB Z Z)<|.p (bh Z Z)<|.nil<|av<|.if rfl (fun cv=>?_) (fun cv=>?_)
 ·refine ak.sq fun bl=>.region<|.I Z<|.nil<|bl<|.rt (by exact aH Z (⟨by (rw [Xv (fun e=>‹¬ V.length=a1.length› (by rw [aT,aV,e.2.2.2]))];rfl),a3,a0.wf⟩))
 refine ak.skip<|ba<|.sq fun bm=>.sq fun bp=>.region<|.I Z<|.nil<|bp<|.block<|.loop (X:=Nat) (fun i=>[(2,.pointer (some ⟨b4,0,none⟩)),(3,.pointer (some ⟨b9,0,none⟩)),(5,num ((i:Nat):Int))]) (fun i B=>(i<=D.length/\(k1=k2/\s1=s2/\D.length=a2.length/\V.length=a1.length)/\∀ j,j < i->D.getD j false=a2.getD j false)/\A.le B/\B.get b4=some (.row true [num (k1),num (s1),a9,ac] 4)/\B.get b9=some (.row true [num (k2),num (s2),aa,ad] 4)) (fun i=>D.length - i) 0 (jc Z Z Z) (⟨⟨XK _,⟨Decidable.not_not.1 ‹¬ ¬ k1=k2›,Decidable.not_not.1 ‹¬ ¬ s1=s2›,Decidable.not_not.1 ‹¬ ¬ D.length=a2.length›,Decidable.not_not.1 ‹¬ ¬ V.length=a1.length›⟩,fun j h=>by omega⟩,a3,ai,a0.get⟩) ?_;rintro i B35 ⟨⟨hi,hl,hq⟩,a8,a4,a7⟩;refine ak.wf fun aY=>?_;obtain ⟨aD,aE,aF,c3⟩:=hl;refine ak.sq fun br=>.sq fun bu=>.region<|.J Z<|.p (ae m0 jt U Z)<|.p (ah jr Z Z a4 Z)<|.p (bE (n:=D.length) nA Z (ap.le a8) O (gx _))<|.p (ca Z Z)<|.nil<|bu ?_;refine ak.if rfl (fun cA=>?_) (fun cA=>?_)
 ·refine ak.skip<|br<|.sq fun bv=>.block<|.sq fun bA=>.drawn [0,1,2,3,4,5,6,7,8,9,10] mixed Y Y Z<|.p Z (ae m0 jt U Z)<|.p Z (ah jr Z Z a4 Z)<|.p Z (aN Z) ?_;obtain ⟨dd,dl,d0,dV,cU,dL,dG,b0,c4,b5,cH,aG⟩:=bJ.at (i:=i) (ap.le a8) Of O;refine bn.p Z (au nA nR Z b0 Z c4)<|.p Z (ah wQ Z Z b5 ((dt aG).trans (fg O)))<|.p Z (ae m0 jt U Z)<|.p Z (ah jr Z Z a7 Z)<|.p Z (aN Z) ?_;obtain ⟨di,dm,d1,dW,cV,dM,dI,b1,c7,b6,cK,aI⟩:=bJ.at (i:=i) (ay.le a8) Of O;refine bn.p Z (au nA nR Z b1 Z c7)<|.p Z (ah wQ Z Z b6 ((dt aI).trans (fg O)))<|.p Z (qbneq u4 Z Z)<|.done<|bA<|.ifB Z (fun cB=>?_) (fun cB=>?_)
  ·refine ak.sq fun bB=>.region<|.I Z<|.nil<|bB<|.rt (by exact aH Z (⟨by (rw [Xv (fun e=>absurd (Xk (fun z=>z.getD i false) e.2.2.1) (by simpa using ‹(!(D.getD i false == a2.getD i false))=true›))];rfl),a8,aY⟩))
  refine ak.skip<|bv<|.region<|.J Z<|.p (bF (b:=1) Z Z O)<|.I Z<|.nil ?_;exact ⟨i + 1,jc Z Z Z,Z,⟨⟨by omega,⟨aD,aE,aF,c3⟩,fun j h=>(XW.1 h).elim (hq j) (fun z=>by subst z;simpa using ‹(!(D.getD j false == a2.getD j false))=false›)⟩,a8,a4,a7⟩,O1⟩
 refine ak.exit<|bm<|.sq fun bC=>.sq fun bD=>.region<|.I Z<|.nil<|bD<|.block<|.loop (X:=Nat) (fun j=>[(2,.pointer (some ⟨b4,0,none⟩)),(3,.pointer (some ⟨b9,0,none⟩)),(6,num ((j:Nat):Int))]) (fun j B=>(j<=V.length/\D=a2/\∀ z,z < j->N1.getD z []=N2.getD z [])/\A.le B/\B.get b4=some (.row true [num (k1),num (s1),a9,ac] 4)/\B.get b9=some (.row true [num (k2),num (s2),aa,ad] 4)) (fun j=>V.length - j) 0 (jc Z Z Z) (⟨⟨XK _,oL aF (fun j h=>hq j O),fun j h=>by omega⟩,a8,a4,a7⟩) ?_;rintro j B56 ⟨⟨hj,hac,hr⟩,a5,a6,ab⟩;refine ak.wf fun aZ=>?_;have hrj:=fun q:j < N1.length=>hrn _ (bj (d:=([]:List Int)) q);refine ak.sq fun bL=>.sq fun bM=>.region<|.J Z<|.p (ae m4 jM U Z)<|.p (ah ln Z Z a6 Z)<|.p (bE (n:=V.length) qq Z (ar.le a5) O (jJ _))<|.p (ca Z Z)<|.nil<|bM ?_;refine ak.if rfl (fun cC=>?_) (fun cC=>?_)
 ·refine ak.skip<|bL<|.sq fun bO=>.block<|.sq fun bP=>.drawn [0,1,2,3,4,5,6,7,8,9,10,11] mixed Y Y Z<|.p Z (ae m4 jM U Z)<|.p Z (ah ln Z Z a6 Z)<|.p Z (aN Z) ?_;obtain ⟨dj,dv,d2,dZ,cX,dO,dJ,b2,cb,b7,cP,aP⟩:=bJ.at (i:=j) (ar.le a5) Ok O;refine bn.p Z (au qq gU Z b2 Z cb)<|.p Z (ah nI Z Z b7 ((dt aP).trans (fP O)))<|.p Z (ae m4 jM U Z)<|.p Z (ah ln Z Z ab Z)<|.p Z (aN Z) ?_;obtain ⟨dk,dw,d3,e0,cZ,dS,dK,b3,cc,b8,cS,aR⟩:=bJ.at (i:=j) (az.le a5) Ok O;refine bn.p Z (au qq gU Z b3 Z cc)<|.p Z (ah nI Z Z b8 ((dt aR).trans (fP O)))<|.m Z (fun aS=>aq Z (Ku (V.getD j undef) (a1.getD j undef) ((N1.getD j [])) ((N2.getD j [])) B56 (by have:=hrj O;omega) ((bT j O).le a5) ((bU j O).le a5)) ?_);rintro e1 A75 ⟨rfl,ag,aC⟩;have aA:=a5.trans ag;refine aS (aU.none Y)<|.p Z (kI Z)<|.done<|bP<|.if rfl (fun cF=>?_) (fun cF=>?_)
  ·refine ak.sq fun bR=>.region<|.I Z<|.nil<|bR<|.rt (by exact aH Z (⟨by (rw [Xv (fun e=>‹¬ N1.getD j []=N2.getD j []› (Xk (fun z=>z.getD j []) e.2.2.2))];rfl),aA,aC⟩))
  refine ak.skip<|bO<|.region<|.J Z<|.p (bF (b:=1) Z Z O)<|.I Z<|.nil ?_;exact ⟨j + 1,jc Z Z Z,Z,⟨⟨by omega,hac,fun z h=>(XW.1 h).elim (hr z) (fun w=>by subst w;exact Decidable.not_not.1 ‹¬ ¬ N1.getD z []=N2.getD z []›)⟩,aA,(ag.g a6),(ag.g ab)⟩,O1⟩
 refine ak.exit<|bC<|.sq fun bS=>.region<|.I Z<|.nil<|bS<|.rt (by exact aH Z (⟨by (rw [XJ ⟨aD,aE,hac,oL O (fun z h=>hr z O)⟩];rfl),a5,aZ⟩))
theorem Eh (w:W8) (r:Nat) (iv:Bool) (A:AH):bH prog 89 #[ax (w),num ((r:Nat):Int),.bool (iv)] A (fun v A1=>A.le A1/\A1.wf/\Fresh A A1 v 3 (co [⟨w,(r:Int),iv⟩])):=by
 refine bi (e:=[(0,ax (w)),(1,num ((r:Nat):Int)),(2,.bool (iv))]) (args:=[ax (w),num ((r:Nat):Int),.bool (iv)]) call89 func89 Z results89 ntmps89 Z Z Z (fun wf=>?_);have D:=AH.le.refl A;refine ak.sq fun h2=>.region<|.I Z<|.nil<|h2<|.sq fun h4=>.region<|.J Z<|.J Z<|.J Z ?_;refine Ops.p (cx Z (bg u85 Rl pl85 Z))<|.m (fun V=>bf (c:=[ax (w),num ((r:Nat):Int),.bool (iv)]) wf rfl (aw oq jb Rl rfl U U rfl) fun A7 b6 h=>?_);refine V<|.I Z<|.nil<|h4<|.rt (by exact aH Z (⟨(D.trans h.le),h.wf,Fresh.lit h.get (aX wf (Xj D.n h.lo)) Z G⟩))
theorem aaa (A:AH):bH prog 43 #[] A (fun v A1=>∃ bu br a b c d,v=.agg #[num ((2:Nat):Int),(.slice (some ⟨bu,0,none⟩) 1 1),(.slice (some ⟨br,0,none⟩) 4 4)]/\A.le A1/\A1.wf/\bJ A1 1 (.slice (some ⟨bu,0,none⟩) 1 1) (dN ep)/\bJ A1 3 (.slice (some ⟨br,0,none⟩) 4 4) (cd (db a b c d))/\Proofs A1 (db a b c d)):=by
 refine bi (e:=[]) (args:=[]) call43 func43 Z results43 ntmps43 Z Z Z (fun wf=>?_);have aZ:=AH.le.refl A;refine ak.sq fun h2=>.region<|.m (fun bO=>bZ wf Je rfl fun A5 b4 a2=>?_);refine bO<|.nil<|h2<|.sq fun h9=>.region<|.m (fun bd=>bf (c:=[ax ([97,98,65,66])]) a2.wf rfl (aw mp ek z9 rfl U U rfl) fun A12 a9 a1=>?_);have aF:=a1.le.g a2.get;have ai:=(aZ.trans a2.le).trans a1.le;refine bd<|.p (cx Z (bg u24 z24 pl24 Z))<|.m (fun bl=>aq Z (Eh ([]) 0 true A12) ?_);rintro bU A18 ⟨a3,ay,a4⟩;have aG:=a3.g aF;have ap:=ai.trans a3;have ab:=a4.base ai;refine bl ?_;obtain ⟨b0,aS,aB,bP,_⟩:=ab.own.slice;subst bP;refine Ops.p (cx Z (bg u83 wJ GR Z))<|.m (fun bm=>aq Z (Eh ([65]) 0 false A18) ?_);rintro bV A29 ⟨a0,az,a5⟩;have aI:=a0.g aG;have ar:=ap.trans a0;have ac:=a5.base ap;refine bm ?_;obtain ⟨b1,aT,aC,bR,_⟩:=ac.own.slice;subst bR;refine Ops.p (cx Z (bg u83 wJ GR Z))<|.m (fun bp=>aq Z (Eh ([66]) 0 false A29) ?_);rintro bY A42 ⟨X,aA,a6⟩;have aP:=X.g aI;have b5:=(ab.le a0).le X;have av:=ar.trans X;have ad:=a6.base ar;refine bp ?_;obtain ⟨b2,aV,aD,bS,_⟩:=ad.own.slice;subst bS;refine Ops.p (cx Z (bg u83 wJ GR Z))<|.m (fun bv=>aq Z (Eh ([66,65]) 0 true A42) ?_);rintro c3 A57 ⟨V,a8,a7⟩;have aR:=V.g aP;have b6:=(ac.le X).le V;have ag:=a7.base av;refine bv ?_;obtain ⟨b3,aY,aE,bT,_⟩:=ag.own.slice;subst bT;refine Ops.p (cx Z (bg u83 wJ GR Z))<|.m (fun bA=>bf (c:=[ax ([98,97]),ax ([97,98]),.slice b0 aS aB,ax ([98,65]),ax ([65,98]),.slice b1 aT aC,ax ([66,97]),ax ([97,66]),.slice b2 aV aD,ax ([66,65]),ax ([65,66]),.slice b3 aY aE]) a8 rfl (aw i4 eE wJ rfl U U rfl) fun A74 aa h=>?_);have b7:=(b5.le V).le h.le;have b8:=(ad.le V).le h.le;have bC:=(av.trans V).trans h.le;refine bA<|.p (cx Z (bg u27 Je Pz Z))<|.m (fun bB=>aW (cs:=[num ((2:Nat):Int),.slice (some ⟨a9,0,none⟩) 1 1,.slice (some ⟨aa,0,none⟩) 4 4]) (c':=[num ((2:Nat):Int),.slice (some ⟨a9,0,none⟩) 1 1,.slice (some ⟨aa,0,none⟩) 4 4]) h.wf rfl rfl rfl rfl dE (h.le.g aR) G rfl rfl fun A88 D=>?_);have bL:=D.k (ne_new a2.wf a2.get a1.lo).symm (h.le.g (V.g (X.g (a0.g (a3.g a1.get)))));have bM:=D.k (ne_new a8 aR h.lo).symm h.get;have b9:=b7.keep D.keep (a4.ne a1.wf aF);have ba:=(b6.le h.le).keep D.keep (a5.ne ay aG);have bb:=b8.keep D.keep (a6.ne az aI);have bc:=(ag.le h.le).keep D.keep (a7.ne aA aP);have bD:=al bC wf (aX wf (Xj aZ.n a2.lo)) D.n D.keep;refine bB<|.nil<|h9<|.rt (by exact aH (df ei dE Z D.get Z d5) (⟨a9,aa,(Value.slice b0 aS aB),(Value.slice b1 aT aC),(Value.slice b2 aV aD),(Value.slice b3 aY aE),rfl,bD,D.wf,fu (n:=1) bL rfl (XV _),fu (n:=4) bM rfl (XV _),fun r hr=>by simp only [db,Vz,Ty,or_false] at hr;rcases hr with rfl | rfl | rfl | rfl;exact b9.slc;exact ba.slc;exact bb.slc;exact bc.slc⟩))
theorem s_ChkP (u:Value) (br:Nat) (a b c d:Value) (A:AH) (h:gR A u (.slice (some ⟨br,0,none⟩) 4 4) a b c d):bH prog 12 #[.agg #[num ((2:Nat):Int),u,(.slice (some ⟨br,0,none⟩) 4 4)]] A (fun v A1=>v=num ((0:Nat):Int)/\A.le A1/\A1.wf) :=
 (ZZ 2 u ep (.slice (some ⟨br,0,none⟩) 4 4) (db a b c d) A G G h.L h.u h.r h.p).mono (fun v A1 z=>by rw [yw] at z;exact z)
theorem aad (u:Value) (br:Nat) (a b c d:Value) (A:AH) (h:gR A u (.slice (some ⟨br,0,none⟩) 4 4) a b c d):bH prog 21 #[.agg #[num ((2:Nat):Int),u,(.slice (some ⟨br,0,none⟩) 4 4)],ax [98,98,97,65]] A (fun v A1=>∃ dv,v=.tuple #[.agg #[ax [98,98],num ((4:Nat):Int),dv],num ((0:Nat):Int)]/\A.le A1/\A1.wf/\Fresh A A1 dv 3 (co (jZ 2 ep (db a b c d) [98,98,97,65]).disk)) :=
 (px 2 u ep (.slice (some ⟨br,0,none⟩) 4 4) (db a b c d) [98,98,97,65] A G G h.L h.u h.r h.p).mono (fun v A1 z=>by have e:=Zz a b c d;rw [e.1,e.2.1,e.2.2] at z;exact z)
theorem aae (u:Value) (br:Nat) (a b c d:Value) (A:AH) (h:gR A u (.slice (some ⟨br,0,none⟩) 4 4) a b c d):bH prog 21 #[.agg #[num ((2:Nat):Int),u,(.slice (some ⟨br,0,none⟩) 4 4)],ax [98,97,66]] A (fun v A1=>∃ dv,v=.tuple #[.agg #[ax [97],num ((1:Nat):Int),dv],num ((0:Nat):Int)]/\A.le A1/\A1.wf/\Fresh A A1 dv 3 (co (jZ 2 ep (db a b c d) [98,97,66]).disk)) :=
 (px 2 u ep (.slice (some ⟨br,0,none⟩) 4 4) (db a b c d) [98,97,66] A G G h.L h.u h.r h.p).mono (fun v A1 z=>by have e:=ZA a b c d;rw [e.1,e.2.1,e.2.2] at z;exact z)
theorem aaf (u:Value) (br:Nat) (a b c d:Value) (A:AH) (h:gR A u (.slice (some ⟨br,0,none⟩) 4 4) a b c d):bH prog 21 #[.agg #[num ((2:Nat):Int),u,(.slice (some ⟨br,0,none⟩) 4 4)],ax [98,97,98,97]] A (fun v A1=>∃ dv,v=.tuple #[.agg #[ax [97,97,98,98],num ((3:Nat):Int),dv],num ((0:Nat):Int)]/\A.le A1/\A1.wf/\Fresh A A1 dv 3 (co (jZ 2 ep (db a b c d) [98,97,98,97]).disk)) :=
 (px 2 u ep (.slice (some ⟨br,0,none⟩) 4 4) (db a b c d) [98,97,98,97] A G G h.L h.u h.r h.p).mono (fun v A1 z=>by have e:=ZB a b c d;rw [e.1,e.2.1,e.2.2] at z;exact z)
theorem Wj (u:Value) (br:Nat) (a b c d:Value) (A:AH) (h:gR A u (.slice (some ⟨br,0,none⟩) 4 4) a b c d):bH prog 28 #[.agg #[num ((2:Nat):Int),u,(.slice (some ⟨br,0,none⟩) 4 4)]] A (fun v A1=>v=.tuple #[.bool true,YF .zero,num ((0:Nat):Int)]/\A.le A1/\A1.wf) :=
 (uV 2 u ep (.slice (some ⟨br,0,none⟩) 4 4) (db a b c d) A G G (fun _=>(uQ a b c d).1) h.L h.u h.r h.p).mono (fun v A1 z=>by rw [ZC] at z;exact z)
theorem PY (u:Value) (br:Nat) (a b c d:Value) (A:AH) (h:gR A u (.slice (some ⟨br,0,none⟩) 4 4) a b c d):bH prog 28 #[.agg #[num ((2:Nat):Int),u,.slice (some ⟨br,0,none⟩) 1 4]] A (fun v A1=>v=.tuple #[.bool false,YF ⟨0,-1,[98,97,65],[97,98,65],[98]⟩,num ((0:Nat):Int)]/\A.le A1/\A1.wf) :=
 (uV 2 u ep _ ((db a b c d).take 1) A G G (fun _=>(uQ a b c d).2.1) h.L h.u h.one.1 h.one.2).mono (fun v A1 z=>by rw [ZG] at z;exact z)
theorem Wi (u:Value) (br:Nat) (a b c d:Value) (A:AH) (h:gR A u (.slice (some ⟨br,0,none⟩) 4 4) a b c d):bH prog 30 #[.agg #[num ((2:Nat):Int),u,(.slice (some ⟨br,0,none⟩) 4 4)]] A (fun v A1=>v=.tuple #[.bool true,num ((0:Nat):Int)]/\A.le A1/\A1.wf) :=
 (Z6 2 u ep (.slice (some ⟨br,0,none⟩) 4 4) (db a b c d) A G G (fun _=>(uQ a b c d).1) h.L h.u h.r h.p).mono (fun v A1 z=>by rw [ZD] at z;exact z)
theorem Wr (u:Value) (br:Nat) (a b c d:Value) (A:AH) (h:gR A u (.slice (some ⟨br,0,none⟩) 4 4) a b c d):bH prog 16 #[.agg #[num ((2:Nat):Int),u,(.slice (some ⟨br,0,none⟩) 4 4)]] A (fun v A1=>v=.bool true/\A.le A1/\A1.wf) :=
 (wD 2 u ep (.slice (some ⟨br,0,none⟩) 4 4) (db a b c d) A G G h.L h.M h.u h.r h.p).mono (fun v A1 z=>by rw [ZE] at z;exact z)
theorem Z7 (u:Value) (br:Nat) (a b c d:Value) (A:AH) (h:gR A u (.slice (some ⟨br,0,none⟩) 4 4) a b c d):bH prog 14 #[.agg #[num ((2:Nat):Int),u,(.slice (some ⟨br,0,none⟩) 4 4)],ax [97,66]] A (fun v A1=>v=.bool true/\A.le A1/\A1.wf) :=
 (tg 2 u ep (.slice (some ⟨br,0,none⟩) 4 4) (db a b c d) [97,66] A G G h.L h.M h.u h.r h.p).mono (fun v A1 z=>by have e:=MG a b c d;rw [yw,e.1,e.2.2.1] at z;exact z)
theorem Z8 (u:Value) (br:Nat) (a b c d:Value) (A:AH) (h:gR A u (.slice (some ⟨br,0,none⟩) 4 4) a b c d):bH prog 14 #[.agg #[num ((2:Nat):Int),u,(.slice (some ⟨br,0,none⟩) 4 4)],ax [66,97]] A (fun v A1=>v=.bool false/\A.le A1/\A1.wf) :=
 (tg 2 u ep (.slice (some ⟨br,0,none⟩) 4 4) (db a b c d) [66,97] A G G h.L h.M h.u h.r h.p).mono (fun v A1 z=>by have e:=MG a b c d;rw [yw,e.2.1,e.2.2.2] at z;exact z)
theorem aah (u:Value) (br:Nat) (a b c d:Value) (A:AH) (h:gR A u (.slice (some ⟨br,0,none⟩) 4 4) a b c d):bH prog 18 #[.agg #[num ((2:Nat):Int),u,(.slice (some ⟨br,0,none⟩) 4 4)],.agg #[num ((2:Nat):Int),u,(.slice (some ⟨br,0,none⟩) 4 4)]] A (fun v A1=>v=.bool true/\A.le A1/\A1.wf) :=
 (s_Same 2 u ep (.slice (some ⟨br,0,none⟩) 4 4) (db a b c d) 2 u ep (.slice (some ⟨br,0,none⟩) 4 4) (db a b c d) A G G G (fun r hr=>by simp only [db,Vz,Ty,or_false] at hr;rcases hr with rfl | rfl | rfl | rfl <;> exact G) h.u h.r h.p h.u h.r h.p).mono (fun v A1 z=>by rw [Vm] at z;exact z)
theorem s_AccP (u:Value) (br:Nat) (a b c d:Value) (A:AH) (h:gR A u (.slice (some ⟨br,0,none⟩) 4 4) a b c d):bH prog 33 #[.agg #[num ((2:Nat):Int),u,(.slice (some ⟨br,0,none⟩) 4 4)]] A (fun v A1=>∃ av2 nv2 rows2,v=.tuple #[.agg #[num ((4:Nat):Int),num ((0:Nat):Int),av2,nv2],num ((0:Nat):Int)]/\A.le A1/\A1.wf/\Fresh A A1 av2 1 (cy [true,true,true,true,true])/\Fresh A A1 nv2 1 (fh rows2)/\mq A A1 rows2 [[1,2,3,4],[1,-1,3,4],[-1,2,3,4],[-1,-1,3,-1],[-1,-1,-1,4]]/\bx av2 nv2/\be av2 rows2/\be nv2 rows2) :=
 (s_Acc 2 u ep (.slice (some ⟨br,0,none⟩) 4 4) (db a b c d) A G G (fun _=>(uQ a b c d).2.2) h.L h.u h.r h.p).mono (fun v A1 z=>by have e:=ZF a b c d;rw [e.1,e.2.1,e.2.2] at z;exact z)
theorem YD:zY prog 47 (.agg #[num 0,num (-1),ax [98,97,65],ax [97,98,65],ax [98]]) (.agg #[num ((0:Nat):Int),num (-1),ax [98,97,65],ax [97,98,65],ax [98]])=some true:=by kernel_rfl
theorem s_sane (A:AH) (hL:ib A) (hM:tl A):bH prog 10 #[] A (fun v A1=>v=.bool true/\A.le A1/\A1.wf):=by
 refine bi (e:=[]) (args:=[]) call10 func10 Z results10 ntmps10 Z Z Z (fun wf=>?_);have hv:=AH.le.refl A;refine ak.sq fun h2=>.region<|.I Z<|.nil<|h2<|.sq fun h4=>.region<|.m (fun hu=>aq Z (aaa A) ?_);rintro v6 A7 ⟨aR,aG,hh,hj,hk,hl,rfl,hg,e7,e5,e4,e3⟩;have e1:=hv.trans hg;have qu:=e5;have qr:=e4;have qp:=e3;have hPl:gR A7 _ _ hh hj hk hl:=⟨hL.le e1,hM.le e1,e5,e4,e3⟩;have leA:=e1;have V:=e7;have leR:=AH.le.refl A7;refine hu<|.m (fun h6=>bZ e7 Je rfl fun A12 iN b8=>?_);refine h6<|.m (fun h7=>aW (cs:=[num ((2:Nat):Int),.slice (some ⟨aR,0,none⟩) 1 1,.slice (some ⟨aG,0,none⟩) 4 4]) (c':=[num ((2:Nat):Int),.slice (some ⟨aR,0,none⟩) 1 1,.slice (some ⟨aG,0,none⟩) 4 4]) b8.wf rfl rfl rfl rfl dE b8.get G rfl rfl fun A16 b9=>?_);have bD:=al (leR.trans b8.le) V (aX V (Xj leR.n b8.lo)) b9.n b9.keep;refine h7<|.nil<|h4<|.sq fun hr=>.region<|.p (am ei dE Z Z b9.get Z)<|.m (fun h8=>aq Z (aad _ _ _ _ _ _ A16 (hPl.le bD)) ?_);rintro j2 A23 ⟨hD,rfl,cS,cV,eV⟩;have g5:=cS.g b9.get;have dW:=bD.trans cS;refine h8<|.J Z<|.p (aQ Z Z)<|.p (aQ Z Z)<|.m (fun h9=>bZ cV s8 rfl fun A31 iR aD=>?_);have gA:=(eV.base bD).le aD.le;refine h9 ?_;obtain ⟨gm,gg,g1,hw,_⟩:=gA.own.slice;subst hw;refine Ops.m (fun ha=>aW (cs:=[ax ([98,98]),num ((4:Nat):Int),.slice gm gg g1]) (c':=[ax ([98,98]),num ((4:Nat):Int),.slice gm gg g1]) aD.wf rfl rfl rfl rfl eW aD.get G rfl rfl fun A39 ba=>?_);have g6:=ba.k (ne_new cV g5 aD.lo) (aD.le.g g5);have bL:=al (dW.trans aD.le) V (aX V (Xj dW.n aD.lo)) ba.n ba.keep;refine ha<|.I Z<|.nil<|hr<|.sq fun hs=>.region<|.p (am ei dE Z Z g6 Z)<|.m (fun hb=>aq Z (aae _ _ _ _ _ _ A39 (hPl.le bL)) ?_);rintro j3 A48 ⟨hE,rfl,b7,bb,eX⟩;have g7:=b7.g g6;have g8:=b7.g ba.get;have dZ:=bL.trans b7;refine hb<|.J Z<|.p (aQ Z Z)<|.p (aQ Z Z)<|.m (fun hc=>bZ bb s8 rfl fun A60 iS ap=>?_);have gC:=(eX.base bL).le ap.le;refine hc ?_;obtain ⟨gp,gl,g4,hx,_⟩:=gC.own.slice;subst hx;refine Ops.m (fun hd=>aW (cs:=[ax ([97]),num ((1:Nat):Int),.slice gp gl g4]) (c':=[ax ([97]),num ((1:Nat):Int),.slice gp gl g4]) ap.wf rfl rfl rfl rfl eW ap.get G rfl rfl fun A71 aZ=>?_);have g9:=aZ.k (ne_new bb g7 ap.lo) (ap.le.g g7);have bM:=al (dZ.trans ap.le) V (aX V (Xj dZ.n ap.lo)) aZ.n aZ.keep;refine hd<|.I Z<|.nil<|hs<|.sq fun ht=>.region<|.p (am ei dE Z Z g9 Z)<|.m (fun he=>aq Z (aaf _ _ _ _ _ _ A71 (hPl.le bM)) ?_);rintro j4 A82 ⟨hF,rfl,aI,aP,eY⟩;have gc:=aI.g g9;have ge:=aI.g (aZ.k (ne_new bb g8 ap.lo) (ap.le.g g8));have gf:=aI.g aZ.get;have e0:=bM.trans aI;refine he<|.J Z<|.p (aQ Z Z)<|.p (aQ Z Z)<|.m (fun hf=>bZ aP s8 rfl fun A98 iT a9=>?_);have ez:=(eY.base bM).le a9.le;refine hf ?_;obtain ⟨e2,dV,dk,hm,_⟩:=ez.own.slice;subst hm;refine Ops.m (fun eZ=>aW (cs:=[ax ([97,97,98,98]),num ((3:Nat):Int),.slice e2 dV dk]) (c':=[ax ([97,97,98,98]),num ((3:Nat):Int),.slice e2 dV dk]) a9.wf rfl rfl rfl rfl eW a9.get G rfl rfl fun A112 aA=>?_);have dl:=aA.k (ne_new aP gc a9.lo) (a9.le.g gc);have cf:=al (e0.trans a9.le) V (aX V (Xj e0.n a9.lo)) aA.n aA.keep;refine eZ<|.I Z<|.nil<|ht<|.sq fun gD=>.region<|.p (am ei dE Z Z dl Z)<|.m (fun f0=>aq Z (Wj _ _ _ _ _ _ A112 (hPl.le cf)) ?_);rintro hZ A125 ⟨rfl,av,ay⟩;have dm:=av.g dl;have dv:=av.g (aA.k (ne_new aP ge a9.lo) (a9.le.g ge));have dw:=av.g (aA.k (ne_new aP gf a9.lo) (a9.le.g gf));have dz:=av.g aA.get;have ch:=cf.trans av;refine f0<|.J Z<|.p (aQ Z Z)<|.p (aQ Z Z)<|.p (aQ Z Z)<|.m (fun f1=>bZ ay tk rfl fun A137 hV a1=>?_);refine f1<|.I Z<|.m (fun f2=>aW (cs:=[num ((0:Nat):Int),num ((0:Nat):Int),ax ([]),ax ([]),ax ([])]) (c':=[num ((0:Nat):Int),num ((0:Nat):Int),ax ([]),ax ([]),ax ([])]) a1.wf rfl rfl rfl rfl gy a1.get G rfl rfl fun A151 ar=>?_);have dD:=ar.k (ne_new ay dm a1.lo) (a1.le.g dm);have ck:=al (ch.trans a1.le) V (aX V (Xj ch.n a1.lo)) ar.n ar.keep;refine f2<|.I Z<|.nil<|gD<|.sq fun gE=>.region<|.p (am ei dE Z Z dD Z)<|.m (fun f3=>aq Z (Wi _ _ _ _ _ _ A151 (hPl.le ck)) ?_);rintro i1 A165 ⟨rfl,ad,hy⟩;have dG:=ad.g dD;have cu:=ck.trans ad;refine f3<|.J Z<|.p (aQ Z Z)<|.p (aQ Z Z)<|.I Z<|.I Z<|.nil<|gE<|.sq fun gF=>.sq fun gG=>?_;refine ak.region ?_;skip;refine Ops.p (am ei dE Z Z dG Z)<|.m (fun f4=>aq Z (s_ChkP _ _ _ _ _ _ A165 (hPl.le cu)) ?_);rintro i2 A182 ⟨rfl,ag,hz⟩;have dI:=ag.g dG;have bp:=ag.g (ad.g (ar.k (ne_new ay dv a1.lo) (a1.le.g dv)));have br:=ag.g (ad.g (ar.k (ne_new ay dw a1.lo) (a1.le.g dw)));have bu:=ag.g (ad.g (ar.k (ne_new ay dz a1.lo) (a1.le.g dz)));have cv:=cu.trans ag;refine f4<|.p (((eB (a:=0) (b:=0) Z Z).trans (Xk (fun z=>some (Value.bool z,[])) (Xv (fun q=>q Z)))))<|.J Z<|.on Z Z<|.J Z<|.on Z Z<|.p (((eB (a:=0) (b:=0) Z Z).trans (Xk (fun z=>some (Value.bool z,[])) (Xv (fun q=>q Z)))))<|.p (bh Z Z)<|.J Z<|.on Z Z ?_;refine Ops.J Z<|.on Z Z<|.p (((eB (a:=0) (b:=0) Z Z).trans (Xk (fun z=>some (Value.bool z,[])) (Xv (fun q=>q Z)))))<|.p (bh Z Z)<|.J Z<|.on Z Z<|.J Z<|.on Z Z<|.p (((eB (a:=0) (b:=0) Z Z).trans (Xk (fun z=>some (Value.bool z,[])) (Xv (fun q=>q Z)))))<|.p (bh Z Z) ?_;refine Ops.J Z<|.on Z Z<|.J Z<|.on Z Z<|.p (((eB (a:=0) (b:=0) Z Z).trans (Xk (fun z=>some (Value.bool z,[])) (Xv (fun q=>q Z)))))<|.p (bh Z Z)<|.J Z<|.on Z Z<|.J Z<|.on Z Z ?_;refine Ops.p (((eB (a:=0) (b:=0) Z Z).trans (Xk (fun z=>some (Value.bool z,[])) (Xv (fun q=>q Z)))))<|.p (bh Z Z)<|.J Z<|.on Z Z<|.p (ae jT ek U Z)<|.on Z Z<|.p (ah eJ Z Z bp Z)<|.on Z Z<|.p (((nh Z Z).trans (Xk (fun z=>some (Value.bool z,[])) (Xv (fun q=>q Z)))))<|.p (bh Z Z) ?_;refine Ops.J Z<|.on Z Z<|.p (ae qc dH U Z)<|.on Z Z<|.p (ah fA Z Z bp Z)<|.on Z Z<|.p (((eB (a:=4) (b:=4) Z Z).trans (Xk (fun z=>some (Value.bool z,[])) (Xv (fun q=>q Z)))))<|.p (bh Z Z)<|.J Z<|.on Z Z ?_;refine Ops.p (ae jT ek U Z)<|.on Z Z<|.p (ah eJ Z Z br Z)<|.on Z Z<|.p (((nh Z Z).trans (Xk (fun z=>some (Value.bool z,[])) (Xv (fun q=>q Z)))))<|.p (bh Z Z)<|.J Z<|.on Z Z<|.p (ae qc dH U Z)<|.on Z Z ?_;refine Ops.p (ah fA Z Z br Z)<|.on Z Z<|.p (((eB (a:=1) (b:=1) Z Z).trans (Xk (fun z=>some (Value.bool z,[])) (Xv (fun q=>q Z)))))<|.p (bh Z Z)<|.J Z<|.on Z Z<|.p (ae jT ek U Z)<|.on Z Z<|.p (ah eJ Z Z bu Z)<|.on Z Z ?_;refine Ops.p (((nh Z Z).trans (Xk (fun z=>some (Value.bool z,[])) (Xv (fun q=>q Z)))))<|.p (bh Z Z)<|.J Z<|.on Z Z<|.p (ae qc dH U Z)<|.on Z Z<|.p (ah fA Z Z bu Z)<|.on Z Z<|.p (((eB (a:=3) (b:=3) Z Z).trans (Xk (fun z=>some (Value.bool z,[])) (Xv (fun q=>q Z)))))<|.p (bh Z Z) ?_;refine Ops.J Z<|.on Z Z<|.J Z<|.on Z Z<|.p (eD Z)<|.p (bh Z Z)<|.J Z<|.on Z Z<|.J Z<|.on Z Z ?_;refine Ops.p (eD Z)<|.p (bh Z Z)<|.J Z<|.on Z Z<|.p (am ei dE Z Z dI Z)<|.on Z Z<|.m (fun f6=>aq Z (Wr _ _ _ _ _ _ A182 (hPl.le cv)) ?_);rintro ih A195 ⟨rfl,ai,hA⟩;have bv:=ai.g dI;have aa:=cv.trans ai;refine f6<|.on Z Z<|.p (eD Z)<|.p (bh Z Z)<|.nil<|gG<|.cond_false Z<|.skip<|gF<|.sq fun gL=>?_;refine ak.region<|.p (am ei dE Z Z bv Z)<|.m (fun f7=>aq Z (s_AccP _ _ _ _ _ _ A195 (hPl.le aa)) ?_);rintro ir A210 ⟨hp,hq,d1,rfl,bc,az,b2,b3,a6,cX,cZ,d0⟩;have dJ:=bc.g bv;have cA:=aa.trans bc;have xa:=b2;have xv:=b3;have xf:=a6;have iV:=cX;have iX:=cZ;have j1:=d0;have hH:=a6.ne bv;have hI:=a6.ne (ai.g bp);have hJ:=a6.ne (ai.g br);have hK:=a6.ne (ai.g bu);have hN:=a6.ne (ai.g (ag.g (ad.g ar.get)));refine f7<|.J Z<|.p (aQ Z Z)<|.p (aQ Z Z)<|.m (fun f8=>bZ az Ri rfl fun A238 hW a2=>?_);have fT:=(b2.base aa).own.ne_new az a2.lo;have fV:=(b3.base aa).own.ne_new az a2.lo;have fX:=(a6.base aa).ne_new az a2.lo;have cb:=(b2.base aa).le a2.le;have cc:=(b3.base aa).le a2.le;have e9:=(a6.base aa).le a2.le;refine f8 ?_;obtain ⟨bO,bB,bl,hn,_⟩:=cb.own.slice;subst hn;obtain ⟨bP,bC,bm,ho,_⟩:=cc.own.slice;subst ho;refine Ops.m (fun f9=>aW (cs:=[num ((4:Nat):Int),num ((0:Nat):Int),.slice bO bB bl,.slice bP bC bm]) (c':=[num ((4:Nat):Int),num ((0:Nat):Int),.slice bO bB bl,.slice bP bC bm]) a2.wf rfl rfl rfl rfl lg a2.get G rfl rfl fun A261 a8=>?_);have bR:=e9.keep a8.keep fX;refine f9<|.I Z<|.nil<|gL<|.sq fun gM=>.sq fun gN=>.region<|.J Z<|.p (((eB (a:=0) (b:=0) Z Z).trans (Xk (fun z=>some (Value.bool z,[])) (Xv (fun q=>q Z)))))<|.J Z ?_;refine Ops.on Z Z<|.p (am sU lg Z Z a8.get Z)<|.on Z Z<|.m (fun fd=>bf (c:=[.bool (true),.bool (true),.bool (true),.bool (true),.bool (true)]) a8.wf rfl (aw nA nR z4 rfl U U rfl) fun A281 gq a7=>?_);have hO:=bR.ne_new a8.wf a7.lo;have eA:=(cb.keep a8.keep fT).le a7.le;have eC:=(cc.keep a8.keep fV).le a7.le;have bS:=bR.le a7.le;refine fd<|.on Z Z<|.m (fun fe=>bf (c:=[num ((1:Nat):Int),num ((2:Nat):Int),num ((3:Nat):Int),num ((4:Nat):Int)]) a7.wf rfl (aw fk dH z3 rfl U U rfl) fun A304 d2 a5=>?_);have hP:=bS.ne_new a7.wf a5.lo;have bT:=bS.le a5.le;have fQ:=((al (cA.trans a2.le) V (aX V (Xj cA.n a2.lo)) a8.n a8.keep).trans a7.le).trans a5.le;refine fe<|.on Z Z<|.m (fun fi=>bf (c:=[num ((1:Nat):Int),num (-1),num ((3:Nat):Int),num ((4:Nat):Int)]) a5.wf rfl (aw fk dH z3 rfl U U rfl) fun A328 d3 a4=>?_);have hQ:=bT.ne_new a5.wf a4.lo;have eG:=(eA.le a5.le).le a4.le;have eL:=(eC.le a5.le).le a4.le;have bU:=bT.le a4.le;refine fi<|.on Z Z<|.m (fun fl=>bf (c:=[num (-1),num ((2:Nat):Int),num ((3:Nat):Int),num ((4:Nat):Int)]) a4.wf rfl (aw fk dH z3 rfl U U rfl) fun A353 dd a3=>?_);have hR:=bU.ne_new a4.wf a3.lo;have bV:=bU.le a3.le;have fR:=(fQ.trans a4.le).trans a3.le;refine fl<|.on Z Z<|.m (fun fm=>bf (c:=[num (-1),num (-1),num ((3:Nat):Int),num (-1)]) a3.wf rfl (aw fk dH z3 rfl U U rfl) fun A379 di X=>?_);have hS:=bV.ne_new a3.wf X.lo;have eN:=(eG.le a3.le).le X.le;have eQ:=(eL.le a3.le).le X.le;have bY:=bV.le X.le;refine fm<|.on Z Z<|.m (fun fn=>bf (c:=[num (-1),num (-1),num (-1),num ((4:Nat):Int)]) X.wf rfl (aw fk dH z3 rfl U U rfl) fun A406 dj D=>?_);have hT:=bY.ne_new X.wf D.lo;have c3:=bY.le D.le;have fS:=(fR.trans X.le).trans D.le;refine fn<|.on Z Z<|.m (fun fo=>bf (c:=[.slice (some ⟨d2,0,none⟩) 4 4,.slice (some ⟨d3,0,none⟩) 4 4,.slice (some ⟨dd,0,none⟩) 4 4,.slice (some ⟨di,0,none⟩) 4 4,.slice (some ⟨dj,0,none⟩) 4 4]) D.wf rfl (aw qq gU RC rfl U U rfl) fun A434 gs a0=>?_);have hU:=c3.ne_new D.wf a0.lo;have gP:=a0.le.g (D.le.g (X.le.g (a3.le.g (a4.le.g (a5.le.g a7.get)))));have gQ:=a0.le.g (D.le.g (X.le.g (a3.le.g (a4.le.g a5.get))));have gS:=a0.le.g (D.le.g (X.le.g (a3.le.g a4.get)));have gX:=a0.le.g (D.le.g (X.le.g a3.get));have gY:=a0.le.g (D.le.g X.get);have gZ:=a0.le.g D.get;have eS:=(eN.le D.le).le a0.le;have eT:=(eQ.le D.le).le a0.le;have b6:=c3.le a0.le;refine fo<|.on Z Z<|.p (cx Z (bg u62 Ri Vl Z))<|.on Z Z<|.m (fun fq=>aq Z ((Wv 4 0 4 0 (.slice bO bB bl) (.slice bP bC bm) (.slice (some ⟨gq,0,none⟩) 5 5) (.slice (some ⟨gs,0,none⟩) 5 5) [true,true,true,true,true] [true,true,true,true,true] [[1,2,3,4],[1,-1,3,4],[-1,2,3,4],[-1,-1,3,-1],[-1,-1,-1,4]] [[1,2,3,4],[1,-1,3,4],[-1,2,3,4],[-1,-1,3,-1],[-1,-1,-1,4]] d1 [Value.slice (some ⟨d2,0,none⟩) 4 4,Value.slice (some ⟨d3,0,none⟩) 4 4,Value.slice (some ⟨dd,0,none⟩) 4 4,Value.slice (some ⟨di,0,none⟩) 4 4,Value.slice (some ⟨dj,0,none⟩) 4 4] A434 U U U eS.slc eT.slc b6.len (fun i hi=>(b6.fr i hi).slc) (fu (n:=5) gP rfl (XV _)) (fu (n:=5) a0.get rfl (XV _)) rfl (fun i hi=>match i,hi with | 0,_=>fu (n:=4) gQ rfl (XV _) | 1,_=>fu (n:=4) gS rfl (XV _) | 2,_=>fu (n:=4) gX rfl (XV _) | 3,_=>fu (n:=4) gY rfl (XV _) | 4,_=>fu (n:=4) gZ rfl (XV _))).mono (fun v A1 h=>by rw [XJ U] at h;exact h)) ?_);rintro it A463 ⟨rfl,aS,b0⟩;have bA:=aS.g (a0.le.g (D.le.g (X.le.g (a3.le.g (a4.le.g (a5.le.g (a7.le.g (a8.k (ne_new az dJ a2.lo) (a2.le.g dJ)))))))));have c4:=b6.le aS;have cB:=(fS.trans a0.le).trans aS;refine fq<|.on Z Z<|.p (eD Z)<|.p (bh Z Z)<|.nil<|gN<|.cond_false Z<|.skip<|gM<|.sq fun h0=>?_;refine ak.region<|.p (am ei dE Z Z bA Z)<|.m (fun ft=>bZ b0 Je rfl fun A489 hX ab=>?_);have aC:=ne_new b0 bA ab.lo;have cU:=c4.ne_new b0 ab.lo;have b5:=aX V (Xj cB.n ab.lo);have ea:=c4.le ab.le;refine ft<|.m (fun fv=>aW (cs:=[num ((2:Nat):Int),.slice (some ⟨aR,0,none⟩) 1 1,.slice (some ⟨aG,0,none⟩) 4 4]) (c':=[num ((2:Nat):Int),.slice (some ⟨aR,0,none⟩) 1 1,.slice (some ⟨aG,0,none⟩) 4 4]) ab.wf rfl rfl rfl rfl dE ab.get G rfl rfl fun A518 aB=>?_);have dK:=aB.k aC (ab.le.g bA);have ec:=ea.keep aB.keep cU;refine fv<|.nil<|h0<|.sq fun h1=>.region<|.p (ae cW fp U Z)<|.p (ah ga Z Z dK Z)<|.p (jo (j:=1) i4 eE Z Z O)<|.p (ae cW fp U Z)<|.m (fun fD=>aW (cs:=[.slice (some ⟨aG,0,none⟩) 1 4]) (c':=[num ((2:Nat):Int),.slice (some ⟨aR,0,none⟩) 1 1,.slice (some ⟨aG,0,none⟩) 1 4]) aB.wf rfl rfl rfl rfl fp aB.get G rfl rfl fun A543 aE=>?_);have eg:=ec.keep aE.keep cU;have cC:=al (al (cB.trans ab.le) V b5 aB.n aB.keep) V b5 aE.n aE.keep;refine fD<|.nil<|h1<|.sq fun h3=>.region<|.p (am ei dE Z Z aE.get Z)<|.m (fun fE=>aq Z (PY _ _ _ _ _ _ A543 (hPl.le cC)) ?_);rintro iv A569 ⟨rfl,aT,b1⟩;have dL:=aT.g (aE.k aC dK);have c7:=eg.le aT;have cF:=cC.trans aT;refine fE<|.J Z<|.p (aQ Z Z)<|.p (aQ Z Z)<|.p (aQ Z Z)<|.m (fun fI=>bZ b1 tk rfl fun A594 hY ac=>?_);have g0:=c7.ne_new b1 ac.lo;have en:=c7.le ac.le;refine fI<|.I Z<|.m (fun fL=>aW (cs:=[num (0),num (-1),ax ([98,97,65]),ax ([97,98,65]),ax ([98])]) (c':=[num (0),num (-1),ax ([98,97,65]),ax ([97,98,65]),ax ([98])]) ac.wf rfl rfl rfl rfl gy ac.get G rfl rfl fun A624 aF=>?_);have dM:=aF.k (ne_new b1 dL ac.lo) (ac.le.g dL);have ev:=en.keep aF.keep g0;have cH:=al (cF.trans ac.le) V (aX V (Xj cF.n ac.lo)) aF.n aF.keep;refine fL<|.I Z<|.nil<|h3<|.sq fun h5=>.region<|.J Z<|.p (((gI (a:=0) (b:=0) Z Z).trans (Xk (fun z=>some (Value.bool z,[])) (XJ Z))))<|.J Z<|.on Z Z ?_;refine Ops.J Z<|.on Z Z<|.p (eD Z)<|.p (aL Z Z)<|.J Z<|.on Z Z<|.p (am rd gy Z Z aF.get Z)<|.on Z Z<|.p (cx Z (bg QY tk vI Z))<|.on Z Z ?_;refine Ops.p (qeqv Z Z (fun _ _ q=>by cases q) (fun _ q=>by cases q) YD)<|.p (aL Z Z)<|.J Z<|.on Z Z<|.p (am ei dE Z Z dM Z)<|.on Z Z<|.m (fun fM=>aq Z (Z7 _ _ _ _ _ _ A624 (hPl.le cH)) ?_);rintro iD A651 ⟨rfl,aV,hB⟩;have dO:=aV.g dM;have ex:=ev.le aV;have cK:=cH.trans aV;refine fM<|.p (aL Z Z)<|.J Z<|.on Z Z<|.p (am ei dE Z Z dO Z)<|.on Z Z<|.m (fun fN=>aq Z (Z8 _ _ _ _ _ _ A651 (hPl.le cK)) ?_);rintro iF A677 ⟨rfl,aY,hC⟩;have dS:=aY.g dO;have ey:=ex.le aY;have cP:=cK.trans aY;refine fN<|.on Z Z<|.p (eD Z)<|.p (aL Z Z)<|.J Z<|.on Z Z<|.p (am ei dE Z Z dS Z)<|.on Z Z<|.p (am ei dE Z Z dS Z)<|.on Z Z ?_;refine Ops.m (fun fO=>aq Z (aah _ _ _ _ _ _ A677 (hPl.le cP)) ?_);rintro iH A703 ⟨rfl,bd,e6⟩;have hG:=ey.le bd;refine fO<|.p (aL Z Z)<|.I Z<|.nil<|h5<|.rt (by exact aH Z (⟨Z,leA.trans (cP.trans bd),e6⟩))
def eF (held:List (Nat × fC)) (A:AH):Prop:=∀ p ∈ held,∀ q ∈ p.2,A.cell q.1=some q.2
theorem eF.now {ops:Array Oper} {held:List (Nat × fC)} {i:Nat} {A:AH} (h:eF held A):aU ops held i A:=aU.of fun p hp _ q hq=>h p hp q hq
theorem eF.nil {A:AH}:eF [] A:=fun _ h=>by cases h
theorem eF.cons {held:List (Nat × fC)} {i:Nat} {T:fC} {A:AH} (h:∀ q ∈ T,A.cell q.1=some q.2) (h2:eF held A):eF ((i,T) :: held) A:=fun p hp=>(Vz.1 hp).elim (fun q=>q ▸ h) (h2 p)
theorem eF.filter {held:List (Nat × fC)} {f:Nat × fC->Bool} {A:AH} (h:eF held A):eF (held.filter f) A:=fun p hp=>h p (Sq.1 hp).1
def rL (r:an):Bool:=decide (r.left.length<=40) && decide (r.right.length<=40) && decide (r.proof.length<=60) && r.proof.all fun c=>decide (c.conj.length<=200)
def i7 (l:List Wd) (rs:List an):Bool:=decide (rs.length<=30) && decide (l.length<=10) && l.all (fun w=>decide (w.length<=60)) && rs.all rL
section
variable {l:List Wd} {rs:List an} {i j:Nat} {r:an}
theorem lM:rL r=true ↔ r.left.length<=40/\r.right.length<=40/\r.proof.length<=60/\∀ c ∈ r.proof,c.conj.length<=200:=by
  simp only [rL,XQ,Xw,Vx,and_assoc]
theorem iO:i7 l rs=true ↔ rs.length<=30/\l.length<=10/\(∀ w ∈ l,w.length<=60)/\∀ r ∈ rs,rL r=true:=by
  simp only [i7,XQ,Xw,Vx,and_assoc]
theorem rM {P:Prop} (h:i7 l rs=true->False):i7 l rs=false:=by
  cases q:i7 l rs with
  | false=>rfl
  | true=>exact (h q).elim
theorem aaw (h:30 < rs.length):i7 l rs=false:=rM (P:=True) fun q=>by have:=(iO.1 q).1;omega
theorem aax (h:10 < l.length):i7 l rs=false:=rM (P:=True) fun q=>by have:=(iO.1 q).2.1;omega
theorem aay (hi:i < l.length) (h:60 < (l.getD i []).length):i7 l rs=false:=rM (P:=True) fun q=>by have:=(iO.1 q).2.2.1 _ (bj (d:=([]:Wd)) hi);omega
theorem Ek (hi:i < rs.length) (h:40 < (rs.getD i .zero).left.length\/40 < (rs.getD i .zero).right.length\/60 < (rs.getD i .zero).proof.length):i7 l rs=false:=rM (P:=True) fun q=>by
  have:=lM.1 ((iO.1 q).2.2.2 _ (bj (d:=.zero) hi));omega
theorem aaz (hi:i < rs.length) (hj:j < (rs.getD i .zero).proof.length) (h:200 < ((rs.getD i .zero).proof.getD j .zero).conj.length):i7 l rs=false:=rM (P:=True) fun q=>by
  have:=(lM.1 ((iO.1 q).2.2.2 _ (bj (d:=.zero) hi))).2.2.2 _ (bj (d:=bK.zero) hj);omega
theorem xE {α:Type} {p:α->Prop} {l:List α} {d:α} (hi:l.length<=i) (h:∀ j,j < i->p (l.getD j d)):∀ x ∈ l,p x:=fun x hx=>by
  obtain ⟨j,hj,rfl⟩:=VQ hx
  have:=h j O
  rwa [gd hj] at this
theorem QM (h1:rs.length<=30) (h2:l.length<=10) (hi:l.length<=i) (h3:∀ j,j < i->(l.getD j []).length<=60) (hj:rs.length<=j) (h4:∀ k,k < j->rL (rs.getD k .zero)=true):i7 l rs=true :=
  iO.2 ⟨h1,h2,xE (p:=fun w=>w.length<=60) hi h3,xE (p:=fun r=>rL r=true) hj h4⟩
theorem Kz (h1:¬ 40 < r.left.length) (h2:¬ 40 < r.right.length) (h3:¬ 60 < r.proof.length) (hj:r.proof.length<=j) (h4:∀ k,k < j->(r.proof.getD k .zero).conj.length<=200):rL r=true :=
  lM.2 ⟨by omega,by omega,by omega,xE (p:=fun c=>c.conj.length<=200) hj h4⟩
theorem NZ {k:Nat} {d:List bK} (h:∀ c ∈ d,c.conj.length<=k):dp d<=k * d.length:=by
  induction d with
  | nil=>simp [dp]
  | cons a d ih =>
    rw [tq,Xq,Nat.mul_succ]
    have h1:=h a Vy
    have h2:=ih fun c hc=>h c (VZ _ hc)
    omega
theorem BW (h:i7 l rs=true):Sml l rs:=by
  obtain ⟨h1,h2,h3,h4⟩:=iO.1 h
  refine ⟨by omega,fun x hx=>by have:=h3 x hx;omega,by omega,fun r hr=>?_⟩
  have h5:=lM.1 (h4 r hr)
  have h6:=NZ h5.2.2.2
  have h7:dp r.proof<=200 * 60:=Xj h6 (Nat.mul_le_mul_left _ h5.2.2.1)
  omega
theorem KB (h:i7 l rs=true):l.length<=10/\rs.length<=30/\∀ r ∈ rs,r.proof.length<=60:=by
  obtain ⟨h1,h2,h3,h4⟩:=iO.1 h
  exact ⟨h2,h1,fun r hr=>(lM.1 (h4 r hr)).2.2.1⟩
end
theorem aaq (g:Int) (u:Value) (l:List W8) (rv:Value) (rs:List an) (A:AH) (hu:bJ A 1 u (dN l)) (hr:bJ A 3 rv (cd rs)) (hp:Proofs A rs):bH prog 11 #[.agg #[num (g),u,rv]] A (fun v A1=>v=.bool (i7 l rs)/\A.le A1/\A1.wf):=by
 refine bi (e:=[(0,.agg #[num (g),u,rv])]) (args:=[.agg #[num (g),u,rv]]) call11 func11 Z results11 ntmps11 Z Z Z (fun wf=>?_);have bM:=AH.le.refl A;refine ak.sq fun h2=>.region<|.l Z (fun _ _ ab _=>d8 wf rfl rfl fun A5 b4 a8=>?_);have a9:=bM.trans a8.le;refine ab _ _<|.I Z<|.nil<|h2<|.sq fun h9=>.sq fun ag=>.region<|.p (ae cW fp U Z)<|.p (ah ga Z Z a8.get Z)<|.p (bE (n:=rs.length) i4 Z (hr.le a9) O (cL _)) ?_;refine Ops.p (eh (b:=30) Z Z)<|.J Z<|.part (t:=11) Z (fun bO=>?_) (fun bO=>?_)
 ·refine Ops.off Z Z Z Z<|.off Z Z Z Z<|.off Z Z Z Z<|.off Z Z Z Z<|.off Z Z Z Z<|.p (aL Z Z)<|.nil<|ag<|.cond_true Z<|.sq fun aS=>?_;refine ak.region<|.I Z<|.nil<|aS<|.rt (by exact aH Z (⟨by (rw [aaw ‹_›];rfl),a9,a8.wf⟩))
 refine Ops.on Z Z<|.p (ae gi ik U Z)<|.on Z Z<|.p (ae gv mH U Z)<|.on Z Z<|.p (ah mr Z Z a8.get Z)<|.on Z Z<|.p (bE (n:=l.length) mp Z (hu.le a9) O (eP _))<|.on Z Z<|.p (eh (b:=10) Z Z) ?_;refine Ops.p (bh Z Z)<|.nil<|ag<|.if rfl (fun bP=>?_) (fun bP=>?_)
 ·refine ak.sq fun aT=>.region<|.I Z<|.nil<|aT<|.rt (by exact aH Z (⟨by (rw [aax ‹_›];rfl),a9,a8.wf⟩))
 refine ak.skip<|h9<|.sq fun aV=>.sq fun aY=>.region<|.I Z<|.nil<|aY<|.block<|.loop (X:=Nat) (fun j=>[(1,.pointer (some ⟨b4,0,none⟩)),(3,num ((j:Nat):Int))]) (fun j B=>(j<=l.length/\rs.length<=30/\l.length<=10/\∀ k,k < j->(l.getD k []).length<=60)/\A.le B/\B.get b4=some (.row true [num (g),u,rv] 3)) (fun j=>l.length - j) 0 (kE Z Z) (⟨⟨XK _,by omega,by omega,fun k h=>by omega⟩,a9,a8.get⟩) ?_;rintro j B23 ⟨⟨hj,ai,ap,ar⟩,a3,V⟩;refine ak.wf fun aC=>.sq fun aZ=>.sq fun b0=>.region<|.J Z<|.p (ae gi ik U Z)<|.p (ae gv mH U Z)<|.p (ah mr Z Z V Z)<|.p (bE (n:=l.length) mp Z (hu.le a3) O (eP _))<|.p (ca Z Z) ?_;refine Ops.nil<|b0<|.if rfl (fun bR=>?_) (fun bR=>?_)
 ·refine ak.skip<|aZ<|.sq fun b1=>.block<|.sq fun b2=>.region<|.p (ae gi ik U Z)<|.p (ae gv mH U Z)<|.p (ah mr Z Z V Z)<|.J Z ?_;obtain ⟨cB,cH,cu,d1,cf,cX,cS,aE,bC,aI,c7,ay⟩:=bJ.at (i:=j) (hu.le a3) Oj O;refine Ops.p (au mp ek Z aE Z bC)<|.p (ah eJ Z Z aI ((dt ay).trans (fz O)))<|.p (cN u9 Z)<|.p (eh (b:=60) Z Z)<|.nil<|b2<|.if rfl (fun bS=>?_) (fun bS=>?_)
  ·refine ak.sq fun b3=>.region<|.I Z<|.nil<|b3<|.rt (by exact aH Z (⟨by (rw [aay (i:=j) O ‹_›];rfl),a3,aC⟩))
  refine ak.skip<|b1<|.region<|.J Z<|.p (bF (b:=1) Z Z O)<|.I Z<|.nil ?_;exact ⟨j + 1,kE Z Z,Z,⟨⟨by omega,ai,ap,fun k h=>(XW.1 h).elim (ar k) (fun z=>by subst z;omega)⟩,a3,V⟩,O1⟩
 refine ak.exit<|aV<|.sq fun b5=>.sq fun b6=>.region<|.I Z<|.nil<|b6<|.block<|.loop (X:=Nat) (fun i=>[(1,.pointer (some ⟨b4,0,none⟩)),(4,num ((i:Nat):Int))]) (fun i B=>(i<=rs.length/\∀ k,k < i->rL (rs.getD k .zero)=true)/\A.le B/\B.get b4=some (.row true [num (g),u,rv] 3)) (fun i=>rs.length - i) 0 (kE Z Z) (⟨⟨XK _,fun k h=>by omega⟩,a3,V⟩) ?_;rintro i B43 ⟨⟨hi,hc⟩,a4,a0⟩;refine ak.wf fun aa=>.sq fun b7=>.sq fun b8=>.region<|.J Z<|.p (ae cW fp U Z)<|.p (ah ga Z Z a0 Z)<|.p (bE (n:=rs.length) i4 Z (hr.le a4) O (cL _))<|.p (ca Z Z)<|.nil ?_;refine b8<|.if rfl (fun bT=>?_) (fun bT=>?_)
 ·refine ak.skip<|b7<|.sq fun b9=>.block<|.sq fun ba=>.region<|.p (ae cW fp U Z)<|.p (ah ga Z Z a0 Z)<|.J Z ?_;obtain ⟨cC,cK,cv,d2,ch,cZ,cU,aF,bD,aP,av,cc⟩:=bJ.at (i:=i) (hr.le a4) O3 O;refine Ops.p (au i4 eE Z aF Z bD)<|.p (am uo eE Z Z aP (av.trans (Xk some (iI O))))<|.m (fun aA=>bZ aa wJ rfl fun A57 ad a2=>?_);refine aA<|.m (fun aB=>aW (cs:=[ax ((rs.getD i .zero).left),ax ((rs.getD i .zero).right),(rs.getD i .zero).pv]) (c':=[ax ((rs.getD i .zero).left),ax ((rs.getD i .zero).right),(rs.getD i .zero).pv]) a2.wf rfl rfl rfl rfl eE a2.get G (jm (hp.get (show i < rs.length by omega))) rfl fun A62 D=>?_);have a5:=al (a4.trans a2.le) wf (aX wf (Xj a4.n a2.lo)) D.n D.keep;refine aB<|.nil<|ba<|.sq fun bb=>.sq fun ac=>.region<|.p (ae ew ek U Z)<|.p (ah eJ Z Z D.get Z)<|.p (cN u9 Z)<|.p (eh (b:=40) Z Z) ?_;refine Ops.J Z<|.part (t:=50) Z (fun bU=>?_) (fun bU=>?_)
  ·refine Ops.off Z Z Z Z<|.off Z Z Z Z<|.off Z Z Z Z<|.off Z Z Z Z<|.p (aL Z Z)<|.J Z<|.off Z Z Z Z<|.off Z Z Z Z<|.off Z Z Z Z<|.off Z Z Z Z ?_;refine Ops.p (aL Z Z)<|.nil<|ac<|.cond_true Z<|.sq fun bc=>.region<|.I Z<|.nil<|bc<|.rt (by exact aH Z (⟨by (rw [Ek (i:=i) O O];rfl),a5,D.wf⟩))
  refine Ops.on Z Z<|.p (ae jw ek U Z)<|.on Z Z<|.p (ah eJ Z Z D.get Z)<|.on Z Z<|.p (cN u9 Z)<|.on Z Z<|.p (eh (b:=40) Z Z)<|.p (bh Z Z)<|.J Z ?_;refine Ops.part (t:=56) Z (fun bV=>?_) (fun bV=>?_)
  ·refine Ops.off Z Z Z Z<|.off Z Z Z Z<|.off Z Z Z Z<|.off Z Z Z Z<|.p (aL Z Z)<|.nil<|ac<|.cond_true Z<|.sq fun bd=>.region ?_;refine Ops.I Z<|.nil<|bd<|.rt (by exact aH Z (⟨by (rw [Ek (i:=i) O O];rfl),a5,D.wf⟩))
  refine Ops.on Z Z<|.p (ae mg mn U Z)<|.on Z Z<|.p (ah pK Z Z D.get Z)<|.on Z Z<|.p (bE (n:=((rs.getD i .zero).proof).length) oq Z ((hp.get O).le a5) O (dR _))<|.on Z Z<|.p (eh (b:=60) Z Z)<|.p (bh Z Z)<|.nil ?_;refine ac<|.if rfl (fun bY=>?_) (fun bY=>?_)
  ·refine ak.sq fun bl=>.region<|.I Z<|.nil<|bl<|.rt (by exact aH Z (⟨by (rw [Ek (i:=i) O O];rfl),a5,D.wf⟩))
  refine ak.skip<|bb<|.sq fun bm=>.region<|.I Z<|.nil<|bm<|.block<|.loop (X:=Nat) (fun m=>[(1,.pointer (some ⟨b4,0,none⟩)),(4,num ((i:Nat):Int)),(5,.pointer (some ⟨ad,0,none⟩)),(6,num ((m:Nat):Int))]) (fun m B=>(m<=(rs.getD i .zero).proof.length/\∀ k,k < m->((rs.getD i .zero).proof.getD k .zero).conj.length<=200)/\A.le B/\B.get b4=some (.row true [num (g),u,rv] 3)/\B.get ad=some (.row true [ax ((rs.getD i .zero).left),ax ((rs.getD i .zero).right),(rs.getD i .zero).pv] 3)) (fun m=>(rs.getD i .zero).proof.length - m) 0 (jC Z Z Z Z) (⟨⟨XK _,fun k h=>by omega⟩,a5,(D.k (ne_new aa a0 a2.lo) (a2.le.g a0)),D.get⟩) ?_;rintro m B82 ⟨⟨hk,ab⟩,a6,a7,a1⟩;refine ak.wf fun aD=>.sq fun bp=>.sq fun br=>.region<|.J Z<|.p (ae mg mn U Z)<|.p (ah pK Z Z a1 Z)<|.p (bE (n:=((rs.getD i .zero).proof).length) oq Z ((hp.get O).le a6) O (dR _))<|.p (ca Z Z)<|.nil ?_;refine br<|.if rfl (fun c3=>?_) (fun c3=>?_)
  ·refine ak.skip<|bp<|.sq fun bu=>.block<|.sq fun bv=>.region<|.p (ae mg mn U Z)<|.p (ah pK Z Z a1 Z)<|.J Z ?_;obtain ⟨cF,cP,cA,d3,ck,d0,cV,aG,bL,aR,cb,az⟩:=bJ.at (i:=m) ((hp.get O).le a6) Or O;refine Ops.p (au oq jb Z aG Z bL)<|.p (ae jx ek U Z)<|.p (ah eJ Z Z aR ((az 0 U).trans (se O)))<|.p (cN u9 Z)<|.p (eh (b:=200) Z Z)<|.nil<|bv<|.if rfl (fun c4=>?_) (fun c4=>?_)
   ·refine ak.sq fun bA=>.region<|.I Z<|.nil<|bA<|.rt (by exact aH Z (⟨by (rw [aaz (i:=i) (j:=m) O O ‹_›];rfl),a6,aD⟩))
   refine ak.skip<|bu<|.region<|.J Z<|.p (bF (b:=1) Z Z O)<|.I Z<|.nil ?_;exact ⟨m + 1,jC Z Z Z Z,Z,⟨⟨by omega,fun k h=>(XW.1 h).elim (ab k) (fun z=>by subst z;omega)⟩,a6,a7,a1⟩,O1⟩
  refine ak.exit<|b9<|.region<|.J Z<|.p (bF (b:=1) Z Z O)<|.I Z<|.nil ?_;exact ⟨i + 1,kE Z Z,Z,⟨⟨by omega,fun k h=>(XW.1 h).elim (hc k) (fun z=>by subst z;exact Kz ‹_› ‹_› ‹_› O ab)⟩,a6,a7⟩,O1⟩
 refine ak.exit<|b5<|.sq fun bB=>.region<|.I Z<|.nil<|bB<|.rt (by exact aH Z (⟨by (rw [QM ai ap O ar O hc];rfl),a4,aa⟩))
namespace Fr
def NC (w:W8):Prop:=∀ i,i + 1 < w.length->w.getD (i + 1) 0 ≠ w.getD i 0 ^^^ 32
theorem mL {a b:W8} {i:Nat} (h:i < a.length):(a ++ b).getD i 0=a.getD i 0:=by
  rw [Vq,Tv h,<- Vq]
theorem jU {a b:W8} {i:Nat} (h:a.length<=i):(a ++ b).getD i 0=b.getD (i - a.length) 0:=by
  rw [Vq,TZ h,<- Vq]
theorem vx {a:W8} {i n:Nat} (h:i < n):(a.take n).getD i 0=a.getD i 0:=by
  rw [Vq,SX h,<- Vq]
theorem NC.left {a b:W8} (h:NC (a ++ b)):NC a:=fun i hi=>by
  have:=h i (by rw [Xx];omega)
  rwa [mL O,mL O] at this
theorem NC.take {a:W8} (h:NC a) (n:Nat):NC (a.take n):=NC.left (b:=a.drop n) (by rw [VW];exact h)
theorem NC.fold:∀ (w s:W8),NC (s ++ w)->w.foldl push s=s ++ w
  | [],s,_=>by simp
  | c :: w,s,h=>by
    have hp:push s c=s ++ [c]:=by
      unfold push
      rw [Xy]
      rintro ⟨q1,q2⟩
      have:=h (s.length - 1) Oi
      rw [show s.length - 1 + 1=s.length by omega,jU (XV _),mL O,q2,j8] at this
      simp at this
    rw [TQ,hp,NC.fold w (s ++ [c]) (by simpa using h)]
    simp
theorem NC.isRed {w:W8} (h:NC w):mC w=w:=NC.fold w [] (by simpa using h)
theorem NC.pushC {s:W8} (h:NC s) (c:UInt8):NC (push s c):=by
  unfold push
  split
  · exact h.take _
  · rename_i q
    intro i hi
    simp only [Xx,Xq,Xz] at hi
    by_cases e:i + 1 < s.length
    · rw [mL e,mL O];exact h i e
    · have e2:i + 1=s.length:=by omega
      rw [jU O,mL O,show i + 1 - s.length=0 by omega]
      have e3:i=s.length - 1:=by omega
      intro r
      refine q ⟨by omega,?_⟩
      rw [<- e3]
      have r:c=s.getD i 0 ^^^ 32:=r
      rw [r,j8]
theorem NC.ofFold:∀ (w s:W8),NC s->NC (w.foldl push s)
  | [],_,h=>h
  | c :: w,s,h=>NC.ofFold w _ (h.pushC c)
theorem NC.ofRed (w:W8):NC (mC w):=NC.ofFold w [] fun i hi=>by simp at hi
theorem NC.iff (w:W8):NC w ↔ mC w=w:=⟨NC.isRed,fun h=>h ▸ NC.ofRed w⟩
theorem wb {s:W8} {i:Nat} (h:i < s.length):s.take i ++ [s.getD i 0]=s.take (i + 1):=by
  rw [List.take_add_one,SQ h];simp [h]
theorem AN {s:W8} (h:NC s) (c:UInt8):push (push s (c ^^^ 32)) c=s:=by
  by_cases q:0 < s.length/\s.getD (s.length - 1) 0=c ^^^ 32 ^^^ 32
  · have e:push s (c ^^^ 32)=s.take (s.length - 1):=by rw [push,XX q]
    rw [e]
    obtain ⟨q1,q2⟩:=q
    rw [j8] at q2
    have hne:¬ (0 < (s.take (s.length - 1)).length/\(s.take (s.length - 1)).getD ((s.take (s.length - 1)).length - 1) 0=c ^^^ 32):=by
      rintro ⟨r1,r2⟩
      rw [XZ] at r1 r2
      rw [vx O] at r2
      have:=h (s.length - 2) O
      rw [show s.length - 2 + 1=s.length - 1 by omega,q2] at this
      rw [show min (s.length - 1) s.length - 1=s.length - 2 by omega] at r2
      rw [r2,j8] at this
      exact this Z
    rw [push,Xy hne,<- q2]
    have:=wb (s:=s) (i:=s.length - 1) O
    rw [this,show s.length - 1 + 1=s.length by omega,Rj]
  · have e:push s (c ^^^ 32)=s ++ [c ^^^ 32]:=by rw [push,Xy q]
    rw [e,push,XX ⟨by simp,by rw [Xx,jU (by simp)];simp⟩]
    simp
theorem PG {s:W8} (h:NC s) (c:UInt8):push (push s c) (c ^^^ 32)=s:=by
  have:=AN h (c ^^^ 32)
  rwa [j8] at this
theorem Um (c:UInt8) (y:W8):inv (c :: y)=inv y ++ [c ^^^ 32]:=by simp [inv]
theorem YW (a b:W8):inv (a ++ b)=inv b ++ inv a:=by simp [inv]
theorem FG:∀ (x s:W8),NC s->(inv x).foldl push (x.foldl push s)=s
  | [],s,_=>rfl
  | c :: y,s,h=>by
    rw [Um,SZ,show (c :: y).foldl push s=y.foldl push (push s c) from rfl,FG y _ (h.pushC c)]
    exact PG h c
theorem yh (s:W8) (hs:NC s):∀ (b t:W8),NC t->(b.foldl push t).foldl push s=b.foldl push (t.foldl push s)
  | [],_,_=>rfl
  | c :: b,t,ht=>by
    rw [TQ,TQ,yh s hs b _ (ht.pushC c)]
    congr 1
    by_cases q:0 < t.length/\t.getD (t.length - 1) 0=c ^^^ 32
    · have e:push t c=t.take (t.length - 1):=by rw [push,XX q]
      have e2:t=t.take (t.length - 1) ++ [c ^^^ 32]:=by
        have:=wb (s:=t) (i:=t.length - 1) O
        rw [q.2,show t.length - 1 + 1=t.length by omega,Rj] at this
        exact this.symm
      rw [e]
      conv=>rhs;rw [e2,SZ]
      exact (AN (NC.ofFold _ _ hs) c).symm
    · have e:push t c=t ++ [c]:=by rw [push,Xy q]
      rw [e,SZ];rfl
theorem JQ:NC []:=fun i hi=>by simp at hi
theorem MN (a:W8):mC (mC a)=mC a:=(NC.ofRed a).isRed
def E (a b:W8):Prop:=mC a=mC b
theorem E.rf (a:W8):E a a:=rfl
theorem E.of {a b:W8} (h:a=b):E a b:=by rw [h];rfl
theorem E.sm {a b:W8} (h:E a b):E b a:=Eq.symm h
theorem E.tr {a b c:W8} (h:E a b) (k:E b c):E a c:=Eq.trans h k
theorem E.ofRed (a:W8):E (mC a) a:=MN a
theorem ML (a b:W8):mC (a ++ b)=b.foldl push (mC a):=by simp [mC]
theorem Ia (a b:W8):mC (a ++ b)=(mC b).foldl push (mC a):=by
  rw [ML]
  exact (yh (mC a) (NC.ofRed a) b [] JQ).symm
theorem E.app {a a' b b':W8} (h:E a a') (k:E b b'):E (a ++ b) (a' ++ b'):=by
  unfold E at h k ⊢
  rw [Ia,Ia,h,k]
theorem E.cancel (x:W8):E (x ++ inv x) []:=by
  show mC (x ++ inv x)=mC []
  rw [ML]
  exact FG x [] JQ
theorem E.cancel2 (x:W8):E (inv x ++ x) []:=by
  have:=E.cancel (inv x)
  rwa [OL] at this
theorem E.mid (a x b:W8):E (a ++ x ++ inv x ++ b) (a ++ b):=by
  have:=((E.rf a).app (E.cancel x)).app (E.rf b)
  simpa only [XY,Rq] using this
theorem E.mid2 (a x b:W8):E (a ++ inv x ++ x ++ b) (a ++ b):=by
  have:=((E.rf a).app (E.cancel2 x)).app (E.rf b)
  simpa only [XY,Rq] using this
theorem E.ofInv {a b:W8} (h:E a b):E (inv a) (inv b):=by
  have h1:E (inv a ++ b ++ inv b) (inv a):=by
    have:=E.mid (inv a) b []
    simpa only [Sk] using this
  have h2:E (inv a ++ b ++ inv b) (inv a ++ a ++ inv b):=((E.rf _).app h.sm).app (E.rf _)
  have h3:E (inv a ++ a ++ inv b) (inv b):=by
    have:=E.mid2 [] a (inv b)
    simpa only [Rq] using this
  exact h1.sm.tr (h2.tr h3)
theorem AJ (g:Int) {c:UInt8} (h:iu g c=true):iu g (c ^^^ 32)=true:=by
  have key:∀ c:UInt8,0<=ix c->0<=ix (c ^^^ 32)/\ix (c ^^^ 32) / 2=ix c / 2:=iz (by decide +kernel)
  simp only [iu,XQ,Xw] at h ⊢
  have:=key c h.1
  omega
theorem wR {g:Int} {a b:W8} (h:b.all (iu g)=true) (hs:∀ c ∈ a,c ∈ b):a.all (iu g)=true:=by
  rw [Vx] at h ⊢
  exact fun c hc=>h c (hs c hc)
theorem Yn {g:Int} {a:W8} (h:a.all (iu g)=true):(inv a).all (iu g)=true:=by
  rw [Vx] at h ⊢
  intro c hc
  simp only [inv,List.mem_reverse,Vj] at hc
  obtain ⟨d,hd,rfl⟩:=hc
  exact AJ g (h d hd)
theorem R5 {g:Int} {a:W8} (h:a.all (iu g)=true):(cq a).all (iu g)=true:=by
  unfold cq;split
  · exact wR h ZQ
  · rfl
theorem pM {g:Int} {a b:W8} (ha:a.all (iu g)=true) (hb:b.all (iu g)=true):(a ++ b).all (iu g)=true:=by
  rw [List.all_append,ha,hb];rfl
theorem gb {g:Int} {w:W8} (h:bG g w=0):(1<=g/\g<=8)/\w.length<=100000/\w.all (iu g)=true:=by
  unfold bG at h
  split at h
  · cases h
  · split at h
    · cases h
    · split at h
      · rename_i h1 h2 h3;exact ⟨by omega,by omega,h3⟩
      · cases h
theorem j6 {g:Int} {w:W8} (hg:1<=g/\g<=8) (hl:w.length<=100000) (h:w.all (iu g)=true):bG g w=0:=by
  unfold bG
  rw [Xy O,Xy O,XX h]
theorem ut (l:List W8) (d:List bK):lq l d=mC (d.flatMap (kH l)):=by
  unfold lq mC
  rw [List.foldl_flatMap];rfl
end Fr
open Fr
namespace Fr
theorem pQ {u v:W8}:fc u v<=0 ↔ u.length < v.length\/(u.length=v.length/\iK u v<=0):=by
  unfold fc
  by_cases h:u.length=v.length
  · simp [h]
  · by_cases h2:u.length < v.length
    · simp [h,h2]
    · simp [h,h2]
theorem vm:∀ a:W8,iK a a=0
  | []=>by unfold iK;rfl
  | c :: a=>by unfold iK;rw [Xy O,Xy O];exact vm a
theorem vl:∀ a u v:W8,iK (a ++ u) (a ++ v)=iK u v
  | [],_,_=>rfl
  | c :: a,u,v=>by
    show iK (c :: (a ++ u)) (c :: (a ++ v))=_
    rw [iK,Xy O,Xy O];exact vl a u v
theorem tp:∀ u v b:W8,u.length=v.length->iK (u ++ b) (v ++ b)=iK u v
  | [],[],b,_=>by simp only [Rq];rw [vm];unfold iK;rfl
  | [],_ :: _,_,h=>by simp at h
  | _ :: _,[],_,h=>by simp at h
  | x :: u,y :: v,b,h=>by
    show iK (x :: (u ++ b)) (y :: (v ++ b))=_
    rw [iK,iK,tp u v b (by simpa using h)]
theorem xU:∀ a b c:W8,a.length=b.length->b.length=c.length->iK a b<=0->iK b c<=0->iK a c<=0
  | [],b,c,_,_,_,_=>by unfold iK;simp
  | x :: a,[],c,h,_,_,_=>by simp at h
  | x :: a,y :: b,[],_,h,_,_=>by simp at h
  | x :: a,y :: b,z :: c,h1,h2,k1,k2=>by
    rw [iK] at k1 k2 ⊢
    by_cases q1:ix x < ix z
    · rw [XX q1];decide
    · rw [Xy q1]
      by_cases q2:ix x < ix y
      · rw [Xy (show ¬ ix y < ix z by omega),XX (show ix z < ix y by omega)] at k2
        exact absurd k2 U
      · rw [Xy q2] at k1
        by_cases q3:ix y < ix x
        · rw [XX q3] at k1;exact absurd k1 U
        · rw [Xy q3] at k1
          by_cases q4:ix z < ix y
          · rw [Xy O,XX q4] at k2;exact absurd k2 U
          · rw [Xy O,Xy q4] at k2
            rw [Xy O]
            exact xU a b c (by simpa using h1) (by simpa using h2) k1 k2
theorem xW {a b c:W8} (h:fc a b<=0) (k:fc b c<=0):fc a c<=0:=by
  rw [pQ] at h k ⊢
  rcases h with h | ⟨h,h'⟩
  · rcases k with k | ⟨k,_⟩
    · left;omega
    · left;omega
  · rcases k with k | ⟨k,k'⟩
    · left;omega
    · exact .inr ⟨by omega,xU a b c h k h' k'⟩
theorem SH {r l:W8} (h:fc r l < 0) (a b:W8):fc (a ++ r ++ b) (a ++ l ++ b)<=0:=by
  rcases pQ.1 (show fc r l<=0 by omega) with q | ⟨q,q'⟩
  · exact pQ.2 (.inl OJ)
  · refine pQ.2 (.inr ⟨by simp only [Xx];omega,?_⟩)
    rw [tp _ _ _ OJ,vl];exact q'
theorem Ju {a b:W8} (h:a.length < b.length):fc a b<=0:=pQ.2 (.inl h)
theorem NX (a:W8):fc a a<=0:=pQ.2 (.inr ⟨rfl,by rw [vm];omega⟩)
theorem okc8 {g:Int} (hg:g<=8) {w:W8} (h:w.all (iu g)=true):w.all (iu 8)=true:=by
  rw [Vx] at h ⊢
  intro c hc
  have:=h c hc
  simp only [iu,XQ,Xw] at this ⊢
  omega
theorem my {g:Int} (hg:g<=8) {w:W8} (hl:w.length<=100000) (h:w.all (iu g)=true):oU w=true:=by
  simp only [oU,XQ,Xw]
  exact ⟨hl,okc8 hg h⟩
theorem PQ {rs:List an} {o:W8} (h:bq rs o < 0):∀ r ∈ rs,gH o r.left=false:=fun r hr=>by
  unfold bq at h
  split at h
  · omega
  · rename_i q
    obtain ⟨i,hi,rfl⟩:=VQ hr
    have:=RW.1 q i (VV.2 hi)
    simpa [hi] using this
theorem U7 {a w:W8} {i:Nat} (h:vE a w i) (e:i + w.length=a.length):gH a w=true:=by
  obtain ⟨h1,h2⟩:=h
  rw [e,Rj] at h2
  simp only [gH,Xw]
  exact ⟨by omega,by rw [show a.length - w.length=i by omega];exact h2⟩
theorem Gz {a w:W8} {i n:Nat} (h:vE (a.take n) w i):vE a w i:=by
  obtain ⟨h1,h2⟩:=h
  rw [XZ] at h1
  refine ⟨by omega,?_⟩
  rw [List.take_take,QZ O] at h2;exact h2
theorem Va {k w:W8} {c:UInt8} {i:Nat} (h:vE (k ++ [c]) w i):vE k w i\/gH (k ++ [c]) w=true:=by
  by_cases q:i + w.length=(k ++ [c]).length
  · exact .inr (U7 h q)
  · left
    obtain ⟨h1,h2⟩:=h
    rw [Xx,Tw] at h1 q
    refine ⟨by omega,?_⟩
    rw [List.take_append_of_le_length O] at h2;exact h2
theorem Zl {k:W8} {c:UInt8} (h:NC k) (hc:¬ (0 < k.length/\k.getD (k.length - 1) 0=c ^^^ 32)):NC (k ++ [c]):=by
  have:=h.pushC c
  rwa [push,Xy hc] at this
theorem Uo {g:Int} (hg:g<=8) {rs:List an} {k:W8} (hn:NC k) (hk:k.all (iu g)=true) (hl:k.length<=100000) (h:∀ r ∈ rs,∀ i,¬ vE k r.left i):sj rs k=true:=by
  simp only [sj,XQ,Xw,Vx]
  refine ⟨by rw [cq,XX (my hg hl hk)];exact hn.isRed,fun r hr=>?_⟩
  have:¬ 0<=vq k r.left 0:=fun q=>by
    obtain ⟨i,hi⟩:=CJ.1 q
    exact h r hr i hi
  omega
theorem xM {g:Int} (l:List W8) (p:W8):∀ ds:List bK,(∀ c ∈ ds,oU (p ++ c.conj)=true)->E ((ds.map (qE p)).flatMap (kH l)) (p ++ ds.flatMap (kH l) ++ inv p)
  | [],_=>by
    have:=(E.cancel p).sm
    simpa using this
  | c :: ds,hw=>by
    rw [TJ,Sw,Sw]
    have h1:E (kH l (qE p c)) (p ++ kH l c ++ inv p):=by
      have hj:E (cq (p ++ c.conj)) (p ++ c.conj):=by rw [cq,XX (hw c Vy)];exact E.ofRed _
      have hji:=hj.ofInv
      rw [YW] at hji
      have e:kH l (qE p c)=cq (p ++ c.conj) ++ N0 l c ++ inv (cq (p ++ c.conj)):=rfl
      rw [e]
      refine ((hj.app (E.rf _)).app hji).tr (E.of ?_)
      simp only [kH,XY]
    have h2:=xM (g:=g) l p ds fun c hc=>hw c (VZ _ hc)
    refine (h1.app h2).tr ?_
    have:=E.mid2 (p ++ kH l c) p (ds.flatMap (kH l) ++ inv p)
    refine E.tr (E.of ?_) (this.tr (E.of ?_))
    · simp only [XY]
    · simp only [XY]
theorem NI (l:List W8) (p:W8) (d ds:List bK) (hw:∀ c ∈ ds,oU (p ++ c.conj)=true):E (lq l (d ++ ds.map (qE p))) (lq l d ++ p ++ lq l ds ++ inv p):=by
  rw [ut,ut,ut,List.flatMap_append]
  refine (E.ofRed _).tr ?_
  have h:=xM (g:=0) l p ds hw
  refine ((E.ofRed (d.flatMap (kH l))).sm.app h).tr ?_
  have:=(((E.rf (mC (d.flatMap (kH l)) ++ p)).app (E.ofRed (ds.flatMap (kH l))).sm).app (E.rf (inv p)))
  refine E.tr (E.of ?_) this
  simp only [XY]
structure qL (g:Int) (l:List W8) (rs:List an) (w:W8) (s:Jh):Prop where
  eq:E (lq l s.disk ++ (s.stack ++ s.rest.reverse)) w
  qa:s.rest.all (iu g)=true
  ka:s.stack.all (iu g)=true
  nc:NC s.stack
  ir:∀ r ∈ rs,∀ i,¬ vE s.stack r.left i
  dk:∀ c ∈ s.disk,jl g l c=true
  dl:s.disk.length<=100000
  dm:dp s.disk=s.sum/\s.sum<=1000000
  le:fc (s.stack ++ s.rest.reverse) w<=0
theorem qL.len {g:Int} {l:List W8} {rs:List an} {w:W8} {s:Jh} (h:qL g l rs w s):s.stack.length + s.rest.length<=w.length:=by
  rcases pQ.1 h.le with q | ⟨q,_⟩ <;> simp only [Xx,QQ] at q <;> omega
theorem tG {q:W8} (h:q ≠ []):q=qF q ++ [kh q]:=by
  have h0:0 < q.length:=List.length_pos_iff.2 h
  have:=wb (s:=q) (i:=q.length - 1) O
  rw [show q.length - 1 + 1=q.length by omega,Rj] at this
  exact this.symm
theorem AW {q:W8} (h:q ≠ []):q.reverse=kh q :: (qF q).reverse:=by
  conv=>lhs;rw [tG h]
  simp
theorem qL.step {g:Int} {l:List W8} {rs:List an} {w:W8} (hs:bI g l rs=true) (hw:w.length<=20000) {s s':Jh} (h:qL g l rs w s) (hq:s.rest ≠ []) (e:te rs s=some s'):qL g l rs w s':=by
  obtain ⟨q,k,n,d,m⟩:=s
  simp only at hq
  have hlen:=h.len
  obtain ⟨eq,qa,ka,nc,ir,dk,dl,dm,le⟩:=h
  simp only at eq qa ka nc ir dk dl dm le hlen
  have hg:=(dc (cT hs).1).1
  have hql:0 < q.length:=List.length_pos_iff.2 hq
  rw [AW hq] at eq le
  have qp:(qF q).all (iu g)=true:=wR qa fun c hc=>SY hc
  have qt:iu g (kh q)=true:=Vx.1 qa _ (bj O)
  unfold te at e
  simp only at e
  by_cases hc:yk k q
  · rw [XX hc] at e
    cases e
    have hk:k ≠ []:=fun z=>by rw [z] at hc;exact absurd hc.1 (by simp)
    have e2:k ++ kh q :: (qF q).reverse=qF k ++ [kh q ^^^ 32] ++ inv [kh q ^^^ 32] ++ (qF q).reverse:=by
      conv=>lhs;rw [tG hk,hc.2]
      simp [inv,j8]
    refine ⟨?_,qp,wR ka fun c hc=>SY hc,nc.take _,fun r hr i hi=>ir r hr i (Gz hi),dk,dl,dm,?_⟩
    · refine E.tr ?_ eq
      rw [e2]
      have:=(E.mid (lq l d ++ qF k) [kh q ^^^ 32] (qF q).reverse).sm
      refine E.tr (E.of ?_) (this.tr (E.of ?_)) <;> simp only [XY]
    · refine xW (Ju ?_) le
      simp only [Xx,Xq,QQ,XZ];omega
  · rw [Xy hc] at e
    by_cases hr:bq rs (k ++ [kh q]) < 0
    · rw [XX hr] at e
      cases e
      refine ⟨by simpa using eq,qp,?_,Zl nc hc,fun r hm i hi=>?_,dk,dl,dm,by simpa using le⟩
      · rw [List.all_append,ka,Bool.true_and];show (iu g (kh q) && true)=true;rw [qt];rfl
      · rcases Va hi with h1 | h1
        · exact ir r hm i h1
        · rw [PQ hr r hm] at h1;cases h1
    · rw [Xy hr] at e
      split at e
      · rename_i hx
        cases e
        have hK:(k ++ [kh q]).all (iu g)=true:=by rw [List.all_append,ka,Bool.true_and];show (iu g (kh q) && true)=true;rw [qt];rfl
        have hsp:=og hr
        have hm:=uK hr
        obtain ⟨x1,x2,x3,x4⟩:=hx
        have hR:=dx ((cT hs).2.2.1 _ hm)
        have hfx:=ns hs hm
        generalize hU:rY rs (k ++ [kh q])=U at *
        have hC:xY rs (k ++ [kh q])=(k ++ [kh q]).take ((k ++ [kh q]).length - U.left.length):=by unfold xY;rw [hU]
        have hN:Gt rs (k ++ [kh q])=iM (xY rs (k ++ [kh q])) U.proof:=by unfold Gt;rw [hU]
        generalize xY rs (k ++ [kh q])=C at *
        generalize Gt rs (k ++ [kh q])=D at *
        have hend:=hsp.2.1
        simp only [gH,Xw] at hend
        have hsplit:k ++ [kh q]=C ++ U.left:=by
          rw [hC];conv=>lhs;rw [<- VW ((k ++ [kh q]).length - U.left.length) (k ++ [kh q])]
          rw [hend.2]
        have hcw:fc U.right U.left < 0:=by
          have:=hR.2.2.1
          unfold dr at this
          split at this
          · exact this
          · omega
        have a0:0 < U.left.length:=by
          rcases TV U.left.length with z | z
          · exfalso
            have z2:=Vv.1 z
            have z3:U.right=[]:=Vv.1 (by have:=hfx.1;omega)
            rw [z2,z3] at hcw
            simp [fc,iK] at hcw
          · exact z
        have hCk:C=k.take ((k ++ [kh q]).length - U.left.length):=by
          rw [hC,List.take_append_of_le_length Oi]
        have aS:=gb (ii hR.1)
        have aR:=gb (ii hR.2.1)
        have cA:C.all (iu g)=true:=by rw [hCk];exact wR ka fun c hc=>SY hc
        have hpv:=hR.2.2.2
        unfold iC at hpv
        have hck:¬ ¬ xO g l [U.left ++ eb U.right] [U.proof]=0:=fun z=>by rw [XX z] at hpv;exact z hpv
        rw [Xy hck] at hpv
        have hbd:lq l U.proof=mC (U.left ++ eb U.right):=by
          by_cases z:¬ lq l U.proof=mC (U.left ++ eb U.right)
          · rw [XX z] at hpv;cases hpv
          · exact Decidable.not_not.1 z
        rw [eb,XX (my hg.2 aR.2.1 aR.2.2)] at hbd
        have hdk:=(je hck).2.2
        have hcell:=rl hdk
        have okm:∀ c ∈ U.proof,C.length + c.conj.length<=100000:=fun c hc=>by
          have:=Vx.1 x1 c hc
          simpa using this
        have V:∀ c ∈ U.proof,(C ++ c.conj).all (iu g)=true:=fun c hc=>pM cA (gb (hcell c hc).2).2.2
        have hisw:∀ c ∈ U.proof,oU (C ++ c.conj)=true:=fun c hc=>my hg.2 (by rw [Xx];exact okm c hc) (V c hc)
        rw [hN,iM,XX x1] at x4 ⊢
        refine ⟨?_,?_,cA,by rw [hCk];exact nc.take _,fun r X i hi=>ir r X i (Gz (by rw [<- hCk];exact hi)),?_,?_,?_,?_⟩
        · refine E.tr ?_ eq
          have e3:(qF q ++ U.right.reverse).reverse=U.right ++ (qF q).reverse:=by simp
          have e4:k ++ kh q :: (qF q).reverse=C ++ U.left ++ (qF q).reverse:=by rw [<- hsplit];simp
          show E (lq l (d ++ U.proof.map (qE C)) ++ (C ++ (qF q ++ U.right.reverse).reverse)) _
          rw [e3,e4]
          have hb:E (lq l (d ++ U.proof.map (qE C))) (lq l d ++ C ++ (U.left ++ inv U.right) ++ inv C):=by
            refine (NI l C d U.proof hisw).tr ?_
            rw [hbd]
            exact (((E.rf _).app (E.ofRed _)).app (E.rf _))
          refine (hb.app (E.rf _)).tr ?_
          have h1:=E.mid2 (lq l d ++ C ++ (U.left ++ inv U.right)) C (U.right ++ (qF q).reverse)
          have h2:=E.mid2 (lq l d ++ C ++ U.left) U.right (qF q).reverse
          refine E.tr (E.of ?_) (h1.tr (E.tr (E.of ?_) (h2.tr (E.of ?_)))) <;> simp only [XY]
        · exact pM qp (by rw [List.all_reverse];exact aR.2.2)
        · intro c hc
          rcases Vw.1 hc with hc | hc
          · exact dk c hc
          · obtain ⟨x,hx,rfl⟩:=Vj.1 hc
            have h3:=nG (C ++ x.conj)
            rw [Xx] at h3
            exact vF (by have:=(hcell x hx).1.1;show ¬ x.rel < 0;omega) (by have:=(hcell x hx).1.2;show ¬ (l.length:Int)<=x.rel;omega)
              (fun z=>z (j6 hg (by have:=okm x hx;show (cq (C ++ x.conj)).length<=100000;omega) (R5 (V x hx))))
        · simpa using x3
        · exact ⟨by rw [pX,dm.1],x4⟩
        · refine xW ?_ le
          have e3:C ++ (qF q ++ U.right.reverse).reverse=C ++ U.right ++ (qF q).reverse:=by simp
          have e4:k ++ kh q :: (qF q).reverse=C ++ U.left ++ (qF q).reverse:=by rw [<- hsplit];simp
          rw [e4]
          show fc (C ++ (qF q ++ U.right.reverse).reverse) _<=0
          rw [e3]
          exact SH hcw _ _
      · cases e
theorem qL.run {g:Int} {l:List W8} {rs:List an} {w:W8} (hs:bI g l rs=true) (hw:w.length<=20000):∀ (f:Nat) {s s':Jh},qL g l rs w s->iG rs f s=some s'->qL g l rs w s'/\s'.rest=[]
  | 0,s,s',h,e=>by simp [iG] at e
  | f + 1,s,s',h,e=>by
    rw [iG] at e
    by_cases q:s.rest=[]
    · rw [XX q] at e;cases e;exact ⟨h,q⟩
    · rw [Xy q] at e
      split at e
      · cases e
      · rename_i s2 e2
        exact qL.run hs hw f (h.step hs hw q e2) e
theorem qL.start {g:Int} {l:List W8} {rs:List an} {w:W8} (hs:bI g l rs=true) (hw:bG g w=0):qL g l rs w (start w) :=
  ⟨by show E (lq l [] ++ ([] ++ w.reverse.reverse)) w;simp [lq];exact E.rf _,by show w.reverse.all (iu g)=true;rw [List.all_reverse];exact (gb hw).2.2,rfl,JQ,
   fun r hr i hi=>by
     have hR:=dx ((cT hs).2.2.1 r hr)
     have h1:=hi.1
     have z:i + r.left.length<=0:=h1
     have z2:r.left=[]:=Vv.1 O
     have hcw:=hR.2.2.1
     have hfx:=(ns hs hr).1
     have z3:r.right=[]:=Vv.1 (by rw [z2] at hfx;simpa using hfx)
     rw [z2,z3] at hcw
     simp [dr,fc,iK] at hcw,
   (fun c hc=>absurd hc Ty),(by show ([]:List bK).length<=_;simp),⟨rfl,by show (0:Nat)<=_;omega⟩,by show fc ([] ++ w.reverse.reverse) w<=0;simpa using NX w⟩
theorem Ib {g:Int} {l:List W8} {rs:List an} {w:W8} (hs:bI g l rs=true) (hw:bG g w=0) (hl:w.length<=20000) {R:Ja} (h:gT rs w=some R) :
    iC g l R.disk (w ++ eb R.word)=0/\sj rs R.word=true/\bG g R.word=0/\fc R.word w<=0/\dr R.word w<=0/\R.word.length<=w.length:=by
  unfold gT at h
  obtain ⟨s,hr,rfl⟩:=Option.map_eq_some_iff.1 h
  obtain ⟨hi,hn⟩:=qL.run hs hl _ (qL.start hs hw) hr
  have hlen:=hi.len
  have hg:=(dc (cT hs).1).1
  have D:=hi.eq
  have hle:=hi.le
  rw [hn,List.reverse_nil,Sk] at D hle
  have hiw:=my hg.2 (show s.stack.length<=100000 by omega) hi.ka
  have hww:=gb hw
  refine ⟨?_,Uo hg.2 hi.nc hi.ka (show s.stack.length<=100000 by omega) hi.ir,j6 hg (by show s.stack.length<=_;omega) hi.ka,hle,?_,by show s.stack.length<=_;omega⟩
  · have e:eb s.stack=inv s.stack:=by rw [eb,XX hiw]
    show iC g l s.disk (w ++ eb s.stack)=0
    rw [e]
    have hc:xO g l [w ++ inv s.stack] [s.disk]=0:=by
      refine Su (i:=1) (Decidable.not_not.2 (cT hs).1) (by simp) (fun j hj=>?_) ?_
      · obtain rfl:j=0:=by omega
        show bG g (w ++ inv s.stack)=0
        exact j6 hg (by rw [Xx,il];omega) (pM hww.2.2 (Yn hi.ka))
      · simp only [gw,XQ,Xw,Vx]
        exact ⟨⟨hi.dk,hi.dl⟩,by rw [hi.dm.1];exact hi.dm.2⟩
    have hb:lq l s.disk=mC (w ++ inv s.stack):=by
      have h1:E (lq l s.disk) (w ++ inv s.stack):=by
        have h2:=(D.sm.app (E.rf (inv s.stack))).sm
        have h3:=E.mid (lq l s.disk) s.stack []
        refine E.tr ?_ h2
        refine E.tr (h3.sm.tr (E.of ?_)).sm.sm (E.rf _) |>.sm.sm |> fun z=>E.tr (E.of (by simp)) z
        simp only [XY,Sk]
      have h4:mC (lq l s.disk)=lq l s.disk:=by rw [ut,MN]
      rw [<- h4];exact h1
    unfold iC
    rw [Xy (Decidable.not_not.2 hc),Xy (Decidable.not_not.2 hb)]
  · show dr s.stack w<=0
    unfold dr
    split
    · exact hle
    · omega
end Fr
theorem BZ {g:Int} {l:List Wd} {rs:List an} {w:Wd} (h:fU g l rs w=0):bI g l rs=true/\bG g w=0/\w.length<=20000/\gT rs w=some (jZ g l rs w):=by
  cases hs:bI g l rs with
  | false=>rw [(Xm hs).2] at h;cases h
  | true =>
    rw [(ny hs).2] at h
    rw [(ny hs).1]
    by_cases hw:bG g w=0
    · by_cases hl:20000 < w.length
      · rw [(D6 (Decidable.not_not.2 hw) hl).2] at h;cases h
      · rw [(vL (Decidable.not_not.2 hw) hl).2] at h
        rw [(vL (Decidable.not_not.2 hw) hl).1]
        refine ⟨Z,hw,by omega,?_⟩
        cases q:gT rs w with
        | none=>rw [q] at h;cases h
        | some R=>rfl
    · rw [(ua hw).2] at h;cases h
namespace CR
inductive St (L:List (Wd × Wd)):Wd->Wd->Prop
  | mk (a b:Wd) (s:Wd × Wd) (h:s ∈ L):St L (a ++ s.1 ++ b) (a ++ s.2 ++ b)
inductive Rt (L:List (Wd × Wd)):Wd->Wd->Prop
  | rf (w:Wd):Rt L w w
  | hd {x y z:Wd} (h:St L x y) (k:Rt L y z):Rt L x z
inductive Cv (L:List (Wd × Wd)):Wd->Wd->Prop
  | of {x y:Wd} (h:Rt L x y):Cv L x y
  | sm {x y:Wd} (h:Cv L x y):Cv L y x
  | tr {x y z:Wd} (h:Cv L x y) (k:Cv L y z):Cv L x z
def Jn (L:List (Wd × Wd)) (x y:Wd):Prop:=∃ z,Rt L x z/\Rt L y z
section
variable {L:List (Wd × Wd)} {x y z:Wd}
theorem Rt.tr (h:Rt L x y) (k:Rt L y z):Rt L x z:=by
  induction h with
  | rf=>exact k
  | hd s _ ih=>exact .hd s (ih k)
theorem Rt.one (h:St L x y):Rt L x y:=.hd h (.rf _)
theorem St.ctx (h:St L x y) (a b:Wd):St L (a ++ x ++ b) (a ++ y ++ b):=by
  cases h with
  | mk p q s hs =>
    have:=St.mk (L:=L) (a ++ p) (q ++ b) s hs
    simpa only [XY] using this
theorem Rt.ctx (h:Rt L x y) (a b:Wd):Rt L (a ++ x ++ b) (a ++ y ++ b):=by
  induction h with
  | rf=>exact .rf _
  | hd s _ ih=>exact .hd (s.ctx a b) ih
theorem Jn.sm (h:Jn L x y):Jn L y x:=let ⟨z,h1,h2⟩:=h;⟨z,h2,h1⟩
theorem Jn.ctx (h:Jn L x y) (a b:Wd):Jn L (a ++ x ++ b) (a ++ y ++ b):=let ⟨z,h1,h2⟩:=h;⟨_,h1.ctx a b,h2.ctx a b⟩
theorem Jn.rf (x:Wd):Jn L x x:=⟨x,.rf x,.rf x⟩
theorem Cv.ctx (h:Cv L x y) (a b:Wd):Cv L (a ++ x ++ b) (a ++ y ++ b):=by
  induction h with
  | of h=>exact .of (h.ctx a b)
  | sm _ ih=>exact .sm ih
  | tr _ _ ih1 ih2=>exact .tr ih1 ih2
theorem newman {m:Wd->Nat} (hm:∀ x y,St L x y->m y < m x) (lc:∀ x y z,St L x y->St L x z->Jn L y z):∀ (n:Nat) (x y z:Wd),m x < n->Rt L x y->Rt L x z->Jn L y z:=by
  intro n
  induction n with
  | zero=>intro x y z h;exact absurd h (Nat.not_lt_zero _)
  | succ n ih =>
    intro x y z h hy hz
    cases hy with
    | rf=>exact ⟨z,hz,.rf z⟩
    | hd s1 r1 =>
      cases hz with
      | rf=>exact ⟨y,.rf y,.hd s1 r1⟩
      | hd s2 r2 =>
        rename_i y1 z1
        obtain ⟨u,D,V⟩:=lc _ _ _ s1 s2
        obtain ⟨v1,a1,a2⟩:=ih y1 y u (by have:=hm _ _ s1;omega) r1 D
        obtain ⟨v2,b1,b2⟩:=ih z1 v1 z (by have:=hm _ _ s2;omega) (V.tr a2) r2
        exact ⟨v2,a1.tr b1,b2⟩
theorem Cv.jn (cf:∀ x y z,Rt L x y->Rt L x z->Jn L y z) (h:Cv L x y):Jn L x y:=by
  induction h with
  | of h=>exact ⟨_,h,.rf _⟩
  | sm _ ih=>exact ih.sm
  | tr _ _ ih1 ih2 =>
    obtain ⟨u,h1,h2⟩:=ih1
    obtain ⟨v,k1,k2⟩:=ih2
    obtain ⟨t,t1,t2⟩:=cf _ _ _ h2 k1
    exact ⟨t,h1.tr t1,k2.tr t2⟩
def dg (c:UInt8):Nat:=(ix c + 2).toNat
theorem dg_b (c:UInt8):1<=dg c/\dg c<=17:=(show ∀ c:UInt8,1<=dg c/\dg c<=17 from iz (by decide +kernel)) c
theorem YZ (c:UInt8):-1<=ix c:=(show ∀ c:UInt8,-1<=ix c from iz (by decide +kernel)) c
def code:Wd->Nat
  | []=>0
  | c :: w=>dg c * 18 ^ w.length + code w
theorem pR:∀ w:Wd,code w < 18 ^ w.length
  | []=>by decide
  | c :: w=>by
    have h1:=pR w
    have h2:=TY (18 ^ w.length) (dg_b c).2
    rw [code,Xq,Nat.pow_succ]
    omega
theorem pT {u v:Wd} (h:u.length < v.length):code u < code v:=by
  cases v with
  | nil=>exact absurd h (Nat.not_lt_zero _)
  | cons c v =>
    rw [Xq] at h
    have h1:=pR u
    have h2:=Nat.pow_le_pow_right (n:=18) U (show u.length<=v.length by omega)
    have h3:=TY (18 ^ v.length) (dg_b c).1
    rw [code]
    omega
theorem Fa:∀ u v:Wd,u.length=v.length->iK u v < 0->code u < code v
  | [],v,_,h=>by unfold iK at h;cases v <;> simp at h
  | _ :: _,[],h,_=>by simp at h
  | a :: u,b :: v,h,k=>by
    have hl:u.length=v.length:=by simpa using h
    rw [iK] at k
    rw [code,code,hl]
    by_cases q1:ix a < ix b
    · have h1:=pR u
      rw [hl] at h1
      have h2:dg a + 1<=dg b:=by have:=YZ a;have:=YZ b;unfold dg;omega
      have h3:=TY (18 ^ v.length) h2
      rw [SW] at h3
      omega
    · rw [Xy q1] at k
      by_cases q2:ix b < ix a
      · rw [XX q2] at k;omega
      · rw [Xy q2] at k
        have:=Fa u v hl k
        have e:dg a=dg b:=by unfold dg;omega
        rw [e];omega
theorem sa {u v:Wd}:fc u v < 0 ↔ u.length < v.length\/(u.length=v.length/\iK u v < 0):=by
  unfold fc
  by_cases h:u.length=v.length
  · simp [h]
  · by_cases h2:u.length < v.length
    · simp [h,h2]
    · simp [h,h2]
theorem E8 {u v:Wd} (h:fc u v < 0):code u < code v:=by
  rcases sa.1 h with q | ⟨q,q'⟩
  · exact pT q
  · exact Fa u v q q'
theorem Jt {r l:Wd} (h:fc r l < 0) (a b:Wd):fc (a ++ r ++ b) (a ++ l ++ b) < 0:=by
  rcases sa.1 h with q | ⟨q,q'⟩
  · exact sa.2 (.inl OJ)
  · refine sa.2 (.inr ⟨by simp only [Xx];omega,?_⟩)
    rw [tp _ _ _ OJ,vl];exact q'
theorem St.down (hL:∀ s ∈ L,fc s.2 s.1 < 0) (h:St L x y):code y < code x:=by
  cases h with | mk a b s hs=>exact E8 (Jt (hL s hs) a b)
theorem pre {a a' x y:Wd} (h:a ++ x=a' ++ y) (hl:a.length<=a'.length):∃ p,a'=a ++ p/\x=p ++ y:=by
  rcases List.append_eq_append_iff.1 h with ⟨p,h1,h2⟩ | ⟨p,h1,h2⟩
  · exact ⟨p,h1,h2⟩
  · have:p=[]:=Vv.1 (by have:=Xk List.length h1;rw [Xx] at this;omega)
    subst this
    exact ⟨[],by simpa using h1.symm,by simpa using h2.symm⟩
theorem GJ {n i j:Nat} {c:CP} (hi:i < L.length) (hj:j < L.length) (h:¬ (n<=i/\n<=j)) (hc:c ∈ i0 L i j):∃ c' ∈ jA n L,c'.u=c.u/\c'.v=c.v:=by
  refine ⟨ren (nm n i) (nm n j) c,?_,Z,Z⟩
  simp only [jA,zB,Qv,VV]
  refine ⟨i,hi,j,hj,?_⟩
  rw [qz,Xy h]
  exact Vj.2 ⟨c,hc,Z⟩
def Li (s t:Wd × Wd):Prop:=∃ c d c' d',s=([c,d],[])/\t=([c',d'],[])/\(d=c'->d'=c)
variable {n:Nat}
theorem Mi (hP:∀ c ∈ jA n L,Jn L c.u c.v) (hF:∀ i j,i < L.length->j < L.length->n<=i/\n<=j->Li (L.getD i ([],[])) (L.getD j ([],[])))
    {i j:Nat} (hi:i < L.length) (hj:j < L.length) {a b a' b':Wd} (hl:a.length<=a'.length) (e:a ++ (L.getD i ([],[])).1 ++ b=a' ++ (L.getD j ([],[])).1 ++ b') :
    Jn L (a ++ (L.getD i ([],[])).2 ++ b) (a' ++ (L.getD j ([],[])).2 ++ b'):=by
  have hmi:L.getD i ([],[]) ∈ L:=bj hi
  have hmj:L.getD j ([],[]) ∈ L:=bj hj
  have hFF:=hF i j hi hj
  have hmem:=fun (h:¬ (n<=i/\n<=j)) c (hc:c ∈ i0 L i j)=>GJ hi hj h hc
  have V:=fun (h:¬ (n<=j/\n<=i)) c (hc:c ∈ i0 L j i)=>GJ hj hi h hc
  have hraw:i0 L i j=jR (i:Int) (j:Int) (decide (i=j)) (L.getD i ([],[])) (L.getD j ([],[])):=rfl
  have X:i0 L j i=jR (j:Int) (i:Int) (decide (j=i)) (L.getD j ([],[])) (L.getD i ([],[])):=rfl
  have hsame:i=j->L.getD i ([],[])=L.getD j ([],[]):=fun q=>by rw [q]
  generalize L.getD i ([],[])=s at *
  generalize L.getD j ([],[])=t at *
  generalize i0 L i j=RB at *
  generalize i0 L j i=RB2 at *
  obtain ⟨u,u'⟩:=s
  obtain ⟨v,v'⟩:=t
  simp only at *
  rw [XY,XY] at e
  obtain ⟨p,rfl,e2⟩:=pre e hl
  by_cases h1:u.length<=p.length
  · -- apart
    obtain ⟨q,rfl,rfl⟩:=pre e2 h1
    refine ⟨a ++ u' ++ q ++ v' ++ b',?_,?_⟩
    · have:=Rt.one (St.mk (L:=L) (a ++ u' ++ q) b' _ hmj)
      simpa only [XY] using this
    · have:=Rt.one (St.mk (L:=L) a (q ++ v' ++ b') _ hmi)
      simpa only [XY] using this
  · obtain ⟨r,rfl,e3⟩:=pre e2.symm O
    by_cases h2:v.length<=r.length
    · -- the second one within the first
      obtain ⟨q,rfl,rfl⟩:=pre e3 h2
      by_cases hij:i=j
      · have:=hsame hij
        simp only [Prod.mk.injEq] at this
        obtain ⟨z1,z2⟩:=this
        have hz:=Xk List.length z1
        simp only [Xx] at hz
        have hp:p=[]:=Vv.1 O
        have hq:q=[]:=Vv.1 O
        subst hp;subst hq;subst z2
        simp only [Sk,Rq]
        exact Jn.rf _
      · by_cases hf:n<=i/\n<=j
        · obtain ⟨c,d,c',d',z1,z2,_⟩:=hFF hf
          simp only [Prod.mk.injEq] at z1 z2
          obtain ⟨z1,rfl⟩:=z1
          obtain ⟨rfl,rfl⟩:=z2
          have hz:=Xk List.length z1
          simp only [Xx,Xq,Xz] at hz
          have hp:p=[]:=Vv.1 O
          have hq:q=[]:=Vv.1 O
          subst hp;subst hq
          simp only [Sk,Rq]
          exact Jn.rf _
        · have hc:c2 (i:Int) (j:Int) (p ++ (v ++ q),u') (v,v') p.length ∈ RB:=by
            rw [hraw,jR,Xy (by simpa using hij)]
            refine RJ _ (Vj.2 ⟨p.length,Sq.2 ⟨VV.2 OJ,?_⟩,Z⟩)
            simp only [p2,XQ,Xw]
            refine ⟨by simp only [Xx];omega,?_⟩
            rw [List.take_length_add_append,RY,List.take_left]
          obtain ⟨c',hm,hu,hv⟩:=hmem hf _ hc
          have hJ:=hP c' hm
          rw [hu,hv] at hJ
          have D:=hJ.ctx a b
          have e5:(p ++ (v ++ q)).drop (p.length + v.length)=q:=by
            rw [<- XY,<- Xx,RY]
          simp only [List.take_left,e5] at D
          simpa only [XY] using D
    · -- they overlap
      obtain ⟨q,rfl,e6⟩:=pre e3.symm O
      subst e6
      have hr:0 < r.length:=by simp only [Xx] at h1;omega
      have hq:0 < q.length:=by simp only [Xx] at h2;omega
      by_cases hf:n<=i/\n<=j
      · obtain ⟨c,d,c',d',z1,z2,z3⟩:=hFF hf
        simp only [Prod.mk.injEq] at z1 z2
        obtain ⟨z1,rfl⟩:=z1
        obtain ⟨z2,rfl⟩:=z2
        have a0:=Xk List.length z1
        have a1:=Xk List.length z2
        simp only [Xx,Xq,Xz] at a0 a1
        rcases VY 1 r.length with k | k
        · exact absurd a1 O
        · obtain ⟨x,rfl⟩:=List.length_eq_one_iff.1 (show r.length=1 by omega)
          obtain ⟨y,rfl⟩:=List.length_eq_one_iff.1 (show q.length=1 by omega)
          obtain ⟨w,rfl⟩:=List.length_eq_one_iff.1 (show p.length=1 by simp only [Xq,Xz] at a0;omega)
          simp only [List.cons_append,Rq,List.cons.injEq,and_true] at z1 z2
          obtain ⟨rfl,rfl⟩:=z1
          obtain ⟨rfl,rfl⟩:=z2
          have:=z3 Z
          subst this
          simp only [Sk,XY]
          exact Jn.rf _
      · rcases TV p.length with hp | hp
        · have hp:=Vv.1 hp
          subst hp
          have hij:¬ j=i:=fun q2=>by
            have:=hsame q2.symm
            simp only [Prod.mk.injEq] at this
            have:=Xk List.length this.1
            simp only [Rq,Xx] at this;omega
          have hc:c2 (j:Int) (i:Int) (r ++ q,v') ([] ++ r,u') 0 ∈ RB2:=by
            rw [X,jR,Xy (by simpa using hij)]
            refine RJ _ (Vj.2 ⟨0,Sq.2 ⟨VV.2 O,?_⟩,Z⟩)
            simp [p2]
          obtain ⟨c',hm,hu,hv⟩:=V (fun h=>hf ⟨h.2,h.1⟩) _ hc
          have hJ:=hP c' hm
          rw [hu,hv] at hJ
          have D:=hJ.sm.ctx a b'
          simp only [Rq,Qq,RY,List.take_zero] at D
          simpa only [Sk,XY] using D
        · have hc:c1 (i:Int) (j:Int) (p ++ r,u') (r ++ q,v') p.length ∈ RB:=by
            rw [hraw,jR]
            refine List.mem_append_left _ (Vj.2 ⟨p.length,Sq.2 ⟨VV.2 OJ,?_⟩,Z⟩)
            simp only [p1,XQ,Xw,Xx,Nat.add_sub_cancel_left,RY,List.take_left,and_true]
            exact ⟨by omega,by omega⟩
          obtain ⟨c',hm,hu,hv⟩:=hmem hf _ hc
          have hJ:=hP c' hm
          rw [hu,hv] at hJ
          have D:=hJ.ctx a b'
          simp only [Xx,Nat.add_sub_cancel_left,RY,List.take_left] at D
          simpa only [XY] using D
theorem JL (hP:∀ c ∈ jA n L,Jn L c.u c.v) (hF:∀ i j,i < L.length->j < L.length->n<=i/\n<=j->Li (L.getD i ([],[])) (L.getD j ([],[]))):∀ x y z,St L x y->St L x z->Jn L y z:=by
  intro x y z h k
  generalize hx:x=x' at k
  cases h with
  | mk a b s hs =>
    cases k with
    | mk a' b' t ht =>
      obtain ⟨i,hi,rfl⟩:=VQ hs
      obtain ⟨j,hj,rfl⟩:=VQ ht
      have e1:L[i]=L.getD i ([],[]):=by simp [hi]
      have e2:L[j]=L.getD j ([],[]):=by simp [hj]
      rw [e1,e2] at hx ⊢
      rcases Nat.le_total a.length a'.length with q | q
      · exact Mi hP hF hi hj q hx
      · exact (Mi hP hF hj hi q hx.symm).sm
theorem church (hP:∀ c ∈ jA n L,Jn L c.u c.v) (hF:∀ i j,i < L.length->j < L.length->n<=i/\n<=j->Li (L.getD i ([],[])) (L.getD j ([],[]))) (hL:∀ s ∈ L,fc s.2 s.1 < 0) (h:Cv L x y):Jn L x y :=
  h.jn fun a b c h1 h2=>newman (m:=code) (fun _ _ s=>s.down hL) (JL hP hF) _ a b c (Nat.lt_succ_self _) h1 h2
theorem Rt.stuck (hx:∀ y,¬ St L x y) (h:Rt L x y):x=y:=by
  cases h with
  | rf=>rfl
  | hd s _=>exact absurd s (hx _)
end
end CR
namespace CR
variable {g:Int} {l:List Wd} {rs:List an} {w v x y:Wd}
theorem Dh:∀ c:UInt8,0<=ix c->bW.getD (ix c).toNat 0=c/\bW.getD ((ix c).toNat ^^^ 1) 0=c ^^^ 32/\((ix c).toNat ^^^ 1) ^^^ 1=(ix c).toNat/\((ix c).toNat ^^^ 1) / 2=(ix c).toNat / 2:=iz (by decide +kernel)
theorem LL {c:UInt8} (h:iu g c=true):([c ^^^ 32,c],([]:Wd)) ∈ aO g rs:=by
  simp only [iu,XQ,Xw] at h
  obtain ⟨k1,k2,k3,k4⟩:=Dh c h.1
  refine RJ _ (Vj.2 ⟨(ix c).toNat ^^^ 1,VV.2 O,?_⟩)
  rw [Ru,k2,k3,k1]
theorem TM:∀ x:Fin 16,bW.getD (x.1 ^^^ 1) 0=bW.getD x.1 0 ^^^ 32:=by decide
theorem Zb:∀ x y:Fin 16,bW.getD (x.1 ^^^ 1) 0=bW.getD y.1 0->bW.getD (y.1 ^^^ 1) 0=bW.getD x.1 0:=by decide
theorem let_ok:∀ x:Fin 16,ix (bW.getD x.1 0)=x.1:=by decide
theorem sC {r:an} (h:r ∈ rs):(r.left,r.right) ∈ aO g rs:=List.mem_append_left _ (Vj.2 ⟨r,h,rfl⟩)
theorem in_cases {s:Wd × Wd} (h:s ∈ aO g rs):(∃ r ∈ rs,s=(r.left,r.right))\/∃ x,x < 2 * g.toNat/\s=(Ru x,[]):=by
  rcases Vw.1 h with h | h
  · obtain ⟨r,hr,rfl⟩:=Vj.1 h;exact .inl ⟨r,hr,Z⟩
  · obtain ⟨x,hx,rfl⟩:=Vj.1 h;exact .inr ⟨x,VV.1 hx,Z⟩
theorem sides_at (i:Nat) (hi:i < (aO g rs).length) (h:rs.length<=i):(aO g rs).getD i ([],[])=(Ru (i - rs.length),[])/\i - rs.length < 2 * g.toNat:=by
  rw [jq] at hi
  refine ⟨?_,by omega⟩
  unfold aO
  rw [Vq,TZ (by simpa using h)]
  simp [show i - rs.length < 2 * g.toNat by omega]
theorem JE (hg:g<=8) (i j:Nat) (hi:i < (aO g rs).length) (hj:j < (aO g rs).length) (h:rs.length<=i/\rs.length<=j):Li ((aO g rs).getD i ([],[])) ((aO g rs).getD j ([],[])):=by
  obtain ⟨e1,b1⟩:=sides_at i hi h.1
  obtain ⟨e2,b2⟩:=sides_at j hj h.2
  rw [e1,e2]
  exact ⟨_,_,_,_,Z,Z,Zb ⟨i - rs.length,by omega⟩ ⟨j - rs.length,by omega⟩⟩
theorem VU (hs:bI g l rs=true) {r:an} (hr:r ∈ rs):fc r.right r.left < 0:=by
  have:=(dx ((cT hs).2.2.1 r hr)).2.2.1
  unfold dr at this
  split at this
  · exact this
  · omega
theorem vW (hs:bI g l rs=true):∀ s ∈ aO g rs,fc s.2 s.1 < 0:=fun s h=>by
  rcases in_cases h with ⟨r,hr,rfl⟩ | ⟨x,_,rfl⟩
  · exact VU hs hr
  · exact sa.2 (.inl (by show 0 < 2;decide))
theorem IP (hs:bI g l rs=true):∀ s ∈ aO g rs,s.1.all (iu g)=true/\s.2.all (iu g)=true:=fun s h=>by
  have hg:=ja hs
  rcases in_cases h with ⟨r,hr,rfl⟩ | ⟨x,hx,rfl⟩
  · have:=dx ((cT hs).2.2.1 r hr)
    exact ⟨(gb (ii this.1)).2.2,(gb (ii this.2.1)).2.2⟩
  · have h1:=let_ok ⟨x,by omega⟩
    have h0:iu g (bW.getD x 0)=true:=by
      simp only [iu,XQ,Xw];simp only at h1;omega
    have h2:=AJ g h0
    rw [<- TM ⟨x,by omega⟩] at h2
    refine ⟨?_,Z⟩
    show (iu g (bW.getD x 0) && (iu g (bW.getD (x ^^^ 1) 0) && true))=true
    rw [h0,h2];rfl
theorem aaB (hs:bI g l rs=true) {s s':Jh} (h:qL g l rs w s) (hq:s.rest ≠ []) (e:te rs s=some s'):Rt (aO g rs) (s.stack ++ s.rest.reverse) (s'.stack ++ s'.rest.reverse):=by
  obtain ⟨q,k,n,d,m⟩:=s
  simp only at hq
  have qa:=h.qa
  simp only at qa
  have hql:0 < q.length:=List.length_pos_iff.2 hq
  have qt:iu g (kh q)=true:=Vx.1 qa _ (bj O)
  simp only
  rw [AW hq]
  unfold te at e
  simp only at e
  by_cases hc:yk k q
  · rw [XX hc] at e
    cases e
    have hk:k ≠ []:=fun z=>by rw [z] at hc;exact absurd hc.1 (by simp)
    have e2:k ++ kh q :: (qF q).reverse=qF k ++ [kh q ^^^ 32,kh q] ++ (qF q).reverse:=by
      conv=>lhs;rw [tG hk,hc.2]
      simp
    rw [e2]
    have:=Rt.one (St.mk (L:=aO g rs) (qF k) (qF q).reverse _ (LL qt))
    simpa only [Sk] using this
  · rw [Xy hc] at e
    by_cases hr:bq rs (k ++ [kh q]) < 0
    · rw [XX hr] at e
      cases e
      simp only [XY,List.singleton_append]
      exact .rf _
    · rw [Xy hr] at e
      split at e
      · cases e
        have hsp:=og hr
        have hm:=uK hr
        generalize hU:rY rs (k ++ [kh q])=U at *
        have hC:xY rs (k ++ [kh q])=(k ++ [kh q]).take ((k ++ [kh q]).length - U.left.length):=by unfold xY;rw [hU]
        generalize xY rs (k ++ [kh q])=C at *
        have hend:=hsp.2.1
        simp only [gH,Xw] at hend
        have hsplit:k ++ [kh q]=C ++ U.left:=by
          rw [hC];conv=>lhs;rw [<- VW ((k ++ [kh q]).length - U.left.length) (k ++ [kh q])]
          rw [hend.2]
        have e3:(qF q ++ U.right.reverse).reverse=U.right ++ (qF q).reverse:=by simp
        have e4:k ++ kh q :: (qF q).reverse=C ++ U.left ++ (qF q).reverse:=by rw [<- hsplit];simp
        simp only
        rw [e3,e4,<- XY]
        exact Rt.one (St.mk (L:=aO g rs) C (qF q).reverse _ (sC hm))
      · cases e
theorem We (hs:bI g l rs=true) (hw:w.length<=20000):∀ (f:Nat) {s s':Jh},qL g l rs w s->iG rs f s=some s'->Rt (aO g rs) (s.stack ++ s.rest.reverse) (s'.stack ++ s'.rest.reverse)
  | 0,s,s',h,e=>by simp [iG] at e
  | f + 1,s,s',h,e=>by
    rw [iG] at e
    by_cases q:s.rest=[]
    · rw [XX q] at e;cases e;exact .rf _
    · rw [Xy q] at e
      split at e
      · cases e
      · rename_i s2 e2
        exact (aaB hs h q e2).tr (We hs hw f (h.step hs hw q e2) e)
theorem vN (hs:bI g l rs=true) (hw:bG g w=0) (hl:w.length<=20000) {R:Ja} (h:gT rs w=some R):Rt (aO g rs) w R.word/\∀ y,¬ St (aO g rs) R.word y:=by
  unfold gT at h
  obtain ⟨s,hr,rfl⟩:=Option.map_eq_some_iff.1 h
  obtain ⟨hi,hn⟩:=qL.run hs hl _ (qL.start hs hw) hr
  have h1:=We hs hl _ (qL.start hs hw) hr
  rw [hn] at h1
  refine ⟨by simpa [start] using h1,fun y hy=>?_⟩
  simp only at hy
  generalize hz:s.stack=z at hy
  cases hy with
  | mk a b t ht =>
    rcases in_cases ht with ⟨r,hr,rfl⟩ | ⟨x,hx,rfl⟩
    · refine hi.ir r hr a.length ?_
      rw [hz]
      refine ⟨by simp only [Xx];omega,?_⟩
      rw [XY,List.take_length_add_append,RY,List.take_left]
    · have hg:=ja hs
      have:=hi.nc a.length (by rw [hz];simp only [Xx,Ru,Xq,Xz];omega)
      rw [hz] at this
      apply this
      have f1:=TM ⟨x,by omega⟩
      simp only at f1
      simp only [Ru,XY]
      rw [jU (a:=a) O,jU (a:=a) O,show a.length + 1 - a.length=1 by omega,Nat.sub_self]
      exact f1
theorem BH:∀ {P:List CP},(fZ rs P).1=true->∀ c ∈ P,∃ a b,cG rs c.u=some a/\cG rs c.v=some b/\a.word=b.word
  | [],_,c,hc=>by cases hc
  | p :: t,h,c,hc=>by
    rw [fZ] at h
    split at h
    · rename_i a b h1 h2
      split at h
      · rename_i q
        rcases Vz.1 hc with rfl | hc
        · exact ⟨a,b,h1,h2,q⟩
        · exact BH h c hc
      · cases h
    · cases h
theorem xC {α:Type} {p:α->Bool} {w:List α} (n:Nat) (h:w.all p=true):(w.drop n).all p=true:=by
  rw [Vx] at h ⊢;exact fun c hc=>h c (List.mem_of_mem_drop hc)
theorem xD {α:Type} {p:α->Bool} {w:List α} (n:Nat) (h:w.all p=true):(w.take n).all p=true:=by
  rw [Vx] at h ⊢;exact fun c hc=>h c (SY hc)
theorem pair_ok (hs:bI g l rs=true) {c:CP} (h:c ∈ aM g rs):c.u.all (iu g)=true/\c.v.all (iu g)=true:=by
  simp only [aM,jA,zB,Qv,VV] at h
  obtain ⟨i,hi,j,hj,h⟩:=h
  have h1:=IP hs _ (bj (d:=([],[])) hi)
  have h2:=IP hs _ (bj (d:=([],[])) hj)
  unfold qz at h
  split at h
  · cases h
  · obtain ⟨c,hc,rfl⟩:=Vj.1 h
    simp only [ren]
    unfold i0 jR at hc
    generalize (aO g rs).getD i ([],[])=s at *
    generalize (aO g rs).getD j ([],[])=t at *
    rcases Vw.1 hc with hc | hc
    · obtain ⟨k,_,rfl⟩:=Vj.1 hc
      exact ⟨pM h1.2 (xC _ h2.1),pM (xD _ h1.1) h2.2⟩
    · split at hc
      · cases hc
      · obtain ⟨k,_,rfl⟩:=Vj.1 hc
        exact ⟨h1.2,pM (pM (xD _ h1.1) h2.2) (xC _ h1.1)⟩
theorem nz {R:Ja} (h:cG rs w=some R):w.length<=20000/\gT rs w=some R:=by
  unfold cG at h
  split at h
  · cases h
  · exact ⟨by omega,h⟩
theorem Jv (hs:bI g l rs=true) (h:(ci g l rs).1=true):∀ c ∈ aM g rs,Jn (aO g rs) c.u c.v:=fun c hc=>by
  rw [ci,XX hs] at h
  obtain ⟨a,b,ha,hb,hab⟩:=BH h c hc
  obtain ⟨la,ra⟩:=nz ha
  obtain ⟨lb,rb⟩:=nz hb
  obtain ⟨oa,ob⟩:=pair_ok hs hc
  have hg:=ja hs
  have h1:=(vN hs (j6 hg O oa) la ra).1
  have h2:=(vN hs (j6 hg O ob) lb rb).1
  rw [<- hab] at h2
  exact ⟨_,h1,h2⟩
theorem YC (hs:bI g l rs=true) (h:(ci g l rs).1=true) (hc:Cv (aO g rs) w v):Jn (aO g rs) w v :=
  church (n:=rs.length) (Jv hs h) (fun i j hi hj q=>JE (ja hs).2 i j hi hj q) (vW hs) hc
end CR
def i6 (rs:List an):Bool:=decide (rs.length<=14) && rs.all fun r=>decide (r.left.length<=14)
section
variable {rs:List an} {i:Nat}
theorem UH (hi:i < rs.length) (h:14 < (rs.getD i .zero).left.length):i6 rs=false:=by
  rw [i6,show (rs.all fun r=>decide (r.left.length<=14))=false from List.all_eq_false.2 ⟨_,bj (d:=.zero) hi,by simp only [Xw];omega⟩,Bool.and_false]
theorem Am (hi:i<=rs.length) (h:rs.length<=i\/15<=i) (hc:∀ k,k < i->(rs.getD k .zero).left.length<=14):i6 rs=decide (rs.length<=14):=by
  rcases h with h | h
  · rw [i6,show (rs.all fun r=>decide (r.left.length<=14))=true from Vx.2 fun r hr=>by
      obtain ⟨k,hk,rfl⟩:=VQ hr
      have:=hc k O
      rw [gd hk] at this;simpa using this,Bool.and_true]
  · rw [i6,Xv O];rfl
theorem tK (h:i6 rs=true):rs.length<=14/\∀ r ∈ rs,r.left.length<=14:=by
  simp only [i6,XQ,Xw,Vx] at h;exact h
theorem CW {α:Type} {f:Nat->List α} {B:Nat}:∀ k,(∀ i,i < k->(f i).length<=B)->((List.range k).flatMap f).length<=k * B
  | 0,_=>by simp
  | k + 1,h=>by
    rw [SJ,List.flatMap_append,Xx,Nat.succ_mul]
    have h1:=CW k fun i hi=>h i O
    have h2:=h k O
    simp only [Sw,List.flatMap_nil,Sk]
    omega
theorem Lm {I J:Int} {same:Bool} {a b:Wd × Wd}:(jR I J same a b).length<=2 * a.1.length + 1:=by
  have h1:(oc I J a b a.1.length).length<=a.1.length:=by
    simp only [oc,TX];exact Xj (List.length_filter_le _ _) (by simp)
  have h2:(si I J a b (a.1.length + 1)).length<=a.1.length + 1:=by
    simp only [si,TX];exact Xj (List.length_filter_le _ _) (by simp)
  unfold jR
  rw [Xx]
  split
  · simp only [Xz];omega
  · omega
theorem lx {g:Int} (hg:1<=g/\g<=8) (h:i6 rs=true):(aM g rs).length<=50000:=by
  obtain ⟨h1,h2⟩:=tK h
  have hL:∀ s ∈ aO g rs,s.1.length<=14:=fun s hs=>by
    rcases CR.in_cases hs with ⟨r,hr,rfl⟩ | ⟨x,_,rfl⟩
    · exact h2 r hr
    · show 2<=14;decide
  have hn:(aO g rs).length<=30:=by rw [jq];omega
  refine Xj (CW (B:=30 * 29) _ fun i hi=>?_) (Xj (TY _ hn) U)
  refine Xj (CW (B:=29) _ fun j hj=>?_) (TY _ hn)
  unfold qz
  split
  · simp
  · rw [TX]
    refine Xj Lm ?_
    have:=hL _ (bj (d:=([],[])) hi)
    omega
variable {w:Wd} {a b:Int} {m j:Nat}
end
theorem KE {w:Wd} {m n:Nat} (h:m + n<=w.length):w=w.take m ++ (w.take (m + n)).drop m ++ w.drop (m + n):=by
  conv=>lhs;rw [<- VW (m + n) w]
  congr 1
  have:=VW m (w.take (m + n))
  rw [List.take_take,QZ O] at this
  exact this.symm
theorem Tl {w:Wd} {m:Nat} (h:m + 1 < w.length):(w.take (m + 2)).drop m=[w.getD m 0,w.getD (m + 1) 0]:=by
  rw [Tq Oi,Tq Oi,Sx Oi]
  simp [show m < w.length by omega,h]
theorem YA {g:Int} {l:List Wd} {rs:List an} (h:¬ ¬ ((if bI g l rs then 0 else 100:Nat)=0)):bI g l rs=true:=by
  cases q:bI g l rs with
  | true=>rfl
  | false=>rw [q] at h;exact absurd (Decidable.not_not.1 h) U
theorem Zp {g:Int} {w:Wd} (h:w.all (iu g)=true):uk w:=fun c hc=>by
  have:=Vx.1 h c hc
  simp only [iu,XQ,Xw] at this;exact this.1
theorem Ff {g:Int} {l:List Wd} {rs:List an} (hs:bI g l rs=true):(ci g l rs).2.2=0\/(ci g l rs).2.2=2:=by
  rw [ci,XX hs]
  generalize aM g rs=P
  induction P with
  | nil=>exact .inl Z
  | cons p t ih =>
    rw [fZ]
    split
    · split
      · exact ih
      · exact .inl Z
    · exact .inr Z
theorem Er {g:Int} {l:List Wd} {rs:List an} {w:Wd} (hs:bI g l rs=true) (hw:bG g w=0):fU g l rs w=0\/fU g l rs w=2:=by
  rw [(ny hs).2,gJ,Xy O]
  split
  · exact .inl Z
  · exact .inr Z
theorem aal (g:Int) (u:Value) (l:List W8) (rv:Value) (rs:List an) (A:AH) (hr:bJ A 3 rv (cd rs)):bH prog 26 #[.agg #[num (g),u,rv]] A (fun v A1=>v=.bool (i6 rs)/\A.le A1/\A1.wf):=by
 refine bi (e:=[(0,.agg #[num (g),u,rv])]) (args:=[.agg #[num (g),u,rv]]) call26 func26 Z results26 ntmps26 Z Z Z (fun wf=>?_);have ai:=AH.le.refl A;refine ak.sq fun h2=>.region<|.m (fun ad=>d8 wf rfl rfl fun A5 b4 a2=>?_);refine ad<|.I Z<|.nil<|h2<|.sq fun h9=>.sq fun a6=>.region<|.I Z<|.nil<|a6 ?_;refine ak.block<|.loop (X:=Nat) (fun i=>[(1,.pointer (some ⟨b4,0,none⟩)),(3,num ((i:Nat):Int))]) (fun i B=>(i<=rs.length/\i<=15/\∀ k,k < i->(rs.getD k .zero).left.length<=14)/\A.le B/\B.get b4=some (.row true [num (g),u,rv] 3)) (fun i=>rs.length - i) 0 (kE Z Z) (⟨⟨XK _,by omega,fun k h=>by omega⟩,(ai.trans a2.le),a2.get⟩) ?_;rintro i B13 ⟨⟨hi,aD,hc⟩,V,D⟩;refine ak.wf fun a0=>.sq fun a7=>.sq fun a1=>.region<|.J Z<|.p (ae cW fp U Z)<|.p (ah ga Z Z D Z)<|.p (bE (n:=rs.length) i4 Z (hr.le V) O (cL _))<|.p (ca Z Z)<|.J Z ?_;refine Ops.part (t:=9) Z (fun ap=>?_) (fun ap=>?_)
 ·refine Ops.on Z Z<|.J Z<|.on Z Z<|.p (ca (b:=15) Z Z)<|.p (aL Z Z)<|.nil<|a1<|.if rfl (fun ar=>?_) (fun ar=>?_)
  ·refine ak.skip<|a7<|.sq fun a8=>.block<|.sq fun a9=>.region<|.p (ae cW fp U Z)<|.p (ah ga Z Z D Z)<|.J Z ?_;obtain ⟨aB,aC,aA,aG,az,aF,aE,a4,ag,a5,ay,a3⟩:=bJ.at (i:=i) (hr.le V) O3 O;refine Ops.p (au i4 eE Z a4 Z ag)<|.p (ae ew ek U Z)<|.p (ah eJ Z Z a5 ((a3 0 U).trans (jK O)))<|.p (cN u9 Z)<|.p (eh (b:=14) Z Z)<|.nil<|a9<|.if rfl (fun av=>?_) (fun av=>?_)
   ·refine ak.sq fun aa=>.region<|.I Z<|.nil<|aa<|.rt (by exact aH Z (⟨by (rw [UH (i:=i) O O];rfl),V,a0⟩))
   refine ak.skip<|a8<|.region<|.J Z<|.p (bF (b:=1) Z Z O)<|.I Z<|.nil ?_;exact ⟨i + 1,kE Z Z,Z,⟨⟨by omega,by omega,fun k h=>(XW.1 h).elim (hc k) (fun z=>by subst z;omega)⟩,V,D⟩,O1⟩
  refine ak.exit<|h9<|.sq fun ab=>.region<|.p (ae cW fp U Z)<|.p (ah ga Z Z D Z)<|.p (bE (n:=rs.length) i4 Z (hr.le V) O (cL _))<|.p (rG (b:=14) Z Z)<|.I Z<|.nil ?_;refine ab<|.rt (by exact aH Z (⟨by (rw [Am hi O hc];rfl),V,a0⟩))
 refine Ops.off Z Z Z Z<|.off Z Z Z Z<|.p (bh Z Z)<|.nil<|a1<|.cond_false Z<|.exit<|h9<|.sq fun ac=>.region ?_;refine Ops.p (ae cW fp U Z)<|.p (ah ga Z Z D Z)<|.p (bE (n:=rs.length) i4 Z (hr.le V) O (cL _))<|.p (rG (b:=14) Z Z)<|.I Z<|.nil<|ac<|.rt (by exact aH Z (⟨by (rw [Am hi O hc];rfl),V,a0⟩))
section
variable {g:Int} {l:List Wd} {z w s x y:Wd}
end
section
variable {g:Int} {l:List Wd} {rs:List an} {w v:Wd}
end
abbrev vf (rs:List an):List Value:=rs.map an.pv
abbrev Cj (A0 A:AH) (rs:List an):Prop:=ia 3 co A0 A (vf rs) (rs.map an.proof)
section
variable {A0 A:AH} {rs:List an} {r:an} {b:Nat} {u:Value}
theorem famR0:Cj A0 A []:=ia.nil
theorem Ms:dn (vf []) b:=fun _ h=>by cases h
theorem sepR0:be u (vf []):=fun _ h=>by cases h
theorem Om (h:Cj A0 A rs) (fr:Fresh A0 A r.pv 3 (co r.proof)) (hs:be r.pv (vf rs)):Cj A0 A (rs ++ [r]):=by
  unfold Cj vf
  rw [VJ,VJ]
  exact ia.snoc h fr hs
theorem kW (h:dn (vf rs) b) (hv:V.blk r.pv ≠ some b):dn (vf (rs ++ [r])) b:=by
  unfold vf;rw [VJ];exact h.snoc hv
theorem BJ (h:be u (vf rs)) (hv:bx u r.pv):be u (vf (rs ++ [r])):=by
  unfold vf;rw [VJ];exact h.snoc hv
theorem wi (h:Cj A0 A rs):Proofs A rs:=fun r hr=>by
  obtain ⟨i,hi,rfl⟩:=VQ hr
  have:=(h.fr i (by simpa using hi)).slc
  simpa [hi] using this
end
theorem LU:prog.info? 83=some Tryz.t83:=by kernel_rfl
theorem inf9:prog.info? 9=some Tryz.t9:=by kernel_rfl
namespace CR
theorem Fb:∀ u v:Wd,u.length=v.length->(iK u v < 0/\code u < code v)\/(iK u v=0/\code u=code v)\/(0 < iK u v/\code v < code u)
  | [],[],_=>.inr (.inl ⟨by unfold iK;rfl,rfl⟩)
  | [],_ :: _,h=>by simp at h
  | _ :: _,[],h=>by simp at h
  | a :: u,b :: v,h=>by
    have hl:u.length=v.length:=by simpa using h
    have h1:=pR u
    have h2:=pR v
    rw [hl] at h1
    have key:∀ a b:UInt8,ix a < ix b->dg a * 18 ^ v.length + 18 ^ v.length<=dg b * 18 ^ v.length:=fun a b q=>by
      have h2:dg a + 1<=dg b:=by have:=YZ a;have:=YZ b;unfold dg;omega
      have h3:=TY (18 ^ v.length) h2
      rw [SW] at h3;omega
    rw [iK,code,code,hl]
    by_cases q1:ix a < ix b
    · rw [XX q1];have:=key a b q1;exact .inl ⟨by omega,by omega⟩
    · rw [Xy q1]
      by_cases q2:ix b < ix a
      · rw [XX q2];have:=key b a q2;exact .inr (.inr ⟨by omega,by omega⟩)
      · rw [Xy q2]
        have e:dg a=dg b:=by unfold dg;omega
        rw [e]
        rcases Fb u v hl with ⟨k1,k2⟩ | ⟨k1,k2⟩ | ⟨k1,k2⟩
        · exact .inl ⟨k1,by omega⟩
        · exact .inr (.inl ⟨k1,by omega⟩)
        · exact .inr (.inr ⟨k1,by omega⟩)
theorem cmpw_code {u v:Wd}:fc u v < 0 ↔ code u < code v:=by
  refine ⟨E8,fun h=>?_⟩
  rw [sa]
  rcases Nat.lt_trichotomy u.length v.length with q | q | q
  · exact .inl q
  · rcases Fb u v q with ⟨k,_⟩ | ⟨_,k⟩ | ⟨_,k⟩
    · exact .inr ⟨q,k⟩
    · omega
    · omega
  · have:=pT q;omega
theorem ix_inj:∀ a b:UInt8,0<=ix a->ix a=ix b->a=b:=fun a b h e=>by
  rw [<- (Dh a h).1,e];exact (Dh b O).1
theorem SL:∀ u v:Wd,uk u->uk v->code u=code v->u=v:=fun u v hu hv h=>by
  have hl:u.length=v.length:=by
    rcases Nat.lt_trichotomy u.length v.length with q | q | q
    · have:=pT q;omega
    · exact q
    · have:=pT q;omega
  induction u generalizing v with
  | nil=>exact (Vv.1 hl.symm).symm
  | cons a u ih =>
    cases v with
    | nil=>simp at hl
    | cons b v =>
      have hl':u.length=v.length:=by simpa using hl
      have h1:=pR u
      have h2:=pR v
      rw [hl'] at h1
      rw [code,code,hl'] at h
      have e:dg a=dg b:=by
        rcases Nat.lt_trichotomy (dg a) (dg b) with q | q | q
        · have:=TY (18 ^ v.length) (show dg a + 1<=dg b from q);rw [SW] at this;omega
        · exact q
        · have:=TY (18 ^ v.length) (show dg b + 1<=dg a from q);rw [SW] at this;omega
      have ha:=hu a Vy
      have hb:=hv b Vy
      rw [ix_inj a b ha (by unfold dg at e;omega),ih v (fun c hc=>hu c (VZ _ hc)) (fun c hc=>hv c (VZ _ hc)) (by rw [e] at h;omega) hl']
end CR
abbrev qj (rs:List an) (w:Wd):Bool:=sj rs (w.take (w.length - 1)) && sj rs (w.drop 1)
abbrev vj:=Wd × Wd × List bK
def dP (rs:List an):List an->List vj->Option (List vj)
  | [],acc=>some acc
  | r :: t,acc=>if qj rs r.left then (match cG rs r.left with | none=>none | some R=>dP rs t (acc ++ [(r.left,R.word,R.disk)])) else dP rs t acc
section
variable {rs rs2:List an} {i:Nat} {acc:List vj} {R:Option (List vj)}
theorem Dx (hi:rs.length<=i) (h:dP rs (rs.drop i) acc=R):R=some acc:=by
  rw [<- h,Sx hi];rfl
theorem Mq (hi:i < rs.length) (h:dP rs (rs.drop i) acc=R) (q:(!qj rs (rs.getD i .zero).left)=true):dP rs (rs.drop (i + 1)) acc=R:=by
  rw [<- h,pb (z:=an.zero) hi]
  conv=>rhs;rw [dP,Xy (by rw [Pn q];exact Bool.false_ne_true)]
theorem n5 (hi:i < rs.length) (h:dP rs (rs.drop i) acc=R) (q:(!qj rs (rs.getD i .zero).left)=false) (t:(!(cG rs (rs.getD i .zero).left).isSome)=true):R=none:=by
  rw [<- h,pb (z:=an.zero) hi,dP,XX (qS q),rI t]
theorem mn_add {v:Value} (hi:i < rs.length) (h:dP rs (rs.drop i) (rs2.map (io true))=R) (q:(!qj rs (rs.getD i .zero).left)=false) (t:(!(cG rs (rs.getD i .zero).left).isSome)=false) :
    dP rs (rs.drop (i + 1)) ((rs2 ++ [(⟨(rs.getD i .zero).left,(da (cG rs (rs.getD i .zero).left)).word,v,(da (cG rs (rs.getD i .zero).left)).disk⟩:an)]).map (io true))=R:=by
  rw [<- h,pb (z:=an.zero) hi]
  conv=>rhs;rw [dP,XX (qS q),np t]
  rw [VJ];rfl
end
theorem Dy {rs:List an}:∀ {t:List an} {acc R:List vj},dP rs t acc=some R->(∀ z ∈ acc,∃ r ∈ rs,z.1=r.left)->(∀ r ∈ t,r ∈ rs)->∀ z ∈ R,∃ r ∈ rs,z.1=r.left
  | [],acc,R,h,ha,_=>by rw [dP] at h;cases h;exact ha
  | r :: t,acc,R,h,ha,hr=>by
    have ht:∀ x ∈ t,x ∈ rs:=fun x hx=>hr x (VZ _ hx)
    rw [dP] at h
    split at h
    · split at h
      · cases h
      · refine Dy h (fun z hz=>?_) ht
        rcases Vw.1 hz with q | q
        · exact ha z q
        · rw [Vk] at q;exact ⟨r,hr r Vy,by rw [q]⟩
    · exact Dy h ha ht
theorem mn_ok {g:Int} {l:List Wd} {rs D:List an} {A0 A:AH} (hs:bI g l rs=true) (h:dP rs rs []=some (D.map (io true))) (hf:Cj A0 A D):∀ x ∈ D,oU x.left=true/\x.pv.oneCell'=true:=fun x hx=>by
  refine ⟨?_,?_⟩
  · obtain ⟨r,hr,e⟩:=Dy h (fun z hz=>by cases hz) (fun r hr=>hr) _ (Vj.2 ⟨x,hx,rfl⟩)
    have e:x.left=r.left:=e
    rw [e]
    have hw:=gb (ii (dx ((cT hs).2.2.1 r hr)).1)
    exact my (ja hs).2 hw.2.1 hw.2.2
  · obtain ⟨p,n,c,e,_⟩:=wi hf x hx
    rw [e];rfl
def dU (g:Int) (l:List Wd) (rs:List an):Nat:=if (ci g l rs).2.2=0 then (if (ci g l rs).1 then (if (dP rs rs []).isSome then 0 else 2) else 6) else (ci g l rs).2.2
structure qZ (g:Int) (l:List Wd) (rs:List an) (g2:Int) (l2:List Wd) (rs2:List an):Prop where
  bad:dU g l rs ≠ 0->g2=0/\l2=[]/\rs2=[]
  good:dU g l rs=0->g2=g/\l2=l/\rs2.Pairwise (fun x y=>¬ fc y.left x.left < 0)/\∃ acc,dP rs rs []=some acc/\(rs2.map (io true)).Perm acc
section
variable {g:Int} {l:List Wd} {rs rs2:List an}
theorem qZ.none (h:dU g l rs ≠ 0):qZ g l rs 0 [] []:=⟨fun _=>⟨rfl,rfl,rfl⟩,fun q=>absurd q h⟩
theorem wq (h:¬ (ci g l rs).2.2=0):dU g l rs=(ci g l rs).2.2:=by rw [dU,Xy h]
theorem wr (h:¬ ¬ (ci g l rs).2.2=0) (q:(!(ci g l rs).1)=true):dU g l rs=6:=by
  rw [dU,XX (Decidable.not_not.1 h),Xy (by rw [Pn q];exact Bool.false_ne_true)]
theorem wt (h:¬ ¬ (ci g l rs).2.2=0) (q:(!(ci g l rs).1)=false) (t:(none:Option (List vj))=dP rs rs []):dU g l rs=2:=by
  rw [dU,XX (Decidable.not_not.1 h),XX (qS q),<- t];rfl
theorem Mp {acc:List vj} (h:¬ ¬ (ci g l rs).2.2=0) (q:(!(ci g l rs).1)=false) (t:dP rs rs []=some acc):dU g l rs=0:=by
  rw [dU,XX (Decidable.not_not.1 h),XX (qS q),t];rfl
theorem eq_nil {P:Program} {t e:TypeId} {p:Option Addr} {n c:Nat} (h:P.underlying t=some (.slice e)):zY P t (.slice p n c) (.slice none 0 0)=some p.isNone:=by
  unfold zY;rw [h];cases p <;> rfl
theorem NW {A A1:AH} {l:List Wd} {p:Option Addr} {n:Nat} (h1:(dN l).length=n * 1) (h3:n=0\/∃ b off rw r rcap,p=some ⟨b,off,none⟩/\A.get b=some (.row rw r rcap)/\(r.drop off).take (n * 1)=dN l) (q:p.isNone=true):Fresh A A1 (.slice none 0 0) 1 (dN l):=by
  have:l=[]:=by
    rcases h3 with h | ⟨b,off,_,_,_,h,_⟩
    · rw [cO] at h1;exact Vv.1 O
    · rw [h] at q;cases q
  subst this;exact Fresh.nil _ _ _
end
theorem Iw (u:Value) (l:List W8) (A:AH) (hn:l.length<=1000000) (hu:bJ A 1 u (dN l)):bH prog 84 #[u] A (fun v A1=>A.le A1/\A1.wf/\Fresh A A1 v 1 (dN l)):=by
 refine bi (e:=[(0,u)]) (args:=[u]) call84 func84 Z results84 ntmps84 Z Z Z (fun wf=>?_);have a1:=AH.le.refl A;have a8:=hu;obtain ⟨pu,nu,cu,rfl,a9,ab,aa⟩:=a8;refine ak.sq fun h2=>.region<|.I Z<|.nil<|h2<|.sq fun h4=>.sq fun h6=>.region<|.J Z<|.p (qeqv Z Z (fun _ _ q=>by cases q) (fun _ q=>by cases q) (eq_nil mp)) ?_;refine Ops.nil<|h6<|.ifB Z (fun p7=>?_) (fun p7=>?_)
 ·refine ak.sq fun h9=>.region<|.I Z<|.nil<|h9<|.rt (by exact aH Z (⟨a1,wf,NW a9 aa ‹_›⟩))
 refine ak.skip<|h4<|.sq fun a7=>.region<|.m (fun a3=>bf (c:=[]) wf rfl (aw mp ek z9 rfl U U rfl) fun A14 a6 V=>?_);have a0:=a1.trans V.le;refine a3<|.J Z ?_;have X:Fresh A A14 (.slice (some ⟨a6,0,none⟩) 0 0) 1 (dN []):=Fresh.lit V.get (aX wf (Xj a1.n V.lo)) Z G;refine Ops.m (fun a4=>ct rfl rfl mp ek inf9 z9 rfl U mp (fun _ h=>by cases h) X.own ((hu.le a0).listOf (n:=l.length) (by simp only [cO] <;> omega) O) (by simp only [cO] <;> omega) (Xi _) (by show (_ + _) * 16<=_;simp only [cO,Xq,Xz];(try simp only [Xx,Xq,Xz]);omega) (by simp only [cO,Xq,Xz];(try simp only [Xx,Xq,Xz]);omega) fun A19 ac D=>?_);rw [IU] at D;obtain ⟨a2,a5⟩:=Fresh.grow X a0 wf D;refine a4<|.I Z<|.nil<|a7<|.rt (by exact aH Z (⟨a5,D.wf,a2⟩))
theorem s_cmpM (x y:an) (A:AH) (hL:ib A) (hx:x.left.length<=1000000) (hy:y.left.length<=1000000):bH prog 86 #[.agg #[ax (x.left),ax (x.right),x.pv],.agg #[ax (y.left),ax (y.right),y.pv]] A (fun v A1=>v=num (dr x.left y.left)):=by
 refine bi (e:=[(0,.agg #[ax (x.left),ax (x.right),x.pv]),(1,.agg #[ax (y.left),ax (y.right),y.pv])]) (args:=[.agg #[ax (x.left),ax (x.right),x.pv],.agg #[ax (y.left),ax (y.right),y.pv]]) call86 func86 Z results86 ntmps86 Z Z Z (fun wf=>?_);have a3:=AH.le.refl A;refine ak.sq fun h2=>.region<|.m (fun a1=>d8 wf rfl rfl fun A5 b4 D=>?_);refine a1<|.m (fun a2=>d8 D.wf rfl rfl fun A10 b9 h=>?_);have X:=(a3.trans D.le).trans h.le;refine a2<|.I Z<|.nil<|h2<|.sq fun a0=>.region<|.p (ae ew ek U Z)<|.p (ah eJ Z Z (h.le.g D.get) Z)<|.p (ae ew ek U Z)<|.p (ah eJ Z Z h.get Z) ?_;refine Ops.m (fun V=>aq Z (Bj x.left y.left A10 O O (hL.le X)) ?_);rintro a6 A18 ⟨rfl,a4,a5⟩;refine V<|.I Z<|.nil<|a0<|.rt (by exact aH Z (rfl))
open Go.Sort
namespace V
section
variable {A:AH} {w:World} {α:Type} [Inhabited α]
theorem DX (enc:α->Value) (d:Array α) (c:Array Value) (i:Nat) (hd:d.size<=c.size):(putCells enc 0 d c)[i]? = if i < d.size then some (enc d[i]!) else c[i]?:=by
  simp only [putCells,Array.getElem?_mapIdx]
  by_cases h:i < d.size
  · have:i < c.size:=by omega
    simp [h,this]
  · rw [Xy h]
    cases c[i]? with
    | none=>rfl
    | some x=>simp [h]
theorem I5 (enc:α->Value) {b cap:Nat} {r:List Value} (d:Array α) (n:Nat) (os:Array Obj) (h:cD A w) (g:A.get b=some (.row true r cap)) (hd:d.size<=r.length) :
    cD ((A.set b (.row true (d.toList.map enc ++ r.drop d.size) cap)).grow (A.n + os.size)) (Sort.grow (putRow enc (Sort.ahead w n) b 0 d) os) /\
    fx A w ((A.set b (.row true (d.toList.map enc ++ r.drop d.size) cap)).grow (A.n + os.size)) (Sort.grow (putRow enc (Sort.ahead w n) b 0 d) os):=by
  obtain ⟨cs,e,fr,h1,h0,h2,h3,h4⟩:=h.fits b _ g
  have hb:b < w.heap.size:=(Tj.1 h1).1
  have hsz:(Sort.grow (putRow enc (Sort.ahead w n) b 0 d) os).heap.size=w.heap.size + os.size:=by simp [Sort.grow,putRow,mapBlock,Sort.ahead]
  have old:∀ k,k < w.heap.size->k ≠ b->(Sort.grow (putRow enc (Sort.ahead w n) b 0 d) os).heap[k]? = w.heap[k]?:=fun k hk hne=>by
    simp only [Sort.grow,putRow,mapBlock,Sort.ahead]
    rw [SV (by simpa using hk),Array.getElem?_modify,Xy (Ne.symm hne)]
  have new:(Sort.grow (putRow enc (Sort.ahead w n) b 0 d) os).heap[b]? = some (.cells (putCells enc 0 d cs) e fr):=by
    simp only [Sort.grow,putRow,mapBlock,Sort.ahead]
    rw [SV (by simpa using hb),Array.getElem?_modify,XX Z,h1]
    rfl
  refine ⟨⟨by rw [hsz,h.size];rfl,fun k o hk=>?_⟩,⟨Z,Z,⟨Z,Nat.le_add_right _ _⟩,by rw [hsz];omega,fun k hk hr=>?_,fun k hk=>?_⟩⟩
  · simp only [AH.grow_get,AH.set_get] at hk
    split at hk
    · rename_i q;subst q;cases hk
      have hps:(putCells enc 0 d cs).size=cs.size:=by simp [putCells]
      refine ⟨_,_,_,new,by simp;omega,by rw [hps];exact h2,fun i hi=>?_,h4⟩
      rw [DX enc d cs i O]
      simp only [Xx,TX,Qy,Tx] at hi
      by_cases q:i < d.size
      · rw [XX q,Tv (by simpa using q)]
        simp [q]
      · rw [Xy q,TZ Oi,h3 i O,RV]
        congr 1;simp;omega
    · rename_i q
      have:=h.wf k o hk
      rw [old k (by rw [h.size];exact this) q]
      exact h.fits k o hk
  · have:k ≠ b:=by rintro rfl;simp [AH.rw,g,fB.rw] at hr
    exact old k hk this
  · left
    simp only [AH.rw,AH.grow_get,AH.set_get] at hk ⊢
    split at hk
    · rename_i o ho
      split at ho
      · rename_i e;subst e;simp [g,fB.rw]
      · simp [ho,hk]
    · cases hk
def fB.freeze:fB->fB
  | .row _ c cap=>.row false c cap
  | .obj _ o=>.obj false o
def AH.frozen (A:AH) (b n:Nat):AH:=⟨n,fun k=>if k=b then none else (A.get k).map fB.freeze⟩
theorem FH {b n:Nat} {W:World} (h:cD A w) (hn:W.heap.size=n) (hle:w.heap.size<=n) (hk:∀ k,k < w.heap.size->k ≠ b->W.heap[k]? = w.heap[k]?):cD (A.frozen b n) W:=by
  refine ⟨hn,fun k o ho=>?_⟩
  simp only [AH.frozen] at ho
  split at ho
  · cases ho
  · rename_i q
    cases hg:A.get k with
    | none=>rw [hg] at ho;cases ho
    | some x =>
      rw [hg] at ho;cases ho
      have hlt:=h.wf k x hg
      rw [hk k (by rw [h.size];exact hlt) q]
      have:=h.fits k x hg
      cases x with
      | row rw c cap =>
        obtain ⟨cs,e,fr,h1,h0,h2,h3,h4⟩:=this
        exact ⟨cs,e,fr,h1,h0,h2,h3,fun q=>by cases q⟩
      | obj rw o=>exact this
theorem OC {b n k:Nat}:(A.frozen b n).rw k=false:=by
  unfold AH.rw AH.frozen
  simp only
  split
  · rename_i o ho
    split at ho
    · cases ho
    · cases hg:A.get k with
      | none=>rw [hg] at ho;cases ho
      | some x=>rw [hg] at ho;cases ho;cases x <;> rfl
  · rfl
theorem QO {A1:AH} {W w':World} {b n:Nat} (h:fx (A.frozen b n) W A1 w'):∃ q os',w'=Sort.grow (W.drewN q) os':=by
  refine ⟨w'.drawn - W.drawn,w'.heap.extract W.heap.size w'.heap.size,?_⟩
  have hh:w'.heap=W.heap ++ w'.heap.extract W.heap.size w'.heap.size:=by
    apply Array.ext_getElem?
    intro k
    by_cases hk:k < W.heap.size
    · rw [SV hk];exact h.kept k hk OC
    · rw [Array.getElem?_append_right O,Array.getElem?_extract]
      have:=h.size
      by_cases q:k < w'.heap.size
      · rw [XX O];congr 1;omega
      · rw [Xy O];exact Ry O
  have ho:=h.output.1;have hd:=h.output.2;have hos:=h.os;have ht:=h.tape
  cases w' with | mk heap tape drawn os output =>
  cases W with | mk heap0 tape0 drawn0 os0 output0 =>
  simp only at ho hd hos ht hh
  subst ho;subst hos;subst ht
  simp only [Sort.grow,World.drewN]
  rw [show drawn0 + (drawn - drawn0)=drawn by omega]
  congr 1
theorem CT (enc:α->List Value) (k:Nat) (hk:∀ x,(enc x).length=k) (d:List α):(flatK enc k d.toArray).toList=d.flatMap enc:=by
  apply List.ext_getElem?
  intro t
  by_cases h:t < d.length * k
  · have k0 : 0 < k := by rcases TV k with q | q; · subst q; simp at h
                          · exact q
    have hq:t / k < d.length:=Nat.div_lt_of_lt_mul (by rw [Nat.mul_comm];exact h)
    have e1:(flatK enc k d.toArray).toList[t]? = some ((enc d.toArray[t / k]!)[t % k]!):=by
      have:=get_flatK enc k d.toArray t (by simpa using h)
      rw [Array.getElem?_toList,<- this]
      simp [h]
    rw [e1]
    have key:∀ (d:List α) (t:Nat),t / k < d.length->(d.flatMap enc)[t]? = some ((enc d[t / k]!)[t % k]!):=by
      intro d
      induction d with
      | nil=>intro t h;simp at h
      | cons a d ih =>
        intro t ht
        rw [Sw]
        by_cases q:t < k
        · rw [Tv (by rw [hk];exact q),Nat.div_eq_of_lt q,Nat.mod_eq_of_lt q]
          have:t < (enc a).length:=by rw [hk];exact q
          simp [this]
        · rw [TZ (by rw [hk];omega),hk]
          have h1:t / k=(t - k) / k + 1:=by rw [Nat.div_eq_sub_div k0 O]
          have h2:t % k=(t - k) % k:=Nat.mod_eq_sub_mod O
          rw [ih (t - k) (by simp only [Xq] at ht;omega),h1,h2]
          simp
    rw [key d t hq]
    simp
  · rw [Qk Oi,Qk]
    rw [List.length_flatMap]
    have:(d.map fun x=>(enc x).length).sum=d.length * k:=by
      clear h
      induction d with
      | nil=>simp
      | cons a d ih=>simp only [TJ,List.sum_cons,Xq,hk a,ih,SW];omega
    omega
theorem Em {P:Program} {ρ:Go.Shelf.Ren} (L:SlLaysF0.n6 P ρ) (k:Nat) (k0:0 < k) (aE:∀ w,(isAgg (ρ.t 24)).run P w=.ok true w) (zE:∀ w,(Go.sizeOf (ρ.t 24)).run P w=.ok k w) (enc:α->List Value) (hk:∀ x,(enc x).length=k) (h1:∀ x,∀ v ∈ enc x,v.oneCell'=true)
    (cf:α->α->Int) (hO:SWO (ltOf cf)) (g:Nat) (cb:Array Value) (e6:f5 P (ρ.f 6)) (eg:f5 P g) {v:Value} {d:List α} {A0:AH} (hsz:d.length < 4611686018427387904) (D:A0.wf) (le:A0.le A) (own:Fresh A0 A v k (d.flatMap enc))
    (hcmp:∀ n,A.n<=n->∀ b,blk v=some b->∀ x y:α,bH P g (#[.agg (enc x).toArray,.agg (enc y).toArray] ++ cb) (A.frozen b n) fun u _=>u=.int .i64 (cf x y)) :
    bH P (ρ.f 6) #[v,.func (.func g) #[] cb] A fun u A1=>u=.tuple #[]/\A0.le A1/\A1.wf/\(∀ b o,A.get b=some o->blk v ≠ some b->A1.get b=some o)/\∃ d':List α,d'.Perm d/\d'.Pairwise (fun x y=>¬ cf y x < 0)/\Fresh A0 A1 v k (d'.flatMap enc):=by
  have hfl:∀ d:List α,(d.flatMap enc).length=d.length * k:=fun d=>by
    rw [<- CT enc k hk];simp
  have nilcase:∀ (p:Option Addr) (c:Nat),v=.slice p 0 c->d=[]->bH P (ρ.f 6) #[v,.func (.func g) #[] cb] A fun u A1=>u=.tuple #[]/\A0.le A1/\A1.wf/\(∀ b o,A.get b=some o->blk v ≠ some b->A1.get b=some o)/\∃ d':List α,d'.Perm d/\d'.Pairwise (fun x y=>¬ cf y x < 0)/\Fresh A0 A1 v k (d'.flatMap enc):=by
    rintro p c rfl rfl
    refine ⟨e6,fun w hw=>(AnyF.slices_SortFunc_none L p c _ w).mono ?_⟩
    rintro e w' ⟨rfl,rfl⟩
    exact ⟨A,hw,.refl _ _,_,rfl,rfl,le,hw.wf,fun _ _ h _=>h,[],.refl _,List.Pairwise.nil,own⟩
  rcases own.own with ⟨rfl,hx⟩ | ⟨b,n,c,r,rcap,rfl,g2,g3,g4,g5,g6⟩
  · have:d=[]:=Vv.1 (by
      have:=hfl d;rw [hx] at this
      rcases Nat.mul_eq_zero.1 this.symm with q | q
      · exact q
      · omega)
    exact nilcase none 0 rfl this
  · have hn:n=d.length:=Nat.eq_of_mul_eq_mul_right k0 (g3.symm.trans (hfl d))
    subst hn
    have hrl:d.length * k<=r.length:=by rw [<- g4,XZ] at g3;omega
    refine ⟨e6,fun w hw=>?_⟩
    obtain ⟨cs,el,fr,q1,q0,q2,q3,q4⟩:=hw.fits b _ g2
    have hb:b < w.heap.size:=(Tj.1 q1).1
    have hfe:(flatK enc k d.toArray).toList=r.take (d.length * k):=by rw [CT enc k hk,g4]
    have hH:HoldsK enc k w b 0 d.toArray:=fun j hj=>by
      simp only [size_flatK,List.size_toArray] at hj
      have hjr:j < r.length:=by omega
      have hjc:j < cs.size:=by omega
      have e1:(flatK enc k d.toArray)[j]! = r[j]:=by
        have:(flatK enc k d.toArray).toList[j]? = (r.take (d.length * k))[j]?:=by rw [hfe]
        have hlt:j < (flatK enc k d.toArray).size:=by rw [size_flatK];simpa using hj
        rw [SX hj,SQ hjr,Array.getElem?_toList,Array.getElem?_eq_getElem hlt] at this
        rw [getElem!_pos (flatK enc k d.toArray) j hlt];exact Option.some.inj this
      have e2:=q3 j hjr
      rw [SQ hjr] at e2
      refine ⟨?_,?_⟩
      · simp only [World.cell?,q1,Qq,id];rw [e1];exact e2
      · have:=q4 Z j O
        simp only [World.frozen?,q1,Qq]
        obtain ⟨f1,f2⟩:=fr
        simp only at this ⊢
        simp only [Bool.and_eq_false_iff,VK];omega
    have hc:CmpLays P g cb enc k cf b 0 d.toArray.size w:=fun m os dk hdk x y=>by
      have hs:(sortWorldK enc k w b 0 m dk os).heap.size=w.heap.size + os.size:=by simp [sortWorldK,Sort.grow,putRowK,putRow,mapBlock,Sort.ahead]
      have hv:cD (A.frozen b (w.heap.size + os.size)) (sortWorldK enc k w b 0 m dk os):=FH hw hs O fun j hj hne=>by
        simp only [sortWorldK,Sort.grow,putRowK,putRow,mapBlock,Sort.ahead]
        rw [SV (by simpa using hj),Array.getElem?_modify,Xy (Ne.symm hne)]
      refine ((hcmp (w.heap.size + os.size) (by rw [hw.size];omega) b Z x y).2 _ hv).mono ?_
      rintro e w' ⟨A1,_,hst,u,rfl,rfl⟩
      exact ⟨Z,QO hst⟩
    have key:=AnyQ.slices_SortFunc L k aE zE enc hk h1 cf hO g cb b 0 c d.toArray w eg hc hH hb (by simpa using hsz)
    simp only [List.size_toArray] at key
    refine key.mono ?_
    rintro e w' ⟨rfl,d',m,os,hp,hs,rfl⟩
    have hds:d'.size=d.length:=by simpa using hp.1
    obtain ⟨v1,s1⟩:=I5 (α:=Value) id (flatK enc k d') m os hw g2 (by rw [size_flatK,hds];exact hrl)
    refine ⟨_,v1,s1,_,rfl,rfl,?_,v1.wf,fun j o hj hne=>?_,d'.toList,?_,?_,?_⟩
    · exact ⟨Xj le.n (Nat.le_add_right _ _),fun j o hj=>by
        rw [AH.grow_get,AH.set_get_ne _ _ (by rintro rfl;rw [own.lo j Z] at hj;cases hj)];exact le.get j o hj⟩
    · rw [AH.grow_get,AH.set_get_ne _ _ (by rintro rfl;exact hne Z)];exact hj
    · have:=hp.2.2
      have e1:d'.extract 0 d.length=d':=by rw [<- hds];simp
      have e2:d.toArray.extract 0 d.length=d.toArray:=by
        simp
      rw [e1,e2] at this
      exact this
    · rw [List.pairwise_iff_getElem]
      intro i j hi hj hij
      have:=hs i j (XK _) hij (by simpa [hds] using hj)
      simp only [ltOf,VK] at this
      simp only [Qy] at hi hj
      simpa [hi,hj] using this
    · have e3:(flatK enc k d').toList=d'.toList.flatMap enc:=by
        have:=CT enc k hk d'.toList;simpa using this
      refine ⟨.inr ⟨b,d.length,c,_,rcap,Z,by rw [AH.grow_get];exact AH.set_get_same _ _ _,?_,?_,g5,g6⟩,own.lo⟩
      · rw [hfl,Qy,hds]
      · rw [List.map_id_fun,id,List.take_left' (by rw [Qy,size_flatK,hds])]
        exact e3
end
end V
abbrev okMn (x:an):Prop:=oU x.left=true/\x.pv.oneCell'=true
abbrev Ny:={x:an // okMn x}
instance:Inhabited Ny:=⟨⟨.zero,by decide,by decide⟩⟩
theorem L8 {w:Wd} (h:oU w=true):w.length<=100000:=by simp only [oU,XQ,Xw] at h;exact h.1
def cmpM (x y:Ny):Int:=fc x.1.left y.1.left
theorem SG:Go.Sort.SWO (ltOf cmpM) :=
  ⟨fun x=>Xv (by rw [cmpM,CR.cmpw_code];omega),fun x y z h1 h2=>XJ (by have h1:=CR.cmpw_code.1 (of_decide_eq_true h1);have h2:=CR.cmpw_code.1 (of_decide_eq_true h2);exact CR.cmpw_code.2 O),
   fun x y z h1 h2=>Xv (fun h=>by have k1:¬ CR.code x.1.left < CR.code y.1.left:=fun q=>of_decide_eq_false h1 (CR.cmpw_code.2 q);have k2:¬ CR.code y.1.left < CR.code z.1.left:=fun q=>of_decide_eq_false h2 (CR.cmpw_code.2 q);have k3:CR.code x.1.left < CR.code z.1.left:=CR.cmpw_code.1 h;omega)⟩
theorem Ga {A0 A:AH} {b n:Nat} (hL:ib A0) (le:A0.le A) (hb:A0.get b=none):ib (A.frozen b n):=by
  obtain ⟨r,c,h⟩:=hL
  have h2:=le.g h
  have:(A.frozen b n).get 0=some (.row false (ao bW) c):=by
    simp only [AH.frozen]
    rw [Xy (by rintro rfl;rw [h] at hb;cases hb),h2];rfl
  exact ⟨_,_,this⟩
theorem MP (d:List Ny):(d.flatMap fun x=>ky x.1)=cd (d.map (·.1)):=by simp [cd,List.flatMap_map]
theorem Yo {L:List an} (h:∀ x ∈ L,okMn x):∃ d:List Ny,d.map (·.1)=L:=⟨L.pmap (fun x hx=>(⟨x,hx⟩:Ny)) h,by simp [List.map_pmap]⟩
theorem aar (L:List an) (lv:Value) (A0 A:AH) (le:A0.le A) (h:A0.wf) (own:Fresh A0 A lv 3 (cd L)) (hL:ib A0) (hok:∀ x ∈ L,okMn x) (hl:L.length<=30000) :
    bH prog 85 #[lv,.func (.func 86) #[] #[]] A (fun v A1=>∃ L2,L2.Perm L/\L2.Pairwise (fun x y=>¬ fc y.left x.left < 0)/\v=.tuple #[]/\A0.le A1/\A1.wf/\Fresh A0 A1 lv 3 (cd L2)):=by
  obtain ⟨d,rfl⟩:=Yo hok
  rw [<- MP] at own
  refine (Em Tryz.sortR 3 U (fun w=>isAgg83 w) (fun w=>sizeOf83 w) (fun x:Ny=>ky x.1) (fun _=>rfl) ?_ cmpM SG 86 #[] call85 call86 (by rw [TX] at hl;omega) h le own ?_).mono ?_
  · intro x v hv
    simp only [ky,Vz,Ty,or_false] at hv
    rcases hv with rfl | rfl | rfl
    · rfl
    · rfl
    · exact x.2.2
  · intro n hn b hb x y
    have hx:=x.2;have hy:=y.2
    refine (s_cmpM x.1 y.1 (A.frozen b n) (Ga hL le (own.lo b hb)) (by have:=L8 hx.1;omega) (by have:=L8 hy.1;omega)).mono ?_
    rintro v A1 rfl
    show _=num _
    rw [dr,XX ⟨x.2.1,y.2.1⟩];rfl
  · rintro v A1 ⟨rfl,h2,h3,_,d',h4,h5,h6⟩
    rw [MP] at h6
    exact ⟨d'.map (·.1),h4.map _,(by rw [Qz];exact h5),Z,h2,h3,h6⟩
theorem vQ (g:Int) (u:Value) (l:List W8) (rv:Value) (rs:List an) (A:AH) (hn:l.length<=9223372036854775807) (hm:rs.length<=9223372036854775807) (hmx:bI g l rs=true->(aM g rs).length<=50000) (hL:ib A) (hM:tl A) (hu:bJ A 1 u (dN l)) (hr:bJ A 3 rv (cd rs)) (hp:Proofs A rs):bH prog 38 #[.agg #[num (g),u,rv]] A (fun v A1=>∃ u2 rv2 g2 l2 a4,v=.tuple #[.agg #[num g2,u2,rv2],num ((dU g l rs:Nat):Int)]/\A.le A1/\A1.wf/\Fresh A A1 u2 1 (dN l2)/\Fresh A A1 rv2 3 (cd a4)/\Proofs A1 a4/\qZ g l rs g2 l2 a4):=by
 refine bi (e:=[(0,.agg #[num (g),u,rv])]) (args:=[.agg #[num (g),u,rv]]) call38 func38 Z results38 ntmps38 Z Z Z (fun wf=>?_);have lE:=AH.le.refl A;refine ak.sq fun h2=>.region<|.m (fun lB=>d8 wf rfl rfl fun A5 b4 gg=>?_);have i2:=lE.trans gg.le;refine lB<|.m (fun lC=>bZ gg.wf Je rfl fun A10 b9 d3=>?_);have cb:=aX wf (Xj i2.n d3.lo);have hW:=d3.le.g gg.get;have ck:=i2.trans d3.le;refine lC<|.I Z<|.nil<|h2<|.sq fun la=>.region<|.p (am ei dE Z Z hW Z)<|.m (fun k6=>aq Z (uV ((g)) u l rv rs A10 hn hm hmx (hL.le ck) (hu.le ck) (hr.le ck) (hp.le ck)) ?_);rintro mB A18 ⟨rfl,d2,dl⟩;have hX:=d2.g hW;have hY:=d2.g d3.get;have ge:=ck.trans d2;refine k6<|.J Z<|.p (aQ Z Z)<|.p (aQ Z Z)<|.p (aQ Z Z)<|.m (fun k7=>bZ dl tk rfl fun A25 l6 bb=>?_);refine k7<|.I Z<|.m (fun k9=>aW (cs:=[num ((ci ((g)) l rs).2.1.i),num ((ci ((g)) l rs).2.1.j),ax ((ci ((g)) l rs).2.1.word),ax ((ci ((g)) l rs).2.1.u),ax ((ci ((g)) l rs).2.1.v)]) (c':=[num ((ci ((g)) l rs).2.1.i),num ((ci ((g)) l rs).2.1.j),ax ((ci ((g)) l rs).2.1.word),ax ((ci ((g)) l rs).2.1.u),ax ((ci ((g)) l rs).2.1.v)]) bb.wf rfl rfl rfl rfl gy bb.get G rfl rfl fun A31 aB=>?_);have bY:=aB.k (ne_new dl hX bb.lo) (bb.le.g hX);have cH:=aB.k (ne_new dl hY bb.lo) (bb.le.g hY);have bB:=al (ge.trans bb.le) wf (aX wf (Xj ge.n bb.lo)) aB.n aB.keep;refine k9<|.I Z<|.nil<|la<|.sq fun lb=>.block<|.sq fun lc=>.region<|.J Z<|.p (eB (b:=0) Z Z) ?_;refine Ops.I Z<|.nil<|lc<|.if rfl (fun lF=>?_) (fun lF=>?_)
 ·refine ak.sq fun lp=>.region<|.p (cx Z (bg u27 Je Pz Z))<|.J Z<|.m (fun ka=>aW (cs:=[num ((0:Nat):Int),.slice none 0 0,.slice none 0 0]) (c':=[num ((0:Nat):Int),.slice none 0 0,.slice none 0 0]) aB.wf rfl rfl rfl rfl dE cH G rfl rfl fun A44 dj=>?_);have kA:=al bB wf cb dj.n dj.keep;refine ka<|.I Z<|.nil<|lp<|.rt (by exact aH (df ei dE Z dj.get Z (dA Z d5)) (⟨_,_,0,[],[],by (rw [wq ‹_›];rfl),kA,dj.wf,Fresh.nil _ _ _,Fresh.nil _ _ _,(fun _ h=>by cases h),.none (by (rw [wq ‹_›];assumption))⟩))
 refine ak.sq fun lt=>.region<|.J Z<|.p (eD Z)<|.I Z<|.nil<|lt<|.ifB Z (fun lK=>?_) (fun lK=>?_)
 ·refine ak.sq fun lw=>.region<|.p (cx Z (bg u27 Je Pz Z))<|.m (fun kc=>aW (cs:=[num ((0:Nat):Int),.slice none 0 0,.slice none 0 0]) (c':=[num ((0:Nat):Int),.slice none 0 0,.slice none 0 0]) aB.wf rfl rfl rfl rfl dE cH G rfl rfl fun A55 dk=>?_);have kC:=al bB wf cb dk.n dk.keep;refine kc<|.I Z<|.nil<|lw<|.rt (by exact aH (df ei dE Z dk.get Z (dA Z d5)) (⟨_,_,0,[],[],by (rw [wr ‹_› ‹_›];rfl),kC,dk.wf,Fresh.nil _ _ _,Fresh.nil _ _ _,(fun _ h=>by cases h),.none (by (rw [wr ‹_› ‹_›];decide))⟩))
 refine ak.skip<|lb<|.join (fun f B=>∃ z:Nat × Value,(fun ⟨aG,uw⟩=>aj [(1,.pointer (some ⟨b4,0,none⟩)),(2,.pointer (some ⟨b9,0,none⟩)),(3,num ((0:Nat):Int)),(7,.pointer (some ⟨aG,0,none⟩))] f.e/\f.ds=[]/\(True)/\A.le B/\Fresh A B uw 1 (dN l)/\B.get aG=some (.row true [num (g),uw,.slice none 0 0] 3)/\B.get b4=some (.row true [num (g),u,rv] 3)/\B.get b9=some (.row true [num ((0:Nat):Int),.slice none 0 0,.slice none 0 0] 3)/\V.blk uw ≠ some aG/\V.blk uw ≠ some b4/\V.blk uw ≠ some b9/\(A.get aG=none/\b4 ≠ aG/\b9 ≠ aG/\l6 ≠ aG)) z) ?_ ?_
 ·have hs:bI g l rs=true:=kQ ‹_›;have hsl:=(cT hs).2.1;have hll:=(dc (cT hs).1).2.1;refine ak.drawnP [0,1,2,3,4,5] 6 9 [7,8,9,10] [6,7,8,10] mixed Y Y Z<|.p Z (ae gi ik U Z)<|.p Z (ae gh dH U Z) ?_;have g5:=de (off:=0) bY (show _=some (num (g)) from rfl);refine i8.p Z (ah fA Z Z bY Z)<|.p Z (ae gi ik U Z)<|.p Z (ae gv mH U Z) ?_;have k5:=de (off:=1) bY (show _=some (u) from rfl);refine i8.p Z (ah mr Z Z bY Z)<|.both Z Z Z Z Z Z ?_ ?_
  ·refine fun _ _ kl _=>aq Z (Iw u l A31 O (hu.le bB)) ?_;rintro mE A68 ⟨bM,bS,cZ⟩;have hZ:=bM.g bY;have i1:=bM.g cH;have g6:=cl bM g5;have gf:=bB.trans bM;have dK:=cZ.base bB;refine kl _ _ (aU.list (L:=[(⟨b4,0,none⟩,num (g))]) Y (bz g6 cm)) ?_;obtain ⟨gq,gc,fm,lO,_⟩:=dK.own.slice;subst lO;refine bn.p Z (cx Z (bg u24 z24 pl24 Z))<|.p Z (cx Z (bg u27 Je Pz Z))<|.m Z (fun km=>bZ bS Je rfl fun A83 l7 aE=>?_);have c3:=ne_new bS hZ aE.lo;have c4:=ne_new bS i1 aE.lo;have gl:=dK.own.ne_new bS aE.lo;have dm:=aX wf (Xj gf.n aE.lo);refine km (aU.list (L:=[(⟨b4,0,none⟩,num (g))]) Y (bz (cl aE.le g6) cm))<|.m Z (fun kp=>aW (cs:=[num (g),.slice gq gc fm,.slice none 0 0]) (c':=[num (g),.slice gq gc fm,.slice none 0 0]) aE.wf rfl rfl rfl rfl dE aE.get G rfl rfl fun A93 bV=>?_);have iH:=(dK.le aE.le).keep bV.keep gl;refine kp (aU.none Y)<|.done ?_;exact ⟨⟨l7,.slice gq gc fm⟩,jC Z Z Z Z,Z,⟨trivial,(al (gf.trans aE.le) wf dm bV.n bV.keep),iH,bV.get,(bV.k c3 (aE.le.g hZ)),(bV.k c4 (aE.le.g i1)),gl,(cZ.ne aB.wf bY),(cZ.ne aB.wf cH),⟨dm,c3,c4,(ne_new bS (bM.g aB.get) aE.lo)⟩⟩⟩
  refine fun _ _ hc _=>bZ aB.wf Je rfl fun A102 ih aa=>?_;have bO:=ne_new aB.wf bY aa.lo;have bP:=ne_new aB.wf cH aa.lo;have cF:=aX wf (Xj bB.n aa.lo);have fo:=aa.le.g bY;have fq:=aa.le.g cH;have en:=cl aa.le g5;have d0:=bB.trans aa.le;refine hc _ _ (aU.list (L:=[(⟨b4,1,none⟩,u),(⟨b4,0,none⟩,num (g))]) Y (bz (cl aa.le k5) (bz en cm)))<|.m Z (fun hd=>aq Z (Iw u l A102 O (hu.le d0)) ?_);rintro me A112 ⟨b7,gs,bC⟩;have e0:=bC.base d0;have eZ:=bC.ne aa.wf aa.get;refine hd (aU.list (L:=[(⟨b4,0,none⟩,num (g))]) Y (bz (cl b7 en) cm)) ?_;obtain ⟨dS,dM,dI,kP,_⟩:=e0.own.slice;subst kP;refine bn.p Z (cx Z (bg u24 z24 pl24 Z))<|.p Z (cx Z (bg u27 Je Pz Z))<|.m Z (fun he=>aW (cs:=[num (g),.slice dS dM dI,.slice none 0 0]) (c':=[num (g),.slice dS dM dI,.slice none 0 0]) gs rfl rfl rfl rfl dE (b7.g aa.get) G rfl rfl fun A128 bl=>?_);refine he (aU.none Y)<|.done ?_;exact ⟨⟨ih,.slice dS dM dI⟩,jC Z Z Z Z,Z,⟨trivial,(al (d0.trans b7) wf cF bl.n bl.keep),(e0.keep bl.keep eZ),bl.get,(bl.k bO (b7.g fo)),(bl.k bP (b7.g fq)),eZ,(bC.ne aa.wf fo),(bC.ne aa.wf fq),⟨cF,bO,bP,(ne_new aB.wf aB.get aa.lo)⟩⟩⟩
 rintro ⟨fe,fd⟩ B135 ⟨⟨aG,uw⟩,hE,rfl,⟨_,cu,cC,bv,bT,cP,cB,dd,di,⟨fn,dD,dG,hJ⟩⟩⟩;refine ak.forget hE<|.wf fun m1=>?_;have hs:bI g l rs=true:=kQ ‹_›;have hsl:=(cT hs).2.1;have hll:=(dc (cT hs).1).2.1;refine ak.sq fun iR=>.region<|.p (am ei dE Z Z bT Z)<|.m (fun hf=>aq Z (ol ((g)) u l rv rs B135 (sI hs) (vc hs) (hu.le cu) (hr.le cu) (hp.le cu)) ?_);rintro mm A141 ⟨a5,dz,rfl,b8,lP,ch,aP,f8,cK⟩;have fr:=b8.g bT;have eS:=cu.trans b8;have hrow:=ch;have hno:=aP;have hix:=f8;have hOn:=cK;have bc:aG ≠ a5:=fun z=>by have q0:=bv;rw [z,aP] at q0;cases q0
 have cv:b4 ≠ a5:=fun z=>by have q0:=bT;rw [z,aP] at q0;cases q0
 have cA:b9 ≠ a5:=fun z=>by have q0:=cP;rw [z,aP] at q0;cases q0
 have dL:=sw cu aP;have hN:=xJ cC.own aP;refine hf<|.I Z<|.nil ?_;obtain ⟨M,hMx,hMw,hMl,hMb,lA⟩:=cK;have kD:M.get aG=none:=lA _ _ bv;refine iR<|.sq fun iS=>.sq fun iT=>.region<|.p (ae cW fp U Z)<|.p (ah ga Z Z fr Z)<|.p (bE (n:=rs.length) i4 Z (hr.le eS) O (cL _))<|.J Z<|.nil<|iT ?_;refine ak.block ?_;have iF:Cj A A141 []:=famR0;refine ak.loop (X:=Nat × List an × Value × Value × Value × Value × Value × Value × Value) (fun ⟨i,a4,y0,y5,y6,y7,y8,y9,ad⟩=>[(1,.pointer (some ⟨b4,0,none⟩)),(2,.pointer (some ⟨b9,0,none⟩)),(7,.pointer (some ⟨aG,0,none⟩)),(8,.pointer (some ⟨a5,0,none⟩)),(40,rv),(41,num ((rs.length:Nat):Int)),(42,num ((i:Nat):Int))]) (fun ⟨i,a4,y0,y5,y6,y7,y8,y9,ad⟩ B=>(i<=rs.length/\a4.length<=i/\dP rs (rs.drop i) (a4.map (io true))=dP rs rs [])/\A.le B/\Fresh A B ad 3 (cd a4)/\Fresh A B uw 1 (dN l)/\B.get aG=some (.row true [num (g),uw,ad] 3)/\B.get a5=some (.row true [y0,num ((g)),u,rv,.map (some dz),y5,y6,y7,y8,y9] 10)/\B.get b4=some (.row true [num (g),u,rv] 3)/\B.get b9=some (.row true [num ((0:Nat):Int),.slice none 0 0,.slice none 0 0] 3)/\V.blk ad ≠ some aG/\V.blk uw ≠ some aG/\V.blk ad ≠ some a5/\V.blk uw ≠ some a5/\V.blk ad ≠ some b4/\V.blk uw ≠ some b4/\V.blk ad ≠ some b9/\V.blk uw ≠ some b9/\bx ad uw/\Cj A B a4/\dn (vf a4) aG/\dn (vf a4) a5/\dn (vf a4) b4/\dn (vf a4) b9/\be ad (vf a4)/\be uw (vf a4)/\M.le B/\(∀ b,V.blk ad=some b->M.get b=none)) (fun ⟨i,a4,y0,y5,y6,y7,y8,y9,ad⟩=>rs.length - i) (⟨0,[],.slice none 0 0,.slice none 0 0,num ((0:Nat):Int),ax ([]),num ((0:Nat):Int),.slice none 0 0,.slice none 0 0⟩) (Jc Z Z Z Z Z Z Z) (⟨⟨XK _,XK _,rfl⟩,eS,(Fresh.nil A A141 3),(cC.le b8),(b8.g bv),ch,fr,(b8.g cP),(fun q=>by cases q),cB,(fun q=>by cases q),hN,(fun q=>by cases q),dd,(fun q=>by cases q),di,bx.nil,iF,Ms,Ms,Ms,Ms,be.nil,sepR0,hMl,(fun _ q=>by cases q)⟩) ?_;rintro ⟨i,a4,y0,y5,y6,y7,y8,y9,ad⟩ B154 ⟨⟨hi,hrl,hsc⟩,cc,aV,b3,aY,br,cf,bA,ay,aF,a6,ab,aS,bd,aA,aT,aZ,aR,b5,ag,bm,aD,ap,bp,dv,b0⟩;refine ak.wf fun aI=>?_;have hlw:=fun q:i < rs.length=>rP hs _ (bj (d:=an.zero) q);refine ak.sq fun iV=>.region<|.p (ca Z Z)<|.nil<|iV<|.sq fun iX=>.if rfl (fun kK=>?_) (fun kK=>?_)
 ·refine ak.skip<|iX<|.sq fun ft=>.block<|.sq fun j1=>.region ?_;obtain ⟨m2,m3,lY,mb,lX,ma,m6,iD,kv,iN,gN,lR⟩:=bJ.at (i:=i) (hr.le cc) O3 O;refine Ops.p (au i4 eE Z iD Z kv)<|.p (am uo eE Z Z iN (gN.trans (Xk some (iI O))))<|.m (fun hg=>bZ aI wJ rfl fun A168 ir a1=>?_);have b2:=ne_new aI br a1.lo;have f1:=aR.ne_new aI a1.lo;have f6:=aX hMw (Xj dv.n a1.lo);have gP:=aR.le a1.le;refine hg<|.m (fun hh=>aW (cs:=[ax ((rs.getD i .zero).left),ax ((rs.getD i .zero).right),(rs.getD i .zero).pv]) (c':=[ax ((rs.getD i .zero).left),ax ((rs.getD i .zero).right),(rs.getD i .zero).pv]) a1.wf rfl rfl rfl rfl eE a1.get G (jm (hp.get (show i < rs.length by omega))) rfl fun A183 ai=>?_);have fv:=ai.k (ne_new aI cf a1.lo) (a1.le.g cf);have h3:=(aV.le a1.le).keep ai.keep (aV.own.ne_new aI a1.lo);have h4:=(b3.le a1.le).keep ai.keep (b3.own.ne_new aI a1.lo);have gQ:=gP.keep ai.keep f1;have bD:=al (cc.trans a1.le) wf (aX wf (Xj cc.n a1.lo)) ai.n ai.keep;refine hh<|.nil<|j1<|.sq fun j2=>.sq fun j3=>.region<|.p (am ei dE Z Z fv Z)<|.p (ae ew ek U Z)<|.p (ah eJ Z Z ai.get Z)<|.m (fun hj=>aq Z (s_min ((g)) u l rv rs ((rs.getD i .zero).left) A183 hm (by have:=hlw O;omega) (hlw O).1 (hL.le bD) (hM.le bD) (hu.le bD) (hr.le bD)) ?_);rintro mt A200 ⟨rfl,ar,gA⟩;have fD:=ar.g (ai.k (ne_new aI aY a1.lo) (a1.le.g aY));have fE:=ar.g (ai.k b2 (a1.le.g br));have fI:=ar.g fv;have fL:=ar.g (ai.k (ne_new aI bA a1.lo) (a1.le.g bA));have fM:=ar.g ai.get;have cV:=h3.le ar;have cX:=h4.le ar;have cS:=gQ.le ar;have eT:=bD.trans ar;have eG:=(al (dv.trans a1.le) hMw f6 ai.n ai.keep).trans ar;refine hj<|.p (eD Z)<|.nil<|j3<|.ifB Z (fun kL=>?_) (fun kL=>?_)
  ·refine ak.exit<|ft<|.region<|.p (bF (b:=1) Z Z O)<|.J Z<|.nil ?_;exact ⟨⟨i + 1,a4,y0,y5,y6,y7,y8,y9,ad⟩,Jc Z Z Z Z Z Z Z,Z,⟨⟨by omega,by (try simp only [Xx,Xq,Xz]);omega,by exact Mq O hsc ‹_›⟩,eT,cV,cX,fD,fE,fI,fL,ay,aF,a6,ab,aS,bd,aA,aT,aZ,cS,b5,ag,bm,aD,ap,bp,eG,b0⟩,O1⟩
  refine ak.skip<|j2<|.sq fun j4=>.region<|.J Z<|.p (ae ew ek U Z)<|.p (ah eJ Z Z fM Z) ?_;have bL:=cz (bs:=[some a5]) eT (xe dL qX);have eC:=cz (bs:=[some a5]) eG (xe hMb qX);refine Ops.m (fun hk=>aq Z (u6 ((rs.getD i .zero).left) rs l a5 (((g))) u rv dz y0 y5 y6 y7 y8 y9 (A200.hide [some a5]) A200 (c6 A200 [some a5]) (cI gA) fE (cQ (by simp)) hs (hL.le bL) (hr.le bL) (hp.le bL) (hMx.le eC)) ?_);rintro mv A217 ⟨l9,gD,gE,gF,gG,gL,gM,rfl,az,av,b6,ac,bU⟩;have ev:=bX (bs:=[some a5]) fD (qY bc mN);have fN:=az.g ev;have ex:=bX (bs:=[some a5]) fI (qY cv mN);have fO:=az.g ex;have ey:=bX (bs:=[some a5]) fL (qY cA mN);have fQ:=az.g ey;have ez:=bX (bs:=[some a5]) fM (qY b2.symm mN);have fR:=az.g ez;have f4:=ac.sep cV.own (jG a6 jk);have e1:=cV.off (jG a6 jk) az;have e2:=cX.off (jG ab jk) az;have e3:=ac.base bL;have dW:=cS.off (fun r hr=>(jG (ag r hr) jk)) az;have hS:=cS.sepNew ac (fun r hr=>(jG (ag r hr) jk));have eL:=eC.trans az;have eV:=bL.trans az;refine hk<|.J Z<|.p (aQ Z Z)<|.p (aQ Z Z)<|.m (fun hl=>bZ av s8 rfl fun A244 it D=>?_);have c7:=ne_new av b6 D.lo;have f0:=e3.own.ne_new av D.lo;have f2:=dW.ne_new av D.lo;have f7:=aX hMw (Xj eL.n D.lo);have e4:=e3.le D.le;have gS:=dW.le D.le;refine hl ?_;obtain ⟨a9,a8,a7,kT,_⟩:=e4.own.slice;subst kT;refine Ops.m (fun ho=>aW (cs:=[ax ((da (cG rs ((rs.getD i .zero).left))).word),num (((da (cG rs ((rs.getD i .zero).left))).steps:Nat):Int),.slice a9 a8 a7]) (c':=[ax ((da (cG rs ((rs.getD i .zero).left))).word),num (((da (cG rs ((rs.getD i .zero).left))).steps:Nat):Int),.slice a9 a8 a7]) D.wf rfl rfl rfl rfl eW D.get G rfl rfl fun A263 a2=>?_);have fS:=a2.k (ne_new av fN D.lo) (D.le.g fN);have fT:=a2.k c7 (D.le.g b6);have fV:=a2.k (ne_new av fQ D.lo) (D.le.g fQ);have h5:=(e1.le D.le).keep a2.keep (e1.own.ne_new av D.lo);have h6:=(e2.le D.le).keep a2.keep (e2.own.ne_new av D.lo);have e5:=e4.keep a2.keep f0;have cU:=gS.keep a2.keep f2;have eN:=al (eL.trans D.le) hMw f7 a2.n a2.keep;have eX:=al (eV.trans D.le) wf (aX wf (Xj eV.n D.lo)) a2.n a2.keep;refine ho<|.I Z<|.nil<|j4<|.sq fun jn=>.sq fun jN=>.region<|.J Z<|.p (eD Z)<|.nil ?_;refine jN<|.ifB Z (fun kM=>?_) (fun kM=>?_)
  ·refine ak.sq fun jX=>.region<|.p (cx Z (bg u27 Je Pz Z))<|.m (fun hq=>aW (cs:=[num ((0:Nat):Int),.slice none 0 0,.slice none 0 0]) (c':=[num ((0:Nat):Int),.slice none 0 0,.slice none 0 0]) a2.wf rfl rfl rfl rfl dE fV G rfl rfl fun A284 bR=>?_);have lS:=cU.keep bR.keep aD;have hB:=al eX wf cb bR.n bR.keep;refine hq<|.I Z<|.nil<|jX<|.rt (by exact aH (df ei dE Z bR.get Z (dA Z d5)) (⟨_,_,0,[],[],by (rw [wt ‹_› ‹_› (n5 O hsc ‹_› ‹_›).symm];rfl),hB,bR.wf,Fresh.nil _ _ _,Fresh.nil _ _ _,(fun _ h=>by cases h),.none (by (rw [wt ‹_› ‹_› (n5 O hsc ‹_› ‹_›).symm];decide))⟩))
  refine ak.skip<|jn<|.region<|.p (ae cW fp U Z)<|.p (ah ga Z Z fS Z)<|.p (ae ew ek U Z)<|.p (ah eJ Z Z (a2.k (ne_new av fR D.lo) (D.le.g fR)) Z)<|.p (ae jT ek U Z)<|.p (ah eJ Z Z a2.get Z)<|.p (ae tx mn U Z) ?_;refine Ops.p (ah pK Z Z a2.get Z)<|.p (cx Z (bg u83 wJ GR Z))<|.m (fun ht=>bf (c:=[ax ((rs.getD i .zero).left),ax ((da (cG rs ((rs.getD i .zero).left))).word),.slice a9 a8 a7]) a2.wf rfl (aw i4 eE wJ rfl U U rfl) fun A298 iv a0=>?_);have f9:=ne_new a2.wf fT a0.lo;have hO:=cU.ne_new a2.wf a0.lo;have l4:=aX hMw (Xj eN.n a0.lo);have fX:=a0.le.g fS;have g0:=a0.le.g fT;have g1:=a0.le.g (a2.k (ne_new av fO D.lo) (D.le.g fO));have g4:=a0.le.g fV;have e6:=h5.le a0.le;have e7:=h6.le a0.le;have e9:=e5.le a0.le;have dZ:=cU.le a0.le;have eQ:=eN.trans a0.le;refine ht<|.m (fun hv=>ct (ys:=[ax ((rs.getD i .zero).left),ax ((da (cG rs ((rs.getD i .zero).left))).word),.slice a9 a8 a7]) rfl rfl i4 eE LU wJ rfl U i4 (fun _ h=>by cases h) e6.own (bN (n:=1) a0.get Z) rfl rfl (by show (_ + _) * 56<=_;simp only [bw,Xq,Xz];(try simp only [Xx,Xq,Xz]);omega) (by simp only [bw,Xq,Xz];(try simp only [Xx,Xq,Xz]);omega) fun A317 mx a3=>?_);rw [show ([ax ((rs.getD i .zero).left),ax ((da (cG rs ((rs.getD i .zero).left))).word),.slice a9 a8 a7]:List Value)=cd [(⟨(rs.getD i .zero).left,(da (cG rs ((rs.getD i .zero).left))).word,.slice a9 a8 a7,(da (cG rs ((rs.getD i .zero).left))).disk⟩:an)] from rfl,mF] at a3;obtain ⟨ea,hC⟩:=Fresh.grow e6 (eX.trans a0.le) wf a3;have eY:=a3.ne ay a0.wf fX;have hG:=a3.ne a6 a0.wf g0;have hH:=a3.ne aS a0.wf g1;have hI:=a3.ne aA a0.wf g4;have hT:=bx.appd (show bx ad uw from aZ) e7.own a0.wf a3;have gX:=dZ.appd a3 (show be ad (vf a4) from ap);have hz:=C8 eQ hMw a3 b0;have hK:=C9 eQ hMw a3 b0;have gY:Cj A A317 (a4 ++ [(⟨(rs.getD i .zero).left,(da (cG rs ((rs.getD i .zero).left))).word,.slice a9 a8 a7,(da (cG rs ((rs.getD i .zero).left))).disk⟩:an)]):=Om gX (e9.appd a3 (bx.symm f4)) hS;have f3:dn (vf (a4 ++ [(⟨(rs.getD i .zero).left,(da (cG rs ((rs.getD i .zero).left))).word,.slice a9 a8 a7,(da (cG rs ((rs.getD i .zero).left))).disk⟩:an)])) aG:=kW b5 (ac.seph ev);have hP:dn (vf (a4 ++ [(⟨(rs.getD i .zero).left,(da (cG rs ((rs.getD i .zero).left))).word,.slice a9 a8 a7,(da (cG rs ((rs.getD i .zero).left))).disk⟩:an)])) a5:=kW ag bU;have hQ:dn (vf (a4 ++ [(⟨(rs.getD i .zero).left,(da (cG rs ((rs.getD i .zero).left))).word,.slice a9 a8 a7,(da (cG rs ((rs.getD i .zero).left))).disk⟩:an)])) b4:=kW bm (ac.seph ex);have hR:dn (vf (a4 ++ [(⟨(rs.getD i .zero).left,(da (cG rs ((rs.getD i .zero).left))).word,.slice a9 a8 a7,(da (cG rs ((rs.getD i .zero).left))).disk⟩:an)])) b9:=kW aD (ac.seph ey);have lT:dn (vf (a4 ++ [(⟨(rs.getD i .zero).left,(da (cG rs ((rs.getD i .zero).left))).word,.slice a9 a8 a7,(da (cG rs ((rs.getD i .zero).left))).disk⟩:an)])) ir:=kW f1 (ac.seph ez);have lV:dn (vf (a4 ++ [(⟨(rs.getD i .zero).left,(da (cG rs ((rs.getD i .zero).left))).word,.slice a9 a8 a7,(da (cG rs ((rs.getD i .zero).left))).disk⟩:an)])) it:=kW f2 f0;have lW:dn (vf (a4 ++ [(⟨(rs.getD i .zero).left,(da (cG rs ((rs.getD i .zero).left))).word,.slice a9 a8 a7,(da (cG rs ((rs.getD i .zero).left))).disk⟩:an)])) iv:=kW hO (e5.own.ne_new a2.wf a0.lo);have hU:be uw (vf (a4 ++ [(⟨(rs.getD i .zero).left,(da (cG rs ((rs.getD i .zero).left))).word,.slice a9 a8 a7,(da (cG rs ((rs.getD i .zero).left))).disk⟩:an)])):=BJ bp (bx.symm (ac.sep cX.own (jG ab jk)));have hV:be _ (vf (a4 ++ [(⟨(rs.getD i .zero).left,(da (cG rs ((rs.getD i .zero).left))).word,.slice a9 a8 a7,(da (cG rs ((rs.getD i .zero).left))).disk⟩:an)])):=BJ (be.appd (show be ad (vf a4) from ap) dZ a0.wf a3) (bx.appd (show bx ad (.slice a9 a8 a7) from (bx.symm f4)) e9.own a0.wf a3);refine hv<|.p (ae cW fp U Z) ?_;obtain ⟨dV,dO,dJ,kV,_⟩:=ea.own.slice;subst kV;refine Ops.m (fun hw=>aW (cs:=[.slice dV dO dJ]) (c':=[num (g),uw,.slice dV dO dJ]) a3.wf rfl rfl rfl rfl fp (a3.keep ay fX) G rfl rfl fun A356 aC=>?_);have k0:=aC.k bc.symm (a3.keep a6 g0);have k1:=aC.k dD (a3.keep aS g1);have k2:=aC.k dG (a3.keep aA g4);have h7:=(e7.appd a3 aZ).keep aC.keep aF;have h8:=ea.keep aC.keep eY;have gZ:=gY.keep aC.keep f3;have hA:=al hz hMw kD aC.n aC.keep;have hD:=al hC wf fn aC.n aC.keep;refine hw<|.nil<|ft<|.region<|.p (bF (b:=1) Z Z O)<|.J Z<|.nil ?_;exact ⟨⟨i + 1,a4 ++ [(⟨(rs.getD i .zero).left,(da (cG rs ((rs.getD i .zero).left))).word,.slice a9 a8 a7,(da (cG rs ((rs.getD i .zero).left))).disk⟩:an)],gD,gE,gF,gG,gL,gM,.slice dV dO dJ⟩,Jc Z Z Z Z Z Z Z,Z,⟨⟨by omega,by (try simp only [Xx,Xq,Xz]);omega,by exact mn_add O hsc ‹_› ‹_›⟩,hD,h8,h7,aC.get,k0,k1,k2,eY,aF,hG,ab,hH,bd,hI,aT,hT,gZ,f3,hP,hQ,hR,hV,hU,hA,hK⟩,O1⟩
 refine ak.exit<|iS<|.sq fun k3=>?_;have hscan:=Dx O hsc;have hokm:=mn_ok hs hscan aR;refine ak.region<|.p (ae cW fp U Z)<|.p (ah ga Z Z aY Z) ?_;have d1:=cz (bs:=[blk ad]) cc (uD aV.lo qX);refine Ops.m (fun hx=>aq Z (aar a4 ad (B154.hide [blk ad]) B154 (c6 B154 [blk ad]) (cI aI) (aV.hide (by simp)) (hL.le d1) hokm O) ?_);rintro mA A372 ⟨L2q373,dw,g7,rfl,ba,gC,bu⟩;have hb:=bX (bs:=[blk ad]) aY (pk ay mN);have eA:=bX (bs:=[blk ad]) bA (pk aA mN);have ec:=b3.off (jH aZ jk) ba;have eg:=bu.base d1;have h0:=aR.off (fun r hr=>(jH (ap r hr) jk)) ba;have lZ:=aR.sepNew bu (fun r hr=>(jH (ap r hr) jk));refine hx<|.nil<|k3<|.sq fun k4=>.region<|.p (am ei dE Z Z (ba.g hb) Z) ?_;obtain ⟨gm,g8,fi,l0,_⟩:=ec.own.slice;subst l0;obtain ⟨gp,g9,fl,l1,_⟩:=eg.own.slice;subst l1;refine Ops.m (fun hy=>aW (cs:=[num (g),.slice gm g8 fi,.slice gp g9 fl]) (c':=[num (g),.slice gm g8 fi,.slice gp g9 fl]) gC rfl rfl rfl rfl dE (ba.g eA) G rfl rfl fun A398 b1=>?_);have h9:=ec.keep b1.keep aT;have ha:=eg.keep b1.keep (bu.seph eA);have h1:=h0.keep b1.keep aD;have hF:=al (d1.trans ba) wf cb b1.n b1.keep;refine hy<|.I Z<|.nil<|k4<|.rt (by exact aH (df ei dE Z b1.get Z (dA Z d5)) (⟨_,_,g,l,L2q373,by rw [Mp ‹_› ‹_› hscan];rfl,hF,b1.wf,h9,ha,(fun r hr=>wi h1 r (dw.mem_iff.1 hr)),⟨fun q=>absurd (Mp ‹_› ‹_› hscan) q,fun _=>⟨Z,Z,g7,_,hscan,dw.map _⟩⟩⟩))
theorem YK:∀ c:UInt8,c < 128->(Utf8.encode (c.toNat:Int)).data = #[c]:=iz (by decide +kernel)
section
variable {P:Program} {nt:Nat} {all:Array Oper} {os:List Oper} {Q:Exit->Fr->AH->Prop} {e:im} {ds:List Deferred} {A:AH} {x:Operand} {s t:TypeId} {ty:TypeId} {ps:String} {af:Array Edge} {dst:Option Nat} {k:IntKind} {c:UInt8}
theorem V.Ops.runeStr (hd:gB nt dst=true) (hs:P.underlying s=some (.int k)) (ht:P.underlying t=some .string) (hx:cg e x=some (ed c)) (hc:c < 128)
    (h:Ops P nt all os Q ⟨gj e dst (ax [c]),ds⟩ A):Ops P nt all ({ dst:=dst,op:=.convert s t x,type:=ty,pos:=ps,after:=af,guard:=none } :: os) Q ⟨e,ds⟩ A:=by
  refine Ops.val Z hd (fun a ha w hw=>?_) h
  have h1:=c9 ha hx
  have h2:Utf8.encode (c.toNat:Int)=⟨#[c]⟩:=by
    have:=YK c hc
    cases q:Utf8.encode (c.toNat:Int) with | mk d=>rw [q] at this;simp only at this;rw [this]
  simp only [execOp,h1,Go.convert,Sem.run_bind,cn hs,cn ht,Result.andThen_ok,ed,Conv.intToString,Sem.run_pure,h2]
  rfl
end
def ud (g:Int) (rs:List an) (i:Nat):Sd:=⟨nm rs.length i,((aO g rs).getD i ([],[])).1,((aO g rs).getD i ([],[])).2⟩
def vP (g:Int) (rs:List an):List Sd:=(List.range (aO g rs).length).map (ud g rs)
section
variable {g:Int} {rs:List an} {i x:Nat}
theorem ZR:(vP g rs).length=rs.length + 2 * g.toNat:=by simp [vP,jq]
theorem J8 (h:i < (aO g rs).length):(vP g rs).getD i .zero=ud g rs i:=by simp [vP,h]
theorem VT (h:i < rs.length):ud g rs i=⟨(i:Int),(rs.getD i .zero).left,(rs.getD i .zero).right⟩:=by
  have:(aO g rs).getD i ([],[])=((rs.getD i .zero).left,(rs.getD i .zero).right):=by
    unfold aO
    rw [Vq,Tv (by simpa using h)]
    simp [h]
  rw [ud,this,nm,XX h]
theorem VR (h:x < 2 * g.toNat):ud g rs (rs.length + x)=⟨-1 - (x:Int),Ru x,[]⟩:=by
  have:=(CR.sides_at (g:=g) (rs:=rs) (rs.length + x) (by rw [jq];omega) O).1
  rw [ud,this,nm,Xy O,Nat.add_sub_cancel_left]
  congr 1;omega
theorem PN (h:i < rs.length):(List.range i).map (ud g rs) ++ [(⟨((i:Nat):Int),(rs.getD i .zero).left,(rs.getD i .zero).right⟩:Sd)]=(List.range (i + 1)).map (ud g rs):=by
  rw [SJ,VJ,<- VT h];rfl
theorem PO (h:x < 2 * g.toNat):(List.range (rs.length + x)).map (ud g rs) ++ [(⟨-1 - ((x:Nat):Int),[bW.getD x 0] ++ [bW.getD (x ^^^ 1) 0],[]⟩:Sd)]=(List.range (rs.length + (x + 1))).map (ud g rs):=by
  rw [<- Nat.add_assoc,SJ,VJ]
  have:=VR (g:=g) (rs:=rs) h
  show _ ++ _=_ ++ [ud g rs (rs.length + x)]
  rw [this];rfl
end
def ni (x y:Sd):List CP:=if x.n < 0/\y.n < 0 then [] else jR x.n y.n (decide (x.n=y.n)) (x.left,x.right) (y.left,y.right)
section
variable {x y:Sd} {m k:Nat} {I J:Int} {a b:Wd × Wd}
theorem rb_neg (h:x.n < 0) (h2:y.n < 0):ni x y=[]:=by rw [ni,XX ⟨h,h2⟩]
theorem MJ (h:¬ (x.n < 0/\y.n < 0)) (e:x.n=y.n):ni x y=oc x.n y.n (x.left,x.right) (y.left,y.right) x.left.length:=by
  rw [ni,Xy h,jR,XJ e];simp
theorem GZ (h:¬ (x.n < 0/\y.n < 0)) (e:¬ x.n=y.n):ni x y=oc x.n y.n (x.left,x.right) (y.left,y.right) x.left.length ++ si x.n y.n (x.left,x.right) (y.left,y.right) (x.left.length + 1):=by
  rw [ni,Xy h,jR,Xv e];simp
theorem MD:oc I J a b 1=[]:=Vv.1 AL
theorem Zx (h1:1<=k) (h2:a.1.length - k < b.1.length) (h3:a.1.drop k=b.1.take (a.1.length - k)):oc I J a b (k + 1)=oc I J a b k ++ [c1 I J a b k]:=by
  rw [rz,XX (by simp only [p1,XQ,Xw];exact ⟨⟨h1,h2⟩,h3⟩)]
theorem Zw (h:¬ (a.1.length - k < b.1.length/\a.1.drop k=b.1.take (a.1.length - k))):oc I J a b (k + 1)=oc I J a b k:=by
  rw [rz,Xy (by simp only [p1,XQ,Xw];exact fun q=>h ⟨q.1.2,q.2⟩)]
theorem Vh (h1:1<=k) (h2:x.left.length - k < y.left.length) (h3:x.left.drop k=y.left.take (x.left.length - k)):oc x.n y.n (x.left,x.right) (y.left,y.right) k ++ [(⟨x.n,y.n,x.left ++ y.left.drop (x.left.length - k),x.right ++ y.left.drop (x.left.length - k),x.left.take k ++ y.right⟩:CP)]=oc x.n y.n (x.left,x.right) (y.left,y.right) (k + 1):=(Zx h1 h2 h3).symm
theorem Vg (h:¬ (x.left.length - k < y.left.length/\x.left.drop k=y.left.take (x.left.length - k))):oc x.n y.n (x.left,x.right) (y.left,y.right) k=oc x.n y.n (x.left,x.right) (y.left,y.right) (k + 1):=(Zw h).symm
theorem DN (h1:1<=k) (h2:k<=a.1.length\/k=1) (h3:¬ k < a.1.length):oc I J a b k=oc I J a b a.1.length:=by
  rcases h2 with q | q
  · rw [show k=a.1.length by omega]
  · subst q
    rcases TV a.1.length with z | z
    · rw [z,MD];rfl
    · rw [show a.1.length=1 by omega]
theorem FU (hk:m<=k) (h:∀ j,m<=j->j < k->¬ vE a.1 b.1 j):si I J a b k=si I J a b m:=by
  induction k with
  | zero => obtain rfl : m = 0 := by omega
            rfl
  | succ k ih =>
    rcases Nat.eq_or_lt_of_le hk with q | q
    · rw [q]
    · rw [pc,Xy,ih O fun j h1 h2=>h j h1 O]
      simp only [p2,XQ,Xw]
      exact fun z=>h k O O ⟨z.1,z.2⟩
theorem YV (h:vE a.1 b.1 k):si I J a b (k + 1)=si I J a b k ++ [c2 I J a b k]:=by
  rw [pc,XX (by simp only [p2,XQ,Xw];exact h)]
end
theorem YM {a w:Wd} {m K:Nat} (h:(K:Int)=vq a w m):m<=K/\vE a w K/\∀ j,m<=j->j < K->¬ vE a w j:=by
  unfold vq at h
  split at h
  · rename_i i hi
    obtain ⟨h1,_,h3⟩:=List.find?_range_eq_some.1 hi
    obtain rfl:K=i:=by omega
    simp only [Xw] at h1
    exact ⟨h1.1,h1.2,fun j h4 h5 h6=>by simpa [h4,h6] using h3 j h5⟩
  · omega
theorem xi {x:Nat} (h:x < 16):bW.getD x 0 < 128:=(show ∀ a:Fin 16,bW.getD a.1 0 < 128 by decide) ⟨x,h⟩
theorem xor1n {x:Nat} (h:x < 16):qO .xor .i64 ((x:Nat):Int) ((1:Nat):Int)=some (num (((x ^^^ 1:Nat)):Int)):=by
  have key:∀ k:Fin 16,IntKind.i64.wrap ((BitVec.ofInt 64 (k.1:Int) ^^^ BitVec.ofInt 64 1).toNat:Int)=(k.1 ^^^ 1:Nat):=by decide +kernel
  have h3:=key ⟨x,h⟩
  simp only at h3
  rw [<- h3];rfl
theorem LI {a w:Wd} {m:Nat} (h:¬ 0<=vq a w m):∀ j,m<=j->¬ vE a w j:=fun j hj ho=>by
  unfold vq at h
  split at h
  · omega
  · rename_i q
    have:=RW.1 q j (VV.2 (by have:=ho.1;omega))
    simp [hj,ho] at this
theorem inc_y {x y:Sd} {m K:Nat} (h:m<=K/\vE x.left y.left K/\∀ j,m<=j->j < K->¬ vE x.left y.left j):si x.n y.n (x.left,x.right) (y.left,y.right) m ++ [(⟨x.n,y.n,x.left,x.right,x.left.take K ++ y.right ++ x.left.drop (K + y.left.length)⟩:CP)]=si x.n y.n (x.left,x.right) (y.left,y.right) (K + 1):=by
  rw [YV (a:=(x.left,x.right)) (b:=(y.left,y.right)) h.2.1,FU (a:=(x.left,x.right)) (b:=(y.left,y.right)) h.1 h.2.2]
theorem inc_z {x y:Sd} {m:Nat} (hm:m<=x.left.length + 1) (h:∀ j,m<=j->¬ vE x.left y.left j):si x.n y.n (x.left,x.right) (y.left,y.right) m=si x.n y.n (x.left,x.right) (y.left,y.right) (x.left.length + 1) :=
  (FU (a:=(x.left,x.right)) (b:=(y.left,y.right)) hm fun j h1 _=>h j h1).symm
theorem Se (I J i j:Int) (s:Bool) (a b:Wd × Wd):(jR i j s a b).map (ren I J)=jR I J s a b:=by
  unfold jR oc si
  rw [VJ,RQ]
  congr 1
  split
  · rfl
  · rw [RQ];rfl
theorem nm_neg {n i:Nat}:nm n i < 0 ↔ n<=i:=by
  unfold nm;split <;> omega
theorem nm_inj {n i j:Nat}:nm n i=nm n j ↔ i=j:=by
  unfold nm;split <;> split <;> omega
theorem ZP {g:Int} {rs:List an} {i j:Nat} (hi:i < (aO g rs).length) (hj:j < (aO g rs).length):ni ((vP g rs).getD i .zero) ((vP g rs).getD j .zero)=qz rs.length (aO g rs) i j:=by
  rw [J8 hi,J8 hj,ni,qz]
  simp only [ud,nm_neg]
  split
  · rfl
  · rw [Se]
    congr 1
    exact decide_eq_decide.2 nm_inj
theorem PL_le {n:Nat} {L:List (Wd × Wd)} {i j:Nat} (hi:i < L.length) (hj:j<=L.length):(uj n L i j).length<=(jA n L).length:=(zK hi hj).length_le
theorem Ig {g:Int} {l:List Wd} {rs:List an} (hs:bI g l rs=true) (i:Nat) (hi:i < (aO g rs).length):((vP g rs).getD i .zero).left.length<=100000/\((vP g rs).getD i .zero).right.length<=100000:=by
  rw [J8 hi]
  exact (sH (ja hs) (rP hs) _ (bj (d:=([],[])) hi)).2
theorem J5 {g:Int} {rs:List an} {i k:Nat} (hi:i < (aO g rs).length) (hk:k < (aO g rs).length):uj rs.length (aO g rs) i k ++ ni ((vP g rs).getD i .zero) ((vP g rs).getD k .zero)=uj rs.length (aO g rs) i (k + 1):=by
  rw [ZP hi hk,un]
theorem VI {g:Int} {l:List Wd} {rs:List an} (hs:bI g l rs=true) {i k:Nat} (hi:i < (aO g rs).length) (hk:k < (aO g rs).length):(ni ((vP g rs).getD i .zero) ((vP g rs).getD k .zero)).length<=200001:=by
  have:=Ig hs i hi
  unfold ni
  split
  · simp
  · refine Xj Lm ?_
    simp only;omega
end Go.Proofs.YtjppkekmddjcfaaGreatDoor
