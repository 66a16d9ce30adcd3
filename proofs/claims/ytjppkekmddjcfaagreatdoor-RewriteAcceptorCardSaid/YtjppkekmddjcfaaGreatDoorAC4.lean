import Derived.Test.YtjppkekmddjcfaaGreatDoorAC3
import Derived.Test.YtjppkekmddjcfaaGreatDoorAC2
import Derived.Recover
set_option linter.unusedSectionVars false
set_option linter.unusedVariables false
set_option linter.unusedSimpArgs false
open Go.Proofs.Tryz
namespace Go.Proofs.YtjppkekmddjcfaaGreatDoor
open Go Go.RowKit V
set_option maxRecDepth 100000
theorem u85:type_of% @underlying85:=@underlying85
theorem eqc (a b:ca):CN prog 85 (.agg #[aM a.conj,num a.rel,.bool a.inv]) (.agg #[aM b.conj,num b.rel,.bool b.inv])=some (decide (a=b)) :=
  YO u85 Y ⟨rfl,rfl,by decide⟩ ⟨rfl,rfl,by decide⟩ ⟨rfl,rfl,by decide⟩ gK dK um u9 u3 u4 a b
theorem SA (v1 v2:Value) (l1 l2:List ca) (A:AH) (hn:l1.length<=9223372036854775807) (a0:bz A 3 v1 (cN l1)) (a1:bz A 3 v2 (cN l2)):bH prog 55 #[v1,v2] A (fun v A1=>v=.bool (decide (l1=l2))/\A=A1):=by
 refine aN (e:=[(0,v1),(1,v2)]) (args:=[v1,v2]) call55 func55 Z results55 ntmps55 Z Z Z (fun wf=>?_);have V:=AH.le.refl A;refine ak.sq fun h2=>.region<|.I Z<|.nil<|h2<|.sq fun h4=>.sq fun h6=>.region<|.J Z<|.p (bx (n:=l1.length) vA Z (a0.le V) O (eJ _)) ?_;refine Ops.J Z<|.p (bx (n:=l2.length) vA Z (a1.le V) O (eJ _))<|.p (fy Z Z)<|.nil<|h6<|.if rfl (fun p7=>?_) (fun p7=>?_)
 ·refine ak.sq fun h9=>.region<|.I Z<|.nil<|h9<|.rt (by exact aH Z (⟨by (rw [Xv (fun q=>by have:=Xk List.length q;omega)];rfl),Z⟩))
 refine ak.skip<|h4<|.sq fun a8=>.sq fun a9=>.region<|.J Z<|.p (bx (n:=l1.length) vA Z (a0.le V) O (eJ _))<|.J Z<|.nil<|a9 ?_;refine ak.block<|.loop (X:=Nat) (fun k=>[(0,v1),(1,v2),(12,num ((l1.length:Nat):Int)),(13,num ((k:Nat):Int))]) (fun k B=>(k<=l1.length/\l1.length=l2.length/\∀ j,j < k->l1.getD j .zero=l2.getD j .zero)/\A=B) (fun k=>l1.length - k) 0 (mc Z Z Z Z) (⟨⟨XZ _,by omega,fun j h=>by omega⟩,Z⟩) ?_;rintro k B15 ⟨⟨hk,hl,hq⟩,rfl⟩;refine ak.sq fun aa=>.region<|.p (bK Z Z)<|.nil<|aa<|.sq fun ab=>.if rfl (fun ay=>?_) (fun ay=>?_)
 ·refine ak.skip<|ab<|.sq fun ac=>.block<|.sq fun ad=>.region<|.J Z<|.I Z<|.nil<|ad ?_;refine ak.sq fun ag=>.drawn [0,1,2,3,4,5,6,7,8] mixed Y Y Z<|.p Z (aK Z)<|.p Z (aK Z) ?_;obtain ⟨aI,aR,aF,b0,aC,aY,aT,a4,ar,a6,a2,aA⟩:=bz.at (i:=k) (a0.le V) OJ O;refine DOps.p Z (al vA mu Z a4 Z ar)<|.p Z (ao CY mu Z Z a6 (a2.trans (Xk some (jH O))))<|.p Z (aK Z)<|.p Z (aK Z) ?_;obtain ⟨aP,aS,aG,b1,aD,aZ,aV,a5,av,a7,a3,aB⟩:=bz.at (i:=k) (a1.le V) OJ O;refine DOps.p Z (al vA mu Z a5 Z av)<|.p Z (ao CY mu Z Z a7 (a3.trans (Xk some (jH O))))<|.p Z ((qnev Z Z (fun _ _ q=>by cases q) (fun _ q=>by cases q) (eqc ((l1.getD k .zero)) ((l2.getD k .zero)))).trans (Xk (fun z=>some (Value.bool z,[])) (decide_not (p:=(l1.getD k .zero)=(l2.getD k .zero))).symm))<|.done<|ag<|.if rfl (fun az=>?_) (fun az=>?_)
  ·refine ak.sq fun ai=>.region<|.I Z<|.nil<|ai<|.rt (by exact aH Z (⟨by (rw [Xv (JG (i:=k) ‹_›)];rfl),Z⟩))
  refine ak.skip<|ac<|.region<|.p (bk (b:=1) Z Z O)<|.J Z<|.nil ?_;exact ⟨k + 1,mc Z Z Z Z,Z,⟨⟨by omega,hl,fun j h=>(XV.1 h).elim (hq j) (fun z=>by subst z;exact Decidable.not_not.1 ‹_›)⟩,Z⟩,O1⟩
 refine ak.exit<|a8<|.sq fun ap=>.region<|.I Z<|.nil<|ap<|.rt (by exact aH Z (⟨by (rw [Vv (ro hl O hq)];rfl),Z⟩))
theorem SE (v1 v2:Value) (l1 l2:List W8) (A:AH) (hn:l1.length<=9223372036854775807) (a0:bz A 1 v1 (dB l1)) (a1:bz A 1 v2 (dB l2)):bH prog 56 #[v1,v2] A (fun v A1=>v=.bool (decide (l1=l2))/\A=A1):=by
 refine aN (e:=[(0,v1),(1,v2)]) (args:=[v1,v2]) call56 func56 Z results56 ntmps56 Z Z Z (fun wf=>?_);have V:=AH.le.refl A;refine ak.sq fun h2=>.region<|.I Z<|.nil<|h2<|.sq fun h4=>.sq fun h6=>.region<|.J Z<|.p (bx (n:=l1.length) ko Z (a0.le V) O (dY _)) ?_;refine Ops.J Z<|.p (bx (n:=l2.length) ko Z (a1.le V) O (dY _))<|.p (fy Z Z)<|.nil<|h6<|.if rfl (fun p7=>?_) (fun p7=>?_)
 ·refine ak.sq fun h9=>.region<|.I Z<|.nil<|h9<|.rt (by exact aH Z (⟨by (rw [Xv (fun q=>by have:=Xk List.length q;omega)];rfl),Z⟩))
 refine ak.skip<|h4<|.sq fun a8=>.sq fun a9=>.region<|.J Z<|.p (bx (n:=l1.length) ko Z (a0.le V) O (dY _))<|.J Z<|.nil<|a9 ?_;refine ak.block<|.loop (X:=Nat) (fun k=>[(0,v1),(1,v2),(12,num ((l1.length:Nat):Int)),(13,num ((k:Nat):Int))]) (fun k B=>(k<=l1.length/\l1.length=l2.length/\∀ j,j < k->l1.getD j []=l2.getD j [])/\A=B) (fun k=>l1.length - k) 0 (mc Z Z Z Z) (⟨⟨XZ _,by omega,fun j h=>by omega⟩,Z⟩) ?_;rintro k B15 ⟨⟨hk,hl,hq⟩,rfl⟩;refine ak.sq fun aa=>.region<|.p (bK Z Z)<|.nil<|aa<|.sq fun ab=>.if rfl (fun ay=>?_) (fun ay=>?_)
 ·refine ak.skip<|ab<|.sq fun ac=>.block<|.sq fun ad=>.region<|.J Z<|.I Z<|.nil<|ad ?_;refine ak.sq fun ag=>.drawn [0,1,2,3,4,5,6,7,8] mixed Y Y Z<|.p Z (aK Z)<|.p Z (aK Z) ?_;obtain ⟨aI,aR,aF,b0,aC,aY,aT,a4,ar,a6,aA,a2⟩:=bz.at (i:=k) (a0.le V) Ok O;refine DOps.p Z (al ko fK Z a4 Z ar)<|.p Z (ah gK Z Z a6 ((cb a2).trans (dm O)))<|.p Z (aK Z)<|.p Z (aK Z) ?_;obtain ⟨aP,aS,aG,b1,aD,aZ,aV,a5,av,a7,aB,a3⟩:=bz.at (i:=k) (a1.le V) Ok O;refine DOps.p Z (al ko fK Z a5 Z av)<|.p Z (ah gK Z Z a7 ((cb a3).trans (dm O)))<|.p Z (qO Z Z)<|.done<|ag<|.if rfl (fun az=>?_) (fun az=>?_)
  ·refine ak.sq fun ai=>.region<|.I Z<|.nil<|ai<|.rt (by exact aH Z (⟨by (rw [Xv (JG (i:=k) ‹_›)];rfl),Z⟩))
  refine ak.skip<|ac<|.region<|.p (bk (b:=1) Z Z O)<|.J Z<|.nil ?_;exact ⟨k + 1,mc Z Z Z Z,Z,⟨⟨by omega,hl,fun j h=>(XV.1 h).elim (hq j) (fun z=>by subst z;exact Decidable.not_not.1 ‹_›)⟩,Z⟩,O1⟩
 refine ak.exit<|a8<|.sq fun ap=>.region<|.I Z<|.nil<|ap<|.rt (by exact aH Z (⟨by (rw [Vv (ro hl O hq)];rfl),Z⟩))
theorem Xc (r s:aQ) (A:AH) (hn:r.proof.length<=9223372036854775807) (a5:bz A 3 r.pv (cN r.proof)) (a6:bz A 3 s.pv (cN s.proof)):bH prog 54 #[.agg #[aM (r.left),aM (r.right),r.pv],.agg #[aM (s.left),aM (s.right),s.pv]] A (fun v A1=>v=.bool (decide (mO true r=mO true s))/\A.le A1/\A1.wf):=by
 refine aN (e:=[(0,.agg #[aM (r.left),aM (r.right),r.pv]),(1,.agg #[aM (s.left),aM (s.right),s.pv])]) (args:=[.agg #[aM (r.left),aM (r.right),r.pv],.agg #[aM (s.left),aM (s.right),s.pv]]) call54 func54 Z results54 ntmps54 Z Z Z (fun wf=>?_);have a7:=AH.le.refl A;refine ak.sq fun h2=>.region<|.m (fun a3=>dQ wf rfl rfl fun A5 b4 a1=>?_);refine a3<|.m (fun a4=>dQ a1.wf rfl rfl fun A10 b9 h=>?_);have X:=h.le.g a1.get;have V:=(a7.trans a1.le).trans h.le;refine a4<|.I Z<|.nil<|h2<|.sq fun a0=>.region<|.p (ae gk fK U Z)<|.p (ah gK Z Z X Z)<|.p (ae gk fK U Z)<|.p (ah gK Z Z h.get Z) ?_;refine Ops.p (nw Z Z)<|.J Z<|.part (t:=10) Z (fun a8=>?_) (fun a8=>?_)
 ·refine Ops.on Z Z<|.p (ae kx fK U Z)<|.on Z Z<|.p (ah gK Z Z X Z)<|.on Z Z<|.p (ae kx fK U Z)<|.on Z Z<|.p (ah gK Z Z h.get Z)<|.on Z Z<|.p (nw Z Z) ?_;refine Ops.p (aJ Z Z)<|.J Z<|.part (t:=17) Z (fun a9=>?_) (fun a9=>?_)
  ·refine Ops.on Z Z<|.p (ae pm rc U Z)<|.on Z Z<|.p (ah uv Z Z X Z)<|.on Z Z<|.p (ae pm rc U Z)<|.on Z Z<|.p (ah uv Z Z h.get Z)<|.on Z Z<|.m (fun a2=>ax Z (SA r.pv s.pv r.proof s.proof A10 hn (a5.le V) (a6.le V)) ?_);rintro aa A20 ⟨rfl,rfl⟩;refine a2<|.p (aJ Z Z)<|.I Z<|.nil<|a0<|.rt (by exact aH Z (⟨by simp_all [fZ,mO],V,h.wf⟩))
  refine Ops.off Z Z Z Z<|.off Z Z Z Z<|.off Z Z Z Z<|.off Z Z Z Z<|.off Z Z Z Z<|.p (aO Z Z)<|.I Z<|.nil<|a0<|.rt (by exact aH Z (⟨by simp_all [fZ,mO],V,h.wf⟩))
 refine Ops.off Z Z Z Z<|.off Z Z Z Z<|.off Z Z Z Z<|.off Z Z Z Z<|.off Z Z Z Z<|.p (aO Z Z)<|.J Z<|.off Z Z Z Z<|.off Z Z Z Z<|.off Z Z Z Z ?_;refine Ops.off Z Z Z Z<|.off Z Z Z Z<|.p (aO Z Z)<|.I Z<|.nil<|a0<|.rt (by exact aH Z (⟨by simp_all [fZ,mO],V,h.wf⟩))
theorem SC (v1 v2:Value) (rs ss:List aQ) (A:AH) (hn:rs.length<=9223372036854775807) (hpn:∀ r ∈ rs,r.proof.length<=9223372036854775807) (a7:bz A 3 v1 (dh rs)) (ag:bz A 3 v2 (dh ss)) (ac:Proofs A rs) (ad:Proofs A ss):bH prog 57 #[v1,v2,.func (.func 54) #[] #[]] A (fun v A1=>v=.bool (jf true rs ss)/\A.le A1/\A1.wf):=by
 refine aN (e:=[(0,v1),(1,v2),(2,.func (.func 54) #[] #[])]) (args:=[v1,v2,.func (.func 54) #[] #[]]) call57 func57 Z results57 ntmps57 Z Z Z (fun wf=>?_);have a4:=AH.le.refl A;refine ak.sq fun h2=>.region<|.I Z<|.nil<|h2<|.sq fun h4=>.sq fun h6=>.region<|.J Z<|.p (bx (n:=rs.length) o6 Z (a7.le a4) O (dt _)) ?_;refine Ops.J Z<|.p (bx (n:=ss.length) o6 Z (ag.le a4) O (dt _))<|.p (fy Z Z)<|.nil<|h6<|.if rfl (fun p7=>?_) (fun p7=>?_)
 ·refine ak.sq fun h9=>.region<|.I Z<|.nil<|h9<|.rt (by exact aH Z (⟨by (rw [Nr ‹_›];rfl),a4,wf⟩))
 refine ak.skip<|h4<|.sq fun aG=>.sq fun aI=>.region<|.J Z<|.p (bx (n:=rs.length) o6 Z (a7.le a4) O (dt _))<|.J Z<|.nil<|aI ?_;refine ak.block<|.loop (X:=Nat) (fun k=>[(1,v2),(2,.func (.func 54) #[] #[]),(15,v1),(16,num ((rs.length:Nat):Int)),(17,num ((k:Nat):Int))]) (fun k B=>(k<=rs.length/\rs.length=ss.length/\∀ j,j < k->mO true (rs.getD j .zero)=mO true (ss.getD j .zero))/\A.le B) (fun k=>rs.length - k) 0 (nR Z Z Z Z Z) (⟨⟨XZ _,by omega,fun j h=>by omega⟩,a4⟩) ?_;rintro k B15 ⟨⟨hk,hl,hq⟩,a1⟩;refine ak.wf fun a9=>.sq fun aP=>.region<|.p (bK Z Z)<|.nil<|aP<|.sq fun aR=>.if rfl (fun b3=>?_) (fun b3=>?_)
 ·refine ak.skip<|aR<|.sq fun aS=>.block<|.sq fun aT=>.region<|.J Z ?_;obtain ⟨bc,bp,ba,bC,b8,bA,bu,aB,b1,aD,ai,b6⟩:=bz.at (i:=k) (a7.le a1) Ow O;refine Ops.p (al o6 iW Z aB Z b1)<|.p (ao wB iW Z Z aD (ai.trans (Xk some (ju O))))<|.m (fun ar=>co a9 NX rfl fun A29 bd a2=>?_);refine ar<|.I Z<|.m (fun av=>aU (cs:=[aM ((rs.getD k .zero).left),aM ((rs.getD k .zero).right),(rs.getD k .zero).pv]) (c':=[aM ((rs.getD k .zero).left),aM ((rs.getD k .zero).right),(rs.getD k .zero).pv]) a2.wf rfl rfl rfl rfl iW a2.get G (lr (ac.get O)) rfl fun A33 a0=>?_);have a5:=an (a1.trans a2.le) wf (bh wf (Xj a1.n a2.lo)) a0.n a0.keep;refine av<|.nil<|aT<|.sq fun aV=>.region<|.J Z<|.J Z ?_;obtain ⟨bl,br,bb,bD,b9,bB,bv,aC,b2,aF,ap,b7⟩:=bz.at (i:=k) (ag.le a5) Ow O;refine Ops.p (al o6 iW Z aC Z b2)<|.p (ao wB iW Z Z aF (ap.trans (Xk some (ju O))))<|.m (fun ay=>co a0.wf NX rfl fun A41 bm V=>?_);refine ay<|.m (fun az=>aU (cs:=[aM ((ss.getD k .zero).left),aM ((ss.getD k .zero).right),(ss.getD k .zero).pv]) (c':=[aM ((ss.getD k .zero).left),aM ((ss.getD k .zero).right),(ss.getD k .zero).pv]) V.wf rfl rfl rfl rfl iW V.get G (lr (ad.get O)) rfl fun A46 a3=>?_);have a6:=an (a5.trans V.le) wf (bh wf (Xj a5.n V.lo)) a3.n a3.keep;refine az<|.nil<|aV<|.sq fun aY=>.region<|.J Z<|.p (ao wB iW Z Z (a3.k (ne_new a0.wf a0.get V.lo) (V.le.g a0.get)) Z)<|.p (ao wB iW Z Z a3.get Z)<|.m (fun aA=>pY Z Z (Xc ((rs.getD k .zero)) ((ss.getD k .zero)) A46 (hpn _ (aX (d:=aQ.zero) O)) ((ac.get O).le a6) ((ad.get O).le a6)) ?_);rintro bL A56 ⟨rfl,aa,ab⟩;have a8:=a6.trans aa;refine aA<|.p (m5 Z)<|.nil<|aY<|.if rfl (fun b5=>?_) (fun b5=>?_)
  ·refine ak.sq fun aZ=>.region<|.I Z<|.nil<|aZ<|.rt (by exact aH Z (⟨by (rw [TC (i:=k) hl O ‹_›];rfl),a8,ab⟩))
  refine ak.skip<|aS<|.region<|.p (bk (b:=1) Z Z O)<|.J Z<|.nil ?_;exact ⟨k + 1,nR Z Z Z Z Z,Z,⟨⟨by omega,hl,fun j h=>(XV.1 h).elim (hq j) (fun z=>by subst z;exact Decidable.not_not.1 ‹_›)⟩,a8⟩,O1⟩
 refine ak.exit<|aG<|.sq fun b0=>.region<|.I Z<|.nil<|b0<|.rt (by exact aH Z (⟨by (rw [Ns hl O hq];rfl),a1,a9⟩))
theorem ZC (g1:Int) (u1:Value) (l1:List W8) (X:Value) (rs:List aQ) (g2:Int) (u2:Value) (l2:List W8) (a0:Value) (ss:List aQ) (A:AH) (az:l1.length<=1000000) (aA:l2.length<=1000000) (hn:rs.length<=1000000) (hpn:∀ r ∈ rs,r.proof.length<=1000000000) (ai:bz A 1 u1 (dB l1)) (ad:bz A 3 X (dh rs)) (ab:Proofs A rs) (ap:bz A 1 u2 (dB l2)) (ag:bz A 3 a0 (dh ss)) (ac:Proofs A ss):bH prog 18 #[.agg #[num (g1),u1,X],.agg #[num (g2),u2,a0]] A (fun v A1=>v=.bool (decide (g1=g2) && decide (l1=l2) && jf true rs ss)/\A.le A1/\A1.wf):=by
 refine aN (e:=[(0,.agg #[num (g1),u1,X]),(1,.agg #[num (g2),u2,a0])]) (args:=[.agg #[num (g1),u1,X],.agg #[num (g2),u2,a0]]) call18 func18 Z results18 ntmps18 Z Z Z (fun wf=>?_);have ar:=AH.le.refl A;refine ak.sq fun h2=>.region<|.m (fun a9=>dQ wf rfl rfl fun A5 b4 a3=>?_);refine a9<|.m (fun aa=>dQ a3.wf rfl rfl fun A10 b9 V=>?_);have a1:=V.le.g a3.get;have h:=(ar.trans a3.le).trans V.le;refine aa<|.I Z<|.nil<|h2<|.sq fun a8=>.region<|.I Z<|.nil<|a8<|.sq fun a2=>?_;refine ak.region<|.p (ae gy iw U Z)<|.p (ae gj cl U Z)<|.p (ah dK Z Z a1 Z)<|.p (ae gy iw U Z)<|.p (ae gj cl U Z)<|.p (ah dK Z Z V.get Z)<|.p (Zr Z Z)<|.J Z<|.part (t:=13) Z (fun av=>?_) (fun av=>?_)
 ·refine Ops.on Z Z<|.p (ae gy iw U Z)<|.on Z Z<|.p (ae iR qk U Z)<|.on Z Z<|.p (ah qc Z Z a1 Z)<|.on Z Z<|.p (ae gy iw U Z)<|.on Z Z<|.p (ae iR qk U Z) ?_;refine Ops.on Z Z<|.p (ah qc Z Z V.get Z)<|.on Z Z<|.m (fun a6=>ax Z (SE u1 u2 l1 l2 A10 O (ai.le h) (ap.le h)) ?_);rintro aB A21 ⟨rfl,rfl⟩;refine a6<|.p (aJ Z Z)<|.J Z<|.part (t:=22) Z (fun ay=>?_) (fun ay=>?_)
  ·refine Ops.on Z Z<|.p (ae dU ja U Z)<|.on Z Z<|.p (ah jj Z Z a1 Z)<|.on Z Z<|.p (ae dU ja U Z)<|.on Z Z<|.p (ah jj Z Z V.get Z)<|.on Z Z<|.J Z ?_;refine Ops.on Z Z<|.m (fun a7=>ax Z (SC X a0 rs ss A10 O (fun r q=>by have:=hpn r q;omega) (ad.le h) (ag.le h) (ab.le h) (ac.le h)) ?_);rintro aC A26 ⟨rfl,a4,a5⟩;refine a7<|.p (aJ Z Z)<|.I Z<|.nil<|a2<|.rt (by exact aH Z (⟨by simp_all [fZ],(h.trans a4),a5⟩))
  refine Ops.off Z Z Z Z<|.off Z Z Z Z<|.off Z Z Z Z<|.off Z Z Z Z<|.off Z Z Z Z<|.off Z Z Z Z<|.p (aO Z Z)<|.I Z<|.nil<|a2 ?_;refine ak.ret ?_;repeat first | with_reducible refine cz ?_ | with_reducible refine cj ?_
  exact aH Z (⟨by simp_all [fZ],h,V.wf⟩)
 refine Ops.off Z Z Z Z<|.off Z Z Z Z<|.off Z Z Z Z<|.off Z Z Z Z<|.off Z Z Z Z<|.off Z Z Z Z<|.off Z Z Z Z<|.p (aO Z Z)<|.J Z<|.off Z Z Z Z ?_;refine Ops.off Z Z Z Z<|.off Z Z Z Z<|.off Z Z Z Z<|.off Z Z Z Z<|.off Z Z Z Z<|.p (aO Z Z)<|.I Z<|.nil<|a2<|.rt (by exact aH Z (⟨by simp_all [fZ],h,V.wf⟩))
theorem V.Fresh.sep0 {A B:AH} {v u:Value} {size s2:Nat} {xs ys:List Value} (h:Fresh A B v size xs) (hu:ql A u s2 ys):aL v u:=fun c hv hc=>by
  obtain ⟨x,hx⟩:=hu.blkget hc
  have:=h.lo c hv
  rw [hx] at this;cases this
def Uw (p:W8) (d:List ca):Bool:=d.all fun c=>decide (p.length + c.conj.length<=100000)
def DY (p:W8) (c:ca):ca:=⟨c8 (p ++ c.conj),c.rel,c.inv⟩
def qh (p:W8) (d:List ca):List ca:=if Uw p d then d.map (DY p) else []
theorem Zn {p:W8} {d:List ca} {i:Nat} (hi:i < d.length) (h:100000 < p.length + (d.getD i .zero).conj.length):Uw p d=false :=
  List.all_eq_false.2 ⟨_,aX (d:=.zero) hi,by simp only [Vq];omega⟩
theorem VR {p:W8} {d:List ca} {i:Nat} (hi:d.length<=i) (h:∀ j,j < i->p.length + (d.getD j .zero).conj.length<=100000):Uw p d=true :=
  Vx.2 fun c hc=>by
    obtain ⟨j,hj,rfl⟩:=VQ hc
    have:=h j O
    simpa [hj] using this
theorem Ik {p:W8} {d o:List ca} {i:Nat} (hi:i < d.length) (h:o=(d.take i).map (DY p)):o ++ [⟨c8 (p ++ (d.getD i .zero).conj),(d.getD i .zero).rel,(d.getD i .zero).inv⟩]=(d.take (i + 1)).map (DY p):=by
  have e:d.getD i .zero=d[i]:=by simp [hi]
  rw [h,List.take_succ_eq_append_getElem hi,VV,e];rfl
theorem Mc {p:W8} {d o:List ca} {i:Nat} (hi:d.length<=i) (h:o=(d.take i).map (DY p)) (hk:Uw p d=true):o=qh p d:=by
  rw [h,qh,Xw hk,Vw hi]
theorem DX (p:W8) (d:List ca):(qh p d).length<=d.length:=by unfold qh;split <;> simp
theorem QY {p:W8} {d:List ca} (h:Uw p d=true):(qh p d).length=d.length:=by rw [qh,Xw h];simp
theorem td (a b:List ca):dN (a ++ b)=dN a + dN b:=by simp [dN]
theorem wO (c:ca) (d:List ca):dN (c :: d)=c.conj.length + dN d:=by simp [dN]
structure NZ where
  word:W8
  steps:Nat
  disk:List ca
def NZ.zero:NZ:=⟨[],0,[]⟩
structure Uz where
  rest:W8
  stack:W8
  steps:Nat
  disk:List ca
  sum:Nat
abbrev yI (q:W8):UInt8:=q.getD (q.length - 1) 0
abbrev Yv (q:W8):W8:=q.take (q.length - 1)
abbrev DF (k q:W8):Prop:=0 < k.length/\yI k=yI q ^^^ 32
abbrev uh (rs:List aQ) (k:W8):aQ:=rs.getD (cn rs k).toNat .zero
abbrev Vc (rs:List aQ) (k:W8):W8:=k.take (k.length - (uh rs k).left.length)
abbrev QZ (rs:List aQ) (k:W8):List ca:=qh (Vc rs k) (uh rs k).proof
def fits (rs:List aQ) (k:W8) (n:Nat) (d:List ca) (m:Nat):Prop :=
  Uw (Vc rs k) (uh rs k).proof=true/\n + 1<=20000/\d.length + (uh rs k).proof.length<=100000/\m + dN (QZ rs k)<=1000000
instance (rs:List aQ) (k:W8) (n:Nat) (d:List ca) (m:Nat):Decidable (fits rs k n d m):=by unfold fits;infer_instance
def zE (rs:List aQ) (s:Uz):Option Uz :=
  if DF s.stack s.rest then some ⟨Yv s.rest,Yv s.stack,s.steps,s.disk,s.sum⟩
  else if cn rs (s.stack ++ [yI s.rest]) < 0 then some ⟨Yv s.rest,s.stack ++ [yI s.rest],s.steps,s.disk,s.sum⟩
  else if fits rs (s.stack ++ [yI s.rest]) s.steps s.disk s.sum then
    some ⟨Yv s.rest ++ (uh rs (s.stack ++ [yI s.rest])).right.reverse,Vc rs (s.stack ++ [yI s.rest]),s.steps + 1,s.disk ++ QZ rs (s.stack ++ [yI s.rest]),s.sum + dN (QZ rs (s.stack ++ [yI s.rest]))⟩
  else none
def kb (rs:List aQ):Nat->Uz->Option Uz
  | 0,_=>none
  | f + 1,s=>if s.rest=[] then some s else match zE rs s with | none=>none | some s'=>kb rs f s'
def zd:Nat:=2001000000
def start (w:W8):Uz:=⟨w.reverse,[],0,[],0⟩
def oH (rs:List aQ) (w:W8):Option NZ:=(kb rs zd (start w)).map fun s=>⟨s.stack,s.steps,s.disk⟩
section
variable {rs:List aQ} {f n m:Nat} {q k:W8} {d:List ca} {R:Option Uz}
theorem Cl (hf:0 < f) (hq:q.length=0) (h:kb rs f ⟨q,k,n,d,m⟩=R):R=some ⟨q,k,n,d,m⟩:=by
  obtain ⟨f,rfl⟩:∃ g,f=g + 1:=⟨f - 1,by omega⟩
  rw [<- h,kb,Xw (TX.1 hq)]
theorem Cn (hf:0 < f) (hq:0 < q.length) (h:kb rs f ⟨q,k,n,d,m⟩=R) {s:Uz} (e:zE rs ⟨q,k,n,d,m⟩=some s):kb rs (f - 1) s=R:=by
  obtain ⟨f,rfl⟩:∃ g,f=g + 1:=⟨f - 1,by omega⟩
  rw [<- h,kb,Xy (fun z=>by rw [show q=[] from z] at hq;exact absurd hq (by simp)),e];rfl
theorem WI (hf:0 < f) (hq:0 < q.length) (h:kb rs f ⟨q,k,n,d,m⟩=R) (hc:DF k q):kb rs (f - 1) ⟨Yv q,Yv k,n,d,m⟩=R :=
  Cn hf hq h (by rw [zE,Xw hc])
theorem Sh (hf:0 < f) (hq:0 < q.length) (h:kb rs f ⟨q,k,n,d,m⟩=R) (hc:¬ DF k q) (hr:cn rs (k ++ [yI q]) < 0):kb rs (f - 1) ⟨Yv q,k ++ [yI q],n,d,m⟩=R :=
  Cn hf hq h (by rw [zE,Xy hc,Xw hr])
theorem Si (hf:0 < f) (hq:0 < q.length) (h:kb rs f ⟨q,k,n,d,m⟩=R) (hc:¬ DF k q) (hr:¬ cn rs (k ++ [yI q]) < 0) (hx:fits rs (k ++ [yI q]) n d m) :
    kb rs (f - 1) ⟨Yv q ++ (uh rs (k ++ [yI q])).right.reverse,Vc rs (k ++ [yI q]),n + 1,d ++ QZ rs (k ++ [yI q]),m + dN (QZ rs (k ++ [yI q]))⟩=R :=
  Cn hf hq h (by rw [zE,Xy hc,Xy hr,Xw hx])
theorem Sg (hf:0 < f) (hq:0 < q.length) (h:kb rs f ⟨q,k,n,d,m⟩=R) (hc:¬ DF k q) (hr:¬ cn rs (k ++ [yI q]) < 0) (hx:¬ fits rs (k ++ [yI q]) n d m):R=none:=by
  obtain ⟨f,rfl⟩:∃ g,f=g + 1:=⟨f - 1,by omega⟩
  rw [<- h,kb,Xy (fun z=>by rw [show q=[] from z] at hq;exact absurd hq (by simp)),zE,Xy hc,Xy hr,Xy hx]
theorem vy {o:W8} (h:¬ cn rs o < 0):(cn rs o).toNat < rs.length/\iM o (uh rs o).left=true/\cn rs o=((cn rs o).toNat:Nat):=by
  unfold uh
  unfold cn at h ⊢
  split at h
  · rename_i i hi
    have h1:=TY.1 (List.mem_of_find?_eq_some hi)
    have h2:=List.find?_some hi
    exact ⟨by simpa using h1,by simpa using h2,by simp⟩
  · exact absurd O h
theorem Px {o w:W8} (h:iM o w=true):w.length<=o.length:=by simp only [iM,Vq] at h;exact h.1
theorem O9 {u v:W8} (h:nf u v < 0):u.length<=v.length:=by
  unfold nf at h
  split at h
  · split at h <;> omega
  · omega
theorem RU {g:Int} {l:List W8} {r:aQ} (h:gU g l r=true):r.right.length<=r.left.length:=by
  have:=(jN h).2.2.1
  unfold eu at this
  split at this
  · exact O9 this
  · omega
theorem vu {g:Int} {w:W8} (h:jU g w=true):JU w:=m0 (fun q=>q (FF h))
theorem xC {g:Int} {l:List W8} {r:aQ} (hs:bN g l rs=true) (hr:r ∈ rs):r.right.length<=r.left.length/\r.left.length<=1000/\r.proof.length<=100000/\dN r.proof<=1000000/\JU r.right/\JU r.left:=by
  have h:=(ke hs).2.2.1 r hr
  have h2:=jN h
  have h3:ka g l r.proof (r.left ++ gh r.right)=0:=h2.2.2.2
  unfold ka at h3
  split at h3
  · exact absurd h3 ‹_›
  · rename_i hc
    have:=sm (k5 hc).2.2
    exact ⟨RU h,lH h2.1,this.1,this.2,vu h2.2.1,vu h2.1⟩
theorem QW {o:W8} (h:¬ cn rs o < 0):uh rs o ∈ rs:=aX (vy h).1
theorem R8 {g:Int} {l:List W8} {o:W8} (hs:bN g l rs=true) (h:¬ cn rs o < 0):(cn rs o).toNat < rs.length/\(rs.getD (cn rs o).toNat .zero).left.length<=o.length/\(rs.getD (cn rs o).toNat .zero).right.length<=(rs.getD (cn rs o).toNat .zero).left.length/\(rs.getD (cn rs o).toNat .zero).left.length<=1000/\(rs.getD (cn rs o).toNat .zero).proof.length<=100000/\dN (rs.getD (cn rs o).toNat .zero).proof<=1000000/\0<=cn rs o:=by
  have h1:=vy h
  have h2:=xC hs (QW h)
  exact ⟨h1.1,Px h1.2.1,h2.1,h2.2.1,h2.2.2.1,h2.2.2.2.1,by omega⟩
theorem Rb (q r:W8) (hq:0 < q.length):(q.take (q.length - 1) ++ r.reverse).length=q.length - 1 + r.length:=by simp
theorem Ra {q k K r:W8} {W n:Nat} (h:q.length + k.length<=W) (hK:K.length=k.length + 1) (hr:r.length<=n) (hn:n<=K.length) (hq:0 < q.length):(q.take (q.length - 1) ++ r.reverse).length + (K.take (K.length - n)).length<=W:=by
  rw [Rb q r hq,Vz];omega
theorem VO {q r:W8} {n f:Nat} (hf:(20000 - n) * 100001 + q.length < f) (hn:n + 1<=20000) (hr:r.length<=1000) (hq:0 < q.length):(20000 - (n + 1)) * 100001 + (q.take (q.length - 1) ++ r.reverse).length < f - 1:=by
  rw [Rb q r hq]
  obtain ⟨e,he⟩:∃ e,20000 - n=e + 1:=⟨20000 - n - 1,by omega⟩
  have h2:20000 - (n + 1)=e:=by omega
  rw [h2];rw [he,Rk,Nat.one_mul] at hf
  generalize e * 100001=z at *
  have:z + (q.length - 1 + r.length) + 1 < f:=by
    refine Nat.lt_of_le_of_lt ?_ hf
    have:q.length - 1 + r.length + 1<=100001 + q.length:=by omega
    omega
  omega
def redOf (s:Uz):NZ:=⟨s.stack,s.steps,s.disk⟩
def gJ (o:Option NZ):NZ:=o.getD .zero
theorem ve {w:W8} {s:Uz} (h:kb rs zd (start w)=some s):oH rs w=some (redOf s):=by rw [oH,h];rfl
theorem MH {w:W8} (h:kb rs zd (start w)=none):oH rs w=none:=by rw [oH,h];rfl
def xu (g:Int) (rs:List aQ) (w:W8):Option NZ:=if bZ g w=0/\w.length<=20000 then oH rs w else none
def vb (g:Int) (rs:List aQ) (w:W8):Nat:=if ¬ bZ g w=0 then 4 else if (xu g rs w).isSome then 0 else 2
def MF (g:Int) (rs:List aQ) (w:W8):NZ:=gJ (xu g rs w)
variable {g:Int} {w:W8}
theorem Zu (h:¬ bZ g w=0):MF g rs w=.zero/\vb g rs w=4:=by simp [MF,xu,vb,h,gJ]
def oT (g:Int) (l:List W8) (rs:List aQ) (w:W8):NZ:=if bN g l rs then MF g rs w else .zero
def mh (g:Int) (l:List W8) (rs:List aQ) (w:W8):Nat:=if bN g l rs then vb g rs w else 100
theorem ZX {l:List W8} (h:bN g l rs=false):oT g l rs w=.zero/\mh g l rs w=100:=by simp [oT,mh,h]
theorem vj {l:List W8} (h:bN g l rs=true):oT g l rs w=MF g rs w/\mh g l rs w=vb g rs w:=by simp [oT,mh,h]
theorem tP {o:Option NZ} (h:(!o.isSome)=true):o=none:=by cases o <;> simp_all
theorem qS {o:Option NZ} (h:(!o.isSome)=false):o=some (gJ o):=by cases o <;> simp_all [gJ]
end
theorem yv:dM prog 37=some true:=by kernel_rfl
theorem sk:eo prog 37 0=some (9,0):=by kernel_rfl
theorem uJ:eo prog 37 1=some (3,1):=by kernel_rfl
theorem GU:eo prog 37 2=some (35,2):=by kernel_rfl
theorem inf85:prog.info? 85=some Tryz.t85:=by kernel_rfl
theorem Wa:dk prog 37=some [(0,1),(1,1),(2,1)]:=by kernel_rfl
theorem pl85:dk prog 85=some [(0,1),(1,1),(2,1)]:=by kernel_rfl
theorem jb:dy prog 37=some 3:=by kernel_rfl
theorem u37:type_of% @underlying37:=@underlying37
theorem Kz:cE prog 37=some (.agg #[.string ⟨⟨[]⟩⟩,.int .i64 0,.slice none 0 0]):=by kernel_rfl
theorem xM (g:Int) (u:Value) (l:List W8) (rv:Value) (rs:List aQ) (w:W8) (A:AH) (hw:w.length<=9223372036854775807) (hz:Sml l rs) (hu:bz A 1 u (dB l)) (hr:bz A 3 rv (dh rs)) (hp:Proofs A rs):bH prog 15 #[.agg #[num (g),u,rv],aM (w)] A (fun v A1=>v=.bool (bN g l rs && decide (bZ g w=0) && nS rs w)/\A.le A1/\A1.wf):=by
 refine aN (e:=[(0,.agg #[num (g),u,rv]),(1,aM (w))]) (args:=[.agg #[num (g),u,rv],aM (w)]) call15 func15 Z results15 ntmps15 Z Z Z (fun wf=>?_);have ac:=AH.le.refl A;obtain ⟨ai,ap,aa,ab⟩:=id hz;refine ak.sq fun h2=>.region<|.m (fun a9=>dQ wf rfl rfl fun A5 b4 a1=>?_);have V:=ac.trans a1.le;refine a9<|.I Z<|.nil<|h2<|.sq fun h9=>.region<|.p (ao fW fw Z Z a1.get Z)<|.m (fun a5=>ax Z (SM ((g)) u l rv rs A5 hz (hu.le V) (hr.le V) (hp.le V)) ?_);rintro ar A12 ⟨rfl,X,a0⟩;have a4:=X.g a1.get;have h:=V.trans X;refine a5<|.p (jM (b:=0) Z Z)<|.J Z<|.part (t:=8) Z (fun ad=>?_) (fun ad=>?_)
 ·refine Ops.on Z Z<|.J Z<|.on Z Z<|.p (ae gy iw U Z)<|.on Z Z<|.p (ae gj cl U Z)<|.on Z Z<|.p (ah dK Z Z a4 Z)<|.on Z Z<|.m (fun a6=>ax Z (m8 w ((g)) A12 hw (dq (ke (TR ‹_›)).1).1) ?_);rintro av A19 ⟨rfl,rfl⟩;refine a6<|.p (aJ Z Z)<|.J Z<|.part (t:=15) Z (fun ag=>?_) (fun ag=>?_)
  ·refine Ops.on Z Z<|.p (ao fW fw Z Z a4 Z)<|.on Z Z<|.J Z<|.on Z Z<|.m (fun a7=>ax Z (IR ((g)) u l rv rs w A12 aa (fun r q=>by have:=ab r q;omega) (by have:=ig ‹bZ g w=0›;omega) (hu.le h) (hr.le h)) ?_);rintro ay A24 ⟨rfl,a2,a3⟩;have a8:=h.trans a2;refine a7<|.p (aJ Z Z)<|.I Z<|.nil<|h9<|.rt (by exact aH Z (⟨by (rw [TR ‹_›];simp_all [fZ]),a8,a3⟩))
  refine Ops.off Z Z Z Z<|.off Z Z Z Z<|.off Z Z Z Z<|.p (aO Z Z)<|.I Z<|.nil<|h9<|.rt (by exact aH Z (⟨by (rw [TR ‹_›];simp_all [fZ]),h,a0⟩))
 refine Ops.off Z Z Z Z<|.off Z Z Z Z<|.off Z Z Z Z<|.off Z Z Z Z<|.off Z Z Z Z<|.p (aO Z Z)<|.J Z<|.off Z Z Z Z<|.off Z Z Z Z<|.off Z Z Z Z ?_;refine Ops.p (aO Z Z)<|.I Z<|.nil<|h9<|.rt (by exact aH Z (⟨by (rw [ZY ‹_›];simp_all [fZ]),h,a0⟩))
namespace V
end V
namespace V
section
variable {A B C:AH} {b:Nat} {v v':Value} {size:Nat} {xs ys:List Value}
def Defs (A0 A:AH) (Ds:List Nat):Prop:=Ds.Nodup/\∀ D ∈ Ds,A.get D=some (.obj true (.deferred (some [])))/\A0.get D=none
end
end V
namespace V
def wJ (ops:Array Oper):Array Bool->List Nat->Nat->Nat->List Nat->List Nat->Bool
  | listed,[],i,j,C,D=>(Region.ready .any ops listed == [i,j]) && ni ops (listed.setIfInBounds i true) C && ni ops (listed.setIfInBounds j true) D && (C.length == D.length)
  | listed,q :: Cq,i,j,C,D=>match ops[q]? with
    | none=>false
    | some o=>du o.op && (Region.ready .any ops listed).contains q && Region.free .any ops listed q && wJ ops (listed.setIfInBounds q true) Cq i j C D
section
variable {P:Program} {nt:Nat} {ops:Array Oper} {Q:Exit->Fr->AH->Prop} {f:Fr} {A:AH}
def mj (P:Program) (nt:Nat) (ops:Array Oper) (Q:Exit->Fr->AH->Prop) (listed:Array Bool) (held:List (Nat × fx)) (Cq:List Nat) (i j:Nat) (C D:List Nat) (f:Fr) (A:AH):Prop :=
  wJ ops listed Cq i j C D=true->Region.noSelect ops=true->∀ a w,de nt f a->cw A w->d6 ops held listed w->md ops listed ->
    ∀ (A₀:AH) (w₀:World),fz A₀ w₀ A w->fF P ops (d9 nt Q A₀ w₀) (d6 ops held) (Cq.length + (C.length + 1)) listed a w
theorem mj.quiet {listed:Array Bool} {held:List (Nat × fx)} {q i j:Nat} {Cq C D:List Nat} {o:Oper} {v:Value} {T:fx} (ho:ops[q]? = some o) (hq:du o.op=true) (hd:∀ t,o.dst=some t->t < nt)
    (hv:∀ a w,de nt f a->cw A w->f8 T w/\YieldsIf P ops (f8 T) o v a)
    (h:mj P nt ops Q (listed.setIfInBounds q true) ((q,T) :: held) Cq i j C D ⟨gw f.e o.dst v,f.ds⟩ A):mj P nt ops Q listed held (q :: Cq) i j C D f A:=by
  intro hc hn a w ha hw hh hcl A₀ w₀ hs
  simp only [wJ,ho,XK] at hc
  obtain ⟨⟨⟨_,c1⟩,c2⟩,c3⟩:=hc
  obtain ⟨t1,t2⟩:=hv a w ha hw
  have hr:q ∈ Region.ready .any ops listed:=by simpa using c1
  have hheld:d6 ops ((q,T) :: held) listed w:=fun p hp hj=>by
    rcases Vy.1 hp with rfl | hp
    · exact t1
    · exact hh p hp hj
  have H:=h c3 hn _ w (ha.put o.dst v hd) hw ((jI ho hq _ _).2 hheld) (iG hcl hr) A₀ w₀ hs
  have free:=Region.free_spec ho c2
  have H':fF P ops (d9 nt Q A₀ w₀) (d6 ops ((q,T) :: held)) (Cq.length + (C.length + 1) + 1) listed a w :=
    pM (T:=f8 T) ho (Region.noSelect_spec hn) (fun c a w g=>u7 _ _ c a w g)
      (fun l w' hcl' hun hS=>hS (q,T) (VX ..) fun j hl ⟨oj,hoj,_⟩=>by
        cases e:mw ops q ops.size j with
        | false=>rfl
        | true =>
          have:=kq hcl' ops.size j oj hoj (hcl' j oj hoj hl) e
          rw [i6 hun] at this;cases this)
      (fun l w'=>jI ho hq l w') _ listed a w hcl (fun j oj hoj hne hun hno=>free j oj hoj hne hun hno) hr t2 hheld H
  have weaken:∀ (fuel:Nat) (l:Array Bool) (a:Act) (w:World),fF P ops (d9 nt Q A₀ w₀) (d6 ops ((q,T) :: held)) fuel l a w->fF P ops (d9 nt Q A₀ w₀) (d6 ops held) fuel l a w:=by
    intro fuel
    induction fuel with
    | zero=>intro l a w h;exact h
    | succ fuel ih=>intro l a w h;exact ⟨h.1,fun j hj=>wpOp_mono (fun a' w' h'=>⟨fun p hp=>h'.1 p (VZ _ hp),ih _ _ _ h'.2⟩) (h.2 j hj)⟩
  rw [Xq,Nat.add_right_comm]
  exact weaken _ _ _ _ H'
theorem zo {listed:Array Bool} {held:List (Nat × fx)} {i:Nat} {C:List Nat} {o:Oper} {a:Act} {w:World} {A₀:AH} {w₀:World} (ho:ops[i]? = some o) (hq:du o.op=false) (hd:∀ t,o.dst=some t->t < nt) (hwn:∀ a:Act,de nt f a->Region.wanted o (yielded ops a.tmps)=true)
    (c2:ni ops (listed.setIfInBounds i true) C=true) (hn:Region.noSelect ops=true) (ha:de nt f a) (hw:cw A w) (hcl:md ops listed) (hs:fz A₀ w₀ A w) (hr:i ∈ Region.ready .any ops listed)
    (h:∀ (K:Value->AH->Prop) (Kp:List PanicEntry->AH->Prop),
      (∀ v A',(∀ w',cw A' w'->∀ p ∈ held,mw ops p.1 ops.size i=false->f8 p.2 w')->DOps P nt ops Q (listed.setIfInBounds i true) (held.filter fun p=>!mw ops p.1 ops.size i) C ⟨gw f.e o.dst v,f.ds⟩ A'->K v A') ->
      (∀ ch A',Q (.panic ch) ⟨[],f.ds⟩ A'->Kp ch A')->kY P f.e A o K Kp) :
    wpOp P ops (d9 nt Q A₀ w₀) i (fun a' w'=>d6 ops held (listed.setIfInBounds i true) w'/\fF P ops (d9 nt Q A₀ w₀) (d6 ops held) C.length (listed.setIfInBounds i true) a' w') a w:=by
  have hlt:i < listed.size:=by
    have:=(mem_ready.1 hr).1
    rcases VW i listed.size with h' | h'
    · exact h'
    · simp [RQ h'] at this
  have hl:(listed.setIfInBounds i true).getD i false=true:=by simp [hlt]
  unfold wpOp
  simp only [ho,hwn a ha,if_true]
  left
  have:=rz (o:=o) (K:=fun v A'=>(∀ w',cw A' w'->∀ p ∈ held,mw ops p.1 ops.size i=false->f8 p.2 w')/\DOps P nt ops Q (listed.setIfInBounds i true) (held.filter fun p=>!mw ops p.1 ops.size i) C ⟨gw f.e o.dst v,f.ds⟩ A')
    (Kp:=fun ch A'=>Q (.panic ch) ⟨[],f.ds⟩ A') ha hw (h _ _ (fun v A' g1 g2=>⟨g1,g2⟩) (fun ch A' g=>g))
  unfold Oper.wp at this ⊢
  have up:∀ r,o.upon P a (ki A a w o fun v A'=>(∀ w',cw A' w'->∀ p ∈ held,mw ops p.1 ops.size i=false->f8 p.2 w')/\DOps P nt ops Q (listed.setIfInBounds i true) (held.filter fun p=>!mw ops p.1 ops.size i) C ⟨gw f.e o.dst v,f.ds⟩ A') (iP A a w fun ch A'=>Q (.panic ch) ⟨[],f.ds⟩ A') r ->
      o.upon P a (fun a' w'=>d6 ops held (listed.setIfInBounds i true) w'/\fF P ops (d9 nt Q A₀ w₀) (d6 ops held) C.length (listed.setIfInBounds i true) a' w') (d9 nt Q A₀ w₀) r:=by
    have next:∀ a' w',(ki A a w o fun v A'=>(∀ w',cw A' w'->∀ p ∈ held,mw ops p.1 ops.size i=false->f8 p.2 w')/\DOps P nt ops Q (listed.setIfInBounds i true) (held.filter fun p=>!mw ops p.1 ops.size i) C ⟨gw f.e o.dst v,f.ds⟩ A') a' w' ->
        d6 ops held (listed.setIfInBounds i true) w'/\fF P ops (d9 nt Q A₀ w₀) (d6 ops held) C.length (listed.setIfInBounds i true) a' w':=by
      rintro a' w' ⟨v,A',rfl,hv',hs',g1,g2⟩
      have hlo:V.loud ops i:=⟨o,ho,hq⟩
      have hh':d6 ops held (listed.setIfInBounds i true) w':=fun p hp hj=>g1 w' hv' p hp (hj i hl hlo)
      refine ⟨hh',?_⟩
      have H:=g2 c2 hn _ w' (ha.put o.dst v hd) hv' (fun p hp hj=>hh' p (SK.1 hp).1 hj) (iG hcl hr) A₀ w₀ (hs.trans hs')
      refine ma (x:=i) (fun l w hx hS p hp hj=>hS p (SK.2 ⟨hp,?_⟩) hj) _ _ _ _ hl H
      simp [hj i hx hlo]
    have pan:∀ x a' w',iP A a w (fun ch A'=>Q (.panic ch) ⟨[],f.ds⟩ A') x a' w'->d9 nt Q A₀ w₀ x a' w':=by
      rintro x a' w' ⟨ch,A',rfl,rfl,hv',hs',g⟩
      exact ⟨⟨[],f.ds⟩,A',⟨ha.size,(fun _ _ q=>by cases q),ha.ds⟩,hv',hs.trans hs',g,fun _ _=>rfl⟩
    intro r hr'
    cases r with
    | ok n w' =>
      cases n <;> simp only [Oper.upon] at hr' ⊢ <;> (try exact hr'.elim)
      case value v=>exact next _ _ hr'
      case skip=>exact next _ _ hr'
      case defer d=>exact next _ _ hr'
      case enter f' args =>
        refine hr'.mono fun e w'' he=>?_
        cases e with
        | returned v=>exact next _ _ he
        | panicked ch=>exact pan _ _ _ he
        | outgrown=>obtain ⟨a₁,w₁,ch,A',q,_⟩:=he;cases q
      case row row args=>exact hr'.mono fun v w'' he=>next _ _ he
    | halt x w' =>
      cases x <;> simp only [Oper.upon] at hr' ⊢ <;> (try exact hr'.elim)
      case panic v=>exact pan _ _ _ hr'
  exact up _ this
variable {e:ii} {ds:List Deferred}
theorem mj.q {listed:Array Bool} {held:List (Nat × fx)} {i j k d:Nat} {Cq C D:List Nat} {op:Op} {ty:TypeId} {ps:String} {af:Array Edge} {v:Value} {T:fx} (ho:ops[k]? = some { dst:=some d,op:=op,type:=ty,pos:=ps,after:=af,guard:=none }) (hq:du op=true) (hd:Nat.blt d nt=true) (hv:aW P e A op=some (v,T))
    (h:mj P nt ops Q (listed.setIfInBounds k true) ((k,T) :: held) Cq i j C D ⟨(d,v) :: e,ds⟩ A):mj P nt ops Q listed held (k :: Cq) i j C D ⟨e,ds⟩ A :=
  mj.quiet (f:=⟨e,ds⟩) (T:=T) (v:=v) ho hq (dc (d:=some d) hd) (fun a w ha hw=>by
    have key:=ib (P:=P) (f:=(⟨e,ds⟩:Fr)) (o:={ dst:=some d,op:=op,type:=ty,pos:=ps,after:=af,guard:=none }) hv ha hw
    exact ⟨key.1,.inl ⟨by simp [Region.wanted],key.2⟩⟩) h
theorem mj.p {listed:Array Bool} {held:List (Nat × fx)} {i j k d:Nat} {Cq C D:List Nat} {op:Op} {ty:TypeId} {ps:String} {af:Array Edge} {v:Value} {T:fx} (ho:ops[k]? = some { dst:=some d,op:=op,type:=ty,pos:=ps,after:=af,guard:=none }) (hv:aW P e A op=some (v,T))
    (h:mj P nt ops Q (listed.setIfInBounds k true) ((k,T) :: held) Cq i j C D ⟨(d,v) :: e,ds⟩ A) (hq:du op=true:=by exact Z) (hd:Nat.blt d nt=true:=by exact Z):mj P nt ops Q listed held (k :: Cq) i j C D ⟨e,ds⟩ A:=mj.q ho hq hd hv h
theorem mj.both {listed:Array Bool} {held:List (Nat × fx)} {i j:Nat} {C D:List Nat} {di dj:Option Nat} {opi opj:Op} {ti tj:TypeId} {pi pj:String} {afi afj:Array Edge}
    (hoi:ops[i]? = some { dst:=di,op:=opi,type:=ti,pos:=pi,after:=afi,guard:=none }) (hoj:ops[j]? = some { dst:=dj,op:=opj,type:=tj,pos:=pj,after:=afj,guard:=none }) (hqi:du opi=false) (hqj:du opj=false) (hdi:ij nt di=true) (hdj:ij nt dj=true)
    (hi:∀ (K:Value->AH->Prop) (Kp:List PanicEntry->AH->Prop),(∀ v A',bg ops held i A'->DOps P nt ops Q (listed.setIfInBounds i true) (held.filter fun p=>!mw ops p.1 ops.size i) C ⟨gw e di v,ds⟩ A'->K v A') ->
      (∀ ch A',Q (.panic ch) ⟨[],ds⟩ A'->Kp ch A')->kY P e A { dst:=di,op:=opi,type:=ti,pos:=pi,after:=afi,guard:=none } K Kp)
    (hj:∀ (K:Value->AH->Prop) (Kp:List PanicEntry->AH->Prop),(∀ v A',bg ops held j A'->DOps P nt ops Q (listed.setIfInBounds j true) (held.filter fun p=>!mw ops p.1 ops.size j) D ⟨gw e dj v,ds⟩ A'->K v A') ->
      (∀ ch A',Q (.panic ch) ⟨[],ds⟩ A'->Kp ch A')->kY P e A { dst:=dj,op:=opj,type:=tj,pos:=pj,after:=afj,guard:=none } K Kp):mj P nt ops Q listed held [] i j C D ⟨e,ds⟩ A:=by
  intro hc hn a w ha hw hh hcl A₀ w₀ hs
  simp only [wJ,XK,Qy] at hc
  obtain ⟨⟨⟨c1,c2⟩,c3⟩,c4⟩:=hc
  rw [Xx,Sq]
  refine ⟨fun h0=>(by rw [c1] at h0;cases h0),fun k hk=>?_⟩
  have hk':=hk
  rw [c1] at hk'
  simp only [Vy,SQ,or_false] at hk'
  rcases hk' with rfl | rfl
  · exact zo (C:=C) hoi hqi (dc hdi) (fun a _=>by simp [Region.wanted]) c2 hn ha hw hcl hs hk hi
  · rw [c4];exact zo (C:=D) hoj hqj (dc hdj) (fun a _=>by simp [Region.wanted]) c3 hn ha hw hcl hs hk hj
theorem ak.drawnP {id:Nat} (Cq:List Nat) (i j:Nat) (C D:List Nat) (hm:P.follows .mixedOrders=true) (hc:wJ ops (Array.replicate ops.size false) Cq i j C D=true) (hn:Region.noSelect ops=true) (hl:Cq.length + (C.length + 1)=ops.size)
    (h:mj P nt ops Q (Array.replicate ops.size false) [] Cq i j C D f A):ak P nt (.region id ops true) Q f A:=by
  intro a w ha hw
  obtain ⟨v1,s1⟩:=jF hw
  refine wp_mono (wp_region_any hm (kO (Q:=d9 nt Q A w) (S:=d6 ops []) _ _ _ _ ?_)) (fun _ _ _=>d9.q)
  have key:=h hc hn a _ ha v1 (fun p hp=>by cases hp) (fun j o _ hj=>by
    exfalso
    rcases VW j ops.size with q | q
    · simp [q] at hj
    · simp [q] at hj) A w s1
  rw [hl] at key
  exact key
end
end V
namespace V
section
variable {P:Program} {nt:Nat} {A:AH}
def kR (P:Program) (g:FuncId) (args:Array Value) (u:FrameMode) (A:AH) (Q:Ending->FrameMode->AH->Prop):Prop :=
  ∀ w,cw A w->CallsD P g args u w fun e u' w'=>∃ A',cw A' w'/\fz A w A' w'/\Q e u' A'
theorem kR.mono {g:FuncId} {args:Array Value} {u:FrameMode} {Q Q':Ending->FrameMode->AH->Prop} (h:kR P g args u A Q)
    (k:∀ e u' A',Q e u' A'->Q' e u' A'):kR P g args u A Q' :=
  fun w hw=>(h w hw).mono fun _ _ _ ⟨A',v,s,q⟩=>⟨A',v,s,k _ _ _ q⟩
def nh (P:Program) (rs:List ResultVar) (e:ii) (Q:Ending->AH->Prop):List Deferred->FrameMode->AH->Prop
  | [],.returning,A=>∃ vs,iq P e A rs=some vs/\Q (.returned (fZ vs)) A
  | [],.panicking ch,A=>Q (.panicked ch) A
  | [],.run,_=>False
  | d :: ds,u,A=>u ≠ .run/\∃ fv cap g args,d.target=.fn fv cap/\(∀ w,(invoke d.target d.args).run P w=.ok (.enter g args) w) /\
      kR P g args u A fun
        | .returned _,u',A'=>nh P rs e Q ds (settle u') A'
        | .panicked ch,u',A'=>nh P rs e Q ds (raised u' ch) A'
        | .outgrown,_,_=>False
theorem Bw {fn:Func} {e:ii} {a:Act} {Q:Ending->AH->Prop} {A₀:AH} {w₀:World} (hsz:a.tmps.size=nt) (hsl:∀ t v,cA e t=some v->a.tmps.getD t undef=v/\t < nt) :
    ∀ (ds:List Deferred) (u:FrameMode) (A:AH) (w:World),cw A w->fz A₀ w₀ A w->nh P fn.results.toList e Q ds u A ->
      Leaves P fn a.tmps (fun en w'=>∃ A',cw A' w'/\fz A₀ w₀ A' w'/\Q en A') ds u w:=by
  intro ds
  induction ds with
  | nil =>
    intro u A w hv hs h
    cases u with
    | run=>exact h.elim
    | returning =>
      obtain ⟨vs,hr,hq⟩:=h
      exact ⟨_,jO (nt:=nt) (f:=⟨e,a.defers⟩) (a:=a) ⟨hsz,hsl,Z⟩ hv hr,A,hv,hs,hq⟩
    | panicking ch=>exact ⟨A,hv,hs,h⟩
  | cons d ds ih =>
    intro u A w hv hs h
    obtain ⟨hu,fv,cap,g,args,ht,hi,hc⟩:=h
    refine ⟨hu,fv,cap,g,args,ht,hi w,(hc w hv).mono ?_⟩
    rintro en u' w' ⟨A',hv',hs',hq⟩
    cases en with
    | returned v=>exact ih _ A' w' hv' (hs.trans hs') hq
    | panicked ch=>exact ih _ A' w' hv' (hs.trans hs') hq
    | outgrown=>exact hq.elim
def Gy (P:Program) (rs:List ResultVar) (Q:Ending->AH->Prop):Exit->Fr->AH->Prop
  | .normal,f,A | .ret,f,A=>nh P rs f.e Q f.ds .returning A
  | .panic ch,f,A=>nh P rs f.e Q f.ds (.panicking ch) A
  | _,_,_=>False
theorem Oo {args:List Value} (hn:args.length<=nt):de nt ⟨s9 args 0,[]⟩ { tmps:=args.toArray ++ Array.replicate (nt - args.toArray.size) undef,defers:=[] }:=by
  refine ⟨by simp;omega,fun t v q=>?_,Z⟩
  obtain ⟨_,h2⟩:=wE args 0 t v q
  simp only [Nat.sub_zero] at h2
  have hlt:t < args.length:=(Rx.1 h2).1
  refine ⟨?_,by omega⟩
  simp only [Array.getD_eq_getD_getElem?]
  rw [Array.getElem?_append_left (by simpa using hlt)]
  simp [h2]
theorem im.enterD {g:FuncId} {fn:Func} {c:Code} {args:List Value} {Qe:Ending->AH->Prop} (he:gx P g) (hf:P.funcs[g]? = some fn) (hb:fn.body=some c) (hn:args.length<=fn.ntmps)
    (h:A.wf->ak P fn.ntmps c (Gy P fn.results.toList Qe) ⟨s9 args 0,[]⟩ A):im P g args.toArray A Qe:=by
  refine ⟨he,fun w hw=>calls_of_wp_defers hf hb ?_⟩
  refine wp_mono (h hw.wf _ w (Oo hn) hw) ?_
  rintro x a' w' ⟨f',A',h1,h2,h3,h4,h5⟩
  cases x <;> simp only [Gy] at h4 <;> (try exact h4.elim)
  case normal=>simp only [bodyPostD];rw [h1.ds];exact Bw h1.size h1.slot _ _ _ _ h2 h3 h4
  case ret=>simp only [bodyPostD];rw [h1.ds];exact Bw h1.size h1.slot _ _ _ _ h2 h3 h4
  case panic ch=>simp only [bodyPostD];rw [h1.ds];exact Bw h1.size h1.slot _ _ _ _ h2 h3 h4
def Yk (nt:Nat) (Q:Exit->FrameMode->Fr->AH->Prop) (A:AH) (w:World) (c₀:Frame) (cs:List Frame):Exit->Act->List Frame->World->Prop :=
  fun x a' cs' w'=>∃ u' f' A',cs'={ c₀ with mode:=u' } :: cs/\de nt f' a'/\cw A' w'/\fz A w A' w'/\Q x u' f' A'
def sa (P:Program) (nt:Nat) (c:Code) (Q:Exit->FrameMode->Fr->AH->Prop) (u:FrameMode) (f:Fr) (A:AH):Prop :=
  ∀ a w (c₀:Frame) cs,c₀.mode=u->de nt f a->cw A w->c.wpS P (Yk nt Q A w c₀ cs) a (c₀ :: cs) w
def ut (P:Program) (nt:Nat) (all:Array Oper) (l:List Nat) (Q:Exit->FrameMode->Fr->AH->Prop) (u:FrameMode) (f:Fr) (A:AH):Prop :=
  ∀ a w (c₀:Frame) cs,c₀.mode=u->de nt f a->cw A w->∀ (A₀:AH) (w₀:World),fz A₀ w₀ A w->wpOpsS P all (Yk nt Q A₀ w₀ c₀ cs) l a (c₀ :: cs) w
variable {Q:Exit->FrameMode->Fr->AH->Prop} {u:FrameMode} {f:Fr} {all:Array Oper} {l:List Nat} {e:ii} {ds:List Deferred}
theorem yg {c:Code} {R R':Exit->Act->List Frame->World->Prop} {a:Act} {cs:List Frame} {w:World} (h:c.wpS P R a cs w) (k:∀ x a cs w,R x a cs w->R' x a cs w):c.wpS P R' a cs w :=
  fun b kk hb hr=>let ⟨x,a',cs',w',q,r⟩:=h b kk hb hr;⟨x,a',cs',w',k _ _ _ _ q,r⟩
theorem sa.of_run {c:Code} (h:ak P nt c (fun x f A=>Q x u f A) f A):sa P nt c Q u f A:=by
  intro a w c₀ cs hu ha hw
  refine wpS_of_wp (wp_mono (h a w ha hw) ?_)
  rintro x a' w' ⟨f',A',h1,h2,h3,h4,_⟩
  exact ⟨u,f',A',by subst hu;rfl,h1,h2,h3,h4⟩
def thenS (K:FrameMode->Fr->AH->Prop) (Q:Exit->FrameMode->Fr->AH->Prop):Exit->FrameMode->Fr->AH->Prop
  | .normal,u,f,A=>K u f A
  | x,u,f,A=>Q x u f A
theorem sa.seq {x y:Code} (h:sa P nt x (thenS (fun u f A=>sa P nt y Q u f A) Q) u f A):sa P nt (x.seq y) Q u f A:=by
  intro a w c₀ cs hu ha hw
  refine wpS_seq (yg (h a w c₀ cs hu ha hw) ?_)
  rintro e a' cs' w' ⟨u',f',A',rfl,h1,h2,h3,h4⟩
  cases e with
  | normal =>
    refine yg (h4 a' w' { c₀ with mode:=u' } cs Z h1 h2) ?_
    rintro x a'' cs'' w'' ⟨u2,f2,A2,rfl,g1,g2,g3,g4⟩
    exact ⟨u2,f2,A2,Z,g1,g2,h3.trans g3,g4⟩
  | _=>exact ⟨u',f',A',Z,h1,h2,h3,h4⟩
theorem sa.region {id:Nat} {ops:Array Oper} (hl:List.range ops.size=l) (h:ut P nt ops l Q u f A):sa P nt (.region id ops false) Q u f A:=by
  intro a w c₀ cs hu ha hw
  refine wpS_region ?_
  rw [hl]
  exact h a w c₀ cs hu ha hw A w (.refl _ _)
theorem ut.nil (h:Q .normal u f A):ut P nt all [] Q u f A:=by
  intro a w c₀ cs hu ha hw A₀ w₀ hs
  exact ⟨u,f,A,by subst hu;rfl,ha,hw,hs,h⟩
theorem ut.recover {i:Nat} {o:Oper} {d:Nat} {v:Value} {older:List PanicEntry} (ho:all[i]? = some o) (hg:o.guard=none) (hd:o.dst=some d) (hdn:d < nt)
    (hr:∀ ρ w,(execOp ρ o).run P w=.ok .recover w)
    (h:ut P nt all l Q (.panicking ({ v:=v,recovered:=true } :: older)) ⟨(d,v) :: e,ds⟩ A) :
    ut P nt all (i :: l) Q (.panicking ({ v:=v,recovered:=false } :: older)) ⟨e,ds⟩ A:=by
  intro a w c₀ cs hu ha hw A₀ w₀ hs
  simp only [wpOpsS,ho]
  rw [Xw (by simp [Region.wanted,hg]),hr]
  simp only [recoverD,hu]
  have:=h (a.put o.dst v) w { c₀ with mode:=.panicking ({ v:=v,recovered:=true } :: older) } cs Z (by have:=ha.put o.dst v (by rw [hd];rintro t ⟨⟩;exact hdn);rw [hd] at this ⊢;exact this) hw A₀ w₀ hs
  exact this
theorem ut.recoverNil {i:Nat} {o:Oper} {d:Nat} (ho:all[i]? = some o) (hg:o.guard=none) (hd:o.dst=some d) (hdn:d < nt)
    (hr:∀ ρ w,(execOp ρ o).run P w=.ok .recover w)
    (h:ut P nt all l Q .returning ⟨(d,.nilIface) :: e,ds⟩ A) :
    ut P nt all (i :: l) Q .returning ⟨e,ds⟩ A:=by
  intro a w c₀ cs hu ha hw A₀ w₀ hs
  simp only [wpOpsS,ho]
  rw [Xw (by simp [Region.wanted,hg]),hr]
  simp only [recoverD,hu]
  have:=h (a.put o.dst .nilIface) w c₀ cs hu (by have:=ha.put o.dst .nilIface (by rw [hd];rintro t ⟨⟩;exact hdn);rw [hd] at this ⊢;exact this) hw A₀ w₀ hs
  exact this
def OH (P:Program) (rs:List ResultVar) (R:Ending->FrameMode->AH->Prop):Exit->FrameMode->Fr->AH->Prop
  | .normal,u,f,A | .ret,u,f,A=>f.ds=[]/\∃ vs,iq P f.e A rs=some vs/\R (.returned (fZ vs)) u A
  | .panic ch,u,f,A=>f.ds=[]/\R (.panicked ch) u A
  | _,_,_,_=>False
theorem kR.enter {g:FuncId} {fn:Func} {c:Code} {args:List Value} {R:Ending->FrameMode->AH->Prop} (hf:P.funcs[g]? = some fn) (hb:fn.body=some c) (hn:args.length<=fn.ntmps)
    (h:A.wf->sa P fn.ntmps c (OH P fn.results.toList R) u ⟨s9 args 0,[]⟩ A):kR P g args.toArray u A R:=by
  intro w hw
  refine callsD_of_wpS hf hb fun c₀ cs hu=>?_
  refine yg (h hw.wf _ w c₀ cs hu (Oo hn) hw) ?_
  rintro x a' cs' w' ⟨u',f',A',rfl,h1,h2,h3,h4⟩
  cases x <;> simp only [OH] at h4 <;> (try exact h4.elim)
  case normal=>obtain ⟨q,vs,hr,hq⟩:=h4;exact ⟨h1.ds.trans q,u',Z,_,jO h1 h2 hr,A',h2,h3,hq⟩
  case ret=>obtain ⟨q,vs,hr,hq⟩:=h4;exact ⟨h1.ds.trans q,u',Z,_,jO h1 h2 hr,A',h2,h3,hq⟩
  case panic ch=>exact ⟨h1.ds.trans h4.1,u',Z,A',h2,h3,h4.2⟩
end
theorem II {P:Program} {t x:TypeId} {fs:Array Field} {v:Value} {w:World} (hu:P.underlying t=some (.struct fs)):(Instr.typeAssert (.iface t v) x t true).run P w=.ok (.tuple #[v,.bool true]) w:=by
  have h1:(underlying t).run P w=.ok (.struct fs) w:=by simp [underlying,go_sem,hu]
  simp [Instr.typeAssert,go_sem,h1]
section
variable {P:Program} {nt:Nat} {A:AH} {Q:Exit->Fr->AH->Prop} {all:Array Oper} {os:List Oper} {e:ii} {ds:List Deferred} {o:Oper}
theorem Ops.raise {v:Value} (hg:o.guard=none) (hr:∀ a:Act,de nt ⟨e,ds⟩ a->∀ w,cw A w->(execOp a.eval o).run P w=.halt (.panic v) w) (h:Q (.panic [{ v:=v,recovered:=false }]) ⟨e,ds⟩ A) :
    Ops P nt all (o :: os) Q ⟨e,ds⟩ A:=by
  intro a w ha hw A₀ w₀ hs
  unfold wpList
  rw [Xw (by simp [Region.wanted,hg])]
  left
  unfold Oper.wp
  rw [hr a ha w hw]
  exact ⟨⟨e,ds⟩,A,ha,hw,hs,h,fun _ _=>trivial⟩
theorem Ops.val {v:Value} (hg:o.guard=none) (hd:ij nt o.dst=true) (hr:∀ a:Act,de nt ⟨e,ds⟩ a->∀ w,cw A w->(execOp a.eval o).run P w=.ok (.value v) w) (h:Ops P nt all os Q ⟨gw e o.dst v,ds⟩ A) :
    Ops P nt all (o :: os) Q ⟨e,ds⟩ A:=by
  intro a w ha hw A₀ w₀ hs
  unfold wpList
  rw [Xw (by simp [Region.wanted,hg])]
  left
  unfold Oper.wp
  rw [hr a ha w hw]
  exact h _ w (ha.put o.dst v (dc hd)) hw A₀ w₀ hs
theorem Ops.defer {d:Deferred} (hg:o.guard=none) (hd:o.dst=none) (hr:∀ a:Act,de nt ⟨e,ds⟩ a->∀ w,cw A w->(execOp a.eval o).run P w=.ok (.defer d) w) (h:Ops P nt all os Q ⟨e,d :: ds⟩ A) :
    Ops P nt all (o :: os) Q ⟨e,ds⟩ A:=by
  intro a w ha hw A₀ w₀ hs
  unfold wpList
  rw [Xw (by simp [Region.wanted,hg])]
  left
  unfold Oper.wp
  rw [hr a ha w hw]
  simp only [Oper.upon,hd]
  exact h ({ a with defers:=d :: a.defers }:Act) w ⟨ha.size,ha.slot,by have:=ha.ds;simp only at this ⊢;rw [this]⟩ hw A₀ w₀ hs
def z7 (P:Program) (g:FuncId) (args:Array Value) (A:AH) (R:Value->AH->Prop) (Rp:List PanicEntry->AH->Prop):Prop:=im P g args A (Dm R Rp)
theorem z7.ret {g:FuncId} {args:Array Value} {R:Value->AH->Prop} (h:z7 P g args A R (fun _ _=>False)):bH P g args A R :=
  im.mono h fun en A' q=>by
    cases en with
    | returned v=>exact ⟨v,Z,q⟩
    | panicked ch=>exact q.elim
    | outgrown=>exact q.elim
variable {K:Value->AH->Prop} {Kp:List PanicEntry->AH->Prop} {g:Option (Nat × Bool)} {dst:Option Nat} {ty:TypeId} {ps:String} {af:Array Edge}
theorem Uf {gg:FuncId} {vs:List Value} {R:Value->AH->Prop} {Rp:List PanicEntry->AH->Prop} {aa:Array Operand} {tt:Array TypeId} (ha:jV (cd e) aa.toList=some vs)
    (hc:z7 P gg vs.toArray A R Rp) (h:∀ v A',R v A'->K v A') (hp:∀ ch A',Rp ch A'->Kp ch A'):kY P e A { dst:=dst,op:=.call { callee:=.value (.func gg),args:=aa,argTypes:=tt },type:=ty,pos:=ps,after:=af,guard:=g } K Kp:=by
  simp only [kY,wI,cd,ha]
  refine im.mono (Q:=Dm R Rp) (by unfold z7 at hc;simpa using hc) fun en A' q=>?_
  cases en with
  | returned v=>exact h _ _ q
  | panicked ch=>exact hp _ _ q
  | outgrown=>exact q.elim
theorem Py {gg:FuncId} {fn:Func} {c:Code} {rs:Array ResultVar} {args:List Value} {a:Array Value} {R:Value->AH->Prop} {Rp:List PanicEntry->AH->Prop} (he:gx P gg) (hf:P.funcs[gg]? = some fn) (hb:fn.body=some c)
    (hr:fn.results=rs) (hnt:fn.ntmps=nt) (ha:args.toArray=a) (hn:Nat.ble args.length nt=true) (hE:s9 args 0=e) (h:A.wf->ak P nt c (jG P rs.toList (Dm R Rp)) ⟨e,[]⟩ A):z7 P gg a A R Rp:=by
  subst hr;subst hnt;subst ha;subst hE
  exact im.enter he hf hb (Sw hn) h
theorem enterD {gg:FuncId} {fn:Func} {c:Code} {rs:Array ResultVar} {args:List Value} {a:Array Value} {R:Value->AH->Prop} {Rp:List PanicEntry->AH->Prop} (he:gx P gg) (hf:P.funcs[gg]? = some fn) (hb:fn.body=some c)
    (hr:fn.results=rs) (hnt:fn.ntmps=nt) (ha:args.toArray=a) (hn:Nat.ble args.length nt=true) (hE:s9 args 0=e) (h:A.wf->ak P nt c (Gy P rs.toList (Dm R Rp)) ⟨e,[]⟩ A):z7 P gg a A R Rp:=by
  subst hr;subst hnt;subst ha;subst hE
  exact im.enterD he hf hb (Sw hn) h
end
section
variable {P:Program} {A:AH} {e:ii} {r:List ResultVar} {vs:List Value} {v:Value} {t:TypeId} {a b off cap n:Nat} {rw:Bool} {c cs:List Value}
theorem iq.nil:iq P e A []=some []:=rfl
theorem iq.cell {p:Addr} (hx:cA e a=some (.pointer (some p))) (hv:ld P A t (.pointer (some p))=some v) (hr:iq P e A r=some vs):iq P e A (.cell a t :: r)=some (v :: vs):=by
  simp only [iq,hx,hr,hv];rfl
theorem qG (ha:dM P t=some false) (hg:A.get b=some (.row rw c cap)) (hc:c[off]? = some v):ld P A t (.pointer (some ⟨b,off,none⟩))=some v:=by
  simp only [ld,ha];simp [AH.cell,hg,hc]
theorem qF (ha:dM P t=some true) (hs:dy P t=some n) (hg:A.get b=some (.row rw c cap)) (hc:ku c off n=some cs):ld P A t (.pointer (some ⟨b,off,none⟩))=some (.agg cs.toArray):=by
  simp only [ld,ha,hs,Sy];simp [AH.cellsAt,hg,hc]
end
end V
namespace V
section
variable {P:Program} {nt:Nat} {A:AH} {Q:Exit->Fr->AH->Prop} {all:Array Oper} {os:List Oper} {e:ii} {ds:List Deferred} {o:Oper} {x:Operand} {v:Value} {dst:Option Nat} {ty:TypeId} {ps:String} {af:Array Edge} {t:TypeId} {fs:Array Field}
theorem Ops.iface (hu:P.underlying t=some (.struct fs)) (hx:cd e x=some v) (hd:ij nt dst=true) (h:Ops P nt all os Q ⟨gw e dst (.iface t v),ds⟩ A) :
    Ops P nt all ({ dst:=dst,op:=.makeInterface t x,type:=ty,pos:=ps,after:=af,guard:=none } :: os) Q ⟨e,ds⟩ A :=
  Ops.val Z hd (fun a ha w hw=>by
    have h5:=cI ha hx
    simp only [execOp,h5,Instr.makeInterface,Sem.run_bind,cg hu,Result.andThen_ok];rfl) h
theorem Ops.panicI (hx:cd e x=some (.iface t v)) (h:Q (.panic [{ v:=.iface t v,recovered:=false }]) ⟨e,ds⟩ A) :
    Ops P nt all ({ dst:=dst,op:=.panic x,type:=ty,pos:=ps,after:=af,guard:=none } :: os) Q ⟨e,ds⟩ A :=
  Ops.raise Z (fun a ha w hw=>by
    have h5:=cI ha hx
    simp only [execOp,h5,Instr.panic,Sem.run_bind];rfl) h
theorem lR {K:Fr->AH->Prop} {f:Fr} {ch:List PanicEntry} (h:Q (.panic ch) f A):re K Q (.panic ch) f A:=h
theorem jY {i:Nat} {f:Fr} {ch:List PanicEntry} (h:Q (.panic ch) f A):nI i Q (.panic ch) f A:=h
theorem jr {f:Fr} {ch:List PanicEntry} (h:Q (.panic ch) f A):BH Q (.panic ch) f A:=h
variable {rs:List ResultVar} {R:Value->AH->Prop} {Rp:List PanicEntry->AH->Prop} {vs:List Value}
theorem retE (hr:iq P e A rs=some vs) (h:R (fZ vs) A):jG P rs (Dm R Rp) .ret ⟨e,[]⟩ A:=⟨rfl,vs,hr,h⟩
theorem retEn (hr:iq P e A rs=some vs) (h:R (fZ vs) A):jG P rs (Dm R Rp) .normal ⟨e,[]⟩ A:=⟨rfl,vs,hr,h⟩
theorem Rg {ch:List PanicEntry} (h:Rp ch A):jG P rs (Dm R Rp) (.panic ch) ⟨e,[]⟩ A:=⟨rfl,h⟩
end
end V
def cf (l:List Int):List Value:=l.map fun i=>num i
theorem aj (l:List Int):(cf l).length=l.length:=by simp [cf]
theorem c9 (l:List Int):(cf l).length=l.length * 1:=by simp [cf]
theorem bJ {l:List Int} {i:Nat} (h:i < l.length):(cf l)[i]? = some (num (l.getD i 0)):=by simp [cf,h]
theorem cJ (a b:List Int):cf a ++ cf b=cf (a ++ b):=by simp [cf]
theorem dp (a:List Int) (n:Nat) (c:Int):(cf a).set n (num c)=cf (a.set n c):=by simp [cf,List.map_set]
theorem ef (n:Nat):List.replicate n (num 0)=cf (List.replicate n 0):=by simp [cf]
def bQ (l:List Bool):List Value:=l.map fun b=>.bool b
theorem bi (l:List Bool):(bQ l).length=l.length:=by simp [bQ]
theorem fH (l:List Bool):(bQ l).length=l.length * 1:=by simp [bQ]
theorem dC {l:List Bool} {i:Nat} (h:i < l.length):(bQ l)[i]? = some (.bool (l.getD i false)):=by simp [bQ,h]
theorem jd (a b:List Bool):bQ a ++ bQ b=bQ (a ++ b):=by simp [bQ]
theorem my (a:List Bool) (n:Nat) (c:Bool):(bQ a).set n (.bool c)=bQ (a.set n c):=by simp [bQ,List.map_set]
theorem KJ (l:List Bool):qi (bQ l)=true:=by simp [qi,bQ,Value.oneCell']
theorem pO (n:Nat):List.replicate n (.bool false)=bQ (List.replicate n false):=by simp [bQ]
def uW (r:aQ):UInt8:=r.left.getD (r.left.length - 1) 0
def iu (rs:List aQ) (c:UInt8):List Int:=((List.range rs.length).filter fun i=>decide (uW (rs.getD i .zero)=c)).map fun (i:Nat)=>(i:Int)
def nF (A:AH) (m:Nat) (rs:List aQ):Prop:=∃ rw es ck,∃ E:List (UInt8 × Value),A.get m=some (.obj rw (.map es ck))/\dF dT es E/\∀ c,bz A 1 ((lk E c).getD (.slice none 0 0)) (cf (iu rs c))
theorem nF.le {A B:AH} {m:Nat} {rs:List aQ} (h:nF A m rs) (le:A.le B):nF B m rs:=by
  obtain ⟨rw,es,ck,E,h1,h2,h3⟩:=h
  exact ⟨rw,es,ck,E,le.g h1,h2,fun c=>(h3 c).le le⟩
theorem PQ {rs:List aQ} {c:UInt8} {j:Nat} (hj:j < (iu rs c).length):∃ i:Nat,(iu rs c).getD j 0=i/\i < rs.length:=by
  have h:=aX (d:=0) hj
  generalize (iu rs c).getD j 0=z at h
  simp only [iu,Vk,SK,TY] at h
  obtain ⟨i,⟨h1,h2⟩,rfl⟩:=h
  exact ⟨i,Z,h1⟩
theorem Vi {rs:List aQ} {c:UInt8} {j:Nat} (hj:j < (iu rs c).length):0<=(iu rs c).getD j 0/\((iu rs c).getD j 0).toNat < rs.length/\(iu rs c).getD j 0=(((iu rs c).getD j 0).toNat:Nat):=by
  obtain ⟨i,h1,h2⟩:=PQ hj
  rw [h1];exact ⟨by omega,by simpa using h2,by simp⟩
theorem Dx (rs:List aQ) (c:UInt8):(iu rs c).length<=rs.length:=by
  simp only [iu,Tq]
  exact Xj (List.length_filter_le _ _) (by simp)
theorem Pu {k w:W8} (h:¬ (0:Int)<=(k.length:Int) - (w.length:Int)):iM k w=false:=by
  simp only [iM,VK];intro q;omega
theorem Pt {k w:W8} (h:(0:Int)<=(k.length:Int) - (w.length:Int)):iM k w=decide (k.drop ((k.length:Int) - (w.length:Int)).toNat=w):=by
  rw [iM,show ((k.length:Int) - (w.length:Int)).toNat=k.length - w.length by omega]
  congr 1;rw [eq_iff_iff];exact ⟨fun q=>q.2,fun q=>⟨by omega,q⟩⟩
theorem K8 {o w:W8} (h:iM o w=true) (hw:0 < w.length):w.getD (w.length - 1) 0=o.getD (o.length - 1) 0:=by
  simp only [iM,Vq] at h
  obtain ⟨h1,h2⟩:=h
  have h3:w.getD (w.length - 1) 0=(o.drop (o.length - w.length)).getD (w.length - 1) 0:=by rw [h2]
  rw [h3]
  simp only [XJ,RY]
  congr 2;omega
theorem Dq {p q:Nat->Bool} {l:List Nat} (h:∀ x ∈ l,q x=true->p x=true):(l.filter p).find? q=l.find? q:=by
  induction l with
  | nil=>rfl
  | cons x l ih =>
    have ih:=ih fun y hy=>h y (VZ _ hy)
    by_cases hp:p x=true
    · rw [List.filter_cons_of_pos hp,QQ,QQ,ih]
    · have hq:q x=false:=by
        cases e:q x with
        | false=>rfl
        | true=>exact absurd (h x VX e) hp
      rw [List.filter_cons_of_neg hp,ih,QQ,hq]
theorem vx {rs:List aQ} {o:W8} (h0:∀ r ∈ rs,0 < r.left.length) :
    cn rs o=match (iu rs (o.getD (o.length - 1) 0)).find? (fun i=>iM o (rs.getD i.toNat .zero).left) with | some i=>i | none=>-1:=by
  unfold cn iu
  rw [List.find?_map]
  have e:((fun i:Int=>iM o (rs.getD i.toNat .zero).left) ∘ fun (i:Nat)=>(i:Int))=fun i:Nat=>iM o (rs.getD i .zero).left:=by funext i;simp
  rw [e,Dq (p:=fun i=>decide (uW (rs.getD i .zero)=o.getD (o.length - 1) 0)) fun x hx hq=>by
    rw [Sk]
    exact K8 hq (h0 _ (aX (d:=.zero) (TY.1 hx)))]
  cases (List.range rs.length).find? fun i=>iM o (rs.getD i .zero).left <;> rfl
theorem gd {α:Type} {l:List α} {j:Nat} {d:α} (h:j < l.length):l.getD j d=l[j]:=by simp [h]
theorem Lq {rs:List aQ} {o:W8} {j i:Nat} (h0:∀ r ∈ rs,0 < r.left.length) (hj:j < (iu rs (o.getD (o.length - 1) 0)).length) (hi:(iu rs (o.getD (o.length - 1) 0)).getD j 0=i) (hn:∀ k,k < j->iM o (rs.getD ((iu rs (o.getD (o.length - 1) 0)).getD k 0).toNat .zero).left=false) (h:iM o (rs.getD i .zero).left=true):cn rs o=i:=by
  rw [vx h0]
  generalize iu rs (o.getD (o.length - 1) 0)=L at *
  have hf:L.find? (fun i=>iM o (rs.getD i.toNat .zero).left)=some (i:Int):=by
    rw [List.find?_eq_some_iff_getElem]
    refine ⟨by simpa using h,j,hj,by rw [<- gd hj];exact hi,fun k hk=>?_⟩
    have:=hn k hk
    rw [gd (show k < L.length by omega)] at this
    rw [this];rfl
  rw [hf]
theorem PO {rs:List aQ} {o:W8} {j:Nat} (h0:∀ r ∈ rs,0 < r.left.length) (hj:(iu rs (o.getD (o.length - 1) 0)).length<=j) (hn:∀ k,k < j->iM o (rs.getD ((iu rs (o.getD (o.length - 1) 0)).getD k 0).toNat .zero).left=false):cn rs o = -1:=by
  rw [vx h0]
  generalize iu rs (o.getD (o.length - 1) 0)=L at *
  have hf:L.find? (fun i=>iM o (rs.getD i.toNat .zero).left)=none:=by
    rw [Qq]
    intro x hx
    obtain ⟨k,hk,rfl⟩:=VQ hx
    have:=hn k O
    rw [gd hk] at this
    rw [this];decide
  rw [hf]
def GT (x:aQ) (k:W8) (n:Nat) (d:List ca) (m:Nat):Prop :=
  Uw (k.take (k.length - x.left.length)) x.proof=true/\n + 1<=20000/\d.length + x.proof.length<=100000/\m + dN (qh (k.take (k.length - x.left.length)) x.proof)<=1000000
def pre (p:W8) (P:List ca) (j:Nat):List ca:=(P.take j).map (DY p)
theorem Wr {p:W8} {P:List ca} {j:Nat} (h:j<=P.length):(pre p P j).length=j:=by simp [pre];omega
theorem Ew {p:W8} {P:List ca} {j:Nat} (h:j < P.length):pre p P (j + 1)=pre p P j ++ [⟨c8 (p ++ (P.getD j .zero).conj),(P.getD j .zero).rel,(P.getD j .zero).inv⟩]:=(Ik h Z).symm
theorem Eu {p:W8} {P:List ca} {j:Nat} (h:j < P.length):dN (pre p P (j + 1))=dN (pre p P j) + (c8 (p ++ (P.getD j .zero).conj)).length:=by
  rw [Ew h,td,wO];rfl
theorem BK {p:W8} {P:List ca} {j:Nat} (hj:P.length<=j) (h:∀ i,i < j->p.length + (P.getD i .zero).conj.length<=100000):pre p P j=qh p P/\Uw p P=true:=by
  have hk:=VR hj h
  exact ⟨Mc hj Z hk,hk⟩
theorem Zq {p:W8} {P:List ca} (j:Nat) (h:Uw p P=true):dN (pre p P j)<=dN (qh p P):=by
  rw [qh,Xw h,pre,<- Rq j P,VV,td,Rq]
  exact Nat.le_add_right _ _
theorem YP {x:aQ} {k:W8} {n m:Nat} {d:List ca} (h:20000 < n + 1):¬ GT x k n d m:=fun q=>by have:=q.2.1;omega
theorem YQ {x:aQ} {k:W8} {n m:Nat} {d:List ca} (h:100000 < d.length + x.proof.length):¬ GT x k n d m:=fun q=>by have:=q.2.2.1;omega
theorem YR {x:aQ} {k:W8} {n m j:Nat} {d:List ca} (hj:j < x.proof.length) (h:100000 < (k.take (k.length - x.left.length)).length + (x.proof.getD j .zero).conj.length):¬ GT x k n d m:=fun q=>by
  have:=q.1;rw [Zn hj h] at this;cases this
theorem YU {x:aQ} {k:W8} {n m j:Nat} {d:List ca} (h:1000000 < m + dN (pre (k.take (k.length - x.left.length)) x.proof j)):¬ GT x k n d m:=fun q=>by
  have:=Zq j q.1;have:=q.2.2.2;omega
theorem YV {x:aQ} {k:W8} {n m j:Nat} {d:List ca} (h1:¬ 20000 < n + 1) (h2:¬ 100000 < d.length + x.proof.length) (hj:x.proof.length<=j) (h:∀ i,i < j->(k.take (k.length - x.left.length)).length + (x.proof.getD i .zero).conj.length<=100000) (hm:m + dN (pre (k.take (k.length - x.left.length)) x.proof j)<=1000000):GT x k n d m:=by
  have:=BK hj h
  exact ⟨this.2,by omega,by omega,by rw [<- this.1];exact hm⟩
theorem kZ:dM prog 102=some false:=by kernel_rfl
theorem Ot:dM prog 143=some false:=by kernel_rfl
theorem iY:eo prog 145 0=some (102,0):=by kernel_rfl
theorem jx:eo prog 147 0=some (145,0):=by kernel_rfl
theorem JE:eo prog 147 1=some (27,1):=by kernel_rfl
theorem AU:eo prog 147 2=some (143,4):=by kernel_rfl
theorem ml:eo prog 147 3=some (102,5):=by kernel_rfl
theorem vU:eo prog 147 4=some (3,6):=by kernel_rfl
theorem mn:eo prog 147 5=some (37,7):=by kernel_rfl
theorem JX:dk prog 149=some []:=by kernel_rfl
theorem ic:dy prog 102=some 1:=by kernel_rfl
theorem TU:dy prog 143=some 1:=by kernel_rfl
theorem pX:dy prog 145=some 1:=by kernel_rfl
theorem Uc:type_of% @underlying143:=@underlying143
theorem FW:type_of% @underlying149:=@underlying149
theorem cQ:type_of% @underlying67:=@underlying67
theorem Uo:cE prog 149=some (.agg #[]):=by kernel_rfl
theorem Gi:cE prog 67=some (.slice none 0 0):=by kernel_rfl
theorem XC (b:Nat) (kv x1 x2 x3 x4 x5 x6 x7 x8 x9:Value) (k w:W8) (rw:Bool) (cap:Nat) (A:AH) (a0:k.length<=1000000) (hw:w.length<=1000000) (hb:A.get b=some (.row rw [kv,x1,x2,x3,x4,x5,x6,x7,x8,x9] cap)) (hk:bz A 1 kv (aw k)):bH prog 179 #[.pointer (some ⟨b,0,none⟩),aM (w)] A (fun v A1=>v=.bool (iM k w)/\A=A1):=by
 refine aN (e:=[(0,.pointer (some ⟨b,0,none⟩)),(1,aM (w))]) (args:=[.pointer (some ⟨b,0,none⟩),aM (w)]) call179 func179 Z results179 ntmps179 Z Z Z (fun wf=>?_);have h:=AH.le.refl A;refine ak.sq fun h2=>.region<|.I Z<|.nil<|h2<|.sq fun h4=>.region<|.J Z<|.p (cW Z)<|.p (ae iY ic U Z) ?_;refine Ops.p (ah kZ Z Z (h.g hb) Z)<|.p (bx (n:=k.length) db Z (hk.le h) O (fa _))<|.J Z<|.p (cM u9 Z)<|.p (tL Z Z O)<|.I Z<|.nil<|h4<|.sq fun h6=>.region ?_;refine Ops.J Z<|.p (lu Z Z)<|.J Z<|.part (t:=16) Z (fun p7=>?_) (fun p7=>?_)
 ·refine Ops.on Z Z<|.J Z<|.on Z Z<|.p (cW Z)<|.on Z Z<|.p (ae iY ic U Z)<|.on Z Z<|.p (ah kZ Z Z (h.g hb) Z)<|.on Z Z<|.J Z ?_;refine Ops.on Z Z ?_;have V:=bz.lo (j:=(((k.length:Nat):Int) - ((w.length:Nat):Int)).toNat) hk U Ox;rw [VY,se] at V;refine Ops.p (EI db lQ Z (hk.le h) (go O) U Ox)<|.on Z Z<|.m (fun X=>fb (s:=k.drop ((((k.length:Nat):Int) - ((w.length:Nat):Int)).toNat)) Z db u9 u5 (V.le h) ?_);refine X<|.on Z Z<|.J Z<|.on Z Z<|.p (nw Z Z)<|.p (aJ Z Z)<|.I Z<|.nil<|h6<|.rt (by exact aH Z (⟨by (rw [Pt ‹_›];rfl),Z⟩))
 refine Ops.off Z Z Z Z<|.off Z Z Z Z<|.off Z Z Z Z<|.off Z Z Z Z<|.off Z Z Z Z<|.off Z Z Z Z<|.off Z Z Z Z<|.off Z Z Z Z<|.off Z Z Z Z<|.p (aO Z Z) ?_;refine Ops.I Z<|.nil<|h6<|.rt (by exact aH Z (⟨by (rw [Pu ‹_›];rfl),Z⟩))
theorem Kq (n:Nat) (k:W8) (b:Nat) (kv x1 x2 x3 x4 x5 x6 x7 x8 x9:Value) (A0 A:AH) (a1:A0.le A) (a3:A0.wf) (hb:A.get b=some (.row true [kv,x1,x2,x3,x4,x5,x6,x7,x8,x9] 10)) (a2:A0.get b=none) (fr:Fresh A0 A kv 1 (aw k)) (X:blk kv ≠ some b) (hn:0 < n/\n<=k.length/\k.length<=1000000):bH prog 140 #[.pointer (some ⟨b,0,none⟩),num ((n:Nat):Int)] A (fun v A1=>∃ kv2,v=.tuple #[]/\A0.le A1/\A1.wf/\A1.get b=some (.row true [kv2,x1,x2,x3,x4,x5,x6,x7,x8,x9] 10)/\Fresh A0 A1 kv2 1 (aw (k.take (k.length - n)))/\blk kv2 ≠ some b):=by
 refine aN (e:=[(0,.pointer (some ⟨b,0,none⟩)),(1,num ((n:Nat):Int))]) (args:=[.pointer (some ⟨b,0,none⟩),num ((n:Nat):Int)]) call140 func140 Z results140 ntmps140 Z Z Z (fun wf=>?_);refine ak.drawn [0,1,2,3,4,5,6,7,8,9,10,11,12,13,14,15] mixed Y Y Z<|.p Z (aK Z)<|.p Z (aK Z)<|.p Z (cW Z)<|.p Z (ae iY ic U Z)<|.p Z (ah kZ Z Z hb Z)<|.p Z (aK Z)<|.p Z (cW Z)<|.p Z (ae iY ic U Z)<|.p Z (ah kZ Z Z hb Z) ?_;refine DOps.p Z (bx (n:=k.length) db Z fr.slc O (fa _))<|.p Z (aK Z)<|.p Z (iO Z Z O) ?_;obtain ⟨b3,n3,c3,q3,m3,d3⟩:=fr.nonnil (by intro q;have:=Xk List.length q;simp only [be,Xx] at this;omega);subst q3;rw [be,VY] at m3;have V:=fr.take (k:=k.length - n) O;rw [VY,ks] at V;refine DOps.p Z (m7 db lQ Z Z O)<|.p Z (cW Z)<|.p Z (ae iY ic U Z)<|.m Z (fun a0=>aU (cs:=[.slice (some ⟨b3,0,none⟩) (k.length - n) c3]) (c':=[.slice (some ⟨b3,0,none⟩) (k.length - n) c3,x1,x2,x3,x4,x5,x6,x7,x8,x9]) wf rfl rfl rfl rfl ic hb G rfl rfl fun A6 h=>?_);refine a0 (bg.none Y)<|.done ?_;repeat first | with_reducible refine cz ?_ | with_reducible refine cj ?_
 repeat first | with_reducible refine f5 ?_ | with_reducible refine fc ?_ | with_reducible refine eh U ?_ | with_reducible refine ei ?_ | with_reducible refine dA ?_
 exact zD (vs:=[]) Z (⟨_,Z,(an a1 a3 a2 h.n h.keep),h.wf,h.get,(V.keep h.keep X),X⟩)
theorem Xp (b:Nat) (kv:Value) (g:Int) (u rv:Value) (mb:Nat) (qv:Value) (x6 x7 x8 x9:Value) (rs:List aQ) (k:W8) (rw:Bool) (cap:Nat) (A:AH) (b9:0 < k.length/\k.length<=1000000/\rs.length<=1000000) (a0:∀ r ∈ rs,0 < r.left.length/\r.left.length<=1000000) (hb:A.get b=some (.row rw [kv,num g,u,rv,.map (some mb),qv,x6,x7,x8,x9] cap)) (hk:bz A 1 kv (aw k)) (hr:bz A 3 rv (dh rs)) (hI:nF A mb rs):bH prog 141 #[.pointer (some ⟨b,0,none⟩)] A (fun v A1=>v=num (cn rs k)/\A=A1):=by
 refine aN (e:=[(0,.pointer (some ⟨b,0,none⟩))]) (args:=[.pointer (some ⟨b,0,none⟩)]) call141 func141 Z results141 ntmps141 Z Z Z (fun wf=>?_);have V:=AH.le.refl A;obtain ⟨mrw,mes,mck,mE,aA,aB,a2⟩:=hI;have a1:=fun r (q:r ∈ rs)=>(a0 r q).1;have hxl:=Dx rs (k.getD (k.length - 1) 0);refine ak.sq fun h2=>.region<|.I Z<|.nil<|h2<|.sq fun h4=>.sq fun h6=>.drawn [0,1,2,3,4,5,6,7,8,9,10,11,12,13,14,15,16,17,20,18,19] mixed Y Y Z<|.p Z (aK Z)<|.p Z (cW Z) ?_;refine DOps.p Z (ae AU TU U Z)<|.p Z (ah Ot Z Z (V.g hb) Z)<|.p Z (aK Z)<|.p Z (cW Z)<|.p Z (ae jx pX U Z)<|.p Z (ae iY ic U Z)<|.p Z (ah kZ Z Z (V.g hb) Z)<|.p Z (aK Z)<|.p Z (cW Z)<|.p Z (ae jx pX U Z) ?_;refine DOps.p Z (ae iY ic U Z)<|.p Z (ah kZ Z Z (V.g hb) Z)<|.p Z (bx (n:=k.length) db Z (hk.le V) O (fa _))<|.p Z (iO (b:=1) Z Z O) ?_;obtain ⟨b2,b6,aZ,bp,aT,bd,ba,a8,aC,ab,aP,a3⟩:=bz.at (i:=k.length - 1) (hk.le V) Ox O;refine DOps.p Z (al db lQ Z a8 Z aC)<|.p Z (ah OA Z Z ab ((cb a3).trans (gW O)))<|.p Z (aK Z)<|.m Z (fun a6=>rh tp Z Z Uc u5 Gi aA aB ?_);refine a6 (bg.none Y)<|.p Z (bx (n:=(iu rs (k.getD (k.length - 1) 0)).length) cQ Z ((a2 (k.getD (k.length - 1) 0)).le V) O (c9 _))<|.done<|h6<|.block<|.loop (X:=Nat) (fun j=>[(0,.pointer (some ⟨b,0,none⟩)),(23,(lk mE (k.getD (k.length - 1) 0)).getD (.slice none 0 0)),(24,num (((iu rs (k.getD (k.length - 1) 0)).length:Nat):Int)),(25,num ((j:Nat):Int))]) (fun j B=>(j<=(iu rs (k.getD (k.length - 1) 0)).length/\∀ i,i < j->iM k (rs.getD ((iu rs (k.getD (k.length - 1) 0)).getD i 0).toNat .zero).left=false)/\A=B) (fun j=>(iu rs (k.getD (k.length - 1) 0)).length - j) 0 (mc Z Z Z Z) (⟨⟨XZ _,fun i h=>by omega⟩,Z⟩) ?_;rintro j B14 ⟨⟨hj,hq⟩,rfl⟩;have hio:=fun q:j < (iu rs (k.getD (k.length - 1) 0)).length=>Vi q;have hlo:=fun q:j < (iu rs (k.getD (k.length - 1) 0)).length=>a0 _ (aX (d:=aQ.zero) (hio q).2.1);refine ak.sq fun ag=>.region<|.p (bK Z Z)<|.nil<|ag<|.sq fun ai=>.if rfl (fun aG=>?_) (fun aG=>?_)
 ·refine ak.skip<|ai<|.sq fun ap=>.block<|.sq fun ar=>.region ?_;obtain ⟨b3,b7,b0,br,aV,bl,bb,a9,aD,ac,aR,a4⟩:=bz.at (i:=j) ((a2 (k.getD (k.length - 1) 0)).le V) O2 O;refine Ops.p (al cQ cl Z a9 Z aD)<|.p (ah dK Z Z ac ((cb a4).trans (bJ O)))<|.I Z<|.nil<|ar<|.sq fun av=>.drawn [0,1,2,3,4,5,6,7,8,9,10,11,12] mixed Y Y Z<|.p Z (aK Z)<|.p Z (cW Z)<|.p Z (ae jx pX U Z) ?_;refine DOps.p Z (aK Z)<|.p Z (cW Z)<|.p Z (ae JE fw U Z)<|.p Z (ae dU ja U Z)<|.p Z (ah jj Z Z (V.g hb) Z)<|.p Z (aK Z) ?_;obtain ⟨b5,b8,b1,bu,aY,bm,bc,aa,aF,ad,aS,a5⟩:=bz.at (i:=((iu rs (k.getD (k.length - 1) 0)).getD j 0).toNat) (hr.le V) (by simp only [da];have:=hio O;omega) O;refine DOps.p Z (al o6 iW Z aa (go (by have:=hio O;omega)) aF)<|.p Z (ae gk fK U Z)<|.p Z (ah gK Z Z ad ((a5 0 U).trans (oM (by have:=hio O;omega))))<|.m Z (fun a7=>ax Z (XC b kv (num (g)) u rv (.map (some mb)) qv x6 x7 x8 x9 k ((rs.getD (((iu rs (k.getD (k.length - 1) 0)).getD j 0).toNat) .zero).left) _ _ A O (hlo O).2 (V.g hb) (hk.le V)) ?_);rintro bv A32 ⟨rfl,rfl⟩;refine a7 (bg.none Y)<|.done<|av<|.ifB Z (fun aI=>?_) (fun aI=>?_)
  ·refine ak.sq fun ay=>.region<|.J Z<|.I Z<|.nil<|ay<|.rt (by exact aH Z (⟨by (rw [Lq a1 ‹_› (hio O).2.2 hq ‹_›,<- (hio O).2.2];rfl),Z⟩))
  refine ak.skip<|ap<|.region<|.p (bk (b:=1) Z Z O)<|.J Z<|.nil ?_;exact ⟨j + 1,mc Z Z Z Z,Z,⟨⟨by omega,fun i h=>(XV.1 h).elim (hq i) (fun z=>by subst z;assumption)⟩,Z⟩,O1⟩
 refine ak.exit<|h4<|.sq fun az=>.region<|.I Z<|.nil<|az<|.rt (by exact aH Z (⟨by (rw [PO a1 O hq];rfl),Z⟩))
theorem Fz (w q:W8) (b:Nat) (x0 x1 x2 x3 x4 qv x6 x7 x8 x9:Value) (A0 A:AH) (aG:A0.le A) (ai:A0.wf) (hb:A.get b=some (.row true [x0,x1,x2,x3,x4,qv,x6,x7,x8,x9] 10)) (aP:A0.get b=none) (fr:Fresh A0 A qv 1 (aw q)) (aI:blk qv ≠ some b) (hn:w.length + q.length<=1000000):bH prog 139 #[.pointer (some ⟨b,0,none⟩),aM (w)] A (fun v A1=>∃ qv2,v=.tuple #[]/\A0.le A1/\A1.wf/\A1.get b=some (.row true [x0,x1,x2,x3,x4,qv2,x6,x7,x8,x9] 10)/\Fresh A0 A1 qv2 1 (aw (q ++ w.reverse))/\blk qv2 ≠ some b):=by
 refine aN (e:=[(0,.pointer (some ⟨b,0,none⟩)),(1,aM (w))]) (args:=[.pointer (some ⟨b,0,none⟩),aM (w)]) call139 func139 Z results139 ntmps139 Z Z Z (fun wf=>?_);refine ak.sq fun h2=>.region<|.J Z<|.p (cM u9 Z)<|.p (tL Z Z O)<|.I Z<|.nil<|h2<|.block<|.loop (X:=Nat × W8 × Value) (fun ⟨j,o,s⟩=>[(0,.pointer (some ⟨b,0,none⟩)),(1,aM (w)),(4,num ((j:Int) - 1))]) (fun ⟨j,o,s⟩ B=>(j<=w.length/\o=q ++ (w.drop j).reverse)/\A0.le B/\Fresh A0 B s 1 (aw o)/\B.get b=some (.row true [x0,x1,x2,x3,x4,s,x6,x7,x8,x9] 10)/\V.blk s ≠ some b) (fun ⟨j,o,s⟩=>j) (⟨w.length,q,qv⟩) (am.cons Z<|am.cons Z<|am.cons (Xk (fun z:Int=>some (num z)) O)<|am.nil _) (⟨⟨XX _,by simp⟩,aG,fr,hb,aI⟩) ?_;rintro ⟨j,o,s⟩ B4 ⟨⟨hj,ho⟩,ag,a5,a1,a2⟩;refine ak.wf fun ac=>?_;have hlo:o.length=q.length + (w.length - j):=by rw [ho];simp
 have htn:((j:Int) - 1).toNat=j - 1:=by omega
 refine ak.sq fun h7=>.sq fun h9=>.region<|.J Z<|.p (lu Z Z)<|.nil<|h9<|.if rfl (fun aR=>?_) (fun aR=>?_)
 ·refine ak.skip<|h7<|.sq fun aF=>.block<|.drawn [0,1,2,3,4,5,6,7,8,9,10,11,12] mixed Y Y Z<|.p Z (aK Z)<|.p Z (aK Z)<|.p Z (cW Z)<|.p Z (ae ml ic U Z) ?_;have ar:=cR (off:=5) a1 (show _=some (s) from rfl);refine DOps.p Z (ah kZ Z Z a1 Z)<|.p Z (aK Z)<|.p Z (aK Z)<|.p Z (ng u9 Z (go O) O)<|.m Z (fun ay=>aE (c:=[dT (w.getD ((j:Int) - 1).toNat 0)]) ac rfl (aq db lQ z5 rfl U U rfl) fun A16 aT a0=>?_);have aD:=ne_new ac a1 a0.lo;have ad:=a0.le.g a1;have a7:=a5.le a0.le;have av:=bI a0.le ar;refine ay (bg.list (L:=[(⟨b,5,none⟩,s)]) Y (bf av bX))<|.m Z (fun az=>cm (ys:=[dT (w.getD ((j:Int) - 1).toNat 0)]) rfl rfl db lQ vL z5 rfl U db (fun _ h=>by cases h) a7.own (bG (n:=1) a0.get Z) rfl rfl (by show (_ + _) * 1<=_;simp only [be,Xq,Xx];(try simp only [Xz,Xq,Xx]);omega) On fun A24 aV a3=>?_);rw [show ([dT (w.getD ((j:Int) - 1).toNat 0)]:List Value)=aw [w.getD ((j:Int) - 1).toNat 0] from rfl,fA] at a3;obtain ⟨a8,aB⟩:=Fresh.grow a7 (ag.trans a0.le) ai a3;have aa:=a3.ne a2 a0.wf ad;refine az (bg.none Y)<|.p Z (cW Z)<|.p Z (ae ml ic U Z) ?_;obtain ⟨ab,a9,a6,aS,_⟩:=a8.own.slice;subst aS;refine DOps.m Z (fun aA=>aU (cs:=[.slice ab a9 a6]) (c':=[x0,x1,x2,x3,x4,.slice ab a9 a6,x6,x7,x8,x9]) a3.wf rfl rfl rfl rfl ic (a3.keep a2 ad) G rfl rfl fun A36 a4=>?_);have ap:=a8.keep a4.keep aa;have aC:=an aB ai aP a4.n a4.keep;refine aA (bg.none Y)<|.done<|aF<|.region<|.J Z<|.p (tL Z Z O)<|.I Z<|.nil ?_;exact ⟨⟨j - 1,o ++ [w.getD ((j:Int) - 1).toNat 0],.slice ab a9 a6⟩,am.cons Z<|am.cons Z<|am.cons (Xk (fun z:Int=>some (num z)) O)<|am.nil _,Z,⟨⟨by omega,by rw [ho,htn,Tk,RP O hj]⟩,aC,ap,a4.get,aa⟩,O1⟩
 refine ak.exit ?_;repeat first | with_reducible refine cz ?_ | with_reducible refine cj ?_
 repeat first | with_reducible refine f5 ?_ | with_reducible refine fc ?_ | with_reducible refine eh U ?_ | with_reducible refine ei ?_ | with_reducible refine dA ?_
 exact zD (vs:=[]) Z (⟨_,Z,ag,ac,a1,ci a5 (Xk aw (by rw [ho,show j=0 by omega];rfl)),a2⟩)
theorem s_use (zi:Int) (i:Nat) (hzi:zi=(i:Int)) (rs:List aQ) (k q:W8) (d:List ca) (n m:Nat) (b0:Nat) (kv:Value) (g:Int) (u rv:Value) (mb:Nat) (qv x7 dv:Value) (A0 A:AH) (bV:A0.le A) (aD:A0.wf) (hb:A.get b0=some (.row true [kv,num g,u,rv,.map (some mb),qv,num ((m:Nat):Int),x7,num ((n:Nat):Int),dv] 10)) (bb:A0.get b0=none) (frk:Fresh A0 A kv 1 (aw k)) (frq:Fresh A0 A qv 1 (aw q)) (frd:Fresh A0 A dv 3 (cN d)) (nk:blk kv ≠ some b0) (nq:blk qv ≠ some b0) (nd:blk dv ≠ some b0) (skq:aL kv qv) (skd:aL kv dv) (sqd:aL qv dv) (hi:i < rs.length/\rs.length<=1000000) (hx:(rs.getD i .zero).left.length<=k.length/\0 < (rs.getD i .zero).left.length/\k.length<=100000/\(rs.getD i .zero).right.length + q.length<=100000) (hd:d.length<=100000/\n<=20000/\m<=1000000/\(rs.getD i .zero).proof.length<=100000/\dN (rs.getD i .zero).proof<=1000000) (hL:iB A0) (hr:bz A0 3 rv (dh rs)) (hp:Proofs A0 rs):z7 prog 142 #[.pointer (some ⟨b0,0,none⟩),num (zi)] A (fun v A1=>∃ kv2 qv2 dv2,v=.tuple #[]/\A0.le A1/\A1.wf/\A1.get b0=some (.row true [kv2,num g,u,rv,.map (some mb),qv2,num ((m + dN (qh (k.take (k.length - (rs.getD i .zero).left.length)) (rs.getD i .zero).proof):Nat):Int),x7,num ((n + 1:Nat):Int),dv2] 10)/\Fresh A0 A1 kv2 1 (aw (k.take (k.length - (rs.getD i .zero).left.length)))/\Fresh A0 A1 qv2 1 (aw (q ++ (rs.getD i .zero).right.reverse))/\Fresh A0 A1 dv2 3 (cN (d ++ (qh (k.take (k.length - (rs.getD i .zero).left.length)) (rs.getD i .zero).proof)))/\blk kv2 ≠ some b0/\blk qv2 ≠ some b0/\blk dv2 ≠ some b0/\aL kv2 qv2/\aL kv2 dv2/\aL qv2 dv2/\GT (rs.getD i .zero) k n d m) (fun ch A1=>¬ GT (rs.getD i .zero) k n d m/\ch=[{ v:=.iface 149 (.agg #[]),recovered:=false }]/\A0.le A1/\A1.wf/\∃ y0 y5 y6 y7 y8 y9,A1.get b0=some (.row true [y0,num g,u,rv,.map (some mb),y5,y6,y7,y8,y9] 10)):=by
 refine Py (e:=[(0,.pointer (some ⟨b0,0,none⟩)),(1,num (zi))]) (args:=[.pointer (some ⟨b0,0,none⟩),num (zi)]) call142 func142 Z results142 ntmps142 Z Z Z (fun wf=>?_);subst hzi;refine ak.sq fun h2=>.region<|.J Z<|.p (cW Z)<|.p (ae JE fw U Z)<|.p (ae dU ja U Z)<|.p (ah jj Z Z hb Z)<|.J Z ?_;obtain ⟨b3,f3,fv,r3,ft,n3,k3,e3,l3,g3,eA,fm⟩:=bz.at (i:=i) (hr.le bV) Ow O;refine Ops.p (al o6 iW Z e3 Z l3)<|.p (ao wB iW Z Z g3 (eA.trans (Xk some (ju O))))<|.m (fun eX=>co wf NX rfl fun A6 b5 ay=>?_);have ap:=ne_new wf hb ay.lo;have dV:=frk.own.ne_new wf ay.lo;have dW:=frq.own.ne_new wf ay.lo;refine eX<|.m (fun eb=>aU (cs:=[aM ((rs.getD i .zero).left),aM ((rs.getD i .zero).right),(rs.getD i .zero).pv]) (c':=[aM ((rs.getD i .zero).left),aM ((rs.getD i .zero).right),(rs.getD i .zero).pv]) ay.wf rfl rfl rfl rfl iW ay.get G (lr (hp.get hi.1)) rfl fun A17 av=>?_);have eE:=av.k ap (ay.le.g hb);have bA:=(frk.le ay.le).keep av.keep dV;have bB:=(frq.le ay.le).keep av.keep dW;have bC:=(frd.le ay.le).keep av.keep (frd.own.ne_new wf ay.lo);refine eb<|.nil<|h2<|.sq fun eG=>.drawn [0,1,2,3,4,5,6] mixed Y Y Z<|.p Z (aK Z)<|.p Z (cW Z)<|.p Z (ae jx pX U Z)<|.p Z (ae gk fK U Z)<|.p Z (ah gK Z Z av.get Z) ?_;refine DOps.p Z (cM u9 Z) ?_;have bT:=cy (bs:=[some b0,blk kv]) (an (bV.trans ay.le) aD (bh aD (Xj bV.n ay.lo)) av.n av.keep) (yn bb (uo bA.lo rK));refine DOps.m Z (fun ec=>ax Z (Kq (((rs.getD i .zero).left).length) k b0 kv (num (g)) u rv (.map (some mb)) qv (num ((m:Nat):Int)) x7 (num ((n:Nat):Int)) dv (A17.hide [some b0,blk kv]) A17 (cL A17 [some b0,blk kv]) (cx av.wf) eE (cD (by simp)) (bA.hide (by simp)) nk O) ?_);rintro fD A30 ⟨a5,rfl,aS,dG,bd,aF,a8⟩;have e9:=ce (bs:=[some b0,blk kv]) av.get (rP ap.symm (px dV nZ));have dJ:=aS.g e9;have c3:=aF.sep bB.own (ln nq (j8 skq lm));have bD:=bB.off (ln nq (j8 skq lm)) aS;have ex:=aF.sep bC.own (ln nd (j8 skd lm));have bL:=bC.off (ln nd (j8 skd lm)) aS;have bM:=aF.base bT;refine ec (bg.none Y)<|.done<|eG<|.sq fun eK=>.region<|.J Z<|.p (ae kx fK U Z)<|.p (ah gK Z Z dJ Z) ?_;have bU:=cy (bs:=[some b0,blk qv]) (bT.trans aS) (yn bb (uo bD.lo rK));refine Ops.m (fun ee=>ax Z (Fz ((rs.getD i .zero).right) q b0 a5 (num (g)) u rv (.map (some mb)) qv (num ((m:Nat):Int)) x7 (num ((n:Nat):Int)) dv (A30.hide [some b0,blk qv]) A30 (cL A30 [some b0,blk qv]) (cx dG) bd (cD (by simp)) (bD.hide (by simp)) nq O) ?_);rintro fE A46 ⟨a9,rfl,aT,dI,aV,aG,aC⟩;have ea:=ce (bs:=[some b0,blk qv]) dJ (rP ap.symm (px dW nZ));have ey:=aG.sep bL.own (ln nd (j8 sqd lm));have ez:=aG.sep bM.own (ln a8 (j8 (aL.symm c3) lm));refine ee<|.nil<|eK<|.sq fun eL=>.region<|.J Z<|.p (cW Z)<|.p (ae mn jb U Z)<|.p (ae uJ cl U Z)<|.p (ah dK Z Z aV Z) ?_;refine Ops.p (bk (b:=1) Z Z O)<|.p (cW Z)<|.p (ae mn jb U Z)<|.p (ae uJ cl U Z)<|.m (fun eg=>aU (cs:=[num ((n + 1:Nat):Int)]) (c':=[a5,num (g),u,rv,.map (some mb),a9,num ((m:Nat):Int),x7,num ((n + 1:Nat):Int),dv]) dI rfl rfl rfl rfl cl aV G rfl rfl fun A61 a3=>?_);have dO:=a3.k ap.symm (aT.g ea);have bO:=(bL.off (ln nd (j8 sqd lm)) aT).keep a3.keep nd;have bP:=(bM.off (ln a8 (j8 (aL.symm c3) lm)) aT).keep a3.keep a8;have e0:=(aG.base bU).keep a3.keep aC;have aY:=an (bU.trans aT) aD bb a3.n a3.keep;refine eg<|.nil<|eL<|.sq fun eM=>.sq fun dS=>.drawn [0,1,2,3,4,5,6,7,8,9,10,11,12,13,14,15,16,17,18] mixed Y Y Z<|.p Z (aK Z)<|.p Z (cW Z)<|.p Z (ae mn jb U Z)<|.p Z (ae uJ cl U Z) ?_;refine DOps.p Z (ah dK Z Z a3.get Z)<|.p Z (ej (b:=20000) Z Z)<|.p Z (aK Z)<|.part (t:=42) Z (fun eZ=>?_) (fun eZ=>?_)
 ·refine DOps.qOff Z Z Z Z Z Z<|.qOff Z Z Z Z Z Z<|.qOff Z Z Z Z Z Z<|.qOff Z Z Z Z Z Z<|.qOff Z Z Z Z Z Z<|.qOff Z Z Z Z Z Z<|.qOff Z Z Z Z Z Z<|.qOff Z Z Z Z Z Z<|.qOff Z Z Z Z Z Z<|.qOff Z Z Z Z Z Z ?_;refine DOps.qOff Z Z Z Z Z Z<|.p Z (aJ Z Z)<|.done<|dS<|.cond_true Z<|.region<|.p (dn Z (bE FW Uo JX Z))<|.iface FW Z Z<|.panicI Z ?_;(repeat first | with_reducible refine lR ?_ | with_reducible refine jY ?_ | with_reducible refine jr ?_);exact Rg (⟨by exact YP ‹_›,Z,aY,a3.wf,_,_,_,_,_,_,a3.get⟩)
 refine DOps.qOn Z Z Z Z Z (aK Z)<|.qOn Z Z Z Z Z (cW Z)<|.qOn Z Z Z Z Z (ae mn jb U Z)<|.qOn Z Z Z Z Z (ae GU rc U Z)<|.qOn Z Z Z Z Z (ah uv Z Z a3.get Z)<|.qOn Z Z Z Z Z (bx (n:=d.length) vA Z bO.slc O (eJ _))<|.qOn Z Z Z Z Z (ae pm rc U Z)<|.qOn Z Z Z Z Z (ah uv Z Z dO Z)<|.qOn Z Z Z Z Z (bx (n:=((rs.getD i .zero).proof).length) vA Z ((hp.get hi.1).le aY) O (eJ _))<|.qOn Z Z Z Z Z (bk Z Z O) ?_;refine DOps.qOn Z Z Z Z Z (ej (b:=100000) Z Z)<|.p Z (aO Z Z)<|.done<|dS<|.if rfl (fun f0=>?_) (fun f0=>?_)
 ·refine ak.region<|.p (dn Z (bE FW Uo JX Z))<|.iface FW Z Z<|.panicI Z ?_;(repeat first | with_reducible refine lR ?_ | with_reducible refine jY ?_ | with_reducible refine jr ?_);exact Rg (⟨by exact YQ ‹_›,Z,aY,a3.wf,_,_,_,_,_,_,a3.get⟩)
 refine ak.skip<|eM<|.sq fun eN=>.region<|.J Z<|.p (cW Z)<|.p (ae jx pX U Z)<|.p (ae iY ic U Z)<|.p (ah kZ Z Z a3.get Z)<|.m (fun ek=>fb (s:=k.take (k.length - (((rs.getD i .zero).left).length))) Z db u9 u5 bP.slc ?_);refine ek<|.I Z<|.nil<|eN<|.sq fun eQ=>.region<|.p (ae pm rc U Z)<|.p (ah uv Z Z dO Z)<|.p (bx (n:=((rs.getD i .zero).proof).length) vA Z ((hp.get hi.1).le aY) O (eJ _))<|.J Z ?_;refine Ops.nil<|eQ<|.block<|.loop (X:=Nat × List ca × Nat × Value) (fun ⟨j,D,mm,dw⟩=>[(0,.pointer (some ⟨b0,0,none⟩)),(5,aM (k.take (k.length - (((rs.getD i .zero).left).length)))),(64,(rs.getD i .zero).pv),(65,num ((((rs.getD i .zero).proof).length:Nat):Int)),(66,num ((j:Nat):Int))]) (fun ⟨j,D,mm,dw⟩ B=>(j<=(rs.getD i .zero).proof.length/\D=d ++ pre (k.take (k.length - (rs.getD i .zero).left.length)) (rs.getD i .zero).proof j/\mm=m + dN (pre (k.take (k.length - (rs.getD i .zero).left.length)) (rs.getD i .zero).proof j)/\mm<=1000000/\∀ i2,i2 < j->(k.take (k.length - (rs.getD i .zero).left.length)).length + ((rs.getD i .zero).proof.getD i2 .zero).conj.length<=100000)/\A0.le B/\Fresh A0 B dw 3 (cN D)/\Fresh A0 B a5 1 (aw (k.take (k.length - (((rs.getD i .zero).left).length))))/\Fresh A0 B a9 1 (aw (q ++ ((rs.getD i .zero).right).reverse))/\B.get b0=some (.row true [a5,num (g),u,rv,.map (some mb),a9,num ((mm:Nat):Int),x7,num ((n + 1:Nat):Int),dw] 10)/\V.blk dw ≠ some b0/\V.blk a5 ≠ some b0/\V.blk a9 ≠ some b0/\aL dw a5/\aL dw a9/\aL a5 a9) (fun ⟨j,D,mm,dw⟩=>(rs.getD i .zero).proof.length - j) (⟨0,d,m,dv⟩) (nR Z Z Z Z Z) (⟨⟨XZ _,by simp [pre],by simp [pre,dN],hd.2.2.1,fun i2 h=>by omega⟩,aY,bO,bP,e0,a3.get,nd,a8,aC,(aL.symm ex),(aL.symm ey),(aL.symm ez)⟩) ?_;rintro ⟨j,D,mm,dw⟩ B80 ⟨⟨hj,hD,hmm,hml,hq⟩,b7,aI,ad,ag,aP,ar,a0,a1,aA,aB,aZ⟩;refine ak.wf fun aR=>?_;have hDl:D.length=d.length + j:=by rw [hD,Xz,Wr hj]
 have hck:=fun z:j < (rs.getD i .zero).proof.length=>U7 (aX (d:=ca.zero) z);have hpc:=fun z:j < (rs.getD i .zero).proof.length=>Eu (p:=(k.take (k.length - (rs.getD i .zero).left.length))) z;have hps:=fun z:j < (rs.getD i .zero).proof.length=>Ew (p:=(k.take (k.length - (rs.getD i .zero).left.length))) z;have hwr:=yb ((k.take (k.length - (rs.getD i .zero).left.length)) ++ ((rs.getD i .zero).proof.getD j .zero).conj);have hkp:(k.take (k.length - (rs.getD i .zero).left.length)).length<=k.length:=by simp
 have hla:=@Xz _ (k.take (k.length - (rs.getD i .zero).left.length)) ((rs.getD i .zero).proof.getD j .zero).conj;refine ak.sq fun eR=>.region<|.p (bK Z Z)<|.nil<|eR<|.sq fun eS=>.if rfl (fun f1=>?_) (fun f1=>?_)
 ·refine ak.skip<|eS<|.sq fun eT=>.block<|.sq fun eV=>.region ?_;obtain ⟨fe,fn,f7,fr,f6,fq,fo,eB,eY,eC,dZ,f4⟩:=bz.at (i:=j) ((hp.get hi.1).le b7) OJ O;refine Ops.p (al vA mu Z eB Z eY)<|.p (ao CY mu Z Z eC (dZ.trans (Xk some (jH O))))<|.m (fun em=>co aR Yi rfl fun A94 fl a7=>?_);have az:=ne_new aR aP a7.lo;have bl:=aI.own.ne_new aR a7.lo;have bY:=ad.own.ne_new aR a7.lo;have c0:=ag.own.ne_new aR a7.lo;have ba:=bh aD (Xj b7.n a7.lo);refine em<|.m (fun cZ=>aU (cs:=[aM ((((rs.getD i .zero).proof).getD j .zero).conj),num ((((rs.getD i .zero).proof).getD j .zero).rel),.bool ((((rs.getD i .zero).proof).getD j .zero).inv)]) (c':=[aM ((((rs.getD i .zero).proof).getD j .zero).conj),num ((((rs.getD i .zero).proof).getD j .zero).rel),.bool ((((rs.getD i .zero).proof).getD j .zero).inv)]) a7.wf rfl rfl rfl rfl mu a7.get G rfl rfl fun A105 a6=>?_);have bR:=a6.k az (a7.le.g aP);have c7:=(aI.le a7.le).keep a6.keep bl;have cc:=(ad.le a7.le).keep a6.keep bY;have ck:=(ag.le a7.le).keep a6.keep c0;have b6:=an (b7.trans a7.le) aD ba a6.n a6.keep;refine cZ<|.nil<|eV<|.sq fun e1=>.sq fun e2=>.region<|.J Z<|.p (cM u9 Z)<|.p (ae ky fK U Z)<|.p (ah gK Z Z a6.get Z) ?_;refine Ops.p (cM u9 Z)<|.p (bk Z Z O)<|.p (ej (b:=100000) Z Z)<|.nil<|e2<|.if rfl (fun en=>?_) (fun en=>?_)
  ·refine ak.region<|.p (dn Z (bE FW Uo JX Z))<|.iface FW Z Z<|.panicI Z ?_;(repeat first | with_reducible refine lR ?_ | with_reducible refine jY ?_ | with_reducible refine jr ?_);exact Rg (⟨by exact YR O ‹_›,Z,b6,a6.wf,_,_,_,_,_,_,bR⟩)
  refine ak.skip<|e1<|.sq fun e4=>.region<|.J Z<|.p (ae ky fK U Z)<|.p (ah gK Z Z a6.get Z)<|.p (rU Z Z O)<|.m (fun d0=>ax Z (tX ((k.take (k.length - (((rs.getD i .zero).left).length))) ++ ((((rs.getD i .zero).proof).getD j .zero).conj)) A105 O (hL.le b6)) ?_);rintro f9 A121 ⟨rfl,ai,c4⟩;refine d0<|.p (ae ky fK U Z)<|.m (fun d1=>aU (cs:=[aM (c8 ((k.take (k.length - (((rs.getD i .zero).left).length))) ++ ((((rs.getD i .zero).proof).getD j .zero).conj)))]) (c':=[aM (c8 ((k.take (k.length - (((rs.getD i .zero).left).length))) ++ ((((rs.getD i .zero).proof).getD j .zero).conj))),num ((((rs.getD i .zero).proof).getD j .zero).rel),.bool ((((rs.getD i .zero).proof).getD j .zero).inv)]) c4 rfl rfl rfl rfl fK (ai.g a6.get) G rfl rfl fun A130 aa=>?_);have bc:=aa.k az (ai.g bR);have ct:=(c7.le ai).keep aa.keep bl;have cv:=(cc.le ai).keep aa.keep bY;have cC:=(ck.le ai).keep aa.keep c0;refine d1<|.nil<|e4<|.sq fun e5=>.drawn [0,1,2,3,4,5,6,7,8,9,10,11,12] mixed Y Y Z<|.p Z (aK Z)<|.p Z (aK Z)<|.p Z (cW Z)<|.p Z (ae mn jb U Z)<|.p Z (ae GU rc U Z) ?_;have cV:=cR (off:=9) bc (show _=some (dw) from rfl);refine DOps.p Z (ah uv Z Z bc Z)<|.p Z (ao CY mu Z Z aa.get Z)<|.m Z (fun d2=>aE (c:=[aM (c8 ((k.take (k.length - (((rs.getD i .zero).left).length))) ++ ((((rs.getD i .zero).proof).getD j .zero).conj))),num ((((rs.getD i .zero).proof).getD j .zero).rel),.bool ((((rs.getD i .zero).proof).getD j .zero).inv)]) aa.wf rfl (aq vA mu Yi rfl U U rfl) fun A145 f2 a2=>?_);have bS:=a2.le.g bc;have bm:=ct.le a2.le;have bp:=cv.le a2.le;have br:=cC.le a2.le;have cX:=bI a2.le cV;refine d2 (bg.list (L:=[(⟨b0,9,none⟩,dw)]) Y (bf cX bX))<|.m Z (fun d3=>cm (ys:=[aM (c8 ((k.take (k.length - (((rs.getD i .zero).left).length))) ++ ((((rs.getD i .zero).proof).getD j .zero).conj))),num ((((rs.getD i .zero).proof).getD j .zero).rel),.bool ((((rs.getD i .zero).proof).getD j .zero).inv)]) rfl rfl vA mu inf85 Yi rfl U vA (fun _ h=>by cases h) bm.own (bG (n:=1) a2.get Z) rfl rfl (by show (_ + _) * 32<=_;simp only [ed,Xq,Xx];(try simp only [Xz,Xq,Xx]);omega) (by simp only [ed,Xq,Xx];(try simp only [Xz,Xq,Xx]);omega) fun A161 fd a4=>?_);rw [show ([aM (c8 ((k.take (k.length - (((rs.getD i .zero).left).length))) ++ ((((rs.getD i .zero).proof).getD j .zero).conj))),num ((((rs.getD i .zero).proof).getD j .zero).rel),.bool ((((rs.getD i .zero).proof).getD j .zero).inv)]:List Value)=cN [⟨c8 ((k.take (k.length - (((rs.getD i .zero).left).length))) ++ ((((rs.getD i .zero).proof).getD j .zero).conj)),(((rs.getD i .zero).proof).getD j .zero).rel,(((rs.getD i .zero).proof).getD j .zero).inv⟩] from rfl,yz] at a4;obtain ⟨bu,dj⟩:=Fresh.grow bm ((an (b6.trans ai) aD ba aa.n aa.keep).trans a2.le) aD a4;have b8:=a4.ne ar a2.wf bS;have dz:=aL.appd (show aL dw a5 from aA) bp.own a2.wf a4;have dD:=aL.appd (show aL dw a9 from aB) br.own a2.wf a4;refine d3 (bg.none Y)<|.p Z (cW Z)<|.p Z (ae mn jb U Z)<|.p Z (ae GU rc U Z) ?_;obtain ⟨b9,b2,b1,ev,_⟩:=bu.own.slice;subst ev;refine DOps.m Z (fun dd=>aU (cs:=[.slice b9 b2 b1]) (c':=[a5,num (g),u,rv,.map (some mb),a9,num ((mm:Nat):Int),x7,num ((n + 1:Nat):Int),.slice b9 b2 b1]) a4.wf rfl rfl rfl rfl rc (a4.keep ar bS) G rfl rfl fun A179 ab=>?_);have cH:=(bp.appd a4 aA).keep ab.keep a0;have cK:=(br.appd a4 aB).keep ab.keep a1;refine dd (bg.none Y)<|.done<|e5<|.sq fun e6=>.drawn [0,1,2,3,4,5,6,7,8,9,10] mixed Y Y Z<|.p Z (aK Z)<|.p Z (cW Z)<|.p Z (ae vU cl U Z)<|.p Z (ah dK Z Z ab.get Z)<|.p Z (ae ky fK U Z) ?_;refine DOps.p Z (ah gK Z Z (ab.k az.symm (a4.keep bl (a2.le.g aa.get))) Z)<|.p Z (cM u9 Z)<|.p Z (bk Z Z O)<|.p Z (cW Z)<|.p Z (ae vU cl U Z)<|.m Z (fun di=>aU (cs:=[num ((mm + ((c8 ((k.take (k.length - (((rs.getD i .zero).left).length))) ++ ((((rs.getD i .zero).proof).getD j .zero).conj))).length):Nat):Int)]) (c':=[a5,num (g),u,rv,.map (some mb),a9,num ((mm + ((c8 ((k.take (k.length - (((rs.getD i .zero).left).length))) ++ ((((rs.getD i .zero).proof).getD j .zero).conj))).length):Nat):Int),x7,num ((n + 1:Nat):Int),.slice b9 b2 b1]) ab.wf rfl rfl rfl rfl cl ab.get G rfl rfl fun A191 ac=>?_);have cP:=cH.keep ac.keep a0;have cS:=cK.keep ac.keep a1;have cT:=(bu.keep ab.keep b8).keep ac.keep b8;have bv:=an (an dj aD bb ab.n ab.keep) aD bb ac.n ac.keep;refine di (bg.none Y)<|.done<|e6<|.sq fun e7=>.region<|.J Z<|.p (cW Z)<|.p (ae vU cl U Z)<|.p (ah dK Z Z ac.get Z)<|.p (ej (b:=1000000) Z Z) ?_;refine Ops.nil<|e7<|.if rfl (fun er=>?_) (fun er=>?_)
  ·refine ak.region<|.p (dn Z (bE FW Uo JX Z))<|.iface FW Z Z<|.panicI Z ?_;(repeat first | with_reducible refine lR ?_ | with_reducible refine jY ?_ | with_reducible refine jr ?_);exact Rg (⟨by exact YU (j:=j + 1) (by rw [Eu O];omega),Z,bv,ac.wf,_,_,_,_,_,_,ac.get⟩)
  refine ak.skip<|eT<|.region<|.p (bk (b:=1) Z Z O)<|.J Z<|.nil ?_;exact ⟨⟨j + 1,D ++ [⟨c8 ((k.take (k.length - (((rs.getD i .zero).left).length))) ++ ((((rs.getD i .zero).proof).getD j .zero).conj)),(((rs.getD i .zero).proof).getD j .zero).rel,(((rs.getD i .zero).proof).getD j .zero).inv⟩],mm + ((c8 ((k.take (k.length - (((rs.getD i .zero).left).length))) ++ ((((rs.getD i .zero).proof).getD j .zero).conj))).length),.slice b9 b2 b1⟩,nR Z Z Z Z Z,Z,⟨⟨by omega,by rw [hps O,hD,Tk],by have:=hpc O;omega,by omega,fun i2 h=>(XV.1 h).elim (hq i2) (fun z=>by subst z;omega)⟩,bv,cT,cP,cS,ac.get,b8,a0,a1,dz,dD,aZ⟩,O1⟩
 refine ak.exit ?_;repeat first | with_reducible refine cz ?_ | with_reducible refine cj ?_
 repeat first | with_reducible refine f5 ?_ | with_reducible refine fc ?_ | with_reducible refine eh U ?_ | with_reducible refine ei ?_ | with_reducible refine dA ?_
 exact retEn (vs:=[]) Z (⟨_,_,_,Z,b7,aR,xz aP (by rw [hmm,(BK O hq).1]),ad,ag,ci aI (Xk cN (by rw [hD,(BK O hq).1])),a0,a1,ar,aZ,(aL.symm aA),(aL.symm aB),YV ‹_› ‹_› O hq O⟩)
theorem ZP (w:W8) (rs:List aQ) (l:List W8) (b0:Nat) (g:Int) (u rv:Value) (mb:Nat) (x0 x5 x6 x7 x8 x9:Value) (A0 A:AH) (e4:A0.le A) (aI:A0.wf) (hb:A.get b0=some (.row true [x0,num g,u,rv,.map (some mb),x5,x6,x7,x8,x9] 10)) (aG:A0.get b0=none) (hs:bN g l rs=true) (hwl:w.length<=20000) (hL:iB A0) (hr:bz A0 3 rv (dh rs)) (hp:Proofs A0 rs) (hI:nF A0 mb rs):z7 prog 106 #[.pointer (some ⟨b0,0,none⟩),aM (w)] A (fun v A1=>∃ dv2 y0 y5 y6 y7 y8 y9,v=.agg #[aM (gJ (oH rs w)).word,num (((gJ (oH rs w)).steps:Nat):Int),dv2]/\A0.le A1/\A1.wf/\A1.get b0=some (.row true [y0,num g,u,rv,.map (some mb),y5,y6,y7,y8,y9] 10)/\Fresh A0 A1 dv2 3 (cN (gJ (oH rs w)).disk)/\blk dv2 ≠ some b0/\(oH rs w).isSome=true) (fun ch A1=>oH rs w=none/\ch=[{ v:=.iface 149 (.agg #[]),recovered:=false }]/\A0.le A1/\A1.wf/\∃ y0 y5 y6 y7 y8 y9,A1.get b0=some (.row true [y0,num g,u,rv,.map (some mb),y5,y6,y7,y8,y9] 10)):=by
 refine Py (e:=[(0,.pointer (some ⟨b0,0,none⟩)),(1,aM (w))]) (args:=[.pointer (some ⟨b0,0,none⟩),aM (w)]) call106 func106 Z results106 ntmps106 Z Z Z (fun wf=>?_);refine ak.seq fun _ h2=>.region<|.m (fun fo=>co wf Kz rfl fun A5 b4 bm=>?_);have a1:=ne_new wf hb bm.lo;refine fo<|.nil<|h2 _ _<|.sq fun eZ=>.region<|.J Z<|.J Z<|.J Z<|.J Z<|.p (dn Z (bE u37 Kz Wa Z)) ?_;refine Ops.p (cW Z)<|.p (ae jx pX U Z)<|.p (ae iY ic U Z)<|.m (fun er=>aU (cs:=[.slice none 0 0]) (c':=[.slice none 0 0,num (g),u,rv,.map (some mb),x5,x6,x7,x8,x9]) bm.wf rfl rfl rfl rfl ic (bm.le.g hb) G rfl rfl fun A12 b3=>?_);refine er<|.p (cW Z)<|.p (ae ml ic U Z)<|.m (fun ev=>aU (cs:=[.slice none 0 0]) (c':=[.slice none 0 0,num (g),u,rv,.map (some mb),.slice none 0 0,x6,x7,x8,x9]) b3.wf rfl rfl rfl rfl ic b3.get G rfl rfl fun A17 b5=>?_);refine ev<|.p (cW Z)<|.p (ae vU cl U Z)<|.m (fun ex=>aU (cs:=[num ((0:Nat):Int)]) (c':=[.slice none 0 0,num (g),u,rv,.map (some mb),.slice none 0 0,num ((0:Nat):Int),x7,x8,x9]) b5.wf rfl rfl rfl rfl cl b5.get G rfl rfl fun A22 b6=>?_);refine ex<|.p (cW Z)<|.p (ae mn jb U Z)<|.m (fun ey=>aU (cs:=[aM ([]),num ((0:Nat):Int),.slice none 0 0]) (c':=[.slice none 0 0,num (g),u,rv,.map (some mb),.slice none 0 0,num ((0:Nat):Int),aM ([]),num ((0:Nat):Int),.slice none 0 0]) b6.wf rfl rfl rfl rfl jb b6.get G rfl rfl fun A27 b7=>?_);refine ey<|.nil<|eZ<|.sq fun f0=>.region<|.J Z<|.J Z ?_;have cC:=Fresh.nil A0 A27 1;have d1:=cy (bs:=[some b0,blk (.slice none 0 0)]) (an (an (an (an (e4.trans bm.le) aI aG b3.n b3.keep) aI aG b5.n b5.keep) aI aG b6.n b6.keep) aI aG b7.n b7.keep) (yn aG (uo cC.lo rK));refine Ops.m (fun ez=>ax Z (Fz w ([]) b0 (.slice none 0 0) (num (g)) u rv (.map (some mb)) (.slice none 0 0) (num ((0:Nat):Int)) (aM ([])) (num ((0:Nat):Int)) (.slice none 0 0) (A27.hide [some b0,blk (.slice none 0 0)]) A27 (cL A27 [some b0,blk (.slice none 0 0)]) (cx b7.wf) b7.get (cD (by simp)) (cC.hide (by simp)) (fun q=>by cases q) Or) ?_);rintro gm A37 ⟨e2,rfl,c4,fM,bS,bb,bv⟩;have cT:=ce (bs:=[some b0,blk (.slice none 0 0)]) (b7.k a1.symm (b6.k a1.symm (b5.k a1.symm (b3.k a1.symm bm.get)))) (rP a1.symm (px (fun q=>by cases q) nZ));have f1:=c4.g cT;have e7:=bb.base d1;have eG:=bb.seph cT;have eC:=d1.trans c4;refine ez<|.nil<|f0<|.sq fun f2=>.block<|.loop (X:=W8 × W8 × Nat × List ca × Nat × Nat × Value × Value × Value) (fun ⟨q,k,n,d,m,f,kv,qv,dv⟩=>[(0,.pointer (some ⟨b0,0,none⟩)),(4,.pointer (some ⟨b4,0,none⟩))]) (fun ⟨q,k,n,d,m,f,kv,qv,dv⟩ B=>(kb rs f ⟨q,k,n,d,m⟩=kb rs zd (start w)/\q.length + k.length<=w.length/\n<=20000/\d.length<=100000/\m<=1000000/\(20000 - n) * 100001 + q.length < f)/\A0.le B/\Fresh A0 B kv 1 (aw k)/\Fresh A0 B qv 1 (aw q)/\Fresh A0 B dv 3 (cN d)/\B.get b0=some (.row true [kv,num (g),u,rv,.map (some mb),qv,num ((m:Nat):Int),aM ([]),num ((n:Nat):Int),dv] 10)/\B.get b4=some (.row true [aM ([]),num ((0:Nat):Int),.slice none 0 0] 3)/\V.blk kv ≠ some b0/\V.blk qv ≠ some b0/\V.blk dv ≠ some b0/\V.blk kv ≠ some b4/\V.blk qv ≠ some b4/\V.blk dv ≠ some b4/\aL kv qv/\aL kv dv/\aL qv dv) (fun ⟨q,k,n,d,m,f,kv,qv,dv⟩=>f) (⟨w.reverse,[],0,[],0,zd,.slice none 0 0,e2,.slice none 0 0⟩) (kg Z Z) (⟨⟨Z,by simp,by omega,by simp,by omega,by have h1:w.length<=20000:=hwl;simp only [List.length_reverse];unfold zd;omega⟩,eC,(Fresh.nil A0 A37 1),(ci e7 (Xk aw ((by rfl)))),(Fresh.nil A0 A37 3),bS,f1,(fun q=>by cases q),bv,(fun q=>by cases q),(fun q=>by cases q),eG,(fun q=>by cases q),aL.nil,aL.nil,(aL.symm aL.nil)⟩) ?_;rintro ⟨q,k,n,d,m,f,kv,qv,dv⟩ B48 ⟨⟨hrun,hlen,hn,hd,hm,hf⟩,d2,bd,ad,bc,a3,bl,ac,a2,a0,ar,av,ab,aA,aB,aP⟩;refine ak.wf fun dw=>?_;have hrf:=fun z:¬ cn rs (k ++ [q.getD (q.length - 1) 0]) < 0=>R8 hs z;have hkl:(k ++ [q.getD (q.length - 1) 0]).length=k.length + 1:=by simp
 have hmv:(qh ((k ++ [q.getD (q.length - 1) 0]).take ((k ++ [q.getD (q.length - 1) 0]).length - (rs.getD (cn rs (k ++ [q.getD (q.length - 1) 0])).toNat .zero).left.length)) (rs.getD (cn rs (k ++ [q.getD (q.length - 1) 0])).toNat .zero).proof).length<=(rs.getD (cn rs (k ++ [q.getD (q.length - 1) 0])).toNat .zero).proof.length:=DX _ _;have hmk:Uw ((k ++ [q.getD (q.length - 1) 0]).take ((k ++ [q.getD (q.length - 1) 0]).length - (rs.getD (cn rs (k ++ [q.getD (q.length - 1) 0])).toNat .zero).left.length)) (rs.getD (cn rs (k ++ [q.getD (q.length - 1) 0])).toNat .zero).proof=true->(qh ((k ++ [q.getD (q.length - 1) 0]).take ((k ++ [q.getD (q.length - 1) 0]).length - (rs.getD (cn rs (k ++ [q.getD (q.length - 1) 0])).toNat .zero).left.length)) (rs.getD (cn rs (k ++ [q.getD (q.length - 1) 0])).toNat .zero).proof).length=(rs.getD (cn rs (k ++ [q.getD (q.length - 1) 0])).toNat .zero).proof.length:=QY;refine ak.sq fun f3=>.sq fun f4=>.region<|.J Z<|.p (cW Z)<|.p (ae ml ic U Z)<|.p (ah kZ Z Z a3 Z)<|.p (bx (n:=q.length) db Z ad.slc O (fa _))<|.p (ej (b:=0) Z Z)<|.nil ?_;refine f4<|.if rfl (fun fv=>?_) (fun fv=>?_)
 ·refine ak.skip<|f3<|.block<|.sq fun f6=>.drawn [0,1,2,3,4,5,6,7,8,9,10,11,12] mixed Y Y Z<|.p Z (aK Z)<|.p Z (cW Z)<|.p Z (ae ml ic U Z)<|.p Z (ah kZ Z Z a3 Z)<|.p Z (aK Z) ?_;refine DOps.p Z (cW Z)<|.p Z (ae ml ic U Z)<|.p Z (ah kZ Z Z a3 Z)<|.p Z (bx (n:=q.length) db Z ad.slc O (fa _))<|.p Z (iO (b:=1) Z Z O) ?_;obtain ⟨g4,g7,fU,gg,fS,ge,g9,eT,fq,eX,fQ,e5⟩:=bz.at (i:=q.length - 1) ad.slc Ox O;refine DOps.p Z (al db lQ Z eT Z fq)<|.p Z (ah OA Z Z eX ((cb e5).trans (gW O)))<|.p Z (d7 Z)<|.done<|f6<|.sq fun f7=>.drawn [0,1,2,3,4,5,6,7,8,9,10,11,12,13,14] mixed Y Y Z<|.p Z (aK Z)<|.p Z (aK Z)<|.p Z (cW Z) ?_;refine DOps.p Z (ae ml ic U Z)<|.p Z (ah kZ Z Z a3 Z)<|.p Z (aK Z)<|.p Z (cW Z)<|.p Z (ae ml ic U Z)<|.p Z (ah kZ Z Z a3 Z)<|.p Z (bx (n:=q.length) db Z ad.slc O (fa _))<|.p Z (iO (b:=1) Z Z O) ?_;obtain ⟨a5,bO,a6,fI,ft,g6⟩:=ad.nonnil (by intro q;have:=Xk List.length q;simp only [be,Xx] at this;omega);subst fI;rw [be,VY] at ft;have cH:=ad.take (k:=q.length - 1) O;rw [VY,ks] at cH;refine DOps.p Z (m7 db lQ Z Z O)<|.p Z (cW Z)<|.p Z (ae ml ic U Z)<|.m Z (fun eA=>aU (cs:=[.slice (some ⟨a5,0,none⟩) (q.length - 1) a6]) (c':=[kv,num (g),u,rv,.map (some mb),.slice (some ⟨a5,0,none⟩) (q.length - 1) a6,num ((m:Nat):Int),aM ([]),num ((n:Nat):Int),dv]) dw rfl rfl rfl rfl ic a3 G rfl rfl fun A65 a9=>?_);have e3:=a9.k a1.symm bl;have b2:=bd.keep a9.keep ac;have bP:=bc.keep a9.keep a0;have bR:=cH.keep a9.keep a2;have d3:=an d2 aI aG a9.n a9.keep;refine eA (bg.none Y)<|.done<|f7<|.sq fun f9=>.sq fun fl=>.region<|.J Z<|.p (cW Z)<|.p (ae jx pX U Z)<|.p (ae iY ic U Z) ?_;refine Ops.p (ah kZ Z Z a9.get Z)<|.p (bx (n:=k.length) db Z b2.slc O (fa _))<|.I Z<|.nil<|fl<|.join (fun f A1=>am [(78,.bool (decide (0 < k.length/\k.getD (k.length - 1) 0=q.getD (q.length - 1) 0 ^^^ 32))),(0,.pointer (some ⟨b0,0,none⟩)),(4,.pointer (some ⟨b4,0,none⟩)),(25,.pointer (some ⟨b0,0,none⟩)),(26,.pointer (some ⟨b0,0,none⟩)),(27,.pointer (some ⟨b0,5,none⟩)),(28,.slice (some ⟨a5,0,none⟩) bO a6),(29,num ((q.length:Nat):Int)),(30,.bool (decide (0 < q.length))),(31,.pointer (some ⟨b0,0,none⟩)),(32,.pointer (some ⟨b0,0,none⟩)),(33,.pointer (some ⟨b0,5,none⟩)),(34,.slice (some ⟨a5,0,none⟩) bO a6),(35,.pointer (some ⟨b0,0,none⟩)),(36,.pointer (some ⟨b0,0,none⟩)),(37,.pointer (some ⟨b0,5,none⟩)),(38,.slice (some ⟨a5,0,none⟩) bO a6),(39,num ((q.length:Nat):Int)),(40,num ((q.length - 1:Nat):Int)),(42,dT (q.getD (q.length - 1) 0)),(5,dT (q.getD (q.length - 1) 0)),(43,.pointer (some ⟨b0,0,none⟩)),(44,.pointer (some ⟨b0,0,none⟩)),(45,.pointer (some ⟨b0,0,none⟩)),(46,.pointer (some ⟨b0,5,none⟩)),(47,.slice (some ⟨a5,0,none⟩) bO a6),(48,.pointer (some ⟨b0,0,none⟩)),(49,.pointer (some ⟨b0,0,none⟩)),(50,.pointer (some ⟨b0,5,none⟩)),(51,.slice (some ⟨a5,0,none⟩) bO a6),(52,num ((q.length:Nat):Int)),(53,num ((q.length - 1:Nat):Int)),(54,.slice (some ⟨a5,0,none⟩) (q.length - 1) a6),(55,.pointer (some ⟨b0,0,none⟩)),(56,.pointer (some ⟨b0,5,none⟩)),(57,.pointer (some ⟨b0,0,none⟩)),(58,.pointer (some ⟨b0,0,none⟩)),(59,.pointer (some ⟨b0,0,none⟩)),(60,.pointer (some ⟨b0,0,none⟩)),(61,kv),(62,num ((k.length:Nat):Int)),(6,num ((k.length:Nat):Int))] f.e/\f.ds=[]/\A65=A1) ?_ ?_
  ·refine ak.region<|.J Z<|.p (ej (b:=0) Z Z)<|.J Z<|.part (t:=65) Z (fun fD=>?_) (fun fD=>?_)
   ·refine Ops.on Z Z<|.J Z<|.on Z Z<|.p (cW Z)<|.on Z Z<|.p (ae jx pX U Z)<|.on Z Z<|.p (ae iY ic U Z)<|.on Z Z<|.p (ah kZ Z Z a9.get Z) ?_;refine Ops.on Z Z<|.J Z<|.on Z Z<|.p (iO (b:=1) Z Z O)<|.on Z Z ?_;obtain ⟨g5,g8,fV,gl,fT,gf,gc,eV,fr,eY,fR,e6⟩:=bz.at (i:=k.length - 1) b2.slc Ox O;refine Ops.p (al db lQ Z eV Z fr)<|.on Z Z<|.p (ah OA Z Z eY ((cb e6).trans (gW O)))<|.on Z Z<|.J Z<|.on Z Z<|.p (RH (d:=32) Z Z)<|.on Z Z<|.p (zz Z Z)<|.p (aJ Z Z) ?_;refine Ops.nil ?_;exact ⟨am.cons (show some _=some _ from Xk (fun b=>some (Value.bool b)) (show (decide ((k.getD (k.length - 1) 0)=((q.getD (q.length - 1) 0) ^^^ 32)))=decide (0 < k.length/\k.getD (k.length - 1) 0=q.getD (q.length - 1) 0 ^^^ 32) from (by simp only [‹0 < _›,true_and])))<|am.cons Z<|am.cons Z<|am.cons Z<|am.cons Z<|am.cons Z<|am.cons Z<|am.cons Z<|am.cons Z<|am.cons Z<|am.cons Z<|am.cons Z<|am.cons Z<|am.cons Z<|am.cons Z<|am.cons Z<|am.cons Z<|am.cons Z<|am.cons Z<|am.cons Z<|am.cons Z<|am.cons Z<|am.cons Z<|am.cons Z<|am.cons Z<|am.cons Z<|am.cons Z<|am.cons Z<|am.cons Z<|am.cons Z<|am.cons Z<|am.cons Z<|am.cons Z<|am.cons Z<|am.cons Z<|am.cons Z<|am.cons Z<|am.cons Z<|am.cons Z<|am.cons Z<|am.cons Z<|am.cons Z<|am.nil _,Z,Z⟩
   refine Ops.off Z Z Z Z<|.off Z Z Z Z<|.off Z Z Z Z<|.off Z Z Z Z<|.off Z Z Z Z<|.off Z Z Z Z<|.off Z Z Z Z<|.off Z Z Z Z<|.off Z Z Z Z<|.off Z Z Z Z ?_;refine Ops.off Z Z Z Z<|.off Z Z Z Z<|.p (aO Z Z)<|.nil ?_;exact ⟨am.cons (show some _=some _ from Xk (fun b=>some (Value.bool b)) (show (false)=decide (0 < k.length/\k.getD (k.length - 1) 0=q.getD (q.length - 1) 0 ^^^ 32) from (by simp only [‹¬ 0 < _›,false_and,decide_false])))<|am.cons Z<|am.cons Z<|am.cons Z<|am.cons Z<|am.cons Z<|am.cons Z<|am.cons Z<|am.cons Z<|am.cons Z<|am.cons Z<|am.cons Z<|am.cons Z<|am.cons Z<|am.cons Z<|am.cons Z<|am.cons Z<|am.cons Z<|am.cons Z<|am.cons Z<|am.cons Z<|am.cons Z<|am.cons Z<|am.cons Z<|am.cons Z<|am.cons Z<|am.cons Z<|am.cons Z<|am.cons Z<|am.cons Z<|am.cons Z<|am.cons Z<|am.cons Z<|am.cons Z<|am.cons Z<|am.cons Z<|am.cons Z<|am.cons Z<|am.cons Z<|am.cons Z<|am.cons Z<|am.cons Z<|am.nil _,Z,Z⟩
  rintro ⟨fe,fd⟩ _ ⟨hE,rfl,rfl⟩;refine ak.forget hE<|.if rfl (fun fE=>?_) (fun fE=>?_)
  ·refine ak.sq fun fm=>.region<|.J Z<|.p (cW Z)<|.p (ae jx pX U Z) ?_;have dd:=cy (bs:=[some b0,blk kv]) d3 (yn aG (uo b2.lo rK));refine Ops.m (fun eB=>ax Z (Kq 1 k b0 kv (num (g)) u rv (.map (some mb)) (.slice (some ⟨a5,0,none⟩) (q.length - 1) a6) (num ((m:Nat):Int)) (aM ([])) (num ((n:Nat):Int)) dv (A65.hide [some b0,blk kv]) A65 (cL A65 [some b0,blk kv]) (cx a9.wf) a9.get (cD (by simp)) (b2.hide (by simp)) ac O) ?_);rintro gp A86 ⟨dZ,rfl,aV,fN,bT,aD,bA⟩;have cV:=ce (bs:=[some b0,blk kv]) e3 (rP a1.symm (px ar nZ));have fn:=aV.g cV;have eQ:=aD.sep bP.own (ln a0 (j8 aB lm));have e9:=bP.off (ln a0 (j8 aB lm)) aV;have eR:=aD.sep bR.own (ln a2 (j8 aA lm));have ea:=bR.off (ln a2 (j8 aA lm)) aV;have eb:=aD.base dd;have eK:=aD.seph cV;have eE:=dd.trans aV;refine eB<|.nil<|fm<|.exit ?_;exact ⟨⟨q.take (q.length - 1),k.take (k.length - 1),n,d,m,f - 1,dZ,.slice (some ⟨a5,0,none⟩) (q.length - 1) a6,dv⟩,kg Z Z,Z,⟨⟨WI O O hrun ‹_›,by simp only [Vz];omega,hn,hd,hm,by simp only [Vz];omega⟩,eE,(ci eb (Xk aw ((by rfl)))),(ci ea (Xk aw ((by rfl)))),(ci e9 (Xk cN ((by rfl)))),bT,fn,bA,a2,a0,eK,av,ab,eR,eQ,aP⟩,O1⟩
  refine ak.skip<|f9<|.sq fun ec=>.region<|.J Z<|.J Z<|.p (cW Z)<|.p (ae jx pX U Z)<|.p (ae iY ic U Z)<|.p (ah kZ Z Z a9.get Z) ?_;refine Ops.J Z<|.m (fun dD=>aE (c:=[dT (q.getD (q.length - 1) 0)]) a9.wf rfl (aq db lQ z5 rfl U U rfl) fun A104 fO a7=>?_);have cK:=a7.le.g a9.get;have cP:=a7.le.g e3;have bU:=b2.le a7.le;have bV:=bP.le a7.le;have bY:=bR.le a7.le;refine dD<|.m (fun dG=>cm (ys:=[dT (q.getD (q.length - 1) 0)]) rfl rfl db lQ vL z5 rfl U db (fun _ h=>by cases h) bU.own (bG (n:=1) a7.get Z) rfl rfl (by show (_ + _) * 1<=_;simp only [be,Xq,Xx];(try simp only [Xz,Xq,Xx]);omega) On fun A118 fX a4=>?_);rw [show ([dT (q.getD (q.length - 1) 0)]:List Value)=aw [q.getD (q.length - 1) 0] from rfl,fA] at a4;obtain ⟨c0,e0⟩:=Fresh.grow bU (d3.trans a7.le) aI a4;have bu:=a4.ne ac a7.wf cK;have c7:=a4.ne ar a7.wf cP;have cc:=aL.appd (show aL kv dv from aB) bV.own a7.wf a4;have ck:=aL.appd (show aL kv (.slice (some ⟨a5,0,none⟩) (q.length - 1) a6) from aA) bY.own a7.wf a4;refine dG<|.p (cW Z)<|.p (ae jx pX U Z)<|.p (ae iY ic U Z) ?_;obtain ⟨ay,ap,ai,eM,_⟩:=c0.own.slice;subst eM;refine Ops.m (fun dI=>aU (cs:=[.slice ay ap ai]) (c':=[.slice ay ap ai,num (g),u,rv,.map (some mb),.slice (some ⟨a5,0,none⟩) (q.length - 1) a6,num ((m:Nat):Int),aM ([]),num ((n:Nat):Int),dv]) a4.wf rfl rfl rfl rfl ic (a4.keep ac cK) G rfl rfl fun A137 aa=>?_);have cS:=aa.k a1.symm (a4.keep ar cP);have bp:=(bV.appd a4 aB).keep aa.keep a0;have br:=(bY.appd a4 aA).keep aa.keep a2;have aR:=c0.keep aa.keep bu;have aT:=an e0 aI aG aa.n aa.keep;refine dI<|.nil<|ec<|.sq fun ee=>.region<|.J Z<|.m (fun dJ=>ax Z (Xp b0 (.slice ay ap ai) ((g)) u rv mb (.slice (some ⟨a5,0,none⟩) (q.length - 1) a6) (num ((m:Nat):Int)) (aM ([])) (num ((n:Nat):Int)) dv rs (k ++ [q.getD (q.length - 1) 0]) _ _ A137 (by simp only [Xz,Xq,Xx];have:=(ke hs).2.1;omega) (fun r z=>by have:=oL hs z;omega) aa.get aR.slc (hr.le aT) (hI.le aT)) ?_);rintro g0 A149 ⟨rfl,rfl⟩;refine dJ<|.I Z<|.nil<|ee<|.sq fun eg=>.region<|.J Z<|.p (lu Z Z)<|.nil<|eg ?_;refine ak.if rfl (fun eL=>?_) (fun eL=>?_)
  ·refine ak.region<|.J Z<|.J Z ?_;have ag:=cy (bs:=[some b0,blk (.slice ay ap ai),blk (.slice (some ⟨a5,0,none⟩) (q.length - 1) a6),blk dv]) aT (yn aG (uo aR.lo (uo br.lo (uo bp.lo rK))));refine Ops.l Z (fun _ _ dO cX=>Uf Z (s_use ((cn rs (k ++ [q.getD (q.length - 1) 0]))) ((cn rs (k ++ [q.getD (q.length - 1) 0])).toNat) (by have:=hrf (show ¬ cn rs (k ++ [q.getD (q.length - 1) 0]) < 0 by omega);omega) rs (k ++ [q.getD (q.length - 1) 0]) (q.take (q.length - 1)) d n m b0 (.slice ay ap ai) g u rv mb (.slice (some ⟨a5,0,none⟩) (q.length - 1) a6) (aM ([])) dv (A137.hide [some b0,blk (.slice ay ap ai),blk (.slice (some ⟨a5,0,none⟩) (q.length - 1) a6),blk dv]) A137 (cL A137 [some b0,blk (.slice ay ap ai),blk (.slice (some ⟨a5,0,none⟩) (q.length - 1) a6),blk dv]) (cx aa.wf) aa.get (cD (by simp)) (aR.hide (by simp)) (br.hide (by simp)) (bp.hide (by simp)) bu a2 a0 ck cc aP (by have:=hrf (show ¬ cn rs (k ++ [q.getD (q.length - 1) 0]) < 0 by omega);have h2:=(ke hs).2.1;omega) (by have:=hrf (show ¬ cn rs (k ++ [q.getD (q.length - 1) 0]) < 0 by omega);simp only [Vz];have:=oL hs (aX (d:=aQ.zero) this.1);omega) (by have:=hrf (show ¬ cn rs (k ++ [q.getD (q.length - 1) 0]) < 0 by omega);omega) (hL.le ag) (hr.le ag) (hp.le ag)) ?_ (fun eS Cq157 aC=>cX _ _ (by (repeat first | with_reducible refine lR ?_ | with_reducible refine jY ?_ | with_reducible refine jr ?_);exact Rg (⟨MH (Sg O O hrun ‹_› (show ¬ cn rs (k ++ [q.getD (q.length - 1) 0]) < 0 by omega) (fun z=>aC.1 z)),aC.2.1,ag.trans aC.2.2.1,aC.2.2.2.1,aC.2.2.2.2⟩))));rintro g1 A156 ⟨cZ,dj,cv,rfl,bM,fL,bL,aY,aZ,b1,b8,b9,ba,bB,bC,bD,a8⟩;have aS:=ce (bs:=[some b0,blk (.slice ay ap ai),blk (.slice (some ⟨a5,0,none⟩) (q.length - 1) a6),blk dv]) cS (rP a1.symm (px c7 (px av (px ab nZ))));refine dO _ _<|.nil ?_;exact ⟨⟨(q.take (q.length - 1)) ++ (rs.getD ((cn rs (k ++ [q.getD (q.length - 1) 0])).toNat) .zero).right.reverse,((k ++ [q.getD (q.length - 1) 0]).take ((k ++ [q.getD (q.length - 1) 0]).length - (rs.getD ((cn rs (k ++ [q.getD (q.length - 1) 0])).toNat) .zero).left.length)),n + 1,d ++ (qh ((k ++ [q.getD (q.length - 1) 0]).take ((k ++ [q.getD (q.length - 1) 0]).length - (rs.getD ((cn rs (k ++ [q.getD (q.length - 1) 0])).toNat) .zero).left.length)) (rs.getD ((cn rs (k ++ [q.getD (q.length - 1) 0])).toNat) .zero).proof),m + dN (qh ((k ++ [q.getD (q.length - 1) 0]).take ((k ++ [q.getD (q.length - 1) 0]).length - (rs.getD ((cn rs (k ++ [q.getD (q.length - 1) 0])).toNat) .zero).left.length)) (rs.getD ((cn rs (k ++ [q.getD (q.length - 1) 0])).toNat) .zero).proof),f - 1,cZ,dj,cv⟩,kg Z Z,Z,⟨⟨Si O O hrun ‹_› (show ¬ cn rs (k ++ [q.getD (q.length - 1) 0]) < 0 by omega) a8,Ra hlen hkl (hrf (show ¬ cn rs (k ++ [q.getD (q.length - 1) 0]) < 0 by omega)).2.2.1 (hrf (show ¬ cn rs (k ++ [q.getD (q.length - 1) 0]) < 0 by omega)).2.1 O,by have:=a8.2.1;omega,by have h0:=hmk a8.1;have h9:=@Xz _ d (qh ((k ++ [q.getD (q.length - 1) 0]).take ((k ++ [q.getD (q.length - 1) 0]).length - (rs.getD (cn rs (k ++ [q.getD (q.length - 1) 0])).toNat .zero).left.length)) (rs.getD (cn rs (k ++ [q.getD (q.length - 1) 0])).toNat .zero).proof);have h8:d.length + (rs.getD (cn rs (k ++ [q.getD (q.length - 1) 0])).toNat .zero).proof.length<=100000:=a8.2.2.1;omega,a8.2.2.2,VO hf a8.2.1 (by have h1:=hrf (show ¬ cn rs (k ++ [q.getD (q.length - 1) 0]) < 0 by omega);omega) O⟩,(ag.trans bM),(ci (aY.base ag) (Xk aw ((by rfl)))),(ci (aZ.base ag) (Xk aw ((by rfl)))),(ci (b1.base ag) (Xk cN ((by rfl)))),bL,(bM.g aS),b8,b9,ba,(aY.seph aS),(aZ.seph aS),(b1.seph aS),bB,bC,bD⟩,O1⟩
  refine ak.skip ?_;exact ⟨⟨q.take (q.length - 1),k ++ [q.getD (q.length - 1) 0],n,d,m,f - 1,.slice ay ap ai,.slice (some ⟨a5,0,none⟩) (q.length - 1) a6,dv⟩,kg Z Z,Z,⟨⟨Sh O O hrun ‹_› (show cn rs (k ++ [q.getD (q.length - 1) 0]) < 0 by omega),by simp only [Vz,Xz,Xq,Xx];omega,hn,hd,hm,by simp only [Vz];omega⟩,aT,(ci aR (Xk aw ((by rfl)))),(ci br (Xk aw ((by rfl)))),(ci bp (Xk cN ((by rfl)))),aa.get,cS,bu,a2,a0,c7,av,ab,ck,cc,aP⟩,O1⟩
 refine ak.exit<|f2<|.sq fun ek=>.region<|.J Z<|.J Z<|.p (cW Z)<|.p (ae jx pX U Z)<|.p (ae iY ic U Z)<|.p (ah kZ Z Z a3 Z) ?_;refine Ops.m (fun dS=>fb (s:=k) Z db u9 u5 bd.slc ?_);refine dS<|.p (cW Z)<|.p (ae mn jb U Z)<|.p (ae sk fK U Z)<|.m (fun dV=>aU (cs:=[aM (k)]) (c':=[kv,num (g),u,rv,.map (some mb),qv,num ((m:Nat):Int),aM (k),num ((n:Nat):Int),dv]) dw rfl rfl rfl rfl fK a3 G rfl rfl fun A172 az=>?_);have c3:=bc.keep az.keep a0;refine dV<|.nil<|ek<|.sq fun em=>.region<|.J Z<|.p (cW Z)<|.p (ae mn jb U Z)<|.p (ao yv jb Z Z az.get Z) ?_;obtain ⟨di,d0,ct,eN,_⟩:=c3.own.slice;subst eN;refine Ops.m (fun dW=>aU (cs:=[aM (k),num ((n:Nat):Int),.slice di d0 ct]) (c':=[aM (k),num ((n:Nat):Int),.slice di d0 ct]) az.wf rfl rfl rfl rfl jb (az.k a1.symm bl) G rfl rfl fun A183 aF=>?_);have en:=aF.k a1 az.get;have dz:=c3.keep aF.keep ab;have e1:=an (an d2 aI aG az.n az.keep) aI (bh aI (Xj e4.n bm.lo)) aF.n aF.keep;refine dW<|.nil<|em<|.ret ?_;repeat first | with_reducible refine cz ?_ | with_reducible refine cj ?_
 exact retE (e8 yv jb Z aF.get Z gB) (⟨_,_,_,_,_,_,_,by rw [ve (Cl O O hrun)];rfl,e1,aF.wf,en,by rw [ve (Cl O O hrun)];exact dz,a0,by rw [ve (Cl O O hrun)];rfl⟩)
abbrev Ym (E:List (UInt8 × Value)) (c:UInt8):Value:=(lk E c).getD (.slice none 0 0)
structure mI (A0 A:AH) (E:List (UInt8 × Value)) (rs:List aQ) (i:Nat) (bs:List Nat):Prop where
  nd:(E.map (·.1)).Nodup
  fr:∀ c,Fresh A0 A (Ym E c) 1 (cf (iu (rs.take i) c))
  ne:∀ c,∀ b ∈ bs,blk (Ym E c) ≠ some b
  sp:∀ c d,c ≠ d->aL (Ym E c) (Ym E d)
theorem _root_.Go.Proofs.YtjppkekmddjcfaaGreatDoor.V.Fresh.owk {A0 A B:AH} {v:Value} {n:Nat} {xs:List Value} (h:Fresh A0 A v n xs) (k:∀ b o,blk v=some b->A.get b=some o->B.get b=some o):Fresh A0 B v n xs:=⟨by
  rcases h.own with h | ⟨b',m,c,r,rcap,rfl,h2,h3⟩
  · exact .inl h
  · exact .inr ⟨b',m,c,r,rcap,Z,k _ _ Z h2,h3⟩,h.lo⟩
section
variable {A0 A A2 A3 A4:AH} {E:List (UInt8 × Value)} {rs:List aQ} {i m b:Nat} {bs:List Nat} {c d:UInt8} {v:Value} {o:gv}
theorem PR (c:UInt8):iu [] c=[]:=by simp [iu]
theorem mI.nil:mI A0 A [] rs 0 bs:=⟨by simp,fun c=>by rw [List.take_zero,PR];exact Fresh.nil _ _ _,fun c b _ q=>(by cases q),fun _ _ _=>aL.nil⟩
theorem ze {rs:List aQ} {i j:Nat} (h:j < i):(rs.take i).getD j .zero=rs.getD j .zero:=by
  simp [XJ,List.getElem?_take,h]
theorem Lu (hi:i < rs.length) (d:UInt8):iu (rs.take (i + 1)) d=if uW (rs.getD i .zero)=d then iu (rs.take i) d ++ [(i:Int)] else iu (rs.take i) d:=by
  have e:∀ k,k<=rs.length->iu (rs.take k) d=((List.range k).filter fun i=>decide (uW (rs.getD i .zero)=d)).map fun (i:Nat)=>(i:Int):=fun k hk=>by
    unfold iu
    rw [Vz,Nat.min_eq_left hk]
    congr 1
    apply List.filter_congr
    intro j hj
    rw [ze (TY.1 hj)]
  rw [e _ O,e _ O,Ty,List.filter_append,VV]
  by_cases h:uW (rs.getD i .zero)=d
  · rw [Xw h,List.filter_cons,Vv h];rfl
  · simp only [Xy h,List.filter_cons,List.filter_nil,Xv h];simp
theorem vQ (d:UInt8):Ym (zY E c v) d=if d=c then v else Ym E d:=by
  show (lk (zY E c v) d).getD _=_
  rw [Zj]
  split <;> rfl
theorem mI.step (h:mI A0 A E rs i bs) (le:A.le A2) (V:A2.wf) (ap:nA A2 (Ym E c) 1 (cf (iu (rs.take i) c ++ [(i:Int)])) v A3) (fr:Fresh A0 A3 v 1 (cf (iu (rs.take i) c ++ [(i:Int)]))) (sb:s7 A3 A4 m o) (hm:m ∈ bs)
    (hne:∀ b ∈ bs,blk v ≠ some b) (hi:i < rs.length) (hc:uW (rs.getD i .zero)=c):mI A0 A4 (zY E c v) rs (i + 1) bs:=by
  have hs:∀ d,d ≠ c->aL v (Ym E d):=fun d hd=>aL.appd (h.sp c d hd.symm) ((h.fr d).own.le le) V ap
  refine ⟨NP h.nd,fun d=>?_,fun d b hb=>?_,fun d e hde=>?_⟩
  · rw [vQ,Lu hi,hc]
    by_cases hd:d=c
    · subst hd;rw [Xw Z,Xw Z];exact fr.keep sb.keep (hne m hm)
    · rw [Xy hd,Xy (fun q=>hd q.symm)]
      exact (((h.fr d).le le).appd ap (h.sp c d (fun q=>hd q.symm))).keep sb.keep (h.ne d m hm)
  · rw [vQ];split
    · exact hne b hb
    · exact h.ne d b hb
  · rw [vQ,vQ]
    by_cases hd:d=c
    · subst hd;rw [Xw Z,Xy (fun q=>hde q.symm)];exact hs e (fun q=>hde q.symm)
    · rw [Xy hd]
      by_cases he:e=c
      · subst he;rw [Xw Z];exact (hs d hd).symm
      · rw [Xy he];exact h.sp d e hde
theorem mI.map {rw:Bool} {es:Array MapEntry} {ck:Nat} (h:mI A0 A E rs i bs) (hi:rs.length<=i) (g:A.get m=some (.obj rw (.map es ck))) (hE:dF dT es E) (hb:b ∈ bs) (hm:m ≠ b):nF (A.hide [some b]) m rs:=by
  refine ⟨rw,es,ck,E,ce g (rP hm nZ),hE,fun c=>?_⟩
  have:=((h.fr c).off (bs:=[some b]) (ln (h.ne c b hb) lm) (AH.le.refl _)).slc
  rwa [Vw hi] at this
def mf (A0 A:AH) (b:Nat):AH:=⟨A.n,fun k=>if (A0.get k).isNone=true/\k ≠ b then A.get k else none⟩
theorem Mj {b:Nat}:(mf A0 A b).le (A.hide [some b]):=⟨XX _,fun k o h=>by
  simp only [mf] at h
  split at h
  · rename_i q;exact ce h (rP q.2 nZ)
  · cases h⟩
theorem Ml {b:Nat} (wf:A.wf):(mf A0 A b).wf:=fun k o h=>by
  simp only [mf] at h
  split at h
  · exact wf k o h
  · cases h
theorem Ef {b k:Nat} (h:A0.get k=some o):(mf A0 A b).get k=none:=by
  simp only [mf];rw [Xy];rw [h];simp
theorem Eh {b:Nat}:(mf A0 A b).get b=none:=by simp [mf]
theorem mI.only {rw:Bool} {es:Array MapEntry} {ck:Nat} (h:mI A0 A E rs i bs) (hi:rs.length<=i) (g:A.get m=some (.obj rw (.map es ck))) (hE:dF dT es E) (hb:b ∈ bs) (hm:m ≠ b) (h0:A0.get m=none):nF (mf A0 A b) m rs:=by
  have key:∀ k,A0.get k=none->k ≠ b->(mf A0 A b).get k=A.get k:=fun k h1 h2=>by simp only [mf];rw [Xw ⟨by rw [h1];rfl,h2⟩]
  refine ⟨rw,es,ck,E,by rw [key m h0 hm];exact g,hE,fun c=>?_⟩
  have:=((h.fr c).owk (B:=mf A0 A b) (fun k o hk ho=>by rw [key k ((h.fr c).lo k hk) (fun z=>h.ne c b hb (by rw [hk,z]))];exact ho)).slc
  rwa [Vw hi] at this
theorem mem2 {p:Nat->Prop} {a b:Nat} (ha:p a) (hb:p b):∀ c ∈ [a,b],p c:=fun c hc=>by
  simp only [Vy,SQ,or_false] at hc
  rcases hc with rfl | rfl
  · exact ha
  · exact hb
theorem C5 {v:Value} {n:Nat} {l:List Value} (h:ql A v n l) (g:A.get b=none):blk v ≠ some b:=fun q=>by
  obtain ⟨o,ho⟩:=h.blkget q;rw [g] at ho;cases ho
theorem tD (le:A.le A2) (h:A2.get b=none):A.get b=none:=by
  cases q:A.get b with
  | none=>rfl
  | some o=>rw [le.get b o q] at h;cases h
theorem LG {v:Value} {n:Nat} {l:List Value} (le:A.le A2) (h:Fresh A2 A3 v n l):∀ b,blk v=some b->A.get b=none:=fun b hb=>tD le (h.lo b hb)
theorem JN {s v:Value} {n:Nat} {l:List Value} (le:A.le A2) (wf:A.wf) (ap:nA A2 s n l v A3) (h:∀ b,blk s=some b->A.get b=none):∀ b,blk v=some b->A.get b=none:=fun b hb =>
  (ap.blk b hb).elim (fun q=>h b q) fun q=>bh wf (Xj le.n q)
theorem JM {s v:Value} {n:Nat} {l:List Value} (le:A.le A2) (wf:A.wf) (ap:nA A2 s n l v A3) (h:∀ b,blk s=some b->A.get b=none):A.le A3 :=
  ⟨Xj le.n ap.n,fun b o g=>ap.get b o (le.get b o g) fun q=>by rw [h b q] at g;cases g⟩
theorem Lm {bs:List (Option Nat)} (le:A.le A2):(A.hide bs).le (A2.hide bs):=cy ((cL A bs).trans le) fun b q=>cD q
end
def gt (rs:List aQ) (w:W8):Option NZ:=if 20000 < w.length then none else oH rs w
section
variable {g:Int} {l:List W8} {rs:List aQ} {w:W8}
theorem EJ (h:bZ g w=0):xu g rs w=gt rs w:=by
  unfold xu gt
  by_cases q:w.length<=20000
  · rw [Xw ⟨h,q⟩,Xy O]
  · rw [Xy (fun z=>q z.2),Xw O]
theorem I5 (h:(!bN g l rs)=true):oT g l rs w=.zero/\mh g l rs w=100:=ZX (by simpa using h)
theorem I6 (h:(!bN g l rs)=false) (h2:¬ bZ g w=0):oT g l rs w=.zero/\mh g l rs w=4:=by
  rw [(vj (by simpa using h)).1,(vj (by simpa using h)).2];exact Zu h2
theorem I7 (h:(!bN g l rs)=false) (h2:¬ ¬ bZ g w=0) (q:(!(gt rs w).isSome)=true):oT g l rs w=.zero/\mh g l rs w=2:=by
  have h2:=Decidable.not_not.1 h2
  rw [(vj (by simpa using h)).1,(vj (by simpa using h)).2,MF,vb,EJ h2,tP q]
  simp [h2,gJ]
theorem I8 (h:(!bN g l rs)=false) (h2:¬ ¬ bZ g w=0) (q:(!(gt rs w).isSome)=false):oT g l rs w=gJ (gt rs w)/\mh g l rs w=0:=by
  have h2:=Decidable.not_not.1 h2
  rw [(vj (by simpa using h)).1,(vj (by simpa using h)).2,MF,vb,EJ h2]
  simp_all
theorem ya (hs:bN g l rs=true):∀ r ∈ rs,0 < r.left.length/\r.left.length<=1000000:=fun r hr=>by have:=oL hs hr;omega
theorem ug (hs:bN g l rs=true):rs.length<=1000000:=by have:=(ke hs).2.1;omega
end
theorem VT {A:AH} {n:Nat} {a:W8} {i:Int} {v:Value} {xs:List Value} (h:bz A n v xs):qi [aM a,num i,v]=true:=by
  obtain ⟨p,k,c,rfl,_⟩:=h;rfl
theorem jE {A:AH} {k b:Nat} {o x:gv} (h:A.get b=some x) (hn:b ≠ k):(A.set k o).get b=some x:=(AH.set_get_ne _ _ hn).trans h
theorem so {A0 A:AH} {k:Nat} {o:gv} (le:A0.le A) (V:A0.wf) (h:A0.get k=none):A0.le (A.set k o):=an le V h rfl fun b' o' hn g=>jE g hn
theorem uc (p q:Value) (A:AH):kR prog 105 #[p,q] .returning A (fun en u' A1=>en=.returned (fZ [])/\u'=.returning/\A=A1):=by
  refine kR.enter (args:=[p,q]) func105 Z (by rw [ntmps105];exact Sw rfl) (fun wf=>?_)
  have hn:Tryz.f105.ntmps=12:=ntmps105
  have hr:Tryz.f105.results = #[]:=results105
  rw [hn,hr]
  refine sa.seq (sa.region Z (ut.recoverNil Z Z Z O (fun _ _=>rfl) (ut.nil ?_)))
  refine sa.of_run ?_
  refine ak.block ?_
  refine ak.sq fun h4=>?_
  refine ak.region ?_
  refine Ops.val (v:=.bool true) Z Z (fun a ha w hw=>?_) ?_
  · have h5:=cI (x:=.tmp 5) ha Z
    simp only [execOp,h5]
    simp [Act.eval,go_sem]
  refine Ops.nil (h4 ?_)
  refine ak.cond_true Z ?_
  refine ak.region<|.I Z<|.nil ?_
  exact ⟨Z,[],Z,Z,Z,Z⟩
theorem sz149:dy prog 149=some 0:=by kernel_rfl
theorem YI:mQ prog 37 []=some (.agg #[aM [],num 0,.slice none 0 0]):=by kernel_rfl
theorem Cx (a b:Nat) (c1 c2:List Value) (k1 k2:Nat) (older:List PanicEntry) (A:AH) (hab:a ≠ b) (h1:A.get a=some (.row true c1 k1)) (l1:3<=c1.length) (h2:A.get b=some (.row true c2 k2)) (l2:1<=c2.length) :
    kR prog 105 #[.pointer (some ⟨a,0,none⟩),.pointer (some ⟨b,0,none⟩)] (.panicking ({ v:=.iface 149 (.agg #[]),recovered:=false } :: older)) A (fun en u' A1=>en=.returned (fZ [])/\u'=.panicking ({ v:=.iface 149 (.agg #[]),recovered:=true } :: older) /\
      A1=(((A.new (.row true [] 0)).set A.n (.row true [] 0)).set a (.row true (qj c1 0 [aM [],num 0,.slice none 0 0]) k1)).set b (.row true (qj c2 0 [.bool false]) k2)):=by
  refine kR.enter (args:=[_,_]) func105 Z (by rw [ntmps105];exact Sw rfl) (fun wf=>?_)
  have hn:Tryz.f105.ntmps=12:=ntmps105
  have hr:Tryz.f105.results = #[]:=results105
  rw [hn,hr]
  refine sa.seq (sa.region Z (ut.recover Z Z Z O (fun _ _=>rfl) (ut.nil ?_)))
  refine sa.of_run ?_
  refine ak.block ?_
  refine ak.sq fun h4=>?_
  refine ak.region ?_
  refine Ops.val (v:=.bool false) Z Z (fun a ha w hw=>?_) ?_
  · have h5:=cI (x:=.tmp 5) ha Z
    simp only [execOp,h5]
    simp [Act.eval,go_sem]
  refine Ops.nil (h4 ?_)
  refine ak.cond_false Z ?_
  refine ak.sq fun h6=>?_
  refine ak.region ?_
  refine Ops.val (v:=.tuple #[.agg #[],.bool true]) Z Z (fun a ha w hw=>?_) ?_
  · have h5:=cI (x:=.tmp 5) ha Z
    simp only [execOp,h5]
    simp [Act.eval,go_sem]
    rw [II underlying149];rfl
  refine Ops.p (bj Z Z)<|.p (bj Z Z)<|.nil (h6 ?_)
  refine ak.cond_true Z ?_
  refine ak.sq fun h8=>?_
  refine ak.region ?_
  refine Ops.l rfl fun K Kp hK _=>CG (z:=.agg #[]) (cs:=[]) Uo Z (hK _ _ ?_)
  refine Ops.l rfl fun K Kp hK _=>rf (cs:=[]) Z Z Z sz149 Z (AH.new_get_same _ _) (by simp) Z (hK _ _ ?_)
  refine Ops.nil (h8 ?_)
  have ha:=wf a _ h1
  have hb:=wf b _ h2
  refine ak.region ?_
  refine Ops.p (dn Z YI) ?_
  refine Ops.l rfl fun K Kp hK _=>rf (cs:=[aM [],num 0,.slice none 0 0]) (c:=c1) (cap:=k1) Z Z Z jb Z (by rw [AH.set_get_ne _ _ (by show a ≠ A.n;omega),AH.new_get_ne _ _ (by show a ≠ A.n;omega)];exact h1) (by simpa using l1) Z (hK _ _ ?_)
  refine Ops.l rfl fun K Kp hK _=>rf (cs:=[.bool false]) (c:=c2) (cap:=k2) Z Z Z kN Z (by rw [AH.set_get_ne _ _ (by show b ≠ a;omega),AH.set_get_ne _ _ (by show b ≠ A.n;omega),AH.new_get_ne _ _ (by show b ≠ A.n;omega)];exact h2) (by simpa using l2) Z (hK _ _ ?_)
  refine Ops.nil ?_
  exact ⟨Z,[],Z,Z,Z,Z⟩
theorem wk (w:W8) (rs:List aQ) (l:List W8) (b0:Nat) (g:Int) (u rv:Value) (mb:Nat) (x0 x5 x6 x7 x8 x9:Value) (A0 A:AH) (a3:A0.le A) (V:A0.wf)
    (hb:A.get b0=some (.row true [x0,num g,u,rv,.map (some mb),x5,x6,x7,x8,x9] 10)) (a9:A0.get b0=none) (hs:bN g l rs=true) (hL:iB A0) (hr:bz A0 3 rv (dh rs)) (hp:Proofs A0 rs) (hI:nF A0 mb rs) :
    bH prog 60 #[.pointer (some ⟨b0,0,none⟩),aM (w)] A (fun v A1=>∃ X y0 y5 y6 y7 y8 y9,v=.tuple #[.agg #[aM (gJ (gt rs w)).word,num (((gJ (gt rs w)).steps:Nat):Int),X],.bool (gt rs w).isSome]/\A0.le A1/\A1.wf /\
      A1.get b0=some (.row true [y0,num g,u,rv,.map (some mb),y5,y6,y7,y8,y9] 10)/\Fresh A0 A1 X 3 (cN (gJ (gt rs w)).disk)/\blk X ≠ some b0):=by
  refine z7.ret (enterD (e:=[(0,.pointer (some ⟨b0,0,none⟩)),(1,aM w)]) (args:=[.pointer (some ⟨b0,0,none⟩),aM w]) call60 func60 Z results60 ntmps60 Z Z Z (fun wf=>?_))
  have ad:b0 < A.n:=wf _ _ hb
  have n1:b0 ≠ A.n:=by omega
  have n2:b0 ≠ A.n + 1:=by omega
  have n3:A.n + 1 ≠ A.n:=by omega
  have a6:∀ o1 o2:gv,A.le ((A.new o1).new o2):=fun o1 o2=>AH.le_new (AH.le_new (AH.le.refl A) wf o1) wf o2
  have g0:∀ b,A.n<=b->A0.get b=none:=fun b h=>bh V (Xj a3.n h)
  refine ak.sq fun h1=>?_
  refine ak.region ?_
  refine Ops.l rfl fun K Kp hK _=>CG (z:=.agg #[aM [],num 0,.slice none 0 0]) (cs:=[aM [],num 0,.slice none 0 0]) Kz Z (hK _ _ ?_)
  refine Ops.l rfl fun K Kp hK _=>CG (z:=.bool false) (cs:=[.bool false]) z4 Z (hK _ _ ?_)
  refine Ops.nil (h1 ?_)
  have aa:=AH.wf_new wf (.row true [aM [],num 0,.slice none 0 0] 3)
  have a4:=AH.wf_new aa (.row true [.bool false] 1)
  have a2:=a6 (.row true [aM [],num 0,.slice none 0 0] 3) (.row true [.bool false] 1)
  have e1:((A.new (.row true [aM [],num 0,.slice none 0 0] 3)).new (.row true [.bool false] 1)).get A.n=some (.row true [aM [],num 0,.slice none 0 0] 3):=by
    rw [AH.new_get_ne _ _ (by show A.n ≠ A.n + 1;omega)];exact AH.new_get_same _ _
  have e2:((A.new (.row true [aM [],num 0,.slice none 0 0] 3)).new (.row true [.bool false] 1)).get (A.n + 1)=some (.row true [.bool false] 1):=AH.new_get_same _ _
  have e0:=a2.g hb
  have nB:((A.new (.row true [aM [],num 0,.slice none 0 0] 3)).new (.row true [.bool false] 1)).n=A.n + 2:=rfl
  generalize ((A.new (.row true [aM [],num 0,.slice none 0 0] 3)).new (.row true [.bool false] 1))=B at *
  have leB:=a3.trans a2
  refine ak.sq fun h2=>?_
  refine ak.region ?_
  refine Ops.p (nu Z Z) ?_
  refine Ops.defer (d:={ target:=.fn (.func 105) #[.pointer (some ⟨A.n,0,none⟩),.pointer (some ⟨A.n + 1,0,none⟩)],args:=#[] }) Z Z (fun a ha w hw=>?_) ?_
  · have h6:=cI (x:=.tmp 6) ha Z
    simp only [execOp,resolve,h6]
    simp [Deferred.ofValue]
  refine Ops.nil (h2 ?_)
  refine ak.seq fun K3 h3=>?_
  refine ak.seq fun K3' a5=>?_
  refine ak.region ?_
  refine Ops.J Z<|.p (cM u9 Z) ?_
  refine Ops.p (ej (b:=20000) Z Z) ?_
  refine Ops.nil (a5 _ _ ?_)
  refine ak.if (p:=20000 < w.length) Z (fun hl=>?_) (fun hl=>?_)
  · have et:gt rs w=none:=Xw hl
    refine ak.seq fun K5 h5=>?_
    refine ak.region ?_
    refine Ops.p (dn Z YI) ?_
    refine Ops.l rfl fun K Kp hK _=>rf (cs:=[aM [],num 0,.slice none 0 0]) (c:=[aM [],num 0,.slice none 0 0]) (cap:=3) Z Z Z jb Z e1 (by simp) Z (hK _ _ ?_)
    refine Ops.l rfl fun K Kp hK _=>rf (cs:=[.bool false]) (c:=[.bool false]) (cap:=1) Z Z Z kN Z (jE e2 n3) (by simp) Z (hK _ _ ?_)
    refine Ops.nil (h5 _ _ ?_)
    refine ak.ret ?_
    show nh _ _ _ _ _ _ _
    refine ⟨by simp,_,_,105,_,Z,(fun w=>rfl),(uc _ _ _).mono ?_⟩
    rintro en u' A1 ⟨rfl,rfl,rfl⟩
    refine ⟨[.agg #[aM [],num 0,.slice none 0 0],.bool false],?_,?_⟩
    · exact iq.cell Z (qF yv jb (jE (AH.set_get_same _ _ _) n3.symm) Z) (iq.cell Z (qG um (AH.set_get_same _ _ _) Z) iq.nil)
    · rw [et]
      have a1:=AH.wf_set a4 (k:=A.n) O (.row true (qj [aM [],num 0,.slice none 0 0] 0 [aM [],num 0,.slice none 0 0]) 3)
      refine ⟨.slice none 0 0,x0,x5,x6,x7,x8,x9,rfl,?_,AH.wf_set a1 (by show A.n + 1 < B.n;omega) _,?_,Fresh.nil _ _ _,fun q=>by cases q⟩
      · exact so (so leB V (g0 A.n (XX _))) V (g0 (A.n + 1) O)
      · exact jE (jE e0 n1) n2
  refine ak.skip (h3 _ _ ?_)
  have et:gt rs w=oH rs w:=Xy hl
  refine ak.seq fun K5 h5=>?_
  refine ak.region ?_
  refine Ops.J Z<|.J Z ?_
  have hle:=cy (A:=B) (bs:=[some b0]) leB (fun b q=>by rw [XW] at q;cases q;exact a9)
  have hwf:=cx (bs:=[some b0]) a4
  have hno:(B.hide [some b0]).get b0=none:=cD (XW.2 rfl)
  have k1:=ce (bs:=[some b0]) e1 Or
  have k2:=ce (bs:=[some b0]) e2 Or
  refine Ops.l rfl fun K Kp hK hKp=>Uf Z (ZP w rs l b0 g u rv mb x0 x5 x6 x7 x8 x9 (B.hide [some b0]) B (cL _ _) hwf e0 hno hs O (hL.le hle) (hr.le hle) (hp.le hle) (hI.le hle)) (fun v C hv=>hK _ _ ?_) (fun ch C hc=>hKp _ _ ?_)
  · obtain ⟨X,y0,y5,y6,y7,y8,y9,rfl,leC,wfC,gC,frC,neC,isC⟩:=hv
    have a7:=frC.seph k1
    have a8:=frC.seph k2
    have one:qi [aM (gJ (oH rs w)).word,num (((gJ (oH rs w)).steps:Nat):Int),X]=true:=VT frC.slc
    refine Ops.l rfl fun K Kp hK _=>rf (cs:=[aM (gJ (oH rs w)).word,num (((gJ (oH rs w)).steps:Nat):Int),X]) (c:=[aM [],num 0,.slice none 0 0]) (cap:=3) Z Z Z jb Z (leC.g k1) (by simp) one (hK _ _ ?_)
    refine Ops.l rfl fun K Kp hK _=>rf (cs:=[.bool true]) (c:=[.bool false]) (cap:=1) Z Z Z kN Z (jE (leC.g k2) n3) (by simp) Z (hK _ _ ?_)
    refine Ops.nil (h5 _ _ ?_)
    refine ak.ret ?_
    show nh _ _ _ _ _ _ _
    refine ⟨by simp,_,_,105,_,Z,(fun w=>rfl),(uc _ _ _).mono ?_⟩
    rintro en u' A1 ⟨rfl,rfl,rfl⟩
    refine ⟨[.agg #[aM (gJ (oH rs w)).word,num (((gJ (oH rs w)).steps:Nat):Int),X],.bool true],?_,?_⟩
    · exact iq.cell Z (qF yv jb (jE (AH.set_get_same _ _ _) n3.symm) Z) (iq.cell Z (qG um (AH.set_get_same _ _ _) Z) iq.nil)
    · rw [et]
      have a0:=hle.trans leC
      have nC:=leC.n
      have nH:(B.hide [some b0]).n=B.n:=rfl
      have a1:=AH.wf_set wfC (k:=A.n) O (.row true (qj [aM [],num 0,.slice none 0 0] 0 [aM (gJ (oH rs w)).word,num (((gJ (oH rs w)).steps:Nat):Int),X]) 3)
      refine ⟨X,y0,y5,y6,y7,y8,y9,by rw [isC];rfl,?_,AH.wf_set a1 (by show A.n + 1 < C.n;omega) _,?_,?_,neC⟩
      · exact so (so a0 V (g0 A.n (XX _))) V (g0 (A.n + 1) O)
      · exact jE (jE gC n1) n2
      · exact ((frC.base hle).keep (fun b' o hn h=>jE h hn) a7).keep (fun b' o hn h=>jE h hn) a8
  · obtain ⟨hn,rfl,leC,wfC,y0,y5,y6,y7,y8,y9,gC⟩:=hc
    show nh _ _ _ _ _ _ _
    refine ⟨by simp,_,_,105,_,Z,(fun w=>rfl),(Cx A.n (A.n + 1) _ _ 3 1 [] C O (leC.g k1) (by simp) (leC.g k2) (by simp)).mono ?_⟩
    rintro en u' A1 ⟨rfl,rfl,rfl⟩
    refine ⟨[.agg #[aM [],num 0,.slice none 0 0],.bool false],?_,?_⟩
    · exact iq.cell Z (qF yv jb (jE (AH.set_get_same _ _ _) n3.symm) Z) (iq.cell Z (qG um (AH.set_get_same _ _ _) Z) iq.nil)
    · rw [et,hn]
      have a0:=hle.trans leC
      have nC:=leC.n
      have nH:(B.hide [some b0]).n=B.n:=rfl
      have lbC:=wfC _ _ gC
      have a1:=AH.wf_new wfC (.row true [] 0)
      have ab:=AH.wf_set a1 (k:=C.n) (by show C.n < C.n + 1;omega) (.row true [] 0)
      have ac:=AH.wf_set ab (k:=A.n) (by show A.n < C.n + 1;omega) (.row true (qj [aM [],num 0,.slice none 0 0] 0 [aM [],num 0,.slice none 0 0]) 3)
      have l1:=AH.le_new a0 V (.row true [] 0)
      have l2:A0.le ((C.new (.row true [] 0)).set C.n (.row true [] 0)):=so l1 V (bh V a0.n)
      refine ⟨.slice none 0 0,y0,y5,y6,y7,y8,y9,rfl,?_,AH.wf_set ac (by show A.n + 1 < C.n + 1;omega) _,?_,Fresh.nil _ _ _,fun q=>by cases q⟩
      · exact so (so l2 V (g0 A.n (XX _))) V (g0 (A.n + 1) O)
      · exact jE (jE (jE ((AH.new_get_ne _ _ O).trans gC) O) n1) n2
theorem jq:prog.info? 3=some Tryz.t3:=by kernel_rfl
theorem pl147:dk prog 147=some [(0,1),(1,3),(4,1),(5,1),(6,1),(7,3)]:=by kernel_rfl
theorem u147:type_of% @underlying147:=@underlying147
theorem z147:cE prog 147=some (.agg #[.slice none 0 0,.int .i64 0,.slice none 0 0,.slice none 0 0,.map none,.slice none 0 0,.int .i64 0,.string ⟨⟨[]⟩⟩,.int .i64 0,.slice none 0 0]):=by kernel_rfl
theorem z3:cE prog 3=some (.int .i64 0):=by kernel_rfl
theorem qW (g:Int) (u:Value) (l:List W8) (rv:Value) (rs:List aQ) (A:AH) (hn:rs.length<=1000000) (d1:∀ r ∈ rs,0 < r.left.length/\r.left.length<=1000000) (hu:bz A 1 u (dB l)) (hr:bz A 3 rv (dh rs)) (hp:Proofs A rs):bH prog 59 #[.agg #[num (g),u,rv]] A (fun v A1=>∃ b mb,v=.pointer (some ⟨b,0,none⟩)/\A.le A1/\A1.wf/\A1.get b=some (.row true [.slice none 0 0,num g,u,rv,.map (some mb),.slice none 0 0,num 0,aM [],num 0,.slice none 0 0] 10)/\A.get b=none/\nF (A1.hide [some b]) mb rs/\∃ M,nF M mb rs/\M.wf/\M.le A1/\M.get b=none/\∀ k o,A.get k=some o->M.get k=none):=by
 refine aN (e:=[(0,.agg #[num (g),u,rv])]) (args:=[.agg #[num (g),u,rv]]) call59 func59 Z results59 ntmps59 Z Z Z (fun wf=>?_);have d3:=AH.le.refl A;refine ak.sq fun h2=>.region<|.m (fun d0=>dQ wf rfl rfl fun A5 b4 aF=>?_);have bA:=d3.trans aF.le;refine d0<|.I Z<|.nil<|h2<|.sq fun h9=>.region<|.p (ao fW fw Z Z aF.get Z)<|.m (fun bP=>o5 aF.wf fun A12 a5 ac=>?_);have ap:=bh wf (Xj bA.n ac.lo);have aZ:=bA.trans ac.le;refine bP<|.p (dn Z (bE u147 z147 pl147 Z))<|.m (fun bR=>dQ ac.wf rfl rfl fun A18 aa ai=>?_);have a2:=ne_new ac.wf ac.get ai.lo;have aP:=bh wf (Xj aZ.n ai.lo);have b0:=aZ.trans ai.le;refine bR<|.I Z<|.nil<|h9<|.sq fun cP=>.sq fun cS=>.region<|.p (ae dU ja U Z)<|.p (ah jj Z Z (ai.le.g (ac.le.g aF.get)) Z)<|.p (bx (n:=rs.length) o6 Z (hr.le b0) O (dt _)) ?_;refine Ops.J Z<|.nil<|cS<|.block<|.loop (X:=Nat × Array MapEntry × Nat × List (UInt8 × Value)) (fun ⟨i,es,ck,E⟩=>[(3,.pointer (some ⟨aa,0,none⟩)),(12,rv),(13,num ((rs.length:Nat):Int)),(14,num ((i:Nat):Int))]) (fun ⟨i,es,ck,E⟩ B=>(i<=rs.length/\dF dT es E)/\A.le B/\B.get a5=some (.obj true (.map es ck))/\B.get aa=some (.row true [.slice none 0 0,num (g),u,rv,.map (some a5),.slice none 0 0,num ((0:Nat):Int),aM ([]),num ((0:Nat):Int),.slice none 0 0] 10)/\(mI A B E rs i [a5,aa])) (fun ⟨i,es,ck,E⟩=>rs.length - i) (⟨0,#[],0,[]⟩) (mc Z Z Z Z) (⟨⟨XZ _,dF.nil⟩,b0,(ai.le.g ac.get),ai.get,mI.nil⟩) ?_;rintro ⟨i,es,ck,E⟩ B28 ⟨⟨hi,hME⟩,aA,a9,ab,hIO⟩;refine ak.wf fun a6=>?_;have hvv:=hIO.fr ((rs.getD i .zero).left.getD ((rs.getD i .zero).left.length - 1) 0);have ad:=hIO.ne ((rs.getD i .zero).left.getD ((rs.getD i .zero).left.length - 1) 0) a5 (by simp);have a7:=hIO.ne ((rs.getD i .zero).left.getD ((rs.getD i .zero).left.length - 1) 0) aa (by simp);have bv:=AH.le.refl B28;have hil:=Dx (rs.take i) ((rs.getD i .zero).left.getD ((rs.getD i .zero).left.length - 1) 0);have htl:(rs.take i).length<=i:=by simp;omega
 have hll:=fun q:i < rs.length=>d1 _ (aX (d:=aQ.zero) q);refine ak.sq fun cT=>.region<|.p (bK Z Z)<|.nil<|cT<|.sq fun cV=>.if rfl (fun dd=>?_) (fun dd=>?_)
 ·refine ak.skip<|cV<|.sq fun bp=>.block<|.sq fun cX=>.region<|.J Z ?_;obtain ⟨dD,dJ,dz,dV,dw,dS,dO,cC,d2,cH,bC,dv⟩:=bz.at (i:=i) (hr.le aA) Ow O;refine Ops.p (al o6 iW Z cC Z d2)<|.p (ao wB iW Z Z cH (bC.trans (Xk some (ju O))))<|.m (fun bS=>co a6 NX rfl fun A42 dG a0=>?_);have aR:=bh a6 (Xj bv.n a0.lo);refine bS<|.I Z<|.m (fun bT=>aU (cs:=[aM ((rs.getD i .zero).left),aM ((rs.getD i .zero).right),(rs.getD i .zero).pv]) (c':=[aM ((rs.getD i .zero).left),aM ((rs.getD i .zero).right),(rs.getD i .zero).pv]) a0.wf rfl rfl rfl rfl iW a0.get G (lr (hp.get O)) rfl fun A51 a4=>?_);have aT:=a4.k (ne_new a6 a9 a0.lo) (a0.le.g a9);have av:=a4.k (ne_new a6 ab a0.lo) (a0.le.g ab);have aG:=(hvv.le a0.le).keep a4.keep (hvv.own.ne_new a6 a0.lo);have az:=an (bv.trans a0.le) a6 aR a4.n a4.keep;have b1:=an (aA.trans a0.le) wf (bh wf (Xj aA.n a0.lo)) a4.n a4.keep;refine bT<|.nil<|cX<|.sq fun cZ=>.region<|.p (ae gk fK U Z)<|.p (ah gK Z Z a4.get Z)<|.p (ae gk fK U Z)<|.p (ah gK Z Z a4.get Z)<|.p (cM u9 Z) ?_;refine Ops.p (iO (b:=1) Z Z O)<|.p (ng u9 Z Z (by have:=hll O;omega))<|.I Z<|.nil<|cZ<|.drawnP [0,1,2,3,4,5,6,7,8,9,11] 10 12 [12,13,14] [10,13,14] mixed Y Y Z<|.p Z (aK Z)<|.p Z (cW Z)<|.p Z (ae AU TU U Z) ?_;have aC:=cR (off:=4) av (show _=some (.map (some a5)) from rfl);refine mj.p Z (ah Ot Z Z av Z)<|.p Z (aK Z)<|.p Z (aK Z)<|.p Z (cW Z)<|.p Z (ae AU TU U Z) ?_;have bO:=cR (off:=4) av (show _=some (.map (some a5)) from rfl);refine mj.p Z (ah Ot Z Z av Z)<|.p Z (aK Z)<|.p Z (aK Z)<|.both Z Z Z Z Z Z ?_ ?_
  ·refine fun _ _ bU _=>rh tp Z Z Uc u5 Gi aT hME ?_;refine bU _ _ (bg.list (L:=[(⟨aa,4,none⟩,.map (some a5))]) Y (bf aC bX))<|.m Z (fun bV=>aE (c:=[num ((i:Nat):Int)]) a4.wf rfl (aq cQ cl z3 rfl U U rfl) fun A65 dI a3=>?_);have cK:=bh a6 (Xj az.n a3.lo);have br:=a3.le.g aT;have bu:=a3.le.g av;have aI:=aG.le a3.le;have aY:=bI a3.le aC;have c3:=az.trans a3.le;refine bV (bg.list (L:=[(⟨aa,4,none⟩,.map (some a5))]) Y (bf aY bX))<|.m Z (fun bY=>cm (ys:=[num ((i:Nat):Int)]) rfl rfl cQ cl jq z3 rfl U cQ (fun _ h=>by cases h) aI.own (bG (n:=1) a3.get Z) rfl rfl (by show (_ + _) * 8<=_;simp only [aj,Xq,Xx];(try simp only [Xz,Xq,Xx]);omega) O3 fun A76 di a8=>?_);rw [show ([num ((i:Nat):Int)]:List Value)=cf [((i:Nat):Int)] from rfl,cJ] at a8;obtain ⟨bL,c4⟩:=Fresh.grow aI (b1.trans a3.le) wf a8;have cc:=a8.ne ad a3.wf br;have ch:=a8.ne a7 a3.wf bu;refine bY (bg.list (L:=[(⟨aa,4,none⟩,.map (some a5))]) Y (bf (a8.cell a7 aY) bX))<|.m Z (fun c0=>pN tp a8.wf rfl rfl rfl Uc u5 (a8.keep ad br) hME hIO.nd fun A91 bD bB ar c7=>?_);have b6:=hIO.step c3 a3.wf a8 bL ar (by simp) (mem2 cc ch) O Z;refine c0 (bg.none Y)<|.done<|bp<|.region<|.p (bk (b:=1) Z Z O)<|.J Z<|.nil ?_;exact ⟨⟨i + 1,bD,bB,zY E ((rs.getD i .zero).left.getD ((rs.getD i .zero).left.length - 1) 0) di⟩,mc Z Z Z Z,Z,⟨⟨by omega,c7⟩,(an c4 wf ap ar.n ar.keep),ar.get,(ar.k a2.symm (a8.keep a7 bu)),b6⟩,O1⟩
  refine fun _ _ b7 _=>aE (c:=[num ((i:Nat):Int)]) a4.wf rfl (aq cQ cl z3 rfl U U rfl) fun A103 dj V=>?_;have cv:=bh a6 (Xj az.n V.lo);have aB:=V.le.g aT;have aS:=V.le.g av;have aD:=aG.le V.le;have ay:=bI V.le aC;have bb:=az.trans V.le;refine b7 _ _ (bg.list (L:=[(⟨aa,4,none⟩,.map (some a5)),(⟨aa,4,none⟩,.map (some a5))]) Y (bf (bI V.le bO) (bf ay bX)))<|.m Z (fun b8=>rh tp Z Z Uc u5 Gi aB hME ?_);refine b8 (bg.list (L:=[(⟨aa,4,none⟩,.map (some a5))]) Y (bf ay bX))<|.m Z (fun b9=>cm (ys:=[num ((i:Nat):Int)]) rfl rfl cQ cl jq z3 rfl U cQ (fun _ h=>by cases h) aD.own (bG (n:=1) V.get Z) rfl rfl (by show (_ + _) * 8<=_;simp only [aj,Xq,Xx];(try simp only [Xz,Xq,Xx]);omega) O3 fun A116 ct a1=>?_);rw [show ([num ((i:Nat):Int)]:List Value)=cf [((i:Nat):Int)] from rfl,cJ] at a1;obtain ⟨b5,bc⟩:=Fresh.grow aD (b1.trans V.le) wf a1;have bl:=a1.ne ad V.wf aB;have bm:=a1.ne a7 V.wf aS;refine b9 (bg.list (L:=[(⟨aa,4,none⟩,.map (some a5))]) Y (bf (a1.cell a7 ay) bX))<|.m Z (fun ba=>pN tp a1.wf rfl rfl rfl Uc u5 (a1.keep ad aB) hME hIO.nd fun A131 b3 b2 ag bd=>?_);have aV:=hIO.step bb V.wf a1 b5 ag (by simp) (mem2 bl bm) O Z;refine ba (bg.none Y)<|.done<|bp<|.region<|.p (bk (b:=1) Z Z O)<|.J Z<|.nil ?_;exact ⟨⟨i + 1,b3,b2,zY E ((rs.getD i .zero).left.getD ((rs.getD i .zero).left.length - 1) 0) ct⟩,mc Z Z Z Z,Z,⟨⟨by omega,bd⟩,(an bc wf ap ag.n ag.keep),ag.get,(ag.k a2.symm (a1.keep a7 aS)),aV⟩,O1⟩
 refine ak.exit<|cP<|.sq fun bM=>.region<|.J Z<|.I Z<|.nil<|bM<|.rt (by exact aH Z (⟨aa,a5,rfl,aA,a6,ab,aP,hIO.map O a9 hME (by simp) a2,_,hIO.only O a9 hME (by simp) a2 ap,Ml a6,Mj.trans (cL _ _),Eh,fun k o h=>Ef h⟩))
theorem vg (g:Int) (u:Value) (l:List W8) (rv:Value) (rs:List aQ) (w:W8) (A:AH) (hn:l.length<=9223372036854775807) (hm:rs.length<=9223372036854775807) (hL:iB A) (hu:bz A 1 u (dB l)) (hr:bz A 3 rv (dh rs)) (hp:Proofs A rs):bH prog 21 #[.agg #[num (g),u,rv],aM (w)] A (fun v A1=>∃ dv,v=.tuple #[.agg #[aM (oT g l rs w).word,num (((oT g l rs w).steps:Nat):Int),dv],num ((mh g l rs w:Nat):Int)]/\A.le A1/\A1.wf/\Fresh A A1 dv 3 (cN (oT g l rs w).disk)):=by
 refine aN (e:=[(0,.agg #[num (g),u,rv]),(1,aM (w))]) (args:=[.agg #[num (g),u,rv],aM (w)]) call21 func21 Z results21 ntmps21 Z Z Z (fun wf=>?_);have cC:=AH.le.refl A;refine ak.sq fun h2=>.region<|.m (fun ct=>dQ wf rfl rfl fun A5 b4 aZ=>?_);have bv:=cC.trans aZ.le;refine ct<|.m (fun cv=>co aZ.wf Kz rfl fun A10 b9 ag=>?_);have a3:=bh wf (Xj bv.n ag.lo);have bd:=ag.le.g aZ.get;have a6:=bv.trans ag.le;refine cv<|.I Z<|.nil<|h2<|.sq fun bY=>.block<|.sq fun c0=>.region<|.p (ao fW fw Z Z bd Z)<|.m (fun bC=>ax Z (kJ ((g)) u l rv rs A10 hn hm (hL.le a6) (hu.le a6) (hr.le a6) (hp.le a6)) ?_);rintro dd A20 ⟨rfl,ab,bb⟩;have bl:=ab.g bd;have bm:=ab.g ag.get;have ay:=a6.trans ab;refine bC<|.p (ff Z)<|.I Z<|.nil<|c0<|.ifB Z (fun cH=>?_) (fun cH=>?_)
 ·refine ak.sq fun c3=>.region<|.p (dn Z (bE u37 Kz Wa Z))<|.m (fun bD=>aU (cs:=[aM ([]),num ((0:Nat):Int),.slice none 0 0]) (c':=[aM ([]),num ((0:Nat):Int),.slice none 0 0]) bb rfl rfl rfl rfl jb bm G rfl rfl fun A29 ap=>?_);have bT:=an ay wf a3 ap.n ap.keep;refine bD<|.I Z<|.nil<|c3<|.rt (by exact aH (e8 yv jb Z ap.get Z (fB Z gB)) (⟨_,by (rw [(I5 ‹_›).1,(I5 ‹_›).2];rfl),bT,ap.wf,by (rw [(I5 ‹_›).1];exact Fresh.nil _ _ _)⟩))
 refine ak.sq fun c4=>.region<|.p (ae gy iw U Z)<|.p (ae gj cl U Z)<|.p (ah dK Z Z bl Z)<|.J Z<|.m (fun bL=>ax Z (qX (g) w A20 (hL.le ay)) ?_);rintro di A37 ⟨rfl,ac,bc⟩;have bp:=ac.g bl;have aP:=ac.g bm;have a2:=ay.trans ac;refine bL<|.p (fy (b:=0) Z Z)<|.I Z<|.nil<|c4<|.if rfl (fun cK=>?_) (fun cK=>?_)
 ·refine ak.sq fun c7=>.region<|.p (dn Z (bE u37 Kz Wa Z))<|.m (fun bM=>aU (cs:=[aM ([]),num ((0:Nat):Int),.slice none 0 0]) (c':=[aM ([]),num ((0:Nat):Int),.slice none 0 0]) bc rfl rfl rfl rfl jb aP G rfl rfl fun A46 ar=>?_);have bU:=an a2 wf a3 ar.n ar.keep;refine bM<|.I Z<|.nil<|c7<|.rt (by exact aH (e8 yv jb Z ar.get Z (fB Z gB)) (⟨_,by (rw [(I6 ‹_› ‹_›).1,(I6 ‹_› ‹_›).2];rfl),bU,ar.wf,by (rw [(I6 ‹_› ‹_›).1];exact Fresh.nil _ _ _)⟩))
 refine ak.skip<|bY<|.sq fun cc=>.region<|.p (ao fW fw Z Z bp Z)<|.m (fun bO=>ax Z (qW ((g)) u l rv rs A37 (ug (by simpa using ‹(!bN g l rs)=false›)) (ya (by simpa using ‹(!bN g l rs)=false›)) (hu.le a2) (hr.le a2) (hp.le a2)) ?_);rintro dj A54 ⟨V,b8,rfl,aB,aD,a9,a0,av,aR⟩;have hrow:=a9;have hno:=a0;have hix:=av;have hOn:=aR;have ba:b4 ≠ V:=fun z=>by have q0:=bp;rw [z,a0] at q0;cases q0
 have ai:b9 ≠ V:=fun z=>by have q0:=aP;rw [z,a0] at q0;cases q0
 have aF:=tD a2 a0;refine bO<|.J Z ?_;have a7:=cy (bs:=[some V]) (a2.trans aB) (yn aF rK);have aT:=cy (bs:=[some V]) (cL A54 [some V]) (yn (cD (by simp)) rK);refine Ops.m (fun bP=>ax Z (wk w rs l V (((g))) u rv b8 (.slice none 0 0) (.slice none 0 0) (num ((0:Nat):Int)) (aM ([])) (num ((0:Nat):Int)) (.slice none 0 0) (A54.hide [some V]) A54 (cL A54 [some V]) (cx aD) a9 (cD (by simp)) (by simpa using ‹(!bN g l rs)=false›) (hL.le a7) (hr.le a7) (hp.le a7) (av.le aT)) ?_);rintro dw A61 ⟨cT,cV,cX,cZ,d0,d1,d2,rfl,ad,a5,aa,a8,b0⟩;have aS:=ce (bs:=[some V]) (aB.g aP) (rP ai nZ);have br:=ad.g aS;have aG:=a8.base a7;have aV:=a7.trans ad;refine bP<|.J Z<|.p (bj Z Z)<|.p (bj Z Z)<|.m (fun bR=>co a5 Kz rfl fun A76 d3 h=>?_);have b1:=ne_new a5 aa h.lo;have bV:=bh (cx aD) (Xj (aT.trans ad).n h.lo);have aI:=aG.le h.le;refine bR ?_;obtain ⟨aC,aA,az,cS,_⟩:=aI.own.slice;subst cS;refine Ops.m (fun bS=>aU (cs:=[aM ((gJ (gt rs w)).word),num (((gJ (gt rs w)).steps:Nat):Int),.slice aC aA az]) (c':=[aM ((gJ (gt rs w)).word),num (((gJ (gt rs w)).steps:Nat):Int),.slice aC aA az]) h.wf rfl rfl rfl rfl jb h.get G rfl rfl fun A87 X=>?_);have bu:=X.k (ne_new a5 br h.lo) (h.le.g br);have aY:=an (aV.trans h.le) wf (bh wf (Xj aV.n h.lo)) X.n X.keep;refine bS<|.I Z<|.nil<|cc<|.sq fun ch=>.sq fun ck=>.region<|.J Z<|.p (ff Z)<|.nil ?_;refine ck<|.ifB Z (fun cP=>?_) (fun cP=>?_)
 ·refine ak.sq fun bA=>.region<|.p (dn Z (bE u37 Kz Wa Z))<|.m (fun b3=>aU (cs:=[aM ([]),num ((0:Nat):Int),.slice none 0 0]) (c':=[aM ([]),num ((0:Nat):Int),.slice none 0 0]) X.wf rfl rfl rfl rfl jb bu G rfl rfl fun A103 a4=>?_);have b6:=an aY wf a3 a4.n a4.keep;refine b3<|.I Z<|.nil<|bA<|.rt (by exact aH (e8 yv jb Z a4.get Z (fB Z gB)) (⟨_,by (rw [(I7 ‹_› ‹_› ‹_›).1,(I7 ‹_› ‹_› ‹_›).2];rfl),b6,a4.wf,by (rw [(I7 ‹_› ‹_› ‹_›).1];exact Fresh.nil _ _ _)⟩))
 refine ak.skip<|ch<|.sq fun bB=>.region<|.p (ao yv jb Z Z X.get Z)<|.m (fun b5=>aU (cs:=[aM ((gJ (gt rs w)).word),num (((gJ (gt rs w)).steps:Nat):Int),.slice aC aA az]) (c':=[aM ((gJ (gt rs w)).word),num (((gJ (gt rs w)).steps:Nat):Int),.slice aC aA az]) X.wf rfl rfl rfl rfl jb bu G rfl rfl fun A113 a1=>?_);have b2:=(aI.keep X.keep (aG.own.ne_new a5 h.lo)).keep a1.keep (a8.seph aS);have b7:=an aY wf a3 a1.n a1.keep;refine b5<|.I Z<|.nil<|bB<|.rt (by exact aH (e8 yv jb Z a1.get Z (fB Z gB)) (⟨_,by (rw [(I8 ‹_› ‹_› ‹_›).1,(I8 ‹_› ‹_› ‹_›).2];rfl),b7,a1.wf,by (rw [(I8 ‹_› ‹_› ‹_›).1];exact b2)⟩))
namespace V
section
variable {P:Program} {F:Fence} {nt n:Nat} {A:AH}
theorem Um (hF:yo F) {l:Nat} {args:Array Value} {R:Value->AH->Prop} (hc:mN P l args A R) {w:World} (hw:cw A w) :
    YieldAt F 0 P l args w fun e w'=>∃ A' v,e=.returned v/\cw A' w'/\fz A w A' w'/\R v A':=by
  rcases hF with rfl | ⟨l,rfl⟩
  · exact hc w hw
  · exact hc w hw
theorem Un (hF:yo F) {fo:Operand} {aa:Array Operand} {tt:Array TypeId} {dst:Option Nat} {ty:TypeId} {ps:String} {af:Array Edge} {g:Option (Nat × Bool)} {l:Nat} {vs:List Value} {R:Value->AH->Prop} {a:Act} {w:World}
    (hf:a.eval fo=.func (.yield l) #[] #[]) (ha:aa.map a.eval=vs.toArray) (hc:mN P l vs.toArray A R) (hw:cw A w) {next:Act->World->Prop} {Q:Exit->Act->World->Prop}
    (h:∀ v A' w',cw A' w'->fz A w A' w'->R v A'->next (a.put dst v) w') :
    ({ dst:=dst,op:=.call { callee:=.value fo,args:=aa,argTypes:=tt },type:=ty,pos:=ps,after:=af,guard:=g }:Oper).wpIn F 0 P a w next Q:=by
  obtain ⟨fn,tmps,assign,body,hy,hr⟩:=Um hF hc hw
  have hx:(execOp a.eval { dst:=dst,op:=.call { callee:=.value fo,args:=aa,argTypes:=tt },type:=ty,pos:=ps,after:=af,guard:=g }).run P w=.ok (.round l fn tmps assign body) w:=by
    simp [execOp,resolve,hf,ha,Deferred.ofValue,invoke,hy]
  refine ⟨fun f _=>sA hF f,?_⟩
  rw [Oper.semAt_eq _ _ _ (fun c q=>by cases q),hx]
  refine ⟨tG hF,RoundIn.mono hr ?_⟩
  rintro en w' ⟨A',v,rfl,hv,hst,hR⟩
  exact h v A' w' hv hst hR
theorem pb {t el:TypeId} {len m:Nat} {z:Value} {l:List (Nat × Value)} {c:List Value} (hu:P.underlying t=some (.array len el)) (hz:cE P t=some z) (hs:dy P el=some m)
    (hf:pR (fun i=>some (i * m,m)) z.cells.toList l=some c):mQ P t l=some (.agg c.toArray):=by simp [mQ,hu,hz,hs,hf]
theorem jt {e:ii} {x y:Operand} {t el:TypeId} {b off n len i:Nat} {k:IntKind} (hu:P.underlying t=some (.array len el)) (hs:dy P el=some n) (h:cd e x=some (.pointer (some ⟨b,off,none⟩))) (h':cd e y=some (.int k (i:Nat))) (hi:i < len) :
    aW P e A (.indexAddr t x y)=some (.pointer (some ⟨b,off + i * n,none⟩),[]):=by rw [MC hu hs h h' hi,o9 _ _ Z]
theorem Jl:∀ a:Fin 16,UM .xor .i64 ((a.1:Nat):Int) ((1:Nat):Int)=some (num ((a.1 ^^^ 1:Nat):Int)):=fun a=>by
  have key:∀ a:Fin 16,IntKind.i64.wrap ((BitVec.ofInt 64 ((a.1:Nat):Int) ^^^ BitVec.ofInt 64 ((1:Nat):Int)).toNat:Int)=((a.1 ^^^ 1:Nat):Int):=by decide
  show some (Value.int .i64 (IntKind.i64.wrap ((BitVec.ofInt 64 ((a.1:Nat):Int) ^^^ BitVec.ofInt 64 ((1:Nat):Int)).toNat:Int)))=_
  rw [key]
theorem qxor1 {e:ii} {x y:Operand} {t t':TypeId} {a:Nat} (h:cd e x=some (num (a:Nat))) (h':cd e y=some (num (1:Nat))) (ha:a < 16):aW P e A (.binOp .xor t x y t')=some (num ((a ^^^ 1:Nat):Int),[]) :=
  yD U U h h' (Jl ⟨a,ha⟩)
def mJ (P:Program) (nt:Nat) (F:Fence) (all:Array Oper) (os:List Oper) (Q:Exit->Fr->AH->Prop) (f:Fr) (A:AH):Prop :=
  ∀ a w,de nt f a->cw A w->∀ (A₀:AH) (w₀:World),fz A₀ w₀ A w->wpListIn F 0 P all (mL nt Q A₀ w₀) os a w
section
variable {all:Array Oper} {Q:Exit->Fr->AH->Prop} {f:Fr} {e:ii} {ds:List Deferred} {d t:Nat} {op:Op} {ty:TypeId} {ps:String} {af:Array Edge} {os:List Oper} {v:Value} {T:fx}
theorem mJ.nil (h:Q .normal f A):mJ P nt F all [] Q f A:=fun _ _ ha hw _ _ hs=>⟨f,A,ha,hw,hs,h,fun _ q=>by cases q⟩
theorem mJ.q (hF:yo F) (hn:jy { dst:=some d,op:=op,type:=ty,pos:=ps,after:=af,guard:=none }=true) (hd:Nat.blt d nt=true) (hv:aW P e A op=some (v,T)) (h:mJ P nt F all os Q ⟨(d,v) :: e,ds⟩ A) :
    mJ P nt F all ({ dst:=some d,op:=op,type:=ty,pos:=ps,after:=af,guard:=none } :: os) Q ⟨e,ds⟩ A:=by
  intro a w ha hw A₀ w₀ hs
  have:=ib (o:={ dst:=some d,op:=op,type:=ty,pos:=ps,after:=af,guard:=none }) hv ha hw
  unfold wpListIn
  rw [Xw (by simp [Region.wanted])]
  refine ⟨fun f _=>sA hF f,?_⟩
  rw [Oper.semAt_eq _ _ _ (fun c hc=>by simp only at hc;subst hc;cases hn),this.2 w this.1]
  exact h _ w (ha.put (some d) v (dc hd)) hw A₀ w₀ hs
theorem mJ.y (hF:yo F) {fo:Operand} {l:Nat} {vs:List Value} {R:Value->AH->Prop} {aa:Array Operand} {tt:Array TypeId} (hd:Nat.blt d nt=true) (hf:cd e fo=some (.func (.yield l) #[] #[])) (ha:jV (cd e) aa.toList=some vs)
    (hc:mN P l vs.toArray A R) (h:∀ v A',R v A'->mJ P nt F all os Q ⟨(d,v) :: e,ds⟩ A') :
    mJ P nt F all ({ dst:=some d,op:=.call { callee:=.value fo,args:=aa,argTypes:=tt },type:=ty,pos:=ps,after:=af,guard:=none } :: os) Q ⟨e,ds⟩ A:=by
  intro a w hact hw A₀ w₀ hs
  unfold wpListIn
  rw [Xw (by simp [Region.wanted])]
  have hev:∀ x v,cd e x=some v->a.eval x=v:=fun x v g=>cI hact g
  have hargs:aa.map a.eval=vs.toArray:=by apply Array.ext';simp [qs hev _ _ ha]
  exact Un hF (hev _ _ hf) hargs hc hw fun v A' w' hv hst hR=>h v A' hR _ w' (hact.put (some d) v (dc hd)) hv A₀ w₀ (hs.trans hst)
theorem fh.regionJ {id:Nat} {l:List Oper} (h:mJ P nt F l.toArray l Q f A):fh P nt F (.region id l.toArray false) Q f A :=
  fun a w ha hw=>wpIn_region_lit (h a w ha hw A w (.refl _ _))
theorem ak.regionJ {id:Nat} {l:List Oper} (h:mJ P nt Fence.wide l.toArray l Q f A):ak P nt (.region id l.toArray false) Q f A:=fh.run (fh.regionJ h)
end
theorem Zp (hF:yo F) {o:Oper} {a:Act} {w:World} {K:Act->World->Prop} {Q Q':Exit->Act->World->Prop} (hd:jy o=true) (hp:∀ ch a w,Q (.panic ch) a w->Q' (.panic ch) a w) (hl:¬ LetsOut Q) (h:o.wp P a w K Q):o.wpIn F n P a w K Q':=by
  have hs:o.semAt F.round a.eval=execOp a.eval o:=Oper.semAt_eq _ _ _ (fun c hc=>by simp [jy,hc] at hd)
  refine ⟨fun f _=>sA hF f,?_⟩
  rw [hs]
  unfold Oper.wp at h
  generalize (execOp a.eval o).run P w=r at h ⊢
  cases r with
  | ok x w' =>
    cases x <;> simp only [Oper.upon] at h <;> simp only [Oper.uponIn] <;>
      first
      | exact h
      | exact h.elim
      | exact ⟨tG hF,C8 hF (h.mono fun e w'' he=>by
          cases e with
          | returned v=>exact he
          | panicked ch=>exact hp _ _ _ he
          | outgrown=>exact absurd he hl)⟩
      | exact ⟨tG hF,J6 hF h⟩
  | halt x w'=>cases x <;> simp only [Oper.upon] at h <;> simp only [Oper.uponIn] <;> exact hp _ _ _ h
theorem zC {ops:Array Oper} {y:Nat} {o o':Oper} (hy:ops[y]? = some o) (he:o'.after=o.after) (listed:Array Bool):Region.ready .any (ops.setIfInBounds y o') listed=Region.ready .any ops listed:=by
  unfold Region.ready
  rw [Array.size_setIfInBounds]
  apply List.filter_congr
  intro i hi
  congr 1
  by_cases q:y=i
  · subst q
    have hlt:=(TK.1 hy).1
    have e1:ops[y]=o:=(TK.1 hy).2
    simp [hlt,he,e1]
  · rw [Tw q]
def uj (ops:Array Oper) (y z:Nat):Bool :=
  Nat.blt y ops.size && Nat.blt z ops.size && !(y == z) && (List.range ops.size).all (fun j=>j == y || j == z || mw ops j ops.size y) && mw ops y ops.size z &&
  (List.range ops.size).all (fun j=>match ops[j]? with | none=>false | some o=>o.after.all fun e=>Nat.blt e.on j) && ops.toList.all (fun o=>jy o && (match o.guard with | none=>true | _=>false))
theorem F5 {o:Oper} (h:(match o.guard with | none=>true | _=>false)=true) (l:Nat->Value):o.guard=none:=by
  cases q:o.guard with
  | none=>rfl
  | some x=>rw [q] at h;cases h
theorem Vh {l:Array Bool} {i:Nat} (h:l.getD i true=false):i < l.size:=by
  rcases VW i l.size with q | q
  · exact q
  · simp [q] at h
theorem RA {a:Act} {d:Nat} {v:Value} (h:d < a.tmps.size):(a.put (some d) v).eval (.tmp d)=v:=by simp [Act.eval,Act.put,h]
theorem any_y (hF:yo F) {ops:Array Oper} {y z d dz:Nat} {fo:Operand} {aa:Array Operand} {tt:Array TypeId} {ty tz tz':TypeId} {ps psz:String} {af afz:Array Edge} {l:Nat} {Qp Q:Exit->Act->World->Prop} {oy oz oy' oz':Oper}
    (ey:oy={ dst:=some d,op:=.call { callee:=.value fo,args:=aa,argTypes:=tt },type:=ty,pos:=ps,after:=af,guard:=none })
    (ez:oz={ dst:=some dz,op:=.unOp .not tz (.tmp d),type:=tz',pos:=psz,after:=afz,guard:=none })
    (ey':oy'={ oy with op:=.move (.const (.bool true)) }) (ez':oz'={ oz with op:=.move (.const (.bool false)) })
    (hy:ops[y]? = some oy) (hz:ops[z]? = some oz) (hw:uj ops y z=true) (hl:¬ LetsOut Qp) (hp:∀ ch a w,¬ Qp (.panic ch) a w)
    (hQ:∀ (a:Act) w,Qp .normal ((a.put (some d) (.bool true)).put (some dz) (.bool false)) w->d < a.tmps.size/\∃ (A:AH) (vs:List Value) (R:Value->AH->Prop),cw A w/\a.eval fo=.func (.yield l) #[] #[]/\aa.map a.eval=vs.toArray/\mN P l vs.toArray A R /\
      (∀ v A' w',R v A'->cw A' w'->fz A w A' w'->v=.bool true/\Q .normal ((a.put (some d) (.bool true)).put (some dz) (.bool false)) w')) :
    ∀ (fuel:Nat) (listed:Array Bool) (a:Act) (w:World),md ops listed->listed.size=ops.size->listed.getD y true=false ->
      wpAny P .any ((ops.setIfInBounds y oy').setIfInBounds z oz') Qp fuel listed a w->wpAnyIn F 0 P .any ops Q fuel listed a w:=by
  simp only [uj,XK,Bool.not_eq_true',Vx,TY,Bool.or_eq_true,Qy,beq_eq_false_iff_ne,ne_eq] at hw
  obtain ⟨⟨⟨⟨⟨⟨w1,w2⟩,w3⟩,w4⟩,w5⟩,w6⟩,w7⟩:=hw
  have w1:y < ops.size:=Sw w1
  have w2:z < ops.size:=Sw w2
  have ay:oy'.after=oy.after:=by rw [ey']
  have az:oz'.after=oz.after:=by rw [ez']
  generalize hops:(ops.setIfInBounds y oy').setIfInBounds z oz'=ops'
  have hr:∀ listed,Region.ready .any ops' listed=Region.ready .any ops listed:=fun listed=>by
    have e1:=zC (ops:=ops.setIfInBounds y oy') (y:=z) (o:=oz) (o':=oz') (by rw [Tw w3];exact hz) az listed
    rw [<- hops,e1,zC hy ay]
  have hy':ops'[y]? = some oy':=by
    rw [<- hops,Tw (fun q=>w3 q.symm)];simp [w1]
  have hz':ops'[z]? = some oz':=by
    rw [<- hops];simp [w2]
  have ho:∀ i,i ≠ y->i ≠ z->ops'[i]? = ops[i]?:=fun i h1 h2=>by
    rw [<- hops,Tw (fun q=>h2 q.symm),Tw (fun q=>h1 q.symm)]
  have a2:∀ i o,ops[i]? = some o->jy o=true/\o.guard=none:=fun i o hi=>by
    have hlt:=(TK.1 hi).1
    have he:=(TK.1 hi).2
    have:=w7 o (by rw [<- he];exact Array.getElem_mem_toList hlt)
    exact ⟨this.1,F5 this.2 (fun _=>undef)⟩
  have back:∀ (i:Nat) (o:Oper),ops[i]? = some o->∀ e ∈ o.after,e.on < i:=fun i o hi e he=>by
    have hlt:=(TK.1 hi).1
    have:=w6 i hlt
    rw [hi] at this
    exact Sw (Array.all_eq_true'.1 this e he)
  have some_ready:∀ (listed:Array Bool),listed.size=ops.size->∀ m,listed.getD m true=false->Region.ready .any ops listed ≠ []:=fun listed hsz=>by
    intro m
    induction m using Nat.strongRecOn with
    | _ m ih =>
      intro hm h0
      have hlt:m < ops.size:=by rw [<- hsz];exact Vh hm
      have hom:ops[m]? = some ops[m]:=by simp [hlt]
      by_cases q:∀ e ∈ ops[m].after,Region.binds .any e=true->listed.getD e.on false=true
      · have:m ∈ Region.ready .any ops listed:=mem_ready.2 ⟨hm,_,hom,q⟩
        rw [h0] at this;cases this
      · obtain ⟨e,he,hbe,hle⟩:∃ e,e ∈ ops[m].after/\Region.binds .any e=true/\¬ listed.getD e.on false=true:=Classical.byContradiction fun n=>q fun e he hb=>Classical.byContradiction fun z=>n ⟨e,he,hb,z⟩
        have X:=back m _ hom e he
        refine ih e.on X ?_ h0
        have:listed.getD e.on false=false:=by simpa using hle
        have h3:e.on < listed.size:=by omega
        simpa [h3] using this
  intro fuel
  induction fuel with
  | zero =>
    intro listed a w hcl hsz hun h
    have h0:=h.1
    rw [hr] at h0
    exact absurd h0 (some_ready listed hsz y hun)
  | succ fuel ih =>
    intro listed a w hcl hsz hun h
    refine ⟨fun h0=>absurd h0 (some_ready listed hsz y hun),fun i hi=>?_⟩
    obtain ⟨hiun,oi,hoi,hall⟩:=mem_ready.1 hi
    have h1:=h.2 i (by rw [hr];exact hi)
    unfold wpOp at h1
    unfold wpOpIn
    by_cases hiy:i=y
    · subst hiy
      rw [hy] at hoi;cases hoi
      have others:∀ j,j < ops.size->j ≠ i->j ≠ z->listed.getD j false=true:=fun j hj h1 h2=>by
        rcases w4 j hj with (q | q) | q
        · exact absurd q h1
        · exact absurd q h2
        · exact kq hcl _ _ _ hy hall q
      have hznl:listed.getD z true=false:=by
        cases q:listed.getD z true with
        | false=>rfl
        | true =>
          have a1:listed.getD z false=true:=by rw [<- q];simp [hsz,w2]
          have:=kq hcl _ _ _ hz (hcl z _ hz a1) w5
          rw [i6 hun] at this;cases this
      have a3:(listed.setIfInBounds i true).size=ops.size:=by simpa using hsz
      have a0:(listed.setIfInBounds i true).getD z true=false:=by rw [getD_set_ne true w3];exact hznl
      have V:∀ j,j < ops.size->j ≠ z->(listed.setIfInBounds i true).getD j false=true:=fun j hj h2=>by
        by_cases q:j=i
        · subst q;simp [hsz,w1]
        · exact getD_set_true (others j hj q h2)
      have zready:z ∈ Region.ready .any ops (listed.setIfInBounds i true):=mem_ready.2 ⟨a0,_,hz,fun e he _=>V _ (Nat.lt_trans (back z _ hz e he) w2) (by have:=back z _ hz e he;omega)⟩
      have only:∀ j,j ∈ Region.ready .any ops (listed.setIfInBounds i true)->j=z:=fun j hj=>by
        obtain ⟨q1,oj,q2,_⟩:=mem_ready.1 hj
        refine Classical.byContradiction fun q=>?_
        have:=V j (TK.1 q2).1 q
        rw [i6 q1] at this;cases this
      have done:Region.ready .any ops ((listed.setIfInBounds i true).setIfInBounds z true)=[]:=by
        refine List.eq_nil_iff_forall_not_mem.2 fun j hj=>?_
        obtain ⟨q1,oj,q2,_⟩:=mem_ready.1 hj
        have hlt:=(TK.1 q2).1
        have:((listed.setIfInBounds i true).setIfInBounds z true).getD j false=true:=by
          by_cases q:j=z
          · subst q;simp [hsz,w2]
          · exact getD_set_true (V j hlt q)
        rw [i6 q1] at this;cases this
      have wy':∀ l,Region.wanted oy' l=true:=fun l=>by rw [ey',ey];rfl
      have wz':∀ l,Region.wanted oz' l=true:=fun l=>by rw [ez',ez];rfl
      have wy:∀ l,Region.wanted oy l=true:=fun l=>by rw [ey];rfl
      have wz:∀ l,Region.wanted oz l=true:=fun l=>by rw [ez];rfl
      simp only [hy',wy',if_true] at h1
      have h2:wpAny P .any ops' Qp fuel (listed.setIfInBounds i true) (a.put (some d) (.bool true)) w:=by
        rcases h1 with h1 | ⟨_,h1⟩
        · rw [ey',ey] at h1;exact h1
        · exact absurd h1 hl
      cases fuel with
      | zero=>exfalso;have:=h2.1;rw [hr] at this;rw [this] at zready;cases zready
      | succ f =>
        have h3:=h2.2 z (by rw [hr];exact zready)
        unfold wpOp at h3
        simp only [hz',wz',if_true] at h3
        have h4:wpAny P .any ops' Qp f ((listed.setIfInBounds i true).setIfInBounds z true) ((a.put (some d) (.bool true)).put (some dz) (.bool false)) w:=by
          rcases h3 with h3 | ⟨_,h3⟩
          · rw [ez',ez] at h3;exact h3
          · exact absurd h3 hl
        have h5:Qp .normal ((a.put (some d) (.bool true)).put (some dz) (.bool false)) w:=by
          cases f with
          | zero=>exact h4.2
          | succ f=>exact h4.1 (by rw [hr];exact done)
        obtain ⟨hd,A,vs,R,hv,hfo,haa,hya,hK⟩:=hQ a w h5
        simp only [hy,wy,if_true]
        rw [ey]
        refine Un hF hfo haa hya hv fun v A' w' hv' hst hR=>?_
        obtain ⟨rfl,hq⟩:=hK v A' w' hR hv' hst
        refine ⟨fun q=>(by rw [q] at zready;cases zready),fun j hj=>?_⟩
        have:=only j hj
        subst this
        unfold wpOpIn
        simp only [hz,wz,if_true]
        rw [ez]
        have hx:(execOp (a.put (some d) (.bool true)).eval { dst:=some dz,op:=.unOp .not tz (.tmp d),type:=tz',pos:=psz,after:=afz,guard:=none }).run P w'=.ok (.value (.bool false)) w':=by
          have:=RA (v:=.bool true) hd
          simp [execOp,this,Op.unary]
        refine ⟨fun f _=>sA hF f,?_⟩
        rw [Oper.semAt_eq _ _ _ (fun c q=>by cases q),hx]
        show wpAnyIn F 0 P .any ops Q f _ _ w'
        cases f with
        | zero=>exact ⟨done,hq⟩
        | succ f=>exact ⟨fun _=>hq,fun k hk=>by rw [done] at hk;cases hk⟩
    · have hiz:i ≠ z:=by
        rintro rfl
        have:=kq hcl _ _ _ hz (by rw [hz] at hoi;cases hoi;exact hall) w5
        rw [i6 hun] at this;cases this
      obtain ⟨g1,g2⟩:=a2 i oi hoi
      have hwt:∀ l,Region.wanted oi l=true:=fun l=>by simp [Region.wanted,g2]
      rw [ho i hiy hiz] at h1
      simp only [hoi,hwt,if_true] at h1 ⊢
      have h2:oi.wp P a w (wpAny P .any ops' Qp fuel (listed.setIfInBounds i true)) Qp:=by
        rcases h1 with h1 | ⟨_,h1⟩
        · exact h1
        · exact absurd h1 hl
      refine Zp hF g1 (fun ch a w q=>absurd q (hp ch a w)) hl (Oper.wp_mono (fun a' w' h3=>?_) h2)
      exact ih _ _ _ (iG hcl hi) (by simpa using hsz) (by rw [getD_set_ne true hiy];exact hun) h3
def Mi (d dz:Nat):Operand->Bool
  | .tmp t=>!(t == d) && !(t == dz)
  | _=>true
theorem zr {d dz:Nat} {x:Operand} (h:Mi d dz x=true):x ≠ .tmp d/\x ≠ .tmp dz:=by
  constructor <;> (rintro rfl;simp [Mi] at h)
theorem fh.drawnYield {Q:Exit->Fr->AH->Prop} {e:ii} {ds:List Deferred} {id:Nat} {ops:Array Oper} (C:List Nat) (y z:Nat) {d dz:Nat} {fo:Operand} {aa:Array Operand} {tt:Array TypeId} {ty tz tz':TypeId} {ps psz:String} {af afz:Array Edge} {l:Nat} {oy oz:Oper} {vs:List Value} {R:Value->AH->Prop}
    (hF:yo F) (hy:ops[y]? = some oy) (hz:ops[z]? = some oz)
    (ey:oy={ dst:=some d,op:=.call { callee:=.value fo,args:=aa,argTypes:=tt },type:=ty,pos:=ps,after:=af,guard:=none })
    (ez:oz={ dst:=some dz,op:=.unOp .not tz (.tmp d),type:=tz',pos:=psz,after:=afz,guard:=none })
    (hw:uj ops y z=true) (hfd:(Mi d dz fo && aa.toList.all (Mi d dz))=true) (hdn:Nat.blt d nt=true) (hm:P.follows .mixedOrders=true)
    (hc:ni ((ops.setIfInBounds y { oy with op:=.move (.const (.bool true)) }).setIfInBounds z { oz with op:=.move (.const (.bool false)) }) (Array.replicate ops.size false) C=true) (hn:Region.noSelect ((ops.setIfInBounds y { oy with op:=.move (.const (.bool true)) }).setIfInBounds z { oz with op:=.move (.const (.bool false)) })=true) (hl:C.length=ops.size)
    (hya:mN P l vs.toArray A R)
    (h:DOps P nt ((ops.setIfInBounds y { oy with op:=.move (.const (.bool true)) }).setIfInBounds z { oz with op:=.move (.const (.bool false)) })
      (fun x f A'=>x=.normal/\A'=A/\cd f.e fo=some (.func (.yield l) #[] #[])/\jV (cd f.e) aa.toList=some vs/\∀ v A2,R v A2->v=.bool true/\Q .normal f A2) (Array.replicate ops.size false) [] C ⟨e,ds⟩ A):fh P nt F (.region id ops true) Q ⟨e,ds⟩ A:=by
  intro a w ha a1
  simp only [XK,Vx] at hfd
  obtain ⟨V,X⟩:=hfd
  have V:=zr V
  obtain ⟨v1,s1⟩:=jF a1
  have hsz:((ops.setIfInBounds y { oy with op:=.move (.const (.bool true)) }).setIfInBounds z { oz with op:=.move (.const (.bool false)) }).size=ops.size:=by simp
  have emp:∀ (os:Array Oper),os.size=ops.size->md os (Array.replicate ops.size false):=fun os hos j o _ hj=>by
    exfalso
    rcases VW j ops.size with q | q
    · simp [q] at hj
    · simp [q] at hj
  have key:=h hc hn a _ ha v1 (fun p hp=>by cases hp) (emp _ hsz) A w s1
  rw [hl] at key
  have key:=kO _ _ _ _ key
  refine wpIn_mono (wpIn_region_any hm (any_y (l:=l) (Q:=d9 nt Q A w) hF ey ez rfl rfl hy hz hw ?_ ?_ ?_ _ _ _ _ (emp _ rfl) (by simp) ?_ key)) (fun _ _ _=>d9.q)
  · rintro ⟨a,w,f',A',_,_,_,q,_⟩;exact absurd q.1 (by simp)
  · rintro ch a w ⟨f',A',_,_,_,q,_⟩;exact absurd q.1 (by simp)
  · rintro a2 w2 ⟨f',A',g1,g2,g3,⟨_,rfl,g5,g6,g7⟩,_⟩
    have a3:a2.tmps.size=nt:=by have:=g1.size;simpa [Act.put] using this
    have hd:=Sw hdn
    have hev:∀ x v,x ≠ .tmp d->x ≠ .tmp dz->cd f'.e x=some v->a2.eval x=v:=fun x v n1 n2 g=>by
      have h5:=cI g1 g
      cases x with
      | tmp t =>
        have t1:t ≠ d:=fun q=>n1 (by rw [q])
        have t2:t ≠ dz:=fun q=>n2 (by rw [q])
        rw [<- h5]
        simp only [Act.eval,Act.put,Array.getD_eq_getD_getElem?]
        rw [Tw (Ne.symm t2),Tw (Ne.symm t1)]
      | _=>exact h5
    refine ⟨by omega,A',vs,R,g2,hev _ _ V.1 V.2 g5,?_,hya,?_⟩
    · apply Array.ext'
      simp only [Array.toList_map]
      have key:∀ (l:List Operand) (us:List Value),(∀ x ∈ l,x ≠ .tmp d/\x ≠ .tmp dz)->jV (cd f'.e) l=some us->l.map a2.eval=us:=by
        intro l
        induction l with
        | nil=>intro us _ h;simp [jV] at h;simp [h]
        | cons x l ih =>
          intro us hx h
          simp only [jV] at h
          split at h
          · rename_i v us' h1 h2
            cases h
            have:=hx x VX
            simp [hev _ _ this.1 this.2 h1,ih _ (fun y hy=>hx y (VZ _ hy)) h2]
          · cases h
      exact key _ _ (fun x hx=>zr (X x hx)) g6
    · intro v A2 w' hR a0 hst
      obtain ⟨r1,r2⟩:=g7 v A2 hR
      exact ⟨r1,f',A2,g1,a0,g3.trans hst,r2,fun _ q=>by cases q⟩
  · have:y < ops.size:=(TK.1 hy).1
    simp [this]
theorem ak.drawnYield {Q:Exit->Fr->AH->Prop} {e:ii} {ds:List Deferred} {id:Nat} {ops:Array Oper} (C:List Nat) (y z:Nat) {d dz:Nat} {fo:Operand} {aa:Array Operand} {tt:Array TypeId} {ty tz tz':TypeId} {ps psz:String} {af afz:Array Edge} {l:Nat} {oy oz:Oper} {vs:List Value} {R:Value->AH->Prop}
    (hy:ops[y]? = some oy) (hz:ops[z]? = some oz)
    (ey:oy={ dst:=some d,op:=.call { callee:=.value fo,args:=aa,argTypes:=tt },type:=ty,pos:=ps,after:=af,guard:=none })
    (ez:oz={ dst:=some dz,op:=.unOp .not tz (.tmp d),type:=tz',pos:=psz,after:=afz,guard:=none })
    (hw:uj ops y z=true) (hfd:(Mi d dz fo && aa.toList.all (Mi d dz))=true) (hdn:Nat.blt d nt=true) (hm:P.follows .mixedOrders=true)
    (hc:ni ((ops.setIfInBounds y { oy with op:=.move (.const (.bool true)) }).setIfInBounds z { oz with op:=.move (.const (.bool false)) }) (Array.replicate ops.size false) C=true) (hn:Region.noSelect ((ops.setIfInBounds y { oy with op:=.move (.const (.bool true)) }).setIfInBounds z { oz with op:=.move (.const (.bool false)) })=true) (hl:C.length=ops.size)
    (hya:mN P l vs.toArray A R)
    (h:DOps P nt ((ops.setIfInBounds y { oy with op:=.move (.const (.bool true)) }).setIfInBounds z { oz with op:=.move (.const (.bool false)) })
      (fun x f A'=>x=.normal/\A'=A/\cd f.e fo=some (.func (.yield l) #[] #[])/\jV (cd f.e) aa.toList=some vs/\∀ v A2,R v A2->v=.bool true/\Q .normal f A2) (Array.replicate ops.size false) [] C ⟨e,ds⟩ A):ak P nt (.region id ops true) Q ⟨e,ds⟩ A :=
  fh.run (fh.drawnYield C y z lq hy hz ey ez hw hfd hdn hm hc hn hl hya h)
end
end V
end Go.Proofs.YtjppkekmddjcfaaGreatDoor
