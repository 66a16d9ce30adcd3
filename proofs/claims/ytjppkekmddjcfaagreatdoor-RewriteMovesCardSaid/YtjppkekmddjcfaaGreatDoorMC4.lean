import Derived.Test.YtjppkekmddjcfaaGreatDoorMC3
import Derived.Test.YtjppkekmddjcfaaGreatDoorMC2
import Derived.Recover
set_option linter.unusedSectionVars false
set_option linter.unusedVariables false
set_option linter.unusedSimpArgs false
namespace Go.Proofs.YtjppkekmddjcfaaGreatDoor
open Go Go.RowKit V
set_option maxRecDepth 100000
theorem Yu:type_of% @Tryz.underlying85:=@Tryz.underlying85

theorem YA (a b:bK):z8 Tryz.prog 85 (.agg #[bg a.conj,num a.rel,.bool a.inv]) (.agg #[bg b.conj,num b.rel,.bool b.inv])=some (decide (a=b)) :=
  UY Yu Y ⟨rfl,rfl,by decide⟩ ⟨rfl,rfl,by decide⟩ ⟨rfl,rfl,by decide⟩ gu df uM u9 u3 u4 a b

theorem PT (v1 v2:Value) (l1 l2:List bK) (A:AH) (hn:l1.length<=9223372036854775807) (V:bI A 3 v1 (cE l1)) (a0:bI A 3 v2 (cE l2)):bz Tryz.prog 55 #[v1,v2] A (fun v A1=>v=.bool (decide (l1=l2))/\A=A1):=by
 refine mf Tryz.call55 Tryz.func55 Z Tryz.results55 Tryz.ntmps55 Z (fun wf=>?_);have D:=AH.le.refl A;refine al.seq fun _ h2=>.region<|.q Z (ae Z)<|.nil<|h2 _ _<|.seq fun _ h4=>.seq fun _ h6=>.region<|.q Z (ah Z)<|.q Z (bF (n:=l1.length) uw Z (V.le D) O (ek _)) ?_;refine Ops.q Z (ah Z)<|.q Z (bF (n:=l2.length) uw Z (a0.le D) O (ek _))<|.q Z (fh Z Z)<|.nil<|h6 _ _<|.if rfl (fun p7=>?_) (fun p7=>?_)
 ·refine al.seq fun _ h9=>.region<|.q Z (ae Z)<|.nil<|h9 _ _<|.rt (by exact aE Z (⟨by (rw [decide_eq_false (fun q=>by have:=congrArg List.length q;omega)];rfl),Z⟩))
 refine al.skip<|h4 _ _<|.seq fun _ a7=>.seq fun _ a8=>.region<|.q Z (ah Z)<|.q Z (bF (n:=l1.length) uw Z (V.le D) O (ek _))<|.q Z (ah Z)<|.nil<|a8 _ _ ?_;refine al.block<|.loop (X:=Nat) (fun k=>[(0,v1),(1,v2),(12,num ((l1.length:Nat):Int)),(13,num ((k:Nat):Int))]) (fun k B=>(k<=l1.length/\l1.length=l2.length/\∀ j,j < k->l1.getD j .zero=l2.getD j .zero)/\A=B) (fun k=>l1.length - k) 0 (mw Z Z Z Z) (⟨⟨Nat.zero_le _,by omega,fun j h=>by omega⟩,Z⟩) ?_;rintro k B15 ⟨⟨hk,hl,hq⟩,rfl⟩;refine al.seq fun _ a9=>.region<|.q Z (bX Z Z)<|.nil<|a9 _ _<|.seq fun _ aa=>.if rfl (fun av=>?_) (fun av=>?_)
 ·refine al.skip<|aa _ _<|.seq fun _ ab=>.block<|.seq fun _ ac=>.region<|.q Z (ah Z)<|.q Z (ae Z)<|.nil<|ac _ _ ?_;refine al.seq fun _ ad=>.drawn [0,1,2,3,4,5,6,7,8] mixed Y Y Z<|.q Z Z Z (ah Z)<|.q Z Z Z (ah Z) ?_;obtain ⟨aG,aP,aD,aZ,aB,aV,aS,a3,ap,a5,a1,az⟩:=bI.at (i:=k) (V.le D) OI O;refine bk.q Z Z Z (aH uw lh Z a3 Z ap)<|.q Z Z Z (an Au lh Z Z a5 (a1.trans (congrArg some (jh O))))<|.q Z Z Z (ah Z)<|.q Z Z Z (ah Z) ?_;obtain ⟨aI,aR,aF,b0,aC,aY,aT,a4,ar,a6,a2,aA⟩:=bI.at (i:=k) (a0.le D) OI O;refine bk.q Z Z Z (aH uw lh Z a4 Z ar)<|.q Z Z Z (an Au lh Z Z a6 (a2.trans (congrArg some (jh O))))<|.q Z Z Z ((XP Z Z (fun _ _ q=>by cases q) (fun _ q=>by cases q) (YA ((l1.getD k .zero)) ((l2.getD k .zero)))).trans (congrArg (fun z=>some (Value.bool z,[])) (decide_not (p:=(l1.getD k .zero)=(l2.getD k .zero))).symm))<|.done<|ad _ _<|.if rfl (fun ay=>?_) (fun ay=>?_)
  ·refine al.seq fun _ ag=>.region<|.q Z (ae Z)<|.nil<|ag _ _<|.rt (by exact aE Z (⟨by (rw [decide_eq_false (Iu (i:=k) ‹_›)];rfl),Z⟩))
  refine al.skip<|ab _ _<|.region<|.q Z (bE (b:=1) Z Z O)<|.q Z (ah Z)<|.nil ?_;exact ⟨k + 1,mw Z Z Z Z,Z,⟨⟨by omega,hl,fun j h=>(Nat.lt_succ_iff_lt_or_eq.1 h).elim (hq j) (fun z=>by subst z;exact Decidable.not_not.1 ‹_›)⟩,Z⟩,O1⟩
 refine al.exit<|a7 _ _<|.seq fun _ ai=>.region<|.q Z (ae Z)<|.nil<|ai _ _<|.rt (by exact aE Z (⟨by (rw [decide_eq_true (tH hl O hq)];rfl),Z⟩))

theorem PW (v1 v2:Value) (l1 l2:List (List UInt8)) (A:AH) (hn:l1.length<=9223372036854775807) (V:bI A 1 v1 (d6 l1)) (a0:bI A 1 v2 (d6 l2)):bz Tryz.prog 56 #[v1,v2] A (fun v A1=>v=.bool (decide (l1=l2))/\A=A1):=by
 refine mf Tryz.call56 Tryz.func56 Z Tryz.results56 Tryz.ntmps56 Z (fun wf=>?_);have D:=AH.le.refl A;refine al.seq fun _ h2=>.region<|.q Z (ae Z)<|.nil<|h2 _ _<|.seq fun _ h4=>.seq fun _ h6=>.region<|.q Z (ah Z)<|.q Z (bF (n:=l1.length) mh Z (V.le D) O (eb _)) ?_;refine Ops.q Z (ah Z)<|.q Z (bF (n:=l2.length) mh Z (a0.le D) O (eb _))<|.q Z (fh Z Z)<|.nil<|h6 _ _<|.if rfl (fun p7=>?_) (fun p7=>?_)
 ·refine al.seq fun _ h9=>.region<|.q Z (ae Z)<|.nil<|h9 _ _<|.rt (by exact aE Z (⟨by (rw [decide_eq_false (fun q=>by have:=congrArg List.length q;omega)];rfl),Z⟩))
 refine al.skip<|h4 _ _<|.seq fun _ a7=>.seq fun _ a8=>.region<|.q Z (ah Z)<|.q Z (bF (n:=l1.length) mh Z (V.le D) O (eb _))<|.q Z (ah Z)<|.nil<|a8 _ _ ?_;refine al.block<|.loop (X:=Nat) (fun k=>[(0,v1),(1,v2),(12,num ((l1.length:Nat):Int)),(13,num ((k:Nat):Int))]) (fun k B=>(k<=l1.length/\l1.length=l2.length/\∀ j,j < k->l1.getD j []=l2.getD j [])/\A=B) (fun k=>l1.length - k) 0 (mw Z Z Z Z) (⟨⟨Nat.zero_le _,by omega,fun j h=>by omega⟩,Z⟩) ?_;rintro k B15 ⟨⟨hk,hl,hq⟩,rfl⟩;refine al.seq fun _ a9=>.region<|.q Z (bX Z Z)<|.nil<|a9 _ _<|.seq fun _ aa=>.if rfl (fun av=>?_) (fun av=>?_)
 ·refine al.skip<|aa _ _<|.seq fun _ ab=>.block<|.seq fun _ ac=>.region<|.q Z (ah Z)<|.q Z (ae Z)<|.nil<|ac _ _ ?_;refine al.seq fun _ ad=>.drawn [0,1,2,3,4,5,6,7,8] mixed Y Y Z<|.q Z Z Z (ah Z)<|.q Z Z Z (ah Z) ?_;obtain ⟨aG,aP,aD,aZ,aB,aV,aS,a3,ap,a5,az,a1⟩:=bI.at (i:=k) (V.le D) Ok O;refine bk.q Z Z Z (aH mh fU Z a3 Z ap)<|.q Z Z Z (ak gu Z Z a5 ((cQ a1).trans (eM O)))<|.q Z Z Z (ah Z)<|.q Z Z Z (ah Z) ?_;obtain ⟨aI,aR,aF,b0,aC,aY,aT,a4,ar,a6,aA,a2⟩:=bI.at (i:=k) (a0.le D) Ok O;refine bk.q Z Z Z (aH mh fU Z a4 Z ar)<|.q Z Z Z (ak gu Z Z a6 ((cQ a2).trans (eM O)))<|.q Z Z Z (pg Z Z)<|.done<|ad _ _<|.if rfl (fun ay=>?_) (fun ay=>?_)
  ·refine al.seq fun _ ag=>.region<|.q Z (ae Z)<|.nil<|ag _ _<|.rt (by exact aE Z (⟨by (rw [decide_eq_false (Iu (i:=k) ‹_›)];rfl),Z⟩))
  refine al.skip<|ab _ _<|.region<|.q Z (bE (b:=1) Z Z O)<|.q Z (ah Z)<|.nil ?_;exact ⟨k + 1,mw Z Z Z Z,Z,⟨⟨by omega,hl,fun j h=>(Nat.lt_succ_iff_lt_or_eq.1 h).elim (hq j) (fun z=>by subst z;exact Decidable.not_not.1 ‹_›)⟩,Z⟩,O1⟩
 refine al.exit<|a7 _ _<|.seq fun _ ai=>.region<|.q Z (ae Z)<|.nil<|ai _ _<|.rt (by exact aE Z (⟨by (rw [decide_eq_true (tH hl O hq)];rfl),Z⟩))

theorem TV (r s:bf) (A:AH) (hn:r.proof.length<=9223372036854775807) (a4:bI A 3 r.pv (cE r.proof)) (a5:bI A 3 s.pv (cE s.proof)):bz Tryz.prog 54 #[.agg #[bg (r.left),bg (r.right),r.pv],.agg #[bg (s.left),bg (s.right),s.pv]] A (fun v A1=>v=.bool (decide (lx true r=lx true s))/\A.le A1/\A1.wf):=by
 refine mf Tryz.call54 Tryz.func54 Z Tryz.results54 Tryz.ntmps54 Z (fun wf=>?_);have a7:=AH.le.refl A;refine al.seq fun _ h2=>.region<|.l Z (fun _ _ a2 _=>dP wf rfl rfl fun A5 b4 a0=>?_);have a6:=a7.trans a0.le;refine a2 _ _<|.l Z (fun _ _ a3 _=>dP a0.wf rfl rfl fun A10 b9 h=>?_);have V:=h.le.get _ _ a0.get;have D:=a6.trans h.le;refine a3 _ _<|.q Z (ae Z)<|.nil<|h2 _ _<|.seq fun _ X=>.region<|.q Z (aj gk fU U Z)<|.q Z (ak gu Z Z V Z)<|.q Z (aj gk fU U Z)<|.q Z (ak gu Z Z h.get Z) ?_;refine Ops.q Z (pb Z Z)<|.q Z (ah Z)<|.part (t:=10) Z (fun a8=>?_) (fun a8=>?_)
 ·refine Ops.on Z Z<|.q Z (aj kS fU U Z)<|.on Z Z<|.q Z (ak gu Z Z V Z)<|.on Z Z<|.q Z (aj kS fU U Z)<|.on Z Z<|.q Z (ak gu Z Z h.get Z)<|.on Z Z<|.q Z (pb Z Z) ?_;refine Ops.q Z (aJ Z Z)<|.q Z (ah Z)<|.part (t:=17) Z (fun a9=>?_) (fun a9=>?_)
  ·refine Ops.on Z Z<|.q Z (aj om qm U Z)<|.on Z Z<|.q Z (ak tf Z Z V Z)<|.on Z Z<|.q Z (aj om qm U Z)<|.on Z Z<|.q Z (ak tf Z Z h.get Z)<|.on Z Z<|.l Z (fun _ _ a1 _=>au Z (PT r.pv s.pv r.proof s.proof A10 hn (a4.le D) (a5.le D)) ?_);rintro aa A20 ⟨rfl,rfl⟩;refine a1 _ _<|.q Z (aJ Z Z)<|.q Z (ae Z)<|.nil<|X _ _<|.rt (by exact aE Z (⟨by simp_all [dX,lx],D,h.wf⟩))
  refine Ops.off Z Z Z Z<|.off Z Z Z Z<|.off Z Z Z Z<|.off Z Z Z Z<|.off Z Z Z Z<|.q Z (aL Z Z)<|.q Z (ae Z)<|.nil<|X _ _<|.rt (by exact aE Z (⟨by simp_all [dX,lx],D,h.wf⟩))
 refine Ops.off Z Z Z Z<|.off Z Z Z Z<|.off Z Z Z Z<|.off Z Z Z Z<|.off Z Z Z Z<|.q Z (aL Z Z)<|.q Z (ah Z)<|.off Z Z Z Z<|.off Z Z Z Z<|.off Z Z Z Z ?_;refine Ops.off Z Z Z Z<|.off Z Z Z Z<|.q Z (aL Z Z)<|.q Z (ae Z)<|.nil<|X _ _<|.rt (by exact aE Z (⟨by simp_all [dX,lx],D,h.wf⟩))

theorem PU (v1 v2:Value) (rs ss:List bf) (A:AH) (hn:rs.length<=9223372036854775807) (hpn:∀ r ∈ rs,r.proof.length<=9223372036854775807) (a9:bI A 3 v1 (dc rs)) (ap:bI A 3 v2 (dc ss)) (ag:Proofs A rs) (ai:Proofs A ss):bz Tryz.prog 57 #[v1,v2,.func (.func 54) #[] #[]] A (fun v A1=>v=.bool (iL true rs ss)/\A.le A1/\A1.wf):=by
 refine uC Tryz.call57 Tryz.func57 Z Tryz.results57 Tryz.ntmps57 Z (fun wf=>?_);have a4:=AH.le.refl A;refine al.seq fun _ h2=>.region<|.q Z (ae Z)<|.nil<|h2 _ _<|.seq fun _ h4=>.seq fun _ h6=>.region<|.q Z (ah Z)<|.q Z (bF (n:=rs.length) rh Z (a9.le a4) O (dE _)) ?_;refine Ops.q Z (ah Z)<|.q Z (bF (n:=ss.length) rh Z (ap.le a4) O (dE _))<|.q Z (fh Z Z)<|.nil<|h6 _ _<|.if rfl (fun p7=>?_) (fun p7=>?_)
 ·refine al.seq fun _ h9=>.region<|.q Z (ae Z)<|.nil<|h9 _ _<|.rt (by exact aE Z (⟨by (rw [Ll ‹_›];rfl),a4,wf⟩))
 refine al.skip<|h4 _ _<|.seq fun _ aS=>.seq fun _ aT=>.region<|.q Z (ah Z)<|.q Z (bF (n:=rs.length) rh Z (a9.le a4) O (dE _))<|.q Z (ah Z)<|.nil<|aT _ _ ?_;refine al.block<|.loop (X:=Nat) (fun k=>[(1,v2),(2,.func (.func 54) #[] #[]),(15,v1),(16,num ((rs.length:Nat):Int)),(17,num ((k:Nat):Int))]) (fun k B=>(k<=rs.length/\rs.length=ss.length/\∀ j,j < k->lx true (rs.getD j .zero)=lx true (ss.getD j .zero))/\A.le B) (fun k=>rs.length - k) 0 (pw Z Z Z Z Z) (⟨⟨Nat.zero_le _,by omega,fun j h=>by omega⟩,a4⟩) ?_;rintro k B15 ⟨⟨hk,hl,hq⟩,a0⟩;refine al.wf fun ab=>.seq fun _ aV=>.region<|.q Z (bX Z Z)<|.nil<|aV _ _<|.seq fun _ aY=>.if rfl (fun ba=>?_) (fun ba=>?_)
 ·refine al.skip<|aY _ _<|.seq fun _ aZ=>.block<|.seq fun _ b0=>.region<|.q Z (ah Z) ?_;obtain ⟨bu,bC,bp,bR,bl,bO,bL,aG,b8,aP,ar,bc⟩:=bI.at (i:=k) (a9.le a0) Oz O;refine Ops.q Z (aH rh iU Z aG Z b8)<|.q Z (an vn iU Z Z aP (ar.trans (congrArg some (i4 O))))<|.l Z (fun _ _ ay _=>cm ab LN rfl fun A29 bv a1=>?_);have a7:=aW wf (Nat.le_trans a0.n a1.lo);have aD:=a0.trans a1.le;refine ay _ _<|.q Z (ae Z)<|.l Z (fun _ _ az _=>be (cs:=[bg ((rs.getD k .zero).left),bg ((rs.getD k .zero).right),(rs.getD k .zero).pv]) (c':=[bg ((rs.getD k .zero).left),bg ((rs.getD k .zero).right),(rs.getD k .zero).pv]) a1.wf rfl rfl rfl rfl iU a1.get (Nat.le_of_ble_eq_true rfl) (kw (ag.get O)) rfl fun A33 V=>?_);have a5:=ao aD wf a7 V.n V.keep;refine az _ _<|.nil<|b0 _ _<|.seq fun _ b1=>.region<|.q Z (ah Z)<|.q Z (ah Z) ?_;obtain ⟨bA,bD,br,bS,bm,bP,bM,aI,b9,aR,av,bd⟩:=bI.at (i:=k) (ap.le a5) Oz O;refine Ops.q Z (aH rh iU Z aI Z b9)<|.q Z (an vn iU Z Z aR (av.trans (congrArg some (i4 O))))<|.l Z (fun _ _ aA _=>cm V.wf LN rfl fun A41 bB D=>?_);have a2:=ne_new V.wf V.get D.lo;have a8:=aW wf (Nat.le_trans a5.n D.lo);have b2:=D.le.get _ _ V.get;have aF:=a5.trans D.le;refine aA _ _<|.l Z (fun _ _ aB _=>be (cs:=[bg ((ss.getD k .zero).left),bg ((ss.getD k .zero).right),(ss.getD k .zero).pv]) (c':=[bg ((ss.getD k .zero).left),bg ((ss.getD k .zero).right),(ss.getD k .zero).pv]) D.wf rfl rfl rfl rfl iU D.get (Nat.le_of_ble_eq_true rfl) (kw (ai.get O)) rfl fun A46 a3=>?_);have b3:=a3.keep _ _ a2 b2;have a6:=ao aF wf a8 a3.n a3.keep;refine aB _ _<|.nil<|b1 _ _<|.seq fun _ b5=>.region<|.q Z (ah Z)<|.q Z (an vn iU Z Z b3 Z)<|.q Z (an vn iU Z Z a3.get Z)<|.l Z (fun _ _ aC _=>pm Z Z (TV ((rs.getD k .zero)) ((ss.getD k .zero)) A46 (hpn _ (bi (d:=bf.zero) O)) ((ag.get O).le a6) ((ai.get O).le a6)) ?_);rintro bT A56 ⟨rfl,ac,ad⟩;have aa:=a6.trans ac;refine aC _ _<|.q Z (jS Z)<|.nil<|b5 _ _<|.if rfl (fun bb=>?_) (fun bb=>?_)
  ·refine al.seq fun _ b6=>.region<|.q Z (ae Z)<|.nil<|b6 _ _<|.rt (by exact aE Z (⟨by (rw [Qz (i:=k) hl O ‹_›];rfl),aa,ad⟩))
  refine al.skip<|aZ _ _<|.region<|.q Z (bE (b:=1) Z Z O)<|.q Z (ah Z)<|.nil ?_;exact ⟨k + 1,pw Z Z Z Z Z,Z,⟨⟨by omega,hl,fun j h=>(Nat.lt_succ_iff_lt_or_eq.1 h).elim (hq j) (fun z=>by subst z;exact Decidable.not_not.1 ‹_›)⟩,aa⟩,O1⟩
 refine al.exit<|aS _ _<|.seq fun _ b7=>.region<|.q Z (ae Z)<|.nil<|b7 _ _<|.rt (by exact aE Z (⟨by (rw [Lm hl O hq];rfl),a0,ab⟩))

theorem Vy (g1:Int) (u1:Value) (l1:List (List UInt8)) (a1:Value) (rs:List bf) (g2:Int) (u2:Value) (l2:List (List UInt8)) (a2:Value) (ss:List bf) (A:AH) (aA:l1.length<=1000000) (aB:l2.length<=1000000) (hn:rs.length<=1000000) (hpn:∀ r ∈ rs,r.proof.length<=1000000000) (ai:bI A 1 u1 (d6 l1)) (ad:bI A 3 a1 (dc rs)) (ab:Proofs A rs) (ap:bI A 1 u2 (d6 l2)) (ag:bI A 3 a2 (dc ss)) (ac:Proofs A ss):bz Tryz.prog 18 #[.agg #[num (g1),u1,a1],.agg #[num (g2),u2,a2]] A (fun v A1=>v=.bool (decide (g1=g2) && decide (l1=l2) && iL true rs ss)/\A.le A1/\A1.wf):=by
 refine mf Tryz.call18 Tryz.func18 Z Tryz.results18 Tryz.ntmps18 Z (fun wf=>?_);have av:=AH.le.refl A;refine al.seq fun _ h2=>.region<|.l Z (fun _ _ a9 _=>dP wf rfl rfl fun A5 b4 a0=>?_);have ar:=av.trans a0.le;refine a9 _ _<|.l Z (fun _ _ aa _=>dP a0.wf rfl rfl fun A10 b9 D=>?_);have V:=D.le.get _ _ a0.get;have h:=ar.trans D.le;refine aa _ _<|.q Z (ae Z)<|.nil<|h2 _ _<|.seq fun _ a8=>.region<|.q Z (ae Z)<|.nil<|a8 _ _<|.seq fun _ X=>?_;refine al.region<|.q Z (aj gj fK U Z)<|.q Z (aj fz cD U Z)<|.q Z (ak df Z Z V Z)<|.q Z (aj gj fK U Z)<|.q Z (aj fz cD U Z)<|.q Z (ak df Z Z D.get Z)<|.q Z (zE Z Z)<|.q Z (ah Z)<|.part (t:=13) Z (fun ay=>?_) (fun ay=>?_)
 ·refine Ops.on Z Z<|.q Z (aj gj fK U Z)<|.on Z Z<|.q Z (aj gV oO U Z)<|.on Z Z<|.q Z (ak n0 Z Z V Z)<|.on Z Z<|.q Z (aj gj fK U Z)<|.on Z Z<|.q Z (aj gV oO U Z) ?_;refine Ops.on Z Z<|.q Z (ak n0 Z Z D.get Z)<|.on Z Z<|.l Z (fun _ _ a5 _=>au Z (PW u1 u2 l1 l2 A10 O (ai.le h) (ap.le h)) ?_);rintro aC A21 ⟨rfl,rfl⟩;refine a5 _ _<|.q Z (aJ Z Z)<|.q Z (ah Z)<|.part (t:=22) Z (fun az=>?_) (fun az=>?_)
  ·refine Ops.on Z Z<|.q Z (aj eF jO U Z)<|.on Z Z<|.q Z (ak kh Z Z V Z)<|.on Z Z<|.q Z (aj eF jO U Z)<|.on Z Z<|.q Z (ak kh Z Z D.get Z)<|.on Z Z<|.q Z (ah Z) ?_;refine Ops.on Z Z<|.l Z (fun _ _ a6 _=>au Z (PU a1 a2 rs ss A10 O (fun r q=>by have:=hpn r q;omega) (ad.le h) (ag.le h) (ab.le h) (ac.le h)) ?_);rintro aD A26 ⟨rfl,a3,a4⟩;have a7:=h.trans a3;refine a6 _ _<|.q Z (aJ Z Z)<|.q Z (ae Z)<|.nil<|X _ _<|.rt (by exact aE Z (⟨by simp_all [dX],a7,a4⟩))
  refine Ops.off Z Z Z Z<|.off Z Z Z Z<|.off Z Z Z Z<|.off Z Z Z Z<|.off Z Z Z Z<|.off Z Z Z Z<|.q Z (aL Z Z)<|.q Z (ae Z)<|.nil<|X _ _ ?_;refine al.ret ?_;repeat first | with_reducible refine bw ?_ | with_reducible refine bj ?_
  exact aE Z (⟨by simp_all [dX],h,D.wf⟩)
 refine Ops.off Z Z Z Z<|.off Z Z Z Z<|.off Z Z Z Z<|.off Z Z Z Z<|.off Z Z Z Z<|.off Z Z Z Z<|.off Z Z Z Z<|.q Z (aL Z Z)<|.q Z (ah Z)<|.off Z Z Z Z ?_;refine Ops.off Z Z Z Z<|.off Z Z Z Z<|.off Z Z Z Z<|.off Z Z Z Z<|.off Z Z Z Z<|.q Z (aL Z Z)<|.q Z (ae Z)<|.nil<|X _ _<|.rt (by exact aE Z (⟨by simp_all [dX],h,D.wf⟩))

end Go.Proofs.YtjppkekmddjcfaaGreatDoor

namespace Go.Proofs.YtjppkekmddjcfaaGreatDoor
open Go Go.RowKit V
theorem V.Fresh.sep0 {A B:AH} {v u:Value} {size s2:Nat} {xs ys:List Value} (h:Fresh A B v size xs) (hu:pu A u s2 ys):bn v u:=fun c hv hc=>by
  obtain ⟨x,hx⟩:=hu.blkget hc
  have:=h.lo c hv
  rw [hx] at this;cases this
def Ry (p:List UInt8) (d:List bK):Bool:=d.all fun c=>decide (p.length + c.conj.length<=100000)
def pT (p:List UInt8) (c:bK):bK:=⟨cJ (p ++ c.conj),c.rel,c.inv⟩
def nx (p:List UInt8) (d:List bK):List bK:=if Ry p d then d.map (pT p) else []
theorem Vn {p:List UInt8} {d:List bK} {i:Nat} (hi:i < d.length) (h:100000 < p.length + (d.getD i .zero).conj.length):Ry p d=false :=
  List.all_eq_false.2 ⟨_,bi (d:=.zero) hi,by simp only [decide_eq_true_eq];omega⟩
theorem SY {p:List UInt8} {d:List bK} {i:Nat} (hi:d.length<=i) (h:∀ j,j < i->p.length + (d.getD j .zero).conj.length<=100000):Ry p d=true :=
  List.all_eq_true.2 fun c hc=>by
    obtain ⟨j,hj,rfl⟩:=List.getElem_of_mem hc
    have:=h j O
    simpa [hj] using this
theorem Ff {p:List UInt8} {d o:List bK} {i:Nat} (hi:i < d.length) (h:o=(d.take i).map (pT p)):o ++ [⟨cJ (p ++ (d.getD i .zero).conj),(d.getD i .zero).rel,(d.getD i .zero).inv⟩]=(d.take (i + 1)).map (pT p):=by
  have e:d.getD i .zero=d[i]:=by simp [hi]
  rw [h,List.take_succ_eq_append_getElem hi,List.map_append,e];rfl
theorem Kg {p:List UInt8} {d o:List bK} {i:Nat} (hi:d.length<=i) (h:o=(d.take i).map (pT p)) (hk:Ry p d=true):o=nx p d:=by
  rw [h,nx,if_pos hk,List.take_of_length_le hi]
theorem Ci (p:List UInt8) (d:List bK):(nx p d).length<=d.length:=by unfold nx;split <;> simp
theorem Om {p:List UInt8} {d:List bK} (h:Ry p d=true):(nx p d).length=d.length:=by rw [nx,if_pos h];simp
theorem od (a b:List bK):dp (a ++ b)=dp a + dp b:=by simp [dp]
theorem vE (c:bK) (d:List bK):dp (c :: d)=c.conj.length + dp d:=by simp [dp]
structure GU where
  word:List UInt8
  steps:Nat
  disk:List bK
def GU.zero:GU:=⟨[],0,[]⟩
structure D4 where
  rest:List UInt8
  stack:List UInt8
  steps:Nat
  disk:List bK
  sum:Nat
abbrev js (q:List UInt8):UInt8:=q.getD (q.length - 1) 0
abbrev o9 (q:List UInt8):List UInt8:=q.take (q.length - 1)
abbrev vW (k q:List UInt8):Prop:=0 < k.length/\js k=js q ^^^ 32
abbrev qq (rs:List bf) (k:List UInt8):bf:=rs.getD (ci rs k).toNat .zero
abbrev vH (rs:List bf) (k:List UInt8):List UInt8:=k.take (k.length - (qq rs k).left.length)
abbrev Cl (rs:List bf) (k:List UInt8):List bK:=nx (vH rs k) (qq rs k).proof
def fits (rs:List bf) (k:List UInt8) (n:Nat) (d:List bK) (m:Nat):Prop :=
  Ry (vH rs k) (qq rs k).proof=true/\n + 1<=20000/\d.length + (qq rs k).proof.length<=100000/\m + dp (Cl rs k)<=1000000
instance (rs:List bf) (k:List UInt8) (n:Nat) (d:List bK) (m:Nat):Decidable (fits rs k n d m):=by unfold fits;infer_instance
def rn (rs:List bf) (s:D4):Option D4 :=
  if vW s.stack s.rest then some ⟨o9 s.rest,o9 s.stack,s.steps,s.disk,s.sum⟩
  else if ci rs (s.stack ++ [js s.rest]) < 0 then some ⟨o9 s.rest,s.stack ++ [js s.rest],s.steps,s.disk,s.sum⟩
  else if fits rs (s.stack ++ [js s.rest]) s.steps s.disk s.sum then
    some ⟨o9 s.rest ++ (qq rs (s.stack ++ [js s.rest])).right.reverse,vH rs (s.stack ++ [js s.rest]),s.steps + 1,s.disk ++ Cl rs (s.stack ++ [js s.rest]),s.sum + dp (Cl rs (s.stack ++ [js s.rest]))⟩
  else none
def ie (rs:List bf):Nat->D4->Option D4
  | 0,_=>none
  | f + 1,s=>if s.rest=[] then some s else match rn rs s with | none=>none | some s'=>ie rs f s'
def xO:Nat:=2001000000
def start (w:List UInt8):D4:=⟨w.reverse,[],0,[],0⟩
def j6 (rs:List bf) (w:List UInt8):Option GU:=(ie rs xO (start w)).map fun s=>⟨s.stack,s.steps,s.disk⟩
section
variable {rs:List bf} {f n m:Nat} {q k:List UInt8} {d:List bK} {R:Option D4}
theorem zL (hf:0 < f) (hq:q.length=0) (h:ie rs f ⟨q,k,n,d,m⟩=R):R=some ⟨q,k,n,d,m⟩:=by
  obtain ⟨f,rfl⟩:∃ g,f=g + 1:=⟨f - 1,by omega⟩
  rw [<- h,ie,if_pos (List.length_eq_zero_iff.1 hq)]
theorem zN (hf:0 < f) (hq:0 < q.length) (h:ie rs f ⟨q,k,n,d,m⟩=R) {s:D4} (e:rn rs ⟨q,k,n,d,m⟩=some s):ie rs (f - 1) s=R:=by
  obtain ⟨f,rfl⟩:∃ g,f=g + 1:=⟨f - 1,by omega⟩
  rw [<- h,ie,if_neg (fun z=>by rw [show q=[] from z] at hq;exact absurd hq (by simp)),e];rfl
theorem TD (hf:0 < f) (hq:0 < q.length) (h:ie rs f ⟨q,k,n,d,m⟩=R) (hc:vW k q):ie rs (f - 1) ⟨o9 q,o9 k,n,d,m⟩=R :=
  zN hf hq h (by rw [rn,if_pos hc])
theorem PH (hf:0 < f) (hq:0 < q.length) (h:ie rs f ⟨q,k,n,d,m⟩=R) (hc:¬ vW k q) (hr:ci rs (k ++ [js q]) < 0):ie rs (f - 1) ⟨o9 q,k ++ [js q],n,d,m⟩=R :=
  zN hf hq h (by rw [rn,if_neg hc,if_pos hr])
theorem PM (hf:0 < f) (hq:0 < q.length) (h:ie rs f ⟨q,k,n,d,m⟩=R) (hc:¬ vW k q) (hr:¬ ci rs (k ++ [js q]) < 0) (hx:fits rs (k ++ [js q]) n d m) :
    ie rs (f - 1) ⟨o9 q ++ (qq rs (k ++ [js q])).right.reverse,vH rs (k ++ [js q]),n + 1,d ++ Cl rs (k ++ [js q]),m + dp (Cl rs (k ++ [js q]))⟩=R :=
  zN hf hq h (by rw [rn,if_neg hc,if_neg hr,if_pos hx])
theorem PG (hf:0 < f) (hq:0 < q.length) (h:ie rs f ⟨q,k,n,d,m⟩=R) (hc:¬ vW k q) (hr:¬ ci rs (k ++ [js q]) < 0) (hx:¬ fits rs (k ++ [js q]) n d m):R=none:=by
  obtain ⟨f,rfl⟩:∃ g,f=g + 1:=⟨f - 1,by omega⟩
  rw [<- h,ie,if_neg (fun z=>by rw [show q=[] from z] at hq;exact absurd hq (by simp)),rn,if_neg hc,if_neg hr,if_neg hx]
theorem mG {o:List UInt8} (h:¬ ci rs o < 0):(ci rs o).toNat < rs.length/\gv o (qq rs o).left=true/\ci rs o=((ci rs o).toNat:Nat):=by
  unfold qq
  unfold ci at h ⊢
  split at h
  · rename_i i hi
    have h1:=List.mem_range.1 (List.mem_of_find?_eq_some hi)
    have h2:=List.find?_some hi
    exact ⟨by simpa using h1,by simpa using h2,by simp⟩
  · exact absurd O h
theorem M7 {o w:List UInt8} (h:gv o w=true):w.length<=o.length:=by simp only [gv,decide_eq_true_eq] at h;exact h.1
theorem MH {u v:List UInt8} (h:fy u v < 0):u.length<=v.length:=by
  unfold fy at h
  split at h
  · split at h <;> omega
  · omega
theorem Py {g:Int} {l:List (List UInt8)} {r:bf} (h:fY g l r=true):r.right.length<=r.left.length:=by
  have:=(fk h).2.2.1
  unfold dy at this
  split at this
  · exact MH this
  · omega
theorem ur {g:Int} {w:List UInt8} (h:jr g w=true):IL w:=j0 (fun q=>q (nS h))
theorem l5 {g:Int} {l:List (List UInt8)} {r:bf} (hs:bZ g l rs=true) (hr:r ∈ rs):r.right.length<=r.left.length/\r.left.length<=1000/\r.proof.length<=100000/\dp r.proof<=1000000/\IL r.right/\IL r.left:=by
  have h:=(gh hs).2.2.1 r hr
  have h2:=fk h
  have h3:jc g l r.proof (r.left ++ ed r.right)=0:=h2.2.2.2
  unfold jc at h3
  split at h3
  · exact absurd h3 ‹_›
  · rename_i hc
    have:=rz (jz hc).2.2
    exact ⟨Py h,kE h2.1,this.1,this.2,ur h2.2.1,ur h2.1⟩
theorem wh {o:List UInt8} (h:¬ ci rs o < 0):qq rs o ∈ rs:=bi (mG h).1
theorem PB {g:Int} {l:List (List UInt8)} {o:List UInt8} (hs:bZ g l rs=true) (h:¬ ci rs o < 0):(ci rs o).toNat < rs.length/\(rs.getD (ci rs o).toNat .zero).left.length<=o.length/\(rs.getD (ci rs o).toNat .zero).right.length<=(rs.getD (ci rs o).toNat .zero).left.length/\(rs.getD (ci rs o).toNat .zero).left.length<=1000/\(rs.getD (ci rs o).toNat .zero).proof.length<=100000/\dp (rs.getD (ci rs o).toNat .zero).proof<=1000000/\0<=ci rs o:=by
  have h1:=mG h
  have h2:=l5 hs (wh h)
  exact ⟨h1.1,M7 h1.2.1,h2.1,h2.2.1,h2.2.2.1,h2.2.2.2.1,by omega⟩
theorem Ou (q r:List UInt8) (hq:0 < q.length):(q.take (q.length - 1) ++ r.reverse).length=q.length - 1 + r.length:=by simp
theorem Ot {q k K r:List UInt8} {W n:Nat} (h:q.length + k.length<=W) (hK:K.length=k.length + 1) (hr:r.length<=n) (hn:n<=K.length) (hq:0 < q.length):(q.take (q.length - 1) ++ r.reverse).length + (K.take (K.length - n)).length<=W:=by
  rw [Ou q r hq,List.length_take];omega
theorem SU {q r:List UInt8} {n f:Nat} (hf:(20000 - n) * 100001 + q.length < f) (hn:n + 1<=20000) (hr:r.length<=1000) (hq:0 < q.length):(20000 - (n + 1)) * 100001 + (q.take (q.length - 1) ++ r.reverse).length < f - 1:=by
  rw [Ou q r hq]
  obtain ⟨e,he⟩:∃ e,20000 - n=e + 1:=⟨20000 - n - 1,by omega⟩
  have h2:20000 - (n + 1)=e:=by omega
  rw [h2];rw [he,Nat.add_mul,Nat.one_mul] at hf
  generalize e * 100001=z at *
  have:z + (q.length - 1 + r.length) + 1 < f:=by
    refine Nat.lt_of_le_of_lt ?_ hf
    have:q.length - 1 + r.length + 1<=100001 + q.length:=by omega
    omega
  omega
def WW (s:D4):GU:=⟨s.stack,s.steps,s.disk⟩
def fw (o:Option GU):GU:=o.getD .zero
theorem ua {w:List UInt8} {s:D4} (h:ie rs xO (start w)=some s):j6 rs w=some (WW s):=by rw [j6,h];rfl
theorem KF {w:List UInt8} (h:ie rs xO (start w)=none):j6 rs w=none:=by rw [j6,h];rfl
def rM (g:Int) (rs:List bf) (w:List UInt8):Option GU:=if bq g w=0/\w.length<=20000 then j6 rs w else none
def lU (g:Int) (rs:List bf) (w:List UInt8):Nat:=if ¬ bq g w=0 then 4 else if (rM g rs w).isSome then 0 else 2
def xx (g:Int) (rs:List bf) (w:List UInt8):GU:=fw (rM g rs w)
variable {g:Int} {w:List UInt8}
theorem Pr (h:¬ bq g w=0):xx g rs w=.zero/\lU g rs w=4:=by simp [xx,rM,lU,h,fw]
theorem Vr (h:¬ ¬ bq g w=0) (hl:20000 < w.length):xx g rs w=.zero/\lU g rs w=2:=by
  have:=Decidable.not_not.1 h
  simp [xx,rM,lU,this,fw,show ¬ w.length<=20000 by omega]
theorem Pq (h:¬ ¬ bq g w=0) (hl:¬ 20000 < w.length):xx g rs w=fw (j6 rs w)/\lU g rs w=if (j6 rs w).isSome then 0 else 2:=by
  have:=Decidable.not_not.1 h
  simp [xx,rM,lU,this,show w.length<=20000 by omega]
def iG (g:Int) (l:List (List UInt8)) (rs:List bf) (w:List UInt8):GU:=if bZ g l rs then xx g rs w else .zero
def ia (g:Int) (l:List (List UInt8)) (rs:List bf) (w:List UInt8):Nat:=if bZ g l rs then lU g rs w else 100
theorem QJ {l:List (List UInt8)} (h:bZ g l rs=false):iG g l rs w=.zero/\ia g l rs w=100:=by simp [iG,ia,h]
theorem oM {l:List (List UInt8)} (h:bZ g l rs=true):iG g l rs w=xx g rs w/\ia g l rs w=lU g rs w:=by simp [iG,ia,h]
theorem sI {o:Option GU} (h:(!o.isSome)=true):o=none:=by cases o <;> simp_all
theorem qe {o:Option GU} (h:(!o.isSome)=false):o=some (fw o):=by cases o <;> simp_all [fw]
end
end Go.Proofs.YtjppkekmddjcfaaGreatDoor

namespace Go.Proofs.YtjppkekmddjcfaaGreatDoor
open Go Go.RowKit V
set_option maxRecDepth 100000
theorem xp:dn Tryz.prog 37=some true:=by kernel_rfl
theorem ol:dB Tryz.prog 37 0=some (9,0):=by kernel_rfl
theorem tm:dB Tryz.prog 37 1=some (3,1):=by kernel_rfl
theorem EH:dB Tryz.prog 37 2=some (35,2):=by kernel_rfl
theorem Wu:Tryz.prog.info? 85=some Tryz.t85:=by kernel_rfl
theorem Ta:c9 Tryz.prog 37=some [(0,1),(1,1),(2,1)]:=by kernel_rfl
theorem XL:c9 Tryz.prog 85=some [(0,1),(1,1),(2,1)]:=by kernel_rfl
theorem ij:da Tryz.prog 37=some 3:=by kernel_rfl
theorem Xy:type_of% @Tryz.underlying37:=@Tryz.underlying37
theorem DT:cx Tryz.prog 37=some (.agg #[.string ⟨⟨[]⟩⟩,.int .i64 0,.slice none 0 0]):=by kernel_rfl

end Go.Proofs.YtjppkekmddjcfaaGreatDoor

namespace Go.Proofs.YtjppkekmddjcfaaGreatDoor
open Go Go.RowKit
namespace V

end V
end Go.Proofs.YtjppkekmddjcfaaGreatDoor

namespace Go.Proofs.YtjppkekmddjcfaaGreatDoor
open Go Go.RowKit
namespace V
section
variable {A B C:AH} {b:Nat} {v v':Value} {size:Nat} {xs ys:List Value}
def Wb (A0 A:AH) (Ds:List Nat):Prop:=Ds.Nodup/\∀ D ∈ Ds,A.get D=some (.obj true (.deferred (some [])))/\A0.get D=none
end
end V
end Go.Proofs.YtjppkekmddjcfaaGreatDoor

namespace Go.Proofs.YtjppkekmddjcfaaGreatDoor
open Go Go.RowKit
namespace V
def vw (ops:Array Oper):Array Bool->List Nat->Nat->Nat->List Nat->List Nat->Bool
  | listed,[],i,j,C,D=>(Region.ready .any ops listed == [i,j]) && mq ops (listed.setIfInBounds i true) C && mq ops (listed.setIfInBounds j true) D && (C.length == D.length)
  | listed,q :: Cq,i,j,C,D=>match ops[q]? with
    | none=>false
    | some o=>dq o.op && (Region.ready .any ops listed).contains q && Region.free .any ops listed q && vw ops (listed.setIfInBounds q true) Cq i j C D
section
variable {P:Program} {nt:Nat} {ops:Array Oper} {Q:Exit->Fr->AH->Prop} {f:Fr} {A:AH}
def o5 (P:Program) (nt:Nat) (ops:Array Oper) (Q:Exit->Fr->AH->Prop) (listed:Array Bool) (held:List (Nat × fH)) (Cq:List Nat) (i j:Nat) (C D:List Nat) (f:Fr) (A:AH):Prop :=
  vw ops listed Cq i j C D=true->Region.noSelect ops=true->∀ a w,cU nt f a->co A w->dQ ops held listed w->kQ ops listed ->
    ∀ (A₀:AH) (w₀:World),eH A₀ w₀ A w->eP P ops (dR nt Q A₀ w₀) (dQ ops held) (Cq.length + (C.length + 1)) listed a w
theorem o5.quiet {listed:Array Bool} {held:List (Nat × fH)} {q i j:Nat} {Cq C D:List Nat} {o:Oper} {v:Value} {T:fH} (ho:ops[q]? = some o) (hq:dq o.op=true) (hd:∀ t,o.dst=some t->t < nt)
    (hv:∀ a w,cU nt f a->co A w->fg T w/\YieldsIf P ops (fg T) o v a)
    (h:o5 P nt ops Q (listed.setIfInBounds q true) ((q,T) :: held) Cq i j C D ⟨fJ f.e o.dst v,f.ds⟩ A):o5 P nt ops Q listed held (q :: Cq) i j C D f A:=by
  intro hc hn a w ha hw hh hcl A₀ w₀ hs
  simp only [vw,ho,Bool.and_eq_true] at hc
  obtain ⟨⟨⟨_,c1⟩,c2⟩,c3⟩:=hc
  obtain ⟨t1,t2⟩:=hv a w ha hw
  have hr:q ∈ Region.ready .any ops listed:=by simpa using c1
  have hheld:dQ ops ((q,T) :: held) listed w:=fun p hp hj=>by
    rcases List.mem_cons.1 hp with rfl | hp
    · exact t1
    · exact hh p hp hj
  have H:=h c3 hn _ w (ha.put o.dst v hd) hw ((jj ho hq _ _).2 hheld) (gU hcl hr) A₀ w₀ hs
  have free:=Region.free_spec ho c2
  have H':eP P ops (dR nt Q A₀ w₀) (dQ ops ((q,T) :: held)) (Cq.length + (C.length + 1) + 1) listed a w :=
    o0 (T:=fg T) ho (Region.noSelect_spec hn) (fun c a w g=>tN _ _ c a w g)
      (fun l w' hcl' hun hS=>hS (q,T) (List.mem_cons_self ..) fun j hl ⟨oj,hoj,_⟩=>by
        cases e:lu ops q ops.size j with
        | false=>rfl
        | true =>
          have:=jT hcl' ops.size j oj hoj (hcl' j oj hoj hl) e
          rw [iu hun] at this;cases this)
      (fun l w'=>jj ho hq l w') _ listed a w hcl (fun j oj hoj hne hun hno=>free j oj hoj hne hun hno) hr t2 hheld H
  have weaken:∀ (fuel:Nat) (l:Array Bool) (a:Act) (w:World),eP P ops (dR nt Q A₀ w₀) (dQ ops ((q,T) :: held)) fuel l a w->eP P ops (dR nt Q A₀ w₀) (dQ ops held) fuel l a w:=by
    intro fuel
    induction fuel with
    | zero=>intro l a w h;exact h
    | succ fuel ih=>intro l a w h;exact ⟨h.1,fun j hj=>wpOp_mono (fun a' w' h'=>⟨fun p hp=>h'.1 p (List.mem_cons_of_mem _ hp),ih _ _ _ h'.2⟩) (h.2 j hj)⟩
  rw [List.length_cons,Nat.add_right_comm]
  exact weaken _ _ _ _ H'
theorem yc {listed:Array Bool} {held:List (Nat × fH)} {i:Nat} {C:List Nat} {o:Oper} {a:Act} {w:World} {A₀:AH} {w₀:World} (ho:ops[i]? = some o) (hq:dq o.op=false) (hd:∀ t,o.dst=some t->t < nt) (hwn:∀ a:Act,cU nt f a->Region.wanted o (yielded ops a.tmps)=true)
    (c2:mq ops (listed.setIfInBounds i true) C=true) (hn:Region.noSelect ops=true) (ha:cU nt f a) (hw:co A w) (hcl:kQ ops listed) (hs:eH A₀ w₀ A w) (hr:i ∈ Region.ready .any ops listed)
    (h:∀ (K:Value->AH->Prop) (Kp:List PanicEntry->AH->Prop),
      (∀ v A',(∀ w',co A' w'->∀ p ∈ held,lu ops p.1 ops.size i=false->fg p.2 w')->bk P nt ops Q (listed.setIfInBounds i true) (held.filter fun p=>!lu ops p.1 ops.size i) C ⟨fJ f.e o.dst v,f.ds⟩ A'->K v A') ->
      (∀ ch A',Q (.panic ch) ⟨[],f.ds⟩ A'->Kp ch A')->kO P f.e A o K Kp) :
    wpOp P ops (dR nt Q A₀ w₀) i (fun a' w'=>dQ ops held (listed.setIfInBounds i true) w'/\eP P ops (dR nt Q A₀ w₀) (dQ ops held) C.length (listed.setIfInBounds i true) a' w') a w:=by
  have hlt:i < listed.size:=by
    have:=(mem_ready.1 hr).1
    rcases Nat.lt_or_ge i listed.size with h' | h'
    · exact h'
    · simp [Array.getElem?_eq_none h'] at this
  have hl:(listed.setIfInBounds i true).getD i false=true:=by simp [hlt]
  unfold wpOp
  simp only [ho,hwn a ha,if_true]
  left
  have:=qM (o:=o) (K:=fun v A'=>(∀ w',co A' w'->∀ p ∈ held,lu ops p.1 ops.size i=false->fg p.2 w')/\bk P nt ops Q (listed.setIfInBounds i true) (held.filter fun p=>!lu ops p.1 ops.size i) C ⟨fJ f.e o.dst v,f.ds⟩ A')
    (Kp:=fun ch A'=>Q (.panic ch) ⟨[],f.ds⟩ A') ha hw (h _ _ (fun v A' g1 g2=>⟨g1,g2⟩) (fun ch A' g=>g))
  unfold Oper.wp at this ⊢
  have up:∀ r,o.upon P a (jQ A a w o fun v A'=>(∀ w',co A' w'->∀ p ∈ held,lu ops p.1 ops.size i=false->fg p.2 w')/\bk P nt ops Q (listed.setIfInBounds i true) (held.filter fun p=>!lu ops p.1 ops.size i) C ⟨fJ f.e o.dst v,f.ds⟩ A') (ii A a w fun ch A'=>Q (.panic ch) ⟨[],f.ds⟩ A') r ->
      o.upon P a (fun a' w'=>dQ ops held (listed.setIfInBounds i true) w'/\eP P ops (dR nt Q A₀ w₀) (dQ ops held) C.length (listed.setIfInBounds i true) a' w') (dR nt Q A₀ w₀) r:=by
    have next:∀ a' w',(jQ A a w o fun v A'=>(∀ w',co A' w'->∀ p ∈ held,lu ops p.1 ops.size i=false->fg p.2 w')/\bk P nt ops Q (listed.setIfInBounds i true) (held.filter fun p=>!lu ops p.1 ops.size i) C ⟨fJ f.e o.dst v,f.ds⟩ A') a' w' ->
        dQ ops held (listed.setIfInBounds i true) w'/\eP P ops (dR nt Q A₀ w₀) (dQ ops held) C.length (listed.setIfInBounds i true) a' w':=by
      rintro a' w' ⟨v,A',rfl,hv',hs',g1,g2⟩
      have hlo:V.loud ops i:=⟨o,ho,hq⟩
      have hh':dQ ops held (listed.setIfInBounds i true) w':=fun p hp hj=>g1 w' hv' p hp (hj i hl hlo)
      refine ⟨hh',?_⟩
      have H:=g2 c2 hn _ w' (ha.put o.dst v hd) hv' (fun p hp hj=>hh' p (List.mem_filter.1 hp).1 hj) (gU hcl hr) A₀ w₀ (hs.trans hs')
      refine kN (x:=i) (fun l w hx hS p hp hj=>hS p (List.mem_filter.2 ⟨hp,?_⟩) hj) _ _ _ _ hl H
      simp [hj i hx hlo]
    have pan:∀ x a' w',ii A a w (fun ch A'=>Q (.panic ch) ⟨[],f.ds⟩ A') x a' w'->dR nt Q A₀ w₀ x a' w':=by
      rintro x a' w' ⟨ch,A',rfl,rfl,hv',hs',g⟩
      exact ⟨⟨[],f.ds⟩,A',⟨ha.size,(fun _ _ q=>by cases q),ha.ds⟩,hv',hs.trans hs',g,fun _ _=>rfl⟩
    intro r hr'
    cases r with
    | ok n w' =>
      cases n <;> simp only [Oper.upon] at hr' ⊢ <;> (try exact hr'.elim)
      case value v=>exact next _ _ hr'
      case skip=>exact next _ _ hr'
      case defer d=>exact next _ _ hr'
      case enter f' args =>
        refine hr'.mono fun e w'' he=>?_
        cases e with
        | returned v=>exact next _ _ he
        | panicked ch=>exact pan _ _ _ he
        | outgrown=>obtain ⟨a₁,w₁,ch,A',q,_⟩:=he;cases q
      case row row args=>exact hr'.mono fun v w'' he=>next _ _ he
    | halt x w' =>
      cases x <;> simp only [Oper.upon] at hr' ⊢ <;> (try exact hr'.elim)
      case panic v=>exact pan _ _ _ hr'
  exact up _ this
variable {e:gI} {ds:List Deferred}
theorem o5.q {listed:Array Bool} {held:List (Nat × fH)} {i j k d:Nat} {Cq C D:List Nat} {op:Op} {ty:TypeId} {ps:String} {af:Array Edge} {v:Value} {T:fH} (ho:ops[k]? = some { dst:=some d,op:=op,type:=ty,pos:=ps,after:=af,guard:=none }) (hq:dq op=true) (hd:Nat.blt d nt=true) (hv:aN P e A op=some (v,T))
    (h:o5 P nt ops Q (listed.setIfInBounds k true) ((k,T) :: held) Cq i j C D ⟨(d,v) :: e,ds⟩ A):o5 P nt ops Q listed held (k :: Cq) i j C D ⟨e,ds⟩ A :=
  o5.quiet (f:=⟨e,ds⟩) (T:=T) (v:=v) ho hq (cW (d:=some d) hd) (fun a w ha hw=>by
    have key:=ga (P:=P) (f:=(⟨e,ds⟩:Fr)) (o:={ dst:=some d,op:=op,type:=ty,pos:=ps,after:=af,guard:=none }) hv ha hw
    exact ⟨key.1,.inl ⟨by simp [Region.wanted],key.2⟩⟩) h
theorem o5.both {listed:Array Bool} {held:List (Nat × fH)} {i j:Nat} {C D:List Nat} {di dj:Option Nat} {opi opj:Op} {ti tj:TypeId} {pi pj:String} {afi afj:Array Edge}
    (hoi:ops[i]? = some { dst:=di,op:=opi,type:=ti,pos:=pi,after:=afi,guard:=none }) (hoj:ops[j]? = some { dst:=dj,op:=opj,type:=tj,pos:=pj,after:=afj,guard:=none }) (hqi:dq opi=false) (hqj:dq opj=false) (hdi:gK nt di=true) (hdj:gK nt dj=true)
    (hi:∀ (K:Value->AH->Prop) (Kp:List PanicEntry->AH->Prop),(∀ v A',aX ops held i A'->bk P nt ops Q (listed.setIfInBounds i true) (held.filter fun p=>!lu ops p.1 ops.size i) C ⟨fJ e di v,ds⟩ A'->K v A') ->
      (∀ ch A',Q (.panic ch) ⟨[],ds⟩ A'->Kp ch A')->kO P e A { dst:=di,op:=opi,type:=ti,pos:=pi,after:=afi,guard:=none } K Kp)
    (hj:∀ (K:Value->AH->Prop) (Kp:List PanicEntry->AH->Prop),(∀ v A',aX ops held j A'->bk P nt ops Q (listed.setIfInBounds j true) (held.filter fun p=>!lu ops p.1 ops.size j) D ⟨fJ e dj v,ds⟩ A'->K v A') ->
      (∀ ch A',Q (.panic ch) ⟨[],ds⟩ A'->Kp ch A')->kO P e A { dst:=dj,op:=opj,type:=tj,pos:=pj,after:=afj,guard:=none } K Kp):o5 P nt ops Q listed held [] i j C D ⟨e,ds⟩ A:=by
  intro hc hn a w ha hw hh hcl A₀ w₀ hs
  simp only [vw,Bool.and_eq_true,beq_iff_eq] at hc
  obtain ⟨⟨⟨c1,c2⟩,c3⟩,c4⟩:=hc
  rw [List.length_nil,Nat.zero_add]
  refine ⟨fun h0=>(by rw [c1] at h0;cases h0),fun k hk=>?_⟩
  have hk':=hk
  rw [c1] at hk'
  simp only [List.mem_cons,List.not_mem_nil,or_false] at hk'
  rcases hk' with rfl | rfl
  · exact yc (C:=C) hoi hqi (cW hdi) (fun a _=>by simp [Region.wanted]) c2 hn ha hw hcl hs hk hi
  · rw [c4];exact yc (C:=D) hoj hqj (cW hdj) (fun a _=>by simp [Region.wanted]) c3 hn ha hw hcl hs hk hj
theorem al.drawnP {id:Nat} (Cq:List Nat) (i j:Nat) (C D:List Nat) (hm:P.follows .mixedOrders=true) (hc:vw ops (Array.replicate ops.size false) Cq i j C D=true) (hn:Region.noSelect ops=true) (hl:Cq.length + (C.length + 1)=ops.size)
    (h:o5 P nt ops Q (Array.replicate ops.size false) [] Cq i j C D f A):al P nt (.region id ops true) Q f A:=by
  intro a w ha hw
  obtain ⟨v1,s1⟩:=jf hw
  refine wp_mono (wp_region_any hm (j9 (Q:=dR nt Q A w) (S:=dQ ops []) _ _ _ _ ?_)) (fun _ _ _=>dR.q)
  have key:=h hc hn a _ ha v1 (fun p hp=>by cases hp) (fun j o _ hj=>by
    exfalso
    rcases Nat.lt_or_ge j ops.size with q | q
    · simp [q] at hj
    · simp [q] at hj) A w s1
  rw [hl] at key
  exact key
end
end V
end Go.Proofs.YtjppkekmddjcfaaGreatDoor

namespace Go.Proofs.YtjppkekmddjcfaaGreatDoor
open Go Go.RowKit
namespace V
section
variable {P:Program} {nt:Nat} {A:AH}

def ke (P:Program) (g:FuncId) (args:Array Value) (u:FrameMode) (A:AH) (Q:Ending->FrameMode->AH->Prop):Prop :=
  ∀ w,co A w->CallsD P g args u w fun e u' w'=>∃ A',co A' w'/\eH A w A' w'/\Q e u' A'

theorem ke.mono {g:FuncId} {args:Array Value} {u:FrameMode} {Q Q':Ending->FrameMode->AH->Prop} (h:ke P g args u A Q)
    (k:∀ e u' A',Q e u' A'->Q' e u' A'):ke P g args u A Q' :=
  fun w hw=>(h w hw).mono fun _ _ _ ⟨A',v,s,q⟩=>⟨A',v,s,k _ _ _ q⟩

def mo (P:Program) (rs:List ResultVar) (e:gI) (Q:Ending->AH->Prop):List Deferred->FrameMode->AH->Prop
  | [],.returning,A=>∃ vs,gB P e A rs=some vs/\Q (.returned (dX vs)) A
  | [],.panicking ch,A=>Q (.panicked ch) A
  | [],.run,_=>False
  | d :: ds,u,A=>u ≠ .run/\∃ fv cap g args,d.target=.fn fv cap/\(∀ w,(invoke d.target d.args).run P w=.ok (.enter g args) w) /\
      ke P g args u A fun
        | .returned _,u',A'=>mo P rs e Q ds (settle u') A'
        | .panicked ch,u',A'=>mo P rs e Q ds (raised u' ch) A'
        | .outgrown,_,_=>False

theorem zp {fn:Func} {e:gI} {a:Act} {Q:Ending->AH->Prop} {A₀:AH} {w₀:World} (hsz:a.tmps.size=nt) (hsl:∀ t v,cu e t=some v->a.tmps.getD t undef=v/\t < nt) :
    ∀ (ds:List Deferred) (u:FrameMode) (A:AH) (w:World),co A w->eH A₀ w₀ A w->mo P fn.results.toList e Q ds u A ->
      Leaves P fn a.tmps (fun en w'=>∃ A',co A' w'/\eH A₀ w₀ A' w'/\Q en A') ds u w:=by
  intro ds
  induction ds with
  | nil =>
    intro u A w hv hs h
    cases u with
    | run=>exact h.elim
    | returning =>
      obtain ⟨vs,hr,hq⟩:=h
      exact ⟨_,jm (nt:=nt) (f:=⟨e,a.defers⟩) (a:=a) ⟨hsz,hsl,Z⟩ hv hr,A,hv,hs,hq⟩
    | panicking ch=>exact ⟨A,hv,hs,h⟩
  | cons d ds ih =>
    intro u A w hv hs h
    obtain ⟨hu,fv,cap,g,args,ht,hi,hc⟩:=h
    refine ⟨hu,fv,cap,g,args,ht,hi w,(hc w hv).mono ?_⟩
    rintro en u' w' ⟨A',hv',hs',hq⟩
    cases en with
    | returned v=>exact ih _ A' w' hv' (hs.trans hs') hq
    | panicked ch=>exact ih _ A' w' hv' (hs.trans hs') hq
    | outgrown=>exact hq.elim

def D8 (P:Program) (rs:List ResultVar) (Q:Ending->AH->Prop):Exit->Fr->AH->Prop
  | .normal,f,A | .ret,f,A=>mo P rs f.e Q f.ds .returning A
  | .panic ch,f,A=>mo P rs f.e Q f.ds (.panicking ch) A
  | _,_,_=>False

theorem Mg {args:List Value} (hn:args.length<=nt):cU nt ⟨rZ args 0,[]⟩ { tmps:=args.toArray ++ Array.replicate (nt - args.toArray.size) undef,defers:=[] }:=by
  refine ⟨by simp;omega,fun t v q=>?_,Z⟩
  obtain ⟨_,h2⟩:=vp args 0 t v q
  simp only [Nat.sub_zero] at h2
  have hlt:t < args.length:=(List.getElem?_eq_some_iff.1 h2).1
  refine ⟨?_,by omega⟩
  simp only [Array.getD_eq_getD_getElem?]
  rw [Array.getElem?_append_left (by simpa using hlt)]
  simp [h2]

theorem gt.enterD {g:FuncId} {fn:Func} {c:Code} {args:List Value} {Qe:Ending->AH->Prop} (he:fx P g) (hf:P.funcs[g]? = some fn) (hb:fn.body=some c) (hn:args.length<=fn.ntmps)
    (h:A.wf->al P fn.ntmps c (D8 P fn.results.toList Qe) ⟨rZ args 0,[]⟩ A):gt P g args.toArray A Qe:=by
  refine ⟨he,fun w hw=>calls_of_wp_defers hf hb ?_⟩
  refine wp_mono (h hw.wf _ w (Mg hn) hw) ?_
  rintro x a' w' ⟨f',A',h1,h2,h3,h4,h5⟩
  cases x <;> simp only [D8] at h4 <;> (try exact h4.elim)
  case normal=>simp only [bodyPostD];rw [h1.ds];exact zp h1.size h1.slot _ _ _ _ h2 h3 h4
  case ret=>simp only [bodyPostD];rw [h1.ds];exact zp h1.size h1.slot _ _ _ _ h2 h3 h4
  case panic ch=>simp only [bodyPostD];rw [h1.ds];exact zp h1.size h1.slot _ _ _ _ h2 h3 h4

def UF (nt:Nat) (Q:Exit->FrameMode->Fr->AH->Prop) (A:AH) (w:World) (c₀:Frame) (cs:List Frame):Exit->Act->List Frame->World->Prop :=
  fun x a' cs' w'=>∃ u' f' A',cs'={ c₀ with mode:=u' } :: cs/\cU nt f' a'/\co A' w'/\eH A w A' w'/\Q x u' f' A'

def ru (P:Program) (nt:Nat) (c:Code) (Q:Exit->FrameMode->Fr->AH->Prop) (u:FrameMode) (f:Fr) (A:AH):Prop :=
  ∀ a w (c₀:Frame) cs,c₀.mode=u->cU nt f a->co A w->c.wpS P (UF nt Q A w c₀ cs) a (c₀ :: cs) w

def tc (P:Program) (nt:Nat) (all:Array Oper) (l:List Nat) (Q:Exit->FrameMode->Fr->AH->Prop) (u:FrameMode) (f:Fr) (A:AH):Prop :=
  ∀ a w (c₀:Frame) cs,c₀.mode=u->cU nt f a->co A w->∀ (A₀:AH) (w₀:World),eH A₀ w₀ A w->wpOpsS P all (UF nt Q A₀ w₀ c₀ cs) l a (c₀ :: cs) w

variable {Q:Exit->FrameMode->Fr->AH->Prop} {u:FrameMode} {f:Fr} {all:Array Oper} {l:List Nat} {e:gI} {ds:List Deferred}

theorem xe {c:Code} {R R':Exit->Act->List Frame->World->Prop} {a:Act} {cs:List Frame} {w:World} (h:c.wpS P R a cs w) (k:∀ x a cs w,R x a cs w->R' x a cs w):c.wpS P R' a cs w :=
  fun b kk hb hr=>let ⟨x,a',cs',w',q,r⟩:=h b kk hb hr;⟨x,a',cs',w',k _ _ _ _ q,r⟩

theorem ru.of_run {c:Code} (h:al P nt c (fun x f A=>Q x u f A) f A):ru P nt c Q u f A:=by
  intro a w c₀ cs hu ha hw
  refine wpS_of_wp (wp_mono (h a w ha hw) ?_)
  rintro x a' w' ⟨f',A',h1,h2,h3,h4,_⟩
  exact ⟨u,f',A',by subst hu;rfl,h1,h2,h3,h4⟩

def Xj (K:FrameMode->Fr->AH->Prop) (Q:Exit->FrameMode->Fr->AH->Prop):Exit->FrameMode->Fr->AH->Prop
  | .normal,u,f,A=>K u f A
  | x,u,f,A=>Q x u f A

theorem ru.seq {x y:Code} (h:ru P nt x (Xj (fun u f A=>ru P nt y Q u f A) Q) u f A):ru P nt (x.seq y) Q u f A:=by
  intro a w c₀ cs hu ha hw
  refine wpS_seq (xe (h a w c₀ cs hu ha hw) ?_)
  rintro e a' cs' w' ⟨u',f',A',rfl,h1,h2,h3,h4⟩
  cases e with
  | normal =>
    refine xe (h4 a' w' { c₀ with mode:=u' } cs Z h1 h2) ?_
    rintro x a'' cs'' w'' ⟨u2,f2,A2,rfl,g1,g2,g3,g4⟩
    exact ⟨u2,f2,A2,Z,g1,g2,h3.trans g3,g4⟩
  | _=>exact ⟨u',f',A',Z,h1,h2,h3,h4⟩

theorem ru.region {id:Nat} {ops:Array Oper} (hl:List.range ops.size=l) (h:tc P nt ops l Q u f A):ru P nt (.region id ops false) Q u f A:=by
  intro a w c₀ cs hu ha hw
  refine wpS_region ?_
  rw [hl]
  exact h a w c₀ cs hu ha hw A w (.refl _ _)

theorem tc.nil (h:Q .normal u f A):tc P nt all [] Q u f A:=by
  intro a w c₀ cs hu ha hw A₀ w₀ hs
  exact ⟨u,f,A,by subst hu;rfl,ha,hw,hs,h⟩

theorem tc.recover {i:Nat} {o:Oper} {d:Nat} {v:Value} {older:List PanicEntry} (ho:all[i]? = some o) (hg:o.guard=none) (hd:o.dst=some d) (hdn:d < nt)
    (hr:∀ ρ w,(execOp ρ o).run P w=.ok .recover w)
    (h:tc P nt all l Q (.panicking ({ v:=v,recovered:=true } :: older)) ⟨(d,v) :: e,ds⟩ A) :
    tc P nt all (i :: l) Q (.panicking ({ v:=v,recovered:=false } :: older)) ⟨e,ds⟩ A:=by
  intro a w c₀ cs hu ha hw A₀ w₀ hs
  simp only [wpOpsS,ho]
  rw [if_pos (by simp [Region.wanted,hg]),hr]
  simp only [recoverD,hu]
  have:=h (a.put o.dst v) w { c₀ with mode:=.panicking ({ v:=v,recovered:=true } :: older) } cs Z (by have:=ha.put o.dst v (by rw [hd];rintro t ⟨⟩;exact hdn);rw [hd] at this ⊢;exact this) hw A₀ w₀ hs
  exact this

theorem tc.recoverNil {i:Nat} {o:Oper} {d:Nat} (ho:all[i]? = some o) (hg:o.guard=none) (hd:o.dst=some d) (hdn:d < nt)
    (hr:∀ ρ w,(execOp ρ o).run P w=.ok .recover w)
    (h:tc P nt all l Q .returning ⟨(d,.nilIface) :: e,ds⟩ A) :
    tc P nt all (i :: l) Q .returning ⟨e,ds⟩ A:=by
  intro a w c₀ cs hu ha hw A₀ w₀ hs
  simp only [wpOpsS,ho]
  rw [if_pos (by simp [Region.wanted,hg]),hr]
  simp only [recoverD,hu]
  have:=h (a.put o.dst .nilIface) w c₀ cs hu (by have:=ha.put o.dst .nilIface (by rw [hd];rintro t ⟨⟩;exact hdn);rw [hd] at this ⊢;exact this) hw A₀ w₀ hs
  exact this

def Mz (P:Program) (rs:List ResultVar) (R:Ending->FrameMode->AH->Prop):Exit->FrameMode->Fr->AH->Prop
  | .normal,u,f,A | .ret,u,f,A=>f.ds=[]/\∃ vs,gB P f.e A rs=some vs/\R (.returned (dX vs)) u A
  | .panic ch,u,f,A=>f.ds=[]/\R (.panicked ch) u A
  | _,_,_,_=>False

theorem ke.enter {g:FuncId} {fn:Func} {c:Code} {args:List Value} {R:Ending->FrameMode->AH->Prop} (hf:P.funcs[g]? = some fn) (hb:fn.body=some c) (hn:args.length<=fn.ntmps)
    (h:A.wf->ru P fn.ntmps c (Mz P fn.results.toList R) u ⟨rZ args 0,[]⟩ A):ke P g args.toArray u A R:=by
  intro w hw
  refine callsD_of_wpS hf hb fun c₀ cs hu=>?_
  refine xe (h hw.wf _ w c₀ cs hu (Mg hn) hw) ?_
  rintro x a' cs' w' ⟨u',f',A',rfl,h1,h2,h3,h4⟩
  cases x <;> simp only [Mz] at h4 <;> (try exact h4.elim)
  case normal=>obtain ⟨q,vs,hr,hq⟩:=h4;exact ⟨h1.ds.trans q,u',Z,_,jm h1 h2 hr,A',h2,h3,hq⟩
  case ret=>obtain ⟨q,vs,hr,hq⟩:=h4;exact ⟨h1.ds.trans q,u',Z,_,jm h1 h2 hr,A',h2,h3,hq⟩
  case panic ch=>exact ⟨h1.ds.trans h4.1,u',Z,A',h2,h3,h4.2⟩
end
theorem FG {P:Program} {t x:TypeId} {fs:Array Field} {v:Value} {w:World} (hu:P.underlying t=some (.struct fs)):(Instr.typeAssert (.iface t v) x t true).run P w=.ok (.tuple #[v,.bool true]) w:=by
  have h1:(underlying t).run P w=.ok (.struct fs) w:=by simp [underlying,go_sem,hu]
  simp [Instr.typeAssert,go_sem,h1]

section
variable {P:Program} {nt:Nat} {A:AH} {Q:Exit->Fr->AH->Prop} {all:Array Oper} {os:List Oper} {e:gI} {ds:List Deferred} {o:Oper}

theorem Ops.raise {v:Value} (hg:o.guard=none) (hr:∀ a:Act,cU nt ⟨e,ds⟩ a->∀ w,co A w->(execOp a.eval o).run P w=.halt (.panic v) w) (h:Q (.panic [{ v:=v,recovered:=false }]) ⟨e,ds⟩ A) :
    Ops P nt all (o :: os) Q ⟨e,ds⟩ A:=by
  intro a w ha hw A₀ w₀ hs
  unfold wpList
  rw [if_pos (by simp [Region.wanted,hg])]
  left
  unfold Oper.wp
  rw [hr a ha w hw]
  exact ⟨⟨e,ds⟩,A,ha,hw,hs,h,fun _ _=>trivial⟩

theorem Ops.val {v:Value} (hg:o.guard=none) (hd:gK nt o.dst=true) (hr:∀ a:Act,cU nt ⟨e,ds⟩ a->∀ w,co A w->(execOp a.eval o).run P w=.ok (.value v) w) (h:Ops P nt all os Q ⟨fJ e o.dst v,ds⟩ A) :
    Ops P nt all (o :: os) Q ⟨e,ds⟩ A:=by
  intro a w ha hw A₀ w₀ hs
  unfold wpList
  rw [if_pos (by simp [Region.wanted,hg])]
  left
  unfold Oper.wp
  rw [hr a ha w hw]
  exact h _ w (ha.put o.dst v (cW hd)) hw A₀ w₀ hs

theorem Ops.defer {d:Deferred} (hg:o.guard=none) (hd:o.dst=none) (hr:∀ a:Act,cU nt ⟨e,ds⟩ a->∀ w,co A w->(execOp a.eval o).run P w=.ok (.defer d) w) (h:Ops P nt all os Q ⟨e,d :: ds⟩ A) :
    Ops P nt all (o :: os) Q ⟨e,ds⟩ A:=by
  intro a w ha hw A₀ w₀ hs
  unfold wpList
  rw [if_pos (by simp [Region.wanted,hg])]
  left
  unfold Oper.wp
  rw [hr a ha w hw]
  simp only [Oper.upon,hd]
  exact h ({ a with defers:=d :: a.defers }:Act) w ⟨ha.size,ha.slot,by have:=ha.ds;simp only at this ⊢;rw [this]⟩ hw A₀ w₀ hs

def yI (P:Program) (g:FuncId) (args:Array Value) (A:AH) (R:Value->AH->Prop) (Rp:List PanicEntry->AH->Prop):Prop:=gt P g args A (Bi R Rp)
theorem yI.ret {g:FuncId} {args:Array Value} {R:Value->AH->Prop} (h:yI P g args A R (fun _ _=>False)):bz P g args A R :=
  gt.mono h fun en A' q=>by
    cases en with
    | returned v=>exact ⟨v,Z,q⟩
    | panicked ch=>exact q.elim
    | outgrown=>exact q.elim
variable {K:Value->AH->Prop} {Kp:List PanicEntry->AH->Prop} {g:Option (Nat × Bool)} {dst:Option Nat} {ty:TypeId} {ps:String} {af:Array Edge}
theorem Rd {gg:FuncId} {vs:List Value} {R:Value->AH->Prop} {Rp:List PanicEntry->AH->Prop} {aa:Array Operand} {tt:Array TypeId} (ha:ju (bQ e) aa.toList=some vs)
    (hc:yI P gg vs.toArray A R Rp) (h:∀ v A',R v A'->K v A') (hp:∀ ch A',Rp ch A'->Kp ch A'):kO P e A { dst:=dst,op:=.call { callee:=.value (.func gg),args:=aa,argTypes:=tt },type:=ty,pos:=ps,after:=af,guard:=g } K Kp:=by
  simp only [kO,vv,bQ,ha]
  refine gt.mono (Q:=Bi R Rp) (by unfold yI at hc;simpa using hc) fun en A' q=>?_
  cases en with
  | returned v=>exact h _ _ q
  | panicked ch=>exact hp _ _ q
  | outgrown=>exact q.elim
theorem M8 {gg:FuncId} {fn:Func} {c:Code} {rs:Array ResultVar} {args:List Value} {a:Array Value} {R:Value->AH->Prop} {Rp:List PanicEntry->AH->Prop} (he:fx P gg) (hf:P.funcs[gg]? = some fn) (hb:fn.body=some c)
    (hr:fn.results=rs) (hnt:fn.ntmps=nt) (ha:args.toArray=a) (hn:Nat.ble args.length nt=true) (hE:rZ args 0=e) (h:A.wf->al P nt c (jg P rs.toList (Bi R Rp)) ⟨e,[]⟩ A):yI P gg a A R Rp:=by
  subst hr;subst hnt;subst ha;subst hE
  exact gt.enter he hf hb (Nat.le_of_ble_eq_true hn) h

theorem enterD {gg:FuncId} {fn:Func} {c:Code} {rs:Array ResultVar} {args:List Value} {a:Array Value} {R:Value->AH->Prop} {Rp:List PanicEntry->AH->Prop} (he:fx P gg) (hf:P.funcs[gg]? = some fn) (hb:fn.body=some c)
    (hr:fn.results=rs) (hnt:fn.ntmps=nt) (ha:args.toArray=a) (hn:Nat.ble args.length nt=true) (hE:rZ args 0=e) (h:A.wf->al P nt c (D8 P rs.toList (Bi R Rp)) ⟨e,[]⟩ A):yI P gg a A R Rp:=by
  subst hr;subst hnt;subst ha;subst hE
  exact gt.enterD he hf hb (Nat.le_of_ble_eq_true hn) h
end
section
variable {P:Program} {A:AH} {e:gI} {r:List ResultVar} {vs:List Value} {v:Value} {t:TypeId} {a b off cap n:Nat} {rw:Bool} {c cs:List Value}
theorem gB.nil:gB P e A []=some []:=rfl
theorem gB.cell {p:Addr} (hx:cu e a=some (.pointer (some p))) (hv:kn P A t (.pointer (some p))=some v) (hr:gB P e A r=some vs):gB P e A (.cell a t :: r)=some (v :: vs):=by
  simp only [gB,hx,hr,hv];rfl
theorem pR (ha:dn P t=some false) (hg:A.get b=some (.row rw c cap)) (hc:c[off]? = some v):kn P A t (.pointer (some ⟨b,off,none⟩))=some v:=by
  simp only [kn,ha];simp [AH.cell,hg,hc]
theorem pQ (ha:dn P t=some true) (hs:da P t=some n) (hg:A.get b=some (.row rw c cap)) (hc:jW c off n=some cs):kn P A t (.pointer (some ⟨b,off,none⟩))=some (.agg cs.toArray):=by
  simp only [kn,ha,hs,Option.bind_some];simp [AH.cellsAt,hg,hc]
end
end V
end Go.Proofs.YtjppkekmddjcfaaGreatDoor

namespace Go.Proofs.YtjppkekmddjcfaaGreatDoor
open Go Go.RowKit
namespace V
section
variable {P:Program} {nt:Nat} {A:AH} {Q:Exit->Fr->AH->Prop} {all:Array Oper} {os:List Oper} {e:gI} {ds:List Deferred} {o:Oper} {x:Operand} {v:Value} {dst:Option Nat} {ty:TypeId} {ps:String} {af:Array Edge} {t:TypeId} {fs:Array Field}
theorem Ops.iface (hu:P.underlying t=some (.struct fs)) (hx:bQ e x=some v) (hd:gK nt dst=true) (h:Ops P nt all os Q ⟨fJ e dst (.iface t v),ds⟩ A) :
    Ops P nt all ({ dst:=dst,op:=.makeInterface t x,type:=ty,pos:=ps,after:=af,guard:=none } :: os) Q ⟨e,ds⟩ A :=
  Ops.val Z hd (fun a ha w hw=>by
    have h5:=cI ha hx
    simp only [execOp,h5,Instr.makeInterface,Sem.run_bind,ca hu,Result.andThen_ok];rfl) h
theorem Ops.panicI (hx:bQ e x=some (.iface t v)) (h:Q (.panic [{ v:=.iface t v,recovered:=false }]) ⟨e,ds⟩ A) :
    Ops P nt all ({ dst:=dst,op:=.panic x,type:=ty,pos:=ps,after:=af,guard:=none } :: os) Q ⟨e,ds⟩ A :=
  Ops.raise Z (fun a ha w hw=>by
    have h5:=cI ha hx
    simp only [execOp,h5,Instr.panic,Sem.run_bind];rfl) h
theorem kG {K:Fr->AH->Prop} {f:Fr} {ch:List PanicEntry} (h:Q (.panic ch) f A):rq K Q (.panic ch) f A:=h
theorem jx {i:Nat} {f:Fr} {ch:List PanicEntry} (h:Q (.panic ch) f A):mZ i Q (.panic ch) f A:=h
theorem iZ {f:Fr} {ch:List PanicEntry} (h:Q (.panic ch) f A):zx Q (.panic ch) f A:=h
variable {rs:List ResultVar} {R:Value->AH->Prop} {Rp:List PanicEntry->AH->Prop} {vs:List Value}
theorem XX (hr:gB P e A rs=some vs) (h:R (dX vs) A):jg P rs (Bi R Rp) .ret ⟨e,[]⟩ A:=⟨rfl,vs,hr,h⟩
theorem WX (hr:gB P e A rs=some vs) (h:R (dX vs) A):jg P rs (Bi R Rp) .normal ⟨e,[]⟩ A:=⟨rfl,vs,hr,h⟩
theorem OQ {ch:List PanicEntry} (h:Rp ch A):jg P rs (Bi R Rp) (.panic ch) ⟨e,[]⟩ A:=⟨rfl,h⟩
end
end V
end Go.Proofs.YtjppkekmddjcfaaGreatDoor

namespace Go.Proofs.YtjppkekmddjcfaaGreatDoor
open Go Go.RowKit V
def cN (l:List Int):List Value:=l.map fun i=>num i
theorem ax (l:List Int):(cN l).length=l.length:=by simp [cN]
theorem eD (l:List Int):(cN l).length=l.length * 1:=by simp [cN]
theorem c6 {l:List Int} {i:Nat} (h:i < l.length):(cN l)[i]? = some (num (l.getD i 0)):=by simp [cN,h]
theorem dt (a b:List Int):cN a ++ cN b=cN (a ++ b):=by simp [cN]
theorem iy (a:List Int) (n:Nat) (c:Int):(cN a).set n (num c)=cN (a.set n c):=by simp [cN,List.map_set]
theorem iw (n:Nat):List.replicate n (num 0)=cN (List.replicate n 0):=by simp [cN]
def ce (l:List Bool):List Value:=l.map fun b=>.bool b
theorem bG (l:List Bool):(ce l).length=l.length:=by simp [ce]
theorem fu (l:List Bool):(ce l).length=l.length * 1:=by simp [ce]
theorem ep {l:List Bool} {i:Nat} (h:i < l.length):(ce l)[i]? = some (.bool (l.getD i false)):=by simp [ce,h]
theorem n5 (a b:List Bool):ce a ++ ce b=ce (a ++ b):=by simp [ce]
theorem li (a:List Bool) (n:Nat) (c:Bool):(ce a).set n (.bool c)=ce (a.set n c):=by simp [ce,List.map_set]
theorem o6 (n:Nat):List.replicate n (.bool false)=ce (List.replicate n false):=by simp [ce]
def tF (r:bf):UInt8:=r.left.getD (r.left.length - 1) 0
def gJ (rs:List bf) (c:UInt8):List Int:=((List.range rs.length).filter fun i=>decide (tF (rs.getD i .zero)=c)).map fun (i:Nat)=>(i:Int)
def py (A:AH) (m:Nat) (rs:List bf):Prop:=∃ rw es ck,∃ E:List (UInt8 × Value),A.get m=some (.obj rw (.map es ck))/\dh ej es E/\∀ c,bI A 1 ((lk E c).getD (.slice none 0 0)) (cN (gJ rs c))
theorem py.le {A B:AH} {m:Nat} {rs:List bf} (h:py A m rs) (le:A.le B):py B m rs:=by
  obtain ⟨rw,es,ck,E,h1,h2,h3⟩:=h
  exact ⟨rw,es,ck,E,le.get _ _ h1,h2,fun c=>(h3 c).le le⟩
theorem Nw {rs:List bf} {c:UInt8} {j:Nat} (hj:j < (gJ rs c).length):∃ i:Nat,(gJ rs c).getD j 0=i/\i < rs.length:=by
  have h:=bi (d:=0) hj
  generalize (gJ rs c).getD j 0=z at h
  simp only [gJ,List.mem_map,List.mem_filter,List.mem_range] at h
  obtain ⟨i,⟨h1,h2⟩,rfl⟩:=h
  exact ⟨i,Z,h1⟩
theorem Sq {rs:List bf} {c:UInt8} {j:Nat} (hj:j < (gJ rs c).length):0<=(gJ rs c).getD j 0/\((gJ rs c).getD j 0).toNat < rs.length/\(gJ rs c).getD j 0=(((gJ rs c).getD j 0).toNat:Nat):=by
  obtain ⟨i,h1,h2⟩:=Nw hj
  rw [h1];exact ⟨by omega,by simpa using h2,by simp⟩
theorem BH (rs:List bf) (c:UInt8):(gJ rs c).length<=rs.length:=by
  simp only [gJ,List.length_map]
  exact Nat.le_trans (List.length_filter_le _ _) (by simp)
theorem M5 {k w:List UInt8} (h:¬ (0:Int)<=(k.length:Int) - (w.length:Int)):gv k w=false:=by
  simp only [gv,decide_eq_false_iff_not];intro q;omega
theorem M0 {k w:List UInt8} (h:(0:Int)<=(k.length:Int) - (w.length:Int)):gv k w=decide (k.drop ((k.length:Int) - (w.length:Int)).toNat=w):=by
  rw [gv,show ((k.length:Int) - (w.length:Int)).toNat=k.length - w.length by omega]
  congr 1;rw [eq_iff_iff];exact ⟨fun q=>q.2,fun q=>⟨by omega,q⟩⟩
theorem JL {o w:List UInt8} (h:gv o w=true) (hw:0 < w.length):w.getD (w.length - 1) 0=o.getD (o.length - 1) 0:=by
  simp only [gv,decide_eq_true_eq] at h
  obtain ⟨h1,h2⟩:=h
  have h3:w.getD (w.length - 1) 0=(o.drop (o.length - w.length)).getD (w.length - 1) 0:=by rw [h2]
  rw [h3]
  simp only [List.getD_eq_getElem?_getD,List.getElem?_drop]
  congr 2;omega
theorem Bw {p q:Nat->Bool} {l:List Nat} (h:∀ x ∈ l,q x=true->p x=true):(l.filter p).find? q=l.find? q:=by
  induction l with
  | nil=>rfl
  | cons x l ih =>
    have ih:=ih fun y hy=>h y (List.mem_cons_of_mem _ hy)
    by_cases hp:p x=true
    · rw [List.filter_cons_of_pos hp,List.find?_cons,List.find?_cons,ih]
    · have hq:q x=false:=by
        cases e:q x with
        | false=>rfl
        | true=>exact absurd (h x List.mem_cons_self e) hp
      rw [List.filter_cons_of_neg hp,ih,List.find?_cons,hq]
theorem uu {rs:List bf} {o:List UInt8} (h0:∀ r ∈ rs,0 < r.left.length) :
    ci rs o=match (gJ rs (o.getD (o.length - 1) 0)).find? (fun i=>gv o (rs.getD i.toNat .zero).left) with | some i=>i | none=>-1:=by
  unfold ci gJ
  rw [List.find?_map]
  have e:((fun i:Int=>gv o (rs.getD i.toNat .zero).left) ∘ fun (i:Nat)=>(i:Int))=fun i:Nat=>gv o (rs.getD i .zero).left:=by funext i;simp
  rw [e,Bw (p:=fun i=>decide (tF (rs.getD i .zero)=o.getD (o.length - 1) 0)) fun x hx hq=>by
    rw [decide_eq_true_iff]
    exact JL hq (h0 _ (bi (d:=.zero) (List.mem_range.1 hx)))]
  cases (List.range rs.length).find? fun i=>gv o (rs.getD i .zero).left <;> rfl
theorem gd {α:Type} {l:List α} {j:Nat} {d:α} (h:j < l.length):l.getD j d=l[j]:=by simp [h]
theorem JT {rs:List bf} {o:List UInt8} {j i:Nat} (h0:∀ r ∈ rs,0 < r.left.length) (hj:j < (gJ rs (o.getD (o.length - 1) 0)).length) (hi:(gJ rs (o.getD (o.length - 1) 0)).getD j 0=i) (hn:∀ k,k < j->gv o (rs.getD ((gJ rs (o.getD (o.length - 1) 0)).getD k 0).toNat .zero).left=false) (h:gv o (rs.getD i .zero).left=true):ci rs o=i:=by
  rw [uu h0]
  generalize gJ rs (o.getD (o.length - 1) 0)=L at *
  have hf:L.find? (fun i=>gv o (rs.getD i.toNat .zero).left)=some (i:Int):=by
    rw [List.find?_eq_some_iff_getElem]
    refine ⟨by simpa using h,j,hj,by rw [<- gd hj];exact hi,fun k hk=>?_⟩
    have:=hn k hk
    rw [gd (show k < L.length by omega)] at this
    rw [this];rfl
  rw [hf]
theorem Nu {rs:List bf} {o:List UInt8} {j:Nat} (h0:∀ r ∈ rs,0 < r.left.length) (hj:(gJ rs (o.getD (o.length - 1) 0)).length<=j) (hn:∀ k,k < j->gv o (rs.getD ((gJ rs (o.getD (o.length - 1) 0)).getD k 0).toNat .zero).left=false):ci rs o = -1:=by
  rw [uu h0]
  generalize gJ rs (o.getD (o.length - 1) 0)=L at *
  have hf:L.find? (fun i=>gv o (rs.getD i.toNat .zero).left)=none:=by
    rw [List.find?_eq_none]
    intro x hx
    obtain ⟨k,hk,rfl⟩:=List.getElem_of_mem hx
    have:=hn k O
    rw [gd hk] at this
    rw [this];decide
  rw [hf]
def EF (x:bf) (k:List UInt8) (n:Nat) (d:List bK) (m:Nat):Prop :=
  Ry (k.take (k.length - x.left.length)) x.proof=true/\n + 1<=20000/\d.length + x.proof.length<=100000/\m + dp (nx (k.take (k.length - x.left.length)) x.proof)<=1000000
def pre (p:List UInt8) (P:List bK) (j:Nat):List bK:=(P.take j).map (pT p)
theorem Tp {p:List UInt8} {P:List bK} {j:Nat} (h:j<=P.length):(pre p P j).length=j:=by simp [pre];omega
theorem CB {p:List UInt8} {P:List bK} {j:Nat} (h:j < P.length):pre p P (j + 1)=pre p P j ++ [⟨cJ (p ++ (P.getD j .zero).conj),(P.getD j .zero).rel,(P.getD j .zero).inv⟩]:=(Ff h Z).symm
theorem CA {p:List UInt8} {P:List bK} {j:Nat} (h:j < P.length):dp (pre p P (j + 1))=dp (pre p P j) + (cJ (p ++ (P.getD j .zero).conj)).length:=by
  rw [CB h,od,vE];rfl
theorem zA {p:List UInt8} {P:List bK} {j:Nat} (hj:P.length<=j) (h:∀ i,i < j->p.length + (P.getD i .zero).conj.length<=100000):pre p P j=nx p P/\Ry p P=true:=by
  have hk:=SY hj h
  exact ⟨Kg hj Z hk,hk⟩
theorem Vq {p:List UInt8} {P:List bK} (j:Nat) (h:Ry p P=true):dp (pre p P j)<=dp (nx p P):=by
  rw [nx,if_pos h,pre,<- List.take_append_drop j P,List.map_append,od,List.take_append_drop]
  exact Nat.le_add_right _ _
theorem U6 {x:bf} {k:List UInt8} {n m:Nat} {d:List bK} (h:20000 < n + 1):¬ EF x k n d m:=fun q=>by have:=q.2.1;omega
theorem U7 {x:bf} {k:List UInt8} {n m:Nat} {d:List bK} (h:100000 < d.length + x.proof.length):¬ EF x k n d m:=fun q=>by have:=q.2.2.1;omega
theorem Va {x:bf} {k:List UInt8} {n m j:Nat} {d:List bK} (hj:j < x.proof.length) (h:100000 < (k.take (k.length - x.left.length)).length + (x.proof.getD j .zero).conj.length):¬ EF x k n d m:=fun q=>by
  have:=q.1;rw [Vn hj h] at this;cases this
theorem Vb {x:bf} {k:List UInt8} {n m j:Nat} {d:List bK} (h:1000000 < m + dp (pre (k.take (k.length - x.left.length)) x.proof j)):¬ EF x k n d m:=fun q=>by
  have:=Vq j q.1;have:=q.2.2.2;omega
theorem Vc {x:bf} {k:List UInt8} {n m j:Nat} {d:List bK} (h1:¬ 20000 < n + 1) (h2:¬ 100000 < d.length + x.proof.length) (hj:x.proof.length<=j) (h:∀ i,i < j->(k.take (k.length - x.left.length)).length + (x.proof.getD i .zero).conj.length<=100000) (hm:m + dp (pre (k.take (k.length - x.left.length)) x.proof j)<=1000000):EF x k n d m:=by
  have:=zA hj h
  exact ⟨this.2,by omega,by omega,by rw [<- this.1];exact hm⟩
end Go.Proofs.YtjppkekmddjcfaaGreatDoor

namespace Go.Proofs.YtjppkekmddjcfaaGreatDoor
open Go Go.RowKit V
set_option maxRecDepth 100000
theorem kg:dn Tryz.prog 102=some false:=by kernel_rfl
theorem Mj:dn Tryz.prog 143=some false:=by kernel_rfl
theorem ik:dB Tryz.prog 145 0=some (102,0):=by kernel_rfl
theorem i8:dB Tryz.prog 147 0=some (145,0):=by kernel_rfl
theorem Ip:dB Tryz.prog 147 1=some (27,1):=by kernel_rfl
theorem ze:dB Tryz.prog 147 2=some (143,4):=by kernel_rfl
theorem kZ:dB Tryz.prog 147 3=some (102,5):=by kernel_rfl
theorem uW:dB Tryz.prog 147 4=some (3,6):=by kernel_rfl
theorem k5:dB Tryz.prog 147 5=some (37,7):=by kernel_rfl
theorem IQ:c9 Tryz.prog 149=some []:=by kernel_rfl
theorem gi:da Tryz.prog 102=some 1:=by kernel_rfl
theorem QL:da Tryz.prog 143=some 1:=by kernel_rfl
theorem pk:da Tryz.prog 145=some 1:=by kernel_rfl
theorem QX:type_of% @Tryz.underlying143:=@Tryz.underlying143
theorem Dx:type_of% @Tryz.underlying149:=@Tryz.underlying149
theorem eB:type_of% @Tryz.underlying67:=@Tryz.underlying67
theorem Ro:cx Tryz.prog 149=some (.agg #[]):=by kernel_rfl
theorem LX:cx Tryz.prog 67=some (.slice none 0 0):=by kernel_rfl

theorem Ul (b:Nat) (kv x1 x2 x3 x4 x5 x6 x7 x8 x9:Value) (k w:List UInt8) (rw:Bool) (cap:Nat) (A:AH) (X:k.length<=1000000) (hw:w.length<=1000000) (hb:A.get b=some (.row rw [kv,x1,x2,x3,x4,x5,x6,x7,x8,x9] cap)) (hk:bI A 1 kv (aq k)):bz Tryz.prog 179 #[.pointer (some ⟨b,0,none⟩),bg (w)] A (fun v A1=>v=.bool (gv k w)/\A=A1):=by
 refine mf Tryz.call179 Tryz.func179 Z Tryz.results179 Tryz.ntmps179 Z (fun wf=>?_);have h:=AH.le.refl A;refine al.seq fun _ h2=>.region<|.q Z (ae Z)<|.nil<|h2 _ _<|.seq fun _ h4=>.region<|.q Z (ah Z)<|.q Z (cM Z)<|.q Z (aj ik gi U Z) ?_;refine Ops.q Z (ak kg Z Z (h.get _ _ hb) Z)<|.q Z (bF (n:=k.length) cT Z (hk.le h) O (eU _))<|.q Z (ah Z)<|.q Z (cw u9 Z)<|.q Z (uH Z Z O)<|.q Z (ae Z)<|.nil<|h4 _ _<|.seq fun _ h6=>.region ?_;refine Ops.q Z (ah Z)<|.q Z (k8 Z Z)<|.q Z (ah Z)<|.part (t:=16) Z (fun p7=>?_) (fun p7=>?_)
 ·refine Ops.on Z Z<|.q Z (ah Z)<|.on Z Z<|.q Z (cM Z)<|.on Z Z<|.q Z (aj ik gi U Z)<|.on Z Z<|.q Z (ak kg Z Z (h.get _ _ hb) Z)<|.on Z Z<|.q Z (ah Z) ?_;refine Ops.on Z Z ?_;have D:=bI.lo (j:=(((k.length:Nat):Int) - ((w.length:Nat):Int)).toNat) (hk.le h) U Oy;rw [Nat.mul_one,vu] at D;refine Ops.q Z (Pk cT kf Z (hk.le h) (eR O) U Oy)<|.on Z Z<|.l Z (fun _ _ V _=>ee (s:=k.drop ((((k.length:Nat):Int) - ((w.length:Nat):Int)).toNat)) Z cT u9 u5 D ?_);refine V _ _<|.on Z Z<|.q Z (ah Z)<|.on Z Z<|.q Z (pb Z Z)<|.q Z (aJ Z Z)<|.q Z (ae Z)<|.nil<|h6 _ _<|.rt (by exact aE Z (⟨by (rw [M0 ‹_›];rfl),Z⟩))
 refine Ops.off Z Z Z Z<|.off Z Z Z Z<|.off Z Z Z Z<|.off Z Z Z Z<|.off Z Z Z Z<|.off Z Z Z Z<|.off Z Z Z Z<|.off Z Z Z Z<|.off Z Z Z Z<|.q Z (aL Z Z) ?_;refine Ops.q Z (ae Z)<|.nil<|h6 _ _<|.rt (by exact aE Z (⟨by (rw [M5 ‹_›];rfl),Z⟩))

theorem Jf (n:Nat) (k:List UInt8) (b:Nat) (kv x1 x2 x3 x4 x5 x6 x7 x8 x9:Value) (A0 A:AH) (a2:A0.le A) (a4:A0.wf) (hb:A.get b=some (.row true [kv,x1,x2,x3,x4,x5,x6,x7,x8,x9] 10)) (a3:A0.get b=none) (fr:Fresh A0 A kv 1 (aq k)) (V:blk kv ≠ some b) (hn:0 < n/\n<=k.length/\k.length<=1000000):bz Tryz.prog 140 #[.pointer (some ⟨b,0,none⟩),num ((n:Nat):Int)] A (fun v A1=>∃ kv2,v=.tuple #[]/\A0.le A1/\A1.wf/\A1.get b=some (.row true [kv2,x1,x2,x3,x4,x5,x6,x7,x8,x9] 10)/\Fresh A0 A1 kv2 1 (aq (k.take (k.length - n)))/\blk kv2 ≠ some b):=by
 refine mf Tryz.call140 Tryz.func140 Z Tryz.results140 Tryz.ntmps140 Z (fun wf=>?_);refine al.drawn [0,1,2,3,4,5,6,7,8,9,10,11,12,13,14,15] mixed Y Y Z<|.q Z Z Z (ah Z)<|.q Z Z Z (ah Z)<|.q Z Z Z (cM Z)<|.q Z Z Z (aj ik gi U Z)<|.q Z Z Z (ak kg Z Z hb Z)<|.q Z Z Z (ah Z)<|.q Z Z Z (cM Z)<|.q Z Z Z (aj ik gi U Z)<|.q Z Z Z (ak kg Z Z hb Z) ?_;refine bk.q Z Z Z (bF (n:=k.length) cT Z fr.slc O (eU _))<|.q Z Z Z (ah Z)<|.q Z Z Z (il Z Z O) ?_;obtain ⟨b3,n3,c3,q3,m3,d3⟩:=fr.nonnil (by intro q;have:=congrArg List.length q;simp only [aU,List.length_nil] at this;omega);subst q3;rw [aU,Nat.mul_one] at m3;have D:=fr.take (k:=k.length - n) O;rw [Nat.mul_one,jV] at D;refine bk.q Z Z Z (lS cT kf Z Z O)<|.q Z Z Z (cM Z)<|.q Z Z Z (aj ik gi U Z)<|.l Z Z Z (fun _ _ a1 _=>be (cs:=[.slice (some ⟨b3,0,none⟩) (k.length - n) c3]) (c':=[.slice (some ⟨b3,0,none⟩) (k.length - n) c3,x1,x2,x3,x4,x5,x6,x7,x8,x9]) wf rfl rfl rfl rfl gi hb (Nat.le_of_ble_eq_true rfl) rfl rfl fun A6 h=>?_);have a0:=D.keep h.keep V;have X:=ao a2 a4 a3 h.n h.keep;refine a1 _ _ (aX.none Y)<|.done ?_;repeat first | with_reducible refine bw ?_ | with_reducible refine bj ?_
 repeat first | with_reducible refine fc ?_ | with_reducible refine eu ?_ | with_reducible refine dY U ?_ | with_reducible refine d4 ?_ | with_reducible refine db ?_
 exact yl (vs:=[]) Z (⟨_,Z,X,h.wf,h.get,a0,V⟩)

theorem Uj (b:Nat) (kv:Value) (g:Int) (u rv:Value) (mb:Nat) (qv:Value) (x6 x7 x8 x9:Value) (rs:List bf) (k:List UInt8) (rw:Bool) (cap:Nat) (A:AH) (b8:0 < k.length/\k.length<=1000000/\rs.length<=1000000) (V:∀ r ∈ rs,0 < r.left.length/\r.left.length<=1000000) (hb:A.get b=some (.row rw [kv,num g,u,rv,.map (some mb),qv,x6,x7,x8,x9] cap)) (hk:bI A 1 kv (aq k)) (hr:bI A 3 rv (dc rs)) (hI:py A mb rs):bz Tryz.prog 141 #[.pointer (some ⟨b,0,none⟩)] A (fun v A1=>v=num (ci rs k)/\A=A1):=by
 refine ic Tryz.call141 Tryz.func141 Z Tryz.results141 Tryz.ntmps141 Z (fun wf=>?_);have D:=AH.le.refl A;obtain ⟨mrw,mes,mck,mE,az,aA,a1⟩:=hI;have a0:=fun r (q:r ∈ rs)=>(V r q).1;have hxl:=BH rs (k.getD (k.length - 1) 0);refine al.seq fun _ h2=>.region<|.q Z (ae Z)<|.nil<|h2 _ _<|.seq fun _ h4=>.seq fun _ h6=>.drawn [0,1,2,3,4,5,6,7,8,9,10,11,12,13,14,15,16,17,20,18,19] mixed Y Y Z<|.q Z Z Z (ah Z)<|.q Z Z Z (cM Z) ?_;refine bk.q Z Z Z (aj ze QL U Z)<|.q Z Z Z (ak Mj Z Z (D.get _ _ hb) Z)<|.q Z Z Z (ah Z)<|.q Z Z Z (cM Z)<|.q Z Z Z (aj i8 pk U Z)<|.q Z Z Z (aj ik gi U Z)<|.q Z Z Z (ak kg Z Z (D.get _ _ hb) Z)<|.q Z Z Z (ah Z)<|.q Z Z Z (cM Z)<|.q Z Z Z (aj i8 pk U Z) ?_;refine bk.q Z Z Z (aj ik gi U Z)<|.q Z Z Z (ak kg Z Z (D.get _ _ hb) Z)<|.q Z Z Z (bF (n:=k.length) cT Z (hk.le D) O (eU _))<|.q Z Z Z (il (b:=1) Z Z O) ?_;obtain ⟨b1,b5,aY,bm,aS,bc,b9,a7,aB,aa,aI,a2⟩:=bI.at (i:=k.length - 1) (hk.le D) Oy O;refine bk.q Z Z Z (aH cT kf Z a7 Z aB)<|.q Z Z Z (ak Mo Z Z aa ((cQ a2).trans (fZ O)))<|.q Z Z Z (ah Z)<|.l Z Z Z (fun _ _ a5 _=>qx sk Z Z QX u5 LX az aA ?_);refine a5 _ _ (aX.none Y)<|.q Z Z Z (bF (n:=(gJ rs (k.getD (k.length - 1) 0)).length) eB Z ((a1 (k.getD (k.length - 1) 0)).le D) O (eD _))<|.done<|h6 _ _<|.block<|.loop (X:=Nat) (fun j=>[(0,.pointer (some ⟨b,0,none⟩)),(23,(lk mE (k.getD (k.length - 1) 0)).getD (.slice none 0 0)),(24,num (((gJ rs (k.getD (k.length - 1) 0)).length:Nat):Int)),(25,num ((j:Nat):Int))]) (fun j B=>(j<=(gJ rs (k.getD (k.length - 1) 0)).length/\∀ i,i < j->gv k (rs.getD ((gJ rs (k.getD (k.length - 1) 0)).getD i 0).toNat .zero).left=false)/\A=B) (fun j=>(gJ rs (k.getD (k.length - 1) 0)).length - j) 0 (mw Z Z Z Z) (⟨⟨Nat.zero_le _,fun i h=>by omega⟩,Z⟩) ?_;rintro j B14 ⟨⟨hj,hq⟩,rfl⟩;have hio:=fun q:j < (gJ rs (k.getD (k.length - 1) 0)).length=>Sq q;have hlo:=fun q:j < (gJ rs (k.getD (k.length - 1) 0)).length=>V _ (bi (d:=bf.zero) (hio q).2.1);refine al.seq fun _ ad=>.region<|.q Z (bX Z Z)<|.nil<|ad _ _<|.seq fun _ ag=>.if rfl (fun aF=>?_) (fun aF=>?_)
 ·refine al.skip<|ag _ _<|.seq fun _ ai=>.block<|.seq fun _ ap=>.region ?_;obtain ⟨b2,b6,aZ,bp,aT,bd,ba,a8,aC,ab,aP,a3⟩:=bI.at (i:=j) ((a1 (k.getD (k.length - 1) 0)).le D) Of O;refine Ops.q Z (aH eB cD Z a8 Z aC)<|.q Z (ak df Z Z ab ((cQ a3).trans (c6 O)))<|.q Z (ae Z)<|.nil<|ap _ _<|.seq fun _ ar=>.drawn [0,1,2,3,4,5,6,7,8,9,10,11,12] mixed Y Y Z<|.q Z Z Z (ah Z)<|.q Z Z Z (cM Z)<|.q Z Z Z (aj i8 pk U Z) ?_;refine bk.q Z Z Z (ah Z)<|.q Z Z Z (cM Z)<|.q Z Z Z (aj Ip eO U Z)<|.q Z Z Z (aj eF jO U Z)<|.q Z Z Z (ak kh Z Z (D.get _ _ hb) Z)<|.q Z Z Z (ah Z) ?_;obtain ⟨b3,b7,b0,br,aV,bl,bb,a9,aD,ac,aR,a4⟩:=bI.at (i:=((gJ rs (k.getD (k.length - 1) 0)).getD j 0).toNat) (hr.le D) (by simp only [dF];have:=hio O;omega) O;refine bk.q Z Z Z (aH rh iU Z a9 (eR (by have:=hio O;omega)) aD)<|.q Z Z Z (aj gk fU U Z)<|.q Z Z Z (ak gu Z Z ac ((a4 0 U).trans (wx (by have:=hio O;omega))))<|.l Z Z Z (fun _ _ a6 _=>au Z (Ul b kv (num (g)) u rv (.map (some mb)) qv x6 x7 x8 x9 k ((rs.getD (((gJ rs (k.getD (k.length - 1) 0)).getD j 0).toNat) .zero).left) _ _ A O (hlo O).2 (D.get _ _ hb) (hk.le D)) ?_);rintro bu A32 ⟨rfl,rfl⟩;refine a6 _ _ (aX.none Y)<|.done<|ar _ _<|.ifB Z (fun aG=>?_) (fun aG=>?_)
  ·refine al.seq fun _ av=>.region<|.q Z (ah Z)<|.q Z (ae Z)<|.nil<|av _ _<|.rt (by exact aE Z (⟨by (rw [JT a0 ‹_› (hio O).2.2 hq ‹_›,<- (hio O).2.2];rfl),Z⟩))
  refine al.skip<|ai _ _<|.region<|.q Z (bE (b:=1) Z Z O)<|.q Z (ah Z)<|.nil ?_;exact ⟨j + 1,mw Z Z Z Z,Z,⟨⟨by omega,fun i h=>(Nat.lt_succ_iff_lt_or_eq.1 h).elim (hq i) (fun z=>by subst z;assumption)⟩,Z⟩,O1⟩
 refine al.exit<|h4 _ _<|.seq fun _ ay=>.region<|.q Z (ae Z)<|.nil<|ay _ _<|.rt (by exact aE Z (⟨by (rw [Nu a0 O hq];rfl),Z⟩))

theorem De (w q:List UInt8) (b:Nat) (x0 x1 x2 x3 x4 qv x6 x7 x8 x9:Value) (A0 A:AH) (aI:A0.le A) (ag:A0.wf) (hb:A.get b=some (.row true [x0,x1,x2,x3,x4,qv,x6,x7,x8,x9] 10)) (aR:A0.get b=none) (fr:Fresh A0 A qv 1 (aq q)) (aP:blk qv ≠ some b) (hn:w.length + q.length<=1000000):bz Tryz.prog 139 #[.pointer (some ⟨b,0,none⟩),bg (w)] A (fun v A1=>∃ qv2,v=.tuple #[]/\A0.le A1/\A1.wf/\A1.get b=some (.row true [x0,x1,x2,x3,x4,qv2,x6,x7,x8,x9] 10)/\Fresh A0 A1 qv2 1 (aq (q ++ w.reverse))/\blk qv2 ≠ some b):=by
 refine mf Tryz.call139 Tryz.func139 Z Tryz.results139 Tryz.ntmps139 Z (fun wf=>?_);refine al.seq fun _ h2=>.region<|.q Z (ah Z)<|.q Z (cw u9 Z)<|.q Z (uH Z Z O)<|.q Z (ae Z)<|.nil<|h2 _ _<|.block<|.loop (X:=Nat × List UInt8 × Value) (fun ⟨j,o,s⟩=>[(0,.pointer (some ⟨b,0,none⟩)),(1,bg (w)),(4,num ((j:Int) - 1))]) (fun ⟨j,o,s⟩ B=>(j<=w.length/\o=q ++ (w.drop j).reverse)/\A0.le B/\Fresh A0 B s 1 (aq o)/\B.get b=some (.row true [x0,x1,x2,x3,x4,s,x6,x7,x8,x9] 10)/\V.blk s ≠ some b) (fun ⟨j,o,s⟩=>j) (⟨w.length,q,qv⟩) (am.cons Z<|am.cons Z<|am.cons (congrArg (fun z:Int=>some (num z)) O)<|am.nil _) (⟨⟨Nat.le_refl _,by simp⟩,aI,fr,hb,aP⟩) ?_;rintro ⟨j,o,s⟩ B4 ⟨⟨hj,ho⟩,ad,a4,a0,a1⟩;refine al.wf fun ab=>?_;have hlo:o.length=q.length + (w.length - j):=by rw [ho];simp
 have htn:((j:Int) - 1).toNat=j - 1:=by omega
 refine al.seq fun _ h7=>.seq fun _ h9=>.region<|.q Z (ah Z)<|.q Z (k8 Z Z)<|.nil<|h9 _ _<|.if rfl (fun aS=>?_) (fun aS=>?_)
 ·refine al.skip<|h7 _ _<|.seq fun _ aF=>.block<|.drawn [0,1,2,3,4,5,6,7,8,9,10,11,12] mixed Y Y Z<|.q Z Z Z (ah Z)<|.q Z Z Z (ah Z)<|.q Z Z Z (cM Z)<|.q Z Z Z (aj kZ gi U Z) ?_;have ap:=c5 (off:=5) a0 (show _=some (s) from rfl);refine bk.q Z Z Z (ak kg Z Z a0 Z)<|.q Z Z Z (ah Z)<|.q Z Z Z (ah Z)<|.q Z Z Z (lR u9 Z (eR O) O)<|.l Z Z Z (fun _ _ av _=>aM (c:=[ej (w.getD ((j:Int) - 1).toNat 0)]) ab rfl (aw cT kf z5 rfl U U rfl) fun A16 aV D=>?_);have aD:=ne_new ab a0 D.lo;have ac:=D.le.get _ _ a0;have a6:=a4.le D.le;have ar:=cr D.le ap;have aA:=ad.trans D.le;refine av _ _ (aX.list (L:=[(⟨b,5,none⟩,s)]) Y (bx ar cO))<|.l Z Z Z (fun _ _ ay _=>cR (ys:=[ej (w.getD ((j:Int) - 1).toNat 0)]) rfl rfl cT kf uE z5 rfl U cT (fun _ h=>by cases h) a6.own (bW (n:=1) D.get Z) rfl rfl (by show (_ + _) * 1<=_;simp only [aU,List.length_cons,List.length_nil];(try simp only [List.length_append,List.length_cons,List.length_nil]);omega) O3 fun A24 aY a2=>?_);rw [show ([ej (w.getD ((j:Int) - 1).toNat 0)]:List Value)=aq [w.getD ((j:Int) - 1).toNat 0] from rfl,eI] at a2;obtain ⟨a7,aB⟩:=Fresh.grow a6 aA ag a2;have aG:=a2.keep a1 ac;have a9:=a2.ne a1 D.wf ac;refine ay _ _ (aX.none Y)<|.q Z Z Z (cM Z)<|.q Z Z Z (aj kZ gi U Z) ?_;obtain ⟨aa,a8,a5,aT,_⟩:=a7.own.slice;subst aT;refine bk.l Z Z Z (fun _ _ az _=>be (cs:=[.slice aa a8 a5]) (c':=[x0,x1,x2,x3,x4,.slice aa a8 a5,x6,x7,x8,x9]) a2.wf rfl rfl rfl rfl gi aG (Nat.le_of_ble_eq_true rfl) rfl rfl fun A36 a3=>?_);have ai:=a7.keep a3.keep a9;have aC:=ao aB ag aR a3.n a3.keep;refine az _ _ (aX.none Y)<|.done<|aF _ _<|.region<|.q Z (ah Z)<|.q Z (uH Z Z O)<|.q Z (ae Z)<|.nil ?_;exact ⟨⟨j - 1,o ++ [w.getD ((j:Int) - 1).toNat 0],.slice aa a8 a5⟩,am.cons Z<|am.cons Z<|am.cons (congrArg (fun z:Int=>some (num z)) O)<|am.nil _,Z,⟨⟨by omega,by rw [ho,htn,List.append_assoc,Px O hj]⟩,aC,ai,a3.get,a9⟩,O1⟩
 refine al.exit ?_;repeat first | with_reducible refine bw ?_ | with_reducible refine bj ?_
 repeat first | with_reducible refine fc ?_ | with_reducible refine eu ?_ | with_reducible refine dY U ?_ | with_reducible refine d4 ?_ | with_reducible refine db ?_
 exact yl (vs:=[]) Z (⟨_,Z,ad,ab,a0,cy a4 (congrArg aq (by rw [ho,show j=0 by omega];rfl)),a1⟩)

theorem Xc (zi:Int) (i:Nat) (hzi:zi=(i:Int)) (rs:List bf) (k q:List UInt8) (d:List bK) (n m:Nat) (b0:Nat) (kv:Value) (g:Int) (u rv:Value) (mb:Nat) (qv x7 dv:Value) (A0 A:AH) (bV:A0.le A) (aD:A0.wf) (hb:A.get b0=some (.row true [kv,num g,u,rv,.map (some mb),qv,num ((m:Nat):Int),x7,num ((n:Nat):Int),dv] 10)) (bb:A0.get b0=none) (frk:Fresh A0 A kv 1 (aq k)) (frq:Fresh A0 A qv 1 (aq q)) (frd:Fresh A0 A dv 3 (cE d)) (nk:blk kv ≠ some b0) (nq:blk qv ≠ some b0) (nd:blk dv ≠ some b0) (skq:bn kv qv) (skd:bn kv dv) (sqd:bn qv dv) (hi:i < rs.length/\rs.length<=1000000) (hx:(rs.getD i .zero).left.length<=k.length/\0 < (rs.getD i .zero).left.length/\k.length<=100000/\(rs.getD i .zero).right.length + q.length<=100000) (hd:d.length<=100000/\n<=20000/\m<=1000000/\(rs.getD i .zero).proof.length<=100000/\dp (rs.getD i .zero).proof<=1000000) (hL:gO A0) (hr:bI A0 3 rv (dc rs)) (hp:Proofs A0 rs):yI Tryz.prog 142 #[.pointer (some ⟨b0,0,none⟩),num (zi)] A (fun v A1=>∃ kv2 qv2 dv2,v=.tuple #[]/\A0.le A1/\A1.wf/\A1.get b0=some (.row true [kv2,num g,u,rv,.map (some mb),qv2,num ((m + dp (nx (k.take (k.length - (rs.getD i .zero).left.length)) (rs.getD i .zero).proof):Nat):Int),x7,num ((n + 1:Nat):Int),dv2] 10)/\Fresh A0 A1 kv2 1 (aq (k.take (k.length - (rs.getD i .zero).left.length)))/\Fresh A0 A1 qv2 1 (aq (q ++ (rs.getD i .zero).right.reverse))/\Fresh A0 A1 dv2 3 (cE (d ++ (nx (k.take (k.length - (rs.getD i .zero).left.length)) (rs.getD i .zero).proof)))/\blk kv2 ≠ some b0/\blk qv2 ≠ some b0/\blk dv2 ≠ some b0/\bn kv2 qv2/\bn kv2 dv2/\bn qv2 dv2/\EF (rs.getD i .zero) k n d m) (fun ch A1=>¬ EF (rs.getD i .zero) k n d m/\ch=[{ v:=.iface 149 (.agg #[]),recovered:=false }]/\A0.le A1/\A1.wf/\∃ y0 y5 y6 y7 y8 y9,A1.get b0=some (.row true [y0,num g,u,rv,.map (some mb),y5,y6,y7,y8,y9] 10)):=by
 refine M8 (e:=[(0,.pointer (some ⟨b0,0,none⟩)),(1,num (zi))]) (args:=[.pointer (some ⟨b0,0,none⟩),num (zi)]) Tryz.call142 Tryz.func142 Z Tryz.results142 Tryz.ntmps142 Z Z Z (fun wf=>?_);subst hzi;refine al.seq fun _ h2=>.region<|.q Z (ah Z)<|.q Z (cM Z)<|.q Z (aj Ip eO U Z)<|.q Z (aj eF jO U Z)<|.q Z (ak kh Z Z hb Z)<|.q Z (ah Z) ?_;obtain ⟨b3,f3,gG,r3,gF,n3,k3,e3,l3,g3,fD,gs⟩:=bI.at (i:=i) (hr.le bV) Oz O;refine Ops.q Z (aH rh iU Z e3 Z l3)<|.q Z (an vn iU Z Z g3 (fD.trans (congrArg some (i4 O))))<|.l Z (fun _ _ g5 _=>cm wf LN rfl fun A6 b5 ay=>?_);have ap:=ne_new wf hb ay.lo;have e7:=frk.own.ne_new wf ay.lo;have e9:=frq.own.ne_new wf ay.lo;have fm:=frd.own.ne_new wf ay.lo;have dj:=aW aD (Nat.le_trans bV.n ay.lo);have fL:=ay.le.get _ _ hb;have ec:=frk.le ay.le;have eg:=frq.le ay.le;have en:=frd.le ay.le;have fd:=bV.trans ay.le;refine g5 _ _<|.l Z (fun _ _ f2 _=>be (cs:=[bg ((rs.getD i .zero).left),bg ((rs.getD i .zero).right),(rs.getD i .zero).pv]) (c':=[bg ((rs.getD i .zero).left),bg ((rs.getD i .zero).right),(rs.getD i .zero).pv]) ay.wf rfl rfl rfl rfl iU ay.get (Nat.le_of_ble_eq_true rfl) (kw (hp.get hi.1)) rfl fun A17 av=>?_);have fM:=av.keep _ _ ap fL;have bA:=ec.keep av.keep e7;have bB:=eg.keep av.keep e9;have bC:=en.keep av.keep fm;have fe:=ao fd aD dj av.n av.keep;refine f2 _ _<|.nil<|h2 _ _<|.seq fun _ fN=>.drawn [0,1,2,3,4,5,6] mixed Y Y Z<|.q Z Z Z (ah Z)<|.q Z Z Z (cM Z)<|.q Z Z Z (aj i8 pk U Z)<|.q Z Z Z (aj gk fU U Z)<|.q Z Z Z (ak gu Z Z av.get Z) ?_;refine bk.q Z Z Z (cw u9 Z) ?_;have bT:=cd (bs:=[some b0,blk kv]) fe (uD bb (s8 bA.lo px));refine bk.l Z Z Z (fun _ _ f4 _=>au Z (Jf (((rs.getD i .zero).left).length) k b0 kv (num (g)) u rv (.map (some mb)) qv (num ((m:Nat):Int)) x7 (num ((n:Nat):Int)) dv (A17.hide [some b0,blk kv]) A17 (cz A17 [some b0,blk kv]) (cg av.wf) fM (cn (by simp)) (bA.hide (by simp)) nk O) ?_);rintro gL A30 ⟨a5,rfl,aS,e1,bd,aF,a8⟩;have f0:=bN (bs:=[some b0,blk kv]) av.get (rd ap.symm (oD e7 m7));have e4:=aS.get _ _ f0;have c4:=aF.sep bB.own (ks nq (jF skq kr));have bD:=bB.off (ks nq (jF skq kr)) aS;have fr:=aF.sep bC.own (ks nd (jF skd kr));have bL:=bC.off (ks nd (jF skd kr)) aS;have bM:=aF.base bT;have fi:=bT.trans aS;refine f4 _ _ (aX.none Y)<|.done<|fN _ _<|.seq fun _ fO=>.region<|.q Z (ah Z)<|.q Z (aj kS fU U Z)<|.q Z (ak gu Z Z e4 Z) ?_;have bU:=cd (bs:=[some b0,blk qv]) fi (uD bb (s8 bD.lo px));refine Ops.l Z (fun _ _ f5 _=>au Z (De ((rs.getD i .zero).right) q b0 a5 (num (g)) u rv (.map (some mb)) qv (num ((m:Nat):Int)) x7 (num ((n:Nat):Int)) dv (A30.hide [some b0,blk qv]) A30 (cz A30 [some b0,blk qv]) (cg e1) bd (cn (by simp)) (bD.hide (by simp)) nq O) ?_);rintro gM A46 ⟨a9,rfl,aT,e2,aV,aG,aC⟩;have f1:=bN (bs:=[some b0,blk qv]) e4 (rd ap.symm (oD e9 m7));have fQ:=aT.get _ _ f1;have ft:=aG.sep bL.own (ks nd (jF sqd kr));have ev:=bL.off (ks nd (jF sqd kr)) aT;have fv:=aG.sep bM.own (ks a8 (jF (bn.symm c4) kr));have ex:=bM.off (ks a8 (jF (bn.symm c4) kr)) aT;have ey:=aG.base bU;have fl:=bU.trans aT;refine f5 _ _<|.nil<|fO _ _<|.seq fun _ fR=>.region<|.q Z (ah Z)<|.q Z (cM Z)<|.q Z (aj k5 ij U Z)<|.q Z (aj tm cD U Z)<|.q Z (ak df Z Z aV Z) ?_;refine Ops.q Z (bE (b:=1) Z Z O)<|.q Z (cM Z)<|.q Z (aj k5 ij U Z)<|.q Z (aj tm cD U Z)<|.l Z (fun _ _ f6 _=>be (cs:=[num ((n + 1:Nat):Int)]) (c':=[a5,num (g),u,rv,.map (some mb),a9,num ((m:Nat):Int),x7,num ((n + 1:Nat):Int),dv]) e2 rfl rfl rfl rfl cD aV (Nat.le_of_ble_eq_true rfl) rfl rfl fun A61 a3=>?_);have e5:=a3.keep _ _ ap.symm fQ;have bO:=ev.keep a3.keep nd;have bP:=ex.keep a3.keep a8;have ez:=ey.keep a3.keep aC;have aY:=ao fl aD bb a3.n a3.keep;refine f6 _ _<|.nil<|fR _ _<|.seq fun _ fS=>.seq fun _ e6=>.drawn [0,1,2,3,4,5,6,7,8,9,10,11,12,13,14,15,16,17,18] mixed Y Y Z<|.q Z Z Z (ah Z)<|.q Z Z Z (cM Z)<|.q Z Z Z (aj k5 ij U Z)<|.q Z Z Z (aj tm cD U Z) ?_;refine bk.q Z Z Z (ak df Z Z a3.get Z)<|.q Z Z Z (d8 (b:=20000) Z Z)<|.q Z Z Z (ah Z)<|.part (t:=42) Z (fun g7=>?_) (fun g7=>?_)
 ·refine bk.qOff Z Z Z Z Z Z<|.qOff Z Z Z Z Z Z<|.qOff Z Z Z Z Z Z<|.qOff Z Z Z Z Z Z<|.qOff Z Z Z Z Z Z<|.qOff Z Z Z Z Z Z<|.qOff Z Z Z Z Z Z<|.qOff Z Z Z Z Z Z<|.qOff Z Z Z Z Z Z<|.qOff Z Z Z Z Z Z ?_;refine bk.qOff Z Z Z Z Z Z<|.q Z Z Z (aJ Z Z)<|.done<|e6 _ _<|.cond_true Z<|.region<|.q Z (dx Z (bH Dx Ro IQ Z))<|.iface Dx Z Z<|.panicI Z ?_;(repeat first | with_reducible refine kG ?_ | with_reducible refine jx ?_ | with_reducible refine iZ ?_);exact OQ (⟨by exact U6 ‹_›,Z,aY,a3.wf,_,_,_,_,_,_,a3.get⟩)
 refine bk.qOn Z Z Z Z Z (ah Z)<|.qOn Z Z Z Z Z (cM Z)<|.qOn Z Z Z Z Z (aj k5 ij U Z)<|.qOn Z Z Z Z Z (aj EH qm U Z)<|.qOn Z Z Z Z Z (ak tf Z Z a3.get Z)<|.qOn Z Z Z Z Z (bF (n:=d.length) uw Z bO.slc O (ek _))<|.qOn Z Z Z Z Z (aj om qm U Z)<|.qOn Z Z Z Z Z (ak tf Z Z e5 Z)<|.qOn Z Z Z Z Z (bF (n:=((rs.getD i .zero).proof).length) uw Z ((hp.get hi.1).le aY) O (ek _))<|.qOn Z Z Z Z Z (bE Z Z O) ?_;refine bk.qOn Z Z Z Z Z (d8 (b:=100000) Z Z)<|.q Z Z Z (aL Z Z)<|.done<|e6 _ _<|.if rfl (fun g8=>?_) (fun g8=>?_)
 ·refine al.region<|.q Z (dx Z (bH Dx Ro IQ Z))<|.iface Dx Z Z<|.panicI Z ?_;(repeat first | with_reducible refine kG ?_ | with_reducible refine jx ?_ | with_reducible refine iZ ?_);exact OQ (⟨by exact U7 ‹_›,Z,aY,a3.wf,_,_,_,_,_,_,a3.get⟩)
 refine al.skip<|fS _ _<|.seq fun _ fT=>.region<|.q Z (ah Z)<|.q Z (cM Z)<|.q Z (aj i8 pk U Z)<|.q Z (aj ik gi U Z)<|.q Z (ak kg Z Z a3.get Z)<|.l Z (fun _ _ f7 _=>ee (s:=k.take (k.length - (((rs.getD i .zero).left).length))) Z cT u9 u5 bP.slc ?_);refine f7 _ _<|.q Z (ae Z)<|.nil<|fT _ _<|.seq fun _ fV=>.region<|.q Z (aj om qm U Z)<|.q Z (ak tf Z Z e5 Z)<|.q Z (bF (n:=((rs.getD i .zero).proof).length) uw Z ((hp.get hi.1).le aY) O (ek _))<|.q Z (ah Z) ?_;refine Ops.nil<|fV _ _<|.block<|.loop (X:=Nat × List bK × Nat × Value) (fun ⟨j,D,mm,dw⟩=>[(0,.pointer (some ⟨b0,0,none⟩)),(5,bg (k.take (k.length - (((rs.getD i .zero).left).length)))),(64,(rs.getD i .zero).pv),(65,num ((((rs.getD i .zero).proof).length:Nat):Int)),(66,num ((j:Nat):Int))]) (fun ⟨j,D,mm,dw⟩ B=>(j<=(rs.getD i .zero).proof.length/\D=d ++ pre (k.take (k.length - (rs.getD i .zero).left.length)) (rs.getD i .zero).proof j/\mm=m + dp (pre (k.take (k.length - (rs.getD i .zero).left.length)) (rs.getD i .zero).proof j)/\mm<=1000000/\∀ i2,i2 < j->(k.take (k.length - (rs.getD i .zero).left.length)).length + ((rs.getD i .zero).proof.getD i2 .zero).conj.length<=100000)/\A0.le B/\Fresh A0 B dw 3 (cE D)/\Fresh A0 B a5 1 (aq (k.take (k.length - (((rs.getD i .zero).left).length))))/\Fresh A0 B a9 1 (aq (q ++ ((rs.getD i .zero).right).reverse))/\B.get b0=some (.row true [a5,num (g),u,rv,.map (some mb),a9,num ((mm:Nat):Int),x7,num ((n + 1:Nat):Int),dw] 10)/\V.blk dw ≠ some b0/\V.blk a5 ≠ some b0/\V.blk a9 ≠ some b0/\bn dw a5/\bn dw a9/\bn a5 a9) (fun ⟨j,D,mm,dw⟩=>(rs.getD i .zero).proof.length - j) (⟨0,d,m,dv⟩) (pw Z Z Z Z Z) (⟨⟨Nat.zero_le _,by simp [pre],by simp [pre,dp],hd.2.2.1,fun i2 h=>by omega⟩,aY,bO,bP,ez,a3.get,nd,a8,aC,(bn.symm fr),(bn.symm ft),(bn.symm fv)⟩) ?_;rintro ⟨j,D,mm,dw⟩ B80 ⟨⟨hj,hD,hmm,hml,hq⟩,b7,aI,ad,ag,aP,ar,a0,a1,aA,aB,aZ⟩;refine al.wf fun aR=>?_;have hDl:D.length=d.length + j:=by rw [hD,List.length_append,Tp hj]
 have hck:=fun z:j < (rs.getD i .zero).proof.length=>Sc (bi (d:=bK.zero) z);have hpc:=fun z:j < (rs.getD i .zero).proof.length=>CA (p:=(k.take (k.length - (rs.getD i .zero).left.length))) z;have hps:=fun z:j < (rs.getD i .zero).proof.length=>CB (p:=(k.take (k.length - (rs.getD i .zero).left.length))) z;have hwr:=qw ((k.take (k.length - (rs.getD i .zero).left.length)) ++ ((rs.getD i .zero).proof.getD j .zero).conj);have hkp:(k.take (k.length - (rs.getD i .zero).left.length)).length<=k.length:=by simp
 have hla:=@List.length_append _ (k.take (k.length - (rs.getD i .zero).left.length)) ((rs.getD i .zero).proof.getD j .zero).conj;refine al.seq fun _ fX=>.region<|.q Z (bX Z Z)<|.nil<|fX _ _<|.seq fun _ g0=>.if rfl (fun g9=>?_) (fun g9=>?_)
 ·refine al.skip<|g0 _ _<|.seq fun _ g1=>.block<|.seq fun _ g2=>.region ?_;obtain ⟨gp,gA,gg,gE,gf,gD,gC,fE,g6,fI,ea,ge⟩:=bI.at (i:=j) ((hp.get hi.1).le b7) OI O;refine Ops.q Z (aH uw lh Z fE Z g6)<|.q Z (an Au lh Z Z fI (ea.trans (congrArg some (jh O))))<|.l Z (fun _ _ f9 _=>cm aR UE rfl fun A94 gq a7=>?_);have az:=ne_new aR aP a7.lo;have bl:=aI.own.ne_new aR a7.lo;have bY:=ad.own.ne_new aR a7.lo;have c3:=ag.own.ne_new aR a7.lo;have ba:=aW aD (Nat.le_trans b7.n a7.lo);have g4:=a7.le.get _ _ aP;have cc:=aI.le a7.le;have cf:=ad.le a7.le;have ck:=ag.le a7.le;have dL:=b7.trans a7.le;refine f9 _ _<|.l Z (fun _ _ dm _=>be (cs:=[bg ((((rs.getD i .zero).proof).getD j .zero).conj),num ((((rs.getD i .zero).proof).getD j .zero).rel),.bool ((((rs.getD i .zero).proof).getD j .zero).inv)]) (c':=[bg ((((rs.getD i .zero).proof).getD j .zero).conj),num ((((rs.getD i .zero).proof).getD j .zero).rel),.bool ((((rs.getD i .zero).proof).getD j .zero).inv)]) a7.wf rfl rfl rfl rfl lh a7.get (Nat.le_of_ble_eq_true rfl) rfl rfl fun A105 a6=>?_);have bR:=a6.keep _ _ az g4;have cv:=cc.keep a6.keep bl;have cA:=cf.keep a6.keep bY;have cC:=ck.keep a6.keep c3;have b6:=ao dL aD ba a6.n a6.keep;refine dm _ _<|.nil<|g2 _ _<|.seq fun _ eA=>.seq fun _ eC=>.region<|.q Z (ah Z)<|.q Z (cw u9 Z)<|.q Z (aj jY fU U Z)<|.q Z (ak gu Z Z a6.get Z) ?_;refine Ops.q Z (cw u9 Z)<|.q Z (bE Z Z O)<|.q Z (d8 (b:=100000) Z Z)<|.nil<|eC _ _<|.if rfl (fun fn=>?_) (fun fn=>?_)
  ·refine al.region<|.q Z (dx Z (bH Dx Ro IQ Z))<|.iface Dx Z Z<|.panicI Z ?_;(repeat first | with_reducible refine kG ?_ | with_reducible refine jx ?_ | with_reducible refine iZ ?_);exact OQ (⟨by exact Va O ‹_›,Z,b6,a6.wf,_,_,_,_,_,_,bR⟩)
  refine al.skip<|eA _ _<|.seq fun _ eG=>.region<|.q Z (ah Z)<|.q Z (aj jY fU U Z)<|.q Z (ak gu Z Z a6.get Z)<|.q Z (jH Z Z O)<|.l Z (fun _ _ dz _=>au Z (sQ ((k.take (k.length - (((rs.getD i .zero).left).length))) ++ ((((rs.getD i .zero).proof).getD j .zero).conj)) A105 O (hL.le b6)) ?_);rintro gl A121 ⟨rfl,ai,c7⟩;have eL:=ai.get _ _ bR;have eN:=ai.get _ _ a6.get;have cF:=cv.le ai;have cH:=cA.le ai;have cK:=cC.le ai;have dM:=b6.trans ai;refine dz _ _<|.q Z (aj jY fU U Z)<|.l Z (fun _ _ dD _=>be (cs:=[bg (cJ ((k.take (k.length - (((rs.getD i .zero).left).length))) ++ ((((rs.getD i .zero).proof).getD j .zero).conj)))]) (c':=[bg (cJ ((k.take (k.length - (((rs.getD i .zero).left).length))) ++ ((((rs.getD i .zero).proof).getD j .zero).conj))),num ((((rs.getD i .zero).proof).getD j .zero).rel),.bool ((((rs.getD i .zero).proof).getD j .zero).inv)]) c7 rfl rfl rfl rfl fU eN (Nat.le_of_ble_eq_true rfl) rfl rfl fun A130 aa=>?_);have bc:=aa.keep _ _ az eL;have cP:=cF.keep aa.keep bl;have cS:=cH.keep aa.keep bY;have cV:=cK.keep aa.keep c3;have dO:=ao dM aD ba aa.n aa.keep;refine dD _ _<|.nil<|eG _ _<|.seq fun _ eQ=>.drawn [0,1,2,3,4,5,6,7,8,9,10,11,12] mixed Y Y Z<|.q Z Z Z (ah Z)<|.q Z Z Z (ah Z)<|.q Z Z Z (cM Z)<|.q Z Z Z (aj k5 ij U Z)<|.q Z Z Z (aj EH qm U Z) ?_;have dk:=c5 (off:=9) bc (show _=some (dw) from rfl);refine bk.q Z Z Z (ak tf Z Z bc Z)<|.q Z Z Z (an Au lh Z Z aa.get Z)<|.l Z Z Z (fun _ _ dG _=>aM (c:=[bg (cJ ((k.take (k.length - (((rs.getD i .zero).left).length))) ++ ((((rs.getD i .zero).proof).getD j .zero).conj))),num ((((rs.getD i .zero).proof).getD j .zero).rel),.bool ((((rs.getD i .zero).proof).getD j .zero).inv)]) aa.wf rfl (aw uw lh UE rfl U U rfl) fun A145 gc a2=>?_);have bS:=a2.le.get _ _ bc;have eS:=a2.le.get _ _ aa.get;have bm:=cP.le a2.le;have bp:=cS.le a2.le;have br:=cV.le a2.le;have dl:=cr a2.le dk;have dS:=dO.trans a2.le;refine dG _ _ (aX.list (L:=[(⟨b0,9,none⟩,dw)]) Y (bx dl cO))<|.l Z Z Z (fun _ _ dI _=>cR (ys:=[bg (cJ ((k.take (k.length - (((rs.getD i .zero).left).length))) ++ ((((rs.getD i .zero).proof).getD j .zero).conj))),num ((((rs.getD i .zero).proof).getD j .zero).rel),.bool ((((rs.getD i .zero).proof).getD j .zero).inv)]) rfl rfl uw lh Wu UE rfl U uw (fun _ h=>by cases h) bm.own (bW (n:=1) a2.get Z) rfl rfl (by show (_ + _) * 32<=_;simp only [dT,List.length_cons,List.length_nil];(try simp only [List.length_append,List.length_cons,List.length_nil]);omega) (by simp only [dT,List.length_cons,List.length_nil];(try simp only [List.length_append,List.length_cons,List.length_nil]);omega) fun A161 gm a4=>?_);rw [show ([bg (cJ ((k.take (k.length - (((rs.getD i .zero).left).length))) ++ ((((rs.getD i .zero).proof).getD j .zero).conj))),num ((((rs.getD i .zero).proof).getD j .zero).rel),.bool ((((rs.getD i .zero).proof).getD j .zero).inv)]:List Value)=cE [⟨cJ ((k.take (k.length - (((rs.getD i .zero).left).length))) ++ ((((rs.getD i .zero).proof).getD j .zero).conj)),(((rs.getD i .zero).proof).getD j .zero).rel,(((rs.getD i .zero).proof).getD j .zero).inv⟩] from rfl,xq] at a4;obtain ⟨bu,dV⟩:=Fresh.grow bm dS aD a4;have eT:=a4.keep ar bS;have b8:=a4.ne ar a2.wf bS;have eV:=a4.keep bl eS;have dZ:=bn.appd (show bn dw a5 from aA) bp.own a2.wf a4;have cX:=bp.appd a4 aA;have e0:=bn.appd (show bn dw a9 from aB) br.own a2.wf a4;have cZ:=br.appd a4 aB;refine dI _ _ (aX.none Y)<|.q Z Z Z (cM Z)<|.q Z Z Z (aj k5 ij U Z)<|.q Z Z Z (aj EH qm U Z) ?_;obtain ⟨b9,b2,b1,fq,_⟩:=bu.own.slice;subst fq;refine bk.l Z Z Z (fun _ _ dJ _=>be (cs:=[.slice b9 b2 b1]) (c':=[a5,num (g),u,rv,.map (some mb),a9,num ((mm:Nat):Int),x7,num ((n + 1:Nat):Int),.slice b9 b2 b1]) a4.wf rfl rfl rfl rfl qm eT (Nat.le_of_ble_eq_true rfl) rfl rfl fun A179 ab=>?_);have eX:=ab.keep _ _ az.symm eV;have d0:=cX.keep ab.keep a0;have d1:=cZ.keep ab.keep a1;have d2:=bu.keep ab.keep b8;have dW:=ao dV aD bb ab.n ab.keep;refine dJ _ _ (aX.none Y)<|.done<|eQ _ _<|.seq fun _ eY=>.drawn [0,1,2,3,4,5,6,7,8,9,10] mixed Y Y Z<|.q Z Z Z (ah Z)<|.q Z Z Z (cM Z)<|.q Z Z Z (aj uW cD U Z)<|.q Z Z Z (ak df Z Z ab.get Z)<|.q Z Z Z (aj jY fU U Z) ?_;refine bk.q Z Z Z (ak gu Z Z eX Z)<|.q Z Z Z (cw u9 Z)<|.q Z Z Z (bE Z Z O)<|.q Z Z Z (cM Z)<|.q Z Z Z (aj uW cD U Z)<|.l Z Z Z (fun _ _ dK _=>be (cs:=[num ((mm + ((cJ ((k.take (k.length - (((rs.getD i .zero).left).length))) ++ ((((rs.getD i .zero).proof).getD j .zero).conj))).length):Nat):Int)]) (c':=[a5,num (g),u,rv,.map (some mb),a9,num ((mm + ((cJ ((k.take (k.length - (((rs.getD i .zero).left).length))) ++ ((((rs.getD i .zero).proof).getD j .zero).conj))).length):Nat):Int),x7,num ((n + 1:Nat):Int),.slice b9 b2 b1]) ab.wf rfl rfl rfl rfl cD ab.get (Nat.le_of_ble_eq_true rfl) rfl rfl fun A191 ac=>?_);have d3:=d0.keep ac.keep a0;have dd:=d1.keep ac.keep a1;have di:=d2.keep ac.keep b8;have bv:=ao dW aD bb ac.n ac.keep;refine dK _ _ (aX.none Y)<|.done<|eY _ _<|.seq fun _ eZ=>.region<|.q Z (ah Z)<|.q Z (cM Z)<|.q Z (aj uW cD U Z)<|.q Z (ak df Z Z ac.get Z)<|.q Z (d8 (b:=1000000) Z Z) ?_;refine Ops.nil<|eZ _ _<|.if rfl (fun fo=>?_) (fun fo=>?_)
  ·refine al.region<|.q Z (dx Z (bH Dx Ro IQ Z))<|.iface Dx Z Z<|.panicI Z ?_;(repeat first | with_reducible refine kG ?_ | with_reducible refine jx ?_ | with_reducible refine iZ ?_);exact OQ (⟨by exact Vb (j:=j + 1) (by rw [CA O];omega),Z,bv,ac.wf,_,_,_,_,_,_,ac.get⟩)
  refine al.skip<|g1 _ _<|.region<|.q Z (bE (b:=1) Z Z O)<|.q Z (ah Z)<|.nil ?_;exact ⟨⟨j + 1,D ++ [⟨cJ ((k.take (k.length - (((rs.getD i .zero).left).length))) ++ ((((rs.getD i .zero).proof).getD j .zero).conj)),(((rs.getD i .zero).proof).getD j .zero).rel,(((rs.getD i .zero).proof).getD j .zero).inv⟩],mm + ((cJ ((k.take (k.length - (((rs.getD i .zero).left).length))) ++ ((((rs.getD i .zero).proof).getD j .zero).conj))).length),.slice b9 b2 b1⟩,pw Z Z Z Z Z,Z,⟨⟨by omega,by rw [hps O,hD,List.append_assoc],by have:=hpc O;omega,by omega,fun i2 h=>(Nat.lt_succ_iff_lt_or_eq.1 h).elim (hq i2) (fun z=>by subst z;omega)⟩,bv,di,d3,dd,ac.get,b8,a0,a1,dZ,e0,aZ⟩,O1⟩
 refine al.exit ?_;repeat first | with_reducible refine bw ?_ | with_reducible refine bj ?_
 repeat first | with_reducible refine fc ?_ | with_reducible refine eu ?_ | with_reducible refine dY U ?_ | with_reducible refine d4 ?_ | with_reducible refine db ?_
 exact WX (vs:=[]) Z (⟨_,_,_,Z,b7,aR,ww aP (by rw [hmm,(zA O hq).1]),ad,ag,cy aI (congrArg cE (by rw [hD,(zA O hq).1])),a0,a1,ar,aZ,(bn.symm aA),(bn.symm aB),Vc ‹_› ‹_› O hq O⟩)

theorem VJ (w:List UInt8) (rs:List bf) (l:List (List UInt8)) (b0:Nat) (g:Int) (u rv:Value) (mb:Nat) (x0 x5 x6 x7 x8 x9:Value) (A0 A:AH) (ea:A0.le A) (aG:A0.wf) (hb:A.get b0=some (.row true [x0,num g,u,rv,.map (some mb),x5,x6,x7,x8,x9] 10)) (aF:A0.get b0=none) (hs:bZ g l rs=true) (hwl:w.length<=20000) (hL:gO A0) (hr:bI A0 3 rv (dc rs)) (hp:Proofs A0 rs) (hI:py A0 mb rs):yI Tryz.prog 106 #[.pointer (some ⟨b0,0,none⟩),bg (w)] A (fun v A1=>∃ dv2 y0 y5 y6 y7 y8 y9,v=.agg #[bg (fw (j6 rs w)).word,num (((fw (j6 rs w)).steps:Nat):Int),dv2]/\A0.le A1/\A1.wf/\A1.get b0=some (.row true [y0,num g,u,rv,.map (some mb),y5,y6,y7,y8,y9] 10)/\Fresh A0 A1 dv2 3 (cE (fw (j6 rs w)).disk)/\blk dv2 ≠ some b0/\(j6 rs w).isSome=true) (fun ch A1=>j6 rs w=none/\ch=[{ v:=.iface 149 (.agg #[]),recovered:=false }]/\A0.le A1/\A1.wf/\∃ y0 y5 y6 y7 y8 y9,A1.get b0=some (.row true [y0,num g,u,rv,.map (some mb),y5,y6,y7,y8,y9] 10)):=by
 refine M8 (e:=[(0,.pointer (some ⟨b0,0,none⟩)),(1,bg (w))]) (args:=[.pointer (some ⟨b0,0,none⟩),bg (w)]) Tryz.call106 Tryz.func106 Z Tryz.results106 Tryz.ntmps106 Z Z Z (fun wf=>?_);refine al.seq fun _ h2=>.region<|.l Z (fun _ _ g7 _=>cm wf DT rfl fun A5 b4 bl=>?_);have a0:=ne_new wf hb bl.lo;have dG:=aW aG (Nat.le_trans ea.n bl.lo);have h7:=bl.le.get _ _ hb;have gc:=ea.trans bl.le;refine g7 _ _<|.nil<|h2 _ _<|.seq fun _ fM=>.region<|.q Z (ah Z)<|.q Z (ah Z)<|.q Z (ah Z)<|.q Z (ah Z)<|.q Z (dx Z (bH Xy DT Ta Z)) ?_;refine Ops.q Z (cM Z)<|.q Z (aj i8 pk U Z)<|.q Z (aj ik gi U Z)<|.l Z (fun _ _ eX _=>be (cs:=[.slice none 0 0]) (c':=[.slice none 0 0,num (g),u,rv,.map (some mb),x5,x6,x7,x8,x9]) bl.wf rfl rfl rfl rfl gi h7 (Nat.le_of_ble_eq_true rfl) rfl rfl fun A12 b2=>?_);have fN:=b2.keep _ _ a0.symm bl.get;have f4:=ao gc aG aF b2.n b2.keep;refine eX _ _<|.q Z (cM Z)<|.q Z (aj kZ gi U Z)<|.l Z (fun _ _ eY _=>be (cs:=[.slice none 0 0]) (c':=[.slice none 0 0,num (g),u,rv,.map (some mb),.slice none 0 0,x6,x7,x8,x9]) b2.wf rfl rfl rfl rfl gi b2.get (Nat.le_of_ble_eq_true rfl) rfl rfl fun A17 b3=>?_);have fO:=b3.keep _ _ a0.symm fN;have f5:=ao f4 aG aF b3.n b3.keep;refine eY _ _<|.q Z (cM Z)<|.q Z (aj uW cD U Z)<|.l Z (fun _ _ eZ _=>be (cs:=[num ((0:Nat):Int)]) (c':=[.slice none 0 0,num (g),u,rv,.map (some mb),.slice none 0 0,num ((0:Nat):Int),x7,x8,x9]) b3.wf rfl rfl rfl rfl cD b3.get (Nat.le_of_ble_eq_true rfl) rfl rfl fun A22 b5=>?_);have fQ:=b5.keep _ _ a0.symm fO;have f6:=ao f5 aG aF b5.n b5.keep;refine eZ _ _<|.q Z (cM Z)<|.q Z (aj k5 ij U Z)<|.l Z (fun _ _ f0 _=>be (cs:=[bg ([]),num ((0:Nat):Int),.slice none 0 0]) (c':=[.slice none 0 0,num (g),u,rv,.map (some mb),.slice none 0 0,num ((0:Nat):Int),bg ([]),num ((0:Nat):Int),.slice none 0 0]) b5.wf rfl rfl rfl rfl ij b5.get (Nat.le_of_ble_eq_true rfl) rfl rfl fun A27 b6=>?_);have fR:=b6.keep _ _ a0.symm fQ;have f7:=ao f6 aG aF b6.n b6.keep;refine f0 _ _<|.nil<|fM _ _<|.seq fun _ fS=>.region<|.q Z (ah Z)<|.q Z (ah Z) ?_;have cA:=Fresh.nil A0 A27 1;have d0:=cd (bs:=[some b0,blk (.slice none 0 0)]) f7 (uD aF (s8 cA.lo px));refine Ops.l Z (fun _ _ f1 _=>au Z (De w ([]) b0 (.slice none 0 0) (num (g)) u rv (.map (some mb)) (.slice none 0 0) (num ((0:Nat):Int)) (bg ([])) (num ((0:Nat):Int)) (.slice none 0 0) (A27.hide [some b0,blk (.slice none 0 0)]) A27 (cz A27 [some b0,blk (.slice none 0 0)]) (cg b6.wf) b6.get (cn (by simp)) (cA.hide (by simp)) (fun q=>by cases q) Ow) ?_);rintro he A37 ⟨e7,rfl,c4,gq,bR,ba,bu⟩;have cP:=bN (bs:=[some b0,blk (.slice none 0 0)]) fR (rd a0.symm (oD (fun q=>by cases q) m7));have fT:=c4.get _ _ cP;have en:=ba.base d0;have fl:=ba.seph cP;have f9:=d0.trans c4;refine f1 _ _<|.nil<|fS _ _<|.seq fun _ fV=>.block<|.loop (X:=List UInt8 × List UInt8 × Nat × List bK × Nat × Nat × Value × Value × Value) (fun ⟨q,k,n,d,m,f,kv,qv,dv⟩=>[(0,.pointer (some ⟨b0,0,none⟩)),(4,.pointer (some ⟨b4,0,none⟩))]) (fun ⟨q,k,n,d,m,f,kv,qv,dv⟩ B=>(ie rs f ⟨q,k,n,d,m⟩=ie rs xO (start w)/\q.length + k.length<=w.length/\n<=20000/\d.length<=100000/\m<=1000000/\(20000 - n) * 100001 + q.length < f)/\A0.le B/\Fresh A0 B kv 1 (aq k)/\Fresh A0 B qv 1 (aq q)/\Fresh A0 B dv 3 (cE d)/\B.get b0=some (.row true [kv,num (g),u,rv,.map (some mb),qv,num ((m:Nat):Int),bg ([]),num ((n:Nat):Int),dv] 10)/\B.get b4=some (.row true [bg ([]),num ((0:Nat):Int),.slice none 0 0] 3)/\V.blk kv ≠ some b0/\V.blk qv ≠ some b0/\V.blk dv ≠ some b0/\V.blk kv ≠ some b4/\V.blk qv ≠ some b4/\V.blk dv ≠ some b4/\bn kv qv/\bn kv dv/\bn qv dv) (fun ⟨q,k,n,d,m,f,kv,qv,dv⟩=>f) (⟨w.reverse,[],0,[],0,xO,.slice none 0 0,e7,.slice none 0 0⟩) (jM Z Z) (⟨⟨Z,by simp,by omega,by simp,by omega,by have h1:w.length<=20000:=hwl;simp only [List.length_reverse];unfold xO;omega⟩,f9,(Fresh.nil A0 A37 1),(cy en (congrArg aq ((by rfl)))),(Fresh.nil A0 A37 3),bR,fT,(fun q=>by cases q),bu,(fun q=>by cases q),(fun q=>by cases q),fl,(fun q=>by cases q),bn.nil,bn.nil,(bn.symm bn.nil)⟩) ?_;rintro ⟨q,k,n,d,m,f,kv,qv,dv⟩ B48 ⟨⟨hrun,hlen,hn,hd,hm,hf⟩,d1,bc,ac,bb,a2,bd,ab,a1,D,ap,ar,aa,az,aA,aI⟩;refine al.wf fun dj=>?_;have hrf:=fun z:¬ ci rs (k ++ [q.getD (q.length - 1) 0]) < 0=>PB hs z;have hkl:(k ++ [q.getD (q.length - 1) 0]).length=k.length + 1:=by simp
 have hmv:(nx ((k ++ [q.getD (q.length - 1) 0]).take ((k ++ [q.getD (q.length - 1) 0]).length - (rs.getD (ci rs (k ++ [q.getD (q.length - 1) 0])).toNat .zero).left.length)) (rs.getD (ci rs (k ++ [q.getD (q.length - 1) 0])).toNat .zero).proof).length<=(rs.getD (ci rs (k ++ [q.getD (q.length - 1) 0])).toNat .zero).proof.length:=Ci _ _;have hmk:Ry ((k ++ [q.getD (q.length - 1) 0]).take ((k ++ [q.getD (q.length - 1) 0]).length - (rs.getD (ci rs (k ++ [q.getD (q.length - 1) 0])).toNat .zero).left.length)) (rs.getD (ci rs (k ++ [q.getD (q.length - 1) 0])).toNat .zero).proof=true->(nx ((k ++ [q.getD (q.length - 1) 0]).take ((k ++ [q.getD (q.length - 1) 0]).length - (rs.getD (ci rs (k ++ [q.getD (q.length - 1) 0])).toNat .zero).left.length)) (rs.getD (ci rs (k ++ [q.getD (q.length - 1) 0])).toNat .zero).proof).length=(rs.getD (ci rs (k ++ [q.getD (q.length - 1) 0])).toNat .zero).proof.length:=Om;refine al.seq fun _ fX=>.seq fun _ g0=>.region<|.q Z (ah Z)<|.q Z (cM Z)<|.q Z (aj kZ gi U Z)<|.q Z (ak kg Z Z a2 Z)<|.q Z (bF (n:=q.length) cT Z ac.slc O (eU _))<|.q Z (d8 (b:=0) Z Z)<|.nil ?_;refine g0 _ _<|.if rfl (fun gf=>?_) (fun gf=>?_)
 ·refine al.skip<|fX _ _<|.block<|.seq fun _ g1=>.drawn [0,1,2,3,4,5,6,7,8,9,10,11,12] mixed Y Y Z<|.q Z Z Z (ah Z)<|.q Z Z Z (cM Z)<|.q Z Z Z (aj kZ gi U Z)<|.q Z Z Z (ak kg Z Z a2 Z)<|.q Z Z Z (ah Z) ?_;refine bk.q Z Z Z (cM Z)<|.q Z Z Z (aj kZ gi U Z)<|.q Z Z Z (ak kg Z Z a2 Z)<|.q Z Z Z (bF (n:=q.length) cT Z ac.slc O (eU _))<|.q Z Z Z (il (b:=1) Z Z O) ?_;obtain ⟨gQ,gY,gG,ha,gE,h5,h3,fD,g8,fI,gC,ec⟩:=bI.at (i:=q.length - 1) ac.slc Oy O;refine bk.q Z Z Z (aH cT kf Z fD Z g8)<|.q Z Z Z (ak Mo Z Z fI ((cQ ec).trans (fZ O)))<|.q Z Z Z (ae Z)<|.done<|g1 _ _<|.seq fun _ g2=>.drawn [0,1,2,3,4,5,6,7,8,9,10,11,12,13,14] mixed Y Y Z<|.q Z Z Z (ah Z)<|.q Z Z Z (ah Z)<|.q Z Z Z (cM Z) ?_;refine bk.q Z Z Z (aj kZ gi U Z)<|.q Z Z Z (ak kg Z Z a2 Z)<|.q Z Z Z (ah Z)<|.q Z Z Z (cM Z)<|.q Z Z Z (aj kZ gi U Z)<|.q Z Z Z (ak kg Z Z a2 Z)<|.q Z Z Z (bF (n:=q.length) cT Z ac.slc O (eU _))<|.q Z Z Z (il (b:=1) Z Z O) ?_;obtain ⟨a4,bM,a5,gm,ge,gX⟩:=ac.nonnil (by intro q;have:=congrArg List.length q;simp only [aU,List.length_nil] at this;omega);subst gm;rw [aU,Nat.mul_one] at ge;have cC:=ac.take (k:=q.length - 1) O;rw [Nat.mul_one,jV] at cC;refine bk.q Z Z Z (lS cT kf Z Z O)<|.q Z Z Z (cM Z)<|.q Z Z Z (aj kZ gi U Z)<|.l Z Z Z (fun _ _ f2 _=>be (cs:=[.slice (some ⟨a4,0,none⟩) (q.length - 1) a5]) (c':=[kv,num (g),u,rv,.map (some mb),.slice (some ⟨a4,0,none⟩) (q.length - 1) a5,num ((m:Nat):Int),bg ([]),num ((n:Nat):Int),dv]) dj rfl rfl rfl rfl gi a2 (Nat.le_of_ble_eq_true rfl) rfl rfl fun A65 a8=>?_);have e9:=a8.keep _ _ a0.symm bd;have b1:=bc.keep a8.keep ab;have bO:=bb.keep a8.keep D;have bP:=cC.keep a8.keep a1;have d2:=ao d1 aG aF a8.n a8.keep;refine f2 _ _ (aX.none Y)<|.done<|g2 _ _<|.seq fun _ g3=>.seq fun _ g4=>.region<|.q Z (ah Z)<|.q Z (cM Z)<|.q Z (aj i8 pk U Z)<|.q Z (aj ik gi U Z) ?_;refine Ops.q Z (ak kg Z Z a8.get Z)<|.q Z (bF (n:=k.length) cT Z b1.slc O (eU _))<|.q Z (ae Z)<|.nil<|g4 _ _<|.join (fun f A1=>am [(78,.bool (decide (0 < k.length/\k.getD (k.length - 1) 0=q.getD (q.length - 1) 0 ^^^ 32))),(0,.pointer (some ⟨b0,0,none⟩)),(4,.pointer (some ⟨b4,0,none⟩)),(25,.pointer (some ⟨b0,0,none⟩)),(26,.pointer (some ⟨b0,0,none⟩)),(27,.pointer (some ⟨b0,5,none⟩)),(28,.slice (some ⟨a4,0,none⟩) bM a5),(29,num ((q.length:Nat):Int)),(30,.bool (decide (0 < q.length))),(31,.pointer (some ⟨b0,0,none⟩)),(32,.pointer (some ⟨b0,0,none⟩)),(33,.pointer (some ⟨b0,5,none⟩)),(34,.slice (some ⟨a4,0,none⟩) bM a5),(35,.pointer (some ⟨b0,0,none⟩)),(36,.pointer (some ⟨b0,0,none⟩)),(37,.pointer (some ⟨b0,5,none⟩)),(38,.slice (some ⟨a4,0,none⟩) bM a5),(39,num ((q.length:Nat):Int)),(40,num ((q.length - 1:Nat):Int)),(42,ej (q.getD (q.length - 1) 0)),(5,ej (q.getD (q.length - 1) 0)),(43,.pointer (some ⟨b0,0,none⟩)),(44,.pointer (some ⟨b0,0,none⟩)),(45,.pointer (some ⟨b0,0,none⟩)),(46,.pointer (some ⟨b0,5,none⟩)),(47,.slice (some ⟨a4,0,none⟩) bM a5),(48,.pointer (some ⟨b0,0,none⟩)),(49,.pointer (some ⟨b0,0,none⟩)),(50,.pointer (some ⟨b0,5,none⟩)),(51,.slice (some ⟨a4,0,none⟩) bM a5),(52,num ((q.length:Nat):Int)),(53,num ((q.length - 1:Nat):Int)),(54,.slice (some ⟨a4,0,none⟩) (q.length - 1) a5),(55,.pointer (some ⟨b0,0,none⟩)),(56,.pointer (some ⟨b0,5,none⟩)),(57,.pointer (some ⟨b0,0,none⟩)),(58,.pointer (some ⟨b0,0,none⟩)),(59,.pointer (some ⟨b0,0,none⟩)),(60,.pointer (some ⟨b0,0,none⟩)),(61,kv),(62,num ((k.length:Nat):Int)),(6,num ((k.length:Nat):Int))] f.e/\f.ds=[]/\A65=A1) ?_ ?_
  ·refine al.region<|.q Z (ah Z)<|.q Z (d8 (b:=0) Z Z)<|.q Z (ah Z)<|.part (t:=65) Z (fun gg=>?_) (fun gg=>?_)
   ·refine Ops.on Z Z<|.q Z (ah Z)<|.on Z Z<|.q Z (cM Z)<|.on Z Z<|.q Z (aj i8 pk U Z)<|.on Z Z<|.q Z (aj ik gi U Z)<|.on Z Z<|.q Z (ak kg Z Z a8.get Z) ?_;refine Ops.on Z Z<|.q Z (ah Z)<|.on Z Z<|.q Z (il (b:=1) Z Z O)<|.on Z Z ?_;obtain ⟨gS,gZ,gL,hc,gF,h6,h4,fE,g9,fL,gD,eg⟩:=bI.at (i:=k.length - 1) b1.slc Oy O;refine Ops.q Z (aH cT kf Z fE Z g9)<|.on Z Z<|.q Z (ak Mo Z Z fL ((cQ eg).trans (fZ O)))<|.on Z Z<|.q Z (ah Z)<|.on Z Z<|.q Z (Pn (d:=32) Z Z)<|.on Z Z<|.q Z (yi Z Z)<|.q Z (aJ Z Z) ?_;refine Ops.nil ?_;exact ⟨am.cons (show some _=some _ from congrArg (fun b=>some (Value.bool b)) (show (decide ((k.getD (k.length - 1) 0)=((q.getD (q.length - 1) 0) ^^^ 32)))=decide (0 < k.length/\k.getD (k.length - 1) 0=q.getD (q.length - 1) 0 ^^^ 32) from (by simp only [‹0 < _›,true_and])))<|am.cons Z<|am.cons Z<|am.cons Z<|am.cons Z<|am.cons Z<|am.cons Z<|am.cons Z<|am.cons Z<|am.cons Z<|am.cons Z<|am.cons Z<|am.cons Z<|am.cons Z<|am.cons Z<|am.cons Z<|am.cons Z<|am.cons Z<|am.cons Z<|am.cons Z<|am.cons Z<|am.cons Z<|am.cons Z<|am.cons Z<|am.cons Z<|am.cons Z<|am.cons Z<|am.cons Z<|am.cons Z<|am.cons Z<|am.cons Z<|am.cons Z<|am.cons Z<|am.cons Z<|am.cons Z<|am.cons Z<|am.cons Z<|am.cons Z<|am.cons Z<|am.cons Z<|am.cons Z<|am.cons Z<|am.nil _,Z,Z⟩
   refine Ops.off Z Z Z Z<|.off Z Z Z Z<|.off Z Z Z Z<|.off Z Z Z Z<|.off Z Z Z Z<|.off Z Z Z Z<|.off Z Z Z Z<|.off Z Z Z Z<|.off Z Z Z Z<|.off Z Z Z Z ?_;refine Ops.off Z Z Z Z<|.off Z Z Z Z<|.q Z (aL Z Z)<|.nil ?_;exact ⟨am.cons (show some _=some _ from congrArg (fun b=>some (Value.bool b)) (show (false)=decide (0 < k.length/\k.getD (k.length - 1) 0=q.getD (q.length - 1) 0 ^^^ 32) from (by simp only [‹¬ 0 < _›,false_and,decide_false])))<|am.cons Z<|am.cons Z<|am.cons Z<|am.cons Z<|am.cons Z<|am.cons Z<|am.cons Z<|am.cons Z<|am.cons Z<|am.cons Z<|am.cons Z<|am.cons Z<|am.cons Z<|am.cons Z<|am.cons Z<|am.cons Z<|am.cons Z<|am.cons Z<|am.cons Z<|am.cons Z<|am.cons Z<|am.cons Z<|am.cons Z<|am.cons Z<|am.cons Z<|am.cons Z<|am.cons Z<|am.cons Z<|am.cons Z<|am.cons Z<|am.cons Z<|am.cons Z<|am.cons Z<|am.cons Z<|am.cons Z<|am.cons Z<|am.cons Z<|am.cons Z<|am.cons Z<|am.cons Z<|am.cons Z<|am.nil _,Z,Z⟩
  rintro ⟨fe,fd⟩ _ ⟨hE,rfl,rfl⟩;refine al.forget hE<|.if rfl (fun gl=>?_) (fun gl=>?_)
  ·refine al.seq fun _ g5=>.region<|.q Z (ah Z)<|.q Z (cM Z)<|.q Z (aj i8 pk U Z) ?_;have d3:=cd (bs:=[some b0,blk kv]) d2 (uD aF (s8 b1.lo px));refine Ops.l Z (fun _ _ f3 _=>au Z (Jf 1 k b0 kv (num (g)) u rv (.map (some mb)) (.slice (some ⟨a4,0,none⟩) (q.length - 1) a5) (num ((m:Nat):Int)) (bg ([])) (num ((n:Nat):Int)) dv (A65.hide [some b0,blk kv]) A65 (cz A65 [some b0,blk kv]) (cg a8.wf) a8.get (cn (by simp)) (b1.hide (by simp)) ab O) ?_);rintro hg A86 ⟨dW,rfl,aT,gs,bS,aC,bv⟩;have cS:=bN (bs:=[some b0,blk kv]) e9 (rd a0.symm (oD ap m7));have g6:=aT.get _ _ cS;have fr:=aC.sep bO.own (ks D (jF aA kr));have ev:=bO.off (ks D (jF aA kr)) aT;have ft:=aC.sep bP.own (ks a1 (jF az kr));have ex:=bP.off (ks a1 (jF az kr)) aT;have ey:=aC.base d3;have fm:=aC.seph cS;have fi:=d3.trans aT;refine f3 _ _<|.nil<|g5 _ _<|.exit ?_;exact ⟨⟨q.take (q.length - 1),k.take (k.length - 1),n,d,m,f - 1,dW,.slice (some ⟨a4,0,none⟩) (q.length - 1) a5,dv⟩,jM Z Z,Z,⟨⟨TD O O hrun ‹_›,by simp only [List.length_take];omega,hn,hd,hm,by simp only [List.length_take];omega⟩,fi,(cy ey (congrArg aq ((by rfl)))),(cy ex (congrArg aq ((by rfl)))),(cy ev (congrArg cE ((by rfl)))),bS,g6,bv,a1,D,fm,ar,aa,ft,fr,aI⟩,O1⟩
  refine al.skip<|g3 _ _<|.seq fun _ ez=>.region<|.q Z (ah Z)<|.q Z (ah Z)<|.q Z (cM Z)<|.q Z (aj i8 pk U Z)<|.q Z (aj ik gi U Z)<|.q Z (ak kg Z Z a8.get Z) ?_;refine Ops.q Z (ah Z)<|.l Z (fun _ _ dI _=>aM (c:=[ej (q.getD (q.length - 1) 0)]) a8.wf rfl (aw cT kf z5 rfl U U rfl) fun A104 gA a6=>?_);have cF:=a6.le.get _ _ a8.get;have cH:=a6.le.get _ _ e9;have bT:=b1.le a6.le;have bU:=bO.le a6.le;have bV:=bP.le a6.le;have dZ:=d2.trans a6.le;refine dI _ _<|.l Z (fun _ _ dJ _=>cR (ys:=[ej (q.getD (q.length - 1) 0)]) rfl rfl cT kf uE z5 rfl U cT (fun _ h=>by cases h) bT.own (bW (n:=1) a6.get Z) rfl rfl (by show (_ + _) * 1<=_;simp only [aU,List.length_cons,List.length_nil];(try simp only [List.length_append,List.length_cons,List.length_nil]);omega) O3 fun A118 gM a3=>?_);rw [show ([ej (q.getD (q.length - 1) 0)]:List Value)=aq [q.getD (q.length - 1) 0] from rfl,eI] at a3;obtain ⟨bY,e0⟩:=Fresh.grow bT dZ aG a3;have eA:=a3.keep ab cF;have br:=a3.ne ab a6.wf cF;have eC:=a3.keep ap cH;have c7:=a3.ne ap a6.wf cH;have cc:=bn.appd (show bn kv dv from aA) bU.own a6.wf a3;have dk:=bU.appd a3 aA;have cf:=bn.appd (show bn kv (.slice (some ⟨a4,0,none⟩) (q.length - 1) a5) from az) bV.own a6.wf a3;have dl:=bV.appd a3 az;refine dJ _ _<|.q Z (cM Z)<|.q Z (aj i8 pk U Z)<|.q Z (aj ik gi U Z) ?_;obtain ⟨av,ai,ag,fo,_⟩:=bY.own.slice;subst fo;refine Ops.l Z (fun _ _ dK _=>be (cs:=[.slice av ai ag]) (c':=[.slice av ai ag,num (g),u,rv,.map (some mb),.slice (some ⟨a4,0,none⟩) (q.length - 1) a5,num ((m:Nat):Int),bg ([]),num ((n:Nat):Int),dv]) a3.wf rfl rfl rfl rfl gi eA (Nat.le_of_ble_eq_true rfl) rfl rfl fun A137 a9=>?_);have cK:=a9.keep _ _ a0.symm eC;have bm:=dk.keep a9.keep D;have bp:=dl.keep a9.keep a1;have aP:=bY.keep a9.keep br;have aS:=ao e0 aG aF a9.n a9.keep;refine dK _ _<|.nil<|ez _ _<|.seq fun _ eG=>.region<|.q Z (ah Z)<|.l Z (fun _ _ dL _=>au Z (Uj b0 (.slice av ai ag) ((g)) u rv mb (.slice (some ⟨a4,0,none⟩) (q.length - 1) a5) (num ((m:Nat):Int)) (bg ([])) (num ((n:Nat):Int)) dv rs (k ++ [q.getD (q.length - 1) 0]) _ _ A137 (by simp only [List.length_append,List.length_cons,List.length_nil];have:=(gh hs).2.1;omega) (fun r z=>by have:=nI hs z;omega) a9.get aP.slc (hr.le aS) (hI.le aS)) ?_);rintro gN A149 ⟨rfl,rfl⟩;refine dL _ _<|.q Z (ae Z)<|.nil<|eG _ _<|.seq fun _ eL=>.region<|.q Z (ah Z)<|.q Z (k8 Z Z)<|.nil<|eL _ _ ?_;refine al.if rfl (fun fn=>?_) (fun fn=>?_)
  ·refine al.region<|.q Z (ah Z)<|.q Z (ah Z) ?_;have ad:=cd (bs:=[some b0,blk (.slice av ai ag),blk (.slice (some ⟨a4,0,none⟩) (q.length - 1) a5),blk dv]) aS (uD aF (s8 aP.lo (s8 bp.lo (s8 bm.lo px))));refine Ops.l Z (fun _ _ dM cV=>Rd Z (Xc ((ci rs (k ++ [q.getD (q.length - 1) 0]))) ((ci rs (k ++ [q.getD (q.length - 1) 0])).toNat) (by have:=hrf (show ¬ ci rs (k ++ [q.getD (q.length - 1) 0]) < 0 by omega);omega) rs (k ++ [q.getD (q.length - 1) 0]) (q.take (q.length - 1)) d n m b0 (.slice av ai ag) g u rv mb (.slice (some ⟨a4,0,none⟩) (q.length - 1) a5) (bg ([])) dv (A137.hide [some b0,blk (.slice av ai ag),blk (.slice (some ⟨a4,0,none⟩) (q.length - 1) a5),blk dv]) A137 (cz A137 [some b0,blk (.slice av ai ag),blk (.slice (some ⟨a4,0,none⟩) (q.length - 1) a5),blk dv]) (cg a9.wf) a9.get (cn (by simp)) (aP.hide (by simp)) (bp.hide (by simp)) (bm.hide (by simp)) br a1 D cf cc aI (by have:=hrf (show ¬ ci rs (k ++ [q.getD (q.length - 1) 0]) < 0 by omega);have h2:=(gh hs).2.1;omega) (by have:=hrf (show ¬ ci rs (k ++ [q.getD (q.length - 1) 0]) < 0 by omega);simp only [List.length_take];have:=nI hs (bi (d:=bf.zero) this.1);omega) (by have:=hrf (show ¬ ci rs (k ++ [q.getD (q.length - 1) 0]) < 0 by omega);omega) (hL.le ad) (hr.le ad) (hp.le ad)) ?_ (fun fv Cq157 aB=>cV _ _ (by (repeat first | with_reducible refine kG ?_ | with_reducible refine jx ?_ | with_reducible refine iZ ?_);exact OQ (⟨KF (PG O O hrun ‹_› (show ¬ ci rs (k ++ [q.getD (q.length - 1) 0]) < 0 by omega) (fun z=>aB.1 z)),aB.2.1,ad.trans aB.2.2.1,aB.2.2.2.1,aB.2.2.2.2⟩))));rintro gP A156 ⟨cX,di,cv,rfl,bL,gp,bD,aV,aY,aZ,b7,b8,b9,bA,bB,bC,a7⟩;have aR:=bN (bs:=[some b0,blk (.slice av ai ag),blk (.slice (some ⟨a4,0,none⟩) (q.length - 1) a5),blk dv]) cK (rd a0.symm (oD c7 (oD ar (oD aa m7))));have eN:=bL.get _ _ aR;have dm:=aV.base ad;have e4:=aV.seph aR;have dw:=aY.base ad;have e5:=aY.seph aR;have dz:=aZ.base ad;have e6:=aZ.seph aR;have e1:=ad.trans bL;refine dM _ _<|.nil ?_;exact ⟨⟨(q.take (q.length - 1)) ++ (rs.getD ((ci rs (k ++ [q.getD (q.length - 1) 0])).toNat) .zero).right.reverse,((k ++ [q.getD (q.length - 1) 0]).take ((k ++ [q.getD (q.length - 1) 0]).length - (rs.getD ((ci rs (k ++ [q.getD (q.length - 1) 0])).toNat) .zero).left.length)),n + 1,d ++ (nx ((k ++ [q.getD (q.length - 1) 0]).take ((k ++ [q.getD (q.length - 1) 0]).length - (rs.getD ((ci rs (k ++ [q.getD (q.length - 1) 0])).toNat) .zero).left.length)) (rs.getD ((ci rs (k ++ [q.getD (q.length - 1) 0])).toNat) .zero).proof),m + dp (nx ((k ++ [q.getD (q.length - 1) 0]).take ((k ++ [q.getD (q.length - 1) 0]).length - (rs.getD ((ci rs (k ++ [q.getD (q.length - 1) 0])).toNat) .zero).left.length)) (rs.getD ((ci rs (k ++ [q.getD (q.length - 1) 0])).toNat) .zero).proof),f - 1,cX,di,cv⟩,jM Z Z,Z,⟨⟨PM O O hrun ‹_› (show ¬ ci rs (k ++ [q.getD (q.length - 1) 0]) < 0 by omega) a7,Ot hlen hkl (hrf (show ¬ ci rs (k ++ [q.getD (q.length - 1) 0]) < 0 by omega)).2.2.1 (hrf (show ¬ ci rs (k ++ [q.getD (q.length - 1) 0]) < 0 by omega)).2.1 O,by have:=a7.2.1;omega,by have h0:=hmk a7.1;have h9:=@List.length_append _ d (nx ((k ++ [q.getD (q.length - 1) 0]).take ((k ++ [q.getD (q.length - 1) 0]).length - (rs.getD (ci rs (k ++ [q.getD (q.length - 1) 0])).toNat .zero).left.length)) (rs.getD (ci rs (k ++ [q.getD (q.length - 1) 0])).toNat .zero).proof);have h8:d.length + (rs.getD (ci rs (k ++ [q.getD (q.length - 1) 0])).toNat .zero).proof.length<=100000:=a7.2.2.1;omega,a7.2.2.2,SU hf a7.2.1 (by have h1:=hrf (show ¬ ci rs (k ++ [q.getD (q.length - 1) 0]) < 0 by omega);omega) O⟩,e1,(cy dm (congrArg aq ((by rfl)))),(cy dw (congrArg aq ((by rfl)))),(cy dz (congrArg cE ((by rfl)))),bD,eN,b7,b8,b9,e4,e5,e6,bA,bB,bC⟩,O1⟩
  refine al.skip ?_;exact ⟨⟨q.take (q.length - 1),k ++ [q.getD (q.length - 1) 0],n,d,m,f - 1,.slice av ai ag,.slice (some ⟨a4,0,none⟩) (q.length - 1) a5,dv⟩,jM Z Z,Z,⟨⟨PH O O hrun ‹_› (show ci rs (k ++ [q.getD (q.length - 1) 0]) < 0 by omega),by simp only [List.length_take,List.length_append,List.length_cons,List.length_nil];omega,hn,hd,hm,by simp only [List.length_take];omega⟩,aS,(cy aP (congrArg aq ((by rfl)))),(cy bp (congrArg aq ((by rfl)))),(cy bm (congrArg cE ((by rfl)))),a9.get,cK,br,a1,D,c7,ar,aa,cf,cc,aI⟩,O1⟩
 refine al.exit<|fV _ _<|.seq fun _ eQ=>.region<|.q Z (ah Z)<|.q Z (ah Z)<|.q Z (cM Z)<|.q Z (aj i8 pk U Z)<|.q Z (aj ik gi U Z)<|.q Z (ak kg Z Z a2 Z) ?_;refine Ops.l Z (fun _ _ dO _=>ee (s:=k) Z cT u9 u5 bc.slc ?_);refine dO _ _<|.q Z (cM Z)<|.q Z (aj k5 ij U Z)<|.q Z (aj ol fU U Z)<|.l Z (fun _ _ dS _=>be (cs:=[bg (k)]) (c':=[kv,num (g),u,rv,.map (some mb),qv,num ((m:Nat):Int),bg (k),num ((n:Nat):Int),dv]) dj rfl rfl rfl rfl fU a2 (Nat.le_of_ble_eq_true rfl) rfl rfl fun A172 ay=>?_);have eS:=ay.keep _ _ a0.symm bd;have c3:=bb.keep ay.keep D;have e2:=ao d1 aG aF ay.n ay.keep;refine dS _ _<|.nil<|eQ _ _<|.seq fun _ eT=>.region<|.q Z (ah Z)<|.q Z (cM Z)<|.q Z (aj k5 ij U Z)<|.q Z (an xp ij Z Z ay.get Z) ?_;obtain ⟨dd,cZ,ck,fq,_⟩:=c3.own.slice;subst fq;refine Ops.l Z (fun _ _ dV _=>be (cs:=[bg (k),num ((n:Nat):Int),.slice dd cZ ck]) (c':=[bg (k),num ((n:Nat):Int),.slice dd cZ ck]) ay.wf rfl rfl rfl rfl ij eS (Nat.le_of_ble_eq_true rfl) rfl rfl fun A183 aD=>?_);have eV:=aD.keep _ _ a0 ay.get;have dD:=c3.keep aD.keep aa;have e3:=ao e2 aG dG aD.n aD.keep;refine dV _ _<|.nil<|eT _ _<|.ret ?_;repeat first | with_reducible refine bw ?_ | with_reducible refine bj ?_
 exact XX (fa xp ij Z aD.get Z gz) (⟨_,_,_,_,_,_,_,by rw [ua (zL O O hrun)];rfl,e3,aD.wf,eV,by rw [ua (zL O O hrun)];exact dD,D,by rw [ua (zL O O hrun)];rfl⟩)
end Go.Proofs.YtjppkekmddjcfaaGreatDoor

namespace Go.Proofs.YtjppkekmddjcfaaGreatDoor
open Go Go.RowKit V
abbrev UJ (E:List (UInt8 × Value)) (c:UInt8):Value:=(lk E c).getD (.slice none 0 0)
structure nX (A0 A:AH) (E:List (UInt8 × Value)) (rs:List bf) (i:Nat) (bs:List Nat):Prop where
  nd:(E.map (·.1)).Nodup
  fr:∀ c,Fresh A0 A (UJ E c) 1 (cN (gJ (rs.take i) c))
  ne:∀ c,∀ b ∈ bs,blk (UJ E c) ≠ some b
  sp:∀ c d,c ≠ d->bn (UJ E c) (UJ E d)
section
variable {A0 A A2 A3 A4:AH} {E:List (UInt8 × Value)} {rs:List bf} {i m b:Nat} {bs:List Nat} {c d:UInt8} {v:Value} {o:fG}
theorem Nx (c:UInt8):gJ [] c=[]:=by simp [gJ]
theorem nX.nil:nX A0 A [] rs 0 bs:=⟨by simp,fun c=>by rw [List.take_zero,Nx];exact Fresh.nil _ _ _,fun c b _ q=>(by cases q),fun _ _ _=>bn.nil⟩
theorem tx {rs:List bf} {i j:Nat} (h:j < i):(rs.take i).getD j .zero=rs.getD j .zero:=by
  simp [List.getD_eq_getElem?_getD,List.getElem?_take,h]
theorem JU (hi:i < rs.length) (d:UInt8):gJ (rs.take (i + 1)) d=if tF (rs.getD i .zero)=d then gJ (rs.take i) d ++ [(i:Int)] else gJ (rs.take i) d:=by
  have e:∀ k,k<=rs.length->gJ (rs.take k) d=((List.range k).filter fun i=>decide (tF (rs.getD i .zero)=d)).map fun (i:Nat)=>(i:Int):=fun k hk=>by
    unfold gJ
    rw [List.length_take,Nat.min_eq_left hk]
    congr 1
    apply List.filter_congr
    intro j hj
    rw [tx (List.mem_range.1 hj)]
  rw [e _ O,e _ O,List.range_succ,List.filter_append,List.map_append]
  by_cases h:tF (rs.getD i .zero)=d
  · rw [if_pos h,List.filter_cons,decide_eq_true h];rfl
  · simp only [if_neg h,List.filter_cons,List.filter_nil,decide_eq_false h];simp
theorem uO (d:UInt8):UJ (yF E c v) d=if d=c then v else UJ E d:=by
  show (lk (yF E c v) d).getD _=_
  rw [Vj]
  split <;> rfl
theorem nX.step (h:nX A0 A E rs i bs) (le:A.le A2) (D:A2.wf) (ap:mW A2 (UJ E c) 1 (cN (gJ (rs.take i) c ++ [(i:Int)])) v A3) (fr:Fresh A0 A3 v 1 (cN (gJ (rs.take i) c ++ [(i:Int)]))) (sb:uy A3 A4 m o) (hm:m ∈ bs)
    (hne:∀ b ∈ bs,blk v ≠ some b) (hi:i < rs.length) (hc:tF (rs.getD i .zero)=c):nX A0 A4 (yF E c v) rs (i + 1) bs:=by
  have hs:∀ d,d ≠ c->bn v (UJ E d):=fun d hd=>bn.appd (h.sp c d hd.symm) ((h.fr d).own.le le) D ap
  refine ⟨LH h.nd,fun d=>?_,fun d b hb=>?_,fun d e hde=>?_⟩
  · rw [uO,JU hi,hc]
    by_cases hd:d=c
    · subst hd;rw [if_pos Z,if_pos Z];exact fr.keep sb.keep (hne m hm)
    · rw [if_neg hd,if_neg (fun q=>hd q.symm)]
      exact (((h.fr d).le le).appd ap (h.sp c d (fun q=>hd q.symm))).keep sb.keep (h.ne d m hm)
  · rw [uO];split
    · exact hne b hb
    · exact h.ne d b hb
  · rw [uO,uO]
    by_cases hd:d=c
    · subst hd;rw [if_pos Z,if_neg (fun q=>hde q.symm)];exact hs e (fun q=>hde q.symm)
    · rw [if_neg hd]
      by_cases he:e=c
      · subst he;rw [if_pos Z];exact (hs d hd).symm
      · rw [if_neg he];exact h.sp d e hde
theorem nX.map {rw:Bool} {es:Array MapEntry} {ck:Nat} (h:nX A0 A E rs i bs) (hi:rs.length<=i) (g:A.get m=some (.obj rw (.map es ck))) (hE:dh ej es E) (hb:b ∈ bs) (hm:m ≠ b):py (A.hide [some b]) m rs:=by
  refine ⟨rw,es,ck,E,bN g (rd hm m7),hE,fun c=>?_⟩
  have:=((h.fr c).off (bs:=[some b]) (ks (h.ne c b hb) kr) (AH.le.refl _)).slc
  rwa [List.take_of_length_le hi] at this
theorem WA {p:Nat->Prop} {a b:Nat} (ha:p a) (hb:p b):∀ c ∈ [a,b],p c:=fun c hc=>by
  simp only [List.mem_cons,List.not_mem_nil,or_false] at hc
  rcases hc with rfl | rfl
  · exact ha
  · exact hb
theorem Ax {v:Value} {n:Nat} {l:List Value} (h:pu A v n l) (g:A.get b=none):blk v ≠ some b:=fun q=>by
  obtain ⟨o,ho⟩:=h.blkget q;rw [g] at ho;cases ho
theorem sy (le:A.le A2) (h:A2.get b=none):A.get b=none:=by
  cases q:A.get b with
  | none=>rfl
  | some o=>rw [le.get b o q] at h;cases h
theorem J0 {v:Value} {n:Nat} {l:List Value} (le:A.le A2) (h:Fresh A2 A3 v n l):∀ b,blk v=some b->A.get b=none:=fun b hb=>sy le (h.lo b hb)
theorem II {s v:Value} {n:Nat} {l:List Value} (le:A.le A2) (wf:A.wf) (ap:mW A2 s n l v A3) (h:∀ b,blk s=some b->A.get b=none):∀ b,blk v=some b->A.get b=none:=fun b hb =>
  (ap.blk b hb).elim (fun q=>h b q) fun q=>aW wf (Nat.le_trans le.n q)
theorem IG {s v:Value} {n:Nat} {l:List Value} (le:A.le A2) (wf:A.wf) (ap:mW A2 s n l v A3) (h:∀ b,blk s=some b->A.get b=none):A.le A3 :=
  ⟨Nat.le_trans le.n ap.n,fun b o g=>ap.get b o (le.get b o g) fun q=>by rw [h b q] at g;cases g⟩
theorem xP {bs:List (Option Nat)} (le:A.le A2):(A.hide bs).le (A2.hide bs):=cd ((cz A bs).trans le) fun b q=>cn q
end
def eJ (rs:List bf) (w:List UInt8):Option GU:=if 20000 < w.length then none else j6 rs w
section
variable {g:Int} {l:List (List UInt8)} {rs:List bf} {w:List UInt8}
theorem CJ (h:bq g w=0):rM g rs w=eJ rs w:=by
  unfold rM eJ
  by_cases q:w.length<=20000
  · rw [if_pos ⟨h,q⟩,if_neg O]
  · rw [if_neg (fun z=>q z.2),if_pos O]
theorem Gj (h:(!bZ g l rs)=true):iG g l rs w=.zero/\ia g l rs w=100:=QJ (by simpa using h)
theorem Gk (h:(!bZ g l rs)=false) (h2:¬ bq g w=0):iG g l rs w=.zero/\ia g l rs w=4:=by
  rw [(oM (by simpa using h)).1,(oM (by simpa using h)).2];exact Pr h2
theorem Gr (h:(!bZ g l rs)=false) (h2:¬ ¬ bq g w=0) (q:(!(eJ rs w).isSome)=true):iG g l rs w=.zero/\ia g l rs w=2:=by
  have h2:=Decidable.not_not.1 h2
  rw [(oM (by simpa using h)).1,(oM (by simpa using h)).2,xx,lU,CJ h2,sI q]
  simp [h2,fw]
theorem Gt (h:(!bZ g l rs)=false) (h2:¬ ¬ bq g w=0) (q:(!(eJ rs w).isSome)=false):iG g l rs w=fw (eJ rs w)/\ia g l rs w=0:=by
  have h2:=Decidable.not_not.1 h2
  rw [(oM (by simpa using h)).1,(oM (by simpa using h)).2,xx,lU,CJ h2]
  simp_all
theorem wU (hs:bZ g l rs=true):∀ r ∈ rs,0 < r.left.length/\r.left.length<=1000000:=fun r hr=>by have:=nI hs hr;omega
theorem sX (hs:bZ g l rs=true):rs.length<=1000000:=by have:=(gh hs).2.1;omega
end
end Go.Proofs.YtjppkekmddjcfaaGreatDoor

namespace Go.Proofs.YtjppkekmddjcfaaGreatDoor
open Go Go.RowKit V
set_option maxRecDepth 100000

theorem S7 {A:AH} {n:Nat} {a:List UInt8} {i:Int} {v:Value} {xs:List Value} (h:bI A n v xs):re [bg a,num i,v]=true:=by
  obtain ⟨p,k,c,rfl,_⟩:=h;rfl
theorem je {A:AH} {k b:Nat} {o x:fG} (h:A.get b=some x) (hn:b ≠ k):(A.set k o).get b=some x:=(AH.set_get_ne _ _ hn).trans h
theorem rD {A0 A:AH} {k:Nat} {o:fG} (le:A0.le A) (D:A0.wf) (h:A0.get k=none):A0.le (A.set k o):=ao le D h rfl fun b' o' hn g=>je g hn
theorem sU (p q:Value) (A:AH):ke Tryz.prog 105 #[p,q] .returning A (fun en u' A1=>en=.returned (dX [])/\u'=.returning/\A=A1):=by
  refine ke.enter (args:=[p,q]) Tryz.func105 Z (by rw [Tryz.ntmps105];exact Nat.le_of_ble_eq_true rfl) (fun wf=>?_)
  have hn:Tryz.f105.ntmps=12:=Tryz.ntmps105
  have hr:Tryz.f105.results = #[]:=Tryz.results105
  rw [hn,hr]
  refine ru.seq (ru.region Z (tc.recoverNil Z Z Z O (fun _ _=>rfl) (tc.nil ?_)))
  refine ru.of_run ?_
  refine al.block ?_
  refine al.seq fun K3 h4=>?_
  refine al.region ?_
  refine Ops.val (v:=.bool true) Z Z (fun a ha w hw=>?_) ?_
  · have h5:=cI (x:=.tmp 5) ha Z
    simp only [execOp,h5]
    simp [Act.eval,go_sem]
  refine Ops.nil (h4 _ _ ?_)
  refine al.cond_true Z ?_
  refine al.region<|.q Z (ae Z)<|.nil ?_
  exact ⟨Z,[],Z,Z,Z,Z⟩

theorem Xd:da Tryz.prog 149=some 0:=by kernel_rfl
theorem VY:lD Tryz.prog 37 []=some (.agg #[bg [],num 0,.slice none 0 0]):=by kernel_rfl

theorem zT (a b:Nat) (c1 c2:List Value) (k1 k2:Nat) (older:List PanicEntry) (A:AH) (hab:a ≠ b) (h1:A.get a=some (.row true c1 k1)) (l1:3<=c1.length) (h2:A.get b=some (.row true c2 k2)) (l2:1<=c2.length) :
    ke Tryz.prog 105 #[.pointer (some ⟨a,0,none⟩),.pointer (some ⟨b,0,none⟩)] (.panicking ({ v:=.iface 149 (.agg #[]),recovered:=false } :: older)) A (fun en u' A1=>en=.returned (dX [])/\u'=.panicking ({ v:=.iface 149 (.agg #[]),recovered:=true } :: older) /\
      A1=(((A.new (.row true [] 0)).set A.n (.row true [] 0)).set a (.row true (pt c1 0 [bg [],num 0,.slice none 0 0]) k1)).set b (.row true (pt c2 0 [.bool false]) k2)):=by
  refine ke.enter (args:=[_,_]) Tryz.func105 Z (by rw [Tryz.ntmps105];exact Nat.le_of_ble_eq_true rfl) (fun wf=>?_)
  have hn:Tryz.f105.ntmps=12:=Tryz.ntmps105
  have hr:Tryz.f105.results = #[]:=Tryz.results105
  rw [hn,hr]
  refine ru.seq (ru.region Z (tc.recover Z Z Z O (fun _ _=>rfl) (tc.nil ?_)))
  refine ru.of_run ?_
  refine al.block ?_
  refine al.seq fun K3 h4=>?_
  refine al.region ?_
  refine Ops.val (v:=.bool false) Z Z (fun a ha w hw=>?_) ?_
  · have h5:=cI (x:=.tmp 5) ha Z
    simp only [execOp,h5]
    simp [Act.eval,go_sem]
  refine Ops.nil (h4 _ _ ?_)
  refine al.cond_false Z ?_
  refine al.seq fun K5 h6=>?_
  refine al.region ?_
  refine Ops.val (v:=.tuple #[.agg #[],.bool true]) Z Z (fun a ha w hw=>?_) ?_
  · have h5:=cI (x:=.tmp 5) ha Z
    simp only [execOp,h5]
    simp [Act.eval,go_sem]
    rw [FG Tryz.underlying149];rfl
  refine Ops.q Z (aQ Z Z)<|.q Z (aQ Z Z)<|.nil (h6 _ _ ?_)
  refine al.cond_true Z ?_
  refine al.seq fun K7 h8=>?_
  refine al.region ?_
  refine Ops.l rfl fun K Kp hK _=>zZ (z:=.agg #[]) (cs:=[]) Ro Z (hK _ _ ?_)
  refine Ops.l rfl fun K Kp hK _=>qs (cs:=[]) Z Z Z Xd Z (AH.new_get_same _ _) (by simp) Z (hK _ _ ?_)
  refine Ops.nil (h8 _ _ ?_)
  have ha:=wf a _ h1
  have hb:=wf b _ h2
  refine al.region ?_
  refine Ops.q Z (dx Z VY) ?_
  refine Ops.l rfl fun K Kp hK _=>qs (cs:=[bg [],num 0,.slice none 0 0]) (c:=c1) (cap:=k1) Z Z Z ij Z (by rw [AH.set_get_ne _ _ (by show a ≠ A.n;omega),AH.new_get_ne _ _ (by show a ≠ A.n;omega)];exact h1) (by simpa using l1) Z (hK _ _ ?_)
  refine Ops.l rfl fun K Kp hK _=>qs (cs:=[.bool false]) (c:=c2) (cap:=k2) Z Z Z mn Z (by rw [AH.set_get_ne _ _ (by show b ≠ a;omega),AH.set_get_ne _ _ (by show b ≠ A.n;omega),AH.new_get_ne _ _ (by show b ≠ A.n;omega)];exact h2) (by simpa using l2) Z (hK _ _ ?_)
  refine Ops.nil ?_
  exact ⟨Z,[],Z,Z,Z,Z⟩


theorem vf (w:List UInt8) (rs:List bf) (l:List (List UInt8)) (b0:Nat) (g:Int) (u rv:Value) (mb:Nat) (x0 x5 x6 x7 x8 x9:Value) (A0 A:AH) (a2:A0.le A) (D:A0.wf)
    (hb:A.get b0=some (.row true [x0,num g,u,rv,.map (some mb),x5,x6,x7,x8,x9] 10)) (a8:A0.get b0=none) (hs:bZ g l rs=true) (hL:gO A0) (hr:bI A0 3 rv (dc rs)) (hp:Proofs A0 rs) (hI:py A0 mb rs) :
    bz Tryz.prog 60 #[.pointer (some ⟨b0,0,none⟩),bg (w)] A (fun v A1=>∃ V y0 y5 y6 y7 y8 y9,v=.tuple #[.agg #[bg (fw (eJ rs w)).word,num (((fw (eJ rs w)).steps:Nat):Int),V],.bool (eJ rs w).isSome]/\A0.le A1/\A1.wf /\
      A1.get b0=some (.row true [y0,num g,u,rv,.map (some mb),y5,y6,y7,y8,y9] 10)/\Fresh A0 A1 V 3 (cE (fw (eJ rs w)).disk)/\blk V ≠ some b0):=by
  refine yI.ret (enterD (e:=[(0,.pointer (some ⟨b0,0,none⟩)),(1,bg w)]) (args:=[.pointer (some ⟨b0,0,none⟩),bg w]) Tryz.call60 Tryz.func60 Z Tryz.results60 Tryz.ntmps60 Z Z Z (fun wf=>?_))
  have ac:b0 < A.n:=wf _ _ hb
  have n1:b0 ≠ A.n:=by omega
  have n2:b0 ≠ A.n + 1:=by omega
  have n3:A.n + 1 ≠ A.n:=by omega
  have a5:∀ o1 o2:fG,A.le ((A.new o1).new o2):=fun o1 o2=>AH.le_new (AH.le_new (AH.le.refl A) wf o1) wf o2
  have g0:∀ b,A.n<=b->A0.get b=none:=fun b h=>aW D (Nat.le_trans a2.n h)
  refine al.seq fun K1 h1=>?_
  refine al.region ?_
  refine Ops.l rfl fun K Kp hK _=>zZ (z:=.agg #[bg [],num 0,.slice none 0 0]) (cs:=[bg [],num 0,.slice none 0 0]) DT Z (hK _ _ ?_)
  refine Ops.l rfl fun K Kp hK _=>zZ (z:=.bool false) (cs:=[.bool false]) z4 Z (hK _ _ ?_)
  refine Ops.nil (h1 _ _ ?_)
  have a9:=AH.wf_new wf (.row true [bg [],num 0,.slice none 0 0] 3)
  have a3:=AH.wf_new a9 (.row true [.bool false] 1)
  have a1:=a5 (.row true [bg [],num 0,.slice none 0 0] 3) (.row true [.bool false] 1)
  have e1:((A.new (.row true [bg [],num 0,.slice none 0 0] 3)).new (.row true [.bool false] 1)).get A.n=some (.row true [bg [],num 0,.slice none 0 0] 3):=by
    rw [AH.new_get_ne _ _ (by show A.n ≠ A.n + 1;omega)];exact AH.new_get_same _ _
  have e2:((A.new (.row true [bg [],num 0,.slice none 0 0] 3)).new (.row true [.bool false] 1)).get (A.n + 1)=some (.row true [.bool false] 1):=AH.new_get_same _ _
  have e0:=a1.get _ _ hb
  have nB:((A.new (.row true [bg [],num 0,.slice none 0 0] 3)).new (.row true [.bool false] 1)).n=A.n + 2:=rfl
  generalize ((A.new (.row true [bg [],num 0,.slice none 0 0] 3)).new (.row true [.bool false] 1))=B at *
  have leB:=a2.trans a1
  refine al.seq fun K2 h2=>?_
  refine al.region ?_
  refine Ops.q Z (mD Z Z) ?_
  refine Ops.defer (d:={ target:=.fn (.func 105) #[.pointer (some ⟨A.n,0,none⟩),.pointer (some ⟨A.n + 1,0,none⟩)],args:=#[] }) Z Z (fun a ha w hw=>?_) ?_
  · have h6:=cI (x:=.tmp 6) ha Z
    simp only [execOp,resolve,h6]
    simp [Deferred.ofValue]
  refine Ops.nil (h2 _ _ ?_)
  refine al.seq fun K3 h3=>?_
  refine al.seq fun K3' a4=>?_
  refine al.region ?_
  refine Ops.q Z (ah Z)<|.q Z (cw u9 Z) ?_
  refine Ops.q Z (d8 (b:=20000) Z Z) ?_
  refine Ops.nil (a4 _ _ ?_)
  refine al.if (p:=20000 < w.length) Z (fun hl=>?_) (fun hl=>?_)
  · have et:eJ rs w=none:=if_pos hl
    refine al.seq fun K5 h5=>?_
    refine al.region ?_
    refine Ops.q Z (dx Z VY) ?_
    refine Ops.l rfl fun K Kp hK _=>qs (cs:=[bg [],num 0,.slice none 0 0]) (c:=[bg [],num 0,.slice none 0 0]) (cap:=3) Z Z Z ij Z e1 (by simp) Z (hK _ _ ?_)
    refine Ops.l rfl fun K Kp hK _=>qs (cs:=[.bool false]) (c:=[.bool false]) (cap:=1) Z Z Z mn Z (je e2 n3) (by simp) Z (hK _ _ ?_)
    refine Ops.nil (h5 _ _ ?_)
    refine al.ret ?_
    show mo _ _ _ _ _ _ _
    refine ⟨by simp,_,_,105,_,Z,(fun w=>rfl),(sU _ _ _).mono ?_⟩
    rintro en u' A1 ⟨rfl,rfl,rfl⟩
    refine ⟨[.agg #[bg [],num 0,.slice none 0 0],.bool false],?_,?_⟩
    · exact gB.cell Z (pQ xp ij (je (AH.set_get_same _ _ _) n3.symm) Z) (gB.cell Z (pR uM (AH.set_get_same _ _ _) Z) gB.nil)
    · rw [et]
      have a0:=AH.wf_set a3 (k:=A.n) O (.row true (pt [bg [],num 0,.slice none 0 0] 0 [bg [],num 0,.slice none 0 0]) 3)
      refine ⟨.slice none 0 0,x0,x5,x6,x7,x8,x9,rfl,?_,AH.wf_set a0 (by show A.n + 1 < B.n;omega) _,?_,Fresh.nil _ _ _,fun q=>by cases q⟩
      · exact rD (rD leB D (g0 A.n (Nat.le_refl _))) D (g0 (A.n + 1) O)
      · exact je (je e0 n1) n2
  refine al.skip (h3 _ _ ?_)
  have et:eJ rs w=j6 rs w:=if_neg hl
  refine al.seq fun K5 h5=>?_
  refine al.region ?_
  refine Ops.q Z (ah Z)<|.q Z (ah Z) ?_
  have hle:=cd (A:=B) (bs:=[some b0]) leB (fun b q=>by rw [List.mem_singleton] at q;cases q;exact a8)
  have hwf:=cg (bs:=[some b0]) a3
  have hno:(B.hide [some b0]).get b0=none:=cn (List.mem_singleton.2 rfl)
  have k1:=bN (bs:=[some b0]) e1 Ow
  have k2:=bN (bs:=[some b0]) e2 Ow
  refine Ops.l rfl fun K Kp hK hKp=>Rd Z (VJ w rs l b0 g u rv mb x0 x5 x6 x7 x8 x9 (B.hide [some b0]) B (cz _ _) hwf e0 hno hs O (hL.le hle) (hr.le hle) (hp.le hle) (hI.le hle)) (fun v C hv=>hK _ _ ?_) (fun ch C hc=>hKp _ _ ?_)
  · obtain ⟨V,y0,y5,y6,y7,y8,y9,rfl,leC,wfC,gC,frC,neC,isC⟩:=hv
    have a6:=frC.seph k1
    have a7:=frC.seph k2
    have one:re [bg (fw (j6 rs w)).word,num (((fw (j6 rs w)).steps:Nat):Int),V]=true:=S7 frC.slc
    refine Ops.l rfl fun K Kp hK _=>qs (cs:=[bg (fw (j6 rs w)).word,num (((fw (j6 rs w)).steps:Nat):Int),V]) (c:=[bg [],num 0,.slice none 0 0]) (cap:=3) Z Z Z ij Z (leC.get _ _ k1) (by simp) one (hK _ _ ?_)
    refine Ops.l rfl fun K Kp hK _=>qs (cs:=[.bool true]) (c:=[.bool false]) (cap:=1) Z Z Z mn Z (je (leC.get _ _ k2) n3) (by simp) Z (hK _ _ ?_)
    refine Ops.nil (h5 _ _ ?_)
    refine al.ret ?_
    show mo _ _ _ _ _ _ _
    refine ⟨by simp,_,_,105,_,Z,(fun w=>rfl),(sU _ _ _).mono ?_⟩
    rintro en u' A1 ⟨rfl,rfl,rfl⟩
    refine ⟨[.agg #[bg (fw (j6 rs w)).word,num (((fw (j6 rs w)).steps:Nat):Int),V],.bool true],?_,?_⟩
    · exact gB.cell Z (pQ xp ij (je (AH.set_get_same _ _ _) n3.symm) Z) (gB.cell Z (pR uM (AH.set_get_same _ _ _) Z) gB.nil)
    · rw [et]
      have X:=hle.trans leC
      have nC:=leC.n
      have nH:(B.hide [some b0]).n=B.n:=rfl
      have a0:=AH.wf_set wfC (k:=A.n) O (.row true (pt [bg [],num 0,.slice none 0 0] 0 [bg (fw (j6 rs w)).word,num (((fw (j6 rs w)).steps:Nat):Int),V]) 3)
      refine ⟨V,y0,y5,y6,y7,y8,y9,by rw [isC];rfl,?_,AH.wf_set a0 (by show A.n + 1 < C.n;omega) _,?_,?_,neC⟩
      · exact rD (rD X D (g0 A.n (Nat.le_refl _))) D (g0 (A.n + 1) O)
      · exact je (je gC n1) n2
      · exact ((frC.base hle).keep (fun b' o hn h=>je h hn) a6).keep (fun b' o hn h=>je h hn) a7
  · obtain ⟨hn,rfl,leC,wfC,y0,y5,y6,y7,y8,y9,gC⟩:=hc
    show mo _ _ _ _ _ _ _
    refine ⟨by simp,_,_,105,_,Z,(fun w=>rfl),(zT A.n (A.n + 1) _ _ 3 1 [] C O (leC.get _ _ k1) (by simp) (leC.get _ _ k2) (by simp)).mono ?_⟩
    rintro en u' A1 ⟨rfl,rfl,rfl⟩
    refine ⟨[.agg #[bg [],num 0,.slice none 0 0],.bool false],?_,?_⟩
    · exact gB.cell Z (pQ xp ij (je (AH.set_get_same _ _ _) n3.symm) Z) (gB.cell Z (pR uM (AH.set_get_same _ _ _) Z) gB.nil)
    · rw [et,hn]
      have X:=hle.trans leC
      have nC:=leC.n
      have nH:(B.hide [some b0]).n=B.n:=rfl
      have lbC:=wfC _ _ gC
      have a0:=AH.wf_new wfC (.row true [] 0)
      have aa:=AH.wf_set a0 (k:=C.n) (by show C.n < C.n + 1;omega) (.row true [] 0)
      have ab:=AH.wf_set aa (k:=A.n) (by show A.n < C.n + 1;omega) (.row true (pt [bg [],num 0,.slice none 0 0] 0 [bg [],num 0,.slice none 0 0]) 3)
      have l1:=AH.le_new X D (.row true [] 0)
      have l2:A0.le ((C.new (.row true [] 0)).set C.n (.row true [] 0)):=rD l1 D (aW D X.n)
      refine ⟨.slice none 0 0,y0,y5,y6,y7,y8,y9,rfl,?_,AH.wf_set ab (by show A.n + 1 < C.n + 1;omega) _,?_,Fresh.nil _ _ _,fun q=>by cases q⟩
      · exact rD (rD l2 D (g0 A.n (Nat.le_refl _))) D (g0 (A.n + 1) O)
      · exact je (je (je ((AH.new_get_ne _ _ O).trans gC) O) n1) n2
end Go.Proofs.YtjppkekmddjcfaaGreatDoor

namespace Go.Proofs.YtjppkekmddjcfaaGreatDoor
open Go Go.RowKit V
set_option maxRecDepth 100000
theorem nu:Tryz.prog.info? 3=some Tryz.t3:=by kernel_rfl
theorem WE:c9 Tryz.prog 147=some [(0,1),(1,3),(4,1),(5,1),(6,1),(7,3)]:=by kernel_rfl
theorem XZ:type_of% @Tryz.underlying147:=@Tryz.underlying147
theorem Yh:cx Tryz.prog 147=some (.agg #[.slice none 0 0,.int .i64 0,.slice none 0 0,.slice none 0 0,.map none,.slice none 0 0,.int .i64 0,.string ⟨⟨[]⟩⟩,.int .i64 0,.slice none 0 0]):=by kernel_rfl
theorem z3:cx Tryz.prog 3=some (.int .i64 0):=by kernel_rfl

theorem qf (g:Int) (u:Value) (l:List (List UInt8)) (rv:Value) (rs:List bf) (A:AH) (hn:rs.length<=1000000) (e0:∀ r ∈ rs,0 < r.left.length/\r.left.length<=1000000) (hu:bI A 1 u (d6 l)) (hr:bI A 3 rv (dc rs)) (hp:Proofs A rs):bz Tryz.prog 59 #[.agg #[num (g),u,rv]] A (fun v A1=>∃ b mb,v=.pointer (some ⟨b,0,none⟩)/\A.le A1/\A1.wf/\A1.get b=some (.row true [.slice none 0 0,num g,u,rv,.map (some mb),.slice none 0 0,num 0,bg [],num 0,.slice none 0 0] 10)/\A.get b=none/\py (A1.hide [some b]) mb rs):=by
 refine ic Tryz.call59 Tryz.func59 Z Tryz.results59 Tryz.ntmps59 Z (fun wf=>?_);have e2:=AH.le.refl A;refine al.seq fun _ h2=>.region<|.l Z (fun _ _ dZ _=>dP wf rfl rfl fun A5 b4 aG=>?_);have bP:=e2.trans aG.le;refine dZ _ _<|.q Z (ae Z)<|.nil<|h2 _ _<|.seq fun _ h9=>.region<|.q Z (an fp eO Z Z aG.get Z)<|.l Z (fun _ _ ch _=>nW aG.wf fun A12 a3 ab=>?_);have aB:=aW wf (Nat.le_trans bP.n ab.lo);have dv:=ab.le.get _ _ aG.get;have b1:=bP.trans ab.le;refine ch _ _<|.q Z (dx Z (bH XZ Yh WE Z))<|.l Z (fun _ _ cv _=>dP ab.wf rfl rfl fun A18 a8 ag=>?_);have a6:=ne_new ab.wf ab.get ag.lo;have aR:=aW wf (Nat.le_trans b1.n ag.lo);have dw:=ag.le.get _ _ dv;have dz:=ag.le.get _ _ ab.get;have b2:=b1.trans ag.le;refine cv _ _<|.q Z (ae Z)<|.nil<|h9 _ _<|.seq fun _ dD=>.seq fun _ dG=>.region<|.q Z (aj eF jO U Z)<|.q Z (ak kh Z Z dw Z)<|.q Z (bF (n:=rs.length) rh Z (hr.le b2) O (dE _)) ?_;refine Ops.q Z (ah Z)<|.nil<|dG _ _<|.block<|.loop (X:=Nat × Array MapEntry × Nat × List (UInt8 × Value)) (fun ⟨i,es,ck,E⟩=>[(3,.pointer (some ⟨a8,0,none⟩)),(12,rv),(13,num ((rs.length:Nat):Int)),(14,num ((i:Nat):Int))]) (fun ⟨i,es,ck,E⟩ B=>(i<=rs.length/\dh ej es E)/\A.le B/\B.get a3=some (.obj true (.map es ck))/\B.get a8=some (.row true [.slice none 0 0,num (g),u,rv,.map (some a3),.slice none 0 0,num ((0:Nat):Int),bg ([]),num ((0:Nat):Int),.slice none 0 0] 10)/\(nX A B E rs i [a3,a8])) (fun ⟨i,es,ck,E⟩=>rs.length - i) (⟨0,#[],0,[]⟩) (mw Z Z Z Z) (⟨⟨Nat.zero_le _,dh.nil⟩,b2,dz,ag.get,nX.nil⟩) ?_;rintro ⟨i,es,ck,E⟩ B28 ⟨⟨hi,hME⟩,ay,a9,aa,hIO⟩;refine al.wf fun a7=>?_;have hvv:=hIO.fr ((rs.getD i .zero).left.getD ((rs.getD i .zero).left.length - 1) 0);have ac:=hIO.ne ((rs.getD i .zero).left.getD ((rs.getD i .zero).left.length - 1) 0) a3 (by simp);have a4:=hIO.ne ((rs.getD i .zero).left.getD ((rs.getD i .zero).left.length - 1) 0) a8 (by simp);have bO:=AH.le.refl B28;have hil:=BH (rs.take i) ((rs.getD i .zero).left.getD ((rs.getD i .zero).left.length - 1) 0);have htl:(rs.take i).length<=i:=by simp;omega
 have hll:=fun q:i < rs.length=>e0 _ (bi (d:=bf.zero) q);refine al.seq fun _ dI=>.region<|.q Z (bX Z Z)<|.nil<|dI _ _<|.seq fun _ dJ=>.if rfl (fun e3=>?_) (fun e3=>?_)
 ·refine al.skip<|dJ _ _<|.seq fun _ bD=>.block<|.seq fun _ dK=>.region<|.q Z (ah Z) ?_;obtain ⟨ea,en,e9,ey,e7,ex,ev,dk,e1,dl,bS,e6⟩:=bI.at (i:=i) (hr.le ay) Oz O;refine Ops.q Z (aH rh iU Z dk Z e1)<|.q Z (an vn iU Z Z dl (bS.trans (congrArg some (i4 O))))<|.l Z (fun _ _ cA _=>cm a7 LN rfl fun A42 ec V=>?_);have az:=ne_new a7 a9 V.lo;have aA:=ne_new a7 aa V.lo;have dd:=hvv.own.ne_new a7 V.lo;have aS:=aW wf (Nat.le_trans ay.n V.lo);have aT:=aW a7 (Nat.le_trans bO.n V.lo);have dL:=V.le.get _ _ a9;have dM:=V.le.get _ _ aa;have bU:=hvv.le V.le;have cX:=ay.trans V.le;have cS:=bO.trans V.le;refine cA _ _<|.q Z (ae Z)<|.l Z (fun _ _ cC _=>be (cs:=[bg ((rs.getD i .zero).left),bg ((rs.getD i .zero).right),(rs.getD i .zero).pv]) (c':=[bg ((rs.getD i .zero).left),bg ((rs.getD i .zero).right),(rs.getD i .zero).pv]) V.wf rfl rfl rfl rfl iU V.get (Nat.le_of_ble_eq_true rfl) (kw (hp.get O)) rfl fun A51 a2=>?_);have aY:=a2.keep _ _ az dL;have ap:=a2.keep _ _ aA dM;have aI:=bU.keep a2.keep dd;have av:=ao cS a7 aT a2.n a2.keep;have b3:=ao cX wf aS a2.n a2.keep;refine cC _ _<|.nil<|dK _ _<|.seq fun _ dO=>.region<|.q Z (aj gk fU U Z)<|.q Z (ak gu Z Z a2.get Z)<|.q Z (aj gk fU U Z)<|.q Z (ak gu Z Z a2.get Z)<|.q Z (cw u9 Z) ?_;refine Ops.q Z (il (b:=1) Z Z O)<|.q Z (lR u9 Z Z (by have:=hll O;omega))<|.q Z (ae Z)<|.nil<|dO _ _<|.drawnP [0,1,2,3,4,5,6,7,8,9,11] 10 12 [12,13,14] [10,13,14] mixed Y Y Z<|.q Z Z Z (ah Z)<|.q Z Z Z (cM Z)<|.q Z Z Z (aj ze QL U Z) ?_;have aD:=c5 (off:=4) ap (show _=some (.map (some a3)) from rfl);refine o5.q Z Z Z (ak Mj Z Z ap Z)<|.q Z Z Z (ah Z)<|.q Z Z Z (ah Z)<|.q Z Z Z (cM Z)<|.q Z Z Z (aj ze QL U Z) ?_;have cc:=c5 (off:=4) ap (show _=some (.map (some a3)) from rfl);refine o5.q Z Z Z (ak Mj Z Z ap Z)<|.q Z Z Z (ah Z)<|.q Z Z Z (ah Z)<|.both Z Z Z Z Z Z ?_ ?_
  ·refine fun _ _ cF _=>qx sk Z Z QX u5 LX aY hME ?_;refine cF _ _ (aX.list (L:=[(⟨a8,4,none⟩,.map (some a3))]) Y (bx aD cO))<|.l Z Z Z (fun _ _ cH _=>aM (c:=[num ((i:Nat):Int)]) a2.wf rfl (aw eB cD z3 rfl U U rfl) fun A65 eg a1=>?_);have dm:=aW a7 (Nat.le_trans av.n a1.lo);have bL:=a1.le.get _ _ aY;have bM:=a1.le.get _ _ ap;have aP:=aI.le a1.le;have b0:=cr a1.le aD;have cZ:=b3.trans a1.le;have cV:=av.trans a1.le;refine cH _ _ (aX.list (L:=[(⟨a8,4,none⟩,.map (some a3))]) Y (bx b0 cO))<|.l Z Z Z (fun _ _ cK _=>cR (ys:=[num ((i:Nat):Int)]) rfl rfl eB cD nu z3 rfl U eB (fun _ h=>by cases h) aP.own (bW (n:=1) a1.get Z) rfl rfl (by show (_ + _) * 8<=_;simp only [ax,List.length_cons,List.length_nil];(try simp only [List.length_append,List.length_cons,List.length_nil]);omega) O2 fun A76 e4 a5=>?_);rw [show ([num ((i:Nat):Int)]:List Value)=cN [((i:Nat):Int)] from rfl,dt] at a5;obtain ⟨bV,d0⟩:=Fresh.grow aP cZ wf a5;have dS:=a5.keep ac bL;have d2:=a5.ne ac a1.wf bL;have dV:=a5.keep a4 bM;have d3:=a5.ne a4 a1.wf bM;have cf:=a5.cell a4 b0;refine cK _ _ (aX.list (L:=[(⟨a8,4,none⟩,.map (some a3))]) Y (bx cf cO))<|.l Z Z Z (fun _ _ cP _=>o4 sk a5.wf rfl rfl rfl QX u5 dS hME hIO.nd fun A91 bT bR ai d1=>?_);have b8:=hIO.step cV a1.wf a5 bV ai (by simp) (WA d2 d3) O Z;have dW:=ai.keep _ _ a6.symm dV;have bp:=ao d0 wf aB ai.n ai.keep;refine cP _ _ (aX.none Y)<|.done<|bD _ _<|.region<|.q Z (bE (b:=1) Z Z O)<|.q Z (ah Z)<|.nil ?_;exact ⟨⟨i + 1,bT,bR,yF E ((rs.getD i .zero).left.getD ((rs.getD i .zero).left.length - 1) 0) e4⟩,mw Z Z Z Z,Z,⟨⟨by omega,d1⟩,bp,ai.get,dW,b8⟩,O1⟩
  refine fun _ _ bb _=>aM (c:=[num ((i:Nat):Int)]) a2.wf rfl (aw eB cD z3 rfl U U rfl) fun A103 e5 D=>?_;have dj:=aW a7 (Nat.le_trans av.n D.lo);have aC:=D.le.get _ _ aY;have aV:=D.le.get _ _ ap;have aF:=aI.le D.le;have ar:=cr D.le aD;have b9:=cr D.le cc;have br:=b3.trans D.le;have bm:=av.trans D.le;refine bb _ _ (aX.list (L:=[(⟨a8,4,none⟩,.map (some a3)),(⟨a8,4,none⟩,.map (some a3))]) Y (bx b9 (bx ar cO)))<|.l Z Z Z (fun _ _ bc _=>qx sk Z Z QX u5 LX aC hME ?_);refine bc _ _ (aX.list (L:=[(⟨a8,4,none⟩,.map (some a3))]) Y (bx ar cO))<|.l Z Z Z (fun _ _ bd _=>cR (ys:=[num ((i:Nat):Int)]) rfl rfl eB cD nu z3 rfl U eB (fun _ h=>by cases h) aF.own (bW (n:=1) D.get Z) rfl rfl (by show (_ + _) * 8<=_;simp only [ax,List.length_cons,List.length_nil];(try simp only [List.length_append,List.length_cons,List.length_nil]);omega) O2 fun A116 di a0=>?_);rw [show ([num ((i:Nat):Int)]:List Value)=cN [((i:Nat):Int)] from rfl,dt] at a0;obtain ⟨b7,bu⟩:=Fresh.grow aF br wf a0;have bY:=a0.keep ac aC;have bB:=a0.ne ac D.wf aC;have c3:=a0.keep a4 aV;have bC:=a0.ne a4 D.wf aV;have ba:=a0.cell a4 ar;refine bd _ _ (aX.list (L:=[(⟨a8,4,none⟩,.map (some a3))]) Y (bx ba cO))<|.l Z Z Z (fun _ _ bl _=>o4 sk a0.wf rfl rfl rfl QX u5 bY hME hIO.nd fun A131 b6 b5 ad bA=>?_);have aZ:=hIO.step bm D.wf a0 b7 ad (by simp) (WA bB bC) O Z;have c4:=ad.keep _ _ a6.symm c3;have bv:=ao bu wf aB ad.n ad.keep;refine bl _ _ (aX.none Y)<|.done<|bD _ _<|.region<|.q Z (bE (b:=1) Z Z O)<|.q Z (ah Z)<|.nil ?_;exact ⟨⟨i + 1,b6,b5,yF E ((rs.getD i .zero).left.getD ((rs.getD i .zero).left.length - 1) 0) di⟩,mw Z Z Z Z,Z,⟨⟨by omega,bA⟩,bv,ad.get,c4,aZ⟩,O1⟩
 refine al.exit<|dD _ _<|.seq fun _ c7=>.region<|.q Z (ah Z)<|.q Z (ae Z)<|.nil<|c7 _ _<|.rt (by exact aE Z (⟨a8,a3,Z,ay,a7,aa,aR,hIO.map O a9 hME (by simp) a6⟩))

theorem nR (g:Int) (u:Value) (l:List (List UInt8)) (rv:Value) (rs:List bf) (w:List UInt8) (A:AH) (hn:l.length<=9223372036854775807) (hm:rs.length<=9223372036854775807) (hL:gO A) (hu:bI A 1 u (d6 l)) (hr:bI A 3 rv (dc rs)) (hp:Proofs A rs):bz Tryz.prog 21 #[.agg #[num (g),u,rv],bg (w)] A (fun v A1=>∃ dv,v=.tuple #[.agg #[bg (iG g l rs w).word,num (((iG g l rs w).steps:Nat):Int),dv],num ((ia g l rs w:Nat):Int)]/\A.le A1/\A1.wf/\Fresh A A1 dv 3 (cE (iG g l rs w).disk)):=by
 refine mf Tryz.call21 Tryz.func21 Z Tryz.results21 Tryz.ntmps21 Z (fun wf=>?_);have cZ:=AH.le.refl A;refine al.seq fun _ h2=>.region<|.l Z (fun _ _ cV _=>dP wf rfl rfl fun A5 b4 aZ=>?_);have bv:=cZ.trans aZ.le;refine cV _ _<|.l Z (fun _ _ cX _=>cm aZ.wf DT rfl fun A10 b9 ad=>?_);have a2:=aW wf (Nat.le_trans bv.n ad.lo);have bd:=ad.le.get _ _ aZ.get;have a5:=bv.trans ad.le;refine cX _ _<|.q Z (ae Z)<|.nil<|h2 _ _<|.seq fun _ ch=>.block<|.seq fun _ ck=>.region<|.q Z (an fp eO Z Z bd Z)<|.l Z (fun _ _ bD _=>au Z (j7 ((g)) u l rv rs A10 hn hm (hL.le a5) (hu.le a5) (hr.le a5) (hp.le a5)) ?_);rintro dD A20 ⟨rfl,aa,bb⟩;have bl:=aa.get _ _ bd;have bm:=aa.get _ _ ad.get;have ay:=a5.trans aa;refine bD _ _<|.q Z (eo Z)<|.q Z (ae Z)<|.nil<|ck _ _<|.ifB Z (fun d0=>?_) (fun d0=>?_)
 ·refine al.seq fun _ cv=>.region<|.q Z (dx Z (bH Xy DT Ta Z))<|.l Z (fun _ _ bL _=>be (cs:=[bg ([]),num ((0:Nat):Int),.slice none 0 0]) (c':=[bg ([]),num ((0:Nat):Int),.slice none 0 0]) bb rfl rfl rfl rfl ij bm (Nat.le_of_ble_eq_true rfl) rfl rfl fun A29 ai=>?_);have bV:=ao ay wf a2 ai.n ai.keep;refine bL _ _<|.q Z (ae Z)<|.nil<|cv _ _<|.ret ?_;repeat first | with_reducible refine bw ?_ | with_reducible refine bj ?_
  exact aE (fa xp ij Z ai.get Z (fC Z gz)) (⟨_,by (rw [(Gj ‹_›).1,(Gj ‹_›).2];rfl),bV,ai.wf,by (rw [(Gj ‹_›).1];exact Fresh.nil _ _ _)⟩)
 refine al.seq fun _ cA=>.region<|.q Z (aj gj fK U Z)<|.q Z (aj fz cD U Z)<|.q Z (ak df Z Z bl Z)<|.q Z (ah Z)<|.l Z (fun _ _ bM _=>au Z (qg (g) w A20 (hL.le ay)) ?_);rintro dG A37 ⟨rfl,ab,bc⟩;have bp:=ab.get _ _ bl;have aR:=ab.get _ _ bm;have a1:=ay.trans ab;refine bM _ _<|.q Z (fh (b:=0) Z Z)<|.q Z (ae Z)<|.nil<|cA _ _<|.if rfl (fun d1=>?_) (fun d1=>?_)
 ·refine al.seq fun _ cC=>.region<|.q Z (dx Z (bH Xy DT Ta Z))<|.l Z (fun _ _ bO _=>be (cs:=[bg ([]),num ((0:Nat):Int),.slice none 0 0]) (c':=[bg ([]),num ((0:Nat):Int),.slice none 0 0]) bc rfl rfl rfl rfl ij aR (Nat.le_of_ble_eq_true rfl) rfl rfl fun A46 ap=>?_);have bY:=ao a1 wf a2 ap.n ap.keep;refine bO _ _<|.q Z (ae Z)<|.nil<|cC _ _<|.ret ?_;repeat first | with_reducible refine bw ?_ | with_reducible refine bj ?_
  exact aE (fa xp ij Z ap.get Z (fC Z gz)) (⟨_,by (rw [(Gk ‹_› ‹_›).1,(Gk ‹_› ‹_›).2];rfl),bY,ap.wf,by (rw [(Gk ‹_› ‹_›).1];exact Fresh.nil _ _ _)⟩)
 refine al.skip<|ch _ _<|.seq fun _ cF=>.region<|.q Z (an fp eO Z Z bp Z)<|.l Z (fun _ _ bP _=>au Z (qf ((g)) u l rv rs A37 (sX (by simpa using ‹(!bZ g l rs)=false›)) (wU (by simpa using ‹(!bZ g l rs)=false›)) (hu.le a1) (hr.le a1) (hp.le a1)) ?_);rintro dI A54 ⟨D,b8,rfl,aB,aD,a8,X,ar⟩;have cH:=aB.get _ _ aR;have c3:=a1.trans aB;have hrow:=a8;have hno:=X;have hix:=ar;have ba:b4 ≠ D:=fun z=>by have q0:=bp;rw [z,X] at q0;cases q0
 have ag:b9 ≠ D:=fun z=>by have q0:=aR;rw [z,X] at q0;cases q0
 have aF:=sy a1 X;refine bP _ _<|.q Z (ah Z) ?_;have a6:=cd (bs:=[some D]) c3 (uD aF px);have aT:=cd (bs:=[some D]) (cz A54 [some D]) (uD (cn (by simp)) px);refine Ops.l Z (fun _ _ bR _=>au Z (vf w rs l D (((g))) u rv b8 (.slice none 0 0) (.slice none 0 0) (num ((0:Nat):Int)) (bg ([])) (num ((0:Nat):Int)) (.slice none 0 0) (A54.hide [some D]) A54 (cz A54 [some D]) (cg aD) a8 (cn (by simp)) (by simpa using ‹(!bZ g l rs)=false›) (hL.le a6) (hr.le a6) (hp.le a6) (ar.le aT)) ?_);rintro dJ A61 ⟨dd,di,dj,dk,dl,dm,dw,rfl,ac,a4,a9,a7,b0⟩;have aS:=bN (bs:=[some D]) cH (rd ag m7);have br:=ac.get _ _ aS;have aG:=a7.base a6;have c7:=a7.seph aS;have bU:=aT.trans ac;have aV:=a6.trans ac;refine bR _ _<|.q Z (ah Z)<|.q Z (aQ Z Z)<|.q Z (aQ Z Z)<|.l Z (fun _ _ bS _=>cm a4 DT rfl fun A76 dz h=>?_);have av:=ne_new a4 br h.lo;have b1:=ne_new a4 a9 h.lo;have cc:=aG.own.ne_new a4 h.lo;have aP:=aW wf (Nat.le_trans aV.n h.lo);have cf:=aW (cg aD) (Nat.le_trans bU.n h.lo);have cK:=h.le.get _ _ br;have aI:=aG.le h.le;have c4:=aV.trans h.le;refine bS _ _ ?_;obtain ⟨aC,aA,az,d3,_⟩:=aI.own.slice;subst d3;refine Ops.l Z (fun _ _ bT _=>be (cs:=[bg ((fw (eJ rs w)).word),num (((fw (eJ rs w)).steps:Nat):Int),.slice aC aA az]) (c':=[bg ((fw (eJ rs w)).word),num (((fw (eJ rs w)).steps:Nat):Int),.slice aC aA az]) h.wf rfl rfl rfl rfl ij h.get (Nat.le_of_ble_eq_true rfl) rfl rfl fun A87 V=>?_);have bu:=V.keep _ _ av cK;have bA:=aI.keep V.keep cc;have aY:=ao c4 wf aP V.n V.keep;refine bT _ _<|.q Z (ae Z)<|.nil<|cF _ _<|.seq fun _ cP=>.seq fun _ cS=>.region<|.q Z (ah Z)<|.q Z (eo Z)<|.nil ?_;refine cS _ _<|.ifB Z (fun d2=>?_) (fun d2=>?_)
 ·refine al.seq fun _ bB=>.region<|.q Z (dx Z (bH Xy DT Ta Z))<|.l Z (fun _ _ b3 _=>be (cs:=[bg ([]),num ((0:Nat):Int),.slice none 0 0]) (c':=[bg ([]),num ((0:Nat):Int),.slice none 0 0]) V.wf rfl rfl rfl rfl ij bu (Nat.le_of_ble_eq_true rfl) rfl rfl fun A103 a3=>?_);have b6:=ao aY wf a2 a3.n a3.keep;refine b3 _ _<|.q Z (ae Z)<|.nil<|bB _ _<|.ret ?_;repeat first | with_reducible refine bw ?_ | with_reducible refine bj ?_
  exact aE (fa xp ij Z a3.get Z (fC Z gz)) (⟨_,by (rw [(Gr ‹_› ‹_› ‹_›).1,(Gr ‹_› ‹_› ‹_›).2];rfl),b6,a3.wf,by (rw [(Gr ‹_› ‹_› ‹_›).1];exact Fresh.nil _ _ _)⟩)
 refine al.skip<|cP _ _<|.seq fun _ bC=>.region<|.q Z (an xp ij Z Z V.get Z)<|.l Z (fun _ _ b5 _=>be (cs:=[bg ((fw (eJ rs w)).word),num (((fw (eJ rs w)).steps:Nat):Int),.slice aC aA az]) (c':=[bg ((fw (eJ rs w)).word),num (((fw (eJ rs w)).steps:Nat):Int),.slice aC aA az]) V.wf rfl rfl rfl rfl ij bu (Nat.le_of_ble_eq_true rfl) rfl rfl fun A113 a0=>?_);have b2:=bA.keep a0.keep c7;have b7:=ao aY wf a2 a0.n a0.keep;refine b5 _ _<|.q Z (ae Z)<|.nil<|bC _ _<|.ret ?_;repeat first | with_reducible refine bw ?_ | with_reducible refine bj ?_
 exact aE (fa xp ij Z a0.get Z (fC Z gz)) (⟨_,by (rw [(Gt ‹_› ‹_› ‹_›).1,(Gt ‹_› ‹_› ‹_›).2];rfl),b7,a0.wf,by (rw [(Gt ‹_› ‹_› ‹_›).1];exact b2)⟩)
end Go.Proofs.YtjppkekmddjcfaaGreatDoor

namespace Go.Proofs.YtjppkekmddjcfaaGreatDoor
open Go Go.RowKit
namespace V
section
variable {P:Program} {F:Fence} {nt n:Nat} {A:AH}
theorem Rm (hF:xk F) {l:Nat} {args:Array Value} {R:Value->AH->Prop} (hc:ls P l args A R) {w:World} (hw:co A w) :
    YieldAt F 0 P l args w fun e w'=>∃ A' v,e=.returned v/\co A' w'/\eH A w A' w'/\R v A':=by
  rcases hF with rfl | ⟨l,rfl⟩
  · exact hc w hw
  · exact hc w hw
theorem Rn (hF:xk F) {fo:Operand} {aa:Array Operand} {tt:Array TypeId} {dst:Option Nat} {ty:TypeId} {ps:String} {af:Array Edge} {g:Option (Nat × Bool)} {l:Nat} {vs:List Value} {R:Value->AH->Prop} {a:Act} {w:World}
    (hf:a.eval fo=.func (.yield l) #[] #[]) (ha:aa.map a.eval=vs.toArray) (hc:ls P l vs.toArray A R) (hw:co A w) {next:Act->World->Prop} {Q:Exit->Act->World->Prop}
    (h:∀ v A' w',co A' w'->eH A w A' w'->R v A'->next (a.put dst v) w') :
    ({ dst:=dst,op:=.call { callee:=.value fo,args:=aa,argTypes:=tt },type:=ty,pos:=ps,after:=af,guard:=g }:Oper).wpIn F 0 P a w next Q:=by
  obtain ⟨fn,tmps,assign,body,hy,hr⟩:=Rm hF hc hw
  have hx:(execOp a.eval { dst:=dst,op:=.call { callee:=.value fo,args:=aa,argTypes:=tt },type:=ty,pos:=ps,after:=af,guard:=g }).run P w=.ok (.round l fn tmps assign body) w:=by
    simp [execOp,resolve,hf,ha,Deferred.ofValue,invoke,hy]
  refine ⟨fun f _=>rI hF f,?_⟩
  rw [Oper.semAt_eq _ _ _ (fun c q=>by cases q),hx]
  refine ⟨sC hF,RoundIn.mono hr ?_⟩
  rintro en w' ⟨A',v,rfl,hv,hst,hR⟩
  exact h v A' w' hv hst hR

theorem n8 {t el:TypeId} {len m:Nat} {z:Value} {l:List (Nat × Value)} {c:List Value} (hu:P.underlying t=some (.array len el)) (hz:cx P t=some z) (hs:da P el=some m)
    (hf:o8 (fun i=>some (i * m,m)) z.cells.toList l=some c):lD P t l=some (.agg c.toArray):=by simp [lD,hu,hz,hs,hf]
theorem i0 {e:gI} {x y:Operand} {t el:TypeId} {b off n len i:Nat} {k:IntKind} (hu:P.underlying t=some (.array len el)) (hs:da P el=some n) (h:bQ e x=some (.pointer (some ⟨b,off,none⟩))) (h':bQ e y=some (.int k (i:Nat))) (hi:i < len) :
    aN P e A (.indexAddr t x y)=some (.pointer (some ⟨b,off + i * n,none⟩),[]):=by rw [KE hu hs h h' hi,nZ _ _ Z]
theorem GK:∀ a:Fin 16,RM .xor .i64 ((a.1:Nat):Int) ((1:Nat):Int)=some (num ((a.1 ^^^ 1:Nat):Int)):=fun a=>by
  have key:∀ a:Fin 16,IntKind.i64.wrap ((BitVec.ofInt 64 ((a.1:Nat):Int) ^^^ BitVec.ofInt 64 ((1:Nat):Int)).toNat:Int)=((a.1 ^^^ 1:Nat):Int):=by decide
  show some (Value.int .i64 (IntKind.i64.wrap ((BitVec.ofInt 64 ((a.1:Nat):Int) ^^^ BitVec.ofInt 64 ((1:Nat):Int)).toNat:Int)))=_
  rw [key]
theorem WV {e:gI} {x y:Operand} {t t':TypeId} {a:Nat} (h:bQ e x=some (num (a:Nat))) (h':bQ e y=some (num (1:Nat))) (ha:a < 16):aN P e A (.binOp .xor t x y t')=some (num ((a ^^^ 1:Nat):Int),[]) :=
  xw U U h h' (GK ⟨a,ha⟩)
def jL (P:Program) (nt:Nat) (F:Fence) (all:Array Oper) (os:List Oper) (Q:Exit->Fr->AH->Prop) (f:Fr) (A:AH):Prop :=
  ∀ a w,cU nt f a->co A w->∀ (A₀:AH) (w₀:World),eH A₀ w₀ A w->wpListIn F 0 P all (lr nt Q A₀ w₀) os a w
section
variable {all:Array Oper} {Q:Exit->Fr->AH->Prop} {f:Fr} {e:gI} {ds:List Deferred} {d t:Nat} {op:Op} {ty:TypeId} {ps:String} {af:Array Edge} {os:List Oper} {v:Value} {T:fH}
theorem jL.nil (h:Q .normal f A):jL P nt F all [] Q f A:=fun _ _ ha hw _ _ hs=>⟨f,A,ha,hw,hs,h,fun _ q=>by cases q⟩
theorem jL.q (hF:xk F) (hn:i9 { dst:=some d,op:=op,type:=ty,pos:=ps,after:=af,guard:=none }=true) (hd:Nat.blt d nt=true) (hv:aN P e A op=some (v,T)) (h:jL P nt F all os Q ⟨(d,v) :: e,ds⟩ A) :
    jL P nt F all ({ dst:=some d,op:=op,type:=ty,pos:=ps,after:=af,guard:=none } :: os) Q ⟨e,ds⟩ A:=by
  intro a w ha hw A₀ w₀ hs
  have:=ga (o:={ dst:=some d,op:=op,type:=ty,pos:=ps,after:=af,guard:=none }) hv ha hw
  unfold wpListIn
  rw [if_pos (by simp [Region.wanted])]
  refine ⟨fun f _=>rI hF f,?_⟩
  rw [Oper.semAt_eq _ _ _ (fun c hc=>by simp only at hc;subst hc;cases hn),this.2 w this.1]
  exact h _ w (ha.put (some d) v (cW hd)) hw A₀ w₀ hs
theorem jL.y (hF:xk F) {fo:Operand} {l:Nat} {vs:List Value} {R:Value->AH->Prop} {aa:Array Operand} {tt:Array TypeId} (hd:Nat.blt d nt=true) (hf:bQ e fo=some (.func (.yield l) #[] #[])) (ha:ju (bQ e) aa.toList=some vs)
    (hc:ls P l vs.toArray A R) (h:∀ v A',R v A'->jL P nt F all os Q ⟨(d,v) :: e,ds⟩ A') :
    jL P nt F all ({ dst:=some d,op:=.call { callee:=.value fo,args:=aa,argTypes:=tt },type:=ty,pos:=ps,after:=af,guard:=none } :: os) Q ⟨e,ds⟩ A:=by
  intro a w hact hw A₀ w₀ hs
  unfold wpListIn
  rw [if_pos (by simp [Region.wanted])]
  have hev:∀ x v,bQ e x=some v->a.eval x=v:=fun x v g=>cI hact g
  have hargs:aa.map a.eval=vs.toArray:=by apply Array.ext';simp [pC hev _ _ ha]
  exact Rn hF (hev _ _ hf) hargs hc hw fun v A' w' hv hst hR=>h v A' hR _ w' (hact.put (some d) v (cW hd)) hv A₀ w₀ (hs.trans hst)
theorem eh.regionJ {id:Nat} {l:List Oper} (h:jL P nt F l.toArray l Q f A):eh P nt F (.region id l.toArray false) Q f A :=
  fun a w ha hw=>wpIn_region_lit (h a w ha hw A w (.refl _ _))
theorem al.regionJ {id:Nat} {l:List Oper} (h:jL P nt Fence.wide l.toArray l Q f A):al P nt (.region id l.toArray false) Q f A:=eh.run (eh.regionJ h)
end

theorem Vp (hF:xk F) {o:Oper} {a:Act} {w:World} {K:Act->World->Prop} {Q Q':Exit->Act->World->Prop} (hd:i9 o=true) (hp:∀ ch a w,Q (.panic ch) a w->Q' (.panic ch) a w) (hl:¬ LetsOut Q) (h:o.wp P a w K Q):o.wpIn F n P a w K Q':=by
  have hs:o.semAt F.round a.eval=execOp a.eval o:=Oper.semAt_eq _ _ _ (fun c hc=>by simp [i9,hc] at hd)
  refine ⟨fun f _=>rI hF f,?_⟩
  rw [hs]
  unfold Oper.wp at h
  generalize (execOp a.eval o).run P w=r at h ⊢
  cases r with
  | ok x w' =>
    cases x <;> simp only [Oper.upon] at h <;> simp only [Oper.uponIn] <;>
      first
      | exact h
      | exact h.elim
      | exact ⟨sC hF,AJ hF (h.mono fun e w'' he=>by
          cases e with
          | returned v=>exact he
          | panicked ch=>exact hp _ _ _ he
          | outgrown=>exact absurd he hl)⟩
      | exact ⟨sC hF,I3 hF h⟩
  | halt x w'=>cases x <;> simp only [Oper.upon] at h <;> simp only [Oper.uponIn] <;> exact hp _ _ _ h
theorem yk {ops:Array Oper} {y:Nat} {o o':Oper} (hy:ops[y]? = some o) (he:o'.after=o.after) (listed:Array Bool):Region.ready .any (ops.setIfInBounds y o') listed=Region.ready .any ops listed:=by
  unfold Region.ready
  rw [Array.size_setIfInBounds]
  apply List.filter_congr
  intro i hi
  congr 1
  by_cases q:y=i
  · subst q
    have hlt:=(Array.getElem?_eq_some_iff.1 hy).1
    have e1:ops[y]=o:=(Array.getElem?_eq_some_iff.1 hy).2
    simp [hlt,he,e1]
  · rw [Array.getElem?_setIfInBounds_ne q]
def sY (ops:Array Oper) (y z:Nat):Bool :=
  Nat.blt y ops.size && Nat.blt z ops.size && !(y == z) && (List.range ops.size).all (fun j=>j == y || j == z || lu ops j ops.size y) && lu ops y ops.size z &&
  (List.range ops.size).all (fun j=>match ops[j]? with | none=>false | some o=>o.after.all fun e=>Nat.blt e.on j) && ops.toList.all (fun o=>i9 o && (match o.guard with | none=>true | _=>false))
theorem DC {o:Oper} (h:(match o.guard with | none=>true | _=>false)=true) (l:Nat->Value):o.guard=none:=by
  cases q:o.guard with
  | none=>rfl
  | some x=>rw [q] at h;cases h
theorem So {l:Array Bool} {i:Nat} (h:l.getD i true=false):i < l.size:=by
  rcases Nat.lt_or_ge i l.size with q | q
  · exact q
  · simp [q] at h
theorem O9 {a:Act} {d:Nat} {v:Value} (h:d < a.tmps.size):(a.put (some d) v).eval (.tmp d)=v:=by simp [Act.eval,Act.put,h]
theorem Wj (hF:xk F) {ops:Array Oper} {y z d dz:Nat} {fo:Operand} {aa:Array Operand} {tt:Array TypeId} {ty tz tz':TypeId} {ps psz:String} {af afz:Array Edge} {l:Nat} {Qp Q:Exit->Act->World->Prop} {oy oz oy' oz':Oper}
    (ey:oy={ dst:=some d,op:=.call { callee:=.value fo,args:=aa,argTypes:=tt },type:=ty,pos:=ps,after:=af,guard:=none })
    (ez:oz={ dst:=some dz,op:=.unOp .not tz (.tmp d),type:=tz',pos:=psz,after:=afz,guard:=none })
    (ey':oy'={ oy with op:=.move (.const (.bool true)) }) (ez':oz'={ oz with op:=.move (.const (.bool false)) })
    (hy:ops[y]? = some oy) (hz:ops[z]? = some oz) (hw:sY ops y z=true) (hl:¬ LetsOut Qp) (hp:∀ ch a w,¬ Qp (.panic ch) a w)
    (hQ:∀ (a:Act) w,Qp .normal ((a.put (some d) (.bool true)).put (some dz) (.bool false)) w->d < a.tmps.size/\∃ (A:AH) (vs:List Value) (R:Value->AH->Prop),co A w/\a.eval fo=.func (.yield l) #[] #[]/\aa.map a.eval=vs.toArray/\ls P l vs.toArray A R /\
      (∀ v A' w',R v A'->co A' w'->eH A w A' w'->v=.bool true/\Q .normal ((a.put (some d) (.bool true)).put (some dz) (.bool false)) w')) :
    ∀ (fuel:Nat) (listed:Array Bool) (a:Act) (w:World),kQ ops listed->listed.size=ops.size->listed.getD y true=false ->
      wpAny P .any ((ops.setIfInBounds y oy').setIfInBounds z oz') Qp fuel listed a w->wpAnyIn F 0 P .any ops Q fuel listed a w:=by
  simp only [sY,Bool.and_eq_true,Bool.not_eq_true',List.all_eq_true,List.mem_range,Bool.or_eq_true,beq_iff_eq,beq_eq_false_iff_ne,ne_eq] at hw
  obtain ⟨⟨⟨⟨⟨⟨w1,w2⟩,w3⟩,w4⟩,w5⟩,w6⟩,w7⟩:=hw
  have w1:y < ops.size:=Nat.le_of_ble_eq_true w1
  have w2:z < ops.size:=Nat.le_of_ble_eq_true w2
  have ay:oy'.after=oy.after:=by rw [ey']
  have az:oz'.after=oz.after:=by rw [ez']
  generalize hops:(ops.setIfInBounds y oy').setIfInBounds z oz'=ops'
  have hr:∀ listed,Region.ready .any ops' listed=Region.ready .any ops listed:=fun listed=>by
    have e1:=yk (ops:=ops.setIfInBounds y oy') (y:=z) (o:=oz) (o':=oz') (by rw [Array.getElem?_setIfInBounds_ne w3];exact hz) az listed
    rw [<- hops,e1,yk hy ay]
  have hy':ops'[y]? = some oy':=by
    rw [<- hops,Array.getElem?_setIfInBounds_ne (fun q=>w3 q.symm)];simp [w1]
  have hz':ops'[z]? = some oz':=by
    rw [<- hops];simp [w2]
  have ho:∀ i,i ≠ y->i ≠ z->ops'[i]? = ops[i]?:=fun i h1 h2=>by
    rw [<- hops,Array.getElem?_setIfInBounds_ne (fun q=>h2 q.symm),Array.getElem?_setIfInBounds_ne (fun q=>h1 q.symm)]
  have a1:∀ i o,ops[i]? = some o->i9 o=true/\o.guard=none:=fun i o hi=>by
    have hlt:=(Array.getElem?_eq_some_iff.1 hi).1
    have he:=(Array.getElem?_eq_some_iff.1 hi).2
    have:=w7 o (by rw [<- he];exact Array.getElem_mem_toList hlt)
    exact ⟨this.1,DC this.2 (fun _=>undef)⟩
  have back:∀ (i:Nat) (o:Oper),ops[i]? = some o->∀ e ∈ o.after,e.on < i:=fun i o hi e he=>by
    have hlt:=(Array.getElem?_eq_some_iff.1 hi).1
    have:=w6 i hlt
    rw [hi] at this
    exact Nat.le_of_ble_eq_true (Array.all_eq_true'.1 this e he)
  have some_ready:∀ (listed:Array Bool),listed.size=ops.size->∀ m,listed.getD m true=false->Region.ready .any ops listed ≠ []:=fun listed hsz=>by
    intro m
    induction m using Nat.strongRecOn with
    | _ m ih =>
      intro hm h0
      have hlt:m < ops.size:=by rw [<- hsz];exact So hm
      have hom:ops[m]? = some ops[m]:=by simp [hlt]
      by_cases q:∀ e ∈ ops[m].after,Region.binds .any e=true->listed.getD e.on false=true
      · have:m ∈ Region.ready .any ops listed:=mem_ready.2 ⟨hm,_,hom,q⟩
        rw [h0] at this;cases this
      · obtain ⟨e,he,hbe,hle⟩:∃ e,e ∈ ops[m].after/\Region.binds .any e=true/\¬ listed.getD e.on false=true:=Classical.byContradiction fun n=>q fun e he hb=>Classical.byContradiction fun z=>n ⟨e,he,hb,z⟩
        have V:=back m _ hom e he
        refine ih e.on V ?_ h0
        have:listed.getD e.on false=false:=by simpa using hle
        have h3:e.on < listed.size:=by omega
        simpa [h3] using this
  intro fuel
  induction fuel with
  | zero =>
    intro listed a w hcl hsz hun h
    have h0:=h.1
    rw [hr] at h0
    exact absurd h0 (some_ready listed hsz y hun)
  | succ fuel ih =>
    intro listed a w hcl hsz hun h
    refine ⟨fun h0=>absurd h0 (some_ready listed hsz y hun),fun i hi=>?_⟩
    obtain ⟨hiun,oi,hoi,hall⟩:=mem_ready.1 hi
    have h1:=h.2 i (by rw [hr];exact hi)
    unfold wpOp at h1
    unfold wpOpIn
    by_cases hiy:i=y
    · subst hiy
      rw [hy] at hoi;cases hoi
      have others:∀ j,j < ops.size->j ≠ i->j ≠ z->listed.getD j false=true:=fun j hj h1 h2=>by
        rcases w4 j hj with (q | q) | q
        · exact absurd q h1
        · exact absurd q h2
        · exact jT hcl _ _ _ hy hall q
      have hznl:listed.getD z true=false:=by
        cases q:listed.getD z true with
        | false=>rfl
        | true =>
          have a0:listed.getD z false=true:=by rw [<- q];simp [hsz,w2]
          have:=jT hcl _ _ _ hz (hcl z _ hz a0) w5
          rw [iu hun] at this;cases this
      have a2:(listed.setIfInBounds i true).size=ops.size:=by simpa using hsz
      have X:(listed.setIfInBounds i true).getD z true=false:=by rw [getD_set_ne true w3];exact hznl
      have D:∀ j,j < ops.size->j ≠ z->(listed.setIfInBounds i true).getD j false=true:=fun j hj h2=>by
        by_cases q:j=i
        · subst q;simp [hsz,w1]
        · exact getD_set_true (others j hj q h2)
      have zready:z ∈ Region.ready .any ops (listed.setIfInBounds i true):=mem_ready.2 ⟨X,_,hz,fun e he _=>D _ (Nat.lt_trans (back z _ hz e he) w2) (by have:=back z _ hz e he;omega)⟩
      have only:∀ j,j ∈ Region.ready .any ops (listed.setIfInBounds i true)->j=z:=fun j hj=>by
        obtain ⟨q1,oj,q2,_⟩:=mem_ready.1 hj
        refine Classical.byContradiction fun q=>?_
        have:=D j (Array.getElem?_eq_some_iff.1 q2).1 q
        rw [iu q1] at this;cases this
      have done:Region.ready .any ops ((listed.setIfInBounds i true).setIfInBounds z true)=[]:=by
        refine List.eq_nil_iff_forall_not_mem.2 fun j hj=>?_
        obtain ⟨q1,oj,q2,_⟩:=mem_ready.1 hj
        have hlt:=(Array.getElem?_eq_some_iff.1 q2).1
        have:((listed.setIfInBounds i true).setIfInBounds z true).getD j false=true:=by
          by_cases q:j=z
          · subst q;simp [hsz,w2]
          · exact getD_set_true (D j hlt q)
        rw [iu q1] at this;cases this
      have wy':∀ l,Region.wanted oy' l=true:=fun l=>by rw [ey',ey];rfl
      have wz':∀ l,Region.wanted oz' l=true:=fun l=>by rw [ez',ez];rfl
      have wy:∀ l,Region.wanted oy l=true:=fun l=>by rw [ey];rfl
      have wz:∀ l,Region.wanted oz l=true:=fun l=>by rw [ez];rfl
      simp only [hy',wy',if_true] at h1
      have h2:wpAny P .any ops' Qp fuel (listed.setIfInBounds i true) (a.put (some d) (.bool true)) w:=by
        rcases h1 with h1 | ⟨_,h1⟩
        · rw [ey',ey] at h1;exact h1
        · exact absurd h1 hl
      cases fuel with
      | zero=>exfalso;have:=h2.1;rw [hr] at this;rw [this] at zready;cases zready
      | succ f =>
        have h3:=h2.2 z (by rw [hr];exact zready)
        unfold wpOp at h3
        simp only [hz',wz',if_true] at h3
        have h4:wpAny P .any ops' Qp f ((listed.setIfInBounds i true).setIfInBounds z true) ((a.put (some d) (.bool true)).put (some dz) (.bool false)) w:=by
          rcases h3 with h3 | ⟨_,h3⟩
          · rw [ez',ez] at h3;exact h3
          · exact absurd h3 hl
        have h5:Qp .normal ((a.put (some d) (.bool true)).put (some dz) (.bool false)) w:=by
          cases f with
          | zero=>exact h4.2
          | succ f=>exact h4.1 (by rw [hr];exact done)
        obtain ⟨hd,A,vs,R,hv,hfo,haa,hya,hK⟩:=hQ a w h5
        simp only [hy,wy,if_true]
        rw [ey]
        refine Rn hF hfo haa hya hv fun v A' w' hv' hst hR=>?_
        obtain ⟨rfl,hq⟩:=hK v A' w' hR hv' hst
        refine ⟨fun q=>(by rw [q] at zready;cases zready),fun j hj=>?_⟩
        have:=only j hj
        subst this
        unfold wpOpIn
        simp only [hz,wz,if_true]
        rw [ez]
        have hx:(execOp (a.put (some d) (.bool true)).eval { dst:=some dz,op:=.unOp .not tz (.tmp d),type:=tz',pos:=psz,after:=afz,guard:=none }).run P w'=.ok (.value (.bool false)) w':=by
          have:=O9 (v:=.bool true) hd
          simp [execOp,this,Op.unary]
        refine ⟨fun f _=>rI hF f,?_⟩
        rw [Oper.semAt_eq _ _ _ (fun c q=>by cases q),hx]
        show wpAnyIn F 0 P .any ops Q f _ _ w'
        cases f with
        | zero=>exact ⟨done,hq⟩
        | succ f=>exact ⟨fun _=>hq,fun k hk=>by rw [done] at hk;cases hk⟩
    · have hiz:i ≠ z:=by
        rintro rfl
        have:=jT hcl _ _ _ hz (by rw [hz] at hoi;cases hoi;exact hall) w5
        rw [iu hun] at this;cases this
      obtain ⟨g1,g2⟩:=a1 i oi hoi
      have hwt:∀ l,Region.wanted oi l=true:=fun l=>by simp [Region.wanted,g2]
      rw [ho i hiy hiz] at h1
      simp only [hoi,hwt,if_true] at h1 ⊢
      have h2:oi.wp P a w (wpAny P .any ops' Qp fuel (listed.setIfInBounds i true)) Qp:=by
        rcases h1 with h1 | ⟨_,h1⟩
        · exact h1
        · exact absurd h1 hl
      refine Vp hF g1 (fun ch a w q=>absurd q (hp ch a w)) hl (Oper.wp_mono (fun a' w' h3=>?_) h2)
      exact ih _ _ _ (gU hcl hi) (by simpa using hsz) (by rw [getD_set_ne true hiy];exact hun) h3

def Kn (d dz:Nat):Operand->Bool
  | .tmp t=>!(t == d) && !(t == dz)
  | _=>true
theorem yf {d dz:Nat} {x:Operand} (h:Kn d dz x=true):x ≠ .tmp d/\x ≠ .tmp dz:=by
  constructor <;> (rintro rfl;simp [Kn] at h)
theorem eh.drawnYield {Q:Exit->Fr->AH->Prop} {e:gI} {ds:List Deferred} {id:Nat} {ops:Array Oper} (C:List Nat) (y z:Nat) {d dz:Nat} {fo:Operand} {aa:Array Operand} {tt:Array TypeId} {ty tz tz':TypeId} {ps psz:String} {af afz:Array Edge} {l:Nat} {oy oz:Oper} {vs:List Value} {R:Value->AH->Prop}
    (hF:xk F) (hy:ops[y]? = some oy) (hz:ops[z]? = some oz)
    (ey:oy={ dst:=some d,op:=.call { callee:=.value fo,args:=aa,argTypes:=tt },type:=ty,pos:=ps,after:=af,guard:=none })
    (ez:oz={ dst:=some dz,op:=.unOp .not tz (.tmp d),type:=tz',pos:=psz,after:=afz,guard:=none })
    (hw:sY ops y z=true) (hfd:(Kn d dz fo && aa.toList.all (Kn d dz))=true) (hdn:Nat.blt d nt=true) (hm:P.follows .mixedOrders=true)
    (hc:mq ((ops.setIfInBounds y { oy with op:=.move (.const (.bool true)) }).setIfInBounds z { oz with op:=.move (.const (.bool false)) }) (Array.replicate ops.size false) C=true) (hn:Region.noSelect ((ops.setIfInBounds y { oy with op:=.move (.const (.bool true)) }).setIfInBounds z { oz with op:=.move (.const (.bool false)) })=true) (hl:C.length=ops.size)
    (hya:ls P l vs.toArray A R)
    (h:bk P nt ((ops.setIfInBounds y { oy with op:=.move (.const (.bool true)) }).setIfInBounds z { oz with op:=.move (.const (.bool false)) })
      (fun x f A'=>x=.normal/\A'=A/\bQ f.e fo=some (.func (.yield l) #[] #[])/\ju (bQ f.e) aa.toList=some vs/\∀ v A2,R v A2->v=.bool true/\Q .normal f A2) (Array.replicate ops.size false) [] C ⟨e,ds⟩ A):eh P nt F (.region id ops true) Q ⟨e,ds⟩ A:=by
  intro a w ha a0
  simp only [Bool.and_eq_true,List.all_eq_true] at hfd
  obtain ⟨D,V⟩:=hfd
  have D:=yf D
  obtain ⟨v1,s1⟩:=jf a0
  have hsz:((ops.setIfInBounds y { oy with op:=.move (.const (.bool true)) }).setIfInBounds z { oz with op:=.move (.const (.bool false)) }).size=ops.size:=by simp
  have emp:∀ (os:Array Oper),os.size=ops.size->kQ os (Array.replicate ops.size false):=fun os hos j o _ hj=>by
    exfalso
    rcases Nat.lt_or_ge j ops.size with q | q
    · simp [q] at hj
    · simp [q] at hj
  have key:=h hc hn a _ ha v1 (fun p hp=>by cases hp) (emp _ hsz) A w s1
  rw [hl] at key
  have key:=j9 _ _ _ _ key
  refine wpIn_mono (wpIn_region_any hm (Wj (l:=l) (Q:=dR nt Q A w) hF ey ez rfl rfl hy hz hw ?_ ?_ ?_ _ _ _ _ (emp _ rfl) (by simp) ?_ key)) (fun _ _ _=>dR.q)
  · rintro ⟨a,w,f',A',_,_,_,q,_⟩;exact absurd q.1 (by simp)
  · rintro ch a w ⟨f',A',_,_,_,q,_⟩;exact absurd q.1 (by simp)
  · rintro a2 w2 ⟨f',A',g1,g2,g3,⟨_,rfl,g5,g6,g7⟩,_⟩
    have a1:a2.tmps.size=nt:=by have:=g1.size;simpa [Act.put] using this
    have hd:=Nat.le_of_ble_eq_true hdn
    have hev:∀ x v,x ≠ .tmp d->x ≠ .tmp dz->bQ f'.e x=some v->a2.eval x=v:=fun x v n1 n2 g=>by
      have h5:=cI g1 g
      cases x with
      | tmp t =>
        have t1:t ≠ d:=fun q=>n1 (by rw [q])
        have t2:t ≠ dz:=fun q=>n2 (by rw [q])
        rw [<- h5]
        simp only [Act.eval,Act.put,Array.getD_eq_getD_getElem?]
        rw [Array.getElem?_setIfInBounds_ne (Ne.symm t2),Array.getElem?_setIfInBounds_ne (Ne.symm t1)]
      | _=>exact h5
    refine ⟨by omega,A',vs,R,g2,hev _ _ D.1 D.2 g5,?_,hya,?_⟩
    · apply Array.ext'
      simp only [Array.toList_map]
      have key:∀ (l:List Operand) (us:List Value),(∀ x ∈ l,x ≠ .tmp d/\x ≠ .tmp dz)->ju (bQ f'.e) l=some us->l.map a2.eval=us:=by
        intro l
        induction l with
        | nil=>intro us _ h;simp [ju] at h;simp [h]
        | cons x l ih =>
          intro us hx h
          simp only [ju] at h
          split at h
          · rename_i v us' h1 h2
            cases h
            have:=hx x List.mem_cons_self
            simp [hev _ _ this.1 this.2 h1,ih _ (fun y hy=>hx y (List.mem_cons_of_mem _ hy)) h2]
          · cases h
      exact key _ _ (fun x hx=>yf (V x hx)) g6
    · intro v A2 w' hR X hst
      obtain ⟨r1,r2⟩:=g7 v A2 hR
      exact ⟨r1,f',A2,g1,X,g3.trans hst,r2,fun _ q=>by cases q⟩
  · have:y < ops.size:=(Array.getElem?_eq_some_iff.1 hy).1
    simp [this]
theorem al.drawnYield {Q:Exit->Fr->AH->Prop} {e:gI} {ds:List Deferred} {id:Nat} {ops:Array Oper} (C:List Nat) (y z:Nat) {d dz:Nat} {fo:Operand} {aa:Array Operand} {tt:Array TypeId} {ty tz tz':TypeId} {ps psz:String} {af afz:Array Edge} {l:Nat} {oy oz:Oper} {vs:List Value} {R:Value->AH->Prop}
    (hy:ops[y]? = some oy) (hz:ops[z]? = some oz)
    (ey:oy={ dst:=some d,op:=.call { callee:=.value fo,args:=aa,argTypes:=tt },type:=ty,pos:=ps,after:=af,guard:=none })
    (ez:oz={ dst:=some dz,op:=.unOp .not tz (.tmp d),type:=tz',pos:=psz,after:=afz,guard:=none })
    (hw:sY ops y z=true) (hfd:(Kn d dz fo && aa.toList.all (Kn d dz))=true) (hdn:Nat.blt d nt=true) (hm:P.follows .mixedOrders=true)
    (hc:mq ((ops.setIfInBounds y { oy with op:=.move (.const (.bool true)) }).setIfInBounds z { oz with op:=.move (.const (.bool false)) }) (Array.replicate ops.size false) C=true) (hn:Region.noSelect ((ops.setIfInBounds y { oy with op:=.move (.const (.bool true)) }).setIfInBounds z { oz with op:=.move (.const (.bool false)) })=true) (hl:C.length=ops.size)
    (hya:ls P l vs.toArray A R)
    (h:bk P nt ((ops.setIfInBounds y { oy with op:=.move (.const (.bool true)) }).setIfInBounds z { oz with op:=.move (.const (.bool false)) })
      (fun x f A'=>x=.normal/\A'=A/\bQ f.e fo=some (.func (.yield l) #[] #[])/\ju (bQ f.e) aa.toList=some vs/\∀ v A2,R v A2->v=.bool true/\Q .normal f A2) (Array.replicate ops.size false) [] C ⟨e,ds⟩ A):al P nt (.region id ops true) Q ⟨e,ds⟩ A :=
  eh.run (eh.drawnYield C y z ku hy hz ey ez hw hfd hdn hm hc hn hl hya h)
end
end V
end Go.Proofs.YtjppkekmddjcfaaGreatDoor
