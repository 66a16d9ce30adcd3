import Derived.Test.YtjppkekmddjcfaaGreatDoorNC5
set_option linter.unusedSectionVars false
set_option linter.unusedVariables false
set_option linter.unusedSimpArgs false
open Go.Proofs.Tryz
namespace Go.Proofs.YtjppkekmddjcfaaGreatDoor
open Go Go.RowKit V
set_option maxRecDepth 100000
theorem ag202:ef prog 202=some false:=by kernel_rfl
theorem rd:ef prog 47=some true:=by kernel_rfl
theorem Ym:ef prog 78=some false:=by kernel_rfl
theorem fl47_0:eO prog 47 0=some (3,0):=by kernel_rfl
theorem fl47_1:eO prog 47 1=some (3,1):=by kernel_rfl
theorem LN:prog.info? 47=some Tryz.t47:=by kernel_rfl
theorem gy:dY prog 47=some 5:=by kernel_rfl
theorem sz78:dY prog 78=some 1:=by kernel_rfl
theorem Ew:type_of% @underlying78:=@underlying78
theorem z78:c5 prog 78=some (.slice none 0 0):=by kernel_rfl
theorem WV (bo lp:Nat) (J:Nat->AH->Prop) (g:Int) (u:Value) (l:List W8) (rv:Value) (rs:List an) (M A:AH) (bs k1:Nat) (w1:Bool) (hP:c8 bo M A) (eX:J 0 A) (gbs:M.get bs=some (.row w1 [num g,u,rv] k1)) (hL:ib M) (hu:bJ M 1 u (dN l)) (hr:bJ M 3 rv (cd rs)) (hp:Proofs M rs) (hg:1<=g/\g<=8) (hn:rs.length<=1000000) (hw:∀ r ∈ rs,0 < r.left.length/\r.left.length<=1000/\r.right.length<=1000) (hclo:∀ i C C2,J i C->C2.wf->C.n<=C2.n->(∀ b o,(b < A.n\/oT bo C b)->C.get b=some o->C2.get b=some o)->J i C2) (hv:∀ i C,J i C->∃ v cap,C.get bo=some (.row true [v] cap)/\∀ b,blk v=some b->∃ o,C.get b=some o) (hbo:bo < A.n) (hy:∀ k C M2,k < (aM g rs).length->C.wf->J k C->c8 bo M2 C->mU prog lp #[YF ((aM g rs).getD k .zero)] C (fun v C2=>v=.bool true/\J (k + 1) C2/\C2.wf/\c8 bo M2 C2)):bH prog 164 #[.func (.yield lp) #[] #[],.pointer (some ⟨bs,0,none⟩)] A (fun v A1=>J (aM g rs).length A1/\A1.wf/\c8 bo M A1):=by
  refine enterM (e:=[(0,.func (.yield lp) #[] #[]),(1,.pointer (some ⟨bs,0,none⟩))]) (args:=[.func (.yield lp) #[] #[],.pointer (some ⟨bs,0,none⟩)]) call164 func164 Z results164 ntmps164 Z Z Z (fun wf=>?_)
  have f1:=hP.le
  obtain ⟨f3,hH,bR,dD⟩:=hv _ _ eX
  have eZ:=AH.le.refl A
  have gN:kG bo A A []:=kG.nil
  have gX:A.n<=A.n:=XV _
  have hne:=sH hg hw
  have hsl:=jq g rs
  refine ak.seq fun K1 h2=>.region<|.m (fun gS=>d8 wf rfl rfl fun A5 b4 c3=>?_)
  have e1:=aX wf (Xj eZ.n c3.lo)
  have hi:=Xj f1.n c3.lo
  have bA:=f1.trans c3.le
  have f0:=eZ.trans c3.le
  refine gS<|.nil<|h2 _ _<|.seq fun K9 ge=>.region<|.p (am ei dE Z Z (bA.g gbs) Z)<|.m (fun fI=>aq Z (M9 ((g)) u l rv rs A5 hg hn (hL.le bA) (hu.le bA) (hr.le bA) (hp.le bA)) ?_)
  rintro c4 A13 ⟨cC,cK,cA⟩
  have gf:=cC.g c3.get
  have ar:=f0.trans cC
  have cU:=cA.base bA
  have g9:=O0 f0 cA
  refine fI<|.I Z<|.nil<|ge _ _<|.seq fun K21 gg=>.region<|.J Z<|.p (bE (n:=(aO ((g)) rs).length) s7 Z cU.slc O (ug _))<|.J Z<|.nil ?_
  refine gg _ _<|.block ?_
  have fn:=hclo _ _ _ eX cK ar.n (fun b o _ h=>ar.get b o h)
  have cV:=ar.get _ _ bR
  have hx:=uv ar dD
  have ft:=hP.up ar bR
  have fS:=Xj gX ar.n
  have f9:=gN.up ar bR
  have aI:=c8.full cV cK
  have ai:=ft.sub cV
  have ba:=ai.get _ _ gbs
  have b9:=kZ gf bR dD e1
  have a8:=tX cU bR dD g9
  have bV:=hu.le ai
  have bv:=hr.le ai
  have dd:=hL.le ai
  have dk:A.n<=(A13.hide [some bo,blk f3]).n:=fS
  generalize hM24:(A13.hide [some bo,blk f3])=M24 at aI ai ba b9 a8 bV bv dd dk
  refine ak.loopD (X:=Nat × List Nat) (fun ⟨i,Ds⟩=>[(1,.pointer (some ⟨bs,0,none⟩)),(2,.pointer (some ⟨b4,0,none⟩)),(3,c4),(10,num (((aO ((g)) rs).length:Nat):Int)),(11,num ((i:Nat):Int))]) (fun ⟨i,Ds⟩=>Ds.map V.mark) (fun ⟨i,Ds⟩ B=>(i<=(aO g rs).length)/\M24.le B/\kG bo A B Ds/\(J (uj rs.length (aO g rs) i 0).length B/\c8 bo M24 B)) (fun ⟨i,Ds⟩=>(aO g rs).length - i) (⟨0,[]⟩) (sY Z Z Z Z Z) Z (⟨(XK _),aI.le,f9,⟨(by rw [show (uj rs.length (aO g rs) 0 0).length=0 from rfl];exact fn),aI⟩⟩) ?_
  rintro ⟨i,Ds⟩ B26 ⟨hl_i,bP,aY,hJ_i,hP_i⟩
  refine ak.wf fun cv=>?_
  obtain ⟨dL,hm,bB,dG⟩:=hv _ _ hJ_i
  have dw:=AH.le.refl B26
  have fT:=Xj dk bP.n
  refine ak.seq fun K29 gl=>.region<|.p (ca Z Z)<|.nil<|gl _ _<|.seq fun K31 gm=>.if rfl (fun h7=>?_) (fun h7=>?_)
  ·
    refine ak.skip<|gm _ _<|.seq fun K34 gp=>.block<|.seq fun K36 gs=>.region<|.J Z<|.m (fun fL=>bZ cv z3 rfl fun A40 cP az=>?_)
    have d0:=aX aI.wf (Xj bP.n az.lo)
    have bS:=aX cv (Xj dw.n az.lo)
    have h3:=Xj bP.n az.lo
    have g4:=bP.trans az.le
    have g0:=dw.trans az.le
    refine fL<|.m (fun fM=>aW (cs:=[num ((i:Nat):Int)]) (c':=[num ((i:Nat):Int)]) az.wf rfl rfl rfl rfl dH az.get G rfl rfl fun A45 aB=>?_)
    have av:=al g0 cv bS aB.n aB.keep
    have g5:=al g4 aI.wf d0 aB.n aB.keep
    refine fM<|.nil<|gs _ _<|.seq fun K49 gC=>.region<|.J Z<|.p (bE (n:=(aO ((g)) rs).length) s7 Z (a8.le g5) O (ug _))<|.J Z<|.nil<|gC _ _ ?_
    refine ak.block ?_
    have fo:=hclo _ _ _ hJ_i aB.wf av.n (fun b o _ h=>av.get b o h)
    have cX:=av.get _ _ bB
    have hz:=uv av dG
    have fv:=hP_i.up av bB
    have fV:=Xj fT av.n
    have fi:=aY.up av bB
    have aP:=c8.full cX aB.wf
    have a0:=fv.sub cX
    have ac:=a0.get _ _ ba
    have bb:=a0.get _ _ b9
    have a7:=kZ aB.get bB dG bS
    have bY:=bV.le a0
    have ad:=bv.le a0
    have a9:=a8.le a0
    have di:=dd.le a0
    have ck:A.n<=(A45.hide [some bo,blk dL]).n:=fV
    generalize hM52:(A45.hide [some bo,blk dL])=M52 at aP a0 ac bb a7 bY ad a9 di ck
    refine ak.loopD (X:=Nat × List Nat) (fun ⟨j,Ds⟩=>[(1,.pointer (some ⟨bs,0,none⟩)),(2,.pointer (some ⟨b4,0,none⟩)),(3,c4),(4,.pointer (some ⟨cP,0,none⟩)),(10,num (((aO ((g)) rs).length:Nat):Int)),(11,num ((i:Nat):Int)),(15,num (((aO ((g)) rs).length:Nat):Int)),(16,num ((j:Nat):Int))]) (fun ⟨j,Ds⟩=>Ds.map V.mark) (fun ⟨j,Ds⟩ B=>(j<=(aO g rs).length)/\M52.le B/\kG bo A B Ds/\(J (uj rs.length (aO g rs) i j).length B/\c8 bo M52 B)) (fun ⟨j,Ds⟩=>(aO g rs).length - j) (⟨0,Ds⟩) (zZ Z Z Z Z Z Z Z Z) Z (⟨(XK _),aP.le,fi,⟨fo,aP⟩⟩) ?_
    rintro ⟨j,Ds⟩ B54 ⟨hl_j,b3,bL,hJ_j,hP_j⟩
    refine ak.wf fun aT=>?_
    obtain ⟨dM,ho,a5,aS⟩:=hv _ _ hJ_j
    have dz:=AH.le.refl B54
    have dv:=Xj ck b3.n
    refine ak.seq fun K57 gD=>.region<|.p (ca Z Z)<|.nil<|gD _ _<|.seq fun K59 gE=>.if rfl (fun h8=>?_) (fun h8=>?_)
    ·
      refine ak.skip<|gE _ _<|.seq fun K62 eV=>.block<|.seq fun K64 gF=>.region<|.J Z<|.m (fun fN=>bZ aT z3 rfl fun A68 cS aA=>?_)
      have d1:=aX aP.wf (Xj b3.n aA.lo)
      have bT:=aX aT (Xj dz.n aA.lo)
      have h4:=Xj b3.n aA.lo
      have g7:=b3.trans aA.le
      have g1:=dz.trans aA.le
      refine fN<|.m (fun fO=>aW (cs:=[num ((j:Nat):Int)]) (c':=[num ((j:Nat):Int)]) aA.wf rfl rfl rfl rfl dH aA.get G rfl rfl fun A73 ab=>?_)
      have a2:=al g1 aT bT ab.n ab.keep
      have aa:=al g7 aP.wf d1 ab.n ab.keep
      refine fO<|.nil<|gF _ _<|.seq fun K77 gG=>.join (fun f A1=>aj [(30,.bool (decide (rs.length<=i/\rs.length<=j))),(1,.pointer (some ⟨bs,0,none⟩)),(2,.pointer (some ⟨b4,0,none⟩)),(3,c4),(4,.pointer (some ⟨cP,0,none⟩)),(10,num (((aO ((g)) rs).length:Nat):Int)),(11,num ((i:Nat):Int)),(15,num (((aO ((g)) rs).length:Nat):Int)),(16,num ((j:Nat):Int)),(17,.bool (decide (j < (aO ((g)) rs).length))),(18,num ((j:Nat):Int)),(5,.pointer (some ⟨cS,0,none⟩))] f.e/\f.ds=Ds.map V.mark/\A73=A1) ?_ ?_
      ·
        refine ak.region<|.p (ah fA Z Z (aa.g a7) Z)<|.p (ae cW fp U Z)<|.p (ah ga Z Z (aa.g ac) Z)<|.p (bE (n:=rs.length) i4 Z (ad.le aa) O (cL _))<|.p (yA Z Z)<|.J Z<|.part (t:=24) Z (fun h9=>?_) (fun h9=>?_)
        ·
          refine Ops.on Z Z<|.p (ah fA Z Z ab.get Z)<|.on Z Z<|.p (ae cW fp U Z)<|.on Z Z<|.p (ah ga Z Z (aa.g ac) Z)<|.on Z Z<|.p (bE (n:=rs.length) i4 Z (ad.le aa) O (cL _))<|.on Z Z<|.p (yA Z Z) ?_
          refine Ops.p (aL Z Z)<|.nil ?_
          exact ⟨aj.cons (show some _=some _ from Xk (fun b=>some (Value.bool b)) (show (decide (rs.length<=j))=decide (rs.length<=i/\rs.length<=j) from (by simp [*])))<|vo Z Z Z Z Z Z Z Z Z Z Z,Z,Z⟩
        ·
          refine Ops.off Z Z Z Z<|.off Z Z Z Z<|.off Z Z Z Z<|.off Z Z Z Z<|.off Z Z Z Z<|.p (bh Z Z)<|.nil ?_
          exact ⟨aj.cons (show some _=some _ from Xk (fun b=>some (Value.bool b)) (show (false)=decide (rs.length<=i/\rs.length<=j) from (by simp [*])))<|vo Z Z Z Z Z Z Z Z Z Z Z,Z,Z⟩
      ·
        rintro ⟨fe,fd⟩ _ ⟨hE,rfl,rfl⟩
        refine ak.forget hE<|.if rfl (fun ha=>?_) (fun ha=>?_)
        ·
          refine ak.exit<|eV _ _<|.region<|.p (bF (b:=1) Z Z O)<|.J Z<|.nil ?_
          have fq:=hclo _ _ _ hJ_j ab.wf a2.n (fun b o _ h=>a2.get b o h)
          have hq:=a2.get _ _ a5
          have hA:=uv a2 aS
          have fD:=hP_j.up a2 a5
          have ht:=Xj dv a2.n
          have fl:=bL.up a2 a5
          exact ⟨⟨j + 1,Ds⟩,zZ Z Z Z Z Z Z Z Z,Z,⟨O,aa,fl,⟨(by rw [Ye ⟨by omega,by omega⟩];exact fq),fD⟩⟩,O1⟩
        ·
          refine ak.skip<|gG _ _<|.seq fun K84 gL=>.region<|.J Z<|.p (ah fA Z Z (aa.g a7) Z)<|.p (ah fA Z Z ab.get Z)<|.m (fun fQ=>aq Z (Qc c4 (aO ((g)) rs) i j A73 (a9.le aa)) ?_)
          rintro hM A88 ⟨dV,dW,dZ,rfl,cF,b0,bp,br,bu,bd,bl,bm⟩
          have gM:=cF.g ab.get
          have ay:=a2.trans cF
          have hrwa:=bp
          have hrwb:=br
          have hrwc:=bu
          have hloa:=bd
          have hlob:=bl
          have hloc:=bm
          have c7:=aX aT (Xj a2.n bd)
          have cb:=aX aT (Xj a2.n bl)
          have cf:=aX aT (Xj a2.n bm)
          refine fQ<|.nil<|gL _ _<|.block ?_
          have fr:=hclo _ _ _ hJ_j b0 ay.n (fun b o _ h=>ay.get b o h)
          have bC:=ay.get _ _ a5
          have hB:=uv ay aS
          have fE:=hP_j.up ay a5
          have fX:=Xj dv ay.n
          have fm:=bL.up ay a5
          have a6:=c8.full bC b0
          have D:=fE.sub bC
          have a1:=D.get _ _ ac
          have bc:=D.get _ _ bb
          have b1:=D.get _ _ a7
          have ap:=kZ gM a5 aS bT
          have aD:=kZ bp a5 aS c7
          have aE:=kZ br a5 aS cb
          have aF:=kZ bu a5 aS cf
          have b2:=bY.le D
          have aR:=ad.le D
          have aV:=a9.le D
          have dj:=di.le D
          have bM:A.n<=(A88.hide [some bo,blk dM]).n:=fX
          generalize hM94:(A88.hide [some bo,blk dM])=M94 at a6 D a1 bc b1 ap aD aE aF b2 aR aV dj bM
          refine ak.rangeOwn (M:=M94) bo (i0 (aO g rs) i j).length (fun k=>[YF ((i0 (aO g rs) i j).getD k .zero)]) (fun k B=>J ((uj rs.length (aO g rs) i j).length + k) B/\c8 bo M94 B) (fun k b6=>[(6,.pointer (some ⟨b6,0,none⟩)),(1,.pointer (some ⟨bs,0,none⟩)),(2,.pointer (some ⟨b4,0,none⟩)),(4,.pointer (some ⟨cP,0,none⟩)),(5,.pointer (some ⟨cS,0,none⟩))]) (fun k=>.row true [num (((i0 (aO g rs) i j).getD k .zero).i),num (((i0 (aO g rs) i j).getD k .zero).j),ax (((i0 (aO g rs) i j).getD k .zero).word),ax (((i0 (aO g rs) i j).getD k .zero).u),ax (((i0 (aO g rs) i j).getD k .zero).v)] 5) Z call192 (fun _=>rfl) U (b0 _ _ bC) a6 ?_ ?_ ?_ ?_ ?_ ?_ ?_
          · rintro k B B2 ⟨i1,i2⟩ cH eY hk
            obtain ⟨v,cc,gq,_⟩:=hv _ _ i1
            exact ⟨hclo _ _ _ i1 cH eY (fun b o hb h=>hk b o (hb.imp (fun q=>Rv q (Xj bM a6.le.n)) id) h),⟨⟨Xj i2.le.n eY,fun b o h=>hk b o (.inl (Rv (i2.wf b o h) a6.le.n)) (i2.le.g h)⟩,i2.wf,fun b hb=>i2.ow b (hb.same (by rw [gq];exact hk bo _ (.inr (.inl Z)) gq))⟩⟩
          · exact fun k B i1=>hv _ _ i1.1
          · exact ⟨fr,a6⟩
          · intro h5 J2 B M4 hnB hleB wfB b8 hJI hs ch hyd
            obtain ⟨v,cc,gq,_⟩:=hv _ _ (hJI 0 B ch).1
            have s3:=(hJI 0 B ch).2.sub gq
            exact (Kq bo h5 J2 i j (aO g rs) c4 _ B dV dW dZ _ _ _ _ _ _ (c8.full gq wfB) ch (s3.get _ _ aD) (s3.get _ _ aE) (s3.get _ _ aF) (aV.le s3) O O hne (fun k C M2=>hyd k C M2)).mono (fun v C h=>⟨h.1,h.2.1,h.2.2.mono (b8.sub gq) b8.wf⟩)
          · intro F k B hF_ hk_
            refine fw.wf fun wfB_=>?_
            have hF:=hF_
            refine fw.region hF (by repeat' first | with_reducible exact kU | with_reducible apply m9 | with_reducible apply kS) Y<|.m (fun fR=>bZ wfB_ tk rfl fun A97 gc b7=>?_)
            have d2:=aX wfB_ (Xj (AH.le.refl B).n b7.lo)
            have dI:=Xj (AH.le.refl B).n b7.lo
            have g8:=(AH.le.refl B).trans b7.le
            refine fR<|.m (fun eg=>aW (cs:=[num (((i0 (aO g rs) i j).getD k .zero).i),num (((i0 (aO g rs) i j).getD k .zero).j),ax (((i0 (aO g rs) i j).getD k .zero).word),ax (((i0 (aO g rs) i j).getD k .zero).u),ax (((i0 (aO g rs) i j).getD k .zero).v)]) (c':=[num (((i0 (aO g rs) i j).getD k .zero).i),num (((i0 (aO g rs) i j).getD k .zero).j),ax (((i0 (aO g rs) i j).getD k .zero).word),ax (((i0 (aO g rs) i j).getD k .zero).u),ax (((i0 (aO g rs) i j).getD k .zero).v)]) b7.wf rfl rfl rfl rfl gy b7.get G rfl rfl fun A101 aZ=>?_)
            have eL:=al g8 wfB_ d2 aZ.n aZ.keep
            refine eg<|.nil ?_
            exact ⟨gc,dI,sY Z Z Z Z Z,Z,eL,aZ.wf,aZ.get⟩
          · rintro F k B b6 M4 hF hk_ ⟨i1,i2⟩ wfB hnB b8 gP g6 dJ gA
            obtain ⟨vY,cY,gY,lY⟩:=hv _ _ i1
            have hJ:A.n<=b6:=Xj (Xj bM a6.le.n) gP
            have h6:bo ≠ b6:=fun q=>dJ (.inl q.symm)
            have hK:blk vY ≠ some b6:=fun q=>dJ (.inr ⟨_,_,gY,q⟩)
            have s3:=i2.sub gY
            have eT:M94.get b6=none:=by cases q:M94.get b6 with | none=>rfl | some o=>exact absurd (a6.wf _ _ q) (by have:=a6.le.n;omega)
            have s6:=cz (bs:=[some b6]) s3 (xe eT qX)
            have jX:=c6 B [some b6]
            have m6:((B.hide [some bo,blk vY]).hide [some b6]).le (B.hide [some b6]):=OE (c6 _ _)
            have dO:((B.hide [some bo,blk vY]).hide [some b6]).wf:=cI (cI wfB)
            have cu:((B.hide [some bo,blk vY]).hide [some b6]).get b6=none:=cQ (by simp)
            have wfX:(B.hide [some b6]).wf:=cI wfB
            have f2:(B.hide [some b6]).get b6=none:=cQ (by simp)
            generalize hM6:(B.hide [some bo,blk vY]).hide [some b6]=M6 at s6 m6 dO cu
            have hI:=dj.le s6
            refine fw.block<|.seq fun K104 f4=>.drawn [0,1,3,4,2,6,5,7,8,9] hF (by repeat' first | with_reducible exact kU | with_reducible apply m9 | with_reducible apply kS) Y mixed Y Y Z<|.p Z (am ei dE Z Z ((m6.trans jX).get _ _ (s6.get _ _ a1)) Z)<|.p Z (ah fA Z Z ((m6.trans jX).get _ _ (s6.get _ _ b1)) Z) ?_
            have e3:=de (off:=0) ((m6.trans jX).get _ _ (s6.get _ _ a1)) (show _=some (num (g)) from rfl)
            have e4:=de (off:=1) ((m6.trans jX).get _ _ (s6.get _ _ a1)) (show _=some (u) from rfl)
            have e5:=de (off:=2) ((m6.trans jX).get _ _ (s6.get _ _ a1)) (show _=some (rv) from rfl)
            refine bn.p Z (am ei dE Z Z ((m6.trans jX).get _ _ (s6.get _ _ a1)) Z) ?_
            have e6:=de (off:=0) ((m6.trans jX).get _ _ (s6.get _ _ ap)) (show _=some (num ((j:Nat):Int)) from rfl)
            refine bn.p Z (ah fA Z Z ((m6.trans jX).get _ _ (s6.get _ _ ap)) Z)<|.m Z (fun en=>aq Z (M7 ((g)) u l rv rs i B O hn ((b2.le s6).le (m6.trans jX)) ((aR.le s6).le (m6.trans jX))) ?_)
            rintro hC A116 ⟨rfl,a3,hc⟩
            have f6:=a3.g g6
            have e7:=cl a3 e3
            have e9:=cl a3 e4
            have ea:=cl a3 e5
            have ec:=cl a3 e6
            have bO:=(m6.trans jX).trans a3
            have eA:=jX.trans a3
            refine en (aU.list (L:=[(⟨cS,0,none⟩,num ((j:Nat):Int)),(⟨bs,0,none⟩,num (g)),(⟨bs,1,none⟩,u),(⟨bs,2,none⟩,rv)]) Y (bz ec (bz e7 (bz e9 (bz ea cm)))))<|.p Z (ae fl47_0 dH U Z)<|.m Z (fun ev=>aq Z (M7 ((g)) u l rv rs j A116 O hn ((b2.le s6).le bO) ((aR.le s6).le bO)) ?_)
            rintro hD A131 ⟨rfl,b5,dS⟩
            have f7:=b5.g f6
            have eN:=bO.trans b5
            have eC:=eA.trans b5
            refine ev (aU.none Y)<|.m Z (fun ex=>aW (cs:=[num (nm rs.length i)]) (c':=[num (nm rs.length i),num (((i0 (aO g rs) i j).getD k .zero).j),ax (((i0 (aO g rs) i j).getD k .zero).word),ax (((i0 (aO g rs) i j).getD k .zero).u),ax (((i0 (aO g rs) i j).getD k .zero).v)]) dS rfl rfl rfl rfl dH f7 G rfl rfl fun A141 ag=>?_)
            have eG:=al eC wfX f2 ag.n ag.keep
            have eQ:=al eN dO cu ag.n ag.keep
            refine ex (aU.none Y)<|.p Z (ae fl47_1 dH U Z)<|.m Z (fun ey=>aW (cs:=[num (nm rs.length j)]) (c':=[num (nm rs.length i),num (nm rs.length j),ax (((i0 (aO g rs) i j).getD k .zero).word),ax (((i0 (aO g rs) i j).getD k .zero).u),ax (((i0 (aO g rs) i j).getD k .zero).v)]) ag.wf rfl rfl rfl rfl dH ag.get G rfl rfl fun A146 a4=>?_)
            have aG:=al eG wfX f2 a4.n a4.keep
            have eS:=al eQ dO cu a4.n a4.keep
            refine ey (aU.none Y)<|.done<|f4 _ _<|.seq fun K150 f8=>?_
            have e2:=hclo _ _ _ i1 a4.wf aG.n (fun b o hb h=>aG.get b o (bX h (qY (fun q=>by subst q;rcases hb with hb | hb;omega;exact dJ hb) mN)))
            have bD:=aG.get _ _ (bX gY (qY h6 mN))
            have dK:=PL_get (n:=rs.length) (L:=(aO g rs)) (i:=i) (j:=j) (k:=k) O O O hk_
            have cB:=hy _ _ _ dK.1 a4.wf e2 (c8.full bD a4.wf)
            rw [show aM g rs=jA rs.length (aO g rs) from rfl,dK.2] at cB
            refine fw.regionJ ?_
            refine mR.q hF Z Z (ah ag202 Z Z (eS.g (s6.get _ _ bc)) Z) ?_
            refine mR.q hF Z Z (am rd gy Z Z a4.get Z) ?_
            refine mR.y hF rfl rfl rfl (cB) fun hG A154 ez=>?_
            obtain ⟨rfl,hJz,wfz,hPz⟩:=ez
            skip
            refine mR.q hF Z Z (eD Z) ?_
            refine mR.nil ?_
            refine f8 _ _<|.cond_false Z<|.skip ?_
            exact ⟨⟨hJz,(hPz.mono (cz ((cz (bs:=[some b6]) i2.le (xe eT qX)).trans aG) (GH i2 gY bD)) i2.wf)⟩,wfz,(hPz.mono (cz ((cz (bs:=[some b6]) b8.le (xe gA qX)).trans aG) (GH b8 gY bD)) b8.wf)⟩
          · rintro B156 D156 ⟨i1,i2⟩ hl dl h1 e0 dm aC
            have d3:=kG.push fm bC (by rw [hM94];exact aC) b0 (Xj bM a6.le.n) dl e0 dm
            have bU:J (uj rs.length (aO g rs) i (j + 1)).length B156:=by rw [PL_len O];exact i1
            obtain ⟨hj,hd,he,hh⟩:=hv _ _ bU
            have hf:=Xj ck (D.trans aC.le).n
            refine eV _ _<|.region<|.p (bF (b:=1) Z Z O)<|.J Z<|.nil ?_
            exact ⟨⟨j + 1,D156 :: Ds⟩,zZ Z Z Z Z Z Z Z Z,Z,⟨O,(D.trans aC.le),d3,⟨bU,(aC.mono D aP.wf)⟩⟩,O1⟩
    ·
      refine ak.exit<|gp _ _<|.region<|.p (bF (b:=1) Z Z O)<|.J Z<|.nil ?_
      exact ⟨⟨i + 1,Ds⟩,sY Z Z Z Z Z,Z,⟨O,(a0.trans b3),bL,⟨(by rw [Cn,show (aO g rs).length=j by omega];exact hJ_j),(hP_j.mono a0 aI.wf)⟩⟩,O1⟩
  ·
    refine ak.exit ?_
    (repeat first | with_reducible refine cR ?_ | with_reducible refine cr ?_);(repeat first | with_reducible refine gk ?_ | with_reducible refine fj ?_ | with_reducible refine eR U ?_ | with_reducible refine eU ?_ | with_reducible refine d4 ?_);obtain ⟨vZ,cZ,gZ,lZ⟩:=hv _ _ hJ_i;refine ⟨Ds,rfl,aY.nd,aY.get,[],fun A2 cH h0 gQ=>?_⟩;obtain ⟨z1,z2⟩:=aY.leave hP.le wf (hP_i.mono ai hP.wf) gZ h0 gQ;exact ⟨Z,_,Z,(by rw [show aM g rs=uj rs.length (aO g rs) i 0 from by rw [show i=(aO g rs).length by omega,Jg];rfl];exact hclo _ _ _ hJ_i cH O z2),cH,z1⟩
theorem aao (g:Int) (u:Value) (l:List W8) (rv:Value) (rs:List an) (A:AH) (hu:bJ A 1 u (dN l)) (hr:bJ A 3 rv (cd rs)):bH prog 125 #[.agg #[num (g),u,rv]] A (fun v A1=>∃ b,v=.func (.func 164) #[] #[.pointer (some ⟨b,0,none⟩)]/\A.le A1/\A1.wf/\A1.get b=some (.row true [num g,u,rv] 3)/\A.get b=none):=by
 refine bi (e:=[(0,.agg #[num (g),u,rv])]) (args:=[.agg #[num (g),u,rv]]) call125 func125 Z results125 ntmps125 Z Z Z (fun wf=>?_);have D:=AH.le.refl A;refine ak.sq fun h2=>.region<|.m (fun V=>d8 wf rfl rfl fun A5 b4 h=>?_);refine V<|.I Z<|.nil<|h2<|.sq fun h9=>.region<|.p (od Z Z)<|.I Z<|.nil<|h9 ?_;refine ak.ret ?_;repeat first | with_reducible refine cR ?_ | with_reducible refine cr ?_
 exact aH Z (⟨b4,Z,(D.trans h.le),h.wf,h.get,(aX wf (Xj D.n h.lo))⟩)
theorem WR (g:Int) (u:Value) (l:List W8) (rv:Value) (rs:List an) (A:AH) (hg:1<=g/\g<=8) (hn:rs.length<=1000000) (hw:∀ r ∈ rs,0 < r.left.length/\r.left.length<=1000/\r.right.length<=1000) (hmx:(aM g rs).length<=50000) (hL:ib A) (hu:bJ A 1 u (dN l)) (hr:bJ A 3 rv (cd rs)) (hp:Proofs A rs):bH prog 88 #[.agg #[num (g),u,rv]] A (fun v A1=>∃ w,v=.tuple #[w,.bool true]/\A.le A1/\A1.wf/\Fresh A A1 w 5 (sW (aM g rs))):=by
  refine enterM (e:=[(0,.agg #[num (g),u,rv])]) (args:=[.agg #[num (g),u,rv]]) call88 func88 Z results88 ntmps88 Z Z Z (fun wf=>?_)
  have c3:=AH.le.refl A
  have df_:Defs A A []:=⟨List.Pairwise.nil,fun _ h=>by cases h⟩
  refine ak.seq fun K1 h2=>.region<|.m (fun dV=>d8 wf rfl rfl fun A5 b4 aT=>?_)
  have ea:=Xj c3.n aT.lo
  have bb:=c3.trans aT.le
  refine dV<|.m (fun dW=>bZ aT.wf z78 rfl fun A10 b9 a3=>?_)
  have bC:=aX wf (Xj bb.n a3.lo)
  have ec:=Xj bb.n a3.lo
  have dl:=a3.le.g aT.get
  have aI:=bb.trans a3.le
  refine dW<|.m (fun cB=>bZ a3.wf z4 rfl fun A16 aV X=>?_)
  have ac:=ne_new a3.wf a3.get X.lo
  have b1:=aX wf (Xj aI.n X.lo)
  have e1:=Xj aI.n X.lo
  have bR:=X.le.g dl
  have bS:=X.le.g a3.get
  have aP:=aI.trans X.le
  refine cB<|.nil<|h2 _ _<|.seq fun K21 dm=>.region<|.m (fun cC=>bZ X.wf z78 rfl fun A25 D a1=>?_)
  have aF:=ne_new X.wf bR a1.lo
  have aG:=ne_new X.wf bS a1.lo
  have aB:=ne_new X.wf X.get a1.lo
  have b2:=aX wf (Xj aP.n a1.lo)
  have e2:=Xj aP.n a1.lo
  have b5:=a1.le.g bR
  have bT:=a1.le.g bS
  have bU:=a1.le.g X.get
  have aR:=aP.trans a1.le
  refine cC<|.nil<|dm _ _<|.seq fun K31 dv=>.seq fun K33 dw=>.region<|.p (am ei dE Z Z b5 Z)<|.m (fun cF=>aq Z (aao ((g)) u l rv rs A25 (hu.le aR) (hr.le aR)) ?_)
  rintro ez A37 ⟨a4,rfl,a7,ai,az,a2⟩
  have dz:=a7.g b5
  have dD:=a7.g bT
  have dG:=a7.g bU
  have aD:=a7.g a1.get
  have ba:=aR.trans a7
  have hrow:=az
  have hno:=a2
  have bv:b4 ≠ a4:=fun z=>by have q0:=b5;rw [z,a2] at q0;cases q0
  have bA:b9 ≠ a4:=fun z=>by have q0:=bT;rw [z,a2] at q0;cases q0
  have bm:aV ≠ a4:=fun z=>by have q0:=bU;rw [z,a2] at q0;cases q0
  have ay:D ≠ a4:=fun z=>by have q0:=a1.get;rw [z,a2] at q0;cases q0
  refine cF<|.nil<|dw _ _<|.block ?_
  have V:=c8.full aD ai
  have hLM:=cz (bs:=[some D,blk (.slice none 0 0)]) ba (fun b hb=>by simp only [Vz,Ty,or_false,Option.some.injEq,blk] at hb;rcases hb with rfl | hb;exact b2;cases hb)
  have bO:=Fresh.nil (A37.hide [some D,blk (.slice none 0 0)]) A37 5
  have ad:=bX (bs:=[some D,blk (.slice none 0 0)]) dz (qY (aF) (pk (fun q=>by cases q) mN))
  have ag:=bX (bs:=[some D,blk (.slice none 0 0)]) dD (qY (aG) (pk (fun q=>by cases q) mN))
  have a6:=bX (bs:=[some D,blk (.slice none 0 0)]) dG (qY (aB) (pk (fun q=>by cases q) mN))
  have a0:=bX (bs:=[some D,blk (.slice none 0 0)]) az (qY (ay.symm) (pk (fun q=>by cases q) mN))
  generalize hM0:(A37.hide [some D,blk (.slice none 0 0)])=M at V hLM bO ad ag a6 a0
  have hvI:∀ (k:Nat) (B:AH),(M.le B/\∃ v,B.get D=some (.row true [v] 1)/\Fresh M B v 5 (sW ((aM g rs).take k))/\blk v ≠ some D)->∃ v cap,B.get D=some (.row true [v] cap)/\∀ b,blk v=some b->∃ o,B.get b=some o:=fun k B ⟨_,v,g1,f1,_⟩=>⟨v,1,g1,fun b hb=>f1.own.blkget hb⟩
  refine ak.rangeOwn (M:=M) D (aM g rs).length (fun k=>[YF ((aM g rs).getD k .zero)]) (fun k B=>(M.le B/\∃ v,B.get D=some (.row true [v] 1)/\Fresh M B v 5 (sW ((aM g rs).take k))/\blk v ≠ some D)) (fun k b6=>[(5,.pointer (some ⟨b6,0,none⟩)),(1,.pointer (some ⟨b4,0,none⟩)),(2,.pointer (some ⟨b9,0,none⟩)),(3,.pointer (some ⟨aV,0,none⟩)),(4,.pointer (some ⟨D,0,none⟩))]) (fun k=>.row true [num (((aM g rs).getD k .zero).i),num (((aM g rs).getD k .zero).j),ax (((aM g rs).getD k .zero).word),ax (((aM g rs).getD k .zero).u),ax (((aM g rs).getD k .zero).v)] 5) Z call164 (fun _=>rfl) U (ai _ _ aD) V ?_ hvI ?_ ?_ ?_ ?_ ?_
  · rintro k B B2 ⟨i1,v,g1,f1,n1⟩ cf e0 hk
    exact ⟨⟨Xj i1.n e0,fun b o h=>hk b o (.inl (Rv (V.wf b o h) V.le.n)) (i1.get _ _ h)⟩,v,hk _ _ (.inr (.inl rfl)) g1,f1.owk (fun b o hb h=>hk b o (.inr (.inr ⟨v,1,g1,hb⟩)) h),n1⟩
  · exact ⟨V.le,_,aD,bO,fun q=>by cases q⟩
  · intro e4 J2 B M4 hnB hleB wfB aE hJI cA aA hyd
    obtain ⟨v,cc,gq,_⟩:=hvI _ _ (hJI 0 B aA)
    have s3:M.le (B.hide [some D,blk v]):=cz (hJI 0 B aA).1 (fun b hb=>by obtain ⟨_,w,g1,f1,_⟩:=hJI 0 B aA;rw [g1] at gq;cases gq;simp only [Vz,Ty,or_false,Option.some.injEq] at hb;rcases hb with rfl | hb;exact V.ow _ (.inl Z);exact f1.lo b hb.symm)
    exact (WV D e4 J2 g u l rv rs _ B a4 _ _ (c8.full gq wfB) aA (s3.get _ _ a0) ((hL.le hLM).le s3) ((hu.le hLM).le s3) ((hr.le hLM).le s3) ((hp.le hLM).le s3) hg hn hw (fun i C C2 j1 j2 j3 j4=>cA i C C2 j1 j2 j3 j4) (fun i C j1=>hvI i C (hJI i C j1)) (wfB _ _ gq) (fun k C M2=>hyd k C M2)).mono (fun v C h=>⟨h.1,h.2.1,h.2.2.mono (aE.sub gq) aE.wf⟩)
  · intro F k B hF_ hk_
    refine fw.wf fun wfB_=>?_
    have hF:=hF_
    refine fw.region hF (by repeat' first | with_reducible exact kU | with_reducible apply m9 | with_reducible apply kS) Y<|.m (fun cH=>bZ wfB_ tk rfl fun A46 dk ar=>?_)
    have b3:=aX wfB_ (Xj (AH.le.refl B).n ar.lo)
    have bd:=Xj (AH.le.refl B).n ar.lo
    have d0:=(AH.le.refl B).trans ar.le
    refine cH<|.m (fun cK=>aW (cs:=[num (((aM g rs).getD k .zero).i),num (((aM g rs).getD k .zero).j),ax (((aM g rs).getD k .zero).word),ax (((aM g rs).getD k .zero).u),ax (((aM g rs).getD k .zero).v)]) (c':=[num (((aM g rs).getD k .zero).i),num (((aM g rs).getD k .zero).j),ax (((aM g rs).getD k .zero).word),ax (((aM g rs).getD k .zero).u),ax (((aM g rs).getD k .zero).v)]) ar.wf rfl rfl rfl rfl gy ar.get G rfl rfl fun A50 aC=>?_)
    have d1:=al d0 wfB_ b3 aC.n aC.keep
    refine cK<|.nil ?_
    exact ⟨dk,bd,sY Z Z Z Z Z,Z,d1,aC.wf,aC.get⟩
  · rintro F k B b6 M4 hF hk_ ⟨i1,v,g1,f1,n1⟩ wfB hnB aE ey g6 c7 ev
    have s3:M.le (B.hide [some D,blk v]):=cz i1 (fun b hb=>by simp only [Vz,Ty,or_false,Option.some.injEq] at hb;rcases hb with rfl | hb;exact V.ow _ (.inl Z);exact f1.lo b hb.symm)
    have s4:=aE.sub g1
    have leX:=c6 B [some D,blk v]
    have wfX:(B.hide [some D,blk v]).wf:=cI wfB
    have noX:(B.hide [some D,blk v]).get D=none:=cQ (by simp)
    have fX:Fresh (B.hide [some D,blk v]) B v 5 (sW ((aM g rs).take k)):=f1.hide (by simp)
    have bP:(B.hide [some D,blk v]).get b6=some (.row true [num (((aM g rs).getD k .zero).i),num (((aM g rs).getD k .zero).j),ax (((aM g rs).getD k .zero).word),ax (((aM g rs).getD k .zero).u),ax (((aM g rs).getD k .zero).v)] 5):=bX g6 (qY (fun q=>c7 (.inl q)) (pk (fun q=>c7 (.inr ⟨_,_,g1,q⟩)) mN))
    generalize hMX:B.hide [some D,blk v]=MX at s3 s4 leX wfX noX fX bP
    have htk:((aM g rs).take k).length=k:=by rw [XZ];omega
    refine fw.block<|.seq fun K53 dI=>.seq fun K55 dJ=>.region hF (by repeat' first | with_reducible exact kU | with_reducible apply m9 | with_reducible apply kS) Y<|.p (ah Ym Z Z g1 Z)<|.p (bE (n:=((aM g rs).take k).length) Ew Z fX.slc O (wW _))<|.p (gI (b:=50000) Z Z)<|.nil<|dJ _ _<|.if rfl (fun e5=>?_) (fun e5=>?_)
    ·
      refine fw.seq fun K58 ex=>?_
      exact absurd ‹_› O
    ·
      refine fw.skip<|dI _ _<|.region hF (by repeat' first | with_reducible exact kU | with_reducible apply m9 | with_reducible apply kS) Y<|.p (ah Ym Z Z g1 Z)<|.p (am rd gy Z Z (leX.g bP) Z)<|.m (fun cP=>bf (c:=[num (((aM g rs).getD k .zero).i),num (((aM g rs).getD k .zero).j),ax (((aM g rs).getD k .zero).word),ax (((aM g rs).getD k .zero).u),ax (((aM g rs).getD k .zero).v)]) wfB rfl (aw Ew gy tk rfl U U rfl) fun A62 en a8=>?_)
      have e3:=Xj leX.n a8.lo
      have bV:=a8.le.g g1
      have aZ:=fX.le a8.le
      have d2:=leX.trans a8.le
      refine cP<|.m (fun cS=>ct (ys:=[num (((aM g rs).getD k .zero).i),num (((aM g rs).getD k .zero).j),ax (((aM g rs).getD k .zero).word),ax (((aM g rs).getD k .zero).u),ax (((aM g rs).getD k .zero).v)]) rfl rfl Ew gy LN tk rfl U Ew (fun _ h=>by cases h) aZ.own (bN (n:=1) a8.get Z) rfl rfl (by show (_ + _) * 64<=_;simp only [e8,Xq,Xz];(try simp only [Xx,Xq,Xz]);omega) OB fun A69 eA ap=>?_)
      rw [show ([num (((aM g rs).getD k .zero).i),num (((aM g rs).getD k .zero).j),ax (((aM g rs).getD k .zero).word),ax (((aM g rs).getD k .zero).u),ax (((aM g rs).getD k .zero).v)]:List Value)=sW [⟨((aM g rs).getD k .zero).i,((aM g rs).getD k .zero).j,((aM g rs).getD k .zero).word,((aM g rs).getD k .zero).u,((aM g rs).getD k .zero).v⟩] from rfl,pY] at ap
      obtain ⟨b0,d3⟩:=Fresh.grow aZ d2 wfX ap
      have dK:=ap.keep n1 bV
      have bl:=ap.ne n1 a8.wf bV
      refine cS ?_
      obtain ⟨cb,bY,bM,e6,_⟩:=b0.own.slice
      subst e6
      refine Ops.m (fun cU=>aW (cs:=[.slice cb bY bM]) (c':=[.slice cb bY bM]) ap.wf rfl rfl rfl rfl sz78 dK G rfl rfl fun A80 a9=>?_)
      have ch:=b0.keep a9.keep bl
      have bc:=al d3 wfX noX a9.n a9.keep
      refine cU<|.nil ?_
      have fe:=ce ch (Xk sW (gz (z:=CP.zero) hk_))
      exact ⟨⟨s3.trans bc,_,a9.get,fe.base s3,bl⟩,a9.wf,c8.mono ⟨bc,wfX,fun b hb=>by rcases hb.val a9.get with rfl | q;exact noX;exact fe.lo b q⟩ s4 aE.wf⟩
  · rintro B D0 ⟨i1,v,g1,f1,n1⟩ wfB hnD hnB gD hoD hPM
    have leB:=hLM.trans i1
    have frB:=f1.base hLM
    have hDp:kG D A B [D0]:=kG.push (A:=A) kG.nil aD (by rw [hM0];exact hPM) ai ba.n hnD gD hoD
    have e9:=i1.get _ _ ad
    have bD:=i1.get _ _ ag
    have b7:=i1.get _ _ a6
    have cZ:=i1.get _ _ a0
    have eg:=f1.ne V.wf ad
    have bL:=f1.ne V.wf ag
    have bp:=f1.ne V.wf a6
    have dj:=f1.ne V.wf a0
    have di:D0 ≠ b4:=by have:=V.wf _ _ ad;have:=V.le.n;omega
    have av:D0 ≠ b9:=by have:=V.wf _ _ ag;have:=V.le.n;omega
    have ab:D0 ≠ aV:=by have:=V.wf _ _ a6;have:=V.le.n;omega
    have c4:D0 ≠ D:=by have:=ai _ _ aD;omega
    have bu:D0 ≠ a4:=by have:=V.wf _ _ a0;have:=V.le.n;omega
    have nvD:blk v ≠ some D0:=fun q=>hoD (.inr ⟨_,_,g1,q⟩)
    have hlA:A.n<=D0:=Xj hLM.n (Xj V.le.n hnD)
    refine dv _ _<|.seq fun K84 dL=>.region<|.p (ah Ym Z Z g1 Z) ?_
    obtain ⟨br,b8,aY,e7,_⟩:=frB.own.slice
    subst e7
    refine Ops.m (fun cV=>aW (cs:=[.slice br b8 aY]) (c':=[.slice br b8 aY]) wfB rfl rfl rfl rfl sz78 bD G rfl rfl fun A88 a5=>?_)
    have dM:=a5.k ac.symm b7
    have dO:=a5.k av gD
    have ck:=frB.keep a5.keep bL
    have dd:=al leB wf bC a5.n a5.keep
    refine cV<|.m (fun cX=>aW (cs:=[.bool (true)]) (c':=[.bool (true)]) a5.wf rfl rfl rfl rfl nR dM G rfl rfl fun A98 aa=>?_)
    have cu:=aa.k ac a5.get
    have cv:=aa.k ab dO
    have bB:=ck.keep aa.keep bp
    have aS:=al dd wf b1 aa.n aa.keep
    refine cX<|.nil<|dL _ _<|.ret ?_
    (repeat first | with_reducible refine cR ?_ | with_reducible refine cr ?_);(repeat first | with_reducible refine gk ?_ | with_reducible refine fj ?_ | with_reducible refine eR U ?_ | with_reducible refine eU ?_ | with_reducible refine d4 ?_);refine ⟨[D0],rfl,(by simp),(fun E hE=>by rw [Vk] at hE;subst hE;exact cv),[.slice br b8 aY,.bool true],fun A2 cf dZ dS=>?_⟩;have hkD:∀ b o,b ≠ D0->A98.get b=some o->A2.get b=some o:=fun b o hb h=>dS b o (by simpa using hb) h;exact ⟨iE.cell Z (rp Ym (hkD _ _ av.symm cu) Z) (iE.cell Z (rp wQ (hkD _ _ ab.symm aa.get) Z) iE.nil),_,Z,_,Z,⟨by rw [dZ];exact aS.n,fun b o h=>hkD b o (by have:=wf _ _ h;omega) (aS.g h)⟩,cf,(ce bB (Xk sW (Rj))).owk (fun b o hb h=>hkD b o (fun z=>nvD (by rw [hb,z])) h)⟩
def fZ (rs:List an):List CP->Bool × CP × Nat
  | []=>(true,.zero,0)
  | p :: t=>match cG rs p.u,cG rs p.v with
    | some a,some b=>if a.word=b.word then fZ rs t else (false,p,0)
    | _,_=>(false,.zero,2)
def om (rs:List an):Bool->List Wd->Bool × Nat
  | t,[]=>(t,0)
  | t,w :: ws=>match cG rs w with
    | none=>(false,2)
    | some r=>om rs (t && decide (r.word=[])) ws
section
variable {rs:List an} {l:List CP} {i:Nat} {R:Bool × CP × Nat}
theorem pz (hi:l.length<=i) (h:fZ rs (l.drop i)=R):R=(true,.zero,0):=by
  rw [<- h,Sx hi];rfl
theorem pb {α:Type} {l:List α} {i:Nat} {z:α} (hi:i < l.length):l.drop i=l.getD i z :: l.drop (i + 1):=by
  rw [Tq hi];simp [hi]
theorem nw (hi:i < l.length) (h:fZ rs (l.drop i)=R) (q:(!(cG rs (l.getD i .zero).u).isSome)=true\/(!(cG rs (l.getD i .zero).v).isSome)=true):R=(false,.zero,2):=by
  rw [<- h,pb (z:=CP.zero) hi,fZ]
  rcases q with q | q
  · rw [rI q]
  · rw [rI q];cases cG rs (l.getD i .zero).u <;> rfl
theorem py (hi:i < l.length) (h:fZ rs (l.drop i)=R) (q1:(!(cG rs (l.getD i .zero).u).isSome)=false) (q2:(!(cG rs (l.getD i .zero).v).isSome)=false) (hne:¬ (da (cG rs (l.getD i .zero).u)).word=(da (cG rs (l.getD i .zero).v)).word):R=(false,l.getD i .zero,0):=by
  rw [<- h,pb (z:=CP.zero) hi,fZ,np q1,np q2]
  simp only
  rw [Xy hne]
theorem BG (hi:i < l.length) (h:fZ rs (l.drop i)=R) (q1:(!(cG rs (l.getD i .zero).u).isSome)=false) (q2:(!(cG rs (l.getD i .zero).v).isSome)=false) (he:¬ ¬ (da (cG rs (l.getD i .zero).u)).word=(da (cG rs (l.getD i .zero).v)).word):fZ rs (l.drop (i + 1))=R:=by
  rw [<- h,pb (z:=CP.zero) hi]
  conv=>rhs;rw [fZ,np q1,np q2]
  simp only
  rw [XX (Decidable.not_not.1 he)]
end
section
variable {rs:List an} {l:List Wd} {i:Nat} {t:Bool} {R:Bool × Nat}
theorem BF (hi:l.length<=i) (h:om rs t (l.drop i)=R):R=(t,0):=by
  rw [<- h,Sx hi];rfl
theorem QH (hi:i < l.length) (h:om rs t (l.drop i)=R) (q:(!(cG rs (l.getD i [])).isSome)=true):R=(false,2):=by
  rw [<- h,pb (z:=[]) hi,om,rI q]
theorem yZ (hi:i < l.length) (h:om rs t (l.drop i)=R) (q:(!(cG rs (l.getD i [])).isSome)=false):om rs (t && decide ((da (cG rs (l.getD i []))).word=[])) (l.drop (i + 1))=R:=by
  rw [<- h,pb (z:=[]) hi]
  conv=>rhs;rw [om,np q]
end
def ci (g:Int) (l:List Wd) (rs:List an):Bool × CP × Nat:=if bI g l rs then fZ rs (aM g rs) else (false,.zero,100)
def pW (g:Int) (l:List Wd) (rs:List an):Bool × Nat:=if (ci g l rs).2.2=0 then (if (om rs true l).2=0 then ((ci g l rs).1 && (om rs true l).1,0) else (false,(om rs true l).2)) else (false,(ci g l rs).2.2)
section
variable {g:Int} {l:List Wd} {rs:List an}
theorem sc (h:(!bI g l rs)=true):ci g l rs=(false,.zero,100):=by simp_all [ci]
theorem iq (h:(!bI g l rs)=false):ci g l rs=fZ rs (aM g rs):=by simp_all [ci]
theorem SO (h:¬ (ci g l rs).2.2=0):pW g l rs=(false,(ci g l rs).2.2):=by rw [pW,Xy h]
theorem SU (h:¬ ¬ (ci g l rs).2.2=0) (q:om rs true l=(false,2)):pW g l rs=(false,2):=by
  rw [pW,XX (Decidable.not_not.1 h),q];rfl
theorem Fc {t:Bool} (h:¬ ¬ (ci g l rs).2.2=0) (q:om rs true l=(t,0)):pW g l rs=((ci g l rs).1 && t,0):=by
  rw [pW,XX (Decidable.not_not.1 h),q];rfl
theorem kQ (h:¬ ¬ (ci g l rs).2.2=0):bI g l rs=true:=by
  have h:=Decidable.not_not.1 h
  cases q:bI g l rs with
  | true=>rfl
  | false=>simp [ci,q] at h
theorem ja (hs:bI g l rs=true):1<=g/\g<=8:=(dc (cT hs).1).1
theorem rP (hs:bI g l rs=true):∀ r ∈ rs,0 < r.left.length/\r.left.length<=1000/\r.right.length<=1000:=fun r hr=>by
  have h1:=ns hs hr
  have h2:=mO hs hr
  omega
end
theorem TH:eO prog 47 3=some (9,3):=by kernel_rfl
theorem TL:eO prog 47 4=some (9,4):=by kernel_rfl
theorem aaj (g:Int) (u:Value) (l:List W8) (rv:Value) (rs:List an) (A:AH) (hs:bI g l rs=true) (hmx:(aM g rs).length<=50000) (hL:ib A) (hu:bJ A 1 u (dN l)) (hr:bJ A 3 rv (cd rs)) (hp:Proofs A rs):bH prog 69 #[.agg #[num (g),u,rv]] A (fun v A1=>v=.tuple #[.bool (fZ rs (aM g rs)).1,YF (fZ rs (aM g rs)).2.1,num (((fZ rs (aM g rs)).2.2:Nat):Int)]/\A.le A1/\A1.wf):=by
 refine bi (e:=[(0,.agg #[num (g),u,rv])]) (args:=[.agg #[num (g),u,rv]]) call69 func69 Z results69 ntmps69 Z Z Z (fun wf=>?_);have fm:=AH.le.refl A;refine ak.sq fun h2=>.region<|.m (fun fe=>d8 wf rfl rfl fun A5 b4 c7=>?_);have dW:=fm.trans c7.le;refine fe<|.I Z<|.m (fun fi=>bZ c7.wf tk rfl fun A10 b9 aA=>?_);have aC:=aX wf (Xj dW.n aA.lo);have dL:=aA.le.g c7.get;have az:=dW.trans aA.le;refine fi<|.I Z<|.nil<|h2<|.sq fun eY=>.region<|.p (am ei dE Z Z dL Z)<|.m (fun eg=>aq Z (WR ((g)) u l rv rs A10 (ja hs) (sI hs) (rP hs) hmx (hL.le az) (hu.le az) (hr.le az) (hp.le az)) ?_);rintro fS A18 ⟨b6,rfl,b2,fq,bb⟩;have dM:=b2.g dL;have dO:=b2.g aA.get;have aR:=az.trans b2;have bB:=bb.base az;refine eg<|.J Z<|.p (aQ Z Z)<|.p (aQ Z Z)<|.I Z<|.I Z<|.nil<|eY<|.sq fun eZ=>.sq fun f0=>?_;refine ak.region<|.J Z<|.p (eD Z)<|.nil<|f0<|.cond_false Z<|.skip<|eZ<|.sq fun f1=>.region ?_;refine Ops.p (am ei dE Z Z dM Z)<|.m (fun en=>aq Z (ol ((g)) u l rv rs A18 (sI hs) (vc hs) (hu.le aR) (hr.le aR) (hp.le aR)) ?_);rintro fT A34 ⟨h,b5,rfl,b3,ab,b0,aa,aP,cP⟩;have bC:=bB.le b3;have hrow:=b0;have hno:=aa;have hix:=aP;have hM:=cP;have dw:b4 ≠ h:=fun z=>by have q0:=dM;rw [z,aa] at q0;cases q0
 have ar:b9 ≠ h:=fun z=>by have q0:=dO;rw [z,aa] at q0;cases q0
 have aZ:=sw aR aa;have eC:=xJ bB.own aa;refine en<|.I Z<|.nil<|f1<|.sq fun f2=>.sq fun f3=>.region<|.J Z<|.p (bE (n:=(aM ((g)) rs).length) Ew Z bC.slc O (wW _))<|.J Z ?_;refine Ops.nil<|f3<|.block<|.loop (X:=Nat × Value × Value × Value × Value × Value × Value) (fun ⟨i,y0,y5,y6,y7,y8,y9⟩=>[(3,.pointer (some ⟨b9,0,none⟩)),(7,.pointer (some ⟨h,0,none⟩)),(24,b6),(25,num (((aM ((g)) rs).length:Nat):Int)),(26,num ((i:Nat):Int))]) (fun ⟨i,y0,y5,y6,y7,y8,y9⟩ B=>(i<=(aM g rs).length/\fZ rs ((aM g rs).drop i)=fZ rs (aM g rs))/\A.le B/\Fresh A B b6 5 (sW (aM ((g)) rs))/\B.get h=some (.row true [y0,num ((g)),u,rv,.map (some b5),y5,y6,y7,y8,y9] 10)/\B.get b9=some (.row true [num ((0:Nat):Int),num ((0:Nat):Int),ax ([]),ax ([]),ax ([])] 5)/\V.blk b6 ≠ some h/\V.blk b6 ≠ some b9/\(A34.hide [some h]).le B) (fun ⟨i,y0,y5,y6,y7,y8,y9⟩=>(aM g rs).length - i) (⟨0,.slice none 0 0,.slice none 0 0,num ((0:Nat):Int),ax ([]),num ((0:Nat):Int),.slice none 0 0⟩) (sY Z Z Z Z Z) (⟨⟨XK _,Z⟩,(aR.trans b3),bC,b0,(b3.g dO),eC,(bb.ne aA.wf aA.get),(c6 A34 [some h])⟩) ?_;rintro ⟨i,y0,y5,y6,y7,y8,y9⟩ B46 ⟨⟨hi,hsc⟩,b8,a9,aB,ay,a2,aV,bc⟩;refine ak.wf fun aY=>.sq fun f4=>.region<|.p (ca Z Z)<|.nil<|f4<|.sq fun f6=>.if rfl (fun fn=>?_) (fun fn=>?_)
 ·refine ak.skip<|f6<|.sq fun f7=>.block<|.sq fun f8=>.region ?_;obtain ⟨fI,fN,fD,fR,fv,fQ,fO,eV,fl,eX,dZ,ft⟩:=bJ.at (i:=i) a9.slc OR O;refine Ops.p (au Ew gy Z eV Z fl)<|.p (am rd gy Z Z eX (dZ.trans (Xk some (S7 O))))<|.m (fun ev=>bZ aY tk rfl fun A60 fL a4=>?_);have a5:=ne_new aY aB a4.lo;have bL:=aX (cI ab) (Xj bc.n a4.lo);refine ev<|.m (fun ex=>aW (cs:=[num (((aM ((g)) rs).getD i .zero).i),num (((aM ((g)) rs).getD i .zero).j),ax (((aM ((g)) rs).getD i .zero).word),ax (((aM ((g)) rs).getD i .zero).u),ax (((aM ((g)) rs).getD i .zero).v)]) (c':=[num (((aM ((g)) rs).getD i .zero).i),num (((aM ((g)) rs).getD i .zero).j),ax (((aM ((g)) rs).getD i .zero).word),ax (((aM ((g)) rs).getD i .zero).u),ax (((aM ((g)) rs).getD i .zero).v)]) a4.wf rfl rfl rfl rfl gy a4.get G rfl rfl fun A69 a6=>?_);have f9:=a6.k a5 (a4.le.g aB);have e0:=(a9.le a4.le).keep a6.keep (a9.own.ne_new aY a4.lo);have eA:=al (bc.trans a4.le) (cI ab) bL a6.n a6.keep;refine ex<|.nil<|f8<|.sq fun fd=>.region<|.J Z<|.p (ae TH ek U Z)<|.p (ah eJ Z Z a6.get Z) ?_;have aS:=cz (bs:=[some h]) (al (b8.trans a4.le) wf (aX wf (Xj b8.n a4.lo)) a6.n a6.keep) (xe aZ qX);have bU:=cz (bs:=[some h]) eA (xe (cQ (by simp)) qX);refine Ops.m (fun ey=>aq Z (u6 (((aM ((g)) rs).getD i .zero).u) rs l h (((g))) u rv b5 y0 y5 y6 y7 y8 y9 (A69.hide [some h]) A69 (c6 A69 [some h]) (cI a6.wf) f9 (cQ (by simp)) hs (hL.le aS) (hr.le aS) (hp.le aS) (aP.le bU)) ?_);rintro fV A80 ⟨fo,dz,dD,dG,dI,dJ,dK,rfl,ap,av,ag,bp,cb⟩;have ea:=bX (bs:=[some h]) (a6.k (ne_new aY ay a4.lo) (a4.le.g ay)) (qY ar mN);have dS:=ap.g ea;have ec:=bX (bs:=[some h]) a6.get (qY a5.symm mN);have dV:=ap.g ec;have bD:=e0.off (jG a2 jk) ap;have bV:=bU.trans ap;have c4:=aS.trans ap;refine ey<|.J Z<|.p (aQ Z Z)<|.p (aQ Z Z)<|.m (fun ez=>bZ av s8 rfl fun A97 fM a1=>?_);have ad:=ne_new av ag a1.lo;have bM:=aX (cI ab) (Xj bV.n a1.lo);have cC:=(bp.base aS).le a1.le;refine ez ?_;obtain ⟨cc,bY,bv,eQ,_⟩:=cC.own.slice;subst eQ;refine Ops.m (fun cX=>aW (cs:=[ax ((da (cG rs (((aM ((g)) rs).getD i .zero).u))).word),num (((da (cG rs (((aM ((g)) rs).getD i .zero).u))).steps:Nat):Int),.slice cc bY bv]) (c':=[ax ((da (cG rs (((aM ((g)) rs).getD i .zero).u))).word),num (((da (cG rs (((aM ((g)) rs).getD i .zero).u))).steps:Nat):Int),.slice cc bY bv]) a1.wf rfl rfl rfl rfl eW a1.get G rfl rfl fun A110 a3=>?_);have e1:=a3.k ad (a1.le.g ag);have bO:=a3.k (ne_new av dV a1.lo) (a1.le.g dV);have cF:=(bD.le a1.le).keep a3.keep (bD.own.ne_new av a1.lo);have dj:=al (bV.trans a1.le) (cI ab) bM a3.n a3.keep;refine cX<|.I Z<|.nil<|fd<|.sq fun e2=>.region<|.J Z<|.p (ae TL ek U Z)<|.p (ah eJ Z Z bO Z) ?_;have ai:=cz (bs:=[some h]) (al (c4.trans a1.le) wf (aX wf (Xj c4.n a1.lo)) a3.n a3.keep) (xe aZ qX);have bd:=cz (bs:=[some h]) dj (xe (cQ (by simp)) qX);refine Ops.m (fun cZ=>aq Z (u6 (((aM ((g)) rs).getD i .zero).v) rs l h (((g))) u rv b5 dz dD dG dI dJ dK (A110.hide [some h]) A110 (c6 A110 [some h]) (cI a3.wf) e1 (cQ (by simp)) hs (hL.le ai) (hr.le ai) (hp.le ai) (aP.le bd)) ?_);rintro fE A123 ⟨eT,ch,ck,cu,cv,cA,cB,rfl,a7,a8,ac,b7,bu⟩;have cS:=bX (bs:=[some h]) (a3.k (ne_new av dS a1.lo) (a1.le.g dS)) (qY ar mN);have bP:=a7.g cS;have cU:=bX (bs:=[some h]) bO (qY a5.symm mN);have bR:=a7.g cU;have cV:=bX (bs:=[some h]) a3.get (qY ad.symm mN);have bS:=a7.g cV;have ba:=cF.off (jG a2 jk) a7;have bl:=bd.trans a7;have bm:=ai.trans a7;refine cZ<|.J Z<|.p (aQ Z Z)<|.p (aQ Z Z)<|.m (fun d0=>bZ a8 s8 rfl fun A145 fr D=>?_);have aT:=ne_new a8 ac D.lo;have br:=aX (cI ab) (Xj bl.n D.lo);have cH:=(b7.base ai).le D.le;refine d0 ?_;obtain ⟨cf,c3,bA,eS,_⟩:=cH.own.slice;subst eS;refine Ops.m (fun d1=>aW (cs:=[ax ((da (cG rs (((aM ((g)) rs).getD i .zero).v))).word),num (((da (cG rs (((aM ((g)) rs).getD i .zero).v))).steps:Nat):Int),.slice cf c3 bA]) (c':=[ax ((da (cG rs (((aM ((g)) rs).getD i .zero).v))).word),num (((da (cG rs (((aM ((g)) rs).getD i .zero).v))).steps:Nat):Int),.slice cf c3 bA]) D.wf rfl rfl rfl rfl eW D.get G rfl rfl fun A161 a0=>?_);have b1:=a0.k (ne_new a8 bP D.lo) (D.le.g bP);have cK:=(ba.le D.le).keep a0.keep (ba.own.ne_new a8 D.lo);have aD:=al (bm.trans D.le) wf (aX wf (Xj bm.n D.lo)) a0.n a0.keep;refine d1<|.I Z<|.nil<|e2<|.sq fun e3=>.sq fun bT=>.region<|.J Z<|.p (eD Z)<|.J Z ?_;refine Ops.partB (t:=46) Z (fun eG=>?_) (fun eG=>?_)
  ·refine Ops.off Z Z Z Z<|.off Z Z Z Z<|.p (aL Z Z)<|.nil<|bT<|.cond_true Z<|.sq fun e4=>.region<|.p (cx Z (bg QY tk vI Z))<|.I Z ?_;refine Ops.m (fun d2=>aW (cs:=[num ((0:Nat):Int),num ((0:Nat):Int),ax ([]),ax ([]),ax ([])]) (c':=[num ((0:Nat):Int),num ((0:Nat):Int),ax ([]),ax ([]),ax ([])]) a0.wf rfl rfl rfl rfl gy b1 G rfl rfl fun A180 aE=>?_);have dk:=al aD wf aC aE.n aE.keep;refine d2<|.I Z<|.nil<|e4<|.rt (by exact aH (dA Z (df rd gy Z aE.get Z (dA Z d5))) (⟨by (rw [nw O hsc (by first | exact .inl ‹_› | exact .inr ‹_›)];rfl),dk,aE.wf⟩))
  refine Ops.on Z Z<|.J Z<|.on Z Z<|.p (eD Z)<|.p (bh Z Z)<|.nil<|bT<|.ifB Z (fun eL=>?_) (fun eL=>?_)
  ·refine ak.sq fun e5=>.region<|.p (cx Z (bg QY tk vI Z))<|.I Z<|.m (fun d3=>aW (cs:=[num ((0:Nat):Int),num ((0:Nat):Int),ax ([]),ax ([]),ax ([])]) (c':=[num ((0:Nat):Int),num ((0:Nat):Int),ax ([]),ax ([]),ax ([])]) a0.wf rfl rfl rfl rfl gy b1 G rfl rfl fun A194 aF=>?_);have dl:=al aD wf aC aF.n aF.keep;refine d3<|.I Z<|.nil<|e5<|.rt (by exact aH (dA Z (df rd gy Z aF.get Z (dA Z d5))) (⟨by (rw [nw O hsc (by first | exact .inl ‹_› | exact .inr ‹_›)];rfl),dl,aF.wf⟩))
  refine ak.skip<|e3<|.sq fun e6=>.region<|.p (ae jT ek U Z)<|.p (ah eJ Z Z (a0.k (ne_new a8 bS D.lo) (D.le.g bS)) Z)<|.p (ae jT ek U Z)<|.p (ah eJ Z Z a0.get Z)<|.p (nh Z Z)<|.nil ?_;refine e6<|.if rfl (fun eN=>?_) (fun eN=>?_)
  ·refine ak.sq fun e7=>.drawn [0,1,2,3] mixed Y Y Z<|.p Z (am rd gy Z Z (a0.k (ne_new a8 bR D.lo) (D.le.g bR)) Z)<|.p Z (dB Z)<|.m Z (fun dd=>aW (cs:=[num (((aM ((g)) rs).getD i .zero).i),num (((aM ((g)) rs).getD i .zero).j),ax (((aM ((g)) rs).getD i .zero).word),ax (((aM ((g)) rs).getD i .zero).u),ax (((aM ((g)) rs).getD i .zero).v)]) (c':=[num (((aM ((g)) rs).getD i .zero).i),num (((aM ((g)) rs).getD i .zero).j),ax (((aM ((g)) rs).getD i .zero).word),ax (((aM ((g)) rs).getD i .zero).u),ax (((aM ((g)) rs).getD i .zero).v)]) a0.wf rfl rfl rfl rfl gy b1 G rfl rfl fun A215 aG=>?_);have dm:=al aD wf aC aG.n aG.keep;refine dd (aU.none Y)<|.p Z (dB Z)<|.done<|e7<|.rt (by exact aH (dA Z (df rd gy Z aG.get Z (dA Z d5))) (⟨by (rw [py O hsc ‹_› ‹_› ‹_›];rfl),dm,aG.wf⟩))
  refine ak.skip<|f7<|.region<|.p (bF (b:=1) Z Z O)<|.J Z<|.nil ?_;exact ⟨⟨i + 1,ch,ck,cu,cv,cA,cB⟩,sY Z Z Z Z Z,Z,⟨⟨by omega,BG O hsc ‹_› ‹_› ‹_›⟩,aD,cK,(a0.k aT (D.le.g ac)),b1,a2,aV,(al (bl.trans D.le) (cI ab) br a0.n a0.keep)⟩,O1⟩
 refine ak.exit<|f2<|.sq fun e9=>.region<|.p (cx Z (bg QY tk vI Z))<|.I Z<|.m (fun di=>aW (cs:=[num ((0:Nat):Int),num ((0:Nat):Int),ax ([]),ax ([]),ax ([])]) (c':=[num ((0:Nat):Int),num ((0:Nat):Int),ax ([]),ax ([]),ax ([])]) aY rfl rfl rfl rfl gy ay G rfl rfl fun A228 aI=>?_);have dv:=al b8 wf aC aI.n aI.keep;refine di<|.I Z<|.nil<|e9<|.rt (by exact aH (dA Z (df rd gy Z aI.get Z (dA Z d5))) (⟨by (rw [pz O hsc];rfl),dv,aI.wf⟩))
theorem uV (g:Int) (u:Value) (l:List W8) (rv:Value) (rs:List an) (A:AH) (hn:l.length<=9223372036854775807) (hm:rs.length<=9223372036854775807) (hmx:bI g l rs=true->(aM g rs).length<=50000) (hL:ib A) (hu:bJ A 1 u (dN l)) (hr:bJ A 3 rv (cd rs)) (hp:Proofs A rs):bH prog 28 #[.agg #[num (g),u,rv]] A (fun v A1=>v=.tuple #[.bool (ci g l rs).1,YF (ci g l rs).2.1,num (((ci g l rs).2.2:Nat):Int)]/\A.le A1/\A1.wf):=by
 refine bi (e:=[(0,.agg #[num (g),u,rv])]) (args:=[.agg #[num (g),u,rv]]) call28 func28 Z results28 ntmps28 Z Z Z (fun wf=>?_);have aC:=AH.le.refl A;refine ak.sq fun h2=>.region<|.m (fun aA=>d8 wf rfl rfl fun A5 b4 a4=>?_);have a9:=aC.trans a4.le;refine aA<|.I Z<|.m (fun aB=>bZ a4.wf tk rfl fun A10 b9 X=>?_);have a2:=aX wf (Xj a9.n X.lo);have a7:=X.le.g a4.get;have D:=a9.trans X.le;refine aB<|.I Z<|.nil<|h2<|.sq fun ap=>.sq fun ar=>.region<|.p (am ei dE Z Z a7 Z)<|.m (fun aa=>aq Z (ld ((g)) u l rv rs A10 hn hm (hL.le D) (hu.le D) (hr.le D) (hp.le D)) ?_);rintro aE A20 ⟨rfl,V,a5⟩;have av:=V.g a7;have a8:=V.g X.get;have h:=D.trans V;refine aa<|.p (eD Z)<|.nil<|ar<|.ifB Z (fun aD=>?_) (fun aD=>?_)
 ·refine ak.sq fun ay=>.region<|.p (cx Z (bg QY tk vI Z))<|.I Z<|.m (fun ab=>aW (cs:=[num ((0:Nat):Int),num ((0:Nat):Int),ax ([]),ax ([]),ax ([])]) (c':=[num ((0:Nat):Int),num ((0:Nat):Int),ax ([]),ax ([]),ax ([])]) a5 rfl rfl rfl rfl gy a8 G rfl rfl fun A29 a0=>?_);have ag:=al h wf a2 a0.n a0.keep;refine ab<|.I Z<|.nil<|ay<|.rt (by exact aH (dA Z (df rd gy Z a0.get Z (dA Z d5))) (⟨by (rw [sc ‹_›];rfl),ag,a0.wf⟩))
 refine ak.skip<|ap<|.sq fun az=>.region<|.p (am ei dE Z Z av Z)<|.m (fun ac=>aq Z (aaj ((g)) u l rv rs A20 (by simpa using ‹(!bI g l rs)=false›) (hmx (by simpa using ‹(!bI g l rs)=false›)) (hL.le h) (hu.le h) (hr.le h) (hp.le h)) ?_);rintro aF A37 ⟨rfl,a3,a6⟩;refine ac<|.p (aQ Z Z)<|.p (aQ Z Z)<|.p (aQ Z Z)<|.I Z<|.m (fun ad=>aW (cs:=[num ((fZ rs (aM ((g)) rs)).2.1.i),num ((fZ rs (aM ((g)) rs)).2.1.j),ax ((fZ rs (aM ((g)) rs)).2.1.word),ax ((fZ rs (aM ((g)) rs)).2.1.u),ax ((fZ rs (aM ((g)) rs)).2.1.v)]) (c':=[num ((fZ rs (aM ((g)) rs)).2.1.i),num ((fZ rs (aM ((g)) rs)).2.1.j),ax ((fZ rs (aM ((g)) rs)).2.1.word),ax ((fZ rs (aM ((g)) rs)).2.1.u),ax ((fZ rs (aM ((g)) rs)).2.1.v)]) a6 rfl rfl rfl rfl gy (a3.g a8) G rfl rfl fun A43 a1=>?_);have ai:=al (h.trans a3) wf a2 a1.n a1.keep;refine ad<|.I Z<|.nil<|az<|.rt (by exact aH (dA Z (df rd gy Z a1.get Z (dA Z d5))) (⟨by (rw [iq ‹_›];rfl),ai,a1.wf⟩))
theorem Z6 (g:Int) (u:Value) (l:List W8) (rv:Value) (rs:List an) (A:AH) (hn:l.length<=9223372036854775807) (hm:rs.length<=9223372036854775807) (hmx:bI g l rs=true->(aM g rs).length<=50000) (hL:ib A) (hu:bJ A 1 u (dN l)) (hr:bJ A 3 rv (cd rs)) (hp:Proofs A rs):bH prog 30 #[.agg #[num (g),u,rv]] A (fun v A1=>v=.tuple #[.bool (pW g l rs).1,num (((pW g l rs).2:Nat):Int)]/\A.le A1/\A1.wf):=by
 refine bi (e:=[(0,.agg #[num (g),u,rv])]) (args:=[.agg #[num (g),u,rv]]) call30 func30 Z results30 ntmps30 Z Z Z (fun wf=>?_);have cA:=AH.le.refl A;refine ak.sq fun h2=>.region<|.m (fun cu=>d8 wf rfl rfl fun A5 b4 b1=>?_);have ab:=cA.trans b1.le;refine cu<|.I Z<|.I Z<|.nil<|h2<|.sq fun h9=>.region<|.p (am ei dE Z Z b1.get Z)<|.m (fun br=>aq Z (uV ((g)) u l rv rs A5 hn hm hmx (hL.le ab) (hu.le ab) (hr.le ab) (hp.le ab)) ?_);rintro dd A12 ⟨rfl,ag,av⟩;have b9:=ag.g b1.get;have aY:=ab.trans ag;refine br<|.J Z<|.p (aQ Z Z)<|.p (aQ Z Z)<|.p (aQ Z Z)<|.m (fun bu=>bZ av tk rfl fun A18 bM a3=>?_);refine bu<|.I Z<|.m (fun bv=>aW (cs:=[num ((ci ((g)) l rs).2.1.i),num ((ci ((g)) l rs).2.1.j),ax ((ci ((g)) l rs).2.1.word),ax ((ci ((g)) l rs).2.1.u),ax ((ci ((g)) l rs).2.1.v)]) (c':=[num ((ci ((g)) l rs).2.1.i),num ((ci ((g)) l rs).2.1.j),ax ((ci ((g)) l rs).2.1.word),ax ((ci ((g)) l rs).2.1.u),ax ((ci ((g)) l rs).2.1.v)]) a3.wf rfl rfl rfl rfl gy a3.get G rfl rfl fun A23 a5=>?_);have aR:=a5.k (ne_new av b9 a3.lo) (a3.le.g b9);have a2:=al (aY.trans a3.le) wf (aX wf (Xj aY.n a3.lo)) a5.n a5.keep;refine bv<|.I Z<|.nil<|h9<|.sq fun bR=>.sq fun bS=>.region<|.J Z<|.p (eB (b:=0) Z Z)<|.nil ?_;refine bS<|.if rfl (fun cB=>?_) (fun cB=>?_)
 ·refine ak.sq fun bT=>.region<|.J Z<|.I Z<|.I Z<|.nil<|bT<|.rt (by exact aH Z (⟨by (rw [SO ‹_›];rfl),a2,a5.wf⟩))
 refine ak.skip<|bR<|.sq fun bU=>.region<|.p (am ei dE Z Z aR Z)<|.m (fun bA=>aq Z (ol ((g)) u l rv rs A23 (sI (kQ ‹_›)) (vc (kQ ‹_›)) (hu.le a2) (hr.le a2) (hp.le a2)) ?_);rintro di A38 ⟨h,ar,rfl,ai,ay,a7,a0,a9,b5⟩;have aZ:=a2.trans ai;have hrow:=a7;have hno:=a0;have hix:=a9;have hM:=b5;have b7:b4 ≠ h:=fun z=>by have q0:=aR;rw [z,a0] at q0;cases q0
 have b3:bM ≠ h:=fun z=>by have q0:=a5.get;rw [z,a0] at q0;cases q0
 have aI:=sw a2 a0;refine bA<|.I Z<|.nil<|bU<|.sq fun bV=>.region<|.I Z<|.nil<|bV<|.sq fun bY=>?_;refine ak.sq fun c3=>.region<|.p (ae gi ik U Z)<|.p (ae gv mH U Z)<|.p (ah mr Z Z (ai.g aR) Z)<|.p (bE (n:=l.length) mp Z (hu.le aZ) O (eP _))<|.J Z<|.nil<|c3<|.block ?_;refine ak.loop (X:=Nat × Bool × Value × Value × Value × Value × Value × Value) (fun ⟨i,t,y0,y5,y6,y7,y8,y9⟩=>[(4,.bool ((ci ((g)) l rs).1)),(7,.pointer (some ⟨h,0,none⟩)),(8,.bool (t)),(26,u),(27,num ((l.length:Nat):Int)),(28,num ((i:Nat):Int))]) (fun ⟨i,t,y0,y5,y6,y7,y8,y9⟩ B=>(i<=l.length/\om rs t (l.drop i)=om rs true l)/\A.le B/\B.get h=some (.row true [y0,num ((g)),u,rv,.map (some ar),y5,y6,y7,y8,y9] 10)/\(A38.hide [some h]).le B) (fun ⟨i,t,y0,y5,y6,y7,y8,y9⟩=>l.length - i) (⟨0,true,.slice none 0 0,.slice none 0 0,num ((0:Nat):Int),ax ([]),num ((0:Nat):Int),.slice none 0 0⟩) (ya Z Z Z Z Z Z) (⟨⟨XK _,Z⟩,aZ,a7,(c6 A38 [some h])⟩) ?_;rintro ⟨i,t,y0,y5,y6,y7,y8,y9⟩ B50 ⟨⟨hi,hsc⟩,a8,aa,b6⟩;refine ak.wf fun ad=>.sq fun c4=>.region<|.p (ca Z Z)<|.nil<|c4<|.sq fun c7=>.if rfl (fun cC=>?_) (fun cC=>?_)
 ·refine ak.skip<|c7<|.sq fun ba=>.block<|.sq fun cb=>.region ?_;obtain ⟨cX,d0,cV,d3,cU,d2,d1,bO,cv,bP,cS,bm⟩:=bJ.at (i:=i) (hu.le a8) Oj O;refine Ops.p (au mp ek Z bO Z cv)<|.p (ah eJ Z Z bP ((dt bm).trans (fz O)))<|.I Z<|.nil<|cb<|.sq fun cc=>.region<|.J Z<|.J Z ?_;have a4:=cz (bs:=[some h]) a8 (xe aI qX);have aS:=cz (bs:=[some h]) b6 (xe (cQ (by simp)) qX);refine Ops.m (fun bB=>aq Z (u6 (l.getD i []) rs l h (((g))) u rv ar y0 y5 y6 y7 y8 y9 (B50.hide [some h]) B50 (c6 B50 [some h]) (cI ad) aa (cQ (by simp)) (kQ ‹_›) (hL.le a4) (hr.le a4) (hp.le a4) (a9.le aS)) ?_);rintro dj A66 ⟨cP,aA,aB,aC,aD,aE,aF,rfl,ap,az,a1,aG,b2⟩;have aT:=aS.trans ap;have b0:=a4.trans ap;refine bB<|.J Z<|.p (aQ Z Z)<|.p (aQ Z Z)<|.m (fun bC=>bZ az s8 rfl fun A75 cZ D=>?_);have a6:=ne_new az a1 D.lo;have aP:=aX (cI ay) (Xj aT.n D.lo);have bp:=(aG.base a4).le D.le;refine bC ?_;obtain ⟨bl,bd,b8,cK,_⟩:=bp.own.slice;subst cK;refine Ops.m (fun bD=>aW (cs:=[ax ((da (cG rs (l.getD i []))).word),num (((da (cG rs (l.getD i []))).steps:Nat):Int),.slice bl bd b8]) (c':=[ax ((da (cG rs (l.getD i []))).word),num (((da (cG rs (l.getD i []))).steps:Nat):Int),.slice bl bd b8]) D.wf rfl rfl rfl rfl eW D.get G rfl rfl fun A84 V=>?_);have bb:=V.k a6 (D.le.g a1);have aV:=al (aT.trans D.le) (cI ay) aP V.n V.keep;have ac:=al (b0.trans D.le) wf (aX wf (Xj b0.n D.lo)) V.n V.keep;refine bD<|.I Z<|.nil<|cc<|.sq fun cf=>.sq fun ch=>.region<|.J Z<|.p (eD Z)<|.nil ?_;refine ch<|.ifB Z (fun cF=>?_) (fun cF=>?_)
  ·refine ak.sq fun ck=>.region<|.I Z<|.I Z<|.nil<|ck<|.rt (by exact aH Z (⟨by (rw [SU ‹_› (QH O hsc ‹_›)];rfl),ac,V.wf⟩))
  refine ak.skip<|cf<|.region<|.J Z<|.J Z<|.partB (t:=41) Z (fun cH=>?_) (fun cH=>?_)
  ·refine Ops.on Z Z<|.p (ae jT ek U Z)<|.on Z Z<|.p (ah eJ Z Z V.get Z)<|.on Z Z<|.p (ng Z Z)<|.p (aL Z Z)<|.I Z<|.nil<|ba ?_;refine ak.region<|.p (bF (b:=1) Z Z O)<|.J Z<|.nil ?_;exact ⟨⟨i + 1,decide ((da (cG rs (l.getD i []))).word=[]),aA,aB,aC,aD,aE,aF⟩,ya Z Z Z Z Z Z,Z,⟨⟨by omega,by have:=yZ O hsc ‹_›;simp_all⟩,ac,bb,aV⟩,O1⟩
  refine Ops.off Z Z Z Z<|.off Z Z Z Z<|.off Z Z Z Z<|.p (bh Z Z)<|.I Z<|.nil<|ba<|.region<|.p (bF (b:=1) Z Z O)<|.J Z ?_;refine Ops.nil ?_;exact ⟨⟨i + 1,false,aA,aB,aC,aD,aE,aF⟩,ya Z Z Z Z Z Z,Z,⟨⟨by omega,by have:=yZ O hsc ‹_›;simp_all⟩,ac,bb,aV⟩,O1⟩
 refine ak.exit<|bY<|.sq fun bc=>.region<|.J Z<|.J Z<|.partB (t:=48) Z (fun bL=>?_) (fun bL=>?_)
 ·refine Ops.on Z Z<|.J Z<|.p (aL Z Z)<|.I Z<|.I Z<|.nil<|bc<|.rt (by exact aH Z (⟨by (rw [Fc ‹_› (BF O hsc)];simp_all [ej]),a8,ad⟩))
 refine Ops.off Z Z Z Z<|.p (bh Z Z)<|.I Z<|.I Z<|.nil<|bc<|.rt (by exact aH Z (⟨by (rw [Fc ‹_› (BF O hsc)];simp_all [ej]),a8,ad⟩))
def fh (l:List Value):List Value:=l
theorem cJ (l:List Value):(fh l).length=l.length:=rfl
theorem jJ (l:List Value):(fh l).length=l.length * 1:=by simp [fh]
theorem fP {l:List Value} {i:Nat} (h:i < l.length):(fh l)[i]? = some (l.getD i undef):=by simp [fh,h]
theorem rH (a b:List Value):fh a ++ fh b=fh (a ++ b):=rfl
theorem VH (a:List Value) (n:Nat) (c:Value):(fh a).set n c=fh (a.set n c):=rfl
structure ia {α:Type} (kk:Nat) (f:List α->List Value) (A0 A:AH) (rows:List Value) (L:List (List α)):Prop where
  len:rows.length=L.length
  fr:∀ i,i < L.length->Fresh A0 A (rows.getD i undef) kk (f (L.getD i []))
  sp:∀ i j,i < L.length->j < L.length->i ≠ j->bx (rows.getD i undef) (rows.getD j undef)
abbrev mq (A0 A:AH) (rows:List Value) (L:List (List Int)):Prop:=ia 1 dy A0 A rows L
def dn (rows:List Value) (b:Nat):Prop:=∀ r ∈ rows,blk r ≠ some b
def be (v:Value) (rows:List Value):Prop:=∀ r ∈ rows,bx v r
theorem oH {A0 A:AH} {rows:List Value} {L L':List (List Int)} (h:mq A0 A rows L) (e:L=L'):mq A0 A rows L':=e ▸ h
theorem _root_.Go.Proofs.YtjppkekmddjcfaaGreatDoor.V.Fresh.at1 {A0 A:AH} {v:Value} {xs:List Value} {x:Nat} (fr:Fresh A0 A v 1 xs) (hx:x < xs.length):∃ b n c r rcap,v=.slice (some ⟨b,0,none⟩) n c/\n=xs.length/\A.get b=some (.row true r rcap)/\x < r.length/\A0.get b=none/\r.take n=xs /\
    ∀ (w:Value) A1,sL A A1 b (.row true (r.set x w) rcap)->Fresh A0 A1 v 1 (xs.set x w):=by
  obtain ⟨b,n,c,e,h1,h2⟩:=fr.nonnil (by intro q;rw [q] at hx;simp at hx)
  have lo:=fr.lo b (by rw [e];rfl)
  subst e
  obtain ⟨r,rcap,g,h3,h4⟩:=fr.row
  rw [TK] at h1 h3
  have hl:n<=r.length:=by have:=Xk List.length h3;rw [XZ] at this;omega
  exact ⟨b,n,c,r,rcap,rfl,h1,g,by omega,lo,h3,fun w A1 sb=>fr.setc g sb⟩
section
variable {A0 A A1:AH} {rows:List Value} {α:Type} {kk:Nat} {f:List α->List Value} {L:List (List α)} {b s x:Nat} {v v':Value} {size:Nat} {xs:List Value} {r:List α} {o:fB}
theorem nr {p:Value->Prop} (hl:rows.length=L.length) (h:∀ i,i < L.length->p (rows.getD i undef)):∀ r ∈ rows,p r:=fun r hr=>by
  obtain ⟨i,hi,rfl⟩:=VQ hr
  have:=h i O
  simpa [hi] using this
theorem eI {p:Value->Prop} (h:∀ r ∈ rows,p r) (hi:s < rows.length):p (rows.getD s undef):=h _ (bj (d:=undef) hi)
theorem ia.nil:ia kk f A0 A [] []:=⟨rfl,(fun _ h=>by cases h),(fun _ _ h=>by cases h)⟩
theorem ia.le (h:ia kk f A0 A rows L) (le:A.le A1):ia kk f A0 A1 rows L:=⟨h.len,fun i hi=>(h.fr i hi).le le,h.sp⟩
theorem ia.base {M:AH} (h:ia kk f M A rows L) (le:A0.le M):ia kk f A0 A rows L:=⟨h.len,fun i hi=>(h.fr i hi).base le,h.sp⟩
theorem ia.keep (h:ia kk f A0 A rows L) (k:∀ b' o,b' ≠ b->A.get b'=some o->A1.get b'=some o) (n:dn rows b):ia kk f A0 A1 rows L :=
  ⟨h.len,fun i hi=>(h.fr i hi).keep k (eI n (by rw [h.len];exact hi)),h.sp⟩
theorem ia.appd {zs:List Value} {n:Nat} (h:ia kk f A0 A rows L) (ap:ot A v n zs v' A1) (hs:be v rows):ia kk f A0 A1 rows L :=
  ⟨h.len,fun i hi=>(h.fr i hi).appd ap (eI hs (by rw [h.len];exact hi)),h.sp⟩
theorem be.nil:be (.slice none 0 0) rows:=fun _ _=>bx.nil
theorem be.empty:be v []:=fun _ h=>by cases h
theorem be.appd {zs:List Value} {n:Nat} (hs:be v rows) (h:ia kk f A0 A rows L) (wf:A.wf) (ap:ot A v n zs v' A1):be v' rows :=
  nr h.len fun i hi=>bx.appd (eI hs (by rw [h.len];exact hi)) (h.fr i hi).own wf ap
theorem be.new {n c:Nat} (h:dn rows b):be (.slice (some ⟨b,0,none⟩) n c) rows:=fun r hr k hk hq=>by cases hk;exact h r hr hq
theorem be.fresh {n:Nat} (h:ia kk f A0 A rows L) (fr:Fresh A A1 v n xs):be v rows:=nr h.len fun i hi c hv hc=>by
  obtain ⟨o,ho⟩:=(h.fr i hi).own.blkget hc
  rw [fr.lo c hv] at ho;cases ho
theorem ia.ne_new (h:ia kk f A0 A rows L) (wf:A.wf) (hb:A.n<=b):dn rows b:=nr h.len fun i hi=>(h.fr i hi).own.ne_new wf hb
theorem ia.ne (h:ia kk f A0 A rows L) (hb:A0.get b=some o):dn rows b:=nr h.len fun i hi=>(h.fr i hi).seph hb
theorem dn.snoc (h:dn rows b) (hv:V.blk v ≠ some b):dn (rows ++ [v]) b:=fun r hr=>by
  rcases Vw.1 hr with q | q
  · exact h r q
  · rw [Vk] at q;subst q;exact hv
theorem be.snoc {u:Value} (h:be u rows) (hv:bx u v):be u (rows ++ [v]):=fun r hr=>by
  rcases Vw.1 hr with q | q
  · exact h r q
  · rw [Vk] at q;subst q;exact hv
theorem ia.snoc (h:ia kk f A0 A rows L) (fr:Fresh A0 A v kk (f r)) (hs:be v rows):ia kk f A0 A (rows ++ [v]) (L ++ [r]):=by
  have e1:∀ i,i < L.length->(rows ++ [v]).getD i undef=rows.getD i undef:=fun i hi=>by simp [Tv (show i < rows.length by rw [h.len];exact hi)]
  have e2:(rows ++ [v]).getD L.length undef=v:=by rw [<- h.len];simp
  have e3:∀ i,i < L.length->(L ++ [r]).getD i []=L.getD i []:=fun i hi=>by simp [Tv hi]
  have e4:(L ++ [r]).getD L.length []=r:=by simp
  refine ⟨by simp [h.len],fun i hi=>?_,fun i j hi hj hij=>?_⟩
  · rcases VY i L.length with q | q
    · rw [e1 i q,e3 i q];exact h.fr i q
    · obtain rfl:i=L.length:=by simp at hi;omega
      rw [e2,e4];exact fr
  · rcases VY i L.length with q | q
    · rcases VY j L.length with q2 | q2
      · rw [e1 i q,e1 j q2];exact h.sp i j q q2 hij
      · obtain rfl:j=L.length:=by simp at hj;omega
        rw [e1 i q,e2];exact (eI hs (by rw [h.len];exact q)).symm
    · obtain rfl:i=L.length:=by simp at hi;omega
      rcases VY j L.length with q2 | q2
      · rw [e2,e1 j q2];exact eI hs (by rw [h.len];exact q2)
      · obtain rfl:j=L.length:=by simp at hj;omega
        exact absurd Z hij
theorem ia.hideAll {l:List (Option Nat)} (h:ia kk f A0 A rows L):ia kk f (A.hide (l ++ rows.map V.blk)) A rows L :=
  ⟨h.len,fun i hi=>(h.fr i hi).hide (Vw.2 (.inr (Vj.2 ⟨_,bj (d:=undef) (by rw [h.len];exact hi),rfl⟩))),h.sp⟩
theorem JF {l:List (Option Nat)} (t:∀ b,some b ∈ l->A0.get b=none) (h:ia kk f A0 A rows L):∀ b,some b ∈ l ++ rows.map V.blk->A0.get b=none:=fun b hb=>by
  rcases Vw.1 hb with q | q
  · exact t b q
  · obtain ⟨r,hr,e⟩:=Vj.1 q
    exact nr (p:=fun r=>∀ b,V.blk r=some b->A0.get b=none) h.len (fun i hi=>(h.fr i hi).lo) r hr b e
theorem DB {l:List (Option Nat)} {k:Nat} (t:some k ∉ l) (h:dn rows k):some k ∉ l ++ rows.map V.blk:=fun hb=>by
  rcases Vw.1 hb with q | q
  · exact t q
  · obtain ⟨r,hr,e⟩:=Vj.1 q
    exact h r hr e
theorem n8 {l:List (Option Nat)} {u:Value} (t:Lj u l) (h:be u rows):Lj u (l ++ rows.map V.blk):=fun c hc hb=>by
  rcases Vw.1 hb with q | q
  · exact t c hc q
  · obtain ⟨r,hr,e⟩:=Vj.1 q
    exact h r hr c hc e
theorem ia.sepOff {bs:List (Option Nat)} {u:Value} {n:Nat} (h:ia kk f (A.hide bs) A1 rows L) (hu:qW A u n xs) (o:Lj u bs):be u rows:=nr h.len fun i hi=>((h.fr i hi).sep hu o).symm
theorem ia.off {bs:List (Option Nat)} (h:ia kk f A0 A rows L) (o:∀ r ∈ rows,Lj r bs) (le:(A.hide bs).le A1):ia kk f A0 A1 rows L :=
  ⟨h.len,fun i hi=>(h.fr i hi).off (eI o (by rw [h.len];exact hi)) le,h.sp⟩
theorem ia.sepNew {bs:List (Option Nat)} {u:Value} {n:Nat} (h:ia kk f A0 A rows L) (fr:Fresh (A.hide bs) A1 u n xs) (o:∀ r ∈ rows,Lj r bs):be u rows:=nr h.len fun i hi=>fr.sep (h.fr i hi).own (eI o (by rw [h.len];exact hi))
theorem Oo {k i:Nat} (h:i < k):(List.replicate i (-1:Int) ++ List.replicate (k - i) 0).set i (-1)=List.replicate (i + 1) (-1) ++ List.replicate (k - (i + 1)) 0:=by
  rw [RZ _ _ (by simp),Rk,Nat.sub_self,show k - i=(k - (i + 1)) + 1 by omega,List.replicate_succ,List.set_cons_zero,List.replicate_succ' (n:=i)]
  simp
theorem uJ {α β:Type} (f:α->β) {l:List α} {i:Nat} {z:α} (h:i < l.length):(l.take i).map f ++ [f (l.getD i z)]=(l.take (i + 1)).map f:=by
  rw [<- gz (z:=z) h,VJ];rfl
theorem fa {α:Type} {l:List α} {i j:Nat} {a d:α} (hi:i < l.length):(l.set i a).getD j d=if j=i then a else l.getD j d:=by
  simp only [Vq,List.getElem?_set]
  by_cases h:i=j
  · subst h;simp [hi]
  · rw [Xy h,Xy (fun q=>h q.symm)]
theorem IL {n:Nat} {u:Value}:be u (List.replicate n (.slice none 0 0)):=fun r hr=>by rw [(List.mem_replicate.1 hr).2];exact bx.nil.symm
theorem Zg {r:Value} (h:r ∈ rows.set s v):r ∈ rows\/r=v:=List.mem_or_eq_of_mem_set h
theorem Kw {u:Value} (h:be u rows) (hv:bx u v):be u (rows.set s v):=fun r hr=>by
  rcases Zg hr with q | q
  · exact h r q
  · subst q;exact hv
end
section
variable {A0 A A1:AH} {rows:List Value} {L:List (List Int)} {b s x:Nat} {v v':Value} {size:Nat} {xs:List Value} {r:List Int} {o:fB}
theorem ia.nils {n:Nat}:mq A0 A (List.replicate n (.slice none 0 0)) (List.replicate n []):=by
  have e:∀ i,i < n->(List.replicate n (Value.slice none 0 0)).getD i undef=.slice none 0 0:=fun i hi=>by simp [hi]
  refine ⟨by simp,fun i hi=>?_,fun i j hi hj _=>?_⟩
  · rw [Rk] at hi
    rw [e i hi,show (List.replicate n ([]:List Int)).getD i []=[] by simp [hi]]
    exact Fresh.nil _ _ _
  · rw [Rk] at hi
    rw [e i hi];exact bx.nil
theorem ia.appRow {y:List Int} (h:mq A0 A rows L) (wf:A.wf) (hs:s < L.length) (ap:ot A (rows.getD s undef) 1 (dy y) v A1) (fr:Fresh A0 A1 v 1 (dy y)):mq A0 A1 (rows.set s v) (L.set s y):=by
  have hsr:s < rows.length:=by rw [h.len];exact hs
  refine ⟨by simp [h.len],fun i hi=>?_,fun i j hi hj hij=>?_⟩
  · rw [fa hsr,fa hs]
    rw [SK] at hi
    split
    · exact fr
    · rename_i q;exact (h.fr i hi).appd ap (h.sp s i hs hi (fun z=>q z.symm))
  · rw [SK] at hi hj
    rw [fa hsr,fa hsr]
    have key:∀ i,i < L.length->i ≠ s->bx v (rows.getD i undef):=fun i hi q=>bx.appd (h.sp s i hs hi (fun z=>q z.symm)) (h.fr i hi).own wf ap
    by_cases q1:i=s
    · rw [XX q1,Xy (fun z=>hij (q1.trans z.symm))]
      exact key j hj (fun z=>hij (q1.trans z.symm))
    · rw [Xy q1]
      by_cases q2:j=s
      · rw [XX q2];exact (key i hi q1).symm
      · rw [Xy q2];exact h.sp i j hi hj hij
theorem ia.at (h:mq A0 A rows L) (hs:s < L.length) (hx:x < (L.getD s []).length):∃ b n c r rcap,rows.getD s undef=.slice (some ⟨b,0,none⟩) n c/\n=(L.getD s []).length/\A.get b=some (.row true r rcap)/\x < r.length/\A0.get b=none/\r.take n=dy (L.getD s []) /\
    ∀ (i:Int) A1,sL A A1 b (.row true (r.set x (num i)) rcap)->mq A0 A1 rows (L.set s ((L.getD s []).set x i)):=by
  have fr:=h.fr s hs
  obtain ⟨b,n,c,e,h1,h2⟩:=fr.nonnil (by intro q;have:=Xk List.length q;rw [aJ,Xz] at this;omega)
  have lo:=fr.lo b (by rw [e];rfl)
  have fr':=fr
  rw [e] at fr'
  obtain ⟨r,rcap,g,h3,h4⟩:=fr'.row
  rw [TK,aJ] at h1
  rw [TK] at h3
  have hl:n<=r.length:=by have:=Xk List.length h3;rw [XZ,aJ] at this;omega
  refine ⟨b,n,c,r,rcap,e,h1,g,by omega,lo,h3,fun i A1 sb=>⟨by simpa using h.len,fun j hj=>?_,fun j k hj hk=>h.sp j k (by simpa using hj) (by simpa using hk)⟩⟩
  rw [fa hs]
  by_cases q:j=s
  · subst q
    rw [XX Z,e]
    have:=fr'.setc (w:=num i) (i:=x) g sb
    rwa [ji] at this
  · rw [Xy q]
    have hj':j < L.length:=by simpa using hj
    exact (h.fr j hj').keep sb.keep (fun z=>h.sp s j hs hj' (fun w=>q w.symm) b (by rw [e];rfl) z)
end
theorem mq.len {A0 A:AH} {rows:List Value} {L:List (List Int)} (h:mq A0 A rows L):rows.length=L.length:=ia.len h
theorem mq.nil {A0 A:AH}:mq A0 A [] []:=ia.nil
theorem mq.nils {A0 A:AH} {n:Nat}:mq A0 A (List.replicate n (.slice none 0 0)) (List.replicate n []):=ia.nils
structure Jb (k:Nat) (L:List (List Int)) (E:List Bool):Prop where
  len:E.length=L.length
  row:∀ s,s < L.length->(L.getD s []).length=k
  val:∀ s x,s < L.length->x < k->-1<=(L.getD s []).getD x 0/\(L.getD s []).getD x 0 < L.length
abbrev Jd (k:Nat):List Int:=List.replicate k (-1)
abbrev grow (k:Nat) (L:List (List Int)) (s x:Nat):List (List Int):=(L ++ [Jd k]).set s (((L ++ [Jd k]).getD s []).set x (L.length:Int))
def IQ (k:Nat) (t:List (List Int) × List Bool × Nat) (x:Int):List (List Int) × List Bool × Nat :=
  if (t.1.getD t.2.2 []).getD x.toNat 0 < 0 then (grow k t.1 t.2.2 x.toNat,t.2.1 ++ [false],t.1.length) else (t.1,t.2.1,((t.1.getD t.2.2 []).getD x.toNat 0).toNat)
def ql (k:Nat) (L:List (List Int)) (E:List Bool) (xs:List Int):List (List Int) × List Bool × Nat:=xs.foldl (IQ k) (L,E,0)
def zx (k:Nat) (L:List (List Int)) (E:List Bool) (w:Wd):List (List Int):=(ql k L E (w.map ix)).1
def zw (k:Nat) (L:List (List Int)) (E:List Bool) (w:Wd):List Bool:=(ql k L E (w.map ix)).2.1.set (ql k L E (w.map ix)).2.2 true
section
variable {k s x i:Nat} {L L1:List (List Int)} {E E1:List Bool} {xs:List Int} {d:Int}
theorem lu {α:Type} {l m:List α} {i:Nat} {z:α} (h:i < l.length):(l ++ m).getD i z=l.getD i z:=by simp [Tv h]
theorem kr:(grow k L s x).length=L.length + 1:=by simp
theorem xd (h:Jb k L E) (hs:s < L.length) (hx:x < k) {j y:Nat} (hj:j < L.length + 1):(grow k L s x).getD j []=if j=s then (L.getD s []).set x L.length else if j < L.length then L.getD j [] else Jd k:=by
  rw [grow,fa Oi,lu hs]
  by_cases h1:j=s
  · rw [XX h1,XX h1]
  · rw [Xy h1,Xy h1]
    by_cases h2:j < L.length
    · rw [XX h2,lu h2]
    · rw [Xy h2,show j=L.length by omega];simp
theorem CZ (h:Jb k L E) (hs:s < L.length) (hx:x < k):Jb k (grow k L s x) (E ++ [false]):=by
  refine ⟨by rw [kr];simp [h.len],fun j hj=>?_,fun j y hj hy=>?_⟩
  · rw [kr] at hj
    rw [xd (y:=0) h hs hx hj]
    split
    · rw [SK];exact h.row s hs
    · split
      · exact h.row j ‹_›
      · exact Rk
  · rw [kr] at hj
    rw [xd (y:=0) h hs hx hj,kr]
    have h0:=h.row s hs
    split
    · rw [fa (by rw [h0];exact hx)]
      split
      · omega
      · have:=h.val s y hs hy;omega
    · split
      · have:=h.val j y ‹_› hy;omega
      · have:(Jd k).getD y 0 = -1:=by simp [hy]
        rw [this];omega
theorem TU (h:Jb k L E) (hs:s < L.length) (hx:x < k):((grow k L s x).getD s []).getD x 0=(L.length:Int):=by
  rw [xd (y:=0) h hs hx O,XX Z,fa (by rw [h.row s hs];exact hx),XX Z]
theorem Be {t:List (List Int) × List Bool × Nat} (hi:i < xs.length) (h:ql k L E (xs.take i)=t):ql k L E (xs.take (i + 1))=IQ k t (xs.getD i 0):=by
  rw [<- gz (z:=0) hi,ql,SZ]
  show IQ k (ql k L E (xs.take i)) _=_
  rw [h]
theorem Il (hi:i < xs.length) (h:ql k L E (xs.take i)=(L1,E1,s)) (q:(L1.getD s []).getD (xs.getD i 0).toNat 0 < 0):ql k L E (xs.take (i + 1))=(grow k L1 s (xs.getD i 0).toNat,E1 ++ [false],L1.length):=by
  rw [Be hi h,IQ,XX q]
theorem Im (hi:i < xs.length) (h:ql k L E (xs.take i)=(L1,E1,s)) (q:¬ (L1.getD s []).getD (xs.getD i 0).toNat 0 < 0):ql k L E (xs.take (i + 1))=(L1,E1,((L1.getD s []).getD (xs.getD i 0).toNat 0).toNat):=by
  rw [Be hi h,IQ,Xy q]
theorem Jb.start (k:Nat):Jb k [Jd k] [false]:=⟨rfl,fun s hs=>by
    obtain rfl:s=0:=by simp at hs;omega
    simp,fun s x hs hx=>by
    obtain rfl:s=0:=by simp at hs;omega
    simp [hx]⟩
end
theorem jr:ef prog 59=some false:=by kernel_rfl
theorem ln:ef prog 60=some false:=by kernel_rfl
theorem nI:ef prog 67=some false:=by kernel_rfl
theorem jO:eO prog 119 0=some (60,0):=by kernel_rfl
theorem nZ:eO prog 119 1=some (59,1):=by kernel_rfl
theorem Uj:prog.info? 4=some Tryz.t4:=by kernel_rfl
theorem LQ:prog.info? 67=some Tryz.t67:=by kernel_rfl
theorem jt:dY prog 59=some 1:=by kernel_rfl
theorem jM:dY prog 60=some 1:=by kernel_rfl
theorem gU:dY prog 67=some 1:=by kernel_rfl
theorem nA:type_of% @underlying59:=@underlying59
theorem qq:type_of% @underlying60:=@underlying60
theorem Qs (w:W8) (A:AH) (hL:ib A) (hw:w.length<=1000000):bH prog 115 #[ax (w)] A (fun v A1=>A.le A1/\A1.wf/\Fresh A A1 v 1 (dy (w.map ix))):=by
 refine bi (e:=[(0,ax (w))]) (args:=[ax (w)]) call115 func115 Z results115 ntmps115 Z Z Z (fun wf=>?_);have ag:=AH.le.refl A;refine ak.sq fun h2=>.region<|.I Z<|.nil<|h2<|.sq fun h4=>.region<|.I Z<|.nil<|h4 ?_;refine ak.sq fun h6=>.sq fun h8=>.region<|.J Z<|.p (cN u9 Z)<|.J Z<|.nil<|h8<|.block<|.loop (X:=Nat × List Int × Value) (fun ⟨i,o,s⟩=>[(0,ax (w)),(3,s),(6,num ((w.length:Nat):Int)),(7,num ((i:Nat):Int))]) (fun ⟨i,o,s⟩ B=>(i<=w.length/\o=(w.take i).map ix)/\A.le B/\Fresh A B s 1 (dy o)) (fun ⟨i,o,s⟩=>w.length - i) (⟨0,[],.slice none 0 0⟩) (jC Z Z Z Z) (⟨⟨XK _,by simp⟩,ag,(Fresh.nil A A 1)⟩) ?_;rintro ⟨i,o,s⟩ B10 ⟨⟨hi,ho⟩,a2,V⟩;refine ak.wf fun a3=>?_;have hlo:o.length=i:=by rw [ho];simp;omega
 refine ak.sq fun a9=>.region<|.p (ca Z Z)<|.nil<|a9<|.sq fun aa=>.if rfl (fun ai=>?_) (fun ai=>?_)
 ·refine ak.skip<|aa<|.sq fun ab=>.block<|.sq fun ac=>.region<|.J Z<|.I Z<|.nil<|ac ?_;refine ak.region<|.J Z<|.J Z<|.J Z<|.p (nP u9 Z Z O)<|.m (fun a5=>aq Z (uX (w.getD i 0) B10 (hL.le a2)) ?_);rintro av A23 ⟨rfl,rfl⟩;refine a5<|.m (fun a6=>bf (c:=[num (ix (w.getD i 0))]) a3 rfl (aw fk dH z3 rfl U U rfl) fun A27 ar D=>?_);have a1:=V.le D.le;refine a6<|.m (fun a7=>ct (ys:=[num (ix (w.getD i 0))]) rfl rfl fk dH pd z3 rfl U fk (fun _ h=>by cases h) a1.own (bN (n:=1) D.get Z) rfl rfl (by show (_ + _) * 8<=_;simp only [aJ,Xq,Xz];(try simp only [Xx,Xq,Xz]);omega) O2 fun A33 ap a0=>?_);rw [show ([num (ix (w.getD i 0))]:List Value)=dy [ix (w.getD i 0)] from rfl,eo] at a0;obtain ⟨a4,a8⟩:=Fresh.grow a1 (a2.trans D.le) wf a0;refine a7<|.I Z<|.nil<|ab<|.region<|.p (bF (b:=1) Z Z O)<|.J Z<|.nil ?_;exact ⟨⟨i + 1,o ++ [ix (w.getD i 0)],ap⟩,jC Z Z Z Z,Z,⟨⟨by omega,by rw [ho];exact uJ ix O⟩,a8,a4⟩,O1⟩
 refine ak.exit<|h6<|.sq fun ad=>.region<|.J Z<|.I Z<|.nil<|ad<|.rt (by exact aH Z (⟨a2,a3,ce V (Xk dy (by rw [ho,VX O]))⟩))
theorem WT (k:Nat) (b:Nat) (nv ev:Value) (rows:List Value) (L:List (List Int)) (E:List Bool) (A0 A:AH) (c3:A0.le A) (aG:A0.wf) (hb:A.get b=some (.row true [nv,ev] 2)) (c4:A0.get b=none) (frn:Fresh A0 A nv 1 (fh rows)) (fre:Fresh A0 A ev 1 (cy E)) (nn:blk nv ≠ some b) (ne:blk ev ≠ some b) (sne:bx nv ev) (fm:mq A0 A rows L) (fo:dn rows b) (fsn:be nv rows) (fse:be ev rows) (hk:k<=1000/\L.length<=1000000/\E.length<=1000000):bH prog 75 #[.pointer (some ⟨b,0,none⟩),num ((k:Nat):Int)] A (fun v A1=>∃ nv2 kE rows2,v=num ((L.length:Nat):Int)/\A0.le A1/\A1.wf/\A1.get b=some (.row true [nv2,kE] 2)/\Fresh A0 A1 nv2 1 (fh rows2)/\Fresh A0 A1 kE 1 (cy (E ++ [false]))/\blk nv2 ≠ some b/\blk kE ≠ some b/\bx nv2 kE/\mq A0 A1 rows2 (L ++ [Jd k])/\dn rows2 b/\be nv2 rows2/\be kE rows2):=by
 refine bi (e:=[(0,.pointer (some ⟨b,0,none⟩)),(1,num ((k:Nat):Int))]) (args:=[.pointer (some ⟨b,0,none⟩),num ((k:Nat):Int)]) call75 func75 Z results75 ntmps75 Z Z Z (fun wf=>?_);have hrl:=fm.len;have hkr:(List.replicate k (0:Int)).length=k:=Rk;refine ak.sq fun h2=>.region<|.I Z<|.nil<|h2<|.sq fun h4=>.region<|.J Z<|.m (fun dK=>oO (n:=k) (k:=k) wf c3 rfl rfl fk dH z3 pd rfl (XV _) (by show 8 * _<=_;omega) O fun A7 b6 ar bm=>?_);rw [jh] at bm;have b3:=ne_new wf hb ar.lo;have d0:=fm.ne_new wf ar.lo;have dk:=ar.le.g hb;have ch:=frn.le ar.le;have ck:=fre.le ar.le;have c7:=fm.le ar.le;have cS:=c3.trans ar.le;have d3:=bx.of_new (n:=k) (c:=k) frn.own wf ar.lo;have dd:=bx.of_new (n:=k) (c:=k) fre.own wf ar.lo;refine dK<|.I Z<|.nil<|h4<|.sq fun dl=>.sq fun dm=>.region<|.J Z<|.p (bE (n:=(List.replicate k (0:Int)).length) fk Z bm.slc O (fy _))<|.J Z ?_;refine Ops.nil<|dm<|.block<|.loop (X:=Nat × List Int × Value) (fun ⟨i,o,r⟩=>[(0,.pointer (some ⟨b,0,none⟩)),(5,r),(10,num (((List.replicate k (0:Int)).length:Nat):Int)),(11,num ((i:Nat):Int))]) (fun ⟨i,o,r⟩ B=>(i<=k/\o=List.replicate i (-1) ++ List.replicate (k - i) 0)/\A0.le B/\Fresh A0 B r 1 (dy o)/\Fresh A0 B nv 1 (fh rows)/\Fresh A0 B ev 1 (cy E)/\B.get b=some (.row true [nv,ev] 2)/\V.blk r ≠ some b/\V.blk nv ≠ some b/\V.blk ev ≠ some b/\bx r nv/\bx r ev/\bx nv ev/\mq A0 B rows L/\dn rows b/\be r rows/\be nv rows/\be ev rows) (fun ⟨i,o,r⟩=>k - i) (⟨0,List.replicate k 0,.slice (some ⟨b6,0,none⟩) k k⟩) (jC Z Z Z Z) (⟨⟨XK _,by simp⟩,cS,bm,ch,ck,dk,(fun q=>by cases q;exact b3 Z),nn,ne,d3,dd,sne,c7,fo,(be.new d0),fsn,fse⟩) ?_;rintro ⟨i,o,r⟩ B25 ⟨⟨hi,ho⟩,bu,ag,aE,aD,ap,aa,a9,a4,a8,ac,ad,av,az,a6,a7,ai⟩;refine ak.wf fun aC=>?_;have hlo:o.length=k:=by rw [ho];simp;omega
 have hrl:=fm.len;refine ak.sq fun dv=>.region<|.p (ca Z Z)<|.nil<|dv<|.sq fun dw=>.if rfl (fun dO=>?_) (fun dO=>?_)
 ·refine ak.skip<|dw<|.sq fun dz=>.block<|.sq fun dD=>.region<|.J Z<|.I Z<|.nil<|dD ?_;refine ak.region<|.J Z<|.J Z ?_;obtain ⟨b5,e6,e5,dW,e1,aF,bY,dj,ea,dM,e7,dL⟩:=ag.at1 (x:=i) Oa;rw [aJ] at bY;refine Ops.p (au fk dH Z aF Z (by rw [bY];omega))<|.m (fun cC=>aW (off:=i) (c':=dW.set i (num (-1))) aC rfl (by simp) rfl rfl dH dj (by show i + 1<=_;omega) rfl rfl fun A38 ab=>?_);have dG:=ab.k (fun q=>aa (by rw [aF];exact Xk some q.symm)) ap;have cu:=aE.keep ab.keep (a8 b5 (by rw [aF];rfl));have cv:=aD.keep ab.keep (ac b5 (by rw [aF];rfl));have cb:=av.keep ab.keep (fun r hr=>a6 r hr b5 (by rw [aF];rfl));have ba:=dL (num (-1)) A38 ab;rw [ji] at ba;have cU:=al bu aG dM ab.n ab.keep;refine cC<|.nil<|dz<|.region<|.p (bF (b:=1) Z Z Oy)<|.J Z<|.nil ?_;exact ⟨⟨i + 1,o.set i ((-1)),r⟩,jC Z Z Z Z,Z,⟨⟨by omega,by rw [ho];exact Oo O⟩,cU,ba,cu,cv,dG,aa,a9,a4,a8,ac,ad,cb,az,a6,a7,ai⟩,O1⟩
 refine ak.exit<|dl<|.sq fun dI=>.region<|.J Z<|.J Z<|.p (du Z)<|.p (ae jO jM U Z)<|.p (ah ln Z Z ap Z)<|.J Z ?_;obtain ⟨aB,aA,ay,dS,_⟩:=ag.own.slice;subst dS;refine Ops.m (fun cF=>bf (c:=[.slice aB aA ay]) aC rfl (aw qq gU RC rfl U U rfl) fun A50 e3 D=>?_);have cX:=ne_new aC ap D.lo;have d1:=av.ne_new aC D.lo;have bV:=D.le.g ap;have bb:=ag.le D.le;have bc:=aE.le D.le;have bd:=aD.le D.le;have b8:=av.le D.le;refine cF<|.m (fun cH=>ct (ys:=[.slice aB aA ay]) rfl rfl qq gU LQ RC rfl U qq (fun _ h=>by cases h) bc.own (bN (n:=1) D.get Z) rfl rfl (by show (_ + _) * 24<=_;simp only [cJ,Xq,Xz];(try simp only [Xx,Xq,Xz]);omega) OF fun A64 e9 a1=>?_);rw [show ([.slice aB aA ay]:List Value)=fh [Value.slice aB aA ay] from rfl,rH] at a1;obtain ⟨bl,cV⟩:=Fresh.grow bc (bu.trans D.le) aG a1;have aI:=a1.ne a9 D.wf bV;have bA:=bx.appd (show bx nv ev from ad) bd.own D.wf a1;have cc:=b8.appd a1 (show be nv rows from a7);have cf:=cc.snoc (bb.appd a1 (bx.symm a8)) a6;have aP:=az.snoc aa;have e0:=d1.snoc (ag.own.ne_new aC D.lo);have bB:=ai.snoc (bx.symm ac);have di:=(be.appd (show be nv rows from a7) b8 D.wf a1).snoc (bx.appd (show bx nv (.slice aB aA ay) from (bx.symm a8)) bb.own D.wf a1);refine cH<|.p (du Z)<|.p (ae jO jM U Z) ?_;obtain ⟨b2,b0,aR,dV,_⟩:=bl.own.slice;subst dV;refine Ops.m (fun cK=>aW (cs:=[.slice b2 b0 aR]) (c':=[.slice b2 b0 aR,ev]) a1.wf rfl rfl rfl rfl jM (a1.keep a9 bV) G rfl rfl fun A86 a3=>?_);have cA:=(bd.appd a1 ad).keep a3.keep a4;have b9:=cf.keep a3.keep aP;refine cK<|.nil<|dI<|.sq fun dJ=>.region<|.J Z<|.J Z<|.p (du Z)<|.p (ae nZ jt U Z)<|.p (ah jr Z Z a3.get Z) ?_;refine Ops.m (fun cP=>bf (c:=[.bool (false)]) a3.wf rfl (aw nA nR z4 rfl U U rfl) fun A96 e4 a2=>?_);have cZ:=ne_new a3.wf a3.get a2.lo;have dZ:=b9.ne_new a3.wf a2.lo;have bp:=a2.le.g a3.get;have aT:=cA.le a2.le;have aV:=(bl.keep a3.keep aI).le a2.le;have aS:=b9.le a2.le;have bP:=(al cV aG c4 a3.n a3.keep).trans a2.le;refine cP<|.m (fun bM=>ct (ys:=[.bool (false)]) rfl rfl nA nR Uj z4 rfl U nA (fun _ h=>by cases h) aT.own (bN (n:=1) a2.get Z) rfl rfl (by show (_ + _) * 1<=_;simp only [bQ,Xq,Xz];(try simp only [Xx,Xq,Xz]);omega) OI fun A107 e2 a0=>?_);rw [show ([.bool (false)]:List Value)=cy [false] from rfl,pN] at a0;obtain ⟨aY,bR⟩:=Fresh.grow aT bP aG a0;have b1:=a0.ne a4 a2.wf bp;have bT:=bx.appd (show bx ev (.slice b2 b0 aR) from (bx.symm bA)) aV.own a2.wf a0;have bU:=be.appd (show be ev (rows ++ [Value.slice aB aA ay]) from bB) aS a2.wf a0;have bC:=aS.appd a0 (show be ev (rows ++ [Value.slice aB aA ay]) from bB);refine bM<|.p (du Z)<|.p (ae nZ jt U Z) ?_;obtain ⟨bv,br,b7,d2,_⟩:=aY.own.slice;subst d2;refine Ops.m (fun bO=>aW (cs:=[.slice bv br b7]) (c':=[.slice b2 b0 aR,.slice bv br b7]) a0.wf rfl rfl rfl rfl jt (a0.keep a4 bp) G rfl rfl fun A122 a5=>?_);have aZ:=(aV.appd a0 (bx.symm bA)).keep a5.keep aI;have bL:=aY.keep a5.keep b1;have bD:=bC.keep a5.keep aP;have bS:=al bR aG c4 a5.n a5.keep;refine bO<|.nil<|dJ<|.sq fun cB=>.region<|.J Z<|.p (du Z)<|.p (ae jO jM U Z)<|.p (ah ln Z Z a5.get Z)<|.p (bE (n:=(rows ++ [Value.slice aB aA ay]).length) qq Z aZ.slc O (jJ _)) ?_;refine Ops.p (fJ (b:=1) Z Z Oy)<|.I Z<|.nil<|cB<|.rt (by exact aH Z (⟨_,_,_,(show num _=num _ from Xk (fun z:Nat=>num (z:Int)) (by simp [fm.len])),bS,a5.wf,a5.get,aZ,bL,aI,b1,(bx.symm bT),oH bD (by rw [ho,show i=k by omega,Nat.sub_self];simp [Jd]),aP,di,bU⟩))
theorem s_add (k:Nat) (w:W8) (b:Nat) (nv ev:Value) (rows:List Value) (L:List (List Int)) (E:List Bool) (A0 A:AH) (b7:A0.le A) (bu:A0.wf) (hb:A.get b=some (.row true [nv,ev] 2)) (dO:A0.get b=none) (frn:Fresh A0 A nv 1 (fh rows)) (fre:Fresh A0 A ev 1 (cy E)) (nn:blk nv ≠ some b) (ne:blk ev ≠ some b) (sne:bx nv ev) (fm:mq A0 A rows L) (fo:dn rows b) (fsn:be nv rows) (fse:be ev rows) (hL:ib A0) (hk:k<=1000/\L.length<=100000/\w.length<=100000) (hT:Jb k L E) (h0:0 < L.length) (hw:∀ c ∈ w,0<=ix c/\ix c < k):bH prog 77 #[.pointer (some ⟨b,0,none⟩),num ((k:Nat):Int),ax (w)] A (fun v A1=>∃ nv2 kE rows2,v=.tuple #[]/\A0.le A1/\A1.wf/\A1.get b=some (.row true [nv2,kE] 2)/\Fresh A0 A1 nv2 1 (fh rows2)/\Fresh A0 A1 kE 1 (cy (zw k L E w))/\blk nv2 ≠ some b/\blk kE ≠ some b/\bx nv2 kE/\mq A0 A1 rows2 (zx k L E w)/\dn rows2 b/\be nv2 rows2/\be kE rows2):=by
 refine bi (e:=[(0,.pointer (some ⟨b,0,none⟩)),(1,num ((k:Nat):Int)),(2,ax (w))]) (args:=[.pointer (some ⟨b,0,none⟩),num ((k:Nat):Int),ax (w)]) call77 func77 Z results77 ntmps77 Z Z Z (fun wf=>?_);have hwx:∀ x ∈ w.map ix,0<=x/\x < (k:Int):=fun x hx=>by obtain ⟨c,hc,rfl⟩:=Vj.1 hx;exact hw c hc
 have hwl:(w.map ix).length=w.length:=TX _;refine ak.sq fun h2=>.region<|.I Z<|.nil<|h2<|.sq fun h4=>.sq fun h6=>.region<|.J Z<|.m (fun dl=>aq Z (Qs w A (hL.le b7) O) ?_);rintro v8 A9 ⟨ar,e2,ap⟩;have bP:=fm.le ar;have b1:=ap.base b7;have cf:=be.fresh fm ap;refine dl<|.p (bE (n:=(w.map ix).length) fk Z b1.slc O (fy _))<|.J Z<|.nil<|h6<|.block<|.loop (X:=Nat × List Bool × Nat × Value × Value × List Value × List (List Int)) (fun ⟨i,E1,s,a7,sX,rw,L1⟩=>[(0,.pointer (some ⟨b,0,none⟩)),(1,num ((k:Nat):Int)),(6,num ((s:Nat):Int)),(11,v8),(12,num (((w.map ix).length:Nat):Int)),(13,num ((i:Nat):Int))]) (fun ⟨i,E1,s,a7,sX,rw,L1⟩ B=>(i<=(w.map ix).length/\ql k L E ((w.map ix).take i)=(L1,E1,s)/\Jb k L1 E1/\s < L1.length/\L1.length<=L.length + i)/\A0.le B/\Fresh A0 B a7 1 (fh rw)/\Fresh A0 B sX 1 (cy E1)/\Fresh A0 B v8 1 (dy (w.map ix))/\B.get b=some (.row true [a7,sX] 2)/\V.blk a7 ≠ some b/\V.blk sX ≠ some b/\V.blk v8 ≠ some b/\bx a7 sX/\bx a7 v8/\bx sX v8/\mq A0 B rw L1/\dn rw b/\be a7 rw/\be sX rw/\be v8 rw) (fun ⟨i,E1,s,a7,sX,rw,L1⟩=>(w.map ix).length - i) (⟨0,E,0,nv,ev,rows,L⟩) (aj.cons Z<|aj.cons Z<|aj.cons (Xk (fun z:Int=>some (num z)) O)<|jc Z Z Z) (⟨⟨XK _,Z,hT,h0,by omega⟩,(b7.trans ar),(frn.le ar),(fre.le ar),b1,(ar.g hb),nn,ne,(ap.ne wf hb),sne,(bx.symm (ap.sep0 frn.own)),(bx.symm (ap.sep0 fre.own)),bP,fo,fsn,fse,cf⟩) ?_;rintro ⟨i,E1,s,a7,sX,rw,L1⟩ B22 ⟨⟨hi,hrun,hok,ay,fI⟩,aV,a1,a9,D,a8,ab,a3,h,ac,a5,a6,a4,ad,aa,a2,a0⟩;refine ak.wf fun b9=>?_;have hrw:rw.length=L1.length:=by first | exact mq.len ‹_›
 have hxw:=fun q:i < (w.map ix).length=>hwx _ (bj (d:=(0:Int)) q);have hro:=hok.row s ay;have hvo:=fun q:((w.map ix).getD i 0).toNat < k=>hok.val s ((w.map ix).getD i 0).toNat ay q;have hEl:=hok.len;refine ak.sq fun d2=>.region<|.p (ca Z Z)<|.nil<|d2<|.sq fun d3=>.if rfl (fun dW=>?_) (fun dW=>?_)
 ·refine ak.skip<|d3<|.sq fun bl=>.block<|.sq fun dd=>.region ?_;obtain ⟨f1,fi,eQ,gc,eg,fV,fL,ch,dw,cH,e3,bv⟩:=bJ.at (i:=i) D.slc Oa O;refine Ops.p (au fk dH Z ch Z dw)<|.p (ah fA Z Z cH ((dt bv).trans (dT O)))<|.I Z<|.nil<|dd<|.sq fun bm=>.sq fun di=>.region<|.J Z<|.p (du Z) ?_;refine Ops.p (ae jO jM U Z)<|.p (ah ln Z Z a8 Z)<|.J Z ?_;obtain ⟨f2,fl,eS,ge,en,fX,fM,ck,dz,cK,e4,bA⟩:=bJ.at (i:=s) a1.slc Ok O;refine Ops.p (au qq gU Z ck Z dz)<|.p (ah nI Z Z cK ((dt bA).trans (fP O)))<|.J Z ?_;obtain ⟨f3,fn,eT,gf,ex,g0,fN,cu,dD,cP,e5,bB⟩:=bJ.at (i:=((w.map ix).getD i 0).toNat) (a4.fr s O).slc (by simp only [aJ];have:=hxw O;omega) O;refine Ops.p (au fk dH Z cu (jz (by have:=hxw O;omega)) dD)<|.p (ah fA Z Z cP ((dt bB).trans (dT (by have:=hxw O;omega))))<|.p (kY Z Z)<|.nil<|di<|.if rfl (fun dZ=>?_) (fun dZ=>?_)
  ·refine ak.sq fun dj=>.region<|.J Z<|.J Z ?_;have aI:=cz (bs:=([some b,blk a7,blk sX] ++ rw.map blk)) aV (JF (xe dO (uD a1.lo (uD a9.lo qX))) a4);refine Ops.m (fun c4=>aq Z (WT k b a7 sX rw L1 E1 (B22.hide ([some b,blk a7,blk sX] ++ rw.map blk)) B22 (c6 B22 ([some b,blk a7,blk sX] ++ rw.map blk)) (cI b9) a8 (cQ (by simp)) (a1.hide (by simp)) (a9.hide (by simp)) ab a3 ac a4.hideAll ad aa a2 ⟨by omega,by omega,by omega⟩) ?_);rintro gC A45 ⟨bb,ba,aF,rfl,aZ,bc,aE,az,aA,aR,aS,aT,aG,aB,aC,aD⟩;have b8:=aG.sepOff D.own (n8 (jG h (jH a5 (jH a6 jk))) a0);have bT:=D.off (n8 (jG h (jH a5 (jH a6 jk))) a0) aZ;have b2:=az.base aI;have bU:=aA.base aI;have av:=aG.base aI;have b6:=aG.len;rw [Xx,Tw] at b6;have hgl:((L1 ++ [Jd k]).getD s []).length=k:=by rw [lu ay];exact hok.row s ay
   have hll:(L1 ++ [Jd k]).length=L1.length + 1:=by simp
   refine c4<|.I Z<|.nil<|dj<|.region<|.J Z<|.p (du Z)<|.p (ae jO jM U Z)<|.p (ah ln Z Z aE Z)<|.J Z ?_;obtain ⟨f4,fq,eV,gg,ey,g1,fO,cv,dG,cS,e6,bC⟩:=bJ.at (i:=s) b2.slc Ok O;refine Ops.p (au qq gU Z cv Z dG)<|.p (ah nI Z Z cS ((dt bC).trans (fP O)))<|.J Z<|.J Z ?_;obtain ⟨b0,g4,fd,e0,ez,aP,dI,cU,gD,dS,gs,dm⟩:=av.at (s:=s) (x:=((w.map ix).getD i 0).toNat) O (by have:=hxw O;omega);refine Ops.p (au fk dH Z aP (jz (by have:=hxw O;omega)) (by rw [dI];have:=hxw O;omega))<|.m (fun c7=>aW (off:=((w.map ix).getD i 0).toNat) (c':=e0.set (((w.map ix).getD i 0).toNat) (num ((L1.length:Nat):Int))) bc rfl (by simp) rfl rfl dH cU (by show (((w.map ix).getD i 0).toNat) + 1<=_;omega) rfl rfl fun A59 ag=>?_);have bp:=ag.k (fun q=>eI aB (s:=s) (by have:=av.len;omega) (by rw [aP];exact Xk some q.symm)) aE;have bV:=bT.keep ag.keep (fun q=>eI b8 (s:=s) (by have:=av.len;omega) b0 q (by rw [aP];rfl));have b3:=b2.keep ag.keep (fun q=>eI aC (s:=s) (by have:=av.len;omega) b0 q (by rw [aP];rfl));have bY:=bU.keep ag.keep (fun q=>eI aD (s:=s) (by have:=av.len;omega) b0 q (by rw [aP];rfl));have bR:=dm (((L1.length:Nat):Int)) A59 ag;refine c7<|.nil ?_;have hgr:((grow k L1 s ((w.map ix).getD i 0).toNat).getD s []).length=k:=(CZ hok ay O).row s (by rw [kr];omega);have hgll:(grow k L1 s ((w.map ix).getD i 0).toNat).length=L1.length + 1:=kr;have fmG:mq A0 A59 aF (grow k L1 s ((w.map ix).getD i 0).toNat):=bR;have hgm:=fmG.len;refine bm<|.region<|.J Z<|.p (du Z)<|.p (ae jO jM U Z)<|.p (ah ln Z Z bp Z)<|.J Z ?_;obtain ⟨f6,ft,eX,gl,eA,g5,fQ,cA,dJ,cV,e7,bD⟩:=bJ.at (i:=s) b3.slc Ok O;refine Ops.p (au qq gU Z cA Z dJ)<|.p (ah nI Z Z cV ((dt bD).trans (fP O)))<|.J Z ?_;obtain ⟨f7,fv,eY,gm,eC,g6,fR,cB,dK,cX,e9,bL⟩:=bJ.at (i:=((w.map ix).getD i 0).toNat) (fmG.fr s O).slc (by simp only [aJ];have:=hxw O;omega) O;refine Ops.p (au fk dH Z cB (jz (by have:=hxw O;omega)) dK)<|.p (ah fA Z Z cX ((dt bL).trans (dT (by have:=hxw O;omega))))<|.I Z<|.nil<|bl<|.region<|.p (bF (b:=1) Z Z O)<|.J Z<|.nil ?_;exact ⟨⟨i + 1,E1 ++ [false],L1.length,bb,ba,aF,grow k L1 s ((w.map ix).getD i 0).toNat⟩,aj.cons Z<|aj.cons Z<|aj.cons (Xk (fun z:Int=>some (num z)) (by exact TU hok ay (by have:=hxw O;omega)))<|jc Z Z Z,Z,⟨⟨by omega,Il O hrun ‹_›,CZ hok ay (by have:=hxw O;omega),by omega,by omega⟩,(al (aI.trans aZ) bu dS ag.n ag.keep),b3,bY,bV,bp,aR,aS,h,aT,(az.sep D.own (n8 (jG h (jH a5 (jH a6 jk))) a0)),(aA.sep D.own (n8 (jG h (jH a5 (jH a6 jk))) a0)),fmG,aB,aC,aD,b8⟩,O1⟩
  refine ak.skip<|bm<|.region<|.J Z<|.p (du Z)<|.p (ae jO jM U Z)<|.p (ah ln Z Z a8 Z)<|.J Z ?_;obtain ⟨f8,fD,eZ,gp,eG,g7,fS,cC,dL,cZ,ea,bM⟩:=bJ.at (i:=s) a1.slc Ok O;refine Ops.p (au qq gU Z cC Z dL)<|.p (ah nI Z Z cZ ((dt bM).trans (fP O)))<|.J Z ?_;obtain ⟨f9,fE,f0,gq,eL,g8,fT,cF,dM,d0,ec,bO⟩:=bJ.at (i:=((w.map ix).getD i 0).toNat) (a4.fr s O).slc (by simp only [aJ];have:=hxw O;omega) O;refine Ops.p (au fk dH Z cF (jz (by have:=hxw O;omega)) dM)<|.p (ah fA Z Z d0 ((dt bO).trans (dT (by have:=hxw O;omega))))<|.I Z<|.nil<|bl<|.region<|.p (bF (b:=1) Z Z O)<|.J Z<|.nil ?_;exact ⟨⟨i + 1,E1,((L1.getD s []).getD ((w.map ix).getD i 0).toNat 0).toNat,a7,sX,rw,L1⟩,aj.cons Z<|aj.cons Z<|aj.cons (Xk (fun z:Int=>some (num z)) O)<|jc Z Z Z,Z,⟨⟨by omega,Im O hrun ‹_›,hok,by have:=hvo (by have:=hxw O;omega);omega,by omega⟩,aV,a1,a9,D,a8,ab,a3,h,ac,a5,a6,a4,ad,aa,a2,a0⟩,O1⟩
 refine ak.exit<|h4<|.region<|.J Z<|.p (du Z)<|.p (ae nZ jt U Z)<|.p (ah jr Z Z a8 Z)<|.J Z ?_;obtain ⟨bd,g9,fe,e1,eN,aY,br,d1,gE,dV,gA,dv⟩:=a9.at1 (x:=s) Of;rw [bQ] at br;refine Ops.p (au nA nR Z aY Z (by rw [br];omega))<|.m (fun cb=>aW (off:=s) (c':=e1.set s (.bool (true))) b9 rfl (by simp) rfl rfl nR d1 (by show s + 1<=_;omega) rfl rfl fun A73 ai=>?_);have dk:=ai.k (fun q=>a3 (by rw [aY];exact Xk some q.symm)) a8;have c3:=a1.keep ai.keep ((bx.symm ac) bd (by rw [aY];rfl));have bS:=a4.keep ai.keep (fun r hr=>a2 r hr bd (by rw [aY];rfl));have b5:=dv (.bool (true)) A73 ai;rw [mI] at b5;have cc:=al aV bu dV ai.n ai.keep;refine cb<|.nil ?_;repeat first | with_reducible refine cR ?_ | with_reducible refine cr ?_
 repeat first | with_reducible refine gk ?_ | with_reducible refine fj ?_ | with_reducible refine eR U ?_ | with_reducible refine eU ?_ | with_reducible refine d4 ?_
 exact AU (vs:=[]) Z (⟨_,_,_,Z,cc,ai.wf,dk,c3,ce b5 (Xk cy (by rw [zw,<- VX (show (w.map ix).length<=i by omega),hrun])),ab,a3,ac,oH bS (by rw [zx,<- VX (show (w.map ix).length<=i by omega),hrun]),ad,aa,a2⟩)
abbrev ju (L:List (List Int)) (n x:Nat):Int:=(L.getD n []).getD x 0
structure TW (k:Nat) (L:List (List Int)) (W:List (List Nat)):Prop where
  len:W.length=L.length
  pos:0 < W.length
  zero:W.getD 0 []=[]
  nd:∀ a b,a < W.length->b < W.length->W.getD a []=W.getD b []->a=b
  pre:∀ m,0 < m->m < W.length->∃ n x,n < W.length/\x < k/\W.getD m []=W.getD n [] ++ [x]
  is:∀ n x,n < W.length->x < k->0<=ju L n x->(ju L n x).toNat < W.length/\W.getD (ju L n x).toNat []=W.getD n [] ++ [x]
  no:∀ n x,n < W.length->x < k->ju L n x < 0->W.getD n [] ++ [x] ∉ W
section
variable {k s x i:Nat} {L L1:List (List Int)} {E E1:List Bool} {xs:List Int} {W:List (List Nat)}
theorem UR {w:List Nat} (h:w ∈ W):∃ a,a < W.length/\W.getD a []=w:=by
  obtain ⟨i,hi,rfl⟩:=VQ h
  exact ⟨i,hi,by simp [hi]⟩
theorem oD {a:Nat} (h:a < W.length):W.getD a [] ∈ W:=bj h
theorem Fx (h:Jb k L E) (hs:s < L.length) (hx:x < k) {j y:Nat} (hj:j < L.length + 1) (hy:y < k):ju (grow k L s x) j y=if j=s/\y=x then (L.length:Int) else if j < L.length then ju L j y else -1:=by
  unfold ju
  rw [xd (y:=0) h hs hx hj]
  by_cases h1:j=s
  · subst h1
    rw [XX Z,fa (by rw [h.row j hs];exact hx)]
    by_cases h2:y=x
    · rw [XX h2,XX ⟨rfl,h2⟩]
    · rw [Xy h2,Xy (fun q=>h2 q.2),XX hs]
  · simp only [h1,false_and,if_false]
    by_cases h2:j < L.length
    · simp only [h2,if_true]
    · simp only [h2,if_false];simp [Jd,hy]
theorem TW.grow (h:Jb k L E) (t:TW k L W) (hs:s < L.length) (hx:x < k) (hn:ju L s x < 0):TW k (grow k L s x) (W ++ [W.getD s [] ++ [x]]):=by
  have hl:=t.len
  have e1:∀ a,a < W.length->(W ++ [W.getD s [] ++ [x]]).getD a []=W.getD a []:=fun a ha=>lu ha
  have e2:(W ++ [W.getD s [] ++ [x]]).getD W.length []=W.getD s [] ++ [x]:=by simp
  have hnew:=t.no s x O hx hn
  have key:∀ n y,n < W.length->W.getD n [] ++ [y]=W.getD s [] ++ [x]->n=s/\y=x:=fun n y D q=>by
    have:=List.append_inj' q Z
    exact ⟨t.nd n s D O this.1,by simpa using this.2⟩
  refine ⟨by rw [kr];simp [hl],by simp,by rw [e1 0 t.pos];exact t.zero,fun a b ha hb q=>?_,fun m hm V=>?_,fun n y D hy h0=>?_,fun n y D hy h0=>?_⟩
  · simp only [Xx,Tw] at ha hb
    rcases VY a W.length with qa | qa
    · rcases VY b W.length with qb | qb
      · rw [e1 a qa,e1 b qb] at q;exact t.nd a b qa qb q
      · obtain rfl:b=W.length:=by omega
        rw [e1 a qa,e2] at q;exact absurd (q ▸ oD qa) hnew
    · obtain rfl:a=W.length:=by omega
      rcases VY b W.length with qb | qb
      · rw [e1 b qb,e2] at q;exact absurd (q ▸ oD qb) hnew
      · omega
  · simp only [Xx,Tw] at V
    rcases VY m W.length with q | q
    · obtain ⟨n,y,h1,h2,h3⟩:=t.pre m hm q
      exact ⟨n,y,by simp;omega,h2,by rw [e1 m q,e1 n h1];exact h3⟩
    · obtain rfl:m=W.length:=by omega
      exact ⟨s,x,by simp;omega,hx,by rw [e2,e1 s O]⟩
  · simp only [Xx,Tw] at D ⊢
    rw [Fx h hs hx O hy] at h0 ⊢
    split
    · rename_i q
      obtain ⟨rfl,rfl⟩:=q
      rw [RX,<- hl,e2,e1 n O]
      exact ⟨by omega,Z⟩
    · rename_i q
      rw [Xy q] at h0
      split
      · rename_i q2
        rw [XX q2] at h0
        have:=t.is n y O hy h0
        rw [e1 n O,e1 _ this.1]
        exact ⟨by omega,this.2⟩
      · rename_i q2;rw [Xy q2] at h0;omega
  · simp only [Xx,Tw] at D
    rw [Fx h hs hx O hy] at h0
    split at h0
    · omega
    · rename_i q
      intro hm
      split at h0
      · rename_i q2
        have:=t.no n y O hy h0
        rw [e1 n O] at hm
        rcases Vw.1 hm with z | z
        · exact this z
        · rw [Vk] at z
          exact q (key n y O z)
      · rename_i q2
        obtain rfl:n=W.length:=by omega
        rw [e2] at hm
        rcases Vw.1 hm with z | z
        · have hlen:∀ a b:Nat,a < W.length->W.getD a []=(W.getD s [] ++ [x]) ++ [b]->False:=fun a b ha q=>by
            rcases TV a with q0 | q0
            · subst q0;rw [t.zero] at q;simp at q
            · obtain ⟨n,y2,h1,h2,h3⟩:=t.pre a q0 ha
              rw [h3] at q
              have:=(List.append_inj' q Z).1
              exact hnew (this ▸ oD h1)
          obtain ⟨a,ha,e⟩:=UR z
          exact hlen a y ha e
        · rw [Vk] at z
          have:=Xk List.length z
          simp at this
theorem TW.start:TW k [Jd k] [[]]:=by
  have e:∀ n x,n < 1->x < k->ju [Jd k] n x = -1:=fun n x hn hx=>by
    obtain rfl:n=0:=by omega
    simp [ju,Jd,hx]
  refine ⟨rfl,by simp,rfl,fun a b ha hb _=>by simp at ha hb;omega,fun m hm h=>by simp at h;omega,fun n x hn hx h0=>?_,fun n x hn hx h0=>?_⟩
  · rw [e n x hn hx] at h0;omega
  · obtain rfl:n=0:=by simp at hn;omega
    simp
structure Tri (k:Nat) (L:List (List Int)) (E:List Bool) (W S:List (List Nat)):Prop where
  ok:Jb k L E
  tw:TW k L W
  sub:∀ w ∈ S,w ∈ W
  ends:∀ m,m < W.length->(E.getD m false=true ↔ W.getD m [] ∈ S)
theorem Tri.run {S:List (List Nat)} (h:Tri k L E W S) (hx:∀ x ∈ xs,0<=x/\x < (k:Int)):∀ i,i<=xs.length->∃ W1,Tri k (ql k L E (xs.take i)).1 (ql k L E (xs.take i)).2.1 W1 S/\(ql k L E (xs.take i)).2.2 < (ql k L E (xs.take i)).1.length /\
    W1.getD (ql k L E (xs.take i)).2.2 []=(xs.take i).map Int.toNat/\(ql k L E (xs.take i)).1.length<=L.length + i:=by
  intro i
  induction i with
  | zero=>intro _;exact ⟨W,h,by have:=h.tw.pos;have:=h.tw.len;show 0 < L.length;omega,h.tw.zero,XV _⟩
  | succ i ih =>
    intro hi
    obtain ⟨W1,h1,h2,h3,h4⟩:=ih O
    rcases hr:ql k L E (xs.take i) with ⟨L1,E1,s⟩
    rw [hr] at h1 h2 h3 h4
    simp only at h1 h2 h3 h4
    have hb:=hx _ (bj (d:=(0:Int)) (show i < xs.length by omega))
    have hl:=h1.tw.len
    have et:(xs.take (i + 1)).map Int.toNat=(xs.take i).map Int.toNat ++ [(xs.getD i 0).toNat]:=(uJ (z:=(0:Int)) Int.toNat (show i < xs.length by omega)).symm
    by_cases q:(L1.getD s []).getD (xs.getD i 0).toNat 0 < 0
    · rw [Il O hr q]
      refine ⟨W1 ++ [W1.getD s [] ++ [(xs.getD i 0).toNat]],⟨CZ h1.ok h2 O,TW.grow h1.ok h1.tw h2 O q,fun w hw=>Vw.2 (.inl (h1.sub w hw)),fun m hm=>?_⟩,by rw [kr];show L1.length < _;omega,?_,by rw [kr];omega⟩
      · simp only [Xx,Tw] at hm
        rcases VY m W1.length with z | z
        · rw [lu z,lu (by rw [h1.ok.len];omega)];exact h1.ends m z
        · obtain rfl:m=W1.length:=by omega
          have e1:(E1 ++ [false]).getD W1.length false=false:=by rw [hl,<- h1.ok.len];simp
          have e2:(W1 ++ [W1.getD s [] ++ [(xs.getD i 0).toNat]]).getD W1.length []=W1.getD s [] ++ [(xs.getD i 0).toNat]:=by simp
          rw [e1,e2]
          have:=h1.tw.no s _ O O q
          exact ⟨(fun z=>by cases z),fun z=>absurd (h1.sub _ z) this⟩
      · show (W1 ++ _).getD L1.length []=_
        rw [<- hl,et,<- h3];simp
    · rw [Im O hr q]
      have:=h1.tw.is s (xs.getD i 0).toNat O O (by show 0<=(L1.getD s []).getD _ 0;omega)
      exact ⟨W1,h1,by show ((L1.getD s []).getD (xs.getD i 0).toNat 0).toNat < L1.length;rw [<- hl];exact this.1,by rw [et,<- h3];exact this.2,by show L1.length<=_;omega⟩
theorem Jb.set {E2:List Bool} (h:Jb k L E) (he:E2.length=E.length):Jb k L E2:=⟨by rw [he,h.len],h.row,h.val⟩
def KF (w:Wd):List Nat:=w.map fun c=>(ix c).toNat
theorem Tri.add {S:List (List Nat)} {w:Wd} (h:Tri k L E W S) (hw:∀ c ∈ w,0<=ix c/\ix c < k):∃ W1,Tri k (zx k L E w) (zw k L E w) W1 (S ++ [KF w])/\(zx k L E w).length<=L.length + w.length:=by
  have hx:∀ x ∈ w.map ix,0<=x/\x < (k:Int):=fun x hx=>by obtain ⟨c,hc,rfl⟩:=Vj.1 hx;exact hw c hc
  obtain ⟨W1,h1,h2,h3,h4⟩:=h.run hx (w.map ix).length (XV _)
  rw [Rj] at h1 h2 h3 h4
  have e3:(w.map ix).map Int.toNat=KF w:=by rw [RQ];rfl
  have hl:=h1.tw.len
  refine ⟨W1,⟨h1.ok.set (by simp [zw]),h1.tw,fun u hu=>?_,fun m hm=>?_⟩,by rw [zx];rw [TX] at h4;exact h4⟩
  · rcases Vw.1 hu with z | z
    · exact h1.sub u z
    · rw [Vk] at z;rw [z,<- e3,<- h3];exact oD O
  · rw [zw,fa (by rw [h1.ok.len];exact h2)]
    split
    · rename_i q;subst q
      exact ⟨fun _=>Vw.2 (.inr (Vk.2 (by rw [h3,e3]))),fun _=>rfl⟩
    · rename_i q
      rw [h1.ends m hm,Vw,Vk]
      exact ⟨.inl,fun z=>z.elim id fun z=>absurd (h1.tw.nd m _ hm O (by rw [z,h3,e3])) q⟩
end
def wo (W:List (List Nat)):List Nat->List Nat
  | []=>[]
  | a :: t=>if a :: t ∈ W then a :: t else wo W t
def Yf (W:List (List Nat)):Prop:=[] ∈ W/\∀ u x,u ++ [x] ∈ W->u ∈ W
section
variable {W S:List (List Nat)} {u w t:List Nat} {a x:Nat}
theorem Dq (h:Yf W):wo W w ∈ W:=by
  induction w with
  | nil=>exact h.1
  | cons a t ih=>unfold wo;split <;> assumption
theorem sl:wo W w <:+ w:=by
  induction w with
  | nil=>exact List.suffix_refl _
  | cons a t ih =>
    unfold wo;split
    · exact List.suffix_refl _
    · exact ih.trans (List.suffix_cons _ _)
theorem lsf_of (h:w ∈ W):wo W w=w:=by
  cases w with
  | nil=>rfl
  | cons a t=>rw [wo,XX h]
theorem vb (h:u <:+ a :: t):u=a :: t\/u <:+ t:=by
  rcases List.suffix_cons_iff.1 h with h | h
  · exact .inl h
  · exact .inr h
theorem xj (hu:u ∈ W) (h:u <:+ w):u <:+ wo W w:=by
  induction w with
  | nil=>exact h
  | cons a t ih =>
    unfold wo;split
    · exact h
    · rename_i q
      rcases vb h with z | z
      · exact absurd (z ▸ hu) q
      · exact ih z
theorem Ep {u v:List Nat} (h:u <:+ v) (h':v <:+ u):u=v:=h.eq_of_length (Nat.le_antisymm h.length_le h'.length_le)
theorem Gh (hp:Yf W):wo W (w ++ [x])=wo W (wo W w ++ [x]):=by
  refine Ep ?_ ?_
  · refine xj (Dq hp) ?_
    have h1:wo W (w ++ [x]) <:+ w ++ [x]:=sl
    have h2:wo W (w ++ [x]) ∈ W:=Dq hp
    rcases List.eq_nil_or_concat (wo W (w ++ [x])) with q | ⟨u,y,q⟩
    · rw [q];exact List.nil_suffix
    · rw [List.concat_eq_append] at q
      rw [q] at h1 h2 ⊢
      obtain ⟨r,hr⟩:=h1
      rw [<- XY] at hr
      obtain ⟨e1,e2⟩:=List.append_inj' hr Z
      have hu:=xj (hp.2 u y h2) (⟨r,e1⟩:u <:+ w)
      obtain ⟨r',hr'⟩:=hu
      exact ⟨r',by rw [<- XY,hr',e2]⟩
  · refine xj (Dq hp) ((sl).trans ?_)
    obtain ⟨r,hr⟩:=(sl:wo W w <:+ w)
    exact ⟨r,by rw [<- XY,hr]⟩
end
theorem TW.prec {k:Nat} {L:List (List Int)} {W:List (List Nat)} (h:TW k L W):Yf W:=by
  refine ⟨h.zero ▸ oD h.pos,fun u x hu=>?_⟩
  obtain ⟨m,hm,e⟩:=UR hu
  rcases TV m with q | q
  · subst q;rw [h.zero] at e;simp at e
  · obtain ⟨n,y,h1,h2,h3⟩:=h.pre m q hm
    rw [h3] at e
    exact (List.append_inj' e Z).1 ▸ oD h1
structure BS where
  L:List (List Int)
  E:List Bool
  F:List Int
  Q:List Int
abbrev mo (b:BS) (n x:Nat):Int:=if n=0 then 0 else ju b.L (b.F.getD n 0).toNat x
def xI (n:Nat) (b:BS) (x:Nat):BS :=
  if ju b.L n x < 0 then { b with L:=b.L.set n ((b.L.getD n []).set x (mo b n x)) }
  else ⟨b.L,b.E.set (ju b.L n x).toNat (b.E.getD (ju b.L n x).toNat false || b.E.getD (mo b n x).toNat false),b.F.set (ju b.L n x).toNat (mo b n x),b.Q ++ [ju b.L n x]⟩
abbrev qn (b:BS) (a:Nat):Nat:=(b.Q.getD a 0).toNat
structure BI (k:Nat) (L0:List (List Int)) (W S:List (List Nat)) (b:BS) (i j:Nat):Prop where
  len:b.L.length=W.length/\b.E.length=W.length/\b.F.length=W.length
  row:∀ s,s < W.length->(b.L.getD s []).length=k
  q0:0 < b.Q.length/\b.Q.getD 0 0=0
  qr:∀ a,a < b.Q.length->0<=b.Q.getD a 0/\b.Q.getD a 0 < W.length
  qd:∀ a c,a < b.Q.length->c < b.Q.length->qn b a=qn b c->a=c
  srt:∀ a c,a<=c->c < b.Q.length->(W.getD (qn b a) []).length<=(W.getD (qn b c) []).length
  same:∀ n x,n < W.length->x < k->(∀ a,a < b.Q.length->qn b a=n->i < a\/a=i/\j<=x)->ju b.L n x=ju L0 n x
  done:∀ a x,a < b.Q.length->x < k->(a < i\/a=i/\x < j)->0<=ju b.L (qn b a) x/\ju b.L (qn b a) x < W.length/\W.getD (ju b.L (qn b a) x).toNat []=wo W (W.getD (qn b a) [] ++ [x])
  ch:∀ a x,a < b.Q.length->x < k->(a < i\/a=i/\x < j)->W.getD (qn b a) [] ++ [x] ∈ W->∃ c,c < b.Q.length/\W.getD (qn b c) []=W.getD (qn b a) [] ++ [x]
  pa:∀ c,0 < c->c < b.Q.length->∃ a x,a < b.Q.length/\x < k/\(a < i\/a=i/\x < j)/\W.getD (qn b c) []=W.getD (qn b a) [] ++ [x]
  fl:∀ c,0 < c->c < b.Q.length->0<=b.F.getD (qn b c) 0/\b.F.getD (qn b c) 0 < W.length/\W.getD (b.F.getD (qn b c) 0).toNat []=wo W ((W.getD (qn b c) []).drop 1)
  eq:∀ c,c < b.Q.length->(b.E.getD (qn b c) false=true ↔ ∃ u ∈ S,u <:+ W.getD (qn b c) [])
  en:∀ m,m < W.length->(∀ c,c < b.Q.length->qn b c ≠ m)->(b.E.getD m false=true ↔ W.getD m [] ∈ S)
section
variable {k i j:Nat} {L0:List (List Int)} {E0:List Bool} {W S:List (List Nat)} {b:BS}
theorem BI.before (h:BI k L0 W S b i j) (t:TW k L0 W) (hi:i < b.Q.length):∀ n p,p < W.length->(W.getD p []).length=n->n < (W.getD (qn b i) []).length->∃ a,a < i/\qn b a=p:=by
  intro n
  induction n with
  | zero =>
    intro p hp hl hn
    have e:p=0:=t.nd p 0 hp t.pos (by rw [t.zero];exact Vv.1 hl)
    subst e
    have q0:qn b 0=0:=by unfold qn;rw [h.q0.2];rfl
    refine ⟨0,?_,q0⟩
    rcases TV i with q | q
    · subst q;rw [q0,t.zero] at hn;simp at hn
    · exact q
  | succ n ih =>
    intro p hp hl hn
    have D:0 < p:=by
      rcases TV p with q | q
      · subst q;rw [t.zero] at hl;simp at hl
      · exact q
    obtain ⟨m,x,h1,h2,h3⟩:=t.pre p D hp
    have hml:(W.getD m []).length=n:=by rw [h3] at hl;simpa using hl
    obtain ⟨a,ha,ea⟩:=ih m h1 hml O
    obtain ⟨c,hc,ec⟩:=h.ch a x O h2 (.inl ha) (by rw [ea,<- h3];exact oD hp)
    have ecp:qn b c=p:=t.nd _ _ (by have:=h.qr c hc;unfold qn;omega) hp (by rw [ec,ea,h3])
    refine ⟨c,?_,ecp⟩
    refine Classical.byContradiction fun q=>?_
    have:=h.srt i c O hc
    rw [ecp] at this;omega
theorem BI.qlt (h:BI k L0 W S b i j) {a:Nat} (ha:a < b.Q.length):qn b a < W.length:=by have:=h.qr a ha;unfold qn;omega
theorem BI.to (h:BI k L0 W S b i j) (t:TW k L0 W) (hi:i < b.Q.length) (hj:j < k):0<=mo b (qn b i) j/\mo b (qn b i) j < W.length/\W.getD (mo b (qn b i) j).toNat []=wo W ((W.getD (qn b i) [] ++ [j]).drop 1) /\
    ∃ c,c < b.Q.length/\qn b c=(mo b (qn b i) j).toNat:=by
  have hq:=h.qlt hi
  by_cases hz:qn b i=0
  · rw [mo,XX hz,hz,t.zero]
    have q0:qn b 0=0:=by unfold qn;rw [h.q0.2];rfl
    exact ⟨Int.le_refl _,by have:=t.pos;omega,by show W.getD 0 []=_;rw [t.zero];rfl,0,h.q0.1,q0⟩
  · rw [mo,Xy hz]
    have X:0 < i:=by
      rcases TV i with q | q
      · subst q;exact absurd (by unfold qn;rw [h.q0.2];rfl) hz
      · exact q
    obtain ⟨f1,f2,f3⟩:=h.fl i X hi
    generalize hw:W.getD (qn b i) []=w at *
    obtain ⟨a0,w0,rfl⟩:∃ a0 w0,w=a0 :: w0:=by
      cases w with
      | nil=>exact absurd (t.nd _ 0 hq t.pos (by rw [hw,t.zero])) hz
      | cons a0 w0=>exact ⟨a0,w0,Z⟩
    simp only [List.drop_one,List.tail_cons,List.cons_append] at f3 ⊢
    have hsh:(W.getD (b.F.getD (qn b i) 0).toNat []).length < (W.getD (qn b i) []).length:=by
      rw [f3,hw];have:=(sl:wo W w0 <:+ w0).length_le;simp;omega
    obtain ⟨c,hc,ec⟩:=h.before t hi _ _ O Z hsh
    have hd:=h.done c j O hj (.inl hc)
    rw [ec] at hd
    refine ⟨hd.1,hd.2.1,by rw [hd.2.2,f3,<- Gh t.prec],?_⟩
    -- it has been met,as its word is not longer than the node's
    have a1:(W.getD (ju b.L (b.F.getD (qn b i) 0).toNat j).toNat []).length<=(W.getD (qn b i) []).length:=by
      rw [hd.2.2,f3,<- Gh t.prec]
      have:=(sl:wo W (w0 ++ [j]) <:+ w0 ++ [j]).length_le
      rw [hw];simp at this ⊢;omega
    generalize hr:(ju b.L (b.F.getD (qn b i) 0).toNat j).toNat=r at *
    have hrW:r < W.length:=by omega
    rcases VY (W.getD r []).length (W.getD (qn b i) []).length with q | q
    · obtain ⟨c,hc,ec⟩:=h.before t hi _ r hrW Z q
      exact ⟨c,by omega,ec⟩
    · rcases TV r with z | z
      · subst z
        have q0:qn b 0=0:=by unfold qn;rw [h.q0.2];rfl
        exact ⟨0,h.q0.1,q0⟩
      · obtain ⟨m,x,h1,h2,h3⟩:=t.pre r z hrW
        have hm:(W.getD m []).length < (W.getD (qn b i) []).length:=by rw [h3,Xx,Tw] at a1;omega
        obtain ⟨c,hc,ec⟩:=h.before t hi _ m h1 Z hm
        obtain ⟨d,D,V⟩:=h.ch c x O h2 (.inl hc) (by rw [ec,<- h3];exact oD hrW)
        exact ⟨d,D,t.nd _ _ (h.qlt D) hrW (by rw [V,ec,h3])⟩
theorem set_at {L:List (List Int)} {n x m y:Nat} {v:Int} (hn:n < L.length) (hx:x < (L.getD n []).length):ju (L.set n ((L.getD n []).set x v)) m y=if m=n/\y=x then v else ju L m y:=by
  unfold ju
  rw [fa hn]
  by_cases h:m=n
  · subst h
    rw [XX Z,fa hx]
    by_cases h2:y=x <;> simp [h2]
  · simp [h]
theorem BI.step (h:BI k L0 W S b i j) (t:TW k L0 W) (hs:∀ w ∈ S,w ∈ W) (hne:[] ∉ S) (hi:i < b.Q.length) (hj:j < k):BI k L0 W S (xI (qn b i) b j) i (j + 1):=by
  have hq:=h.qlt hi
  obtain ⟨t1,t2,t3,t4⟩:=h.to t hi hj
  have hsame:ju b.L (qn b i) j=ju L0 (qn b i) j:=h.same _ _ hq hj fun a ha ea=>by
    have:=h.qd a i ha hi ea;exact .inr ⟨this,by omega⟩
  have V:∀ a,a < b.Q.length->qn b a=qn b i->a=i:=fun a ha ea=>h.qd a i ha hi ea
  unfold xI
  split
  · -- the letter leads nowhere yet
    rename_i hneg
    have hno:=t.no (qn b i) j hq hj (by rw [<- hsame];exact hneg)
    have hval:W.getD (mo b (qn b i) j).toNat []=wo W (W.getD (qn b i) [] ++ [j]):=by
      rw [t3]
      cases hw:W.getD (qn b i) [] ++ [j] with
      | nil=>simp at hw
      | cons a0 w0=>rw [hw] at hno;rw [wo,Xy hno];rfl
    have hent:∀ m y,ju (b.L.set (qn b i) ((b.L.getD (qn b i) []).set j (mo b (qn b i) j))) m y=if m=qn b i/\y=j then mo b (qn b i) j else ju b.L m y:=fun m y=>set_at (by rw [h.len.1];exact hq) (by rw [h.row _ hq];exact hj)
    refine ⟨⟨by simp [h.len.1],h.len.2⟩,fun s hs'=>?_,h.q0,h.qr,h.qd,h.srt,fun n x hn hx hc=>?_,fun a x ha hx hc=>?_,fun a x ha hx hc hm=>?_,fun c D hc=>?_,h.fl,h.eq,h.en⟩
    · show ((b.L.set _ _).getD s []).length=k
      rw [fa (by rw [h.len.1];exact hq)]
      split
      · rw [SK];exact h.row _ hq
      · exact h.row s hs'
    · show ju (b.L.set _ _) n x=_
      rw [hent,Xy]
      · exact h.same n x hn hx fun a ha ea=>by rcases hc a ha ea with q | q;exact .inl q;exact .inr ⟨q.1,by omega⟩
      · rintro ⟨rfl,rfl⟩
        rcases hc i hi rfl with q | q <;> omega
    · show 0<=ju (b.L.set _ _) (qn b a) x/\_
      have e:ju (b.L.set (qn b i) ((b.L.getD (qn b i) []).set j (mo b (qn b i) j))) (qn b a) x=if qn b a=qn b i/\x=j then mo b (qn b i) j else ju b.L (qn b a) x:=hent _ _
      show 0<=ju (b.L.set (qn b i) ((b.L.getD (qn b i) []).set j (mo b (qn b i) j))) (qn b a) x/\ju (b.L.set (qn b i) ((b.L.getD (qn b i) []).set j (mo b (qn b i) j))) (qn b a) x < W.length/\W.getD (ju (b.L.set (qn b i) ((b.L.getD (qn b i) []).set j (mo b (qn b i) j))) (qn b a) x).toNat []=_
      rw [e]
      by_cases q:qn b a=qn b i/\x=j
      · rw [XX q,q.1,q.2];exact ⟨t1,t2,hval⟩
      · rw [Xy q]
        exact h.done a x ha hx (by
          rcases hc with c | c
          · exact .inl c
          · exact .inr ⟨c.1,by have:¬ x=j:=fun z=>q ⟨by rw [c.1],z⟩;omega⟩)
    · rcases hc with c | c
      · exact h.ch a x ha hx (.inl c) hm
      · by_cases z:x=j
        · obtain ⟨rfl,_⟩:=c;subst z;exact absurd hm hno
        · exact h.ch a x ha hx (.inr ⟨c.1,by omega⟩) hm
    · obtain ⟨a,x,h1,h2,h3,h4⟩:=h.pa c D hc
      exact ⟨a,x,h1,h2,by rcases h3 with c | c;exact .inl c;exact .inr ⟨c.1,by omega⟩,h4⟩
  · -- a node that is met now
    rename_i hpos
    obtain ⟨m1,m2⟩:=t.is (qn b i) j hq hj (by rw [<- hsame];omega)
    rw [<- hsame] at m1 m2
    generalize hm:ju b.L (qn b i) j=z at *
    obtain ⟨m,rfl⟩:∃ m:Nat,z=m:=⟨z.toNat,by omega⟩
    rw [RX] at m1 m2 ⊢
    have fresh:∀ c,c < b.Q.length->qn b c ≠ m:=fun c hc ec=>by
      rcases TV c with q | q
      · subst q
        have q0:qn b 0=0:=by unfold qn;rw [h.q0.2];rfl
        rw [q0] at ec;rw [<- ec,t.zero] at m2;simp at m2
      · obtain ⟨a,x,h1,h2,h3,h4⟩:=h.pa c q hc
        rw [ec,m2] at h4
        obtain ⟨e1,e2⟩:=List.append_inj' h4 Z
        have ea:=V a h1 (t.nd _ _ (h.qlt h1) hq e1.symm)
        have ex:x=j:=by simpa using e2.symm
        rcases h3 with c | c <;> omega
    have g1:∀ a,a < b.Q.length->(b.Q ++ [(m:Int)]).getD a 0=b.Q.getD a 0:=fun a ha=>lu ha
    have g2:(b.Q ++ [(m:Int)]).getD b.Q.length 0=m:=by simp
    have n1:∀ a,a < b.Q.length->((b.Q ++ [(m:Int)]).getD a 0).toNat=qn b a:=fun a ha=>by rw [g1 a ha]
    have n2:((b.Q ++ [(m:Int)]).getD b.Q.length 0).toNat=m:=by rw [g2];rfl
    have lw:(W.getD m []).length=(W.getD (qn b i) []).length + 1:=by rw [m2];simp
    have kh:∀ c,c < b.Q.length->(W.getD (qn b c) []).length<=(W.getD (qn b i) []).length + 1:=fun c hc=>by
      rcases TV c with q | q
      · subst q
        have q0:qn b 0=0:=by unfold qn;rw [h.q0.2];rfl
        rw [q0,t.zero];simp
      · obtain ⟨a,x,h1,h2,h3,h4⟩:=h.pa c q hc
        rw [h4,Xx,Tw]
        have:=h.srt a i (by rcases h3 with c | c <;> omega) hi
        omega
    have lt:∀ {a},a < (b.Q ++ [(m:Int)]).length->a < b.Q.length\/a=b.Q.length:=fun {a} ha=>by simp at ha;omega
    refine ⟨⟨h.len.1,by simp [h.len.2.1],by simp [h.len.2.2]⟩,h.row,⟨by simp,by show (b.Q ++ [(m:Int)]).getD 0 0=0;rw [g1 0 h.q0.1];exact h.q0.2⟩,fun a ha=>?_,fun a c ha hc ec=>?_,fun a c hac hc=>?_,fun n x hn hx hc=>?_,fun a x ha hx hc=>?_,fun a x ha hx hc hm'=>?_,fun c D hc=>?_,fun c D hc=>?_,fun c hc=>?_,fun p hp hc=>?_⟩
    · show 0<=(b.Q ++ [(m:Int)]).getD a 0/\(b.Q ++ [(m:Int)]).getD a 0 < W.length
      rcases lt ha with q | q
      · rw [g1 a q];exact h.qr a q
      · rw [q,g2];omega
    · have ec:((b.Q ++ [(m:Int)]).getD a 0).toNat=((b.Q ++ [(m:Int)]).getD c 0).toNat:=ec
      rcases lt ha with q | q
      · rcases lt hc with q2 | q2
        · rw [n1 a q,n1 c q2] at ec;exact h.qd a c q q2 ec
        · rw [n1 a q,q2,n2] at ec;exact absurd ec (fresh a q)
      · rcases lt hc with q2 | q2
        · rw [n1 c q2,q,n2] at ec;exact absurd ec.symm (fresh c q2)
        · omega
    · show (W.getD ((b.Q ++ [(m:Int)]).getD a 0).toNat []).length<=(W.getD ((b.Q ++ [(m:Int)]).getD c 0).toNat []).length
      rcases lt hc with q2 | q2
      · rw [n1 a O,n1 c q2];exact h.srt a c hac q2
      · rw [q2,n2]
        rcases VY a b.Q.length with q | q
        · rw [n1 a q,lw];exact kh a q
        · rw [show a=b.Q.length by omega,n2];exact XV _
    · refine h.same n x hn hx fun a ha ea=>?_
      have:=hc a Oi (by show ((b.Q ++ [(m:Int)]).getD a 0).toNat=n;rw [n1 a ha];exact ea)
      rcases this with q | q
      · exact .inl q
      · exact .inr ⟨q.1,by omega⟩
    · show 0<=ju b.L ((b.Q ++ [(m:Int)]).getD a 0).toNat x/\ju b.L ((b.Q ++ [(m:Int)]).getD a 0).toNat x < W.length/\W.getD (ju b.L ((b.Q ++ [(m:Int)]).getD a 0).toNat x).toNat []=wo W (W.getD ((b.Q ++ [(m:Int)]).getD a 0).toNat [] ++ [x])
      have hal:a < b.Q.length:=by omega
      rw [n1 a hal]
      by_cases q:a=i/\x=j
      · obtain ⟨rfl,rfl⟩:=q
        rw [hm,RX,m2,<- m2,lsf_of (oD m1)]
        exact ⟨by omega,by omega,Z⟩
      · exact h.done a x hal hx (by
          rcases hc with c | c
          · exact .inl c
          · exact .inr ⟨c.1,by have:¬ x=j:=fun z=>q ⟨c.1,z⟩;omega⟩)
    · show ∃ c,c < (b.Q ++ [(m:Int)]).length/\W.getD ((b.Q ++ [(m:Int)]).getD c 0).toNat []=W.getD ((b.Q ++ [(m:Int)]).getD a 0).toNat [] ++ [x]
      have hal:a < b.Q.length:=by omega
      have hm':W.getD ((b.Q ++ [(m:Int)]).getD a 0).toNat [] ++ [x] ∈ W:=hm'
      rw [n1 a hal] at hm' ⊢
      by_cases q:a=i/\x=j
      · obtain ⟨rfl,rfl⟩:=q
        exact ⟨b.Q.length,by simp,by rw [n2];exact m2⟩
      · obtain ⟨c,c1,c2⟩:=h.ch a x hal hx (by
          rcases hc with c | c
          · exact .inl c
          · exact .inr ⟨c.1,by have:¬ x=j:=fun z=>q ⟨c.1,z⟩;omega⟩) hm'
        exact ⟨c,by simp;omega,by rw [n1 c c1];exact c2⟩
    · show ∃ a x,a < (b.Q ++ [(m:Int)]).length/\x < k/\(a < i\/a=i/\x < j + 1)/\W.getD ((b.Q ++ [(m:Int)]).getD c 0).toNat []=W.getD ((b.Q ++ [(m:Int)]).getD a 0).toNat [] ++ [x]
      rcases lt hc with q | q
      · obtain ⟨a,x,h1,h2,h3,h4⟩:=h.pa c D q
        exact ⟨a,x,by simp;omega,h2,by rcases h3 with c | c;exact .inl c;exact .inr ⟨c.1,by omega⟩,by rw [n1 c q,n1 a h1];exact h4⟩
      · exact ⟨i,j,by simp;omega,hj,.inr ⟨Z,by omega⟩,by rw [q,n2,n1 i hi];exact m2⟩
    · show 0<=(b.F.set m (mo b (qn b i) j)).getD ((b.Q ++ [(m:Int)]).getD c 0).toNat 0/\(b.F.set m (mo b (qn b i) j)).getD ((b.Q ++ [(m:Int)]).getD c 0).toNat 0 < W.length/\W.getD ((b.F.set m (mo b (qn b i) j)).getD ((b.Q ++ [(m:Int)]).getD c 0).toNat 0).toNat []=wo W ((W.getD ((b.Q ++ [(m:Int)]).getD c 0).toNat []).drop 1)
      rw [fa (by rw [h.len.2.2];exact m1)]
      rcases lt hc with q | q
      · rw [n1 c q,Xy (fresh c q)];exact h.fl c D q
      · rw [q,n2,XX Z,m2];exact ⟨t1,t2,t3⟩
    · show (b.E.set m (b.E.getD m false || b.E.getD (mo b (qn b i) j).toNat false)).getD ((b.Q ++ [(m:Int)]).getD c 0).toNat false=true ↔ ∃ u ∈ S,u <:+ W.getD ((b.Q ++ [(m:Int)]).getD c 0).toNat []
      rw [fa (by rw [h.len.2.1];exact m1)]
      rcases lt hc with q | q
      · rw [n1 c q,Xy (fresh c q)];exact h.eq c q
      · rw [q,n2,XX Z,Bool.or_eq_true,h.en m m1 fresh]
        obtain ⟨d,d1,d2⟩:=t4
        rw [<- d2,h.eq d d1,d2,t3,<- m2]
        constructor
        · rintro (z | ⟨u,u1,u2⟩)
          · exact ⟨_,z,List.suffix_refl _⟩
          · exact ⟨u,u1,u2.trans (sl.trans (List.drop_suffix _ _))⟩
        · rintro ⟨u,u1,u2⟩
          cases hw:W.getD m [] with
          | nil=>rw [hw] at lw;simp at lw
          | cons a0 w0 =>
            rw [hw] at u2
            rcases vb u2 with z | z
            · exact .inl (z ▸ u1)
            · exact .inr ⟨u,u1,xj (hs u u1) z⟩
    · show (b.E.set m (b.E.getD m false || b.E.getD (mo b (qn b i) j).toNat false)).getD p false=true ↔ _
      have hpm:p ≠ m:=fun z=>hc b.Q.length (by simp) (by show ((b.Q ++ [(m:Int)]).getD b.Q.length 0).toNat=p;rw [n2,z])
      rw [fa (by rw [h.len.2.1];exact m1),Xy hpm]
      exact h.en p hp fun c hc'=>by have:=hc c Oi;intro z;exact this (by show ((b.Q ++ [(m:Int)]).getD c 0).toNat=p;rw [n1 c hc'];exact z)
theorem BI.start (h:Tri k L0 E0 W S) (hne:[] ∉ S):BI k L0 W S ⟨L0,E0,List.replicate W.length 0,[0]⟩ 0 0:=by
  have hl:=h.tw.len
  have q0:∀ a,a < ([0]:List Int).length->a=0:=fun a ha=>by simpa using ha
  refine ⟨⟨hl.symm,by rw [hl];exact h.ok.len,Rk⟩,fun s hs=>h.ok.row s O,⟨Nat.zero_lt_one,rfl⟩,fun a ha=>?_,fun a c ha hc _=>?_,fun a c hac hc=>?_,fun n x hn hx _=>rfl,fun a x ha hx hc=>?_,fun a x ha hx hc=>?_,fun c D hc=>?_,fun c D hc=>?_,fun c hc=>?_,fun m hm _=>h.ends m hm⟩
  · rw [q0 a ha];exact ⟨Int.le_refl _,by have:=h.tw.pos;show (0:Int) < W.length;omega⟩
  · rw [q0 a ha,q0 c hc]
  · rw [q0 c hc,q0 a (by have:=q0 c hc;show a < 1;omega)];exact XV _
  · omega
  · omega
  · exact absurd (q0 c hc) O
  · exact absurd (q0 c hc) O
  · rw [q0 c hc]
    show E0.getD 0 false=true ↔ ∃ u ∈ S,u <:+ W.getD 0 []
    rw [h.ends 0 h.tw.pos,h.tw.zero]
    exact ⟨fun z=>absurd z hne,fun ⟨u,u1,u2⟩=>absurd ((List.suffix_nil.1 u2) ▸ u1) hne⟩
theorem BI.next (h:BI k L0 W S b i k) (hi:i < b.Q.length):BI k L0 W S b (i + 1) 0:=by
  have e:∀ {a x},x < k->(a < i + 1\/a=i + 1/\x < 0)->(a < i\/a=i/\x < k):=fun {a x} hx hc=>by omega
  exact ⟨h.len,h.row,h.q0,h.qr,h.qd,h.srt,fun n x hn hx hc=>h.same n x hn hx fun a ha ea=>by have:=hc a ha ea;omega,fun a x ha hx hc=>h.done a x ha hx (e hx hc),fun a x ha hx hc=>h.ch a x ha hx (e hx hc),
    fun c D hc=>by obtain ⟨a,x,h1,h2,h3,h4⟩:=h.pa c D hc;exact ⟨a,x,h1,h2,by omega,h4⟩,h.fl,h.eq,h.en⟩
theorem rx:∀ (n:Nat) (l:List Nat),l.Nodup->(∀ x ∈ l,x < n)->l.length<=n
  | 0,l,_,h=>by
    cases l with
    | nil=>exact XV _
    | cons a l=>exact absurd (h a Vy) O
  | n + 1,l,hn,h=>by
    have h1:=rx n (l.erase n) (hn.erase n) (fun x hx=>by
      have h2:=h x (List.mem_of_mem_erase hx)
      have h3:x ≠ n:=by rintro rfl;exact hn.not_mem_erase hx
      omega)
    by_cases hm:n ∈ l
    · rw [List.length_erase_of_mem hm] at h1;omega
    · rw [List.erase_of_not_mem hm] at h1;omega
theorem su {l:List Nat} {n:Nat} (h1:l.Nodup) (h2:∀ x ∈ l,x < n):l.length<=n:=rx _ _ h1 h2
theorem BI.qlen (h:BI k L0 W S b i j):b.Q.length<=W.length:=by
  have:=su (l:=(List.range b.Q.length).map (qn b)) (n:=W.length) ?_ ?_
  · simpa using this
  · rw [List.nodup_iff_pairwise_ne,Qz]
    exact List.Pairwise.imp_of_mem (fun {a c} ha hc hac e=>hac (h.qd a c (VV.1 ha) (VV.1 hc) e)) List.nodup_range
  · intro x hx
    obtain ⟨a,ha,rfl⟩:=Vj.1 hx
    exact h.qlt (VV.1 ha)
theorem BI.all (h:BI k L0 W S b i 0) (t:TW k L0 W) (hi:b.Q.length<=i):∀ n p,p < W.length->(W.getD p []).length=n->∃ a,a < b.Q.length/\qn b a=p:=by
  intro n
  induction n with
  | zero =>
    intro p hp hl
    have e:p=0:=t.nd p 0 hp t.pos (by rw [t.zero];exact Vv.1 hl)
    subst e
    exact ⟨0,h.q0.1,by unfold qn;rw [h.q0.2];rfl⟩
  | succ n ih =>
    intro p hp hl
    have D:0 < p:=by
      rcases TV p with q | q
      · subst q;rw [t.zero] at hl;simp at hl
      · exact q
    obtain ⟨m,x,h1,h2,h3⟩:=t.pre p D hp
    obtain ⟨a,ha,ea⟩:=ih m h1 (by rw [h3] at hl;simpa using hl)
    obtain ⟨c,hc,ec⟩:=h.ch a x ha h2 (.inl O) (by rw [ea,<- h3];exact oD hp)
    exact ⟨c,hc,t.nd _ _ (h.qlt hc) hp (by rw [ec,ea,h3])⟩
structure Aho (k:Nat) (L:List (List Int)) (E:List Bool) (W S:List (List Nat)):Prop where
  len:L.length=W.length/\E.length=W.length
  row:∀ s,s < W.length->(L.getD s []).length=k
  pos:0 < W.length
  zero:W.getD 0 []=[]
  nd:∀ a b,a < W.length->b < W.length->W.getD a []=W.getD b []->a=b
  prec:Yf W
  sub:∀ w ∈ S,w ∈ W
  to:∀ n x,n < W.length->x < k->0<=ju L n x/\ju L n x < W.length/\W.getD (ju L n x).toNat []=wo W (W.getD n [] ++ [x])
  ends:∀ n,n < W.length->(E.getD n false=true ↔ ∃ u ∈ S,u <:+ W.getD n [])
theorem BI.aho (h:BI k L0 W S b i 0) (t:TW k L0 W) (hs:∀ w ∈ S,w ∈ W) (hi:b.Q.length<=i):Aho k b.L b.E W S :=
  ⟨⟨h.len.1,h.len.2.1⟩,h.row,t.pos,t.zero,t.nd,t.prec,hs,fun n x hn hx=>by
    obtain ⟨a,ha,rfl⟩:=h.all t hi _ n hn Z
    exact h.done a x ha hx (.inl O),fun n hn=>by
    obtain ⟨a,ha,rfl⟩:=h.all t hi _ n hn Z
    exact h.eq a ha⟩
end
structure RD (k:Nat) (acc:List Bool) (L:List (List Int)):Prop where
  sym:1<=k/\k<=400
  len:acc.length=L.length
  num:0 < L.length/\L.length<=20000
  row:∀ s,s < L.length->(L.getD s []).length=k
  val:∀ s x,s < L.length->x < k->-1<=ju L s x/\ju L s x < L.length
theorem vt:eO prog 62 0=some (3,0):=by kernel_rfl
theorem yg:eO prog 62 1=some (3,1):=by kernel_rfl
theorem m0:eO prog 62 2=some (59,2):=by kernel_rfl
theorem m4:eO prog 62 3=some (60,3):=by kernel_rfl
theorem WI (k:Nat) (acc:List Bool) (L:List (List Int)) (av nv:Value) (rows:List Value) (A:AH) (hok:RD k acc L) (hav:bJ A 1 av (cy acc)) (hnv:bJ A 1 nv (fh rows)) (hrl:rows.length=L.length) (hF:∀ i,i < L.length->bJ A 1 (rows.getD i undef) (dy (L.getD i []))):bH prog 116 #[.agg #[num ((k:Nat):Int),num ((0:Nat):Int),av,nv]] A (fun v A1=>v=num ((0:Nat):Int)/\A.le A1/\A1.wf):=by
 refine bi (e:=[(0,.agg #[num ((k:Nat):Int),num ((0:Nat):Int),av,nv])]) (args:=[.agg #[num ((k:Nat):Int),num ((0:Nat):Int),av,nv]]) call116 func116 Z results116 ntmps116 Z Z Z (fun wf=>?_);have b7:=AH.le.refl A;obtain ⟨⟨bV,bY⟩,hal,⟨bT,bU⟩,hrow,hval⟩:=hok;refine ak.sq fun h2=>.region<|.m (fun b3=>d8 wf rfl rfl fun A5 b4 h=>?_);have D:=b7.trans h.le;refine b3<|.I Z<|.nil<|h2<|.sq fun h9=>.region<|.p (ae m0 jt U Z)<|.p (ah jr Z Z h.get Z)<|.p (bE (n:=acc.length) nA Z (hav.le D) O (gx _))<|.I Z ?_;refine Ops.nil<|h9<|.sq fun ag=>.sq fun a1=>.region<|.p (ae vt dH U Z)<|.p (ah fA Z Z h.get Z)<|.p (ca (b:=1) Z Z)<|.J Z<|.part (t:=14) Z (fun b8=>?_) (fun b8=>?_)
 ·refine Ops.off Z Z Z Z<|.off Z Z Z Z<|.off Z Z Z Z<|.p (aL Z Z)<|.J Z<|.off Z Z Z Z<|.off Z Z Z Z<|.p (aL Z Z)<|.J Z<|.off Z Z Z Z ?_;refine Ops.off Z Z Z Z<|.off Z Z Z Z<|.off Z Z Z Z<|.off Z Z Z Z<|.p (aL Z Z)<|.J Z<|.off Z Z Z Z<|.off Z Z Z Z<|.off Z Z Z Z<|.p (aL Z Z) ?_;refine Ops.J Z<|.off Z Z Z Z<|.off Z Z Z Z<|.off Z Z Z Z<|.off Z Z Z Z<|.off Z Z Z Z<|.p (aL Z Z)<|.nil<|a1<|.cond_true Z ?_;refine ak.sq fun ai=>.region<|.I Z<|.nil<|ai<|.rt (by exact aH Z (⟨by (exfalso;omega),D,h.wf⟩))
 refine Ops.on Z Z<|.p (ae vt dH U Z)<|.on Z Z<|.p (ah fA Z Z h.get Z)<|.on Z Z<|.p (eh (b:=400) Z Z)<|.p (bh Z Z)<|.J Z<|.part (t:=19) Z (fun b9=>?_) (fun b9=>?_)
 ·refine Ops.off Z Z Z Z<|.off Z Z Z Z<|.p (aL Z Z)<|.J Z<|.off Z Z Z Z<|.off Z Z Z Z<|.off Z Z Z Z<|.off Z Z Z Z<|.off Z Z Z Z<|.p (aL Z Z) ?_;refine Ops.J Z<|.off Z Z Z Z<|.off Z Z Z Z<|.off Z Z Z Z<|.p (aL Z Z)<|.J Z<|.off Z Z Z Z<|.off Z Z Z Z<|.off Z Z Z Z<|.off Z Z Z Z ?_;refine Ops.off Z Z Z Z<|.p (aL Z Z)<|.nil<|a1<|.cond_true Z<|.sq fun ap=>.region<|.I Z<|.nil<|ap ?_;refine ak.ret ?_;repeat first | with_reducible refine cR ?_ | with_reducible refine cr ?_
  exact aH Z (⟨by (exfalso;omega),D,h.wf⟩)
 refine Ops.on Z Z<|.J Z<|.on Z Z<|.p (eh (b:=20000) Z Z)<|.p (bh Z Z)<|.J Z<|.part (t:=23) Z (fun ba=>?_) (fun ba=>?_)
 ·refine Ops.off Z Z Z Z<|.off Z Z Z Z<|.off Z Z Z Z<|.off Z Z Z Z<|.off Z Z Z Z<|.p (aL Z Z)<|.J Z<|.off Z Z Z Z<|.off Z Z Z Z<|.off Z Z Z Z ?_;refine Ops.p (aL Z Z)<|.J Z<|.off Z Z Z Z<|.off Z Z Z Z<|.off Z Z Z Z<|.off Z Z Z Z<|.off Z Z Z Z<|.p (aL Z Z)<|.nil<|a1 ?_;refine ak.cond_true Z<|.sq fun ar=>.region<|.I Z<|.nil<|ar<|.rt (by exact aH Z (⟨by (exfalso;omega),D,h.wf⟩))
 refine Ops.on Z Z<|.p (ae m4 jM U Z)<|.on Z Z<|.p (ah ln Z Z h.get Z)<|.on Z Z<|.p (bE (n:=rows.length) qq Z (hnv.le D) O (jJ _))<|.on Z Z<|.J Z<|.on Z Z<|.p (eB Z Z) ?_;refine Ops.p (bh Z Z)<|.J Z<|.part (t:=30) Z (fun bb=>?_) (fun bb=>?_)
 ·refine Ops.off Z Z Z Z<|.off Z Z Z Z<|.off Z Z Z Z<|.p (aL Z Z)<|.J Z<|.off Z Z Z Z<|.off Z Z Z Z<|.off Z Z Z Z<|.off Z Z Z Z<|.off Z Z Z Z ?_;refine Ops.p (aL Z Z)<|.nil<|a1<|.cond_true Z<|.sq fun ay=>.region<|.I Z<|.nil<|ay<|.rt (by exact aH Z (⟨by (exfalso;omega),D,h.wf⟩))
 refine Ops.on Z Z<|.p (ae yg dH U Z)<|.on Z Z<|.p (ah fA Z Z h.get Z)<|.on Z Z<|.p (ca (a:=0) (b:=0) Z Z)<|.p (bh Z Z)<|.J Z<|.part (t:=35) Z (fun bc=>?_) (fun bc=>?_)
 ·refine Ops.off Z Z Z Z<|.off Z Z Z Z<|.off Z Z Z Z<|.off Z Z Z Z<|.off Z Z Z Z<|.p (aL Z Z)<|.nil<|a1<|.cond_true Z<|.sq fun az=>?_;refine ak.region<|.I Z<|.nil<|az<|.rt (by exact aH Z (⟨by (exfalso;omega),D,h.wf⟩))
 refine Ops.on Z Z<|.p (ae yg dH U Z)<|.on Z Z<|.p (ah fA Z Z h.get Z)<|.on Z Z<|.J Z<|.on Z Z<|.p (qmaxN Z Z)<|.on Z Z<|.p (yA (a:=0) Z Z) ?_;refine Ops.p (bh Z Z)<|.nil<|a1<|.if rfl (fun bd=>?_) (fun bd=>?_)
 ·refine ak.sq fun aA=>.region<|.I Z<|.nil<|aA<|.rt (by exact aH Z (⟨by (exfalso;omega),D,h.wf⟩))
 refine ak.skip<|ag<|.sq fun aB=>.sq fun aC=>.region<|.p (ae m4 jM U Z)<|.p (ah ln Z Z h.get Z)<|.p (bE (n:=rows.length) qq Z (hnv.le D) O (jJ _))<|.J Z<|.nil ?_;refine aC<|.block<|.loop (X:=Nat) (fun i=>[(1,.pointer (some ⟨b4,0,none⟩)),(3,num ((acc.length:Nat):Int)),(43,nv),(44,num ((rows.length:Nat):Int)),(45,num ((i:Nat):Int))]) (fun i B=>(i<=L.length)/\A.le B/\B.get b4=some (.row true [num ((k:Nat):Int),num ((0:Nat):Int),av,nv] 4)) (fun i=>L.length - i) 0 (sY Z Z Z Z Z) (⟨(XK _),D,h.get⟩) ?_;rintro i B37 ⟨hi,V,a2⟩;refine ak.wf fun a5=>?_;have hro:=fun q:i < L.length=>hrow i q;refine ak.sq fun aD=>.region<|.p (ca Z Z)<|.nil<|aD<|.sq fun aE=>.if rfl (fun bl=>?_) (fun bl=>?_)
 ·refine ak.skip<|aE<|.sq fun aF=>.block<|.sq fun aG=>.region ?_;obtain ⟨bO,bR,bL,cc,bC,c7,c3,aa,b5,ac,bv,a8⟩:=bJ.at (i:=i) (hnv.le V) Ok O;refine Ops.p (au qq gU Z aa Z b5)<|.p (ah nI Z Z ac ((dt a8).trans (fP O)))<|.I Z<|.nil<|aG<|.sq fun aI=>.sq fun aP=>.region<|.J Z<|.p (bE (n:=((L.getD i [])).length) fk Z ((hF i O).le V) O (fy _)) ?_;refine Ops.p (ae vt dH U Z)<|.p (ah fA Z Z a2 Z)<|.p (eB Z Z)<|.nil<|aP<|.if rfl (fun bm=>?_) (fun bm=>?_)
  ·refine ak.sq fun aR=>.region<|.I Z<|.nil<|aR<|.rt (by exact aH Z (⟨by (exfalso;omega),V,a5⟩))
  refine ak.skip<|aI<|.sq fun aS=>.region<|.J Z<|.p (bE (n:=((L.getD i [])).length) fk Z ((hF i O).le V) O (fy _))<|.J Z<|.nil<|aS<|.block ?_;refine ak.loop (X:=Nat) (fun j=>[(1,.pointer (some ⟨b4,0,none⟩)),(3,num ((acc.length:Nat):Int)),(43,nv),(44,num ((rows.length:Nat):Int)),(45,num ((i:Nat):Int)),(54,rows.getD i undef),(55,num ((((L.getD i [])).length:Nat):Int)),(56,num ((j:Nat):Int))]) (fun j B=>(j<=k/\i < L.length)/\A.le B/\B.get b4=some (.row true [num ((k:Nat):Int),num ((0:Nat):Int),av,nv] 4)) (fun j=>k - j) 0 (zZ Z Z Z Z Z Z Z Z) (⟨⟨XK _,by omega⟩,V,a2⟩) ?_;rintro j B59 ⟨⟨hj,a4⟩,a0,a3⟩;refine ak.wf fun a6=>?_;have bB:=hrow i a4;have hva:=fun q:j < k=>hval i j a4 q;refine ak.sq fun aT=>.region<|.p (ca Z Z)<|.nil<|aT<|.sq fun aV=>.if rfl (fun bp=>?_) (fun bp=>?_)
  ·refine ak.skip<|aV<|.sq fun aY=>.block<|.sq fun aZ=>.region ?_;obtain ⟨bP,bS,bM,cf,bD,cb,c4,ab,b6,ad,bA,a9⟩:=bJ.at (i:=j) ((hF i O).le a0) Oa O;refine Ops.p (au fk dH Z ab Z b6)<|.p (ah fA Z Z ad ((dt a9).trans (dT O)))<|.I Z<|.nil<|aZ<|.sq fun a7=>.region<|.J Z<|.p (kY Z Z)<|.J Z ?_;refine Ops.part (t:=62) Z (fun br=>?_) (fun br=>?_)
   ·refine Ops.off Z Z Z Z<|.off Z Z Z Z<|.off Z Z Z Z<|.p (aL Z Z)<|.nil<|a7<|.cond_true Z<|.sq fun b0=>.region<|.I Z ?_;refine Ops.nil<|b0<|.rt (by exact aH Z (⟨by (exfalso;have:=hva O;simp only [ju] at this;omega),a0,a6⟩))
   refine Ops.on Z Z<|.J Z<|.on Z Z<|.J Z<|.on Z Z<|.p (ml Z Z)<|.p (bh Z Z)<|.nil<|a7<|.if rfl (fun bu=>?_) (fun bu=>?_)
   ·refine ak.sq fun b1=>.region<|.I Z<|.nil<|b1<|.rt (by exact aH Z (⟨by (exfalso;have:=hva O;simp only [ju] at this;omega),a0,a6⟩))
   refine ak.skip<|aY<|.region<|.p (bF (b:=1) Z Z O)<|.J Z<|.nil ?_;exact ⟨j + 1,zZ Z Z Z Z Z Z Z Z,Z,⟨⟨by omega,a4⟩,a0,a3⟩,O1⟩
  refine ak.exit<|aF<|.region<|.p (bF (b:=1) Z Z O)<|.J Z<|.nil ?_;exact ⟨i + 1,sY Z Z Z Z Z,Z,⟨O,a0,a3⟩,O1⟩
 refine ak.exit<|aB<|.sq fun b2=>.region<|.I Z<|.nil<|b2<|.rt (by exact aH Z (⟨by rfl,V,a5⟩))
theorem WK (k:Nat) (acc:List Bool) (L:List (List Int)) (av nv:Value) (rows:List Value) (A:AH) (hok:RD k acc L) (hav:bJ A 1 av (cy acc)) (hnv:bJ A 1 nv (fh rows)) (hrl:rows.length=L.length) (hF:∀ i,i < L.length->bJ A 1 (rows.getD i undef) (dy (L.getD i []))):bH prog 149 #[.agg #[num ((k:Nat):Int),num ((0:Nat):Int),av,nv]] A (fun v A1=>v=num ((0:Nat):Int)/\A.le A1/\A1.wf):=by
 refine bi (e:=[(0,.agg #[num ((k:Nat):Int),num ((0:Nat):Int),av,nv])]) (args:=[.agg #[num ((k:Nat):Int),num ((0:Nat):Int),av,nv]]) call149 func149 Z results149 ntmps149 Z Z Z (fun wf=>?_);have a2:=AH.le.refl A;obtain ⟨⟨a6,a7⟩,hal,⟨a4,a5⟩,hrow,hval⟩:=hok;refine ak.sq fun h2=>.region<|.m (fun a1=>d8 wf rfl rfl fun A5 b4 h=>?_);have D:=a2.trans h.le;refine a1<|.I Z<|.nil<|h2<|.sq fun h9=>.sq fun V=>.region<|.p (ae m0 jt U Z)<|.p (ah jr Z Z h.get Z)<|.p (bE (n:=acc.length) nA Z (hav.le D) O (gx _)) ?_;refine Ops.p (gI (b:=0) Z Z)<|.nil<|V<|.if rfl (fun a3=>?_) (fun a3=>?_)
 ·refine ak.sq fun X=>.region<|.I Z<|.nil<|X<|.rt (by exact aH Z (⟨by (exfalso;omega),D,h.wf⟩))
 refine ak.skip<|h9<|.sq fun a0=>.region<|.p (ae yg dH U Z)<|.p (ah fA Z Z h.get Z)<|.I Z<|.nil<|a0<|.rt (by exact aH Z (⟨by rfl,D,h.wf⟩))
theorem WJ (k:Nat) (acc:List Bool) (L:List (List Int)) (av nv:Value) (rows:List Value) (s:Int) (c:Nat) (A:AH) (hok:RD k acc L) (hav:bJ A 1 av (cy acc)) (hnv:bJ A 1 nv (fh rows)) (hrl:rows.length=L.length) (hF:∀ i,i < L.length->bJ A 1 (rows.getD i undef) (dy (L.getD i []))) (hs:s < L.length) (hc:c < k):bH prog 151 #[.agg #[num ((k:Nat):Int),num ((0:Nat):Int),av,nv],num (s),num ((c:Nat):Int)] A (fun v A1=>v=num (if s < 0 then -1 else ju L s.toNat c)/\A.le A1/\A1.wf):=by
 refine bi (e:=[(0,.agg #[num ((k:Nat):Int),num ((0:Nat):Int),av,nv]),(1,num (s)),(2,num ((c:Nat):Int))]) (args:=[.agg #[num ((k:Nat):Int),num ((0:Nat):Int),av,nv],num (s),num ((c:Nat):Int)]) call151 func151 Z results151 ntmps151 Z Z Z (fun wf=>?_);have aa:=AH.le.refl A;obtain ⟨⟨aE,aF⟩,hal,⟨aC,aD⟩,hrow,hval⟩:=hok;have hro:=fun q:0<=s=>hrow s.toNat O;refine ak.sq fun h2=>.region<|.m (fun a7=>d8 wf rfl rfl fun A5 b4 D=>?_);have h:=aa.trans D.le;refine a7<|.I Z<|.nil<|h2<|.sq fun h9=>.sq fun a4=>.region<|.J Z<|.p (kY Z Z)<|.nil ?_;refine a4<|.if rfl (fun ab=>?_) (fun ab=>?_)
 ·refine ak.sq fun a5=>.region<|.I Z<|.nil<|a5<|.rt (by exact aH Z (⟨by (rw [XX ‹_›];rfl),h,D.wf⟩))
 refine ak.skip<|h9<|.sq fun a6=>.region<|.p (ae m4 jM U Z)<|.p (ah ln Z Z D.get Z)<|.J Z ?_;obtain ⟨ay,aA,ap,aS,ag,aP,aG,a0,a8,a2,ac,V⟩:=bJ.at (i:=(s).toNat) (hnv.le h) Ok O;refine Ops.p (au qq gU Z a0 (jz O) a8)<|.p (ah nI Z Z a2 ((dt V).trans (fP O)))<|.J Z ?_;obtain ⟨az,aB,ar,aT,ai,aR,aI,a1,a9,a3,ad,X⟩:=bJ.at (i:=c) ((hF ((s).toNat) O).le h) (by simp only [aJ];have:=hro O;omega) O;refine Ops.p (au fk dH Z a1 Z a9)<|.p (ah fA Z Z a3 ((dt X).trans (dT (by have:=hro O;omega))))<|.I Z<|.nil<|a6<|.rt (by exact aH Z (⟨by (rw [Xy ‹_›];rfl),h,D.wf⟩))
def zc (k:Nat) (ws:List Wd):List (List Int) × List Bool:=ws.foldl (fun t w=>(zx k t.1 t.2 w,zw k t.1 t.2 w)) ([Jd k],[false])
def brow (k:Nat) (b:BS) (i:Nat):BS:=(List.range k).foldl (xI (qn b i)) b
def bfs (k:Nat):Nat->Nat->BS->BS
  | 0,_,b=>b
  | f + 1,i,b=>if i < b.Q.length then bfs k f (i + 1) (brow k b i) else b
def Jj (k:Nat) (ws:List Wd):BS:=bfs k ((zc k ws).1.length + 1) 0 ⟨(zc k ws).1,(zc k ws).2,List.replicate (zc k ws).1.length 0,[0]⟩
def fG (E:List Bool) (r:List Int):List Int:=r.map fun m=>if E.getD m.toNat false then -1 else m
def Yg (k:Nat) (ws:List Wd):List Bool:=(Jj k ws).E.map fun e=>!e
def Yh (k:Nat) (ws:List Wd):List (List Int):=(Jj k ws).L.map (fG (Jj k ws).E)
def iA (step:Int->Nat->Option Int) (q:Int) (st:List Int × List Int) (c:Nat):List Int × List Int :=
  match step q c with
  | none=>(st.1 ++ [-1],st.2)
  | some t=>if t ∈ st.2 then (st.1 ++ [(st.2.idxOf t:Int)],st.2) else (st.1 ++ [(st.2.length:Int)],st.2 ++ [t])
def TE (k:Nat) (step:Int->Nat->Option Int) (q:Int) (Q:List Int):List Int × List Int:=(List.range k).foldl (iA step q) ([],Q)
def gV (k:Nat) (step:Int->Nat->Option Int):Nat->Nat->List Int->List (List Int)->List Int × List (List Int)
  | 0,_,Q,R=>(Q,R)
  | f + 1,i,Q,R=>if i < Q.length then gV k step f (i + 1) (TE k step (Q.getD i 0) Q).2 (R ++ [(TE k step (Q.getD i 0) Q).1]) else (Q,R)
def qe (L:List (List Int)) (s:Int) (c:Nat):Option Int:=some (if s < 0 then -1 else ju L s.toNat c)
def iY (k:Nat) (L:List (List Int)):List Int × List (List Int):=gV k (qe L) (L.length + 2) 0 [0] []
def zg (k:Nat) (acc:List Bool) (L:List (List Int)):List Bool:=(iY k L).1.map fun s=>decide (0<=s) && acc.getD s.toNat false
def rc (B:List (List Int)) (s m:Int):List (List Int):=if 0<=m then B.set m.toNat (B.getD m.toNat [] ++ [s]) else B
def kj (N:List (List Int)) (B:List (List Int)) (s:Nat):List (List Int):=(N.getD s []).foldl (fun B m=>rc B s m) B
def em (N:List (List Int)):List (List Int):=(List.range N.length).foldl (kj N) (List.replicate N.length [])
def jE (Q:List Int) (p:Int):List Int:=if p ∈ Q then Q else Q ++ [p]
def ku (B:List (List Int)):Nat->Nat->List Int->List Int
  | 0,_,Q=>Q
  | f + 1,i,Q=>if i < Q.length then ku B f (i + 1) ((B.getD (Q.getD i 0).toNat []).foldl jE Q) else Q
def sO (acc:List Bool) (i:Nat):List Int:=((List.range i).filter fun s=>acc.getD s false).map fun (s:Nat)=>(s:Int)
def ip (acc:List Bool) (N:List (List Int)):List Int:=ku (em N) (N.length + 1) 0 (sO acc acc.length)
def jD (acc:List Bool) (N:List (List Int)):List Bool:=(List.range acc.length).map fun (s:Nat)=>decide ((s:Int) ∈ ip acc N)
def MH (Q:List Int):List (Int × Value):=Q.zipIdx.map fun p=>(p.1,num ((p.2:Nat):Int))
theorem yx (Q:List Int):(MH Q).map (·.1)=Q:=by
  simp [MH,RQ,Function.comp_def]
theorem Vp (Q:List Int) (t:Int):MH (Q ++ [t])=MH Q ++ [(t,num ((Q.length:Nat):Int))]:=by simp [MH,List.zipIdx_append]
theorem PC {Q:List Int} {t:Int} (h:t ∉ Q):lk (MH Q) t=none:=Dp.2 (by rw [yx];exact h)
theorem Zc:∀ (Q:List Int) (n:Nat) (t:Int),t ∈ Q->lk ((Q.zipIdx n).map fun p=>(p.1,num ((p.2:Nat):Int))) t=some (num (((n + Q.idxOf t:Nat)):Int)):=by
  intro Q
  induction Q with
  | nil=>intro n t h;cases h
  | cons a Q ih =>
    intro n t h
    by_cases q:a=t
    · subst q;simp [lk]
    · have h2:t ∈ Q:=by rcases Vz.1 h with z | z;exact absurd z.symm q;exact z
      have:=ih (n + 1) t h2
      simp only [List.zipIdx_cons,TJ]
      rw [List.idxOf_cons,beq_eq_false_iff_ne.2 q,cond_false]
      simp only [lk,QJ,Xv q] at this ⊢
      rw [this]
      congr 3;omega
theorem Vo {Q:List Int} {t:Int} (h:t ∈ Q):lk (MH Q) t=some (num ((Q.idxOf t:Nat):Int)):=by
  have:=Zc Q 0 t h
  rwa [Qq] at this
theorem ZH {Q:List Int} {t:Int} (h:t ∉ Q):Cd (MH Q) t (num ((Q.length:Nat):Int))=MH (Q ++ [t]):=by
  rw [xq (by rw [yx];exact h),Vp]
section
variable {α:Type} [DecidableEq α] {kd:TypeDesc} {enc:α->Value} {P:Program} {e:im} {A:AH} {x y z:Operand} {t kt et:TypeId} {ty:TypeId} {ps:String} {af:Array Edge} {dst:Option Nat} {Q:Value->AH->Prop} {Kp:List PanicEntry->AH->Prop} {g:Option (Nat × Bool)} {m clock:Nat} {es:Array MapEntry} {E:List (α × Value)} {k:α} {v:Value}
theorem aaI (K:um kd enc) (wf:A.wf) (hx:cg e x=some (.map (some m))) (hy:cg e y=some (enc k)) (hz:cg e z=some v) (hu:P.underlying t=some (.map kt et)) (hk:P.underlying kt=some kd) (hg:A.get m=some (.obj true (.map es clock))) (hE:d9 enc es E) (hn:(E.map (·.1)).Nodup)
    (h:∀ A1 es1 ck,sL A A1 m (.obj true (.map es1 ck))->d9 enc es1 (Cd E k v)->Q undef A1):ll P e A { dst:=dst,op:=.insert t x y z,type:=ty,pos:=ps,after:=af,guard:=g } Q Kp :=
  qw (dst:=dst) (ty:=ty) (ps:=ps) (af:=af) (g:=g) (Kp:=Kp) K wf hx hy hz hu hk hg hE hn h
end
theorem na {b:Nat}:dn [] b:=fun _ h=>by cases h
theorem XL {P:Program} {e:im} {A:AH} {x y:Operand} {t kt et:TypeId} {ty:TypeId} {ps:String} {af:Array Edge} {dst:Option Nat} {Q:Value->AH->Prop} {Kp:List PanicEntry->AH->Prop} {g:Option (Nat × Bool)} {m clock:Nat} {es:Array MapEntry} {rw:Bool} {L:List Int} {k:Int}
    (hx:cg e x=some (.map (some m))) (hy:cg e y=some (num k)) (hu:P.underlying t=some (.map kt et)) (hk:P.underlying kt=some (.int .i64)) (hz:c5 P et=some (num 0)) (hg:A.get m=some (.obj rw (.map es clock))) (hE:d9 num es (MH L))
    (h1:k ∈ L->Q (.tuple #[num ((L.idxOf k:Nat):Int),.bool true]) A) (h2:k ∉ L->Q (.tuple #[num 0,.bool false]) A):ll P e A { dst:=dst,op:=.lookup t x y true,type:=ty,pos:=ps,after:=af,guard:=g } Q Kp:=by
  refine zj vA hx hy hu hk hz hg hE (fun v hv=>?_) (fun hn=>?_)
  · by_cases q:k ∈ L
    · rw [Vo q] at hv;cases hv;exact h1 q
    · rw [PC q] at hv;cases hv
  · exact h2 fun q=>by rw [Vo q] at hn;cases hn
theorem Gw {o:Option Int} (h:(!o.isSome)=true):o=none:=by cases o <;> simp_all
theorem lN {o:Option Int} (h:(!o.isSome)=false):o=some (o.getD 0):=by cases o <;> simp_all
theorem ry {Q:List Int} {t:Int} (h:Q.Nodup) (ht:t ∉ Q):(Q ++ [t]).Nodup:=Qx.2 ⟨h,by simp,by intro a ha b hb;simp at hb;subst hb;exact fun e=>ht (e ▸ ha)⟩
theorem so {Q:List Int} {t:Int} {D:Int->Prop} (h:∀ q ∈ Q,D q) (ht:D t):∀ q ∈ Q ++ [t],D q:=fun q hq=>by
  rcases Vw.1 hq with z | z
  · exact h q z
  · rw [Vk] at z;subst z;exact ht
theorem yy {Q Q1:List Int} (h:Q <+: Q1) {i:Nat} (hi:i < Q.length):Q1.getD i 0=Q.getD i 0:=by obtain ⟨t,rfl⟩:=h;exact lu hi
theorem Vr {Q Q1:List Int} (h:Q <+: Q1) {i:Nat} (hi:i<=Q.length):Q1.take i=Q.take i:=by obtain ⟨t,rfl⟩:=h;rw [List.take_append_of_le_length hi]
theorem tE {N:Nat} {Q:List Int} (hn:Q.Nodup) (hQ:∀ q ∈ Q,-1<=q/\q < (N:Int)):Q.length<=N + 1:=by
  have:=rx (N + 1) (Q.map fun q=>(q + 1).toNat) ?_ ?_
  · simpa using this
  · rw [List.nodup_iff_pairwise_ne,Qz]
    exact List.Pairwise.imp_of_mem (fun {a b} ha hb hab e=>hab (by have:=hQ a ha;have:=hQ b hb;omega)) hn
  · intro x hx
    obtain ⟨q,hq,rfl⟩:=Vj.1 hx
    have:=hQ q hq;omega
section
variable {k c:Nat} {step:Int->Nat->Option Int} {q:Int} {Q Q1 r:List Int}
def Oh (step:Int->Nat->Option Int) (q:Int) (Q:List Int) (c:Nat):List Int × List Int:=(List.range c).foldl (iA step q) ([],Q)
theorem yc:Oh step q Q (c + 1)=iA step q (Oh step q Q c) c:=by simp [Oh,SJ]
theorem TD (h:Oh step q Q c=(r,Q1)) (hs:step q c=none):Oh step q Q (c + 1)=(r ++ [-1],Q1):=by rw [yc,h,iA,hs]
theorem YL {t:Int} (h:Oh step q Q c=(r,Q1)) (hs:step q c=some t) (ht:t ∈ Q1):Oh step q Q (c + 1)=(r ++ [(Q1.idxOf t:Int)],Q1):=by
  rw [yc,h,iA,hs];simp only;rw [XX ht]
theorem CI {t:Int} (h:Oh step q Q c=(r,Q1)) (hs:step q c=some t) (ht:t ∉ Q1):Oh step q Q (c + 1)=(r ++ [(Q1.length:Int)],Q1 ++ [t]):=by
  rw [yc,h,iA,hs];simp only;rw [Xy ht]
theorem CM {r:List Int} {k:Nat} {v:Int} (h:r.length < k):(r ++ List.replicate (k - r.length) 0).set r.length v=(r ++ [v]) ++ List.replicate (k - (r.length + 1)) 0:=by
  rw [RZ _ _ (XV _),Nat.sub_self,show k - r.length=(k - (r.length + 1)) + 1 by omega,List.replicate_succ,List.set_cons_zero]
  simp
theorem uy {r:List Int} {k:Nat} {v w:Int} (h:r.length < k):((r ++ List.replicate (k - r.length) 0).set r.length v).set r.length w=(r ++ [w]) ++ List.replicate (k - (r.length + 1)) 0:=by
  rw [List.set_set];exact CM h
end
theorem yb {k f i:Nat} {step:Int->Nat->Option Int} {Q:List Int} {R:List (List Int)} (hf:0 < f) (hi:Q.length<=i):gV k step f i Q R=(Q,R):=by
  obtain ⟨f,rfl⟩:∃ g,f=g + 1:=⟨f - 1,by omega⟩
  rw [gV,Xy O]
theorem Fz {k f i:Nat} {step:Int->Nat->Option Int} {Q:List Int} {R:List (List Int)} {X:List Int × List (List Int)} (hf:0 < f) (hi:i < Q.length) (h:gV k step f i Q R=X) {r Q1:List Int} (e:Oh step (Q.getD i 0) Q k=(r,Q1)):gV k step (f - 1) (i + 1) Q1 (R ++ [r])=X:=by
  obtain ⟨f,rfl⟩:∃ g,f=g + 1:=⟨f - 1,by omega⟩
  rw [<- h,gV,XX hi]
  show _=gV k step f (i + 1) (Oh step (Q.getD i 0) Q k).2 (R ++ [(Oh step (Q.getD i 0) Q k).1])
  rw [e];rfl
namespace V
inductive OT where
  | done:OT
  | one (i:Nat) (t:OT):OT
  | two (i j:Nat) (t u:OT):OT
def OT.len:OT->Nat
  | .done=>0
  | .one _ t=>t.len + 1
  | .two _ _ t _=>t.len + 1
def mZ (ops:Array Oper):Array Bool->OT->Bool
  | listed,.done=>(Region.ready .any ops listed).isEmpty
  | listed,.one i C=>match ops[i]? with
    | none=>false
    | some o =>
      if dF o.op then (Region.ready .any ops listed).contains i && Region.free .any ops listed i && mZ ops (listed.setIfInBounds i true) C
      else (Region.ready .any ops listed == [i]) && mZ ops (listed.setIfInBounds i true) C
  | listed,.two i j C D=>(Region.ready .any ops listed == [i,j]) && mZ ops (listed.setIfInBounds i true) C && mZ ops (listed.setIfInBounds j true) D && (C.len == D.len)
section
variable {P:Program} {nt:Nat} {ops:Array Oper} {Q:Exit->Fr->AH->Prop} {f:Fr} {A:AH}
def dh (P:Program) (nt:Nat) (ops:Array Oper) (Q:Exit->Fr->AH->Prop) (listed:Array Bool) (held:List (Nat × fC)) (C:OT) (f:Fr) (A:AH):Prop :=
  mZ ops listed C=true->Region.noSelect ops=true->∀ a w,dC nt f a->cD A w->eH ops held listed w->md ops listed ->
    ∀ (A₀:AH) (w₀:World),fx A₀ w₀ A w->fW P ops (eM nt Q A₀ w₀) (eH ops held) C.len listed a w
theorem dh.quiet {listed:Array Bool} {held:List (Nat × fC)} {i:Nat} {C:OT} {o:Oper} {v:Value} {T:fC} (ho:ops[i]? = some o) (hq:dF o.op=true) (hd:∀ t,o.dst=some t->t < nt)
    (hv:∀ a w,dC nt f a->cD A w->gt T w/\YieldsIf P ops (gt T) o v a)
    (h:dh P nt ops Q (listed.setIfInBounds i true) ((i,T) :: held) C ⟨gj f.e o.dst v,f.ds⟩ A):dh P nt ops Q listed held (.one i C) f A:=by
  intro hc hn a w ha hw hh hcl A₀ w₀ hs
  simp only [mZ,ho,XX hq,XQ] at hc
  obtain ⟨⟨c1,c2⟩,c3⟩:=hc
  obtain ⟨t1,t2⟩:=hv a w ha hw
  have hr:i ∈ Region.ready .any ops listed:=by simpa using c1
  have hheld:eH ops ((i,T) :: held) listed w:=fun p hp hj=>by
    rcases Vz.1 hp with rfl | hp
    · exact t1
    · exact hh p hp hj
  have H:=h c3 hn _ w (ha.put o.dst v hd) hw ((j9 ho hq _ _).2 hheld) (iU hcl hr) A₀ w₀ hs
  have free:=Region.free_spec ho c2
  have H':fW P ops (eM nt Q A₀ w₀) (eH ops ((i,T) :: held)) (C.len + 1) listed a w :=
    qs (T:=gt T) ho (Region.noSelect_spec hn) (fun c a w g=>vH _ _ c a w g)
      (fun l w' hcl' hun hS=>hS (i,T) (Vy ..) fun j hl ⟨oj,hoj,_⟩=>by
        cases q:ms ops i ops.size j with
        | false=>rfl
        | true =>
          have:=kJ hcl' ops.size j oj hoj (hcl' j oj hoj hl) q
          rw [jg hun] at this;cases this)
      (fun l w'=>j9 ho hq l w') _ listed a w hcl (fun j oj hoj hne hun hno=>free j oj hoj hne hun hno) hr t2 hheld H
  -- less is asked
  have weaken:∀ (fuel:Nat) (l:Array Bool) (a:Act) (w:World),fW P ops (eM nt Q A₀ w₀) (eH ops ((i,T) :: held)) fuel l a w->fW P ops (eM nt Q A₀ w₀) (eH ops held) fuel l a w:=by
    intro fuel
    induction fuel with
    | zero=>intro l a w h;exact h
    | succ fuel ih=>intro l a w h;exact ⟨h.1,fun j hj=>wpOp_mono (fun a' w' h'=>⟨fun p hp=>h'.1 p (VZ _ hp),ih _ _ _ h'.2⟩) (h.2 j hj)⟩
  exact weaken _ _ _ _ H'
theorem tL {listed:Array Bool} {held:List (Nat × fC)} {i:Nat} {C:OT} {o:Oper} {a:Act} {w:World} {A₀:AH} {w₀:World} (ho:ops[i]? = some o) (hq:dF o.op=false) (hd:∀ t,o.dst=some t->t < nt) (hwn:∀ a:Act,dC nt f a->Region.wanted o (yielded ops a.tmps)=true)
    (c2:mZ ops (listed.setIfInBounds i true) C=true) (hn:Region.noSelect ops=true) (ha:dC nt f a) (hw:cD A w) (hcl:md ops listed) (hs:fx A₀ w₀ A w) (hr:i ∈ Region.ready .any ops listed)
    (h:∀ (K:Value->AH->Prop) (Kp:List PanicEntry->AH->Prop),
      (∀ v A',(∀ w',cD A' w'->∀ p ∈ held,ms ops p.1 ops.size i=false->gt p.2 w')->dh P nt ops Q (listed.setIfInBounds i true) (held.filter fun p=>!ms ops p.1 ops.size i) C ⟨gj f.e o.dst v,f.ds⟩ A'->K v A') ->
      (∀ ch A',Q (.panic ch) ⟨[],f.ds⟩ A'->Kp ch A')->ll P f.e A o K Kp) :
    wpOp P ops (eM nt Q A₀ w₀) i (fun a' w'=>eH ops held (listed.setIfInBounds i true) w'/\fW P ops (eM nt Q A₀ w₀) (eH ops held) C.len (listed.setIfInBounds i true) a' w') a w:=by
  have hlt:i < listed.size:=by
    have:=(mem_ready.1 hr).1
    rcases VY i listed.size with h' | h'
    · exact h'
    · simp [Ry h'] at this
  have hl:(listed.setIfInBounds i true).getD i false=true:=by simp [hlt]
  unfold wpOp
  simp only [ho,hwn a ha,if_true]
  left
  have:=sA (o:=o) (K:=fun v A'=>(∀ w',cD A' w'->∀ p ∈ held,ms ops p.1 ops.size i=false->gt p.2 w')/\dh P nt ops Q (listed.setIfInBounds i true) (held.filter fun p=>!ms ops p.1 ops.size i) C ⟨gj f.e o.dst v,f.ds⟩ A')
    (Kp:=fun ch A'=>Q (.panic ch) ⟨[],f.ds⟩ A') ha hw (h _ _ (fun v A' g1 g2=>⟨g1,g2⟩) (fun ch A' g=>g))
  unfold Oper.wp at this ⊢
  have up:∀ r,o.upon P a (kF A a w o fun v A'=>(∀ w',cD A' w'->∀ p ∈ held,ms ops p.1 ops.size i=false->gt p.2 w')/\dh P nt ops Q (listed.setIfInBounds i true) (held.filter fun p=>!ms ops p.1 ops.size i) C ⟨gj f.e o.dst v,f.ds⟩ A') (i5 A a w fun ch A'=>Q (.panic ch) ⟨[],f.ds⟩ A') r ->
      o.upon P a (fun a' w'=>eH ops held (listed.setIfInBounds i true) w'/\fW P ops (eM nt Q A₀ w₀) (eH ops held) C.len (listed.setIfInBounds i true) a' w') (eM nt Q A₀ w₀) r:=by
    have next:∀ a' w',(kF A a w o fun v A'=>(∀ w',cD A' w'->∀ p ∈ held,ms ops p.1 ops.size i=false->gt p.2 w')/\dh P nt ops Q (listed.setIfInBounds i true) (held.filter fun p=>!ms ops p.1 ops.size i) C ⟨gj f.e o.dst v,f.ds⟩ A') a' w' ->
        eH ops held (listed.setIfInBounds i true) w'/\fW P ops (eM nt Q A₀ w₀) (eH ops held) C.len (listed.setIfInBounds i true) a' w':=by
      rintro a' w' ⟨v,A',rfl,hv',hs',g1,g2⟩
      have hlo:V.loud ops i:=⟨o,ho,hq⟩
      have hh':eH ops held (listed.setIfInBounds i true) w':=fun p hp hj=>g1 w' hv' p hp (hj i hl hlo)
      refine ⟨hh',?_⟩
      have H:=g2 c2 hn _ w' (ha.put o.dst v hd) hv' (fun p hp hj=>hh' p (Sq.1 hp).1 hj) (iU hcl hr) A₀ w₀ (hs.trans hs')
      refine mc (x:=i) (fun l w hx hS p hp hj=>hS p (Sq.2 ⟨hp,?_⟩) hj) _ _ _ _ hl H
      simp [hj i hx hlo]
    have pan:∀ x a' w',i5 A a w (fun ch A'=>Q (.panic ch) ⟨[],f.ds⟩ A') x a' w'->eM nt Q A₀ w₀ x a' w':=by
      rintro x a' w' ⟨ch,A',rfl,rfl,hv',hs',g⟩
      exact ⟨⟨[],f.ds⟩,A',⟨ha.size,(fun _ _ q=>by cases q),ha.ds⟩,hv',hs.trans hs',g,fun _ _=>rfl⟩
    intro r hr'
    cases r with
    | ok n w' =>
      cases n <;> simp only [Oper.upon] at hr' ⊢ <;> (try exact hr'.elim)
      case value v=>exact next _ _ hr'
      case skip=>exact next _ _ hr'
      case defer d=>exact next _ _ hr'
      case enter f' args =>
        refine hr'.mono fun e w'' he=>?_
        cases e with
        | returned v=>exact next _ _ he
        | panicked ch=>exact pan _ _ _ he
        | outgrown=>obtain ⟨a₁,w₁,ch,A',q,_⟩:=he;cases q
      case row row args=>exact hr'.mono fun v w'' he=>next _ _ he
    | halt x w' =>
      cases x <;> simp only [Oper.upon] at hr' ⊢ <;> (try exact hr'.elim)
      case panic v=>exact pan _ _ _ hr'
  exact up _ this
variable {e:im} {ds:List Deferred}
theorem dh.done {listed:Array Bool} {held:List (Nat × fC)} (h:Q .normal f A):dh P nt ops Q listed held .done f A:=by
  intro hc _ a w ha hw _ _ A₀ w₀ hs
  simp only [mZ,List.isEmpty_iff] at hc
  exact ⟨hc,f,A,ha,hw,hs,h,fun _ q=>by cases q⟩
theorem dh.q {listed:Array Bool} {held:List (Nat × fC)} {k d:Nat} {C:OT} {op:Op} {ty:TypeId} {ps:String} {af:Array Edge} {v:Value} {T:fC} (ho:ops[k]? = some { dst:=some d,op:=op,type:=ty,pos:=ps,after:=af,guard:=none }) (hq:dF op=true) (hd:Nat.blt d nt=true) (hv:bk P e A op=some (v,T))
    (h:dh P nt ops Q (listed.setIfInBounds k true) ((k,T) :: held) C ⟨(d,v) :: e,ds⟩ A):dh P nt ops Q listed held (.one k C) ⟨e,ds⟩ A :=
  dh.quiet (f:=⟨e,ds⟩) (T:=T) (v:=v) ho hq (dq (d:=some d) hd) (fun a w ha hw=>by
    have key:=ig (P:=P) (f:=(⟨e,ds⟩:Fr)) (o:={ dst:=some d,op:=op,type:=ty,pos:=ps,after:=af,guard:=none }) hv ha hw
    exact ⟨key.1,.inl ⟨by simp [Region.wanted],key.2⟩⟩) h
theorem dh.l {listed:Array Bool} {held:List (Nat × fC)} {i:Nat} {C:OT} {di:Option Nat} {opi:Op} {ti:TypeId} {pi:String} {afi:Array Edge}
    (hoi:ops[i]? = some { dst:=di,op:=opi,type:=ti,pos:=pi,after:=afi,guard:=none }) (hqi:dF opi=false) (hdi:gB nt di=true)
    (hi:∀ (K:Value->AH->Prop) (Kp:List PanicEntry->AH->Prop),(∀ v A',aU ops held i A'->dh P nt ops Q (listed.setIfInBounds i true) (held.filter fun p=>!ms ops p.1 ops.size i) C ⟨gj e di v,ds⟩ A'->K v A') ->
      (∀ ch A',Q (.panic ch) ⟨[],ds⟩ A'->Kp ch A')->ll P e A { dst:=di,op:=opi,type:=ti,pos:=pi,after:=afi,guard:=none } K Kp):dh P nt ops Q listed held (.one i C) ⟨e,ds⟩ A:=by
  intro hc hn a w ha hw hh hcl A₀ w₀ hs
  simp only [mZ,hoi,hqi,Bool.false_eq_true,if_false,XQ,QX] at hc
  obtain ⟨c1,c2⟩:=hc
  simp only [OT.len]
  refine ⟨fun h0=>(by rw [c1] at h0;cases h0),fun k hk=>?_⟩
  have hk':=hk
  rw [c1,Vk] at hk'
  subst hk'
  exact tL (C:=C) hoi hqi (dq hdi) (fun a _=>by simp [Region.wanted]) c2 hn ha hw hcl hs hk hi
theorem dh.both {listed:Array Bool} {held:List (Nat × fC)} {i j:Nat} {C D:OT} {di dj:Option Nat} {opi opj:Op} {ti tj:TypeId} {pi pj:String} {afi afj:Array Edge}
    (hoi:ops[i]? = some { dst:=di,op:=opi,type:=ti,pos:=pi,after:=afi,guard:=none }) (hoj:ops[j]? = some { dst:=dj,op:=opj,type:=tj,pos:=pj,after:=afj,guard:=none }) (hqi:dF opi=false) (hqj:dF opj=false) (hdi:gB nt di=true) (hdj:gB nt dj=true)
    (hi:∀ (K:Value->AH->Prop) (Kp:List PanicEntry->AH->Prop),(∀ v A',aU ops held i A'->dh P nt ops Q (listed.setIfInBounds i true) (held.filter fun p=>!ms ops p.1 ops.size i) C ⟨gj e di v,ds⟩ A'->K v A') ->
      (∀ ch A',Q (.panic ch) ⟨[],ds⟩ A'->Kp ch A')->ll P e A { dst:=di,op:=opi,type:=ti,pos:=pi,after:=afi,guard:=none } K Kp)
    (hj:∀ (K:Value->AH->Prop) (Kp:List PanicEntry->AH->Prop),(∀ v A',aU ops held j A'->dh P nt ops Q (listed.setIfInBounds j true) (held.filter fun p=>!ms ops p.1 ops.size j) D ⟨gj e dj v,ds⟩ A'->K v A') ->
      (∀ ch A',Q (.panic ch) ⟨[],ds⟩ A'->Kp ch A')->ll P e A { dst:=dj,op:=opj,type:=tj,pos:=pj,after:=afj,guard:=none } K Kp):dh P nt ops Q listed held (.two i j C D) ⟨e,ds⟩ A:=by
  intro hc hn a w ha hw hh hcl A₀ w₀ hs
  simp only [mZ,XQ,QX] at hc
  obtain ⟨⟨⟨c1,c2⟩,c3⟩,c4⟩:=hc
  simp only [OT.len]
  refine ⟨fun h0=>(by rw [c1] at h0;cases h0),fun k hk=>?_⟩
  have hk':=hk
  rw [c1] at hk'
  simp only [Vz,Ty,or_false] at hk'
  rcases hk' with rfl | rfl
  · exact tL (C:=C) hoi hqi (dq hdi) (fun a _=>by simp [Region.wanted]) c2 hn ha hw hcl hs hk hi
  · rw [c4];exact tL (C:=D) hoj hqj (dq hdj) (fun a _=>by simp [Region.wanted]) c3 hn ha hw hcl hs hk hj
theorem ak.drawnT {id:Nat} (C:OT) (hm:P.follows .mixedOrders=true) (hc:mZ ops (Array.replicate ops.size false) C=true) (hn:Region.noSelect ops=true) (hl:C.len=ops.size)
    (h:dh P nt ops Q (Array.replicate ops.size false) [] C f A):ak P nt (.region id ops true) Q f A:=by
  intro a w ha hw
  obtain ⟨v1,s1⟩:=j5 hw
  refine wp_mono (wp_region_any hm (lh (Q:=eM nt Q A w) (S:=eH ops []) _ _ _ _ ?_)) (fun _ _ _=>eM.q)
  have key:=h hc hn a _ ha v1 (fun p hp=>by cases hp) (fun j o _ hj=>by
    exfalso
    rcases VY j ops.size with q | q
    · simp [q] at hj
    · simp [q] at hj) A w s1
  rw [hl] at key
  exact key
end
end V
end Go.Proofs.YtjppkekmddjcfaaGreatDoor
