import Derived.Test.YtjppkekmddjcfaaGreatDoorRC5
set_option linter.unusedSectionVars false
set_option linter.unusedVariables false
set_option linter.unusedSimpArgs false
namespace Go.Proofs.YtjppkekmddjcfaaGreatDoor
open Go Go.RowKit V
set_option maxRecDepth 100000
theorem RY:dx Tryz.prog 202=some false:=by kernel_rfl
theorem uh:dx Tryz.prog 47=some true:=by kernel_rfl
theorem Pu:dx Tryz.prog 78=some false:=by kernel_rfl
theorem LG:ee Tryz.prog 47 0=some (3,0):=by kernel_rfl
theorem LH:ee Tryz.prog 47 1=some (3,1):=by kernel_rfl
theorem Uk:Tryz.prog.info? 47=some Tryz.t47:=by kernel_rfl
theorem jM:dp Tryz.prog 47=some 5:=by kernel_rfl
theorem UR:dp Tryz.prog 78=some 1:=by kernel_rfl
theorem TQ:type_of% @Tryz.underlying78:=@Tryz.underlying78
theorem VQ:cD Tryz.prog 78=some (.slice none 0 0):=by kernel_rfl

theorem Oe (bo lp:Nat) (J:Nat->AH->Prop) (g:Int) (u:Value) (l:List (List UInt8)) (rv:Value) (rs:List bf) (M A:AH) (bs k1:Nat) (w1:Bool) (hP:cx bo M A) (hG:J 0 A) (gbs:M.get bs=some (.row w1 [num g,u,rv] k1)) (hL:gJ M) (hu:bK M 1 u (d5 l)) (hr:bK M 3 rv (c9 rs)) (hp:Proofs M rs) (hg:1<=g/\g<=8) (hn:rs.length<=1000000) (hw:∀ r ∈ rs,0 < r.left.length/\r.left.length<=1000/\r.right.length<=1000) (hclo:∀ i C C2,J i C->C2.wf->C.n<=C2.n->(∀ b o,(b < A.n\/mN bo C b)->C.get b=some o->C2.get b=some o)->J i C2) (hv:∀ i C,J i C->∃ v cap,C.get bo=some (.row true [v] cap)/\∀ b,blk v=some b->∃ o,C.get b=some o) (hbo:bo < A.n) (hy:∀ k C M2,k < (bk g rs).length->C.wf->J k C->cx bo M2 C->lr Tryz.prog lp #[PQ ((bk g rs).getD k .zero)] C (fun v C2=>v=.bool true/\J (k + 1) C2/\C2.wf/\cx bo M2 C2)):bH Tryz.prog 164 #[.func (.yield lp) #[] #[],.pointer (some ⟨bs,0,none⟩)] A (fun v A1=>J (bk g rs).length A1/\A1.wf/\cx bo M A1):=by
  refine enterM (e:=[(0,.func (.yield lp) #[] #[]),(1,.pointer (some ⟨bs,0,none⟩))]) (args:=[.func (.yield lp) #[] #[],.pointer (some ⟨bs,0,none⟩)]) Tryz.call164 Tryz.func164 Z Tryz.results164 Tryz.ntmps164 Z Z Z (fun wf=>?_)
  have hJ:=hP.le
  obtain ⟨hK,nn,dZ,fM⟩:=hv _ _ hG
  have hH:=AH.le.refl A
  have l3:jt bo A A []:=jt.nil
  have l9:A.n<=A.n:=Nat.le_refl _
  have hne:=tx hg hw
  have hsl:=wn g rs
  refine am.seq fun K1 h2=>.region<|.l Z (fun _ _ l7 _=>dQ wf rfl rfl fun A5 b4 eg=>?_)
  have g7:=aU wf (Nat.le_trans hH.n eg.lo)
  have mx:=Nat.le_trans hJ.n eg.lo
  have dv:=hJ.trans eg.le
  have hI:=hH.trans eg.le
  refine l7 _ _<|.nil<|h2 _ _<|.seq fun K9 kv=>.region<|.q Z (aq eR ew Z Z (dv.get _ _ gbs) Z)<|.l Z (fun _ _ iV _=>au Z (GV ((g)) u l rv rs A5 hg hn (hL.le dv) (hu.le dv) (hr.le dv) (hp.le dv)) ?_)
  rintro dw A13 ⟨eS,eV,eG⟩
  have kA:=eS.get _ _ eg.get
  have aZ:=hI.trans eS
  have f3:=eG.base dv
  have km:=Jc hI eG
  refine iV _ _<|.q Z (ae Z)<|.nil<|kv _ _<|.seq fun K21 kC=>.region<|.q Z (ah Z)<|.q Z (bF (n:=(bx ((g)) rs).length) qE Z f3.slc O (rq _))<|.q Z (ah Z)<|.nil ?_
  refine kC _ _<|.block ?_
  have it:=hclo _ _ _ hG eV aZ.n (fun b o _ h=>aZ.get b o h)
  have f4:=aZ.get _ _ dZ
  have n2:=pb aZ fM
  have iH:=hP.up aZ dZ
  have k2:=Nat.le_trans l9 aZ.n
  have hY:=l3.up aZ dZ
  have bu:=cx.full f4 eV
  have aR:=iH.sub f4
  have d1:=aR.get _ _ gbs
  have d0:=gh kA dZ fM g7
  have aG:=rn f3 dZ fM km
  have e9:=hu.le aR
  have dm:=hr.le aR
  have fn:=hL.le aR
  have fr:A.n<=(A13.hide [some bo,blk hK]).n:=k2
  generalize hM24:(A13.hide [some bo,blk hK])=M24 at bu aR d1 d0 aG e9 dm fn fr
  refine am.loopD (X:=Nat × List Nat) (fun ⟨i,Ds⟩=>[(1,.pointer (some ⟨bs,0,none⟩)),(2,.pointer (some ⟨b4,0,none⟩)),(3,dw),(10,num (((bx ((g)) rs).length:Nat):Int)),(11,num ((i:Nat):Int))]) (fun ⟨i,Ds⟩=>Ds.map V.mark) (fun ⟨i,Ds⟩ B=>(i<=(bx g rs).length)/\M24.le B/\jt bo A B Ds/\(J (sG rs.length (bx g rs) i 0).length B/\cx bo M24 B)) (fun ⟨i,Ds⟩=>(bx g rs).length - i) (⟨0,[]⟩) (pZ Z Z Z Z Z) Z (⟨(Nat.zero_le _),bu.le,hY,⟨(by rw [show (sG rs.length (bx g rs) 0 0).length=0 from rfl];exact it),bu⟩⟩) ?_
  rintro ⟨i,Ds⟩ B26 ⟨hl_i,dV,bM,hJ_i,hP_i⟩
  refine am.wf fun eA=>?_
  obtain ⟨fV,mT,dD,fN⟩:=hv _ _ hJ_i
  have fI:=AH.le.refl B26
  have k3:=Nat.le_trans fr dV.n
  refine am.seq fun K29 kD=>.region<|.q Z (cd Z Z)<|.nil<|kD _ _<|.seq fun K31 kK=>.if rfl (fun lK=>?_) (fun lK=>?_)
  ·
    refine am.skip<|kK _ _<|.seq fun K34 kL=>.block<|.seq fun K36 kM=>.region<|.q Z (ah Z)<|.l Z (fun _ _ iX _=>cg eA z3 rfl fun A40 eZ b2=>?_)
    have f7:=aU bu.wf (Nat.le_trans dV.n b2.lo)
    have e0:=aU eA (Nat.le_trans fI.n b2.lo)
    have lC:=Nat.le_trans dV.n b2.lo
    have ka:=dV.trans b2.le
    have k7:=fI.trans b2.le
    refine iX _ _<|.l Z (fun _ _ j1 _=>aQ (cs:=[num ((i:Nat):Int)]) (c':=[num ((i:Nat):Int)]) b2.wf rfl rfl rfl rfl c5 b2.get (Nat.le_of_ble_eq_true rfl) rfl rfl fun A45 b7=>?_)
    have b0:=an k7 eA e0 b7.n b7.keep
    have kc:=an ka bu.wf f7 b7.n b7.keep
    refine j1 _ _<|.nil<|kM _ _<|.seq fun K49 kP=>.region<|.q Z (ah Z)<|.q Z (bF (n:=(bx ((g)) rs).length) qE Z (aG.le kc) O (rq _))<|.q Z (ah Z)<|.nil<|kP _ _ ?_
    refine am.block ?_
    have iv:=hclo _ _ _ hJ_i b7.wf b0.n (fun b o _ h=>b0.get b o h)
    have f6:=b0.get _ _ dD
    have n3:=pb b0 fN
    have iN:=hP_i.up b0 dD
    have k4:=Nat.le_trans k3 b0.n
    have hZ:=bM.up b0 dD
    have aS:=cx.full f6 b7.wf
    have a7:=iN.sub f6
    have ar:=a7.get _ _ d1
    have bv:=a7.get _ _ d0
    have a4:=gh b7.get dD fN e0
    have cA:=e9.le a7
    have av:=dm.le a7
    have a5:=aG.le a7
    have ey:=fn.le a7
    have dL:A.n<=(A45.hide [some bo,blk fV]).n:=k4
    generalize hM52:(A45.hide [some bo,blk fV])=M52 at aS a7 ar bv a4 cA av a5 ey dL
    refine am.loopD (X:=Nat × List Nat) (fun ⟨j,Ds⟩=>[(1,.pointer (some ⟨bs,0,none⟩)),(2,.pointer (some ⟨b4,0,none⟩)),(3,dw),(4,.pointer (some ⟨eZ,0,none⟩)),(10,num (((bx ((g)) rs).length:Nat):Int)),(11,num ((i:Nat):Int)),(15,num (((bx ((g)) rs).length:Nat):Int)),(16,num ((j:Nat):Int))]) (fun ⟨j,Ds⟩=>Ds.map V.mark) (fun ⟨j,Ds⟩ B=>(j<=(bx g rs).length)/\M52.le B/\jt bo A B Ds/\(J (sG rs.length (bx g rs) i j).length B/\cx bo M52 B)) (fun ⟨j,Ds⟩=>(bx g rs).length - j) (⟨0,Ds⟩) (yC Z Z Z Z Z Z Z Z) Z (⟨(Nat.zero_le _),aS.le,hZ,⟨iv,aS⟩⟩) ?_
    rintro ⟨j,Ds⟩ B54 ⟨hl_j,cH,bO,hJ_j,hP_j⟩
    refine am.wf fun aA=>?_
    obtain ⟨dW,mV,D,a9⟩:=hv _ _ hJ_j
    have fL:=AH.le.refl B54
    have ez:=Nat.le_trans dL cH.n
    refine am.seq fun K57 kT=>.region<|.q Z (cd Z Z)<|.nil<|kT _ _<|.seq fun K59 kV=>.if rfl (fun lO=>?_) (fun lO=>?_)
    ·
      refine am.skip<|kV _ _<|.seq fun K62 fi=>.block<|.seq fun K64 l0=>.region<|.q Z (ah Z)<|.l Z (fun _ _ j2 _=>cg aA z3 rfl fun A68 eC b3=>?_)
      have f9:=aU aS.wf (Nat.le_trans cH.n b3.lo)
      have bU:=aU aA (Nat.le_trans fL.n b3.lo)
      have lE:=Nat.le_trans cH.n b3.lo
      have kk:=cH.trans b3.le
      have k9:=fL.trans b3.le
      refine j2 _ _<|.l Z (fun _ _ j3 _=>aQ (cs:=[num ((j:Nat):Int)]) (c':=[num ((j:Nat):Int)]) b3.wf rfl rfl rfl rfl c5 b3.get (Nat.le_of_ble_eq_true rfl) rfl rfl fun A73 ai=>?_)
      have a1:=an k9 aA bU ai.n ai.keep
      have ag:=an kk aS.wf f9 ai.n ai.keep
      refine j3 _ _<|.nil<|l0 _ _<|.seq fun K77 hD=>.seq fun K79 hE=>.region<|.q Z (ak eM Z Z (ag.get _ _ a4) Z)<|.q Z (aj er jJ U Z)<|.q Z (ak jR Z Z (ag.get _ _ ar) Z)<|.q Z (bF (n:=rs.length) qq Z (av.le ag) O (dR _)) ?_
      refine Ops.q Z (vK Z Z)<|.q Z (ah Z)<|.part (t:=24) Z (fun lP=>?_) (fun lP=>?_)
      ·
        refine Ops.on Z Z<|.q Z (ak eM Z Z ai.get Z)<|.on Z Z<|.q Z (aj er jJ U Z)<|.on Z Z<|.q Z (ak jR Z Z (ag.get _ _ ar) Z)<|.on Z Z<|.q Z (bF (n:=rs.length) qq Z (av.le ag) O (dR _))<|.on Z Z<|.q Z (vK Z Z) ?_
        refine Ops.q Z (aM Z Z)<|.nil<|hE _ _<|.if rfl (fun lT=>?_) (fun lT=>?_)
        ·
          refine am.exit<|fi _ _<|.region<|.q Z (bE (b:=1) Z Z O)<|.q Z (ah Z)<|.nil ?_
          have iD:=hclo _ _ _ hJ_j ai.wf a1.n (fun b o _ h=>a1.get b o h)
          have mX:=a1.get _ _ D
          have n4:=pb a1 a9
          have iR:=hP_j.up a1 D
          have n1:=Nat.le_trans ez a1.n
          have ih:=bO.up a1 D
          exact ⟨⟨j + 1,Ds⟩,yC Z Z Z Z Z Z Z Z,Z,⟨O,ag,ih,⟨(by rw [Pk ⟨by omega,by omega⟩];exact iD),iR⟩⟩,O1⟩
        ·
          refine am.skip<|hD _ _<|.seq fun K84 l1=>.region<|.q Z (ah Z)<|.q Z (ak eM Z Z (ag.get _ _ a4) Z)<|.q Z (ak eM Z Z ai.get Z)<|.l Z (fun _ _ j4 _=>au Z (yd dw (bx ((g)) rs) i j A73 (a5.le ag)) ?_)
          rintro nq A88 ⟨g1,g2,g3,rfl,eT,bT,dj,dk,dl,d3,dd,di⟩
          have l2:=eT.get _ _ ai.get
          have b1:=a1.trans eT
          have hrwa:=dj
          have hrwb:=dk
          have hrwc:=dl
          have hloa:=d3
          have hlob:=dd
          have hloc:=di
          have en:=aU aA (Nat.le_trans a1.n d3)
          have ev:=aU aA (Nat.le_trans a1.n dd)
          have ex:=aU aA (Nat.le_trans a1.n di)
          refine j4 _ _<|.nil<|l1 _ _<|.block ?_
          have iF:=hclo _ _ _ hJ_j bT b1.n (fun b o _ h=>b1.get b o h)
          have dI:=b1.get _ _ D
          have n6:=pb b1 a9
          have iS:=hP_j.up b1 D
          have k6:=Nat.le_trans ez b1.n
          have ir:=bO.up b1 D
          have ay:=cx.full dI bT
          have a2:=iS.sub dI
          have a8:=a2.get _ _ ar
          have d2:=a2.get _ _ bv
          have bY:=a2.get _ _ a4
          have aV:=gh l2 D a9 bU
          have ba:=gh dj D a9 en
          have bb:=gh dk D a9 ev
          have bc:=gh dl D a9 ex
          have cC:=cA.le a2
          have bB:=av.le a2
          have bD:=a5.le a2
          have fo:=ey.le a2
          have dM:A.n<=(A88.hide [some bo,blk dW]).n:=k6
          generalize hM94:(A88.hide [some bo,blk dW])=M94 at ay a2 a8 d2 bY aV ba bb bc cC bB bD fo dM
          refine am.rangeOwn (M:=M94) bo (eW (bx g rs) i j).length (fun k=>[PQ ((eW (bx g rs) i j).getD k .zero)]) (fun k B=>J ((sG rs.length (bx g rs) i j).length + k) B/\cx bo M94 B) (fun k b6=>[(6,.pointer (some ⟨b6,0,none⟩)),(1,.pointer (some ⟨bs,0,none⟩)),(2,.pointer (some ⟨b4,0,none⟩)),(4,.pointer (some ⟨eZ,0,none⟩)),(5,.pointer (some ⟨eC,0,none⟩)),(20,.pointer (some ⟨bs,2,none⟩)),(26,.pointer (some ⟨bs,2,none⟩))]) (fun k=>.row true [num (((eW (bx g rs) i j).getD k .zero).i),num (((eW (bx g rs) i j).getD k .zero).j),aX (((eW (bx g rs) i j).getD k .zero).word),aX (((eW (bx g rs) i j).getD k .zero).u),aX (((eW (bx g rs) i j).getD k .zero).v)] 5) Z Tryz.call192 (fun _=>rfl) U (bT _ _ dI) ay ?_ ?_ ?_ ?_ ?_ ?_ ?_
          · rintro k B B2 ⟨i1,i2⟩ dz e7 hk
            obtain ⟨v,cc,gq,_⟩:=hv _ _ i1
            exact ⟨hclo _ _ _ i1 dz e7 (fun b o hb h=>hk b o (hb.imp (fun q=>Nat.lt_of_lt_of_le q (Nat.le_trans dM ay.le.n)) id) h),⟨⟨Nat.le_trans i2.le.n e7,fun b o h=>hk b o (.inl (Nat.lt_of_lt_of_le (i2.wf b o h) ay.le.n)) (i2.le.get _ _ h)⟩,i2.wf,fun b hb=>i2.ow b (hb.same (by rw [gq];exact hk bo _ (.inr (.inl Z)) gq))⟩⟩
          · exact fun k B i1=>hv _ _ i1.1
          · exact ⟨iF,ay⟩
          · intro fQ J2 B M4 hnB hleB wfB ap hJI iT aT hyd
            obtain ⟨v,cc,gq,_⟩:=hv _ _ (hJI 0 B aT).1
            have s3:=(hJI 0 B aT).2.sub gq
            exact (wg bo fQ J2 i j (bx g rs) dw _ B g1 g2 g3 _ _ _ _ _ _ (cx.full gq wfB) aT (s3.get _ _ ba) (s3.get _ _ bb) (s3.get _ _ bc) (bD.le s3) O O hne (fun k C M2=>hyd k C M2)).mono (fun v C h=>⟨h.1,h.2.1,h.2.2.mono (ap.sub gq) ap.wf⟩)
          · intro F k B hF_ hk_
            refine ef.wf fun wfB_=>?_
            have hF:=hF_
            refine ef.region hF (by repeat' with_reducible exact iG) Y<|.l Z (fun _ _ k0 _=>cg wfB_ zG rfl fun A97 kp cS=>?_)
            have fd:=aU wfB_ (Nat.le_trans (AH.le.refl B).n cS.lo)
            have fO:=Nat.le_trans (AH.le.refl B).n cS.lo
            have kl:=(AH.le.refl B).trans cS.le
            refine k0 _ _<|.l Z (fun _ _ gS _=>aQ (cs:=[num (((eW (bx g rs) i j).getD k .zero).i),num (((eW (bx g rs) i j).getD k .zero).j),aX (((eW (bx g rs) i j).getD k .zero).word),aX (((eW (bx g rs) i j).getD k .zero).u),aX (((eW (bx g rs) i j).getD k .zero).v)]) (c':=[num (((eW (bx g rs) i j).getD k .zero).i),num (((eW (bx g rs) i j).getD k .zero).j),aX (((eW (bx g rs) i j).getD k .zero).word),aX (((eW (bx g rs) i j).getD k .zero).u),aX (((eW (bx g rs) i j).getD k .zero).v)]) cS.wf rfl rfl rfl rfl jM cS.get (Nat.le_of_ble_eq_true rfl) rfl rfl fun A101 bR=>?_)
            have ho:=an kl wfB_ fd bR.n bR.keep
            refine gS _ _<|.nil ?_
            exact ⟨kp,fO,FJ Z Z Z Z Z Z Z,Z,ho,bR.wf,bR.get⟩
          · rintro F k B b6 M4 hF hk_ ⟨i1,i2⟩ wfB hnB ap fq g6 cV fe
            obtain ⟨vY,cY,gY,lY⟩:=hv _ _ i1
            have lt:A.n<=b6:=Nat.le_trans (Nat.le_trans dM ay.le.n) fq
            have fR:bo ≠ b6:=fun q=>cV (.inl q.symm)
            have lF:blk vY ≠ some b6:=fun q=>cV (.inr ⟨_,_,gY,q⟩)
            have s3:=i2.sub gY
            have e4:M94.get b6=none:=by cases q:M94.get b6 with | none=>rfl | some o=>exact absurd (ay.wf _ _ q) (by have:=ay.le.n;omega)
            have s6:=ci (bs:=[some b6]) s3 (uk e4 oT)
            have jX:=cE B [some b6]
            have m6:((B.hide [some bo,blk vY]).hide [some b6]).le (B.hide [some b6]):=xp (cE _ _)
            have cX:((B.hide [some bo,blk vY]).hide [some b6]).wf:=cm (cm wfB)
            have b5:((B.hide [some bo,blk vY]).hide [some b6]).get b6=none:=cr (by simp)
            have wfX:(B.hide [some b6]).wf:=cm wfB
            have ec:(B.hide [some b6]).get b6=none:=cr (by simp)
            generalize hM6:(B.hide [some bo,blk vY]).hide [some b6]=M6 at s6 m6 cX b5
            have l4:=fo.le s6
            refine ef.block<|.seq fun K104 hN=>.drawn [0,1,3,4,2,6,5,7,8,9] hF (by repeat' first | with_reducible exact iG | with_reducible apply pm | with_reducible apply lj) Y mixed Y Y Z<|.q Z Z Z (aq eR ew Z Z ((m6.trans jX).get _ _ (s6.get _ _ a8)) Z)<|.q Z Z Z (ak eM Z Z ((m6.trans jX).get _ _ (s6.get _ _ bY)) Z) ?_
            have gg:=cG (off:=0) ((m6.trans jX).get _ _ (s6.get _ _ a8)) (show _=some (num (g)) from rfl)
            have gl:=cG (off:=1) ((m6.trans jX).get _ _ (s6.get _ _ a8)) (show _=some (u) from rfl)
            have gm:=cG (off:=2) ((m6.trans jX).get _ _ (s6.get _ _ a8)) (show _=some (rv) from rfl)
            refine bj.q Z Z Z (aq eR ew Z Z ((m6.trans jX).get _ _ (s6.get _ _ a8)) Z) ?_
            have gp:=cG (off:=0) ((m6.trans jX).get _ _ (s6.get _ _ aV)) (show _=some (num ((j:Nat):Int)) from rfl)
            refine bj.q Z Z Z (ak eM Z Z ((m6.trans jX).get _ _ (s6.get _ _ aV)) Z)<|.l Z Z Z (fun _ _ gX _=>au Z (uM ((g)) u l rv rs i B O hn ((cC.le s6).le (m6.trans jX)) ((bB.le s6).le (m6.trans jX))) ?_)
            rintro n7 A116 ⟨rfl,aa,lV⟩
            have hO:=aa.get _ _ g6
            have gs:=bW aa gg
            have gA:=bW aa gl
            have gC:=bW aa gm
            have gD:=bW aa gp
            have dO:=(m6.trans jX).trans aa
            have hf:=jX.trans aa
            refine gX _ _ (be.list (L:=[(⟨eC,0,none⟩,num ((j:Nat):Int)),(⟨bs,0,none⟩,num (g)),(⟨bs,1,none⟩,u),(⟨bs,2,none⟩,rv)]) Y (bg gD (bg gs (bg gA (bg gC bZ)))))<|.q Z Z Z (aj LG c5 U Z)<|.l Z Z Z (fun _ _ h0 _=>au Z (uM ((g)) u l rv rs j A116 O hn ((cC.le s6).le dO) ((bB.le s6).le dO)) ?_)
            rintro n9 A131 ⟨rfl,cK,fX⟩
            have hQ:=cK.get _ _ hO
            have hq:=dO.trans cK
            have hh:=hf.trans cK
            refine h0 _ _ (be.none Y)<|.l Z Z Z (fun _ _ h1 _=>aQ (cs:=[num (nm rs.length i)]) (c':=[num (nm rs.length i),num (((eW (bx g rs) i j).getD k .zero).j),aX (((eW (bx g rs) i j).getD k .zero).word),aX (((eW (bx g rs) i j).getD k .zero).u),aX (((eW (bx g rs) i j).getD k .zero).v)]) fX rfl rfl rfl rfl c5 hQ (Nat.le_of_ble_eq_true rfl) rfl rfl fun A141 aI=>?_)
            have hi:=an hh wfX ec aI.n aI.keep
            have hs:=an hq cX b5 aI.n aI.keep
            refine h1 _ _ (be.none Y)<|.q Z Z Z (aj LH c5 U Z)<|.l Z Z Z (fun _ _ h3 _=>aQ (cs:=[num (nm rs.length j)]) (c':=[num (nm rs.length i),num (nm rs.length j),aX (((eW (bx g rs) i j).getD k .zero).word),aX (((eW (bx g rs) i j).getD k .zero).u),aX (((eW (bx g rs) i j).getD k .zero).v)]) aI.wf rfl rfl rfl rfl c5 aI.get (Nat.le_of_ble_eq_true rfl) rfl rfl fun A146 ac=>?_)
            have bl:=an hi wfX ec ac.n ac.keep
            have ht:=an hs cX b5 ac.n ac.keep
            refine h3 _ _ (be.none Y)<|.done<|hN _ _<|.seq fun K150 hR=>?_
            have g9:=hclo _ _ _ i1 ac.wf bl.n (fun b o hb h=>bl.get b o (bQ h (qz (fun q=>by subst q;rcases hb with hb | hb;omega;exact cV hb) mI)))
            have dJ:=bl.get _ _ (bQ gY (qz fR mI))
            have fS:=KB (n:=rs.length) (L:=(bx g rs)) (i:=i) (j:=j) (k:=k) O O O hk_
            have eN:=hy _ _ _ fS.1 ac.wf g9 (cx.full dJ ac.wf)
            rw [show bk g rs=pr rs.length (bx g rs) from rfl,fS.2] at eN
            refine ef.regionJ ?_
            refine jL.q hF Z Z (ak RY Z Z (ht.get _ _ (s6.get _ _ d2)) Z) ?_
            refine jL.q hF Z Z (aq uh jM Z Z ac.get Z) ?_
            refine jL.y hF rfl rfl rfl (eN) fun nb A154 hc=>?_
            obtain ⟨rfl,hJz,wfz,hPz⟩:=hc
            skip
            refine jL.q hF Z Z (eu Z) ?_
            refine jL.nil ?_
            refine hR _ _<|.cond_false Z<|.skip ?_
            exact ⟨⟨hJz,(hPz.mono (ci ((ci (bs:=[some b6]) i2.le (uk e4 oT)).trans bl) (r8 i2 gY dJ)) i2.wf)⟩,wfz,(hPz.mono (ci ((ci (bs:=[some b6]) ap.le (uk fe oT)).trans bl) (r8 ap gY dJ)) ap.wf)⟩
          · rintro B156 D156 ⟨i1,i2⟩ mK ft lw g4 fD b8
            have fl:=jt.push ir dI (by rw [hM94];exact b8) bT (Nat.le_trans dM ay.le.n) ft g4 fD
            have e5:J (sG rs.length (bx g rs) i (j + 1)).length B156:=by rw [KE O];exact i1
            obtain ⟨mB,lX,m2,mm⟩:=hv _ _ e5
            have mb:=Nat.le_trans dL (a2.trans b8.le).n
            refine fi _ _<|.region<|.q Z (bE (b:=1) Z Z O)<|.q Z (ah Z)<|.nil ?_
            exact ⟨⟨j + 1,D156 :: Ds⟩,yC Z Z Z Z Z Z Z Z,Z,⟨O,(a2.trans b8.le),fl,⟨e5,(b8.mono a2 aS.wf)⟩⟩,O1⟩
      ·
        refine Ops.off Z Z Z Z<|.off Z Z Z Z<|.off Z Z Z Z<|.off Z Z Z Z<|.off Z Z Z Z<|.q Z (aW Z Z)<|.nil<|hE _ _<|.cond_false Z<|.skip ?_
        refine hD _ _<|.seq fun K158 hS=>.region<|.q Z (ah Z)<|.q Z (ak eM Z Z (ag.get _ _ a4) Z)<|.q Z (ak eM Z Z ai.get Z)<|.l Z (fun _ _ h4 _=>au Z (yd dw (bx ((g)) rs) i j A73 (a5.le ag)) ?_)
        rintro nc A162 ⟨f0,f1,f2,rfl,ea,br,ch,ck,cv,c3,c4,c7⟩
        have hT:=ea.get _ _ ai.get
        have az:=a1.trans ea
        have hrwa:=ch
        have hrwb:=ck
        have hrwc:=cv
        have hloa:=c3
        have hlob:=c4
        have hloc:=c7
        have e1:=aU aA (Nat.le_trans a1.n c3)
        have e2:=aU aA (Nat.le_trans a1.n c4)
        have e3:=aU aA (Nat.le_trans a1.n c7)
        refine h4 _ _<|.nil<|hS _ _<|.block ?_
        have gc:=hclo _ _ _ hJ_j br az.n (fun b o _ h=>az.get b o h)
        have bL:=az.get _ _ D
        have mt:=pb az a9
        have gf:=hP_j.up az D
        have he:=Nat.le_trans ez az.n
        have g8:=bO.up az D
        have a6:=cx.full bL br
        have a0:=gf.sub bL
        have a3:=a0.get _ _ ar
        have bV:=a0.get _ _ bv
        have bC:=a0.get _ _ a4
        have aB:=gh hT D a9 bU
        have aC:=gh ch D a9 e1
        have aD:=gh ck D a9 e2
        have aF:=gh cv D a9 e3
        have bA:=cA.le a0
        have aY:=av.le a0
        have bd:=a5.le a0
        have eL:=ey.le a0
        have bP:A.n<=(A162.hide [some bo,blk dW]).n:=he
        generalize hM168:(A162.hide [some bo,blk dW])=M168 at a6 a0 a3 bV bC aB aC aD aF bA aY bd eL bP
        refine am.rangeOwn (M:=M168) bo (eW (bx g rs) i j).length (fun k=>[PQ ((eW (bx g rs) i j).getD k .zero)]) (fun k B=>J ((sG rs.length (bx g rs) i j).length + k) B/\cx bo M168 B) (fun k b6=>[(6,.pointer (some ⟨b6,0,none⟩)),(1,.pointer (some ⟨bs,0,none⟩)),(2,.pointer (some ⟨b4,0,none⟩)),(4,.pointer (some ⟨eZ,0,none⟩)),(5,.pointer (some ⟨eC,0,none⟩)),(20,.pointer (some ⟨bs,2,none⟩))]) (fun k=>.row true [num (((eW (bx g rs) i j).getD k .zero).i),num (((eW (bx g rs) i j).getD k .zero).j),aX (((eW (bx g rs) i j).getD k .zero).word),aX (((eW (bx g rs) i j).getD k .zero).u),aX (((eW (bx g rs) i j).getD k .zero).v)] 5) Z Tryz.call192 (fun _=>rfl) U (br _ _ bL) a6 ?_ ?_ ?_ ?_ ?_ ?_ ?_
        · rintro k B B2 ⟨i1,i2⟩ dz e7 hk
          obtain ⟨v,cc,gq,_⟩:=hv _ _ i1
          exact ⟨hclo _ _ _ i1 dz e7 (fun b o hb h=>hk b o (hb.imp (fun q=>Nat.lt_of_lt_of_le q (Nat.le_trans bP a6.le.n)) id) h),⟨⟨Nat.le_trans i2.le.n e7,fun b o h=>hk b o (.inl (Nat.lt_of_lt_of_le (i2.wf b o h) a6.le.n)) (i2.le.get _ _ h)⟩,i2.wf,fun b hb=>i2.ow b (hb.same (by rw [gq];exact hk bo _ (.inr (.inl Z)) gq))⟩⟩
        · exact fun k B i1=>hv _ _ i1.1
        · exact ⟨gc,a6⟩
        · intro fQ J2 B M4 hnB hleB wfB ap hJI iT aT hyd
          obtain ⟨v,cc,gq,_⟩:=hv _ _ (hJI 0 B aT).1
          have s3:=(hJI 0 B aT).2.sub gq
          exact (wg bo fQ J2 i j (bx g rs) dw _ B f0 f1 f2 _ _ _ _ _ _ (cx.full gq wfB) aT (s3.get _ _ aC) (s3.get _ _ aD) (s3.get _ _ aF) (bd.le s3) O O hne (fun k C M2=>hyd k C M2)).mono (fun v C h=>⟨h.1,h.2.1,h.2.2.mono (ap.sub gq) ap.wf⟩)
        · intro F k B hF_ hk_
          refine ef.wf fun wfB_=>?_
          have hF:=hF_
          refine ef.region hF (by repeat' with_reducible exact iG) Y<|.l Z (fun _ _ h5 _=>cg wfB_ zG rfl fun A171 hM bp=>?_)
          have eX:=aU wfB_ (Nat.le_trans (AH.le.refl B).n bp.lo)
          have eY:=Nat.le_trans (AH.le.refl B).n bp.lo
          have hx:=(AH.le.refl B).trans bp.le
          refine h5 _ _<|.l Z (fun _ _ h6 _=>aQ (cs:=[num (((eW (bx g rs) i j).getD k .zero).i),num (((eW (bx g rs) i j).getD k .zero).j),aX (((eW (bx g rs) i j).getD k .zero).word),aX (((eW (bx g rs) i j).getD k .zero).u),aX (((eW (bx g rs) i j).getD k .zero).v)]) (c':=[num (((eW (bx g rs) i j).getD k .zero).i),num (((eW (bx g rs) i j).getD k .zero).j),aX (((eW (bx g rs) i j).getD k .zero).word),aX (((eW (bx g rs) i j).getD k .zero).u),aX (((eW (bx g rs) i j).getD k .zero).v)]) bp.wf rfl rfl rfl rfl jM bp.get (Nat.le_of_ble_eq_true rfl) rfl rfl fun A175 bS=>?_)
          have hz:=an hx wfB_ eX bS.n bS.keep
          refine h6 _ _<|.nil ?_
          exact ⟨hM,eY,zE Z Z Z Z Z Z,Z,hz,bS.wf,bS.get⟩
        · rintro F k B b6 M4 hF hk_ ⟨i1,i2⟩ wfB hnB ap fq g6 cV fe
          obtain ⟨vY,cY,gY,lY⟩:=hv _ _ i1
          have lt:A.n<=b6:=Nat.le_trans (Nat.le_trans bP a6.le.n) fq
          have fR:bo ≠ b6:=fun q=>cV (.inl q.symm)
          have lF:blk vY ≠ some b6:=fun q=>cV (.inr ⟨_,_,gY,q⟩)
          have s3:=i2.sub gY
          have e4:M168.get b6=none:=by cases q:M168.get b6 with | none=>rfl | some o=>exact absurd (a6.wf _ _ q) (by have:=a6.le.n;omega)
          have s6:=ci (bs:=[some b6]) s3 (uk e4 oT)
          have jX:=cE B [some b6]
          have m6:((B.hide [some bo,blk vY]).hide [some b6]).le (B.hide [some b6]):=xp (cE _ _)
          have cX:((B.hide [some bo,blk vY]).hide [some b6]).wf:=cm (cm wfB)
          have b5:((B.hide [some bo,blk vY]).hide [some b6]).get b6=none:=cr (by simp)
          have wfX:(B.hide [some b6]).wf:=cm wfB
          have ec:(B.hide [some b6]).get b6=none:=cr (by simp)
          generalize hM6:(B.hide [some bo,blk vY]).hide [some b6]=M6 at s6 m6 cX b5
          have l4:=eL.le s6
          refine ef.block<|.seq fun K178 hU=>.drawn [0,1,3,4,2,6,5,7,8,9] hF (by repeat' first | with_reducible exact iG | with_reducible apply pm | with_reducible apply lj) Y mixed Y Y Z<|.q Z Z Z (aq eR ew Z Z ((m6.trans jX).get _ _ (s6.get _ _ a3)) Z)<|.q Z Z Z (ak eM Z Z ((m6.trans jX).get _ _ (s6.get _ _ bC)) Z) ?_
          have gE:=cG (off:=0) ((m6.trans jX).get _ _ (s6.get _ _ a3)) (show _=some (num (g)) from rfl)
          have gF:=cG (off:=1) ((m6.trans jX).get _ _ (s6.get _ _ a3)) (show _=some (u) from rfl)
          have gG:=cG (off:=2) ((m6.trans jX).get _ _ (s6.get _ _ a3)) (show _=some (rv) from rfl)
          refine bj.q Z Z Z (aq eR ew Z Z ((m6.trans jX).get _ _ (s6.get _ _ a3)) Z) ?_
          have gL:=cG (off:=0) ((m6.trans jX).get _ _ (s6.get _ _ aB)) (show _=some (num ((j:Nat):Int)) from rfl)
          refine bj.q Z Z Z (ak eM Z Z ((m6.trans jX).get _ _ (s6.get _ _ aB)) Z)<|.l Z Z Z (fun _ _ h7 _=>au Z (uM ((g)) u l rv rs i B O hn ((bA.le s6).le (m6.trans jX)) ((aY.le s6).le (m6.trans jX))) ?_)
          rintro nj A190 ⟨rfl,ab,lW⟩
          have hV:=ab.get _ _ g6
          have gM:=bW ab gE
          have gN:=bW ab gF
          have gP:=bW ab gG
          have gQ:=bW ab gL
          have dS:=(m6.trans jX).trans ab
          have hj:=jX.trans ab
          refine h7 _ _ (be.list (L:=[(⟨eC,0,none⟩,num ((j:Nat):Int)),(⟨bs,0,none⟩,num (g)),(⟨bs,1,none⟩,u),(⟨bs,2,none⟩,rv)]) Y (bg gQ (bg gM (bg gN (bg gP bZ)))))<|.q Z Z Z (aj LG c5 U Z)<|.l Z Z Z (fun _ _ h8 _=>au Z (uM ((g)) u l rv rs j A190 O hn ((bA.le s6).le dS) ((aY.le s6).le dS)) ?_)
          rintro nk A205 ⟨rfl,cP,g0⟩
          have hW:=cP.get _ _ hV
          have hA:=dS.trans cP
          have hl:=hj.trans cP
          refine h8 _ _ (be.none Y)<|.l Z Z Z (fun _ _ h9 _=>aQ (cs:=[num (nm rs.length i)]) (c':=[num (nm rs.length i),num (((eW (bx g rs) i j).getD k .zero).j),aX (((eW (bx g rs) i j).getD k .zero).word),aX (((eW (bx g rs) i j).getD k .zero).u),aX (((eW (bx g rs) i j).getD k .zero).v)]) g0 rfl rfl rfl rfl c5 hW (Nat.le_of_ble_eq_true rfl) rfl rfl fun A215 aP=>?_)
          have hm:=an hl wfX ec aP.n aP.keep
          have hB:=an hA cX b5 aP.n aP.keep
          refine h9 _ _ (be.none Y)<|.q Z Z Z (aj LH c5 U Z)<|.l Z Z Z (fun _ _ ha _=>aQ (cs:=[num (nm rs.length j)]) (c':=[num (nm rs.length i),num (nm rs.length j),aX (((eW (bx g rs) i j).getD k .zero).word),aX (((eW (bx g rs) i j).getD k .zero).u),aX (((eW (bx g rs) i j).getD k .zero).v)]) aP.wf rfl rfl rfl rfl c5 aP.get (Nat.le_of_ble_eq_true rfl) rfl rfl fun A220 ad=>?_)
          have bm:=an hm wfX ec ad.n ad.keep
          have hC:=an hB cX b5 ad.n ad.keep
          refine ha _ _ (be.none Y)<|.done<|hU _ _<|.seq fun K224 hX=>?_
          have ge:=hclo _ _ _ i1 ad.wf bm.n (fun b o hb h=>bm.get b o (bQ h (qz (fun q=>by subst q;rcases hb with hb | hb;omega;exact cV hb) mI)))
          have dK:=bm.get _ _ (bQ gY (qz fR mI))
          have fT:=KB (n:=rs.length) (L:=(bx g rs)) (i:=i) (j:=j) (k:=k) O O O hk_
          have eQ:=hy _ _ _ fT.1 ad.wf ge (cx.full dK ad.wf)
          rw [show bk g rs=pr rs.length (bx g rs) from rfl,fT.2] at eQ
          refine ef.regionJ ?_
          refine jL.q hF Z Z (ak RY Z Z (hC.get _ _ (s6.get _ _ bV)) Z) ?_
          refine jL.q hF Z Z (aq uh jM Z Z ad.get Z) ?_
          refine jL.y hF rfl rfl rfl (eQ) fun nl A228 hd=>?_
          obtain ⟨rfl,hJz,wfz,hPz⟩:=hd
          skip
          refine jL.q hF Z Z (eu Z) ?_
          refine jL.nil ?_
          refine hX _ _<|.cond_false Z<|.skip ?_
          exact ⟨⟨hJz,(hPz.mono (ci ((ci (bs:=[some b6]) i2.le (uk e4 oT)).trans bm) (r8 i2 gY dK)) i2.wf)⟩,wfz,(hPz.mono (ci ((ci (bs:=[some b6]) ap.le (uk fe oT)).trans bm) (r8 ap gY dK)) ap.wf)⟩
        · rintro B230 D230 ⟨i1,i2⟩ mM fv lB g5 fE b9
          have fm:=jt.push g8 bL (by rw [hM168];exact b9) br (Nat.le_trans bP a6.le.n) fv g5 fE
          have e6:J (sG rs.length (bx g rs) i (j + 1)).length B230:=by rw [KE O];exact i1
          obtain ⟨mE,m1,m3,mv⟩:=hv _ _ e6
          have me:=Nat.le_trans dL (a0.trans b9.le).n
          refine fi _ _<|.region<|.q Z (bE (b:=1) Z Z O)<|.q Z (ah Z)<|.nil ?_
          exact ⟨⟨j + 1,D230 :: Ds⟩,yC Z Z Z Z Z Z Z Z,Z,⟨O,(a0.trans b9.le),fm,⟨e6,(b9.mono a0 aS.wf)⟩⟩,O1⟩
    ·
      refine am.exit<|kL _ _<|.region<|.q Z (bE (b:=1) Z Z O)<|.q Z (ah Z)<|.nil ?_
      exact ⟨⟨i + 1,Ds⟩,pZ Z Z Z Z Z,Z,⟨O,(a7.trans cH),bO,⟨(by rw [CZ,show (bx g rs).length=j by omega];exact hJ_j),(hP_j.mono a7 bu.wf)⟩⟩,O1⟩
  ·
    refine am.exit ?_
    (repeat first | with_reducible refine bz ?_ | with_reducible refine bi ?_);(repeat first | with_reducible refine fb ?_ | with_reducible refine eo ?_ | with_reducible refine dY U ?_ | with_reducible refine d4 ?_ | with_reducible refine dn ?_);obtain ⟨vZ,cZ,gZ,lZ⟩:=hv _ _ hJ_i;refine ⟨Ds,rfl,bM.nd,bM.get,[],fun A2 dz lb l6=>?_⟩;obtain ⟨z1,z2⟩:=bM.leave hP.le wf (hP_i.mono aR hP.wf) gZ lb l6;exact ⟨Z,_,Z,(by rw [show bk g rs=sG rs.length (bx g rs) i 0 from by rw [show i=(bx g rs).length by omega,Kz];rfl];exact hclo _ _ _ hJ_i dz O z2),dz,z1⟩

theorem Ry (g:Int) (u:Value) (l:List (List UInt8)) (rv:Value) (rs:List bf) (A:AH) (hu:bK A 1 u (d5 l)) (hr:bK A 3 rv (c9 rs)):bH Tryz.prog 125 #[.agg #[num (g),u,rv]] A (fun v A1=>∃ b,v=.func (.func 164) #[] #[.pointer (some ⟨b,0,none⟩)]/\A.le A1/\A1.wf/\A1.get b=some (.row true [num g,u,rv] 3)/\A.get b=none):=by
 refine ia Tryz.call125 Tryz.func125 Z Tryz.results125 Tryz.ntmps125 Z (fun wf=>?_);have V:=AH.le.refl A;refine am.seq fun _ h2=>.region<|.l Z (fun _ _ X _=>dQ wf rfl rfl fun A5 b4 h=>?_);have D:=aU wf (Nat.le_trans V.n h.lo);have a0:=V.trans h.le;refine X _ _<|.q Z (ae Z)<|.nil<|h2 _ _<|.seq fun _ h9=>.region<|.q Z (ml Z Z)<|.q Z (ae Z)<|.nil<|h9 _ _ ?_;refine am.ret ?_;repeat first | with_reducible refine bz ?_ | with_reducible refine bi ?_
 exact aJ Z (⟨b4,Z,a0,h.wf,h.get,D⟩)

theorem Ob (g:Int) (u:Value) (l:List (List UInt8)) (rv:Value) (rs:List bf) (A:AH) (hg:1<=g/\g<=8) (hn:rs.length<=1000000) (hw:∀ r ∈ rs,0 < r.left.length/\r.left.length<=1000/\r.right.length<=1000) (hmx:(bk g rs).length<=50000) (hL:gJ A) (hu:bK A 1 u (d5 l)) (hr:bK A 3 rv (c9 rs)) (hp:Proofs A rs):bH Tryz.prog 88 #[.agg #[num (g),u,rv]] A (fun v A1=>∃ w,v=.tuple #[w,.bool true]/\A.le A1/\A1.wf/\Fresh A A1 w 5 (Dg (bk g rs))):=by
  refine enterM (e:=[(0,.agg #[num (g),u,rv])]) (args:=[.agg #[num (g),u,rv]]) Tryz.call88 Tryz.func88 Z Tryz.results88 Tryz.ntmps88 Z Z Z (fun wf=>?_)
  have c4:=AH.le.refl A
  have df_:TX A A []:=⟨List.Pairwise.nil,fun _ h=>by cases h⟩
  refine am.seq fun K1 h2=>.region<|.l Z (fun _ _ e5 _=>dQ wf rfl rfl fun A5 b4 aV=>?_)
  have eA:=Nat.le_trans c4.n aV.lo
  have bc:=c4.trans aV.le
  refine e5 _ _<|.l Z (fun _ _ e6 _=>cg aV.wf VQ rfl fun A10 b9 a3=>?_)
  have bD:=aU wf (Nat.le_trans bc.n a3.lo)
  have eC:=Nat.le_trans bc.n a3.lo
  have dJ:=a3.le.get _ _ aV.get
  have aP:=bc.trans a3.le
  refine e6 _ _<|.l Z (fun _ _ cS _=>cg a3.wf z4 rfl fun A16 aY X=>?_)
  have ac:=ne_new a3.wf a3.get X.lo
  have b2:=aU wf (Nat.le_trans aP.n X.lo)
  have ea:=Nat.le_trans aP.n X.lo
  have bS:=X.le.get _ _ dJ
  have bT:=X.le.get _ _ a3.get
  have aR:=aP.trans X.le
  refine cS _ _<|.nil<|h2 _ _<|.seq fun K21 dK=>.region<|.l Z (fun _ _ cV _=>cg X.wf VQ rfl fun A25 D a1=>?_)
  have aG:=ne_new X.wf bS a1.lo
  have aI:=ne_new X.wf bT a1.lo
  have aB:=ne_new X.wf X.get a1.lo
  have b3:=aU wf (Nat.le_trans aR.n a1.lo)
  have ec:=Nat.le_trans aR.n a1.lo
  have b7:=a1.le.get _ _ bS
  have bU:=a1.le.get _ _ bT
  have bV:=a1.le.get _ _ X.get
  have aS:=aR.trans a1.le
  refine cV _ _<|.nil<|dK _ _<|.seq fun K31 dL=>.seq fun K33 dM=>.region<|.q Z (aq eR ew Z Z b7 Z)<|.l Z (fun _ _ cX _=>au Z (Ry ((g)) u l rv rs A25 (hu.le aS) (hr.le aS)) ?_)
  rintro eT A37 ⟨a4,rfl,a7,ai,az,a2⟩
  have dO:=a7.get _ _ b7
  have dS:=a7.get _ _ bU
  have dV:=a7.get _ _ bV
  have aD:=a7.get _ _ a1.get
  have bb:=aS.trans a7
  have hrow:=az
  have hno:=a2
  have bA:b4 ≠ a4:=fun z=>by have q0:=b7;rw [z,a2] at q0;cases q0
  have bB:b9 ≠ a4:=fun z=>by have q0:=bU;rw [z,a2] at q0;cases q0
  have bp:aY ≠ a4:=fun z=>by have q0:=bV;rw [z,a2] at q0;cases q0
  have ay:D ≠ a4:=fun z=>by have q0:=a1.get;rw [z,a2] at q0;cases q0
  refine cX _ _<|.nil<|dM _ _<|.block ?_
  have V:=cx.full aD ai
  have hLM:=ci (bs:=[some D,blk (.slice none 0 0)]) bb (fun b hb=>by simp only [List.mem_cons,List.not_mem_nil,or_false,Option.some.injEq,blk] at hb;rcases hb with rfl | hb;exact b3;cases hb)
  have bP:=Fresh.nil (A37.hide [some D,blk (.slice none 0 0)]) A37 5
  have ad:=bQ (bs:=[some D,blk (.slice none 0 0)]) dO (qz (aG) (nY (fun q=>by cases q) mI))
  have ag:=bQ (bs:=[some D,blk (.slice none 0 0)]) dS (qz (aI) (nY (fun q=>by cases q) mI))
  have a6:=bQ (bs:=[some D,blk (.slice none 0 0)]) dV (qz (aB) (nY (fun q=>by cases q) mI))
  have a0:=bQ (bs:=[some D,blk (.slice none 0 0)]) az (qz (ay.symm) (nY (fun q=>by cases q) mI))
  generalize hM0:(A37.hide [some D,blk (.slice none 0 0)])=M at V hLM bP ad ag a6 a0
  have hvI:∀ (k:Nat) (B:AH),(M.le B/\∃ v,B.get D=some (.row true [v] 1)/\Fresh M B v 5 (Dg ((bk g rs).take k))/\blk v ≠ some D)->∃ v cap,B.get D=some (.row true [v] cap)/\∀ b,blk v=some b->∃ o,B.get b=some o:=fun k B ⟨_,v,g1,f1,_⟩=>⟨v,1,g1,fun b hb=>f1.own.blkget hb⟩
  refine am.rangeOwn (M:=M) D (bk g rs).length (fun k=>[PQ ((bk g rs).getD k .zero)]) (fun k B=>(M.le B/\∃ v,B.get D=some (.row true [v] 1)/\Fresh M B v 5 (Dg ((bk g rs).take k))/\blk v ≠ some D)) (fun k b6=>[(5,.pointer (some ⟨b6,0,none⟩)),(1,.pointer (some ⟨b4,0,none⟩)),(2,.pointer (some ⟨b9,0,none⟩)),(3,.pointer (some ⟨aY,0,none⟩)),(4,.pointer (some ⟨D,0,none⟩))]) (fun k=>.row true [num (((bk g rs).getD k .zero).i),num (((bk g rs).getD k .zero).j),aX (((bk g rs).getD k .zero).word),aX (((bk g rs).getD k .zero).u),aX (((bk g rs).getD k .zero).v)] 5) Z Tryz.call164 (fun _=>rfl) U (ai _ _ aD) V ?_ hvI ?_ ?_ ?_ ?_ ?_
  · rintro k B B2 ⟨i1,v,g1,f1,n1⟩ cv e9 hk
    exact ⟨⟨Nat.le_trans i1.n e9,fun b o h=>hk b o (.inl (Nat.lt_of_lt_of_le (V.wf b o h) V.le.n)) (i1.get _ _ h)⟩,v,hk _ _ (.inr (.inl rfl)) g1,f1.owk (fun b o hb h=>hk b o (.inr (.inr ⟨v,1,g1,hb⟩)) h),n1⟩
  · exact ⟨V.le,_,aD,bP,fun q=>by cases q⟩
  · intro en J2 B M4 hnB hleB wfB aF hJI cP aA hyd
    obtain ⟨v,cc,gq,_⟩:=hvI _ _ (hJI 0 B aA)
    have s3:M.le (B.hide [some D,blk v]):=ci (hJI 0 B aA).1 (fun b hb=>by obtain ⟨_,w,g1,f1,_⟩:=hJI 0 B aA;rw [g1] at gq;cases gq;simp only [List.mem_cons,List.not_mem_nil,or_false,Option.some.injEq] at hb;rcases hb with rfl | hb;exact V.ow _ (.inl Z);exact f1.lo b hb.symm)
    exact (Oe D en J2 g u l rv rs _ B a4 _ _ (cx.full gq wfB) aA (s3.get _ _ a0) ((hL.le hLM).le s3) ((hu.le hLM).le s3) ((hr.le hLM).le s3) ((hp.le hLM).le s3) hg hn hw (fun i C C2 j1 j2 j3 j4=>cP i C C2 j1 j2 j3 j4) (fun i C j1=>hvI i C (hJI i C j1)) (wfB _ _ gq) (fun k C M2=>hyd k C M2)).mono (fun v C h=>⟨h.1,h.2.1,h.2.2.mono (aF.sub gq) aF.wf⟩)
  · intro F k B hF_ hk_
    refine ef.wf fun wfB_=>?_
    have hF:=hF_
    refine ef.region hF (by repeat' with_reducible exact iG) Y<|.l Z (fun _ _ cZ _=>cg wfB_ zG rfl fun A46 dI ar=>?_)
    have b5:=aU wfB_ (Nat.le_trans (AH.le.refl B).n ar.lo)
    have bl:=Nat.le_trans (AH.le.refl B).n ar.lo
    have dk:=(AH.le.refl B).trans ar.le
    refine cZ _ _<|.l Z (fun _ _ d0 _=>aQ (cs:=[num (((bk g rs).getD k .zero).i),num (((bk g rs).getD k .zero).j),aX (((bk g rs).getD k .zero).word),aX (((bk g rs).getD k .zero).u),aX (((bk g rs).getD k .zero).v)]) (c':=[num (((bk g rs).getD k .zero).i),num (((bk g rs).getD k .zero).j),aX (((bk g rs).getD k .zero).word),aX (((bk g rs).getD k .zero).u),aX (((bk g rs).getD k .zero).v)]) ar.wf rfl rfl rfl rfl jM ar.get (Nat.le_of_ble_eq_true rfl) rfl rfl fun A50 aC=>?_)
    have dl:=an dk wfB_ b5 aC.n aC.keep
    refine d0 _ _<|.nil ?_
    exact ⟨dI,bl,pZ Z Z Z Z Z,Z,dl,aC.wf,aC.get⟩
  · rintro F k B b6 M4 hF hk_ ⟨i1,v,g1,f1,n1⟩ wfB hnB aF eS g6 ch eN
    have s3:M.le (B.hide [some D,blk v]):=ci i1 (fun b hb=>by simp only [List.mem_cons,List.not_mem_nil,or_false,Option.some.injEq] at hb;rcases hb with rfl | hb;exact V.ow _ (.inl Z);exact f1.lo b hb.symm)
    have s4:=aF.sub g1
    have leX:=cE B [some D,blk v]
    have wfX:(B.hide [some D,blk v]).wf:=cm wfB
    have noX:(B.hide [some D,blk v]).get D=none:=cr (by simp)
    have fX:Fresh (B.hide [some D,blk v]) B v 5 (Dg ((bk g rs).take k)):=f1.hide (by simp)
    have bR:(B.hide [some D,blk v]).get b6=some (.row true [num (((bk g rs).getD k .zero).i),num (((bk g rs).getD k .zero).j),aX (((bk g rs).getD k .zero).word),aX (((bk g rs).getD k .zero).u),aX (((bk g rs).getD k .zero).v)] 5):=bQ g6 (qz (fun q=>ch (.inl q)) (nY (fun q=>ch (.inr ⟨_,_,g1,q⟩)) mI))
    generalize hMX:B.hide [some D,blk v]=MX at s3 s4 leX wfX noX fX bR
    have htk:((bk g rs).take k).length=k:=by rw [List.length_take];omega
    refine ef.block<|.seq fun K53 dW=>.seq fun K55 dZ=>.region hF (by repeat' first | with_reducible exact iG | with_reducible apply pm | with_reducible apply lj) Y<|.q Z (ak Pu Z Z g1 Z)<|.q Z (bF (n:=((bk g rs).take k).length) TQ Z fX.slc O (FC _))<|.q Z (ku (b:=50000) Z Z)<|.nil<|dZ _ _<|.if rfl (fun ev=>?_) (fun ev=>?_)
    ·
      refine ef.seq fun K58 eQ=>?_
      exact absurd ‹_› O
    ·
      refine ef.skip<|dW _ _<|.region hF (by repeat' first | with_reducible exact iG | with_reducible apply lj) Y<|.q Z (ak Pu Z Z g1 Z)<|.q Z (aq uh jM Z Z (leX.get _ _ bR) Z)<|.l Z (fun _ _ d1 _=>aN (c:=[num (((bk g rs).getD k .zero).i),num (((bk g rs).getD k .zero).j),aX (((bk g rs).getD k .zero).word),aX (((bk g rs).getD k .zero).u),aX (((bk g rs).getD k .zero).v)]) wfB rfl (aw TQ jM zG rfl U U rfl) fun A62 eL a8=>?_)
      have eg:=Nat.le_trans leX.n a8.lo
      have bY:=a8.le.get _ _ g1
      have b0:=fX.le a8.le
      have dm:=leX.trans a8.le
      refine d1 _ _<|.l Z (fun _ _ d2 _=>cF (ys:=[num (((bk g rs).getD k .zero).i),num (((bk g rs).getD k .zero).j),aX (((bk g rs).getD k .zero).word),aX (((bk g rs).getD k .zero).u),aX (((bk g rs).getD k .zero).v)]) rfl rfl TQ jM Uk zG rfl U TQ (fun _ h=>by cases h) b0.own (bN (n:=1) a8.get Z) rfl rfl (by show (_ + _) * 64<=_;simp only [nA,List.length_cons,List.length_nil];(try simp only [List.length_append,List.length_cons,List.length_nil]);omega) (by simp only [nA,List.length_cons,List.length_nil];(try simp only [List.length_append,List.length_cons,List.length_nil]);omega) fun A69 eV ap=>?_)
      rw [show ([num (((bk g rs).getD k .zero).i),num (((bk g rs).getD k .zero).j),aX (((bk g rs).getD k .zero).word),aX (((bk g rs).getD k .zero).u),aX (((bk g rs).getD k .zero).v)]:List Value)=Dg [⟨((bk g rs).getD k .zero).i,((bk g rs).getD k .zero).j,((bk g rs).getD k .zero).word,((bk g rs).getD k .zero).u,((bk g rs).getD k .zero).v⟩] from rfl,Dh] at ap
      obtain ⟨b1,dv⟩:=Fresh.grow b0 dm wfX ap
      have e0:=ap.keep n1 bY
      have bm:=ap.ne n1 a8.wf bY
      refine d2 _ _ ?_
      obtain ⟨ck,c3,bO,ex,_⟩:=b1.own.slice
      subst ex
      refine Ops.l Z (fun _ _ d3 _=>aQ (cs:=[.slice ck c3 bO]) (c':=[.slice ck c3 bO]) ap.wf rfl rfl rfl rfl UR e0 (Nat.le_of_ble_eq_true rfl) rfl rfl fun A80 a9=>?_)
      have cA:=b1.keep a9.keep bm
      have bd:=an dv wfX noX a9.n a9.keep
      refine d3 _ _<|.nil ?_
      have fe:=cw cA (congrArg Dg (f5 (z:=CP.zero) hk_))
      exact ⟨⟨s3.trans bd,_,a9.get,fe.base s3,bm⟩,a9.wf,cx.mono ⟨bd,wfX,fun b hb=>by rcases hb.val a9.get with rfl | q;exact noX;exact fe.lo b q⟩ s4 aF.wf⟩
  · rintro B D0 ⟨i1,v,g1,f1,n1⟩ wfB hnD hnB gD hoD hPM
    have leB:=hLM.trans i1
    have frB:=f1.base hLM
    have hDp:jt D A B [D0]:=jt.push (A:=A) jt.nil aD (by rw [hM0];exact hPM) ai bb.n hnD gD hoD
    have ez:=i1.get _ _ ad
    have bL:=i1.get _ _ ag
    have b8:=i1.get _ _ a6
    have dj:=i1.get _ _ a0
    have eG:=f1.ne V.wf ad
    have bM:=f1.ne V.wf ag
    have br:=f1.ne V.wf a6
    have dD:=f1.ne V.wf a0
    have dz:D0 ≠ b4:=by have:=V.wf _ _ ad;have:=V.le.n;omega
    have av:D0 ≠ b9:=by have:=V.wf _ _ ag;have:=V.le.n;omega
    have ab:D0 ≠ aY:=by have:=V.wf _ _ a6;have:=V.le.n;omega
    have c7:D0 ≠ D:=by have:=ai _ _ aD;omega
    have bv:D0 ≠ a4:=by have:=V.wf _ _ a0;have:=V.le.n;omega
    have nvD:blk v ≠ some D0:=fun q=>hoD (.inr ⟨_,_,g1,q⟩)
    have hlA:A.n<=D0:=Nat.le_trans hLM.n (Nat.le_trans V.le.n hnD)
    refine dL _ _<|.seq fun K84 e1=>.region<|.q Z (ak Pu Z Z g1 Z) ?_
    obtain ⟨bu,ba,aZ,ey,_⟩:=frB.own.slice
    subst ey
    refine Ops.l Z (fun _ _ dd _=>aQ (cs:=[.slice bu ba aZ]) (c':=[.slice bu ba aZ]) wfB rfl rfl rfl rfl UR bL (Nat.le_of_ble_eq_true rfl) rfl rfl fun A88 a5=>?_)
    have e2:=a5.keep _ _ ac.symm b8
    have e3:=a5.keep _ _ av gD
    have cC:=frB.keep a5.keep bM
    have dw:=an leB wf bD a5.n a5.keep
    refine dd _ _<|.l Z (fun _ _ di _=>aQ (cs:=[.bool (true)]) (c':=[.bool (true)]) a5.wf rfl rfl rfl rfl mc e2 (Nat.le_of_ble_eq_true rfl) rfl rfl fun A98 aa=>?_)
    have cH:=aa.keep _ _ ac a5.get
    have cK:=aa.keep _ _ ab e3
    have bC:=cC.keep aa.keep br
    have aT:=an dw wf b2 aa.n aa.keep
    refine di _ _<|.nil<|e1 _ _<|.ret ?_
    (repeat first | with_reducible refine bz ?_ | with_reducible refine bi ?_);(repeat first | with_reducible refine fb ?_ | with_reducible refine eo ?_ | with_reducible refine dY U ?_ | with_reducible refine d4 ?_ | with_reducible refine dn ?_);refine ⟨[D0],rfl,(by simp),(fun E hE=>by rw [List.mem_singleton] at hE;subst hE;exact cK),[.slice bu ba aZ,.bool true],fun A2 cv e7 e4=>?_⟩;have hkD:∀ b o,b ≠ D0->A98.get b=some o->A2.get b=some o:=fun b o hb h=>e4 b o (by simpa using hb) h;exact ⟨gv.cell Z (pk Pu (hkD _ _ av.symm cH) Z) (gv.cell Z (pk ut (hkD _ _ ab.symm aa.get) Z) gv.nil),_,Z,_,Z,⟨by rw [e7];exact aT.n,fun b o h=>hkD b o (by have:=wf _ _ h;omega) (aT.get _ _ h)⟩,cv,(cw bC (congrArg Dg (List.take_length))).owk (fun b o hb h=>hkD b o (fun z=>nvD (by rw [hb,z])) h)⟩
end Go.Proofs.YtjppkekmddjcfaaGreatDoor

namespace Go.Proofs.YtjppkekmddjcfaaGreatDoor
open Go Go.RowKit V
def gH (rs:List bf):List CP->Bool × CP × Nat
  | []=>(true,.zero,0)
  | p :: t=>match fu rs p.u,fu rs p.v with
    | some a,some b=>if a.word=b.word then gH rs t else (false,p,0)
    | _,_=>(false,.zero,2)
def mp (rs:List bf):Bool->List Wd->Bool × Nat
  | t,[]=>(t,0)
  | t,w :: ws=>match fu rs w with
    | none=>(false,2)
    | some r=>mp rs (t && decide (r.word=[])) ws
section
variable {rs:List bf} {l:List CP} {i:Nat} {R:Bool × CP × Nat}
theorem Ou (hi:l.length<=i) (h:gH rs (l.drop i)=R):R=(true,.zero,0):=by
  rw [<- h,List.drop_eq_nil_of_le hi];rfl
theorem tG {α:Type} {l:List α} {i:Nat} {z:α} (hi:i < l.length):l.drop i=l.getD i z :: l.drop (i + 1):=by
  rw [List.drop_eq_getElem_cons hi];simp [hi]
theorem CA (hi:i < l.length) (h:gH rs (l.drop i)=R) (q:(!(fu rs (l.getD i .zero).u).isSome)=true\/(!(fu rs (l.getD i .zero).v).isSome)=true):R=(false,.zero,2):=by
  rw [<- h,tG (z:=CP.zero) hi,gH]
  rcases q with q | q
  · rw [sc q]
  · rw [sc q];cases fu rs (l.getD i .zero).u <;> rfl
theorem Ot (hi:i < l.length) (h:gH rs (l.drop i)=R) (q1:(!(fu rs (l.getD i .zero).u).isSome)=false) (q2:(!(fu rs (l.getD i .zero).v).isSome)=false) (hne:¬ (eh (fu rs (l.getD i .zero).u)).word=(eh (fu rs (l.getD i .zero).v)).word):R=(false,l.getD i .zero,0):=by
  rw [<- h,tG (z:=CP.zero) hi,gH,pC q1,pC q2]
  simp only
  rw [if_neg hne]
theorem JZ (hi:i < l.length) (h:gH rs (l.drop i)=R) (q1:(!(fu rs (l.getD i .zero).u).isSome)=false) (q2:(!(fu rs (l.getD i .zero).v).isSome)=false) (he:¬ ¬ (eh (fu rs (l.getD i .zero).u)).word=(eh (fu rs (l.getD i .zero).v)).word):gH rs (l.drop (i + 1))=R:=by
  rw [<- h,tG (z:=CP.zero) hi]
  conv=>rhs;rw [gH,pC q1,pC q2]
  simp only
  rw [if_pos (Decidable.not_not.1 he)]
end
section
variable {rs:List bf} {l:List Wd} {i:Nat} {t:Bool} {R:Bool × Nat}
theorem yf (hi:l.length<=i) (h:mp rs t (l.drop i)=R):R=(t,0):=by
  rw [<- h,List.drop_eq_nil_of_le hi];rfl
theorem JY (hi:i < l.length) (h:mp rs t (l.drop i)=R) (q:(!(fu rs (l.getD i [])).isSome)=true):R=(false,2):=by
  rw [<- h,tG (z:=[]) hi,mp,sc q]
theorem wj (hi:i < l.length) (h:mp rs t (l.drop i)=R) (q:(!(fu rs (l.getD i [])).isSome)=false):mp rs (t && decide ((eh (fu rs (l.getD i []))).word=[])) (l.drop (i + 1))=R:=by
  rw [<- h,tG (z:=[]) hi]
  conv=>rhs;rw [mp,pC q]
end
def fG (g:Int) (l:List Wd) (rs:List bf):Bool × CP × Nat:=if cj g l rs then gH rs (bk g rs) else (false,.zero,100)
def ny (g:Int) (l:List Wd) (rs:List bf):Bool × Nat:=if (fG g l rs).2.2=0 then (if (mp rs true l).2=0 then ((fG g l rs).1 && (mp rs true l).1,0) else (false,(mp rs true l).2)) else (false,(fG g l rs).2.2)
section
variable {g:Int} {l:List Wd} {rs:List bf}
theorem PM (h:(!cj g l rs)=true):fG g l rs=(false,.zero,100):=by simp_all [fG]
theorem PN (h:(!cj g l rs)=false):fG g l rs=gH rs (bk g rs):=by simp_all [fG]
theorem Lh (h:¬ (fG g l rs).2.2=0):ny g l rs=(false,(fG g l rs).2.2):=by rw [ny,if_neg h]
theorem Li (h:¬ ¬ (fG g l rs).2.2=0) (q:mp rs true l=(false,2)):ny g l rs=(false,2):=by
  rw [ny,if_pos (Decidable.not_not.1 h),q];rfl
theorem zX {t:Bool} (h:¬ ¬ (fG g l rs).2.2=0) (q:mp rs true l=(t,0)):ny g l rs=((fG g l rs).1 && t,0):=by
  rw [ny,if_pos (Decidable.not_not.1 h),q];rfl
theorem sL (h:¬ ¬ (fG g l rs).2.2=0):cj g l rs=true:=by
  have h:=Decidable.not_not.1 h
  cases q:cj g l rs with
  | true=>rfl
  | false=>simp [fG,q] at h
theorem CF (hs:cj g l rs=true):1<=g/\g<=8:=(cR (fB hs).1).1
theorem OE (hs:cj g l rs=true):∀ r ∈ rs,0 < r.left.length/\r.left.length<=1000/\r.right.length<=1000:=fun r hr=>by
  have h1:=lN hs hr
  have h2:=lm hs hr
  omega
end
end Go.Proofs.YtjppkekmddjcfaaGreatDoor

namespace Go.Proofs.YtjppkekmddjcfaaGreatDoor
open Go Go.RowKit V
set_option maxRecDepth 100000
theorem SC:ee Tryz.prog 47 3=some (9,3):=by kernel_rfl
theorem SD:ee Tryz.prog 47 4=some (9,4):=by kernel_rfl

theorem Ro (g:Int) (u:Value) (l:List (List UInt8)) (rv:Value) (rs:List bf) (A:AH) (hs:cj g l rs=true) (hmx:(bk g rs).length<=50000) (hL:gJ A) (hu:bK A 1 u (d5 l)) (hr:bK A 3 rv (c9 rs)) (hp:Proofs A rs):bH Tryz.prog 69 #[.agg #[num (g),u,rv]] A (fun v A1=>v=.tuple #[.bool (gH rs (bk g rs)).1,PQ (gH rs (bk g rs)).2.1,num (((gH rs (bk g rs)).2.2:Nat):Int)]/\A.le A1/\A1.wf):=by
 refine ia Tryz.call69 Tryz.func69 Z Tryz.results69 Tryz.ntmps69 Z (fun wf=>?_);have gX:=AH.le.refl A;refine am.seq fun _ h2=>.region<|.l Z (fun _ _ gP _=>dQ wf rfl rfl fun A5 b4 cS=>?_);have eT:=gX.trans cS.le;refine gP _ _<|.q Z (ae Z)<|.l Z (fun _ _ gQ _=>cg cS.wf zG rfl fun A10 b9 aA=>?_);have aC:=aU wf (Nat.le_trans eT.n aA.lo);have eG:=aA.le.get _ _ cS.get;have az:=eT.trans aA.le;refine gQ _ _<|.q Z (ae Z)<|.nil<|h2 _ _<|.seq fun _ gf=>.region<|.q Z (aq eR ew Z Z eG Z)<|.l Z (fun _ _ fI _=>au Z (Ob ((g)) u l rv rs A10 (CF hs) (su hs) (OE hs) hmx (hL.le az) (hu.le az) (hr.le az) (hp.le az)) ?_);rintro he A18 ⟨bc,rfl,b6,h0,bu⟩;have eL:=b6.get _ _ eG;have eN:=b6.get _ _ aA.get;have aS:=az.trans b6;have bS:=bu.base az;have g0:=bu.ne aA.wf aA.get;refine fI _ _<|.q Z (ah Z)<|.q Z (bh Z Z)<|.q Z (bh Z Z)<|.q Z (ae Z)<|.q Z (ae Z)<|.nil<|gf _ _<|.seq fun _ gg=>.seq fun _ gl=>?_;refine am.region<|.q Z (ah Z)<|.q Z (eu Z)<|.nil<|gl _ _<|.cond_false Z<|.skip<|gg _ _<|.seq fun _ gm=>.region ?_;refine Ops.q Z (aq eR ew Z Z eL Z)<|.l Z (fun _ _ fL _=>au Z (pG ((g)) u l rv rs A18 (su hs) (wo hs) (hu.le aS) (hr.le aS) (hp.le aS)) ?_);rintro hf A34 ⟨h,b8,rfl,b7,ab,b3,aa,aR⟩;have gp:=b7.get _ _ eN;have bT:=bS.le b7;have fT:=aS.trans b7;have hrow:=b3;have hno:=aa;have hix:=aR;have eg:b4 ≠ h:=fun z=>by have q0:=eL;rw [z,aa] at q0;cases q0
 have ar:b9 ≠ h:=fun z=>by have q0:=eN;rw [z,aa] at q0;cases q0
 have b2:=rY aS aa;have g1:=zP bS.own aa;refine fL _ _<|.q Z (ae Z)<|.nil<|gm _ _<|.seq fun _ gq=>.seq fun _ gs=>.region<|.q Z (ah Z)<|.q Z (bF (n:=(bk ((g)) rs).length) TQ Z bT.slc O (FC _))<|.q Z (ah Z) ?_;refine Ops.nil<|gs _ _<|.block<|.loop (X:=Nat × Value × Value × Value × Value × Value × Value) (fun ⟨i,y0,y5,y6,y7,y8,y9⟩=>[(3,.pointer (some ⟨b9,0,none⟩)),(7,.pointer (some ⟨h,0,none⟩)),(24,bc),(25,num (((bk ((g)) rs).length:Nat):Int)),(26,num ((i:Nat):Int))]) (fun ⟨i,y0,y5,y6,y7,y8,y9⟩ B=>(i<=(bk g rs).length/\gH rs ((bk g rs).drop i)=gH rs (bk g rs))/\A.le B/\Fresh A B bc 5 (Dg (bk ((g)) rs))/\B.get h=some (.row true [y0,num ((g)),u,rv,.map (some b8),y5,y6,y7,y8,y9] 10)/\B.get b9=some (.row true [num ((0:Nat):Int),num ((0:Nat):Int),aX ([]),aX ([]),aX ([])] 5)/\V.blk bc ≠ some h/\V.blk bc ≠ some b9/\(A34.hide [some h]).le B) (fun ⟨i,y0,y5,y6,y7,y8,y9⟩=>(bk g rs).length - i) (⟨0,.slice none 0 0,.slice none 0 0,num ((0:Nat):Int),aX ([]),num ((0:Nat):Int),.slice none 0 0⟩) (pZ Z Z Z Z Z) (⟨⟨Nat.zero_le _,Z⟩,fT,bT,b3,gp,g1,g0,(cE A34 [some h])⟩) ?_;rintro ⟨i,y0,y5,y6,y7,y8,y9⟩ B46 ⟨⟨hi,hsc⟩,bp,a9,aB,ay,a2,aY,bv⟩;refine am.wf fun aZ=>.seq fun _ gA=>.region<|.q Z (cd Z Z)<|.nil<|gA _ _<|.seq fun _ gC=>.if rfl (fun gY=>?_) (fun gY=>?_)
 ·refine am.skip<|gC _ _<|.seq fun _ gD=>.block<|.seq fun _ gE=>.region ?_;obtain ⟨h7,ha,h5,hd,h4,hc,hb,gc,gS,ge,eV,h3⟩:=bK.at (i:=i) a9.slc (by simp only [nA];omega) O;refine Ops.q Z (ax TQ jM Z gc Z gS)<|.q Z (aq uh jM Z Z ge (eV.trans (congrArg some (Sk O))))<|.l Z (fun _ _ fM _=>cg aZ zG rfl fun A60 h8 a4=>?_);have a5:=ne_new aZ aB a4.lo;have bd:=ne_new aZ ay a4.lo;have g2:=a9.own.ne_new aZ a4.lo;have bV:=aU wf (Nat.le_trans bp.n a4.lo);have c3:=aU (cm ab) (Nat.le_trans bv.n a4.lo);have gF:=a4.le.get _ _ aB;have gG:=a4.le.get _ _ ay;have eX:=a9.le a4.le;have fV:=bp.trans a4.le;have fR:=bv.trans a4.le;refine fM _ _<|.l Z (fun _ _ fN _=>aQ (cs:=[num (((bk ((g)) rs).getD i .zero).i),num (((bk ((g)) rs).getD i .zero).j),aX (((bk ((g)) rs).getD i .zero).word),aX (((bk ((g)) rs).getD i .zero).u),aX (((bk ((g)) rs).getD i .zero).v)]) (c':=[num (((bk ((g)) rs).getD i .zero).i),num (((bk ((g)) rs).getD i .zero).j),aX (((bk ((g)) rs).getD i .zero).word),aX (((bk ((g)) rs).getD i .zero).u),aX (((bk ((g)) rs).getD i .zero).v)]) a4.wf rfl rfl rfl rfl jM a4.get (Nat.le_of_ble_eq_true rfl) rfl rfl fun A69 a6=>?_);have gL:=a6.keep _ _ a5 gF;have gM:=a6.keep _ _ bd gG;have eY:=eX.keep a6.keep g2;have fS:=an fR (cm ab) c3 a6.n a6.keep;have fX:=an fV wf bV a6.n a6.keep;refine fN _ _<|.nil<|gE _ _<|.seq fun _ gN=>.region<|.q Z (ah Z)<|.q Z (aj SC fc U Z)<|.q Z (ak fP Z Z a6.get Z) ?_;have aT:=ci (bs:=[some h]) fX (uk b2 oT);have cA:=ci (bs:=[some h]) fS (uk (cr (by simp)) oT);refine Ops.l Z (fun _ _ fO _=>au Z (uN (((bk ((g)) rs).getD i .zero).u) rs l h (((g))) u rv b8 y0 y5 y6 y7 y8 y9 (A69.hide [some h]) A69 (cE A69 [some h]) (cm a6.wf) gL (cr (by simp)) hs (hL.le aT) (hr.le aT) (hp.le aT) (aR.le cA)) ?_);rintro hg A80 ⟨gZ,ev,ex,ey,ez,eA,eC,rfl,ap,av,ag,bD,cV⟩;have fD:=bQ (bs:=[some h]) gM (qz ar mI);have eQ:=ap.get _ _ fD;have fE:=bQ (bs:=[some h]) a6.get (qz a5.symm mI);have eS:=ap.get _ _ fE;have bU:=eY.off (kr a2 kq) ap;have eZ:=bD.base aT;have cC:=cA.trans ap;have cP:=aT.trans ap;refine fO _ _<|.q Z (ah Z)<|.q Z (bh Z Z)<|.q Z (bh Z Z)<|.l Z (fun _ _ fQ _=>cg av sy rfl fun A97 h9 a1=>?_);have ad:=ne_new av ag a1.lo;have bl:=ne_new av eQ a1.lo;have ba:=ne_new av eS a1.lo;have g3:=bU.own.ne_new av a1.lo;have bY:=aU wf (Nat.le_trans cP.n a1.lo);have c4:=aU (cm ab) (Nat.le_trans cC.n a1.lo);have f0:=a1.le.get _ _ ag;have f1:=a1.le.get _ _ eQ;have f2:=a1.le.get _ _ eS;have dj:=bU.le a1.le;have dk:=eZ.le a1.le;have e4:=cP.trans a1.le;have e0:=cC.trans a1.le;refine fQ _ _ ?_;obtain ⟨cX,cH,bP,g7,_⟩:=dk.own.slice;subst g7;refine Ops.l Z (fun _ _ dK _=>aQ (cs:=[aX ((eh (fu rs (((bk ((g)) rs).getD i .zero).u))).word),num (((eh (fu rs (((bk ((g)) rs).getD i .zero).u))).steps:Nat):Int),.slice cX cH bP]) (c':=[aX ((eh (fu rs (((bk ((g)) rs).getD i .zero).u))).word),num (((eh (fu rs (((bk ((g)) rs).getD i .zero).u))).steps:Nat):Int),.slice cX cH bP]) a1.wf rfl rfl rfl rfl d6 a1.get (Nat.le_of_ble_eq_true rfl) rfl rfl fun A110 a3=>?_);have f3:=a3.keep _ _ ad f0;have f4:=a3.keep _ _ bl f1;have c7:=a3.keep _ _ ba f2;have dl:=dj.keep a3.keep g3;have e1:=an e0 (cm ab) c4 a3.n a3.keep;have e5:=an e4 wf bY a3.n a3.keep;refine dK _ _<|.q Z (ae Z)<|.nil<|gN _ _<|.seq fun _ f6=>.region<|.q Z (ah Z)<|.q Z (aj SD fc U Z)<|.q Z (ak fP Z Z c7 Z) ?_;have ai:=ci (bs:=[some h]) e5 (uk b2 oT);have bA:=ci (bs:=[some h]) e1 (uk (cr (by simp)) oT);refine Ops.l Z (fun _ _ dL _=>au Z (uN (((bk ((g)) rs).getD i .zero).v) rs l h (((g))) u rv b8 ev ex ey ez eA eC (A110.hide [some h]) A110 (cE A110 [some h]) (cm a3.wf) f3 (cr (by simp)) hs (hL.le ai) (hr.le ai) (hp.le ai) (aR.le bA)) ?_);rintro h6 A123 ⟨g9,d0,d1,d2,d3,dd,di,rfl,a7,a8,ac,bm,bO⟩;have dD:=bQ (bs:=[some h]) f4 (qz ar mI);have cc:=a7.get _ _ dD;have dI:=bQ (bs:=[some h]) c7 (qz a5.symm mI);have ch:=a7.get _ _ dI;have dJ:=bQ (bs:=[some h]) a3.get (qz ad.symm mI);have ck:=a7.get _ _ dJ;have br:=dl.off (kr a2 kq) a7;have dm:=bm.base ai;have bB:=bA.trans a7;have bC:=ai.trans a7;refine dL _ _<|.q Z (ah Z)<|.q Z (bh Z Z)<|.q Z (bh Z Z)<|.l Z (fun _ _ dM _=>cg a8 sy rfl fun A145 h1 D=>?_);have aV:=ne_new a8 ac D.lo;have bb:=ne_new a8 cc D.lo;have b0:=ne_new a8 ch D.lo;have b1:=ne_new a8 ck D.lo;have en:=br.own.ne_new a8 D.lo;have bL:=aU wf (Nat.le_trans bC.n D.lo);have bM:=aU (cm ab) (Nat.le_trans bB.n D.lo);have f7:=D.le.get _ _ ac;have f9:=D.le.get _ _ cc;have fd:=D.le.get _ _ ch;have fe:=D.le.get _ _ ck;have dv:=br.le D.le;have dw:=dm.le D.le;have e6:=bC.trans D.le;have e2:=bB.trans D.le;refine dM _ _ ?_;obtain ⟨cZ,cK,bR,g8,_⟩:=dw.own.slice;subst g8;refine Ops.l Z (fun _ _ dO _=>aQ (cs:=[aX ((eh (fu rs (((bk ((g)) rs).getD i .zero).v))).word),num (((eh (fu rs (((bk ((g)) rs).getD i .zero).v))).steps:Nat):Int),.slice cZ cK bR]) (c':=[aX ((eh (fu rs (((bk ((g)) rs).getD i .zero).v))).word),num (((eh (fu rs (((bk ((g)) rs).getD i .zero).v))).steps:Nat):Int),.slice cZ cK bR]) D.wf rfl rfl rfl rfl d6 D.get (Nat.le_of_ble_eq_true rfl) rfl rfl fun A161 a0=>?_);have fi:=a0.keep _ _ aV f7;have b5:=a0.keep _ _ bb f9;have fl:=a0.keep _ _ b0 fd;have fm:=a0.keep _ _ b1 fe;have dz:=dv.keep a0.keep en;have e3:=an e2 (cm ab) bM a0.n a0.keep;have aD:=an e6 wf bL a0.n a0.keep;refine dO _ _<|.q Z (ae Z)<|.nil<|f6 _ _<|.seq fun _ fn=>.seq fun _ cv=>.region<|.q Z (ah Z)<|.q Z (eu Z)<|.q Z (ah Z) ?_;refine Ops.partB (t:=46) Z (fun g4=>?_) (fun g4=>?_)
  ·refine Ops.off Z Z Z Z<|.off Z Z Z Z<|.q Z (aM Z Z)<|.nil<|cv _ _<|.cond_true Z<|.seq fun _ fo=>.region<|.q Z (cU Z (bn TH zG D6 Z))<|.q Z (ae Z) ?_;refine Ops.l Z (fun _ _ dS _=>aQ (cs:=[num ((0:Nat):Int),num ((0:Nat):Int),aX ([]),aX ([]),aX ([])]) (c':=[num ((0:Nat):Int),num ((0:Nat):Int),aX ([]),aX ([]),aX ([])]) a0.wf rfl rfl rfl rfl jM b5 (Nat.le_of_ble_eq_true rfl) rfl rfl fun A180 aF=>?_);have e7:=an aD wf aC aF.n aF.keep;refine dS _ _<|.q Z (ae Z)<|.nil<|fo _ _<|.ret ?_;repeat first | with_reducible refine bz ?_ | with_reducible refine bi ?_
   exact aJ (dF Z (df uh jM Z aF.get Z (dF Z d7))) (⟨by (rw [CA O hsc (by first | exact .inl ‹_› | exact .inr ‹_›)];rfl),e7,aF.wf⟩)
  refine Ops.on Z Z<|.q Z (ah Z)<|.on Z Z<|.q Z (eu Z)<|.q Z (aW Z Z)<|.nil<|cv _ _<|.ifB Z (fun g5=>?_) (fun g5=>?_)
  ·refine am.seq fun _ fq=>.region<|.q Z (cU Z (bn TH zG D6 Z))<|.q Z (ae Z)<|.l Z (fun _ _ dV _=>aQ (cs:=[num ((0:Nat):Int),num ((0:Nat):Int),aX ([]),aX ([]),aX ([])]) (c':=[num ((0:Nat):Int),num ((0:Nat):Int),aX ([]),aX ([]),aX ([])]) a0.wf rfl rfl rfl rfl jM b5 (Nat.le_of_ble_eq_true rfl) rfl rfl fun A194 aG=>?_);have e9:=an aD wf aC aG.n aG.keep;refine dV _ _<|.q Z (ae Z)<|.nil<|fq _ _<|.ret ?_;repeat first | with_reducible refine bz ?_ | with_reducible refine bi ?_
   exact aJ (dF Z (df uh jM Z aG.get Z (dF Z d7))) (⟨by (rw [CA O hsc (by first | exact .inl ‹_› | exact .inr ‹_›)];rfl),e9,aG.wf⟩)
  refine am.skip<|fn _ _<|.seq fun _ fr=>.region<|.q Z (aj jW fc U Z)<|.q Z (ak fP Z Z fm Z)<|.q Z (aj jW fc U Z)<|.q Z (ak fP Z Z a0.get Z)<|.q Z (py Z Z)<|.nil ?_;refine fr _ _<|.if rfl (fun g6=>?_) (fun g6=>?_)
  ·refine am.seq fun _ ft=>.drawn [0,1,2,3] mixed Y Y Z<|.q Z Z Z (aq uh jM Z Z fl Z)<|.q Z Z Z (ae Z)<|.l Z Z Z (fun _ _ dW _=>aQ (cs:=[num (((bk ((g)) rs).getD i .zero).i),num (((bk ((g)) rs).getD i .zero).j),aX (((bk ((g)) rs).getD i .zero).word),aX (((bk ((g)) rs).getD i .zero).u),aX (((bk ((g)) rs).getD i .zero).v)]) (c':=[num (((bk ((g)) rs).getD i .zero).i),num (((bk ((g)) rs).getD i .zero).j),aX (((bk ((g)) rs).getD i .zero).word),aX (((bk ((g)) rs).getD i .zero).u),aX (((bk ((g)) rs).getD i .zero).v)]) a0.wf rfl rfl rfl rfl jM b5 (Nat.le_of_ble_eq_true rfl) rfl rfl fun A215 aI=>?_);have ea:=an aD wf aC aI.n aI.keep;refine dW _ _ (be.none Y)<|.q Z Z Z (ae Z)<|.done<|ft _ _<|.ret ?_;repeat first | with_reducible refine bz ?_ | with_reducible refine bi ?_
   exact aJ (dF Z (df uh jM Z aI.get Z (dF Z d7))) (⟨by (rw [Ot O hsc ‹_› ‹_› ‹_›];rfl),ea,aI.wf⟩)
  refine am.skip<|gD _ _<|.region<|.q Z (bE (b:=1) Z Z O)<|.q Z (ah Z)<|.nil ?_;exact ⟨⟨i + 1,d0,d1,d2,d3,dd,di⟩,pZ Z Z Z Z Z,Z,⟨⟨by omega,JZ O hsc ‹_› ‹_› ‹_›⟩,aD,dz,fi,b5,a2,aY,e3⟩,O1⟩
 refine am.exit<|gq _ _<|.seq fun _ fv=>.region<|.q Z (cU Z (bn TH zG D6 Z))<|.q Z (ae Z)<|.l Z (fun _ _ dZ _=>aQ (cs:=[num ((0:Nat):Int),num ((0:Nat):Int),aX ([]),aX ([]),aX ([])]) (c':=[num ((0:Nat):Int),num ((0:Nat):Int),aX ([]),aX ([]),aX ([])]) aZ rfl rfl rfl rfl jM ay (Nat.le_of_ble_eq_true rfl) rfl rfl fun A228 aP=>?_);have ec:=an bp wf aC aP.n aP.keep;refine dZ _ _<|.q Z (ae Z)<|.nil<|fv _ _<|.ret ?_;repeat first | with_reducible refine bz ?_ | with_reducible refine bi ?_
 exact aJ (dF Z (df uh jM Z aP.get Z (dF Z d7))) (⟨by (rw [Ou O hsc];rfl),ec,aP.wf⟩)

theorem zp (g:Int) (u:Value) (l:List (List UInt8)) (rv:Value) (rs:List bf) (A:AH) (hn:l.length<=9223372036854775807) (hm:rs.length<=9223372036854775807) (hmx:cj g l rs=true->(bk g rs).length<=50000) (hL:gJ A) (hu:bK A 1 u (d5 l)) (hr:bK A 3 rv (c9 rs)) (hp:Proofs A rs):bH Tryz.prog 28 #[.agg #[num (g),u,rv]] A (fun v A1=>v=.tuple #[.bool (fG g l rs).1,PQ (fG g l rs).2.1,num (((fG g l rs).2.2:Nat):Int)]/\A.le A1/\A1.wf):=by
 refine ia Tryz.call28 Tryz.func28 Z Tryz.results28 Tryz.ntmps28 Z (fun wf=>?_);have aF:=AH.le.refl A;refine am.seq fun _ h2=>.region<|.l Z (fun _ _ aC _=>dQ wf rfl rfl fun A5 b4 a4=>?_);have a9:=aF.trans a4.le;refine aC _ _<|.q Z (ae Z)<|.l Z (fun _ _ aD _=>cg a4.wf zG rfl fun A10 b9 X=>?_);have a2:=aU wf (Nat.le_trans a9.n X.lo);have a7:=X.le.get _ _ a4.get;have D:=a9.trans X.le;refine aD _ _<|.q Z (ae Z)<|.nil<|h2 _ _<|.seq fun _ ar=>.seq fun _ av=>.region<|.q Z (aq eR ew Z Z a7 Z)<|.l Z (fun _ _ aa _=>au Z (j8 ((g)) u l rv rs A10 hn hm (hL.le D) (hu.le D) (hr.le D) (hp.le D)) ?_);rintro aI A20 ⟨rfl,V,a5⟩;have ay:=V.get _ _ a7;have a8:=V.get _ _ X.get;have h:=D.trans V;refine aa _ _<|.q Z (eu Z)<|.nil<|av _ _<|.ifB Z (fun aG=>?_) (fun aG=>?_)
 ·refine am.seq fun _ az=>.region<|.q Z (cU Z (bn TH zG D6 Z))<|.q Z (ae Z)<|.l Z (fun _ _ ab _=>aQ (cs:=[num ((0:Nat):Int),num ((0:Nat):Int),aX ([]),aX ([]),aX ([])]) (c':=[num ((0:Nat):Int),num ((0:Nat):Int),aX ([]),aX ([]),aX ([])]) a5 rfl rfl rfl rfl jM a8 (Nat.le_of_ble_eq_true rfl) rfl rfl fun A29 a0=>?_);have ag:=an h wf a2 a0.n a0.keep;refine ab _ _<|.q Z (ae Z)<|.nil<|az _ _<|.ret ?_;repeat first | with_reducible refine bz ?_ | with_reducible refine bi ?_
  exact aJ (dF Z (df uh jM Z a0.get Z (dF Z d7))) (⟨by (rw [PM ‹_›];rfl),ag,a0.wf⟩)
 refine am.skip<|ar _ _<|.seq fun _ aA=>.region<|.q Z (aq eR ew Z Z ay Z)<|.l Z (fun _ _ ac _=>au Z (Ro ((g)) u l rv rs A20 (by simpa using ‹(!cj g l rs)=false›) (hmx (by simpa using ‹(!cj g l rs)=false›)) (hL.le h) (hu.le h) (hr.le h) (hp.le h)) ?_);rintro aP A37 ⟨rfl,a3,a6⟩;have aB:=a3.get _ _ a8;have ai:=h.trans a3;refine ac _ _<|.q Z (bh Z Z)<|.q Z (bh Z Z)<|.q Z (bh Z Z)<|.q Z (ae Z)<|.l Z (fun _ _ ad _=>aQ (cs:=[num ((gH rs (bk ((g)) rs)).2.1.i),num ((gH rs (bk ((g)) rs)).2.1.j),aX ((gH rs (bk ((g)) rs)).2.1.word),aX ((gH rs (bk ((g)) rs)).2.1.u),aX ((gH rs (bk ((g)) rs)).2.1.v)]) (c':=[num ((gH rs (bk ((g)) rs)).2.1.i),num ((gH rs (bk ((g)) rs)).2.1.j),aX ((gH rs (bk ((g)) rs)).2.1.word),aX ((gH rs (bk ((g)) rs)).2.1.u),aX ((gH rs (bk ((g)) rs)).2.1.v)]) a6 rfl rfl rfl rfl jM aB (Nat.le_of_ble_eq_true rfl) rfl rfl fun A43 a1=>?_);have ap:=an ai wf a2 a1.n a1.keep;refine ad _ _<|.q Z (ae Z)<|.nil<|aA _ _<|.ret ?_;repeat first | with_reducible refine bz ?_ | with_reducible refine bi ?_
 exact aJ (dF Z (df uh jM Z a1.get Z (dF Z d7))) (⟨by (rw [PN ‹_›];rfl),ap,a1.wf⟩)

theorem Rd (g:Int) (u:Value) (l:List (List UInt8)) (rv:Value) (rs:List bf) (A:AH) (hn:l.length<=9223372036854775807) (hm:rs.length<=9223372036854775807) (hmx:cj g l rs=true->(bk g rs).length<=50000) (hL:gJ A) (hu:bK A 1 u (d5 l)) (hr:bK A 3 rv (c9 rs)) (hp:Proofs A rs):bH Tryz.prog 30 #[.agg #[num (g),u,rv]] A (fun v A1=>v=.tuple #[.bool (ny g l rs).1,num (((ny g l rs).2:Nat):Int)]/\A.le A1/\A1.wf):=by
 refine ia Tryz.call30 Tryz.func30 Z Tryz.results30 Tryz.ntmps30 Z (fun wf=>?_);have dd:=AH.le.refl A;refine am.seq fun _ h2=>.region<|.l Z (fun _ _ d2 _=>dQ wf rfl rfl fun A5 b4 b6=>?_);have ab:=dd.trans b6.le;refine d2 _ _<|.q Z (ae Z)<|.q Z (ae Z)<|.nil<|h2 _ _<|.seq fun _ h9=>.region<|.q Z (aq eR ew Z Z b6.get Z)<|.l Z (fun _ _ bB _=>au Z (zp ((g)) u l rv rs A5 hn hm hmx (hL.le ab) (hu.le ab) (hr.le ab) (hp.le ab)) ?_);rintro dS A12 ⟨rfl,ai,ay⟩;have bc:=ai.get _ _ b6.get;have b2:=ab.trans ai;refine bB _ _<|.q Z (ah Z)<|.q Z (bh Z Z)<|.q Z (bh Z Z)<|.q Z (bh Z Z)<|.l Z (fun _ _ bC _=>cg ay zG rfl fun A18 bV a3=>?_);have ac:=ne_new ay bc a3.lo;have aS:=aU wf (Nat.le_trans b2.n a3.lo);have c4:=a3.le.get _ _ bc;have bS:=b2.trans a3.le;refine bC _ _<|.q Z (ae Z)<|.l Z (fun _ _ bD _=>aQ (cs:=[num ((fG ((g)) l rs).2.1.i),num ((fG ((g)) l rs).2.1.j),aX ((fG ((g)) l rs).2.1.word),aX ((fG ((g)) l rs).2.1.u),aX ((fG ((g)) l rs).2.1.v)]) (c':=[num ((fG ((g)) l rs).2.1.i),num ((fG ((g)) l rs).2.1.j),aX ((fG ((g)) l rs).2.1.word),aX ((fG ((g)) l rs).2.1.u),aX ((fG ((g)) l rs).2.1.v)]) a3.wf rfl rfl rfl rfl jM a3.get (Nat.le_of_ble_eq_true rfl) rfl rfl fun A23 a5=>?_);have aY:=a5.keep _ _ ac c4;have a2:=an bS wf aS a5.n a5.keep;refine bD _ _<|.q Z (ae Z)<|.nil<|h9 _ _<|.seq fun _ c7=>.seq fun _ cc=>.region<|.q Z (ah Z)<|.q Z (fh (b:=0) Z Z)<|.nil ?_;refine cc _ _<|.if rfl (fun di=>?_) (fun di=>?_)
 ·refine am.seq fun _ ch=>.region<|.q Z (ah Z)<|.q Z (ae Z)<|.q Z (ae Z)<|.nil<|ch _ _<|.rt (by exact aJ Z (⟨by (rw [Lh ‹_›];rfl),a2,a5.wf⟩))
 refine am.skip<|c7 _ _<|.seq fun _ ck=>.region<|.q Z (aq eR ew Z Z aY Z)<|.l Z (fun _ _ bL _=>au Z (pG ((g)) u l rv rs A23 (su (sL ‹_›)) (wo (sL ‹_›)) (hu.le a2) (hr.le a2) (hp.le a2)) ?_);rintro dV A38 ⟨h,av,rfl,ap,az,a7,a0,a9⟩;have cv:=ap.get _ _ aY;have b3:=a2.trans ap;have hrow:=a7;have hno:=a0;have hix:=a9;have ba:b4 ≠ h:=fun z=>by have q0:=aY;rw [z,a0] at q0;cases q0
 have b8:bV ≠ h:=fun z=>by have q0:=a5.get;rw [z,a0] at q0;cases q0
 have aR:=rY a2 a0;refine bL _ _<|.q Z (ae Z)<|.nil<|ck _ _<|.seq fun _ cA=>.region<|.q Z (ae Z)<|.nil<|cA _ _<|.seq fun _ cC=>?_;refine am.seq fun _ cH=>.region<|.q Z (aj fY gz U Z)<|.q Z (aj ii oM U Z)<|.q Z (ak oD Z Z cv Z)<|.q Z (bF (n:=l.length) mO Z (hu.le b3) O (eF _))<|.q Z (ah Z)<|.nil<|cH _ _<|.block ?_;refine am.loop (X:=Nat × Bool × Value × Value × Value × Value × Value × Value) (fun ⟨i,t,y0,y5,y6,y7,y8,y9⟩=>[(4,.bool ((fG ((g)) l rs).1)),(7,.pointer (some ⟨h,0,none⟩)),(8,.bool (t)),(26,u),(27,num ((l.length:Nat):Int)),(28,num ((i:Nat):Int))]) (fun ⟨i,t,y0,y5,y6,y7,y8,y9⟩ B=>(i<=l.length/\mp rs t (l.drop i)=mp rs true l)/\A.le B/\B.get h=some (.row true [y0,num ((g)),u,rv,.map (some av),y5,y6,y7,y8,y9] 10)/\(A38.hide [some h]).le B) (fun ⟨i,t,y0,y5,y6,y7,y8,y9⟩=>l.length - i) (⟨0,true,.slice none 0 0,.slice none 0 0,num ((0:Nat):Int),aX ([]),num ((0:Nat):Int),.slice none 0 0⟩) (zE Z Z Z Z Z Z) (⟨⟨Nat.zero_le _,Z⟩,b3,a7,(cE A38 [some h])⟩) ?_;rintro ⟨i,t,y0,y5,y6,y7,y8,y9⟩ B50 ⟨⟨hi,hsc⟩,a8,aa,b9⟩;refine am.wf fun ag=>.seq fun _ cK=>.region<|.q Z (cd Z Z)<|.nil<|cK _ _<|.seq fun _ cP=>.if rfl (fun dj=>?_) (fun dj=>?_)
 ·refine am.skip<|cP _ _<|.seq fun _ bd=>.block<|.seq fun _ cS=>.region ?_;obtain ⟨dI,dK,dD,dO,dz,dM,dL,bY,d3,c3,dw,bu⟩:=bK.at (i:=i) (hu.le a8) Or O;refine Ops.q Z (ax mO fc Z bY Z d3)<|.q Z (ak fP Z Z c3 ((cT bu).trans (fj O)))<|.q Z (ae Z)<|.nil<|cS _ _<|.seq fun _ cV=>.region<|.q Z (ah Z)<|.q Z (ah Z) ?_;have a4:=ci (bs:=[some h]) a8 (uk aR oT);have aZ:=ci (bs:=[some h]) b9 (uk (cr (by simp)) oT);refine Ops.l Z (fun _ _ bM _=>au Z (uN (l.getD i []) rs l h (((g))) u rv av y0 y5 y6 y7 y8 y9 (B50.hide [some h]) B50 (cE B50 [some h]) (cm ag) aa (cr (by simp)) (sL ‹_›) (hL.le a4) (hr.le a4) (hp.le a4) (a9.le aZ)) ?_);rintro dW A66 ⟨dv,aB,aC,aD,aF,aG,aI,rfl,ar,aA,a1,aP,b7⟩;have bv:=aP.base a4;have b0:=aZ.trans ar;have b5:=a4.trans ar;refine bM _ _<|.q Z (ah Z)<|.q Z (bh Z Z)<|.q Z (bh Z Z)<|.l Z (fun _ _ bO _=>cg aA sy rfl fun A75 dJ D=>?_);have a6:=ne_new aA a1 D.lo;have aT:=aU wf (Nat.le_trans b5.n D.lo);have aV:=aU (cm az) (Nat.le_trans b0.n D.lo);have cX:=D.le.get _ _ a1;have bA:=bv.le D.le;have bT:=b5.trans D.le;have bR:=b0.trans D.le;refine bO _ _ ?_;obtain ⟨br,bp,bb,dm,_⟩:=bA.own.slice;subst dm;refine Ops.l Z (fun _ _ bP _=>aQ (cs:=[aX ((eh (fu rs (l.getD i []))).word),num (((eh (fu rs (l.getD i []))).steps:Nat):Int),.slice br bp bb]) (c':=[aX ((eh (fu rs (l.getD i []))).word),num (((eh (fu rs (l.getD i []))).steps:Nat):Int),.slice br bp bb]) D.wf rfl rfl rfl rfl d6 D.get (Nat.le_of_ble_eq_true rfl) rfl rfl fun A84 V=>?_);have bl:=V.keep _ _ a6 cX;have b1:=an bR (cm az) aV V.n V.keep;have ad:=an bT wf aT V.n V.keep;refine bP _ _<|.q Z (ae Z)<|.nil<|cV _ _<|.seq fun _ cZ=>.seq fun _ d0=>.region<|.q Z (ah Z)<|.q Z (eu Z)<|.nil ?_;refine d0 _ _<|.ifB Z (fun dk=>?_) (fun dk=>?_)
  ·refine am.seq fun _ d1=>.region<|.q Z (ae Z)<|.q Z (ae Z)<|.nil<|d1 _ _<|.rt (by exact aJ Z (⟨by (rw [Li ‹_› (JY O hsc ‹_›)];rfl),ad,V.wf⟩))
  refine am.skip<|cZ _ _<|.region<|.q Z (ah Z)<|.q Z (ah Z)<|.partB (t:=41) Z (fun dl=>?_) (fun dl=>?_)
  ·refine Ops.on Z Z<|.q Z (aj jW fc U Z)<|.on Z Z<|.q Z (ak fP Z Z V.get Z)<|.on Z Z<|.q Z (mn Z Z)<|.q Z (aM Z Z)<|.q Z (ae Z)<|.nil<|bd _ _ ?_;refine am.region<|.q Z (bE (b:=1) Z Z O)<|.q Z (ah Z)<|.nil ?_;exact ⟨⟨i + 1,decide ((eh (fu rs (l.getD i []))).word=[]),aB,aC,aD,aF,aG,aI⟩,zE Z Z Z Z Z Z,Z,⟨⟨by omega,by have:=wj O hsc ‹_›;simp_all⟩,ad,bl,b1⟩,O1⟩
  refine Ops.off Z Z Z Z<|.off Z Z Z Z<|.off Z Z Z Z<|.q Z (aW Z Z)<|.q Z (ae Z)<|.nil<|bd _ _<|.region<|.q Z (bE (b:=1) Z Z O)<|.q Z (ah Z) ?_;refine Ops.nil ?_;exact ⟨⟨i + 1,false,aB,aC,aD,aF,aG,aI⟩,zE Z Z Z Z Z Z,Z,⟨⟨by omega,by have:=wj O hsc ‹_›;simp_all⟩,ad,bl,b1⟩,O1⟩
 refine am.exit<|cC _ _<|.seq fun _ bm=>.region<|.q Z (ah Z)<|.q Z (ah Z)<|.partB (t:=48) Z (fun bU=>?_) (fun bU=>?_)
 ·refine Ops.on Z Z<|.q Z (ah Z)<|.q Z (aM Z Z)<|.q Z (ae Z)<|.q Z (ae Z)<|.nil<|bm _ _<|.rt (by exact aJ Z (⟨by (rw [zX ‹_› (yf O hsc)];simp_all [eE]),a8,ag⟩))
 refine Ops.off Z Z Z Z<|.q Z (aW Z Z)<|.q Z (ae Z)<|.q Z (ae Z)<|.nil<|bm _ _<|.rt (by exact aJ Z (⟨by (rw [zX ‹_› (yf O hsc)];simp_all [eE]),a8,ag⟩))
end Go.Proofs.YtjppkekmddjcfaaGreatDoor

namespace Go.Proofs.YtjppkekmddjcfaaGreatDoor
open Go Go.RowKit V
def em (l:List Value):List Value:=l
theorem cq (l:List Value):(em l).length=l.length:=rfl
theorem i6 (l:List Value):(em l).length=l.length * 1:=by simp [em]
theorem eO {l:List Value} {i:Nat} (h:i < l.length):(em l)[i]? = some (l.getD i undef):=by simp [em,h]
theorem pz (a b:List Value):em a ++ em b=em (a ++ b):=rfl
theorem M9 (a:List Value) (n:Nat) (c:Value):(em a).set n c=em (a.set n c):=rfl
structure ib (A0 A:AH) (rows:List Value) (L:List (List Int)):Prop where
  len:rows.length=L.length
  fr:∀ i,i < L.length->Fresh A0 A (rows.getD i undef) 1 (cO (L.getD i []))
  sp:∀ i j,i < L.length->j < L.length->i ≠ j->bq (rows.getD i undef) (rows.getD j undef)
def dG (rows:List Value) (b:Nat):Prop:=∀ r ∈ rows,blk r ≠ some b
def aL (v:Value) (rows:List Value):Prop:=∀ r ∈ rows,bq v r
theorem mG {A0 A:AH} {rows:List Value} {L L':List (List Int)} (h:ib A0 A rows L) (e:L=L'):ib A0 A rows L':=e ▸ h
theorem _root_.Go.Proofs.YtjppkekmddjcfaaGreatDoor.V.Fresh.at1 {A0 A:AH} {v:Value} {xs:List Value} {x:Nat} (fr:Fresh A0 A v 1 xs) (hx:x < xs.length):∃ b n c r rcap,v=.slice (some ⟨b,0,none⟩) n c/\n=xs.length/\A.get b=some (.row true r rcap)/\x < r.length/\A0.get b=none/\r.take n=xs /\
    ∀ (w:Value) A1,ug A A1 b (.row true (r.set x w) rcap)->Fresh A0 A1 v 1 (xs.set x w):=by
  obtain ⟨b,n,c,e,h1,h2⟩:=fr.nonnil (by intro q;rw [q] at hx;simp at hx)
  have lo:=fr.lo b (by rw [e];rfl)
  subst e
  obtain ⟨r,rcap,g,h3,h4⟩:=fr.row
  rw [Nat.mul_one] at h1 h3
  have hl:n<=r.length:=by have:=congrArg List.length h3;rw [List.length_take] at this;omega
  exact ⟨b,n,c,r,rcap,rfl,h1,g,by omega,lo,h3,fun w A1 sb=>fr.setc g sb⟩
section
variable {A0 A A1:AH} {rows:List Value} {L:List (List Int)} {b s x:Nat} {v v':Value} {size:Nat} {xs:List Value} {r:List Int} {o:fK}
theorem m9 {p:Value->Prop} (hl:rows.length=L.length) (h:∀ i,i < L.length->p (rows.getD i undef)):∀ r ∈ rows,p r:=fun r hr=>by
  obtain ⟨i,hi,rfl⟩:=List.getElem_of_mem hr
  have:=h i O
  simpa [hi] using this
theorem ed {p:Value->Prop} (h:∀ r ∈ rows,p r) (hi:s < rows.length):p (rows.getD s undef):=h _ (bw (d:=undef) hi)
theorem ib.nil:ib A0 A [] []:=⟨rfl,(fun _ h=>by cases h),(fun _ _ h=>by cases h)⟩
theorem ib.le (h:ib A0 A rows L) (le:A.le A1):ib A0 A1 rows L:=⟨h.len,fun i hi=>(h.fr i hi).le le,h.sp⟩
theorem ib.base {M:AH} (h:ib M A rows L) (le:A0.le M):ib A0 A rows L:=⟨h.len,fun i hi=>(h.fr i hi).base le,h.sp⟩
theorem ib.keep (h:ib A0 A rows L) (k:∀ b' o,b' ≠ b->A.get b'=some o->A1.get b'=some o) (n:dG rows b):ib A0 A1 rows L :=
  ⟨h.len,fun i hi=>(h.fr i hi).keep k (ed n (by rw [h.len];exact hi)),h.sp⟩
theorem ib.appd {zs:List Value} {n:Nat} (h:ib A0 A rows L) (ap:mA A v n zs v' A1) (hs:aL v rows):ib A0 A1 rows L :=
  ⟨h.len,fun i hi=>(h.fr i hi).appd ap (ed hs (by rw [h.len];exact hi)),h.sp⟩
theorem aL.nil:aL (.slice none 0 0) rows:=fun _ _=>bq.nil
theorem aL.empty:aL v []:=fun _ h=>by cases h
theorem aL.appd {zs:List Value} {n:Nat} (hs:aL v rows) (h:ib A0 A rows L) (wf:A.wf) (ap:mA A v n zs v' A1):aL v' rows :=
  m9 h.len fun i hi=>bq.appd (ed hs (by rw [h.len];exact hi)) (h.fr i hi).own wf ap
theorem aL.new {n c:Nat} (h:dG rows b):aL (.slice (some ⟨b,0,none⟩) n c) rows:=fun r hr k hk hq=>by cases hk;exact h r hr hq
theorem aL.fresh {n:Nat} (h:ib A0 A rows L) (fr:Fresh A A1 v n xs):aL v rows:=m9 h.len fun i hi c hv hc=>by
  obtain ⟨o,ho⟩:=(h.fr i hi).own.blkget hc
  rw [fr.lo c hv] at ho;cases ho
theorem ib.ne_new (h:ib A0 A rows L) (wf:A.wf) (hb:A.n<=b):dG rows b:=m9 h.len fun i hi=>(h.fr i hi).own.ne_new wf hb
theorem ib.ne (h:ib A0 A rows L) (hb:A0.get b=some o):dG rows b:=m9 h.len fun i hi=>(h.fr i hi).seph hb
theorem dG.snoc (h:dG rows b) (hv:V.blk v ≠ some b):dG (rows ++ [v]) b:=fun r hr=>by
  rcases List.mem_append.1 hr with q | q
  · exact h r q
  · rw [List.mem_singleton] at q;subst q;exact hv
theorem aL.snoc {u:Value} (h:aL u rows) (hv:bq u v):aL u (rows ++ [v]):=fun r hr=>by
  rcases List.mem_append.1 hr with q | q
  · exact h r q
  · rw [List.mem_singleton] at q;subst q;exact hv
theorem ib.snoc (h:ib A0 A rows L) (fr:Fresh A0 A v 1 (cO r)) (hs:aL v rows):ib A0 A (rows ++ [v]) (L ++ [r]):=by
  have e1:∀ i,i < L.length->(rows ++ [v]).getD i undef=rows.getD i undef:=fun i hi=>by simp [List.getElem?_append_left (show i < rows.length by rw [h.len];exact hi)]
  have e2:(rows ++ [v]).getD L.length undef=v:=by rw [<- h.len];simp
  have e3:∀ i,i < L.length->(L ++ [r]).getD i []=L.getD i []:=fun i hi=>by simp [List.getElem?_append_left hi]
  have e4:(L ++ [r]).getD L.length []=r:=by simp
  refine ⟨by simp [h.len],fun i hi=>?_,fun i j hi hj hij=>?_⟩
  · rcases Nat.lt_or_ge i L.length with q | q
    · rw [e1 i q,e3 i q];exact h.fr i q
    · obtain rfl:i=L.length:=by simp at hi;omega
      rw [e2,e4];exact fr
  · rcases Nat.lt_or_ge i L.length with q | q
    · rcases Nat.lt_or_ge j L.length with q2 | q2
      · rw [e1 i q,e1 j q2];exact h.sp i j q q2 hij
      · obtain rfl:j=L.length:=by simp at hj;omega
        rw [e1 i q,e2];exact (ed hs (by rw [h.len];exact q)).symm
    · obtain rfl:i=L.length:=by simp at hi;omega
      rcases Nat.lt_or_ge j L.length with q2 | q2
      · rw [e2,e1 j q2];exact ed hs (by rw [h.len];exact q2)
      · obtain rfl:j=L.length:=by simp at hj;omega
        exact absurd Z hij
theorem ib.hideAll {l:List (Option Nat)} (h:ib A0 A rows L):ib (A.hide (l ++ rows.map V.blk)) A rows L :=
  ⟨h.len,fun i hi=>(h.fr i hi).hide (List.mem_append.2 (.inr (List.mem_map.2 ⟨_,bw (d:=undef) (by rw [h.len];exact hi),rfl⟩))),h.sp⟩
theorem DB {l:List (Option Nat)} (t:∀ b,some b ∈ l->A0.get b=none) (h:ib A0 A rows L):∀ b,some b ∈ l ++ rows.map V.blk->A0.get b=none:=fun b hb=>by
  rcases List.mem_append.1 hb with q | q
  · exact t b q
  · obtain ⟨r,hr,e⟩:=List.mem_map.1 q
    exact m9 (p:=fun r=>∀ b,V.blk r=some b->A0.get b=none) h.len (fun i hi=>(h.fr i hi).lo) r hr b e
theorem yX {l:List (Option Nat)} {k:Nat} (t:some k ∉ l) (h:dG rows k):some k ∉ l ++ rows.map V.blk:=fun hb=>by
  rcases List.mem_append.1 hb with q | q
  · exact t q
  · obtain ⟨r,hr,e⟩:=List.mem_map.1 q
    exact h r hr e
theorem mj {l:List (Option Nat)} {u:Value} (t:Kr u l) (h:aL u rows):Kr u (l ++ rows.map V.blk):=fun c hc hb=>by
  rcases List.mem_append.1 hb with q | q
  · exact t c hc q
  · obtain ⟨r,hr,e⟩:=List.mem_map.1 q
    exact h r hr c hc e
theorem ib.sepOff {bs:List (Option Nat)} {u:Value} {n:Nat} (h:ib (A.hide bs) A1 rows L) (hu:oO A u n xs) (o:Kr u bs):aL u rows:=m9 h.len fun i hi=>((h.fr i hi).sep hu o).symm
theorem IY {k i:Nat} (h:i < k):(List.replicate i (-1:Int) ++ List.replicate (k - i) 0).set i (-1)=List.replicate (i + 1) (-1) ++ List.replicate (k - (i + 1)) 0:=by
  rw [List.set_append_right _ _ (by simp),List.length_replicate,Nat.sub_self,show k - i=(k - (i + 1)) + 1 by omega,List.replicate_succ,List.set_cons_zero,List.replicate_succ' (n:=i)]
  simp
theorem rU {α β:Type} (f:α->β) {l:List α} {i:Nat} {z:α} (h:i < l.length):(l.take i).map f ++ [f (l.getD i z)]=(l.take (i + 1)).map f:=by
  rw [<- f5 (z:=z) h,List.map_append];rfl
theorem d9 {α:Type} {l:List α} {i j:Nat} {a d:α} (hi:i < l.length):(l.set i a).getD j d=if j=i then a else l.getD j d:=by
  simp only [List.getD_eq_getElem?_getD,List.getElem?_set]
  by_cases h:i=j
  · subst h;simp [hi]
  · rw [if_neg h,if_neg (fun q=>h q.symm)]
theorem CB {n:Nat} {u:Value}:aL u (List.replicate n (.slice none 0 0)):=fun r hr=>by rw [(List.mem_replicate.1 hr).2];exact bq.nil.symm
theorem Qm {r:Value} (h:r ∈ rows.set s v):r ∈ rows\/r=v:=List.mem_or_eq_of_mem_set h
theorem Er {u:Value} (h:aL u rows) (hv:bq u v):aL u (rows.set s v):=fun r hr=>by
  rcases Qm hr with q | q
  · exact h r q
  · subst q;exact hv
theorem ib.nils {n:Nat}:ib A0 A (List.replicate n (.slice none 0 0)) (List.replicate n []):=by
  have e:∀ i,i < n->(List.replicate n (Value.slice none 0 0)).getD i undef=.slice none 0 0:=fun i hi=>by simp [hi]
  refine ⟨by simp,fun i hi=>?_,fun i j hi hj _=>?_⟩
  · rw [List.length_replicate] at hi
    rw [e i hi,show (List.replicate n ([]:List Int)).getD i []=[] by simp [hi]]
    exact Fresh.nil _ _ _
  · rw [List.length_replicate] at hi
    rw [e i hi];exact bq.nil
theorem ib.appRow {y:List Int} (h:ib A0 A rows L) (wf:A.wf) (hs:s < L.length) (ap:mA A (rows.getD s undef) 1 (cO y) v A1) (fr:Fresh A0 A1 v 1 (cO y)):ib A0 A1 (rows.set s v) (L.set s y):=by
  have hsr:s < rows.length:=by rw [h.len];exact hs
  refine ⟨by simp [h.len],fun i hi=>?_,fun i j hi hj hij=>?_⟩
  · rw [d9 hsr,d9 hs]
    rw [List.length_set] at hi
    split
    · exact fr
    · rename_i q;exact (h.fr i hi).appd ap (h.sp s i hs hi (fun z=>q z.symm))
  · rw [List.length_set] at hi hj
    rw [d9 hsr,d9 hsr]
    have key:∀ i,i < L.length->i ≠ s->bq v (rows.getD i undef):=fun i hi q=>bq.appd (h.sp s i hs hi (fun z=>q z.symm)) (h.fr i hi).own wf ap
    by_cases q1:i=s
    · rw [if_pos q1,if_neg (fun z=>hij (q1.trans z.symm))]
      exact key j hj (fun z=>hij (q1.trans z.symm))
    · rw [if_neg q1]
      by_cases q2:j=s
      · rw [if_pos q2];exact (key i hi q1).symm
      · rw [if_neg q2];exact h.sp i j hi hj hij
theorem ib.at (h:ib A0 A rows L) (hs:s < L.length) (hx:x < (L.getD s []).length):∃ b n c r rcap,rows.getD s undef=.slice (some ⟨b,0,none⟩) n c/\n=(L.getD s []).length/\A.get b=some (.row true r rcap)/\x < r.length/\A0.get b=none/\r.take n=cO (L.getD s []) /\
    ∀ (i:Int) A1,ug A A1 b (.row true (r.set x (num i)) rcap)->ib A0 A1 rows (L.set s ((L.getD s []).set x i)):=by
  have fr:=h.fr s hs
  obtain ⟨b,n,c,e,h1,h2⟩:=fr.nonnil (by intro q;have:=congrArg List.length q;rw [aE,List.length_nil] at this;omega)
  have lo:=fr.lo b (by rw [e];rfl)
  have fr':=fr
  rw [e] at fr'
  obtain ⟨r,rcap,g,h3,h4⟩:=fr'.row
  rw [Nat.mul_one,aE] at h1
  rw [Nat.mul_one] at h3
  have hl:n<=r.length:=by have:=congrArg List.length h3;rw [List.length_take,aE] at this;omega
  refine ⟨b,n,c,r,rcap,e,h1,g,by omega,lo,h3,fun i A1 sb=>⟨by simpa using h.len,fun j hj=>?_,fun j k hj hk=>h.sp j k (by simpa using hj) (by simpa using hk)⟩⟩
  rw [d9 hs]
  by_cases q:j=s
  · subst q
    rw [if_pos Z,e]
    have:=fr'.setc (w:=num i) (i:=x) g sb
    rwa [iw] at this
  · rw [if_neg q]
    have hj':j < L.length:=by simpa using hj
    exact (h.fr j hj').keep sb.keep (fun z=>h.sp s j hs hj' (fun w=>q w.symm) b (by rw [e];rfl) z)
end
end Go.Proofs.YtjppkekmddjcfaaGreatDoor

namespace Go.Proofs.YtjppkekmddjcfaaGreatDoor
open Go Go.RowKit V
structure CW (k:Nat) (L:List (List Int)) (E:List Bool):Prop where
  len:E.length=L.length
  row:∀ s,s < L.length->(L.getD s []).length=k
  val:∀ s x,s < L.length->x < k->-1<=(L.getD s []).getD x 0/\(L.getD s []).getD x 0 < L.length
abbrev CX (k:Nat):List Int:=List.replicate k (-1)
abbrev grow (k:Nat) (L:List (List Int)) (s x:Nat):List (List Int):=(L ++ [CX k]).set s (((L ++ [CX k]).getD s []).set x (L.length:Int))
def CE (k:Nat) (t:List (List Int) × List Bool × Nat) (x:Int):List (List Int) × List Bool × Nat :=
  if (t.1.getD t.2.2 []).getD x.toNat 0 < 0 then (grow k t.1 t.2.2 x.toNat,t.2.1 ++ [false],t.1.length) else (t.1,t.2.1,((t.1.getD t.2.2 []).getD x.toNat 0).toNat)
def oa (k:Nat) (L:List (List Int)) (E:List Bool) (xs:List Int):List (List Int) × List Bool × Nat:=xs.foldl (CE k) (L,E,0)
def wN (k:Nat) (L:List (List Int)) (E:List Bool) (w:Wd):List (List Int):=(oa k L E (w.map ix)).1
def wK (k:Nat) (L:List (List Int)) (E:List Bool) (w:Wd):List Bool:=(oa k L E (w.map ix)).2.1.set (oa k L E (w.map ix)).2.2 true
section
variable {k s x i:Nat} {L L1:List (List Int)} {E E1:List Bool} {xs:List Int} {d:Int}
theorem kj {α:Type} {l m:List α} {i:Nat} {z:α} (h:i < l.length):(l ++ m).getD i z=l.getD i z:=by simp [List.getElem?_append_left h]
theorem jz:(grow k L s x).length=L.length + 1:=by simp
theorem uC (h:CW k L E) (hs:s < L.length) (hx:x < k) {j y:Nat} (hj:j < L.length + 1):(grow k L s x).getD j []=if j=s then (L.getD s []).set x L.length else if j < L.length then L.getD j [] else CX k:=by
  rw [grow,d9 Oz,kj hs]
  by_cases h1:j=s
  · rw [if_pos h1,if_pos h1]
  · rw [if_neg h1,if_neg h1]
    by_cases h2:j < L.length
    · rw [if_pos h2,kj h2]
    · rw [if_neg h2,show j=L.length by omega];simp
theorem yK (h:CW k L E) (hs:s < L.length) (hx:x < k):CW k (grow k L s x) (E ++ [false]):=by
  refine ⟨by rw [jz];simp [h.len],fun j hj=>?_,fun j y hj hy=>?_⟩
  · rw [jz] at hj
    rw [uC (y:=0) h hs hx hj]
    split
    · rw [List.length_set];exact h.row s hs
    · split
      · exact h.row j ‹_›
      · exact List.length_replicate
  · rw [jz] at hj
    rw [uC (y:=0) h hs hx hj,jz]
    have h0:=h.row s hs
    split
    · rw [d9 (by rw [h0];exact hx)]
      split
      · omega
      · have:=h.val s y hs hy;omega
    · split
      · have:=h.val j y ‹_› hy;omega
      · have:(CX k).getD y 0 = -1:=by simp [hy]
        rw [this];omega
theorem vt (h:CW k L E) (hs:s < L.length) (hx:x < k):((grow k L s x).getD s []).getD x 0=(L.length:Int):=by
  rw [uC (y:=0) h hs hx O,if_pos Z,d9 (by rw [h.row s hs];exact hx),if_pos Z]
theorem xU {t:List (List Int) × List Bool × Nat} (hi:i < xs.length) (h:oa k L E (xs.take i)=t):oa k L E (xs.take (i + 1))=CE k t (xs.getD i 0):=by
  rw [<- f5 (z:=0) hi,oa,List.foldl_append]
  show CE k (oa k L E (xs.take i)) _=_
  rw [h]
theorem Ce (hi:i < xs.length) (h:oa k L E (xs.take i)=(L1,E1,s)) (q:(L1.getD s []).getD (xs.getD i 0).toNat 0 < 0):oa k L E (xs.take (i + 1))=(grow k L1 s (xs.getD i 0).toNat,E1 ++ [false],L1.length):=by
  rw [xU hi h,CE,if_pos q]
theorem Cf (hi:i < xs.length) (h:oa k L E (xs.take i)=(L1,E1,s)) (q:¬ (L1.getD s []).getD (xs.getD i 0).toNat 0 < 0):oa k L E (xs.take (i + 1))=(L1,E1,((L1.getD s []).getD (xs.getD i 0).toNat 0).toNat):=by
  rw [xU hi h,CE,if_neg q]
theorem CW.start (k:Nat):CW k [CX k] [false]:=⟨rfl,fun s hs=>by
    obtain rfl:s=0:=by simp at hs;omega
    simp,fun s x hs hx=>by
    obtain rfl:s=0:=by simp at hs;omega
    simp [hx]⟩
end
end Go.Proofs.YtjppkekmddjcfaaGreatDoor

namespace Go.Proofs.YtjppkekmddjcfaaGreatDoor
open Go Go.RowKit V
set_option maxRecDepth 100000
theorem iE:dx Tryz.prog 59=some false:=by kernel_rfl
theorem kh:dx Tryz.prog 60=some false:=by kernel_rfl
theorem l8:dx Tryz.prog 67=some false:=by kernel_rfl
theorem i9:ee Tryz.prog 119 0=some (60,0):=by kernel_rfl
theorem mh:ee Tryz.prog 119 1=some (59,1):=by kernel_rfl
theorem LU:Tryz.prog.info? 4=some Tryz.t4:=by kernel_rfl
theorem FX:Tryz.prog.info? 67=some Tryz.t67:=by kernel_rfl
theorem iK:dp Tryz.prog 59=some 1:=by kernel_rfl
theorem i8:dp Tryz.prog 60=some 1:=by kernel_rfl
theorem fF:dp Tryz.prog 67=some 1:=by kernel_rfl
theorem lS:type_of% @Tryz.underlying59:=@Tryz.underlying59
theorem oe:type_of% @Tryz.underlying60:=@Tryz.underlying60

theorem JR (w:List UInt8) (A:AH) (hL:gJ A) (hw:w.length<=1000000):bH Tryz.prog 115 #[aX (w)] A (fun v A1=>A.le A1/\A1.wf/\Fresh A A1 v 1 (cO (w.map ix))):=by
 refine ia Tryz.call115 Tryz.func115 Z Tryz.results115 Tryz.ntmps115 Z (fun wf=>?_);have ai:=AH.le.refl A;refine am.seq fun _ h2=>.region<|.q Z (ae Z)<|.nil<|h2 _ _<|.seq fun _ h4=>.region<|.q Z (ae Z)<|.nil<|h4 _ _ ?_;refine am.seq fun _ h6=>.seq fun _ h8=>.region<|.q Z (ah Z)<|.q Z (cB u9 Z)<|.q Z (ah Z)<|.nil<|h8 _ _<|.block<|.loop (X:=Nat × List Int × Value) (fun ⟨i,o,s⟩=>[(0,aX (w)),(3,s),(6,num ((w.length:Nat):Int)),(7,num ((i:Nat):Int))]) (fun ⟨i,o,s⟩ B=>(i<=w.length/\o=(w.take i).map ix)/\A.le B/\Fresh A B s 1 (cO o)) (fun ⟨i,o,s⟩=>w.length - i) (⟨0,[],.slice none 0 0⟩) (lD Z Z Z Z) (⟨⟨Nat.zero_le _,by simp⟩,ai,(Fresh.nil A A 1)⟩) ?_;rintro ⟨i,o,s⟩ B10 ⟨⟨hi,ho⟩,a2,V⟩;refine am.wf fun a3=>?_;have hlo:o.length=i:=by rw [ho];simp;omega
 refine am.seq fun _ aa=>.region<|.q Z (cd Z Z)<|.nil<|aa _ _<|.seq fun _ ab=>.if rfl (fun ap=>?_) (fun ap=>?_)
 ·refine am.skip<|ab _ _<|.seq fun _ ac=>.block<|.seq fun _ ad=>.region<|.q Z (ah Z)<|.q Z (ae Z)<|.nil<|ad _ _ ?_;refine am.region<|.q Z (ah Z)<|.q Z (ah Z)<|.q Z (ah Z)<|.q Z (ma u9 Z Z O)<|.l Z (fun _ _ a5 _=>au Z (si (w.getD i 0) B10 (hL.le a2)) ?_);rintro ay A23 ⟨rfl,rfl⟩;refine a5 _ _<|.l Z (fun _ _ a6 _=>aN (c:=[num (ix (w.getD i 0))]) a3 rfl (aw ep c5 z3 rfl U U rfl) fun A27 av D=>?_);have a1:=V.le D.le;have a8:=a2.trans D.le;refine a6 _ _<|.l Z (fun _ _ a7 _=>cF (ys:=[num (ix (w.getD i 0))]) rfl rfl ep c5 mZ z3 rfl U ep (fun _ h=>by cases h) a1.own (bN (n:=1) D.get Z) rfl rfl (by show (_ + _) * 8<=_;simp only [aE,List.length_cons,List.length_nil];(try simp only [List.length_append,List.length_cons,List.length_nil]);omega) O2 fun A33 ar a0=>?_);rw [show ([num (ix (w.getD i 0))]:List Value)=cO [ix (w.getD i 0)] from rfl,dA] at a0;obtain ⟨a4,a9⟩:=Fresh.grow a1 a8 wf a0;refine a7 _ _<|.q Z (ae Z)<|.nil<|ac _ _<|.region<|.q Z (bE (b:=1) Z Z O)<|.q Z (ah Z)<|.nil ?_;exact ⟨⟨i + 1,o ++ [ix (w.getD i 0)],ar⟩,lD Z Z Z Z,Z,⟨⟨by omega,by rw [ho];exact rU ix O⟩,a9,a4⟩,O1⟩
 refine am.exit<|h6 _ _<|.seq fun _ ag=>.region<|.q Z (ah Z)<|.q Z (ae Z)<|.nil<|ag _ _<|.rt (by exact aJ Z (⟨a2,a3,cw V (congrArg cO (by rw [ho,List.take_of_length_le O]))⟩))

theorem Oc (k:Nat) (b:Nat) (nv ev:Value) (rows:List Value) (L:List (List Int)) (E:List Bool) (A0 A:AH) (c7:A0.le A) (aI:A0.wf) (hb:A.get b=some (.row true [nv,ev] 2)) (cc:A0.get b=none) (frn:Fresh A0 A nv 1 (em rows)) (fre:Fresh A0 A ev 1 (cl E)) (nn:blk nv ≠ some b) (ne:blk ev ≠ some b) (sne:bq nv ev) (fm:ib A0 A rows L) (fo:dG rows b) (fsn:aL nv rows) (fse:aL ev rows) (hk:k<=1000/\L.length<=1000000/\E.length<=1000000):bH Tryz.prog 75 #[.pointer (some ⟨b,0,none⟩),num ((k:Nat):Int)] A (fun v A1=>∃ nv2 jV rows2,v=num ((L.length:Nat):Int)/\A0.le A1/\A1.wf/\A1.get b=some (.row true [nv2,jV] 2)/\Fresh A0 A1 nv2 1 (em rows2)/\Fresh A0 A1 jV 1 (cl (E ++ [false]))/\blk nv2 ≠ some b/\blk jV ≠ some b/\bq nv2 jV/\ib A0 A1 rows2 (L ++ [CX k])/\dG rows2 b/\aL nv2 rows2/\aL jV rows2):=by
 refine jP Tryz.call75 Tryz.func75 Z Tryz.results75 Tryz.ntmps75 Z (fun wf=>?_);have hrl:=fm.len;have hkr:(List.replicate k (0:Int)).length=k:=List.length_replicate;refine am.seq fun _ h2=>.region<|.q Z (ae Z)<|.nil<|h2 _ _<|.seq fun _ h4=>.region<|.q Z (ah Z)<|.l Z (fun _ _ eg _=>mL (n:=k) (k:=k) wf c7 rfl rfl ep c5 z3 mZ rfl (Nat.le_refl _) (by show 8 * _<=_;omega) O fun A7 b6 ar bp=>?_);rw [iu] at bp;have b5:=ne_new wf hb ar.lo;have dJ:=fm.ne_new wf ar.lo;have e0:=ar.le.get _ _ hb;have cC:=frn.le ar.le;have cH:=fre.le ar.le;have ch:=fm.le ar.le;have dk:=c7.trans ar.le;have dM:=bq.of_new (n:=k) (c:=k) frn.own wf ar.lo;have dO:=bq.of_new (n:=k) (c:=k) fre.own wf ar.lo;refine eg _ _<|.q Z (ae Z)<|.nil<|h4 _ _<|.seq fun _ e1=>.seq fun _ e2=>.region<|.q Z (ah Z)<|.q Z (bF (n:=(List.replicate k (0:Int)).length) ep Z bp.slc O (eD _))<|.q Z (ah Z) ?_;refine Ops.nil<|e2 _ _<|.block<|.loop (X:=Nat × List Int × Value) (fun ⟨i,o,r⟩=>[(0,.pointer (some ⟨b,0,none⟩)),(5,r),(10,num (((List.replicate k (0:Int)).length:Nat):Int)),(11,num ((i:Nat):Int))]) (fun ⟨i,o,r⟩ B=>(i<=k/\o=List.replicate i (-1) ++ List.replicate (k - i) 0)/\A0.le B/\Fresh A0 B r 1 (cO o)/\Fresh A0 B nv 1 (em rows)/\Fresh A0 B ev 1 (cl E)/\B.get b=some (.row true [nv,ev] 2)/\V.blk r ≠ some b/\V.blk nv ≠ some b/\V.blk ev ≠ some b/\bq r nv/\bq r ev/\bq nv ev/\ib A0 B rows L/\dG rows b/\aL r rows/\aL nv rows/\aL ev rows) (fun ⟨i,o,r⟩=>k - i) (⟨0,List.replicate k 0,.slice (some ⟨b6,0,none⟩) k k⟩) (lD Z Z Z Z) (⟨⟨Nat.zero_le _,by simp⟩,dk,bp,cC,cH,e0,(fun q=>by cases q;exact b5 Z),nn,ne,dM,dO,sne,ch,fo,(aL.new dJ),fsn,fse⟩) ?_;rintro ⟨i,o,r⟩ B25 ⟨⟨hi,ho⟩,bv,ag,aF,aD,ap,aa,a9,a4,a8,ac,ad,av,az,a6,a7,ai⟩;refine am.wf fun aC=>?_;have hlo:o.length=k:=by rw [ho];simp;omega
 have hrl:=fm.len;refine am.seq fun _ e3=>.region<|.q Z (cd Z Z)<|.nil<|e3 _ _<|.seq fun _ e4=>.if rfl (fun ey=>?_) (fun ey=>?_)
 ·refine am.skip<|e4 _ _<|.seq fun _ e5=>.block<|.seq fun _ e6=>.region<|.q Z (ah Z)<|.q Z (ae Z)<|.nil<|e6 _ _ ?_;refine am.region<|.q Z (ah Z)<|.q Z (ah Z) ?_;obtain ⟨b7,eX,eV,eC,eN,aG,c4,dZ,f0,ex,eY,en⟩:=ag.at1 (x:=i) Of;rw [aE] at c4;refine Ops.q Z (ax ep c5 Z aG Z (by rw [c4];omega))<|.l Z (fun _ _ d2 _=>aQ (off:=i) (c':=eC.set i (num (-1))) aC rfl (by simp) rfl rfl c5 dZ (by show i + 1<=_;omega) rfl rfl fun A38 ab=>?_);have e7:=ab.keep _ _ (fun q=>aa (by rw [aG];exact congrArg some q.symm)) ap;have cK:=aF.keep ab.keep (a8 b7 (by rw [aG];rfl));have cP:=aD.keep ab.keep (ac b7 (by rw [aG];rfl));have ck:=av.keep ab.keep (fun r hr=>a6 r hr b7 (by rw [aG];rfl));have bb:=en (num (-1)) A38 ab;rw [iw] at bb;have dl:=an bv aI ex ab.n ab.keep;refine d2 _ _<|.nil<|e5 _ _<|.region<|.q Z (bE (b:=1) Z Z Oy)<|.q Z (ah Z)<|.nil ?_;exact ⟨⟨i + 1,o.set i ((-1)),r⟩,lD Z Z Z Z,Z,⟨⟨by omega,by rw [ho];exact IY O⟩,dl,bb,cK,cP,e7,aa,a9,a4,a8,ac,ad,ck,az,a6,a7,ai⟩,O1⟩
 refine am.exit<|e1 _ _<|.seq fun _ e9=>.region<|.q Z (ah Z)<|.q Z (ah Z)<|.q Z (cQ Z)<|.q Z (aj i9 i8 U Z)<|.q Z (ak kh Z Z ap Z)<|.q Z (ah Z) ?_;obtain ⟨aB,aA,ay,ez,_⟩:=ag.own.slice;subst ez;refine Ops.l Z (fun _ _ d3 _=>aN (c:=[.slice aB aA ay]) aC rfl (aw oe fF Kw rfl U U rfl) fun A50 eS D=>?_);have dz:=ne_new aC ap D.lo;have dI:=ag.own.ne_new aC D.lo;have dK:=av.ne_new aC D.lo;have c3:=D.le.get _ _ ap;have bc:=ag.le D.le;have bd:=aF.le D.le;have bl:=aD.le D.le;have b9:=av.le D.le;have dm:=bv.trans D.le;refine d3 _ _<|.l Z (fun _ _ dd _=>cF (ys:=[.slice aB aA ay]) rfl rfl oe fF FX Kw rfl U oe (fun _ h=>by cases h) bd.own (bN (n:=1) D.get Z) rfl rfl (by show (_ + _) * 24<=_;simp only [cq,List.length_cons,List.length_nil];(try simp only [List.length_append,List.length_cons,List.length_nil]);omega) Ov fun A64 eZ a1=>?_);rw [show ([.slice aB aA ay]:List Value)=em [Value.slice aB aA ay] from rfl,pz] at a1;obtain ⟨bm,dv⟩:=Fresh.grow bd dm aI a1;have ea:=a1.keep a9 c3;have aP:=a1.ne a9 D.wf c3;have dS:=bq.appd (show bq nv (.slice aB aA ay) from (bq.symm a8)) bc.own D.wf a1;have cS:=bc.appd a1 (bq.symm a8);have bB:=bq.appd (show bq nv ev from ad) bl.own D.wf a1;have cV:=bl.appd a1 ad;have dV:=aL.appd (show aL nv rows from a7) b9 D.wf a1;have cv:=b9.appd a1 (show aL nv rows from a7);have cA:=cv.snoc cS a6;have aR:=az.snoc aa;have eL:=dK.snoc dI;have bC:=ai.snoc (bq.symm ac);have dW:=dV.snoc dS;refine dd _ _<|.q Z (cQ Z)<|.q Z (aj i9 i8 U Z) ?_;obtain ⟨b3,b1,aS,eA,_⟩:=bm.own.slice;subst eA;refine Ops.l Z (fun _ _ di _=>aQ (cs:=[.slice b3 b1 aS]) (c':=[.slice b3 b1 aS,ev]) a1.wf rfl rfl rfl rfl i8 ea (Nat.le_of_ble_eq_true rfl) rfl rfl fun A86 a3=>?_);have cX:=cV.keep a3.keep a4;have cZ:=bm.keep a3.keep aP;have ba:=cA.keep a3.keep aR;have dw:=an dv aI cc a3.n a3.keep;refine di _ _<|.nil<|e9 _ _<|.seq fun _ ec=>.region<|.q Z (ah Z)<|.q Z (ah Z)<|.q Z (cQ Z)<|.q Z (aj mh iK U Z)<|.q Z (ak iE Z Z a3.get Z) ?_;refine Ops.l Z (fun _ _ dj _=>aN (c:=[.bool (false)]) a3.wf rfl (aw lS mc z4 rfl U U rfl) fun A96 eT a2=>?_);have dD:=ne_new a3.wf a3.get a2.lo;have eG:=ba.ne_new a3.wf a2.lo;have br:=a2.le.get _ _ a3.get;have aV:=cX.le a2.le;have aY:=cZ.le a2.le;have aT:=ba.le a2.le;have bS:=dw.trans a2.le;refine dj _ _<|.l Z (fun _ _ bP _=>cF (ys:=[.bool (false)]) rfl rfl lS mc LU z4 rfl U lS (fun _ h=>by cases h) aV.own (bN (n:=1) a2.get Z) rfl rfl (by show (_ + _) * 1<=_;simp only [bJ,List.length_cons,List.length_nil];(try simp only [List.length_append,List.length_cons,List.length_nil]);omega) Ow fun A107 eQ a0=>?_);rw [show ([.bool (false)]:List Value)=cl [false] from rfl,nu] at a0;obtain ⟨aZ,bT⟩:=Fresh.grow aV bS aI a0;have d0:=a0.keep a4 br;have b2:=a0.ne a4 a2.wf br;have bV:=bq.appd (show bq ev (.slice b3 b1 aS) from (bq.symm bB)) aY.own a2.wf a0;have bM:=aY.appd a0 (bq.symm bB);have bY:=aL.appd (show aL ev (rows ++ [Value.slice aB aA ay]) from bC) aT a2.wf a0;have bD:=aT.appd a0 (show aL ev (rows ++ [Value.slice aB aA ay]) from bC);refine bP _ _<|.q Z (cQ Z)<|.q Z (aj mh iK U Z) ?_;obtain ⟨bA,bu,b8,dL,_⟩:=aZ.own.slice;subst dL;refine Ops.l Z (fun _ _ bR _=>aQ (cs:=[.slice bA bu b8]) (c':=[.slice b3 b1 aS,.slice bA bu b8]) a0.wf rfl rfl rfl rfl iK d0 (Nat.le_of_ble_eq_true rfl) rfl rfl fun A122 a5=>?_);have b0:=bM.keep a5.keep aP;have bO:=aZ.keep a5.keep b2;have bL:=bD.keep a5.keep aR;have bU:=an bT aI cc a5.n a5.keep;refine bR _ _<|.nil<|ec _ _<|.seq fun _ d1=>.region<|.q Z (ah Z)<|.q Z (cQ Z)<|.q Z (aj i9 i8 U Z)<|.q Z (ak kh Z Z a5.get Z)<|.q Z (bF (n:=(rows ++ [Value.slice aB aA ay]).length) oe Z b0.slc O (i6 _)) ?_;refine Ops.q Z (fJ (b:=1) Z Z Oy)<|.q Z (ae Z)<|.nil<|d1 _ _<|.rt (by exact aJ Z (⟨_,_,_,(show num _=num _ from congrArg (fun z:Nat=>num (z:Int)) (by simp [fm.len])),bU,a5.wf,a5.get,b0,bO,aP,b2,(bq.symm bV),mG bL (by rw [ho,show i=k by omega,Nat.sub_self];simp [CX]),aR,dW,bY⟩))

theorem UK (k:Nat) (w:List UInt8) (b:Nat) (nv ev:Value) (rows:List Value) (L:List (List Int)) (E:List Bool) (A0 A:AH) (b8:A0.le A) (bv:A0.wf) (hb:A.get b=some (.row true [nv,ev] 2)) (ey:A0.get b=none) (frn:Fresh A0 A nv 1 (em rows)) (fre:Fresh A0 A ev 1 (cl E)) (nn:blk nv ≠ some b) (ne:blk ev ≠ some b) (sne:bq nv ev) (fm:ib A0 A rows L) (fo:dG rows b) (fsn:aL nv rows) (fse:aL ev rows) (hL:gJ A0) (hk:k<=1000/\L.length<=100000/\w.length<=100000) (hT:CW k L E) (h0:0 < L.length) (hw:∀ c ∈ w,0<=ix c/\ix c < k):bH Tryz.prog 77 #[.pointer (some ⟨b,0,none⟩),num ((k:Nat):Int),aX (w)] A (fun v A1=>∃ nv2 jV rows2,v=.tuple #[]/\A0.le A1/\A1.wf/\A1.get b=some (.row true [nv2,jV] 2)/\Fresh A0 A1 nv2 1 (em rows2)/\Fresh A0 A1 jV 1 (cl (wK k L E w))/\blk nv2 ≠ some b/\blk jV ≠ some b/\bq nv2 jV/\ib A0 A1 rows2 (wN k L E w)/\dG rows2 b/\aL nv2 rows2/\aL jV rows2):=by
 refine wQ Tryz.call77 Tryz.func77 Z Tryz.results77 Tryz.ntmps77 Z (fun wf=>?_);have hwx:∀ x ∈ w.map ix,0<=x/\x < (k:Int):=fun x hx=>by obtain ⟨c,hc,rfl⟩:=List.mem_map.1 hx;exact hw c hc
 have hwl:(w.map ix).length=w.length:=List.length_map _;refine am.seq fun _ h2=>.region<|.q Z (ae Z)<|.nil<|h2 _ _<|.seq fun _ h4=>.seq fun _ h6=>.region<|.q Z (ah Z)<|.l Z (fun _ _ e2 _=>au Z (JR w A (hL.le b8) O) ?_);rintro v8 A9 ⟨av,eQ,ap⟩;have dO:=av.get _ _ hb;have bU:=frn.le av;have bV:=fre.le av;have bR:=fm.le av;have cA:=b8.trans av;have b2:=ap.base b8;have cS:=ap.sep0 frn.own;have cV:=ap.sep0 fre.own;have cX:=aL.fresh fm ap;have cP:=ap.ne wf hb;refine e2 _ _<|.q Z (bF (n:=(w.map ix).length) ep Z b2.slc O (eD _))<|.q Z (ah Z)<|.nil<|h6 _ _<|.block<|.loop (X:=Nat × List Bool × Nat × Value × Value × List Value × List (List Int)) (fun ⟨i,E1,s,a7,qy,rw,L1⟩=>[(0,.pointer (some ⟨b,0,none⟩)),(1,num ((k:Nat):Int)),(6,num ((s:Nat):Int)),(11,v8),(12,num (((w.map ix).length:Nat):Int)),(13,num ((i:Nat):Int))]) (fun ⟨i,E1,s,a7,qy,rw,L1⟩ B=>(i<=(w.map ix).length/\oa k L E ((w.map ix).take i)=(L1,E1,s)/\CW k L1 E1/\s < L1.length/\L1.length<=L.length + i)/\A0.le B/\Fresh A0 B a7 1 (em rw)/\Fresh A0 B qy 1 (cl E1)/\Fresh A0 B v8 1 (cO (w.map ix))/\B.get b=some (.row true [a7,qy] 2)/\V.blk a7 ≠ some b/\V.blk qy ≠ some b/\V.blk v8 ≠ some b/\bq a7 qy/\bq a7 v8/\bq qy v8/\ib A0 B rw L1/\dG rw b/\aL a7 rw/\aL qy rw/\aL v8 rw) (fun ⟨i,E1,s,a7,qy,rw,L1⟩=>(w.map ix).length - i) (⟨0,E,0,nv,ev,rows,L⟩) (al.cons Z<|al.cons Z<|al.cons (congrArg (fun z:Int=>some (num z)) (by first | exact vt hok ar (by have:=hxw O;omega) | omega))<|jQ Z Z Z) (⟨⟨Nat.zero_le _,Z,hT,h0,by omega⟩,cA,bU,bV,b2,dO,nn,ne,cP,sne,(bq.symm cS),(bq.symm cV),bR,fo,fsn,fse,cX⟩) ?_;rintro ⟨i,E1,s,a7,qy,rw,L1⟩ B22 ⟨⟨hi,hrun,hok,ar,g9⟩,aY,a1,a9,D,a8,ab,a3,h,ac,a5,a6,a4,ad,aa,a2,a0⟩;refine am.wf fun ba=>?_;have hrw:rw.length=L1.length:=by first | exact ib.len ‹_›
 have hxw:=fun q:i < (w.map ix).length=>hwx _ (bw (d:=(0:Int)) q);have hro:=hok.row s ar;have hvo:=fun q:((w.map ix).getD i 0).toNat < k=>hok.val s ((w.map ix).getD i 0).toNat ar q;have hEl:=hok.len;refine am.seq fun _ dS=>.region<|.q Z (cd Z Z)<|.nil<|dS _ _<|.seq fun _ dV=>.if rfl (fun eC=>?_) (fun eC=>?_)
 ·refine am.skip<|dV _ _<|.seq fun _ bm=>.block<|.seq fun _ dW=>.region ?_;obtain ⟨fM,g1,fn,gP,f2,gs,gc,d1,e5,dm,eS,bA⟩:=bK.at (i:=i) D.slc Of O;refine Ops.q Z (ax ep c5 Z d1 Z e5)<|.q Z (ak eM Z Z dm ((cT bA).trans (c8 O)))<|.q Z (ae Z)<|.nil<|dW _ _<|.seq fun _ bp=>.seq fun _ dZ=>.region<|.q Z (ah Z)<|.q Z (cQ Z) ?_;refine Ops.q Z (aj i9 i8 U Z)<|.q Z (ak kh Z Z a8 Z)<|.q Z (ah Z) ?_;obtain ⟨fN,g2,fq,gQ,f3,gA,ge,d2,e6,dv,eT,bB⟩:=bK.at (i:=s) a1.slc Ok O;refine Ops.q Z (ax oe fF Z d2 Z e6)<|.q Z (ak l8 Z Z dv ((cT bB).trans (eO O)))<|.q Z (ah Z) ?_;obtain ⟨fO,g3,ft,gS,f4,gC,gf,d3,e7,dw,eV,bC⟩:=bK.at (i:=((w.map ix).getD i 0).toNat) (a4.fr s O).slc (by simp only [aE];have:=hxw O;omega) O;refine Ops.q Z (ax ep c5 Z d3 (iQ (by have:=hxw O;omega)) e7)<|.q Z (ak eM Z Z dw ((cT bC).trans (c8 (by have:=hxw O;omega))))<|.q Z (k8 Z Z)<|.nil<|dZ _ _<|.if rfl (fun eG=>?_) (fun eG=>?_)
  ·refine am.seq fun _ e0=>.region<|.q Z (ah Z)<|.q Z (ah Z) ?_;have aP:=ci (bs:=([some b,blk a7,blk qy] ++ rw.map blk)) aY (DB (uk ey (sA a1.lo (sA a9.lo oT))) a4);refine Ops.l Z (fun _ _ ch _=>au Z (Oc k b a7 qy rw L1 E1 (B22.hide ([some b,blk a7,blk qy] ++ rw.map blk)) B22 (cE B22 ([some b,blk a7,blk qy] ++ rw.map blk)) (cm ba) a8 (cr (by simp)) (a1.hide (by simp)) (a9.hide (by simp)) ab a3 ac a4.hideAll ad aa a2 ⟨by omega,by omega,by omega⟩) ?_);rintro h8 A45 ⟨bc,bb,aG,rfl,b0,bd,aF,az,aA,aS,aT,aV,aI,aB,aC,aD⟩;have b9:=aI.sepOff D.own (mj (kr h (jD a5 (jD a6 kq))) a0);have cZ:=az.sep D.own (mj (kr h (jD a5 (jD a6 kq))) a0);have d0:=aA.sep D.own (mj (kr h (jD a5 (jD a6 kq))) a0);have bY:=D.off (mj (kr h (jD a5 (jD a6 kq))) a0) b0;have b3:=az.base aP;have c3:=aA.base aP;have ay:=aI.base aP;have cC:=aP.trans b0;have b7:=aI.len;rw [List.length_append,List.length_singleton] at b7;have hgl:((L1 ++ [CX k]).getD s []).length=k:=by rw [kj ar];exact hok.row s ar
   have hll:(L1 ++ [CX k]).length=L1.length + 1:=by simp
   refine ch _ _<|.q Z (ae Z)<|.nil<|e0 _ _<|.region<|.q Z (ah Z)<|.q Z (cQ Z)<|.q Z (aj i9 i8 U Z)<|.q Z (ak kh Z Z aF Z)<|.q Z (ah Z) ?_;obtain ⟨fQ,g4,fv,gX,f6,gD,gg,dd,e9,dz,eX,bD⟩:=bK.at (i:=s) b3.slc Ok O;refine Ops.q Z (ax oe fF Z dd Z e9)<|.q Z (ak l8 Z Z dz ((cT bD).trans (eO O)))<|.q Z (ah Z)<|.q Z (ah Z) ?_;obtain ⟨b1,gE,fX,eL,f7,aR,ea,dD,h9,ez,h5,e3⟩:=ay.at (s:=s) (x:=((w.map ix).getD i 0).toNat) O (by have:=hxw O;omega);refine Ops.q Z (ax ep c5 Z aR (iQ (by have:=hxw O;omega)) (by rw [ea];have:=hxw O;omega))<|.l Z (fun _ _ ck _=>aQ (off:=((w.map ix).getD i 0).toNat) (c':=eL.set (((w.map ix).getD i 0).toNat) (num ((L1.length:Nat):Int))) bd rfl (by simp) rfl rfl c5 dD (by show (((w.map ix).getD i 0).toNat) + 1<=_;omega) rfl rfl fun A59 ag=>?_);have br:=ag.keep _ _ (fun q=>ed aB (s:=s) (by have:=ay.len;omega) (by rw [aR];exact congrArg some q.symm)) aF;have c4:=bY.keep ag.keep (fun q=>ed b9 (s:=s) (by have:=ay.len;omega) b1 q (by rw [aR];rfl));have b5:=b3.keep ag.keep (fun q=>ed aC (s:=s) (by have:=ay.len;omega) b1 q (by rw [aR];rfl));have c7:=c3.keep ag.keep (fun q=>ed aD (s:=s) (by have:=ay.len;omega) b1 q (by rw [aR];rfl));have bS:=e3 (((L1.length:Nat):Int)) A59 ag;have cH:=an cC bv ez ag.n ag.keep;refine ck _ _<|.nil ?_;have hgr:((grow k L1 s ((w.map ix).getD i 0).toNat).getD s []).length=k:=(yK hok ar O).row s (by rw [jz];omega);have hgll:(grow k L1 s ((w.map ix).getD i 0).toNat).length=L1.length + 1:=jz;have fmG:ib A0 A59 aG (grow k L1 s ((w.map ix).getD i 0).toNat):=bS;have hgm:=fmG.len;refine bp _ _<|.region<|.q Z (ah Z)<|.q Z (cQ Z)<|.q Z (aj i9 i8 U Z)<|.q Z (ak kh Z Z br Z)<|.q Z (ah Z) ?_;obtain ⟨fR,g5,fD,gY,f9,gF,gl,di,ec,dI,eY,bL⟩:=bK.at (i:=s) b5.slc Ok O;refine Ops.q Z (ax oe fF Z di Z ec)<|.q Z (ak l8 Z Z dI ((cT bL).trans (eO O)))<|.q Z (ah Z) ?_;obtain ⟨fS,g6,fE,gZ,fd,gG,gm,dj,eg,dJ,eZ,bM⟩:=bK.at (i:=((w.map ix).getD i 0).toNat) (fmG.fr s O).slc (by simp only [aE];have:=hxw O;omega) O;refine Ops.q Z (ax ep c5 Z dj (iQ (by have:=hxw O;omega)) eg)<|.q Z (ak eM Z Z dJ ((cT bM).trans (c8 (by have:=hxw O;omega))))<|.q Z (ae Z)<|.nil<|bm _ _<|.region<|.q Z (bE (b:=1) Z Z O)<|.q Z (ah Z)<|.nil ?_;exact ⟨⟨i + 1,E1 ++ [false],L1.length,bc,bb,aG,grow k L1 s ((w.map ix).getD i 0).toNat⟩,al.cons Z<|al.cons Z<|al.cons (congrArg (fun z:Int=>some (num z)) (by first | exact vt hok ar (by have:=hxw O;omega) | omega))<|jQ Z Z Z,Z,⟨⟨by omega,Ce O hrun ‹_›,yK hok ar (by have:=hxw O;omega),by omega,by omega⟩,cH,b5,c7,c4,br,aS,aT,h,aV,cZ,d0,fmG,aB,aC,aD,b9⟩,O1⟩
  refine am.skip<|bp _ _<|.region<|.q Z (ah Z)<|.q Z (cQ Z)<|.q Z (aj i9 i8 U Z)<|.q Z (ak kh Z Z a8 Z)<|.q Z (ah Z) ?_;obtain ⟨fT,g7,fI,h1,fe,gL,gp,dk,en,dK,f0,bO⟩:=bK.at (i:=s) a1.slc Ok O;refine Ops.q Z (ax oe fF Z dk Z en)<|.q Z (ak l8 Z Z dK ((cT bO).trans (eO O)))<|.q Z (ah Z) ?_;obtain ⟨fV,g8,fL,h3,fi,gM,gq,dl,ex,dL,f1,bP⟩:=bK.at (i:=((w.map ix).getD i 0).toNat) (a4.fr s O).slc (by simp only [aE];have:=hxw O;omega) O;refine Ops.q Z (ax ep c5 Z dl (iQ (by have:=hxw O;omega)) ex)<|.q Z (ak eM Z Z dL ((cT bP).trans (c8 (by have:=hxw O;omega))))<|.q Z (ae Z)<|.nil<|bm _ _<|.region<|.q Z (bE (b:=1) Z Z O)<|.q Z (ah Z)<|.nil ?_;exact ⟨⟨i + 1,E1,((L1.getD s []).getD ((w.map ix).getD i 0).toNat 0).toNat,a7,qy,rw,L1⟩,al.cons Z<|al.cons Z<|al.cons (congrArg (fun z:Int=>some (num z)) (by first | exact vt hok ar (by have:=hxw O;omega) | omega))<|jQ Z Z Z,Z,⟨⟨by omega,Cf O hrun ‹_›,hok,by have:=hvo (by have:=hxw O;omega);omega,by omega⟩,aY,a1,a9,D,a8,ab,a3,h,ac,a5,a6,a4,ad,aa,a2,a0⟩,O1⟩
 refine am.exit<|h4 _ _<|.region<|.q Z (ah Z)<|.q Z (cQ Z)<|.q Z (aj mh iK U Z)<|.q Z (ak iE Z Z a8 Z)<|.q Z (ah Z) ?_;obtain ⟨bl,gN,g0,eN,fl,aZ,bu,dM,ha,eA,h7,e4⟩:=a9.at1 (x:=s) Oi;rw [bJ] at bu;refine Ops.q Z (ax lS mc Z aZ Z (by rw [bu];omega))<|.l Z (fun _ _ cv _=>aQ (off:=s) (c':=eN.set s (.bool (true))) ba rfl (by simp) rfl rfl mc dM (by show s + 1<=_;omega) rfl rfl fun A73 ai=>?_);have e1:=ai.keep _ _ (fun q=>a3 (by rw [aZ];exact congrArg some q.symm)) a8;have cc:=a1.keep ai.keep ((bq.symm ac) bl (by rw [aZ];rfl));have bT:=a4.keep ai.keep (fun r hr=>a2 r hr bl (by rw [aZ];rfl));have b6:=e4 (.bool (true)) A73 ai;rw [lg] at b6;have cK:=an aY bv eA ai.n ai.keep;refine cv _ _<|.nil ?_;repeat first | with_reducible refine bz ?_ | with_reducible refine bi ?_
 repeat first | with_reducible refine fb ?_ | with_reducible refine eo ?_ | with_reducible refine dY U ?_ | with_reducible refine d4 ?_ | with_reducible refine dn ?_
 exact xQ (vs:=[]) Z (⟨_,_,_,Z,cK,ai.wf,e1,cc,cw b6 (congrArg cl (by rw [wK,<- List.take_of_length_le (show (w.map ix).length<=i by omega),hrun])),ab,a3,ac,mG bT (by rw [wN,<- List.take_of_length_le (show (w.map ix).length<=i by omega),hrun]),ad,aa,a2⟩)
end Go.Proofs.YtjppkekmddjcfaaGreatDoor

namespace Go.Proofs.YtjppkekmddjcfaaGreatDoor
open Go Go.RowKit V
abbrev ie (L:List (List Int)) (n x:Nat):Int:=(L.getD n []).getD x 0
structure TW (k:Nat) (L:List (List Int)) (W:List (List Nat)):Prop where
  len:W.length=L.length
  pos:0 < W.length
  zero:W.getD 0 []=[]
  nd:∀ a b,a < W.length->b < W.length->W.getD a []=W.getD b []->a=b
  pre:∀ m,0 < m->m < W.length->∃ n x,n < W.length/\x < k/\W.getD m []=W.getD n [] ++ [x]
  is:∀ n x,n < W.length->x < k->0<=ie L n x->(ie L n x).toNat < W.length/\W.getD (ie L n x).toNat []=W.getD n [] ++ [x]
  no:∀ n x,n < W.length->x < k->ie L n x < 0->W.getD n [] ++ [x] ∉ W
section
variable {k s x i:Nat} {L L1:List (List Int)} {E E1:List Bool} {xs:List Int} {W:List (List Nat)}
theorem Mu {w:List Nat} (h:w ∈ W):∃ a,a < W.length/\W.getD a []=w:=by
  obtain ⟨i,hi,rfl⟩:=List.getElem_of_mem h
  exact ⟨i,hi,by simp [hi]⟩
theorem mC {a:Nat} (h:a < W.length):W.getD a [] ∈ W:=bw h
theorem Al (h:CW k L E) (hs:s < L.length) (hx:x < k) {j y:Nat} (hj:j < L.length + 1) (hy:y < k):ie (grow k L s x) j y=if j=s/\y=x then (L.length:Int) else if j < L.length then ie L j y else -1:=by
  unfold ie
  rw [uC (y:=0) h hs hx hj]
  by_cases h1:j=s
  · subst h1
    rw [if_pos Z,d9 (by rw [h.row j hs];exact hx)]
    by_cases h2:y=x
    · rw [if_pos h2,if_pos ⟨rfl,h2⟩]
    · rw [if_neg h2,if_neg (fun q=>h2 q.2),if_pos hs]
  · simp only [h1,false_and,if_false]
    by_cases h2:j < L.length
    · simp only [h2,if_true]
    · simp only [h2,if_false];simp [CX,hy]
theorem TW.grow (h:CW k L E) (t:TW k L W) (hs:s < L.length) (hx:x < k) (hn:ie L s x < 0):TW k (grow k L s x) (W ++ [W.getD s [] ++ [x]]):=by
  have hl:=t.len
  have e1:∀ a,a < W.length->(W ++ [W.getD s [] ++ [x]]).getD a []=W.getD a []:=fun a ha=>kj ha
  have e2:(W ++ [W.getD s [] ++ [x]]).getD W.length []=W.getD s [] ++ [x]:=by simp
  have hnew:=t.no s x O hx hn
  have key:∀ n y,n < W.length->W.getD n [] ++ [y]=W.getD s [] ++ [x]->n=s/\y=x:=fun n y D q=>by
    have:=List.append_inj' q Z
    exact ⟨t.nd n s D O this.1,by simpa using this.2⟩
  refine ⟨by rw [jz];simp [hl],by simp,by rw [e1 0 t.pos];exact t.zero,fun a b ha hb q=>?_,fun m hm V=>?_,fun n y D hy h0=>?_,fun n y D hy h0=>?_⟩
  · simp only [List.length_append,List.length_singleton] at ha hb
    rcases Nat.lt_or_ge a W.length with qa | qa
    · rcases Nat.lt_or_ge b W.length with qb | qb
      · rw [e1 a qa,e1 b qb] at q;exact t.nd a b qa qb q
      · obtain rfl:b=W.length:=by omega
        rw [e1 a qa,e2] at q;exact absurd (q ▸ mC qa) hnew
    · obtain rfl:a=W.length:=by omega
      rcases Nat.lt_or_ge b W.length with qb | qb
      · rw [e1 b qb,e2] at q;exact absurd (q ▸ mC qb) hnew
      · omega
  · simp only [List.length_append,List.length_singleton] at V
    rcases Nat.lt_or_ge m W.length with q | q
    · obtain ⟨n,y,h1,h2,h3⟩:=t.pre m hm q
      exact ⟨n,y,by simp;omega,h2,by rw [e1 m q,e1 n h1];exact h3⟩
    · obtain rfl:m=W.length:=by omega
      exact ⟨s,x,by simp;omega,hx,by rw [e2,e1 s O]⟩
  · simp only [List.length_append,List.length_singleton] at D ⊢
    rw [Al h hs hx O hy] at h0 ⊢
    split
    · rename_i q
      obtain ⟨rfl,rfl⟩:=q
      rw [Int.toNat_natCast,<- hl,e2,e1 n O]
      exact ⟨by omega,Z⟩
    · rename_i q
      rw [if_neg q] at h0
      split
      · rename_i q2
        rw [if_pos q2] at h0
        have:=t.is n y O hy h0
        rw [e1 n O,e1 _ this.1]
        exact ⟨by omega,this.2⟩
      · rename_i q2;rw [if_neg q2] at h0;omega
  · simp only [List.length_append,List.length_singleton] at D
    rw [Al h hs hx O hy] at h0
    split at h0
    · omega
    · rename_i q
      intro hm
      split at h0
      · rename_i q2
        have:=t.no n y O hy h0
        rw [e1 n O] at hm
        rcases List.mem_append.1 hm with z | z
        · exact this z
        · rw [List.mem_singleton] at z
          exact q (key n y O z)
      · rename_i q2
        obtain rfl:n=W.length:=by omega
        rw [e2] at hm
        rcases List.mem_append.1 hm with z | z
        · have hlen:∀ a b:Nat,a < W.length->W.getD a []=(W.getD s [] ++ [x]) ++ [b]->False:=fun a b ha q=>by
            rcases Nat.eq_zero_or_pos a with q0 | q0
            · subst q0;rw [t.zero] at q;simp at q
            · obtain ⟨n,y2,h1,h2,h3⟩:=t.pre a q0 ha
              rw [h3] at q
              have:=(List.append_inj' q Z).1
              exact hnew (this ▸ mC h1)
          obtain ⟨a,ha,e⟩:=Mu z
          exact hlen a y ha e
        · rw [List.mem_singleton] at z
          have:=congrArg List.length z
          simp at this
theorem TW.start:TW k [CX k] [[]]:=by
  have e:∀ n x,n < 1->x < k->ie [CX k] n x = -1:=fun n x hn hx=>by
    obtain rfl:n=0:=by omega
    simp [ie,CX,hx]
  refine ⟨rfl,by simp,rfl,fun a b ha hb _=>by simp at ha hb;omega,fun m hm h=>by simp at h;omega,fun n x hn hx h0=>?_,fun n x hn hx h0=>?_⟩
  · rw [e n x hn hx] at h0;omega
  · obtain rfl:n=0:=by simp at hn;omega
    simp
structure RX (k:Nat) (L:List (List Int)) (E:List Bool) (W S:List (List Nat)):Prop where
  ok:CW k L E
  tw:TW k L W
  sub:∀ w ∈ S,w ∈ W
  ends:∀ m,m < W.length->(E.getD m false=true ↔ W.getD m [] ∈ S)
theorem RX.run {S:List (List Nat)} (h:RX k L E W S) (hx:∀ x ∈ xs,0<=x/\x < (k:Int)):∀ i,i<=xs.length->∃ W1,RX k (oa k L E (xs.take i)).1 (oa k L E (xs.take i)).2.1 W1 S/\(oa k L E (xs.take i)).2.2 < (oa k L E (xs.take i)).1.length /\
    W1.getD (oa k L E (xs.take i)).2.2 []=(xs.take i).map Int.toNat/\(oa k L E (xs.take i)).1.length<=L.length + i:=by
  intro i
  induction i with
  | zero=>intro _;exact ⟨W,h,by have:=h.tw.pos;have:=h.tw.len;show 0 < L.length;omega,h.tw.zero,Nat.le_refl _⟩
  | succ i ih =>
    intro hi
    obtain ⟨W1,h1,h2,h3,h4⟩:=ih O
    rcases hr:oa k L E (xs.take i) with ⟨L1,E1,s⟩
    rw [hr] at h1 h2 h3 h4
    simp only at h1 h2 h3 h4
    have hb:=hx _ (bw (d:=(0:Int)) (show i < xs.length by omega))
    have hl:=h1.tw.len
    have et:(xs.take (i + 1)).map Int.toNat=(xs.take i).map Int.toNat ++ [(xs.getD i 0).toNat]:=(rU (z:=(0:Int)) Int.toNat (show i < xs.length by omega)).symm
    by_cases q:(L1.getD s []).getD (xs.getD i 0).toNat 0 < 0
    · rw [Ce O hr q]
      refine ⟨W1 ++ [W1.getD s [] ++ [(xs.getD i 0).toNat]],⟨yK h1.ok h2 O,TW.grow h1.ok h1.tw h2 O q,fun w hw=>List.mem_append.2 (.inl (h1.sub w hw)),fun m hm=>?_⟩,by rw [jz];show L1.length < _;omega,?_,by rw [jz];omega⟩
      · simp only [List.length_append,List.length_singleton] at hm
        rcases Nat.lt_or_ge m W1.length with z | z
        · rw [kj z,kj (by rw [h1.ok.len];omega)];exact h1.ends m z
        · obtain rfl:m=W1.length:=by omega
          have e1:(E1 ++ [false]).getD W1.length false=false:=by rw [hl,<- h1.ok.len];simp
          have e2:(W1 ++ [W1.getD s [] ++ [(xs.getD i 0).toNat]]).getD W1.length []=W1.getD s [] ++ [(xs.getD i 0).toNat]:=by simp
          rw [e1,e2]
          have:=h1.tw.no s _ O O q
          exact ⟨(fun z=>by cases z),fun z=>absurd (h1.sub _ z) this⟩
      · show (W1 ++ _).getD L1.length []=_
        rw [<- hl,et,<- h3];simp
    · rw [Cf O hr q]
      have:=h1.tw.is s (xs.getD i 0).toNat O O (by show 0<=(L1.getD s []).getD _ 0;omega)
      exact ⟨W1,h1,by show ((L1.getD s []).getD (xs.getD i 0).toNat 0).toNat < L1.length;rw [<- hl];exact this.1,by rw [et,<- h3];exact this.2,by show L1.length<=_;omega⟩
theorem CW.set {E2:List Bool} (h:CW k L E) (he:E2.length=E.length):CW k L E2:=⟨by rw [he,h.len],h.row,h.val⟩
def EE (w:Wd):List Nat:=w.map fun c=>(ix c).toNat
theorem RX.add {S:List (List Nat)} {w:Wd} (h:RX k L E W S) (hw:∀ c ∈ w,0<=ix c/\ix c < k):∃ W1,RX k (wN k L E w) (wK k L E w) W1 (S ++ [EE w])/\(wN k L E w).length<=L.length + w.length:=by
  have hx:∀ x ∈ w.map ix,0<=x/\x < (k:Int):=fun x hx=>by obtain ⟨c,hc,rfl⟩:=List.mem_map.1 hx;exact hw c hc
  obtain ⟨W1,h1,h2,h3,h4⟩:=h.run hx (w.map ix).length (Nat.le_refl _)
  rw [List.take_length] at h1 h2 h3 h4
  have e3:(w.map ix).map Int.toNat=EE w:=by rw [List.map_map];rfl
  have hl:=h1.tw.len
  refine ⟨W1,⟨h1.ok.set (by simp [wK]),h1.tw,fun u hu=>?_,fun m hm=>?_⟩,by rw [wN];rw [List.length_map] at h4;exact h4⟩
  · rcases List.mem_append.1 hu with z | z
    · exact h1.sub u z
    · rw [List.mem_singleton] at z;rw [z,<- e3,<- h3];exact mC O
  · rw [wK,d9 (by rw [h1.ok.len];exact h2)]
    split
    · rename_i q;subst q
      exact ⟨fun _=>List.mem_append.2 (.inr (List.mem_singleton.2 (by rw [h3,e3]))),fun _=>rfl⟩
    · rename_i q
      rw [h1.ends m hm,List.mem_append,List.mem_singleton]
      exact ⟨.inl,fun z=>z.elim id fun z=>absurd (h1.tw.nd m _ hm O (by rw [z,h3,e3])) q⟩
end
end Go.Proofs.YtjppkekmddjcfaaGreatDoor

namespace Go.Proofs.YtjppkekmddjcfaaGreatDoor
open Go Go.RowKit V
def tN (W:List (List Nat)):List Nat->List Nat
  | []=>[]
  | a :: t=>if a :: t ∈ W then a :: t else tN W t
def Pm (W:List (List Nat)):Prop:=[] ∈ W/\∀ u x,u ++ [x] ∈ W->u ∈ W
section
variable {W S:List (List Nat)} {u w t:List Nat} {a x:Nat}
theorem yV (h:Pm W):tN W w ∈ W:=by
  induction w with
  | nil=>exact h.1
  | cons a t ih=>unfold tN;split <;> assumption
theorem qf:tN W w <:+ w:=by
  induction w with
  | nil=>exact List.suffix_refl _
  | cons a t ih =>
    unfold tN;split
    · exact List.suffix_refl _
    · exact ih.trans (List.suffix_cons _ _)
theorem SO (h:w ∈ W):tN W w=w:=by
  cases w with
  | nil=>rfl
  | cons a t=>rw [tN,if_pos h]
theorem sq (h:u <:+ a :: t):u=a :: t\/u <:+ t:=by
  rcases List.suffix_cons_iff.1 h with h | h
  · exact .inl h
  · exact .inr h
theorem uF (hu:u ∈ W) (h:u <:+ w):u <:+ tN W w:=by
  induction w with
  | nil=>exact h
  | cons a t ih =>
    unfold tN;split
    · exact h
    · rename_i q
      rcases sq h with z | z
      · exact absurd (z ▸ hu) q
      · exact ih z
theorem zx {u v:List Nat} (h:u <:+ v) (h':v <:+ u):u=v:=h.eq_of_length (Nat.le_antisymm h.length_le h'.length_le)
theorem AU (hp:Pm W):tN W (w ++ [x])=tN W (tN W w ++ [x]):=by
  refine zx ?_ ?_
  · refine uF (yV hp) ?_
    have h1:tN W (w ++ [x]) <:+ w ++ [x]:=qf
    have h2:tN W (w ++ [x]) ∈ W:=yV hp
    rcases List.eq_nil_or_concat (tN W (w ++ [x])) with q | ⟨u,y,q⟩
    · rw [q];exact List.nil_suffix
    · rw [List.concat_eq_append] at q
      rw [q] at h1 h2 ⊢
      obtain ⟨r,hr⟩:=h1
      rw [<- List.append_assoc] at hr
      obtain ⟨e1,e2⟩:=List.append_inj' hr Z
      have hu:=uF (hp.2 u y h2) (⟨r,e1⟩:u <:+ w)
      obtain ⟨r',hr'⟩:=hu
      exact ⟨r',by rw [<- List.append_assoc,hr',e2]⟩
  · refine uF (yV hp) ((qf).trans ?_)
    obtain ⟨r,hr⟩:=(qf:tN W w <:+ w)
    exact ⟨r,by rw [<- List.append_assoc,hr]⟩
end
theorem TW.prec {k:Nat} {L:List (List Int)} {W:List (List Nat)} (h:TW k L W):Pm W:=by
  refine ⟨h.zero ▸ mC h.pos,fun u x hu=>?_⟩
  obtain ⟨m,hm,e⟩:=Mu hu
  rcases Nat.eq_zero_or_pos m with q | q
  · subst q;rw [h.zero] at e;simp at e
  · obtain ⟨n,y,h1,h2,h3⟩:=h.pre m q hm
    rw [h3] at e
    exact (List.append_inj' e Z).1 ▸ mC h1
structure BS where
  L:List (List Int)
  E:List Bool
  F:List Int
  Q:List Int
abbrev kX (b:BS) (n x:Nat):Int:=if n=0 then 0 else ie b.L (b.F.getD n 0).toNat x
def u6 (n:Nat) (b:BS) (x:Nat):BS :=
  if ie b.L n x < 0 then { b with L:=b.L.set n ((b.L.getD n []).set x (kX b n x)) }
  else ⟨b.L,b.E.set (ie b.L n x).toNat (b.E.getD (ie b.L n x).toNat false || b.E.getD (kX b n x).toNat false),b.F.set (ie b.L n x).toNat (kX b n x),b.Q ++ [ie b.L n x]⟩
abbrev qn (b:BS) (a:Nat):Nat:=(b.Q.getD a 0).toNat
structure BI (k:Nat) (L0:List (List Int)) (W S:List (List Nat)) (b:BS) (i j:Nat):Prop where
  len:b.L.length=W.length/\b.E.length=W.length/\b.F.length=W.length
  row:∀ s,s < W.length->(b.L.getD s []).length=k
  q0:0 < b.Q.length/\b.Q.getD 0 0=0
  qr:∀ a,a < b.Q.length->0<=b.Q.getD a 0/\b.Q.getD a 0 < W.length
  qd:∀ a c,a < b.Q.length->c < b.Q.length->qn b a=qn b c->a=c
  srt:∀ a c,a<=c->c < b.Q.length->(W.getD (qn b a) []).length<=(W.getD (qn b c) []).length
  same:∀ n x,n < W.length->x < k->(∀ a,a < b.Q.length->qn b a=n->i < a\/a=i/\j<=x)->ie b.L n x=ie L0 n x
  done:∀ a x,a < b.Q.length->x < k->(a < i\/a=i/\x < j)->0<=ie b.L (qn b a) x/\ie b.L (qn b a) x < W.length/\W.getD (ie b.L (qn b a) x).toNat []=tN W (W.getD (qn b a) [] ++ [x])
  ch:∀ a x,a < b.Q.length->x < k->(a < i\/a=i/\x < j)->W.getD (qn b a) [] ++ [x] ∈ W->∃ c,c < b.Q.length/\W.getD (qn b c) []=W.getD (qn b a) [] ++ [x]
  pa:∀ c,0 < c->c < b.Q.length->∃ a x,a < b.Q.length/\x < k/\(a < i\/a=i/\x < j)/\W.getD (qn b c) []=W.getD (qn b a) [] ++ [x]
  fl:∀ c,0 < c->c < b.Q.length->0<=b.F.getD (qn b c) 0/\b.F.getD (qn b c) 0 < W.length/\W.getD (b.F.getD (qn b c) 0).toNat []=tN W ((W.getD (qn b c) []).drop 1)
  eq:∀ c,c < b.Q.length->(b.E.getD (qn b c) false=true ↔ ∃ u ∈ S,u <:+ W.getD (qn b c) [])
  en:∀ m,m < W.length->(∀ c,c < b.Q.length->qn b c ≠ m)->(b.E.getD m false=true ↔ W.getD m [] ∈ S)
section
variable {k i j:Nat} {L0:List (List Int)} {E0:List Bool} {W S:List (List Nat)} {b:BS}
theorem BI.before (h:BI k L0 W S b i j) (t:TW k L0 W) (hi:i < b.Q.length):∀ n p,p < W.length->(W.getD p []).length=n->n < (W.getD (qn b i) []).length->∃ a,a < i/\qn b a=p:=by
  intro n
  induction n with
  | zero =>
    intro p hp hl hn
    have e:p=0:=t.nd p 0 hp t.pos (by rw [t.zero];exact List.length_eq_zero_iff.1 hl)
    subst e
    have q0:qn b 0=0:=by unfold qn;rw [h.q0.2];rfl
    refine ⟨0,?_,q0⟩
    rcases Nat.eq_zero_or_pos i with q | q
    · subst q;rw [q0,t.zero] at hn;simp at hn
    · exact q
  | succ n ih =>
    intro p hp hl hn
    have D:0 < p:=by
      rcases Nat.eq_zero_or_pos p with q | q
      · subst q;rw [t.zero] at hl;simp at hl
      · exact q
    obtain ⟨m,x,h1,h2,h3⟩:=t.pre p D hp
    have hml:(W.getD m []).length=n:=by rw [h3] at hl;simpa using hl
    obtain ⟨a,ha,ea⟩:=ih m h1 hml O
    obtain ⟨c,hc,ec⟩:=h.ch a x O h2 (.inl ha) (by rw [ea,<- h3];exact mC hp)
    have ecp:qn b c=p:=t.nd _ _ (by have:=h.qr c hc;unfold qn;omega) hp (by rw [ec,ea,h3])
    refine ⟨c,?_,ecp⟩
    refine Classical.byContradiction fun q=>?_
    have:=h.srt i c O hc
    rw [ecp] at this;omega
theorem BI.qlt (h:BI k L0 W S b i j) {a:Nat} (ha:a < b.Q.length):qn b a < W.length:=by have:=h.qr a ha;unfold qn;omega
theorem BI.to (h:BI k L0 W S b i j) (t:TW k L0 W) (hi:i < b.Q.length) (hj:j < k):0<=kX b (qn b i) j/\kX b (qn b i) j < W.length/\W.getD (kX b (qn b i) j).toNat []=tN W ((W.getD (qn b i) [] ++ [j]).drop 1) /\
    ∃ c,c < b.Q.length/\qn b c=(kX b (qn b i) j).toNat:=by
  have hq:=h.qlt hi
  by_cases hz:qn b i=0
  · rw [kX,if_pos hz,hz,t.zero]
    have q0:qn b 0=0:=by unfold qn;rw [h.q0.2];rfl
    exact ⟨Int.le_refl _,by have:=t.pos;omega,by show W.getD 0 []=_;rw [t.zero];rfl,0,h.q0.1,q0⟩
  · rw [kX,if_neg hz]
    have X:0 < i:=by
      rcases Nat.eq_zero_or_pos i with q | q
      · subst q;exact absurd (by unfold qn;rw [h.q0.2];rfl) hz
      · exact q
    obtain ⟨f1,f2,f3⟩:=h.fl i X hi
    generalize hw:W.getD (qn b i) []=w at *
    obtain ⟨a0,w0,rfl⟩:∃ a0 w0,w=a0 :: w0:=by
      cases w with
      | nil=>exact absurd (t.nd _ 0 hq t.pos (by rw [hw,t.zero])) hz
      | cons a0 w0=>exact ⟨a0,w0,Z⟩
    simp only [List.drop_one,List.tail_cons,List.cons_append] at f3 ⊢
    have hsh:(W.getD (b.F.getD (qn b i) 0).toNat []).length < (W.getD (qn b i) []).length:=by
      rw [f3,hw];have:=(qf:tN W w0 <:+ w0).length_le;simp;omega
    obtain ⟨c,hc,ec⟩:=h.before t hi _ _ O Z hsh
    have hd:=h.done c j O hj (.inl hc)
    rw [ec] at hd
    refine ⟨hd.1,hd.2.1,by rw [hd.2.2,f3,<- AU t.prec],?_⟩
    -- it has been met,as its word is not longer than the node's
    have a1:(W.getD (ie b.L (b.F.getD (qn b i) 0).toNat j).toNat []).length<=(W.getD (qn b i) []).length:=by
      rw [hd.2.2,f3,<- AU t.prec]
      have:=(qf:tN W (w0 ++ [j]) <:+ w0 ++ [j]).length_le
      rw [hw];simp at this ⊢;omega
    generalize hr:(ie b.L (b.F.getD (qn b i) 0).toNat j).toNat=r at *
    have hrW:r < W.length:=by omega
    rcases Nat.lt_or_ge (W.getD r []).length (W.getD (qn b i) []).length with q | q
    · obtain ⟨c,hc,ec⟩:=h.before t hi _ r hrW Z q
      exact ⟨c,by omega,ec⟩
    · rcases Nat.eq_zero_or_pos r with z | z
      · subst z
        have q0:qn b 0=0:=by unfold qn;rw [h.q0.2];rfl
        exact ⟨0,h.q0.1,q0⟩
      · obtain ⟨m,x,h1,h2,h3⟩:=t.pre r z hrW
        have hm:(W.getD m []).length < (W.getD (qn b i) []).length:=by rw [h3,List.length_append,List.length_singleton] at a1;omega
        obtain ⟨c,hc,ec⟩:=h.before t hi _ m h1 Z hm
        obtain ⟨d,D,V⟩:=h.ch c x O h2 (.inl hc) (by rw [ec,<- h3];exact mC hrW)
        exact ⟨d,D,t.nd _ _ (h.qlt D) hrW (by rw [V,ec,h3])⟩
theorem TD {L:List (List Int)} {n x m y:Nat} {v:Int} (hn:n < L.length) (hx:x < (L.getD n []).length):ie (L.set n ((L.getD n []).set x v)) m y=if m=n/\y=x then v else ie L m y:=by
  unfold ie
  rw [d9 hn]
  by_cases h:m=n
  · subst h
    rw [if_pos Z,d9 hx]
    by_cases h2:y=x <;> simp [h2]
  · simp [h]
theorem BI.step (h:BI k L0 W S b i j) (t:TW k L0 W) (hs:∀ w ∈ S,w ∈ W) (hne:[] ∉ S) (hi:i < b.Q.length) (hj:j < k):BI k L0 W S (u6 (qn b i) b j) i (j + 1):=by
  have hq:=h.qlt hi
  obtain ⟨t1,t2,t3,t4⟩:=h.to t hi hj
  have hsame:ie b.L (qn b i) j=ie L0 (qn b i) j:=h.same _ _ hq hj fun a ha ea=>by
    have:=h.qd a i ha hi ea;exact .inr ⟨this,by omega⟩
  have V:∀ a,a < b.Q.length->qn b a=qn b i->a=i:=fun a ha ea=>h.qd a i ha hi ea
  unfold u6
  split
  · -- the letter leads nowhere yet
    rename_i hneg
    have hno:=t.no (qn b i) j hq hj (by rw [<- hsame];exact hneg)
    have hval:W.getD (kX b (qn b i) j).toNat []=tN W (W.getD (qn b i) [] ++ [j]):=by
      rw [t3]
      cases hw:W.getD (qn b i) [] ++ [j] with
      | nil=>simp at hw
      | cons a0 w0=>rw [hw] at hno;rw [tN,if_neg hno];rfl
    have hent:∀ m y,ie (b.L.set (qn b i) ((b.L.getD (qn b i) []).set j (kX b (qn b i) j))) m y=if m=qn b i/\y=j then kX b (qn b i) j else ie b.L m y:=fun m y=>TD (by rw [h.len.1];exact hq) (by rw [h.row _ hq];exact hj)
    refine ⟨⟨by simp [h.len.1],h.len.2⟩,fun s hs'=>?_,h.q0,h.qr,h.qd,h.srt,fun n x hn hx hc=>?_,fun a x ha hx hc=>?_,fun a x ha hx hc hm=>?_,fun c D hc=>?_,h.fl,h.eq,h.en⟩
    · show ((b.L.set _ _).getD s []).length=k
      rw [d9 (by rw [h.len.1];exact hq)]
      split
      · rw [List.length_set];exact h.row _ hq
      · exact h.row s hs'
    · show ie (b.L.set _ _) n x=_
      rw [hent,if_neg]
      · exact h.same n x hn hx fun a ha ea=>by rcases hc a ha ea with q | q;exact .inl q;exact .inr ⟨q.1,by omega⟩
      · rintro ⟨rfl,rfl⟩
        rcases hc i hi rfl with q | q <;> omega
    · show 0<=ie (b.L.set _ _) (qn b a) x/\_
      have e:ie (b.L.set (qn b i) ((b.L.getD (qn b i) []).set j (kX b (qn b i) j))) (qn b a) x=if qn b a=qn b i/\x=j then kX b (qn b i) j else ie b.L (qn b a) x:=hent _ _
      show 0<=ie (b.L.set (qn b i) ((b.L.getD (qn b i) []).set j (kX b (qn b i) j))) (qn b a) x/\ie (b.L.set (qn b i) ((b.L.getD (qn b i) []).set j (kX b (qn b i) j))) (qn b a) x < W.length/\W.getD (ie (b.L.set (qn b i) ((b.L.getD (qn b i) []).set j (kX b (qn b i) j))) (qn b a) x).toNat []=_
      rw [e]
      by_cases q:qn b a=qn b i/\x=j
      · rw [if_pos q,q.1,q.2];exact ⟨t1,t2,hval⟩
      · rw [if_neg q]
        exact h.done a x ha hx (by
          rcases hc with c | c
          · exact .inl c
          · exact .inr ⟨c.1,by have:¬ x=j:=fun z=>q ⟨by rw [c.1],z⟩;omega⟩)
    · rcases hc with c | c
      · exact h.ch a x ha hx (.inl c) hm
      · by_cases z:x=j
        · obtain ⟨rfl,_⟩:=c;subst z;exact absurd hm hno
        · exact h.ch a x ha hx (.inr ⟨c.1,by omega⟩) hm
    · obtain ⟨a,x,h1,h2,h3,h4⟩:=h.pa c D hc
      exact ⟨a,x,h1,h2,by rcases h3 with c | c;exact .inl c;exact .inr ⟨c.1,by omega⟩,h4⟩
  · -- a node that is met now
    rename_i hpos
    obtain ⟨m1,m2⟩:=t.is (qn b i) j hq hj (by rw [<- hsame];omega)
    rw [<- hsame] at m1 m2
    generalize hm:ie b.L (qn b i) j=z at *
    obtain ⟨m,rfl⟩:∃ m:Nat,z=m:=⟨z.toNat,by omega⟩
    rw [Int.toNat_natCast] at m1 m2 ⊢
    have fresh:∀ c,c < b.Q.length->qn b c ≠ m:=fun c hc ec=>by
      rcases Nat.eq_zero_or_pos c with q | q
      · subst q
        have q0:qn b 0=0:=by unfold qn;rw [h.q0.2];rfl
        rw [q0] at ec;rw [<- ec,t.zero] at m2;simp at m2
      · obtain ⟨a,x,h1,h2,h3,h4⟩:=h.pa c q hc
        rw [ec,m2] at h4
        obtain ⟨e1,e2⟩:=List.append_inj' h4 Z
        have ea:=V a h1 (t.nd _ _ (h.qlt h1) hq e1.symm)
        have ex:x=j:=by simpa using e2.symm
        rcases h3 with c | c <;> omega
    have g1:∀ a,a < b.Q.length->(b.Q ++ [(m:Int)]).getD a 0=b.Q.getD a 0:=fun a ha=>kj ha
    have g2:(b.Q ++ [(m:Int)]).getD b.Q.length 0=m:=by simp
    have n1:∀ a,a < b.Q.length->((b.Q ++ [(m:Int)]).getD a 0).toNat=qn b a:=fun a ha=>by rw [g1 a ha]
    have n2:((b.Q ++ [(m:Int)]).getD b.Q.length 0).toNat=m:=by rw [g2];rfl
    have lw:(W.getD m []).length=(W.getD (qn b i) []).length + 1:=by rw [m2];simp
    have lR:∀ c,c < b.Q.length->(W.getD (qn b c) []).length<=(W.getD (qn b i) []).length + 1:=fun c hc=>by
      rcases Nat.eq_zero_or_pos c with q | q
      · subst q
        have q0:qn b 0=0:=by unfold qn;rw [h.q0.2];rfl
        rw [q0,t.zero];simp
      · obtain ⟨a,x,h1,h2,h3,h4⟩:=h.pa c q hc
        rw [h4,List.length_append,List.length_singleton]
        have:=h.srt a i (by rcases h3 with c | c <;> omega) hi
        omega
    have lt:∀ {a},a < (b.Q ++ [(m:Int)]).length->a < b.Q.length\/a=b.Q.length:=fun {a} ha=>by simp at ha;omega
    refine ⟨⟨h.len.1,by simp [h.len.2.1],by simp [h.len.2.2]⟩,h.row,⟨by simp,by show (b.Q ++ [(m:Int)]).getD 0 0=0;rw [g1 0 h.q0.1];exact h.q0.2⟩,fun a ha=>?_,fun a c ha hc ec=>?_,fun a c hac hc=>?_,fun n x hn hx hc=>?_,fun a x ha hx hc=>?_,fun a x ha hx hc hm'=>?_,fun c D hc=>?_,fun c D hc=>?_,fun c hc=>?_,fun p hp hc=>?_⟩
    · show 0<=(b.Q ++ [(m:Int)]).getD a 0/\(b.Q ++ [(m:Int)]).getD a 0 < W.length
      rcases lt ha with q | q
      · rw [g1 a q];exact h.qr a q
      · rw [q,g2];omega
    · have ec:((b.Q ++ [(m:Int)]).getD a 0).toNat=((b.Q ++ [(m:Int)]).getD c 0).toNat:=ec
      rcases lt ha with q | q
      · rcases lt hc with q2 | q2
        · rw [n1 a q,n1 c q2] at ec;exact h.qd a c q q2 ec
        · rw [n1 a q,q2,n2] at ec;exact absurd ec (fresh a q)
      · rcases lt hc with q2 | q2
        · rw [n1 c q2,q,n2] at ec;exact absurd ec.symm (fresh c q2)
        · omega
    · show (W.getD ((b.Q ++ [(m:Int)]).getD a 0).toNat []).length<=(W.getD ((b.Q ++ [(m:Int)]).getD c 0).toNat []).length
      rcases lt hc with q2 | q2
      · rw [n1 a O,n1 c q2];exact h.srt a c hac q2
      · rw [q2,n2]
        rcases Nat.lt_or_ge a b.Q.length with q | q
        · rw [n1 a q,lw];exact lR a q
        · rw [show a=b.Q.length by omega,n2];exact Nat.le_refl _
    · refine h.same n x hn hx fun a ha ea=>?_
      have:=hc a Oz (by show ((b.Q ++ [(m:Int)]).getD a 0).toNat=n;rw [n1 a ha];exact ea)
      rcases this with q | q
      · exact .inl q
      · exact .inr ⟨q.1,by omega⟩
    · show 0<=ie b.L ((b.Q ++ [(m:Int)]).getD a 0).toNat x/\ie b.L ((b.Q ++ [(m:Int)]).getD a 0).toNat x < W.length/\W.getD (ie b.L ((b.Q ++ [(m:Int)]).getD a 0).toNat x).toNat []=tN W (W.getD ((b.Q ++ [(m:Int)]).getD a 0).toNat [] ++ [x])
      have hal:a < b.Q.length:=by omega
      rw [n1 a hal]
      by_cases q:a=i/\x=j
      · obtain ⟨rfl,rfl⟩:=q
        rw [hm,Int.toNat_natCast,m2,<- m2,SO (mC m1)]
        exact ⟨by omega,by omega,Z⟩
      · exact h.done a x hal hx (by
          rcases hc with c | c
          · exact .inl c
          · exact .inr ⟨c.1,by have:¬ x=j:=fun z=>q ⟨c.1,z⟩;omega⟩)
    · show ∃ c,c < (b.Q ++ [(m:Int)]).length/\W.getD ((b.Q ++ [(m:Int)]).getD c 0).toNat []=W.getD ((b.Q ++ [(m:Int)]).getD a 0).toNat [] ++ [x]
      have hal:a < b.Q.length:=by omega
      have hm':W.getD ((b.Q ++ [(m:Int)]).getD a 0).toNat [] ++ [x] ∈ W:=hm'
      rw [n1 a hal] at hm' ⊢
      by_cases q:a=i/\x=j
      · obtain ⟨rfl,rfl⟩:=q
        exact ⟨b.Q.length,by simp,by rw [n2];exact m2⟩
      · obtain ⟨c,c1,c2⟩:=h.ch a x hal hx (by
          rcases hc with c | c
          · exact .inl c
          · exact .inr ⟨c.1,by have:¬ x=j:=fun z=>q ⟨c.1,z⟩;omega⟩) hm'
        exact ⟨c,by simp;omega,by rw [n1 c c1];exact c2⟩
    · show ∃ a x,a < (b.Q ++ [(m:Int)]).length/\x < k/\(a < i\/a=i/\x < j + 1)/\W.getD ((b.Q ++ [(m:Int)]).getD c 0).toNat []=W.getD ((b.Q ++ [(m:Int)]).getD a 0).toNat [] ++ [x]
      rcases lt hc with q | q
      · obtain ⟨a,x,h1,h2,h3,h4⟩:=h.pa c D q
        exact ⟨a,x,by simp;omega,h2,by rcases h3 with c | c;exact .inl c;exact .inr ⟨c.1,by omega⟩,by rw [n1 c q,n1 a h1];exact h4⟩
      · exact ⟨i,j,by simp;omega,hj,.inr ⟨Z,by omega⟩,by rw [q,n2,n1 i hi];exact m2⟩
    · show 0<=(b.F.set m (kX b (qn b i) j)).getD ((b.Q ++ [(m:Int)]).getD c 0).toNat 0/\(b.F.set m (kX b (qn b i) j)).getD ((b.Q ++ [(m:Int)]).getD c 0).toNat 0 < W.length/\W.getD ((b.F.set m (kX b (qn b i) j)).getD ((b.Q ++ [(m:Int)]).getD c 0).toNat 0).toNat []=tN W ((W.getD ((b.Q ++ [(m:Int)]).getD c 0).toNat []).drop 1)
      rw [d9 (by rw [h.len.2.2];exact m1)]
      rcases lt hc with q | q
      · rw [n1 c q,if_neg (fresh c q)];exact h.fl c D q
      · rw [q,n2,if_pos Z,m2];exact ⟨t1,t2,t3⟩
    · show (b.E.set m (b.E.getD m false || b.E.getD (kX b (qn b i) j).toNat false)).getD ((b.Q ++ [(m:Int)]).getD c 0).toNat false=true ↔ ∃ u ∈ S,u <:+ W.getD ((b.Q ++ [(m:Int)]).getD c 0).toNat []
      rw [d9 (by rw [h.len.2.1];exact m1)]
      rcases lt hc with q | q
      · rw [n1 c q,if_neg (fresh c q)];exact h.eq c q
      · rw [q,n2,if_pos Z,Bool.or_eq_true,h.en m m1 fresh]
        obtain ⟨d,d1,d2⟩:=t4
        rw [<- d2,h.eq d d1,d2,t3,<- m2]
        constructor
        · rintro (z | ⟨u,u1,u2⟩)
          · exact ⟨_,z,List.suffix_refl _⟩
          · exact ⟨u,u1,u2.trans (qf.trans (List.drop_suffix _ _))⟩
        · rintro ⟨u,u1,u2⟩
          cases hw:W.getD m [] with
          | nil=>rw [hw] at lw;simp at lw
          | cons a0 w0 =>
            rw [hw] at u2
            rcases sq u2 with z | z
            · exact .inl (z ▸ u1)
            · exact .inr ⟨u,u1,uF (hs u u1) z⟩
    · show (b.E.set m (b.E.getD m false || b.E.getD (kX b (qn b i) j).toNat false)).getD p false=true ↔ _
      have hpm:p ≠ m:=fun z=>hc b.Q.length (by simp) (by show ((b.Q ++ [(m:Int)]).getD b.Q.length 0).toNat=p;rw [n2,z])
      rw [d9 (by rw [h.len.2.1];exact m1),if_neg hpm]
      exact h.en p hp fun c hc'=>by have:=hc c Oz;intro z;exact this (by show ((b.Q ++ [(m:Int)]).getD c 0).toNat=p;rw [n1 c hc'];exact z)
theorem BI.start (h:RX k L0 E0 W S) (hne:[] ∉ S):BI k L0 W S ⟨L0,E0,List.replicate W.length 0,[0]⟩ 0 0:=by
  have hl:=h.tw.len
  have q0:∀ a,a < ([0]:List Int).length->a=0:=fun a ha=>by simpa using ha
  refine ⟨⟨hl.symm,by rw [hl];exact h.ok.len,List.length_replicate⟩,fun s hs=>h.ok.row s O,⟨Nat.zero_lt_one,rfl⟩,fun a ha=>?_,fun a c ha hc _=>?_,fun a c hac hc=>?_,fun n x hn hx _=>rfl,fun a x ha hx hc=>?_,fun a x ha hx hc=>?_,fun c D hc=>?_,fun c D hc=>?_,fun c hc=>?_,fun m hm _=>h.ends m hm⟩
  · rw [q0 a ha];exact ⟨Int.le_refl _,by have:=h.tw.pos;show (0:Int) < W.length;omega⟩
  · rw [q0 a ha,q0 c hc]
  · rw [q0 c hc,q0 a (by have:=q0 c hc;show a < 1;omega)];exact Nat.le_refl _
  · omega
  · omega
  · exact absurd (q0 c hc) O
  · exact absurd (q0 c hc) O
  · rw [q0 c hc]
    show E0.getD 0 false=true ↔ ∃ u ∈ S,u <:+ W.getD 0 []
    rw [h.ends 0 h.tw.pos,h.tw.zero]
    exact ⟨fun z=>absurd z hne,fun ⟨u,u1,u2⟩=>absurd ((List.suffix_nil.1 u2) ▸ u1) hne⟩
theorem BI.next (h:BI k L0 W S b i k) (hi:i < b.Q.length):BI k L0 W S b (i + 1) 0:=by
  have e:∀ {a x},x < k->(a < i + 1\/a=i + 1/\x < 0)->(a < i\/a=i/\x < k):=fun {a x} hx hc=>by omega
  exact ⟨h.len,h.row,h.q0,h.qr,h.qd,h.srt,fun n x hn hx hc=>h.same n x hn hx fun a ha ea=>by have:=hc a ha ea;omega,fun a x ha hx hc=>h.done a x ha hx (e hx hc),fun a x ha hx hc=>h.ch a x ha hx (e hx hc),
    fun c D hc=>by obtain ⟨a,x,h1,h2,h3,h4⟩:=h.pa c D hc;exact ⟨a,x,h1,h2,by omega,h4⟩,h.fl,h.eq,h.en⟩
theorem pn:∀ (n:Nat) (l:List Nat),l.Nodup->(∀ x ∈ l,x < n)->l.length<=n
  | 0,l,_,h=>by
    cases l with
    | nil=>exact Nat.le_refl _
    | cons a l=>exact absurd (h a List.mem_cons_self) O
  | n + 1,l,hn,h=>by
    have h1:=pn n (l.erase n) (hn.erase n) (fun x hx=>by
      have h2:=h x (List.mem_of_mem_erase hx)
      have h3:x ≠ n:=by rintro rfl;exact hn.not_mem_erase hx
      omega)
    by_cases hm:n ∈ l
    · rw [List.length_erase_of_mem hm] at h1;omega
    · rw [List.erase_of_not_mem hm] at h1;omega
theorem qh {l:List Nat} {n:Nat} (h1:l.Nodup) (h2:∀ x ∈ l,x < n):l.length<=n:=pn _ _ h1 h2
theorem BI.qlen (h:BI k L0 W S b i j):b.Q.length<=W.length:=by
  have:=qh (l:=(List.range b.Q.length).map (qn b)) (n:=W.length) ?_ ?_
  · simpa using this
  · rw [List.nodup_iff_pairwise_ne,List.pairwise_map]
    exact List.Pairwise.imp_of_mem (fun {a c} ha hc hac e=>hac (h.qd a c (List.mem_range.1 ha) (List.mem_range.1 hc) e)) List.nodup_range
  · intro x hx
    obtain ⟨a,ha,rfl⟩:=List.mem_map.1 hx
    exact h.qlt (List.mem_range.1 ha)
theorem BI.all (h:BI k L0 W S b i 0) (t:TW k L0 W) (hi:b.Q.length<=i):∀ n p,p < W.length->(W.getD p []).length=n->∃ a,a < b.Q.length/\qn b a=p:=by
  intro n
  induction n with
  | zero =>
    intro p hp hl
    have e:p=0:=t.nd p 0 hp t.pos (by rw [t.zero];exact List.length_eq_zero_iff.1 hl)
    subst e
    exact ⟨0,h.q0.1,by unfold qn;rw [h.q0.2];rfl⟩
  | succ n ih =>
    intro p hp hl
    have D:0 < p:=by
      rcases Nat.eq_zero_or_pos p with q | q
      · subst q;rw [t.zero] at hl;simp at hl
      · exact q
    obtain ⟨m,x,h1,h2,h3⟩:=t.pre p D hp
    obtain ⟨a,ha,ea⟩:=ih m h1 (by rw [h3] at hl;simpa using hl)
    obtain ⟨c,hc,ec⟩:=h.ch a x ha h2 (.inl O) (by rw [ea,<- h3];exact mC hp)
    exact ⟨c,hc,t.nd _ _ (h.qlt hc) hp (by rw [ec,ea,h3])⟩
structure TV (k:Nat) (L:List (List Int)) (E:List Bool) (W S:List (List Nat)):Prop where
  len:L.length=W.length/\E.length=W.length
  row:∀ s,s < W.length->(L.getD s []).length=k
  pos:0 < W.length
  zero:W.getD 0 []=[]
  nd:∀ a b,a < W.length->b < W.length->W.getD a []=W.getD b []->a=b
  prec:Pm W
  sub:∀ w ∈ S,w ∈ W
  to:∀ n x,n < W.length->x < k->0<=ie L n x/\ie L n x < W.length/\W.getD (ie L n x).toNat []=tN W (W.getD n [] ++ [x])
  ends:∀ n,n < W.length->(E.getD n false=true ↔ ∃ u ∈ S,u <:+ W.getD n [])
theorem BI.aho (h:BI k L0 W S b i 0) (t:TW k L0 W) (hs:∀ w ∈ S,w ∈ W) (hi:b.Q.length<=i):TV k b.L b.E W S :=
  ⟨⟨h.len.1,h.len.2.1⟩,h.row,t.pos,t.zero,t.nd,t.prec,hs,fun n x hn hx=>by
    obtain ⟨a,ha,rfl⟩:=h.all t hi _ n hn Z
    exact h.done a x ha hx (.inl O),fun n hn=>by
    obtain ⟨a,ha,rfl⟩:=h.all t hi _ n hn Z
    exact h.eq a ha⟩
end
structure Kx (k:Nat) (acc:List Bool) (L:List (List Int)):Prop where
  sym:1<=k/\k<=400
  len:acc.length=L.length
  num:0 < L.length/\L.length<=20000
  row:∀ s,s < L.length->(L.getD s []).length=k
  val:∀ s x,s < L.length->x < k->-1<=ie L s x/\ie L s x < L.length
end Go.Proofs.YtjppkekmddjcfaaGreatDoor

namespace Go.Proofs.YtjppkekmddjcfaaGreatDoor
open Go Go.RowKit V
set_option maxRecDepth 100000
theorem sU:ee Tryz.prog 62 0=some (3,0):=by kernel_rfl
theorem vp:ee Tryz.prog 62 1=some (3,1):=by kernel_rfl
theorem lH:ee Tryz.prog 62 2=some (59,2):=by kernel_rfl
theorem lI:ee Tryz.prog 62 3=some (60,3):=by kernel_rfl

theorem NX (k:Nat) (acc:List Bool) (L:List (List Int)) (av nv:Value) (rows:List Value) (A:AH) (hok:Kx k acc L) (hav:bK A 1 av (cl acc)) (hnv:bK A 1 nv (em rows)) (hrl:rows.length=L.length) (hF:∀ i,i < L.length->bK A 1 (rows.getD i undef) (cO (L.getD i []))):bH Tryz.prog 116 #[.agg #[num ((k:Nat):Int),num ((0:Nat):Int),av,nv]] A (fun v A1=>v=num ((0:Nat):Int)/\A.le A1/\A1.wf):=by
 refine ia Tryz.call116 Tryz.func116 Z Tryz.results116 Tryz.ntmps116 Z (fun wf=>?_);have b8:=AH.le.refl A;obtain ⟨⟨bY,c3⟩,hal,⟨bU,bV⟩,hrow,hval⟩:=hok;refine am.seq fun _ h2=>.region<|.l Z (fun _ _ b5 _=>dQ wf rfl rfl fun A5 b4 h=>?_);have D:=b8.trans h.le;refine b5 _ _<|.q Z (ae Z)<|.nil<|h2 _ _<|.seq fun _ h9=>.region<|.q Z (aj lH iK U Z)<|.q Z (ak iE Z Z h.get Z)<|.q Z (bF (n:=acc.length) lS Z (hav.le D) O (fw _))<|.q Z (ae Z) ?_;refine Ops.nil<|h9 _ _<|.seq fun _ ag=>.seq fun _ a1=>.region<|.q Z (aj sU c5 U Z)<|.q Z (ak eM Z Z h.get Z)<|.q Z (cd (b:=1) Z Z)<|.q Z (ah Z)<|.part (t:=14) Z (fun b9=>?_) (fun b9=>?_)
 ·refine Ops.off Z Z Z Z<|.off Z Z Z Z<|.off Z Z Z Z<|.q Z (aM Z Z)<|.q Z (ah Z)<|.off Z Z Z Z<|.off Z Z Z Z<|.q Z (aM Z Z)<|.q Z (ah Z)<|.off Z Z Z Z ?_;refine Ops.off Z Z Z Z<|.off Z Z Z Z<|.off Z Z Z Z<|.off Z Z Z Z<|.q Z (aM Z Z)<|.q Z (ah Z)<|.off Z Z Z Z<|.off Z Z Z Z<|.off Z Z Z Z<|.q Z (aM Z Z) ?_;refine Ops.q Z (ah Z)<|.off Z Z Z Z<|.off Z Z Z Z<|.off Z Z Z Z<|.off Z Z Z Z<|.off Z Z Z Z<|.q Z (aM Z Z)<|.nil<|a1 _ _<|.cond_true Z ?_;refine am.seq fun _ ai=>.region<|.q Z (ae Z)<|.nil<|ai _ _<|.rt (by exact aJ Z (⟨by first | rfl | (exfalso;omega) | (exfalso;have:=hro O;omega) | (exfalso;have:=hva O;simp only [ie] at this;omega),D,h.wf⟩))
 refine Ops.on Z Z<|.q Z (aj sU c5 U Z)<|.on Z Z<|.q Z (ak eM Z Z h.get Z)<|.on Z Z<|.q Z (dP (b:=400) Z Z)<|.q Z (aW Z Z)<|.q Z (ah Z)<|.part (t:=19) Z (fun ba=>?_) (fun ba=>?_)
 ·refine Ops.off Z Z Z Z<|.off Z Z Z Z<|.q Z (aM Z Z)<|.q Z (ah Z)<|.off Z Z Z Z<|.off Z Z Z Z<|.off Z Z Z Z<|.off Z Z Z Z<|.off Z Z Z Z<|.q Z (aM Z Z) ?_;refine Ops.q Z (ah Z)<|.off Z Z Z Z<|.off Z Z Z Z<|.off Z Z Z Z<|.q Z (aM Z Z)<|.q Z (ah Z)<|.off Z Z Z Z<|.off Z Z Z Z<|.off Z Z Z Z<|.off Z Z Z Z ?_;refine Ops.off Z Z Z Z<|.q Z (aM Z Z)<|.nil<|a1 _ _<|.cond_true Z<|.seq fun _ ap=>.region<|.q Z (ae Z)<|.nil<|ap _ _ ?_;refine am.ret ?_;repeat first | with_reducible refine bz ?_ | with_reducible refine bi ?_
  exact aJ Z (⟨by first | rfl | (exfalso;omega) | (exfalso;have:=hro O;omega) | (exfalso;have:=hva O;simp only [ie] at this;omega),D,h.wf⟩)
 refine Ops.on Z Z<|.q Z (ah Z)<|.on Z Z<|.q Z (dP (b:=20000) Z Z)<|.q Z (aW Z Z)<|.q Z (ah Z)<|.part (t:=23) Z (fun bb=>?_) (fun bb=>?_)
 ·refine Ops.off Z Z Z Z<|.off Z Z Z Z<|.off Z Z Z Z<|.off Z Z Z Z<|.off Z Z Z Z<|.q Z (aM Z Z)<|.q Z (ah Z)<|.off Z Z Z Z<|.off Z Z Z Z<|.off Z Z Z Z ?_;refine Ops.q Z (aM Z Z)<|.q Z (ah Z)<|.off Z Z Z Z<|.off Z Z Z Z<|.off Z Z Z Z<|.off Z Z Z Z<|.off Z Z Z Z<|.q Z (aM Z Z)<|.nil<|a1 _ _ ?_;refine am.cond_true Z<|.seq fun _ ar=>.region<|.q Z (ae Z)<|.nil<|ar _ _<|.rt (by exact aJ Z (⟨by first | rfl | (exfalso;omega) | (exfalso;have:=hro O;omega) | (exfalso;have:=hva O;simp only [ie] at this;omega),D,h.wf⟩))
 refine Ops.on Z Z<|.q Z (aj lI i8 U Z)<|.on Z Z<|.q Z (ak kh Z Z h.get Z)<|.on Z Z<|.q Z (bF (n:=rows.length) oe Z (hnv.le D) O (i6 _))<|.on Z Z<|.q Z (ah Z)<|.on Z Z<|.q Z (fh Z Z) ?_;refine Ops.q Z (aW Z Z)<|.q Z (ah Z)<|.part (t:=30) Z (fun bc=>?_) (fun bc=>?_)
 ·refine Ops.off Z Z Z Z<|.off Z Z Z Z<|.off Z Z Z Z<|.q Z (aM Z Z)<|.q Z (ah Z)<|.off Z Z Z Z<|.off Z Z Z Z<|.off Z Z Z Z<|.off Z Z Z Z<|.off Z Z Z Z ?_;refine Ops.q Z (aM Z Z)<|.nil<|a1 _ _<|.cond_true Z<|.seq fun _ ay=>.region<|.q Z (ae Z)<|.nil<|ay _ _<|.rt (by exact aJ Z (⟨by first | rfl | (exfalso;omega) | (exfalso;have:=hro O;omega) | (exfalso;have:=hva O;simp only [ie] at this;omega),D,h.wf⟩))
 refine Ops.on Z Z<|.q Z (aj vp c5 U Z)<|.on Z Z<|.q Z (ak eM Z Z h.get Z)<|.on Z Z<|.q Z (cd (a:=0) (b:=0) Z Z)<|.q Z (aW Z Z)<|.q Z (ah Z)<|.part (t:=35) Z (fun bd=>?_) (fun bd=>?_)
 ·refine Ops.off Z Z Z Z<|.off Z Z Z Z<|.off Z Z Z Z<|.off Z Z Z Z<|.off Z Z Z Z<|.q Z (aM Z Z)<|.nil<|a1 _ _<|.cond_true Z<|.seq fun _ az=>?_;refine am.region<|.q Z (ae Z)<|.nil<|az _ _<|.rt (by exact aJ Z (⟨by first | rfl | (exfalso;omega) | (exfalso;have:=hro O;omega) | (exfalso;have:=hva O;simp only [ie] at this;omega),D,h.wf⟩))
 refine Ops.on Z Z<|.q Z (aj vp c5 U Z)<|.on Z Z<|.q Z (ak eM Z Z h.get Z)<|.on Z Z<|.q Z (ah Z)<|.on Z Z<|.q Z (Uy Z Z)<|.on Z Z<|.q Z (vK (a:=0) Z Z) ?_;refine Ops.q Z (aW Z Z)<|.nil<|a1 _ _<|.if rfl (fun bl=>?_) (fun bl=>?_)
 ·refine am.seq fun _ aA=>.region<|.q Z (ae Z)<|.nil<|aA _ _<|.rt (by exact aJ Z (⟨by first | rfl | (exfalso;omega) | (exfalso;have:=hro O;omega) | (exfalso;have:=hva O;simp only [ie] at this;omega),D,h.wf⟩))
 refine am.skip<|ag _ _<|.seq fun _ aB=>.seq fun _ aC=>.region<|.q Z (aj lI i8 U Z)<|.q Z (ak kh Z Z h.get Z)<|.q Z (bF (n:=rows.length) oe Z (hnv.le D) O (i6 _))<|.q Z (ah Z)<|.nil ?_;refine aC _ _<|.block<|.loop (X:=Nat) (fun i=>[(1,.pointer (some ⟨b4,0,none⟩)),(3,num ((acc.length:Nat):Int)),(43,nv),(44,num ((rows.length:Nat):Int)),(45,num ((i:Nat):Int))]) (fun i B=>(i<=L.length)/\A.le B/\B.get b4=some (.row true [num ((k:Nat):Int),num ((0:Nat):Int),av,nv] 4)) (fun i=>L.length - i) 0 (pZ Z Z Z Z Z) (⟨(Nat.zero_le _),D,h.get⟩) ?_;rintro i B37 ⟨hi,V,a2⟩;refine am.wf fun a5=>?_;have hro:=fun q:i < L.length=>hrow i q;refine am.seq fun _ aD=>.region<|.q Z (cd Z Z)<|.nil<|aD _ _<|.seq fun _ aF=>.if rfl (fun bm=>?_) (fun bm=>?_)
 ·refine am.skip<|aF _ _<|.seq fun _ aG=>.block<|.seq fun _ aI=>.region ?_;obtain ⟨bP,bS,bM,ck,bD,cc,c4,aa,b6,ac,bA,a8⟩:=bK.at (i:=i) (hnv.le V) Ok O;refine Ops.q Z (ax oe fF Z aa Z b6)<|.q Z (ak l8 Z Z ac ((cT a8).trans (eO O)))<|.q Z (ae Z)<|.nil<|aI _ _<|.seq fun _ aP=>.seq fun _ aR=>.region<|.q Z (ah Z)<|.q Z (bF (n:=((L.getD i [])).length) ep Z ((hF i O).le V) O (eD _)) ?_;refine Ops.q Z (aj sU c5 U Z)<|.q Z (ak eM Z Z a2 Z)<|.q Z (fh Z Z)<|.nil<|aR _ _<|.if rfl (fun bp=>?_) (fun bp=>?_)
  ·refine am.seq fun _ aS=>.region<|.q Z (ae Z)<|.nil<|aS _ _<|.rt (by exact aJ Z (⟨by first | rfl | (exfalso;omega) | (exfalso;have:=hro O;omega) | (exfalso;have:=hva O;simp only [ie] at this;omega),V,a5⟩))
  refine am.skip<|aP _ _<|.seq fun _ aT=>.region<|.q Z (ah Z)<|.q Z (bF (n:=((L.getD i [])).length) ep Z ((hF i O).le V) O (eD _))<|.q Z (ah Z)<|.nil<|aT _ _<|.block ?_;refine am.loop (X:=Nat) (fun j=>[(1,.pointer (some ⟨b4,0,none⟩)),(3,num ((acc.length:Nat):Int)),(43,nv),(44,num ((rows.length:Nat):Int)),(45,num ((i:Nat):Int)),(54,rows.getD i undef),(55,num ((((L.getD i [])).length:Nat):Int)),(56,num ((j:Nat):Int))]) (fun j B=>(j<=k/\i < L.length)/\A.le B/\B.get b4=some (.row true [num ((k:Nat):Int),num ((0:Nat):Int),av,nv] 4)) (fun j=>k - j) 0 (yC Z Z Z Z Z Z Z Z) (⟨⟨Nat.zero_le _,by omega⟩,V,a2⟩) ?_;rintro j B59 ⟨⟨hj,a4⟩,a0,a3⟩;refine am.wf fun a6=>?_;have bC:=hrow i a4;have hva:=fun q:j < k=>hval i j a4 q;refine am.seq fun _ aV=>.region<|.q Z (cd Z Z)<|.nil<|aV _ _<|.seq fun _ aY=>.if rfl (fun br=>?_) (fun br=>?_)
  ·refine am.skip<|aY _ _<|.seq fun _ aZ=>.block<|.seq fun _ b0=>.region ?_;obtain ⟨bR,bT,bO,cv,bL,ch,c7,ab,b7,ad,bB,a9⟩:=bK.at (i:=j) ((hF i O).le a0) Of O;refine Ops.q Z (ax ep c5 Z ab Z b7)<|.q Z (ak eM Z Z ad ((cT a9).trans (c8 O)))<|.q Z (ae Z)<|.nil<|b0 _ _<|.seq fun _ a7=>.region<|.q Z (ah Z)<|.q Z (k8 Z Z)<|.q Z (ah Z) ?_;refine Ops.part (t:=62) Z (fun bu=>?_) (fun bu=>?_)
   ·refine Ops.off Z Z Z Z<|.off Z Z Z Z<|.off Z Z Z Z<|.q Z (aM Z Z)<|.nil<|a7 _ _<|.cond_true Z<|.seq fun _ b1=>.region<|.q Z (ae Z) ?_;refine Ops.nil<|b1 _ _<|.rt (by exact aJ Z (⟨by first | rfl | (exfalso;omega) | (exfalso;have:=hro O;omega) | (exfalso;have:=hva O;simp only [ie] at this;omega),a0,a6⟩))
   refine Ops.on Z Z<|.q Z (ah Z)<|.on Z Z<|.q Z (ah Z)<|.on Z Z<|.q Z (lM Z Z)<|.q Z (aW Z Z)<|.nil<|a7 _ _<|.if rfl (fun bv=>?_) (fun bv=>?_)
   ·refine am.seq fun _ b2=>.region<|.q Z (ae Z)<|.nil<|b2 _ _<|.rt (by exact aJ Z (⟨by first | rfl | (exfalso;omega) | (exfalso;have:=hro O;omega) | (exfalso;have:=hva O;simp only [ie] at this;omega),a0,a6⟩))
   refine am.skip<|aZ _ _<|.region<|.q Z (bE (b:=1) Z Z O)<|.q Z (ah Z)<|.nil ?_;exact ⟨j + 1,yC Z Z Z Z Z Z Z Z,Z,⟨⟨by omega,a4⟩,a0,a3⟩,O1⟩
  refine am.exit<|aG _ _<|.region<|.q Z (bE (b:=1) Z Z O)<|.q Z (ah Z)<|.nil ?_;exact ⟨i + 1,pZ Z Z Z Z Z,Z,⟨O,a0,a3⟩,O1⟩
 refine am.exit<|aB _ _<|.seq fun _ b3=>.region<|.q Z (ae Z)<|.nil<|b3 _ _<|.rt (by exact aJ Z (⟨by first | rfl | (exfalso;omega) | (exfalso;have:=hro O;omega) | (exfalso;have:=hva O;simp only [ie] at this;omega),V,a5⟩))

theorem N0 (k:Nat) (acc:List Bool) (L:List (List Int)) (av nv:Value) (rows:List Value) (A:AH) (hok:Kx k acc L) (hav:bK A 1 av (cl acc)) (hnv:bK A 1 nv (em rows)) (hrl:rows.length=L.length) (hF:∀ i,i < L.length->bK A 1 (rows.getD i undef) (cO (L.getD i []))):bH Tryz.prog 149 #[.agg #[num ((k:Nat):Int),num ((0:Nat):Int),av,nv]] A (fun v A1=>v=num ((0:Nat):Int)/\A.le A1/\A1.wf):=by
 refine ia Tryz.call149 Tryz.func149 Z Tryz.results149 Tryz.ntmps149 Z (fun wf=>?_);have a2:=AH.le.refl A;obtain ⟨⟨a6,a7⟩,hal,⟨a4,a5⟩,hrow,hval⟩:=hok;refine am.seq fun _ h2=>.region<|.l Z (fun _ _ a1 _=>dQ wf rfl rfl fun A5 b4 h=>?_);have D:=a2.trans h.le;refine a1 _ _<|.q Z (ae Z)<|.nil<|h2 _ _<|.seq fun _ h9=>.seq fun _ V=>.region<|.q Z (aj lH iK U Z)<|.q Z (ak iE Z Z h.get Z)<|.q Z (bF (n:=acc.length) lS Z (hav.le D) O (fw _)) ?_;refine Ops.q Z (ku (b:=0) Z Z)<|.nil<|V _ _<|.if rfl (fun a3=>?_) (fun a3=>?_)
 ·refine am.seq fun _ X=>.region<|.q Z (ae Z)<|.nil<|X _ _<|.rt (by exact aJ Z (⟨by first | rfl | (exfalso;omega),D,h.wf⟩))
 refine am.skip<|h9 _ _<|.seq fun _ a0=>.region<|.q Z (aj vp c5 U Z)<|.q Z (ak eM Z Z h.get Z)<|.q Z (ae Z)<|.nil<|a0 _ _<|.rt (by exact aJ Z (⟨by first | rfl | (exfalso;omega),D,h.wf⟩))

theorem NZ (k:Nat) (acc:List Bool) (L:List (List Int)) (av nv:Value) (rows:List Value) (s:Int) (c:Nat) (A:AH) (hok:Kx k acc L) (hav:bK A 1 av (cl acc)) (hnv:bK A 1 nv (em rows)) (hrl:rows.length=L.length) (hF:∀ i,i < L.length->bK A 1 (rows.getD i undef) (cO (L.getD i []))) (hs:s < L.length) (hc:c < k):bH Tryz.prog 151 #[.agg #[num ((k:Nat):Int),num ((0:Nat):Int),av,nv],num (s),num ((c:Nat):Int)] A (fun v A1=>v=num (if s < 0 then -1 else ie L s.toNat c)/\A.le A1/\A1.wf):=by
 refine wQ Tryz.call151 Tryz.func151 Z Tryz.results151 Tryz.ntmps151 Z (fun wf=>?_);have aa:=AH.le.refl A;obtain ⟨⟨aF,aG⟩,hal,⟨aC,aD⟩,hrow,hval⟩:=hok;have hro:=fun q:0<=s=>hrow s.toNat O;refine am.seq fun _ h2=>.region<|.l Z (fun _ _ a7 _=>dQ wf rfl rfl fun A5 b4 D=>?_);have h:=aa.trans D.le;refine a7 _ _<|.q Z (ae Z)<|.nil<|h2 _ _<|.seq fun _ h9=>.seq fun _ a4=>.region<|.q Z (ah Z)<|.q Z (k8 Z Z)<|.nil ?_;refine a4 _ _<|.if rfl (fun ab=>?_) (fun ab=>?_)
 ·refine am.seq fun _ a5=>.region<|.q Z (ae Z)<|.nil<|a5 _ _<|.rt (by exact aJ Z (⟨by first | (rw [if_pos ‹_›];rfl) | (rw [if_neg ‹_›];rfl),h,D.wf⟩))
 refine am.skip<|h9 _ _<|.seq fun _ a6=>.region<|.q Z (aj lI i8 U Z)<|.q Z (ak kh Z Z D.get Z)<|.q Z (ah Z) ?_;obtain ⟨ay,aA,ap,aT,ag,aR,aI,a0,a8,a2,ac,V⟩:=bK.at (i:=(s).toNat) (hnv.le h) Ok O;refine Ops.q Z (ax oe fF Z a0 (iQ O) a8)<|.q Z (ak l8 Z Z a2 ((cT V).trans (eO O)))<|.q Z (ah Z) ?_;obtain ⟨az,aB,ar,aV,ai,aS,aP,a1,a9,a3,ad,X⟩:=bK.at (i:=c) ((hF ((s).toNat) O).le h) (by simp only [aE];have:=hro O;omega) O;refine Ops.q Z (ax ep c5 Z a1 Z a9)<|.q Z (ak eM Z Z a3 ((cT X).trans (c8 (by have:=hro O;omega))))<|.q Z (ae Z)<|.nil<|a6 _ _<|.rt (by exact aJ Z (⟨by first | (rw [if_pos ‹_›];rfl) | (rw [if_neg ‹_›];rfl),h,D.wf⟩))
end Go.Proofs.YtjppkekmddjcfaaGreatDoor

namespace Go.Proofs.YtjppkekmddjcfaaGreatDoor
open Go Go.RowKit V
def wq (k:Nat) (ws:List Wd):List (List Int) × List Bool:=ws.foldl (fun t w=>(wN k t.1 t.2 w,wK k t.1 t.2 w)) ([CX k],[false])
def Uh (k:Nat) (b:BS) (i:Nat):BS:=(List.range k).foldl (u6 (qn b i)) b
def Ug (k:Nat):Nat->Nat->BS->BS
  | 0,_,b=>b
  | f + 1,i,b=>if i < b.Q.length then Ug k f (i + 1) (Uh k b i) else b
def C5 (k:Nat) (ws:List Wd):BS:=Ug k ((wq k ws).1.length + 1) 0 ⟨(wq k ws).1,(wq k ws).2,List.replicate (wq k ws).1.length 0,[0]⟩
def eI (E:List Bool) (r:List Int):List Int:=r.map fun m=>if E.getD m.toNat false then -1 else m
def Pn (k:Nat) (ws:List Wd):List Bool:=(C5 k ws).E.map fun e=>!e
def Po (k:Nat) (ws:List Wd):List (List Int):=(C5 k ws).L.map (eI (C5 k ws).E)
def gr (step:Int->Nat->Option Int) (q:Int) (st:List Int × List Int) (c:Nat):List Int × List Int :=
  match step q c with
  | none=>(st.1 ++ [-1],st.2)
  | some t=>if t ∈ st.2 then (st.1 ++ [(st.2.idxOf t:Int)],st.2) else (st.1 ++ [(st.2.length:Int)],st.2 ++ [t])
def LC (k:Nat) (step:Int->Nat->Option Int) (q:Int) (Q:List Int):List Int × List Int:=(List.range k).foldl (gr step q) ([],Q)
def fU (k:Nat) (step:Int->Nat->Option Int):Nat->Nat->List Int->List (List Int)->List Int × List (List Int)
  | 0,_,Q,R=>(Q,R)
  | f + 1,i,Q,R=>if i < Q.length then fU k step f (i + 1) (LC k step (Q.getD i 0) Q).2 (R ++ [(LC k step (Q.getD i 0) Q).1]) else (Q,R)
def nP (L:List (List Int)) (s:Int) (c:Nat):Option Int:=some (if s < 0 then -1 else ie L s.toNat c)
def gW (k:Nat) (L:List (List Int)):List Int × List (List Int):=fU k (nP L) (L.length + 2) 0 [0] []
def wv (k:Nat) (acc:List Bool) (L:List (List Int)):List Bool:=(gW k L).1.map fun s=>decide (0<=s) && acc.getD s.toNat false
def o0 (B:List (List Int)) (s m:Int):List (List Int):=if 0<=m then B.set m.toNat (B.getD m.toNat [] ++ [s]) else B
def jv (N:List (List Int)) (B:List (List Int)) (s:Nat):List (List Int):=(N.getD s []).foldl (fun B m=>o0 B s m) B
def dy (N:List (List Int)):List (List Int):=(List.range N.length).foldl (jv N) (List.replicate N.length [])
def i0 (Q:List Int) (p:Int):List Int:=if p ∈ Q then Q else Q ++ [p]
def jB (B:List (List Int)):Nat->Nat->List Int->List Int
  | 0,_,Q=>Q
  | f + 1,i,Q=>if i < Q.length then jB B f (i + 1) ((B.getD (Q.getD i 0).toNat []).foldl i0 Q) else Q
def qw (acc:List Bool) (i:Nat):List Int:=((List.range i).filter fun s=>acc.getD s false).map fun (s:Nat)=>(s:Int)
def gk (acc:List Bool) (N:List (List Int)):List Int:=jB (dy N) (N.length + 1) 0 (qw acc acc.length)
def iZ (acc:List Bool) (N:List (List Int)):List Bool:=(List.range acc.length).map fun (s:Nat)=>decide ((s:Int) ∈ gk acc N)
end Go.Proofs.YtjppkekmddjcfaaGreatDoor

namespace Go.Proofs.YtjppkekmddjcfaaGreatDoor
open Go Go.RowKit V
def Gu (Q:List Int):List (Int × Value):=Q.zipIdx.map fun p=>(p.1,num ((p.2:Nat):Int))
theorem vH (Q:List Int):(Gu Q).map (·.1)=Q:=by
  simp [Gu,List.map_map,Function.comp_def]
theorem MQ (Q:List Int) (t:Int):Gu (Q ++ [t])=Gu Q ++ [(t,num ((Q.length:Nat):Int))]:=by simp [Gu,List.zipIdx_append]
theorem Jt {Q:List Int} {t:Int} (h:t ∉ Q):lk (Gu Q) t=none:=yU.2 (by rw [vH];exact h)
theorem Qi:∀ (Q:List Int) (n:Nat) (t:Int),t ∈ Q->lk ((Q.zipIdx n).map fun p=>(p.1,num ((p.2:Nat):Int))) t=some (num (((n + Q.idxOf t:Nat)):Int)):=by
  intro Q
  induction Q with
  | nil=>intro n t h;cases h
  | cons a Q ih =>
    intro n t h
    by_cases q:a=t
    · subst q;simp [lk]
    · have h2:t ∈ Q:=by rcases List.mem_cons.1 h with z | z;exact absurd z.symm q;exact z
      have:=ih (n + 1) t h2
      simp only [List.zipIdx_cons,List.map_cons]
      rw [List.idxOf_cons,beq_eq_false_iff_ne.2 q,cond_false]
      simp only [lk,List.find?_cons,decide_eq_false q] at this ⊢
      rw [this]
      congr 3;omega
theorem MP {Q:List Int} {t:Int} (h:t ∈ Q):lk (Gu Q) t=some (num ((Q.idxOf t:Nat):Int)):=by
  have:=Qi Q 0 t h
  rwa [Nat.zero_add] at this
theorem QM {Q:List Int} {t:Int} (h:t ∉ Q):yi (Gu Q) t (num ((Q.length:Nat):Int))=Gu (Q ++ [t]):=by
  rw [uO (by rw [vH];exact h),MQ]
section
variable {α:Type} [DecidableEq α] {kd:TypeDesc} {enc:α->Value} {P:Program} {e:gx} {A:AH} {x y z:Operand} {t kt et:TypeId} {ty:TypeId} {ps:String} {af:Array Edge} {dst:Option Nat} {Q:Value->AH->Prop} {Kp:List PanicEntry->AH->Prop} {g:Option (Nat × Bool)} {m clock:Nat} {es:Array MapEntry} {E:List (α × Value)} {k:α} {v:Value}
theorem RL (K:rA kd enc) (wf:A.wf) (hx:bX e x=some (.map (some m))) (hy:bX e y=some (enc k)) (hz:bX e z=some v) (hu:P.underlying t=some (.map kt et)) (hk:P.underlying kt=some kd) (hg:A.get m=some (.obj true (.map es clock))) (hE:du enc es E) (hn:(E.map (·.1)).Nodup)
    (h:∀ A1 es1 ck,ug A A1 m (.obj true (.map es1 ck))->du enc es1 (yi E k v)->Q undef A1):kO P e A { dst:=dst,op:=.insert t x y z,type:=ty,pos:=ps,after:=af,guard:=g } Q Kp :=
  oh (dst:=dst) (ty:=ty) (ps:=ps) (af:=af) (g:=g) (Kp:=Kp) K wf hx hy hz hu hk hg hE hn h
end
theorem lL {b:Nat}:dG [] b:=fun _ h=>by cases h
theorem O6 {P:Program} {e:gx} {A:AH} {x y:Operand} {t kt et:TypeId} {ty:TypeId} {ps:String} {af:Array Edge} {dst:Option Nat} {Q:Value->AH->Prop} {Kp:List PanicEntry->AH->Prop} {g:Option (Nat × Bool)} {m clock:Nat} {es:Array MapEntry} {rw:Bool} {L:List Int} {k:Int}
    (hx:bX e x=some (.map (some m))) (hy:bX e y=some (num k)) (hu:P.underlying t=some (.map kt et)) (hk:P.underlying kt=some (.int .i64)) (hz:cD P et=some (num 0)) (hg:A.get m=some (.obj rw (.map es clock))) (hE:du num es (Gu L))
    (h1:k ∈ L->Q (.tuple #[num ((L.idxOf k:Nat):Int),.bool true]) A) (h2:k ∉ L->Q (.tuple #[num 0,.bool false]) A):kO P e A { dst:=dst,op:=.lookup t x y true,type:=ty,pos:=ps,after:=af,guard:=g } Q Kp:=by
  refine wx tc hx hy hu hk hz hg hE (fun v hv=>?_) (fun hn=>?_)
  · by_cases q:k ∈ L
    · rw [MP q] at hv;cases hv;exact h1 q
    · rw [Jt q] at hv;cases hv
  · exact h2 fun q=>by rw [MP q] at hn;cases hn
theorem Bj {o:Option Int} (h:(!o.isSome)=true):o=none:=by cases o <;> simp_all
theorem kF {o:Option Int} (h:(!o.isSome)=false):o=some (o.getD 0):=by cases o <;> simp_all
theorem po {Q:List Int} {t:Int} (h:Q.Nodup) (ht:t ∉ Q):(Q ++ [t]).Nodup:=List.nodup_append.2 ⟨h,by simp,by intro a ha b hb;simp at hb;subst hb;exact fun e=>ht (e ▸ ha)⟩
theorem qg {Q:List Int} {t:Int} {D:Int->Prop} (h:∀ q ∈ Q,D q) (ht:D t):∀ q ∈ Q ++ [t],D q:=fun q hq=>by
  rcases List.mem_append.1 hq with z | z
  · exact h q z
  · rw [List.mem_singleton] at z;subst z;exact ht
theorem vI {Q Q1:List Int} (h:Q <+: Q1) {i:Nat} (hi:i < Q.length):Q1.getD i 0=Q.getD i 0:=by obtain ⟨t,rfl⟩:=h;exact kj hi
theorem MR {Q Q1:List Int} (h:Q <+: Q1) {i:Nat} (hi:i<=Q.length):Q1.take i=Q.take i:=by obtain ⟨t,rfl⟩:=h;rw [List.take_append_of_le_length hi]
theorem re {N:Nat} {Q:List Int} (hn:Q.Nodup) (hQ:∀ q ∈ Q,-1<=q/\q < (N:Int)):Q.length<=N + 1:=by
  have:=pn (N + 1) (Q.map fun q=>(q + 1).toNat) ?_ ?_
  · simpa using this
  · rw [List.nodup_iff_pairwise_ne,List.pairwise_map]
    exact List.Pairwise.imp_of_mem (fun {a b} ha hb hab e=>hab (by have:=hQ a ha;have:=hQ b hb;omega)) hn
  · intro x hx
    obtain ⟨q,hq,rfl⟩:=List.mem_map.1 hx
    have:=hQ q hq;omega
section
variable {k c:Nat} {step:Int->Nat->Option Int} {q:Int} {Q Q1 r:List Int}
def IU (step:Int->Nat->Option Int) (q:Int) (Q:List Int) (c:Nat):List Int × List Int:=(List.range c).foldl (gr step q) ([],Q)
theorem vl:IU step q Q (c + 1)=gr step q (IU step q Q c) c:=by simp [IU,List.range_succ]
theorem LA (h:IU step q Q c=(r,Q1)) (hs:step q c=none):IU step q Q (c + 1)=(r ++ [-1],Q1):=by rw [vl,h,gr,hs]
theorem PW {t:Int} (h:IU step q Q c=(r,Q1)) (hs:step q c=some t) (ht:t ∈ Q1):IU step q Q (c + 1)=(r ++ [(Q1.idxOf t:Int)],Q1):=by
  rw [vl,h,gr,hs];simp only;rw [if_pos ht]
theorem yD {t:Int} (h:IU step q Q c=(r,Q1)) (hs:step q c=some t) (ht:t ∉ Q1):IU step q Q (c + 1)=(r ++ [(Q1.length:Int)],Q1 ++ [t]):=by
  rw [vl,h,gr,hs];simp only;rw [if_neg ht]
theorem yF {r:List Int} {k:Nat} {v:Int} (h:r.length < k):(r ++ List.replicate (k - r.length) 0).set r.length v=(r ++ [v]) ++ List.replicate (k - (r.length + 1)) 0:=by
  rw [List.set_append_right _ _ (Nat.le_refl _),Nat.sub_self,show k - r.length=(k - (r.length + 1)) + 1 by omega,List.replicate_succ,List.set_cons_zero]
  simp
theorem rI {r:List Int} {k:Nat} {v w:Int} (h:r.length < k):((r ++ List.replicate (k - r.length) 0).set r.length v).set r.length w=(r ++ [w]) ++ List.replicate (k - (r.length + 1)) 0:=by
  rw [List.set_set];exact yF h
end
theorem vk {k f i:Nat} {step:Int->Nat->Option Int} {Q:List Int} {R:List (List Int)} (hf:0 < f) (hi:Q.length<=i):fU k step f i Q R=(Q,R):=by
  obtain ⟨f,rfl⟩:∃ g,f=g + 1:=⟨f - 1,by omega⟩
  rw [fU,if_neg O]
theorem An {k f i:Nat} {step:Int->Nat->Option Int} {Q:List Int} {R:List (List Int)} {X:List Int × List (List Int)} (hf:0 < f) (hi:i < Q.length) (h:fU k step f i Q R=X) {r Q1:List Int} (e:IU step (Q.getD i 0) Q k=(r,Q1)):fU k step (f - 1) (i + 1) Q1 (R ++ [r])=X:=by
  obtain ⟨f,rfl⟩:∃ g,f=g + 1:=⟨f - 1,by omega⟩
  rw [<- h,fU,if_pos hi]
  show _=fU k step f (i + 1) (IU step (Q.getD i 0) Q k).2 (R ++ [(IU step (Q.getD i 0) Q k).1])
  rw [e];rfl
end Go.Proofs.YtjppkekmddjcfaaGreatDoor

namespace Go.Proofs.YtjppkekmddjcfaaGreatDoor
open Go Go.RowKit
namespace V
inductive OT where
  | done:OT
  | one (i:Nat) (t:OT):OT
  | two (i j:Nat) (t u:OT):OT
def OT.len:OT->Nat
  | .done=>0
  | .one _ t=>t.len + 1
  | .two _ _ t _=>t.len + 1
def lz (ops:Array Oper):Array Bool->OT->Bool
  | listed,.done=>(Region.ready .any ops listed).isEmpty
  | listed,.one i C=>match ops[i]? with
    | none=>false
    | some o =>
      if de o.op then (Region.ready .any ops listed).contains i && Region.free .any ops listed i && lz ops (listed.setIfInBounds i true) C
      else (Region.ready .any ops listed == [i]) && lz ops (listed.setIfInBounds i true) C
  | listed,.two i j C D=>(Region.ready .any ops listed == [i,j]) && lz ops (listed.setIfInBounds i true) C && lz ops (listed.setIfInBounds j true) D && (C.len == D.len)
section
variable {P:Program} {nt:Nat} {ops:Array Oper} {Q:Exit->Fr->AH->Prop} {f:Fr} {A:AH}
def cM (P:Program) (nt:Nat) (ops:Array Oper) (Q:Exit->Fr->AH->Prop) (listed:Array Bool) (held:List (Nat × eK)) (C:OT) (f:Fr) (A:AH):Prop :=
  lz ops listed C=true->Region.noSelect ops=true->∀ a w,cW nt f a->cu A w->dN ops held listed w->kQ ops listed ->
    ∀ (A₀:AH) (w₀:World),eJ A₀ w₀ A w->eP P ops (dU nt Q A₀ w₀) (dN ops held) C.len listed a w
theorem cM.quiet {listed:Array Bool} {held:List (Nat × eK)} {i:Nat} {C:OT} {o:Oper} {v:Value} {T:eK} (ho:ops[i]? = some o) (hq:de o.op=true) (hd:∀ t,o.dst=some t->t < nt)
    (hv:∀ a w,cW nt f a->cu A w->fg T w/\YieldsIf P ops (fg T) o v a)
    (h:cM P nt ops Q (listed.setIfInBounds i true) ((i,T) :: held) C ⟨fx f.e o.dst v,f.ds⟩ A):cM P nt ops Q listed held (.one i C) f A:=by
  intro hc hn a w ha hw hh hcl A₀ w₀ hs
  simp only [lz,ho,if_pos hq,Bool.and_eq_true] at hc
  obtain ⟨⟨c1,c2⟩,c3⟩:=hc
  obtain ⟨t1,t2⟩:=hv a w ha hw
  have hr:i ∈ Region.ready .any ops listed:=by simpa using c1
  have hheld:dN ops ((i,T) :: held) listed w:=fun p hp hj=>by
    rcases List.mem_cons.1 hp with rfl | hp
    · exact t1
    · exact hh p hp hj
  have H:=h c3 hn _ w (ha.put o.dst v hd) hw ((jl ho hq _ _).2 hheld) (gR hcl hr) A₀ w₀ hs
  have free:=Region.free_spec ho c2
  have H':eP P ops (dU nt Q A₀ w₀) (dN ops ((i,T) :: held)) (C.len + 1) listed a w :=
    og (T:=fg T) ho (Region.noSelect_spec hn) (fun c a w g=>tk _ _ c a w g)
      (fun l w' hcl' hun hS=>hS (i,T) (List.mem_cons_self ..) fun j hl ⟨oj,hoj,_⟩=>by
        cases q:ld ops i ops.size j with
        | false=>rfl
        | true =>
          have:=jS hcl' ops.size j oj hoj (hcl' j oj hoj hl) q
          rw [iq hun] at this;cases this)
      (fun l w'=>jl ho hq l w') _ listed a w hcl (fun j oj hoj hne hun hno=>free j oj hoj hne hun hno) hr t2 hheld H
  -- less is asked
  have weaken:∀ (fuel:Nat) (l:Array Bool) (a:Act) (w:World),eP P ops (dU nt Q A₀ w₀) (dN ops ((i,T) :: held)) fuel l a w->eP P ops (dU nt Q A₀ w₀) (dN ops held) fuel l a w:=by
    intro fuel
    induction fuel with
    | zero=>intro l a w h;exact h
    | succ fuel ih=>intro l a w h;exact ⟨h.1,fun j hj=>wpOp_mono (fun a' w' h'=>⟨fun p hp=>h'.1 p (List.mem_cons_of_mem _ hp),ih _ _ _ h'.2⟩) (h.2 j hj)⟩
  exact weaken _ _ _ _ H'

theorem rh {listed:Array Bool} {held:List (Nat × eK)} {i:Nat} {C:OT} {o:Oper} {a:Act} {w:World} {A₀:AH} {w₀:World} (ho:ops[i]? = some o) (hq:de o.op=false) (hd:∀ t,o.dst=some t->t < nt) (hwn:∀ a:Act,cW nt f a->Region.wanted o (yielded ops a.tmps)=true)
    (c2:lz ops (listed.setIfInBounds i true) C=true) (hn:Region.noSelect ops=true) (ha:cW nt f a) (hw:cu A w) (hcl:kQ ops listed) (hs:eJ A₀ w₀ A w) (hr:i ∈ Region.ready .any ops listed)
    (h:∀ (K:Value->AH->Prop) (Kp:List PanicEntry->AH->Prop),
      (∀ v A',(∀ w',cu A' w'->∀ p ∈ held,ld ops p.1 ops.size i=false->fg p.2 w')->cM P nt ops Q (listed.setIfInBounds i true) (held.filter fun p=>!ld ops p.1 ops.size i) C ⟨fx f.e o.dst v,f.ds⟩ A'->K v A') ->
      (∀ ch A',Q (.panic ch) ⟨[],f.ds⟩ A'->Kp ch A')->kO P f.e A o K Kp) :
    wpOp P ops (dU nt Q A₀ w₀) i (fun a' w'=>dN ops held (listed.setIfInBounds i true) w'/\eP P ops (dU nt Q A₀ w₀) (dN ops held) C.len (listed.setIfInBounds i true) a' w') a w:=by
  have hlt:i < listed.size:=by
    have:=(mem_ready.1 hr).1
    rcases Nat.lt_or_ge i listed.size with h' | h'
    · exact h'
    · simp [Array.getElem?_eq_none h'] at this
  have hl:(listed.setIfInBounds i true).getD i false=true:=by simp [hlt]
  unfold wpOp
  simp only [ho,hwn a ha,if_true]
  left
  have:=qk (o:=o) (K:=fun v A'=>(∀ w',cu A' w'->∀ p ∈ held,ld ops p.1 ops.size i=false->fg p.2 w')/\cM P nt ops Q (listed.setIfInBounds i true) (held.filter fun p=>!ld ops p.1 ops.size i) C ⟨fx f.e o.dst v,f.ds⟩ A')
    (Kp:=fun ch A'=>Q (.panic ch) ⟨[],f.ds⟩ A') ha hw (h _ _ (fun v A' g1 g2=>⟨g1,g2⟩) (fun ch A' g=>g))
  unfold Oper.wp at this ⊢
  have up:∀ r,o.upon P a (jN A a w o fun v A'=>(∀ w',cu A' w'->∀ p ∈ held,ld ops p.1 ops.size i=false->fg p.2 w')/\cM P nt ops Q (listed.setIfInBounds i true) (held.filter fun p=>!ld ops p.1 ops.size i) C ⟨fx f.e o.dst v,f.ds⟩ A') (ig A a w fun ch A'=>Q (.panic ch) ⟨[],f.ds⟩ A') r ->
      o.upon P a (fun a' w'=>dN ops held (listed.setIfInBounds i true) w'/\eP P ops (dU nt Q A₀ w₀) (dN ops held) C.len (listed.setIfInBounds i true) a' w') (dU nt Q A₀ w₀) r:=by
    have next:∀ a' w',(jN A a w o fun v A'=>(∀ w',cu A' w'->∀ p ∈ held,ld ops p.1 ops.size i=false->fg p.2 w')/\cM P nt ops Q (listed.setIfInBounds i true) (held.filter fun p=>!ld ops p.1 ops.size i) C ⟨fx f.e o.dst v,f.ds⟩ A') a' w' ->
        dN ops held (listed.setIfInBounds i true) w'/\eP P ops (dU nt Q A₀ w₀) (dN ops held) C.len (listed.setIfInBounds i true) a' w':=by
      rintro a' w' ⟨v,A',rfl,hv',hs',g1,g2⟩
      have hlo:V.loud ops i:=⟨o,ho,hq⟩
      have hh':dN ops held (listed.setIfInBounds i true) w':=fun p hp hj=>g1 w' hv' p hp (hj i hl hlo)
      refine ⟨hh',?_⟩
      have H:=g2 c2 hn _ w' (ha.put o.dst v hd) hv' (fun p hp hj=>hh' p (List.mem_filter.1 hp).1 hj) (gR hcl hr) A₀ w₀ (hs.trans hs')
      refine kN (x:=i) (fun l w hx hS p hp hj=>hS p (List.mem_filter.2 ⟨hp,?_⟩) hj) _ _ _ _ hl H
      simp [hj i hx hlo]
    have pan:∀ x a' w',ig A a w (fun ch A'=>Q (.panic ch) ⟨[],f.ds⟩ A') x a' w'->dU nt Q A₀ w₀ x a' w':=by
      rintro x a' w' ⟨ch,A',rfl,rfl,hv',hs',g⟩
      exact ⟨⟨[],f.ds⟩,A',⟨ha.size,(fun _ _ q=>by cases q),ha.ds⟩,hv',hs.trans hs',g,fun _ _=>rfl⟩
    intro r hr'
    cases r with
    | ok n w' =>
      cases n <;> simp only [Oper.upon] at hr' ⊢ <;> (try exact hr'.elim)
      case value v=>exact next _ _ hr'
      case skip=>exact next _ _ hr'
      case defer d=>exact next _ _ hr'
      case enter f' args =>
        refine hr'.mono fun e w'' he=>?_
        cases e with
        | returned v=>exact next _ _ he
        | panicked ch=>exact pan _ _ _ he
        | outgrown=>obtain ⟨a₁,w₁,ch,A',q,_⟩:=he;cases q
      case row row args=>exact hr'.mono fun v w'' he=>next _ _ he
    | halt x w' =>
      cases x <;> simp only [Oper.upon] at hr' ⊢ <;> (try exact hr'.elim)
      case panic v=>exact pan _ _ _ hr'
  exact up _ this
variable {e:gx} {ds:List Deferred}
theorem cM.done {listed:Array Bool} {held:List (Nat × eK)} (h:Q .normal f A):cM P nt ops Q listed held .done f A:=by
  intro hc _ a w ha hw _ _ A₀ w₀ hs
  simp only [lz,List.isEmpty_iff] at hc
  exact ⟨hc,f,A,ha,hw,hs,h,fun _ q=>by cases q⟩
theorem cM.q {listed:Array Bool} {held:List (Nat × eK)} {k d:Nat} {C:OT} {op:Op} {ty:TypeId} {ps:String} {af:Array Edge} {v:Value} {T:eK} (ho:ops[k]? = some { dst:=some d,op:=op,type:=ty,pos:=ps,after:=af,guard:=none }) (hq:de op=true) (hd:Nat.blt d nt=true) (hv:aO P e A op=some (v,T))
    (h:cM P nt ops Q (listed.setIfInBounds k true) ((k,T) :: held) C ⟨(d,v) :: e,ds⟩ A):cM P nt ops Q listed held (.one k C) ⟨e,ds⟩ A :=
  cM.quiet (f:=⟨e,ds⟩) (T:=T) (v:=v) ho hq (cN (d:=some d) hd) (fun a w ha hw=>by
    have key:=f8 (P:=P) (f:=(⟨e,ds⟩:Fr)) (o:={ dst:=some d,op:=op,type:=ty,pos:=ps,after:=af,guard:=none }) hv ha hw
    exact ⟨key.1,.inl ⟨by simp [Region.wanted],key.2⟩⟩) h
theorem cM.l {listed:Array Bool} {held:List (Nat × eK)} {i:Nat} {C:OT} {di:Option Nat} {opi:Op} {ti:TypeId} {pi:String} {afi:Array Edge}
    (hoi:ops[i]? = some { dst:=di,op:=opi,type:=ti,pos:=pi,after:=afi,guard:=none }) (hqi:de opi=false) (hdi:gj nt di=true)
    (hi:∀ (K:Value->AH->Prop) (Kp:List PanicEntry->AH->Prop),(∀ v A',be ops held i A'->cM P nt ops Q (listed.setIfInBounds i true) (held.filter fun p=>!ld ops p.1 ops.size i) C ⟨fx e di v,ds⟩ A'->K v A') ->
      (∀ ch A',Q (.panic ch) ⟨[],ds⟩ A'->Kp ch A')->kO P e A { dst:=di,op:=opi,type:=ti,pos:=pi,after:=afi,guard:=none } K Kp):cM P nt ops Q listed held (.one i C) ⟨e,ds⟩ A:=by
  intro hc hn a w ha hw hh hcl A₀ w₀ hs
  simp only [lz,hoi,hqi,Bool.false_eq_true,if_false,Bool.and_eq_true,beq_iff_eq] at hc
  obtain ⟨c1,c2⟩:=hc
  simp only [OT.len]
  refine ⟨fun h0=>(by rw [c1] at h0;cases h0),fun k hk=>?_⟩
  have hk':=hk
  rw [c1,List.mem_singleton] at hk'
  subst hk'
  exact rh (C:=C) hoi hqi (cN hdi) (fun a _=>by simp [Region.wanted]) c2 hn ha hw hcl hs hk hi
theorem cM.both {listed:Array Bool} {held:List (Nat × eK)} {i j:Nat} {C D:OT} {di dj:Option Nat} {opi opj:Op} {ti tj:TypeId} {pi pj:String} {afi afj:Array Edge}
    (hoi:ops[i]? = some { dst:=di,op:=opi,type:=ti,pos:=pi,after:=afi,guard:=none }) (hoj:ops[j]? = some { dst:=dj,op:=opj,type:=tj,pos:=pj,after:=afj,guard:=none }) (hqi:de opi=false) (hqj:de opj=false) (hdi:gj nt di=true) (hdj:gj nt dj=true)
    (hi:∀ (K:Value->AH->Prop) (Kp:List PanicEntry->AH->Prop),(∀ v A',be ops held i A'->cM P nt ops Q (listed.setIfInBounds i true) (held.filter fun p=>!ld ops p.1 ops.size i) C ⟨fx e di v,ds⟩ A'->K v A') ->
      (∀ ch A',Q (.panic ch) ⟨[],ds⟩ A'->Kp ch A')->kO P e A { dst:=di,op:=opi,type:=ti,pos:=pi,after:=afi,guard:=none } K Kp)
    (hj:∀ (K:Value->AH->Prop) (Kp:List PanicEntry->AH->Prop),(∀ v A',be ops held j A'->cM P nt ops Q (listed.setIfInBounds j true) (held.filter fun p=>!ld ops p.1 ops.size j) D ⟨fx e dj v,ds⟩ A'->K v A') ->
      (∀ ch A',Q (.panic ch) ⟨[],ds⟩ A'->Kp ch A')->kO P e A { dst:=dj,op:=opj,type:=tj,pos:=pj,after:=afj,guard:=none } K Kp):cM P nt ops Q listed held (.two i j C D) ⟨e,ds⟩ A:=by
  intro hc hn a w ha hw hh hcl A₀ w₀ hs
  simp only [lz,Bool.and_eq_true,beq_iff_eq] at hc
  obtain ⟨⟨⟨c1,c2⟩,c3⟩,c4⟩:=hc
  simp only [OT.len]
  refine ⟨fun h0=>(by rw [c1] at h0;cases h0),fun k hk=>?_⟩
  have hk':=hk
  rw [c1] at hk'
  simp only [List.mem_cons,List.not_mem_nil,or_false] at hk'
  rcases hk' with rfl | rfl
  · exact rh (C:=C) hoi hqi (cN hdi) (fun a _=>by simp [Region.wanted]) c2 hn ha hw hcl hs hk hi
  · rw [c4];exact rh (C:=D) hoj hqj (cN hdj) (fun a _=>by simp [Region.wanted]) c3 hn ha hw hcl hs hk hj
theorem am.drawnT {id:Nat} (C:OT) (hm:P.follows .mixedOrders=true) (hc:lz ops (Array.replicate ops.size false) C=true) (hn:Region.noSelect ops=true) (hl:C.len=ops.size)
    (h:cM P nt ops Q (Array.replicate ops.size false) [] C f A):am P nt (.region id ops true) Q f A:=by
  intro a w ha hw
  obtain ⟨v1,s1⟩:=jj hw
  refine wp_mono (wp_region_any hm (kb (Q:=dU nt Q A w) (S:=dN ops []) _ _ _ _ ?_)) (fun _ _ _=>dU.q)
  have key:=h hc hn a _ ha v1 (fun p hp=>by cases hp) (fun j o _ hj=>by
    exfalso
    rcases Nat.lt_or_ge j ops.size with q | q
    · simp [q] at hj
    · simp [q] at hj) A w s1
  rw [hl] at key
  exact key
end
end V
end Go.Proofs.YtjppkekmddjcfaaGreatDoor
