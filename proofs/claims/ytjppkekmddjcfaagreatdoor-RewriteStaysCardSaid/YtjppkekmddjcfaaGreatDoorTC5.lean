import Derived.Test.YtjppkekmddjcfaaGreatDoorTC4
set_option linter.unusedSectionVars false
set_option linter.unusedVariables false
set_option linter.unusedSimpArgs false
namespace Go.Proofs.YtjppkekmddjcfaaGreatDoor
open Go Go.RowKit V
set_option maxRecDepth 100000
theorem Ql:dF Tryz.prog 202=some false:=by kernel_rfl
theorem sH:dF Tryz.prog 47=some true:=by kernel_rfl
theorem M8:dF Tryz.prog 78=some false:=by kernel_rfl
theorem JD:eb Tryz.prog 47 0=some (3,0):=by kernel_rfl
theorem JE:eb Tryz.prog 47 1=some (3,1):=by kernel_rfl
theorem SH:Tryz.prog.info? 47=some Tryz.t47:=by kernel_rfl
theorem jv:du Tryz.prog 47=some 5:=by kernel_rfl
theorem Tm:du Tryz.prog 78=some 1:=by kernel_rfl
theorem Si:type_of% @Tryz.underlying78:=@Tryz.underlying78
theorem Uz:cO Tryz.prog 78=some (.slice none 0 0):=by kernel_rfl

theorem LX (bo lp:Nat) (J:Nat->AH->Prop) (g:Int) (u:Value) (l:List (List UInt8)) (rv:Value) (rs:List au) (M A:AH) (bs k1:Nat) (w1:Bool) (hP:cD bo M A) (hC:J 0 A) (gbs:M.get bs=some (.row w1 [num g,u,rv] k1)) (hL:eF M) (hu:bJ M 1 u (dc l)) (hr:bJ M 3 rv (ci rs)) (hp:Proofs M rs) (hg:1<=g/\g<=8) (hn:rs.length<=1000000) (hw:∀ r ∈ rs,0 < r.left.length/\r.left.length<=1000/\r.right.length<=1000) (hclo:∀ i C C2,J i C->C2.wf->C.n<=C2.n->(∀ b o,(b < A.n\/lM bo C b)->C.get b=some o->C2.get b=some o)->J i C2) (hv:∀ i C,J i C->∃ v cap,C.get bo=some (.row true [v] cap)/\∀ b,blk v=some b->∃ o,C.get b=some o) (hbo:bo < A.n) (hy:∀ k C M2,k < (bg g rs).length->C.wf->J k C->cD bo M2 C->kz Tryz.prog lp #[NG ((bg g rs).getD k .zero)] C (fun v C2=>v=.bool true/\J (k + 1) C2/\C2.wf/\cD bo M2 C2)):bG Tryz.prog 164 #[.func (.yield lp) #[] #[],.pointer (some ⟨bs,0,none⟩)] A (fun v A1=>J (bg g rs).length A1/\A1.wf/\cD bo M A1):=by
  refine enterM (e:=[(0,.func (.yield lp) #[] #[]),(1,.pointer (some ⟨bs,0,none⟩))]) (args:=[.func (.yield lp) #[] #[],.pointer (some ⟨bs,0,none⟩)]) Tryz.call164 Tryz.func164 Z Tryz.results164 Tryz.ntmps164 Z Z Z (fun wf=>?_)
  have hG:=hP.le
  obtain ⟨hH,nv,dS,fE⟩:=hv _ _ hC
  have hD:=AH.le.refl A
  have l6:ji bo A A []:=ji.nil
  have lt:A.n<=A.n:=Nat.le_refl _
  have hne:=pr hg hw
  have hsl:=kQ g rs
  refine ao.seq fun K1 h2=>.region<|.l Z (fun _ _ lb _=>ej wf rfl rfl fun A5 b4 e9=>?_)
  have g3:=aL wf (Nat.le_trans hD.n e9.lo)
  have mE:=Nat.le_trans hG.n e9.lo
  have dd:=hG.trans e9.le
  have hE:=hD.trans e9.le
  refine lb _ _<|.nil<|h2 _ _<|.seq fun K9 kC=>.region<|.q Z (am dn cT Z Z (dd.get _ _ gbs) Z)<|.l Z (fun _ _ iT _=>aK Z (EJ ((g)) u l rv rs A5 hg hn (hL.le dd) (hu.le dd) (hr.le dd) (hp.le dd)) ?_)
  rintro di A13 ⟨eL,eQ,ez⟩
  have kD:=eL.get _ _ e9.get
  have aY:=hE.trans eL
  have f0:=ez.base dd
  have kp:=Gj hE ez
  refine iT _ _<|.q Z (ah Z)<|.nil<|kC _ _<|.seq fun K21 kK=>.region<|.q Z (ae Z)<|.q Z (bH (n:=(aW ((g)) rs).length) pB Z f0.slc O (p4 _))<|.q Z (ae Z)<|.nil ?_
  refine kK _ _<|.block ?_
  have hZ:=hclo _ _ _ hC eQ aY.n (fun b o _ h=>aY.get b o h)
  have f1:=aY.get _ _ dS
  have n4:=n8 aY fE
  have iD:=hP.up aY dS
  have k0:=Nat.le_trans lt aY.n
  have hV:=l6.up aY dS
  have br:=cD.full f1 eQ
  have aP:=iD.sub f1
  have cP:=aP.get _ _ gbs
  have cK:=ga kD dS fE g3
  have aF:=pY f0 dS fE kp
  have e5:=hu.le aP
  have d3:=hr.le aP
  have fi:=hL.le aP
  have fn:A.n<=(A13.hide [some bo,blk hH]).n:=k0
  generalize hM24:(A13.hide [some bo,blk hH])=M24 at br aP cP cK aF e5 d3 fi fn
  refine ao.loopD (X:=Nat × List Nat) (fun ⟨i,Ds⟩=>[(1,.pointer (some ⟨bs,0,none⟩)),(2,.pointer (some ⟨b4,0,none⟩)),(3,di),(10,num (((aW ((g)) rs).length:Nat):Int)),(11,num ((i:Nat):Int))]) (fun ⟨i,Ds⟩=>Ds.map V.mark) (fun ⟨i,Ds⟩ B=>(i<=(aW g rs).length)/\M24.le B/\ji bo A B Ds/\(J (rq rs.length (aW g rs) i 0).length B/\cD bo M24 B)) (fun ⟨i,Ds⟩=>(aW g rs).length - i) (⟨0,[]⟩) (rn Z Z Z Z Z) Z (⟨(Nat.zero_le _),br.le,hV,⟨(by rw [show (rq rs.length (aW g rs) 0 0).length=0 from rfl];exact hZ),br⟩⟩) ?_
  rintro ⟨i,Ds⟩ B26 ⟨hl_i,dK,bL,hJ_i,hP_i⟩
  refine ao.wf fun ex=>?_
  obtain ⟨fR,mX,dk,fI⟩:=hv _ _ hJ_i
  have fv:=AH.le.refl B26
  have k2:=Nat.le_trans fn dK.n
  refine ao.seq fun K29 kL=>.region<|.q Z (cA Z Z)<|.nil<|kL _ _<|.seq fun K31 kM=>.if rfl (fun lP=>?_) (fun lP=>?_)
  ·
    refine ao.skip<|kM _ _<|.seq fun K34 kP=>.block<|.seq fun K36 kT=>.region<|.q Z (ae Z)<|.l Z (fun _ _ iV _=>ca ex z3 rfl fun A40 eV b1=>?_)
    have f3:=aL br.wf (Nat.le_trans dK.n b1.lo)
    have dV:=aL ex (Nat.le_trans fv.n b1.lo)
    have lF:=Nat.le_trans dK.n b1.lo
    have k9:=dK.trans b1.le
    have k6:=fv.trans b1.le
    refine iV _ _<|.l Z (fun _ _ iX _=>aM (cs:=[num ((i:Nat):Int)]) (c':=[num ((i:Nat):Int)]) b1.wf rfl rfl rfl rfl dx b1.get (Nat.le_of_ble_eq_true rfl) rfl rfl fun A45 b5=>?_)
    have aZ:=al k6 ex dV b5.n b5.keep
    have kc:=al k9 br.wf f3 b5.n b5.keep
    refine iX _ _<|.nil<|kT _ _<|.seq fun K49 kV=>.region<|.q Z (ae Z)<|.q Z (bH (n:=(aW ((g)) rs).length) pB Z (aF.le kc) O (p4 _))<|.q Z (ae Z)<|.nil<|kV _ _ ?_
    refine ao.block ?_
    have ih:=hclo _ _ _ hJ_i b5.wf aZ.n (fun b o _ h=>aZ.get b o h)
    have f2:=aZ.get _ _ dk
    have n6:=n8 aZ fI
    have iF:=hP_i.up aZ dk
    have k3:=Nat.le_trans k2 aZ.n
    have hW:=bL.up aZ dk
    have aR:=cD.full f2 b5.wf
    have a7:=iF.sub f2
    have ar:=a7.get _ _ cP
    have bu:=a7.get _ _ cK
    have a4:=ga b5.get dk fI dV
    have ch:=e5.le a7
    have av:=d3.le a7
    have a5:=aF.le a7
    have en:=fi.le a7
    have dD:A.n<=(A45.hide [some bo,blk fR]).n:=k3
    generalize hM52:(A45.hide [some bo,blk fR])=M52 at aR a7 ar bu a4 ch av a5 en dD
    refine ao.loopD (X:=Nat × List Nat) (fun ⟨j,Ds⟩=>[(1,.pointer (some ⟨bs,0,none⟩)),(2,.pointer (some ⟨b4,0,none⟩)),(3,di),(4,.pointer (some ⟨eV,0,none⟩)),(10,num (((aW ((g)) rs).length:Nat):Int)),(11,num ((i:Nat):Int)),(15,num (((aW ((g)) rs).length:Nat):Int)),(16,num ((j:Nat):Int))]) (fun ⟨j,Ds⟩=>Ds.map V.mark) (fun ⟨j,Ds⟩ B=>(j<=(aW g rs).length)/\M52.le B/\ji bo A B Ds/\(J (rq rs.length (aW g rs) i j).length B/\cD bo M52 B)) (fun ⟨j,Ds⟩=>(aW g rs).length - j) (⟨0,Ds⟩) (xd Z Z Z Z Z Z Z Z) Z (⟨(Nat.zero_le _),aR.le,hW,⟨ih,aR⟩⟩) ?_
    rintro ⟨j,Ds⟩ B54 ⟨hl_j,cu,bM,hJ_j,hP_j⟩
    refine ao.wf fun aA=>?_
    obtain ⟨dO,n1,D,a9⟩:=hv _ _ hJ_j
    have fD:=AH.le.refl B54
    have ev:=Nat.le_trans dD cu.n
    refine ao.seq fun K57 l0=>.region<|.q Z (cA Z Z)<|.nil<|l0 _ _<|.seq fun K59 l1=>.if rfl (fun lT=>?_) (fun lT=>?_)
    ·
      refine ao.skip<|l1 _ _<|.seq fun K62 f9=>.block<|.seq fun K64 l2=>.region<|.q Z (ae Z)<|.l Z (fun _ _ j1 _=>ca aA z3 rfl fun A68 ey b2=>?_)
      have f4:=aL aR.wf (Nat.le_trans cu.n b2.lo)
      have bT:=aL aA (Nat.le_trans fD.n b2.lo)
      have lK:=Nat.le_trans cu.n b2.lo
      have kl:=cu.trans b2.le
      have k7:=fD.trans b2.le
      refine j1 _ _<|.l Z (fun _ _ j2 _=>aM (cs:=[num ((j:Nat):Int)]) (c':=[num ((j:Nat):Int)]) b2.wf rfl rfl rfl rfl dx b2.get (Nat.le_of_ble_eq_true rfl) rfl rfl fun A73 ai=>?_)
      have a1:=al k7 aA bT ai.n ai.keep
      have ag:=al kl aR.wf f4 ai.n ai.keep
      refine j2 _ _<|.nil<|l2 _ _<|.seq fun K77 hA=>.seq fun K79 hB=>.region<|.q Z (ak fj Z Z (ag.get _ _ a4) Z)<|.q Z (aj de fw U Z)<|.q Z (ak ii Z Z (ag.get _ _ ar) Z)<|.q Z (bH (n:=rs.length) jw Z (av.le ag) O (dm _)) ?_
      refine Ops.q Z (wj Z Z)<|.q Z (ae Z)<|.part (t:=24) Z (fun lV=>?_) (fun lV=>?_)
      ·
        refine Ops.on Z Z<|.q Z (ak fj Z Z ai.get Z)<|.on Z Z<|.q Z (aj de fw U Z)<|.on Z Z<|.q Z (ak ii Z Z (ag.get _ _ ar) Z)<|.on Z Z<|.q Z (bH (n:=rs.length) jw Z (av.le ag) O (dm _))<|.on Z Z<|.q Z (wj Z Z) ?_
        refine Ops.q Z (bi Z Z)<|.nil<|hB _ _<|.if rfl (fun lW=>?_) (fun lW=>?_)
        ·
          refine ao.exit<|f9 _ _<|.region<|.q Z (bN (b:=1) Z Z O)<|.q Z (ae Z)<|.nil ?_
          have it:=hclo _ _ _ hJ_j ai.wf a1.n (fun b o _ h=>a1.get b o h)
          have n2:=a1.get _ _ D
          have n7:=n8 a1 a9
          have iH:=hP_j.up a1 D
          have n3:=Nat.le_trans ev a1.n
          have hX:=bM.up a1 D
          exact ⟨⟨j + 1,Ds⟩,xd Z Z Z Z Z Z Z Z,Z,⟨O,ag,hX,⟨(by rw [MR ⟨by omega,by omega⟩];exact it),iH⟩⟩,O1⟩
        ·
          refine ao.skip<|hA _ _<|.seq fun K84 l3=>.region<|.q Z (ae Z)<|.q Z (ak fj Z Z (ag.get _ _ a4) Z)<|.q Z (ak fj Z Z ai.get Z)<|.l Z (fun _ _ j3 _=>aK Z (wx di (aW ((g)) rs) i j A73 (a5.le ag)) ?_)
          rintro nB A88 ⟨fV,fX,g0,rfl,eN,bS,d0,d1,d2,cU,cV,cX⟩
          have l4:=eN.get _ _ ai.get
          have b0:=a1.trans eN
          have hrwa:=d0
          have hrwb:=d1
          have hrwc:=d2
          have hloa:=cU
          have hlob:=cV
          have hloc:=cX
          have ea:=aL aA (Nat.le_trans a1.n cU)
          have ec:=aL aA (Nat.le_trans a1.n cV)
          have eg:=aL aA (Nat.le_trans a1.n cX)
          refine j3 _ _<|.nil<|l3 _ _<|.block ?_
          have iv:=hclo _ _ _ hJ_j bS b0.n (fun b o _ h=>b0.get b o h)
          have dv:=b0.get _ _ D
          have n9:=n8 b0 a9
          have iN:=hP_j.up b0 D
          have k4:=Nat.le_trans ev b0.n
          have hY:=bM.up b0 D
          have ay:=cD.full dv bS
          have a2:=iN.sub dv
          have a8:=a2.get _ _ ar
          have cS:=a2.get _ _ bu
          have bV:=a2.get _ _ a4
          have aT:=ga l4 D a9 bT
          have b9:=ga d0 D a9 ea
          have ba:=ga d1 D a9 ec
          have bb:=ga d2 D a9 eg
          have ck:=ch.le a2
          have bA:=av.le a2
          have bC:=a5.le a2
          have fl:=en.le a2
          have dG:A.n<=(A88.hide [some bo,blk dO]).n:=k4
          generalize hM94:(A88.hide [some bo,blk dO])=M94 at ay a2 a8 cS bV aT b9 ba bb ck bA bC fl dG
          refine ao.rangeOwn (M:=M94) bo (eO (aW g rs) i j).length (fun k=>[NG ((eO (aW g rs) i j).getD k .zero)]) (fun k B=>J ((rq rs.length (aW g rs) i j).length + k) B/\cD bo M94 B) (fun k b6=>[(6,.pointer (some ⟨b6,0,none⟩)),(1,.pointer (some ⟨bs,0,none⟩)),(2,.pointer (some ⟨b4,0,none⟩)),(4,.pointer (some ⟨eV,0,none⟩)),(5,.pointer (some ⟨ey,0,none⟩)),(20,.pointer (some ⟨bs,2,none⟩)),(26,.pointer (some ⟨bs,2,none⟩))]) (fun k=>.row true [num (((eO (aW g rs) i j).getD k .zero).i),num (((eO (aW g rs) i j).getD k .zero).j),aX (((eO (aW g rs) i j).getD k .zero).word),aX (((eO (aW g rs) i j).getD k .zero).u),aX (((eO (aW g rs) i j).getD k .zero).v)] 5) Z Tryz.call192 (fun _=>rfl) U (bS _ _ dv) ay ?_ ?_ ?_ ?_ ?_ ?_ ?_
          · rintro k B B2 ⟨i1,i2⟩ dj e4 hk
            obtain ⟨v,cc,gq,_⟩:=hv _ _ i1
            exact ⟨hclo _ _ _ i1 dj e4 (fun b o hb h=>hk b o (hb.imp (fun q=>Nat.lt_of_lt_of_le q (Nat.le_trans dG ay.le.n)) id) h),⟨⟨Nat.le_trans i2.le.n e4,fun b o h=>hk b o (.inl (Nat.lt_of_lt_of_le (i2.wf b o h) ay.le.n)) (i2.le.get _ _ h)⟩,i2.wf,fun b hb=>i2.ow b (hb.same (by rw [gq];exact hk bo _ (.inr (.inl Z)) gq))⟩⟩
          · exact fun k B i1=>hv _ _ i1.1
          · exact ⟨iv,ay⟩
          · intro fM J2 B M4 hnB hleB wfB ap hJI iS aS hyd
            obtain ⟨v,cc,gq,_⟩:=hv _ _ (hJI 0 B aS).1
            have s3:=(hJI 0 B aS).2.sub gq
            exact (uV bo fM J2 i j (aW g rs) di _ B fV fX g0 _ _ _ _ _ _ (cD.full gq wfB) aS (s3.get _ _ b9) (s3.get _ _ ba) (s3.get _ _ bb) (bC.le s3) O O hne (fun k C M2=>hyd k C M2)).mono (fun v C h=>⟨h.1,h.2.1,h.2.2.mono (ap.sub gq) ap.wf⟩)
          · intro F k B hF_ hk_
            refine ed.wf fun wfB_=>?_
            have hF:=hF_
            refine ed.region hF (by repeat' with_reducible exact iz) Y<|.l Z (fun _ _ j4 _=>ca wfB_ yi rfl fun A97 kv cC=>?_)
            have f6:=aL wfB_ (Nat.le_trans (AH.le.refl B).n cC.lo)
            have fL:=Nat.le_trans (AH.le.refl B).n cC.lo
            have km:=(AH.le.refl B).trans cC.le
            refine j4 _ _<|.l Z (fun _ _ gN _=>aM (cs:=[num (((eO (aW g rs) i j).getD k .zero).i),num (((eO (aW g rs) i j).getD k .zero).j),aX (((eO (aW g rs) i j).getD k .zero).word),aX (((eO (aW g rs) i j).getD k .zero).u),aX (((eO (aW g rs) i j).getD k .zero).v)]) (c':=[num (((eO (aW g rs) i j).getD k .zero).i),num (((eO (aW g rs) i j).getD k .zero).j),aX (((eO (aW g rs) i j).getD k .zero).word),aX (((eO (aW g rs) i j).getD k .zero).u),aX (((eO (aW g rs) i j).getD k .zero).v)]) cC.wf rfl rfl rfl rfl jv cC.get (Nat.le_of_ble_eq_true rfl) rfl rfl fun A101 bP=>?_)
            have hj:=al km wfB_ f6 bP.n bP.keep
            refine gN _ _<|.nil ?_
            exact ⟨kv,fL,vK Z Z Z Z Z Z Z,Z,hj,bP.wf,bP.get⟩
          · rintro F k B b6 M4 hF hk_ ⟨i1,i2⟩ wfB hnB ap fm g6 cF f7
            obtain ⟨vY,cY,gY,lY⟩:=hv _ _ i1
            have lB:A.n<=b6:=Nat.le_trans (Nat.le_trans dG ay.le.n) fm
            have fN:bo ≠ b6:=fun q=>cF (.inl q.symm)
            have lO:blk vY ≠ some b6:=fun q=>cF (.inr ⟨_,_,gY,q⟩)
            have s3:=i2.sub gY
            have e1:M94.get b6=none:=by cases q:M94.get b6 with | none=>rfl | some o=>exact absurd (ay.wf _ _ q) (by have:=ay.le.n;omega)
            have s6:=cg (bs:=[some b6]) s3 (qz e1 nf)
            have jX:=cM B [some b6]
            have m6:((B.hide [some bo,blk vY]).hide [some b6]).le (B.hide [some b6]):=vO (cM _ _)
            have cH:((B.hide [some bo,blk vY]).hide [some b6]).wf:=cr (cr wfB)
            have b3:((B.hide [some bo,blk vY]).hide [some b6]).get b6=none:=cn (by simp)
            have wfX:(B.hide [some b6]).wf:=cr wfB
            have e7:(B.hide [some b6]).get b6=none:=cn (by simp)
            generalize hM6:(B.hide [some bo,blk vY]).hide [some b6]=M6 at s6 m6 cH b3
            have l7:=fl.le s6
            refine ed.block<|.seq fun K104 hJ=>.drawn [0,1,3,4,2,6,5,7,8,9] hF (by repeat' first | with_reducible exact iz | with_reducible apply oe | with_reducible apply ku) Y mixed Y Y Z<|.q Z Z Z (am dn cT Z Z ((m6.trans jX).get _ _ (s6.get _ _ a8)) Z)<|.q Z Z Z (ak fj Z Z ((m6.trans jX).get _ _ (s6.get _ _ bV)) Z) ?_
            have gc:=dL (off:=0) ((m6.trans jX).get _ _ (s6.get _ _ a8)) (show _=some (num (g)) from rfl)
            have ge:=dL (off:=1) ((m6.trans jX).get _ _ (s6.get _ _ a8)) (show _=some (u) from rfl)
            have gf:=dL (off:=2) ((m6.trans jX).get _ _ (s6.get _ _ a8)) (show _=some (rv) from rfl)
            refine bj.q Z Z Z (am dn cT Z Z ((m6.trans jX).get _ _ (s6.get _ _ a8)) Z) ?_
            have gg:=dL (off:=0) ((m6.trans jX).get _ _ (s6.get _ _ aT)) (show _=some (num ((j:Nat):Int)) from rfl)
            refine bj.q Z Z Z (ak fj Z Z ((m6.trans jX).get _ _ (s6.get _ _ aT)) Z)<|.l Z Z Z (fun _ _ gP _=>aK Z (tk ((g)) u l rv rs i B O hn ((ck.le s6).le (m6.trans jX)) ((bA.le s6).le (m6.trans jX))) ?_)
            rintro nb A116 ⟨rfl,aa,lX⟩
            have hK:=aa.get _ _ g6
            have gl:=cm aa gc
            have gm:=cm aa ge
            have gp:=cm aa gf
            have gs:=cm aa gg
            have dI:=(m6.trans jX).trans aa
            have hc:=jX.trans aa
            refine gP _ _ (aO.list (L:=[(⟨ey,0,none⟩,num ((j:Nat):Int)),(⟨bs,0,none⟩,num (g)),(⟨bs,1,none⟩,u),(⟨bs,2,none⟩,rv)]) Y (bq gs (bq gl (bq gm (bq gp cL)))))<|.q Z Z Z (aj JD dx U Z)<|.l Z Z Z (fun _ _ gQ _=>aK Z (tk ((g)) u l rv rs j A116 O hn ((ck.le s6).le dI) ((bA.le s6).le dI)) ?_)
            rintro nj A131 ⟨rfl,cv,fS⟩
            have hM:=cv.get _ _ hK
            have hl:=dI.trans cv
            have hd:=hc.trans cv
            refine gQ _ _ (aO.none Y)<|.l Z Z Z (fun _ _ gS _=>aM (cs:=[num (nm rs.length i)]) (c':=[num (nm rs.length i),num (((eO (aW g rs) i j).getD k .zero).j),aX (((eO (aW g rs) i j).getD k .zero).word),aX (((eO (aW g rs) i j).getD k .zero).u),aX (((eO (aW g rs) i j).getD k .zero).v)]) fS rfl rfl rfl rfl dx hM (Nat.le_of_ble_eq_true rfl) rfl rfl fun A141 aG=>?_)
            have he:=al hd wfX e7 aG.n aG.keep
            have hm:=al hl cH b3 aG.n aG.keep
            refine gS _ _ (aO.none Y)<|.q Z Z Z (aj JE dx U Z)<|.l Z Z Z (fun _ _ gX _=>aM (cs:=[num (nm rs.length j)]) (c':=[num (nm rs.length i),num (nm rs.length j),aX (((eO (aW g rs) i j).getD k .zero).word),aX (((eO (aW g rs) i j).getD k .zero).u),aX (((eO (aW g rs) i j).getD k .zero).v)]) aG.wf rfl rfl rfl rfl dx aG.get (Nat.le_of_ble_eq_true rfl) rfl rfl fun A146 ac=>?_)
            have bd:=al he wfX e7 ac.n ac.keep
            have ho:=al hm cH b3 ac.n ac.keep
            refine gX _ _ (aO.none Y)<|.done<|hJ _ _<|.seq fun K150 hN=>?_
            have g5:=hclo _ _ _ i1 ac.wf bd.n (fun b o hb h=>bd.get b o (bF h (lQ (fun q=>by subst q;rcases hb with hb | hb;omega;exact cF hb) ka)))
            have dw:=bd.get _ _ (bF gY (lQ fN ka))
            have fO:=I6 (n:=rs.length) (L:=(aW g rs)) (i:=i) (j:=j) (k:=k) O O O hk_
            have eC:=hy _ _ _ fO.1 ac.wf g5 (cD.full dw ac.wf)
            rw [show bg g rs=mZ rs.length (aW g rs) from rfl,fO.2] at eC
            refine ed.regionJ ?_
            refine jy.q hF Z Z (ak Ql Z Z (ho.get _ _ (s6.get _ _ cS)) Z) ?_
            refine jy.q hF Z Z (am sH jv Z Z ac.get Z) ?_
            refine jy.y hF rfl rfl rfl (eC) fun nk A154 h8=>?_
            obtain ⟨rfl,hJz,wfz,hPz⟩:=h8
            skip
            refine jy.q hF Z Z (eE Z) ?_
            refine jy.nil ?_
            refine hN _ _<|.cond_false Z<|.skip ?_
            exact ⟨⟨hJz,(hPz.mono (cg ((cg (bs:=[some b6]) i2.le (qz e1 nf)).trans bd) (qL i2 gY dw)) i2.wf)⟩,wfz,(hPz.mono (cg ((cg (bs:=[some b6]) ap.le (qz f7 nf)).trans bd) (qL ap gY dw)) ap.wf)⟩
          · rintro B156 D156 ⟨i1,i2⟩ mT fo lC g1 fr b7
            have fd:=ji.push hY dv (by rw [hM94];exact b7) bS (Nat.le_trans dG ay.le.n) fo g1 fr
            have e2:J (rq rs.length (aW g rs) i (j + 1)).length B156:=by rw [I7 O];exact i1
            obtain ⟨mK,m2,mb,mv⟩:=hv _ _ e2
            have mm:=Nat.le_trans dD (a2.trans b7.le).n
            refine f9 _ _<|.region<|.q Z (bN (b:=1) Z Z O)<|.q Z (ae Z)<|.nil ?_
            exact ⟨⟨j + 1,D156 :: Ds⟩,xd Z Z Z Z Z Z Z Z,Z,⟨O,(a2.trans b7.le),fd,⟨e2,(b7.mono a2 aR.wf)⟩⟩,O1⟩
      ·
        refine Ops.off Z Z Z Z<|.off Z Z Z Z<|.off Z Z Z Z<|.off Z Z Z Z<|.off Z Z Z Z<|.q Z (bw Z Z)<|.nil<|hB _ _<|.cond_false Z<|.skip ?_
        refine hA _ _<|.seq fun K158 hO=>.region<|.q Z (ae Z)<|.q Z (ak fj Z Z (ag.get _ _ a4) Z)<|.q Z (ak fj Z Z ai.get Z)<|.l Z (fun _ _ h0 _=>aK Z (wx di (aW ((g)) rs) i j A73 (a5.le ag)) ?_)
        rintro nl A162 ⟨eX,eY,eZ,rfl,e6,bp,c7,cb,cf,bY,c3,c4⟩
        have hQ:=e6.get _ _ ai.get
        have az:=a1.trans e6
        have hrwa:=c7
        have hrwb:=cb
        have hrwc:=cf
        have hloa:=bY
        have hlob:=c3
        have hloc:=c4
        have dW:=aL aA (Nat.le_trans a1.n bY)
        have dZ:=aL aA (Nat.le_trans a1.n c3)
        have e0:=aL aA (Nat.le_trans a1.n c4)
        refine h0 _ _<|.nil<|hO _ _<|.block ?_
        have g7:=hclo _ _ _ hJ_j bp az.n (fun b o _ h=>az.get b o h)
        have bD:=az.get _ _ D
        have mx:=n8 az a9
        have g9:=hP_j.up az D
        have ha:=Nat.le_trans ev az.n
        have g4:=bM.up az D
        have a6:=cD.full bD bp
        have a0:=g9.sub bD
        have a3:=a0.get _ _ ar
        have bU:=a0.get _ _ bu
        have bB:=a0.get _ _ a4
        have aB:=ga hQ D a9 bT
        have aC:=ga c7 D a9 dW
        have aD:=ga cb D a9 dZ
        have aE:=ga cf D a9 e0
        have bv:=ch.le a0
        have aV:=av.le a0
        have bc:=a5.le a0
        have eA:=en.le a0
        have bO:A.n<=(A162.hide [some bo,blk dO]).n:=ha
        generalize hM168:(A162.hide [some bo,blk dO])=M168 at a6 a0 a3 bU bB aB aC aD aE bv aV bc eA bO
        refine ao.rangeOwn (M:=M168) bo (eO (aW g rs) i j).length (fun k=>[NG ((eO (aW g rs) i j).getD k .zero)]) (fun k B=>J ((rq rs.length (aW g rs) i j).length + k) B/\cD bo M168 B) (fun k b6=>[(6,.pointer (some ⟨b6,0,none⟩)),(1,.pointer (some ⟨bs,0,none⟩)),(2,.pointer (some ⟨b4,0,none⟩)),(4,.pointer (some ⟨eV,0,none⟩)),(5,.pointer (some ⟨ey,0,none⟩)),(20,.pointer (some ⟨bs,2,none⟩))]) (fun k=>.row true [num (((eO (aW g rs) i j).getD k .zero).i),num (((eO (aW g rs) i j).getD k .zero).j),aX (((eO (aW g rs) i j).getD k .zero).word),aX (((eO (aW g rs) i j).getD k .zero).u),aX (((eO (aW g rs) i j).getD k .zero).v)] 5) Z Tryz.call192 (fun _=>rfl) U (bp _ _ bD) a6 ?_ ?_ ?_ ?_ ?_ ?_ ?_
        · rintro k B B2 ⟨i1,i2⟩ dj e4 hk
          obtain ⟨v,cc,gq,_⟩:=hv _ _ i1
          exact ⟨hclo _ _ _ i1 dj e4 (fun b o hb h=>hk b o (hb.imp (fun q=>Nat.lt_of_lt_of_le q (Nat.le_trans bO a6.le.n)) id) h),⟨⟨Nat.le_trans i2.le.n e4,fun b o h=>hk b o (.inl (Nat.lt_of_lt_of_le (i2.wf b o h) a6.le.n)) (i2.le.get _ _ h)⟩,i2.wf,fun b hb=>i2.ow b (hb.same (by rw [gq];exact hk bo _ (.inr (.inl Z)) gq))⟩⟩
        · exact fun k B i1=>hv _ _ i1.1
        · exact ⟨g7,a6⟩
        · intro fM J2 B M4 hnB hleB wfB ap hJI iS aS hyd
          obtain ⟨v,cc,gq,_⟩:=hv _ _ (hJI 0 B aS).1
          have s3:=(hJI 0 B aS).2.sub gq
          exact (uV bo fM J2 i j (aW g rs) di _ B eX eY eZ _ _ _ _ _ _ (cD.full gq wfB) aS (s3.get _ _ aC) (s3.get _ _ aD) (s3.get _ _ aE) (bc.le s3) O O hne (fun k C M2=>hyd k C M2)).mono (fun v C h=>⟨h.1,h.2.1,h.2.2.mono (ap.sub gq) ap.wf⟩)
        · intro F k B hF_ hk_
          refine ed.wf fun wfB_=>?_
          have hF:=hF_
          refine ed.region hF (by repeat' with_reducible exact iz) Y<|.l Z (fun _ _ h1 _=>ca wfB_ yi rfl fun A171 hI bm=>?_)
          have eS:=aL wfB_ (Nat.le_trans (AH.le.refl B).n bm.lo)
          have eT:=Nat.le_trans (AH.le.refl B).n bm.lo
          have hq:=(AH.le.refl B).trans bm.le
          refine h1 _ _<|.l Z (fun _ _ h3 _=>aM (cs:=[num (((eO (aW g rs) i j).getD k .zero).i),num (((eO (aW g rs) i j).getD k .zero).j),aX (((eO (aW g rs) i j).getD k .zero).word),aX (((eO (aW g rs) i j).getD k .zero).u),aX (((eO (aW g rs) i j).getD k .zero).v)]) (c':=[num (((eO (aW g rs) i j).getD k .zero).i),num (((eO (aW g rs) i j).getD k .zero).j),aX (((eO (aW g rs) i j).getD k .zero).word),aX (((eO (aW g rs) i j).getD k .zero).u),aX (((eO (aW g rs) i j).getD k .zero).v)]) bm.wf rfl rfl rfl rfl jv bm.get (Nat.le_of_ble_eq_true rfl) rfl rfl fun A175 bR=>?_)
          have hs:=al hq wfB_ eS bR.n bR.keep
          refine h3 _ _<|.nil ?_
          exact ⟨hI,eT,DR Z Z Z Z Z Z,Z,hs,bR.wf,bR.get⟩
        · rintro F k B b6 M4 hF hk_ ⟨i1,i2⟩ wfB hnB ap fm g6 cF f7
          obtain ⟨vY,cY,gY,lY⟩:=hv _ _ i1
          have lB:A.n<=b6:=Nat.le_trans (Nat.le_trans bO a6.le.n) fm
          have fN:bo ≠ b6:=fun q=>cF (.inl q.symm)
          have lO:blk vY ≠ some b6:=fun q=>cF (.inr ⟨_,_,gY,q⟩)
          have s3:=i2.sub gY
          have e1:M168.get b6=none:=by cases q:M168.get b6 with | none=>rfl | some o=>exact absurd (a6.wf _ _ q) (by have:=a6.le.n;omega)
          have s6:=cg (bs:=[some b6]) s3 (qz e1 nf)
          have jX:=cM B [some b6]
          have m6:((B.hide [some bo,blk vY]).hide [some b6]).le (B.hide [some b6]):=vO (cM _ _)
          have cH:((B.hide [some bo,blk vY]).hide [some b6]).wf:=cr (cr wfB)
          have b3:((B.hide [some bo,blk vY]).hide [some b6]).get b6=none:=cn (by simp)
          have wfX:(B.hide [some b6]).wf:=cr wfB
          have e7:(B.hide [some b6]).get b6=none:=cn (by simp)
          generalize hM6:(B.hide [some bo,blk vY]).hide [some b6]=M6 at s6 m6 cH b3
          have l7:=eA.le s6
          refine ed.block<|.seq fun K178 hR=>.drawn [0,1,3,4,2,6,5,7,8,9] hF (by repeat' first | with_reducible exact iz | with_reducible apply oe | with_reducible apply ku) Y mixed Y Y Z<|.q Z Z Z (am dn cT Z Z ((m6.trans jX).get _ _ (s6.get _ _ a3)) Z)<|.q Z Z Z (ak fj Z Z ((m6.trans jX).get _ _ (s6.get _ _ bB)) Z) ?_
          have gA:=dL (off:=0) ((m6.trans jX).get _ _ (s6.get _ _ a3)) (show _=some (num (g)) from rfl)
          have gC:=dL (off:=1) ((m6.trans jX).get _ _ (s6.get _ _ a3)) (show _=some (u) from rfl)
          have gD:=dL (off:=2) ((m6.trans jX).get _ _ (s6.get _ _ a3)) (show _=some (rv) from rfl)
          refine bj.q Z Z Z (am dn cT Z Z ((m6.trans jX).get _ _ (s6.get _ _ a3)) Z) ?_
          have gE:=dL (off:=0) ((m6.trans jX).get _ _ (s6.get _ _ aB)) (show _=some (num ((j:Nat):Int)) from rfl)
          refine bj.q Z Z Z (ak fj Z Z ((m6.trans jX).get _ _ (s6.get _ _ aB)) Z)<|.l Z Z Z (fun _ _ h4 _=>aK Z (tk ((g)) u l rv rs i B O hn ((bv.le s6).le (m6.trans jX)) ((aV.le s6).le (m6.trans jX))) ?_)
          rintro nn A190 ⟨rfl,ab,m1⟩
          have hS:=ab.get _ _ g6
          have gF:=cm ab gA
          have gG:=cm ab gC
          have gL:=cm ab gD
          have gM:=cm ab gE
          have dJ:=(m6.trans jX).trans ab
          have hf:=jX.trans ab
          refine h4 _ _ (aO.list (L:=[(⟨ey,0,none⟩,num ((j:Nat):Int)),(⟨bs,0,none⟩,num (g)),(⟨bs,1,none⟩,u),(⟨bs,2,none⟩,rv)]) Y (bq gM (bq gF (bq gG (bq gL cL)))))<|.q Z Z Z (aj JD dx U Z)<|.l Z Z Z (fun _ _ h5 _=>aK Z (tk ((g)) u l rv rs j A190 O hn ((bv.le s6).le dJ) ((aV.le s6).le dJ)) ?_)
          rintro nq A205 ⟨rfl,cB,fT⟩
          have hT:=cB.get _ _ hS
          have ht:=dJ.trans cB
          have hh:=hf.trans cB
          refine h5 _ _ (aO.none Y)<|.l Z Z Z (fun _ _ h6 _=>aM (cs:=[num (nm rs.length i)]) (c':=[num (nm rs.length i),num (((eO (aW g rs) i j).getD k .zero).j),aX (((eO (aW g rs) i j).getD k .zero).word),aX (((eO (aW g rs) i j).getD k .zero).u),aX (((eO (aW g rs) i j).getD k .zero).v)]) fT rfl rfl rfl rfl dx hT (Nat.le_of_ble_eq_true rfl) rfl rfl fun A215 aI=>?_)
          have hi:=al hh wfX e7 aI.n aI.keep
          have hx:=al ht cH b3 aI.n aI.keep
          refine h6 _ _ (aO.none Y)<|.q Z Z Z (aj JE dx U Z)<|.l Z Z Z (fun _ _ h7 _=>aM (cs:=[num (nm rs.length j)]) (c':=[num (nm rs.length i),num (nm rs.length j),aX (((eO (aW g rs) i j).getD k .zero).word),aX (((eO (aW g rs) i j).getD k .zero).u),aX (((eO (aW g rs) i j).getD k .zero).v)]) aI.wf rfl rfl rfl rfl dx aI.get (Nat.le_of_ble_eq_true rfl) rfl rfl fun A220 ad=>?_)
          have bl:=al hi wfX e7 ad.n ad.keep
          have hz:=al hx cH b3 ad.n ad.keep
          refine h7 _ _ (aO.none Y)<|.done<|hR _ _<|.seq fun K224 hU=>?_
          have g8:=hclo _ _ _ i1 ad.wf bl.n (fun b o hb h=>bl.get b o (bF h (lQ (fun q=>by subst q;rcases hb with hb | hb;omega;exact cF hb) ka)))
          have dz:=bl.get _ _ (bF gY (lQ fN ka))
          have fQ:=I6 (n:=rs.length) (L:=(aW g rs)) (i:=i) (j:=j) (k:=k) O O O hk_
          have eG:=hy _ _ _ fQ.1 ad.wf g8 (cD.full dz ad.wf)
          rw [show bg g rs=mZ rs.length (aW g rs) from rfl,fQ.2] at eG
          refine ed.regionJ ?_
          refine jy.q hF Z Z (ak Ql Z Z (hz.get _ _ (s6.get _ _ bU)) Z) ?_
          refine jy.q hF Z Z (am sH jv Z Z ad.get Z) ?_
          refine jy.y hF rfl rfl rfl (eG) fun nu A228 h9=>?_
          obtain ⟨rfl,hJz,wfz,hPz⟩:=h9
          skip
          refine jy.q hF Z Z (eE Z) ?_
          refine jy.nil ?_
          refine hU _ _<|.cond_false Z<|.skip ?_
          exact ⟨⟨hJz,(hPz.mono (cg ((cg (bs:=[some b6]) i2.le (qz e1 nf)).trans bl) (qL i2 gY dz)) i2.wf)⟩,wfz,(hPz.mono (cg ((cg (bs:=[some b6]) ap.le (qz f7 nf)).trans bl) (qL ap gY dz)) ap.wf)⟩
        · rintro B230 D230 ⟨i1,i2⟩ mV fq lE g2 ft b8
          have fe:=ji.push g4 bD (by rw [hM168];exact b8) bp (Nat.le_trans bO a6.le.n) fq g2 ft
          have e3:J (rq rs.length (aW g rs) i (j + 1)).length B230:=by rw [I7 O];exact i1
          obtain ⟨mM,m3,me,mB⟩:=hv _ _ e3
          have mt:=Nat.le_trans dD (a0.trans b8.le).n
          refine f9 _ _<|.region<|.q Z (bN (b:=1) Z Z O)<|.q Z (ae Z)<|.nil ?_
          exact ⟨⟨j + 1,D230 :: Ds⟩,xd Z Z Z Z Z Z Z Z,Z,⟨O,(a0.trans b8.le),fe,⟨e3,(b8.mono a0 aR.wf)⟩⟩,O1⟩
    ·
      refine ao.exit<|kP _ _<|.region<|.q Z (bN (b:=1) Z Z O)<|.q Z (ae Z)<|.nil ?_
      exact ⟨⟨i + 1,Ds⟩,rn Z Z Z Z Z,Z,⟨O,(a7.trans cu),bM,⟨(by rw [AQ,show (aW g rs).length=j by omega];exact hJ_j),(hP_j.mono a7 br.wf)⟩⟩,O1⟩
  ·
    refine ao.exit ?_
    (repeat first | with_reducible refine bE ?_ | with_reducible refine bk ?_);(repeat first | with_reducible refine fa ?_ | with_reducible refine ep ?_ | with_reducible refine dX U ?_ | with_reducible refine dY ?_ | with_reducible refine dt ?_);obtain ⟨vZ,cZ,gZ,lZ⟩:=hv _ _ hJ_i;refine ⟨Ds,rfl,bL.nd,bL.get,[],fun A2 dj lw l9=>?_⟩;obtain ⟨z1,z2⟩:=bL.leave hP.le wf (hP_i.mono aP hP.wf) gZ lw l9;exact ⟨Z,_,Z,(by rw [show bg g rs=rq rs.length (aW g rs) i 0 from by rw [show i=(aW g rs).length by omega,I5];rfl];exact hclo _ _ _ hJ_i dj O z2),dj,z1⟩

theorem PC (g:Int) (u:Value) (l:List (List UInt8)) (rv:Value) (rs:List au) (A:AH) (hu:bJ A 1 u (dc l)) (hr:bJ A 3 rv (ci rs)):bG Tryz.prog 125 #[.agg #[num (g),u,rv]] A (fun v A1=>∃ b,v=.func (.func 164) #[] #[.pointer (some ⟨b,0,none⟩)]/\A.le A1/\A1.wf/\A1.get b=some (.row true [num g,u,rv] 3)/\A.get b=none):=by
 refine iy Tryz.call125 Tryz.func125 Z Tryz.results125 Tryz.ntmps125 Z (fun wf=>?_);have V:=AH.le.refl A;refine ao.seq fun _ h2=>.region<|.l Z (fun _ _ X _=>ej wf rfl rfl fun A5 b4 h=>?_);have D:=aL wf (Nat.le_trans V.n h.lo);have a0:=V.trans h.le;refine X _ _<|.q Z (ah Z)<|.nil<|h2 _ _<|.seq fun _ h9=>.region<|.q Z (lg Z Z)<|.q Z (ah Z)<|.nil<|h9 _ _ ?_;refine ao.ret ?_;repeat first | with_reducible refine bE ?_ | with_reducible refine bk ?_
 exact be Z (⟨b4,Z,a0,h.wf,h.get,D⟩)

theorem z7 (g:Int) (u:Value) (l:List (List UInt8)) (rv:Value) (rs:List au) (A:AH) (hg:1<=g/\g<=8) (hn:rs.length<=1000000) (hw:∀ r ∈ rs,0 < r.left.length/\r.left.length<=1000/\r.right.length<=1000) (hmx:(bg g rs).length<=50000) (hL:eF A) (hu:bJ A 1 u (dc l)) (hr:bJ A 3 rv (ci rs)) (hp:Proofs A rs):bG Tryz.prog 88 #[.agg #[num (g),u,rv]] A (fun v A1=>∃ w,v=.tuple #[w,.bool true]/\A.le A1/\A1.wf/\Fresh A A1 w 5 (Bz (bg g rs))):=by
  refine enterM (e:=[(0,.agg #[num (g),u,rv])]) (args:=[.agg #[num (g),u,rv]]) Tryz.call88 Tryz.func88 Z Tryz.results88 Tryz.ntmps88 Z Z Z (fun wf=>?_)
  have c3:=AH.le.refl A
  have df_:Sm A A []:=⟨List.Pairwise.nil,fun _ h=>by cases h⟩
  refine ao.seq fun K1 h2=>.region<|.l Z (fun _ _ e2 _=>ej wf rfl rfl fun A5 b4 aT=>?_)
  have ex:=Nat.le_trans c3.n aT.lo
  have bb:=c3.trans aT.le
  refine e2 _ _<|.l Z (fun _ _ e3 _=>ca aT.wf Uz rfl fun A10 b9 a3=>?_)
  have bC:=aL wf (Nat.le_trans bb.n a3.lo)
  have ey:=Nat.le_trans bb.n a3.lo
  have dw:=a3.le.get _ _ aT.get
  have aI:=bb.trans a3.le
  refine e3 _ _<|.l Z (fun _ _ cC _=>ca a3.wf z4 rfl fun A16 aV X=>?_)
  have ac:=ne_new a3.wf a3.get X.lo
  have b1:=aL wf (Nat.le_trans aI.n X.lo)
  have e6:=Nat.le_trans aI.n X.lo
  have bR:=X.le.get _ _ dw
  have bS:=X.le.get _ _ a3.get
  have aP:=aI.trans X.le
  refine cC _ _<|.nil<|h2 _ _<|.seq fun K21 dz=>.region<|.l Z (fun _ _ cF _=>ca X.wf Uz rfl fun A25 D a1=>?_)
  have aF:=ne_new X.wf bR a1.lo
  have aG:=ne_new X.wf bS a1.lo
  have aB:=ne_new X.wf X.get a1.lo
  have b2:=aL wf (Nat.le_trans aP.n a1.lo)
  have e7:=Nat.le_trans aP.n a1.lo
  have b5:=a1.le.get _ _ bR
  have bT:=a1.le.get _ _ bS
  have bU:=a1.le.get _ _ X.get
  have aR:=aP.trans a1.le
  refine cF _ _<|.nil<|dz _ _<|.seq fun K31 dD=>.seq fun K33 dG=>.region<|.q Z (am dn cT Z Z b5 Z)<|.l Z (fun _ _ cH _=>aK Z (PC ((g)) u l rv rs A25 (hu.le aR) (hr.le aR)) ?_)
  rintro eN A37 ⟨a4,rfl,a7,ai,az,a2⟩
  have dI:=a7.get _ _ b5
  have dJ:=a7.get _ _ bT
  have dK:=a7.get _ _ bU
  have aD:=a7.get _ _ a1.get
  have ba:=aR.trans a7
  have hrow:=az
  have hno:=a2
  have bv:b4 ≠ a4:=fun z=>by have q0:=b5;rw [z,a2] at q0;cases q0
  have bA:b9 ≠ a4:=fun z=>by have q0:=bT;rw [z,a2] at q0;cases q0
  have bm:aV ≠ a4:=fun z=>by have q0:=bU;rw [z,a2] at q0;cases q0
  have ay:D ≠ a4:=fun z=>by have q0:=a1.get;rw [z,a2] at q0;cases q0
  refine cH _ _<|.nil<|dG _ _<|.block ?_
  have V:=cD.full aD ai
  have hLM:=cg (bs:=[some D,blk (.slice none 0 0)]) ba (fun b hb=>by simp only [List.mem_cons,List.not_mem_nil,or_false,Option.some.injEq,blk] at hb;rcases hb with rfl | hb;exact b2;cases hb)
  have bO:=Fresh.nil (A37.hide [some D,blk (.slice none 0 0)]) A37 5
  have ad:=bF (bs:=[some D,blk (.slice none 0 0)]) dI (lQ (aF) (ng (fun q=>by cases q) ka))
  have ag:=bF (bs:=[some D,blk (.slice none 0 0)]) dJ (lQ (aG) (ng (fun q=>by cases q) ka))
  have a6:=bF (bs:=[some D,blk (.slice none 0 0)]) dK (lQ (aB) (ng (fun q=>by cases q) ka))
  have a0:=bF (bs:=[some D,blk (.slice none 0 0)]) az (lQ (ay.symm) (ng (fun q=>by cases q) ka))
  generalize hM0:(A37.hide [some D,blk (.slice none 0 0)])=M at V hLM bO ad ag a6 a0
  have hvI:∀ (k:Nat) (B:AH),(M.le B/\∃ v,B.get D=some (.row true [v] 1)/\Fresh M B v 5 (Bz ((bg g rs).take k))/\blk v ≠ some D)->∃ v cap,B.get D=some (.row true [v] cap)/\∀ b,blk v=some b->∃ o,B.get b=some o:=fun k B ⟨_,v,g1,f1,_⟩=>⟨v,1,g1,fun b hb=>f1.own.blkget hb⟩
  refine ao.rangeOwn (M:=M) D (bg g rs).length (fun k=>[NG ((bg g rs).getD k .zero)]) (fun k B=>(M.le B/\∃ v,B.get D=some (.row true [v] 1)/\Fresh M B v 5 (Bz ((bg g rs).take k))/\blk v ≠ some D)) (fun k b6=>[(5,.pointer (some ⟨b6,0,none⟩)),(1,.pointer (some ⟨b4,0,none⟩)),(2,.pointer (some ⟨b9,0,none⟩)),(3,.pointer (some ⟨aV,0,none⟩)),(4,.pointer (some ⟨D,0,none⟩))]) (fun k=>.row true [num (((bg g rs).getD k .zero).i),num (((bg g rs).getD k .zero).j),aX (((bg g rs).getD k .zero).word),aX (((bg g rs).getD k .zero).u),aX (((bg g rs).getD k .zero).v)] 5) Z Tryz.call164 (fun _=>rfl) U (ai _ _ aD) V ?_ hvI ?_ ?_ ?_ ?_ ?_
  · rintro k B B2 ⟨i1,v,g1,f1,n1⟩ cf e5 hk
    exact ⟨⟨Nat.le_trans i1.n e5,fun b o h=>hk b o (.inl (Nat.lt_of_lt_of_le (V.wf b o h) V.le.n)) (i1.get _ _ h)⟩,v,hk _ _ (.inr (.inl rfl)) g1,f1.owk (fun b o hb h=>hk b o (.inr (.inr ⟨v,1,g1,hb⟩)) h),n1⟩
  · exact ⟨V.le,_,aD,bO,fun q=>by cases q⟩
  · intro ea J2 B M4 hnB hleB wfB aE hJI cB aA hyd
    obtain ⟨v,cc,gq,_⟩:=hvI _ _ (hJI 0 B aA)
    have s3:M.le (B.hide [some D,blk v]):=cg (hJI 0 B aA).1 (fun b hb=>by obtain ⟨_,w,g1,f1,_⟩:=hJI 0 B aA;rw [g1] at gq;cases gq;simp only [List.mem_cons,List.not_mem_nil,or_false,Option.some.injEq] at hb;rcases hb with rfl | hb;exact V.ow _ (.inl Z);exact f1.lo b hb.symm)
    exact (LX D ea J2 g u l rv rs _ B a4 _ _ (cD.full gq wfB) aA (s3.get _ _ a0) ((hL.le hLM).le s3) ((hu.le hLM).le s3) ((hr.le hLM).le s3) ((hp.le hLM).le s3) hg hn hw (fun i C C2 j1 j2 j3 j4=>cB i C C2 j1 j2 j3 j4) (fun i C j1=>hvI i C (hJI i C j1)) (wfB _ _ gq) (fun k C M2=>hyd k C M2)).mono (fun v C h=>⟨h.1,h.2.1,h.2.2.mono (aE.sub gq) aE.wf⟩)
  · intro F k B hF_ hk_
    refine ed.wf fun wfB_=>?_
    have hF:=hF_
    refine ed.region hF (by repeat' with_reducible exact iz) Y<|.l Z (fun _ _ cK _=>ca wfB_ yi rfl fun A46 dv ar=>?_)
    have b3:=aL wfB_ (Nat.le_trans (AH.le.refl B).n ar.lo)
    have bd:=Nat.le_trans (AH.le.refl B).n ar.lo
    have d1:=(AH.le.refl B).trans ar.le
    refine cK _ _<|.l Z (fun _ _ cP _=>aM (cs:=[num (((bg g rs).getD k .zero).i),num (((bg g rs).getD k .zero).j),aX (((bg g rs).getD k .zero).word),aX (((bg g rs).getD k .zero).u),aX (((bg g rs).getD k .zero).v)]) (c':=[num (((bg g rs).getD k .zero).i),num (((bg g rs).getD k .zero).j),aX (((bg g rs).getD k .zero).word),aX (((bg g rs).getD k .zero).u),aX (((bg g rs).getD k .zero).v)]) ar.wf rfl rfl rfl rfl jv ar.get (Nat.le_of_ble_eq_true rfl) rfl rfl fun A50 aC=>?_)
    have d2:=al d1 wfB_ b3 aC.n aC.keep
    refine cP _ _<|.nil ?_
    exact ⟨dv,bd,rn Z Z Z Z Z,Z,d2,aC.wf,aC.get⟩
  · rintro F k B b6 M4 hF hk_ ⟨i1,v,g1,f1,n1⟩ wfB hnB aE eL g6 c7 eC
    have s3:M.le (B.hide [some D,blk v]):=cg i1 (fun b hb=>by simp only [List.mem_cons,List.not_mem_nil,or_false,Option.some.injEq] at hb;rcases hb with rfl | hb;exact V.ow _ (.inl Z);exact f1.lo b hb.symm)
    have s4:=aE.sub g1
    have leX:=cM B [some D,blk v]
    have wfX:(B.hide [some D,blk v]).wf:=cr wfB
    have noX:(B.hide [some D,blk v]).get D=none:=cn (by simp)
    have fX:Fresh (B.hide [some D,blk v]) B v 5 (Bz ((bg g rs).take k)):=f1.hide (by simp)
    have bP:(B.hide [some D,blk v]).get b6=some (.row true [num (((bg g rs).getD k .zero).i),num (((bg g rs).getD k .zero).j),aX (((bg g rs).getD k .zero).word),aX (((bg g rs).getD k .zero).u),aX (((bg g rs).getD k .zero).v)] 5):=bF g6 (lQ (fun q=>c7 (.inl q)) (ng (fun q=>c7 (.inr ⟨_,_,g1,q⟩)) ka))
    generalize hMX:B.hide [some D,blk v]=MX at s3 s4 leX wfX noX fX bP
    have htk:((bg g rs).take k).length=k:=by rw [List.length_take];omega
    refine ed.block<|.seq fun K53 dO=>.seq fun K55 dS=>.region hF (by repeat' first | with_reducible exact iz | with_reducible apply oe | with_reducible apply ku) Y<|.q Z (ak M8 Z Z g1 Z)<|.q Z (bH (n:=((bg g rs).take k).length) Si Z fX.slc O (DM _))<|.q Z (oq (b:=50000) Z Z)<|.nil<|dS _ _<|.if rfl (fun ec=>?_) (fun ec=>?_)
    ·
      refine ed.seq fun K58 eG=>?_
      exact absurd ‹_› O
    ·
      refine ed.skip<|dO _ _<|.region hF (by repeat' first | with_reducible exact iz | with_reducible apply ku) Y<|.q Z (ak M8 Z Z g1 Z)<|.q Z (am sH jv Z Z (leX.get _ _ bP) Z)<|.l Z (fun _ _ cS _=>aN (c:=[num (((bg g rs).getD k .zero).i),num (((bg g rs).getD k .zero).j),aX (((bg g rs).getD k .zero).word),aX (((bg g rs).getD k .zero).u),aX (((bg g rs).getD k .zero).v)]) wfB rfl (ax Si jv yi rfl U U rfl) fun A62 eA a8=>?_)
      have e9:=Nat.le_trans leX.n a8.lo
      have bV:=a8.le.get _ _ g1
      have aZ:=fX.le a8.le
      have d3:=leX.trans a8.le
      refine cS _ _<|.l Z (fun _ _ cU _=>cJ (ys:=[num (((bg g rs).getD k .zero).i),num (((bg g rs).getD k .zero).j),aX (((bg g rs).getD k .zero).word),aX (((bg g rs).getD k .zero).u),aX (((bg g rs).getD k .zero).v)]) rfl rfl Si jv SH yi rfl U Si (fun _ h=>by cases h) aZ.own (bW (n:=1) a8.get Z) rfl rfl (by show (_ + _) * 64<=_;simp only [mH,List.length_cons,List.length_nil];(try simp only [List.length_append,List.length_cons,List.length_nil]);omega) (by simp only [mH,List.length_cons,List.length_nil];(try simp only [List.length_append,List.length_cons,List.length_nil]);omega) fun A69 eQ ap=>?_)
      rw [show ([num (((bg g rs).getD k .zero).i),num (((bg g rs).getD k .zero).j),aX (((bg g rs).getD k .zero).word),aX (((bg g rs).getD k .zero).u),aX (((bg g rs).getD k .zero).v)]:List Value)=Bz [⟨((bg g rs).getD k .zero).i,((bg g rs).getD k .zero).j,((bg g rs).getD k .zero).word,((bg g rs).getD k .zero).u,((bg g rs).getD k .zero).v⟩] from rfl,BE] at ap
      obtain ⟨b0,dd⟩:=Fresh.grow aZ d3 wfX ap
      have dV:=ap.keep n1 bV
      have bl:=ap.ne n1 a8.wf bV
      refine cU _ _ ?_
      obtain ⟨cb,bY,bM,eg,_⟩:=b0.own.slice
      subst eg
      refine Ops.l Z (fun _ _ cV _=>aM (cs:=[.slice cb bY bM]) (c':=[.slice cb bY bM]) ap.wf rfl rfl rfl rfl Tm dV (Nat.le_of_ble_eq_true rfl) rfl rfl fun A80 a9=>?_)
      have ch:=b0.keep a9.keep bl
      have bc:=al dd wfX noX a9.n a9.keep
      refine cV _ _<|.nil ?_
      have fe:=c6 ch (congrArg Bz (fK (z:=CP.zero) hk_))
      exact ⟨⟨s3.trans bc,_,a9.get,fe.base s3,bl⟩,a9.wf,cD.mono ⟨bc,wfX,fun b hb=>by rcases hb.val a9.get with rfl | q;exact noX;exact fe.lo b q⟩ s4 aE.wf⟩
  · rintro B D0 ⟨i1,v,g1,f1,n1⟩ wfB hnD hnB gD hoD hPM
    have leB:=hLM.trans i1
    have frB:=f1.base hLM
    have hDp:ji D A B [D0]:=ji.push (A:=A) ji.nil aD (by rw [hM0];exact hPM) ai ba.n hnD gD hoD
    have ev:=i1.get _ _ ad
    have bD:=i1.get _ _ ag
    have b7:=i1.get _ _ a6
    have d0:=i1.get _ _ a0
    have ez:=f1.ne V.wf ad
    have bL:=f1.ne V.wf ag
    have bp:=f1.ne V.wf a6
    have dk:=f1.ne V.wf a0
    have dj:D0 ≠ b4:=by have:=V.wf _ _ ad;have:=V.le.n;omega
    have av:D0 ≠ b9:=by have:=V.wf _ _ ag;have:=V.le.n;omega
    have ab:D0 ≠ aV:=by have:=V.wf _ _ a6;have:=V.le.n;omega
    have c4:D0 ≠ D:=by have:=ai _ _ aD;omega
    have bu:D0 ≠ a4:=by have:=V.wf _ _ a0;have:=V.le.n;omega
    have nvD:blk v ≠ some D0:=fun q=>hoD (.inr ⟨_,_,g1,q⟩)
    have hlA:A.n<=D0:=Nat.le_trans hLM.n (Nat.le_trans V.le.n hnD)
    refine dD _ _<|.seq fun K84 dW=>.region<|.q Z (ak M8 Z Z g1 Z) ?_
    obtain ⟨br,b8,aY,en,_⟩:=frB.own.slice
    subst en
    refine Ops.l Z (fun _ _ cX _=>aM (cs:=[.slice br b8 aY]) (c':=[.slice br b8 aY]) wfB rfl rfl rfl rfl Tm bD (Nat.le_of_ble_eq_true rfl) rfl rfl fun A88 a5=>?_)
    have dZ:=a5.keep _ _ ac.symm b7
    have e0:=a5.keep _ _ av gD
    have ck:=frB.keep a5.keep bL
    have di:=al leB wf bC a5.n a5.keep
    refine cX _ _<|.l Z (fun _ _ cZ _=>aM (cs:=[.bool (true)]) (c':=[.bool (true)]) a5.wf rfl rfl rfl rfl lJ dZ (Nat.le_of_ble_eq_true rfl) rfl rfl fun A98 aa=>?_)
    have cu:=aa.keep _ _ ac a5.get
    have cv:=aa.keep _ _ ab e0
    have bB:=ck.keep aa.keep bp
    have aS:=al di wf b1 aa.n aa.keep
    refine cZ _ _<|.nil<|dW _ _<|.ret ?_
    (repeat first | with_reducible refine bE ?_ | with_reducible refine bk ?_);(repeat first | with_reducible refine fa ?_ | with_reducible refine ep ?_ | with_reducible refine dX U ?_ | with_reducible refine dY ?_ | with_reducible refine dt ?_);refine ⟨[D0],rfl,(by simp),(fun E hE=>by rw [List.mem_singleton] at hE;subst hE;exact cv),[.slice br b8 aY,.bool true],fun A2 cf e4 e1=>?_⟩;have hkD:∀ b o,b ≠ D0->A98.get b=some o->A2.get b=some o:=fun b o hb h=>e1 b o (by simpa using hb) h;exact ⟨gt.cell Z (oc M8 (hkD _ _ av.symm cu) Z) (gt.cell Z (oc vm (hkD _ _ ab.symm aa.get) Z) gt.nil),_,Z,_,Z,⟨by rw [e4];exact aS.n,fun b o h=>hkD b o (by have:=wf _ _ h;omega) (aS.get _ _ h)⟩,cf,(c6 bB (congrArg Bz (List.take_length))).owk (fun b o hb h=>hkD b o (fun z=>nvD (by rw [hb,z])) h)⟩
end Go.Proofs.YtjppkekmddjcfaaGreatDoor

namespace Go.Proofs.YtjppkekmddjcfaaGreatDoor
open Go Go.RowKit V
def gy (rs:List au):List CP->Bool × CP × Nat
  | []=>(true,.zero,0)
  | p :: t=>match cy rs p.u,cy rs p.v with
    | some a,some b=>if a.word=b.word then gy rs t else (false,p,0)
    | _,_=>(false,.zero,2)
def lh (rs:List au):Bool->List Wd->Bool × Nat
  | t,[]=>(t,0)
  | t,w :: ws=>match cy rs w with
    | none=>(false,2)
    | some r=>lh rs (t && decide (r.word=[])) ws
section
variable {rs:List au} {l:List CP} {i:Nat} {R:Bool × CP × Nat}
theorem Mc (hi:l.length<=i) (h:gy rs (l.drop i)=R):R=(true,.zero,0):=by
  rw [<- h,List.drop_eq_nil_of_le hi];rfl
theorem n5 {α:Type} {l:List α} {i:Nat} {z:α} (hi:i < l.length):l.drop i=l.getD i z :: l.drop (i + 1):=by
  rw [List.drop_eq_getElem_cons hi];simp [hi]
theorem Ae (hi:i < l.length) (h:gy rs (l.drop i)=R) (q:(!(cy rs (l.getD i .zero).u).isSome)=true\/(!(cy rs (l.getD i .zero).v).isSome)=true):R=(false,.zero,2):=by
  rw [<- h,n5 (z:=CP.zero) hi,gy]
  rcases q with q | q
  · rw [oC q]
  · rw [oC q];cases cy rs (l.getD i .zero).u <;> rfl
theorem Ma (hi:i < l.length) (h:gy rs (l.drop i)=R) (q1:(!(cy rs (l.getD i .zero).u).isSome)=false) (q2:(!(cy rs (l.getD i .zero).v).isSome)=false) (hne:¬ (cI (cy rs (l.getD i .zero).u)).word=(cI (cy rs (l.getD i .zero).v)).word):R=(false,l.getD i .zero,0):=by
  rw [<- h,n5 (z:=CP.zero) hi,gy,mj q1,mj q2]
  simp only
  rw [if_neg hne]
theorem IE (hi:i < l.length) (h:gy rs (l.drop i)=R) (q1:(!(cy rs (l.getD i .zero).u).isSome)=false) (q2:(!(cy rs (l.getD i .zero).v).isSome)=false) (he:¬ ¬ (cI (cy rs (l.getD i .zero).u)).word=(cI (cy rs (l.getD i .zero).v)).word):gy rs (l.drop (i + 1))=R:=by
  rw [<- h,n5 (z:=CP.zero) hi]
  conv=>rhs;rw [gy,mj q1,mj q2]
  simp only
  rw [if_pos (Decidable.not_not.1 he)]
end
section
variable {rs:List au} {l:List Wd} {i:Nat} {t:Bool} {R:Bool × Nat}
theorem wE (hi:l.length<=i) (h:lh rs t (l.drop i)=R):R=(t,0):=by
  rw [<- h,List.drop_eq_nil_of_le hi];rfl
theorem IC (hi:i < l.length) (h:lh rs t (l.drop i)=R) (q:(!(cy rs (l.getD i [])).isSome)=true):R=(false,2):=by
  rw [<- h,n5 (z:=[]) hi,lh,oC q]
theorem uY (hi:i < l.length) (h:lh rs t (l.drop i)=R) (q:(!(cy rs (l.getD i [])).isSome)=false):lh rs (t && decide ((cI (cy rs (l.getD i []))).word=[])) (l.drop (i + 1))=R:=by
  rw [<- h,n5 (z:=[]) hi]
  conv=>rhs;rw [lh,mj q]
end
def dr (g:Int) (l:List Wd) (rs:List au):Bool × CP × Nat:=if cx g l rs then gy rs (bg g rs) else (false,.zero,100)
def mG (g:Int) (l:List Wd) (rs:List au):Bool × Nat:=if (dr g l rs).2.2=0 then (if (lh rs true l).2=0 then ((dr g l rs).1 && (lh rs true l).1,0) else (false,(lh rs true l).2)) else (false,(dr g l rs).2.2)
section
variable {g:Int} {l:List Wd} {rs:List au}
theorem Ny (h:(!cx g l rs)=true):dr g l rs=(false,.zero,100):=by simp_all [dr]
theorem Nz (h:(!cx g l rs)=false):dr g l rs=gy rs (bg g rs):=by simp_all [dr]
theorem Jn (h:¬ (dr g l rs).2.2=0):mG g l rs=(false,(dr g l rs).2.2):=by rw [mG,if_neg h]
theorem Jo (h:¬ ¬ (dr g l rs).2.2=0) (q:lh rs true l=(false,2)):mG g l rs=(false,2):=by
  rw [mG,if_pos (Decidable.not_not.1 h),q];rfl
theorem yF {t:Bool} (h:¬ ¬ (dr g l rs).2.2=0) (q:lh rs true l=(t,0)):mG g l rs=((dr g l rs).1 && t,0):=by
  rw [mG,if_pos (Decidable.not_not.1 h),q];rfl
theorem o5 (h:¬ ¬ (dr g l rs).2.2=0):cx g l rs=true:=by
  have h:=Decidable.not_not.1 h
  cases q:cx g l rs with
  | true=>rfl
  | false=>simp [dr,q] at h
theorem ri (hs:cx g l rs=true):1<=g/\g<=8:=(d5 (ir hs).1).1
theorem u7 (hs:cx g l rs=true):∀ r ∈ rs,0 < r.left.length/\r.left.length<=1000/\r.right.length<=1000:=fun r hr=>by
  have h1:=uK hs hr
  have h2:=mo hs hr
  omega
end
end Go.Proofs.YtjppkekmddjcfaaGreatDoor

namespace Go.Proofs.YtjppkekmddjcfaaGreatDoor
open Go Go.RowKit V
set_option maxRecDepth 100000
theorem Rb:eb Tryz.prog 47 3=some (9,3):=by kernel_rfl
theorem Rc:eb Tryz.prog 47 4=some (9,4):=by kernel_rfl

theorem Py (g:Int) (u:Value) (l:List (List UInt8)) (rv:Value) (rs:List au) (A:AH) (hs:cx g l rs=true) (hmx:(bg g rs).length<=50000) (hL:eF A) (hu:bJ A 1 u (dc l)) (hr:bJ A 3 rv (ci rs)) (hp:Proofs A rs):bG Tryz.prog 69 #[.agg #[num (g),u,rv]] A (fun v A1=>v=.tuple #[.bool (gy rs (bg g rs)).1,NG (gy rs (bg g rs)).2.1,num (((gy rs (bg g rs)).2.2:Nat):Int)]/\A.le A1/\A1.wf):=by
 refine iy Tryz.call69 Tryz.func69 Z Tryz.results69 Tryz.ntmps69 Z (fun wf=>?_);have gQ:=AH.le.refl A;refine ao.seq fun _ h2=>.region<|.l Z (fun _ _ gM _=>ej wf rfl rfl fun A5 b4 cC=>?_);have eQ:=gQ.trans cC.le;refine gM _ _<|.q Z (ah Z)<|.l Z (fun _ _ gN _=>ca cC.wf yi rfl fun A10 b9 aA=>?_);have aC:=aL wf (Nat.le_trans eQ.n aA.lo);have eA:=aA.le.get _ _ cC.get;have az:=eQ.trans aA.le;refine gN _ _<|.q Z (ah Z)<|.nil<|h2 _ _<|.seq fun _ gc=>.region<|.q Z (am dn cT Z Z eA Z)<|.l Z (fun _ _ fD _=>aK Z (z7 ((g)) u l rv rs A10 (ri hs) (ls hs) (u7 hs) hmx (hL.le az) (hu.le az) (hr.le az) (hp.le az)) ?_);rintro hc A18 ⟨bb,rfl,b5,gY,br⟩;have eC:=b5.get _ _ eA;have eG:=b5.get _ _ aA.get;have aR:=az.trans b5;have bR:=br.base az;have fV:=br.ne aA.wf aA.get;refine fD _ _<|.q Z (ae Z)<|.q Z (bf Z Z)<|.q Z (bf Z Z)<|.q Z (ah Z)<|.q Z (ah Z)<|.nil<|gc _ _<|.seq fun _ ge=>.seq fun _ gf=>?_;refine ao.region<|.q Z (ae Z)<|.q Z (eE Z)<|.nil<|gf _ _<|.cond_false Z<|.skip<|ge _ _<|.seq fun _ gg=>.region ?_;refine Ops.q Z (am dn cT Z Z eC Z)<|.l Z (fun _ _ fE _=>aK Z (jU ((g)) u l rv rs A18 (ls hs) (oL hs) (hu.le aR) (hr.le aR) (hp.le aR)) ?_);rintro hd A34 ⟨h,b7,rfl,b6,ab,b2,aa,aP,dk⟩;have gl:=b6.get _ _ eG;have bS:=bR.le b6;have fR:=aR.trans b6;have hrow:=b2;have hno:=aa;have hix:=aP;have hM:=dk;have ea:b4 ≠ h:=fun z=>by have q0:=eC;rw [z,aa] at q0;cases q0
 have ar:b9 ≠ h:=fun z=>by have q0:=eG;rw [z,aa] at q0;cases q0
 have b1:=mW aR aa;have fX:=qk bR.own aa;refine fE _ _<|.q Z (ah Z)<|.nil<|gg _ _<|.seq fun _ gm=>.seq fun _ gp=>.region<|.q Z (ae Z)<|.q Z (bH (n:=(bg ((g)) rs).length) Si Z bS.slc O (DM _))<|.q Z (ae Z) ?_;refine Ops.nil<|gp _ _<|.block<|.loop (X:=Nat × Value × Value × Value × Value × Value × Value) (fun ⟨i,y0,y5,y6,y7,y8,y9⟩=>[(3,.pointer (some ⟨b9,0,none⟩)),(7,.pointer (some ⟨h,0,none⟩)),(24,bb),(25,num (((bg ((g)) rs).length:Nat):Int)),(26,num ((i:Nat):Int))]) (fun ⟨i,y0,y5,y6,y7,y8,y9⟩ B=>(i<=(bg g rs).length/\gy rs ((bg g rs).drop i)=gy rs (bg g rs))/\A.le B/\Fresh A B bb 5 (Bz (bg ((g)) rs))/\B.get h=some (.row true [y0,num ((g)),u,rv,.map (some b7),y5,y6,y7,y8,y9] 10)/\B.get b9=some (.row true [num ((0:Nat):Int),num ((0:Nat):Int),aX ([]),aX ([]),aX ([])] 5)/\V.blk bb ≠ some h/\V.blk bb ≠ some b9/\(A34.hide [some h]).le B) (fun ⟨i,y0,y5,y6,y7,y8,y9⟩=>(bg g rs).length - i) (⟨0,.slice none 0 0,.slice none 0 0,num ((0:Nat):Int),aX ([]),num ((0:Nat):Int),.slice none 0 0⟩) (rn Z Z Z Z Z) (⟨⟨Nat.zero_le _,Z⟩,fR,bS,b2,gl,fX,fV,(cM A34 [some h])⟩) ?_;rintro ⟨i,y0,y5,y6,y7,y8,y9⟩ B46 ⟨⟨hi,hsc⟩,bm,a9,aB,ay,a2,aV,bu⟩;refine ao.wf fun aY=>.seq fun _ gq=>.region<|.q Z (cA Z Z)<|.nil<|gq _ _<|.seq fun _ gs=>.if rfl (fun gS=>?_) (fun gS=>?_)
 ·refine ao.skip<|gs _ _<|.seq fun _ gA=>.block<|.seq fun _ gC=>.region ?_;obtain ⟨h5,h8,h3,hb,h1,ha,h9,g8,gP,g9,eS,h0⟩:=bJ.at (i:=i) a9.slc (by simp only [mH];omega) O;refine Ops.q Z (aJ Si jv Z g8 Z gP)<|.q Z (am sH jv Z Z g9 (eS.trans (congrArg some (QM O))))<|.l Z (fun _ _ fI _=>ca aY yi rfl fun A60 h6 a4=>?_);have a5:=ne_new aY aB a4.lo;have bc:=ne_new aY ay a4.lo;have g0:=a9.own.ne_new aY a4.lo;have bU:=aL wf (Nat.le_trans bm.n a4.lo);have bY:=aL (cr ab) (Nat.le_trans bu.n a4.lo);have gD:=a4.le.get _ _ aB;have gE:=a4.le.get _ _ ay;have eT:=a9.le a4.le;have fS:=bm.trans a4.le;have fO:=bu.trans a4.le;refine fI _ _<|.l Z (fun _ _ fL _=>aM (cs:=[num (((bg ((g)) rs).getD i .zero).i),num (((bg ((g)) rs).getD i .zero).j),aX (((bg ((g)) rs).getD i .zero).word),aX (((bg ((g)) rs).getD i .zero).u),aX (((bg ((g)) rs).getD i .zero).v)]) (c':=[num (((bg ((g)) rs).getD i .zero).i),num (((bg ((g)) rs).getD i .zero).j),aX (((bg ((g)) rs).getD i .zero).word),aX (((bg ((g)) rs).getD i .zero).u),aX (((bg ((g)) rs).getD i .zero).v)]) a4.wf rfl rfl rfl rfl jv a4.get (Nat.le_of_ble_eq_true rfl) rfl rfl fun A69 a6=>?_);have gF:=a6.keep _ _ a5 gD;have gG:=a6.keep _ _ bc gE;have eV:=eT.keep a6.keep g0;have fQ:=al fO (cr ab) bY a6.n a6.keep;have fT:=al fS wf bU a6.n a6.keep;refine fL _ _<|.nil<|gC _ _<|.seq fun _ gL=>.region<|.q Z (ae Z)<|.q Z (aj Rb fz U Z)<|.q Z (ak gz Z Z a6.get Z) ?_;have aS:=cg (bs:=[some h]) fT (qz b1 nf);have ch:=cg (bs:=[some h]) fQ (qz (cn (by simp)) nf);refine Ops.l Z (fun _ _ fM _=>aK Z (po (((bg ((g)) rs).getD i .zero).u) rs l h (((g))) u rv b7 y0 y5 y6 y7 y8 y9 (A69.hide [some h]) A69 (cM A69 [some h]) (cr a6.wf) gF (cn (by simp)) hs (hL.le aS) (hr.le aS) (hp.le aS) (aP.le ch)) ?_);rintro he A80 ⟨gX,eg,en,ev,ex,ey,ez,rfl,ap,av,ag,bC,cF⟩;have ft:=bF (bs:=[some h]) gG (lQ ar ka);have eL:=ap.get _ _ ft;have fv:=bF (bs:=[some h]) a6.get (lQ a5.symm ka);have eN:=ap.get _ _ fv;have bT:=eV.off (gJ a2 fW) ap;have eX:=bC.base aS;have ck:=ch.trans ap;have cB:=aS.trans ap;refine fM _ _<|.q Z (ae Z)<|.q Z (bf Z Z)<|.q Z (bf Z Z)<|.l Z (fun _ _ fN _=>ca av AN rfl fun A97 h7 a1=>?_);have ad:=ne_new av ag a1.lo;have bd:=ne_new av eL a1.lo;have b8:=ne_new av eN a1.lo;have g1:=bT.own.ne_new av a1.lo;have bV:=aL wf (Nat.le_trans cB.n a1.lo);have c3:=aL (cr ab) (Nat.le_trans ck.n a1.lo);have eY:=a1.le.get _ _ ag;have eZ:=a1.le.get _ _ eL;have f0:=a1.le.get _ _ eN;have d0:=bT.le a1.le;have d1:=eX.le a1.le;have e2:=cB.trans a1.le;have dW:=ck.trans a1.le;refine fN _ _ ?_;obtain ⟨cH,cu,bO,g5,_⟩:=d1.own.slice;subst g5;refine Ops.l Z (fun _ _ dD _=>aM (cs:=[aX ((cI (cy rs (((bg ((g)) rs).getD i .zero).u))).word),num (((cI (cy rs (((bg ((g)) rs).getD i .zero).u))).steps:Nat):Int),.slice cH cu bO]) (c':=[aX ((cI (cy rs (((bg ((g)) rs).getD i .zero).u))).word),num (((cI (cy rs (((bg ((g)) rs).getD i .zero).u))).steps:Nat):Int),.slice cH cu bO]) a1.wf rfl rfl rfl rfl ie a1.get (Nat.le_of_ble_eq_true rfl) rfl rfl fun A110 a3=>?_);have f1:=a3.keep _ _ ad eY;have f2:=a3.keep _ _ bd eZ;have c4:=a3.keep _ _ b8 f0;have d2:=d0.keep a3.keep g1;have dZ:=al dW (cr ab) c3 a3.n a3.keep;have e3:=al e2 wf bV a3.n a3.keep;refine dD _ _<|.q Z (ah Z)<|.nil<|gL _ _<|.seq fun _ f3=>.region<|.q Z (ae Z)<|.q Z (aj Rc fz U Z)<|.q Z (ak gz Z Z c4 Z) ?_;have ai:=cg (bs:=[some h]) e3 (qz b1 nf);have bv:=cg (bs:=[some h]) dZ (qz (cn (by simp)) nf);refine Ops.l Z (fun _ _ dG _=>aK Z (po (((bg ((g)) rs).getD i .zero).v) rs l h (((g))) u rv b7 eg en ev ex ey ez (A110.hide [some h]) A110 (cM A110 [some h]) (cr a3.wf) f1 (cn (by simp)) hs (hL.le ai) (hr.le ai) (hp.le ai) (aP.le bv)) ?_);rintro h4 A123 ⟨g7,cP,cS,cU,cV,cX,cZ,rfl,a7,a8,ac,bl,bM⟩;have dv:=bF (bs:=[some h]) f2 (lQ ar ka);have c7:=a7.get _ _ dv;have dw:=bF (bs:=[some h]) c4 (lQ a5.symm ka);have cb:=a7.get _ _ dw;have dz:=bF (bs:=[some h]) a3.get (lQ ad.symm ka);have cc:=a7.get _ _ dz;have bp:=d2.off (gJ a2 fW) a7;have d3:=bl.base ai;have bA:=bv.trans a7;have bB:=ai.trans a7;refine dG _ _<|.q Z (ae Z)<|.q Z (bf Z Z)<|.q Z (bf Z Z)<|.l Z (fun _ _ dI _=>ca a8 AN rfl fun A145 gZ D=>?_);have aT:=ne_new a8 ac D.lo;have ba:=ne_new a8 c7 D.lo;have aZ:=ne_new a8 cb D.lo;have b0:=ne_new a8 cc D.lo;have ec:=bp.own.ne_new a8 D.lo;have bD:=aL wf (Nat.le_trans bB.n D.lo);have bL:=aL (cr ab) (Nat.le_trans bA.n D.lo);have f4:=D.le.get _ _ ac;have f6:=D.le.get _ _ c7;have f7:=D.le.get _ _ cb;have f9:=D.le.get _ _ cc;have dd:=bp.le D.le;have di:=d3.le D.le;have e4:=bB.trans D.le;have e0:=bA.trans D.le;refine dI _ _ ?_;obtain ⟨cK,cv,bP,g6,_⟩:=di.own.slice;subst g6;refine Ops.l Z (fun _ _ dJ _=>aM (cs:=[aX ((cI (cy rs (((bg ((g)) rs).getD i .zero).v))).word),num (((cI (cy rs (((bg ((g)) rs).getD i .zero).v))).steps:Nat):Int),.slice cK cv bP]) (c':=[aX ((cI (cy rs (((bg ((g)) rs).getD i .zero).v))).word),num (((cI (cy rs (((bg ((g)) rs).getD i .zero).v))).steps:Nat):Int),.slice cK cv bP]) D.wf rfl rfl rfl rfl ie D.get (Nat.le_of_ble_eq_true rfl) rfl rfl fun A161 a0=>?_);have fd:=a0.keep _ _ aT f4;have b3:=a0.keep _ _ ba f6;have fe:=a0.keep _ _ aZ f7;have fi:=a0.keep _ _ b0 f9;have dj:=dd.keep a0.keep ec;have e1:=al e0 (cr ab) bL a0.n a0.keep;have aD:=al e4 wf bD a0.n a0.keep;refine dJ _ _<|.q Z (ah Z)<|.nil<|f3 _ _<|.seq fun _ fl=>.seq fun _ cf=>.region<|.q Z (ae Z)<|.q Z (eE Z)<|.q Z (ae Z) ?_;refine Ops.partB (t:=46) Z (fun g2=>?_) (fun g2=>?_)
  ·refine Ops.off Z Z Z Z<|.off Z Z Z Z<|.q Z (bi Z Z)<|.nil<|cf _ _<|.cond_true Z<|.seq fun _ fm=>.region<|.q Z (cR Z (aU R0 yi Cz Z))<|.q Z (ah Z) ?_;refine Ops.l Z (fun _ _ dK _=>aM (cs:=[num ((0:Nat):Int),num ((0:Nat):Int),aX ([]),aX ([]),aX ([])]) (c':=[num ((0:Nat):Int),num ((0:Nat):Int),aX ([]),aX ([]),aX ([])]) a0.wf rfl rfl rfl rfl jv b3 (Nat.le_of_ble_eq_true rfl) rfl rfl fun A180 aE=>?_);have e5:=al aD wf aC aE.n aE.keep;refine dK _ _<|.q Z (ah Z)<|.nil<|fm _ _<|.ret ?_;repeat first | with_reducible refine bE ?_ | with_reducible refine bk ?_
   exact be (ei Z (dE sH jv Z aE.get Z (ei Z eh))) (⟨by (rw [Ae O hsc (by first | exact .inl ‹_› | exact .inr ‹_›)];rfl),e5,aE.wf⟩)
  refine Ops.on Z Z<|.q Z (ae Z)<|.on Z Z<|.q Z (eE Z)<|.q Z (bw Z Z)<|.nil<|cf _ _<|.ifB Z (fun g3=>?_) (fun g3=>?_)
  ·refine ao.seq fun _ fn=>.region<|.q Z (cR Z (aU R0 yi Cz Z))<|.q Z (ah Z)<|.l Z (fun _ _ dO _=>aM (cs:=[num ((0:Nat):Int),num ((0:Nat):Int),aX ([]),aX ([]),aX ([])]) (c':=[num ((0:Nat):Int),num ((0:Nat):Int),aX ([]),aX ([]),aX ([])]) a0.wf rfl rfl rfl rfl jv b3 (Nat.le_of_ble_eq_true rfl) rfl rfl fun A194 aF=>?_);have e6:=al aD wf aC aF.n aF.keep;refine dO _ _<|.q Z (ah Z)<|.nil<|fn _ _<|.ret ?_;repeat first | with_reducible refine bE ?_ | with_reducible refine bk ?_
   exact be (ei Z (dE sH jv Z aF.get Z (ei Z eh))) (⟨by (rw [Ae O hsc (by first | exact .inl ‹_› | exact .inr ‹_›)];rfl),e6,aF.wf⟩)
  refine ao.skip<|fl _ _<|.seq fun _ fo=>.region<|.q Z (aj mL fz U Z)<|.q Z (ak gz Z Z fi Z)<|.q Z (aj mL fz U Z)<|.q Z (ak gz Z Z a0.get Z)<|.q Z (oA Z Z)<|.nil ?_;refine fo _ _<|.if rfl (fun g4=>?_) (fun g4=>?_)
  ·refine ao.seq fun _ fq=>.drawn [0,1,2,3] mixed Y Y Z<|.q Z Z Z (am sH jv Z Z fe Z)<|.q Z Z Z (ah Z)<|.l Z Z Z (fun _ _ dS _=>aM (cs:=[num (((bg ((g)) rs).getD i .zero).i),num (((bg ((g)) rs).getD i .zero).j),aX (((bg ((g)) rs).getD i .zero).word),aX (((bg ((g)) rs).getD i .zero).u),aX (((bg ((g)) rs).getD i .zero).v)]) (c':=[num (((bg ((g)) rs).getD i .zero).i),num (((bg ((g)) rs).getD i .zero).j),aX (((bg ((g)) rs).getD i .zero).word),aX (((bg ((g)) rs).getD i .zero).u),aX (((bg ((g)) rs).getD i .zero).v)]) a0.wf rfl rfl rfl rfl jv b3 (Nat.le_of_ble_eq_true rfl) rfl rfl fun A215 aG=>?_);have e7:=al aD wf aC aG.n aG.keep;refine dS _ _ (aO.none Y)<|.q Z Z Z (ah Z)<|.done<|fq _ _<|.ret ?_;repeat first | with_reducible refine bE ?_ | with_reducible refine bk ?_
   exact be (ei Z (dE sH jv Z aG.get Z (ei Z eh))) (⟨by (rw [Ma O hsc ‹_› ‹_› ‹_›];rfl),e7,aG.wf⟩)
  refine ao.skip<|gA _ _<|.region<|.q Z (bN (b:=1) Z Z O)<|.q Z (ae Z)<|.nil ?_;exact ⟨⟨i + 1,cP,cS,cU,cV,cX,cZ⟩,rn Z Z Z Z Z,Z,⟨⟨by omega,IE O hsc ‹_› ‹_› ‹_›⟩,aD,dj,fd,b3,a2,aV,e1⟩,O1⟩
 refine ao.exit<|gm _ _<|.seq fun _ fr=>.region<|.q Z (cR Z (aU R0 yi Cz Z))<|.q Z (ah Z)<|.l Z (fun _ _ dV _=>aM (cs:=[num ((0:Nat):Int),num ((0:Nat):Int),aX ([]),aX ([]),aX ([])]) (c':=[num ((0:Nat):Int),num ((0:Nat):Int),aX ([]),aX ([]),aX ([])]) aY rfl rfl rfl rfl jv ay (Nat.le_of_ble_eq_true rfl) rfl rfl fun A228 aI=>?_);have e9:=al bm wf aC aI.n aI.keep;refine dV _ _<|.q Z (ah Z)<|.nil<|fr _ _<|.ret ?_;repeat first | with_reducible refine bE ?_ | with_reducible refine bk ?_
 exact be (ei Z (dE sH jv Z aI.get Z (ei Z eh))) (⟨by (rw [Mc O hsc];rfl),e9,aI.wf⟩)

theorem ra (g:Int) (u:Value) (l:List (List UInt8)) (rv:Value) (rs:List au) (A:AH) (hn:l.length<=9223372036854775807) (hm:rs.length<=9223372036854775807) (hmx:cx g l rs=true->(bg g rs).length<=50000) (hL:eF A) (hu:bJ A 1 u (dc l)) (hr:bJ A 3 rv (ci rs)) (hp:Proofs A rs):bG Tryz.prog 28 #[.agg #[num (g),u,rv]] A (fun v A1=>v=.tuple #[.bool (dr g l rs).1,NG (dr g l rs).2.1,num (((dr g l rs).2.2:Nat):Int)]/\A.le A1/\A1.wf):=by
 refine iy Tryz.call28 Tryz.func28 Z Tryz.results28 Tryz.ntmps28 Z (fun wf=>?_);have aE:=AH.le.refl A;refine ao.seq fun _ h2=>.region<|.l Z (fun _ _ aC _=>ej wf rfl rfl fun A5 b4 a4=>?_);have a9:=aE.trans a4.le;refine aC _ _<|.q Z (ah Z)<|.l Z (fun _ _ aD _=>ca a4.wf yi rfl fun A10 b9 X=>?_);have a2:=aL wf (Nat.le_trans a9.n X.lo);have a7:=X.le.get _ _ a4.get;have D:=a9.trans X.le;refine aD _ _<|.q Z (ah Z)<|.nil<|h2 _ _<|.seq fun _ ar=>.seq fun _ av=>.region<|.q Z (am dn cT Z Z a7 Z)<|.l Z (fun _ _ aa _=>aK Z (i3 ((g)) u l rv rs A10 hn hm (hL.le D) (hu.le D) (hr.le D) (hp.le D)) ?_);rintro aG A20 ⟨rfl,V,a5⟩;have ay:=V.get _ _ a7;have a8:=V.get _ _ X.get;have h:=D.trans V;refine aa _ _<|.q Z (eE Z)<|.nil<|av _ _<|.ifB Z (fun aF=>?_) (fun aF=>?_)
 ·refine ao.seq fun _ az=>.region<|.q Z (cR Z (aU R0 yi Cz Z))<|.q Z (ah Z)<|.l Z (fun _ _ ab _=>aM (cs:=[num ((0:Nat):Int),num ((0:Nat):Int),aX ([]),aX ([]),aX ([])]) (c':=[num ((0:Nat):Int),num ((0:Nat):Int),aX ([]),aX ([]),aX ([])]) a5 rfl rfl rfl rfl jv a8 (Nat.le_of_ble_eq_true rfl) rfl rfl fun A29 a0=>?_);have ag:=al h wf a2 a0.n a0.keep;refine ab _ _<|.q Z (ah Z)<|.nil<|az _ _<|.ret ?_;repeat first | with_reducible refine bE ?_ | with_reducible refine bk ?_
  exact be (ei Z (dE sH jv Z a0.get Z (ei Z eh))) (⟨by (rw [Ny ‹_›];rfl),ag,a0.wf⟩)
 refine ao.skip<|ar _ _<|.seq fun _ aA=>.region<|.q Z (am dn cT Z Z ay Z)<|.l Z (fun _ _ ac _=>aK Z (Py ((g)) u l rv rs A20 (by simpa using ‹(!cx g l rs)=false›) (hmx (by simpa using ‹(!cx g l rs)=false›)) (hL.le h) (hu.le h) (hr.le h) (hp.le h)) ?_);rintro aI A37 ⟨rfl,a3,a6⟩;have aB:=a3.get _ _ a8;have ai:=h.trans a3;refine ac _ _<|.q Z (bf Z Z)<|.q Z (bf Z Z)<|.q Z (bf Z Z)<|.q Z (ah Z)<|.l Z (fun _ _ ad _=>aM (cs:=[num ((gy rs (bg ((g)) rs)).2.1.i),num ((gy rs (bg ((g)) rs)).2.1.j),aX ((gy rs (bg ((g)) rs)).2.1.word),aX ((gy rs (bg ((g)) rs)).2.1.u),aX ((gy rs (bg ((g)) rs)).2.1.v)]) (c':=[num ((gy rs (bg ((g)) rs)).2.1.i),num ((gy rs (bg ((g)) rs)).2.1.j),aX ((gy rs (bg ((g)) rs)).2.1.word),aX ((gy rs (bg ((g)) rs)).2.1.u),aX ((gy rs (bg ((g)) rs)).2.1.v)]) a6 rfl rfl rfl rfl jv aB (Nat.le_of_ble_eq_true rfl) rfl rfl fun A43 a1=>?_);have ap:=al ai wf a2 a1.n a1.keep;refine ad _ _<|.q Z (ah Z)<|.nil<|aA _ _<|.ret ?_;repeat first | with_reducible refine bE ?_ | with_reducible refine bk ?_
 exact be (ei Z (dE sH jv Z a1.get Z (ei Z eh))) (⟨by (rw [Nz ‹_›];rfl),ap,a1.wf⟩)

theorem ED (g:Int) (u:Value) (l:List (List UInt8)) (rv:Value) (rs:List au) (A:AH) (hn:l.length<=9223372036854775807) (hm:rs.length<=9223372036854775807) (hmx:cx g l rs=true->(bg g rs).length<=50000) (hL:eF A) (hu:bJ A 1 u (dc l)) (hr:bJ A 3 rv (ci rs)) (hp:Proofs A rs):bG Tryz.prog 30 #[.agg #[num (g),u,rv]] A (fun v A1=>v=.tuple #[.bool (mG g l rs).1,num (((mG g l rs).2:Nat):Int)]/\A.le A1/\A1.wf):=by
 refine iy Tryz.call30 Tryz.func30 Z Tryz.results30 Tryz.ntmps30 Z (fun wf=>?_);have cZ:=AH.le.refl A;refine ao.seq fun _ h2=>.region<|.l Z (fun _ _ cV _=>ej wf rfl rfl fun A5 b4 b5=>?_);have ab:=cZ.trans b5.le;refine cV _ _<|.q Z (ah Z)<|.q Z (ah Z)<|.nil<|h2 _ _<|.seq fun _ h9=>.region<|.q Z (am dn cT Z Z b5.get Z)<|.l Z (fun _ _ bB _=>aK Z (ra ((g)) u l rv rs A5 hn hm hmx (hL.le ab) (hu.le ab) (hr.le ab) (hp.le ab)) ?_);rintro dK A12 ⟨rfl,ai,ay⟩;have bc:=ai.get _ _ b5.get;have b1:=ab.trans ai;refine bB _ _<|.q Z (ae Z)<|.q Z (bf Z Z)<|.q Z (bf Z Z)<|.q Z (bf Z Z)<|.l Z (fun _ _ bC _=>ca ay yi rfl fun A18 bV a3=>?_);have ac:=ne_new ay bc a3.lo;have aR:=aL wf (Nat.le_trans b1.n a3.lo);have c4:=a3.le.get _ _ bc;have bS:=b1.trans a3.le;refine bC _ _<|.q Z (ah Z)<|.l Z (fun _ _ bD _=>aM (cs:=[num ((dr ((g)) l rs).2.1.i),num ((dr ((g)) l rs).2.1.j),aX ((dr ((g)) l rs).2.1.word),aX ((dr ((g)) l rs).2.1.u),aX ((dr ((g)) l rs).2.1.v)]) (c':=[num ((dr ((g)) l rs).2.1.i),num ((dr ((g)) l rs).2.1.j),aX ((dr ((g)) l rs).2.1.word),aX ((dr ((g)) l rs).2.1.u),aX ((dr ((g)) l rs).2.1.v)]) a3.wf rfl rfl rfl rfl jv a3.get (Nat.le_of_ble_eq_true rfl) rfl rfl fun A23 a5=>?_);have aV:=a5.keep _ _ ac c4;have a2:=al bS wf aR a5.n a5.keep;refine bD _ _<|.q Z (ah Z)<|.nil<|h9 _ _<|.seq fun _ c7=>.seq fun _ cb=>.region<|.q Z (ae Z)<|.q Z (fF (b:=0) Z Z)<|.nil ?_;refine cb _ _<|.if rfl (fun d0=>?_) (fun d0=>?_)
 ·refine ao.seq fun _ cc=>.region<|.q Z (ae Z)<|.q Z (ah Z)<|.q Z (ah Z)<|.nil<|cc _ _<|.rt (by exact be Z (⟨by (rw [Jn ‹_›];rfl),a2,a5.wf⟩))
 refine ao.skip<|c7 _ _<|.seq fun _ cf=>.region<|.q Z (am dn cT Z Z aV Z)<|.l Z (fun _ _ bL _=>aK Z (jU ((g)) u l rv rs A23 (ls (o5 ‹_›)) (oL (o5 ‹_›)) (hu.le a2) (hr.le a2) (hp.le a2)) ?_);rintro dO A38 ⟨h,av,rfl,ap,az,a7,a0,a9,b8⟩;have ch:=ap.get _ _ aV;have b2:=a2.trans ap;have hrow:=a7;have hno:=a0;have hix:=a9;have hM:=b8;have ba:b4 ≠ h:=fun z=>by have q0:=aV;rw [z,a0] at q0;cases q0
 have b7:bV ≠ h:=fun z=>by have q0:=a5.get;rw [z,a0] at q0;cases q0
 have aP:=mW a2 a0;refine bL _ _<|.q Z (ah Z)<|.nil<|cf _ _<|.seq fun _ ck=>.region<|.q Z (ah Z)<|.nil<|ck _ _<|.seq fun _ cu=>?_;refine ao.seq fun _ cv=>.region<|.q Z (aj fH iA U Z)<|.q Z (aj go ms U Z)<|.q Z (ak lU Z Z ch Z)<|.q Z (bH (n:=l.length) kh Z (hu.le b2) O (eJ _))<|.q Z (ae Z)<|.nil<|cv _ _<|.block ?_;refine ao.loop (X:=Nat × Bool × Value × Value × Value × Value × Value × Value) (fun ⟨i,t,y0,y5,y6,y7,y8,y9⟩=>[(4,.bool ((dr ((g)) l rs).1)),(7,.pointer (some ⟨h,0,none⟩)),(8,.bool (t)),(26,u),(27,num ((l.length:Nat):Int)),(28,num ((i:Nat):Int))]) (fun ⟨i,t,y0,y5,y6,y7,y8,y9⟩ B=>(i<=l.length/\lh rs t (l.drop i)=lh rs true l)/\A.le B/\B.get h=some (.row true [y0,num ((g)),u,rv,.map (some av),y5,y6,y7,y8,y9] 10)/\(A38.hide [some h]).le B) (fun ⟨i,t,y0,y5,y6,y7,y8,y9⟩=>l.length - i) (⟨0,true,.slice none 0 0,.slice none 0 0,num ((0:Nat):Int),aX ([]),num ((0:Nat):Int),.slice none 0 0⟩) (DR Z Z Z Z Z Z) (⟨⟨Nat.zero_le _,Z⟩,b2,a7,(cM A38 [some h])⟩) ?_;rintro ⟨i,t,y0,y5,y6,y7,y8,y9⟩ B50 ⟨⟨hi,hsc⟩,a8,aa,b9⟩;refine ao.wf fun ag=>.seq fun _ cB=>.region<|.q Z (cA Z Z)<|.nil<|cB _ _<|.seq fun _ cC=>.if rfl (fun d1=>?_) (fun d1=>?_)
 ·refine ao.skip<|cC _ _<|.seq fun _ bd=>.block<|.seq fun _ cF=>.region ?_;obtain ⟨dw,dD,dv,dJ,dk,dI,dG,bY,cX,c3,dj,bu⟩:=bJ.at (i:=i) (hu.le a8) Ow O;refine Ops.q Z (aJ kh fz Z bY Z cX)<|.q Z (ak gz Z Z c3 ((dh bu).trans (f5 O)))<|.q Z (ah Z)<|.nil<|cF _ _<|.seq fun _ cH=>.region<|.q Z (ae Z)<|.q Z (ae Z) ?_;have a4:=cg (bs:=[some h]) a8 (qz aP nf);have aY:=cg (bs:=[some h]) b9 (qz (cn (by simp)) nf);refine Ops.l Z (fun _ _ bM _=>aK Z (po (l.getD i []) rs l h (((g))) u rv av y0 y5 y6 y7 y8 y9 (B50.hide [some h]) B50 (cM B50 [some h]) (cr ag) aa (cn (by simp)) (o5 ‹_›) (hL.le a4) (hr.le a4) (hp.le a4) (a9.le aY)) ?_);rintro dS A66 ⟨di,aB,aC,aD,aE,aF,aG,rfl,ar,aA,a1,aI,b6⟩;have bv:=aI.base a4;have aZ:=aY.trans ar;have b3:=a4.trans ar;refine bM _ _<|.q Z (ae Z)<|.q Z (bf Z Z)<|.q Z (bf Z Z)<|.l Z (fun _ _ bO _=>ca aA AN rfl fun A75 dz D=>?_);have a6:=ne_new aA a1 D.lo;have aS:=aL wf (Nat.le_trans b3.n D.lo);have aT:=aL (cr az) (Nat.le_trans aZ.n D.lo);have cK:=D.le.get _ _ a1;have bA:=bv.le D.le;have bT:=b3.trans D.le;have bR:=aZ.trans D.le;refine bO _ _ ?_;obtain ⟨br,bp,bb,dd,_⟩:=bA.own.slice;subst dd;refine Ops.l Z (fun _ _ bP _=>aM (cs:=[aX ((cI (cy rs (l.getD i []))).word),num (((cI (cy rs (l.getD i []))).steps:Nat):Int),.slice br bp bb]) (c':=[aX ((cI (cy rs (l.getD i []))).word),num (((cI (cy rs (l.getD i []))).steps:Nat):Int),.slice br bp bb]) D.wf rfl rfl rfl rfl ie D.get (Nat.le_of_ble_eq_true rfl) rfl rfl fun A84 V=>?_);have bl:=V.keep _ _ a6 cK;have b0:=al bR (cr az) aT V.n V.keep;have ad:=al bT wf aS V.n V.keep;refine bP _ _<|.q Z (ah Z)<|.nil<|cH _ _<|.seq fun _ cP=>.seq fun _ cS=>.region<|.q Z (ae Z)<|.q Z (eE Z)<|.nil ?_;refine cS _ _<|.ifB Z (fun d2=>?_) (fun d2=>?_)
  ·refine ao.seq fun _ cU=>.region<|.q Z (ah Z)<|.q Z (ah Z)<|.nil<|cU _ _<|.rt (by exact be Z (⟨by (rw [Jo ‹_› (IC O hsc ‹_›)];rfl),ad,V.wf⟩))
  refine ao.skip<|cP _ _<|.region<|.q Z (ae Z)<|.q Z (ae Z)<|.partB (t:=41) Z (fun d3=>?_) (fun d3=>?_)
  ·refine Ops.on Z Z<|.q Z (aj mL fz U Z)<|.on Z Z<|.q Z (ak gz Z Z V.get Z)<|.on Z Z<|.q Z (qQ Z Z)<|.q Z (bi Z Z)<|.q Z (ah Z)<|.nil<|bd _ _ ?_;refine ao.region<|.q Z (bN (b:=1) Z Z O)<|.q Z (ae Z)<|.nil ?_;exact ⟨⟨i + 1,decide ((cI (cy rs (l.getD i []))).word=[]),aB,aC,aD,aE,aF,aG⟩,DR Z Z Z Z Z Z,Z,⟨⟨by omega,by have:=uY O hsc ‹_›;simp_all⟩,ad,bl,b0⟩,O1⟩
  refine Ops.off Z Z Z Z<|.off Z Z Z Z<|.off Z Z Z Z<|.q Z (bw Z Z)<|.q Z (ah Z)<|.nil<|bd _ _<|.region<|.q Z (bN (b:=1) Z Z O)<|.q Z (ae Z) ?_;refine Ops.nil ?_;exact ⟨⟨i + 1,false,aB,aC,aD,aE,aF,aG⟩,DR Z Z Z Z Z Z,Z,⟨⟨by omega,by have:=uY O hsc ‹_›;simp_all⟩,ad,bl,b0⟩,O1⟩
 refine ao.exit<|cu _ _<|.seq fun _ bm=>.region<|.q Z (ae Z)<|.q Z (ae Z)<|.partB (t:=48) Z (fun bU=>?_) (fun bU=>?_)
 ·refine Ops.on Z Z<|.q Z (ae Z)<|.q Z (bi Z Z)<|.q Z (ah Z)<|.q Z (ah Z)<|.nil<|bm _ _<|.rt (by exact be Z (⟨by (rw [yF ‹_› (wE O hsc)];simp_all [fg]),a8,ag⟩))
 refine Ops.off Z Z Z Z<|.q Z (bw Z Z)<|.q Z (ah Z)<|.q Z (ah Z)<|.nil<|bm _ _<|.rt (by exact be Z (⟨by (rw [yF ‹_› (wE O hsc)];simp_all [fg]),a8,ag⟩))
end Go.Proofs.YtjppkekmddjcfaaGreatDoor

namespace Go.Proofs.YtjppkekmddjcfaaGreatDoor
open Go Go.RowKit V
def em (l:List Value):List Value:=l
theorem cw (l:List Value):(em l).length=l.length:=rfl
theorem iO (l:List Value):(em l).length=l.length * 1:=by simp [em]
theorem eH {l:List Value} {i:Nat} (h:i < l.length):(em l)[i]? = some (l.getD i undef):=by simp [em,h]
theorem oB (a b:List Value):em a ++ em b=em (a ++ b):=rfl
theorem KX (a:List Value) (n:Nat) (c:Value):(em a).set n c=em (a.set n c):=rfl
structure fP {α:Type} (kk:Nat) (f:List α->List Value) (A0 A:AH) (rows:List Value) (L:List (List α)):Prop where
  len:rows.length=L.length
  fr:∀ i,i < L.length->Fresh A0 A (rows.getD i undef) kk (f (L.getD i []))
  sp:∀ i j,i < L.length->j < L.length->i ≠ j->bh (rows.getD i undef) (rows.getD j undef)
abbrev kg (A0 A:AH) (rows:List Value) (L:List (List Int)):Prop:=fP 1 c9 A0 A rows L
def bI (rows:List Value) (b:Nat):Prop:=∀ r ∈ rows,blk r ≠ some b
def aq (v:Value) (rows:List Value):Prop:=∀ r ∈ rows,bh v r
theorem lD {A0 A:AH} {rows:List Value} {L L':List (List Int)} (h:kg A0 A rows L) (e:L=L'):kg A0 A rows L':=e ▸ h
theorem _root_.Go.Proofs.YtjppkekmddjcfaaGreatDoor.V.Fresh.at1 {A0 A:AH} {v:Value} {xs:List Value} {x:Nat} (fr:Fresh A0 A v 1 xs) (hx:x < xs.length):∃ b n c r rcap,v=.slice (some ⟨b,0,none⟩) n c/\n=xs.length/\A.get b=some (.row true r rcap)/\x < r.length/\A0.get b=none/\r.take n=xs /\
    ∀ (w:Value) A1,sE A A1 b (.row true (r.set x w) rcap)->Fresh A0 A1 v 1 (xs.set x w):=by
  obtain ⟨b,n,c,e,h1,h2⟩:=fr.nonnil (by intro q;rw [q] at hx;simp at hx)
  have lo:=fr.lo b (by rw [e];rfl)
  subst e
  obtain ⟨r,rcap,g,h3,h4⟩:=fr.row
  rw [Nat.mul_one] at h1 h3
  have hl:n<=r.length:=by have:=congrArg List.length h3;rw [List.length_take] at this;omega
  exact ⟨b,n,c,r,rcap,rfl,h1,g,by omega,lo,h3,fun w A1 sb=>fr.setc g sb⟩
section
variable {A0 A A1:AH} {rows:List Value} {α:Type} {kk:Nat} {f:List α->List Value} {L:List (List α)} {b s x:Nat} {v v':Value} {size:Nat} {xs:List Value} {r:List α} {o:eM}
theorem kO {p:Value->Prop} (hl:rows.length=L.length) (h:∀ i,i < L.length->p (rows.getD i undef)):∀ r ∈ rows,p r:=fun r hr=>by
  obtain ⟨i,hi,rfl⟩:=List.getElem_of_mem hr
  have:=h i O
  simpa [hi] using this
theorem dR {p:Value->Prop} (h:∀ r ∈ rows,p r) (hi:s < rows.length):p (rows.getD s undef):=h _ (bx (d:=undef) hi)
theorem fP.nil:fP kk f A0 A [] []:=⟨rfl,(fun _ h=>by cases h),(fun _ _ h=>by cases h)⟩
theorem fP.le (h:fP kk f A0 A rows L) (le:A.le A1):fP kk f A0 A1 rows L:=⟨h.len,fun i hi=>(h.fr i hi).le le,h.sp⟩
theorem fP.base {M:AH} (h:fP kk f M A rows L) (le:A0.le M):fP kk f A0 A rows L:=⟨h.len,fun i hi=>(h.fr i hi).base le,h.sp⟩
theorem fP.keep (h:fP kk f A0 A rows L) (k:∀ b' o,b' ≠ b->A.get b'=some o->A1.get b'=some o) (n:bI rows b):fP kk f A0 A1 rows L :=
  ⟨h.len,fun i hi=>(h.fr i hi).keep k (dR n (by rw [h.len];exact hi)),h.sp⟩
theorem fP.appd {zs:List Value} {n:Nat} (h:fP kk f A0 A rows L) (ap:lu A v n zs v' A1) (hs:aq v rows):fP kk f A0 A1 rows L :=
  ⟨h.len,fun i hi=>(h.fr i hi).appd ap (dR hs (by rw [h.len];exact hi)),h.sp⟩
theorem aq.nil:aq (.slice none 0 0) rows:=fun _ _=>bh.nil
theorem aq.empty:aq v []:=fun _ h=>by cases h
theorem aq.appd {zs:List Value} {n:Nat} (hs:aq v rows) (h:fP kk f A0 A rows L) (wf:A.wf) (ap:lu A v n zs v' A1):aq v' rows :=
  kO h.len fun i hi=>bh.appd (dR hs (by rw [h.len];exact hi)) (h.fr i hi).own wf ap
theorem aq.new {n c:Nat} (h:bI rows b):aq (.slice (some ⟨b,0,none⟩) n c) rows:=fun r hr k hk hq=>by cases hk;exact h r hr hq
theorem aq.fresh {n:Nat} (h:fP kk f A0 A rows L) (fr:Fresh A A1 v n xs):aq v rows:=kO h.len fun i hi c hv hc=>by
  obtain ⟨o,ho⟩:=(h.fr i hi).own.blkget hc
  rw [fr.lo c hv] at ho;cases ho
theorem fP.ne_new (h:fP kk f A0 A rows L) (wf:A.wf) (hb:A.n<=b):bI rows b:=kO h.len fun i hi=>(h.fr i hi).own.ne_new wf hb
theorem fP.ne (h:fP kk f A0 A rows L) (hb:A0.get b=some o):bI rows b:=kO h.len fun i hi=>(h.fr i hi).seph hb
theorem bI.snoc (h:bI rows b) (hv:V.blk v ≠ some b):bI (rows ++ [v]) b:=fun r hr=>by
  rcases List.mem_append.1 hr with q | q
  · exact h r q
  · rw [List.mem_singleton] at q;subst q;exact hv
theorem aq.snoc {u:Value} (h:aq u rows) (hv:bh u v):aq u (rows ++ [v]):=fun r hr=>by
  rcases List.mem_append.1 hr with q | q
  · exact h r q
  · rw [List.mem_singleton] at q;subst q;exact hv
theorem fP.snoc (h:fP kk f A0 A rows L) (fr:Fresh A0 A v kk (f r)) (hs:aq v rows):fP kk f A0 A (rows ++ [v]) (L ++ [r]):=by
  have e1:∀ i,i < L.length->(rows ++ [v]).getD i undef=rows.getD i undef:=fun i hi=>by simp [List.getElem?_append_left (show i < rows.length by rw [h.len];exact hi)]
  have e2:(rows ++ [v]).getD L.length undef=v:=by rw [<- h.len];simp
  have e3:∀ i,i < L.length->(L ++ [r]).getD i []=L.getD i []:=fun i hi=>by simp [List.getElem?_append_left hi]
  have e4:(L ++ [r]).getD L.length []=r:=by simp
  refine ⟨by simp [h.len],fun i hi=>?_,fun i j hi hj hij=>?_⟩
  · rcases Nat.lt_or_ge i L.length with q | q
    · rw [e1 i q,e3 i q];exact h.fr i q
    · obtain rfl:i=L.length:=by simp at hi;omega
      rw [e2,e4];exact fr
  · rcases Nat.lt_or_ge i L.length with q | q
    · rcases Nat.lt_or_ge j L.length with q2 | q2
      · rw [e1 i q,e1 j q2];exact h.sp i j q q2 hij
      · obtain rfl:j=L.length:=by simp at hj;omega
        rw [e1 i q,e2];exact (dR hs (by rw [h.len];exact q)).symm
    · obtain rfl:i=L.length:=by simp at hi;omega
      rcases Nat.lt_or_ge j L.length with q2 | q2
      · rw [e2,e1 j q2];exact dR hs (by rw [h.len];exact q2)
      · obtain rfl:j=L.length:=by simp at hj;omega
        exact absurd Z hij
theorem fP.hideAll {l:List (Option Nat)} (h:fP kk f A0 A rows L):fP kk f (A.hide (l ++ rows.map V.blk)) A rows L :=
  ⟨h.len,fun i hi=>(h.fr i hi).hide (List.mem_append.2 (.inr (List.mem_map.2 ⟨_,bx (d:=undef) (by rw [h.len];exact hi),rfl⟩))),h.sp⟩
theorem Ca {l:List (Option Nat)} (t:∀ b,some b ∈ l->A0.get b=none) (h:fP kk f A0 A rows L):∀ b,some b ∈ l ++ rows.map V.blk->A0.get b=none:=fun b hb=>by
  rcases List.mem_append.1 hb with q | q
  · exact t b q
  · obtain ⟨r,hr,e⟩:=List.mem_map.1 q
    exact kO (p:=fun r=>∀ b,V.blk r=some b->A0.get b=none) h.len (fun i hi=>(h.fr i hi).lo) r hr b e
theorem xC {l:List (Option Nat)} {k:Nat} (t:some k ∉ l) (h:bI rows k):some k ∉ l ++ rows.map V.blk:=fun hb=>by
  rcases List.mem_append.1 hb with q | q
  · exact t q
  · obtain ⟨r,hr,e⟩:=List.mem_map.1 q
    exact h r hr e
theorem ld {l:List (Option Nat)} {u:Value} (t:Dy u l) (h:aq u rows):Dy u (l ++ rows.map V.blk):=fun c hc hb=>by
  rcases List.mem_append.1 hb with q | q
  · exact t c hc q
  · obtain ⟨r,hr,e⟩:=List.mem_map.1 q
    exact h r hr c hc e
theorem fP.sepOff {bs:List (Option Nat)} {u:Value} {n:Nat} (h:fP kk f (A.hide bs) A1 rows L) (hu:nP A u n xs) (o:Dy u bs):aq u rows:=kO h.len fun i hi=>((h.fr i hi).sep hu o).symm
theorem fP.off {bs:List (Option Nat)} (h:fP kk f A0 A rows L) (o:∀ r ∈ rows,Dy r bs) (le:(A.hide bs).le A1):fP kk f A0 A1 rows L :=
  ⟨h.len,fun i hi=>(h.fr i hi).off (dR o (by rw [h.len];exact hi)) le,h.sp⟩
theorem fP.sepNew {bs:List (Option Nat)} {u:Value} {n:Nat} (h:fP kk f A0 A rows L) (fr:Fresh (A.hide bs) A1 u n xs) (o:∀ r ∈ rows,Dy r bs):aq u rows:=kO h.len fun i hi=>fr.sep (h.fr i hi).own (dR o (by rw [h.len];exact hi))
theorem FJ {k i:Nat} (h:i < k):(List.replicate i (-1:Int) ++ List.replicate (k - i) 0).set i (-1)=List.replicate (i + 1) (-1) ++ List.replicate (k - (i + 1)) 0:=by
  rw [List.set_append_right _ _ (by simp),List.length_replicate,Nat.sub_self,show k - i=(k - (i + 1)) + 1 by omega,List.replicate_succ,List.set_cons_zero,List.replicate_succ' (n:=i)]
  simp
theorem od {α β:Type} (f:α->β) {l:List α} {i:Nat} {z:α} (h:i < l.length):(l.take i).map f ++ [f (l.getD i z)]=(l.take (i + 1)).map f:=by
  rw [<- fK (z:=z) h,List.map_append];rfl
theorem d4 {α:Type} {l:List α} {i j:Nat} {a d:α} (hi:i < l.length):(l.set i a).getD j d=if j=i then a else l.getD j d:=by
  simp only [List.getD_eq_getElem?_getD,List.getElem?_set]
  by_cases h:i=j
  · subst h;simp [hi]
  · rw [if_neg h,if_neg (fun q=>h q.symm)]
theorem Aj {n:Nat} {u:Value}:aq u (List.replicate n (.slice none 0 0)):=fun r hr=>by rw [(List.mem_replicate.1 hr).2];exact bh.nil.symm
theorem Om {r:Value} (h:r ∈ rows.set s v):r ∈ rows\/r=v:=List.mem_or_eq_of_mem_set h
theorem CY {u:Value} (h:aq u rows) (hv:bh u v):aq u (rows.set s v):=fun r hr=>by
  rcases Om hr with q | q
  · exact h r q
  · subst q;exact hv
end
section
variable {A0 A A1:AH} {rows:List Value} {L:List (List Int)} {b s x:Nat} {v v':Value} {size:Nat} {xs:List Value} {r:List Int} {o:eM}
theorem fP.nils {n:Nat}:kg A0 A (List.replicate n (.slice none 0 0)) (List.replicate n []):=by
  have e:∀ i,i < n->(List.replicate n (Value.slice none 0 0)).getD i undef=.slice none 0 0:=fun i hi=>by simp [hi]
  refine ⟨by simp,fun i hi=>?_,fun i j hi hj _=>?_⟩
  · rw [List.length_replicate] at hi
    rw [e i hi,show (List.replicate n ([]:List Int)).getD i []=[] by simp [hi]]
    exact Fresh.nil _ _ _
  · rw [List.length_replicate] at hi
    rw [e i hi];exact bh.nil
theorem fP.appRow {y:List Int} (h:kg A0 A rows L) (wf:A.wf) (hs:s < L.length) (ap:lu A (rows.getD s undef) 1 (c9 y) v A1) (fr:Fresh A0 A1 v 1 (c9 y)):kg A0 A1 (rows.set s v) (L.set s y):=by
  have hsr:s < rows.length:=by rw [h.len];exact hs
  refine ⟨by simp [h.len],fun i hi=>?_,fun i j hi hj hij=>?_⟩
  · rw [d4 hsr,d4 hs]
    rw [List.length_set] at hi
    split
    · exact fr
    · rename_i q;exact (h.fr i hi).appd ap (h.sp s i hs hi (fun z=>q z.symm))
  · rw [List.length_set] at hi hj
    rw [d4 hsr,d4 hsr]
    have key:∀ i,i < L.length->i ≠ s->bh v (rows.getD i undef):=fun i hi q=>bh.appd (h.sp s i hs hi (fun z=>q z.symm)) (h.fr i hi).own wf ap
    by_cases q1:i=s
    · rw [if_pos q1,if_neg (fun z=>hij (q1.trans z.symm))]
      exact key j hj (fun z=>hij (q1.trans z.symm))
    · rw [if_neg q1]
      by_cases q2:j=s
      · rw [if_pos q2];exact (key i hi q1).symm
      · rw [if_neg q2];exact h.sp i j hi hj hij
theorem fP.at (h:kg A0 A rows L) (hs:s < L.length) (hx:x < (L.getD s []).length):∃ b n c r rcap,rows.getD s undef=.slice (some ⟨b,0,none⟩) n c/\n=(L.getD s []).length/\A.get b=some (.row true r rcap)/\x < r.length/\A0.get b=none/\r.take n=c9 (L.getD s []) /\
    ∀ (i:Int) A1,sE A A1 b (.row true (r.set x (num i)) rcap)->kg A0 A1 rows (L.set s ((L.getD s []).set x i)):=by
  have fr:=h.fr s hs
  obtain ⟨b,n,c,e,h1,h2⟩:=fr.nonnil (by intro q;have:=congrArg List.length q;rw [aH,List.length_nil] at this;omega)
  have lo:=fr.lo b (by rw [e];rfl)
  have fr':=fr
  rw [e] at fr'
  obtain ⟨r,rcap,g,h3,h4⟩:=fr'.row
  rw [Nat.mul_one,aH] at h1
  rw [Nat.mul_one] at h3
  have hl:n<=r.length:=by have:=congrArg List.length h3;rw [List.length_take,aH] at this;omega
  refine ⟨b,n,c,r,rcap,e,h1,g,by omega,lo,h3,fun i A1 sb=>⟨by simpa using h.len,fun j hj=>?_,fun j k hj hk=>h.sp j k (by simpa using hj) (by simpa using hk)⟩⟩
  rw [d4 hs]
  by_cases q:j=s
  · subst q
    rw [if_pos Z,e]
    have:=fr'.setc (w:=num i) (i:=x) g sb
    rwa [io] at this
  · rw [if_neg q]
    have hj':j < L.length:=by simpa using hj
    exact (h.fr j hj').keep sb.keep (fun z=>h.sp s j hs hj' (fun w=>q w.symm) b (by rw [e];rfl) z)
end
theorem kg.len {A0 A:AH} {rows:List Value} {L:List (List Int)} (h:kg A0 A rows L):rows.length=L.length:=fP.len h
theorem kg.nil {A0 A:AH}:kg A0 A [] []:=fP.nil
theorem kg.nils {A0 A:AH} {n:Nat}:kg A0 A (List.replicate n (.slice none 0 0)) (List.replicate n []):=fP.nils
end Go.Proofs.YtjppkekmddjcfaaGreatDoor

namespace Go.Proofs.YtjppkekmddjcfaaGreatDoor
open Go Go.RowKit V
structure AK (k:Nat) (L:List (List Int)) (E:List Bool):Prop where
  len:E.length=L.length
  row:∀ s,s < L.length->(L.getD s []).length=k
  val:∀ s x,s < L.length->x < k->-1<=(L.getD s []).getD x 0/\(L.getD s []).getD x 0 < L.length
abbrev AM (k:Nat):List Int:=List.replicate k (-1)
abbrev grow (k:Nat) (L:List (List Int)) (s x:Nat):List (List Int):=(L ++ [AM k]).set s (((L ++ [AM k]).getD s []).set x (L.length:Int))
def Am (k:Nat) (t:List (List Int) × List Bool × Nat) (x:Int):List (List Int) × List Bool × Nat :=
  if (t.1.getD t.2.2 []).getD x.toNat 0 < 0 then (grow k t.1 t.2.2 x.toNat,t.2.1 ++ [false],t.1.length) else (t.1,t.2.1,((t.1.getD t.2.2 []).getD x.toNat 0).toNat)
def m0 (k:Nat) (L:List (List Int)) (E:List Bool) (xs:List Int):List (List Int) × List Bool × Nat:=xs.foldl (Am k) (L,E,0)
def vt (k:Nat) (L:List (List Int)) (E:List Bool) (w:Wd):List (List Int):=(m0 k L E (w.map ix)).1
def vr (k:Nat) (L:List (List Int)) (E:List Bool) (w:Wd):List Bool:=(m0 k L E (w.map ix)).2.1.set (m0 k L E (w.map ix)).2.2 true
section
variable {k s x i:Nat} {L L1:List (List Int)} {E E1:List Bool} {xs:List Int} {d:Int}
theorem jP {α:Type} {l m:List α} {i:Nat} {z:α} (h:i < l.length):(l ++ m).getD i z=l.getD i z:=by simp [List.getElem?_append_left h]
theorem jn:(grow k L s x).length=L.length + 1:=by simp
theorem s9 (h:AK k L E) (hs:s < L.length) (hx:x < k) {j y:Nat} (hj:j < L.length + 1):(grow k L s x).getD j []=if j=s then (L.getD s []).set x L.length else if j < L.length then L.getD j [] else AM k:=by
  rw [grow,d4 Ox,jP hs]
  by_cases h1:j=s
  · rw [if_pos h1,if_pos h1]
  · rw [if_neg h1,if_neg h1]
    by_cases h2:j < L.length
    · rw [if_pos h2,jP h2]
    · rw [if_neg h2,show j=L.length by omega];simp
theorem xm (h:AK k L E) (hs:s < L.length) (hx:x < k):AK k (grow k L s x) (E ++ [false]):=by
  refine ⟨by rw [jn];simp [h.len],fun j hj=>?_,fun j y hj hy=>?_⟩
  · rw [jn] at hj
    rw [s9 (y:=0) h hs hx hj]
    split
    · rw [List.length_set];exact h.row s hs
    · split
      · exact h.row j ‹_›
      · exact List.length_replicate
  · rw [jn] at hj
    rw [s9 (y:=0) h hs hx hj,jn]
    have h0:=h.row s hs
    split
    · rw [d4 (by rw [h0];exact hx)]
      split
      · omega
      · have:=h.val s y hs hy;omega
    · split
      · have:=h.val j y ‹_› hy;omega
      · have:(AM k).getD y 0 = -1:=by simp [hy]
        rw [this];omega
theorem uh (h:AK k L E) (hs:s < L.length) (hx:x < k):((grow k L s x).getD s []).getD x 0=(L.length:Int):=by
  rw [s9 (y:=0) h hs hx O,if_pos Z,d4 (by rw [h.row s hs];exact hx),if_pos Z]
theorem wq {t:List (List Int) × List Bool × Nat} (hi:i < xs.length) (h:m0 k L E (xs.take i)=t):m0 k L E (xs.take (i + 1))=Am k t (xs.getD i 0):=by
  rw [<- fK (z:=0) hi,m0,List.foldl_append]
  show Am k (m0 k L E (xs.take i)) _=_
  rw [h]
theorem zN (hi:i < xs.length) (h:m0 k L E (xs.take i)=(L1,E1,s)) (q:(L1.getD s []).getD (xs.getD i 0).toNat 0 < 0):m0 k L E (xs.take (i + 1))=(grow k L1 s (xs.getD i 0).toNat,E1 ++ [false],L1.length):=by
  rw [wq hi h,Am,if_pos q]
theorem zO (hi:i < xs.length) (h:m0 k L E (xs.take i)=(L1,E1,s)) (q:¬ (L1.getD s []).getD (xs.getD i 0).toNat 0 < 0):m0 k L E (xs.take (i + 1))=(L1,E1,((L1.getD s []).getD (xs.getD i 0).toNat 0).toNat):=by
  rw [wq hi h,Am,if_neg q]
theorem AK.start (k:Nat):AK k [AM k] [false]:=⟨rfl,fun s hs=>by
    obtain rfl:s=0:=by simp at hs;omega
    simp,fun s x hs hx=>by
    obtain rfl:s=0:=by simp at hs;omega
    simp [hx]⟩
end
end Go.Proofs.YtjppkekmddjcfaaGreatDoor

namespace Go.Proofs.YtjppkekmddjcfaaGreatDoor
open Go Go.RowKit V
set_option maxRecDepth 100000
theorem iu:dF Tryz.prog 59=some false:=by kernel_rfl
theorem jN:dF Tryz.prog 60=some false:=by kernel_rfl
theorem kW:dF Tryz.prog 67=some false:=by kernel_rfl
theorem iR:eb Tryz.prog 119 0=some (60,0):=by kernel_rfl
theorem k8:eb Tryz.prog 119 1=some (59,1):=by kernel_rfl
theorem JO:Tryz.prog.info? 4=some Tryz.t4:=by kernel_rfl
theorem DY:Tryz.prog.info? 67=some Tryz.t67:=by kernel_rfl
theorem iB:du Tryz.prog 59=some 1:=by kernel_rfl
theorem iQ:du Tryz.prog 60=some 1:=by kernel_rfl
theorem fC:du Tryz.prog 67=some 1:=by kernel_rfl
theorem kR:type_of% @Tryz.underlying59:=@Tryz.underlying59
theorem m5:type_of% @Tryz.underlying60:=@Tryz.underlying60

theorem Iz (w:List UInt8) (A:AH) (hL:eF A) (hw:w.length<=1000000):bG Tryz.prog 115 #[aX (w)] A (fun v A1=>A.le A1/\A1.wf/\Fresh A A1 v 1 (c9 (w.map ix))):=by
 refine iy Tryz.call115 Tryz.func115 Z Tryz.results115 Tryz.ntmps115 Z (fun wf=>?_);have ai:=AH.le.refl A;refine ao.seq fun _ h2=>.region<|.q Z (ah Z)<|.nil<|h2 _ _<|.seq fun _ h4=>.region<|.q Z (ah Z)<|.nil<|h4 _ _ ?_;refine ao.seq fun _ h6=>.seq fun _ h8=>.region<|.q Z (ae Z)<|.q Z (d6 u9 Z)<|.q Z (ae Z)<|.nil<|h8 _ _<|.block<|.loop (X:=Nat × List Int × Value) (fun ⟨i,o,s⟩=>[(0,aX (w)),(3,s),(6,num ((w.length:Nat):Int)),(7,num ((i:Nat):Int))]) (fun ⟨i,o,s⟩ B=>(i<=w.length/\o=(w.take i).map ix)/\A.le B/\Fresh A B s 1 (c9 o)) (fun ⟨i,o,s⟩=>w.length - i) (⟨0,[],.slice none 0 0⟩) (ks Z Z Z Z) (⟨⟨Nat.zero_le _,by simp⟩,ai,(Fresh.nil A A 1)⟩) ?_;rintro ⟨i,o,s⟩ B10 ⟨⟨hi,ho⟩,a2,V⟩;refine ao.wf fun a3=>?_;have hlo:o.length=i:=by rw [ho];simp;omega
 refine ao.seq fun _ aa=>.region<|.q Z (cA Z Z)<|.nil<|aa _ _<|.seq fun _ ab=>.if rfl (fun ap=>?_) (fun ap=>?_)
 ·refine ao.skip<|ab _ _<|.seq fun _ ac=>.block<|.seq fun _ ad=>.region<|.q Z (ae Z)<|.q Z (ah Z)<|.nil<|ad _ _ ?_;refine ao.region<|.q Z (ae Z)<|.q Z (ae Z)<|.q Z (ae Z)<|.q Z (uC u9 Z Z O)<|.l Z (fun _ _ a5 _=>aK Z (rb (w.getD i 0) B10 (hL.le a2)) ?_);rintro ay A23 ⟨rfl,rfl⟩;refine a5 _ _<|.l Z (fun _ _ a6 _=>aN (c:=[num (ix (w.getD i 0))]) a3 rfl (ax er dx z3 rfl U U rfl) fun A27 av D=>?_);have a1:=V.le D.le;have a8:=a2.trans D.le;refine a6 _ _<|.l Z (fun _ _ a7 _=>cJ (ys:=[num (ix (w.getD i 0))]) rfl rfl er dx mg z3 rfl U er (fun _ h=>by cases h) a1.own (bW (n:=1) D.get Z) rfl rfl (by show (_ + _) * 8<=_;simp only [aH,List.length_cons,List.length_nil];(try simp only [List.length_append,List.length_cons,List.length_nil]);omega) O2 fun A33 ar a0=>?_);rw [show ([num (ix (w.getD i 0))]:List Value)=c9 [ix (w.getD i 0)] from rfl,dM] at a0;obtain ⟨a4,a9⟩:=Fresh.grow a1 a8 wf a0;refine a7 _ _<|.q Z (ah Z)<|.nil<|ac _ _<|.region<|.q Z (bN (b:=1) Z Z O)<|.q Z (ae Z)<|.nil ?_;exact ⟨⟨i + 1,o ++ [ix (w.getD i 0)],ar⟩,ks Z Z Z Z,Z,⟨⟨by omega,by rw [ho];exact od ix O⟩,a9,a4⟩,O1⟩
 refine ao.exit<|h6 _ _<|.seq fun _ ag=>.region<|.q Z (ae Z)<|.q Z (ah Z)<|.nil<|ag _ _<|.rt (by exact be Z (⟨a2,a3,c6 V (congrArg c9 (by rw [ho,List.take_of_length_le O]))⟩))

theorem LS (k:Nat) (b:Nat) (nv ev:Value) (rows:List Value) (L:List (List Int)) (E:List Bool) (A0 A:AH) (c4:A0.le A) (aG:A0.wf) (hb:A.get b=some (.row true [nv,ev] 2)) (c7:A0.get b=none) (frn:Fresh A0 A nv 1 (em rows)) (fre:Fresh A0 A ev 1 (cq E)) (nn:blk nv ≠ some b) (ne:blk ev ≠ some b) (sne:bh nv ev) (fm:kg A0 A rows L) (fo:bI rows b) (fsn:aq nv rows) (fse:aq ev rows) (hk:k<=1000/\L.length<=1000000/\E.length<=1000000):bG Tryz.prog 75 #[.pointer (some ⟨b,0,none⟩),num ((k:Nat):Int)] A (fun v A1=>∃ nv2 jO rows2,v=num ((L.length:Nat):Int)/\A0.le A1/\A1.wf/\A1.get b=some (.row true [nv2,jO] 2)/\Fresh A0 A1 nv2 1 (em rows2)/\Fresh A0 A1 jO 1 (cq (E ++ [false]))/\blk nv2 ≠ some b/\blk jO ≠ some b/\bh nv2 jO/\kg A0 A1 rows2 (L ++ [AM k])/\bI rows2 b/\aq nv2 rows2/\aq jO rows2):=by
 refine lN Tryz.call75 Tryz.func75 Z Tryz.results75 Tryz.ntmps75 Z (fun wf=>?_);have hrl:=fm.len;have hkr:(List.replicate k (0:Int)).length=k:=List.length_replicate;refine ao.seq fun _ h2=>.region<|.q Z (ah Z)<|.nil<|h2 _ _<|.seq fun _ h4=>.region<|.q Z (ae Z)<|.l Z (fun _ _ e9 _=>lL (n:=k) (k:=k) wf c4 rfl rfl er dx z3 mg rfl (Nat.le_refl _) (by show 8 * _<=_;omega) O fun A7 b6 ar bm=>?_);rw [im] at bm;have b3:=ne_new wf hb ar.lo;have dw:=fm.ne_new wf ar.lo;have dV:=ar.le.get _ _ hb;have ck:=frn.le ar.le;have cu:=fre.le ar.le;have cb:=fm.le ar.le;have d1:=c4.trans ar.le;have dG:=bh.of_new (n:=k) (c:=k) frn.own wf ar.lo;have dI:=bh.of_new (n:=k) (c:=k) fre.own wf ar.lo;refine e9 _ _<|.q Z (ah Z)<|.nil<|h4 _ _<|.seq fun _ dW=>.seq fun _ dZ=>.region<|.q Z (ae Z)<|.q Z (bH (n:=(List.replicate k (0:Int)).length) er Z bm.slc O (eB _))<|.q Z (ae Z) ?_;refine Ops.nil<|dZ _ _<|.block<|.loop (X:=Nat × List Int × Value) (fun ⟨i,o,r⟩=>[(0,.pointer (some ⟨b,0,none⟩)),(5,r),(10,num (((List.replicate k (0:Int)).length:Nat):Int)),(11,num ((i:Nat):Int))]) (fun ⟨i,o,r⟩ B=>(i<=k/\o=List.replicate i (-1) ++ List.replicate (k - i) 0)/\A0.le B/\Fresh A0 B r 1 (c9 o)/\Fresh A0 B nv 1 (em rows)/\Fresh A0 B ev 1 (cq E)/\B.get b=some (.row true [nv,ev] 2)/\V.blk r ≠ some b/\V.blk nv ≠ some b/\V.blk ev ≠ some b/\bh r nv/\bh r ev/\bh nv ev/\kg A0 B rows L/\bI rows b/\aq r rows/\aq nv rows/\aq ev rows) (fun ⟨i,o,r⟩=>k - i) (⟨0,List.replicate k 0,.slice (some ⟨b6,0,none⟩) k k⟩) (ks Z Z Z Z) (⟨⟨Nat.zero_le _,by simp⟩,d1,bm,ck,cu,dV,(fun q=>by cases q;exact b3 Z),nn,ne,dG,dI,sne,cb,fo,(aq.new dw),fsn,fse⟩) ?_;rintro ⟨i,o,r⟩ B25 ⟨⟨hi,ho⟩,bu,ag,aE,aD,ap,aa,a9,a4,a8,ac,ad,av,az,a6,a7,ai⟩;refine ao.wf fun aC=>?_;have hlo:o.length=k:=by rw [ho];simp;omega
 have hrl:=fm.len;refine ao.seq fun _ e0=>.region<|.q Z (cA Z Z)<|.nil<|e0 _ _<|.seq fun _ e1=>.if rfl (fun eg=>?_) (fun eg=>?_)
 ·refine ao.skip<|e1 _ _<|.seq fun _ e2=>.block<|.seq fun _ e3=>.region<|.q Z (ae Z)<|.q Z (ah Z)<|.nil<|e3 _ _ ?_;refine ao.region<|.q Z (ae Z)<|.q Z (ae Z) ?_;obtain ⟨b5,eS,eQ,ey,eC,aF,c3,dS,eX,ec,eT,ea⟩:=ag.at1 (x:=i) O3;rw [aH] at c3;refine Ops.q Z (aJ er dx Z aF Z (by rw [c3];omega))<|.l Z (fun _ _ cU _=>aM (off:=i) (c':=ey.set i (num (-1))) aC rfl (by simp) rfl rfl dx dS (by show i + 1<=_;omega) rfl rfl fun A38 ab=>?_);have e4:=ab.keep _ _ (fun q=>aa (by rw [aF];exact congrArg some q.symm)) ap;have cv:=aE.keep ab.keep (a8 b5 (by rw [aF];rfl));have cB:=aD.keep ab.keep (ac b5 (by rw [aF];rfl));have cc:=av.keep ab.keep (fun r hr=>a6 r hr b5 (by rw [aF];rfl));have ba:=ea (num (-1)) A38 ab;rw [io] at ba;have d2:=al bu aG ec ab.n ab.keep;refine cU _ _<|.nil<|e2 _ _<|.region<|.q Z (bN (b:=1) Z Z Oy)<|.q Z (ae Z)<|.nil ?_;exact ⟨⟨i + 1,o.set i ((-1)),r⟩,ks Z Z Z Z,Z,⟨⟨by omega,by rw [ho];exact FJ O⟩,d2,ba,cv,cB,e4,aa,a9,a4,a8,ac,ad,cc,az,a6,a7,ai⟩,O1⟩
 refine ao.exit<|dW _ _<|.seq fun _ e5=>.region<|.q Z (ae Z)<|.q Z (ae Z)<|.q Z (c8 Z)<|.q Z (aj iR iQ U Z)<|.q Z (ak jN Z Z ap Z)<|.q Z (ae Z) ?_;obtain ⟨aB,aA,ay,en,_⟩:=ag.own.slice;subst en;refine Ops.l Z (fun _ _ cV _=>aN (c:=[.slice aB aA ay]) aC rfl (ax m5 fC I0 rfl U U rfl) fun A50 eL D=>?_);have dj:=ne_new aC ap D.lo;have dv:=ag.own.ne_new aC D.lo;have dz:=av.ne_new aC D.lo;have bY:=D.le.get _ _ ap;have bb:=ag.le D.le;have bc:=aE.le D.le;have bd:=aD.le D.le;have b8:=av.le D.le;have d3:=bu.trans D.le;refine cV _ _<|.l Z (fun _ _ cX _=>cJ (ys:=[.slice aB aA ay]) rfl rfl m5 fC DY I0 rfl U m5 (fun _ h=>by cases h) bc.own (bW (n:=1) D.get Z) rfl rfl (by show (_ + _) * 24<=_;simp only [cw,List.length_cons,List.length_nil];(try simp only [List.length_append,List.length_cons,List.length_nil]);omega) Or fun A64 eV a1=>?_);rw [show ([.slice aB aA ay]:List Value)=em [Value.slice aB aA ay] from rfl,oB] at a1;obtain ⟨bl,dd⟩:=Fresh.grow bc d3 aG a1;have e6:=a1.keep a9 bY;have aI:=a1.ne a9 D.wf bY;have dJ:=bh.appd (show bh nv (.slice aB aA ay) from (bh.symm a8)) bb.own D.wf a1;have cC:=bb.appd a1 (bh.symm a8);have bA:=bh.appd (show bh nv ev from ad) bd.own D.wf a1;have cF:=bd.appd a1 ad;have dK:=aq.appd (show aq nv rows from a7) b8 D.wf a1;have cf:=b8.appd a1 (show aq nv rows from a7);have ch:=cf.snoc cC a6;have aP:=az.snoc aa;have eA:=dz.snoc dv;have bB:=ai.snoc (bh.symm ac);have dO:=dK.snoc dJ;refine cX _ _<|.q Z (c8 Z)<|.q Z (aj iR iQ U Z) ?_;obtain ⟨b2,b0,aR,ex,_⟩:=bl.own.slice;subst ex;refine Ops.l Z (fun _ _ cZ _=>aM (cs:=[.slice b2 b0 aR]) (c':=[.slice b2 b0 aR,ev]) a1.wf rfl rfl rfl rfl iQ e6 (Nat.le_of_ble_eq_true rfl) rfl rfl fun A86 a3=>?_);have cH:=cF.keep a3.keep a4;have cK:=bl.keep a3.keep aI;have b9:=ch.keep a3.keep aP;have di:=al dd aG c7 a3.n a3.keep;refine cZ _ _<|.nil<|e5 _ _<|.seq fun _ e7=>.region<|.q Z (ae Z)<|.q Z (ae Z)<|.q Z (c8 Z)<|.q Z (aj k8 iB U Z)<|.q Z (ak iu Z Z a3.get Z) ?_;refine Ops.l Z (fun _ _ d0 _=>aN (c:=[.bool (false)]) a3.wf rfl (ax kR lJ z4 rfl U U rfl) fun A96 eN a2=>?_);have dk:=ne_new a3.wf a3.get a2.lo;have ez:=b9.ne_new a3.wf a2.lo;have bp:=a2.le.get _ _ a3.get;have aT:=cH.le a2.le;have aV:=cK.le a2.le;have aS:=b9.le a2.le;have bR:=di.trans a2.le;refine d0 _ _<|.l Z (fun _ _ bO _=>cJ (ys:=[.bool (false)]) rfl rfl kR lJ JO z4 rfl U kR (fun _ h=>by cases h) aT.own (bW (n:=1) a2.get Z) rfl rfl (by show (_ + _) * 1<=_;simp only [bz,List.length_cons,List.length_nil];(try simp only [List.length_append,List.length_cons,List.length_nil]);omega) Ov fun A107 eG a0=>?_);rw [show ([.bool (false)]:List Value)=cq [false] from rfl,mC] at a0;obtain ⟨aY,bS⟩:=Fresh.grow aT bR aG a0;have cP:=a0.keep a4 bp;have b1:=a0.ne a4 a2.wf bp;have bU:=bh.appd (show bh ev (.slice b2 b0 aR) from (bh.symm bA)) aV.own a2.wf a0;have bL:=aV.appd a0 (bh.symm bA);have bV:=aq.appd (show aq ev (rows ++ [Value.slice aB aA ay]) from bB) aS a2.wf a0;have bC:=aS.appd a0 (show aq ev (rows ++ [Value.slice aB aA ay]) from bB);refine bO _ _<|.q Z (c8 Z)<|.q Z (aj k8 iB U Z) ?_;obtain ⟨bv,br,b7,dD,_⟩:=aY.own.slice;subst dD;refine Ops.l Z (fun _ _ bP _=>aM (cs:=[.slice bv br b7]) (c':=[.slice b2 b0 aR,.slice bv br b7]) a0.wf rfl rfl rfl rfl iB cP (Nat.le_of_ble_eq_true rfl) rfl rfl fun A122 a5=>?_);have aZ:=bL.keep a5.keep aI;have bM:=aY.keep a5.keep b1;have bD:=bC.keep a5.keep aP;have bT:=al bS aG c7 a5.n a5.keep;refine bP _ _<|.nil<|e7 _ _<|.seq fun _ cS=>.region<|.q Z (ae Z)<|.q Z (c8 Z)<|.q Z (aj iR iQ U Z)<|.q Z (ak jN Z Z a5.get Z)<|.q Z (bH (n:=(rows ++ [Value.slice aB aA ay]).length) m5 Z aZ.slc O (iO _)) ?_;refine Ops.q Z (jc (b:=1) Z Z Oy)<|.q Z (ah Z)<|.nil<|cS _ _<|.rt (by exact be Z (⟨_,_,_,(show num _=num _ from congrArg (fun z:Nat=>num (z:Int)) (by simp [fm.len])),bT,a5.wf,a5.get,aZ,bM,aI,b1,(bh.symm bU),lD bD (by rw [ho,show i=k by omega,Nat.sub_self];simp [AM]),aP,dO,bV⟩))

theorem Tf (k:Nat) (w:List UInt8) (b:Nat) (nv ev:Value) (rows:List Value) (L:List (List Int)) (E:List Bool) (A0 A:AH) (b7:A0.le A) (bu:A0.wf) (hb:A.get b=some (.row true [nv,ev] 2)) (eg:A0.get b=none) (frn:Fresh A0 A nv 1 (em rows)) (fre:Fresh A0 A ev 1 (cq E)) (nn:blk nv ≠ some b) (ne:blk ev ≠ some b) (sne:bh nv ev) (fm:kg A0 A rows L) (fo:bI rows b) (fsn:aq nv rows) (fse:aq ev rows) (hL:eF A0) (hk:k<=1000/\L.length<=100000/\w.length<=100000) (hT:AK k L E) (h0:0 < L.length) (hw:∀ c ∈ w,0<=ix c/\ix c < k):bG Tryz.prog 77 #[.pointer (some ⟨b,0,none⟩),num ((k:Nat):Int),aX (w)] A (fun v A1=>∃ nv2 jO rows2,v=.tuple #[]/\A0.le A1/\A1.wf/\A1.get b=some (.row true [nv2,jO] 2)/\Fresh A0 A1 nv2 1 (em rows2)/\Fresh A0 A1 jO 1 (cq (vr k L E w))/\blk nv2 ≠ some b/\blk jO ≠ some b/\bh nv2 jO/\kg A0 A1 rows2 (vt k L E w)/\bI rows2 b/\aq nv2 rows2/\aq jO rows2):=by
 refine yl Tryz.call77 Tryz.func77 Z Tryz.results77 Tryz.ntmps77 Z (fun wf=>?_);have hwx:∀ x ∈ w.map ix,0<=x/\x < (k:Int):=fun x hx=>by obtain ⟨c,hc,rfl⟩:=List.mem_map.1 hx;exact hw c hc
 have hwl:(w.map ix).length=w.length:=List.length_map _;refine ao.seq fun _ h2=>.region<|.q Z (ah Z)<|.nil<|h2 _ _<|.seq fun _ h4=>.seq fun _ h6=>.region<|.q Z (ae Z)<|.l Z (fun _ _ dZ _=>aK Z (Iz w A (hL.le b7) O) ?_);rintro v8 A9 ⟨av,eG,ap⟩;have dI:=av.get _ _ hb;have bT:=frn.le av;have bU:=fre.le av;have bP:=fm.le av;have ch:=b7.trans av;have b1:=ap.base b7;have cC:=ap.sep0 frn.own;have cF:=ap.sep0 fre.own;have cH:=aq.fresh fm ap;have cB:=ap.ne wf hb;refine dZ _ _<|.q Z (bH (n:=(w.map ix).length) er Z b1.slc O (eB _))<|.q Z (ae Z)<|.nil<|h6 _ _<|.block<|.loop (X:=Nat × List Bool × Nat × Value × Value × List Value × List (List Int)) (fun ⟨i,E1,s,a7,py,rw,L1⟩=>[(0,.pointer (some ⟨b,0,none⟩)),(1,num ((k:Nat):Int)),(6,num ((s:Nat):Int)),(11,v8),(12,num (((w.map ix).length:Nat):Int)),(13,num ((i:Nat):Int))]) (fun ⟨i,E1,s,a7,py,rw,L1⟩ B=>(i<=(w.map ix).length/\m0 k L E ((w.map ix).take i)=(L1,E1,s)/\AK k L1 E1/\s < L1.length/\L1.length<=L.length + i)/\A0.le B/\Fresh A0 B a7 1 (em rw)/\Fresh A0 B py 1 (cq E1)/\Fresh A0 B v8 1 (c9 (w.map ix))/\B.get b=some (.row true [a7,py] 2)/\V.blk a7 ≠ some b/\V.blk py ≠ some b/\V.blk v8 ≠ some b/\bh a7 py/\bh a7 v8/\bh py v8/\kg A0 B rw L1/\bI rw b/\aq a7 rw/\aq py rw/\aq v8 rw) (fun ⟨i,E1,s,a7,py,rw,L1⟩=>(w.map ix).length - i) (⟨0,E,0,nv,ev,rows,L⟩) (an.cons Z<|an.cons Z<|an.cons (congrArg (fun z:Int=>some (num z)) (by first | exact uh hok ar (by have:=hxw O;omega) | omega))<|nR Z Z Z) (⟨⟨Nat.zero_le _,Z,hT,h0,by omega⟩,ch,bT,bU,b1,dI,nn,ne,cB,sne,(bh.symm cC),(bh.symm cF),bP,fo,fsn,fse,cH⟩) ?_;rintro ⟨i,E1,s,a7,py,rw,L1⟩ B22 ⟨⟨hi,hrun,hok,ar,g6⟩,aV,a1,a9,D,a8,ab,a3,h,ac,a5,a6,a4,ad,aa,a2,a0⟩;refine ao.wf fun b9=>?_;have hrw:rw.length=L1.length:=by first | exact kg.len ‹_›
 have hxw:=fun q:i < (w.map ix).length=>hwx _ (bx (d:=(0:Int)) q);have hro:=hok.row s ar;have hvo:=fun q:((w.map ix).getD i 0).toNat < k=>hok.val s ((w.map ix).getD i 0).toNat ar q;have hEl:=hok.len;refine ao.seq fun _ dJ=>.region<|.q Z (cA Z Z)<|.nil<|dJ _ _<|.seq fun _ dK=>.if rfl (fun ey=>?_) (fun ey=>?_)
 ·refine ao.skip<|dK _ _<|.seq fun _ bl=>.block<|.seq fun _ dO=>.region ?_;obtain ⟨fE,fV,fe,gL,eZ,gm,g7,cS,e2,d3,eL,bv⟩:=bJ.at (i:=i) D.slc O3 O;refine Ops.q Z (aJ er dx Z cS Z e2)<|.q Z (ak fj Z Z d3 ((dh bv).trans (df O)))<|.q Z (ah Z)<|.nil<|dO _ _<|.seq fun _ bm=>.seq fun _ dS=>.region<|.q Z (ae Z)<|.q Z (c8 Z) ?_;refine Ops.q Z (aj iR iQ U Z)<|.q Z (ak jN Z Z a8 Z)<|.q Z (ae Z) ?_;obtain ⟨fI,fX,fi,gM,f0,gp,g8,cU,e3,dd,eN,bA⟩:=bJ.at (i:=s) a1.slc Ok O;refine Ops.q Z (aJ m5 fC Z cU Z e3)<|.q Z (ak kW Z Z dd ((dh bA).trans (eH O)))<|.q Z (ae Z) ?_;obtain ⟨fL,g0,fl,gN,f1,gq,g9,cV,e4,di,eQ,bB⟩:=bJ.at (i:=((w.map ix).getD i 0).toNat) (a4.fr s O).slc (by simp only [aH];have:=hxw O;omega) O;refine Ops.q Z (aJ er dx Z cV (jr (by have:=hxw O;omega)) e4)<|.q Z (ak fj Z Z di ((dh bB).trans (df (by have:=hxw O;omega))))<|.q Z (qO Z Z)<|.nil<|dS _ _<|.if rfl (fun ez=>?_) (fun ez=>?_)
  ·refine ao.seq fun _ dV=>.region<|.q Z (ae Z)<|.q Z (ae Z) ?_;have aI:=cg (bs:=([some b,blk a7,blk py] ++ rw.map blk)) aV (Ca (qz eg (sj a1.lo (sj a9.lo nf))) a4);refine Ops.l Z (fun _ _ cb _=>aK Z (LS k b a7 py rw L1 E1 (B22.hide ([some b,blk a7,blk py] ++ rw.map blk)) B22 (cM B22 ([some b,blk a7,blk py] ++ rw.map blk)) (cr b9) a8 (cn (by simp)) (a1.hide (by simp)) (a9.hide (by simp)) ab a3 ac a4.hideAll ad aa a2 ⟨by omega,by omega,by omega⟩) ?_);rintro h3 A45 ⟨bb,ba,aF,rfl,aZ,bc,aE,az,aA,aR,aS,aT,aG,aB,aC,aD⟩;have b8:=aG.sepOff D.own (ld (gJ h (iq a5 (iq a6 fW))) a0);have cK:=az.sep D.own (ld (gJ h (iq a5 (iq a6 fW))) a0);have cP:=aA.sep D.own (ld (gJ h (iq a5 (iq a6 fW))) a0);have bV:=D.off (ld (gJ h (iq a5 (iq a6 fW))) a0) aZ;have b2:=az.base aI;have bY:=aA.base aI;have ay:=aG.base aI;have ck:=aI.trans aZ;have b6:=aG.len;rw [List.length_append,List.length_singleton] at b6;have hgl:((L1 ++ [AM k]).getD s []).length=k:=by rw [jP ar];exact hok.row s ar
   have hll:(L1 ++ [AM k]).length=L1.length + 1:=by simp
   refine cb _ _<|.q Z (ah Z)<|.nil<|dV _ _<|.region<|.q Z (ae Z)<|.q Z (c8 Z)<|.q Z (aj iR iQ U Z)<|.q Z (ak jN Z Z aE Z)<|.q Z (ae Z) ?_;obtain ⟨fM,g1,fn,gP,f2,gs,gc,cX,e5,dj,eS,bC⟩:=bJ.at (i:=s) b2.slc Ok O;refine Ops.q Z (aJ m5 fC Z cX Z e5)<|.q Z (ak kW Z Z dj ((dh bC).trans (eH O)))<|.q Z (ae Z)<|.q Z (ae Z) ?_;obtain ⟨b0,gA,fS,eA,f3,aP,e6,dk,h5,en,gZ,e0⟩:=ay.at (s:=s) (x:=((w.map ix).getD i 0).toNat) O (by have:=hxw O;omega);refine Ops.q Z (aJ er dx Z aP (jr (by have:=hxw O;omega)) (by rw [e6];have:=hxw O;omega))<|.l Z (fun _ _ cc _=>aM (off:=((w.map ix).getD i 0).toNat) (c':=eA.set (((w.map ix).getD i 0).toNat) (num ((L1.length:Nat):Int))) bc rfl (by simp) rfl rfl dx dk (by show (((w.map ix).getD i 0).toNat) + 1<=_;omega) rfl rfl fun A59 ag=>?_);have bp:=ag.keep _ _ (fun q=>dR aB (s:=s) (by have:=ay.len;omega) (by rw [aP];exact congrArg some q.symm)) aE;have c3:=bV.keep ag.keep (fun q=>dR b8 (s:=s) (by have:=ay.len;omega) b0 q (by rw [aP];rfl));have b3:=b2.keep ag.keep (fun q=>dR aC (s:=s) (by have:=ay.len;omega) b0 q (by rw [aP];rfl));have c4:=bY.keep ag.keep (fun q=>dR aD (s:=s) (by have:=ay.len;omega) b0 q (by rw [aP];rfl));have bR:=e0 (((L1.length:Nat):Int)) A59 ag;have cu:=al ck bu en ag.n ag.keep;refine cc _ _<|.nil ?_;have hgr:((grow k L1 s ((w.map ix).getD i 0).toNat).getD s []).length=k:=(xm hok ar O).row s (by rw [jn];omega);have hgll:(grow k L1 s ((w.map ix).getD i 0).toNat).length=L1.length + 1:=jn;have fmG:kg A0 A59 aF (grow k L1 s ((w.map ix).getD i 0).toNat):=bR;have hgm:=fmG.len;refine bm _ _<|.region<|.q Z (ae Z)<|.q Z (c8 Z)<|.q Z (aj iR iQ U Z)<|.q Z (ak jN Z Z bp Z)<|.q Z (ae Z) ?_;obtain ⟨fN,g2,fq,gQ,f4,gC,ge,cZ,e7,dv,eT,bD⟩:=bJ.at (i:=s) b3.slc Ok O;refine Ops.q Z (aJ m5 fC Z cZ Z e7)<|.q Z (ak kW Z Z dv ((dh bD).trans (eH O)))<|.q Z (ae Z) ?_;obtain ⟨fO,g3,ft,gS,f6,gD,gf,d0,e9,dw,eV,bL⟩:=bJ.at (i:=((w.map ix).getD i 0).toNat) (fmG.fr s O).slc (by simp only [aH];have:=hxw O;omega) O;refine Ops.q Z (aJ er dx Z d0 (jr (by have:=hxw O;omega)) e9)<|.q Z (ak fj Z Z dw ((dh bL).trans (df (by have:=hxw O;omega))))<|.q Z (ah Z)<|.nil<|bl _ _<|.region<|.q Z (bN (b:=1) Z Z O)<|.q Z (ae Z)<|.nil ?_;exact ⟨⟨i + 1,E1 ++ [false],L1.length,bb,ba,aF,grow k L1 s ((w.map ix).getD i 0).toNat⟩,an.cons Z<|an.cons Z<|an.cons (congrArg (fun z:Int=>some (num z)) (by first | exact uh hok ar (by have:=hxw O;omega) | omega))<|nR Z Z Z,Z,⟨⟨by omega,zN O hrun ‹_›,xm hok ar (by have:=hxw O;omega),by omega,by omega⟩,cu,b3,c4,c3,bp,aR,aS,h,aT,cK,cP,fmG,aB,aC,aD,b8⟩,O1⟩
  refine ao.skip<|bm _ _<|.region<|.q Z (ae Z)<|.q Z (c8 Z)<|.q Z (aj iR iQ U Z)<|.q Z (ak jN Z Z a8 Z)<|.q Z (ae Z) ?_;obtain ⟨fQ,g4,fv,gX,f7,gE,gg,d1,ea,dz,eX,bM⟩:=bJ.at (i:=s) a1.slc Ok O;refine Ops.q Z (aJ m5 fC Z d1 Z ea)<|.q Z (ak kW Z Z dz ((dh bM).trans (eH O)))<|.q Z (ae Z) ?_;obtain ⟨fR,g5,fD,gY,f9,gF,gl,d2,ec,dD,eY,bO⟩:=bJ.at (i:=((w.map ix).getD i 0).toNat) (a4.fr s O).slc (by simp only [aH];have:=hxw O;omega) O;refine Ops.q Z (aJ er dx Z d2 (jr (by have:=hxw O;omega)) ec)<|.q Z (ak fj Z Z dD ((dh bO).trans (df (by have:=hxw O;omega))))<|.q Z (ah Z)<|.nil<|bl _ _<|.region<|.q Z (bN (b:=1) Z Z O)<|.q Z (ae Z)<|.nil ?_;exact ⟨⟨i + 1,E1,((L1.getD s []).getD ((w.map ix).getD i 0).toNat 0).toNat,a7,py,rw,L1⟩,an.cons Z<|an.cons Z<|an.cons (congrArg (fun z:Int=>some (num z)) (by first | exact uh hok ar (by have:=hxw O;omega) | omega))<|nR Z Z Z,Z,⟨⟨by omega,zO O hrun ‹_›,hok,by have:=hvo (by have:=hxw O;omega);omega,by omega⟩,aV,a1,a9,D,a8,ab,a3,h,ac,a5,a6,a4,ad,aa,a2,a0⟩,O1⟩
 refine ao.exit<|h4 _ _<|.region<|.q Z (ae Z)<|.q Z (c8 Z)<|.q Z (aj k8 iB U Z)<|.q Z (ak iu Z Z a8 Z)<|.q Z (ae Z) ?_;obtain ⟨bd,gG,fT,eC,fd,aY,br,dG,h7,ex,h1,e1⟩:=a9.at1 (x:=s) Oi;rw [bz] at br;refine Ops.q Z (aJ kR lJ Z aY Z (by rw [br];omega))<|.l Z (fun _ _ cf _=>aM (off:=s) (c':=eC.set s (.bool (true))) b9 rfl (by simp) rfl rfl lJ dG (by show s + 1<=_;omega) rfl rfl fun A73 ai=>?_);have dW:=ai.keep _ _ (fun q=>a3 (by rw [aY];exact congrArg some q.symm)) a8;have c7:=a1.keep ai.keep ((bh.symm ac) bd (by rw [aY];rfl));have bS:=a4.keep ai.keep (fun r hr=>a2 r hr bd (by rw [aY];rfl));have b5:=e1 (.bool (true)) A73 ai;rw [kr] at b5;have cv:=al aV bu ex ai.n ai.keep;refine cf _ _<|.nil ?_;repeat first | with_reducible refine bE ?_ | with_reducible refine bk ?_
 repeat first | with_reducible refine fa ?_ | with_reducible refine ep ?_ | with_reducible refine dX U ?_ | with_reducible refine dY ?_ | with_reducible refine dt ?_
 exact wn (vs:=[]) Z (⟨_,_,_,Z,cv,ai.wf,dW,c7,c6 b5 (congrArg cq (by rw [vr,<- List.take_of_length_le (show (w.map ix).length<=i by omega),hrun])),ab,a3,ac,lD bS (by rw [vt,<- List.take_of_length_le (show (w.map ix).length<=i by omega),hrun]),ad,aa,a2⟩)
end Go.Proofs.YtjppkekmddjcfaaGreatDoor

namespace Go.Proofs.YtjppkekmddjcfaaGreatDoor
open Go Go.RowKit V
abbrev gR (L:List (List Int)) (n x:Nat):Int:=(L.getD n []).getD x 0
structure TW (k:Nat) (L:List (List Int)) (W:List (List Nat)):Prop where
  len:W.length=L.length
  pos:0 < W.length
  zero:W.getD 0 []=[]
  nd:∀ a b,a < W.length->b < W.length->W.getD a []=W.getD b []->a=b
  pre:∀ m,0 < m->m < W.length->∃ n x,n < W.length/\x < k/\W.getD m []=W.getD n [] ++ [x]
  is:∀ n x,n < W.length->x < k->0<=gR L n x->(gR L n x).toNat < W.length/\W.getD (gR L n x).toNat []=W.getD n [] ++ [x]
  no:∀ n x,n < W.length->x < k->gR L n x < 0->W.getD n [] ++ [x] ∉ W
section
variable {k s x i:Nat} {L L1:List (List Int)} {E E1:List Bool} {xs:List Int} {W:List (List Nat)}
theorem J8 {w:List Nat} (h:w ∈ W):∃ a,a < W.length/\W.getD a []=w:=by
  obtain ⟨i,hi,rfl⟩:=List.getElem_of_mem h
  exact ⟨i,hi,by simp [hi]⟩
theorem lz {a:Nat} (h:a < W.length):W.getD a [] ∈ W:=bx h
theorem yP (h:AK k L E) (hs:s < L.length) (hx:x < k) {j y:Nat} (hj:j < L.length + 1) (hy:y < k):gR (grow k L s x) j y=if j=s/\y=x then (L.length:Int) else if j < L.length then gR L j y else -1:=by
  unfold gR
  rw [s9 (y:=0) h hs hx hj]
  by_cases h1:j=s
  · subst h1
    rw [if_pos Z,d4 (by rw [h.row j hs];exact hx)]
    by_cases h2:y=x
    · rw [if_pos h2,if_pos ⟨rfl,h2⟩]
    · rw [if_neg h2,if_neg (fun q=>h2 q.2),if_pos hs]
  · simp only [h1,false_and,if_false]
    by_cases h2:j < L.length
    · simp only [h2,if_true]
    · simp only [h2,if_false];simp [AM,hy]
theorem TW.grow (h:AK k L E) (t:TW k L W) (hs:s < L.length) (hx:x < k) (hn:gR L s x < 0):TW k (grow k L s x) (W ++ [W.getD s [] ++ [x]]):=by
  have hl:=t.len
  have e1:∀ a,a < W.length->(W ++ [W.getD s [] ++ [x]]).getD a []=W.getD a []:=fun a ha=>jP ha
  have e2:(W ++ [W.getD s [] ++ [x]]).getD W.length []=W.getD s [] ++ [x]:=by simp
  have hnew:=t.no s x O hx hn
  have key:∀ n y,n < W.length->W.getD n [] ++ [y]=W.getD s [] ++ [x]->n=s/\y=x:=fun n y D q=>by
    have:=List.append_inj' q Z
    exact ⟨t.nd n s D O this.1,by simpa using this.2⟩
  refine ⟨by rw [jn];simp [hl],by simp,by rw [e1 0 t.pos];exact t.zero,fun a b ha hb q=>?_,fun m hm V=>?_,fun n y D hy h0=>?_,fun n y D hy h0=>?_⟩
  · simp only [List.length_append,List.length_singleton] at ha hb
    rcases Nat.lt_or_ge a W.length with qa | qa
    · rcases Nat.lt_or_ge b W.length with qb | qb
      · rw [e1 a qa,e1 b qb] at q;exact t.nd a b qa qb q
      · obtain rfl:b=W.length:=by omega
        rw [e1 a qa,e2] at q;exact absurd (q ▸ lz qa) hnew
    · obtain rfl:a=W.length:=by omega
      rcases Nat.lt_or_ge b W.length with qb | qb
      · rw [e1 b qb,e2] at q;exact absurd (q ▸ lz qb) hnew
      · omega
  · simp only [List.length_append,List.length_singleton] at V
    rcases Nat.lt_or_ge m W.length with q | q
    · obtain ⟨n,y,h1,h2,h3⟩:=t.pre m hm q
      exact ⟨n,y,by simp;omega,h2,by rw [e1 m q,e1 n h1];exact h3⟩
    · obtain rfl:m=W.length:=by omega
      exact ⟨s,x,by simp;omega,hx,by rw [e2,e1 s O]⟩
  · simp only [List.length_append,List.length_singleton] at D ⊢
    rw [yP h hs hx O hy] at h0 ⊢
    split
    · rename_i q
      obtain ⟨rfl,rfl⟩:=q
      rw [Int.toNat_natCast,<- hl,e2,e1 n O]
      exact ⟨by omega,Z⟩
    · rename_i q
      rw [if_neg q] at h0
      split
      · rename_i q2
        rw [if_pos q2] at h0
        have:=t.is n y O hy h0
        rw [e1 n O,e1 _ this.1]
        exact ⟨by omega,this.2⟩
      · rename_i q2;rw [if_neg q2] at h0;omega
  · simp only [List.length_append,List.length_singleton] at D
    rw [yP h hs hx O hy] at h0
    split at h0
    · omega
    · rename_i q
      intro hm
      split at h0
      · rename_i q2
        have:=t.no n y O hy h0
        rw [e1 n O] at hm
        rcases List.mem_append.1 hm with z | z
        · exact this z
        · rw [List.mem_singleton] at z
          exact q (key n y O z)
      · rename_i q2
        obtain rfl:n=W.length:=by omega
        rw [e2] at hm
        rcases List.mem_append.1 hm with z | z
        · have hlen:∀ a b:Nat,a < W.length->W.getD a []=(W.getD s [] ++ [x]) ++ [b]->False:=fun a b ha q=>by
            rcases Nat.eq_zero_or_pos a with q0 | q0
            · subst q0;rw [t.zero] at q;simp at q
            · obtain ⟨n,y2,h1,h2,h3⟩:=t.pre a q0 ha
              rw [h3] at q
              have:=(List.append_inj' q Z).1
              exact hnew (this ▸ lz h1)
          obtain ⟨a,ha,e⟩:=J8 z
          exact hlen a y ha e
        · rw [List.mem_singleton] at z
          have:=congrArg List.length z
          simp at this
theorem TW.start:TW k [AM k] [[]]:=by
  have e:∀ n x,n < 1->x < k->gR [AM k] n x = -1:=fun n x hn hx=>by
    obtain rfl:n=0:=by omega
    simp [gR,AM,hx]
  refine ⟨rfl,by simp,rfl,fun a b ha hb _=>by simp at ha hb;omega,fun m hm h=>by simp at h;omega,fun n x hn hx h0=>?_,fun n x hn hx h0=>?_⟩
  · rw [e n x hn hx] at h0;omega
  · obtain rfl:n=0:=by simp at hn;omega
    simp
structure Qk (k:Nat) (L:List (List Int)) (E:List Bool) (W S:List (List Nat)):Prop where
  ok:AK k L E
  tw:TW k L W
  sub:∀ w ∈ S,w ∈ W
  ends:∀ m,m < W.length->(E.getD m false=true ↔ W.getD m [] ∈ S)
theorem Qk.run {S:List (List Nat)} (h:Qk k L E W S) (hx:∀ x ∈ xs,0<=x/\x < (k:Int)):∀ i,i<=xs.length->∃ W1,Qk k (m0 k L E (xs.take i)).1 (m0 k L E (xs.take i)).2.1 W1 S/\(m0 k L E (xs.take i)).2.2 < (m0 k L E (xs.take i)).1.length /\
    W1.getD (m0 k L E (xs.take i)).2.2 []=(xs.take i).map Int.toNat/\(m0 k L E (xs.take i)).1.length<=L.length + i:=by
  intro i
  induction i with
  | zero=>intro _;exact ⟨W,h,by have:=h.tw.pos;have:=h.tw.len;show 0 < L.length;omega,h.tw.zero,Nat.le_refl _⟩
  | succ i ih =>
    intro hi
    obtain ⟨W1,h1,h2,h3,h4⟩:=ih O
    rcases hr:m0 k L E (xs.take i) with ⟨L1,E1,s⟩
    rw [hr] at h1 h2 h3 h4
    simp only at h1 h2 h3 h4
    have hb:=hx _ (bx (d:=(0:Int)) (show i < xs.length by omega))
    have hl:=h1.tw.len
    have et:(xs.take (i + 1)).map Int.toNat=(xs.take i).map Int.toNat ++ [(xs.getD i 0).toNat]:=(od (z:=(0:Int)) Int.toNat (show i < xs.length by omega)).symm
    by_cases q:(L1.getD s []).getD (xs.getD i 0).toNat 0 < 0
    · rw [zN O hr q]
      refine ⟨W1 ++ [W1.getD s [] ++ [(xs.getD i 0).toNat]],⟨xm h1.ok h2 O,TW.grow h1.ok h1.tw h2 O q,fun w hw=>List.mem_append.2 (.inl (h1.sub w hw)),fun m hm=>?_⟩,by rw [jn];show L1.length < _;omega,?_,by rw [jn];omega⟩
      · simp only [List.length_append,List.length_singleton] at hm
        rcases Nat.lt_or_ge m W1.length with z | z
        · rw [jP z,jP (by rw [h1.ok.len];omega)];exact h1.ends m z
        · obtain rfl:m=W1.length:=by omega
          have e1:(E1 ++ [false]).getD W1.length false=false:=by rw [hl,<- h1.ok.len];simp
          have e2:(W1 ++ [W1.getD s [] ++ [(xs.getD i 0).toNat]]).getD W1.length []=W1.getD s [] ++ [(xs.getD i 0).toNat]:=by simp
          rw [e1,e2]
          have:=h1.tw.no s _ O O q
          exact ⟨(fun z=>by cases z),fun z=>absurd (h1.sub _ z) this⟩
      · show (W1 ++ _).getD L1.length []=_
        rw [<- hl,et,<- h3];simp
    · rw [zO O hr q]
      have:=h1.tw.is s (xs.getD i 0).toNat O O (by show 0<=(L1.getD s []).getD _ 0;omega)
      exact ⟨W1,h1,by show ((L1.getD s []).getD (xs.getD i 0).toNat 0).toNat < L1.length;rw [<- hl];exact this.1,by rw [et,<- h3];exact this.2,by show L1.length<=_;omega⟩
theorem AK.set {E2:List Bool} (h:AK k L E) (he:E2.length=E.length):AK k L E2:=⟨by rw [he,h.len],h.row,h.val⟩
def C6 (w:Wd):List Nat:=w.map fun c=>(ix c).toNat
theorem Qk.add {S:List (List Nat)} {w:Wd} (h:Qk k L E W S) (hw:∀ c ∈ w,0<=ix c/\ix c < k):∃ W1,Qk k (vt k L E w) (vr k L E w) W1 (S ++ [C6 w])/\(vt k L E w).length<=L.length + w.length:=by
  have hx:∀ x ∈ w.map ix,0<=x/\x < (k:Int):=fun x hx=>by obtain ⟨c,hc,rfl⟩:=List.mem_map.1 hx;exact hw c hc
  obtain ⟨W1,h1,h2,h3,h4⟩:=h.run hx (w.map ix).length (Nat.le_refl _)
  rw [List.take_length] at h1 h2 h3 h4
  have e3:(w.map ix).map Int.toNat=C6 w:=by rw [List.map_map];rfl
  have hl:=h1.tw.len
  refine ⟨W1,⟨h1.ok.set (by simp [vr]),h1.tw,fun u hu=>?_,fun m hm=>?_⟩,by rw [vt];rw [List.length_map] at h4;exact h4⟩
  · rcases List.mem_append.1 hu with z | z
    · exact h1.sub u z
    · rw [List.mem_singleton] at z;rw [z,<- e3,<- h3];exact lz O
  · rw [vr,d4 (by rw [h1.ok.len];exact h2)]
    split
    · rename_i q;subst q
      exact ⟨fun _=>List.mem_append.2 (.inr (List.mem_singleton.2 (by rw [h3,e3]))),fun _=>rfl⟩
    · rename_i q
      rw [h1.ends m hm,List.mem_append,List.mem_singleton]
      exact ⟨.inl,fun z=>z.elim id fun z=>absurd (h1.tw.nd m _ hm O (by rw [z,h3,e3])) q⟩
end
end Go.Proofs.YtjppkekmddjcfaaGreatDoor

namespace Go.Proofs.YtjppkekmddjcfaaGreatDoor
open Go Go.RowKit V
def sl (W:List (List Nat)):List Nat->List Nat
  | []=>[]
  | a :: t=>if a :: t ∈ W then a :: t else sl W t
def MS (W:List (List Nat)):Prop:=[] ∈ W/\∀ u x,u ++ [x] ∈ W->u ∈ W
section
variable {W S:List (List Nat)} {u w t:List Nat} {a x:Nat}
theorem xx (h:MS W):sl W w ∈ W:=by
  induction w with
  | nil=>exact h.1
  | cons a t ih=>unfold sl;split <;> assumption
theorem o9:sl W w <:+ w:=by
  induction w with
  | nil=>exact List.suffix_refl _
  | cons a t ih =>
    unfold sl;split
    · exact List.suffix_refl _
    · exact ih.trans (List.suffix_cons _ _)
theorem Ri (h:w ∈ W):sl W w=w:=by
  cases w with
  | nil=>rfl
  | cons a t=>rw [sl,if_pos h]
theorem rh (h:u <:+ a :: t):u=a :: t\/u <:+ t:=by
  rcases List.suffix_cons_iff.1 h with h | h
  · exact .inl h
  · exact .inr h
theorem te (hu:u ∈ W) (h:u <:+ w):u <:+ sl W w:=by
  induction w with
  | nil=>exact h
  | cons a t ih =>
    unfold sl;split
    · exact h
    · rename_i q
      rcases rh h with z | z
      · exact absurd (z ▸ hu) q
      · exact ih z
theorem ye {u v:List Nat} (h:u <:+ v) (h':v <:+ u):u=v:=h.eq_of_length (Nat.le_antisymm h.length_le h'.length_le)
theorem zk (hp:MS W):sl W (w ++ [x])=sl W (sl W w ++ [x]):=by
  refine ye ?_ ?_
  · refine te (xx hp) ?_
    have h1:sl W (w ++ [x]) <:+ w ++ [x]:=o9
    have h2:sl W (w ++ [x]) ∈ W:=xx hp
    rcases List.eq_nil_or_concat (sl W (w ++ [x])) with q | ⟨u,y,q⟩
    · rw [q];exact List.nil_suffix
    · rw [List.concat_eq_append] at q
      rw [q] at h1 h2 ⊢
      obtain ⟨r,hr⟩:=h1
      rw [<- List.append_assoc] at hr
      obtain ⟨e1,e2⟩:=List.append_inj' hr Z
      have hu:=te (hp.2 u y h2) (⟨r,e1⟩:u <:+ w)
      obtain ⟨r',hr'⟩:=hu
      exact ⟨r',by rw [<- List.append_assoc,hr',e2]⟩
  · refine te (xx hp) ((o9).trans ?_)
    obtain ⟨r,hr⟩:=(o9:sl W w <:+ w)
    exact ⟨r,by rw [<- List.append_assoc,hr]⟩
end
theorem TW.prec {k:Nat} {L:List (List Int)} {W:List (List Nat)} (h:TW k L W):MS W:=by
  refine ⟨h.zero ▸ lz h.pos,fun u x hu=>?_⟩
  obtain ⟨m,hm,e⟩:=J8 hu
  rcases Nat.eq_zero_or_pos m with q | q
  · subst q;rw [h.zero] at e;simp at e
  · obtain ⟨n,y,h1,h2,h3⟩:=h.pre m q hm
    rw [h3] at e
    exact (List.append_inj' e Z).1 ▸ lz h1
structure BS where
  L:List (List Int)
  E:List Bool
  F:List Int
  Q:List Int
abbrev kf (b:BS) (n x:Nat):Int:=if n=0 then 0 else gR b.L (b.F.getD n 0).toNat x
def tG (n:Nat) (b:BS) (x:Nat):BS :=
  if gR b.L n x < 0 then { b with L:=b.L.set n ((b.L.getD n []).set x (kf b n x)) }
  else ⟨b.L,b.E.set (gR b.L n x).toNat (b.E.getD (gR b.L n x).toNat false || b.E.getD (kf b n x).toNat false),b.F.set (gR b.L n x).toNat (kf b n x),b.Q ++ [gR b.L n x]⟩
abbrev qn (b:BS) (a:Nat):Nat:=(b.Q.getD a 0).toNat
structure BI (k:Nat) (L0:List (List Int)) (W S:List (List Nat)) (b:BS) (i j:Nat):Prop where
  len:b.L.length=W.length/\b.E.length=W.length/\b.F.length=W.length
  row:∀ s,s < W.length->(b.L.getD s []).length=k
  q0:0 < b.Q.length/\b.Q.getD 0 0=0
  qr:∀ a,a < b.Q.length->0<=b.Q.getD a 0/\b.Q.getD a 0 < W.length
  qd:∀ a c,a < b.Q.length->c < b.Q.length->qn b a=qn b c->a=c
  srt:∀ a c,a<=c->c < b.Q.length->(W.getD (qn b a) []).length<=(W.getD (qn b c) []).length
  same:∀ n x,n < W.length->x < k->(∀ a,a < b.Q.length->qn b a=n->i < a\/a=i/\j<=x)->gR b.L n x=gR L0 n x
  done:∀ a x,a < b.Q.length->x < k->(a < i\/a=i/\x < j)->0<=gR b.L (qn b a) x/\gR b.L (qn b a) x < W.length/\W.getD (gR b.L (qn b a) x).toNat []=sl W (W.getD (qn b a) [] ++ [x])
  ch:∀ a x,a < b.Q.length->x < k->(a < i\/a=i/\x < j)->W.getD (qn b a) [] ++ [x] ∈ W->∃ c,c < b.Q.length/\W.getD (qn b c) []=W.getD (qn b a) [] ++ [x]
  pa:∀ c,0 < c->c < b.Q.length->∃ a x,a < b.Q.length/\x < k/\(a < i\/a=i/\x < j)/\W.getD (qn b c) []=W.getD (qn b a) [] ++ [x]
  fl:∀ c,0 < c->c < b.Q.length->0<=b.F.getD (qn b c) 0/\b.F.getD (qn b c) 0 < W.length/\W.getD (b.F.getD (qn b c) 0).toNat []=sl W ((W.getD (qn b c) []).drop 1)
  eq:∀ c,c < b.Q.length->(b.E.getD (qn b c) false=true ↔ ∃ u ∈ S,u <:+ W.getD (qn b c) [])
  en:∀ m,m < W.length->(∀ c,c < b.Q.length->qn b c ≠ m)->(b.E.getD m false=true ↔ W.getD m [] ∈ S)
section
variable {k i j:Nat} {L0:List (List Int)} {E0:List Bool} {W S:List (List Nat)} {b:BS}
theorem BI.before (h:BI k L0 W S b i j) (t:TW k L0 W) (hi:i < b.Q.length):∀ n p,p < W.length->(W.getD p []).length=n->n < (W.getD (qn b i) []).length->∃ a,a < i/\qn b a=p:=by
  intro n
  induction n with
  | zero =>
    intro p hp hl hn
    have e:p=0:=t.nd p 0 hp t.pos (by rw [t.zero];exact List.length_eq_zero_iff.1 hl)
    subst e
    have q0:qn b 0=0:=by unfold qn;rw [h.q0.2];rfl
    refine ⟨0,?_,q0⟩
    rcases Nat.eq_zero_or_pos i with q | q
    · subst q;rw [q0,t.zero] at hn;simp at hn
    · exact q
  | succ n ih =>
    intro p hp hl hn
    have D:0 < p:=by
      rcases Nat.eq_zero_or_pos p with q | q
      · subst q;rw [t.zero] at hl;simp at hl
      · exact q
    obtain ⟨m,x,h1,h2,h3⟩:=t.pre p D hp
    have hml:(W.getD m []).length=n:=by rw [h3] at hl;simpa using hl
    obtain ⟨a,ha,ea⟩:=ih m h1 hml O
    obtain ⟨c,hc,ec⟩:=h.ch a x O h2 (.inl ha) (by rw [ea,<- h3];exact lz hp)
    have ecp:qn b c=p:=t.nd _ _ (by have:=h.qr c hc;unfold qn;omega) hp (by rw [ec,ea,h3])
    refine ⟨c,?_,ecp⟩
    refine Classical.byContradiction fun q=>?_
    have:=h.srt i c O hc
    rw [ecp] at this;omega
theorem BI.qlt (h:BI k L0 W S b i j) {a:Nat} (ha:a < b.Q.length):qn b a < W.length:=by have:=h.qr a ha;unfold qn;omega
theorem BI.to (h:BI k L0 W S b i j) (t:TW k L0 W) (hi:i < b.Q.length) (hj:j < k):0<=kf b (qn b i) j/\kf b (qn b i) j < W.length/\W.getD (kf b (qn b i) j).toNat []=sl W ((W.getD (qn b i) [] ++ [j]).drop 1) /\
    ∃ c,c < b.Q.length/\qn b c=(kf b (qn b i) j).toNat:=by
  have hq:=h.qlt hi
  by_cases hz:qn b i=0
  · rw [kf,if_pos hz,hz,t.zero]
    have q0:qn b 0=0:=by unfold qn;rw [h.q0.2];rfl
    exact ⟨Int.le_refl _,by have:=t.pos;omega,by show W.getD 0 []=_;rw [t.zero];rfl,0,h.q0.1,q0⟩
  · rw [kf,if_neg hz]
    have X:0 < i:=by
      rcases Nat.eq_zero_or_pos i with q | q
      · subst q;exact absurd (by unfold qn;rw [h.q0.2];rfl) hz
      · exact q
    obtain ⟨f1,f2,f3⟩:=h.fl i X hi
    generalize hw:W.getD (qn b i) []=w at *
    obtain ⟨a0,w0,rfl⟩:∃ a0 w0,w=a0 :: w0:=by
      cases w with
      | nil=>exact absurd (t.nd _ 0 hq t.pos (by rw [hw,t.zero])) hz
      | cons a0 w0=>exact ⟨a0,w0,Z⟩
    simp only [List.drop_one,List.tail_cons,List.cons_append] at f3 ⊢
    have hsh:(W.getD (b.F.getD (qn b i) 0).toNat []).length < (W.getD (qn b i) []).length:=by
      rw [f3,hw];have:=(o9:sl W w0 <:+ w0).length_le;simp;omega
    obtain ⟨c,hc,ec⟩:=h.before t hi _ _ O Z hsh
    have hd:=h.done c j O hj (.inl hc)
    rw [ec] at hd
    refine ⟨hd.1,hd.2.1,by rw [hd.2.2,f3,<- zk t.prec],?_⟩
    -- it has been met,as its word is not longer than the node's
    have a1:(W.getD (gR b.L (b.F.getD (qn b i) 0).toNat j).toNat []).length<=(W.getD (qn b i) []).length:=by
      rw [hd.2.2,f3,<- zk t.prec]
      have:=(o9:sl W (w0 ++ [j]) <:+ w0 ++ [j]).length_le
      rw [hw];simp at this ⊢;omega
    generalize hr:(gR b.L (b.F.getD (qn b i) 0).toNat j).toNat=r at *
    have hrW:r < W.length:=by omega
    rcases Nat.lt_or_ge (W.getD r []).length (W.getD (qn b i) []).length with q | q
    · obtain ⟨c,hc,ec⟩:=h.before t hi _ r hrW Z q
      exact ⟨c,by omega,ec⟩
    · rcases Nat.eq_zero_or_pos r with z | z
      · subst z
        have q0:qn b 0=0:=by unfold qn;rw [h.q0.2];rfl
        exact ⟨0,h.q0.1,q0⟩
      · obtain ⟨m,x,h1,h2,h3⟩:=t.pre r z hrW
        have hm:(W.getD m []).length < (W.getD (qn b i) []).length:=by rw [h3,List.length_append,List.length_singleton] at a1;omega
        obtain ⟨c,hc,ec⟩:=h.before t hi _ m h1 Z hm
        obtain ⟨d,D,V⟩:=h.ch c x O h2 (.inl hc) (by rw [ec,<- h3];exact lz hrW)
        exact ⟨d,D,t.nd _ _ (h.qlt D) hrW (by rw [V,ec,h3])⟩
theorem RQ {L:List (List Int)} {n x m y:Nat} {v:Int} (hn:n < L.length) (hx:x < (L.getD n []).length):gR (L.set n ((L.getD n []).set x v)) m y=if m=n/\y=x then v else gR L m y:=by
  unfold gR
  rw [d4 hn]
  by_cases h:m=n
  · subst h
    rw [if_pos Z,d4 hx]
    by_cases h2:y=x <;> simp [h2]
  · simp [h]
theorem BI.step (h:BI k L0 W S b i j) (t:TW k L0 W) (hs:∀ w ∈ S,w ∈ W) (hne:[] ∉ S) (hi:i < b.Q.length) (hj:j < k):BI k L0 W S (tG (qn b i) b j) i (j + 1):=by
  have hq:=h.qlt hi
  obtain ⟨t1,t2,t3,t4⟩:=h.to t hi hj
  have hsame:gR b.L (qn b i) j=gR L0 (qn b i) j:=h.same _ _ hq hj fun a ha ea=>by
    have:=h.qd a i ha hi ea;exact .inr ⟨this,by omega⟩
  have V:∀ a,a < b.Q.length->qn b a=qn b i->a=i:=fun a ha ea=>h.qd a i ha hi ea
  unfold tG
  split
  · -- the letter leads nowhere yet
    rename_i hneg
    have hno:=t.no (qn b i) j hq hj (by rw [<- hsame];exact hneg)
    have hval:W.getD (kf b (qn b i) j).toNat []=sl W (W.getD (qn b i) [] ++ [j]):=by
      rw [t3]
      cases hw:W.getD (qn b i) [] ++ [j] with
      | nil=>simp at hw
      | cons a0 w0=>rw [hw] at hno;rw [sl,if_neg hno];rfl
    have hent:∀ m y,gR (b.L.set (qn b i) ((b.L.getD (qn b i) []).set j (kf b (qn b i) j))) m y=if m=qn b i/\y=j then kf b (qn b i) j else gR b.L m y:=fun m y=>RQ (by rw [h.len.1];exact hq) (by rw [h.row _ hq];exact hj)
    refine ⟨⟨by simp [h.len.1],h.len.2⟩,fun s hs'=>?_,h.q0,h.qr,h.qd,h.srt,fun n x hn hx hc=>?_,fun a x ha hx hc=>?_,fun a x ha hx hc hm=>?_,fun c D hc=>?_,h.fl,h.eq,h.en⟩
    · show ((b.L.set _ _).getD s []).length=k
      rw [d4 (by rw [h.len.1];exact hq)]
      split
      · rw [List.length_set];exact h.row _ hq
      · exact h.row s hs'
    · show gR (b.L.set _ _) n x=_
      rw [hent,if_neg]
      · exact h.same n x hn hx fun a ha ea=>by rcases hc a ha ea with q | q;exact .inl q;exact .inr ⟨q.1,by omega⟩
      · rintro ⟨rfl,rfl⟩
        rcases hc i hi rfl with q | q <;> omega
    · show 0<=gR (b.L.set _ _) (qn b a) x/\_
      have e:gR (b.L.set (qn b i) ((b.L.getD (qn b i) []).set j (kf b (qn b i) j))) (qn b a) x=if qn b a=qn b i/\x=j then kf b (qn b i) j else gR b.L (qn b a) x:=hent _ _
      show 0<=gR (b.L.set (qn b i) ((b.L.getD (qn b i) []).set j (kf b (qn b i) j))) (qn b a) x/\gR (b.L.set (qn b i) ((b.L.getD (qn b i) []).set j (kf b (qn b i) j))) (qn b a) x < W.length/\W.getD (gR (b.L.set (qn b i) ((b.L.getD (qn b i) []).set j (kf b (qn b i) j))) (qn b a) x).toNat []=_
      rw [e]
      by_cases q:qn b a=qn b i/\x=j
      · rw [if_pos q,q.1,q.2];exact ⟨t1,t2,hval⟩
      · rw [if_neg q]
        exact h.done a x ha hx (by
          rcases hc with c | c
          · exact .inl c
          · exact .inr ⟨c.1,by have:¬ x=j:=fun z=>q ⟨by rw [c.1],z⟩;omega⟩)
    · rcases hc with c | c
      · exact h.ch a x ha hx (.inl c) hm
      · by_cases z:x=j
        · obtain ⟨rfl,_⟩:=c;subst z;exact absurd hm hno
        · exact h.ch a x ha hx (.inr ⟨c.1,by omega⟩) hm
    · obtain ⟨a,x,h1,h2,h3,h4⟩:=h.pa c D hc
      exact ⟨a,x,h1,h2,by rcases h3 with c | c;exact .inl c;exact .inr ⟨c.1,by omega⟩,h4⟩
  · -- a node that is met now
    rename_i hpos
    obtain ⟨m1,m2⟩:=t.is (qn b i) j hq hj (by rw [<- hsame];omega)
    rw [<- hsame] at m1 m2
    generalize hm:gR b.L (qn b i) j=z at *
    obtain ⟨m,rfl⟩:∃ m:Nat,z=m:=⟨z.toNat,by omega⟩
    rw [Int.toNat_natCast] at m1 m2 ⊢
    have fresh:∀ c,c < b.Q.length->qn b c ≠ m:=fun c hc ec=>by
      rcases Nat.eq_zero_or_pos c with q | q
      · subst q
        have q0:qn b 0=0:=by unfold qn;rw [h.q0.2];rfl
        rw [q0] at ec;rw [<- ec,t.zero] at m2;simp at m2
      · obtain ⟨a,x,h1,h2,h3,h4⟩:=h.pa c q hc
        rw [ec,m2] at h4
        obtain ⟨e1,e2⟩:=List.append_inj' h4 Z
        have ea:=V a h1 (t.nd _ _ (h.qlt h1) hq e1.symm)
        have ex:x=j:=by simpa using e2.symm
        rcases h3 with c | c <;> omega
    have g1:∀ a,a < b.Q.length->(b.Q ++ [(m:Int)]).getD a 0=b.Q.getD a 0:=fun a ha=>jP ha
    have g2:(b.Q ++ [(m:Int)]).getD b.Q.length 0=m:=by simp
    have n1:∀ a,a < b.Q.length->((b.Q ++ [(m:Int)]).getD a 0).toNat=qn b a:=fun a ha=>by rw [g1 a ha]
    have n2:((b.Q ++ [(m:Int)]).getD b.Q.length 0).toNat=m:=by rw [g2];rfl
    have lw:(W.getD m []).length=(W.getD (qn b i) []).length + 1:=by rw [m2];simp
    have vB:∀ c,c < b.Q.length->(W.getD (qn b c) []).length<=(W.getD (qn b i) []).length + 1:=fun c hc=>by
      rcases Nat.eq_zero_or_pos c with q | q
      · subst q
        have q0:qn b 0=0:=by unfold qn;rw [h.q0.2];rfl
        rw [q0,t.zero];simp
      · obtain ⟨a,x,h1,h2,h3,h4⟩:=h.pa c q hc
        rw [h4,List.length_append,List.length_singleton]
        have:=h.srt a i (by rcases h3 with c | c <;> omega) hi
        omega
    have lt:∀ {a},a < (b.Q ++ [(m:Int)]).length->a < b.Q.length\/a=b.Q.length:=fun {a} ha=>by simp at ha;omega
    refine ⟨⟨h.len.1,by simp [h.len.2.1],by simp [h.len.2.2]⟩,h.row,⟨by simp,by show (b.Q ++ [(m:Int)]).getD 0 0=0;rw [g1 0 h.q0.1];exact h.q0.2⟩,fun a ha=>?_,fun a c ha hc ec=>?_,fun a c hac hc=>?_,fun n x hn hx hc=>?_,fun a x ha hx hc=>?_,fun a x ha hx hc hm'=>?_,fun c D hc=>?_,fun c D hc=>?_,fun c hc=>?_,fun p hp hc=>?_⟩
    · show 0<=(b.Q ++ [(m:Int)]).getD a 0/\(b.Q ++ [(m:Int)]).getD a 0 < W.length
      rcases lt ha with q | q
      · rw [g1 a q];exact h.qr a q
      · rw [q,g2];omega
    · have ec:((b.Q ++ [(m:Int)]).getD a 0).toNat=((b.Q ++ [(m:Int)]).getD c 0).toNat:=ec
      rcases lt ha with q | q
      · rcases lt hc with q2 | q2
        · rw [n1 a q,n1 c q2] at ec;exact h.qd a c q q2 ec
        · rw [n1 a q,q2,n2] at ec;exact absurd ec (fresh a q)
      · rcases lt hc with q2 | q2
        · rw [n1 c q2,q,n2] at ec;exact absurd ec.symm (fresh c q2)
        · omega
    · show (W.getD ((b.Q ++ [(m:Int)]).getD a 0).toNat []).length<=(W.getD ((b.Q ++ [(m:Int)]).getD c 0).toNat []).length
      rcases lt hc with q2 | q2
      · rw [n1 a O,n1 c q2];exact h.srt a c hac q2
      · rw [q2,n2]
        rcases Nat.lt_or_ge a b.Q.length with q | q
        · rw [n1 a q,lw];exact vB a q
        · rw [show a=b.Q.length by omega,n2];exact Nat.le_refl _
    · refine h.same n x hn hx fun a ha ea=>?_
      have:=hc a Ox (by show ((b.Q ++ [(m:Int)]).getD a 0).toNat=n;rw [n1 a ha];exact ea)
      rcases this with q | q
      · exact .inl q
      · exact .inr ⟨q.1,by omega⟩
    · show 0<=gR b.L ((b.Q ++ [(m:Int)]).getD a 0).toNat x/\gR b.L ((b.Q ++ [(m:Int)]).getD a 0).toNat x < W.length/\W.getD (gR b.L ((b.Q ++ [(m:Int)]).getD a 0).toNat x).toNat []=sl W (W.getD ((b.Q ++ [(m:Int)]).getD a 0).toNat [] ++ [x])
      have hal:a < b.Q.length:=by omega
      rw [n1 a hal]
      by_cases q:a=i/\x=j
      · obtain ⟨rfl,rfl⟩:=q
        rw [hm,Int.toNat_natCast,m2,<- m2,Ri (lz m1)]
        exact ⟨by omega,by omega,Z⟩
      · exact h.done a x hal hx (by
          rcases hc with c | c
          · exact .inl c
          · exact .inr ⟨c.1,by have:¬ x=j:=fun z=>q ⟨c.1,z⟩;omega⟩)
    · show ∃ c,c < (b.Q ++ [(m:Int)]).length/\W.getD ((b.Q ++ [(m:Int)]).getD c 0).toNat []=W.getD ((b.Q ++ [(m:Int)]).getD a 0).toNat [] ++ [x]
      have hal:a < b.Q.length:=by omega
      have hm':W.getD ((b.Q ++ [(m:Int)]).getD a 0).toNat [] ++ [x] ∈ W:=hm'
      rw [n1 a hal] at hm' ⊢
      by_cases q:a=i/\x=j
      · obtain ⟨rfl,rfl⟩:=q
        exact ⟨b.Q.length,by simp,by rw [n2];exact m2⟩
      · obtain ⟨c,c1,c2⟩:=h.ch a x hal hx (by
          rcases hc with c | c
          · exact .inl c
          · exact .inr ⟨c.1,by have:¬ x=j:=fun z=>q ⟨c.1,z⟩;omega⟩) hm'
        exact ⟨c,by simp;omega,by rw [n1 c c1];exact c2⟩
    · show ∃ a x,a < (b.Q ++ [(m:Int)]).length/\x < k/\(a < i\/a=i/\x < j + 1)/\W.getD ((b.Q ++ [(m:Int)]).getD c 0).toNat []=W.getD ((b.Q ++ [(m:Int)]).getD a 0).toNat [] ++ [x]
      rcases lt hc with q | q
      · obtain ⟨a,x,h1,h2,h3,h4⟩:=h.pa c D q
        exact ⟨a,x,by simp;omega,h2,by rcases h3 with c | c;exact .inl c;exact .inr ⟨c.1,by omega⟩,by rw [n1 c q,n1 a h1];exact h4⟩
      · exact ⟨i,j,by simp;omega,hj,.inr ⟨Z,by omega⟩,by rw [q,n2,n1 i hi];exact m2⟩
    · show 0<=(b.F.set m (kf b (qn b i) j)).getD ((b.Q ++ [(m:Int)]).getD c 0).toNat 0/\(b.F.set m (kf b (qn b i) j)).getD ((b.Q ++ [(m:Int)]).getD c 0).toNat 0 < W.length/\W.getD ((b.F.set m (kf b (qn b i) j)).getD ((b.Q ++ [(m:Int)]).getD c 0).toNat 0).toNat []=sl W ((W.getD ((b.Q ++ [(m:Int)]).getD c 0).toNat []).drop 1)
      rw [d4 (by rw [h.len.2.2];exact m1)]
      rcases lt hc with q | q
      · rw [n1 c q,if_neg (fresh c q)];exact h.fl c D q
      · rw [q,n2,if_pos Z,m2];exact ⟨t1,t2,t3⟩
    · show (b.E.set m (b.E.getD m false || b.E.getD (kf b (qn b i) j).toNat false)).getD ((b.Q ++ [(m:Int)]).getD c 0).toNat false=true ↔ ∃ u ∈ S,u <:+ W.getD ((b.Q ++ [(m:Int)]).getD c 0).toNat []
      rw [d4 (by rw [h.len.2.1];exact m1)]
      rcases lt hc with q | q
      · rw [n1 c q,if_neg (fresh c q)];exact h.eq c q
      · rw [q,n2,if_pos Z,Bool.or_eq_true,h.en m m1 fresh]
        obtain ⟨d,d1,d2⟩:=t4
        rw [<- d2,h.eq d d1,d2,t3,<- m2]
        constructor
        · rintro (z | ⟨u,u1,u2⟩)
          · exact ⟨_,z,List.suffix_refl _⟩
          · exact ⟨u,u1,u2.trans (o9.trans (List.drop_suffix _ _))⟩
        · rintro ⟨u,u1,u2⟩
          cases hw:W.getD m [] with
          | nil=>rw [hw] at lw;simp at lw
          | cons a0 w0 =>
            rw [hw] at u2
            rcases rh u2 with z | z
            · exact .inl (z ▸ u1)
            · exact .inr ⟨u,u1,te (hs u u1) z⟩
    · show (b.E.set m (b.E.getD m false || b.E.getD (kf b (qn b i) j).toNat false)).getD p false=true ↔ _
      have hpm:p ≠ m:=fun z=>hc b.Q.length (by simp) (by show ((b.Q ++ [(m:Int)]).getD b.Q.length 0).toNat=p;rw [n2,z])
      rw [d4 (by rw [h.len.2.1];exact m1),if_neg hpm]
      exact h.en p hp fun c hc'=>by have:=hc c Ox;intro z;exact this (by show ((b.Q ++ [(m:Int)]).getD c 0).toNat=p;rw [n1 c hc'];exact z)
theorem BI.start (h:Qk k L0 E0 W S) (hne:[] ∉ S):BI k L0 W S ⟨L0,E0,List.replicate W.length 0,[0]⟩ 0 0:=by
  have hl:=h.tw.len
  have q0:∀ a,a < ([0]:List Int).length->a=0:=fun a ha=>by simpa using ha
  refine ⟨⟨hl.symm,by rw [hl];exact h.ok.len,List.length_replicate⟩,fun s hs=>h.ok.row s O,⟨Nat.zero_lt_one,rfl⟩,fun a ha=>?_,fun a c ha hc _=>?_,fun a c hac hc=>?_,fun n x hn hx _=>rfl,fun a x ha hx hc=>?_,fun a x ha hx hc=>?_,fun c D hc=>?_,fun c D hc=>?_,fun c hc=>?_,fun m hm _=>h.ends m hm⟩
  · rw [q0 a ha];exact ⟨Int.le_refl _,by have:=h.tw.pos;show (0:Int) < W.length;omega⟩
  · rw [q0 a ha,q0 c hc]
  · rw [q0 c hc,q0 a (by have:=q0 c hc;show a < 1;omega)];exact Nat.le_refl _
  · omega
  · omega
  · exact absurd (q0 c hc) O
  · exact absurd (q0 c hc) O
  · rw [q0 c hc]
    show E0.getD 0 false=true ↔ ∃ u ∈ S,u <:+ W.getD 0 []
    rw [h.ends 0 h.tw.pos,h.tw.zero]
    exact ⟨fun z=>absurd z hne,fun ⟨u,u1,u2⟩=>absurd ((List.suffix_nil.1 u2) ▸ u1) hne⟩
theorem BI.next (h:BI k L0 W S b i k) (hi:i < b.Q.length):BI k L0 W S b (i + 1) 0:=by
  have e:∀ {a x},x < k->(a < i + 1\/a=i + 1/\x < 0)->(a < i\/a=i/\x < k):=fun {a x} hx hc=>by omega
  exact ⟨h.len,h.row,h.q0,h.qr,h.qd,h.srt,fun n x hn hx hc=>h.same n x hn hx fun a ha ea=>by have:=hc a ha ea;omega,fun a x ha hx hc=>h.done a x ha hx (e hx hc),fun a x ha hx hc=>h.ch a x ha hx (e hx hc),
    fun c D hc=>by obtain ⟨a,x,h1,h2,h3,h4⟩:=h.pa c D hc;exact ⟨a,x,h1,h2,by omega,h4⟩,h.fl,h.eq,h.en⟩
theorem og:∀ (n:Nat) (l:List Nat),l.Nodup->(∀ x ∈ l,x < n)->l.length<=n
  | 0,l,_,h=>by
    cases l with
    | nil=>exact Nat.le_refl _
    | cons a l=>exact absurd (h a List.mem_cons_self) O
  | n + 1,l,hn,h=>by
    have h1:=og n (l.erase n) (hn.erase n) (fun x hx=>by
      have h2:=h x (List.mem_of_mem_erase hx)
      have h3:x ≠ n:=by rintro rfl;exact hn.not_mem_erase hx
      omega)
    by_cases hm:n ∈ l
    · rw [List.length_erase_of_mem hm] at h1;omega
    · rw [List.erase_of_not_mem hm] at h1;omega
theorem pc {l:List Nat} {n:Nat} (h1:l.Nodup) (h2:∀ x ∈ l,x < n):l.length<=n:=og _ _ h1 h2
theorem BI.qlen (h:BI k L0 W S b i j):b.Q.length<=W.length:=by
  have:=pc (l:=(List.range b.Q.length).map (qn b)) (n:=W.length) ?_ ?_
  · simpa using this
  · rw [List.nodup_iff_pairwise_ne,List.pairwise_map]
    exact List.Pairwise.imp_of_mem (fun {a c} ha hc hac e=>hac (h.qd a c (List.mem_range.1 ha) (List.mem_range.1 hc) e)) List.nodup_range
  · intro x hx
    obtain ⟨a,ha,rfl⟩:=List.mem_map.1 hx
    exact h.qlt (List.mem_range.1 ha)
theorem BI.all (h:BI k L0 W S b i 0) (t:TW k L0 W) (hi:b.Q.length<=i):∀ n p,p < W.length->(W.getD p []).length=n->∃ a,a < b.Q.length/\qn b a=p:=by
  intro n
  induction n with
  | zero =>
    intro p hp hl
    have e:p=0:=t.nd p 0 hp t.pos (by rw [t.zero];exact List.length_eq_zero_iff.1 hl)
    subst e
    exact ⟨0,h.q0.1,by unfold qn;rw [h.q0.2];rfl⟩
  | succ n ih =>
    intro p hp hl
    have D:0 < p:=by
      rcases Nat.eq_zero_or_pos p with q | q
      · subst q;rw [t.zero] at hl;simp at hl
      · exact q
    obtain ⟨m,x,h1,h2,h3⟩:=t.pre p D hp
    obtain ⟨a,ha,ea⟩:=ih m h1 (by rw [h3] at hl;simpa using hl)
    obtain ⟨c,hc,ec⟩:=h.ch a x ha h2 (.inl O) (by rw [ea,<- h3];exact lz hp)
    exact ⟨c,hc,t.nd _ _ (h.qlt hc) hp (by rw [ec,ea,h3])⟩
structure Sl (k:Nat) (L:List (List Int)) (E:List Bool) (W S:List (List Nat)):Prop where
  len:L.length=W.length/\E.length=W.length
  row:∀ s,s < W.length->(L.getD s []).length=k
  pos:0 < W.length
  zero:W.getD 0 []=[]
  nd:∀ a b,a < W.length->b < W.length->W.getD a []=W.getD b []->a=b
  prec:MS W
  sub:∀ w ∈ S,w ∈ W
  to:∀ n x,n < W.length->x < k->0<=gR L n x/\gR L n x < W.length/\W.getD (gR L n x).toNat []=sl W (W.getD n [] ++ [x])
  ends:∀ n,n < W.length->(E.getD n false=true ↔ ∃ u ∈ S,u <:+ W.getD n [])
theorem BI.aho (h:BI k L0 W S b i 0) (t:TW k L0 W) (hs:∀ w ∈ S,w ∈ W) (hi:b.Q.length<=i):Sl k b.L b.E W S :=
  ⟨⟨h.len.1,h.len.2.1⟩,h.row,t.pos,t.zero,t.nd,t.prec,hs,fun n x hn hx=>by
    obtain ⟨a,ha,rfl⟩:=h.all t hi _ n hn Z
    exact h.done a x ha hx (.inl O),fun n hn=>by
    obtain ⟨a,ha,rfl⟩:=h.all t hi _ n hn Z
    exact h.eq a ha⟩
end
structure I3 (k:Nat) (acc:List Bool) (L:List (List Int)):Prop where
  sym:1<=k/\k<=400
  len:acc.length=L.length
  num:0 < L.length/\L.length<=20000
  row:∀ s,s < L.length->(L.getD s []).length=k
  val:∀ s x,s < L.length->x < k->-1<=gR L s x/\gR L s x < L.length
end Go.Proofs.YtjppkekmddjcfaaGreatDoor

namespace Go.Proofs.YtjppkekmddjcfaaGreatDoor
open Go Go.RowKit V
set_option maxRecDepth 100000
theorem rD:eb Tryz.prog 62 0=some (3,0):=by kernel_rfl
theorem uf:eb Tryz.prog 62 1=some (3,1):=by kernel_rfl
theorem kF:eb Tryz.prog 62 2=some (59,2):=by kernel_rfl
theorem kG:eb Tryz.prog 62 3=some (60,3):=by kernel_rfl

theorem LJ (k:Nat) (acc:List Bool) (L:List (List Int)) (av nv:Value) (rows:List Value) (A:AH) (hok:I3 k acc L) (hav:bJ A 1 av (cq acc)) (hnv:bJ A 1 nv (em rows)) (hrl:rows.length=L.length) (hF:∀ i,i < L.length->bJ A 1 (rows.getD i undef) (c9 (L.getD i []))):bG Tryz.prog 116 #[.agg #[num ((k:Nat):Int),num ((0:Nat):Int),av,nv]] A (fun v A1=>v=num ((0:Nat):Int)/\A.le A1/\A1.wf):=by
 refine iy Tryz.call116 Tryz.func116 Z Tryz.results116 Tryz.ntmps116 Z (fun wf=>?_);have b7:=AH.le.refl A;obtain ⟨⟨bV,bY⟩,hal,⟨bT,bU⟩,hrow,hval⟩:=hok;refine ao.seq fun _ h2=>.region<|.l Z (fun _ _ b3 _=>ej wf rfl rfl fun A5 b4 h=>?_);have D:=b7.trans h.le;refine b3 _ _<|.q Z (ah Z)<|.nil<|h2 _ _<|.seq fun _ h9=>.region<|.q Z (aj kF iB U Z)<|.q Z (ak iu Z Z h.get Z)<|.q Z (bH (n:=acc.length) kR Z (hav.le D) O (ff _))<|.q Z (ah Z) ?_;refine Ops.nil<|h9 _ _<|.seq fun _ ag=>.seq fun _ a1=>.region<|.q Z (aj rD dx U Z)<|.q Z (ak fj Z Z h.get Z)<|.q Z (cA (b:=1) Z Z)<|.q Z (ae Z)<|.part (t:=14) Z (fun b8=>?_) (fun b8=>?_)
 ·refine Ops.off Z Z Z Z<|.off Z Z Z Z<|.off Z Z Z Z<|.q Z (bi Z Z)<|.q Z (ae Z)<|.off Z Z Z Z<|.off Z Z Z Z<|.q Z (bi Z Z)<|.q Z (ae Z)<|.off Z Z Z Z ?_;refine Ops.off Z Z Z Z<|.off Z Z Z Z<|.off Z Z Z Z<|.off Z Z Z Z<|.q Z (bi Z Z)<|.q Z (ae Z)<|.off Z Z Z Z<|.off Z Z Z Z<|.off Z Z Z Z<|.q Z (bi Z Z) ?_;refine Ops.q Z (ae Z)<|.off Z Z Z Z<|.off Z Z Z Z<|.off Z Z Z Z<|.off Z Z Z Z<|.off Z Z Z Z<|.q Z (bi Z Z)<|.nil<|a1 _ _<|.cond_true Z ?_;refine ao.seq fun _ ai=>.region<|.q Z (ah Z)<|.nil<|ai _ _<|.rt (by exact be Z (⟨by first | rfl | (exfalso;omega) | (exfalso;have:=hro O;omega) | (exfalso;have:=hva O;simp only [gR] at this;omega),D,h.wf⟩))
 refine Ops.on Z Z<|.q Z (aj rD dx U Z)<|.on Z Z<|.q Z (ak fj Z Z h.get Z)<|.on Z Z<|.q Z (fu (b:=400) Z Z)<|.q Z (bw Z Z)<|.q Z (ae Z)<|.part (t:=19) Z (fun b9=>?_) (fun b9=>?_)
 ·refine Ops.off Z Z Z Z<|.off Z Z Z Z<|.q Z (bi Z Z)<|.q Z (ae Z)<|.off Z Z Z Z<|.off Z Z Z Z<|.off Z Z Z Z<|.off Z Z Z Z<|.off Z Z Z Z<|.q Z (bi Z Z) ?_;refine Ops.q Z (ae Z)<|.off Z Z Z Z<|.off Z Z Z Z<|.off Z Z Z Z<|.q Z (bi Z Z)<|.q Z (ae Z)<|.off Z Z Z Z<|.off Z Z Z Z<|.off Z Z Z Z<|.off Z Z Z Z ?_;refine Ops.off Z Z Z Z<|.q Z (bi Z Z)<|.nil<|a1 _ _<|.cond_true Z<|.seq fun _ ap=>.region<|.q Z (ah Z)<|.nil<|ap _ _ ?_;refine ao.ret ?_;repeat first | with_reducible refine bE ?_ | with_reducible refine bk ?_
  exact be Z (⟨by first | rfl | (exfalso;omega) | (exfalso;have:=hro O;omega) | (exfalso;have:=hva O;simp only [gR] at this;omega),D,h.wf⟩)
 refine Ops.on Z Z<|.q Z (ae Z)<|.on Z Z<|.q Z (fu (b:=20000) Z Z)<|.q Z (bw Z Z)<|.q Z (ae Z)<|.part (t:=23) Z (fun ba=>?_) (fun ba=>?_)
 ·refine Ops.off Z Z Z Z<|.off Z Z Z Z<|.off Z Z Z Z<|.off Z Z Z Z<|.off Z Z Z Z<|.q Z (bi Z Z)<|.q Z (ae Z)<|.off Z Z Z Z<|.off Z Z Z Z<|.off Z Z Z Z ?_;refine Ops.q Z (bi Z Z)<|.q Z (ae Z)<|.off Z Z Z Z<|.off Z Z Z Z<|.off Z Z Z Z<|.off Z Z Z Z<|.off Z Z Z Z<|.q Z (bi Z Z)<|.nil<|a1 _ _ ?_;refine ao.cond_true Z<|.seq fun _ ar=>.region<|.q Z (ah Z)<|.nil<|ar _ _<|.rt (by exact be Z (⟨by first | rfl | (exfalso;omega) | (exfalso;have:=hro O;omega) | (exfalso;have:=hva O;simp only [gR] at this;omega),D,h.wf⟩))
 refine Ops.on Z Z<|.q Z (aj kG iQ U Z)<|.on Z Z<|.q Z (ak jN Z Z h.get Z)<|.on Z Z<|.q Z (bH (n:=rows.length) m5 Z (hnv.le D) O (iO _))<|.on Z Z<|.q Z (ae Z)<|.on Z Z<|.q Z (fF Z Z) ?_;refine Ops.q Z (bw Z Z)<|.q Z (ae Z)<|.part (t:=30) Z (fun bb=>?_) (fun bb=>?_)
 ·refine Ops.off Z Z Z Z<|.off Z Z Z Z<|.off Z Z Z Z<|.q Z (bi Z Z)<|.q Z (ae Z)<|.off Z Z Z Z<|.off Z Z Z Z<|.off Z Z Z Z<|.off Z Z Z Z<|.off Z Z Z Z ?_;refine Ops.q Z (bi Z Z)<|.nil<|a1 _ _<|.cond_true Z<|.seq fun _ ay=>.region<|.q Z (ah Z)<|.nil<|ay _ _<|.rt (by exact be Z (⟨by first | rfl | (exfalso;omega) | (exfalso;have:=hro O;omega) | (exfalso;have:=hva O;simp only [gR] at this;omega),D,h.wf⟩))
 refine Ops.on Z Z<|.q Z (aj uf dx U Z)<|.on Z Z<|.q Z (ak fj Z Z h.get Z)<|.on Z Z<|.q Z (cA (a:=0) (b:=0) Z Z)<|.q Z (bw Z Z)<|.q Z (ae Z)<|.part (t:=35) Z (fun bc=>?_) (fun bc=>?_)
 ·refine Ops.off Z Z Z Z<|.off Z Z Z Z<|.off Z Z Z Z<|.off Z Z Z Z<|.off Z Z Z Z<|.q Z (bi Z Z)<|.nil<|a1 _ _<|.cond_true Z<|.seq fun _ az=>?_;refine ao.region<|.q Z (ah Z)<|.nil<|az _ _<|.rt (by exact be Z (⟨by first | rfl | (exfalso;omega) | (exfalso;have:=hro O;omega) | (exfalso;have:=hva O;simp only [gR] at this;omega),D,h.wf⟩))
 refine Ops.on Z Z<|.q Z (aj uf dx U Z)<|.on Z Z<|.q Z (ak fj Z Z h.get Z)<|.on Z Z<|.q Z (ae Z)<|.on Z Z<|.q Z (SY Z Z)<|.on Z Z<|.q Z (wj (a:=0) Z Z) ?_;refine Ops.q Z (bw Z Z)<|.nil<|a1 _ _<|.if rfl (fun bd=>?_) (fun bd=>?_)
 ·refine ao.seq fun _ aA=>.region<|.q Z (ah Z)<|.nil<|aA _ _<|.rt (by exact be Z (⟨by first | rfl | (exfalso;omega) | (exfalso;have:=hro O;omega) | (exfalso;have:=hva O;simp only [gR] at this;omega),D,h.wf⟩))
 refine ao.skip<|ag _ _<|.seq fun _ aB=>.seq fun _ aC=>.region<|.q Z (aj kG iQ U Z)<|.q Z (ak jN Z Z h.get Z)<|.q Z (bH (n:=rows.length) m5 Z (hnv.le D) O (iO _))<|.q Z (ae Z)<|.nil ?_;refine aC _ _<|.block<|.loop (X:=Nat) (fun i=>[(1,.pointer (some ⟨b4,0,none⟩)),(3,num ((acc.length:Nat):Int)),(43,nv),(44,num ((rows.length:Nat):Int)),(45,num ((i:Nat):Int))]) (fun i B=>(i<=L.length)/\A.le B/\B.get b4=some (.row true [num ((k:Nat):Int),num ((0:Nat):Int),av,nv] 4)) (fun i=>L.length - i) 0 (rn Z Z Z Z Z) (⟨(Nat.zero_le _),D,h.get⟩) ?_;rintro i B37 ⟨hi,V,a2⟩;refine ao.wf fun a5=>?_;have hro:=fun q:i < L.length=>hrow i q;refine ao.seq fun _ aD=>.region<|.q Z (cA Z Z)<|.nil<|aD _ _<|.seq fun _ aE=>.if rfl (fun bl=>?_) (fun bl=>?_)
 ·refine ao.skip<|aE _ _<|.seq fun _ aF=>.block<|.seq fun _ aG=>.region ?_;obtain ⟨bO,bR,bL,cc,bC,c7,c3,aa,b5,ac,bv,a8⟩:=bJ.at (i:=i) (hnv.le V) Ok O;refine Ops.q Z (aJ m5 fC Z aa Z b5)<|.q Z (ak kW Z Z ac ((dh a8).trans (eH O)))<|.q Z (ah Z)<|.nil<|aG _ _<|.seq fun _ aI=>.seq fun _ aP=>.region<|.q Z (ae Z)<|.q Z (bH (n:=((L.getD i [])).length) er Z ((hF i O).le V) O (eB _)) ?_;refine Ops.q Z (aj rD dx U Z)<|.q Z (ak fj Z Z a2 Z)<|.q Z (fF Z Z)<|.nil<|aP _ _<|.if rfl (fun bm=>?_) (fun bm=>?_)
  ·refine ao.seq fun _ aR=>.region<|.q Z (ah Z)<|.nil<|aR _ _<|.rt (by exact be Z (⟨by first | rfl | (exfalso;omega) | (exfalso;have:=hro O;omega) | (exfalso;have:=hva O;simp only [gR] at this;omega),V,a5⟩))
  refine ao.skip<|aI _ _<|.seq fun _ aS=>.region<|.q Z (ae Z)<|.q Z (bH (n:=((L.getD i [])).length) er Z ((hF i O).le V) O (eB _))<|.q Z (ae Z)<|.nil<|aS _ _<|.block ?_;refine ao.loop (X:=Nat) (fun j=>[(1,.pointer (some ⟨b4,0,none⟩)),(3,num ((acc.length:Nat):Int)),(43,nv),(44,num ((rows.length:Nat):Int)),(45,num ((i:Nat):Int)),(54,rows.getD i undef),(55,num ((((L.getD i [])).length:Nat):Int)),(56,num ((j:Nat):Int))]) (fun j B=>(j<=k/\i < L.length)/\A.le B/\B.get b4=some (.row true [num ((k:Nat):Int),num ((0:Nat):Int),av,nv] 4)) (fun j=>k - j) 0 (xd Z Z Z Z Z Z Z Z) (⟨⟨Nat.zero_le _,by omega⟩,V,a2⟩) ?_;rintro j B59 ⟨⟨hj,a4⟩,a0,a3⟩;refine ao.wf fun a6=>?_;have bB:=hrow i a4;have hva:=fun q:j < k=>hval i j a4 q;refine ao.seq fun _ aT=>.region<|.q Z (cA Z Z)<|.nil<|aT _ _<|.seq fun _ aV=>.if rfl (fun bp=>?_) (fun bp=>?_)
  ·refine ao.skip<|aV _ _<|.seq fun _ aY=>.block<|.seq fun _ aZ=>.region ?_;obtain ⟨bP,bS,bM,cf,bD,cb,c4,ab,b6,ad,bA,a9⟩:=bJ.at (i:=j) ((hF i O).le a0) O3 O;refine Ops.q Z (aJ er dx Z ab Z b6)<|.q Z (ak fj Z Z ad ((dh a9).trans (df O)))<|.q Z (ah Z)<|.nil<|aZ _ _<|.seq fun _ a7=>.region<|.q Z (ae Z)<|.q Z (qO Z Z)<|.q Z (ae Z) ?_;refine Ops.part (t:=62) Z (fun br=>?_) (fun br=>?_)
   ·refine Ops.off Z Z Z Z<|.off Z Z Z Z<|.off Z Z Z Z<|.q Z (bi Z Z)<|.nil<|a7 _ _<|.cond_true Z<|.seq fun _ b0=>.region<|.q Z (ah Z) ?_;refine Ops.nil<|b0 _ _<|.rt (by exact be Z (⟨by first | rfl | (exfalso;omega) | (exfalso;have:=hro O;omega) | (exfalso;have:=hva O;simp only [gR] at this;omega),a0,a6⟩))
   refine Ops.on Z Z<|.q Z (ae Z)<|.on Z Z<|.q Z (ae Z)<|.on Z Z<|.q Z (pz Z Z)<|.q Z (bw Z Z)<|.nil<|a7 _ _<|.if rfl (fun bu=>?_) (fun bu=>?_)
   ·refine ao.seq fun _ b1=>.region<|.q Z (ah Z)<|.nil<|b1 _ _<|.rt (by exact be Z (⟨by first | rfl | (exfalso;omega) | (exfalso;have:=hro O;omega) | (exfalso;have:=hva O;simp only [gR] at this;omega),a0,a6⟩))
   refine ao.skip<|aY _ _<|.region<|.q Z (bN (b:=1) Z Z O)<|.q Z (ae Z)<|.nil ?_;exact ⟨j + 1,xd Z Z Z Z Z Z Z Z,Z,⟨⟨by omega,a4⟩,a0,a3⟩,O1⟩
  refine ao.exit<|aF _ _<|.region<|.q Z (bN (b:=1) Z Z O)<|.q Z (ae Z)<|.nil ?_;exact ⟨i + 1,rn Z Z Z Z Z,Z,⟨O,a0,a3⟩,O1⟩
 refine ao.exit<|aB _ _<|.seq fun _ b2=>.region<|.q Z (ah Z)<|.nil<|b2 _ _<|.rt (by exact be Z (⟨by first | rfl | (exfalso;omega) | (exfalso;have:=hro O;omega) | (exfalso;have:=hva O;simp only [gR] at this;omega),V,a5⟩))

theorem LM (k:Nat) (acc:List Bool) (L:List (List Int)) (av nv:Value) (rows:List Value) (A:AH) (hok:I3 k acc L) (hav:bJ A 1 av (cq acc)) (hnv:bJ A 1 nv (em rows)) (hrl:rows.length=L.length) (hF:∀ i,i < L.length->bJ A 1 (rows.getD i undef) (c9 (L.getD i []))):bG Tryz.prog 149 #[.agg #[num ((k:Nat):Int),num ((0:Nat):Int),av,nv]] A (fun v A1=>v=num ((0:Nat):Int)/\A.le A1/\A1.wf):=by
 refine iy Tryz.call149 Tryz.func149 Z Tryz.results149 Tryz.ntmps149 Z (fun wf=>?_);have a2:=AH.le.refl A;obtain ⟨⟨a6,a7⟩,hal,⟨a4,a5⟩,hrow,hval⟩:=hok;refine ao.seq fun _ h2=>.region<|.l Z (fun _ _ a1 _=>ej wf rfl rfl fun A5 b4 h=>?_);have D:=a2.trans h.le;refine a1 _ _<|.q Z (ah Z)<|.nil<|h2 _ _<|.seq fun _ h9=>.seq fun _ V=>.region<|.q Z (aj kF iB U Z)<|.q Z (ak iu Z Z h.get Z)<|.q Z (bH (n:=acc.length) kR Z (hav.le D) O (ff _)) ?_;refine Ops.q Z (oq (b:=0) Z Z)<|.nil<|V _ _<|.if rfl (fun a3=>?_) (fun a3=>?_)
 ·refine ao.seq fun _ X=>.region<|.q Z (ah Z)<|.nil<|X _ _<|.rt (by exact be Z (⟨by first | rfl | (exfalso;omega),D,h.wf⟩))
 refine ao.skip<|h9 _ _<|.seq fun _ a0=>.region<|.q Z (aj uf dx U Z)<|.q Z (ak fj Z Z h.get Z)<|.q Z (ah Z)<|.nil<|a0 _ _<|.rt (by exact be Z (⟨by first | rfl | (exfalso;omega),D,h.wf⟩))

theorem LL (k:Nat) (acc:List Bool) (L:List (List Int)) (av nv:Value) (rows:List Value) (s:Int) (c:Nat) (A:AH) (hok:I3 k acc L) (hav:bJ A 1 av (cq acc)) (hnv:bJ A 1 nv (em rows)) (hrl:rows.length=L.length) (hF:∀ i,i < L.length->bJ A 1 (rows.getD i undef) (c9 (L.getD i []))) (hs:s < L.length) (hc:c < k):bG Tryz.prog 151 #[.agg #[num ((k:Nat):Int),num ((0:Nat):Int),av,nv],num (s),num ((c:Nat):Int)] A (fun v A1=>v=num (if s < 0 then -1 else gR L s.toNat c)/\A.le A1/\A1.wf):=by
 refine yl Tryz.call151 Tryz.func151 Z Tryz.results151 Tryz.ntmps151 Z (fun wf=>?_);have aa:=AH.le.refl A;obtain ⟨⟨aE,aF⟩,hal,⟨aC,aD⟩,hrow,hval⟩:=hok;have hro:=fun q:0<=s=>hrow s.toNat O;refine ao.seq fun _ h2=>.region<|.l Z (fun _ _ a7 _=>ej wf rfl rfl fun A5 b4 D=>?_);have h:=aa.trans D.le;refine a7 _ _<|.q Z (ah Z)<|.nil<|h2 _ _<|.seq fun _ h9=>.seq fun _ a4=>.region<|.q Z (ae Z)<|.q Z (qO Z Z)<|.nil ?_;refine a4 _ _<|.if rfl (fun ab=>?_) (fun ab=>?_)
 ·refine ao.seq fun _ a5=>.region<|.q Z (ah Z)<|.nil<|a5 _ _<|.rt (by exact be Z (⟨by first | (rw [if_pos ‹_›];rfl) | (rw [if_neg ‹_›];rfl),h,D.wf⟩))
 refine ao.skip<|h9 _ _<|.seq fun _ a6=>.region<|.q Z (aj kG iQ U Z)<|.q Z (ak jN Z Z D.get Z)<|.q Z (ae Z) ?_;obtain ⟨ay,aA,ap,aS,ag,aP,aG,a0,a8,a2,ac,V⟩:=bJ.at (i:=(s).toNat) (hnv.le h) Ok O;refine Ops.q Z (aJ m5 fC Z a0 (jr O) a8)<|.q Z (ak kW Z Z a2 ((dh V).trans (eH O)))<|.q Z (ae Z) ?_;obtain ⟨az,aB,ar,aT,ai,aR,aI,a1,a9,a3,ad,X⟩:=bJ.at (i:=c) ((hF ((s).toNat) O).le h) (by simp only [aH];have:=hro O;omega) O;refine Ops.q Z (aJ er dx Z a1 Z a9)<|.q Z (ak fj Z Z a3 ((dh X).trans (df (by have:=hro O;omega))))<|.q Z (ah Z)<|.nil<|a6 _ _<|.rt (by exact be Z (⟨by first | (rw [if_pos ‹_›];rfl) | (rw [if_neg ‹_›];rfl),h,D.wf⟩))
end Go.Proofs.YtjppkekmddjcfaaGreatDoor

namespace Go.Proofs.YtjppkekmddjcfaaGreatDoor
open Go Go.RowKit V
def va (k:Nat) (ws:List Wd):List (List Int) × List Bool:=ws.foldl (fun t w=>(vt k t.1 t.2 w,vr k t.1 t.2 w)) ([AM k],[false])
def SC (k:Nat) (b:BS) (i:Nat):BS:=(List.range k).foldl (tG (qn b i)) b
def SA (k:Nat):Nat->Nat->BS->BS
  | 0,_,b=>b
  | f + 1,i,b=>if i < b.Q.length then SA k f (i + 1) (SC k b i) else b
def Be (k:Nat) (ws:List Wd):BS:=SA k ((va k ws).1.length + 1) 0 ⟨(va k ws).1,(va k ws).2,List.replicate (va k ws).1.length 0,[0]⟩
def eD (E:List Bool) (r:List Int):List Int:=r.map fun m=>if E.getD m.toNat false then -1 else m
def MW (k:Nat) (ws:List Wd):List Bool:=(Be k ws).E.map fun e=>!e
def MY (k:Nat) (ws:List Wd):List (List Int):=(Be k ws).L.map (eD (Be k ws).E)
def gk (step:Int->Nat->Option Int) (q:Int) (st:List Int × List Int) (c:Nat):List Int × List Int :=
  match step q c with
  | none=>(st.1 ++ [-1],st.2)
  | some t=>if t ∈ st.2 then (st.1 ++ [(st.2.idxOf t:Int)],st.2) else (st.1 ++ [(st.2.length:Int)],st.2 ++ [t])
def JC (k:Nat) (step:Int->Nat->Option Int) (q:Int) (Q:List Int):List Int × List Int:=(List.range k).foldl (gk step q) ([],Q)
def fG (k:Nat) (step:Int->Nat->Option Int):Nat->Nat->List Int->List (List Int)->List Int × List (List Int)
  | 0,_,Q,R=>(Q,R)
  | f + 1,i,Q,R=>if i < Q.length then fG k step f (i + 1) (JC k step (Q.getD i 0) Q).2 (R ++ [(JC k step (Q.getD i 0) Q).1]) else (Q,R)
def mP (L:List (List Int)) (s:Int) (c:Nat):Option Int:=some (if s < 0 then -1 else gR L s.toNat c)
def gI (k:Nat) (L:List (List Int)):List Int × List (List Int):=fG k (mP L) (L.length + 2) 0 [0] []
def ve (k:Nat) (acc:List Bool) (L:List (List Int)):List Bool:=(gI k L).1.map fun s=>decide (0<=s) && acc.getD s.toNat false
def nS (B:List (List Int)) (s m:Int):List (List Int):=if 0<=m then B.set m.toNat (B.getD m.toNat [] ++ [s]) else B
def jk (N:List (List Int)) (B:List (List Int)) (s:Nat):List (List Int):=(N.getD s []).foldl (fun B m=>nS B s m) B
def dH (N:List (List Int)):List (List Int):=(List.range N.length).foldl (jk N) (List.replicate N.length [])
def iK (Q:List Int) (p:Int):List Int:=if p ∈ Q then Q else Q ++ [p]
def jp (B:List (List Int)):Nat->Nat->List Int->List Int
  | 0,_,Q=>Q
  | f + 1,i,Q=>if i < Q.length then jp B f (i + 1) ((B.getD (Q.getD i 0).toNat []).foldl iK Q) else Q
def pw (acc:List Bool) (i:Nat):List Int:=((List.range i).filter fun s=>acc.getD s false).map fun (s:Nat)=>(s:Int)
def gh (acc:List Bool) (N:List (List Int)):List Int:=jp (dH N) (N.length + 1) 0 (pw acc acc.length)
def iJ (acc:List Bool) (N:List (List Int)):List Bool:=(List.range acc.length).map fun (s:Nat)=>decide ((s:Int) ∈ gh acc N)
end Go.Proofs.YtjppkekmddjcfaaGreatDoor

namespace Go.Proofs.YtjppkekmddjcfaaGreatDoor
open Go Go.RowKit V
def Ee (Q:List Int):List (Int × Value):=Q.zipIdx.map fun p=>(p.1,num ((p.2:Nat):Int))
theorem uy (Q:List Int):(Ee Q).map (·.1)=Q:=by
  simp [Ee,List.map_map,Function.comp_def]
theorem Ky (Q:List Int) (t:Int):Ee (Q ++ [t])=Ee Q ++ [(t,num ((Q.length:Nat):Int))]:=by simp [Ee,List.zipIdx_append]
theorem GW {Q:List Int} {t:Int} (h:t ∉ Q):lk (Ee Q) t=none:=xw.2 (by rw [uy];exact h)
theorem Og:∀ (Q:List Int) (n:Nat) (t:Int),t ∈ Q->lk ((Q.zipIdx n).map fun p=>(p.1,num ((p.2:Nat):Int))) t=some (num (((n + Q.idxOf t:Nat)):Int)):=by
  intro Q
  induction Q with
  | nil=>intro n t h;cases h
  | cons a Q ih =>
    intro n t h
    by_cases q:a=t
    · subst q;simp [lk]
    · have h2:t ∈ Q:=by rcases List.mem_cons.1 h with z | z;exact absurd z.symm q;exact z
      have:=ih (n + 1) t h2
      simp only [List.zipIdx_cons,List.map_cons]
      rw [List.idxOf_cons,beq_eq_false_iff_ne.2 q,cond_false]
      simp only [lk,List.find?_cons,decide_eq_false q] at this ⊢
      rw [this]
      congr 3;omega
theorem Kx {Q:List Int} {t:Int} (h:t ∈ Q):lk (Ee Q) t=some (num ((Q.idxOf t:Nat):Int)):=by
  have:=Og Q 0 t h
  rwa [Nat.zero_add] at this
theorem O5 {Q:List Int} {t:Int} (h:t ∉ Q):wI (Ee Q) t (num ((Q.length:Nat):Int))=Ee (Q ++ [t]):=by
  rw [tm (by rw [uy];exact h),Ky]
section
variable {α:Type} [DecidableEq α] {kd:TypeDesc} {enc:α->Value} {P:Program} {e:gv} {A:AH} {x y z:Operand} {t kt et:TypeId} {ty:TypeId} {ps:String} {af:Array Edge} {dst:Option Nat} {Q:Value->AH->Prop} {Kp:List PanicEntry->AH->Prop} {g:Option (Nat × Bool)} {m clock:Nat} {es:Array MapEntry} {E:List (α × Value)} {k:α} {v:Value}
theorem P4 (K:qh kd enc) (wf:A.wf) (hx:bZ e x=some (.map (some m))) (hy:bZ e y=some (enc k)) (hz:bZ e z=some v) (hu:P.underlying t=some (.map kt et)) (hk:P.underlying kt=some kd) (hg:A.get m=some (.obj true (.map es clock))) (hE:dC enc es E) (hn:(E.map (·.1)).Nodup)
    (h:∀ A1 es1 ck,sE A A1 m (.obj true (.map es1 ck))->dC enc es1 (wI E k v)->Q undef A1):j6 P e A { dst:=dst,op:=.insert t x y z,type:=ty,pos:=ps,after:=af,guard:=g } Q Kp :=
  m8 (dst:=dst) (ty:=ty) (ps:=ps) (af:=af) (g:=g) (Kp:=Kp) K wf hx hy hz hu hk hg hE hn h
end
theorem kN {b:Nat}:bI [] b:=fun _ h=>by cases h
theorem MD {P:Program} {e:gv} {A:AH} {x y:Operand} {t kt et:TypeId} {ty:TypeId} {ps:String} {af:Array Edge} {dst:Option Nat} {Q:Value->AH->Prop} {Kp:List PanicEntry->AH->Prop} {g:Option (Nat × Bool)} {m clock:Nat} {es:Array MapEntry} {rw:Bool} {L:List Int} {k:Int}
    (hx:bZ e x=some (.map (some m))) (hy:bZ e y=some (num k)) (hu:P.underlying t=some (.map kt et)) (hk:P.underlying kt=some (.int .i64)) (hz:cO P et=some (num 0)) (hg:A.get m=some (.obj rw (.map es clock))) (hE:dC num es (Ee L))
    (h1:k ∈ L->Q (.tuple #[num ((L.idxOf k:Nat):Int),.bool true]) A) (h2:k ∉ L->Q (.tuple #[num 0,.bool false]) A):j6 P e A { dst:=dst,op:=.lookup t x y true,type:=ty,pos:=ps,after:=af,guard:=g } Q Kp:=by
  refine vg rJ hx hy hu hk hz hg hE (fun v hv=>?_) (fun hn=>?_)
  · by_cases q:k ∈ L
    · rw [Kx q] at hv;cases hv;exact h1 q
    · rw [GW q] at hv;cases hv
  · exact h2 fun q=>by rw [Kx q] at hn;cases hn
theorem zr {o:Option Int} (h:(!o.isSome)=true):o=none:=by cases o <;> simp_all
theorem jY {o:Option Int} (h:(!o.isSome)=false):o=some (o.getD 0):=by cases o <;> simp_all
theorem oh {Q:List Int} {t:Int} (h:Q.Nodup) (ht:t ∉ Q):(Q ++ [t]).Nodup:=List.nodup_append.2 ⟨h,by simp,by intro a ha b hb;simp at hb;subst hb;exact fun e=>ht (e ▸ ha)⟩
theorem pb {Q:List Int} {t:Int} {D:Int->Prop} (h:∀ q ∈ Q,D q) (ht:D t):∀ q ∈ Q ++ [t],D q:=fun q hq=>by
  rcases List.mem_append.1 hq with z | z
  · exact h q z
  · rw [List.mem_singleton] at z;subst z;exact ht
theorem uz {Q Q1:List Int} (h:Q <+: Q1) {i:Nat} (hi:i < Q.length):Q1.getD i 0=Q.getD i 0:=by obtain ⟨t,rfl⟩:=h;exact jP hi
theorem Kz {Q Q1:List Int} (h:Q <+: Q1) {i:Nat} (hi:i<=Q.length):Q1.take i=Q.take i:=by obtain ⟨t,rfl⟩:=h;rw [List.take_append_of_le_length hi]
theorem pN {N:Nat} {Q:List Int} (hn:Q.Nodup) (hQ:∀ q ∈ Q,-1<=q/\q < (N:Int)):Q.length<=N + 1:=by
  have:=og (N + 1) (Q.map fun q=>(q + 1).toNat) ?_ ?_
  · simpa using this
  · rw [List.nodup_iff_pairwise_ne,List.pairwise_map]
    exact List.Pairwise.imp_of_mem (fun {a b} ha hb hab e=>hab (by have:=hQ a ha;have:=hQ b hb;omega)) hn
  · intro x hx
    obtain ⟨q,hq,rfl⟩:=List.mem_map.1 hx
    have:=hQ q hq;omega
section
variable {k c:Nat} {step:Int->Nat->Option Int} {q:Int} {Q Q1 r:List Int}
def FH (step:Int->Nat->Option Int) (q:Int) (Q:List Int) (c:Nat):List Int × List Int:=(List.range c).foldl (gk step q) ([],Q)
theorem ua:FH step q Q (c + 1)=gk step q (FH step q Q c) c:=by simp [FH,List.range_succ]
theorem JB (h:FH step q Q c=(r,Q1)) (hs:step q c=none):FH step q Q (c + 1)=(r ++ [-1],Q1):=by rw [ua,h,gk,hs]
theorem NX {t:Int} (h:FH step q Q c=(r,Q1)) (hs:step q c=some t) (ht:t ∈ Q1):FH step q Q (c + 1)=(r ++ [(Q1.idxOf t:Int)],Q1):=by
  rw [ua,h,gk,hs];simp only;rw [if_pos ht]
theorem xe {t:Int} (h:FH step q Q c=(r,Q1)) (hs:step q c=some t) (ht:t ∉ Q1):FH step q Q (c + 1)=(r ++ [(Q1.length:Int)],Q1 ++ [t]):=by
  rw [ua,h,gk,hs];simp only;rw [if_neg ht]
theorem xg {r:List Int} {k:Nat} {v:Int} (h:r.length < k):(r ++ List.replicate (k - r.length) 0).set r.length v=(r ++ [v]) ++ List.replicate (k - (r.length + 1)) 0:=by
  rw [List.set_append_right _ _ (Nat.le_refl _),Nat.sub_self,show k - r.length=(k - (r.length + 1)) + 1 by omega,List.replicate_succ,List.set_cons_zero]
  simp
theorem qw {r:List Int} {k:Nat} {v w:Int} (h:r.length < k):((r ++ List.replicate (k - r.length) 0).set r.length v).set r.length w=(r ++ [w]) ++ List.replicate (k - (r.length + 1)) 0:=by
  rw [List.set_set];exact xg h
end
theorem tX {k f i:Nat} {step:Int->Nat->Option Int} {Q:List Int} {R:List (List Int)} (hf:0 < f) (hi:Q.length<=i):fG k step f i Q R=(Q,R):=by
  obtain ⟨f,rfl⟩:∃ g,f=g + 1:=⟨f - 1,by omega⟩
  rw [fG,if_neg O]
theorem yQ {k f i:Nat} {step:Int->Nat->Option Int} {Q:List Int} {R:List (List Int)} {X:List Int × List (List Int)} (hf:0 < f) (hi:i < Q.length) (h:fG k step f i Q R=X) {r Q1:List Int} (e:FH step (Q.getD i 0) Q k=(r,Q1)):fG k step (f - 1) (i + 1) Q1 (R ++ [r])=X:=by
  obtain ⟨f,rfl⟩:∃ g,f=g + 1:=⟨f - 1,by omega⟩
  rw [<- h,fG,if_pos hi]
  show _=fG k step f (i + 1) (FH step (Q.getD i 0) Q k).2 (R ++ [(FH step (Q.getD i 0) Q k).1])
  rw [e];rfl
end Go.Proofs.YtjppkekmddjcfaaGreatDoor

namespace Go.Proofs.YtjppkekmddjcfaaGreatDoor
open Go Go.RowKit
namespace V
inductive OT where
  | done:OT
  | one (i:Nat) (t:OT):OT
  | two (i j:Nat) (t u:OT):OT
def OT.len:OT->Nat
  | .done=>0
  | .one _ t=>t.len + 1
  | .two _ _ t _=>t.len + 1
def kB (ops:Array Oper):Array Bool->OT->Bool
  | listed,.done=>(Region.ready .any ops listed).isEmpty
  | listed,.one i C=>match ops[i]? with
    | none=>false
    | some o =>
      if dp o.op then (Region.ready .any ops listed).contains i && Region.free .any ops listed i && kB ops (listed.setIfInBounds i true) C
      else (Region.ready .any ops listed == [i]) && kB ops (listed.setIfInBounds i true) C
  | listed,.two i j C D=>(Region.ready .any ops listed == [i,j]) && kB ops (listed.setIfInBounds i true) C && kB ops (listed.setIfInBounds j true) D && (C.len == D.len)
section
variable {P:Program} {nt:Nat} {ops:Array Oper} {Q:Exit->Fr->AH->Prop} {f:Fr} {A:AH}
def cd (P:Program) (nt:Nat) (ops:Array Oper) (Q:Exit->Fr->AH->Prop) (listed:Array Bool) (held:List (Nat × fh)) (C:OT) (f:Fr) (A:AH):Prop :=
  kB ops listed C=true->Region.noSelect ops=true->∀ a w,db nt f a->ct A w->dQ ops held listed w->j7 ops listed ->
    ∀ (A₀:AH) (w₀:World),eu A₀ w₀ A w->eK P ops (dT nt Q A₀ w₀) (dQ ops held) C.len listed a w
theorem cd.quiet {listed:Array Bool} {held:List (Nat × fh)} {i:Nat} {C:OT} {o:Oper} {v:Value} {T:fh} (ho:ops[i]? = some o) (hq:dp o.op=true) (hd:∀ t,o.dst=some t->t < nt)
    (hv:∀ a w,db nt f a->ct A w->fb T w/\YieldsIf P ops (fb T) o v a)
    (h:cd P nt ops Q (listed.setIfInBounds i true) ((i,T) :: held) C ⟨fp f.e o.dst v,f.ds⟩ A):cd P nt ops Q listed held (.one i C) f A:=by
  intro hc hn a w ha hw hh hcl A₀ w₀ hs
  simp only [kB,ho,if_pos hq,Bool.and_eq_true] at hc
  obtain ⟨⟨c1,c2⟩,c3⟩:=hc
  obtain ⟨t1,t2⟩:=hv a w ha hw
  have hr:i ∈ Region.ready .any ops listed:=by simpa using c1
  have hheld:dQ ops ((i,T) :: held) listed w:=fun p hp hj=>by
    rcases List.mem_cons.1 hp with rfl | hp
    · exact t1
    · exact hh p hp hj
  have H:=h c3 hn _ w (ha.put o.dst v hd) hw ((ja ho hq _ _).2 hheld) (gB hcl hr) A₀ w₀ hs
  have free:=Region.free_spec ho c2
  have H':eK P ops (dT nt Q A₀ w₀) (dQ ops ((i,T) :: held)) (C.len + 1) listed a w :=
    m7 (T:=fb T) ho (Region.noSelect_spec hn) (fun c a w g=>rO _ _ c a w g)
      (fun l w' hcl' hun hS=>hS (i,T) (List.mem_cons_self ..) fun j hl ⟨oj,hoj,_⟩=>by
        cases q:kq ops i ops.size j with
        | false=>rfl
        | true =>
          have:=jC hcl' ops.size j oj hoj (hcl' j oj hoj hl) q
          rw [il hun] at this;cases this)
      (fun l w'=>ja ho hq l w') _ listed a w hcl (fun j oj hoj hne hun hno=>free j oj hoj hne hun hno) hr t2 hheld H
  -- less is asked
  have weaken:∀ (fuel:Nat) (l:Array Bool) (a:Act) (w:World),eK P ops (dT nt Q A₀ w₀) (dQ ops ((i,T) :: held)) fuel l a w->eK P ops (dT nt Q A₀ w₀) (dQ ops held) fuel l a w:=by
    intro fuel
    induction fuel with
    | zero=>intro l a w h;exact h
    | succ fuel ih=>intro l a w h;exact ⟨h.1,fun j hj=>wpOp_mono (fun a' w' h'=>⟨fun p hp=>h'.1 p (List.mem_cons_of_mem _ hp),ih _ _ _ h'.2⟩) (h.2 j hj)⟩
  exact weaken _ _ _ _ H'

theorem pR {listed:Array Bool} {held:List (Nat × fh)} {i:Nat} {C:OT} {o:Oper} {a:Act} {w:World} {A₀:AH} {w₀:World} (ho:ops[i]? = some o) (hq:dp o.op=false) (hd:∀ t,o.dst=some t->t < nt) (hwn:∀ a:Act,db nt f a->Region.wanted o (yielded ops a.tmps)=true)
    (c2:kB ops (listed.setIfInBounds i true) C=true) (hn:Region.noSelect ops=true) (ha:db nt f a) (hw:ct A w) (hcl:j7 ops listed) (hs:eu A₀ w₀ A w) (hr:i ∈ Region.ready .any ops listed)
    (h:∀ (K:Value->AH->Prop) (Kp:List PanicEntry->AH->Prop),
      (∀ v A',(∀ w',ct A' w'->∀ p ∈ held,kq ops p.1 ops.size i=false->fb p.2 w')->cd P nt ops Q (listed.setIfInBounds i true) (held.filter fun p=>!kq ops p.1 ops.size i) C ⟨fp f.e o.dst v,f.ds⟩ A'->K v A') ->
      (∀ ch A',Q (.panic ch) ⟨[],f.ds⟩ A'->Kp ch A')->j6 P f.e A o K Kp) :
    wpOp P ops (dT nt Q A₀ w₀) i (fun a' w'=>dQ ops held (listed.setIfInBounds i true) w'/\eK P ops (dT nt Q A₀ w₀) (dQ ops held) C.len (listed.setIfInBounds i true) a' w') a w:=by
  have hlt:i < listed.size:=by
    have:=(mem_ready.1 hr).1
    rcases Nat.lt_or_ge i listed.size with h' | h'
    · exact h'
    · simp [Array.getElem?_eq_none h'] at this
  have hl:(listed.setIfInBounds i true).getD i false=true:=by simp [hlt]
  unfold wpOp
  simp only [ho,hwn a ha,if_true]
  left
  have:=ph (o:=o) (K:=fun v A'=>(∀ w',ct A' w'->∀ p ∈ held,kq ops p.1 ops.size i=false->fb p.2 w')/\cd P nt ops Q (listed.setIfInBounds i true) (held.filter fun p=>!kq ops p.1 ops.size i) C ⟨fp f.e o.dst v,f.ds⟩ A')
    (Kp:=fun ch A'=>Q (.panic ch) ⟨[],f.ds⟩ A') ha hw (h _ _ (fun v A' g1 g2=>⟨g1,g2⟩) (fun ch A' g=>g))
  unfold Oper.wp at this ⊢
  have up:∀ r,o.upon P a (jA A a w o fun v A'=>(∀ w',ct A' w'->∀ p ∈ held,kq ops p.1 ops.size i=false->fb p.2 w')/\cd P nt ops Q (listed.setIfInBounds i true) (held.filter fun p=>!kq ops p.1 ops.size i) C ⟨fp f.e o.dst v,f.ds⟩ A') (gV A a w fun ch A'=>Q (.panic ch) ⟨[],f.ds⟩ A') r ->
      o.upon P a (fun a' w'=>dQ ops held (listed.setIfInBounds i true) w'/\eK P ops (dT nt Q A₀ w₀) (dQ ops held) C.len (listed.setIfInBounds i true) a' w') (dT nt Q A₀ w₀) r:=by
    have next:∀ a' w',(jA A a w o fun v A'=>(∀ w',ct A' w'->∀ p ∈ held,kq ops p.1 ops.size i=false->fb p.2 w')/\cd P nt ops Q (listed.setIfInBounds i true) (held.filter fun p=>!kq ops p.1 ops.size i) C ⟨fp f.e o.dst v,f.ds⟩ A') a' w' ->
        dQ ops held (listed.setIfInBounds i true) w'/\eK P ops (dT nt Q A₀ w₀) (dQ ops held) C.len (listed.setIfInBounds i true) a' w':=by
      rintro a' w' ⟨v,A',rfl,hv',hs',g1,g2⟩
      have hlo:V.loud ops i:=⟨o,ho,hq⟩
      have hh':dQ ops held (listed.setIfInBounds i true) w':=fun p hp hj=>g1 w' hv' p hp (hj i hl hlo)
      refine ⟨hh',?_⟩
      have H:=g2 c2 hn _ w' (ha.put o.dst v hd) hv' (fun p hp hj=>hh' p (List.mem_filter.1 hp).1 hj) (gB hcl hr) A₀ w₀ (hs.trans hs')
      refine j5 (x:=i) (fun l w hx hS p hp hj=>hS p (List.mem_filter.2 ⟨hp,?_⟩) hj) _ _ _ _ hl H
      simp [hj i hx hlo]
    have pan:∀ x a' w',gV A a w (fun ch A'=>Q (.panic ch) ⟨[],f.ds⟩ A') x a' w'->dT nt Q A₀ w₀ x a' w':=by
      rintro x a' w' ⟨ch,A',rfl,rfl,hv',hs',g⟩
      exact ⟨⟨[],f.ds⟩,A',⟨ha.size,(fun _ _ q=>by cases q),ha.ds⟩,hv',hs.trans hs',g,fun _ _=>rfl⟩
    intro r hr'
    cases r with
    | ok n w' =>
      cases n <;> simp only [Oper.upon] at hr' ⊢ <;> (try exact hr'.elim)
      case value v=>exact next _ _ hr'
      case skip=>exact next _ _ hr'
      case defer d=>exact next _ _ hr'
      case enter f' args =>
        refine hr'.mono fun e w'' he=>?_
        cases e with
        | returned v=>exact next _ _ he
        | panicked ch=>exact pan _ _ _ he
        | outgrown=>obtain ⟨a₁,w₁,ch,A',q,_⟩:=he;cases q
      case row row args=>exact hr'.mono fun v w'' he=>next _ _ he
    | halt x w' =>
      cases x <;> simp only [Oper.upon] at hr' ⊢ <;> (try exact hr'.elim)
      case panic v=>exact pan _ _ _ hr'
  exact up _ this
variable {e:gv} {ds:List Deferred}
theorem cd.done {listed:Array Bool} {held:List (Nat × fh)} (h:Q .normal f A):cd P nt ops Q listed held .done f A:=by
  intro hc _ a w ha hw _ _ A₀ w₀ hs
  simp only [kB,List.isEmpty_iff] at hc
  exact ⟨hc,f,A,ha,hw,hs,h,fun _ q=>by cases q⟩
theorem cd.q {listed:Array Bool} {held:List (Nat × fh)} {k d:Nat} {C:OT} {op:Op} {ty:TypeId} {ps:String} {af:Array Edge} {v:Value} {T:fh} (ho:ops[k]? = some { dst:=some d,op:=op,type:=ty,pos:=ps,after:=af,guard:=none }) (hq:dp op=true) (hd:Nat.blt d nt=true) (hv:aQ P e A op=some (v,T))
    (h:cd P nt ops Q (listed.setIfInBounds k true) ((k,T) :: held) C ⟨(d,v) :: e,ds⟩ A):cd P nt ops Q listed held (.one k C) ⟨e,ds⟩ A :=
  cd.quiet (f:=⟨e,ds⟩) (T:=T) (v:=v) ho hq (da (d:=some d) hd) (fun a w ha hw=>by
    have key:=fY (P:=P) (f:=(⟨e,ds⟩:Fr)) (o:={ dst:=some d,op:=op,type:=ty,pos:=ps,after:=af,guard:=none }) hv ha hw
    exact ⟨key.1,.inl ⟨by simp [Region.wanted],key.2⟩⟩) h
theorem cd.l {listed:Array Bool} {held:List (Nat × fh)} {i:Nat} {C:OT} {di:Option Nat} {opi:Op} {ti:TypeId} {pi:String} {afi:Array Edge}
    (hoi:ops[i]? = some { dst:=di,op:=opi,type:=ti,pos:=pi,after:=afi,guard:=none }) (hqi:dp opi=false) (hdi:gj nt di=true)
    (hi:∀ (K:Value->AH->Prop) (Kp:List PanicEntry->AH->Prop),(∀ v A',aO ops held i A'->cd P nt ops Q (listed.setIfInBounds i true) (held.filter fun p=>!kq ops p.1 ops.size i) C ⟨fp e di v,ds⟩ A'->K v A') ->
      (∀ ch A',Q (.panic ch) ⟨[],ds⟩ A'->Kp ch A')->j6 P e A { dst:=di,op:=opi,type:=ti,pos:=pi,after:=afi,guard:=none } K Kp):cd P nt ops Q listed held (.one i C) ⟨e,ds⟩ A:=by
  intro hc hn a w ha hw hh hcl A₀ w₀ hs
  simp only [kB,hoi,hqi,Bool.false_eq_true,if_false,Bool.and_eq_true,beq_iff_eq] at hc
  obtain ⟨c1,c2⟩:=hc
  simp only [OT.len]
  refine ⟨fun h0=>(by rw [c1] at h0;cases h0),fun k hk=>?_⟩
  have hk':=hk
  rw [c1,List.mem_singleton] at hk'
  subst hk'
  exact pR (C:=C) hoi hqi (da hdi) (fun a _=>by simp [Region.wanted]) c2 hn ha hw hcl hs hk hi
theorem cd.both {listed:Array Bool} {held:List (Nat × fh)} {i j:Nat} {C D:OT} {di dj:Option Nat} {opi opj:Op} {ti tj:TypeId} {pi pj:String} {afi afj:Array Edge}
    (hoi:ops[i]? = some { dst:=di,op:=opi,type:=ti,pos:=pi,after:=afi,guard:=none }) (hoj:ops[j]? = some { dst:=dj,op:=opj,type:=tj,pos:=pj,after:=afj,guard:=none }) (hqi:dp opi=false) (hqj:dp opj=false) (hdi:gj nt di=true) (hdj:gj nt dj=true)
    (hi:∀ (K:Value->AH->Prop) (Kp:List PanicEntry->AH->Prop),(∀ v A',aO ops held i A'->cd P nt ops Q (listed.setIfInBounds i true) (held.filter fun p=>!kq ops p.1 ops.size i) C ⟨fp e di v,ds⟩ A'->K v A') ->
      (∀ ch A',Q (.panic ch) ⟨[],ds⟩ A'->Kp ch A')->j6 P e A { dst:=di,op:=opi,type:=ti,pos:=pi,after:=afi,guard:=none } K Kp)
    (hj:∀ (K:Value->AH->Prop) (Kp:List PanicEntry->AH->Prop),(∀ v A',aO ops held j A'->cd P nt ops Q (listed.setIfInBounds j true) (held.filter fun p=>!kq ops p.1 ops.size j) D ⟨fp e dj v,ds⟩ A'->K v A') ->
      (∀ ch A',Q (.panic ch) ⟨[],ds⟩ A'->Kp ch A')->j6 P e A { dst:=dj,op:=opj,type:=tj,pos:=pj,after:=afj,guard:=none } K Kp):cd P nt ops Q listed held (.two i j C D) ⟨e,ds⟩ A:=by
  intro hc hn a w ha hw hh hcl A₀ w₀ hs
  simp only [kB,Bool.and_eq_true,beq_iff_eq] at hc
  obtain ⟨⟨⟨c1,c2⟩,c3⟩,c4⟩:=hc
  simp only [OT.len]
  refine ⟨fun h0=>(by rw [c1] at h0;cases h0),fun k hk=>?_⟩
  have hk':=hk
  rw [c1] at hk'
  simp only [List.mem_cons,List.not_mem_nil,or_false] at hk'
  rcases hk' with rfl | rfl
  · exact pR (C:=C) hoi hqi (da hdi) (fun a _=>by simp [Region.wanted]) c2 hn ha hw hcl hs hk hi
  · rw [c4];exact pR (C:=D) hoj hqj (da hdj) (fun a _=>by simp [Region.wanted]) c3 hn ha hw hcl hs hk hj
theorem ao.drawnT {id:Nat} (C:OT) (hm:P.follows .mixedOrders=true) (hc:kB ops (Array.replicate ops.size false) C=true) (hn:Region.noSelect ops=true) (hl:C.len=ops.size)
    (h:cd P nt ops Q (Array.replicate ops.size false) [] C f A):ao P nt (.region id ops true) Q f A:=by
  intro a w ha hw
  obtain ⟨v1,s1⟩:=i5 hw
  refine wp_mono (wp_region_any hm (jI (Q:=dT nt Q A w) (S:=dQ ops []) _ _ _ _ ?_)) (fun _ _ _=>dT.q)
  have key:=h hc hn a _ ha v1 (fun p hp=>by cases hp) (fun j o _ hj=>by
    exfalso
    rcases Nat.lt_or_ge j ops.size with q | q
    · simp [q] at hj
    · simp [q] at hj) A w s1
  rw [hl] at key
  exact key
end
end V
end Go.Proofs.YtjppkekmddjcfaaGreatDoor
