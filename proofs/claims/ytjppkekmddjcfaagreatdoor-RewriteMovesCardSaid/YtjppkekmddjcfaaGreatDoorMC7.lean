import Derived.Test.YtjppkekmddjcfaaGreatDoorMC6
import Derived.Test.YtjppkekmddjcfaaGreatDoorMC5
set_option linter.unusedSectionVars false
set_option linter.unusedVariables false
set_option linter.unusedSimpArgs false
namespace Go.Proofs.YtjppkekmddjcfaaGreatDoor
open Go Go.RowKit V
set_option maxRecDepth 100000
theorem ng:dn Tryz.prog 160=some false:=by kernel_rfl

theorem Vz (b:Nat) (rwb:Bool) (capb k:Nat) (av nv fv bv:Value) (acc:List Bool) (N:List (List Int)) (rows:List Value) (A:AH) (hok:DU k acc N) (hb:A.get b=some (.row rwb [num (k:Int),av,nv,fv,bv] capb)) (hav:bI A 1 av (ce acc)) (hnv:bI A 1 nv (er rows)) (hrl:rows.length=N.length) (hF:∀ i,i < N.length->bI A 1 (rows.getD i undef) (cN (N.getD i []))):bz Tryz.prog 200 #[.pointer (some ⟨b,0,none⟩)] A (fun v A1=>∃ rows2,A.le A1/\A1.wf/\Fresh A A1 v 1 (er rows2)/\kY A A1 rows2 (dr N)/\aK v rows2):=by
 refine ic Tryz.call200 Tryz.func200 Z Tryz.results200 Tryz.ntmps200 Z (fun wf=>?_);have ac:=AH.le.refl A;obtain ⟨⟨dv,dw⟩,hal,hnl,hrow,hval⟩:=hok;refine al.seq fun _ h2=>.region<|.q Z (ae Z)<|.nil<|h2 _ _<|.seq fun _ h4=>.region<|.q Z (ah Z)<|.q Z (cM Z)<|.q Z (aj jA iM U Z) ?_;refine Ops.q Z (ak iI Z Z (ac.get _ _ hb) Z)<|.q Z (bF (n:=acc.length) mc Z (hav.le ac) O (fu _))<|.l Z (fun _ _ bS _=>m9 (n:=acc.length) (k:=acc.length) wf ac rfl rfl oT fP LX Iy rfl (Nat.le_refl _) (by show 24 * _<=_;omega) O fun A7 b6 c3 aC=>?_);rw [wr] at aC;have ab:=ac.trans c3.le;have aR:kY A A7 (List.replicate acc.length (Value.slice none 0 0)) (List.replicate acc.length []):=kY.nils;refine bS _ _<|.q Z (ae Z)<|.nil<|h4 _ _<|.seq fun _ bp=>.seq fun _ br=>.region<|.q Z (ah Z)<|.q Z (cM Z)<|.q Z (aj qE i6 U Z) ?_;refine Ops.q Z (ak ki Z Z (ab.get _ _ hb) Z)<|.q Z (bF (n:=rows.length) oT Z (hnv.le ab) O (i3 _))<|.q Z (ah Z)<|.nil<|br _ _<|.block<|.loop (X:=Nat × Value × List Value × List (List Int)) (fun ⟨s,ov,R,Bk⟩=>[(3,ov),(17,nv),(18,num ((rows.length:Nat):Int)),(19,num ((s:Nat):Int))]) (fun ⟨s,ov,R,Bk⟩ B=>(s<=N.length/\LQ N s Bk)/\A.le B/\Fresh A B ov 1 (er R)/\kY A B R Bk/\aK ov R) (fun ⟨s,ov,R,Bk⟩=>N.length - s) (⟨0,.slice (some ⟨b6,0,none⟩) acc.length acc.length,List.replicate acc.length (Value.slice none 0 0),List.replicate acc.length []⟩) (mw Z Z Z Z) (⟨⟨Nat.zero_le _,by first | exact LQ.start | (rw [hal];exact LQ.start)⟩,ab,aC,aR,Dh⟩) ?_;rintro ⟨s,ov,R,Bk⟩ B17 ⟨⟨hs,hbk⟩,a8,a7,a5,a1⟩;refine al.wf fun b7=>?_;have hro:=fun q:s < N.length=>hrow s q;have hva:=fun x (q:s < N.length) (z:x < k)=>hval s x q z;refine al.seq fun _ bu=>.region<|.q Z (bX Z Z)<|.nil<|bu _ _<|.seq fun _ bA=>.if rfl (fun c7=>?_) (fun c7=>?_)
 ·refine al.skip<|bA _ _<|.seq fun _ bB=>.block<|.seq fun _ bC=>.region<|.q Z (ah Z) ?_;obtain ⟨d2,dk,cZ,dM,cP,dI,dz,b9,bU,bc,cv,aG⟩:=bI.at (i:=s) (hnv.le a8) On O;refine Ops.q Z (aH oT fP Z b9 Z bU)<|.q Z (ak mj Z Z bc ((cQ aG).trans (eK O)))<|.q Z (ae Z)<|.q Z (ae Z)<|.nil<|bC _ _<|.seq fun _ bD=>.region<|.q Z (ah Z)<|.q Z (bF (n:=((N.getD s [])).length) eB Z ((hF s O).le a8) O (eD _)) ?_;refine Ops.q Z (ah Z)<|.nil<|bD _ _<|.block<|.loop (X:=Nat × Value × List Value × List (List Int)) (fun ⟨j,a3,R1,Bk1⟩=>[(3,a3),(4,num ((s:Nat):Int)),(17,nv),(18,num ((rows.length:Nat):Int)),(19,num ((s:Nat):Int)),(24,rows.getD s undef),(25,num ((((N.getD s [])).length:Nat):Int)),(26,num ((j:Nat):Int))]) (fun ⟨j,a3,R1,Bk1⟩ B=>(j<=k/\GR N s Bk j Bk1)/\A.le B/\Fresh A B a3 1 (er R1)/\kY A B R1 Bk1/\aK a3 R1) (fun ⟨j,a3,R1,Bk1⟩=>k - j) (⟨0,ov,R,Bk⟩) (yZ Z Z Z Z Z Z Z Z) (⟨⟨Nat.zero_le _,GR.start hbk⟩,a8,a7,a5,a1⟩) ?_;rintro ⟨j,a3,R1,Bk1⟩ B32 ⟨⟨hj,hbj⟩,a9,a0,V,D⟩;refine al.wf fun aA=>?_;have cH:R1.length=Bk1.length:=by first | exact kY.len ‹_›
  have cF:=hbj.len;have hvj:=fun z:j < k=>hva j O z;simp only [ig] at hvj;have hbd:=hbj.bound ((N.getD s []).getD j 0).toNat;refine al.seq fun _ bL=>.region<|.q Z (bX Z Z)<|.nil<|bL _ _<|.seq fun _ bM=>.if rfl (fun cc=>?_) (fun cc=>?_)
  ·refine al.skip<|bM _ _<|.seq fun _ aD=>.block<|.seq fun _ bO=>.region ?_;obtain ⟨d3,dl,d0,dO,cS,dJ,dD,ba,bV,bd,cA,aI⟩:=bI.at (i:=j) ((hF s O).le a9) Of O;refine Ops.q Z (aH eB cD Z ba Z bV)<|.q Z (ak df Z Z bd ((cQ aI).trans (c6 O)))<|.q Z (ae Z)<|.nil<|bO _ _<|.seq fun _ bP=>.region<|.q Z (ah Z)<|.q Z (k8 Z Z)<|.nil ?_;refine bP _ _<|.if rfl (fun cf=>?_) (fun cf=>?_)
   ·refine al.region<|.q Z (ah Z)<|.q Z (ah Z)<|.q Z (ah Z)<|.q Z (ah Z) ?_;obtain ⟨dd,dm,d1,dS,cV,dK,dG,bb,bY,bl,cC,aP⟩:=bI.at (i:=(((N.getD s [])).getD j 0).toNat) a0.slc On O;refine Ops.q Z (aH oT fP Z bb (eR O) bY)<|.q Z (ak mj Z Z bl ((cQ aP).trans (eK O)))<|.q Z (ah Z)<|.l Z (fun _ _ aY _=>aM (c:=[num ((s:Nat):Int)]) aA rfl (aw eB cD z3 rfl U U rfl) fun A50 di a2=>?_);have cK:=V.ne_new aA a2.lo;have ag:=a0.le a2.le;have a6:=V.le a2.le;have b1:=a9.trans a2.le;refine aY _ _<|.l Z (fun _ _ aZ _=>cR (ys:=[num ((s:Nat):Int)]) rfl rfl eB cD nu z3 rfl U eB (fun _ h=>by cases h) (a6.fr ((((N.getD s [])).getD j 0).toNat) O).own (bW (n:=1) a2.get Z) rfl rfl (by show (_ + _) * 8<=_;simp only [ax,List.length_cons,List.length_nil];(try simp only [List.length_append,List.length_cons,List.length_nil]);omega) O2 fun A58 dW a4=>?_);rw [show ([num ((s:Nat):Int)]:List Value)=cN [((s:Nat):Int)] from rfl,dt] at a4;obtain ⟨ai,b2⟩:=Fresh.grow (a6.fr ((((N.getD s [])).getD j 0).toNat) O) b1 wf a4;have b5:=bn.appd (ef D (s:=(((N.getD s [])).getD j 0).toNat) (by have:=a6.len;omega)).symm ag.own a2.wf a4;have aV:=ag.appd a4 (ef D (s:=(((N.getD s [])).getD j 0).toNat) (by have:=a6.len;omega)).symm;have az:=F8 (s:=(((N.getD s [])).getD j 0).toNat) D b5.symm;have aS:=a6.appRow a2.wf O a4 ai;obtain ⟨ay,ar,ad,ch,_⟩:=ai.own.slice;subst ch;refine aZ _ _ ?_;obtain ⟨b8,dL,dj,ck,cX,aB,aF,bm,dZ,c4,dV,bT⟩:=aV.at1 (x:=(((N.getD s [])).getD j 0).toNat) On;rw [cl] at aF;refine Ops.q Z (aH oT fP Z aB (eR O) (by rw [aF];omega))<|.l Z (fun _ _ b0 _=>be (off:=(((N.getD s [])).getD j 0).toNat) (c':=ck.set ((((N.getD s [])).getD j 0).toNat) (.slice ay ar ad)) a4.wf rfl (by simp) rfl rfl fP bm (by show ((((N.getD s [])).getD j 0).toNat) + 1<=_;omega) rfl rfl fun A72 aa=>?_);have aT:=aS.keep aa.keep (fun r hr=>az r hr b8 (by rw [aB];rfl));have ap:=bT (.slice ay ar ad) A72 aa;rw [Po] at ap;have b3:=ao b2 wf c4 aa.n aa.keep;refine b0 _ _<|.nil<|aD _ _<|.region<|.q Z (bE (b:=1) Z Z O)<|.q Z (ah Z)<|.nil ?_;exact ⟨⟨j + 1,a3,R1.set ((((N.getD s [])).getD j 0).toNat) (Value.slice ay ar ad),Bk1.set ((((N.getD s [])).getD j 0).toNat) (((Bk1.getD ((((N.getD s [])).getD j 0).toNat) [])) ++ [((s:Nat):Int)])⟩,yZ Z Z Z Z Z Z Z Z,Z,⟨⟨by omega,by first | exact hbj.yes O O ‹_› | exact hbj.no O O ‹_›⟩,b3,ap,aT,az⟩,O1⟩
   refine al.skip<|aD _ _<|.region<|.q Z (bE (b:=1) Z Z O)<|.q Z (ah Z)<|.nil ?_;exact ⟨⟨j + 1,a3,R1,Bk1⟩,yZ Z Z Z Z Z Z Z Z,Z,⟨⟨by omega,by first | exact hbj.yes O O ‹_› | exact hbj.no O O ‹_›⟩,a9,a0,V,D⟩,O1⟩
  refine al.exit<|bB _ _<|.region<|.q Z (bE (b:=1) Z Z O)<|.q Z (ah Z)<|.nil ?_;exact ⟨⟨s + 1,a3,R1,Bk1⟩,mw Z Z Z Z,Z,⟨⟨by omega,LQ.next hbj O O⟩,a9,a0,V,D⟩,O1⟩
 refine al.exit<|bp _ _<|.seq fun _ bR=>.region<|.q Z (ah Z)<|.q Z (ae Z)<|.nil<|bR _ _<|.rt (by exact aE Z (⟨_,a8,b7,a7,m4 a5 (hbk.fin O),a1⟩))

theorem VG (b:Nat) (A:AH):bz Tryz.prog 180 #[.pointer (some ⟨b,0,none⟩)] A (fun v A1=>∃ b1,v=.func (.func 199) #[] #[.pointer (some ⟨b1,0,none⟩)]/\A.le A1/\A1.wf/\A1.get b1=some (.row true [.pointer (some ⟨b,0,none⟩)] 1)/\A.get b1=none):=by
 refine ic Tryz.call180 Tryz.func180 Z Tryz.results180 Tryz.ntmps180 Z (fun wf=>?_);have V:=AH.le.refl A;refine al.seq fun _ h2=>.region<|.l Z (fun _ _ X _=>dP wf rfl rfl fun A5 b4 h=>?_);have D:=aW wf (Nat.le_trans V.n h.lo);have a0:=V.trans h.le;refine X _ _<|.q Z (ae Z)<|.nil<|h2 _ _<|.seq fun _ h9=>.region<|.q Z (mD Z Z)<|.q Z (ae Z)<|.nil<|h9 _ _ ?_;refine al.ret ?_;repeat first | with_reducible refine bw ?_ | with_reducible refine bj ?_
 exact aE Z (⟨b4,Z,a0,h.wf,h.get,D⟩)

theorem Uf (D lp:Nat) (J:Nat->AH->Prop) (b:Nat) (rwb:Bool) (capb k:Nat) (av nv fv bv:Value) (acc:List Bool) (N:List (List Int)) (rows:List Value) (M A:AH) (b1 k1:Nat) (w1:Bool) (hP:cq D M A) (ec:J 0 A) (cF:M.get b1=some (.row w1 [.pointer (some ⟨b,0,none⟩)] k1)) (hok:DU k acc N) (hb:M.get b=some (.row rwb [num (k:Int),av,nv,fv,bv] capb)) (hav:bI M 1 av (ce acc)) (hnv:bI M 1 nv (er rows)) (hrl:rows.length=N.length) (hF:∀ i,i < N.length->bI M 1 (rows.getD i undef) (cN (N.getD i []))) (hclo:∀ i C C2,J i C->C2.wf->C.n<=C2.n->(∀ b o,(b < A.n\/na D C b)->C.get b=some o->C2.get b=some o)->J i C2) (hv:∀ i C,J i C->∃ v cap,C.get D=some (.row true [v] cap)/\∀ b,blk v=some b->∃ o,C.get b=some o) (hy:∀ k C M2,k < (gr acc N).length->C.wf->J k C->cq D M2 C->ls Tryz.prog lp #[num ((gr acc N).getD k 0)] C (fun v C2=>v=.bool true/\J (k + 1) C2/\C2.wf/\cq D M2 C2)):bz Tryz.prog 199 #[.func (.yield lp) #[] #[],.pointer (some ⟨b1,0,none⟩)] A (fun v A1=>J (gr acc N).length A1/\A1.wf/\cq D M A1):=by
 refine mf Tryz.call199 Tryz.func199 Z Tryz.results199 Tryz.ntmps199 Z (fun wf=>?_);have b5:=hP.le;have dj:=hok;obtain ⟨⟨jn,jN⟩,hal,hnl,hrow,hval⟩:=hok;obtain ⟨vX,cX,gX,lX⟩:=hv _ _ ec;have h3:=AH.le.refl A;have hbl:=r5 (N:=N);refine al.seq fun _ h2=>.region<|.q Z (ak ng Z Z (b5.get _ _ cF) Z)<|.l Z (fun _ _ h0 _=>au Z (Vz b _ _ k av nv fv bv acc N rows A dj (b5.get _ _ hb) (hav.le b5) (hnv.le b5) hrl (fun i hi=>(hF i hi).le b5)) ?_);rintro v4 A5 ⟨bc,dz,bL,bM,bl,g2⟩;have h8:=b5.trans dz;have bY:=h3.trans dz;have xr:=bM;have xf:=bl;have xs:=g2;have gZ:=bY.get _ _ gX;have aT:M.le (A5.hide [some D,blk vX]):=cd h8 (fun b hb=>by simp only [List.mem_cons,List.not_mem_nil,or_false,Option.some.injEq] at hb;rcases hb with rfl | hb;exact hP.ow _ (.inl Z);exact hP.ow _ (.inr ⟨_,_,gX,hb.symm⟩));have hbk:bI (A5.hide [some D,blk vX]) 1 v4 (er bc):=rL bM gX lX (fun b h=>bM.lo b h);have hFK:∀ i,i < N.length->bI (A5.hide [some D,blk vX]) 1 (bc.getD i undef) (cN ((dr N).getD i [])):=fun i hi=>rL (bl.fr i (by rw [r5];exact hi)) gX lX (fun b h=>(bl.fr i (by rw [r5];exact hi)).lo b h);have hrb:bc.length=N.length:=by rw [bl.len,r5]
 have aP:=cz A5 [some D,blk vX];have br:=cg (bs:=[some D,blk vX]) bL;have dd:(A5.hide [some D,blk vX]).get D=none:=cn (by simp);have di:∀ b,blk vX=some b->(A5.hide [some D,blk vX]).get b=none:=fun b h=>cn (by simp [h]);have bT:A.n<=(A5.hide [some D,blk vX]).n:=bY.n;generalize hM1:A5.hide [some D,blk vX]=M1 at aT hbk hFK aP br dd di bT;refine h0 _ _<|.q Z (ae Z)<|.nil<|h2 _ _<|.seq fun _ gf=>.region<|.q Z (ak ng Z Z (aP.get _ _ (aT.get _ _ cF)) Z)<|.q Z (cM Z)<|.q Z (aj jA iM U Z)<|.q Z (ak iI Z Z (aP.get _ _ (aT.get _ _ hb)) Z) ?_;refine Ops.q Z (bF (n:=acc.length) mc Z ((hav.le aT).le aP) O (fu _))<|.l Z (fun _ _ fe _=>m9 (n:=acc.length) (k:=acc.length) bL aP rfl rfl mc mn z4 NF rfl (Nat.le_refl _) (by show 1 * _<=_;omega) O fun A13 g5 aV ch=>?_);rw [o6] at ch;have bb:=ne_new bL gZ aV.lo;have cH:=aW wf (Nat.le_trans bY.n aV.lo);have dD:=Nat.le_trans aP.n aV.lo;have gg:=aV.le.get _ _ gZ;have b9:=aP.trans aV.le;have fq:=bY.trans aV.le;refine fe _ _<|.q Z (ae Z)<|.nil<|gf _ _<|.seq fun _ gl=>.region<|.q Z (ae Z)<|.nil<|gl _ _<|.seq fun _ gm=>?_;refine al.seq fun _ gp=>.region<|.q Z (ak ng Z Z (b9.get _ _ (aT.get _ _ cF)) Z)<|.q Z (cM Z)<|.q Z (aj jA iM U Z)<|.q Z (ak iI Z Z (b9.get _ _ (aT.get _ _ hb)) Z)<|.q Z (bF (n:=acc.length) mc Z ((hav.le aT).le b9) O (fu _))<|.q Z (ah Z)<|.nil<|gp _ _ ?_;refine al.block<|.loop (X:=Nat × List Bool × List Int × Value × Value) (fun ⟨s,sn,Q,sv,qv⟩=>[(0,.func (.yield lp) #[] #[]),(3,v4),(4,sv),(5,qv),(22,av),(23,num ((acc.length:Nat):Int)),(24,num ((s:Nat):Int))]) (fun ⟨s,sn,Q,sv,qv⟩ B=>(s<=acc.length/\nf N.length sn Q/\Q=qY acc s)/\M1.le B/\Fresh M1 B sv 1 (ce sn)/\Fresh M1 B qv 1 (cN Q)/\B.get D=some (.row true [vX] cX)/\V.blk sv ≠ some D/\V.blk qv ≠ some D/\bn sv qv/\A.le B/\(∀ b,V.blk sv=some b->A.get b=none)/\(∀ b,V.blk qv=some b->A.get b=none)/\((∀ b,blk sv=some b->A.n<=b)/\(∀ b,blk qv=some b->A.n<=b))) (fun ⟨s,sn,Q,sv,qv⟩=>acc.length - s) (⟨0,List.replicate acc.length false,[],.slice (some ⟨g5,0,none⟩) acc.length acc.length,.slice none 0 0⟩) (Im Z Z Z Z Z Z Z) (⟨⟨Nat.zero_le _,by rw [hal];exact nf.nil,rfl⟩,b9,ch,(Fresh.nil M1 A13 1),gg,(fun q=>by cases q;exact bb rfl),(fun q=>by cases q),(bn.symm bn.nil),fq,(fun b q=>by cases q;exact cH),(fun _ q=>by cases q),⟨(fun b q=>by cases q;exact Nat.le_trans bT dD),Vk⟩⟩) ?_;rintro ⟨s,sn,Q,sv,qv⟩ B26 ⟨⟨hs,hse,hQ⟩,ba,aI,aG,aa,ap,ai,ab,aZ,aB,aA,los,loq⟩;refine al.wf fun bd=>?_;have hsl:=hse.len;have hql:=hse.qlen;have d3:=hse.add (p:=(s:Int));refine al.seq fun _ gq=>.region<|.q Z (bX Z Z)<|.nil<|gq _ _<|.seq fun _ gs=>.if rfl (fun hc=>?_) (fun hc=>?_)
 ·refine al.skip<|gs _ _<|.seq fun _ e9=>.block<|.seq fun _ gA=>.region<|.q Z (ah Z) ?_;obtain ⟨VY,j3,iR,k6,iF,k2,jX,g6,h6,g8,hH,ez⟩:=bI.at (i:=s) ((hav.le aT).le ba) Oi O;refine Ops.q Z (aH mc mn Z g6 Z h6)<|.q Z (ak uM Z Z g8 ((cQ ez).trans (ep O)))<|.q Z (ae Z)<|.q Z (ae Z)<|.nil<|gA _ _<|.seq fun _ gC=>.region<|.q Z (ah Z)<|.nil ?_;refine gC _ _<|.ifB Z (fun hd=>?_) (fun hd=>?_)
  ·refine al.seq fun _ gD=>.region<|.q Z (ah Z)<|.q Z (ah Z) ?_;obtain ⟨e7,k3,j2,hf,iH,bO,ev,g9,kc,ha,k9,h5⟩:=aI.at1 (x:=s) Oi;rw [bG] at ev;refine Ops.q Z (aH mc mn Z bO Z (by rw [ev];omega))<|.l Z (fun _ _ fi _=>be (off:=s) (c':=hf.set s (.bool (true))) bd rfl (by simp) rfl rfl mn g9 (by show s + 1<=_;omega) rfl rfl fun A45 aF=>?_);have gE:=aF.keep _ _ (fun q=>ap (by rw [bO];exact congrArg some q.symm)) aa;have eQ:=aG.keep aF.keep (ab e7 (by rw [bO];rfl));have ck:=h5 (.bool (true)) A45 aF;rw [li] at ck;have dk:=ao aZ wf (aB e7 (by rw [bO];rfl)) aF.n aF.keep;have dv:=ao ba br ha aF.n aF.keep;refine fi _ _<|.nil<|gD _ _<|.region<|.q Z (ah Z)<|.q Z (ah Z)<|.l Z (fun _ _ fl _=>aM (c:=[num ((s:Nat):Int)]) aF.wf rfl (aw eB cD z3 rfl U U rfl) fun A54 iX ag=>?_);have ge:=aW wf (Nat.le_trans dk.n ag.lo);have h9:=Nat.le_trans dv.n ag.lo;have ea:=ag.le.get _ _ gE;have cv:=ck.le ag.le;have cA:=eQ.le ag.le;have dw:=dv.trans ag.le;have dl:=dk.trans ag.le;refine fl _ _<|.l Z (fun _ _ fm _=>cR (ys:=[num ((s:Nat):Int)]) rfl rfl eB cD nu z3 rfl U eB (fun _ h=>by cases h) cA.own (bW (n:=1) ag.get Z) rfl rfl (by show (_ + _) * 8<=_;simp only [ax,List.length_cons,List.length_nil];(try simp only [List.length_append,List.length_cons,List.length_nil]);omega) O2 fun A64 hg ay=>?_);rw [show ([num ((s:Nat):Int)]:List Value)=cN [((s:Nat):Int)] from rfl,dt] at ay;obtain ⟨eS,fN⟩:=Fresh.grow cA dw br ay;have gF:=ay.keep ai ea;have fQ:=ay.ne ai ag.wf ea;have g0:=bn.appd (show bn qv sv from (bn.symm ab)) cv.own ag.wf ay;have eT:=cv.appd ay (bn.symm ab);have fO:=Od loq ay (Nat.le_trans bT dw.n);have ft:=IG dl wf ay aA;have fR:=II dl wf ay aA;refine fm _ _<|.q Z (ae Z)<|.nil<|e9 _ _<|.region<|.q Z (bE (b:=1) Z Z O)<|.q Z (ah Z)<|.nil ?_;exact ⟨⟨s + 1,sn.set s true,Q ++ [((s:Nat):Int)],sv,hg⟩,Im Z Z Z Z Z Z Z,Z,⟨⟨by omega,by first | exact hse | exact d3 O (by rw [hQ];exact Am),by first | exact An hQ ‹_› | exact GV hQ ‹_›⟩,fN,eT,eS,gF,ap,fQ,(bn.symm g0),ft,aB,fR,⟨los,fO⟩⟩,O1⟩
  refine al.skip<|e9 _ _<|.region<|.q Z (bE (b:=1) Z Z O)<|.q Z (ah Z)<|.nil ?_;exact ⟨⟨s + 1,sn,Q,sv,qv⟩,Im Z Z Z Z Z Z Z,Z,⟨⟨by omega,by first | exact hse | exact d3 O (by rw [hQ];exact Am),by first | exact An hQ ‹_› | exact GV hQ ‹_›⟩,ba,aI,aG,aa,ap,ai,ab,aZ,aB,aA,⟨los,loq⟩⟩,O1⟩
 refine al.exit<|gm _ _<|.seq fun _ gG=>.region<|.q Z (ae Z)<|.nil<|gG _ _<|.block ?_;have fd:=hclo _ _ _ ec bd aZ.n (fun b o _ h=>aZ.get b o h);have oS:jq A B26 D sv:=jq.start aa lX gX aB los;have oQ:jq A B26 D qv:=jq.start aa lX gX aA loq;have b6:M1.le (B26.hide [some D,blk vX,blk sv,blk qv]):=cd ba (uD dd (s8 di (s8 aI.lo (s8 aG.lo px))));have frS:Fresh (B26.hide [some D,blk vX,blk sv,blk qv]) B26 sv 1 (ce sn):=aI.hide (by simp);have frQ:Fresh (B26.hide [some D,blk vX,blk sv,blk qv]) B26 qv 1 (cN Q):=aG.hide (by simp);have en:cq D (B26.hide [some D,blk vX,blk sv,blk qv]) B26:=⟨cz _ _,cg bd,fun b hb=>cn (by rcases hb.val aa with rfl | q;simp;simp [q])⟩;have d2:=cz B26 [some D,blk vX,blk sv,blk qv];have bu:=cg (bs:=[some D,blk vX,blk sv,blk qv]) bd;have hseQ:Q=qY acc acc.length:=by rw [hQ,show s=acc.length by omega]
 have fn:z6 acc N 0 sn Q:=by subst hseQ;exact z6.start hse
 generalize hM2:(B26.hide [some D,blk vX,blk sv,blk qv])=M2 at b6 frS frQ en d2 bu;refine al.loop (X:=Nat × List Bool × List Int × Value × Value) (fun ⟨i,b3,Q1,a6,a5⟩=>[(0,.func (.yield lp) #[] #[]),(3,v4),(4,a6),(5,a5),(8,num ((i:Nat):Int))]) (fun ⟨i,b3,Q1,a6,a5⟩ B=>(z6 acc N i b3 Q1)/\M2.le B/\Fresh M2 B a6 1 (ce b3)/\Fresh M2 B a5 1 (cN Q1)/\bn a6 a5/\(J i B/\cq D M2 B/\jq A B D a6/\jq A B D a5)) (fun ⟨i,b3,Q1,a6,a5⟩=>N.length + 1 - i) (⟨0,sn,Q,sv,qv⟩) (pw Z Z Z Z Z) (⟨fn,d2,frS,frQ,ab,⟨fd,en,oS,oQ⟩⟩) ?_;rintro ⟨i,b3,Q1,a6,a5⟩ B81 ⟨hlv,hX,b0,az,bC,cS,d0,ey,ex⟩;refine al.wf fun bD=>?_;have hR:=hlv.seen.len;have hN:=hlv.seen.qlen;have hil:=hlv.le;have hat:=fun q:i < Q1.length=>hlv.at q;have hget:=fun q:i < Q1.length=>hlv.get q;have hbb:=dj.back (Q1.getD i 0).toNat;refine al.seq fun _ gL=>.seq fun _ gM=>.region<|.q Z (ah Z)<|.q Z (ah Z)<|.q Z (bF (n:=Q1.length) eB Z az.slc O (eD _))<|.q Z (bX Z Z)<|.nil<|gM _ _<|.if rfl (fun he=>?_) (fun he=>?_)
 ·refine al.skip<|gL _ _<|.seq fun _ gN=>.block<|.seq fun _ gP=>.seq fun _ gQ=>?_;obtain ⟨vY,cY,gY,lY⟩:=hv _ _ cS;have hyy:=hy i B81 _ (hget O).2 bD cS (cq.full gY bD);rw [(hget O).1] at hyy;refine al.regionJ ?_;refine jL.q ku Z Z (ah Z) ?_;refine jL.q ku Z Z (ah Z) ?_;refine jL.q ku Z Z (ah Z) ?_;obtain ⟨j1,j4,iS,k7,iN,k4,k0,g7,h7,gc,hI,eA⟩:=bI.at (i:=i) az.slc Of O;refine jL.q ku Z Z (aH eB cD Z g7 Z h7) ?_;refine jL.q ku Z Z (ak df Z Z gc ((cQ eA).trans (c6 O))) ?_;refine jL.y ku rfl rfl rfl (hyy) fun ka A95 fo=>?_;obtain ⟨rfl,eg,hh,b2⟩:=fo;obtain ⟨vZ,cZ,gZ,lZ⟩:=hv _ _ eg;have b8:=b2.mono (d0.sub gY) d0.wf;have eV:=b0.off (jq.off ey gY) b2.le;have cC:=az.off (jq.off ex gY) b2.le;have bp:=jq.yield ey b0.own gY b2;have bm:=jq.yield ex az.own gY b2;have h4:=cz A95 [blk a6,blk a5];have c3:=cg (bs:=[blk a6,blk a5]) hh;have njS:∀ b,blk a6=some b->(A95.hide [blk a6,blk a5]).get b=none:=fun b h=>cn (by simp [h]);have njQ:∀ b,blk a5=some b->(A95.hide [blk a6,blk a5]).get b=none:=fun b h=>cn (by simp [h]);have h1:A.n<=M2.n:=Nat.le_trans bT b6.n;refine jL.q ku Z Z (eo Z) ?_;refine jL.nil ?_;refine gQ _ _<|.cond_false Z<|.skip<|gP _ _<|.seq fun _ gS=>.region<|.q Z (ah Z)<|.q Z (ah Z)<|.q Z (ah Z) ?_;obtain ⟨hA,hJ,hu,ir,ho,hY,hT,eC,fE,eX,hk,dJ⟩:=bI.at (i:=i) cC.slc Of O;refine Ops.q Z (aH eB cD Z eC Z fE)<|.q Z (ak df Z Z eX ((cQ dJ).trans (c6 O))) ?_;obtain ⟨hB,hK,hw,it,hp,hZ,hU,eG,fI,eY,hl,dK⟩:=bI.at (i:=(Q1.getD i 0).toNat) ((hbk.le b6).le b8.le) (by simp only [cl];have:=hat O;omega) O;refine Ops.q Z (aH oT fP Z eG (eR (by have:=hat O;omega)) fI)<|.q Z (ak mj Z Z eY ((cQ dK).trans (eK (by have:=hat O;omega))))<|.q Z (bF (n:=((((dr N)).getD ((Q1.getD i 0).toNat) [])).length) eB Z (((fun i hi=>(hFK i hi).le b6) ((Q1.getD i 0).toNat) (by have:=hat O;omega)).le b8.le) O (eD _))<|.q Z (ah Z)<|.nil<|gS _ _<|.block<|.loop (X:=Nat × List Bool × List Int × Value × Value) (fun ⟨j,aY,Q2,ar,aC⟩=>[(0,.func (.yield lp) #[] #[]),(3,v4),(4,ar),(5,aC),(8,num ((i:Nat):Int)),(57,bc.getD ((Q1.getD i 0).toNat) undef),(58,num ((((((dr N)).getD ((Q1.getD i 0).toNat) [])).length:Nat):Int)),(59,num ((j:Nat):Int))]) (fun ⟨j,aY,Q2,ar,aC⟩ B=>(j<=((dr N).getD (Q1.getD i 0).toNat []).length/\z7 acc N i b3 Q1 j aY Q2)/\M2.le B/\Fresh M2 B ar 1 (ce aY)/\Fresh M2 B aC 1 (cN Q2)/\B.get D=some (.row true [vZ] cZ)/\V.blk ar ≠ some D/\V.blk aC ≠ some D/\bn ar aC/\(A95.hide [blk a6,blk a5]).le B/\(∀ b,V.blk ar=some b->(A95.hide [blk a6,blk a5]).get b=none)/\(∀ b,V.blk aC=some b->(A95.hide [blk a6,blk a5]).get b=none)/\((∀ b,blk ar=some b->A.n<=b)/\(∀ b,blk aC=some b->A.n<=b))) (fun ⟨j,aY,Q2,ar,aC⟩=>((dr N).getD (Q1.getD i 0).toNat []).length - j) (⟨0,b3,Q1,a6,a5⟩) (yZ Z Z Z Z Z Z Z Z) (⟨⟨Nat.zero_le _,z7.start hlv O⟩,b8.le,eV,cC,gZ,bp.ne,bm.ne,bC,h4,njS,njQ,⟨(fun b q=>(bp b q).1),(fun b q=>(bm b q).1)⟩⟩) ?_;rintro ⟨j,aY,Q2,ar,aC⟩ B103 ⟨⟨hj,hlj⟩,aS,ac,aD,a1,a4,a3,a2,aR,a9,a8,bB,bA⟩;refine al.wf fun cc=>?_;have hS:=hlj.seen.len;have hO:=hlj.seen.qlen;have hrg:=fun q:j < ((dr N).getD (Q1.getD i 0).toNat []).length=>z7.rng q;refine al.seq fun _ f2=>.region<|.q Z (bX Z Z)<|.nil<|f2 _ _<|.seq fun _ f3=>.if rfl (fun fT=>?_) (fun fT=>?_)
  ·refine al.skip<|f3 _ _<|.seq fun _ cK=>.block<|.seq fun _ f4=>.region ?_;obtain ⟨hC,hL,hx,iv,hq,i1,hV,eL,fL,eZ,hm,dL⟩:=bI.at (i:=j) (((fun i hi=>(hFK i hi).le b6) ((Q1.getD i 0).toNat) (by have:=hat O;omega)).le aS) Of O;refine Ops.q Z (aH eB cD Z eL Z fL)<|.q Z (ak df Z Z eZ ((cQ dL).trans (c6 O)))<|.q Z (ae Z)<|.nil<|f4 _ _<|.seq fun _ f5=>.region<|.q Z (ah Z)<|.q Z (ah Z) ?_;obtain ⟨hD,hM,hz,iD,hr,i2,hW,eN,fM,f0,hn,dM⟩:=bI.at (i:=(((((dr N)).getD ((Q1.getD i 0).toNat) [])).getD j 0).toNat) ac.slc Oi O;refine Ops.q Z (aH mc mn Z eN (eR O) fM)<|.q Z (ak uM Z Z f0 ((cQ dM).trans (ep O)))<|.q Z (eo Z)<|.nil<|f5 _ _<|.ifB Z (fun fV=>?_) (fun fV=>?_)
   ·refine al.seq fun _ f6=>.region<|.q Z (ah Z)<|.q Z (ah Z) ?_;obtain ⟨cf,ih,hG,fX,ht,b7,dm,f1,iV,fS,iT,fD⟩:=ac.at1 (x:=(((((dr N)).getD ((Q1.getD i 0).toNat) [])).getD j 0).toNat) Oi;rw [bG] at dm;refine Ops.q Z (aH mc mn Z b7 (eR O) (by rw [dm];omega))<|.l Z (fun _ _ dW _=>be (off:=(((((dr N)).getD ((Q1.getD i 0).toNat) [])).getD j 0).toNat) (c':=fX.set ((((((dr N)).getD ((Q1.getD i 0).toNat) [])).getD j 0).toNat) (.bool (true))) cc rfl (by simp) rfl rfl mn f1 (by show ((((((dr N)).getD ((Q1.getD i 0).toNat) [])).getD j 0).toNat) + 1<=_;omega) rfl rfl fun A123 ad=>?_);have f7:=ad.keep _ _ (fun q=>a4 (by rw [b7];exact congrArg some q.symm)) a1;have dO:=aD.keep ad.keep (a2 cf (by rw [b7];rfl));have bP:=fD (.bool (true)) A123 ad;rw [li] at bP;have bU:=ao aR c3 (a9 cf (by rw [b7];rfl)) ad.n ad.keep;have c4:=ao aS bu fS ad.n ad.keep;refine dW _ _<|.nil<|f6 _ _<|.region<|.q Z (ah Z)<|.q Z (ah Z)<|.l Z (fun _ _ dZ _=>aM (c:=[num (((((dr N)).getD ((Q1.getD i 0).toNat) [])).getD j 0)]) ad.wf rfl (aw eB cD z3 rfl U U rfl) fun A132 hE a0=>?_);have g3:=aW c3 (Nat.le_trans bU.n a0.lo);have g4:=Nat.le_trans c4.n a0.lo;have cP:=a0.le.get _ _ f7;have bR:=bP.le a0.le;have bS:=dO.le a0.le;have c7:=c4.trans a0.le;have bV:=bU.trans a0.le;refine dZ _ _<|.l Z (fun _ _ e0 _=>cR (ys:=[num (((((dr N)).getD ((Q1.getD i 0).toNat) [])).getD j 0)]) rfl rfl eB cD nu z3 rfl U eB (fun _ h=>by cases h) bS.own (bW (n:=1) a0.get Z) rfl rfl (by show (_ + _) * 8<=_;simp only [ax,List.length_cons,List.length_nil];(try simp only [List.length_append,List.length_cons,List.length_nil]);omega) O2 fun A142 g1 a7=>?_);rw [show ([num (((((dr N)).getD ((Q1.getD i 0).toNat) [])).getD j 0)]:List Value)=cN [((((dr N)).getD ((Q1.getD i 0).toNat) [])).getD j 0] from rfl,dt] at a7;obtain ⟨dS,e2⟩:=Fresh.grow bS c7 bu a7;have f9:=a7.keep a3 cP;have e4:=a7.ne a3 a0.wf cP;have e6:=bn.appd (show bn aC ar from (bn.symm a2)) bR.own a0.wf a7;have dV:=bR.appd a7 (bn.symm a2);have e3:=Od bA a7 (Nat.le_trans h1 c7.n);have e1:=IG bV c3 a7 a8;have e5:=II bV c3 a7 a8;refine e0 _ _<|.q Z (ae Z)<|.nil<|cK _ _<|.region<|.q Z (bE (b:=1) Z Z O)<|.q Z (ah Z)<|.nil ?_;exact ⟨⟨j + 1,aY.set ((((((dr N)).getD ((Q1.getD i 0).toNat) [])).getD j 0).toNat) true,Q2 ++ [((((dr N)).getD ((Q1.getD i 0).toNat) [])).getD j 0],ar,g1⟩,yZ Z Z Z Z Z Z Z Z,Z,⟨⟨by omega,by first | exact hlj.new O ‹_› | exact hlj.old O ‹_›⟩,e2,dV,dS,f9,a4,e4,(bn.symm e6),e1,a9,e5,⟨bB,e3⟩⟩,O1⟩
   refine al.skip<|cK _ _<|.region<|.q Z (bE (b:=1) Z Z O)<|.q Z (ah Z)<|.nil ?_;exact ⟨⟨j + 1,aY,Q2,ar,aC⟩,yZ Z Z Z Z Z Z Z Z,Z,⟨⟨by omega,by first | exact hlj.new O ‹_› | exact hlj.old O ‹_›⟩,aS,ac,aD,a1,a4,a3,a2,aR,a9,a8,⟨bB,bA⟩⟩,O1⟩
  refine al.exit<|gN _ _<|.region<|.q Z (ah Z)<|.q Z (bE (b:=1) Z Z O)<|.q Z (ae Z)<|.nil ?_;have cV:=hclo _ _ _ eg cc aR.n (fun b o hb h=>aR.get b o (bN h (jq.nm bp bm hb)));have d1:=cq.keep b8 aS gZ a1;have dI:=jq.next bp bm gZ lZ a1 a9 bB;have dG:=jq.next bp bm gZ lZ a1 a8 bA;exact ⟨⟨i + 1,aY,Q2,ar,aC⟩,pw Z Z Z Z Z,Z,⟨z6.next hlj O,aS,ac,aD,a2,⟨cV,d1,dI,dG⟩⟩,O1⟩
 refine al.exit ?_;repeat first | with_reducible refine bw ?_ | with_reducible refine bj ?_
 repeat first | with_reducible refine fc ?_ | with_reducible refine eu ?_ | with_reducible refine dY U ?_ | with_reducible refine d4 ?_ | with_reducible refine db ?_
 exact yl (vs:=[]) Z (⟨by rw [<- (hlv.end O).2];exact cS,bD,d0.mono (aT.trans b6) hP.wf⟩)
end Go.Proofs.YtjppkekmddjcfaaGreatDoor

namespace Go.Proofs.YtjppkekmddjcfaaGreatDoor
open Go Go.RowKit V
abbrev jb (p:Bool × Bool):Value:=.agg #[.bool p.1,.bool p.2]
section
variable {P:Program} {w:World} {kt bt:TypeId} {p q:Bool × Bool}
structure Mf (P:Program) (kt bt:TypeId):Prop where
  arr:P.underlying kt=some (.array 2 bt)
  bool:P.underlying bt=some .bool
  sz:da P bt=some 1
  ag:dn P bt=some false
theorem Gu (h:Mf P kt bt):(part bt #[.bool p.1,.bool p.2] 0).run P w=.ok (.bool p.1) w:=nP (by rw [pY,h.ag];rfl)
theorem Gv (h:Mf P kt bt):(part bt #[.bool p.1,.bool p.2] 1).run P w=.ok (.bool p.2) w:=nP (by rw [pY,h.ag];rfl)
theorem wD (h:Mf P kt bt) (b:Bool):(Instr.checkKey b 10000 kt (jb p)).run P w=.ok () w:=by
  have e:Instr.checkKey b 10000 kt (jb p)=Instr.checkKey b (9998 + 1 + 1) kt (jb p):=rfl
  rw [e]
  generalize 9998=d
  have hb:∀ v,(Instr.checkKey b (d + 1) bt (.bool v)).run P w=.ok () w:=fun v=>by
    unfold Instr.checkKey
    simp only [Sem.run_bind,ca h.bool,Result.andThen_ok];rfl
  rw [Instr.checkKey]
  simp [Sem.run_bind,ca h.arr,Result.andThen_ok,Std.Legacy.Range.forIn_eq_forIn_range',List.range',d9 h.sz,hb]
  rw [Gu h];simp [hb]
  rw [Gv h];simp [hb]
theorem FH (h:Mf P kt bt):(Op.equal kt (jb p) (jb q)).run P w=.ok (decide (p=q)) w:=by
  have e:Op.equal kt (jb p) (jb q)=Op.equalIn (9998 + 1 + 1) kt (jb p) (jb q):=rfl
  rw [e]
  generalize 9998=d
  have hb:∀ u v,(Op.equalIn (d + 1) bt (.bool u) (.bool v)).run P w=.ok (u == v) w:=fun u v=>by
    simp only [Op.equalIn,Sem.run_bind,ca h.bool,Result.andThen_ok];rfl
  rw [Op.equalIn]
  simp [Sem.run_bind,ca h.arr,Result.andThen_ok,Std.Legacy.Range.forIn_eq_forIn_range',List.range',d9 h.sz,hb]
  rw [Gu h];simp
  rw [Gu h];simp [hb]
  obtain ⟨p1,p2⟩:=p
  obtain ⟨q1,q2⟩:=q
  by_cases h1:p1=q1
  · subst h1
    simp
    rw [Gv (p:=(p1,p2)) h];simp
    rw [Gv (p:=(p1,q2)) h];simp [hb]
    by_cases h2:p2=q2
    · subst h2;simp
    · simp [h2]
  · simp [h1]
theorem PC (h:Mf P kt bt) (k:Bool × Bool):∀ (l:List MapEntry) (E:List ((Bool × Bool) × Value)) (n:Nat),l.map (fun x=>(x.key,x.val))=E.map (fun p=>(jb p.1,p.2)) ->
    ∃ r,(Instr.findAsking kt (jb k) l n).run P w=.ok r w/\r.map (·.2)=lk E k:=by
  intro l
  induction l with
  | nil =>
    intro E n hE
    cases E with
    | nil=>exact ⟨none,Z,Z⟩
    | cons p E=>cases hE
  | cons x l ih =>
    intro E n hE
    cases E with
    | nil=>cases hE
    | cons p E =>
      simp only [List.map_cons,List.cons.injEq,Prod.mk.injEq] at hE
      obtain ⟨⟨h1,h2⟩,h3⟩:=hE
      rw [Instr.findAsking]
      simp only [Sem.run_bind,h1,FH h,Result.andThen_ok]
      by_cases q:k=p.1
      · rw [decide_eq_true q]
        exact ⟨some (n,x.val),Z,by simp [lk,q,h2]⟩
      · rw [decide_eq_false q]
        obtain ⟨r,g1,g2⟩:=ih E (n + 1) h3
        exact ⟨r,g1,by rw [g2];simp [lk,show ¬ p.1=k from fun e=>q e.symm]⟩
theorem yp (h:Mf P kt bt) (k:Bool × Bool) {es:Array MapEntry} {E:List ((Bool × Bool) × Value)} (hE:dh jb es E):∃ r,(Instr.findKey kt (jb k) es.toList).run P w=.ok r w/\r.map (·.2)=lk E k:=by
  obtain ⟨r,g1,g2⟩:=PC (w:=w) h k es.toList E 0 hE
  unfold Instr.findKey
  simp only [Sem.run_bind,ca h.arr,Result.andThen_ok]
  cases hl:es.toList with
  | nil =>
    refine ⟨none,Z,?_⟩
    have hE':es.toList.map (fun x=>(x.key,x.val))=E.map fun p=>(jb p.1,p.2):=hE
    rw [hl] at hE'
    cases E with
    | nil=>rfl
    | cons p E=>cases hE'
  | cons x l =>
    rw [hl] at g1
    refine ⟨r,?_,g2⟩
    have:Instr.findNow (.array 2 bt) (jb k) (x :: l) 0=none:=by
      unfold Instr.findNow
      have:Instr.sameNow (.array 2 bt) (jb k) x.key=none:=by unfold Instr.sameNow;rfl
      rw [this]
    rw [this];exact g1
end
section
variable {P:Program} {nt:Nat} {all:Array Oper} {os:List Oper} {Q:Exit->Fr->AH->Prop} {e:gI} {ds:List Deferred} {A:AH} {x y z:Operand} {t kt et bt:TypeId} {ty:TypeId} {ps:String} {af:Array Edge} {dst:Option Nat} {m clock:Nat} {es:Array MapEntry} {rw:Bool} {E:List ((Bool × Bool) × Value)} {k:Bool × Bool} {v zv:Value}
theorem V.Ops.look2 (hd:gK nt dst=true) (hx:bQ e x=some (.map (some m))) (hy:bQ e y=some (jb k)) (hu:P.underlying t=some (.map kt et)) (hk:Mf P kt bt) (hz:cx P et=some zv) (hg:A.get m=some (.obj rw (.map es clock))) (hE:dh jb es E)
    (h1:∀ v,lk E k=some v->Ops P nt all os Q ⟨fJ e dst (.tuple #[v,.bool true]),ds⟩ A) (h2:lk E k=none->Ops P nt all os Q ⟨fJ e dst (.tuple #[zv,.bool false]),ds⟩ A) :
    Ops P nt all ({ dst:=dst,op:=.lookup t x y true,type:=ty,pos:=ps,after:=af,guard:=none } :: os) Q ⟨e,ds⟩ A:=by
  have key:∀ (u:Value × Bool),u=(match lk E k with | some v=>(v,true) | none=>(zv,false))->∀ a:Act,cU nt ⟨e,ds⟩ a->∀ w,co A w->(execOp a.eval { dst:=dst,op:=.lookup t x y true,type:=ty,pos:=ps,after:=af,guard:=none }).run P w=.ok (.value (.tuple #[u.1,.bool u.2])) w:=by
    rintro u rfl a ha w hw
    have g1:=cI ha hx
    have g2:=cI ha hy
    obtain ⟨o1,o2⟩:=hw.obj hg
    obtain ⟨r,f1,f2⟩:=yp (w:=w) hk k hE
    simp only [execOp,g1,g2,Instr.lookup,Sem.run_bind,ca hu,Result.andThen_ok,de o1 o2,Sem.run_pure,wD hk,f1]
    cases r with
    | none =>
      simp only [Option.map_none] at f2
      rw [<- f2]
      simp only [Sem.run_bind,gW hz,Result.andThen_ok,Sem.run_pure,if_true]
    | some r =>
      simp only [Option.map_some] at f2
      rw [<- f2]
      simp only [Sem.run_bind,Result.andThen_ok,Sem.run_pure,if_true]
  cases hl:lk E k with
  | none=>exact Ops.val Z hd (key (zv,false) (by rw [hl])) (h2 hl)
  | some v=>exact Ops.val Z hd (key (v,true) (by rw [hl])) (h1 v hl)
theorem V.Ops.skipW {o:Oper} {A':AH} (hg:o.guard=none) (hd:gK nt o.dst=true) (hr:∀ a:Act,cU nt ⟨e,ds⟩ a->∀ w,co A w->∃ w',(execOp a.eval o).run P w=.ok .skip w'/\co A' w'/\eH A w A' w') (h:Ops P nt all os Q ⟨fJ e o.dst undef,ds⟩ A') :
    Ops P nt all (o :: os) Q ⟨e,ds⟩ A:=by
  intro a w ha hw A₀ w₀ hs
  unfold wpList
  rw [if_pos (by simp [Region.wanted,hg])]
  left
  unfold Oper.wp
  obtain ⟨w',r,v1,s1⟩:=hr a ha w hw
  rw [r]
  exact h _ w' (ha.put o.dst undef (cW hd)) v1 A₀ w₀ (hs.trans s1)
theorem V.Ops.new2 (hd:gK nt dst=true) (wf:A.wf) (hx:bQ e x=some (.map (some m))) (hy:bQ e y=some (jb k)) (hz:bQ e z=some v) (hu:P.underlying t=some (.map kt et)) (hk:Mf P kt bt) (hg:A.get m=some (.obj true (.map es clock))) (hE:dh jb es E) (hn:lk E k=none)
    (h:∀ A1 es1 ck,uy A A1 m (.obj true (.map es1 ck))->dh jb es1 (E ++ [(k,v)])->Ops P nt all os Q ⟨fJ e dst undef,ds⟩ A1) :
    Ops P nt all ({ dst:=dst,op:=.mapUpdate t x y z,type:=ty,pos:=ps,after:=af,guard:=none } :: os) Q ⟨e,ds⟩ A:=by
  refine Ops.skipW (A':=A.set m (.obj true (.map (es.push { key:=jb k,val:=v,born:=clock }) (clock + 1)))) Z hd (fun a ha w hw=>?_) (h _ _ _ (QF wf hg _) (hE.push k v clock))
  have g1:=cI ha hx
  have g2:=cI ha hy
  have g3:=cI ha hz
  obtain ⟨o1,o2⟩:=hw.obj hg
  obtain ⟨r,f1,f2⟩:=yp (w:=w) hk k hE
  rw [hn] at f2
  obtain rfl:r=none:=by cases r with | none=>rfl | some r=>cases f2
  obtain ⟨w',r,v1,s1⟩:=jp (P:=P) hw hg (y:=.map (es.push { key:=jb k,val:=v,born:=clock }) (clock + 1)) (fun _ _ _ q=>by cases q)
  refine ⟨w',?_,v1,s1⟩
  simp only [execOp,g1,g2,g3,Sem.run_bind,Instr.mapUpdate,ca hu,Result.andThen_ok,de o1 o2,wD hk,f1,r]
  rfl
end
end Go.Proofs.YtjppkekmddjcfaaGreatDoor

namespace Go.Proofs.YtjppkekmddjcfaaGreatDoor
open Go Go.RowKit V
section
variable {K:Type} [DecidableEq K]
def nF (Q:List K):List (K × Value):=Q.zipIdx.map fun p=>(p.1,num ((p.2:Nat):Int))
theorem tP (Q:List K):(nF Q).map (·.1)=Q:=by
  simp [nF,List.map_map,Function.comp_def]
theorem yg (Q:List K) (t:K):nF (Q ++ [t])=nF Q ++ [(t,num ((Q.length:Nat):Int))]:=by simp [nF,List.zipIdx_append]
theorem Cz (Q:List K):(nF Q).length=Q.length:=by simp [nF]
theorem zz {Q:List K} {t:K} (h:t ∉ Q):lk (nF Q) t=none:=zr.2 (by rw [tP];exact h)
theorem Oc:∀ (Q:List K) (n:Nat) (t:K),t ∈ Q->lk ((Q.zipIdx n).map fun p=>(p.1,num ((p.2:Nat):Int))) t=some (num (((n + Q.idxOf t:Nat)):Int)):=by
  intro Q
  induction Q with
  | nil=>intro n t h;cases h
  | cons a Q ih =>
    intro n t h
    by_cases q:a=t
    · subst q;simp [lk]
    · have h2:t ∈ Q:=by rcases List.mem_cons.1 h with z | z;exact absurd z.symm q;exact z
      have:=ih (n + 1) t h2
      simp only [List.zipIdx_cons,List.map_cons]
      rw [List.idxOf_cons,beq_eq_false_iff_ne.2 q,cond_false]
      simp only [lk,List.find?_cons,decide_eq_false q] at this ⊢
      rw [this]
      congr 3;omega
theorem u7 {Q:List K} {t:K} (h:t ∈ Q):lk (nF Q) t=some (num ((Q.idxOf t:Nat):Int)):=by
  have:=Oc Q 0 t h
  rwa [Nat.zero_add] at this
theorem O4 {Q:List K} {t:K} (h:t ∉ Q):yF (nF Q) t (num ((Q.length:Nat):Int))=nF (Q ++ [t]):=by
  rw [vg (by rw [tP];exact h),yg]
def oE (st:List Int × List K) (x:K):List Int × List K:=if x ∈ st.2 then (st.1 ++ [(st.2.idxOf x:Int)],st.2) else (st.1 ++ [(st.2.length:Int)],st.2 ++ [x])
def cb (l:List K):List Int × List K:=l.foldl oE ([],[])
theorem qK (l:List K) (x:K):cb (l ++ [x])=oE (cb l) x:=by simp [cb]
theorem gy (l:List K):(cb l).2.Nodup/\(∀ x,x ∈ (cb l).2 ↔ x ∈ l)/\(cb l).1=l.map (fun x=>((cb l).2.idxOf x:Int)):=by
  suffices h:∀ (l m:List K),cb m=(m.map (fun x=>((cb m).2.idxOf x:Int)),(cb m).2)->(cb m).2.Nodup->(∀ x,x ∈ (cb m).2 ↔ x ∈ m) ->
      (cb (m ++ l)).2.Nodup/\(∀ x,x ∈ (cb (m ++ l)).2 ↔ x ∈ m ++ l)/\(cb (m ++ l)).1=(m ++ l).map (fun x=>((cb (m ++ l)).2.idxOf x:Int)) by
    have:=h l [] Z List.nodup_nil (fun x=>Iff.rfl)
    simpa using this
  intro l
  induction l with
  | nil=>intro m h1 h2 h3;rw [List.append_nil];exact ⟨h2,h3,congrArg (·.1) h1⟩
  | cons a l ih =>
    intro m h1 h2 h3
    have e:m ++ a :: l=(m ++ [a]) ++ l:=by simp
    rw [e]
    have es:cb (m ++ [a])=oE (cb m) a:=qK m a
    by_cases q:a ∈ (cb m).2
    · have e2:oE (cb m) a=((cb m).1 ++ [((cb m).2.idxOf a:Int)],(cb m).2):=if_pos q
      refine ih (m ++ [a]) ?_ ?_ ?_
      · rw [es,e2];simp only [List.map_append,List.map_cons,List.map_nil]
        rw [show (cb m).1=m.map (fun x=>((cb m).2.idxOf x:Int)) from congrArg (·.1) h1]
      · rw [es,e2];exact h2
      · intro x;rw [es,e2,List.mem_append,List.mem_singleton]
        show x ∈ (cb m).2 ↔ _
        rw [h3 x]
        exact ⟨.inl,fun z=>z.elim id fun z=>by subst z;exact (h3 x).1 q⟩
    · have e2:oE (cb m) a=((cb m).1 ++ [((cb m).2.length:Int)],(cb m).2 ++ [a]):=if_neg q
      refine ih (m ++ [a]) ?_ ?_ ?_
      · rw [es,e2];simp only [List.map_append,List.map_cons,List.map_nil]
        have hm:(cb m).1=m.map (fun x=>((cb m).2.idxOf x:Int)):=congrArg (·.1) h1
        congr 1
        rw [hm]
        congr 1
        · apply List.map_congr_left
          intro x hx
          rw [List.idxOf_append,if_pos ((h3 x).2 hx)]
        · rw [List.idxOf_append,if_neg q];simp
      · rw [es,e2];exact List.nodup_append.2 ⟨h2,by simp,by intro x hx y hy;simp at hy;subst hy;exact fun z=>q (z ▸ hx)⟩
      · intro x;rw [es,e2,List.mem_append,List.mem_append,List.mem_singleton]
        show _\/_ ↔ _
        rw [h3 x]
theorem OC (l:List K):(cb l).1.length=l.length:=by rw [(gy l).2.2];simp
theorem wi {l:List K} {n:Nat} (h1:l.Nodup) (f:K->Nat) (hf:∀ a ∈ l,∀ b ∈ l,f a=f b->a=b) (hb:∀ a ∈ l,f a < n):l.length<=n:=by
  have:=qJ (l:=l.map f) (n:=n) ?_ ?_
  · simpa using this
  · rw [List.nodup_iff_pairwise_ne,List.pairwise_map]
    exact List.Pairwise.imp_of_mem (fun {a c} ha hc hac e=>hac (hf a ha c hc e)) h1
  · intro x hx
    obtain ⟨a,ha,rfl⟩:=List.mem_map.1 hx
    exact hb a ha
theorem SX (l:List K):(cb l).2.length<=l.length :=
  wi (gy l).1 (fun a=>l.idxOf a) (fun a ha b hb e=>by
    have h1:=((gy l).2.1 a).1 ha
    have h2:=((gy l).2.1 b).1 hb
    have e1:=List.getElem_idxOf (List.idxOf_lt_length_iff.2 h1)
    have e2:=List.getElem_idxOf (List.idxOf_lt_length_iff.2 h2)
    rw [<- e1,<- e2];congr 1) fun a ha=>List.idxOf_lt_length_iff.2 (((gy l).2.1 a).1 ha)
theorem sA (l:List K) {i:Nat} {d:K} (hi:i < l.length):(cb l).1.getD i 0=((cb l).2.idxOf (l.getD i d):Int)/\l.getD i d ∈ (cb l).2:=by
  refine ⟨?_,((gy l).2.1 _).2 (bi hi)⟩
  rw [(gy l).2.2]
  simp [List.getD_eq_getElem?_getD,hi]
theorem OD (l:List K):∀ c ∈ (cb l).1,0<=c/\c < (cb l).2.length:=fun c hc=>by
  rw [(gy l).2.2] at hc
  obtain ⟨x,hx,rfl⟩:=List.mem_map.1 hc
  have:=List.idxOf_lt_length_iff.2 (((gy l).2.1 x).2 hx)
  omega
theorem zy (l:List K) {i j:Nat} {d:K} (hi:i < l.length) (hj:j < l.length):(cb l).1.getD i 0=(cb l).1.getD j 0 ↔ l.getD i d=l.getD j d:=by
  have h1:=sA l (d:=d) hi
  have h2:=sA l (d:=d) hj
  rw [h1.1,h2.1]
  constructor
  · intro h
    have e1:=List.getElem_idxOf (List.idxOf_lt_length_iff.2 h1.2)
    have e2:=List.getElem_idxOf (List.idxOf_lt_length_iff.2 h2.2)
    rw [<- e1,<- e2];congr 1;omega
  · intro h;rw [h]
end
theorem Fk {K L:Type} [DecidableEq K] [DecidableEq L] (l:List K) (m:List L) (d:K) (d2:L) (hl:l.length=m.length) (h:∀ i j,i < m.length->j < m.length->m.getD i d2=m.getD j d2->l.getD i d=l.getD j d):(cb l).2.length<=(cb m).2.length :=
  wi (gy l).1 (fun a=>(cb m).2.idxOf (m.getD (l.idxOf a) d2)) (fun a ha b hb e=>by
    have h1:=List.idxOf_lt_length_iff.2 (((gy l).2.1 a).1 ha)
    have h2:=List.idxOf_lt_length_iff.2 (((gy l).2.1 b).1 hb)
    have m1:=sA m (d:=d2) (i:=l.idxOf a) O
    have m2:=sA m (d:=d2) (i:=l.idxOf b) O
    have e1:=List.getElem_idxOf h1
    have e2:=List.getElem_idxOf h2
    have:=h _ _ O O ((zy m (d:=d2) (i:=l.idxOf a) (j:=l.idxOf b) O O).1 (by rw [m1.1,m2.1];exact congrArg Int.ofNat e))
    rw [gd h1,gd h2] at this
    rw [<- e1,<- e2];exact this) fun a ha=>by
    have h1:=List.idxOf_lt_length_iff.2 (((gy l).2.1 a).1 ha)
    exact List.idxOf_lt_length_iff.2 (sA m (d:=d2) (i:=l.idxOf a) O).2
def mu (n:Nat) (key:List Int->Nat->Wd):Nat->Nat->List Int->List Int
  | 0,_,cls=>cls
  | f + 1,count,cls=>if (cb ((List.range n).map (key cls))).2.length=count then (cb ((List.range n).map (key cls))).1 else mu n key f (cb ((List.range n).map (key cls))).2.length (cb ((List.range n).map (key cls))).1
def AM (n:Nat) (st:Nat->Bool × Bool) (key:List Int->Nat->Wd):List Int:=mu n key (n + 2) (cb ((List.range n).map st)).2.length (cb ((List.range n).map st)).1
def kU (lv:List Bool) (m:Int):Bool:=decide (0<=m) && lv.getD m.toNat false
def wb (lv:List Bool) (cls:List Int) (m:Int):Wd:=32 :: (if kU lv m then iq (cls.getD m.toNat 0).toNat else [])
def pr (lv:List Bool) (N:List (List Int)) (cls:List Int) (i:Nat):Wd:=if lv.getD i false then iq (cls.getD i 0).toNat ++ (N.getD i []).flatMap (wb lv cls) else [45]
def VO (acc lv:List Bool) (i:Nat):Bool × Bool:=(lv.getD i false,acc.getD i false)
def yU (acc lv:List Bool) (N:List (List Int)):List Int:=AM N.length (VO acc lv) (pr lv N)
def jE (cls:List Int) (c:Int):Nat:=cls.idxOf c
def jI (lv:List Bool) (N:List (List Int)) (cls:List Int) (c:Int) (x:Nat):Option Int :=
  if kU lv (ig N (jE cls c) x) then some (cls.getD (ig N (jE cls c) x).toNat 0) else none
def Ee (k:Nat) (acc:List Bool) (N:List (List Int)):List Int × List (List Int):=fW k (jI (iW acc N) N (yU acc (iW acc N) N)) (N.length + 1) 0 [(yU acc (iW acc N) N).getD 0 0] []
def yQ (k:Nat) (acc:List Bool) (N:List (List Int)):List Bool × List (List Int) :=
  if (iW acc N).getD 0 false then ((Ee k acc N).1.map fun c=>acc.getD (jE (yU acc (iW acc N) N) c) false,(Ee k acc N).2) else ([],[])
def RN (k:Nat) (acc:List Bool) (L:List (List Int)):List Bool × List (List Int):=yQ k (xb k acc L) (ib k L).2
end Go.Proofs.YtjppkekmddjcfaaGreatDoor

namespace Go.Proofs.YtjppkekmddjcfaaGreatDoor
open Go Go.RowKit V
section
variable {K:Type} [DecidableEq K]
def iO (Q:List K) (k:K):Nat:=if k ∈ Q then Q.idxOf k else Q.length
def jC (Q:List K) (k:K):List K:=if k ∈ Q then Q else Q ++ [k]
theorem Co {Q:List K} {k:K} (h:k ∈ Q):iO Q k=Q.idxOf k:=if_pos h
theorem Cr {Q:List K} {k:K} (h:k ∉ Q):iO Q k=Q.length:=if_neg h
theorem xZ {Q:List K} {k:K} (h:k ∈ Q):jC Q k=Q:=if_pos h
theorem ya {Q:List K} {k:K} (h:k ∉ Q):jC Q k=Q ++ [k]:=if_neg h
end
section
variable {α:Type} [DecidableEq α] {enc:α->Value} {P:Program} {e:gI} {A:AH} {x:Operand} {t kt et:TypeId} {ty:TypeId} {ps:String} {af:Array Edge} {dst:Option Nat} {K:Value->AH->Prop} {Kp:List PanicEntry->AH->Prop} {g:Option (Nat × Bool)} {m clock:Nat} {es:Array MapEntry} {rw:Bool} {Q:List α}
theorem s7 (hx:bQ e x=some (.map (some m))) (hu:P.underlying t=some (.map kt et)) (hg:A.get m=some (.obj rw (.map es clock))) (hE:dh enc es (nF Q)) (h:K (num ((Q.length:Nat):Int)) A) :
    kO P e A { dst:=dst,op:=.call { callee:=.builtin .len,args:=#[x],argTypes:=#[t] },type:=ty,pos:=ps,after:=af,guard:=g } K Kp:=by
  simp only [kO,vv,ju,hx]
  refine ⟨num ((Q.length:Nat):Int),?_,h⟩
  simp only [so,hu,hg]
  rw [hE.size,Cz]
theorem Rh {kd:TypeDesc} {y:Operand} {k:α} (Ko:rU kd enc) (hx:bQ e x=some (.map (some m))) (hy:bQ e y=some (enc k)) (hu:P.underlying t=some (.map kt et)) (hk:P.underlying kt=some kd) (hz:cx P et=some (num 0)) (hg:A.get m=some (.obj rw (.map es clock))) (hE:dh enc es (nF Q))
    (h1:k ∈ Q->K (.tuple #[num ((iO Q k:Nat):Int),.bool true]) A) (h2:k ∉ Q->K (.tuple #[num 0,.bool false]) A):kO P e A { dst:=dst,op:=.lookup t x y true,type:=ty,pos:=ps,after:=af,guard:=g } K Kp:=by
  refine xd Ko hx hy hu hk hz hg hE (fun v hv=>?_) (fun hn=>?_)
  · by_cases q:k ∈ Q
    · rw [u7 q,<- Co q] at hv;cases hv;exact h1 q
    · rw [zz q] at hv;cases hv
  · exact h2 fun q=>by rw [u7 q] at hn;cases hn
end
section
variable {P:Program} {nt:Nat} {all:Array Oper} {os:List Oper} {Q:Exit->Fr->AH->Prop} {e:gI} {ds:List Deferred} {A:AH} {x y z:Operand} {t kt et bt:TypeId} {ty:TypeId} {ps:String} {af:Array Edge} {dst:Option Nat} {m clock:Nat} {es:Array MapEntry} {rw:Bool} {L:List (Bool × Bool)} {k:Bool × Bool}
theorem V.Ops.look2G (hd:gK nt dst=true) (hx:bQ e x=some (.map (some m))) (hy:bQ e y=some (jb k)) (hu:P.underlying t=some (.map kt et)) (hk:Mf P kt bt) (hz:cx P et=some (num 0)) (hg:A.get m=some (.obj rw (.map es clock))) (hE:dh jb es (nF L))
    (h1:k ∈ L->Ops P nt all os Q ⟨fJ e dst (.tuple #[num ((iO L k:Nat):Int),.bool true]),ds⟩ A) (h2:k ∉ L->Ops P nt all os Q ⟨fJ e dst (.tuple #[num 0,.bool false]),ds⟩ A) :
    Ops P nt all ({ dst:=dst,op:=.lookup t x y true,type:=ty,pos:=ps,after:=af,guard:=none } :: os) Q ⟨e,ds⟩ A:=by
  refine Ops.look2 hd hx hy hu hk hz hg hE (fun v hv=>?_) (fun hn=>?_)
  · by_cases q:k ∈ L
    · rw [u7 q,<- Co q] at hv;cases hv;exact h1 q
    · rw [zz q] at hv;cases hv
  · exact h2 fun q=>by rw [u7 q] at hn;cases hn
theorem V.Ops.new2G (hd:gK nt dst=true) (wf:A.wf) (hx:bQ e x=some (.map (some m))) (hy:bQ e y=some (jb k)) (hz:bQ e z=some (num ((L.length:Nat):Int))) (hu:P.underlying t=some (.map kt et)) (hk:Mf P kt bt) (hg:A.get m=some (.obj true (.map es clock))) (hE:dh jb es (nF L)) (hn:k ∉ L)
    (h:∀ A1 D ck,uy A A1 m (.obj true (.map D ck))->dh jb D (nF (L ++ [k]))->Ops P nt all os Q ⟨fJ e dst undef,ds⟩ A1) :
    Ops P nt all ({ dst:=dst,op:=.mapUpdate t x y z,type:=ty,pos:=ps,after:=af,guard:=none } :: os) Q ⟨e,ds⟩ A :=
  Ops.new2 hd wf hx hy hz hu hk hg hE (zz hn) fun A1 D ck sb me=>h A1 D ck sb (by rw [yg];exact me)
end
section
variable {K:Type} [DecidableEq K]
theorem zn {Q:List K} {k:K} (h:Q.Nodup):(jC Q k).Nodup:=by
  unfold jC;split
  · exact h
  · rename_i q;exact List.nodup_append.2 ⟨h,by simp,by intro a ha b hb;simp at hb;subst hb;exact fun e=>q (e ▸ ha)⟩
theorem rH (st:List Int × List K) (x:K):oE st x=(st.1 ++ [(iO st.2 x:Int)],jC st.2 x):=by
  unfold oE iO jC;split <;> rfl
structure nY (n:Nat) (f:Nat->K) (i:Nat) (o:List Int) (Q:List K):Prop where
  run:∃ r,cb ((List.range i).map f)=(r,Q)/\r.length=i/\o=r ++ List.replicate (n - i) 0
  nd:Q.Nodup
  le:Q.length<=i
variable {n i:Nat} {f:Nat->K} {o:List Int} {Q:List K}
theorem nY.start:nY n f 0 (List.replicate n 0) []:=⟨⟨[],rfl,rfl,by simp⟩,List.nodup_nil,Nat.le_refl _⟩
theorem nY.len (h:nY n f i o Q) (hi:i<=n):o.length=n:=by obtain ⟨r,_,h2,h3⟩:=h.run;rw [h3];simp;omega
theorem nY.next (h:nY n f i o Q) (hi:i < n):nY n f (i + 1) (o.set i (iO Q (f i):Int)) (jC Q (f i)):=by
  obtain ⟨r,h1,h2,h3⟩:=h.run
  refine ⟨⟨r ++ [(iO Q (f i):Int)],?_,by simp [h2],?_⟩,zn h.nd,?_⟩
  · rw [List.range_succ,List.map_append,List.map_cons,List.map_nil,qK,h1,rH]
  · rw [h3,<- h2];exact zb O
  · have:=h.le;unfold jC;split
    · omega
    · simp;omega
theorem nY.old (h:nY n f i o Q) (hi:i < n) (q:f i ∈ Q):nY n f (i + 1) (o.set i (iO Q (f i):Int)) Q:=by
  have:=h.next hi;rwa [xZ q] at this
theorem nY.new (h:nY n f i o Q) (hi:i < n) (q:f i ∉ Q):nY n f (i + 1) (o.set i (Q.length:Int)) (Q ++ [f i]):=by
  have:=h.next hi;rwa [Cr q,ya q] at this
theorem nY.fin (h:nY n f i o Q) (hi:i=n):cb ((List.range n).map f)=(o,Q):=by
  subst hi
  obtain ⟨r,h1,h2,h3⟩:=h.run
  rw [h1,h3];simp
end
structure rQ (n:Nat) (st:Nat->Bool × Bool) (key:List Int->Nat->Wd) (count:Nat) (cls:List Int):Prop where
  len:cls.length=n
  rng:∀ c ∈ cls,0<=c/\c < n
  dis:∃ l:List Int,l.length=n/\cb l=(cls,(cb l).2)/\(cb l).2.length=count
  cnt:count<=n
  fin:∃ f,n + 2<=f + count/\mu n key f count cls=AM n st key
theorem Ki {K:Type} [DecidableEq K] (l:List K):(cb (cb l).1).2.length=(cb l).2.length/\(cb (cb l).1).1=(cb l).1:=by
  suffices h:∀ (m:List K),(cb (cb m).1).2=(List.range (cb m).2.length).map (fun (i:Nat)=>(i:Int))/\(cb (cb m).1).1=(cb m).1 by
    have:=h l;exact ⟨by rw [this.1];simp,this.2⟩
  suffices h:∀ (l m:List K),((cb (cb m).1).2=(List.range (cb m).2.length).map (fun (i:Nat)=>(i:Int))/\(cb (cb m).1).1=(cb m).1)->((cb (cb (m ++ l)).1).2=(List.range (cb (m ++ l)).2.length).map (fun (i:Nat)=>(i:Int))/\(cb (cb (m ++ l)).1).1=(cb (m ++ l)).1) by
    intro m;have:=h m [] ⟨rfl,rfl⟩;simpa using this
  intro l
  induction l with
  | nil=>intro m h;rw [List.append_nil];exact h
  | cons a l ih =>
    intro m h
    rw [show m ++ a :: l=(m ++ [a]) ++ l by simp]
    refine ih _ ?_
    rw [qK,rH]
    show (cb ((cb m).1 ++ [_])).2=_/\(cb ((cb m).1 ++ [_])).1=_
    rw [qK,rH]
    simp only
    rw [h.1,h.2]
    by_cases q:a ∈ (cb m).2
    · have hi:=List.idxOf_lt_length_iff.2 q
      have hm:((cb m).2.idxOf a:Int) ∈ (List.range (cb m).2.length).map (fun (i:Nat)=>(i:Int)):=List.mem_map.2 ⟨_,List.mem_range.2 hi,rfl⟩
      have e1:iO (cb m).2 a=(cb m).2.idxOf a:=if_pos q
      have e2:jC (cb m).2 a=(cb m).2:=if_pos q
      have e3:jC ((List.range (cb m).2.length).map (fun (i:Nat)=>(i:Int))) ((cb m).2.idxOf a:Int)=(List.range (cb m).2.length).map (fun (i:Nat)=>(i:Int)):=if_pos hm
      have e4:iO ((List.range (cb m).2.length).map (fun (i:Nat)=>(i:Int))) ((cb m).2.idxOf a:Int)=(cb m).2.idxOf a:=by
        rw [iO,if_pos hm]
        have:=List.getElem_idxOf (List.idxOf_lt_length_iff.2 hm)
        simp only [List.getElem_map,List.getElem_range] at this
        omega
      rw [e1,e2,e3,e4];exact ⟨Z,Z⟩
    · have e1:iO (cb m).2 a=(cb m).2.length:=if_neg q
      have e2:jC (cb m).2 a=(cb m).2 ++ [a]:=if_neg q
      have hm:¬ ((cb m).2.length:Int) ∈ (List.range (cb m).2.length).map (fun (i:Nat)=>(i:Int)):=fun z=>by
        obtain ⟨i,h1,h2⟩:=List.mem_map.1 z
        have:=List.mem_range.1 h1;omega
      rw [e1,e2]
      have e3:jC ((List.range (cb m).2.length).map (fun (i:Nat)=>(i:Int))) ((cb m).2.length:Int)=(List.range (cb m).2.length).map (fun (i:Nat)=>(i:Int)) ++ [((cb m).2.length:Int)]:=if_neg hm
      have e4:iO ((List.range (cb m).2.length).map (fun (i:Nat)=>(i:Int))) ((cb m).2.length:Int)=(cb m).2.length:=by rw [iO,if_neg hm];simp
      rw [e3,e4]
      refine ⟨?_,Z⟩
      rw [List.length_append,List.length_singleton,List.range_succ,List.map_append];rfl
section
variable {n count:Nat} {st:Nat->Bool × Bool} {key:List Int->Nat->Wd} {cls o:List Int} {Q:List Wd} {Q2:List (Bool × Bool)}
theorem rQ.of {K:Type} [DecidableEq K] {l:List K} {cls:List Int} {Q:List K} (hl:l.length=n) (h:cb l=(cls,Q)):cls.length=n/\(∀ c ∈ cls,0<=c/\c < (n:Int))/\(∃ l:List Int,l.length=n/\cb l=(cls,(cb l).2)/\(cb l).2.length=Q.length)/\Q.length<=n:=by
  have h1:=OC l
  have h2:=OD l
  have h3:=SX l
  have h4:=Ki l
  rw [h] at h1 h2 h3 h4
  simp only at h1 h2 h3 h4
  exact ⟨by omega,fun c hc=>by have:=h2 c hc;omega,⟨cls,by omega,Prod.ext h4.2 rfl,h4.1⟩,by omega⟩
theorem rQ.start (h:cb ((List.range n).map st)=(cls,Q2)):rQ n st key Q2.length cls:=by
  obtain ⟨h1,h2,h3,h4⟩:=rQ.of (n:=n) (by simp) h
  exact ⟨h1,h2,h3,h4,n + 2,by omega,by rw [AM,h]⟩
theorem rQ.stop (h:rQ n st key count cls) (e:cb ((List.range n).map (key cls))=(o,Q)) (hq:Q.length=count):o=AM n st key:=by
  obtain ⟨f,hf,g⟩:=h.fin
  have:=h.cnt
  obtain ⟨f,rfl⟩:∃ g,f=g + 1:=⟨f - 1,by omega⟩
  rw [mu,e] at g
  simp only at g
  rw [if_pos hq] at g;exact g
theorem rQ.next (h:rQ n st key count cls) (hinj:∀ i j,i < n->j < n->key cls i=key cls j->cls.getD i 0=cls.getD j 0) (e:cb ((List.range n).map (key cls))=(o,Q)) (hq:¬ Q.length=count):rQ n st key Q.length o/\count < Q.length:=by
  obtain ⟨f,hf,g⟩:=h.fin
  have hc:=h.cnt
  obtain ⟨f,rfl⟩:∃ g,f=g + 1:=⟨f - 1,by omega⟩
  obtain ⟨h1,h2,h3,h4⟩:=rQ.of (n:=n) (by simp) e
  have hle:count<=Q.length:=by
    obtain ⟨l,l1,l2,l3⟩:=h.dis
    have:=Fk l ((List.range n).map (key cls)) 0 [] (by simp [l1]) fun i j hi hj q=>by
      rw [List.length_map,List.length_range] at hi hj
      have e1:∀ i,i < n->((List.range n).map (key cls)).getD i []=key cls i:=fun i hi=>by simp [List.getD_eq_getElem?_getD,hi]
      rw [e1 i hi,e1 j hj] at q
      have:=hinj i j hi hj q
      have e2:cls=(cb l).1:=by rw [l2]
      rw [e2] at this
      exact (zy l (d:=(0:Int)) O O).1 this
    rw [l3,e] at this;exact this
  rw [mu,e] at g
  simp only at g
  rw [if_neg hq] at g
  exact ⟨⟨h1,h2,h3,h4,f,by omega,g⟩,by omega⟩
end
end Go.Proofs.YtjppkekmddjcfaaGreatDoor

namespace Go.Proofs.YtjppkekmddjcfaaGreatDoor
open Go Go.RowKit V
set_option maxRecDepth 100000
theorem Mn:dn Tryz.prog 218=some true:=by kernel_rfl
theorem Dt:da Tryz.prog 218=some 2:=by kernel_rfl
theorem QY:type_of% @Tryz.underlying231:=@Tryz.underlying231
theorem Uu:type_of% @Tryz.underlying233:=@Tryz.underlying233
theorem VX:cx Tryz.prog 218=some (.agg #[.bool false,.bool false]):=by kernel_rfl

theorem Qo (b:Nat) (es:Array MapEntry) (ck:Nat) (Q:List Wd) (k:Wd) (A0 A:AH) (a0:A0.le A) (ac:A0.wf) (hb:A.get b=some (.obj true (.map es ck))) (ab:A0.get b=none) (hme:dh bg es (nF Q)) (hnd:Q.Nodup):bz Tryz.prog 201 #[.map (some b),bg (k)] A (fun v A1=>∃ es2 ck2,v=num ((iO Q k:Nat):Int)/\A0.le A1/\A1.wf/\A1.get b=some (.obj true (.map es2 ck2))/\dh bg es2 (nF (jC Q k))):=by
 refine mf Tryz.call201 Tryz.func201 Z Tryz.results201 Tryz.ntmps201 Z (fun wf=>?_);refine al.seq fun _ h2=>.region<|.q Z (ae Z)<|.nil<|h2 _ _<|.seq fun _ h4=>.region<|.q Z (ah Z)<|.q Z (ah Z)<|.l Z (fun _ _ X _=>Rh (Q:=Q) (k:=k) zm Z Z QY u9 z3 hb hme (fun aa=>?_) (fun D=>?_))
 ·refine X _ _<|.q Z (ah Z)<|.q Z (aQ Z Z)<|.q Z (aQ Z Z)<|.q Z (ae Z)<|.q Z (ae Z)<|.nil<|h4 _ _<|.seq fun _ h9=>.seq fun _ a4=>?_;refine al.region<|.q Z (ah Z)<|.q Z (eo Z)<|.nil<|a4 _ _<|.cond_false Z<|.skip<|h9 _ _<|.seq fun _ a5=>.region ?_;refine Ops.q Z (ah Z)<|.q Z (ae Z)<|.nil<|a5 _ _<|.rt (by exact aE Z (⟨_,_,Z,a0,wf,hb,by rw [xZ aa];exact hme⟩))
 refine X _ _<|.q Z (ah Z)<|.q Z (aQ Z Z)<|.q Z (aQ Z Z)<|.q Z (ae Z)<|.q Z (ae Z)<|.nil<|h4 _ _<|.seq fun _ a6=>.seq fun _ a7=>?_;refine al.region<|.q Z (ah Z)<|.q Z (eo Z)<|.nil<|a7 _ _<|.cond_true Z<|.seq fun _ a8=>.region<|.q Z (ah Z)<|.l Z (fun _ _ a1 _=>s7 (Q:=Q) Z QY hb hme ?_);refine a1 _ _<|.q Z (ae Z)<|.nil<|a8 _ _<|.region<|.q Z (ah Z)<|.q Z (ah Z)<|.q Z (ah Z)<|.l Z (fun _ _ a2 _=>o4 (k:=k) zm wf rfl rfl rfl QY u9 hb hme (by rw [tP];exact hnd) fun A22 ag ad h V=>?_);have a3:=ao a0 ac ab h.n h.keep;rw [O4 D] at V;refine a2 _ _<|.nil<|a6 _ _<|.seq fun _ a9=>.region<|.q Z (ah Z)<|.q Z (ae Z)<|.nil<|a9 _ _<|.rt (by exact aE Z (⟨_,_,by rw [Cr D];rfl,a3,h.wf,h.get,by rw [ya D];exact V⟩))

theorem QW:Mf Tryz.prog 218 4:=⟨Tryz.underlying218,Tryz.underlying4,by kernel_rfl,by kernel_rfl⟩

theorem KW (n g1 g2:Nat) (aB a8:Array Value) (sf:Nat->Bool × Bool) (key:List Int->Nat->Wd) (A:AH) (hn:n<=100000) (e6:∀ i B,i < n->A.le B->B.wf->bz Tryz.prog g1 (#[num ((i:Nat):Int)] ++ aB) B (fun v C=>v=jb (sf i)/\B.le C/\C.wf)) (e7:∀ (cls:List Int) (cv:Value) (i:Nat) B,bI B 1 cv (cN cls)->cls.length=n->(∀ c ∈ cls,0<=c/\c < (n:Int))->i < n->A.le B->B.wf->bz Tryz.prog g2 (#[cv,num ((i:Nat):Int)] ++ a8) B (fun v C=>v=bg (key cls i)/\B.le C/\C.wf)) (R:List Int->Prop) (ft:R (cb ((List.range n).map sf)).1) (fv:∀ cls:List Int,cls.length=n->R cls->R (cb ((List.range n).map (key cls))).1) (hinj:∀ cls:List Int,cls.length=n->(∀ c ∈ cls,0<=c/\c < (n:Int))->R cls->∀ i j,i < n->j < n->key cls i=key cls j->cls.getD i 0=cls.getD j 0):bz Tryz.prog 181 #[num ((n:Nat):Int),.func (.func g1) #[] aB,.func (.func g2) #[] a8] A (fun v A1=>A.le A1/\A1.wf/\Fresh A A1 v 1 (cN (AM n sf key))):=by
 refine uC Tryz.call181 Tryz.func181 Z Tryz.results181 Tryz.ntmps181 Z (fun wf=>?_);have dk:=AH.le.refl A;refine al.seq fun _ h2=>.region<|.q Z (ae Z)<|.nil<|h2 _ _<|.seq fun _ h4=>.region<|.q Z (ae Z)<|.nil<|h4 _ _ ?_;refine al.seq fun _ h6=>.region<|.q Z (ah Z)<|.l Z (fun _ _ fD _=>m9 (n:=n) (k:=n) wf dk rfl rfl eB cD z3 nu rfl (Nat.le_refl _) (by show 8 * _<=_;omega) O fun A9 b8 aZ aT=>?_);rw [iw] at aT;have bB:=dk.trans aZ.le;refine fD _ _<|.q Z (ae Z)<|.nil<|h6 _ _<|.seq fun _ f3=>.region<|.l Z (fun _ _ e9 _=>nW aZ.wf fun A17 ba av=>?_);have eS:=aT.own.ne_new aZ.wf av.lo;have br:=aW wf (Nat.le_trans bB.n av.lo);have dz:=aT.le av.le;have eA:=bB.trans av.le;refine e9 _ _<|.q Z (ae Z)<|.nil<|f3 _ _<|.seq fun _ f4=>.seq fun _ f5=>.region<|.q Z (ah Z)<|.q Z (ah Z)<|.nil ?_;refine f5 _ _<|.block<|.loop (X:=Nat × List Int × List (Bool × Bool) × Array MapEntry × Nat × Value) (fun ⟨i,o,Q,es,ck,cv⟩=>[(0,num ((n:Nat):Int)),(1,.func (.func g1) #[] aB),(2,.func (.func g2) #[] a8),(7,.func (.func 201) #[] #[]),(8,cv),(9,.map (some ba)),(21,num ((n:Nat):Int)),(22,num ((i:Nat):Int))]) (fun ⟨i,o,Q,es,ck,cv⟩ B=>(i<=n/\nY n sf i o Q/\dh jb es (nF Q))/\A.le B/\Fresh A B cv 1 (cN o)/\B.get ba=some (.obj true (.map es ck))/\V.blk cv ≠ some ba) (fun ⟨i,o,Q,es,ck,cv⟩=>n - i) (⟨0,List.replicate n 0,[],#[],0,.slice (some ⟨b8,0,none⟩) n n⟩) (yZ Z Z Z Z Z Z Z Z) (⟨⟨Nat.zero_le _,nY.start,dh.nil⟩,eA,dz,av.get,eS⟩) ?_;rintro ⟨i,o,Q,es,ck,cv⟩ B27 ⟨⟨hi,hnu,hme⟩,aY,aA,ap,h⟩;refine al.wf fun f0=>?_;have hol:=hnu.len hi;have hql:=hnu.le;refine al.seq fun _ f6=>.region<|.q Z (bX Z Z)<|.nil<|f6 _ _<|.seq fun _ f7=>.if rfl (fun fN=>?_) (fun fN=>?_)
 ·refine al.skip<|f7 _ _<|.seq fun _ d2=>.block<|.seq fun _ f9=>.region<|.q Z (ah Z)<|.q Z (ae Z)<|.nil<|f9 _ _ ?_;refine al.seq fun _ fd=>.region<|.q Z (ah Z)<|.q Z (ah Z)<|.l Z (fun _ _ ea _=>pm Z Z (e6 i B27 O aY f0) ?_);rintro gs A42 ⟨rfl,aF,aR⟩;have d3:=aF.get _ _ ap;have bd:=aA.le aF;have bC:=aY.trans aF;refine ea _ _<|.l Z (fun _ _ ec _=>cm aR VX rfl fun A49 g8 a4=>?_);have aG:=ne_new aR d3 a4.lo;have eT:=bd.own.ne_new aR a4.lo;have bu:=aW wf (Nat.le_trans bC.n a4.lo);have fe:=a4.le.get _ _ d3;have dD:=bd.le a4.le;have eC:=bC.trans a4.le;refine ec _ _<|.l Z (fun _ _ eg _=>be (cs:=[.bool ((sf i).1),.bool ((sf i).2)]) (c':=[.bool ((sf i).1),.bool ((sf i).2)]) a4.wf rfl rfl rfl rfl Dt a4.get (Nat.le_of_ble_eq_true rfl) rfl rfl fun A56 a5=>?_);have b2:=a5.keep _ _ aG fe;have bl:=dD.keep a5.keep eT;have bD:=ao eC wf bu a5.n a5.keep;refine eg _ _<|.nil<|fd _ _<|.seq fun _ dd=>.region<|.q Z (ah Z)<|.q Z (an Mn Dt Z Z a5.get Z)<|.look2G (L:=Q) (k:=sf i) Z Z Z Uu QW z3 b2 hme (fun ey=>?_) (fun bv=>?_)
  ·refine Ops.q Z (ah Z)<|.q Z (aQ Z Z)<|.q Z (aQ Z Z)<|.q Z (ae Z)<|.q Z (ae Z)<|.nil<|dd _ _<|.seq fun _ fi=>.seq fun _ fl=>.region ?_;refine Ops.q Z (ah Z)<|.q Z (eo Z)<|.nil<|fl _ _<|.cond_false Z<|.skip<|fi _ _<|.region<|.q Z (ah Z)<|.q Z (ah Z) ?_;refine Ops.q Z (ah Z) ?_;obtain ⟨g9,gl,ge,fO,g0,d0,di,f1,gA,fL,gp,fE⟩:=bl.at1 (x:=i) Of;rw [ax] at di;refine Ops.q Z (aH eB cD Z d0 Z (by rw [di];omega))<|.l Z (fun _ _ en _=>be (off:=i) (c':=fO.set i (num ((iO Q (sf i):Nat):Int))) a5.wf rfl (by simp) rfl rfl cD f1 (by show i + 1<=_;omega) rfl rfl fun A71 aI=>?_);have fm:=aI.keep _ _ (fun q=>h (by rw [d0];exact congrArg some q.symm)) b2;have bm:=fE (num ((iO Q (sf i):Nat):Int)) A71 aI;rw [iy] at bm;have eG:=ao bD wf fL aI.n aI.keep;refine en _ _<|.nil<|d2 _ _<|.region<|.q Z (bE (b:=1) Z Z O)<|.q Z (ah Z)<|.nil ?_;exact ⟨⟨i + 1,o.set i (((iO Q (sf i):Nat):Int)),Q,es,ck,cv⟩,yZ Z Z Z Z Z Z Z Z,Z,⟨⟨by omega,hnu.old O ey,hme⟩,eG,bm,fm,h⟩,O1⟩
  refine Ops.q Z (ah Z)<|.q Z (aQ Z Z)<|.q Z (aQ Z Z)<|.q Z (ae Z)<|.q Z (ae Z)<|.nil<|dd _ _<|.seq fun _ fn=>.seq fun _ fo=>.region ?_;refine Ops.q Z (ah Z)<|.q Z (eo Z)<|.nil<|fo _ _<|.cond_true Z<|.seq fun _ fq=>.region<|.q Z (ah Z)<|.l Z (fun _ _ ev _=>s7 (Q:=Q) Z Uu b2 hme ?_);refine ev _ _<|.q Z (ae Z)<|.nil<|fq _ _<|.region<|.q Z (ah Z)<|.q Z (an Mn Dt Z Z a5.get Z)<|.q Z (ah Z)<|.new2G (L:=Q) (k:=sf i) rfl a5.wf rfl rfl rfl Uu QW b2 hme bv fun A84 dw dv ay eQ=>?_;have dG:=bl.keep ay.keep h;have eL:=ao bD wf br ay.n ay.keep;refine Ops.nil<|fn _ _<|.region<|.q Z (ah Z)<|.q Z (ah Z)<|.q Z (ah Z) ?_;obtain ⟨gc,gm,gf,fQ,g3,d1,dj,f2,gC,fM,gq,fI⟩:=dG.at1 (x:=i) Of;rw [ax] at dj;refine Ops.q Z (aH eB cD Z d1 Z (by rw [dj];omega))<|.l Z (fun _ _ ex _=>be (off:=i) (c':=fQ.set i (num ((Q.length:Nat):Int))) ay.wf rfl (by simp) rfl rfl cD f2 (by show i + 1<=_;omega) rfl rfl fun A94 aP=>?_);have fr:=aP.keep _ _ (fun q=>h (by rw [d1];exact congrArg some q.symm)) ay.get;have bp:=fI (num ((Q.length:Nat):Int)) A94 aP;rw [iy] at bp;have eN:=ao eL wf fM aP.n aP.keep;refine ex _ _<|.nil<|d2 _ _<|.region<|.q Z (bE (b:=1) Z Z O)<|.q Z (ah Z)<|.nil ?_;exact ⟨⟨i + 1,o.set i (((Q.length:Nat):Int)),Q ++ [sf i],dw,dv,cv⟩,yZ Z Z Z Z Z Z Z Z,Z,⟨⟨by omega,hnu.new O bv,eQ⟩,eN,bp,fr,h⟩,O1⟩
 refine al.exit<|f4 _ _<|.seq fun _ dJ=>.region<|.q Z (ah Z)<|.l Z (fun _ _ c3 _=>s7 (Q:=Q) Z Uu ap hme ?_);refine c3 _ _<|.q Z (ae Z)<|.nil<|dJ _ _<|.block ?_;have hnf:=hnu.fin O;have gg:=hnu.le;refine al.loop (X:=Nat × List Int × Value) (fun ⟨cnt,cls,kv⟩=>[(0,num ((n:Nat):Int)),(2,.func (.func g2) #[] a8),(7,.func (.func 201) #[] #[]),(8,kv),(14,num ((cnt:Nat):Int))]) (fun ⟨cnt,cls,kv⟩ B=>(rQ n sf key cnt cls/\R cls)/\A.le B/\Fresh A B kv 1 (cN cls)) (fun ⟨cnt,cls,kv⟩=>n - cnt) (⟨Q.length,o,cv⟩) (pw Z Z Z Z Z) (⟨⟨rQ.start hnf,by have:=ft;rw [hnf] at this;exact this⟩,aY,aA⟩) ?_;rintro ⟨cnt,cls,kv⟩ B104 ⟨⟨hcl,hRc⟩,b3,ag⟩;refine al.wf fun b6=>?_;have hcll:=hcl.len;have hclc:=hcl.cnt;refine al.block<|.seq fun _ dK=>.region<|.q Z (ah Z)<|.l Z (fun _ _ c4 _=>m9 (n:=n) (k:=n) b6 b3 rfl rfl eB cD z3 nu rfl (Nat.le_refl _) (by show 8 * _<=_;omega) O fun A110 dl a6 aC=>?_);rw [iw] at aC;have b0:=ag.le a6.le;have b5:=b3.trans a6.le;have cZ:=bn.of_new (n:=n) (c:=n) ag.own b6 a6.lo;refine c4 _ _<|.q Z (ae Z)<|.nil<|dK _ _<|.seq fun _ dL=>.region<|.l Z (fun _ _ c7 _=>nW a6.wf fun A121 a3 a2=>?_);have cV:=b0.own.ne_new a6.wf a2.lo;have cX:=aC.own.ne_new a6.wf a2.lo;have b9:=aW wf (Nat.le_trans b5.n a2.lo);have bP:=b0.le a2.le;have bR:=aC.le a2.le;have cF:=b5.trans a2.le;refine c7 _ _<|.q Z (ae Z)<|.nil<|dL _ _<|.seq fun _ dM=>.seq fun _ dO=>.region<|.q Z (ah Z)<|.q Z (ah Z)<|.nil ?_;refine dO _ _<|.block<|.loop (X:=Nat × List Int × List Wd × Array MapEntry × Nat × Value) (fun ⟨j,o3,Q3,es,ck,nv⟩=>[(0,num ((n:Nat):Int)),(2,.func (.func g2) #[] a8),(7,.func (.func 201) #[] #[]),(8,kv),(14,num ((cnt:Nat):Int)),(15,nv),(16,.map (some a3)),(51,num ((n:Nat):Int)),(52,num ((j:Nat):Int))]) (fun ⟨j,o3,Q3,es,ck,nv⟩ B=>(j<=n/\nY n (key cls) j o3 Q3/\dh bg es (nF Q3))/\A.le B/\Fresh A B nv 1 (cN o3)/\Fresh A B kv 1 (cN cls)/\B.get a3=some (.obj true (.map es ck))/\V.blk nv ≠ some a3/\V.blk kv ≠ some a3/\bn nv kv) (fun ⟨j,o3,Q3,es,ck,nv⟩=>n - j) (⟨0,List.replicate n 0,[],#[],0,.slice (some ⟨dl,0,none⟩) n n⟩) (UZ Z Z Z Z Z Z Z Z Z) (⟨⟨Nat.zero_le _,nY.start,dh.nil⟩,cF,bR,bP,a2.get,cX,cV,cZ⟩) ?_;rintro ⟨j,o3,Q3,es,ck,nv⟩ B133 ⟨⟨hj,ai,aV⟩,ad,a7,ab,a1,D,a0,ac⟩;refine al.wf fun b7=>?_;have fT:=ai.len hj;have fV:=ai.le;refine al.seq fun _ dS=>.region<|.q Z (bX Z Z)<|.nil<|dS _ _<|.seq fun _ dV=>.if rfl (fun eX=>?_) (fun eX=>?_)
 ·refine al.skip<|dV _ _<|.seq fun _ dW=>.block<|.seq fun _ dZ=>.region<|.q Z (ah Z)<|.q Z (ae Z)<|.nil<|dZ _ _ ?_;refine al.region<|.q Z (ah Z)<|.q Z (ah Z)<|.q Z (ah Z)<|.q Z (ah Z)<|.q Z (ah Z)<|.q Z (ah Z)<|.q Z (ah Z)<|.l Z (fun _ _ cc _=>pm Z Z (e7 cls kv j B133 ab.slc hcll hcl.rng O ad b7) ?_);rintro g5 A146 ⟨rfl,a9,bM⟩;have e0:=a9.get _ _ a1;have bS:=a7.le a9;have bT:=ab.le a9;have cH:=ad.trans a9;refine cc _ _ ?_;have cK:=cd (bs:=[some a3]) cH (uD b9 px);refine Ops.l Z (fun _ _ cf _=>pm Z Z (Qo a3 es ck Q3 (key cls j) (A146.hide [some a3]) A146 (cz A146 [some a3]) (cg bM) e0 (cn (by simp)) aV ai.nd) ?_);rintro g6 A154 ⟨bc,bb,rfl,ar,bO,az,bL⟩;have bU:=bS.off (ks D kr) ar;have bV:=bT.off (ks a0 kr) ar;have cP:=cK.trans ar;refine cf _ _ ?_;obtain ⟨dm,fX,fS,eZ,fR,aS,bA,dI,g7,eV,g4,ez⟩:=bU.at1 (x:=j) Of;rw [ax] at bA;refine Ops.q Z (aH eB cD Z aS Z (by rw [bA];omega))<|.l Z (fun _ _ ch _=>be (off:=j) (c':=eZ.set j (num ((iO Q3 (key cls j):Nat):Int))) bO rfl (by simp) rfl rfl cD dI (by show j + 1<=_;omega) rfl rfl fun A162 aa=>?_);have e1:=aa.keep _ _ (fun q=>D (by rw [aS];exact congrArg some q.symm)) az;have bY:=bV.keep aa.keep (ac dm (by rw [aS];rfl));have b1:=ez (num ((iO Q3 (key cls j):Nat):Int)) A162 aa;rw [iy] at b1;have cS:=ao cP wf eV aa.n aa.keep;refine ch _ _<|.nil<|dW _ _<|.region<|.q Z (bE (b:=1) Z Z O)<|.q Z (ah Z)<|.nil ?_;exact ⟨⟨j + 1,o3.set j (((iO Q3 (key cls j):Nat):Int)),jC Q3 (key cls j),bc,bb,nv⟩,UZ Z Z Z Z Z Z Z Z Z,Z,⟨⟨by omega,ai.next O,bL⟩,cS,b1,bY,e1,D,a0,ac⟩,O1⟩
 refine al.exit<|dM _ _<|.seq fun _ e2=>.region<|.q Z (ah Z)<|.q Z (ae Z)<|.nil<|e2 _ _<|.seq fun _ e3=>.seq fun _ e4=>?_;have aD:=ai.fin O;refine al.region<|.q Z (ah Z)<|.l Z (fun _ _ cA _=>s7 (Q:=Q3) Z QY a1 aV ?_);refine cA _ _<|.q Z (ah Z)<|.q Z (iC Z Z)<|.nil<|e4 _ _<|.if rfl (fun eY=>?_) (fun eY=>?_)
 ·refine al.seq fun _ e5=>.region<|.q Z (ah Z)<|.q Z (ae Z)<|.nil<|e5 _ _<|.rt (by exact aE Z (⟨ad,b7,cy a7 (congrArg cN (hcl.stop aD ‹_›))⟩))
 refine al.skip<|e3 _ _<|.region<|.q Z (ah Z)<|.l Z (fun _ _ cC _=>s7 (Q:=Q3) Z QY a1 aV ?_);refine cC _ _<|.q Z (ae Z)<|.nil ?_;exact ⟨⟨Q3.length,o3,nv⟩,pw Z Z Z Z Z,Z,⟨⟨(hcl.next (fun i j hi hj=>hinj cls hcll hcl.rng hRc i j hi hj) aD ‹_›).1,by have:=fv cls hcll hRc;rw [aD] at this;exact this⟩,ad,a7⟩,(by have:=(hcl.next (fun i j hi hj=>hinj cls hcll hcl.rng hRc i j hi hj) aD ‹_›).2;(try dsimp only);omega)⟩
end Go.Proofs.YtjppkekmddjcfaaGreatDoor

namespace Go.Proofs.YtjppkekmddjcfaaGreatDoor
open Go Go.RowKit
namespace V
section
variable {P:Program} {nt:Nat} {Q:Exit->Fr->AH->Prop} {A M:AH} {e:gI} {ds:List Deferred}
theorem al.rangeOwnP {g:Operand} {gf:Nat} {lb:Array Value} {ps:Array Tmp} {assign body:Code} (b4 n:Nat) (xs:Nat->List Value) (I:Nat->AH->Prop) (e1:Nat->gI)
    (hg:bQ e g=some (.func (.func gf) #[] lb)) (eg:fx P gf) (hps:∀ i,(xs i).length=ps.size) (hpn:∀ p ∈ ps.toList,p < nt) (a3:b4 < A.n) (hM:cq b4 M A)
    (hI:∀ i B B',I i B->B'.wf->B.n<=B'.n->(∀ b o,(b < A.n\/na b4 B b)->B.get b=some o->B'.get b=some o)->I i B')
    (hv:∀ i B,I i B->∃ v cap,B.get b4=some (.row true [v] cap)/\∀ b,blk v=some b->∃ o,B.get b=some o) (h0:I 0 A)
    (hiter:∀ l (J:Nat->AH->Prop) B M,B.n=A.n + 2->A.le B->B.wf->cq b4 M B->(∀ i C,J i C->I i C) ->
      (∀ i C C',J i C->C'.wf->C.n<=C'.n->(∀ b o,(b < B.n\/na b4 C b)->C.get b=some o->C'.get b=some o)->J i C')->J 0 B ->
      (∀ i C M',i < n->C.wf->J i C->cq b4 M' C->ls P l (xs i).toArray C (fun v C'=>v=.bool true/\J (i + 1) C'/\C'.wf/\cq b4 M' C')) ->
      bz P gf (#[.func (.yield l) #[] #[]] ++ lb) B (fun _ C=>J n C/\C.wf/\cq b4 M C))
    (hassign:∀ F i B,xk F->i < n->eh P nt F assign (wv fun f C=>am (e1 i) f.e/\f.ds=[]/\B.le C/\C.wf) ⟨zK ps.toList (xs i) e,[]⟩ B)
    (hbody:∀ F i B M',xk F->i < n->I i B->B.wf->A.n<=B.n->cq b4 M' B->eh P nt F body (wv fun _ C=>I (i + 1) C/\C.wf/\cq b4 M' C) ⟨e1 i,[]⟩ B)
    (hK:∀ B D,I n B->B.wf->A.n<=D->A.n<=B.n->B.get D=some (.obj true (.deferred (some [])))->¬ na b4 B D->cq b4 M B->Q .normal ⟨e,mark D :: ds⟩ B) :
    al P nt (.rangeFunc g ps assign body) Q ⟨e,ds⟩ A:=by
  intro a w ha hw
  refine wpIn_wide.1 (wpIn_rangeFunc (n:=0) ?_)
  intro fn _
  rw [show Fence.wide.round=none from rfl]
  obtain ⟨rec,hrec⟩:∃ rec:LoopState->Option Code->Loop,rec=fun st pe=>{ state:=st,pending:=pe,fn,tmps:=a.tmps,params:=ps,assign,body,defers:=w.heap.size }:=⟨_,rfl⟩
  have hsz:w.heap.size=A.n:=hw.size
  have wfA:=hw.wf
  have hA:∀ b,na b4 A b->b < A.n:=fun b hb=>by
    obtain ⟨v,cap,g1,g2⟩:=hv 0 A h0
    rcases hb.val g1 with rfl | q
    · exact a3
    · obtain ⟨o,ho⟩:=g2 b q;exact wfA _ _ ho
  obtain ⟨v1,s1⟩:=jK (o:=.obj true (.deferred (some []))) (x:=.deferred (some [])) hw ⟨rfl,fun _ _ _ q=>by cases q⟩
  obtain ⟨v2,s2⟩:=jK (o:=.obj true (.loop (rec .ready none))) (x:=.loop (rec .ready none)) v1 ⟨rfl,fun _ _ _ q=>by cases q⟩
  have hgl:((A.new (.obj true (.deferred (some [])))).new (.obj true (.loop (rec .ready none)))).get (A.n + 1)=some (.obj true (.loop (rec .ready none))):=AH.new_get_same _ _
  have hgd:((A.new (.obj true (.deferred (some [])))).new (.obj true (.loop (rec .ready none)))).get A.n=some (.obj true (.deferred (some []))):=by
    rw [AH.new_get_ne _ _ (by simp)];exact AH.new_get_same _ _
  have hkeep:∀ b,b < A.n->((A.new (.obj true (.deferred (some [])))).new (.obj true (.loop (rec .ready none)))).get b=A.get b:=fun b hb=>by
    rw [AH.new_get_ne _ _ Ow,AH.new_get_ne _ _ O]
  have hleA:A.le ((A.new (.obj true (.deferred (some [])))).new (.obj true (.loop (rec .ready none)))):=AH.le_new (AH.le_new (AH.le.refl A) wfA _) wfA _
  have hnB:((A.new (.obj true (.deferred (some [])))).new (.obj true (.loop (rec .ready none)))).n=A.n + 2:=rfl
  generalize ((A.new (.obj true (.deferred (some [])))).new (.obj true (.loop (rec .ready none))))=B0 at *
  have ac:I 0 B0:=hI 0 A _ h0 v2.wf O fun b o hb hgb=>by rw [hkeep b (wfA _ _ hgb)];exact hgb
  have a9:∀ b,na b4 B0 b->b < A.n:=fun b hb=>hA b (hb.same (hkeep b4 a3))
  have hgev:a.eval g=.func (.func gf) #[] lb:=cI ha hg
  -- what is kept of the loop's own blocks
  have nl:b4 ≠ A.n + 1:=by omega
  refine ⟨w.heap.size + 1,[mark w.heap.size],(w.alloc (.deferred (some []))).alloc (.loop (rec .ready none)),{ target:=.fn (.func gf) lb,args:=#[.func (.yield (w.heap.size + 1)) #[] #[]] },(w.alloc (.deferred (some []))).alloc (.loop (rec .ready none)),gf,
    #[.func (.yield (w.heap.size + 1)) #[] #[]] ++ lb,(w.alloc (.deferred (some []))).alloc (.loop (rec .ready none)),?_,?_,fun _ _=>trivial,?_,fun q=>(by cases q),?_⟩
  · rw [hrec];exact run_enterLoop_outer _ _ _ _ _
  · simp only [resolve,hgev]
    simp [go_sem]
  · have eg':=eg
    unfold fx at eg'
    simp [invoke,go_sem,eg']
  · rw [hsz]
    have ag:cq b4 M B0:=⟨hM.le.trans hleA,hM.wf,fun b hb=>hM.ow b (hb.same (hkeep b4 a3))⟩
    have hcall:=hiter (A.n + 1) (fun i C=>I i C/\C.get (A.n + 1)=some (.obj true (.loop (rec .ready none)))/\C.get A.n=some (.obj true (.deferred (some [])))/\¬ na b4 C (A.n + 1)/\¬ na b4 C A.n) B0 M hnB hleA v2.wf ag (fun i C h=>h.1)
      (fun i C C' h wf hn hk=>?_) ⟨ac,hgl,hgd,fun q=>by have:=a9 _ q;omega,fun q=>by have:=a9 _ q;omega⟩ ?_
    · refine (callsIn_wide.2 (hcall.2 _ v2)).mono ?_
      rintro en w' ⟨A',hv',hs',v,rfl,⟨⟨hIn,hgl',hgd',X,a0⟩,hwf',hM'⟩⟩
      obtain ⟨q1,_⟩:=hv'.obj hgl'
      obtain ⟨v3,s3⟩:=md P (y:=.loop { rec .ready none with state:=.exhausted }) hv' hgl' (fun _ _ _ q=>by cases q)
      refine ⟨none,w'.putObj (A.n + 1) (.loop { rec .ready none with state:=.exhausted }),by
        have h7:=run_endLoop (P:=P) q1 (by rw [hrec];simp)
        have h8:(rec .ready none).pending=none:=by rw [hrec]
        exact h7.trans (congrArg (fun j=>Result.ok j _) h8),?_⟩
      have hl':=hwf' _ _ hgl'
      refine ⟨⟨e,mark A.n :: ds⟩,_,⟨ha.size,ha.slot,by show [mark _] ++ a.defers=_;rw [ha.ds];rfl⟩,v3,((s1.trans s2).trans hs').trans s3,?_,fun _ q=>by cases q⟩
      have hset:∀ b,b ≠ A.n + 1->(A'.set (A.n + 1) (.obj true (.loop { rec .ready none with state:=.exhausted }))).get b=A'.get b:=fun b hb=>AH.set_get_ne _ _ hb
      refine hK _ A.n (hI n A' _ hIn v3.wf (Nat.le_refl _) fun b o hb hgb=>?_) v3.wf (Nat.le_refl _) Ow ?_ ?_ ⟨⟨hM'.le.n,fun b o hb=>?_⟩,hM'.wf,fun b hb=>hM'.ow b (hb.same (hset b4 nl))⟩
      · rw [hset];exact hgb
        rintro rfl
        rcases hb with hb | hb
        · omega
        · exact X hb
      · rw [hset _ O];exact hgd'
      · exact fun q=>a0 (q.same (hset b4 nl))
      · have h1:=hM.le.get b o hb
        have h2:=wfA _ _ h1
        rw [hset _ O];exact hM'.le.get b o hb
    · obtain ⟨hIC,g1,g2,X,a0⟩:=h
      obtain ⟨v,cap,hr,_⟩:=hv i C hIC
      have e4:C'.get b4=C.get b4:=by rw [hr];exact hk b4 _ (.inr (.inl Z)) hr
      exact ⟨hI i C C' hIC wf hn (fun b o hb hgb=>hk b o (hb.imp (fun q=>by omega) id) hgb),hk _ _ (.inl O) g1,hk _ _ (.inl O) g2,fun q=>X (q.same e4),fun q=>a0 (q.same e4)⟩
    · rintro i C M' hi hwfC ⟨hIC,hgl',hgd',X,a0⟩ hMC w' hv'
      obtain ⟨q1,_⟩:=hv'.obj hgl'
      have hy:=run_yield (P:=P) (args:=(xs i).toArray) q1 (by rw [hrec];simpa using hps i)
      refine ⟨fn,_,assign,body,(by rw [hrec] at hy;exact hy),roundIn_of_wpIn trivial ?_⟩
      have hact:cU nt ⟨zK ps.toList (xs i) e,[]⟩ { tmps:=(ps.zip (xs i).toArray).foldl (fun t p=>t.setIfInBounds p.1 p.2) a.tmps,defers:=[] }:=by
        have:=tX (nt:=nt) (ps.toList.zip (xs i)) e a.tmps (fun p hp=>hpn _ (List.of_mem_zip hp).1) ⟨ha.size,ha.slot,rfl⟩
        rw [<- Array.foldl_toList,Array.toList_zip]
        exact this
      have ap:=hassign (FR (A.n + 1)) i C (qL _) hi _ w' hact hv'
      refine wpIn_mono ap ?_
      rintro x a1 w1 ⟨f1,C1,h1,h2,h3,h4,h5⟩
      cases x <;> (try exact h4.elim)
      obtain ⟨hE,hds,hleC,ar⟩:=h4
      obtain ⟨fe,fds⟩:=f1
      simp only at hE hds
      subst hds
      obtain ⟨vC,capC,gC,lC⟩:=hv i C hIC
      have owC:∀ b,na b4 C b->b < C.n:=fun b hb=>by
        rcases hb.val gC with rfl | q
        · exact hwfC _ _ gC
        · obtain ⟨o,ho⟩:=lC b q;exact hwfC _ _ ho
      have ab:C1.get b4=C.get b4:=by rw [gC];exact hleC.get _ _ gC
      have a4:=hleC.get _ _ hgl'
      have aa:=hleC.get _ _ hgd'
      obtain ⟨q2,_⟩:=h2.obj a4
      obtain ⟨v4,s4⟩:=md P (y:=.loop { rec .ready none with state:=.busy }) h2 a4 (fun _ _ _ q=>by cases q)
      refine ⟨_,run_beginRound q2 (by rw [hrec]),?_⟩
      have hl':=hwfC _ _ hgl'
      have hd':=hwfC _ _ hgd'
      have hnC:=hleC.n
      have hset:∀ b,b ≠ A.n + 1->(C1.set (A.n + 1) (.obj true (.loop { rec .ready none with state:=.busy }))).get b=C1.get b:=fun b hb=>AH.set_get_ne _ _ hb
      have hsetl:(C1.set (A.n + 1) (.obj true (.loop { rec .ready none with state:=.busy }))).get (A.n + 1)=some (.obj true (.loop { rec .ready none with state:=.busy })):=AH.set_get_same _ _ _
      have hsetn:(C1.set (A.n + 1) (.obj true (.loop { rec .ready none with state:=.busy }))).n=C1.n:=rfl
      generalize C1.set (A.n + 1) (.obj true (.loop { rec .ready none with state:=.busy }))=B1 at *
      have hIB:I i B1:=hI i C _ hIC v4.wf O fun b o hb hgb=>by
        rw [hset];exact hleC.get _ _ hgb
        rintro rfl
        rcases hb with hb | hb
        · omega
        · exact X hb
      have ai:∀ b,na b4 B1 b->na b4 C b:=fun b hb=>(hb.same (hset b4 nl)).same ab
      have hMs:cq b4 ⟨C.n,fun b=>if b=A.n + 1 then some (.obj true (.loop { rec .ready none with state:=.busy })) else if b=A.n then some (.obj true (.deferred (some []))) else M'.get b⟩ B1:=by
        refine ⟨⟨by show C.n<=B1.n;omega,fun b o hb=>?_⟩,fun b o hb=>?_,fun b hb=>?_⟩
        · simp only at hb
          split at hb
          · rename_i q;subst q;rw [hsetl];exact hb
          · rename_i q
            rw [hset b q]
            split at hb
            · rename_i q2;subst q2;rw [aa];exact hb
            · exact hleC.get _ _ (hMC.le.get b o hb)
        · simp only at hb
          split at hb
          · show b < C.n;omega
          · split at hb
            · show b < C.n;omega
            · exact hwfC b o (hMC.le.get b o hb)
        · have h6:=ai b hb
          simp only
          rw [if_neg (fun q:b=A.n + 1=>X (q ▸ h6)),if_neg (fun q:b=A.n=>a0 (q ▸ h6))]
          exact hMC.ow b h6
      have hb:=hbody (FR (A.n + 1)) i B1 _ (qL _) hi hIB v4.wf O hMs
      refine wpIn_mono (hb _ _ (cU.le h1 hE) v4) ?_
      rintro x a2 w2 ⟨f2,A2,g1,g2,g3,g4,g5⟩
      cases x <;> (try exact g4.elim)
      obtain ⟨ad,av,V⟩:=g4
      have a7:A2.get (A.n + 1)=some (.obj true (.loop { rec .ready none with state:=.busy })):=V.le.get _ _ (if_pos Z)
      have a6:A2.get A.n=some (.obj true (.deferred (some []))):=V.le.get _ _ (by simp [show ¬ A.n=A.n + 1 by omega])
      have a5:¬ na b4 A2 (A.n + 1):=fun q=>by have:=V.ow _ q;simp only [if_true] at this;cases this
      have a8:¬ na b4 A2 A.n:=fun q=>by have:=V.ow _ q;simp [show ¬ A.n=A.n + 1 by omega] at this
      obtain ⟨q3,_⟩:=g2.obj a7
      obtain ⟨v5,s5⟩:=md P (y:=.loop { ({ rec .ready none with state:=.busy }:Loop) with state:=.ready,pending:=none }) g2 a7 (fun _ _ _ q=>by cases q)
      refine ⟨_,_,run_endRound (P:=P) none q3,_,_,Z,v5,((h3.trans s4).trans g3).trans s5,Z,⟨?_,?_,?_,?_,?_⟩,v5.wf,?_⟩
      · exact hI (i + 1) A2 _ ad v5.wf (Nat.le_refl _) fun b o hb hgb=>by
          rw [AH.set_get_ne];exact hgb
          rintro rfl
          rcases hb with hb | hb
          · omega
          · exact a5 hb
      · rw [AH.set_get_same,hrec]
      · rw [AH.set_get_ne _ _ O];exact a6
      · exact fun q=>a5 (q.same (AH.set_get_ne _ _ nl))
      · exact fun q=>a8 (q.same (AH.set_get_ne _ _ nl))
      · refine ⟨⟨Nat.le_trans hMC.le.n (by have:=V.le.n;exact this),fun b o hb=>?_⟩,hMC.wf,fun b hb=>?_⟩
        · by_cases q:b=A.n + 1
          · subst q
            have h6:=hMC.le.get _ _ hb
            rw [hgl'] at h6
            rw [AH.set_get_same,<- h6,hrec]
          · rw [AH.set_get_ne _ _ q]
            by_cases q2:b=A.n
            · subst q2;rw [a6,<- hMC.le.get _ _ hb,hgd']
            · exact V.le.get b o (by simp only;rw [if_neg q,if_neg q2];exact hb)
        · have h6:na b4 A2 b:=hb.same (AH.set_get_ne _ _ nl)
          have h7:=V.ow b h6
          simp only at h7
          rw [if_neg (fun q:b=A.n + 1=>a5 (q ▸ h6)),if_neg (fun q:b=A.n=>a8 (q ▸ h6))] at h7
          exact h7
end
end V
end Go.Proofs.YtjppkekmddjcfaaGreatDoor

namespace Go.Proofs.YtjppkekmddjcfaaGreatDoor
open Go Go.RowKit V
section
variable {lv:List Bool} {N:List (List Int)} {cls:List Int} {i j n:Nat} {o:Wd} {m:Int}
def sl (lv:List Bool) (N:List (List Int)) (cls:List Int) (i j:Nat):Wd:=iq (cls.getD i 0).toNat ++ ((N.getD i []).take j).flatMap (wb lv cls)
theorem xY (hj:j < (N.getD i []).length):sl lv N cls i (j + 1)=sl lv N cls i j ++ wb lv cls ((N.getD i []).getD j 0):=by
  rw [sl,<- f8 (z:=(0:Int)) hj,List.flatMap_append,<- List.append_assoc]
  simp [sl]
theorem qG (h:o=sl lv N cls i j) (hj:j < (N.getD i []).length) (q:kU lv ((N.getD i []).getD j 0)=false):o ++ [32]=sl lv N cls i (j + 1):=by
  rw [xY hj,wb,q,h];simp
theorem wa (h:o=sl lv N cls i j) (hj:j < (N.getD i []).length) (q:kU lv ((N.getD i []).getD j 0)=true):o ++ [32] ++ iq (cls.getD ((N.getD i []).getD j 0).toNat 0).toNat=sl lv N cls i (j + 1):=by
  rw [xY hj,wb,q,h,List.append_assoc];simp
theorem ot (h:¬ 0<=m):kU lv m=false:=by rw [kU,decide_eq_false h];rfl
theorem tK (h:m < 0):kU lv m=false:=ot O
theorem fb (h:0<=m):kU lv m=lv.getD m.toNat false:=by rw [kU,decide_eq_true h];rfl
theorem NY:(wb lv cls m).length<=14:=by
  unfold wb;split
  · have:=tq (cls.getD m.toNat 0).toNat;rw [List.length_cons];omega
  · simp
theorem NX:(sl lv N cls i j).length<=13 + 14 * j:=by
  have h1:=tq (cls.getD i 0).toNat
  have h2:∀ l:List Int,(l.flatMap (wb lv cls)).length<=14 * l.length:=by
    intro l
    induction l with
    | nil=>simp
    | cons a l ih=>have:=NY (lv:=lv) (cls:=cls) (m:=a);rw [List.flatMap_cons,List.length_append,List.length_cons];omega
  have h3:=h2 ((N.getD i []).take j)
  have:((N.getD i []).take j).length<=j:=List.length_take_le _ _
  rw [sl,List.length_append];omega
theorem jk (h:lv.getD i false=false):pr lv N cls i=[45]:=by rw [pr,h];rfl
theorem xX (h:lv.getD i false=true) (hj:(N.getD i []).length=j):pr lv N cls i=sl lv N cls i j:=by
  rw [pr,if_pos h,sl,<- hj,List.take_length]
theorem JR (n:Nat):iq n ≠ []:=by
  unfold iq tu
  split
  · simp
  · simp
theorem Uq {a b x y:Wd} (ha:∀ c ∈ a,c ≠ 32) (hb:∀ c ∈ b,c ≠ 32) (hx:x=[]\/∃ t,x=32 :: t) (hy:y=[]\/∃ t,y=32 :: t) (e:a ++ x=b ++ y):a=b/\x=y:=by
  induction a generalizing b with
  | nil =>
    cases b with
    | nil=>exact ⟨Z,e⟩
    | cons c b =>
      rcases hx with rfl | ⟨t,rfl⟩
      · simp at e
      · simp only [List.nil_append,List.cons_append,List.cons.injEq] at e
        exact absurd e.1.symm (hb c List.mem_cons_self)
  | cons c a ih =>
    cases b with
    | nil =>
      rcases hy with rfl | ⟨t,rfl⟩
      · simp at e
      · simp only [List.nil_append,List.cons_append,List.cons.injEq] at e
        exact absurd e.1 (ha c List.mem_cons_self)
    | cons d b =>
      simp only [List.cons_append,List.cons.injEq] at e
      obtain ⟨h1,h2⟩:=ih (fun c hc=>ha c (List.mem_cons_of_mem _ hc)) (fun c hc=>hb c (List.mem_cons_of_mem _ hc)) e.2
      exact ⟨by rw [e.1,h1],h2⟩
theorem xL (l:List Int):l.flatMap (wb lv cls)=[]\/∃ t,l.flatMap (wb lv cls)=32 :: t:=by
  cases l with
  | nil=>exact .inl Z
  | cons a l=>right;rw [List.flatMap_cons,wb];exact ⟨_,Z⟩
theorem NW (hcl:cls.length=n) (hcr:∀ c ∈ cls,0<=c/\c < (n:Int)) (hn:n<=100000) (hd:∀ i j,i < n->j < n->lv.getD i false=false->lv.getD j false=false->cls.getD i 0=cls.getD j 0) (i j:Nat) (hi:i < n) (hj:j < n) (h:pr lv N cls i=pr lv N cls j):cls.getD i 0=cls.getD j 0:=by
  have hm:∀ i,(∃ t,iq (cls.getD i 0).toNat ++ t=[45])->False:=fun i ⟨t,z⟩=>by
    have h1:=uX 13 (cls.getD i 0).toNat
    cases hf:iq (cls.getD i 0).toNat with
    | nil=>exact JR _ hf
    | cons c l =>
      rw [hf] at z
      simp only [List.cons_append,List.cons.injEq] at z
      exact (h1 c (by show c ∈ iq _;rw [hf];exact List.mem_cons_self)).2 z.1
  cases hli:lv.getD i false with
  | false =>
    cases hlj:lv.getD j false with
    | false=>exact hd i j hi hj hli hlj
    | true=>rw [jk hli,pr,if_pos hlj] at h;exact absurd ⟨_,h.symm⟩ (hm j)
  | true =>
    cases hlj:lv.getD j false with
    | false=>rw [jk hlj,pr,if_pos hli] at h;exact absurd ⟨_,h⟩ (hm i)
    | true =>
      rw [pr,pr,if_pos hli,if_pos hlj] at h
      have h1:=hcr _ (bi (d:=(0:Int)) (show i < cls.length by omega))
      have h2:=hcr _ (bi (d:=(0:Int)) (show j < cls.length by omega))
      have:=(Uq (fun c hc=>(uX 13 _ c hc).1) (fun c hc=>(uX 13 _ c hc).1) (xL _) (xL _) h).1
      have:=JQ O O this
      omega
def Ah (lv:List Bool) (n:Nat) (cls:List Int):Prop:=∀ i j,i < n->j < n->lv.getD i false=false->lv.getD j false=false->cls.getD i 0=cls.getD j 0
theorem CI {K:Type} (f:Nat->K) (d:K) (hi:i < n):((List.range n).map f).getD i d=f i:=by simp [List.getD_eq_getElem?_getD,hi]
theorem xK {K:Type} [DecidableEq K] (f:Nat->K) (d:K) (h:∀ i j,i < n->j < n->lv.getD i false=false->lv.getD j false=false->f i=f j):Ah lv n (cb ((List.range n).map f)).1:=fun i j hi hj h1 h2 =>
  (zy _ (d:=d) (by simpa using hi) (by simpa using hj)).2 (by rw [CI f d hi,CI f d hj];exact h i j hi hj h1 h2)
end
section
variable {n k:Nat} {lv:List Bool} {N:List (List Int)} {cls:List Int} {c m:Int} {x i:Nat}
theorem vA (key:List Int->Nat->Wd):∀ (f count:Nat) (cls:List Int),cls.length=n->(∀ c ∈ cls,0<=c/\c < (n:Int))->(mu n key f count cls).length=n/\∀ c ∈ mu n key f count cls,0<=c/\c < (n:Int)
  | 0,_,cls,h1,h2=>⟨h1,h2⟩
  | f + 1,count,cls,h1,h2=>by
    obtain ⟨g1,g2,_,_⟩:=rQ.of (n:=n) (l:=(List.range n).map (key cls)) (cls:=(cb ((List.range n).map (key cls))).1) (Q:=(cb ((List.range n).map (key cls))).2) (by simp) Z
    unfold mu;split
    · exact ⟨g1,g2⟩
    · exact vA key f _ _ g1 g2
theorem RZ (st:Nat->Bool × Bool) (key:List Int->Nat->Wd):(AM n st key).length=n/\∀ c ∈ AM n st key,0<=c/\c < (n:Int):=by
  obtain ⟨g1,g2,_,_⟩:=rQ.of (n:=n) (l:=(List.range n).map st) (cls:=(cb ((List.range n).map st)).1) (Q:=(cb ((List.range n).map st)).2) (by simp) Z
  exact vA key _ _ _ g1 g2
theorem Ic {acc:List Bool}:(yU acc lv N).length=N.length/\∀ c ∈ yU acc lv N,0<=c/\c < (N.length:Int):=RZ _ _
theorem zu (h:c ∈ cls):jE cls c < cls.length:=List.idxOf_lt_length_iff.2 h
theorem tU (h:kU lv ((N.getD (jE cls c) []).getD x 0)=false):jI lv N cls c x=none:=by
  rw [jI,show ig N (jE cls c) x=(N.getD (jE cls c) []).getD x 0 from rfl,h];rfl
theorem zG (h:kU lv ((N.getD (jE cls c) []).getD x 0)=true):jI lv N cls c x=some (cls.getD ((N.getD (jE cls c) []).getD x 0).toNat 0):=by
  rw [jI,show ig N (jE cls c) x=(N.getD (jE cls c) []).getD x 0 from rfl,if_pos h]
structure qW (cls:List Int) (i:Nat) (E:List (Int × Value)):Prop where
  nd:(E.map (·.1)).Nodup
  is:∀ c,lk E c=if c ∈ cls.take i then some (num ((jE cls c:Nat):Int)) else none
variable {E:List (Int × Value)}
theorem qW.start:qW cls 0 []:=⟨List.nodup_nil,fun c=>by simp [lk]⟩
theorem qW.in_ (h:qW cls i E) {v:Value} (q:lk E c=some v):c ∈ cls.take i:=by
  rw [h.is] at q;split at q
  · assumption
  · cases q
theorem qW.no_ (h:qW cls i E) (q:lk E c=none):c ∉ cls.take i:=fun z=>by rw [h.is,if_pos z] at q;cases q
theorem qo (hi:i < cls.length):c ∈ cls.take (i + 1) ↔ c ∈ cls.take i\/c=cls.getD i 0:=by
  rw [<- f8 (z:=(0:Int)) hi,List.mem_append,List.mem_singleton]
theorem qW.old (h:qW cls i E) (hi:i < cls.length) (q:cls.getD i 0 ∈ cls.take i):qW cls (i + 1) E:=⟨h.nd,fun c=>by
  rw [h.is]
  by_cases z:c ∈ cls.take i
  · rw [if_pos z,if_pos ((qo hi).2 (.inl z))]
  · rw [if_neg z,if_neg fun w=>((qo hi).1 w).elim z fun e=>z (e ▸ q)]⟩
theorem qW.new (h:qW cls i E) (hi:i < cls.length) (q:cls.getD i 0 ∉ cls.take i):qW cls (i + 1) (yF E (cls.getD i 0) (num ((i:Nat):Int))):=by
  have hk:lk E (cls.getD i 0)=none:=by rw [h.is,if_neg q]
  have hn:cls.getD i 0 ∉ E.map (·.1):=zr.1 hk
  rw [vg hn]
  have hm:jE cls (cls.getD i 0)=i:=by
    have e:cls=cls.take i ++ cls.drop i:=(List.take_append_drop i cls).symm
    have e2:cls.drop i=cls.getD i 0 :: cls.drop (i + 1):=uk hi
    rw [jE]
    conv=>lhs;arg 2;rw [e]
    rw [List.idxOf_append,if_neg q,e2,List.idxOf_cons_self,List.length_take];omega
  refine ⟨?_,fun c=>?_⟩
  · rw [List.map_append,List.map_cons,List.map_nil]
    exact List.nodup_append.2 ⟨h.nd,by simp,by intro a ha b hb;rw [List.mem_singleton] at hb;subst hb;intro e;rw [show a=cls.getD i 0 from e] at ha;exact hn ha⟩
  · by_cases z:c=cls.getD i 0
    · subst z
      rw [if_pos ((qo hi).2 (.inr Z)),hm]
      simp only [lk,List.find?_append]
      have:E.find? (fun p=>decide (p.1=cls.getD i 0))=none:=by
        cases w:E.find? (fun p=>decide (p.1=cls.getD i 0)) with
        | none=>rfl
        | some p=>simp only [lk,w] at hk;cases hk
      rw [this];simp
    · have e1:lk (E ++ [(cls.getD i 0,num ((i:Nat):Int))]) c=lk E c:=by
        simp only [lk,List.find?_append,List.find?_cons,decide_eq_false (show ¬ cls.getD i 0=c from fun e=>z e.symm),List.find?_nil,Option.or_none]
      rw [e1,h.is]
      by_cases w:c ∈ cls.take i
      · rw [if_pos w,if_pos ((qo hi).2 (.inl w))]
      · rw [if_neg w,if_neg fun v=>((qo hi).1 v).elim w z]
def ta (A:AH) (bp:Nat) (cls:List Int):Prop:=∃ w cap mm w2 es ck,∃ E:List (Int × Value),A.get bp=some (.row w [.map (some mm)] cap)/\A.get mm=some (.obj w2 (.map es ck))/\dh num es E/\∀ c ∈ cls,lk E c=some (num ((jE cls c:Nat):Int))
theorem ta.le {A B:AH} {bp:Nat} (h:ta A bp cls) (le:A.le B):ta B bp cls:=by
  obtain ⟨w,cap,mm,w2,es,ck,E,h1,h2,h3,h4⟩:=h
  exact ⟨w,cap,mm,w2,es,ck,E,le.get _ _ h1,le.get _ _ h2,h3,h4⟩
theorem qW.all (h:qW cls i E) (hi:cls.length<=i):∀ c ∈ cls,lk E c=some (num ((jE cls c:Nat):Int)):=fun c hc=>by
  rw [h.is,List.take_of_length_le hi,if_pos hc]
theorem DH {P:Program} {e:gI} {A:AH} {x y:Operand} {t kt et:TypeId} {ty:TypeId} {ps:String} {af:Array Edge} {dst:Option Nat} {Q:Value->AH->Prop} {Kp:List PanicEntry->AH->Prop} {g:Option (Nat × Bool)} {m clock:Nat} {es:Array MapEntry} {E:List (Int × Value)} {k:Int} {v zv:Value} {rw:Bool}
    (hx:bQ e x=some (.map (some m))) (hy:bQ e y=some (num k)) (hu:P.underlying t=some (.map kt et)) (hk:P.underlying kt=some (.int .i64)) (hz:cx P et=some zv) (hg:A.get m=some (.obj rw (.map es clock))) (hE:dh num es E) (hv:lk E k=some v)
    (h:Q v A):kO P e A { dst:=dst,op:=.lookup t x y false,type:=ty,pos:=ps,after:=af,guard:=g } Q Kp:=qx tD hx hy hu hk hz hg hE (by rw [hv];exact h)
def ko (l:List Bool) (Q:List Int):List Bool:=Q.foldl (fun l s=>l.set s.toNat true) l
theorem nw:∀ (Q:List Int) (l:List Bool),(ko l Q).length=l.length
  | [],_=>rfl
  | q :: Q,l=>by rw [ko,List.foldl_cons];exact (nw Q _).trans (by simp)
theorem Fb (l:List Bool) (Q:List Int) (q:Int):ko l (Q ++ [q])=(ko l Q).set q.toNat true:=by simp [ko]
theorem Cd:∀ (Q:List Int) (l:List Bool),(∀ q ∈ Q,0<=q/\q < (l.length:Int))->∀ i,i < l.length->(ko l Q).getD i false=(l.getD i false || decide ((i:Int) ∈ Q))
  | [],l,_,i,hi=>by simp [ko]
  | q :: Q,l,h,i,hi=>by
    have hq:=h q List.mem_cons_self
    rw [ko,List.foldl_cons]
    show (ko (l.set q.toNat true) Q).getD i false=_
    rw [Cd Q _ (fun p hp=>by rw [List.length_set];exact h p (List.mem_cons_of_mem _ hp)) i (by simpa using hi),d7 O]
    by_cases e:i=q.toNat
    · rw [if_pos e,decide_eq_true (show (i:Int) ∈ q :: Q from by rw [List.mem_cons];left;omega)];simp
    · rw [if_neg e];congr 1
      rw [decide_eq_decide,List.mem_cons]
      exact ⟨.inr,fun z=>z.elim (fun z=>absurd O e) id⟩
end
theorem Ca {acc:List Bool} {N:List (List Int)} (hal:acc.length=N.length):∀ q ∈ gr acc N,0<=q/\q < (N.length:Int):=by
  suffices h:∀ (f i:Nat) (Q:List Int),(∀ q ∈ Q,0<=q/\q < (N.length:Int))->∀ q ∈ jD (dr N) f i Q,0<=q/\q < (N.length:Int) by
    exact h _ _ _ fun q hq=>by obtain ⟨s,h1,_,h3⟩:=vk.1 hq;omega
  intro f
  induction f with
  | zero=>intro i Q h;exact h
  | succ f ih =>
    intro i Q h
    unfold jD;split
    · refine ih _ _ ?_
      have:∀ (P Q:List Int),(∀ p ∈ P,0<=p/\p < (N.length:Int))->(∀ q ∈ Q,0<=q/\q < (N.length:Int))->∀ q ∈ P.foldl iY Q,0<=q/\q < (N.length:Int):=by
        intro P
        induction P with
        | nil=>intro Q _ h;exact h
        | cons p P ih =>
          intro Q hP hQ
          rw [List.foldl_cons]
          refine ih _ (fun x hx=>hP x (List.mem_cons_of_mem _ hx)) ?_
          unfold iY;split
          · exact hQ
          · exact qI hQ (hP p List.mem_cons_self)
      refine this _ _ (fun p hp=>?_) h
      obtain ⟨_,s,h2,h3,_⟩:=Cg.1 hp
      omega
    · exact h
theorem J8 {acc:List Bool} {N:List (List Int)} (hal:acc.length=N.length):ko (List.replicate acc.length false) (gr acc N)=iW acc N:=by
  apply List.ext_getElem
  · rw [nw];simp [iW]
  · intro i h1 h2
    rw [nw,List.length_replicate] at h1
    have:=Cd (gr acc N) (List.replicate acc.length false) (fun q hq=>by have:=Ca hal q hq;simp;omega) i (by simpa using h1)
    rw [gd (by rw [nw];simpa using h1)] at this
    rw [this]
    simp [iW,h1]
theorem J6 {acc:List Bool} {N:List (List Int)}:(iW acc N).length=acc.length:=by simp [iW]
theorem J9 {l:List Bool} {Q:List Int} {k:Nat} (hk:k < Q.length):(ko l (Q.take k)).set (Q.getD k 0).toNat true=ko l (Q.take (k + 1)):=by
  rw [<- f8 (z:=(0:Int)) hk,Fb]
theorem vM {k:Nat} {step:Int->Nat->Option Int} {D:Int->Prop} (hDs:∀ q c t,D q->c < k->step q c=some t->D t) {q:Int} (hq:D q):∀ (l:List Nat) (r:List Int × List Int),(∀ c ∈ l,c < k)->r.2.Nodup->(∀ q ∈ r.2,D q)->(l.foldl (gw step q) r).2.Nodup/\∀ q' ∈ (l.foldl (gw step q) r).2,D q'
  | [],r,_,h1,h2=>⟨h1,h2⟩
  | c :: l,r,hl,h1,h2=>by
    rw [List.foldl_cons]
    refine vM hDs hq l _ (fun c hc=>hl c (List.mem_cons_of_mem _ hc)) ?_ ?_
    · unfold gw;split
      · exact h1
      · split
        · exact h1
        · exact pX h1 ‹_›
    · unfold gw;split
      · exact h2
      · split
        · exact h2
        · exact qI h2 (hDs q c _ hq (hl c List.mem_cons_self) ‹_›)
theorem tk {k:Nat} {step:Int->Nat->Option Int} {D:Int->Prop} (hDs:∀ q c t,D q->c < k->step q c=some t->D t):∀ (f i:Nat) (Q:List Int) (R:List (List Int)),Q.Nodup->(∀ q ∈ Q,D q)->(fW k step f i Q R).1.Nodup/\∀ q ∈ (fW k step f i Q R).1,D q
  | 0,_,_,_,h1,h2=>⟨h1,h2⟩
  | f + 1,i,Q,R,h1,h2=>by
    unfold fW;split
    · rename_i hi
      obtain ⟨g1,g2⟩:=vM hDs (h2 _ (bi (d:=(0:Int)) hi)) (List.range k) ([],Q) (fun c hc=>List.mem_range.1 hc) h1 h2
      exact tk hDs f _ _ _ g1 g2
    · exact ⟨h1,h2⟩
theorem uo {N:Nat} {Q:List Int} (hn:Q.Nodup) (hQ:∀ q ∈ Q,0<=q/\q < (N:Int)):Q.length<=N:=by
  have:=qJ (l:=Q.map Int.toNat) (n:=N) ?_ ?_
  · simpa using this
  · rw [List.nodup_iff_pairwise_ne,List.pairwise_map]
    exact List.Pairwise.imp_of_mem (fun {a c} ha hc hac e=>hac (by have:=hQ a ha;have:=hQ c hc;omega)) hn
  · intro x hx
    obtain ⟨a,ha,rfl⟩:=List.mem_map.1 hx
    have:=hQ a ha;omega
theorem Pm {k:Nat} {acc:List Bool} {N:List (List Int)} {lv:List Bool} {cls:List Int} (hok:DU k acc N) (hcl:cls.length=N.length) (q:Int) (c:Nat) (t:Int) (hq:q ∈ cls) (hc:c < k) (h:jI lv N cls q c=some t):t ∈ cls:=by
  have hm:=zu hq
  have hv:=hok.val (jE cls q) c O hc
  unfold jI at h;split at h
  · rename_i hl
    cases h
    have:0<=ig N (jE cls q) c:=by
      rw [kU] at hl
      simp only [Bool.and_eq_true,decide_eq_true_eq] at hl;exact hl.1
    exact bi O
  · cases h
theorem MC {k:Nat} {acc:List Bool} {N:List (List Int)} (hok:DU k acc N) (hN:0 < N.length):(Ee k acc N).1.length<=N.length:=by
  have hc:=Ic (lv:=iW acc N) (N:=N) (acc:=acc)
  obtain ⟨g1,g2⟩:=tk (D:=fun q=>q ∈ yU acc (iW acc N) N) (fun q c t=>Pm (lv:=iW acc N) hok hc.1 q c t) (N.length + 1) 0 [(yU acc (iW acc N) N).getD 0 0] [] (by simp) (fun q hq=>by
    rw [List.mem_singleton] at hq;subst hq;exact bi (by rw [hc.1];exact hN))
  exact uo g1 fun q hq=>hc.2 q (g2 q hq)
theorem uR {k:Nat} {acc:List Bool} {N:List (List Int)} (h:(iW acc N).getD 0 false=false):yQ k acc N=([],[]):=by rw [yQ,h];rfl
theorem AK {k:Nat} {acc:List Bool} {N:List (List Int)} (h:(iW acc N).getD 0 false=true):yQ k acc N=((Ee k acc N).1.map fun c=>acc.getD (jE (yU acc (iW acc N) N) c) false,(Ee k acc N).2):=by rw [yQ,if_pos h]
theorem yb {l:List Bool} (h:l.length=0):l.getD 0 false=false:=by rw [List.length_eq_zero_iff.1 h];rfl
theorem RO {N:List (List Int)} {n:Nat} (hn:n<=100000) (lv:List Bool) (cls:List Int) (h1:cls.length=n) (h2:∀ c ∈ cls,0<=c/\c < (n:Int)) (h3:Ah lv n cls) (i j:Nat) (hi:i < n) (hj:j < n) (h:pr lv N cls i=pr lv N cls j):cls.getD i 0=cls.getD j 0 :=
  NW h1 h2 hn h3 i j hi hj h
theorem Jz {acc:List Bool} {n:Nat} (lv:List Bool) (hl:∀ i,i < n->lv.getD i false=false->acc.getD i false=false):Ah lv n (cb ((List.range n).map (VO acc lv))).1 :=
  xK (VO acc lv) (false,false) fun i j hi hj h1 h2=>by simp only [VO];rw [h1,h2,hl i hi h1,hl j hj h2]
theorem JA {N:List (List Int)} {n:Nat} (lv:List Bool) (cls:List Int):Ah lv n (cb ((List.range n).map (pr lv N cls))).1 :=
  xK (pr lv N cls) [] fun i j hi hj h1 h2=>by rw [jk h1,jk h2]
theorem N8 {acc:List Bool} {N:List (List Int)} (i:Nat) (hi:i < acc.length) (h:(iW acc N).getD i false=false):acc.getD i false=false:=by
  cases q:acc.getD i false with
  | false=>rfl
  | true =>
    have h1:(i:Int) ∈ gr acc N:=(ou (B:=dr N) (N.length + 1) 0 (qY acc acc.length)).subset (vk.2 ⟨i,hi,q,rfl⟩)
    simp [iW,hi,h1] at h
end Go.Proofs.YtjppkekmddjcfaaGreatDoor

namespace Go.Proofs.YtjppkekmddjcfaaGreatDoor
open Go Go.RowKit V
set_option maxRecDepth 100000
set_option maxHeartbeats 4000000
theorem GW:dn Tryz.prog 222=some false:=by kernel_rfl
theorem zf:dB Tryz.prog 213 0=some (3,0):=by kernel_rfl
theorem OU:c9 Tryz.prog 62=some [(0,1),(1,1),(2,1),(3,1)]:=by kernel_rfl
theorem Xg:da Tryz.prog 222=some 1:=by kernel_rfl
theorem Yb:type_of% @Tryz.underlying218:=@Tryz.underlying218
theorem Xo:type_of% @Tryz.underlying62:=@Tryz.underlying62
theorem Yj:cx Tryz.prog 222=some (.map none):=by kernel_rfl
theorem YF:cx Tryz.prog 59=some (.slice none 0 0):=by kernel_rfl
theorem LM:cx Tryz.prog 62=some (.agg #[.int .i64 0,.int .i64 0,.slice none 0 0,.slice none 0 0]):=by kernel_rfl

theorem I8 (u:Value) (o:List UInt8) (m:Int) (A0 A:AH) (h:A0.le A) (D:A0.wf) (hu:Fresh A0 A u 1 (aq o)) (ho:o.length<=100000000000) (hm:0<=m/\m<=1000000):bz Tryz.prog 184 #[u,num m,num ((36:Nat):Int)] A (fun v A1=>A0.le A1/\A1.wf/\Fresh A0 A1 v 1 (aq (o ++ iq m.toNat))):=by
 obtain ⟨n,rfl⟩:∃ n:Nat,m=n:=⟨m.toNat,by omega⟩;exact Vu u o n A0 A h D hu ho O

theorem VA (i:Nat) (bl bm kl km:Nat) (wl wm:Bool) (lv:Value) (live:List Bool) (b:Nat) (rwb:Bool) (capb k:Nat) (av nv fv bv:Value) (acc:List Bool) (N:List (List Int)) (rows:List Value) (A:AH) (gl:A.get bl=some (.row wl [lv] kl)) (gm:A.get bm=some (.row wm [.pointer (some ⟨b,0,none⟩)] km)) (hlv:bI A 1 lv (ce live)) (hll:live.length=N.length) (hok:DU k acc N) (hb:A.get b=some (.row rwb [num (k:Int),av,nv,fv,bv] capb)) (hav:bI A 1 av (ce acc)) (hnv:bI A 1 nv (er rows)) (hrl:rows.length=N.length) (hF:∀ i,i < N.length->bI A 1 (rows.getD i undef) (cN (N.getD i []))) (hi:i < N.length):bz Tryz.prog 182 #[num ((i:Nat):Int),.pointer (some ⟨bl,0,none⟩),.pointer (some ⟨bm,0,none⟩)] A (fun v A1=>v=jb (VO acc live i)/\A.le A1/\A1.wf):=by
 refine uC Tryz.call182 Tryz.func182 Z Tryz.results182 Tryz.ntmps182 Z (fun wf=>?_);have a0:=AH.le.refl A;obtain ⟨⟨aC,aD⟩,hal,hnl,hrow,hval⟩:=hok;refine al.seq fun _ h2=>.region<|.l Z (fun _ _ a9 _=>cm wf VX rfl fun A5 b4 V=>?_);have X:=aW wf (Nat.le_trans a0.n V.lo);have h:=a0.trans V.le;refine a9 _ _<|.nil<|h2 _ _<|.seq fun _ h9=>.drawn [0,1,2,3,4,5,6,7,8,9,10,11,12] mixed Y Y Z<|.q Z Z Z (ak iI Z Z (h.get _ _ gl) Z)<|.q Z Z Z (ah Z) ?_;obtain ⟨ay,aA,ap,aR,ag,aI,aF,a5,aa,a7,ac,a1⟩:=bI.at (i:=i) (hlv.le h) Oi O;refine bk.q Z Z Z (aH mc mn Z a5 Z aa)<|.q Z Z Z (ak uM Z Z a7 ((cQ a1).trans (ep O)))<|.q Z Z Z (ak ng Z Z (h.get _ _ gm) Z)<|.q Z Z Z (cM Z)<|.q Z Z Z (aj jA iM U Z)<|.q Z Z Z (ak iI Z Z (h.get _ _ hb) Z)<|.q Z Z Z (ah Z) ?_;obtain ⟨az,aB,ar,aS,ai,aP,aG,a6,ab,a8,ad,a2⟩:=bI.at (i:=i) (hav.le h) Oi O;refine bk.q Z Z Z (aH mc mn Z a6 Z ab)<|.q Z Z Z (ak uM Z Z a8 ((cQ a2).trans (ep O)))<|.q Z Z Z (dx Z (n8 Yb VX mn Z))<|.l Z Z Z (fun _ _ a3 _=>be (cs:=[.bool (live.getD i false),.bool (acc.getD i false)]) (c':=[.bool (live.getD i false),.bool (acc.getD i false)]) V.wf rfl rfl rfl rfl Dt V.get (Nat.le_of_ble_eq_true rfl) rfl rfl fun A18 D=>?_);have a4:=ao h wf X D.n D.keep;refine a3 _ _ (aX.none Y)<|.done<|h9 _ _<|.ret ?_;repeat first | with_reducible refine bw ?_ | with_reducible refine bj ?_
 exact aE (fa Mn Dt Z D.get Z gz) (⟨Z,a4,D.wf⟩)

theorem VB (i:Nat) (cls:List Int) (cv:Value) (bl bm kl km:Nat) (wl wm:Bool) (lv:Value) (live:List Bool) (b:Nat) (rwb:Bool) (capb k:Nat) (av nv fv bv:Value) (acc:List Bool) (N:List (List Int)) (rows:List Value) (A:AH) (gl:A.get bl=some (.row wl [lv] kl)) (gm:A.get bm=some (.row wm [.pointer (some ⟨b,0,none⟩)] km)) (hlv:bI A 1 lv (ce live)) (hll:live.length=N.length) (hok:DU k acc N) (hb:A.get b=some (.row rwb [num (k:Int),av,nv,fv,bv] capb)) (hav:bI A 1 av (ce acc)) (hnv:bI A 1 nv (er rows)) (hrl:rows.length=N.length) (hF:∀ i,i < N.length->bI A 1 (rows.getD i undef) (cN (N.getD i []))) (hi:i < N.length) (hcv:bI A 1 cv (cN cls)) (hcl:cls.length=N.length) (hcr:∀ c ∈ cls,0<=c/\c < (N.length:Int))  : bz Tryz.prog 183 #[cv,num ((i:Nat):Int),.pointer (some ⟨bl,0,none⟩),.pointer (some ⟨bm,0,none⟩)] A (fun v A1=>v=bg (pr live N cls i)/\A.le A1/\A1.wf):=by
 refine Yn Tryz.call183 Tryz.func183 Z Tryz.results183 Tryz.ntmps183 Z (fun wf=>?_);have a3:=AH.le.refl A;obtain ⟨⟨dv,dw⟩,hal,hnl,hrow,hval⟩:=hok;have hri:=hrow i hi;have hci:=hcr _ (bi (d:=(0:Int)) (show i < cls.length by omega));refine al.seq fun _ h2=>.region<|.q Z (ae Z)<|.nil<|h2 _ _<|.seq fun _ h4=>.seq fun _ h6=>.region<|.q Z (ak iI Z Z (a3.get _ _ gl) Z)<|.q Z (ah Z) ?_;obtain ⟨b7,f7,e3,r7,e2,n7,k7,e7,l7,g7,dd,aV⟩:=bI.at (i:=i) (hlv.le a3) Oi O;refine Ops.q Z (aH mc mn Z e7 Z l7)<|.q Z (ak uM Z Z g7 ((cQ aV).trans (ep O)))<|.q Z (eo Z)<|.nil<|h6 _ _<|.ifB Z (fun p8=>?_) (fun p8=>?_)
 ·refine al.seq fun _ ba=>.region<|.q Z (ae Z)<|.nil<|ba _ _<|.rt (by exact aE Z (⟨by first | (rw [jk ‹_›];rfl) | (rw [jk (by simpa using ‹(!live.getD i false)=true›)];rfl) | (rw [xX (by simpa using ‹(!live.getD i false)=false›) (show (N.getD i []).length=j by omega),<- ho];rfl),a3,wf⟩))
 refine al.skip<|h4 _ _<|.seq fun _ bb=>.region<|.q Z (ah Z)<|.q Z (ah Z) ?_;obtain ⟨cX,di,cH,dV,ch,dK,dz,aY,bC,b3,c3,ar⟩:=bI.at (i:=i) (hcv.le a3) Of O;refine Ops.q Z (aH eB cD Z aY Z bC)<|.q Z (ak df Z Z b3 ((cQ ar).trans (c6 O))) ?_;have ab:=cd (bs:=[blk (.slice none 0 0)]) a3 (s8 (Fresh.nil A A 1).lo px);refine Ops.l Z (fun _ _ aF _=>au Z (I8 (.slice none 0 0) ([]) (cls.getD i 0) (A.hide [blk (.slice none 0 0)]) A (cz A [blk (.slice none 0 0)]) (cg wf) ((Fresh.nil A A 1).hide (by simp)) Ox (by (try have:=hcm (by have:=hva O;omega));omega)) ?_);rintro bT A17 ⟨ag,bV,a7⟩;have aC:=a7.base ab;have V:=ab.trans ag;refine aF _ _<|.q Z (ae Z)<|.nil<|bb _ _<|.seq fun _ bc=>.seq fun _ bd=>.region<|.q Z (ak ng Z Z (V.get _ _ gm) Z)<|.q Z (cM Z)<|.q Z (aj qE i6 U Z) ?_;refine Ops.q Z (ak ki Z Z (V.get _ _ hb) Z)<|.q Z (ah Z) ?_;obtain ⟨cZ,dj,cK,dW,ck,dL,dD,aZ,bD,b5,c4,ay⟩:=bI.at (i:=i) (hnv.le V) On O;refine Ops.q Z (aH oT fP Z aZ Z bD)<|.q Z (ak mj Z Z b5 ((cQ ay).trans (eK O)))<|.q Z (bF (n:=((N.getD i [])).length) eB Z ((hF i O).le V) O (eD _))<|.q Z (ah Z)<|.nil<|bd _ _<|.block<|.loop (X:=Nat × List UInt8 × Value) (fun ⟨j,o,kv⟩=>[(0,cv),(2,.pointer (some ⟨bl,0,none⟩)),(7,kv),(26,rows.getD i undef),(27,num ((((N.getD i [])).length:Nat):Int)),(28,num ((j:Nat):Int))]) (fun ⟨j,o,kv⟩ B=>(j<=k/\o=sl live N cls i j)/\A.le B/\Fresh A B kv 1 (aq o)) (fun ⟨j,o,kv⟩=>k - j) (⟨0,([]) ++ iq (cls.getD i 0).toNat,bT⟩) (Il Z Z Z Z Z Z) (⟨⟨Nat.zero_le _,by simp [sl]⟩,V,aC⟩) ?_;rintro ⟨j,o,kv⟩ B28 ⟨⟨hj,ho⟩,a5,a0⟩;refine al.wf fun ad=>?_;have hlo:o.length<=13 + 14 * j:=by rw [ho];exact NX
 have hva:=fun q:j < k=>hval i j hi q;simp only [ig] at hva;have hcm:=fun q:((N.getD i []).getD j 0).toNat < cls.length=>hcr _ (bi (d:=(0:Int)) q);refine al.seq fun _ bp=>.region<|.q Z (bX Z Z)<|.nil<|bp _ _<|.seq fun _ br=>.if rfl (fun bP=>?_) (fun bP=>?_)
 ·refine al.skip<|br _ _<|.seq fun _ aa=>.block<|.seq fun _ bu=>.region ?_;obtain ⟨d0,dk,cP,dZ,cA,dM,dG,b0,bL,b6,c7,az⟩:=bI.at (i:=j) ((hF i O).le a5) Of O;refine Ops.q Z (aH eB cD Z b0 Z bL)<|.q Z (ak df Z Z b6 ((cQ az).trans (c6 O)))<|.q Z (ae Z)<|.nil<|bu _ _<|.seq fun _ bA=>.region<|.q Z (ah Z)<|.l Z (fun _ _ aG _=>aM (c:=[ej (32)]) ad rfl (aw cT kf z5 rfl U U rfl) fun A44 d1 a6=>?_);have a9:=a0.le a6.le;have aS:=a5.trans a6.le;refine aG _ _<|.l Z (fun _ _ aI _=>cR (ys:=[ej (32)]) rfl rfl cT kf uE z5 rfl U cT (fun _ h=>by cases h) a9.own (bW (n:=1) a6.get Z) rfl rfl (by show (_ + _) * 1<=_;simp only [aU,List.length_cons,List.length_nil];(try simp only [List.length_append,List.length_cons,List.length_nil]);omega) O3 fun A50 a1 a4=>?_);rw [show ([ej (32)]:List Value)=aq [32] from rfl,eI] at a4;obtain ⟨a2,D⟩:=Fresh.grow a9 aS wf a4;refine aI _ _<|.q Z (ae Z)<|.nil<|bA _ _<|.seq fun _ ap=>.region<|.q Z (ah Z)<|.q Z (k8 Z Z)<|.q Z (ah Z)<|.part (t:=37) Z (fun bR=>?_) (fun bR=>?_)
  ·refine Ops.on Z Z<|.q Z (ak iI Z Z (D.get _ _ gl) Z)<|.on Z Z<|.q Z (ah Z)<|.on Z Z ?_;obtain ⟨d2,dl,cS,e0,cC,dO,dI,b1,bM,b8,cc,aA⟩:=bI.at (i:=(((N.getD i [])).getD j 0).toNat) (hlv.le D) (by simp only [bG];have:=hva O;omega) O;refine Ops.q Z (aH mc mn Z b1 (eR (by have:=hva O;omega)) bM)<|.on Z Z<|.q Z (ak uM Z Z b8 ((cQ aA).trans (ep (by have:=hva O;omega))))<|.q Z (aJ Z Z)<|.nil<|ap _ _<|.ifB Z (fun bS=>?_) (fun bS=>?_)
   ·refine al.region<|.q Z (ah Z)<|.q Z (ah Z)<|.q Z (ah Z) ?_;obtain ⟨d3,dm,cV,e1,cF,dS,dJ,b2,bO,b9,cf,aB⟩:=bI.at (i:=(((N.getD i [])).getD j 0).toNat) (hcv.le D) (by simp only [ax];have:=hva O;omega) O;refine Ops.q Z (aH eB cD Z b2 (eR (by have:=hva O;omega)) bO)<|.q Z (ak df Z Z b9 ((cQ aB).trans (c6 (by have:=hva O;omega)))) ?_;have ac:=cd (bs:=[blk a1]) D (s8 a2.lo px);refine Ops.l Z (fun _ _ aP _=>au Z (I8 a1 (o ++ [32]) (cls.getD ((((N.getD i [])).getD j 0).toNat) 0) (A50.hide [blk a1]) A50 (cz A50 [blk a1]) (cg a4.wf) (a2.hide (by simp)) Ox (by (try have:=hcm (by have:=hva O;omega));omega)) ?_);rintro bU A65 ⟨ai,bY,a8⟩;have aD:=a8.base ac;have aT:=ac.trans ai;refine aP _ _<|.q Z (ae Z)<|.nil<|aa _ _<|.region<|.q Z (bE (b:=1) Z Z O)<|.q Z (ah Z)<|.nil ?_;exact ⟨⟨j + 1,(o ++ [32]) ++ iq (cls.getD ((((N.getD i [])).getD j 0).toNat) 0).toNat,bU⟩,Il Z Z Z Z Z Z,Z,⟨⟨by omega,by first | exact wa ho O (by rw [fb ‹_›];assumption) | exact qG ho O (by rw [fb ‹_›];assumption) | exact qG ho O (ot ‹_›)⟩,aT,aD⟩,O1⟩
   refine al.skip<|aa _ _<|.region<|.q Z (bE (b:=1) Z Z O)<|.q Z (ah Z)<|.nil ?_;exact ⟨⟨j + 1,o ++ [32],a1⟩,Il Z Z Z Z Z Z,Z,⟨⟨by omega,by first | exact wa ho O (by rw [fb ‹_›];assumption) | exact qG ho O (by rw [fb ‹_›];assumption) | exact qG ho O (ot ‹_›)⟩,D,a2⟩,O1⟩
  refine Ops.off Z Z Z Z<|.off Z Z Z Z<|.off Z Z Z Z<|.off Z Z Z Z<|.q Z (aL Z Z)<|.nil<|ap _ _<|.cond_false Z<|.skip<|aa _ _ ?_;refine al.region<|.q Z (bE (b:=1) Z Z O)<|.q Z (ah Z)<|.nil ?_;exact ⟨⟨j + 1,o ++ [32],a1⟩,Il Z Z Z Z Z Z,Z,⟨⟨by omega,by first | exact wa ho O (by rw [fb ‹_›];assumption) | exact qG ho O (by rw [fb ‹_›];assumption) | exact qG ho O (ot ‹_›)⟩,D,a2⟩,O1⟩
 refine al.exit<|bc _ _<|.seq fun _ bB=>.region<|.q Z (ah Z)<|.l Z (fun _ _ aR _=>ee (s:=o) Z cT u9 u5 a0.slc ?_);refine aR _ _<|.q Z (ae Z)<|.nil<|bB _ _<|.rt (by exact aE Z (⟨by first | (rw [jk ‹_›];rfl) | (rw [jk (by simpa using ‹(!live.getD i false)=true›)];rfl) | (rw [xX (by simpa using ‹(!live.getD i false)=false›) (show (N.getD i []).length=j by omega),<- ho];rfl),a5,ad⟩))

theorem VC (c:Int) (x:Nat) (bp bc kc:Nat) (wc:Bool) (cv:Value) (cls:List Int) (bl bm kl km:Nat) (wl wm:Bool) (lv:Value) (live:List Bool) (b:Nat) (rwb:Bool) (capb k:Nat) (av nv fv bv:Value) (acc:List Bool) (N:List (List Int)) (rows:List Value) (A:AH) (gl:A.get bl=some (.row wl [lv] kl)) (gm:A.get bm=some (.row wm [.pointer (some ⟨b,0,none⟩)] km)) (hlv:bI A 1 lv (ce live)) (hll:live.length=N.length) (hok:DU k acc N) (hb:A.get b=some (.row rwb [num (k:Int),av,nv,fv,bv] capb)) (hav:bI A 1 av (ce acc)) (hnv:bI A 1 nv (er rows)) (hrl:rows.length=N.length) (hF:∀ i,i < N.length->bI A 1 (rows.getD i undef) (cN (N.getD i [])))(hmp:ta A bp cls) (gc:A.get bc=some (.row wc [cv] kc)) (hcv:bI A 1 cv (cN cls)) (hcl:cls.length=N.length) (hc:c ∈ cls) (hx:x < k):bz Tryz.prog 185 #[num (c),num ((x:Nat):Int),.pointer (some ⟨bm,0,none⟩),.pointer (some ⟨bp,0,none⟩),.pointer (some ⟨bl,0,none⟩),.pointer (some ⟨bc,0,none⟩)] A (fun v A1=>v=.tuple #[num ((jI live N cls c x).getD 0),.bool (jI live N cls c x).isSome]/\A.le A1/\A1.wf):=by
 refine Yz Tryz.call185 Tryz.func185 Z Tryz.results185 Tryz.ntmps185 Z (fun wf=>?_);have h:=AH.le.refl A;obtain ⟨⟨b2,b3⟩,hal,hnl,hrow,hval⟩:=hok;obtain ⟨wp,kp,mm,w2,es,ck,E,gp,gmm,hME,hMM⟩:=hmp;have hmf:=zu hc;have hrm:=hrow (jE cls c) O;have hvm:=hval (jE cls c) x O hx;simp only [ig] at hvm;refine al.seq fun _ h2=>.region<|.q Z (ae Z)<|.q Z (ae Z)<|.nil<|h2 _ _<|.seq fun _ h4=>.drawn [0,1,2,3,4,5,9,6,7,8,10,11,12] mixed Y Y Z ?_;have ac:=c5 (off:=0) (h.get _ _ gm) (show _=some (.pointer (some ⟨b,0,none⟩)) from rfl);refine bk.q Z Z Z (ak ng Z Z (h.get _ _ gm) Z)<|.q Z Z Z (cM Z)<|.q Z Z Z (aj qE i6 U Z) ?_;have ad:=c5 (off:=2) (h.get _ _ hb) (show _=some (nv) from rfl);refine bk.q Z Z Z (ak ki Z Z (h.get _ _ hb) Z)<|.q Z Z Z (ak GW Z Z (h.get _ _ gp) Z)<|.q Z Z Z (ah Z)<|.q Z Z Z (ah Z)<|.l Z Z Z (fun _ _ ag _=>DH Z Z Gw u3 z3 (h.get _ _ gmm) hME (hMM _ hc) ?_);refine ag _ _ (aX.list (L:=[(⟨b,2,none⟩,nv),(⟨bm,0,none⟩,.pointer (some ⟨b,0,none⟩))]) Y (bx ad (bx ac cO))) ?_;obtain ⟨b9,f9,bB,r9,bA,n9,k9,e9,l9,g9,aY,a1⟩:=bI.at (i:=jE cls c) (hnv.le h) On O;refine bk.q Z Z Z (aH oT fP Z e9 Z l9)<|.q Z Z Z (ak mj Z Z g9 ((cQ a1).trans (eK O))) ?_;obtain ⟨aS,aZ,aI,bd,aD,b8,b5,a2,ai,a5,aA,V⟩:=bI.at (i:=x) ((hF (jE cls c) O).le h) Of O;refine bk.q Z Z Z (aH eB cD Z a2 Z ai)<|.q Z Z Z (ak df Z Z a5 ((cQ V).trans (c6 O)))<|.q Z Z Z (ae Z)<|.done<|h4 _ _<|.seq fun _ a8=>.seq fun _ D=>.region<|.q Z (ah Z)<|.q Z (jd Z Z) ?_;refine Ops.q Z (ah Z)<|.part (t:=25) Z (fun ay=>?_) (fun ay=>?_)
 ·refine Ops.off Z Z Z Z<|.off Z Z Z Z<|.off Z Z Z Z<|.off Z Z Z Z<|.off Z Z Z Z<|.q Z (aJ Z Z)<|.nil<|D _ _<|.cond_true Z<|.seq fun _ a9=>?_;refine al.region<|.q Z (ae Z)<|.q Z (ae Z)<|.nil<|a9 _ _<|.rt (by exact aE Z (⟨by first | (rw [tU (tK ‹_›)];rfl) | (rw [tU (by rw [fb O];simpa using ‹(!live.getD _ false)=true›)];rfl) | (rw [zG (by rw [fb O];simpa using ‹(!live.getD _ false)=false›)];rfl),h,wf⟩))
 refine Ops.on Z Z<|.q Z (ak iI Z Z (h.get _ _ gl) Z)<|.on Z Z<|.q Z (ah Z)<|.on Z Z ?_;obtain ⟨aT,b0,aP,br,aF,ba,b6,a3,ap,a6,aB,X⟩:=bI.at (i:=(((N.getD (jE cls c) [])).getD x 0).toNat) (hlv.le h) Oi O;refine Ops.q Z (aH mc mn Z a3 (eR O) ap)<|.on Z Z<|.q Z (ak uM Z Z a6 ((cQ X).trans (ep O)))<|.on Z Z<|.q Z (eo Z)<|.q Z (aL Z Z)<|.nil<|D _ _<|.ifB Z (fun az=>?_) (fun az=>?_)
 ·refine al.seq fun _ aa=>.region<|.q Z (ae Z)<|.q Z (ae Z)<|.nil<|aa _ _<|.rt (by exact aE Z (⟨by first | (rw [tU (tK ‹_›)];rfl) | (rw [tU (by rw [fb O];simpa using ‹(!live.getD _ false)=true›)];rfl) | (rw [zG (by rw [fb O];simpa using ‹(!live.getD _ false)=false›)];rfl),h,wf⟩))
 refine al.skip<|a8 _ _<|.seq fun _ ab=>.region<|.q Z (ak mj Z Z (h.get _ _ gc) Z)<|.q Z (ah Z) ?_;obtain ⟨aV,b1,aR,bu,aG,bb,b7,a4,ar,a7,aC,a0⟩:=bI.at (i:=(((N.getD (jE cls c) [])).getD x 0).toNat) (hcv.le h) Of O;refine Ops.q Z (aH eB cD Z a4 (eR O) ar)<|.q Z (ak df Z Z a7 ((cQ a0).trans (c6 O)))<|.q Z (ae Z)<|.q Z (ae Z)<|.nil<|ab _ _<|.rt (by exact aE Z (⟨by first | (rw [tU (tK ‹_›)];rfl) | (rw [tU (by rw [fb O];simpa using ‹(!live.getD _ false)=true›)];rfl) | (rw [zG (by rw [fb O];simpa using ‹(!live.getD _ false)=false›)];rfl),h,wf⟩))

theorem VD (c:Int) (bp bm km:Nat) (wm:Bool) (cls:List Int) (b:Nat) (rwb:Bool) (capb k:Nat) (av nv fv bv:Value) (acc:List Bool) (N:List (List Int)) (rows:List Value) (A:AH) (gm:A.get bm=some (.row wm [.pointer (some ⟨b,0,none⟩)] km)) (hok:DU k acc N) (hb:A.get b=some (.row rwb [num (k:Int),av,nv,fv,bv] capb)) (hav:bI A 1 av (ce acc)) (hnv:bI A 1 nv (er rows)) (hrl:rows.length=N.length) (hF:∀ i,i < N.length->bI A 1 (rows.getD i undef) (cN (N.getD i []))) (hmp:ta A bp cls) (hcl:cls.length=N.length) (hc:c ∈ cls):bz Tryz.prog 186 #[num (c),.pointer (some ⟨bm,0,none⟩),.pointer (some ⟨bp,0,none⟩)] A (fun v A1=>v=.bool (acc.getD (jE cls c) false)/\A.le A1/\A1.wf):=by
 refine uC Tryz.call186 Tryz.func186 Z Tryz.results186 Tryz.ntmps186 Z (fun wf=>?_);have h:=AH.le.refl A;obtain ⟨⟨a2,a3⟩,hal,hnl,hrow,hval⟩:=hok;obtain ⟨wp,kp,mm,w2,es,ck,E,gp,gmm,hME,hMM⟩:=hmp;have hmf:=zu hc;refine al.seq fun _ h2=>.region<|.q Z (ae Z)<|.nil<|h2 _ _<|.seq fun _ h4=>.drawn [0,1,2,3,4,5,6,7,8,9] mixed Y Y Z ?_;have V:=c5 (off:=0) (h.get _ _ gm) (show _=some (.pointer (some ⟨b,0,none⟩)) from rfl);refine bk.q Z Z Z (ak ng Z Z (h.get _ _ gm) Z)<|.q Z Z Z (cM Z)<|.q Z Z Z (aj jA iM U Z) ?_;have X:=c5 (off:=1) (h.get _ _ hb) (show _=some (av) from rfl);refine bk.q Z Z Z (ak iI Z Z (h.get _ _ hb) Z)<|.q Z Z Z (ak GW Z Z (h.get _ _ gp) Z)<|.q Z Z Z (ah Z)<|.l Z Z Z (fun _ _ a0 _=>DH Z Z Gw u3 z3 (h.get _ _ gmm) hME (hMM _ hc) ?_);refine a0 _ _ (aX.list (L:=[(⟨b,1,none⟩,av),(⟨bm,0,none⟩,.pointer (some ⟨b,0,none⟩))]) Y (bx X (bx V cO))) ?_;obtain ⟨b9,f9,a5,r9,a4,n9,k9,e9,l9,g9,a1,D⟩:=bI.at (i:=jE cls c) (hav.le h) Oi O;refine bk.q Z Z Z (aH mc mn Z e9 Z l9)<|.q Z Z Z (ak uM Z Z g9 ((cQ D).trans (ep O)))<|.q Z Z Z (ae Z)<|.done<|h4 _ _<|.rt (by exact aE Z (⟨Z,h,wf⟩))

theorem Ua (b:Nat) (rwb:Bool) (capb k:Nat) (av nv fv bv:Value) (acc:List Bool) (N:List (List Int)) (rows:List Value) (A:AH) (hok:DU k acc N) (hN:N.length<=20000) (hb:A.get b=some (.row rwb [num (k:Int),av,nv,fv,bv] capb)) (hav:bI A 1 av (ce acc)) (hnv:bI A 1 nv (er rows)) (hrl:rows.length=N.length) (hF:∀ i,i < N.length->bI A 1 (rows.getD i undef) (cN (N.getD i []))):bz Tryz.prog 147 #[.pointer (some ⟨b,0,none⟩)] A (fun v A1=>∃ av2 nv2 rows2,v=.tuple #[.agg #[num (k:Int),num ((0:Nat):Int),av2,nv2],.bool true]/\A.le A1/\A1.wf/\Fresh A A1 av2 1 (ce (yQ k acc N).1)/\Fresh A A1 nv2 1 (er rows2)/\kY A A1 rows2 (yQ k acc N).2/\bn av2 nv2/\aK av2 rows2/\aK nv2 rows2):=by
  refine enterM (e:=[(0,.pointer (some ⟨b,0,none⟩))]) (args:=[.pointer (some ⟨b,0,none⟩)]) Tryz.call147 Tryz.func147 Z Tryz.results147 Tryz.ntmps147 Z Z Z (fun wf=>?_)
  have k0:=AH.le.refl A
  have df_:Wb A A []:=⟨List.Pairwise.nil,fun _ h=>by cases h⟩
  have bU:=hok
  obtain ⟨⟨pL,dv⟩,hal,hnl,hrow,hval⟩:=hok
  refine al.seq fun K1 h2=>.region<|.l Z (fun _ _ nT _=>dP wf rfl rfl fun A5 b4 fm=>?_)
  have oB:=Nat.le_trans k0.n fm.lo
  have gS:=k0.trans fm.le
  refine nT _ _<|.l Z (fun _ _ nV _=>cm fm.wf LM rfl fun A10 b9 bu=>?_)
  have dD:=aW wf (Nat.le_trans gS.n bu.lo)
  have oF:=Nat.le_trans gS.n bu.lo
  have g6:=bu.le.get _ _ fm.get
  have dK:=gS.trans bu.le
  refine nV _ _<|.q Z (ae Z)<|.nil<|h2 _ _<|.seq fun K14 nl=>.region<|.q Z (ak ng Z Z g6 Z)<|.q Z (cM Z)<|.q Z (aj zf cD U Z)<|.q Z (ak df Z Z (dK.get _ _ hb) Z) ?_
  refine Ops.q Z (dx Z (bH Xo LM OU Z))<|.l Z (fun _ _ me _=>cm bu.wf LM rfl fun A18 ch bA=>?_)
  have ea:=ne_new bu.wf g6 bA.lo
  have ec:=ne_new bu.wf bu.get bA.lo
  have g2:=aW wf (Nat.le_trans dK.n bA.lo)
  have oa:=Nat.le_trans dK.n bA.lo
  have nn:=bA.le.get _ _ g6
  have nq:=bA.le.get _ _ bu.get
  have mB:=dK.trans bA.le
  refine me _ _<|.l Z (fun _ _ mi _=>be (cs:=[num ((k:Nat):Int),num ((0:Nat):Int),.slice none 0 0,.slice none 0 0]) (c':=[num ((k:Nat):Int),num ((0:Nat):Int),.slice none 0 0,.slice none 0 0]) bA.wf rfl rfl rfl rfl j8 bA.get (Nat.le_of_ble_eq_true rfl) rfl rfl fun A24 b6=>?_)
  have gN:=b6.keep _ _ ea nn
  have iN:=b6.keep _ _ ec nq
  have cZ:=ao mB wf g2 b6.n b6.keep
  refine mi _ _<|.nil<|nl _ _<|.seq fun K29 nB=>.region<|.q Z (ak ng Z Z gN Z)<|.q Z (cM Z)<|.q Z (aj jA iM U Z)<|.q Z (ak iI Z Z (cZ.get _ _ hb) Z)<|.q Z (bF (n:=acc.length) mc Z (hav.le cZ) O (fu _)) ?_
  refine Ops.l Z (fun _ _ ml _=>m9 (n:=acc.length) (k:=acc.length) b6.wf cZ rfl rfl mc mn z4 NF rfl (Nat.le_refl _) (by show 1 * _<=_;omega) O fun A33 a2 aD ez=>?_)
  rw [o6] at ez
  have cC:=ne_new b6.wf gN aD.lo
  have cH:=ne_new b6.wf iN aD.lo
  have c4:=ne_new b6.wf b6.get aD.lo
  have ob:=Nat.le_trans cZ.n aD.lo
  have iR:=aD.le.get _ _ gN
  have iS:=aD.le.get _ _ iN
  have iT:=aD.le.get _ _ b6.get
  have eS:=cZ.trans aD.le
  refine ml _ _<|.l Z (fun _ _ mm _=>cm aD.wf YF rfl fun A42 a4 aF=>?_)
  have cF:=ne_new aD.wf iR aF.lo
  have cK:=ne_new aD.wf iS aF.lo
  have c7:=ne_new aD.wf iT aF.lo
  have eT:=ez.own.ne_new aD.wf aF.lo
  have e6:=aW wf (Nat.le_trans eS.n aF.lo)
  have oi:=Nat.le_trans eS.n aF.lo
  have nC:=aF.le.get _ _ iR
  have nD:=aF.le.get _ _ iS
  have nE:=aF.le.get _ _ iT
  have k7:=ez.le aF.le
  have mE:=eS.trans aF.le
  refine mm _ _<|.l Z (fun _ _ mr _=>be (cs:=[.slice (some ⟨a2,0,none⟩) acc.length acc.length]) (c':=[.slice (some ⟨a2,0,none⟩) acc.length acc.length]) aF.wf rfl rfl rfl rfl iM aF.get (Nat.le_of_ble_eq_true rfl) rfl rfl fun A51 bO=>?_)
  have gP:=bO.keep _ _ cF nC
  have iV:=bO.keep _ _ cK nD
  have iX:=bO.keep _ _ c7 nE
  have fT:=k7.keep bO.keep eT
  have mI:=ao mE wf e6 bO.n bO.keep
  refine mr _ _<|.nil<|nB _ _<|.seq fun K58 nH=>.seq fun K60 nJ=>.region<|.q Z (ak ng Z Z gP Z)<|.l Z (fun _ _ ms _=>au Z (VG b A51) ?_)
  rintro q3 A64 ⟨bm,rfl,bR,e5,dw,b8⟩
  have nK:=bR.get _ _ gP
  have nL:=bR.get _ _ iV
  have nM:=bR.get _ _ iX
  have f7:=bR.get _ _ bO.get
  have fV:=fT.le bR
  have mK:=mI.trans bR
  have hrow:=dw
  have hno:=b8
  have hd:b4 ≠ bm:=fun z=>by have q0:=gP;rw [z,b8] at q0;cases q0
  have he:b9 ≠ bm:=fun z=>by have q0:=iV;rw [z,b8] at q0;cases q0
  have h0:ch ≠ bm:=fun z=>by have q0:=iX;rw [z,b8] at q0;cases q0
  have d2:a4 ≠ bm:=fun z=>by have q0:=bO.get;rw [z,b8] at q0;cases q0
  have mM:blk (.slice (some ⟨a2,0,none⟩) acc.length acc.length) ≠ some bm:=Ax fT.own b8
  refine ms _ _<|.nil<|nJ _ _<|.block ?_
  have aS:=cq.full f7 e5
  have hLM:=cd (bs:=[some a4,blk (.slice (some ⟨a2,0,none⟩) acc.length acc.length)]) mK (uD e6 (s8 fV.lo px))
  have iH:Fresh (A64.hide [some a4,blk (.slice (some ⟨a2,0,none⟩) acc.length acc.length)]) A64 (.slice (some ⟨a2,0,none⟩) acc.length acc.length) 1 (ce (List.replicate acc.length false)):=fV.hide (by simp)
  have dG:=bN (bs:=[some a4,blk (.slice (some ⟨a2,0,none⟩) acc.length acc.length)]) nK (rd (cF) (oD (fun q=>by cases q;exact cC Z) m7))
  have dI:=bN (bs:=[some a4,blk (.slice (some ⟨a2,0,none⟩) acc.length acc.length)]) nL (rd (cK) (oD (fun q=>by cases q;exact cH Z) m7))
  have cX:=bN (bs:=[some a4,blk (.slice (some ⟨a2,0,none⟩) acc.length acc.length)]) nM (rd (c7) (oD (fun q=>by cases q;exact c4 Z) m7))
  have br:=bN (bs:=[some a4,blk (.slice (some ⟨a2,0,none⟩) acc.length acc.length)]) dw (rd (d2.symm) (oD mM m7))
  generalize hM0:(A64.hide [some a4,blk (.slice (some ⟨a2,0,none⟩) acc.length acc.length)])=M at aS hLM iH dG dI cX br
  have hvI:∀ (k:Nat) (B:AH),(M.le B/\B.get a4=some (.row true [.slice (some ⟨a2,0,none⟩) acc.length acc.length] 1)/\Fresh M B (.slice (some ⟨a2,0,none⟩) acc.length acc.length) 1 (ce (ko (List.replicate acc.length false) ((gr acc N).take k))))->∃ v cap,B.get a4=some (.row true [v] cap)/\∀ b,blk v=some b->∃ o,B.get b=some o:=fun k B ⟨_,g1,f1⟩=>⟨_,1,g1,fun b hb=>f1.own.blkget hb⟩
  refine al.rangeOwnP (M:=M) a4 (gr acc N).length (fun k=>[num ((gr acc N).getD k 0)]) (fun k B=>(M.le B/\B.get a4=some (.row true [.slice (some ⟨a2,0,none⟩) acc.length acc.length] 1)/\Fresh M B (.slice (some ⟨a2,0,none⟩) acc.length acc.length) 1 (ce (ko (List.replicate acc.length false) ((gr acc N).take k))))) (fun k=>[(6,num ((gr acc N).getD k 0)),(0,.pointer (some ⟨b,0,none⟩)),(1,.pointer (some ⟨b4,0,none⟩)),(2,.pointer (some ⟨b9,0,none⟩)),(15,.pointer (some ⟨b,0,none⟩)),(16,.pointer (some ⟨b,0,none⟩)),(17,.pointer (some ⟨b,0,none⟩)),(4,.pointer (some ⟨ch,0,none⟩)),(20,.pointer (some ⟨b,0,none⟩)),(21,.pointer (some ⟨b,0,none⟩)),(22,.pointer (some ⟨b,1,none⟩)),(5,.pointer (some ⟨a4,0,none⟩)),(26,.pointer (some ⟨b,0,none⟩))]) Z Tryz.call199 (fun _=>rfl) U (e5 _ _ f7) aS ?_ hvI ?_ ?_ ?_ ?_ ?_
  · rintro k B B2 ⟨i1,g1,f1⟩ dz o1 hk
    exact ⟨⟨Nat.le_trans i1.n o1,fun b o h=>hk b o (.inl (Nat.lt_of_lt_of_le (aS.wf b o h) aS.le.n)) (i1.get _ _ h)⟩,hk _ _ (.inr (.inl rfl)) g1,f1.owk (fun b o hb h=>hk b o (.inr (.inr ⟨_,1,g1,hb⟩)) h)⟩
  · exact ⟨aS.le,f7,by rw [List.take_zero];exact iH⟩
  · intro oj J2 B M4 hnB hleB wfB e7 hJI ma eA hyd
    obtain ⟨_,gq,fq⟩:=hJI 0 B eA
    have s3:M.le (B.hide [some a4,blk (.slice (some ⟨a2,0,none⟩) acc.length acc.length)]):=cd (hJI 0 B eA).1 (fun b hb=>by simp only [List.mem_cons,List.not_mem_nil,or_false,Option.some.injEq] at hb;rcases hb with rfl | hb;exact aS.ow _ (.inl Z);exact fq.lo b hb.symm)
    exact (Uf a4 oj J2 b rwb capb k av nv fv bv acc N rows _ B bm _ _ (cq.full gq wfB) eA (s3.get _ _ br) bU (s3.get _ _ (hLM.get _ _ hb)) ((hav.le hLM).le s3) ((hnv.le hLM).le s3) hrl (fun i hi=>((hF i hi).le hLM).le s3) (fun i C C2 j1 j2 j3 j4=>ma i C C2 j1 j2 j3 j4) (fun i C j1=>hvI i C (hJI i C j1)) (fun k C M2=>hyd k C M2)).mono (fun v C h=>⟨h.1,h.2.1,h.2.2.mono (e7.sub gq) e7.wf⟩)
  · intro F k B hF_ hk_
    refine eh.wf fun wfB_=>?_
    have hF:=hF_
    refine eh.region hF (by repeat' first | with_reducible exact iK | with_reducible apply pU | with_reducible apply ln) Y<|.q Z (ae Z)<|.nil ?_
    exact ⟨am.cons Z<|am.cons Z<|am.cons Z<|am.cons Z<|am.cons Z<|am.cons Z<|am.cons Z<|am.cons Z<|am.cons Z<|am.cons Z<|am.cons Z<|am.cons Z<|am.cons Z<|am.nil _,Z,AH.le.refl _,wfB_⟩
  · rintro F k B M4 hF hk_ ⟨i1,g1,f1⟩ wfB hnB e7
    have s3:M.le (B.hide [some a4,blk (.slice (some ⟨a2,0,none⟩) acc.length acc.length)]):=cd i1 (fun b hb=>by simp only [List.mem_cons,List.not_mem_nil,or_false,Option.some.injEq] at hb;rcases hb with rfl | hb;exact aS.ow _ (.inl Z);exact f1.lo b hb.symm)
    have s4:=e7.sub g1
    have leX:=cz B [some a4,blk (.slice (some ⟨a2,0,none⟩) acc.length acc.length)]
    have wfX:(B.hide [some a4,blk (.slice (some ⟨a2,0,none⟩) acc.length acc.length)]).wf:=cg wfB
    have noX:(B.hide [some a4,blk (.slice (some ⟨a2,0,none⟩) acc.length acc.length)]).get a4=none:=cn (by simp)
    have fX:Fresh (B.hide [some a4,blk (.slice (some ⟨a2,0,none⟩) acc.length acc.length)]) B (.slice (some ⟨a2,0,none⟩) acc.length acc.length) 1 (ce (ko (List.replicate acc.length false) ((gr acc N).take k))):=f1.hide (by simp)
    have hlr:=Ca hal _ (bi (d:=(0:Int)) hk_)
    have hml:(ko (List.replicate acc.length false) ((gr acc N).take k)).length=acc.length:=by rw [nw];simp
    generalize hMX:B.hide [some a4,blk (.slice (some ⟨a2,0,none⟩) acc.length acc.length)]=MX at s3 s4 leX wfX noX fX
    refine eh.block<|.region hF (by repeat' first | with_reducible exact iK | with_reducible apply pU | with_reducible apply ln) Y<|.q Z (ak iI Z Z g1 Z)<|.q Z (ah Z) ?_
    obtain ⟨pE,pS,pI,oy,pj,iF,jX,nj,q4,ok,q2,o2⟩:=fX.at1 (x:=((gr acc N).getD k 0).toNat) Oi
    rw [bG] at jX
    refine Ops.q Z (aH mc mn Z iF (eR O) (by rw [jX];omega))<|.l Z (fun _ _ mt _=>be (off:=((gr acc N).getD k 0).toNat) (c':=oy.set (((gr acc N).getD k 0).toNat) (.bool (true))) wfB rfl (by simp) rfl rfl mn nj (by show (((gr acc N).getD k 0).toNat) + 1<=_;omega) rfl rfl fun A75 d3=>?_)
    have jn:=d3.keep _ _ (fun q=>eT (by rw [iF];exact congrArg some q.symm)) g1
    have g0:=o2 (.bool (true)) A75 d3
    rw [li] at g0
    have gX:=ao leX wfX ok d3.n d3.keep
    refine mt _ _<|.nil ?_
    have fe:=cy g0 (congrArg ce (J9 hk_))
    exact ⟨⟨s3.trans gX,jn,fe.base s3⟩,d3.wf,cq.mono ⟨gX,wfX,fun b hb=>by rcases hb.val jn with rfl | q;exact noX;exact fe.lo b q⟩ s4 e7.wf⟩
  · rintro B D0 ⟨i1,g1,f1⟩ wfB hnD hnB gD hoD hPM
    have leB:=hLM.trans i1
    obtain ⟨LV,hLV⟩:∃ LV,LV=iW acc N:=⟨_,rfl⟩
    have frB:=cy (f1.base hLM) (congrArg ce (show ko (List.replicate acc.length false) ((gr acc N).take (gr acc N).length)=LV by rw [List.take_length,hLV];exact J8 hal))
    have hlfl:LV.length=acc.length:=by rw [hLV];exact J6
    have bY:=i1.get _ _ dG
    have cS:=i1.get _ _ dI
    have bV:=i1.get _ _ cX
    have eL:=i1.get _ _ br
    have hlA:A.n<=D0:=Nat.le_trans hLM.n (Nat.le_trans aS.le.n hnD)
    have mL:D0 ≠ b4:=by have:=aS.wf _ _ dG;have:=aS.le.n;omega
    have aG:D0 ≠ b9:=by have:=aS.wf _ _ dI;have:=aS.le.n;omega
    have k1:D0 ≠ ch:=by have:=aS.wf _ _ cX;have:=aS.le.n;omega
    have k2:D0 ≠ a4:=by have:=e5 _ _ f7;omega
    have ha:D0 ≠ bm:=by have:=aS.wf _ _ br;have:=aS.le.n;omega
    have nvD:blk (.slice (some ⟨a2,0,none⟩) acc.length acc.length) ≠ some D0:=fun q=>hoD (.inr ⟨_,_,g1,q⟩)
    refine nH _ _<|.seq fun K80 nN=>.seq fun K82 jN=>.region<|.q Z (ak iI Z Z g1 Z)<|.q Z (bF (n:=LV.length) mc Z frB.slc O (fu _))<|.q Z (iC (b:=0) Z Z)<|.q Z (ah Z)<|.part (t:=35) Z (fun ov=>?_) (fun ov=>?_)
    ·
      refine Ops.off Z Z Z Z<|.off Z Z Z Z<|.off Z Z Z Z<|.off Z Z Z Z<|.q Z (aJ Z Z)<|.nil<|jN _ _<|.cond_true Z<|.seq fun K85 nO=>.region ?_
      refine Ops.q Z (an qZ j8 Z Z bV Z)<|.l Z (fun _ _ mv _=>be (cs:=[num ((k:Nat):Int),num ((0:Nat):Int),.slice none 0 0,.slice none 0 0]) (c':=[num ((k:Nat):Int),num ((0:Nat):Int),.slice none 0 0,.slice none 0 0]) wfB rfl rfl rfl rfl j8 cS (Nat.le_of_ble_eq_true rfl) rfl rfl fun A88 e4=>?_)
      have nQ:=e4.keep _ _ aG gD
      have gY:=ao leB wf dD e4.n e4.keep
      refine mv _ _<|.q Z (ae Z)<|.nil<|nO _ _<|.ret ?_
      (repeat first | with_reducible refine bw ?_ | with_reducible refine bj ?_);(repeat first | with_reducible refine fc ?_ | with_reducible refine eu ?_ | with_reducible refine dY U ?_ | with_reducible refine d4 ?_ | with_reducible refine db ?_);have cA:LV.getD 0 false=false:=(by first | assumption | exact yb Oj | simpa using ‹(!LV.getD 0 false)=true›);refine ⟨[D0],rfl,(by simp),(fun E hE=>by rw [List.mem_singleton] at hE;subst hE;exact nQ),[.agg #[num ((k:Nat):Int),num ((0:Nat):Int),.slice none 0 0,.slice none 0 0],.bool (true)],fun A2 dz e9 dv=>?_⟩;have hkD:∀ b o,b ≠ D0->A88.get b=some o->A2.get b=some o:=fun b o hb h=>dv b o (by simpa using hb) h;exact ⟨fa qZ j8 Z (hkD _ _ aG.symm e4.get) Z (fC Z gz),⟨_,Z,_,_,[],Z,⟨by rw [e9];exact gY.n,fun b o h=>hkD b o (by have:=wf _ _ h;omega) (gY.get _ _ h)⟩,dz,cy (Fresh.nil _ _ _) (congrArg ce (show []=_ from by rw [uR (by rw [<- hLV];exact cA)])),Fresh.nil _ _ _,m4 kY.nil (by rw [uR (by rw [<- hLV];exact cA)]),bn.nil,aK.nil,aK.nil⟩⟩
    ·
      refine Ops.on Z Z<|.q Z (ak iI Z Z g1 Z)<|.on Z Z ?_
      obtain ⟨pF,pJ,pp,q1,pl,pV,pP,nc,o3,nk,p0,k3⟩:=bI.at (i:=0) frB.slc Oi O
      refine Ops.q Z (aH mc mn Z nc Z o3)<|.on Z Z<|.q Z (ak uM Z Z nk ((cQ k3).trans (ep O)))<|.on Z Z<|.q Z (eo Z)<|.q Z (aL Z Z)<|.nil<|jN _ _<|.ifB Z (fun ox=>?_) (fun ox=>?_)
      ·
        refine al.seq fun K99 kc=>.region<|.q Z (an qZ j8 Z Z bV Z)<|.l Z (fun _ _ hy _=>be (cs:=[num ((k:Nat):Int),num ((0:Nat):Int),.slice none 0 0,.slice none 0 0]) (c':=[num ((k:Nat):Int),num ((0:Nat):Int),.slice none 0 0,.slice none 0 0]) wfB rfl rfl rfl rfl j8 cS (Nat.le_of_ble_eq_true rfl) rfl rfl fun A102 cV=>?_)
        have kl:=cV.keep _ _ aG gD
        have fd:=ao leB wf dD cV.n cV.keep
        refine hy _ _<|.q Z (ae Z)<|.nil<|kc _ _<|.ret ?_
        (repeat first | with_reducible refine bw ?_ | with_reducible refine bj ?_);(repeat first | with_reducible refine fc ?_ | with_reducible refine eu ?_ | with_reducible refine dY U ?_ | with_reducible refine d4 ?_ | with_reducible refine db ?_);have cA:LV.getD 0 false=false:=(by first | assumption | exact yb Oj | simpa using ‹(!LV.getD 0 false)=true›);refine ⟨[D0],rfl,(by simp),(fun E hE=>by rw [List.mem_singleton] at hE;subst hE;exact kl),[.agg #[num ((k:Nat):Int),num ((0:Nat):Int),.slice none 0 0,.slice none 0 0],.bool (true)],fun A2 dz e9 dv=>?_⟩;have hkD:∀ b o,b ≠ D0->A102.get b=some o->A2.get b=some o:=fun b o hb h=>dv b o (by simpa using hb) h;exact ⟨fa qZ j8 Z (hkD _ _ aG.symm cV.get) Z (fC Z gz),⟨_,Z,_,_,[],Z,⟨by rw [e9];exact fd.n,fun b o h=>hkD b o (by have:=wf _ _ h;omega) (fd.get _ _ h)⟩,dz,cy (Fresh.nil _ _ _) (congrArg ce (show []=_ from by rw [uR (by rw [<- hLV];exact cA)])),Fresh.nil _ _ _,m4 kY.nil (by rw [uR (by rw [<- hLV];exact cA)]),bn.nil,aK.nil,aK.nil⟩⟩
      ·
        refine al.skip<|nN _ _<|.seq fun K111 km=>?_
        have hpos:0 < acc.length:=by rw [<- hlfl];exact Nat.pos_of_ne_zero ‹¬ LV.length=0›
        refine al.region<|.q Z (ak ng Z Z bY Z)<|.q Z (cM Z)<|.q Z (aj jA iM U Z)<|.q Z (ak iI Z Z (leB.get _ _ hb) Z)<|.q Z (bF (n:=acc.length) mc Z (hav.le leB) O (fu _))<|.q Z (mD Z Z)<|.q Z (mD Z Z) ?_
        have eG:LV.length=N.length:=by rw [hlfl,hal]
        refine Ops.l Z (fun _ _ hz _=>au Z (KW acc.length 182 183 #[.pointer (some ⟨a4,0,none⟩),.pointer (some ⟨b4,0,none⟩)] #[.pointer (some ⟨a4,0,none⟩),.pointer (some ⟨b4,0,none⟩)] (VO acc LV) (pr LV N) B O (fun i B hi le wfB=>VA i a4 b4 _ _ _ _ (.slice (some ⟨a2,0,none⟩) acc.length acc.length) LV b rwb capb k av nv fv bv acc N rows B (le.get _ _ g1) (le.get _ _ bY) (frB.slc.le le) eG bU ((leB.trans le).get _ _ hb) (hav.le (leB.trans le)) (hnv.le (leB.trans le)) hrl (fun i hi=>(hF i hi).le (leB.trans le)) O) (fun cls cv i B hcv h1 h2 hi le wfB=>VB i cls cv a4 b4 _ _ _ _ (.slice (some ⟨a2,0,none⟩) acc.length acc.length) LV b rwb capb k av nv fv bv acc N rows B (le.get _ _ g1) (le.get _ _ bY) (frB.slc.le le) eG bU ((leB.trans le).get _ _ hb) (hav.le (leB.trans le)) (hnv.le (leB.trans le)) hrl (fun i hi=>(hF i hi).le (leB.trans le)) O hcv O (by rw [<- hal];exact h2)) (Ah LV acc.length) (Jz _ (fun i hi h=>N8 i hi (by rw [<- hLV];exact h))) (fun cls _ _=>JA _ cls) (fun cls h1 h2 h3 i j hi hj h=>RO (N:=N) O _ cls h1 h2 h3 i j hi hj h)) ?_)
        rintro pv A115 ⟨aR,aB,b7⟩
        have g3:=aR.get _ _ bY
        have g4:=aR.get _ _ cS
        have g5:=aR.get _ _ bV
        have g7:=aR.get _ _ g1
        have g8:=aR.get _ _ eL
        have g9:=aR.get _ _ gD
        have eY:=frB.le aR
        have dJ:=leB.trans aR
        have eZ:=b7.base leB
        have hT:=b7.ne wfB bY
        have hU:=b7.ne wfB cS
        have hV:=b7.ne wfB bV
        have hW:=b7.ne wfB g1
        have hX:=b7.ne wfB gD
        refine hz _ _<|.l Z (fun _ _ hA _=>cm aB LX rfl fun A134 bS a3=>?_)
        have dW:=ne_new aB g3 a3.lo
        have e1:=ne_new aB g4 a3.lo
        have dd:=ne_new aB g5 a3.lo
        have dk:=ne_new aB g7 a3.lo
        have cP:=ne_new aB g8 a3.lo
        have dO:=ne_new aB g9 a3.lo
        have fn:=eY.own.ne_new aB a3.lo
        have fo:=eZ.own.ne_new aB a3.lo
        have fD:=aW wf (Nat.le_trans dJ.n a3.lo)
        have n4:=Nat.le_trans dJ.n a3.lo
        have kp:=a3.le.get _ _ g3
        have kv:=a3.le.get _ _ g4
        have kA:=a3.le.get _ _ g5
        have kC:=a3.le.get _ _ g7
        have kD:=a3.le.get _ _ g8
        have kK:=a3.le.get _ _ g9
        have ho:=eY.le a3.le
        have f0:=eZ.le a3.le
        have hM:=dJ.trans a3.le
        refine hA _ _ ?_
        obtain ⟨aA,ay,ar,mT,_⟩:=f0.own.slice
        subst mT
        refine Ops.l Z (fun _ _ hB _=>be (cs:=[.slice aA ay ar]) (c':=[.slice aA ay ar]) a3.wf rfl rfl rfl rfl fP a3.get (Nat.le_of_ble_eq_true rfl) rfl rfl fun A149 a1=>?_)
        have gc:=a1.keep _ _ dW kp
        have ge:=a1.keep _ _ e1 kv
        have gf:=a1.keep _ _ dd kA
        have gg:=a1.keep _ _ dk kC
        have gl:=a1.keep _ _ cP kD
        have gm:=a1.keep _ _ dO kK
        have f2:=ho.keep a1.keep fn
        have hp:=f0.keep a1.keep fo
        have dL:=ao hM wf fD a1.n a1.keep
        refine hB _ _<|.nil ?_
        obtain ⟨CL,hCL⟩:∃ CL,CL=yU acc (iW acc N) N:=⟨_,rfl⟩
        have f3:=cy hp (congrArg cN (show AM acc.length (VO acc LV) (pr LV N)=CL by rw [hCL,hLV,hal];rfl))
        obtain ⟨eC,mb⟩:CL.length=N.length/\∀ c ∈ CL,0<=c/\c < (N.length:Int):=by rw [hCL];exact Ic
        refine km _ _<|.seq fun K161 kL=>.region<|.l Z (fun _ _ hC _=>nW a1.wf fun A165 bT D=>?_)
        have dZ:=ne_new a1.wf gc D.lo
        have e2:=ne_new a1.wf ge D.lo
        have di:=ne_new a1.wf gf D.lo
        have dl:=ne_new a1.wf gg D.lo
        have fR:=ne_new a1.wf gl D.lo
        have dS:=ne_new a1.wf gm D.lo
        have d0:=ne_new a1.wf a1.get D.lo
        have hY:=f2.own.ne_new a1.wf D.lo
        have hZ:=f3.own.ne_new a1.wf D.lo
        have fE:=aW wf (Nat.le_trans dL.n D.lo)
        have n6:=Nat.le_trans dL.n D.lo
        have gp:=D.le.get _ _ gc
        have gs:=D.le.get _ _ ge
        have gA:=D.le.get _ _ gf
        have gC:=D.le.get _ _ gg
        have kM:=D.le.get _ _ gl
        have gE:=D.le.get _ _ gm
        have gF:=D.le.get _ _ a1.get
        have f4:=f2.le D.le
        have f5:=f3.le D.le
        have dM:=dL.trans D.le
        refine hC _ _<|.l Z (fun _ _ hD _=>cm D.wf Yj rfl fun A181 b5 a0=>?_)
        have e0:=ne_new D.wf gp a0.lo
        have e3:=ne_new D.wf gs a0.lo
        have dj:=ne_new D.wf gA a0.lo
        have dm:=ne_new D.wf gC a0.lo
        have fS:=ne_new D.wf kM a0.lo
        have dV:=ne_new D.wf gE a0.lo
        have d1:=ne_new D.wf gF a0.lo
        have bM:=ne_new D.wf D.get a0.lo
        have fr:=f4.own.ne_new D.wf a0.lo
        have ft:=f5.own.ne_new D.wf a0.lo
        have fI:=aW wf (Nat.le_trans dM.n a0.lo)
        have n7:=Nat.le_trans dM.n a0.lo
        have kP:=a0.le.get _ _ gp
        have kT:=a0.le.get _ _ gs
        have kV:=a0.le.get _ _ gA
        have l0:=a0.le.get _ _ gC
        have l1:=a0.le.get _ _ gE
        have l2:=a0.le.get _ _ gF
        have l3:=a0.le.get _ _ D.get
        have hr:=f4.le a0.le
        have hs:=f5.le a0.le
        have hO:=dM.trans a0.le
        refine hD _ _<|.l Z (fun _ _ hG _=>be (cs:=[.map (some bT)]) (c':=[.map (some bT)]) a0.wf rfl rfl rfl rfl Xg a0.get (Nat.le_of_ble_eq_true rfl) rfl rfl fun A197 ac=>?_)
        have l4:=ac.keep _ _ e0 kP
        have l6:=ac.keep _ _ e3 kT
        have l7:=ac.keep _ _ dj kV
        have l9:=ac.keep _ _ dm l0
        have la:=ac.keep _ _ dV l1
        have gG:=ac.keep _ _ d1 l2
        have lb:=ac.keep _ _ bM l3
        have ht:=hr.keep ac.keep fr
        have f6:=hs.keep ac.keep ft
        have hP:=ao hO wf fI ac.n ac.keep
        refine hG _ _<|.nil<|kL _ _<|.seq fun K210 lc=>.seq fun K212 lp=>.region<|.q Z (ak mj Z Z gG Z)<|.q Z (bF (n:=CL.length) eB Z f6.slc O (eD _))<|.q Z (ah Z)<|.nil ?_
        refine lp _ _<|.block<|.loopD (X:=Nat × List (Int × Value) × Array MapEntry × Nat) (fun ⟨i,E,es,ck⟩=>[(1,.pointer (some ⟨b4,0,none⟩)),(2,.pointer (some ⟨b9,0,none⟩)),(4,.pointer (some ⟨ch,0,none⟩)),(5,.pointer (some ⟨a4,0,none⟩)),(7,.pointer (some ⟨bS,0,none⟩)),(8,.pointer (some ⟨b5,0,none⟩)),(51,.slice aA ay ar),(52,num ((CL.length:Nat):Int)),(53,num ((i:Nat):Int))]) (fun ⟨i,E,es,ck⟩=>[V.mark D0]) (fun ⟨i,E,es,ck⟩ B=>(i<=CL.length/\dh num es E/\qW CL i E)/\A.le B/\Fresh A B (.slice (some ⟨a2,0,none⟩) acc.length acc.length) 1 (ce LV)/\Fresh A B (.slice aA ay ar) 1 (cN CL)/\B.get bT=some (.obj true (.map es ck))/\B.get D0=some (.obj true (.deferred (some [])))/\B.get b4=some (.row true [.pointer (some ⟨b,0,none⟩)] 1)/\B.get b9=some (.row true [num ((0:Nat):Int),num ((0:Nat):Int),.slice none 0 0,.slice none 0 0] 4)/\B.get ch=some (.row true [num ((k:Nat):Int),num ((0:Nat):Int),.slice none 0 0,.slice none 0 0] 4)/\B.get a4=some (.row true [.slice (some ⟨a2,0,none⟩) acc.length acc.length] 1)/\B.get bS=some (.row true [.slice aA ay ar] 1)/\B.get b5=some (.row true [.map (some bT)] 1)/\V.blk (.slice (some ⟨a2,0,none⟩) acc.length acc.length) ≠ some bT/\V.blk (.slice aA ay ar) ≠ some bT/\V.blk (.slice (some ⟨a2,0,none⟩) acc.length acc.length) ≠ some D0/\V.blk (.slice aA ay ar) ≠ some D0/\V.blk (.slice (some ⟨a2,0,none⟩) acc.length acc.length) ≠ some b4/\V.blk (.slice aA ay ar) ≠ some b4/\V.blk (.slice (some ⟨a2,0,none⟩) acc.length acc.length) ≠ some b9/\V.blk (.slice aA ay ar) ≠ some b9/\V.blk (.slice (some ⟨a2,0,none⟩) acc.length acc.length) ≠ some ch/\V.blk (.slice aA ay ar) ≠ some ch/\V.blk (.slice (some ⟨a2,0,none⟩) acc.length acc.length) ≠ some a4/\V.blk (.slice aA ay ar) ≠ some a4/\V.blk (.slice (some ⟨a2,0,none⟩) acc.length acc.length) ≠ some bS/\V.blk (.slice aA ay ar) ≠ some bS/\V.blk (.slice (some ⟨a2,0,none⟩) acc.length acc.length) ≠ some b5/\V.blk (.slice aA ay ar) ≠ some b5) (fun ⟨i,E,es,ck⟩=>CL.length - i) (⟨0,[],#[],0⟩) (UZ Z Z Z Z Z Z Z Z Z) Z (⟨⟨Nat.zero_le _,dh.nil,qW.start⟩,hP,ht,f6,lb,la,l4,l6,l7,l9,gG,ac.get,hY,hZ,nvD,hX,(fun q=>by cases q;exact cC rfl),hT,(fun q=>by cases q;exact cH rfl),hU,(fun q=>by cases q;exact c4 Z),hV,eT,hW,fn,fo,fr,ft⟩) ?_
        rintro ⟨i,E,es,ck⟩ B215 ⟨⟨hi,hme,hmi⟩,a5,bp,ab,aa,ag,a7,ai,aZ,aP,a9,a6,az,ap,bC,bc,bD,bd,bL,bl,ba,b2,bb,b3,b0,aT,b1,aV⟩
        refine al.wf fun cc=>.seq fun K217 lt=>.region<|.q Z (bX Z Z)<|.nil<|lt _ _<|.seq fun K219 lw=>.if rfl (fun mR=>?_) (fun mR=>?_)
        ·
          refine al.skip<|lw _ _<|.seq fun K222 gL=>.block<|.seq fun K224 lA=>.region<|.q Z (ah Z) ?_
          obtain ⟨oY,p5,oV,pf,oR,pa,p8,k4,mx,k9,oz,hg⟩:=bI.at (i:=i) ab.slc Of O
          refine Ops.q Z (aH eB cD Z k4 Z mx)<|.q Z (ak df Z Z k9 ((cQ hg).trans (c6 O)))<|.q Z (ae Z)<|.q Z (ae Z)<|.nil<|lA _ _<|.seq fun K227 gM=>.region<|.q Z (ak GW Z Z a6 Z)<|.q Z (ah Z) ?_
          refine Ops.l Z (fun _ _ f9 _=>xd (k:=(CL.getD i 0)) tD Z Z Gw u3 z3 aa hme (fun oX hL=>?_) (fun hK=>?_))
          ·
            refine f9 _ _<|.q Z (ah Z)<|.q Z (aQ Z Z)<|.q Z (aQ Z Z)<|.q Z (ae Z)<|.q Z (ae Z)<|.nil<|gM _ _<|.seq fun K233 lB=>.region ?_
            refine Ops.q Z (ah Z)<|.q Z (eo Z)<|.nil<|lB _ _<|.cond_false Z<|.skip<|gL _ _<|.region<|.q Z (bE (b:=1) Z Z O)<|.q Z (ah Z) ?_
            refine Ops.nil ?_
            exact ⟨⟨i + 1,E,es,ck⟩,UZ Z Z Z Z Z Z Z Z Z,Z,⟨⟨by omega,hme,hmi.old O (hmi.in_ hL)⟩,a5,bp,ab,aa,ag,a7,ai,aZ,aP,a9,a6,az,ap,bC,bc,bD,bd,bL,bl,ba,b2,bb,b3,b0,aT,b1,aV⟩,O1⟩
          ·
            refine f9 _ _<|.q Z (ah Z)<|.q Z (aQ Z Z)<|.q Z (aQ Z Z)<|.q Z (ae Z)<|.q Z (ae Z)<|.nil<|gM _ _<|.seq fun K235 lC=>.region ?_
            refine Ops.q Z (ah Z)<|.q Z (eo Z)<|.nil<|lC _ _<|.cond_true Z<|.region<|.q Z (ak GW Z Z a6 Z)<|.q Z (ah Z)<|.q Z (ah Z)<|.l Z (fun _ _ hH _=>o4 (k:=(CL.getD i 0)) tD cc rfl rfl rfl Gw u3 aa hme hmi.nd fun A238 hl hf ad hS=>?_)
            have lE:=ad.keep _ _ dS ag
            have lF:=ad.keep _ _ dZ a7
            have lK:=ad.keep _ _ e2 ai
            have lO:=ad.keep _ _ di aZ
            have lP:=ad.keep _ _ dl aP
            have lT:=ad.keep _ _ d0 a9
            have lV:=ad.keep _ _ bM.symm a6
            have hu:=bp.keep ad.keep az
            have hv:=ab.keep ad.keep ap
            have hR:=ao a5 wf fE ad.n ad.keep
            refine hH _ _<|.nil<|gL _ _<|.region<|.q Z (bE (b:=1) Z Z O)<|.q Z (ah Z)<|.nil ?_
            exact ⟨⟨i + 1,yF E (CL.getD i 0) (num ((i:Nat):Int)),hl,hf⟩,UZ Z Z Z Z Z Z Z Z Z,Z,⟨⟨by omega,hS,hmi.new O (hmi.no_ hK)⟩,hR,hu,hv,ad.get,lE,lF,lK,lO,lP,lT,lV,az,ap,bC,bc,bD,bd,bL,bl,ba,b2,bb,b3,b0,aT,b1,aV⟩,O1⟩
        ·
          refine al.exit<|lc _ _<|.seq fun K253 lW=>.drawn [0,1,2,3,4,5,6,7,8,9,10,11,12,13,14] mixed Y Y Z<|.q Z Z Z (ak ng Z Z a7 Z)<|.q Z Z Z (cM Z)<|.q Z Z Z (aj zf cD U Z)<|.q Z Z Z (ak df Z Z (a5.get _ _ hb) Z)<|.q Z Z Z (ak mj Z Z a9 Z) ?_
          obtain ⟨oZ,p6,oW,pi,oS,pe,p9,k6,mA,ka,oA,hh⟩:=bI.at (i:=0) ab.slc Of O
          refine bk.q Z Z Z (aH eB cD Z k6 Z mA)<|.q Z Z Z (ak df Z Z ka ((cQ hh).trans (c6 O)))<|.q Z Z Z (mD Z Z)<|.q Z Z Z (mD Z Z) ?_
          have gQ:ta B215 b5 CL:=⟨_,_,_,_,_,_,E,a6,aa,hme,hmi.all O⟩
          refine bk.l Z Z Z (fun _ _ hI _=>au Z (yy k 20001 N.length (N.length + 1) ((CL.getD 0 0)) 185 186 #[.pointer (some ⟨b4,0,none⟩),.pointer (some ⟨b5,0,none⟩),.pointer (some ⟨a4,0,none⟩),.pointer (some ⟨bS,0,none⟩)] #[.pointer (some ⟨b4,0,none⟩),.pointer (some ⟨b5,0,none⟩)] (jI LV N CL) (fun c=>acc.getD (jE CL c) false) (fun q=>q ∈ CL) B215 O ⟨by omega,by omega,by omega⟩ (bi O) (fun q c t=>Pm (lv:=LV) bU eC q c t) (fun Q hn hQ=>uo hn (fun q hq=>mb q (hQ q hq))) (fun q c B hq hc le wfB=>VC q c b5 bS _ _ (.slice aA ay ar) CL a4 b4 _ _ _ _ (.slice (some ⟨a2,0,none⟩) acc.length acc.length) LV b rwb capb k av nv fv bv acc N rows B (le.get _ _ aP) (le.get _ _ a7) (bp.slc.le le) eG bU ((a5.trans le).get _ _ hb) (hav.le (a5.trans le)) (hnv.le (a5.trans le)) hrl (fun i hi=>(hF i hi).le (a5.trans le)) (gQ.le le) (le.get _ _ a9) (ab.slc.le le) eC hq hc) (fun q B hq le wfB=>VD q b5 b4 _ _ CL b rwb capb k av nv fv bv acc N rows B (le.get _ _ a7) bU ((a5.trans le).get _ _ hb) (hav.le (a5.trans le)) (hnv.le (a5.trans le)) hrl (fun i hi=>(hF i hi).le (a5.trans le)) (gQ.le le) eC hq)) ?_)
          rintro pA A262 ⟨aI,n1,n9,n3,n2,nb,rfl,c3,h6,cf,aC,aY,bP,a8,h7,h8,h9,eg,en,ev⟩
          have lX:=c3.get _ _ ag
          have lY:=c3.get _ _ a7
          have lZ:=c3.get _ _ ai
          have fi:=a5.trans c3
          have xr:=cf
          have xn:=aC
          have xa:=aY
          have xv:=bP
          have xf:=a8
          have y1:=h7
          have y2:=h8
          have y3:=h9
          have y4:=eg
          have y5:=en
          have y6:=ev
          have hEX:fW k (jI LV N CL) (N.length + 1) 0 [CL.getD 0 0] []=Ee k acc N:=by rw [hLV,hCL];rfl
          rw [hEX] at aY a8
          have fM:bT ≠ aI:=fun z=>by have q0:=aa;rw [z,aC] at q0;cases q0
          have gZ:D0 ≠ aI:=fun z=>by have q0:=ag;rw [z,aC] at q0;cases q0
          have h4:b4 ≠ aI:=fun z=>by have q0:=a7;rw [z,aC] at q0;cases q0
          have h5:b9 ≠ aI:=fun z=>by have q0:=ai;rw [z,aC] at q0;cases q0
          have fO:ch ≠ aI:=fun z=>by have q0:=aZ;rw [z,aC] at q0;cases q0
          have fQ:a4 ≠ aI:=fun z=>by have q0:=aP;rw [z,aC] at q0;cases q0
          have fL:bS ≠ aI:=fun z=>by have q0:=a9;rw [z,aC] at q0;cases q0
          have fN:b5 ≠ aI:=fun z=>by have q0:=a6;rw [z,aC] at q0;cases q0
          have oI:=a8.ne aa
          have i2:=aY.ne cc ag
          have ih:=bP.ne cc ag
          have iv:=a8.ne ag
          have oJ:=a8.ne a7
          have ir:=aY.ne cc ai
          have it:=bP.ne cc ai
          have iD:=a8.ne ai
          have oK:=a8.ne aZ
          have oN:=a8.ne aP
          have oP:=a8.ne a9
          have oQ:=a8.ne a6
          have hxl:=MC bU O
          refine hI _ _ (aX.none Y)<|.q Z Z Z (ah Z)<|.q Z Z Z (aQ Z Z)<|.q Z Z Z (aQ Z Z)<|.q Z Z Z (ae Z)<|.q Z Z Z (ae Z)<|.done<|lW _ _<|.seq fun K303 m1=>.seq fun K305 m2=>?_
          refine al.region<|.q Z (ah Z)<|.q Z (eo Z)<|.q Z (ah Z)<|.on Z Z<|.q Z (ah Z)<|.on Z Z<|.q Z (cM Z)<|.on Z Z<|.q Z (aj jA iM U Z) ?_
          refine Ops.on Z Z<|.q Z (ak iI Z Z cf Z)<|.on Z Z<|.q Z (bF (n:=((Ee k acc N).1.map (fun c=>acc.getD (jE CL c) false)).length) mc Z (aY.base a5).slc O (fu _))<|.on Z Z<|.q Z (d8 (b:=20000) Z Z)<|.q Z (aL Z Z)<|.nil<|m2 _ _<|.if rfl (fun mS=>?_) (fun mS=>?_)
          ·
            refine al.seq fun K308 p7=>?_
            exfalso;have:=hxl;simp only [List.length_map] at *;omega
          ·
            refine al.skip<|m1 _ _<|.seq fun K310 m3=>.drawn [0,1,2,3,4,5,6,7,8,9,10,11,12,13,14] mixed Y Y Z<|.q Z Z Z (ak ng Z Z lY Z)<|.q Z Z Z (cM Z)<|.q Z Z Z (aj zf cD U Z)<|.q Z Z Z (ak df Z Z (fi.get _ _ hb) Z)<|.q Z Z Z (ah Z)<|.q Z Z Z (cM Z) ?_
            refine bk.q Z Z Z (aj jA iM U Z)<|.q Z Z Z (ak iI Z Z cf Z)<|.q Z Z Z (ah Z)<|.q Z Z Z (cM Z)<|.q Z Z Z (aj qE i6 U Z)<|.q Z Z Z (ak ki Z Z cf Z) ?_
            obtain ⟨eV,eN,ex,mV,_⟩:=(aY.base a5).own.slice
            subst mV
            obtain ⟨eX,eQ,ey,mX,_⟩:=(bP.base a5).own.slice
            subst mX
            refine bk.q Z Z Z (dx Z (bH Xo LM OU Z))<|.l Z Z Z (fun _ _ hJ _=>be (cs:=[num ((k:Nat):Int),num ((0:Nat):Int),.slice eV eN ex,.slice eX eQ ey]) (c':=[num ((k:Nat):Int),num ((0:Nat):Int),.slice eV eN ex,.slice eX eQ ey]) h6 rfl rfl rfl rfl j8 lZ (Nat.le_of_ble_eq_true rfl) rfl rfl fun A319 bB=>?_)
            have m6:=bB.keep _ _ aG lX
            have hw:=(aY.base a5).keep bB.keep ir
            have hx:=(bP.base a5).keep bB.keep it
            have hm:=(a8.base a5).keep bB.keep iD
            have fl:=ao fi wf dD bB.n bB.keep
            refine hJ _ _ (aX.none Y)<|.q Z Z Z (ae Z)<|.done<|m3 _ _<|.ret ?_
            (repeat first | with_reducible refine bw ?_ | with_reducible refine bj ?_);(repeat first | with_reducible refine fc ?_ | with_reducible refine eu ?_ | with_reducible refine dY U ?_ | with_reducible refine d4 ?_ | with_reducible refine db ?_);have cA:LV.getD 0 false=true:=(by first | assumption | simpa using ‹(!LV.getD 0 false)=false›);refine ⟨[D0],rfl,(by simp),(fun E hE=>by rw [List.mem_singleton] at hE;subst hE;exact m6),[.agg #[num ((k:Nat):Int),num ((0:Nat):Int),.slice eV eN ex,.slice eX eQ ey],.bool (true)],fun A2 dz e9 dv=>?_⟩;have hkD:∀ b o,b ≠ D0->A319.get b=some o->A2.get b=some o:=fun b o hb h=>dv b o (by simpa using hb) h;exact ⟨fa qZ j8 Z (hkD _ _ aG.symm bB.get) Z (fC Z gz),⟨_,Z,_,_,_,Z,⟨by rw [e9];exact fl.n,fun b o h=>hkD b o (by have:=wf _ _ h;omega) (fl.get _ _ h)⟩,dz,cy (hw.keep hkD i2) (congrArg ce (by rw [AK (by rw [<- hLV];exact cA),hCL])),hx.keep hkD ih,m4 (hm.keep hkD iv) (by rw [AK (by rw [<- hLV];exact cA)]),eg,en,ev⟩⟩
end Go.Proofs.YtjppkekmddjcfaaGreatDoor

namespace Go.Proofs.YtjppkekmddjcfaaGreatDoor
open Go Go.RowKit V
def vj (k n:Nat) (R:List (List Int)):Prop:=∀ r ∈ R,r.length=k/\∀ m ∈ r,-1<=m/\m < (n:Int)
theorem vj.mono {k n n':Nat} {R:List (List Int)} (h:vj k n R) (hn:n<=n'):vj k n' R:=fun r hr=>⟨(h r hr).1,fun m hm=>by have:=(h r hr).2 m hm;omega⟩
theorem vN {step:Int->Nat->Option Int} {q:Int}:∀ (l:List Nat) (r:List Int × List Int),(∀ m ∈ r.1,-1<=m/\m < (r.2.length:Int)) ->
    (l.foldl (gw step q) r).1.length=r.1.length + l.length/\r.2.length<=(l.foldl (gw step q) r).2.length/\∀ m ∈ (l.foldl (gw step q) r).1,-1<=m/\m < ((l.foldl (gw step q) r).2.length:Int)
  | [],r,h=>⟨rfl,Nat.le_refl _,h⟩
  | c :: l,r,h=>by
    rw [List.foldl_cons]
    have key:(gw step q r c).1.length=r.1.length + 1/\r.2.length<=(gw step q r c).2.length/\∀ m ∈ (gw step q r c).1,-1<=m/\m < ((gw step q r c).2.length:Int):=by
      unfold gw
      split
      · refine ⟨by simp,Nat.le_refl _,fun m hm=>?_⟩
        rcases List.mem_append.1 hm with z | z
        · exact h m z
        · rw [List.mem_singleton] at z;subst z;exact ⟨Int.le_refl _,by show (-1:Int) < (r.2.length:Int);omega⟩
      · rename_i t _
        split
        · rename_i ht
          refine ⟨by simp,Nat.le_refl _,fun m hm=>?_⟩
          rcases List.mem_append.1 hm with z | z
          · exact h m z
          · rw [List.mem_singleton] at z;subst z;have:=List.idxOf_lt_length_iff.2 ht;exact ⟨by omega,by show ((r.2.idxOf t:Nat):Int) < (r.2.length:Int);omega⟩
        · refine ⟨by simp,by simp,fun m hm=>?_⟩
          show -1<=m/\m < ((r.2 ++ [t]).length:Int)
          rw [List.length_append,List.length_singleton]
          rcases List.mem_append.1 hm with z | z
          · have:=h m z;omega
          · rw [List.mem_singleton] at z;subst z;exact ⟨by omega,by omega⟩
    obtain ⟨k1,k2,k3⟩:=key
    obtain ⟨g1,g2,g3⟩:=vN l (gw step q r c) k3
    exact ⟨by rw [g1,k1,List.length_cons];omega,Nat.le_trans k2 g2,g3⟩
theorem ul {k:Nat} {step:Int->Nat->Option Int} {D:Int->Prop} {bd:Nat} (hDs:∀ q c t,D q->c < k->step q c=some t->D t) (hfin:∀ Q:List Int,Q.Nodup->(∀ q ∈ Q,D q)->Q.length<=bd) :
    ∀ (f i:Nat) (Q:List Int) (R:List (List Int)),Q.Nodup->(∀ q ∈ Q,D q)->bd < f + i->R.length=i->i<=Q.length->vj k Q.length R ->
      (fW k step f i Q R).2.length=(fW k step f i Q R).1.length/\vj k (fW k step f i Q R).1.length (fW k step f i Q R).2
  | 0,i,Q,R,h1,h2,h3,h4,h5,h6=>by have:=hfin Q h1 h2;exact ⟨by show R.length=Q.length;omega,h6⟩
  | f + 1,i,Q,R,h1,h2,h3,h4,h5,h6=>by
    unfold fW;split
    · rename_i hi
      obtain ⟨g1,g2⟩:=vM hDs (h2 _ (bi (d:=(0:Int)) hi)) (List.range k) ([],Q) (fun c hc=>List.mem_range.1 hc) h1 h2
      obtain ⟨r1,r2,r3⟩:=vN (step:=step) (q:=Q.getD i 0) (List.range k) ([],Q) (fun m hm=>by cases hm)
      refine ul hDs hfin f (i + 1) _ _ g1 g2 O (by simp [h4]) (Nat.le_trans hi r2) fun r hr=>?_
      rcases List.mem_append.1 hr with z | z
      · exact h6.mono r2 r z
      · rw [List.mem_singleton] at z;subst z
        exact ⟨by rw [show (Ng k step (Q.getD i 0) Q).1.length=_ from r1];simp,r3⟩
    · exact ⟨by show R.length=Q.length;omega,h6⟩
theorem xc {k:Nat} {acc:List Bool} {L:List (List Int)} (h:LY k acc L) (q:Int) (c:Nat) (t:Int) (hq:-1<=q/\q < (L.length:Int)) (hc:c < k) (e:oo L q c=some t):-1<=t/\t < (L.length:Int):=by
  simp only [oo,Option.some.injEq] at e
  subst e
  split
  · exact ⟨by omega,by have:=h.num;omega⟩
  · have:=h.val q.toNat c O hc;exact ⟨by omega,by omega⟩
theorem Rg {k:Nat} {acc:List Bool} {L:List (List Int)} (h:LY k acc L):DU k (xb k acc L) (ib k L).2/\(ib k L).2.length<=L.length + 1:=by
  have hn:=h.num
  have h0:∀ q ∈ ([0]:List Int),-1<=q/\q < (L.length:Int):=fun q hq=>by rw [List.mem_singleton] at hq;subst hq;omega
  obtain ⟨g1,g2⟩:=tk (D:=fun q=>-1<=q/\q < (L.length:Int)) (k:=k) (xc h) (L.length + 2) 0 [0] [] (by simp) h0
  obtain ⟨r1,r2⟩:=ul (D:=fun q=>-1<=q/\q < (L.length:Int)) (bd:=L.length + 1) (k:=k) (xc h) (fun Q h1 h2=>ry h1 h2) (L.length + 2) 0 [0] [] (by simp) h0 O Z (by simp) (fun r hr=>by cases hr)
  have hb:=ry g1 g2
  have hr:∀ s,s < (ib k L).2.length->((ib k L).2.getD s []).length=k/\∀ m ∈ (ib k L).2.getD s [],-1<=m/\m < ((ib k L).1.length:Int):=fun s hs=>r2 _ (bi hs)
  refine ⟨⟨h.sym,by rw [xb,List.length_map];exact r1.symm,by have:(ib k L).2.length=(ib k L).1.length:=r1;have:(ib k L).1.length<=L.length + 1:=hb;omega,fun s hs=>(hr s hs).1,fun s x hs hx=>?_⟩,by have:(ib k L).2.length=(ib k L).1.length:=r1;have:(ib k L).1.length<=L.length + 1:=hb;omega⟩
  have:=hr s hs
  have h2:=this.2 (ig (ib k L).2 s x) (bi (by rw [this.1];exact hx))
  have:(ib k L).2.length=(ib k L).1.length:=r1
  omega
end Go.Proofs.YtjppkekmddjcfaaGreatDoor

namespace Go.Proofs.YtjppkekmddjcfaaGreatDoor
open Go Go.RowKit V
set_option maxRecDepth 100000
set_option maxHeartbeats 4000000


theorem Qw (b:Nat) (rwb:Bool) (capb k:Nat) (av nv fv bv:Value) (acc:List Bool) (N:List (List Int)) (rows:List Value) (A:AH) (hok:DU k acc N) (hN:N.length<=20000) (hb:A.get b=some (.row rwb [num (k:Int),av,nv,fv,bv] capb)) (hav:bI A 1 av (ce acc)) (hnv:bI A 1 nv (er rows)) (hrl:rows.length=N.length) (hF:∀ i,i < N.length->bI A 1 (rows.getD i undef) (cN (N.getD i []))):bz Tryz.prog 117 #[.pointer (some ⟨b,0,none⟩),.bool (true)] A (fun v A1=>∃ av2 nv2 rows2,v=.tuple #[.agg #[num (k:Int),num ((0:Nat):Int),av2,nv2],num ((0:Nat):Int)]/\A.le A1/\A1.wf/\Fresh A A1 av2 1 (ce (yQ k acc N).1)/\Fresh A A1 nv2 1 (er rows2)/\kY A A1 rows2 (yQ k acc N).2/\bn av2 nv2/\aK av2 rows2/\aK nv2 rows2):=by
 refine mf Tryz.call117 Tryz.func117 Z Tryz.results117 Tryz.ntmps117 Z (fun wf=>?_);have aC:=AH.le.refl A;refine al.seq fun _ h2=>.region<|.l Z (fun _ _ bu _=>cm wf LM rfl fun A5 b4 a1=>?_);have aA:=aW wf (Nat.le_trans aC.n a1.lo);have D:=aC.trans a1.le;refine bu _ _<|.q Z (ae Z)<|.nil<|h2 _ _<|.seq fun _ h9=>.seq fun _ bb=>.region<|.q Z (ah Z)<|.q Z (eo Z)<|.nil ?_;refine bb _ _<|.cond_false Z<|.skip<|h9 _ _<|.seq fun _ bc=>.region<|.q Z (ah Z)<|.l Z (fun _ _ aT _=>au Z (Ua b _ _ k av nv fv bv acc N rows A5 hok hN (D.get _ _ hb) (hav.le D) (hnv.le D) hrl (fun i hi=>(hF i hi).le D)) ?_);rintro bR A16 ⟨ba,bA,bD,rfl,ad,a0,a2,a4,a3,a6,a7,a8⟩;have aB:=ad.get _ _ a1.get;have az:=D.trans ad;have xa:=a2;have xv:=a4;have xf:=a3;have bM:=a6;have bO:=a7;have bP:=a8;have b3:=a2.ne a1.wf a1.get;have b5:=a4.ne a1.wf a1.get;have b8:=a3.ne a1.get;refine aT _ _<|.q Z (ah Z)<|.q Z (aQ Z Z)<|.q Z (aQ Z Z)<|.l Z (fun _ _ aV _=>cm a0 LM rfl fun A25 bL h=>?_);have a5:=ne_new a0 aB h.lo;have b6:=(a2.base D).own.ne_new a0 h.lo;have b7:=(a4.base D).own.ne_new a0 h.lo;have b9:=(a3.base D).ne_new a0 h.lo;have ay:=aW wf (Nat.le_trans az.n h.lo);have bd:=h.le.get _ _ aB;have ap:=(a2.base D).le h.le;have ar:=(a4.base D).le h.le;have aD:=(a3.base D).le h.le;have b0:=az.trans h.le;refine aV _ _ ?_;obtain ⟨ag,ab,a9,bB,_⟩:=ap.own.slice;subst bB;obtain ⟨ai,ac,aa,bC,_⟩:=ar.own.slice;subst bC;refine Ops.l Z (fun _ _ aY _=>be (cs:=[num ((k:Nat):Int),num ((0:Nat):Int),.slice ag ab a9,.slice ai ac aa]) (c':=[num ((k:Nat):Int),num ((0:Nat):Int),.slice ag ab a9,.slice ai ac aa]) h.wf rfl rfl rfl rfl j8 h.get (Nat.le_of_ble_eq_true rfl) rfl rfl fun A38 V=>?_);have bl:=V.keep _ _ a5 bd;have aI:=ap.keep V.keep b6;have aP:=ar.keep V.keep b7;have aF:=aD.keep V.keep b9;have b1:=ao b0 wf ay V.n V.keep;refine aY _ _<|.q Z (ae Z)<|.nil<|bc _ _<|.seq fun _ bm=>.seq fun _ bp=>.region<|.q Z (ah Z)<|.q Z (eo Z)<|.nil ?_;refine bp _ _<|.cond_false Z<|.skip<|bm _ _<|.seq fun _ br=>.region<|.q Z (an qZ j8 Z Z V.get Z)<|.l Z (fun _ _ aZ _=>be (cs:=[num ((k:Nat):Int),num ((0:Nat):Int),.slice ag ab a9,.slice ai ac aa]) (c':=[num ((k:Nat):Int),num ((0:Nat):Int),.slice ag ab a9,.slice ai ac aa]) V.wf rfl rfl rfl rfl j8 bl (Nat.le_of_ble_eq_true rfl) rfl rfl fun A52 X=>?_);have aR:=aI.keep X.keep b3;have aS:=aP.keep X.keep b5;have aG:=aF.keep X.keep b8;have b2:=ao b1 wf aA X.n X.keep;refine aZ _ _<|.q Z (ae Z)<|.nil<|br _ _<|.ret ?_;repeat first | with_reducible refine bw ?_ | with_reducible refine bj ?_
 exact aE (fa qZ j8 Z X.get Z (fC Z gz)) (⟨_,_,_,Z,b2,X.wf,aR,aS,aG,a6,a7,a8⟩)

theorem Qf (k:Nat) (acc:List Bool) (L:List (List Int)) (av nv:Value) (rows:List Value) (A:AH) (hL:L.length<=19000) (hok:LY k acc L) (hav:bI A 1 av (ce acc)) (hnv:bI A 1 nv (er rows)) (hrl:rows.length=L.length) (hF:∀ i,i < L.length->bI A 1 (rows.getD i undef) (cN (L.getD i []))):bz Tryz.prog 79 #[.agg #[num ((k:Nat):Int),num ((0:Nat):Int),av,nv]] A (fun v A1=>∃ av2 nv2 rows2,v=.tuple #[.agg #[num (k:Int),num ((0:Nat):Int),av2,nv2],num ((0:Nat):Int)]/\A.le A1/\A1.wf/\Fresh A A1 av2 1 (ce (RN k acc L).1)/\Fresh A A1 nv2 1 (er rows2)/\kY A A1 rows2 (RN k acc L).2/\bn av2 nv2/\aK av2 rows2/\aK nv2 rows2):=by
 refine ic Tryz.call79 Tryz.func79 Z Tryz.results79 Tryz.ntmps79 Z (fun wf=>?_);have c4:=AH.le.refl A;have aD:=hok;obtain ⟨hmk,hml⟩:=Rg hok;refine al.seq fun _ h2=>.region<|.l Z (fun _ _ bY _=>dP wf rfl rfl fun A5 b4 aF=>?_);have ba:=c4.trans aF.le;refine bY _ _<|.l Z (fun _ _ c3 _=>cm aF.wf LM rfl fun A10 b9 a8=>?_);have aS:=aW wf (Nat.le_trans ba.n a8.lo);have b6:=a8.le.get _ _ aF.get;have a5:=ba.trans a8.le;refine c3 _ _<|.q Z (ae Z)<|.nil<|h2 _ _<|.seq fun _ bR=>.seq fun _ bS=>.region<|.q Z (an qZ j8 Z Z b6 Z)<|.l Z (fun _ _ br _=>au Z (Qg k acc L av nv rows A10 aD (hav.le a5) (hnv.le a5) hrl (fun i hi=>(hF i hi).le a5)) ?_);rintro cX A20 ⟨rfl,a6,ck⟩;have ap:=a6.get _ _ b6;have aC:=a6.get _ _ a8.get;have h:=a5.trans a6;refine br _ _<|.q Z (((fh (a:=0) (b:=0) Z Z).trans (congrArg (fun z=>some (Value.bool z,[])) (decide_eq_false (fun q=>q Z)))))<|.nil<|bS _ _<|.cond_false Z<|.skip<|bR _ _<|.seq fun _ bT=>.region<|.q Z (an qZ j8 Z Z ap Z) ?_;refine Ops.l Z (fun _ _ bu _=>au Z (Um k acc L av nv rows A20 aD (hav.le h) (hnv.le h) hrl (fun i hi=>(hF i hi).le h)) ?_);rintro cZ A29 ⟨a4,az,aG,aB,aA,aI,rfl,a7,ay,ab,aa,a9,ac,V,aT,aV,aY,aZ,b0,b1⟩;have bU:=a7.get _ _ ap;have ar:=a7.get _ _ aC;have a1:=h.trans a7;have xr:=ab;have xn:=aa;have xa:=a9;have xv:=ac;have xf:=V;have w1:=aT;have w2:=aV;have w3:=aY;have w4:=aZ;have w5:=b0;have w6:=b1;have aP:b4 ≠ a4:=fun z=>by have q0:=ap;rw [z,aa] at q0;cases q0
 have aR:b9 ≠ a4:=fun z=>by have q0:=aC;rw [z,aa] at q0;cases q0
 have cF:=V.ne ap;have bM:=V.ne aC;refine bu _ _<|.l Z (fun _ _ bv _=>au Z (Qw a4 _ _ k az aG aB aA (xb k acc L) ((ib k L).2) aI A29 hmk O ab (a9.base h).slc (ac.base h).slc (V.base h).len (fun i hi=>((V.base h).fr i hi).slc)) ?_);rintro d0 A42 ⟨bP,c7,ch,rfl,X,b2,a2,a3,a0,ad,ag,ai⟩;have bV:=X.get _ _ ar;have cA:=(a9.base h).le X;have cC:=(ac.base h).le X;have bd:=(V.base h).le X;have bB:=a1.trans X;have xa:=a2;have xv:=a3;have xf:=a0;have cP:=ad;have cS:=ag;have cV:=ai;have cH:=a0.ne bU;have bD:=a2.ne ay ar;have bL:=a3.ne ay ar;have bO:=a0.ne ar;have cK:=a0.ne ab;refine bv _ _<|.q Z (aQ Z Z)<|.q Z (aQ Z Z) ?_;obtain ⟨bb,b7,b3,cc,_⟩:=(a2.base a1).own.slice;subst cc;obtain ⟨bc,b8,b5,cf,_⟩:=(a3.base a1).own.slice;subst cf;refine Ops.l Z (fun _ _ bA _=>be (cs:=[num ((k:Nat):Int),num ((0:Nat):Int),.slice bb b7 b3,.slice bc b8 b5]) (c':=[num ((k:Nat):Int),num ((0:Nat):Int),.slice bb b7 b3,.slice bc b8 b5]) b2 rfl rfl rfl rfl j8 bV (Nat.le_of_ble_eq_true rfl) rfl rfl fun A63 D=>?_);have bm:=(a2.base a1).keep D.keep bD;have bp:=(a3.base a1).keep D.keep bL;have cv:=bd.keep D.keep bM;have bl:=(a0.base a1).keep D.keep bO;have bC:=ao bB wf aS D.n D.keep;refine bA _ _<|.q Z (ae Z)<|.nil<|bT _ _<|.ret ?_;repeat first | with_reducible refine bw ?_ | with_reducible refine bj ?_
 exact aE (fa qZ j8 Z D.get Z (fC Z gz)) (⟨_,_,_,Z,bC,D.wf,bm,bp,bl,ad,ag,ai⟩)
end Go.Proofs.YtjppkekmddjcfaaGreatDoor

namespace Go.Proofs.YtjppkekmddjcfaaGreatDoor
open Go Go.RowKit V
def yH (g:Int) (rs:List bf):List Wd:=(aO g rs).map (·.1)
def Js (g:Int) (l:List Wd) (rs:List bf):Nat:=if bZ g l rs then 2 * g.toNat else 0
def te (g:Int) (l:List Wd) (rs:List bf):Nat:=if bZ g l rs then 0 else 100
def D5 (g:Int) (l:List Wd) (rs:List bf):List Bool × List (List Int):=if bZ g l rs then RN (2 * g.toNat) (RD (2 * g.toNat) (yH g rs)) (RE (2 * g.toNat) (yH g rs)) else ([],[])
section
variable {g:Int} {l:List Wd} {rs:List bf} {gn i k:Nat} {w:Wd}
theorem yM (h:(!bZ g l rs)=true):Js g l rs=0/\te g l rs=100/\D5 g l rs=([],[]):=by
  have h:bZ g l rs=false:=by simpa using h
  simp [Js,te,D5,h]
theorem uL (h:bZ (gn:Int) l rs=true):Js gn l rs=2 * gn/\te gn l rs=0/\D5 gn l rs=RN (2 * gn) (RD (2 * gn) (yH gn rs)) (RE (2 * gn) (yH gn rs)):=by
  simp [Js,te,D5,h]
theorem w9 (h:bq g w=0):∀ c ∈ w,0<=ix c/\ix c < 2 * g:=fun c hc=>by
  unfold bq at h
  split at h
  · cases h
  · split at h
    · cases h
    · split at h
      · rename_i q
        have:=List.all_eq_true.1 q c hc
        simpa [e8] using this
      · cases h
theorem Oe:∀ x,x < 16->ix (bJ.getD x 0)=x:=by decide
theorem SH:∀ x,x < 16->x ^^^ 1 < 16/\(x ^^^ 1) / 2=x / 2:=by decide
theorem xC (hs:bZ (gn:Int) l rs=true):∀ s ∈ aO (gn:Int) rs,∀ c ∈ s.1,0<=ix c/\ix c < ((2 * gn:Nat):Int):=fun s hm c hc=>by
  have hg:=ql hs
  rcases List.mem_append.1 hm with z | z
  · obtain ⟨r,hr,rfl⟩:=List.mem_map.1 z
    have:=w9 (nS (fk ((gh hs).2.2.1 r hr)).1) c hc
    omega
  · obtain ⟨x,hx,rfl⟩:=List.mem_map.1 z
    have hx:=List.mem_range.1 hx
    rw [Int.toNat_natCast] at hx
    have h1:=SH x O
    simp only [LU,List.mem_cons,List.not_mem_nil,or_false] at hc
    rcases hc with rfl | rfl
    · rw [Oe x O];omega
    · rw [Oe _ h1.1];omega
theorem Jp:(yH g rs).length=(aO g rs).length:=by simp [yH]
theorem Rl (hi:i < (aO g rs).length):(yH g rs).getD i []=((aO g rs).getD i ([],[])).1:=by
  simp [yH,List.getD_eq_getElem?_getD,hi]
theorem VW (hs:bZ g l rs=true):∀ w ∈ yH g rs,w ≠ []:=fun w hw e=>by
  obtain ⟨s,h1,rfl⟩:=List.mem_map.1 hw
  have:=(ud (ql hs) (QK hs) s h1).1
  rw [e] at this;simp at this
theorem TI.next2 {L:List (List Int)} {E:List Bool} (h:TI k (yH g rs) i L E) (hi:i < (aO g rs).length) (hw:∀ c ∈ ((aO g rs).getD i ([],[])).1,0<=ix c/\ix c < k):TI k (yH g rs) (i + 1) (xo k L E ((aO g rs).getD i ([],[])).1) (xm k L E ((aO g rs).getD i ([],[])).1):=by
  have:=h.next (by rw [Jp];exact hi) (by rw [Rl hi];exact hw)
  rwa [Rl hi] at this
end
section
variable {k:Nat} {L:List (List Int)} {E:List Bool} {W S:List (List Nat)}
theorem Sh {s x:Nat} (hs:s < L.length) (hx:x < (L.getD s []).length):ig (L.map (eE E)) s x=if E.getD (ig L s x).toNat false then -1 else ig L s x:=by
  unfold ig
  have e:(L.map (eE E)).getD s []=eE E (L.getD s []):=by simp [List.getD_eq_getElem?_getD,hs]
  rw [e,eE]
  have:((L.getD s []).map fun m=>if E.getD m.toNat false=true then -1 else m).getD x 0=(fun m:Int=>if E.getD m.toNat false=true then -1 else m) ((L.getD s []).getD x 0):=by
    simp only [List.getD_eq_getElem?_getD,List.getElem?_map]
    have:x < (L[s]?.getD []).length:=by simpa [List.getD_eq_getElem?_getD] using hx
    simp [this]
  rw [this]
theorem UR (h:Wa k L E W S) (hk:1<=k/\k<=400) (hn:W.length<=19000):LY k (E.map fun e=>!e) (L.map (eE E)):=by
  have h1:=h.len
  have h2:=h.pos
  refine ⟨hk,by simp;omega,by simp;omega,fun s hs=>?_,fun s x hs hx=>?_⟩
  · rw [List.length_map] at hs
    rw [show (L.map (eE E)).getD s []=eE E (L.getD s []) by simp [List.getD_eq_getElem?_getD,hs],og]
    exact h.row s O
  · rw [List.length_map] at hs ⊢
    have hr:=h.row s O
    rw [Sh hs O]
    have:=h.to s x O hx
    split
    · omega
    · omega
theorem Wa.at (h:Wa k L E W S) {s x:Nat} (hs:s < W.length) (hx:x < k):0<=(L.getD s []).getD x 0/\((L.getD s []).getD x 0).toNat < W.length:=by
  have:=h.to s x hs hx
  simp only [ig] at this
  omega
end
theorem Kh {E:List Bool} {s:Nat} (h:s < E.length):(E.take s).map (fun e=>!e) ++ [!E.getD s false]=(E.take (s + 1)).map fun e=>!e:=su (z:=false) (fun e=>!e) h
end Go.Proofs.YtjppkekmddjcfaaGreatDoor
