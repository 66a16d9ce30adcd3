import Derived.Test.YtjppkekmddjcfaaGreatDoorTC5
set_option linter.unusedSectionVars false
set_option linter.unusedVariables false
set_option linter.unusedSimpArgs false
namespace Go.Proofs.YtjppkekmddjcfaaGreatDoor
open Go Go.RowKit V
set_option maxRecDepth 100000
theorem jm:eb Tryz.prog 213 1=some (59,1):=by kernel_rfl
theorem o6:eb Tryz.prog 213 2=some (60,2):=by kernel_rfl
theorem qx:eb Tryz.prog 213 3=some (67,3):=by kernel_rfl
theorem qy:eb Tryz.prog 213 4=some (67,4):=by kernel_rfl
theorem SM:dq Tryz.prog 213=some [(0,1),(1,1),(2,1),(3,1),(4,1)]:=by kernel_rfl
theorem Ud:type_of% @Tryz.underlying213:=@Tryz.underlying213
theorem Dh:type_of% @Tryz.underlying222:=@Tryz.underlying222
theorem Ul:cO Tryz.prog 213=some (.agg #[.int .i64 0,.slice none 0 0,.slice none 0 0,.slice none 0 0,.slice none 0 0]):=by kernel_rfl

theorem wA (k most bd F0:Nat) (s0:Int) (g1 g2:Nat) (eV eX:Array Value) (step:Int->Nat->Option Int) (accf:Int->Bool) (D:Int->Prop) (A:AH) (hk:k<=1000) (hm:bd<=most/\most<=1000000/\bd < F0) (H7:D s0) (hDs:∀ q c t,D q->c < k->step q c=some t->D t) (hfin:∀ Q:List Int,Q.Nodup->(∀ q ∈ Q,D q)->Q.length<=bd) (ET:∀ (q:Int) (c:Nat) B,D q->c < k->A.le B->B.wf->bG Tryz.prog g1 (#[num q,num (c:Int)] ++ eV) B (fun v C=>v=.tuple #[num ((step q c).getD 0),.bool (step q c).isSome]/\B.le C/\C.wf)) (EV:∀ (q:Int) B,D q->A.le B->B.wf->bG Tryz.prog g2 (#[num q] ++ eX) B (fun v C=>v=.bool (accf q)/\B.le C/\C.wf)):bG Tryz.prog 148 #[num ((k:Nat):Int),num ((most:Nat):Int),num (s0),.func (.func g1) #[] eV,.func (.func g2) #[] eX] A (fun v A1=>∃ b av nv fv bv rows,v=.tuple #[.pointer (some ⟨b,0,none⟩),.bool true]/\A.le A1/\A1.wf/\A1.get b=some (.row true [num (k:Int),av,nv,fv,bv] 5)/\A.get b=none/\Fresh A A1 av 1 (cq ((fG k step F0 0 [s0] []).1.map accf))/\Fresh A A1 nv 1 (em rows)/\kg A A1 rows (fG k step F0 0 [s0] []).2/\blk av ≠ some b/\blk nv ≠ some b/\bI rows b/\bh av nv/\aq av rows/\aq nv rows):=by
 refine Ur Tryz.call148 Tryz.func148 Z Tryz.results148 Tryz.ntmps148 Z (fun wf=>?_);have C2:=AH.le.refl A;refine ao.seq fun _ h2=>.region<|.q Z (ah Z)<|.q Z (ah Z)<|.nil<|h2 _ _<|.seq fun _ h4=>.region<|.q Z (ae Z)<|.q Z (cR Z (aU Ud Ul SM Z)) ?_;refine Ops.l Z (fun _ _ H8 _=>ej wf rfl rfl fun A7 b6 fL=>?_);have cf:=aL wf (Nat.le_trans C2.n fL.lo);have C1:=C2.trans fL.le;refine H8 _ _<|.q Z (ah Z)<|.nil<|h4 _ _<|.seq fun _ Gn=>.region<|.l Z (fun _ _ EX _=>mu fL.wf fun A14 cH eC=>?_);have aA:=ne_new fL.wf fL.get eC.lo;have h9:=aL wf (Nat.le_trans C1.n eC.lo);have Go:=eC.le.get _ _ fL.get;have Fq:=C1.trans eC.le;refine EX _ _<|.q Z (ae Z)<|.l Z (fun _ _ EY _=>P4 rJ (E:=[]) eC.wf rfl rfl rfl Dh u3 eC.get dC.nil List.nodup_nil fun A19 nE C4 dI FD=>?_);have BP:=dI.keep _ _ aA Go;have oQ:=al Fq wf h9 dI.n dI.keep;have Fd:dC num nE (Ee [s0]):=FD;refine EY _ _<|.q Z (ae Z)<|.q Z (ah Z)<|.nil<|Gn _ _<|.seq fun _ Gp=>.region<|.q Z (ae Z)<|.l Z (fun _ _ EZ _=>aN (c:=[num (s0)]) dI.wf rfl (ax er dx z3 rfl U U rfl) fun A30 BM cU=>?_);have dz:=ne_new dI.wf BP cU.lo;have gN:=ne_new dI.wf dI.get cU.lo;have nH:=aL wf (Nat.le_trans oQ.n cU.lo);have BR:=cU.le.get _ _ BP;have BT:=cU.le.get _ _ dI.get;have oR:=oQ.trans cU.le;refine EZ _ _<|.q Z (ah Z)<|.nil<|Gp _ _<|.seq fun _ Gq=>.region<|.q Z (ae Z)<|.q Z (ae Z)<|.l Z (fun _ _ F2 _=>aN (c:=[num (-1)]) cU.wf rfl (ax er dx z3 rfl U U rfl) fun A39 h8 cb=>?_);have dD:=ne_new cU.wf BR cb.lo;have gP:=ne_new cU.wf BT cb.lo;have gS:=ne_new cU.wf cU.get cb.lo;have nJ:=aL wf (Nat.le_trans oR.n cb.lo);have BU:=cb.le.get _ _ BR;have BV:=cb.le.get _ _ BT;have BY:=cb.le.get _ _ cU.get;have oS:=oR.trans cb.le;refine F2 _ _<|.l Z (fun _ _ F3 _=>aN (c:=[num (-1)]) cb.wf rfl (ax er dx z3 rfl U U rfl) fun A47 hJ cV=>?_);have dG:=ne_new cb.wf BU cV.lo;have gQ:=ne_new cb.wf BV cV.lo;have gX:=ne_new cb.wf BY cV.lo;have gY:=ne_new cb.wf cb.get cV.lo;have nK:=aL wf (Nat.le_trans oS.n cV.lo);have Gs:=cV.le.get _ _ BU;have GC:=cV.le.get _ _ BV;have GD:=cV.le.get _ _ BY;have GE:=cV.le.get _ _ cb.get;have Fs:=oS.trans cV.le;refine F3 _ _<|.q Z (c8 Z)<|.q Z (aj qx fC U Z)<|.l Z (fun _ _ F4 _=>aM (cs:=[.slice (some ⟨h8,0,none⟩) 1 1]) (c':=[num ((k:Nat):Int),.slice none 0 0,.slice none 0 0,.slice (some ⟨h8,0,none⟩) 1 1,.slice none 0 0]) cV.wf rfl rfl rfl rfl fC Gs (Nat.le_of_ble_eq_true rfl) rfl rfl fun A55 dJ=>?_);have GF:=dJ.keep _ _ aA.symm GC;have GG:=dJ.keep _ _ dz.symm GD;have GL:=dJ.keep _ _ dD.symm GE;have GM:=dJ.keep _ _ dG.symm cV.get;have Ft:=al Fs wf cf dJ.n dJ.keep;refine F4 _ _<|.q Z (c8 Z)<|.q Z (aj qy fC U Z)<|.l Z (fun _ _ F6 _=>aM (cs:=[.slice (some ⟨hJ,0,none⟩) 1 1]) (c':=[num ((k:Nat):Int),.slice none 0 0,.slice none 0 0,.slice (some ⟨h8,0,none⟩) 1 1,.slice (some ⟨hJ,0,none⟩) 1 1]) dJ.wf rfl rfl rfl rfl fC dJ.get (Nat.le_of_ble_eq_true rfl) rfl rfl fun A63 e2=>?_);have GN:=e2.keep _ _ aA.symm GF;have GP:=e2.keep _ _ dz.symm GG;have GQ:=e2.keep _ _ dD.symm GL;have GS:=e2.keep _ _ dG.symm GM;have Fv:=al Ft wf cf e2.n e2.keep;refine F6 _ _<|.nil<|Gq _ _<|.seq fun _ H0=>.seq fun _ H1=>.region<|.q Z (ah Z)<|.nil<|H1 _ _<|.block ?_;have Cf:Fresh A A63 (.slice (some ⟨h8,0,none⟩) 1 1) 1 (c9 [-1]):=Fresh.lit GQ nJ Z (Nat.le_of_ble_eq_true Z);have Ch:Fresh A A63 (.slice (some ⟨hJ,0,none⟩) 1 1) 1 (c9 [-1]):=Fresh.lit GS nK Z (Nat.le_of_ble_eq_true Z);have Ck:Fresh A A63 (.slice (some ⟨BM,0,none⟩) 1 1) 1 (c9 [s0]):=Fresh.lit GP nH Z (Nat.le_of_ble_eq_true Z);have Cc:kg A A63 [] []:=kg.nil;refine ao.loop (X:=Nat × List Int × List Bool × List Int × List Int × Array MapEntry × Nat × Nat × Value × Value × Value × Value × Value × List Value × List (List Int)) (fun ⟨i,Q,ac,fi,bl,es,ck,f,qv,av,nv,fv,bv,rw,R⟩=>[(0,num ((k:Nat):Int)),(1,num ((most:Nat):Int)),(3,.func (.func g1) #[] eV),(4,.func (.func g2) #[] eX),(12,.pointer (some ⟨b6,0,none⟩)),(13,.map (some cH)),(14,qv),(15,num ((i:Nat):Int))]) (fun ⟨i,Q,ac,fi,bl,es,ck,f,qv,av,nv,fv,bv,rw,R⟩ B=>(i<=Q.length/\ac=(Q.take i).map accf/\Q.Nodup/\(∀ q ∈ Q,D q)/\dC num es (Ee Q)/\fG k step f i Q R=(fG k step F0 0 [s0] [])/\f + i=F0/\fi.length=Q.length/\bl.length=Q.length/\R.length=i)/\A.le B/\Fresh A B qv 1 (c9 Q)/\Fresh A B av 1 (cq ac)/\Fresh A B nv 1 (em rw)/\Fresh A B fv 1 (c9 fi)/\Fresh A B bv 1 (c9 bl)/\B.get cH=some (.obj true (.map es ck))/\B.get b6=some (.row true [num ((k:Nat):Int),av,nv,fv,bv] 5)/\V.blk qv ≠ some cH/\V.blk av ≠ some cH/\V.blk nv ≠ some cH/\V.blk fv ≠ some cH/\V.blk bv ≠ some cH/\V.blk qv ≠ some b6/\V.blk av ≠ some b6/\V.blk nv ≠ some b6/\V.blk fv ≠ some b6/\V.blk bv ≠ some b6/\bh qv av/\bh qv nv/\bh qv fv/\bh qv bv/\bh av nv/\bh av fv/\bh av bv/\bh nv fv/\bh nv bv/\bh fv bv/\kg A B rw R/\bI rw cH/\bI rw b6/\aq qv rw/\aq av rw/\aq nv rw/\aq fv rw/\aq bv rw) (fun ⟨i,Q,ac,fi,bl,es,ck,f,qv,av,nv,fv,bv,rw,R⟩=>F0 - i) (⟨0,[s0],[],[-1],[-1],nE,C4,F0,.slice (some ⟨BM,0,none⟩) 1 1,.slice none 0 0,.slice none 0 0,.slice (some ⟨h8,0,none⟩) 1 1,.slice (some ⟨hJ,0,none⟩) 1 1,[],[]⟩) (xd Z Z Z Z Z Z Z Z) (⟨⟨Nat.zero_le _,rfl,by simp,fun q hq=>by rw [List.mem_singleton] at hq;subst hq;exact H7,Fd,rfl,by omega,rfl,rfl,rfl⟩,Fv,Ck,(Fresh.nil A A63 1),(Fresh.nil A A63 1),Cf,Ch,GN,e2.get,(fun q=>by cases q;exact gN rfl),(fun q=>by cases q),(fun q=>by cases q),(fun q=>by cases q;exact gP rfl),(fun q=>by cases q;exact gQ rfl),(fun q=>by cases q;exact dz rfl),(fun q=>by cases q),(fun q=>by cases q),(fun q=>by cases q;exact dD rfl),(fun q=>by cases q;exact dG rfl),(bh.symm bh.nil),(bh.symm bh.nil),(fun c hc hq=>by cases hc;cases hq;exact gS rfl),(fun c hc hq=>by cases hc;cases hq;exact gX rfl),bh.nil,bh.nil,bh.nil,bh.nil,bh.nil,(fun c hc hq=>by cases hc;cases hq;exact gY Z),Cc,kN,kN,aq.empty,aq.nil,aq.nil,aq.empty,aq.empty⟩) ?_;rintro ⟨i,Q,ac,fi,bl,es,ck,f,qv,av,nv,fv,bv,rw,R⟩ B81 ⟨⟨hi,hac,hnd,hDQ,hme,hex,hf,hfi,hbl,hRl⟩,hy,ex,fD,fE,nD,nC,ht,dK,ft,dZ,fr,fq,fo,e7,dk,dv,e6,e5,fd,hD,hE,hF,e3,fe,fl,hG,hH,hI,fI,fm,di,gf,dj,e4,gg,gl⟩;refine ao.wf fun oV=>?_;have hrw:rw.length=R.length:=by first | exact kg.len ‹_›
 have hlQ:=hfin Q hnd hDQ;have hla:ac.length=i:=by rw [hac,List.length_map,List.length_take];omega
 have hDi:=fun q:i < Q.length=>hDQ _ (bx (d:=(0:Int)) q);refine ao.seq fun _ H2=>.seq fun _ H3=>.region<|.q Z (ae Z)<|.q Z (ae Z)<|.q Z (bH (n:=Q.length) er Z ex.slc O (eB _))<|.q Z (cA Z Z)<|.nil<|H3 _ _<|.if rfl (fun Ha=>?_) (fun Ha=>?_)
 ·refine ao.skip<|H2 _ _<|.seq fun _ H4=>.block<|.seq fun _ H5=>.drawn [0,1,2,3,4,5,6,7,8,9,10,11,12,13,14,15] mixed Y Y Z<|.q Z Z Z (ae Z)<|.q Z Z Z (ae Z)<|.q Z Z Z (c8 Z)<|.q Z Z Z (aj jm iB U Z) ?_;have ES:=dL (off:=1) dK (show _=some (av) from rfl);refine bj.q Z Z Z (ak iu Z Z dK Z)<|.q Z Z Z (ae Z)<|.q Z Z Z (ae Z)<|.q Z Z Z (ae Z) ?_;obtain ⟨Ix,ID,HT,IN,HS,IH,IF,Gl,H9,Gm,HG,C7⟩:=bJ.at (i:=i) ex.slc O3 O;refine bj.q Z Z Z (aJ er dx Z Gl Z H9)<|.q Z Z Z (ak fj Z Z Gm ((dh C7).trans (df O)))<|.l Z Z Z (fun _ _ F7 _=>np Z Z (EV (Q.getD i 0) B81 (hDi O) hy oV) ?_);rintro IO A97 ⟨rfl,cC,nB⟩;have H6:=cC.get _ _ ht;have CC:=cC.get _ _ dK;have pE:=ex.le cC;have pF:=fD.le cC;have pI:=fE.le cC;have pJ:=nD.le cC;have pL:=nC.le cC;have hK:=fI.le cC;have me:=cm cC ES;have xt:=hy.trans cC;refine F7 _ _ (aO.list (L:=[(⟨b6,1,none⟩,av)]) Y (bq me cL))<|.l Z Z Z (fun _ _ w2 _=>aN (c:=[.bool (accf (Q.getD i 0))]) nB rfl (ax kR lJ z4 rfl U U rfl) fun A112 Hs b7=>?_);have Hd:=hK.ne_new nB b7.lo;have nL:=b7.le.get _ _ H6;have nM:=b7.le.get _ _ CC;have hX:=pE.le b7.le;have hY:=pF.le b7.le;have hZ:=pI.le b7.le;have i1:=pJ.le b7.le;have i2:=pL.le b7.le;have hL:=hK.le b7.le;have vC:=cm b7.le me;have xv:=xt.trans b7.le;refine w2 _ _ (aO.list (L:=[(⟨b6,1,none⟩,av)]) Y (bq vC cL))<|.l Z Z Z (fun _ _ w3 _=>cJ (ys:=[.bool (accf (Q.getD i 0))]) rfl rfl kR lJ JO z4 rfl U kR (fun _ h=>by cases h) hY.own (bW (n:=1) b7.get Z) rfl rfl (by show (_ + _) * 1<=_;simp only [bz,List.length_cons,List.length_nil];(try simp only [List.length_append,List.length_cons,List.length_nil]);omega) Ov fun A131 HZ bc=>?_);rw [show ([.bool (accf (Q.getD i 0))]:List Value)=cq [accf (Q.getD i 0)] from rfl,mC] at bc;obtain ⟨ih,xA⟩:=Fresh.grow hY xv wf bc;have CF:=bc.keep dZ nL;have zV:=bc.ne dZ b7.wf nL;have CH:=bc.keep dk nM;have n4:=bc.ne dk b7.wf nM;have As:=bh.appd (show bh av qv from (bh.symm fd)) hX.own b7.wf bc;have pP:=hX.appd bc (bh.symm fd);have At:=bh.appd (show bh av nv from e3) hZ.own b7.wf bc;have pS:=hZ.appd bc e3;have Av:=bh.appd (show bh av fv from fe) i1.own b7.wf bc;have pU:=i1.appd bc fe;have Ay:=bh.appd (show bh av bv from fl) i2.own b7.wf bc;have pV:=i2.appd bc fl;have Az:=aq.appd (show aq av rw from dj) hL b7.wf bc;have oX:=hL.appd bc (show aq av rw from dj);refine w3 _ _ (aO.none Y)<|.q Z Z Z (c8 Z)<|.q Z Z Z (aj jm iB U Z) ?_;obtain ⟨aF,aE,aD,FT,_⟩:=ih.own.slice;subst FT;refine bj.l Z Z Z (fun _ _ w4 _=>aM (cs:=[.slice aF aE aD]) (c':=[num ((k:Nat):Int),.slice aF aE aD,nv,fv,bv]) bc.wf rfl rfl rfl rfl iB CH (Nat.le_of_ble_eq_true rfl) rfl rfl fun A155 b0=>?_);have nN:=b0.keep _ _ aA.symm CF;have it:=pP.keep b0.keep e7;have iv:=pS.keep b0.keep dv;have iD:=pU.keep b0.keep e6;have iF:=pV.keep b0.keep e5;have iH:=ih.keep b0.keep n4;have hM:=oX.keep b0.keep di;have mV:=al xA wf cf b0.n b0.keep;refine w4 _ _ (aO.none Y)<|.done<|H5 _ _<|.seq fun _ CK=>.region<|.q Z (ae Z)<|.l Z (fun _ _ w5 _=>lL (n:=k) (k:=k) b0.wf mV rfl rfl er dx z3 mg rfl (Nat.le_refl _) (by show 8 * _<=_;omega) O fun A169 C3 bm iN=>?_);rw [im] at iN;have fn:=ne_new b0.wf nN bm.lo;have gZ:=ne_new b0.wf b0.get bm.lo;have Ai:=hM.ne_new b0.wf bm.lo;have CL:=bm.le.get _ _ nN;have CR:=bm.le.get _ _ b0.get;have q0:=it.le bm.le;have q1:=iv.le bm.le;have q2:=iD.le bm.le;have q3:=iF.le bm.le;have q4:=iH.le bm.le;have oY:=hM.le bm.le;have xF:=mV.trans bm.le;have AA:=bh.of_new (n:=k) (c:=k) it.own b0.wf bm.lo;have AB:=bh.of_new (n:=k) (c:=k) iv.own b0.wf bm.lo;have AC:=bh.of_new (n:=k) (c:=k) iD.own b0.wf bm.lo;have AD:=bh.of_new (n:=k) (c:=k) iF.own b0.wf bm.lo;have AF:=bh.of_new (n:=k) (c:=k) iH.own b0.wf bm.lo;refine w5 _ _<|.q Z (ah Z)<|.nil<|CK _ _<|.seq fun _ CS=>.seq fun _ CU=>.region<|.q Z (ae Z)<|.q Z (ae Z)<|.nil ?_;refine CU _ _<|.block<|.loop (X:=Nat × List Int × List Int × List Int × List Int × List Int × Array MapEntry × Nat × Value × Value × Value × Value) (fun ⟨c,r,o,Q1,fi,bl,es,ck,rv,bL,ab,a2⟩=>[(0,num ((k:Nat):Int)),(1,num ((most:Nat):Int)),(3,.func (.func g1) #[] eV),(4,.func (.func g2) #[] eX),(12,.pointer (some ⟨b6,0,none⟩)),(13,.map (some cH)),(14,bL),(15,num ((i:Nat):Int)),(16,rv),(61,num ((k:Nat):Int)),(62,num ((c:Nat):Int))]) (fun ⟨c,r,o,Q1,fi,bl,es,ck,rv,bL,ab,a2⟩ B=>(c<=k/\FH step (Q.getD i 0) Q c=(r,Q1)/\r.length=c/\o=r ++ List.replicate (k - c) 0/\Q1.Nodup/\(∀ q ∈ Q1,D q)/\dC num es (Ee Q1)/\fi.length=Q1.length/\bl.length=Q1.length/\Q <+: Q1)/\A.le B/\Fresh A B rv 1 (c9 o)/\Fresh A B bL 1 (c9 Q1)/\Fresh A B ab 1 (c9 fi)/\Fresh A B a2 1 (c9 bl)/\Fresh A B nv 1 (em rw)/\Fresh A B (.slice aF aE aD) 1 (cq (ac ++ [accf (Q.getD i 0)]))/\B.get cH=some (.obj true (.map es ck))/\B.get b6=some (.row true [num ((k:Nat):Int),.slice aF aE aD,nv,ab,a2] 5)/\V.blk rv ≠ some cH/\V.blk bL ≠ some cH/\V.blk ab ≠ some cH/\V.blk a2 ≠ some cH/\V.blk nv ≠ some cH/\V.blk (.slice aF aE aD) ≠ some cH/\V.blk rv ≠ some b6/\V.blk bL ≠ some b6/\V.blk ab ≠ some b6/\V.blk a2 ≠ some b6/\V.blk nv ≠ some b6/\V.blk (.slice aF aE aD) ≠ some b6/\bh rv bL/\bh rv ab/\bh rv a2/\bh rv nv/\bh rv (.slice aF aE aD)/\bh bL ab/\bh bL a2/\bh bL nv/\bh bL (.slice aF aE aD)/\bh ab a2/\bh ab nv/\bh ab (.slice aF aE aD)/\bh a2 nv/\bh a2 (.slice aF aE aD)/\bh nv (.slice aF aE aD)/\kg A B rw R/\bI rw cH/\bI rw b6/\aq rv rw/\aq bL rw/\aq ab rw/\aq a2 rw/\aq nv rw/\aq (.slice aF aE aD) rw) (fun ⟨c,r,o,Q1,fi,bl,es,ck,rv,bL,ab,a2⟩=>k - c) (⟨0,[],List.replicate k 0,Q,fi,bl,es,ck,.slice (some ⟨C3,0,none⟩) k k,qv,fv,bv⟩) (tV Z Z Z Z Z Z Z Z Z Z Z) (⟨⟨Nat.zero_le _,rfl,rfl,by simp,hnd,hDQ,hme,hfi,hbl,List.prefix_refl _⟩,xF,iN,q0,q2,q3,q1,q4,CL,CR,(fun q=>by cases q;exact fn rfl),ft,fq,fo,fr,zV,(fun q=>by cases q;exact gZ Z),e7,e6,e5,dv,n4,AA,AC,AD,AB,AF,hE,hF,hD,(bh.symm As),hI,(bh.symm hG),(bh.symm Av),(bh.symm hH),(bh.symm Ay),(bh.symm At),oY,fm,di,(aq.new Ai),gf,gg,gl,e4,Az⟩) ?_;rintro ⟨c,r,o,Q1,fi,bl,es,ck,rv,bL,ab,a2⟩ B197 ⟨⟨hc,hexp,hrl,ho,ez,f6,f7,hs,hp,hpre⟩,mX,dd,eS,eQ,eN,eL,dW,eT,e1,a5,bb,aa,a9,aB,az,a0,bC,a3,ai,a4,a1,bM,aT,aV,aC,aY,cK,cP,cc,cS,br,b8,bu,b9,bA,bO,e0,ba,a8,ag,bR,aI,aP,bB,bD⟩;refine ao.wf fun f3=>?_;have hlo:o.length=k:=by rw [ho];simp;omega
  have HJ:=hfin Q1 ez f6;have hpl:=hpre.length_le;have hgi:=uz hpre (show i < Q.length by omega);have oF:D (Q1.getD i 0):=by rw [hgi];exact hDi O
  refine ao.seq fun _ CV=>.region<|.q Z (cA Z Z)<|.nil<|CV _ _<|.seq fun _ D0=>.if rfl (fun FO=>?_) (fun FO=>?_)
  ·refine ao.skip<|D0 _ _<|.seq fun _ f4=>.block<|.seq fun _ D1=>.region<|.q Z (ae Z)<|.q Z (ah Z)<|.nil<|D1 _ _ ?_;refine ao.seq fun _ D2=>.region<|.q Z (ae Z)<|.q Z (ae Z) ?_;obtain ⟨e9,HL,HB,G7,Hl,cZ,oI,Cp,In,FE,HU,Fe⟩:=dd.at1 (x:=c) O3;rw [aH] at oI;refine Ops.q Z (aJ er dx Z cZ Z (by rw [oI];omega))<|.l Z (fun _ _ w6 _=>aM (off:=c) (c':=G7.set c (num (-1))) f3 rfl (by simp) rfl rfl dx Cp (by show c + 1<=_;omega) rfl rfl fun A212 bT=>?_);have D3:=bT.keep _ _ (fun q=>a5 (by rw [cZ];exact congrArg some q.symm)) eT;have Dd:=bT.keep _ _ (fun q=>a0 (by rw [cZ];exact congrArg some q.symm)) e1;have iS:=eS.keep bT.keep (bM e9 (by rw [cZ];rfl));have q5:=eQ.keep bT.keep (aT e9 (by rw [cZ];rfl));have q6:=eN.keep bT.keep (aV e9 (by rw [cZ];rfl));have q7:=eL.keep bT.keep (aC e9 (by rw [cZ];rfl));have q8:=dW.keep bT.keep (aY e9 (by rw [cZ];rfl));have oZ:=e0.keep bT.keep (fun r hr=>ag r hr e9 (by rw [cZ];rfl));have iT:=Fe (num (-1)) A212 bT;rw [io] at iT;have n1:=al mX wf FE bT.n bT.keep;refine w6 _ _<|.nil<|D2 _ _<|.seq fun _ Dg=>.region<|.q Z (ae Z)<|.q Z (ae Z)<|.q Z (ae Z) ?_;obtain ⟨Ht,HH,Hr,HR,Hm,HM,HK,Cb,Fo,Cq,Hb,oW⟩:=bJ.at (i:=i) iS.slc O3 O;refine Ops.q Z (aJ er dx Z Cb Z Fo)<|.q Z (ak fj Z Z Cq ((dh oW).trans (df O)))<|.q Z (ae Z)<|.l Z (fun _ _ w7 _=>np Z Z (ET (Q1.getD i 0) c A212 oF O n1 bT.wf) ?_);rintro I1 A229 ⟨rfl,bS,ha⟩;have g9:=bS.get _ _ D3;have hh:=bS.get _ _ Dd;have fS:=iT.le bS;have f1:=iS.le bS;have fT:=q5.le bS;have fV:=q6.le bS;have fX:=q7.le bS;have g0:=q8.le bS;have fR:=oZ.le bS;have gA:=n1.trans bS;refine w7 _ _<|.q Z (ae Z)<|.q Z (bf Z Z)<|.q Z (bf Z Z)<|.q Z (ah Z)<|.q Z (ah Z)<|.nil<|Dg _ _<|.seq fun _ Di=>.seq fun _ Dj=>?_;refine ao.region<|.q Z (ae Z)<|.q Z (eE Z)<|.nil<|Dj _ _<|.ifB Z (fun FQ=>?_) (fun FQ=>?_)
   ·refine ao.exit<|f4 _ _<|.region<|.q Z (bN (b:=1) Z Z O)<|.q Z (ae Z)<|.nil ?_;exact ⟨⟨c + 1,r ++ [(-1)],o.set c ((-1)),Q1,fi,bl,es,ck,rv,bL,ab,a2⟩,tV Z Z Z Z Z Z Z Z Z Z Z,Z,⟨⟨by omega,JB hexp (by rw [<- hgi];exact zr ‹_›),by simp;omega,by rw [ho,<- hrl];exact xg O,ez,f6,f7,hs,hp,hpre⟩,gA,fS,f1,fT,fV,fX,g0,g9,hh,a5,bb,aa,a9,aB,az,a0,bC,a3,ai,a4,a1,bM,aT,aV,aC,aY,cK,cP,cc,cS,br,b8,bu,b9,bA,bO,fR,ba,a8,ag,bR,aI,aP,bB,bD⟩,O1⟩
   refine ao.skip<|Di _ _<|.seq fun _ nO=>.region<|.q Z (ae Z)<|.q Z (ae Z)<|.l Z (fun _ _ mT _=>MD Z Z Dh u3 z3 g9 f7 (fun Hc=>?_) (fun xr=>?_))
   ·refine mT _ _<|.q Z (ae Z)<|.q Z (bf Z Z)<|.q Z (bf Z Z)<|.q Z (ah Z)<|.q Z (ah Z)<|.nil<|nO _ _<|.seq fun _ Dk=>.seq fun _ Do=>?_;refine ao.region<|.q Z (ae Z)<|.q Z (eE Z)<|.nil<|Do _ _<|.cond_false Z<|.skip<|Dk _ _<|.region<|.q Z (ae Z) ?_;refine Ops.q Z (ae Z)<|.q Z (ae Z) ?_;obtain ⟨ea,HN,HC,G8,Hn,d0,oJ,Cs,Io,FI,HV,Fi⟩:=fS.at1 (x:=c) OF;rw [aH] at oJ;refine Ops.q Z (aJ er dx Z d0 Z (by rw [oJ];(try simp only [List.length_set]);omega))<|.l Z (fun _ _ wc _=>aM (off:=c) (c':=G8.set c (num ((Q1.idxOf ((step (Q1.getD i 0) c).getD 0):Nat):Int))) ha rfl (by simp) rfl rfl dx Cs (by show c + 1<=_;omega) rfl rfl fun A257 ch=>?_);have Ds:=ch.keep _ _ (fun q=>a5 (by rw [d0];exact congrArg some q.symm)) g9;have Dv:=ch.keep _ _ (fun q=>a0 (by rw [d0];exact congrArg some q.symm)) hh;have q9:=f1.keep ch.keep (bM ea (by rw [d0];rfl));have qa:=fT.keep ch.keep (aT ea (by rw [d0];rfl));have qb:=fV.keep ch.keep (aV ea (by rw [d0];rfl));have qd:=fX.keep ch.keep (aC ea (by rw [d0];rfl));have qp:=g0.keep ch.keep (aY ea (by rw [d0];rfl));have p0:=fR.keep ch.keep (fun r hr=>ag r hr ea (by rw [d0];rfl));have iV:=Fi (num ((Q1.idxOf ((step (Q1.getD i 0) c).getD 0):Nat):Int)) A257 ch;rw [io] at iV;have xN:=al gA wf FI ch.n ch.keep;refine wc _ _<|.nil<|f4 _ _<|.region<|.q Z (bN (b:=1) Z Z O)<|.q Z (ae Z)<|.nil ?_;exact ⟨⟨c + 1,r ++ [(Q1.idxOf ((step (Q1.getD i 0) c).getD 0):Int)],(o.set c ((-1))).set c (((Q1.idxOf ((step (Q1.getD i 0) c).getD 0):Nat):Int)),Q1,fi,bl,es,ck,rv,bL,ab,a2⟩,tV Z Z Z Z Z Z Z Z Z Z Z,Z,⟨⟨by omega,NX hexp (by rw [<- hgi];exact jY ‹_›) ‹_›,by simp;omega,by rw [ho,<- hrl];exact qw O,ez,f6,f7,hs,hp,hpre⟩,xN,iV,q9,qa,qb,qd,qp,Ds,Dv,a5,bb,aa,a9,aB,az,a0,bC,a3,ai,a4,a1,bM,aT,aV,aC,aY,cK,cP,cc,cS,br,b8,bu,b9,bA,bO,p0,ba,a8,ag,bR,aI,aP,bB,bD⟩,O1⟩
   have gm:=oh ez xr;have gc:=pb f6 (hDs _ _ _ oF O (jY ‹(!(step (Q1.getD i 0) c).isSome)=false›));have F9:=hfin _ gm gc;rw [List.length_append,List.length_singleton] at F9;refine mT _ _<|.q Z (ae Z)<|.q Z (bf Z Z)<|.q Z (bf Z Z)<|.q Z (ah Z)<|.q Z (ah Z)<|.nil<|nO _ _<|.seq fun _ hj=>.seq fun _ Dw=>?_;refine ao.region<|.q Z (ae Z)<|.q Z (eE Z)<|.nil<|Dw _ _<|.cond_true Z<|.seq fun _ Dz=>.region<|.q Z (ae Z)<|.q Z (bH (n:=Q1.length) er Z f1.slc O (eB _)) ?_;refine Ops.q Z (ah Z)<|.nil<|Dz _ _<|.seq fun _ DD=>.seq fun _ DG=>.region<|.q Z (ae Z)<|.q Z (ae Z)<|.q Z (wj Z Z)<|.nil ?_;refine DG _ _<|.if rfl (fun FS=>?_) (fun FS=>?_)
   ·refine ao.seq fun _ HI=>?_;exfalso;omega
   refine ao.skip<|DD _ _<|.seq fun _ DI=>.region<|.q Z (ae Z)<|.q Z (ae Z)<|.q Z (ae Z)<|.l Z (fun _ _ wl _=>m8 rJ ha rfl rfl rfl Dh u3 g9 f7 (by rw [uy];exact ez) fun A285 eY fQ bP zS=>?_);have DJ:=bP.keep _ _ aA hh;have qr:=fS.keep bP.keep a5;have qu:=f1.keep bP.keep bb;have qA:=fT.keep bP.keep aa;have qB:=fV.keep bP.keep a9;have qD:=fX.keep bP.keep aB;have qN:=g0.keep bP.keep az;have hN:=fR.keep bP.keep ba;have xR:=al gA wf h9 bP.n bP.keep;have f9:dC num eY (Ee (Q1 ++ [((step (Q1.getD i 0) c).getD 0)])):=by rw [<- O5 ‹_›];exact zS
   refine wl _ _<|.nil<|DI _ _<|.seq fun _ DK=>.region<|.q Z (ae Z)<|.q Z (ae Z)<|.l Z (fun _ _ wm _=>aN (c:=[num ((step (Q1.getD i 0) c).getD 0)]) bP.wf rfl (ax er dx z3 rfl U U rfl) fun A304 Hu aZ=>?_);have He:=hN.ne_new bP.wf aZ.lo;have nQ:=aZ.le.get _ _ bP.get;have nT:=aZ.le.get _ _ DJ;have iX:=qr.le aZ.le;have j1:=qu.le aZ.le;have j2:=qA.le aZ.le;have j3:=qB.le aZ.le;have j4:=qD.le aZ.le;have jX:=qN.le aZ.le;have hO:=hN.le aZ.le;have xS:=xR.trans aZ.le;refine wm _ _<|.l Z (fun _ _ wp _=>cJ (ys:=[num ((step (Q1.getD i 0) c).getD 0)]) rfl rfl er dx mg z3 rfl U er (fun _ h=>by cases h) j1.own (bW (n:=1) aZ.get Z) rfl rfl (by show (_ + _) * 8<=_;simp only [aH,List.length_cons,List.length_nil];(try simp only [List.length_append,List.length_cons,List.length_nil]);omega) O2 fun A324 dw ar=>?_);rw [show ([num ((step (Q1.getD i 0) c).getD 0)]:List Value)=c9 [(step (Q1.getD i 0) c).getD 0] from rfl,dM] at ar;obtain ⟨k0,n2⟩:=Fresh.grow j1 xS wf ar;have nU:=ar.keep bb nQ;have gC:=ar.ne bb aZ.wf nQ;have ey:=ar.keep bC nT;have cX:=ar.ne bC aZ.wf nT;have dO:=bh.appd (show bh bL rv from (bh.symm bM)) iX.own aZ.wf ar;have k1:=iX.appd ar (bh.symm bM);have dS:=bh.appd (show bh bL ab from cK) j2.own aZ.wf ar;have g3:=j2.appd ar cK;have dV:=bh.appd (show bh bL a2 from cP) j3.own aZ.wf ar;have k2:=j3.appd ar cP;have h5:=bh.appd (show bh bL nv from cc) j4.own aZ.wf ar;have k3:=j4.appd ar cc;have h6:=bh.appd (show bh bL (.slice aF aE aD) from cS) jX.own aZ.wf ar;have k4:=jX.appd ar cS;have h7:=aq.appd (show aq bL rw from bR) hO aZ.wf ar;have eZ:=hO.appd ar (show aq bL rw from bR);refine wp _ _<|.q Z (ah Z)<|.nil<|DK _ _<|.drawnT (.one 0 (.one 1 (.one 2 (.one 3 (.one 4 (.one 5 (.one 6 (.one 9 (.one 10 (.one 11 (.one 12 (.one 13 (.two 7 14 (.two 8 14 (.one 14 (.one 15 (.one 16 (.one 17 (.one 18 (.one 19 (.one 20 (.one 21 (.done))))))))) (.one 8 (.one 15 (.one 16 (.one 17 (.one 18 (.one 19 (.one 20 (.one 21 (.done)))))))))) (.one 7 (.one 8 (.one 15 (.one 16 (.one 17 (.one 18 (.one 19 (.one 20 (.one 21 (.done))))))))))))))))))))))) mixed Y Y Z ?_;refine cd.q Z Z Z (ae Z) ?_;refine cd.q Z Z Z (ae Z) ?_;refine cd.q Z Z Z (ae Z) ?_;refine cd.q Z Z Z (c8 Z) ?_;refine cd.q Z Z Z (aj qx fC U Z) ?_;have mm:=dL (off:=3) ey (show _=some (ab) from rfl);refine cd.q Z Z Z (ak kW Z Z ey Z) ?_;refine cd.q Z Z Z (ae Z) ?_;refine cd.q Z Z Z (ae Z) ?_;refine cd.q Z Z Z (c8 Z) ?_;refine cd.q Z Z Z (aj qy fC U Z) ?_;have mt:=dL (off:=4) ey (show _=some (a2) from rfl);refine cd.q Z Z Z (ak kW Z Z ey Z) ?_;refine cd.q Z Z Z (ae Z) ?_;refine cd.both Z Z Z Z Z Z ?_ ?_
   ·refine fun _ _ wy _=>aN (c:=[num ((i:Nat):Int)]) ar.wf rfl (ax er dx z3 rfl U U rfl) fun A351 Hv ad=>?_;have Hf:=eZ.ne_new ar.wf ad.lo;have hl:=ad.le.get _ _ nU;have hn:=ad.le.get _ _ ey;have g4:=k1.le ad.le;have f2:=g3.le ad.le;have g5:=k2.le ad.le;have g6:=k3.le ad.le;have g7:=k4.le ad.le;have g8:=k0.le ad.le;have f0:=eZ.le ad.le;have mv:=cm ad.le mm;have ge:=cm ad.le mt;have n3:=n2.trans ad.le;refine wy _ _ (aO.list (L:=[(⟨b6,4,none⟩,a2),(⟨b6,3,none⟩,ab)]) Y (bq ge (bq mv cL))) ?_;refine cd.both Z Z Z Z Z Z ?_ ?_
    ·refine fun _ _ wz _=>cJ (ys:=[num ((i:Nat):Int)]) rfl rfl er dx mg z3 rfl U er (fun _ h=>by cases h) f2.own (bW (n:=1) ad.get Z) rfl rfl (by show (_ + _) * 8<=_;simp only [aH,List.length_cons,List.length_nil];(try simp only [List.length_append,List.length_cons,List.length_nil]);omega) O2 fun A373 Ge aG=>?_;rw [show ([num ((i:Nat):Int)]:List Value)=c9 [((i:Nat):Int)] from rfl,dM] at aG;obtain ⟨qP,xT⟩:=Fresh.grow f2 n3 wf aG;have DO:=aG.keep aa hl;have A5:=aG.ne aa ad.wf hl;have DS:=aG.keep a3 hn;have gD:=aG.ne a3 ad.wf hn;have n9:=bh.appd (show bh ab rv from (bh.symm aT)) g4.own ad.wf aG;have qR:=g4.appd aG (bh.symm aT);have nb:=bh.appd (show bh ab a2 from br) g5.own ad.wf aG;have qU:=g5.appd aG br;have AG:=bh.appd (show bh ab nv from b8) g6.own ad.wf aG;have qV:=g6.appd aG b8;have AI:=bh.appd (show bh ab (.slice aF aE aD) from bu) g7.own ad.wf aG;have r1:=g7.appd aG bu;have AP:=bh.appd (show bh ab dw from (bh.symm dS)) g8.own ad.wf aG;have r2:=g8.appd aG (bh.symm dS);have AR:=aq.appd (show aq ab rw from aI) f0 ad.wf aG;have hP:=f0.appd aG (show aq ab rw from aI);have mx:=aG.cell a3 ge;refine wz _ _ (aO.list (L:=[(⟨b6,4,none⟩,a2)]) Y (bq mx cL)) ?_;refine cd.l Z Z Z (fun _ _ wC _=>aN (c:=[num ((c:Nat):Int)]) aG.wf rfl (ax er dx z3 rfl U U rfl) fun A400 Hw aR=>?_);have Hg:=hP.ne_new aG.wf aR.lo;have nV:=aR.le.get _ _ DO;have o1:=aR.le.get _ _ DS;have k6:=qR.le aR.le;have k7:=qU.le aR.le;have k9:=qV.le aR.le;have kc:=r1.le aR.le;have kl:=r2.le aR.le;have km:=qP.le aR.le;have hQ:=hP.le aR.le;have vS:=cm aR.le mx;have xV:=xT.trans aR.le;refine wC _ _ (aO.list (L:=[(⟨b6,4,none⟩,a2)]) Y (bq vS cL)) ?_;refine cd.l Z Z Z (fun _ _ wF _=>cJ (ys:=[num ((c:Nat):Int)]) rfl rfl er dx mg z3 rfl U er (fun _ h=>by cases h) k7.own (bW (n:=1) aR.get Z) rfl rfl (by show (_ + _) * 8<=_;simp only [aH,List.length_cons,List.length_nil];(try simp only [List.length_append,List.length_cons,List.length_nil]);omega) O2 fun A421 I2 b1=>?_);rw [show ([num ((c:Nat):Int)]:List Value)=c9 [((c:Nat):Int)] from rfl,dM] at b1;obtain ⟨r3,y0⟩:=Fresh.grow k7 xV wf b1;have DV:=b1.keep a9 nV;have A6:=b1.ne a9 aR.wf nV;have DW:=b1.keep ai o1;have gE:=b1.ne ai aR.wf o1;have nd:=bh.appd (show bh a2 rv from (bh.symm aV)) k6.own aR.wf b1;have r4:=k6.appd b1 (bh.symm aV);have AS:=bh.appd (show bh a2 nv from b9) k9.own aR.wf b1;have r6:=k9.appd b1 b9;have AT:=bh.appd (show bh a2 (.slice aF aE aD) from bA) kc.own aR.wf b1;have r7:=kc.appd b1 bA;have AV:=bh.appd (show bh a2 dw from (bh.symm dV)) kl.own aR.wf b1;have r9:=kl.appd b1 (bh.symm dV);have AY:=bh.appd (show bh a2 Ge from (bh.symm nb)) km.own aR.wf b1;have kp:=km.appd b1 (bh.symm nb);have AZ:=aq.appd (show aq a2 rw from aP) hQ aR.wf b1;have p5:=hQ.appd b1 (show aq a2 rw from aP);refine wF _ _ (aO.none Y) ?_;refine cd.q Z Z Z (c8 Z) ?_;refine cd.q Z Z Z (aj qx fC U Z) ?_;obtain ⟨h0,gp,fM,FV,_⟩:=kp.own.slice;subst FV;refine cd.l Z Z Z (fun _ _ wL _=>aM (cs:=[.slice h0 gp fM]) (c':=[num ((k:Nat):Int),.slice aF aE aD,nv,.slice h0 gp fM,a2]) b1.wf rfl rfl rfl rfl fC DW (Nat.le_of_ble_eq_true rfl) rfl rfl fun A447 bU=>?_);have DZ:=bU.keep _ _ aA.symm DV;have rr:=r4.keep bU.keep a0;have rR:=r6.keep bU.keep a4;have rS:=r7.keep bU.keep a1;have rT:=r9.keep bU.keep cX;have rV:=kp.keep bU.keep gD;have kv:=r3.keep bU.keep gE;have p6:=p5.keep bU.keep a8;have y1:=al y0 wf cf bU.n bU.keep;refine wL _ _ (aO.none Y) ?_;refine cd.q Z Z Z (c8 Z) ?_;refine cd.q Z Z Z (aj qy fC U Z) ?_;obtain ⟨hz,hu,hb,G0,_⟩:=kv.own.slice;subst G0;refine cd.l Z Z Z (fun _ _ wM _=>aM (cs:=[.slice hz hu hb]) (c':=[num ((k:Nat):Int),.slice aF aE aD,nv,.slice h0 gp fM,.slice hz hu hb]) bU.wf rfl rfl rfl rfl fC bU.get (Nat.le_of_ble_eq_true rfl) rfl rfl fun A460 bV=>?_);have E2:=bV.keep _ _ aA.symm DZ;have rW:=rr.keep bV.keep a0;have s1:=rR.keep bV.keep a4;have s2:=rS.keep bV.keep a1;have s3:=rT.keep bV.keep cX;have s4:=rV.keep bV.keep gD;have s5:=kv.keep bV.keep gE;have p7:=p6.keep bV.keep a8;have y2:=al y1 wf cf bV.n bV.keep;refine wM _ _ (aO.none Y) ?_;refine cd.done ?_;refine hj _ _<|.region<|.q Z (ae Z)<|.q Z (ae Z)<|.q Z (ae Z) ?_;obtain ⟨ec,HO,HD,G9,Ho,d1,oK,Cu,Is,FL,HW,Fl⟩:=rW.at1 (x:=c) OF;rw [aH] at oK;refine Ops.q Z (aJ er dx Z d1 Z (by rw [oK];(try simp only [List.length_set]);omega))<|.l Z (fun _ _ wP _=>aM (off:=c) (c':=G9.set c (num ((Q1.length:Nat):Int))) bV.wf rfl (by simp) rfl rfl dx Cu (by show c + 1<=_;omega) rfl rfl fun A473 cu=>?_);have E3:=cu.keep _ _ (fun q=>a5 (by rw [d1];exact congrArg some q.symm)) E2;have E4:=cu.keep _ _ (fun q=>a0 (by rw [d1];exact congrArg some q.symm)) bV.get;have s6:=s1.keep cu.keep (aC ec (by rw [d1];rfl));have sb:=s2.keep cu.keep (aY ec (by rw [d1];rfl));have sf:=s3.keep cu.keep ((bh.symm dO) ec (by rw [d1];rfl));have sr:=s4.keep cu.keep ((bh.symm n9) ec (by rw [d1];rfl));have ss:=s5.keep cu.keep ((bh.symm nd) ec (by rw [d1];rfl));have p8:=p7.keep cu.keep (fun r hr=>ag r hr ec (by rw [d1];rfl));have kC:=Fl (num ((Q1.length:Nat):Int)) A473 cu;rw [io] at kC;have y3:=al y2 wf FL cu.n cu.keep;refine wP _ _<|.nil<|f4 _ _<|.region<|.q Z (bN (b:=1) Z Z O)<|.q Z (ae Z)<|.nil ?_;exact ⟨⟨c + 1,r ++ [(Q1.length:Int)],(o.set c ((-1))).set c (((Q1.length:Nat):Int)),Q1 ++ [(step (Q1.getD i 0) c).getD 0],fi ++ [((i:Nat):Int)],bl ++ [((c:Nat):Int)],eY,fQ,rv,dw,.slice h0 gp fM,.slice hz hu hb⟩,tV Z Z Z Z Z Z Z Z Z Z Z,Z,⟨⟨by omega,xe hexp (by rw [<- hgi];exact jY ‹_›) ‹_›,by simp;omega,by rw [ho,<- hrl];exact qw O,gm,gc,f9,by simp;omega,by simp;omega,hpre.trans (List.prefix_append _ _)⟩,y3,kC,sf,sr,ss,s6,sb,E3,E4,a5,gC,A5,A6,aB,az,a0,cX,gD,gE,a4,a1,(bh.symm dO),(bh.symm n9),(bh.symm nd),aC,aY,(bh.symm AP),(bh.symm AV),h5,h6,(bh.symm AY),AG,AI,AS,AT,bO,p8,ba,a8,ag,h7,AR,AZ,bB,bD⟩,O1⟩
    refine fun _ _ wS _=>aN (c:=[num ((c:Nat):Int)]) ad.wf rfl (ax er dx z3 rfl U U rfl) fun A487 Hx ap=>?_;have Ad:=f2.own.ne_new ad.wf ap.lo;have Hh:=f0.ne_new ad.wf ap.lo;have o2:=ap.le.get _ _ hl;have o3:=ap.le.get _ _ hn;have E5:=ap.le.get _ _ ad.get;have kD:=g4.le ap.le;have kK:=f2.le ap.le;have kL:=g5.le ap.le;have kM:=g6.le ap.le;have kP:=g7.le ap.le;have kT:=g8.le ap.le;have hR:=f0.le ap.le;have vX:=cm ap.le mv;have mB:=cm ap.le ge;have y4:=n3.trans ap.le;refine wS _ _ (aO.list (L:=[(⟨b6,4,none⟩,a2),(⟨b6,3,none⟩,ab)]) Y (bq mB (bq vX cL))) ?_;refine cd.l Z Z Z (fun _ _ wY _=>cJ (ys:=[num ((i:Nat):Int)]) rfl rfl er dx mg z3 rfl U er (fun _ h=>by cases h) kK.own (bW (n:=1) E5 Z) rfl rfl (by show (_ + _) * 8<=_;simp only [aH,List.length_cons,List.length_nil];(try simp only [List.length_append,List.length_cons,List.length_nil]);omega) O2 fun A510 Gf a6=>?_);rw [show ([num ((i:Nat):Int)]:List Value)=c9 [((i:Nat):Int)] from rfl,dM] at a6;obtain ⟨kV,y5⟩:=Fresh.grow kK y4 wf a6;have oi:=a6.keep aa o2;have A8:=a6.ne aa ap.wf o2;have oj:=a6.keep a3 o3;have gF:=a6.ne a3 ap.wf o3;have E6:=a6.keep Ad ap.get;have nj:=bh.appd (show bh ab rv from (bh.symm aT)) kD.own ap.wf a6;have l0:=kD.appd a6 (bh.symm aT);have nk:=bh.appd (show bh ab a2 from br) kL.own ap.wf a6;have l1:=kL.appd a6 br;have B0:=bh.appd (show bh ab nv from b8) kM.own ap.wf a6;have l2:=kM.appd a6 b8;have B2:=bh.appd (show bh ab (.slice aF aE aD) from bu) kP.own ap.wf a6;have l3:=kP.appd a6 bu;have B3:=bh.appd (show bh ab dw from (bh.symm dS)) kT.own ap.wf a6;have l4:=kT.appd a6 (bh.symm dS);have B4:=aq.appd (show aq ab rw from aI) hR ap.wf a6;have hS:=hR.appd a6 (show aq ab rw from aI);have vZ:=a6.cell a3 mB;refine wY _ _ (aO.list (L:=[(⟨b6,4,none⟩,a2)]) Y (bq vZ cL)) ?_;refine cd.l Z Z Z (fun _ _ wZ _=>cJ (ys:=[num ((c:Nat):Int)]) rfl rfl er dx mg z3 rfl U er (fun _ h=>by cases h) l1.own (bW (n:=1) E6 Z) rfl rfl (by show (_ + _) * 8<=_;simp only [aH,List.length_cons,List.length_nil];(try simp only [List.length_append,List.length_cons,List.length_nil]);omega) O2 fun A538 Id b2=>?_);rw [show ([num ((c:Nat):Int)]:List Value)=c9 [((c:Nat):Int)] from rfl,dM] at b2;obtain ⟨sv,y6⟩:=Fresh.grow l1 y5 wf b2;have E7:=b2.keep a9 oi;have A9:=b2.ne a9 a6.wf oi;have E9:=b2.keep ai oj;have gG:=b2.ne ai a6.wf oj;have nl:=bh.appd (show bh a2 rv from (bh.symm aV)) l0.own a6.wf b2;have sz:=l0.appd b2 (bh.symm aV);have B5:=bh.appd (show bh a2 nv from b9) l2.own a6.wf b2;have sB:=l2.appd b2 b9;have B6:=bh.appd (show bh a2 (.slice aF aE aD) from bA) l3.own a6.wf b2;have sF:=l3.appd b2 bA;have B7:=bh.appd (show bh a2 dw from (bh.symm dV)) l4.own a6.wf b2;have sN:=l4.appd b2 (bh.symm dV);have B8:=bh.appd (show bh a2 Gf from (bh.symm nk)) kV.own a6.wf b2;have l6:=kV.appd b2 (bh.symm nk);have B9:=aq.appd (show aq a2 rw from aP) hS a6.wf b2;have p9:=hS.appd b2 (show aq a2 rw from aP);refine wZ _ _ (aO.none Y) ?_;refine cd.q Z Z Z (c8 Z) ?_;refine cd.q Z Z Z (aj qx fC U Z) ?_;obtain ⟨h1,gq,fN,G1,_⟩:=l6.own.slice;subst G1;refine cd.l Z Z Z (fun _ _ x0 _=>aM (cs:=[.slice h1 gq fN]) (c':=[num ((k:Nat):Int),.slice aF aE aD,nv,.slice h1 gq fN,a2]) b2.wf rfl rfl rfl rfl fC E9 (Nat.le_of_ble_eq_true rfl) rfl rfl fun A564 bY=>?_);have Ea:=bY.keep _ _ aA.symm E7;have sP:=sz.keep bY.keep a0;have sR:=sB.keep bY.keep a4;have sS:=sF.keep bY.keep a1;have sT:=sN.keep bY.keep cX;have sV:=l6.keep bY.keep gF;have l7:=sv.keep bY.keep gG;have pa:=p9.keep bY.keep a8;have y7:=al y6 wf cf bY.n bY.keep;refine x0 _ _ (aO.none Y) ?_;refine cd.q Z Z Z (c8 Z) ?_;refine cd.q Z Z Z (aj qy fC U Z) ?_;obtain ⟨hA,hv,hd,G2,_⟩:=l7.own.slice;subst G2;refine cd.l Z Z Z (fun _ _ x1 _=>aM (cs:=[.slice hA hv hd]) (c':=[num ((k:Nat):Int),.slice aF aE aD,nv,.slice h1 gq fN,.slice hA hv hd]) bY.wf rfl rfl rfl rfl fC bY.get (Nat.le_of_ble_eq_true rfl) rfl rfl fun A577 c3=>?_);have Ec:=c3.keep _ _ aA.symm Ea;have sZ:=sP.keep c3.keep a0;have t0:=sR.keep c3.keep a4;have t1:=sS.keep c3.keep a1;have t2:=sT.keep c3.keep cX;have t3:=sV.keep c3.keep gF;have t4:=l7.keep c3.keep gG;have pe:=pa.keep c3.keep a8;have y8:=al y7 wf cf c3.n c3.keep;refine x1 _ _ (aO.none Y) ?_;refine cd.done ?_;refine hj _ _<|.region<|.q Z (ae Z)<|.q Z (ae Z)<|.q Z (ae Z) ?_;obtain ⟨eg,HP,HE,Gc,Hp,d2,oN,Cv,It,FM,HX,Fm⟩:=sZ.at1 (x:=c) OF;rw [aH] at oN;refine Ops.q Z (aJ er dx Z d2 Z (by rw [oN];(try simp only [List.length_set]);omega))<|.l Z (fun _ _ x2 _=>aM (off:=c) (c':=Gc.set c (num ((Q1.length:Nat):Int))) c3.wf rfl (by simp) rfl rfl dx Cv (by show c + 1<=_;omega) rfl rfl fun A590 cv=>?_);have Eg:=cv.keep _ _ (fun q=>a5 (by rw [d2];exact congrArg some q.symm)) Ec;have El:=cv.keep _ _ (fun q=>a0 (by rw [d2];exact congrArg some q.symm)) c3.get;have t5:=t0.keep cv.keep (aC eg (by rw [d2];rfl));have t6:=t1.keep cv.keep (aY eg (by rw [d2];rfl));have t7:=t2.keep cv.keep ((bh.symm dO) eg (by rw [d2];rfl));have t8:=t3.keep cv.keep ((bh.symm nj) eg (by rw [d2];rfl));have t9:=t4.keep cv.keep ((bh.symm nl) eg (by rw [d2];rfl));have pf:=pe.keep cv.keep (fun r hr=>ag r hr eg (by rw [d2];rfl));have l9:=Fm (num ((Q1.length:Nat):Int)) A590 cv;rw [io] at l9;have y9:=al y8 wf FM cv.n cv.keep;refine x2 _ _<|.nil<|f4 _ _<|.region<|.q Z (bN (b:=1) Z Z O)<|.q Z (ae Z)<|.nil ?_;exact ⟨⟨c + 1,r ++ [(Q1.length:Int)],(o.set c ((-1))).set c (((Q1.length:Nat):Int)),Q1 ++ [(step (Q1.getD i 0) c).getD 0],fi ++ [((i:Nat):Int)],bl ++ [((c:Nat):Int)],eY,fQ,rv,dw,.slice h1 gq fN,.slice hA hv hd⟩,tV Z Z Z Z Z Z Z Z Z Z Z,Z,⟨⟨by omega,xe hexp (by rw [<- hgi];exact jY ‹_›) ‹_›,by simp;omega,by rw [ho,<- hrl];exact qw O,gm,gc,f9,by simp;omega,by simp;omega,hpre.trans (List.prefix_append _ _)⟩,y9,l9,t7,t8,t9,t5,t6,Eg,El,a5,gC,A8,A9,aB,az,a0,cX,gF,gG,a4,a1,(bh.symm dO),(bh.symm nj),(bh.symm nl),aC,aY,(bh.symm B3),(bh.symm B7),h5,h6,(bh.symm B8),B0,B2,B5,B6,bO,pf,ba,a8,ag,h7,B4,B9,bB,bD⟩,O1⟩
   refine fun _ _ x3 _=>aN (c:=[num ((c:Nat):Int)]) ar.wf rfl (ax er dx z3 rfl U U rfl) fun A604 Hy bp=>?_;have Af:=g3.own.ne_new ar.wf bp.lo;have Hi:=eZ.ne_new ar.wf bp.lo;have En:=bp.le.get _ _ nU;have Eq:=bp.le.get _ _ ey;have tb:=k1.le bp.le;have ti:=g3.le bp.le;have tj:=k2.le bp.le;have ts:=k3.le bp.le;have tt:=k4.le bp.le;have tw:=k0.le bp.le;have hT:=eZ.le bp.le;have mE:=cm bp.le mm;have mK:=cm bp.le mt;have yt:=n2.trans bp.le;refine x3 _ _ (aO.list (L:=[(⟨b6,4,none⟩,a2),(⟨b6,3,none⟩,ab)]) Y (bq mK (bq mE cL))) ?_;refine cd.l Z Z Z (fun _ _ x4 _=>aN (c:=[num ((i:Nat):Int)]) bp.wf rfl (ax er dx z3 rfl U U rfl) fun A627 Hz ay=>?_);have Hj:=hT.ne_new bp.wf ay.lo;have ok:=ay.le.get _ _ En;have ov:=ay.le.get _ _ Eq;have Es:=ay.le.get _ _ bp.get;have lb:=tb.le ay.le;have lp:=ti.le ay.le;have lt:=tj.le ay.le;have lw:=ts.le ay.le;have lB:=tt.le ay.le;have lC:=tw.le ay.le;have hU:=hT.le ay.le;have w0:=cm ay.le mE;have mM:=cm ay.le mK;have yS:=yt.trans ay.le;refine x4 _ _ (aO.list (L:=[(⟨b6,4,none⟩,a2),(⟨b6,3,none⟩,ab)]) Y (bq mM (bq w0 cL))) ?_;refine cd.l Z Z Z (fun _ _ x5 _=>cJ (ys:=[num ((i:Nat):Int)]) rfl rfl er dx mg z3 rfl U er (fun _ h=>by cases h) lp.own (bW (n:=1) ay.get Z) rfl rfl (by show (_ + _) * 8<=_;simp only [aH,List.length_cons,List.length_nil];(try simp only [List.length_append,List.length_cons,List.length_nil]);omega) O2 fun A650 Gg a7=>?_);rw [show ([num ((i:Nat):Int)]:List Value)=c9 [((i:Nat):Int)] from rfl,dM] at a7;obtain ⟨lE,yT⟩:=Fresh.grow lp yS wf a7;have ow:=a7.keep aa ok;have Aa:=a7.ne aa ay.wf ok;have ox:=a7.keep a3 ov;have gL:=a7.ne a3 ay.wf ov;have Et:=a7.keep Af Es;have nn:=bh.appd (show bh ab rv from (bh.symm aT)) lb.own ay.wf a7;have lF:=lb.appd a7 (bh.symm aT);have nq:=bh.appd (show bh ab a2 from br) lt.own ay.wf a7;have lK:=lt.appd a7 br;have Ba:=bh.appd (show bh ab nv from b8) lw.own ay.wf a7;have lO:=lw.appd a7 b8;have Bb:=bh.appd (show bh ab (.slice aF aE aD) from bu) lB.own ay.wf a7;have lP:=lB.appd a7 bu;have Bc:=bh.appd (show bh ab dw from (bh.symm dS)) lC.own ay.wf a7;have lT:=lC.appd a7 (bh.symm dS);have Bd:=aq.appd (show aq ab rw from aI) hU ay.wf a7;have hV:=hU.appd a7 (show aq ab rw from aI);have w1:=a7.cell a3 mM;refine x5 _ _ (aO.list (L:=[(⟨b6,4,none⟩,a2)]) Y (bq w1 cL)) ?_;refine cd.l Z Z Z (fun _ _ x6 _=>cJ (ys:=[num ((c:Nat):Int)]) rfl rfl er dx mg z3 rfl U er (fun _ h=>by cases h) lK.own (bW (n:=1) Et Z) rfl rfl (by show (_ + _) * 8<=_;simp only [aH,List.length_cons,List.length_nil];(try simp only [List.length_append,List.length_cons,List.length_nil]);omega) O2 fun A678 If b3=>?_);rw [show ([num ((c:Nat):Int)]:List Value)=c9 [((c:Nat):Int)] from rfl,dM] at b3;obtain ⟨tz,z0⟩:=Fresh.grow lK yT wf b3;have Ev:=b3.keep a9 ow;have Ab:=b3.ne a9 a7.wf ow;have Ex:=b3.keep ai ox;have gM:=b3.ne ai a7.wf ox;have nu:=bh.appd (show bh a2 rv from (bh.symm aV)) lF.own a7.wf b3;have tB:=lF.appd b3 (bh.symm aV);have Bk:=bh.appd (show bh a2 nv from b9) lO.own a7.wf b3;have tI:=lO.appd b3 b9;have Bl:=bh.appd (show bh a2 (.slice aF aE aD) from bA) lP.own a7.wf b3;have tJ:=lP.appd b3 bA;have Bm:=bh.appd (show bh a2 dw from (bh.symm dV)) lT.own a7.wf b3;have tO:=lT.appd b3 (bh.symm dV);have Bo:=bh.appd (show bh a2 Gg from (bh.symm nq)) lE.own a7.wf b3;have lV:=lE.appd b3 (bh.symm nq);have Bp:=aq.appd (show aq a2 rw from aP) hV a7.wf b3;have pi:=hV.appd b3 (show aq a2 rw from aP);refine x6 _ _ (aO.none Y) ?_;refine cd.q Z Z Z (c8 Z) ?_;refine cd.q Z Z Z (aj qx fC U Z) ?_;obtain ⟨h3,gs,fO,G3,_⟩:=lV.own.slice;subst G3;refine cd.l Z Z Z (fun _ _ x7 _=>aM (cs:=[.slice h3 gs fO]) (c':=[num ((k:Nat):Int),.slice aF aE aD,nv,.slice h3 gs fO,a2]) b3.wf rfl rfl rfl rfl fC Ex (Nat.le_of_ble_eq_true rfl) rfl rfl fun A704 c4=>?_);have Ey:=c4.keep _ _ aA.symm Ev;have tS:=tB.keep c4.keep a0;have tT:=tI.keep c4.keep a4;have tW:=tJ.keep c4.keep a1;have tY:=tO.keep c4.keep cX;have tZ:=lV.keep c4.keep gL;have lW:=tz.keep c4.keep gM;have pj:=pi.keep c4.keep a8;have z1:=al z0 wf cf c4.n c4.keep;refine x7 _ _ (aO.none Y) ?_;refine cd.q Z Z Z (c8 Z) ?_;refine cd.q Z Z Z (aj qy fC U Z) ?_;obtain ⟨hB,hw,he,G4,_⟩:=lW.own.slice;subst G4;refine cd.l Z Z Z (fun _ _ x8 _=>aM (cs:=[.slice hB hw he]) (c':=[num ((k:Nat):Int),.slice aF aE aD,nv,.slice h3 gs fO,.slice hB hw he]) c4.wf rfl rfl rfl rfl fC c4.get (Nat.le_of_ble_eq_true rfl) rfl rfl fun A717 c7=>?_);have Ez:=c7.keep _ _ aA.symm Ey;have u0:=tS.keep c7.keep a0;have u1:=tT.keep c7.keep a4;have u8:=tW.keep c7.keep a1;have ub:=tY.keep c7.keep cX;have ui:=tZ.keep c7.keep gL;have up:=lW.keep c7.keep gM;have pl:=pj.keep c7.keep a8;have z2:=al z1 wf cf c7.n c7.keep;refine x8 _ _ (aO.none Y) ?_;refine cd.done ?_;refine hj _ _<|.region<|.q Z (ae Z)<|.q Z (ae Z)<|.q Z (ae Z) ?_;obtain ⟨en,HQ,HF,Gd,Hq,d3,oP,CB,Iv,FN,HY,Fn⟩:=u0.at1 (x:=c) OF;rw [aH] at oP;refine Ops.q Z (aJ er dx Z d3 Z (by rw [oP];(try simp only [List.length_set]);omega))<|.l Z (fun _ _ x9 _=>aM (off:=c) (c':=Gd.set c (num ((Q1.length:Nat):Int))) c7.wf rfl (by simp) rfl rfl dx CB (by show c + 1<=_;omega) rfl rfl fun A730 cB=>?_);have EA:=cB.keep _ _ (fun q=>a5 (by rw [d3];exact congrArg some q.symm)) Ez;have EC:=cB.keep _ _ (fun q=>a0 (by rw [d3];exact congrArg some q.symm)) c7.get;have us:=u1.keep cB.keep (aC en (by rw [d3];rfl));have uB:=u8.keep cB.keep (aY en (by rw [d3];rfl));have uI:=ub.keep cB.keep ((bh.symm dO) en (by rw [d3];rfl));have uP:=ui.keep cB.keep ((bh.symm nn) en (by rw [d3];rfl));have uS:=up.keep cB.keep ((bh.symm nu) en (by rw [d3];rfl));have pp:=pl.keep cB.keep (fun r hr=>ag r hr en (by rw [d3];rfl));have lX:=Fn (num ((Q1.length:Nat):Int)) A730 cB;rw [io] at lX;have zi:=al z2 wf FN cB.n cB.keep;refine x9 _ _<|.nil<|f4 _ _<|.region<|.q Z (bN (b:=1) Z Z O)<|.q Z (ae Z)<|.nil ?_;exact ⟨⟨c + 1,r ++ [(Q1.length:Int)],(o.set c ((-1))).set c (((Q1.length:Nat):Int)),Q1 ++ [(step (Q1.getD i 0) c).getD 0],fi ++ [((i:Nat):Int)],bl ++ [((c:Nat):Int)],eY,fQ,rv,dw,.slice h3 gs fO,.slice hB hw he⟩,tV Z Z Z Z Z Z Z Z Z Z Z,Z,⟨⟨by omega,xe hexp (by rw [<- hgi];exact jY ‹_›) ‹_›,by simp;omega,by rw [ho,<- hrl];exact qw O,gm,gc,f9,by simp;omega,by simp;omega,hpre.trans (List.prefix_append _ _)⟩,zi,lX,uI,uP,uS,us,uB,EA,EC,a5,gC,Aa,Ab,aB,az,a0,cX,gL,gM,a4,a1,(bh.symm dO),(bh.symm nn),(bh.symm nu),aC,aY,(bh.symm Bc),(bh.symm Bm),h5,h6,(bh.symm Bo),Ba,Bb,Bk,Bl,bO,pp,ba,a8,ag,h7,Bd,Bp,bB,bD⟩,O1⟩
  refine ao.exit<|CS _ _<|.region<|.q Z (ae Z)<|.q Z (ae Z)<|.q Z (c8 Z)<|.q Z (aj o6 iQ U Z)<|.q Z (ak jN Z Z e1 Z)<|.q Z (ae Z) ?_;obtain ⟨eG,eA,ev,G5,_⟩:=dd.own.slice;subst G5;refine Ops.l Z (fun _ _ xa _=>aN (c:=[.slice eG eA ev]) f3 rfl (ax m5 fC I0 rfl U U rfl) fun A744 HA aS=>?_);have Ag:=dd.own.ne_new f3 aS.lo;have Ap:=e0.ne_new f3 aS.lo;have oy:=aS.le.get _ _ eT;have oz:=aS.le.get _ _ e1;have lY:=dd.le aS.le;have lZ:=eS.le aS.le;have m1:=eQ.le aS.le;have m2:=eN.le aS.le;have m3:=eL.le aS.le;have m6:=dW.le aS.le;have hW:=e0.le aS.le;have zs:=mX.trans aS.le;refine xa _ _<|.l Z (fun _ _ xf _=>cJ (ys:=[.slice eG eA ev]) rfl rfl m5 fC DY I0 rfl U m5 (fun _ h=>by cases h) m3.own (bW (n:=1) aS.get Z) rfl rfl (by show (_ + _) * 24<=_;simp only [cw,List.length_cons,List.length_nil];(try simp only [List.length_append,List.length_cons,List.length_nil]);omega) Or fun A765 Ih b5=>?_);rw [show ([.slice eG eA ev]:List Value)=em [Value.slice eG eA ev] from rfl,oB] at b5;obtain ⟨mb,zE⟩:=Fresh.grow m3 zs wf b5;have EG:=b5.keep aB oy;have Ac:=b5.ne aB aS.wf oy;have EL:=b5.keep a4 oz;have n6:=b5.ne a4 aS.wf oz;have Br:=bh.appd (show bh nv (.slice eG eA ev) from (bh.symm aC)) lY.own aS.wf b5;have v0:=lY.appd b5 (bh.symm aC);have Bs:=bh.appd (show bh nv bL from (bh.symm cc)) lZ.own aS.wf b5;have v1:=lZ.appd b5 (bh.symm cc);have Bt:=bh.appd (show bh nv ab from (bh.symm b8)) m1.own aS.wf b5;have v2:=m1.appd b5 (bh.symm b8);have Bu:=bh.appd (show bh nv a2 from (bh.symm b9)) m2.own aS.wf b5;have v3:=m2.appd b5 (bh.symm b9);have Bv:=bh.appd (show bh nv (.slice aF aE aD) from bO) m6.own aS.wf b5;have v4:=m6.appd b5 bO;have By:=aq.appd (show aq nv rw from bB) hW aS.wf b5;have pu:=hW.appd b5 (show aq nv rw from bB);have pv:=pu.snoc v0 ag;have Ar:=ba.snoc a5;have n7:=a8.snoc a0;have Hk:=Ap.snoc Ag;have BA:=bR.snoc (bh.symm bM);have BB:=aI.snoc (bh.symm aT);have BC:=aP.snoc (bh.symm aV);have BD:=bD.snoc (bh.symm aY);have BL:=By.snoc Br;refine xf _ _<|.q Z (c8 Z)<|.q Z (aj o6 iQ U Z) ?_;obtain ⟨hC,hx,hg,G6,_⟩:=mb.own.slice;subst G6;refine Ops.l Z (fun _ _ xn _=>aM (cs:=[.slice hC hx hg]) (c':=[num ((k:Nat):Int),.slice aF aE aD,.slice hC hx hg,ab,a2]) b5.wf rfl rfl rfl rfl iQ EL (Nat.le_of_ble_eq_true rfl) rfl rfl fun A799 cF=>?_);have EN:=cF.keep _ _ aA.symm EG;have v5:=v1.keep cF.keep bC;have v6:=v2.keep cF.keep a3;have v7:=v3.keep cF.keep ai;have v8:=v4.keep cF.keep a1;have v9:=mb.keep cF.keep n6;have pA:=pv.keep cF.keep n7;have zI:=al zE wf cf cF.n cF.keep;refine xn _ _<|.nil ?_;have fmR:=lD pA (show R ++ [o]=R ++ [r] from by rw [ho,show k - c=0 by omega];simp);refine H4 _ _<|.region<|.q Z (ae Z)<|.q Z (bN (b:=1) Z Z O)<|.q Z (ah Z)<|.nil ?_;exact ⟨⟨i + 1,Q1,ac ++ [accf (Q.getD i 0)],fi,bl,es,ck,f - 1,bL,.slice aF aE aD,.slice hC hx hg,ab,a2,rw ++ [Value.slice eG eA ev],R ++ [r]⟩,xd Z Z Z Z Z Z Z Z,Z,⟨⟨by omega,by rw [hac,Kz hpre (show i + 1<=Q.length by omega)];exact od (z:=(0:Int)) accf O,ez,f6,f7,yQ O O hex (by rw [<- show c=k by omega];exact hexp),by omega,hs,hp,by simp;omega⟩,zI,v5,v8,v9,v6,v7,EN,cF.get,bb,az,Ac,aa,a9,bC,a1,n6,a3,ai,cS,(bh.symm Bs),cK,cP,(bh.symm Bv),(bh.symm bu),(bh.symm bA),Bt,Bu,br,fmR,Ar,n7,BA,BD,BL,BB,BC⟩,O1⟩
 refine ao.exit<|H0 _ _<|.seq fun _ EQ=>.region<|.q Z (ae Z)<|.q Z (ah Z)<|.q Z (ah Z)<|.nil<|EQ _ _<|.rt (by exact be Z (⟨b6,_,_,_,_,_,Z,hy,oV,dK,cf,c6 fD (congrArg cq (by rw [hac,List.take_of_length_le O,<- hex,tX O O])),fE,lD fI (by rw [<- hex,tX O O]),dk,dv,di,e3,dj,e4⟩))
end Go.Proofs.YtjppkekmddjcfaaGreatDoor

namespace Go.Proofs.YtjppkekmddjcfaaGreatDoor
open Go Go.RowKit V
set_option maxRecDepth 100000
theorem px:dF Tryz.prog 62=some true:=by kernel_rfl
theorem jH:du Tryz.prog 62=some 4:=by kernel_rfl

theorem L5 (s:Int) (c:Nat) (b cap:Nat) (rw:Bool) (k:Nat) (acc:List Bool) (L:List (List Int)) (av nv:Value) (rows:List Value) (A:AH) (hb:A.get b=some (.row rw [num (k:Int),num ((0:Nat):Int),av,nv] cap)) (hok:I3 k acc L) (hav:bJ A 1 av (cq acc)) (hnv:bJ A 1 nv (em rows)) (hrl:rows.length=L.length) (hF:∀ i,i < L.length->bJ A 1 (rows.getD i undef) (c9 (L.getD i []))) (hs:s < L.length) (hc:c < k):bG Tryz.prog 150 #[num (s),num ((c:Nat):Int),.pointer (some ⟨b,0,none⟩)] A (fun v A1=>v=.tuple #[num ((mP L s c).getD 0),.bool (mP L s c).isSome]/\A.le A1/\A1.wf):=by
 refine yl Tryz.call150 Tryz.func150 Z Tryz.results150 Tryz.ntmps150 Z (fun wf=>?_);have h:=AH.le.refl A;refine ao.seq fun _ h2=>.region<|.q Z (ah Z)<|.q Z (ah Z)<|.nil<|h2 _ _<|.seq fun _ h4=>.region<|.q Z (am px jH Z Z (h.get _ _ hb) Z)<|.q Z (ae Z) ?_;refine Ops.q Z (ae Z)<|.l Z (fun _ _ X _=>aK Z (LL k acc L av nv rows s c A hok (hav.le h) (hnv.le h) hrl (fun i hi=>(hF i hi).le h) O O) ?_);rintro v6 A7 ⟨rfl,D,V⟩;have a0:=h.trans D;refine X _ _<|.q Z (ah Z)<|.q Z (ah Z)<|.nil<|h4 _ _<|.rt (by exact be Z (⟨Z,a0,V⟩))

theorem L8 (s:Int) (b cap:Nat) (rw:Bool) (k:Nat) (acc:List Bool) (L:List (List Int)) (av nv:Value) (rows:List Value) (A:AH) (hb:A.get b=some (.row rw [num (k:Int),num ((0:Nat):Int),av,nv] cap)) (hok:I3 k acc L) (hav:bJ A 1 av (cq acc)) (hnv:bJ A 1 nv (em rows)) (hrl:rows.length=L.length) (hF:∀ i,i < L.length->bJ A 1 (rows.getD i undef) (c9 (L.getD i []))) (hs:s < L.length):bG Tryz.prog 152 #[num (s),.pointer (some ⟨b,0,none⟩)] A (fun v A1=>v=.bool (decide (0<=s) && acc.getD s.toNat false)/\A.le A1/\A1.wf):=by
 refine lN Tryz.call152 Tryz.func152 Z Tryz.results152 Tryz.ntmps152 Z (fun wf=>?_);have h:=AH.le.refl A;obtain ⟨⟨a1,a2⟩,hal,⟨X,a0⟩,hrow,hval⟩:=hok;refine ao.seq fun _ h2=>.region<|.q Z (ah Z)<|.nil<|h2 _ _<|.seq fun _ h4=>.region<|.q Z (ae Z)<|.q Z (pz Z Z)<|.q Z (ae Z) ?_;refine Ops.part (t:=6) Z (fun p5=>?_) (fun p5=>?_)
 ·refine Ops.on Z Z<|.q Z (aj kF iB U Z)<|.on Z Z<|.q Z (ak iu Z Z (h.get _ _ hb) Z)<|.on Z Z<|.q Z (ae Z)<|.on Z Z ?_;obtain ⟨b6,f6,a4,r6,a3,n6,k6,e6,l6,g6,V,D⟩:=bJ.at (i:=(s).toNat) (hav.le h) Oi O;refine Ops.q Z (aJ kR lJ Z e6 (jr O) l6)<|.on Z Z<|.q Z (ak vm Z Z g6 ((dh D).trans (ek O)))<|.q Z (bi Z Z)<|.q Z (ah Z)<|.nil<|h4 _ _<|.rt (by exact be Z (⟨by first | (rw [decide_eq_true O];rfl) | (rw [decide_eq_false O];rfl) | simp_all [fg],h,wf⟩))
 refine Ops.off Z Z Z Z<|.off Z Z Z Z<|.off Z Z Z Z<|.off Z Z Z Z<|.off Z Z Z Z<|.q Z (bw Z Z)<|.q Z (ah Z)<|.nil<|h4 _ _<|.rt (by exact be Z (⟨by first | (rw [decide_eq_true O];rfl) | (rw [decide_eq_false O];rfl) | simp_all [fg],h,wf⟩))

theorem PK (k:Nat) (acc:List Bool) (L:List (List Int)) (av nv:Value) (rows:List Value) (A:AH) (hok:I3 k acc L) (hav:bJ A 1 av (cq acc)) (hnv:bJ A 1 nv (em rows)) (hrl:rows.length=L.length) (hF:∀ i,i < L.length->bJ A 1 (rows.getD i undef) (c9 (L.getD i []))):bG Tryz.prog 118 #[.agg #[num ((k:Nat):Int),num ((0:Nat):Int),av,nv]] A (fun v A1=>∃ b av2 nv2 fv bv rows2,v=.pointer (some ⟨b,0,none⟩)/\A.le A1/\A1.wf/\A1.get b=some (.row true [num (k:Int),av2,nv2,fv,bv] 5)/\A.get b=none/\Fresh A A1 av2 1 (cq (ve k acc L))/\Fresh A A1 nv2 1 (em rows2)/\kg A A1 rows2 (gI k L).2/\blk av2 ≠ some b/\blk nv2 ≠ some b/\bI rows2 b/\bh av2 nv2/\aq av2 rows2/\aq nv2 rows2):=by
 refine iy Tryz.call118 Tryz.func118 Z Tryz.results118 Tryz.ntmps118 Z (fun wf=>?_);have aI:=AH.le.refl A;have a0:=hok;obtain ⟨⟨aZ,b0⟩,hal,⟨aV,aY⟩,hrow,hval⟩:=hok;refine ao.seq fun _ h2=>.region<|.l Z (fun _ _ aG _=>ej wf rfl rfl fun A5 b4 V=>?_);have X:=aI.trans V.le;refine aG _ _<|.q Z (ah Z)<|.nil<|h2 _ _<|.seq fun _ h9=>.drawn [0,1,2,3,4,5,6,8,9,7,10,11,12,13,14,15] mixed Y Y Z<|.q Z Z Z (aj rD dx U Z) ?_;have ai:=dL (off:=0) V.get (show _=some (num ((k:Nat):Int)) from rfl);refine bj.q Z Z Z (ak fj Z Z V.get Z)<|.q Z Z Z (aj kF iB U Z) ?_;have ap:=dL (off:=2) V.get (show _=some (av) from rfl);refine bj.q Z Z Z (ak iu Z Z V.get Z)<|.q Z Z Z (bH (n:=acc.length) kR Z (hav.le X) O (ff _))<|.q Z Z Z (bN (b:=2) Z Z O)<|.q Z Z Z (am px jH Z Z V.get Z)<|.q Z Z Z (lg Z Z)<|.q Z Z Z (lg Z Z)<|.l Z Z Z (fun _ _ az _=>aK Z (LM k acc L av nv rows A5 a0 (hav.le X) (hnv.le X) hrl (fun i hi=>(hF i hi).le X)) ?_);rintro b1 A18 ⟨rfl,D,aT⟩;have ag:=D.get _ _ V.get;have ar:=cm D ai;have ay:=cm D ap;have h:=X.trans D;refine az _ _ (aO.list (L:=[(⟨b4,2,none⟩,av),(⟨b4,0,none⟩,num ((k:Nat):Int))]) Y (bq ay (bq ar cL)))<|.l Z Z Z (fun _ _ aA _=>aK Z (wA k (acc.length + 2) (L.length + 1) (L.length + 2) (((0:Nat):Int)) 150 152 #[.pointer (some ⟨b4,0,none⟩)] #[.pointer (some ⟨b4,0,none⟩)] (mP L) (fun s=>decide (0<=s) && acc.getD s.toNat false) (fun q=>-1<=q/\q < (L.length:Int)) A18 O ⟨by omega,by omega,by omega⟩ ⟨by omega,by omega⟩ (fun q c t hq hc hs=>by simp only [mP,Option.some.injEq] at hs;subst hs;split;exact ⟨by omega,by omega⟩;have:=hval q.toNat c O hc;exact ⟨by omega,by omega⟩) (fun Q hn hQ=>pN hn hQ) (fun q c B hq hc le wfB=>L5 q c b4 _ _ k acc L av nv rows B (le.get _ _ ag) a0 (hav.le (h.trans le)) (hnv.le (h.trans le)) hrl (fun i hi=>(hF i hi).le (h.trans le)) O hc) (fun q B hq le wfB=>L8 q b4 _ _ k acc L av nv rows B (le.get _ _ ag) a0 (hav.le (h.trans le)) (hnv.le (h.trans le)) hrl (fun i hi=>(hF i hi).le (h.trans le)) O)) ?_);rintro b2 A30 ⟨aS,aC,aP,aE,aD,aR,rfl,ac,ad,a4,a3,a1,a5,a2,a6,a7,a8,a9,aa,ab⟩;have aB:=h.trans ac;have xr:=a4;have xn:=a3;have xa:=a1;have xv:=a5;have xf:=a2;have y1:=a6;have y2:=a7;have y3:=a8;have y4:=a9;have y5:=aa;have y6:=ab;refine aA _ _ (aO.none Y)<|.q Z Z Z (ae Z)<|.q Z Z Z (bf Z Z)<|.q Z Z Z (bf Z Z)<|.q Z Z Z (ah Z)<|.q Z Z Z (ah Z)<|.done<|h9 _ _<|.seq fun _ aF=>.region ?_;refine Ops.q Z (ae Z)<|.q Z (ah Z)<|.nil<|aF _ _<|.rt (by exact be Z (⟨_,_,_,_,_,_,Z,aB,ad,a4,mW h a3,a1.base h,a5.base h,a2.base h,a6,a7,a8,a9,aa,ab⟩))
end Go.Proofs.YtjppkekmddjcfaaGreatDoor

namespace Go.Proofs.YtjppkekmddjcfaaGreatDoor
open Go Go.RowKit V
def kJ (ws:List Wd):Nat:=(ws.map List.length).sum
theorem Ce (a:List Wd) (w:Wd):kJ (a ++ [w])=kJ a + w.length:=by simp [kJ]
theorem Cg (ws:List Wd) (i:Nat):kJ (ws.take i)<=kJ ws:=by
  unfold kJ
  conv=>rhs;rw [<- List.take_append_drop i ws]
  rw [List.map_append,List.sum_append];omega
structure TI (k:Nat) (ws:List Wd) (i:Nat) (L:List (List Int)) (E:List Bool):Prop where
  run:va k (ws.take i)=(L,E)
  tri:∃ W,Qk k L E W ((ws.take i).map C6)
  num:L.length<=1 + kJ (ws.take i)
section
variable {k i:Nat} {ws:List Wd} {L L0:List (List Int)} {E E0:List Bool} {W S:List (List Nat)} {d:Int}
theorem TI.start:TI k ws 0 ([] ++ [AM k]) ([] ++ [false]) :=
  ⟨rfl,⟨[[]],⟨AK.start k,TW.start,(fun w h=>by cases h),fun m hm=>by
    obtain rfl:m=0:=by simp at hm;omega
    exact ⟨fun h=>by simp at h,fun h=>by cases h⟩⟩⟩,by simp⟩
theorem TI.ok (h:TI k ws i L E):AK k L E/\0 < L.length:=by
  obtain ⟨W,hT⟩:=h.tri
  exact ⟨hT.ok,by have:=hT.tw.pos;have:=hT.tw.len;omega⟩
theorem TI.len (h:TI k ws i L E):E.length=L.length:=h.ok.1.len
theorem TI.next (h:TI k ws i L E) (hi:i < ws.length) (hw:∀ c ∈ ws.getD i [],0<=ix c/\ix c < k):TI k ws (i + 1) (vt k L E (ws.getD i [])) (vr k L E (ws.getD i [])):=by
  obtain ⟨W,hT⟩:=h.tri
  obtain ⟨W1,h1,h2⟩:=hT.add hw
  have e:ws.take (i + 1)=ws.take i ++ [ws.getD i []]:=(fK (z:=[]) hi).symm
  refine ⟨?_,⟨W1,?_⟩,?_⟩
  · have hr:=h.run
    rw [e,va,List.foldl_append]
    show (fun t w=>(vt k t.1 t.2 w,vr k t.1 t.2 w)) (va k (ws.take i)) (ws.getD i [])=_
    rw [hr]
  · rw [e,List.map_append];exact h1
  · rw [e,Ce];have:=h.num;omega
theorem TI.bound (h:TI k ws i L E):L.length<=1 + kJ ws:=Nat.le_trans h.num (by have:=Cg ws i;omega)
end
structure BO (k:Nat) (L0:List (List Int)) (W S:List (List Nat)) (R:BS) (i:Nat) (L:List (List Int)) (E:List Bool) (F Q:List Int):Prop where
  tw:TW k L0 W
  sub:∀ w ∈ S,w ∈ W
  ne:[] ∉ S
  inv:BI k L0 W S ⟨L,E,F,Q⟩ i 0
  fin:∃ f,f + i=W.length + 1/\SA k f i ⟨L,E,F,Q⟩=R
structure BN (k:Nat) (L0:List (List Int)) (W S:List (List Nat)) (R:BS) (i:Nat) (L:List (List Int)) (E:List Bool) (F Q:List Int) (x:Nat) (L1:List (List Int)) (E1:List Bool) (F1 Q1:List Int):Prop where
  out:BO k L0 W S R i L E F Q
  lt:i < Q.length
  inv:BI k L0 W S ⟨L1,E1,F1,Q1⟩ i x
  run:(List.range x).foldl (tG (Q.getD i 0).toNat) ⟨L,E,F,Q⟩=⟨L1,E1,F1,Q1⟩
  pre:Q <+: Q1
section
variable {k i x:Nat} {L L1 L0:List (List Int)} {E E0 E1:List Bool} {F Q F1 Q1:List Int} {W S:List (List Nat)} {R:BS} {ws:List Wd} {d:Int}
abbrev vq (L1:List (List Int)) (E1:List Bool) (F1 Q1:List Int) (n x:Nat):Int:=kf ⟨L1,E1,F1,Q1⟩ n x
theorem BO.start {ws:List Wd} (h:TI k ws ws.length L E) (hne:∀ w ∈ ws,w ≠ []):∃ W,BO k L W (ws.map C6) (Be k ws) 0 L E (List.replicate L.length 0) [0]:=by
  obtain ⟨W,hT⟩:=h.tri
  have e:ws.take ws.length=ws:=List.take_length
  rw [e] at hT
  have hr:=h.run
  rw [e] at hr
  have hl:=hT.tw.len
  have hn:([]:List Nat) ∉ ws.map C6:=fun q=>by
    obtain ⟨w,hw,q⟩:=List.mem_map.1 q
    exact hne w hw (List.map_eq_nil_iff.1 q)
  refine ⟨W,hT.tw,hT.sub,hn,by rw [<- hl];exact BI.start hT hn,W.length + 1,Z,?_⟩
  rw [Be,hr,hl]
theorem BO.lens (h:BO k L0 W S R i L E F Q):L.length=W.length/\E.length=W.length/\F.length=W.length/\Q.length<=W.length/\L0.length=W.length:=⟨h.inv.len.1,h.inv.len.2.1,h.inv.len.2.2,h.inv.qlen,h.tw.len.symm⟩
theorem BO.at (h:BO k L0 W S R i L E F Q) (hi:i < Q.length):0<=Q.getD i 0/\(Q.getD i 0).toNat < W.length/\(L.getD (Q.getD i 0).toNat []).length=k:=by
  have h1:0<=Q.getD i 0/\Q.getD i 0 < W.length:=h.inv.qr i hi
  have h2:=h.inv.row (Q.getD i 0).toNat O
  exact ⟨h1.1,by omega,h2⟩
theorem BN.start (h:BO k L0 W S R i L E F Q) (hi:i < Q.length):BN k L0 W S R i L E F Q 0 L E F Q:=⟨h,hi,h.inv,rfl,List.prefix_refl _⟩
theorem BN.q (h:BN k L0 W S R i L E F Q x L1 E1 F1 Q1):Q1.getD i 0=Q.getD i 0/\i < Q1.length:=⟨uz h.pre h.lt,Nat.lt_of_lt_of_le h.lt h.pre.length_le⟩
theorem BN.lens (h:BN k L0 W S R i L E F Q x L1 E1 F1 Q1):L1.length=W.length/\E1.length=W.length/\F1.length=W.length/\Q1.length<=W.length/\L0.length=W.length:=⟨h.inv.len.1,h.inv.len.2.1,h.inv.len.2.2,h.inv.qlen,h.out.tw.len.symm⟩
theorem BN.facts (h:BN k L0 W S R i L E F Q x L1 E1 F1 Q1):0<=Q.getD i 0/\(Q.getD i 0).toNat < W.length/\(L1.getD (Q.getD i 0).toNat []).length=k:=by
  have h1:=h.out.at h.lt
  exact ⟨h1.1,h1.2.1,h.inv.row _ h1.2.1⟩
theorem BN.fail (h:BN k L0 W S R i L E F Q x L1 E1 F1 Q1) (hn:Q.getD i 0 ≠ 0):0<=F1.getD (Q.getD i 0).toNat 0/\(F1.getD (Q.getD i 0).toNat 0).toNat < W.length/\(L1.getD (F1.getD (Q.getD i 0).toNat 0).toNat []).length=k:=by
  have hq:=h.q
  have D:0 < i:=by
    rcases Nat.eq_zero_or_pos i with q | q
    · subst q;have h0:Q1.getD 0 0=0:=h.inv.q0.2;rw [hq.1] at h0;exact absurd h0 hn
    · exact q
  have h1:0<=F1.getD (Q1.getD i 0).toNat 0/\F1.getD (Q1.getD i 0).toNat 0 < W.length:=(fun z=>⟨z.1,z.2.1⟩) (h.inv.fl i D hq.2)
  rw [hq.1] at h1
  exact ⟨h1.1,by omega,h.inv.row _ O⟩
theorem BN.to (h:BN k L0 W S R i L E F Q x L1 E1 F1 Q1) (hx:x < k):0<=vq L1 E1 F1 Q1 (Q.getD i 0).toNat x/\(vq L1 E1 F1 Q1 (Q.getD i 0).toNat x).toNat < W.length:=by
  have hq:=h.q
  have h1:0<=vq L1 E1 F1 Q1 (Q1.getD i 0).toNat x/\vq L1 E1 F1 Q1 (Q1.getD i 0).toNat x < W.length:=(fun z=>⟨z.1,z.2.1⟩) (h.inv.to h.out.tw hq.2 hx)
  rw [hq.1] at h1
  omega
theorem BN.met (h:BN k L0 W S R i L E F Q x L1 E1 F1 Q1) (hx:x < k) (hm:0<=(L1.getD (Q.getD i 0).toNat []).getD x 0):((L1.getD (Q.getD i 0).toNat []).getD x 0).toNat < W.length:=by
  have hq:=h.q
  have hf:=h.facts
  have e:gR L1 (Q.getD i 0).toNat x=gR L0 (Q.getD i 0).toNat x:=h.inv.same _ x hf.2.1 hx fun a ha ea=>by
    have e2:qn ⟨L1,E1,F1,Q1⟩ a=qn ⟨L1,E1,F1,Q1⟩ i:=by rw [ea];show _=(Q1.getD i 0).toNat;rw [hq.1]
    exact .inr ⟨h.inv.qd a i ha hq.2 e2,Nat.le_refl _⟩
  have:=h.out.tw.is (Q.getD i 0).toNat x hf.2.1 hx (by rw [<- e];exact hm)
  rw [<- e] at this
  exact this.1
theorem EO {n:Int} (h:¬ n=0) (h0:0<=n):num ((L1.getD (F1.getD n.toNat 0).toNat []).getD x 0)=num (vq L1 E1 F1 Q1 n.toNat x):=by
  show _=num (kf _ _ _);rw [kf,if_neg O]
theorem Ml {n:Int} (h:¬ ¬ n=0):num ((0:Nat):Int)=num (vq L1 E1 F1 Q1 n.toNat x):=by
  have:=Decidable.not_not.1 h;subst this;rfl
theorem BN.step (h:BN k L0 W S R i L E F Q x L1 E1 F1 Q1) (hx:x < k) {L2:List (List Int)} {E2:List Bool} {F2 Q2:List Int} (e:tG (Q.getD i 0).toNat ⟨L1,E1,F1,Q1⟩ x=⟨L2,E2,F2,Q2⟩) (hp:Q1 <+: Q2):BN k L0 W S R i L E F Q (x + 1) L2 E2 F2 Q2:=by
  have hq:=h.q
  refine ⟨h.out,h.lt,?_,?_,h.pre.trans hp⟩
  · have:=h.inv.step h.out.tw h.out.sub h.out.ne hq.2 hx
    rw [show qn ⟨L1,E1,F1,Q1⟩ i=(Q.getD i 0).toNat by show (Q1.getD i 0).toNat=_;rw [hq.1],e] at this
    exact this
  · rw [List.range_succ,List.foldl_append,h.run];exact e
theorem BN.neg (h:BN k L0 W S R i L E F Q x L1 E1 F1 Q1) (hx:x < k) (hm:(L1.getD (Q.getD i 0).toNat []).getD x 0 < 0):BN k L0 W S R i L E F Q (x + 1) (L1.set (Q.getD i 0).toNat ((L1.getD (Q.getD i 0).toNat []).set x (vq L1 E1 F1 Q1 (Q.getD i 0).toNat x))) E1 F1 Q1 :=
  h.step hx (by rw [tG,if_pos hm]) (List.prefix_refl _)
theorem BN.pos (h:BN k L0 W S R i L E F Q x L1 E1 F1 Q1) (hx:x < k) (hm:¬ (L1.getD (Q.getD i 0).toNat []).getD x 0 < 0) {c:Bool} (hc:c=(E1.getD ((L1.getD (Q.getD i 0).toNat []).getD x 0).toNat false || E1.getD (vq L1 E1 F1 Q1 (Q.getD i 0).toNat x).toNat false)) :
    BN k L0 W S R i L E F Q (x + 1) L1 (E1.set ((L1.getD (Q.getD i 0).toNat []).getD x 0).toNat c) (F1.set ((L1.getD (Q.getD i 0).toNat []).getD x 0).toNat (vq L1 E1 F1 Q1 (Q.getD i 0).toNat x)) (Q1 ++ [(L1.getD (Q.getD i 0).toNat []).getD x 0]):=by
  subst hc
  exact h.step hx (by rw [tG,if_neg hm]) (List.prefix_append _ _)
theorem BO.next (h:BN k L0 W S R i L E F Q x L1 E1 F1 Q1) (hx:x=k):BO k L0 W S R (i + 1) L1 E1 F1 Q1:=by
  subst hx
  have hq:=h.q
  obtain ⟨f,hf,e⟩:=h.out.fin
  have hl:=h.out.inv.qlen
  have hlt:=h.lt
  have D:Q.length<=W.length:=hl
  obtain ⟨f,rfl⟩:∃ g,f=g + 1:=⟨f - 1,by omega⟩
  refine ⟨h.out.tw,h.out.sub,h.out.ne,h.inv.next hq.2,f,by omega,?_⟩
  rw [SA,if_pos (by exact hlt)] at e
  have e2:SC x ⟨L,E,F,Q⟩ i=⟨L1,E1,F1,Q1⟩:=h.run
  rw [e2] at e;exact e
theorem BO.fin' (h:BO k L0 W S R i L E F Q) (hi:Q.length<=i):R=⟨L,E,F,Q⟩/\Sl k L E W S:=by
  obtain ⟨f,hf,e⟩:=h.fin
  have hl:=h.inv.qlen
  refine ⟨?_,h.inv.aho h.tw h.sub hi⟩
  rw [<- e]
  cases f with
  | zero=>rfl
  | succ f=>rw [SA,if_neg (by show ¬ i < Q.length;omega)]
def ny (E:List Bool) (r:List Int) (x:Nat):List Int:=eD E (r.take x) ++ r.drop x
def l8 (E:List Bool) (L:List (List Int)) (s x:Nat):List (List Int):=(L.take s).map (eD E) ++ (match L.drop s with | []=>[] | r :: t=>ny E r x :: t)
theorem mI (E:List Bool) (r:List Int):(eD E r).length=r.length:=by simp [eD]
theorem yJ {r:List Int}:(ny E r x).length=r.length:=by simp [ny,eD];omega
theorem vH {r:List Int}:ny E r 0=r:=by simp [ny,eD]
theorem Jq {r:List Int} (h:r.length<=x):ny E r x=eD E r:=by simp [ny,List.take_of_length_le h,List.drop_eq_nil_of_le h]
theorem NP {r:List Int} {y:Nat} (hx:x<=y) (hy:y < r.length):(ny E r x).getD y 0=r.getD y 0:=by
  simp only [ny,List.getD_eq_getElem?_getD]
  rw [List.getElem?_append_right (by rw [mI,List.length_take];omega),List.getElem?_drop,mI,List.length_take]
  congr 2;omega
theorem vG {r:List Int} (hx:x < r.length):ny E r (x + 1)=if E.getD (r.getD x 0).toNat false then (ny E r x).set x (-1) else ny E r x:=by
  have e1:r.take (x + 1)=r.take x ++ [r.getD x 0]:=(fK (z:=0) hx).symm
  have e2:r.drop x=r.getD x 0 :: r.drop (x + 1):=n5 hx
  have hl:(eD E (r.take x)).length=x:=by rw [mI,List.length_take];omega
  have e3:eD E (r.take x ++ [r.getD x 0])=eD E (r.take x) ++ [if E.getD (r.getD x 0).toNat false then -1 else r.getD x 0]:=by simp only [eD,List.map_append,List.map_cons,List.map_nil]
  have e4:ny E r x=eD E (r.take x) ++ r.getD x 0 :: r.drop (x + 1):=by rw [<- e2];rfl
  have e5:ny E r (x + 1)=eD E (r.take x) ++ (if E.getD (r.getD x 0).toNat false then -1 else r.getD x 0) :: r.drop (x + 1):=by
    show eD E (r.take (x + 1)) ++ r.drop (x + 1)=_
    rw [e1,e3,List.append_assoc];rfl
  rw [e5,e4]
  split
  · rw [List.set_append_right _ _ O,hl,Nat.sub_self,List.set_cons_zero]
  · rfl
theorem mc {s:Nat} (h:s < L.length):L.drop s=L.getD s [] :: L.drop (s + 1):=n5 h
theorem yH {s:Nat}:(l8 E L s x).length=L.length:=by
  unfold l8
  rcases Nat.lt_or_ge s L.length with h | h
  · rw [mc h];simp;omega
  · rw [List.drop_eq_nil_of_le h];simp;omega
theorem BF:l8 E L 0 0=L:=by
  cases L with
  | nil=>rfl
  | cons r t=>show [] ++ ny E r 0 :: t=_;rw [vH];rfl
theorem qs {s:Nat} (h:s < L.length):(l8 E L s x).getD s []=ny E (L.getD s []) x:=by
  unfold l8;rw [mc h]
  have hl:((L.take s).map (eD E)).length=s:=by simp;omega
  simp only [List.getD_eq_getElem?_getD]
  rw [List.getElem?_append_right O,hl,Nat.sub_self];rfl
theorem yI {s:Nat} (h:s < L.length) (hx:x < (L.getD s []).length) (he:E.getD ((L.getD s []).getD x 0).toNat false=true):(l8 E L s x).set s (((l8 E L s x).getD s []).set x (-1))=l8 E L s (x + 1):=by
  rw [qs h]
  unfold l8;rw [mc h]
  have hl:((L.take s).map (eD E)).length=s:=by simp;omega
  rw [List.set_append_right _ _ O,hl,Nat.sub_self]
  show _ ++ _ :: _=_ ++ _ :: _
  rw [vG hx,if_pos he]
theorem DN {s:Nat} (h:s < L.length) (hx:x < (L.getD s []).length) (he:E.getD ((L.getD s []).getD x 0).toNat false=false):l8 E L s x=l8 E L s (x + 1):=by
  unfold l8;rw [mc h]
  show _ ++ _ :: _=_ ++ _ :: _
  rw [vG hx,he];rfl
theorem Fz {s:Nat} (h:s < L.length) (hx:(L.getD s []).length<=x):l8 E L s x=l8 E L (s + 1) 0:=by
  unfold l8
  rw [mc h,<- fK (z:=[]) h,List.map_append]
  show _ ++ ny E _ x :: _=_
  rw [Jq hx,List.append_assoc]
  congr 1
  show _=[eD E (L.getD s [])] ++ _
  rw [List.singleton_append];congr 1
  cases L.drop (s + 1) with
  | nil=>rfl
  | cons r t=>show _=ny E r 0 :: t;rw [vH]
theorem Jp {s:Nat} (h:L.length<=s):l8 E L s x=L.map (eD E):=by
  unfold l8
  rw [List.drop_eq_nil_of_le h,List.take_of_length_le h];simp
theorem Fy {s:Nat} (h:s < L.length) (hx:x < (L.getD s []).length):((l8 E L s x).getD s []).getD x 0=(L.getD s []).getD x 0:=by
  rw [qs h,NP (Nat.le_refl _) hx]
end
end Go.Proofs.YtjppkekmddjcfaaGreatDoor

namespace Go.Proofs.YtjppkekmddjcfaaGreatDoor
open Go Go.RowKit V
def xb:List UInt8:=[48,49,50,51,52,53,54,55,56,57,97,98,99,100,101,102,103,104,105,106,107,108,109,110,111,112,113,114,115,116,117,118,119,120,121,122]
def rF:Nat->Nat->List UInt8
  | 0,_=>[]
  | f + 1,n=>if n < 36 then [xb.getD n 0] else rF f (n / 36) ++ [xb.getD (n % 36) 0]
def ik (n:Nat):List UInt8:=rF 13 n
theorem yX:∀ (f n:Nat),(rF f n).length<=f
  | 0,_=>Nat.le_refl _
  | f + 1,n=>by
    unfold rF;split
    · simp
    · have:=yX f (n / 36);simp;omega
theorem rE (n:Nat):(ik n).length<=13:=yX 13 n
def EP (c:UInt8):Nat:=xb.idxOf c
theorem sY:∀ d,d < 36->EP (xb.getD d 0)=d/\xb.getD d 0 ≠ 32/\xb.getD d 0 ≠ 45:=by decide
theorem s8:∀ (f n:Nat),∀ c ∈ rF f n,c ≠ 32/\c ≠ 45
  | 0,_,_,h=>by cases h
  | f + 1,n,c,h=>by
    unfold rF at h;split at h
    · rename_i q;rw [List.mem_singleton] at h;subst h;exact (sY n q).2
    · rcases List.mem_append.1 h with q | q
      · exact s8 f _ c q
      · rw [List.mem_singleton] at q;subst q;exact (sY _ (Nat.mod_lt _ U)).2
def ER (l:List UInt8):Nat:=l.foldl (fun a c=>a * 36 + EP c) 0
theorem qc:∀ (f n:Nat),n < 36 ^ f->ER (rF f n)=n
  | 0,n,h=>by simp at h;subst h;rfl
  | f + 1,n,h=>by
    unfold rF;split
    · rename_i q;show 0 * 36 + EP _=n;rw [(sY n q).1];omega
    · have:=qc f (n / 36) (by rw [Nat.pow_succ] at h;exact Nat.div_lt_of_lt_mul O)
      rw [ER,List.foldl_append]
      show ER (rF f (n / 36)) * 36 + EP _=n
      rw [this,(sY _ (Nat.mod_lt _ U)).1];omega
theorem FU {a b:Nat} (ha:a < 1000000) (hb:b < 1000000) (h:ik a=ik b):a=b:=by
  have h1:=qc 13 a (Nat.lt_of_lt_of_le ha U)
  have h2:=qc 13 b (Nat.lt_of_lt_of_le hb U)
  rw [<- h1,<- h2];exact congrArg ER h
structure tn (n m i:Nat) (l:List UInt8):Prop where
  len:l.length=65
  eq:∃ f,f + 52=i/\0 < f/\f<=13/\ik n=rF f m ++ l.drop i/\m < 36 ^ f
  le:m<=n
section
variable {n m i f:Nat} {l:List UInt8}
theorem tn.start (hn:n<=1000000):tn n n 65 (List.replicate 65 0):=⟨by simp,⟨13,rfl,by decide,by decide,by simp [ik],Nat.lt_of_le_of_lt hn U⟩,Nat.le_refl _⟩
theorem tn.idx (h:tn n m i l):53<=i/\i<=65:=by obtain ⟨f,h1,h2,h3,_⟩:=h.eq;omega
theorem yN {l:List UInt8} {j:Nat} {c:UInt8} (h:j < l.length):(l.set j c).drop j=c :: l.drop (j + 1):=by
  rw [List.drop_eq_getElem_cons (by simpa using h),List.drop_set_of_lt O]
  simp
theorem tn.next (h:tn n m i l) (hm:36<=m):tn n (m / 36) (i - 1) (l.set (i - 1) (xb.getD (m - m / 36 * 36) 0))/\54<=i:=by
  obtain ⟨f,h1,h2,h3,h4,h5⟩:=h.eq
  have hf:2<=f:=by
    rcases Nat.lt_or_ge f 2 with q | q
    · obtain rfl:f=1:=by omega
      omega
    · exact q
  obtain ⟨f,rfl⟩:∃ g,f=g + 1:=⟨f - 1,by omega⟩
  refine ⟨⟨by simpa using h.len,⟨f,by omega,by omega,by omega,?_,by rw [Nat.pow_succ] at h5;exact Nat.div_lt_of_lt_mul O⟩,Nat.le_trans (Nat.div_le_self _ _) h.le⟩,by omega⟩
  rw [h4,rF,if_neg O,yN (by rw [h.len];omega),show i - 1 + 1=i by omega,List.append_assoc]
  rw [show m - m / 36 * 36=m % 36 by omega];rfl
theorem tn.last (h:tn n m i l) (hm:m < 36):(l.set (i - 1) (xb.getD m 0)).drop (i - 1)=ik n:=by
  obtain ⟨f,h1,h2,h3,h4,h5⟩:=h.eq
  obtain ⟨f,rfl⟩:∃ g,f=g + 1:=⟨f - 1,by omega⟩
  rw [h4,rF,if_pos hm,yN (by rw [h.len];omega),show i - 1 + 1=i by omega];rfl
end
abbrev vD (n:Nat):Value:=.int .u64 (n:Int)
section
variable {P:Program} {e:gv} {A:AH} {x y:Operand} {t t':TypeId} {a b:Nat}
theorem Dq {n:Int} (h:0<=n/\n<=18446744073709551615):IntKind.u64.wrap n=n:=IntWalk.u64_in n h
theorem KG {k k₀:IntKind} (hs:P.underlying t=some (.int k₀)) (hd:P.underlying t'=some (.int .u64)) (h:bZ e x=some (.int k (a:Nat))) (hr:a<=18446744073709551615):aQ P e A (.convert t t' x)=some (vD a,[]) :=
  KF hs hd h (Dq O)
theorem Ta (h:bZ e x=some (vD a)) (h':bZ e y=some (vD b)) (hr:b<=a/\a<=18446744073709551615):aQ P e A (.binOp .sub t x y t')=some (vD (a - b),[]):=by
  refine CE U U h h' ?_
  refine congrArg (fun z=>some (Value.int .u64 z)) ?_
  rw [Dq O];omega
theorem S7 (h:bZ e x=some (vD a)) (h':bZ e y=some (vD b)) (hr:a * b<=18446744073709551615):aQ P e A (.binOp .mul t x y t')=some (vD (a * b),[]):=by
  refine CE U U h h' ?_
  refine congrArg (fun z=>some (Value.int .u64 z)) ?_
  have:((a * b:Nat):Int)=(a:Int) * b:=Int.natCast_mul a b
  rw [Dq (by rw [<- this];omega)];simp
theorem S9 (h:bZ e x=some (vD a)) (h':bZ e y=some (vD b)) (hr:1<=b/\a<=18446744073709551615):aQ P e A (.binOp .quo t x y t')=some (vD (a / b),[]):=by
  refine CE U U h h' ?_
  show (if (b:Int)=0 then none else _)=_
  rw [if_neg O]
  refine congrArg (fun z=>some (Value.int .u64 z)) ?_
  rw [IntWalk.u64_quo _ _ O];simp
end
section
variable {P:Program} {nt:Nat} {all:Array Oper} {os:List Oper} {Q:Exit->Fr->AH->Prop} {e:gv} {ds:List Deferred} {A:AH} {x lo:Operand} {t el:TypeId} {ty:TypeId} {ps:String} {af:Array Edge} {dst:Option Nat} {b n j:Nat}
theorem V.Ops.sliceArr (hd:gj nt dst=true) (hu:P.underlying t=some (.array n el)) (hs:du P el=some 1) (hx:bZ e x=some (.pointer (some ⟨b,0,none⟩))) (hlo:bZ e lo=some (num (j:Nat))) (hj:j < n)
    (h:Ops P nt all os Q ⟨fp e dst (.slice (some ⟨b,j,none⟩) (n - j) (n - j)),ds⟩ A):Ops P nt all ({ dst:=dst,op:=.slice t x (some lo) none none,type:=ty,pos:=ps,after:=af,guard:=none } :: os) Q ⟨e,ds⟩ A:=by
  refine Ops.val Z hd (fun a ha w hw=>?_) h
  have h1:=c0 ha hx
  have h2:=c0 ha hlo
  simp only [execOp,h1,Option.map_some,h2,Option.map_none]
  have hb:=p3 (P:=P) (w:=w) (isS:=false) (len:=n) (cap:=n) (lo:=some (some (num (j:Nat)))) (hi:=none) (lo':=some (num (j:Nat))) (hi':=none) (l:=(j:Int)) (h:=(n:Int)) (fun v q=>by cases q;exact ⟨_,rfl,rfl⟩) (fun q=>by cases q) (fun v q=>by cases q) (fun _=>rfl) Z Z O O O
  have hne:n ≠ j:=by omega
  simp [Instr.sliceAt,cj hu,hb,d7 hs,Instr.sureAddr,Addr.add,hne]
  intro z;omega
end
theorem Sw:Na .and .i64 ((36:Nat):Int) ((35:Nat):Int)=some (num ((32:Nat):Int)):=by
  have key:IntKind.i64.wrap ((BitVec.ofInt 64 ((36:Nat):Int) &&& BitVec.ofInt 64 ((35:Nat):Int)).toNat:Int)=((32:Nat):Int):=by decide
  show some (Value.int .i64 (IntKind.i64.wrap ((BitVec.ofInt 64 ((36:Nat):Int) &&& BitVec.ofInt 64 ((35:Nat):Int)).toNat:Int)))=_
  rw [key]
theorem PN {A:AH} {b cap j:Nat} {rw:Bool} {c:List Value} (h:A.get b=some (.row rw c cap)) (hj:j<=c.length):bJ A 1 (.slice (some ⟨b,j,none⟩) (c.length - j) (c.length - j)) (c.drop j) :=
  ⟨_,_,_,rfl,by simp,Nat.le_refl _,.inr ⟨b,j,rw,c,cap,rfl,h,by rw [Nat.mul_one,List.take_of_length_le (by simp)]⟩⟩
end Go.Proofs.YtjppkekmddjcfaaGreatDoor

namespace Go.Proofs.YtjppkekmddjcfaaGreatDoor
open Go Go.RowKit V
set_option maxRecDepth 100000
theorem u2:type_of% @Tryz.underlying2:=@Tryz.underlying2
theorem Tu:type_of% @Tryz.underlying201:=@Tryz.underlying201
theorem RZ:type_of% @Tryz.underlying246:=@Tryz.underlying246
theorem Un:cO Tryz.prog 246=some (.agg #[.int .u8 0,.int .u8 0,.int .u8 0,.int .u8 0,.int .u8 0,.int .u8 0,.int .u8 0,.int .u8 0,.int .u8 0,.int .u8 0,.int .u8 0,.int .u8 0,.int .u8 0,.int .u8 0,.int .u8 0,.int .u8 0,.int .u8 0,.int .u8 0,.int .u8 0,.int .u8 0,.int .u8 0,.int .u8 0,.int .u8 0,.int .u8 0,.int .u8 0,.int .u8 0,.int .u8 0,.int .u8 0,.int .u8 0,.int .u8 0,.int .u8 0,.int .u8 0,.int .u8 0,.int .u8 0,.int .u8 0,.int .u8 0,.int .u8 0,.int .u8 0,.int .u8 0,.int .u8 0,.int .u8 0,.int .u8 0,.int .u8 0,.int .u8 0,.int .u8 0,.int .u8 0,.int .u8 0,.int .u8 0,.int .u8 0,.int .u8 0,.int .u8 0,.int .u8 0,.int .u8 0,.int .u8 0,.int .u8 0,.int .u8 0,.int .u8 0,.int .u8 0,.int .u8 0,.int .u8 0,.int .u8 0,.int .u8 0,.int .u8 0,.int .u8 0,.int .u8 0]):=by kernel_rfl

theorem RM (A:AH):bG Tryz.prog 213 #[num ((36:Nat):Int)] A (fun v A1=>v=.bool false/\A=A1):=by
 refine iy Tryz.call213 Tryz.func213 Z Tryz.results213 Tryz.ntmps213 Z (fun wf=>?_);have h:=AH.le.refl A;refine ao.seq fun _ h2=>.region<|.q Z (ah Z)<|.nil<|h2 _ _<|.seq fun _ h4=>.region<|.q Z (ae Z)<|.q Z (ae Z)<|.q Z (jc (a:=36) (b:=1) Z Z O) ?_;refine Ops.q Z (CE U U Z Z Sw)<|.q Z (((oq (a:=32) (b:=0) Z Z).trans (congrArg (fun z=>some (Value.bool z,[])) (decide_eq_false U))))<|.q Z (ah Z)<|.nil<|h4 _ _<|.rt (by exact be Z (⟨Z,Z⟩))

theorem Iy (u:Value) (o:List UInt8) (n:Nat) (A0 A:AH) (ac:A0.le A) (a7:A0.wf) (hu:Fresh A0 A u 1 (aw o)) (ho:o.length<=100000000000) (hn:n<=1000000):bG Tryz.prog 210 #[u,.int .u64 ((n:Nat):Int),num ((36:Nat):Int),.bool (false),.bool (true)] A (fun v A1=>∃ w,v=.tuple #[w,aX []]/\A0.le A1/\A1.wf/\Fresh A0 A1 w 1 (aw (o ++ ik n))):=by
 refine Ur Tryz.call210 Tryz.func210 Z Tryz.results210 Tryz.ntmps210 Z (fun wf=>?_);refine ao.seq fun _ h2=>.region<|.q Z (ah Z)<|.q Z (ah Z)<|.nil<|h2 _ _<|.seq fun _ h4=>.seq fun _ h6=>.region<|.q Z (ae Z) ?_;refine Ops.q Z (((cA (a:=36) (b:=2) Z Z).trans (congrArg (fun z=>some (Value.bool z,[])) (decide_eq_false U))))<|.q Z (ae Z)<|.on Z Z<|.q Z (ae Z)<|.on Z Z<|.q Z (((oq (a:=36) (b:=10) Z Z).trans (congrArg (fun z=>some (Value.bool z,[])) (decide_eq_false U))))<|.q Z (bw Z Z)<|.q Z (ae Z)<|.on Z Z<|.q Z (ae Z) ?_;refine Ops.on Z Z<|.q Z (((fu (a:=36) (b:=36) Z Z).trans (congrArg (fun z=>some (Value.bool z,[])) (decide_eq_false U))))<|.q Z (bw Z Z)<|.nil<|h6 _ _<|.cond_false Z<|.skip<|h4 _ _<|.seq fun _ h8=>.region ?_;refine Ops.l Z (fun _ _ b7 _=>ca (cs:=aw (List.replicate 65 0)) wf Un rfl fun A11 a8 a1=>?_);have aD:=hu.own.ne_new wf a1.lo;have a5:=aL a7 (Nat.le_trans ac.n a1.lo);have ad:=hu.le a1.le;have az:=ac.trans a1.le;refine b7 _ _<|.nil<|h8 _ _<|.seq fun _ aE=>.region<|.q Z (ah Z)<|.nil<|aE _ _<|.seq fun _ aF=>.seq fun _ aG=>?_;refine ao.region<|.q Z (ae Z)<|.nil<|aG _ _<|.cond_false Z<|.skip<|aF _ _<|.seq fun _ aI=>.seq fun _ aP=>.region ?_;refine Ops.q Z (ae Z)<|.l Z (fun _ _ ap _=>aK Z (RM A11) ?_);rintro ba A28 ⟨rfl,rfl⟩;refine ap _ _<|.nil<|aP _ _<|.cond_false Z<|.seq fun _ aR=>.region<|.q Z (ae Z)<|.q Z (KG u3 Tu Z O)<|.q Z (ah Z)<|.nil ?_;refine aR _ _<|.seq fun _ aS=>.block<|.loop (X:=Nat × Nat × List UInt8) (fun ⟨m,i,l⟩=>[(0,u),(1,.int .u64 ((m:Nat):Int)),(3,.bool (false)),(4,.bool (true)),(10,.slice none 0 0),(11,aX ([])),(12,.pointer (some ⟨a8,0,none⟩)),(13,num ((i:Nat):Int)),(17,.int .u64 ((36:Nat):Int))]) (fun ⟨m,i,l⟩ B=>(tn n m i l)/\A0.le B/\Fresh A0 B u 1 (aw o)/\B.get a8=some (.row true (aw l) 65)/\V.blk u ≠ some a8) (fun ⟨m,i,l⟩=>m) (⟨n,65,List.replicate 65 0⟩) (QT Z Z Z Z Z Z Z Z Z) (⟨tn.start hn,az,ad,a1.get,aD⟩) ?_;rintro ⟨m,i,l⟩ B35 ⟨hfm,aa,a4,a0,D⟩;refine ao.wf fun ab=>?_;have hix:=hfm.idx;have hll:=hfm.len;have hmn:=hfm.le;have hnx:=fun q:36<=m=>hfm.next q;refine ao.seq fun _ aT=>.seq fun _ aV=>.region<|.q Z (ae Z)<|.q Z (ae Z)<|.q Z (wj (b:=36) Z Z)<|.nil<|aV _ _<|.if rfl (fun b8=>?_) (fun b8=>?_)
 ·refine ao.skip<|aT _ _<|.block<|.seq fun _ aY=>.region<|.q Z (ae Z)<|.q Z (jc (b:=1) Z Z (by (try have:=(hnx O).2);omega))<|.q Z (ah Z)<|.nil<|aY _ _ ?_;refine ao.seq fun _ aZ=>.region<|.q Z (ae Z)<|.q Z (ae Z)<|.q Z (S9 (b:=36) Z Z (by (try have:=(hnx O).2);omega))<|.q Z (ah Z)<|.nil<|aZ _ _<|.seq fun _ b0=>.region ?_;refine Ops.q Z (ae Z)<|.q Z (ae Z)<|.q Z (ae Z)<|.q Z (ae Z)<|.q Z (S7 (b:=36) Z Z (by (try have:=(hnx O).2);omega))<|.q Z (Ta Z Z (by (try have:=(hnx O).2);omega))<|.q Z (uC u9 Z Z (by simp only [List.length_cons,List.length_nil];omega))<|.q Z (iM (i:=i - 1) RZ nI Z Z O)<|.l Z (fun _ _ ar _=>aM (off:=(i - 1)) ab rfl (by simp) rfl rfl nI a0 OI rfl (o4 _ _ _) fun A49 a2=>?_);have ag:=a4.keep a2.keep D;have aA:=al aa a7 a5 a2.n a2.keep;refine ar _ _<|.nil<|b0 _ _<|.region<|.q Z (ae Z)<|.q Z (ah Z)<|.nil ?_;exact ⟨⟨m / 36,i - 1,l.set ((i - 1)) (([48,49,50,51,52,53,54,55,56,57,97,98,99,100,101,102,103,104,105,106,107,108,109,110,111,112,113,114,115,116,117,118,119,120,121,122]).getD (m - ((m / 36) * 36)) 0)⟩,QT Z Z Z Z Z Z Z Z Z,Z,⟨(hnx ‹_›).1,aA,ag,a2.get,D⟩,O1⟩
 refine ao.exit<|aS _ _<|.seq fun _ b1=>.region<|.q Z (ae Z)<|.q Z (jc (b:=1) Z Z (by (try have:=(hnx O).2);omega))<|.q Z (ah Z)<|.nil<|b1 _ _<|.region ?_;refine Ops.q Z (ae Z)<|.q Z (ae Z)<|.q Z (uC u9 Z Z (by simp only [List.length_cons,List.length_nil];omega))<|.q Z (iM (i:=i - 1) RZ nI Z Z O)<|.l Z (fun _ _ av _=>aM (off:=(i - 1)) ab rfl (by simp) rfl rfl nI a0 OI rfl (o4 _ _ _) fun A56 a3=>?_);have a9:=a4.keep a3.keep D;have aB:=al aa a7 a5 a3.n a3.keep;refine av _ _<|.nil<|aI _ _<|.seq fun _ b2=>.seq fun _ b3=>.region<|.q Z (ae Z)<|.nil<|b3 _ _<|.cond_false Z ?_;refine ao.skip<|b2 _ _<|.seq fun _ b9=>.seq fun _ b5=>.region<|.q Z (ae Z)<|.nil<|b5 _ _<|.cond_true Z<|.seq fun _ b6=>?_;have hlast:=hfm.last O;unfold xb at hlast;have hfl:=rE n;refine ao.region<|.q Z (ae Z)<|.q Z (ae Z)<|.sliceArr (j:=i - 1) Y RZ nI Z Z O ?_;have hsa:=PN (j:=i - 1) a3.get (by simp only [bn,List.length_set];omega);simp only [bn,List.length_set,hfm.len,tH] at hsa;rw [hlast] at hsa;refine Ops.l Z (fun _ _ ay _=>cJ rfl rfl eo nI zc z5 rfl U eo (fun _ h=>by cases h) a9.own (hsa.listOf (n:=(ik n).length) (by simp only [bn] <;> omega) O) (by simp only [bn] <;> omega) (Fp _) (by show (_ + _) * 1<=_;simp only [bn,List.length_cons,List.length_nil];(try simp only [List.length_append,List.length_cons,List.length_nil]);omega) Of fun A71 bb a6=>?_);rw [iw] at a6;obtain ⟨ai,aC⟩:=Fresh.grow a9 aB a7 a6;refine ay _ _<|.q Z (ah Z)<|.nil<|b6 _ _<|.rt (by exact be Z (⟨_,Z,aC,a6.wf,ai⟩))

theorem RB (u:Value) (o:List UInt8) (n:Nat) (A0 A:AH) (a4:A0.le A) (a6:A0.wf) (hu:Fresh A0 A u 1 (aw o)) (ho:o.length<=100000000000) (hn:n<=1000000):bG Tryz.prog 206 #[u,.int .u64 ((n:Nat):Int),num ((36:Nat):Int)] A (fun v A1=>A0.le A1/\A1.wf/\Fresh A0 A1 v 1 (aw (o ++ ik n))):=by
 refine yl Tryz.call206 Tryz.func206 Z Tryz.results206 Tryz.ntmps206 Z (fun wf=>?_);refine ao.seq fun _ h2=>.region<|.q Z (ah Z)<|.nil<|h2 _ _<|.seq fun _ h4=>.seq fun _ h6=>.region<|.q Z (ae Z)<|.q Z (((oq (a:=36) (b:=10) Z Z).trans (congrArg (fun z=>some (Value.bool z,[])) (decide_eq_false U)))) ?_;refine Ops.nil<|h6 _ _<|.cond_false Z<|.skip<|h4 _ _<|.seq fun _ h8=>.region<|.q Z (ae Z)<|.q Z (ae Z)<|.q Z (ae Z) ?_;have V:=cg (bs:=[blk u]) a4 (sj hu.lo nf);refine Ops.l Z (fun _ _ a3 _=>aK Z (Iy u o n (A.hide [blk u]) A (cM A [blk u]) (cr wf) (hu.hide (by simp)) ho hn) ?_);rintro a5 A11 ⟨h,rfl,X,h,D⟩;have a0:=D.base V;have a1:=V.trans X;refine a3 _ _<|.q Z (ae Z)<|.q Z (bf Z Z)<|.q Z (bf Z Z)<|.q Z (ah Z)<|.nil<|h8 _ _<|.seq fun _ a2=>.region<|.q Z (ae Z) ?_;refine Ops.q Z (ah Z)<|.nil<|a2 _ _<|.rt (by exact be Z (⟨a1,h,a0⟩))

theorem Pg (u:Value) (o:List UInt8) (n:Nat) (A0 A:AH) (a4:A0.le A) (a7:A0.wf) (hu:Fresh A0 A u 1 (aw o)) (ho:o.length<=100000000000) (hn:n<=1000000):bG Tryz.prog 202 #[u,num ((n:Nat):Int),num ((36:Nat):Int)] A (fun v A1=>A0.le A1/\A1.wf/\Fresh A0 A1 v 1 (aw (o ++ ik n))):=by
 refine yl Tryz.call202 Tryz.func202 Z Tryz.results202 Tryz.ntmps202 Z (fun wf=>?_);refine ao.seq fun _ h2=>.region<|.q Z (ah Z)<|.nil<|h2 _ _<|.seq fun _ h4=>.region<|.q Z (ae Z)<|.q Z (KG u2 Tu Z O)<|.q Z (ah Z) ?_;refine Ops.nil<|h4 _ _<|.seq fun _ h6=>.seq fun _ h8=>.region<|.q Z (ae Z)<|.q Z (cA (b:=0) Z Z)<|.nil<|h8 _ _<|.if rfl (fun p9=>?_) (fun p9=>?_)
 ·refine ao.seq fun _ a5=>?_;exact absurd ‹n < 0› O
 refine ao.skip<|h6 _ _<|.seq fun _ a3=>.region<|.q Z (ae Z)<|.q Z (ae Z)<|.q Z (ae Z) ?_;have D:=cg (bs:=[blk u]) a4 (sj hu.lo nf);refine Ops.l Z (fun _ _ a1 _=>aK Z (RB u o n (A.hide [blk u]) A (cM A [blk u]) (cr wf) (hu.hide (by simp)) ho hn) ?_);rintro a6 A16 ⟨V,X,h⟩;have a0:=h.base D;have a2:=D.trans V;refine a1 _ _<|.q Z (ah Z)<|.nil<|a3 _ _<|.rt (by exact be Z (⟨a2,X,a0⟩))

theorem RA (u:Value) (o:List UInt8) (n:Nat) (A0 A:AH) (a3:A0.le A) (a4:A0.wf) (hu:Fresh A0 A u 1 (aw o)) (ho:o.length<=100000000000) (hn:n<=1000000):bG Tryz.prog 184 #[u,num ((n:Nat):Int),num ((36:Nat):Int)] A (fun v A1=>A0.le A1/\A1.wf/\Fresh A0 A1 v 1 (aw (o ++ ik n))):=by
 refine yl Tryz.call184 Tryz.func184 Z Tryz.results184 Tryz.ntmps184 Z (fun wf=>?_);refine ao.seq fun _ h2=>.region<|.q Z (ah Z)<|.nil<|h2 _ _<|.seq fun _ h4=>.region<|.q Z (ae Z)<|.q Z (ae Z)<|.q Z (ae Z) ?_;have D:=cg (bs:=[blk u]) a3 (sj hu.lo nf);refine Ops.l Z (fun _ _ a2 _=>aK Z (Pg u o n (A.hide [blk u]) A (cM A [blk u]) (cr wf) (hu.hide (by simp)) ho hn) ?_);rintro v6 A7 ⟨a0,a1,h⟩;have V:=h.base D;have X:=D.trans a0;refine a2 _ _<|.q Z (ah Z)<|.nil<|h4 _ _<|.rt (by exact be Z (⟨X,a1,V⟩))
end Go.Proofs.YtjppkekmddjcfaaGreatDoor

namespace Go.Proofs.YtjppkekmddjcfaaGreatDoor
open Go Go.RowKit V
structure AO (k:Nat) (acc:List Bool) (N:List (List Int)):Prop where
  sym:1<=k/\k<=400
  len:acc.length=N.length
  num:N.length<=30000
  row:∀ s,s < N.length->(N.getD s []).length=k
  val:∀ s x,s < N.length->x < k->-1<=gR N s x/\gR N s x < N.length
section
variable {N B B1:List (List Int)} {s j n:Nat} {m:Int} {row:List Int}
theorem uD (n:Nat) (v:Value):List.replicate n v=em (List.replicate n v):=rfl
theorem tv {s:Int}:(nS B s m).length=B.length:=by unfold nS;split <;> simp
theorem Jb {s:Int} (h:0<=m):nS B s m=B.set m.toNat (B.getD m.toNat [] ++ [s]):=if_pos h
theorem MZ {s:Int} (h:¬ 0<=m):nS B s m=B:=if_neg h
theorem tu {s:Int} {c:Nat} (h:∀ t,(B.getD t []).length<=c) (hm:0<=m->m.toNat < B.length):∀ t,((nS B s m).getD t []).length<=c + 1:=fun t=>by
  unfold nS;split
  · rename_i q
    rw [d4 (hm q)]
    split
    · have:=h m.toNat;rw [List.length_append,List.length_singleton];omega
    · have:=h t;omega
  · have:=h t;omega
structure IY (N:List (List Int)) (s:Nat) (B:List (List Int)):Prop where
  run:(List.range s).foldl (jk N) (List.replicate N.length [])=B
  len:B.length=N.length
  bound:∀ t,(B.getD t []).length<=1000 * s
structure Dx (N:List (List Int)) (s:Nat) (B:List (List Int)) (j:Nat) (B1:List (List Int)):Prop where
  out:IY N s B
  run:((N.getD s []).take j).foldl (fun B m=>nS B s m) B=B1
  len:B1.length=N.length
  bound:∀ t,(B1.getD t []).length<=1000 * s + j
theorem IY.start:IY N 0 (List.replicate N.length []):=⟨rfl,by simp,fun t=>by
  by_cases h:t < N.length <;> simp [List.getD_eq_getElem?_getD,h]⟩
theorem Dx.start (h:IY N s B):Dx N s B 0 B:=⟨h,rfl,h.len,h.bound⟩
theorem Dx.step (h:Dx N s B j B1) (hj:j < (N.getD s []).length) (hm:0<=(N.getD s []).getD j 0->((N.getD s []).getD j 0).toNat < N.length):Dx N s B (j + 1) (nS B1 s ((N.getD s []).getD j 0)) :=
  ⟨h.out,by rw [<- fK (z:=0) hj,List.foldl_append,h.run];rfl,by rw [tv];exact h.len,tu h.bound fun q=>by rw [h.len];exact hm q⟩
theorem Dx.yes (h:Dx N s B j B1) (hj:j < (N.getD s []).length) (hm:0<=(N.getD s []).getD j 0->((N.getD s []).getD j 0).toNat < N.length) (q:0<=(N.getD s []).getD j 0):Dx N s B (j + 1) (B1.set ((N.getD s []).getD j 0).toNat (B1.getD ((N.getD s []).getD j 0).toNat [] ++ [(s:Int)])):=by
  have:=h.step hj hm;rwa [Jb q] at this
theorem Dx.no (h:Dx N s B j B1) (hj:j < (N.getD s []).length) (hm:0<=(N.getD s []).getD j 0->((N.getD s []).getD j 0).toNat < N.length) (q:¬ 0<=(N.getD s []).getD j 0):Dx N s B (j + 1) B1:=by
  have:=h.step hj hm;rwa [MZ q] at this
theorem IY.next (h:Dx N s B j B1) (hj:(N.getD s []).length=j) (hk:j<=1000):IY N (s + 1) B1 :=
  ⟨by rw [List.range_succ,List.foldl_append,h.out.run];show jk N B s=B1;rw [jk,<- h.run,<- hj,List.take_length],h.len,fun t=>by have:=h.bound t;omega⟩
theorem IY.fin (h:IY N s B) (hs:s=N.length):B=dH N:=by subst hs;exact h.run.symm
theorem J7 {s p:Int} {t:Nat}:p ∈ (nS B s m).getD t [] ↔ p ∈ B.getD t []\/(0<=m/\m.toNat=t/\t < B.length/\p=s):=by
  unfold nS;split
  · rename_i q
    by_cases hm:m.toNat < B.length
    · rw [d4 hm]
      split
      · rename_i e;subst e
        rw [List.mem_append,List.mem_singleton]
        exact ⟨fun h=>h.imp id fun z=>⟨q,rfl,hm,z⟩,fun h=>h.imp id fun z=>z.2.2.2⟩
      · rename_i e
        exact ⟨.inl,fun h=>h.elim id fun z=>absurd z.2.1.symm e⟩
    · rw [List.set_eq_of_length_le O]
      exact ⟨.inl,fun h=>h.elim id fun z=>absurd z.2.2.1 O⟩
  · exact ⟨.inl,fun h=>h.elim id fun z=>absurd z.1 ‹_›⟩
theorem rG {s:Int}:∀ (row:List Int) (B:List (List Int)),(row.foldl (fun B m=>nS B s m) B).length=B.length
  | [],_=>rfl
  | a :: row,B=>by rw [List.foldl_cons,rG row];exact tv
theorem wd {s p:Int} {t:Nat}:∀ (row:List Int) (B:List (List Int)),p ∈ (row.foldl (fun B m=>nS B s m) B).getD t [] ↔ p ∈ B.getD t []\/((t:Int) ∈ row/\t < B.length/\p=s)
  | [],B=>by simp
  | a :: row,B=>by
    rw [List.foldl_cons,wd row,J7,tv,List.mem_cons]
    constructor
    · rintro ((h | ⟨h1,h2,h3,h4⟩) | ⟨h1,h2,h3⟩)
      · exact .inl h
      · exact .inr ⟨.inl O,h3,h4⟩
      · exact .inr ⟨.inr h1,h2,h3⟩
    · rintro (h | ⟨h1 | h1,h2,h3⟩)
      · exact .inl (.inl h)
      · exact .inl (.inr ⟨by omega,by omega,h2,h3⟩)
      · exact .inr ⟨h1,h2,h3⟩
theorem we {p:Int} {t:Nat}:∀ (L:List Nat) (B:List (List Int)),p ∈ (L.foldl (jk N) B).getD t [] ↔ p ∈ B.getD t []\/(t < B.length/\∃ s ∈ L,p=(s:Int)/\(t:Int) ∈ N.getD s [])
  | [],B=>by simp
  | a :: L,B=>by
    rw [List.foldl_cons,we L,jk,wd,rG]
    constructor
    · rintro ((h | ⟨h1,h2,h3⟩) | ⟨h1,s,h2,h3⟩)
      · exact .inl h
      · exact .inr ⟨h2,a,List.mem_cons_self,h3,h1⟩
      · exact .inr ⟨h1,s,List.mem_cons_of_mem _ h2,h3⟩
    · rintro (h | ⟨h1,s,h2,h3,h4⟩)
      · exact .inl (.inl h)
      · rcases List.mem_cons.1 h2 with rfl | h2
        · exact .inl (.inr ⟨h4,h1,h3⟩)
        · exact .inr ⟨h1,s,h2,h3,h4⟩
theorem zm {p:Int} {t:Nat}:p ∈ (dH N).getD t [] ↔ t < N.length/\∃ s,s < N.length/\p=(s:Int)/\(t:Int) ∈ N.getD s []:=by
  rw [dH,we]
  have e:(List.replicate N.length ([]:List Int)).getD t []=[]:=by by_cases h:t < N.length <;> simp [List.getD_eq_getElem?_getD,h]
  rw [e];simp
theorem qj:(dH N).length=N.length:=by
  have:∀ (L:List Nat) (B:List (List Int)),(L.foldl (jk N) B).length=B.length:=by
    intro L
    induction L with
    | nil=>intro B;rfl
    | cons a L ih=>intro B;rw [List.foldl_cons,ih,jk,rG]
  rw [dH,this];simp
theorem yv {s m:Int} {c:Nat} (h:∀ t,(B.getD t []).length<=c):∀ t,((nS B s m).getD t []).length<=c + 1:=fun t=>by
  by_cases hm:m.toNat < B.length
  · exact tu h (fun _=>hm) t
  · have:=h t
    unfold nS;split
    · rw [List.set_eq_of_length_le O];omega
    · omega
theorem sh {s:Int}:∀ (row:List Int) (B:List (List Int)) (c:Nat),(∀ t,(B.getD t []).length<=c)->∀ t,((row.foldl (fun B m=>nS B s m) B).getD t []).length<=c + row.length
  | [],B,c,h=>h
  | a :: row,B,c,h=>fun t=>by
    have:=sh (s:=s) row (nS B s a) (c + 1) (yv h) t
    rw [List.foldl_cons,List.length_cons];omega
theorem si {k:Nat} (hk:∀ s,(N.getD s []).length<=k):∀ (L:List Nat) (B:List (List Int)) (c:Nat),(∀ t,(B.getD t []).length<=c)->∀ t,((L.foldl (jk N) B).getD t []).length<=c + k * L.length
  | [],B,c,h=>fun t=>by have:=h t;simpa using this
  | a :: L,B,c,h=>fun t=>by
    have h1:=si hk L (jk N B a) (c + k) (fun t=>by have:=sh (s:=(a:Int)) (N.getD a []) B c h t;have:=hk a;unfold jk;omega) t
    rw [List.foldl_cons,List.length_cons,Nat.mul_succ];omega
theorem Bf {k:Nat} (hk:∀ s,(N.getD s []).length<=k) (t:Nat):((dH N).getD t []).length<=k * N.length:=by
  have:=si hk (List.range N.length) (List.replicate N.length []) 0 (fun t=>by by_cases h:t < N.length <;> simp [List.getD_eq_getElem?_getD,h]) t
  rw [List.length_range] at this;unfold dH;omega
theorem AO.rows {k:Nat} {acc:List Bool} (h:AO k acc N) (s:Nat):(N.getD s []).length<=400:=by
  by_cases q:s < N.length
  · have:=h.row s q;have:=h.sym;omega
  · simp [List.getD_eq_getElem?_getD,q]
theorem AO.back {k:Nat} {acc:List Bool} (h:AO k acc N) (t:Nat):((dH N).getD t []).length<=12000000:=by
  have:=Bf h.rows t;have:=h.num;omega
structure lR (n:Nat) (sn:List Bool) (Q:List Int):Prop where
  len:sn.length=n
  nd:Q.Nodup
  rng:∀ q ∈ Q,0<=q/\q < n
  is:∀ p,p < n->sn.getD p false=decide ((p:Int) ∈ Q)
variable {sn:List Bool} {Q Q1:List Int} {acc:List Bool} {i:Nat}
theorem lR.nil:lR n (List.replicate n false) []:=⟨by simp,List.nodup_nil,(fun _ h=>by cases h),fun p hp=>by simp [hp]⟩
theorem lR.add (h:lR n sn Q) {p:Int} (hp:0<=p/\p < n) (hn:p ∉ Q):lR n (sn.set p.toNat true) (Q ++ [p]) :=
  ⟨by simpa using h.len,oh h.nd hn,pb h.rng hp,fun q hq=>by
    rw [d4 (by rw [h.len];omega)]
    split
    · rename_i e;subst e;simp;exact .inr O
    · rename_i e
      rw [h.is q hq]
      congr 1
      rw [List.mem_append,List.mem_singleton,eq_iff_iff]
      exact ⟨.inl,fun z=>z.elim id fun z=>absurd O e⟩⟩
theorem lR.qlen (h:lR n sn Q):Q.length<=n:=by
  have:=pc (l:=Q.map Int.toNat) (n:=n) ?_ ?_
  · simpa using this
  · rw [List.nodup_iff_pairwise_ne,List.pairwise_map]
    exact List.Pairwise.imp_of_mem (fun {a c} ha hc hac e=>hac (by have:=h.rng a ha;have:=h.rng c hc;omega)) h.nd
  · intro x hx
    obtain ⟨a,ha,rfl⟩:=List.mem_map.1 hx
    have:=h.rng a ha;omega
theorem vE:pw acc (i + 1)=pw acc i ++ (if acc.getD i false then [(i:Int)] else []):=by
  rw [pw,List.range_succ,List.filter_append,List.map_append]
  congr 1
  by_cases h:acc.getD i false=true
  · rw [if_pos h,List.filter_cons,if_pos h];rfl
  · rw [if_neg h,List.filter_cons,if_neg h];rfl
theorem yu (h:Q=pw acc i) (q:acc.getD i false=true):Q ++ [(i:Int)]=pw acc (i + 1):=by rw [h,vE,if_pos q]
theorem DA (h:Q=pw acc i) (q:acc.getD i false=false):Q=pw acc (i + 1):=by rw [h,vE,q];simp
theorem tr {q:Int}:q ∈ pw acc i ↔ ∃ s,s < i/\acc.getD s false=true/\q=(s:Int):=by
  simp only [pw,List.mem_map,List.mem_filter,List.mem_range]
  exact ⟨fun ⟨s,⟨h1,h2⟩,h3⟩=>⟨s,h1,h2,h3.symm⟩,fun ⟨s,h1,h2,h3⟩=>⟨s,⟨h1,h2⟩,h3.symm⟩⟩
theorem yr:(i:Int) ∉ pw acc i:=fun h=>by obtain ⟨s,h1,_,h3⟩:=tr.1 h;omega
structure yj (acc:List Bool) (N:List (List Int)) (i:Nat) (sn:List Bool) (Q:List Int):Prop where
  seen:lR N.length sn Q
  le:i<=Q.length
  fin:∃ f,f + i=N.length + 1/\jp (dH N) f i Q=gh acc N
structure yk (acc:List Bool) (N:List (List Int)) (i:Nat) (sn:List Bool) (Q:List Int) (j:Nat) (sn1:List Bool) (Q1:List Int):Prop where
  out:yj acc N i sn Q
  lt:i < Q.length
  seen:lR N.length sn1 Q1
  run:(((dH N).getD (Q.getD i 0).toNat []).take j).foldl iK Q=Q1
variable {sn1:List Bool}
theorem yj.start (h:lR N.length sn (pw acc acc.length)):yj acc N 0 sn (pw acc acc.length):=⟨h,Nat.zero_le _,_,rfl,rfl⟩
theorem oa:∀ (P Q:List Int),Q <+: P.foldl iK Q
  | [],Q=>List.prefix_refl _
  | p :: P,Q=>by
    rw [List.foldl_cons]
    refine List.IsPrefix.trans ?_ (oa P (iK Q p))
    unfold iK;split
    · exact List.prefix_refl _
    · exact List.prefix_append _ _
theorem mS {B:List (List Int)}:∀ (f i:Nat) (Q:List Int),Q <+: jp B f i Q
  | 0,_,_=>List.prefix_refl _
  | f + 1,i,Q=>by
    unfold jp;split
    · exact (oa _ _).trans (mS f _ _)
    · exact List.prefix_refl _
theorem yj.pre (h:yj acc N i sn Q):Q <+: gh acc N:=by obtain ⟨f,_,e⟩:=h.fin;rw [<- e];exact mS _ _ _
theorem yj.get (h:yj acc N i sn Q) (hi:i < Q.length):(gh acc N).getD i 0=Q.getD i 0/\i < (gh acc N).length:=⟨uz h.pre hi,Nat.lt_of_lt_of_le hi h.pre.length_le⟩
theorem yj.at (h:yj acc N i sn Q) (hi:i < Q.length):0<=Q.getD i 0/\(Q.getD i 0).toNat < N.length:=by have:=h.seen.rng _ (bx (d:=(0:Int)) hi);omega
theorem yk.start (h:yj acc N i sn Q) (hi:i < Q.length):yk acc N i sn Q 0 sn Q:=⟨h,hi,h.seen,rfl⟩
theorem yk.rng (hj:j < ((dH N).getD (Q.getD i 0).toNat []).length):0<=((dH N).getD (Q.getD i 0).toNat []).getD j 0/\(((dH N).getD (Q.getD i 0).toNat []).getD j 0).toNat < N.length:=by
  obtain ⟨_,s,h2,h3,_⟩:=zm.1 (bx (d:=(0:Int)) hj)
  rw [h3];exact ⟨by omega,by simpa using h2⟩
theorem yk.next (h:yk acc N i sn Q j sn1 Q1) (hj:j < ((dH N).getD (Q.getD i 0).toNat []).length) {Q2:List Int} {D:List Bool} (hs:lR N.length D Q2) (e:iK Q1 (((dH N).getD (Q.getD i 0).toNat []).getD j 0)=Q2):yk acc N i sn Q (j + 1) D Q2 :=
  ⟨h.out,h.lt,hs,by rw [<- fK (z:=(0:Int)) hj,List.foldl_append,h.run];exact e⟩
theorem yk.old (h:yk acc N i sn Q j sn1 Q1) (hj:j < ((dH N).getD (Q.getD i 0).toNat []).length) (q:(!sn1.getD (((dH N).getD (Q.getD i 0).toNat []).getD j 0).toNat false)=false):yk acc N i sn Q (j + 1) sn1 Q1:=by
  have hr:=yk.rng hj
  refine h.next hj h.seen ?_
  rw [h.seen.is _ hr.2] at q
  rw [iK,if_pos]
  simp only [Bool.not_eq_false',decide_eq_true_eq] at q
  rwa [show ((((dH N).getD (Q.getD i 0).toNat []).getD j 0).toNat:Int)=((dH N).getD (Q.getD i 0).toNat []).getD j 0 by omega] at q
theorem yk.new (h:yk acc N i sn Q j sn1 Q1) (hj:j < ((dH N).getD (Q.getD i 0).toNat []).length) (q:(!sn1.getD (((dH N).getD (Q.getD i 0).toNat []).getD j 0).toNat false)=true):yk acc N i sn Q (j + 1) (sn1.set (((dH N).getD (Q.getD i 0).toNat []).getD j 0).toNat true) (Q1 ++ [((dH N).getD (Q.getD i 0).toNat []).getD j 0]):=by
  have hr:=yk.rng hj
  rw [h.seen.is _ hr.2] at q
  simp only [Bool.not_eq_true',decide_eq_false_iff_not] at q
  rw [show ((((dH N).getD (Q.getD i 0).toNat []).getD j 0).toNat:Int)=((dH N).getD (Q.getD i 0).toNat []).getD j 0 by omega] at q
  exact h.next hj (h.seen.add O q) (by rw [iK,if_neg q])
theorem yj.next (h:yk acc N i sn Q j sn1 Q1) (hj:((dH N).getD (Q.getD i 0).toNat []).length=j):yj acc N (i + 1) sn1 Q1:=by
  obtain ⟨f,hf,e⟩:=h.out.fin
  have h1:=h.out.seen.qlen
  have h2:=h.lt
  obtain ⟨f,rfl⟩:∃ g,f=g + 1:=⟨f - 1,by omega⟩
  have hr:=h.run
  rw [<- hj,List.take_length] at hr
  have hp:Q <+: Q1:=by rw [<- hr];exact oa _ _
  refine ⟨h.seen,by have:=hp.length_le;omega,f,by omega,?_⟩
  rw [<- e,jp,if_pos h2,hr]
theorem yj.end (h:yj acc N i sn Q) (hi:Q.length<=i):Q=gh acc N/\i=(gh acc N).length:=by
  obtain ⟨f,hf,e⟩:=h.fin
  have h1:=h.seen.qlen
  have h2:=h.le
  have e2:Q=gh acc N:=by
    rw [<- e]
    cases f with
    | zero=>rfl
    | succ f=>rw [jp,if_neg O]
  exact ⟨e2,by rw [<- e2];omega⟩
end
def jh (A B:AH) (bo:Nat) (v:Value):Prop:=∀ b,blk v=some b->A.n<=b/\¬ lM bo B b
section
variable {A B C E M:AH} {bo b:Nat} {v u vY:Value} {cY:Nat} {n:Nat} {xs:List Value}
theorem jh.off (h:jh A C bo v) (g:C.get bo=some (.row true [vY] cY)):Dy v [some bo,blk vY]:=fun c hc=>by
  have:=(h c hc).2
  refine lQ (fun q=>this (.inl q)) (ng (fun q=>this (.inr ⟨_,_,g,q⟩)) ka)
theorem jh.ne (h:jh A C bo v):blk v ≠ some bo:=fun q=>(h bo q).2 (.inl Z)
theorem jh.yield (h:jh A C bo v) (fr:nP C v n xs) (g:C.get bo=some (.row true [vY] cY)) (hR:cD bo (C.hide [some bo,blk vY]) E):jh A E bo v:=fun b hb=>⟨(h b hb).1,fun z=>by
  obtain ⟨o,ho⟩:=fr.blkget hb
  have:=hR.ow b z
  rw [bF ho (h.off g b hb)] at this;cases this⟩
theorem jh.nm (hs:jh A C bo v) (hq:jh A C bo u) (h:b < A.n\/lM bo C b):some b ∉ [blk v,blk u]:=by
  refine ng (fun z=>?_) (ng (fun z=>?_) ka)
  · have:=hs b z;rcases h with h | h;omega;exact this.2 h
  · have:=hq b z;rcases h with h | h;omega;exact this.2 h
theorem jh.next {v':Value} (hs:jh A C bo v) (hq:jh A C bo u) (g:C.get bo=some (.row true [vY] cY)) (l:∀ b,blk vY=some b->∃ o,C.get b=some o) (gE:E.get bo=some (.row true [vY] cY))
    (nj:∀ b,blk v'=some b->(C.hide [blk v,blk u]).get b=none) (lo:∀ b,blk v'=some b->A.n<=b):jh A E bo v':=fun b hb=>⟨lo b hb,fun z=>by
  have z2:lM bo C b:=z.same (by rw [gE,g])
  have hex:∃ o,C.get b=some o:=by
    rcases z2.val g with rfl | q
    · exact ⟨_,g⟩
    · exact l b q
  obtain ⟨o,ho⟩:=hex
  have:=nj b hb
  rw [bF ho (jh.nm hs hq (.inr z2))] at this;cases this⟩
theorem jh.start (g:C.get bo=some (.row true [vY] cY)) (l:∀ b,blk vY=some b->∃ o,A.get b=some o) (gA:A.get bo=some (.row true [vY] cY)) (nj:∀ b,blk v=some b->A.get b=none) (lo:∀ b,blk v=some b->A.n<=b):jh A C bo v:=fun b hb=>⟨lo b hb,fun z=>by
  rcases z.val g with rfl | q
  · have:=nj _ hb;rw [gA] at this;cases this
  · obtain ⟨o,ho⟩:=l b q;have:=nj _ hb;rw [ho] at this;cases this⟩
theorem cD.keep (h:cD bo M C) (le:M.le E) (g:C.get bo=some (.row true [vY] cY)) (gE:E.get bo=some (.row true [vY] cY)):cD bo M E:=⟨le,h.wf,fun b hb=>h.ow b (hb.same (by rw [gE,g]))⟩
theorem J5 {s:Value} (h:∀ b,blk s=some b->A.n<=b) (ap:lu C s n xs v E) (hn:A.n<=C.n):∀ b,blk v=some b->A.n<=b:=fun b hb=>(ap.blk b hb).elim (h b) fun q=>Nat.le_trans hn q
theorem Rh:∀ b,blk (.slice none 0 0)=some b->A.n<=b:=fun _ q=>by cases q
end
end Go.Proofs.YtjppkekmddjcfaaGreatDoor

namespace Go.Proofs.YtjppkekmddjcfaaGreatDoor
open Go Go.RowKit V
set_option maxRecDepth 100000
theorem lS:dF Tryz.prog 160=some false:=by kernel_rfl

theorem RD (b:Nat) (rwb:Bool) (capb k:Nat) (av nv fv bv:Value) (acc:List Bool) (N:List (List Int)) (rows:List Value) (A:AH) (hok:AO k acc N) (hb:A.get b=some (.row rwb [num (k:Int),av,nv,fv,bv] capb)) (hav:bJ A 1 av (cq acc)) (hnv:bJ A 1 nv (em rows)) (hrl:rows.length=N.length) (hF:∀ i,i < N.length->bJ A 1 (rows.getD i undef) (c9 (N.getD i []))):bG Tryz.prog 200 #[.pointer (some ⟨b,0,none⟩)] A (fun v A1=>∃ rows2,A.le A1/\A1.wf/\Fresh A A1 v 1 (em rows2)/\kg A A1 rows2 (dH N)/\aq v rows2):=by
 refine iy Tryz.call200 Tryz.func200 Z Tryz.results200 Tryz.ntmps200 Z (fun wf=>?_);have ac:=AH.le.refl A;obtain ⟨⟨dj,dk⟩,hal,hnl,hrow,hval⟩:=hok;refine ao.seq fun _ h2=>.region<|.q Z (ah Z)<|.nil<|h2 _ _<|.seq fun _ h4=>.region<|.q Z (ae Z)<|.q Z (c8 Z)<|.q Z (aj jm iB U Z) ?_;refine Ops.q Z (ak iu Z Z (ac.get _ _ hb) Z)<|.q Z (bH (n:=acc.length) kR Z (hav.le ac) O (ff _))<|.l Z (fun _ _ bR _=>lL (n:=acc.length) (k:=acc.length) wf ac rfl rfl m5 fC I0 DY rfl (Nat.le_refl _) (by show 24 * _<=_;omega) O fun A7 b6 bY aC=>?_);rw [uD] at aC;have ab:=ac.trans bY.le;have aP:kg A A7 (List.replicate acc.length (Value.slice none 0 0)) (List.replicate acc.length []):=kg.nils;refine bR _ _<|.q Z (ah Z)<|.nil<|h4 _ _<|.seq fun _ bm=>.seq fun _ bp=>.region<|.q Z (ae Z)<|.q Z (c8 Z)<|.q Z (aj o6 iQ U Z) ?_;refine Ops.q Z (ak jN Z Z (ab.get _ _ hb) Z)<|.q Z (bH (n:=rows.length) m5 Z (hnv.le ab) O (iO _))<|.q Z (ae Z)<|.nil<|bp _ _<|.block<|.loop (X:=Nat × Value × List Value × List (List Int)) (fun ⟨s,ov,R,Bk⟩=>[(3,ov),(17,nv),(18,num ((rows.length:Nat):Int)),(19,num ((s:Nat):Int))]) (fun ⟨s,ov,R,Bk⟩ B=>(s<=N.length/\IY N s Bk)/\A.le B/\Fresh A B ov 1 (em R)/\kg A B R Bk/\aq ov R) (fun ⟨s,ov,R,Bk⟩=>N.length - s) (⟨0,.slice (some ⟨b6,0,none⟩) acc.length acc.length,List.replicate acc.length (Value.slice none 0 0),List.replicate acc.length []⟩) (ks Z Z Z Z) (⟨⟨Nat.zero_le _,by first | exact IY.start | (rw [hal];exact IY.start)⟩,ab,aC,aP,Aj⟩) ?_;rintro ⟨s,ov,R,Bk⟩ B17 ⟨⟨hs,hbk⟩,a8,a7,a5,a1⟩;refine ao.wf fun b5=>?_;have hro:=fun q:s < N.length=>hrow s q;have hva:=fun x (q:s < N.length) (z:x < k)=>hval s x q z;refine ao.seq fun _ br=>.region<|.q Z (cA Z Z)<|.nil<|br _ _<|.seq fun _ bu=>.if rfl (fun c4=>?_) (fun c4=>?_)
 ·refine ao.skip<|bu _ _<|.seq fun _ bA=>.block<|.seq fun _ bB=>.region<|.q Z (ae Z) ?_;obtain ⟨cX,d3,cS,dK,cF,dD,dv,b8,bT,bb,ch,aF⟩:=bJ.at (i:=s) (hnv.le a8) Ok O;refine Ops.q Z (aJ m5 fC Z b8 Z bT)<|.q Z (ak kW Z Z bb ((dh aF).trans (eH O)))<|.q Z (ah Z)<|.q Z (ah Z)<|.nil<|bB _ _<|.seq fun _ bC=>.region<|.q Z (ae Z)<|.q Z (bH (n:=((N.getD s [])).length) er Z ((hF s O).le a8) O (eB _)) ?_;refine Ops.q Z (ae Z)<|.nil<|bC _ _<|.block<|.loop (X:=Nat × Value × List Value × List (List Int)) (fun ⟨j,a3,R1,Bk1⟩=>[(3,a3),(4,num ((s:Nat):Int)),(17,nv),(18,num ((rows.length:Nat):Int)),(19,num ((s:Nat):Int)),(24,rows.getD s undef),(25,num ((((N.getD s [])).length:Nat):Int)),(26,num ((j:Nat):Int))]) (fun ⟨j,a3,R1,Bk1⟩ B=>(j<=k/\Dx N s Bk j Bk1)/\A.le B/\Fresh A B a3 1 (em R1)/\kg A B R1 Bk1/\aq a3 R1) (fun ⟨j,a3,R1,Bk1⟩=>k - j) (⟨0,ov,R,Bk⟩) (xd Z Z Z Z Z Z Z Z) (⟨⟨Nat.zero_le _,Dx.start hbk⟩,a8,a7,a5,a1⟩) ?_;rintro ⟨j,a3,R1,Bk1⟩ B32 ⟨⟨hj,hbj⟩,a9,a0,V,D⟩;refine ao.wf fun aA=>?_;have cB:R1.length=Bk1.length:=by first | exact kg.len ‹_›
  have cv:=hbj.len;have hvj:=fun z:j < k=>hva j O z;simp only [gR] at hvj;have hbd:=hbj.bound ((N.getD s []).getD j 0).toNat;refine ao.seq fun _ bD=>.region<|.q Z (cA Z Z)<|.nil<|bD _ _<|.seq fun _ bL=>.if rfl (fun c7=>?_) (fun c7=>?_)
  ·refine ao.skip<|bL _ _<|.seq fun _ aD=>.block<|.seq fun _ bM=>.region ?_;obtain ⟨cZ,dd,cU,dO,cH,dG,dw,b9,bU,bc,ck,aG⟩:=bJ.at (i:=j) ((hF s O).le a9) O3 O;refine Ops.q Z (aJ er dx Z b9 Z bU)<|.q Z (ak fj Z Z bc ((dh aG).trans (df O)))<|.q Z (ah Z)<|.nil<|bM _ _<|.seq fun _ bO=>.region<|.q Z (ae Z)<|.q Z (pz Z Z)<|.nil ?_;refine bO _ _<|.if rfl (fun cb=>?_) (fun cb=>?_)
   ·refine ao.region<|.q Z (ae Z)<|.q Z (ae Z)<|.q Z (ae Z)<|.q Z (ae Z) ?_;obtain ⟨d0,di,cV,dS,cK,dI,dz,ba,bV,bd,cu,aI⟩:=bJ.at (i:=(((N.getD s [])).getD j 0).toNat) a0.slc Ok O;refine Ops.q Z (aJ m5 fC Z ba (jr O) bV)<|.q Z (ak kW Z Z bd ((dh aI).trans (eH O)))<|.q Z (ae Z)<|.l Z (fun _ _ aV _=>aN (c:=[num ((s:Nat):Int)]) aA rfl (ax er dx z3 rfl U U rfl) fun A50 d1 a2=>?_);have cC:=V.ne_new aA a2.lo;have ag:=a0.le a2.le;have a6:=V.le a2.le;have b0:=a9.trans a2.le;refine aV _ _<|.l Z (fun _ _ aY _=>cJ (ys:=[num ((s:Nat):Int)]) rfl rfl er dx mg z3 rfl U er (fun _ h=>by cases h) (a6.fr ((((N.getD s [])).getD j 0).toNat) O).own (bW (n:=1) a2.get Z) rfl rfl (by show (_ + _) * 8<=_;simp only [aH,List.length_cons,List.length_nil];(try simp only [List.length_append,List.length_cons,List.length_nil]);omega) O2 fun A58 dW a4=>?_);rw [show ([num ((s:Nat):Int)]:List Value)=c9 [((s:Nat):Int)] from rfl,dM] at a4;obtain ⟨ai,b1⟩:=Fresh.grow (a6.fr ((((N.getD s [])).getD j 0).toNat) O) b0 wf a4;have b3:=bh.appd (dR D (s:=(((N.getD s [])).getD j 0).toNat) (by have:=a6.len;omega)).symm ag.own a2.wf a4;have aT:=ag.appd a4 (dR D (s:=(((N.getD s [])).getD j 0).toNat) (by have:=a6.len;omega)).symm;have az:=CY (s:=(((N.getD s [])).getD j 0).toNat) D b3.symm;have aR:=a6.appRow a2.wf O a4 ai;obtain ⟨ay,ar,ad,cc,_⟩:=ai.own.slice;subst cc;refine aY _ _ ?_;obtain ⟨b7,dJ,d2,cf,cP,aB,aE,bl,dZ,c3,dV,bS⟩:=aT.at1 (x:=(((N.getD s [])).getD j 0).toNat) Ok;rw [cw] at aE;refine Ops.q Z (aJ m5 fC Z aB (jr O) (by rw [aE];omega))<|.l Z (fun _ _ aZ _=>aM (off:=(((N.getD s [])).getD j 0).toNat) (c':=cf.set ((((N.getD s [])).getD j 0).toNat) (.slice ay ar ad)) a4.wf rfl (by simp) rfl rfl fC bl (by show ((((N.getD s [])).getD j 0).toNat) + 1<=_;omega) rfl rfl fun A72 aa=>?_);have aS:=aR.keep aa.keep (fun r hr=>az r hr b7 (by rw [aB];rfl));have ap:=bS (.slice ay ar ad) A72 aa;rw [KX] at ap;have b2:=al b1 wf c3 aa.n aa.keep;refine aZ _ _<|.nil<|aD _ _<|.region<|.q Z (bN (b:=1) Z Z O)<|.q Z (ae Z)<|.nil ?_;exact ⟨⟨j + 1,a3,R1.set ((((N.getD s [])).getD j 0).toNat) (Value.slice ay ar ad),Bk1.set ((((N.getD s [])).getD j 0).toNat) (((Bk1.getD ((((N.getD s [])).getD j 0).toNat) [])) ++ [((s:Nat):Int)])⟩,xd Z Z Z Z Z Z Z Z,Z,⟨⟨by omega,by first | exact hbj.yes O O ‹_› | exact hbj.no O O ‹_›⟩,b2,ap,aS,az⟩,O1⟩
   refine ao.skip<|aD _ _<|.region<|.q Z (bN (b:=1) Z Z O)<|.q Z (ae Z)<|.nil ?_;exact ⟨⟨j + 1,a3,R1,Bk1⟩,xd Z Z Z Z Z Z Z Z,Z,⟨⟨by omega,by first | exact hbj.yes O O ‹_› | exact hbj.no O O ‹_›⟩,a9,a0,V,D⟩,O1⟩
  refine ao.exit<|bA _ _<|.region<|.q Z (bN (b:=1) Z Z O)<|.q Z (ae Z)<|.nil ?_;exact ⟨⟨s + 1,a3,R1,Bk1⟩,ks Z Z Z Z,Z,⟨⟨by omega,IY.next hbj O O⟩,a9,a0,V,D⟩,O1⟩
 refine ao.exit<|bm _ _<|.seq fun _ bP=>.region<|.q Z (ae Z)<|.q Z (ah Z)<|.nil<|bP _ _<|.rt (by exact be Z (⟨_,a8,b5,a7,lD a5 (hbk.fin O),a1⟩))

theorem RL (b:Nat) (A:AH):bG Tryz.prog 180 #[.pointer (some ⟨b,0,none⟩)] A (fun v A1=>∃ b1,v=.func (.func 199) #[] #[.pointer (some ⟨b1,0,none⟩)]/\A.le A1/\A1.wf/\A1.get b1=some (.row true [.pointer (some ⟨b,0,none⟩)] 1)/\A.get b1=none):=by
 refine iy Tryz.call180 Tryz.func180 Z Tryz.results180 Tryz.ntmps180 Z (fun wf=>?_);have V:=AH.le.refl A;refine ao.seq fun _ h2=>.region<|.l Z (fun _ _ X _=>ej wf rfl rfl fun A5 b4 h=>?_);have D:=aL wf (Nat.le_trans V.n h.lo);have a0:=V.trans h.le;refine X _ _<|.q Z (ah Z)<|.nil<|h2 _ _<|.seq fun _ h9=>.region<|.q Z (lg Z Z)<|.q Z (ah Z)<|.nil<|h9 _ _ ?_;refine ao.ret ?_;repeat first | with_reducible refine bE ?_ | with_reducible refine bk ?_
 exact be Z (⟨b4,Z,a0,h.wf,h.get,D⟩)

theorem PB (D lp:Nat) (J:Nat->AH->Prop) (b:Nat) (rwb:Bool) (capb k:Nat) (av nv fv bv:Value) (acc:List Bool) (N:List (List Int)) (rows:List Value) (M A:AH) (b1 k1:Nat) (w1:Bool) (hP:cD D M A) (ec:J 0 A) (cv:M.get b1=some (.row w1 [.pointer (some ⟨b,0,none⟩)] k1)) (hok:AO k acc N) (hb:M.get b=some (.row rwb [num (k:Int),av,nv,fv,bv] capb)) (hav:bJ M 1 av (cq acc)) (hnv:bJ M 1 nv (em rows)) (hrl:rows.length=N.length) (hF:∀ i,i < N.length->bJ M 1 (rows.getD i undef) (c9 (N.getD i []))) (hclo:∀ i C C2,J i C->C2.wf->C.n<=C2.n->(∀ b o,(b < A.n\/lM D C b)->C.get b=some o->C2.get b=some o)->J i C2) (hv:∀ i C,J i C->∃ v cap,C.get D=some (.row true [v] cap)/\∀ b,blk v=some b->∃ o,C.get b=some o) (hy:∀ k C M2,k < (gh acc N).length->C.wf->J k C->cD D M2 C->kz Tryz.prog lp #[num ((gh acc N).getD k 0)] C (fun v C2=>v=.bool true/\J (k + 1) C2/\C2.wf/\cD D M2 C2)):bG Tryz.prog 199 #[.func (.yield lp) #[] #[],.pointer (some ⟨b1,0,none⟩)] A (fun v A1=>J (gh acc N).length A1/\A1.wf/\cD D M A1):=by
 refine lN Tryz.call199 Tryz.func199 Z Tryz.results199 Tryz.ntmps199 Z (fun wf=>?_);have b3:=hP.le;have d2:=hok;obtain ⟨⟨k3,k4⟩,hal,hnl,hrow,hval⟩:=hok;obtain ⟨vX,cX,gX,lX⟩:=hv _ _ ec;have h4:=AH.le.refl A;have hbl:=qj (N:=N);refine ao.seq fun _ h2=>.region<|.q Z (ak lS Z Z (b3.get _ _ cv) Z)<|.l Z (fun _ _ h1 _=>aK Z (RD b _ _ k av nv fv bv acc N rows A d2 (b3.get _ _ hb) (hav.le b3) (hnv.le b3) hrl (fun i hi=>(hF i hi).le b3)) ?_);rintro v4 A5 ⟨bb,dv,bD,bL,bd,g3⟩;have h9:=b3.trans dv;have bV:=h4.trans dv;have xr:=bL;have xf:=bd;have xs:=g3;have gZ:=bV.get _ _ gX;have aS:M.le (A5.hide [some D,blk vX]):=cg h9 (fun b hb=>by simp only [List.mem_cons,List.not_mem_nil,or_false,Option.some.injEq] at hb;rcases hb with rfl | hb;exact hP.ow _ (.inl Z);exact hP.ow _ (.inr ⟨_,_,gX,hb.symm⟩));have hbk:bJ (A5.hide [some D,blk vX]) 1 v4 (em bb):=pY bL gX lX (fun b h=>bL.lo b h);have hFK:∀ i,i < N.length->bJ (A5.hide [some D,blk vX]) 1 (bb.getD i undef) (c9 ((dH N).getD i [])):=fun i hi=>pY (bd.fr i (by rw [qj];exact hi)) gX lX (fun b h=>(bd.fr i (by rw [qj];exact hi)).lo b h);have hrb:bb.length=N.length:=by rw [bd.len,qj]
 have aI:=cM A5 [some D,blk vX];have bp:=cr (bs:=[some D,blk vX]) bD;have d0:(A5.hide [some D,blk vX]).get D=none:=cn (by simp);have d1:∀ b,blk vX=some b->(A5.hide [some D,blk vX]).get b=none:=fun b h=>cn (by simp [h]);have bS:A.n<=(A5.hide [some D,blk vX]).n:=bV.n;generalize hM1:A5.hide [some D,blk vX]=M1 at aS hbk hFK aI bp d0 d1 bS;refine h1 _ _<|.q Z (ah Z)<|.nil<|h2 _ _<|.seq fun _ gg=>.region<|.q Z (ak lS Z Z (aI.get _ _ (aS.get _ _ cv)) Z)<|.q Z (c8 Z)<|.q Z (aj jm iB U Z)<|.q Z (ak iu Z Z (aI.get _ _ (aS.get _ _ hb)) Z) ?_;refine Ops.q Z (bH (n:=acc.length) kR Z ((hav.le aS).le aI) O (ff _))<|.l Z (fun _ _ fi _=>lL (n:=acc.length) (k:=acc.length) bD aI rfl rfl kR lJ z4 JO rfl (Nat.le_refl _) (by show 1 * _<=_;omega) O fun A13 g6 aT cc=>?_);rw [m9] at cc;have ba:=ne_new bD gZ aT.lo;have cB:=aL wf (Nat.le_trans bV.n aT.lo);have dw:=Nat.le_trans aI.n aT.lo;have gl:=aT.le.get _ _ gZ;have b8:=aI.trans aT.le;have ft:=bV.trans aT.le;refine fi _ _<|.q Z (ah Z)<|.nil<|gg _ _<|.seq fun _ gm=>.region<|.q Z (ah Z)<|.nil<|gm _ _<|.seq fun _ gp=>?_;refine ao.seq fun _ gq=>.region<|.q Z (ak lS Z Z (b8.get _ _ (aS.get _ _ cv)) Z)<|.q Z (c8 Z)<|.q Z (aj jm iB U Z)<|.q Z (ak iu Z Z (b8.get _ _ (aS.get _ _ hb)) Z)<|.q Z (bH (n:=acc.length) kR Z ((hav.le aS).le b8) O (ff _))<|.q Z (ae Z)<|.nil<|gq _ _ ?_;refine ao.block<|.loop (X:=Nat × List Bool × List Int × Value × Value) (fun ⟨s,sn,Q,sv,qv⟩=>[(0,.func (.yield lp) #[] #[]),(3,v4),(4,sv),(5,qv),(22,av),(23,num ((acc.length:Nat):Int)),(24,num ((s:Nat):Int))]) (fun ⟨s,sn,Q,sv,qv⟩ B=>(s<=acc.length/\lR N.length sn Q/\Q=pw acc s)/\M1.le B/\Fresh M1 B sv 1 (cq sn)/\Fresh M1 B qv 1 (c9 Q)/\B.get D=some (.row true [vX] cX)/\V.blk sv ≠ some D/\V.blk qv ≠ some D/\bh sv qv/\A.le B/\(∀ b,V.blk sv=some b->A.get b=none)/\(∀ b,V.blk qv=some b->A.get b=none)/\((∀ b,blk sv=some b->A.n<=b)/\(∀ b,blk qv=some b->A.n<=b))) (fun ⟨s,sn,Q,sv,qv⟩=>acc.length - s) (⟨0,List.replicate acc.length false,[],.slice (some ⟨g6,0,none⟩) acc.length acc.length,.slice none 0 0⟩) (vK Z Z Z Z Z Z Z) (⟨⟨Nat.zero_le _,by rw [hal];exact lR.nil,rfl⟩,b8,cc,(Fresh.nil M1 A13 1),gl,(fun q=>by cases q;exact ba rfl),(fun q=>by cases q),(bh.symm bh.nil),ft,(fun b q=>by cases q;exact cB),(fun _ q=>by cases q),⟨(fun b q=>by cases q;exact Nat.le_trans bS dw),Rh⟩⟩) ?_;rintro ⟨s,sn,Q,sv,qv⟩ B26 ⟨⟨hs,hse,hQ⟩,b9,aG,aF,aa,ap,ai,ab,aY,aB,aA,los,loq⟩;refine ao.wf fun bc=>?_;have hsl:=hse.len;have hql:=hse.qlen;have cV:=hse.add (p:=(s:Int));refine ao.seq fun _ gs=>.region<|.q Z (cA Z Z)<|.nil<|gs _ _<|.seq fun _ gA=>.if rfl (fun hd=>?_) (fun hd=>?_)
 ·refine ao.skip<|gA _ _<|.seq fun _ e9=>.block<|.seq fun _ gC=>.region<|.q Z (ae Z) ?_;obtain ⟨Sy,k0,iV,km,iN,k9,k6,g7,h7,g9,hI,ez⟩:=bJ.at (i:=s) ((hav.le aS).le b9) Oi O;refine Ops.q Z (aJ kR lJ Z g7 Z h7)<|.q Z (ak vm Z Z g9 ((dh ez).trans (ek O)))<|.q Z (ah Z)<|.q Z (ah Z)<|.nil<|gC _ _<|.seq fun _ gD=>.region<|.q Z (ae Z)<|.nil ?_;refine gD _ _<|.ifB Z (fun he=>?_) (fun he=>?_)
  ·refine ao.seq fun _ gE=>.region<|.q Z (ae Z)<|.q Z (ae Z) ?_;obtain ⟨e7,kc,jX,hg,iS,bM,ev,gc,kD,hc,kv,h6⟩:=aG.at1 (x:=s) Oi;rw [bz] at ev;refine Ops.q Z (aJ kR lJ Z bM Z (by rw [ev];omega))<|.l Z (fun _ _ fl _=>aM (off:=s) (c':=hg.set s (.bool (true))) bc rfl (by simp) rfl rfl lJ gc (by show s + 1<=_;omega) rfl rfl fun A45 aE=>?_);have gF:=aE.keep _ _ (fun q=>ap (by rw [bM];exact congrArg some q.symm)) aa;have eQ:=aF.keep aE.keep (ab e7 (by rw [bM];rfl));have cf:=h6 (.bool (true)) A45 aE;rw [kr] at cf;have d3:=al aY wf (aB e7 (by rw [bM];rfl)) aE.n aE.keep;have dj:=al b9 bp hc aE.n aE.keep;refine fl _ _<|.nil<|gE _ _<|.region<|.q Z (ae Z)<|.q Z (ae Z)<|.l Z (fun _ _ fm _=>aN (c:=[num ((s:Nat):Int)]) aE.wf rfl (ax er dx z3 rfl U U rfl) fun A54 j3 ag=>?_);have gf:=aL wf (Nat.le_trans d3.n ag.lo);have ha:=Nat.le_trans dj.n ag.lo;have ea:=ag.le.get _ _ gF;have ch:=cf.le ag.le;have ck:=eQ.le ag.le;have dk:=dj.trans ag.le;have dd:=d3.trans ag.le;refine fm _ _<|.l Z (fun _ _ fn _=>cJ (ys:=[num ((s:Nat):Int)]) rfl rfl er dx mg z3 rfl U er (fun _ h=>by cases h) ck.own (bW (n:=1) ag.get Z) rfl rfl (by show (_ + _) * 8<=_;simp only [aH,List.length_cons,List.length_nil];(try simp only [List.length_append,List.length_cons,List.length_nil]);omega) O2 fun A64 hh ay=>?_);rw [show ([num ((s:Nat):Int)]:List Value)=c9 [((s:Nat):Int)] from rfl,dM] at ay;obtain ⟨eS,fO⟩:=Fresh.grow ck dk bp ay;have gG:=ay.keep ai ea;have fR:=ay.ne ai ag.wf ea;have g1:=bh.appd (show bh qv sv from (bh.symm ab)) ch.own ag.wf ay;have eT:=ch.appd ay (bh.symm ab);have fQ:=J5 loq ay (Nat.le_trans bS dk.n);have fD:=tc dd wf ay aA;have fS:=td dd wf ay aA;refine fn _ _<|.q Z (ah Z)<|.nil<|e9 _ _<|.region<|.q Z (bN (b:=1) Z Z O)<|.q Z (ae Z)<|.nil ?_;exact ⟨⟨s + 1,sn.set s true,Q ++ [((s:Nat):Int)],sv,hh⟩,vK Z Z Z Z Z Z Z,Z,⟨⟨by omega,by first | exact hse | exact cV O (by rw [hQ];exact yr),by first | exact yu hQ ‹_› | exact DA hQ ‹_›⟩,fO,eT,eS,gG,ap,fR,(bh.symm g1),fD,aB,fS,⟨los,fQ⟩⟩,O1⟩
  refine ao.skip<|e9 _ _<|.region<|.q Z (bN (b:=1) Z Z O)<|.q Z (ae Z)<|.nil ?_;exact ⟨⟨s + 1,sn,Q,sv,qv⟩,vK Z Z Z Z Z Z Z,Z,⟨⟨by omega,by first | exact hse | exact cV O (by rw [hQ];exact yr),by first | exact yu hQ ‹_› | exact DA hQ ‹_›⟩,b9,aG,aF,aa,ap,ai,ab,aY,aB,aA,⟨los,loq⟩⟩,O1⟩
 refine ao.exit<|gp _ _<|.seq fun _ gL=>.region<|.q Z (ah Z)<|.nil<|gL _ _<|.block ?_;have fe:=hclo _ _ _ ec bc aY.n (fun b o _ h=>aY.get b o h);have oS:jh A B26 D sv:=jh.start aa lX gX aB los;have oQ:jh A B26 D qv:=jh.start aa lX gX aA loq;have b5:M1.le (B26.hide [some D,blk vX,blk sv,blk qv]):=cg b9 (qz d0 (sj d1 (sj aG.lo (sj aF.lo nf))));have frS:Fresh (B26.hide [some D,blk vX,blk sv,blk qv]) B26 sv 1 (cq sn):=aG.hide (by simp);have frQ:Fresh (B26.hide [some D,blk vX,blk sv,blk qv]) B26 qv 1 (c9 Q):=aF.hide (by simp);have en:cD D (B26.hide [some D,blk vX,blk sv,blk qv]) B26:=⟨cM _ _,cr bc,fun b hb=>cn (by rcases hb.val aa with rfl | q;simp;simp [q])⟩;have cU:=cM B26 [some D,blk vX,blk sv,blk qv];have br:=cr (bs:=[some D,blk vX,blk sv,blk qv]) bc;have hseQ:Q=pw acc acc.length:=by rw [hQ,show s=acc.length by omega]
 have fo:yj acc N 0 sn Q:=by subst hseQ;exact yj.start hse
 generalize hM2:(B26.hide [some D,blk vX,blk sv,blk qv])=M2 at b5 frS frQ en cU br;refine ao.loop (X:=Nat × List Bool × List Int × Value × Value) (fun ⟨i,b2,Q1,a6,a5⟩=>[(0,.func (.yield lp) #[] #[]),(3,v4),(4,a6),(5,a5),(8,num ((i:Nat):Int))]) (fun ⟨i,b2,Q1,a6,a5⟩ B=>(yj acc N i b2 Q1)/\M2.le B/\Fresh M2 B a6 1 (cq b2)/\Fresh M2 B a5 1 (c9 Q1)/\bh a6 a5/\(J i B/\cD D M2 B/\jh A B D a6/\jh A B D a5)) (fun ⟨i,b2,Q1,a6,a5⟩=>N.length + 1 - i) (⟨0,sn,Q,sv,qv⟩) (rn Z Z Z Z Z) (⟨fo,cU,frS,frQ,ab,⟨fe,en,oS,oQ⟩⟩) ?_;rintro ⟨i,b2,Q1,a6,a5⟩ B81 ⟨hlv,hY,aZ,az,bB,cH,cP,ey,ex⟩;refine ao.wf fun bC=>?_;have hS:=hlv.seen.len;have hO:=hlv.seen.qlen;have hil:=hlv.le;have hat:=fun q:i < Q1.length=>hlv.at q;have hget:=fun q:i < Q1.length=>hlv.get q;have hbb:=d2.back (Q1.getD i 0).toNat;refine ao.seq fun _ gM=>.seq fun _ gN=>.region<|.q Z (ae Z)<|.q Z (ae Z)<|.q Z (bH (n:=Q1.length) er Z az.slc O (eB _))<|.q Z (cA Z Z)<|.nil<|gN _ _<|.if rfl (fun hf=>?_) (fun hf=>?_)
 ·refine ao.skip<|gM _ _<|.seq fun _ gP=>.block<|.seq fun _ gQ=>.seq fun _ gS=>?_;obtain ⟨vY,cY,gY,lY⟩:=hv _ _ cH;have hyy:=hy i B81 _ (hget O).2 bC cH (cD.full gY bC);rw [(hget O).1] at hyy;refine ao.regionJ ?_;refine jy.q jT Z Z (ae Z) ?_;refine jy.q jT Z Z (ae Z) ?_;refine jy.q jT Z Z (ae Z) ?_;obtain ⟨j4,k2,iX,kp,iT,kl,k7,g8,h8,ge,hJ,eA⟩:=bJ.at (i:=i) az.slc O3 O;refine jy.q jT Z Z (aJ er dx Z g8 Z h8) ?_;refine jy.q jT Z Z (ak fj Z Z ge ((dh eA).trans (df O))) ?_;refine jy.y jT rfl rfl rfl (hyy) fun kC A95 fq=>?_;obtain ⟨rfl,eg,hk,b0⟩:=fq;obtain ⟨vZ,cZ,gZ,lZ⟩:=hv _ _ eg;have b7:=b0.mono (cP.sub gY) cP.wf;have eV:=aZ.off (jh.off ey gY) b0.le;have cu:=az.off (jh.off ex gY) b0.le;have bm:=jh.yield ey aZ.own gY b0;have bl:=jh.yield ex az.own gY b0;have h5:=cM A95 [blk a6,blk a5];have bY:=cr (bs:=[blk a6,blk a5]) hk;have njS:∀ b,blk a6=some b->(A95.hide [blk a6,blk a5]).get b=none:=fun b h=>cn (by simp [h]);have njQ:∀ b,blk a5=some b->(A95.hide [blk a6,blk a5]).get b=none:=fun b h=>cn (by simp [h]);have h3:A.n<=M2.n:=Nat.le_trans bS b5.n;refine jy.q jT Z Z (eE Z) ?_;refine jy.nil ?_;refine gS _ _<|.cond_false Z<|.skip<|gQ _ _<|.seq fun _ h0=>.region<|.q Z (ae Z)<|.q Z (ae Z)<|.q Z (ae Z) ?_;obtain ⟨hB,hK,hw,iv,hp,hZ,hU,eC,fI,eX,hl,dG⟩:=bJ.at (i:=i) cu.slc O3 O;refine Ops.q Z (aJ er dx Z eC Z fI)<|.q Z (ak fj Z Z eX ((dh dG).trans (df O))) ?_;obtain ⟨hC,hL,hx,iD,hq,i1,hV,eG,fL,eY,hm,dI⟩:=bJ.at (i:=(Q1.getD i 0).toNat) ((hbk.le b5).le b7.le) (by simp only [cw];have:=hat O;omega) O;refine Ops.q Z (aJ m5 fC Z eG (jr (by have:=hat O;omega)) fL)<|.q Z (ak kW Z Z eY ((dh dI).trans (eH (by have:=hat O;omega))))<|.q Z (bH (n:=((((dH N)).getD ((Q1.getD i 0).toNat) [])).length) er Z (((fun i hi=>(hFK i hi).le b5) ((Q1.getD i 0).toNat) (by have:=hat O;omega)).le b7.le) O (eB _))<|.q Z (ae Z)<|.nil<|h0 _ _<|.block<|.loop (X:=Nat × List Bool × List Int × Value × Value) (fun ⟨j,aV,Q2,ar,aC⟩=>[(0,.func (.yield lp) #[] #[]),(3,v4),(4,ar),(5,aC),(8,num ((i:Nat):Int)),(57,bb.getD ((Q1.getD i 0).toNat) undef),(58,num ((((((dH N)).getD ((Q1.getD i 0).toNat) [])).length:Nat):Int)),(59,num ((j:Nat):Int))]) (fun ⟨j,aV,Q2,ar,aC⟩ B=>(j<=((dH N).getD (Q1.getD i 0).toNat []).length/\yk acc N i b2 Q1 j aV Q2)/\M2.le B/\Fresh M2 B ar 1 (cq aV)/\Fresh M2 B aC 1 (c9 Q2)/\B.get D=some (.row true [vZ] cZ)/\V.blk ar ≠ some D/\V.blk aC ≠ some D/\bh ar aC/\(A95.hide [blk a6,blk a5]).le B/\(∀ b,V.blk ar=some b->(A95.hide [blk a6,blk a5]).get b=none)/\(∀ b,V.blk aC=some b->(A95.hide [blk a6,blk a5]).get b=none)/\((∀ b,blk ar=some b->A.n<=b)/\(∀ b,blk aC=some b->A.n<=b))) (fun ⟨j,aV,Q2,ar,aC⟩=>((dH N).getD (Q1.getD i 0).toNat []).length - j) (⟨0,b2,Q1,a6,a5⟩) (xd Z Z Z Z Z Z Z Z) (⟨⟨Nat.zero_le _,yk.start hlv O⟩,b7.le,eV,cu,gZ,bm.ne,bl.ne,bB,h5,njS,njQ,⟨(fun b q=>(bm b q).1),(fun b q=>(bl b q).1)⟩⟩) ?_;rintro ⟨j,aV,Q2,ar,aC⟩ B103 ⟨⟨hj,hlj⟩,aR,ac,aD,a1,a4,a3,a2,aP,a9,a8,bA,bu⟩;refine ao.wf fun c7=>?_;have hT:=hlj.seen.len;have hR:=hlj.seen.qlen;have hrg:=fun q:j < ((dH N).getD (Q1.getD i 0).toNat []).length=>yk.rng q;refine ao.seq fun _ f2=>.region<|.q Z (cA Z Z)<|.nil<|f2 _ _<|.seq fun _ f3=>.if rfl (fun fV=>?_) (fun fV=>?_)
  ·refine ao.skip<|f3 _ _<|.seq fun _ cC=>.block<|.seq fun _ f4=>.region ?_;obtain ⟨hD,hM,hz,iF,hr,i2,hW,eL,fM,eZ,hn,dJ⟩:=bJ.at (i:=j) (((fun i hi=>(hFK i hi).le b5) ((Q1.getD i 0).toNat) (by have:=hat O;omega)).le aR) O3 O;refine Ops.q Z (aJ er dx Z eL Z fM)<|.q Z (ak fj Z Z eZ ((dh dJ).trans (df O)))<|.q Z (ah Z)<|.nil<|f4 _ _<|.seq fun _ f6=>.region<|.q Z (ae Z)<|.q Z (ae Z) ?_;obtain ⟨hE,hN,hA,iH,ht,ih,hX,eN,fN,f0,ho,dK⟩:=bJ.at (i:=(((((dH N)).getD ((Q1.getD i 0).toNat) [])).getD j 0).toNat) ac.slc Oi O;refine Ops.q Z (aJ kR lJ Z eN (jr O) fN)<|.q Z (ak vm Z Z f0 ((dh dK).trans (ek O)))<|.q Z (eE Z)<|.nil<|f6 _ _<|.ifB Z (fun fX=>?_) (fun fX=>?_)
   ·refine ao.seq fun _ f7=>.region<|.q Z (ae Z)<|.q Z (ae Z) ?_;obtain ⟨cb,it,hH,g0,hu,b6,di,f1,j2,fT,j1,fE⟩:=ac.at1 (x:=(((((dH N)).getD ((Q1.getD i 0).toNat) [])).getD j 0).toNat) Oi;rw [bz] at di;refine Ops.q Z (aJ kR lJ Z b6 (jr O) (by rw [di];omega))<|.l Z (fun _ _ dW _=>aM (off:=(((((dH N)).getD ((Q1.getD i 0).toNat) [])).getD j 0).toNat) (c':=g0.set ((((((dH N)).getD ((Q1.getD i 0).toNat) [])).getD j 0).toNat) (.bool (true))) c7 rfl (by simp) rfl rfl lJ f1 (by show ((((((dH N)).getD ((Q1.getD i 0).toNat) [])).getD j 0).toNat) + 1<=_;omega) rfl rfl fun A123 ad=>?_);have f9:=ad.keep _ _ (fun q=>a4 (by rw [b6];exact congrArg some q.symm)) a1;have dO:=aD.keep ad.keep (a2 cb (by rw [b6];rfl));have bO:=fE (.bool (true)) A123 ad;rw [kr] at bO;have bT:=al aP bY (a9 cb (by rw [b6];rfl)) ad.n ad.keep;have c3:=al aR br fT ad.n ad.keep;refine dW _ _<|.nil<|f7 _ _<|.region<|.q Z (ae Z)<|.q Z (ae Z)<|.l Z (fun _ _ dZ _=>aN (c:=[num (((((dH N)).getD ((Q1.getD i 0).toNat) [])).getD j 0)]) ad.wf rfl (ax er dx z3 rfl U U rfl) fun A132 hG a0=>?_);have g4:=aL bY (Nat.le_trans bT.n a0.lo);have g5:=Nat.le_trans c3.n a0.lo;have cF:=a0.le.get _ _ f9;have bP:=bO.le a0.le;have bR:=dO.le a0.le;have c4:=c3.trans a0.le;have bU:=bT.trans a0.le;refine dZ _ _<|.l Z (fun _ _ e0 _=>cJ (ys:=[num (((((dH N)).getD ((Q1.getD i 0).toNat) [])).getD j 0)]) rfl rfl er dx mg z3 rfl U er (fun _ h=>by cases h) bR.own (bW (n:=1) a0.get Z) rfl rfl (by show (_ + _) * 8<=_;simp only [aH,List.length_cons,List.length_nil];(try simp only [List.length_append,List.length_cons,List.length_nil]);omega) O2 fun A142 g2 a7=>?_);rw [show ([num (((((dH N)).getD ((Q1.getD i 0).toNat) [])).getD j 0)]:List Value)=c9 [((((dH N)).getD ((Q1.getD i 0).toNat) [])).getD j 0] from rfl,dM] at a7;obtain ⟨dS,e2⟩:=Fresh.grow bR c4 br a7;have fd:=a7.keep a3 cF;have e4:=a7.ne a3 a0.wf cF;have e6:=bh.appd (show bh aC ar from (bh.symm a2)) bP.own a0.wf a7;have dV:=bP.appd a7 (bh.symm a2);have e3:=J5 bu a7 (Nat.le_trans h3 c4.n);have e1:=tc bU bY a7 a8;have e5:=td bU bY a7 a8;refine e0 _ _<|.q Z (ah Z)<|.nil<|cC _ _<|.region<|.q Z (bN (b:=1) Z Z O)<|.q Z (ae Z)<|.nil ?_;exact ⟨⟨j + 1,aV.set ((((((dH N)).getD ((Q1.getD i 0).toNat) [])).getD j 0).toNat) true,Q2 ++ [((((dH N)).getD ((Q1.getD i 0).toNat) [])).getD j 0],ar,g2⟩,xd Z Z Z Z Z Z Z Z,Z,⟨⟨by omega,by first | exact hlj.new O ‹_› | exact hlj.old O ‹_›⟩,e2,dV,dS,fd,a4,e4,(bh.symm e6),e1,a9,e5,⟨bA,e3⟩⟩,O1⟩
   refine ao.skip<|cC _ _<|.region<|.q Z (bN (b:=1) Z Z O)<|.q Z (ae Z)<|.nil ?_;exact ⟨⟨j + 1,aV,Q2,ar,aC⟩,xd Z Z Z Z Z Z Z Z,Z,⟨⟨by omega,by first | exact hlj.new O ‹_› | exact hlj.old O ‹_›⟩,aR,ac,aD,a1,a4,a3,a2,aP,a9,a8,⟨bA,bu⟩⟩,O1⟩
  refine ao.exit<|gP _ _<|.region<|.q Z (ae Z)<|.q Z (bN (b:=1) Z Z O)<|.q Z (ah Z)<|.nil ?_;have cK:=hclo _ _ _ eg c7 aP.n (fun b o hb h=>aP.get b o (bF h (jh.nm bm bl hb)));have cS:=cD.keep b7 aR gZ a1;have dD:=jh.next bm bl gZ lZ a1 a9 bA;have dz:=jh.next bm bl gZ lZ a1 a8 bu;exact ⟨⟨i + 1,aV,Q2,ar,aC⟩,rn Z Z Z Z Z,Z,⟨yj.next hlj O,aR,ac,aD,a2,⟨cK,cS,dD,dz⟩⟩,O1⟩
 refine ao.exit ?_;repeat first | with_reducible refine bE ?_ | with_reducible refine bk ?_
 repeat first | with_reducible refine fa ?_ | with_reducible refine ep ?_ | with_reducible refine dX U ?_ | with_reducible refine dY ?_ | with_reducible refine dt ?_
 exact wn (vs:=[]) Z (⟨by rw [<- (hlv.end O).2];exact cH,bC,cP.mono (aS.trans b5) hP.wf⟩)
end Go.Proofs.YtjppkekmddjcfaaGreatDoor

namespace Go.Proofs.YtjppkekmddjcfaaGreatDoor
open Go Go.RowKit V
abbrev iY (p:Bool × Bool):Value:=.agg #[.bool p.1,.bool p.2]
section
variable {P:Program} {w:World} {kt bt:TypeId} {p q:Bool × Bool}
structure I9 (P:Program) (kt bt:TypeId):Prop where
  arr:P.underlying kt=some (.array 2 bt)
  bool:P.underlying bt=some .bool
  sz:du P bt=some 1
  ag:dF P bt=some false
theorem De (h:I9 P kt bt):(part bt #[.bool p.1,.bool p.2] 0).run P w=.ok (.bool p.1) w:=mp (by rw [ol,h.ag];rfl)
theorem Df (h:I9 P kt bt):(part bt #[.bool p.1,.bool p.2] 1).run P w=.ok (.bool p.2) w:=mp (by rw [ol,h.ag];rfl)
theorem uO (h:I9 P kt bt) (b:Bool):(Instr.checkKey b 10000 kt (iY p)).run P w=.ok () w:=by
  have e:Instr.checkKey b 10000 kt (iY p)=Instr.checkKey b (9998 + 1 + 1) kt (iY p):=rfl
  rw [e]
  generalize 9998=d
  have hb:∀ v,(Instr.checkKey b (d + 1) bt (.bool v)).run P w=.ok () w:=fun v=>by
    unfold Instr.checkKey
    simp only [Sem.run_bind,cj h.bool,Result.andThen_ok];rfl
  rw [Instr.checkKey]
  simp [Sem.run_bind,cj h.arr,Result.andThen_ok,Std.Legacy.Range.forIn_eq_forIn_range',List.range',d7 h.sz,hb]
  rw [De h];simp [hb]
  rw [Df h];simp [hb]
theorem CN (h:I9 P kt bt):(Op.equal kt (iY p) (iY q)).run P w=.ok (decide (p=q)) w:=by
  have e:Op.equal kt (iY p) (iY q)=Op.equalIn (9998 + 1 + 1) kt (iY p) (iY q):=rfl
  rw [e]
  generalize 9998=d
  have hb:∀ u v,(Op.equalIn (d + 1) bt (.bool u) (.bool v)).run P w=.ok (u == v) w:=fun u v=>by
    simp only [Op.equalIn,Sem.run_bind,cj h.bool,Result.andThen_ok];rfl
  rw [Op.equalIn]
  simp [Sem.run_bind,cj h.arr,Result.andThen_ok,Std.Legacy.Range.forIn_eq_forIn_range',List.range',d7 h.sz,hb]
  rw [De h];simp
  rw [De h];simp [hb]
  obtain ⟨p1,p2⟩:=p
  obtain ⟨q1,q2⟩:=q
  by_cases h1:p1=q1
  · subst h1
    simp
    rw [Df (p:=(p1,p2)) h];simp
    rw [Df (p:=(p1,q2)) h];simp [hb]
    by_cases h2:p2=q2
    · subst h2;simp
    · simp [h2]
  · simp [h1]
theorem Li (h:I9 P kt bt) (k:Bool × Bool):∀ (l:List MapEntry) (E:List ((Bool × Bool) × Value)) (n:Nat),l.map (fun x=>(x.key,x.val))=E.map (fun p=>(iY p.1,p.2)) ->
    ∃ r,(Instr.findAsking kt (iY k) l n).run P w=.ok r w/\r.map (·.2)=lk E k:=by
  intro l
  induction l with
  | nil =>
    intro E n hE
    cases E with
    | nil=>exact ⟨none,Z,Z⟩
    | cons p E=>cases hE
  | cons x l ih =>
    intro E n hE
    cases E with
    | nil=>cases hE
    | cons p E =>
      simp only [List.map_cons,List.cons.injEq,Prod.mk.injEq] at hE
      obtain ⟨⟨h1,h2⟩,h3⟩:=hE
      rw [Instr.findAsking]
      simp only [Sem.run_bind,h1,CN h,Result.andThen_ok]
      by_cases q:k=p.1
      · rw [decide_eq_true q]
        exact ⟨some (n,x.val),Z,by simp [lk,q,h2]⟩
      · rw [decide_eq_false q]
        obtain ⟨r,g1,g2⟩:=ih E (n + 1) h3
        exact ⟨r,g1,by rw [g2];simp [lk,show ¬ p.1=k from fun e=>q e.symm]⟩
theorem wt (h:I9 P kt bt) (k:Bool × Bool) {es:Array MapEntry} {E:List ((Bool × Bool) × Value)} (hE:dC iY es E):∃ r,(Instr.findKey kt (iY k) es.toList).run P w=.ok r w/\r.map (·.2)=lk E k:=by
  obtain ⟨r,g1,g2⟩:=Li (w:=w) h k es.toList E 0 hE
  unfold Instr.findKey
  simp only [Sem.run_bind,cj h.arr,Result.andThen_ok]
  cases hl:es.toList with
  | nil =>
    refine ⟨none,Z,?_⟩
    have hE':es.toList.map (fun x=>(x.key,x.val))=E.map fun p=>(iY p.1,p.2):=hE
    rw [hl] at hE'
    cases E with
    | nil=>rfl
    | cons p E=>cases hE'
  | cons x l =>
    rw [hl] at g1
    refine ⟨r,?_,g2⟩
    have:Instr.findNow (.array 2 bt) (iY k) (x :: l) 0=none:=by
      unfold Instr.findNow
      have:Instr.sameNow (.array 2 bt) (iY k) x.key=none:=by unfold Instr.sameNow;rfl
      rw [this]
    rw [this];exact g1
end
section
variable {P:Program} {nt:Nat} {all:Array Oper} {os:List Oper} {Q:Exit->Fr->AH->Prop} {e:gv} {ds:List Deferred} {A:AH} {x y z:Operand} {t kt et bt:TypeId} {ty:TypeId} {ps:String} {af:Array Edge} {dst:Option Nat} {m clock:Nat} {es:Array MapEntry} {rw:Bool} {E:List ((Bool × Bool) × Value)} {k:Bool × Bool} {v zv:Value}
theorem V.Ops.look2 (hd:gj nt dst=true) (hx:bZ e x=some (.map (some m))) (hy:bZ e y=some (iY k)) (hu:P.underlying t=some (.map kt et)) (hk:I9 P kt bt) (hz:cO P et=some zv) (hg:A.get m=some (.obj rw (.map es clock))) (hE:dC iY es E)
    (h1:∀ v,lk E k=some v->Ops P nt all os Q ⟨fp e dst (.tuple #[v,.bool true]),ds⟩ A) (h2:lk E k=none->Ops P nt all os Q ⟨fp e dst (.tuple #[zv,.bool false]),ds⟩ A) :
    Ops P nt all ({ dst:=dst,op:=.lookup t x y true,type:=ty,pos:=ps,after:=af,guard:=none } :: os) Q ⟨e,ds⟩ A:=by
  have key:∀ (u:Value × Bool),u=(match lk E k with | some v=>(v,true) | none=>(zv,false))->∀ a:Act,db nt ⟨e,ds⟩ a->∀ w,ct A w->(execOp a.eval { dst:=dst,op:=.lookup t x y true,type:=ty,pos:=ps,after:=af,guard:=none }).run P w=.ok (.value (.tuple #[u.1,.bool u.2])) w:=by
    rintro u rfl a ha w hw
    have g1:=c0 ha hx
    have g2:=c0 ha hy
    obtain ⟨o1,o2⟩:=hw.obj hg
    obtain ⟨r,f1,f2⟩:=wt (w:=w) hk k hE
    simp only [execOp,g1,g2,Instr.lookup,Sem.run_bind,cj hu,Result.andThen_ok,dB o1 o2,Sem.run_pure,uO hk,f1]
    cases r with
    | none =>
      simp only [Option.map_none] at f2
      rw [<- f2]
      simp only [Sem.run_bind,gH hz,Result.andThen_ok,Sem.run_pure,if_true]
    | some r =>
      simp only [Option.map_some] at f2
      rw [<- f2]
      simp only [Sem.run_bind,Result.andThen_ok,Sem.run_pure,if_true]
  cases hl:lk E k with
  | none=>exact Ops.val Z hd (key (zv,false) (by rw [hl])) (h2 hl)
  | some v=>exact Ops.val Z hd (key (v,true) (by rw [hl])) (h1 v hl)
theorem V.Ops.skipW {o:Oper} {A':AH} (hg:o.guard=none) (hd:gj nt o.dst=true) (hr:∀ a:Act,db nt ⟨e,ds⟩ a->∀ w,ct A w->∃ w',(execOp a.eval o).run P w=.ok .skip w'/\ct A' w'/\eu A w A' w') (h:Ops P nt all os Q ⟨fp e o.dst undef,ds⟩ A') :
    Ops P nt all (o :: os) Q ⟨e,ds⟩ A:=by
  intro a w ha hw A₀ w₀ hs
  unfold wpList
  rw [if_pos (by simp [Region.wanted,hg])]
  left
  unfold Oper.wp
  obtain ⟨w',r,v1,s1⟩:=hr a ha w hw
  rw [r]
  exact h _ w' (ha.put o.dst undef (da hd)) v1 A₀ w₀ (hs.trans s1)
theorem V.Ops.new2 (hd:gj nt dst=true) (wf:A.wf) (hx:bZ e x=some (.map (some m))) (hy:bZ e y=some (iY k)) (hz:bZ e z=some v) (hu:P.underlying t=some (.map kt et)) (hk:I9 P kt bt) (hg:A.get m=some (.obj true (.map es clock))) (hE:dC iY es E) (hn:lk E k=none)
    (h:∀ A1 es1 ck,sE A A1 m (.obj true (.map es1 ck))->dC iY es1 (E ++ [(k,v)])->Ops P nt all os Q ⟨fp e dst undef,ds⟩ A1) :
    Ops P nt all ({ dst:=dst,op:=.mapUpdate t x y z,type:=ty,pos:=ps,after:=af,guard:=none } :: os) Q ⟨e,ds⟩ A:=by
  refine Ops.skipW (A':=A.set m (.obj true (.map (es.push { key:=iY k,val:=v,born:=clock }) (clock + 1)))) Z hd (fun a ha w hw=>?_) (h _ _ _ (Md wf hg _) (hE.push k v clock))
  have g1:=c0 ha hx
  have g2:=c0 ha hy
  have g3:=c0 ha hz
  obtain ⟨o1,o2⟩:=hw.obj hg
  obtain ⟨r,f1,f2⟩:=wt (w:=w) hk k hE
  rw [hn] at f2
  obtain rfl:r=none:=by cases r with | none=>rfl | some r=>cases f2
  obtain ⟨w',r,v1,s1⟩:=jg (P:=P) hw hg (y:=.map (es.push { key:=iY k,val:=v,born:=clock }) (clock + 1)) (fun _ _ _ q=>by cases q)
  refine ⟨w',?_,v1,s1⟩
  simp only [execOp,g1,g2,g3,Sem.run_bind,Instr.mapUpdate,cj hu,Result.andThen_ok,dB o1 o2,uO hk,f1,r]
  rfl
end
end Go.Proofs.YtjppkekmddjcfaaGreatDoor

namespace Go.Proofs.YtjppkekmddjcfaaGreatDoor
open Go Go.RowKit V
section
variable {K:Type} [DecidableEq K]
def mi (Q:List K):List (K × Value):=Q.zipIdx.map fun p=>(p.1,num ((p.2:Nat):Int))
theorem rP (Q:List K):(mi Q).map (·.1)=Q:=by
  simp [mi,List.map_map,Function.comp_def]
theorem wi (Q:List K) (t:K):mi (Q ++ [t])=mi Q ++ [(t,num ((Q.length:Nat):Int))]:=by simp [mi,List.zipIdx_append]
theorem zz (Q:List K):(mi Q).length=Q.length:=by simp [mi]
theorem xG {Q:List K} {t:K} (h:t ∉ Q):lk (mi Q) t=none:=xw.2 (by rw [rP];exact h)
theorem J0:∀ (Q:List K) (n:Nat) (t:K),t ∈ Q->lk ((Q.zipIdx n).map fun p=>(p.1,num ((p.2:Nat):Int))) t=some (num (((n + Q.idxOf t:Nat)):Int)):=by
  intro Q
  induction Q with
  | nil=>intro n t h;cases h
  | cons a Q ih =>
    intro n t h
    by_cases q:a=t
    · subst q;simp [lk]
    · have h2:t ∈ Q:=by rcases List.mem_cons.1 h with z | z;exact absurd z.symm q;exact z
      have:=ih (n + 1) t h2
      simp only [List.zipIdx_cons,List.map_cons]
      rw [List.idxOf_cons,beq_eq_false_iff_ne.2 q,cond_false]
      simp only [lk,List.find?_cons,decide_eq_false q] at this ⊢
      rw [this]
      congr 3;omega
theorem tg {Q:List K} {t:K} (h:t ∈ Q):lk (mi Q) t=some (num ((Q.idxOf t:Nat):Int)):=by
  have:=J0 Q 0 t h
  rwa [Nat.zero_add] at this
theorem Kw {Q:List K} {t:K} (h:t ∉ Q):wI (mi Q) t (num ((Q.length:Nat):Int))=mi (Q ++ [t]):=by
  rw [tm (by rw [rP];exact h),wi]
def mY (st:List Int × List K) (x:K):List Int × List K:=if x ∈ st.2 then (st.1 ++ [(st.2.idxOf x:Int)],st.2) else (st.1 ++ [(st.2.length:Int)],st.2 ++ [x])
def cl (l:List K):List Int × List K:=l.foldl mY ([],[])
theorem pd (l:List K) (x:K):cl (l ++ [x])=mY (cl l) x:=by simp [cl]
theorem gr (l:List K):(cl l).2.Nodup/\(∀ x,x ∈ (cl l).2 ↔ x ∈ l)/\(cl l).1=l.map (fun x=>((cl l).2.idxOf x:Int)):=by
  suffices h:∀ (l m:List K),cl m=(m.map (fun x=>((cl m).2.idxOf x:Int)),(cl m).2)->(cl m).2.Nodup->(∀ x,x ∈ (cl m).2 ↔ x ∈ m) ->
      (cl (m ++ l)).2.Nodup/\(∀ x,x ∈ (cl (m ++ l)).2 ↔ x ∈ m ++ l)/\(cl (m ++ l)).1=(m ++ l).map (fun x=>((cl (m ++ l)).2.idxOf x:Int)) by
    have:=h l [] Z List.nodup_nil (fun x=>Iff.rfl)
    simpa using this
  intro l
  induction l with
  | nil=>intro m h1 h2 h3;rw [List.append_nil];exact ⟨h2,h3,congrArg (·.1) h1⟩
  | cons a l ih =>
    intro m h1 h2 h3
    have e:m ++ a :: l=(m ++ [a]) ++ l:=by simp
    rw [e]
    have es:cl (m ++ [a])=mY (cl m) a:=pd m a
    by_cases q:a ∈ (cl m).2
    · have e2:mY (cl m) a=((cl m).1 ++ [((cl m).2.idxOf a:Int)],(cl m).2):=if_pos q
      refine ih (m ++ [a]) ?_ ?_ ?_
      · rw [es,e2];simp only [List.map_append,List.map_cons,List.map_nil]
        rw [show (cl m).1=m.map (fun x=>((cl m).2.idxOf x:Int)) from congrArg (·.1) h1]
      · rw [es,e2];exact h2
      · intro x;rw [es,e2,List.mem_append,List.mem_singleton]
        show x ∈ (cl m).2 ↔ _
        rw [h3 x]
        exact ⟨.inl,fun z=>z.elim id fun z=>by subst z;exact (h3 x).1 q⟩
    · have e2:mY (cl m) a=((cl m).1 ++ [((cl m).2.length:Int)],(cl m).2 ++ [a]):=if_neg q
      refine ih (m ++ [a]) ?_ ?_ ?_
      · rw [es,e2];simp only [List.map_append,List.map_cons,List.map_nil]
        have hm:(cl m).1=m.map (fun x=>((cl m).2.idxOf x:Int)):=congrArg (·.1) h1
        congr 1
        rw [hm]
        congr 1
        · apply List.map_congr_left
          intro x hx
          rw [List.idxOf_append,if_pos ((h3 x).2 hx)]
        · rw [List.idxOf_append,if_neg q];simp
      · rw [es,e2];exact List.nodup_append.2 ⟨h2,by simp,by intro x hx y hy;simp at hy;subst hy;exact fun z=>q (z ▸ hx)⟩
      · intro x;rw [es,e2,List.mem_append,List.mem_append,List.mem_singleton]
        show _\/_ ↔ _
        rw [h3 x]
theorem Kh (l:List K):(cl l).1.length=l.length:=by rw [(gr l).2.2];simp
theorem uo {l:List K} {n:Nat} (h1:l.Nodup) (f:K->Nat) (hf:∀ a ∈ l,∀ b ∈ l,f a=f b->a=b) (hb:∀ a ∈ l,f a < n):l.length<=n:=by
  have:=pc (l:=l.map f) (n:=n) ?_ ?_
  · simpa using this
  · rw [List.nodup_iff_pairwise_ne,List.pairwise_map]
    exact List.Pairwise.imp_of_mem (fun {a c} ha hc hac e=>hac (hf a ha c hc e)) h1
  · intro x hx
    obtain ⟨a,ha,rfl⟩:=List.mem_map.1 hx
    exact hb a ha
theorem OA (l:List K):(cl l).2.length<=l.length :=
  uo (gr l).1 (fun a=>l.idxOf a) (fun a ha b hb e=>by
    have h1:=((gr l).2.1 a).1 ha
    have h2:=((gr l).2.1 b).1 hb
    have e1:=List.getElem_idxOf (List.idxOf_lt_length_iff.2 h1)
    have e2:=List.getElem_idxOf (List.idxOf_lt_length_iff.2 h2)
    rw [<- e1,<- e2];congr 1) fun a ha=>List.idxOf_lt_length_iff.2 (((gr l).2.1 a).1 ha)
theorem qJ (l:List K) {i:Nat} {d:K} (hi:i < l.length):(cl l).1.getD i 0=((cl l).2.idxOf (l.getD i d):Int)/\l.getD i d ∈ (cl l).2:=by
  refine ⟨?_,((gr l).2.1 _).2 (bx hi)⟩
  rw [(gr l).2.2]
  simp [List.getD_eq_getElem?_getD,hi]
theorem Ki (l:List K):∀ c ∈ (cl l).1,0<=c/\c < (cl l).2.length:=fun c hc=>by
  rw [(gr l).2.2] at hc
  obtain ⟨x,hx,rfl⟩:=List.mem_map.1 hc
  have:=List.idxOf_lt_length_iff.2 (((gr l).2.1 x).2 hx)
  omega
theorem xE (l:List K) {i j:Nat} {d:K} (hi:i < l.length) (hj:j < l.length):(cl l).1.getD i 0=(cl l).1.getD j 0 ↔ l.getD i d=l.getD j d:=by
  have h1:=qJ l (d:=d) hi
  have h2:=qJ l (d:=d) hj
  rw [h1.1,h2.1]
  constructor
  · intro h
    have e1:=List.getElem_idxOf (List.idxOf_lt_length_iff.2 h1.2)
    have e2:=List.getElem_idxOf (List.idxOf_lt_length_iff.2 h2.2)
    rw [<- e1,<- e2];congr 1;omega
  · intro h;rw [h]
end
theorem Ct {K L:Type} [DecidableEq K] [DecidableEq L] (l:List K) (m:List L) (d:K) (d2:L) (hl:l.length=m.length) (h:∀ i j,i < m.length->j < m.length->m.getD i d2=m.getD j d2->l.getD i d=l.getD j d):(cl l).2.length<=(cl m).2.length :=
  uo (gr l).1 (fun a=>(cl m).2.idxOf (m.getD (l.idxOf a) d2)) (fun a ha b hb e=>by
    have h1:=List.idxOf_lt_length_iff.2 (((gr l).2.1 a).1 ha)
    have h2:=List.idxOf_lt_length_iff.2 (((gr l).2.1 b).1 hb)
    have m1:=qJ m (d:=d2) (i:=l.idxOf a) O
    have m2:=qJ m (d:=d2) (i:=l.idxOf b) O
    have e1:=List.getElem_idxOf h1
    have e2:=List.getElem_idxOf h2
    have:=h _ _ O O ((xE m (d:=d2) (i:=l.idxOf a) (j:=l.idxOf b) O O).1 (by rw [m1.1,m2.1];exact congrArg Int.ofNat e))
    rw [gd h1,gd h2] at this
    rw [<- e1,<- e2];exact this) fun a ha=>by
    have h1:=List.idxOf_lt_length_iff.2 (((gr l).2.1 a).1 ha)
    exact List.idxOf_lt_length_iff.2 (qJ m (d:=d2) (i:=l.idxOf a) O).2
def k5 (n:Nat) (key:List Int->Nat->Wd):Nat->Nat->List Int->List Int
  | 0,_,cls=>cls
  | f + 1,count,cls=>if (cl ((List.range n).map (key cls))).2.length=count then (cl ((List.range n).map (key cls))).1 else k5 n key f (cl ((List.range n).map (key cls))).2.length (cl ((List.range n).map (key cls))).1
def yC (n:Nat) (st:Nat->Bool × Bool) (key:List Int->Nat->Wd):List Int:=k5 n key (n + 2) (cl ((List.range n).map st)).2.length (cl ((List.range n).map st)).1
def j8 (lv:List Bool) (m:Int):Bool:=decide (0<=m) && lv.getD m.toNat false
def um (lv:List Bool) (cls:List Int) (m:Int):Wd:=32 :: (if j8 lv m then ik (cls.getD m.toNat 0).toNat else [])
def nz (lv:List Bool) (N:List (List Int)) (cls:List Int) (i:Nat):Wd:=if lv.getD i false then ik (cls.getD i 0).toNat ++ (N.getD i []).flatMap (um lv cls) else [45]
def RU (acc lv:List Bool) (i:Nat):Bool × Bool:=(lv.getD i false,acc.getD i false)
def w8 (acc lv:List Bool) (N:List (List Int)):List Int:=yC N.length (RU acc lv) (nz lv N)
def jq (cls:List Int) (c:Int):Nat:=cls.idxOf c
def js (lv:List Bool) (N:List (List Int)) (cls:List Int) (c:Int) (x:Nat):Option Int :=
  if j8 lv (gR N (jq cls c) x) then some (cls.getD (gR N (jq cls c) x).toNat 0) else none
def Bn (k:Nat) (acc:List Bool) (N:List (List Int)):List Int × List (List Int):=fG k (js (iJ acc N) N (w8 acc (iJ acc N) N)) (N.length + 1) 0 [(w8 acc (iJ acc N) N).getD 0 0] []
def wW (k:Nat) (acc:List Bool) (N:List (List Int)):List Bool × List (List Int) :=
  if (iJ acc N).getD 0 false then ((Bn k acc N).1.map fun c=>acc.getD (jq (w8 acc (iJ acc N) N) c) false,(Bn k acc N).2) else ([],[])
def Nf (k:Nat) (acc:List Bool) (L:List (List Int)):List Bool × List (List Int):=wW k (ve k acc L) (gI k L).2
end Go.Proofs.YtjppkekmddjcfaaGreatDoor

namespace Go.Proofs.YtjppkekmddjcfaaGreatDoor
open Go Go.RowKit V
section
variable {K:Type} [DecidableEq K]
def iC (Q:List K) (k:K):Nat:=if k ∈ Q then Q.idxOf k else Q.length
def jo (Q:List K) (k:K):List K:=if k ∈ Q then Q else Q ++ [k]
theorem zt {Q:List K} {k:K} (h:k ∈ Q):iC Q k=Q.idxOf k:=if_pos h
theorem zu {Q:List K} {k:K} (h:k ∉ Q):iC Q k=Q.length:=if_neg h
theorem vV {Q:List K} {k:K} (h:k ∈ Q):jo Q k=Q:=if_pos h
theorem vW {Q:List K} {k:K} (h:k ∉ Q):jo Q k=Q ++ [k]:=if_neg h
end
section
variable {α:Type} [DecidableEq α] {enc:α->Value} {P:Program} {e:gv} {A:AH} {x:Operand} {t kt et:TypeId} {ty:TypeId} {ps:String} {af:Array Edge} {dst:Option Nat} {K:Value->AH->Prop} {Kp:List PanicEntry->AH->Prop} {g:Option (Nat × Bool)} {m clock:Nat} {es:Array MapEntry} {rw:Bool} {Q:List α}
theorem rl (hx:bZ e x=some (.map (some m))) (hu:P.underlying t=some (.map kt et)) (hg:A.get m=some (.obj rw (.map es clock))) (hE:dC enc es (mi Q)) (h:K (num ((Q.length:Nat):Int)) A) :
    j6 P e A { dst:=dst,op:=.call { callee:=.builtin .len,args:=#[x],argTypes:=#[t] },type:=ty,pos:=ps,after:=af,guard:=g } K Kp:=by
  simp only [j6,tK,jj,hx]
  refine ⟨num ((Q.length:Nat):Int),?_,h⟩
  simp only [qG,hu,hg]
  rw [hE.size,zz]
theorem MC {kd:TypeDesc} {y:Operand} {k:α} (Ko:qh kd enc) (hx:bZ e x=some (.map (some m))) (hy:bZ e y=some (enc k)) (hu:P.underlying t=some (.map kt et)) (hk:P.underlying kt=some kd) (hz:cO P et=some (num 0)) (hg:A.get m=some (.obj rw (.map es clock))) (hE:dC enc es (mi Q))
    (h1:k ∈ Q->K (.tuple #[num ((iC Q k:Nat):Int),.bool true]) A) (h2:k ∉ Q->K (.tuple #[num 0,.bool false]) A):j6 P e A { dst:=dst,op:=.lookup t x y true,type:=ty,pos:=ps,after:=af,guard:=g } K Kp:=by
  refine vg Ko hx hy hu hk hz hg hE (fun v hv=>?_) (fun hn=>?_)
  · by_cases q:k ∈ Q
    · rw [tg q,<- zt q] at hv;cases hv;exact h1 q
    · rw [xG q] at hv;cases hv
  · exact h2 fun q=>by rw [tg q] at hn;cases hn
end
section
variable {P:Program} {nt:Nat} {all:Array Oper} {os:List Oper} {Q:Exit->Fr->AH->Prop} {e:gv} {ds:List Deferred} {A:AH} {x y z:Operand} {t kt et bt:TypeId} {ty:TypeId} {ps:String} {af:Array Edge} {dst:Option Nat} {m clock:Nat} {es:Array MapEntry} {rw:Bool} {L:List (Bool × Bool)} {k:Bool × Bool}
theorem V.Ops.look2G (hd:gj nt dst=true) (hx:bZ e x=some (.map (some m))) (hy:bZ e y=some (iY k)) (hu:P.underlying t=some (.map kt et)) (hk:I9 P kt bt) (hz:cO P et=some (num 0)) (hg:A.get m=some (.obj rw (.map es clock))) (hE:dC iY es (mi L))
    (h1:k ∈ L->Ops P nt all os Q ⟨fp e dst (.tuple #[num ((iC L k:Nat):Int),.bool true]),ds⟩ A) (h2:k ∉ L->Ops P nt all os Q ⟨fp e dst (.tuple #[num 0,.bool false]),ds⟩ A) :
    Ops P nt all ({ dst:=dst,op:=.lookup t x y true,type:=ty,pos:=ps,after:=af,guard:=none } :: os) Q ⟨e,ds⟩ A:=by
  refine Ops.look2 hd hx hy hu hk hz hg hE (fun v hv=>?_) (fun hn=>?_)
  · by_cases q:k ∈ L
    · rw [tg q,<- zt q] at hv;cases hv;exact h1 q
    · rw [xG q] at hv;cases hv
  · exact h2 fun q=>by rw [tg q] at hn;cases hn
theorem V.Ops.new2G (hd:gj nt dst=true) (wf:A.wf) (hx:bZ e x=some (.map (some m))) (hy:bZ e y=some (iY k)) (hz:bZ e z=some (num ((L.length:Nat):Int))) (hu:P.underlying t=some (.map kt et)) (hk:I9 P kt bt) (hg:A.get m=some (.obj true (.map es clock))) (hE:dC iY es (mi L)) (hn:k ∉ L)
    (h:∀ A1 D ck,sE A A1 m (.obj true (.map D ck))->dC iY D (mi (L ++ [k]))->Ops P nt all os Q ⟨fp e dst undef,ds⟩ A1) :
    Ops P nt all ({ dst:=dst,op:=.mapUpdate t x y z,type:=ty,pos:=ps,after:=af,guard:=none } :: os) Q ⟨e,ds⟩ A :=
  Ops.new2 hd wf hx hy hz hu hk hg hE (xG hn) fun A1 D ck sb me=>h A1 D ck sb (by rw [wi];exact me)
end
section
variable {K:Type} [DecidableEq K]
theorem xp {Q:List K} {k:K} (h:Q.Nodup):(jo Q k).Nodup:=by
  unfold jo;split
  · exact h
  · rename_i q;exact List.nodup_append.2 ⟨h,by simp,by intro a ha b hb;simp at hb;subst hb;exact fun e=>q (e ▸ ha)⟩
theorem pT (st:List Int × List K) (x:K):mY st x=(st.1 ++ [(iC st.2 x:Int)],jo st.2 x):=by
  unfold mY iC jo;split <;> rfl
structure mw (n:Nat) (f:Nat->K) (i:Nat) (o:List Int) (Q:List K):Prop where
  run:∃ r,cl ((List.range i).map f)=(r,Q)/\r.length=i/\o=r ++ List.replicate (n - i) 0
  nd:Q.Nodup
  le:Q.length<=i
variable {n i:Nat} {f:Nat->K} {o:List Int} {Q:List K}
theorem mw.start:mw n f 0 (List.replicate n 0) []:=⟨⟨[],rfl,rfl,by simp⟩,List.nodup_nil,Nat.le_refl _⟩
theorem mw.len (h:mw n f i o Q) (hi:i<=n):o.length=n:=by obtain ⟨r,_,h2,h3⟩:=h.run;rw [h3];simp;omega
theorem mw.next (h:mw n f i o Q) (hi:i < n):mw n f (i + 1) (o.set i (iC Q (f i):Int)) (jo Q (f i)):=by
  obtain ⟨r,h1,h2,h3⟩:=h.run
  refine ⟨⟨r ++ [(iC Q (f i):Int)],?_,by simp [h2],?_⟩,xp h.nd,?_⟩
  · rw [List.range_succ,List.map_append,List.map_cons,List.map_nil,pd,h1,pT]
  · rw [h3,<- h2];exact xg O
  · have:=h.le;unfold jo;split
    · omega
    · simp;omega
theorem mw.old (h:mw n f i o Q) (hi:i < n) (q:f i ∈ Q):mw n f (i + 1) (o.set i (iC Q (f i):Int)) Q:=by
  have:=h.next hi;rwa [vV q] at this
theorem mw.new (h:mw n f i o Q) (hi:i < n) (q:f i ∉ Q):mw n f (i + 1) (o.set i (Q.length:Int)) (Q ++ [f i]):=by
  have:=h.next hi;rwa [zu q,vW q] at this
theorem mw.fin (h:mw n f i o Q) (hi:i=n):cl ((List.range n).map f)=(o,Q):=by
  subst hi
  obtain ⟨r,h1,h2,h3⟩:=h.run
  rw [h1,h3];simp
end
structure qg (n:Nat) (st:Nat->Bool × Bool) (key:List Int->Nat->Wd) (count:Nat) (cls:List Int):Prop where
  len:cls.length=n
  rng:∀ c ∈ cls,0<=c/\c < n
  dis:∃ l:List Int,l.length=n/\cl l=(cls,(cl l).2)/\(cl l).2.length=count
  cnt:count<=n
  fin:∃ f,n + 2<=f + count/\k5 n key f count cls=yC n st key
theorem Gz {K:Type} [DecidableEq K] (l:List K):(cl (cl l).1).2.length=(cl l).2.length/\(cl (cl l).1).1=(cl l).1:=by
  suffices h:∀ (m:List K),(cl (cl m).1).2=(List.range (cl m).2.length).map (fun (i:Nat)=>(i:Int))/\(cl (cl m).1).1=(cl m).1 by
    have:=h l;exact ⟨by rw [this.1];simp,this.2⟩
  suffices h:∀ (l m:List K),((cl (cl m).1).2=(List.range (cl m).2.length).map (fun (i:Nat)=>(i:Int))/\(cl (cl m).1).1=(cl m).1)->((cl (cl (m ++ l)).1).2=(List.range (cl (m ++ l)).2.length).map (fun (i:Nat)=>(i:Int))/\(cl (cl (m ++ l)).1).1=(cl (m ++ l)).1) by
    intro m;have:=h m [] ⟨rfl,rfl⟩;simpa using this
  intro l
  induction l with
  | nil=>intro m h;rw [List.append_nil];exact h
  | cons a l ih =>
    intro m h
    rw [show m ++ a :: l=(m ++ [a]) ++ l by simp]
    refine ih _ ?_
    rw [pd,pT]
    show (cl ((cl m).1 ++ [_])).2=_/\(cl ((cl m).1 ++ [_])).1=_
    rw [pd,pT]
    simp only
    rw [h.1,h.2]
    by_cases q:a ∈ (cl m).2
    · have hi:=List.idxOf_lt_length_iff.2 q
      have hm:((cl m).2.idxOf a:Int) ∈ (List.range (cl m).2.length).map (fun (i:Nat)=>(i:Int)):=List.mem_map.2 ⟨_,List.mem_range.2 hi,rfl⟩
      have e1:iC (cl m).2 a=(cl m).2.idxOf a:=if_pos q
      have e2:jo (cl m).2 a=(cl m).2:=if_pos q
      have e3:jo ((List.range (cl m).2.length).map (fun (i:Nat)=>(i:Int))) ((cl m).2.idxOf a:Int)=(List.range (cl m).2.length).map (fun (i:Nat)=>(i:Int)):=if_pos hm
      have e4:iC ((List.range (cl m).2.length).map (fun (i:Nat)=>(i:Int))) ((cl m).2.idxOf a:Int)=(cl m).2.idxOf a:=by
        rw [iC,if_pos hm]
        have:=List.getElem_idxOf (List.idxOf_lt_length_iff.2 hm)
        simp only [List.getElem_map,List.getElem_range] at this
        omega
      rw [e1,e2,e3,e4];exact ⟨Z,Z⟩
    · have e1:iC (cl m).2 a=(cl m).2.length:=if_neg q
      have e2:jo (cl m).2 a=(cl m).2 ++ [a]:=if_neg q
      have hm:¬ ((cl m).2.length:Int) ∈ (List.range (cl m).2.length).map (fun (i:Nat)=>(i:Int)):=fun z=>by
        obtain ⟨i,h1,h2⟩:=List.mem_map.1 z
        have:=List.mem_range.1 h1;omega
      rw [e1,e2]
      have e3:jo ((List.range (cl m).2.length).map (fun (i:Nat)=>(i:Int))) ((cl m).2.length:Int)=(List.range (cl m).2.length).map (fun (i:Nat)=>(i:Int)) ++ [((cl m).2.length:Int)]:=if_neg hm
      have e4:iC ((List.range (cl m).2.length).map (fun (i:Nat)=>(i:Int))) ((cl m).2.length:Int)=(cl m).2.length:=by rw [iC,if_neg hm];simp
      rw [e3,e4]
      refine ⟨?_,Z⟩
      rw [List.length_append,List.length_singleton,List.range_succ,List.map_append];rfl
section
variable {n count:Nat} {st:Nat->Bool × Bool} {key:List Int->Nat->Wd} {cls o:List Int} {Q:List Wd} {Q2:List (Bool × Bool)}
theorem qg.of {K:Type} [DecidableEq K] {l:List K} {cls:List Int} {Q:List K} (hl:l.length=n) (h:cl l=(cls,Q)):cls.length=n/\(∀ c ∈ cls,0<=c/\c < (n:Int))/\(∃ l:List Int,l.length=n/\cl l=(cls,(cl l).2)/\(cl l).2.length=Q.length)/\Q.length<=n:=by
  have h1:=Kh l
  have h2:=Ki l
  have h3:=OA l
  have h4:=Gz l
  rw [h] at h1 h2 h3 h4
  simp only at h1 h2 h3 h4
  exact ⟨by omega,fun c hc=>by have:=h2 c hc;omega,⟨cls,by omega,Prod.ext h4.2 rfl,h4.1⟩,by omega⟩
theorem qg.start (h:cl ((List.range n).map st)=(cls,Q2)):qg n st key Q2.length cls:=by
  obtain ⟨h1,h2,h3,h4⟩:=qg.of (n:=n) (by simp) h
  exact ⟨h1,h2,h3,h4,n + 2,by omega,by rw [yC,h]⟩
theorem qg.stop (h:qg n st key count cls) (e:cl ((List.range n).map (key cls))=(o,Q)) (hq:Q.length=count):o=yC n st key:=by
  obtain ⟨f,hf,g⟩:=h.fin
  have:=h.cnt
  obtain ⟨f,rfl⟩:∃ g,f=g + 1:=⟨f - 1,by omega⟩
  rw [k5,e] at g
  simp only at g
  rw [if_pos hq] at g;exact g
theorem qg.next (h:qg n st key count cls) (hinj:∀ i j,i < n->j < n->key cls i=key cls j->cls.getD i 0=cls.getD j 0) (e:cl ((List.range n).map (key cls))=(o,Q)) (hq:¬ Q.length=count):qg n st key Q.length o/\count < Q.length:=by
  obtain ⟨f,hf,g⟩:=h.fin
  have hc:=h.cnt
  obtain ⟨f,rfl⟩:∃ g,f=g + 1:=⟨f - 1,by omega⟩
  obtain ⟨h1,h2,h3,h4⟩:=qg.of (n:=n) (by simp) e
  have hle:count<=Q.length:=by
    obtain ⟨l,l1,l2,l3⟩:=h.dis
    have:=Ct l ((List.range n).map (key cls)) 0 [] (by simp [l1]) fun i j hi hj q=>by
      rw [List.length_map,List.length_range] at hi hj
      have e1:∀ i,i < n->((List.range n).map (key cls)).getD i []=key cls i:=fun i hi=>by simp [List.getD_eq_getElem?_getD,hi]
      rw [e1 i hi,e1 j hj] at q
      have:=hinj i j hi hj q
      have e2:cls=(cl l).1:=by rw [l2]
      rw [e2] at this
      exact (xE l (d:=(0:Int)) O O).1 this
    rw [l3,e] at this;exact this
  rw [k5,e] at g
  simp only at g
  rw [if_neg hq] at g
  exact ⟨⟨h1,h2,h3,h4,f,by omega,g⟩,by omega⟩
end
end Go.Proofs.YtjppkekmddjcfaaGreatDoor

namespace Go.Proofs.YtjppkekmddjcfaaGreatDoor
open Go Go.RowKit V
set_option maxRecDepth 100000
theorem Jd:dF Tryz.prog 218=some true:=by kernel_rfl
theorem An:du Tryz.prog 218=some 2:=by kernel_rfl
theorem Mp:type_of% @Tryz.underlying231:=@Tryz.underlying231
theorem PY:type_of% @Tryz.underlying233:=@Tryz.underlying233
theorem Sd:cO Tryz.prog 218=some (.agg #[.bool false,.bool false]):=by kernel_rfl

theorem LU (b:Nat) (es:Array MapEntry) (ck:Nat) (Q:List Wd) (k:Wd) (A0 A:AH) (a0:A0.le A) (ac:A0.wf) (hb:A.get b=some (.obj true (.map es ck))) (ab:A0.get b=none) (hme:dC aX es (mi Q)) (hnd:Q.Nodup):bG Tryz.prog 201 #[.map (some b),aX (k)] A (fun v A1=>∃ es2 ck2,v=num ((iC Q k:Nat):Int)/\A0.le A1/\A1.wf/\A1.get b=some (.obj true (.map es2 ck2))/\dC aX es2 (mi (jo Q k))):=by
 refine lN Tryz.call201 Tryz.func201 Z Tryz.results201 Tryz.ntmps201 Z (fun wf=>?_);refine ao.seq fun _ h2=>.region<|.q Z (ah Z)<|.nil<|h2 _ _<|.seq fun _ h4=>.region<|.q Z (ae Z)<|.q Z (ae Z)<|.l Z (fun _ _ X _=>MC (Q:=Q) (k:=k) xo Z Z Mp u9 z3 hb hme (fun aa=>?_) (fun D=>?_))
 ·refine X _ _<|.q Z (ae Z)<|.q Z (bf Z Z)<|.q Z (bf Z Z)<|.q Z (ah Z)<|.q Z (ah Z)<|.nil<|h4 _ _<|.seq fun _ h9=>.seq fun _ a4=>?_;refine ao.region<|.q Z (ae Z)<|.q Z (eE Z)<|.nil<|a4 _ _<|.cond_false Z<|.skip<|h9 _ _<|.seq fun _ a5=>.region ?_;refine Ops.q Z (ae Z)<|.q Z (ah Z)<|.nil<|a5 _ _<|.rt (by exact be Z (⟨_,_,Z,a0,wf,hb,by rw [vV aa];exact hme⟩))
 refine X _ _<|.q Z (ae Z)<|.q Z (bf Z Z)<|.q Z (bf Z Z)<|.q Z (ah Z)<|.q Z (ah Z)<|.nil<|h4 _ _<|.seq fun _ a6=>.seq fun _ a7=>?_;refine ao.region<|.q Z (ae Z)<|.q Z (eE Z)<|.nil<|a7 _ _<|.cond_true Z<|.seq fun _ a8=>.region<|.q Z (ae Z)<|.l Z (fun _ _ a1 _=>rl (Q:=Q) Z Mp hb hme ?_);refine a1 _ _<|.q Z (ah Z)<|.nil<|a8 _ _<|.region<|.q Z (ae Z)<|.q Z (ae Z)<|.q Z (ae Z)<|.l Z (fun _ _ a2 _=>m8 (k:=k) xo wf rfl rfl rfl Mp u9 hb hme (by rw [rP];exact hnd) fun A22 ag ad h V=>?_);have a3:=al a0 ac ab h.n h.keep;rw [Kw D] at V;refine a2 _ _<|.nil<|a6 _ _<|.seq fun _ a9=>.region<|.q Z (ae Z)<|.q Z (ah Z)<|.nil<|a9 _ _<|.rt (by exact be Z (⟨_,_,by rw [zu D];rfl,a3,h.wf,h.get,by rw [vW D];exact V⟩))

theorem Mn:I9 Tryz.prog 218 4:=⟨Tryz.underlying218,Tryz.underlying4,by kernel_rfl,by kernel_rfl⟩

theorem Im (n g1 g2:Nat) (aB a8:Array Value) (sf:Nat->Bool × Bool) (key:List Int->Nat->Wd) (A:AH) (hn:n<=100000) (e6:∀ i B,i < n->A.le B->B.wf->bG Tryz.prog g1 (#[num ((i:Nat):Int)] ++ aB) B (fun v C=>v=iY (sf i)/\B.le C/\C.wf)) (e7:∀ (cls:List Int) (cv:Value) (i:Nat) B,bJ B 1 cv (c9 cls)->cls.length=n->(∀ c ∈ cls,0<=c/\c < (n:Int))->i < n->A.le B->B.wf->bG Tryz.prog g2 (#[cv,num ((i:Nat):Int)] ++ a8) B (fun v C=>v=aX (key cls i)/\B.le C/\C.wf)) (R:List Int->Prop) (fv:R (cl ((List.range n).map sf)).1) (fD:∀ cls:List Int,cls.length=n->R cls->R (cl ((List.range n).map (key cls))).1) (hinj:∀ cls:List Int,cls.length=n->(∀ c ∈ cls,0<=c/\c < (n:Int))->R cls->∀ i j,i < n->j < n->key cls i=key cls j->cls.getD i 0=cls.getD j 0):bG Tryz.prog 181 #[num ((n:Nat):Int),.func (.func g1) #[] aB,.func (.func g2) #[] a8] A (fun v A1=>A.le A1/\A1.wf/\Fresh A A1 v 1 (c9 (yC n sf key))):=by
 refine yl Tryz.call181 Tryz.func181 Z Tryz.results181 Tryz.ntmps181 Z (fun wf=>?_);have d3:=AH.le.refl A;refine ao.seq fun _ h2=>.region<|.q Z (ah Z)<|.nil<|h2 _ _<|.seq fun _ h4=>.region<|.q Z (ah Z)<|.nil<|h4 _ _ ?_;refine ao.seq fun _ h6=>.region<|.q Z (ae Z)<|.l Z (fun _ _ fE _=>lL (n:=n) (k:=n) wf d3 rfl rfl er dx z3 mg rfl (Nat.le_refl _) (by show 8 * _<=_;omega) O fun A9 b8 aY aS=>?_);rw [im] at aS;have bA:=d3.trans aY.le;refine fE _ _<|.q Z (ah Z)<|.nil<|h6 _ _<|.seq fun _ f3=>.region<|.l Z (fun _ _ e9 _=>mu aY.wf fun A17 b9 av=>?_);have eS:=aS.own.ne_new aY.wf av.lo;have bp:=aL wf (Nat.le_trans bA.n av.lo);have dv:=aS.le av.le;have eA:=bA.trans av.le;refine e9 _ _<|.q Z (ah Z)<|.nil<|f3 _ _<|.seq fun _ f4=>.seq fun _ f6=>.region<|.q Z (ae Z)<|.q Z (ae Z)<|.nil ?_;refine f6 _ _<|.block<|.loop (X:=Nat × List Int × List (Bool × Bool) × Array MapEntry × Nat × Value) (fun ⟨i,o,Q,es,ck,cv⟩=>[(0,num ((n:Nat):Int)),(1,.func (.func g1) #[] aB),(2,.func (.func g2) #[] a8),(7,.func (.func 201) #[] #[]),(8,cv),(9,.map (some b9)),(21,num ((n:Nat):Int)),(22,num ((i:Nat):Int))]) (fun ⟨i,o,Q,es,ck,cv⟩ B=>(i<=n/\mw n sf i o Q/\dC iY es (mi Q))/\A.le B/\Fresh A B cv 1 (c9 o)/\B.get b9=some (.obj true (.map es ck))/\V.blk cv ≠ some b9) (fun ⟨i,o,Q,es,ck,cv⟩=>n - i) (⟨0,List.replicate n 0,[],#[],0,.slice (some ⟨b8,0,none⟩) n n⟩) (xd Z Z Z Z Z Z Z Z) (⟨⟨Nat.zero_le _,mw.start,dC.nil⟩,eA,dv,av.get,eS⟩) ?_;rintro ⟨i,o,Q,es,ck,cv⟩ B27 ⟨⟨hi,hnu,hme⟩,aV,aA,ap,h⟩;refine ao.wf fun f0=>?_;have hol:=hnu.len hi;have hql:=hnu.le;refine ao.seq fun _ f7=>.region<|.q Z (cA Z Z)<|.nil<|f7 _ _<|.seq fun _ f9=>.if rfl (fun fO=>?_) (fun fO=>?_)
 ·refine ao.skip<|f9 _ _<|.seq fun _ cX=>.block<|.seq fun _ fd=>.region<|.q Z (ae Z)<|.q Z (ah Z)<|.nil<|fd _ _ ?_;refine ao.seq fun _ fe=>.region<|.q Z (ae Z)<|.q Z (ae Z)<|.l Z (fun _ _ ea _=>np Z Z (e6 i B27 O aV f0) ?_);rintro gA A42 ⟨rfl,aE,aP⟩;have cZ:=aE.get _ _ ap;have bc:=aA.le aE;have bB:=aV.trans aE;refine ea _ _<|.l Z (fun _ _ ec _=>ca aP Sd rfl fun A49 g9 a4=>?_);have aF:=ne_new aP cZ a4.lo;have eT:=bc.own.ne_new aP a4.lo;have br:=aL wf (Nat.le_trans bB.n a4.lo);have fi:=a4.le.get _ _ cZ;have dw:=bc.le a4.le;have eC:=bB.trans a4.le;refine ec _ _<|.l Z (fun _ _ eg _=>aM (cs:=[.bool ((sf i).1),.bool ((sf i).2)]) (c':=[.bool ((sf i).1),.bool ((sf i).2)]) a4.wf rfl rfl rfl rfl An a4.get (Nat.le_of_ble_eq_true rfl) rfl rfl fun A56 a5=>?_);have b1:=a5.keep _ _ aF fi;have bd:=dw.keep a5.keep eT;have bC:=al eC wf br a5.n a5.keep;refine eg _ _<|.nil<|fe _ _<|.seq fun _ d0=>.region<|.q Z (ae Z)<|.q Z (am Jd An Z Z a5.get Z)<|.look2G (L:=Q) (k:=sf i) Z Z Z PY Mn z3 b1 hme (fun ey=>?_) (fun bu=>?_)
  ·refine Ops.q Z (ae Z)<|.q Z (bf Z Z)<|.q Z (bf Z Z)<|.q Z (ah Z)<|.q Z (ah Z)<|.nil<|d0 _ _<|.seq fun _ fl=>.seq fun _ fm=>.region ?_;refine Ops.q Z (ae Z)<|.q Z (eE Z)<|.nil<|fm _ _<|.cond_false Z<|.skip<|fl _ _<|.region<|.q Z (ae Z)<|.q Z (ae Z) ?_;refine Ops.q Z (ae Z) ?_;obtain ⟨gc,gm,gf,fQ,g3,cU,d1,f1,gC,fM,gq,fI⟩:=bd.at1 (x:=i) O3;rw [aH] at d1;refine Ops.q Z (aJ er dx Z cU Z (by rw [d1];omega))<|.l Z (fun _ _ en _=>aM (off:=i) (c':=fQ.set i (num ((iC Q (sf i):Nat):Int))) a5.wf rfl (by simp) rfl rfl dx f1 (by show i + 1<=_;omega) rfl rfl fun A71 aG=>?_);have fn:=aG.keep _ _ (fun q=>h (by rw [cU];exact congrArg some q.symm)) b1;have bl:=fI (num ((iC Q (sf i):Nat):Int)) A71 aG;rw [io] at bl;have eG:=al bC wf fM aG.n aG.keep;refine en _ _<|.nil<|cX _ _<|.region<|.q Z (bN (b:=1) Z Z O)<|.q Z (ae Z)<|.nil ?_;exact ⟨⟨i + 1,o.set i (((iC Q (sf i):Nat):Int)),Q,es,ck,cv⟩,xd Z Z Z Z Z Z Z Z,Z,⟨⟨by omega,hnu.old O ey,hme⟩,eG,bl,fn,h⟩,O1⟩
  refine Ops.q Z (ae Z)<|.q Z (bf Z Z)<|.q Z (bf Z Z)<|.q Z (ah Z)<|.q Z (ah Z)<|.nil<|d0 _ _<|.seq fun _ fo=>.seq fun _ fq=>.region ?_;refine Ops.q Z (ae Z)<|.q Z (eE Z)<|.nil<|fq _ _<|.cond_true Z<|.seq fun _ fr=>.region<|.q Z (ae Z)<|.l Z (fun _ _ ev _=>rl (Q:=Q) Z PY b1 hme ?_);refine ev _ _<|.q Z (ah Z)<|.nil<|fr _ _<|.region<|.q Z (ae Z)<|.q Z (am Jd An Z Z a5.get Z)<|.q Z (ae Z)<|.new2G (L:=Q) (k:=sf i) rfl a5.wf rfl rfl rfl PY Mn b1 hme bu fun A84 dk dj ay eQ=>?_;have dz:=bd.keep ay.keep h;have eL:=al bC wf bp ay.n ay.keep;refine Ops.nil<|fo _ _<|.region<|.q Z (ae Z)<|.q Z (ae Z)<|.q Z (ae Z) ?_;obtain ⟨ge,gp,gg,fR,g4,cV,d2,f2,gD,fN,gs,fL⟩:=dz.at1 (x:=i) O3;rw [aH] at d2;refine Ops.q Z (aJ er dx Z cV Z (by rw [d2];omega))<|.l Z (fun _ _ ex _=>aM (off:=i) (c':=fR.set i (num ((Q.length:Nat):Int))) ay.wf rfl (by simp) rfl rfl dx f2 (by show i + 1<=_;omega) rfl rfl fun A94 aI=>?_);have ft:=aI.keep _ _ (fun q=>h (by rw [cV];exact congrArg some q.symm)) ay.get;have bm:=fL (num ((Q.length:Nat):Int)) A94 aI;rw [io] at bm;have eN:=al eL wf fN aI.n aI.keep;refine ex _ _<|.nil<|cX _ _<|.region<|.q Z (bN (b:=1) Z Z O)<|.q Z (ae Z)<|.nil ?_;exact ⟨⟨i + 1,o.set i (((Q.length:Nat):Int)),Q ++ [sf i],dk,dj,cv⟩,xd Z Z Z Z Z Z Z Z,Z,⟨⟨by omega,hnu.new O bu,eQ⟩,eN,bm,ft,h⟩,O1⟩
 refine ao.exit<|f4 _ _<|.seq fun _ dG=>.region<|.q Z (ae Z)<|.l Z (fun _ _ bY _=>rl (Q:=Q) Z PY ap hme ?_);refine bY _ _<|.q Z (ah Z)<|.nil<|dG _ _<|.block ?_;have hnf:=hnu.fin O;have gl:=hnu.le;refine ao.loop (X:=Nat × List Int × Value) (fun ⟨cnt,cls,kv⟩=>[(0,num ((n:Nat):Int)),(2,.func (.func g2) #[] a8),(7,.func (.func 201) #[] #[]),(8,kv),(14,num ((cnt:Nat):Int))]) (fun ⟨cnt,cls,kv⟩ B=>(qg n sf key cnt cls/\R cls)/\A.le B/\Fresh A B kv 1 (c9 cls)) (fun ⟨cnt,cls,kv⟩=>n - cnt) (⟨Q.length,o,cv⟩) (rn Z Z Z Z Z) (⟨⟨qg.start hnf,by have:=fv;rw [hnf] at this;exact this⟩,aV,aA⟩) ?_;rintro ⟨cnt,cls,kv⟩ B104 ⟨⟨hcl,hRc⟩,b2,ag⟩;refine ao.wf fun b5=>?_;have hcll:=hcl.len;have hclc:=hcl.cnt;refine ao.block<|.seq fun _ dI=>.region<|.q Z (ae Z)<|.l Z (fun _ _ c3 _=>lL (n:=n) (k:=n) b5 b2 rfl rfl er dx z3 mg rfl (Nat.le_refl _) (by show 8 * _<=_;omega) O fun A110 dd a6 aC=>?_);rw [im] at aC;have aZ:=ag.le a6.le;have b3:=b2.trans a6.le;have cS:=bh.of_new (n:=n) (c:=n) ag.own b5 a6.lo;refine c3 _ _<|.q Z (ah Z)<|.nil<|dI _ _<|.seq fun _ dJ=>.region<|.l Z (fun _ _ c4 _=>mu a6.wf fun A121 a3 a2=>?_);have cK:=aZ.own.ne_new a6.wf a2.lo;have cP:=aC.own.ne_new a6.wf a2.lo;have b7:=aL wf (Nat.le_trans b3.n a2.lo);have bO:=aZ.le a2.le;have bP:=aC.le a2.le;have cu:=b3.trans a2.le;refine c4 _ _<|.q Z (ah Z)<|.nil<|dJ _ _<|.seq fun _ dK=>.seq fun _ dO=>.region<|.q Z (ae Z)<|.q Z (ae Z)<|.nil ?_;refine dO _ _<|.block<|.loop (X:=Nat × List Int × List Wd × Array MapEntry × Nat × Value) (fun ⟨j,o3,Q3,es,ck,nv⟩=>[(0,num ((n:Nat):Int)),(2,.func (.func g2) #[] a8),(7,.func (.func 201) #[] #[]),(8,kv),(14,num ((cnt:Nat):Int)),(15,nv),(16,.map (some a3)),(51,num ((n:Nat):Int)),(52,num ((j:Nat):Int))]) (fun ⟨j,o3,Q3,es,ck,nv⟩ B=>(j<=n/\mw n (key cls) j o3 Q3/\dC aX es (mi Q3))/\A.le B/\Fresh A B nv 1 (c9 o3)/\Fresh A B kv 1 (c9 cls)/\B.get a3=some (.obj true (.map es ck))/\V.blk nv ≠ some a3/\V.blk kv ≠ some a3/\bh nv kv) (fun ⟨j,o3,Q3,es,ck,nv⟩=>n - j) (⟨0,List.replicate n 0,[],#[],0,.slice (some ⟨dd,0,none⟩) n n⟩) (QT Z Z Z Z Z Z Z Z Z) (⟨⟨Nat.zero_le _,mw.start,dC.nil⟩,cu,bP,bO,a2.get,cP,cK,cS⟩) ?_;rintro ⟨j,o3,Q3,es,ck,nv⟩ B133 ⟨⟨hj,ai,aT⟩,ad,a7,ab,a1,D,a0,ac⟩;refine ao.wf fun b6=>?_;have fV:=ai.len hj;have fX:=ai.le;refine ao.seq fun _ dS=>.region<|.q Z (cA Z Z)<|.nil<|dS _ _<|.seq fun _ dV=>.if rfl (fun eX=>?_) (fun eX=>?_)
 ·refine ao.skip<|dV _ _<|.seq fun _ dW=>.block<|.seq fun _ dZ=>.region<|.q Z (ae Z)<|.q Z (ah Z)<|.nil<|dZ _ _ ?_;refine ao.region<|.q Z (ae Z)<|.q Z (ae Z)<|.q Z (ae Z)<|.q Z (ae Z)<|.q Z (ae Z)<|.q Z (ae Z)<|.q Z (ae Z)<|.l Z (fun _ _ c7 _=>np Z Z (e7 cls kv j B133 ab.slc hcll hcl.rng O ad b6) ?_);rintro g6 A146 ⟨rfl,a9,bL⟩;have e0:=a9.get _ _ a1;have bR:=a7.le a9;have bS:=ab.le a9;have cB:=ad.trans a9;refine c7 _ _ ?_;have cC:=cg (bs:=[some a3]) cB (qz b7 nf);refine Ops.l Z (fun _ _ cb _=>np Z Z (LU a3 es ck Q3 (key cls j) (A146.hide [some a3]) A146 (cM A146 [some a3]) (cr bL) e0 (cn (by simp)) aT ai.nd) ?_);rintro g7 A154 ⟨bb,ba,rfl,ar,bM,az,bD⟩;have bT:=bR.off (gJ D fW) ar;have bU:=bS.off (gJ a0 fW) ar;have cF:=cC.trans ar;refine cb _ _ ?_;obtain ⟨di,g0,fT,eZ,fS,aR,bv,dD,g8,eV,g5,ez⟩:=bT.at1 (x:=j) O3;rw [aH] at bv;refine Ops.q Z (aJ er dx Z aR Z (by rw [bv];omega))<|.l Z (fun _ _ cc _=>aM (off:=j) (c':=eZ.set j (num ((iC Q3 (key cls j):Nat):Int))) bM rfl (by simp) rfl rfl dx dD (by show j + 1<=_;omega) rfl rfl fun A162 aa=>?_);have e1:=aa.keep _ _ (fun q=>D (by rw [aR];exact congrArg some q.symm)) az;have bV:=bU.keep aa.keep (ac di (by rw [aR];rfl));have b0:=ez (num ((iC Q3 (key cls j):Nat):Int)) A162 aa;rw [io] at b0;have cH:=al cF wf eV aa.n aa.keep;refine cc _ _<|.nil<|dW _ _<|.region<|.q Z (bN (b:=1) Z Z O)<|.q Z (ae Z)<|.nil ?_;exact ⟨⟨j + 1,o3.set j (((iC Q3 (key cls j):Nat):Int)),jo Q3 (key cls j),bb,ba,nv⟩,QT Z Z Z Z Z Z Z Z Z,Z,⟨⟨by omega,ai.next O,bD⟩,cH,b0,bV,e1,D,a0,ac⟩,O1⟩
 refine ao.exit<|dK _ _<|.seq fun _ e2=>.region<|.q Z (ae Z)<|.q Z (ah Z)<|.nil<|e2 _ _<|.seq fun _ e3=>.seq fun _ e4=>?_;have aD:=ai.fin O;refine ao.region<|.q Z (ae Z)<|.l Z (fun _ _ cf _=>rl (Q:=Q3) Z Mp a1 aT ?_);refine cf _ _<|.q Z (ae Z)<|.q Z (oq Z Z)<|.nil<|e4 _ _<|.if rfl (fun eY=>?_) (fun eY=>?_)
 ·refine ao.seq fun _ e5=>.region<|.q Z (ae Z)<|.q Z (ah Z)<|.nil<|e5 _ _<|.rt (by exact be Z (⟨ad,b6,c6 a7 (congrArg c9 (hcl.stop aD ‹_›))⟩))
 refine ao.skip<|e3 _ _<|.region<|.q Z (ae Z)<|.l Z (fun _ _ ch _=>rl (Q:=Q3) Z Mp a1 aT ?_);refine ch _ _<|.q Z (ah Z)<|.nil ?_;exact ⟨⟨Q3.length,o3,nv⟩,rn Z Z Z Z Z,Z,⟨⟨(hcl.next (fun i j hi hj=>hinj cls hcll hcl.rng hRc i j hi hj) aD ‹_›).1,by have:=fD cls hcll hRc;rw [aD] at this;exact this⟩,ad,a7⟩,(by have:=(hcl.next (fun i j hi hj=>hinj cls hcll hcl.rng hRc i j hi hj) aD ‹_›).2;(try dsimp only);omega)⟩
end Go.Proofs.YtjppkekmddjcfaaGreatDoor
