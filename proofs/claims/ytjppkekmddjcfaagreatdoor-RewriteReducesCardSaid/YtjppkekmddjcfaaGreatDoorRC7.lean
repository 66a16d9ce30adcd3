import Derived.Test.YtjppkekmddjcfaaGreatDoorRC6
set_option linter.unusedSectionVars false
set_option linter.unusedVariables false
set_option linter.unusedSimpArgs false
namespace Go.Proofs.YtjppkekmddjcfaaGreatDoor
open Go Go.RowKit V
set_option maxRecDepth 100000
theorem jy:ee Tryz.prog 213 1=some (59,1):=by kernel_rfl
theorem p3:ee Tryz.prog 213 2=some (60,2):=by kernel_rfl
theorem rJ:ee Tryz.prog 213 3=some (67,3):=by kernel_rfl
theorem rK:ee Tryz.prog 213 4=some (67,4):=by kernel_rfl
theorem Ur:dh Tryz.prog 213=some [(0,1),(1,1),(2,1),(3,1),(4,1)]:=by kernel_rfl
theorem Vw:type_of% @Tryz.underlying213:=@Tryz.underlying213
theorem EO:type_of% @Tryz.underlying222:=@Tryz.underlying222
theorem VD:cD Tryz.prog 213=some (.agg #[.int .i64 0,.slice none 0 0,.slice none 0 0,.slice none 0 0,.slice none 0 0]):=by kernel_rfl

theorem ye (k most bd F0:Nat) (s0:Int) (g1 g2:Nat) (eZ f0:Array Value) (step:Int->Nat->Option Int) (accf:Int->Bool) (D:Int->Prop) (A:AH) (hk:k<=1000) (hm:bd<=most/\most<=1000000/\bd < F0) (H5:D s0) (hDs:∀ q c t,D q->c < k->step q c=some t->D t) (hfin:∀ Q:List Int,Q.Nodup->(∀ q ∈ Q,D q)->Q.length<=bd) (EQ:∀ (q:Int) (c:Nat) B,D q->c < k->A.le B->B.wf->bH Tryz.prog g1 (#[num q,num (c:Int)] ++ eZ) B (fun v C=>v=.tuple #[num ((step q c).getD 0),.bool (step q c).isSome]/\B.le C/\C.wf)) (ES:∀ (q:Int) B,D q->A.le B->B.wf->bH Tryz.prog g2 (#[num q] ++ f0) B (fun v C=>v=.bool (accf q)/\B.le C/\C.wf)):bH Tryz.prog 148 #[num ((k:Nat):Int),num ((most:Nat):Int),num (s0),.func (.func g1) #[] eZ,.func (.func g2) #[] f0] A (fun v A1=>∃ b av nv fv bv rows,v=.tuple #[.pointer (some ⟨b,0,none⟩),.bool true]/\A.le A1/\A1.wf/\A1.get b=some (.row true [num (k:Int),av,nv,fv,bv] 5)/\A.get b=none/\Fresh A A1 av 1 (cl ((fU k step F0 0 [s0] []).1.map accf))/\Fresh A A1 nv 1 (em rows)/\ib A A1 rows (fU k step F0 0 [s0] []).2/\blk av ≠ some b/\blk nv ≠ some b/\dG rows b/\bq av nv/\aL av rows/\aL nv rows):=by
 refine VI Tryz.call148 Tryz.func148 Z Tryz.results148 Tryz.ntmps148 Z (fun wf=>?_);have BP:=AH.le.refl A;refine am.seq fun _ h2=>.region<|.q Z (ae Z)<|.q Z (ae Z)<|.nil<|h2 _ _<|.seq fun _ h4=>.region<|.q Z (ah Z)<|.q Z (cU Z (bn Vw VD Ur Z)) ?_;refine Ops.l Z (fun _ _ H6 _=>dQ wf rfl rfl fun A7 b6 fO=>?_);have cA:=aU wf (Nat.le_trans BP.n fO.lo);have BM:=BP.trans fO.le;refine H6 _ _<|.q Z (ae Z)<|.nil<|h4 _ _<|.seq fun _ Gl=>.region<|.l Z (fun _ _ ET _=>nh fO.wf fun A14 cX eN=>?_);have aA:=ne_new fO.wf fO.get eN.lo;have hd:=aU wf (Nat.le_trans BM.n eN.lo);have Gm:=eN.le.get _ _ fO.get;have Fn:=BM.trans eN.le;refine ET _ _<|.q Z (ah Z)<|.l Z (fun _ _ EV _=>RL tc (E:=[]) eN.wf rfl rfl rfl EO u3 eN.get du.nil List.nodup_nil fun A19 nC BT dO Ft=>?_);have By:=dO.keep _ _ aA Gm;have oP:=an Fn wf hd dO.n dO.keep;have F7:du num nC (Gu [s0]):=Ft;refine EV _ _<|.q Z (ah Z)<|.q Z (ae Z)<|.nil<|Gl _ _<|.seq fun _ Gn=>.region<|.q Z (ah Z)<|.l Z (fun _ _ EX _=>aN (c:=[num (s0)]) dO.wf rfl (aw ep c5 z3 rfl U U rfl) fun A30 Bv d2=>?_);have dK:=ne_new dO.wf By d2.lo;have gS:=ne_new dO.wf dO.get d2.lo;have nD:=aU wf (Nat.le_trans oP.n d2.lo);have BA:=d2.le.get _ _ By;have BB:=d2.le.get _ _ dO.get;have oQ:=oP.trans d2.le;refine EX _ _<|.q Z (ae Z)<|.nil<|Gn _ _<|.seq fun _ Go=>.region<|.q Z (ah Z)<|.q Z (ah Z)<|.l Z (fun _ _ EY _=>aN (c:=[num (-1)]) d2.wf rfl (aw ep c5 z3 rfl U U rfl) fun A39 hb ch=>?_);have dL:=ne_new d2.wf BA ch.lo;have gX:=ne_new d2.wf BB ch.lo;have gZ:=ne_new d2.wf d2.get ch.lo;have nE:=aU wf (Nat.le_trans oQ.n ch.lo);have BC:=ch.le.get _ _ BA;have BD:=ch.le.get _ _ BB;have BL:=ch.le.get _ _ d2.get;have oR:=oQ.trans ch.le;refine EY _ _<|.l Z (fun _ _ EZ _=>aN (c:=[num (-1)]) ch.wf rfl (aw ep c5 z3 rfl U U rfl) fun A47 hM d3=>?_);have dM:=ne_new ch.wf BC d3.lo;have gY:=ne_new ch.wf BD d3.lo;have h0:=ne_new ch.wf BL d3.lo;have h1:=ne_new ch.wf ch.get d3.lo;have nH:=aU wf (Nat.le_trans oR.n d3.lo);have Gp:=d3.le.get _ _ BC;have Gq:=d3.le.get _ _ BD;have Gs:=d3.le.get _ _ BL;have GC:=d3.le.get _ _ ch.get;have Fo:=oR.trans d3.le;refine EZ _ _<|.q Z (cQ Z)<|.q Z (aj rJ fF U Z)<|.l Z (fun _ _ F2 _=>aQ (cs:=[.slice (some ⟨hb,0,none⟩) 1 1]) (c':=[num ((k:Nat):Int),.slice none 0 0,.slice none 0 0,.slice (some ⟨hb,0,none⟩) 1 1,.slice none 0 0]) d3.wf rfl rfl rfl rfl fF Gp (Nat.le_of_ble_eq_true rfl) rfl rfl fun A55 dS=>?_);have GD:=dS.keep _ _ aA.symm Gq;have GE:=dS.keep _ _ dK.symm Gs;have GF:=dS.keep _ _ dL.symm GC;have GG:=dS.keep _ _ dM.symm d3.get;have Fq:=an Fo wf cA dS.n dS.keep;refine F2 _ _<|.q Z (cQ Z)<|.q Z (aj rK fF U Z)<|.l Z (fun _ _ F3 _=>aQ (cs:=[.slice (some ⟨hM,0,none⟩) 1 1]) (c':=[num ((k:Nat):Int),.slice none 0 0,.slice none 0 0,.slice (some ⟨hb,0,none⟩) 1 1,.slice (some ⟨hM,0,none⟩) 1 1]) dS.wf rfl rfl rfl rfl fF dS.get (Nat.le_of_ble_eq_true rfl) rfl rfl fun A63 e5=>?_);have GL:=e5.keep _ _ aA.symm GD;have GM:=e5.keep _ _ dK.symm GE;have GN:=e5.keep _ _ dL.symm GF;have GP:=e5.keep _ _ dM.symm GG;have Fs:=an Fq wf cA e5.n e5.keep;refine F3 _ _<|.nil<|Go _ _<|.seq fun _ GQ=>.seq fun _ GS=>.region<|.q Z (ae Z)<|.nil<|GS _ _<|.block ?_;have C1:Fresh A A63 (.slice (some ⟨hb,0,none⟩) 1 1) 1 (cO [-1]):=Fresh.lit GN nE Z (Nat.le_of_ble_eq_true Z);have C2:Fresh A A63 (.slice (some ⟨hM,0,none⟩) 1 1) 1 (cO [-1]):=Fresh.lit GP nH Z (Nat.le_of_ble_eq_true Z);have C3:Fresh A A63 (.slice (some ⟨Bv,0,none⟩) 1 1) 1 (cO [s0]):=Fresh.lit GM nD Z (Nat.le_of_ble_eq_true Z);have BY:ib A A63 [] []:=ib.nil;refine am.loop (X:=Nat × List Int × List Bool × List Int × List Int × Array MapEntry × Nat × Nat × Value × Value × Value × Value × Value × List Value × List (List Int)) (fun ⟨i,Q,ac,fi,bl,es,ck,f,qv,av,nv,fv,bv,rw,R⟩=>[(0,num ((k:Nat):Int)),(1,num ((most:Nat):Int)),(3,.func (.func g1) #[] eZ),(4,.func (.func g2) #[] f0),(12,.pointer (some ⟨b6,0,none⟩)),(13,.map (some cX)),(14,qv),(15,num ((i:Nat):Int))]) (fun ⟨i,Q,ac,fi,bl,es,ck,f,qv,av,nv,fv,bv,rw,R⟩ B=>(i<=Q.length/\ac=(Q.take i).map accf/\Q.Nodup/\(∀ q ∈ Q,D q)/\du num es (Gu Q)/\fU k step f i Q R=(fU k step F0 0 [s0] [])/\f + i=F0/\fi.length=Q.length/\bl.length=Q.length/\R.length=i)/\A.le B/\Fresh A B qv 1 (cO Q)/\Fresh A B av 1 (cl ac)/\Fresh A B nv 1 (em rw)/\Fresh A B fv 1 (cO fi)/\Fresh A B bv 1 (cO bl)/\B.get cX=some (.obj true (.map es ck))/\B.get b6=some (.row true [num ((k:Nat):Int),av,nv,fv,bv] 5)/\V.blk qv ≠ some cX/\V.blk av ≠ some cX/\V.blk nv ≠ some cX/\V.blk fv ≠ some cX/\V.blk bv ≠ some cX/\V.blk qv ≠ some b6/\V.blk av ≠ some b6/\V.blk nv ≠ some b6/\V.blk fv ≠ some b6/\V.blk bv ≠ some b6/\bq qv av/\bq qv nv/\bq qv fv/\bq qv bv/\bq av nv/\bq av fv/\bq av bv/\bq nv fv/\bq nv bv/\bq fv bv/\ib A B rw R/\dG rw cX/\dG rw b6/\aL qv rw/\aL av rw/\aL nv rw/\aL fv rw/\aL bv rw) (fun ⟨i,Q,ac,fi,bl,es,ck,f,qv,av,nv,fv,bv,rw,R⟩=>F0 - i) (⟨0,[s0],[],[-1],[-1],nC,BT,F0,.slice (some ⟨Bv,0,none⟩) 1 1,.slice none 0 0,.slice none 0 0,.slice (some ⟨hb,0,none⟩) 1 1,.slice (some ⟨hM,0,none⟩) 1 1,[],[]⟩) (yC Z Z Z Z Z Z Z Z) (⟨⟨Nat.zero_le _,rfl,by simp,fun q hq=>by rw [List.mem_singleton] at hq;subst hq;exact H5,F7,rfl,by omega,rfl,rfl,rfl⟩,Fs,C3,(Fresh.nil A A63 1),(Fresh.nil A A63 1),C1,C2,GL,e5.get,(fun q=>by cases q;exact gS rfl),(fun q=>by cases q),(fun q=>by cases q),(fun q=>by cases q;exact gX rfl),(fun q=>by cases q;exact gY rfl),(fun q=>by cases q;exact dK rfl),(fun q=>by cases q),(fun q=>by cases q),(fun q=>by cases q;exact dL rfl),(fun q=>by cases q;exact dM rfl),(bq.symm bq.nil),(bq.symm bq.nil),(fun c hc hq=>by cases hc;cases hq;exact gZ rfl),(fun c hc hq=>by cases hc;cases hq;exact h0 rfl),bq.nil,bq.nil,bq.nil,bq.nil,bq.nil,(fun c hc hq=>by cases hc;cases hq;exact h1 Z),BY,lL,lL,aL.empty,aL.nil,aL.nil,aL.empty,aL.empty⟩) ?_;rintro ⟨i,Q,ac,fi,bl,es,ck,f,qv,av,nv,fv,bv,rw,R⟩ B81 ⟨⟨hi,hac,hnd,hDQ,hme,hex,hf,hfi,hbl,hRl⟩,hB,eA,fL,fM,nB,nq,hw,dV,fI,e2,fE,fD,ft,ec,dD,dI,ea,e9,fm,hG,hH,hI,e6,fn,fo,hJ,hK,hL,fN,fq,dw,gm,dz,e7,gp,gq⟩;refine am.wf fun oS=>?_;have hrw:rw.length=R.length:=by first | exact ib.len ‹_›
 have hlQ:=hfin Q hnd hDQ;have hla:ac.length=i:=by rw [hac,List.length_map,List.length_take];omega
 have hDi:=fun q:i < Q.length=>hDQ _ (bw (d:=(0:Int)) q);refine am.seq fun _ H0=>.seq fun _ H1=>.region<|.q Z (ah Z)<|.q Z (ah Z)<|.q Z (bF (n:=Q.length) ep Z eA.slc O (eD _))<|.q Z (cd Z Z)<|.nil<|H1 _ _<|.if rfl (fun H8=>?_) (fun H8=>?_)
 ·refine am.skip<|H0 _ _<|.seq fun _ H2=>.block<|.seq fun _ H3=>.drawn [0,1,2,3,4,5,6,7,8,9,10,11,12,13,14,15] mixed Y Y Z<|.q Z Z Z (ah Z)<|.q Z Z Z (ah Z)<|.q Z Z Z (cQ Z)<|.q Z Z Z (aj jy iK U Z) ?_;have EN:=cG (off:=1) dV (show _=some (av) from rfl);refine bj.q Z Z Z (ak iE Z Z dV Z)<|.q Z Z Z (ah Z)<|.q Z Z Z (ah Z)<|.q Z Z Z (ah Z) ?_;obtain ⟨Is,It,HR,ID,HQ,Ix,Iv,Gf,H7,Gg,HE,BU⟩:=bK.at (i:=i) eA.slc Of O;refine bj.q Z Z Z (ax ep c5 Z Gf Z H7)<|.q Z Z Z (ak eM Z Z Gg ((cT BU).trans (c8 O)))<|.l Z Z Z (fun _ _ F4 _=>oB Z Z (ES (Q.getD i 0) B81 (hDi O) hB oS) ?_);rintro IF A97 ⟨rfl,cS,nn⟩;have H4:=cS.get _ _ hw;have Cq:=cS.get _ _ dV;have pE:=eA.le cS;have pF:=fL.le cS;have pI:=fM.le cS;have pJ:=nB.le cS;have pL:=nq.le cS;have hN:=fN.le cS;have m6:=bW cS EN;have x6:=hB.trans cS;refine F4 _ _ (be.list (L:=[(⟨b6,1,none⟩,av)]) Y (bg m6 bZ))<|.l Z Z Z (fun _ _ v8 _=>aN (c:=[.bool (accf (Q.getD i 0))]) nn rfl (aw lS mc z4 rfl U U rfl) fun A112 Hq b8=>?_);have Hb:=hN.ne_new nn b8.lo;have nJ:=b8.le.get _ _ H4;have nK:=b8.le.get _ _ Cq;have i1:=pE.le b8.le;have i2:=pF.le b8.le;have ih:=pI.le b8.le;have ir:=pJ.le b8.le;have it:=pL.le b8.le;have hO:=hN.le b8.le;have v2:=bW b8.le m6;have x7:=x6.trans b8.le;refine v8 _ _ (be.list (L:=[(⟨b6,1,none⟩,av)]) Y (bg v2 bZ))<|.l Z Z Z (fun _ _ v9 _=>cF (ys:=[.bool (accf (Q.getD i 0))]) rfl rfl lS mc LU z4 rfl U lS (fun _ h=>by cases h) i2.own (bN (n:=1) b8.get Z) rfl rfl (by show (_ + _) * 1<=_;simp only [bJ,List.length_cons,List.length_nil];(try simp only [List.length_append,List.length_cons,List.length_nil]);omega) Ow fun A131 HX bm=>?_);rw [show ([.bool (accf (Q.getD i 0))]:List Value)=cl [accf (Q.getD i 0)] from rfl,nu] at bm;obtain ⟨iv,x8⟩:=Fresh.grow i2 x7 wf bm;have Cs:=bm.keep e2 nJ;have z0:=bm.ne e2 b8.wf nJ;have Cv:=bm.keep dD nK;have n2:=bm.ne dD b8.wf nK;have Ac:=bq.appd (show bq av qv from (bq.symm fm)) i1.own b8.wf bm;have pP:=i1.appd bm (bq.symm fm);have Ad:=bq.appd (show bq av nv from e6) ih.own b8.wf bm;have pS:=ih.appd bm e6;have Af:=bq.appd (show bq av fv from fn) ir.own b8.wf bm;have pV:=ir.appd bm fn;have Ag:=bq.appd (show bq av bv from fo) it.own b8.wf bm;have q0:=it.appd bm fo;have Ai:=aL.appd (show aL av rw from dz) hO b8.wf bm;have oW:=hO.appd bm (show aL av rw from dz);refine v9 _ _ (be.none Y)<|.q Z Z Z (cQ Z)<|.q Z Z Z (aj jy iK U Z) ?_;obtain ⟨aG,aF,aD,FQ,_⟩:=iv.own.slice;subst FQ;refine bj.l Z Z Z (fun _ _ vC _=>aQ (cs:=[.slice aG aF aD]) (c':=[num ((k:Nat):Int),.slice aG aF aD,nv,fv,bv]) bm.wf rfl rfl rfl rfl iK Cv (Nat.le_of_ble_eq_true rfl) rfl rfl fun A155 b1=>?_);have nL:=b1.keep _ _ aA.symm Cs;have iD:=pP.keep b1.keep ec;have iF:=pS.keep b1.keep dI;have iH:=pV.keep b1.keep ea;have iN:=q0.keep b1.keep e9;have iR:=iv.keep b1.keep n2;have hP:=oW.keep b1.keep dw;have mM:=an x8 wf cA b1.n b1.keep;refine vC _ _ (be.none Y)<|.done<|H3 _ _<|.seq fun _ CC=>.region<|.q Z (ah Z)<|.l Z (fun _ _ vS _=>mL (n:=k) (k:=k) b1.wf mM rfl rfl ep c5 z3 mZ rfl (Nat.le_refl _) (by show 8 * _<=_;omega) O fun A169 BR bp iS=>?_);rw [iu] at iS;have fr:=ne_new b1.wf nL bp.lo;have h3:=ne_new b1.wf b1.get bp.lo;have A9:=hP.ne_new b1.wf bp.lo;have CH:=bp.le.get _ _ nL;have CK:=bp.le.get _ _ b1.get;have q1:=iD.le bp.le;have q2:=iF.le bp.le;have q3:=iH.le bp.le;have q4:=iN.le bp.le;have q5:=iR.le bp.le;have oX:=hP.le bp.le;have x9:=mM.trans bp.le;have Ap:=bq.of_new (n:=k) (c:=k) iD.own b1.wf bp.lo;have Ar:=bq.of_new (n:=k) (c:=k) iF.own b1.wf bp.lo;have As:=bq.of_new (n:=k) (c:=k) iH.own b1.wf bp.lo;have At:=bq.of_new (n:=k) (c:=k) iN.own b1.wf bp.lo;have Av:=bq.of_new (n:=k) (c:=k) iR.own b1.wf bp.lo;refine vS _ _<|.q Z (ae Z)<|.nil<|CC _ _<|.seq fun _ CL=>.seq fun _ CS=>.region<|.q Z (ah Z)<|.q Z (ah Z)<|.nil ?_;refine CS _ _<|.block<|.loop (X:=Nat × List Int × List Int × List Int × List Int × List Int × Array MapEntry × Nat × Value × Value × Value × Value) (fun ⟨c,r,o,Q1,fi,bl,es,ck,rv,bM,ab,a2⟩=>[(0,num ((k:Nat):Int)),(1,num ((most:Nat):Int)),(3,.func (.func g1) #[] eZ),(4,.func (.func g2) #[] f0),(12,.pointer (some ⟨b6,0,none⟩)),(13,.map (some cX)),(14,bM),(15,num ((i:Nat):Int)),(16,rv),(61,num ((k:Nat):Int)),(62,num ((c:Nat):Int))]) (fun ⟨c,r,o,Q1,fi,bl,es,ck,rv,bM,ab,a2⟩ B=>(c<=k/\IU step (Q.getD i 0) Q c=(r,Q1)/\r.length=c/\o=r ++ List.replicate (k - c) 0/\Q1.Nodup/\(∀ q ∈ Q1,D q)/\du num es (Gu Q1)/\fi.length=Q1.length/\bl.length=Q1.length/\Q <+: Q1)/\A.le B/\Fresh A B rv 1 (cO o)/\Fresh A B bM 1 (cO Q1)/\Fresh A B ab 1 (cO fi)/\Fresh A B a2 1 (cO bl)/\Fresh A B nv 1 (em rw)/\Fresh A B (.slice aG aF aD) 1 (cl (ac ++ [accf (Q.getD i 0)]))/\B.get cX=some (.obj true (.map es ck))/\B.get b6=some (.row true [num ((k:Nat):Int),.slice aG aF aD,nv,ab,a2] 5)/\V.blk rv ≠ some cX/\V.blk bM ≠ some cX/\V.blk ab ≠ some cX/\V.blk a2 ≠ some cX/\V.blk nv ≠ some cX/\V.blk (.slice aG aF aD) ≠ some cX/\V.blk rv ≠ some b6/\V.blk bM ≠ some b6/\V.blk ab ≠ some b6/\V.blk a2 ≠ some b6/\V.blk nv ≠ some b6/\V.blk (.slice aG aF aD) ≠ some b6/\bq rv bM/\bq rv ab/\bq rv a2/\bq rv nv/\bq rv (.slice aG aF aD)/\bq bM ab/\bq bM a2/\bq bM nv/\bq bM (.slice aG aF aD)/\bq ab a2/\bq ab nv/\bq ab (.slice aG aF aD)/\bq a2 nv/\bq a2 (.slice aG aF aD)/\bq nv (.slice aG aF aD)/\ib A B rw R/\dG rw cX/\dG rw b6/\aL rv rw/\aL bM rw/\aL ab rw/\aL a2 rw/\aL nv rw/\aL (.slice aG aF aD) rw) (fun ⟨c,r,o,Q1,fi,bl,es,ck,rv,bM,ab,a2⟩=>k - c) (⟨0,[],List.replicate k 0,Q,fi,bl,es,ck,.slice (some ⟨BR,0,none⟩) k k,qv,fv,bv⟩) (vj Z Z Z Z Z Z Z Z Z Z Z) (⟨⟨Nat.zero_le _,rfl,rfl,by simp,hnd,hDQ,hme,hfi,hbl,List.prefix_refl _⟩,x9,iS,q1,q3,q4,q2,q5,CH,CK,(fun q=>by cases q;exact fr rfl),fI,fD,ft,fE,z0,(fun q=>by cases q;exact h3 Z),ec,ea,e9,dI,n2,Ap,As,At,Ar,Av,hH,hI,hG,(bq.symm Ac),hL,(bq.symm hJ),(bq.symm Af),(bq.symm hK),(bq.symm Ag),(bq.symm Ad),oX,fq,dw,(aL.new A9),gm,gp,gq,e7,Ai⟩) ?_;rintro ⟨c,r,o,Q1,fi,bl,es,ck,rv,bM,ab,a2⟩ B197 ⟨⟨hc,hexp,hrl,ho,eG,fd,fe,hv,hu,hpre⟩,mT,dv,eX,eV,eT,eS,e1,eY,e4,a5,bc,aa,a9,aB,az,a0,bD,a3,ai,a4,a1,bO,aV,aY,aC,aZ,cZ,d0,cv,d1,bu,b9,bA,ba,bB,bP,e3,bb,a8,ag,bS,aP,aR,bC,bL⟩;refine am.wf fun f7=>?_;have hlo:o.length=k:=by rw [ho];simp;omega
  have HH:=hfin Q1 eG fd;have hpl:=hpre.length_le;have hgi:=vI hpre (show i < Q.length by omega);have oz:D (Q1.getD i 0):=by rw [hgi];exact hDi O
  refine am.seq fun _ CV=>.region<|.q Z (cd Z Z)<|.nil<|CV _ _<|.seq fun _ D0=>.if rfl (fun FM=>?_) (fun FM=>?_)
  ·refine am.skip<|D0 _ _<|.seq fun _ f9=>.block<|.seq fun _ D1=>.region<|.q Z (ah Z)<|.q Z (ae Z)<|.nil<|D1 _ _ ?_;refine am.seq fun _ D2=>.region<|.q Z (ah Z)<|.q Z (ah Z) ?_;obtain ⟨eg,HJ,Hz,G5,Hj,di,oF,C4,If,Fv,HS,F9⟩:=dv.at1 (x:=c) Of;rw [aE] at oF;refine Ops.q Z (ax ep c5 Z di Z (by rw [oF];omega))<|.l Z (fun _ _ vX _=>aQ (off:=c) (c':=G5.set c (num (-1))) f7 rfl (by simp) rfl rfl c5 C4 (by show c + 1<=_;omega) rfl rfl fun A212 bU=>?_);have D3:=bU.keep _ _ (fun q=>a5 (by rw [di];exact congrArg some q.symm)) eY;have Dd:=bU.keep _ _ (fun q=>a0 (by rw [di];exact congrArg some q.symm)) e4;have iT:=eX.keep bU.keep (bO eg (by rw [di];rfl));have q6:=eV.keep bU.keep (aV eg (by rw [di];rfl));have q7:=eT.keep bU.keep (aY eg (by rw [di];rfl));have q8:=eS.keep bU.keep (aC eg (by rw [di];rfl));have q9:=e1.keep bU.keep (aZ eg (by rw [di];rfl));have oY:=e3.keep bU.keep (fun r hr=>ag r hr eg (by rw [di];rfl));have iV:=F9 (num (-1)) A212 bU;rw [iw] at iV;have mV:=an mT wf Fv bU.n bU.keep;refine vX _ _<|.nil<|D2 _ _<|.seq fun _ Di=>.region<|.q Z (ah Z)<|.q Z (ah Z)<|.q Z (ah Z) ?_;obtain ⟨Hr,HF,Hp,HP,Hk,HK,HI,BV,Fm,C7,H9,oV⟩:=bK.at (i:=i) iT.slc Of O;refine Ops.q Z (ax ep c5 Z BV Z Fm)<|.q Z (ak eM Z Z C7 ((cT oV).trans (c8 O)))<|.q Z (ah Z)<|.l Z (fun _ _ vZ _=>oB Z Z (EQ (Q1.getD i 0) c A212 oz O mV bU.wf) ?_);rintro HY A229 ⟨rfl,bT,he⟩;have gf:=bT.get _ _ D3;have hn:=bT.get _ _ Dd;have fX:=iV.le bT;have f4:=iT.le bT;have g0:=q6.le bT;have g3:=q7.le bT;have g4:=q8.le bT;have g5:=q9.le bT;have fV:=oY.le bT;have gE:=mV.trans bT;refine vZ _ _<|.q Z (ah Z)<|.q Z (bh Z Z)<|.q Z (bh Z Z)<|.q Z (ae Z)<|.q Z (ae Z)<|.nil<|Di _ _<|.seq fun _ Dj=>.seq fun _ Dk=>?_;refine am.region<|.q Z (ah Z)<|.q Z (eu Z)<|.nil<|Dk _ _<|.ifB Z (fun FN=>?_) (fun FN=>?_)
   ·refine am.exit<|f9 _ _<|.region<|.q Z (bE (b:=1) Z Z O)<|.q Z (ah Z)<|.nil ?_;exact ⟨⟨c + 1,r ++ [(-1)],o.set c ((-1)),Q1,fi,bl,es,ck,rv,bM,ab,a2⟩,vj Z Z Z Z Z Z Z Z Z Z Z,Z,⟨⟨by omega,LA hexp (by rw [<- hgi];exact Bj ‹_›),by simp;omega,by rw [ho,<- hrl];exact yF O,eG,fd,fe,hv,hu,hpre⟩,gE,fX,f4,g0,g3,g4,g5,gf,hn,a5,bc,aa,a9,aB,az,a0,bD,a3,ai,a4,a1,bO,aV,aY,aC,aZ,cZ,d0,cv,d1,bu,b9,bA,ba,bB,bP,fV,bb,a8,ag,bS,aP,aR,bC,bL⟩,O1⟩
   refine am.skip<|Dj _ _<|.seq fun _ nM=>.region<|.q Z (ah Z)<|.q Z (ah Z)<|.l Z (fun _ _ mK _=>O6 Z Z EO u3 z3 gf fe (fun Ha=>?_) (fun x5=>?_))
   ·refine mK _ _<|.q Z (ah Z)<|.q Z (bh Z Z)<|.q Z (bh Z Z)<|.q Z (ae Z)<|.q Z (ae Z)<|.nil<|nM _ _<|.seq fun _ Dl=>.seq fun _ Dm=>?_;refine am.region<|.q Z (ah Z)<|.q Z (eu Z)<|.nil<|Dm _ _<|.cond_false Z<|.skip<|Dl _ _<|.region<|.q Z (ah Z) ?_;refine Ops.q Z (ah Z)<|.q Z (ah Z) ?_;obtain ⟨en,HL,HA,G6,Hl,dj,oI,Cc,Ih,FD,HT,Fd⟩:=fX.at1 (x:=c) OJ;rw [aE] at oI;refine Ops.q Z (ax ep c5 Z dj Z (by rw [oI];(try simp only [List.length_set]);omega))<|.l Z (fun _ _ w0 _=>aQ (off:=c) (c':=G6.set c (num ((Q1.idxOf ((step (Q1.getD i 0) c).getD 0):Nat):Int))) he rfl (by simp) rfl rfl c5 Cc (by show c + 1<=_;omega) rfl rfl fun A257 cC=>?_);have Do:=cC.keep _ _ (fun q=>a5 (by rw [dj];exact congrArg some q.symm)) gf;have Ds:=cC.keep _ _ (fun q=>a0 (by rw [dj];exact congrArg some q.symm)) hn;have qa:=f4.keep cC.keep (bO en (by rw [dj];rfl));have qb:=g0.keep cC.keep (aV en (by rw [dj];rfl));have qd:=g3.keep cC.keep (aY en (by rw [dj];rfl));have qp:=g4.keep cC.keep (aC en (by rw [dj];rfl));have qr:=g5.keep cC.keep (aZ en (by rw [dj];rfl));have oZ:=fV.keep cC.keep (fun r hr=>ag r hr en (by rw [dj];rfl));have iX:=Fd (num ((Q1.idxOf ((step (Q1.getD i 0) c).getD 0):Nat):Int)) A257 cC;rw [iw] at iX;have xa:=an gE wf FD cC.n cC.keep;refine w0 _ _<|.nil<|f9 _ _<|.region<|.q Z (bE (b:=1) Z Z O)<|.q Z (ah Z)<|.nil ?_;exact ⟨⟨c + 1,r ++ [(Q1.idxOf ((step (Q1.getD i 0) c).getD 0):Int)],(o.set c ((-1))).set c (((Q1.idxOf ((step (Q1.getD i 0) c).getD 0):Nat):Int)),Q1,fi,bl,es,ck,rv,bM,ab,a2⟩,vj Z Z Z Z Z Z Z Z Z Z Z,Z,⟨⟨by omega,PW hexp (by rw [<- hgi];exact kF ‹_›) ‹_›,by simp;omega,by rw [ho,<- hrl];exact rI O,eG,fd,fe,hv,hu,hpre⟩,xa,iX,qa,qb,qd,qp,qr,Do,Ds,a5,bc,aa,a9,aB,az,a0,bD,a3,ai,a4,a1,bO,aV,aY,aC,aZ,cZ,d0,cv,d1,bu,b9,bA,ba,bB,bP,oZ,bb,a8,ag,bS,aP,aR,bC,bL⟩,O1⟩
   have gs:=po eG x5;have gg:=qg fd (hDs _ _ _ oz O (kF ‹(!(step (Q1.getD i 0) c).isSome)=false›));have F6:=hfin _ gs gg;rw [List.length_append,List.length_singleton] at F6;refine mK _ _<|.q Z (ah Z)<|.q Z (bh Z Z)<|.q Z (bh Z Z)<|.q Z (ae Z)<|.q Z (ae Z)<|.nil<|nM _ _<|.seq fun _ hp=>.seq fun _ Dv=>?_;refine am.region<|.q Z (ah Z)<|.q Z (eu Z)<|.nil<|Dv _ _<|.cond_true Z<|.seq fun _ Dw=>.region<|.q Z (ah Z)<|.q Z (bF (n:=Q1.length) ep Z f4.slc O (eD _)) ?_;refine Ops.q Z (ae Z)<|.nil<|Dw _ _<|.seq fun _ Dz=>.seq fun _ DD=>.region<|.q Z (ah Z)<|.q Z (ah Z)<|.q Z (vK Z Z)<|.nil ?_;refine DD _ _<|.if rfl (fun FO=>?_) (fun FO=>?_)
   ·refine am.seq fun _ HG=>?_;exfalso;omega
   refine am.skip<|Dz _ _<|.seq fun _ DI=>.region<|.q Z (ah Z)<|.q Z (ah Z)<|.q Z (ah Z)<|.l Z (fun _ _ w1 _=>oh tc he rfl rfl rfl EO u3 gf fe (by rw [vH];exact eG) fun A285 f1 fT bR yT=>?_);have DJ:=bR.keep _ _ aA hn;have qt:=fX.keep bR.keep a5;have qu:=f4.keep bR.keep bc;have qA:=g0.keep bR.keep aa;have qB:=g3.keep bR.keep a9;have qD:=g4.keep bR.keep aB;have qN:=g5.keep bR.keep az;have hQ:=fV.keep bR.keep bb;have xf:=an gE wf hd bR.n bR.keep;have fl:du num f1 (Gu (Q1 ++ [((step (Q1.getD i 0) c).getD 0)])):=by rw [<- QM ‹_›];exact yT
   refine w1 _ _<|.nil<|DI _ _<|.seq fun _ DK=>.region<|.q Z (ah Z)<|.q Z (ah Z)<|.l Z (fun _ _ w2 _=>aN (c:=[num ((step (Q1.getD i 0) c).getD 0)]) bR.wf rfl (aw ep c5 z3 rfl U U rfl) fun A304 Hs b0=>?_);have Hc:=hQ.ne_new bR.wf b0.lo;have nN:=b0.le.get _ _ bR.get;have nO:=b0.le.get _ _ DJ;have j1:=qt.le b0.le;have j2:=qu.le b0.le;have j3:=qA.le b0.le;have j4:=qB.le b0.le;have jX:=qD.le b0.le;have k0:=qN.le b0.le;have hR:=hQ.le b0.le;have xn:=xf.trans b0.le;refine w2 _ _<|.l Z (fun _ _ w3 _=>cF (ys:=[num ((step (Q1.getD i 0) c).getD 0)]) rfl rfl ep c5 mZ z3 rfl U ep (fun _ h=>by cases h) j2.own (bN (n:=1) b0.get Z) rfl rfl (by show (_ + _) * 8<=_;simp only [aE,List.length_cons,List.length_nil];(try simp only [List.length_append,List.length_cons,List.length_nil]);omega) O2 fun A324 dJ ar=>?_);rw [show ([num ((step (Q1.getD i 0) c).getD 0)]:List Value)=cO [(step (Q1.getD i 0) c).getD 0] from rfl,dA] at ar;obtain ⟨k1,mX⟩:=Fresh.grow j2 xn wf ar;have nQ:=ar.keep bc nN;have gF:=ar.ne bc b0.wf nN;have eC:=ar.keep bD nO;have dd:=ar.ne bD b0.wf nO;have dW:=bq.appd (show bq bM rv from (bq.symm bO)) j1.own b0.wf ar;have k2:=j1.appd ar (bq.symm bO);have dZ:=bq.appd (show bq bM ab from cZ) j3.own b0.wf ar;have g6:=j3.appd ar cZ;have e0:=bq.appd (show bq bM a2 from d0) j4.own b0.wf ar;have k3:=j4.appd ar d0;have h8:=bq.appd (show bq bM nv from cv) jX.own b0.wf ar;have k4:=jX.appd ar cv;have h9:=bq.appd (show bq bM (.slice aG aF aD) from d1) k0.own b0.wf ar;have k6:=k0.appd ar d1;have ha:=aL.appd (show aL bM rw from bS) hR b0.wf ar;have f2:=hR.appd ar (show aL bM rw from bS);refine w3 _ _<|.q Z (ae Z)<|.nil<|DK _ _<|.drawnT (.one 0 (.one 1 (.one 2 (.one 3 (.one 4 (.one 5 (.one 6 (.one 9 (.one 10 (.one 11 (.one 12 (.one 13 (.two 7 14 (.two 8 14 (.one 14 (.one 15 (.one 16 (.one 17 (.one 18 (.one 19 (.one 20 (.one 21 (.done))))))))) (.one 8 (.one 15 (.one 16 (.one 17 (.one 18 (.one 19 (.one 20 (.one 21 (.done)))))))))) (.one 7 (.one 8 (.one 15 (.one 16 (.one 17 (.one 18 (.one 19 (.one 20 (.one 21 (.done))))))))))))))))))))))) mixed Y Y Z ?_;refine cM.q Z Z Z (ah Z) ?_;refine cM.q Z Z Z (ah Z) ?_;refine cM.q Z Z Z (ah Z) ?_;refine cM.q Z Z Z (cQ Z) ?_;refine cM.q Z Z Z (aj rJ fF U Z) ?_;have mb:=cG (off:=3) eC (show _=some (ab) from rfl);refine cM.q Z Z Z (ak l8 Z Z eC Z) ?_;refine cM.q Z Z Z (ah Z) ?_;refine cM.q Z Z Z (ah Z) ?_;refine cM.q Z Z Z (cQ Z) ?_;refine cM.q Z Z Z (aj rK fF U Z) ?_;have me:=cG (off:=4) eC (show _=some (a2) from rfl);refine cM.q Z Z Z (ak l8 Z Z eC Z) ?_;refine cM.q Z Z Z (ah Z) ?_;refine cM.both Z Z Z Z Z Z ?_ ?_
   ·refine fun _ _ w4 _=>aN (c:=[num ((i:Nat):Int)]) ar.wf rfl (aw ep c5 z3 rfl U U rfl) fun A351 Ht ad=>?_;have Hd:=f2.ne_new ar.wf ad.lo;have hs:=ad.le.get _ _ nQ;have ht:=ad.le.get _ _ eC;have g7:=k2.le ad.le;have f6:=g6.le ad.le;have g8:=k3.le ad.le;have g9:=k4.le ad.le;have gc:=k6.le ad.le;have ge:=k1.le ad.le;have f3:=f2.le ad.le;have mm:=bW ad.le mb;have gl:=bW ad.le me;have n1:=mX.trans ad.le;refine w4 _ _ (be.list (L:=[(⟨b6,4,none⟩,a2),(⟨b6,3,none⟩,ab)]) Y (bg gl (bg mm bZ))) ?_;refine cM.both Z Z Z Z Z Z ?_ ?_
    ·refine fun _ _ w5 _=>cF (ys:=[num ((i:Nat):Int)]) rfl rfl ep c5 mZ z3 rfl U ep (fun _ h=>by cases h) f6.own (bN (n:=1) ad.get Z) rfl rfl (by show (_ + _) * 8<=_;simp only [aE,List.length_cons,List.length_nil];(try simp only [List.length_append,List.length_cons,List.length_nil]);omega) O2 fun A373 Gc aI=>?_;rw [show ([num ((i:Nat):Int)]:List Value)=cO [((i:Nat):Int)] from rfl,dA] at aI;obtain ⟨qP,xr⟩:=Fresh.grow f6 n1 wf aI;have DL:=aI.keep aa hs;have z1:=aI.ne aa ad.wf hs;have DM:=aI.keep a3 ht;have gG:=aI.ne a3 ad.wf ht;have n6:=bq.appd (show bq ab rv from (bq.symm aV)) g7.own ad.wf aI;have qR:=g7.appd aI (bq.symm aV);have n7:=bq.appd (show bq ab a2 from bu) g8.own ad.wf aI;have qT:=g8.appd aI bu;have Ay:=bq.appd (show bq ab nv from b9) g9.own ad.wf aI;have qU:=g9.appd aI b9;have Az:=bq.appd (show bq ab (.slice aG aF aD) from bA) gc.own ad.wf aI;have qV:=gc.appd aI bA;have AA:=bq.appd (show bq ab dJ from (bq.symm dZ)) ge.own ad.wf aI;have r1:=ge.appd aI (bq.symm dZ);have AB:=aL.appd (show aL ab rw from aP) f3 ad.wf aI;have hS:=f3.appd aI (show aL ab rw from aP);have mt:=aI.cell a3 gl;refine w5 _ _ (be.list (L:=[(⟨b6,4,none⟩,a2)]) Y (bg mt bZ)) ?_;refine cM.l Z Z Z (fun _ _ w6 _=>aN (c:=[num ((c:Nat):Int)]) aI.wf rfl (aw ep c5 z3 rfl U U rfl) fun A400 Hu aS=>?_);have He:=hS.ne_new aI.wf aS.lo;have nT:=aS.le.get _ _ DL;have nV:=aS.le.get _ _ DM;have k7:=qR.le aS.le;have k9:=qT.le aS.le;have ka:=qU.le aS.le;have kc:=qV.le aS.le;have kk:=r1.le aS.le;have kl:=qP.le aS.le;have hT:=hS.le aS.le;have v3:=bW aS.le mt;have xt:=xr.trans aS.le;refine w6 _ _ (be.list (L:=[(⟨b6,4,none⟩,a2)]) Y (bg v3 bZ)) ?_;refine cM.l Z Z Z (fun _ _ w7 _=>cF (ys:=[num ((c:Nat):Int)]) rfl rfl ep c5 mZ z3 rfl U ep (fun _ h=>by cases h) k9.own (bN (n:=1) aS.get Z) rfl rfl (by show (_ + _) * 8<=_;simp only [aE,List.length_cons,List.length_nil];(try simp only [List.length_append,List.length_cons,List.length_nil]);omega) O2 fun A421 HZ b2=>?_);rw [show ([num ((c:Nat):Int)]:List Value)=cO [((c:Nat):Int)] from rfl,dA] at b2;obtain ⟨r2,xv⟩:=Fresh.grow k9 xt wf b2;have DO:=b2.keep a9 nT;have z2:=b2.ne a9 aS.wf nT;have DS:=b2.keep ai nV;have gL:=b2.ne ai aS.wf nV;have n9:=bq.appd (show bq a2 rv from (bq.symm aY)) k7.own aS.wf b2;have r3:=k7.appd b2 (bq.symm aY);have AC:=bq.appd (show bq a2 nv from ba) ka.own aS.wf b2;have r4:=ka.appd b2 ba;have AD:=bq.appd (show bq a2 (.slice aG aF aD) from bB) kc.own aS.wf b2;have r5:=kc.appd b2 bB;have AF:=bq.appd (show bq a2 dJ from (bq.symm e0)) kk.own aS.wf b2;have r6:=kk.appd b2 (bq.symm e0);have AG:=bq.appd (show bq a2 Gc from (bq.symm n7)) kl.own aS.wf b2;have km:=kl.appd b2 (bq.symm n7);have AI:=aL.appd (show aL a2 rw from aR) hT aS.wf b2;have p0:=hT.appd b2 (show aL a2 rw from aR);refine w7 _ _ (be.none Y) ?_;refine cM.q Z Z Z (cQ Z) ?_;refine cM.q Z Z Z (aj rJ fF U Z) ?_;obtain ⟨h5,gA,fQ,FS,_⟩:=km.own.slice;subst FS;refine cM.l Z Z Z (fun _ _ wc _=>aQ (cs:=[.slice h5 gA fQ]) (c':=[num ((k:Nat):Int),.slice aG aF aD,nv,.slice h5 gA fQ,a2]) b2.wf rfl rfl rfl rfl fF DS (Nat.le_of_ble_eq_true rfl) rfl rfl fun A447 bV=>?_);have DV:=bV.keep _ _ aA.symm DO;have r7:=r3.keep bV.keep a0;have r9:=r4.keep bV.keep a4;have rf:=r5.keep bV.keep a1;have rr:=r6.keep bV.keep dd;have rF:=km.keep bV.keep gG;have kp:=r2.keep bV.keep gL;have p5:=p0.keep bV.keep a8;have xA:=an xv wf cA bV.n bV.keep;refine wc _ _ (be.none Y) ?_;refine cM.q Z Z Z (cQ Z) ?_;refine cM.q Z Z Z (aj rK fF U Z) ?_;obtain ⟨hC,hx,hg,FT,_⟩:=kp.own.slice;subst FT;refine cM.l Z Z Z (fun _ _ wl _=>aQ (cs:=[.slice hC hx hg]) (c':=[num ((k:Nat):Int),.slice aG aF aD,nv,.slice h5 gA fQ,.slice hC hx hg]) bV.wf rfl rfl rfl rfl fF bV.get (Nat.le_of_ble_eq_true rfl) rfl rfl fun A460 bY=>?_);have DW:=bY.keep _ _ aA.symm DV;have rR:=r7.keep bY.keep a0;have rS:=r9.keep bY.keep a4;have rT:=rf.keep bY.keep a1;have rV:=rr.keep bY.keep dd;have rW:=rF.keep bY.keep gG;have s1:=kp.keep bY.keep gL;have p6:=p5.keep bY.keep a8;have xF:=an xA wf cA bY.n bY.keep;refine wl _ _ (be.none Y) ?_;refine cM.done ?_;refine hp _ _<|.region<|.q Z (ah Z)<|.q Z (ah Z)<|.q Z (ah Z) ?_;obtain ⟨ev,HM,HB,G7,Hm,dk,oJ,Ch,In,FE,HU,Fe⟩:=rR.at1 (x:=c) OJ;rw [aE] at oJ;refine Ops.q Z (ax ep c5 Z dk Z (by rw [oJ];(try simp only [List.length_set]);omega))<|.l Z (fun _ _ wm _=>aQ (off:=c) (c':=G7.set c (num ((Q1.length:Nat):Int))) bY.wf rfl (by simp) rfl rfl c5 Ch (by show c + 1<=_;omega) rfl rfl fun A473 cH=>?_);have DZ:=cH.keep _ _ (fun q=>a5 (by rw [dk];exact congrArg some q.symm)) DW;have E2:=cH.keep _ _ (fun q=>a0 (by rw [dk];exact congrArg some q.symm)) bY.get;have s2:=rS.keep cH.keep (aC ev (by rw [dk];rfl));have s3:=rT.keep cH.keep (aZ ev (by rw [dk];rfl));have s4:=rV.keep cH.keep ((bq.symm dW) ev (by rw [dk];rfl));have s5:=rW.keep cH.keep ((bq.symm n6) ev (by rw [dk];rfl));have s6:=s1.keep cH.keep ((bq.symm n9) ev (by rw [dk];rfl));have p7:=p6.keep cH.keep (fun r hr=>ag r hr ev (by rw [dk];rfl));have kv:=Fe (num ((Q1.length:Nat):Int)) A473 cH;rw [iw] at kv;have xN:=an xF wf FE cH.n cH.keep;refine wm _ _<|.nil<|f9 _ _<|.region<|.q Z (bE (b:=1) Z Z O)<|.q Z (ah Z)<|.nil ?_;exact ⟨⟨c + 1,r ++ [(Q1.length:Int)],(o.set c ((-1))).set c (((Q1.length:Nat):Int)),Q1 ++ [(step (Q1.getD i 0) c).getD 0],fi ++ [((i:Nat):Int)],bl ++ [((c:Nat):Int)],f1,fT,rv,dJ,.slice h5 gA fQ,.slice hC hx hg⟩,vj Z Z Z Z Z Z Z Z Z Z Z,Z,⟨⟨by omega,yD hexp (by rw [<- hgi];exact kF ‹_›) ‹_›,by simp;omega,by rw [ho,<- hrl];exact rI O,gs,gg,fl,by simp;omega,by simp;omega,hpre.trans (List.prefix_append _ _)⟩,xN,kv,s4,s5,s6,s2,s3,DZ,E2,a5,gF,z1,z2,aB,az,a0,dd,gG,gL,a4,a1,(bq.symm dW),(bq.symm n6),(bq.symm n9),aC,aZ,(bq.symm AA),(bq.symm AF),h8,h9,(bq.symm AG),Ay,Az,AC,AD,bP,p7,bb,a8,ag,ha,AB,AI,bC,bL⟩,O1⟩
    refine fun _ _ wp _=>aN (c:=[num ((c:Nat):Int)]) ad.wf rfl (aw ep c5 z3 rfl U U rfl) fun A487 Hv ap=>?_;have A5:=f6.own.ne_new ad.wf ap.lo;have Hf:=f3.ne_new ad.wf ap.lo;have o1:=ap.le.get _ _ hs;have o2:=ap.le.get _ _ ht;have E3:=ap.le.get _ _ ad.get;have kA:=g7.le ap.le;have kC:=f6.le ap.le;have kD:=g8.le ap.le;have kK:=g9.le ap.le;have kL:=gc.le ap.le;have kM:=ge.le ap.le;have hU:=f3.le ap.le;have v4:=bW ap.le mm;have mv:=bW ap.le gl;have xR:=n1.trans ap.le;refine wp _ _ (be.list (L:=[(⟨b6,4,none⟩,a2),(⟨b6,3,none⟩,ab)]) Y (bg mv (bg v4 bZ))) ?_;refine cM.l Z Z Z (fun _ _ wy _=>cF (ys:=[num ((i:Nat):Int)]) rfl rfl ep c5 mZ z3 rfl U ep (fun _ h=>by cases h) kC.own (bN (n:=1) E3 Z) rfl rfl (by show (_ + _) * 8<=_;simp only [aE,List.length_cons,List.length_nil];(try simp only [List.length_append,List.length_cons,List.length_nil]);omega) O2 fun A510 Gd a6=>?_);rw [show ([num ((i:Nat):Int)]:List Value)=cO [((i:Nat):Int)] from rfl,dA] at a6;obtain ⟨kP,xS⟩:=Fresh.grow kC xR wf a6;have o3:=a6.keep aa o1;have zi:=a6.ne aa ap.wf o1;have oi:=a6.keep a3 o2;have gM:=a6.ne a3 ap.wf o2;have E4:=a6.keep A5 ap.get;have nb:=bq.appd (show bq ab rv from (bq.symm aV)) kA.own ap.wf a6;have kT:=kA.appd a6 (bq.symm aV);have nc:=bq.appd (show bq ab a2 from bu) kD.own ap.wf a6;have kV:=kD.appd a6 bu;have AP:=bq.appd (show bq ab nv from b9) kK.own ap.wf a6;have l0:=kK.appd a6 b9;have AR:=bq.appd (show bq ab (.slice aG aF aD) from bA) kL.own ap.wf a6;have l1:=kL.appd a6 bA;have AS:=bq.appd (show bq ab dJ from (bq.symm dZ)) kM.own ap.wf a6;have l2:=kM.appd a6 (bq.symm dZ);have AT:=aL.appd (show aL ab rw from aP) hU ap.wf a6;have hV:=hU.appd a6 (show aL ab rw from aP);have v5:=a6.cell a3 mv;refine wy _ _ (be.list (L:=[(⟨b6,4,none⟩,a2)]) Y (bg v5 bZ)) ?_;refine cM.l Z Z Z (fun _ _ wz _=>cF (ys:=[num ((c:Nat):Int)]) rfl rfl ep c5 mZ z3 rfl U ep (fun _ h=>by cases h) kV.own (bN (n:=1) E4 Z) rfl rfl (by show (_ + _) * 8<=_;simp only [aE,List.length_cons,List.length_nil];(try simp only [List.length_append,List.length_cons,List.length_nil]);omega) O2 fun A538 I1 b3=>?_);rw [show ([num ((c:Nat):Int)]:List Value)=cO [((c:Nat):Int)] from rfl,dA] at b3;obtain ⟨sb,xT⟩:=Fresh.grow kV xS wf b3;have E5:=b3.keep a9 o3;have zs:=b3.ne a9 a6.wf o3;have E6:=b3.keep ai oi;have gN:=b3.ne ai a6.wf oi;have nd:=bq.appd (show bq a2 rv from (bq.symm aY)) kT.own a6.wf b3;have sf:=kT.appd b3 (bq.symm aY);have AV:=bq.appd (show bq a2 nv from ba) l0.own a6.wf b3;have sm:=l0.appd b3 ba;have AY:=bq.appd (show bq a2 (.slice aG aF aD) from bB) l1.own a6.wf b3;have sr:=l1.appd b3 bB;have AZ:=bq.appd (show bq a2 dJ from (bq.symm e0)) l2.own a6.wf b3;have ss:=l2.appd b3 (bq.symm e0);have B0:=bq.appd (show bq a2 Gd from (bq.symm nc)) kP.own a6.wf b3;have l3:=kP.appd b3 (bq.symm nc);have B2:=aL.appd (show aL a2 rw from aR) hV a6.wf b3;have p8:=hV.appd b3 (show aL a2 rw from aR);refine wz _ _ (be.none Y) ?_;refine cM.q Z Z Z (cQ Z) ?_;refine cM.q Z Z Z (aj rJ fF U Z) ?_;obtain ⟨h6,gC,fR,FV,_⟩:=l3.own.slice;subst FV;refine cM.l Z Z Z (fun _ _ wC _=>aQ (cs:=[.slice h6 gC fR]) (c':=[num ((k:Nat):Int),.slice aG aF aD,nv,.slice h6 gC fR,a2]) b3.wf rfl rfl rfl rfl fF E6 (Nat.le_of_ble_eq_true rfl) rfl rfl fun A564 c3=>?_);have E7:=c3.keep _ _ aA.symm E5;have sv:=sf.keep c3.keep a0;have sz:=sm.keep c3.keep a4;have sB:=sr.keep c3.keep a1;have sF:=ss.keep c3.keep dd;have sM:=l3.keep c3.keep gM;have l4:=sb.keep c3.keep gN;have p9:=p8.keep c3.keep a8;have xV:=an xT wf cA c3.n c3.keep;refine wC _ _ (be.none Y) ?_;refine cM.q Z Z Z (cQ Z) ?_;refine cM.q Z Z Z (aj rK fF U Z) ?_;obtain ⟨hD,hy,hh,G0,_⟩:=l4.own.slice;subst G0;refine cM.l Z Z Z (fun _ _ wF _=>aQ (cs:=[.slice hD hy hh]) (c':=[num ((k:Nat):Int),.slice aG aF aD,nv,.slice h6 gC fR,.slice hD hy hh]) c3.wf rfl rfl rfl rfl fF c3.get (Nat.le_of_ble_eq_true rfl) rfl rfl fun A577 c4=>?_);have E9:=c4.keep _ _ aA.symm E7;have sN:=sv.keep c4.keep a0;have sP:=sz.keep c4.keep a4;have sR:=sB.keep c4.keep a1;have sS:=sF.keep c4.keep dd;have sT:=sM.keep c4.keep gM;have sV:=l4.keep c4.keep gN;have pa:=p9.keep c4.keep a8;have y0:=an xV wf cA c4.n c4.keep;refine wF _ _ (be.none Y) ?_;refine cM.done ?_;refine hp _ _<|.region<|.q Z (ah Z)<|.q Z (ah Z)<|.q Z (ah Z) ?_;obtain ⟨ex,HN,HC,G8,Hn,dl,oK,Ck,Io,FI,HV,Fi⟩:=sN.at1 (x:=c) OJ;rw [aE] at oK;refine Ops.q Z (ax ep c5 Z dl Z (by rw [oK];(try simp only [List.length_set]);omega))<|.l Z (fun _ _ wL _=>aQ (off:=c) (c':=G8.set c (num ((Q1.length:Nat):Int))) c4.wf rfl (by simp) rfl rfl c5 Ck (by show c + 1<=_;omega) rfl rfl fun A590 cK=>?_);have Ea:=cK.keep _ _ (fun q=>a5 (by rw [dl];exact congrArg some q.symm)) E9;have Ec:=cK.keep _ _ (fun q=>a0 (by rw [dl];exact congrArg some q.symm)) c4.get;have sZ:=sP.keep cK.keep (aC ex (by rw [dl];rfl));have t0:=sR.keep cK.keep (aZ ex (by rw [dl];rfl));have t1:=sS.keep cK.keep ((bq.symm dW) ex (by rw [dl];rfl));have t2:=sT.keep cK.keep ((bq.symm nb) ex (by rw [dl];rfl));have t3:=sV.keep cK.keep ((bq.symm nd) ex (by rw [dl];rfl));have pe:=pa.keep cK.keep (fun r hr=>ag r hr ex (by rw [dl];rfl));have l6:=Fi (num ((Q1.length:Nat):Int)) A590 cK;rw [iw] at l6;have y1:=an y0 wf FI cK.n cK.keep;refine wL _ _<|.nil<|f9 _ _<|.region<|.q Z (bE (b:=1) Z Z O)<|.q Z (ah Z)<|.nil ?_;exact ⟨⟨c + 1,r ++ [(Q1.length:Int)],(o.set c ((-1))).set c (((Q1.length:Nat):Int)),Q1 ++ [(step (Q1.getD i 0) c).getD 0],fi ++ [((i:Nat):Int)],bl ++ [((c:Nat):Int)],f1,fT,rv,dJ,.slice h6 gC fR,.slice hD hy hh⟩,vj Z Z Z Z Z Z Z Z Z Z Z,Z,⟨⟨by omega,yD hexp (by rw [<- hgi];exact kF ‹_›) ‹_›,by simp;omega,by rw [ho,<- hrl];exact rI O,gs,gg,fl,by simp;omega,by simp;omega,hpre.trans (List.prefix_append _ _)⟩,y1,l6,t1,t2,t3,sZ,t0,Ea,Ec,a5,gF,zi,zs,aB,az,a0,dd,gM,gN,a4,a1,(bq.symm dW),(bq.symm nb),(bq.symm nd),aC,aZ,(bq.symm AS),(bq.symm AZ),h8,h9,(bq.symm B0),AP,AR,AV,AY,bP,pe,bb,a8,ag,ha,AT,B2,bC,bL⟩,O1⟩
   refine fun _ _ wM _=>aN (c:=[num ((c:Nat):Int)]) ar.wf rfl (aw ep c5 z3 rfl U U rfl) fun A604 Hw br=>?_;have A6:=g6.own.ne_new ar.wf br.lo;have Hg:=f2.ne_new ar.wf br.lo;have Eg:=br.le.get _ _ nQ;have El:=br.le.get _ _ eC;have t4:=k2.le br.le;have t5:=g6.le br.le;have t6:=k3.le br.le;have t7:=k4.le br.le;have t8:=k6.le br.le;have t9:=k1.le br.le;have hW:=f2.le br.le;have mx:=bW br.le mb;have mB:=bW br.le me;have y2:=mX.trans br.le;refine wM _ _ (be.list (L:=[(⟨b6,4,none⟩,a2),(⟨b6,3,none⟩,ab)]) Y (bg mB (bg mx bZ))) ?_;refine cM.l Z Z Z (fun _ _ wP _=>aN (c:=[num ((i:Nat):Int)]) br.wf rfl (aw ep c5 z3 rfl U U rfl) fun A627 Hx ay=>?_);have Hh:=hW.ne_new br.wf ay.lo;have oj:=ay.le.get _ _ Eg;have ok:=ay.le.get _ _ El;have En:=ay.le.get _ _ br.get;have l7:=t4.le ay.le;have l9:=t5.le ay.le;have lb:=t6.le ay.le;have lp:=t7.le ay.le;have lt:=t8.le ay.le;have lw:=t9.le ay.le;have hX:=hW.le ay.le;have v6:=bW ay.le mx;have mE:=bW ay.le mB;have y3:=y2.trans ay.le;refine wP _ _ (be.list (L:=[(⟨b6,4,none⟩,a2),(⟨b6,3,none⟩,ab)]) Y (bg mE (bg v6 bZ))) ?_;refine cM.l Z Z Z (fun _ _ wS _=>cF (ys:=[num ((i:Nat):Int)]) rfl rfl ep c5 mZ z3 rfl U ep (fun _ h=>by cases h) l9.own (bN (n:=1) ay.get Z) rfl rfl (by show (_ + _) * 8<=_;simp only [aE,List.length_cons,List.length_nil];(try simp only [List.length_append,List.length_cons,List.length_nil]);omega) O2 fun A650 Ge a7=>?_);rw [show ([num ((i:Nat):Int)]:List Value)=cO [((i:Nat):Int)] from rfl,dA] at a7;obtain ⟨lB,y4⟩:=Fresh.grow l9 y3 wf a7;have ov:=a7.keep aa oj;have zI:=a7.ne aa ay.wf oj;have ow:=a7.keep a3 ok;have gP:=a7.ne a3 ay.wf ok;have Eq:=a7.keep A6 En;have nj:=bq.appd (show bq ab rv from (bq.symm aV)) l7.own ay.wf a7;have lC:=l7.appd a7 (bq.symm aV);have nk:=bq.appd (show bq ab a2 from bu) lb.own ay.wf a7;have lE:=lb.appd a7 bu;have B3:=bq.appd (show bq ab nv from b9) lp.own ay.wf a7;have lF:=lp.appd a7 b9;have B4:=bq.appd (show bq ab (.slice aG aF aD) from bA) lt.own ay.wf a7;have lK:=lt.appd a7 bA;have B5:=bq.appd (show bq ab dJ from (bq.symm dZ)) lw.own ay.wf a7;have lO:=lw.appd a7 (bq.symm dZ);have B6:=aL.appd (show aL ab rw from aP) hX ay.wf a7;have hY:=hX.appd a7 (show aL ab rw from aP);have v7:=a7.cell a3 mE;refine wS _ _ (be.list (L:=[(⟨b6,4,none⟩,a2)]) Y (bg v7 bZ)) ?_;refine cM.l Z Z Z (fun _ _ wY _=>cF (ys:=[num ((c:Nat):Int)]) rfl rfl ep c5 mZ z3 rfl U ep (fun _ h=>by cases h) lE.own (bN (n:=1) Eq Z) rfl rfl (by show (_ + _) * 8<=_;simp only [aE,List.length_cons,List.length_nil];(try simp only [List.length_append,List.length_cons,List.length_nil]);omega) O2 fun A678 I2 b5=>?_);rw [show ([num ((c:Nat):Int)]:List Value)=cO [((c:Nat):Int)] from rfl,dA] at b5;obtain ⟨tb,y5⟩:=Fresh.grow lE y4 wf b5;have Es:=b5.keep a9 ov;have zS:=b5.ne a9 a7.wf ov;have Et:=b5.keep ai ow;have gQ:=b5.ne ai a7.wf ow;have nl:=bq.appd (show bq a2 rv from (bq.symm aY)) lC.own a7.wf b5;have ti:=lC.appd b5 (bq.symm aY);have B7:=bq.appd (show bq a2 nv from ba) lF.own a7.wf b5;have tj:=lF.appd b5 ba;have B8:=bq.appd (show bq a2 (.slice aG aF aD) from bB) lK.own a7.wf b5;have tr:=lK.appd b5 bB;have B9:=bq.appd (show bq a2 dJ from (bq.symm e0)) lO.own a7.wf b5;have ts:=lO.appd b5 (bq.symm e0);have Ba:=bq.appd (show bq a2 Ge from (bq.symm nk)) lB.own a7.wf b5;have lP:=lB.appd b5 (bq.symm nk);have Bb:=aL.appd (show aL a2 rw from aR) hY a7.wf b5;have pf:=hY.appd b5 (show aL a2 rw from aR);refine wY _ _ (be.none Y) ?_;refine cM.q Z Z Z (cQ Z) ?_;refine cM.q Z Z Z (aj rJ fF U Z) ?_;obtain ⟨h7,gD,fS,G1,_⟩:=lP.own.slice;subst G1;refine cM.l Z Z Z (fun _ _ wZ _=>aQ (cs:=[.slice h7 gD fS]) (c':=[num ((k:Nat):Int),.slice aG aF aD,nv,.slice h7 gD fS,a2]) b5.wf rfl rfl rfl rfl fF Et (Nat.le_of_ble_eq_true rfl) rfl rfl fun A704 c7=>?_);have Ev:=c7.keep _ _ aA.symm Es;have tt:=ti.keep c7.keep a0;have tw:=tj.keep c7.keep a4;have tz:=tr.keep c7.keep a1;have tB:=ts.keep c7.keep dd;have tI:=lP.keep c7.keep gP;have lT:=tb.keep c7.keep gQ;have pi:=pf.keep c7.keep a8;have y6:=an y5 wf cA c7.n c7.keep;refine wZ _ _ (be.none Y) ?_;refine cM.q Z Z Z (cQ Z) ?_;refine cM.q Z Z Z (aj rK fF U Z) ?_;obtain ⟨hE,hz,hj,G2,_⟩:=lT.own.slice;subst G2;refine cM.l Z Z Z (fun _ _ x0 _=>aQ (cs:=[.slice hE hz hj]) (c':=[num ((k:Nat):Int),.slice aG aF aD,nv,.slice h7 gD fS,.slice hE hz hj]) c7.wf rfl rfl rfl rfl fF c7.get (Nat.le_of_ble_eq_true rfl) rfl rfl fun A717 cc=>?_);have Ex:=cc.keep _ _ aA.symm Ev;have tJ:=tt.keep cc.keep a0;have tO:=tw.keep cc.keep a4;have tR:=tz.keep cc.keep a1;have tS:=tB.keep cc.keep dd;have tT:=tI.keep cc.keep gP;have tW:=lT.keep cc.keep gQ;have pj:=pi.keep cc.keep a8;have y7:=an y6 wf cA cc.n cc.keep;refine x0 _ _ (be.none Y) ?_;refine cM.done ?_;refine hp _ _<|.region<|.q Z (ah Z)<|.q Z (ah Z)<|.q Z (ah Z) ?_;obtain ⟨ey,HO,HD,G9,Ho,dm,oN,Cp,Ir,FL,HW,Fl⟩:=tJ.at1 (x:=c) OJ;rw [aE] at oN;refine Ops.q Z (ax ep c5 Z dm Z (by rw [oN];(try simp only [List.length_set]);omega))<|.l Z (fun _ _ x1 _=>aQ (off:=c) (c':=G9.set c (num ((Q1.length:Nat):Int))) cc.wf rfl (by simp) rfl rfl c5 Cp (by show c + 1<=_;omega) rfl rfl fun A730 cP=>?_);have Ey:=cP.keep _ _ (fun q=>a5 (by rw [dm];exact congrArg some q.symm)) Ex;have Ez:=cP.keep _ _ (fun q=>a0 (by rw [dm];exact congrArg some q.symm)) cc.get;have tY:=tO.keep cP.keep (aC ey (by rw [dm];rfl));have tZ:=tR.keep cP.keep (aZ ey (by rw [dm];rfl));have u0:=tS.keep cP.keep ((bq.symm dW) ey (by rw [dm];rfl));have u1:=tT.keep cP.keep ((bq.symm nj) ey (by rw [dm];rfl));have u8:=tW.keep cP.keep ((bq.symm nl) ey (by rw [dm];rfl));have pl:=pj.keep cP.keep (fun r hr=>ag r hr ey (by rw [dm];rfl));have lV:=Fl (num ((Q1.length:Nat):Int)) A730 cP;rw [iw] at lV;have y8:=an y7 wf FL cP.n cP.keep;refine x1 _ _<|.nil<|f9 _ _<|.region<|.q Z (bE (b:=1) Z Z O)<|.q Z (ah Z)<|.nil ?_;exact ⟨⟨c + 1,r ++ [(Q1.length:Int)],(o.set c ((-1))).set c (((Q1.length:Nat):Int)),Q1 ++ [(step (Q1.getD i 0) c).getD 0],fi ++ [((i:Nat):Int)],bl ++ [((c:Nat):Int)],f1,fT,rv,dJ,.slice h7 gD fS,.slice hE hz hj⟩,vj Z Z Z Z Z Z Z Z Z Z Z,Z,⟨⟨by omega,yD hexp (by rw [<- hgi];exact kF ‹_›) ‹_›,by simp;omega,by rw [ho,<- hrl];exact rI O,gs,gg,fl,by simp;omega,by simp;omega,hpre.trans (List.prefix_append _ _)⟩,y8,lV,u0,u1,u8,tY,tZ,Ey,Ez,a5,gF,zI,zS,aB,az,a0,dd,gP,gQ,a4,a1,(bq.symm dW),(bq.symm nj),(bq.symm nl),aC,aZ,(bq.symm B5),(bq.symm B9),h8,h9,(bq.symm Ba),B3,B4,B7,B8,bP,pl,bb,a8,ag,ha,B6,Bb,bC,bL⟩,O1⟩
  refine am.exit<|CL _ _<|.region<|.q Z (ah Z)<|.q Z (ah Z)<|.q Z (cQ Z)<|.q Z (aj p3 i8 U Z)<|.q Z (ak kh Z Z e4 Z)<|.q Z (ah Z) ?_;obtain ⟨eQ,eL,ez,G3,_⟩:=dv.own.slice;subst G3;refine Ops.l Z (fun _ _ x2 _=>aN (c:=[.slice eQ eL ez]) f7 rfl (aw oe fF Kw rfl U U rfl) fun A744 Hy aT=>?_);have A8:=dv.own.ne_new f7 aT.lo;have Aa:=e3.ne_new f7 aT.lo;have ox:=aT.le.get _ _ eY;have oy:=aT.le.get _ _ e4;have lW:=dv.le aT.le;have lX:=eX.le aT.le;have lY:=eV.le aT.le;have lZ:=eT.le aT.le;have m1:=eS.le aT.le;have m2:=e1.le aT.le;have hZ:=e3.le aT.le;have y9:=mT.trans aT.le;refine x2 _ _<|.l Z (fun _ _ x3 _=>cF (ys:=[.slice eQ eL ez]) rfl rfl oe fF FX Kw rfl U oe (fun _ h=>by cases h) m1.own (bN (n:=1) aT.get Z) rfl rfl (by show (_ + _) * 24<=_;simp only [cq,List.length_cons,List.length_nil];(try simp only [List.length_append,List.length_cons,List.length_nil]);omega) Ov fun A765 Id b7=>?_);rw [show ([.slice eQ eL ez]:List Value)=em [Value.slice eQ eL ez] from rfl,pz] at b7;obtain ⟨m3,yt⟩:=Fresh.grow m1 y9 wf b7;have EA:=b7.keep aB ox;have zV:=b7.ne aB aT.wf ox;have EC:=b7.keep a4 oy;have n3:=b7.ne a4 aT.wf oy;have Bc:=bq.appd (show bq nv (.slice eQ eL ez) from (bq.symm aC)) lW.own aT.wf b7;have ub:=lW.appd b7 (bq.symm aC);have Bd:=bq.appd (show bq nv bM from (bq.symm cv)) lX.own aT.wf b7;have ui:=lX.appd b7 (bq.symm cv);have Bk:=bq.appd (show bq nv ab from (bq.symm b9)) lY.own aT.wf b7;have up:=lY.appd b7 (bq.symm b9);have Bl:=bq.appd (show bq nv a2 from (bq.symm ba)) lZ.own aT.wf b7;have us:=lZ.appd b7 (bq.symm ba);have Bm:=bq.appd (show bq nv (.slice aG aF aD) from bP) m2.own aT.wf b7;have uB:=m2.appd b7 bP;have Bo:=aL.appd (show aL nv rw from bC) hZ aT.wf b7;have pp:=hZ.appd b7 (show aL nv rw from bC);have pv:=pp.snoc ub ag;have Ab:=bb.snoc a5;have n4:=a8.snoc a0;have Hi:=Aa.snoc A8;have Bp:=bS.snoc (bq.symm bO);have Br:=aP.snoc (bq.symm aV);have Bs:=aR.snoc (bq.symm aY);have Bt:=bL.snoc (bq.symm aZ);have Bu:=Bo.snoc Bc;refine x3 _ _<|.q Z (cQ Z)<|.q Z (aj p3 i8 U Z) ?_;obtain ⟨hF,hA,hl,G4,_⟩:=m3.own.slice;subst G4;refine Ops.l Z (fun _ _ x4 _=>aQ (cs:=[.slice hF hA hl]) (c':=[num ((k:Nat):Int),.slice aG aF aD,.slice hF hA hl,ab,a2]) b7.wf rfl rfl rfl rfl i8 EC (Nat.le_of_ble_eq_true rfl) rfl rfl fun A799 cV=>?_);have EG:=cV.keep _ _ aA.symm EA;have uI:=ui.keep cV.keep bD;have uP:=up.keep cV.keep a3;have uS:=us.keep cV.keep ai;have v0:=uB.keep cV.keep a1;have v1:=m3.keep cV.keep n3;have pA:=pv.keep cV.keep n4;have yS:=an yt wf cA cV.n cV.keep;refine x4 _ _<|.nil ?_;have fmR:=mG pA (show R ++ [o]=R ++ [r] from by rw [ho,show k - c=0 by omega];simp);refine H2 _ _<|.region<|.q Z (ah Z)<|.q Z (bE (b:=1) Z Z O)<|.q Z (ae Z)<|.nil ?_;exact ⟨⟨i + 1,Q1,ac ++ [accf (Q.getD i 0)],fi,bl,es,ck,f - 1,bM,.slice aG aF aD,.slice hF hA hl,ab,a2,rw ++ [Value.slice eQ eL ez],R ++ [r]⟩,yC Z Z Z Z Z Z Z Z,Z,⟨⟨by omega,by rw [hac,MR hpre (show i + 1<=Q.length by omega)];exact rU (z:=(0:Int)) accf O,eG,fd,fe,An O O hex (by rw [<- show c=k by omega];exact hexp),by omega,hv,hu,by simp;omega⟩,yS,uI,v0,v1,uP,uS,EG,cV.get,bc,az,zV,aa,a9,bD,a1,n3,a3,ai,d1,(bq.symm Bd),cZ,d0,(bq.symm Bm),(bq.symm bA),(bq.symm bB),Bk,Bl,bu,fmR,Ab,n4,Bp,Bt,Bu,Br,Bs⟩,O1⟩
 refine am.exit<|GQ _ _<|.seq fun _ EL=>.region<|.q Z (ah Z)<|.q Z (ae Z)<|.q Z (ae Z)<|.nil<|EL _ _<|.rt (by exact aJ Z (⟨b6,_,_,_,_,_,Z,hB,oS,dV,cA,cw fL (congrArg cl (by rw [hac,List.take_of_length_le O,<- hex,vk O O])),fM,mG fN (by rw [<- hex,vk O O]),dD,dI,dw,e6,dz,e7⟩))
end Go.Proofs.YtjppkekmddjcfaaGreatDoor

namespace Go.Proofs.YtjppkekmddjcfaaGreatDoor
open Go Go.RowKit V
set_option maxRecDepth 100000
theorem qx:dx Tryz.prog 62=some true:=by kernel_rfl
theorem j9:dp Tryz.prog 62=some 4:=by kernel_rfl

theorem Om (s:Int) (c:Nat) (b cap:Nat) (rw:Bool) (k:Nat) (acc:List Bool) (L:List (List Int)) (av nv:Value) (rows:List Value) (A:AH) (hb:A.get b=some (.row rw [num (k:Int),num ((0:Nat):Int),av,nv] cap)) (hok:Kx k acc L) (hav:bK A 1 av (cl acc)) (hnv:bK A 1 nv (em rows)) (hrl:rows.length=L.length) (hF:∀ i,i < L.length->bK A 1 (rows.getD i undef) (cO (L.getD i []))) (hs:s < L.length) (hc:c < k):bH Tryz.prog 150 #[num (s),num ((c:Nat):Int),.pointer (some ⟨b,0,none⟩)] A (fun v A1=>v=.tuple #[num ((nP L s c).getD 0),.bool (nP L s c).isSome]/\A.le A1/\A1.wf):=by
 refine wQ Tryz.call150 Tryz.func150 Z Tryz.results150 Tryz.ntmps150 Z (fun wf=>?_);have h:=AH.le.refl A;refine am.seq fun _ h2=>.region<|.q Z (ae Z)<|.q Z (ae Z)<|.nil<|h2 _ _<|.seq fun _ h4=>.region<|.q Z (aq qx j9 Z Z (h.get _ _ hb) Z)<|.q Z (ah Z) ?_;refine Ops.q Z (ah Z)<|.l Z (fun _ _ X _=>au Z (NZ k acc L av nv rows s c A hok (hav.le h) (hnv.le h) hrl (fun i hi=>(hF i hi).le h) O O) ?_);rintro v6 A7 ⟨rfl,D,V⟩;have a0:=h.trans D;refine X _ _<|.q Z (ae Z)<|.q Z (ae Z)<|.nil<|h4 _ _<|.rt (by exact aJ Z (⟨Z,a0,V⟩))

theorem Oo (s:Int) (b cap:Nat) (rw:Bool) (k:Nat) (acc:List Bool) (L:List (List Int)) (av nv:Value) (rows:List Value) (A:AH) (hb:A.get b=some (.row rw [num (k:Int),num ((0:Nat):Int),av,nv] cap)) (hok:Kx k acc L) (hav:bK A 1 av (cl acc)) (hnv:bK A 1 nv (em rows)) (hrl:rows.length=L.length) (hF:∀ i,i < L.length->bK A 1 (rows.getD i undef) (cO (L.getD i []))) (hs:s < L.length):bH Tryz.prog 152 #[num (s),.pointer (some ⟨b,0,none⟩)] A (fun v A1=>v=.bool (decide (0<=s) && acc.getD s.toNat false)/\A.le A1/\A1.wf):=by
 refine jP Tryz.call152 Tryz.func152 Z Tryz.results152 Tryz.ntmps152 Z (fun wf=>?_);have h:=AH.le.refl A;obtain ⟨⟨a1,a2⟩,hal,⟨X,a0⟩,hrow,hval⟩:=hok;refine am.seq fun _ h2=>.region<|.q Z (ae Z)<|.nil<|h2 _ _<|.seq fun _ h4=>.region<|.q Z (ah Z)<|.q Z (lM Z Z)<|.q Z (ah Z) ?_;refine Ops.part (t:=6) Z (fun p5=>?_) (fun p5=>?_)
 ·refine Ops.on Z Z<|.q Z (aj lH iK U Z)<|.on Z Z<|.q Z (ak iE Z Z (h.get _ _ hb) Z)<|.on Z Z<|.q Z (ah Z)<|.on Z Z ?_;obtain ⟨b6,f6,a4,r6,a3,n6,k6,e6,l6,g6,V,D⟩:=bK.at (i:=(s).toNat) (hav.le h) Oi O;refine Ops.q Z (ax lS mc Z e6 (iQ O) l6)<|.on Z Z<|.q Z (ak ut Z Z g6 ((cT D).trans (ek O)))<|.q Z (aM Z Z)<|.q Z (ae Z)<|.nil<|h4 _ _<|.rt (by exact aJ Z (⟨by first | (rw [decide_eq_true O];rfl) | (rw [decide_eq_false O];rfl) | simp_all [eE],h,wf⟩))
 refine Ops.off Z Z Z Z<|.off Z Z Z Z<|.off Z Z Z Z<|.off Z Z Z Z<|.off Z Z Z Z<|.q Z (aW Z Z)<|.q Z (ae Z)<|.nil<|h4 _ _<|.rt (by exact aJ Z (⟨by first | (rw [decide_eq_true O];rfl) | (rw [decide_eq_false O];rfl) | simp_all [eE],h,wf⟩))

theorem RC (k:Nat) (acc:List Bool) (L:List (List Int)) (av nv:Value) (rows:List Value) (A:AH) (hok:Kx k acc L) (hav:bK A 1 av (cl acc)) (hnv:bK A 1 nv (em rows)) (hrl:rows.length=L.length) (hF:∀ i,i < L.length->bK A 1 (rows.getD i undef) (cO (L.getD i []))):bH Tryz.prog 118 #[.agg #[num ((k:Nat):Int),num ((0:Nat):Int),av,nv]] A (fun v A1=>∃ b av2 nv2 fv bv rows2,v=.pointer (some ⟨b,0,none⟩)/\A.le A1/\A1.wf/\A1.get b=some (.row true [num (k:Int),av2,nv2,fv,bv] 5)/\A.get b=none/\Fresh A A1 av2 1 (cl (wv k acc L))/\Fresh A A1 nv2 1 (em rows2)/\ib A A1 rows2 (gW k L).2/\blk av2 ≠ some b/\blk nv2 ≠ some b/\dG rows2 b/\bq av2 nv2/\aL av2 rows2/\aL nv2 rows2):=by
 refine ia Tryz.call118 Tryz.func118 Z Tryz.results118 Tryz.ntmps118 Z (fun wf=>?_);have aP:=AH.le.refl A;have a0:=hok;obtain ⟨⟨b0,b1⟩,hal,⟨aY,aZ⟩,hrow,hval⟩:=hok;refine am.seq fun _ h2=>.region<|.l Z (fun _ _ aI _=>dQ wf rfl rfl fun A5 b4 V=>?_);have X:=aP.trans V.le;refine aI _ _<|.q Z (ae Z)<|.nil<|h2 _ _<|.seq fun _ h9=>.drawn [0,1,2,3,4,5,6,8,9,7,10,11,12,13,14,15] mixed Y Y Z<|.q Z Z Z (aj sU c5 U Z) ?_;have ai:=cG (off:=0) V.get (show _=some (num ((k:Nat):Int)) from rfl);refine bj.q Z Z Z (ak eM Z Z V.get Z)<|.q Z Z Z (aj lH iK U Z) ?_;have ap:=cG (off:=2) V.get (show _=some (av) from rfl);refine bj.q Z Z Z (ak iE Z Z V.get Z)<|.q Z Z Z (bF (n:=acc.length) lS Z (hav.le X) O (fw _))<|.q Z Z Z (bE (b:=2) Z Z O)<|.q Z Z Z (aq qx j9 Z Z V.get Z)<|.q Z Z Z (ml Z Z)<|.q Z Z Z (ml Z Z)<|.l Z Z Z (fun _ _ az _=>au Z (N0 k acc L av nv rows A5 a0 (hav.le X) (hnv.le X) hrl (fun i hi=>(hF i hi).le X)) ?_);rintro b2 A18 ⟨rfl,D,aV⟩;have ag:=D.get _ _ V.get;have ar:=bW D ai;have ay:=bW D ap;have h:=X.trans D;refine az _ _ (be.list (L:=[(⟨b4,2,none⟩,av),(⟨b4,0,none⟩,num ((k:Nat):Int))]) Y (bg ay (bg ar bZ)))<|.l Z Z Z (fun _ _ aA _=>au Z (ye k (acc.length + 2) (L.length + 1) (L.length + 2) (((0:Nat):Int)) 150 152 #[.pointer (some ⟨b4,0,none⟩)] #[.pointer (some ⟨b4,0,none⟩)] (nP L) (fun s=>decide (0<=s) && acc.getD s.toNat false) (fun q=>-1<=q/\q < (L.length:Int)) A18 O ⟨by omega,by omega,by omega⟩ ⟨by omega,by omega⟩ (fun q c t hq hc hs=>by simp only [nP,Option.some.injEq] at hs;subst hs;split;exact ⟨by omega,by omega⟩;have:=hval q.toNat c O hc;exact ⟨by omega,by omega⟩) (fun Q hn hQ=>re hn hQ) (fun q c B hq hc le wfB=>Om q c b4 _ _ k acc L av nv rows B (le.get _ _ ag) a0 (hav.le (h.trans le)) (hnv.le (h.trans le)) hrl (fun i hi=>(hF i hi).le (h.trans le)) O hc) (fun q B hq le wfB=>Oo q b4 _ _ k acc L av nv rows B (le.get _ _ ag) a0 (hav.le (h.trans le)) (hnv.le (h.trans le)) hrl (fun i hi=>(hF i hi).le (h.trans le)) O)) ?_);rintro b3 A30 ⟨aT,aC,aR,aF,aD,aS,rfl,ac,ad,a4,a3,a1,a5,a2,a6,a7,a8,a9,aa,ab⟩;have aB:=h.trans ac;have xr:=a4;have xn:=a3;have xa:=a1;have xv:=a5;have xf:=a2;have y1:=a6;have y2:=a7;have y3:=a8;have y4:=a9;have y5:=aa;have y6:=ab;refine aA _ _ (be.none Y)<|.q Z Z Z (ah Z)<|.q Z Z Z (bh Z Z)<|.q Z Z Z (bh Z Z)<|.q Z Z Z (ae Z)<|.q Z Z Z (ae Z)<|.done<|h9 _ _<|.seq fun _ aG=>.region ?_;refine Ops.q Z (ah Z)<|.q Z (ae Z)<|.nil<|aG _ _<|.rt (by exact aJ Z (⟨_,_,_,_,_,_,Z,aB,ad,a4,rY h a3,a1.base h,a5.base h,a2.base h,a6,a7,a8,a9,aa,ab⟩))
end Go.Proofs.YtjppkekmddjcfaaGreatDoor

namespace Go.Proofs.YtjppkekmddjcfaaGreatDoor
open Go Go.RowKit V
def qF (ws:List Wd):Nat:=(ws.map List.length).sum
theorem DE (a:List Wd) (w:Wd):qF (a ++ [w])=qF a + w.length:=by simp [qF]
theorem DF (ws:List Wd) (i:Nat):qF (ws.take i)<=qF ws:=by
  unfold qF
  conv=>rhs;rw [<- List.take_append_drop i ws]
  rw [List.map_append,List.sum_append];omega
structure TI (k:Nat) (ws:List Wd) (i:Nat) (L:List (List Int)) (E:List Bool):Prop where
  run:wq k (ws.take i)=(L,E)
  tri:∃ W,RX k L E W ((ws.take i).map EE)
  num:L.length<=1 + qF (ws.take i)
section
variable {k i:Nat} {ws:List Wd} {L L0:List (List Int)} {E E0:List Bool} {W S:List (List Nat)} {d:Int}
theorem TI.start:TI k ws 0 ([] ++ [CX k]) ([] ++ [false]) :=
  ⟨rfl,⟨[[]],⟨CW.start k,TW.start,(fun w h=>by cases h),fun m hm=>by
    obtain rfl:m=0:=by simp at hm;omega
    exact ⟨fun h=>by simp at h,fun h=>by cases h⟩⟩⟩,by simp⟩
theorem TI.ok (h:TI k ws i L E):CW k L E/\0 < L.length:=by
  obtain ⟨W,hT⟩:=h.tri
  exact ⟨hT.ok,by have:=hT.tw.pos;have:=hT.tw.len;omega⟩
theorem TI.len (h:TI k ws i L E):E.length=L.length:=h.ok.1.len
theorem TI.next (h:TI k ws i L E) (hi:i < ws.length) (hw:∀ c ∈ ws.getD i [],0<=ix c/\ix c < k):TI k ws (i + 1) (wN k L E (ws.getD i [])) (wK k L E (ws.getD i [])):=by
  obtain ⟨W,hT⟩:=h.tri
  obtain ⟨W1,h1,h2⟩:=hT.add hw
  have e:ws.take (i + 1)=ws.take i ++ [ws.getD i []]:=(f5 (z:=[]) hi).symm
  refine ⟨?_,⟨W1,?_⟩,?_⟩
  · have hr:=h.run
    rw [e,wq,List.foldl_append]
    show (fun t w=>(wN k t.1 t.2 w,wK k t.1 t.2 w)) (wq k (ws.take i)) (ws.getD i [])=_
    rw [hr]
  · rw [e,List.map_append];exact h1
  · rw [e,DE];have:=h.num;omega
theorem TI.bound (h:TI k ws i L E):L.length<=1 + qF ws:=Nat.le_trans h.num (by have:=DF ws i;omega)
end
structure BO (k:Nat) (L0:List (List Int)) (W S:List (List Nat)) (R:BS) (i:Nat) (L:List (List Int)) (E:List Bool) (F Q:List Int):Prop where
  tw:TW k L0 W
  sub:∀ w ∈ S,w ∈ W
  ne:[] ∉ S
  inv:BI k L0 W S ⟨L,E,F,Q⟩ i 0
  fin:∃ f,f + i=W.length + 1/\Ug k f i ⟨L,E,F,Q⟩=R
structure BN (k:Nat) (L0:List (List Int)) (W S:List (List Nat)) (R:BS) (i:Nat) (L:List (List Int)) (E:List Bool) (F Q:List Int) (x:Nat) (L1:List (List Int)) (E1:List Bool) (F1 Q1:List Int):Prop where
  out:BO k L0 W S R i L E F Q
  lt:i < Q.length
  inv:BI k L0 W S ⟨L1,E1,F1,Q1⟩ i x
  run:(List.range x).foldl (u6 (Q.getD i 0).toNat) ⟨L,E,F,Q⟩=⟨L1,E1,F1,Q1⟩
  pre:Q <+: Q1
section
variable {k i x:Nat} {L L1 L0:List (List Int)} {E E0 E1:List Bool} {F Q F1 Q1:List Int} {W S:List (List Nat)} {R:BS} {ws:List Wd} {d:Int}
abbrev wJ (L1:List (List Int)) (E1:List Bool) (F1 Q1:List Int) (n x:Nat):Int:=kX ⟨L1,E1,F1,Q1⟩ n x
theorem BO.start {ws:List Wd} (h:TI k ws ws.length L E) (hne:∀ w ∈ ws,w ≠ []):∃ W,BO k L W (ws.map EE) (C5 k ws) 0 L E (List.replicate L.length 0) [0]:=by
  obtain ⟨W,hT⟩:=h.tri
  have e:ws.take ws.length=ws:=List.take_length
  rw [e] at hT
  have hr:=h.run
  rw [e] at hr
  have hl:=hT.tw.len
  have hn:([]:List Nat) ∉ ws.map EE:=fun q=>by
    obtain ⟨w,hw,q⟩:=List.mem_map.1 q
    exact hne w hw (List.map_eq_nil_iff.1 q)
  refine ⟨W,hT.tw,hT.sub,hn,by rw [<- hl];exact BI.start hT hn,W.length + 1,Z,?_⟩
  rw [C5,hr,hl]
theorem BO.lens (h:BO k L0 W S R i L E F Q):L.length=W.length/\E.length=W.length/\F.length=W.length/\Q.length<=W.length/\L0.length=W.length:=⟨h.inv.len.1,h.inv.len.2.1,h.inv.len.2.2,h.inv.qlen,h.tw.len.symm⟩
theorem BO.at (h:BO k L0 W S R i L E F Q) (hi:i < Q.length):0<=Q.getD i 0/\(Q.getD i 0).toNat < W.length/\(L.getD (Q.getD i 0).toNat []).length=k:=by
  have h1:0<=Q.getD i 0/\Q.getD i 0 < W.length:=h.inv.qr i hi
  have h2:=h.inv.row (Q.getD i 0).toNat O
  exact ⟨h1.1,by omega,h2⟩
theorem BN.start (h:BO k L0 W S R i L E F Q) (hi:i < Q.length):BN k L0 W S R i L E F Q 0 L E F Q:=⟨h,hi,h.inv,rfl,List.prefix_refl _⟩
theorem BN.q (h:BN k L0 W S R i L E F Q x L1 E1 F1 Q1):Q1.getD i 0=Q.getD i 0/\i < Q1.length:=⟨vI h.pre h.lt,Nat.lt_of_lt_of_le h.lt h.pre.length_le⟩
theorem BN.lens (h:BN k L0 W S R i L E F Q x L1 E1 F1 Q1):L1.length=W.length/\E1.length=W.length/\F1.length=W.length/\Q1.length<=W.length/\L0.length=W.length:=⟨h.inv.len.1,h.inv.len.2.1,h.inv.len.2.2,h.inv.qlen,h.out.tw.len.symm⟩
theorem BN.facts (h:BN k L0 W S R i L E F Q x L1 E1 F1 Q1):0<=Q.getD i 0/\(Q.getD i 0).toNat < W.length/\(L1.getD (Q.getD i 0).toNat []).length=k:=by
  have h1:=h.out.at h.lt
  exact ⟨h1.1,h1.2.1,h.inv.row _ h1.2.1⟩
theorem BN.fail (h:BN k L0 W S R i L E F Q x L1 E1 F1 Q1) (hn:Q.getD i 0 ≠ 0):0<=F1.getD (Q.getD i 0).toNat 0/\(F1.getD (Q.getD i 0).toNat 0).toNat < W.length/\(L1.getD (F1.getD (Q.getD i 0).toNat 0).toNat []).length=k:=by
  have hq:=h.q
  have D:0 < i:=by
    rcases Nat.eq_zero_or_pos i with q | q
    · subst q;have h0:Q1.getD 0 0=0:=h.inv.q0.2;rw [hq.1] at h0;exact absurd h0 hn
    · exact q
  have h1:0<=F1.getD (Q1.getD i 0).toNat 0/\F1.getD (Q1.getD i 0).toNat 0 < W.length:=(fun z=>⟨z.1,z.2.1⟩) (h.inv.fl i D hq.2)
  rw [hq.1] at h1
  exact ⟨h1.1,by omega,h.inv.row _ O⟩
theorem BN.to (h:BN k L0 W S R i L E F Q x L1 E1 F1 Q1) (hx:x < k):0<=wJ L1 E1 F1 Q1 (Q.getD i 0).toNat x/\(wJ L1 E1 F1 Q1 (Q.getD i 0).toNat x).toNat < W.length:=by
  have hq:=h.q
  have h1:0<=wJ L1 E1 F1 Q1 (Q1.getD i 0).toNat x/\wJ L1 E1 F1 Q1 (Q1.getD i 0).toNat x < W.length:=(fun z=>⟨z.1,z.2.1⟩) (h.inv.to h.out.tw hq.2 hx)
  rw [hq.1] at h1
  omega
theorem BN.met (h:BN k L0 W S R i L E F Q x L1 E1 F1 Q1) (hx:x < k) (hm:0<=(L1.getD (Q.getD i 0).toNat []).getD x 0):((L1.getD (Q.getD i 0).toNat []).getD x 0).toNat < W.length:=by
  have hq:=h.q
  have hf:=h.facts
  have e:ie L1 (Q.getD i 0).toNat x=ie L0 (Q.getD i 0).toNat x:=h.inv.same _ x hf.2.1 hx fun a ha ea=>by
    have e2:qn ⟨L1,E1,F1,Q1⟩ a=qn ⟨L1,E1,F1,Q1⟩ i:=by rw [ea];show _=(Q1.getD i 0).toNat;rw [hq.1]
    exact .inr ⟨h.inv.qd a i ha hq.2 e2,Nat.le_refl _⟩
  have:=h.out.tw.is (Q.getD i 0).toNat x hf.2.1 hx (by rw [<- e];exact hm)
  rw [<- e] at this
  exact this.1
theorem Ib {n:Int} (h:¬ n=0) (h0:0<=n):num ((L1.getD (F1.getD n.toNat 0).toNat []).getD x 0)=num (wJ L1 E1 F1 Q1 n.toNat x):=by
  show _=num (kX _ _ _);rw [kX,if_neg O]
theorem OH {n:Int} (h:¬ ¬ n=0):num ((0:Nat):Int)=num (wJ L1 E1 F1 Q1 n.toNat x):=by
  have:=Decidable.not_not.1 h;subst this;rfl
theorem BN.step (h:BN k L0 W S R i L E F Q x L1 E1 F1 Q1) (hx:x < k) {L2:List (List Int)} {E2:List Bool} {F2 Q2:List Int} (e:u6 (Q.getD i 0).toNat ⟨L1,E1,F1,Q1⟩ x=⟨L2,E2,F2,Q2⟩) (hp:Q1 <+: Q2):BN k L0 W S R i L E F Q (x + 1) L2 E2 F2 Q2:=by
  have hq:=h.q
  refine ⟨h.out,h.lt,?_,?_,h.pre.trans hp⟩
  · have:=h.inv.step h.out.tw h.out.sub h.out.ne hq.2 hx
    rw [show qn ⟨L1,E1,F1,Q1⟩ i=(Q.getD i 0).toNat by show (Q1.getD i 0).toNat=_;rw [hq.1],e] at this
    exact this
  · rw [List.range_succ,List.foldl_append,h.run];exact e
theorem BN.neg (h:BN k L0 W S R i L E F Q x L1 E1 F1 Q1) (hx:x < k) (hm:(L1.getD (Q.getD i 0).toNat []).getD x 0 < 0):BN k L0 W S R i L E F Q (x + 1) (L1.set (Q.getD i 0).toNat ((L1.getD (Q.getD i 0).toNat []).set x (wJ L1 E1 F1 Q1 (Q.getD i 0).toNat x))) E1 F1 Q1 :=
  h.step hx (by rw [u6,if_pos hm]) (List.prefix_refl _)
theorem BN.pos (h:BN k L0 W S R i L E F Q x L1 E1 F1 Q1) (hx:x < k) (hm:¬ (L1.getD (Q.getD i 0).toNat []).getD x 0 < 0) {c:Bool} (hc:c=(E1.getD ((L1.getD (Q.getD i 0).toNat []).getD x 0).toNat false || E1.getD (wJ L1 E1 F1 Q1 (Q.getD i 0).toNat x).toNat false)) :
    BN k L0 W S R i L E F Q (x + 1) L1 (E1.set ((L1.getD (Q.getD i 0).toNat []).getD x 0).toNat c) (F1.set ((L1.getD (Q.getD i 0).toNat []).getD x 0).toNat (wJ L1 E1 F1 Q1 (Q.getD i 0).toNat x)) (Q1 ++ [(L1.getD (Q.getD i 0).toNat []).getD x 0]):=by
  subst hc
  exact h.step hx (by rw [u6,if_neg hm]) (List.prefix_append _ _)
theorem BO.next (h:BN k L0 W S R i L E F Q x L1 E1 F1 Q1) (hx:x=k):BO k L0 W S R (i + 1) L1 E1 F1 Q1:=by
  subst hx
  have hq:=h.q
  obtain ⟨f,hf,e⟩:=h.out.fin
  have hl:=h.out.inv.qlen
  have hlt:=h.lt
  have D:Q.length<=W.length:=hl
  obtain ⟨f,rfl⟩:∃ g,f=g + 1:=⟨f - 1,by omega⟩
  refine ⟨h.out.tw,h.out.sub,h.out.ne,h.inv.next hq.2,f,by omega,?_⟩
  rw [Ug,if_pos (by exact hlt)] at e
  have e2:Uh x ⟨L,E,F,Q⟩ i=⟨L1,E1,F1,Q1⟩:=h.run
  rw [e2] at e;exact e
theorem BO.fin' (h:BO k L0 W S R i L E F Q) (hi:Q.length<=i):R=⟨L,E,F,Q⟩/\TV k L E W S:=by
  obtain ⟨f,hf,e⟩:=h.fin
  have hl:=h.inv.qlen
  refine ⟨?_,h.inv.aho h.tw h.sub hi⟩
  rw [<- e]
  cases f with
  | zero=>rfl
  | succ f=>rw [Ug,if_neg (by show ¬ i < Q.length;omega)]
def oG (E:List Bool) (r:List Int) (x:Nat):List Int:=eI E (r.take x) ++ r.drop x
def mW (E:List Bool) (L:List (List Int)) (s x:Nat):List (List Int):=(L.take s).map (eI E) ++ (match L.drop s with | []=>[] | r :: t=>oG E r x :: t)
theorem nF (E:List Bool) (r:List Int):(eI E r).length=r.length:=by simp [eI]
theorem Ae {r:List Int}:(oG E r x).length=r.length:=by simp [oG,eI];omega
theorem xi {r:List Int}:oG E r 0=r:=by simp [oG,eI]
theorem Ll {r:List Int} (h:r.length<=x):oG E r x=eI E r:=by simp [oG,List.take_of_length_le h,List.drop_eq_nil_of_le h]
theorem PR {r:List Int} {y:Nat} (hx:x<=y) (hy:y < r.length):(oG E r x).getD y 0=r.getD y 0:=by
  simp only [oG,List.getD_eq_getElem?_getD]
  rw [List.getElem?_append_right (by rw [nF,List.length_take];omega),List.getElem?_drop,nF,List.length_take]
  congr 2;omega
theorem xh {r:List Int} (hx:x < r.length):oG E r (x + 1)=if E.getD (r.getD x 0).toNat false then (oG E r x).set x (-1) else oG E r x:=by
  have e1:r.take (x + 1)=r.take x ++ [r.getD x 0]:=(f5 (z:=0) hx).symm
  have e2:r.drop x=r.getD x 0 :: r.drop (x + 1):=tG hx
  have hl:(eI E (r.take x)).length=x:=by rw [nF,List.length_take];omega
  have e3:eI E (r.take x ++ [r.getD x 0])=eI E (r.take x) ++ [if E.getD (r.getD x 0).toNat false then -1 else r.getD x 0]:=by simp only [eI,List.map_append,List.map_cons,List.map_nil]
  have e4:oG E r x=eI E (r.take x) ++ r.getD x 0 :: r.drop (x + 1):=by rw [<- e2];rfl
  have e5:oG E r (x + 1)=eI E (r.take x) ++ (if E.getD (r.getD x 0).toNat false then -1 else r.getD x 0) :: r.drop (x + 1):=by
    show eI E (r.take (x + 1)) ++ r.drop (x + 1)=_
    rw [e1,e3,List.append_assoc];rfl
  rw [e5,e4]
  split
  · rw [List.set_append_right _ _ O,hl,Nat.sub_self,List.set_cons_zero]
  · rfl
theorem mY {s:Nat} (h:s < L.length):L.drop s=L.getD s [] :: L.drop (s + 1):=tG h
theorem z6 {s:Nat}:(mW E L s x).length=L.length:=by
  unfold mW
  rcases Nat.lt_or_ge s L.length with h | h
  · rw [mY h];simp;omega
  · rw [List.drop_eq_nil_of_le h];simp;omega
theorem Dn:mW E L 0 0=L:=by
  cases L with
  | nil=>rfl
  | cons r t=>show [] ++ oG E r 0 :: t=_;rw [xi];rfl
theorem rG {s:Nat} (h:s < L.length):(mW E L s x).getD s []=oG E (L.getD s []) x:=by
  unfold mW;rw [mY h]
  have hl:((L.take s).map (eI E)).length=s:=by simp;omega
  simp only [List.getD_eq_getElem?_getD]
  rw [List.getElem?_append_right O,hl,Nat.sub_self];rfl
theorem z7 {s:Nat} (h:s < L.length) (hx:x < (L.getD s []).length) (he:E.getD ((L.getD s []).getD x 0).toNat false=true):(mW E L s x).set s (((mW E L s x).getD s []).set x (-1))=mW E L s (x + 1):=by
  rw [rG h]
  unfold mW;rw [mY h]
  have hl:((L.take s).map (eI E)).length=s:=by simp;omega
  rw [List.set_append_right _ _ O,hl,Nat.sub_self]
  show _ ++ _ :: _=_ ++ _ :: _
  rw [xh hx,if_pos he]
theorem FF {s:Nat} (h:s < L.length) (hx:x < (L.getD s []).length) (he:E.getD ((L.getD s []).getD x 0).toNat false=false):mW E L s x=mW E L s (x + 1):=by
  unfold mW;rw [mY h]
  show _ ++ _ :: _=_ ++ _ :: _
  rw [xh hx,he];rfl
theorem IK {s:Nat} (h:s < L.length) (hx:(L.getD s []).length<=x):mW E L s x=mW E L (s + 1) 0:=by
  unfold mW
  rw [mY h,<- f5 (z:=[]) h,List.map_append]
  show _ ++ oG E _ x :: _=_
  rw [Ll hx,List.append_assoc]
  congr 1
  show _=[eI E (L.getD s [])] ++ _
  rw [List.singleton_append];congr 1
  cases L.drop (s + 1) with
  | nil=>rfl
  | cons r t=>show _=oG E r 0 :: t;rw [xi]
theorem Lj {s:Nat} (h:L.length<=s):mW E L s x=L.map (eI E):=by
  unfold mW
  rw [List.drop_eq_nil_of_le h,List.take_of_length_le h];simp
theorem IJ {s:Nat} (h:s < L.length) (hx:x < (L.getD s []).length):((mW E L s x).getD s []).getD x 0=(L.getD s []).getD x 0:=by
  rw [rG h,PR (Nat.le_refl _) hx]
end
end Go.Proofs.YtjppkekmddjcfaaGreatDoor

namespace Go.Proofs.YtjppkekmddjcfaaGreatDoor
open Go Go.RowKit V
def yA:List UInt8:=[48,49,50,51,52,53,54,55,56,57,97,98,99,100,101,102,103,104,105,106,107,108,109,110,111,112,113,114,115,116,117,118,119,120,121,122]
def sX:Nat->Nat->List UInt8
  | 0,_=>[]
  | f + 1,n=>if n < 36 then [yA.getD n 0] else sX f (n / 36) ++ [yA.getD (n % 36) 0]
def ip (n:Nat):List UInt8:=sX 13 n
theorem Aw:∀ (f n:Nat),(sX f n).length<=f
  | 0,_=>Nat.le_refl _
  | f + 1,n=>by
    unfold sX;split
    · simp
    · have:=Aw f (n / 36);simp;omega
theorem sW (n:Nat):(ip n).length<=13:=Aw 13 n
def Ic (c:UInt8):Nat:=yA.idxOf c
theorem uy:∀ d,d < 36->Ic (yA.getD d 0)=d/\yA.getD d 0 ≠ 32/\yA.getD d 0 ≠ 45:=by decide
theorem uA:∀ (f n:Nat),∀ c ∈ sX f n,c ≠ 32/\c ≠ 45
  | 0,_,_,h=>by cases h
  | f + 1,n,c,h=>by
    unfold sX at h;split at h
    · rename_i q;rw [List.mem_singleton] at h;subst h;exact (uy n q).2
    · rcases List.mem_append.1 h with q | q
      · exact uA f _ c q
      · rw [List.mem_singleton] at q;subst q;exact (uy _ (Nat.mod_lt _ U)).2
def Ie (l:List UInt8):Nat:=l.foldl (fun a c=>a * 36 + Ic c) 0
theorem rx:∀ (f n:Nat),n < 36 ^ f->Ie (sX f n)=n
  | 0,n,h=>by simp at h;subst h;rfl
  | f + 1,n,h=>by
    unfold sX;split
    · rename_i q;show 0 * 36 + Ic _=n;rw [(uy n q).1];omega
    · have:=rx f (n / 36) (by rw [Nat.pow_succ] at h;exact Nat.div_lt_of_lt_mul O)
      rw [Ie,List.foldl_append]
      show Ie (sX f (n / 36)) * 36 + Ic _=n
      rw [this,(uy _ (Nat.mod_lt _ U)).1];omega
theorem I0 {a b:Nat} (ha:a < 1000000) (hb:b < 1000000) (h:ip a=ip b):a=b:=by
  have h1:=rx 13 a (Nat.lt_of_lt_of_le ha U)
  have h2:=rx 13 b (Nat.lt_of_lt_of_le hb U)
  rw [<- h1,<- h2];exact congrArg Ie h
structure uQ (n m i:Nat) (l:List UInt8):Prop where
  len:l.length=65
  eq:∃ f,f + 52=i/\0 < f/\f<=13/\ip n=sX f m ++ l.drop i/\m < 36 ^ f
  le:m<=n
section
variable {n m i f:Nat} {l:List UInt8}
theorem uQ.start (hn:n<=1000000):uQ n n 65 (List.replicate 65 0):=⟨by simp,⟨13,rfl,by decide,by decide,by simp [ip],Nat.lt_of_le_of_lt hn U⟩,Nat.le_refl _⟩
theorem uQ.idx (h:uQ n m i l):53<=i/\i<=65:=by obtain ⟨f,h1,h2,h3,_⟩:=h.eq;omega
theorem Aj {l:List UInt8} {j:Nat} {c:UInt8} (h:j < l.length):(l.set j c).drop j=c :: l.drop (j + 1):=by
  rw [List.drop_eq_getElem_cons (by simpa using h),List.drop_set_of_lt O]
  simp
theorem uQ.next (h:uQ n m i l) (hm:36<=m):uQ n (m / 36) (i - 1) (l.set (i - 1) (yA.getD (m - m / 36 * 36) 0))/\54<=i:=by
  obtain ⟨f,h1,h2,h3,h4,h5⟩:=h.eq
  have hf:2<=f:=by
    rcases Nat.lt_or_ge f 2 with q | q
    · obtain rfl:f=1:=by omega
      omega
    · exact q
  obtain ⟨f,rfl⟩:∃ g,f=g + 1:=⟨f - 1,by omega⟩
  refine ⟨⟨by simpa using h.len,⟨f,by omega,by omega,by omega,?_,by rw [Nat.pow_succ] at h5;exact Nat.div_lt_of_lt_mul O⟩,Nat.le_trans (Nat.div_le_self _ _) h.le⟩,by omega⟩
  rw [h4,sX,if_neg O,Aj (by rw [h.len];omega),show i - 1 + 1=i by omega,List.append_assoc]
  rw [show m - m / 36 * 36=m % 36 by omega];rfl
theorem uQ.last (h:uQ n m i l) (hm:m < 36):(l.set (i - 1) (yA.getD m 0)).drop (i - 1)=ip n:=by
  obtain ⟨f,h1,h2,h3,h4,h5⟩:=h.eq
  obtain ⟨f,rfl⟩:∃ g,f=g + 1:=⟨f - 1,by omega⟩
  rw [h4,sX,if_pos hm,Aj (by rw [h.len];omega),show i - 1 + 1=i by omega];rfl
end
abbrev w9 (n:Nat):Value:=.int .u64 (n:Int)
section
variable {P:Program} {e:gx} {A:AH} {x y:Operand} {t t':TypeId} {a b:Nat}
theorem Fb {n:Int} (h:0<=n/\n<=18446744073709551615):IntKind.u64.wrap n=n:=IntWalk.u64_in n h
theorem MY {k k₀:IntKind} (hs:P.underlying t=some (.int k₀)) (hd:P.underlying t'=some (.int .u64)) (h:bX e x=some (.int k (a:Nat))) (hr:a<=18446744073709551615):aO P e A (.convert t t' x)=some (w9 a,[]) :=
  MW hs hd h (Fb O)
theorem UE (h:bX e x=some (w9 a)) (h':bX e y=some (w9 b)) (hr:b<=a/\a<=18446744073709551615):aO P e A (.binOp .sub t x y t')=some (w9 (a - b),[]):=by
  refine zh U U h h' ?_
  refine congrArg (fun z=>some (Value.int .u64 z)) ?_
  rw [Fb O];omega
theorem Uz (h:bX e x=some (w9 a)) (h':bX e y=some (w9 b)) (hr:a * b<=18446744073709551615):aO P e A (.binOp .mul t x y t')=some (w9 (a * b),[]):=by
  refine zh U U h h' ?_
  refine congrArg (fun z=>some (Value.int .u64 z)) ?_
  have:((a * b:Nat):Int)=(a:Int) * b:=Int.natCast_mul a b
  rw [Fb (by rw [<- this];omega)];simp
theorem UC (h:bX e x=some (w9 a)) (h':bX e y=some (w9 b)) (hr:1<=b/\a<=18446744073709551615):aO P e A (.binOp .quo t x y t')=some (w9 (a / b),[]):=by
  refine zh U U h h' ?_
  show (if (b:Int)=0 then none else _)=_
  rw [if_neg O]
  refine congrArg (fun z=>some (Value.int .u64 z)) ?_
  rw [IntWalk.u64_quo _ _ O];simp
end
section
variable {P:Program} {nt:Nat} {all:Array Oper} {os:List Oper} {Q:Exit->Fr->AH->Prop} {e:gx} {ds:List Deferred} {A:AH} {x lo:Operand} {t el:TypeId} {ty:TypeId} {ps:String} {af:Array Edge} {dst:Option Nat} {b n j:Nat}
theorem V.Ops.sliceArr (hd:gj nt dst=true) (hu:P.underlying t=some (.array n el)) (hs:dp P el=some 1) (hx:bX e x=some (.pointer (some ⟨b,0,none⟩))) (hlo:bX e lo=some (num (j:Nat))) (hj:j < n)
    (h:Ops P nt all os Q ⟨fx e dst (.slice (some ⟨b,j,none⟩) (n - j) (n - j)),ds⟩ A):Ops P nt all ({ dst:=dst,op:=.slice t x (some lo) none none,type:=ty,pos:=ps,after:=af,guard:=none } :: os) Q ⟨e,ds⟩ A:=by
  refine Ops.val Z hd (fun a ha w hw=>?_) h
  have h1:=cL ha hx
  have h2:=cL ha hlo
  simp only [execOp,h1,Option.map_some,h2,Option.map_none]
  have hb:=rp (P:=P) (w:=w) (isS:=false) (len:=n) (cap:=n) (lo:=some (some (num (j:Nat)))) (hi:=none) (lo':=some (num (j:Nat))) (hi':=none) (l:=(j:Int)) (h:=(n:Int)) (fun v q=>by cases q;exact ⟨_,rfl,rfl⟩) (fun q=>by cases q) (fun v q=>by cases q) (fun _=>rfl) Z Z O O O
  have hne:n ≠ j:=by omega
  simp [Instr.sliceAt,ce hu,hb,eb hs,Instr.sureAddr,Addr.add,hne]
  intro z;omega
end
theorem Ue:Px .and .i64 ((36:Nat):Int) ((35:Nat):Int)=some (num ((32:Nat):Int)):=by
  have key:IntKind.i64.wrap ((BitVec.ofInt 64 ((36:Nat):Int) &&& BitVec.ofInt 64 ((35:Nat):Int)).toNat:Int)=((32:Nat):Int):=by decide
  show some (Value.int .i64 (IntKind.i64.wrap ((BitVec.ofInt 64 ((36:Nat):Int) &&& BitVec.ofInt 64 ((35:Nat):Int)).toNat:Int)))=_
  rw [key]
theorem RE {A:AH} {b cap j:Nat} {rw:Bool} {c:List Value} (h:A.get b=some (.row rw c cap)) (hj:j<=c.length):bK A 1 (.slice (some ⟨b,j,none⟩) (c.length - j) (c.length - j)) (c.drop j) :=
  ⟨_,_,_,rfl,by simp,Nat.le_refl _,.inr ⟨b,j,rw,c,cap,rfl,h,by rw [Nat.mul_one,List.take_of_length_le (by simp)]⟩⟩
end Go.Proofs.YtjppkekmddjcfaaGreatDoor

namespace Go.Proofs.YtjppkekmddjcfaaGreatDoor
open Go Go.RowKit V
set_option maxRecDepth 100000
theorem u2:type_of% @Tryz.underlying2:=@Tryz.underlying2
theorem UX:type_of% @Tryz.underlying201:=@Tryz.underlying201
theorem TG:type_of% @Tryz.underlying246:=@Tryz.underlying246
theorem VF:cD Tryz.prog 246=some (.agg #[.int .u8 0,.int .u8 0,.int .u8 0,.int .u8 0,.int .u8 0,.int .u8 0,.int .u8 0,.int .u8 0,.int .u8 0,.int .u8 0,.int .u8 0,.int .u8 0,.int .u8 0,.int .u8 0,.int .u8 0,.int .u8 0,.int .u8 0,.int .u8 0,.int .u8 0,.int .u8 0,.int .u8 0,.int .u8 0,.int .u8 0,.int .u8 0,.int .u8 0,.int .u8 0,.int .u8 0,.int .u8 0,.int .u8 0,.int .u8 0,.int .u8 0,.int .u8 0,.int .u8 0,.int .u8 0,.int .u8 0,.int .u8 0,.int .u8 0,.int .u8 0,.int .u8 0,.int .u8 0,.int .u8 0,.int .u8 0,.int .u8 0,.int .u8 0,.int .u8 0,.int .u8 0,.int .u8 0,.int .u8 0,.int .u8 0,.int .u8 0,.int .u8 0,.int .u8 0,.int .u8 0,.int .u8 0,.int .u8 0,.int .u8 0,.int .u8 0,.int .u8 0,.int .u8 0,.int .u8 0,.int .u8 0,.int .u8 0,.int .u8 0,.int .u8 0,.int .u8 0]):=by kernel_rfl

theorem Tu (A:AH):bH Tryz.prog 213 #[num ((36:Nat):Int)] A (fun v A1=>v=.bool false/\A=A1):=by
 refine ia Tryz.call213 Tryz.func213 Z Tryz.results213 Tryz.ntmps213 Z (fun wf=>?_);have h:=AH.le.refl A;refine am.seq fun _ h2=>.region<|.q Z (ae Z)<|.nil<|h2 _ _<|.seq fun _ h4=>.region<|.q Z (ah Z)<|.q Z (ah Z)<|.q Z (fJ (a:=36) (b:=1) Z Z O) ?_;refine Ops.q Z (zh U U Z Z Ue)<|.q Z (((ku (a:=32) (b:=0) Z Z).trans (congrArg (fun z=>some (Value.bool z,[])) (decide_eq_false U))))<|.q Z (ae Z)<|.nil<|h4 _ _<|.rt (by exact aJ Z (⟨Z,Z⟩))

theorem JQ (u:Value) (o:List UInt8) (n:Nat) (A0 A:AH) (ac:A0.le A) (a7:A0.wf) (hu:Fresh A0 A u 1 (ao o)) (ho:o.length<=100000000000) (hn:n<=1000000):bH Tryz.prog 210 #[u,.int .u64 ((n:Nat):Int),num ((36:Nat):Int),.bool (false),.bool (true)] A (fun v A1=>∃ w,v=.tuple #[w,aX []]/\A0.le A1/\A1.wf/\Fresh A0 A1 w 1 (ao (o ++ ip n))):=by
 refine VI Tryz.call210 Tryz.func210 Z Tryz.results210 Tryz.ntmps210 Z (fun wf=>?_);refine am.seq fun _ h2=>.region<|.q Z (ae Z)<|.q Z (ae Z)<|.nil<|h2 _ _<|.seq fun _ h4=>.seq fun _ h6=>.region<|.q Z (ah Z) ?_;refine Ops.q Z (((cd (a:=36) (b:=2) Z Z).trans (congrArg (fun z=>some (Value.bool z,[])) (decide_eq_false U))))<|.q Z (ah Z)<|.on Z Z<|.q Z (ah Z)<|.on Z Z<|.q Z (((ku (a:=36) (b:=10) Z Z).trans (congrArg (fun z=>some (Value.bool z,[])) (decide_eq_false U))))<|.q Z (aW Z Z)<|.q Z (ah Z)<|.on Z Z<|.q Z (ah Z) ?_;refine Ops.on Z Z<|.q Z (((dP (a:=36) (b:=36) Z Z).trans (congrArg (fun z=>some (Value.bool z,[])) (decide_eq_false U))))<|.q Z (aW Z Z)<|.nil<|h6 _ _<|.cond_false Z<|.skip<|h4 _ _<|.seq fun _ h8=>.region ?_;refine Ops.l Z (fun _ _ b8 _=>cg (cs:=ao (List.replicate 65 0)) wf VF rfl fun A11 a8 a1=>?_);have aD:=hu.own.ne_new wf a1.lo;have a5:=aU a7 (Nat.le_trans ac.n a1.lo);have ad:=hu.le a1.le;have az:=ac.trans a1.le;refine b8 _ _<|.nil<|h8 _ _<|.seq fun _ aF=>.region<|.q Z (ae Z)<|.nil<|aF _ _<|.seq fun _ aG=>.seq fun _ aI=>?_;refine am.region<|.q Z (ah Z)<|.nil<|aI _ _<|.cond_false Z<|.skip<|aG _ _<|.seq fun _ aP=>.seq fun _ aR=>.region ?_;refine Ops.q Z (ah Z)<|.l Z (fun _ _ ap _=>au Z (Tu A11) ?_);rintro bb A28 ⟨rfl,rfl⟩;refine ap _ _<|.nil<|aR _ _<|.cond_false Z<|.seq fun _ aS=>.region<|.q Z (ah Z)<|.q Z (MY u3 UX Z O)<|.q Z (ae Z)<|.nil ?_;refine aS _ _<|.seq fun _ aT=>.block<|.loop (X:=Nat × Nat × List UInt8) (fun ⟨m,i,l⟩=>[(0,u),(1,.int .u64 ((m:Nat):Int)),(3,.bool (false)),(4,.bool (true)),(10,.slice none 0 0),(11,aX ([])),(12,.pointer (some ⟨a8,0,none⟩)),(13,num ((i:Nat):Int)),(17,.int .u64 ((36:Nat):Int))]) (fun ⟨m,i,l⟩ B=>(uQ n m i l)/\A0.le B/\Fresh A0 B u 1 (ao o)/\B.get a8=some (.row true (ao l) 65)/\V.blk u ≠ some a8) (fun ⟨m,i,l⟩=>m) (⟨n,65,List.replicate 65 0⟩) (Sq Z Z Z Z Z Z Z Z Z) (⟨uQ.start hn,az,ad,a1.get,aD⟩) ?_;rintro ⟨m,i,l⟩ B35 ⟨hfm,aa,a4,a0,D⟩;refine am.wf fun ab=>?_;have hix:=hfm.idx;have hll:=hfm.len;have hmn:=hfm.le;have hnx:=fun q:36<=m=>hfm.next q;refine am.seq fun _ aV=>.seq fun _ aY=>.region<|.q Z (ah Z)<|.q Z (ah Z)<|.q Z (vK (b:=36) Z Z)<|.nil<|aY _ _<|.if rfl (fun b9=>?_) (fun b9=>?_)
 ·refine am.skip<|aV _ _<|.block<|.seq fun _ aZ=>.region<|.q Z (ah Z)<|.q Z (fJ (b:=1) Z Z (by (try have:=(hnx O).2);omega))<|.q Z (ae Z)<|.nil<|aZ _ _ ?_;refine am.seq fun _ b0=>.region<|.q Z (ah Z)<|.q Z (ah Z)<|.q Z (UC (b:=36) Z Z (by (try have:=(hnx O).2);omega))<|.q Z (ae Z)<|.nil<|b0 _ _<|.seq fun _ b1=>.region ?_;refine Ops.q Z (ah Z)<|.q Z (ah Z)<|.q Z (ah Z)<|.q Z (ah Z)<|.q Z (Uz (b:=36) Z Z (by (try have:=(hnx O).2);omega))<|.q Z (UE Z Z (by (try have:=(hnx O).2);omega))<|.q Z (ma u9 Z Z (by simp only [List.length_cons,List.length_nil];omega))<|.q Z (i4 (i:=i - 1) TG ji Z Z O)<|.l Z (fun _ _ ar _=>aQ (off:=(i - 1)) ab rfl (by simp) rfl rfl ji a0 OK rfl (pW _ _ _) fun A49 a2=>?_);have ag:=a4.keep a2.keep D;have aA:=an aa a7 a5 a2.n a2.keep;refine ar _ _<|.nil<|b1 _ _<|.region<|.q Z (ah Z)<|.q Z (ae Z)<|.nil ?_;exact ⟨⟨m / 36,i - 1,l.set ((i - 1)) (([48,49,50,51,52,53,54,55,56,57,97,98,99,100,101,102,103,104,105,106,107,108,109,110,111,112,113,114,115,116,117,118,119,120,121,122]).getD (m - ((m / 36) * 36)) 0)⟩,Sq Z Z Z Z Z Z Z Z Z,Z,⟨(hnx ‹_›).1,aA,ag,a2.get,D⟩,O1⟩
 refine am.exit<|aT _ _<|.seq fun _ b2=>.region<|.q Z (ah Z)<|.q Z (fJ (b:=1) Z Z (by (try have:=(hnx O).2);omega))<|.q Z (ae Z)<|.nil<|b2 _ _<|.region ?_;refine Ops.q Z (ah Z)<|.q Z (ah Z)<|.q Z (ma u9 Z Z (by simp only [List.length_cons,List.length_nil];omega))<|.q Z (i4 (i:=i - 1) TG ji Z Z O)<|.l Z (fun _ _ av _=>aQ (off:=(i - 1)) ab rfl (by simp) rfl rfl ji a0 OK rfl (pW _ _ _) fun A56 a3=>?_);have a9:=a4.keep a3.keep D;have aB:=an aa a7 a5 a3.n a3.keep;refine av _ _<|.nil<|aP _ _<|.seq fun _ b3=>.seq fun _ b5=>.region<|.q Z (ah Z)<|.nil<|b5 _ _<|.cond_false Z ?_;refine am.skip<|b3 _ _<|.seq fun _ ba=>.seq fun _ b6=>.region<|.q Z (ah Z)<|.nil<|b6 _ _<|.cond_true Z<|.seq fun _ b7=>?_;have hlast:=hfm.last O;unfold yA at hlast;have hfl:=sW n;refine am.region<|.q Z (ah Z)<|.q Z (ah Z)<|.sliceArr (j:=i - 1) Y TG ji Z Z O ?_;have hsa:=RE (j:=i - 1) a3.get (by simp only [aH,List.length_set];omega);simp only [aH,List.length_set,hfm.len,qY] at hsa;rw [hlast] at hsa;refine Ops.l Z (fun _ _ ay _=>cF rfl rfl cy ji rd z5 rfl U cy (fun _ h=>by cases h) a9.own (hsa.listOf (n:=(ip n).length) OP O) OP (xe _) (by show (_ + _) * 1<=_;simp only [aH,List.length_cons,List.length_nil];(try simp only [List.length_append,List.length_cons,List.length_nil]);omega) O3 fun A71 bc a6=>?_);rw [dE] at a6;obtain ⟨ai,aC⟩:=Fresh.grow a9 aB a7 a6;refine ay _ _<|.q Z (ae Z)<|.nil<|b7 _ _<|.rt (by exact aJ Z (⟨_,Z,aC,a6.wf,ai⟩))

theorem S9 (u:Value) (o:List UInt8) (n:Nat) (A0 A:AH) (a4:A0.le A) (a6:A0.wf) (hu:Fresh A0 A u 1 (ao o)) (ho:o.length<=100000000000) (hn:n<=1000000):bH Tryz.prog 206 #[u,.int .u64 ((n:Nat):Int),num ((36:Nat):Int)] A (fun v A1=>A0.le A1/\A1.wf/\Fresh A0 A1 v 1 (ao (o ++ ip n))):=by
 refine wQ Tryz.call206 Tryz.func206 Z Tryz.results206 Tryz.ntmps206 Z (fun wf=>?_);refine am.seq fun _ h2=>.region<|.q Z (ae Z)<|.nil<|h2 _ _<|.seq fun _ h4=>.seq fun _ h6=>.region<|.q Z (ah Z)<|.q Z (((ku (a:=36) (b:=10) Z Z).trans (congrArg (fun z=>some (Value.bool z,[])) (decide_eq_false U)))) ?_;refine Ops.nil<|h6 _ _<|.cond_false Z<|.skip<|h4 _ _<|.seq fun _ h8=>.region<|.q Z (ah Z)<|.q Z (ah Z)<|.q Z (ah Z) ?_;have V:=ci (bs:=[blk u]) a4 (sA hu.lo oT);refine Ops.l Z (fun _ _ a3 _=>au Z (JQ u o n (A.hide [blk u]) A (cE A [blk u]) (cm wf) (hu.hide (by simp)) ho hn) ?_);rintro a5 A11 ⟨h,rfl,X,h,D⟩;have a0:=D.base V;have a1:=V.trans X;refine a3 _ _<|.q Z (ah Z)<|.q Z (bh Z Z)<|.q Z (bh Z Z)<|.q Z (ae Z)<|.nil<|h8 _ _<|.seq fun _ a2=>.region<|.q Z (ah Z) ?_;refine Ops.q Z (ae Z)<|.nil<|a2 _ _<|.rt (by exact aJ Z (⟨a1,h,a0⟩))

theorem Rb (u:Value) (o:List UInt8) (n:Nat) (A0 A:AH) (a4:A0.le A) (a7:A0.wf) (hu:Fresh A0 A u 1 (ao o)) (ho:o.length<=100000000000) (hn:n<=1000000):bH Tryz.prog 202 #[u,num ((n:Nat):Int),num ((36:Nat):Int)] A (fun v A1=>A0.le A1/\A1.wf/\Fresh A0 A1 v 1 (ao (o ++ ip n))):=by
 refine wQ Tryz.call202 Tryz.func202 Z Tryz.results202 Tryz.ntmps202 Z (fun wf=>?_);refine am.seq fun _ h2=>.region<|.q Z (ae Z)<|.nil<|h2 _ _<|.seq fun _ h4=>.region<|.q Z (ah Z)<|.q Z (MY u2 UX Z O)<|.q Z (ae Z) ?_;refine Ops.nil<|h4 _ _<|.seq fun _ h6=>.seq fun _ h8=>.region<|.q Z (ah Z)<|.q Z (cd (b:=0) Z Z)<|.nil<|h8 _ _<|.if rfl (fun p9=>?_) (fun p9=>?_)
 ·refine am.seq fun _ a5=>?_;exact absurd ‹n < 0› O
 refine am.skip<|h6 _ _<|.seq fun _ a3=>.region<|.q Z (ah Z)<|.q Z (ah Z)<|.q Z (ah Z) ?_;have D:=ci (bs:=[blk u]) a4 (sA hu.lo oT);refine Ops.l Z (fun _ _ a1 _=>au Z (S9 u o n (A.hide [blk u]) A (cE A [blk u]) (cm wf) (hu.hide (by simp)) ho hn) ?_);rintro a6 A16 ⟨V,X,h⟩;have a0:=h.base D;have a2:=D.trans V;refine a1 _ _<|.q Z (ae Z)<|.nil<|a3 _ _<|.rt (by exact aJ Z (⟨a2,X,a0⟩))

theorem S8 (u:Value) (o:List UInt8) (n:Nat) (A0 A:AH) (a3:A0.le A) (a4:A0.wf) (hu:Fresh A0 A u 1 (ao o)) (ho:o.length<=100000000000) (hn:n<=1000000):bH Tryz.prog 184 #[u,num ((n:Nat):Int),num ((36:Nat):Int)] A (fun v A1=>A0.le A1/\A1.wf/\Fresh A0 A1 v 1 (ao (o ++ ip n))):=by
 refine wQ Tryz.call184 Tryz.func184 Z Tryz.results184 Tryz.ntmps184 Z (fun wf=>?_);refine am.seq fun _ h2=>.region<|.q Z (ae Z)<|.nil<|h2 _ _<|.seq fun _ h4=>.region<|.q Z (ah Z)<|.q Z (ah Z)<|.q Z (ah Z) ?_;have D:=ci (bs:=[blk u]) a3 (sA hu.lo oT);refine Ops.l Z (fun _ _ a2 _=>au Z (Rb u o n (A.hide [blk u]) A (cE A [blk u]) (cm wf) (hu.hide (by simp)) ho hn) ?_);rintro v6 A7 ⟨a0,a1,h⟩;have V:=h.base D;have X:=D.trans a0;refine a2 _ _<|.q Z (ae Z)<|.nil<|h4 _ _<|.rt (by exact aJ Z (⟨X,a1,V⟩))
end Go.Proofs.YtjppkekmddjcfaaGreatDoor

namespace Go.Proofs.YtjppkekmddjcfaaGreatDoor
open Go Go.RowKit V
structure CY (k:Nat) (acc:List Bool) (N:List (List Int)):Prop where
  sym:1<=k/\k<=400
  len:acc.length=N.length
  num:N.length<=30000
  row:∀ s,s < N.length->(N.getD s []).length=k
  val:∀ s x,s < N.length->x < k->-1<=ie N s x/\ie N s x < N.length
section
variable {N B B1:List (List Int)} {s j n:Nat} {m:Int} {row:List Int}
theorem vL (n:Nat) (v:Value):List.replicate n v=em (List.replicate n v):=rfl
theorem uW {s:Int}:(o0 B s m).length=B.length:=by unfold o0;split <;> simp
theorem KI {s:Int} (h:0<=m):o0 B s m=B.set m.toNat (B.getD m.toNat [] ++ [s]):=if_pos h
theorem Pq {s:Int} (h:¬ 0<=m):o0 B s m=B:=if_neg h
theorem uV {s:Int} {c:Nat} (h:∀ t,(B.getD t []).length<=c) (hm:0<=m->m.toNat < B.length):∀ t,((o0 B s m).getD t []).length<=c + 1:=fun t=>by
  unfold o0;split
  · rename_i q
    rw [d9 (hm q)]
    split
    · have:=h m.toNat;rw [List.length_append,List.length_singleton];omega
    · have:=h t;omega
  · have:=h t;omega
structure Kq (N:List (List Int)) (s:Nat) (B:List (List Int)):Prop where
  run:(List.range s).foldl (jv N) (List.replicate N.length [])=B
  len:B.length=N.length
  bound:∀ t,(B.getD t []).length<=1000 * s
structure Fh (N:List (List Int)) (s:Nat) (B:List (List Int)) (j:Nat) (B1:List (List Int)):Prop where
  out:Kq N s B
  run:((N.getD s []).take j).foldl (fun B m=>o0 B s m) B=B1
  len:B1.length=N.length
  bound:∀ t,(B1.getD t []).length<=1000 * s + j
theorem Kq.start:Kq N 0 (List.replicate N.length []):=⟨rfl,by simp,fun t=>by
  by_cases h:t < N.length <;> simp [List.getD_eq_getElem?_getD,h]⟩
theorem Fh.start (h:Kq N s B):Fh N s B 0 B:=⟨h,rfl,h.len,h.bound⟩
theorem Fh.step (h:Fh N s B j B1) (hj:j < (N.getD s []).length) (hm:0<=(N.getD s []).getD j 0->((N.getD s []).getD j 0).toNat < N.length):Fh N s B (j + 1) (o0 B1 s ((N.getD s []).getD j 0)) :=
  ⟨h.out,by rw [<- f5 (z:=0) hj,List.foldl_append,h.run];rfl,by rw [uW];exact h.len,uV h.bound fun q=>by rw [h.len];exact hm q⟩
theorem Fh.yes (h:Fh N s B j B1) (hj:j < (N.getD s []).length) (hm:0<=(N.getD s []).getD j 0->((N.getD s []).getD j 0).toNat < N.length) (q:0<=(N.getD s []).getD j 0):Fh N s B (j + 1) (B1.set ((N.getD s []).getD j 0).toNat (B1.getD ((N.getD s []).getD j 0).toNat [] ++ [(s:Int)])):=by
  have:=h.step hj hm;rwa [KI q] at this
theorem Fh.no (h:Fh N s B j B1) (hj:j < (N.getD s []).length) (hm:0<=(N.getD s []).getD j 0->((N.getD s []).getD j 0).toNat < N.length) (q:¬ 0<=(N.getD s []).getD j 0):Fh N s B (j + 1) B1:=by
  have:=h.step hj hm;rwa [Pq q] at this
theorem Kq.next (h:Fh N s B j B1) (hj:(N.getD s []).length=j) (hk:j<=1000):Kq N (s + 1) B1 :=
  ⟨by rw [List.range_succ,List.foldl_append,h.out.run];show jv N B s=B1;rw [jv,<- h.run,<- hj,List.take_length],h.len,fun t=>by have:=h.bound t;omega⟩
theorem Kq.fin (h:Kq N s B) (hs:s=N.length):B=dy N:=by subst hs;exact h.run.symm
theorem Ms {s p:Int} {t:Nat}:p ∈ (o0 B s m).getD t [] ↔ p ∈ B.getD t []\/(0<=m/\m.toNat=t/\t < B.length/\p=s):=by
  unfold o0;split
  · rename_i q
    by_cases hm:m.toNat < B.length
    · rw [d9 hm]
      split
      · rename_i e;subst e
        rw [List.mem_append,List.mem_singleton]
        exact ⟨fun h=>h.imp id fun z=>⟨q,rfl,hm,z⟩,fun h=>h.imp id fun z=>z.2.2.2⟩
      · rename_i e
        exact ⟨.inl,fun h=>h.elim id fun z=>absurd z.2.1.symm e⟩
    · rw [List.set_eq_of_length_le O]
      exact ⟨.inl,fun h=>h.elim id fun z=>absurd z.2.2.1 O⟩
  · exact ⟨.inl,fun h=>h.elim id fun z=>absurd z.1 ‹_›⟩
theorem sY {s:Int}:∀ (row:List Int) (B:List (List Int)),(row.foldl (fun B m=>o0 B s m) B).length=B.length
  | [],_=>rfl
  | a :: row,B=>by rw [List.foldl_cons,sY row];exact uW
theorem xG {s p:Int} {t:Nat}:∀ (row:List Int) (B:List (List Int)),p ∈ (row.foldl (fun B m=>o0 B s m) B).getD t [] ↔ p ∈ B.getD t []\/((t:Int) ∈ row/\t < B.length/\p=s)
  | [],B=>by simp
  | a :: row,B=>by
    rw [List.foldl_cons,xG row,Ms,uW,List.mem_cons]
    constructor
    · rintro ((h | ⟨h1,h2,h3,h4⟩) | ⟨h1,h2,h3⟩)
      · exact .inl h
      · exact .inr ⟨.inl O,h3,h4⟩
      · exact .inr ⟨.inr h1,h2,h3⟩
    · rintro (h | ⟨h1 | h1,h2,h3⟩)
      · exact .inl (.inl h)
      · exact .inl (.inr ⟨by omega,by omega,h2,h3⟩)
      · exact .inr ⟨h1,h2,h3⟩
theorem xH {p:Int} {t:Nat}:∀ (L:List Nat) (B:List (List Int)),p ∈ (L.foldl (jv N) B).getD t [] ↔ p ∈ B.getD t []\/(t < B.length/\∃ s ∈ L,p=(s:Int)/\(t:Int) ∈ N.getD s [])
  | [],B=>by simp
  | a :: L,B=>by
    rw [List.foldl_cons,xH L,jv,xG,sY]
    constructor
    · rintro ((h | ⟨h1,h2,h3⟩) | ⟨h1,s,h2,h3⟩)
      · exact .inl h
      · exact .inr ⟨h2,a,List.mem_cons_self,h3,h1⟩
      · exact .inr ⟨h1,s,List.mem_cons_of_mem _ h2,h3⟩
    · rintro (h | ⟨h1,s,h2,h3,h4⟩)
      · exact .inl (.inl h)
      · rcases List.mem_cons.1 h2 with rfl | h2
        · exact .inl (.inr ⟨h4,h1,h3⟩)
        · exact .inr ⟨h1,s,h2,h3,h4⟩
theorem AX {p:Int} {t:Nat}:p ∈ (dy N).getD t [] ↔ t < N.length/\∃ s,s < N.length/\p=(s:Int)/\(t:Int) ∈ N.getD s []:=by
  rw [dy,xH]
  have e:(List.replicate N.length ([]:List Int)).getD t []=[]:=by by_cases h:t < N.length <;> simp [List.getD_eq_getElem?_getD,h]
  rw [e];simp
theorem rD:(dy N).length=N.length:=by
  have:∀ (L:List Nat) (B:List (List Int)),(L.foldl (jv N) B).length=B.length:=by
    intro L
    induction L with
    | nil=>intro B;rfl
    | cons a L ih=>intro B;rw [List.foldl_cons,ih,jv,sY]
  rw [dy,this];simp
theorem zN {s m:Int} {c:Nat} (h:∀ t,(B.getD t []).length<=c):∀ t,((o0 B s m).getD t []).length<=c + 1:=fun t=>by
  by_cases hm:m.toNat < B.length
  · exact uV h (fun _=>hm) t
  · have:=h t
    unfold o0;split
    · rw [List.set_eq_of_length_le O];omega
    · omega
theorem tK {s:Int}:∀ (row:List Int) (B:List (List Int)) (c:Nat),(∀ t,(B.getD t []).length<=c)->∀ t,((row.foldl (fun B m=>o0 B s m) B).getD t []).length<=c + row.length
  | [],B,c,h=>h
  | a :: row,B,c,h=>fun t=>by
    have:=tK (s:=s) row (o0 B s a) (c + 1) (zN h) t
    rw [List.foldl_cons,List.length_cons];omega
theorem tL {k:Nat} (hk:∀ s,(N.getD s []).length<=k):∀ (L:List Nat) (B:List (List Int)) (c:Nat),(∀ t,(B.getD t []).length<=c)->∀ t,((L.foldl (jv N) B).getD t []).length<=c + k * L.length
  | [],B,c,h=>fun t=>by have:=h t;simpa using this
  | a :: L,B,c,h=>fun t=>by
    have h1:=tL hk L (jv N B a) (c + k) (fun t=>by have:=tK (s:=(a:Int)) (N.getD a []) B c h t;have:=hk a;unfold jv;omega) t
    rw [List.foldl_cons,List.length_cons,Nat.mul_succ];omega
theorem C6 {k:Nat} (hk:∀ s,(N.getD s []).length<=k) (t:Nat):((dy N).getD t []).length<=k * N.length:=by
  have:=tL hk (List.range N.length) (List.replicate N.length []) 0 (fun t=>by by_cases h:t < N.length <;> simp [List.getD_eq_getElem?_getD,h]) t
  rw [List.length_range] at this;unfold dy;omega
theorem CY.rows {k:Nat} {acc:List Bool} (h:CY k acc N) (s:Nat):(N.getD s []).length<=400:=by
  by_cases q:s < N.length
  · have:=h.row s q;have:=h.sym;omega
  · simp [List.getD_eq_getElem?_getD,q]
theorem CY.back {k:Nat} {acc:List Bool} (h:CY k acc N) (t:Nat):((dy N).getD t []).length<=12000000:=by
  have:=C6 h.rows t;have:=h.num;omega
structure mP (n:Nat) (sn:List Bool) (Q:List Int):Prop where
  len:sn.length=n
  nd:Q.Nodup
  rng:∀ q ∈ Q,0<=q/\q < n
  is:∀ p,p < n->sn.getD p false=decide ((p:Int) ∈ Q)
variable {sn:List Bool} {Q Q1:List Int} {acc:List Bool} {i:Nat}
theorem mP.nil:mP n (List.replicate n false) []:=⟨by simp,List.nodup_nil,(fun _ h=>by cases h),fun p hp=>by simp [hp]⟩
theorem mP.add (h:mP n sn Q) {p:Int} (hp:0<=p/\p < n) (hn:p ∉ Q):mP n (sn.set p.toNat true) (Q ++ [p]) :=
  ⟨by simpa using h.len,po h.nd hn,qg h.rng hp,fun q hq=>by
    rw [d9 (by rw [h.len];omega)]
    split
    · rename_i e;subst e;simp;exact .inr O
    · rename_i e
      rw [h.is q hq]
      congr 1
      rw [List.mem_append,List.mem_singleton,eq_iff_iff]
      exact ⟨.inl,fun z=>z.elim id fun z=>absurd O e⟩⟩
theorem mP.qlen (h:mP n sn Q):Q.length<=n:=by
  have:=qh (l:=Q.map Int.toNat) (n:=n) ?_ ?_
  · simpa using this
  · rw [List.nodup_iff_pairwise_ne,List.pairwise_map]
    exact List.Pairwise.imp_of_mem (fun {a c} ha hc hac e=>hac (by have:=h.rng a ha;have:=h.rng c hc;omega)) h.nd
  · intro x hx
    obtain ⟨a,ha,rfl⟩:=List.mem_map.1 hx
    have:=h.rng a ha;omega
theorem xb:qw acc (i + 1)=qw acc i ++ (if acc.getD i false then [(i:Int)] else []):=by
  rw [qw,List.range_succ,List.filter_append,List.map_append]
  congr 1
  by_cases h:acc.getD i false=true
  · rw [if_pos h,List.filter_cons,if_pos h];rfl
  · rw [if_neg h,List.filter_cons,if_neg h];rfl
theorem zM (h:Q=qw acc i) (q:acc.getD i false=true):Q ++ [(i:Int)]=qw acc (i + 1):=by rw [h,xb,if_pos q]
theorem Fk (h:Q=qw acc i) (q:acc.getD i false=false):Q=qw acc (i + 1):=by rw [h,xb,q];simp
theorem uU {q:Int}:q ∈ qw acc i ↔ ∃ s,s < i/\acc.getD s false=true/\q=(s:Int):=by
  simp only [qw,List.mem_map,List.mem_filter,List.mem_range]
  exact ⟨fun ⟨s,⟨h1,h2⟩,h3⟩=>⟨s,h1,h2,h3.symm⟩,fun ⟨s,h1,h2,h3⟩=>⟨s,⟨h1,h2⟩,h3.symm⟩⟩
theorem zL:(i:Int) ∉ qw acc i:=fun h=>by obtain ⟨s,h1,_,h3⟩:=uU.1 h;omega
structure zB (acc:List Bool) (N:List (List Int)) (i:Nat) (sn:List Bool) (Q:List Int):Prop where
  seen:mP N.length sn Q
  le:i<=Q.length
  fin:∃ f,f + i=N.length + 1/\jB (dy N) f i Q=gk acc N
structure zC (acc:List Bool) (N:List (List Int)) (i:Nat) (sn:List Bool) (Q:List Int) (j:Nat) (sn1:List Bool) (Q1:List Int):Prop where
  out:zB acc N i sn Q
  lt:i < Q.length
  seen:mP N.length sn1 Q1
  run:(((dy N).getD (Q.getD i 0).toNat []).take j).foldl i0 Q=Q1
variable {sn1:List Bool}
theorem zB.start (h:mP N.length sn (qw acc acc.length)):zB acc N 0 sn (qw acc acc.length):=⟨h,Nat.zero_le _,_,rfl,rfl⟩
theorem pg:∀ (P Q:List Int),Q <+: P.foldl i0 Q
  | [],Q=>List.prefix_refl _
  | p :: P,Q=>by
    rw [List.foldl_cons]
    refine List.IsPrefix.trans ?_ (pg P (i0 Q p))
    unfold i0;split
    · exact List.prefix_refl _
    · exact List.prefix_append _ _
theorem nW {B:List (List Int)}:∀ (f i:Nat) (Q:List Int),Q <+: jB B f i Q
  | 0,_,_=>List.prefix_refl _
  | f + 1,i,Q=>by
    unfold jB;split
    · exact (pg _ _).trans (nW f _ _)
    · exact List.prefix_refl _
theorem zB.pre (h:zB acc N i sn Q):Q <+: gk acc N:=by obtain ⟨f,_,e⟩:=h.fin;rw [<- e];exact nW _ _ _
theorem zB.get (h:zB acc N i sn Q) (hi:i < Q.length):(gk acc N).getD i 0=Q.getD i 0/\i < (gk acc N).length:=⟨vI h.pre hi,Nat.lt_of_lt_of_le hi h.pre.length_le⟩
theorem zB.at (h:zB acc N i sn Q) (hi:i < Q.length):0<=Q.getD i 0/\(Q.getD i 0).toNat < N.length:=by have:=h.seen.rng _ (bw (d:=(0:Int)) hi);omega
theorem zC.start (h:zB acc N i sn Q) (hi:i < Q.length):zC acc N i sn Q 0 sn Q:=⟨h,hi,h.seen,rfl⟩
theorem zC.rng (hj:j < ((dy N).getD (Q.getD i 0).toNat []).length):0<=((dy N).getD (Q.getD i 0).toNat []).getD j 0/\(((dy N).getD (Q.getD i 0).toNat []).getD j 0).toNat < N.length:=by
  obtain ⟨_,s,h2,h3,_⟩:=AX.1 (bw (d:=(0:Int)) hj)
  rw [h3];exact ⟨by omega,by simpa using h2⟩
theorem zC.next (h:zC acc N i sn Q j sn1 Q1) (hj:j < ((dy N).getD (Q.getD i 0).toNat []).length) {Q2:List Int} {D:List Bool} (hs:mP N.length D Q2) (e:i0 Q1 (((dy N).getD (Q.getD i 0).toNat []).getD j 0)=Q2):zC acc N i sn Q (j + 1) D Q2 :=
  ⟨h.out,h.lt,hs,by rw [<- f5 (z:=(0:Int)) hj,List.foldl_append,h.run];exact e⟩
theorem zC.old (h:zC acc N i sn Q j sn1 Q1) (hj:j < ((dy N).getD (Q.getD i 0).toNat []).length) (q:(!sn1.getD (((dy N).getD (Q.getD i 0).toNat []).getD j 0).toNat false)=false):zC acc N i sn Q (j + 1) sn1 Q1:=by
  have hr:=zC.rng hj
  refine h.next hj h.seen ?_
  rw [h.seen.is _ hr.2] at q
  rw [i0,if_pos]
  simp only [Bool.not_eq_false',decide_eq_true_eq] at q
  rwa [show ((((dy N).getD (Q.getD i 0).toNat []).getD j 0).toNat:Int)=((dy N).getD (Q.getD i 0).toNat []).getD j 0 by omega] at q
theorem zC.new (h:zC acc N i sn Q j sn1 Q1) (hj:j < ((dy N).getD (Q.getD i 0).toNat []).length) (q:(!sn1.getD (((dy N).getD (Q.getD i 0).toNat []).getD j 0).toNat false)=true):zC acc N i sn Q (j + 1) (sn1.set (((dy N).getD (Q.getD i 0).toNat []).getD j 0).toNat true) (Q1 ++ [((dy N).getD (Q.getD i 0).toNat []).getD j 0]):=by
  have hr:=zC.rng hj
  rw [h.seen.is _ hr.2] at q
  simp only [Bool.not_eq_true',decide_eq_false_iff_not] at q
  rw [show ((((dy N).getD (Q.getD i 0).toNat []).getD j 0).toNat:Int)=((dy N).getD (Q.getD i 0).toNat []).getD j 0 by omega] at q
  exact h.next hj (h.seen.add O q) (by rw [i0,if_neg q])
theorem zB.next (h:zC acc N i sn Q j sn1 Q1) (hj:((dy N).getD (Q.getD i 0).toNat []).length=j):zB acc N (i + 1) sn1 Q1:=by
  obtain ⟨f,hf,e⟩:=h.out.fin
  have h1:=h.out.seen.qlen
  have h2:=h.lt
  obtain ⟨f,rfl⟩:∃ g,f=g + 1:=⟨f - 1,by omega⟩
  have hr:=h.run
  rw [<- hj,List.take_length] at hr
  have hp:Q <+: Q1:=by rw [<- hr];exact pg _ _
  refine ⟨h.seen,by have:=hp.length_le;omega,f,by omega,?_⟩
  rw [<- e,jB,if_pos h2,hr]
theorem zB.end (h:zB acc N i sn Q) (hi:Q.length<=i):Q=gk acc N/\i=(gk acc N).length:=by
  obtain ⟨f,hf,e⟩:=h.fin
  have h1:=h.seen.qlen
  have h2:=h.le
  have e2:Q=gk acc N:=by
    rw [<- e]
    cases f with
    | zero=>rfl
    | succ f=>rw [jB,if_neg O]
  exact ⟨e2,by rw [<- e2];omega⟩
end
def jr (A B:AH) (bo:Nat) (v:Value):Prop:=∀ b,blk v=some b->A.n<=b/\¬ mN bo B b
section
variable {A B C E M:AH} {bo b:Nat} {v u vY:Value} {cY:Nat} {n:Nat} {xs:List Value}
theorem jr.off (h:jr A C bo v) (g:C.get bo=some (.row true [vY] cY)):Kr v [some bo,blk vY]:=fun c hc=>by
  have:=(h c hc).2
  refine qz (fun q=>this (.inl q)) (nY (fun q=>this (.inr ⟨_,_,g,q⟩)) mI)
theorem jr.ne (h:jr A C bo v):blk v ≠ some bo:=fun q=>(h bo q).2 (.inl Z)
theorem jr.yield (h:jr A C bo v) (fr:oO C v n xs) (g:C.get bo=some (.row true [vY] cY)) (hR:cx bo (C.hide [some bo,blk vY]) E):jr A E bo v:=fun b hb=>⟨(h b hb).1,fun z=>by
  obtain ⟨o,ho⟩:=fr.blkget hb
  have:=hR.ow b z
  rw [bQ ho (h.off g b hb)] at this;cases this⟩
theorem jr.nm (hs:jr A C bo v) (hq:jr A C bo u) (h:b < A.n\/mN bo C b):some b ∉ [blk v,blk u]:=by
  refine nY (fun z=>?_) (nY (fun z=>?_) mI)
  · have:=hs b z;rcases h with h | h;omega;exact this.2 h
  · have:=hq b z;rcases h with h | h;omega;exact this.2 h
theorem jr.next {v':Value} (hs:jr A C bo v) (hq:jr A C bo u) (g:C.get bo=some (.row true [vY] cY)) (l:∀ b,blk vY=some b->∃ o,C.get b=some o) (gE:E.get bo=some (.row true [vY] cY))
    (nj:∀ b,blk v'=some b->(C.hide [blk v,blk u]).get b=none) (lo:∀ b,blk v'=some b->A.n<=b):jr A E bo v':=fun b hb=>⟨lo b hb,fun z=>by
  have z2:mN bo C b:=z.same (by rw [gE,g])
  have hex:∃ o,C.get b=some o:=by
    rcases z2.val g with rfl | q
    · exact ⟨_,g⟩
    · exact l b q
  obtain ⟨o,ho⟩:=hex
  have:=nj b hb
  rw [bQ ho (jr.nm hs hq (.inr z2))] at this;cases this⟩
theorem jr.start (g:C.get bo=some (.row true [vY] cY)) (l:∀ b,blk vY=some b->∃ o,A.get b=some o) (gA:A.get bo=some (.row true [vY] cY)) (nj:∀ b,blk v=some b->A.get b=none) (lo:∀ b,blk v=some b->A.n<=b):jr A C bo v:=fun b hb=>⟨lo b hb,fun z=>by
  rcases z.val g with rfl | q
  · have:=nj _ hb;rw [gA] at this;cases this
  · obtain ⟨o,ho⟩:=l b q;have:=nj _ hb;rw [ho] at this;cases this⟩
theorem cx.keep (h:cx bo M C) (le:M.le E) (g:C.get bo=some (.row true [vY] cY)) (gE:E.get bo=some (.row true [vY] cY)):cx bo M E:=⟨le,h.wf,fun b hb=>h.ow b (hb.same (by rw [gE,g]))⟩
theorem Mp {s:Value} (h:∀ b,blk s=some b->A.n<=b) (ap:mA C s n xs v E) (hn:A.n<=C.n):∀ b,blk v=some b->A.n<=b:=fun b hb=>(ap.blk b hb).elim (h b) fun q=>Nat.le_trans hn q
theorem SL:∀ b,blk (.slice none 0 0)=some b->A.n<=b:=fun _ q=>by cases q
end
end Go.Proofs.YtjppkekmddjcfaaGreatDoor

namespace Go.Proofs.YtjppkekmddjcfaaGreatDoor
open Go Go.RowKit V
set_option maxRecDepth 100000
theorem mQ:dx Tryz.prog 160=some false:=by kernel_rfl

theorem Tf (b:Nat) (rwb:Bool) (capb k:Nat) (av nv fv bv:Value) (acc:List Bool) (N:List (List Int)) (rows:List Value) (A:AH) (hok:CY k acc N) (hb:A.get b=some (.row rwb [num (k:Int),av,nv,fv,bv] capb)) (hav:bK A 1 av (cl acc)) (hnv:bK A 1 nv (em rows)) (hrl:rows.length=N.length) (hF:∀ i,i < N.length->bK A 1 (rows.getD i undef) (cO (N.getD i []))):bH Tryz.prog 200 #[.pointer (some ⟨b,0,none⟩)] A (fun v A1=>∃ rows2,A.le A1/\A1.wf/\Fresh A A1 v 1 (em rows2)/\ib A A1 rows2 (dy N)/\aL v rows2):=by
 refine ia Tryz.call200 Tryz.func200 Z Tryz.results200 Tryz.ntmps200 Z (fun wf=>?_);have ac:=AH.le.refl A;obtain ⟨⟨dz,dD⟩,hal,hnl,hrow,hval⟩:=hok;refine am.seq fun _ h2=>.region<|.q Z (ae Z)<|.nil<|h2 _ _<|.seq fun _ h4=>.region<|.q Z (ah Z)<|.q Z (cQ Z)<|.q Z (aj jy iK U Z) ?_;refine Ops.q Z (ak iE Z Z (ac.get _ _ hb) Z)<|.q Z (bF (n:=acc.length) lS Z (hav.le ac) O (fw _))<|.l Z (fun _ _ bS _=>mL (n:=acc.length) (k:=acc.length) wf ac rfl rfl oe fF Kw FX rfl (Nat.le_refl _) (by show 24 * _<=_;omega) O fun A7 b6 c3 aC=>?_);rw [vL] at aC;have ab:=ac.trans c3.le;have aR:ib A A7 (List.replicate acc.length (Value.slice none 0 0)) (List.replicate acc.length []):=ib.nils;refine bS _ _<|.q Z (ae Z)<|.nil<|h4 _ _<|.seq fun _ bp=>.seq fun _ br=>.region<|.q Z (ah Z)<|.q Z (cQ Z)<|.q Z (aj p3 i8 U Z) ?_;refine Ops.q Z (ak kh Z Z (ab.get _ _ hb) Z)<|.q Z (bF (n:=rows.length) oe Z (hnv.le ab) O (i6 _))<|.q Z (ah Z)<|.nil<|br _ _<|.block<|.loop (X:=Nat × Value × List Value × List (List Int)) (fun ⟨s,ov,R,Bk⟩=>[(3,ov),(17,nv),(18,num ((rows.length:Nat):Int)),(19,num ((s:Nat):Int))]) (fun ⟨s,ov,R,Bk⟩ B=>(s<=N.length/\Kq N s Bk)/\A.le B/\Fresh A B ov 1 (em R)/\ib A B R Bk/\aL ov R) (fun ⟨s,ov,R,Bk⟩=>N.length - s) (⟨0,.slice (some ⟨b6,0,none⟩) acc.length acc.length,List.replicate acc.length (Value.slice none 0 0),List.replicate acc.length []⟩) (lD Z Z Z Z) (⟨⟨Nat.zero_le _,by first | exact Kq.start | (rw [hal];exact Kq.start)⟩,ab,aC,aR,CB⟩) ?_;rintro ⟨s,ov,R,Bk⟩ B17 ⟨⟨hs,hbk⟩,a8,a7,a5,a1⟩;refine am.wf fun b7=>?_;have hro:=fun q:s < N.length=>hrow s q;have hva:=fun x (q:s < N.length) (z:x < k)=>hval s x q z;refine am.seq fun _ bu=>.region<|.q Z (cd Z Z)<|.nil<|bu _ _<|.seq fun _ bA=>.if rfl (fun c7=>?_) (fun c7=>?_)
 ·refine am.skip<|bA _ _<|.seq fun _ bB=>.block<|.seq fun _ bC=>.region<|.q Z (ah Z) ?_;obtain ⟨dd,dm,d1,dV,cV,dL,dI,b9,bU,bc,cA,aG⟩:=bK.at (i:=s) (hnv.le a8) Ok O;refine Ops.q Z (ax oe fF Z b9 Z bU)<|.q Z (ak l8 Z Z bc ((cT aG).trans (eO O)))<|.q Z (ae Z)<|.q Z (ae Z)<|.nil<|bC _ _<|.seq fun _ bD=>.region<|.q Z (ah Z)<|.q Z (bF (n:=((N.getD s [])).length) ep Z ((hF s O).le a8) O (eD _)) ?_;refine Ops.q Z (ah Z)<|.nil<|bD _ _<|.block<|.loop (X:=Nat × Value × List Value × List (List Int)) (fun ⟨j,a3,R1,Bk1⟩=>[(3,a3),(4,num ((s:Nat):Int)),(17,nv),(18,num ((rows.length:Nat):Int)),(19,num ((s:Nat):Int)),(24,rows.getD s undef),(25,num ((((N.getD s [])).length:Nat):Int)),(26,num ((j:Nat):Int))]) (fun ⟨j,a3,R1,Bk1⟩ B=>(j<=k/\Fh N s Bk j Bk1)/\A.le B/\Fresh A B a3 1 (em R1)/\ib A B R1 Bk1/\aL a3 R1) (fun ⟨j,a3,R1,Bk1⟩=>k - j) (⟨0,ov,R,Bk⟩) (yC Z Z Z Z Z Z Z Z) (⟨⟨Nat.zero_le _,Fh.start hbk⟩,a8,a7,a5,a1⟩) ?_;rintro ⟨j,a3,R1,Bk1⟩ B32 ⟨⟨hj,hbj⟩,a9,a0,V,D⟩;refine am.wf fun aA=>?_;have cP:R1.length=Bk1.length:=by first | exact ib.len ‹_›
  have cK:=hbj.len;have hvj:=fun z:j < k=>hva j O z;simp only [ie] at hvj;have hbd:=hbj.bound ((N.getD s []).getD j 0).toNat;refine am.seq fun _ bL=>.region<|.q Z (cd Z Z)<|.nil<|bL _ _<|.seq fun _ bM=>.if rfl (fun cc=>?_) (fun cc=>?_)
  ·refine am.skip<|bM _ _<|.seq fun _ aD=>.block<|.seq fun _ bO=>.region ?_;obtain ⟨di,dv,d2,dW,cX,dM,dJ,ba,bV,bd,cC,aI⟩:=bK.at (i:=j) ((hF s O).le a9) Of O;refine Ops.q Z (ax ep c5 Z ba Z bV)<|.q Z (ak eM Z Z bd ((cT aI).trans (c8 O)))<|.q Z (ae Z)<|.nil<|bO _ _<|.seq fun _ bP=>.region<|.q Z (ah Z)<|.q Z (lM Z Z)<|.nil ?_;refine bP _ _<|.if rfl (fun ch=>?_) (fun ch=>?_)
   ·refine am.region<|.q Z (ah Z)<|.q Z (ah Z)<|.q Z (ah Z)<|.q Z (ah Z) ?_;obtain ⟨dj,dw,d3,dZ,cZ,dO,dK,bb,bY,bl,cH,aP⟩:=bK.at (i:=(((N.getD s [])).getD j 0).toNat) a0.slc Ok O;refine Ops.q Z (ax oe fF Z bb (iQ O) bY)<|.q Z (ak l8 Z Z bl ((cT aP).trans (eO O)))<|.q Z (ah Z)<|.l Z (fun _ _ aY _=>aN (c:=[num ((s:Nat):Int)]) aA rfl (aw ep c5 z3 rfl U U rfl) fun A50 dk a2=>?_);have cS:=V.ne_new aA a2.lo;have ag:=a0.le a2.le;have a6:=V.le a2.le;have b1:=a9.trans a2.le;refine aY _ _<|.l Z (fun _ _ aZ _=>cF (ys:=[num ((s:Nat):Int)]) rfl rfl ep c5 mZ z3 rfl U ep (fun _ h=>by cases h) (a6.fr ((((N.getD s [])).getD j 0).toNat) O).own (bN (n:=1) a2.get Z) rfl rfl (by show (_ + _) * 8<=_;simp only [aE,List.length_cons,List.length_nil];(try simp only [List.length_append,List.length_cons,List.length_nil]);omega) O2 fun A58 e1 a4=>?_);rw [show ([num ((s:Nat):Int)]:List Value)=cO [((s:Nat):Int)] from rfl,dA] at a4;obtain ⟨ai,b2⟩:=Fresh.grow (a6.fr ((((N.getD s [])).getD j 0).toNat) O) b1 wf a4;have b5:=bq.appd (ed D (s:=(((N.getD s [])).getD j 0).toNat) (by have:=a6.len;omega)).symm ag.own a2.wf a4;have aV:=ag.appd a4 (ed D (s:=(((N.getD s [])).getD j 0).toNat) (by have:=a6.len;omega)).symm;have az:=Er (s:=(((N.getD s [])).getD j 0).toNat) D b5.symm;have aS:=a6.appRow a2.wf O a4 ai;obtain ⟨ay,ar,ad,ck,_⟩:=ai.own.slice;subst ck;refine aZ _ _ ?_;obtain ⟨b8,dS,dl,cv,d0,aB,aF,bm,e2,c4,e0,bT⟩:=aV.at1 (x:=(((N.getD s [])).getD j 0).toNat) Ok;rw [cq] at aF;refine Ops.q Z (ax oe fF Z aB (iQ O) (by rw [aF];omega))<|.l Z (fun _ _ b0 _=>aQ (off:=(((N.getD s [])).getD j 0).toNat) (c':=cv.set ((((N.getD s [])).getD j 0).toNat) (.slice ay ar ad)) a4.wf rfl (by simp) rfl rfl fF bm (by show ((((N.getD s [])).getD j 0).toNat) + 1<=_;omega) rfl rfl fun A72 aa=>?_);have aT:=aS.keep aa.keep (fun r hr=>az r hr b8 (by rw [aB];rfl));have ap:=bT (.slice ay ar ad) A72 aa;rw [M9] at ap;have b3:=an b2 wf c4 aa.n aa.keep;refine b0 _ _<|.nil<|aD _ _<|.region<|.q Z (bE (b:=1) Z Z O)<|.q Z (ah Z)<|.nil ?_;exact ⟨⟨j + 1,a3,R1.set ((((N.getD s [])).getD j 0).toNat) (Value.slice ay ar ad),Bk1.set ((((N.getD s [])).getD j 0).toNat) (((Bk1.getD ((((N.getD s [])).getD j 0).toNat) [])) ++ [((s:Nat):Int)])⟩,yC Z Z Z Z Z Z Z Z,Z,⟨⟨by omega,by first | exact hbj.yes O O ‹_› | exact hbj.no O O ‹_›⟩,b3,ap,aT,az⟩,O1⟩
   refine am.skip<|aD _ _<|.region<|.q Z (bE (b:=1) Z Z O)<|.q Z (ah Z)<|.nil ?_;exact ⟨⟨j + 1,a3,R1,Bk1⟩,yC Z Z Z Z Z Z Z Z,Z,⟨⟨by omega,by first | exact hbj.yes O O ‹_› | exact hbj.no O O ‹_›⟩,a9,a0,V,D⟩,O1⟩
  refine am.exit<|bB _ _<|.region<|.q Z (bE (b:=1) Z Z O)<|.q Z (ah Z)<|.nil ?_;exact ⟨⟨s + 1,a3,R1,Bk1⟩,lD Z Z Z Z,Z,⟨⟨by omega,Kq.next hbj O O⟩,a9,a0,V,D⟩,O1⟩
 refine am.exit<|bp _ _<|.seq fun _ bR=>.region<|.q Z (ah Z)<|.q Z (ae Z)<|.nil<|bR _ _<|.rt (by exact aJ Z (⟨_,a8,b7,a7,mG a5 (hbk.fin O),a1⟩))

theorem Tq (b:Nat) (A:AH):bH Tryz.prog 180 #[.pointer (some ⟨b,0,none⟩)] A (fun v A1=>∃ b1,v=.func (.func 199) #[] #[.pointer (some ⟨b1,0,none⟩)]/\A.le A1/\A1.wf/\A1.get b1=some (.row true [.pointer (some ⟨b,0,none⟩)] 1)/\A.get b1=none):=by
 refine ia Tryz.call180 Tryz.func180 Z Tryz.results180 Tryz.ntmps180 Z (fun wf=>?_);have V:=AH.le.refl A;refine am.seq fun _ h2=>.region<|.l Z (fun _ _ X _=>dQ wf rfl rfl fun A5 b4 h=>?_);have D:=aU wf (Nat.le_trans V.n h.lo);have a0:=V.trans h.le;refine X _ _<|.q Z (ae Z)<|.nil<|h2 _ _<|.seq fun _ h9=>.region<|.q Z (ml Z Z)<|.q Z (ae Z)<|.nil<|h9 _ _ ?_;refine am.ret ?_;repeat first | with_reducible refine bz ?_ | with_reducible refine bi ?_
 exact aJ Z (⟨b4,Z,a0,h.wf,h.get,D⟩)

theorem Ru (D lp:Nat) (J:Nat->AH->Prop) (b:Nat) (rwb:Bool) (capb k:Nat) (av nv fv bv:Value) (acc:List Bool) (N:List (List Int)) (rows:List Value) (M A:AH) (b1 k1:Nat) (w1:Bool) (hP:cx D M A) (ev:J 0 A) (cK:M.get b1=some (.row w1 [.pointer (some ⟨b,0,none⟩)] k1)) (hok:CY k acc N) (hb:M.get b=some (.row rwb [num (k:Int),av,nv,fv,bv] capb)) (hav:bK M 1 av (cl acc)) (hnv:bK M 1 nv (em rows)) (hrl:rows.length=N.length) (hF:∀ i,i < N.length->bK M 1 (rows.getD i undef) (cO (N.getD i []))) (hclo:∀ i C C2,J i C->C2.wf->C.n<=C2.n->(∀ b o,(b < A.n\/mN D C b)->C.get b=some o->C2.get b=some o)->J i C2) (hv:∀ i C,J i C->∃ v cap,C.get D=some (.row true [v] cap)/\∀ b,blk v=some b->∃ o,C.get b=some o) (hy:∀ k C M2,k < (gk acc N).length->C.wf->J k C->cx D M2 C->lr Tryz.prog lp #[num ((gk acc N).getD k 0)] C (fun v C2=>v=.bool true/\J (k + 1) C2/\C2.wf/\cx D M2 C2)):bH Tryz.prog 199 #[.func (.yield lp) #[] #[],.pointer (some ⟨b1,0,none⟩)] A (fun v A1=>J (gk acc N).length A1/\A1.wf/\cx D M A1):=by
 refine jP Tryz.call199 Tryz.func199 Z Tryz.results199 Tryz.ntmps199 Z (fun wf=>?_);have b5:=hP.le;have dl:=hok;obtain ⟨⟨k4,k6⟩,hal,hnl,hrow,hval⟩:=hok;obtain ⟨vX,cX,gX,lX⟩:=hv _ _ ev;have h7:=AH.le.refl A;have hbl:=rD (N:=N);refine am.seq fun _ h2=>.region<|.q Z (ak mQ Z Z (b5.get _ _ cK) Z)<|.l Z (fun _ _ h5 _=>au Z (Tf b _ _ k av nv fv bv acc N rows A dl (b5.get _ _ hb) (hav.le b5) (hnv.le b5) hrl (fun i hi=>(hF i hi).le b5)) ?_);rintro v4 A5 ⟨bc,dI,bL,bM,bl,g6⟩;have hd:=b5.trans dI;have bY:=h7.trans dI;have xr:=bM;have xf:=bl;have xs:=g6;have gZ:=bY.get _ _ gX;have aT:M.le (A5.hide [some D,blk vX]):=ci hd (fun b hb=>by simp only [List.mem_cons,List.not_mem_nil,or_false,Option.some.injEq] at hb;rcases hb with rfl | hb;exact hP.ow _ (.inl Z);exact hP.ow _ (.inr ⟨_,_,gX,hb.symm⟩));have hbk:bK (A5.hide [some D,blk vX]) 1 v4 (em bc):=rn bM gX lX (fun b h=>bM.lo b h);have hFK:∀ i,i < N.length->bK (A5.hide [some D,blk vX]) 1 (bc.getD i undef) (cO ((dy N).getD i [])):=fun i hi=>rn (bl.fr i (by rw [rD];exact hi)) gX lX (fun b h=>(bl.fr i (by rw [rD];exact hi)).lo b h);have hrb:bc.length=N.length:=by rw [bl.len,rD]
 have aP:=cE A5 [some D,blk vX];have br:=cm (bs:=[some D,blk vX]) bL;have dj:(A5.hide [some D,blk vX]).get D=none:=cr (by simp);have dk:∀ b,blk vX=some b->(A5.hide [some D,blk vX]).get b=none:=fun b h=>cr (by simp [h]);have bT:A.n<=(A5.hide [some D,blk vX]).n:=bY.n;generalize hM1:A5.hide [some D,blk vX]=M1 at aT hbk hFK aP br dj dk bT;refine h5 _ _<|.q Z (ae Z)<|.nil<|h2 _ _<|.seq fun _ gp=>.region<|.q Z (ak mQ Z Z (aP.get _ _ (aT.get _ _ cK)) Z)<|.q Z (cQ Z)<|.q Z (aj jy iK U Z)<|.q Z (ak iE Z Z (aP.get _ _ (aT.get _ _ hb)) Z) ?_;refine Ops.q Z (bF (n:=acc.length) lS Z ((hav.le aT).le aP) O (fw _))<|.l Z (fun _ _ fn _=>mL (n:=acc.length) (k:=acc.length) bL aP rfl rfl lS mc z4 LU rfl (Nat.le_refl _) (by show 1 * _<=_;omega) O fun A13 g9 aV ck=>?_);rw [om] at ck;have bb:=ne_new bL gZ aV.lo;have cP:=aU wf (Nat.le_trans bY.n aV.lo);have dJ:=Nat.le_trans aP.n aV.lo;have gq:=aV.le.get _ _ gZ;have b9:=aP.trans aV.le;have fI:=bY.trans aV.le;refine fn _ _<|.q Z (ae Z)<|.nil<|gp _ _<|.seq fun _ gs=>.region<|.q Z (ae Z)<|.nil<|gs _ _<|.seq fun _ gA=>?_;refine am.seq fun _ gC=>.region<|.q Z (ak mQ Z Z (b9.get _ _ (aT.get _ _ cK)) Z)<|.q Z (cQ Z)<|.q Z (aj jy iK U Z)<|.q Z (ak iE Z Z (b9.get _ _ (aT.get _ _ hb)) Z)<|.q Z (bF (n:=acc.length) lS Z ((hav.le aT).le b9) O (fw _))<|.q Z (ah Z)<|.nil<|gC _ _ ?_;refine am.block<|.loop (X:=Nat × List Bool × List Int × Value × Value) (fun ⟨s,sn,Q,sv,qv⟩=>[(0,.func (.yield lp) #[] #[]),(3,v4),(4,sv),(5,qv),(22,av),(23,num ((acc.length:Nat):Int)),(24,num ((s:Nat):Int))]) (fun ⟨s,sn,Q,sv,qv⟩ B=>(s<=acc.length/\mP N.length sn Q/\Q=qw acc s)/\M1.le B/\Fresh M1 B sv 1 (cl sn)/\Fresh M1 B qv 1 (cO Q)/\B.get D=some (.row true [vX] cX)/\V.blk sv ≠ some D/\V.blk qv ≠ some D/\bq sv qv/\A.le B/\(∀ b,V.blk sv=some b->A.get b=none)/\(∀ b,V.blk qv=some b->A.get b=none)/\((∀ b,blk sv=some b->A.n<=b)/\(∀ b,blk qv=some b->A.n<=b))) (fun ⟨s,sn,Q,sv,qv⟩=>acc.length - s) (⟨0,List.replicate acc.length false,[],.slice (some ⟨g9,0,none⟩) acc.length acc.length,.slice none 0 0⟩) (FJ Z Z Z Z Z Z Z) (⟨⟨Nat.zero_le _,by rw [hal];exact mP.nil,rfl⟩,b9,ck,(Fresh.nil M1 A13 1),gq,(fun q=>by cases q;exact bb rfl),(fun q=>by cases q),(bq.symm bq.nil),fI,(fun b q=>by cases q;exact cP),(fun _ q=>by cases q),⟨(fun b q=>by cases q;exact Nat.le_trans bT dJ),SL⟩⟩) ?_;rintro ⟨s,sn,Q,sv,qv⟩ B26 ⟨⟨hs,hse,hQ⟩,ba,aI,aG,aa,ap,ai,ab,aZ,aB,aA,los,loq⟩;refine am.wf fun bd=>?_;have hsl:=hse.len;have hql:=hse.qlen;have di:=hse.add (p:=(s:Int));refine am.seq fun _ gD=>.region<|.q Z (cd Z Z)<|.nil<|gD _ _<|.seq fun _ gE=>.if rfl (fun hg=>?_) (fun hg=>?_)
 ·refine am.skip<|gE _ _<|.seq fun _ eg=>.block<|.seq fun _ gF=>.region<|.q Z (ah Z) ?_;obtain ⟨Sh,k2,iX,kl,iS,ka,k7,gc,ha,gf,hL,eG⟩:=bK.at (i:=s) ((hav.le aT).le ba) Oi O;refine Ops.q Z (ax lS mc Z gc Z ha)<|.q Z (ak ut Z Z gf ((cT eG).trans (ek O)))<|.q Z (ae Z)<|.q Z (ae Z)<|.nil<|gF _ _<|.seq fun _ gG=>.region<|.q Z (ah Z)<|.nil ?_;refine gG _ _<|.ifB Z (fun hh=>?_) (fun hh=>?_)
  ·refine am.seq fun _ gL=>.region<|.q Z (ah Z)<|.q Z (ah Z) ?_;obtain ⟨ec,kc,k0,hl,iT,bO,ez,gg,kA,hf,kp,h9⟩:=aI.at1 (x:=s) Oi;rw [bJ] at ez;refine Ops.q Z (ax lS mc Z bO Z (by rw [ez];omega))<|.l Z (fun _ _ fo _=>aQ (off:=s) (c':=hl.set s (.bool (true))) bd rfl (by simp) rfl rfl mc gg (by show s + 1<=_;omega) rfl rfl fun A45 aF=>?_);have gM:=aF.keep _ _ (fun q=>ap (by rw [bO];exact congrArg some q.symm)) aa;have eV:=aG.keep aF.keep (ab ec (by rw [bO];rfl));have cv:=h9 (.bool (true)) A45 aF;rw [lg] at cv;have dm:=an aZ wf (aB ec (by rw [bO];rfl)) aF.n aF.keep;have dz:=an ba br hf aF.n aF.keep;refine fo _ _<|.nil<|gL _ _<|.region<|.q Z (ah Z)<|.q Z (ah Z)<|.l Z (fun _ _ fq _=>aN (c:=[num ((s:Nat):Int)]) aF.wf rfl (aw ep c5 z3 rfl U U rfl) fun A54 j4 ag=>?_);have gm:=aU wf (Nat.le_trans dm.n ag.lo);have he:=Nat.le_trans dz.n ag.lo;have en:=ag.le.get _ _ gM;have cA:=cv.le ag.le;have cC:=eV.le ag.le;have dD:=dz.trans ag.le;have dv:=dm.trans ag.le;refine fq _ _<|.l Z (fun _ _ ft _=>cF (ys:=[num ((s:Nat):Int)]) rfl rfl ep c5 mZ z3 rfl U ep (fun _ h=>by cases h) cC.own (bN (n:=1) ag.get Z) rfl rfl (by show (_ + _) * 8<=_;simp only [aE,List.length_cons,List.length_nil];(try simp only [List.length_append,List.length_cons,List.length_nil]);omega) O2 fun A64 hm ay=>?_);rw [show ([num ((s:Nat):Int)]:List Value)=cO [((s:Nat):Int)] from rfl,dA] at ay;obtain ⟨eX,fS⟩:=Fresh.grow cC dD br ay;have gN:=ay.keep ai en;have fV:=ay.ne ai ag.wf en;have g4:=bq.appd (show bq qv sv from (bq.symm ab)) cA.own ag.wf ay;have eY:=cA.appd ay (bq.symm ab);have fT:=Mp loq ay (Nat.le_trans bT dD.n);have fL:=F8 dv wf ay aA;have fX:=Ga dv wf ay aA;refine ft _ _<|.q Z (ae Z)<|.nil<|eg _ _<|.region<|.q Z (bE (b:=1) Z Z O)<|.q Z (ah Z)<|.nil ?_;exact ⟨⟨s + 1,sn.set s true,Q ++ [((s:Nat):Int)],sv,hm⟩,FJ Z Z Z Z Z Z Z,Z,⟨⟨by omega,by first | exact hse | exact di O (by rw [hQ];exact zL),by first | exact zM hQ ‹_› | exact Fk hQ ‹_›⟩,fS,eY,eX,gN,ap,fV,(bq.symm g4),fL,aB,fX,⟨los,fT⟩⟩,O1⟩
  refine am.skip<|eg _ _<|.region<|.q Z (bE (b:=1) Z Z O)<|.q Z (ah Z)<|.nil ?_;exact ⟨⟨s + 1,sn,Q,sv,qv⟩,FJ Z Z Z Z Z Z Z,Z,⟨⟨by omega,by first | exact hse | exact di O (by rw [hQ];exact zL),by first | exact zM hQ ‹_› | exact Fk hQ ‹_›⟩,ba,aI,aG,aa,ap,ai,ab,aZ,aB,aA,⟨los,loq⟩⟩,O1⟩
 refine am.exit<|gA _ _<|.seq fun _ gP=>.region<|.q Z (ae Z)<|.nil<|gP _ _<|.block ?_;have fm:=hclo _ _ _ ev bd aZ.n (fun b o _ h=>aZ.get b o h);have oS:jr A B26 D sv:=jr.start aa lX gX aB los;have oQ:jr A B26 D qv:=jr.start aa lX gX aA loq;have b6:M1.le (B26.hide [some D,blk vX,blk sv,blk qv]):=ci ba (uk dj (sA dk (sA aI.lo (sA aG.lo oT))));have frS:Fresh (B26.hide [some D,blk vX,blk sv,blk qv]) B26 sv 1 (cl sn):=aI.hide (by simp);have frQ:Fresh (B26.hide [some D,blk vX,blk sv,blk qv]) B26 qv 1 (cO Q):=aG.hide (by simp);have ey:cx D (B26.hide [some D,blk vX,blk sv,blk qv]) B26:=⟨cE _ _,cm bd,fun b hb=>cr (by rcases hb.val aa with rfl | q;simp;simp [q])⟩;have dd:=cE B26 [some D,blk vX,blk sv,blk qv];have bu:=cm (bs:=[some D,blk vX,blk sv,blk qv]) bd;have hseQ:Q=qw acc acc.length:=by rw [hQ,show s=acc.length by omega]
 have fD:zB acc N 0 sn Q:=by subst hseQ;exact zB.start hse
 generalize hM2:(B26.hide [some D,blk vX,blk sv,blk qv])=M2 at b6 frS frQ ey dd bu;refine am.loop (X:=Nat × List Bool × List Int × Value × Value) (fun ⟨i,b3,Q1,a6,a5⟩=>[(0,.func (.yield lp) #[] #[]),(3,v4),(4,a6),(5,a5),(8,num ((i:Nat):Int))]) (fun ⟨i,b3,Q1,a6,a5⟩ B=>(zB acc N i b3 Q1)/\M2.le B/\Fresh M2 B a6 1 (cl b3)/\Fresh M2 B a5 1 (cO Q1)/\bq a6 a5/\(J i B/\cx D M2 B/\jr A B D a6/\jr A B D a5)) (fun ⟨i,b3,Q1,a6,a5⟩=>N.length + 1 - i) (⟨0,sn,Q,sv,qv⟩) (pZ Z Z Z Z Z) (⟨fD,dd,frS,frQ,ab,⟨fm,ey,oS,oQ⟩⟩) ?_;rintro ⟨i,b3,Q1,a6,a5⟩ B81 ⟨hlv,i2,b0,az,bC,d0,d2,eC,eA⟩;refine am.wf fun bD=>?_;have hV:=hlv.seen.len;have hT:=hlv.seen.qlen;have hil:=hlv.le;have hat:=fun q:i < Q1.length=>hlv.at q;have hget:=fun q:i < Q1.length=>hlv.get q;have hbb:=dl.back (Q1.getD i 0).toNat;refine am.seq fun _ gQ=>.seq fun _ gS=>.region<|.q Z (ah Z)<|.q Z (ah Z)<|.q Z (bF (n:=Q1.length) ep Z az.slc O (eD _))<|.q Z (cd Z Z)<|.nil<|gS _ _<|.if rfl (fun hk=>?_) (fun hk=>?_)
 ·refine am.skip<|gQ _ _<|.seq fun _ h0=>.block<|.seq fun _ h1=>.seq fun _ h3=>?_;obtain ⟨vY,cY,gY,lY⟩:=hv _ _ d0;have hyy:=hy i B81 _ (hget O).2 bD d0 (cx.full gY bD);rw [(hget O).1] at hyy;refine am.regionJ ?_;refine jL.q ks Z Z (ah Z) ?_;refine jL.q ks Z Z (ah Z) ?_;refine jL.q ks Z Z (ah Z) ?_;obtain ⟨jX,k3,j1,km,iV,kk,k9,ge,hc,gl,hM,eL⟩:=bK.at (i:=i) az.slc Of O;refine jL.q ks Z Z (ax ep c5 Z ge Z hc) ?_;refine jL.q ks Z Z (ak eM Z Z gl ((cT eL).trans (c8 O))) ?_;refine jL.y ks rfl rfl rfl (hyy) fun kv A95 fE=>?_;obtain ⟨rfl,ex,hn,b2⟩:=fE;obtain ⟨vZ,cZ,gZ,lZ⟩:=hv _ _ ex;have b8:=b2.mono (d2.sub gY) d2.wf;have eZ:=b0.off (jr.off eC gY) b2.le;have cH:=az.off (jr.off eA gY) b2.le;have bp:=jr.yield eC b0.own gY b2;have bm:=jr.yield eA az.own gY b2;have h8:=cE A95 [blk a6,blk a5];have c3:=cm (bs:=[blk a6,blk a5]) hn;have njS:∀ b,blk a6=some b->(A95.hide [blk a6,blk a5]).get b=none:=fun b h=>cr (by simp [h]);have njQ:∀ b,blk a5=some b->(A95.hide [blk a6,blk a5]).get b=none:=fun b h=>cr (by simp [h]);have h6:A.n<=M2.n:=Nat.le_trans bT b6.n;refine jL.q ks Z Z (eu Z) ?_;refine jL.nil ?_;refine h3 _ _<|.cond_false Z<|.skip<|h1 _ _<|.seq fun _ h4=>.region<|.q Z (ah Z)<|.q Z (ah Z)<|.q Z (ah Z) ?_;obtain ⟨hE,hN,hA,iF,ht,ih,hX,eN,fN,f0,ho,dM⟩:=bK.at (i:=i) cH.slc Of O;refine Ops.q Z (ax ep c5 Z eN Z fN)<|.q Z (ak eM Z Z f0 ((cT dM).trans (c8 O))) ?_;obtain ⟨hG,hO,hB,iH,hu,ir,hY,eQ,fO,f1,hp,dO⟩:=bK.at (i:=(Q1.getD i 0).toNat) ((hbk.le b6).le b8.le) (by simp only [cq];have:=hat O;omega) O;refine Ops.q Z (ax oe fF Z eQ (iQ (by have:=hat O;omega)) fO)<|.q Z (ak l8 Z Z f1 ((cT dO).trans (eO (by have:=hat O;omega))))<|.q Z (bF (n:=((((dy N)).getD ((Q1.getD i 0).toNat) [])).length) ep Z (((fun i hi=>(hFK i hi).le b6) ((Q1.getD i 0).toNat) (by have:=hat O;omega)).le b8.le) O (eD _))<|.q Z (ah Z)<|.nil<|h4 _ _<|.block<|.loop (X:=Nat × List Bool × List Int × Value × Value) (fun ⟨j,aY,Q2,ar,aC⟩=>[(0,.func (.yield lp) #[] #[]),(3,v4),(4,ar),(5,aC),(8,num ((i:Nat):Int)),(57,bc.getD ((Q1.getD i 0).toNat) undef),(58,num ((((((dy N)).getD ((Q1.getD i 0).toNat) [])).length:Nat):Int)),(59,num ((j:Nat):Int))]) (fun ⟨j,aY,Q2,ar,aC⟩ B=>(j<=((dy N).getD (Q1.getD i 0).toNat []).length/\zC acc N i b3 Q1 j aY Q2)/\M2.le B/\Fresh M2 B ar 1 (cl aY)/\Fresh M2 B aC 1 (cO Q2)/\B.get D=some (.row true [vZ] cZ)/\V.blk ar ≠ some D/\V.blk aC ≠ some D/\bq ar aC/\(A95.hide [blk a6,blk a5]).le B/\(∀ b,V.blk ar=some b->(A95.hide [blk a6,blk a5]).get b=none)/\(∀ b,V.blk aC=some b->(A95.hide [blk a6,blk a5]).get b=none)/\((∀ b,blk ar=some b->A.n<=b)/\(∀ b,blk aC=some b->A.n<=b))) (fun ⟨j,aY,Q2,ar,aC⟩=>((dy N).getD (Q1.getD i 0).toNat []).length - j) (⟨0,b3,Q1,a6,a5⟩) (yC Z Z Z Z Z Z Z Z) (⟨⟨Nat.zero_le _,zC.start hlv O⟩,b8.le,eZ,cH,gZ,bp.ne,bm.ne,bC,h8,njS,njQ,⟨(fun b q=>(bp b q).1),(fun b q=>(bm b q).1)⟩⟩) ?_;rintro ⟨j,aY,Q2,ar,aC⟩ B103 ⟨⟨hj,hlj⟩,aS,ac,aD,a1,a4,a3,a2,aR,a9,a8,bB,bA⟩;refine am.wf fun cc=>?_;have hW:=hlj.seen.len;have hU:=hlj.seen.qlen;have hrg:=fun q:j < ((dy N).getD (Q1.getD i 0).toNat []).length=>zC.rng q;refine am.seq fun _ f6=>.region<|.q Z (cd Z Z)<|.nil<|f6 _ _<|.seq fun _ f7=>.if rfl (fun g1=>?_) (fun g1=>?_)
  ·refine am.skip<|f7 _ _<|.seq fun _ cS=>.block<|.seq fun _ f9=>.region ?_;obtain ⟨hH,hR,hC,iN,hw,it,hZ,eS,fQ,f2,hq,dS⟩:=bK.at (i:=j) (((fun i hi=>(hFK i hi).le b6) ((Q1.getD i 0).toNat) (by have:=hat O;omega)).le aS) Of O;refine Ops.q Z (ax ep c5 Z eS Z fQ)<|.q Z (ak eM Z Z f2 ((cT dS).trans (c8 O)))<|.q Z (ae Z)<|.nil<|f9 _ _<|.seq fun _ fd=>.region<|.q Z (ah Z)<|.q Z (ah Z) ?_;obtain ⟨hI,hS,hD,iR,hx,iv,i1,eT,fR,f3,hr,dV⟩:=bK.at (i:=(((((dy N)).getD ((Q1.getD i 0).toNat) [])).getD j 0).toNat) ac.slc Oi O;refine Ops.q Z (ax lS mc Z eT (iQ O) fR)<|.q Z (ak ut Z Z f3 ((cT dV).trans (ek O)))<|.q Z (eu Z)<|.nil<|fd _ _<|.ifB Z (fun g2=>?_) (fun g2=>?_)
   ·refine am.seq fun _ fe=>.region<|.q Z (ah Z)<|.q Z (ah Z) ?_;obtain ⟨ch,iD,hK,g3,hz,b7,dw,f4,j3,g0,j2,fM⟩:=ac.at1 (x:=(((((dy N)).getD ((Q1.getD i 0).toNat) [])).getD j 0).toNat) Oi;rw [bJ] at dw;refine Ops.q Z (ax lS mc Z b7 (iQ O) (by rw [dw];omega))<|.l Z (fun _ _ e1 _=>aQ (off:=(((((dy N)).getD ((Q1.getD i 0).toNat) [])).getD j 0).toNat) (c':=g3.set ((((((dy N)).getD ((Q1.getD i 0).toNat) [])).getD j 0).toNat) (.bool (true))) cc rfl (by simp) rfl rfl mc f4 (by show ((((((dy N)).getD ((Q1.getD i 0).toNat) [])).getD j 0).toNat) + 1<=_;omega) rfl rfl fun A123 ad=>?_);have fi:=ad.keep _ _ (fun q=>a4 (by rw [b7];exact congrArg some q.symm)) a1;have dW:=aD.keep ad.keep (a2 ch (by rw [b7];rfl));have bP:=fM (.bool (true)) A123 ad;rw [lg] at bP;have bU:=an aR c3 (a9 ch (by rw [b7];rfl)) ad.n ad.keep;have c4:=an aS bu g0 ad.n ad.keep;refine e1 _ _<|.nil<|fe _ _<|.region<|.q Z (ah Z)<|.q Z (ah Z)<|.l Z (fun _ _ e2 _=>aN (c:=[num (((((dy N)).getD ((Q1.getD i 0).toNat) [])).getD j 0)]) ad.wf rfl (aw ep c5 z3 rfl U U rfl) fun A132 hJ a0=>?_);have g7:=aU c3 (Nat.le_trans bU.n a0.lo);have g8:=Nat.le_trans c4.n a0.lo;have cV:=a0.le.get _ _ fi;have bR:=bP.le a0.le;have bS:=dW.le a0.le;have c7:=c4.trans a0.le;have bV:=bU.trans a0.le;refine e2 _ _<|.l Z (fun _ _ e3 _=>cF (ys:=[num (((((dy N)).getD ((Q1.getD i 0).toNat) [])).getD j 0)]) rfl rfl ep c5 mZ z3 rfl U ep (fun _ h=>by cases h) bS.own (bN (n:=1) a0.get Z) rfl rfl (by show (_ + _) * 8<=_;simp only [aE,List.length_cons,List.length_nil];(try simp only [List.length_append,List.length_cons,List.length_nil]);omega) O2 fun A142 g5 a7=>?_);rw [show ([num (((((dy N)).getD ((Q1.getD i 0).toNat) [])).getD j 0)]:List Value)=cO [((((dy N)).getD ((Q1.getD i 0).toNat) [])).getD j 0] from rfl,dA] at a7;obtain ⟨dZ,e5⟩:=Fresh.grow bS c7 bu a7;have fl:=a7.keep a3 cV;have e7:=a7.ne a3 a0.wf cV;have ea:=bq.appd (show bq aC ar from (bq.symm a2)) bR.own a0.wf a7;have e0:=bR.appd a7 (bq.symm a2);have e6:=Mp bA a7 (Nat.le_trans h6 c7.n);have e4:=F8 bV c3 a7 a8;have e9:=Ga bV c3 a7 a8;refine e3 _ _<|.q Z (ae Z)<|.nil<|cS _ _<|.region<|.q Z (bE (b:=1) Z Z O)<|.q Z (ah Z)<|.nil ?_;exact ⟨⟨j + 1,aY.set ((((((dy N)).getD ((Q1.getD i 0).toNat) [])).getD j 0).toNat) true,Q2 ++ [((((dy N)).getD ((Q1.getD i 0).toNat) [])).getD j 0],ar,g5⟩,yC Z Z Z Z Z Z Z Z,Z,⟨⟨by omega,by first | exact hlj.new O ‹_› | exact hlj.old O ‹_›⟩,e5,e0,dZ,fl,a4,e7,(bq.symm ea),e4,a9,e9,⟨bB,e6⟩⟩,O1⟩
   refine am.skip<|cS _ _<|.region<|.q Z (bE (b:=1) Z Z O)<|.q Z (ah Z)<|.nil ?_;exact ⟨⟨j + 1,aY,Q2,ar,aC⟩,yC Z Z Z Z Z Z Z Z,Z,⟨⟨by omega,by first | exact hlj.new O ‹_› | exact hlj.old O ‹_›⟩,aS,ac,aD,a1,a4,a3,a2,aR,a9,a8,⟨bB,bA⟩⟩,O1⟩
  refine am.exit<|h0 _ _<|.region<|.q Z (ah Z)<|.q Z (bE (b:=1) Z Z O)<|.q Z (ae Z)<|.nil ?_;have d1:=hclo _ _ _ ex cc aR.n (fun b o hb h=>aR.get b o (bQ h (jr.nm bp bm hb)));have d3:=cx.keep b8 aS gZ a1;have dL:=jr.next bp bm gZ lZ a1 a9 bB;have dK:=jr.next bp bm gZ lZ a1 a8 bA;exact ⟨⟨i + 1,aY,Q2,ar,aC⟩,pZ Z Z Z Z Z,Z,⟨zB.next hlj O,aS,ac,aD,a2,⟨d1,d3,dL,dK⟩⟩,O1⟩
 refine am.exit ?_;repeat first | with_reducible refine bz ?_ | with_reducible refine bi ?_
 repeat first | with_reducible refine fb ?_ | with_reducible refine eo ?_ | with_reducible refine dY U ?_ | with_reducible refine d4 ?_ | with_reducible refine dn ?_
 exact xQ (vs:=[]) Z (⟨by rw [<- (hlv.end O).2];exact d0,bD,d2.mono (aT.trans b6) hP.wf⟩)
end Go.Proofs.YtjppkekmddjcfaaGreatDoor

namespace Go.Proofs.YtjppkekmddjcfaaGreatDoor
open Go Go.RowKit V
abbrev jf (p:Bool × Bool):Value:=.agg #[.bool p.1,.bool p.2]
section
variable {P:Program} {w:World} {kt bt:TypeId} {p q:Bool × Bool}
structure KG (P:Program) (kt bt:TypeId):Prop where
  arr:P.underlying kt=some (.array 2 bt)
  bool:P.underlying bt=some .bool
  sz:dp P bt=some 1
  ag:dx P bt=some false
theorem EK (h:KG P kt bt):(part bt #[.bool p.1,.bool p.2] 0).run P w=.ok (.bool p.1) w:=nf (by rw [pt,h.ag];rfl)
theorem EM (h:KG P kt bt):(part bt #[.bool p.1,.bool p.2] 1).run P w=.ok (.bool p.2) w:=nf (by rw [pt,h.ag];rfl)
theorem vT (h:KG P kt bt) (b:Bool):(Instr.checkKey b 10000 kt (jf p)).run P w=.ok () w:=by
  have e:Instr.checkKey b 10000 kt (jf p)=Instr.checkKey b (9998 + 1 + 1) kt (jf p):=rfl
  rw [e]
  generalize 9998=d
  have hb:∀ v,(Instr.checkKey b (d + 1) bt (.bool v)).run P w=.ok () w:=fun v=>by
    unfold Instr.checkKey
    simp only [Sem.run_bind,ce h.bool,Result.andThen_ok];rfl
  rw [Instr.checkKey]
  simp [Sem.run_bind,ce h.arr,Result.andThen_ok,Std.Legacy.Range.forIn_eq_forIn_range',List.range',eb h.sz,hb]
  rw [EK h];simp [hb]
  rw [EM h];simp [hb]
theorem Eh (h:KG P kt bt):(Op.equal kt (jf p) (jf q)).run P w=.ok (decide (p=q)) w:=by
  have e:Op.equal kt (jf p) (jf q)=Op.equalIn (9998 + 1 + 1) kt (jf p) (jf q):=rfl
  rw [e]
  generalize 9998=d
  have hb:∀ u v,(Op.equalIn (d + 1) bt (.bool u) (.bool v)).run P w=.ok (u == v) w:=fun u v=>by
    simp only [Op.equalIn,Sem.run_bind,ce h.bool,Result.andThen_ok];rfl
  rw [Op.equalIn]
  simp [Sem.run_bind,ce h.arr,Result.andThen_ok,Std.Legacy.Range.forIn_eq_forIn_range',List.range',eb h.sz,hb]
  rw [EK h];simp
  rw [EK h];simp [hb]
  obtain ⟨p1,p2⟩:=p
  obtain ⟨q1,q2⟩:=q
  by_cases h1:p1=q1
  · subst h1
    simp
    rw [EM (p:=(p1,p2)) h];simp
    rw [EM (p:=(p1,q2)) h];simp [hb]
    by_cases h2:p2=q2
    · subst h2;simp
    · simp [h2]
  · simp [h1]
theorem Nr (h:KG P kt bt) (k:Bool × Bool):∀ (l:List MapEntry) (E:List ((Bool × Bool) × Value)) (n:Nat),l.map (fun x=>(x.key,x.val))=E.map (fun p=>(jf p.1,p.2)) ->
    ∃ r,(Instr.findAsking kt (jf k) l n).run P w=.ok r w/\r.map (·.2)=lk E k:=by
  intro l
  induction l with
  | nil =>
    intro E n hE
    cases E with
    | nil=>exact ⟨none,Z,Z⟩
    | cons p E=>cases hE
  | cons x l ih =>
    intro E n hE
    cases E with
    | nil=>cases hE
    | cons p E =>
      simp only [List.map_cons,List.cons.injEq,Prod.mk.injEq] at hE
      obtain ⟨⟨h1,h2⟩,h3⟩:=hE
      rw [Instr.findAsking]
      simp only [Sem.run_bind,h1,Eh h,Result.andThen_ok]
      by_cases q:k=p.1
      · rw [decide_eq_true q]
        exact ⟨some (n,x.val),Z,by simp [lk,q,h2]⟩
      · rw [decide_eq_false q]
        obtain ⟨r,g1,g2⟩:=ih E (n + 1) h3
        exact ⟨r,g1,by rw [g2];simp [lk,show ¬ p.1=k from fun e=>q e.symm]⟩
theorem xX (h:KG P kt bt) (k:Bool × Bool) {es:Array MapEntry} {E:List ((Bool × Bool) × Value)} (hE:du jf es E):∃ r,(Instr.findKey kt (jf k) es.toList).run P w=.ok r w/\r.map (·.2)=lk E k:=by
  obtain ⟨r,g1,g2⟩:=Nr (w:=w) h k es.toList E 0 hE
  unfold Instr.findKey
  simp only [Sem.run_bind,ce h.arr,Result.andThen_ok]
  cases hl:es.toList with
  | nil =>
    refine ⟨none,Z,?_⟩
    have hE':es.toList.map (fun x=>(x.key,x.val))=E.map fun p=>(jf p.1,p.2):=hE
    rw [hl] at hE'
    cases E with
    | nil=>rfl
    | cons p E=>cases hE'
  | cons x l =>
    rw [hl] at g1
    refine ⟨r,?_,g2⟩
    have:Instr.findNow (.array 2 bt) (jf k) (x :: l) 0=none:=by
      unfold Instr.findNow
      have:Instr.sameNow (.array 2 bt) (jf k) x.key=none:=by unfold Instr.sameNow;rfl
      rw [this]
    rw [this];exact g1
end
section
variable {P:Program} {nt:Nat} {all:Array Oper} {os:List Oper} {Q:Exit->Fr->AH->Prop} {e:gx} {ds:List Deferred} {A:AH} {x y z:Operand} {t kt et bt:TypeId} {ty:TypeId} {ps:String} {af:Array Edge} {dst:Option Nat} {m clock:Nat} {es:Array MapEntry} {rw:Bool} {E:List ((Bool × Bool) × Value)} {k:Bool × Bool} {v zv:Value}
theorem V.Ops.look2 (hd:gj nt dst=true) (hx:bX e x=some (.map (some m))) (hy:bX e y=some (jf k)) (hu:P.underlying t=some (.map kt et)) (hk:KG P kt bt) (hz:cD P et=some zv) (hg:A.get m=some (.obj rw (.map es clock))) (hE:du jf es E)
    (h1:∀ v,lk E k=some v->Ops P nt all os Q ⟨fx e dst (.tuple #[v,.bool true]),ds⟩ A) (h2:lk E k=none->Ops P nt all os Q ⟨fx e dst (.tuple #[zv,.bool false]),ds⟩ A) :
    Ops P nt all ({ dst:=dst,op:=.lookup t x y true,type:=ty,pos:=ps,after:=af,guard:=none } :: os) Q ⟨e,ds⟩ A:=by
  have key:∀ (u:Value × Bool),u=(match lk E k with | some v=>(v,true) | none=>(zv,false))->∀ a:Act,cW nt ⟨e,ds⟩ a->∀ w,cu A w->(execOp a.eval { dst:=dst,op:=.lookup t x y true,type:=ty,pos:=ps,after:=af,guard:=none }).run P w=.ok (.value (.tuple #[u.1,.bool u.2])) w:=by
    rintro u rfl a ha w hw
    have g1:=cL ha hx
    have g2:=cL ha hy
    obtain ⟨o1,o2⟩:=hw.obj hg
    obtain ⟨r,f1,f2⟩:=xX (w:=w) hk k hE
    simp only [execOp,g1,g2,Instr.lookup,Sem.run_bind,ce hu,Result.andThen_ok,dr o1 o2,Sem.run_pure,vT hk,f1]
    cases r with
    | none =>
      simp only [Option.map_none] at f2
      rw [<- f2]
      simp only [Sem.run_bind,gU hz,Result.andThen_ok,Sem.run_pure,if_true]
    | some r =>
      simp only [Option.map_some] at f2
      rw [<- f2]
      simp only [Sem.run_bind,Result.andThen_ok,Sem.run_pure,if_true]
  cases hl:lk E k with
  | none=>exact Ops.val Z hd (key (zv,false) (by rw [hl])) (h2 hl)
  | some v=>exact Ops.val Z hd (key (v,true) (by rw [hl])) (h1 v hl)
theorem V.Ops.skipW {o:Oper} {A':AH} (hg:o.guard=none) (hd:gj nt o.dst=true) (hr:∀ a:Act,cW nt ⟨e,ds⟩ a->∀ w,cu A w->∃ w',(execOp a.eval o).run P w=.ok .skip w'/\cu A' w'/\eJ A w A' w') (h:Ops P nt all os Q ⟨fx e o.dst undef,ds⟩ A') :
    Ops P nt all (o :: os) Q ⟨e,ds⟩ A:=by
  intro a w ha hw A₀ w₀ hs
  unfold wpList
  rw [if_pos (by simp [Region.wanted,hg])]
  left
  unfold Oper.wp
  obtain ⟨w',r,v1,s1⟩:=hr a ha w hw
  rw [r]
  exact h _ w' (ha.put o.dst undef (cN hd)) v1 A₀ w₀ (hs.trans s1)
theorem V.Ops.new2 (hd:gj nt dst=true) (wf:A.wf) (hx:bX e x=some (.map (some m))) (hy:bX e y=some (jf k)) (hz:bX e z=some v) (hu:P.underlying t=some (.map kt et)) (hk:KG P kt bt) (hg:A.get m=some (.obj true (.map es clock))) (hE:du jf es E) (hn:lk E k=none)
    (h:∀ A1 es1 ck,ug A A1 m (.obj true (.map es1 ck))->du jf es1 (E ++ [(k,v)])->Ops P nt all os Q ⟨fx e dst undef,ds⟩ A1) :
    Ops P nt all ({ dst:=dst,op:=.mapUpdate t x y z,type:=ty,pos:=ps,after:=af,guard:=none } :: os) Q ⟨e,ds⟩ A:=by
  refine Ops.skipW (A':=A.set m (.obj true (.map (es.push { key:=jf k,val:=v,born:=clock }) (clock + 1)))) Z hd (fun a ha w hw=>?_) (h _ _ _ (OA wf hg _) (hE.push k v clock))
  have g1:=cL ha hx
  have g2:=cL ha hy
  have g3:=cL ha hz
  obtain ⟨o1,o2⟩:=hw.obj hg
  obtain ⟨r,f1,f2⟩:=xX (w:=w) hk k hE
  rw [hn] at f2
  obtain rfl:r=none:=by cases r with | none=>rfl | some r=>cases f2
  obtain ⟨w',r,v1,s1⟩:=jq (P:=P) hw hg (y:=.map (es.push { key:=jf k,val:=v,born:=clock }) (clock + 1)) (fun _ _ _ q=>by cases q)
  refine ⟨w',?_,v1,s1⟩
  simp only [execOp,g1,g2,g3,Sem.run_bind,Instr.mapUpdate,ce hu,Result.andThen_ok,dr o1 o2,vT hk,f1,r]
  rfl
end
end Go.Proofs.YtjppkekmddjcfaaGreatDoor

namespace Go.Proofs.YtjppkekmddjcfaaGreatDoor
open Go Go.RowKit V
section
variable {K:Type} [DecidableEq K]
def m8 (Q:List K):List (K × Value):=Q.zipIdx.map fun p=>(p.1,num ((p.2:Nat):Int))
theorem tl (Q:List K):(m8 Q).map (·.1)=Q:=by
  simp [m8,List.map_map,Function.comp_def]
theorem xL (Q:List K) (t:K):m8 (Q ++ [t])=m8 Q ++ [(t,num ((Q.length:Nat):Int))]:=by simp [m8,List.zipIdx_append]
theorem Bz (Q:List K):(m8 Q).length=Q.length:=by simp [m8]
theorem zb {Q:List K} {t:K} (h:t ∉ Q):lk (m8 Q) t=none:=yU.2 (by rw [tl];exact h)
theorem Mo:∀ (Q:List K) (n:Nat) (t:K),t ∈ Q->lk ((Q.zipIdx n).map fun p=>(p.1,num ((p.2:Nat):Int))) t=some (num (((n + Q.idxOf t:Nat)):Int)):=by
  intro Q
  induction Q with
  | nil=>intro n t h;cases h
  | cons a Q ih =>
    intro n t h
    by_cases q:a=t
    · subst q;simp [lk]
    · have h2:t ∈ Q:=by rcases List.mem_cons.1 h with z | z;exact absurd z.symm q;exact z
      have:=ih (n + 1) t h2
      simp only [List.zipIdx_cons,List.map_cons]
      rw [List.idxOf_cons,beq_eq_false_iff_ne.2 q,cond_false]
      simp only [lk,List.find?_cons,decide_eq_false q] at this ⊢
      rw [this]
      congr 3;omega
theorem uJ {Q:List K} {t:K} (h:t ∈ Q):lk (m8 Q) t=some (num ((Q.idxOf t:Nat):Int)):=by
  have:=Mo Q 0 t h
  rwa [Nat.zero_add] at this
theorem MO {Q:List K} {t:K} (h:t ∉ Q):yi (m8 Q) t (num ((Q.length:Nat):Int))=m8 (Q ++ [t]):=by
  rw [uO (by rw [tl];exact h),xL]
def nZ (st:List Int × List K) (x:K):List Int × List K:=if x ∈ st.2 then (st.1 ++ [(st.2.idxOf x:Int)],st.2) else (st.1 ++ [(st.2.length:Int)],st.2 ++ [x])
def cf (l:List K):List Int × List K:=l.foldl nZ ([],[])
theorem qi (l:List K) (x:K):cf (l ++ [x])=nZ (cf l) x:=by simp [cf]
theorem gt (l:List K):(cf l).2.Nodup/\(∀ x,x ∈ (cf l).2 ↔ x ∈ l)/\(cf l).1=l.map (fun x=>((cf l).2.idxOf x:Int)):=by
  suffices h:∀ (l m:List K),cf m=(m.map (fun x=>((cf m).2.idxOf x:Int)),(cf m).2)->(cf m).2.Nodup->(∀ x,x ∈ (cf m).2 ↔ x ∈ m) ->
      (cf (m ++ l)).2.Nodup/\(∀ x,x ∈ (cf (m ++ l)).2 ↔ x ∈ m ++ l)/\(cf (m ++ l)).1=(m ++ l).map (fun x=>((cf (m ++ l)).2.idxOf x:Int)) by
    have:=h l [] Z List.nodup_nil (fun x=>Iff.rfl)
    simpa using this
  intro l
  induction l with
  | nil=>intro m h1 h2 h3;rw [List.append_nil];exact ⟨h2,h3,congrArg (·.1) h1⟩
  | cons a l ih =>
    intro m h1 h2 h3
    have e:m ++ a :: l=(m ++ [a]) ++ l:=by simp
    rw [e]
    have es:cf (m ++ [a])=nZ (cf m) a:=qi m a
    by_cases q:a ∈ (cf m).2
    · have e2:nZ (cf m) a=((cf m).1 ++ [((cf m).2.idxOf a:Int)],(cf m).2):=if_pos q
      refine ih (m ++ [a]) ?_ ?_ ?_
      · rw [es,e2];simp only [List.map_append,List.map_cons,List.map_nil]
        rw [show (cf m).1=m.map (fun x=>((cf m).2.idxOf x:Int)) from congrArg (·.1) h1]
      · rw [es,e2];exact h2
      · intro x;rw [es,e2,List.mem_append,List.mem_singleton]
        show x ∈ (cf m).2 ↔ _
        rw [h3 x]
        exact ⟨.inl,fun z=>z.elim id fun z=>by subst z;exact (h3 x).1 q⟩
    · have e2:nZ (cf m) a=((cf m).1 ++ [((cf m).2.length:Int)],(cf m).2 ++ [a]):=if_neg q
      refine ih (m ++ [a]) ?_ ?_ ?_
      · rw [es,e2];simp only [List.map_append,List.map_cons,List.map_nil]
        have hm:(cf m).1=m.map (fun x=>((cf m).2.idxOf x:Int)):=congrArg (·.1) h1
        congr 1
        rw [hm]
        congr 1
        · apply List.map_congr_left
          intro x hx
          rw [List.idxOf_append,if_pos ((h3 x).2 hx)]
        · rw [List.idxOf_append,if_neg q];simp
      · rw [es,e2];exact List.nodup_append.2 ⟨h2,by simp,by intro x hx y hy;simp at hy;subst hy;exact fun z=>q (z ▸ hx)⟩
      · intro x;rw [es,e2,List.mem_append,List.mem_append,List.mem_singleton]
        show _\/_ ↔ _
        rw [h3 x]
theorem My (l:List K):(cf l).1.length=l.length:=by rw [(gt l).2.2];simp
theorem vD {l:List K} {n:Nat} (h1:l.Nodup) (f:K->Nat) (hf:∀ a ∈ l,∀ b ∈ l,f a=f b->a=b) (hb:∀ a ∈ l,f a < n):l.length<=n:=by
  have:=qh (l:=l.map f) (n:=n) ?_ ?_
  · simpa using this
  · rw [List.nodup_iff_pairwise_ne,List.pairwise_map]
    exact List.Pairwise.imp_of_mem (fun {a c} ha hc hac e=>hac (hf a ha c hc e)) h1
  · intro x hx
    obtain ⟨a,ha,rfl⟩:=List.mem_map.1 hx
    exact hb a ha
theorem Qw (l:List K):(cf l).2.length<=l.length :=
  vD (gt l).1 (fun a=>l.idxOf a) (fun a ha b hb e=>by
    have h1:=((gt l).2.1 a).1 ha
    have h2:=((gt l).2.1 b).1 hb
    have e1:=List.getElem_idxOf (List.idxOf_lt_length_iff.2 h1)
    have e2:=List.getElem_idxOf (List.idxOf_lt_length_iff.2 h2)
    rw [<- e1,<- e2];congr 1) fun a ha=>List.idxOf_lt_length_iff.2 (((gt l).2.1 a).1 ha)
theorem rZ (l:List K) {i:Nat} {d:K} (hi:i < l.length):(cf l).1.getD i 0=((cf l).2.idxOf (l.getD i d):Int)/\l.getD i d ∈ (cf l).2:=by
  refine ⟨?_,((gt l).2.1 _).2 (bw hi)⟩
  rw [(gt l).2.2]
  simp [List.getD_eq_getElem?_getD,hi]
theorem Mz (l:List K):∀ c ∈ (cf l).1,0<=c/\c < (cf l).2.length:=fun c hc=>by
  rw [(gt l).2.2] at hc
  obtain ⟨x,hx,rfl⟩:=List.mem_map.1 hc
  have:=List.idxOf_lt_length_iff.2 (((gt l).2.1 x).2 hx)
  omega
theorem yZ (l:List K) {i j:Nat} {d:K} (hi:i < l.length) (hj:j < l.length):(cf l).1.getD i 0=(cf l).1.getD j 0 ↔ l.getD i d=l.getD j d:=by
  have h1:=rZ l (d:=d) hi
  have h2:=rZ l (d:=d) hj
  rw [h1.1,h2.1]
  constructor
  · intro h
    have e1:=List.getElem_idxOf (List.idxOf_lt_length_iff.2 h1.2)
    have e2:=List.getElem_idxOf (List.idxOf_lt_length_iff.2 h2.2)
    rw [<- e1,<- e2];congr 1;omega
  · intro h;rw [h]
end
theorem DU {K L:Type} [DecidableEq K] [DecidableEq L] (l:List K) (m:List L) (d:K) (d2:L) (hl:l.length=m.length) (h:∀ i j,i < m.length->j < m.length->m.getD i d2=m.getD j d2->l.getD i d=l.getD j d):(cf l).2.length<=(cf m).2.length :=
  vD (gt l).1 (fun a=>(cf m).2.idxOf (m.getD (l.idxOf a) d2)) (fun a ha b hb e=>by
    have h1:=List.idxOf_lt_length_iff.2 (((gt l).2.1 a).1 ha)
    have h2:=List.idxOf_lt_length_iff.2 (((gt l).2.1 b).1 hb)
    have m1:=rZ m (d:=d2) (i:=l.idxOf a) O
    have m2:=rZ m (d:=d2) (i:=l.idxOf b) O
    have e1:=List.getElem_idxOf h1
    have e2:=List.getElem_idxOf h2
    have:=h _ _ O O ((yZ m (d:=d2) (i:=l.idxOf a) (j:=l.idxOf b) O O).1 (by rw [m1.1,m2.1];exact congrArg Int.ofNat e))
    rw [gd h1,gd h2] at this
    rw [<- e1,<- e2];exact this) fun a ha=>by
    have h1:=List.idxOf_lt_length_iff.2 (((gt l).2.1 a).1 ha)
    exact List.idxOf_lt_length_iff.2 (rZ m (d:=d2) (i:=l.idxOf a) O).2
def mg (n:Nat) (key:List Int->Nat->Wd):Nat->Nat->List Int->List Int
  | 0,_,cls=>cls
  | f + 1,count,cls=>if (cf ((List.range n).map (key cls))).2.length=count then (cf ((List.range n).map (key cls))).1 else mg n key f (cf ((List.range n).map (key cls))).2.length (cf ((List.range n).map (key cls))).1
def zW (n:Nat) (st:Nat->Bool × Bool) (key:List Int->Nat->Wd):List Int:=mg n key (n + 2) (cf ((List.range n).map st)).2.length (cf ((List.range n).map st)).1
def kS (lv:List Bool) (m:Int):Bool:=decide (0<=m) && lv.getD m.toNat false
def vw (lv:List Bool) (cls:List Int) (m:Int):Wd:=32 :: (if kS lv m then ip (cls.getD m.toNat 0).toNat else [])
def oH (lv:List Bool) (N:List (List Int)) (cls:List Int) (i:Nat):Wd:=if lv.getD i false then ip (cls.getD i 0).toNat ++ (N.getD i []).flatMap (vw lv cls) else [45]
def TE (acc lv:List Bool) (i:Nat):Bool × Bool:=(lv.getD i false,acc.getD i false)
def yy (acc lv:List Bool) (N:List (List Int)):List Int:=zW N.length (TE acc lv) (oH lv N)
def jC (cls:List Int) (c:Int):Nat:=cls.idxOf c
def jF (lv:List Bool) (N:List (List Int)) (cls:List Int) (c:Int) (x:Nat):Option Int :=
  if kS lv (ie N (jC cls c) x) then some (cls.getD (ie N (jC cls c) x).toNat 0) else none
def Dc (k:Nat) (acc:List Bool) (N:List (List Int)):List Int × List (List Int):=fU k (jF (iZ acc N) N (yy acc (iZ acc N) N)) (N.length + 1) 0 [(yy acc (iZ acc N) N).getD 0 0] []
def yw (k:Nat) (acc:List Bool) (N:List (List Int)):List Bool × List (List Int) :=
  if (iZ acc N).getD 0 false then ((Dc k acc N).1.map fun c=>acc.getD (jC (yy acc (iZ acc N) N) c) false,(Dc k acc N).2) else ([],[])
def Py (k:Nat) (acc:List Bool) (L:List (List Int)):List Bool × List (List Int):=yw k (wv k acc L) (gW k L).2
end Go.Proofs.YtjppkekmddjcfaaGreatDoor

namespace Go.Proofs.YtjppkekmddjcfaaGreatDoor
open Go Go.RowKit V
section
variable {K:Type} [DecidableEq K]
def iL (Q:List K) (k:K):Nat:=if k ∈ Q then Q.idxOf k else Q.length
def jA (Q:List K) (k:K):List K:=if k ∈ Q then Q else Q ++ [k]
theorem Bn {Q:List K} {k:K} (h:k ∈ Q):iL Q k=Q.idxOf k:=if_pos h
theorem Bq {Q:List K} {k:K} (h:k ∉ Q):iL Q k=Q.length:=if_neg h
theorem xB {Q:List K} {k:K} (h:k ∈ Q):jA Q k=Q:=if_pos h
theorem xC {Q:List K} {k:K} (h:k ∉ Q):jA Q k=Q ++ [k]:=if_neg h
end
section
variable {α:Type} [DecidableEq α] {enc:α->Value} {P:Program} {e:gx} {A:AH} {x:Operand} {t kt et:TypeId} {ty:TypeId} {ps:String} {af:Array Edge} {dst:Option Nat} {K:Value->AH->Prop} {Kp:List PanicEntry->AH->Prop} {g:Option (Nat × Bool)} {m clock:Nat} {es:Array MapEntry} {rw:Bool} {Q:List α}
theorem sx (hx:bX e x=some (.map (some m))) (hu:P.underlying t=some (.map kt et)) (hg:A.get m=some (.obj rw (.map es clock))) (hE:du enc es (m8 Q)) (h:K (num ((Q.length:Nat):Int)) A) :
    kO P e A { dst:=dst,op:=.call { callee:=.builtin .len,args:=#[x],argTypes:=#[t] },type:=ty,pos:=ps,after:=af,guard:=g } K Kp:=by
  simp only [kO,u7,ju,hx]
  refine ⟨num ((Q.length:Nat):Int),?_,h⟩
  simp only [rP,hu,hg]
  rw [hE.size,Bz]
theorem O5 {kd:TypeDesc} {y:Operand} {k:α} (Ko:rA kd enc) (hx:bX e x=some (.map (some m))) (hy:bX e y=some (enc k)) (hu:P.underlying t=some (.map kt et)) (hk:P.underlying kt=some kd) (hz:cD P et=some (num 0)) (hg:A.get m=some (.obj rw (.map es clock))) (hE:du enc es (m8 Q))
    (h1:k ∈ Q->K (.tuple #[num ((iL Q k:Nat):Int),.bool true]) A) (h2:k ∉ Q->K (.tuple #[num 0,.bool false]) A):kO P e A { dst:=dst,op:=.lookup t x y true,type:=ty,pos:=ps,after:=af,guard:=g } K Kp:=by
  refine wx Ko hx hy hu hk hz hg hE (fun v hv=>?_) (fun hn=>?_)
  · by_cases q:k ∈ Q
    · rw [uJ q,<- Bn q] at hv;cases hv;exact h1 q
    · rw [zb q] at hv;cases hv
  · exact h2 fun q=>by rw [uJ q] at hn;cases hn
end
section
variable {P:Program} {nt:Nat} {all:Array Oper} {os:List Oper} {Q:Exit->Fr->AH->Prop} {e:gx} {ds:List Deferred} {A:AH} {x y z:Operand} {t kt et bt:TypeId} {ty:TypeId} {ps:String} {af:Array Edge} {dst:Option Nat} {m clock:Nat} {es:Array MapEntry} {rw:Bool} {L:List (Bool × Bool)} {k:Bool × Bool}
theorem V.Ops.look2G (hd:gj nt dst=true) (hx:bX e x=some (.map (some m))) (hy:bX e y=some (jf k)) (hu:P.underlying t=some (.map kt et)) (hk:KG P kt bt) (hz:cD P et=some (num 0)) (hg:A.get m=some (.obj rw (.map es clock))) (hE:du jf es (m8 L))
    (h1:k ∈ L->Ops P nt all os Q ⟨fx e dst (.tuple #[num ((iL L k:Nat):Int),.bool true]),ds⟩ A) (h2:k ∉ L->Ops P nt all os Q ⟨fx e dst (.tuple #[num 0,.bool false]),ds⟩ A) :
    Ops P nt all ({ dst:=dst,op:=.lookup t x y true,type:=ty,pos:=ps,after:=af,guard:=none } :: os) Q ⟨e,ds⟩ A:=by
  refine Ops.look2 hd hx hy hu hk hz hg hE (fun v hv=>?_) (fun hn=>?_)
  · by_cases q:k ∈ L
    · rw [uJ q,<- Bn q] at hv;cases hv;exact h1 q
    · rw [zb q] at hv;cases hv
  · exact h2 fun q=>by rw [uJ q] at hn;cases hn
theorem V.Ops.new2G (hd:gj nt dst=true) (wf:A.wf) (hx:bX e x=some (.map (some m))) (hy:bX e y=some (jf k)) (hz:bX e z=some (num ((L.length:Nat):Int))) (hu:P.underlying t=some (.map kt et)) (hk:KG P kt bt) (hg:A.get m=some (.obj true (.map es clock))) (hE:du jf es (m8 L)) (hn:k ∉ L)
    (h:∀ A1 D ck,ug A A1 m (.obj true (.map D ck))->du jf D (m8 (L ++ [k]))->Ops P nt all os Q ⟨fx e dst undef,ds⟩ A1) :
    Ops P nt all ({ dst:=dst,op:=.mapUpdate t x y z,type:=ty,pos:=ps,after:=af,guard:=none } :: os) Q ⟨e,ds⟩ A :=
  Ops.new2 hd wf hx hy hz hu hk hg hE (zb hn) fun A1 D ck sb me=>h A1 D ck sb (by rw [xL];exact me)
end
section
variable {K:Type} [DecidableEq K]
theorem yP {Q:List K} {k:K} (h:Q.Nodup):(jA Q k).Nodup:=by
  unfold jA;split
  · exact h
  · rename_i q;exact List.nodup_append.2 ⟨h,by simp,by intro a ha b hb;simp at hb;subst hb;exact fun e=>q (e ▸ ha)⟩
theorem ri (st:List Int × List K) (x:K):nZ st x=(st.1 ++ [(iL st.2 x:Int)],jA st.2 x):=by
  unfold nZ iL jA;split <;> rfl
structure np (n:Nat) (f:Nat->K) (i:Nat) (o:List Int) (Q:List K):Prop where
  run:∃ r,cf ((List.range i).map f)=(r,Q)/\r.length=i/\o=r ++ List.replicate (n - i) 0
  nd:Q.Nodup
  le:Q.length<=i
variable {n i:Nat} {f:Nat->K} {o:List Int} {Q:List K}
theorem np.start:np n f 0 (List.replicate n 0) []:=⟨⟨[],rfl,rfl,by simp⟩,List.nodup_nil,Nat.le_refl _⟩
theorem np.len (h:np n f i o Q) (hi:i<=n):o.length=n:=by obtain ⟨r,_,h2,h3⟩:=h.run;rw [h3];simp;omega
theorem np.next (h:np n f i o Q) (hi:i < n):np n f (i + 1) (o.set i (iL Q (f i):Int)) (jA Q (f i)):=by
  obtain ⟨r,h1,h2,h3⟩:=h.run
  refine ⟨⟨r ++ [(iL Q (f i):Int)],?_,by simp [h2],?_⟩,yP h.nd,?_⟩
  · rw [List.range_succ,List.map_append,List.map_cons,List.map_nil,qi,h1,ri]
  · rw [h3,<- h2];exact yF O
  · have:=h.le;unfold jA;split
    · omega
    · simp;omega
theorem np.old (h:np n f i o Q) (hi:i < n) (q:f i ∈ Q):np n f (i + 1) (o.set i (iL Q (f i):Int)) Q:=by
  have:=h.next hi;rwa [xB q] at this
theorem np.new (h:np n f i o Q) (hi:i < n) (q:f i ∉ Q):np n f (i + 1) (o.set i (Q.length:Int)) (Q ++ [f i]):=by
  have:=h.next hi;rwa [Bq q,xC q] at this
theorem np.fin (h:np n f i o Q) (hi:i=n):cf ((List.range n).map f)=(o,Q):=by
  subst hi
  obtain ⟨r,h1,h2,h3⟩:=h.run
  rw [h1,h3];simp
end
structure rz (n:Nat) (st:Nat->Bool × Bool) (key:List Int->Nat->Wd) (count:Nat) (cls:List Int):Prop where
  len:cls.length=n
  rng:∀ c ∈ cls,0<=c/\c < n
  dis:∃ l:List Int,l.length=n/\cf l=(cls,(cf l).2)/\(cf l).2.length=count
  cnt:count<=n
  fin:∃ f,n + 2<=f + count/\mg n key f count cls=zW n st key
theorem Jl {K:Type} [DecidableEq K] (l:List K):(cf (cf l).1).2.length=(cf l).2.length/\(cf (cf l).1).1=(cf l).1:=by
  suffices h:∀ (m:List K),(cf (cf m).1).2=(List.range (cf m).2.length).map (fun (i:Nat)=>(i:Int))/\(cf (cf m).1).1=(cf m).1 by
    have:=h l;exact ⟨by rw [this.1];simp,this.2⟩
  suffices h:∀ (l m:List K),((cf (cf m).1).2=(List.range (cf m).2.length).map (fun (i:Nat)=>(i:Int))/\(cf (cf m).1).1=(cf m).1)->((cf (cf (m ++ l)).1).2=(List.range (cf (m ++ l)).2.length).map (fun (i:Nat)=>(i:Int))/\(cf (cf (m ++ l)).1).1=(cf (m ++ l)).1) by
    intro m;have:=h m [] ⟨rfl,rfl⟩;simpa using this
  intro l
  induction l with
  | nil=>intro m h;rw [List.append_nil];exact h
  | cons a l ih =>
    intro m h
    rw [show m ++ a :: l=(m ++ [a]) ++ l by simp]
    refine ih _ ?_
    rw [qi,ri]
    show (cf ((cf m).1 ++ [_])).2=_/\(cf ((cf m).1 ++ [_])).1=_
    rw [qi,ri]
    simp only
    rw [h.1,h.2]
    by_cases q:a ∈ (cf m).2
    · have hi:=List.idxOf_lt_length_iff.2 q
      have hm:((cf m).2.idxOf a:Int) ∈ (List.range (cf m).2.length).map (fun (i:Nat)=>(i:Int)):=List.mem_map.2 ⟨_,List.mem_range.2 hi,rfl⟩
      have e1:iL (cf m).2 a=(cf m).2.idxOf a:=if_pos q
      have e2:jA (cf m).2 a=(cf m).2:=if_pos q
      have e3:jA ((List.range (cf m).2.length).map (fun (i:Nat)=>(i:Int))) ((cf m).2.idxOf a:Int)=(List.range (cf m).2.length).map (fun (i:Nat)=>(i:Int)):=if_pos hm
      have e4:iL ((List.range (cf m).2.length).map (fun (i:Nat)=>(i:Int))) ((cf m).2.idxOf a:Int)=(cf m).2.idxOf a:=by
        rw [iL,if_pos hm]
        have:=List.getElem_idxOf (List.idxOf_lt_length_iff.2 hm)
        simp only [List.getElem_map,List.getElem_range] at this
        omega
      rw [e1,e2,e3,e4];exact ⟨Z,Z⟩
    · have e1:iL (cf m).2 a=(cf m).2.length:=if_neg q
      have e2:jA (cf m).2 a=(cf m).2 ++ [a]:=if_neg q
      have hm:¬ ((cf m).2.length:Int) ∈ (List.range (cf m).2.length).map (fun (i:Nat)=>(i:Int)):=fun z=>by
        obtain ⟨i,h1,h2⟩:=List.mem_map.1 z
        have:=List.mem_range.1 h1;omega
      rw [e1,e2]
      have e3:jA ((List.range (cf m).2.length).map (fun (i:Nat)=>(i:Int))) ((cf m).2.length:Int)=(List.range (cf m).2.length).map (fun (i:Nat)=>(i:Int)) ++ [((cf m).2.length:Int)]:=if_neg hm
      have e4:iL ((List.range (cf m).2.length).map (fun (i:Nat)=>(i:Int))) ((cf m).2.length:Int)=(cf m).2.length:=by rw [iL,if_neg hm];simp
      rw [e3,e4]
      refine ⟨?_,Z⟩
      rw [List.length_append,List.length_singleton,List.range_succ,List.map_append];rfl
section
variable {n count:Nat} {st:Nat->Bool × Bool} {key:List Int->Nat->Wd} {cls o:List Int} {Q:List Wd} {Q2:List (Bool × Bool)}
theorem rz.of {K:Type} [DecidableEq K] {l:List K} {cls:List Int} {Q:List K} (hl:l.length=n) (h:cf l=(cls,Q)):cls.length=n/\(∀ c ∈ cls,0<=c/\c < (n:Int))/\(∃ l:List Int,l.length=n/\cf l=(cls,(cf l).2)/\(cf l).2.length=Q.length)/\Q.length<=n:=by
  have h1:=My l
  have h2:=Mz l
  have h3:=Qw l
  have h4:=Jl l
  rw [h] at h1 h2 h3 h4
  simp only at h1 h2 h3 h4
  exact ⟨by omega,fun c hc=>by have:=h2 c hc;omega,⟨cls,by omega,Prod.ext h4.2 rfl,h4.1⟩,by omega⟩
theorem rz.start (h:cf ((List.range n).map st)=(cls,Q2)):rz n st key Q2.length cls:=by
  obtain ⟨h1,h2,h3,h4⟩:=rz.of (n:=n) (by simp) h
  exact ⟨h1,h2,h3,h4,n + 2,by omega,by rw [zW,h]⟩
theorem rz.stop (h:rz n st key count cls) (e:cf ((List.range n).map (key cls))=(o,Q)) (hq:Q.length=count):o=zW n st key:=by
  obtain ⟨f,hf,g⟩:=h.fin
  have:=h.cnt
  obtain ⟨f,rfl⟩:∃ g,f=g + 1:=⟨f - 1,by omega⟩
  rw [mg,e] at g
  simp only at g
  rw [if_pos hq] at g;exact g
theorem rz.next (h:rz n st key count cls) (hinj:∀ i j,i < n->j < n->key cls i=key cls j->cls.getD i 0=cls.getD j 0) (e:cf ((List.range n).map (key cls))=(o,Q)) (hq:¬ Q.length=count):rz n st key Q.length o/\count < Q.length:=by
  obtain ⟨f,hf,g⟩:=h.fin
  have hc:=h.cnt
  obtain ⟨f,rfl⟩:∃ g,f=g + 1:=⟨f - 1,by omega⟩
  obtain ⟨h1,h2,h3,h4⟩:=rz.of (n:=n) (by simp) e
  have hle:count<=Q.length:=by
    obtain ⟨l,l1,l2,l3⟩:=h.dis
    have:=DU l ((List.range n).map (key cls)) 0 [] (by simp [l1]) fun i j hi hj q=>by
      rw [List.length_map,List.length_range] at hi hj
      have e1:∀ i,i < n->((List.range n).map (key cls)).getD i []=key cls i:=fun i hi=>by simp [List.getD_eq_getElem?_getD,hi]
      rw [e1 i hi,e1 j hj] at q
      have:=hinj i j hi hj q
      have e2:cls=(cf l).1:=by rw [l2]
      rw [e2] at this
      exact (yZ l (d:=(0:Int)) O O).1 this
    rw [l3,e] at this;exact this
  rw [mg,e] at g
  simp only at g
  rw [if_neg hq] at g
  exact ⟨⟨h1,h2,h3,h4,f,by omega,g⟩,by omega⟩
end
end Go.Proofs.YtjppkekmddjcfaaGreatDoor

namespace Go.Proofs.YtjppkekmddjcfaaGreatDoor
open Go Go.RowKit V
set_option maxRecDepth 100000
theorem KN:dx Tryz.prog 218=some true:=by kernel_rfl
theorem CG:dp Tryz.prog 218=some 2:=by kernel_rfl
theorem OO:type_of% @Tryz.underlying231:=@Tryz.underlying231
theorem RI:type_of% @Tryz.underlying233:=@Tryz.underlying233
theorem TP:cD Tryz.prog 218=some (.agg #[.bool false,.bool false]):=by kernel_rfl

theorem Od (b:Nat) (es:Array MapEntry) (ck:Nat) (Q:List Wd) (k:Wd) (A0 A:AH) (a0:A0.le A) (ac:A0.wf) (hb:A.get b=some (.obj true (.map es ck))) (ab:A0.get b=none) (hme:du aX es (m8 Q)) (hnd:Q.Nodup):bH Tryz.prog 201 #[.map (some b),aX (k)] A (fun v A1=>∃ es2 ck2,v=num ((iL Q k:Nat):Int)/\A0.le A1/\A1.wf/\A1.get b=some (.obj true (.map es2 ck2))/\du aX es2 (m8 (jA Q k))):=by
 refine jP Tryz.call201 Tryz.func201 Z Tryz.results201 Tryz.ntmps201 Z (fun wf=>?_);refine am.seq fun _ h2=>.region<|.q Z (ae Z)<|.nil<|h2 _ _<|.seq fun _ h4=>.region<|.q Z (ah Z)<|.q Z (ah Z)<|.l Z (fun _ _ X _=>O5 (Q:=Q) (k:=k) yO Z Z OO u9 z3 hb hme (fun aa=>?_) (fun D=>?_))
 ·refine X _ _<|.q Z (ah Z)<|.q Z (bh Z Z)<|.q Z (bh Z Z)<|.q Z (ae Z)<|.q Z (ae Z)<|.nil<|h4 _ _<|.seq fun _ h9=>.seq fun _ a4=>?_;refine am.region<|.q Z (ah Z)<|.q Z (eu Z)<|.nil<|a4 _ _<|.cond_false Z<|.skip<|h9 _ _<|.seq fun _ a5=>.region ?_;refine Ops.q Z (ah Z)<|.q Z (ae Z)<|.nil<|a5 _ _<|.rt (by exact aJ Z (⟨_,_,Z,a0,wf,hb,by rw [xB aa];exact hme⟩))
 refine X _ _<|.q Z (ah Z)<|.q Z (bh Z Z)<|.q Z (bh Z Z)<|.q Z (ae Z)<|.q Z (ae Z)<|.nil<|h4 _ _<|.seq fun _ a6=>.seq fun _ a7=>?_;refine am.region<|.q Z (ah Z)<|.q Z (eu Z)<|.nil<|a7 _ _<|.cond_true Z<|.seq fun _ a8=>.region<|.q Z (ah Z)<|.l Z (fun _ _ a1 _=>sx (Q:=Q) Z OO hb hme ?_);refine a1 _ _<|.q Z (ae Z)<|.nil<|a8 _ _<|.region<|.q Z (ah Z)<|.q Z (ah Z)<|.q Z (ah Z)<|.l Z (fun _ _ a2 _=>oh (k:=k) yO wf rfl rfl rfl OO u9 hb hme (by rw [tl];exact hnd) fun A22 ag ad h V=>?_);have a3:=an a0 ac ab h.n h.keep;rw [MO D] at V;refine a2 _ _<|.nil<|a6 _ _<|.seq fun _ a9=>.region<|.q Z (ah Z)<|.q Z (ae Z)<|.nil<|a9 _ _<|.rt (by exact aJ Z (⟨_,_,by rw [Bq D];rfl,a3,h.wf,h.get,by rw [xC D];exact V⟩))

theorem OL:KG Tryz.prog 218 4:=⟨Tryz.underlying218,Tryz.underlying4,by kernel_rfl,by kernel_rfl⟩

theorem JK (n g1 g2:Nat) (aB a8:Array Value) (sf:Nat->Bool × Bool) (key:List Int->Nat->Wd) (A:AH) (hn:n<=100000) (ea:∀ i B,i < n->A.le B->B.wf->bH Tryz.prog g1 (#[num ((i:Nat):Int)] ++ aB) B (fun v C=>v=jf (sf i)/\B.le C/\C.wf)) (ec:∀ (cls:List Int) (cv:Value) (i:Nat) B,bK B 1 cv (cO cls)->cls.length=n->(∀ c ∈ cls,0<=c/\c < (n:Int))->i < n->A.le B->B.wf->bH Tryz.prog g2 (#[cv,num ((i:Nat):Int)] ++ a8) B (fun v C=>v=aX (key cls i)/\B.le C/\C.wf)) (R:List Int->Prop) (fI:R (cf ((List.range n).map sf)).1) (fL:∀ cls:List Int,cls.length=n->R cls->R (cf ((List.range n).map (key cls))).1) (hinj:∀ cls:List Int,cls.length=n->(∀ c ∈ cls,0<=c/\c < (n:Int))->R cls->∀ i j,i < n->j < n->key cls i=key cls j->cls.getD i 0=cls.getD j 0):bH Tryz.prog 181 #[num ((n:Nat):Int),.func (.func g1) #[] aB,.func (.func g2) #[] a8] A (fun v A1=>A.le A1/\A1.wf/\Fresh A A1 v 1 (cO (zW n sf key))):=by
 refine wQ Tryz.call181 Tryz.func181 Z Tryz.results181 Tryz.ntmps181 Z (fun wf=>?_);have dm:=AH.le.refl A;refine am.seq fun _ h2=>.region<|.q Z (ae Z)<|.nil<|h2 _ _<|.seq fun _ h4=>.region<|.q Z (ae Z)<|.nil<|h4 _ _ ?_;refine am.seq fun _ h6=>.region<|.q Z (ah Z)<|.l Z (fun _ _ fM _=>mL (n:=n) (k:=n) wf dm rfl rfl ep c5 z3 mZ rfl (Nat.le_refl _) (by show 8 * _<=_;omega) O fun A9 b8 aZ aT=>?_);rw [iu] at aT;have bB:=dm.trans aZ.le;refine fM _ _<|.q Z (ae Z)<|.nil<|h6 _ _<|.seq fun _ f7=>.region<|.l Z (fun _ _ eg _=>nh aZ.wf fun A17 ba av=>?_);have eX:=aT.own.ne_new aZ.wf av.lo;have br:=aU wf (Nat.le_trans bB.n av.lo);have dI:=aT.le av.le;have eL:=bB.trans av.le;refine eg _ _<|.q Z (ae Z)<|.nil<|f7 _ _<|.seq fun _ f9=>.seq fun _ fd=>.region<|.q Z (ah Z)<|.q Z (ah Z)<|.nil ?_;refine fd _ _<|.block<|.loop (X:=Nat × List Int × List (Bool × Bool) × Array MapEntry × Nat × Value) (fun ⟨i,o,Q,es,ck,cv⟩=>[(0,num ((n:Nat):Int)),(1,.func (.func g1) #[] aB),(2,.func (.func g2) #[] a8),(7,.func (.func 201) #[] #[]),(8,cv),(9,.map (some ba)),(21,num ((n:Nat):Int)),(22,num ((i:Nat):Int))]) (fun ⟨i,o,Q,es,ck,cv⟩ B=>(i<=n/\np n sf i o Q/\du jf es (m8 Q))/\A.le B/\Fresh A B cv 1 (cO o)/\B.get ba=some (.obj true (.map es ck))/\V.blk cv ≠ some ba) (fun ⟨i,o,Q,es,ck,cv⟩=>n - i) (⟨0,List.replicate n 0,[],#[],0,.slice (some ⟨b8,0,none⟩) n n⟩) (yC Z Z Z Z Z Z Z Z) (⟨⟨Nat.zero_le _,np.start,du.nil⟩,eL,dI,av.get,eX⟩) ?_;rintro ⟨i,o,Q,es,ck,cv⟩ B27 ⟨⟨hi,hnu,hme⟩,aY,aA,ap,h⟩;refine am.wf fun f3=>?_;have hol:=hnu.len hi;have hql:=hnu.le;refine am.seq fun _ fe=>.region<|.q Z (cd Z Z)<|.nil<|fe _ _<|.seq fun _ fi=>.if rfl (fun fS=>?_) (fun fS=>?_)
 ·refine am.skip<|fi _ _<|.seq fun _ dd=>.block<|.seq fun _ fl=>.region<|.q Z (ah Z)<|.q Z (ae Z)<|.nil<|fl _ _ ?_;refine am.seq fun _ fm=>.region<|.q Z (ah Z)<|.q Z (ah Z)<|.l Z (fun _ _ en _=>oB Z Z (ea i B27 O aY f3) ?_);rintro gE A42 ⟨rfl,aF,aR⟩;have di:=aF.get _ _ ap;have bd:=aA.le aF;have bC:=aY.trans aF;refine en _ _<|.l Z (fun _ _ ev _=>cg aR TP rfl fun A49 gf a4=>?_);have aG:=ne_new aR di a4.lo;have eY:=bd.own.ne_new aR a4.lo;have bu:=aU wf (Nat.le_trans bC.n a4.lo);have fn:=a4.le.get _ _ di;have dJ:=bd.le a4.le;have eN:=bC.trans a4.le;refine ev _ _<|.l Z (fun _ _ ex _=>aQ (cs:=[.bool ((sf i).1),.bool ((sf i).2)]) (c':=[.bool ((sf i).1),.bool ((sf i).2)]) a4.wf rfl rfl rfl rfl CG a4.get (Nat.le_of_ble_eq_true rfl) rfl rfl fun A56 a5=>?_);have b2:=a5.keep _ _ aG fn;have bl:=dJ.keep a5.keep eY;have bD:=an eN wf bu a5.n a5.keep;refine ex _ _<|.nil<|fm _ _<|.seq fun _ dj=>.region<|.q Z (ah Z)<|.q Z (aq KN CG Z Z a5.get Z)<|.look2G (L:=Q) (k:=sf i) Z Z Z RI OL z3 b2 hme (fun eC=>?_) (fun bv=>?_)
  ·refine Ops.q Z (ah Z)<|.q Z (bh Z Z)<|.q Z (bh Z Z)<|.q Z (ae Z)<|.q Z (ae Z)<|.nil<|dj _ _<|.seq fun _ fo=>.seq fun _ fq=>.region ?_;refine Ops.q Z (ah Z)<|.q Z (eu Z)<|.nil<|fq _ _<|.cond_false Z<|.skip<|fo _ _<|.region<|.q Z (ah Z)<|.q Z (ah Z) ?_;refine Ops.q Z (ah Z) ?_;obtain ⟨gg,gs,gm,fT,g6,d2,dk,f4,gF,fQ,gC,fN⟩:=bl.at1 (x:=i) Of;rw [aE] at dk;refine Ops.q Z (ax ep c5 Z d2 Z (by rw [dk];omega))<|.l Z (fun _ _ ey _=>aQ (off:=i) (c':=fT.set i (num ((iL Q (sf i):Nat):Int))) a5.wf rfl (by simp) rfl rfl c5 f4 (by show i + 1<=_;omega) rfl rfl fun A71 aI=>?_);have fr:=aI.keep _ _ (fun q=>h (by rw [d2];exact congrArg some q.symm)) b2;have bm:=fN (num ((iL Q (sf i):Nat):Int)) A71 aI;rw [iw] at bm;have eQ:=an bD wf fQ aI.n aI.keep;refine ey _ _<|.nil<|dd _ _<|.region<|.q Z (bE (b:=1) Z Z O)<|.q Z (ah Z)<|.nil ?_;exact ⟨⟨i + 1,o.set i (((iL Q (sf i):Nat):Int)),Q,es,ck,cv⟩,yC Z Z Z Z Z Z Z Z,Z,⟨⟨by omega,hnu.old O eC,hme⟩,eQ,bm,fr,h⟩,O1⟩
  refine Ops.q Z (ah Z)<|.q Z (bh Z Z)<|.q Z (bh Z Z)<|.q Z (ae Z)<|.q Z (ae Z)<|.nil<|dj _ _<|.seq fun _ ft=>.seq fun _ fv=>.region ?_;refine Ops.q Z (ah Z)<|.q Z (eu Z)<|.nil<|fv _ _<|.cond_true Z<|.seq fun _ fD=>.region<|.q Z (ah Z)<|.l Z (fun _ _ ez _=>sx (Q:=Q) Z RI b2 hme ?_);refine ez _ _<|.q Z (ae Z)<|.nil<|fD _ _<|.region<|.q Z (ah Z)<|.q Z (aq KN CG Z Z a5.get Z)<|.q Z (ah Z)<|.new2G (L:=Q) (k:=sf i) rfl a5.wf rfl rfl rfl RI OL b2 hme bv fun A84 dD dz ay eV=>?_;have dK:=bl.keep ay.keep h;have eS:=an bD wf br ay.n ay.keep;refine Ops.nil<|ft _ _<|.region<|.q Z (ah Z)<|.q Z (ah Z)<|.q Z (ah Z) ?_;obtain ⟨gl,gA,gp,fV,g7,d3,dl,f6,gG,fR,gD,fO⟩:=dK.at1 (x:=i) Of;rw [aE] at dl;refine Ops.q Z (ax ep c5 Z d3 Z (by rw [dl];omega))<|.l Z (fun _ _ eA _=>aQ (off:=i) (c':=fV.set i (num ((Q.length:Nat):Int))) ay.wf rfl (by simp) rfl rfl c5 f6 (by show i + 1<=_;omega) rfl rfl fun A94 aP=>?_);have fE:=aP.keep _ _ (fun q=>h (by rw [d3];exact congrArg some q.symm)) ay.get;have bp:=fO (num ((Q.length:Nat):Int)) A94 aP;rw [iw] at bp;have eT:=an eS wf fR aP.n aP.keep;refine eA _ _<|.nil<|dd _ _<|.region<|.q Z (bE (b:=1) Z Z O)<|.q Z (ah Z)<|.nil ?_;exact ⟨⟨i + 1,o.set i (((Q.length:Nat):Int)),Q ++ [sf i],dD,dz,cv⟩,yC Z Z Z Z Z Z Z Z,Z,⟨⟨by omega,hnu.new O bv,eV⟩,eT,bp,fE,h⟩,O1⟩
 refine am.exit<|f9 _ _<|.seq fun _ dM=>.region<|.q Z (ah Z)<|.l Z (fun _ _ c3 _=>sx (Q:=Q) Z RI ap hme ?_);refine c3 _ _<|.q Z (ae Z)<|.nil<|dM _ _<|.block ?_;have hnf:=hnu.fin O;have gq:=hnu.le;refine am.loop (X:=Nat × List Int × Value) (fun ⟨cnt,cls,kv⟩=>[(0,num ((n:Nat):Int)),(2,.func (.func g2) #[] a8),(7,.func (.func 201) #[] #[]),(8,kv),(14,num ((cnt:Nat):Int))]) (fun ⟨cnt,cls,kv⟩ B=>(rz n sf key cnt cls/\R cls)/\A.le B/\Fresh A B kv 1 (cO cls)) (fun ⟨cnt,cls,kv⟩=>n - cnt) (⟨Q.length,o,cv⟩) (pZ Z Z Z Z Z) (⟨⟨rz.start hnf,by have:=fI;rw [hnf] at this;exact this⟩,aY,aA⟩) ?_;rintro ⟨cnt,cls,kv⟩ B104 ⟨⟨hcl,hRc⟩,b3,ag⟩;refine am.wf fun b6=>?_;have hcll:=hcl.len;have hclc:=hcl.cnt;refine am.block<|.seq fun _ dO=>.region<|.q Z (ah Z)<|.l Z (fun _ _ c4 _=>mL (n:=n) (k:=n) b6 b3 rfl rfl ep c5 z3 mZ rfl (Nat.le_refl _) (by show 8 * _<=_;omega) O fun A110 dv a6 aC=>?_);rw [iu] at aC;have b0:=ag.le a6.le;have b5:=b3.trans a6.le;have d1:=bq.of_new (n:=n) (c:=n) ag.own b6 a6.lo;refine c4 _ _<|.q Z (ae Z)<|.nil<|dO _ _<|.seq fun _ dS=>.region<|.l Z (fun _ _ c7 _=>nh a6.wf fun A121 a3 a2=>?_);have cZ:=b0.own.ne_new a6.wf a2.lo;have d0:=aC.own.ne_new a6.wf a2.lo;have b9:=aU wf (Nat.le_trans b5.n a2.lo);have bP:=b0.le a2.le;have bR:=aC.le a2.le;have cK:=b5.trans a2.le;refine c7 _ _<|.q Z (ae Z)<|.nil<|dS _ _<|.seq fun _ dV=>.seq fun _ dW=>.region<|.q Z (ah Z)<|.q Z (ah Z)<|.nil ?_;refine dW _ _<|.block<|.loop (X:=Nat × List Int × List Wd × Array MapEntry × Nat × Value) (fun ⟨j,o3,Q3,es,ck,nv⟩=>[(0,num ((n:Nat):Int)),(2,.func (.func g2) #[] a8),(7,.func (.func 201) #[] #[]),(8,kv),(14,num ((cnt:Nat):Int)),(15,nv),(16,.map (some a3)),(51,num ((n:Nat):Int)),(52,num ((j:Nat):Int))]) (fun ⟨j,o3,Q3,es,ck,nv⟩ B=>(j<=n/\np n (key cls) j o3 Q3/\du aX es (m8 Q3))/\A.le B/\Fresh A B nv 1 (cO o3)/\Fresh A B kv 1 (cO cls)/\B.get a3=some (.obj true (.map es ck))/\V.blk nv ≠ some a3/\V.blk kv ≠ some a3/\bq nv kv) (fun ⟨j,o3,Q3,es,ck,nv⟩=>n - j) (⟨0,List.replicate n 0,[],#[],0,.slice (some ⟨dv,0,none⟩) n n⟩) (Sq Z Z Z Z Z Z Z Z Z) (⟨⟨Nat.zero_le _,np.start,du.nil⟩,cK,bR,bP,a2.get,d0,cZ,d1⟩) ?_;rintro ⟨j,o3,Q3,es,ck,nv⟩ B133 ⟨⟨hj,ai,aV⟩,ad,a7,ab,a1,D,a0,ac⟩;refine am.wf fun b7=>?_;have g3:=ai.len hj;have g4:=ai.le;refine am.seq fun _ dZ=>.region<|.q Z (cd Z Z)<|.nil<|dZ _ _<|.seq fun _ e0=>.if rfl (fun f0=>?_) (fun f0=>?_)
 ·refine am.skip<|e0 _ _<|.seq fun _ e1=>.block<|.seq fun _ e2=>.region<|.q Z (ah Z)<|.q Z (ae Z)<|.nil<|e2 _ _ ?_;refine am.region<|.q Z (ah Z)<|.q Z (ah Z)<|.q Z (ah Z)<|.q Z (ah Z)<|.q Z (ah Z)<|.q Z (ah Z)<|.q Z (ah Z)<|.l Z (fun _ _ cc _=>oB Z Z (ec cls kv j B133 ab.slc hcll hcl.rng O ad b7) ?_);rintro g9 A146 ⟨rfl,a9,bM⟩;have e3:=a9.get _ _ a1;have bS:=a7.le a9;have bT:=ab.le a9;have cP:=ad.trans a9;refine cc _ _ ?_;have cS:=ci (bs:=[some a3]) cP (uk b9 oT);refine Ops.l Z (fun _ _ ch _=>oB Z Z (Od a3 es ck Q3 (key cls j) (A146.hide [some a3]) A146 (cE A146 [some a3]) (cm bM) e3 (cr (by simp)) aV ai.nd) ?_);rintro gc A154 ⟨bc,bb,rfl,ar,bO,az,bL⟩;have bU:=bS.off (kr D kq) ar;have bV:=bT.off (kr a0 kq) ar;have cV:=cS.trans ar;refine ch _ _ ?_;obtain ⟨dw,g5,g0,f2,fX,aS,bA,dL,ge,eZ,g8,eG⟩:=bU.at1 (x:=j) Of;rw [aE] at bA;refine Ops.q Z (ax ep c5 Z aS Z (by rw [bA];omega))<|.l Z (fun _ _ cA _=>aQ (off:=j) (c':=f2.set j (num ((iL Q3 (key cls j):Nat):Int))) bO rfl (by simp) rfl rfl c5 dL (by show j + 1<=_;omega) rfl rfl fun A162 aa=>?_);have e4:=aa.keep _ _ (fun q=>D (by rw [aS];exact congrArg some q.symm)) az;have bY:=bV.keep aa.keep (ac dw (by rw [aS];rfl));have b1:=eG (num ((iL Q3 (key cls j):Nat):Int)) A162 aa;rw [iw] at b1;have cX:=an cV wf eZ aa.n aa.keep;refine cA _ _<|.nil<|e1 _ _<|.region<|.q Z (bE (b:=1) Z Z O)<|.q Z (ah Z)<|.nil ?_;exact ⟨⟨j + 1,o3.set j (((iL Q3 (key cls j):Nat):Int)),jA Q3 (key cls j),bc,bb,nv⟩,Sq Z Z Z Z Z Z Z Z Z,Z,⟨⟨by omega,ai.next O,bL⟩,cX,b1,bY,e4,D,a0,ac⟩,O1⟩
 refine am.exit<|dV _ _<|.seq fun _ e5=>.region<|.q Z (ah Z)<|.q Z (ae Z)<|.nil<|e5 _ _<|.seq fun _ e6=>.seq fun _ e7=>?_;have aD:=ai.fin O;refine am.region<|.q Z (ah Z)<|.l Z (fun _ _ cC _=>sx (Q:=Q3) Z OO a1 aV ?_);refine cC _ _<|.q Z (ah Z)<|.q Z (ku Z Z)<|.nil<|e7 _ _<|.if rfl (fun f1=>?_) (fun f1=>?_)
 ·refine am.seq fun _ e9=>.region<|.q Z (ah Z)<|.q Z (ae Z)<|.nil<|e9 _ _<|.rt (by exact aJ Z (⟨ad,b7,cw a7 (congrArg cO (hcl.stop aD ‹_›))⟩))
 refine am.skip<|e6 _ _<|.region<|.q Z (ah Z)<|.l Z (fun _ _ cH _=>sx (Q:=Q3) Z OO a1 aV ?_);refine cH _ _<|.q Z (ae Z)<|.nil ?_;exact ⟨⟨Q3.length,o3,nv⟩,pZ Z Z Z Z Z,Z,⟨⟨(hcl.next (fun i j hi hj=>hinj cls hcll hcl.rng hRc i j hi hj) aD ‹_›).1,by have:=fL cls hcll hRc;rw [aD] at this;exact this⟩,ad,a7⟩,(by have:=(hcl.next (fun i j hi hj=>hinj cls hcll hcl.rng hRc i j hi hj) aD ‹_›).2;(try dsimp only);omega)⟩
end Go.Proofs.YtjppkekmddjcfaaGreatDoor
