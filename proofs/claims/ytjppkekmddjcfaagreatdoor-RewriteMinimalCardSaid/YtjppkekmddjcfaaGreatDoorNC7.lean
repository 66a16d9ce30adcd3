import Derived.Test.YtjppkekmddjcfaaGreatDoorNC6
set_option linter.unusedSectionVars false
set_option linter.unusedVariables false
set_option linter.unusedSimpArgs false
open Go.Proofs.Tryz
namespace Go.Proofs.YtjppkekmddjcfaaGreatDoor
open Go Go.RowKit V
set_option maxRecDepth 100000
theorem kq:eO prog 213 1=some (59,1):=by kernel_rfl
theorem sh:eO prog 213 2=some (60,2):=by kernel_rfl
theorem uz:eO prog 213 3=some (67,3):=by kernel_rfl
theorem uA:eO prog 213 4=some (67,4):=by kernel_rfl
theorem pl213:dQ prog 213=some [(0,1),(1,1),(2,1),(3,1),(4,1)]:=by kernel_rfl
theorem u213:type_of% @underlying213:=@underlying213
theorem KQ:type_of% @underlying222:=@underlying222
theorem z213:c5 prog 213=some (.agg #[.int .i64 0,.slice none 0 0,.slice none 0 0,.slice none 0 0,.slice none 0 0]):=by kernel_rfl
theorem Bx (k most bd F0:Nat) (s0:Int) (g1 g2:Nat) (dG dI:Array Value) (step:Int->Nat->Option Int) (accf:Int->Bool) (D:Int->Prop) (A:AH) (hk:k<=1000) (hm:bd<=most/\most<=1000000/\bd < F0) (BP:D s0) (hDs:∀ q c t,D q->c < k->step q c=some t->D t) (hfin:∀ Q:List Int,Q.Nodup->(∀ q ∈ Q,D q)->Q.length<=bd) (Ab:∀ (q:Int) (c:Nat) B,D q->c < k->A.le B->B.wf->bH prog g1 (#[num q,num (c:Int)] ++ dG) B (fun v C=>v=.tuple #[num ((step q c).getD 0),.bool (step q c).isSome]/\B.le C/\C.wf)) (Ac:∀ (q:Int) B,D q->A.le B->B.wf->bH prog g2 (#[num q] ++ dI) B (fun v C=>v=.bool (accf q)/\B.le C/\C.wf)):bH prog 148 #[num ((k:Nat):Int),num ((most:Nat):Int),num (s0),.func (.func g1) #[] dG,.func (.func g2) #[] dI] A (fun v A1=>∃ b av nv fv bv rows,v=.tuple #[.pointer (some ⟨b,0,none⟩),.bool true]/\A.le A1/\A1.wf/\A1.get b=some (.row true [num (k:Int),av,nv,fv,bv] 5)/\A.get b=none/\Fresh A A1 av 1 (cy ((gV k step F0 0 [s0] []).1.map accf))/\Fresh A A1 nv 1 (fh rows)/\mq A A1 rows (gV k step F0 0 [s0] []).2/\blk av ≠ some b/\blk nv ≠ some b/\dn rows b/\bx av nv/\be av rows/\be nv rows):=by
 refine bi (e:=[(0,num ((k:Nat):Int)),(1,num ((most:Nat):Int)),(2,num (s0)),(3,.func (.func g1) #[] dG),(4,.func (.func g2) #[] dI)]) (args:=[num ((k:Nat):Int),num ((most:Nat):Int),num (s0),.func (.func g1) #[] dG,.func (.func g2) #[] dI]) call148 func148 Z results148 ntmps148 Z Z Z (fun wf=>?_);have wY:=AH.le.refl A;refine ak.sq fun h2=>.region<|.I Z<|.I Z<|.nil<|h2<|.sq fun h4=>.region<|.J Z<|.p (cx Z (bg u213 z213 pl213 Z)) ?_;refine Ops.m (fun BR=>d8 wf rfl rfl fun A7 b6 fq=>?_);have cf:=aX wf (Xj wY.n fq.lo);have wS:=wY.trans fq.le;refine BR<|.I Z<|.nil<|h4<|.sq fun Bt=>.region<|.m (fun Ad=>pC fq.wf fun A14 cF ey=>?_);have aA:=ne_new fq.wf fq.get ey.lo;have h3:=aX wf (Xj wS.n ey.lo);refine Ad<|.J Z<|.m (fun Af=>aaI vA (E:=[]) ey.wf rfl rfl rfl KQ u3 ey.get d9.nil List.nodup_nil fun A19 n2 x0 dz AI=>?_);have wz:=dz.k aA (ey.le.g fq.get);have nQ:=al (wS.trans ey.le) wf h3 dz.n dz.keep;have Ay:d9 num n2 (MH [s0]):=AI;refine Af<|.J Z<|.I Z<|.nil<|Bt<|.sq fun Bu=>.region<|.J Z<|.m (fun Ag=>bf (c:=[num (s0)]) dz.wf rfl (aw fk dH z3 rfl U U rfl) fun A30 wy cS=>?_);have dm:=ne_new dz.wf wz cS.lo;have gE:=ne_new dz.wf dz.get cS.lo;have wC:=cS.le.g wz;have wF:=cS.le.g dz.get;have nT:=nQ.trans cS.le;refine Ag<|.I Z<|.nil<|Bu<|.sq fun Bv=>.region<|.J Z<|.J Z<|.m (fun Ai=>bf (c:=[num (-1)]) cS.wf rfl (aw fk dH z3 rfl U U rfl) fun A39 h1 cb=>?_);have dv:=ne_new cS.wf wC cb.lo;have gF:=ne_new cS.wf wF cb.lo;have gL:=ne_new cS.wf cS.get cb.lo;have wL:=cb.le.g wC;have wM:=cb.le.g wF;have wP:=cb.le.g cS.get;have nU:=nT.trans cb.le;refine Ai<|.m (fun Ap=>bf (c:=[num (-1)]) cb.wf rfl (aw fk dH z3 rfl U U rfl) fun A47 hE cU=>?_);have dw:=ne_new cb.wf wL cU.lo;have gG:=ne_new cb.wf wM cU.lo;have gM:=ne_new cb.wf wP cU.lo;have gN:=ne_new cb.wf cb.get cU.lo;refine Ap<|.p (du Z)<|.p (ae uz gU U Z)<|.m (fun Ar=>aW (cs:=[.slice (some ⟨h1,0,none⟩) 1 1]) (c':=[num ((k:Nat):Int),.slice none 0 0,.slice none 0 0,.slice (some ⟨h1,0,none⟩) 1 1,.slice none 0 0]) cU.wf rfl rfl rfl rfl gU (cU.le.g wL) G rfl rfl fun A55 dD=>?_);refine Ar<|.p (du Z)<|.p (ae uA gU U Z)<|.m (fun As=>aW (cs:=[.slice (some ⟨hE,0,none⟩) 1 1]) (c':=[num ((k:Nat):Int),.slice none 0 0,.slice none 0 0,.slice (some ⟨h1,0,none⟩) 1 1,.slice (some ⟨hE,0,none⟩) 1 1]) dD.wf rfl rfl rfl rfl gU dD.get G rfl rfl fun A63 dZ=>?_);have By:=dZ.k aA.symm (dD.k aA.symm (cU.le.g wM));have AG:=al (al (nU.trans cU.le) wf cf dD.n dD.keep) wf cf dZ.n dZ.keep;refine As<|.nil<|Bv<|.sq fun BA=>.sq fun BB=>.region<|.I Z<|.nil<|BB<|.block ?_;have x4:Fresh A A63 (.slice (some ⟨h1,0,none⟩) 1 1) 1 (dy [-1]):=Fresh.lit (dZ.k dv.symm (dD.k dv.symm (cU.le.g cb.get))) (aX wf (Xj nT.n cb.lo)) Z G;have x5:Fresh A A63 (.slice (some ⟨hE,0,none⟩) 1 1) 1 (dy [-1]):=Fresh.lit (dZ.k dw.symm (dD.k dw.symm cU.get)) (aX wf (Xj nU.n cU.lo)) Z G;have x6:Fresh A A63 (.slice (some ⟨wy,0,none⟩) 1 1) 1 (dy [s0]):=Fresh.lit (dZ.k dm.symm (dD.k dm.symm (cU.le.g wP))) (aX wf (Xj nQ.n cS.lo)) Z G;have x3:mq A A63 [] []:=mq.nil;refine ak.loop (X:=Nat × List Int × List Bool × List Int × List Int × Array MapEntry × Nat × Nat × Value × Value × Value × Value × Value × List Value × List (List Int)) (fun ⟨i,Q,ac,fi,bl,es,ck,f,qv,av,nv,fv,bv,rw,R⟩=>[(0,num ((k:Nat):Int)),(1,num ((most:Nat):Int)),(3,.func (.func g1) #[] dG),(4,.func (.func g2) #[] dI),(12,.pointer (some ⟨b6,0,none⟩)),(13,.map (some cF)),(14,qv),(15,num ((i:Nat):Int))]) (fun ⟨i,Q,ac,fi,bl,es,ck,f,qv,av,nv,fv,bv,rw,R⟩ B=>(i<=Q.length/\ac=(Q.take i).map accf/\Q.Nodup/\(∀ q ∈ Q,D q)/\d9 num es (MH Q)/\gV k step f i Q R=(gV k step F0 0 [s0] [])/\f + i=F0/\fi.length=Q.length/\bl.length=Q.length/\R.length=i)/\A.le B/\Fresh A B qv 1 (dy Q)/\Fresh A B av 1 (cy ac)/\Fresh A B nv 1 (fh rw)/\Fresh A B fv 1 (dy fi)/\Fresh A B bv 1 (dy bl)/\B.get cF=some (.obj true (.map es ck))/\B.get b6=some (.row true [num ((k:Nat):Int),av,nv,fv,bv] 5)/\V.blk qv ≠ some cF/\V.blk av ≠ some cF/\V.blk nv ≠ some cF/\V.blk fv ≠ some cF/\V.blk bv ≠ some cF/\V.blk qv ≠ some b6/\V.blk av ≠ some b6/\V.blk nv ≠ some b6/\V.blk fv ≠ some b6/\V.blk bv ≠ some b6/\bx qv av/\bx qv nv/\bx qv fv/\bx qv bv/\bx av nv/\bx av fv/\bx av bv/\bx nv fv/\bx nv bv/\bx fv bv/\mq A B rw R/\dn rw cF/\dn rw b6/\be qv rw/\be av rw/\be nv rw/\be fv rw/\be bv rw) (fun ⟨i,Q,ac,fi,bl,es,ck,f,qv,av,nv,fv,bv,rw,R⟩=>F0 - i) (⟨0,[s0],[],[-1],[-1],n2,x0,F0,.slice (some ⟨wy,0,none⟩) 1 1,.slice none 0 0,.slice none 0 0,.slice (some ⟨h1,0,none⟩) 1 1,.slice (some ⟨hE,0,none⟩) 1 1,[],[]⟩) (zZ Z Z Z Z Z Z Z Z) (⟨⟨XK _,rfl,by simp,fun q hq=>by rw [Vk] at hq;subst hq;exact BP,Ay,rfl,by omega,rfl,rfl,rfl⟩,AG,x6,(Fresh.nil A A63 1),(Fresh.nil A A63 1),x4,x5,By,dZ.get,(fun q=>by cases q;exact gE rfl),(fun q=>by cases q),(fun q=>by cases q),(fun q=>by cases q;exact gF rfl),(fun q=>by cases q;exact gG rfl),(fun q=>by cases q;exact dm rfl),(fun q=>by cases q),(fun q=>by cases q),(fun q=>by cases q;exact dv rfl),(fun q=>by cases q;exact dw rfl),(bx.symm bx.nil),(bx.symm bx.nil),(fun c hc hq=>by cases hc;cases hq;exact gL rfl),(fun c hc hq=>by cases hc;cases hq;exact gM rfl),bx.nil,bx.nil,bx.nil,bx.nil,bx.nil,(fun c hc hq=>by cases hc;cases hq;exact gN Z),x3,na,na,be.empty,be.nil,be.nil,be.empty,be.empty⟩) ?_;rintro ⟨i,Q,ac,fi,bl,es,ck,f,qv,av,nv,fv,bv,rw,R⟩ B81 ⟨⟨hi,hac,hnd,hDQ,hme,hex,hf,hfi,hbl,hRl⟩,ht,eg,fm,fn,n1,mX,hj,dJ,fl,dS,fe,fd,f9,e4,dj,dk,e3,e2,f3,hy,hz,hA,e0,f4,f6,hB,hC,hD,fo,f7,dd,g7,di,e1,g8,g9⟩;refine ak.wf fun nV=>?_;have hrw:rw.length=R.length:=by first | exact mq.len ‹_›
 have hlQ:=hfin Q hnd hDQ;have hla:ac.length=i:=by rw [hac,TX,XZ];omega
 have hDi:=fun q:i < Q.length=>hDQ _ (bj (d:=(0:Int)) q);refine ak.sq fun BC=>.sq fun BD=>.region<|.J Z<|.J Z<|.p (bE (n:=Q.length) fk Z eg.slc O (fy _))<|.p (ca Z Z)<|.nil<|BD<|.if rfl (fun BU=>?_) (fun BU=>?_)
 ·refine ak.skip<|BC<|.sq fun BL=>.block<|.sq fun BM=>.drawn [0,1,2,3,4,5,6,7,8,9,10,11,12,13,14,15] mixed Y Y Z<|.q Z Z Z (aN Z)<|.q Z Z Z (aN Z)<|.q Z Z Z (du Z)<|.q Z Z Z (ae kq jt U Z) ?_;have Aa:=de (off:=1) dJ (show _=some (av) from rfl);refine bn.q Z Z Z (ah jr Z Z dJ Z)<|.q Z Z Z (aN Z)<|.q Z Z Z (aN Z)<|.q Z Z Z (aN Z) ?_;obtain ⟨Ea,Ec,DI,En,DG,El,Eg,Br,BT,Bs,Dg,x1⟩:=bJ.at (i:=i) eg.slc Oa O;refine bn.q Z Z Z (au fk dH Z Br Z BT)<|.q Z Z Z (ah fA Z Z Bs ((dt x1).trans (dT O)))<|.l Z Z Z (fun _ _ At _=>qJ Z Z (Ac (Q.getD i 0) B81 (hDi O) ht nV) ?_);rintro Eq A97 ⟨rfl,cB,mV⟩;have hF:=fo.le cB;have lO:=cl cB Aa;refine At _ _ (aU.list (L:=[(⟨b6,1,none⟩,av)]) Y (bz lO cm))<|.l Z Z Z (fun _ _ rb _=>bf (c:=[.bool (accf (Q.getD i 0))]) mV rfl (aw nA nR z4 rfl U U rfl) fun A112 CC b7=>?_);have C1:=hF.ne_new mV b7.lo;have n3:=b7.le.g (cB.g hj);have n4:=b7.le.g (cB.g dJ);have hS:=(eg.le cB).le b7.le;have hT:=(fm.le cB).le b7.le;have hU:=(fn.le cB).le b7.le;have hV:=(n1.le cB).le b7.le;have hW:=(mX.le cB).le b7.le;have hG:=hF.le b7.le;have ra:=cl b7.le lO;have sQ:=(ht.trans cB).trans b7.le;refine rb _ _ (aU.list (L:=[(⟨b6,1,none⟩,av)]) Y (bz ra cm))<|.l Z Z Z (fun _ _ rf _=>ct (ys:=[.bool (accf (Q.getD i 0))]) rfl rfl nA nR Uj z4 rfl U nA (fun _ h=>by cases h) hT.own (bN (n:=1) b7.get Z) rfl rfl (by show (_ + _) * 1<=_;simp only [bQ,Xq,Xz];(try simp only [Xx,Xq,Xz]);omega) OI fun A131 DS bc=>?_);rw [show ([.bool (accf (Q.getD i 0))]:List Value)=cy [accf (Q.getD i 0)] from rfl,pN] at bc;obtain ⟨hX,sR⟩:=Fresh.grow hT sQ wf bc;have tj:=bc.ne dS b7.wf n3;have mb:=bc.ne dj b7.wf n4;have tR:=bx.appd (show bx av qv from (bx.symm f3)) hS.own b7.wf bc;have tS:=bx.appd (show bx av nv from e0) hU.own b7.wf bc;have tT:=bx.appd (show bx av fv from f4) hV.own b7.wf bc;have tV:=bx.appd (show bx av bv from f6) hW.own b7.wf bc;have tW:=be.appd (show be av rw from di) hG b7.wf bc;have o2:=hG.appd bc (show be av rw from di);refine rf _ _ (aU.none Y)<|.q Z Z Z (du Z)<|.q Z Z Z (ae kq jt U Z) ?_;obtain ⟨aF,aE,aD,B2,_⟩:=hX.own.slice;subst B2;refine bn.l Z Z Z (fun _ _ ro _=>aW (cs:=[.slice aF aE aD]) (c':=[num ((k:Nat):Int),.slice aF aE aD,nv,fv,bv]) bc.wf rfl rfl rfl rfl jt (bc.keep dj n4) G rfl rfl fun A155 b0=>?_);have n6:=b0.k aA.symm (bc.keep dS n3);have hY:=(hS.appd bc (bx.symm f3)).keep b0.keep e4;have hZ:=(hU.appd bc e0).keep b0.keep dk;have i1:=(hV.appd bc f4).keep b0.keep e3;have i2:=(hW.appd bc f6).keep b0.keep e2;have ih:=hX.keep b0.keep mb;have hH:=o2.keep b0.keep dd;have m1:=al sR wf cf b0.n b0.keep;refine ro _ _ (aU.none Y)<|.done<|BM<|.sq fun xr=>.region<|.J Z<|.m (fun rq=>oO (n:=k) (k:=k) b0.wf m1 rfl rfl fk dH z3 pd rfl (XV _) (by show 8 * _<=_;omega) O fun A169 wZ bm ir=>?_);rw [jh] at ir;have f8:=ne_new b0.wf n6 bm.lo;have gP:=ne_new b0.wf b0.get bm.lo;have tI:=hH.ne_new b0.wf bm.lo;have xt:=bm.le.g n6;have xv:=bm.le.g b0.get;have oP:=hY.le bm.le;have oQ:=hZ.le bm.le;have oR:=i1.le bm.le;have oS:=i2.le bm.le;have oV:=ih.le bm.le;have o3:=hH.le bm.le;have sS:=m1.trans bm.le;have tY:=bx.of_new (n:=k) (c:=k) hY.own b0.wf bm.lo;have tZ:=bx.of_new (n:=k) (c:=k) hZ.own b0.wf bm.lo;have u0:=bx.of_new (n:=k) (c:=k) i1.own b0.wf bm.lo;have u1:=bx.of_new (n:=k) (c:=k) i2.own b0.wf bm.lo;have u8:=bx.of_new (n:=k) (c:=k) ih.own b0.wf bm.lo;refine rq<|.I Z<|.nil<|xr<|.sq fun xA=>.sq fun xF=>.region<|.J Z<|.J Z<|.nil ?_;refine xF<|.block<|.loop (X:=Nat × List Int × List Int × List Int × List Int × List Int × Array MapEntry × Nat × Value × Value × Value × Value) (fun ⟨c,r,o,Q1,fi,bl,es,ck,rv,bL,ab,a2⟩=>[(0,num ((k:Nat):Int)),(1,num ((most:Nat):Int)),(3,.func (.func g1) #[] dG),(4,.func (.func g2) #[] dI),(12,.pointer (some ⟨b6,0,none⟩)),(13,.map (some cF)),(14,bL),(15,num ((i:Nat):Int)),(16,rv),(61,num ((k:Nat):Int)),(62,num ((c:Nat):Int))]) (fun ⟨c,r,o,Q1,fi,bl,es,ck,rv,bL,ab,a2⟩ B=>(c<=k/\Oh step (Q.getD i 0) Q c=(r,Q1)/\r.length=c/\o=r ++ List.replicate (k - c) 0/\Q1.Nodup/\(∀ q ∈ Q1,D q)/\d9 num es (MH Q1)/\fi.length=Q1.length/\bl.length=Q1.length/\Q <+: Q1)/\A.le B/\Fresh A B rv 1 (dy o)/\Fresh A B bL 1 (dy Q1)/\Fresh A B ab 1 (dy fi)/\Fresh A B a2 1 (dy bl)/\Fresh A B nv 1 (fh rw)/\Fresh A B (.slice aF aE aD) 1 (cy (ac ++ [accf (Q.getD i 0)]))/\B.get cF=some (.obj true (.map es ck))/\B.get b6=some (.row true [num ((k:Nat):Int),.slice aF aE aD,nv,ab,a2] 5)/\V.blk rv ≠ some cF/\V.blk bL ≠ some cF/\V.blk ab ≠ some cF/\V.blk a2 ≠ some cF/\V.blk nv ≠ some cF/\V.blk (.slice aF aE aD) ≠ some cF/\V.blk rv ≠ some b6/\V.blk bL ≠ some b6/\V.blk ab ≠ some b6/\V.blk a2 ≠ some b6/\V.blk nv ≠ some b6/\V.blk (.slice aF aE aD) ≠ some b6/\bx rv bL/\bx rv ab/\bx rv a2/\bx rv nv/\bx rv (.slice aF aE aD)/\bx bL ab/\bx bL a2/\bx bL nv/\bx bL (.slice aF aE aD)/\bx ab a2/\bx ab nv/\bx ab (.slice aF aE aD)/\bx a2 nv/\bx a2 (.slice aF aE aD)/\bx nv (.slice aF aE aD)/\mq A B rw R/\dn rw cF/\dn rw b6/\be rv rw/\be bL rw/\be ab rw/\be a2 rw/\be nv rw/\be (.slice aF aE aD) rw) (fun ⟨c,r,o,Q1,fi,bl,es,ck,rv,bL,ab,a2⟩=>k - c) (⟨0,[],List.replicate k 0,Q,fi,bl,es,ck,.slice (some ⟨wZ,0,none⟩) k k,qv,fv,bv⟩) (vo Z Z Z Z Z Z Z Z Z Z Z) (⟨⟨XK _,rfl,rfl,by simp,hnd,hDQ,hme,hfi,hbl,Sj _⟩,sS,ir,oP,oR,oS,oQ,oV,xt,xv,(fun q=>by cases q;exact f8 rfl),fl,fd,f9,fe,tj,(fun q=>by cases q;exact gP Z),e4,e3,e2,dk,mb,tY,u0,u1,tZ,u8,hz,hA,hy,(bx.symm tR),hD,(bx.symm hB),(bx.symm tT),(bx.symm hC),(bx.symm tV),(bx.symm tS),o3,f7,dd,(be.new tI),g7,g8,g9,e1,tW⟩) ?_;rintro ⟨c,r,o,Q1,fi,bl,es,ck,rv,bL,ab,a2⟩ B197 ⟨⟨hc,hexp,hrl,ho,ev,f0,f1,hh,hg,hpre⟩,m2,d3,eL,eG,eC,eA,dO,eN,dW,a5,bb,aa,a9,aB,az,a0,bC,a3,ai,a4,a1,bM,aT,aV,aC,aY,cH,cK,cc,cP,br,b8,bu,b9,bA,bO,dV,ba,a8,ag,bR,aI,aP,bB,bD⟩;refine ak.wf fun eY=>?_;have hlo:o.length=k:=by rw [ho];simp;omega
  have Dk:=hfin Q1 ev f0;have hpl:=hpre.length_le;have hgi:=yy hpre (show i < Q.length by omega);have nJ:D (Q1.getD i 0):=by rw [hgi];exact hDi O
  refine ak.sq fun xN=>.region<|.p (ca Z Z)<|.nil<|xN<|.sq fun xR=>.if rfl (fun AY=>?_) (fun AY=>?_)
  ·refine ak.skip<|xR<|.sq fun eZ=>.block<|.sq fun xS=>.region<|.J Z<|.I Z<|.nil<|xS ?_;refine ak.sq fun xT=>.region<|.J Z<|.J Z ?_;obtain ⟨e5,Dm,D0,Bb,Ch,cX,nK,x7,E4,AP,DJ,Az⟩:=d3.at1 (x:=c) Oa;rw [aJ] at nK;refine Ops.p (au fk dH Z cX Z (by rw [nK];omega))<|.m (fun rr=>aW (off:=c) (c':=Bb.set c (num (-1))) eY rfl (by simp) rfl rfl dH x7 (by show c + 1<=_;omega) rfl rfl fun A212 bT=>?_);have xV:=bT.k (fun q=>a5 (by rw [cX];exact Xk some q.symm)) eN;have y0:=bT.k (fun q=>a0 (by rw [cX];exact Xk some q.symm)) dW;have it:=eL.keep bT.keep (bM e5 (by rw [cX];rfl));have oW:=eG.keep bT.keep (aT e5 (by rw [cX];rfl));have oX:=eC.keep bT.keep (aV e5 (by rw [cX];rfl));have oY:=eA.keep bT.keep (aC e5 (by rw [cX];rfl));have oZ:=dO.keep bT.keep (aY e5 (by rw [cX];rfl));have oa:=dV.keep bT.keep (fun r hr=>ag r hr e5 (by rw [cX];rfl));have iv:=Az (num (-1)) A212 bT;rw [ji] at iv;have m3:=al m2 wf AP bT.n bT.keep;refine rr<|.nil<|xT<|.sq fun y1=>.region<|.J Z<|.J Z<|.J Z ?_;obtain ⟨CF,Di,CB,DD,Ck,Do,Dl,x2,AF,x8,BV,o1⟩:=bJ.at (i:=i) it.slc Oa O;refine Ops.p (au fk dH Z x2 Z AF)<|.p (ah fA Z Z x8 ((dt o1).trans (dT O)))<|.J Z<|.m (fun rA=>qJ Z Z (Ab (Q1.getD i 0) c A212 nJ O m3 bT.wf) ?_);rintro DV A229 ⟨rfl,bS,h5⟩;have g4:=bS.g xV;have ha:=bS.g y0;have fL:=iv.le bS;have eV:=it.le bS;have fM:=oW.le bS;have fN:=oX.le bS;have fO:=oY.le bS;have fQ:=oZ.le bS;have fI:=oa.le bS;have gl:=m3.trans bS;refine rA<|.J Z<|.p (aQ Z Z)<|.p (aQ Z Z)<|.I Z<|.I Z<|.nil<|y1<|.sq fun y2=>.sq fun y3=>?_;refine ak.region<|.J Z<|.p (eD Z)<|.nil<|y3<|.ifB Z (fun AZ=>?_) (fun AZ=>?_)
   ·refine ak.exit<|eZ<|.region<|.p (bF (b:=1) Z Z O)<|.J Z<|.nil ?_;exact ⟨⟨c + 1,r ++ [(-1)],o.set c ((-1)),Q1,fi,bl,es,ck,rv,bL,ab,a2⟩,vo Z Z Z Z Z Z Z Z Z Z Z,Z,⟨⟨by omega,TD hexp (by rw [<- hgi];exact Gw ‹_›),by simp;omega,by rw [ho,<- hrl];exact CM O,ev,f0,f1,hh,hg,hpre⟩,gl,fL,eV,fM,fN,fO,fQ,g4,ha,a5,bb,aa,a9,aB,az,a0,bC,a3,ai,a4,a1,bM,aT,aV,aC,aY,cH,cK,cc,cP,br,b8,bu,b9,bA,bO,fI,ba,a8,ag,bR,aI,aP,bB,bD⟩,O1⟩
   refine ak.skip<|y2<|.sq fun n7=>.region<|.J Z<|.J Z<|.m (fun lZ=>XL Z Z KQ u3 z3 g4 f1 (fun BY=>?_) (fun sP=>?_))
   ·refine lZ<|.J Z<|.p (aQ Z Z)<|.p (aQ Z Z)<|.I Z<|.I Z<|.nil<|n7<|.sq fun y4=>.sq fun y5=>?_;refine ak.region<|.J Z<|.p (eD Z)<|.nil<|y5<|.cond_false Z<|.skip<|y4<|.region<|.J Z ?_;refine Ops.J Z<|.J Z ?_;obtain ⟨e6,Ds,D1,Bc,Cp,cZ,nL,x9,E5,AR,DK,AA⟩:=fL.at1 (x:=c) Oz;rw [aJ] at nL;refine Ops.p (au fk dH Z cZ Z (by rw [nL];(try simp only [SK]);omega))<|.m (fun rB=>aW (off:=c) (c':=Bc.set c (num ((Q1.idxOf ((step (Q1.getD i 0) c).getD 0):Nat):Int))) h5 rfl (by simp) rfl rfl dH x9 (by show c + 1<=_;omega) rfl rfl fun A257 ch=>?_);have y6:=ch.k (fun q=>a5 (by rw [cZ];exact Xk some q.symm)) g4;have y7:=ch.k (fun q=>a0 (by rw [cZ];exact Xk some q.symm)) ha;have p0:=eV.keep ch.keep (bM e6 (by rw [cZ];rfl));have p3:=fM.keep ch.keep (aT e6 (by rw [cZ];rfl));have p5:=fN.keep ch.keep (aV e6 (by rw [cZ];rfl));have p6:=fO.keep ch.keep (aC e6 (by rw [cZ];rfl));have p7:=fQ.keep ch.keep (aY e6 (by rw [cZ];rfl));have ob:=fI.keep ch.keep (fun r hr=>ag r hr e6 (by rw [cZ];rfl));have iD:=AA (num ((Q1.idxOf ((step (Q1.getD i 0) c).getD 0):Nat):Int)) A257 ch;rw [ji] at iD;have sT:=al gl wf AR ch.n ch.keep;refine rB<|.nil<|eZ<|.region<|.p (bF (b:=1) Z Z O)<|.J Z<|.nil ?_;exact ⟨⟨c + 1,r ++ [(Q1.idxOf ((step (Q1.getD i 0) c).getD 0):Int)],(o.set c ((-1))).set c (((Q1.idxOf ((step (Q1.getD i 0) c).getD 0):Nat):Int)),Q1,fi,bl,es,ck,rv,bL,ab,a2⟩,vo Z Z Z Z Z Z Z Z Z Z Z,Z,⟨⟨by omega,YL hexp (by rw [<- hgi];exact lN ‹_›) ‹_›,by simp;omega,by rw [ho,<- hrl];exact uy O,ev,f0,f1,hh,hg,hpre⟩,sT,iD,p0,p3,p5,p6,p7,y6,y7,a5,bb,aa,a9,aB,az,a0,bC,a3,ai,a4,a1,bM,aT,aV,aC,aY,cH,cK,cc,cP,br,b8,bu,b9,bA,bO,ob,ba,a8,ag,bR,aI,aP,bB,bD⟩,O1⟩
   have gc:=ry ev sP;have g5:=so f0 (hDs _ _ _ nJ O (lN ‹(!(step (Q1.getD i 0) c).isSome)=false›));have Av:=hfin _ gc g5;rw [Xx,Tw] at Av;refine lZ<|.J Z<|.p (aQ Z Z)<|.p (aQ Z Z)<|.I Z<|.I Z<|.nil<|n7<|.sq fun hb=>.sq fun y8=>?_;refine ak.region<|.J Z<|.p (eD Z)<|.nil<|y8<|.cond_true Z<|.sq fun y9=>.region<|.J Z<|.p (bE (n:=Q1.length) fk Z eV.slc O (fy _)) ?_;refine Ops.I Z<|.nil<|y9<|.sq fun yt=>.sq fun yS=>.region<|.J Z<|.J Z<|.p (yA Z Z)<|.nil ?_;refine yS<|.if rfl (fun B0=>?_) (fun B0=>?_)
   ·refine ak.sq fun Dj=>?_;exfalso;omega
   refine ak.skip<|yt<|.sq fun yT=>.region<|.J Z<|.J Z<|.J Z<|.m (fun rF=>qw vA h5 rfl rfl rfl KQ u3 g4 f1 (by rw [yx];exact ev) fun A285 eQ fE bP ti=>?_);have hI:=fI.keep bP.keep ba;have f2:d9 num eQ (MH (Q1 ++ [((step (Q1.getD i 0) c).getD 0)])):=by rw [<- ZH ‹_›];exact ti
   refine rF<|.nil<|yT<|.sq fun z0=>.region<|.J Z<|.J Z<|.m (fun rO=>bf (c:=[num ((step (Q1.getD i 0) c).getD 0)]) bP.wf rfl (aw fk dH z3 rfl U U rfl) fun A304 CH aZ=>?_);have C2:=hI.ne_new bP.wf aZ.lo;have n9:=aZ.le.g bP.get;have nb:=aZ.le.g (bP.k aA ha);have iF:=(fL.keep bP.keep a5).le aZ.le;have iH:=(eV.keep bP.keep bb).le aZ.le;have iN:=(fM.keep bP.keep aa).le aZ.le;have iR:=(fN.keep bP.keep a9).le aZ.le;have iS:=(fO.keep bP.keep aB).le aZ.le;have iT:=(fQ.keep bP.keep az).le aZ.le;have hJ:=hI.le aZ.le;have sV:=(al gl wf h3 bP.n bP.keep).trans aZ.le;refine rO<|.m (fun rQ=>ct (ys:=[num ((step (Q1.getD i 0) c).getD 0)]) rfl rfl fk dH pd z3 rfl U fk (fun _ h=>by cases h) iH.own (bN (n:=1) aZ.get Z) rfl rfl (by show (_ + _) * 8<=_;simp only [aJ,Xq,Xz];(try simp only [Xx,Xq,Xz]);omega) O2 fun A324 dl ar=>?_);rw [show ([num ((step (Q1.getD i 0) c).getD 0)]:List Value)=dy [(step (Q1.getD i 0) c).getD 0] from rfl,eo] at ar;obtain ⟨iV,m6⟩:=Fresh.grow iH sV wf ar;have nc:=ar.keep bb n9;have gm:=ar.ne bb aZ.wf n9;have en:=ar.keep bC nb;have cV:=ar.ne bC aZ.wf nb;have dK:=bx.appd (show bx bL rv from (bx.symm bM)) iF.own aZ.wf ar;have iX:=iF.appd ar (bx.symm bM);have dL:=bx.appd (show bx bL ab from cH) iN.own aZ.wf ar;have fR:=iN.appd ar cH;have dM:=bx.appd (show bx bL a2 from cK) iR.own aZ.wf ar;have j1:=iR.appd ar cK;have gY:=bx.appd (show bx bL nv from cc) iS.own aZ.wf ar;have j2:=iS.appd ar cc;have gZ:=bx.appd (show bx bL (.slice aF aE aD) from cP) iT.own aZ.wf ar;have j3:=iT.appd ar cP;have h0:=be.appd (show be bL rw from bR) hJ aZ.wf ar;have eS:=hJ.appd ar (show be bL rw from bR);refine rQ<|.I Z<|.nil<|z0<|.drawnT (.one 0 (.one 1 (.one 2 (.one 3 (.one 4 (.one 5 (.one 6 (.one 9 (.one 10 (.one 11 (.one 12 (.one 13 (.two 7 14 (.two 8 14 (.one 14 (.one 15 (.one 16 (.one 17 (.one 18 (.one 19 (.one 20 (.one 21 (.done))))))))) (.one 8 (.one 15 (.one 16 (.one 17 (.one 18 (.one 19 (.one 20 (.one 21 (.done)))))))))) (.one 7 (.one 8 (.one 15 (.one 16 (.one 17 (.one 18 (.one 19 (.one 20 (.one 21 (.done))))))))))))))))))))))) mixed Y Y Z ?_;refine dh.q Z Z Z (aN Z) ?_;refine dh.q Z Z Z (aN Z) ?_;refine dh.q Z Z Z (aN Z) ?_;refine dh.q Z Z Z (du Z) ?_;refine dh.q Z Z Z (ae uz gU U Z) ?_;have lP:=de (off:=3) en (show _=some (ab) from rfl);refine dh.q Z Z Z (ah nI Z Z en Z) ?_;refine dh.q Z Z Z (aN Z) ?_;refine dh.q Z Z Z (aN Z) ?_;refine dh.q Z Z Z (du Z) ?_;refine dh.q Z Z Z (ae uA gU U Z) ?_;have lR:=de (off:=4) en (show _=some (a2) from rfl);refine dh.q Z Z Z (ah nI Z Z en Z) ?_;refine dh.q Z Z Z (aN Z) ?_;refine dh.both Z Z Z Z Z Z ?_ ?_
   ·refine fun _ _ rR _=>bf (c:=[num ((i:Nat):Int)]) ar.wf rfl (aw fk dH z3 rfl U U rfl) fun A351 CK ad=>?_;have C3:=eS.ne_new ar.wf ad.lo;have hd:=ad.le.g nc;have he:=ad.le.g en;have fS:=iX.le ad.le;have eX:=fR.le ad.le;have fT:=j1.le ad.le;have fV:=j2.le ad.le;have fX:=j3.le ad.le;have g0:=iV.le ad.le;have eT:=eS.le ad.le;have lS:=cl ad.le lP;have g6:=cl ad.le lR;have ma:=m6.trans ad.le;refine rR _ _ (aU.list (L:=[(⟨b6,4,none⟩,a2),(⟨b6,3,none⟩,ab)]) Y (bz g6 (bz lS cm))) ?_;refine dh.both Z Z Z Z Z Z ?_ ?_
    ·refine fun _ _ rS _=>ct (ys:=[num ((i:Nat):Int)]) rfl rfl fk dH pd z3 rfl U fk (fun _ h=>by cases h) eX.own (bN (n:=1) ad.get Z) rfl rfl (by show (_ + _) * 8<=_;simp only [aJ,Xq,Xz];(try simp only [Xx,Xq,Xz]);omega) O2 fun A373 Bm aG=>?_;rw [show ([num ((i:Nat):Int)]:List Value)=dy [((i:Nat):Int)] from rfl,eo] at aG;obtain ⟨p8,sZ⟩:=Fresh.grow eX ma wf aG;have tr:=aG.ne aa ad.wf hd;have gp:=aG.ne a3 ad.wf he;have mt:=bx.appd (show bx ab rv from (bx.symm aT)) fS.own ad.wf aG;have mv:=bx.appd (show bx ab a2 from br) fT.own ad.wf aG;have ub:=bx.appd (show bx ab nv from b8) fV.own ad.wf aG;have ui:=bx.appd (show bx ab (.slice aF aE aD) from bu) fX.own ad.wf aG;have up:=bx.appd (show bx ab dl from (bx.symm dL)) g0.own ad.wf aG;have us:=be.appd (show be ab rw from aI) eT ad.wf aG;have hK:=eT.appd aG (show be ab rw from aI);have lT:=aG.cell a3 g6;refine rS _ _ (aU.list (L:=[(⟨b6,4,none⟩,a2)]) Y (bz lT cm)) ?_;refine dh.l Z Z Z (fun _ _ rT _=>bf (c:=[num ((c:Nat):Int)]) aG.wf rfl (aw fk dH z3 rfl U U rfl) fun A400 CL aR=>?_);have C4:=hK.ne_new aG.wf aR.lo;have nd:=aR.le.g (aG.keep aa hd);have nj:=aR.le.g (aG.keep a3 he);have j4:=(fS.appd aG (bx.symm aT)).le aR.le;have jn:=(fT.appd aG br).le aR.le;have jN:=(fV.appd aG b8).le aR.le;have jX:=(fX.appd aG bu).le aR.le;have k0:=(g0.appd aG (bx.symm dL)).le aR.le;have k1:=p8.le aR.le;have hL:=hK.le aR.le;refine rT _ _ (aU.list (L:=[(⟨b6,4,none⟩,a2)]) Y (bz (cl aR.le lT) cm)) ?_;refine dh.l Z Z Z (fun _ _ rV _=>ct (ys:=[num ((c:Nat):Int)]) rfl rfl fk dH pd z3 rfl U fk (fun _ h=>by cases h) jn.own (bN (n:=1) aR.get Z) rfl rfl (by show (_ + _) * 8<=_;simp only [aJ,Xq,Xz];(try simp only [Xx,Xq,Xz]);omega) O2 fun A421 DW b1=>?_);rw [show ([num ((c:Nat):Int)]:List Value)=dy [((c:Nat):Int)] from rfl,eo] at b1;obtain ⟨p9,t0⟩:=Fresh.grow jn (sZ.trans aR.le) wf b1;have tt:=b1.ne a9 aR.wf nd;have gq:=b1.ne ai aR.wf nj;have mx:=bx.appd (show bx a2 rv from (bx.symm aV)) j4.own aR.wf b1;have uw:=bx.appd (show bx a2 nv from b9) jN.own aR.wf b1;have uB:=bx.appd (show bx a2 (.slice aF aE aD) from bA) jX.own aR.wf b1;have uI:=bx.appd (show bx a2 dl from (bx.symm dM)) k0.own aR.wf b1;have uP:=bx.appd (show bx a2 Bm from (bx.symm mv)) k1.own aR.wf b1;have k2:=k1.appd b1 (bx.symm mv);have uS:=be.appd (show be a2 rw from aP) hL aR.wf b1;have oi:=hL.appd b1 (show be a2 rw from aP);refine rV _ _ (aU.none Y) ?_;refine dh.q Z Z Z (du Z) ?_;refine dh.q Z Z Z (ae uz gU U Z) ?_;obtain ⟨gQ,ge,fr,B3,_⟩:=k2.own.slice;subst B3;refine dh.l Z Z Z (fun _ _ rW _=>aW (cs:=[.slice gQ ge fr]) (c':=[num ((k:Nat):Int),.slice aF aE aD,nv,.slice gQ ge fr,a2]) b1.wf rfl rfl rfl rfl gU (b1.keep ai nj) G rfl rfl fun A447 bU=>?_);have pa:=(j4.appd b1 (bx.symm aV)).keep bU.keep a0;have pe:=(jN.appd b1 b9).keep bU.keep a4;have pf:=(jX.appd b1 bA).keep bU.keep a1;have pi:=(k0.appd b1 (bx.symm dM)).keep bU.keep cV;have k3:=p9.keep bU.keep gq;have oj:=oi.keep bU.keep a8;refine rW _ _ (aU.none Y) ?_;refine dh.q Z Z Z (du Z) ?_;refine dh.q Z Z Z (ae uA gU U Z) ?_;obtain ⟨hu,hl,h6,B4,_⟩:=k3.own.slice;subst B4;refine dh.l Z Z Z (fun _ _ s1 _=>aW (cs:=[.slice hu hl h6]) (c':=[num ((k:Nat):Int),.slice aF aE aD,nv,.slice gQ ge fr,.slice hu hl h6]) bU.wf rfl rfl rfl rfl gU bU.get G rfl rfl fun A460 bV=>?_);have z1:=bV.k aA.symm (bU.k aA.symm (b1.keep a9 nd));have pj:=pa.keep bV.keep a0;have pl:=pe.keep bV.keep a4;have pp:=pf.keep bV.keep a1;have pu:=pi.keep bV.keep cV;have pv:=(k2.keep bU.keep gp).keep bV.keep gp;have pA:=k3.keep bV.keep gq;have ok:=oj.keep bV.keep a8;refine s1 _ _ (aU.none Y) ?_;refine dh.done ?_;refine hb<|.region<|.J Z<|.J Z<|.J Z ?_;obtain ⟨e7,Dv,D2,Bd,Cq,d0,nM,xa,E6,AS,DL,AB⟩:=pj.at1 (x:=c) Oz;rw [aJ] at nM;refine Ops.p (au fk dH Z d0 Z (by rw [nM];(try simp only [SK]);omega))<|.m (fun s2=>aW (off:=c) (c':=Bd.set c (num ((Q1.length:Nat):Int))) bV.wf rfl (by simp) rfl rfl dH xa (by show c + 1<=_;omega) rfl rfl fun A473 cu=>?_);have z2:=cu.k (fun q=>a5 (by rw [d0];exact Xk some q.symm)) z1;have zi:=cu.k (fun q=>a0 (by rw [d0];exact Xk some q.symm)) bV.get;have pE:=pl.keep cu.keep (aC e7 (by rw [d0];rfl));have pF:=pp.keep cu.keep (aY e7 (by rw [d0];rfl));have pI:=pu.keep cu.keep ((bx.symm dK) e7 (by rw [d0];rfl));have pJ:=pv.keep cu.keep ((bx.symm mt) e7 (by rw [d0];rfl));have pL:=pA.keep cu.keep ((bx.symm mx) e7 (by rw [d0];rfl));have ov:=ok.keep cu.keep (fun r hr=>ag r hr e7 (by rw [d0];rfl));have k4:=AB (num ((Q1.length:Nat):Int)) A473 cu;rw [ji] at k4;have t1:=al (al (al t0 wf cf bU.n bU.keep) wf cf bV.n bV.keep) wf AS cu.n cu.keep;refine s2<|.nil<|eZ<|.region<|.p (bF (b:=1) Z Z O)<|.J Z<|.nil ?_;exact ⟨⟨c + 1,r ++ [(Q1.length:Int)],(o.set c ((-1))).set c (((Q1.length:Nat):Int)),Q1 ++ [(step (Q1.getD i 0) c).getD 0],fi ++ [((i:Nat):Int)],bl ++ [((c:Nat):Int)],eQ,fE,rv,dl,.slice gQ ge fr,.slice hu hl h6⟩,vo Z Z Z Z Z Z Z Z Z Z Z,Z,⟨⟨by omega,CI hexp (by rw [<- hgi];exact lN ‹_›) ‹_›,by simp;omega,by rw [ho,<- hrl];exact uy O,gc,g5,f2,by simp;omega,by simp;omega,hpre.trans (Rw _ _)⟩,t1,k4,pI,pJ,pL,pE,pF,z2,zi,a5,gm,tr,tt,aB,az,a0,cV,gp,gq,a4,a1,(bx.symm dK),(bx.symm mt),(bx.symm mx),aC,aY,(bx.symm up),(bx.symm uI),gY,gZ,(bx.symm uP),ub,ui,uw,uB,bO,ov,ba,a8,ag,h0,us,uS,bB,bD⟩,O1⟩
    refine fun _ _ s3 _=>bf (c:=[num ((c:Nat):Int)]) ad.wf rfl (aw fk dH z3 rfl U U rfl) fun A487 CR ap=>?_;have C7:=eT.ne_new ad.wf ap.lo;have nk:=ap.le.g hd;have nl:=ap.le.g he;have zs:=ap.le.g ad.get;have k5:=fS.le ap.le;have k6:=eX.le ap.le;have k7:=fT.le ap.le;have k9:=fV.le ap.le;have ka:=fX.le ap.le;have kc:=g0.le ap.le;have hM:=eT.le ap.le;have lV:=cl ap.le g6;refine s3 _ _ (aU.list (L:=[(⟨b6,4,none⟩,a2),(⟨b6,3,none⟩,ab)]) Y (bz lV (bz (cl ap.le lS) cm))) ?_;refine dh.l Z Z Z (fun _ _ s4 _=>ct (ys:=[num ((i:Nat):Int)]) rfl rfl fk dH pd z3 rfl U fk (fun _ h=>by cases h) k6.own (bN (n:=1) zs Z) rfl rfl (by show (_ + _) * 8<=_;simp only [aJ,Xq,Xz];(try simp only [Xx,Xq,Xz]);omega) O2 fun A510 Bo a6=>?_);rw [show ([num ((i:Nat):Int)]:List Value)=dy [((i:Nat):Int)] from rfl,eo] at a6;obtain ⟨kl,t2⟩:=Fresh.grow k6 (ma.trans ap.le) wf a6;have nn:=a6.keep aa nk;have tv:=a6.ne aa ap.wf nk;have nq:=a6.keep a3 nl;have gs:=a6.ne a3 ap.wf nl;have zu:=a6.keep (eX.own.ne_new ad.wf ap.lo) ap.get;have mA:=bx.appd (show bx ab rv from (bx.symm aT)) k5.own ap.wf a6;have km:=k5.appd a6 (bx.symm aT);have mB:=bx.appd (show bx ab a2 from br) k7.own ap.wf a6;have kp:=k7.appd a6 br;have uW:=bx.appd (show bx ab nv from b8) k9.own ap.wf a6;have kv:=k9.appd a6 b8;have v0:=bx.appd (show bx ab (.slice aF aE aD) from bu) ka.own ap.wf a6;have kA:=ka.appd a6 bu;have v1:=bx.appd (show bx ab dl from (bx.symm dL)) kc.own ap.wf a6;have kC:=kc.appd a6 (bx.symm dL);have v2:=be.appd (show be ab rw from aI) hM ap.wf a6;have hN:=hM.appd a6 (show be ab rw from aI);refine s4 _ _ (aU.list (L:=[(⟨b6,4,none⟩,a2)]) Y (bz (a6.cell a3 lV) cm)) ?_;refine dh.l Z Z Z (fun _ _ s5 _=>ct (ys:=[num ((c:Nat):Int)]) rfl rfl fk dH pd z3 rfl U fk (fun _ h=>by cases h) kp.own (bN (n:=1) zu Z) rfl rfl (by show (_ + _) * 8<=_;simp only [aJ,Xq,Xz];(try simp only [Xx,Xq,Xz]);omega) O2 fun A538 DZ b2=>?_);rw [show ([num ((c:Nat):Int)]:List Value)=dy [((c:Nat):Int)] from rfl,eo] at b2;obtain ⟨pP,t3⟩:=Fresh.grow kp t2 wf b2;have tw:=b2.ne a9 a6.wf nn;have gA:=b2.ne ai a6.wf nq;have mE:=bx.appd (show bx a2 rv from (bx.symm aV)) km.own a6.wf b2;have v3:=bx.appd (show bx a2 nv from b9) kv.own a6.wf b2;have v4:=bx.appd (show bx a2 (.slice aF aE aD) from bA) kA.own a6.wf b2;have v5:=bx.appd (show bx a2 dl from (bx.symm dM)) kC.own a6.wf b2;have v6:=bx.appd (show bx a2 Bo from (bx.symm mB)) kl.own a6.wf b2;have kD:=kl.appd b2 (bx.symm mB);have v7:=be.appd (show be a2 rw from aP) hN a6.wf b2;have ow:=hN.appd b2 (show be a2 rw from aP);refine s5 _ _ (aU.none Y) ?_;refine dh.q Z Z Z (du Z) ?_;refine dh.q Z Z Z (ae uz gU U Z) ?_;obtain ⟨gS,gf,ft,B5,_⟩:=kD.own.slice;subst B5;refine dh.l Z Z Z (fun _ _ s6 _=>aW (cs:=[.slice gS gf ft]) (c':=[num ((k:Nat):Int),.slice aF aE aD,nv,.slice gS gf ft,a2]) b2.wf rfl rfl rfl rfl gU (b2.keep ai nq) G rfl rfl fun A564 bY=>?_);have pS:=(km.appd b2 (bx.symm aV)).keep bY.keep a0;have pU:=(kv.appd b2 b9).keep bY.keep a4;have pV:=(kA.appd b2 bA).keep bY.keep a1;have q0:=(kC.appd b2 (bx.symm dM)).keep bY.keep cV;have kK:=pP.keep bY.keep gA;have ox:=ow.keep bY.keep a8;refine s6 _ _ (aU.none Y) ?_;refine dh.q Z Z Z (du Z) ?_;refine dh.q Z Z Z (ae uA gU U Z) ?_;obtain ⟨hv,hn,h7,B6,_⟩:=kK.own.slice;subst B6;refine dh.l Z Z Z (fun _ _ sb _=>aW (cs:=[.slice hv hn h7]) (c':=[num ((k:Nat):Int),.slice aF aE aD,nv,.slice gS gf ft,.slice hv hn h7]) bY.wf rfl rfl rfl rfl gU bY.get G rfl rfl fun A577 c3=>?_);have zE:=c3.k aA.symm (bY.k aA.symm (b2.keep a9 nn));have q1:=pS.keep c3.keep a0;have q2:=pU.keep c3.keep a4;have q3:=pV.keep c3.keep a1;have q4:=q0.keep c3.keep cV;have q5:=(kD.keep bY.keep gs).keep c3.keep gs;have q6:=kK.keep c3.keep gA;have oy:=ox.keep c3.keep a8;refine sb _ _ (aU.none Y) ?_;refine dh.done ?_;refine hb<|.region<|.J Z<|.J Z<|.J Z ?_;obtain ⟨e9,Dw,D3,Bk,Cs,d1,nN,xf,E7,AT,DM,AC⟩:=q1.at1 (x:=c) Oz;rw [aJ] at nN;refine Ops.p (au fk dH Z d1 Z (by rw [nN];(try simp only [SK]);omega))<|.m (fun sf=>aW (off:=c) (c':=Bk.set c (num ((Q1.length:Nat):Int))) c3.wf rfl (by simp) rfl rfl dH xf (by show c + 1<=_;omega) rfl rfl fun A590 cv=>?_);have zI:=cv.k (fun q=>a5 (by rw [d1];exact Xk some q.symm)) zE;have zS:=cv.k (fun q=>a0 (by rw [d1];exact Xk some q.symm)) c3.get;have q7:=q2.keep cv.keep (aC e9 (by rw [d1];rfl));have q8:=q3.keep cv.keep (aY e9 (by rw [d1];rfl));have q9:=q4.keep cv.keep ((bx.symm dK) e9 (by rw [d1];rfl));have qa:=q5.keep cv.keep ((bx.symm mA) e9 (by rw [d1];rfl));have qb:=q6.keep cv.keep ((bx.symm mE) e9 (by rw [d1];rfl));have oz:=oy.keep cv.keep (fun r hr=>ag r hr e9 (by rw [d1];rfl));have kL:=AC (num ((Q1.length:Nat):Int)) A590 cv;rw [ji] at kL;have t4:=al (al (al t3 wf cf bY.n bY.keep) wf cf c3.n c3.keep) wf AT cv.n cv.keep;refine sf<|.nil<|eZ<|.region<|.p (bF (b:=1) Z Z O)<|.J Z<|.nil ?_;exact ⟨⟨c + 1,r ++ [(Q1.length:Int)],(o.set c ((-1))).set c (((Q1.length:Nat):Int)),Q1 ++ [(step (Q1.getD i 0) c).getD 0],fi ++ [((i:Nat):Int)],bl ++ [((c:Nat):Int)],eQ,fE,rv,dl,.slice gS gf ft,.slice hv hn h7⟩,vo Z Z Z Z Z Z Z Z Z Z Z,Z,⟨⟨by omega,CI hexp (by rw [<- hgi];exact lN ‹_›) ‹_›,by simp;omega,by rw [ho,<- hrl];exact uy O,gc,g5,f2,by simp;omega,by simp;omega,hpre.trans (Rw _ _)⟩,t4,kL,q9,qa,qb,q7,q8,zI,zS,a5,gm,tv,tw,aB,az,a0,cV,gs,gA,a4,a1,(bx.symm dK),(bx.symm mA),(bx.symm mE),aC,aY,(bx.symm v1),(bx.symm v5),gY,gZ,(bx.symm v6),uW,v0,v3,v4,bO,oz,ba,a8,ag,h0,v2,v7,bB,bD⟩,O1⟩
   refine fun _ _ sm _=>bf (c:=[num ((c:Nat):Int)]) ar.wf rfl (aw fk dH z3 rfl U U rfl) fun A604 CS bp=>?_;have Cb:=eS.ne_new ar.wf bp.lo;have hO:=eS.le bp.le;have lW:=cl bp.le lP;have lX:=cl bp.le lR;refine sm _ _ (aU.list (L:=[(⟨b6,4,none⟩,a2),(⟨b6,3,none⟩,ab)]) Y (bz lX (bz lW cm))) ?_;refine dh.l Z Z Z (fun _ _ sr _=>bf (c:=[num ((i:Nat):Int)]) bp.wf rfl (aw fk dH z3 rfl U U rfl) fun A627 CU ay=>?_);have Cc:=hO.ne_new bp.wf ay.lo;have nu:=ay.le.g (bp.le.g nc);have nB:=ay.le.g (bp.le.g en);have kM:=(iX.le bp.le).le ay.le;have kP:=(fR.le bp.le).le ay.le;have kT:=(j1.le bp.le).le ay.le;have kV:=(j2.le bp.le).le ay.le;have l0:=(j3.le bp.le).le ay.le;have l1:=(iV.le bp.le).le ay.le;have hP:=hO.le ay.le;have lY:=cl ay.le lX;have t5:=(m6.trans bp.le).trans ay.le;refine sr _ _ (aU.list (L:=[(⟨b6,4,none⟩,a2),(⟨b6,3,none⟩,ab)]) Y (bz lY (bz (cl ay.le lW) cm))) ?_;refine dh.l Z Z Z (fun _ _ ss _=>ct (ys:=[num ((i:Nat):Int)]) rfl rfl fk dH pd z3 rfl U fk (fun _ h=>by cases h) kP.own (bN (n:=1) ay.get Z) rfl rfl (by show (_ + _) * 8<=_;simp only [aJ,Xq,Xz];(try simp only [Xx,Xq,Xz]);omega) O2 fun A650 Bp a7=>?_);rw [show ([num ((i:Nat):Int)]:List Value)=dy [((i:Nat):Int)] from rfl,eo] at a7;obtain ⟨l4,t6⟩:=Fresh.grow kP t5 wf a7;have nC:=a7.keep aa nu;have tz:=a7.ne aa ay.wf nu;have nD:=a7.keep a3 nB;have gC:=a7.ne a3 ay.wf nB;have zU:=a7.keep (fR.own.ne_new ar.wf bp.lo) (ay.le.g bp.get);have mK:=bx.appd (show bx ab rv from (bx.symm aT)) kM.own ay.wf a7;have l6:=kM.appd a7 (bx.symm aT);have mM:=bx.appd (show bx ab a2 from br) kT.own ay.wf a7;have l7:=kT.appd a7 br;have v8:=bx.appd (show bx ab nv from b8) kV.own ay.wf a7;have l9:=kV.appd a7 b8;have v9:=bx.appd (show bx ab (.slice aF aE aD) from bu) l0.own ay.wf a7;have la:=l0.appd a7 bu;have vC:=bx.appd (show bx ab dl from (bx.symm dL)) l1.own ay.wf a7;have lb:=l1.appd a7 (bx.symm dL);have vS:=be.appd (show be ab rw from aI) hP ay.wf a7;have hQ:=hP.appd a7 (show be ab rw from aI);refine ss _ _ (aU.list (L:=[(⟨b6,4,none⟩,a2)]) Y (bz (a7.cell a3 lY) cm)) ?_;refine dh.l Z Z Z (fun _ _ sv _=>ct (ys:=[num ((c:Nat):Int)]) rfl rfl fk dH pd z3 rfl U fk (fun _ h=>by cases h) l7.own (bN (n:=1) zU Z) rfl rfl (by show (_ + _) * 8<=_;simp only [aJ,Xq,Xz];(try simp only [Xx,Xq,Xz]);omega) O2 fun A678 E2 b3=>?_);rw [show ([num ((c:Nat):Int)]:List Value)=dy [((c:Nat):Int)] from rfl,eo] at b3;obtain ⟨qd,t7⟩:=Fresh.grow l7 t6 wf b3;have tB:=b3.ne a9 a7.wf nC;have gD:=b3.ne ai a7.wf nD;have mT:=bx.appd (show bx a2 rv from (bx.symm aV)) l6.own a7.wf b3;have vX:=bx.appd (show bx a2 nv from b9) l9.own a7.wf b3;have vZ:=bx.appd (show bx a2 (.slice aF aE aD) from bA) la.own a7.wf b3;have w0:=bx.appd (show bx a2 dl from (bx.symm dM)) lb.own a7.wf b3;have w1:=bx.appd (show bx a2 Bp from (bx.symm mM)) l4.own a7.wf b3;have lc:=l4.appd b3 (bx.symm mM);have w2:=be.appd (show be a2 rw from aP) hQ a7.wf b3;have oA:=hQ.appd b3 (show be a2 rw from aP);refine sv _ _ (aU.none Y) ?_;refine dh.q Z Z Z (du Z) ?_;refine dh.q Z Z Z (ae uz gU U Z) ?_;obtain ⟨gX,gg,fD,B7,_⟩:=lc.own.slice;subst B7;refine dh.l Z Z Z (fun _ _ sz _=>aW (cs:=[.slice gX gg fD]) (c':=[num ((k:Nat):Int),.slice aF aE aD,nv,.slice gX gg fD,a2]) b3.wf rfl rfl rfl rfl gU (b3.keep ai nD) G rfl rfl fun A704 c4=>?_);have qp:=(l6.appd b3 (bx.symm aV)).keep c4.keep a0;have qr:=(l9.appd b3 b9).keep c4.keep a4;have qt:=(la.appd b3 bA).keep c4.keep a1;have qu:=(lb.appd b3 (bx.symm dM)).keep c4.keep cV;have lp:=qd.keep c4.keep gD;have oB:=oA.keep c4.keep a8;refine sz _ _ (aU.none Y) ?_;refine dh.q Z Z Z (du Z) ?_;refine dh.q Z Z Z (ae uA gU U Z) ?_;obtain ⟨hw,hp,h8,B8,_⟩:=lp.own.slice;subst B8;refine dh.l Z Z Z (fun _ _ sB _=>aW (cs:=[.slice hw hp h8]) (c':=[num ((k:Nat):Int),.slice aF aE aD,nv,.slice gX gg fD,.slice hw hp h8]) c4.wf rfl rfl rfl rfl gU c4.get G rfl rfl fun A717 c7=>?_);have zV:=c7.k aA.symm (c4.k aA.symm (b3.keep a9 nC));have qA:=qp.keep c7.keep a0;have qB:=qr.keep c7.keep a4;have qD:=qt.keep c7.keep a1;have qN:=qu.keep c7.keep cV;have qP:=(lc.keep c4.keep gC).keep c7.keep gC;have qR:=lp.keep c7.keep gD;have oF:=oB.keep c7.keep a8;refine sB _ _ (aU.none Y) ?_;refine dh.done ?_;refine hb<|.region<|.J Z<|.J Z<|.J Z ?_;obtain ⟨ea,Dz,Dd,Bl,Cu,d2,nO,xn,E9,AV,DO,AD⟩:=qA.at1 (x:=c) Oz;rw [aJ] at nO;refine Ops.p (au fk dH Z d2 Z (by rw [nO];(try simp only [SK]);omega))<|.m (fun sD=>aW (off:=c) (c':=Bl.set c (num ((Q1.length:Nat):Int))) c7.wf rfl (by simp) rfl rfl dH xn (by show c + 1<=_;omega) rfl rfl fun A730 cA=>?_);have A5:=cA.k (fun q=>a5 (by rw [d2];exact Xk some q.symm)) zV;have A6:=cA.k (fun q=>a0 (by rw [d2];exact Xk some q.symm)) c7.get;have qT:=qB.keep cA.keep (aC ea (by rw [d2];rfl));have qU:=qD.keep cA.keep (aY ea (by rw [d2];rfl));have qV:=qN.keep cA.keep ((bx.symm dK) ea (by rw [d2];rfl));have r1:=qP.keep cA.keep ((bx.symm mK) ea (by rw [d2];rfl));have r2:=qR.keep cA.keep ((bx.symm mT) ea (by rw [d2];rfl));have oI:=oF.keep cA.keep (fun r hr=>ag r hr ea (by rw [d2];rfl));have lt:=AD (num ((Q1.length:Nat):Int)) A730 cA;rw [ji] at lt;have t8:=al (al (al t7 wf cf c4.n c4.keep) wf cf c7.n c7.keep) wf AV cA.n cA.keep;refine sD<|.nil<|eZ<|.region<|.p (bF (b:=1) Z Z O)<|.J Z<|.nil ?_;exact ⟨⟨c + 1,r ++ [(Q1.length:Int)],(o.set c ((-1))).set c (((Q1.length:Nat):Int)),Q1 ++ [(step (Q1.getD i 0) c).getD 0],fi ++ [((i:Nat):Int)],bl ++ [((c:Nat):Int)],eQ,fE,rv,dl,.slice gX gg fD,.slice hw hp h8⟩,vo Z Z Z Z Z Z Z Z Z Z Z,Z,⟨⟨by omega,CI hexp (by rw [<- hgi];exact lN ‹_›) ‹_›,by simp;omega,by rw [ho,<- hrl];exact uy O,gc,g5,f2,by simp;omega,by simp;omega,hpre.trans (Rw _ _)⟩,t8,lt,qV,r1,r2,qT,qU,A5,A6,a5,gm,tz,tB,aB,az,a0,cV,gC,gD,a4,a1,(bx.symm dK),(bx.symm mK),(bx.symm mT),aC,aY,(bx.symm vC),(bx.symm w0),gY,gZ,(bx.symm w1),v8,v9,vX,vZ,bO,oI,ba,a8,ag,h0,vS,w2,bB,bD⟩,O1⟩
  refine ak.exit<|xA<|.region<|.J Z<|.J Z<|.p (du Z)<|.p (ae sh jM U Z)<|.p (ah ln Z Z dW Z)<|.J Z ?_;obtain ⟨ez,ex,ec,B9,_⟩:=d3.own.slice;subst B9;refine Ops.m (fun sF=>bf (c:=[.slice ez ex ec]) eY rfl (aw qq gU RC rfl U U rfl) fun A744 CV aS=>?_);have tJ:=dV.ne_new eY aS.lo;have nE:=aS.le.g eN;have nH:=aS.le.g dW;have lw:=d3.le aS.le;have lA:=eL.le aS.le;have lB:=eG.le aS.le;have lC:=eC.le aS.le;have lE:=eA.le aS.le;have lF:=dO.le aS.le;have hR:=dV.le aS.le;refine sF<|.m (fun sM=>ct (ys:=[.slice ez ex ec]) rfl rfl qq gU LQ RC rfl U qq (fun _ h=>by cases h) lE.own (bN (n:=1) aS.get Z) rfl rfl (by show (_ + _) * 24<=_;simp only [cJ,Xq,Xz];(try simp only [Xx,Xq,Xz]);omega) OF fun A765 E3 b5=>?_);rw [show ([.slice ez ex ec]:List Value)=fh [Value.slice ez ex ec] from rfl,rH] at b5;obtain ⟨lK,t9⟩:=Fresh.grow lE (m2.trans aS.le) wf b5;have tF:=b5.ne aB aS.wf nE;have me:=b5.ne a4 aS.wf nH;have w3:=bx.appd (show bx nv bL from (bx.symm cc)) lA.own aS.wf b5;have w4:=bx.appd (show bx nv ab from (bx.symm b8)) lB.own aS.wf b5;have w5:=bx.appd (show bx nv a2 from (bx.symm b9)) lC.own aS.wf b5;have w6:=bx.appd (show bx nv (.slice aF aE aD) from bO) lF.own aS.wf b5;have oJ:=hR.appd b5 (show be nv rw from bB);have oK:=oJ.snoc (lw.appd b5 (bx.symm aC)) ag;have tO:=ba.snoc a5;have mm:=a8.snoc a0;have Cf:=tJ.snoc (d3.own.ne_new eY aS.lo);have w7:=bR.snoc (bx.symm bM);have wc:=aI.snoc (bx.symm aT);have wl:=aP.snoc (bx.symm aV);have wm:=bD.snoc (bx.symm aY);have wp:=(be.appd (show be nv rw from bB) hR aS.wf b5).snoc (bx.appd (show bx nv (.slice ez ex ec) from (bx.symm aC)) lw.own aS.wf b5);refine sM<|.p (du Z)<|.p (ae sh jM U Z) ?_;obtain ⟨hx,hs,h9,Ba,_⟩:=lK.own.slice;subst Ba;refine Ops.m (fun sN=>aW (cs:=[.slice hx hs h9]) (c':=[num ((k:Nat):Int),.slice aF aE aD,.slice hx hs h9,ab,a2]) b5.wf rfl rfl rfl rfl jM (b5.keep a4 nH) G rfl rfl fun A799 cC=>?_);have A8:=cC.k aA.symm (b5.keep aB nE);have r3:=(lA.appd b5 (bx.symm cc)).keep cC.keep bC;have r4:=(lB.appd b5 (bx.symm b8)).keep cC.keep a3;have r6:=(lC.appd b5 (bx.symm b9)).keep cC.keep ai;have r7:=(lF.appd b5 bO).keep cC.keep a1;have r9:=lK.keep cC.keep me;have oN:=oK.keep cC.keep mm;have tb:=al t9 wf cf cC.n cC.keep;refine sN<|.nil ?_;have fmR:=oH oN (show R ++ [o]=R ++ [r] from by rw [ho,show k - c=0 by omega];simp);refine BL<|.region<|.J Z<|.p (bF (b:=1) Z Z O)<|.I Z<|.nil ?_;exact ⟨⟨i + 1,Q1,ac ++ [accf (Q.getD i 0)],fi,bl,es,ck,f - 1,bL,.slice aF aE aD,.slice hx hs h9,ab,a2,rw ++ [Value.slice ez ex ec],R ++ [r]⟩,zZ Z Z Z Z Z Z Z Z,Z,⟨⟨by omega,by rw [hac,Vr hpre (show i + 1<=Q.length by omega)];exact uJ (z:=(0:Int)) accf O,ev,f0,f1,Fz O O hex (by rw [<- show c=k by omega];exact hexp),by omega,hh,hg,by simp;omega⟩,tb,r3,r7,r9,r4,r6,A8,cC.get,bb,az,tF,aa,a9,bC,a1,me,a3,ai,cP,(bx.symm w3),cH,cK,(bx.symm w6),(bx.symm bu),(bx.symm bA),w4,w5,br,fmR,tO,mm,w7,wm,wp,wc,wl⟩,O1⟩
 refine ak.exit<|BA<|.sq fun A9=>.region<|.J Z<|.I Z<|.I Z<|.nil<|A9<|.rt (by exact aH Z (⟨b6,_,_,_,_,_,Z,ht,nV,dJ,cf,ce fm (Xk cy (by rw [hac,VX O,<- hex,yb O O])),fn,oH fo (by rw [<- hex,yb O O]),dj,dk,dd,e0,di,e1⟩))
theorem sU:ef prog 62=some true:=by kernel_rfl
theorem lg:dY prog 62=some 4:=by kernel_rfl
theorem W9 (s:Int) (c:Nat) (b cap:Nat) (rw:Bool) (k:Nat) (acc:List Bool) (L:List (List Int)) (av nv:Value) (rows:List Value) (A:AH) (hb:A.get b=some (.row rw [num (k:Int),num ((0:Nat):Int),av,nv] cap)) (hok:RD k acc L) (hav:bJ A 1 av (cy acc)) (hnv:bJ A 1 nv (fh rows)) (hrl:rows.length=L.length) (hF:∀ i,i < L.length->bJ A 1 (rows.getD i undef) (dy (L.getD i []))) (hs:s < L.length) (hc:c < k):bH prog 150 #[num (s),num ((c:Nat):Int),.pointer (some ⟨b,0,none⟩)] A (fun v A1=>v=.tuple #[num ((qe L s c).getD 0),.bool (qe L s c).isSome]/\A.le A1/\A1.wf):=by
 refine bi (e:=[(0,num (s)),(1,num ((c:Nat):Int)),(2,.pointer (some ⟨b,0,none⟩))]) (args:=[num (s),num ((c:Nat):Int),.pointer (some ⟨b,0,none⟩)]) call150 func150 Z results150 ntmps150 Z Z Z (fun wf=>?_);have h:=AH.le.refl A;refine ak.sq fun h2=>.region<|.I Z<|.I Z<|.nil<|h2<|.sq fun h4=>.region<|.p (am sU lg Z Z (h.g hb) Z)<|.J Z ?_;refine Ops.J Z<|.m (fun X=>aq Z (WJ k acc L av nv rows s c A hok (hav.le h) (hnv.le h) hrl (fun i hi=>(hF i hi).le h) O O) ?_);rintro v6 A7 ⟨rfl,D,V⟩;refine X<|.I Z<|.I Z<|.nil<|h4<|.rt (by exact aH Z (⟨Z,(h.trans D),V⟩))
theorem Xb (s:Int) (b cap:Nat) (rw:Bool) (k:Nat) (acc:List Bool) (L:List (List Int)) (av nv:Value) (rows:List Value) (A:AH) (hb:A.get b=some (.row rw [num (k:Int),num ((0:Nat):Int),av,nv] cap)) (hok:RD k acc L) (hav:bJ A 1 av (cy acc)) (hnv:bJ A 1 nv (fh rows)) (hrl:rows.length=L.length) (hF:∀ i,i < L.length->bJ A 1 (rows.getD i undef) (dy (L.getD i []))) (hs:s < L.length):bH prog 152 #[num (s),.pointer (some ⟨b,0,none⟩)] A (fun v A1=>v=.bool (decide (0<=s) && acc.getD s.toNat false)/\A.le A1/\A1.wf):=by
 refine bi (e:=[(0,num (s)),(1,.pointer (some ⟨b,0,none⟩))]) (args:=[num (s),.pointer (some ⟨b,0,none⟩)]) call152 func152 Z results152 ntmps152 Z Z Z (fun wf=>?_);have h:=AH.le.refl A;obtain ⟨⟨a1,a2⟩,hal,⟨X,a0⟩,hrow,hval⟩:=hok;refine ak.sq fun h2=>.region<|.I Z<|.nil<|h2<|.sq fun h4=>.region<|.J Z<|.p (ml Z Z)<|.J Z ?_;refine Ops.part (t:=6) Z (fun p5=>?_) (fun p5=>?_)
 ·refine Ops.on Z Z<|.p (ae m0 jt U Z)<|.on Z Z<|.p (ah jr Z Z (h.g hb) Z)<|.on Z Z<|.J Z<|.on Z Z ?_;obtain ⟨b6,f6,a4,r6,a3,n6,k6,e6,l6,g6,V,D⟩:=bJ.at (i:=(s).toNat) (hav.le h) Of O;refine Ops.p (au nA nR Z e6 (jz O) l6)<|.on Z Z<|.p (ah wQ Z Z g6 ((dt D).trans (fg O)))<|.p (aL Z Z)<|.I Z<|.nil<|h4<|.rt (by exact aH Z (⟨by (rw [XJ O];rfl),h,wf⟩))
 refine Ops.off Z Z Z Z<|.off Z Z Z Z<|.off Z Z Z Z<|.off Z Z Z Z<|.off Z Z Z Z<|.p (bh Z Z)<|.I Z<|.nil<|h4<|.rt (by exact aH Z (⟨by (rw [Xv O];rfl),h,wf⟩))
theorem aat (k:Nat) (acc:List Bool) (L:List (List Int)) (av nv:Value) (rows:List Value) (A:AH) (hok:RD k acc L) (hav:bJ A 1 av (cy acc)) (hnv:bJ A 1 nv (fh rows)) (hrl:rows.length=L.length) (hF:∀ i,i < L.length->bJ A 1 (rows.getD i undef) (dy (L.getD i []))):bH prog 118 #[.agg #[num ((k:Nat):Int),num ((0:Nat):Int),av,nv]] A (fun v A1=>∃ b av2 nv2 fv bv rows2,v=.pointer (some ⟨b,0,none⟩)/\A.le A1/\A1.wf/\A1.get b=some (.row true [num (k:Int),av2,nv2,fv,bv] 5)/\A.get b=none/\Fresh A A1 av2 1 (cy (zg k acc L))/\Fresh A A1 nv2 1 (fh rows2)/\mq A A1 rows2 (iY k L).2/\blk av2 ≠ some b/\blk nv2 ≠ some b/\dn rows2 b/\bx av2 nv2/\be av2 rows2/\be nv2 rows2):=by
 refine bi (e:=[(0,.agg #[num ((k:Nat):Int),num ((0:Nat):Int),av,nv])]) (args:=[.agg #[num ((k:Nat):Int),num ((0:Nat):Int),av,nv]]) call118 func118 Z results118 ntmps118 Z Z Z (fun wf=>?_);have aG:=AH.le.refl A;have a0:=hok;obtain ⟨⟨aY,aZ⟩,hal,⟨aT,aV⟩,hrow,hval⟩:=hok;refine ak.sq fun h2=>.region<|.m (fun aF=>d8 wf rfl rfl fun A5 b4 V=>?_);have X:=aG.trans V.le;refine aF<|.I Z<|.nil<|h2<|.sq fun h9=>.drawn [0,1,2,3,4,5,6,8,9,7,10,11,12,13,14,15] mixed Y Y Z<|.p Z (ae vt dH U Z) ?_;have ai:=de (off:=0) V.get (show _=some (num ((k:Nat):Int)) from rfl);refine bn.p Z (ah fA Z Z V.get Z)<|.p Z (ae m0 jt U Z) ?_;have ap:=de (off:=2) V.get (show _=some (av) from rfl);refine bn.p Z (ah jr Z Z V.get Z)<|.p Z (bE (n:=acc.length) nA Z (hav.le X) O (gx _))<|.p Z (bF (b:=2) Z Z O)<|.p Z (am sU lg Z Z V.get Z)<|.p Z (od Z Z)<|.p Z (od Z Z)<|.m Z (fun az=>aq Z (WK k acc L av nv rows A5 a0 (hav.le X) (hnv.le X) hrl (fun i hi=>(hF i hi).le X)) ?_);rintro b0 A18 ⟨rfl,D,aS⟩;have ag:=D.g V.get;have ar:=cl D ai;have ay:=cl D ap;have h:=X.trans D;refine az (aU.list (L:=[(⟨b4,2,none⟩,av),(⟨b4,0,none⟩,num ((k:Nat):Int))]) Y (bz ay (bz ar cm)))<|.m Z (fun aA=>aq Z (Bx k (acc.length + 2) (L.length + 1) (L.length + 2) (((0:Nat):Int)) 150 152 #[.pointer (some ⟨b4,0,none⟩)] #[.pointer (some ⟨b4,0,none⟩)] (qe L) (fun s=>decide (0<=s) && acc.getD s.toNat false) (fun q=>-1<=q/\q < (L.length:Int)) A18 O ⟨by omega,by omega,by omega⟩ ⟨by omega,by omega⟩ (fun q c t hq hc hs=>by simp only [qe,Option.some.injEq] at hs;subst hs;split;exact ⟨by omega,by omega⟩;have:=hval q.toNat c O hc;exact ⟨by omega,by omega⟩) (fun Q hn hQ=>tE hn hQ) (fun q c B hq hc le wfB=>W9 q c b4 _ _ k acc L av nv rows B (le.g ag) a0 (hav.le (h.trans le)) (hnv.le (h.trans le)) hrl (fun i hi=>(hF i hi).le (h.trans le)) O hc) (fun q B hq le wfB=>Xb q b4 _ _ k acc L av nv rows B (le.g ag) a0 (hav.le (h.trans le)) (hnv.le (h.trans le)) hrl (fun i hi=>(hF i hi).le (h.trans le)) O)) ?_);rintro b1 A30 ⟨aR,aB,aI,aD,aC,aP,rfl,ac,ad,a4,a3,a1,a5,a2,a6,a7,a8,a9,aa,ab⟩;have xr:=a4;have xn:=a3;have xa:=a1;have xv:=a5;have xf:=a2;have y1:=a6;have y2:=a7;have y3:=a8;have y4:=a9;have y5:=aa;have y6:=ab;refine aA (aU.none Y)<|.p Z (aN Z)<|.p Z (aQ Z Z)<|.p Z (aQ Z Z)<|.p Z (dB Z)<|.p Z (dB Z)<|.done<|h9<|.sq fun aE=>.region ?_;refine Ops.J Z<|.I Z<|.nil<|aE<|.rt (by exact aH Z (⟨_,_,_,_,_,_,Z,(h.trans ac),ad,a4,sw h a3,a1.base h,a5.base h,a2.base h,a6,a7,a8,a9,aa,ab⟩))
def s9 (ws:List Wd):Nat:=(ws.map List.length).sum
theorem JH (a:List Wd) (w:Wd):s9 (a ++ [w])=s9 a + w.length:=by simp [s9]
theorem JI (ws:List Wd) (i:Nat):s9 (ws.take i)<=s9 ws:=by
  unfold s9
  conv=>rhs;rw [<- VW i ws]
  rw [VJ,List.sum_append];omega
structure TI (k:Nat) (ws:List Wd) (i:Nat) (L:List (List Int)) (E:List Bool):Prop where
  run:zc k (ws.take i)=(L,E)
  tri:∃ W,Tri k L E W ((ws.take i).map KF)
  num:L.length<=1 + s9 (ws.take i)
section
variable {k i:Nat} {ws:List Wd} {L L0:List (List Int)} {E E0:List Bool} {W S:List (List Nat)} {d:Int}
theorem TI.start:TI k ws 0 ([] ++ [Jd k]) ([] ++ [false]) :=
  ⟨rfl,⟨[[]],⟨Jb.start k,TW.start,(fun w h=>by cases h),fun m hm=>by
    obtain rfl:m=0:=by simp at hm;omega
    exact ⟨fun h=>by simp at h,fun h=>by cases h⟩⟩⟩,by simp⟩
theorem TI.ok (h:TI k ws i L E):Jb k L E/\0 < L.length:=by
  obtain ⟨W,hT⟩:=h.tri
  exact ⟨hT.ok,by have:=hT.tw.pos;have:=hT.tw.len;omega⟩
theorem TI.len (h:TI k ws i L E):E.length=L.length:=h.ok.1.len
theorem TI.next (h:TI k ws i L E) (hi:i < ws.length) (hw:∀ c ∈ ws.getD i [],0<=ix c/\ix c < k):TI k ws (i + 1) (zx k L E (ws.getD i [])) (zw k L E (ws.getD i [])):=by
  obtain ⟨W,hT⟩:=h.tri
  obtain ⟨W1,h1,h2⟩:=hT.add hw
  have e:ws.take (i + 1)=ws.take i ++ [ws.getD i []]:=(gz (z:=[]) hi).symm
  refine ⟨?_,⟨W1,?_⟩,?_⟩
  · have hr:=h.run
    rw [e,zc,SZ]
    show (fun t w=>(zx k t.1 t.2 w,zw k t.1 t.2 w)) (zc k (ws.take i)) (ws.getD i [])=_
    rw [hr]
  · rw [e,VJ];exact h1
  · rw [e,JH];have:=h.num;omega
theorem TI.bound (h:TI k ws i L E):L.length<=1 + s9 ws:=Xj h.num (by have:=JI ws i;omega)
end
structure BO (k:Nat) (L0:List (List Int)) (W S:List (List Nat)) (R:BS) (i:Nat) (L:List (List Int)) (E:List Bool) (F Q:List Int):Prop where
  tw:TW k L0 W
  sub:∀ w ∈ S,w ∈ W
  ne:[] ∉ S
  inv:BI k L0 W S ⟨L,E,F,Q⟩ i 0
  fin:∃ f,f + i=W.length + 1/\bfs k f i ⟨L,E,F,Q⟩=R
structure BN (k:Nat) (L0:List (List Int)) (W S:List (List Nat)) (R:BS) (i:Nat) (L:List (List Int)) (E:List Bool) (F Q:List Int) (x:Nat) (L1:List (List Int)) (E1:List Bool) (F1 Q1:List Int):Prop where
  out:BO k L0 W S R i L E F Q
  lt:i < Q.length
  inv:BI k L0 W S ⟨L1,E1,F1,Q1⟩ i x
  run:(List.range x).foldl (xI (Q.getD i 0).toNat) ⟨L,E,F,Q⟩=⟨L1,E1,F1,Q1⟩
  pre:Q <+: Q1
section
variable {k i x:Nat} {L L1 L0:List (List Int)} {E E0 E1:List Bool} {F Q F1 Q1:List Int} {W S:List (List Nat)} {R:BS} {ws:List Wd} {d:Int}
abbrev zt (L1:List (List Int)) (E1:List Bool) (F1 Q1:List Int) (n x:Nat):Int:=mo ⟨L1,E1,F1,Q1⟩ n x
theorem BO.start {ws:List Wd} (h:TI k ws ws.length L E) (hne:∀ w ∈ ws,w ≠ []):∃ W,BO k L W (ws.map KF) (Jj k ws) 0 L E (List.replicate L.length 0) [0]:=by
  obtain ⟨W,hT⟩:=h.tri
  have e:ws.take ws.length=ws:=Rj
  rw [e] at hT
  have hr:=h.run
  rw [e] at hr
  have hl:=hT.tw.len
  have hn:([]:List Nat) ∉ ws.map KF:=fun q=>by
    obtain ⟨w,hw,q⟩:=Vj.1 q
    exact hne w hw (List.map_eq_nil_iff.1 q)
  refine ⟨W,hT.tw,hT.sub,hn,by rw [<- hl];exact BI.start hT hn,W.length + 1,Z,?_⟩
  rw [Jj,hr,hl]
theorem BO.lens (h:BO k L0 W S R i L E F Q):L.length=W.length/\E.length=W.length/\F.length=W.length/\Q.length<=W.length/\L0.length=W.length:=⟨h.inv.len.1,h.inv.len.2.1,h.inv.len.2.2,h.inv.qlen,h.tw.len.symm⟩
theorem BO.at (h:BO k L0 W S R i L E F Q) (hi:i < Q.length):0<=Q.getD i 0/\(Q.getD i 0).toNat < W.length/\(L.getD (Q.getD i 0).toNat []).length=k:=by
  have h1:0<=Q.getD i 0/\Q.getD i 0 < W.length:=h.inv.qr i hi
  have h2:=h.inv.row (Q.getD i 0).toNat O
  exact ⟨h1.1,by omega,h2⟩
theorem BN.start (h:BO k L0 W S R i L E F Q) (hi:i < Q.length):BN k L0 W S R i L E F Q 0 L E F Q:=⟨h,hi,h.inv,rfl,Sj _⟩
theorem BN.q (h:BN k L0 W S R i L E F Q x L1 E1 F1 Q1):Q1.getD i 0=Q.getD i 0/\i < Q1.length:=⟨yy h.pre h.lt,Rv h.lt h.pre.length_le⟩
theorem BN.lens (h:BN k L0 W S R i L E F Q x L1 E1 F1 Q1):L1.length=W.length/\E1.length=W.length/\F1.length=W.length/\Q1.length<=W.length/\L0.length=W.length:=⟨h.inv.len.1,h.inv.len.2.1,h.inv.len.2.2,h.inv.qlen,h.out.tw.len.symm⟩
theorem BN.facts (h:BN k L0 W S R i L E F Q x L1 E1 F1 Q1):0<=Q.getD i 0/\(Q.getD i 0).toNat < W.length/\(L1.getD (Q.getD i 0).toNat []).length=k:=by
  have h1:=h.out.at h.lt
  exact ⟨h1.1,h1.2.1,h.inv.row _ h1.2.1⟩
theorem BN.fail (h:BN k L0 W S R i L E F Q x L1 E1 F1 Q1) (hn:Q.getD i 0 ≠ 0):0<=F1.getD (Q.getD i 0).toNat 0/\(F1.getD (Q.getD i 0).toNat 0).toNat < W.length/\(L1.getD (F1.getD (Q.getD i 0).toNat 0).toNat []).length=k:=by
  have hq:=h.q
  have D:0 < i:=by
    rcases TV i with q | q
    · subst q;have h0:Q1.getD 0 0=0:=h.inv.q0.2;rw [hq.1] at h0;exact absurd h0 hn
    · exact q
  have h1:0<=F1.getD (Q1.getD i 0).toNat 0/\F1.getD (Q1.getD i 0).toNat 0 < W.length:=(fun z=>⟨z.1,z.2.1⟩) (h.inv.fl i D hq.2)
  rw [hq.1] at h1
  exact ⟨h1.1,by omega,h.inv.row _ O⟩
theorem BN.to (h:BN k L0 W S R i L E F Q x L1 E1 F1 Q1) (hx:x < k):0<=zt L1 E1 F1 Q1 (Q.getD i 0).toNat x/\(zt L1 E1 F1 Q1 (Q.getD i 0).toNat x).toNat < W.length:=by
  have hq:=h.q
  have h1:0<=zt L1 E1 F1 Q1 (Q1.getD i 0).toNat x/\zt L1 E1 F1 Q1 (Q1.getD i 0).toNat x < W.length:=(fun z=>⟨z.1,z.2.1⟩) (h.inv.to h.out.tw hq.2 hx)
  rw [hq.1] at h1
  omega
theorem BN.met (h:BN k L0 W S R i L E F Q x L1 E1 F1 Q1) (hx:x < k) (hm:0<=(L1.getD (Q.getD i 0).toNat []).getD x 0):((L1.getD (Q.getD i 0).toNat []).getD x 0).toNat < W.length:=by
  have hq:=h.q
  have hf:=h.facts
  have e:ju L1 (Q.getD i 0).toNat x=ju L0 (Q.getD i 0).toNat x:=h.inv.same _ x hf.2.1 hx fun a ha ea=>by
    have e2:qn ⟨L1,E1,F1,Q1⟩ a=qn ⟨L1,E1,F1,Q1⟩ i:=by rw [ea];show _=(Q1.getD i 0).toNat;rw [hq.1]
    exact .inr ⟨h.inv.qd a i ha hq.2 e2,XV _⟩
  have:=h.out.tw.is (Q.getD i 0).toNat x hf.2.1 hx (by rw [<- e];exact hm)
  rw [<- e] at this
  exact this.1
theorem aaE {n:Int} (h:¬ n=0) (h0:0<=n):num ((L1.getD (F1.getD n.toNat 0).toNat []).getD x 0)=num (zt L1 E1 F1 Q1 n.toNat x):=by
  show _=num (mo _ _ _);rw [mo,Xy O]
theorem toOf_z {n:Int} (h:¬ ¬ n=0):num ((0:Nat):Int)=num (zt L1 E1 F1 Q1 n.toNat x):=by
  have:=Decidable.not_not.1 h;subst this;rfl
theorem BN.step (h:BN k L0 W S R i L E F Q x L1 E1 F1 Q1) (hx:x < k) {L2:List (List Int)} {E2:List Bool} {F2 Q2:List Int} (e:xI (Q.getD i 0).toNat ⟨L1,E1,F1,Q1⟩ x=⟨L2,E2,F2,Q2⟩) (hp:Q1 <+: Q2):BN k L0 W S R i L E F Q (x + 1) L2 E2 F2 Q2:=by
  have hq:=h.q
  refine ⟨h.out,h.lt,?_,?_,h.pre.trans hp⟩
  · have:=h.inv.step h.out.tw h.out.sub h.out.ne hq.2 hx
    rw [show qn ⟨L1,E1,F1,Q1⟩ i=(Q.getD i 0).toNat by show (Q1.getD i 0).toNat=_;rw [hq.1],e] at this
    exact this
  · rw [SJ,SZ,h.run];exact e
theorem BN.neg (h:BN k L0 W S R i L E F Q x L1 E1 F1 Q1) (hx:x < k) (hm:(L1.getD (Q.getD i 0).toNat []).getD x 0 < 0):BN k L0 W S R i L E F Q (x + 1) (L1.set (Q.getD i 0).toNat ((L1.getD (Q.getD i 0).toNat []).set x (zt L1 E1 F1 Q1 (Q.getD i 0).toNat x))) E1 F1 Q1 :=
  h.step hx (by rw [xI,XX hm]) (Sj _)
theorem BN.pos (h:BN k L0 W S R i L E F Q x L1 E1 F1 Q1) (hx:x < k) (hm:¬ (L1.getD (Q.getD i 0).toNat []).getD x 0 < 0) {c:Bool} (hc:c=(E1.getD ((L1.getD (Q.getD i 0).toNat []).getD x 0).toNat false || E1.getD (zt L1 E1 F1 Q1 (Q.getD i 0).toNat x).toNat false)) :
    BN k L0 W S R i L E F Q (x + 1) L1 (E1.set ((L1.getD (Q.getD i 0).toNat []).getD x 0).toNat c) (F1.set ((L1.getD (Q.getD i 0).toNat []).getD x 0).toNat (zt L1 E1 F1 Q1 (Q.getD i 0).toNat x)) (Q1 ++ [(L1.getD (Q.getD i 0).toNat []).getD x 0]):=by
  subst hc
  exact h.step hx (by rw [xI,Xy hm]) (Rw _ _)
theorem BO.next (h:BN k L0 W S R i L E F Q x L1 E1 F1 Q1) (hx:x=k):BO k L0 W S R (i + 1) L1 E1 F1 Q1:=by
  subst hx
  have hq:=h.q
  obtain ⟨f,hf,e⟩:=h.out.fin
  have hl:=h.out.inv.qlen
  have hlt:=h.lt
  have D:Q.length<=W.length:=hl
  obtain ⟨f,rfl⟩:∃ g,f=g + 1:=⟨f - 1,by omega⟩
  refine ⟨h.out.tw,h.out.sub,h.out.ne,h.inv.next hq.2,f,by omega,?_⟩
  rw [bfs,XX (by exact hlt)] at e
  have e2:brow x ⟨L,E,F,Q⟩ i=⟨L1,E1,F1,Q1⟩:=h.run
  rw [e2] at e;exact e
theorem BO.fin' (h:BO k L0 W S R i L E F Q) (hi:Q.length<=i):R=⟨L,E,F,Q⟩/\Aho k L E W S:=by
  obtain ⟨f,hf,e⟩:=h.fin
  have hl:=h.inv.qlen
  refine ⟨?_,h.inv.aho h.tw h.sub hi⟩
  rw [<- e]
  cases f with
  | zero=>rfl
  | succ f=>rw [bfs,Xy (by show ¬ i < Q.length;omega)]
def qM (E:List Bool) (r:List Int) (x:Nat):List Int:=fG E (r.take x) ++ r.drop x
def o8 (E:List Bool) (L:List (List Int)) (s x:Nat):List (List Int):=(L.take s).map (fG E) ++ (match L.drop s with | []=>[] | r :: t=>qM E r x :: t)
theorem pZ (E:List Bool) (r:List Int):(fG E r).length=r.length:=by simp [fG]
theorem Fk {r:List Int}:(qM E r x).length=r.length:=by simp [qM,fG];omega
theorem zR {r:List Int}:qM E r 0=r:=by simp [qM,fG]
theorem Td {r:List Int} (h:r.length<=x):qM E r x=fG E r:=by simp [qM,VX h,Sx h]
theorem YH {r:List Int} {y:Nat} (hx:x<=y) (hy:y < r.length):(qM E r x).getD y 0=r.getD y 0:=by
  simp only [qM,Vq]
  rw [TZ (by rw [pZ,XZ];omega),RV,pZ,XZ]
  congr 2;omega
theorem zQ {r:List Int} (hx:x < r.length):qM E r (x + 1)=if E.getD (r.getD x 0).toNat false then (qM E r x).set x (-1) else qM E r x:=by
  have e1:r.take (x + 1)=r.take x ++ [r.getD x 0]:=(gz (z:=0) hx).symm
  have e2:r.drop x=r.getD x 0 :: r.drop (x + 1):=pb hx
  have hl:(fG E (r.take x)).length=x:=by rw [pZ,XZ];omega
  have e3:fG E (r.take x ++ [r.getD x 0])=fG E (r.take x) ++ [if E.getD (r.getD x 0).toNat false then -1 else r.getD x 0]:=by simp only [fG,VJ,TJ,List.map_nil]
  have e4:qM E r x=fG E (r.take x) ++ r.getD x 0 :: r.drop (x + 1):=by rw [<- e2];rfl
  have e5:qM E r (x + 1)=fG E (r.take x) ++ (if E.getD (r.getD x 0).toNat false then -1 else r.getD x 0) :: r.drop (x + 1):=by
    show fG E (r.take (x + 1)) ++ r.drop (x + 1)=_
    rw [e1,e3,XY];rfl
  rw [e5,e4]
  split
  · rw [RZ _ _ O,hl,Nat.sub_self,List.set_cons_zero]
  · rfl
theorem o9 {s:Nat} (h:s < L.length):L.drop s=L.getD s [] :: L.drop (s + 1):=pb h
theorem Fj {s:Nat}:(o8 E L s x).length=L.length:=by
  unfold o8
  rcases VY s L.length with h | h
  · rw [o9 h];simp;omega
  · rw [Sx h];simp;omega
theorem Jw:o8 E L 0 0=L:=by
  cases L with
  | nil=>rfl
  | cons r t=>show [] ++ qM E r 0 :: t=_;rw [zR];rfl
theorem uu {s:Nat} (h:s < L.length):(o8 E L s x).getD s []=qM E (L.getD s []) x:=by
  unfold o8;rw [o9 h]
  have hl:((L.take s).map (fG E)).length=s:=by simp;omega
  simp only [Vq]
  rw [TZ O,hl,Nat.sub_self];rfl
theorem Tc {s:Nat} (h:s < L.length) (hx:x < (L.getD s []).length) (he:E.getD ((L.getD s []).getD x 0).toNat false=true):(o8 E L s x).set s (((o8 E L s x).getD s []).set x (-1))=o8 E L s (x + 1):=by
  rw [uu h]
  unfold o8;rw [o9 h]
  have hl:((L.take s).map (fG E)).length=s:=by simp;omega
  rw [RZ _ _ O,hl,Nat.sub_self]
  show _ ++ _ :: _=_ ++ _ :: _
  rw [zQ hx,XX he]
theorem YG {s:Nat} (h:s < L.length) (hx:x < (L.getD s []).length) (he:E.getD ((L.getD s []).getD x 0).toNat false=false):o8 E L s x=o8 E L s (x + 1):=by
  unfold o8;rw [o9 h]
  show _ ++ _ :: _=_ ++ _ :: _
  rw [zQ hx,he];rfl
theorem N8 {s:Nat} (h:s < L.length) (hx:(L.getD s []).length<=x):o8 E L s x=o8 E L (s + 1) 0:=by
  unfold o8
  rw [o9 h,<- gz (z:=[]) h,VJ]
  show _ ++ qM E _ x :: _=_
  rw [Td hx,XY]
  congr 1
  show _=[fG E (L.getD s [])] ++ _
  rw [List.singleton_append];congr 1
  cases L.drop (s + 1) with
  | nil=>rfl
  | cons r t=>show _=qM E r 0 :: t;rw [zR]
theorem Ta {s:Nat} (h:L.length<=s):o8 E L s x=L.map (fG E):=by
  unfold o8
  rw [Sx h,VX h];simp
theorem N5 {s:Nat} (h:s < L.length) (hx:x < (L.getD s []).length):((o8 E L s x).getD s []).getD x 0=(L.getD s []).getD x 0:=by
  rw [uu h,YH (XV _) hx]
end
def CE:W8:=[48,49,50,51,52,53,54,55,56,57,97,98,99,100,101,102,103,104,105,106,107,108,109,110,111,112,113,114,115,116,117,118,119,120,121,122]
def vv:Nat->Nat->W8
  | 0,_=>[]
  | f + 1,n=>if n < 36 then [CE.getD n 0] else vv f (n / 36) ++ [CE.getD (n % 36) 0]
def jf (n:Nat):W8:=vv 13 n
theorem FF:∀ (f n:Nat),(vv f n).length<=f
  | 0,_=>XV _
  | f + 1,n=>by
    unfold vv;split
    · simp
    · have:=FF f (n / 36);simp;omega
theorem vu (n:Nat):(jf n).length<=13:=FF 13 n
def Ns (c:UInt8):Nat:=CE.idxOf c
theorem wX:∀ d,d < 36->Ns (CE.getD d 0)=d/\CE.getD d 0 ≠ 32/\CE.getD d 0 ≠ 45:=by decide
theorem xb:∀ (f n:Nat),∀ c ∈ vv f n,c ≠ 32/\c ≠ 45
  | 0,_,_,h=>by cases h
  | f + 1,n,c,h=>by
    unfold vv at h;split at h
    · rename_i q;rw [Vk] at h;subst h;exact (wX n q).2
    · rcases Vw.1 h with q | q
      · exact xb f _ c q
      · rw [Vk] at q;subst q;exact (wX _ (Nat.mod_lt _ U)).2
def Nw (l:W8):Nat:=l.foldl (fun a c=>a * 36 + Ns c) 0
theorem uh:∀ (f n:Nat),n < 36 ^ f->Nw (vv f n)=n
  | 0,n,h=>by simp at h;subst h;rfl
  | f + 1,n,h=>by
    unfold vv;split
    · rename_i q;show 0 * 36 + Ns _=n;rw [(wX n q).1];omega
    · have:=uh f (n / 36) (by rw [Nat.pow_succ] at h;exact Nat.div_lt_of_lt_mul O)
      rw [Nw,SZ]
      show Nw (vv f (n / 36)) * 36 + Ns _=n
      rw [this,(wX _ (Nat.mod_lt _ U)).1];omega
theorem Ot {a b:Nat} (ha:a < 1000000) (hb:b < 1000000) (h:jf a=jf b):a=b:=by
  have h1:=uh 13 a (Rv ha U)
  have h2:=uh 13 b (Rv hb U)
  rw [<- h1,<- h2];exact Xk Nw h
structure xu (n m i:Nat) (l:W8):Prop where
  len:l.length=65
  eq:∃ f,f + 52=i/\0 < f/\f<=13/\jf n=vv f m ++ l.drop i/\m < 36 ^ f
  le:m<=n
section
variable {n m i f:Nat} {l:W8}
theorem xu.start (hn:n<=1000000):xu n n 65 (List.replicate 65 0):=⟨by simp,⟨13,rfl,by decide,by decide,by simp [jf],Nat.lt_of_le_of_lt hn U⟩,XV _⟩
theorem xu.idx (h:xu n m i l):53<=i/\i<=65:=by obtain ⟨f,h1,h2,h3,_⟩:=h.eq;omega
theorem Fu {l:W8} {j:Nat} {c:UInt8} (h:j < l.length):(l.set j c).drop j=c :: l.drop (j + 1):=by
  rw [Tq (by simpa using h),List.drop_set_of_lt O]
  simp
theorem xu.next (h:xu n m i l) (hm:36<=m):xu n (m / 36) (i - 1) (l.set (i - 1) (CE.getD (m - m / 36 * 36) 0))/\54<=i:=by
  obtain ⟨f,h1,h2,h3,h4,h5⟩:=h.eq
  have hf:2<=f:=by
    rcases VY f 2 with q | q
    · obtain rfl:f=1:=by omega
      omega
    · exact q
  obtain ⟨f,rfl⟩:∃ g,f=g + 1:=⟨f - 1,by omega⟩
  refine ⟨⟨by simpa using h.len,⟨f,by omega,by omega,by omega,?_,by rw [Nat.pow_succ] at h5;exact Nat.div_lt_of_lt_mul O⟩,Xj (Nat.div_le_self _ _) h.le⟩,by omega⟩
  rw [h4,vv,Xy O,Fu (by rw [h.len];omega),show i - 1 + 1=i by omega,XY]
  rw [show m - m / 36 * 36=m % 36 by omega];rfl
theorem xu.last (h:xu n m i l) (hm:m < 36):(l.set (i - 1) (CE.getD m 0)).drop (i - 1)=jf n:=by
  obtain ⟨f,h1,h2,h3,h4,h5⟩:=h.eq
  obtain ⟨f,rfl⟩:∃ g,f=g + 1:=⟨f - 1,by omega⟩
  rw [h4,vv,XX hm,Fu (by rw [h.len];omega),show i - 1 + 1=i by omega];rfl
end
abbrev zJ (n:Nat):Value:=.int .u64 (n:Int)
section
variable {P:Program} {e:im} {A:AH} {x y:Operand} {t t':TypeId} {a b:Nat}
theorem KZ {n:Int} (h:0<=n/\n<=18446744073709551615):IntKind.u64.wrap n=n:=IntWalk.u64_in n h
theorem VB {k k₀:IntKind} (hs:P.underlying t=some (.int k₀)) (hd:P.underlying t'=some (.int .u64)) (h:cg e x=some (.int k (a:Nat))) (hr:a<=18446744073709551615):bk P e A (.convert t t' x)=some (zJ a,[]) :=
  VA hs hd h (KZ O)
theorem qsubW (h:cg e x=some (zJ a)) (h':cg e y=some (zJ b)) (hr:b<=a/\a<=18446744073709551615):bk P e A (.binOp .sub t x y t')=some (zJ (a - b),[]):=by
  refine zA U U h h' ?_
  refine Xk (fun z=>some (Value.int .u64 z)) ?_
  rw [KZ O];omega
theorem qmulW (h:cg e x=some (zJ a)) (h':cg e y=some (zJ b)) (hr:a * b<=18446744073709551615):bk P e A (.binOp .mul t x y t')=some (zJ (a * b),[]):=by
  refine zA U U h h' ?_
  refine Xk (fun z=>some (Value.int .u64 z)) ?_
  have:((a * b:Nat):Int)=(a:Int) * b:=Int.natCast_mul a b
  rw [KZ (by rw [<- this];omega)];simp
theorem qquoW (h:cg e x=some (zJ a)) (h':cg e y=some (zJ b)) (hr:1<=b/\a<=18446744073709551615):bk P e A (.binOp .quo t x y t')=some (zJ (a / b),[]):=by
  refine zA U U h h' ?_
  show (if (b:Int)=0 then none else _)=_
  rw [Xy O]
  refine Xk (fun z=>some (Value.int .u64 z)) ?_
  rw [IntWalk.u64_quo _ _ O];simp
end
section
variable {P:Program} {nt:Nat} {all:Array Oper} {os:List Oper} {Q:Exit->Fr->AH->Prop} {e:im} {ds:List Deferred} {A:AH} {x lo:Operand} {t el:TypeId} {ty:TypeId} {ps:String} {af:Array Edge} {dst:Option Nat} {b n j:Nat}
theorem V.Ops.sliceArr (hd:gB nt dst=true) (hu:P.underlying t=some (.array n el)) (hs:dY P el=some 1) (hx:cg e x=some (.pointer (some ⟨b,0,none⟩))) (hlo:cg e lo=some (num (j:Nat))) (hj:j < n)
    (h:Ops P nt all os Q ⟨gj e dst (.slice (some ⟨b,j,none⟩) (n - j) (n - j)),ds⟩ A):Ops P nt all ({ dst:=dst,op:=.slice t x (some lo) none none,type:=ty,pos:=ps,after:=af,guard:=none } :: os) Q ⟨e,ds⟩ A:=by
  refine Ops.val Z hd (fun a ha w hw=>?_) h
  have h1:=c9 ha hx
  have h2:=c9 ha hlo
  simp only [execOp,h1,RK,h2,Option.map_none]
  have hb:=uf (P:=P) (w:=w) (isS:=false) (len:=n) (cap:=n) (lo:=some (some (num (j:Nat)))) (hi:=none) (lo':=some (num (j:Nat))) (hi':=none) (l:=(j:Int)) (h:=(n:Int)) (fun v q=>by cases q;exact ⟨_,rfl,rfl⟩) (fun q=>by cases q) (fun v q=>by cases q) (fun _=>rfl) Z Z O O O
  have hne:n ≠ j:=by omega
  simp [Instr.sliceAt,cn hu,hb,fb hs,Instr.sureAddr,Addr.add,hne]
  intro z;omega
end
theorem and36:Yp .and .i64 ((36:Nat):Int) ((35:Nat):Int)=some (num ((32:Nat):Int)):=by
  have key:IntKind.i64.wrap ((BitVec.ofInt 64 ((36:Nat):Int) &&& BitVec.ofInt 64 ((35:Nat):Int)).toNat:Int)=((32:Nat):Int):=by decide
  show some (Value.int .i64 (IntKind.i64.wrap ((BitVec.ofInt 64 ((36:Nat):Int) &&& BitVec.ofInt 64 ((35:Nat):Int)).toNat:Int)))=_
  rw [key]
theorem aav {A:AH} {b cap j:Nat} {rw:Bool} {c:List Value} (h:A.get b=some (.row rw c cap)) (hj:j<=c.length):bJ A 1 (.slice (some ⟨b,j,none⟩) (c.length - j) (c.length - j)) (c.drop j) :=
  ⟨_,_,_,rfl,by simp,XV _,.inr ⟨b,j,rw,c,cap,rfl,h,by rw [TK,VX (by simp)]⟩⟩
theorem u2:type_of% @underlying2:=@underlying2
theorem u201:type_of% @underlying201:=@underlying201
theorem u246:type_of% @underlying246:=@underlying246
theorem z246:c5 prog 246=some (.agg #[.int .u8 0,.int .u8 0,.int .u8 0,.int .u8 0,.int .u8 0,.int .u8 0,.int .u8 0,.int .u8 0,.int .u8 0,.int .u8 0,.int .u8 0,.int .u8 0,.int .u8 0,.int .u8 0,.int .u8 0,.int .u8 0,.int .u8 0,.int .u8 0,.int .u8 0,.int .u8 0,.int .u8 0,.int .u8 0,.int .u8 0,.int .u8 0,.int .u8 0,.int .u8 0,.int .u8 0,.int .u8 0,.int .u8 0,.int .u8 0,.int .u8 0,.int .u8 0,.int .u8 0,.int .u8 0,.int .u8 0,.int .u8 0,.int .u8 0,.int .u8 0,.int .u8 0,.int .u8 0,.int .u8 0,.int .u8 0,.int .u8 0,.int .u8 0,.int .u8 0,.int .u8 0,.int .u8 0,.int .u8 0,.int .u8 0,.int .u8 0,.int .u8 0,.int .u8 0,.int .u8 0,.int .u8 0,.int .u8 0,.int .u8 0,.int .u8 0,.int .u8 0,.int .u8 0,.int .u8 0,.int .u8 0,.int .u8 0,.int .u8 0,.int .u8 0,.int .u8 0]):=by kernel_rfl
theorem s_pow2 (A:AH):bH prog 213 #[num ((36:Nat):Int)] A (fun v A1=>v=.bool false/\A=A1):=by
 refine bi (e:=[(0,num ((36:Nat):Int))]) (args:=[num ((36:Nat):Int)]) call213 func213 Z results213 ntmps213 Z Z Z (fun wf=>?_);have h:=AH.le.refl A;refine ak.sq fun h2=>.region<|.I Z<|.nil<|h2<|.sq fun h4=>.region<|.J Z<|.J Z<|.p (fJ (a:=36) (b:=1) Z Z O) ?_;refine Ops.p (zA U U Z Z and36)<|.p (((gI (a:=32) (b:=0) Z Z).trans (Xk (fun z=>some (Value.bool z,[])) (Xv U))))<|.I Z<|.nil<|h4<|.rt (by exact aH Z (⟨Z,Z⟩))
theorem Qo (u:Value) (o:W8) (n:Nat) (A0 A:AH) (ac:A0.le A) (a7:A0.wf) (hu:Fresh A0 A u 1 (ao o)) (ho:o.length<=100000000000) (hn:n<=1000000):bH prog 210 #[u,.int .u64 ((n:Nat):Int),num ((36:Nat):Int),.bool (false),.bool (true)] A (fun v A1=>∃ w,v=.tuple #[w,ax []]/\A0.le A1/\A1.wf/\Fresh A0 A1 w 1 (ao (o ++ jf n))):=by
 refine bi (e:=[(0,u),(1,.int .u64 ((n:Nat):Int)),(2,num ((36:Nat):Int)),(3,.bool (false)),(4,.bool (true))]) (args:=[u,.int .u64 ((n:Nat):Int),num ((36:Nat):Int),.bool (false),.bool (true)]) call210 func210 Z results210 ntmps210 Z Z Z (fun wf=>?_);refine ak.sq fun h2=>.region<|.I Z<|.I Z<|.nil<|h2<|.sq fun h4=>.sq fun h6=>.region<|.J Z ?_;refine Ops.p (((ca (a:=36) (b:=2) Z Z).trans (Xk (fun z=>some (Value.bool z,[])) (Xv U))))<|.J Z<|.on Z Z<|.J Z<|.on Z Z<|.p (((gI (a:=36) (b:=10) Z Z).trans (Xk (fun z=>some (Value.bool z,[])) (Xv U))))<|.p (bh Z Z)<|.J Z<|.on Z Z<|.J Z ?_;refine Ops.on Z Z<|.p (((eh (a:=36) (b:=36) Z Z).trans (Xk (fun z=>some (Value.bool z,[])) (Xv U))))<|.p (bh Z Z)<|.nil<|h6<|.cond_false Z<|.skip<|h4<|.sq fun h8=>.region ?_;refine Ops.m (fun b0=>bZ (cs:=ao (List.replicate 65 0)) wf z246 rfl fun A11 a8 a1=>?_);have a5:=aX a7 (Xj ac.n a1.lo);refine b0<|.nil<|h8<|.sq fun ay=>.region<|.I Z<|.nil<|ay<|.sq fun az=>.sq fun aA=>?_;refine ak.region<|.J Z<|.nil<|aA<|.cond_false Z<|.skip<|az<|.sq fun aB=>.sq fun aC=>.region ?_;refine Ops.J Z<|.m (fun ag=>aq Z (s_pow2 A11) ?_);rintro b3 A28 ⟨rfl,rfl⟩;refine ag<|.nil<|aC<|.cond_false Z<|.sq fun aD=>.region<|.J Z<|.p (VB u3 u201 Z O)<|.I Z<|.nil ?_;refine aD<|.sq fun aE=>.block<|.loop (X:=Nat × Nat × W8) (fun ⟨m,i,l⟩=>[(0,u),(1,.int .u64 ((m:Nat):Int)),(3,.bool (false)),(4,.bool (true)),(10,.slice none 0 0),(11,ax ([])),(12,.pointer (some ⟨a8,0,none⟩)),(13,num ((i:Nat):Int)),(17,.int .u64 ((36:Nat):Int))]) (fun ⟨m,i,l⟩ B=>(xu n m i l)/\A0.le B/\Fresh A0 B u 1 (ao o)/\B.get a8=some (.row true (ao l) 65)/\V.blk u ≠ some a8) (fun ⟨m,i,l⟩=>m) (⟨n,65,List.replicate 65 0⟩) (ev9 Z Z Z Z Z Z Z Z Z) (⟨xu.start hn,(ac.trans a1.le),(hu.le a1.le),a1.get,(hu.own.ne_new wf a1.lo)⟩) ?_;rintro ⟨m,i,l⟩ B35 ⟨hfm,aa,a4,a0,D⟩;refine ak.wf fun ab=>?_;have hix:=hfm.idx;have hll:=hfm.len;have hmn:=hfm.le;have hnx:=fun q:36<=m=>hfm.next q;refine ak.sq fun aF=>.sq fun aG=>.region<|.J Z<|.J Z<|.p (yA (b:=36) Z Z)<|.nil<|aG<|.if rfl (fun b1=>?_) (fun b1=>?_)
 ·refine ak.skip<|aF<|.block<|.sq fun aI=>.region<|.J Z<|.p (fJ (b:=1) Z Z (by (try have:=(hnx O).2);omega))<|.I Z<|.nil<|aI ?_;refine ak.sq fun aP=>.region<|.J Z<|.J Z<|.p (qquoW (b:=36) Z Z (by (try have:=(hnx O).2);omega))<|.I Z<|.nil<|aP<|.sq fun aR=>.region ?_;refine Ops.J Z<|.J Z<|.J Z<|.J Z<|.p (qmulW (b:=36) Z Z (by (try have:=(hnx O).2);omega))<|.p (qsubW Z Z (by (try have:=(hnx O).2);omega))<|.p (nP u9 Z Z (by simp only [Xq,Xz];omega))<|.p (jI (i:=i - 1) u246 j0 Z Z O)<|.m (fun ai=>aW (off:=(i - 1)) ab rfl (by simp) rfl rfl j0 a0 OK rfl (r8 _ _ _) fun A49 a2=>?_);refine ai<|.nil<|aR<|.region<|.J Z<|.I Z<|.nil ?_;exact ⟨⟨m / 36,i - 1,l.set ((i - 1)) (([48,49,50,51,52,53,54,55,56,57,97,98,99,100,101,102,103,104,105,106,107,108,109,110,111,112,113,114,115,116,117,118,119,120,121,122]).getD (m - ((m / 36) * 36)) 0)⟩,ev9 Z Z Z Z Z Z Z Z Z,Z,⟨(hnx ‹_›).1,(al aa a7 a5 a2.n a2.keep),(a4.keep a2.keep D),a2.get,D⟩,O1⟩
 refine ak.exit<|aE<|.sq fun aS=>.region<|.J Z<|.p (fJ (b:=1) Z Z (by (try have:=(hnx O).2);omega))<|.I Z<|.nil<|aS<|.region ?_;refine Ops.J Z<|.J Z<|.p (nP u9 Z Z (by simp only [Xq,Xz];omega))<|.p (jI (i:=i - 1) u246 j0 Z Z O)<|.m (fun ap=>aW (off:=(i - 1)) ab rfl (by simp) rfl rfl j0 a0 OK rfl (r8 _ _ _) fun A56 a3=>?_);have a9:=a4.keep a3.keep D;refine ap<|.nil<|aB<|.sq fun aT=>.sq fun aV=>.region<|.J Z<|.nil<|aV<|.cond_false Z ?_;refine ak.skip<|aT<|.sq fun b2=>.sq fun aY=>.region<|.J Z<|.nil<|aY<|.cond_true Z<|.sq fun aZ=>?_;have hlast:=hfm.last O;unfold CE at hlast;have hfl:=vu n;refine ak.region<|.J Z<|.J Z<|.sliceArr (j:=i - 1) Y u246 j0 Z Z O ?_;have hsa:=aav (j:=i - 1) a3.get (by simp only [aK,SK];omega);simp only [aK,SK,hfm.len,tn] at hsa;rw [hlast] at hsa;refine Ops.m (fun ar=>ct rfl rfl c0 j0 tD z5 rfl U c0 (fun _ h=>by cases h) a9.own (hsa.listOf (n:=(jf n).length) ON O) ON (zO _) (by show (_ + _) * 1<=_;simp only [aK,Xq,Xz];(try simp only [Xx,Xq,Xz]);omega) Ob fun A71 b5 a6=>?_);rw [eu] at a6;obtain ⟨ad,av⟩:=Fresh.grow a9 (al aa a7 a5 a3.n a3.keep) a7 a6;refine ar<|.I Z<|.nil<|aZ<|.rt (by exact aH Z (⟨_,Z,av,a6.wf,ad⟩))
theorem s_AppU (u:Value) (o:W8) (n:Nat) (A0 A:AH) (a2:A0.le A) (a4:A0.wf) (hu:Fresh A0 A u 1 (ao o)) (ho:o.length<=100000000000) (hn:n<=1000000):bH prog 206 #[u,.int .u64 ((n:Nat):Int),num ((36:Nat):Int)] A (fun v A1=>A0.le A1/\A1.wf/\Fresh A0 A1 v 1 (ao (o ++ jf n))):=by
 refine bi (e:=[(0,u),(1,.int .u64 ((n:Nat):Int)),(2,num ((36:Nat):Int))]) (args:=[u,.int .u64 ((n:Nat):Int),num ((36:Nat):Int)]) call206 func206 Z results206 ntmps206 Z Z Z (fun wf=>?_);refine ak.sq fun h2=>.region<|.I Z<|.nil<|h2<|.sq fun h4=>.sq fun h6=>.region<|.J Z<|.p (((gI (a:=36) (b:=10) Z Z).trans (Xk (fun z=>some (Value.bool z,[])) (Xv U)))) ?_;refine Ops.nil<|h6<|.cond_false Z<|.skip<|h4<|.sq fun h8=>.region<|.J Z<|.J Z<|.J Z ?_;have V:=cz (bs:=[blk u]) a2 (uD hu.lo qX);refine Ops.m (fun a1=>aq Z (Qo u o n (A.hide [blk u]) A (c6 A [blk u]) (cI wf) (hu.hide (by simp)) ho hn) ?_);rintro a3 A11 ⟨h,rfl,X,h,D⟩;refine a1<|.J Z<|.p (aQ Z Z)<|.p (aQ Z Z)<|.I Z<|.nil<|h8<|.sq fun a0=>.region<|.J Z ?_;refine Ops.I Z<|.nil<|a0<|.rt (by exact aH Z (⟨(V.trans X),h,(D.base V)⟩))
theorem ZY (u:Value) (o:W8) (n:Nat) (A0 A:AH) (a2:A0.le A) (a5:A0.wf) (hu:Fresh A0 A u 1 (ao o)) (ho:o.length<=100000000000) (hn:n<=1000000):bH prog 202 #[u,num ((n:Nat):Int),num ((36:Nat):Int)] A (fun v A1=>A0.le A1/\A1.wf/\Fresh A0 A1 v 1 (ao (o ++ jf n))):=by
 refine bi (e:=[(0,u),(1,num ((n:Nat):Int)),(2,num ((36:Nat):Int))]) (args:=[u,num ((n:Nat):Int),num ((36:Nat):Int)]) call202 func202 Z results202 ntmps202 Z Z Z (fun wf=>?_);refine ak.sq fun h2=>.region<|.I Z<|.nil<|h2<|.sq fun h4=>.region<|.J Z<|.p (VB u2 u201 Z O)<|.I Z ?_;refine Ops.nil<|h4<|.sq fun h6=>.sq fun h8=>.region<|.J Z<|.p (ca (b:=0) Z Z)<|.nil<|h8<|.if rfl (fun p9=>?_) (fun p9=>?_)
 ·refine ak.sq fun a3=>?_;exact absurd ‹n < 0› O
 refine ak.skip<|h6<|.sq fun a1=>.region<|.J Z<|.J Z<|.J Z ?_;have D:=cz (bs:=[blk u]) a2 (uD hu.lo qX);refine Ops.m (fun a0=>aq Z (s_AppU u o n (A.hide [blk u]) A (c6 A [blk u]) (cI wf) (hu.hide (by simp)) ho hn) ?_);rintro a4 A16 ⟨V,X,h⟩;refine a0<|.I Z<|.nil<|a1<|.rt (by exact aH Z (⟨(D.trans V),X,(h.base D)⟩))
theorem s_AppI (u:Value) (o:W8) (n:Nat) (A0 A:AH) (a1:A0.le A) (a2:A0.wf) (hu:Fresh A0 A u 1 (ao o)) (ho:o.length<=100000000000) (hn:n<=1000000):bH prog 184 #[u,num ((n:Nat):Int),num ((36:Nat):Int)] A (fun v A1=>A0.le A1/\A1.wf/\Fresh A0 A1 v 1 (ao (o ++ jf n))):=by
 refine bi (e:=[(0,u),(1,num ((n:Nat):Int)),(2,num ((36:Nat):Int))]) (args:=[u,num ((n:Nat):Int),num ((36:Nat):Int)]) call184 func184 Z results184 ntmps184 Z Z Z (fun wf=>?_);refine ak.sq fun h2=>.region<|.I Z<|.nil<|h2<|.sq fun h4=>.region<|.J Z<|.J Z<|.J Z ?_;have D:=cz (bs:=[blk u]) a1 (uD hu.lo qX);refine Ops.m (fun a0=>aq Z (ZY u o n (A.hide [blk u]) A (c6 A [blk u]) (cI wf) (hu.hide (by simp)) ho hn) ?_);rintro v6 A7 ⟨V,X,h⟩;refine a0<|.I Z<|.nil<|h4<|.rt (by exact aH Z (⟨(D.trans V),X,(h.base D)⟩))
structure Jf (k:Nat) (acc:List Bool) (N:List (List Int)):Prop where
  sym:1<=k/\k<=400
  len:acc.length=N.length
  num:N.length<=30000
  row:∀ s,s < N.length->(N.getD s []).length=k
  val:∀ s x,s < N.length->x < k->-1<=ju N s x/\ju N s x < N.length
section
variable {N B B1:List (List Int)} {s j n:Nat} {m:Int} {row:List Int}
theorem yC (n:Nat) (v:Value):List.replicate n v=fh (List.replicate n v):=rfl
theorem xB {s:Int}:(rc B s m).length=B.length:=by unfold rc;split <;> simp
theorem RP {s:Int} (h:0<=m):rc B s m=B.set m.toNat (B.getD m.toNat [] ++ [s]):=XX h
theorem Yj {s:Int} (h:¬ 0<=m):rc B s m=B:=Xy h
theorem xz {s:Int} {c:Nat} (h:∀ t,(B.getD t []).length<=c) (hm:0<=m->m.toNat < B.length):∀ t,((rc B s m).getD t []).length<=c + 1:=fun t=>by
  unfold rc;split
  · rename_i q
    rw [fa (hm q)]
    split
    · have:=h m.toNat;rw [Xx,Tw];omega
    · have:=h t;omega
  · have:=h t;omega
structure RG (N:List (List Int)) (s:Nat) (B:List (List Int)):Prop where
  run:(List.range s).foldl (kj N) (List.replicate N.length [])=B
  len:B.length=N.length
  bound:∀ t,(B.getD t []).length<=1000 * s
structure Lh (N:List (List Int)) (s:Nat) (B:List (List Int)) (j:Nat) (B1:List (List Int)):Prop where
  out:RG N s B
  run:((N.getD s []).take j).foldl (fun B m=>rc B s m) B=B1
  len:B1.length=N.length
  bound:∀ t,(B1.getD t []).length<=1000 * s + j
theorem RG.start:RG N 0 (List.replicate N.length []):=⟨rfl,by simp,fun t=>by
  by_cases h:t < N.length <;> simp [Vq,h]⟩
theorem Lh.start (h:RG N s B):Lh N s B 0 B:=⟨h,rfl,h.len,h.bound⟩
theorem Lh.step (h:Lh N s B j B1) (hj:j < (N.getD s []).length) (hm:0<=(N.getD s []).getD j 0->((N.getD s []).getD j 0).toNat < N.length):Lh N s B (j + 1) (rc B1 s ((N.getD s []).getD j 0)) :=
  ⟨h.out,by rw [<- gz (z:=0) hj,SZ,h.run];rfl,by rw [xB];exact h.len,xz h.bound fun q=>by rw [h.len];exact hm q⟩
theorem Lh.yes (h:Lh N s B j B1) (hj:j < (N.getD s []).length) (hm:0<=(N.getD s []).getD j 0->((N.getD s []).getD j 0).toNat < N.length) (q:0<=(N.getD s []).getD j 0):Lh N s B (j + 1) (B1.set ((N.getD s []).getD j 0).toNat (B1.getD ((N.getD s []).getD j 0).toNat [] ++ [(s:Int)])):=by
  have:=h.step hj hm;rwa [RP q] at this
theorem Lh.no (h:Lh N s B j B1) (hj:j < (N.getD s []).length) (hm:0<=(N.getD s []).getD j 0->((N.getD s []).getD j 0).toNat < N.length) (q:¬ 0<=(N.getD s []).getD j 0):Lh N s B (j + 1) B1:=by
  have:=h.step hj hm;rwa [Yj q] at this
theorem RG.next (h:Lh N s B j B1) (hj:(N.getD s []).length=j) (hk:j<=1000):RG N (s + 1) B1 :=
  ⟨by rw [SJ,SZ,h.out.run];show kj N B s=B1;rw [kj,<- h.run,<- hj,Rj],h.len,fun t=>by have:=h.bound t;omega⟩
theorem RG.fin (h:RG N s B) (hs:s=N.length):B=em N:=by subst hs;exact h.run.symm
theorem UQ {s p:Int} {t:Nat}:p ∈ (rc B s m).getD t [] ↔ p ∈ B.getD t []\/(0<=m/\m.toNat=t/\t < B.length/\p=s):=by
  unfold rc;split
  · rename_i q
    by_cases hm:m.toNat < B.length
    · rw [fa hm]
      split
      · rename_i e;subst e
        rw [Vw,Vk]
        exact ⟨fun h=>h.imp id fun z=>⟨q,rfl,hm,z⟩,fun h=>h.imp id fun z=>z.2.2.2⟩
      · rename_i e
        exact ⟨.inl,fun h=>h.elim id fun z=>absurd z.2.1.symm e⟩
    · rw [List.set_eq_of_length_le O]
      exact ⟨.inl,fun h=>h.elim id fun z=>absurd z.2.2.1 O⟩
  · exact ⟨.inl,fun h=>h.elim id fun z=>absurd z.1 ‹_›⟩
theorem vw {s:Int}:∀ (row:List Int) (B:List (List Int)),(row.foldl (fun B m=>rc B s m) B).length=B.length
  | [],_=>rfl
  | a :: row,B=>by rw [TQ,vw row];exact xB
theorem Aq {s p:Int} {t:Nat}:∀ (row:List Int) (B:List (List Int)),p ∈ (row.foldl (fun B m=>rc B s m) B).getD t [] ↔ p ∈ B.getD t []\/((t:Int) ∈ row/\t < B.length/\p=s)
  | [],B=>by simp
  | a :: row,B=>by
    rw [TQ,Aq row,UQ,xB,Vz]
    constructor
    · rintro ((h | ⟨h1,h2,h3,h4⟩) | ⟨h1,h2,h3⟩)
      · exact .inl h
      · exact .inr ⟨.inl O,h3,h4⟩
      · exact .inr ⟨.inr h1,h2,h3⟩
    · rintro (h | ⟨h1 | h1,h2,h3⟩)
      · exact .inl (.inl h)
      · exact .inl (.inr ⟨by omega,by omega,h2,h3⟩)
      · exact .inr ⟨h1,h2,h3⟩
theorem Au {p:Int} {t:Nat}:∀ (L:List Nat) (B:List (List Int)),p ∈ (L.foldl (kj N) B).getD t [] ↔ p ∈ B.getD t []\/(t < B.length/\∃ s ∈ L,p=(s:Int)/\(t:Int) ∈ N.getD s [])
  | [],B=>by simp
  | a :: L,B=>by
    rw [TQ,Au L,kj,Aq,vw]
    constructor
    · rintro ((h | ⟨h1,h2,h3⟩) | ⟨h1,s,h2,h3⟩)
      · exact .inl h
      · exact .inr ⟨h2,a,Vy,h3,h1⟩
      · exact .inr ⟨h1,s,VZ _ h2,h3⟩
    · rintro (h | ⟨h1,s,h2,h3,h4⟩)
      · exact .inl (.inl h)
      · rcases Vz.1 h2 with rfl | h2
        · exact .inl (.inr ⟨h4,h1,h3⟩)
        · exact .inr ⟨h1,s,h2,h3,h4⟩
theorem Gj {p:Int} {t:Nat}:p ∈ (em N).getD t [] ↔ t < N.length/\∃ s,s < N.length/\p=(s:Int)/\(t:Int) ∈ N.getD s []:=by
  rw [em,Au]
  have e:(List.replicate N.length ([]:List Int)).getD t []=[]:=by by_cases h:t < N.length <;> simp [Vq,h]
  rw [e];simp
theorem ur:(em N).length=N.length:=by
  have:∀ (L:List Nat) (B:List (List Int)),(L.foldl (kj N) B).length=B.length:=by
    intro L
    induction L with
    | nil=>intro B;rfl
    | cons a L ih=>intro B;rw [TQ,ih,kj,vw]
  rw [em,this];simp
theorem EM {s m:Int} {c:Nat} (h:∀ t,(B.getD t []).length<=c):∀ t,((rc B s m).getD t []).length<=c + 1:=fun t=>by
  by_cases hm:m.toNat < B.length
  · exact xz h (fun _=>hm) t
  · have:=h t
    unfold rc;split
    · rw [List.set_eq_of_length_le O];omega
    · omega
theorem wj {s:Int}:∀ (row:List Int) (B:List (List Int)) (c:Nat),(∀ t,(B.getD t []).length<=c)->∀ t,((row.foldl (fun B m=>rc B s m) B).getD t []).length<=c + row.length
  | [],B,c,h=>h
  | a :: row,B,c,h=>fun t=>by
    have:=wj (s:=s) row (rc B s a) (c + 1) (EM h) t
    rw [TQ,Xq];omega
theorem wk {k:Nat} (hk:∀ s,(N.getD s []).length<=k):∀ (L:List Nat) (B:List (List Int)) (c:Nat),(∀ t,(B.getD t []).length<=c)->∀ t,((L.foldl (kj N) B).getD t []).length<=c + k * L.length
  | [],B,c,h=>fun t=>by have:=h t;simpa using this
  | a :: L,B,c,h=>fun t=>by
    have h1:=wk hk L (kj N B a) (c + k) (fun t=>by have:=wj (s:=(a:Int)) (N.getD a []) B c h t;have:=hk a;unfold kj;omega) t
    rw [TQ,Xq,Nat.mul_succ];omega
theorem Jk {k:Nat} (hk:∀ s,(N.getD s []).length<=k) (t:Nat):((em N).getD t []).length<=k * N.length:=by
  have:=wk hk (List.range N.length) (List.replicate N.length []) 0 (fun t=>by by_cases h:t < N.length <;> simp [Vq,h]) t
  rw [List.length_range] at this;unfold em;omega
theorem Jf.rows {k:Nat} {acc:List Bool} (h:Jf k acc N) (s:Nat):(N.getD s []).length<=400:=by
  by_cases q:s < N.length
  · have:=h.row s q;have:=h.sym;omega
  · simp [Vq,q]
theorem Jf.back {k:Nat} {acc:List Bool} (h:Jf k acc N) (t:Nat):((em N).getD t []).length<=12000000:=by
  have:=Jk h.rows t;have:=h.num;omega
structure o0 (n:Nat) (sn:List Bool) (Q:List Int):Prop where
  len:sn.length=n
  nd:Q.Nodup
  rng:∀ q ∈ Q,0<=q/\q < n
  is:∀ p,p < n->sn.getD p false=decide ((p:Int) ∈ Q)
variable {sn:List Bool} {Q Q1:List Int} {acc:List Bool} {i:Nat}
theorem o0.nil:o0 n (List.replicate n false) []:=⟨by simp,List.nodup_nil,(fun _ h=>by cases h),fun p hp=>by simp [hp]⟩
theorem o0.add (h:o0 n sn Q) {p:Int} (hp:0<=p/\p < n) (hn:p ∉ Q):o0 n (sn.set p.toNat true) (Q ++ [p]) :=
  ⟨by simpa using h.len,ry h.nd hn,so h.rng hp,fun q hq=>by
    rw [fa (by rw [h.len];omega)]
    split
    · rename_i e;subst e;simp;exact .inr O
    · rename_i e
      rw [h.is q hq]
      congr 1
      rw [Vw,Vk,eq_iff_iff]
      exact ⟨.inl,fun z=>z.elim id fun z=>absurd O e⟩⟩
theorem o0.qlen (h:o0 n sn Q):Q.length<=n:=by
  have:=su (l:=Q.map Int.toNat) (n:=n) ?_ ?_
  · simpa using this
  · rw [List.nodup_iff_pairwise_ne,Qz]
    exact List.Pairwise.imp_of_mem (fun {a c} ha hc hac e=>hac (by have:=h.rng a ha;have:=h.rng c hc;omega)) h.nd
  · intro x hx
    obtain ⟨a,ha,rfl⟩:=Vj.1 hx
    have:=h.rng a ha;omega
theorem zL:sO acc (i + 1)=sO acc i ++ (if acc.getD i false then [(i:Int)] else []):=by
  rw [sO,SJ,List.filter_append,VJ]
  congr 1
  by_cases h:acc.getD i false=true
  · rw [XX h,List.filter_cons,XX h];rfl
  · rw [Xy h,List.filter_cons,Xy h];rfl
theorem RM (h:Q=sO acc i) (q:acc.getD i false=true):Q ++ [(i:Int)]=sO acc (i + 1):=by rw [h,zL,XX q]
theorem Yi (h:Q=sO acc i) (q:acc.getD i false=false):Q=sO acc (i + 1):=by rw [h,zL,q];simp
theorem xy {q:Int}:q ∈ sO acc i ↔ ∃ s,s < i/\acc.getD s false=true/\q=(s:Int):=by
  simp only [sO,Vj,Sq,VV]
  exact ⟨fun ⟨s,⟨h1,h2⟩,h3⟩=>⟨s,h1,h2,h3.symm⟩,fun ⟨s,h1,h2,h3⟩=>⟨s,⟨h1,h2⟩,h3.symm⟩⟩
theorem RL:(i:Int) ∉ sO acc i:=fun h=>by obtain ⟨s,h1,_,h3⟩:=xy.1 h;omega
structure EE (acc:List Bool) (N:List (List Int)) (i:Nat) (sn:List Bool) (Q:List Int):Prop where
  seen:o0 N.length sn Q
  le:i<=Q.length
  fin:∃ f,f + i=N.length + 1/\ku (em N) f i Q=ip acc N
structure EF (acc:List Bool) (N:List (List Int)) (i:Nat) (sn:List Bool) (Q:List Int) (j:Nat) (sn1:List Bool) (Q1:List Int):Prop where
  out:EE acc N i sn Q
  lt:i < Q.length
  seen:o0 N.length sn1 Q1
  run:(((em N).getD (Q.getD i 0).toNat []).take j).foldl jE Q=Q1
variable {sn1:List Bool}
theorem EE.start (h:o0 N.length sn (sO acc acc.length)):EE acc N 0 sn (sO acc acc.length):=⟨h,XK _,_,rfl,rfl⟩
theorem rm:∀ (P Q:List Int),Q <+: P.foldl jE Q
  | [],Q=>Sj _
  | p :: P,Q=>by
    rw [TQ]
    refine List.IsPrefix.trans ?_ (rm P (jE Q p))
    unfold jE;split
    · exact Sj _
    · exact Rw _ _
theorem qh {B:List (List Int)}:∀ (f i:Nat) (Q:List Int),Q <+: ku B f i Q
  | 0,_,_=>Sj _
  | f + 1,i,Q=>by
    unfold ku;split
    · exact (rm _ _).trans (qh f _ _)
    · exact Sj _
theorem EE.pre (h:EE acc N i sn Q):Q <+: ip acc N:=by obtain ⟨f,_,e⟩:=h.fin;rw [<- e];exact qh _ _ _
theorem EE.get (h:EE acc N i sn Q) (hi:i < Q.length):(ip acc N).getD i 0=Q.getD i 0/\i < (ip acc N).length:=⟨yy h.pre hi,Rv hi h.pre.length_le⟩
theorem EE.at (h:EE acc N i sn Q) (hi:i < Q.length):0<=Q.getD i 0/\(Q.getD i 0).toNat < N.length:=by have:=h.seen.rng _ (bj (d:=(0:Int)) hi);omega
theorem EF.start (h:EE acc N i sn Q) (hi:i < Q.length):EF acc N i sn Q 0 sn Q:=⟨h,hi,h.seen,rfl⟩
theorem EF.rng (hj:j < ((em N).getD (Q.getD i 0).toNat []).length):0<=((em N).getD (Q.getD i 0).toNat []).getD j 0/\(((em N).getD (Q.getD i 0).toNat []).getD j 0).toNat < N.length:=by
  obtain ⟨_,s,h2,h3,_⟩:=Gj.1 (bj (d:=(0:Int)) hj)
  rw [h3];exact ⟨by omega,by simpa using h2⟩
theorem EF.next (h:EF acc N i sn Q j sn1 Q1) (hj:j < ((em N).getD (Q.getD i 0).toNat []).length) {Q2:List Int} {D:List Bool} (hs:o0 N.length D Q2) (e:jE Q1 (((em N).getD (Q.getD i 0).toNat []).getD j 0)=Q2):EF acc N i sn Q (j + 1) D Q2 :=
  ⟨h.out,h.lt,hs,by rw [<- gz (z:=(0:Int)) hj,SZ,h.run];exact e⟩
theorem EF.old (h:EF acc N i sn Q j sn1 Q1) (hj:j < ((em N).getD (Q.getD i 0).toNat []).length) (q:(!sn1.getD (((em N).getD (Q.getD i 0).toNat []).getD j 0).toNat false)=false):EF acc N i sn Q (j + 1) sn1 Q1:=by
  have hr:=EF.rng hj
  refine h.next hj h.seen ?_
  rw [h.seen.is _ hr.2] at q
  rw [jE,XX]
  simp only [Bool.not_eq_false',Xw] at q
  rwa [show ((((em N).getD (Q.getD i 0).toNat []).getD j 0).toNat:Int)=((em N).getD (Q.getD i 0).toNat []).getD j 0 by omega] at q
theorem EF.new (h:EF acc N i sn Q j sn1 Q1) (hj:j < ((em N).getD (Q.getD i 0).toNat []).length) (q:(!sn1.getD (((em N).getD (Q.getD i 0).toNat []).getD j 0).toNat false)=true):EF acc N i sn Q (j + 1) (sn1.set (((em N).getD (Q.getD i 0).toNat []).getD j 0).toNat true) (Q1 ++ [((em N).getD (Q.getD i 0).toNat []).getD j 0]):=by
  have hr:=EF.rng hj
  rw [h.seen.is _ hr.2] at q
  simp only [Bool.not_eq_true',VK] at q
  rw [show ((((em N).getD (Q.getD i 0).toNat []).getD j 0).toNat:Int)=((em N).getD (Q.getD i 0).toNat []).getD j 0 by omega] at q
  exact h.next hj (h.seen.add O q) (by rw [jE,Xy q])
theorem EE.next (h:EF acc N i sn Q j sn1 Q1) (hj:((em N).getD (Q.getD i 0).toNat []).length=j):EE acc N (i + 1) sn1 Q1:=by
  obtain ⟨f,hf,e⟩:=h.out.fin
  have h1:=h.out.seen.qlen
  have h2:=h.lt
  obtain ⟨f,rfl⟩:∃ g,f=g + 1:=⟨f - 1,by omega⟩
  have hr:=h.run
  rw [<- hj,Rj] at hr
  have hp:Q <+: Q1:=by rw [<- hr];exact rm _ _
  refine ⟨h.seen,by have:=hp.length_le;omega,f,by omega,?_⟩
  rw [<- e,ku,XX h2,hr]
theorem EE.end (h:EE acc N i sn Q) (hi:Q.length<=i):Q=ip acc N/\i=(ip acc N).length:=by
  obtain ⟨f,hf,e⟩:=h.fin
  have h1:=h.seen.qlen
  have h2:=h.le
  have e2:Q=ip acc N:=by
    rw [<- e]
    cases f with
    | zero=>rfl
    | succ f=>rw [ku,Xy O]
  exact ⟨e2,by rw [<- e2];omega⟩
end
def kg (A B:AH) (bo:Nat) (v:Value):Prop:=∀ b,blk v=some b->A.n<=b/\¬ oT bo B b
section
variable {A B C E M:AH} {bo b:Nat} {v u vY:Value} {cY:Nat} {n:Nat} {xs:List Value}
theorem kg.off (h:kg A C bo v) (g:C.get bo=some (.row true [vY] cY)):Lj v [some bo,blk vY]:=fun c hc=>by
  have:=(h c hc).2
  refine qY (fun q=>this (.inl q)) (pk (fun q=>this (.inr ⟨_,_,g,q⟩)) mN)
theorem kg.ne (h:kg A C bo v):blk v ≠ some bo:=fun q=>(h bo q).2 (.inl Z)
theorem kg.yield (h:kg A C bo v) (fr:qW C v n xs) (g:C.get bo=some (.row true [vY] cY)) (hR:c8 bo (C.hide [some bo,blk vY]) E):kg A E bo v:=fun b hb=>⟨(h b hb).1,fun z=>by
  obtain ⟨o,ho⟩:=fr.blkget hb
  have:=hR.ow b z
  rw [bX ho (h.off g b hb)] at this;cases this⟩
theorem kg.nm (hs:kg A C bo v) (hq:kg A C bo u) (h:b < A.n\/oT bo C b):some b ∉ [blk v,blk u]:=by
  refine pk (fun z=>?_) (pk (fun z=>?_) mN)
  · have:=hs b z;rcases h with h | h;omega;exact this.2 h
  · have:=hq b z;rcases h with h | h;omega;exact this.2 h
theorem kg.next {v':Value} (hs:kg A C bo v) (hq:kg A C bo u) (g:C.get bo=some (.row true [vY] cY)) (l:∀ b,blk vY=some b->∃ o,C.get b=some o) (gE:E.get bo=some (.row true [vY] cY))
    (nj:∀ b,blk v'=some b->(C.hide [blk v,blk u]).get b=none) (lo:∀ b,blk v'=some b->A.n<=b):kg A E bo v':=fun b hb=>⟨lo b hb,fun z=>by
  have z2:oT bo C b:=z.same (by rw [gE,g])
  have hex:∃ o,C.get b=some o:=by
    rcases z2.val g with rfl | q
    · exact ⟨_,g⟩
    · exact l b q
  obtain ⟨o,ho⟩:=hex
  have:=nj b hb
  rw [bX ho (kg.nm hs hq (.inr z2))] at this;cases this⟩
theorem kg.start (g:C.get bo=some (.row true [vY] cY)) (l:∀ b,blk vY=some b->∃ o,A.get b=some o) (gA:A.get bo=some (.row true [vY] cY)) (nj:∀ b,blk v=some b->A.get b=none) (lo:∀ b,blk v=some b->A.n<=b):kg A C bo v:=fun b hb=>⟨lo b hb,fun z=>by
  rcases z.val g with rfl | q
  · have:=nj _ hb;rw [gA] at this;cases this
  · obtain ⟨o,ho⟩:=l b q;have:=nj _ hb;rw [ho] at this;cases this⟩
theorem c8.keep (h:c8 bo M C) (le:M.le E) (g:C.get bo=some (.row true [vY] cY)) (gE:E.get bo=some (.row true [vY] cY)):c8 bo M E:=⟨le,h.wf,fun b hb=>h.ow b (hb.same (by rw [gE,g]))⟩
theorem UM {s:Value} (h:∀ b,blk s=some b->A.n<=b) (ap:ot C s n xs v E) (hn:A.n<=C.n):∀ b,blk v=some b->A.n<=b:=fun b hb=>(ap.blk b hb).elim (h b) fun q=>Xj hn q
theorem lo_nil:∀ b,blk (.slice none 0 0)=some b->A.n<=b:=fun _ q=>by cases q
end
theorem o4:ef prog 160=some false:=by kernel_rfl
theorem s_back (b:Nat) (rwb:Bool) (capb k:Nat) (av nv fv bv:Value) (acc:List Bool) (N:List (List Int)) (rows:List Value) (A:AH) (hok:Jf k acc N) (hb:A.get b=some (.row rwb [num (k:Int),av,nv,fv,bv] capb)) (hav:bJ A 1 av (cy acc)) (hnv:bJ A 1 nv (fh rows)) (hrl:rows.length=N.length) (hF:∀ i,i < N.length->bJ A 1 (rows.getD i undef) (dy (N.getD i []))):bH prog 200 #[.pointer (some ⟨b,0,none⟩)] A (fun v A1=>∃ rows2,A.le A1/\A1.wf/\Fresh A A1 v 1 (fh rows2)/\mq A A1 rows2 (em N)/\be v rows2):=by
 refine bi (e:=[(0,.pointer (some ⟨b,0,none⟩))]) (args:=[.pointer (some ⟨b,0,none⟩)]) call200 func200 Z results200 ntmps200 Z Z Z (fun wf=>?_);have ac:=AH.le.refl A;obtain ⟨⟨d3,dd⟩,hal,hnl,hrow,hval⟩:=hok;refine ak.sq fun h2=>.region<|.I Z<|.nil<|h2<|.sq fun h4=>.region<|.J Z<|.p (du Z)<|.p (ae kq jt U Z) ?_;refine Ops.p (ah jr Z Z (ac.g hb) Z)<|.p (bE (n:=acc.length) nA Z (hav.le ac) O (gx _))<|.m (fun bO=>oO (n:=acc.length) (k:=acc.length) wf ac rfl rfl qq gU RC LQ rfl (XV _) (by show 24 * _<=_;omega) O fun A7 b6 bU aC=>?_);rw [yC] at aC;have ab:=ac.trans bU.le;have aP:mq A A7 (List.replicate acc.length (Value.slice none 0 0)) (List.replicate acc.length []):=mq.nils;refine bO<|.I Z<|.nil<|h4<|.sq fun bd=>.sq fun bl=>.region<|.J Z<|.p (du Z)<|.p (ae sh jM U Z) ?_;refine Ops.p (ah ln Z Z (ab.g hb) Z)<|.p (bE (n:=rows.length) qq Z (hnv.le ab) O (jJ _))<|.J Z<|.nil<|bl<|.block<|.loop (X:=Nat × Value × List Value × List (List Int)) (fun ⟨s,ov,R,Bk⟩=>[(3,ov),(17,nv),(18,num ((rows.length:Nat):Int)),(19,num ((s:Nat):Int))]) (fun ⟨s,ov,R,Bk⟩ B=>(s<=N.length/\RG N s Bk)/\A.le B/\Fresh A B ov 1 (fh R)/\mq A B R Bk/\be ov R) (fun ⟨s,ov,R,Bk⟩=>N.length - s) (⟨0,.slice (some ⟨b6,0,none⟩) acc.length acc.length,List.replicate acc.length (Value.slice none 0 0),List.replicate acc.length []⟩) (jC Z Z Z Z) (⟨⟨XK _,by (rw [hal];exact RG.start)⟩,ab,aC,aP,IL⟩) ?_;rintro ⟨s,ov,R,Bk⟩ B17 ⟨⟨hs,hbk⟩,a8,a7,a5,a1⟩;refine ak.wf fun b2=>?_;have hro:=fun q:s < N.length=>hrow s q;have hva:=fun x (q:s < N.length) (z:x < k)=>hval s x q z;refine ak.sq fun bm=>.region<|.p (ca Z Z)<|.nil<|bm<|.sq fun bp=>.if rfl (fun bY=>?_) (fun bY=>?_)
 ·refine ak.skip<|bp<|.sq fun br=>.block<|.sq fun bu=>.region<|.J Z ?_;obtain ⟨cS,d0,cH,dz,cA,dl,di,b5,bR,b9,cc,aF⟩:=bJ.at (i:=s) (hnv.le a8) Ok O;refine Ops.p (au qq gU Z b5 Z bR)<|.p (ah nI Z Z b9 ((dt aF).trans (fP O)))<|.I Z<|.I Z<|.nil<|bu<|.sq fun bA=>.region<|.J Z<|.p (bE (n:=((N.getD s [])).length) fk Z ((hF s O).le a8) O (fy _)) ?_;refine Ops.J Z<|.nil<|bA<|.block<|.loop (X:=Nat × Value × List Value × List (List Int)) (fun ⟨j,a3,R1,Bk1⟩=>[(3,a3),(4,num ((s:Nat):Int)),(17,nv),(18,num ((rows.length:Nat):Int)),(19,num ((s:Nat):Int)),(24,rows.getD s undef),(25,num ((((N.getD s [])).length:Nat):Int)),(26,num ((j:Nat):Int))]) (fun ⟨j,a3,R1,Bk1⟩ B=>(j<=k/\Lh N s Bk j Bk1)/\A.le B/\Fresh A B a3 1 (fh R1)/\mq A B R1 Bk1/\be a3 R1) (fun ⟨j,a3,R1,Bk1⟩=>k - j) (⟨0,ov,R,Bk⟩) (zZ Z Z Z Z Z Z Z Z) (⟨⟨XK _,Lh.start hbk⟩,a8,a7,a5,a1⟩) ?_;rintro ⟨j,a3,R1,Bk1⟩ B32 ⟨⟨hj,hbj⟩,a9,a0,V,D⟩;refine ak.wf fun aA=>?_;have cu:R1.length=Bk1.length:=by first | exact mq.len ‹_›
  have ck:=hbj.len;have hvj:=fun z:j < k=>hva j O z;simp only [ju] at hvj;have hbd:=hbj.bound ((N.getD s []).getD j 0).toNat;refine ak.sq fun bB=>.region<|.p (ca Z Z)<|.nil<|bB<|.sq fun bC=>.if rfl (fun c3=>?_) (fun c3=>?_)
  ·refine ak.skip<|bC<|.sq fun aD=>.block<|.sq fun bD=>.region ?_;obtain ⟨cU,d1,cK,dD,cB,dm,dj,b7,bS,ba,cf,aG⟩:=bJ.at (i:=j) ((hF s O).le a9) Oa O;refine Ops.p (au fk dH Z b7 Z bS)<|.p (ah fA Z Z ba ((dt aG).trans (dT O)))<|.I Z<|.nil<|bD<|.sq fun bL=>.region<|.J Z<|.p (ml Z Z)<|.nil ?_;refine bL<|.if rfl (fun c4=>?_) (fun c4=>?_)
   ·refine ak.region<|.J Z<|.J Z<|.J Z<|.J Z ?_;obtain ⟨cV,d2,cP,dG,cC,dv,dk,b8,bT,bb,ch,aI⟩:=bJ.at (i:=(((N.getD s [])).getD j 0).toNat) a0.slc Ok O;refine Ops.p (au qq gU Z b8 (jz O) bT)<|.p (ah nI Z Z bb ((dt aI).trans (fP O)))<|.J Z<|.m (fun aV=>bf (c:=[num ((s:Nat):Int)]) aA rfl (aw fk dH z3 rfl U U rfl) fun A50 cX a2=>?_);have cv:=V.ne_new aA a2.lo;have ag:=a0.le a2.le;have a6:=V.le a2.le;refine aV<|.m (fun aY=>ct (ys:=[num ((s:Nat):Int)]) rfl rfl fk dH pd z3 rfl U fk (fun _ h=>by cases h) (a6.fr ((((N.getD s [])).getD j 0).toNat) O).own (bN (n:=1) a2.get Z) rfl rfl (by show (_ + _) * 8<=_;simp only [aJ,Xq,Xz];(try simp only [Xx,Xq,Xz]);omega) O2 fun A58 dJ a4=>?_);rw [show ([num ((s:Nat):Int)]:List Value)=dy [((s:Nat):Int)] from rfl,eo] at a4;obtain ⟨ai,b0⟩:=Fresh.grow (a6.fr ((((N.getD s [])).getD j 0).toNat) O) (a9.trans a2.le) wf a4;have b1:=bx.appd (eI D (s:=(((N.getD s [])).getD j 0).toNat) (by have:=a6.len;omega)).symm ag.own a2.wf a4;have aT:=ag.appd a4 (eI D (s:=(((N.getD s [])).getD j 0).toNat) (by have:=a6.len;omega)).symm;have az:=Kw (s:=(((N.getD s [])).getD j 0).toNat) D b1.symm;have aR:=a6.appRow a2.wf O a4 ai;obtain ⟨ay,ar,ad,c7,_⟩:=ai.own.slice;subst c7;refine aY ?_;obtain ⟨b3,dw,cZ,cb,cF,aB,aE,bc,dK,bV,dI,bP⟩:=aT.at1 (x:=(((N.getD s [])).getD j 0).toNat) Ok;rw [cJ] at aE;refine Ops.p (au qq gU Z aB (jz O) (by rw [aE];omega))<|.m (fun aZ=>aW (off:=(((N.getD s [])).getD j 0).toNat) (c':=cb.set ((((N.getD s [])).getD j 0).toNat) (.slice ay ar ad)) a4.wf rfl (by simp) rfl rfl gU bc (by show ((((N.getD s [])).getD j 0).toNat) + 1<=_;omega) rfl rfl fun A72 aa=>?_);have aS:=aR.keep aa.keep (fun r hr=>az r hr b3 (by rw [aB];rfl));have ap:=bP (.slice ay ar ad) A72 aa;rw [VH] at ap;refine aZ<|.nil<|aD<|.region<|.p (bF (b:=1) Z Z O)<|.J Z<|.nil ?_;exact ⟨⟨j + 1,a3,R1.set ((((N.getD s [])).getD j 0).toNat) (Value.slice ay ar ad),Bk1.set ((((N.getD s [])).getD j 0).toNat) (((Bk1.getD ((((N.getD s [])).getD j 0).toNat) [])) ++ [((s:Nat):Int)])⟩,zZ Z Z Z Z Z Z Z Z,Z,⟨⟨by omega,by exact hbj.yes O O ‹_›⟩,(al b0 wf bV aa.n aa.keep),ap,aS,az⟩,O1⟩
   refine ak.skip<|aD<|.region<|.p (bF (b:=1) Z Z O)<|.J Z<|.nil ?_;exact ⟨⟨j + 1,a3,R1,Bk1⟩,zZ Z Z Z Z Z Z Z Z,Z,⟨⟨by omega,by exact hbj.no O O ‹_›⟩,a9,a0,V,D⟩,O1⟩
  refine ak.exit<|br<|.region<|.p (bF (b:=1) Z Z O)<|.J Z<|.nil ?_;exact ⟨⟨s + 1,a3,R1,Bk1⟩,jC Z Z Z Z,Z,⟨⟨by omega,RG.next hbj O O⟩,a9,a0,V,D⟩,O1⟩
 refine ak.exit<|bd<|.sq fun bM=>.region<|.J Z<|.I Z<|.nil<|bM<|.rt (by exact aH Z (⟨_,a8,b2,a7,oH a5 (hbk.fin O),a1⟩))
theorem s_live (b:Nat) (A:AH):bH prog 180 #[.pointer (some ⟨b,0,none⟩)] A (fun v A1=>∃ b1,v=.func (.func 199) #[] #[.pointer (some ⟨b1,0,none⟩)]/\A.le A1/\A1.wf/\A1.get b1=some (.row true [.pointer (some ⟨b,0,none⟩)] 1)/\A.get b1=none):=by
 refine bi (e:=[(0,.pointer (some ⟨b,0,none⟩))]) (args:=[.pointer (some ⟨b,0,none⟩)]) call180 func180 Z results180 ntmps180 Z Z Z (fun wf=>?_);have D:=AH.le.refl A;refine ak.sq fun h2=>.region<|.m (fun V=>d8 wf rfl rfl fun A5 b4 h=>?_);refine V<|.I Z<|.nil<|h2<|.sq fun h9=>.region<|.p (od Z Z)<|.I Z<|.nil<|h9 ?_;refine ak.ret ?_;repeat first | with_reducible refine cR ?_ | with_reducible refine cr ?_
 exact aH Z (⟨b4,Z,(D.trans h.le),h.wf,h.get,(aX wf (Xj D.n h.lo))⟩)
theorem aam (D lp:Nat) (J:Nat->AH->Prop) (b:Nat) (rwb:Bool) (capb k:Nat) (av nv fv bv:Value) (acc:List Bool) (N:List (List Int)) (rows:List Value) (M A:AH) (b1 k1:Nat) (w1:Bool) (hP:c8 D M A) (e1:J 0 A) (cv:M.get b1=some (.row w1 [.pointer (some ⟨b,0,none⟩)] k1)) (hok:Jf k acc N) (hb:M.get b=some (.row rwb [num (k:Int),av,nv,fv,bv] capb)) (hav:bJ M 1 av (cy acc)) (hnv:bJ M 1 nv (fh rows)) (hrl:rows.length=N.length) (hF:∀ i,i < N.length->bJ M 1 (rows.getD i undef) (dy (N.getD i []))) (hclo:∀ i C C2,J i C->C2.wf->C.n<=C2.n->(∀ b o,(b < A.n\/oT D C b)->C.get b=some o->C2.get b=some o)->J i C2) (hv:∀ i C,J i C->∃ v cap,C.get D=some (.row true [v] cap)/\∀ b,blk v=some b->∃ o,C.get b=some o) (hy:∀ k C M2,k < (ip acc N).length->C.wf->J k C->c8 D M2 C->mU prog lp #[num ((ip acc N).getD k 0)] C (fun v C2=>v=.bool true/\J (k + 1) C2/\C2.wf/\c8 D M2 C2)):bH prog 199 #[.func (.yield lp) #[] #[],.pointer (some ⟨b1,0,none⟩)] A (fun v A1=>J (ip acc N).length A1/\A1.wf/\c8 D M A1):=by
 refine bi (e:=[(0,.func (.yield lp) #[] #[]),(1,.pointer (some ⟨b1,0,none⟩))]) (args:=[.func (.yield lp) #[] #[],.pointer (some ⟨b1,0,none⟩)]) call199 func199 Z results199 ntmps199 Z Z Z (fun wf=>?_);have b3:=hP.le;have d0:=hok;obtain ⟨⟨iT,iV⟩,hal,hnl,hrow,hval⟩:=hok;obtain ⟨vX,cX,gX,lX⟩:=hv _ _ e1;have hbl:=ur (N:=N);refine ak.sq fun h2=>.region<|.p (ah o4 Z Z (b3.g cv) Z)<|.m (fun gG=>aq Z (s_back b _ _ k av nv fv bv acc N rows A d0 (b3.g hb) (hav.le b3) (hnv.le b3) hrl (fun i hi=>(hF i hi).le b3)) ?_);rintro v4 A5 ⟨bb,dj,bD,bL,bd,fO⟩;have gS:=b3.trans dj;have bV:=(AH.le.refl A).trans dj;have xr:=bL;have xf:=bd;have xs:=fO;have gZ:=bV.get _ _ gX;have aS:M.le (A5.hide [some D,blk vX]):=cz gS (fun b hb=>by simp only [Vz,Ty,or_false,Option.some.injEq] at hb;rcases hb with rfl | hb;exact hP.ow _ (.inl Z);exact hP.ow _ (.inr ⟨_,_,gX,hb.symm⟩));have hbk:bJ (A5.hide [some D,blk vX]) 1 v4 (fh bb):=tX bL gX lX (fun b h=>bL.lo b h);have hFK:∀ i,i < N.length->bJ (A5.hide [some D,blk vX]) 1 (bb.getD i undef) (dy ((em N).getD i [])):=fun i hi=>tX (bd.fr i (by rw [ur];exact hi)) gX lX (fun b h=>(bd.fr i (by rw [ur];exact hi)).lo b h);have hrb:bb.length=N.length:=by rw [bd.len,ur]
 have aI:=c6 A5 [some D,blk vX];have bp:=cI (bs:=[some D,blk vX]) bD;have cU:(A5.hide [some D,blk vX]).get D=none:=cQ (by simp);have cV:∀ b,blk vX=some b->(A5.hide [some D,blk vX]).get b=none:=fun b h=>cQ (by simp [h]);have bS:A.n<=(A5.hide [some D,blk vX]).n:=bV.n;generalize hM1:A5.hide [some D,blk vX]=M1 at aS hbk hFK aI bp cU cV bS;refine gG<|.I Z<|.nil<|h2<|.sq fun g5=>.region<|.p (ah o4 Z Z (aI.get _ _ (aS.get _ _ cv)) Z)<|.p (du Z)<|.p (ae kq jt U Z)<|.p (ah jr Z Z (aI.get _ _ (aS.get _ _ hb)) Z) ?_;refine Ops.p (bE (n:=acc.length) nA Z ((hav.le aS).le aI) O (gx _))<|.m (fun f0=>oO (n:=acc.length) (k:=acc.length) bD aI rfl rfl nA nR z4 Uj rfl (XV _) (by show 1 * _<=_;omega) O fun A13 fS aT cc=>?_);rw [qx] at cc;have ba:=ne_new bD gZ aT.lo;have cA:=aX wf (Xj bV.n aT.lo);have dk:=Xj aI.n aT.lo;have g6:=aT.le.g gZ;have b8:=aI.trans aT.le;have f8:=bV.trans aT.le;refine f0<|.I Z<|.nil<|g5<|.sq fun g7=>.region<|.I Z<|.nil<|g7<|.sq fun g8=>?_;refine ak.sq fun g9=>.region<|.p (ah o4 Z Z (b8.g (aS.get _ _ cv)) Z)<|.p (du Z)<|.p (ae kq jt U Z)<|.p (ah jr Z Z (b8.g (aS.get _ _ hb)) Z)<|.p (bE (n:=acc.length) nA Z ((hav.le aS).le b8) O (gx _))<|.J Z<|.nil<|g9 ?_;refine ak.block<|.loop (X:=Nat × List Bool × List Int × Value × Value) (fun ⟨s,sn,Q,sv,qv⟩=>[(0,.func (.yield lp) #[] #[]),(3,v4),(4,sv),(5,qv),(22,av),(23,num ((acc.length:Nat):Int)),(24,num ((s:Nat):Int))]) (fun ⟨s,sn,Q,sv,qv⟩ B=>(s<=acc.length/\o0 N.length sn Q/\Q=sO acc s)/\M1.le B/\Fresh M1 B sv 1 (cy sn)/\Fresh M1 B qv 1 (dy Q)/\B.get D=some (.row true [vX] cX)/\V.blk sv ≠ some D/\V.blk qv ≠ some D/\bx sv qv/\A.le B/\(∀ b,V.blk sv=some b->A.get b=none)/\(∀ b,V.blk qv=some b->A.get b=none)/\((∀ b,blk sv=some b->A.n<=b)/\(∀ b,blk qv=some b->A.n<=b))) (fun ⟨s,sn,Q,sv,qv⟩=>acc.length - s) (⟨0,List.replicate acc.length false,[],.slice (some ⟨fS,0,none⟩) acc.length acc.length,.slice none 0 0⟩) (Jc Z Z Z Z Z Z Z) (⟨⟨XK _,by rw [hal];exact o0.nil,rfl⟩,b8,cc,(Fresh.nil M1 A13 1),g6,(fun q=>by cases q;exact ba rfl),(fun q=>by cases q),(bx.symm bx.nil),f8,(fun b q=>by cases q;exact cA),(fun _ q=>by cases q),⟨(fun b q=>by cases q;exact Xj bS dk),lo_nil⟩⟩) ?_;rintro ⟨s,sn,Q,sv,qv⟩ B26 ⟨⟨hs,hse,hQ⟩,b9,aG,aF,aa,ap,ai,ab,aY,aB,aA,los,loq⟩;refine ak.wf fun bc=>?_;have hsl:=hse.len;have hql:=hse.qlen;have f6:=hse.add (p:=(s:Int));refine ak.sq fun gc=>.region<|.p (ca Z Z)<|.nil<|gc<|.sq fun ge=>.if rfl (fun h3=>?_) (fun h3=>?_)
 ·refine ak.skip<|ge<|.sq fun dZ=>.block<|.sq fun gf=>.region<|.J Z ?_;obtain ⟨iD,iR,ih,jn,hZ,j2,iX,fT,gP,fX,hx,e7⟩:=bJ.at (i:=s) ((hav.le aS).le b9) Of O;refine Ops.p (au nA nR Z fT Z gP)<|.p (ah wQ Z Z fX ((dt e7).trans (fg O)))<|.I Z<|.I Z<|.nil<|gf<|.sq fun gg=>.region<|.J Z<|.nil ?_;refine gg<|.ifB Z (fun h4=>?_) (fun h4=>?_)
  ·refine ak.sq fun gl=>.region<|.J Z<|.J Z ?_;obtain ⟨dW,j3,iN,h6,i1,bM,e4,g0,k2,h1,jX,gN⟩:=aG.at1 (x:=s) Of;rw [bQ] at e4;refine Ops.p (au nA nR Z bM Z (by rw [e4];omega))<|.m (fun f1=>aW (off:=s) (c':=h6.set s (.bool (true))) bc rfl (by simp) rfl rfl nR g0 (by show s + 1<=_;omega) rfl rfl fun A45 aE=>?_);have gm:=aE.k (fun q=>ap (by rw [bM];exact Xk some q.symm)) aa;have ev:=aF.keep aE.keep (ab dW (by rw [bM];rfl));have cf:=gN (.bool (true)) A45 aE;rw [mI] at cf;have d1:=al aY wf (aB dW (by rw [bM];rfl)) aE.n aE.keep;have dd:=al b9 bp h1 aE.n aE.keep;refine f1<|.nil<|gl<|.region<|.J Z<|.J Z<|.m (fun f2=>bf (c:=[num ((s:Nat):Int)]) aE.wf rfl (aw fk dH z3 rfl U U rfl) fun A54 iF ag=>?_);have g4:=aX wf (Xj d1.n ag.lo);have h0:=Xj dd.n ag.lo;have e0:=ag.le.g gm;have ch:=cf.le ag.le;have ck:=ev.le ag.le;have di:=dd.trans ag.le;have d2:=d1.trans ag.le;refine f2<|.m (fun f3=>ct (ys:=[num ((s:Nat):Int)]) rfl rfl fk dH pd z3 rfl U fk (fun _ h=>by cases h) ck.own (bN (n:=1) ag.get Z) rfl rfl (by show (_ + _) * 8<=_;simp only [aJ,Xq,Xz];(try simp only [Xx,Xq,Xz]);omega) O2 fun A64 h7 ay=>?_);rw [show ([num ((s:Nat):Int)]:List Value)=dy [((s:Nat):Int)] from rfl,eo] at ay;obtain ⟨ex,fn⟩:=Fresh.grow ck di bp ay;have gp:=ay.keep ai e0;have fq:=ay.ne ai ag.wf e0;have fM:=bx.appd (show bx qv sv from (bx.symm ab)) ch.own ag.wf ay;have ey:=ch.appd ay (bx.symm ab);have fo:=UM loq ay (Xj bS di.n);have f9:=C8 d2 wf ay aA;have ft:=C9 d2 wf ay aA;refine f3<|.I Z<|.nil<|dZ<|.region<|.p (bF (b:=1) Z Z O)<|.J Z<|.nil ?_;exact ⟨⟨s + 1,sn.set s true,Q ++ [((s:Nat):Int)],sv,h7⟩,Jc Z Z Z Z Z Z Z,Z,⟨⟨by omega,by exact f6 O (by rw [hQ];exact RL),by exact RM hQ ‹_›⟩,fn,ey,ex,gp,ap,fq,(bx.symm fM),f9,aB,ft,⟨los,fo⟩⟩,O1⟩
  refine ak.skip<|dZ<|.region<|.p (bF (b:=1) Z Z O)<|.J Z<|.nil ?_;exact ⟨⟨s + 1,sn,Q,sv,qv⟩,Jc Z Z Z Z Z Z Z,Z,⟨⟨by omega,by exact hse,by exact Yi hQ ‹_›⟩,b9,aG,aF,aa,ap,ai,ab,aY,aB,aA,⟨los,loq⟩⟩,O1⟩
 refine ak.exit<|g8<|.sq fun gq=>.region<|.I Z<|.nil<|gq<|.block ?_;have eZ:=hclo _ _ _ e1 bc aY.n (fun b o _ h=>aY.get b o h);have oS:kg A B26 D sv:=kg.start aa lX gX aB los;have oQ:kg A B26 D qv:=kg.start aa lX gX aA loq;have b5:M1.le (B26.hide [some D,blk vX,blk sv,blk qv]):=cz b9 (xe cU (uD cV (uD aG.lo (uD aF.lo qX))));have frS:Fresh (B26.hide [some D,blk vX,blk sv,blk qv]) B26 sv 1 (cy sn):=aG.hide (by simp);have frQ:Fresh (B26.hide [some D,blk vX,blk sv,blk qv]) B26 qv 1 (dy Q):=aF.hide (by simp);have e3:c8 D (B26.hide [some D,blk vX,blk sv,blk qv]) B26:=⟨c6 _ _,cI bc,fun b hb=>cQ (by rcases hb.val aa with rfl | q;simp;simp [q])⟩;have cS:=c6 B26 [some D,blk vX,blk sv,blk qv];have br:=cI (bs:=[some D,blk vX,blk sv,blk qv]) bc;have hseQ:Q=sO acc acc.length:=by rw [hQ,show s=acc.length by omega]
 have f4:EE acc N 0 sn Q:=by subst hseQ;exact EE.start hse
 generalize hM2:(B26.hide [some D,blk vX,blk sv,blk qv])=M2 at b5 frS frQ e3 cS br;refine ak.loop (X:=Nat × List Bool × List Int × Value × Value) (fun ⟨i,b2,Q1,a6,a5⟩=>[(0,.func (.yield lp) #[] #[]),(3,v4),(4,a6),(5,a5),(8,num ((i:Nat):Int))]) (fun ⟨i,b2,Q1,a6,a5⟩ B=>(EE acc N i b2 Q1)/\M2.le B/\Fresh M2 B a6 1 (cy b2)/\Fresh M2 B a5 1 (dy Q1)/\bx a6 a5/\(J i B/\c8 D M2 B/\kg A B D a6/\kg A B D a5)) (fun ⟨i,b2,Q1,a6,a5⟩=>N.length + 1 - i) (⟨0,sn,Q,sv,qv⟩) (sY Z Z Z Z Z) (⟨f4,cS,frS,frQ,ab,⟨eZ,e3,oS,oQ⟩⟩) ?_;rintro ⟨i,b2,Q1,a6,a5⟩ B81 ⟨hlv,hN,aZ,az,bB,cF,cK,e6,e5⟩;refine ak.wf fun bC=>?_;have hH:=hlv.seen.len;have hE:=hlv.seen.qlen;have hil:=hlv.le;have hat:=fun q:i < Q1.length=>hlv.at q;have hget:=fun q:i < Q1.length=>hlv.get q;have hbb:=d0.back (Q1.getD i 0).toNat;refine ak.sq fun gs=>.sq fun gA=>.region<|.J Z<|.J Z<|.p (bE (n:=Q1.length) fk Z az.slc O (fy _))<|.p (ca Z Z)<|.nil<|gA<|.if rfl (fun h5=>?_) (fun h5=>?_)
 ·refine ak.skip<|gs<|.sq fun gC=>.block<|.sq fun gD=>.sq fun gE=>?_;obtain ⟨vY,cY,gY,lY⟩:=hv _ _ cF;have hyy:=hy i B81 _ (hget O).2 bC cF (c8.full gY bC);rw [(hget O).1] at hyy;refine ak.regionJ ?_;refine mR.q lD Z Z (aN Z) ?_;refine mR.q lD Z Z (aN Z) ?_;refine mR.q lD Z Z (aN Z) ?_;obtain ⟨iH,iS,ir,jN,i2,j4,j1,fV,gQ,g1,hz,e9⟩:=bJ.at (i:=i) az.slc Oa O;refine mR.q lD Z Z (au fk dH Z fV Z gQ) ?_;refine mR.q lD Z Z (ah fA Z Z g1 ((dt e9).trans (dT O))) ?_;refine mR.y lD rfl rfl rfl (hyy) fun k0 A95 f7=>?_;obtain ⟨rfl,e2,h8,b0⟩:=f7;obtain ⟨vZ,cZ,gZ,lZ⟩:=hv _ _ e2;have b7:=b0.mono (cK.sub gY) cK.wf;have ez:=aZ.off (kg.off e6 gY) b0.le;have cu:=az.off (kg.off e5 gY) b0.le;have bm:=kg.yield e6 aZ.own gY b0;have bl:=kg.yield e5 az.own gY b0;have gM:=c6 A95 [blk a6,blk a5];have bY:=cI (bs:=[blk a6,blk a5]) h8;have njS:∀ b,blk a6=some b->(A95.hide [blk a6,blk a5]).get b=none:=fun b h=>cQ (by simp [h]);have njQ:∀ b,blk a5=some b->(A95.hide [blk a6,blk a5]).get b=none:=fun b h=>cQ (by simp [h]);have gL:A.n<=M2.n:=Xj bS b5.n;refine mR.q lD Z Z (eD Z) ?_;refine mR.nil ?_;refine gE<|.cond_false Z<|.skip<|gD<|.sq fun gF=>.region<|.J Z<|.J Z<|.J Z ?_;obtain ⟨hp,hA,hl,hV,he,hO,hJ,ea,fe,eA,h9,dv⟩:=bJ.at (i:=i) cu.slc Oa O;refine Ops.p (au fk dH Z ea Z fe)<|.p (ah fA Z Z eA ((dt dv).trans (dT O))) ?_;obtain ⟨hq,hB,hm,hW,hf,hR,hK,ec,fi,eC,ha,dw⟩:=bJ.at (i:=(Q1.getD i 0).toNat) ((hbk.le b5).le b7.le) (by simp only [cJ];have:=hat O;omega) O;refine Ops.p (au qq gU Z ec (jz (by have:=hat O;omega)) fi)<|.p (ah nI Z Z eC ((dt dw).trans (fP (by have:=hat O;omega))))<|.p (bE (n:=((((em N)).getD ((Q1.getD i 0).toNat) [])).length) fk Z (((fun i hi=>(hFK i hi).le b5) ((Q1.getD i 0).toNat) (by have:=hat O;omega)).le b7.le) O (fy _))<|.J Z<|.nil<|gF<|.block<|.loop (X:=Nat × List Bool × List Int × Value × Value) (fun ⟨j,aV,Q2,ar,aC⟩=>[(0,.func (.yield lp) #[] #[]),(3,v4),(4,ar),(5,aC),(8,num ((i:Nat):Int)),(57,bb.getD ((Q1.getD i 0).toNat) undef),(58,num ((((((em N)).getD ((Q1.getD i 0).toNat) [])).length:Nat):Int)),(59,num ((j:Nat):Int))]) (fun ⟨j,aV,Q2,ar,aC⟩ B=>(j<=((em N).getD (Q1.getD i 0).toNat []).length/\EF acc N i b2 Q1 j aV Q2)/\M2.le B/\Fresh M2 B ar 1 (cy aV)/\Fresh M2 B aC 1 (dy Q2)/\B.get D=some (.row true [vZ] cZ)/\V.blk ar ≠ some D/\V.blk aC ≠ some D/\bx ar aC/\(A95.hide [blk a6,blk a5]).le B/\(∀ b,V.blk ar=some b->(A95.hide [blk a6,blk a5]).get b=none)/\(∀ b,V.blk aC=some b->(A95.hide [blk a6,blk a5]).get b=none)/\((∀ b,blk ar=some b->A.n<=b)/\(∀ b,blk aC=some b->A.n<=b))) (fun ⟨j,aV,Q2,ar,aC⟩=>((em N).getD (Q1.getD i 0).toNat []).length - j) (⟨0,b2,Q1,a6,a5⟩) (zZ Z Z Z Z Z Z Z Z) (⟨⟨XK _,EF.start hlv O⟩,b7.le,ez,cu,gZ,bm.ne,bl.ne,bB,gM,njS,njQ,⟨(fun b q=>(bm b q).1),(fun b q=>(bl b q).1)⟩⟩) ?_;rintro ⟨j,aV,Q2,ar,aC⟩ B103 ⟨⟨hj,hlj⟩,aR,ac,aD,a1,a4,a3,a2,aP,a9,a8,bA,bu⟩;refine ak.wf fun c7=>?_;have hI:=hlj.seen.len;have hG:=hlj.seen.qlen;have hrg:=fun q:j < ((em N).getD (Q1.getD i 0).toNat []).length=>EF.rng q;refine ak.sq fun eQ=>.region<|.p (ca Z Z)<|.nil<|eQ<|.sq fun eS=>.if rfl (fun fE=>?_) (fun fE=>?_)
  ·refine ak.skip<|eS<|.sq fun cB=>.block<|.sq fun eT=>.region ?_;obtain ⟨hr,hC,hn,hX,hg,hS,hL,eg,fl,eG,hc,dz⟩:=bJ.at (i:=j) (((fun i hi=>(hFK i hi).le b5) ((Q1.getD i 0).toNat) (by have:=hat O;omega)).le aR) Oa O;refine Ops.p (au fk dH Z eg Z fl)<|.p (ah fA Z Z eG ((dt dz).trans (dT O)))<|.I Z<|.nil<|eT<|.sq fun eV=>.region<|.J Z<|.J Z ?_;obtain ⟨ht,hD,ho,hY,hh,hT,hM,en,fm,eL,hd,dD⟩:=bJ.at (i:=(((((em N)).getD ((Q1.getD i 0).toNat) [])).getD j 0).toNat) ac.slc Of O;refine Ops.p (au nA nR Z en (jz O) fm)<|.p (ah wQ Z Z eL ((dt dD).trans (fg O)))<|.p (eD Z)<|.nil<|eV<|.ifB Z (fun fI=>?_) (fun fI=>?_)
   ·refine ak.sq fun eX=>.region<|.J Z<|.J Z ?_;obtain ⟨cb,hU,hw,fL,hk,b6,d3,eN,iv,fD,it,fd⟩:=ac.at1 (x:=(((((em N)).getD ((Q1.getD i 0).toNat) [])).getD j 0).toNat) Of;rw [bQ] at d3;refine Ops.p (au nA nR Z b6 (jz O) (by rw [d3];omega))<|.m (fun dJ=>aW (off:=(((((em N)).getD ((Q1.getD i 0).toNat) [])).getD j 0).toNat) (c':=fL.set ((((((em N)).getD ((Q1.getD i 0).toNat) [])).getD j 0).toNat) (.bool (true))) c7 rfl (by simp) rfl rfl nR eN (by show ((((((em N)).getD ((Q1.getD i 0).toNat) [])).getD j 0).toNat) + 1<=_;omega) rfl rfl fun A123 ad=>?_);have eY:=ad.k (fun q=>a4 (by rw [b6];exact Xk some q.symm)) a1;have dG:=aD.keep ad.keep (a2 cb (by rw [b6];rfl));have bO:=fd (.bool (true)) A123 ad;rw [mI] at bO;have bT:=al aP bY (a9 cb (by rw [b6];rfl)) ad.n ad.keep;have c3:=al aR br fD ad.n ad.keep;refine dJ<|.nil<|eX<|.region<|.J Z<|.J Z<|.m (fun dK=>bf (c:=[num (((((em N)).getD ((Q1.getD i 0).toNat) [])).getD j 0)]) ad.wf rfl (aw fk dH z3 rfl U U rfl) fun A132 hu a0=>?_);have fQ:=aX bY (Xj bT.n a0.lo);have fR:=Xj c3.n a0.lo;have cC:=a0.le.g eY;have bP:=bO.le a0.le;have bR:=dG.le a0.le;have c4:=c3.trans a0.le;have bU:=bT.trans a0.le;refine dK<|.m (fun dL=>ct (ys:=[num (((((em N)).getD ((Q1.getD i 0).toNat) [])).getD j 0)]) rfl rfl fk dH pd z3 rfl U fk (fun _ h=>by cases h) bR.own (bN (n:=1) a0.get Z) rfl rfl (by show (_ + _) * 8<=_;simp only [aJ,Xq,Xz];(try simp only [Xx,Xq,Xz]);omega) O2 fun A142 fN a7=>?_);rw [show ([num (((((em N)).getD ((Q1.getD i 0).toNat) [])).getD j 0)]:List Value)=dy [((((em N)).getD ((Q1.getD i 0).toNat) [])).getD j 0] from rfl,eo] at a7;obtain ⟨dI,dO⟩:=Fresh.grow bR c4 br a7;have dS:=UM bu a7 (Xj gL c4.n);have dM:=C8 bU bY a7 a8;have dV:=C9 bU bY a7 a8;refine dL<|.I Z<|.nil<|cB<|.region<|.p (bF (b:=1) Z Z O)<|.J Z<|.nil ?_;exact ⟨⟨j + 1,aV.set ((((((em N)).getD ((Q1.getD i 0).toNat) [])).getD j 0).toNat) true,Q2 ++ [((((em N)).getD ((Q1.getD i 0).toNat) [])).getD j 0],ar,fN⟩,zZ Z Z Z Z Z Z Z Z,Z,⟨⟨by omega,by exact hlj.new O ‹_›⟩,dO,(bP.appd a7 (bx.symm a2)),dI,(a7.keep a3 cC),a4,(a7.ne a3 a0.wf cC),(bx.symm (bx.appd (show bx aC ar from (bx.symm a2)) bP.own a0.wf a7)),dM,a9,dV,⟨bA,dS⟩⟩,O1⟩
   refine ak.skip<|cB<|.region<|.p (bF (b:=1) Z Z O)<|.J Z<|.nil ?_;exact ⟨⟨j + 1,aV,Q2,ar,aC⟩,zZ Z Z Z Z Z Z Z Z,Z,⟨⟨by omega,by exact hlj.old O ‹_›⟩,aR,ac,aD,a1,a4,a3,a2,aP,a9,a8,⟨bA,bu⟩⟩,O1⟩
  refine ak.exit<|gC<|.region<|.J Z<|.p (bF (b:=1) Z Z O)<|.I Z<|.nil ?_;have cH:=hclo _ _ _ e2 c7 aP.n (fun b o hb h=>aP.get b o (bX h (kg.nm bm bl hb)));have cP:=c8.keep b7 aR gZ a1;have dm:=kg.next bm bl gZ lZ a1 a9 bA;have dl:=kg.next bm bl gZ lZ a1 a8 bu;exact ⟨⟨i + 1,aV,Q2,ar,aC⟩,sY Z Z Z Z Z,Z,⟨EE.next hlj O,aR,ac,aD,a2,⟨cH,cP,dm,dl⟩⟩,O1⟩
 refine ak.exit ?_;repeat first | with_reducible refine cR ?_ | with_reducible refine cr ?_
 repeat first | with_reducible refine gk ?_ | with_reducible refine fj ?_ | with_reducible refine eR U ?_ | with_reducible refine eU ?_ | with_reducible refine d4 ?_
 exact AU (vs:=[]) Z (⟨by rw [<- (hlv.end O).2];exact cF,bC,cK.mono (aS.trans b5) hP.wf⟩)
abbrev jS (p:Bool × Bool):Value:=.agg #[.bool p.1,.bool p.2]
section
variable {P:Program} {w:World} {kt bt:TypeId} {p q:Bool × Bool}
structure RI (P:Program) (kt bt:TypeId):Prop where
  arr:P.underlying kt=some (.array 2 bt)
  bool:P.underlying bt=some .bool
  sz:dY P bt=some 1
  ag:ef P bt=some false
theorem KN (h:RI P kt bt):(part bt #[.bool p.1,.bool p.2] 0).run P w=.ok (.bool p.1) w:=pt (by rw [rC,h.ag];rfl)
theorem KO (h:RI P kt bt):(part bt #[.bool p.1,.bool p.2] 1).run P w=.ok (.bool p.2) w:=pt (by rw [rC,h.ag];rfl)
theorem yO (h:RI P kt bt) (b:Bool):(Instr.checkKey b 10000 kt (jS p)).run P w=.ok () w:=by
  have e:Instr.checkKey b 10000 kt (jS p)=Instr.checkKey b (9998 + 1 + 1) kt (jS p):=rfl
  rw [e]
  generalize 9998=d
  have hb:∀ v,(Instr.checkKey b (d + 1) bt (.bool v)).run P w=.ok () w:=fun v=>by
    unfold Instr.checkKey
    simp only [Sem.run_bind,cn h.bool,Result.andThen_ok];rfl
  rw [Instr.checkKey]
  simp [Sem.run_bind,cn h.arr,Result.andThen_ok,Std.Legacy.Range.forIn_eq_forIn_range',List.range',fb h.sz,hb]
  rw [KN h];simp [hb]
  rw [KO h];simp [hb]
theorem Kg (h:RI P kt bt):(Op.equal kt (jS p) (jS q)).run P w=.ok (decide (p=q)) w:=by
  have e:Op.equal kt (jS p) (jS q)=Op.equalIn (9998 + 1 + 1) kt (jS p) (jS q):=rfl
  rw [e]
  generalize 9998=d
  have hb:∀ u v,(Op.equalIn (d + 1) bt (.bool u) (.bool v)).run P w=.ok (u == v) w:=fun u v=>by
    simp only [Op.equalIn,Sem.run_bind,cn h.bool,Result.andThen_ok];rfl
  rw [Op.equalIn]
  simp [Sem.run_bind,cn h.arr,Result.andThen_ok,Std.Legacy.Range.forIn_eq_forIn_range',List.range',fb h.sz,hb]
  rw [KN h];simp
  rw [KN h];simp [hb]
  obtain ⟨p1,p2⟩:=p
  obtain ⟨q1,q2⟩:=q
  by_cases h1:p1=q1
  · subst h1
    simp
    rw [KO (p:=(p1,p2)) h];simp
    rw [KO (p:=(p1,q2)) h];simp [hb]
    by_cases h2:p2=q2
    · subst h2;simp
    · simp [h2]
  · simp [h1]
theorem Wa (h:RI P kt bt) (k:Bool × Bool):∀ (l:List MapEntry) (E:List ((Bool × Bool) × Value)) (n:Nat),l.map (fun x=>(x.key,x.val))=E.map (fun p=>(jS p.1,p.2)) ->
    ∃ r,(Instr.findAsking kt (jS k) l n).run P w=.ok r w/\r.map (·.2)=lk E k:=by
  intro l
  induction l with
  | nil =>
    intro E n hE
    cases E with
    | nil=>exact ⟨none,Z,Z⟩
    | cons p E=>cases hE
  | cons x l ih =>
    intro E n hE
    cases E with
    | nil=>cases hE
    | cons p E =>
      simp only [TJ,List.cons.injEq,Prod.mk.injEq] at hE
      obtain ⟨⟨h1,h2⟩,h3⟩:=hE
      rw [Instr.findAsking]
      simp only [Sem.run_bind,h1,Kg h,Result.andThen_ok]
      by_cases q:k=p.1
      · rw [XJ q]
        exact ⟨some (n,x.val),Z,by simp [lk,q,h2]⟩
      · rw [Xv q]
        obtain ⟨r,g1,g2⟩:=ih E (n + 1) h3
        exact ⟨r,g1,by rw [g2];simp [lk,show ¬ p.1=k from fun e=>q e.symm]⟩
theorem Bg (h:RI P kt bt) (k:Bool × Bool) {es:Array MapEntry} {E:List ((Bool × Bool) × Value)} (hE:d9 jS es E):∃ r,(Instr.findKey kt (jS k) es.toList).run P w=.ok r w/\r.map (·.2)=lk E k:=by
  obtain ⟨r,g1,g2⟩:=Wa (w:=w) h k es.toList E 0 hE
  unfold Instr.findKey
  simp only [Sem.run_bind,cn h.arr,Result.andThen_ok]
  cases hl:es.toList with
  | nil =>
    refine ⟨none,Z,?_⟩
    have hE':es.toList.map (fun x=>(x.key,x.val))=E.map fun p=>(jS p.1,p.2):=hE
    rw [hl] at hE'
    cases E with
    | nil=>rfl
    | cons p E=>cases hE'
  | cons x l =>
    rw [hl] at g1
    refine ⟨r,?_,g2⟩
    have:Instr.findNow (.array 2 bt) (jS k) (x :: l) 0=none:=by
      unfold Instr.findNow
      have:Instr.sameNow (.array 2 bt) (jS k) x.key=none:=by unfold Instr.sameNow;rfl
      rw [this]
    rw [this];exact g1
end
section
variable {P:Program} {nt:Nat} {all:Array Oper} {os:List Oper} {Q:Exit->Fr->AH->Prop} {e:im} {ds:List Deferred} {A:AH} {x y z:Operand} {t kt et bt:TypeId} {ty:TypeId} {ps:String} {af:Array Edge} {dst:Option Nat} {m clock:Nat} {es:Array MapEntry} {rw:Bool} {E:List ((Bool × Bool) × Value)} {k:Bool × Bool} {v zv:Value}
theorem V.Ops.look2 (hd:gB nt dst=true) (hx:cg e x=some (.map (some m))) (hy:cg e y=some (jS k)) (hu:P.underlying t=some (.map kt et)) (hk:RI P kt bt) (hz:c5 P et=some zv) (hg:A.get m=some (.obj rw (.map es clock))) (hE:d9 jS es E)
    (h1:∀ v,lk E k=some v->Ops P nt all os Q ⟨gj e dst (.tuple #[v,.bool true]),ds⟩ A) (h2:lk E k=none->Ops P nt all os Q ⟨gj e dst (.tuple #[zv,.bool false]),ds⟩ A) :
    Ops P nt all ({ dst:=dst,op:=.lookup t x y true,type:=ty,pos:=ps,after:=af,guard:=none } :: os) Q ⟨e,ds⟩ A:=by
  have key:∀ (u:Value × Bool),u=(match lk E k with | some v=>(v,true) | none=>(zv,false))->∀ a:Act,dC nt ⟨e,ds⟩ a->∀ w,cD A w->(execOp a.eval { dst:=dst,op:=.lookup t x y true,type:=ty,pos:=ps,after:=af,guard:=none }).run P w=.ok (.value (.tuple #[u.1,.bool u.2])) w:=by
    rintro u rfl a ha w hw
    have g1:=c9 ha hx
    have g2:=c9 ha hy
    obtain ⟨o1,o2⟩:=hw.obj hg
    obtain ⟨r,f1,f2⟩:=Bg (w:=w) hk k hE
    simp only [execOp,g1,g2,Instr.lookup,Sem.run_bind,cn hu,Result.andThen_ok,d7 o1 o2,Sem.run_pure,yO hk,f1]
    cases r with
    | none =>
      simp only [Option.map_none] at f2
      rw [<- f2]
      simp only [Sem.run_bind,iW hz,Result.andThen_ok,Sem.run_pure,if_true]
    | some r =>
      simp only [RK] at f2
      rw [<- f2]
      simp only [Sem.run_bind,Result.andThen_ok,Sem.run_pure,if_true]
  cases hl:lk E k with
  | none=>exact Ops.val Z hd (key (zv,false) (by rw [hl])) (h2 hl)
  | some v=>exact Ops.val Z hd (key (v,true) (by rw [hl])) (h1 v hl)
theorem V.Ops.skipW {o:Oper} {A':AH} (hg:o.guard=none) (hd:gB nt o.dst=true) (hr:∀ a:Act,dC nt ⟨e,ds⟩ a->∀ w,cD A w->∃ w',(execOp a.eval o).run P w=.ok .skip w'/\cD A' w'/\fx A w A' w') (h:Ops P nt all os Q ⟨gj e o.dst undef,ds⟩ A') :
    Ops P nt all (o :: os) Q ⟨e,ds⟩ A:=by
  intro a w ha hw A₀ w₀ hs
  unfold wpList
  rw [XX (by simp [Region.wanted,hg])]
  left
  unfold Oper.wp
  obtain ⟨w',r,v1,s1⟩:=hr a ha w hw
  rw [r]
  exact h _ w' (ha.put o.dst undef (dq hd)) v1 A₀ w₀ (hs.trans s1)
theorem V.Ops.new2 (hd:gB nt dst=true) (wf:A.wf) (hx:cg e x=some (.map (some m))) (hy:cg e y=some (jS k)) (hz:cg e z=some v) (hu:P.underlying t=some (.map kt et)) (hk:RI P kt bt) (hg:A.get m=some (.obj true (.map es clock))) (hE:d9 jS es E) (hn:lk E k=none)
    (h:∀ A1 es1 ck,sL A A1 m (.obj true (.map es1 ck))->d9 jS es1 (E ++ [(k,v)])->Ops P nt all os Q ⟨gj e dst undef,ds⟩ A1) :
    Ops P nt all ({ dst:=dst,op:=.mapUpdate t x y z,type:=ty,pos:=ps,after:=af,guard:=none } :: os) Q ⟨e,ds⟩ A:=by
  refine Ops.skipW (A':=A.set m (.obj true (.map (es.push { key:=jS k,val:=v,born:=clock }) (clock + 1)))) Z hd (fun a ha w hw=>?_) (h _ _ _ (Xd wf hg _) (hE.push k v clock))
  have g1:=c9 ha hx
  have g2:=c9 ha hy
  have g3:=c9 ha hz
  obtain ⟨o1,o2⟩:=hw.obj hg
  obtain ⟨r,f1,f2⟩:=Bg (w:=w) hk k hE
  rw [hn] at f2
  obtain rfl:r=none:=by cases r with | none=>rfl | some r=>cases f2
  obtain ⟨w',r,v1,s1⟩:=kf (P:=P) hw hg (y:=.map (es.push { key:=jS k,val:=v,born:=clock }) (clock + 1)) (fun _ _ _ q=>by cases q)
  refine ⟨w',?_,v1,s1⟩
  simp only [execOp,g1,g2,g3,Sem.run_bind,Instr.mapUpdate,cn hu,Result.andThen_ok,d7 o1 o2,yO hk,f1,r]
  rfl
end
section
variable {K:Type} [DecidableEq K]
def pq (Q:List K):List (K × Value):=Q.zipIdx.map fun p=>(p.1,num ((p.2:Nat):Int))
theorem vJ (Q:List K):(pq Q).map (·.1)=Q:=by
  simp [pq,RQ,Function.comp_def]
theorem AM (Q:List K) (t:K):pq (Q ++ [t])=pq Q ++ [(t,num ((Q.length:Nat):Int))]:=by simp [pq,List.zipIdx_append]
theorem GT (Q:List K):(pq Q).length=Q.length:=by simp [pq]
theorem DP {Q:List K} {t:K} (h:t ∉ Q):lk (pq Q) t=none:=Dp.2 (by rw [vJ];exact h)
theorem UL:∀ (Q:List K) (n:Nat) (t:K),t ∈ Q->lk ((Q.zipIdx n).map fun p=>(p.1,num ((p.2:Nat):Int))) t=some (num (((n + Q.idxOf t:Nat)):Int)):=by
  intro Q
  induction Q with
  | nil=>intro n t h;cases h
  | cons a Q ih =>
    intro n t h
    by_cases q:a=t
    · subst q;simp [lk]
    · have h2:t ∈ Q:=by rcases Vz.1 h with z | z;exact absurd z.symm q;exact z
      have:=ih (n + 1) t h2
      simp only [List.zipIdx_cons,TJ]
      rw [List.idxOf_cons,beq_eq_false_iff_ne.2 q,cond_false]
      simp only [lk,QJ,Xv q] at this ⊢
      rw [this]
      congr 3;omega
theorem xm {Q:List K} {t:K} (h:t ∈ Q):lk (pq Q) t=some (num ((Q.idxOf t:Nat):Int)):=by
  have:=UL Q 0 t h
  rwa [Qq] at this
theorem Vn {Q:List K} {t:K} (h:t ∉ Q):Cd (pq Q) t (num ((Q.length:Nat):Int))=pq (Q ++ [t]):=by
  rw [xq (by rw [vJ];exact h),AM]
def qk (st:List Int × List K) (x:K):List Int × List K:=if x ∈ st.2 then (st.1 ++ [(st.2.idxOf x:Int)],st.2) else (st.1 ++ [(st.2.length:Int)],st.2 ++ [x])
def cw (l:List K):List Int × List K:=l.foldl qk ([],[])
theorem sx (l:List K) (x:K):cw (l ++ [x])=qk (cw l) x:=by simp [cw]
theorem iB (l:List K):(cw l).2.Nodup/\(∀ x,x ∈ (cw l).2 ↔ x ∈ l)/\(cw l).1=l.map (fun x=>((cw l).2.idxOf x:Int)):=by
  suffices h:∀ (l m:List K),cw m=(m.map (fun x=>((cw m).2.idxOf x:Int)),(cw m).2)->(cw m).2.Nodup->(∀ x,x ∈ (cw m).2 ↔ x ∈ m) ->
      (cw (m ++ l)).2.Nodup/\(∀ x,x ∈ (cw (m ++ l)).2 ↔ x ∈ m ++ l)/\(cw (m ++ l)).1=(m ++ l).map (fun x=>((cw (m ++ l)).2.idxOf x:Int)) by
    have:=h l [] Z List.nodup_nil (fun x=>Iff.rfl)
    simpa using this
  intro l
  induction l with
  | nil=>intro m h1 h2 h3;rw [Sk];exact ⟨h2,h3,Xk (·.1) h1⟩
  | cons a l ih =>
    intro m h1 h2 h3
    have e:m ++ a :: l=(m ++ [a]) ++ l:=by simp
    rw [e]
    have es:cw (m ++ [a])=qk (cw m) a:=sx m a
    by_cases q:a ∈ (cw m).2
    · have e2:qk (cw m) a=((cw m).1 ++ [((cw m).2.idxOf a:Int)],(cw m).2):=XX q
      refine ih (m ++ [a]) ?_ ?_ ?_
      · rw [es,e2];simp only [VJ,TJ,List.map_nil]
        rw [show (cw m).1=m.map (fun x=>((cw m).2.idxOf x:Int)) from Xk (·.1) h1]
      · rw [es,e2];exact h2
      · intro x;rw [es,e2,Vw,Vk]
        show x ∈ (cw m).2 ↔ _
        rw [h3 x]
        exact ⟨.inl,fun z=>z.elim id fun z=>by subst z;exact (h3 x).1 q⟩
    · have e2:qk (cw m) a=((cw m).1 ++ [((cw m).2.length:Int)],(cw m).2 ++ [a]):=Xy q
      refine ih (m ++ [a]) ?_ ?_ ?_
      · rw [es,e2];simp only [VJ,TJ,List.map_nil]
        have hm:(cw m).1=m.map (fun x=>((cw m).2.idxOf x:Int)):=Xk (·.1) h1
        congr 1
        rw [hm]
        congr 1
        · apply List.map_congr_left
          intro x hx
          rw [List.idxOf_append,XX ((h3 x).2 hx)]
        · rw [List.idxOf_append,Xy q];simp
      · rw [es,e2];exact Qx.2 ⟨h2,by simp,by intro x hx y hy;simp at hy;subst hy;exact fun z=>q (z ▸ hx)⟩
      · intro x;rw [es,e2,Vw,Vw,Vk]
        show _\/_ ↔ _
        rw [h3 x]
theorem UY (l:List K):(cw l).1.length=l.length:=by rw [(iB l).2.2];simp
theorem yr {l:List K} {n:Nat} (h1:l.Nodup) (f:K->Nat) (hf:∀ a ∈ l,∀ b ∈ l,f a=f b->a=b) (hb:∀ a ∈ l,f a < n):l.length<=n:=by
  have:=su (l:=l.map f) (n:=n) ?_ ?_
  · simpa using this
  · rw [List.nodup_iff_pairwise_ne,Qz]
    exact List.Pairwise.imp_of_mem (fun {a c} ha hc hac e=>hac (hf a ha c hc e)) h1
  · intro x hx
    obtain ⟨a,ha,rfl⟩:=Vj.1 hx
    exact hb a ha
theorem Zo (l:List K):(cw l).2.length<=l.length :=
  yr (iB l).1 (fun a=>l.idxOf a) (fun a ha b hb e=>by
    have h1:=((iB l).2.1 a).1 ha
    have h2:=((iB l).2.1 b).1 hb
    have e1:=Qw (Tk.2 h1)
    have e2:=Qw (Tk.2 h2)
    rw [<- e1,<- e2];congr 1) fun a ha=>Tk.2 (((iB l).2.1 a).1 ha)
theorem uM (l:List K) {i:Nat} {d:K} (hi:i < l.length):(cw l).1.getD i 0=((cw l).2.idxOf (l.getD i d):Int)/\l.getD i d ∈ (cw l).2:=by
  refine ⟨?_,((iB l).2.1 _).2 (bj hi)⟩
  rw [(iB l).2.2]
  simp [Vq,hi]
theorem UZ (l:List K):∀ c ∈ (cw l).1,0<=c/\c < (cw l).2.length:=fun c hc=>by
  rw [(iB l).2.2] at hc
  obtain ⟨x,hx,rfl⟩:=Vj.1 hc
  have:=Tk.2 (((iB l).2.1 x).2 hx)
  omega
theorem DE (l:List K) {i j:Nat} {d:K} (hi:i < l.length) (hj:j < l.length):(cw l).1.getD i 0=(cw l).1.getD j 0 ↔ l.getD i d=l.getD j d:=by
  have h1:=uM l (d:=d) hi
  have h2:=uM l (d:=d) hj
  rw [h1.1,h2.1]
  constructor
  · intro h
    have e1:=Qw (Tk.2 h1.2)
    have e2:=Qw (Tk.2 h2.2)
    rw [<- e1,<- e2];congr 1;omega
  · intro h;rw [h]
end
theorem JU {K L:Type} [DecidableEq K] [DecidableEq L] (l:List K) (m:List L) (d:K) (d2:L) (hl:l.length=m.length) (h:∀ i j,i < m.length->j < m.length->m.getD i d2=m.getD j d2->l.getD i d=l.getD j d):(cw l).2.length<=(cw m).2.length :=
  yr (iB l).1 (fun a=>(cw m).2.idxOf (m.getD (l.idxOf a) d2)) (fun a ha b hb e=>by
    have h1:=Tk.2 (((iB l).2.1 a).1 ha)
    have h2:=Tk.2 (((iB l).2.1 b).1 hb)
    have m1:=uM m (d:=d2) (i:=l.idxOf a) O
    have m2:=uM m (d:=d2) (i:=l.idxOf b) O
    have e1:=Qw h1
    have e2:=Qw h2
    have:=h _ _ O O ((DE m (d:=d2) (i:=l.idxOf a) (j:=l.idxOf b) O O).1 (by rw [m1.1,m2.1];exact Xk Int.ofNat e))
    rw [gd h1,gd h2] at this
    rw [<- e1,<- e2];exact this) fun a ha=>by
    have h1:=Tk.2 (((iB l).2.1 a).1 ha)
    exact Tk.2 (uM m (d:=d2) (i:=l.idxOf a) O).2
def nX (n:Nat) (key:List Int->Nat->Wd):Nat->Nat->List Int->List Int
  | 0,_,cls=>cls
  | f + 1,count,cls=>if (cw ((List.range n).map (key cls))).2.length=count then (cw ((List.range n).map (key cls))).1 else nX n key f (cw ((List.range n).map (key cls))).2.length (cw ((List.range n).map (key cls))).1
def EW (n:Nat) (st:Nat->Bool × Bool) (key:List Int->Nat->Wd):List Int:=nX n key (n + 2) (cw ((List.range n).map st)).2.length (cw ((List.range n).map st)).1
def mh (lv:List Bool) (m:Int):Bool:=decide (0<=m) && lv.getD m.toNat false
def yl (lv:List Bool) (cls:List Int) (m:Int):Wd:=32 :: (if mh lv m then jf (cls.getD m.toNat 0).toNat else [])
def qQ (lv:List Bool) (N:List (List Int)) (cls:List Int) (i:Nat):Wd:=if lv.getD i false then jf (cls.getD i 0).toNat ++ (N.getD i []).flatMap (yl lv cls) else [45]
def stF (acc lv:List Bool) (i:Nat):Bool × Bool:=(lv.getD i false,acc.getD i false)
def CA (acc lv:List Bool) (N:List (List Int)):List Int:=EW N.length (stF acc lv) (qQ lv N)
def kw (cls:List Int) (c:Int):Nat:=cls.idxOf c
def kx (lv:List Bool) (N:List (List Int)) (cls:List Int) (c:Int) (x:Nat):Option Int :=
  if mh lv (ju N (kw cls c) x) then some (cls.getD (ju N (kw cls c) x).toNat 0) else none
def Jr (k:Nat) (acc:List Bool) (N:List (List Int)):List Int × List (List Int):=gV k (kx (jD acc N) N (CA acc (jD acc N) N)) (N.length + 1) 0 [(CA acc (jD acc N) N).getD 0 0] []
def Cy (k:Nat) (acc:List Bool) (N:List (List Int)):List Bool × List (List Int) :=
  if (jD acc N).getD 0 false then ((Jr k acc N).1.map fun c=>acc.getD (kw (CA acc (jD acc N) N) c) false,(Jr k acc N).2) else ([],[])
def Yr (k:Nat) (acc:List Bool) (L:List (List Int)):List Bool × List (List Int):=Cy k (zg k acc L) (iY k L).2
section
variable {K:Type} [DecidableEq K]
def jv (Q:List K) (k:K):Nat:=if k ∈ Q then Q.idxOf k else Q.length
def ks (Q:List K) (k:K):List K:=if k ∈ Q then Q else Q ++ [k]
theorem Gx {Q:List K} {k:K} (h:k ∈ Q):jv Q k=Q.idxOf k:=XX h
theorem Gy {Q:List K} {k:K} (h:k ∉ Q):jv Q k=Q.length:=Xy h
theorem Ak {Q:List K} {k:K} (h:k ∈ Q):ks Q k=Q:=XX h
theorem Al {Q:List K} {k:K} (h:k ∉ Q):ks Q k=Q ++ [k]:=Xy h
end
section
variable {α:Type} [DecidableEq α] {enc:α->Value} {P:Program} {e:im} {A:AH} {x:Operand} {t kt et:TypeId} {ty:TypeId} {ps:String} {af:Array Edge} {dst:Option Nat} {K:Value->AH->Prop} {Kp:List PanicEntry->AH->Prop} {g:Option (Nat × Bool)} {m clock:Nat} {es:Array MapEntry} {rw:Bool} {Q:List α}
theorem ve (hx:cg e x=some (.map (some m))) (hu:P.underlying t=some (.map kt et)) (hg:A.get m=some (.obj rw (.map es clock))) (hE:d9 enc es (pq Q)) (h:K (num ((Q.length:Nat):Int)) A) :
    ll P e A { dst:=dst,op:=.call { callee:=.builtin .len,args:=#[x],argTypes:=#[t] },type:=ty,pos:=ps,after:=af,guard:=g } K Kp:=by
  simp only [ll,xK,ki,hx]
  refine ⟨num ((Q.length:Nat):Int),?_,h⟩
  simp only [uG,hu,hg]
  rw [hE.size,GT]
theorem XI {kd:TypeDesc} {y:Operand} {k:α} (Ko:um kd enc) (hx:cg e x=some (.map (some m))) (hy:cg e y=some (enc k)) (hu:P.underlying t=some (.map kt et)) (hk:P.underlying kt=some kd) (hz:c5 P et=some (num 0)) (hg:A.get m=some (.obj rw (.map es clock))) (hE:d9 enc es (pq Q))
    (h1:k ∈ Q->K (.tuple #[num ((jv Q k:Nat):Int),.bool true]) A) (h2:k ∉ Q->K (.tuple #[num 0,.bool false]) A):ll P e A { dst:=dst,op:=.lookup t x y true,type:=ty,pos:=ps,after:=af,guard:=g } K Kp:=by
  refine zj Ko hx hy hu hk hz hg hE (fun v hv=>?_) (fun hn=>?_)
  · by_cases q:k ∈ Q
    · rw [xm q,<- Gx q] at hv;cases hv;exact h1 q
    · rw [DP q] at hv;cases hv
  · exact h2 fun q=>by rw [xm q] at hn;cases hn
end
section
variable {P:Program} {nt:Nat} {all:Array Oper} {os:List Oper} {Q:Exit->Fr->AH->Prop} {e:im} {ds:List Deferred} {A:AH} {x y z:Operand} {t kt et bt:TypeId} {ty:TypeId} {ps:String} {af:Array Edge} {dst:Option Nat} {m clock:Nat} {es:Array MapEntry} {rw:Bool} {L:List (Bool × Bool)} {k:Bool × Bool}
theorem V.Ops.look2G (hd:gB nt dst=true) (hx:cg e x=some (.map (some m))) (hy:cg e y=some (jS k)) (hu:P.underlying t=some (.map kt et)) (hk:RI P kt bt) (hz:c5 P et=some (num 0)) (hg:A.get m=some (.obj rw (.map es clock))) (hE:d9 jS es (pq L))
    (h1:k ∈ L->Ops P nt all os Q ⟨gj e dst (.tuple #[num ((jv L k:Nat):Int),.bool true]),ds⟩ A) (h2:k ∉ L->Ops P nt all os Q ⟨gj e dst (.tuple #[num 0,.bool false]),ds⟩ A) :
    Ops P nt all ({ dst:=dst,op:=.lookup t x y true,type:=ty,pos:=ps,after:=af,guard:=none } :: os) Q ⟨e,ds⟩ A:=by
  refine Ops.look2 hd hx hy hu hk hz hg hE (fun v hv=>?_) (fun hn=>?_)
  · by_cases q:k ∈ L
    · rw [xm q,<- Gx q] at hv;cases hv;exact h1 q
    · rw [DP q] at hv;cases hv
  · exact h2 fun q=>by rw [xm q] at hn;cases hn
theorem V.Ops.new2G (hd:gB nt dst=true) (wf:A.wf) (hx:cg e x=some (.map (some m))) (hy:cg e y=some (jS k)) (hz:cg e z=some (num ((L.length:Nat):Int))) (hu:P.underlying t=some (.map kt et)) (hk:RI P kt bt) (hg:A.get m=some (.obj true (.map es clock))) (hE:d9 jS es (pq L)) (hn:k ∉ L)
    (h:∀ A1 D ck,sL A A1 m (.obj true (.map D ck))->d9 jS D (pq (L ++ [k]))->Ops P nt all os Q ⟨gj e dst undef,ds⟩ A1) :
    Ops P nt all ({ dst:=dst,op:=.mapUpdate t x y z,type:=ty,pos:=ps,after:=af,guard:=none } :: os) Q ⟨e,ds⟩ A :=
  Ops.new2 hd wf hx hy hz hu hk hg hE (DP hn) fun A1 D ck sb me=>h A1 D ck sb (by rw [AM];exact me)
end
section
variable {K:Type} [DecidableEq K]
theorem Db {Q:List K} {k:K} (h:Q.Nodup):(ks Q k).Nodup:=by
  unfold ks;split
  · exact h
  · rename_i q;exact Qx.2 ⟨h,by simp,by intro a ha b hb;simp at hb;subst hb;exact fun e=>q (e ▸ ha)⟩
theorem tN (st:List Int × List K) (x:K):qk st x=(st.1 ++ [(jv st.2 x:Int)],ks st.2 x):=by
  unfold qk jv ks;split <;> rfl
structure pD (n:Nat) (f:Nat->K) (i:Nat) (o:List Int) (Q:List K):Prop where
  run:∃ r,cw ((List.range i).map f)=(r,Q)/\r.length=i/\o=r ++ List.replicate (n - i) 0
  nd:Q.Nodup
  le:Q.length<=i
variable {n i:Nat} {f:Nat->K} {o:List Int} {Q:List K}
theorem pD.start:pD n f 0 (List.replicate n 0) []:=⟨⟨[],rfl,rfl,by simp⟩,List.nodup_nil,XV _⟩
theorem pD.len (h:pD n f i o Q) (hi:i<=n):o.length=n:=by obtain ⟨r,_,h2,h3⟩:=h.run;rw [h3];simp;omega
theorem pD.next (h:pD n f i o Q) (hi:i < n):pD n f (i + 1) (o.set i (jv Q (f i):Int)) (ks Q (f i)):=by
  obtain ⟨r,h1,h2,h3⟩:=h.run
  refine ⟨⟨r ++ [(jv Q (f i):Int)],?_,by simp [h2],?_⟩,Db h.nd,?_⟩
  · rw [SJ,VJ,TJ,List.map_nil,sx,h1,tN]
  · rw [h3,<- h2];exact CM O
  · have:=h.le;unfold ks;split
    · omega
    · simp;omega
theorem pD.old (h:pD n f i o Q) (hi:i < n) (q:f i ∈ Q):pD n f (i + 1) (o.set i (jv Q (f i):Int)) Q:=by
  have:=h.next hi;rwa [Ak q] at this
theorem pD.new (h:pD n f i o Q) (hi:i < n) (q:f i ∉ Q):pD n f (i + 1) (o.set i (Q.length:Int)) (Q ++ [f i]):=by
  have:=h.next hi;rwa [Gy q,Al q] at this
theorem pD.fin (h:pD n f i o Q) (hi:i=n):cw ((List.range n).map f)=(o,Q):=by
  subst hi
  obtain ⟨r,h1,h2,h3⟩:=h.run
  rw [h1,h3];simp
end
structure ul (n:Nat) (st:Nat->Bool × Bool) (key:List Int->Nat->Wd) (count:Nat) (cls:List Int):Prop where
  len:cls.length=n
  rng:∀ c ∈ cls,0<=c/\c < n
  dis:∃ l:List Int,l.length=n/\cw l=(cls,(cw l).2)/\(cw l).2.length=count
  cnt:count<=n
  fin:∃ f,n + 2<=f + count/\nX n key f count cls=EW n st key
theorem Po {K:Type} [DecidableEq K] (l:List K):(cw (cw l).1).2.length=(cw l).2.length/\(cw (cw l).1).1=(cw l).1:=by
  suffices h:∀ (m:List K),(cw (cw m).1).2=(List.range (cw m).2.length).map (fun (i:Nat)=>(i:Int))/\(cw (cw m).1).1=(cw m).1 by
    have:=h l;exact ⟨by rw [this.1];simp,this.2⟩
  suffices h:∀ (l m:List K),((cw (cw m).1).2=(List.range (cw m).2.length).map (fun (i:Nat)=>(i:Int))/\(cw (cw m).1).1=(cw m).1)->((cw (cw (m ++ l)).1).2=(List.range (cw (m ++ l)).2.length).map (fun (i:Nat)=>(i:Int))/\(cw (cw (m ++ l)).1).1=(cw (m ++ l)).1) by
    intro m;have:=h m [] ⟨rfl,rfl⟩;simpa using this
  intro l
  induction l with
  | nil=>intro m h;rw [Sk];exact h
  | cons a l ih =>
    intro m h
    rw [show m ++ a :: l=(m ++ [a]) ++ l by simp]
    refine ih _ ?_
    rw [sx,tN]
    show (cw ((cw m).1 ++ [_])).2=_/\(cw ((cw m).1 ++ [_])).1=_
    rw [sx,tN]
    simp only
    rw [h.1,h.2]
    by_cases q:a ∈ (cw m).2
    · have hi:=Tk.2 q
      have hm:((cw m).2.idxOf a:Int) ∈ (List.range (cw m).2.length).map (fun (i:Nat)=>(i:Int)):=Vj.2 ⟨_,VV.2 hi,rfl⟩
      have e1:jv (cw m).2 a=(cw m).2.idxOf a:=XX q
      have e2:ks (cw m).2 a=(cw m).2:=XX q
      have e3:ks ((List.range (cw m).2.length).map (fun (i:Nat)=>(i:Int))) ((cw m).2.idxOf a:Int)=(List.range (cw m).2.length).map (fun (i:Nat)=>(i:Int)):=XX hm
      have e4:jv ((List.range (cw m).2.length).map (fun (i:Nat)=>(i:Int))) ((cw m).2.idxOf a:Int)=(cw m).2.idxOf a:=by
        rw [jv,XX hm]
        have:=Qw (Tk.2 hm)
        simp only [List.getElem_map,List.getElem_range] at this
        omega
      rw [e1,e2,e3,e4];exact ⟨Z,Z⟩
    · have e1:jv (cw m).2 a=(cw m).2.length:=Xy q
      have e2:ks (cw m).2 a=(cw m).2 ++ [a]:=Xy q
      have hm:¬ ((cw m).2.length:Int) ∈ (List.range (cw m).2.length).map (fun (i:Nat)=>(i:Int)):=fun z=>by
        obtain ⟨i,h1,h2⟩:=Vj.1 z
        have:=VV.1 h1;omega
      rw [e1,e2]
      have e3:ks ((List.range (cw m).2.length).map (fun (i:Nat)=>(i:Int))) ((cw m).2.length:Int)=(List.range (cw m).2.length).map (fun (i:Nat)=>(i:Int)) ++ [((cw m).2.length:Int)]:=Xy hm
      have e4:jv ((List.range (cw m).2.length).map (fun (i:Nat)=>(i:Int))) ((cw m).2.length:Int)=(cw m).2.length:=by rw [jv,Xy hm];simp
      rw [e3,e4]
      refine ⟨?_,Z⟩
      rw [Xx,Tw,SJ,VJ];rfl
section
variable {n count:Nat} {st:Nat->Bool × Bool} {key:List Int->Nat->Wd} {cls o:List Int} {Q:List Wd} {Q2:List (Bool × Bool)}
theorem ul.of {K:Type} [DecidableEq K] {l:List K} {cls:List Int} {Q:List K} (hl:l.length=n) (h:cw l=(cls,Q)):cls.length=n/\(∀ c ∈ cls,0<=c/\c < (n:Int))/\(∃ l:List Int,l.length=n/\cw l=(cls,(cw l).2)/\(cw l).2.length=Q.length)/\Q.length<=n:=by
  have h1:=UY l
  have h2:=UZ l
  have h3:=Zo l
  have h4:=Po l
  rw [h] at h1 h2 h3 h4
  simp only at h1 h2 h3 h4
  exact ⟨by omega,fun c hc=>by have:=h2 c hc;omega,⟨cls,by omega,Prod.ext h4.2 rfl,h4.1⟩,by omega⟩
theorem ul.start (h:cw ((List.range n).map st)=(cls,Q2)):ul n st key Q2.length cls:=by
  obtain ⟨h1,h2,h3,h4⟩:=ul.of (n:=n) (by simp) h
  exact ⟨h1,h2,h3,h4,n + 2,by omega,by rw [EW,h]⟩
theorem ul.stop (h:ul n st key count cls) (e:cw ((List.range n).map (key cls))=(o,Q)) (hq:Q.length=count):o=EW n st key:=by
  obtain ⟨f,hf,g⟩:=h.fin
  have:=h.cnt
  obtain ⟨f,rfl⟩:∃ g,f=g + 1:=⟨f - 1,by omega⟩
  rw [nX,e] at g
  simp only at g
  rw [XX hq] at g;exact g
theorem ul.next (h:ul n st key count cls) (hinj:∀ i j,i < n->j < n->key cls i=key cls j->cls.getD i 0=cls.getD j 0) (e:cw ((List.range n).map (key cls))=(o,Q)) (hq:¬ Q.length=count):ul n st key Q.length o/\count < Q.length:=by
  obtain ⟨f,hf,g⟩:=h.fin
  have hc:=h.cnt
  obtain ⟨f,rfl⟩:∃ g,f=g + 1:=⟨f - 1,by omega⟩
  obtain ⟨h1,h2,h3,h4⟩:=ul.of (n:=n) (by simp) e
  have hle:count<=Q.length:=by
    obtain ⟨l,l1,l2,l3⟩:=h.dis
    have:=JU l ((List.range n).map (key cls)) 0 [] (by simp [l1]) fun i j hi hj q=>by
      rw [TX,List.length_range] at hi hj
      have e1:∀ i,i < n->((List.range n).map (key cls)).getD i []=key cls i:=fun i hi=>by simp [Vq,hi]
      rw [e1 i hi,e1 j hj] at q
      have:=hinj i j hi hj q
      have e2:cls=(cw l).1:=by rw [l2]
      rw [e2] at this
      exact (DE l (d:=(0:Int)) O O).1 this
    rw [l3,e] at this;exact this
  rw [nX,e] at g
  simp only at g
  rw [Xy hq] at g
  exact ⟨⟨h1,h2,h3,h4,f,by omega,g⟩,by omega⟩
end
theorem R0:ef prog 218=some true:=by kernel_rfl
theorem IW:dY prog 218=some 2:=by kernel_rfl
theorem XB:type_of% @underlying231:=@underlying231
theorem aaF:type_of% @underlying233:=@underlying233
theorem z218:c5 prog 218=some (.agg #[.bool false,.bool false]):=by kernel_rfl
theorem WU (b:Nat) (es:Array MapEntry) (ck:Nat) (Q:List Wd) (k:Wd) (A0 A:AH) (a0:A0.le A) (ac:A0.wf) (hb:A.get b=some (.obj true (.map es ck))) (ab:A0.get b=none) (hme:d9 ax es (pq Q)) (hnd:Q.Nodup):bH prog 201 #[.map (some b),ax (k)] A (fun v A1=>∃ es2 ck2,v=num ((jv Q k:Nat):Int)/\A0.le A1/\A1.wf/\A1.get b=some (.obj true (.map es2 ck2))/\d9 ax es2 (pq (ks Q k))):=by
 refine bi (e:=[(0,.map (some b)),(1,ax (k))]) (args:=[.map (some b),ax (k)]) call201 func201 Z results201 ntmps201 Z Z Z (fun wf=>?_);refine ak.sq fun h2=>.region<|.I Z<|.nil<|h2<|.sq fun h4=>.region<|.J Z<|.J Z<|.m (fun X=>XI (Q:=Q) (k:=k) Da Z Z XB u9 z3 hb hme (fun aa=>?_) (fun D=>?_))
 ·refine X<|.J Z<|.p (aQ Z Z)<|.p (aQ Z Z)<|.I Z<|.I Z<|.nil<|h4<|.sq fun h9=>.sq fun a4=>?_;refine ak.region<|.J Z<|.p (eD Z)<|.nil<|a4<|.cond_false Z<|.skip<|h9<|.sq fun a5=>.region ?_;refine Ops.J Z<|.I Z<|.nil<|a5<|.rt (by exact aH Z (⟨_,_,Z,a0,wf,hb,by rw [Ak aa];exact hme⟩))
 refine X<|.J Z<|.p (aQ Z Z)<|.p (aQ Z Z)<|.I Z<|.I Z<|.nil<|h4<|.sq fun a6=>.sq fun a7=>?_;refine ak.region<|.J Z<|.p (eD Z)<|.nil<|a7<|.cond_true Z<|.sq fun a8=>.region<|.J Z<|.m (fun a1=>ve (Q:=Q) Z XB hb hme ?_);refine a1<|.I Z<|.nil<|a8<|.region<|.J Z<|.J Z<|.J Z<|.m (fun a2=>qw (k:=k) Da wf rfl rfl rfl XB u9 hb hme (by rw [vJ];exact hnd) fun A22 ag ad h V=>?_);have a3:=al a0 ac ab h.n h.keep;rw [Vn D] at V;refine a2<|.nil<|a6<|.sq fun a9=>.region<|.J Z<|.I Z<|.nil<|a9<|.rt (by exact aH Z (⟨_,_,by rw [Gy D];rfl,a3,h.wf,h.get,by rw [Al D];exact V⟩))
theorem Xp:RI prog 218 4:=⟨underlying218,underlying4,by kernel_rfl,by kernel_rfl⟩
theorem Qf (n g1 g2:Nat) (a9 a1:Array Value) (sf:Nat->Bool × Bool) (key:List Int->Nat->Wd) (A:AH) (hn:n<=100000) (dv:∀ i B,i < n->A.le B->B.wf->bH prog g1 (#[num ((i:Nat):Int)] ++ a9) B (fun v C=>v=jS (sf i)/\B.le C/\C.wf)) (dw:∀ (cls:List Int) (cv:Value) (i:Nat) B,bJ B 1 cv (dy cls)->cls.length=n->(∀ c ∈ cls,0<=c/\c < (n:Int))->i < n->A.le B->B.wf->bH prog g2 (#[cv,num ((i:Nat):Int)] ++ a1) B (fun v C=>v=ax (key cls i)/\B.le C/\C.wf)) (R:List Int->Prop) (eC:R (cw ((List.range n).map sf)).1) (eG:∀ cls:List Int,cls.length=n->R cls->R (cw ((List.range n).map (key cls))).1) (hinj:∀ cls:List Int,cls.length=n->(∀ c ∈ cls,0<=c/\c < (n:Int))->R cls->∀ i j,i < n->j < n->key cls i=key cls j->cls.getD i 0=cls.getD j 0):bH prog 181 #[num ((n:Nat):Int),.func (.func g1) #[] a9,.func (.func g2) #[] a1] A (fun v A1=>A.le A1/\A1.wf/\Fresh A A1 v 1 (dy (EW n sf key))):=by
 refine bi (e:=[(0,num ((n:Nat):Int)),(1,.func (.func g1) #[] a9),(2,.func (.func g2) #[] a1)]) (args:=[num ((n:Nat):Int),.func (.func g1) #[] a9,.func (.func g2) #[] a1]) call181 func181 Z results181 ntmps181 Z Z Z (fun wf=>?_);have cA:=AH.le.refl A;refine ak.sq fun h2=>.region<|.I Z<|.nil<|h2<|.sq fun h4=>.region<|.I Z<|.nil<|h4 ?_;refine ak.sq fun h6=>.region<|.J Z<|.m (fun eL=>oO (n:=n) (k:=n) wf cA rfl rfl fk dH z3 pd rfl (XV _) (by show 8 * _<=_;omega) O fun A9 b8 aV aR=>?_);rw [jh] at aR;have bp:=cA.trans aV.le;refine eL<|.I Z<|.nil<|h6<|.sq fun e4=>.region<|.m (fun dz=>pC aV.wf fun A17 b6 ay=>?_);refine dz<|.I Z<|.nil<|e4<|.sq fun e5=>.sq fun e6=>.region<|.J Z<|.J Z<|.nil ?_;refine e6<|.block<|.loop (X:=Nat × List Int × List (Bool × Bool) × Array MapEntry × Nat × Value) (fun ⟨i,o,Q,es,ck,cv⟩=>[(0,num ((n:Nat):Int)),(1,.func (.func g1) #[] a9),(2,.func (.func g2) #[] a1),(7,.func (.func 201) #[] #[]),(8,cv),(9,.map (some b6)),(21,num ((n:Nat):Int)),(22,num ((i:Nat):Int))]) (fun ⟨i,o,Q,es,ck,cv⟩ B=>(i<=n/\pD n sf i o Q/\d9 jS es (pq Q))/\A.le B/\Fresh A B cv 1 (dy o)/\B.get b6=some (.obj true (.map es ck))/\V.blk cv ≠ some b6) (fun ⟨i,o,Q,es,ck,cv⟩=>n - i) (⟨0,List.replicate n 0,[],#[],0,.slice (some ⟨b8,0,none⟩) n n⟩) (zZ Z Z Z Z Z Z Z Z) (⟨⟨XK _,pD.start,d9.nil⟩,(bp.trans ay.le),(aR.le ay.le),ay.get,(aR.own.ne_new aV.wf ay.lo)⟩) ?_;rintro ⟨i,o,Q,es,ck,cv⟩ B27 ⟨⟨hi,hnu,hme⟩,aT,aB,ar,h⟩;refine ak.wf fun e1=>?_;have hol:=hnu.len hi;have hql:=hnu.le;refine ak.sq fun e7=>.region<|.p (ca Z Z)<|.nil<|e7<|.sq fun e9=>.if rfl (fun eV=>?_) (fun eV=>?_)
 ·refine ak.skip<|e9<|.sq fun cb=>.block<|.sq fun ea=>.region<|.J Z<|.I Z<|.nil<|ea ?_;refine ak.sq fun ec=>.region<|.J Z<|.J Z<|.m (fun dD=>qJ Z Z (dv i B27 O aT e1) ?_);rintro fD A42 ⟨rfl,aE,aI⟩;have cc:=aE.g ar;have ba:=aB.le aE;have br:=aT.trans aE;refine dD<|.m (fun dG=>bZ aI z218 rfl fun A49 fe a5=>?_);refine dG<|.m (fun dI=>aW (cs:=[.bool ((sf i).1),.bool ((sf i).2)]) (c':=[.bool ((sf i).1),.bool ((sf i).2)]) a5.wf rfl rfl rfl rfl IW a5.get G rfl rfl fun A56 a6=>?_);have b0:=a6.k (ne_new aI cc a5.lo) (a5.le.g cc);have bb:=(ba.le a5.le).keep a6.keep (ba.own.ne_new aI a5.lo);have bu:=al (br.trans a5.le) wf (aX wf (Xj br.n a5.lo)) a6.n a6.keep;refine dI<|.nil<|ec<|.sq fun cf=>.region<|.J Z<|.p (am R0 IW Z Z a6.get Z)<|.look2G (L:=Q) (k:=sf i) Z Z Z aaF Xp z3 b0 hme (fun dM=>?_) (fun bl=>?_)
  ·refine Ops.J Z<|.p (aQ Z Z)<|.p (aQ Z Z)<|.I Z<|.I Z<|.nil<|cf<|.sq fun eg=>.sq fun en=>.region ?_;refine Ops.J Z<|.p (eD Z)<|.nil<|en<|.cond_false Z<|.skip<|eg<|.region<|.J Z<|.J Z ?_;refine Ops.J Z ?_;obtain ⟨fi,fq,fm,eX,f4,c4,ch,e2,fE,eS,ft,eN⟩:=bb.at1 (x:=i) Oa;rw [aJ] at ch;refine Ops.p (au fk dH Z c4 Z (by rw [ch];omega))<|.m (fun dJ=>aW (off:=i) (c':=eX.set i (num ((jv Q (sf i):Nat):Int))) a6.wf rfl (by simp) rfl rfl dH e2 (by show i + 1<=_;omega) rfl rfl fun A71 aF=>?_);have ev:=aF.k (fun q=>h (by rw [c4];exact Xk some q.symm)) b0;have bc:=eN (num ((jv Q (sf i):Nat):Int)) A71 aF;rw [ji] at bc;refine dJ<|.nil<|cb<|.region<|.p (bF (b:=1) Z Z O)<|.J Z<|.nil ?_;exact ⟨⟨i + 1,o.set i (((jv Q (sf i):Nat):Int)),Q,es,ck,cv⟩,zZ Z Z Z Z Z Z Z Z,Z,⟨⟨by omega,hnu.old O dM,hme⟩,(al bu wf eS aF.n aF.keep),bc,ev,h⟩,O1⟩
  refine Ops.J Z<|.p (aQ Z Z)<|.p (aQ Z Z)<|.I Z<|.I Z<|.nil<|cf<|.sq fun ex=>.sq fun ey=>.region ?_;refine Ops.J Z<|.p (eD Z)<|.nil<|ey<|.cond_true Z<|.sq fun ez=>.region<|.J Z<|.m (fun dK=>ve (Q:=Q) Z aaF b0 hme ?_);refine dK<|.I Z<|.nil<|ez<|.region<|.J Z<|.p (am R0 IW Z Z a6.get Z)<|.J Z<|.new2G (L:=Q) (k:=sf i) rfl a6.wf rfl rfl rfl aaF Xp b0 hme bl fun A84 cH cF az dS=>?_;have cK:=bb.keep az.keep h;refine Ops.nil<|ex<|.region<|.J Z<|.J Z<|.J Z ?_;obtain ⟨fl,fr,fn,eY,f6,c7,cu,e3,fI,eT,fv,eQ⟩:=cK.at1 (x:=i) Oa;rw [aJ] at cu;refine Ops.p (au fk dH Z c7 Z (by rw [cu];omega))<|.m (fun dL=>aW (off:=i) (c':=eY.set i (num ((Q.length:Nat):Int))) az.wf rfl (by simp) rfl rfl dH e3 (by show i + 1<=_;omega) rfl rfl fun A94 aG=>?_);have eA:=aG.k (fun q=>h (by rw [c7];exact Xk some q.symm)) az.get;have bd:=eQ (num ((Q.length:Nat):Int)) A94 aG;rw [ji] at bd;refine dL<|.nil<|cb<|.region<|.p (bF (b:=1) Z Z O)<|.J Z<|.nil ?_;exact ⟨⟨i + 1,o.set i (((Q.length:Nat):Int)),Q ++ [sf i],cH,cF,cv⟩,zZ Z Z Z Z Z Z Z Z,Z,⟨⟨by omega,hnu.new O bl,dS⟩,(al (al bu wf (aX wf (Xj bp.n ay.lo)) az.n az.keep) wf eT aG.n aG.keep),bd,eA,h⟩,O1⟩
 refine ak.exit<|e5<|.sq fun cS=>.region<|.J Z<|.m (fun bM=>ve (Q:=Q) Z aaF ar hme ?_);refine bM<|.I Z<|.nil<|cS<|.block ?_;have hnf:=hnu.fin O;have fo:=hnu.le;refine ak.loop (X:=Nat × List Int × Value) (fun ⟨cnt,cls,kv⟩=>[(0,num ((n:Nat):Int)),(2,.func (.func g2) #[] a1),(7,.func (.func 201) #[] #[]),(8,kv),(14,num ((cnt:Nat):Int))]) (fun ⟨cnt,cls,kv⟩ B=>(ul n sf key cnt cls/\R cls)/\A.le B/\Fresh A B kv 1 (dy cls)) (fun ⟨cnt,cls,kv⟩=>n - cnt) (⟨Q.length,o,cv⟩) (sY Z Z Z Z Z) (⟨⟨ul.start hnf,by have:=eC;rw [hnf] at this;exact this⟩,aT,aB⟩) ?_;rintro ⟨cnt,cls,kv⟩ B104 ⟨⟨hcl,hRc⟩,b1,ai⟩;refine ak.wf fun b3=>?_;have hcll:=hcl.len;have hclc:=hcl.cnt;refine ak.block<|.sq fun cU=>.region<|.J Z<|.m (fun bO=>oO (n:=n) (k:=n) b3 b1 rfl rfl fk dH z3 pd rfl (XV _) (by show 8 * _<=_;omega) O fun A110 cB a7 aC=>?_);rw [jh] at aC;have aY:=ai.le a7.le;have b2:=b1.trans a7.le;have c3:=bx.of_new (n:=n) (c:=n) ai.own b3 a7.lo;refine bO<|.I Z<|.nil<|cU<|.sq fun cV=>.region<|.m (fun bP=>pC a7.wf fun A121 a4 a3=>?_);refine bP<|.I Z<|.nil<|cV<|.sq fun cX=>.sq fun cZ=>.region<|.J Z<|.J Z<|.nil ?_;refine cZ<|.block<|.loop (X:=Nat × List Int × List Wd × Array MapEntry × Nat × Value) (fun ⟨j,o3,Q3,es,ck,nv⟩=>[(0,num ((n:Nat):Int)),(2,.func (.func g2) #[] a1),(7,.func (.func 201) #[] #[]),(8,kv),(14,num ((cnt:Nat):Int)),(15,nv),(16,.map (some a4)),(51,num ((n:Nat):Int)),(52,num ((j:Nat):Int))]) (fun ⟨j,o3,Q3,es,ck,nv⟩ B=>(j<=n/\pD n (key cls) j o3 Q3/\d9 ax es (pq Q3))/\A.le B/\Fresh A B nv 1 (dy o3)/\Fresh A B kv 1 (dy cls)/\B.get a4=some (.obj true (.map es ck))/\V.blk nv ≠ some a4/\V.blk kv ≠ some a4/\bx nv kv) (fun ⟨j,o3,Q3,es,ck,nv⟩=>n - j) (⟨0,List.replicate n 0,[],#[],0,.slice (some ⟨cB,0,none⟩) n n⟩) (ev9 Z Z Z Z Z Z Z Z Z) (⟨⟨XK _,pD.start,d9.nil⟩,(b2.trans a3.le),(aC.le a3.le),(aY.le a3.le),a3.get,(aC.own.ne_new a7.wf a3.lo),(aY.own.ne_new a7.wf a3.lo),c3⟩) ?_;rintro ⟨j,o3,Q3,es,ck,nv⟩ B133 ⟨⟨hj,ap,aS⟩,ag,a8,ac,a2,D,a0,ad⟩;refine ak.wf fun b5=>?_;have f1:=ap.len hj;have f2:=ap.le;refine ak.sq fun d0=>.region<|.p (ca Z Z)<|.nil<|d0<|.sq fun d1=>.if rfl (fun dW=>?_) (fun dW=>?_)
 ·refine ak.skip<|d1<|.sq fun d2=>.block<|.sq fun d3=>.region<|.J Z<|.I Z<|.nil<|d3 ?_;refine ak.region<|.J Z<|.J Z<|.J Z<|.J Z<|.J Z<|.J Z<|.J Z<|.m (fun bR=>qJ Z Z (dw cls kv j B133 ac.slc hcll hcl.rng O ag b5) ?_);rintro f8 A146 ⟨rfl,aa,bA⟩;have dd:=aa.g a2;refine bR ?_;have bY:=cz (bs:=[some a4]) (ag.trans aa) (xe (aX wf (Xj b2.n a3.lo)) qX);refine Ops.m (fun bS=>qJ Z Z (WU a4 es ck Q3 (key cls j) (A146.hide [some a4]) A146 (c6 A146 [some a4]) (cI bA) dd (cQ (by simp)) aS ap.nd) ?_);rintro f9 A154 ⟨b9,b7,rfl,av,bB,aA,bv⟩;have bC:=(a8.le aa).off (jG D jk) av;have bD:=(ac.le aa).off (jG a0 jk) av;refine bS ?_;obtain ⟨cC,f3,f0,e0,eZ,aP,bm,cP,fd,dV,f7,dO⟩:=bC.at1 (x:=j) Oa;rw [aJ] at bm;refine Ops.p (au fk dH Z aP Z (by rw [bm];omega))<|.m (fun bT=>aW (off:=j) (c':=e0.set j (num ((jv Q3 (key cls j):Nat):Int))) bB rfl (by simp) rfl rfl dH cP (by show j + 1<=_;omega) rfl rfl fun A162 ab=>?_);have di:=ab.k (fun q=>D (by rw [aP];exact Xk some q.symm)) aA;have bL:=bD.keep ab.keep (ad cC (by rw [aP];rfl));have aZ:=dO (num ((jv Q3 (key cls j):Nat):Int)) A162 ab;rw [ji] at aZ;refine bT<|.nil<|d2<|.region<|.p (bF (b:=1) Z Z O)<|.J Z<|.nil ?_;exact ⟨⟨j + 1,o3.set j (((jv Q3 (key cls j):Nat):Int)),ks Q3 (key cls j),b9,b7,nv⟩,ev9 Z Z Z Z Z Z Z Z Z,Z,⟨⟨by omega,ap.next O,bv⟩,(al (bY.trans av) wf dV ab.n ab.keep),aZ,bL,di,D,a0,ad⟩,O1⟩
 refine ak.exit<|cX<|.sq fun dj=>.region<|.J Z<|.I Z<|.nil<|dj<|.sq fun dk=>.sq fun dl=>?_;have aD:=ap.fin O;refine ak.region<|.J Z<|.m (fun bU=>ve (Q:=Q3) Z XB a2 aS ?_);refine bU<|.J Z<|.p (gI Z Z)<|.nil<|dl<|.if rfl (fun dZ=>?_) (fun dZ=>?_)
 ·refine ak.sq fun dm=>.region<|.J Z<|.I Z<|.nil<|dm<|.rt (by exact aH Z (⟨ag,b5,ce a8 (Xk dy (hcl.stop aD ‹_›))⟩))
 refine ak.skip<|dk<|.region<|.J Z<|.m (fun bV=>ve (Q:=Q3) Z XB a2 aS ?_);refine bV<|.I Z<|.nil ?_;exact ⟨⟨Q3.length,o3,nv⟩,sY Z Z Z Z Z,Z,⟨⟨(hcl.next (fun i j hi hj=>hinj cls hcll hcl.rng hRc i j hi hj) aD ‹_›).1,by have:=eG cls hcll hRc;rw [aD] at this;exact this⟩,ag,a8⟩,(by have:=(hcl.next (fun i j hi hj=>hinj cls hcll hcl.rng hRc i j hi hj) aD ‹_›).2;(try dsimp only);omega)⟩
end Go.Proofs.YtjppkekmddjcfaaGreatDoor
