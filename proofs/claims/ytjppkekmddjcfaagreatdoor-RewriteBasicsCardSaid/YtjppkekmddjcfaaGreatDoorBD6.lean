import Derived.Test.YtjppkekmddjcfaaGreatDoorBD5
set_option linter.unusedSectionVars false
set_option linter.unusedVariables false
set_option linter.unusedSimpArgs false
namespace Go.Proofs.YtjppkekmddjcfaaGreatDoor
open Go Go.RowKit V
set_option maxRecDepth 100000
theorem ib:dk Tryz.prog 59=some false:=by kernel_rfl
theorem jC:dk Tryz.prog 60=some false:=by kernel_rfl
theorem kY:dk Tryz.prog 67=some false:=by kernel_rfl
theorem iz:dT Tryz.prog 119 0=some (60,0):=by kernel_rfl
theorem lh:dT Tryz.prog 119 1=some (59,1):=by kernel_rfl
theorem Jv:Tryz.prog.info? 4=some Tryz.t4:=by kernel_rfl
theorem Dn:Tryz.prog.info? 67=some Tryz.t67:=by kernel_rfl
theorem ie:dc Tryz.prog 59=some 1:=by kernel_rfl
theorem iy:dc Tryz.prog 60=some 1:=by kernel_rfl
theorem fj:dc Tryz.prog 67=some 1:=by kernel_rfl
theorem kW:type_of% @Tryz.underlying59:=@Tryz.underlying59
theorem mZ:type_of% @Tryz.underlying60:=@Tryz.underlying60

theorem GK (w:List UInt8) (A:AH) (hL:gk A) (hw:w.length<=1000000):bF Tryz.prog 115 #[bi (w)] A (fun v A1=>A.le A1/\A1.wf/\Fresh A A1 v 1 (cI (w.map ix))):=by
 refine gw Tryz.call115 Tryz.func115 Z Tryz.results115 Tryz.ntmps115 Z (fun wf=>?_);have ai:=AH.le.refl A;refine an.seq fun _ h2=>.region<|.q Z (ae Z)<|.nil<|h2 _ _<|.seq fun _ h4=>.region<|.q Z (ae Z)<|.nil<|h4 _ _ ?_;refine an.seq fun _ h6=>.seq fun _ h8=>.region<|.q Z (ah Z)<|.q Z (cF u9 Z)<|.q Z (ah Z)<|.nil<|h8 _ _<|.block<|.loop (X:=Nat × List Int × Value) (fun ⟨i,o,s⟩=>[(0,bi (w)),(3,s),(6,num ((w.length:Nat):Int)),(7,num ((i:Nat):Int))]) (fun ⟨i,o,s⟩ B=>(i<=w.length/\o=(w.take i).map ix)/\A.le B/\Fresh A B s 1 (cI o)) (fun ⟨i,o,s⟩=>w.length - i) (⟨0,[],.slice none 0 0⟩) (kq Z Z Z Z) (⟨⟨Nat.zero_le _,by simp⟩,ai,(Fresh.nil A A 1)⟩) ?_;rintro ⟨i,o,s⟩ B10 ⟨⟨hi,ho⟩,a2,V⟩;refine an.wf fun a3=>?_;have hlo:o.length=i:=by rw [ho];simp;omega
 refine an.seq fun _ aa=>.region<|.q Z (ca Z Z)<|.nil<|aa _ _<|.seq fun _ ab=>.if rfl (fun ap=>?_) (fun ap=>?_)
 ·refine an.skip<|ab _ _<|.seq fun _ ac=>.block<|.seq fun _ ad=>.region<|.q Z (ah Z)<|.q Z (ae Z)<|.nil<|ad _ _ ?_;refine an.region<|.q Z (ah Z)<|.q Z (ah Z)<|.q Z (ah Z)<|.q Z (lM u9 Z Z O)<|.l Z (fun _ _ a5 _=>ax Z (qF (w.getD i 0) B10 (hL.le a2)) ?_);rintro ay A23 ⟨rfl,rfl⟩;refine a5 _ _<|.l Z (fun _ _ a6 _=>aQ (c:=[num (ix (w.getD i 0))]) a3 rfl (aJ d9 c0 z3 rfl U U rfl) fun A27 av D=>?_);have a1:=V.le D.le;have a8:=a2.trans D.le;refine a6 _ _<|.l Z (fun _ _ a7 _=>cQ (ys:=[num (ix (w.getD i 0))]) rfl rfl d9 c0 mf z3 rfl U d9 (fun _ h=>by cases h) a1.own (bZ (n:=1) D.get Z) rfl rfl (by show (_ + _) * 8<=_;simp only [aH,List.length_cons,List.length_nil];(try simp only [List.length_append,List.length_cons,List.length_nil]);omega) O2 fun A33 ar a0=>?_);rw [show ([num (ix (w.getD i 0))]:List Value)=cI [ix (w.getD i 0)] from rfl,dp] at a0;obtain ⟨a4,a9⟩:=Fresh.grow a1 a8 wf a0;refine a7 _ _<|.q Z (ae Z)<|.nil<|ac _ _<|.region<|.q Z (bz (b:=1) Z Z O)<|.q Z (ah Z)<|.nil ?_;exact ⟨⟨i + 1,o ++ [ix (w.getD i 0)],ar⟩,kq Z Z Z Z,Z,⟨⟨by omega,by rw [ho];exact qm ix O⟩,a9,a4⟩,O1⟩
 refine an.exit<|h6 _ _<|.seq fun _ ag=>.region<|.q Z (ah Z)<|.q Z (ae Z)<|.nil<|ag _ _<|.rt (by exact aK Z (⟨a2,a3,cy V (congrArg cI (by rw [ho,List.take_of_length_le O]))⟩))

theorem Lr (k:Nat) (b:Nat) (nv ev:Value) (rows:List Value) (L:List (List Int)) (E:List Bool) (A0 A:AH) (c7:A0.le A) (aI:A0.wf) (hb:A.get b=some (.row true [nv,ev] 2)) (cc:A0.get b=none) (frn:Fresh A0 A nv 1 (d6 rows)) (fre:Fresh A0 A ev 1 (cg E)) (nn:blk nv ≠ some b) (ne:blk ev ≠ some b) (sne:bw nv ev) (fm:gy A0 A rows L) (fo:dA rows b) (fsn:aM nv rows) (fse:aM ev rows) (hk:k<=1000/\L.length<=1000000/\E.length<=1000000):bF Tryz.prog 75 #[.pointer (some ⟨b,0,none⟩),num ((k:Nat):Int)] A (fun v A1=>∃ nv2 jk rows2,v=num ((L.length:Nat):Int)/\A0.le A1/\A1.wf/\A1.get b=some (.row true [nv2,jk] 2)/\Fresh A0 A1 nv2 1 (d6 rows2)/\Fresh A0 A1 jk 1 (cg (E ++ [false]))/\blk nv2 ≠ some b/\blk jk ≠ some b/\bw nv2 jk/\gy A0 A1 rows2 (L ++ [Ah k])/\dA rows2 b/\aM nv2 rows2/\aM jk rows2):=by
 refine jE Tryz.call75 Tryz.func75 Z Tryz.results75 Tryz.ntmps75 Z (fun wf=>?_);have hrl:=fm.len;have hkr:(List.replicate k (0:Int)).length=k:=List.length_replicate;refine an.seq fun _ h2=>.region<|.q Z (ae Z)<|.nil<|h2 _ _<|.seq fun _ h4=>.region<|.q Z (ah Z)<|.l Z (fun _ _ eG _=>lQ (n:=k) (k:=k) wf c7 rfl rfl d9 c0 z3 mf rfl (Nat.le_refl _) (by show 8 * _<=_;omega) O fun A7 b6 ar bp=>?_);rw [gT] at bp;have b5:=ne_new wf hb ar.lo;have dW:=fm.ne_new wf ar.lo;have e7:=ar.le.get _ _ hb;have cH:=frn.le ar.le;have cK:=fre.le ar.le;have ch:=fm.le ar.le;have dw:=c7.trans ar.le;have e1:=bw.of_new (n:=k) (c:=k) frn.own wf ar.lo;have e2:=bw.of_new (n:=k) (c:=k) fre.own wf ar.lo;refine eG _ _<|.q Z (ae Z)<|.nil<|h4 _ _<|.seq fun _ e9=>.seq fun _ ea=>.region<|.q Z (ah Z)<|.q Z (bE (n:=(List.replicate k (0:Int)).length) d9 Z bp.slc O (ee _))<|.q Z (ah Z) ?_;refine Ops.nil<|ea _ _<|.block<|.loop (X:=Nat × List Int × Value) (fun ⟨i,o,r⟩=>[(0,.pointer (some ⟨b,0,none⟩)),(5,r),(10,num (((List.replicate k (0:Int)).length:Nat):Int)),(11,num ((i:Nat):Int))]) (fun ⟨i,o,r⟩ B=>(i<=k/\o=List.replicate i (-1) ++ List.replicate (k - i) 0)/\A0.le B/\Fresh A0 B r 1 (cI o)/\Fresh A0 B nv 1 (d6 rows)/\Fresh A0 B ev 1 (cg E)/\B.get b=some (.row true [nv,ev] 2)/\V.blk r ≠ some b/\V.blk nv ≠ some b/\V.blk ev ≠ some b/\bw r nv/\bw r ev/\bw nv ev/\gy A0 B rows L/\dA rows b/\aM r rows/\aM nv rows/\aM ev rows) (fun ⟨i,o,r⟩=>k - i) (⟨0,List.replicate k 0,.slice (some ⟨b6,0,none⟩) k k⟩) (kq Z Z Z Z) (⟨⟨Nat.zero_le _,by simp⟩,dw,bp,cH,cK,e7,(fun q=>by cases q;exact b5 Z),nn,ne,e1,e2,sne,ch,fo,(aM.new dW),fsn,fse⟩) ?_;rintro ⟨i,o,r⟩ B25 ⟨⟨hi,ho⟩,bv,ag,aF,aD,ap,aa,a9,a4,a8,ac,ad,av,az,a6,a7,ai⟩;refine an.wf fun aC=>?_;have hlo:o.length=k:=by rw [ho];simp;omega
 have hrl:=fm.len;refine an.seq fun _ ec=>.region<|.q Z (ca Z Z)<|.nil<|ec _ _<|.seq fun _ eg=>.if rfl (fun eQ=>?_) (fun eQ=>?_)
 ·refine an.skip<|eg _ _<|.seq fun _ en=>.block<|.seq fun _ ex=>.region<|.q Z (ah Z)<|.q Z (ae Z)<|.nil<|ex _ _ ?_;refine an.region<|.q Z (ah Z)<|.q Z (ah Z) ?_;obtain ⟨b7,f4,f3,eV,eZ,aG,c4,e6,f9,eN,f6,eL⟩:=ag.at1 (x:=i) Of;rw [aH] at c4;refine Ops.q Z (aE d9 c0 Z aG Z (by rw [c4];omega))<|.l Z (fun _ _ d3 _=>bh (off:=i) (c':=eV.set i (num (-1))) aC rfl (by simp) rfl rfl c0 e6 (by show i + 1<=_;omega) rfl rfl fun A38 ab=>?_);have ey:=ab.keep _ _ (fun q=>aa (by rw [aG];exact congrArg some q.symm)) ap;have cP:=aF.keep ab.keep (a8 b7 (by rw [aG];rfl));have cS:=aD.keep ab.keep (ac b7 (by rw [aG];rfl));have ck:=av.keep ab.keep (fun r hr=>a6 r hr b7 (by rw [aG];rfl));have bb:=eL (num (-1)) A38 ab;rw [gU] at bb;have dz:=aw bv aI eN ab.n ab.keep;refine d3 _ _<|.nil<|en _ _<|.region<|.q Z (bz (b:=1) Z Z Oy)<|.q Z (ah Z)<|.nil ?_;exact ⟨⟨i + 1,o.set i ((-1)),r⟩,kq Z Z Z Z,Z,⟨⟨by omega,by rw [ho];exact ER O⟩,dz,bb,cP,cS,ey,aa,a9,a4,a8,ac,ad,ck,az,a6,a7,ai⟩,O1⟩
 refine an.exit<|e9 _ _<|.seq fun _ ez=>.region<|.q Z (ah Z)<|.q Z (ah Z)<|.q Z (cJ Z)<|.q Z (aj iz iy U Z)<|.q Z (ak jC Z Z ap Z)<|.q Z (ah Z) ?_;obtain ⟨aB,aA,ay,eS,_⟩:=ag.own.slice;subst eS;refine Ops.l Z (fun _ _ dd _=>aQ (c:=[.slice aB aA ay]) aC rfl (aJ mZ fj Iq rfl U U rfl) fun A50 f1 D=>?_);have dO:=ne_new aC ap D.lo;have dV:=ag.own.ne_new aC D.lo;have dZ:=av.ne_new aC D.lo;have c3:=D.le.get _ _ ap;have bc:=ag.le D.le;have bd:=aF.le D.le;have bl:=aD.le D.le;have b9:=av.le D.le;have dD:=bv.trans D.le;refine dd _ _<|.l Z (fun _ _ di _=>cQ (ys:=[.slice aB aA ay]) rfl rfl mZ fj Dn Iq rfl U mZ (fun _ h=>by cases h) bd.own (bZ (n:=1) D.get Z) rfl rfl (by show (_ + _) * 24<=_;simp only [cm,List.length_cons,List.length_nil];(try simp only [List.length_append,List.length_cons,List.length_nil]);omega) Ov fun A64 f7 a1=>?_);rw [show ([.slice aB aA ay]:List Value)=d6 [Value.slice aB aA ay] from rfl,od] at a1;obtain ⟨bm,dI⟩:=Fresh.grow bd dD aI a1;have eA:=a1.keep a9 c3;have aP:=a1.ne a9 D.wf c3;have e3:=bw.appd (show bw nv (.slice aB aA ay) from (bw.symm a8)) bc.own D.wf a1;have cV:=bc.appd a1 (bw.symm a8);have bB:=bw.appd (show bw nv ev from ad) bl.own D.wf a1;have cX:=bl.appd a1 ad;have e4:=aM.appd (show aM nv rows from a7) b9 D.wf a1;have cv:=b9.appd a1 (show aM nv rows from a7);have cC:=cv.snoc cV a6;have aR:=az.snoc aa;have eY:=dZ.snoc dV;have bC:=ai.snoc (bw.symm ac);have e5:=e4.snoc e3;refine di _ _<|.q Z (cJ Z)<|.q Z (aj iz iy U Z) ?_;obtain ⟨b3,b1,aS,eT,_⟩:=bm.own.slice;subst eT;refine Ops.l Z (fun _ _ dj _=>bh (cs:=[.slice b3 b1 aS]) (c':=[.slice b3 b1 aS,ev]) a1.wf rfl rfl rfl rfl iy eA (Nat.le_of_ble_eq_true rfl) rfl rfl fun A86 a3=>?_);have cZ:=cX.keep a3.keep a4;have d0:=bm.keep a3.keep aP;have ba:=cC.keep a3.keep aR;have dJ:=aw dI aI cc a3.n a3.keep;refine dj _ _<|.nil<|ez _ _<|.seq fun _ eC=>.region<|.q Z (ah Z)<|.q Z (ah Z)<|.q Z (cJ Z)<|.q Z (aj lh ie U Z)<|.q Z (ak ib Z Z a3.get Z) ?_;refine Ops.l Z (fun _ _ dv _=>aQ (c:=[.bool (false)]) a3.wf rfl (aJ kW lA z4 rfl U U rfl) fun A96 f2 a2=>?_);have dS:=ne_new a3.wf a3.get a2.lo;have eX:=ba.ne_new a3.wf a2.lo;have br:=a2.le.get _ _ a3.get;have aV:=cZ.le a2.le;have aY:=d0.le a2.le;have aT:=ba.le a2.le;have bS:=dJ.trans a2.le;refine dv _ _<|.l Z (fun _ _ bP _=>cQ (ys:=[.bool (false)]) rfl rfl kW lA Jv z4 rfl U kW (fun _ h=>by cases h) aV.own (bZ (n:=1) a2.get Z) rfl rfl (by show (_ + _) * 1<=_;simp only [bG,List.length_cons,List.length_nil];(try simp only [List.length_append,List.length_cons,List.length_nil]);omega) Ow fun A107 f0 a0=>?_);rw [show ([.bool (false)]:List Value)=cg [false] from rfl,mC] at a0;obtain ⟨aZ,bT⟩:=Fresh.grow aV bS aI a0;have d1:=a0.keep a4 br;have b2:=a0.ne a4 a2.wf br;have bV:=bw.appd (show bw ev (.slice b3 b1 aS) from (bw.symm bB)) aY.own a2.wf a0;have bM:=aY.appd a0 (bw.symm bB);have bY:=aM.appd (show aM ev (rows ++ [Value.slice aB aA ay]) from bC) aT a2.wf a0;have bD:=aT.appd a0 (show aM ev (rows ++ [Value.slice aB aA ay]) from bC);refine bP _ _<|.q Z (cJ Z)<|.q Z (aj lh ie U Z) ?_;obtain ⟨bA,bu,b8,e0,_⟩:=aZ.own.slice;subst e0;refine Ops.l Z (fun _ _ bR _=>bh (cs:=[.slice bA bu b8]) (c':=[.slice b3 b1 aS,.slice bA bu b8]) a0.wf rfl rfl rfl rfl ie d1 (Nat.le_of_ble_eq_true rfl) rfl rfl fun A122 a5=>?_);have b0:=bM.keep a5.keep aP;have bO:=aZ.keep a5.keep b2;have bL:=bD.keep a5.keep aR;have bU:=aw bT aI cc a5.n a5.keep;refine bR _ _<|.nil<|eC _ _<|.seq fun _ d2=>.region<|.q Z (ah Z)<|.q Z (cJ Z)<|.q Z (aj iz iy U Z)<|.q Z (ak jC Z Z a5.get Z)<|.q Z (bE (n:=(rows ++ [Value.slice aB aA ay]).length) mZ Z b0.slc O (ir _)) ?_;refine Ops.q Z (gh (b:=1) Z Z Oy)<|.q Z (ae Z)<|.nil<|d2 _ _<|.rt (by exact aK Z (⟨_,_,_,(show num _=num _ from congrArg (fun z:Nat=>num (z:Int)) (by simp [fm.len])),bU,a5.wf,a5.get,b0,bO,aP,b2,(bw.symm bV),lI bL (by rw [ho,show i=k by omega,Nat.sub_self];simp [Ah]),aR,e5,bY⟩))

theorem RU (k:Nat) (w:List UInt8) (b:Nat) (nv ev:Value) (rows:List Value) (L:List (List Int)) (E:List Bool) (A0 A:AH) (b8:A0.le A) (bv:A0.wf) (hb:A.get b=some (.row true [nv,ev] 2)) (eQ:A0.get b=none) (frn:Fresh A0 A nv 1 (d6 rows)) (fre:Fresh A0 A ev 1 (cg E)) (nn:blk nv ≠ some b) (ne:blk ev ≠ some b) (sne:bw nv ev) (fm:gy A0 A rows L) (fo:dA rows b) (fsn:aM nv rows) (fse:aM ev rows) (hL:gk A0) (hk:k<=1000/\L.length<=100000/\w.length<=100000) (hT:Ae k L E) (h0:0 < L.length) (hw:∀ c ∈ w,0<=ix c/\ix c < k):bF Tryz.prog 77 #[.pointer (some ⟨b,0,none⟩),num ((k:Nat):Int),bi (w)] A (fun v A1=>∃ nv2 jk rows2,v=.tuple #[]/\A0.le A1/\A1.wf/\A1.get b=some (.row true [nv2,jk] 2)/\Fresh A0 A1 nv2 1 (d6 rows2)/\Fresh A0 A1 jk 1 (cg (uO k L E w))/\blk nv2 ≠ some b/\blk jk ≠ some b/\bw nv2 jk/\gy A0 A1 rows2 (uQ k L E w)/\dA rows2 b/\aM nv2 rows2/\aM jk rows2):=by
 refine tm Tryz.call77 Tryz.func77 Z Tryz.results77 Tryz.ntmps77 Z (fun wf=>?_);have hwx:∀ x ∈ w.map ix,0<=x/\x < (k:Int):=fun x hx=>by obtain ⟨c,hc,rfl⟩:=List.mem_map.1 hx;exact hw c hc
 have hwl:(w.map ix).length=w.length:=List.length_map _;refine an.seq fun _ h2=>.region<|.q Z (ae Z)<|.nil<|h2 _ _<|.seq fun _ h4=>.seq fun _ h6=>.region<|.q Z (ah Z)<|.l Z (fun _ _ ea _=>ax Z (GK w A (hL.le b8) O) ?_);rintro v8 A9 ⟨av,f0,ap⟩;have e2:=av.get _ _ hb;have bU:=frn.le av;have bV:=fre.le av;have bR:=fm.le av;have cC:=b8.trans av;have b2:=ap.base b8;have cV:=ap.sep0 frn.own;have cX:=ap.sep0 fre.own;have cZ:=aM.fresh fm ap;have cS:=ap.ne wf hb;refine ea _ _<|.q Z (bE (n:=(w.map ix).length) d9 Z b2.slc O (ee _))<|.q Z (ah Z)<|.nil<|h6 _ _<|.block<|.loop (X:=Nat × List Bool × Nat × Value × Value × List Value × List (List Int)) (fun ⟨i,E1,s,a7,o8,rw,L1⟩=>[(0,.pointer (some ⟨b,0,none⟩)),(1,num ((k:Nat):Int)),(6,num ((s:Nat):Int)),(11,v8),(12,num (((w.map ix).length:Nat):Int)),(13,num ((i:Nat):Int))]) (fun ⟨i,E1,s,a7,o8,rw,L1⟩ B=>(i<=(w.map ix).length/\mS k L E ((w.map ix).take i)=(L1,E1,s)/\Ae k L1 E1/\s < L1.length/\L1.length<=L.length + i)/\A0.le B/\Fresh A0 B a7 1 (d6 rw)/\Fresh A0 B o8 1 (cg E1)/\Fresh A0 B v8 1 (cI (w.map ix))/\B.get b=some (.row true [a7,o8] 2)/\V.blk a7 ≠ some b/\V.blk o8 ≠ some b/\V.blk v8 ≠ some b/\bw a7 o8/\bw a7 v8/\bw o8 v8/\gy A0 B rw L1/\dA rw b/\aM a7 rw/\aM o8 rw/\aM v8 rw) (fun ⟨i,E1,s,a7,o8,rw,L1⟩=>(w.map ix).length - i) (⟨0,E,0,nv,ev,rows,L⟩) (ao.cons Z<|ao.cons Z<|ao.cons (congrArg (fun z:Int=>some (num z)) (by first | exact tC hok ar (by have:=hxw O;omega) | omega))<|jo Z Z Z) (⟨⟨Nat.zero_le _,Z,hT,h0,by omega⟩,cC,bU,bV,b2,e2,nn,ne,cS,sne,(bw.symm cV),(bw.symm cX),bR,fo,fsn,fse,cZ⟩) ?_;rintro ⟨i,E1,s,a7,o8,rw,L1⟩ B22 ⟨⟨hi,hrun,hok,ar,gp⟩,aY,a1,a9,D,a8,ab,a3,h,ac,a5,a6,a4,ad,aa,a2,a0⟩;refine an.wf fun ba=>?_;have hrw:rw.length=L1.length:=by first | exact gy.len ‹_›
 have hxw:=fun q:i < (w.map ix).length=>hwx _ (bq (d:=(0:Int)) q);have hro:=hok.row s ar;have hvo:=fun q:((w.map ix).getD i 0).toNat < k=>hok.val s ((w.map ix).getD i 0).toNat ar q;have hEl:=hok.len;refine an.seq fun _ e3=>.region<|.q Z (ca Z Z)<|.nil<|e3 _ _<|.seq fun _ e4=>.if rfl (fun eV=>?_) (fun eV=>?_)
 ·refine an.skip<|e4 _ _<|.seq fun _ bm=>.block<|.seq fun _ e5=>.region ?_;obtain ⟨fV,g8,fL,h3,fe,gL,gq,d2,en,dD,f1,bA⟩:=bH.at (i:=i) D.slc Of O;refine Ops.q Z (aE d9 c0 Z d2 Z en)<|.q Z (ak eB Z Z dD ((cN bA).trans (cW O)))<|.q Z (ae Z)<|.nil<|e5 _ _<|.seq fun _ bp=>.seq fun _ e6=>.region<|.q Z (ah Z)<|.q Z (cJ Z) ?_;refine Ops.q Z (aj iz iy U Z)<|.q Z (ak jC Z Z a8 Z)<|.q Z (ah Z) ?_;obtain ⟨fX,g9,fM,h5,fi,gM,gs,d3,ex,dI,f2,bB⟩:=bH.at (i:=s) a1.slc On O;refine Ops.q Z (aE mZ fj Z d3 Z ex)<|.q Z (ak kY Z Z dI ((cN bB).trans (eo O)))<|.q Z (ah Z) ?_;obtain ⟨g0,gc,fN,h7,fl,gN,gA,dd,ey,dJ,f3,bC⟩:=bH.at (i:=((w.map ix).getD i 0).toNat) (a4.fr s O).slc (by simp only [aH];have:=hxw O;omega) O;refine Ops.q Z (aE d9 c0 Z dd (iJ (by have:=hxw O;omega)) ey)<|.q Z (ak eB Z Z dJ ((cN bC).trans (cW (by have:=hxw O;omega))))<|.q Z (kO Z Z)<|.nil<|e6 _ _<|.if rfl (fun eX=>?_) (fun eX=>?_)
  ·refine an.seq fun _ e7=>.region<|.q Z (ah Z)<|.q Z (ah Z) ?_;have aP:=ce (bs:=([some b,blk a7,blk o8] ++ rw.map blk)) aY (Bf (sh eQ (qS a1.lo (qS a9.lo nw))) a4);refine Ops.l Z (fun _ _ ch _=>ax Z (Lr k b a7 o8 rw L1 E1 (B22.hide ([some b,blk a7,blk o8] ++ rw.map blk)) B22 (cz B22 ([some b,blk a7,blk o8] ++ rw.map blk)) (ci ba) a8 (cn (by simp)) (a1.hide (by simp)) (a9.hide (by simp)) ab a3 ac a4.hideAll ad aa a2 ⟨by omega,by omega,by omega⟩) ?_);rintro hh A45 ⟨bc,bb,aG,rfl,b0,bd,aF,az,aA,aS,aT,aV,aI,aB,aC,aD⟩;have b9:=aI.sepOff D.own (lj (jJ h (jd a5 (jd a6 jI))) a0);have d0:=az.sep D.own (lj (jJ h (jd a5 (jd a6 jI))) a0);have d1:=aA.sep D.own (lj (jJ h (jd a5 (jd a6 jI))) a0);have bY:=D.off (lj (jJ h (jd a5 (jd a6 jI))) a0) b0;have b3:=az.base aP;have c3:=aA.base aP;have ay:=aI.base aP;have cH:=aP.trans b0;have b7:=aI.len;rw [List.length_append,List.length_singleton] at b7;have hgl:((L1 ++ [Ah k]).getD s []).length=k:=by rw [jF ar];exact hok.row s ar
   have hll:(L1 ++ [Ah k]).length=L1.length + 1:=by simp
   refine ch _ _<|.q Z (ae Z)<|.nil<|e7 _ _<|.region<|.q Z (ah Z)<|.q Z (cJ Z)<|.q Z (aj iz iy U Z)<|.q Z (ak jC Z Z aF Z)<|.q Z (ah Z) ?_;obtain ⟨g1,ge,fO,h8,fn,gP,gC,di,ez,dO,f4,bD⟩:=bH.at (i:=s) b3.slc On O;refine Ops.q Z (aE mZ fj Z di Z ez)<|.q Z (ak kY Z Z dO ((cN bD).trans (eo O)))<|.q Z (ah Z)<|.q Z (ah Z) ?_;obtain ⟨b1,gQ,g6,eY,fq,aR,eA,dS,hj,eS,hf,ec⟩:=ay.at (s:=s) (x:=((w.map ix).getD i 0).toNat) O (by have:=hxw O;omega);refine Ops.q Z (aE d9 c0 Z aR (iJ (by have:=hxw O;omega)) (by rw [eA];have:=hxw O;omega))<|.l Z (fun _ _ ck _=>bh (off:=((w.map ix).getD i 0).toNat) (c':=eY.set (((w.map ix).getD i 0).toNat) (num ((L1.length:Nat):Int))) bd rfl (by simp) rfl rfl c0 dS (by show (((w.map ix).getD i 0).toNat) + 1<=_;omega) rfl rfl fun A59 ag=>?_);have br:=ag.keep _ _ (fun q=>dQ aB (s:=s) (by have:=ay.len;omega) (by rw [aR];exact congrArg some q.symm)) aF;have c4:=bY.keep ag.keep (fun q=>dQ b9 (s:=s) (by have:=ay.len;omega) b1 q (by rw [aR];rfl));have b5:=b3.keep ag.keep (fun q=>dQ aC (s:=s) (by have:=ay.len;omega) b1 q (by rw [aR];rfl));have c7:=c3.keep ag.keep (fun q=>dQ aD (s:=s) (by have:=ay.len;omega) b1 q (by rw [aR];rfl));have bS:=ec (((L1.length:Nat):Int)) A59 ag;have cK:=aw cH bv eS ag.n ag.keep;refine ck _ _<|.nil ?_;have hgr:((grow k L1 s ((w.map ix).getD i 0).toNat).getD s []).length=k:=(wU hok ar O).row s (by rw [i9];omega);have hgll:(grow k L1 s ((w.map ix).getD i 0).toNat).length=L1.length + 1:=i9;have fmG:gy A0 A59 aG (grow k L1 s ((w.map ix).getD i 0).toNat):=bS;have hgm:=fmG.len;refine bp _ _<|.region<|.q Z (ah Z)<|.q Z (cJ Z)<|.q Z (aj iz iy U Z)<|.q Z (ak jC Z Z br Z)<|.q Z (ah Z) ?_;obtain ⟨g2,gf,fQ,h9,ft,gS,gD,dj,eC,dV,f6,bL⟩:=bH.at (i:=s) b5.slc On O;refine Ops.q Z (aE mZ fj Z dj Z eC)<|.q Z (ak kY Z Z dV ((cN bL).trans (eo O)))<|.q Z (ah Z) ?_;obtain ⟨g3,gg,fR,ha,fv,gX,gE,dv,eG,dW,f7,bM⟩:=bH.at (i:=((w.map ix).getD i 0).toNat) (fmG.fr s O).slc (by simp only [aH];have:=hxw O;omega) O;refine Ops.q Z (aE d9 c0 Z dv (iJ (by have:=hxw O;omega)) eG)<|.q Z (ak eB Z Z dW ((cN bM).trans (cW (by have:=hxw O;omega))))<|.q Z (ae Z)<|.nil<|bm _ _<|.region<|.q Z (bz (b:=1) Z Z O)<|.q Z (ah Z)<|.nil ?_;exact ⟨⟨i + 1,E1 ++ [false],L1.length,bc,bb,aG,grow k L1 s ((w.map ix).getD i 0).toNat⟩,ao.cons Z<|ao.cons Z<|ao.cons (congrArg (fun z:Int=>some (num z)) (by first | exact tC hok ar (by have:=hxw O;omega) | omega))<|jo Z Z Z,Z,⟨⟨by omega,zw O hrun ‹_›,wU hok ar (by have:=hxw O;omega),by omega,by omega⟩,cK,b5,c7,c4,br,aS,aT,h,aV,d0,d1,fmG,aB,aC,aD,b9⟩,O1⟩
  refine an.skip<|bp _ _<|.region<|.q Z (ah Z)<|.q Z (cJ Z)<|.q Z (aj iz iy U Z)<|.q Z (ak jC Z Z a8 Z)<|.q Z (ah Z) ?_;obtain ⟨g4,gl,fS,hd,fD,gY,gF,dw,eL,dZ,f9,bO⟩:=bH.at (i:=s) a1.slc On O;refine Ops.q Z (aE mZ fj Z dw Z eL)<|.q Z (ak kY Z Z dZ ((cN bO).trans (eo O)))<|.q Z (ah Z) ?_;obtain ⟨g5,gm,fT,he,fE,gZ,gG,dz,eN,e0,fd,bP⟩:=bH.at (i:=((w.map ix).getD i 0).toNat) (a4.fr s O).slc (by simp only [aH];have:=hxw O;omega) O;refine Ops.q Z (aE d9 c0 Z dz (iJ (by have:=hxw O;omega)) eN)<|.q Z (ak eB Z Z e0 ((cN bP).trans (cW (by have:=hxw O;omega))))<|.q Z (ae Z)<|.nil<|bm _ _<|.region<|.q Z (bz (b:=1) Z Z O)<|.q Z (ah Z)<|.nil ?_;exact ⟨⟨i + 1,E1,((L1.getD s []).getD ((w.map ix).getD i 0).toNat 0).toNat,a7,o8,rw,L1⟩,ao.cons Z<|ao.cons Z<|ao.cons (congrArg (fun z:Int=>some (num z)) (by first | exact tC hok ar (by have:=hxw O;omega) | omega))<|jo Z Z Z,Z,⟨⟨by omega,zx O hrun ‹_›,hok,by have:=hvo (by have:=hxw O;omega);omega,by omega⟩,aY,a1,a9,D,a8,ab,a3,h,ac,a5,a6,a4,ad,aa,a2,a0⟩,O1⟩
 refine an.exit<|h4 _ _<|.region<|.q Z (ah Z)<|.q Z (cJ Z)<|.q Z (aj lh ie U Z)<|.q Z (ak ib Z Z a8 Z)<|.q Z (ah Z) ?_;obtain ⟨bl,h1,g7,eZ,fI,aZ,bu,e1,hl,eT,hg,eg⟩:=a9.at1 (x:=s) Oi;rw [bG] at bu;refine Ops.q Z (aE kW lA Z aZ Z (by rw [bu];omega))<|.l Z (fun _ _ cv _=>bh (off:=s) (c':=eZ.set s (.bool (true))) ba rfl (by simp) rfl rfl lA e1 (by show s + 1<=_;omega) rfl rfl fun A73 ai=>?_);have e9:=ai.keep _ _ (fun q=>a3 (by rw [aZ];exact congrArg some q.symm)) a8;have cc:=a1.keep ai.keep ((bw.symm ac) bl (by rw [aZ];rfl));have bT:=a4.keep ai.keep (fun r hr=>a2 r hr bl (by rw [aZ];rfl));have b6:=eg (.bool (true)) A73 ai;rw [kn] at b6;have cP:=aw aY bv eT ai.n ai.keep;refine cv _ _<|.nil ?_;repeat first | with_reducible refine bJ ?_ | with_reducible refine bx ?_
 repeat first | with_reducible refine eF ?_ | with_reducible refine d7 ?_ | with_reducible refine dH U ?_ | with_reducible refine dK ?_ | with_reducible refine db ?_
 exact vK (vs:=[]) Z (⟨_,_,_,Z,cP,ai.wf,e9,cc,cy b6 (congrArg cg (by rw [uO,<- List.take_of_length_le (show (w.map ix).length<=i by omega),hrun])),ab,a3,ac,lI bT (by rw [uQ,<- List.take_of_length_le (show (w.map ix).length<=i by omega),hrun]),ad,aa,a2⟩)
end Go.Proofs.YtjppkekmddjcfaaGreatDoor

namespace Go.Proofs.YtjppkekmddjcfaaGreatDoor
open Go Go.RowKit V
abbrev gB (L:List (List Int)) (n x:Nat):Int:=(L.getD n []).getD x 0
structure TW (k:Nat) (L:List (List Int)) (W:List (List Nat)):Prop where
  len:W.length=L.length
  pos:0 < W.length
  zero:W.getD 0 []=[]
  nd:∀ a b,a < W.length->b < W.length->W.getD a []=W.getD b []->a=b
  pre:∀ m,0 < m->m < W.length->∃ n x,n < W.length/\x < k/\W.getD m []=W.getD n [] ++ [x]
  is:∀ n x,n < W.length->x < k->0<=gB L n x->(gB L n x).toNat < W.length/\W.getD (gB L n x).toNat []=W.getD n [] ++ [x]
  no:∀ n x,n < W.length->x < k->gB L n x < 0->W.getD n [] ++ [x] ∉ W
section
variable {k s x i:Nat} {L L1:List (List Int)} {E E1:List Bool} {xs:List Int} {W:List (List Nat)}
theorem JP {w:List Nat} (h:w ∈ W):∃ a,a < W.length/\W.getD a []=w:=by
  obtain ⟨i,hi,rfl⟩:=List.getElem_of_mem h
  exact ⟨i,hi,by simp [hi]⟩
theorem lG {a:Nat} (h:a < W.length):W.getD a [] ∈ W:=bq h
theorem yB (h:Ae k L E) (hs:s < L.length) (hx:x < k) {j y:Nat} (hj:j < L.length + 1) (hy:y < k):gB (grow k L s x) j y=if j=s/\y=x then (L.length:Int) else if j < L.length then gB L j y else -1:=by
  unfold gB
  rw [sC (y:=0) h hs hx hj]
  by_cases h1:j=s
  · subst h1
    rw [if_pos Z,dM (by rw [h.row j hs];exact hx)]
    by_cases h2:y=x
    · rw [if_pos h2,if_pos ⟨rfl,h2⟩]
    · rw [if_neg h2,if_neg (fun q=>h2 q.2),if_pos hs]
  · simp only [h1,false_and,if_false]
    by_cases h2:j < L.length
    · simp only [h2,if_true]
    · simp only [h2,if_false];simp [Ah,hy]
theorem TW.grow (h:Ae k L E) (t:TW k L W) (hs:s < L.length) (hx:x < k) (hn:gB L s x < 0):TW k (grow k L s x) (W ++ [W.getD s [] ++ [x]]):=by
  have hl:=t.len
  have e1:∀ a,a < W.length->(W ++ [W.getD s [] ++ [x]]).getD a []=W.getD a []:=fun a ha=>jF ha
  have e2:(W ++ [W.getD s [] ++ [x]]).getD W.length []=W.getD s [] ++ [x]:=by simp
  have hnew:=t.no s x O hx hn
  have key:∀ n y,n < W.length->W.getD n [] ++ [y]=W.getD s [] ++ [x]->n=s/\y=x:=fun n y D q=>by
    have:=List.append_inj' q Z
    exact ⟨t.nd n s D O this.1,by simpa using this.2⟩
  refine ⟨by rw [i9];simp [hl],by simp,by rw [e1 0 t.pos];exact t.zero,fun a b ha hb q=>?_,fun m hm V=>?_,fun n y D hy h0=>?_,fun n y D hy h0=>?_⟩
  · simp only [List.length_append,List.length_singleton] at ha hb
    rcases Nat.lt_or_ge a W.length with qa | qa
    · rcases Nat.lt_or_ge b W.length with qb | qb
      · rw [e1 a qa,e1 b qb] at q;exact t.nd a b qa qb q
      · obtain rfl:b=W.length:=by omega
        rw [e1 a qa,e2] at q;exact absurd (q ▸ lG qa) hnew
    · obtain rfl:a=W.length:=by omega
      rcases Nat.lt_or_ge b W.length with qb | qb
      · rw [e1 b qb,e2] at q;exact absurd (q ▸ lG qb) hnew
      · omega
  · simp only [List.length_append,List.length_singleton] at V
    rcases Nat.lt_or_ge m W.length with q | q
    · obtain ⟨n,y,h1,h2,h3⟩:=t.pre m hm q
      exact ⟨n,y,by simp;omega,h2,by rw [e1 m q,e1 n h1];exact h3⟩
    · obtain rfl:m=W.length:=by omega
      exact ⟨s,x,by simp;omega,hx,by rw [e2,e1 s O]⟩
  · simp only [List.length_append,List.length_singleton] at D ⊢
    rw [yB h hs hx O hy] at h0 ⊢
    split
    · rename_i q
      obtain ⟨rfl,rfl⟩:=q
      rw [Int.toNat_natCast,<- hl,e2,e1 n O]
      exact ⟨by omega,Z⟩
    · rename_i q
      rw [if_neg q] at h0
      split
      · rename_i q2
        rw [if_pos q2] at h0
        have:=t.is n y O hy h0
        rw [e1 n O,e1 _ this.1]
        exact ⟨by omega,this.2⟩
      · rename_i q2;rw [if_neg q2] at h0;omega
  · simp only [List.length_append,List.length_singleton] at D
    rw [yB h hs hx O hy] at h0
    split at h0
    · omega
    · rename_i q
      intro hm
      split at h0
      · rename_i q2
        have:=t.no n y O hy h0
        rw [e1 n O] at hm
        rcases List.mem_append.1 hm with z | z
        · exact this z
        · rw [List.mem_singleton] at z
          exact q (key n y O z)
      · rename_i q2
        obtain rfl:n=W.length:=by omega
        rw [e2] at hm
        rcases List.mem_append.1 hm with z | z
        · have hlen:∀ a b:Nat,a < W.length->W.getD a []=(W.getD s [] ++ [x]) ++ [b]->False:=fun a b ha q=>by
            rcases Nat.eq_zero_or_pos a with q0 | q0
            · subst q0;rw [t.zero] at q;simp at q
            · obtain ⟨n,y2,h1,h2,h3⟩:=t.pre a q0 ha
              rw [h3] at q
              have:=(List.append_inj' q Z).1
              exact hnew (this ▸ lG h1)
          obtain ⟨a,ha,e⟩:=JP z
          exact hlen a y ha e
        · rw [List.mem_singleton] at z
          have:=congrArg List.length z
          simp at this
theorem TW.start:TW k [Ah k] [[]]:=by
  have e:∀ n x,n < 1->x < k->gB [Ah k] n x = -1:=fun n x hn hx=>by
    obtain rfl:n=0:=by omega
    simp [gB,Ah,hx]
  refine ⟨rfl,by simp,rfl,fun a b ha hb _=>by simp at ha hb;omega,fun m hm h=>by simp at h;omega,fun n x hn hx h0=>?_,fun n x hn hx h0=>?_⟩
  · rw [e n x hn hx] at h0;omega
  · obtain rfl:n=0:=by simp at hn;omega
    simp
structure Pk (k:Nat) (L:List (List Int)) (E:List Bool) (W S:List (List Nat)):Prop where
  ok:Ae k L E
  tw:TW k L W
  sub:∀ w ∈ S,w ∈ W
  ends:∀ m,m < W.length->(E.getD m false=true ↔ W.getD m [] ∈ S)
theorem Pk.run {S:List (List Nat)} (h:Pk k L E W S) (hx:∀ x ∈ xs,0<=x/\x < (k:Int)):∀ i,i<=xs.length->∃ W1,Pk k (mS k L E (xs.take i)).1 (mS k L E (xs.take i)).2.1 W1 S/\(mS k L E (xs.take i)).2.2 < (mS k L E (xs.take i)).1.length /\
    W1.getD (mS k L E (xs.take i)).2.2 []=(xs.take i).map Int.toNat/\(mS k L E (xs.take i)).1.length<=L.length + i:=by
  intro i
  induction i with
  | zero=>intro _;exact ⟨W,h,by have:=h.tw.pos;have:=h.tw.len;show 0 < L.length;omega,h.tw.zero,Nat.le_refl _⟩
  | succ i ih =>
    intro hi
    obtain ⟨W1,h1,h2,h3,h4⟩:=ih O
    rcases hr:mS k L E (xs.take i) with ⟨L1,E1,s⟩
    rw [hr] at h1 h2 h3 h4
    simp only at h1 h2 h3 h4
    have hb:=hx _ (bq (d:=(0:Int)) (show i < xs.length by omega))
    have hl:=h1.tw.len
    have et:(xs.take (i + 1)).map Int.toNat=(xs.take i).map Int.toNat ++ [(xs.getD i 0).toNat]:=(qm (z:=(0:Int)) Int.toNat (show i < xs.length by omega)).symm
    by_cases q:(L1.getD s []).getD (xs.getD i 0).toNat 0 < 0
    · rw [zw O hr q]
      refine ⟨W1 ++ [W1.getD s [] ++ [(xs.getD i 0).toNat]],⟨wU h1.ok h2 O,TW.grow h1.ok h1.tw h2 O q,fun w hw=>List.mem_append.2 (.inl (h1.sub w hw)),fun m hm=>?_⟩,by rw [i9];show L1.length < _;omega,?_,by rw [i9];omega⟩
      · simp only [List.length_append,List.length_singleton] at hm
        rcases Nat.lt_or_ge m W1.length with z | z
        · rw [jF z,jF (by rw [h1.ok.len];omega)];exact h1.ends m z
        · obtain rfl:m=W1.length:=by omega
          have e1:(E1 ++ [false]).getD W1.length false=false:=by rw [hl,<- h1.ok.len];simp
          have e2:(W1 ++ [W1.getD s [] ++ [(xs.getD i 0).toNat]]).getD W1.length []=W1.getD s [] ++ [(xs.getD i 0).toNat]:=by simp
          rw [e1,e2]
          have:=h1.tw.no s _ O O q
          exact ⟨(fun z=>by cases z),fun z=>absurd (h1.sub _ z) this⟩
      · show (W1 ++ _).getD L1.length []=_
        rw [<- hl,et,<- h3];simp
    · rw [zx O hr q]
      have:=h1.tw.is s (xs.getD i 0).toNat O O (by show 0<=(L1.getD s []).getD _ 0;omega)
      exact ⟨W1,h1,by show ((L1.getD s []).getD (xs.getD i 0).toNat 0).toNat < L1.length;rw [<- hl];exact this.1,by rw [et,<- h3];exact this.2,by show L1.length<=_;omega⟩
theorem Ae.set {E2:List Bool} (h:Ae k L E) (he:E2.length=E.length):Ae k L E2:=⟨by rw [he,h.len],h.row,h.val⟩
def Cy (w:Wd):List Nat:=w.map fun c=>(ix c).toNat
theorem Pk.add {S:List (List Nat)} {w:Wd} (h:Pk k L E W S) (hw:∀ c ∈ w,0<=ix c/\ix c < k):∃ W1,Pk k (uQ k L E w) (uO k L E w) W1 (S ++ [Cy w])/\(uQ k L E w).length<=L.length + w.length:=by
  have hx:∀ x ∈ w.map ix,0<=x/\x < (k:Int):=fun x hx=>by obtain ⟨c,hc,rfl⟩:=List.mem_map.1 hx;exact hw c hc
  obtain ⟨W1,h1,h2,h3,h4⟩:=h.run hx (w.map ix).length (Nat.le_refl _)
  rw [List.take_length] at h1 h2 h3 h4
  have e3:(w.map ix).map Int.toNat=Cy w:=by rw [List.map_map];rfl
  have hl:=h1.tw.len
  refine ⟨W1,⟨h1.ok.set (by simp [uO]),h1.tw,fun u hu=>?_,fun m hm=>?_⟩,by rw [uQ];rw [List.length_map] at h4;exact h4⟩
  · rcases List.mem_append.1 hu with z | z
    · exact h1.sub u z
    · rw [List.mem_singleton] at z;rw [z,<- e3,<- h3];exact lG O
  · rw [uO,dM (by rw [h1.ok.len];exact h2)]
    split
    · rename_i q;subst q
      exact ⟨fun _=>List.mem_append.2 (.inr (List.mem_singleton.2 (by rw [h3,e3]))),fun _=>rfl⟩
    · rename_i q
      rw [h1.ends m hm,List.mem_append,List.mem_singleton]
      exact ⟨.inl,fun z=>z.elim id fun z=>absurd (h1.tw.nd m _ hm O (by rw [z,h3,e3])) q⟩
end
end Go.Proofs.YtjppkekmddjcfaaGreatDoor

namespace Go.Proofs.YtjppkekmddjcfaaGreatDoor
open Go Go.RowKit V
def rP (W:List (List Nat)):List Nat->List Nat
  | []=>[]
  | a :: t=>if a :: t ∈ W then a :: t else rP W t
def Mp (W:List (List Nat)):Prop:=[] ∈ W/\∀ u x,u ++ [x] ∈ W->u ∈ W
section
variable {W S:List (List Nat)} {u w t:List Nat} {a x:Nat}
theorem xg (h:Mp W):rP W w ∈ W:=by
  induction w with
  | nil=>exact h.1
  | cons a t ih=>unfold rP;split <;> assumption
theorem oH:rP W w <:+ w:=by
  induction w with
  | nil=>exact List.suffix_refl _
  | cons a t ih =>
    unfold rP;split
    · exact List.suffix_refl _
    · exact ih.trans (List.suffix_cons _ _)
theorem Qf (h:w ∈ W):rP W w=w:=by
  cases w with
  | nil=>rfl
  | cons a t=>rw [rP,if_pos h]
theorem qK (h:u <:+ a :: t):u=a :: t\/u <:+ t:=by
  rcases List.suffix_cons_iff.1 h with h | h
  · exact .inl h
  · exact .inr h
theorem sE (hu:u ∈ W) (h:u <:+ w):u <:+ rP W w:=by
  induction w with
  | nil=>exact h
  | cons a t ih =>
    unfold rP;split
    · exact h
    · rename_i q
      rcases qK h with z | z
      · exact absurd (z ▸ hu) q
      · exact ih z
theorem xQ {u v:List Nat} (h:u <:+ v) (h':v <:+ u):u=v:=h.eq_of_length (Nat.le_antisymm h.length_le h'.length_le)
theorem yU (hp:Mp W):rP W (w ++ [x])=rP W (rP W w ++ [x]):=by
  refine xQ ?_ ?_
  · refine sE (xg hp) ?_
    have h1:rP W (w ++ [x]) <:+ w ++ [x]:=oH
    have h2:rP W (w ++ [x]) ∈ W:=xg hp
    rcases List.eq_nil_or_concat (rP W (w ++ [x])) with q | ⟨u,y,q⟩
    · rw [q];exact List.nil_suffix
    · rw [List.concat_eq_append] at q
      rw [q] at h1 h2 ⊢
      obtain ⟨r,hr⟩:=h1
      rw [<- List.append_assoc] at hr
      obtain ⟨e1,e2⟩:=List.append_inj' hr Z
      have hu:=sE (hp.2 u y h2) (⟨r,e1⟩:u <:+ w)
      obtain ⟨r',hr'⟩:=hu
      exact ⟨r',by rw [<- List.append_assoc,hr',e2]⟩
  · refine sE (xg hp) ((oH).trans ?_)
    obtain ⟨r,hr⟩:=(oH:rP W w <:+ w)
    exact ⟨r,by rw [<- List.append_assoc,hr]⟩
end
theorem TW.prec {k:Nat} {L:List (List Int)} {W:List (List Nat)} (h:TW k L W):Mp W:=by
  refine ⟨h.zero ▸ lG h.pos,fun u x hu=>?_⟩
  obtain ⟨m,hm,e⟩:=JP hu
  rcases Nat.eq_zero_or_pos m with q | q
  · subst q;rw [h.zero] at e;simp at e
  · obtain ⟨n,y,h1,h2,h3⟩:=h.pre m q hm
    rw [h3] at e
    exact (List.append_inj' e Z).1 ▸ lG h1
structure BS where
  L:List (List Int)
  E:List Bool
  F:List Int
  Q:List Int
abbrev ka (b:BS) (n x:Nat):Int:=if n=0 then 0 else gB b.L (b.F.getD n 0).toNat x
def tc (n:Nat) (b:BS) (x:Nat):BS :=
  if gB b.L n x < 0 then { b with L:=b.L.set n ((b.L.getD n []).set x (ka b n x)) }
  else ⟨b.L,b.E.set (gB b.L n x).toNat (b.E.getD (gB b.L n x).toNat false || b.E.getD (ka b n x).toNat false),b.F.set (gB b.L n x).toNat (ka b n x),b.Q ++ [gB b.L n x]⟩
abbrev qn (b:BS) (a:Nat):Nat:=(b.Q.getD a 0).toNat
structure BI (k:Nat) (L0:List (List Int)) (W S:List (List Nat)) (b:BS) (i j:Nat):Prop where
  len:b.L.length=W.length/\b.E.length=W.length/\b.F.length=W.length
  row:∀ s,s < W.length->(b.L.getD s []).length=k
  q0:0 < b.Q.length/\b.Q.getD 0 0=0
  qr:∀ a,a < b.Q.length->0<=b.Q.getD a 0/\b.Q.getD a 0 < W.length
  qd:∀ a c,a < b.Q.length->c < b.Q.length->qn b a=qn b c->a=c
  srt:∀ a c,a<=c->c < b.Q.length->(W.getD (qn b a) []).length<=(W.getD (qn b c) []).length
  same:∀ n x,n < W.length->x < k->(∀ a,a < b.Q.length->qn b a=n->i < a\/a=i/\j<=x)->gB b.L n x=gB L0 n x
  done:∀ a x,a < b.Q.length->x < k->(a < i\/a=i/\x < j)->0<=gB b.L (qn b a) x/\gB b.L (qn b a) x < W.length/\W.getD (gB b.L (qn b a) x).toNat []=rP W (W.getD (qn b a) [] ++ [x])
  ch:∀ a x,a < b.Q.length->x < k->(a < i\/a=i/\x < j)->W.getD (qn b a) [] ++ [x] ∈ W->∃ c,c < b.Q.length/\W.getD (qn b c) []=W.getD (qn b a) [] ++ [x]
  pa:∀ c,0 < c->c < b.Q.length->∃ a x,a < b.Q.length/\x < k/\(a < i\/a=i/\x < j)/\W.getD (qn b c) []=W.getD (qn b a) [] ++ [x]
  fl:∀ c,0 < c->c < b.Q.length->0<=b.F.getD (qn b c) 0/\b.F.getD (qn b c) 0 < W.length/\W.getD (b.F.getD (qn b c) 0).toNat []=rP W ((W.getD (qn b c) []).drop 1)
  eq:∀ c,c < b.Q.length->(b.E.getD (qn b c) false=true ↔ ∃ u ∈ S,u <:+ W.getD (qn b c) [])
  en:∀ m,m < W.length->(∀ c,c < b.Q.length->qn b c ≠ m)->(b.E.getD m false=true ↔ W.getD m [] ∈ S)
section
variable {k i j:Nat} {L0:List (List Int)} {E0:List Bool} {W S:List (List Nat)} {b:BS}
theorem BI.before (h:BI k L0 W S b i j) (t:TW k L0 W) (hi:i < b.Q.length):∀ n p,p < W.length->(W.getD p []).length=n->n < (W.getD (qn b i) []).length->∃ a,a < i/\qn b a=p:=by
  intro n
  induction n with
  | zero =>
    intro p hp hl hn
    have e:p=0:=t.nd p 0 hp t.pos (by rw [t.zero];exact List.length_eq_zero_iff.1 hl)
    subst e
    have q0:qn b 0=0:=by unfold qn;rw [h.q0.2];rfl
    refine ⟨0,?_,q0⟩
    rcases Nat.eq_zero_or_pos i with q | q
    · subst q;rw [q0,t.zero] at hn;simp at hn
    · exact q
  | succ n ih =>
    intro p hp hl hn
    have D:0 < p:=by
      rcases Nat.eq_zero_or_pos p with q | q
      · subst q;rw [t.zero] at hl;simp at hl
      · exact q
    obtain ⟨m,x,h1,h2,h3⟩:=t.pre p D hp
    have hml:(W.getD m []).length=n:=by rw [h3] at hl;simpa using hl
    obtain ⟨a,ha,ea⟩:=ih m h1 hml O
    obtain ⟨c,hc,ec⟩:=h.ch a x O h2 (.inl ha) (by rw [ea,<- h3];exact lG hp)
    have ecp:qn b c=p:=t.nd _ _ (by have:=h.qr c hc;unfold qn;omega) hp (by rw [ec,ea,h3])
    refine ⟨c,?_,ecp⟩
    refine Classical.byContradiction fun q=>?_
    have:=h.srt i c O hc
    rw [ecp] at this;omega
theorem BI.qlt (h:BI k L0 W S b i j) {a:Nat} (ha:a < b.Q.length):qn b a < W.length:=by have:=h.qr a ha;unfold qn;omega
theorem BI.to (h:BI k L0 W S b i j) (t:TW k L0 W) (hi:i < b.Q.length) (hj:j < k):0<=ka b (qn b i) j/\ka b (qn b i) j < W.length/\W.getD (ka b (qn b i) j).toNat []=rP W ((W.getD (qn b i) [] ++ [j]).drop 1) /\
    ∃ c,c < b.Q.length/\qn b c=(ka b (qn b i) j).toNat:=by
  have hq:=h.qlt hi
  by_cases hz:qn b i=0
  · rw [ka,if_pos hz,hz,t.zero]
    have q0:qn b 0=0:=by unfold qn;rw [h.q0.2];rfl
    exact ⟨Int.le_refl _,by have:=t.pos;omega,by show W.getD 0 []=_;rw [t.zero];rfl,0,h.q0.1,q0⟩
  · rw [ka,if_neg hz]
    have X:0 < i:=by
      rcases Nat.eq_zero_or_pos i with q | q
      · subst q;exact absurd (by unfold qn;rw [h.q0.2];rfl) hz
      · exact q
    obtain ⟨f1,f2,f3⟩:=h.fl i X hi
    generalize hw:W.getD (qn b i) []=w at *
    obtain ⟨a0,w0,rfl⟩:∃ a0 w0,w=a0 :: w0:=by
      cases w with
      | nil=>exact absurd (t.nd _ 0 hq t.pos (by rw [hw,t.zero])) hz
      | cons a0 w0=>exact ⟨a0,w0,Z⟩
    simp only [List.drop_one,List.tail_cons,List.cons_append] at f3 ⊢
    have hsh:(W.getD (b.F.getD (qn b i) 0).toNat []).length < (W.getD (qn b i) []).length:=by
      rw [f3,hw];have:=(oH:rP W w0 <:+ w0).length_le;simp;omega
    obtain ⟨c,hc,ec⟩:=h.before t hi _ _ O Z hsh
    have hd:=h.done c j O hj (.inl hc)
    rw [ec] at hd
    refine ⟨hd.1,hd.2.1,by rw [hd.2.2,f3,<- yU t.prec],?_⟩
    -- it has been met,as its word is not longer than the node's
    have a1:(W.getD (gB b.L (b.F.getD (qn b i) 0).toNat j).toNat []).length<=(W.getD (qn b i) []).length:=by
      rw [hd.2.2,f3,<- yU t.prec]
      have:=(oH:rP W (w0 ++ [j]) <:+ w0 ++ [j]).length_le
      rw [hw];simp at this ⊢;omega
    generalize hr:(gB b.L (b.F.getD (qn b i) 0).toNat j).toNat=r at *
    have hrW:r < W.length:=by omega
    rcases Nat.lt_or_ge (W.getD r []).length (W.getD (qn b i) []).length with q | q
    · obtain ⟨c,hc,ec⟩:=h.before t hi _ r hrW Z q
      exact ⟨c,by omega,ec⟩
    · rcases Nat.eq_zero_or_pos r with z | z
      · subst z
        have q0:qn b 0=0:=by unfold qn;rw [h.q0.2];rfl
        exact ⟨0,h.q0.1,q0⟩
      · obtain ⟨m,x,h1,h2,h3⟩:=t.pre r z hrW
        have hm:(W.getD m []).length < (W.getD (qn b i) []).length:=by rw [h3,List.length_append,List.length_singleton] at a1;omega
        obtain ⟨c,hc,ec⟩:=h.before t hi _ m h1 Z hm
        obtain ⟨d,D,V⟩:=h.ch c x O h2 (.inl hc) (by rw [ec,<- h3];exact lG hrW)
        exact ⟨d,D,t.nd _ _ (h.qlt D) hrW (by rw [V,ec,h3])⟩
theorem QM {L:List (List Int)} {n x m y:Nat} {v:Int} (hn:n < L.length) (hx:x < (L.getD n []).length):gB (L.set n ((L.getD n []).set x v)) m y=if m=n/\y=x then v else gB L m y:=by
  unfold gB
  rw [dM hn]
  by_cases h:m=n
  · subst h
    rw [if_pos Z,dM hx]
    by_cases h2:y=x <;> simp [h2]
  · simp [h]
theorem BI.step (h:BI k L0 W S b i j) (t:TW k L0 W) (hs:∀ w ∈ S,w ∈ W) (hne:[] ∉ S) (hi:i < b.Q.length) (hj:j < k):BI k L0 W S (tc (qn b i) b j) i (j + 1):=by
  have hq:=h.qlt hi
  obtain ⟨t1,t2,t3,t4⟩:=h.to t hi hj
  have hsame:gB b.L (qn b i) j=gB L0 (qn b i) j:=h.same _ _ hq hj fun a ha ea=>by
    have:=h.qd a i ha hi ea;exact .inr ⟨this,by omega⟩
  have V:∀ a,a < b.Q.length->qn b a=qn b i->a=i:=fun a ha ea=>h.qd a i ha hi ea
  unfold tc
  split
  · -- the letter leads nowhere yet
    rename_i hneg
    have hno:=t.no (qn b i) j hq hj (by rw [<- hsame];exact hneg)
    have hval:W.getD (ka b (qn b i) j).toNat []=rP W (W.getD (qn b i) [] ++ [j]):=by
      rw [t3]
      cases hw:W.getD (qn b i) [] ++ [j] with
      | nil=>simp at hw
      | cons a0 w0=>rw [hw] at hno;rw [rP,if_neg hno];rfl
    have hent:∀ m y,gB (b.L.set (qn b i) ((b.L.getD (qn b i) []).set j (ka b (qn b i) j))) m y=if m=qn b i/\y=j then ka b (qn b i) j else gB b.L m y:=fun m y=>QM (by rw [h.len.1];exact hq) (by rw [h.row _ hq];exact hj)
    refine ⟨⟨by simp [h.len.1],h.len.2⟩,fun s hs'=>?_,h.q0,h.qr,h.qd,h.srt,fun n x hn hx hc=>?_,fun a x ha hx hc=>?_,fun a x ha hx hc hm=>?_,fun c D hc=>?_,h.fl,h.eq,h.en⟩
    · show ((b.L.set _ _).getD s []).length=k
      rw [dM (by rw [h.len.1];exact hq)]
      split
      · rw [List.length_set];exact h.row _ hq
      · exact h.row s hs'
    · show gB (b.L.set _ _) n x=_
      rw [hent,if_neg]
      · exact h.same n x hn hx fun a ha ea=>by rcases hc a ha ea with q | q;exact .inl q;exact .inr ⟨q.1,by omega⟩
      · rintro ⟨rfl,rfl⟩
        rcases hc i hi rfl with q | q <;> omega
    · show 0<=gB (b.L.set _ _) (qn b a) x/\_
      have e:gB (b.L.set (qn b i) ((b.L.getD (qn b i) []).set j (ka b (qn b i) j))) (qn b a) x=if qn b a=qn b i/\x=j then ka b (qn b i) j else gB b.L (qn b a) x:=hent _ _
      show 0<=gB (b.L.set (qn b i) ((b.L.getD (qn b i) []).set j (ka b (qn b i) j))) (qn b a) x/\gB (b.L.set (qn b i) ((b.L.getD (qn b i) []).set j (ka b (qn b i) j))) (qn b a) x < W.length/\W.getD (gB (b.L.set (qn b i) ((b.L.getD (qn b i) []).set j (ka b (qn b i) j))) (qn b a) x).toNat []=_
      rw [e]
      by_cases q:qn b a=qn b i/\x=j
      · rw [if_pos q,q.1,q.2];exact ⟨t1,t2,hval⟩
      · rw [if_neg q]
        exact h.done a x ha hx (by
          rcases hc with c | c
          · exact .inl c
          · exact .inr ⟨c.1,by have:¬ x=j:=fun z=>q ⟨by rw [c.1],z⟩;omega⟩)
    · rcases hc with c | c
      · exact h.ch a x ha hx (.inl c) hm
      · by_cases z:x=j
        · obtain ⟨rfl,_⟩:=c;subst z;exact absurd hm hno
        · exact h.ch a x ha hx (.inr ⟨c.1,by omega⟩) hm
    · obtain ⟨a,x,h1,h2,h3,h4⟩:=h.pa c D hc
      exact ⟨a,x,h1,h2,by rcases h3 with c | c;exact .inl c;exact .inr ⟨c.1,by omega⟩,h4⟩
  · -- a node that is met now
    rename_i hpos
    obtain ⟨m1,m2⟩:=t.is (qn b i) j hq hj (by rw [<- hsame];omega)
    rw [<- hsame] at m1 m2
    generalize hm:gB b.L (qn b i) j=z at *
    obtain ⟨m,rfl⟩:∃ m:Nat,z=m:=⟨z.toNat,by omega⟩
    rw [Int.toNat_natCast] at m1 m2 ⊢
    have fresh:∀ c,c < b.Q.length->qn b c ≠ m:=fun c hc ec=>by
      rcases Nat.eq_zero_or_pos c with q | q
      · subst q
        have q0:qn b 0=0:=by unfold qn;rw [h.q0.2];rfl
        rw [q0] at ec;rw [<- ec,t.zero] at m2;simp at m2
      · obtain ⟨a,x,h1,h2,h3,h4⟩:=h.pa c q hc
        rw [ec,m2] at h4
        obtain ⟨e1,e2⟩:=List.append_inj' h4 Z
        have ea:=V a h1 (t.nd _ _ (h.qlt h1) hq e1.symm)
        have ex:x=j:=by simpa using e2.symm
        rcases h3 with c | c <;> omega
    have g1:∀ a,a < b.Q.length->(b.Q ++ [(m:Int)]).getD a 0=b.Q.getD a 0:=fun a ha=>jF ha
    have g2:(b.Q ++ [(m:Int)]).getD b.Q.length 0=m:=by simp
    have n1:∀ a,a < b.Q.length->((b.Q ++ [(m:Int)]).getD a 0).toNat=qn b a:=fun a ha=>by rw [g1 a ha]
    have n2:((b.Q ++ [(m:Int)]).getD b.Q.length 0).toNat=m:=by rw [g2];rfl
    have lw:(W.getD m []).length=(W.getD (qn b i) []).length + 1:=by rw [m2];simp
    have vc:∀ c,c < b.Q.length->(W.getD (qn b c) []).length<=(W.getD (qn b i) []).length + 1:=fun c hc=>by
      rcases Nat.eq_zero_or_pos c with q | q
      · subst q
        have q0:qn b 0=0:=by unfold qn;rw [h.q0.2];rfl
        rw [q0,t.zero];simp
      · obtain ⟨a,x,h1,h2,h3,h4⟩:=h.pa c q hc
        rw [h4,List.length_append,List.length_singleton]
        have:=h.srt a i (by rcases h3 with c | c <;> omega) hi
        omega
    have lt:∀ {a},a < (b.Q ++ [(m:Int)]).length->a < b.Q.length\/a=b.Q.length:=fun {a} ha=>by simp at ha;omega
    refine ⟨⟨h.len.1,by simp [h.len.2.1],by simp [h.len.2.2]⟩,h.row,⟨by simp,by show (b.Q ++ [(m:Int)]).getD 0 0=0;rw [g1 0 h.q0.1];exact h.q0.2⟩,fun a ha=>?_,fun a c ha hc ec=>?_,fun a c hac hc=>?_,fun n x hn hx hc=>?_,fun a x ha hx hc=>?_,fun a x ha hx hc hm'=>?_,fun c D hc=>?_,fun c D hc=>?_,fun c hc=>?_,fun p hp hc=>?_⟩
    · show 0<=(b.Q ++ [(m:Int)]).getD a 0/\(b.Q ++ [(m:Int)]).getD a 0 < W.length
      rcases lt ha with q | q
      · rw [g1 a q];exact h.qr a q
      · rw [q,g2];omega
    · have ec:((b.Q ++ [(m:Int)]).getD a 0).toNat=((b.Q ++ [(m:Int)]).getD c 0).toNat:=ec
      rcases lt ha with q | q
      · rcases lt hc with q2 | q2
        · rw [n1 a q,n1 c q2] at ec;exact h.qd a c q q2 ec
        · rw [n1 a q,q2,n2] at ec;exact absurd ec (fresh a q)
      · rcases lt hc with q2 | q2
        · rw [n1 c q2,q,n2] at ec;exact absurd ec.symm (fresh c q2)
        · omega
    · show (W.getD ((b.Q ++ [(m:Int)]).getD a 0).toNat []).length<=(W.getD ((b.Q ++ [(m:Int)]).getD c 0).toNat []).length
      rcases lt hc with q2 | q2
      · rw [n1 a O,n1 c q2];exact h.srt a c hac q2
      · rw [q2,n2]
        rcases Nat.lt_or_ge a b.Q.length with q | q
        · rw [n1 a q,lw];exact vc a q
        · rw [show a=b.Q.length by omega,n2];exact Nat.le_refl _
    · refine h.same n x hn hx fun a ha ea=>?_
      have:=hc a Oz (by show ((b.Q ++ [(m:Int)]).getD a 0).toNat=n;rw [n1 a ha];exact ea)
      rcases this with q | q
      · exact .inl q
      · exact .inr ⟨q.1,by omega⟩
    · show 0<=gB b.L ((b.Q ++ [(m:Int)]).getD a 0).toNat x/\gB b.L ((b.Q ++ [(m:Int)]).getD a 0).toNat x < W.length/\W.getD (gB b.L ((b.Q ++ [(m:Int)]).getD a 0).toNat x).toNat []=rP W (W.getD ((b.Q ++ [(m:Int)]).getD a 0).toNat [] ++ [x])
      have hal:a < b.Q.length:=by omega
      rw [n1 a hal]
      by_cases q:a=i/\x=j
      · obtain ⟨rfl,rfl⟩:=q
        rw [hm,Int.toNat_natCast,m2,<- m2,Qf (lG m1)]
        exact ⟨by omega,by omega,Z⟩
      · exact h.done a x hal hx (by
          rcases hc with c | c
          · exact .inl c
          · exact .inr ⟨c.1,by have:¬ x=j:=fun z=>q ⟨c.1,z⟩;omega⟩)
    · show ∃ c,c < (b.Q ++ [(m:Int)]).length/\W.getD ((b.Q ++ [(m:Int)]).getD c 0).toNat []=W.getD ((b.Q ++ [(m:Int)]).getD a 0).toNat [] ++ [x]
      have hal:a < b.Q.length:=by omega
      have hm':W.getD ((b.Q ++ [(m:Int)]).getD a 0).toNat [] ++ [x] ∈ W:=hm'
      rw [n1 a hal] at hm' ⊢
      by_cases q:a=i/\x=j
      · obtain ⟨rfl,rfl⟩:=q
        exact ⟨b.Q.length,by simp,by rw [n2];exact m2⟩
      · obtain ⟨c,c1,c2⟩:=h.ch a x hal hx (by
          rcases hc with c | c
          · exact .inl c
          · exact .inr ⟨c.1,by have:¬ x=j:=fun z=>q ⟨c.1,z⟩;omega⟩) hm'
        exact ⟨c,by simp;omega,by rw [n1 c c1];exact c2⟩
    · show ∃ a x,a < (b.Q ++ [(m:Int)]).length/\x < k/\(a < i\/a=i/\x < j + 1)/\W.getD ((b.Q ++ [(m:Int)]).getD c 0).toNat []=W.getD ((b.Q ++ [(m:Int)]).getD a 0).toNat [] ++ [x]
      rcases lt hc with q | q
      · obtain ⟨a,x,h1,h2,h3,h4⟩:=h.pa c D q
        exact ⟨a,x,by simp;omega,h2,by rcases h3 with c | c;exact .inl c;exact .inr ⟨c.1,by omega⟩,by rw [n1 c q,n1 a h1];exact h4⟩
      · exact ⟨i,j,by simp;omega,hj,.inr ⟨Z,by omega⟩,by rw [q,n2,n1 i hi];exact m2⟩
    · show 0<=(b.F.set m (ka b (qn b i) j)).getD ((b.Q ++ [(m:Int)]).getD c 0).toNat 0/\(b.F.set m (ka b (qn b i) j)).getD ((b.Q ++ [(m:Int)]).getD c 0).toNat 0 < W.length/\W.getD ((b.F.set m (ka b (qn b i) j)).getD ((b.Q ++ [(m:Int)]).getD c 0).toNat 0).toNat []=rP W ((W.getD ((b.Q ++ [(m:Int)]).getD c 0).toNat []).drop 1)
      rw [dM (by rw [h.len.2.2];exact m1)]
      rcases lt hc with q | q
      · rw [n1 c q,if_neg (fresh c q)];exact h.fl c D q
      · rw [q,n2,if_pos Z,m2];exact ⟨t1,t2,t3⟩
    · show (b.E.set m (b.E.getD m false || b.E.getD (ka b (qn b i) j).toNat false)).getD ((b.Q ++ [(m:Int)]).getD c 0).toNat false=true ↔ ∃ u ∈ S,u <:+ W.getD ((b.Q ++ [(m:Int)]).getD c 0).toNat []
      rw [dM (by rw [h.len.2.1];exact m1)]
      rcases lt hc with q | q
      · rw [n1 c q,if_neg (fresh c q)];exact h.eq c q
      · rw [q,n2,if_pos Z,Bool.or_eq_true,h.en m m1 fresh]
        obtain ⟨d,d1,d2⟩:=t4
        rw [<- d2,h.eq d d1,d2,t3,<- m2]
        constructor
        · rintro (z | ⟨u,u1,u2⟩)
          · exact ⟨_,z,List.suffix_refl _⟩
          · exact ⟨u,u1,u2.trans (oH.trans (List.drop_suffix _ _))⟩
        · rintro ⟨u,u1,u2⟩
          cases hw:W.getD m [] with
          | nil=>rw [hw] at lw;simp at lw
          | cons a0 w0 =>
            rw [hw] at u2
            rcases qK u2 with z | z
            · exact .inl (z ▸ u1)
            · exact .inr ⟨u,u1,sE (hs u u1) z⟩
    · show (b.E.set m (b.E.getD m false || b.E.getD (ka b (qn b i) j).toNat false)).getD p false=true ↔ _
      have hpm:p ≠ m:=fun z=>hc b.Q.length (by simp) (by show ((b.Q ++ [(m:Int)]).getD b.Q.length 0).toNat=p;rw [n2,z])
      rw [dM (by rw [h.len.2.1];exact m1),if_neg hpm]
      exact h.en p hp fun c hc'=>by have:=hc c Oz;intro z;exact this (by show ((b.Q ++ [(m:Int)]).getD c 0).toNat=p;rw [n1 c hc'];exact z)
theorem BI.start (h:Pk k L0 E0 W S) (hne:[] ∉ S):BI k L0 W S ⟨L0,E0,List.replicate W.length 0,[0]⟩ 0 0:=by
  have hl:=h.tw.len
  have q0:∀ a,a < ([0]:List Int).length->a=0:=fun a ha=>by simpa using ha
  refine ⟨⟨hl.symm,by rw [hl];exact h.ok.len,List.length_replicate⟩,fun s hs=>h.ok.row s O,⟨Nat.zero_lt_one,rfl⟩,fun a ha=>?_,fun a c ha hc _=>?_,fun a c hac hc=>?_,fun n x hn hx _=>rfl,fun a x ha hx hc=>?_,fun a x ha hx hc=>?_,fun c D hc=>?_,fun c D hc=>?_,fun c hc=>?_,fun m hm _=>h.ends m hm⟩
  · rw [q0 a ha];exact ⟨Int.le_refl _,by have:=h.tw.pos;show (0:Int) < W.length;omega⟩
  · rw [q0 a ha,q0 c hc]
  · rw [q0 c hc,q0 a (by have:=q0 c hc;show a < 1;omega)];exact Nat.le_refl _
  · omega
  · omega
  · exact absurd (q0 c hc) O
  · exact absurd (q0 c hc) O
  · rw [q0 c hc]
    show E0.getD 0 false=true ↔ ∃ u ∈ S,u <:+ W.getD 0 []
    rw [h.ends 0 h.tw.pos,h.tw.zero]
    exact ⟨fun z=>absurd z hne,fun ⟨u,u1,u2⟩=>absurd ((List.suffix_nil.1 u2) ▸ u1) hne⟩
theorem BI.next (h:BI k L0 W S b i k) (hi:i < b.Q.length):BI k L0 W S b (i + 1) 0:=by
  have e:∀ {a x},x < k->(a < i + 1\/a=i + 1/\x < 0)->(a < i\/a=i/\x < k):=fun {a x} hx hc=>by omega
  exact ⟨h.len,h.row,h.q0,h.qr,h.qd,h.srt,fun n x hn hx hc=>h.same n x hn hx fun a ha ea=>by have:=hc a ha ea;omega,fun a x ha hx hc=>h.done a x ha hx (e hx hc),fun a x ha hx hc=>h.ch a x ha hx (e hx hc),
    fun c D hc=>by obtain ⟨a,x,h1,h2,h3,h4⟩:=h.pa c D hc;exact ⟨a,x,h1,h2,by omega,h4⟩,h.fl,h.eq,h.en⟩
theorem nZ:∀ (n:Nat) (l:List Nat),l.Nodup->(∀ x ∈ l,x < n)->l.length<=n
  | 0,l,_,h=>by
    cases l with
    | nil=>exact Nat.le_refl _
    | cons a l=>exact absurd (h a List.mem_cons_self) O
  | n + 1,l,hn,h=>by
    have h1:=nZ n (l.erase n) (hn.erase n) (fun x hx=>by
      have h2:=h x (List.mem_of_mem_erase hx)
      have h3:x ≠ n:=by rintro rfl;exact hn.not_mem_erase hx
      omega)
    by_cases hm:n ∈ l
    · rw [List.length_erase_of_mem hm] at h1;omega
    · rw [List.erase_of_not_mem hm] at h1;omega
theorem oM {l:List Nat} {n:Nat} (h1:l.Nodup) (h2:∀ x ∈ l,x < n):l.length<=n:=nZ _ _ h1 h2
theorem BI.qlen (h:BI k L0 W S b i j):b.Q.length<=W.length:=by
  have:=oM (l:=(List.range b.Q.length).map (qn b)) (n:=W.length) ?_ ?_
  · simpa using this
  · rw [List.nodup_iff_pairwise_ne,List.pairwise_map]
    exact List.Pairwise.imp_of_mem (fun {a c} ha hc hac e=>hac (h.qd a c (List.mem_range.1 ha) (List.mem_range.1 hc) e)) List.nodup_range
  · intro x hx
    obtain ⟨a,ha,rfl⟩:=List.mem_map.1 hx
    exact h.qlt (List.mem_range.1 ha)
theorem BI.all (h:BI k L0 W S b i 0) (t:TW k L0 W) (hi:b.Q.length<=i):∀ n p,p < W.length->(W.getD p []).length=n->∃ a,a < b.Q.length/\qn b a=p:=by
  intro n
  induction n with
  | zero =>
    intro p hp hl
    have e:p=0:=t.nd p 0 hp t.pos (by rw [t.zero];exact List.length_eq_zero_iff.1 hl)
    subst e
    exact ⟨0,h.q0.1,by unfold qn;rw [h.q0.2];rfl⟩
  | succ n ih =>
    intro p hp hl
    have D:0 < p:=by
      rcases Nat.eq_zero_or_pos p with q | q
      · subst q;rw [t.zero] at hl;simp at hl
      · exact q
    obtain ⟨m,x,h1,h2,h3⟩:=t.pre p D hp
    obtain ⟨a,ha,ea⟩:=ih m h1 (by rw [h3] at hl;simpa using hl)
    obtain ⟨c,hc,ec⟩:=h.ch a x ha h2 (.inl O) (by rw [ea,<- h3];exact lG hp)
    exact ⟨c,hc,t.nd _ _ (h.qlt hc) hp (by rw [ec,ea,h3])⟩
structure Re (k:Nat) (L:List (List Int)) (E:List Bool) (W S:List (List Nat)):Prop where
  len:L.length=W.length/\E.length=W.length
  row:∀ s,s < W.length->(L.getD s []).length=k
  pos:0 < W.length
  zero:W.getD 0 []=[]
  nd:∀ a b,a < W.length->b < W.length->W.getD a []=W.getD b []->a=b
  prec:Mp W
  sub:∀ w ∈ S,w ∈ W
  to:∀ n x,n < W.length->x < k->0<=gB L n x/\gB L n x < W.length/\W.getD (gB L n x).toNat []=rP W (W.getD n [] ++ [x])
  ends:∀ n,n < W.length->(E.getD n false=true ↔ ∃ u ∈ S,u <:+ W.getD n [])
theorem BI.aho (h:BI k L0 W S b i 0) (t:TW k L0 W) (hs:∀ w ∈ S,w ∈ W) (hi:b.Q.length<=i):Re k b.L b.E W S :=
  ⟨⟨h.len.1,h.len.2.1⟩,h.row,t.pos,t.zero,t.nd,t.prec,hs,fun n x hn hx=>by
    obtain ⟨a,ha,rfl⟩:=h.all t hi _ n hn Z
    exact h.done a x ha hx (.inl O),fun n hn=>by
    obtain ⟨a,ha,rfl⟩:=h.all t hi _ n hn Z
    exact h.eq a ha⟩
end
structure Ir (k:Nat) (acc:List Bool) (L:List (List Int)):Prop where
  sym:1<=k/\k<=400
  len:acc.length=L.length
  num:0 < L.length/\L.length<=20000
  row:∀ s,s < L.length->(L.getD s []).length=k
  val:∀ s x,s < L.length->x < k->-1<=gB L s x/\gB L s x < L.length
end Go.Proofs.YtjppkekmddjcfaaGreatDoor

namespace Go.Proofs.YtjppkekmddjcfaaGreatDoor
open Go Go.RowKit V
set_option maxRecDepth 100000
theorem rd:dT Tryz.prog 62 0=some (3,0):=by kernel_rfl
theorem tx:dT Tryz.prog 62 1=some (3,1):=by kernel_rfl
theorem kF:dT Tryz.prog 62 2=some (59,2):=by kernel_rfl
theorem kG:dT Tryz.prog 62 3=some (60,3):=by kernel_rfl

theorem Lg (k:Nat) (acc:List Bool) (L:List (List Int)) (av nv:Value) (rows:List Value) (A:AH) (hok:Ir k acc L) (hav:bH A 1 av (cg acc)) (hnv:bH A 1 nv (d6 rows)) (hrl:rows.length=L.length) (hF:∀ i,i < L.length->bH A 1 (rows.getD i undef) (cI (L.getD i []))):bF Tryz.prog 116 #[.agg #[num ((k:Nat):Int),num ((0:Nat):Int),av,nv]] A (fun v A1=>v=num ((0:Nat):Int)/\A.le A1/\A1.wf):=by
 refine gw Tryz.call116 Tryz.func116 Z Tryz.results116 Tryz.ntmps116 Z (fun wf=>?_);have b8:=AH.le.refl A;obtain ⟨⟨bY,c3⟩,hal,⟨bU,bV⟩,hrow,hval⟩:=hok;refine an.seq fun _ h2=>.region<|.l Z (fun _ _ b5 _=>dy wf rfl rfl fun A5 b4 h=>?_);have D:=b8.trans h.le;refine b5 _ _<|.q Z (ae Z)<|.nil<|h2 _ _<|.seq fun _ h9=>.region<|.q Z (aj kF ie U Z)<|.q Z (ak ib Z Z h.get Z)<|.q Z (bE (n:=acc.length) kW Z (hav.le D) O (eP _))<|.q Z (ae Z) ?_;refine Ops.nil<|h9 _ _<|.seq fun _ ag=>.seq fun _ a1=>.region<|.q Z (aj rd c0 U Z)<|.q Z (ak eB Z Z h.get Z)<|.q Z (ca (b:=1) Z Z)<|.q Z (ah Z)<|.part (t:=14) Z (fun b9=>?_) (fun b9=>?_)
 ·refine Ops.off Z Z Z Z<|.off Z Z Z Z<|.off Z Z Z Z<|.q Z (aL Z Z)<|.q Z (ah Z)<|.off Z Z Z Z<|.off Z Z Z Z<|.q Z (aL Z Z)<|.q Z (ah Z)<|.off Z Z Z Z ?_;refine Ops.off Z Z Z Z<|.off Z Z Z Z<|.off Z Z Z Z<|.off Z Z Z Z<|.q Z (aL Z Z)<|.q Z (ah Z)<|.off Z Z Z Z<|.off Z Z Z Z<|.off Z Z Z Z<|.q Z (aL Z Z) ?_;refine Ops.q Z (ah Z)<|.off Z Z Z Z<|.off Z Z Z Z<|.off Z Z Z Z<|.off Z Z Z Z<|.off Z Z Z Z<|.q Z (aL Z Z)<|.nil<|a1 _ _<|.cond_true Z ?_;refine an.seq fun _ ai=>.region<|.q Z (ae Z)<|.nil<|ai _ _<|.rt (by exact aK Z (⟨by first | rfl | (exfalso;omega) | (exfalso;have:=hro O;omega) | (exfalso;have:=hva O;simp only [gB] at this;omega),D,h.wf⟩))
 refine Ops.on Z Z<|.q Z (aj rd c0 U Z)<|.on Z Z<|.q Z (ak eB Z Z h.get Z)<|.on Z Z<|.q Z (ef (b:=400) Z Z)<|.q Z (aW Z Z)<|.q Z (ah Z)<|.part (t:=19) Z (fun ba=>?_) (fun ba=>?_)
 ·refine Ops.off Z Z Z Z<|.off Z Z Z Z<|.q Z (aL Z Z)<|.q Z (ah Z)<|.off Z Z Z Z<|.off Z Z Z Z<|.off Z Z Z Z<|.off Z Z Z Z<|.off Z Z Z Z<|.q Z (aL Z Z) ?_;refine Ops.q Z (ah Z)<|.off Z Z Z Z<|.off Z Z Z Z<|.off Z Z Z Z<|.q Z (aL Z Z)<|.q Z (ah Z)<|.off Z Z Z Z<|.off Z Z Z Z<|.off Z Z Z Z<|.off Z Z Z Z ?_;refine Ops.off Z Z Z Z<|.q Z (aL Z Z)<|.nil<|a1 _ _<|.cond_true Z<|.seq fun _ ap=>.region<|.q Z (ae Z)<|.nil<|ap _ _ ?_;refine an.ret ?_;repeat first | with_reducible refine bJ ?_ | with_reducible refine bx ?_
  exact aK Z (⟨by first | rfl | (exfalso;omega) | (exfalso;have:=hro O;omega) | (exfalso;have:=hva O;simp only [gB] at this;omega),D,h.wf⟩)
 refine Ops.on Z Z<|.q Z (ah Z)<|.on Z Z<|.q Z (ef (b:=20000) Z Z)<|.q Z (aW Z Z)<|.q Z (ah Z)<|.part (t:=23) Z (fun bb=>?_) (fun bb=>?_)
 ·refine Ops.off Z Z Z Z<|.off Z Z Z Z<|.off Z Z Z Z<|.off Z Z Z Z<|.off Z Z Z Z<|.q Z (aL Z Z)<|.q Z (ah Z)<|.off Z Z Z Z<|.off Z Z Z Z<|.off Z Z Z Z ?_;refine Ops.q Z (aL Z Z)<|.q Z (ah Z)<|.off Z Z Z Z<|.off Z Z Z Z<|.off Z Z Z Z<|.off Z Z Z Z<|.off Z Z Z Z<|.q Z (aL Z Z)<|.nil<|a1 _ _ ?_;refine an.cond_true Z<|.seq fun _ ar=>.region<|.q Z (ae Z)<|.nil<|ar _ _<|.rt (by exact aK Z (⟨by first | rfl | (exfalso;omega) | (exfalso;have:=hro O;omega) | (exfalso;have:=hva O;simp only [gB] at this;omega),D,h.wf⟩))
 refine Ops.on Z Z<|.q Z (aj kG iy U Z)<|.on Z Z<|.q Z (ak jC Z Z h.get Z)<|.on Z Z<|.q Z (bE (n:=rows.length) mZ Z (hnv.le D) O (ir _))<|.on Z Z<|.q Z (ah Z)<|.on Z Z<|.q Z (eI Z Z) ?_;refine Ops.q Z (aW Z Z)<|.q Z (ah Z)<|.part (t:=30) Z (fun bc=>?_) (fun bc=>?_)
 ·refine Ops.off Z Z Z Z<|.off Z Z Z Z<|.off Z Z Z Z<|.q Z (aL Z Z)<|.q Z (ah Z)<|.off Z Z Z Z<|.off Z Z Z Z<|.off Z Z Z Z<|.off Z Z Z Z<|.off Z Z Z Z ?_;refine Ops.q Z (aL Z Z)<|.nil<|a1 _ _<|.cond_true Z<|.seq fun _ ay=>.region<|.q Z (ae Z)<|.nil<|ay _ _<|.rt (by exact aK Z (⟨by first | rfl | (exfalso;omega) | (exfalso;have:=hro O;omega) | (exfalso;have:=hva O;simp only [gB] at this;omega),D,h.wf⟩))
 refine Ops.on Z Z<|.q Z (aj tx c0 U Z)<|.on Z Z<|.q Z (ak eB Z Z h.get Z)<|.on Z Z<|.q Z (ca (a:=0) (b:=0) Z Z)<|.q Z (aW Z Z)<|.q Z (ah Z)<|.part (t:=35) Z (fun bd=>?_) (fun bd=>?_)
 ·refine Ops.off Z Z Z Z<|.off Z Z Z Z<|.off Z Z Z Z<|.off Z Z Z Z<|.off Z Z Z Z<|.q Z (aL Z Z)<|.nil<|a1 _ _<|.cond_true Z<|.seq fun _ az=>?_;refine an.region<|.q Z (ae Z)<|.nil<|az _ _<|.rt (by exact aK Z (⟨by first | rfl | (exfalso;omega) | (exfalso;have:=hro O;omega) | (exfalso;have:=hva O;simp only [gB] at this;omega),D,h.wf⟩))
 refine Ops.on Z Z<|.q Z (aj tx c0 U Z)<|.on Z Z<|.q Z (ak eB Z Z h.get Z)<|.on Z Z<|.q Z (ah Z)<|.on Z Z<|.q Z (RH Z Z)<|.on Z Z<|.q Z (tQ (a:=0) Z Z) ?_;refine Ops.q Z (aW Z Z)<|.nil<|a1 _ _<|.if rfl (fun bl=>?_) (fun bl=>?_)
 ·refine an.seq fun _ aA=>.region<|.q Z (ae Z)<|.nil<|aA _ _<|.rt (by exact aK Z (⟨by first | rfl | (exfalso;omega) | (exfalso;have:=hro O;omega) | (exfalso;have:=hva O;simp only [gB] at this;omega),D,h.wf⟩))
 refine an.skip<|ag _ _<|.seq fun _ aB=>.seq fun _ aC=>.region<|.q Z (aj kG iy U Z)<|.q Z (ak jC Z Z h.get Z)<|.q Z (bE (n:=rows.length) mZ Z (hnv.le D) O (ir _))<|.q Z (ah Z)<|.nil ?_;refine aC _ _<|.block<|.loop (X:=Nat) (fun i=>[(1,.pointer (some ⟨b4,0,none⟩)),(3,num ((acc.length:Nat):Int)),(43,nv),(44,num ((rows.length:Nat):Int)),(45,num ((i:Nat):Int))]) (fun i B=>(i<=L.length)/\A.le B/\B.get b4=some (.row true [num ((k:Nat):Int),num ((0:Nat):Int),av,nv] 4)) (fun i=>L.length - i) 0 (pd Z Z Z Z Z) (⟨(Nat.zero_le _),D,h.get⟩) ?_;rintro i B37 ⟨hi,V,a2⟩;refine an.wf fun a5=>?_;have hro:=fun q:i < L.length=>hrow i q;refine an.seq fun _ aD=>.region<|.q Z (ca Z Z)<|.nil<|aD _ _<|.seq fun _ aF=>.if rfl (fun bm=>?_) (fun bm=>?_)
 ·refine an.skip<|aF _ _<|.seq fun _ aG=>.block<|.seq fun _ aI=>.region ?_;obtain ⟨bP,bS,bM,ck,bD,cc,c4,aa,b6,ac,bA,a8⟩:=bH.at (i:=i) (hnv.le V) On O;refine Ops.q Z (aE mZ fj Z aa Z b6)<|.q Z (ak kY Z Z ac ((cN a8).trans (eo O)))<|.q Z (ae Z)<|.nil<|aI _ _<|.seq fun _ aP=>.seq fun _ aR=>.region<|.q Z (ah Z)<|.q Z (bE (n:=((L.getD i [])).length) d9 Z ((hF i O).le V) O (ee _)) ?_;refine Ops.q Z (aj rd c0 U Z)<|.q Z (ak eB Z Z a2 Z)<|.q Z (eI Z Z)<|.nil<|aR _ _<|.if rfl (fun bp=>?_) (fun bp=>?_)
  ·refine an.seq fun _ aS=>.region<|.q Z (ae Z)<|.nil<|aS _ _<|.rt (by exact aK Z (⟨by first | rfl | (exfalso;omega) | (exfalso;have:=hro O;omega) | (exfalso;have:=hva O;simp only [gB] at this;omega),V,a5⟩))
  refine an.skip<|aP _ _<|.seq fun _ aT=>.region<|.q Z (ah Z)<|.q Z (bE (n:=((L.getD i [])).length) d9 Z ((hF i O).le V) O (ee _))<|.q Z (ah Z)<|.nil<|aT _ _<|.block ?_;refine an.loop (X:=Nat) (fun j=>[(1,.pointer (some ⟨b4,0,none⟩)),(3,num ((acc.length:Nat):Int)),(43,nv),(44,num ((rows.length:Nat):Int)),(45,num ((i:Nat):Int)),(54,rows.getD i undef),(55,num ((((L.getD i [])).length:Nat):Int)),(56,num ((j:Nat):Int))]) (fun j B=>(j<=k/\i < L.length)/\A.le B/\B.get b4=some (.row true [num ((k:Nat):Int),num ((0:Nat):Int),av,nv] 4)) (fun j=>k - j) 0 (wJ Z Z Z Z Z Z Z Z) (⟨⟨Nat.zero_le _,by omega⟩,V,a2⟩) ?_;rintro j B59 ⟨⟨hj,a4⟩,a0,a3⟩;refine an.wf fun a6=>?_;have bC:=hrow i a4;have hva:=fun q:j < k=>hval i j a4 q;refine an.seq fun _ aV=>.region<|.q Z (ca Z Z)<|.nil<|aV _ _<|.seq fun _ aY=>.if rfl (fun br=>?_) (fun br=>?_)
  ·refine an.skip<|aY _ _<|.seq fun _ aZ=>.block<|.seq fun _ b0=>.region ?_;obtain ⟨bR,bT,bO,cv,bL,ch,c7,ab,b7,ad,bB,a9⟩:=bH.at (i:=j) ((hF i O).le a0) Of O;refine Ops.q Z (aE d9 c0 Z ab Z b7)<|.q Z (ak eB Z Z ad ((cN a9).trans (cW O)))<|.q Z (ae Z)<|.nil<|b0 _ _<|.seq fun _ a7=>.region<|.q Z (ah Z)<|.q Z (kO Z Z)<|.q Z (ah Z) ?_;refine Ops.part (t:=62) Z (fun bu=>?_) (fun bu=>?_)
   ·refine Ops.off Z Z Z Z<|.off Z Z Z Z<|.off Z Z Z Z<|.q Z (aL Z Z)<|.nil<|a7 _ _<|.cond_true Z<|.seq fun _ b1=>.region<|.q Z (ae Z) ?_;refine Ops.nil<|b1 _ _<|.rt (by exact aK Z (⟨by first | rfl | (exfalso;omega) | (exfalso;have:=hro O;omega) | (exfalso;have:=hva O;simp only [gB] at this;omega),a0,a6⟩))
   refine Ops.on Z Z<|.q Z (ah Z)<|.on Z Z<|.q Z (ah Z)<|.on Z Z<|.q Z (k8 Z Z)<|.q Z (aW Z Z)<|.nil<|a7 _ _<|.if rfl (fun bv=>?_) (fun bv=>?_)
   ·refine an.seq fun _ b2=>.region<|.q Z (ae Z)<|.nil<|b2 _ _<|.rt (by exact aK Z (⟨by first | rfl | (exfalso;omega) | (exfalso;have:=hro O;omega) | (exfalso;have:=hva O;simp only [gB] at this;omega),a0,a6⟩))
   refine an.skip<|aZ _ _<|.region<|.q Z (bz (b:=1) Z Z O)<|.q Z (ah Z)<|.nil ?_;exact ⟨j + 1,wJ Z Z Z Z Z Z Z Z,Z,⟨⟨by omega,a4⟩,a0,a3⟩,O1⟩
  refine an.exit<|aG _ _<|.region<|.q Z (bz (b:=1) Z Z O)<|.q Z (ah Z)<|.nil ?_;exact ⟨i + 1,pd Z Z Z Z Z,Z,⟨O,a0,a3⟩,O1⟩
 refine an.exit<|aB _ _<|.seq fun _ b3=>.region<|.q Z (ae Z)<|.nil<|b3 _ _<|.rt (by exact aK Z (⟨by first | rfl | (exfalso;omega) | (exfalso;have:=hro O;omega) | (exfalso;have:=hva O;simp only [gB] at this;omega),V,a5⟩))

theorem Lj (k:Nat) (acc:List Bool) (L:List (List Int)) (av nv:Value) (rows:List Value) (A:AH) (hok:Ir k acc L) (hav:bH A 1 av (cg acc)) (hnv:bH A 1 nv (d6 rows)) (hrl:rows.length=L.length) (hF:∀ i,i < L.length->bH A 1 (rows.getD i undef) (cI (L.getD i []))):bF Tryz.prog 149 #[.agg #[num ((k:Nat):Int),num ((0:Nat):Int),av,nv]] A (fun v A1=>v=num ((0:Nat):Int)/\A.le A1/\A1.wf):=by
 refine gw Tryz.call149 Tryz.func149 Z Tryz.results149 Tryz.ntmps149 Z (fun wf=>?_);have a2:=AH.le.refl A;obtain ⟨⟨a6,a7⟩,hal,⟨a4,a5⟩,hrow,hval⟩:=hok;refine an.seq fun _ h2=>.region<|.l Z (fun _ _ a1 _=>dy wf rfl rfl fun A5 b4 h=>?_);have D:=a2.trans h.le;refine a1 _ _<|.q Z (ae Z)<|.nil<|h2 _ _<|.seq fun _ h9=>.seq fun _ V=>.region<|.q Z (aj kF ie U Z)<|.q Z (ak ib Z Z h.get Z)<|.q Z (bE (n:=acc.length) kW Z (hav.le D) O (eP _)) ?_;refine Ops.q Z (kb (b:=0) Z Z)<|.nil<|V _ _<|.if rfl (fun a3=>?_) (fun a3=>?_)
 ·refine an.seq fun _ X=>.region<|.q Z (ae Z)<|.nil<|X _ _<|.rt (by exact aK Z (⟨by first | rfl | (exfalso;omega),D,h.wf⟩))
 refine an.skip<|h9 _ _<|.seq fun _ a0=>.region<|.q Z (aj tx c0 U Z)<|.q Z (ak eB Z Z h.get Z)<|.q Z (ae Z)<|.nil<|a0 _ _<|.rt (by exact aK Z (⟨by first | rfl | (exfalso;omega),D,h.wf⟩))

theorem Li (k:Nat) (acc:List Bool) (L:List (List Int)) (av nv:Value) (rows:List Value) (s:Int) (c:Nat) (A:AH) (hok:Ir k acc L) (hav:bH A 1 av (cg acc)) (hnv:bH A 1 nv (d6 rows)) (hrl:rows.length=L.length) (hF:∀ i,i < L.length->bH A 1 (rows.getD i undef) (cI (L.getD i []))) (hs:s < L.length) (hc:c < k):bF Tryz.prog 151 #[.agg #[num ((k:Nat):Int),num ((0:Nat):Int),av,nv],num (s),num ((c:Nat):Int)] A (fun v A1=>v=num (if s < 0 then -1 else gB L s.toNat c)/\A.le A1/\A1.wf):=by
 refine tm Tryz.call151 Tryz.func151 Z Tryz.results151 Tryz.ntmps151 Z (fun wf=>?_);have aa:=AH.le.refl A;obtain ⟨⟨aF,aG⟩,hal,⟨aC,aD⟩,hrow,hval⟩:=hok;have hro:=fun q:0<=s=>hrow s.toNat O;refine an.seq fun _ h2=>.region<|.l Z (fun _ _ a7 _=>dy wf rfl rfl fun A5 b4 D=>?_);have h:=aa.trans D.le;refine a7 _ _<|.q Z (ae Z)<|.nil<|h2 _ _<|.seq fun _ h9=>.seq fun _ a4=>.region<|.q Z (ah Z)<|.q Z (kO Z Z)<|.nil ?_;refine a4 _ _<|.if rfl (fun ab=>?_) (fun ab=>?_)
 ·refine an.seq fun _ a5=>.region<|.q Z (ae Z)<|.nil<|a5 _ _<|.rt (by exact aK Z (⟨by first | (rw [if_pos ‹_›];rfl) | (rw [if_neg ‹_›];rfl),h,D.wf⟩))
 refine an.skip<|h9 _ _<|.seq fun _ a6=>.region<|.q Z (aj kG iy U Z)<|.q Z (ak jC Z Z D.get Z)<|.q Z (ah Z) ?_;obtain ⟨ay,aA,ap,aT,ag,aR,aI,a0,a8,a2,ac,V⟩:=bH.at (i:=(s).toNat) (hnv.le h) On O;refine Ops.q Z (aE mZ fj Z a0 (iJ O) a8)<|.q Z (ak kY Z Z a2 ((cN V).trans (eo O)))<|.q Z (ah Z) ?_;obtain ⟨az,aB,ar,aV,ai,aS,aP,a1,a9,a3,ad,X⟩:=bH.at (i:=c) ((hF ((s).toNat) O).le h) (by simp only [aH];have:=hro O;omega) O;refine Ops.q Z (aE d9 c0 Z a1 Z a9)<|.q Z (ak eB Z Z a3 ((cN X).trans (cW (by have:=hro O;omega))))<|.q Z (ae Z)<|.nil<|a6 _ _<|.rt (by exact aK Z (⟨by first | (rw [if_pos ‹_›];rfl) | (rw [if_neg ‹_›];rfl),h,D.wf⟩))
end Go.Proofs.YtjppkekmddjcfaaGreatDoor

namespace Go.Proofs.YtjppkekmddjcfaaGreatDoor
open Go Go.RowKit V
def ux (k:Nat) (ws:List Wd):List (List Int) × List Bool:=ws.foldl (fun t w=>(uQ k t.1 t.2 w,uO k t.1 t.2 w)) ([Ah k],[false])
def Rm (k:Nat) (b:BS) (i:Nat):BS:=(List.range k).foldl (tc (qn b i)) b
def Rl (k:Nat):Nat->Nat->BS->BS
  | 0,_,b=>b
  | f + 1,i,b=>if i < b.Q.length then Rl k f (i + 1) (Rm k b i) else b
def An (k:Nat) (ws:List Wd):BS:=Rl k ((ux k ws).1.length + 1) 0 ⟨(ux k ws).1,(ux k ws).2,List.replicate (ux k ws).1.length 0,[0]⟩
def ei (E:List Bool) (r:List Int):List Int:=r.map fun m=>if E.getD m.toNat false then -1 else m
def Mr (k:Nat) (ws:List Wd):List Bool:=(An k ws).E.map fun e=>!e
def Ms (k:Nat) (ws:List Wd):List (List Int):=(An k ws).L.map (ei (An k ws).E)
def fU (step:Int->Nat->Option Int) (q:Int) (st:List Int × List Int) (c:Nat):List Int × List Int :=
  match step q c with
  | none=>(st.1 ++ [-1],st.2)
  | some t=>if t ∈ st.2 then (st.1 ++ [(st.2.idxOf t:Int)],st.2) else (st.1 ++ [(st.2.length:Int)],st.2 ++ [t])
def Ji (k:Nat) (step:Int->Nat->Option Int) (q:Int) (Q:List Int):List Int × List Int:=(List.range k).foldl (fU step q) ([],Q)
def fu (k:Nat) (step:Int->Nat->Option Int):Nat->Nat->List Int->List (List Int)->List Int × List (List Int)
  | 0,_,Q,R=>(Q,R)
  | f + 1,i,Q,R=>if i < Q.length then fu k step f (i + 1) (Ji k step (Q.getD i 0) Q).2 (R ++ [(Ji k step (Q.getD i 0) Q).1]) else (Q,R)
def mJ (L:List (List Int)) (s:Int) (c:Nat):Option Int:=some (if s < 0 then -1 else gB L s.toNat c)
def gv (k:Nat) (L:List (List Int)):List Int × List (List Int):=fu k (mJ L) (L.length + 2) 0 [0] []
def uD (k:Nat) (acc:List Bool) (L:List (List Int)):List Bool:=(gv k L).1.map fun s=>decide (0<=s) && acc.getD s.toNat false
def ny (B:List (List Int)) (s m:Int):List (List Int):=if 0<=m then B.set m.toNat (B.getD m.toNat [] ++ [s]) else B
def i5 (N:List (List Int)) (B:List (List Int)) (s:Nat):List (List Int):=(N.getD s []).foldl (fun B m=>ny B s m) B
def dl (N:List (List Int)):List (List Int):=(List.range N.length).foldl (i5 N) (List.replicate N.length [])
def io (Q:List Int) (p:Int):List Int:=if p ∈ Q then Q else Q ++ [p]
def jb (B:List (List Int)):Nat->Nat->List Int->List Int
  | 0,_,Q=>Q
  | f + 1,i,Q=>if i < Q.length then jb B f (i + 1) ((B.getD (Q.getD i 0).toNat []).foldl io Q) else Q
def o6 (acc:List Bool) (i:Nat):List Int:=((List.range i).filter fun s=>acc.getD s false).map fun (s:Nat)=>(s:Int)
def fH (acc:List Bool) (N:List (List Int)):List Int:=jb (dl N) (N.length + 1) 0 (o6 acc acc.length)
def im (acc:List Bool) (N:List (List Int)):List Bool:=(List.range acc.length).map fun (s:Nat)=>decide ((s:Int) ∈ fH acc N)
end Go.Proofs.YtjppkekmddjcfaaGreatDoor

namespace Go.Proofs.YtjppkekmddjcfaaGreatDoor
open Go Go.RowKit V
def DF (Q:List Int):List (Int × Value):=Q.zipIdx.map fun p=>(p.1,num ((p.2:Nat):Int))
theorem tN (Q:List Int):(DF Q).map (·.1)=Q:=by
  simp [DF,List.map_map,Function.comp_def]
theorem Ka (Q:List Int) (t:Int):DF (Q ++ [t])=DF Q ++ [(t,num ((Q.length:Nat):Int))]:=by simp [DF,List.zipIdx_append]
theorem FY {Q:List Int} {t:Int} (h:t ∉ Q):lk (DF Q) t=none:=xe.2 (by rw [tN];exact h)
theorem Nh:∀ (Q:List Int) (n:Nat) (t:Int),t ∈ Q->lk ((Q.zipIdx n).map fun p=>(p.1,num ((p.2:Nat):Int))) t=some (num (((n + Q.idxOf t:Nat)):Int)):=by
  intro Q
  induction Q with
  | nil=>intro n t h;cases h
  | cons a Q ih =>
    intro n t h
    by_cases q:a=t
    · subst q;simp [lk]
    · have h2:t ∈ Q:=by rcases List.mem_cons.1 h with z | z;exact absurd z.symm q;exact z
      have:=ih (n + 1) t h2
      simp only [List.zipIdx_cons,List.map_cons]
      rw [List.idxOf_cons,beq_eq_false_iff_ne.2 q,cond_false]
      simp only [lk,List.find?_cons,decide_eq_false q] at this ⊢
      rw [this]
      congr 3;omega
theorem J9 {Q:List Int} {t:Int} (h:t ∈ Q):lk (DF Q) t=some (num ((Q.idxOf t:Nat):Int)):=by
  have:=Nh Q 0 t h
  rwa [Nat.zero_add] at this
theorem NX {Q:List Int} {t:Int} (h:t ∉ Q):wj (DF Q) t (num ((Q.length:Nat):Int))=DF (Q ++ [t]):=by
  rw [sM (by rw [tN];exact h),Ka]
section
variable {α:Type} [DecidableEq α] {kd:TypeDesc} {enc:α->Value} {P:Program} {e:ga} {A:AH} {x y z:Operand} {t kt et:TypeId} {ty:TypeId} {ps:String} {af:Array Edge} {dst:Option Nat} {Q:Value->AH->Prop} {Kp:List PanicEntry->AH->Prop} {g:Option (Nat × Bool)} {m clock:Nat} {es:Array MapEntry} {E:List (α × Value)} {k:α} {v:Value}
theorem O7 (K:pU kd enc) (wf:A.wf) (hx:bX e x=some (.map (some m))) (hy:bX e y=some (enc k)) (hz:bX e z=some v) (hu:P.underlying t=some (.map kt et)) (hk:P.underlying kt=some kd) (hg:A.get m=some (.obj true (.map es clock))) (hE:dh enc es E) (hn:(E.map (·.1)).Nodup)
    (h:∀ A1 es1 ck,se A A1 m (.obj true (.map es1 ck))->dh enc es1 (wj E k v)->Q undef A1):j5 P e A { dst:=dst,op:=.insert t x y z,type:=ty,pos:=ps,after:=af,guard:=g } Q Kp :=
  m4 (dst:=dst) (ty:=ty) (ps:=ps) (af:=af) (g:=g) (Kp:=Kp) K wf hx hy hz hu hk hg hE hn h
end
theorem kJ {b:Nat}:dA [] b:=fun _ h=>by cases h
theorem Ma {P:Program} {e:ga} {A:AH} {x y:Operand} {t kt et:TypeId} {ty:TypeId} {ps:String} {af:Array Edge} {dst:Option Nat} {Q:Value->AH->Prop} {Kp:List PanicEntry->AH->Prop} {g:Option (Nat × Bool)} {m clock:Nat} {es:Array MapEntry} {rw:Bool} {L:List Int} {k:Int}
    (hx:bX e x=some (.map (some m))) (hy:bX e y=some (num k)) (hu:P.underlying t=some (.map kt et)) (hk:P.underlying kt=some (.int .i64)) (hz:cx P et=some (num 0)) (hg:A.get m=some (.obj rw (.map es clock))) (hE:dh num es (DF L))
    (h1:k ∈ L->Q (.tuple #[num ((L.idxOf k:Nat):Int),.bool true]) A) (h2:k ∉ L->Q (.tuple #[num 0,.bool false]) A):j5 P e A { dst:=dst,op:=.lookup t x y true,type:=ty,pos:=ps,after:=af,guard:=g } Q Kp:=by
  refine uF rk hx hy hu hk hz hg hE (fun v hv=>?_) (fun hn=>?_)
  · by_cases q:k ∈ L
    · rw [J9 q] at hv;cases hv;exact h1 q
    · rw [FY q] at hv;cases hv
  · exact h2 fun q=>by rw [J9 q] at hn;cases hn
theorem zb {o:Option Int} (h:(!o.isSome)=true):o=none:=by cases o <;> simp_all
theorem jS {o:Option Int} (h:(!o.isSome)=false):o=some (o.getD 0):=by cases o <;> simp_all
theorem n0 {Q:List Int} {t:Int} (h:Q.Nodup) (ht:t ∉ Q):(Q ++ [t]).Nodup:=List.nodup_append.2 ⟨h,by simp,by intro a ha b hb;simp at hb;subst hb;exact fun e=>ht (e ▸ ha)⟩
theorem oL {Q:List Int} {t:Int} {D:Int->Prop} (h:∀ q ∈ Q,D q) (ht:D t):∀ q ∈ Q ++ [t],D q:=fun q hq=>by
  rcases List.mem_append.1 hq with z | z
  · exact h q z
  · rw [List.mem_singleton] at z;subst z;exact ht
theorem tP {Q Q1:List Int} (h:Q <+: Q1) {i:Nat} (hi:i < Q.length):Q1.getD i 0=Q.getD i 0:=by obtain ⟨t,rfl⟩:=h;exact jF hi
theorem Kb {Q Q1:List Int} (h:Q <+: Q1) {i:Nat} (hi:i<=Q.length):Q1.take i=Q.take i:=by obtain ⟨t,rfl⟩:=h;rw [List.take_append_of_le_length hi]
theorem px {N:Nat} {Q:List Int} (hn:Q.Nodup) (hQ:∀ q ∈ Q,-1<=q/\q < (N:Int)):Q.length<=N + 1:=by
  have:=nZ (N + 1) (Q.map fun q=>(q + 1).toNat) ?_ ?_
  · simpa using this
  · rw [List.nodup_iff_pairwise_ne,List.pairwise_map]
    exact List.Pairwise.imp_of_mem (fun {a b} ha hb hab e=>hab (by have:=hQ a ha;have:=hQ b hb;omega)) hn
  · intro x hx
    obtain ⟨q,hq,rfl⟩:=List.mem_map.1 hx
    have:=hQ q hq;omega
section
variable {k c:Nat} {step:Int->Nat->Option Int} {q:Int} {Q Q1 r:List Int}
def EO (step:Int->Nat->Option Int) (q:Int) (Q:List Int) (c:Nat):List Int × List Int:=(List.range c).foldl (fU step q) ([],Q)
theorem tq:EO step q Q (c + 1)=fU step q (EO step q Q c) c:=by simp [EO,List.range_succ]
theorem Jh (h:EO step q Q c=(r,Q1)) (hs:step q c=none):EO step q Q (c + 1)=(r ++ [-1],Q1):=by rw [tq,h,fU,hs]
theorem MZ {t:Int} (h:EO step q Q c=(r,Q1)) (hs:step q c=some t) (ht:t ∈ Q1):EO step q Q (c + 1)=(r ++ [(Q1.idxOf t:Int)],Q1):=by
  rw [tq,h,fU,hs];simp only;rw [if_pos ht]
theorem wK {t:Int} (h:EO step q Q c=(r,Q1)) (hs:step q c=some t) (ht:t ∉ Q1):EO step q Q (c + 1)=(r ++ [(Q1.length:Int)],Q1 ++ [t]):=by
  rw [tq,h,fU,hs];simp only;rw [if_neg ht]
theorem wN {r:List Int} {k:Nat} {v:Int} (h:r.length < k):(r ++ List.replicate (k - r.length) 0).set r.length v=(r ++ [v]) ++ List.replicate (k - (r.length + 1)) 0:=by
  rw [List.set_append_right _ _ (Nat.le_refl _),Nat.sub_self,show k - r.length=(k - (r.length + 1)) + 1 by omega,List.replicate_succ,List.set_cons_zero]
  simp
theorem qc {r:List Int} {k:Nat} {v w:Int} (h:r.length < k):((r ++ List.replicate (k - r.length) 0).set r.length v).set r.length w=(r ++ [w]) ++ List.replicate (k - (r.length + 1)) 0:=by
  rw [List.set_set];exact wN h
end
theorem tp {k f i:Nat} {step:Int->Nat->Option Int} {Q:List Int} {R:List (List Int)} (hf:0 < f) (hi:Q.length<=i):fu k step f i Q R=(Q,R):=by
  obtain ⟨f,rfl⟩:∃ g,f=g + 1:=⟨f - 1,by omega⟩
  rw [fu,if_neg O]
theorem yD {k f i:Nat} {step:Int->Nat->Option Int} {Q:List Int} {R:List (List Int)} {X:List Int × List (List Int)} (hf:0 < f) (hi:i < Q.length) (h:fu k step f i Q R=X) {r Q1:List Int} (e:EO step (Q.getD i 0) Q k=(r,Q1)):fu k step (f - 1) (i + 1) Q1 (R ++ [r])=X:=by
  obtain ⟨f,rfl⟩:∃ g,f=g + 1:=⟨f - 1,by omega⟩
  rw [<- h,fu,if_pos hi]
  show _=fu k step f (i + 1) (EO step (Q.getD i 0) Q k).2 (R ++ [(EO step (Q.getD i 0) Q k).1])
  rw [e];rfl
end Go.Proofs.YtjppkekmddjcfaaGreatDoor

namespace Go.Proofs.YtjppkekmddjcfaaGreatDoor
open Go Go.RowKit
namespace V
inductive OT where
  | done:OT
  | one (i:Nat) (t:OT):OT
  | two (i j:Nat) (t u:OT):OT
def OT.len:OT->Nat
  | .done=>0
  | .one _ t=>t.len + 1
  | .two _ _ t _=>t.len + 1
def kB (ops:Array Oper):Array Bool->OT->Bool
  | listed,.done=>(Region.ready .any ops listed).isEmpty
  | listed,.one i C=>match ops[i]? with
    | none=>false
    | some o =>
      if c9 o.op then (Region.ready .any ops listed).contains i && Region.free .any ops listed i && kB ops (listed.setIfInBounds i true) C
      else (Region.ready .any ops listed == [i]) && kB ops (listed.setIfInBounds i true) C
  | listed,.two i j C D=>(Region.ready .any ops listed == [i,j]) && kB ops (listed.setIfInBounds i true) C && kB ops (listed.setIfInBounds j true) D && (C.len == D.len)
section
variable {P:Program} {nt:Nat} {ops:Array Oper} {Q:Exit->Fr->AH->Prop} {f:Fr} {A:AH}
def cG (P:Program) (nt:Nat) (ops:Array Oper) (Q:Exit->Fr->AH->Prop) (listed:Array Bool) (held:List (Nat × em)) (C:OT) (f:Fr) (A:AH):Prop :=
  kB ops listed C=true->Region.noSelect ops=true->∀ a w,cT nt f a->cq A w->dB ops held listed w->j6 ops listed ->
    ∀ (A₀:AH) (w₀:World),ej A₀ w₀ A w->ep P ops (dC nt Q A₀ w₀) (dB ops held) C.len listed a w
theorem cG.quiet {listed:Array Bool} {held:List (Nat × em)} {i:Nat} {C:OT} {o:Oper} {v:Value} {T:em} (ho:ops[i]? = some o) (hq:c9 o.op=true) (hd:∀ t,o.dst=some t->t < nt)
    (hv:∀ a w,cT nt f a->cq A w->eH T w/\YieldsIf P ops (eH T) o v a)
    (h:cG P nt ops Q (listed.setIfInBounds i true) ((i,T) :: held) C ⟨fc f.e o.dst v,f.ds⟩ A):cG P nt ops Q listed held (.one i C) f A:=by
  intro hc hn a w ha hw hh hcl A₀ w₀ hs
  simp only [kB,ho,if_pos hq,Bool.and_eq_true] at hc
  obtain ⟨⟨c1,c2⟩,c3⟩:=hc
  obtain ⟨t1,t2⟩:=hv a w ha hw
  have hr:i ∈ Region.ready .any ops listed:=by simpa using c1
  have hheld:dB ops ((i,T) :: held) listed w:=fun p hp hj=>by
    rcases List.mem_cons.1 hp with rfl | hp
    · exact t1
    · exact hh p hp hj
  have H:=h c3 hn _ w (ha.put o.dst v hd) hw ((iO ho hq _ _).2 hheld) (gr hcl hr) A₀ w₀ hs
  have free:=Region.free_spec ho c2
  have H':ep P ops (dC nt Q A₀ w₀) (dB ops ((i,T) :: held)) (C.len + 1) listed a w :=
    m0 (T:=eH T) ho (Region.noSelect_spec hn) (fun c a w g=>rp _ _ c a w g)
      (fun l w' hcl' hun hS=>hS (i,T) (List.mem_cons_self ..) fun j hl ⟨oj,hoj,_⟩=>by
        cases q:kj ops i ops.size j with
        | false=>rfl
        | true =>
          have:=jp hcl' ops.size j oj hoj (hcl' j oj hoj hl) q
          rw [gR hun] at this;cases this)
      (fun l w'=>iO ho hq l w') _ listed a w hcl (fun j oj hoj hne hun hno=>free j oj hoj hne hun hno) hr t2 hheld H
  -- less is asked
  have weaken:∀ (fuel:Nat) (l:Array Bool) (a:Act) (w:World),ep P ops (dC nt Q A₀ w₀) (dB ops ((i,T) :: held)) fuel l a w->ep P ops (dC nt Q A₀ w₀) (dB ops held) fuel l a w:=by
    intro fuel
    induction fuel with
    | zero=>intro l a w h;exact h
    | succ fuel ih=>intro l a w h;exact ⟨h.1,fun j hj=>wpOp_mono (fun a' w' h'=>⟨fun p hp=>h'.1 p (List.mem_cons_of_mem _ hp),ih _ _ _ h'.2⟩) (h.2 j hj)⟩
  exact weaken _ _ _ _ H'

theorem pB {listed:Array Bool} {held:List (Nat × em)} {i:Nat} {C:OT} {o:Oper} {a:Act} {w:World} {A₀:AH} {w₀:World} (ho:ops[i]? = some o) (hq:c9 o.op=false) (hd:∀ t,o.dst=some t->t < nt) (hwn:∀ a:Act,cT nt f a->Region.wanted o (yielded ops a.tmps)=true)
    (c2:kB ops (listed.setIfInBounds i true) C=true) (hn:Region.noSelect ops=true) (ha:cT nt f a) (hw:cq A w) (hcl:j6 ops listed) (hs:ej A₀ w₀ A w) (hr:i ∈ Region.ready .any ops listed)
    (h:∀ (K:Value->AH->Prop) (Kp:List PanicEntry->AH->Prop),
      (∀ v A',(∀ w',cq A' w'->∀ p ∈ held,kj ops p.1 ops.size i=false->eH p.2 w')->cG P nt ops Q (listed.setIfInBounds i true) (held.filter fun p=>!kj ops p.1 ops.size i) C ⟨fc f.e o.dst v,f.ds⟩ A'->K v A') ->
      (∀ ch A',Q (.panic ch) ⟨[],f.ds⟩ A'->Kp ch A')->j5 P f.e A o K Kp) :
    wpOp P ops (dC nt Q A₀ w₀) i (fun a' w'=>dB ops held (listed.setIfInBounds i true) w'/\ep P ops (dC nt Q A₀ w₀) (dB ops held) C.len (listed.setIfInBounds i true) a' w') a w:=by
  have hlt:i < listed.size:=by
    have:=(mem_ready.1 hr).1
    rcases Nat.lt_or_ge i listed.size with h' | h'
    · exact h'
    · simp [Array.getElem?_eq_none h'] at this
  have hl:(listed.setIfInBounds i true).getD i false=true:=by simp [hlt]
  unfold wpOp
  simp only [ho,hwn a ha,if_true]
  left
  have:=oU (o:=o) (K:=fun v A'=>(∀ w',cq A' w'->∀ p ∈ held,kj ops p.1 ops.size i=false->eH p.2 w')/\cG P nt ops Q (listed.setIfInBounds i true) (held.filter fun p=>!kj ops p.1 ops.size i) C ⟨fc f.e o.dst v,f.ds⟩ A')
    (Kp:=fun ch A'=>Q (.panic ch) ⟨[],f.ds⟩ A') ha hw (h _ _ (fun v A' g1 g2=>⟨g1,g2⟩) (fun ch A' g=>g))
  unfold Oper.wp at this ⊢
  have up:∀ r,o.upon P a (jn A a w o fun v A'=>(∀ w',cq A' w'->∀ p ∈ held,kj ops p.1 ops.size i=false->eH p.2 w')/\cG P nt ops Q (listed.setIfInBounds i true) (held.filter fun p=>!kj ops p.1 ops.size i) C ⟨fc f.e o.dst v,f.ds⟩ A') (gH A a w fun ch A'=>Q (.panic ch) ⟨[],f.ds⟩ A') r ->
      o.upon P a (fun a' w'=>dB ops held (listed.setIfInBounds i true) w'/\ep P ops (dC nt Q A₀ w₀) (dB ops held) C.len (listed.setIfInBounds i true) a' w') (dC nt Q A₀ w₀) r:=by
    have next:∀ a' w',(jn A a w o fun v A'=>(∀ w',cq A' w'->∀ p ∈ held,kj ops p.1 ops.size i=false->eH p.2 w')/\cG P nt ops Q (listed.setIfInBounds i true) (held.filter fun p=>!kj ops p.1 ops.size i) C ⟨fc f.e o.dst v,f.ds⟩ A') a' w' ->
        dB ops held (listed.setIfInBounds i true) w'/\ep P ops (dC nt Q A₀ w₀) (dB ops held) C.len (listed.setIfInBounds i true) a' w':=by
      rintro a' w' ⟨v,A',rfl,hv',hs',g1,g2⟩
      have hlo:V.loud ops i:=⟨o,ho,hq⟩
      have hh':dB ops held (listed.setIfInBounds i true) w':=fun p hp hj=>g1 w' hv' p hp (hj i hl hlo)
      refine ⟨hh',?_⟩
      have H:=g2 c2 hn _ w' (ha.put o.dst v hd) hv' (fun p hp hj=>hh' p (List.mem_filter.1 hp).1 hj) (gr hcl hr) A₀ w₀ (hs.trans hs')
      refine j0 (x:=i) (fun l w hx hS p hp hj=>hS p (List.mem_filter.2 ⟨hp,?_⟩) hj) _ _ _ _ hl H
      simp [hj i hx hlo]
    have pan:∀ x a' w',gH A a w (fun ch A'=>Q (.panic ch) ⟨[],f.ds⟩ A') x a' w'->dC nt Q A₀ w₀ x a' w':=by
      rintro x a' w' ⟨ch,A',rfl,rfl,hv',hs',g⟩
      exact ⟨⟨[],f.ds⟩,A',⟨ha.size,(fun _ _ q=>by cases q),ha.ds⟩,hv',hs.trans hs',g,fun _ _=>rfl⟩
    intro r hr'
    cases r with
    | ok n w' =>
      cases n <;> simp only [Oper.upon] at hr' ⊢ <;> (try exact hr'.elim)
      case value v=>exact next _ _ hr'
      case skip=>exact next _ _ hr'
      case defer d=>exact next _ _ hr'
      case enter f' args =>
        refine hr'.mono fun e w'' he=>?_
        cases e with
        | returned v=>exact next _ _ he
        | panicked ch=>exact pan _ _ _ he
        | outgrown=>obtain ⟨a₁,w₁,ch,A',q,_⟩:=he;cases q
      case row row args=>exact hr'.mono fun v w'' he=>next _ _ he
    | halt x w' =>
      cases x <;> simp only [Oper.upon] at hr' ⊢ <;> (try exact hr'.elim)
      case panic v=>exact pan _ _ _ hr'
  exact up _ this
variable {e:ga} {ds:List Deferred}
theorem cG.done {listed:Array Bool} {held:List (Nat × em)} (h:Q .normal f A):cG P nt ops Q listed held .done f A:=by
  intro hc _ a w ha hw _ _ A₀ w₀ hs
  simp only [kB,List.isEmpty_iff] at hc
  exact ⟨hc,f,A,ha,hw,hs,h,fun _ q=>by cases q⟩
theorem cG.q {listed:Array Bool} {held:List (Nat × em)} {k d:Nat} {C:OT} {op:Op} {ty:TypeId} {ps:String} {af:Array Edge} {v:Value} {T:em} (ho:ops[k]? = some { dst:=some d,op:=op,type:=ty,pos:=ps,after:=af,guard:=none }) (hq:c9 op=true) (hd:Nat.blt d nt=true) (hv:aO P e A op=some (v,T))
    (h:cG P nt ops Q (listed.setIfInBounds k true) ((k,T) :: held) C ⟨(d,v) :: e,ds⟩ A):cG P nt ops Q listed held (.one k C) ⟨e,ds⟩ A :=
  cG.quiet (f:=⟨e,ds⟩) (T:=T) (v:=v) ho hq (cM (d:=some d) hd) (fun a w ha hw=>by
    have key:=fB (P:=P) (f:=(⟨e,ds⟩:Fr)) (o:={ dst:=some d,op:=op,type:=ty,pos:=ps,after:=af,guard:=none }) hv ha hw
    exact ⟨key.1,.inl ⟨by simp [Region.wanted],key.2⟩⟩) h
theorem cG.l {listed:Array Bool} {held:List (Nat × em)} {i:Nat} {C:OT} {di:Option Nat} {opi:Op} {ti:TypeId} {pi:String} {afi:Array Edge}
    (hoi:ops[i]? = some { dst:=di,op:=opi,type:=ti,pos:=pi,after:=afi,guard:=none }) (hqi:c9 opi=false) (hdi:fP nt di=true)
    (hi:∀ (K:Value->AH->Prop) (Kp:List PanicEntry->AH->Prop),(∀ v A',aU ops held i A'->cG P nt ops Q (listed.setIfInBounds i true) (held.filter fun p=>!kj ops p.1 ops.size i) C ⟨fc e di v,ds⟩ A'->K v A') ->
      (∀ ch A',Q (.panic ch) ⟨[],ds⟩ A'->Kp ch A')->j5 P e A { dst:=di,op:=opi,type:=ti,pos:=pi,after:=afi,guard:=none } K Kp):cG P nt ops Q listed held (.one i C) ⟨e,ds⟩ A:=by
  intro hc hn a w ha hw hh hcl A₀ w₀ hs
  simp only [kB,hoi,hqi,Bool.false_eq_true,if_false,Bool.and_eq_true,beq_iff_eq] at hc
  obtain ⟨c1,c2⟩:=hc
  simp only [OT.len]
  refine ⟨fun h0=>(by rw [c1] at h0;cases h0),fun k hk=>?_⟩
  have hk':=hk
  rw [c1,List.mem_singleton] at hk'
  subst hk'
  exact pB (C:=C) hoi hqi (cM hdi) (fun a _=>by simp [Region.wanted]) c2 hn ha hw hcl hs hk hi
theorem cG.both {listed:Array Bool} {held:List (Nat × em)} {i j:Nat} {C D:OT} {di dj:Option Nat} {opi opj:Op} {ti tj:TypeId} {pi pj:String} {afi afj:Array Edge}
    (hoi:ops[i]? = some { dst:=di,op:=opi,type:=ti,pos:=pi,after:=afi,guard:=none }) (hoj:ops[j]? = some { dst:=dj,op:=opj,type:=tj,pos:=pj,after:=afj,guard:=none }) (hqi:c9 opi=false) (hqj:c9 opj=false) (hdi:fP nt di=true) (hdj:fP nt dj=true)
    (hi:∀ (K:Value->AH->Prop) (Kp:List PanicEntry->AH->Prop),(∀ v A',aU ops held i A'->cG P nt ops Q (listed.setIfInBounds i true) (held.filter fun p=>!kj ops p.1 ops.size i) C ⟨fc e di v,ds⟩ A'->K v A') ->
      (∀ ch A',Q (.panic ch) ⟨[],ds⟩ A'->Kp ch A')->j5 P e A { dst:=di,op:=opi,type:=ti,pos:=pi,after:=afi,guard:=none } K Kp)
    (hj:∀ (K:Value->AH->Prop) (Kp:List PanicEntry->AH->Prop),(∀ v A',aU ops held j A'->cG P nt ops Q (listed.setIfInBounds j true) (held.filter fun p=>!kj ops p.1 ops.size j) D ⟨fc e dj v,ds⟩ A'->K v A') ->
      (∀ ch A',Q (.panic ch) ⟨[],ds⟩ A'->Kp ch A')->j5 P e A { dst:=dj,op:=opj,type:=tj,pos:=pj,after:=afj,guard:=none } K Kp):cG P nt ops Q listed held (.two i j C D) ⟨e,ds⟩ A:=by
  intro hc hn a w ha hw hh hcl A₀ w₀ hs
  simp only [kB,Bool.and_eq_true,beq_iff_eq] at hc
  obtain ⟨⟨⟨c1,c2⟩,c3⟩,c4⟩:=hc
  simp only [OT.len]
  refine ⟨fun h0=>(by rw [c1] at h0;cases h0),fun k hk=>?_⟩
  have hk':=hk
  rw [c1] at hk'
  simp only [List.mem_cons,List.not_mem_nil,or_false] at hk'
  rcases hk' with rfl | rfl
  · exact pB (C:=C) hoi hqi (cM hdi) (fun a _=>by simp [Region.wanted]) c2 hn ha hw hcl hs hk hi
  · rw [c4];exact pB (C:=D) hoj hqj (cM hdj) (fun a _=>by simp [Region.wanted]) c3 hn ha hw hcl hs hk hj
theorem an.drawnT {id:Nat} (C:OT) (hm:P.follows .mixedOrders=true) (hc:kB ops (Array.replicate ops.size false) C=true) (hn:Region.noSelect ops=true) (hl:C.len=ops.size)
    (h:cG P nt ops Q (Array.replicate ops.size false) [] C f A):an P nt (.region id ops true) Q f A:=by
  intro a w ha hw
  obtain ⟨v1,s1⟩:=iL hw
  refine wp_mono (wp_region_any hm (jy (Q:=dC nt Q A w) (S:=dB ops []) _ _ _ _ ?_)) (fun _ _ _=>dC.q)
  have key:=h hc hn a _ ha v1 (fun p hp=>by cases hp) (fun j o _ hj=>by
    exfalso
    rcases Nat.lt_or_ge j ops.size with q | q
    · simp [q] at hj
    · simp [q] at hj) A w s1
  rw [hl] at key
  exact key
end
end V
end Go.Proofs.YtjppkekmddjcfaaGreatDoor

namespace Go.Proofs.YtjppkekmddjcfaaGreatDoor
open Go Go.RowKit V
set_option maxRecDepth 100000
theorem i8:dT Tryz.prog 213 1=some (59,1):=by kernel_rfl
theorem oD:dT Tryz.prog 213 2=some (60,2):=by kernel_rfl
theorem qe:dT Tryz.prog 213 3=some (67,3):=by kernel_rfl
theorem qf:dT Tryz.prog 213 4=some (67,4):=by kernel_rfl
theorem RB:da Tryz.prog 213=some [(0,1),(1,1),(2,1),(3,1),(4,1)]:=by kernel_rfl
theorem SW:type_of% @Tryz.underlying213:=@Tryz.underlying213
theorem CG:type_of% @Tryz.underlying222:=@Tryz.underlying222
theorem Ta:cx Tryz.prog 213=some (.agg #[.int .i64 0,.slice none 0 0,.slice none 0 0,.slice none 0 0,.slice none 0 0]):=by kernel_rfl

theorem wa (k most bd F0:Nat) (s0:Int) (g1 g2:Nat) (f7 f9:Array Value) (step:Int->Nat->Option Int) (accf:Int->Bool) (D:Int->Prop) (A:AH) (hk:k<=1000) (hm:bd<=most/\most<=1000000/\bd < F0) (Hw:D s0) (hDs:∀ q c t,D q->c < k->step q c=some t->D t) (hfin:∀ Q:List Int,Q.Nodup->(∀ q ∈ Q,D q)->Q.length<=bd) (FL:∀ (q:Int) (c:Nat) B,D q->c < k->A.le B->B.wf->bF Tryz.prog g1 (#[num q,num (c:Int)] ++ f7) B (fun v C=>v=.tuple #[num ((step q c).getD 0),.bool (step q c).isSome]/\B.le C/\C.wf)) (FM:∀ (q:Int) B,D q->A.le B->B.wf->bF Tryz.prog g2 (#[num q] ++ f9) B (fun v C=>v=.bool (accf q)/\B.le C/\C.wf)):bF Tryz.prog 148 #[num ((k:Nat):Int),num ((most:Nat):Int),num (s0),.func (.func g1) #[] f7,.func (.func g2) #[] f9] A (fun v A1=>∃ b av nv fv bv rows,v=.tuple #[.pointer (some ⟨b,0,none⟩),.bool true]/\A.le A1/\A1.wf/\A1.get b=some (.row true [num (k:Int),av,nv,fv,bv] 5)/\A.get b=none/\Fresh A A1 av 1 (cg ((fu k step F0 0 [s0] []).1.map accf))/\Fresh A A1 nv 1 (d6 rows)/\gy A A1 rows (fu k step F0 0 [s0] []).2/\blk av ≠ some b/\blk nv ≠ some b/\dA rows b/\bw av nv/\aM av rows/\aM nv rows):=by
 refine Tg Tryz.call148 Tryz.func148 Z Tryz.results148 Tryz.ntmps148 Z (fun wf=>?_);have CL:=AH.le.refl A;refine an.seq fun _ h2=>.region<|.q Z (ae Z)<|.q Z (ae Z)<|.nil<|h2 _ _<|.seq fun _ h4=>.region<|.q Z (ah Z)<|.q Z (dr Z (bI SW Ta RB Z)) ?_;refine Ops.l Z (fun _ _ Hx _=>dy wf rfl rfl fun A7 b6 g0=>?_);have cC:=aX wf (Nat.le_trans CL.n g0.lo);have CK:=CL.trans g0.le;refine Hx _ _<|.q Z (ae Z)<|.nil<|h4 _ _<|.seq fun _ H9=>.region<|.l Z (fun _ _ FN _=>mu g0.wf fun A14 cZ eZ=>?_);have aA:=ne_new g0.wf g0.get eZ.lo;have hp:=aX wf (Nat.le_trans CK.n eZ.lo);have Ha:=eZ.le.get _ _ g0.get;have Gc:=CK.trans eZ.le;refine FN _ _<|.q Z (ah Z)<|.l Z (fun _ _ FO _=>O7 rk (E:=[]) eZ.wf rfl rfl rfl CG u3 eZ.get dh.nil List.nodup_nil fun A19 nV CV e2 Gg=>?_);have Cp:=e2.keep _ _ aA Ha;have p7:=aw Gc wf hp e2.n e2.keep;have G3:dh num nV (DF [s0]):=Gg;refine FO _ _<|.q Z (ah Z)<|.q Z (ae Z)<|.nil<|H9 _ _<|.seq fun _ Hb=>.region<|.q Z (ah Z)<|.l Z (fun _ _ FQ _=>aQ (c:=[num (s0)]) e2.wf rfl (aJ d9 c0 z3 rfl U U rfl) fun A30 Ck d3=>?_);have dZ:=ne_new e2.wf Cp d3.lo;have h5:=ne_new e2.wf e2.get d3.lo;have o1:=aX wf (Nat.le_trans p7.n d3.lo);have Cq:=d3.le.get _ _ Cp;have Cs:=d3.le.get _ _ e2.get;have p8:=p7.trans d3.le;refine FQ _ _<|.q Z (ae Z)<|.nil<|Hb _ _<|.seq fun _ Hc=>.region<|.q Z (ah Z)<|.q Z (ah Z)<|.l Z (fun _ _ FS _=>aQ (c:=[num (-1)]) d3.wf rfl (aJ d9 c0 z3 rfl U U rfl) fun A39 hn ch=>?_);have e0:=ne_new d3.wf Cq ch.lo;have h6:=ne_new d3.wf Cs ch.lo;have h8:=ne_new d3.wf d3.get ch.lo;have o2:=aX wf (Nat.le_trans p8.n ch.lo);have Cv:=ch.le.get _ _ Cq;have CC:=ch.le.get _ _ Cs;have CH:=ch.le.get _ _ d3.get;have p9:=p8.trans ch.le;refine FS _ _<|.l Z (fun _ _ FT _=>aQ (c:=[num (-1)]) ch.wf rfl (aJ d9 c0 z3 rfl U U rfl) fun A47 hT dd=>?_);have e1:=ne_new ch.wf Cv dd.lo;have h7:=ne_new ch.wf CC dd.lo;have h9:=ne_new ch.wf CH dd.lo;have ha:=ne_new ch.wf ch.get dd.lo;have o3:=aX wf (Nat.le_trans p9.n dd.lo);have Hd:=dd.le.get _ _ Cv;have He:=dd.le.get _ _ CC;have Hf:=dd.le.get _ _ CH;have Hg:=dd.le.get _ _ ch.get;have Gd:=p9.trans dd.le;refine FT _ _<|.q Z (cJ Z)<|.q Z (aj qe fj U Z)<|.l Z (fun _ _ FV _=>bh (cs:=[.slice (some ⟨hn,0,none⟩) 1 1]) (c':=[num ((k:Nat):Int),.slice none 0 0,.slice none 0 0,.slice (some ⟨hn,0,none⟩) 1 1,.slice none 0 0]) dd.wf rfl rfl rfl rfl fj Hd (Nat.le_of_ble_eq_true rfl) rfl rfl fun A55 e3=>?_);have Hh:=e3.keep _ _ aA.symm He;have Hi:=e3.keep _ _ dZ.symm Hf;have Hj:=e3.keep _ _ e0.symm Hg;have Hk:=e3.keep _ _ e1.symm dd.get;have Ge:=aw Gd wf cC e3.n e3.keep;refine FV _ _<|.q Z (cJ Z)<|.q Z (aj qf fj U Z)<|.l Z (fun _ _ G0 _=>bh (cs:=[.slice (some ⟨hT,0,none⟩) 1 1]) (c':=[num ((k:Nat):Int),.slice none 0 0,.slice none 0 0,.slice (some ⟨hn,0,none⟩) 1 1,.slice (some ⟨hT,0,none⟩) 1 1]) e3.wf rfl rfl rfl rfl fj e3.get (Nat.le_of_ble_eq_true rfl) rfl rfl fun A63 en=>?_);have Hl:=en.keep _ _ aA.symm Hh;have Hm:=en.keep _ _ dZ.symm Hi;have Hn:=en.keep _ _ e0.symm Hj;have Ho:=en.keep _ _ e1.symm Hk;have Gf:=aw Ge wf cC en.n en.keep;refine G0 _ _<|.nil<|Hc _ _<|.seq fun _ Hp=>.seq fun _ Hq=>.region<|.q Z (ae Z)<|.nil<|Hq _ _<|.block ?_;have D3:Fresh A A63 (.slice (some ⟨hn,0,none⟩) 1 1) 1 (cI [-1]):=Fresh.lit Hn o2 Z (Nat.le_of_ble_eq_true Z);have Dd:Fresh A A63 (.slice (some ⟨hT,0,none⟩) 1 1) 1 (cI [-1]):=Fresh.lit Ho o3 Z (Nat.le_of_ble_eq_true Z);have Di:Fresh A A63 (.slice (some ⟨Ck,0,none⟩) 1 1) 1 (cI [s0]):=Fresh.lit Hm o1 Z (Nat.le_of_ble_eq_true Z);have D2:gy A A63 [] []:=gy.nil;refine an.loop (X:=Nat × List Int × List Bool × List Int × List Int × Array MapEntry × Nat × Nat × Value × Value × Value × Value × Value × List Value × List (List Int)) (fun ⟨i,Q,ac,fi,bl,es,ck,f,qv,av,nv,fv,bv,rw,R⟩=>[(0,num ((k:Nat):Int)),(1,num ((most:Nat):Int)),(3,.func (.func g1) #[] f7),(4,.func (.func g2) #[] f9),(12,.pointer (some ⟨b6,0,none⟩)),(13,.map (some cZ)),(14,qv),(15,num ((i:Nat):Int))]) (fun ⟨i,Q,ac,fi,bl,es,ck,f,qv,av,nv,fv,bv,rw,R⟩ B=>(i<=Q.length/\ac=(Q.take i).map accf/\Q.Nodup/\(∀ q ∈ Q,D q)/\dh num es (DF Q)/\fu k step f i Q R=(fu k step F0 0 [s0] [])/\f + i=F0/\fi.length=Q.length/\bl.length=Q.length/\R.length=i)/\A.le B/\Fresh A B qv 1 (cI Q)/\Fresh A B av 1 (cg ac)/\Fresh A B nv 1 (d6 rw)/\Fresh A B fv 1 (cI fi)/\Fresh A B bv 1 (cI bl)/\B.get cZ=some (.obj true (.map es ck))/\B.get b6=some (.row true [num ((k:Nat):Int),av,nv,fv,bv] 5)/\V.blk qv ≠ some cZ/\V.blk av ≠ some cZ/\V.blk nv ≠ some cZ/\V.blk fv ≠ some cZ/\V.blk bv ≠ some cZ/\V.blk qv ≠ some b6/\V.blk av ≠ some b6/\V.blk nv ≠ some b6/\V.blk fv ≠ some b6/\V.blk bv ≠ some b6/\bw qv av/\bw qv nv/\bw qv fv/\bw qv bv/\bw av nv/\bw av fv/\bw av bv/\bw nv fv/\bw nv bv/\bw fv bv/\gy A B rw R/\dA rw cZ/\dA rw b6/\aM qv rw/\aM av rw/\aM nv rw/\aM fv rw/\aM bv rw) (fun ⟨i,Q,ac,fi,bl,es,ck,f,qv,av,nv,fv,bv,rw,R⟩=>F0 - i) (⟨0,[s0],[],[-1],[-1],nV,CV,F0,.slice (some ⟨Ck,0,none⟩) 1 1,.slice none 0 0,.slice none 0 0,.slice (some ⟨hn,0,none⟩) 1 1,.slice (some ⟨hT,0,none⟩) 1 1,[],[]⟩) (wJ Z Z Z Z Z Z Z Z) (⟨⟨Nat.zero_le _,rfl,by simp,fun q hq=>by rw [List.mem_singleton] at hq;subst hq;exact Hw,G3,rfl,by omega,rfl,rfl,rfl⟩,Gf,Di,(Fresh.nil A A63 1),(Fresh.nil A A63 1),D3,Dd,Hl,en.get,(fun q=>by cases q;exact h5 rfl),(fun q=>by cases q),(fun q=>by cases q),(fun q=>by cases q;exact h6 rfl),(fun q=>by cases q;exact h7 rfl),(fun q=>by cases q;exact dZ rfl),(fun q=>by cases q),(fun q=>by cases q),(fun q=>by cases q;exact e0 rfl),(fun q=>by cases q;exact e1 rfl),(bw.symm bw.nil),(bw.symm bw.nil),(fun c hc hq=>by cases hc;cases hq;exact h8 rfl),(fun c hc hq=>by cases hc;cases hq;exact h9 rfl),bw.nil,bw.nil,bw.nil,bw.nil,bw.nil,(fun c hc hq=>by cases hc;cases hq;exact ha Z),D2,kJ,kJ,aM.empty,aM.nil,aM.nil,aM.empty,aM.empty⟩) ?_;rintro ⟨i,Q,ac,fi,bl,es,ck,f,qv,av,nv,fv,bv,rw,R⟩ B81 ⟨⟨hi,hac,hnd,hDQ,hme,hex,hf,hfi,hbl,hRl⟩,hI,eT,fT,fV,nT,nQ,hD,e4,fS,ea,fR,fQ,fO,eA,dS,dV,ez,ey,fE,hN,hO,hP,ev,fI,fL,hQ,hR,hS,fX,fM,dJ,gE,dO,ex,gF,gG⟩;refine an.wf fun pa=>?_;have hrw:rw.length=R.length:=by first | exact gy.len ‹_›
 have hlQ:=hfin Q hnd hDQ;have hla:ac.length=i:=by rw [hac,List.length_map,List.length_take];omega
 have hDi:=fun q:i < Q.length=>hDQ _ (bq (d:=(0:Int)) q);refine an.seq fun _ Hr=>.seq fun _ Hs=>.region<|.q Z (ah Z)<|.q Z (ah Z)<|.q Z (bE (n:=Q.length) d9 Z eT.slc O (ee _))<|.q Z (ca Z Z)<|.nil<|Hs _ _<|.if rfl (fun Hz=>?_) (fun Hz=>?_)
 ·refine an.skip<|Hr _ _<|.seq fun _ Ht=>.block<|.seq fun _ Hu=>.drawn [0,1,2,3,4,5,6,7,8,9,10,11,12,13,14,15] mixed Y Y Z<|.q Z Z Z (ah Z)<|.q Z Z Z (ah Z)<|.q Z Z Z (cJ Z)<|.q Z Z Z (aj i8 ie U Z) ?_;have FI:=bQ (off:=1) e4 (show _=some (av) from rfl);refine be.q Z Z Z (ak ib Z Z e4 Z)<|.q Z Z Z (ah Z)<|.q Z Z Z (ah Z)<|.q Z Z Z (ah Z) ?_;obtain ⟨Kk,Kl,IV,Kt,IT,Ko,Km,H7,Hy,H8,In,D0⟩:=bH.at (i:=i) eT.slc Of O;refine be.q Z Z Z (aE d9 c0 Z H7 Z Hy)<|.q Z Z Z (ak eB Z Z H8 ((cN D0).trans (cW O)))<|.l Z Z Z (fun _ _ G1 _=>ng Z Z (FM (Q.getD i 0) B81 (hDi O) hI pa) ?_);rintro Kv A97 ⟨rfl,cV,nO⟩;have Hv:=cV.get _ _ hD;have DD:=cV.get _ _ e4;have q4:=eT.le cV;have q5:=fT.le cV;have q6:=fV.le cV;have q7:=nT.le cV;have q8:=nQ.le cV;have hU:=fX.le cV;have mT:=am cV FI;have y4:=hI.trans cV;refine G1 _ _ (aU.list (L:=[(⟨b6,1,none⟩,av)]) Y (al mT bf))<|.l Z Z Z (fun _ _ wF _=>aQ (c:=[.bool (accf (Q.getD i 0))]) nO rfl (aJ kW lA z4 rfl U U rfl) fun A112 HR b8=>?_);have HC:=hU.ne_new nO b8.lo;have oi:=b8.le.get _ _ Hv;have oj:=b8.le.get _ _ DD;have iH:=q4.le b8.le;have iN:=q5.le b8.le;have iS:=q6.le b8.le;have iT:=q7.le b8.le;have iV:=q8.le b8.le;have hV:=hU.le b8.le;have wl:=am b8.le mT;have y5:=y4.trans b8.le;refine wF _ _ (aU.list (L:=[(⟨b6,1,none⟩,av)]) Y (al wl bf))<|.l Z Z Z (fun _ _ wL _=>cQ (ys:=[.bool (accf (Q.getD i 0))]) rfl rfl kW lA Jv z4 rfl U kW (fun _ h=>by cases h) iN.own (bZ (n:=1) b8.get Z) rfl rfl (by show (_ + _) * 1<=_;simp only [bG,List.length_cons,List.length_nil];(try simp only [List.length_append,List.length_cons,List.length_nil]);omega) Ow fun A131 K0 bm=>?_);rw [show ([.bool (accf (Q.getD i 0))]:List Value)=cg [accf (Q.getD i 0)] from rfl,mC] at bm;obtain ⟨iX,y6⟩:=Fresh.grow iN y5 wf bm;have DI:=bm.keep ea oi;have As:=bm.ne ea b8.wf oi;have DJ:=bm.keep dS oj;have nn:=bm.ne dS b8.wf oj;have AS:=bw.appd (show bw av qv from (bw.symm fE)) iH.own b8.wf bm;have q9:=iH.appd bm (bw.symm fE);have AT:=bw.appd (show bw av nv from ev) iS.own b8.wf bm;have qa:=iS.appd bm ev;have AV:=bw.appd (show bw av fv from fI) iT.own b8.wf bm;have qb:=iT.appd bm fI;have AY:=bw.appd (show bw av bv from fL) iV.own b8.wf bm;have qd:=iV.appd bm fL;have AZ:=aM.appd (show aM av rw from dO) hV b8.wf bm;have pf:=hV.appd bm (show aM av rw from dO);refine wL _ _ (aU.none Y)<|.q Z Z Z (cJ Z)<|.q Z Z Z (aj i8 ie U Z) ?_;obtain ⟨aG,aF,aD,GD,_⟩:=iX.own.slice;subst GD;refine be.l Z Z Z (fun _ _ wM _=>bh (cs:=[.slice aG aF aD]) (c':=[num ((k:Nat):Int),.slice aG aF aD,nv,fv,bv]) bm.wf rfl rfl rfl rfl ie DJ (Nat.le_of_ble_eq_true rfl) rfl rfl fun A155 b1=>?_);have ok:=b1.keep _ _ aA.symm DI;have j1:=q9.keep b1.keep eA;have j2:=qa.keep b1.keep dV;have j3:=qb.keep b1.keep ez;have j4:=qd.keep b1.keep ey;have jX:=iX.keep b1.keep nn;have hW:=pf.keep b1.keep dJ;have nb:=aw y6 wf cC b1.n b1.keep;refine wM _ _ (aU.none Y)<|.done<|Hu _ _<|.seq fun _ DO=>.region<|.q Z (ah Z)<|.l Z (fun _ _ wP _=>lQ (n:=k) (k:=k) b1.wf nb rfl rfl d9 c0 z3 mf rfl (Nat.le_refl _) (by show 8 * _<=_;omega) O fun A169 CS bp k0=>?_);rw [gT] at k0;have fN:=ne_new b1.wf ok bp.lo;have hb:=ne_new b1.wf b1.get bp.lo;have AI:=hW.ne_new b1.wf bp.lo;have DS:=bp.le.get _ _ ok;have DV:=bp.le.get _ _ b1.get;have qp:=j1.le bp.le;have qr:=j2.le bp.le;have qu:=j3.le bp.le;have qA:=j4.le bp.le;have qB:=jX.le bp.le;have pi:=hW.le bp.le;have y7:=nb.trans bp.le;have B0:=bw.of_new (n:=k) (c:=k) j1.own b1.wf bp.lo;have B2:=bw.of_new (n:=k) (c:=k) j2.own b1.wf bp.lo;have B3:=bw.of_new (n:=k) (c:=k) j3.own b1.wf bp.lo;have B4:=bw.of_new (n:=k) (c:=k) j4.own b1.wf bp.lo;have B5:=bw.of_new (n:=k) (c:=k) jX.own b1.wf bp.lo;refine wP _ _<|.q Z (ae Z)<|.nil<|DO _ _<|.seq fun _ DW=>.seq fun _ DZ=>.region<|.q Z (ah Z)<|.q Z (ah Z)<|.nil ?_;refine DZ _ _<|.block<|.loop (X:=Nat × List Int × List Int × List Int × List Int × List Int × Array MapEntry × Nat × Value × Value × Value × Value) (fun ⟨c,r,o,Q1,fi,bl,es,ck,rv,bM,ab,a2⟩=>[(0,num ((k:Nat):Int)),(1,num ((most:Nat):Int)),(3,.func (.func g1) #[] f7),(4,.func (.func g2) #[] f9),(12,.pointer (some ⟨b6,0,none⟩)),(13,.map (some cZ)),(14,bM),(15,num ((i:Nat):Int)),(16,rv),(61,num ((k:Nat):Int)),(62,num ((c:Nat):Int))]) (fun ⟨c,r,o,Q1,fi,bl,es,ck,rv,bM,ab,a2⟩ B=>(c<=k/\EO step (Q.getD i 0) Q c=(r,Q1)/\r.length=c/\o=r ++ List.replicate (k - c) 0/\Q1.Nodup/\(∀ q ∈ Q1,D q)/\dh num es (DF Q1)/\fi.length=Q1.length/\bl.length=Q1.length/\Q <+: Q1)/\A.le B/\Fresh A B rv 1 (cI o)/\Fresh A B bM 1 (cI Q1)/\Fresh A B ab 1 (cI fi)/\Fresh A B a2 1 (cI bl)/\Fresh A B nv 1 (d6 rw)/\Fresh A B (.slice aG aF aD) 1 (cg (ac ++ [accf (Q.getD i 0)]))/\B.get cZ=some (.obj true (.map es ck))/\B.get b6=some (.row true [num ((k:Nat):Int),.slice aG aF aD,nv,ab,a2] 5)/\V.blk rv ≠ some cZ/\V.blk bM ≠ some cZ/\V.blk ab ≠ some cZ/\V.blk a2 ≠ some cZ/\V.blk nv ≠ some cZ/\V.blk (.slice aG aF aD) ≠ some cZ/\V.blk rv ≠ some b6/\V.blk bM ≠ some b6/\V.blk ab ≠ some b6/\V.blk a2 ≠ some b6/\V.blk nv ≠ some b6/\V.blk (.slice aG aF aD) ≠ some b6/\bw rv bM/\bw rv ab/\bw rv a2/\bw rv nv/\bw rv (.slice aG aF aD)/\bw bM ab/\bw bM a2/\bw bM nv/\bw bM (.slice aG aF aD)/\bw ab a2/\bw ab nv/\bw ab (.slice aG aF aD)/\bw a2 nv/\bw a2 (.slice aG aF aD)/\bw nv (.slice aG aF aD)/\gy A B rw R/\dA rw cZ/\dA rw b6/\aM rv rw/\aM bM rw/\aM ab rw/\aM a2 rw/\aM nv rw/\aM (.slice aG aF aD) rw) (fun ⟨c,r,o,Q1,fi,bl,es,ck,rv,bM,ab,a2⟩=>k - c) (⟨0,[],List.replicate k 0,Q,fi,bl,es,ck,.slice (some ⟨CS,0,none⟩) k k,qv,fv,bv⟩) (tn Z Z Z Z Z Z Z Z Z Z Z) (⟨⟨Nat.zero_le _,rfl,rfl,by simp,hnd,hDQ,hme,hfi,hbl,List.prefix_refl _⟩,y7,k0,qp,qu,qA,qr,qB,DS,DV,(fun q=>by cases q;exact fN rfl),fS,fQ,fO,fR,As,(fun q=>by cases q;exact hb Z),eA,ez,ey,dV,nn,B0,B3,B4,B2,B5,hO,hP,hN,(bw.symm AS),hS,(bw.symm hQ),(bw.symm AV),(bw.symm hR),(bw.symm AY),(bw.symm AT),pi,fM,dJ,(aM.new AI),gE,gF,gG,ex,AZ⟩) ?_;rintro ⟨c,r,o,Q1,fi,bl,es,ck,rv,bM,ab,a2⟩ B197 ⟨⟨hc,hexp,hrl,ho,eX,fr,ft,hC,hB,hpre⟩,nd,dI,f4,f3,f2,f1,e9,f6,eg,a5,bc,aa,a9,aB,az,a0,bD,a3,ai,a4,a1,bO,aV,aY,aC,aZ,d0,d1,cv,d2,bu,b9,bA,ba,bB,bP,ec,bb,a8,ag,bS,aP,aR,bC,bL⟩;refine an.wf fun fo=>?_;have hlo:o.length=k:=by rw [ho];simp;omega
  have It:=hfin Q1 eX fr;have hpl:=hpre.length_le;have hgi:=tP hpre (show i < Q.length by omega);have oX:D (Q1.getD i 0):=by rw [hgi];exact hDi O
  refine an.seq fun _ E2=>.region<|.q Z (ca Z Z)<|.nil<|E2 _ _<|.seq fun _ E3=>.if rfl (fun Gq=>?_) (fun Gq=>?_)
  ·refine an.skip<|E3 _ _<|.seq fun _ fq=>.block<|.seq fun _ E4=>.region<|.q Z (ah Z)<|.q Z (ae Z)<|.nil<|E4 _ _ ?_;refine an.seq fun _ E5=>.region<|.q Z (ah Z)<|.q Z (ah Z) ?_;obtain ⟨eC,Ix,I1,GS,HK,dj,oY,Dj,K6,Gl,IX,G4⟩:=dI.at1 (x:=c) Of;rw [aH] at oY;refine Ops.q Z (aE d9 c0 Z dj Z (by rw [oY];omega))<|.l Z (fun _ _ wS _=>bh (off:=c) (c':=GS.set c (num (-1))) fo rfl (by simp) rfl rfl c0 Dj (by show c + 1<=_;omega) rfl rfl fun A212 bU=>?_);have E6:=bU.keep _ _ (fun q=>a5 (by rw [dj];exact congrArg some q.symm)) f6;have E7:=bU.keep _ _ (fun q=>a0 (by rw [dj];exact congrArg some q.symm)) eg;have k1:=f4.keep bU.keep (bO eC (by rw [dj];rfl));have qD:=f3.keep bU.keep (aV eC (by rw [dj];rfl));have qN:=f2.keep bU.keep (aY eC (by rw [dj];rfl));have qP:=f1.keep bU.keep (aC eC (by rw [dj];rfl));have qR:=e9.keep bU.keep (aZ eC (by rw [dj];rfl));have pj:=ec.keep bU.keep (fun r hr=>ag r hr eC (by rw [dj];rfl));have k2:=G4 (num (-1)) A212 bU;rw [gU] at k2;have nj:=aw nd wf Gl bU.n bU.keep;refine wS _ _<|.nil<|E5 _ _<|.seq fun _ E9=>.region<|.q Z (ah Z)<|.q Z (ah Z)<|.q Z (ah Z) ?_;obtain ⟨HS,Io,HQ,IS,HL,ID,Iv,D1,G9,Do,HA,pe⟩:=bH.at (i:=i) k1.slc Of O;refine Ops.q Z (aE d9 c0 Z D1 Z G9)<|.q Z (ak eB Z Z Do ((cN pe).trans (cW O)))<|.q Z (ah Z)<|.l Z (fun _ _ wY _=>ng Z Z (FL (Q1.getD i 0) c A212 oX O nj bU.wf) ?_);rintro K1 A229 ⟨rfl,bT,hs⟩;have gA:=bT.get _ _ E6;have hx:=bT.get _ _ E7;have g8:=k2.le bT;have fm:=k1.le bT;have g9:=qD.le bT;have gc:=qN.le bT;have ge:=qP.le bT;have gf:=qR.le bT;have g7:=pj.le bT;have gQ:=nj.trans bT;refine wY _ _<|.q Z (ah Z)<|.q Z (bk Z Z)<|.q Z (bk Z Z)<|.q Z (ae Z)<|.q Z (ae Z)<|.nil<|E9 _ _<|.seq fun _ Ea=>.seq fun _ Ec=>?_;refine an.region<|.q Z (ah Z)<|.q Z (eb Z)<|.nil<|Ec _ _<|.ifB Z (fun Gs=>?_) (fun Gs=>?_)
   ·refine an.exit<|fq _ _<|.region<|.q Z (bz (b:=1) Z Z O)<|.q Z (ah Z)<|.nil ?_;exact ⟨⟨c + 1,r ++ [(-1)],o.set c ((-1)),Q1,fi,bl,es,ck,rv,bM,ab,a2⟩,tn Z Z Z Z Z Z Z Z Z Z Z,Z,⟨⟨by omega,Jh hexp (by rw [<- hgi];exact zb ‹_›),by simp;omega,by rw [ho,<- hrl];exact wN O,eX,fr,ft,hC,hB,hpre⟩,gQ,g8,fm,g9,gc,ge,gf,gA,hx,a5,bc,aa,a9,aB,az,a0,bD,a3,ai,a4,a1,bO,aV,aY,aC,aZ,d0,d1,cv,d2,bu,b9,bA,ba,bB,bP,g7,bb,a8,ag,bS,aP,aR,bC,bL⟩,O1⟩
   refine an.skip<|Ea _ _<|.seq fun _ ov=>.region<|.q Z (ah Z)<|.q Z (ah Z)<|.l Z (fun _ _ n9 _=>Ma Z Z CG u3 z3 gA ft (fun HB=>?_) (fun y3=>?_))
   ·refine n9 _ _<|.q Z (ah Z)<|.q Z (bk Z Z)<|.q Z (bk Z Z)<|.q Z (ae Z)<|.q Z (ae Z)<|.nil<|ov _ _<|.seq fun _ Eg=>.seq fun _ El=>?_;refine an.region<|.q Z (ah Z)<|.q Z (eb Z)<|.nil<|El _ _<|.cond_false Z<|.skip<|Eg _ _<|.region<|.q Z (ah Z) ?_;refine Ops.q Z (ah Z)<|.q Z (ah Z) ?_;obtain ⟨eG,IF,I2,H0,HM,dv,oZ,Ds,K7,Gm,J1,G5⟩:=g8.at1 (x:=c) OJ;rw [aH] at oZ;refine Ops.q Z (aE d9 c0 Z dv Z (by rw [oZ];(try simp only [List.length_set]);omega))<|.l Z (fun _ _ wZ _=>bh (off:=c) (c':=H0.set c (num ((Q1.idxOf ((step (Q1.getD i 0) c).getD 0):Nat):Int))) hs rfl (by simp) rfl rfl c0 Ds (by show c + 1<=_;omega) rfl rfl fun A257 cH=>?_);have En:=cH.keep _ _ (fun q=>a5 (by rw [dv];exact congrArg some q.symm)) gA;have Eq:=cH.keep _ _ (fun q=>a0 (by rw [dv];exact congrArg some q.symm)) hx;have qU:=fm.keep cH.keep (bO eG (by rw [dv];rfl));have qV:=g9.keep cH.keep (aV eG (by rw [dv];rfl));have r1:=gc.keep cH.keep (aY eG (by rw [dv];rfl));have r2:=ge.keep cH.keep (aC eG (by rw [dv];rfl));have r3:=gf.keep cH.keep (aZ eG (by rw [dv];rfl));have pl:=g7.keep cH.keep (fun r hr=>ag r hr eG (by rw [dv];rfl));have k3:=G5 (num ((Q1.idxOf ((step (Q1.getD i 0) c).getD 0):Nat):Int)) A257 cH;rw [gU] at k3;have y8:=aw gQ wf Gm cH.n cH.keep;refine wZ _ _<|.nil<|fq _ _<|.region<|.q Z (bz (b:=1) Z Z O)<|.q Z (ah Z)<|.nil ?_;exact ⟨⟨c + 1,r ++ [(Q1.idxOf ((step (Q1.getD i 0) c).getD 0):Int)],(o.set c ((-1))).set c (((Q1.idxOf ((step (Q1.getD i 0) c).getD 0):Nat):Int)),Q1,fi,bl,es,ck,rv,bM,ab,a2⟩,tn Z Z Z Z Z Z Z Z Z Z Z,Z,⟨⟨by omega,MZ hexp (by rw [<- hgi];exact jS ‹_›) ‹_›,by simp;omega,by rw [ho,<- hrl];exact qc O,eX,fr,ft,hC,hB,hpre⟩,y8,k3,qU,qV,r1,r2,r3,En,Eq,a5,bc,aa,a9,aB,az,a0,bD,a3,ai,a4,a1,bO,aV,aY,aC,aZ,d0,d1,cv,d2,bu,b9,bA,ba,bB,bP,pl,bb,a8,ag,bS,aP,aR,bC,bL⟩,O1⟩
   have gL:=n0 eX y3;have gC:=oL fr (hDs _ _ _ oX O (jS ‹(!(step (Q1.getD i 0) c).isSome)=false›));have G2:=hfin _ gL gC;rw [List.length_append,List.length_singleton] at G2;refine n9 _ _<|.q Z (ah Z)<|.q Z (bk Z Z)<|.q Z (bk Z Z)<|.q Z (ae Z)<|.q Z (ae Z)<|.nil<|ov _ _<|.seq fun _ hy=>.seq fun _ Es=>?_;refine an.region<|.q Z (ah Z)<|.q Z (eb Z)<|.nil<|Es _ _<|.cond_true Z<|.seq fun _ Et=>.region<|.q Z (ah Z)<|.q Z (bE (n:=Q1.length) d9 Z fm.slc O (ee _)) ?_;refine Ops.q Z (ae Z)<|.nil<|Et _ _<|.seq fun _ Ev=>.seq fun _ Ex=>.region<|.q Z (ah Z)<|.q Z (ah Z)<|.q Z (tQ Z Z)<|.nil ?_;refine Ex _ _<|.if rfl (fun GC=>?_) (fun GC=>?_)
   ·refine an.seq fun _ Is=>?_;exfalso;omega
   refine an.skip<|Ev _ _<|.seq fun _ Ey=>.region<|.q Z (ah Z)<|.q Z (ah Z)<|.q Z (ah Z)<|.l Z (fun _ _ x0 _=>m4 rk hs rfl rfl rfl CG u3 gA ft (by rw [tN];exact eX) fun A285 fd g6 bR Ar=>?_);have Ez:=bR.keep _ _ aA hx;have r4:=g8.keep bR.keep a5;have r6:=fm.keep bR.keep bc;have r7:=g9.keep bR.keep aa;have r9:=gc.keep bR.keep a9;have rr:=ge.keep bR.keep aB;have rR:=gf.keep bR.keep az;have hX:=g7.keep bR.keep bb;have y9:=aw gQ wf hp bR.n bR.keep;have fD:dh num fd (DF (Q1 ++ [((step (Q1.getD i 0) c).getD 0)])):=by rw [<- NX ‹_›];exact Ar
   refine x0 _ _<|.nil<|Ey _ _<|.seq fun _ EA=>.region<|.q Z (ah Z)<|.q Z (ah Z)<|.l Z (fun _ _ x1 _=>aQ (c:=[num ((step (Q1.getD i 0) c).getD 0)]) bR.wf rfl (aJ d9 c0 z3 rfl U U rfl) fun A304 HT b0=>?_);have HD:=hX.ne_new bR.wf b0.lo;have ow:=b0.le.get _ _ bR.get;have ox:=b0.le.get _ _ Ez;have k4:=r4.le b0.le;have k6:=r6.le b0.le;have k7:=r7.le b0.le;have k9:=r9.le b0.le;have kc:=rr.le b0.le;have kk:=rR.le b0.le;have hY:=hX.le b0.le;have yt:=y9.trans b0.le;refine x1 _ _<|.l Z (fun _ _ x2 _=>cQ (ys:=[num ((step (Q1.getD i 0) c).getD 0)]) rfl rfl d9 c0 mf z3 rfl U d9 (fun _ h=>by cases h) k6.own (bZ (n:=1) b0.get Z) rfl rfl (by show (_ + _) * 8<=_;simp only [aH,List.length_cons,List.length_nil];(try simp only [List.length_append,List.length_cons,List.length_nil]);omega) O2 fun A324 dW ar=>?_);rw [show ([num ((step (Q1.getD i 0) c).getD 0)]:List Value)=cI [(step (Q1.getD i 0) c).getD 0] from rfl,dp] at ar;obtain ⟨kl,nk⟩:=Fresh.grow k6 yt wf ar;have oy:=ar.keep bc ow;have gS:=ar.ne bc b0.wf ow;have eV:=ar.keep bD ox;have di:=ar.ne bD b0.wf ox;have e5:=bw.appd (show bw bM rv from (bw.symm bO)) k4.own b0.wf ar;have km:=k4.appd ar (bw.symm bO);have e6:=bw.appd (show bw bM ab from d0) k7.own b0.wf ar;have gg:=k7.appd ar d0;have e7:=bw.appd (show bw bM a2 from d1) k9.own b0.wf ar;have kp:=k9.appd ar d1;have hh:=bw.appd (show bw bM nv from cv) kc.own b0.wf ar;have kv:=kc.appd ar cv;have hj:=bw.appd (show bw bM (.slice aG aF aD) from d2) kk.own b0.wf ar;have kC:=kk.appd ar d2;have hl:=aM.appd (show aM bM rw from bS) hY b0.wf ar;have fe:=hY.appd ar (show aM bM rw from bS);refine x2 _ _<|.q Z (ae Z)<|.nil<|EA _ _<|.drawnT (.one 0 (.one 1 (.one 2 (.one 3 (.one 4 (.one 5 (.one 6 (.one 9 (.one 10 (.one 11 (.one 12 (.one 13 (.two 7 14 (.two 8 14 (.one 14 (.one 15 (.one 16 (.one 17 (.one 18 (.one 19 (.one 20 (.one 21 (.done))))))))) (.one 8 (.one 15 (.one 16 (.one 17 (.one 18 (.one 19 (.one 20 (.one 21 (.done)))))))))) (.one 7 (.one 8 (.one 15 (.one 16 (.one 17 (.one 18 (.one 19 (.one 20 (.one 21 (.done))))))))))))))))))))))) mixed Y Y Z ?_;refine cG.q Z Z Z (ah Z) ?_;refine cG.q Z Z Z (ah Z) ?_;refine cG.q Z Z Z (ah Z) ?_;refine cG.q Z Z Z (cJ Z) ?_;refine cG.q Z Z Z (aj qe fj U Z) ?_;have mV:=bQ (off:=3) eV (show _=some (ab) from rfl);refine cG.q Z Z Z (ak kY Z Z eV Z) ?_;refine cG.q Z Z Z (ah Z) ?_;refine cG.q Z Z Z (ah Z) ?_;refine cG.q Z Z Z (cJ Z) ?_;refine cG.q Z Z Z (aj qf fj U Z) ?_;have mX:=bQ (off:=4) eV (show _=some (a2) from rfl);refine cG.q Z Z Z (ak kY Z Z eV Z) ?_;refine cG.q Z Z Z (ah Z) ?_;refine cG.both Z Z Z Z Z Z ?_ ?_
   ·refine fun _ _ x3 _=>aQ (c:=[num ((i:Nat):Int)]) ar.wf rfl (aJ d9 c0 z3 rfl U U rfl) fun A351 HU ad=>?_;have HE:=fe.ne_new ar.wf ad.lo;have hz:=ad.le.get _ _ oy;have hA:=ad.le.get _ _ eV;have gl:=km.le ad.le;have fn:=gg.le ad.le;have gm:=kp.le ad.le;have gp:=kv.le ad.le;have gq:=kC.le ad.le;have gs:=kl.le ad.le;have fl:=fe.le ad.le;have n1:=am ad.le mV;have gD:=am ad.le mX;have nl:=nk.trans ad.le;refine x3 _ _ (aU.list (L:=[(⟨b6,4,none⟩,a2),(⟨b6,3,none⟩,ab)]) Y (al gD (al n1 bf))) ?_;refine cG.both Z Z Z Z Z Z ?_ ?_
    ·refine fun _ _ x4 _=>cQ (ys:=[num ((i:Nat):Int)]) rfl rfl d9 c0 mf z3 rfl U d9 (fun _ h=>by cases h) fn.own (bZ (n:=1) ad.get Z) rfl rfl (by show (_ + _) * 8<=_;simp only [aH,List.length_cons,List.length_nil];(try simp only [List.length_append,List.length_cons,List.length_nil]);omega) O2 fun A373 H4 aI=>?_;rw [show ([num ((i:Nat):Int)]:List Value)=cI [((i:Nat):Int)] from rfl,dp] at aI;obtain ⟨rS,yS⟩:=Fresh.grow fn nl wf aI;have EC:=aI.keep aa hz;have At:=aI.ne aa ad.wf hz;have EG:=aI.keep a3 hA;have gX:=aI.ne a3 ad.wf hA;have nC:=bw.appd (show bw ab rv from (bw.symm aV)) gl.own ad.wf aI;have rT:=gl.appd aI (bw.symm aV);have nD:=bw.appd (show bw ab a2 from bu) gm.own ad.wf aI;have rV:=gm.appd aI bu;have B6:=bw.appd (show bw ab nv from b9) gp.own ad.wf aI;have rW:=gp.appd aI b9;have B7:=bw.appd (show bw ab (.slice aG aF aD) from bA) gq.own ad.wf aI;have s1:=gq.appd aI bA;have B8:=bw.appd (show bw ab dW from (bw.symm e6)) gs.own ad.wf aI;have s2:=gs.appd aI (bw.symm e6);have B9:=aM.appd (show aM ab rw from aP) fl ad.wf aI;have hZ:=fl.appd aI (show aM ab rw from aP);have n2:=aI.cell a3 gD;refine x4 _ _ (aU.list (L:=[(⟨b6,4,none⟩,a2)]) Y (al n2 bf)) ?_;refine cG.l Z Z Z (fun _ _ x5 _=>aQ (c:=[num ((c:Nat):Int)]) aI.wf rfl (aJ d9 c0 z3 rfl U U rfl) fun A400 HV aS=>?_);have HF:=hZ.ne_new aI.wf aS.lo;have oz:=aS.le.get _ _ EC;have oF:=aS.le.get _ _ EG;have kD:=rT.le aS.le;have kK:=rV.le aS.le;have kL:=rW.le aS.le;have kM:=s1.le aS.le;have kP:=s2.le aS.le;have kT:=rS.le aS.le;have i1:=hZ.le aS.le;have wm:=am aS.le n2;have yT:=yS.trans aS.le;refine x5 _ _ (aU.list (L:=[(⟨b6,4,none⟩,a2)]) Y (al wm bf)) ?_;refine cG.l Z Z Z (fun _ _ x6 _=>cQ (ys:=[num ((c:Nat):Int)]) rfl rfl d9 c0 mf z3 rfl U d9 (fun _ h=>by cases h) kK.own (bZ (n:=1) aS.get Z) rfl rfl (by show (_ + _) * 8<=_;simp only [aH,List.length_cons,List.length_nil];(try simp only [List.length_append,List.length_cons,List.length_nil]);omega) O2 fun A421 K2 b2=>?_);rw [show ([num ((c:Nat):Int)]:List Value)=cI [((c:Nat):Int)] from rfl,dp] at b2;obtain ⟨s3,z0⟩:=Fresh.grow kK yT wf b2;have EL:=b2.keep a9 oz;have Av:=b2.ne a9 aS.wf oz;have EN:=b2.keep ai oF;have gY:=b2.ne ai aS.wf oF;have nE:=bw.appd (show bw a2 rv from (bw.symm aY)) kD.own aS.wf b2;have s4:=kD.appd b2 (bw.symm aY);have Ba:=bw.appd (show bw a2 nv from ba) kL.own aS.wf b2;have s5:=kL.appd b2 ba;have Bb:=bw.appd (show bw a2 (.slice aG aF aD) from bB) kM.own aS.wf b2;have s6:=kM.appd b2 bB;have Bc:=bw.appd (show bw a2 dW from (bw.symm e7)) kP.own aS.wf b2;have sb:=kP.appd b2 (bw.symm e7);have Bd:=bw.appd (show bw a2 H4 from (bw.symm nD)) kT.own aS.wf b2;have kV:=kT.appd b2 (bw.symm nD);have Bk:=aM.appd (show aM a2 rw from aR) i1 aS.wf b2;have pp:=i1.appd b2 (show aM a2 rw from aR);refine x6 _ _ (aU.none Y) ?_;refine cG.q Z Z Z (cJ Z) ?_;refine cG.q Z Z Z (aj qe fj U Z) ?_;obtain ⟨hd,gM,g3,GE,_⟩:=kV.own.slice;subst GE;refine cG.l Z Z Z (fun _ _ x7 _=>bh (cs:=[.slice hd gM g3]) (c':=[num ((k:Nat):Int),.slice aG aF aD,nv,.slice hd gM g3,a2]) b2.wf rfl rfl rfl rfl fj EN (Nat.le_of_ble_eq_true rfl) rfl rfl fun A447 bV=>?_);have EQ:=bV.keep _ _ aA.symm EL;have sf:=s4.keep bV.keep a0;have sr:=s5.keep bV.keep a4;have ss:=s6.keep bV.keep a1;have sv:=sb.keep bV.keep di;have sz:=kV.keep bV.keep gX;have l0:=s3.keep bV.keep gY;have pv:=pp.keep bV.keep a8;have z1:=aw z0 wf cC bV.n bV.keep;refine x7 _ _ (aU.none Y) ?_;refine cG.q Z Z Z (cJ Z) ?_;refine cG.q Z Z Z (aj qf fj U Z) ?_;obtain ⟨hJ,hE,ht,GF,_⟩:=l0.own.slice;subst GF;refine cG.l Z Z Z (fun _ _ x8 _=>bh (cs:=[.slice hJ hE ht]) (c':=[num ((k:Nat):Int),.slice aG aF aD,nv,.slice hd gM g3,.slice hJ hE ht]) bV.wf rfl rfl rfl rfl fj bV.get (Nat.le_of_ble_eq_true rfl) rfl rfl fun A460 bY=>?_);have ES:=bY.keep _ _ aA.symm EQ;have sB:=sf.keep bY.keep a0;have sF:=sr.keep bY.keep a4;have sN:=ss.keep bY.keep a1;have sP:=sv.keep bY.keep di;have sR:=sz.keep bY.keep gX;have sS:=l0.keep bY.keep gY;have pA:=pv.keep bY.keep a8;have z2:=aw z1 wf cC bY.n bY.keep;refine x8 _ _ (aU.none Y) ?_;refine cG.done ?_;refine hy _ _<|.region<|.q Z (ah Z)<|.q Z (ah Z)<|.q Z (ah Z) ?_;obtain ⟨eL,IH,Id,H1,HN,dw,p0,Dv,K9,Gn,J2,G6⟩:=sB.at1 (x:=c) OJ;rw [aH] at p0;refine Ops.q Z (aE d9 c0 Z dw Z (by rw [p0];(try simp only [List.length_set]);omega))<|.l Z (fun _ _ x9 _=>bh (off:=c) (c':=H1.set c (num ((Q1.length:Nat):Int))) bY.wf rfl (by simp) rfl rfl c0 Dv (by show c + 1<=_;omega) rfl rfl fun A473 cK=>?_);have ET:=cK.keep _ _ (fun q=>a5 (by rw [dw];exact congrArg some q.symm)) ES;have EV:=cK.keep _ _ (fun q=>a0 (by rw [dw];exact congrArg some q.symm)) bY.get;have sT:=sF.keep cK.keep (aC eL (by rw [dw];rfl));have sV:=sN.keep cK.keep (aZ eL (by rw [dw];rfl));have sZ:=sP.keep cK.keep ((bw.symm e5) eL (by rw [dw];rfl));have t0:=sR.keep cK.keep ((bw.symm nC) eL (by rw [dw];rfl));have t1:=sS.keep cK.keep ((bw.symm nE) eL (by rw [dw];rfl));have pE:=pA.keep cK.keep (fun r hr=>ag r hr eL (by rw [dw];rfl));have l1:=G6 (num ((Q1.length:Nat):Int)) A473 cK;rw [gU] at l1;have zi:=aw z2 wf Gn cK.n cK.keep;refine x9 _ _<|.nil<|fq _ _<|.region<|.q Z (bz (b:=1) Z Z O)<|.q Z (ah Z)<|.nil ?_;exact ⟨⟨c + 1,r ++ [(Q1.length:Int)],(o.set c ((-1))).set c (((Q1.length:Nat):Int)),Q1 ++ [(step (Q1.getD i 0) c).getD 0],fi ++ [((i:Nat):Int)],bl ++ [((c:Nat):Int)],fd,g6,rv,dW,.slice hd gM g3,.slice hJ hE ht⟩,tn Z Z Z Z Z Z Z Z Z Z Z,Z,⟨⟨by omega,wK hexp (by rw [<- hgi];exact jS ‹_›) ‹_›,by simp;omega,by rw [ho,<- hrl];exact qc O,gL,gC,fD,by simp;omega,by simp;omega,hpre.trans (List.prefix_append _ _)⟩,zi,l1,sZ,t0,t1,sT,sV,ET,EV,a5,gS,At,Av,aB,az,a0,di,gX,gY,a4,a1,(bw.symm e5),(bw.symm nC),(bw.symm nE),aC,aZ,(bw.symm B8),(bw.symm Bc),hh,hj,(bw.symm Bd),B6,B7,Ba,Bb,bP,pE,bb,a8,ag,hl,B9,Bk,bC,bL⟩,O1⟩
    refine fun _ _ xa _=>aQ (c:=[num ((c:Nat):Int)]) ad.wf rfl (aJ d9 c0 z3 rfl U U rfl) fun A487 HW ap=>?_;have AD:=fn.own.ne_new ad.wf ap.lo;have HG:=fl.ne_new ad.wf ap.lo;have oI:=ap.le.get _ _ hz;have oJ:=ap.le.get _ _ hA;have EX:=ap.le.get _ _ ad.get;have l2:=gl.le ap.le;have l3:=fn.le ap.le;have l4:=gm.le ap.le;have l6:=gp.le ap.le;have l7:=gq.le ap.le;have l9:=gs.le ap.le;have i2:=fl.le ap.le;have wp:=am ap.le n1;have n3:=am ap.le gD;have zs:=nl.trans ap.le;refine xa _ _ (aU.list (L:=[(⟨b6,4,none⟩,a2),(⟨b6,3,none⟩,ab)]) Y (al n3 (al wp bf))) ?_;refine cG.l Z Z Z (fun _ _ xf _=>cQ (ys:=[num ((i:Nat):Int)]) rfl rfl d9 c0 mf z3 rfl U d9 (fun _ h=>by cases h) l3.own (bZ (n:=1) EX Z) rfl rfl (by show (_ + _) * 8<=_;simp only [aH,List.length_cons,List.length_nil];(try simp only [List.length_append,List.length_cons,List.length_nil]);omega) O2 fun A510 H5 a6=>?_);rw [show ([num ((i:Nat):Int)]:List Value)=cI [((i:Nat):Int)] from rfl,dp] at a6;obtain ⟨lb,zI⟩:=Fresh.grow l3 zs wf a6;have oK:=a6.keep aa oI;have Ay:=a6.ne aa ap.wf oI;have oN:=a6.keep a3 oJ;have gZ:=a6.ne a3 ap.wf oJ;have EY:=a6.keep AD ap.get;have nH:=bw.appd (show bw ab rv from (bw.symm aV)) l2.own ap.wf a6;have lp:=l2.appd a6 (bw.symm aV);have nJ:=bw.appd (show bw ab a2 from bu) l4.own ap.wf a6;have lt:=l4.appd a6 bu;have Bl:=bw.appd (show bw ab nv from b9) l6.own ap.wf a6;have lw:=l6.appd a6 b9;have Bm:=bw.appd (show bw ab (.slice aG aF aD) from bA) l7.own ap.wf a6;have lB:=l7.appd a6 bA;have Bo:=bw.appd (show bw ab dW from (bw.symm e6)) l9.own ap.wf a6;have lC:=l9.appd a6 (bw.symm e6);have Bp:=aM.appd (show aM ab rw from aP) i2 ap.wf a6;have ih:=i2.appd a6 (show aM ab rw from aP);have wy:=a6.cell a3 n3;refine xf _ _ (aU.list (L:=[(⟨b6,4,none⟩,a2)]) Y (al wy bf)) ?_;refine cG.l Z Z Z (fun _ _ xn _=>cQ (ys:=[num ((c:Nat):Int)]) rfl rfl d9 c0 mf z3 rfl U d9 (fun _ h=>by cases h) lt.own (bZ (n:=1) EY Z) rfl rfl (by show (_ + _) * 8<=_;simp only [aH,List.length_cons,List.length_nil];(try simp only [List.length_append,List.length_cons,List.length_nil]);omega) O2 fun A538 K3 b3=>?_);rw [show ([num ((c:Nat):Int)]:List Value)=cI [((c:Nat):Int)] from rfl,dp] at b3;obtain ⟨t2,zS⟩:=Fresh.grow lt zI wf b3;have EZ:=b3.keep a9 oK;have Az:=b3.ne a9 a6.wf oK;have F2:=b3.keep ai oN;have h0:=b3.ne ai a6.wf oN;have nK:=bw.appd (show bw a2 rv from (bw.symm aY)) lp.own a6.wf b3;have t3:=lp.appd b3 (bw.symm aY);have Br:=bw.appd (show bw a2 nv from ba) lw.own a6.wf b3;have t4:=lw.appd b3 ba;have Bs:=bw.appd (show bw a2 (.slice aG aF aD) from bB) lB.own a6.wf b3;have t5:=lB.appd b3 bB;have Bt:=bw.appd (show bw a2 dW from (bw.symm e7)) lC.own a6.wf b3;have t6:=lC.appd b3 (bw.symm e7);have Bu:=bw.appd (show bw a2 H5 from (bw.symm nJ)) lb.own a6.wf b3;have lE:=lb.appd b3 (bw.symm nJ);have Bv:=aM.appd (show aM a2 rw from aR) ih a6.wf b3;have pF:=ih.appd b3 (show aM a2 rw from aR);refine xn _ _ (aU.none Y) ?_;refine cG.q Z Z Z (cJ Z) ?_;refine cG.q Z Z Z (aj qe fj U Z) ?_;obtain ⟨he,gN,g4,GG,_⟩:=lE.own.slice;subst GG;refine cG.l Z Z Z (fun _ _ xr _=>bh (cs:=[.slice he gN g4]) (c':=[num ((k:Nat):Int),.slice aG aF aD,nv,.slice he gN g4,a2]) b3.wf rfl rfl rfl rfl fj F2 (Nat.le_of_ble_eq_true rfl) rfl rfl fun A564 c3=>?_);have F3:=c3.keep _ _ aA.symm EZ;have t7:=t3.keep c3.keep a0;have t8:=t4.keep c3.keep a4;have t9:=t5.keep c3.keep a1;have tb:=t6.keep c3.keep di;have ti:=lE.keep c3.keep gZ;have lF:=t2.keep c3.keep h0;have pI:=pF.keep c3.keep a8;have zV:=aw zS wf cC c3.n c3.keep;refine xr _ _ (aU.none Y) ?_;refine cG.q Z Z Z (cJ Z) ?_;refine cG.q Z Z Z (aj qf fj U Z) ?_;obtain ⟨hK,hF,hu,GL,_⟩:=lF.own.slice;subst GL;refine cG.l Z Z Z (fun _ _ xt _=>bh (cs:=[.slice hK hF hu]) (c':=[num ((k:Nat):Int),.slice aG aF aD,nv,.slice he gN g4,.slice hK hF hu]) c3.wf rfl rfl rfl rfl fj c3.get (Nat.le_of_ble_eq_true rfl) rfl rfl fun A577 c4=>?_);have F4:=c4.keep _ _ aA.symm F3;have tj:=t7.keep c4.keep a0;have ts:=t8.keep c4.keep a4;have tt:=t9.keep c4.keep a1;have tw:=tb.keep c4.keep di;have tz:=ti.keep c4.keep gZ;have tB:=lF.keep c4.keep h0;have pJ:=pI.keep c4.keep a8;have A5:=aw zV wf cC c4.n c4.keep;refine xt _ _ (aU.none Y) ?_;refine cG.done ?_;refine hy _ _<|.region<|.q Z (ah Z)<|.q Z (ah Z)<|.q Z (ah Z) ?_;obtain ⟨eN,IN,If,H2,HO,dz,p5,Dw,Kc,Go,J3,G7⟩:=tj.at1 (x:=c) OJ;rw [aH] at p5;refine Ops.q Z (aE d9 c0 Z dz Z (by rw [p5];(try simp only [List.length_set]);omega))<|.l Z (fun _ _ xv _=>bh (off:=c) (c':=H2.set c (num ((Q1.length:Nat):Int))) c4.wf rfl (by simp) rfl rfl c0 Dw (by show c + 1<=_;omega) rfl rfl fun A590 cP=>?_);have F6:=cP.keep _ _ (fun q=>a5 (by rw [dz];exact congrArg some q.symm)) F4;have F7:=cP.keep _ _ (fun q=>a0 (by rw [dz];exact congrArg some q.symm)) c4.get;have tI:=ts.keep cP.keep (aC eN (by rw [dz];rfl));have tJ:=tt.keep cP.keep (aZ eN (by rw [dz];rfl));have tO:=tw.keep cP.keep ((bw.symm e5) eN (by rw [dz];rfl));have tS:=tz.keep cP.keep ((bw.symm nH) eN (by rw [dz];rfl));have tT:=tB.keep cP.keep ((bw.symm nK) eN (by rw [dz];rfl));have pL:=pJ.keep cP.keep (fun r hr=>ag r hr eN (by rw [dz];rfl));have lK:=G7 (num ((Q1.length:Nat):Int)) A590 cP;rw [gU] at lK;have A6:=aw A5 wf Go cP.n cP.keep;refine xv _ _<|.nil<|fq _ _<|.region<|.q Z (bz (b:=1) Z Z O)<|.q Z (ah Z)<|.nil ?_;exact ⟨⟨c + 1,r ++ [(Q1.length:Int)],(o.set c ((-1))).set c (((Q1.length:Nat):Int)),Q1 ++ [(step (Q1.getD i 0) c).getD 0],fi ++ [((i:Nat):Int)],bl ++ [((c:Nat):Int)],fd,g6,rv,dW,.slice he gN g4,.slice hK hF hu⟩,tn Z Z Z Z Z Z Z Z Z Z Z,Z,⟨⟨by omega,wK hexp (by rw [<- hgi];exact jS ‹_›) ‹_›,by simp;omega,by rw [ho,<- hrl];exact qc O,gL,gC,fD,by simp;omega,by simp;omega,hpre.trans (List.prefix_append _ _)⟩,A6,lK,tO,tS,tT,tI,tJ,F6,F7,a5,gS,Ay,Az,aB,az,a0,di,gZ,h0,a4,a1,(bw.symm e5),(bw.symm nH),(bw.symm nK),aC,aZ,(bw.symm Bo),(bw.symm Bt),hh,hj,(bw.symm Bu),Bl,Bm,Br,Bs,bP,pL,bb,a8,ag,hl,Bp,Bv,bC,bL⟩,O1⟩
   refine fun _ _ xA _=>aQ (c:=[num ((c:Nat):Int)]) ar.wf rfl (aJ d9 c0 z3 rfl U U rfl) fun A604 HX br=>?_;have AF:=gg.own.ne_new ar.wf br.lo;have HH:=fe.ne_new ar.wf br.lo;have F9:=br.le.get _ _ oy;have Fd:=br.le.get _ _ eV;have tW:=km.le br.le;have tY:=gg.le br.le;have tZ:=kp.le br.le;have u0:=kv.le br.le;have u1:=kC.le br.le;have u8:=kl.le br.le;have it:=fe.le br.le;have n4:=am br.le mV;have n6:=am br.le mX;have A8:=nk.trans br.le;refine xA _ _ (aU.list (L:=[(⟨b6,4,none⟩,a2),(⟨b6,3,none⟩,ab)]) Y (al n6 (al n4 bf))) ?_;refine cG.l Z Z Z (fun _ _ xF _=>aQ (c:=[num ((i:Nat):Int)]) br.wf rfl (aJ d9 c0 z3 rfl U U rfl) fun A627 HY ay=>?_);have HI:=it.ne_new br.wf ay.lo;have oP:=ay.le.get _ _ F9;have oQ:=ay.le.get _ _ Fd;have Fe:=ay.le.get _ _ br.get;have lO:=tW.le ay.le;have lP:=tY.le ay.le;have lT:=tZ.le ay.le;have lV:=u0.le ay.le;have lW:=u1.le ay.le;have lX:=u8.le ay.le;have iv:=it.le ay.le;have wz:=am ay.le n4;have n7:=am ay.le n6;have A9:=A8.trans ay.le;refine xF _ _ (aU.list (L:=[(⟨b6,4,none⟩,a2),(⟨b6,3,none⟩,ab)]) Y (al n7 (al wz bf))) ?_;refine cG.l Z Z Z (fun _ _ xN _=>cQ (ys:=[num ((i:Nat):Int)]) rfl rfl d9 c0 mf z3 rfl U d9 (fun _ h=>by cases h) lP.own (bZ (n:=1) ay.get Z) rfl rfl (by show (_ + _) * 8<=_;simp only [aH,List.length_cons,List.length_nil];(try simp only [List.length_append,List.length_cons,List.length_nil]);omega) O2 fun A650 H6 a7=>?_);rw [show ([num ((i:Nat):Int)]:List Value)=cI [((i:Nat):Int)] from rfl,dp] at a7;obtain ⟨lY,Aa⟩:=Fresh.grow lP A9 wf a7;have oR:=a7.keep aa oP;have AA:=a7.ne aa ay.wf oP;have oS:=a7.keep a3 oQ;have h1:=a7.ne a3 ay.wf oQ;have Fi:=a7.keep AF Fe;have nL:=bw.appd (show bw ab rv from (bw.symm aV)) lO.own ay.wf a7;have lZ:=lO.appd a7 (bw.symm aV);have nM:=bw.appd (show bw ab a2 from bu) lT.own ay.wf a7;have m1:=lT.appd a7 bu;have By:=bw.appd (show bw ab nv from b9) lV.own ay.wf a7;have m2:=lV.appd a7 b9;have BA:=bw.appd (show bw ab (.slice aG aF aD) from bA) lW.own ay.wf a7;have m3:=lW.appd a7 bA;have BB:=bw.appd (show bw ab dW from (bw.symm e6)) lX.own ay.wf a7;have m6:=lX.appd a7 (bw.symm e6);have BC:=aM.appd (show aM ab rw from aP) iv ay.wf a7;have iD:=iv.appd a7 (show aM ab rw from aP);have wC:=a7.cell a3 n7;refine xN _ _ (aU.list (L:=[(⟨b6,4,none⟩,a2)]) Y (al wC bf)) ?_;refine cG.l Z Z Z (fun _ _ xR _=>cQ (ys:=[num ((c:Nat):Int)]) rfl rfl d9 c0 mf z3 rfl U d9 (fun _ h=>by cases h) m1.own (bZ (n:=1) Fi Z) rfl rfl (by show (_ + _) * 8<=_;simp only [aH,List.length_cons,List.length_nil];(try simp only [List.length_append,List.length_cons,List.length_nil]);omega) O2 fun A678 K4 b5=>?_);rw [show ([num ((c:Nat):Int)]:List Value)=cI [((c:Nat):Int)] from rfl,dp] at b5;obtain ⟨ub,Ab⟩:=Fresh.grow m1 Aa wf b5;have Fl:=b5.keep a9 oR;have AB:=b5.ne a9 a7.wf oR;have Fm:=b5.keep ai oS;have h3:=b5.ne ai a7.wf oS;have nN:=bw.appd (show bw a2 rv from (bw.symm aY)) lZ.own a7.wf b5;have ui:=lZ.appd b5 (bw.symm aY);have BD:=bw.appd (show bw a2 nv from ba) m2.own a7.wf b5;have up:=m2.appd b5 ba;have BL:=bw.appd (show bw a2 (.slice aG aF aD) from bB) m3.own a7.wf b5;have us:=m3.appd b5 bB;have BM:=bw.appd (show bw a2 dW from (bw.symm e7)) m6.own a7.wf b5;have uB:=m6.appd b5 (bw.symm e7);have BP:=bw.appd (show bw a2 H6 from (bw.symm nM)) lY.own a7.wf b5;have mb:=lY.appd b5 (bw.symm nM);have BR:=aM.appd (show aM a2 rw from aR) iD a7.wf b5;have pP:=iD.appd b5 (show aM a2 rw from aR);refine xR _ _ (aU.none Y) ?_;refine cG.q Z Z Z (cJ Z) ?_;refine cG.q Z Z Z (aj qe fj U Z) ?_;obtain ⟨hg,gP,g5,GM,_⟩:=mb.own.slice;subst GM;refine cG.l Z Z Z (fun _ _ xS _=>bh (cs:=[.slice hg gP g5]) (c':=[num ((k:Nat):Int),.slice aG aF aD,nv,.slice hg gP g5,a2]) b5.wf rfl rfl rfl rfl fj Fm (Nat.le_of_ble_eq_true rfl) rfl rfl fun A704 c7=>?_);have Fn:=c7.keep _ _ aA.symm Fl;have uI:=ui.keep c7.keep a0;have uP:=up.keep c7.keep a4;have uS:=us.keep c7.keep a1;have v0:=uB.keep c7.keep di;have v1:=mb.keep c7.keep h1;have me:=ub.keep c7.keep h3;have pS:=pP.keep c7.keep a8;have Ac:=aw Ab wf cC c7.n c7.keep;refine xS _ _ (aU.none Y) ?_;refine cG.q Z Z Z (cJ Z) ?_;refine cG.q Z Z Z (aj qf fj U Z) ?_;obtain ⟨hL,hG,hv,GN,_⟩:=me.own.slice;subst GN;refine cG.l Z Z Z (fun _ _ xT _=>bh (cs:=[.slice hL hG hv]) (c':=[num ((k:Nat):Int),.slice aG aF aD,nv,.slice hg gP g5,.slice hL hG hv]) c7.wf rfl rfl rfl rfl fj c7.get (Nat.le_of_ble_eq_true rfl) rfl rfl fun A717 cc=>?_);have Fo:=cc.keep _ _ aA.symm Fn;have v2:=uI.keep cc.keep a0;have v3:=uP.keep cc.keep a4;have v4:=uS.keep cc.keep a1;have v5:=v0.keep cc.keep di;have v6:=v1.keep cc.keep h1;have v7:=me.keep cc.keep h3;have pV:=pS.keep cc.keep a8;have Ad:=aw Ac wf cC cc.n cc.keep;refine xT _ _ (aU.none Y) ?_;refine cG.done ?_;refine hy _ _<|.region<|.q Z (ah Z)<|.q Z (ah Z)<|.q Z (ah Z) ?_;obtain ⟨eQ,IO,Ih,H3,HP,dD,p6,Dz,Kd,Gp,J4,G8⟩:=v2.at1 (x:=c) OJ;rw [aH] at p6;refine Ops.q Z (aE d9 c0 Z dD Z (by rw [p6];(try simp only [List.length_set]);omega))<|.l Z (fun _ _ xV _=>bh (off:=c) (c':=H3.set c (num ((Q1.length:Nat):Int))) cc.wf rfl (by simp) rfl rfl c0 Dz (by show c + 1<=_;omega) rfl rfl fun A730 cS=>?_);have Fq:=cS.keep _ _ (fun q=>a5 (by rw [dD];exact congrArg some q.symm)) Fo;have Fs:=cS.keep _ _ (fun q=>a0 (by rw [dD];exact congrArg some q.symm)) cc.get;have v8:=v3.keep cS.keep (aC eQ (by rw [dD];rfl));have v9:=v4.keep cS.keep (aZ eQ (by rw [dD];rfl));have vC:=v5.keep cS.keep ((bw.symm e5) eQ (by rw [dD];rfl));have vS:=v6.keep cS.keep ((bw.symm nL) eQ (by rw [dD];rfl));have vX:=v7.keep cS.keep ((bw.symm nN) eQ (by rw [dD];rfl));have q0:=pV.keep cS.keep (fun r hr=>ag r hr eQ (by rw [dD];rfl));have mm:=G8 (num ((Q1.length:Nat):Int)) A730 cS;rw [gU] at mm;have Af:=aw Ad wf Gp cS.n cS.keep;refine xV _ _<|.nil<|fq _ _<|.region<|.q Z (bz (b:=1) Z Z O)<|.q Z (ah Z)<|.nil ?_;exact ⟨⟨c + 1,r ++ [(Q1.length:Int)],(o.set c ((-1))).set c (((Q1.length:Nat):Int)),Q1 ++ [(step (Q1.getD i 0) c).getD 0],fi ++ [((i:Nat):Int)],bl ++ [((c:Nat):Int)],fd,g6,rv,dW,.slice hg gP g5,.slice hL hG hv⟩,tn Z Z Z Z Z Z Z Z Z Z Z,Z,⟨⟨by omega,wK hexp (by rw [<- hgi];exact jS ‹_›) ‹_›,by simp;omega,by rw [ho,<- hrl];exact qc O,gL,gC,fD,by simp;omega,by simp;omega,hpre.trans (List.prefix_append _ _)⟩,Af,mm,vC,vS,vX,v8,v9,Fq,Fs,a5,gS,AA,AB,aB,az,a0,di,h1,h3,a4,a1,(bw.symm e5),(bw.symm nL),(bw.symm nN),aC,aZ,(bw.symm BB),(bw.symm BM),hh,hj,(bw.symm BP),By,BA,BD,BL,bP,q0,bb,a8,ag,hl,BC,BR,bC,bL⟩,O1⟩
  refine an.exit<|DW _ _<|.region<|.q Z (ah Z)<|.q Z (ah Z)<|.q Z (cJ Z)<|.q Z (aj oD iy U Z)<|.q Z (ak jC Z Z eg Z)<|.q Z (ah Z) ?_;obtain ⟨f0,eY,eS,GP,_⟩:=dI.own.slice;subst GP;refine Ops.l Z (fun _ _ y0 _=>aQ (c:=[.slice f0 eY eS]) fo rfl (aJ mZ fj Iq rfl U U rfl) fun A744 HZ aT=>?_);have AG:=dI.own.ne_new fo aT.lo;have AP:=ec.ne_new fo aT.lo;have oV:=aT.le.get _ _ f6;have oW:=aT.le.get _ _ eg;have mt:=dI.le aT.le;have mv:=f4.le aT.le;have mx:=f3.le aT.le;have mB:=f2.le aT.le;have mE:=f1.le aT.le;have mK:=e9.le aT.le;have iF:=ec.le aT.le;have Ag:=nd.trans aT.le;refine y0 _ _<|.l Z (fun _ _ y1 _=>cQ (ys:=[.slice f0 eY eS]) rfl rfl mZ fj Dn Iq rfl U mZ (fun _ h=>by cases h) mE.own (bZ (n:=1) aT.get Z) rfl rfl (by show (_ + _) * 24<=_;simp only [cm,List.length_cons,List.length_nil];(try simp only [List.length_append,List.length_cons,List.length_nil]);omega) Ov fun A765 K5 b7=>?_);rw [show ([.slice f0 eY eS]:List Value)=d6 [Value.slice f0 eY eS] from rfl,od] at b7;obtain ⟨mM,Ai⟩:=Fresh.grow mE Ag wf b7;have Ft:=b7.keep aB oV;have AC:=b7.ne aB aT.wf oV;have Fv:=b7.keep a4 oW;have nq:=b7.ne a4 aT.wf oW;have BT:=bw.appd (show bw nv (.slice f0 eY eS) from (bw.symm aC)) mt.own aT.wf b7;have vZ:=mt.appd b7 (bw.symm aC);have BU:=bw.appd (show bw nv bM from (bw.symm cv)) mv.own aT.wf b7;have w0:=mv.appd b7 (bw.symm cv);have BV:=bw.appd (show bw nv ab from (bw.symm b9)) mx.own aT.wf b7;have w1:=mx.appd b7 (bw.symm b9);have BY:=bw.appd (show bw nv a2 from (bw.symm ba)) mB.own aT.wf b7;have w2:=mB.appd b7 (bw.symm ba);have C1:=bw.appd (show bw nv (.slice aG aF aD) from bP) mK.own aT.wf b7;have w3:=mK.appd b7 bP;have C2:=aM.appd (show aM nv rw from bC) iF aT.wf b7;have q1:=iF.appd b7 (show aM nv rw from bC);have q2:=q1.snoc vZ ag;have AR:=bb.snoc a5;have nB:=a8.snoc a0;have HJ:=AP.snoc AG;have C3:=bS.snoc (bw.symm bO);have C4:=aP.snoc (bw.symm aV);have C7:=aR.snoc (bw.symm aY);have Cc:=bL.snoc (bw.symm aZ);have Ch:=C2.snoc BT;refine y1 _ _<|.q Z (cJ Z)<|.q Z (aj oD iy U Z) ?_;obtain ⟨hM,hH,hw,GQ,_⟩:=mM.own.slice;subst GQ;refine Ops.l Z (fun _ _ y2 _=>bh (cs:=[.slice hM hH hw]) (c':=[num ((k:Nat):Int),.slice aG aF aD,.slice hM hH hw,ab,a2]) b7.wf rfl rfl rfl rfl iy Fv (Nat.le_of_ble_eq_true rfl) rfl rfl fun A799 cX=>?_);have FD:=cX.keep _ _ aA.symm Ft;have w4:=w0.keep cX.keep bD;have w5:=w1.keep cX.keep a3;have w6:=w2.keep cX.keep ai;have w7:=w3.keep cX.keep a1;have wc:=mM.keep cX.keep nq;have q3:=q2.keep cX.keep nB;have Ap:=aw Ai wf cC cX.n cX.keep;refine y2 _ _<|.nil ?_;have fmR:=lI q3 (show R ++ [o]=R ++ [r] from by rw [ho,show k - c=0 by omega];simp);refine Ht _ _<|.region<|.q Z (ah Z)<|.q Z (bz (b:=1) Z Z O)<|.q Z (ae Z)<|.nil ?_;exact ⟨⟨i + 1,Q1,ac ++ [accf (Q.getD i 0)],fi,bl,es,ck,f - 1,bM,.slice aG aF aD,.slice hM hH hw,ab,a2,rw ++ [Value.slice f0 eY eS],R ++ [r]⟩,wJ Z Z Z Z Z Z Z Z,Z,⟨⟨by omega,by rw [hac,Kb hpre (show i + 1<=Q.length by omega)];exact qm (z:=(0:Int)) accf O,eX,fr,ft,yD O O hex (by rw [<- show c=k by omega];exact hexp),by omega,hC,hB,by simp;omega⟩,Ap,w4,w7,wc,w5,w6,FD,cX.get,bc,az,AC,aa,a9,bD,a1,nq,a3,ai,d2,(bw.symm BU),d0,d1,(bw.symm C1),(bw.symm bA),(bw.symm bB),BV,BY,bu,fmR,AR,nB,C3,Cc,Ch,C4,C7⟩,O1⟩
 refine an.exit<|Hp _ _<|.seq fun _ FE=>.region<|.q Z (ah Z)<|.q Z (ae Z)<|.q Z (ae Z)<|.nil<|FE _ _<|.rt (by exact aK Z (⟨b6,_,_,_,_,_,Z,hI,pa,e4,cC,cy fT (congrArg cg (by rw [hac,List.take_of_length_le O,<- hex,tp O O])),fV,lI fX (by rw [<- hex,tp O O]),dS,dV,dJ,ev,dO,ex⟩))
end Go.Proofs.YtjppkekmddjcfaaGreatDoor

namespace Go.Proofs.YtjppkekmddjcfaaGreatDoor
open Go Go.RowKit V
set_option maxRecDepth 100000
theorem o7:dk Tryz.prog 62=some true:=by kernel_rfl
theorem jx:dc Tryz.prog 62=some 4:=by kernel_rfl

theorem Lz (s:Int) (c:Nat) (b cap:Nat) (rw:Bool) (k:Nat) (acc:List Bool) (L:List (List Int)) (av nv:Value) (rows:List Value) (A:AH) (hb:A.get b=some (.row rw [num (k:Int),num ((0:Nat):Int),av,nv] cap)) (hok:Ir k acc L) (hav:bH A 1 av (cg acc)) (hnv:bH A 1 nv (d6 rows)) (hrl:rows.length=L.length) (hF:∀ i,i < L.length->bH A 1 (rows.getD i undef) (cI (L.getD i []))) (hs:s < L.length) (hc:c < k):bF Tryz.prog 150 #[num (s),num ((c:Nat):Int),.pointer (some ⟨b,0,none⟩)] A (fun v A1=>v=.tuple #[num ((mJ L s c).getD 0),.bool (mJ L s c).isSome]/\A.le A1/\A1.wf):=by
 refine tm Tryz.call150 Tryz.func150 Z Tryz.results150 Tryz.ntmps150 Z (fun wf=>?_);have h:=AH.le.refl A;refine an.seq fun _ h2=>.region<|.q Z (ae Z)<|.q Z (ae Z)<|.nil<|h2 _ _<|.seq fun _ h4=>.region<|.q Z (aq o7 jx Z Z (h.get _ _ hb) Z)<|.q Z (ah Z) ?_;refine Ops.q Z (ah Z)<|.l Z (fun _ _ X _=>ax Z (Li k acc L av nv rows s c A hok (hav.le h) (hnv.le h) hrl (fun i hi=>(hF i hi).le h) O O) ?_);rintro v6 A7 ⟨rfl,D,V⟩;have a0:=h.trans D;refine X _ _<|.q Z (ae Z)<|.q Z (ae Z)<|.nil<|h4 _ _<|.rt (by exact aK Z (⟨Z,a0,V⟩))

theorem LA (s:Int) (b cap:Nat) (rw:Bool) (k:Nat) (acc:List Bool) (L:List (List Int)) (av nv:Value) (rows:List Value) (A:AH) (hb:A.get b=some (.row rw [num (k:Int),num ((0:Nat):Int),av,nv] cap)) (hok:Ir k acc L) (hav:bH A 1 av (cg acc)) (hnv:bH A 1 nv (d6 rows)) (hrl:rows.length=L.length) (hF:∀ i,i < L.length->bH A 1 (rows.getD i undef) (cI (L.getD i []))) (hs:s < L.length):bF Tryz.prog 152 #[num (s),.pointer (some ⟨b,0,none⟩)] A (fun v A1=>v=.bool (decide (0<=s) && acc.getD s.toNat false)/\A.le A1/\A1.wf):=by
 refine jE Tryz.call152 Tryz.func152 Z Tryz.results152 Tryz.ntmps152 Z (fun wf=>?_);have h:=AH.le.refl A;obtain ⟨⟨a1,a2⟩,hal,⟨X,a0⟩,hrow,hval⟩:=hok;refine an.seq fun _ h2=>.region<|.q Z (ae Z)<|.nil<|h2 _ _<|.seq fun _ h4=>.region<|.q Z (ah Z)<|.q Z (k8 Z Z)<|.q Z (ah Z) ?_;refine Ops.part (t:=6) Z (fun p5=>?_) (fun p5=>?_)
 ·refine Ops.on Z Z<|.q Z (aj kF ie U Z)<|.on Z Z<|.q Z (ak ib Z Z (h.get _ _ hb) Z)<|.on Z Z<|.q Z (ah Z)<|.on Z Z ?_;obtain ⟨b6,f6,a4,r6,a3,n6,k6,e6,l6,g6,V,D⟩:=bH.at (i:=(s).toNat) (hav.le h) Oi O;refine Ops.q Z (aE kW lA Z e6 (iJ O) l6)<|.on Z Z<|.q Z (ak sY Z Z g6 ((cN D).trans (dY O)))<|.q Z (aL Z Z)<|.q Z (ae Z)<|.nil<|h4 _ _<|.rt (by exact aK Z (⟨by first | (rw [decide_eq_true O];rfl) | (rw [decide_eq_false O];rfl) | simp_all [dR],h,wf⟩))
 refine Ops.off Z Z Z Z<|.off Z Z Z Z<|.off Z Z Z Z<|.off Z Z Z Z<|.off Z Z Z Z<|.q Z (aW Z Z)<|.q Z (ae Z)<|.nil<|h4 _ _<|.rt (by exact aK Z (⟨by first | (rw [decide_eq_true O];rfl) | (rw [decide_eq_false O];rfl) | simp_all [dR],h,wf⟩))

theorem OM (k:Nat) (acc:List Bool) (L:List (List Int)) (av nv:Value) (rows:List Value) (A:AH) (hok:Ir k acc L) (hav:bH A 1 av (cg acc)) (hnv:bH A 1 nv (d6 rows)) (hrl:rows.length=L.length) (hF:∀ i,i < L.length->bH A 1 (rows.getD i undef) (cI (L.getD i []))):bF Tryz.prog 118 #[.agg #[num ((k:Nat):Int),num ((0:Nat):Int),av,nv]] A (fun v A1=>∃ b av2 nv2 fv bv rows2,v=.pointer (some ⟨b,0,none⟩)/\A.le A1/\A1.wf/\A1.get b=some (.row true [num (k:Int),av2,nv2,fv,bv] 5)/\A.get b=none/\Fresh A A1 av2 1 (cg (uD k acc L))/\Fresh A A1 nv2 1 (d6 rows2)/\gy A A1 rows2 (gv k L).2/\blk av2 ≠ some b/\blk nv2 ≠ some b/\dA rows2 b/\bw av2 nv2/\aM av2 rows2/\aM nv2 rows2):=by
 refine gw Tryz.call118 Tryz.func118 Z Tryz.results118 Tryz.ntmps118 Z (fun wf=>?_);have aP:=AH.le.refl A;have a0:=hok;obtain ⟨⟨b0,b1⟩,hal,⟨aY,aZ⟩,hrow,hval⟩:=hok;refine an.seq fun _ h2=>.region<|.l Z (fun _ _ aI _=>dy wf rfl rfl fun A5 b4 V=>?_);have X:=aP.trans V.le;refine aI _ _<|.q Z (ae Z)<|.nil<|h2 _ _<|.seq fun _ h9=>.drawn [0,1,2,3,4,5,6,8,9,7,10,11,12,13,14,15] mixed Y Y Z<|.q Z Z Z (aj rd c0 U Z) ?_;have ai:=bQ (off:=0) V.get (show _=some (num ((k:Nat):Int)) from rfl);refine be.q Z Z Z (ak eB Z Z V.get Z)<|.q Z Z Z (aj kF ie U Z) ?_;have ap:=bQ (off:=2) V.get (show _=some (av) from rfl);refine be.q Z Z Z (ak ib Z Z V.get Z)<|.q Z Z Z (bE (n:=acc.length) kW Z (hav.le X) O (eP _))<|.q Z Z Z (bz (b:=2) Z Z O)<|.q Z Z Z (aq o7 jx Z Z V.get Z)<|.q Z Z Z (ll Z Z)<|.q Z Z Z (ll Z Z)<|.l Z Z Z (fun _ _ az _=>ax Z (Lj k acc L av nv rows A5 a0 (hav.le X) (hnv.le X) hrl (fun i hi=>(hF i hi).le X)) ?_);rintro b2 A18 ⟨rfl,D,aV⟩;have ag:=D.get _ _ V.get;have ar:=am D ai;have ay:=am D ap;have h:=X.trans D;refine az _ _ (aU.list (L:=[(⟨b4,2,none⟩,av),(⟨b4,0,none⟩,num ((k:Nat):Int))]) Y (al ay (al ar bf)))<|.l Z Z Z (fun _ _ aA _=>ax Z (wa k (acc.length + 2) (L.length + 1) (L.length + 2) (((0:Nat):Int)) 150 152 #[.pointer (some ⟨b4,0,none⟩)] #[.pointer (some ⟨b4,0,none⟩)] (mJ L) (fun s=>decide (0<=s) && acc.getD s.toNat false) (fun q=>-1<=q/\q < (L.length:Int)) A18 O ⟨by omega,by omega,by omega⟩ ⟨by omega,by omega⟩ (fun q c t hq hc hs=>by simp only [mJ,Option.some.injEq] at hs;subst hs;split;exact ⟨by omega,by omega⟩;have:=hval q.toNat c O hc;exact ⟨by omega,by omega⟩) (fun Q hn hQ=>px hn hQ) (fun q c B hq hc le wfB=>Lz q c b4 _ _ k acc L av nv rows B (le.get _ _ ag) a0 (hav.le (h.trans le)) (hnv.le (h.trans le)) hrl (fun i hi=>(hF i hi).le (h.trans le)) O hc) (fun q B hq le wfB=>LA q b4 _ _ k acc L av nv rows B (le.get _ _ ag) a0 (hav.le (h.trans le)) (hnv.le (h.trans le)) hrl (fun i hi=>(hF i hi).le (h.trans le)) O)) ?_);rintro b3 A30 ⟨aT,aC,aR,aF,aD,aS,rfl,ac,ad,a4,a3,a1,a5,a2,a6,a7,a8,a9,aa,ab⟩;have aB:=h.trans ac;have xr:=a4;have xn:=a3;have xa:=a1;have xv:=a5;have xf:=a2;have y1:=a6;have y2:=a7;have y3:=a8;have y4:=a9;have y5:=aa;have y6:=ab;refine aA _ _ (aU.none Y)<|.q Z Z Z (ah Z)<|.q Z Z Z (bk Z Z)<|.q Z Z Z (bk Z Z)<|.q Z Z Z (ae Z)<|.q Z Z Z (ae Z)<|.done<|h9 _ _<|.seq fun _ aG=>.region ?_;refine Ops.q Z (ah Z)<|.q Z (ae Z)<|.nil<|aG _ _<|.rt (by exact aK Z (⟨_,_,_,_,_,_,Z,aB,ad,a4,qq h a3,a1.base h,a5.base h,a2.base h,a6,a7,a8,a9,aa,ab⟩))
end Go.Proofs.YtjppkekmddjcfaaGreatDoor

namespace Go.Proofs.YtjppkekmddjcfaaGreatDoor
open Go Go.RowKit V
def pg (ws:List Wd):Nat:=(ws.map List.length).sum
theorem Bh (a:List Wd) (w:Wd):pg (a ++ [w])=pg a + w.length:=by simp [pg]
theorem Bi (ws:List Wd) (i:Nat):pg (ws.take i)<=pg ws:=by
  unfold pg
  conv=>rhs;rw [<- List.take_append_drop i ws]
  rw [List.map_append,List.sum_append];omega
structure TI (k:Nat) (ws:List Wd) (i:Nat) (L:List (List Int)) (E:List Bool):Prop where
  run:ux k (ws.take i)=(L,E)
  tri:∃ W,Pk k L E W ((ws.take i).map Cy)
  num:L.length<=1 + pg (ws.take i)
section
variable {k i:Nat} {ws:List Wd} {L L0:List (List Int)} {E E0:List Bool} {W S:List (List Nat)} {d:Int}
theorem TI.start:TI k ws 0 ([] ++ [Ah k]) ([] ++ [false]) :=
  ⟨rfl,⟨[[]],⟨Ae.start k,TW.start,(fun w h=>by cases h),fun m hm=>by
    obtain rfl:m=0:=by simp at hm;omega
    exact ⟨fun h=>by simp at h,fun h=>by cases h⟩⟩⟩,by simp⟩
theorem TI.ok (h:TI k ws i L E):Ae k L E/\0 < L.length:=by
  obtain ⟨W,hT⟩:=h.tri
  exact ⟨hT.ok,by have:=hT.tw.pos;have:=hT.tw.len;omega⟩
theorem TI.len (h:TI k ws i L E):E.length=L.length:=h.ok.1.len
theorem TI.next (h:TI k ws i L E) (hi:i < ws.length) (hw:∀ c ∈ ws.getD i [],0<=ix c/\ix c < k):TI k ws (i + 1) (uQ k L E (ws.getD i [])) (uO k L E (ws.getD i [])):=by
  obtain ⟨W,hT⟩:=h.tri
  obtain ⟨W1,h1,h2⟩:=hT.add hw
  have e:ws.take (i + 1)=ws.take i ++ [ws.getD i []]:=(fz (z:=[]) hi).symm
  refine ⟨?_,⟨W1,?_⟩,?_⟩
  · have hr:=h.run
    rw [e,ux,List.foldl_append]
    show (fun t w=>(uQ k t.1 t.2 w,uO k t.1 t.2 w)) (ux k (ws.take i)) (ws.getD i [])=_
    rw [hr]
  · rw [e,List.map_append];exact h1
  · rw [e,Bh];have:=h.num;omega
theorem TI.bound (h:TI k ws i L E):L.length<=1 + pg ws:=Nat.le_trans h.num (by have:=Bi ws i;omega)
end
structure BO (k:Nat) (L0:List (List Int)) (W S:List (List Nat)) (R:BS) (i:Nat) (L:List (List Int)) (E:List Bool) (F Q:List Int):Prop where
  tw:TW k L0 W
  sub:∀ w ∈ S,w ∈ W
  ne:[] ∉ S
  inv:BI k L0 W S ⟨L,E,F,Q⟩ i 0
  fin:∃ f,f + i=W.length + 1/\Rl k f i ⟨L,E,F,Q⟩=R
structure BN (k:Nat) (L0:List (List Int)) (W S:List (List Nat)) (R:BS) (i:Nat) (L:List (List Int)) (E:List Bool) (F Q:List Int) (x:Nat) (L1:List (List Int)) (E1:List Bool) (F1 Q1:List Int):Prop where
  out:BO k L0 W S R i L E F Q
  lt:i < Q.length
  inv:BI k L0 W S ⟨L1,E1,F1,Q1⟩ i x
  run:(List.range x).foldl (tc (Q.getD i 0).toNat) ⟨L,E,F,Q⟩=⟨L1,E1,F1,Q1⟩
  pre:Q <+: Q1
section
variable {k i x:Nat} {L L1 L0:List (List Int)} {E E0 E1:List Bool} {F Q F1 Q1:List Int} {W S:List (List Nat)} {R:BS} {ws:List Wd} {d:Int}
abbrev uN (L1:List (List Int)) (E1:List Bool) (F1 Q1:List Int) (n x:Nat):Int:=ka ⟨L1,E1,F1,Q1⟩ n x
theorem BO.start {ws:List Wd} (h:TI k ws ws.length L E) (hne:∀ w ∈ ws,w ≠ []):∃ W,BO k L W (ws.map Cy) (An k ws) 0 L E (List.replicate L.length 0) [0]:=by
  obtain ⟨W,hT⟩:=h.tri
  have e:ws.take ws.length=ws:=List.take_length
  rw [e] at hT
  have hr:=h.run
  rw [e] at hr
  have hl:=hT.tw.len
  have hn:([]:List Nat) ∉ ws.map Cy:=fun q=>by
    obtain ⟨w,hw,q⟩:=List.mem_map.1 q
    exact hne w hw (List.map_eq_nil_iff.1 q)
  refine ⟨W,hT.tw,hT.sub,hn,by rw [<- hl];exact BI.start hT hn,W.length + 1,Z,?_⟩
  rw [An,hr,hl]
theorem BO.lens (h:BO k L0 W S R i L E F Q):L.length=W.length/\E.length=W.length/\F.length=W.length/\Q.length<=W.length/\L0.length=W.length:=⟨h.inv.len.1,h.inv.len.2.1,h.inv.len.2.2,h.inv.qlen,h.tw.len.symm⟩
theorem BO.at (h:BO k L0 W S R i L E F Q) (hi:i < Q.length):0<=Q.getD i 0/\(Q.getD i 0).toNat < W.length/\(L.getD (Q.getD i 0).toNat []).length=k:=by
  have h1:0<=Q.getD i 0/\Q.getD i 0 < W.length:=h.inv.qr i hi
  have h2:=h.inv.row (Q.getD i 0).toNat O
  exact ⟨h1.1,by omega,h2⟩
theorem BN.start (h:BO k L0 W S R i L E F Q) (hi:i < Q.length):BN k L0 W S R i L E F Q 0 L E F Q:=⟨h,hi,h.inv,rfl,List.prefix_refl _⟩
theorem BN.q (h:BN k L0 W S R i L E F Q x L1 E1 F1 Q1):Q1.getD i 0=Q.getD i 0/\i < Q1.length:=⟨tP h.pre h.lt,Nat.lt_of_lt_of_le h.lt h.pre.length_le⟩
theorem BN.lens (h:BN k L0 W S R i L E F Q x L1 E1 F1 Q1):L1.length=W.length/\E1.length=W.length/\F1.length=W.length/\Q1.length<=W.length/\L0.length=W.length:=⟨h.inv.len.1,h.inv.len.2.1,h.inv.len.2.2,h.inv.qlen,h.out.tw.len.symm⟩
theorem BN.facts (h:BN k L0 W S R i L E F Q x L1 E1 F1 Q1):0<=Q.getD i 0/\(Q.getD i 0).toNat < W.length/\(L1.getD (Q.getD i 0).toNat []).length=k:=by
  have h1:=h.out.at h.lt
  exact ⟨h1.1,h1.2.1,h.inv.row _ h1.2.1⟩
theorem BN.fail (h:BN k L0 W S R i L E F Q x L1 E1 F1 Q1) (hn:Q.getD i 0 ≠ 0):0<=F1.getD (Q.getD i 0).toNat 0/\(F1.getD (Q.getD i 0).toNat 0).toNat < W.length/\(L1.getD (F1.getD (Q.getD i 0).toNat 0).toNat []).length=k:=by
  have hq:=h.q
  have D:0 < i:=by
    rcases Nat.eq_zero_or_pos i with q | q
    · subst q;have h0:Q1.getD 0 0=0:=h.inv.q0.2;rw [hq.1] at h0;exact absurd h0 hn
    · exact q
  have h1:0<=F1.getD (Q1.getD i 0).toNat 0/\F1.getD (Q1.getD i 0).toNat 0 < W.length:=(fun z=>⟨z.1,z.2.1⟩) (h.inv.fl i D hq.2)
  rw [hq.1] at h1
  exact ⟨h1.1,by omega,h.inv.row _ O⟩
theorem BN.to (h:BN k L0 W S R i L E F Q x L1 E1 F1 Q1) (hx:x < k):0<=uN L1 E1 F1 Q1 (Q.getD i 0).toNat x/\(uN L1 E1 F1 Q1 (Q.getD i 0).toNat x).toNat < W.length:=by
  have hq:=h.q
  have h1:0<=uN L1 E1 F1 Q1 (Q1.getD i 0).toNat x/\uN L1 E1 F1 Q1 (Q1.getD i 0).toNat x < W.length:=(fun z=>⟨z.1,z.2.1⟩) (h.inv.to h.out.tw hq.2 hx)
  rw [hq.1] at h1
  omega
theorem BN.met (h:BN k L0 W S R i L E F Q x L1 E1 F1 Q1) (hx:x < k) (hm:0<=(L1.getD (Q.getD i 0).toNat []).getD x 0):((L1.getD (Q.getD i 0).toNat []).getD x 0).toNat < W.length:=by
  have hq:=h.q
  have hf:=h.facts
  have e:gB L1 (Q.getD i 0).toNat x=gB L0 (Q.getD i 0).toNat x:=h.inv.same _ x hf.2.1 hx fun a ha ea=>by
    have e2:qn ⟨L1,E1,F1,Q1⟩ a=qn ⟨L1,E1,F1,Q1⟩ i:=by rw [ea];show _=(Q1.getD i 0).toNat;rw [hq.1]
    exact .inr ⟨h.inv.qd a i ha hq.2 e2,Nat.le_refl _⟩
  have:=h.out.tw.is (Q.getD i 0).toNat x hf.2.1 hx (by rw [<- e];exact hm)
  rw [<- e] at this
  exact this.1
theorem Ed {n:Int} (h:¬ n=0) (h0:0<=n):num ((L1.getD (F1.getD n.toNat 0).toNat []).getD x 0)=num (uN L1 E1 F1 Q1 n.toNat x):=by
  show _=num (ka _ _ _);rw [ka,if_neg O]
theorem LQ {n:Int} (h:¬ ¬ n=0):num ((0:Nat):Int)=num (uN L1 E1 F1 Q1 n.toNat x):=by
  have:=Decidable.not_not.1 h;subst this;rfl
theorem BN.step (h:BN k L0 W S R i L E F Q x L1 E1 F1 Q1) (hx:x < k) {L2:List (List Int)} {E2:List Bool} {F2 Q2:List Int} (e:tc (Q.getD i 0).toNat ⟨L1,E1,F1,Q1⟩ x=⟨L2,E2,F2,Q2⟩) (hp:Q1 <+: Q2):BN k L0 W S R i L E F Q (x + 1) L2 E2 F2 Q2:=by
  have hq:=h.q
  refine ⟨h.out,h.lt,?_,?_,h.pre.trans hp⟩
  · have:=h.inv.step h.out.tw h.out.sub h.out.ne hq.2 hx
    rw [show qn ⟨L1,E1,F1,Q1⟩ i=(Q.getD i 0).toNat by show (Q1.getD i 0).toNat=_;rw [hq.1],e] at this
    exact this
  · rw [List.range_succ,List.foldl_append,h.run];exact e
theorem BN.neg (h:BN k L0 W S R i L E F Q x L1 E1 F1 Q1) (hx:x < k) (hm:(L1.getD (Q.getD i 0).toNat []).getD x 0 < 0):BN k L0 W S R i L E F Q (x + 1) (L1.set (Q.getD i 0).toNat ((L1.getD (Q.getD i 0).toNat []).set x (uN L1 E1 F1 Q1 (Q.getD i 0).toNat x))) E1 F1 Q1 :=
  h.step hx (by rw [tc,if_pos hm]) (List.prefix_refl _)
theorem BN.pos (h:BN k L0 W S R i L E F Q x L1 E1 F1 Q1) (hx:x < k) (hm:¬ (L1.getD (Q.getD i 0).toNat []).getD x 0 < 0) {c:Bool} (hc:c=(E1.getD ((L1.getD (Q.getD i 0).toNat []).getD x 0).toNat false || E1.getD (uN L1 E1 F1 Q1 (Q.getD i 0).toNat x).toNat false)) :
    BN k L0 W S R i L E F Q (x + 1) L1 (E1.set ((L1.getD (Q.getD i 0).toNat []).getD x 0).toNat c) (F1.set ((L1.getD (Q.getD i 0).toNat []).getD x 0).toNat (uN L1 E1 F1 Q1 (Q.getD i 0).toNat x)) (Q1 ++ [(L1.getD (Q.getD i 0).toNat []).getD x 0]):=by
  subst hc
  exact h.step hx (by rw [tc,if_neg hm]) (List.prefix_append _ _)
theorem BO.next (h:BN k L0 W S R i L E F Q x L1 E1 F1 Q1) (hx:x=k):BO k L0 W S R (i + 1) L1 E1 F1 Q1:=by
  subst hx
  have hq:=h.q
  obtain ⟨f,hf,e⟩:=h.out.fin
  have hl:=h.out.inv.qlen
  have hlt:=h.lt
  have D:Q.length<=W.length:=hl
  obtain ⟨f,rfl⟩:∃ g,f=g + 1:=⟨f - 1,by omega⟩
  refine ⟨h.out.tw,h.out.sub,h.out.ne,h.inv.next hq.2,f,by omega,?_⟩
  rw [Rl,if_pos (by exact hlt)] at e
  have e2:Rm x ⟨L,E,F,Q⟩ i=⟨L1,E1,F1,Q1⟩:=h.run
  rw [e2] at e;exact e
theorem BO.fin' (h:BO k L0 W S R i L E F Q) (hi:Q.length<=i):R=⟨L,E,F,Q⟩/\Re k L E W S:=by
  obtain ⟨f,hf,e⟩:=h.fin
  have hl:=h.inv.qlen
  refine ⟨?_,h.inv.aho h.tw h.sub hi⟩
  rw [<- e]
  cases f with
  | zero=>rfl
  | succ f=>rw [Rl,if_neg (by show ¬ i < Q.length;omega)]
def ni (E:List Bool) (r:List Int) (x:Nat):List Int:=ei E (r.take x) ++ r.drop x
def mc (E:List Bool) (L:List (List Int)) (s x:Nat):List (List Int):=(L.take s).map (ei E) ++ (match L.drop s with | []=>[] | r :: t=>ni E r x :: t)
theorem mH (E:List Bool) (r:List Int):(ei E r).length=r.length:=by simp [ei]
theorem yw {r:List Int}:(ni E r x).length=r.length:=by simp [ni,ei];omega
theorem vi {r:List Int}:ni E r 0=r:=by simp [ni,ei]
theorem I7 {r:List Int} (h:r.length<=x):ni E r x=ei E r:=by simp [ni,List.take_of_length_le h,List.drop_eq_nil_of_le h]
theorem MU {r:List Int} {y:Nat} (hx:x<=y) (hy:y < r.length):(ni E r x).getD y 0=r.getD y 0:=by
  simp only [ni,List.getD_eq_getElem?_getD]
  rw [List.getElem?_append_right (by rw [mH,List.length_take];omega),List.getElem?_drop,mH,List.length_take]
  congr 2;omega
theorem vh {r:List Int} (hx:x < r.length):ni E r (x + 1)=if E.getD (r.getD x 0).toNat false then (ni E r x).set x (-1) else ni E r x:=by
  have e1:r.take (x + 1)=r.take x ++ [r.getD x 0]:=(fz (z:=0) hx).symm
  have e2:r.drop x=r.getD x 0 :: r.drop (x + 1):=rJ hx
  have hl:(ei E (r.take x)).length=x:=by rw [mH,List.length_take];omega
  have e3:ei E (r.take x ++ [r.getD x 0])=ei E (r.take x) ++ [if E.getD (r.getD x 0).toNat false then -1 else r.getD x 0]:=by simp only [ei,List.map_append,List.map_cons,List.map_nil]
  have e4:ni E r x=ei E (r.take x) ++ r.getD x 0 :: r.drop (x + 1):=by rw [<- e2];rfl
  have e5:ni E r (x + 1)=ei E (r.take x) ++ (if E.getD (r.getD x 0).toNat false then -1 else r.getD x 0) :: r.drop (x + 1):=by
    show ei E (r.take (x + 1)) ++ r.drop (x + 1)=_
    rw [e1,e3,List.append_assoc];rfl
  rw [e5,e4]
  split
  · rw [List.set_append_right _ _ O,hl,Nat.sub_self,List.set_cons_zero]
  · rfl
theorem md {s:Nat} (h:s < L.length):L.drop s=L.getD s [] :: L.drop (s + 1):=rJ h
theorem yu {s:Nat}:(mc E L s x).length=L.length:=by
  unfold mc
  rcases Nat.lt_or_ge s L.length with h | h
  · rw [md h];simp;omega
  · rw [List.drop_eq_nil_of_le h];simp;omega
theorem AM:mc E L 0 0=L:=by
  cases L with
  | nil=>rfl
  | cons r t=>show [] ++ ni E r 0 :: t=_;rw [vi];rfl
theorem p3 {s:Nat} (h:s < L.length):(mc E L s x).getD s []=ni E (L.getD s []) x:=by
  unfold mc;rw [md h]
  have hl:((L.take s).map (ei E)).length=s:=by simp;omega
  simp only [List.getD_eq_getElem?_getD]
  rw [List.getElem?_append_right O,hl,Nat.sub_self];rfl
theorem yv {s:Nat} (h:s < L.length) (hx:x < (L.getD s []).length) (he:E.getD ((L.getD s []).getD x 0).toNat false=true):(mc E L s x).set s (((mc E L s x).getD s []).set x (-1))=mc E L s (x + 1):=by
  rw [p3 h]
  unfold mc;rw [md h]
  have hl:((L.take s).map (ei E)).length=s:=by simp;omega
  rw [List.set_append_right _ _ O,hl,Nat.sub_self]
  show _ ++ _ :: _=_ ++ _ :: _
  rw [vh hx,if_pos he]
theorem Dc {s:Nat} (h:s < L.length) (hx:x < (L.getD s []).length) (he:E.getD ((L.getD s []).getD x 0).toNat false=false):mc E L s x=mc E L s (x + 1):=by
  unfold mc;rw [md h]
  show _ ++ _ :: _=_ ++ _ :: _
  rw [vh hx,he];rfl
theorem EF {s:Nat} (h:s < L.length) (hx:(L.getD s []).length<=x):mc E L s x=mc E L (s + 1) 0:=by
  unfold mc
  rw [md h,<- fz (z:=[]) h,List.map_append]
  show _ ++ ni E _ x :: _=_
  rw [I7 hx,List.append_assoc]
  congr 1
  show _=[ei E (L.getD s [])] ++ _
  rw [List.singleton_append];congr 1
  cases L.drop (s + 1) with
  | nil=>rfl
  | cons r t=>show _=ni E r 0 :: t;rw [vi]
theorem I6 {s:Nat} (h:L.length<=s):mc E L s x=L.map (ei E):=by
  unfold mc
  rw [List.drop_eq_nil_of_le h,List.take_of_length_le h];simp
theorem EE {s:Nat} (h:s < L.length) (hx:x < (L.getD s []).length):((mc E L s x).getD s []).getD x 0=(L.getD s []).getD x 0:=by
  rw [p3 h,MU (Nat.le_refl _) hx]
end
end Go.Proofs.YtjppkekmddjcfaaGreatDoor

namespace Go.Proofs.YtjppkekmddjcfaaGreatDoor
open Go Go.RowKit V
def wH:List UInt8:=[48,49,50,51,52,53,54,55,56,57,97,98,99,100,101,102,103,104,105,106,107,108,109,110,111,112,113,114,115,116,117,118,119,120,121,122]
def rg:Nat->Nat->List UInt8
  | 0,_=>[]
  | f + 1,n=>if n < 36 then [wH.getD n 0] else rg f (n / 36) ++ [wH.getD (n % 36) 0]
def gO (n:Nat):List UInt8:=rg 13 n
theorem yH:∀ (f n:Nat),(rg f n).length<=f
  | 0,_=>Nat.le_refl _
  | f + 1,n=>by
    unfold rg;split
    · simp
    · have:=yH f (n / 36);simp;omega
theorem rf (n:Nat):(gO n).length<=13:=yH 13 n
def Ee (c:UInt8):Nat:=wH.idxOf c
theorem sx:∀ d,d < 36->Ee (wH.getD d 0)=d/\wH.getD d 0 ≠ 32/\wH.getD d 0 ≠ 45:=by decide
theorem sA:∀ (f n:Nat),∀ c ∈ rg f n,c ≠ 32/\c ≠ 45
  | 0,_,_,h=>by cases h
  | f + 1,n,c,h=>by
    unfold rg at h;split at h
    · rename_i q;rw [List.mem_singleton] at h;subst h;exact (sx n q).2
    · rcases List.mem_append.1 h with q | q
      · exact sA f _ c q
      · rw [List.mem_singleton] at q;subst q;exact (sx _ (Nat.mod_lt _ U)).2
def Ef (l:List UInt8):Nat:=l.foldl (fun a c=>a * 36 + Ee c) 0
theorem pR:∀ (f n:Nat),n < 36 ^ f->Ef (rg f n)=n
  | 0,n,h=>by simp at h;subst h;rfl
  | f + 1,n,h=>by
    unfold rg;split
    · rename_i q;show 0 * 36 + Ee _=n;rw [(sx n q).1];omega
    · have:=pR f (n / 36) (by rw [Nat.pow_succ] at h;exact Nat.div_lt_of_lt_mul O)
      rw [Ef,List.foldl_append]
      show Ef (rg f (n / 36)) * 36 + Ee _=n
      rw [this,(sx _ (Nat.mod_lt _ U)).1];omega
theorem EW {a b:Nat} (ha:a < 1000000) (hb:b < 1000000) (h:gO a=gO b):a=b:=by
  have h1:=pR 13 a (Nat.lt_of_lt_of_le ha U)
  have h2:=pR 13 b (Nat.lt_of_lt_of_le hb U)
  rw [<- h1,<- h2];exact congrArg Ef h
structure sO (n m i:Nat) (l:List UInt8):Prop where
  len:l.length=65
  eq:∃ f,f + 52=i/\0 < f/\f<=13/\gO n=rg f m ++ l.drop i/\m < 36 ^ f
  le:m<=n
section
variable {n m i f:Nat} {l:List UInt8}
theorem sO.start (hn:n<=1000000):sO n n 65 (List.replicate 65 0):=⟨by simp,⟨13,rfl,by decide,by decide,by simp [gO],Nat.lt_of_le_of_lt hn U⟩,Nat.le_refl _⟩
theorem sO.idx (h:sO n m i l):53<=i/\i<=65:=by obtain ⟨f,h1,h2,h3,_⟩:=h.eq;omega
theorem yz {l:List UInt8} {j:Nat} {c:UInt8} (h:j < l.length):(l.set j c).drop j=c :: l.drop (j + 1):=by
  rw [List.drop_eq_getElem_cons (by simpa using h),List.drop_set_of_lt O]
  simp
theorem sO.next (h:sO n m i l) (hm:36<=m):sO n (m / 36) (i - 1) (l.set (i - 1) (wH.getD (m - m / 36 * 36) 0))/\54<=i:=by
  obtain ⟨f,h1,h2,h3,h4,h5⟩:=h.eq
  have hf:2<=f:=by
    rcases Nat.lt_or_ge f 2 with q | q
    · obtain rfl:f=1:=by omega
      omega
    · exact q
  obtain ⟨f,rfl⟩:∃ g,f=g + 1:=⟨f - 1,by omega⟩
  refine ⟨⟨by simpa using h.len,⟨f,by omega,by omega,by omega,?_,by rw [Nat.pow_succ] at h5;exact Nat.div_lt_of_lt_mul O⟩,Nat.le_trans (Nat.div_le_self _ _) h.le⟩,by omega⟩
  rw [h4,rg,if_neg O,yz (by rw [h.len];omega),show i - 1 + 1=i by omega,List.append_assoc]
  rw [show m - m / 36 * 36=m % 36 by omega];rfl
theorem sO.last (h:sO n m i l) (hm:m < 36):(l.set (i - 1) (wH.getD m 0)).drop (i - 1)=gO n:=by
  obtain ⟨f,h1,h2,h3,h4,h5⟩:=h.eq
  obtain ⟨f,rfl⟩:∃ g,f=g + 1:=⟨f - 1,by omega⟩
  rw [h4,rg,if_pos hm,yz (by rw [h.len];omega),show i - 1 + 1=i by omega];rfl
end
abbrev vd (n:Nat):Value:=.int .u64 (n:Int)
section
variable {P:Program} {e:ga} {A:AH} {x y:Operand} {t t':TypeId} {a b:Nat}
theorem CR {n:Int} (h:0<=n/\n<=18446744073709551615):IntKind.u64.wrap n=n:=IntWalk.u64_in n h
theorem Kh {k k₀:IntKind} (hs:P.underlying t=some (.int k₀)) (hd:P.underlying t'=some (.int .u64)) (h:bX e x=some (.int k (a:Nat))) (hr:a<=18446744073709551615):aO P e A (.convert t t' x)=some (vd a,[]) :=
  Kg hs hd h (CR O)
theorem RM (h:bX e x=some (vd a)) (h':bX e y=some (vd b)) (hr:b<=a/\a<=18446744073709551615):aO P e A (.binOp .sub t x y t')=some (vd (a - b),[]):=by
  refine xx U U h h' ?_
  refine congrArg (fun z=>some (Value.int .u64 z)) ?_
  rw [CR O];omega
theorem RI (h:bX e x=some (vd a)) (h':bX e y=some (vd b)) (hr:a * b<=18446744073709551615):aO P e A (.binOp .mul t x y t')=some (vd (a * b),[]):=by
  refine xx U U h h' ?_
  refine congrArg (fun z=>some (Value.int .u64 z)) ?_
  have:((a * b:Nat):Int)=(a:Int) * b:=Int.natCast_mul a b
  rw [CR (by rw [<- this];omega)];simp
theorem RK (h:bX e x=some (vd a)) (h':bX e y=some (vd b)) (hr:1<=b/\a<=18446744073709551615):aO P e A (.binOp .quo t x y t')=some (vd (a / b),[]):=by
  refine xx U U h h' ?_
  show (if (b:Int)=0 then none else _)=_
  rw [if_neg O]
  refine congrArg (fun z=>some (Value.int .u64 z)) ?_
  rw [IntWalk.u64_quo _ _ O];simp
end
section
variable {P:Program} {nt:Nat} {all:Array Oper} {os:List Oper} {Q:Exit->Fr->AH->Prop} {e:ga} {ds:List Deferred} {A:AH} {x lo:Operand} {t el:TypeId} {ty:TypeId} {ps:String} {af:Array Edge} {dst:Option Nat} {b n j:Nat}
theorem V.Ops.sliceArr (hd:fP nt dst=true) (hu:P.underlying t=some (.array n el)) (hs:dc P el=some 1) (hx:bX e x=some (.pointer (some ⟨b,0,none⟩))) (hlo:bX e lo=some (num (j:Nat))) (hj:j < n)
    (h:Ops P nt all os Q ⟨fc e dst (.slice (some ⟨b,j,none⟩) (n - j) (n - j)),ds⟩ A):Ops P nt all ({ dst:=dst,op:=.slice t x (some lo) none none,type:=ty,pos:=ps,after:=af,guard:=none } :: os) Q ⟨e,ds⟩ A:=by
  refine Ops.val Z hd (fun a ha w hw=>?_) h
  have h1:=cE ha hx
  have h2:=cE ha hlo
  simp only [execOp,h1,Option.map_some,h2,Option.map_none]
  have hb:=pN (P:=P) (w:=w) (isS:=false) (len:=n) (cap:=n) (lo:=some (some (num (j:Nat)))) (hi:=none) (lo':=some (num (j:Nat))) (hi':=none) (l:=(j:Int)) (h:=(n:Int)) (fun v q=>by cases q;exact ⟨_,rfl,rfl⟩) (fun q=>by cases q) (fun v q=>by cases q) (fun _=>rfl) Z Z O O O
  have hne:n ≠ j:=by omega
  simp [Instr.sliceAt,cb hu,hb,dN hs,Instr.sureAddr,Addr.add,hne]
  intro z;omega
end
theorem Rj:MA .and .i64 ((36:Nat):Int) ((35:Nat):Int)=some (num ((32:Nat):Int)):=by
  have key:IntKind.i64.wrap ((BitVec.ofInt 64 ((36:Nat):Int) &&& BitVec.ofInt 64 ((35:Nat):Int)).toNat:Int)=((32:Nat):Int):=by decide
  show some (Value.int .i64 (IntKind.i64.wrap ((BitVec.ofInt 64 ((36:Nat):Int) &&& BitVec.ofInt 64 ((35:Nat):Int)).toNat:Int)))=_
  rw [key]
theorem OQ {A:AH} {b cap j:Nat} {rw:Bool} {c:List Value} (h:A.get b=some (.row rw c cap)) (hj:j<=c.length):bH A 1 (.slice (some ⟨b,j,none⟩) (c.length - j) (c.length - j)) (c.drop j) :=
  ⟨_,_,_,rfl,by simp,Nat.le_refl _,.inr ⟨b,j,rw,c,cap,rfl,h,by rw [Nat.mul_one,List.take_of_length_le (by simp)]⟩⟩
end Go.Proofs.YtjppkekmddjcfaaGreatDoor

namespace Go.Proofs.YtjppkekmddjcfaaGreatDoor
open Go Go.RowKit V
set_option maxRecDepth 100000
theorem u2:type_of% @Tryz.underlying2:=@Tryz.underlying2
theorem Sg:type_of% @Tryz.underlying201:=@Tryz.underlying201
theorem QT:type_of% @Tryz.underlying246:=@Tryz.underlying246
theorem Td:cx Tryz.prog 246=some (.agg #[.int .u8 0,.int .u8 0,.int .u8 0,.int .u8 0,.int .u8 0,.int .u8 0,.int .u8 0,.int .u8 0,.int .u8 0,.int .u8 0,.int .u8 0,.int .u8 0,.int .u8 0,.int .u8 0,.int .u8 0,.int .u8 0,.int .u8 0,.int .u8 0,.int .u8 0,.int .u8 0,.int .u8 0,.int .u8 0,.int .u8 0,.int .u8 0,.int .u8 0,.int .u8 0,.int .u8 0,.int .u8 0,.int .u8 0,.int .u8 0,.int .u8 0,.int .u8 0,.int .u8 0,.int .u8 0,.int .u8 0,.int .u8 0,.int .u8 0,.int .u8 0,.int .u8 0,.int .u8 0,.int .u8 0,.int .u8 0,.int .u8 0,.int .u8 0,.int .u8 0,.int .u8 0,.int .u8 0,.int .u8 0,.int .u8 0,.int .u8 0,.int .u8 0,.int .u8 0,.int .u8 0,.int .u8 0,.int .u8 0,.int .u8 0,.int .u8 0,.int .u8 0,.int .u8 0,.int .u8 0,.int .u8 0,.int .u8 0,.int .u8 0,.int .u8 0,.int .u8 0]):=by kernel_rfl

theorem QI (A:AH):bF Tryz.prog 213 #[num ((36:Nat):Int)] A (fun v A1=>v=.bool false/\A=A1):=by
 refine gw Tryz.call213 Tryz.func213 Z Tryz.results213 Tryz.ntmps213 Z (fun wf=>?_);have h:=AH.le.refl A;refine an.seq fun _ h2=>.region<|.q Z (ae Z)<|.nil<|h2 _ _<|.seq fun _ h4=>.region<|.q Z (ah Z)<|.q Z (ah Z)<|.q Z (gh (a:=36) (b:=1) Z Z O) ?_;refine Ops.q Z (xx U U Z Z Rj)<|.q Z (((kb (a:=32) (b:=0) Z Z).trans (congrArg (fun z=>some (Value.bool z,[])) (decide_eq_false U))))<|.q Z (ae Z)<|.nil<|h4 _ _<|.rt (by exact aK Z (⟨Z,Z⟩))

theorem GJ (u:Value) (o:List UInt8) (n:Nat) (A0 A:AH) (ac:A0.le A) (a7:A0.wf) (hu:Fresh A0 A u 1 (au o)) (ho:o.length<=100000000000) (hn:n<=1000000):bF Tryz.prog 210 #[u,.int .u64 ((n:Nat):Int),num ((36:Nat):Int),.bool (false),.bool (true)] A (fun v A1=>∃ w,v=.tuple #[w,bi []]/\A0.le A1/\A1.wf/\Fresh A0 A1 w 1 (au (o ++ gO n))):=by
 refine Tg Tryz.call210 Tryz.func210 Z Tryz.results210 Tryz.ntmps210 Z (fun wf=>?_);refine an.seq fun _ h2=>.region<|.q Z (ae Z)<|.q Z (ae Z)<|.nil<|h2 _ _<|.seq fun _ h4=>.seq fun _ h6=>.region<|.q Z (ah Z) ?_;refine Ops.q Z (((ca (a:=36) (b:=2) Z Z).trans (congrArg (fun z=>some (Value.bool z,[])) (decide_eq_false U))))<|.q Z (ah Z)<|.on Z Z<|.q Z (ah Z)<|.on Z Z<|.q Z (((kb (a:=36) (b:=10) Z Z).trans (congrArg (fun z=>some (Value.bool z,[])) (decide_eq_false U))))<|.q Z (aW Z Z)<|.q Z (ah Z)<|.on Z Z<|.q Z (ah Z) ?_;refine Ops.on Z Z<|.q Z (((ef (a:=36) (b:=36) Z Z).trans (congrArg (fun z=>some (Value.bool z,[])) (decide_eq_false U))))<|.q Z (aW Z Z)<|.nil<|h6 _ _<|.cond_false Z<|.skip<|h4 _ _<|.seq fun _ h8=>.region ?_;refine Ops.l Z (fun _ _ b8 _=>cu (cs:=au (List.replicate 65 0)) wf Td rfl fun A11 a8 a1=>?_);have aD:=hu.own.ne_new wf a1.lo;have a5:=aX a7 (Nat.le_trans ac.n a1.lo);have ad:=hu.le a1.le;have az:=ac.trans a1.le;refine b8 _ _<|.nil<|h8 _ _<|.seq fun _ aF=>.region<|.q Z (ae Z)<|.nil<|aF _ _<|.seq fun _ aG=>.seq fun _ aI=>?_;refine an.region<|.q Z (ah Z)<|.nil<|aI _ _<|.cond_false Z<|.skip<|aG _ _<|.seq fun _ aP=>.seq fun _ aR=>.region ?_;refine Ops.q Z (ah Z)<|.l Z (fun _ _ ap _=>ax Z (QI A11) ?_);rintro bb A28 ⟨rfl,rfl⟩;refine ap _ _<|.nil<|aR _ _<|.cond_false Z<|.seq fun _ aS=>.region<|.q Z (ah Z)<|.q Z (Kh u3 Sg Z O)<|.q Z (ae Z)<|.nil ?_;refine aS _ _<|.seq fun _ aT=>.block<|.loop (X:=Nat × Nat × List UInt8) (fun ⟨m,i,l⟩=>[(0,u),(1,.int .u64 ((m:Nat):Int)),(3,.bool (false)),(4,.bool (true)),(10,.slice none 0 0),(11,bi ([])),(12,.pointer (some ⟨a8,0,none⟩)),(13,num ((i:Nat):Int)),(17,.int .u64 ((36:Nat):Int))]) (fun ⟨m,i,l⟩ B=>(sO n m i l)/\A0.le B/\Fresh A0 B u 1 (au o)/\B.get a8=some (.row true (au l) 65)/\V.blk u ≠ some a8) (fun ⟨m,i,l⟩=>m) (⟨n,65,List.replicate 65 0⟩) (PM Z Z Z Z Z Z Z Z Z) (⟨sO.start hn,az,ad,a1.get,aD⟩) ?_;rintro ⟨m,i,l⟩ B35 ⟨hfm,aa,a4,a0,D⟩;refine an.wf fun ab=>?_;have hix:=hfm.idx;have hll:=hfm.len;have hmn:=hfm.le;have hnx:=fun q:36<=m=>hfm.next q;refine an.seq fun _ aV=>.seq fun _ aY=>.region<|.q Z (ah Z)<|.q Z (ah Z)<|.q Z (tQ (b:=36) Z Z)<|.nil<|aY _ _<|.if rfl (fun b9=>?_) (fun b9=>?_)
 ·refine an.skip<|aV _ _<|.block<|.seq fun _ aZ=>.region<|.q Z (ah Z)<|.q Z (gh (b:=1) Z Z (by (try have:=(hnx O).2);omega))<|.q Z (ae Z)<|.nil<|aZ _ _ ?_;refine an.seq fun _ b0=>.region<|.q Z (ah Z)<|.q Z (ah Z)<|.q Z (RK (b:=36) Z Z (by (try have:=(hnx O).2);omega))<|.q Z (ae Z)<|.nil<|b0 _ _<|.seq fun _ b1=>.region ?_;refine Ops.q Z (ah Z)<|.q Z (ah Z)<|.q Z (ah Z)<|.q Z (ah Z)<|.q Z (RI (b:=36) Z Z (by (try have:=(hnx O).2);omega))<|.q Z (RM Z Z (by (try have:=(hnx O).2);omega))<|.q Z (lM u9 Z Z (by simp only [List.length_cons,List.length_nil];omega))<|.q Z (iq (i:=i - 1) QT jU Z Z O)<|.l Z (fun _ _ ar _=>bh (off:=(i - 1)) ab rfl (by simp) rfl rfl jU a0 OK rfl (oB _ _ _) fun A49 a2=>?_);have ag:=a4.keep a2.keep D;have aA:=aw aa a7 a5 a2.n a2.keep;refine ar _ _<|.nil<|b1 _ _<|.region<|.q Z (ah Z)<|.q Z (ae Z)<|.nil ?_;exact ⟨⟨m / 36,i - 1,l.set ((i - 1)) (([48,49,50,51,52,53,54,55,56,57,97,98,99,100,101,102,103,104,105,106,107,108,109,110,111,112,113,114,115,116,117,118,119,120,121,122]).getD (m - ((m / 36) * 36)) 0)⟩,PM Z Z Z Z Z Z Z Z Z,Z,⟨(hnx ‹_›).1,aA,ag,a2.get,D⟩,O1⟩
 refine an.exit<|aT _ _<|.seq fun _ b2=>.region<|.q Z (ah Z)<|.q Z (gh (b:=1) Z Z (by (try have:=(hnx O).2);omega))<|.q Z (ae Z)<|.nil<|b2 _ _<|.region ?_;refine Ops.q Z (ah Z)<|.q Z (ah Z)<|.q Z (lM u9 Z Z (by simp only [List.length_cons,List.length_nil];omega))<|.q Z (iq (i:=i - 1) QT jU Z Z O)<|.l Z (fun _ _ av _=>bh (off:=(i - 1)) ab rfl (by simp) rfl rfl jU a0 OK rfl (oB _ _ _) fun A56 a3=>?_);have a9:=a4.keep a3.keep D;have aB:=aw aa a7 a5 a3.n a3.keep;refine av _ _<|.nil<|aP _ _<|.seq fun _ b3=>.seq fun _ b5=>.region<|.q Z (ah Z)<|.nil<|b5 _ _<|.cond_false Z ?_;refine an.skip<|b3 _ _<|.seq fun _ ba=>.seq fun _ b6=>.region<|.q Z (ah Z)<|.nil<|b6 _ _<|.cond_true Z<|.seq fun _ b7=>?_;have hlast:=hfm.last O;unfold wH at hlast;have hfl:=rf n;refine an.region<|.q Z (ah Z)<|.q Z (ah Z)<|.sliceArr (j:=i - 1) Y QT jU Z Z O ?_;have hsa:=OQ (j:=i - 1) a3.get (by simp only [aN,List.length_set];omega);simp only [aN,List.length_set,hfm.len,pu] at hsa;rw [hlast] at hsa;refine Ops.l Z (fun _ _ ay _=>cQ rfl rfl cR jU si z5 rfl U cR (fun _ h=>by cases h) a9.own (hsa.listOf (n:=(gO n).length) (by simp only [aN] <;> omega) O) (by simp only [aN] <;> omega) (Eu _) (by show (_ + _) * 1<=_;simp only [aN,List.length_cons,List.length_nil];(try simp only [List.length_append,List.length_cons,List.length_nil]);omega) O3 fun A71 bc a6=>?_);rw [ek] at a6;obtain ⟨ai,aC⟩:=Fresh.grow a9 aB a7 a6;refine ay _ _<|.q Z (ae Z)<|.nil<|b7 _ _<|.rt (by exact aK Z (⟨_,Z,aC,a6.wf,ai⟩))

theorem Qq (u:Value) (o:List UInt8) (n:Nat) (A0 A:AH) (a4:A0.le A) (a6:A0.wf) (hu:Fresh A0 A u 1 (au o)) (ho:o.length<=100000000000) (hn:n<=1000000):bF Tryz.prog 206 #[u,.int .u64 ((n:Nat):Int),num ((36:Nat):Int)] A (fun v A1=>A0.le A1/\A1.wf/\Fresh A0 A1 v 1 (au (o ++ gO n))):=by
 refine tm Tryz.call206 Tryz.func206 Z Tryz.results206 Tryz.ntmps206 Z (fun wf=>?_);refine an.seq fun _ h2=>.region<|.q Z (ae Z)<|.nil<|h2 _ _<|.seq fun _ h4=>.seq fun _ h6=>.region<|.q Z (ah Z)<|.q Z (((kb (a:=36) (b:=10) Z Z).trans (congrArg (fun z=>some (Value.bool z,[])) (decide_eq_false U)))) ?_;refine Ops.nil<|h6 _ _<|.cond_false Z<|.skip<|h4 _ _<|.seq fun _ h8=>.region<|.q Z (ah Z)<|.q Z (ah Z)<|.q Z (ah Z) ?_;have V:=ce (bs:=[blk u]) a4 (qS hu.lo nw);refine Ops.l Z (fun _ _ a3 _=>ax Z (GJ u o n (A.hide [blk u]) A (cz A [blk u]) (ci wf) (hu.hide (by simp)) ho hn) ?_);rintro a5 A11 ⟨h,rfl,X,h,D⟩;have a0:=D.base V;have a1:=V.trans X;refine a3 _ _<|.q Z (ah Z)<|.q Z (bk Z Z)<|.q Z (bk Z Z)<|.q Z (ae Z)<|.nil<|h8 _ _<|.seq fun _ a2=>.region<|.q Z (ah Z) ?_;refine Ops.q Z (ae Z)<|.nil<|a2 _ _<|.rt (by exact aK Z (⟨a1,h,a0⟩))

theorem Od (u:Value) (o:List UInt8) (n:Nat) (A0 A:AH) (a4:A0.le A) (a7:A0.wf) (hu:Fresh A0 A u 1 (au o)) (ho:o.length<=100000000000) (hn:n<=1000000):bF Tryz.prog 202 #[u,num ((n:Nat):Int),num ((36:Nat):Int)] A (fun v A1=>A0.le A1/\A1.wf/\Fresh A0 A1 v 1 (au (o ++ gO n))):=by
 refine tm Tryz.call202 Tryz.func202 Z Tryz.results202 Tryz.ntmps202 Z (fun wf=>?_);refine an.seq fun _ h2=>.region<|.q Z (ae Z)<|.nil<|h2 _ _<|.seq fun _ h4=>.region<|.q Z (ah Z)<|.q Z (Kh u2 Sg Z O)<|.q Z (ae Z) ?_;refine Ops.nil<|h4 _ _<|.seq fun _ h6=>.seq fun _ h8=>.region<|.q Z (ah Z)<|.q Z (ca (b:=0) Z Z)<|.nil<|h8 _ _<|.if rfl (fun p9=>?_) (fun p9=>?_)
 ·refine an.seq fun _ a5=>?_;exact absurd ‹n < 0› O
 refine an.skip<|h6 _ _<|.seq fun _ a3=>.region<|.q Z (ah Z)<|.q Z (ah Z)<|.q Z (ah Z) ?_;have D:=ce (bs:=[blk u]) a4 (qS hu.lo nw);refine Ops.l Z (fun _ _ a1 _=>ax Z (Qq u o n (A.hide [blk u]) A (cz A [blk u]) (ci wf) (hu.hide (by simp)) ho hn) ?_);rintro a6 A16 ⟨V,X,h⟩;have a0:=h.base D;have a2:=D.trans V;refine a1 _ _<|.q Z (ae Z)<|.nil<|a3 _ _<|.rt (by exact aK Z (⟨a2,X,a0⟩))

theorem Qo (u:Value) (o:List UInt8) (n:Nat) (A0 A:AH) (a3:A0.le A) (a4:A0.wf) (hu:Fresh A0 A u 1 (au o)) (ho:o.length<=100000000000) (hn:n<=1000000):bF Tryz.prog 184 #[u,num ((n:Nat):Int),num ((36:Nat):Int)] A (fun v A1=>A0.le A1/\A1.wf/\Fresh A0 A1 v 1 (au (o ++ gO n))):=by
 refine tm Tryz.call184 Tryz.func184 Z Tryz.results184 Tryz.ntmps184 Z (fun wf=>?_);refine an.seq fun _ h2=>.region<|.q Z (ae Z)<|.nil<|h2 _ _<|.seq fun _ h4=>.region<|.q Z (ah Z)<|.q Z (ah Z)<|.q Z (ah Z) ?_;have D:=ce (bs:=[blk u]) a3 (qS hu.lo nw);refine Ops.l Z (fun _ _ a2 _=>ax Z (Od u o n (A.hide [blk u]) A (cz A [blk u]) (ci wf) (hu.hide (by simp)) ho hn) ?_);rintro v6 A7 ⟨a0,a1,h⟩;have V:=h.base D;have X:=D.trans a0;refine a2 _ _<|.q Z (ae Z)<|.nil<|h4 _ _<|.rt (by exact aK Z (⟨X,a1,V⟩))
end Go.Proofs.YtjppkekmddjcfaaGreatDoor
