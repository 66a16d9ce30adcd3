import Derived.Test.YtjppkekmddjcfaaGreatDoorRC4
import Derived.Test.YtjppkekmddjcfaaGreatDoorRC2
set_option linter.unusedSectionVars false
set_option linter.unusedVariables false
set_option linter.unusedSimpArgs false
namespace Go.Proofs.YtjppkekmddjcfaaGreatDoor
open Go Go.RowKit V
set_option maxRecDepth 100000
theorem kg:dx Tryz.prog 102=some false:=by kernel_rfl
theorem KJ:dx Tryz.prog 143=some false:=by kernel_rfl
theorem ik:ee Tryz.prog 145 0=some (102,0):=by kernel_rfl
theorem ja:ee Tryz.prog 147 0=some (145,0):=by kernel_rfl
theorem FP:ee Tryz.prog 147 1=some (27,1):=by kernel_rfl
theorem yH:ee Tryz.prog 147 2=some (143,4):=by kernel_rfl
theorem kZ:ee Tryz.prog 147 3=some (102,5):=by kernel_rfl
theorem uz:ee Tryz.prog 147 4=some (3,6):=by kernel_rfl
theorem k5:ee Tryz.prog 147 5=some (37,7):=by kernel_rfl
theorem Gr:dh Tryz.prog 149=some []:=by kernel_rfl
theorem gb:dp Tryz.prog 102=some 1:=by kernel_rfl
theorem OG:dp Tryz.prog 143=some 1:=by kernel_rfl
theorem oA:dp Tryz.prog 145=some 1:=by kernel_rfl
theorem OM:type_of% @Tryz.underlying143:=@Tryz.underlying143
theorem CJ:type_of% @Tryz.underlying149:=@Tryz.underlying149
theorem ep:type_of% @Tryz.underlying67:=@Tryz.underlying67
theorem Pd:cD Tryz.prog 149=some (.agg #[]):=by kernel_rfl
theorem Kw:cD Tryz.prog 67=some (.slice none 0 0):=by kernel_rfl

theorem RB (b:Nat) (kv x1 x2 x3 x4 x5 x6 x7 x8 x9:Value) (k w:List UInt8) (rw:Bool) (cap:Nat) (A:AH) (X:k.length<=1000000) (hw:w.length<=1000000) (hb:A.get b=some (.row rw [kv,x1,x2,x3,x4,x5,x6,x7,x8,x9] cap)) (hk:bK A 1 kv (ao k)):bH Tryz.prog 179 #[.pointer (some ⟨b,0,none⟩),aX (w)] A (fun v A1=>v=.bool (fH k w)/\A=A1):=by
 refine jP Tryz.call179 Tryz.func179 Z Tryz.results179 Tryz.ntmps179 Z (fun wf=>?_);have h:=AH.le.refl A;refine am.seq fun _ h2=>.region<|.q Z (ae Z)<|.nil<|h2 _ _<|.seq fun _ h4=>.region<|.q Z (ah Z)<|.q Z (cQ Z)<|.q Z (aj ik gb U Z) ?_;refine Ops.q Z (ak kg Z Z (h.get _ _ hb) Z)<|.q Z (bF (n:=k.length) cy Z (hk.le h) O (dq _))<|.q Z (ah Z)<|.q Z (cB u9 Z)<|.q Z (un Z Z O)<|.q Z (ae Z)<|.nil<|h4 _ _<|.seq fun _ h6=>.region ?_;refine Ops.q Z (ah Z)<|.q Z (lM Z Z)<|.q Z (ah Z)<|.part (t:=16) Z (fun p7=>?_) (fun p7=>?_)
 ·refine Ops.on Z Z<|.q Z (ah Z)<|.on Z Z<|.q Z (cQ Z)<|.on Z Z<|.q Z (aj ik gb U Z)<|.on Z Z<|.q Z (ak kg Z Z (h.get _ _ hb) Z)<|.on Z Z<|.q Z (ah Z) ?_;refine Ops.on Z Z ?_;have D:=bK.lo (j:=(((k.length:Nat):Int) - ((w.length:Nat):Int)).toNat) (hk.le h) U On;rw [Nat.mul_one,qY] at D;refine Ops.q Z (BK cy ji Z (hk.le h) (iQ O) U On)<|.on Z Z<|.l Z (fun _ _ V _=>dT (s:=k.drop ((((k.length:Nat):Int) - ((w.length:Nat):Int)).toNat)) Z cy u9 u5 D ?_);refine V _ _<|.on Z Z<|.q Z (ah Z)<|.on Z Z<|.q Z (mn Z Z)<|.q Z (aM Z Z)<|.q Z (ae Z)<|.nil<|h6 _ _<|.rt (by exact aJ Z (⟨by (rw [Lr ‹_›];rfl),Z⟩))
 refine Ops.off Z Z Z Z<|.off Z Z Z Z<|.off Z Z Z Z<|.off Z Z Z Z<|.off Z Z Z Z<|.off Z Z Z Z<|.off Z Z Z Z<|.off Z Z Z Z<|.off Z Z Z Z<|.q Z (aW Z Z) ?_;refine Ops.q Z (ae Z)<|.nil<|h6 _ _<|.rt (by exact aJ Z (⟨by (rw [Ls ‹_›];rfl),Z⟩))

theorem GW (n:Nat) (k:List UInt8) (b:Nat) (kv x1 x2 x3 x4 x5 x6 x7 x8 x9:Value) (A0 A:AH) (a2:A0.le A) (a4:A0.wf) (hb:A.get b=some (.row true [kv,x1,x2,x3,x4,x5,x6,x7,x8,x9] 10)) (a3:A0.get b=none) (fr:Fresh A0 A kv 1 (ao k)) (V:blk kv ≠ some b) (hn:0 < n/\n<=k.length/\k.length<=1000000):bH Tryz.prog 140 #[.pointer (some ⟨b,0,none⟩),num ((n:Nat):Int)] A (fun v A1=>∃ kv2,v=.tuple #[]/\A0.le A1/\A1.wf/\A1.get b=some (.row true [kv2,x1,x2,x3,x4,x5,x6,x7,x8,x9] 10)/\Fresh A0 A1 kv2 1 (ao (k.take (k.length - n)))/\blk kv2 ≠ some b):=by
 refine jP Tryz.call140 Tryz.func140 Z Tryz.results140 Tryz.ntmps140 Z (fun wf=>?_);refine am.drawn [0,1,2,3,4,5,6,7,8,9,10,11,12,13,14,15] mixed Y Y Z<|.q Z Z Z (ah Z)<|.q Z Z Z (ah Z)<|.q Z Z Z (cQ Z)<|.q Z Z Z (aj ik gb U Z)<|.q Z Z Z (ak kg Z Z hb Z)<|.q Z Z Z (ah Z)<|.q Z Z Z (cQ Z)<|.q Z Z Z (aj ik gb U Z)<|.q Z Z Z (ak kg Z Z hb Z) ?_;refine bj.q Z Z Z (bF (n:=k.length) cy Z fr.slc O (dq _))<|.q Z Z Z (ah Z)<|.q Z Z Z (fJ Z Z O) ?_;obtain ⟨b3,n3,c3,q3,m3,d3⟩:=fr.nonnil (by intro q;have:=congrArg List.length q;simp only [aH,List.length_nil] at this;omega);subst q3;rw [aH,Nat.mul_one] at m3;have D:=fr.take (k:=k.length - n) O;rw [Nat.mul_one,gO] at D;refine bj.q Z Z Z (i5 cy ji Z Z O)<|.q Z Z Z (cQ Z)<|.q Z Z Z (aj ik gb U Z)<|.l Z Z Z (fun _ _ a1 _=>aQ (cs:=[.slice (some ⟨b3,0,none⟩) (k.length - n) c3]) (c':=[.slice (some ⟨b3,0,none⟩) (k.length - n) c3,x1,x2,x3,x4,x5,x6,x7,x8,x9]) wf rfl rfl rfl rfl gb hb (Nat.le_of_ble_eq_true rfl) rfl rfl fun A6 h=>?_);have a0:=D.keep h.keep V;have X:=an a2 a4 a3 h.n h.keep;refine a1 _ _ (be.none Y)<|.done ?_;repeat first | with_reducible refine bz ?_ | with_reducible refine bi ?_
 repeat first | with_reducible refine fb ?_ | with_reducible refine eo ?_ | with_reducible refine dY U ?_ | with_reducible refine d4 ?_ | with_reducible refine dn ?_
 exact xQ (vs:=[]) Z (⟨_,Z,X,h.wf,h.get,a0,V⟩)

theorem Rz (b:Nat) (kv:Value) (g:Int) (u rv:Value) (mb:Nat) (qv:Value) (x6 x7 x8 x9:Value) (rs:List bf) (k:List UInt8) (rw:Bool) (cap:Nat) (A:AH) (b8:0 < k.length/\k.length<=1000000/\rs.length<=1000000) (V:∀ r ∈ rs,0 < r.left.length/\r.left.length<=1000000) (hb:A.get b=some (.row rw [kv,num g,u,rv,.map (some mb),qv,x6,x7,x8,x9] cap)) (hk:bK A 1 kv (ao k)) (hr:bK A 3 rv (c9 rs)) (hI:oU A mb rs):bH Tryz.prog 141 #[.pointer (some ⟨b,0,none⟩)] A (fun v A1=>v=num (aK rs k)/\A=A1):=by
 refine ia Tryz.call141 Tryz.func141 Z Tryz.results141 Tryz.ntmps141 Z (fun wf=>?_);have D:=AH.le.refl A;obtain ⟨mrw,mes,mck,mE,az,aA,a1⟩:=hI;have a0:=fun r (q:r ∈ rs)=>(V r q).1;have hxl:=AE rs (k.getD (k.length - 1) 0);refine am.seq fun _ h2=>.region<|.q Z (ae Z)<|.nil<|h2 _ _<|.seq fun _ h4=>.seq fun _ h6=>.drawn [0,1,2,3,4,5,6,7,8,9,10,11,12,13,14,15,16,17,20,18,19] mixed Y Y Z<|.q Z Z Z (ah Z)<|.q Z Z Z (cQ Z) ?_;refine bj.q Z Z Z (aj yH OG U Z)<|.q Z Z Z (ak KJ Z Z (D.get _ _ hb) Z)<|.q Z Z Z (ah Z)<|.q Z Z Z (cQ Z)<|.q Z Z Z (aj ja oA U Z)<|.q Z Z Z (aj ik gb U Z)<|.q Z Z Z (ak kg Z Z (D.get _ _ hb) Z)<|.q Z Z Z (ah Z)<|.q Z Z Z (cQ Z)<|.q Z Z Z (aj ja oA U Z) ?_;refine bj.q Z Z Z (aj ik gb U Z)<|.q Z Z Z (ak kg Z Z (D.get _ _ hb) Z)<|.q Z Z Z (bF (n:=k.length) cy Z (hk.le D) O (dq _))<|.q Z Z Z (fJ (b:=1) Z Z O) ?_;obtain ⟨b1,b5,aY,bm,aS,bc,b9,a7,aB,aa,aI,a2⟩:=bK.at (i:=k.length - 1) (hk.le D) On O;refine bj.q Z Z Z (ax cy ji Z a7 Z aB)<|.q Z Z Z (ak Iq Z Z aa ((cT a2).trans (eH O)))<|.q Z Z Z (ah Z)<|.l Z Z Z (fun _ _ a5 _=>pT rN Z Z OM u5 Kw az aA ?_);refine a5 _ _ (be.none Y)<|.q Z Z Z (bF (n:=(gy rs (k.getD (k.length - 1) 0)).length) ep Z ((a1 (k.getD (k.length - 1) 0)).le D) O (eD _))<|.done<|h6 _ _<|.block<|.loop (X:=Nat) (fun j=>[(0,.pointer (some ⟨b,0,none⟩)),(23,(lk mE (k.getD (k.length - 1) 0)).getD (.slice none 0 0)),(24,num (((gy rs (k.getD (k.length - 1) 0)).length:Nat):Int)),(25,num ((j:Nat):Int))]) (fun j B=>(j<=(gy rs (k.getD (k.length - 1) 0)).length/\∀ i,i < j->fH k (rs.getD ((gy rs (k.getD (k.length - 1) 0)).getD i 0).toNat .zero).left=false)/\A=B) (fun j=>(gy rs (k.getD (k.length - 1) 0)).length - j) 0 (lD Z Z Z Z) (⟨⟨Nat.zero_le _,fun i h=>by omega⟩,Z⟩) ?_;rintro j B14 ⟨⟨hj,hq⟩,rfl⟩;have hio:=fun q:j < (gy rs (k.getD (k.length - 1) 0)).length=>PY q;have hlo:=fun q:j < (gy rs (k.getD (k.length - 1) 0)).length=>V _ (bw (d:=bf.zero) (hio q).2.1);refine am.seq fun _ ad=>.region<|.q Z (cd Z Z)<|.nil<|ad _ _<|.seq fun _ ag=>.if rfl (fun aF=>?_) (fun aF=>?_)
 ·refine am.skip<|ag _ _<|.seq fun _ ai=>.block<|.seq fun _ ap=>.region ?_;obtain ⟨b2,b6,aZ,bp,aT,bd,ba,a8,aC,ab,aP,a3⟩:=bK.at (i:=j) ((a1 (k.getD (k.length - 1) 0)).le D) Of O;refine Ops.q Z (ax ep c5 Z a8 Z aC)<|.q Z (ak eM Z Z ab ((cT a3).trans (c8 O)))<|.q Z (ae Z)<|.nil<|ap _ _<|.seq fun _ ar=>.drawn [0,1,2,3,4,5,6,7,8,9,10,11,12] mixed Y Y Z<|.q Z Z Z (ah Z)<|.q Z Z Z (cQ Z)<|.q Z Z Z (aj ja oA U Z) ?_;refine bj.q Z Z Z (ah Z)<|.q Z Z Z (cQ Z)<|.q Z Z Z (aj FP ew U Z)<|.q Z Z Z (aj er jJ U Z)<|.q Z Z Z (ak jR Z Z (D.get _ _ hb) Z)<|.q Z Z Z (ah Z) ?_;obtain ⟨b3,b7,b0,br,aV,bl,bb,a9,aD,ac,aR,a4⟩:=bK.at (i:=((gy rs (k.getD (k.length - 1) 0)).getD j 0).toNat) (hr.le D) (by simp only [dg];have:=hio O;omega) O;refine bj.q Z Z Z (ax qq ij Z a9 (iQ (by have:=hio O;omega)) aD)<|.q Z Z Z (aj fz fc U Z)<|.q Z Z Z (ak fP Z Z ac ((a4 0 U).trans (sd (by have:=hio O;omega))))<|.l Z Z Z (fun _ _ a6 _=>au Z (RB b kv (num (g)) u rv (.map (some mb)) qv x6 x7 x8 x9 k ((rs.getD (((gy rs (k.getD (k.length - 1) 0)).getD j 0).toNat) .zero).left) _ _ A O (hlo O).2 (D.get _ _ hb) (hk.le D)) ?_);rintro bu A32 ⟨rfl,rfl⟩;refine a6 _ _ (be.none Y)<|.done<|ar _ _<|.ifB Z (fun aG=>?_) (fun aG=>?_)
  ·refine am.seq fun _ av=>.region<|.q Z (ah Z)<|.q Z (ae Z)<|.nil<|av _ _<|.rt (by exact aJ Z (⟨by (rw [I5 a0 ‹_› (hio O).2.2 hq ‹_›,<- (hio O).2.2];rfl),Z⟩))
  refine am.skip<|ai _ _<|.region<|.q Z (bE (b:=1) Z Z O)<|.q Z (ah Z)<|.nil ?_;exact ⟨j + 1,lD Z Z Z Z,Z,⟨⟨by omega,fun i h=>(Nat.lt_succ_iff_lt_or_eq.1 h).elim (hq i) (fun z=>by subst z;assumption)⟩,Z⟩,O1⟩
 refine am.exit<|h4 _ _<|.seq fun _ ay=>.region<|.q Z (ae Z)<|.nil<|ay _ _<|.rt (by exact aJ Z (⟨by (rw [LL a0 O hq];rfl),Z⟩))

theorem Cz (w q:List UInt8) (b:Nat) (x0 x1 x2 x3 x4 qv x6 x7 x8 x9:Value) (A0 A:AH) (aI:A0.le A) (ag:A0.wf) (hb:A.get b=some (.row true [x0,x1,x2,x3,x4,qv,x6,x7,x8,x9] 10)) (aR:A0.get b=none) (fr:Fresh A0 A qv 1 (ao q)) (aP:blk qv ≠ some b) (hn:w.length + q.length<=1000000):bH Tryz.prog 139 #[.pointer (some ⟨b,0,none⟩),aX (w)] A (fun v A1=>∃ qv2,v=.tuple #[]/\A0.le A1/\A1.wf/\A1.get b=some (.row true [x0,x1,x2,x3,x4,qv2,x6,x7,x8,x9] 10)/\Fresh A0 A1 qv2 1 (ao (q ++ w.reverse))/\blk qv2 ≠ some b):=by
 refine jP Tryz.call139 Tryz.func139 Z Tryz.results139 Tryz.ntmps139 Z (fun wf=>?_);refine am.seq fun _ h2=>.region<|.q Z (ah Z)<|.q Z (cB u9 Z)<|.q Z (un Z Z O)<|.q Z (ae Z)<|.nil<|h2 _ _<|.block<|.loop (X:=Nat × List UInt8 × Value) (fun ⟨j,o,s⟩=>[(0,.pointer (some ⟨b,0,none⟩)),(1,aX (w)),(4,num ((j:Int) - 1))]) (fun ⟨j,o,s⟩ B=>(j<=w.length/\o=q ++ (w.drop j).reverse)/\A0.le B/\Fresh A0 B s 1 (ao o)/\B.get b=some (.row true [x0,x1,x2,x3,x4,s,x6,x7,x8,x9] 10)/\V.blk s ≠ some b) (fun ⟨j,o,s⟩=>j) (⟨w.length,q,qv⟩) (al.cons Z<|al.cons Z<|al.cons (congrArg (fun z:Int=>some (num z)) O)<|al.nil _) (⟨⟨Nat.le_refl _,by simp⟩,aI,fr,hb,aP⟩) ?_;rintro ⟨j,o,s⟩ B4 ⟨⟨hj,ho⟩,ad,a4,a0,a1⟩;refine am.wf fun ab=>?_;have hlo:o.length=q.length + (w.length - j):=by rw [ho];simp
 have htn:((j:Int) - 1).toNat=j - 1:=by omega
 refine am.seq fun _ h7=>.seq fun _ h9=>.region<|.q Z (ah Z)<|.q Z (lM Z Z)<|.nil<|h9 _ _<|.if rfl (fun aS=>?_) (fun aS=>?_)
 ·refine am.skip<|h7 _ _<|.seq fun _ aF=>.block<|.drawn [0,1,2,3,4,5,6,7,8,9,10,11,12] mixed Y Y Z<|.q Z Z Z (ah Z)<|.q Z Z Z (ah Z)<|.q Z Z Z (cQ Z)<|.q Z Z Z (aj kZ gb U Z) ?_;have ap:=cG (off:=5) a0 (show _=some (s) from rfl);refine bj.q Z Z Z (ak kg Z Z a0 Z)<|.q Z Z Z (ah Z)<|.q Z Z Z (ah Z)<|.q Z Z Z (ma u9 Z (iQ O) O)<|.l Z Z Z (fun _ _ av _=>aN (c:=[d8 (w.getD ((j:Int) - 1).toNat 0)]) ab rfl (aw cy ji z5 rfl U U rfl) fun A16 aV D=>?_);have aD:=ne_new ab a0 D.lo;have ac:=D.le.get _ _ a0;have a6:=a4.le D.le;have ar:=bW D.le ap;have aA:=ad.trans D.le;refine av _ _ (be.list (L:=[(⟨b,5,none⟩,s)]) Y (bg ar bZ))<|.l Z Z Z (fun _ _ ay _=>cF (ys:=[d8 (w.getD ((j:Int) - 1).toNat 0)]) rfl rfl cy ji rd z5 rfl U cy (fun _ h=>by cases h) a6.own (bN (n:=1) D.get Z) rfl rfl (by show (_ + _) * 1<=_;simp only [aH,List.length_cons,List.length_nil];(try simp only [List.length_append,List.length_cons,List.length_nil]);omega) O3 fun A24 aY a2=>?_);rw [show ([d8 (w.getD ((j:Int) - 1).toNat 0)]:List Value)=ao [w.getD ((j:Int) - 1).toNat 0] from rfl,dE] at a2;obtain ⟨a7,aB⟩:=Fresh.grow a6 aA ag a2;have aG:=a2.keep a1 ac;have a9:=a2.ne a1 D.wf ac;refine ay _ _ (be.none Y)<|.q Z Z Z (cQ Z)<|.q Z Z Z (aj kZ gb U Z) ?_;obtain ⟨aa,a8,a5,aT,_⟩:=a7.own.slice;subst aT;refine bj.l Z Z Z (fun _ _ az _=>aQ (cs:=[.slice aa a8 a5]) (c':=[x0,x1,x2,x3,x4,.slice aa a8 a5,x6,x7,x8,x9]) a2.wf rfl rfl rfl rfl gb aG (Nat.le_of_ble_eq_true rfl) rfl rfl fun A36 a3=>?_);have ai:=a7.keep a3.keep a9;have aC:=an aB ag aR a3.n a3.keep;refine az _ _ (be.none Y)<|.done<|aF _ _<|.region<|.q Z (ah Z)<|.q Z (un Z Z O)<|.q Z (ae Z)<|.nil ?_;exact ⟨⟨j - 1,o ++ [w.getD ((j:Int) - 1).toNat 0],.slice aa a8 a5⟩,al.cons Z<|al.cons Z<|al.cons (congrArg (fun z:Int=>some (num z)) O)<|al.nil _,Z,⟨⟨by omega,by rw [ho,htn,List.append_assoc,Ca O hj]⟩,aC,ai,a3.get,a9⟩,O1⟩
 refine am.exit ?_;repeat first | with_reducible refine bz ?_ | with_reducible refine bi ?_
 repeat first | with_reducible refine fb ?_ | with_reducible refine eo ?_ | with_reducible refine dY U ?_ | with_reducible refine d4 ?_ | with_reducible refine dn ?_
 exact xQ (vs:=[]) Z (⟨_,Z,ad,ab,a0,cw a4 (congrArg ao (by rw [ho,show j=0 by omega];rfl)),a1⟩)

theorem UM (zi:Int) (i:Nat) (hzi:zi=(i:Int)) (rs:List bf) (k q:List UInt8) (d:List bI) (n m:Nat) (b0:Nat) (kv:Value) (g:Int) (u rv:Value) (mb:Nat) (qv x7 dv:Value) (A0 A:AH) (bV:A0.le A) (aD:A0.wf) (hb:A.get b0=some (.row true [kv,num g,u,rv,.map (some mb),qv,num ((m:Nat):Int),x7,num ((n:Nat):Int),dv] 10)) (bb:A0.get b0=none) (frk:Fresh A0 A kv 1 (ao k)) (frq:Fresh A0 A qv 1 (ao q)) (frd:Fresh A0 A dv 3 (cb d)) (nk:blk kv ≠ some b0) (nq:blk qv ≠ some b0) (nd:blk dv ≠ some b0) (skq:bq kv qv) (skd:bq kv dv) (sqd:bq qv dv) (hi:i < rs.length/\rs.length<=1000000) (hx:(rs.getD i .zero).left.length<=k.length/\0 < (rs.getD i .zero).left.length/\k.length<=100000/\(rs.getD i .zero).right.length + q.length<=100000) (hd:d.length<=100000/\n<=20000/\m<=1000000/\(rs.getD i .zero).proof.length<=100000/\cz (rs.getD i .zero).proof<=1000000) (hL:gJ A0) (hr:bK A0 3 rv (c9 rs)) (hp:Proofs A0 rs):yl Tryz.prog 142 #[.pointer (some ⟨b0,0,none⟩),num (zi)] A (fun v A1=>∃ kv2 qv2 dv2,v=.tuple #[]/\A0.le A1/\A1.wf/\A1.get b0=some (.row true [kv2,num g,u,rv,.map (some mb),qv2,num ((m + cz (eU (k.take (k.length - (rs.getD i .zero).left.length)) (rs.getD i .zero).proof):Nat):Int),x7,num ((n + 1:Nat):Int),dv2] 10)/\Fresh A0 A1 kv2 1 (ao (k.take (k.length - (rs.getD i .zero).left.length)))/\Fresh A0 A1 qv2 1 (ao (q ++ (rs.getD i .zero).right.reverse))/\Fresh A0 A1 dv2 3 (cb (d ++ (eU (k.take (k.length - (rs.getD i .zero).left.length)) (rs.getD i .zero).proof)))/\blk kv2 ≠ some b0/\blk qv2 ≠ some b0/\blk dv2 ≠ some b0/\bq kv2 qv2/\bq kv2 dv2/\bq qv2 dv2/\Du (rs.getD i .zero) k n d m) (fun ch A1=>¬ Du (rs.getD i .zero) k n d m/\ch=[{ v:=.iface 149 (.agg #[]),recovered:=false }]/\A0.le A1/\A1.wf/\∃ y0 y5 y6 y7 y8 y9,A1.get b0=some (.row true [y0,num g,u,rv,.map (some mb),y5,y6,y7,y8,y9] 10)):=by
 refine Lx (e:=[(0,.pointer (some ⟨b0,0,none⟩)),(1,num (zi))]) (args:=[.pointer (some ⟨b0,0,none⟩),num (zi)]) Tryz.call142 Tryz.func142 Z Tryz.results142 Tryz.ntmps142 Z Z Z (fun wf=>?_);subst hzi;refine am.seq fun _ h2=>.region<|.q Z (ah Z)<|.q Z (cQ Z)<|.q Z (aj FP ew U Z)<|.q Z (aj er jJ U Z)<|.q Z (ak jR Z Z hb Z)<|.q Z (ah Z) ?_;obtain ⟨b3,f3,gP,r3,gN,n3,k3,e3,l3,g3,fM,gE⟩:=bK.at (i:=i) (hr.le bV) OI O;refine Ops.q Z (ax qq ij Z e3 Z l3)<|.q Z (aq uj ij Z Z g3 (fM.trans (congrArg some (iB O))))<|.l Z (fun _ _ g9 _=>cg wf Ij rfl fun A6 b5 ay=>?_);have ap:=ne_new wf hb ay.lo;have ec:=frk.own.ne_new wf ay.lo;have eg:=frq.own.ne_new wf ay.lo;have fr:=frd.own.ne_new wf ay.lo;have dl:=aU aD (Nat.le_trans bV.n ay.lo);have fQ:=ay.le.get _ _ hb;have ev:=frk.le ay.le;have ex:=frq.le ay.le;have ey:=frd.le ay.le;have fm:=bV.trans ay.le;refine g9 _ _<|.l Z (fun _ _ f7 _=>aQ (cs:=[aX ((rs.getD i .zero).left),aX ((rs.getD i .zero).right),(rs.getD i .zero).pv]) (c':=[aX ((rs.getD i .zero).left),aX ((rs.getD i .zero).right),(rs.getD i .zero).pv]) ay.wf rfl rfl rfl rfl ij ay.get (Nat.le_of_ble_eq_true rfl) (jE (hp.get hi.1)) rfl fun A17 av=>?_);have fR:=av.keep _ _ ap fQ;have bA:=ev.keep av.keep ec;have bB:=ex.keep av.keep eg;have bC:=ey.keep av.keep fr;have fn:=an fm aD dl av.n av.keep;refine f7 _ _<|.nil<|h2 _ _<|.seq fun _ fS=>.drawn [0,1,2,3,4,5,6] mixed Y Y Z<|.q Z Z Z (ah Z)<|.q Z Z Z (cQ Z)<|.q Z Z Z (aj ja oA U Z)<|.q Z Z Z (aj fz fc U Z)<|.q Z Z Z (ak fP Z Z av.get Z) ?_;refine bj.q Z Z Z (cB u9 Z) ?_;have bT:=ci (bs:=[some b0,blk kv]) fn (uk bb (sA bA.lo oT));refine bj.l Z Z Z (fun _ _ f9 _=>au Z (GW (((rs.getD i .zero).left).length) k b0 kv (num (g)) u rv (.map (some mb)) qv (num ((m:Nat):Int)) x7 (num ((n:Nat):Int)) dv (A17.hide [some b0,blk kv]) A17 (cE A17 [some b0,blk kv]) (cm av.wf) fR (cr (by simp)) (bA.hide (by simp)) nk O) ?_);rintro gQ A30 ⟨a5,rfl,aS,e5,bd,aF,a8⟩;have f4:=bQ (bs:=[some b0,blk kv]) av.get (qz ap.symm (nY ec mI));have e7:=aS.get _ _ f4;have c4:=aF.sep bB.own (kr nq (jD skq kq));have bD:=bB.off (kr nq (jD skq kq)) aS;have fE:=aF.sep bC.own (kr nd (jD skd kq));have bL:=bC.off (kr nd (jD skd kq)) aS;have bM:=aF.base bT;have fo:=bT.trans aS;refine f9 _ _ (be.none Y)<|.done<|fS _ _<|.seq fun _ fT=>.region<|.q Z (ah Z)<|.q Z (aj jY fc U Z)<|.q Z (ak fP Z Z e7 Z) ?_;have bU:=ci (bs:=[some b0,blk qv]) fo (uk bb (sA bD.lo oT));refine Ops.l Z (fun _ _ fd _=>au Z (Cz ((rs.getD i .zero).right) q b0 a5 (num (g)) u rv (.map (some mb)) qv (num ((m:Nat):Int)) x7 (num ((n:Nat):Int)) dv (A30.hide [some b0,blk qv]) A30 (cE A30 [some b0,blk qv]) (cm e5) bd (cr (by simp)) (bD.hide (by simp)) nq O) ?_);rintro gS A46 ⟨a9,rfl,aT,e6,aV,aG,aC⟩;have f6:=bQ (bs:=[some b0,blk qv]) e7 (qz ap.symm (nY eg mI));have fV:=aT.get _ _ f6;have fI:=aG.sep bL.own (kr nd (jD sqd kq));have ez:=bL.off (kr nd (jD sqd kq)) aT;have fL:=aG.sep bM.own (kr a8 (jD (bq.symm c4) kq));have eA:=bM.off (kr a8 (jD (bq.symm c4) kq)) aT;have eC:=aG.base bU;have fq:=bU.trans aT;refine fd _ _<|.nil<|fT _ _<|.seq fun _ fX=>.region<|.q Z (ah Z)<|.q Z (cQ Z)<|.q Z (aj k5 d6 U Z)<|.q Z (aj lG c5 U Z)<|.q Z (ak eM Z Z aV Z) ?_;refine Ops.q Z (bE (b:=1) Z Z O)<|.q Z (cQ Z)<|.q Z (aj k5 d6 U Z)<|.q Z (aj lG c5 U Z)<|.l Z (fun _ _ fe _=>aQ (cs:=[num ((n + 1:Nat):Int)]) (c':=[a5,num (g),u,rv,.map (some mb),a9,num ((m:Nat):Int),x7,num ((n + 1:Nat):Int),dv]) e6 rfl rfl rfl rfl c5 aV (Nat.le_of_ble_eq_true rfl) rfl rfl fun A61 a3=>?_);have e9:=a3.keep _ _ ap.symm fV;have bO:=ez.keep a3.keep nd;have bP:=eA.keep a3.keep a8;have eG:=eC.keep a3.keep aC;have aY:=an fq aD bb a3.n a3.keep;refine fe _ _<|.nil<|fX _ _<|.seq fun _ g0=>.seq fun _ ea=>.drawn [0,1,2,3,4,5,6,7,8,9,10,11,12,13,14,15,16,17,18] mixed Y Y Z<|.q Z Z Z (ah Z)<|.q Z Z Z (cQ Z)<|.q Z Z Z (aj k5 d6 U Z)<|.q Z Z Z (aj lG c5 U Z) ?_;refine bj.q Z Z Z (ak eM Z Z a3.get Z)<|.q Z Z Z (dP (b:=20000) Z Z)<|.q Z Z Z (ah Z)<|.part (t:=42) Z (fun ge=>?_) (fun ge=>?_)
 ·refine bj.qOff Z Z Z Z Z Z<|.qOff Z Z Z Z Z Z<|.qOff Z Z Z Z Z Z<|.qOff Z Z Z Z Z Z<|.qOff Z Z Z Z Z Z<|.qOff Z Z Z Z Z Z<|.qOff Z Z Z Z Z Z<|.qOff Z Z Z Z Z Z<|.qOff Z Z Z Z Z Z<|.qOff Z Z Z Z Z Z ?_;refine bj.qOff Z Z Z Z Z Z<|.q Z Z Z (aM Z Z)<|.done<|ea _ _<|.cond_true Z<|.region<|.q Z (cU Z (bn CJ Pd Gr Z))<|.iface CJ Z Z<|.panicI Z ?_;(repeat first | with_reducible refine kG ?_ | with_reducible refine jw ?_ | with_reducible refine i3 ?_);exact MJ (⟨by exact Su ‹_›,Z,aY,a3.wf,_,_,_,_,_,_,a3.get⟩)
 refine bj.qOn Z Z Z Z Z (ah Z)<|.qOn Z Z Z Z Z (cQ Z)<|.qOn Z Z Z Z Z (aj k5 d6 U Z)<|.qOn Z Z Z Z Z (aj nI kW U Z)<|.qOn Z Z Z Z Z (ak ns Z Z a3.get Z)<|.qOn Z Z Z Z Z (bF (n:=d.length) mz Z bO.slc O (c6 _))<|.qOn Z Z Z Z Z (aj mH kW U Z)<|.qOn Z Z Z Z Z (ak ns Z Z e9 Z)<|.qOn Z Z Z Z Z (bF (n:=((rs.getD i .zero).proof).length) mz Z ((hp.get hi.1).le aY) O (c6 _))<|.qOn Z Z Z Z Z (bE Z Z O) ?_;refine bj.qOn Z Z Z Z Z (dP (b:=100000) Z Z)<|.q Z Z Z (aW Z Z)<|.done<|ea _ _<|.if rfl (fun gf=>?_) (fun gf=>?_)
 ·refine am.region<|.q Z (cU Z (bn CJ Pd Gr Z))<|.iface CJ Z Z<|.panicI Z ?_;(repeat first | with_reducible refine kG ?_ | with_reducible refine jw ?_ | with_reducible refine i3 ?_);exact MJ (⟨by exact Sw ‹_›,Z,aY,a3.wf,_,_,_,_,_,_,a3.get⟩)
 refine am.skip<|g0 _ _<|.seq fun _ g1=>.region<|.q Z (ah Z)<|.q Z (cQ Z)<|.q Z (aj ja oA U Z)<|.q Z (aj ik gb U Z)<|.q Z (ak kg Z Z a3.get Z)<|.l Z (fun _ _ fi _=>dT (s:=k.take (k.length - (((rs.getD i .zero).left).length))) Z cy u9 u5 bP.slc ?_);refine fi _ _<|.q Z (ae Z)<|.nil<|g1 _ _<|.seq fun _ g2=>.region<|.q Z (aj mH kW U Z)<|.q Z (ak ns Z Z e9 Z)<|.q Z (bF (n:=((rs.getD i .zero).proof).length) mz Z ((hp.get hi.1).le aY) O (c6 _))<|.q Z (ah Z) ?_;refine Ops.nil<|g2 _ _<|.block<|.loop (X:=Nat × List bI × Nat × Value) (fun ⟨j,D,mm,dw⟩=>[(0,.pointer (some ⟨b0,0,none⟩)),(5,aX (k.take (k.length - (((rs.getD i .zero).left).length)))),(64,(rs.getD i .zero).pv),(65,num ((((rs.getD i .zero).proof).length:Nat):Int)),(66,num ((j:Nat):Int))]) (fun ⟨j,D,mm,dw⟩ B=>(j<=(rs.getD i .zero).proof.length/\D=d ++ pre (k.take (k.length - (rs.getD i .zero).left.length)) (rs.getD i .zero).proof j/\mm=m + cz (pre (k.take (k.length - (rs.getD i .zero).left.length)) (rs.getD i .zero).proof j)/\mm<=1000000/\∀ i2,i2 < j->(k.take (k.length - (rs.getD i .zero).left.length)).length + ((rs.getD i .zero).proof.getD i2 .zero).conj.length<=100000)/\A0.le B/\Fresh A0 B dw 3 (cb D)/\Fresh A0 B a5 1 (ao (k.take (k.length - (((rs.getD i .zero).left).length))))/\Fresh A0 B a9 1 (ao (q ++ ((rs.getD i .zero).right).reverse))/\B.get b0=some (.row true [a5,num (g),u,rv,.map (some mb),a9,num ((mm:Nat):Int),x7,num ((n + 1:Nat):Int),dw] 10)/\V.blk dw ≠ some b0/\V.blk a5 ≠ some b0/\V.blk a9 ≠ some b0/\bq dw a5/\bq dw a9/\bq a5 a9) (fun ⟨j,D,mm,dw⟩=>(rs.getD i .zero).proof.length - j) (⟨0,d,m,dv⟩) (pZ Z Z Z Z Z) (⟨⟨Nat.zero_le _,by simp [pre],by simp [pre,cz],hd.2.2.1,fun i2 h=>by omega⟩,aY,bO,bP,eG,a3.get,nd,a8,aC,(bq.symm fE),(bq.symm fI),(bq.symm fL)⟩) ?_;rintro ⟨j,D,mm,dw⟩ B80 ⟨⟨hj,hD,hmm,hml,hq⟩,b7,aI,ad,ag,aP,ar,a0,a1,aA,aB,aZ⟩;refine am.wf fun aR=>?_;have hDl:D.length=d.length + j:=by rw [hD,List.length_append,QO hj]
 have hck:=fun z:j < (rs.getD i .zero).proof.length=>FB (bw (d:=bI.zero) z);have hpc:=fun z:j < (rs.getD i .zero).proof.length=>BE (p:=(k.take (k.length - (rs.getD i .zero).left.length))) z;have hps:=fun z:j < (rs.getD i .zero).proof.length=>BF (p:=(k.take (k.length - (rs.getD i .zero).left.length))) z;have hwr:=l5 ((k.take (k.length - (rs.getD i .zero).left.length)) ++ ((rs.getD i .zero).proof.getD j .zero).conj);have hkp:(k.take (k.length - (rs.getD i .zero).left.length)).length<=k.length:=by simp
 have hla:=@List.length_append _ (k.take (k.length - (rs.getD i .zero).left.length)) ((rs.getD i .zero).proof.getD j .zero).conj;refine am.seq fun _ g4=>.region<|.q Z (cd Z Z)<|.nil<|g4 _ _<|.seq fun _ g5=>.if rfl (fun gg=>?_) (fun gg=>?_)
 ·refine am.skip<|g5 _ _<|.seq fun _ g6=>.block<|.seq fun _ g7=>.region ?_;obtain ⟨gC,gF,gq,gM,gp,gL,gG,fN,gc,fO,en,gm⟩:=bK.at (i:=j) ((hp.get hi.1).le b7) Ox O;refine Ops.q Z (ax mz im Z fN Z gc)<|.q Z (aq wO im Z Z fO (en.trans (congrArg some (ic O))))<|.l Z (fun _ _ fl _=>cg aR Kn rfl fun A94 gD a7=>?_);have az:=ne_new aR aP a7.lo;have bl:=aI.own.ne_new aR a7.lo;have bY:=ad.own.ne_new aR a7.lo;have c3:=ag.own.ne_new aR a7.lo;have ba:=aU aD (Nat.le_trans b7.n a7.lo);have g8:=a7.le.get _ _ aP;have cc:=aI.le a7.le;have ck:=ad.le a7.le;have cv:=ag.le a7.le;have dS:=b7.trans a7.le;refine fl _ _<|.l Z (fun _ _ dD _=>aQ (cs:=[aX ((((rs.getD i .zero).proof).getD j .zero).conj),num ((((rs.getD i .zero).proof).getD j .zero).rel),.bool ((((rs.getD i .zero).proof).getD j .zero).inv)]) (c':=[aX ((((rs.getD i .zero).proof).getD j .zero).conj),num ((((rs.getD i .zero).proof).getD j .zero).rel),.bool ((((rs.getD i .zero).proof).getD j .zero).inv)]) a7.wf rfl rfl rfl rfl im a7.get (Nat.le_of_ble_eq_true rfl) rfl rfl fun A105 a6=>?_);have bR:=a6.keep _ _ az g8;have cA:=cc.keep a6.keep bl;have cC:=ck.keep a6.keep bY;have cH:=cv.keep a6.keep c3;have b6:=an dS aD ba a6.n a6.keep;refine dD _ _<|.nil<|g7 _ _<|.seq fun _ eL=>.seq fun _ eN=>.region<|.q Z (ah Z)<|.q Z (cB u9 Z)<|.q Z (aj iO fc U Z)<|.q Z (ak fP Z Z a6.get Z) ?_;refine Ops.q Z (cB u9 Z)<|.q Z (bE Z Z O)<|.q Z (dP (b:=100000) Z Z)<|.nil<|eN _ _<|.if rfl (fun ft=>?_) (fun ft=>?_)
  ·refine am.region<|.q Z (cU Z (bn CJ Pd Gr Z))<|.iface CJ Z Z<|.panicI Z ?_;(repeat first | with_reducible refine kG ?_ | with_reducible refine jw ?_ | with_reducible refine i3 ?_);exact MJ (⟨by exact Sx O ‹_›,Z,b6,a6.wf,_,_,_,_,_,_,bR⟩)
  refine am.skip<|eL _ _<|.seq fun _ eQ=>.region<|.q Z (ah Z)<|.q Z (aj iO fc U Z)<|.q Z (ak fP Z Z a6.get Z)<|.q Z (qI Z Z O)<|.l Z (fun _ _ dI _=>au Z (sk ((k.take (k.length - (((rs.getD i .zero).left).length))) ++ ((((rs.getD i .zero).proof).getD j .zero).conj)) A105 O (hL.le b6)) ?_);rintro gs A121 ⟨rfl,ai,c7⟩;have eS:=ai.get _ _ bR;have eT:=ai.get _ _ a6.get;have cK:=cA.le ai;have cP:=cC.le ai;have cS:=cH.le ai;have dV:=b6.trans ai;refine dI _ _<|.q Z (aj iO fc U Z)<|.l Z (fun _ _ dJ _=>aQ (cs:=[aX (cn ((k.take (k.length - (((rs.getD i .zero).left).length))) ++ ((((rs.getD i .zero).proof).getD j .zero).conj)))]) (c':=[aX (cn ((k.take (k.length - (((rs.getD i .zero).left).length))) ++ ((((rs.getD i .zero).proof).getD j .zero).conj))),num ((((rs.getD i .zero).proof).getD j .zero).rel),.bool ((((rs.getD i .zero).proof).getD j .zero).inv)]) c7 rfl rfl rfl rfl fc eT (Nat.le_of_ble_eq_true rfl) rfl rfl fun A130 aa=>?_);have bc:=aa.keep _ _ az eS;have cV:=cK.keep aa.keep bl;have cX:=cP.keep aa.keep bY;have cZ:=cS.keep aa.keep c3;have dW:=an dV aD ba aa.n aa.keep;refine dJ _ _<|.nil<|eQ _ _<|.seq fun _ eV=>.drawn [0,1,2,3,4,5,6,7,8,9,10,11,12] mixed Y Y Z<|.q Z Z Z (ah Z)<|.q Z Z Z (ah Z)<|.q Z Z Z (cQ Z)<|.q Z Z Z (aj k5 d6 U Z)<|.q Z Z Z (aj nI kW U Z) ?_;have dm:=cG (off:=9) bc (show _=some (dw) from rfl);refine bj.q Z Z Z (ak ns Z Z bc Z)<|.q Z Z Z (aq wO im Z Z aa.get Z)<|.l Z Z Z (fun _ _ dK _=>aN (c:=[aX (cn ((k.take (k.length - (((rs.getD i .zero).left).length))) ++ ((((rs.getD i .zero).proof).getD j .zero).conj))),num ((((rs.getD i .zero).proof).getD j .zero).rel),.bool ((((rs.getD i .zero).proof).getD j .zero).inv)]) aa.wf rfl (aw mz im Kn rfl U U rfl) fun A145 gl a2=>?_);have bS:=a2.le.get _ _ bc;have eX:=a2.le.get _ _ aa.get;have bm:=cV.le a2.le;have bp:=cX.le a2.le;have br:=cZ.le a2.le;have dz:=bW a2.le dm;have dZ:=dW.trans a2.le;refine dK _ _ (be.list (L:=[(⟨b0,9,none⟩,dw)]) Y (bg dz bZ))<|.l Z Z Z (fun _ _ dL _=>cF (ys:=[aX (cn ((k.take (k.length - (((rs.getD i .zero).left).length))) ++ ((((rs.getD i .zero).proof).getD j .zero).conj))),num ((((rs.getD i .zero).proof).getD j .zero).rel),.bool ((((rs.getD i .zero).proof).getD j .zero).inv)]) rfl rfl mz im LX Kn rfl U mz (fun _ h=>by cases h) bm.own (bN (n:=1) a2.get Z) rfl rfl (by show (_ + _) * 32<=_;simp only [ca,List.length_cons,List.length_nil];(try simp only [List.length_append,List.length_cons,List.length_nil]);omega) (by simp only [ca,List.length_cons,List.length_nil];(try simp only [List.length_append,List.length_cons,List.length_nil]);omega) fun A161 gA a4=>?_);rw [show ([aX (cn ((k.take (k.length - (((rs.getD i .zero).left).length))) ++ ((((rs.getD i .zero).proof).getD j .zero).conj))),num ((((rs.getD i .zero).proof).getD j .zero).rel),.bool ((((rs.getD i .zero).proof).getD j .zero).inv)]:List Value)=cb [⟨cn ((k.take (k.length - (((rs.getD i .zero).left).length))) ++ ((((rs.getD i .zero).proof).getD j .zero).conj)),(((rs.getD i .zero).proof).getD j .zero).rel,(((rs.getD i .zero).proof).getD j .zero).inv⟩] from rfl,mF] at a4;obtain ⟨bu,e0⟩:=Fresh.grow bm dZ aD a4;have eY:=a4.keep ar bS;have b8:=a4.ne ar a2.wf bS;have eZ:=a4.keep bl eX;have e2:=bq.appd (show bq dw a5 from aA) bp.own a2.wf a4;have d0:=bp.appd a4 aA;have e4:=bq.appd (show bq dw a9 from aB) br.own a2.wf a4;have d1:=br.appd a4 aB;refine dL _ _ (be.none Y)<|.q Z Z Z (cQ Z)<|.q Z Z Z (aj k5 d6 U Z)<|.q Z Z Z (aj nI kW U Z) ?_;obtain ⟨b9,b2,b1,fD,_⟩:=bu.own.slice;subst fD;refine bj.l Z Z Z (fun _ _ dM _=>aQ (cs:=[.slice b9 b2 b1]) (c':=[a5,num (g),u,rv,.map (some mb),a9,num ((mm:Nat):Int),x7,num ((n + 1:Nat):Int),.slice b9 b2 b1]) a4.wf rfl rfl rfl rfl kW eY (Nat.le_of_ble_eq_true rfl) rfl rfl fun A179 ab=>?_);have f0:=ab.keep _ _ az.symm eZ;have d2:=d0.keep ab.keep a0;have d3:=d1.keep ab.keep a1;have dd:=bu.keep ab.keep b8;have e1:=an e0 aD bb ab.n ab.keep;refine dM _ _ (be.none Y)<|.done<|eV _ _<|.seq fun _ f1=>.drawn [0,1,2,3,4,5,6,7,8,9,10] mixed Y Y Z<|.q Z Z Z (ah Z)<|.q Z Z Z (cQ Z)<|.q Z Z Z (aj uz c5 U Z)<|.q Z Z Z (ak eM Z Z ab.get Z)<|.q Z Z Z (aj iO fc U Z) ?_;refine bj.q Z Z Z (ak fP Z Z f0 Z)<|.q Z Z Z (cB u9 Z)<|.q Z Z Z (bE Z Z O)<|.q Z Z Z (cQ Z)<|.q Z Z Z (aj uz c5 U Z)<|.l Z Z Z (fun _ _ dO _=>aQ (cs:=[num ((mm + ((cn ((k.take (k.length - (((rs.getD i .zero).left).length))) ++ ((((rs.getD i .zero).proof).getD j .zero).conj))).length):Nat):Int)]) (c':=[a5,num (g),u,rv,.map (some mb),a9,num ((mm + ((cn ((k.take (k.length - (((rs.getD i .zero).left).length))) ++ ((((rs.getD i .zero).proof).getD j .zero).conj))).length):Nat):Int),x7,num ((n + 1:Nat):Int),.slice b9 b2 b1]) ab.wf rfl rfl rfl rfl c5 ab.get (Nat.le_of_ble_eq_true rfl) rfl rfl fun A191 ac=>?_);have di:=d2.keep ac.keep a0;have dj:=d3.keep ac.keep a1;have dk:=dd.keep ac.keep b8;have bv:=an e1 aD bb ac.n ac.keep;refine dO _ _ (be.none Y)<|.done<|f1 _ _<|.seq fun _ f2=>.region<|.q Z (ah Z)<|.q Z (cQ Z)<|.q Z (aj uz c5 U Z)<|.q Z (ak eM Z Z ac.get Z)<|.q Z (dP (b:=1000000) Z Z) ?_;refine Ops.nil<|f2 _ _<|.if rfl (fun fv=>?_) (fun fv=>?_)
  ·refine am.region<|.q Z (cU Z (bn CJ Pd Gr Z))<|.iface CJ Z Z<|.panicI Z ?_;(repeat first | with_reducible refine kG ?_ | with_reducible refine jw ?_ | with_reducible refine i3 ?_);exact MJ (⟨by exact Sy (j:=j + 1) (by rw [BE O];omega),Z,bv,ac.wf,_,_,_,_,_,_,ac.get⟩)
  refine am.skip<|g6 _ _<|.region<|.q Z (bE (b:=1) Z Z O)<|.q Z (ah Z)<|.nil ?_;exact ⟨⟨j + 1,D ++ [⟨cn ((k.take (k.length - (((rs.getD i .zero).left).length))) ++ ((((rs.getD i .zero).proof).getD j .zero).conj)),(((rs.getD i .zero).proof).getD j .zero).rel,(((rs.getD i .zero).proof).getD j .zero).inv⟩],mm + ((cn ((k.take (k.length - (((rs.getD i .zero).left).length))) ++ ((((rs.getD i .zero).proof).getD j .zero).conj))).length),.slice b9 b2 b1⟩,pZ Z Z Z Z Z,Z,⟨⟨by omega,by rw [hps O,hD,List.append_assoc],by have:=hpc O;omega,by omega,fun i2 h=>(Nat.lt_succ_iff_lt_or_eq.1 h).elim (hq i2) (fun z=>by subst z;omega)⟩,bv,dk,di,dj,ac.get,b8,a0,a1,e2,e4,aZ⟩,O1⟩
 refine am.exit ?_;repeat first | with_reducible refine bz ?_ | with_reducible refine bi ?_
 repeat first | with_reducible refine fb ?_ | with_reducible refine eo ?_ | with_reducible refine dY U ?_ | with_reducible refine d4 ?_ | with_reducible refine dn ?_
 exact UH (vs:=[]) Z (⟨_,_,_,Z,b7,aR,vP aP (by rw [hmm,(zc O hq).1]),ad,ag,cw aI (congrArg cb (by rw [hD,(zc O hq).1])),a0,a1,ar,aZ,(bq.symm aA),(bq.symm aB),SA ‹_› ‹_› O hq O⟩)

theorem Tv (w:List UInt8) (rs:List bf) (l:List (List UInt8)) (b0:Nat) (g:Int) (u rv:Value) (mb:Nat) (x0 x5 x6 x7 x8 x9:Value) (A0 A:AH) (en:A0.le A) (aG:A0.wf) (hb:A.get b0=some (.row true [x0,num g,u,rv,.map (some mb),x5,x6,x7,x8,x9] 10)) (aF:A0.get b0=none) (hs:cj g l rs=true) (hwl:w.length<=20000) (hL:gJ A0) (hr:bK A0 3 rv (c9 rs)) (hp:Proofs A0 rs) (hI:oU A0 mb rs):yl Tryz.prog 106 #[.pointer (some ⟨b0,0,none⟩),aX (w)] A (fun v A1=>∃ dv2 y0 y5 y6 y7 y8 y9,v=.agg #[aX (eh (ga rs w)).word,num (((eh (ga rs w)).steps:Nat):Int),dv2]/\A0.le A1/\A1.wf/\A1.get b0=some (.row true [y0,num g,u,rv,.map (some mb),y5,y6,y7,y8,y9] 10)/\Fresh A0 A1 dv2 3 (cb (eh (ga rs w)).disk)/\blk dv2 ≠ some b0/\(ga rs w).isSome=true) (fun ch A1=>ga rs w=none/\ch=[{ v:=.iface 149 (.agg #[]),recovered:=false }]/\A0.le A1/\A1.wf/\∃ y0 y5 y6 y7 y8 y9,A1.get b0=some (.row true [y0,num g,u,rv,.map (some mb),y5,y6,y7,y8,y9] 10)):=by
 refine Lx (e:=[(0,.pointer (some ⟨b0,0,none⟩)),(1,aX (w))]) (args:=[.pointer (some ⟨b0,0,none⟩),aX (w)]) Tryz.call106 Tryz.func106 Z Tryz.results106 Tryz.ntmps106 Z Z Z (fun wf=>?_);refine am.seq fun _ h2=>.region<|.l Z (fun _ _ ge _=>cg wf sy rfl fun A5 b4 bl=>?_);have a0:=ne_new wf hb bl.lo;have dK:=aU aG (Nat.le_trans en.n bl.lo);have h7:=bl.le.get _ _ hb;have gl:=en.trans bl.le;refine ge _ _<|.nil<|h2 _ _<|.seq fun _ fR=>.region<|.q Z (ah Z)<|.q Z (ah Z)<|.q Z (ah Z)<|.q Z (ah Z)<|.q Z (cU Z (bn Ku sy um Z)) ?_;refine Ops.q Z (cQ Z)<|.q Z (aj ja oA U Z)<|.q Z (aj ik gb U Z)<|.l Z (fun _ _ f0 _=>aQ (cs:=[.slice none 0 0]) (c':=[.slice none 0 0,num (g),u,rv,.map (some mb),x5,x6,x7,x8,x9]) bl.wf rfl rfl rfl rfl gb h7 (Nat.le_of_ble_eq_true rfl) rfl rfl fun A12 b2=>?_);have fS:=b2.keep _ _ a0.symm bl.get;have f9:=an gl aG aF b2.n b2.keep;refine f0 _ _<|.q Z (cQ Z)<|.q Z (aj kZ gb U Z)<|.l Z (fun _ _ f1 _=>aQ (cs:=[.slice none 0 0]) (c':=[.slice none 0 0,num (g),u,rv,.map (some mb),.slice none 0 0,x6,x7,x8,x9]) b2.wf rfl rfl rfl rfl gb b2.get (Nat.le_of_ble_eq_true rfl) rfl rfl fun A17 b3=>?_);have fT:=b3.keep _ _ a0.symm fS;have fi:=an f9 aG aF b3.n b3.keep;refine f1 _ _<|.q Z (cQ Z)<|.q Z (aj uz c5 U Z)<|.l Z (fun _ _ f2 _=>aQ (cs:=[num ((0:Nat):Int)]) (c':=[.slice none 0 0,num (g),u,rv,.map (some mb),.slice none 0 0,num ((0:Nat):Int),x7,x8,x9]) b3.wf rfl rfl rfl rfl c5 b3.get (Nat.le_of_ble_eq_true rfl) rfl rfl fun A22 b5=>?_);have fV:=b5.keep _ _ a0.symm fT;have fl:=an fi aG aF b5.n b5.keep;refine f2 _ _<|.q Z (cQ Z)<|.q Z (aj k5 d6 U Z)<|.l Z (fun _ _ f3 _=>aQ (cs:=[aX ([]),num ((0:Nat):Int),.slice none 0 0]) (c':=[.slice none 0 0,num (g),u,rv,.map (some mb),.slice none 0 0,num ((0:Nat):Int),aX ([]),num ((0:Nat):Int),.slice none 0 0]) b5.wf rfl rfl rfl rfl d6 b5.get (Nat.le_of_ble_eq_true rfl) rfl rfl fun A27 b6=>?_);have fX:=b6.keep _ _ a0.symm fV;have fm:=an fl aG aF b6.n b6.keep;refine f3 _ _<|.nil<|fR _ _<|.seq fun _ g0=>.region<|.q Z (ah Z)<|.q Z (ah Z) ?_;have cC:=Fresh.nil A0 A27 1;have d2:=ci (bs:=[some b0,blk (.slice none 0 0)]) fm (uk aF (sA cC.lo oT));refine Ops.l Z (fun _ _ f4 _=>au Z (Cz w ([]) b0 (.slice none 0 0) (num (g)) u rv (.map (some mb)) (.slice none 0 0) (num ((0:Nat):Int)) (aX ([])) (num ((0:Nat):Int)) (.slice none 0 0) (A27.hide [some b0,blk (.slice none 0 0)]) A27 (cE A27 [some b0,blk (.slice none 0 0)]) (cm b6.wf) b6.get (cr (by simp)) (cC.hide (by simp)) (fun q=>by cases q) Oz) ?_);rintro hj A37 ⟨ec,rfl,c4,gD,bR,ba,bu⟩;have cV:=bQ (bs:=[some b0,blk (.slice none 0 0)]) fX (qz a0.symm (nY (fun q=>by cases q) mI));have g1:=c4.get _ _ cV;have ey:=ba.base d2;have fq:=ba.seph cV;have fn:=d2.trans c4;refine f4 _ _<|.nil<|g0 _ _<|.seq fun _ g2=>.block<|.loop (X:=List UInt8 × List UInt8 × Nat × List bI × Nat × Nat × Value × Value × Value) (fun ⟨q,k,n,d,m,f,kv,qv,dv⟩=>[(0,.pointer (some ⟨b0,0,none⟩)),(4,.pointer (some ⟨b4,0,none⟩))]) (fun ⟨q,k,n,d,m,f,kv,qv,dv⟩ B=>(il rs f ⟨q,k,n,d,m⟩=il rs rL (start w)/\q.length + k.length<=w.length/\n<=20000/\d.length<=100000/\m<=1000000/\(20000 - n) * 100001 + q.length < f)/\A0.le B/\Fresh A0 B kv 1 (ao k)/\Fresh A0 B qv 1 (ao q)/\Fresh A0 B dv 3 (cb d)/\B.get b0=some (.row true [kv,num (g),u,rv,.map (some mb),qv,num ((m:Nat):Int),aX ([]),num ((n:Nat):Int),dv] 10)/\B.get b4=some (.row true [aX ([]),num ((0:Nat):Int),.slice none 0 0] 3)/\V.blk kv ≠ some b0/\V.blk qv ≠ some b0/\V.blk dv ≠ some b0/\V.blk kv ≠ some b4/\V.blk qv ≠ some b4/\V.blk dv ≠ some b4/\bq kv qv/\bq kv dv/\bq qv dv) (fun ⟨q,k,n,d,m,f,kv,qv,dv⟩=>f) (⟨w.reverse,[],0,[],0,rL,.slice none 0 0,ec,.slice none 0 0⟩) (jV Z Z) (⟨⟨Z,by simp,by omega,by simp,by omega,by have h1:w.length<=20000:=hwl;simp only [List.length_reverse];unfold rL;omega⟩,fn,(Fresh.nil A0 A37 1),(cw ey (congrArg ao ((by rfl)))),(Fresh.nil A0 A37 3),bR,g1,(fun q=>by cases q),bu,(fun q=>by cases q),(fun q=>by cases q),fq,(fun q=>by cases q),bq.nil,bq.nil,(bq.symm bq.nil)⟩) ?_;rintro ⟨q,k,n,d,m,f,kv,qv,dv⟩ B48 ⟨⟨hrun,hlen,hn,hd,hm,hf⟩,d3,bc,ac,bb,a2,bd,ab,a1,D,ap,ar,aa,az,aA,aI⟩;refine am.wf fun dl=>?_;have hrf:=fun z:¬ aK rs (k ++ [q.getD (q.length - 1) 0]) < 0=>Cd hs z;have hkl:(k ++ [q.getD (q.length - 1) 0]).length=k.length + 1:=by simp
 have hmv:(eU ((k ++ [q.getD (q.length - 1) 0]).take ((k ++ [q.getD (q.length - 1) 0]).length - (rs.getD (aK rs (k ++ [q.getD (q.length - 1) 0])).toNat .zero).left.length)) (rs.getD (aK rs (k ++ [q.getD (q.length - 1) 0])).toNat .zero).proof).length<=(rs.getD (aK rs (k ++ [q.getD (q.length - 1) 0])).toNat .zero).proof.length:=tP _ _;have hmk:rk ((k ++ [q.getD (q.length - 1) 0]).take ((k ++ [q.getD (q.length - 1) 0]).length - (rs.getD (aK rs (k ++ [q.getD (q.length - 1) 0])).toNat .zero).left.length)) (rs.getD (aK rs (k ++ [q.getD (q.length - 1) 0])).toNat .zero).proof=true->(eU ((k ++ [q.getD (q.length - 1) 0]).take ((k ++ [q.getD (q.length - 1) 0]).length - (rs.getD (aK rs (k ++ [q.getD (q.length - 1) 0])).toNat .zero).left.length)) (rs.getD (aK rs (k ++ [q.getD (q.length - 1) 0])).toNat .zero).proof).length=(rs.getD (aK rs (k ++ [q.getD (q.length - 1) 0])).toNat .zero).proof.length:=Be;refine am.seq fun _ g3=>.seq fun _ g4=>.region<|.q Z (ah Z)<|.q Z (cQ Z)<|.q Z (aj kZ gb U Z)<|.q Z (ak kg Z Z a2 Z)<|.q Z (bF (n:=q.length) cy Z ac.slc O (dq _))<|.q Z (dP (b:=0) Z Z)<|.nil ?_;refine g4 _ _<|.if rfl (fun gp=>?_) (fun gp=>?_)
 ·refine am.skip<|g3 _ _<|.block<|.seq fun _ g5=>.drawn [0,1,2,3,4,5,6,7,8,9,10,11,12] mixed Y Y Z<|.q Z Z Z (ah Z)<|.q Z Z Z (cQ Z)<|.q Z Z Z (aj kZ gb U Z)<|.q Z Z Z (ak kg Z Z a2 Z)<|.q Z Z Z (ah Z) ?_;refine bj.q Z Z Z (cQ Z)<|.q Z Z Z (aj kZ gb U Z)<|.q Z Z Z (ak kg Z Z a2 Z)<|.q Z Z Z (bF (n:=q.length) cy Z ac.slc O (dq _))<|.q Z Z Z (fJ (b:=1) Z Z O) ?_;obtain ⟨gZ,h5,gP,hh,gM,he,ha,fM,gf,fO,gG,ev⟩:=bK.at (i:=q.length - 1) ac.slc On O;refine bj.q Z Z Z (ax cy ji Z fM Z gf)<|.q Z Z Z (ak Iq Z Z fO ((cT ev).trans (eH O)))<|.q Z Z Z (ae Z)<|.done<|g5 _ _<|.seq fun _ g6=>.drawn [0,1,2,3,4,5,6,7,8,9,10,11,12,13,14] mixed Y Y Z<|.q Z Z Z (ah Z)<|.q Z Z Z (ah Z)<|.q Z Z Z (cQ Z) ?_;refine bj.q Z Z Z (aj kZ gb U Z)<|.q Z Z Z (ak kg Z Z a2 Z)<|.q Z Z Z (ah Z)<|.q Z Z Z (cQ Z)<|.q Z Z Z (aj kZ gb U Z)<|.q Z Z Z (ak kg Z Z a2 Z)<|.q Z Z Z (bF (n:=q.length) cy Z ac.slc O (dq _))<|.q Z Z Z (fJ (b:=1) Z Z O) ?_;obtain ⟨a4,bM,a5,gA,gm,h4⟩:=ac.nonnil (by intro q;have:=congrArg List.length q;simp only [aH,List.length_nil] at this;omega);subst gA;rw [aH,Nat.mul_one] at gm;have cH:=ac.take (k:=q.length - 1) O;rw [Nat.mul_one,gO] at cH;refine bj.q Z Z Z (i5 cy ji Z Z O)<|.q Z Z Z (cQ Z)<|.q Z Z Z (aj kZ gb U Z)<|.l Z Z Z (fun _ _ f6 _=>aQ (cs:=[.slice (some ⟨a4,0,none⟩) (q.length - 1) a5]) (c':=[kv,num (g),u,rv,.map (some mb),.slice (some ⟨a4,0,none⟩) (q.length - 1) a5,num ((m:Nat):Int),aX ([]),num ((n:Nat):Int),dv]) dl rfl rfl rfl rfl gb a2 (Nat.le_of_ble_eq_true rfl) rfl rfl fun A65 a8=>?_);have eg:=a8.keep _ _ a0.symm bd;have b1:=bc.keep a8.keep ab;have bO:=bb.keep a8.keep D;have bP:=cH.keep a8.keep a1;have dd:=an d3 aG aF a8.n a8.keep;refine f6 _ _ (be.none Y)<|.done<|g6 _ _<|.seq fun _ g7=>.seq fun _ g8=>.region<|.q Z (ah Z)<|.q Z (cQ Z)<|.q Z (aj ja oA U Z)<|.q Z (aj ik gb U Z) ?_;refine Ops.q Z (ak kg Z Z a8.get Z)<|.q Z (bF (n:=k.length) cy Z b1.slc O (dq _))<|.q Z (ae Z)<|.nil<|g8 _ _<|.join (fun f A1=>al [(78,.bool (decide (0 < k.length/\k.getD (k.length - 1) 0=q.getD (q.length - 1) 0 ^^^ 32))),(0,.pointer (some ⟨b0,0,none⟩)),(4,.pointer (some ⟨b4,0,none⟩)),(25,.pointer (some ⟨b0,0,none⟩)),(26,.pointer (some ⟨b0,0,none⟩)),(27,.pointer (some ⟨b0,5,none⟩)),(28,.slice (some ⟨a4,0,none⟩) bM a5),(29,num ((q.length:Nat):Int)),(30,.bool (decide (0 < q.length))),(31,.pointer (some ⟨b0,0,none⟩)),(32,.pointer (some ⟨b0,0,none⟩)),(33,.pointer (some ⟨b0,5,none⟩)),(34,.slice (some ⟨a4,0,none⟩) bM a5),(35,.pointer (some ⟨b0,0,none⟩)),(36,.pointer (some ⟨b0,0,none⟩)),(37,.pointer (some ⟨b0,5,none⟩)),(38,.slice (some ⟨a4,0,none⟩) bM a5),(39,num ((q.length:Nat):Int)),(40,num ((q.length - 1:Nat):Int)),(42,d8 (q.getD (q.length - 1) 0)),(5,d8 (q.getD (q.length - 1) 0)),(43,.pointer (some ⟨b0,0,none⟩)),(44,.pointer (some ⟨b0,0,none⟩)),(45,.pointer (some ⟨b0,0,none⟩)),(46,.pointer (some ⟨b0,5,none⟩)),(47,.slice (some ⟨a4,0,none⟩) bM a5),(48,.pointer (some ⟨b0,0,none⟩)),(49,.pointer (some ⟨b0,0,none⟩)),(50,.pointer (some ⟨b0,5,none⟩)),(51,.slice (some ⟨a4,0,none⟩) bM a5),(52,num ((q.length:Nat):Int)),(53,num ((q.length - 1:Nat):Int)),(54,.slice (some ⟨a4,0,none⟩) (q.length - 1) a5),(55,.pointer (some ⟨b0,0,none⟩)),(56,.pointer (some ⟨b0,5,none⟩)),(57,.pointer (some ⟨b0,0,none⟩)),(58,.pointer (some ⟨b0,0,none⟩)),(59,.pointer (some ⟨b0,0,none⟩)),(60,.pointer (some ⟨b0,0,none⟩)),(61,kv),(62,num ((k.length:Nat):Int)),(6,num ((k.length:Nat):Int))] f.e/\f.ds=[]/\A65=A1) ?_ ?_
  ·refine am.region<|.q Z (ah Z)<|.q Z (dP (b:=0) Z Z)<|.q Z (ah Z)<|.part (t:=65) Z (fun gq=>?_) (fun gq=>?_)
   ·refine Ops.on Z Z<|.q Z (ah Z)<|.on Z Z<|.q Z (cQ Z)<|.on Z Z<|.q Z (aj ja oA U Z)<|.on Z Z<|.q Z (aj ik gb U Z)<|.on Z Z<|.q Z (ak kg Z Z a8.get Z) ?_;refine Ops.on Z Z<|.q Z (ah Z)<|.on Z Z<|.q Z (fJ (b:=1) Z Z O)<|.on Z Z ?_;obtain ⟨h3,h6,gQ,hi,gN,hg,hc,fN,gg,fQ,gL,ex⟩:=bK.at (i:=k.length - 1) b1.slc On O;refine Ops.q Z (ax cy ji Z fN Z gg)<|.on Z Z<|.q Z (ak Iq Z Z fQ ((cT ex).trans (eH O)))<|.on Z Z<|.q Z (ah Z)<|.on Z Z<|.q Z (M8 (d:=32) Z Z)<|.on Z Z<|.q Z (vJ Z Z)<|.q Z (aM Z Z) ?_;refine Ops.nil ?_;exact ⟨al.cons (show some _=some _ from congrArg (fun b=>some (Value.bool b)) (show (decide ((k.getD (k.length - 1) 0)=((q.getD (q.length - 1) 0) ^^^ 32)))=decide (0 < k.length/\k.getD (k.length - 1) 0=q.getD (q.length - 1) 0 ^^^ 32) from (by simp only [‹0 < _›,true_and])))<|al.cons Z<|al.cons Z<|al.cons Z<|al.cons Z<|al.cons Z<|al.cons Z<|al.cons Z<|al.cons Z<|al.cons Z<|al.cons Z<|al.cons Z<|al.cons Z<|al.cons Z<|al.cons Z<|al.cons Z<|al.cons Z<|al.cons Z<|al.cons Z<|al.cons Z<|al.cons Z<|al.cons Z<|al.cons Z<|al.cons Z<|al.cons Z<|al.cons Z<|al.cons Z<|al.cons Z<|al.cons Z<|al.cons Z<|al.cons Z<|al.cons Z<|al.cons Z<|al.cons Z<|al.cons Z<|al.cons Z<|al.cons Z<|al.cons Z<|al.cons Z<|al.cons Z<|al.cons Z<|al.cons Z<|al.nil _,Z,Z⟩
   refine Ops.off Z Z Z Z<|.off Z Z Z Z<|.off Z Z Z Z<|.off Z Z Z Z<|.off Z Z Z Z<|.off Z Z Z Z<|.off Z Z Z Z<|.off Z Z Z Z<|.off Z Z Z Z<|.off Z Z Z Z ?_;refine Ops.off Z Z Z Z<|.off Z Z Z Z<|.q Z (aW Z Z)<|.nil ?_;exact ⟨al.cons (show some _=some _ from congrArg (fun b=>some (Value.bool b)) (show (false)=decide (0 < k.length/\k.getD (k.length - 1) 0=q.getD (q.length - 1) 0 ^^^ 32) from (by simp only [‹¬ 0 < _›,false_and,decide_false])))<|al.cons Z<|al.cons Z<|al.cons Z<|al.cons Z<|al.cons Z<|al.cons Z<|al.cons Z<|al.cons Z<|al.cons Z<|al.cons Z<|al.cons Z<|al.cons Z<|al.cons Z<|al.cons Z<|al.cons Z<|al.cons Z<|al.cons Z<|al.cons Z<|al.cons Z<|al.cons Z<|al.cons Z<|al.cons Z<|al.cons Z<|al.cons Z<|al.cons Z<|al.cons Z<|al.cons Z<|al.cons Z<|al.cons Z<|al.cons Z<|al.cons Z<|al.cons Z<|al.cons Z<|al.cons Z<|al.cons Z<|al.cons Z<|al.cons Z<|al.cons Z<|al.cons Z<|al.cons Z<|al.cons Z<|al.nil _,Z,Z⟩
  rintro ⟨fe,fd⟩ _ ⟨hE,rfl,rfl⟩;refine am.forget hE<|.if rfl (fun gs=>?_) (fun gs=>?_)
  ·refine am.seq fun _ g9=>.region<|.q Z (ah Z)<|.q Z (cQ Z)<|.q Z (aj ja oA U Z) ?_;have di:=ci (bs:=[some b0,blk kv]) dd (uk aF (sA b1.lo oT));refine Ops.l Z (fun _ _ f7 _=>au Z (GW 1 k b0 kv (num (g)) u rv (.map (some mb)) (.slice (some ⟨a4,0,none⟩) (q.length - 1) a5) (num ((m:Nat):Int)) (aX ([])) (num ((n:Nat):Int)) dv (A65.hide [some b0,blk kv]) A65 (cE A65 [some b0,blk kv]) (cm a8.wf) a8.get (cr (by simp)) (b1.hide (by simp)) ab O) ?_);rintro hk A86 ⟨e1,rfl,aT,gE,bS,aC,bv⟩;have cX:=bQ (bs:=[some b0,blk kv]) eg (qz a0.symm (nY ap mI));have gc:=aT.get _ _ cX;have fE:=aC.sep bO.own (kr D (jD aA kq));have ez:=bO.off (kr D (jD aA kq)) aT;have fI:=aC.sep bP.own (kr a1 (jD az kq));have eA:=bP.off (kr a1 (jD az kq)) aT;have eC:=aC.base di;have fr:=aC.seph cX;have fo:=di.trans aT;refine f7 _ _<|.nil<|g9 _ _<|.exit ?_;exact ⟨⟨q.take (q.length - 1),k.take (k.length - 1),n,d,m,f - 1,e1,.slice (some ⟨a4,0,none⟩) (q.length - 1) a5,dv⟩,jV Z Z,Z,⟨⟨GA O O hrun ‹_›,by simp only [List.length_take];omega,hn,hd,hm,by simp only [List.length_take];omega⟩,fo,(cw eC (congrArg ao ((by rfl)))),(cw eA (congrArg ao ((by rfl)))),(cw ez (congrArg cb ((by rfl)))),bS,gc,bv,a1,D,fr,ar,aa,fI,fE,aI⟩,O1⟩
  refine am.skip<|g7 _ _<|.seq fun _ eG=>.region<|.q Z (ah Z)<|.q Z (ah Z)<|.q Z (cQ Z)<|.q Z (aj ja oA U Z)<|.q Z (aj ik gb U Z)<|.q Z (ak kg Z Z a8.get Z) ?_;refine Ops.q Z (ah Z)<|.l Z (fun _ _ dL _=>aN (c:=[d8 (q.getD (q.length - 1) 0)]) a8.wf rfl (aw cy ji z5 rfl U U rfl) fun A104 gF a6=>?_);have cK:=a6.le.get _ _ a8.get;have cP:=a6.le.get _ _ eg;have bT:=b1.le a6.le;have bU:=bO.le a6.le;have bV:=bP.le a6.le;have e2:=dd.trans a6.le;refine dL _ _<|.l Z (fun _ _ dM _=>cF (ys:=[d8 (q.getD (q.length - 1) 0)]) rfl rfl cy ji rd z5 rfl U cy (fun _ h=>by cases h) bT.own (bN (n:=1) a6.get Z) rfl rfl (by show (_ + _) * 1<=_;simp only [aH,List.length_cons,List.length_nil];(try simp only [List.length_append,List.length_cons,List.length_nil]);omega) O3 fun A118 gS a3=>?_);rw [show ([d8 (q.getD (q.length - 1) 0)]:List Value)=ao [q.getD (q.length - 1) 0] from rfl,dE] at a3;obtain ⟨bY,e3⟩:=Fresh.grow bT e2 aG a3;have eL:=a3.keep ab cK;have br:=a3.ne ab a6.wf cK;have eN:=a3.keep ap cP;have c7:=a3.ne ap a6.wf cP;have cc:=bq.appd (show bq kv dv from aA) bU.own a6.wf a3;have dm:=bU.appd a3 aA;have ck:=bq.appd (show bq kv (.slice (some ⟨a4,0,none⟩) (q.length - 1) a5) from az) bV.own a6.wf a3;have dw:=bV.appd a3 az;refine dM _ _<|.q Z (cQ Z)<|.q Z (aj ja oA U Z)<|.q Z (aj ik gb U Z) ?_;obtain ⟨av,ai,ag,fv,_⟩:=bY.own.slice;subst fv;refine Ops.l Z (fun _ _ dO _=>aQ (cs:=[.slice av ai ag]) (c':=[.slice av ai ag,num (g),u,rv,.map (some mb),.slice (some ⟨a4,0,none⟩) (q.length - 1) a5,num ((m:Nat):Int),aX ([]),num ((n:Nat):Int),dv]) a3.wf rfl rfl rfl rfl gb eL (Nat.le_of_ble_eq_true rfl) rfl rfl fun A137 a9=>?_);have cS:=a9.keep _ _ a0.symm eN;have bm:=dm.keep a9.keep D;have bp:=dw.keep a9.keep a1;have aP:=bY.keep a9.keep br;have aS:=an e3 aG aF a9.n a9.keep;refine dO _ _<|.nil<|eG _ _<|.seq fun _ eQ=>.region<|.q Z (ah Z)<|.l Z (fun _ _ dS _=>au Z (Rz b0 (.slice av ai ag) ((g)) u rv mb (.slice (some ⟨a4,0,none⟩) (q.length - 1) a5) (num ((m:Nat):Int)) (aX ([])) (num ((n:Nat):Int)) dv rs (k ++ [q.getD (q.length - 1) 0]) _ _ A137 (by simp only [List.length_append,List.length_cons,List.length_nil];have:=(fB hs).2.1;omega) (fun r z=>by have:=lm hs z;omega) a9.get aP.slc (hr.le aS) (hI.le aS)) ?_);rintro gX A149 ⟨rfl,rfl⟩;refine dS _ _<|.q Z (ae Z)<|.nil<|eQ _ _<|.seq fun _ eS=>.region<|.q Z (ah Z)<|.q Z (lM Z Z)<|.nil<|eS _ _ ?_;refine am.if rfl (fun ft=>?_) (fun ft=>?_)
  ·refine am.region<|.q Z (ah Z)<|.q Z (ah Z) ?_;have ad:=ci (bs:=[some b0,blk (.slice av ai ag),blk (.slice (some ⟨a4,0,none⟩) (q.length - 1) a5),blk dv]) aS (uk aF (sA aP.lo (sA bp.lo (sA bm.lo oT))));refine Ops.l Z (fun _ _ dV cZ=>OU Z (UM ((aK rs (k ++ [q.getD (q.length - 1) 0]))) ((aK rs (k ++ [q.getD (q.length - 1) 0])).toNat) (by have:=hrf (show ¬ aK rs (k ++ [q.getD (q.length - 1) 0]) < 0 by omega);omega) rs (k ++ [q.getD (q.length - 1) 0]) (q.take (q.length - 1)) d n m b0 (.slice av ai ag) g u rv mb (.slice (some ⟨a4,0,none⟩) (q.length - 1) a5) (aX ([])) dv (A137.hide [some b0,blk (.slice av ai ag),blk (.slice (some ⟨a4,0,none⟩) (q.length - 1) a5),blk dv]) A137 (cE A137 [some b0,blk (.slice av ai ag),blk (.slice (some ⟨a4,0,none⟩) (q.length - 1) a5),blk dv]) (cm a9.wf) a9.get (cr (by simp)) (aP.hide (by simp)) (bp.hide (by simp)) (bm.hide (by simp)) br a1 D ck cc aI (by have:=hrf (show ¬ aK rs (k ++ [q.getD (q.length - 1) 0]) < 0 by omega);have h2:=(fB hs).2.1;omega) (by have:=hrf (show ¬ aK rs (k ++ [q.getD (q.length - 1) 0]) < 0 by omega);simp only [List.length_take];have:=lm hs (bw (d:=bf.zero) this.1);omega) (by have:=hrf (show ¬ aK rs (k ++ [q.getD (q.length - 1) 0]) < 0 by omega);omega) (hL.le ad) (hr.le ad) (hp.le ad)) ?_ (fun fL Cq157 aB=>cZ _ _ (by (repeat first | with_reducible refine kG ?_ | with_reducible refine jw ?_ | with_reducible refine i3 ?_);exact MJ (⟨iI (jH O O hrun ‹_› (show ¬ aK rs (k ++ [q.getD (q.length - 1) 0]) < 0 by omega) (fun z=>aB.1 z)),aB.2.1,ad.trans aB.2.2.1,aB.2.2.2.1,aB.2.2.2.2⟩))));rintro gY A156 ⟨d0,dk,cA,rfl,bL,gC,bD,aV,aY,aZ,b7,b8,b9,bA,bB,bC,a7⟩;have aR:=bQ (bs:=[some b0,blk (.slice av ai ag),blk (.slice (some ⟨a4,0,none⟩) (q.length - 1) a5),blk dv]) cS (qz a0.symm (nY c7 (nY ar (nY aa mI))));have eT:=bL.get _ _ aR;have dz:=aV.base ad;have e7:=aV.seph aR;have dD:=aY.base ad;have e9:=aY.seph aR;have dI:=aZ.base ad;have ea:=aZ.seph aR;have e4:=ad.trans bL;refine dV _ _<|.nil ?_;exact ⟨⟨(q.take (q.length - 1)) ++ (rs.getD ((aK rs (k ++ [q.getD (q.length - 1) 0])).toNat) .zero).right.reverse,((k ++ [q.getD (q.length - 1) 0]).take ((k ++ [q.getD (q.length - 1) 0]).length - (rs.getD ((aK rs (k ++ [q.getD (q.length - 1) 0])).toNat) .zero).left.length)),n + 1,d ++ (eU ((k ++ [q.getD (q.length - 1) 0]).take ((k ++ [q.getD (q.length - 1) 0]).length - (rs.getD ((aK rs (k ++ [q.getD (q.length - 1) 0])).toNat) .zero).left.length)) (rs.getD ((aK rs (k ++ [q.getD (q.length - 1) 0])).toNat) .zero).proof),m + cz (eU ((k ++ [q.getD (q.length - 1) 0]).take ((k ++ [q.getD (q.length - 1) 0]).length - (rs.getD ((aK rs (k ++ [q.getD (q.length - 1) 0])).toNat) .zero).left.length)) (rs.getD ((aK rs (k ++ [q.getD (q.length - 1) 0])).toNat) .zero).proof),f - 1,d0,dk,cA⟩,jV Z Z,Z,⟨⟨Cj O O hrun ‹_› (show ¬ aK rs (k ++ [q.getD (q.length - 1) 0]) < 0 by omega) a7,Bh hlen hkl (hrf (show ¬ aK rs (k ++ [q.getD (q.length - 1) 0]) < 0 by omega)).2.2.1 (hrf (show ¬ aK rs (k ++ [q.getD (q.length - 1) 0]) < 0 by omega)).2.1 O,by have:=a7.2.1;omega,by have h0:=hmk a7.1;have h9:=@List.length_append _ d (eU ((k ++ [q.getD (q.length - 1) 0]).take ((k ++ [q.getD (q.length - 1) 0]).length - (rs.getD (aK rs (k ++ [q.getD (q.length - 1) 0])).toNat .zero).left.length)) (rs.getD (aK rs (k ++ [q.getD (q.length - 1) 0])).toNat .zero).proof);have h8:d.length + (rs.getD (aK rs (k ++ [q.getD (q.length - 1) 0])).toNat .zero).proof.length<=100000:=a7.2.2.1;omega,a7.2.2.2,Gi hf a7.2.1 (by have h1:=hrf (show ¬ aK rs (k ++ [q.getD (q.length - 1) 0]) < 0 by omega);omega) O⟩,e4,(cw dz (congrArg ao ((by rfl)))),(cw dD (congrArg ao ((by rfl)))),(cw dI (congrArg cb ((by rfl)))),bD,eT,b7,b8,b9,e7,e9,ea,bA,bB,bC⟩,O1⟩
  refine am.skip ?_;exact ⟨⟨q.take (q.length - 1),k ++ [q.getD (q.length - 1) 0],n,d,m,f - 1,.slice av ai ag,.slice (some ⟨a4,0,none⟩) (q.length - 1) a5,dv⟩,jV Z Z,Z,⟨⟨Ci O O hrun ‹_› (show aK rs (k ++ [q.getD (q.length - 1) 0]) < 0 by omega),by simp only [List.length_take,List.length_append,List.length_cons,List.length_nil];omega,hn,hd,hm,by simp only [List.length_take];omega⟩,aS,(cw aP (congrArg ao ((by rfl)))),(cw bp (congrArg ao ((by rfl)))),(cw bm (congrArg cb ((by rfl)))),a9.get,cS,br,a1,D,c7,ar,aa,ck,cc,aI⟩,O1⟩
 refine am.exit<|g2 _ _<|.seq fun _ eV=>.region<|.q Z (ah Z)<|.q Z (ah Z)<|.q Z (cQ Z)<|.q Z (aj ja oA U Z)<|.q Z (aj ik gb U Z)<|.q Z (ak kg Z Z a2 Z) ?_;refine Ops.l Z (fun _ _ dW _=>dT (s:=k) Z cy u9 u5 bc.slc ?_);refine dW _ _<|.q Z (cQ Z)<|.q Z (aj k5 d6 U Z)<|.q Z (aj jW fc U Z)<|.l Z (fun _ _ dZ _=>aQ (cs:=[aX (k)]) (c':=[kv,num (g),u,rv,.map (some mb),qv,num ((m:Nat):Int),aX (k),num ((n:Nat):Int),dv]) dl rfl rfl rfl rfl fc a2 (Nat.le_of_ble_eq_true rfl) rfl rfl fun A172 ay=>?_);have eX:=ay.keep _ _ a0.symm bd;have c3:=bb.keep ay.keep D;have e5:=an d3 aG aF ay.n ay.keep;refine dZ _ _<|.nil<|eV _ _<|.seq fun _ eY=>.region<|.q Z (ah Z)<|.q Z (cQ Z)<|.q Z (aj k5 d6 U Z)<|.q Z (aq kR d6 Z Z ay.get Z) ?_;obtain ⟨dj,d1,cv,fD,_⟩:=c3.own.slice;subst fD;refine Ops.l Z (fun _ _ e0 _=>aQ (cs:=[aX (k),num ((n:Nat):Int),.slice dj d1 cv]) (c':=[aX (k),num ((n:Nat):Int),.slice dj d1 cv]) ay.wf rfl rfl rfl rfl d6 eX (Nat.le_of_ble_eq_true rfl) rfl rfl fun A183 aD=>?_);have eZ:=aD.keep _ _ a0 ay.get;have dJ:=c3.keep aD.keep aa;have e6:=an e5 aG dK aD.n aD.keep;refine e0 _ _<|.nil<|eY _ _<|.ret ?_;repeat first | with_reducible refine bz ?_ | with_reducible refine bi ?_
 exact Vt (df kR d6 Z aD.get Z d7) (⟨_,_,_,_,_,_,_,by rw [na (se O O hrun)];rfl,e6,aD.wf,eZ,by rw [na (se O O hrun)];exact dJ,D,by rw [na (se O O hrun)];rfl⟩)
end Go.Proofs.YtjppkekmddjcfaaGreatDoor

namespace Go.Proofs.YtjppkekmddjcfaaGreatDoor
open Go Go.RowKit V
abbrev R0 (E:List (UInt8 × Value)) (c:UInt8):Value:=(lk E c).getD (.slice none 0 0)
structure ni (A0 A:AH) (E:List (UInt8 × Value)) (rs:List bf) (i:Nat) (bs:List Nat):Prop where
  nd:(E.map (·.1)).Nodup
  fr:∀ c,Fresh A0 A (R0 E c) 1 (cO (gy (rs.take i) c))
  ne:∀ c,∀ b ∈ bs,blk (R0 E c) ≠ some b
  sp:∀ c d,c ≠ d->bq (R0 E c) (R0 E d)
section
variable {A0 A A2 A3 A4:AH} {E:List (UInt8 × Value)} {rs:List bf} {i m b:Nat} {bs:List Nat} {c d:UInt8} {v:Value} {o:fK}
theorem LN (c:UInt8):gy [] c=[]:=by simp [gy]
theorem ni.nil:ni A0 A [] rs 0 bs:=⟨by simp,fun c=>by rw [List.take_zero,LN];exact Fresh.nil _ _ _,fun c b _ q=>(by cases q),fun _ _ _=>bq.nil⟩
theorem s7 {rs:List bf} {i j:Nat} (h:j < i):(rs.take i).getD j .zero=rs.getD j .zero:=by
  simp [List.getD_eq_getElem?_getD,List.getElem?_take,h]
theorem I6 (hi:i < rs.length) (d:UInt8):gy (rs.take (i + 1)) d=if te (rs.getD i .zero)=d then gy (rs.take i) d ++ [(i:Int)] else gy (rs.take i) d:=by
  have e:∀ k,k<=rs.length->gy (rs.take k) d=((List.range k).filter fun i=>decide (te (rs.getD i .zero)=d)).map fun (i:Nat)=>(i:Int):=fun k hk=>by
    unfold gy
    rw [List.length_take,Nat.min_eq_left hk]
    congr 1
    apply List.filter_congr
    intro j hj
    rw [s7 (List.mem_range.1 hj)]
  rw [e _ O,e _ O,List.range_succ,List.filter_append,List.map_append]
  by_cases h:te (rs.getD i .zero)=d
  · rw [if_pos h,List.filter_cons,decide_eq_true h];rfl
  · simp only [if_neg h,List.filter_cons,List.filter_nil,decide_eq_false h];simp
theorem uv (d:UInt8):R0 (yi E c v) d=if d=c then v else R0 E d:=by
  show (lk (yi E c v) d).getD _=_
  rw [SK]
  split <;> rfl
theorem ni.step (h:ni A0 A E rs i bs) (le:A.le A2) (D:A2.wf) (ap:mA A2 (R0 E c) 1 (cO (gy (rs.take i) c ++ [(i:Int)])) v A3) (fr:Fresh A0 A3 v 1 (cO (gy (rs.take i) c ++ [(i:Int)]))) (sb:ug A3 A4 m o) (hm:m ∈ bs)
    (hne:∀ b ∈ bs,blk v ≠ some b) (hi:i < rs.length) (hc:te (rs.getD i .zero)=c):ni A0 A4 (yi E c v) rs (i + 1) bs:=by
  have hs:∀ d,d ≠ c->bq v (R0 E d):=fun d hd=>bq.appd (h.sp c d hd.symm) ((h.fr d).own.le le) D ap
  refine ⟨Kf h.nd,fun d=>?_,fun d b hb=>?_,fun d e hde=>?_⟩
  · rw [uv,I6 hi,hc]
    by_cases hd:d=c
    · subst hd;rw [if_pos Z,if_pos Z];exact fr.keep sb.keep (hne m hm)
    · rw [if_neg hd,if_neg (fun q=>hd q.symm)]
      exact (((h.fr d).le le).appd ap (h.sp c d (fun q=>hd q.symm))).keep sb.keep (h.ne d m hm)
  · rw [uv];split
    · exact hne b hb
    · exact h.ne d b hb
  · rw [uv,uv]
    by_cases hd:d=c
    · subst hd;rw [if_pos Z,if_neg (fun q=>hde q.symm)];exact hs e (fun q=>hde q.symm)
    · rw [if_neg hd]
      by_cases he:e=c
      · subst he;rw [if_pos Z];exact (hs d hd).symm
      · rw [if_neg he];exact h.sp d e hde
theorem ni.map {rw:Bool} {es:Array MapEntry} {ck:Nat} (h:ni A0 A E rs i bs) (hi:rs.length<=i) (g:A.get m=some (.obj rw (.map es ck))) (hE:du d8 es E) (hb:b ∈ bs) (hm:m ≠ b):oU (A.hide [some b]) m rs:=by
  refine ⟨rw,es,ck,E,bQ g (qz hm mI),hE,fun c=>?_⟩
  have:=((h.fr c).off (bs:=[some b]) (kr (h.ne c b hb) kq) (AH.le.refl _)).slc
  rwa [List.take_of_length_le hi] at this
theorem Un {p:Nat->Prop} {a b:Nat} (ha:p a) (hb:p b):∀ c ∈ [a,b],p c:=fun c hc=>by
  simp only [List.mem_cons,List.not_mem_nil,or_false] at hc
  rcases hc with rfl | rfl
  · exact ha
  · exact hb
theorem zP {v:Value} {n:Nat} {l:List Value} (h:oO A v n l) (g:A.get b=none):blk v ≠ some b:=fun q=>by
  obtain ⟨o,ho⟩:=h.blkget q;rw [g] at ho;cases ho
theorem rY (le:A.le A2) (h:A2.get b=none):A.get b=none:=by
  cases q:A.get b with
  | none=>rfl
  | some o=>rw [le.get b o q] at h;cases h
theorem Jc {v:Value} {n:Nat} {l:List Value} (le:A.le A2) (h:Fresh A2 A3 v n l):∀ b,blk v=some b->A.get b=none:=fun b hb=>rY le (h.lo b hb)
theorem Ga {s v:Value} {n:Nat} {l:List Value} (le:A.le A2) (wf:A.wf) (ap:mA A2 s n l v A3) (h:∀ b,blk s=some b->A.get b=none):∀ b,blk v=some b->A.get b=none:=fun b hb =>
  (ap.blk b hb).elim (fun q=>h b q) fun q=>aU wf (Nat.le_trans le.n q)
theorem F8 {s v:Value} {n:Nat} {l:List Value} (le:A.le A2) (wf:A.wf) (ap:mA A2 s n l v A3) (h:∀ b,blk s=some b->A.get b=none):A.le A3 :=
  ⟨Nat.le_trans le.n ap.n,fun b o g=>ap.get b o (le.get b o g) fun q=>by rw [h b q] at g;cases g⟩
theorem xp {bs:List (Option Nat)} (le:A.le A2):(A.hide bs).le (A2.hide bs):=ci ((cE A bs).trans le) fun b q=>cr q
end
def fu (rs:List bf) (w:List UInt8):Option Fj:=if 20000 < w.length then none else ga rs w
section
variable {g:Int} {l:List (List UInt8)} {rs:List bf} {w:List UInt8}
theorem BW (h:bG g w=0):ro g rs w=fu rs w:=by
  unfold ro fu
  by_cases q:w.length<=20000
  · rw [if_pos ⟨h,q⟩,if_neg O]
  · rw [if_neg (fun z=>q z.2),if_pos O]
theorem EF (h:(!cj g l rs)=true):ei g l rs w=.zero/\gV g l rs w=100:=od (by simpa using h)
theorem EH (h:(!cj g l rs)=false) (h2:¬ bG g w=0):ei g l rs w=.zero/\gV g l rs w=4:=by
  rw [(iW (by simpa using h)).1,(iW (by simpa using h)).2];exact jg h2
theorem EI (h:(!cj g l rs)=false) (h2:¬ ¬ bG g w=0) (q:(!(fu rs w).isSome)=true):ei g l rs w=.zero/\gV g l rs w=2:=by
  have h2:=Decidable.not_not.1 h2
  rw [(iW (by simpa using h)).1,(iW (by simpa using h)).2,n0,j6,BW h2,sc q]
  simp [h2,eh]
theorem EJ (h:(!cj g l rs)=false) (h2:¬ ¬ bG g w=0) (q:(!(fu rs w).isSome)=false):ei g l rs w=eh (fu rs w)/\gV g l rs w=0:=by
  have h2:=Decidable.not_not.1 h2
  rw [(iW (by simpa using h)).1,(iW (by simpa using h)).2,n0,j6,BW h2]
  simp_all
theorem wo (hs:cj g l rs=true):∀ r ∈ rs,0 < r.left.length/\r.left.length<=1000000:=fun r hr=>by have:=lm hs hr;omega
theorem su (hs:cj g l rs=true):rs.length<=1000000:=by have:=(fB hs).2.1;omega
end
end Go.Proofs.YtjppkekmddjcfaaGreatDoor

namespace Go.Proofs.YtjppkekmddjcfaaGreatDoor
open Go Go.RowKit V
set_option maxRecDepth 100000

theorem Qy {A:AH} {n:Nat} {a:List UInt8} {i:Int} {v:Value} {xs:List Value} (h:bK A n v xs):qC [aX a,num i,v]=true:=by
  obtain ⟨p,k,c,rfl,_⟩:=h;rfl
theorem jh {A:AH} {k b:Nat} {o x:fK} (h:A.get b=some x) (hn:b ≠ k):(A.set k o).get b=some x:=(AH.set_get_ne _ _ hn).trans h
theorem rg {A0 A:AH} {k:Nat} {o:fK} (le:A0.le A) (D:A0.wf) (h:A0.get k=none):A0.le (A.set k o):=an le D h rfl fun b' o' hn g=>jh g hn
theorem sl (p q:Value) (A:AH):kf Tryz.prog 105 #[p,q] .returning A (fun en u' A1=>en=.returned (eE [])/\u'=.returning/\A=A1):=by
  refine kf.enter (args:=[p,q]) Tryz.func105 Z (by rw [Tryz.ntmps105];exact Nat.le_of_ble_eq_true rfl) (fun wf=>?_)
  have hn:Tryz.f105.ntmps=12:=Tryz.ntmps105
  have hr:Tryz.f105.results = #[]:=Tryz.results105
  rw [hn,hr]
  refine qW.seq (qW.region Z (sE.recoverNil Z Z Z O (fun _ _=>rfl) (sE.nil ?_)))
  refine qW.of_run ?_
  refine am.block ?_
  refine am.seq fun K3 h4=>?_
  refine am.region ?_
  refine Ops.val (v:=.bool true) Z Z (fun a ha w hw=>?_) ?_
  · have h5:=cL (x:=.tmp 5) ha Z
    simp only [execOp,h5]
    simp [Act.eval,go_sem]
  refine Ops.nil (h4 _ _ ?_)
  refine am.cond_true Z ?_
  refine am.region<|.q Z (ae Z)<|.nil ?_
  exact ⟨Z,[],Z,Z,Z,Z⟩

theorem UN:dp Tryz.prog 149=some 0:=by kernel_rfl
theorem Sh:ly Tryz.prog 37 []=some (.agg #[aX [],num 0,.slice none 0 0]):=by kernel_rfl

theorem zu (a b:Nat) (c1 c2:List Value) (k1 k2:Nat) (older:List PanicEntry) (A:AH) (hab:a ≠ b) (h1:A.get a=some (.row true c1 k1)) (l1:3<=c1.length) (h2:A.get b=some (.row true c2 k2)) (l2:1<=c2.length) :
    kf Tryz.prog 105 #[.pointer (some ⟨a,0,none⟩),.pointer (some ⟨b,0,none⟩)] (.panicking ({ v:=.iface 149 (.agg #[]),recovered:=false } :: older)) A (fun en u' A1=>en=.returned (eE [])/\u'=.panicking ({ v:=.iface 149 (.agg #[]),recovered:=true } :: older) /\
      A1=(((A.new (.row true [] 0)).set A.n (.row true [] 0)).set a (.row true (oL c1 0 [aX [],num 0,.slice none 0 0]) k1)).set b (.row true (oL c2 0 [.bool false]) k2)):=by
  refine kf.enter (args:=[_,_]) Tryz.func105 Z (by rw [Tryz.ntmps105];exact Nat.le_of_ble_eq_true rfl) (fun wf=>?_)
  have hn:Tryz.f105.ntmps=12:=Tryz.ntmps105
  have hr:Tryz.f105.results = #[]:=Tryz.results105
  rw [hn,hr]
  refine qW.seq (qW.region Z (sE.recover Z Z Z O (fun _ _=>rfl) (sE.nil ?_)))
  refine qW.of_run ?_
  refine am.block ?_
  refine am.seq fun K3 h4=>?_
  refine am.region ?_
  refine Ops.val (v:=.bool false) Z Z (fun a ha w hw=>?_) ?_
  · have h5:=cL (x:=.tmp 5) ha Z
    simp only [execOp,h5]
    simp [Act.eval,go_sem]
  refine Ops.nil (h4 _ _ ?_)
  refine am.cond_false Z ?_
  refine am.seq fun K5 h6=>?_
  refine am.region ?_
  refine Ops.val (v:=.tuple #[.agg #[],.bool true]) Z Z (fun a ha w hw=>?_) ?_
  · have h5:=cL (x:=.tmp 5) ha Z
    simp only [execOp,h5]
    simp [Act.eval,go_sem]
    rw [Ef Tryz.underlying149];rfl
  refine Ops.q Z (bh Z Z)<|.q Z (bh Z Z)<|.nil (h6 _ _ ?_)
  refine am.cond_true Z ?_
  refine am.seq fun K7 h8=>?_
  refine am.region ?_
  refine Ops.l rfl fun K Kp hK _=>zA (z:=.agg #[]) (cs:=[]) Pd Z (hK _ _ ?_)
  refine Ops.l rfl fun K Kp hK _=>pR (cs:=[]) Z Z Z UN Z (AH.new_get_same _ _) (by simp) Z (hK _ _ ?_)
  refine Ops.nil (h8 _ _ ?_)
  have ha:=wf a _ h1
  have hb:=wf b _ h2
  refine am.region ?_
  refine Ops.q Z (cU Z Sh) ?_
  refine Ops.l rfl fun K Kp hK _=>pR (cs:=[aX [],num 0,.slice none 0 0]) (c:=c1) (cap:=k1) Z Z Z d6 Z (by rw [AH.set_get_ne _ _ (by show a ≠ A.n;omega),AH.new_get_ne _ _ (by show a ≠ A.n;omega)];exact h1) (by simpa using l1) Z (hK _ _ ?_)
  refine Ops.l rfl fun K Kp hK _=>pR (cs:=[.bool false]) (c:=c2) (cap:=k2) Z Z Z mc Z (by rw [AH.set_get_ne _ _ (by show b ≠ a;omega),AH.set_get_ne _ _ (by show b ≠ A.n;omega),AH.new_get_ne _ _ (by show b ≠ A.n;omega)];exact h2) (by simpa using l2) Z (hK _ _ ?_)
  refine Ops.nil ?_
  exact ⟨Z,[],Z,Z,Z,Z⟩


theorem uN (w:List UInt8) (rs:List bf) (l:List (List UInt8)) (b0:Nat) (g:Int) (u rv:Value) (mb:Nat) (x0 x5 x6 x7 x8 x9:Value) (A0 A:AH) (a2:A0.le A) (D:A0.wf)
    (hb:A.get b0=some (.row true [x0,num g,u,rv,.map (some mb),x5,x6,x7,x8,x9] 10)) (a8:A0.get b0=none) (hs:cj g l rs=true) (hL:gJ A0) (hr:bK A0 3 rv (c9 rs)) (hp:Proofs A0 rs) (hI:oU A0 mb rs) :
    bH Tryz.prog 60 #[.pointer (some ⟨b0,0,none⟩),aX (w)] A (fun v A1=>∃ V y0 y5 y6 y7 y8 y9,v=.tuple #[.agg #[aX (eh (fu rs w)).word,num (((eh (fu rs w)).steps:Nat):Int),V],.bool (fu rs w).isSome]/\A0.le A1/\A1.wf /\
      A1.get b0=some (.row true [y0,num g,u,rv,.map (some mb),y5,y6,y7,y8,y9] 10)/\Fresh A0 A1 V 3 (cb (eh (fu rs w)).disk)/\blk V ≠ some b0):=by
  refine yl.ret (enterD (e:=[(0,.pointer (some ⟨b0,0,none⟩)),(1,aX w)]) (args:=[.pointer (some ⟨b0,0,none⟩),aX w]) Tryz.call60 Tryz.func60 Z Tryz.results60 Tryz.ntmps60 Z Z Z (fun wf=>?_))
  have ac:b0 < A.n:=wf _ _ hb
  have n1:b0 ≠ A.n:=by omega
  have n2:b0 ≠ A.n + 1:=by omega
  have n3:A.n + 1 ≠ A.n:=by omega
  have a5:∀ o1 o2:fK,A.le ((A.new o1).new o2):=fun o1 o2=>AH.le_new (AH.le_new (AH.le.refl A) wf o1) wf o2
  have g0:∀ b,A.n<=b->A0.get b=none:=fun b h=>aU D (Nat.le_trans a2.n h)
  refine am.seq fun K1 h1=>?_
  refine am.region ?_
  refine Ops.l rfl fun K Kp hK _=>zA (z:=.agg #[aX [],num 0,.slice none 0 0]) (cs:=[aX [],num 0,.slice none 0 0]) sy Z (hK _ _ ?_)
  refine Ops.l rfl fun K Kp hK _=>zA (z:=.bool false) (cs:=[.bool false]) z4 Z (hK _ _ ?_)
  refine Ops.nil (h1 _ _ ?_)
  have a9:=AH.wf_new wf (.row true [aX [],num 0,.slice none 0 0] 3)
  have a3:=AH.wf_new a9 (.row true [.bool false] 1)
  have a1:=a5 (.row true [aX [],num 0,.slice none 0 0] 3) (.row true [.bool false] 1)
  have e1:((A.new (.row true [aX [],num 0,.slice none 0 0] 3)).new (.row true [.bool false] 1)).get A.n=some (.row true [aX [],num 0,.slice none 0 0] 3):=by
    rw [AH.new_get_ne _ _ (by show A.n ≠ A.n + 1;omega)];exact AH.new_get_same _ _
  have e2:((A.new (.row true [aX [],num 0,.slice none 0 0] 3)).new (.row true [.bool false] 1)).get (A.n + 1)=some (.row true [.bool false] 1):=AH.new_get_same _ _
  have e0:=a1.get _ _ hb
  have nB:((A.new (.row true [aX [],num 0,.slice none 0 0] 3)).new (.row true [.bool false] 1)).n=A.n + 2:=rfl
  generalize ((A.new (.row true [aX [],num 0,.slice none 0 0] 3)).new (.row true [.bool false] 1))=B at *
  have leB:=a2.trans a1
  refine am.seq fun K2 h2=>?_
  refine am.region ?_
  refine Ops.q Z (ml Z Z) ?_
  refine Ops.defer (d:={ target:=.fn (.func 105) #[.pointer (some ⟨A.n,0,none⟩),.pointer (some ⟨A.n + 1,0,none⟩)],args:=#[] }) Z Z (fun a ha w hw=>?_) ?_
  · have h6:=cL (x:=.tmp 6) ha Z
    simp only [execOp,resolve,h6]
    simp [Deferred.ofValue]
  refine Ops.nil (h2 _ _ ?_)
  refine am.seq fun K3 h3=>?_
  refine am.seq fun K3' a4=>?_
  refine am.region ?_
  refine Ops.q Z (ah Z)<|.q Z (cB u9 Z) ?_
  refine Ops.q Z (dP (b:=20000) Z Z) ?_
  refine Ops.nil (a4 _ _ ?_)
  refine am.if (p:=20000 < w.length) Z (fun hl=>?_) (fun hl=>?_)
  · have et:fu rs w=none:=if_pos hl
    refine am.seq fun K5 h5=>?_
    refine am.region ?_
    refine Ops.q Z (cU Z Sh) ?_
    refine Ops.l rfl fun K Kp hK _=>pR (cs:=[aX [],num 0,.slice none 0 0]) (c:=[aX [],num 0,.slice none 0 0]) (cap:=3) Z Z Z d6 Z e1 (by simp) Z (hK _ _ ?_)
    refine Ops.l rfl fun K Kp hK _=>pR (cs:=[.bool false]) (c:=[.bool false]) (cap:=1) Z Z Z mc Z (jh e2 n3) (by simp) Z (hK _ _ ?_)
    refine Ops.nil (h5 _ _ ?_)
    refine am.ret ?_
    show md _ _ _ _ _ _ _
    refine ⟨by simp,_,_,105,_,Z,(fun w=>rfl),(sl _ _ _).mono ?_⟩
    rintro en u' A1 ⟨rfl,rfl,rfl⟩
    refine ⟨[.agg #[aX [],num 0,.slice none 0 0],.bool false],?_,?_⟩
    · exact gv.cell Z (ph kR d6 (jh (AH.set_get_same _ _ _) n3.symm) Z) (gv.cell Z (pk ut (AH.set_get_same _ _ _) Z) gv.nil)
    · rw [et]
      have a0:=AH.wf_set a3 (k:=A.n) O (.row true (oL [aX [],num 0,.slice none 0 0] 0 [aX [],num 0,.slice none 0 0]) 3)
      refine ⟨.slice none 0 0,x0,x5,x6,x7,x8,x9,rfl,?_,AH.wf_set a0 (by show A.n + 1 < B.n;omega) _,?_,Fresh.nil _ _ _,fun q=>by cases q⟩
      · exact rg (rg leB D (g0 A.n (Nat.le_refl _))) D (g0 (A.n + 1) O)
      · exact jh (jh e0 n1) n2
  refine am.skip (h3 _ _ ?_)
  have et:fu rs w=ga rs w:=if_neg hl
  refine am.seq fun K5 h5=>?_
  refine am.region ?_
  refine Ops.q Z (ah Z)<|.q Z (ah Z) ?_
  have hle:=ci (A:=B) (bs:=[some b0]) leB (fun b q=>by rw [List.mem_singleton] at q;cases q;exact a8)
  have hwf:=cm (bs:=[some b0]) a3
  have hno:(B.hide [some b0]).get b0=none:=cr (List.mem_singleton.2 rfl)
  have k1:=bQ (bs:=[some b0]) e1 Oz
  have k2:=bQ (bs:=[some b0]) e2 Oz
  refine Ops.l rfl fun K Kp hK hKp=>OU Z (Tv w rs l b0 g u rv mb x0 x5 x6 x7 x8 x9 (B.hide [some b0]) B (cE _ _) hwf e0 hno hs O (hL.le hle) (hr.le hle) (hp.le hle) (hI.le hle)) (fun v C hv=>hK _ _ ?_) (fun ch C hc=>hKp _ _ ?_)
  · obtain ⟨V,y0,y5,y6,y7,y8,y9,rfl,leC,wfC,gC,frC,neC,isC⟩:=hv
    have a6:=frC.seph k1
    have a7:=frC.seph k2
    have one:qC [aX (eh (ga rs w)).word,num (((eh (ga rs w)).steps:Nat):Int),V]=true:=Qy frC.slc
    refine Ops.l rfl fun K Kp hK _=>pR (cs:=[aX (eh (ga rs w)).word,num (((eh (ga rs w)).steps:Nat):Int),V]) (c:=[aX [],num 0,.slice none 0 0]) (cap:=3) Z Z Z d6 Z (leC.get _ _ k1) (by simp) one (hK _ _ ?_)
    refine Ops.l rfl fun K Kp hK _=>pR (cs:=[.bool true]) (c:=[.bool false]) (cap:=1) Z Z Z mc Z (jh (leC.get _ _ k2) n3) (by simp) Z (hK _ _ ?_)
    refine Ops.nil (h5 _ _ ?_)
    refine am.ret ?_
    show md _ _ _ _ _ _ _
    refine ⟨by simp,_,_,105,_,Z,(fun w=>rfl),(sl _ _ _).mono ?_⟩
    rintro en u' A1 ⟨rfl,rfl,rfl⟩
    refine ⟨[.agg #[aX (eh (ga rs w)).word,num (((eh (ga rs w)).steps:Nat):Int),V],.bool true],?_,?_⟩
    · exact gv.cell Z (ph kR d6 (jh (AH.set_get_same _ _ _) n3.symm) Z) (gv.cell Z (pk ut (AH.set_get_same _ _ _) Z) gv.nil)
    · rw [et]
      have X:=hle.trans leC
      have nC:=leC.n
      have nH:(B.hide [some b0]).n=B.n:=rfl
      have a0:=AH.wf_set wfC (k:=A.n) O (.row true (oL [aX [],num 0,.slice none 0 0] 0 [aX (eh (ga rs w)).word,num (((eh (ga rs w)).steps:Nat):Int),V]) 3)
      refine ⟨V,y0,y5,y6,y7,y8,y9,by rw [isC];rfl,?_,AH.wf_set a0 (by show A.n + 1 < C.n;omega) _,?_,?_,neC⟩
      · exact rg (rg X D (g0 A.n (Nat.le_refl _))) D (g0 (A.n + 1) O)
      · exact jh (jh gC n1) n2
      · exact ((frC.base hle).keep (fun b' o hn h=>jh h hn) a6).keep (fun b' o hn h=>jh h hn) a7
  · obtain ⟨hn,rfl,leC,wfC,y0,y5,y6,y7,y8,y9,gC⟩:=hc
    show md _ _ _ _ _ _ _
    refine ⟨by simp,_,_,105,_,Z,(fun w=>rfl),(zu A.n (A.n + 1) _ _ 3 1 [] C O (leC.get _ _ k1) (by simp) (leC.get _ _ k2) (by simp)).mono ?_⟩
    rintro en u' A1 ⟨rfl,rfl,rfl⟩
    refine ⟨[.agg #[aX [],num 0,.slice none 0 0],.bool false],?_,?_⟩
    · exact gv.cell Z (ph kR d6 (jh (AH.set_get_same _ _ _) n3.symm) Z) (gv.cell Z (pk ut (AH.set_get_same _ _ _) Z) gv.nil)
    · rw [et,hn]
      have X:=hle.trans leC
      have nC:=leC.n
      have nH:(B.hide [some b0]).n=B.n:=rfl
      have lbC:=wfC _ _ gC
      have a0:=AH.wf_new wfC (.row true [] 0)
      have aa:=AH.wf_set a0 (k:=C.n) (by show C.n < C.n + 1;omega) (.row true [] 0)
      have ab:=AH.wf_set aa (k:=A.n) (by show A.n < C.n + 1;omega) (.row true (oL [aX [],num 0,.slice none 0 0] 0 [aX [],num 0,.slice none 0 0]) 3)
      have l1:=AH.le_new X D (.row true [] 0)
      have l2:A0.le ((C.new (.row true [] 0)).set C.n (.row true [] 0)):=rg l1 D (aU D X.n)
      refine ⟨.slice none 0 0,y0,y5,y6,y7,y8,y9,rfl,?_,AH.wf_set ab (by show A.n + 1 < C.n + 1;omega) _,?_,Fresh.nil _ _ _,fun q=>by cases q⟩
      · exact rg (rg l2 D (g0 A.n (Nat.le_refl _))) D (g0 (A.n + 1) O)
      · exact jh (jh (jh ((AH.new_get_ne _ _ O).trans gC) O) n1) n2
end Go.Proofs.YtjppkekmddjcfaaGreatDoor

namespace Go.Proofs.YtjppkekmddjcfaaGreatDoor
open Go Go.RowKit V
set_option maxRecDepth 100000
theorem mZ:Tryz.prog.info? 3=some Tryz.t3:=by kernel_rfl
theorem Uq:dh Tryz.prog 147=some [(0,1),(1,3),(4,1),(5,1),(6,1),(7,3)]:=by kernel_rfl
theorem Vv:type_of% @Tryz.underlying147:=@Tryz.underlying147
theorem VC:cD Tryz.prog 147=some (.agg #[.slice none 0 0,.int .i64 0,.slice none 0 0,.slice none 0 0,.map none,.slice none 0 0,.int .i64 0,.string ⟨⟨[]⟩⟩,.int .i64 0,.slice none 0 0]):=by kernel_rfl
theorem z3:cD Tryz.prog 3=some (.int .i64 0):=by kernel_rfl

theorem pG (g:Int) (u:Value) (l:List (List UInt8)) (rv:Value) (rs:List bf) (A:AH) (hn:rs.length<=1000000) (e3:∀ r ∈ rs,0 < r.left.length/\r.left.length<=1000000) (hu:bK A 1 u (d5 l)) (hr:bK A 3 rv (c9 rs)) (hp:Proofs A rs):bH Tryz.prog 59 #[.agg #[num (g),u,rv]] A (fun v A1=>∃ b mb,v=.pointer (some ⟨b,0,none⟩)/\A.le A1/\A1.wf/\A1.get b=some (.row true [.slice none 0 0,num g,u,rv,.map (some mb),.slice none 0 0,num 0,aX [],num 0,.slice none 0 0] 10)/\A.get b=none/\oU (A1.hide [some b]) mb rs):=by
 refine ia Tryz.call59 Tryz.func59 Z Tryz.results59 Tryz.ntmps59 Z (fun wf=>?_);have e5:=AH.le.refl A;refine am.seq fun _ h2=>.region<|.l Z (fun _ _ e2 _=>dQ wf rfl rfl fun A5 b4 aG=>?_);have bP:=e5.trans aG.le;refine e2 _ _<|.q Z (ae Z)<|.nil<|h2 _ _<|.seq fun _ h9=>.region<|.q Z (aq eR ew Z Z aG.get Z)<|.l Z (fun _ _ cv _=>nh aG.wf fun A12 a3 ab=>?_);have aB:=aU wf (Nat.le_trans bP.n ab.lo);have dz:=ab.le.get _ _ aG.get;have b1:=bP.trans ab.le;refine cv _ _<|.q Z (cU Z (bn Vv VC Uq Z))<|.l Z (fun _ _ cA _=>dQ ab.wf rfl rfl fun A18 a8 ag=>?_);have a6:=ne_new ab.wf ab.get ag.lo;have aR:=aU wf (Nat.le_trans b1.n ag.lo);have dD:=ag.le.get _ _ dz;have dI:=ag.le.get _ _ ab.get;have b2:=b1.trans ag.le;refine cA _ _<|.q Z (ae Z)<|.nil<|h9 _ _<|.seq fun _ dJ=>.seq fun _ dK=>.region<|.q Z (aj er jJ U Z)<|.q Z (ak jR Z Z dD Z)<|.q Z (bF (n:=rs.length) qq Z (hr.le b2) O (dR _)) ?_;refine Ops.q Z (ah Z)<|.nil<|dK _ _<|.block<|.loop (X:=Nat × Array MapEntry × Nat × List (UInt8 × Value)) (fun ⟨i,es,ck,E⟩=>[(3,.pointer (some ⟨a8,0,none⟩)),(12,rv),(13,num ((rs.length:Nat):Int)),(14,num ((i:Nat):Int))]) (fun ⟨i,es,ck,E⟩ B=>(i<=rs.length/\du d8 es E)/\A.le B/\B.get a3=some (.obj true (.map es ck))/\B.get a8=some (.row true [.slice none 0 0,num (g),u,rv,.map (some a3),.slice none 0 0,num ((0:Nat):Int),aX ([]),num ((0:Nat):Int),.slice none 0 0] 10)/\(ni A B E rs i [a3,a8])) (fun ⟨i,es,ck,E⟩=>rs.length - i) (⟨0,#[],0,[]⟩) (lD Z Z Z Z) (⟨⟨Nat.zero_le _,du.nil⟩,b2,dI,ag.get,ni.nil⟩) ?_;rintro ⟨i,es,ck,E⟩ B28 ⟨⟨hi,hME⟩,ay,a9,aa,hIO⟩;refine am.wf fun a7=>?_;have hvv:=hIO.fr ((rs.getD i .zero).left.getD ((rs.getD i .zero).left.length - 1) 0);have ac:=hIO.ne ((rs.getD i .zero).left.getD ((rs.getD i .zero).left.length - 1) 0) a3 (by simp);have a4:=hIO.ne ((rs.getD i .zero).left.getD ((rs.getD i .zero).left.length - 1) 0) a8 (by simp);have bO:=AH.le.refl B28;have hil:=AE (rs.take i) ((rs.getD i .zero).left.getD ((rs.getD i .zero).left.length - 1) 0);have htl:(rs.take i).length<=i:=by simp;omega
 have hll:=fun q:i < rs.length=>e3 _ (bw (d:=bf.zero) q);refine am.seq fun _ dL=>.region<|.q Z (cd Z Z)<|.nil<|dL _ _<|.seq fun _ dM=>.if rfl (fun e6=>?_) (fun e6=>?_)
 ·refine am.skip<|dM _ _<|.seq fun _ bD=>.block<|.seq fun _ dO=>.region<|.q Z (ah Z) ?_;obtain ⟨en,ey,eg,eC,ec,eA,ez,dm,e4,dv,bS,ea⟩:=bK.at (i:=i) (hr.le ay) OI O;refine Ops.q Z (ax qq ij Z dm Z e4)<|.q Z (aq uj ij Z Z dv (bS.trans (congrArg some (iB O))))<|.l Z (fun _ _ cC _=>cg a7 Ij rfl fun A42 ev V=>?_);have az:=ne_new a7 a9 V.lo;have aA:=ne_new a7 aa V.lo;have dj:=hvv.own.ne_new a7 V.lo;have aS:=aU wf (Nat.le_trans ay.n V.lo);have aT:=aU a7 (Nat.le_trans bO.n V.lo);have dS:=V.le.get _ _ a9;have dV:=V.le.get _ _ aa;have bU:=hvv.le V.le;have d0:=ay.trans V.le;have cX:=bO.trans V.le;refine cC _ _<|.q Z (ae Z)<|.l Z (fun _ _ cH _=>aQ (cs:=[aX ((rs.getD i .zero).left),aX ((rs.getD i .zero).right),(rs.getD i .zero).pv]) (c':=[aX ((rs.getD i .zero).left),aX ((rs.getD i .zero).right),(rs.getD i .zero).pv]) V.wf rfl rfl rfl rfl ij V.get (Nat.le_of_ble_eq_true rfl) (jE (hp.get O)) rfl fun A51 a2=>?_);have aY:=a2.keep _ _ az dS;have ap:=a2.keep _ _ aA dV;have aI:=bU.keep a2.keep dj;have av:=an cX a7 aT a2.n a2.keep;have b3:=an d0 wf aS a2.n a2.keep;refine cH _ _<|.nil<|dO _ _<|.seq fun _ dW=>.region<|.q Z (aj fz fc U Z)<|.q Z (ak fP Z Z a2.get Z)<|.q Z (aj fz fc U Z)<|.q Z (ak fP Z Z a2.get Z)<|.q Z (cB u9 Z) ?_;refine Ops.q Z (fJ (b:=1) Z Z O)<|.q Z (ma u9 Z Z (by have:=hll O;omega))<|.q Z (ae Z)<|.nil<|dW _ _<|.drawnP [0,1,2,3,4,5,6,7,8,9,11] 10 12 [12,13,14] [10,13,14] mixed Y Y Z<|.q Z Z Z (ah Z)<|.q Z Z Z (cQ Z)<|.q Z Z Z (aj yH OG U Z) ?_;have aD:=cG (off:=4) ap (show _=some (.map (some a3)) from rfl);refine ol.q Z Z Z (ak KJ Z Z ap Z)<|.q Z Z Z (ah Z)<|.q Z Z Z (ah Z)<|.q Z Z Z (cQ Z)<|.q Z Z Z (aj yH OG U Z) ?_;have cc:=cG (off:=4) ap (show _=some (.map (some a3)) from rfl);refine ol.q Z Z Z (ak KJ Z Z ap Z)<|.q Z Z Z (ah Z)<|.q Z Z Z (ah Z)<|.both Z Z Z Z Z Z ?_ ?_
  ·refine fun _ _ cK _=>pT rN Z Z OM u5 Kw aY hME ?_;refine cK _ _ (be.list (L:=[(⟨a8,4,none⟩,.map (some a3))]) Y (bg aD bZ))<|.l Z Z Z (fun _ _ cP _=>aN (c:=[num ((i:Nat):Int)]) a2.wf rfl (aw ep c5 z3 rfl U U rfl) fun A65 ex a1=>?_);have dw:=aU a7 (Nat.le_trans av.n a1.lo);have bL:=a1.le.get _ _ aY;have bM:=a1.le.get _ _ ap;have aP:=aI.le a1.le;have b0:=bW a1.le aD;have d1:=b3.trans a1.le;have cZ:=av.trans a1.le;refine cP _ _ (be.list (L:=[(⟨a8,4,none⟩,.map (some a3))]) Y (bg b0 bZ))<|.l Z Z Z (fun _ _ cS _=>cF (ys:=[num ((i:Nat):Int)]) rfl rfl ep c5 mZ z3 rfl U ep (fun _ h=>by cases h) aP.own (bN (n:=1) a1.get Z) rfl rfl (by show (_ + _) * 8<=_;simp only [aE,List.length_cons,List.length_nil];(try simp only [List.length_append,List.length_cons,List.length_nil]);omega) O2 fun A76 e7 a5=>?_);rw [show ([num ((i:Nat):Int)]:List Value)=cO [((i:Nat):Int)] from rfl,dA] at a5;obtain ⟨bV,d2⟩:=Fresh.grow aP d1 wf a5;have dZ:=a5.keep ac bL;have dd:=a5.ne ac a1.wf bL;have e0:=a5.keep a4 bM;have di:=a5.ne a4 a1.wf bM;have ch:=a5.cell a4 b0;refine cS _ _ (be.list (L:=[(⟨a8,4,none⟩,.map (some a3))]) Y (bg ch bZ))<|.l Z Z Z (fun _ _ cV _=>oh rN a5.wf rfl rfl rfl OM u5 dZ hME hIO.nd fun A91 bT bR ai d3=>?_);have b8:=hIO.step cZ a1.wf a5 bV ai (by simp) (Un dd di) O Z;have e1:=ai.keep _ _ a6.symm e0;have bp:=an d2 wf aB ai.n ai.keep;refine cV _ _ (be.none Y)<|.done<|bD _ _<|.region<|.q Z (bE (b:=1) Z Z O)<|.q Z (ah Z)<|.nil ?_;exact ⟨⟨i + 1,bT,bR,yi E ((rs.getD i .zero).left.getD ((rs.getD i .zero).left.length - 1) 0) e7⟩,lD Z Z Z Z,Z,⟨⟨by omega,d3⟩,bp,ai.get,e1,b8⟩,O1⟩
  refine fun _ _ bb _=>aN (c:=[num ((i:Nat):Int)]) a2.wf rfl (aw ep c5 z3 rfl U U rfl) fun A103 e9 D=>?_;have dl:=aU a7 (Nat.le_trans av.n D.lo);have aC:=D.le.get _ _ aY;have aV:=D.le.get _ _ ap;have aF:=aI.le D.le;have ar:=bW D.le aD;have b9:=bW D.le cc;have br:=b3.trans D.le;have bm:=av.trans D.le;refine bb _ _ (be.list (L:=[(⟨a8,4,none⟩,.map (some a3)),(⟨a8,4,none⟩,.map (some a3))]) Y (bg b9 (bg ar bZ)))<|.l Z Z Z (fun _ _ bc _=>pT rN Z Z OM u5 Kw aC hME ?_);refine bc _ _ (be.list (L:=[(⟨a8,4,none⟩,.map (some a3))]) Y (bg ar bZ))<|.l Z Z Z (fun _ _ bd _=>cF (ys:=[num ((i:Nat):Int)]) rfl rfl ep c5 mZ z3 rfl U ep (fun _ h=>by cases h) aF.own (bN (n:=1) D.get Z) rfl rfl (by show (_ + _) * 8<=_;simp only [aE,List.length_cons,List.length_nil];(try simp only [List.length_append,List.length_cons,List.length_nil]);omega) O2 fun A116 dk a0=>?_);rw [show ([num ((i:Nat):Int)]:List Value)=cO [((i:Nat):Int)] from rfl,dA] at a0;obtain ⟨b7,bu⟩:=Fresh.grow aF br wf a0;have bY:=a0.keep ac aC;have bB:=a0.ne ac D.wf aC;have c3:=a0.keep a4 aV;have bC:=a0.ne a4 D.wf aV;have ba:=a0.cell a4 ar;refine bd _ _ (be.list (L:=[(⟨a8,4,none⟩,.map (some a3))]) Y (bg ba bZ))<|.l Z Z Z (fun _ _ bl _=>oh rN a0.wf rfl rfl rfl OM u5 bY hME hIO.nd fun A131 b6 b5 ad bA=>?_);have aZ:=hIO.step bm D.wf a0 b7 ad (by simp) (Un bB bC) O Z;have c4:=ad.keep _ _ a6.symm c3;have bv:=an bu wf aB ad.n ad.keep;refine bl _ _ (be.none Y)<|.done<|bD _ _<|.region<|.q Z (bE (b:=1) Z Z O)<|.q Z (ah Z)<|.nil ?_;exact ⟨⟨i + 1,b6,b5,yi E ((rs.getD i .zero).left.getD ((rs.getD i .zero).left.length - 1) 0) dk⟩,lD Z Z Z Z,Z,⟨⟨by omega,bA⟩,bv,ad.get,c4,aZ⟩,O1⟩
 refine am.exit<|dJ _ _<|.seq fun _ c7=>.region<|.q Z (ah Z)<|.q Z (ae Z)<|.nil<|c7 _ _<|.rt (by exact aJ Z (⟨a8,a3,Z,ay,a7,aa,aR,hIO.map O a9 hME (by simp) a6⟩))

theorem qm (g:Int) (u:Value) (l:List (List UInt8)) (rv:Value) (rs:List bf) (w:List UInt8) (A:AH) (hn:l.length<=9223372036854775807) (hm:rs.length<=9223372036854775807) (hL:gJ A) (hu:bK A 1 u (d5 l)) (hr:bK A 3 rv (c9 rs)) (hp:Proofs A rs):bH Tryz.prog 21 #[.agg #[num (g),u,rv],aX (w)] A (fun v A1=>∃ dv,v=.tuple #[.agg #[aX (ei g l rs w).word,num (((ei g l rs w).steps:Nat):Int),dv],num ((gV g l rs w:Nat):Int)]/\A.le A1/\A1.wf/\Fresh A A1 dv 3 (cb (ei g l rs w).disk)):=by
 refine jP Tryz.call21 Tryz.func21 Z Tryz.results21 Tryz.ntmps21 Z (fun wf=>?_);have d1:=AH.le.refl A;refine am.seq fun _ h2=>.region<|.l Z (fun _ _ cZ _=>dQ wf rfl rfl fun A5 b4 aZ=>?_);have bv:=d1.trans aZ.le;refine cZ _ _<|.l Z (fun _ _ d0 _=>cg aZ.wf sy rfl fun A10 b9 ad=>?_);have a2:=aU wf (Nat.le_trans bv.n ad.lo);have bd:=ad.le.get _ _ aZ.get;have a5:=bv.trans ad.le;refine d0 _ _<|.q Z (ae Z)<|.nil<|h2 _ _<|.seq fun _ ck=>.block<|.seq fun _ cv=>.region<|.q Z (aq eR ew Z Z bd Z)<|.l Z (fun _ _ bD _=>au Z (j8 ((g)) u l rv rs A10 hn hm (hL.le a5) (hu.le a5) (hr.le a5) (hp.le a5)) ?_);rintro dJ A20 ⟨rfl,aa,bb⟩;have bl:=aa.get _ _ bd;have bm:=aa.get _ _ ad.get;have ay:=a5.trans aa;refine bD _ _<|.q Z (eu Z)<|.q Z (ae Z)<|.nil<|cv _ _<|.ifB Z (fun d2=>?_) (fun d2=>?_)
 ·refine am.seq fun _ cA=>.region<|.q Z (cU Z (bn Ku sy um Z))<|.l Z (fun _ _ bL _=>aQ (cs:=[aX ([]),num ((0:Nat):Int),.slice none 0 0]) (c':=[aX ([]),num ((0:Nat):Int),.slice none 0 0]) bb rfl rfl rfl rfl d6 bm (Nat.le_of_ble_eq_true rfl) rfl rfl fun A29 ai=>?_);have bV:=an ay wf a2 ai.n ai.keep;refine bL _ _<|.q Z (ae Z)<|.nil<|cA _ _<|.ret ?_;repeat first | with_reducible refine bz ?_ | with_reducible refine bi ?_
  exact aJ (df kR d6 Z ai.get Z (dF Z d7)) (⟨_,by (rw [(EF ‹_›).1,(EF ‹_›).2];rfl),bV,ai.wf,by (rw [(EF ‹_›).1];exact Fresh.nil _ _ _)⟩)
 refine am.seq fun _ cC=>.region<|.q Z (aj fY gz U Z)<|.q Z (aj fW c5 U Z)<|.q Z (ak eM Z Z bl Z)<|.q Z (ah Z)<|.l Z (fun _ _ bM _=>au Z (pH (g) w A20 (hL.le ay)) ?_);rintro dK A37 ⟨rfl,ab,bc⟩;have bp:=ab.get _ _ bl;have aR:=ab.get _ _ bm;have a1:=ay.trans ab;refine bM _ _<|.q Z (fh (b:=0) Z Z)<|.q Z (ae Z)<|.nil<|cC _ _<|.if rfl (fun d3=>?_) (fun d3=>?_)
 ·refine am.seq fun _ cH=>.region<|.q Z (cU Z (bn Ku sy um Z))<|.l Z (fun _ _ bO _=>aQ (cs:=[aX ([]),num ((0:Nat):Int),.slice none 0 0]) (c':=[aX ([]),num ((0:Nat):Int),.slice none 0 0]) bc rfl rfl rfl rfl d6 aR (Nat.le_of_ble_eq_true rfl) rfl rfl fun A46 ap=>?_);have bY:=an a1 wf a2 ap.n ap.keep;refine bO _ _<|.q Z (ae Z)<|.nil<|cH _ _<|.ret ?_;repeat first | with_reducible refine bz ?_ | with_reducible refine bi ?_
  exact aJ (df kR d6 Z ap.get Z (dF Z d7)) (⟨_,by (rw [(EH ‹_› ‹_›).1,(EH ‹_› ‹_›).2];rfl),bY,ap.wf,by (rw [(EH ‹_› ‹_›).1];exact Fresh.nil _ _ _)⟩)
 refine am.skip<|ck _ _<|.seq fun _ cK=>.region<|.q Z (aq eR ew Z Z bp Z)<|.l Z (fun _ _ bP _=>au Z (pG ((g)) u l rv rs A37 (su (by simpa using ‹(!cj g l rs)=false›)) (wo (by simpa using ‹(!cj g l rs)=false›)) (hu.le a1) (hr.le a1) (hp.le a1)) ?_);rintro dL A54 ⟨D,b8,rfl,aB,aD,a8,X,ar⟩;have cP:=aB.get _ _ aR;have c3:=a1.trans aB;have hrow:=a8;have hno:=X;have hix:=ar;have ba:b4 ≠ D:=fun z=>by have q0:=bp;rw [z,X] at q0;cases q0
 have ag:b9 ≠ D:=fun z=>by have q0:=aR;rw [z,X] at q0;cases q0
 have aF:=rY a1 X;refine bP _ _<|.q Z (ah Z) ?_;have a6:=ci (bs:=[some D]) c3 (uk aF oT);have aT:=ci (bs:=[some D]) (cE A54 [some D]) (uk (cr (by simp)) oT);refine Ops.l Z (fun _ _ bR _=>au Z (uN w rs l D (((g))) u rv b8 (.slice none 0 0) (.slice none 0 0) (num ((0:Nat):Int)) (aX ([])) (num ((0:Nat):Int)) (.slice none 0 0) (A54.hide [some D]) A54 (cE A54 [some D]) (cm aD) a8 (cr (by simp)) (by simpa using ‹(!cj g l rs)=false›) (hL.le a6) (hr.le a6) (hp.le a6) (ar.le aT)) ?_);rintro dM A61 ⟨dj,dk,dl,dm,dw,dz,dD,rfl,ac,a4,a9,a7,b0⟩;have aS:=bQ (bs:=[some D]) cP (qz ag mI);have br:=ac.get _ _ aS;have aG:=a7.base a6;have c7:=a7.seph aS;have bU:=aT.trans ac;have aV:=a6.trans ac;refine bR _ _<|.q Z (ah Z)<|.q Z (bh Z Z)<|.q Z (bh Z Z)<|.l Z (fun _ _ bS _=>cg a4 sy rfl fun A76 dI h=>?_);have av:=ne_new a4 br h.lo;have b1:=ne_new a4 a9 h.lo;have cc:=aG.own.ne_new a4 h.lo;have aP:=aU wf (Nat.le_trans aV.n h.lo);have ch:=aU (cm aD) (Nat.le_trans bU.n h.lo);have cS:=h.le.get _ _ br;have aI:=aG.le h.le;have c4:=aV.trans h.le;refine bS _ _ ?_;obtain ⟨aC,aA,az,di,_⟩:=aI.own.slice;subst di;refine Ops.l Z (fun _ _ bT _=>aQ (cs:=[aX ((eh (fu rs w)).word),num (((eh (fu rs w)).steps:Nat):Int),.slice aC aA az]) (c':=[aX ((eh (fu rs w)).word),num (((eh (fu rs w)).steps:Nat):Int),.slice aC aA az]) h.wf rfl rfl rfl rfl d6 h.get (Nat.le_of_ble_eq_true rfl) rfl rfl fun A87 V=>?_);have bu:=V.keep _ _ av cS;have bA:=aI.keep V.keep cc;have aY:=an c4 wf aP V.n V.keep;refine bT _ _<|.q Z (ae Z)<|.nil<|cK _ _<|.seq fun _ cV=>.seq fun _ cX=>.region<|.q Z (ah Z)<|.q Z (eu Z)<|.nil ?_;refine cX _ _<|.ifB Z (fun dd=>?_) (fun dd=>?_)
 ·refine am.seq fun _ bB=>.region<|.q Z (cU Z (bn Ku sy um Z))<|.l Z (fun _ _ b3 _=>aQ (cs:=[aX ([]),num ((0:Nat):Int),.slice none 0 0]) (c':=[aX ([]),num ((0:Nat):Int),.slice none 0 0]) V.wf rfl rfl rfl rfl d6 bu (Nat.le_of_ble_eq_true rfl) rfl rfl fun A103 a3=>?_);have b6:=an aY wf a2 a3.n a3.keep;refine b3 _ _<|.q Z (ae Z)<|.nil<|bB _ _<|.ret ?_;repeat first | with_reducible refine bz ?_ | with_reducible refine bi ?_
  exact aJ (df kR d6 Z a3.get Z (dF Z d7)) (⟨_,by (rw [(EI ‹_› ‹_› ‹_›).1,(EI ‹_› ‹_› ‹_›).2];rfl),b6,a3.wf,by (rw [(EI ‹_› ‹_› ‹_›).1];exact Fresh.nil _ _ _)⟩)
 refine am.skip<|cV _ _<|.seq fun _ bC=>.region<|.q Z (aq kR d6 Z Z V.get Z)<|.l Z (fun _ _ b5 _=>aQ (cs:=[aX ((eh (fu rs w)).word),num (((eh (fu rs w)).steps:Nat):Int),.slice aC aA az]) (c':=[aX ((eh (fu rs w)).word),num (((eh (fu rs w)).steps:Nat):Int),.slice aC aA az]) V.wf rfl rfl rfl rfl d6 bu (Nat.le_of_ble_eq_true rfl) rfl rfl fun A113 a0=>?_);have b2:=bA.keep a0.keep c7;have b7:=an aY wf a2 a0.n a0.keep;refine b5 _ _<|.q Z (ae Z)<|.nil<|bC _ _<|.ret ?_;repeat first | with_reducible refine bz ?_ | with_reducible refine bi ?_
 exact aJ (df kR d6 Z a0.get Z (dF Z d7)) (⟨_,by (rw [(EJ ‹_› ‹_› ‹_›).1,(EJ ‹_› ‹_› ‹_›).2];rfl),b7,a0.wf,by (rw [(EJ ‹_› ‹_› ‹_›).1];exact b2)⟩)
end Go.Proofs.YtjppkekmddjcfaaGreatDoor

namespace Go.Proofs.YtjppkekmddjcfaaGreatDoor
open Go Go.RowKit
namespace V
section
variable {P:Program} {F:Fence} {nt n:Nat} {A:AH}
theorem Pb (hF:wG F) {l:Nat} {args:Array Value} {R:Value->AH->Prop} (hc:lr P l args A R) {w:World} (hw:cu A w) :
    YieldAt F 0 P l args w fun e w'=>∃ A' v,e=.returned v/\cu A' w'/\eJ A w A' w'/\R v A':=by
  rcases hF with rfl | ⟨l,rfl⟩
  · exact hc w hw
  · exact hc w hw
theorem Pc (hF:wG F) {fo:Operand} {aa:Array Operand} {tt:Array TypeId} {dst:Option Nat} {ty:TypeId} {ps:String} {af:Array Edge} {g:Option (Nat × Bool)} {l:Nat} {vs:List Value} {R:Value->AH->Prop} {a:Act} {w:World}
    (hf:a.eval fo=.func (.yield l) #[] #[]) (ha:aa.map a.eval=vs.toArray) (hc:lr P l vs.toArray A R) (hw:cu A w) {next:Act->World->Prop} {Q:Exit->Act->World->Prop}
    (h:∀ v A' w',cu A' w'->eJ A w A' w'->R v A'->next (a.put dst v) w') :
    ({ dst:=dst,op:=.call { callee:=.value fo,args:=aa,argTypes:=tt },type:=ty,pos:=ps,after:=af,guard:=g }:Oper).wpIn F 0 P a w next Q:=by
  obtain ⟨fn,tmps,assign,body,hy,hr⟩:=Pb hF hc hw
  have hx:(execOp a.eval { dst:=dst,op:=.call { callee:=.value fo,args:=aa,argTypes:=tt },type:=ty,pos:=ps,after:=af,guard:=g }).run P w=.ok (.round l fn tmps assign body) w:=by
    simp [execOp,resolve,hf,ha,Deferred.ofValue,invoke,hy]
  refine ⟨fun f _=>rj hF f,?_⟩
  rw [Oper.semAt_eq _ _ _ (fun c q=>by cases q),hx]
  refine ⟨r0 hF,RoundIn.mono hr ?_⟩
  rintro en w' ⟨A',v,rfl,hv,hst,hR⟩
  exact h v A' w' hv hst hR

theorem nw {t el:TypeId} {len m:Nat} {z:Value} {l:List (Nat × Value)} {c:List Value} (hu:P.underlying t=some (.array len el)) (hz:cD P t=some z) (hs:dp P el=some m)
    (hf:oq (fun i=>some (i * m,m)) z.cells.toList l=some c):ly P t l=some (.agg c.toArray):=by simp [ly,hu,hz,hs,hf]
theorem i4 {e:gx} {x y:Operand} {t el:TypeId} {b off n len i:Nat} {k:IntKind} (hu:P.underlying t=some (.array len el)) (hs:dp P el=some n) (h:bX e x=some (.pointer (some ⟨b,off,none⟩))) (h':bX e y=some (.int k (i:Nat))) (hi:i < len) :
    aO P e A (.indexAddr t x y)=some (.pointer (some ⟨b,off + i * n,none⟩),[]):=by rw [Jw hu hs h h' hi,nr _ _ Z]
theorem Ff:∀ a:Fin 16,Px .xor .i64 ((a.1:Nat):Int) ((1:Nat):Int)=some (num ((a.1 ^^^ 1:Nat):Int)):=fun a=>by
  have key:∀ a:Fin 16,IntKind.i64.wrap ((BitVec.ofInt 64 ((a.1:Nat):Int) ^^^ BitVec.ofInt 64 ((1:Nat):Int)).toNat:Int)=((a.1 ^^^ 1:Nat):Int):=by decide
  show some (Value.int .i64 (IntKind.i64.wrap ((BitVec.ofInt 64 ((a.1:Nat):Int) ^^^ BitVec.ofInt 64 ((1:Nat):Int)).toNat:Int)))=_
  rw [key]
theorem UF {e:gx} {x y:Operand} {t t':TypeId} {a:Nat} (h:bX e x=some (num (a:Nat))) (h':bX e y=some (num (1:Nat))) (ha:a < 16):aO P e A (.binOp .xor t x y t')=some (num ((a ^^^ 1:Nat):Int),[]) :=
  zh U U h h' (Ff ⟨a,ha⟩)
def jL (P:Program) (nt:Nat) (F:Fence) (all:Array Oper) (os:List Oper) (Q:Exit->Fr->AH->Prop) (f:Fr) (A:AH):Prop :=
  ∀ a w,cW nt f a->cu A w->∀ (A₀:AH) (w₀:World),eJ A₀ w₀ A w->wpListIn F 0 P all (lq nt Q A₀ w₀) os a w
section
variable {all:Array Oper} {Q:Exit->Fr->AH->Prop} {f:Fr} {e:gx} {ds:List Deferred} {d t:Nat} {op:Op} {ty:TypeId} {ps:String} {af:Array Edge} {os:List Oper} {v:Value} {T:eK}
theorem jL.nil (h:Q .normal f A):jL P nt F all [] Q f A:=fun _ _ ha hw _ _ hs=>⟨f,A,ha,hw,hs,h,fun _ q=>by cases q⟩
theorem jL.q (hF:wG F) (hn:jb { dst:=some d,op:=op,type:=ty,pos:=ps,after:=af,guard:=none }=true) (hd:Nat.blt d nt=true) (hv:aO P e A op=some (v,T)) (h:jL P nt F all os Q ⟨(d,v) :: e,ds⟩ A) :
    jL P nt F all ({ dst:=some d,op:=op,type:=ty,pos:=ps,after:=af,guard:=none } :: os) Q ⟨e,ds⟩ A:=by
  intro a w ha hw A₀ w₀ hs
  have:=f8 (o:={ dst:=some d,op:=op,type:=ty,pos:=ps,after:=af,guard:=none }) hv ha hw
  unfold wpListIn
  rw [if_pos (by simp [Region.wanted])]
  refine ⟨fun f _=>rj hF f,?_⟩
  rw [Oper.semAt_eq _ _ _ (fun c hc=>by simp only at hc;subst hc;cases hn),this.2 w this.1]
  exact h _ w (ha.put (some d) v (cN hd)) hw A₀ w₀ hs
theorem jL.y (hF:wG F) {fo:Operand} {l:Nat} {vs:List Value} {R:Value->AH->Prop} {aa:Array Operand} {tt:Array TypeId} (hd:Nat.blt d nt=true) (hf:bX e fo=some (.func (.yield l) #[] #[])) (ha:ju (bX e) aa.toList=some vs)
    (hc:lr P l vs.toArray A R) (h:∀ v A',R v A'->jL P nt F all os Q ⟨(d,v) :: e,ds⟩ A') :
    jL P nt F all ({ dst:=some d,op:=.call { callee:=.value fo,args:=aa,argTypes:=tt },type:=ty,pos:=ps,after:=af,guard:=none } :: os) Q ⟨e,ds⟩ A:=by
  intro a w hact hw A₀ w₀ hs
  unfold wpListIn
  rw [if_pos (by simp [Region.wanted])]
  have hev:∀ x v,bX e x=some v->a.eval x=v:=fun x v g=>cL hact g
  have hargs:aa.map a.eval=vs.toArray:=by apply Array.ext';simp [o4 hev _ _ ha]
  exact Pc hF (hev _ _ hf) hargs hc hw fun v A' w' hv hst hR=>h v A' hR _ w' (hact.put (some d) v (cN hd)) hv A₀ w₀ (hs.trans hst)
theorem ef.regionJ {id:Nat} {l:List Oper} (h:jL P nt F l.toArray l Q f A):ef P nt F (.region id l.toArray false) Q f A :=
  fun a w ha hw=>wpIn_region_lit (h a w ha hw A w (.refl _ _))
theorem am.regionJ {id:Nat} {l:List Oper} (h:jL P nt Fence.wide l.toArray l Q f A):am P nt (.region id l.toArray false) Q f A:=ef.run (ef.regionJ h)
end

theorem SU (hF:wG F) {o:Oper} {a:Act} {w:World} {K:Act->World->Prop} {Q Q':Exit->Act->World->Prop} (hd:jb o=true) (hp:∀ ch a w,Q (.panic ch) a w->Q' (.panic ch) a w) (hl:¬ LetsOut Q) (h:o.wp P a w K Q):o.wpIn F n P a w K Q':=by
  have hs:o.semAt F.round a.eval=execOp a.eval o:=Oper.semAt_eq _ _ _ (fun c hc=>by simp [jb,hc] at hd)
  refine ⟨fun f _=>rj hF f,?_⟩
  rw [hs]
  unfold Oper.wp at h
  generalize (execOp a.eval o).run P w=r at h ⊢
  cases r with
  | ok x w' =>
    cases x <;> simp only [Oper.upon] at h <;> simp only [Oper.uponIn] <;>
      first
      | exact h
      | exact h.elim
      | exact ⟨r0 hF,zR hF (h.mono fun e w'' he=>by
          cases e with
          | returned v=>exact he
          | panicked ch=>exact hp _ _ _ he
          | outgrown=>exact absurd he hl)⟩
      | exact ⟨r0 hF,Gz hF h⟩
  | halt x w'=>cases x <;> simp only [Oper.upon] at h <;> simp only [Oper.uponIn] <;> exact hp _ _ _ h
theorem xP {ops:Array Oper} {y:Nat} {o o':Oper} (hy:ops[y]? = some o) (he:o'.after=o.after) (listed:Array Bool):Region.ready .any (ops.setIfInBounds y o') listed=Region.ready .any ops listed:=by
  unfold Region.ready
  rw [Array.size_setIfInBounds]
  apply List.filter_congr
  intro i hi
  congr 1
  by_cases q:y=i
  · subst q
    have hlt:=(Array.getElem?_eq_some_iff.1 hy).1
    have e1:ops[y]=o:=(Array.getElem?_eq_some_iff.1 hy).2
    simp [hlt,he,e1]
  · rw [Array.getElem?_setIfInBounds_ne q]
def sw (ops:Array Oper) (y z:Nat):Bool :=
  Nat.blt y ops.size && Nat.blt z ops.size && !(y == z) && (List.range ops.size).all (fun j=>j == y || j == z || ld ops j ops.size y) && ld ops y ops.size z &&
  (List.range ops.size).all (fun j=>match ops[j]? with | none=>false | some o=>o.after.all fun e=>Nat.blt e.on j) && ops.toList.all (fun o=>jb o && (match o.guard with | none=>true | _=>false))
theorem CQ {o:Oper} (h:(match o.guard with | none=>true | _=>false)=true) (l:Nat->Value):o.guard=none:=by
  cases q:o.guard with
  | none=>rfl
  | some x=>rw [q] at h;cases h
theorem PX {l:Array Bool} {i:Nat} (h:l.getD i true=false):i < l.size:=by
  rcases Nat.lt_or_ge i l.size with q | q
  · exact q
  · simp [q] at h
theorem MU {a:Act} {d:Nat} {v:Value} (h:d < a.tmps.size):(a.put (some d) v).eval (.tmp d)=v:=by simp [Act.eval,Act.put,h]
theorem Uf (hF:wG F) {ops:Array Oper} {y z d dz:Nat} {fo:Operand} {aa:Array Operand} {tt:Array TypeId} {ty tz tz':TypeId} {ps psz:String} {af afz:Array Edge} {l:Nat} {Qp Q:Exit->Act->World->Prop} {oy oz oy' oz':Oper}
    (ey:oy={ dst:=some d,op:=.call { callee:=.value fo,args:=aa,argTypes:=tt },type:=ty,pos:=ps,after:=af,guard:=none })
    (ez:oz={ dst:=some dz,op:=.unOp .not tz (.tmp d),type:=tz',pos:=psz,after:=afz,guard:=none })
    (ey':oy'={ oy with op:=.move (.const (.bool true)) }) (ez':oz'={ oz with op:=.move (.const (.bool false)) })
    (hy:ops[y]? = some oy) (hz:ops[z]? = some oz) (hw:sw ops y z=true) (hl:¬ LetsOut Qp) (hp:∀ ch a w,¬ Qp (.panic ch) a w)
    (hQ:∀ (a:Act) w,Qp .normal ((a.put (some d) (.bool true)).put (some dz) (.bool false)) w->d < a.tmps.size/\∃ (A:AH) (vs:List Value) (R:Value->AH->Prop),cu A w/\a.eval fo=.func (.yield l) #[] #[]/\aa.map a.eval=vs.toArray/\lr P l vs.toArray A R /\
      (∀ v A' w',R v A'->cu A' w'->eJ A w A' w'->v=.bool true/\Q .normal ((a.put (some d) (.bool true)).put (some dz) (.bool false)) w')) :
    ∀ (fuel:Nat) (listed:Array Bool) (a:Act) (w:World),kQ ops listed->listed.size=ops.size->listed.getD y true=false ->
      wpAny P .any ((ops.setIfInBounds y oy').setIfInBounds z oz') Qp fuel listed a w->wpAnyIn F 0 P .any ops Q fuel listed a w:=by
  simp only [sw,Bool.and_eq_true,Bool.not_eq_true',List.all_eq_true,List.mem_range,Bool.or_eq_true,beq_iff_eq,beq_eq_false_iff_ne,ne_eq] at hw
  obtain ⟨⟨⟨⟨⟨⟨w1,w2⟩,w3⟩,w4⟩,w5⟩,w6⟩,w7⟩:=hw
  have w1:y < ops.size:=Nat.le_of_ble_eq_true w1
  have w2:z < ops.size:=Nat.le_of_ble_eq_true w2
  have ay:oy'.after=oy.after:=by rw [ey']
  have az:oz'.after=oz.after:=by rw [ez']
  generalize hops:(ops.setIfInBounds y oy').setIfInBounds z oz'=ops'
  have hr:∀ listed,Region.ready .any ops' listed=Region.ready .any ops listed:=fun listed=>by
    have e1:=xP (ops:=ops.setIfInBounds y oy') (y:=z) (o:=oz) (o':=oz') (by rw [Array.getElem?_setIfInBounds_ne w3];exact hz) az listed
    rw [<- hops,e1,xP hy ay]
  have hy':ops'[y]? = some oy':=by
    rw [<- hops,Array.getElem?_setIfInBounds_ne (fun q=>w3 q.symm)];simp [w1]
  have hz':ops'[z]? = some oz':=by
    rw [<- hops];simp [w2]
  have ho:∀ i,i ≠ y->i ≠ z->ops'[i]? = ops[i]?:=fun i h1 h2=>by
    rw [<- hops,Array.getElem?_setIfInBounds_ne (fun q=>h2 q.symm),Array.getElem?_setIfInBounds_ne (fun q=>h1 q.symm)]
  have a1:∀ i o,ops[i]? = some o->jb o=true/\o.guard=none:=fun i o hi=>by
    have hlt:=(Array.getElem?_eq_some_iff.1 hi).1
    have he:=(Array.getElem?_eq_some_iff.1 hi).2
    have:=w7 o (by rw [<- he];exact Array.getElem_mem_toList hlt)
    exact ⟨this.1,CQ this.2 (fun _=>undef)⟩
  have back:∀ (i:Nat) (o:Oper),ops[i]? = some o->∀ e ∈ o.after,e.on < i:=fun i o hi e he=>by
    have hlt:=(Array.getElem?_eq_some_iff.1 hi).1
    have:=w6 i hlt
    rw [hi] at this
    exact Nat.le_of_ble_eq_true (Array.all_eq_true'.1 this e he)
  have some_ready:∀ (listed:Array Bool),listed.size=ops.size->∀ m,listed.getD m true=false->Region.ready .any ops listed ≠ []:=fun listed hsz=>by
    intro m
    induction m using Nat.strongRecOn with
    | _ m ih =>
      intro hm h0
      have hlt:m < ops.size:=by rw [<- hsz];exact PX hm
      have hom:ops[m]? = some ops[m]:=by simp [hlt]
      by_cases q:∀ e ∈ ops[m].after,Region.binds .any e=true->listed.getD e.on false=true
      · have:m ∈ Region.ready .any ops listed:=mem_ready.2 ⟨hm,_,hom,q⟩
        rw [h0] at this;cases this
      · obtain ⟨e,he,hbe,hle⟩:∃ e,e ∈ ops[m].after/\Region.binds .any e=true/\¬ listed.getD e.on false=true:=Classical.byContradiction fun n=>q fun e he hb=>Classical.byContradiction fun z=>n ⟨e,he,hb,z⟩
        have V:=back m _ hom e he
        refine ih e.on V ?_ h0
        have:listed.getD e.on false=false:=by simpa using hle
        have h3:e.on < listed.size:=by omega
        simpa [h3] using this
  intro fuel
  induction fuel with
  | zero =>
    intro listed a w hcl hsz hun h
    have h0:=h.1
    rw [hr] at h0
    exact absurd h0 (some_ready listed hsz y hun)
  | succ fuel ih =>
    intro listed a w hcl hsz hun h
    refine ⟨fun h0=>absurd h0 (some_ready listed hsz y hun),fun i hi=>?_⟩
    obtain ⟨hiun,oi,hoi,hall⟩:=mem_ready.1 hi
    have h1:=h.2 i (by rw [hr];exact hi)
    unfold wpOp at h1
    unfold wpOpIn
    by_cases hiy:i=y
    · subst hiy
      rw [hy] at hoi;cases hoi
      have others:∀ j,j < ops.size->j ≠ i->j ≠ z->listed.getD j false=true:=fun j hj h1 h2=>by
        rcases w4 j hj with (q | q) | q
        · exact absurd q h1
        · exact absurd q h2
        · exact jS hcl _ _ _ hy hall q
      have hznl:listed.getD z true=false:=by
        cases q:listed.getD z true with
        | false=>rfl
        | true =>
          have a0:listed.getD z false=true:=by rw [<- q];simp [hsz,w2]
          have:=jS hcl _ _ _ hz (hcl z _ hz a0) w5
          rw [iq hun] at this;cases this
      have a2:(listed.setIfInBounds i true).size=ops.size:=by simpa using hsz
      have X:(listed.setIfInBounds i true).getD z true=false:=by rw [getD_set_ne true w3];exact hznl
      have D:∀ j,j < ops.size->j ≠ z->(listed.setIfInBounds i true).getD j false=true:=fun j hj h2=>by
        by_cases q:j=i
        · subst q;simp [hsz,w1]
        · exact getD_set_true (others j hj q h2)
      have zready:z ∈ Region.ready .any ops (listed.setIfInBounds i true):=mem_ready.2 ⟨X,_,hz,fun e he _=>D _ (Nat.lt_trans (back z _ hz e he) w2) (by have:=back z _ hz e he;omega)⟩
      have only:∀ j,j ∈ Region.ready .any ops (listed.setIfInBounds i true)->j=z:=fun j hj=>by
        obtain ⟨q1,oj,q2,_⟩:=mem_ready.1 hj
        refine Classical.byContradiction fun q=>?_
        have:=D j (Array.getElem?_eq_some_iff.1 q2).1 q
        rw [iq q1] at this;cases this
      have done:Region.ready .any ops ((listed.setIfInBounds i true).setIfInBounds z true)=[]:=by
        refine List.eq_nil_iff_forall_not_mem.2 fun j hj=>?_
        obtain ⟨q1,oj,q2,_⟩:=mem_ready.1 hj
        have hlt:=(Array.getElem?_eq_some_iff.1 q2).1
        have:((listed.setIfInBounds i true).setIfInBounds z true).getD j false=true:=by
          by_cases q:j=z
          · subst q;simp [hsz,w2]
          · exact getD_set_true (D j hlt q)
        rw [iq q1] at this;cases this
      have wy':∀ l,Region.wanted oy' l=true:=fun l=>by rw [ey',ey];rfl
      have wz':∀ l,Region.wanted oz' l=true:=fun l=>by rw [ez',ez];rfl
      have wy:∀ l,Region.wanted oy l=true:=fun l=>by rw [ey];rfl
      have wz:∀ l,Region.wanted oz l=true:=fun l=>by rw [ez];rfl
      simp only [hy',wy',if_true] at h1
      have h2:wpAny P .any ops' Qp fuel (listed.setIfInBounds i true) (a.put (some d) (.bool true)) w:=by
        rcases h1 with h1 | ⟨_,h1⟩
        · rw [ey',ey] at h1;exact h1
        · exact absurd h1 hl
      cases fuel with
      | zero=>exfalso;have:=h2.1;rw [hr] at this;rw [this] at zready;cases zready
      | succ f =>
        have h3:=h2.2 z (by rw [hr];exact zready)
        unfold wpOp at h3
        simp only [hz',wz',if_true] at h3
        have h4:wpAny P .any ops' Qp f ((listed.setIfInBounds i true).setIfInBounds z true) ((a.put (some d) (.bool true)).put (some dz) (.bool false)) w:=by
          rcases h3 with h3 | ⟨_,h3⟩
          · rw [ez',ez] at h3;exact h3
          · exact absurd h3 hl
        have h5:Qp .normal ((a.put (some d) (.bool true)).put (some dz) (.bool false)) w:=by
          cases f with
          | zero=>exact h4.2
          | succ f=>exact h4.1 (by rw [hr];exact done)
        obtain ⟨hd,A,vs,R,hv,hfo,haa,hya,hK⟩:=hQ a w h5
        simp only [hy,wy,if_true]
        rw [ey]
        refine Pc hF hfo haa hya hv fun v A' w' hv' hst hR=>?_
        obtain ⟨rfl,hq⟩:=hK v A' w' hR hv' hst
        refine ⟨fun q=>(by rw [q] at zready;cases zready),fun j hj=>?_⟩
        have:=only j hj
        subst this
        unfold wpOpIn
        simp only [hz,wz,if_true]
        rw [ez]
        have hx:(execOp (a.put (some d) (.bool true)).eval { dst:=some dz,op:=.unOp .not tz (.tmp d),type:=tz',pos:=psz,after:=afz,guard:=none }).run P w'=.ok (.value (.bool false)) w':=by
          have:=MU (v:=.bool true) hd
          simp [execOp,this,Op.unary]
        refine ⟨fun f _=>rj hF f,?_⟩
        rw [Oper.semAt_eq _ _ _ (fun c q=>by cases q),hx]
        show wpAnyIn F 0 P .any ops Q f _ _ w'
        cases f with
        | zero=>exact ⟨done,hq⟩
        | succ f=>exact ⟨fun _=>hq,fun k hk=>by rw [done] at hk;cases hk⟩
    · have hiz:i ≠ z:=by
        rintro rfl
        have:=jS hcl _ _ _ hz (by rw [hz] at hoi;cases hoi;exact hall) w5
        rw [iq hun] at this;cases this
      obtain ⟨g1,g2⟩:=a1 i oi hoi
      have hwt:∀ l,Region.wanted oi l=true:=fun l=>by simp [Region.wanted,g2]
      rw [ho i hiy hiz] at h1
      simp only [hoi,hwt,if_true] at h1 ⊢
      have h2:oi.wp P a w (wpAny P .any ops' Qp fuel (listed.setIfInBounds i true)) Qp:=by
        rcases h1 with h1 | ⟨_,h1⟩
        · exact h1
        · exact absurd h1 hl
      refine SU hF g1 (fun ch a w q=>absurd q (hp ch a w)) hl (Oper.wp_mono (fun a' w' h3=>?_) h2)
      exact ih _ _ _ (gR hcl hi) (by simpa using hsz) (by rw [getD_set_ne true hiy];exact hun) h3

def Jm (d dz:Nat):Operand->Bool
  | .tmp t=>!(t == d) && !(t == dz)
  | _=>true
theorem xK {d dz:Nat} {x:Operand} (h:Jm d dz x=true):x ≠ .tmp d/\x ≠ .tmp dz:=by
  constructor <;> (rintro rfl;simp [Jm] at h)
theorem ef.drawnYield {Q:Exit->Fr->AH->Prop} {e:gx} {ds:List Deferred} {id:Nat} {ops:Array Oper} (C:List Nat) (y z:Nat) {d dz:Nat} {fo:Operand} {aa:Array Operand} {tt:Array TypeId} {ty tz tz':TypeId} {ps psz:String} {af afz:Array Edge} {l:Nat} {oy oz:Oper} {vs:List Value} {R:Value->AH->Prop}
    (hF:wG F) (hy:ops[y]? = some oy) (hz:ops[z]? = some oz)
    (ey:oy={ dst:=some d,op:=.call { callee:=.value fo,args:=aa,argTypes:=tt },type:=ty,pos:=ps,after:=af,guard:=none })
    (ez:oz={ dst:=some dz,op:=.unOp .not tz (.tmp d),type:=tz',pos:=psz,after:=afz,guard:=none })
    (hw:sw ops y z=true) (hfd:(Jm d dz fo && aa.toList.all (Jm d dz))=true) (hdn:Nat.blt d nt=true) (hm:P.follows .mixedOrders=true)
    (hc:mf ((ops.setIfInBounds y { oy with op:=.move (.const (.bool true)) }).setIfInBounds z { oz with op:=.move (.const (.bool false)) }) (Array.replicate ops.size false) C=true) (hn:Region.noSelect ((ops.setIfInBounds y { oy with op:=.move (.const (.bool true)) }).setIfInBounds z { oz with op:=.move (.const (.bool false)) })=true) (hl:C.length=ops.size)
    (hya:lr P l vs.toArray A R)
    (h:bj P nt ((ops.setIfInBounds y { oy with op:=.move (.const (.bool true)) }).setIfInBounds z { oz with op:=.move (.const (.bool false)) })
      (fun x f A'=>x=.normal/\A'=A/\bX f.e fo=some (.func (.yield l) #[] #[])/\ju (bX f.e) aa.toList=some vs/\∀ v A2,R v A2->v=.bool true/\Q .normal f A2) (Array.replicate ops.size false) [] C ⟨e,ds⟩ A):ef P nt F (.region id ops true) Q ⟨e,ds⟩ A:=by
  intro a w ha a0
  simp only [Bool.and_eq_true,List.all_eq_true] at hfd
  obtain ⟨D,V⟩:=hfd
  have D:=xK D
  obtain ⟨v1,s1⟩:=jj a0
  have hsz:((ops.setIfInBounds y { oy with op:=.move (.const (.bool true)) }).setIfInBounds z { oz with op:=.move (.const (.bool false)) }).size=ops.size:=by simp
  have emp:∀ (os:Array Oper),os.size=ops.size->kQ os (Array.replicate ops.size false):=fun os hos j o _ hj=>by
    exfalso
    rcases Nat.lt_or_ge j ops.size with q | q
    · simp [q] at hj
    · simp [q] at hj
  have key:=h hc hn a _ ha v1 (fun p hp=>by cases hp) (emp _ hsz) A w s1
  rw [hl] at key
  have key:=kb _ _ _ _ key
  refine wpIn_mono (wpIn_region_any hm (Uf (l:=l) (Q:=dU nt Q A w) hF ey ez rfl rfl hy hz hw ?_ ?_ ?_ _ _ _ _ (emp _ rfl) (by simp) ?_ key)) (fun _ _ _=>dU.q)
  · rintro ⟨a,w,f',A',_,_,_,q,_⟩;exact absurd q.1 (by simp)
  · rintro ch a w ⟨f',A',_,_,_,q,_⟩;exact absurd q.1 (by simp)
  · rintro a2 w2 ⟨f',A',g1,g2,g3,⟨_,rfl,g5,g6,g7⟩,_⟩
    have a1:a2.tmps.size=nt:=by have:=g1.size;simpa [Act.put] using this
    have hd:=Nat.le_of_ble_eq_true hdn
    have hev:∀ x v,x ≠ .tmp d->x ≠ .tmp dz->bX f'.e x=some v->a2.eval x=v:=fun x v n1 n2 g=>by
      have h5:=cL g1 g
      cases x with
      | tmp t =>
        have t1:t ≠ d:=fun q=>n1 (by rw [q])
        have t2:t ≠ dz:=fun q=>n2 (by rw [q])
        rw [<- h5]
        simp only [Act.eval,Act.put,Array.getD_eq_getD_getElem?]
        rw [Array.getElem?_setIfInBounds_ne (Ne.symm t2),Array.getElem?_setIfInBounds_ne (Ne.symm t1)]
      | _=>exact h5
    refine ⟨by omega,A',vs,R,g2,hev _ _ D.1 D.2 g5,?_,hya,?_⟩
    · apply Array.ext'
      simp only [Array.toList_map]
      have key:∀ (l:List Operand) (us:List Value),(∀ x ∈ l,x ≠ .tmp d/\x ≠ .tmp dz)->ju (bX f'.e) l=some us->l.map a2.eval=us:=by
        intro l
        induction l with
        | nil=>intro us _ h;simp [ju] at h;simp [h]
        | cons x l ih =>
          intro us hx h
          simp only [ju] at h
          split at h
          · rename_i v us' h1 h2
            cases h
            have:=hx x List.mem_cons_self
            simp [hev _ _ this.1 this.2 h1,ih _ (fun y hy=>hx y (List.mem_cons_of_mem _ hy)) h2]
          · cases h
      exact key _ _ (fun x hx=>xK (V x hx)) g6
    · intro v A2 w' hR X hst
      obtain ⟨r1,r2⟩:=g7 v A2 hR
      exact ⟨r1,f',A2,g1,X,g3.trans hst,r2,fun _ q=>by cases q⟩
  · have:y < ops.size:=(Array.getElem?_eq_some_iff.1 hy).1
    simp [this]
theorem am.drawnYield {Q:Exit->Fr->AH->Prop} {e:gx} {ds:List Deferred} {id:Nat} {ops:Array Oper} (C:List Nat) (y z:Nat) {d dz:Nat} {fo:Operand} {aa:Array Operand} {tt:Array TypeId} {ty tz tz':TypeId} {ps psz:String} {af afz:Array Edge} {l:Nat} {oy oz:Oper} {vs:List Value} {R:Value->AH->Prop}
    (hy:ops[y]? = some oy) (hz:ops[z]? = some oz)
    (ey:oy={ dst:=some d,op:=.call { callee:=.value fo,args:=aa,argTypes:=tt },type:=ty,pos:=ps,after:=af,guard:=none })
    (ez:oz={ dst:=some dz,op:=.unOp .not tz (.tmp d),type:=tz',pos:=psz,after:=afz,guard:=none })
    (hw:sw ops y z=true) (hfd:(Jm d dz fo && aa.toList.all (Jm d dz))=true) (hdn:Nat.blt d nt=true) (hm:P.follows .mixedOrders=true)
    (hc:mf ((ops.setIfInBounds y { oy with op:=.move (.const (.bool true)) }).setIfInBounds z { oz with op:=.move (.const (.bool false)) }) (Array.replicate ops.size false) C=true) (hn:Region.noSelect ((ops.setIfInBounds y { oy with op:=.move (.const (.bool true)) }).setIfInBounds z { oz with op:=.move (.const (.bool false)) })=true) (hl:C.length=ops.size)
    (hya:lr P l vs.toArray A R)
    (h:bj P nt ((ops.setIfInBounds y { oy with op:=.move (.const (.bool true)) }).setIfInBounds z { oz with op:=.move (.const (.bool false)) })
      (fun x f A'=>x=.normal/\A'=A/\bX f.e fo=some (.func (.yield l) #[] #[])/\ju (bX f.e) aa.toList=some vs/\∀ v A2,R v A2->v=.bool true/\Q .normal f A2) (Array.replicate ops.size false) [] C ⟨e,ds⟩ A):am P nt (.region id ops true) Q ⟨e,ds⟩ A :=
  ef.run (ef.drawnYield C y z ks hy hz ey ez hw hfd hdn hm hc hn hl hya h)
end
end V
end Go.Proofs.YtjppkekmddjcfaaGreatDoor

namespace Go.Proofs.YtjppkekmddjcfaaGreatDoor
open Go Go.RowKit
namespace V
def mN (b4:Nat) (B:AH) (b:Nat):Prop:=b=b4\/∃ v cap,B.get b4=some (.row true [v] cap)/\blk v=some b
structure cx (b4:Nat) (M C:AH):Prop where
  le:M.le C
  wf:M.wf
  ow:∀ b,mN b4 C b->M.get b=none
section
variable {b4 b k:Nat} {A B C M M':AH} {v:Value} {cap:Nat} {o:fK}
theorem mN.same (h:mN b4 C b) (e:C.get b4=B.get b4):mN b4 B b:=by
  rcases h with h | ⟨v,cap,h1,h2⟩
  · exact .inl h
  · exact .inr ⟨v,cap,e ▸ h1,h2⟩
theorem mN.val (h:mN b4 C b) (g:C.get b4=some (.row true [v] cap)):b=b4\/blk v=some b:=by
  rcases h with h | ⟨v',cap',h1,h2⟩
  · exact .inl h
  · rw [g] at h1;cases h1;exact .inr h2
theorem cx.mono (h:cx b4 M C) (le:M'.le M) (wf:M'.wf):cx b4 M' C:=⟨le.trans h.le,wf,fun b hb=>by
  cases q:M'.get b with
  | none=>rfl
  | some o=>rw [<- h.ow b hb,le.get b o q]⟩
theorem cx.full (g:C.get b4=some (.row true [v] cap)) (wf:C.wf):cx b4 (C.hide [some b4,blk v]) C :=
  ⟨cE _ _,cm wf,fun b hb=>cr (by
    rcases hb.val g with rfl | q
    · simp
    · rw [q];simp)⟩
theorem cx.sub (h:cx b4 M C) (g:C.get b4=some (.row true [v] cap)):M.le (C.hide [some b4,blk v]) :=
  ci h.le fun b hb=>by
    simp only [List.mem_cons,List.not_mem_nil,or_false,Option.some.injEq] at hb
    rcases hb with rfl | hb
    · exact h.ow _ (.inl Z)
    · exact h.ow _ (.inr ⟨v,cap,g,hb.symm⟩)
end
theorem cx.up {b4:Nat} {A B M:AH} {v:Value} {cap:Nat} (h:cx b4 M A) (le:A.le B) (g:A.get b4=some (.row true [v] cap)):cx b4 M B :=
  ⟨h.le.trans le,h.wf,fun b hb=>h.ow b (hb.same (by rw [g];exact le.get _ _ g))⟩
theorem pb {A B:AH} {v:Value} (le:A.le B) (h:∀ b,blk v=some b->∃ o,A.get b=some o):∀ b,blk v=some b->∃ o,B.get b=some o:=fun b hb=>let ⟨o,ho⟩:=h b hb;⟨o,le.get _ _ ho⟩
theorem gh {b4 b:Nat} {A X:AH} {v:Value} {cap:Nat} {o:fK} (h:A.get b=some o) (g:X.get b4=some (.row true [v] cap)) (l:∀ b,blk v=some b->∃ o,X.get b=some o) (nj:X.get b=none):(A.hide [some b4,blk v]).get b=some o :=
  bQ h (qz (fun q=>by rw [q,g] at nj;cases nj) (nY (fun q=>by obtain ⟨o,ho⟩:=l b q;rw [nj] at ho;cases ho) mI))
theorem rn {b4 n:Nat} {A B X:AH} {v t:Value} {cap:Nat} {xs:List Value} (h:Fresh B A t n xs) (g:X.get b4=some (.row true [v] cap)) (l:∀ b,blk v=some b->∃ o,X.get b=some o) (nj:∀ b,blk t=some b->X.get b=none):bK (A.hide [some b4,blk v]) n t xs :=
  (h.off (bs:=[some b4,blk v]) (kr (fun q=>by have:=nj _ q;rw [g] at this;cases this) (jD (fun c hc hq=>by obtain ⟨o,ho⟩:=l c hc;rw [nj c hq] at ho;cases ho) kq)) (AH.le.refl _)).slc
structure jt (b4:Nat) (A B:AH) (Ds:List Nat):Prop where
  nd:Ds.Nodup
  lo:∀ D ∈ Ds,A.n<=D
  get:∀ D ∈ Ds,B.get D=some (.obj true (.deferred (some [])))
  ow:∀ D ∈ Ds,¬ mN b4 B D
theorem jt.nil {b4:Nat} {A B:AH}:jt b4 A B []:=⟨List.nodup_nil,(fun _ h=>by cases h),(fun _ h=>by cases h),(fun _ h=>by cases h)⟩
theorem jt.up {b4:Nat} {A B C:AH} {Ds:List Nat} {v:Value} {cap:Nat} (h:jt b4 A B Ds) (le:B.le C) (g:B.get b4=some (.row true [v] cap)):jt b4 A C Ds :=
  ⟨h.nd,h.lo,fun D hD=>le.get _ _ (h.get D hD),fun D hD q=>h.ow D hD (q.same (by rw [g];exact le.get _ _ g))⟩
theorem jt.push {b4 D:Nat} {A B C:AH} {Ds:List Nat} {v:Value} {cap:Nat} (h:jt b4 A B Ds) (g:B.get b4=some (.row true [v] cap)) (hR:cx b4 (B.hide [some b4,blk v]) C) (wf:B.wf) (hA:A.n<=B.n) (hn:B.n<=D) (hD:C.get D=some (.obj true (.deferred (some [])))) (ho:¬ mN b4 C D):jt b4 A C (D :: Ds):=by
  have key:∀ E ∈ Ds,(B.hide [some b4,blk v]).get E=some (.obj true (.deferred (some []))):=fun E hE=>bQ (h.get E hE) (qz (fun q=>h.ow E hE (.inl q)) (nY (fun q=>h.ow E hE (.inr ⟨v,cap,g,q⟩)) mI))
  refine ⟨List.nodup_cons.2 ⟨fun q=>by have:=wf _ _ (h.get D q);omega,h.nd⟩,fun E hE=>?_,fun E hE=>?_,fun E hE=>?_⟩
  · rcases List.mem_cons.1 hE with rfl | q
    · omega
    · exact h.lo E q
  · rcases List.mem_cons.1 hE with rfl | q
    · exact hD
    · exact hR.le.get _ _ (key E q)
  · rcases List.mem_cons.1 hE with rfl | q
    · exact ho
    · intro z;have:=hR.ow E z;rw [key E q] at this;cases this
theorem jt.leave {b4:Nat} {A A' B M:AH} {Ds:List Nat} {v:Value} {cap:Nat} (h:jt b4 A B Ds) (le:M.le A) (wf:A.wf) (hR:cx b4 M B) (g:B.get b4=some (.row true [v] cap)) (hn:A'.n=B.n) (hk:∀ b o,b ∉ Ds->B.get b=some o->A'.get b=some o) :
    cx b4 M A'/\∀ b o,(b < A.n\/mN b4 B b)->B.get b=some o->A'.get b=some o:=by
  have k2:∀ b o,(b < A.n\/mN b4 B b)->B.get b=some o->A'.get b=some o:=fun b o hb hg=>hk b o (fun q=>by
    rcases hb with hb | hb
    · have:=h.lo b q;omega
    · exact h.ow b q hb) hg
  refine ⟨⟨⟨by rw [hn];exact hR.le.n,fun b o hb=>k2 b o (.inl (wf _ _ (le.get _ _ hb))) (hR.le.get _ _ hb)⟩,hR.wf,fun b hb=>hR.ow b (hb.same ?_)⟩,k2⟩
  rw [g];exact k2 b4 _ (.inr (.inl Z)) g
section
variable {P:Program} {nt:Nat} {Q:Exit->Fr->AH->Prop} {A M:AH} {e:gx} {ds:List Deferred}
theorem am.rangeOwn {g:Operand} {gf:Nat} {lb:Array Value} {ps:Array Tmp} {assign body:Code} (b4 n:Nat) (xs:Nat->List Value) (I:Nat->AH->Prop) (e1:Nat->Nat->gx) (ar:Nat->fK)
    (hg:bX e g=some (.func (.func gf) #[] lb)) (eg:fy P gf) (hps:∀ i,(xs i).length=ps.size) (hpn:∀ p ∈ ps.toList,p < nt) (a3:b4 < A.n) (hM:cx b4 M A)
    (hI:∀ i B B',I i B->B'.wf->B.n<=B'.n->(∀ b o,(b < A.n\/mN b4 B b)->B.get b=some o->B'.get b=some o)->I i B')
    (hv:∀ i B,I i B->∃ v cap,B.get b4=some (.row true [v] cap)/\∀ b,blk v=some b->∃ o,B.get b=some o) (h0:I 0 A)
    (hiter:∀ l (J:Nat->AH->Prop) B M,B.n=A.n + 2->A.le B->B.wf->cx b4 M B->(∀ i C,J i C->I i C) ->
      (∀ i C C',J i C->C'.wf->C.n<=C'.n->(∀ b o,(b < B.n\/mN b4 C b)->C.get b=some o->C'.get b=some o)->J i C')->J 0 B ->
      (∀ i C M',i < n->C.wf->J i C->cx b4 M' C->lr P l (xs i).toArray C (fun v C'=>v=.bool true/\J (i + 1) C'/\C'.wf/\cx b4 M' C')) ->
      bH P gf (#[.func (.yield l) #[] #[]] ++ lb) B (fun _ C=>J n C/\C.wf/\cx b4 M C))
    (hassign:∀ F i B,wG F->i < n->ef P nt F assign (vO fun f C=>∃ b6,B.n<=b6/\al (e1 i b6) f.e/\f.ds=[]/\B.le C/\C.wf/\C.get b6=some (ar i)) ⟨zm ps.toList (xs i) e,[]⟩ B)
    (hbody:∀ F i B b6 M',wG F->i < n->I i B->B.wf->A.n<=B.n->cx b4 M' B->A.n<=b6->B.get b6=some (ar i)->¬ mN b4 B b6->M'.get b6=none->ef P nt F body (vO fun _ C=>I (i + 1) C/\C.wf/\cx b4 M' C) ⟨e1 i b6,[]⟩ B)
    (hK:∀ B D,I n B->B.wf->A.n<=D->A.n<=B.n->B.get D=some (.obj true (.deferred (some [])))->¬ mN b4 B D->cx b4 M B->Q .normal ⟨e,mark D :: ds⟩ B) :
    am P nt (.rangeFunc g ps assign body) Q ⟨e,ds⟩ A:=by
  intro a w ha hw
  refine wpIn_wide.1 (wpIn_rangeFunc (n:=0) ?_)
  intro fn _
  rw [show Fence.wide.round=none from rfl]
  obtain ⟨rec,hrec⟩:∃ rec:LoopState->Option Code->Loop,rec=fun st pe=>{ state:=st,pending:=pe,fn,tmps:=a.tmps,params:=ps,assign,body,defers:=w.heap.size }:=⟨_,rfl⟩
  have hsz:w.heap.size=A.n:=hw.size
  have wfA:=hw.wf
  have hA:∀ b,mN b4 A b->b < A.n:=fun b hb=>by
    obtain ⟨v,cap,g1,g2⟩:=hv 0 A h0
    rcases hb.val g1 with rfl | q
    · exact a3
    · obtain ⟨o,ho⟩:=g2 b q;exact wfA _ _ ho
  obtain ⟨v1,s1⟩:=jK (o:=.obj true (.deferred (some []))) (x:=.deferred (some [])) hw ⟨rfl,fun _ _ _ q=>by cases q⟩
  obtain ⟨v2,s2⟩:=jK (o:=.obj true (.loop (rec .ready none))) (x:=.loop (rec .ready none)) v1 ⟨rfl,fun _ _ _ q=>by cases q⟩
  have hgl:((A.new (.obj true (.deferred (some [])))).new (.obj true (.loop (rec .ready none)))).get (A.n + 1)=some (.obj true (.loop (rec .ready none))):=AH.new_get_same _ _
  have hgd:((A.new (.obj true (.deferred (some [])))).new (.obj true (.loop (rec .ready none)))).get A.n=some (.obj true (.deferred (some []))):=by
    rw [AH.new_get_ne _ _ (by simp)];exact AH.new_get_same _ _
  have hkeep:∀ b,b < A.n->((A.new (.obj true (.deferred (some [])))).new (.obj true (.loop (rec .ready none)))).get b=A.get b:=fun b hb=>by
    rw [AH.new_get_ne _ _ Oz,AH.new_get_ne _ _ O]
  have hleA:A.le ((A.new (.obj true (.deferred (some [])))).new (.obj true (.loop (rec .ready none)))):=AH.le_new (AH.le_new (AH.le.refl A) wfA _) wfA _
  have hnB:((A.new (.obj true (.deferred (some [])))).new (.obj true (.loop (rec .ready none)))).n=A.n + 2:=rfl
  generalize ((A.new (.obj true (.deferred (some [])))).new (.obj true (.loop (rec .ready none))))=B0 at *
  have ad:I 0 B0:=hI 0 A _ h0 v2.wf O fun b o hb hgb=>by rw [hkeep b (wfA _ _ hgb)];exact hgb
  have aa:∀ b,mN b4 B0 b->b < A.n:=fun b hb=>hA b (hb.same (hkeep b4 a3))
  have hgev:a.eval g=.func (.func gf) #[] lb:=cL ha hg
  -- what is kept of the loop's own blocks
  have nl:b4 ≠ A.n + 1:=by omega
  refine ⟨w.heap.size + 1,[mark w.heap.size],(w.alloc (.deferred (some []))).alloc (.loop (rec .ready none)),{ target:=.fn (.func gf) lb,args:=#[.func (.yield (w.heap.size + 1)) #[] #[]] },(w.alloc (.deferred (some []))).alloc (.loop (rec .ready none)),gf,
    #[.func (.yield (w.heap.size + 1)) #[] #[]] ++ lb,(w.alloc (.deferred (some []))).alloc (.loop (rec .ready none)),?_,?_,fun _ _=>trivial,?_,fun q=>(by cases q),?_⟩
  · rw [hrec];exact run_enterLoop_outer _ _ _ _ _
  · simp only [resolve,hgev]
    simp [go_sem]
  · have eg':=eg
    unfold fy at eg'
    simp [invoke,go_sem,eg']
  · rw [hsz]
    have ai:cx b4 M B0:=⟨hM.le.trans hleA,hM.wf,fun b hb=>hM.ow b (hb.same (hkeep b4 a3))⟩
    have hcall:=hiter (A.n + 1) (fun i C=>I i C/\C.get (A.n + 1)=some (.obj true (.loop (rec .ready none)))/\C.get A.n=some (.obj true (.deferred (some [])))/\¬ mN b4 C (A.n + 1)/\¬ mN b4 C A.n) B0 M hnB hleA v2.wf ai (fun i C h=>h.1)
      (fun i C C' h wf hn hk=>?_) ⟨ad,hgl,hgd,fun q=>by have:=aa _ q;omega,fun q=>by have:=aa _ q;omega⟩ ?_
    · refine (callsIn_wide.2 (hcall.2 _ v2)).mono ?_
      rintro en w' ⟨A',hv',hs',v,rfl,⟨⟨hIn,hgl',hgd',X,a0⟩,hwf',hM'⟩⟩
      obtain ⟨q1,_⟩:=hv'.obj hgl'
      obtain ⟨v3,s3⟩:=lU P (y:=.loop { rec .ready none with state:=.exhausted }) hv' hgl' (fun _ _ _ q=>by cases q)
      refine ⟨none,w'.putObj (A.n + 1) (.loop { rec .ready none with state:=.exhausted }),by
        have h7:=run_endLoop (P:=P) q1 (by rw [hrec];simp)
        have h8:(rec .ready none).pending=none:=by rw [hrec]
        exact h7.trans (congrArg (fun j=>Result.ok j _) h8),?_⟩
      have hl':=hwf' _ _ hgl'
      refine ⟨⟨e,mark A.n :: ds⟩,_,⟨ha.size,ha.slot,by show [mark _] ++ a.defers=_;rw [ha.ds];rfl⟩,v3,((s1.trans s2).trans hs').trans s3,?_,fun _ q=>by cases q⟩
      have hset:∀ b,b ≠ A.n + 1->(A'.set (A.n + 1) (.obj true (.loop { rec .ready none with state:=.exhausted }))).get b=A'.get b:=fun b hb=>AH.set_get_ne _ _ hb
      refine hK _ A.n (hI n A' _ hIn v3.wf (Nat.le_refl _) fun b o hb hgb=>?_) v3.wf (Nat.le_refl _) Oz ?_ ?_ ⟨⟨hM'.le.n,fun b o hb=>?_⟩,hM'.wf,fun b hb=>hM'.ow b (hb.same (hset b4 nl))⟩
      · rw [hset];exact hgb
        rintro rfl
        rcases hb with hb | hb
        · omega
        · exact X hb
      · rw [hset _ O];exact hgd'
      · exact fun q=>a0 (q.same (hset b4 nl))
      · have h1:=hM.le.get b o hb
        have h2:=wfA _ _ h1
        rw [hset _ O];exact hM'.le.get b o hb
    · obtain ⟨hIC,g1,g2,X,a0⟩:=h
      obtain ⟨v,cap,hr,_⟩:=hv i C hIC
      have e4:C'.get b4=C.get b4:=by rw [hr];exact hk b4 _ (.inr (.inl Z)) hr
      exact ⟨hI i C C' hIC wf hn (fun b o hb hgb=>hk b o (hb.imp (fun q=>by omega) id) hgb),hk _ _ (.inl O) g1,hk _ _ (.inl O) g2,fun q=>X (q.same e4),fun q=>a0 (q.same e4)⟩
    · rintro i C M' hi hwfC ⟨hIC,hgl',hgd',X,a0⟩ hMC w' hv'
      obtain ⟨q1,_⟩:=hv'.obj hgl'
      have hy:=run_yield (P:=P) (args:=(xs i).toArray) q1 (by rw [hrec];simpa using hps i)
      refine ⟨fn,_,assign,body,(by rw [hrec] at hy;exact hy),roundIn_of_wpIn trivial ?_⟩
      have hact:cW nt ⟨zm ps.toList (xs i) e,[]⟩ { tmps:=(ps.zip (xs i).toArray).foldl (fun t p=>t.setIfInBounds p.1 p.2) a.tmps,defers:=[] }:=by
        have:=tp (nt:=nt) (ps.toList.zip (xs i)) e a.tmps (fun p hp=>hpn _ (List.of_mem_zip hp).1) ⟨ha.size,ha.slot,rfl⟩
        rw [<- Array.foldl_toList,Array.toList_zip]
        exact this
      have av:=hassign (FR (A.n + 1)) i C (qj _) hi _ w' hact hv'
      refine wpIn_mono av ?_
      rintro x a1 w1 ⟨f1,C1,h1,h2,h3,h4,h5⟩
      cases x <;> (try exact h4.elim)
      obtain ⟨b6,aA,hE,hds,hleC,ay,ap⟩:=h4
      obtain ⟨fe,fds⟩:=f1
      simp only at hE hds
      subst hds
      obtain ⟨vC,capC,gC,lC⟩:=hv i C hIC
      have owC:∀ b,mN b4 C b->b < C.n:=fun b hb=>by
        rcases hb.val gC with rfl | q
        · exact hwfC _ _ gC
        · obtain ⟨o,ho⟩:=lC b q;exact hwfC _ _ ho
      have ac:C1.get b4=C.get b4:=by rw [gC];exact hleC.get _ _ gC
      have a4:=hleC.get _ _ hgl'
      have ab:=hleC.get _ _ hgd'
      obtain ⟨q2,_⟩:=h2.obj a4
      obtain ⟨v4,s4⟩:=lU P (y:=.loop { rec .ready none with state:=.busy }) h2 a4 (fun _ _ _ q=>by cases q)
      refine ⟨_,run_beginRound q2 (by rw [hrec]),?_⟩
      have hl':=hwfC _ _ hgl'
      have hd':=hwfC _ _ hgd'
      have hnC:=hleC.n
      have hset:∀ b,b ≠ A.n + 1->(C1.set (A.n + 1) (.obj true (.loop { rec .ready none with state:=.busy }))).get b=C1.get b:=fun b hb=>AH.set_get_ne _ _ hb
      have hsetl:(C1.set (A.n + 1) (.obj true (.loop { rec .ready none with state:=.busy }))).get (A.n + 1)=some (.obj true (.loop { rec .ready none with state:=.busy })):=AH.set_get_same _ _ _
      have hsetn:(C1.set (A.n + 1) (.obj true (.loop { rec .ready none with state:=.busy }))).n=C1.n:=rfl
      generalize C1.set (A.n + 1) (.obj true (.loop { rec .ready none with state:=.busy }))=B1 at *
      have hIB:I i B1:=hI i C _ hIC v4.wf O fun b o hb hgb=>by
        rw [hset];exact hleC.get _ _ hgb
        rintro rfl
        rcases hb with hb | hb
        · omega
        · exact X hb
      have a8:∀ b,mN b4 B1 b->mN b4 C b:=fun b hb=>(hb.same (hset b4 nl)).same ac
      have hMs:cx b4 ⟨C.n,fun b=>if b=A.n + 1 then some (.obj true (.loop { rec .ready none with state:=.busy })) else if b=A.n then some (.obj true (.deferred (some []))) else M'.get b⟩ B1:=by
        refine ⟨⟨by show C.n<=B1.n;omega,fun b o hb=>?_⟩,fun b o hb=>?_,fun b hb=>?_⟩
        · simp only at hb
          split at hb
          · rename_i q;subst q;rw [hsetl];exact hb
          · rename_i q
            rw [hset b q]
            split at hb
            · rename_i q2;subst q2;rw [ab];exact hb
            · exact hleC.get _ _ (hMC.le.get b o hb)
        · simp only at hb
          split at hb
          · show b < C.n;omega
          · split at hb
            · show b < C.n;omega
            · exact hwfC b o (hMC.le.get b o hb)
        · have h6:=a8 b hb
          simp only
          rw [if_neg (fun q:b=A.n + 1=>X (q ▸ h6)),if_neg (fun q:b=A.n=>a0 (q ▸ h6))]
          exact hMC.ow b h6
      have hb:=hbody (FR (A.n + 1)) i B1 b6 _ (qj _) hi hIB v4.wf O hMs O (by rw [hset _ O];exact ap) (fun q=>by have:=owC _ (a8 _ q);omega) (by
        simp only
        rw [if_neg O,if_neg O]
        cases q:M'.get b6 with
        | none=>rfl
        | some o=>have:=hwfC _ _ (hMC.le.get _ _ q);omega)
      refine wpIn_mono (hb _ _ (cW.le h1 hE) v4) ?_
      rintro x a2 w2 ⟨f2,A2,g1,g2,g3,g4,g5⟩
      cases x <;> (try exact g4.elim)
      obtain ⟨ag,az,V⟩:=g4
      have a7:A2.get (A.n + 1)=some (.obj true (.loop { rec .ready none with state:=.busy })):=V.le.get _ _ (if_pos Z)
      have a6:A2.get A.n=some (.obj true (.deferred (some []))):=V.le.get _ _ (by simp [show ¬ A.n=A.n + 1 by omega])
      have a5:¬ mN b4 A2 (A.n + 1):=fun q=>by have:=V.ow _ q;simp only [if_true] at this;cases this
      have a9:¬ mN b4 A2 A.n:=fun q=>by have:=V.ow _ q;simp [show ¬ A.n=A.n + 1 by omega] at this
      obtain ⟨q3,_⟩:=g2.obj a7
      obtain ⟨v5,s5⟩:=lU P (y:=.loop { ({ rec .ready none with state:=.busy }:Loop) with state:=.ready,pending:=none }) g2 a7 (fun _ _ _ q=>by cases q)
      refine ⟨_,_,run_endRound (P:=P) none q3,_,_,Z,v5,((h3.trans s4).trans g3).trans s5,Z,⟨?_,?_,?_,?_,?_⟩,v5.wf,?_⟩
      · exact hI (i + 1) A2 _ ag v5.wf (Nat.le_refl _) fun b o hb hgb=>by
          rw [AH.set_get_ne];exact hgb
          rintro rfl
          rcases hb with hb | hb
          · omega
          · exact a5 hb
      · rw [AH.set_get_same,hrec]
      · rw [AH.set_get_ne _ _ O];exact a6
      · exact fun q=>a5 (q.same (AH.set_get_ne _ _ nl))
      · exact fun q=>a9 (q.same (AH.set_get_ne _ _ nl))
      · refine ⟨⟨Nat.le_trans hMC.le.n (by have:=V.le.n;exact this),fun b o hb=>?_⟩,hMC.wf,fun b hb=>?_⟩
        · by_cases q:b=A.n + 1
          · subst q
            have h6:=hMC.le.get _ _ hb
            rw [hgl'] at h6
            rw [AH.set_get_same,<- h6,hrec]
          · rw [AH.set_get_ne _ _ q]
            by_cases q2:b=A.n
            · subst q2;rw [a6,<- hMC.le.get _ _ hb,hgd']
            · exact V.le.get b o (by simp only;rw [if_neg q,if_neg q2];exact hb)
        · have h6:mN b4 A2 b:=hb.same (AH.set_get_ne _ _ nl)
          have h7:=V.ow b h6
          simp only at h7
          rw [if_neg (fun q:b=A.n + 1=>a5 (q ▸ h6)),if_neg (fun q:b=A.n=>a9 (q ▸ h6))] at h7
          exact h7
end
end V
end Go.Proofs.YtjppkekmddjcfaaGreatDoor

namespace Go.Proofs.YtjppkekmddjcfaaGreatDoor
open Go Go.RowKit V
section
variable {α:Type} {f:α->List Value} {n:Nat} {z:α}
theorem vr (hf:∀ a,(f a).length=n) (l:List α):(l.flatMap f).length=l.length * n:=by
  induction l with
  | nil=>simp
  | cons a l ih=>rw [List.flatMap_cons,List.length_append,ih,hf,List.length_cons,Nat.add_mul];omega
theorem LI (hf:∀ a,(f a).length=n) (l:List α) (i:Nat):(l.flatMap f).drop (i * n)=(l.drop i).flatMap f:=by
  induction l generalizing i with
  | nil=>simp
  | cons a l ih =>
    cases i with
    | zero=>simp
    | succ i =>
      rw [List.flatMap_cons,show (i + 1) * n=(f a).length + i * n by rw [hf,Nat.add_mul];omega,<- List.drop_drop,List.drop_left]
      exact ih i
theorem DA (hf:∀ a,(f a).length=n) {l:List α} {i:Nat} (h:i < l.length):((l.flatMap f).drop (i * n)).take n=f (l.getD i z):=by
  rw [LI hf,List.drop_eq_getElem_cons h]
  have e:l.getD i z=l[i]:=by simp [h]
  rw [e,List.flatMap_cons]
  exact List.take_left' (hf _)
theorem FU (hf:∀ a,(f a).length=n) {l:List α} {i k:Nat} (h:i < l.length) (hk:k < n):(l.flatMap f)[i * n + k]? = (f (l.getD i z))[k]?:=by
  rw [<- DA hf h,List.getElem?_take_of_lt hk,List.getElem?_drop]
end
abbrev Wd:=List UInt8
def yg (s:Wd × Wd):List Value:=[aX s.1,aX s.2]
def gw (l:List (Wd × Wd)):List Value:=l.flatMap yg
theorem dC (l:List (Wd × Wd)):(gw l).length=l.length * 2:=vr (f:=yg) (n:=2) (fun _=>rfl) l
theorem rq (l:List (Wd × Wd)):(gw l).length=l.length * 2:=dC l
theorem qM (a b:List (Wd × Wd)):gw a ++ gw b=gw (a ++ b):=by simp [gw]
theorem J6 {l:List (Wd × Wd)} {i:Nat} (h:i < l.length):((gw l).drop (i * 2)).take 2=yg (l.getD i ([],[])):=DA (f:=yg) (n:=2) (fun _=>rfl) h
theorem yh {l:List (Wd × Wd)} {i:Nat} (h:i < l.length):(gw l)[i * 2 + 0]? = some (aX (l.getD i ([],[])).1):=FU (f:=yg) (n:=2) (fun _=>rfl) h U
theorem qo {l:List (Wd × Wd)} {i:Nat} (h:i < l.length):(gw l)[i * 2 + 1]? = some (aX (l.getD i ([],[])).2):=FU (f:=yg) (n:=2) (fun _=>rfl) h U
structure CP where
  i:Int
  j:Int
  word:Wd
  u:Wd
  v:Wd
deriving DecidableEq
def CP.zero:CP:=⟨0,0,[],[],[]⟩
def cp (c:CP):List Value:=[num c.i,num c.j,aX c.word,aX c.u,aX c.v]
abbrev PQ (c:CP):Value:=.agg #[num c.i,num c.j,aX c.word,aX c.u,aX c.v]
def Dg (l:List CP):List Value:=l.flatMap cp
theorem nA (l:List CP):(Dg l).length=l.length * 5:=vr (f:=cp) (n:=5) (fun _=>rfl) l
theorem FC (l:List CP):(Dg l).length=l.length * 5:=nA l
theorem Dh (a b:List CP):Dg a ++ Dg b=Dg (a ++ b):=by simp [Dg]
theorem Sk {l:List CP} {i:Nat} (h:i < l.length):((Dg l).drop (i * 5)).take 5=cp (l.getD i .zero):=DA (f:=cp) (n:=5) (fun _=>rfl) h
def Vi (x:Nat):Wd:=[cI.getD x 0,cI.getD (x ^^^ 1) 0]
def bx (g:Int) (rs:List bf):List (Wd × Wd):=rs.map (fun r=>(r.left,r.right)) ++ (List.range (2 * g.toNat)).map fun x=>(Vi x,[])
def nm (n i:Nat):Int:=if i < n then (i:Int) else -1 - ((i:Int) - (n:Int))
def p1 (u v:Wd) (k:Nat):Bool:=decide (1<=k) && decide (u.length - k < v.length) && decide (u.drop k=v.take (u.length - k))
def p2 (u v:Wd) (k:Nat):Bool:=decide (k + v.length<=u.length) && decide ((u.take (k + v.length)).drop k=v)
abbrev c1 (I J:Int) (a b:Wd × Wd) (k:Nat):CP:=⟨I,J,a.1 ++ b.1.drop (a.1.length - k),a.2 ++ b.1.drop (a.1.length - k),a.1.take k ++ b.2⟩
abbrev c2 (I J:Int) (a b:Wd × Wd) (k:Nat):CP:=⟨I,J,a.1,a.2,a.1.take k ++ b.2 ++ a.1.drop (k + b.1.length)⟩
def tX (I J:Int) (a b:Wd × Wd) (n:Nat):List CP:=((List.range n).filter (p1 a.1 b.1)).map (c1 I J a b)
def wT (I J:Int) (a b:Wd × Wd) (n:Nat):List CP:=((List.range n).filter (p2 a.1 b.1)).map (c2 I J a b)
def qX (I J:Int) (same:Bool) (a b:Wd × Wd):List CP:=tX I J a b a.1.length ++ if same then [] else wT I J a b (a.1.length + 1)
theorem Ew {rs:List bf} {i:Nat} (h:i < rs.length):(rs.take i).map (fun r=>(r.left,r.right)) ++ [((rs.getD i .zero).left,(rs.getD i .zero).right)]=(rs.take (i + 1)).map (fun r=>(r.left,r.right)):=by
  have e:rs.getD i .zero=rs[i]:=by simp [h]
  rw [List.take_succ_eq_append_getElem h,List.map_append,e];rfl
theorem RQ {x:Nat} (h:x < 16):x ^^^ 1 < 16:=by
  have:∀ a:Fin 16,a.1 ^^^ 1 < 16:=by decide
  exact this ⟨x,h⟩
theorem Ml {x:Nat} (h:x < 16):([d8 97,d8 65,d8 98,d8 66,d8 99,d8 67,d8 100,d8 68,d8 101,d8 69,d8 102,d8 70,d8 103,d8 71,d8 104,d8 72]:List Value)[0 + x * 1]? = some (d8 (cI.getD x 0)):=by
  rw [Nat.zero_add,Nat.mul_one]
  have:∀ a:Fin 16,([97,65,98,66,99,67,100,68,101,69,102,70,103,71,104,72]:List UInt8)[a.1]? = some (cI.getD a.1 0):=by decide
  have h2:=congrArg (Option.map d8) (this ⟨x,h⟩)
  rw [<- List.getElem?_map] at h2
  exact h2
section
variable {I J:Int} {a b:Wd × Wd} {n k:Nat} {same:Bool}
theorem vF:tX I J a b (n + 1)=if p1 a.1 b.1 n then tX I J a b n ++ [c1 I J a b n] else tX I J a b n:=by
  unfold tX
  rw [List.range_succ,List.filter_append,List.map_append]
  by_cases h:p1 a.1 b.1 n=true <;> simp [h]
theorem rM:wT I J a b (n + 1)=if p2 a.1 b.1 n then wT I J a b n ++ [c2 I J a b n] else wT I J a b n:=by
  unfold wT
  rw [List.range_succ,List.filter_append,List.map_append]
  by_cases h:p2 a.1 b.1 n=true <;> simp [h]
theorem MI (h:n<=k):tX I J a b n <+: tX I J a b k:=by
  induction k with
  | zero => obtain rfl : n = 0 := by omega
            exact List.prefix_refl _
  | succ k ih =>
    rcases Nat.lt_or_ge k n with q | q
    · obtain rfl:n=k + 1:=by omega
      exact List.prefix_refl _
    · refine (ih q).trans ?_
      rw [vF];split
      · exact List.prefix_append _ _
      · exact List.prefix_refl _
theorem LR (h:n<=k):wT I J a b n <+: wT I J a b k:=by
  induction k with
  | zero => obtain rfl : n = 0 := by omega
            exact List.prefix_refl _
  | succ k ih =>
    rcases Nat.lt_or_ge k n with q | q
    · obtain rfl:n=k + 1:=by omega
      exact List.prefix_refl _
    · refine (ih q).trans ?_
      rw [rM];split
      · exact List.prefix_append _ _
      · exact List.prefix_refl _
theorem pw {α:Type} {p q l:List α} {x z:α} (h:p ++ [x] <+: l):p.length < l.length/\l.getD p.length z=x:=by
  obtain ⟨t,rfl⟩:=h
  simp
theorem Qz (h1:1<=n) (hn:n < a.1.length) (h2:a.1.length - n < b.1.length) (h3:a.1.drop n=b.1.take (a.1.length - n)) :
    (tX I J a b n).length < (qX I J same a b).length/\(qX I J same a b).getD (tX I J a b n).length .zero=c1 I J a b n/\(tX I J a b (n + 1)).length=(tX I J a b n).length + 1:=by
  have hp:p1 a.1 b.1 n=true:=by simp [p1,h1,h2,h3]
  have e:tX I J a b (n + 1)=tX I J a b n ++ [c1 I J a b n]:=by rw [vF,if_pos hp]
  have hq:tX I J a b n ++ [c1 I J a b n] <+: qX I J same a b:=e ▸ (MI O).trans (List.prefix_append _ _)
  exact ⟨(pw (z:=CP.zero) (q:=[]) hq).1,(pw (q:=[]) hq).2,by rw [e];simp⟩
theorem D5 (h:¬ (1<=n/\a.1.length - n < b.1.length/\a.1.drop n=b.1.take (a.1.length - n))):(tX I J a b (n + 1)).length=(tX I J a b n).length:=by
  rw [vF,if_neg]
  simp only [p1,Bool.and_eq_true,decide_eq_true_eq]
  exact fun q=>h ⟨q.1.1,q.1.2,q.2⟩
theorem P4 (hs:same=false) (hn:n + b.1.length<=a.1.length) (h3:(a.1.take (n + b.1.length)).drop n=b.1) :
    (tX I J a b a.1.length).length + (wT I J a b n).length < (qX I J same a b).length/\(qX I J same a b).getD ((tX I J a b a.1.length).length + (wT I J a b n).length) .zero=c2 I J a b n/\(wT I J a b (n + 1)).length=(wT I J a b n).length + 1:=by
  have hp:p2 a.1 b.1 n=true:=by simp [p2,hn,h3]
  have e:wT I J a b (n + 1)=wT I J a b n ++ [c2 I J a b n]:=by rw [rM,if_pos hp]
  have hq:(tX I J a b a.1.length ++ wT I J a b n) ++ [c2 I J a b n] <+: qX I J same a b:=by
    unfold qX
    rw [hs,List.append_assoc,<- e]
    exact (List.prefix_append_right_inj _).2 (LR O)
  have:=pw (z:=CP.zero) (q:=[]) hq
  rw [List.length_append] at this
  exact ⟨this.1,this.2,by rw [e];simp⟩
theorem SG (h:¬ (a.1.take (n + b.1.length)).drop n=b.1):(wT I J a b (n + 1)).length=(wT I J a b n).length:=by
  rw [rM,if_neg]
  simp only [p2,Bool.and_eq_true,decide_eq_true_eq]
  exact fun q=>h q.2
theorem P3 (h:¬ n + b.1.length<=a.1.length) (hk:n<=k):wT I J a b k=wT I J a b n:=by
  induction k with
  | zero => obtain rfl : n = 0 := by omega
            rfl
  | succ k ih =>
    rcases Nat.lt_or_ge k n with q | q
    · obtain rfl:n=k + 1:=by omega
      rfl
    · rw [rM,if_neg,ih q]
      simp only [p2,Bool.and_eq_true,decide_eq_true_eq]
      exact fun q=>by omega
theorem Iw (hs:same=true):(qX I J same a b).length=(tX I J a b a.1.length).length:=by simp [qX,hs]
theorem KR (hs:same=false) (h:¬ n + b.1.length<=a.1.length) (hn:n<=a.1.length + 1):(qX I J same a b).length=(tX I J a b a.1.length).length + (wT I J a b n).length:=by
  rw [qX,hs,List.length_append,if_neg (by simp),P3 h hn]
theorem Jr:(tX I J a b 1).length=0:=by
  rw [D5 O];rfl
end
def VM (I J:Int) (c:CP):CP:=⟨I,J,c.word,c.u,c.v⟩
abbrev eW (L:List (Wd × Wd)) (i j:Nat):List CP:=qX (i:Int) (j:Int) (decide (i=j)) (L.getD i ([],[])) (L.getD j ([],[]))
def zU (n:Nat) (L:List (Wd × Wd)) (i j:Nat):List CP:=if n<=i/\n<=j then [] else (eW L i j).map (VM (nm n i) (nm n j))
def Jy (n:Nat) (L:List (Wd × Wd)) (i k:Nat):List CP:=(List.range k).flatMap (zU n L i)
def sG (n:Nat) (L:List (Wd × Wd)) (i j:Nat):List CP:=((List.range i).flatMap fun i=>Jy n L i L.length) ++ Jy n L i j
def pr (n:Nat) (L:List (Wd × Wd)):List CP:=(List.range L.length).flatMap fun i=>Jy n L i L.length
def bk (g:Int) (rs:List bf):List CP:=pr rs.length (bx g rs)
theorem wn (g:Int) (rs:List bf):(bx g rs).length=rs.length + 2 * g.toNat:=by simp [bx]
theorem tx {g:Int} {rs:List bf} (hg:1<=g/\g<=8) (hw:∀ r ∈ rs,0 < r.left.length/\r.left.length<=1000/\r.right.length<=1000):∀ s ∈ bx g rs,0 < s.1.length/\s.1.length<=100000/\s.2.length<=100000:=fun s hs=>by
  rcases List.mem_append.1 hs with h | h
  · obtain ⟨r,hr,rfl⟩:=List.mem_map.1 h
    have:=hw r hr
    exact ⟨this.1,by show r.left.length<=_;omega,by show r.right.length<=_;omega⟩
  · obtain ⟨x,hx,rfl⟩:=List.mem_map.1 h
    exact ⟨Nat.zero_lt_succ _,by show (2:Nat)<=100000;omega,by show (0:Nat)<=100000;omega⟩
theorem r8 {bo:Nat} {A B N:AH} {v:Value} {cap:Nat} (r:cx bo N B) (gY:B.get bo=some (.row true [v] cap)) (gZ:A.get bo=some (.row true [v] cap)):∀ b,some b ∈ [some bo,blk v]->N.get b=none:=fun b hb=>by
  simp only [List.mem_cons,List.not_mem_nil,or_false,Option.some.injEq] at hb
  rcases hb with rfl | hb
  · exact r.ow _ (.inl Z)
  · exact r.ow _ (.inr ⟨_,_,gY,hb.symm⟩)
theorem _root_.Go.Proofs.YtjppkekmddjcfaaGreatDoor.V.Fresh.owk {A0 A B:AH} {v:Value} {n:Nat} {xs:List Value} (h:Fresh A0 A v n xs) (k:∀ b o,blk v=some b->A.get b=some o->B.get b=some o):Fresh A0 B v n xs:=⟨by
  rcases h.own with h | ⟨b',m,c,r,rcap,rfl,h2,h3⟩
  · exact .inl h
  · exact .inr ⟨b',m,c,r,rcap,Z,k _ _ Z h2,h3⟩,h.lo⟩
theorem f5 {α:Type} {l:List α} {i:Nat} {z:α} (h:i < l.length):l.take i ++ [l.getD i z]=l.take (i + 1):=by
  have e:l.getD i z=l[i]:=by simp [h]
  rw [List.take_succ_eq_append_getElem h,e]
section
variable {n i j k:Nat} {L:List (Wd × Wd)}
theorem uq:sG n L i (j + 1)=sG n L i j ++ zU n L i j:=by simp [sG,Jy,List.range_succ]
theorem CZ:sG n L (i + 1) 0=sG n L i L.length:=by simp [sG,Jy,List.range_succ]
theorem Kz:sG n L L.length 0=pr n L:=by simp [sG,Jy,pr]
theorem zJ (h:j<=k):sG n L i j <+: sG n L i k:=by
  induction k with
  | zero => obtain rfl : j = 0 := by omega
            exact List.prefix_refl _
  | succ k ih =>
    rcases Nat.lt_or_ge k j with q | q
    · obtain rfl:j=k + 1:=by omega
      exact List.prefix_refl _
    · rw [uq];exact (ih q).trans (List.prefix_append _ _)
theorem KF (h:i<=k):sG n L i 0 <+: sG n L k 0:=by
  induction k with
  | zero => obtain rfl : i = 0 := by omega
            exact List.prefix_refl _
  | succ k ih =>
    rcases Nat.lt_or_ge k i with q | q
    · obtain rfl:i=k + 1:=by omega
      exact List.prefix_refl _
    · rw [CZ];exact (ih q).trans (zJ (Nat.zero_le _))
theorem Ik (hi:i < L.length) (hj:j<=L.length):sG n L i j <+: pr n L:=by
  rw [<- Kz]
  refine (zJ hj).trans ?_
  rw [<- CZ]
  exact KF hi
theorem Pk (h:n<=i/\n<=j):(sG n L i (j + 1)).length=(sG n L i j).length:=by rw [uq,zU,if_pos h,List.append_nil]
theorem KE (h:¬ (n<=i/\n<=j)):(sG n L i (j + 1)).length=(sG n L i j).length + (eW L i j).length:=by
  rw [uq,zU,if_neg h,List.length_append,List.length_map]
theorem KB (hi:i < L.length) (hj:j < L.length) (h:¬ (n<=i/\n<=j)) (hk:k < (eW L i j).length) :
    (sG n L i j).length + k < (pr n L).length/\(pr n L).getD ((sG n L i j).length + k) .zero=VM (nm n i) (nm n j) ((eW L i j).getD k .zero):=by
  obtain ⟨t,ht⟩:=Ik (n:=n) (j:=j + 1) hi hj
  rw [uq,zU,if_neg h] at ht
  rw [<- ht]
  refine ⟨by simp only [List.length_append,List.length_map];omega,?_⟩
  rw [List.append_assoc]
  simp only [List.getD_eq_getElem?_getD]
  rw [List.getElem?_append_right O,Nat.add_sub_cancel_left,List.getElem?_append_left (by simpa using hk),List.getElem?_map,List.getElem?_eq_getElem hk]
  rfl
end
end Go.Proofs.YtjppkekmddjcfaaGreatDoor

namespace Go.Proofs.YtjppkekmddjcfaaGreatDoor
open Go Go.RowKit V
set_option maxRecDepth 100000
theorem xc:dx Tryz.prog 121=some false:=by kernel_rfl
theorem LS:Tryz.prog.info? 123=some Tryz.t123:=by kernel_rfl
theorem D6:dh Tryz.prog 47=some [(0,1),(1,1),(2,1),(3,1),(4,1)]:=by kernel_rfl
theorem ng:dp Tryz.prog 123=some 2:=by kernel_rfl
theorem qE:type_of% @Tryz.underlying121:=@Tryz.underlying121
theorem zy:type_of% @Tryz.underlying123:=@Tryz.underlying123
theorem TH:type_of% @Tryz.underlying47:=@Tryz.underlying47
theorem Fg:cD Tryz.prog 123=some (.agg #[.string ⟨⟨[]⟩⟩,.string ⟨⟨[]⟩⟩]):=by kernel_rfl
theorem zG:cD Tryz.prog 47=some (.agg #[.int .i64 0,.int .i64 0,.string ⟨⟨[]⟩⟩,.string ⟨⟨[]⟩⟩,.string ⟨⟨[]⟩⟩]):=by kernel_rfl

theorem Co (x:Nat) (A:AH) (hL:gJ A) (hx:x < 16):bH Tryz.prog 114 #[num ((x:Nat):Int)] A (fun v A1=>v=d8 (cI.getD x 0)/\A=A1):=by
 refine ia Tryz.call114 Tryz.func114 Z Tryz.results114 Tryz.ntmps114 Z (fun wf=>?_);have X:=AH.le.refl A;obtain ⟨rwL,capL,gL⟩:=hL;refine am.seq fun _ h2=>.region<|.q Z (ae Z)<|.nil<|h2 _ _<|.seq fun _ h4=>.seq fun _ h6=>.region<|.q Z (ah Z)<|.q Z (cd (b:=0) Z Z) ?_;refine Ops.q Z (ah Z)<|.part (t:=5) Z (fun p7=>?_) (fun p7=>?_)
 ·refine Ops.off Z Z Z Z<|.off Z Z Z Z<|.q Z (aM Z Z)<|.nil<|h6 _ _<|.cond_true Z<|.seq fun _ h9=>.region<|.q Z (ae Z)<|.nil ?_;refine h9 _ _<|.rt (by exact aJ Z (⟨by (exfalso;omega),Z⟩))
 refine Ops.on Z Z<|.q Z (ah Z)<|.on Z Z<|.q Z (vK (b:=16) Z Z)<|.q Z (aW Z Z)<|.nil<|h6 _ _<|.if rfl (fun V=>?_) (fun V=>?_)
 ·refine am.seq fun _ h=>.region<|.q Z (ae Z)<|.nil<|h _ _<|.rt (by exact aJ Z (⟨by (exfalso;omega),Z⟩))
 refine am.skip<|h4 _ _<|.seq fun _ D=>.region<|.q Z (ah Z)<|.q Z (i4 UW ji Z Z O)<|.q Z (ak Iq Z Z gL (Ml hx))<|.q Z (ae Z)<|.nil<|D _ _ ?_;refine am.ret ?_;repeat first | with_reducible refine bz ?_ | with_reducible refine bi ?_
 exact aJ Z (⟨by rfl,Z⟩)

theorem GV (g:Int) (u:Value) (l:List (List UInt8)) (rv:Value) (rs:List bf) (A:AH) (hg:1<=g/\g<=8) (hn:rs.length<=1000000) (hL:gJ A) (hu:bK A 1 u (d5 l)) (hr:bK A 3 rv (c9 rs)) (hp:Proofs A rs):bH Tryz.prog 76 #[.agg #[num (g),u,rv]] A (fun v A1=>A.le A1/\A1.wf/\Fresh A A1 v 2 (gw (bx g rs))):=by
 refine ia Tryz.call76 Tryz.func76 Z Tryz.results76 Tryz.ntmps76 Z (fun wf=>?_);have bY:=AH.le.refl A;obtain ⟨gn,rfl⟩:∃ n:Nat,g=n:=⟨g.toNat,by omega⟩;refine am.seq fun _ h2=>.region<|.l Z (fun _ _ bU _=>dQ wf rfl rfl fun A5 b4 ar=>?_);have aD:=bY.trans ar.le;refine bU _ _<|.q Z (ae Z)<|.nil<|h2 _ _<|.seq fun _ h9=>.region<|.q Z (ae Z)<|.nil<|h9 _ _<|.seq fun _ bp=>?_;refine am.seq fun _ br=>.region<|.q Z (aj er jJ U Z)<|.q Z (ak jR Z Z ar.get Z)<|.q Z (bF (n:=rs.length) qq Z (hr.le aD) O (dR _))<|.q Z (ah Z)<|.nil<|br _ _<|.block<|.loop (X:=Nat × List (Wd × Wd) × Value) (fun ⟨i,o,s⟩=>[(1,.pointer (some ⟨b4,0,none⟩)),(3,s),(8,rv),(9,num ((rs.length:Nat):Int)),(10,num ((i:Nat):Int))]) (fun ⟨i,o,s⟩ B=>(i<=rs.length/\o=(rs.take i).map (fun r=>(r.left,r.right)))/\A.le B/\Fresh A B s 2 (gw o)/\B.get b4=some (.row true [num ((gn:Nat):Int),u,rv] 3)/\V.blk s ≠ some b4) (fun ⟨i,o,s⟩=>rs.length - i) (⟨0,[],.slice none 0 0⟩) (pZ Z Z Z Z Z) (⟨⟨Nat.zero_le _,by simp⟩,aD,(Fresh.nil A A5 2),ar.get,(fun q=>by cases q)⟩) ?_;rintro ⟨i,o,s⟩ B15 ⟨⟨hi,ho⟩,a6,a3,a1,a2⟩;refine am.wf fun ac=>?_;have hlo:o.length=i:=by rw [ho];simp;omega
 refine am.seq fun _ bu=>.region<|.q Z (cd Z Z)<|.nil<|bu _ _<|.seq fun _ bv=>.if rfl (fun c3=>?_) (fun c3=>?_)
 ·refine am.skip<|bv _ _<|.seq fun _ bA=>.block<|.seq fun _ bB=>.region ?_;obtain ⟨cv,cP,ck,cX,ch,cV,cS,bl,bV,bm,aF,cc⟩:=bK.at (i:=i) (hr.le a6) OI O;refine Ops.q Z (ax qq ij Z bl Z bV)<|.q Z (aq uj ij Z Z bm (aF.trans (congrArg some (iB O))))<|.l Z (fun _ _ aT _=>cg ac Ij rfl fun A29 cA D=>?_);have aa:=ne_new ac a1 D.lo;have bc:=a3.own.ne_new ac D.lo;have ap:=aU wf (Nat.le_trans a6.n D.lo);have bC:=D.le.get _ _ a1;have aG:=a3.le D.le;have b6:=a6.trans D.le;refine aT _ _<|.l Z (fun _ _ aV _=>aQ (cs:=[aX ((rs.getD i .zero).left),aX ((rs.getD i .zero).right),(rs.getD i .zero).pv]) (c':=[aX ((rs.getD i .zero).left),aX ((rs.getD i .zero).right),(rs.getD i .zero).pv]) D.wf rfl rfl rfl rfl ij D.get (Nat.le_of_ble_eq_true rfl) (jE (hp.get O)) rfl fun A36 a0=>?_);have bD:=a0.keep _ _ aa bC;have aI:=aG.keep a0.keep bc;have b7:=an b6 wf ap a0.n a0.keep;refine aV _ _<|.nil<|bB _ _<|.region<|.q Z (ah Z)<|.q Z (aj fz fc U Z)<|.q Z (ak fP Z Z a0.get Z)<|.q Z (aj jY fc U Z)<|.q Z (ak fP Z Z a0.get Z)<|.q Z (cU Z (nw zy Fg fc Z)) ?_;refine Ops.l Z (fun _ _ aY _=>aN (c:=[aX ((rs.getD i .zero).left),aX ((rs.getD i .zero).right)]) a0.wf rfl (aw qE ng Fg rfl U U rfl) fun A43 cC a4=>?_);have aC:=a4.le.get _ _ bD;have ai:=aI.le a4.le;have b8:=b7.trans a4.le;refine aY _ _<|.l Z (fun _ _ aZ _=>cF (ys:=[aX ((rs.getD i .zero).left),aX ((rs.getD i .zero).right)]) rfl rfl qE ng LS Fg rfl U qE (fun _ h=>by cases h) ai.own (bN (n:=1) a4.get Z) rfl rfl (by show (_ + _) * 32<=_;simp only [dC,List.length_cons,List.length_nil];(try simp only [List.length_append,List.length_cons,List.length_nil]);omega) (by simp only [dC,List.length_cons,List.length_nil];(try simp only [List.length_append,List.length_cons,List.length_nil]);omega) fun A51 c7 a5=>?_);rw [show ([aX ((rs.getD i .zero).left),aX ((rs.getD i .zero).right)]:List Value)=gw [((rs.getD i .zero).left,(rs.getD i .zero).right)] from rfl,qM] at a5;obtain ⟨aP,b9⟩:=Fresh.grow ai b8 wf a5;have bL:=a5.keep a2 aC;have bb:=a5.ne a2 a4.wf aC;refine aZ _ _<|.q Z (ae Z)<|.nil<|bA _ _<|.region<|.q Z (bE (b:=1) Z Z O)<|.q Z (ah Z)<|.nil ?_;exact ⟨⟨i + 1,o ++ [((rs.getD i .zero).left,(rs.getD i .zero).right)],c7⟩,pZ Z Z Z Z Z,Z,⟨⟨by omega,by rw [ho];exact Ew O⟩,b9,aP,bL,bb⟩,O1⟩
 refine am.exit<|bp _ _<|.seq fun _ bM=>.seq fun _ bO=>.region<|.q Z (aj fY gz U Z)<|.q Z (aj fW c5 U Z)<|.q Z (ak eM Z Z a1 Z)<|.q Z (px (a:=2) Z Z O)<|.q Z (ah Z) ?_;refine Ops.nil<|bO _ _<|.block<|.loop (X:=Nat × List (Wd × Wd) × Value) (fun ⟨x,o,s⟩=>[(3,s),(26,num ((2 * gn:Nat):Int)),(27,num ((x:Nat):Int))]) (fun ⟨x,o,s⟩ B=>(x<=2 * gn/\o=rs.map (fun r=>(r.left,r.right)) ++ (List.range x).map (fun x=>(Vi x,[])))/\A.le B/\Fresh A B s 2 (gw o)) (fun ⟨x,o,s⟩=>2 * gn - x) (⟨0,rs.map (fun r=>(r.left,r.right)),s⟩) (jQ Z Z Z) (⟨⟨Nat.zero_le _,by simp⟩,a6,(cw a3 (congrArg gw ((by rw [ho,List.take_of_length_le O]))))⟩) ?_;rintro ⟨x,o,s⟩ B67 ⟨⟨hx,ho⟩,a7,a9⟩;refine am.wf fun av=>?_;have hlo:o.length=rs.length + x:=by rw [ho];simp
 refine am.seq fun _ bP=>.region<|.q Z (cd Z Z)<|.nil<|bP _ _<|.seq fun _ bR=>.if rfl (fun c4=>?_) (fun c4=>?_)
 ·refine am.skip<|bR _ _<|.seq fun _ bS=>.block<|.seq fun _ bT=>.region<|.q Z (ah Z)<|.q Z (ae Z)<|.nil<|bT _ _ ?_;refine am.region<|.q Z (ah Z)<|.q Z (ah Z)<|.l Z (fun _ _ b0 _=>au Z (Co x B67 (hL.le a7) O) ?_);rintro cZ A80 ⟨rfl,rfl⟩;refine b0 _ _<|.q Z (ah Z)<|.q Z (UF Z Z O)<|.l Z (fun _ _ b1 _=>au Z (Co (x ^^^ 1) B67 (hL.le a7) (by exact RQ O)) ?_);rintro d0 A84 ⟨rfl,rfl⟩;refine b1 _ _<|.l Z (fun _ _ b2 _=>aN (c:=[d8 (cI.getD x 0),d8 (cI.getD (x ^^^ 1) 0)]) av rfl (aw cy ji z5 rfl U U rfl) fun A88 cH a8=>?_);have aR:=a9.le a8.le;have ba:=a7.trans a8.le;refine b2 _ _<|.l Z (fun _ _ b3 _=>dT (s:=[cI.getD x 0,cI.getD (x ^^^ 1) 0]) Z cy u9 u5 (eB (n:=2) a8.get Z (Nat.le_refl _)) ?_);refine b3 _ _<|.q Z (cU Z (nw zy Fg fc Z))<|.l Z (fun _ _ b5 _=>aN (c:=[aX ([cI.getD x 0,cI.getD (x ^^^ 1) 0]),aX ([])]) a8.wf rfl (aw qE ng Fg rfl U U rfl) fun A96 cK ab=>?_);have ag:=aR.le ab.le;have aA:=ba.trans ab.le;refine b5 _ _<|.l Z (fun _ _ az _=>cF (ys:=[aX ([cI.getD x 0,cI.getD (x ^^^ 1) 0]),aX ([])]) rfl rfl qE ng LS Fg rfl U qE (fun _ h=>by cases h) ag.own (bN (n:=1) ab.get Z) rfl rfl (by show (_ + _) * 32<=_;simp only [dC,List.length_cons,List.length_nil];(try simp only [List.length_append,List.length_cons,List.length_nil]);omega) (by simp only [dC,List.length_cons,List.length_nil];(try simp only [List.length_append,List.length_cons,List.length_nil]);omega) fun A103 bd ad=>?_);rw [show ([aX ([cI.getD x 0,cI.getD (x ^^^ 1) 0]),aX ([])]:List Value)=gw [([cI.getD x 0,cI.getD (x ^^^ 1) 0],[])] from rfl,qM] at ad;obtain ⟨ay,aB⟩:=Fresh.grow ag aA wf ad;refine az _ _<|.q Z (ae Z)<|.nil<|bS _ _<|.region<|.q Z (bE (b:=1) Z Z O)<|.q Z (ah Z)<|.nil ?_;exact ⟨⟨x + 1,o ++ [([cI.getD x 0,cI.getD (x ^^^ 1) 0],[])],bd⟩,jQ Z Z Z,Z,⟨⟨by omega,by rw [ho,List.range_succ,List.map_append,List.append_assoc];rfl⟩,aB,(cw ay (congrArg gw ((by rfl))))⟩,O1⟩
 refine am.exit<|bM _ _<|.seq fun _ aS=>.region<|.q Z (ah Z)<|.q Z (ae Z)<|.nil<|aS _ _<|.rt (by exact aJ Z (⟨a7,av,cw a9 (congrArg gw (by rw [ho,show x=2 * gn by omega];rfl))⟩))

theorem uM (g:Int) (u:Value) (l:List (List UInt8)) (rv:Value) (rs:List bf) (i:Nat) (A:AH) (hi:i<=1000000000) (hn:rs.length<=1000000) (hu:bK A 1 u (d5 l)) (hr:bK A 3 rv (c9 rs)):bH Tryz.prog 166 #[.agg #[num (g),u,rv],num ((i:Nat):Int)] A (fun v A1=>v=num (nm rs.length i)/\A.le A1/\A1.wf):=by
 refine jP Tryz.call166 Tryz.func166 Z Tryz.results166 Tryz.ntmps166 Z (fun wf=>?_);have a2:=AH.le.refl A;refine am.seq fun _ h2=>.region<|.l Z (fun _ _ a1 _=>dQ wf rfl rfl fun A5 b4 h=>?_);have D:=a2.trans h.le;refine a1 _ _<|.q Z (ae Z)<|.nil<|h2 _ _<|.seq fun _ h9=>.seq fun _ V=>.region<|.q Z (ah Z)<|.q Z (aj er jJ U Z)<|.q Z (ak jR Z Z h.get Z) ?_;refine Ops.q Z (bF (n:=rs.length) qq Z (hr.le D) O (dR _))<|.q Z (cd Z Z)<|.nil<|V _ _<|.if rfl (fun a3=>?_) (fun a3=>?_)
 ·refine am.seq fun _ X=>.region<|.q Z (ah Z)<|.q Z (ae Z)<|.nil<|X _ _<|.rt (by exact aJ Z (⟨by (rw [nm,if_pos ‹_›];rfl),D,h.wf⟩))
 refine am.skip<|h9 _ _<|.seq fun _ a0=>.region<|.q Z (ah Z)<|.q Z (aj er jJ U Z)<|.q Z (ak jR Z Z h.get Z)<|.q Z (bF (n:=rs.length) qq Z (hr.le D) O (dR _))<|.q Z (un Z Z O)<|.q Z (un Z Z O) ?_;refine Ops.q Z (ae Z)<|.nil<|a0 _ _<|.rt (by exact aJ Z (⟨by (rw [nm,if_neg ‹_›];rfl),D,h.wf⟩))

theorem yd (lv:Value) (S:List (Wd × Wd)) (i j:Nat) (A:AH) (hs:bK A 2 lv (gw S)):bH Tryz.prog 165 #[lv,num ((i:Nat):Int),num ((j:Nat):Int)] A (fun v A1=>∃ b1 b2 b3,v=.func (.func 192) #[] #[.pointer (some ⟨b1,0,none⟩),.pointer (some ⟨b2,0,none⟩),.pointer (some ⟨b3,0,none⟩)]/\A.le A1/\A1.wf/\A1.get b1=some (.row true [lv] 1)/\A1.get b2=some (.row true [num (i:Int)] 1)/\A1.get b3=some (.row true [num (j:Int)] 1)/\A.n<=b1/\A.n<=b2/\A.n<=b3):=by
 refine wQ Tryz.call165 Tryz.func165 Z Tryz.results165 Tryz.ntmps165 Z (fun wf=>?_);have a0:=AH.le.refl A;refine am.seq fun _ h2=>.region ?_;obtain ⟨p7,l7,c7,q7,_⟩:=(hs.le a0);subst q7;refine Ops.l Z (fun _ _ ad _=>dQ wf rfl rfl fun A5 b4 V=>?_);have a3:=Nat.le_trans a0.n V.lo;have a4:=a0.trans V.le;refine ad _ _<|.l Z (fun _ _ ag _=>dQ V.wf rfl rfl fun A11 a7 D=>?_);have a1:=Nat.le_trans a4.n D.lo;have a9:=D.le.get _ _ V.get;have X:=a4.trans D.le;refine ag _ _<|.l Z (fun _ _ a5 _=>dQ D.wf rfl rfl fun A17 a8 h=>?_);have a2:=Nat.le_trans X.n h.lo;have aa:=h.le.get _ _ a9;have ab:=h.le.get _ _ D.get;have a6:=X.trans h.le;refine a5 _ _<|.q Z (ae Z)<|.nil<|h2 _ _<|.seq fun _ ac=>.region<|.q Z (ml Z Z)<|.q Z (ae Z)<|.nil<|ac _ _ ?_;refine am.ret ?_;repeat first | with_reducible refine bz ?_ | with_reducible refine bi ?_
 exact aJ Z (⟨b4,a7,a8,Z,a6,h.wf,aa,ab,h.get,a3,a1,a2⟩)

theorem wg (bo lp:Nat) (J:Nat->AH->Prop) (i j:Nat) (S:List (Wd × Wd)) (lv:Value) (M A:AH) (ba bb bc k1 k2 k3:Nat) (w1 w2 w3:Bool) (hP:cx bo M A) (bu:J 0 A) (a0:M.get ba=some (.row w1 [lv] k1)) (a1:M.get bb=some (.row w2 [num (i:Int)] k2)) (a2:M.get bc=some (.row w3 [num (j:Int)] k3)) (hs:bK M 2 lv (gw S)) (hi:i < S.length) (hj:j < S.length) (hne:∀ s ∈ S,0 < s.1.length/\s.1.length<=100000/\s.2.length<=100000) (hy:∀ k C M2,k < (qX (i:Int) (j:Int) (decide (i=j)) (S.getD i ([],[])) (S.getD j ([],[]))).length->C.wf->J k C->cx bo M2 C->lr Tryz.prog lp #[PQ ((qX (i:Int) (j:Int) (decide (i=j)) (S.getD i ([],[])) (S.getD j ([],[]))).getD k .zero)] C (fun v C2=>v=.bool true/\J (k + 1) C2/\C2.wf/\cx bo M2 C2)):bH Tryz.prog 192 #[.func (.yield lp) #[] #[],.pointer (some ⟨ba,0,none⟩),.pointer (some ⟨bb,0,none⟩),.pointer (some ⟨bc,0,none⟩)] A (fun v A1=>J (qX (i:Int) (j:Int) (decide (i=j)) (S.getD i ([],[])) (S.getD j ([],[]))).length A1/\A1.wf/\cx bo M A1):=by
 refine VH Tryz.call192 Tryz.func192 Z Tryz.results192 Tryz.ntmps192 Z (fun wf=>?_);have V:=hP.le;have dd:=hne _ (bw (d:=(([],[]):Wd × Wd)) hi);have di:=hne _ (bw (d:=(([],[]):Wd × Wd)) hj);refine am.seq fun _ h2=>.drawn [0,1,2,3,4,5,6,7,8,9,10,11] mixed Y Y Z<|.q Z Z Z (ak xc Z Z (V.get _ _ a0) Z)<|.q Z Z Z (ak eM Z Z (V.get _ _ a1) Z) ?_;obtain ⟨b3,f3,dS,r3,dM,n3,k3,e3,l3,g3,cX,aS⟩:=bK.at (i:=i) (hs.le V) ON O;refine bj.q Z Z Z (ax qE ng Z e3 Z l3)<|.q Z Z Z (i4 (i:=0) zy fc Z Z U)<|.q Z Z Z (ak fP Z Z g3 ((aS 0 U).trans (yh O)))<|.q Z Z Z (ak xc Z Z (V.get _ _ a0) Z)<|.q Z Z Z (ak eM Z Z (V.get _ _ a2) Z) ?_;obtain ⟨b4,f4,dV,r4,dO,n4,k4,e4,l4,g4,cZ,aT⟩:=bK.at (i:=j) (hs.le V) ON O;refine bj.q Z Z Z (ax qE ng Z e4 Z l4)<|.q Z Z Z (i4 (i:=0) zy fc Z Z U)<|.q Z Z Z (ak fP Z Z g4 ((aT 0 U).trans (yh O)))<|.q Z Z Z (ae Z)<|.q Z Z Z (ae Z)<|.done<|h2 _ _<|.seq fun _ h6=>.seq fun _ h8=>.region ?_;refine Ops.q Z (ae Z)<|.nil<|h8 _ _<|.block<|.loop (X:=Nat) (fun k=>[(0,.func (.yield lp) #[] #[]),(1,.pointer (some ⟨ba,0,none⟩)),(2,.pointer (some ⟨bb,0,none⟩)),(3,.pointer (some ⟨bc,0,none⟩)),(5,aX ((S.getD i ([],[])).1)),(6,aX ((S.getD j ([],[])).1)),(7,num ((k:Nat):Int))]) (fun k B=>(1<=k/\k<=(S.getD i ([],[])).1.length)/\M.le B/\(J (tX (i:Int) (j:Int) (S.getD i ([],[])) (S.getD j ([],[])) k).length B/\cx bo M B)) (fun k=>(S.getD i ([],[])).1.length - k) 1 (FJ Z Z Z Z Z Z Z) (⟨⟨Nat.le_refl _,by omega⟩,V,⟨(by rw [Jr];exact bu),hP⟩⟩) ?_;rintro k B10 ⟨⟨bv,ag⟩,D,hJk,hPk⟩;refine am.wf fun aR=>.seq fun _ b7=>.seq fun _ b8=>.region<|.q Z (ah Z)<|.q Z (ah Z)<|.q Z (cB u9 Z)<|.q Z (cd Z Z)<|.nil<|b8 _ _ ?_;refine am.if rfl (fun bL=>?_) (fun bL=>?_)
 ·refine am.skip<|b7 _ _<|.seq fun _ a4=>.block<|.seq fun _ b9=>.region<|.q Z (ah Z)<|.q Z (cB u9 Z)<|.q Z (ah Z)<|.q Z (fJ Z Z O) ?_;refine Ops.q Z (ae Z)<|.nil<|b9 _ _<|.seq fun _ ab=>.drawn [0,1,2,3,4,5,6,7,8,9,10,11,12] mixed Y Y Z<|.q Z Z Z (ah Z)<|.q Z Z Z (ah Z)<|.q Z Z Z (cB u9 Z)<|.q Z Z Z (cd Z Z)<|.q Z Z Z (ah Z) ?_;refine bj.part (t:=34) Z (fun bM=>?_) (fun bM=>?_)
  ·refine bj.qOn Z Z Z Z Z (ah Z)<|.qOn Z Z Z Z Z (ah Z)<|.qOn Z Z Z Z Z (BJ u9 Z Z O)<|.qOn Z Z Z Z Z (ah Z)<|.qOn Z Z Z Z Z (ah Z)<|.qOn Z Z Z Z Z (Gw u9 Z Z O)<|.qOn Z Z Z Z Z (mn Z Z)<|.q Z Z Z (aM Z Z)<|.done<|ab _ _ ?_;refine am.if rfl (fun bO=>?_) (fun bO=>?_)
   ·refine am.seq fun _ bd=>?_;have a9:=Qz (I:=i) (J:=j) (same:=decide (i=j)) (a:=(S.getD i ([],[]))) (b:=(S.getD j ([],[]))) (n:=k) O O O ‹_›;have a7:=hy _ B10 M a9.1 aR hJk hPk;rw [a9.2.1] at a7;refine am.drawnYield [0,1,2,3,4,5,6,7,8,9,10,11,12,13,14,15,16,17,18,19,20,21,22,23,24,25,26,27,28] 27 28 rfl Z Z Z Y Y Z mixed Y Y Z (a7)<|.q Z Z Z (ah Z)<|.q Z Z Z (ak eM Z Z (D.get _ _ a1) Z)<|.q Z Z Z (ak eM Z Z (D.get _ _ a2) Z)<|.q Z Z Z (ah Z)<|.q Z Z Z (ah Z)<|.q Z Z Z (ah Z)<|.q Z Z Z (BJ u9 Z Z O)<|.q Z Z Z (qI Z Z Oj)<|.q Z Z Z (ak xc Z Z (D.get _ _ a0) Z) ?_;refine bj.q Z Z Z (ak eM Z Z (D.get _ _ a1) Z) ?_;obtain ⟨cK,d0,ch,dI,c3,dv,dj,aV,bA,b1,bT,ai⟩:=bK.at (i:=i) (hs.le D) ON O;refine bj.q Z Z Z (ax qE ng Z aV Z bA)<|.q Z Z Z (i4 (i:=1) zy fc Z Z U)<|.q Z Z Z (ak fP Z Z b1 ((ai 1 U).trans (qo O)))<|.q Z Z Z (ah Z)<|.q Z Z Z (ah Z)<|.q Z Z Z (BJ u9 Z Z O)<|.q Z Z Z (qI Z Z Oj)<|.q Z Z Z (ah Z)<|.q Z Z Z (ah Z)<|.q Z Z Z (Gw u9 Z Z O) ?_;refine bj.q Z Z Z (ak xc Z Z (D.get _ _ a0) Z)<|.q Z Z Z (ak eM Z Z (D.get _ _ a2) Z) ?_;obtain ⟨cP,d1,ck,dJ,c4,dw,dk,aY,bB,b2,bU,ap⟩:=bK.at (i:=j) (hs.le D) ON O;refine bj.q Z Z Z (ax qE ng Z aY Z bB)<|.q Z Z Z (i4 (i:=1) zy fc Z Z U)<|.q Z Z Z (ak fP Z Z b2 ((ap 1 U).trans (qo O)))<|.q Z Z Z (qI Z Z Oj)<|.q Z Z Z (cU Z (bn TH zG D6 Z))<|.q Z Z Z (ah Z)<|.q Z Z Z (ah Z)<|.done ?_;refine ⟨rfl,rfl,rfl,rfl,fun dW A30 aF=>?_⟩;obtain ⟨ay,aA,cC,a5⟩:=aF;refine ⟨ay,?_⟩;have aI:=a5.le;have aC:J (tX (i:Int) (j:Int) (S.getD i ([],[])) (S.getD j ([],[])) (k + 1)).length A30:=by rw [a9.2.2];exact aA
    refine bd _ _<|.cond_false Z<|.skip<|a4 _ _<|.region<|.q Z (ah Z)<|.q Z (bE (b:=1) Z Z O)<|.q Z (ae Z)<|.nil ?_;exact ⟨k + 1,FJ Z Z Z Z Z Z Z,Z,⟨⟨by omega,by omega⟩,aI,⟨aC,a5⟩⟩,O1⟩
   refine am.skip<|a4 _ _<|.region<|.q Z (ah Z)<|.q Z (bE (b:=1) Z Z O)<|.q Z (ae Z)<|.nil ?_;exact ⟨k + 1,FJ Z Z Z Z Z Z Z,Z,⟨⟨by omega,by omega⟩,D,⟨(by rw [D5 (fun q=>by exact absurd q.2.2 ‹_›)];exact hJk),hPk⟩⟩,O1⟩
  refine bj.qOff Z Z Z Z Z Z<|.qOff Z Z Z Z Z Z<|.qOff Z Z Z Z Z Z<|.qOff Z Z Z Z Z Z<|.qOff Z Z Z Z Z Z<|.qOff Z Z Z Z Z Z<|.qOff Z Z Z Z Z Z<|.q Z Z Z (aW Z Z)<|.done<|ab _ _ ?_;refine am.cond_false Z<|.skip<|a4 _ _<|.region<|.q Z (ah Z)<|.q Z (bE (b:=1) Z Z O)<|.q Z (ae Z)<|.nil ?_;exact ⟨k + 1,FJ Z Z Z Z Z Z Z,Z,⟨⟨by omega,by omega⟩,D,⟨(by rw [D5 (fun q=>by exact absurd q.2.1 ‹_›)];exact hJk),hPk⟩⟩,O1⟩
 refine am.exit<|h6 _ _<|.seq fun _ bl=>.region<|.q Z (ae Z)<|.nil<|bl _ _<|.block<|.loop (X:=Nat) (fun k=>[(0,.func (.yield lp) #[] #[]),(1,.pointer (some ⟨ba,0,none⟩)),(2,.pointer (some ⟨bb,0,none⟩)),(3,.pointer (some ⟨bc,0,none⟩)),(5,aX ((S.getD i ([],[])).1)),(6,aX ((S.getD j ([],[])).1)),(9,num ((k:Nat):Int))]) (fun k B=>(k<=(S.getD i ([],[])).1.length + 1/\(i=j->k=0))/\M.le B/\(J ((tX (i:Int) (j:Int) (S.getD i ([],[])) (S.getD j ([],[])) (S.getD i ([],[])).1.length).length + (wT (i:Int) (j:Int) (S.getD i ([],[])) (S.getD j ([],[])) k).length) B/\cx bo M B)) (fun k=>(S.getD i ([],[])).1.length + 1 - k) 0 (FJ Z Z Z Z Z Z Z) (⟨⟨Nat.zero_le _,fun _=>rfl⟩,D,⟨(by rw [show k=(S.getD i ([],[])).1.length by omega] at hJk;exact hJk),hPk⟩⟩) ?_;rintro k B38 ⟨⟨bv,ag⟩,h,hJk,hPk⟩;refine am.wf fun a3=>.seq fun _ bm=>.seq fun _ ac=>.region<|.q Z (ak eM Z Z (h.get _ _ a1) Z)<|.q Z (ak eM Z Z (h.get _ _ a2) Z)<|.q Z (fh Z Z)<|.q Z (ah Z)<|.part (t:=75) Z (fun bP=>?_) (fun bP=>?_)
 ·refine Ops.on Z Z<|.q Z (ah Z)<|.on Z Z<|.q Z (ah Z)<|.on Z Z<|.q Z (cB u9 Z)<|.on Z Z<|.q Z (bE Z Z O)<|.on Z Z<|.q Z (ah Z) ?_;refine Ops.on Z Z<|.q Z (cB u9 Z)<|.on Z Z<|.q Z (qH Z Z)<|.q Z (aM Z Z)<|.nil<|ac _ _<|.if rfl (fun bR=>?_) (fun bR=>?_)
  ·refine am.skip<|bm _ _<|.seq fun _ ad=>.block<|.seq fun _ bp=>.region<|.q Z (ah Z)<|.q Z (ah Z)<|.q Z (ah Z)<|.q Z (ah Z) ?_;refine Ops.q Z (cB u9 Z)<|.q Z (bE Z Z O)<|.q Z (VL u9 Z Z Z O)<|.q Z (ah Z)<|.q Z (mn Z Z)<|.nil<|bp _ _<|.if rfl (fun bS=>?_) (fun bS=>?_)
   ·refine am.seq fun _ br=>?_;have aa:=P4 (I:=i) (J:=j) (same:=decide (i=j)) (a:=(S.getD i ([],[]))) (b:=(S.getD j ([],[]))) (n:=k) (decide_eq_false ‹_›) O ‹_›;have a8:=hy _ B38 M aa.1 a3 hJk hPk;rw [aa.2.1] at a8;refine am.drawnYield [0,1,2,3,4,5,6,7,8,9,10,11,12,13,14,15,16,17,18,19,20,21,22,23,24,25,26,27] 26 27 rfl Z Z Z Y Y Z mixed Y Y Z (a8)<|.q Z Z Z (ah Z)<|.q Z Z Z (ak eM Z Z (h.get _ _ a1) Z)<|.q Z Z Z (ak eM Z Z (h.get _ _ a2) Z)<|.q Z Z Z (ah Z)<|.q Z Z Z (ak xc Z Z (h.get _ _ a0) Z)<|.q Z Z Z (ak eM Z Z (h.get _ _ a1) Z) ?_;obtain ⟨cS,d2,cv,dK,c7,dz,dl,aZ,bC,b5,bV,ar⟩:=bK.at (i:=i) (hs.le h) ON O;refine bj.q Z Z Z (ax qE ng Z aZ Z bC)<|.q Z Z Z (i4 (i:=1) zy fc Z Z U)<|.q Z Z Z (ak fP Z Z b5 ((ar 1 U).trans (qo O)))<|.q Z Z Z (ah Z)<|.q Z Z Z (ah Z)<|.q Z Z Z (Gw u9 Z Z O)<|.q Z Z Z (ak xc Z Z (h.get _ _ a0) Z)<|.q Z Z Z (ak eM Z Z (h.get _ _ a2) Z) ?_;obtain ⟨cV,d3,cA,dL,cc,dD,dm,b0,bD,b6,bY,av⟩:=bK.at (i:=j) (hs.le h) ON O;refine bj.q Z Z Z (ax qE ng Z b0 Z bD)<|.q Z Z Z (i4 (i:=1) zy fc Z Z U)<|.q Z Z Z (ak fP Z Z b6 ((av 1 U).trans (qo O)))<|.q Z Z Z (qI Z Z Oj)<|.q Z Z Z (ah Z)<|.q Z Z Z (ah Z)<|.q Z Z Z (ah Z)<|.q Z Z Z (cB u9 Z)<|.q Z Z Z (bE Z Z O)<|.q Z Z Z (BJ u9 Z Z O) ?_;refine bj.q Z Z Z (qI Z Z Oj)<|.q Z Z Z (cU Z (bn TH zG D6 Z))<|.q Z Z Z (ah Z)<|.q Z Z Z (ah Z)<|.done ?_;refine ⟨rfl,rfl,rfl,rfl,fun dZ A56 aG=>?_⟩;obtain ⟨az,aB,cH,a6⟩:=aG;refine ⟨az,?_⟩;have aP:=a6.le;have aD:J ((tX (i:Int) (j:Int) (S.getD i ([],[])) (S.getD j ([],[])) (S.getD i ([],[])).1.length).length + (wT (i:Int) (j:Int) (S.getD i ([],[])) (S.getD j ([],[])) (k + 1)).length) A56:=by rw [aa.2.2];exact aB
    refine br _ _<|.cond_false Z<|.skip<|ad _ _<|.region<|.q Z (ah Z)<|.q Z (bE (b:=1) Z Z O)<|.q Z (ae Z)<|.nil ?_;exact ⟨k + 1,FJ Z Z Z Z Z Z Z,Z,⟨⟨by omega,fun q=>absurd q ‹_›⟩,aP,⟨aD,a6⟩⟩,O1⟩
   refine am.skip<|ad _ _<|.region<|.q Z (ah Z)<|.q Z (bE (b:=1) Z Z O)<|.q Z (ae Z)<|.nil ?_;exact ⟨k + 1,FJ Z Z Z Z Z Z Z,Z,⟨⟨by omega,fun q=>absurd q ‹_›⟩,h,⟨(by rw [SG ‹_›];exact hJk),hPk⟩⟩,O1⟩
  refine am.exit ?_;repeat first | with_reducible refine bz ?_ | with_reducible refine bi ?_
  repeat first | with_reducible refine fb ?_ | with_reducible refine eo ?_ | with_reducible refine dY U ?_ | with_reducible refine d4 ?_ | with_reducible refine dn ?_
  exact xQ (vs:=[]) Z (⟨by (rw [KR (decide_eq_false ‹_›) O O];exact hJk),a3,hPk⟩)
 refine Ops.off Z Z Z Z<|.off Z Z Z Z<|.off Z Z Z Z<|.off Z Z Z Z<|.off Z Z Z Z<|.off Z Z Z Z<|.off Z Z Z Z<|.q Z (aW Z Z)<|.nil<|ac _ _ ?_;refine am.cond_false Z<|.exit ?_;repeat first | with_reducible refine bz ?_ | with_reducible refine bi ?_
 repeat first | with_reducible refine fb ?_ | with_reducible refine eo ?_ | with_reducible refine dY U ?_ | with_reducible refine d4 ?_ | with_reducible refine dn ?_
 exact xQ (vs:=[]) Z (⟨by (rw [Iw (decide_eq_true (Decidable.not_not.1 ‹_›))];rw [ag (Decidable.not_not.1 ‹_›)] at hJk;exact hJk),a3,hPk⟩)
end Go.Proofs.YtjppkekmddjcfaaGreatDoor
