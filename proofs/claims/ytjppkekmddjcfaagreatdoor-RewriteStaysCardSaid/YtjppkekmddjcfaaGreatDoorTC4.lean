import Derived.Test.YtjppkekmddjcfaaGreatDoorTC3
import Derived.Test.YtjppkekmddjcfaaGreatDoorTC2
set_option linter.unusedSectionVars false
set_option linter.unusedVariables false
set_option linter.unusedSimpArgs false
namespace Go.Proofs.YtjppkekmddjcfaaGreatDoor
open Go Go.RowKit V
set_option maxRecDepth 100000
theorem jM:dF Tryz.prog 102=some false:=by kernel_rfl
theorem Jc:dF Tryz.prog 143=some false:=by kernel_rfl
theorem ig:eb Tryz.prog 145 0=some (102,0):=by kernel_rfl
theorem iU:eb Tryz.prog 147 0=some (145,0):=by kernel_rfl
theorem DT:eb Tryz.prog 147 1=some (27,1):=by kernel_rfl
theorem xi:eb Tryz.prog 147 2=some (143,4):=by kernel_rfl
theorem ki:eb Tryz.prog 147 3=some (102,5):=by kernel_rfl
theorem s7:eb Tryz.prog 147 4=some (3,6):=by kernel_rfl
theorem kj:eb Tryz.prog 147 5=some (37,7):=by kernel_rfl
theorem Eb:dq Tryz.prog 149=some []:=by kernel_rfl
theorem f8:du Tryz.prog 102=some 1:=by kernel_rfl
theorem Mj:du Tryz.prog 143=some 1:=by kernel_rfl
theorem ni:du Tryz.prog 145=some 1:=by kernel_rfl
theorem Mo:type_of% @Tryz.underlying143:=@Tryz.underlying143
theorem Aq:type_of% @Tryz.underlying149:=@Tryz.underlying149
theorem er:type_of% @Tryz.underlying67:=@Tryz.underlying67
theorem ML:cO Tryz.prog 149=some (.agg #[]):=by kernel_rfl
theorem I0:cO Tryz.prog 67=some (.slice none 0 0):=by kernel_rfl

theorem PH (b:Nat) (kv x1 x2 x3 x4 x5 x6 x7 x8 x9:Value) (k w:List UInt8) (rw:Bool) (cap:Nat) (A:AH) (X:k.length<=1000000) (hw:w.length<=1000000) (hb:A.get b=some (.row rw [kv,x1,x2,x3,x4,x5,x6,x7,x8,x9] cap)) (hk:bJ A 1 kv (aw k)):bG Tryz.prog 179 #[.pointer (some ⟨b,0,none⟩),aX (w)] A (fun v A1=>v=.bool (iI k w)/\A=A1):=by
 refine lN Tryz.call179 Tryz.func179 Z Tryz.results179 Tryz.ntmps179 Z (fun wf=>?_);have h:=AH.le.refl A;refine ao.seq fun _ h2=>.region<|.q Z (ah Z)<|.nil<|h2 _ _<|.seq fun _ h4=>.region<|.q Z (ae Z)<|.q Z (c8 Z)<|.q Z (aj ig f8 U Z) ?_;refine Ops.q Z (ak jM Z Z (h.get _ _ hb) Z)<|.q Z (bH (n:=k.length) eo Z (hk.le h) O (fJ _))<|.q Z (ae Z)<|.q Z (d6 u9 Z)<|.q Z (Ia Z Z O)<|.q Z (ah Z)<|.nil<|h4 _ _<|.seq fun _ h6=>.region ?_;refine Ops.q Z (ae Z)<|.q Z (pz Z Z)<|.q Z (ae Z)<|.part (t:=16) Z (fun p7=>?_) (fun p7=>?_)
 ·refine Ops.on Z Z<|.q Z (ae Z)<|.on Z Z<|.q Z (c8 Z)<|.on Z Z<|.q Z (aj ig f8 U Z)<|.on Z Z<|.q Z (ak jM Z Z (h.get _ _ hb) Z)<|.on Z Z<|.q Z (ae Z) ?_;refine Ops.on Z Z ?_;have D:=bJ.lo (j:=(((k.length:Nat):Int) - ((w.length:Nat):Int)).toNat) (hk.le h) U Oz;rw [Nat.mul_one,tH] at D;refine Ops.q Z (KR eo nI Z (hk.le h) (jr O) U Oz)<|.on Z Z<|.l Z (fun _ _ V _=>gU (s:=k.drop ((((k.length:Nat):Int) - ((w.length:Nat):Int)).toNat)) Z eo u9 u5 D ?_);refine V _ _<|.on Z Z<|.q Z (ae Z)<|.on Z Z<|.q Z (qQ Z Z)<|.q Z (bi Z Z)<|.q Z (ah Z)<|.nil<|h6 _ _<|.rt (by exact be Z (⟨by (rw [Jv ‹_›];rfl),Z⟩))
 refine Ops.off Z Z Z Z<|.off Z Z Z Z<|.off Z Z Z Z<|.off Z Z Z Z<|.off Z Z Z Z<|.off Z Z Z Z<|.off Z Z Z Z<|.off Z Z Z Z<|.off Z Z Z Z<|.q Z (bw Z Z) ?_;refine Ops.q Z (ah Z)<|.nil<|h6 _ _<|.rt (by exact be Z (⟨by (rw [Jw ‹_›];rfl),Z⟩))

theorem EM (n:Nat) (k:List UInt8) (b:Nat) (kv x1 x2 x3 x4 x5 x6 x7 x8 x9:Value) (A0 A:AH) (a2:A0.le A) (a4:A0.wf) (hb:A.get b=some (.row true [kv,x1,x2,x3,x4,x5,x6,x7,x8,x9] 10)) (a3:A0.get b=none) (fr:Fresh A0 A kv 1 (aw k)) (V:blk kv ≠ some b) (hn:0 < n/\n<=k.length/\k.length<=1000000):bG Tryz.prog 140 #[.pointer (some ⟨b,0,none⟩),num ((n:Nat):Int)] A (fun v A1=>∃ kv2,v=.tuple #[]/\A0.le A1/\A1.wf/\A1.get b=some (.row true [kv2,x1,x2,x3,x4,x5,x6,x7,x8,x9] 10)/\Fresh A0 A1 kv2 1 (aw (k.take (k.length - n)))/\blk kv2 ≠ some b):=by
 refine lN Tryz.call140 Tryz.func140 Z Tryz.results140 Tryz.ntmps140 Z (fun wf=>?_);refine ao.drawn [0,1,2,3,4,5,6,7,8,9,10,11,12,13,14,15] mixed Y Y Z<|.q Z Z Z (ae Z)<|.q Z Z Z (ae Z)<|.q Z Z Z (c8 Z)<|.q Z Z Z (aj ig f8 U Z)<|.q Z Z Z (ak jM Z Z hb Z)<|.q Z Z Z (ae Z)<|.q Z Z Z (c8 Z)<|.q Z Z Z (aj ig f8 U Z)<|.q Z Z Z (ak jM Z Z hb Z) ?_;refine bj.q Z Z Z (bH (n:=k.length) eo Z fr.slc O (fJ _))<|.q Z Z Z (ae Z)<|.q Z Z Z (jc Z Z O) ?_;obtain ⟨b3,n3,c3,q3,m3,d3⟩:=fr.nonnil (by intro q;have:=congrArg List.length q;simp only [bn,List.length_nil] at this;omega);subst q3;rw [bn,Nat.mul_one] at m3;have D:=fr.take (k:=k.length - n) O;rw [Nat.mul_one,mF] at D;refine bj.q Z Z Z (ou eo nI Z Z O)<|.q Z Z Z (c8 Z)<|.q Z Z Z (aj ig f8 U Z)<|.l Z Z Z (fun _ _ a1 _=>aM (cs:=[.slice (some ⟨b3,0,none⟩) (k.length - n) c3]) (c':=[.slice (some ⟨b3,0,none⟩) (k.length - n) c3,x1,x2,x3,x4,x5,x6,x7,x8,x9]) wf rfl rfl rfl rfl f8 hb (Nat.le_of_ble_eq_true rfl) rfl rfl fun A6 h=>?_);have a0:=D.keep h.keep V;have X:=al a2 a4 a3 h.n h.keep;refine a1 _ _ (aO.none Y)<|.done ?_;repeat first | with_reducible refine bE ?_ | with_reducible refine bk ?_
 repeat first | with_reducible refine fa ?_ | with_reducible refine ep ?_ | with_reducible refine dX U ?_ | with_reducible refine dY ?_ | with_reducible refine dt ?_
 exact wn (vs:=[]) Z (⟨_,Z,X,h.wf,h.get,a0,V⟩)

theorem PD (b:Nat) (kv:Value) (g:Int) (u rv:Value) (mb:Nat) (qv:Value) (x6 x7 x8 x9:Value) (rs:List au) (k:List UInt8) (rw:Bool) (cap:Nat) (A:AH) (b7:0 < k.length/\k.length<=1000000/\rs.length<=1000000) (V:∀ r ∈ rs,0 < r.left.length/\r.left.length<=1000000) (hb:A.get b=some (.row rw [kv,num g,u,rv,.map (some mb),qv,x6,x7,x8,x9] cap)) (hk:bJ A 1 kv (aw k)) (hr:bJ A 3 rv (ci rs)) (hI:ly A mb rs):bG Tryz.prog 141 #[.pointer (some ⟨b,0,none⟩)] A (fun v A1=>v=num (cG rs k)/\A=A1):=by
 refine iy Tryz.call141 Tryz.func141 Z Tryz.results141 Tryz.ntmps141 Z (fun wf=>?_);have D:=AH.le.refl A;obtain ⟨mrw,mes,mck,mE,az,aA,a1⟩:=hI;have a0:=fun r (q:r ∈ rs)=>(V r q).1;have hxl:=yZ rs (k.getD (k.length - 1) 0);refine ao.seq fun _ h2=>.region<|.q Z (ah Z)<|.nil<|h2 _ _<|.seq fun _ h4=>.seq fun _ h6=>.drawn [0,1,2,3,4,5,6,7,8,9,10,11,12,13,14,15,16,17,20,18,19] mixed Y Y Z<|.q Z Z Z (ae Z)<|.q Z Z Z (c8 Z) ?_;refine bj.q Z Z Z (aj xi Mj U Z)<|.q Z Z Z (ak Jc Z Z (D.get _ _ hb) Z)<|.q Z Z Z (ae Z)<|.q Z Z Z (c8 Z)<|.q Z Z Z (aj iU ni U Z)<|.q Z Z Z (aj ig f8 U Z)<|.q Z Z Z (ak jM Z Z (D.get _ _ hb) Z)<|.q Z Z Z (ae Z)<|.q Z Z Z (c8 Z)<|.q Z Z Z (aj iU ni U Z) ?_;refine bj.q Z Z Z (aj ig f8 U Z)<|.q Z Z Z (ak jM Z Z (D.get _ _ hb) Z)<|.q Z Z Z (bH (n:=k.length) eo Z (hk.le D) O (fJ _))<|.q Z Z Z (jc (b:=1) Z Z O) ?_;obtain ⟨b0,b3,aV,bl,aR,bb,b8,a7,aB,aa,aG,a2⟩:=bJ.at (i:=k.length - 1) (hk.le D) Oz O;refine bj.q Z Z Z (aJ eo nI Z a7 Z aB)<|.q Z Z Z (ak M7 Z Z aa ((dh a2).trans (i7 O)))<|.q Z Z Z (ae Z)<|.l Z Z Z (fun _ _ a5 _=>o0 qE Z Z Mo u5 I0 az aA ?_);refine a5 _ _ (aO.none Y)<|.q Z Z Z (bH (n:=(gw rs (k.getD (k.length - 1) 0)).length) er Z ((a1 (k.getD (k.length - 1) 0)).le D) O (eB _))<|.done<|h6 _ _<|.block<|.loop (X:=Nat) (fun j=>[(0,.pointer (some ⟨b,0,none⟩)),(23,(lk mE (k.getD (k.length - 1) 0)).getD (.slice none 0 0)),(24,num (((gw rs (k.getD (k.length - 1) 0)).length:Nat):Int)),(25,num ((j:Nat):Int))]) (fun j B=>(j<=(gw rs (k.getD (k.length - 1) 0)).length/\∀ i,i < j->iI k (rs.getD ((gw rs (k.getD (k.length - 1) 0)).getD i 0).toNat .zero).left=false)/\A=B) (fun j=>(gw rs (k.getD (k.length - 1) 0)).length - j) 0 (ks Z Z Z Z) (⟨⟨Nat.zero_le _,fun i h=>by omega⟩,Z⟩) ?_;rintro j B14 ⟨⟨hj,hq⟩,rfl⟩;have hio:=fun q:j < (gw rs (k.getD (k.length - 1) 0)).length=>N0 q;have hlo:=fun q:j < (gw rs (k.getD (k.length - 1) 0)).length=>V _ (bx (d:=au.zero) (hio q).2.1);refine ao.seq fun _ ad=>.region<|.q Z (cA Z Z)<|.nil<|ad _ _<|.seq fun _ ag=>.if rfl (fun aE=>?_) (fun aE=>?_)
 ·refine ao.skip<|ag _ _<|.seq fun _ ai=>.block<|.seq fun _ ap=>.region ?_;obtain ⟨b1,b5,aY,bm,aS,bc,b9,a8,aC,ab,aI,a3⟩:=bJ.at (i:=j) ((a1 (k.getD (k.length - 1) 0)).le D) O3 O;refine Ops.q Z (aJ er dx Z a8 Z aC)<|.q Z (ak fj Z Z ab ((dh a3).trans (df O)))<|.q Z (ah Z)<|.nil<|ap _ _<|.seq fun _ ar=>.drawn [0,1,2,3,4,5,6,7,8,9,10,11,12] mixed Y Y Z<|.q Z Z Z (ae Z)<|.q Z Z Z (c8 Z)<|.q Z Z Z (aj iU ni U Z) ?_;refine bj.q Z Z Z (ae Z)<|.q Z Z Z (c8 Z)<|.q Z Z Z (aj DT cT U Z)<|.q Z Z Z (aj de fw U Z)<|.q Z Z Z (ak ii Z Z (D.get _ _ hb) Z)<|.q Z Z Z (ae Z) ?_;obtain ⟨b2,b6,aZ,bp,aT,bd,ba,a9,aD,ac,aP,a4⟩:=bJ.at (i:=((gw rs (k.getD (k.length - 1) 0)).getD j 0).toNat) (hr.le D) (by simp only [bK];have:=hio O;omega) O;refine bj.q Z Z Z (aJ jw d8 Z a9 (jr (by have:=hio O;omega)) aD)<|.q Z Z Z (aj eW fz U Z)<|.q Z Z Z (ak gz Z Z ac ((a4 0 U).trans (uL (by have:=hio O;omega))))<|.l Z Z Z (fun _ _ a6 _=>aK Z (PH b kv (num (g)) u rv (.map (some mb)) qv x6 x7 x8 x9 k ((rs.getD (((gw rs (k.getD (k.length - 1) 0)).getD j 0).toNat) .zero).left) _ _ A O (hlo O).2 (D.get _ _ hb) (hk.le D)) ?_);rintro br A32 ⟨rfl,rfl⟩;refine a6 _ _ (aO.none Y)<|.done<|ar _ _<|.ifB Z (fun aF=>?_) (fun aF=>?_)
  ·refine ao.seq fun _ av=>.region<|.q Z (ae Z)<|.q Z (ah Z)<|.nil<|av _ _<|.rt (by exact be Z (⟨by (rw [F5 a0 ‹_› (hio O).2.2 hq ‹_›,<- (hio O).2.2];rfl),Z⟩))
  refine ao.skip<|ai _ _<|.region<|.q Z (bN (b:=1) Z Z O)<|.q Z (ae Z)<|.nil ?_;exact ⟨j + 1,ks Z Z Z Z,Z,⟨⟨by omega,fun i h=>(Nat.lt_succ_iff_lt_or_eq.1 h).elim (hq i) (fun z=>by subst z;assumption)⟩,Z⟩,O1⟩
 refine ao.exit<|h4 _ _<|.seq fun _ ay=>.region<|.q Z (ah Z)<|.nil<|ay _ _<|.rt (by exact be Z (⟨by (rw [JI a0 O hq];rfl),Z⟩))

theorem z8 (w q:List UInt8) (b:Nat) (x0 x1 x2 x3 x4 qv x6 x7 x8 x9:Value) (A0 A:AH) (aG:A0.le A) (ag:A0.wf) (hb:A.get b=some (.row true [x0,x1,x2,x3,x4,qv,x6,x7,x8,x9] 10)) (aP:A0.get b=none) (fr:Fresh A0 A qv 1 (aw q)) (aI:blk qv ≠ some b) (hn:w.length + q.length<=1000000):bG Tryz.prog 139 #[.pointer (some ⟨b,0,none⟩),aX (w)] A (fun v A1=>∃ qv2,v=.tuple #[]/\A0.le A1/\A1.wf/\A1.get b=some (.row true [x0,x1,x2,x3,x4,qv2,x6,x7,x8,x9] 10)/\Fresh A0 A1 qv2 1 (aw (q ++ w.reverse))/\blk qv2 ≠ some b):=by
 refine lN Tryz.call139 Tryz.func139 Z Tryz.results139 Tryz.ntmps139 Z (fun wf=>?_);refine ao.seq fun _ h2=>.region<|.q Z (ae Z)<|.q Z (d6 u9 Z)<|.q Z (Ia Z Z O)<|.q Z (ah Z)<|.nil<|h2 _ _<|.block<|.loop (X:=Nat × List UInt8 × Value) (fun ⟨j,o,s⟩=>[(0,.pointer (some ⟨b,0,none⟩)),(1,aX (w)),(4,num ((j:Int) - 1))]) (fun ⟨j,o,s⟩ B=>(j<=w.length/\o=q ++ (w.drop j).reverse)/\A0.le B/\Fresh A0 B s 1 (aw o)/\B.get b=some (.row true [x0,x1,x2,x3,x4,s,x6,x7,x8,x9] 10)/\V.blk s ≠ some b) (fun ⟨j,o,s⟩=>j) (⟨w.length,q,qv⟩) (an.cons Z<|an.cons Z<|an.cons (congrArg (fun z:Int=>some (num z)) O)<|an.nil _) (⟨⟨Nat.le_refl _,by simp⟩,aG,fr,hb,aI⟩) ?_;rintro ⟨j,o,s⟩ B4 ⟨⟨hj,ho⟩,ad,a4,a0,a1⟩;refine ao.wf fun ab=>?_;have hlo:o.length=q.length + (w.length - j):=by rw [ho];simp
 have htn:((j:Int) - 1).toNat=j - 1:=by omega
 refine ao.seq fun _ h7=>.seq fun _ h9=>.region<|.q Z (ae Z)<|.q Z (pz Z Z)<|.nil<|h9 _ _<|.if rfl (fun aR=>?_) (fun aR=>?_)
 ·refine ao.skip<|h7 _ _<|.seq fun _ aE=>.block<|.drawn [0,1,2,3,4,5,6,7,8,9,10,11,12] mixed Y Y Z<|.q Z Z Z (ae Z)<|.q Z Z Z (ae Z)<|.q Z Z Z (c8 Z)<|.q Z Z Z (aj ki f8 U Z) ?_;have ap:=dL (off:=5) a0 (show _=some (s) from rfl);refine bj.q Z Z Z (ak jM Z Z a0 Z)<|.q Z Z Z (ae Z)<|.q Z Z Z (ae Z)<|.q Z Z Z (uC u9 Z (jr O) O)<|.l Z Z Z (fun _ _ av _=>aN (c:=[fA (w.getD ((j:Int) - 1).toNat 0)]) ab rfl (ax eo nI z5 rfl U U rfl) fun A16 aT D=>?_);have aD:=ne_new ab a0 D.lo;have ac:=D.le.get _ _ a0;have a6:=a4.le D.le;have ar:=cm D.le ap;have aA:=ad.trans D.le;refine av _ _ (aO.list (L:=[(⟨b,5,none⟩,s)]) Y (bq ar cL))<|.l Z Z Z (fun _ _ ay _=>cJ (ys:=[fA (w.getD ((j:Int) - 1).toNat 0)]) rfl rfl eo nI zc z5 rfl U eo (fun _ h=>by cases h) a6.own (bW (n:=1) D.get Z) rfl rfl (by show (_ + _) * 1<=_;simp only [bn,List.length_cons,List.length_nil];(try simp only [List.length_append,List.length_cons,List.length_nil]);omega) Of fun A24 aV a2=>?_);rw [show ([fA (w.getD ((j:Int) - 1).toNat 0)]:List Value)=aw [w.getD ((j:Int) - 1).toNat 0] from rfl,iw] at a2;obtain ⟨a7,aB⟩:=Fresh.grow a6 aA ag a2;have aF:=a2.keep a1 ac;have a9:=a2.ne a1 D.wf ac;refine ay _ _ (aO.none Y)<|.q Z Z Z (c8 Z)<|.q Z Z Z (aj ki f8 U Z) ?_;obtain ⟨aa,a8,a5,aS,_⟩:=a7.own.slice;subst aS;refine bj.l Z Z Z (fun _ _ az _=>aM (cs:=[.slice aa a8 a5]) (c':=[x0,x1,x2,x3,x4,.slice aa a8 a5,x6,x7,x8,x9]) a2.wf rfl rfl rfl rfl f8 aF (Nat.le_of_ble_eq_true rfl) rfl rfl fun A36 a3=>?_);have ai:=a7.keep a3.keep a9;have aC:=al aB ag aP a3.n a3.keep;refine az _ _ (aO.none Y)<|.done<|aE _ _<|.region<|.q Z (ae Z)<|.q Z (Ia Z Z O)<|.q Z (ah Z)<|.nil ?_;exact ⟨⟨j - 1,o ++ [w.getD ((j:Int) - 1).toNat 0],.slice aa a8 a5⟩,an.cons Z<|an.cons Z<|an.cons (congrArg (fun z:Int=>some (num z)) O)<|an.nil _,Z,⟨⟨by omega,by rw [ho,htn,List.append_assoc,La O hj]⟩,aC,ai,a3.get,a9⟩,O1⟩
 refine ao.exit ?_;repeat first | with_reducible refine bE ?_ | with_reducible refine bk ?_
 repeat first | with_reducible refine fa ?_ | with_reducible refine ep ?_ | with_reducible refine dX U ?_ | with_reducible refine dY ?_ | with_reducible refine dt ?_
 exact wn (vs:=[]) Z (⟨_,Z,ad,ab,a0,c6 a4 (congrArg aw (by rw [ho,show j=0 by omega];rfl)),a1⟩)

theorem Tg (zi:Int) (i:Nat) (hzi:zi=(i:Int)) (rs:List au) (k q:List UInt8) (d:List bX) (n m:Nat) (b0:Nat) (kv:Value) (g:Int) (u rv:Value) (mb:Nat) (qv x7 dv:Value) (A0 A:AH) (bU:A0.le A) (aD:A0.wf) (hb:A.get b0=some (.row true [kv,num g,u,rv,.map (some mb),qv,num ((m:Nat):Int),x7,num ((n:Nat):Int),dv] 10)) (ba:A0.get b0=none) (frk:Fresh A0 A kv 1 (aw k)) (frq:Fresh A0 A qv 1 (aw q)) (frd:Fresh A0 A dv 3 (cN d)) (nk:blk kv ≠ some b0) (nq:blk qv ≠ some b0) (nd:blk dv ≠ some b0) (skq:bh kv qv) (skd:bh kv dv) (sqd:bh qv dv) (hi:i < rs.length/\rs.length<=1000000) (hx:(rs.getD i .zero).left.length<=k.length/\0 < (rs.getD i .zero).left.length/\k.length<=100000/\(rs.getD i .zero).right.length + q.length<=100000) (hd:d.length<=100000/\n<=20000/\m<=1000000/\(rs.getD i .zero).proof.length<=100000/\ew (rs.getD i .zero).proof<=1000000) (hL:eF A0) (hr:bJ A0 3 rv (ci rs)) (hp:Proofs A0 rs):wK Tryz.prog 142 #[.pointer (some ⟨b0,0,none⟩),num (zi)] A (fun v A1=>∃ kv2 qv2 dv2,v=.tuple #[]/\A0.le A1/\A1.wf/\A1.get b0=some (.row true [kv2,num g,u,rv,.map (some mb),qv2,num ((m + ew (nA (k.take (k.length - (rs.getD i .zero).left.length)) (rs.getD i .zero).proof):Nat):Int),x7,num ((n + 1:Nat):Int),dv2] 10)/\Fresh A0 A1 kv2 1 (aw (k.take (k.length - (rs.getD i .zero).left.length)))/\Fresh A0 A1 qv2 1 (aw (q ++ (rs.getD i .zero).right.reverse))/\Fresh A0 A1 dv2 3 (cN (d ++ (nA (k.take (k.length - (rs.getD i .zero).left.length)) (rs.getD i .zero).proof)))/\blk kv2 ≠ some b0/\blk qv2 ≠ some b0/\blk dv2 ≠ some b0/\bh kv2 qv2/\bh kv2 dv2/\bh qv2 dv2/\BK (rs.getD i .zero) k n d m) (fun ch A1=>¬ BK (rs.getD i .zero) k n d m/\ch=[{ v:=.iface 149 (.agg #[]),recovered:=false }]/\A0.le A1/\A1.wf/\∃ y0 y5 y6 y7 y8 y9,A1.get b0=some (.row true [y0,num g,u,rv,.map (some mb),y5,y6,y7,y8,y9] 10)):=by
 refine Jy (e:=[(0,.pointer (some ⟨b0,0,none⟩)),(1,num (zi))]) (args:=[.pointer (some ⟨b0,0,none⟩),num (zi)]) Tryz.call142 Tryz.func142 Z Tryz.results142 Tryz.ntmps142 Z Z Z (fun wf=>?_);subst hzi;refine ao.seq fun _ h2=>.region<|.q Z (ae Z)<|.q Z (c8 Z)<|.q Z (aj DT cT U Z)<|.q Z (aj de fw U Z)<|.q Z (ak ii Z Z hb Z)<|.q Z (ae Z) ?_;obtain ⟨b3,f3,gL,r3,gG,n3,k3,e3,l3,g3,fE,gA⟩:=bJ.at (i:=i) (hr.le bU) Oj O;refine Ops.q Z (aJ jw d8 Z e3 Z l3)<|.q Z (am nw d8 Z Z g3 (fE.trans (congrArg some (fZ O))))<|.l Z (fun _ _ g6 _=>ca wf rm rfl fun A6 b5 ay=>?_);have ap:=ne_new wf hb ay.lo;have e7:=frk.own.ne_new wf ay.lo;have e9:=frq.own.ne_new wf ay.lo;have fn:=frd.own.ne_new wf ay.lo;have d2:=aL aD (Nat.le_trans bU.n ay.lo);have fM:=ay.le.get _ _ hb;have ec:=frk.le ay.le;have eg:=frq.le ay.le;have en:=frd.le ay.le;have fe:=bU.trans ay.le;refine g6 _ _<|.l Z (fun _ _ f2 _=>aM (cs:=[aX ((rs.getD i .zero).left),aX ((rs.getD i .zero).right),(rs.getD i .zero).pv]) (c':=[aX ((rs.getD i .zero).left),aX ((rs.getD i .zero).right),(rs.getD i .zero).pv]) ay.wf rfl rfl rfl rfl d8 ay.get (Nat.le_of_ble_eq_true rfl) (gK (hp.get hi.1)) rfl fun A17 av=>?_);have fN:=av.keep _ _ ap fM;have bv:=ec.keep av.keep e7;have bA:=eg.keep av.keep e9;have bB:=en.keep av.keep fn;have fi:=al fe aD d2 av.n av.keep;refine f2 _ _<|.nil<|h2 _ _<|.seq fun _ fO=>.drawn [0,1,2,3,4,5,6] mixed Y Y Z<|.q Z Z Z (ae Z)<|.q Z Z Z (c8 Z)<|.q Z Z Z (aj iU ni U Z)<|.q Z Z Z (aj eW fz U Z)<|.q Z Z Z (ak gz Z Z av.get Z) ?_;refine bj.q Z Z Z (d6 u9 Z) ?_;have bS:=cg (bs:=[some b0,blk kv]) fi (qz ba (sj bv.lo nf));refine bj.l Z Z Z (fun _ _ f4 _=>aK Z (EM (((rs.getD i .zero).left).length) k b0 kv (num (g)) u rv (.map (some mb)) qv (num ((m:Nat):Int)) x7 (num ((n:Nat):Int)) dv (A17.hide [some b0,blk kv]) A17 (cM A17 [some b0,blk kv]) (cr av.wf) fN (cn (by simp)) (bv.hide (by simp)) nk O) ?_);rintro gM A30 ⟨a5,rfl,aR,e1,bc,aE,a8⟩;have f0:=bF (bs:=[some b0,blk kv]) av.get (lQ ap.symm (ng e7 ka));have e4:=aR.get _ _ f0;have c3:=aE.sep bA.own (gJ nq (iq skq fW));have bC:=bA.off (gJ nq (iq skq fW)) aR;have ft:=aE.sep bB.own (gJ nd (iq skd fW));have bD:=bB.off (gJ nd (iq skd fW)) aR;have bL:=aE.base bS;have fl:=bS.trans aR;refine f4 _ _ (aO.none Y)<|.done<|fO _ _<|.seq fun _ fQ=>.region<|.q Z (ae Z)<|.q Z (aj kH fz U Z)<|.q Z (ak gz Z Z e4 Z) ?_;have bT:=cg (bs:=[some b0,blk qv]) fl (qz ba (sj bC.lo nf));refine Ops.l Z (fun _ _ f6 _=>aK Z (z8 ((rs.getD i .zero).right) q b0 a5 (num (g)) u rv (.map (some mb)) qv (num ((m:Nat):Int)) x7 (num ((n:Nat):Int)) dv (A30.hide [some b0,blk qv]) A30 (cM A30 [some b0,blk qv]) (cr e1) bc (cn (by simp)) (bC.hide (by simp)) nq O) ?_);rintro gN A46 ⟨a9,rfl,aS,e2,aT,aF,aC⟩;have f1:=bF (bs:=[some b0,blk qv]) e4 (lQ ap.symm (ng e9 ka));have fR:=aS.get _ _ f1;have fv:=aF.sep bD.own (gJ nd (iq sqd fW));have ev:=bD.off (gJ nd (iq sqd fW)) aS;have fD:=aF.sep bL.own (gJ a8 (iq (bh.symm c3) fW));have ex:=bL.off (gJ a8 (iq (bh.symm c3) fW)) aS;have ey:=aF.base bT;have fm:=bT.trans aS;refine f6 _ _<|.nil<|fQ _ _<|.seq fun _ fS=>.region<|.q Z (ae Z)<|.q Z (c8 Z)<|.q Z (aj kj ie U Z)<|.q Z (aj rC dx U Z)<|.q Z (ak fj Z Z aT Z) ?_;refine Ops.q Z (bN (b:=1) Z Z O)<|.q Z (c8 Z)<|.q Z (aj kj ie U Z)<|.q Z (aj rC dx U Z)<|.l Z (fun _ _ f7 _=>aM (cs:=[num ((n + 1:Nat):Int)]) (c':=[a5,num (g),u,rv,.map (some mb),a9,num ((m:Nat):Int),x7,num ((n + 1:Nat):Int),dv]) e2 rfl rfl rfl rfl dx aT (Nat.le_of_ble_eq_true rfl) rfl rfl fun A61 a3=>?_);have e5:=a3.keep _ _ ap.symm fR;have bM:=ev.keep a3.keep nd;have bO:=ex.keep a3.keep a8;have ez:=ey.keep a3.keep aC;have aV:=al fm aD ba a3.n a3.keep;refine f7 _ _<|.nil<|fS _ _<|.seq fun _ fT=>.seq fun _ e6=>.drawn [0,1,2,3,4,5,6,7,8,9,10,11,12,13,14,15,16,17,18] mixed Y Y Z<|.q Z Z Z (ae Z)<|.q Z Z Z (c8 Z)<|.q Z Z Z (aj kj ie U Z)<|.q Z Z Z (aj rC dx U Z) ?_;refine bj.q Z Z Z (ak fj Z Z a3.get Z)<|.q Z Z Z (fu (b:=20000) Z Z)<|.q Z Z Z (ae Z)<|.part (t:=42) Z (fun g8=>?_) (fun g8=>?_)
 ·refine bj.qOff Z Z Z Z Z Z<|.qOff Z Z Z Z Z Z<|.qOff Z Z Z Z Z Z<|.qOff Z Z Z Z Z Z<|.qOff Z Z Z Z Z Z<|.qOff Z Z Z Z Z Z<|.qOff Z Z Z Z Z Z<|.qOff Z Z Z Z Z Z<|.qOff Z Z Z Z Z Z<|.qOff Z Z Z Z Z Z ?_;refine bj.qOff Z Z Z Z Z Z<|.q Z Z Z (bi Z Z)<|.done<|e6 _ _<|.cond_true Z<|.region<|.q Z (cR Z (aU Aq ML Eb Z))<|.iface Aq Z Z<|.panicI Z ?_;(repeat first | with_reducible refine jZ ?_ | with_reducible refine jl ?_ | with_reducible refine iL ?_);exact Kr (⟨by exact QW ‹_›,Z,aV,a3.wf,_,_,_,_,_,_,a3.get⟩)
 refine bj.qOn Z Z Z Z Z (ae Z)<|.qOn Z Z Z Z Z (c8 Z)<|.qOn Z Z Z Z Z (aj kj ie U Z)<|.qOn Z Z Z Z Z (aj ue jG U Z)<|.qOn Z Z Z Z Z (ak ns Z Z a3.get Z)<|.qOn Z Z Z Z Z (bH (n:=d.length) oO Z bM.slc O (ee _))<|.qOn Z Z Z Z Z (aj iE jG U Z)<|.qOn Z Z Z Z Z (ak ns Z Z e5 Z)<|.qOn Z Z Z Z Z (bH (n:=((rs.getD i .zero).proof).length) oO Z ((hp.get hi.1).le aV) O (ee _))<|.qOn Z Z Z Z Z (bN Z Z O) ?_;refine bj.qOn Z Z Z Z Z (fu (b:=100000) Z Z)<|.q Z Z Z (bw Z Z)<|.done<|e6 _ _<|.if rfl (fun g9=>?_) (fun g9=>?_)
 ·refine ao.region<|.q Z (cR Z (aU Aq ML Eb Z))<|.iface Aq Z Z<|.panicI Z ?_;(repeat first | with_reducible refine jZ ?_ | with_reducible refine jl ?_ | with_reducible refine iL ?_);exact Kr (⟨by exact QX ‹_›,Z,aV,a3.wf,_,_,_,_,_,_,a3.get⟩)
 refine ao.skip<|fT _ _<|.seq fun _ fV=>.region<|.q Z (ae Z)<|.q Z (c8 Z)<|.q Z (aj iU ni U Z)<|.q Z (aj ig f8 U Z)<|.q Z (ak jM Z Z a3.get Z)<|.l Z (fun _ _ f9 _=>gU (s:=k.take (k.length - (((rs.getD i .zero).left).length))) Z eo u9 u5 bO.slc ?_);refine f9 _ _<|.q Z (ah Z)<|.nil<|fV _ _<|.seq fun _ fX=>.region<|.q Z (aj iE jG U Z)<|.q Z (ak ns Z Z e5 Z)<|.q Z (bH (n:=((rs.getD i .zero).proof).length) oO Z ((hp.get hi.1).le aV) O (ee _))<|.q Z (ae Z) ?_;refine Ops.nil<|fX _ _<|.block<|.loop (X:=Nat × List bX × Nat × Value) (fun ⟨j,D,mm,dw⟩=>[(0,.pointer (some ⟨b0,0,none⟩)),(5,aX (k.take (k.length - (((rs.getD i .zero).left).length)))),(64,(rs.getD i .zero).pv),(65,num ((((rs.getD i .zero).proof).length:Nat):Int)),(66,num ((j:Nat):Int))]) (fun ⟨j,D,mm,dw⟩ B=>(j<=(rs.getD i .zero).proof.length/\D=d ++ pre (k.take (k.length - (rs.getD i .zero).left.length)) (rs.getD i .zero).proof j/\mm=m + ew (pre (k.take (k.length - (rs.getD i .zero).left.length)) (rs.getD i .zero).proof j)/\mm<=1000000/\∀ i2,i2 < j->(k.take (k.length - (rs.getD i .zero).left.length)).length + ((rs.getD i .zero).proof.getD i2 .zero).conj.length<=100000)/\A0.le B/\Fresh A0 B dw 3 (cN D)/\Fresh A0 B a5 1 (aw (k.take (k.length - (((rs.getD i .zero).left).length))))/\Fresh A0 B a9 1 (aw (q ++ ((rs.getD i .zero).right).reverse))/\B.get b0=some (.row true [a5,num (g),u,rv,.map (some mb),a9,num ((mm:Nat):Int),x7,num ((n + 1:Nat):Int),dw] 10)/\V.blk dw ≠ some b0/\V.blk a5 ≠ some b0/\V.blk a9 ≠ some b0/\bh dw a5/\bh dw a9/\bh a5 a9) (fun ⟨j,D,mm,dw⟩=>(rs.getD i .zero).proof.length - j) (⟨0,d,m,dv⟩) (rn Z Z Z Z Z) (⟨⟨Nat.zero_le _,by simp [pre],by simp [pre,ew],hd.2.2.1,fun i2 h=>by omega⟩,aV,bM,bO,ez,a3.get,nd,a8,aC,(bh.symm ft),(bh.symm fv),(bh.symm fD)⟩) ?_;rintro ⟨j,D,mm,dw⟩ B80 ⟨⟨hj,hD,hmm,hml,hq⟩,b6,aG,ad,ag,aI,ar,a0,a1,aA,aB,aY⟩;refine ao.wf fun aP=>?_;have hDl:D.length=d.length + j:=by rw [hD,List.length_append,O6 hj]
 have hck:=fun z:j < (rs.getD i .zero).proof.length=>NA (bx (d:=bX.zero) z);have hpc:=fun z:j < (rs.getD i .zero).proof.length=>zA (p:=(k.take (k.length - (rs.getD i .zero).left.length))) z;have hps:=fun z:j < (rs.getD i .zero).proof.length=>zB (p:=(k.take (k.length - (rs.getD i .zero).left.length))) z;have hwr:=vb ((k.take (k.length - (rs.getD i .zero).left.length)) ++ ((rs.getD i .zero).proof.getD j .zero).conj);have hkp:(k.take (k.length - (rs.getD i .zero).left.length)).length<=k.length:=by simp
 have hla:=@List.length_append _ (k.take (k.length - (rs.getD i .zero).left.length)) ((rs.getD i .zero).proof.getD j .zero).conj;refine ao.seq fun _ g0=>.region<|.q Z (cA Z Z)<|.nil<|g0 _ _<|.seq fun _ g1=>.if rfl (fun gc=>?_) (fun gc=>?_)
 ·refine ao.skip<|g1 _ _<|.seq fun _ g2=>.block<|.seq fun _ g4=>.region ?_;obtain ⟨gq,gC,gl,gF,gg,gE,gD,fI,g7,fL,ea,gf⟩:=bJ.at (i:=j) ((hp.get hi.1).le b6) ON O;refine Ops.q Z (aJ oO jz Z fI Z g7)<|.q Z (am yw jz Z Z fL (ea.trans (congrArg some (i8 O))))<|.l Z (fun _ _ fd _=>ca aP IW rfl fun A94 gs a7=>?_);have az:=ne_new aP aI a7.lo;have bd:=aG.own.ne_new aP a7.lo;have bV:=ad.own.ne_new aP a7.lo;have bY:=ag.own.ne_new aP a7.lo;have b9:=aL aD (Nat.le_trans b6.n a7.lo);have g5:=a7.le.get _ _ aI;have c7:=aG.le a7.le;have cb:=ad.le a7.le;have cc:=ag.le a7.le;have dJ:=b6.trans a7.le;refine fd _ _<|.l Z (fun _ _ di _=>aM (cs:=[aX ((((rs.getD i .zero).proof).getD j .zero).conj),num ((((rs.getD i .zero).proof).getD j .zero).rel),.bool ((((rs.getD i .zero).proof).getD j .zero).inv)]) (c':=[aX ((((rs.getD i .zero).proof).getD j .zero).conj),num ((((rs.getD i .zero).proof).getD j .zero).rel),.bool ((((rs.getD i .zero).proof).getD j .zero).inv)]) a7.wf rfl rfl rfl rfl jz a7.get (Nat.le_of_ble_eq_true rfl) rfl rfl fun A105 a6=>?_);have bP:=a6.keep _ _ az g5;have cf:=c7.keep a6.keep bd;have ck:=cb.keep a6.keep bV;have cu:=cc.keep a6.keep bY;have b2:=al dJ aD b9 a6.n a6.keep;refine di _ _<|.nil<|g4 _ _<|.seq fun _ eA=>.seq fun _ eC=>.region<|.q Z (ae Z)<|.q Z (d6 u9 Z)<|.q Z (aj mN fz U Z)<|.q Z (ak gz Z Z a6.get Z) ?_;refine Ops.q Z (d6 u9 Z)<|.q Z (bN Z Z O)<|.q Z (fu (b:=100000) Z Z)<|.nil<|eC _ _<|.if rfl (fun fo=>?_) (fun fo=>?_)
  ·refine ao.region<|.q Z (cR Z (aU Aq ML Eb Z))<|.iface Aq Z Z<|.panicI Z ?_;(repeat first | with_reducible refine jZ ?_ | with_reducible refine jl ?_ | with_reducible refine iL ?_);exact Kr (⟨by exact QY O ‹_›,Z,b2,a6.wf,_,_,_,_,_,_,bP⟩)
  refine ao.skip<|eA _ _<|.seq fun _ eG=>.region<|.q Z (ae Z)<|.q Z (aj mN fz U Z)<|.q Z (ak gz Z Z a6.get Z)<|.q Z (uA Z Z O)<|.l Z (fun _ _ dj _=>aK Z (rc ((k.take (k.length - (((rs.getD i .zero).left).length))) ++ ((((rs.getD i .zero).proof).getD j .zero).conj)) A105 O (hL.le b2)) ?_);rintro gm A121 ⟨rfl,ai,c4⟩;have eL:=ai.get _ _ bP;have eN:=ai.get _ _ a6.get;have cv:=cf.le ai;have cB:=ck.le ai;have cC:=cu.le ai;have dK:=b2.trans ai;refine dj _ _<|.q Z (aj mN fz U Z)<|.l Z (fun _ _ dk _=>aM (cs:=[aX (dy ((k.take (k.length - (((rs.getD i .zero).left).length))) ++ ((((rs.getD i .zero).proof).getD j .zero).conj)))]) (c':=[aX (dy ((k.take (k.length - (((rs.getD i .zero).left).length))) ++ ((((rs.getD i .zero).proof).getD j .zero).conj))),num ((((rs.getD i .zero).proof).getD j .zero).rel),.bool ((((rs.getD i .zero).proof).getD j .zero).inv)]) c4 rfl rfl rfl rfl fz eN (Nat.le_of_ble_eq_true rfl) rfl rfl fun A130 aa=>?_);have bb:=aa.keep _ _ az eL;have cF:=cv.keep aa.keep bd;have cH:=cB.keep aa.keep bV;have cK:=cC.keep aa.keep bY;have dO:=al dK aD b9 aa.n aa.keep;refine dk _ _<|.nil<|eG _ _<|.seq fun _ eQ=>.drawn [0,1,2,3,4,5,6,7,8,9,10,11,12] mixed Y Y Z<|.q Z Z Z (ae Z)<|.q Z Z Z (ae Z)<|.q Z Z Z (c8 Z)<|.q Z Z Z (aj kj ie U Z)<|.q Z Z Z (aj ue jG U Z) ?_;have d3:=dL (off:=9) bb (show _=some (dw) from rfl);refine bj.q Z Z Z (ak ns Z Z bb Z)<|.q Z Z Z (am yw jz Z Z aa.get Z)<|.l Z Z Z (fun _ _ dz _=>aN (c:=[aX (dy ((k.take (k.length - (((rs.getD i .zero).left).length))) ++ ((((rs.getD i .zero).proof).getD j .zero).conj))),num ((((rs.getD i .zero).proof).getD j .zero).rel),.bool ((((rs.getD i .zero).proof).getD j .zero).inv)]) aa.wf rfl (ax oO jz IW rfl U U rfl) fun A145 ge a2=>?_);have bR:=a2.le.get _ _ bb;have eS:=a2.le.get _ _ aa.get;have bl:=cF.le a2.le;have bm:=cH.le a2.le;have bp:=cK.le a2.le;have dd:=cm a2.le d3;have dS:=dO.trans a2.le;refine dz _ _ (aO.list (L:=[(⟨b0,9,none⟩,dw)]) Y (bq dd cL))<|.l Z Z Z (fun _ _ dD _=>cJ (ys:=[aX (dy ((k.take (k.length - (((rs.getD i .zero).left).length))) ++ ((((rs.getD i .zero).proof).getD j .zero).conj))),num ((((rs.getD i .zero).proof).getD j .zero).rel),.bool ((((rs.getD i .zero).proof).getD j .zero).inv)]) rfl rfl oO jz D4 IW rfl U oO (fun _ h=>by cases h) bl.own (bW (n:=1) a2.get Z) rfl rfl (by show (_ + _) * 32<=_;simp only [ce,List.length_cons,List.length_nil];(try simp only [List.length_append,List.length_cons,List.length_nil]);omega) (by simp only [ce,List.length_cons,List.length_nil];(try simp only [List.length_append,List.length_cons,List.length_nil]);omega) fun A161 gp a4=>?_);rw [show ([aX (dy ((k.take (k.length - (((rs.getD i .zero).left).length))) ++ ((((rs.getD i .zero).proof).getD j .zero).conj))),num ((((rs.getD i .zero).proof).getD j .zero).rel),.bool ((((rs.getD i .zero).proof).getD j .zero).inv)]:List Value)=cN [⟨dy ((k.take (k.length - (((rs.getD i .zero).left).length))) ++ ((((rs.getD i .zero).proof).getD j .zero).conj)),(((rs.getD i .zero).proof).getD j .zero).rel,(((rs.getD i .zero).proof).getD j .zero).inv⟩] from rfl,jL] at a4;obtain ⟨br,dV⟩:=Fresh.grow bl dS aD a4;have eT:=a4.keep ar bR;have b7:=a4.ne ar a2.wf bR;have eV:=a4.keep bd eS;have dZ:=bh.appd (show bh dw a5 from aA) bm.own a2.wf a4;have cP:=bm.appd a4 aA;have e0:=bh.appd (show bh dw a9 from aB) bp.own a2.wf a4;have cS:=bp.appd a4 aB;refine dD _ _ (aO.none Y)<|.q Z Z Z (c8 Z)<|.q Z Z Z (aj kj ie U Z)<|.q Z Z Z (aj ue jG U Z) ?_;obtain ⟨b8,b1,aZ,fr,_⟩:=br.own.slice;subst fr;refine bj.l Z Z Z (fun _ _ dG _=>aM (cs:=[.slice b8 b1 aZ]) (c':=[a5,num (g),u,rv,.map (some mb),a9,num ((mm:Nat):Int),x7,num ((n + 1:Nat):Int),.slice b8 b1 aZ]) a4.wf rfl rfl rfl rfl jG eT (Nat.le_of_ble_eq_true rfl) rfl rfl fun A179 ab=>?_);have eX:=ab.keep _ _ az.symm eV;have cU:=cP.keep ab.keep a0;have cV:=cS.keep ab.keep a1;have cX:=br.keep ab.keep b7;have dW:=al dV aD ba ab.n ab.keep;refine dG _ _ (aO.none Y)<|.done<|eQ _ _<|.seq fun _ eY=>.drawn [0,1,2,3,4,5,6,7,8,9,10] mixed Y Y Z<|.q Z Z Z (ae Z)<|.q Z Z Z (c8 Z)<|.q Z Z Z (aj s7 dx U Z)<|.q Z Z Z (ak fj Z Z ab.get Z)<|.q Z Z Z (aj mN fz U Z) ?_;refine bj.q Z Z Z (ak gz Z Z eX Z)<|.q Z Z Z (d6 u9 Z)<|.q Z Z Z (bN Z Z O)<|.q Z Z Z (c8 Z)<|.q Z Z Z (aj s7 dx U Z)<|.l Z Z Z (fun _ _ dI _=>aM (cs:=[num ((mm + ((dy ((k.take (k.length - (((rs.getD i .zero).left).length))) ++ ((((rs.getD i .zero).proof).getD j .zero).conj))).length):Nat):Int)]) (c':=[a5,num (g),u,rv,.map (some mb),a9,num ((mm + ((dy ((k.take (k.length - (((rs.getD i .zero).left).length))) ++ ((((rs.getD i .zero).proof).getD j .zero).conj))).length):Nat):Int),x7,num ((n + 1:Nat):Int),.slice b8 b1 aZ]) ab.wf rfl rfl rfl rfl dx ab.get (Nat.le_of_ble_eq_true rfl) rfl rfl fun A191 ac=>?_);have cZ:=cU.keep ac.keep a0;have d0:=cV.keep ac.keep a1;have d1:=cX.keep ac.keep b7;have bu:=al dW aD ba ac.n ac.keep;refine dI _ _ (aO.none Y)<|.done<|eY _ _<|.seq fun _ eZ=>.region<|.q Z (ae Z)<|.q Z (c8 Z)<|.q Z (aj s7 dx U Z)<|.q Z (ak fj Z Z ac.get Z)<|.q Z (fu (b:=1000000) Z Z) ?_;refine Ops.nil<|eZ _ _<|.if rfl (fun fq=>?_) (fun fq=>?_)
  ·refine ao.region<|.q Z (cR Z (aU Aq ML Eb Z))<|.iface Aq Z Z<|.panicI Z ?_;(repeat first | with_reducible refine jZ ?_ | with_reducible refine jl ?_ | with_reducible refine iL ?_);exact Kr (⟨by exact QZ (j:=j + 1) (by rw [zA O];omega),Z,bu,ac.wf,_,_,_,_,_,_,ac.get⟩)
  refine ao.skip<|g2 _ _<|.region<|.q Z (bN (b:=1) Z Z O)<|.q Z (ae Z)<|.nil ?_;exact ⟨⟨j + 1,D ++ [⟨dy ((k.take (k.length - (((rs.getD i .zero).left).length))) ++ ((((rs.getD i .zero).proof).getD j .zero).conj)),(((rs.getD i .zero).proof).getD j .zero).rel,(((rs.getD i .zero).proof).getD j .zero).inv⟩],mm + ((dy ((k.take (k.length - (((rs.getD i .zero).left).length))) ++ ((((rs.getD i .zero).proof).getD j .zero).conj))).length),.slice b8 b1 aZ⟩,rn Z Z Z Z Z,Z,⟨⟨by omega,by rw [hps O,hD,List.append_assoc],by have:=hpc O;omega,by omega,fun i2 h=>(Nat.lt_succ_iff_lt_or_eq.1 h).elim (hq i2) (fun z=>by subst z;omega)⟩,bu,d1,cZ,d0,ac.get,b7,a0,a1,dZ,e0,aY⟩,O1⟩
 refine ao.exit ?_;repeat first | with_reducible refine bE ?_ | with_reducible refine bk ?_
 repeat first | with_reducible refine fa ?_ | with_reducible refine ep ?_ | with_reducible refine dX U ?_ | with_reducible refine dY ?_ | with_reducible refine dt ?_
 exact Te (vs:=[]) Z (⟨_,_,_,Z,b6,aP,uJ aI (by rw [hmm,(xH O hq).1]),ad,ag,c6 aG (congrArg cN (by rw [hD,(xH O hq).1])),a0,a1,ar,aY,(bh.symm aA),(bh.symm aB),Ra ‹_› ‹_› O hq O⟩)

theorem RN (w:List UInt8) (rs:List au) (l:List (List UInt8)) (b0:Nat) (g:Int) (u rv:Value) (mb:Nat) (x0 x5 x6 x7 x8 x9:Value) (A0 A:AH) (ea:A0.le A) (aF:A0.wf) (hb:A.get b0=some (.row true [x0,num g,u,rv,.map (some mb),x5,x6,x7,x8,x9] 10)) (aE:A0.get b0=none) (hs:cx g l rs=true) (hwl:w.length<=20000) (hL:eF A0) (hr:bJ A0 3 rv (ci rs)) (hp:Proofs A0 rs) (hI:ly A0 mb rs):wK Tryz.prog 106 #[.pointer (some ⟨b0,0,none⟩),aX (w)] A (fun v A1=>∃ dv2 y0 y5 y6 y7 y8 y9,v=.agg #[aX (cI (mn rs w)).word,num (((cI (mn rs w)).steps:Nat):Int),dv2]/\A0.le A1/\A1.wf/\A1.get b0=some (.row true [y0,num g,u,rv,.map (some mb),y5,y6,y7,y8,y9] 10)/\Fresh A0 A1 dv2 3 (cN (cI (mn rs w)).disk)/\blk dv2 ≠ some b0/\(mn rs w).isSome=true) (fun ch A1=>mn rs w=none/\ch=[{ v:=.iface 149 (.agg #[]),recovered:=false }]/\A0.le A1/\A1.wf/\∃ y0 y5 y6 y7 y8 y9,A1.get b0=some (.row true [y0,num g,u,rv,.map (some mb),y5,y6,y7,y8,y9] 10)):=by
 refine Jy (e:=[(0,.pointer (some ⟨b0,0,none⟩)),(1,aX (w))]) (args:=[.pointer (some ⟨b0,0,none⟩),aX (w)]) Tryz.call106 Tryz.func106 Z Tryz.results106 Tryz.ntmps106 Z Z Z (fun wf=>?_);refine ao.seq fun _ h2=>.region<|.l Z (fun _ _ g8 _=>ca wf AN rfl fun A5 b4 bd=>?_);have a0:=ne_new wf hb bd.lo;have dz:=aL aF (Nat.le_trans ea.n bd.lo);have h7:=bd.le.get _ _ hb;have ge:=ea.trans bd.le;refine g8 _ _<|.nil<|h2 _ _<|.seq fun _ fN=>.region<|.q Z (ae Z)<|.q Z (ae Z)<|.q Z (ae Z)<|.q Z (ae Z)<|.q Z (cR Z (aU TK AN OG Z)) ?_;refine Ops.q Z (c8 Z)<|.q Z (aj iU ni U Z)<|.q Z (aj ig f8 U Z)<|.l Z (fun _ _ eX _=>aM (cs:=[.slice none 0 0]) (c':=[.slice none 0 0,num (g),u,rv,.map (some mb),x5,x6,x7,x8,x9]) bd.wf rfl rfl rfl rfl f8 h7 (Nat.le_of_ble_eq_true rfl) rfl rfl fun A12 b1=>?_);have fO:=b1.keep _ _ a0.symm bd.get;have f4:=al ge aF aE b1.n b1.keep;refine eX _ _<|.q Z (c8 Z)<|.q Z (aj ki f8 U Z)<|.l Z (fun _ _ eY _=>aM (cs:=[.slice none 0 0]) (c':=[.slice none 0 0,num (g),u,rv,.map (some mb),.slice none 0 0,x6,x7,x8,x9]) b1.wf rfl rfl rfl rfl f8 b1.get (Nat.le_of_ble_eq_true rfl) rfl rfl fun A17 b2=>?_);have fQ:=b2.keep _ _ a0.symm fO;have f6:=al f4 aF aE b2.n b2.keep;refine eY _ _<|.q Z (c8 Z)<|.q Z (aj s7 dx U Z)<|.l Z (fun _ _ eZ _=>aM (cs:=[num ((0:Nat):Int)]) (c':=[.slice none 0 0,num (g),u,rv,.map (some mb),.slice none 0 0,num ((0:Nat):Int),x7,x8,x9]) b2.wf rfl rfl rfl rfl dx b2.get (Nat.le_of_ble_eq_true rfl) rfl rfl fun A22 b3=>?_);have fR:=b3.keep _ _ a0.symm fQ;have f7:=al f6 aF aE b3.n b3.keep;refine eZ _ _<|.q Z (c8 Z)<|.q Z (aj kj ie U Z)<|.l Z (fun _ _ f0 _=>aM (cs:=[aX ([]),num ((0:Nat):Int),.slice none 0 0]) (c':=[.slice none 0 0,num (g),u,rv,.map (some mb),.slice none 0 0,num ((0:Nat):Int),aX ([]),num ((0:Nat):Int),.slice none 0 0]) b3.wf rfl rfl rfl rfl ie b3.get (Nat.le_of_ble_eq_true rfl) rfl rfl fun A27 b5=>?_);have fS:=b5.keep _ _ a0.symm fR;have f9:=al f7 aF aE b5.n b5.keep;refine f0 _ _<|.nil<|fN _ _<|.seq fun _ fT=>.region<|.q Z (ae Z)<|.q Z (ae Z) ?_;have ck:=Fresh.nil A0 A27 1;have cU:=cg (bs:=[some b0,blk (.slice none 0 0)]) f9 (qz aE (sj ck.lo nf));refine Ops.l Z (fun _ _ f1 _=>aK Z (z8 w ([]) b0 (.slice none 0 0) (num (g)) u rv (.map (some mb)) (.slice none 0 0) (num ((0:Nat):Int)) (aX ([])) (num ((0:Nat):Int)) (.slice none 0 0) (A27.hide [some b0,blk (.slice none 0 0)]) A27 (cM A27 [some b0,blk (.slice none 0 0)]) (cr b5.wf) b5.get (cn (by simp)) (ck.hide (by simp)) (fun q=>by cases q) Ox) ?_);rintro hg A37 ⟨e7,rfl,c3,gs,bP,b9,br⟩;have cF:=bF (bs:=[some b0,blk (.slice none 0 0)]) fS (lQ a0.symm (ng (fun q=>by cases q) ka));have fV:=c3.get _ _ cF;have en:=b9.base cU;have fm:=b9.seph cF;have fi:=cU.trans c3;refine f1 _ _<|.nil<|fT _ _<|.seq fun _ fX=>.block<|.loop (X:=List UInt8 × List UInt8 × Nat × List bX × Nat × Nat × Value × Value × Value) (fun ⟨q,k,n,d,m,f,kv,qv,dv⟩=>[(0,.pointer (some ⟨b0,0,none⟩)),(4,.pointer (some ⟨b4,0,none⟩))]) (fun ⟨q,k,n,d,m,f,kv,qv,dv⟩ B=>(jt rs f ⟨q,k,n,d,m⟩=jt rs vM (start w)/\q.length + k.length<=w.length/\n<=20000/\d.length<=100000/\m<=1000000/\(20000 - n) * 100001 + q.length < f)/\A0.le B/\Fresh A0 B kv 1 (aw k)/\Fresh A0 B qv 1 (aw q)/\Fresh A0 B dv 3 (cN d)/\B.get b0=some (.row true [kv,num (g),u,rv,.map (some mb),qv,num ((m:Nat):Int),aX ([]),num ((n:Nat):Int),dv] 10)/\B.get b4=some (.row true [aX ([]),num ((0:Nat):Int),.slice none 0 0] 3)/\V.blk kv ≠ some b0/\V.blk qv ≠ some b0/\V.blk dv ≠ some b0/\V.blk kv ≠ some b4/\V.blk qv ≠ some b4/\V.blk dv ≠ some b4/\bh kv qv/\bh kv dv/\bh qv dv) (fun ⟨q,k,n,d,m,f,kv,qv,dv⟩=>f) (⟨w.reverse,[],0,[],0,vM,.slice none 0 0,e7,.slice none 0 0⟩) (jO Z Z) (⟨⟨Z,by simp,by omega,by simp,by omega,by have h1:w.length<=20000:=hwl;simp only [List.length_reverse];unfold vM;omega⟩,fi,(Fresh.nil A0 A37 1),(c6 en (congrArg aw ((by rfl)))),(Fresh.nil A0 A37 3),bP,fV,(fun q=>by cases q),br,(fun q=>by cases q),(fun q=>by cases q),fm,(fun q=>by cases q),bh.nil,bh.nil,(bh.symm bh.nil)⟩) ?_;rintro ⟨q,k,n,d,m,f,kv,qv,dv⟩ B48 ⟨⟨hrun,hlen,hn,hd,hm,hf⟩,cV,bb,ac,ba,a2,bc,ab,a1,D,ap,ar,aa,az,aA,aG⟩;refine ao.wf fun d2=>?_;have hrf:=fun z:¬ cG rs (k ++ [q.getD (q.length - 1) 0]) < 0=>Lh hs z;have hkl:(k ++ [q.getD (q.length - 1) 0]).length=k.length + 1:=by simp
 have hmv:(nA ((k ++ [q.getD (q.length - 1) 0]).take ((k ++ [q.getD (q.length - 1) 0]).length - (rs.getD (cG rs (k ++ [q.getD (q.length - 1) 0])).toNat .zero).left.length)) (rs.getD (cG rs (k ++ [q.getD (q.length - 1) 0])).toNat .zero).proof).length<=(rs.getD (cG rs (k ++ [q.getD (q.length - 1) 0])).toNat .zero).proof.length:=zn _ _;have hmk:MP ((k ++ [q.getD (q.length - 1) 0]).take ((k ++ [q.getD (q.length - 1) 0]).length - (rs.getD (cG rs (k ++ [q.getD (q.length - 1) 0])).toNat .zero).left.length)) (rs.getD (cG rs (k ++ [q.getD (q.length - 1) 0])).toNat .zero).proof=true->(nA ((k ++ [q.getD (q.length - 1) 0]).take ((k ++ [q.getD (q.length - 1) 0]).length - (rs.getD (cG rs (k ++ [q.getD (q.length - 1) 0])).toNat .zero).left.length)) (rs.getD (cG rs (k ++ [q.getD (q.length - 1) 0])).toNat .zero).proof).length=(rs.getD (cG rs (k ++ [q.getD (q.length - 1) 0])).toNat .zero).proof.length:=Kb;refine ao.seq fun _ g0=>.seq fun _ g1=>.region<|.q Z (ae Z)<|.q Z (c8 Z)<|.q Z (aj ki f8 U Z)<|.q Z (ak jM Z Z a2 Z)<|.q Z (bH (n:=q.length) eo Z ac.slc O (fJ _))<|.q Z (fu (b:=0) Z Z)<|.nil ?_;refine g1 _ _<|.if rfl (fun gg=>?_) (fun gg=>?_)
 ·refine ao.skip<|g0 _ _<|.block<|.seq fun _ g2=>.drawn [0,1,2,3,4,5,6,7,8,9,10,11,12] mixed Y Y Z<|.q Z Z Z (ae Z)<|.q Z Z Z (c8 Z)<|.q Z Z Z (aj ki f8 U Z)<|.q Z Z Z (ak jM Z Z a2 Z)<|.q Z Z Z (ae Z) ?_;refine bj.q Z Z Z (c8 Z)<|.q Z Z Z (aj ki f8 U Z)<|.q Z Z Z (ak jM Z Z a2 Z)<|.q Z Z Z (bH (n:=q.length) eo Z ac.slc O (fJ _))<|.q Z Z Z (jc (b:=1) Z Z O) ?_;obtain ⟨gS,gZ,gL,hc,gF,h6,h4,fE,g9,fL,gD,ec⟩:=bJ.at (i:=q.length - 1) ac.slc Oz O;refine bj.q Z Z Z (aJ eo nI Z fE Z g9)<|.q Z Z Z (ak M7 Z Z fL ((dh ec).trans (i7 O)))<|.q Z Z Z (ah Z)<|.done<|g2 _ _<|.seq fun _ g3=>.drawn [0,1,2,3,4,5,6,7,8,9,10,11,12,13,14] mixed Y Y Z<|.q Z Z Z (ae Z)<|.q Z Z Z (ae Z)<|.q Z Z Z (c8 Z) ?_;refine bj.q Z Z Z (aj ki f8 U Z)<|.q Z Z Z (ak jM Z Z a2 Z)<|.q Z Z Z (ae Z)<|.q Z Z Z (c8 Z)<|.q Z Z Z (aj ki f8 U Z)<|.q Z Z Z (ak jM Z Z a2 Z)<|.q Z Z Z (bH (n:=q.length) eo Z ac.slc O (fJ _))<|.q Z Z Z (jc (b:=1) Z Z O) ?_;obtain ⟨a4,bL,a5,gp,gf,gY⟩:=ac.nonnil (by intro q;have:=congrArg List.length q;simp only [bn,List.length_nil] at this;omega);subst gp;rw [bn,Nat.mul_one] at gf;have cu:=ac.take (k:=q.length - 1) O;rw [Nat.mul_one,mF] at cu;refine bj.q Z Z Z (ou eo nI Z Z O)<|.q Z Z Z (c8 Z)<|.q Z Z Z (aj ki f8 U Z)<|.l Z Z Z (fun _ _ f2 _=>aM (cs:=[.slice (some ⟨a4,0,none⟩) (q.length - 1) a5]) (c':=[kv,num (g),u,rv,.map (some mb),.slice (some ⟨a4,0,none⟩) (q.length - 1) a5,num ((m:Nat):Int),aX ([]),num ((n:Nat):Int),dv]) d2 rfl rfl rfl rfl f8 a2 (Nat.le_of_ble_eq_true rfl) rfl rfl fun A65 a8=>?_);have e9:=a8.keep _ _ a0.symm bc;have aZ:=bb.keep a8.keep ab;have bM:=ba.keep a8.keep D;have bO:=cu.keep a8.keep a1;have cX:=al cV aF aE a8.n a8.keep;refine f2 _ _ (aO.none Y)<|.done<|g3 _ _<|.seq fun _ g4=>.seq fun _ g5=>.region<|.q Z (ae Z)<|.q Z (c8 Z)<|.q Z (aj iU ni U Z)<|.q Z (aj ig f8 U Z) ?_;refine Ops.q Z (ak jM Z Z a8.get Z)<|.q Z (bH (n:=k.length) eo Z aZ.slc O (fJ _))<|.q Z (ah Z)<|.nil<|g5 _ _<|.join (fun f A1=>an [(78,.bool (decide (0 < k.length/\k.getD (k.length - 1) 0=q.getD (q.length - 1) 0 ^^^ 32))),(0,.pointer (some ⟨b0,0,none⟩)),(4,.pointer (some ⟨b4,0,none⟩)),(25,.pointer (some ⟨b0,0,none⟩)),(26,.pointer (some ⟨b0,0,none⟩)),(27,.pointer (some ⟨b0,5,none⟩)),(28,.slice (some ⟨a4,0,none⟩) bL a5),(29,num ((q.length:Nat):Int)),(30,.bool (decide (0 < q.length))),(31,.pointer (some ⟨b0,0,none⟩)),(32,.pointer (some ⟨b0,0,none⟩)),(33,.pointer (some ⟨b0,5,none⟩)),(34,.slice (some ⟨a4,0,none⟩) bL a5),(35,.pointer (some ⟨b0,0,none⟩)),(36,.pointer (some ⟨b0,0,none⟩)),(37,.pointer (some ⟨b0,5,none⟩)),(38,.slice (some ⟨a4,0,none⟩) bL a5),(39,num ((q.length:Nat):Int)),(40,num ((q.length - 1:Nat):Int)),(42,fA (q.getD (q.length - 1) 0)),(5,fA (q.getD (q.length - 1) 0)),(43,.pointer (some ⟨b0,0,none⟩)),(44,.pointer (some ⟨b0,0,none⟩)),(45,.pointer (some ⟨b0,0,none⟩)),(46,.pointer (some ⟨b0,5,none⟩)),(47,.slice (some ⟨a4,0,none⟩) bL a5),(48,.pointer (some ⟨b0,0,none⟩)),(49,.pointer (some ⟨b0,0,none⟩)),(50,.pointer (some ⟨b0,5,none⟩)),(51,.slice (some ⟨a4,0,none⟩) bL a5),(52,num ((q.length:Nat):Int)),(53,num ((q.length - 1:Nat):Int)),(54,.slice (some ⟨a4,0,none⟩) (q.length - 1) a5),(55,.pointer (some ⟨b0,0,none⟩)),(56,.pointer (some ⟨b0,5,none⟩)),(57,.pointer (some ⟨b0,0,none⟩)),(58,.pointer (some ⟨b0,0,none⟩)),(59,.pointer (some ⟨b0,0,none⟩)),(60,.pointer (some ⟨b0,0,none⟩)),(61,kv),(62,num ((k.length:Nat):Int)),(6,num ((k.length:Nat):Int))] f.e/\f.ds=[]/\A65=A1) ?_ ?_
  ·refine ao.region<|.q Z (ae Z)<|.q Z (fu (b:=0) Z Z)<|.q Z (ae Z)<|.part (t:=65) Z (fun gl=>?_) (fun gl=>?_)
   ·refine Ops.on Z Z<|.q Z (ae Z)<|.on Z Z<|.q Z (c8 Z)<|.on Z Z<|.q Z (aj iU ni U Z)<|.on Z Z<|.q Z (aj ig f8 U Z)<|.on Z Z<|.q Z (ak jM Z Z a8.get Z) ?_;refine Ops.on Z Z<|.q Z (ae Z)<|.on Z Z<|.q Z (jc (b:=1) Z Z O)<|.on Z Z ?_;obtain ⟨gX,h3,gM,he,gG,ha,h5,fI,gc,fM,gE,eg⟩:=bJ.at (i:=k.length - 1) aZ.slc Oz O;refine Ops.q Z (aJ eo nI Z fI Z gc)<|.on Z Z<|.q Z (ak M7 Z Z fM ((dh eg).trans (i7 O)))<|.on Z Z<|.q Z (ae Z)<|.on Z Z<|.q Z (KW (d:=32) Z Z)<|.on Z Z<|.q Z (Ei Z Z)<|.q Z (bi Z Z) ?_;refine Ops.nil ?_;exact ⟨an.cons (show some _=some _ from congrArg (fun b=>some (Value.bool b)) (show (decide ((k.getD (k.length - 1) 0)=((q.getD (q.length - 1) 0) ^^^ 32)))=decide (0 < k.length/\k.getD (k.length - 1) 0=q.getD (q.length - 1) 0 ^^^ 32) from (by simp only [‹0 < _›,true_and])))<|an.cons Z<|an.cons Z<|an.cons Z<|an.cons Z<|an.cons Z<|an.cons Z<|an.cons Z<|an.cons Z<|an.cons Z<|an.cons Z<|an.cons Z<|an.cons Z<|an.cons Z<|an.cons Z<|an.cons Z<|an.cons Z<|an.cons Z<|an.cons Z<|an.cons Z<|an.cons Z<|an.cons Z<|an.cons Z<|an.cons Z<|an.cons Z<|an.cons Z<|an.cons Z<|an.cons Z<|an.cons Z<|an.cons Z<|an.cons Z<|an.cons Z<|an.cons Z<|an.cons Z<|an.cons Z<|an.cons Z<|an.cons Z<|an.cons Z<|an.cons Z<|an.cons Z<|an.cons Z<|an.cons Z<|an.nil _,Z,Z⟩
   refine Ops.off Z Z Z Z<|.off Z Z Z Z<|.off Z Z Z Z<|.off Z Z Z Z<|.off Z Z Z Z<|.off Z Z Z Z<|.off Z Z Z Z<|.off Z Z Z Z<|.off Z Z Z Z<|.off Z Z Z Z ?_;refine Ops.off Z Z Z Z<|.off Z Z Z Z<|.q Z (bw Z Z)<|.nil ?_;exact ⟨an.cons (show some _=some _ from congrArg (fun b=>some (Value.bool b)) (show (false)=decide (0 < k.length/\k.getD (k.length - 1) 0=q.getD (q.length - 1) 0 ^^^ 32) from (by simp only [‹¬ 0 < _›,false_and,decide_false])))<|an.cons Z<|an.cons Z<|an.cons Z<|an.cons Z<|an.cons Z<|an.cons Z<|an.cons Z<|an.cons Z<|an.cons Z<|an.cons Z<|an.cons Z<|an.cons Z<|an.cons Z<|an.cons Z<|an.cons Z<|an.cons Z<|an.cons Z<|an.cons Z<|an.cons Z<|an.cons Z<|an.cons Z<|an.cons Z<|an.cons Z<|an.cons Z<|an.cons Z<|an.cons Z<|an.cons Z<|an.cons Z<|an.cons Z<|an.cons Z<|an.cons Z<|an.cons Z<|an.cons Z<|an.cons Z<|an.cons Z<|an.cons Z<|an.cons Z<|an.cons Z<|an.cons Z<|an.cons Z<|an.cons Z<|an.nil _,Z,Z⟩
  rintro ⟨fe,fd⟩ _ ⟨hE,rfl,rfl⟩;refine ao.forget hE<|.if rfl (fun gm=>?_) (fun gm=>?_)
  ·refine ao.seq fun _ g6=>.region<|.q Z (ae Z)<|.q Z (c8 Z)<|.q Z (aj iU ni U Z) ?_;have cZ:=cg (bs:=[some b0,blk kv]) cX (qz aE (sj aZ.lo nf));refine Ops.l Z (fun _ _ f3 _=>aK Z (EM 1 k b0 kv (num (g)) u rv (.map (some mb)) (.slice (some ⟨a4,0,none⟩) (q.length - 1) a5) (num ((m:Nat):Int)) (aX ([])) (num ((n:Nat):Int)) dv (A65.hide [some b0,blk kv]) A65 (cM A65 [some b0,blk kv]) (cr a8.wf) a8.get (cn (by simp)) (aZ.hide (by simp)) ab O) ?_);rintro hh A86 ⟨dW,rfl,aS,gA,bR,aC,bu⟩;have cH:=bF (bs:=[some b0,blk kv]) e9 (lQ a0.symm (ng ap ka));have g7:=aS.get _ _ cH;have ft:=aC.sep bM.own (gJ D (iq aA fW));have ev:=bM.off (gJ D (iq aA fW)) aS;have fv:=aC.sep bO.own (gJ a1 (iq az fW));have ex:=bO.off (gJ a1 (iq az fW)) aS;have ey:=aC.base cZ;have fn:=aC.seph cH;have fl:=cZ.trans aS;refine f3 _ _<|.nil<|g6 _ _<|.exit ?_;exact ⟨⟨q.take (q.length - 1),k.take (k.length - 1),n,d,m,f - 1,dW,.slice (some ⟨a4,0,none⟩) (q.length - 1) a5,dv⟩,jO Z Z,Z,⟨⟨Pb O O hrun ‹_›,by simp only [List.length_take];omega,hn,hd,hm,by simp only [List.length_take];omega⟩,fl,(c6 ey (congrArg aw ((by rfl)))),(c6 ex (congrArg aw ((by rfl)))),(c6 ev (congrArg cN ((by rfl)))),bR,g7,bu,a1,D,fn,ar,aa,fv,ft,aG⟩,O1⟩
  refine ao.skip<|g4 _ _<|.seq fun _ ez=>.region<|.q Z (ae Z)<|.q Z (ae Z)<|.q Z (c8 Z)<|.q Z (aj iU ni U Z)<|.q Z (aj ig f8 U Z)<|.q Z (ak jM Z Z a8.get Z) ?_;refine Ops.q Z (ae Z)<|.l Z (fun _ _ dD _=>aN (c:=[fA (q.getD (q.length - 1) 0)]) a8.wf rfl (ax eo nI z5 rfl U U rfl) fun A104 gC a6=>?_);have cv:=a6.le.get _ _ a8.get;have cB:=a6.le.get _ _ e9;have bS:=aZ.le a6.le;have bT:=bM.le a6.le;have bU:=bO.le a6.le;have dZ:=cX.trans a6.le;refine dD _ _<|.l Z (fun _ _ dG _=>cJ (ys:=[fA (q.getD (q.length - 1) 0)]) rfl rfl eo nI zc z5 rfl U eo (fun _ h=>by cases h) bS.own (bW (n:=1) a6.get Z) rfl rfl (by show (_ + _) * 1<=_;simp only [bn,List.length_cons,List.length_nil];(try simp only [List.length_append,List.length_cons,List.length_nil]);omega) Of fun A118 gN a3=>?_);rw [show ([fA (q.getD (q.length - 1) 0)]:List Value)=aw [q.getD (q.length - 1) 0] from rfl,iw] at a3;obtain ⟨bV,e0⟩:=Fresh.grow bS dZ aF a3;have eA:=a3.keep ab cv;have bp:=a3.ne ab a6.wf cv;have eC:=a3.keep ap cB;have c4:=a3.ne ap a6.wf cB;have c7:=bh.appd (show bh kv dv from aA) bT.own a6.wf a3;have d3:=bT.appd a3 aA;have cb:=bh.appd (show bh kv (.slice (some ⟨a4,0,none⟩) (q.length - 1) a5) from az) bU.own a6.wf a3;have dd:=bU.appd a3 az;refine dG _ _<|.q Z (c8 Z)<|.q Z (aj iU ni U Z)<|.q Z (aj ig f8 U Z) ?_;obtain ⟨av,ai,ag,fq,_⟩:=bV.own.slice;subst fq;refine Ops.l Z (fun _ _ dI _=>aM (cs:=[.slice av ai ag]) (c':=[.slice av ai ag,num (g),u,rv,.map (some mb),.slice (some ⟨a4,0,none⟩) (q.length - 1) a5,num ((m:Nat):Int),aX ([]),num ((n:Nat):Int),dv]) a3.wf rfl rfl rfl rfl f8 eA (Nat.le_of_ble_eq_true rfl) rfl rfl fun A137 a9=>?_);have cC:=a9.keep _ _ a0.symm eC;have bl:=d3.keep a9.keep D;have bm:=dd.keep a9.keep a1;have aI:=bV.keep a9.keep bp;have aR:=al e0 aF aE a9.n a9.keep;refine dI _ _<|.nil<|ez _ _<|.seq fun _ eG=>.region<|.q Z (ae Z)<|.l Z (fun _ _ dJ _=>aK Z (PD b0 (.slice av ai ag) ((g)) u rv mb (.slice (some ⟨a4,0,none⟩) (q.length - 1) a5) (num ((m:Nat):Int)) (aX ([])) (num ((n:Nat):Int)) dv rs (k ++ [q.getD (q.length - 1) 0]) _ _ A137 (by simp only [List.length_append,List.length_cons,List.length_nil];have:=(ir hs).2.1;omega) (fun r z=>by have:=mo hs z;omega) a9.get aI.slc (hr.le aR) (hI.le aR)) ?_);rintro gP A149 ⟨rfl,rfl⟩;refine dJ _ _<|.q Z (ah Z)<|.nil<|eG _ _<|.seq fun _ eL=>.region<|.q Z (ae Z)<|.q Z (pz Z Z)<|.nil<|eL _ _ ?_;refine ao.if rfl (fun fo=>?_) (fun fo=>?_)
  ·refine ao.region<|.q Z (ae Z)<|.q Z (ae Z) ?_;have ad:=cg (bs:=[some b0,blk (.slice av ai ag),blk (.slice (some ⟨a4,0,none⟩) (q.length - 1) a5),blk dv]) aR (qz aE (sj aI.lo (sj bm.lo (sj bl.lo nf))));refine Ops.l Z (fun _ _ dK cK=>Mw Z (Tg ((cG rs (k ++ [q.getD (q.length - 1) 0]))) ((cG rs (k ++ [q.getD (q.length - 1) 0])).toNat) (by have:=hrf (show ¬ cG rs (k ++ [q.getD (q.length - 1) 0]) < 0 by omega);omega) rs (k ++ [q.getD (q.length - 1) 0]) (q.take (q.length - 1)) d n m b0 (.slice av ai ag) g u rv mb (.slice (some ⟨a4,0,none⟩) (q.length - 1) a5) (aX ([])) dv (A137.hide [some b0,blk (.slice av ai ag),blk (.slice (some ⟨a4,0,none⟩) (q.length - 1) a5),blk dv]) A137 (cM A137 [some b0,blk (.slice av ai ag),blk (.slice (some ⟨a4,0,none⟩) (q.length - 1) a5),blk dv]) (cr a9.wf) a9.get (cn (by simp)) (aI.hide (by simp)) (bm.hide (by simp)) (bl.hide (by simp)) bp a1 D cb c7 aG (by have:=hrf (show ¬ cG rs (k ++ [q.getD (q.length - 1) 0]) < 0 by omega);have h2:=(ir hs).2.1;omega) (by have:=hrf (show ¬ cG rs (k ++ [q.getD (q.length - 1) 0]) < 0 by omega);simp only [List.length_take];have:=mo hs (bx (d:=au.zero) this.1);omega) (by have:=hrf (show ¬ cG rs (k ++ [q.getD (q.length - 1) 0]) < 0 by omega);omega) (hL.le ad) (hr.le ad) (hp.le ad)) ?_ (fun fD Cq157 aB=>cK _ _ (by (repeat first | with_reducible refine jZ ?_ | with_reducible refine jl ?_ | with_reducible refine iL ?_);exact Kr (⟨Ic (Ll O O hrun ‹_› (show ¬ cG rs (k ++ [q.getD (q.length - 1) 0]) < 0 by omega) (fun z=>aB.1 z)),aB.2.1,ad.trans aB.2.2.1,aB.2.2.2.1,aB.2.2.2.2⟩))));rintro gQ A156 ⟨cP,d1,cf,rfl,bD,gq,bC,aT,aV,aY,b6,b7,b8,bv,bA,bB,a7⟩;have aP:=bF (bs:=[some b0,blk (.slice av ai ag),blk (.slice (some ⟨a4,0,none⟩) (q.length - 1) a5),blk dv]) cC (lQ a0.symm (ng c4 (ng ar (ng aa ka))));have eN:=bD.get _ _ aP;have di:=aT.base ad;have e4:=aT.seph aP;have dj:=aV.base ad;have e5:=aV.seph aP;have dk:=aY.base ad;have e6:=aY.seph aP;have e1:=ad.trans bD;refine dK _ _<|.nil ?_;exact ⟨⟨(q.take (q.length - 1)) ++ (rs.getD ((cG rs (k ++ [q.getD (q.length - 1) 0])).toNat) .zero).right.reverse,((k ++ [q.getD (q.length - 1) 0]).take ((k ++ [q.getD (q.length - 1) 0]).length - (rs.getD ((cG rs (k ++ [q.getD (q.length - 1) 0])).toNat) .zero).left.length)),n + 1,d ++ (nA ((k ++ [q.getD (q.length - 1) 0]).take ((k ++ [q.getD (q.length - 1) 0]).length - (rs.getD ((cG rs (k ++ [q.getD (q.length - 1) 0])).toNat) .zero).left.length)) (rs.getD ((cG rs (k ++ [q.getD (q.length - 1) 0])).toNat) .zero).proof),m + ew (nA ((k ++ [q.getD (q.length - 1) 0]).take ((k ++ [q.getD (q.length - 1) 0]).length - (rs.getD ((cG rs (k ++ [q.getD (q.length - 1) 0])).toNat) .zero).left.length)) (rs.getD ((cG rs (k ++ [q.getD (q.length - 1) 0])).toNat) .zero).proof),f - 1,cP,d1,cf⟩,jO Z Z,Z,⟨⟨Ln O O hrun ‹_› (show ¬ cG rs (k ++ [q.getD (q.length - 1) 0]) < 0 by omega) a7,Kf hlen hkl (hrf (show ¬ cG rs (k ++ [q.getD (q.length - 1) 0]) < 0 by omega)).2.2.1 (hrf (show ¬ cG rs (k ++ [q.getD (q.length - 1) 0]) < 0 by omega)).2.1 O,by have:=a7.2.1;omega,by have h0:=hmk a7.1;have h9:=@List.length_append _ d (nA ((k ++ [q.getD (q.length - 1) 0]).take ((k ++ [q.getD (q.length - 1) 0]).length - (rs.getD (cG rs (k ++ [q.getD (q.length - 1) 0])).toNat .zero).left.length)) (rs.getD (cG rs (k ++ [q.getD (q.length - 1) 0])).toNat .zero).proof);have h8:d.length + (rs.getD (cG rs (k ++ [q.getD (q.length - 1) 0])).toNat .zero).proof.length<=100000:=a7.2.2.1;omega,a7.2.2.2,Oq hf a7.2.1 (by have h1:=hrf (show ¬ cG rs (k ++ [q.getD (q.length - 1) 0]) < 0 by omega);omega) O⟩,e1,(c6 di (congrArg aw ((by rfl)))),(c6 dj (congrArg aw ((by rfl)))),(c6 dk (congrArg cN ((by rfl)))),bC,eN,b6,b7,b8,e4,e5,e6,bv,bA,bB⟩,O1⟩
  refine ao.skip ?_;exact ⟨⟨q.take (q.length - 1),k ++ [q.getD (q.length - 1) 0],n,d,m,f - 1,.slice av ai ag,.slice (some ⟨a4,0,none⟩) (q.length - 1) a5,dv⟩,jO Z Z,Z,⟨⟨Lm O O hrun ‹_› (show cG rs (k ++ [q.getD (q.length - 1) 0]) < 0 by omega),by simp only [List.length_take,List.length_append,List.length_cons,List.length_nil];omega,hn,hd,hm,by simp only [List.length_take];omega⟩,aR,(c6 aI (congrArg aw ((by rfl)))),(c6 bm (congrArg aw ((by rfl)))),(c6 bl (congrArg cN ((by rfl)))),a9.get,cC,bp,a1,D,c4,ar,aa,cb,c7,aG⟩,O1⟩
 refine ao.exit<|fX _ _<|.seq fun _ eQ=>.region<|.q Z (ae Z)<|.q Z (ae Z)<|.q Z (c8 Z)<|.q Z (aj iU ni U Z)<|.q Z (aj ig f8 U Z)<|.q Z (ak jM Z Z a2 Z) ?_;refine Ops.l Z (fun _ _ dO _=>gU (s:=k) Z eo u9 u5 bb.slc ?_);refine dO _ _<|.q Z (c8 Z)<|.q Z (aj kj ie U Z)<|.q Z (aj mL fz U Z)<|.l Z (fun _ _ dS _=>aM (cs:=[aX (k)]) (c':=[kv,num (g),u,rv,.map (some mb),qv,num ((m:Nat):Int),aX (k),num ((n:Nat):Int),dv]) d2 rfl rfl rfl rfl fz a2 (Nat.le_of_ble_eq_true rfl) rfl rfl fun A172 ay=>?_);have eS:=ay.keep _ _ a0.symm bc;have bY:=ba.keep ay.keep D;have e2:=al cV aF aE ay.n ay.keep;refine dS _ _<|.nil<|eQ _ _<|.seq fun _ eT=>.region<|.q Z (ae Z)<|.q Z (c8 Z)<|.q Z (aj kj ie U Z)<|.q Z (am vu ie Z Z ay.get Z) ?_;obtain ⟨d0,cS,cc,fr,_⟩:=bY.own.slice;subst fr;refine Ops.l Z (fun _ _ dV _=>aM (cs:=[aX (k),num ((n:Nat):Int),.slice d0 cS cc]) (c':=[aX (k),num ((n:Nat):Int),.slice d0 cS cc]) ay.wf rfl rfl rfl rfl ie eS (Nat.le_of_ble_eq_true rfl) rfl rfl fun A183 aD=>?_);have eV:=aD.keep _ _ a0 ay.get;have dw:=bY.keep aD.keep aa;have e3:=al e2 aF dz aD.n aD.keep;refine dV _ _<|.nil<|eT _ _<|.ret ?_;repeat first | with_reducible refine bE ?_ | with_reducible refine bk ?_
 exact TX (dE vu ie Z aD.get Z eh) (⟨_,_,_,_,_,_,_,by rw [rZ (xU O O hrun)];rfl,e3,aD.wf,eV,by rw [rZ (xU O O hrun)];exact dw,D,by rw [rZ (xU O O hrun)];rfl⟩)
end Go.Proofs.YtjppkekmddjcfaaGreatDoor

namespace Go.Proofs.YtjppkekmddjcfaaGreatDoor
open Go Go.RowKit V
abbrev Qo (E:List (UInt8 × Value)) (c:UInt8):Value:=(lk E c).getD (.slice none 0 0)
structure kx (A0 A:AH) (E:List (UInt8 × Value)) (rs:List au) (i:Nat) (bs:List Nat):Prop where
  nd:(E.map (·.1)).Nodup
  fr:∀ c,Fresh A0 A (Qo E c) 1 (c9 (gw (rs.take i) c))
  ne:∀ c,∀ b ∈ bs,blk (Qo E c) ≠ some b
  sp:∀ c d,c ≠ d->bh (Qo E c) (Qo E d)
theorem _root_.Go.Proofs.YtjppkekmddjcfaaGreatDoor.V.Fresh.owk {A0 A B:AH} {v:Value} {n:Nat} {xs:List Value} (h:Fresh A0 A v n xs) (k:∀ b o,blk v=some b->A.get b=some o->B.get b=some o):Fresh A0 B v n xs:=⟨by
  rcases h.own with h | ⟨b',m,c,r,rcap,rfl,h2,h3⟩
  · exact .inl h
  · exact .inr ⟨b',m,c,r,rcap,Z,k _ _ Z h2,h3⟩,h.lo⟩
section
variable {A0 A A2 A3 A4:AH} {E:List (UInt8 × Value)} {rs:List au} {i m b:Nat} {bs:List Nat} {c d:UInt8} {v:Value} {o:eM}
theorem JK (c:UInt8):gw [] c=[]:=by simp [gw]
theorem kx.nil:kx A0 A [] rs 0 bs:=⟨by simp,fun c=>by rw [List.take_zero,JK];exact Fresh.nil _ _ _,fun c b _ q=>(by cases q),fun _ _ _=>bh.nil⟩
theorem vN {rs:List au} {i j:Nat} (h:j < i):(rs.take i).getD j .zero=rs.getD j .zero:=by
  simp [List.getD_eq_getElem?_getD,List.getElem?_take,h]
theorem F8 (hi:i < rs.length) (d:UInt8):gw (rs.take (i + 1)) d=if rL (rs.getD i .zero)=d then gw (rs.take i) d ++ [(i:Int)] else gw (rs.take i) d:=by
  have e:∀ k,k<=rs.length->gw (rs.take k) d=((List.range k).filter fun i=>decide (rL (rs.getD i .zero)=d)).map fun (i:Nat)=>(i:Int):=fun k hk=>by
    unfold gw
    rw [List.length_take,Nat.min_eq_left hk]
    congr 1
    apply List.filter_congr
    intro j hj
    rw [vN (List.mem_range.1 hj)]
  rw [e _ O,e _ O,List.range_succ,List.filter_append,List.map_append]
  by_cases h:rL (rs.getD i .zero)=d
  · rw [if_pos h,List.filter_cons,decide_eq_true h];rfl
  · simp only [if_neg h,List.filter_cons,List.filter_nil,decide_eq_false h];simp
theorem sU (d:UInt8):Qo (wI E c v) d=if d=c then v else Qo E d:=by
  show (lk (wI E c v) d).getD _=_
  rw [Rg]
  split <;> rfl
theorem kx.step (h:kx A0 A E rs i bs) (le:A.le A2) (D:A2.wf) (ap:lu A2 (Qo E c) 1 (c9 (gw (rs.take i) c ++ [(i:Int)])) v A3) (fr:Fresh A0 A3 v 1 (c9 (gw (rs.take i) c ++ [(i:Int)]))) (sb:sE A3 A4 m o) (hm:m ∈ bs)
    (hne:∀ b ∈ bs,blk v ≠ some b) (hi:i < rs.length) (hc:rL (rs.getD i .zero)=c):kx A0 A4 (wI E c v) rs (i + 1) bs:=by
  have hs:∀ d,d ≠ c->bh v (Qo E d):=fun d hd=>bh.appd (h.sp c d hd.symm) ((h.fr d).own.le le) D ap
  refine ⟨IP h.nd,fun d=>?_,fun d b hb=>?_,fun d e hde=>?_⟩
  · rw [sU,F8 hi,hc]
    by_cases hd:d=c
    · subst hd;rw [if_pos Z,if_pos Z];exact fr.keep sb.keep (hne m hm)
    · rw [if_neg hd,if_neg (fun q=>hd q.symm)]
      exact (((h.fr d).le le).appd ap (h.sp c d (fun q=>hd q.symm))).keep sb.keep (h.ne d m hm)
  · rw [sU];split
    · exact hne b hb
    · exact h.ne d b hb
  · rw [sU,sU]
    by_cases hd:d=c
    · subst hd;rw [if_pos Z,if_neg (fun q=>hde q.symm)];exact hs e (fun q=>hde q.symm)
    · rw [if_neg hd]
      by_cases he:e=c
      · subst he;rw [if_pos Z];exact (hs d hd).symm
      · rw [if_neg he];exact h.sp d e hde
theorem kx.map {rw:Bool} {es:Array MapEntry} {ck:Nat} (h:kx A0 A E rs i bs) (hi:rs.length<=i) (g:A.get m=some (.obj rw (.map es ck))) (hE:dC fA es E) (hb:b ∈ bs) (hm:m ≠ b):ly (A.hide [some b]) m rs:=by
  refine ⟨rw,es,ck,E,bF g (lQ hm ka),hE,fun c=>?_⟩
  have:=((h.fr c).off (bs:=[some b]) (gJ (h.ne c b hb) fW) (AH.le.refl _)).slc
  rwa [List.take_of_length_le hi] at this
def kb (A0 A:AH) (b:Nat):AH:=⟨A.n,fun k=>if (A0.get k).isNone=true/\k ≠ b then A.get k else none⟩
theorem GH {b:Nat}:(kb A0 A b).le (A.hide [some b]):=⟨Nat.le_refl _,fun k o h=>by
  simp only [kb] at h
  split at h
  · rename_i q;exact bF h (lQ q.2 ka)
  · cases h⟩
theorem GI {b:Nat} (wf:A.wf):(kb A0 A b).wf:=fun k o h=>by
  simp only [kb] at h
  split at h
  · exact wf k o h
  · cases h
theorem zw {b k:Nat} (h:A0.get k=some o):(kb A0 A b).get k=none:=by
  simp only [kb];rw [if_neg];rw [h];simp
theorem zx {b:Nat}:(kb A0 A b).get b=none:=by simp [kb]
theorem kx.only {rw:Bool} {es:Array MapEntry} {ck:Nat} (h:kx A0 A E rs i bs) (hi:rs.length<=i) (g:A.get m=some (.obj rw (.map es ck))) (hE:dC fA es E) (hb:b ∈ bs) (hm:m ≠ b) (h0:A0.get m=none):ly (kb A0 A b) m rs:=by
  have key:∀ k,A0.get k=none->k ≠ b->(kb A0 A b).get k=A.get k:=fun k h1 h2=>by simp only [kb];rw [if_pos ⟨by rw [h1];rfl,h2⟩]
  refine ⟨rw,es,ck,E,by rw [key m h0 hm];exact g,hE,fun c=>?_⟩
  have:=((h.fr c).owk (B:=kb A0 A b) (fun k o hk ho=>by rw [key k ((h.fr c).lo k hk) (fun z=>h.ne c b hb (by rw [hk,z]))];exact ho)).slc
  rwa [List.take_of_length_le hi] at this
theorem SI {p:Nat->Prop} {a b:Nat} (ha:p a) (hb:p b):∀ c ∈ [a,b],p c:=fun c hc=>by
  simp only [List.mem_cons,List.not_mem_nil,or_false] at hc
  rcases hc with rfl | rfl
  · exact ha
  · exact hb
theorem qk {v:Value} {n:Nat} {l:List Value} (h:nP A v n l) (g:A.get b=none):blk v ≠ some b:=fun q=>by
  obtain ⟨o,ho⟩:=h.blkget q;rw [g] at ho;cases ho
theorem mW (le:A.le A2) (h:A2.get b=none):A.get b=none:=by
  cases q:A.get b with
  | none=>rfl
  | some o=>rw [le.get b o q] at h;cases h
theorem Gj {v:Value} {n:Nat} {l:List Value} (le:A.le A2) (h:Fresh A2 A3 v n l):∀ b,blk v=some b->A.get b=none:=fun b hb=>mW le (h.lo b hb)
theorem td {s v:Value} {n:Nat} {l:List Value} (le:A.le A2) (wf:A.wf) (ap:lu A2 s n l v A3) (h:∀ b,blk s=some b->A.get b=none):∀ b,blk v=some b->A.get b=none:=fun b hb =>
  (ap.blk b hb).elim (fun q=>h b q) fun q=>aL wf (Nat.le_trans le.n q)
theorem tc {s v:Value} {n:Nat} {l:List Value} (le:A.le A2) (wf:A.wf) (ap:lu A2 s n l v A3) (h:∀ b,blk s=some b->A.get b=none):A.le A3 :=
  ⟨Nat.le_trans le.n ap.n,fun b o g=>ap.get b o (le.get b o g) fun q=>by rw [h b q] at g;cases g⟩
theorem vO {bs:List (Option Nat)} (le:A.le A2):(A.hide bs).le (A2.hide bs):=cg ((cM A bs).trans le) fun b q=>cn q
end
def cy (rs:List au) (w:List UInt8):Option IZ:=if 20000 < w.length then none else mn rs w
section
variable {g:Int} {l:List (List UInt8)} {rs:List au} {w:List UInt8}
theorem zH (h:co g w=0):uE g rs w=cy rs w:=by
  unfold uE cy
  by_cases q:w.length<=20000
  · rw [if_pos ⟨h,q⟩,if_neg O]
  · rw [if_neg (fun z=>q z.2),if_pos O]
theorem C8 (h:(!cx g l rs)=true):mq g l rs w=.zero/\ke g l rs w=100:=RY (by simpa using h)
theorem C9 (h:(!cx g l rs)=false) (h2:¬ co g w=0):mq g l rs w=.zero/\ke g l rs w=4:=by
  rw [(sa (by simpa using h)).1,(sa (by simpa using h)).2];exact Rx h2
theorem Da (h:(!cx g l rs)=false) (h2:¬ ¬ co g w=0) (q:(!(cy rs w).isSome)=true):mq g l rs w=.zero/\ke g l rs w=2:=by
  have h2:=Decidable.not_not.1 h2
  rw [(sa (by simpa using h)).1,(sa (by simpa using h)).2,Ib,rU,zH h2,oC q]
  simp [h2,cI]
theorem Db (h:(!cx g l rs)=false) (h2:¬ ¬ co g w=0) (q:(!(cy rs w).isSome)=false):mq g l rs w=cI (cy rs w)/\ke g l rs w=0:=by
  have h2:=Decidable.not_not.1 h2
  rw [(sa (by simpa using h)).1,(sa (by simpa using h)).2,Ib,rU,zH h2]
  simp_all
theorem oL (hs:cx g l rs=true):∀ r ∈ rs,0 < r.left.length/\r.left.length<=1000000:=fun r hr=>by have:=mo hs hr;omega
theorem ls (hs:cx g l rs=true):rs.length<=1000000:=by have:=(ir hs).2.1;omega
end
end Go.Proofs.YtjppkekmddjcfaaGreatDoor

namespace Go.Proofs.YtjppkekmddjcfaaGreatDoor
open Go Go.RowKit V
set_option maxRecDepth 100000

theorem OD {A:AH} {n:Nat} {a:List UInt8} {i:Int} {v:Value} {xs:List Value} (h:bJ A n v xs):nF [aX a,num i,v]=true:=by
  obtain ⟨p,k,c,rfl,_⟩:=h;rfl
theorem i4 {A:AH} {k b:Nat} {o x:eM} (h:A.get b=some x) (hn:b ≠ k):(A.set k o).get b=some x:=(AH.set_get_ne _ _ hn).trans h
theorem pQ {A0 A:AH} {k:Nat} {o:eM} (le:A0.le A) (D:A0.wf) (h:A0.get k=none):A0.le (A.set k o):=al le D h rfl fun b' o' hn g=>i4 g hn
theorem rd (p q:Value) (A:AH):jK Tryz.prog 105 #[p,q] .returning A (fun en u' A1=>en=.returned (fg [])/\u'=.returning/\A=A1):=by
  refine jK.enter (args:=[p,q]) Tryz.func105 Z (by rw [Tryz.ntmps105];exact Nat.le_of_ble_eq_true rfl) (fun wf=>?_)
  have hn:Tryz.f105.ntmps=12:=Tryz.ntmps105
  have hr:Tryz.f105.results = #[]:=Tryz.results105
  rw [hn,hr]
  refine pH.seq (pH.region Z (rp.recoverNil Z Z Z O (fun _ _=>rfl) (rp.nil ?_)))
  refine pH.of_run ?_
  refine ao.block ?_
  refine ao.seq fun K3 h4=>?_
  refine ao.region ?_
  refine Ops.val (v:=.bool true) Z Z (fun a ha w hw=>?_) ?_
  · have h5:=c0 (x:=.tmp 5) ha Z
    simp only [execOp,h5]
    simp [Act.eval,go_sem]
  refine Ops.nil (h4 _ _ ?_)
  refine ao.cond_true Z ?_
  refine ao.region<|.q Z (ah Z)<|.nil ?_
  exact ⟨Z,[],Z,Z,Z,Z⟩

theorem Th:du Tryz.prog 149=some 0:=by kernel_rfl
theorem Sy:kA Tryz.prog 37 []=some (.agg #[aX [],num 0,.slice none 0 0]):=by kernel_rfl

theorem yb (a b:Nat) (c1 c2:List Value) (k1 k2:Nat) (older:List PanicEntry) (A:AH) (hab:a ≠ b) (h1:A.get a=some (.row true c1 k1)) (l1:3<=c1.length) (h2:A.get b=some (.row true c2 k2)) (l2:1<=c2.length) :
    jK Tryz.prog 105 #[.pointer (some ⟨a,0,none⟩),.pointer (some ⟨b,0,none⟩)] (.panicking ({ v:=.iface 149 (.agg #[]),recovered:=false } :: older)) A (fun en u' A1=>en=.returned (fg [])/\u'=.panicking ({ v:=.iface 149 (.agg #[]),recovered:=true } :: older) /\
      A1=(((A.new (.row true [] 0)).set A.n (.row true [] 0)).set a (.row true (nG c1 0 [aX [],num 0,.slice none 0 0]) k1)).set b (.row true (nG c2 0 [.bool false]) k2)):=by
  refine jK.enter (args:=[_,_]) Tryz.func105 Z (by rw [Tryz.ntmps105];exact Nat.le_of_ble_eq_true rfl) (fun wf=>?_)
  have hn:Tryz.f105.ntmps=12:=Tryz.ntmps105
  have hr:Tryz.f105.results = #[]:=Tryz.results105
  rw [hn,hr]
  refine pH.seq (pH.region Z (rp.recover Z Z Z O (fun _ _=>rfl) (rp.nil ?_)))
  refine pH.of_run ?_
  refine ao.block ?_
  refine ao.seq fun K3 h4=>?_
  refine ao.region ?_
  refine Ops.val (v:=.bool false) Z Z (fun a ha w hw=>?_) ?_
  · have h5:=c0 (x:=.tmp 5) ha Z
    simp only [execOp,h5]
    simp [Act.eval,go_sem]
  refine Ops.nil (h4 _ _ ?_)
  refine ao.cond_false Z ?_
  refine ao.seq fun K5 h6=>?_
  refine ao.region ?_
  refine Ops.val (v:=.tuple #[.agg #[],.bool true]) Z Z (fun a ha w hw=>?_) ?_
  · have h5:=c0 (x:=.tmp 5) ha Z
    simp only [execOp,h5]
    simp [Act.eval,go_sem]
    rw [CM Tryz.underlying149];rfl
  refine Ops.q Z (bf Z Z)<|.q Z (bf Z Z)<|.nil (h6 _ _ ?_)
  refine ao.cond_true Z ?_
  refine ao.seq fun K7 h8=>?_
  refine ao.region ?_
  refine Ops.l rfl fun K Kp hK _=>yh (z:=.agg #[]) (cs:=[]) ML Z (hK _ _ ?_)
  refine Ops.l rfl fun K Kp hK _=>oT (cs:=[]) Z Z Z Th Z (AH.new_get_same _ _) (by simp) Z (hK _ _ ?_)
  refine Ops.nil (h8 _ _ ?_)
  have ha:=wf a _ h1
  have hb:=wf b _ h2
  refine ao.region ?_
  refine Ops.q Z (cR Z Sy) ?_
  refine Ops.l rfl fun K Kp hK _=>oT (cs:=[aX [],num 0,.slice none 0 0]) (c:=c1) (cap:=k1) Z Z Z ie Z (by rw [AH.set_get_ne _ _ (by show a ≠ A.n;omega),AH.new_get_ne _ _ (by show a ≠ A.n;omega)];exact h1) (by simpa using l1) Z (hK _ _ ?_)
  refine Ops.l rfl fun K Kp hK _=>oT (cs:=[.bool false]) (c:=c2) (cap:=k2) Z Z Z lJ Z (by rw [AH.set_get_ne _ _ (by show b ≠ a;omega),AH.set_get_ne _ _ (by show b ≠ A.n;omega),AH.new_get_ne _ _ (by show b ≠ A.n;omega)];exact h2) (by simpa using l2) Z (hK _ _ ?_)
  refine Ops.nil ?_
  exact ⟨Z,[],Z,Z,Z,Z⟩


theorem po (w:List UInt8) (rs:List au) (l:List (List UInt8)) (b0:Nat) (g:Int) (u rv:Value) (mb:Nat) (x0 x5 x6 x7 x8 x9:Value) (A0 A:AH) (a2:A0.le A) (D:A0.wf)
    (hb:A.get b0=some (.row true [x0,num g,u,rv,.map (some mb),x5,x6,x7,x8,x9] 10)) (a8:A0.get b0=none) (hs:cx g l rs=true) (hL:eF A0) (hr:bJ A0 3 rv (ci rs)) (hp:Proofs A0 rs) (hI:ly A0 mb rs) :
    bG Tryz.prog 60 #[.pointer (some ⟨b0,0,none⟩),aX (w)] A (fun v A1=>∃ V y0 y5 y6 y7 y8 y9,v=.tuple #[.agg #[aX (cI (cy rs w)).word,num (((cI (cy rs w)).steps:Nat):Int),V],.bool (cy rs w).isSome]/\A0.le A1/\A1.wf /\
      A1.get b0=some (.row true [y0,num g,u,rv,.map (some mb),y5,y6,y7,y8,y9] 10)/\Fresh A0 A1 V 3 (cN (cI (cy rs w)).disk)/\blk V ≠ some b0):=by
  refine wK.ret (enterD (e:=[(0,.pointer (some ⟨b0,0,none⟩)),(1,aX w)]) (args:=[.pointer (some ⟨b0,0,none⟩),aX w]) Tryz.call60 Tryz.func60 Z Tryz.results60 Tryz.ntmps60 Z Z Z (fun wf=>?_))
  have ac:b0 < A.n:=wf _ _ hb
  have n1:b0 ≠ A.n:=by omega
  have n2:b0 ≠ A.n + 1:=by omega
  have n3:A.n + 1 ≠ A.n:=by omega
  have a5:∀ o1 o2:eM,A.le ((A.new o1).new o2):=fun o1 o2=>AH.le_new (AH.le_new (AH.le.refl A) wf o1) wf o2
  have g0:∀ b,A.n<=b->A0.get b=none:=fun b h=>aL D (Nat.le_trans a2.n h)
  refine ao.seq fun K1 h1=>?_
  refine ao.region ?_
  refine Ops.l rfl fun K Kp hK _=>yh (z:=.agg #[aX [],num 0,.slice none 0 0]) (cs:=[aX [],num 0,.slice none 0 0]) AN Z (hK _ _ ?_)
  refine Ops.l rfl fun K Kp hK _=>yh (z:=.bool false) (cs:=[.bool false]) z4 Z (hK _ _ ?_)
  refine Ops.nil (h1 _ _ ?_)
  have a9:=AH.wf_new wf (.row true [aX [],num 0,.slice none 0 0] 3)
  have a3:=AH.wf_new a9 (.row true [.bool false] 1)
  have a1:=a5 (.row true [aX [],num 0,.slice none 0 0] 3) (.row true [.bool false] 1)
  have e1:((A.new (.row true [aX [],num 0,.slice none 0 0] 3)).new (.row true [.bool false] 1)).get A.n=some (.row true [aX [],num 0,.slice none 0 0] 3):=by
    rw [AH.new_get_ne _ _ (by show A.n ≠ A.n + 1;omega)];exact AH.new_get_same _ _
  have e2:((A.new (.row true [aX [],num 0,.slice none 0 0] 3)).new (.row true [.bool false] 1)).get (A.n + 1)=some (.row true [.bool false] 1):=AH.new_get_same _ _
  have e0:=a1.get _ _ hb
  have nB:((A.new (.row true [aX [],num 0,.slice none 0 0] 3)).new (.row true [.bool false] 1)).n=A.n + 2:=rfl
  generalize ((A.new (.row true [aX [],num 0,.slice none 0 0] 3)).new (.row true [.bool false] 1))=B at *
  have leB:=a2.trans a1
  refine ao.seq fun K2 h2=>?_
  refine ao.region ?_
  refine Ops.q Z (lg Z Z) ?_
  refine Ops.defer (d:={ target:=.fn (.func 105) #[.pointer (some ⟨A.n,0,none⟩),.pointer (some ⟨A.n + 1,0,none⟩)],args:=#[] }) Z Z (fun a ha w hw=>?_) ?_
  · have h6:=c0 (x:=.tmp 6) ha Z
    simp only [execOp,resolve,h6]
    simp [Deferred.ofValue]
  refine Ops.nil (h2 _ _ ?_)
  refine ao.seq fun K3 h3=>?_
  refine ao.seq fun K3' a4=>?_
  refine ao.region ?_
  refine Ops.q Z (ae Z)<|.q Z (d6 u9 Z) ?_
  refine Ops.q Z (fu (b:=20000) Z Z) ?_
  refine Ops.nil (a4 _ _ ?_)
  refine ao.if (p:=20000 < w.length) Z (fun hl=>?_) (fun hl=>?_)
  · have et:cy rs w=none:=if_pos hl
    refine ao.seq fun K5 h5=>?_
    refine ao.region ?_
    refine Ops.q Z (cR Z Sy) ?_
    refine Ops.l rfl fun K Kp hK _=>oT (cs:=[aX [],num 0,.slice none 0 0]) (c:=[aX [],num 0,.slice none 0 0]) (cap:=3) Z Z Z ie Z e1 (by simp) Z (hK _ _ ?_)
    refine Ops.l rfl fun K Kp hK _=>oT (cs:=[.bool false]) (c:=[.bool false]) (cap:=1) Z Z Z lJ Z (i4 e2 n3) (by simp) Z (hK _ _ ?_)
    refine Ops.nil (h5 _ _ ?_)
    refine ao.ret ?_
    show kY _ _ _ _ _ _ _
    refine ⟨by simp,_,_,105,_,Z,(fun w=>rfl),(rd _ _ _).mono ?_⟩
    rintro en u' A1 ⟨rfl,rfl,rfl⟩
    refine ⟨[.agg #[aX [],num 0,.slice none 0 0],.bool false],?_,?_⟩
    · exact gt.cell Z (ob vu ie (i4 (AH.set_get_same _ _ _) n3.symm) Z) (gt.cell Z (oc vm (AH.set_get_same _ _ _) Z) gt.nil)
    · rw [et]
      have a0:=AH.wf_set a3 (k:=A.n) O (.row true (nG [aX [],num 0,.slice none 0 0] 0 [aX [],num 0,.slice none 0 0]) 3)
      refine ⟨.slice none 0 0,x0,x5,x6,x7,x8,x9,rfl,?_,AH.wf_set a0 (by show A.n + 1 < B.n;omega) _,?_,Fresh.nil _ _ _,fun q=>by cases q⟩
      · exact pQ (pQ leB D (g0 A.n (Nat.le_refl _))) D (g0 (A.n + 1) O)
      · exact i4 (i4 e0 n1) n2
  refine ao.skip (h3 _ _ ?_)
  have et:cy rs w=mn rs w:=if_neg hl
  refine ao.seq fun K5 h5=>?_
  refine ao.region ?_
  refine Ops.q Z (ae Z)<|.q Z (ae Z) ?_
  have hle:=cg (A:=B) (bs:=[some b0]) leB (fun b q=>by rw [List.mem_singleton] at q;cases q;exact a8)
  have hwf:=cr (bs:=[some b0]) a3
  have hno:(B.hide [some b0]).get b0=none:=cn (List.mem_singleton.2 rfl)
  have k1:=bF (bs:=[some b0]) e1 Ox
  have k2:=bF (bs:=[some b0]) e2 Ox
  refine Ops.l rfl fun K Kp hK hKp=>Mw Z (RN w rs l b0 g u rv mb x0 x5 x6 x7 x8 x9 (B.hide [some b0]) B (cM _ _) hwf e0 hno hs O (hL.le hle) (hr.le hle) (hp.le hle) (hI.le hle)) (fun v C hv=>hK _ _ ?_) (fun ch C hc=>hKp _ _ ?_)
  · obtain ⟨V,y0,y5,y6,y7,y8,y9,rfl,leC,wfC,gC,frC,neC,isC⟩:=hv
    have a6:=frC.seph k1
    have a7:=frC.seph k2
    have one:nF [aX (cI (mn rs w)).word,num (((cI (mn rs w)).steps:Nat):Int),V]=true:=OD frC.slc
    refine Ops.l rfl fun K Kp hK _=>oT (cs:=[aX (cI (mn rs w)).word,num (((cI (mn rs w)).steps:Nat):Int),V]) (c:=[aX [],num 0,.slice none 0 0]) (cap:=3) Z Z Z ie Z (leC.get _ _ k1) (by simp) one (hK _ _ ?_)
    refine Ops.l rfl fun K Kp hK _=>oT (cs:=[.bool true]) (c:=[.bool false]) (cap:=1) Z Z Z lJ Z (i4 (leC.get _ _ k2) n3) (by simp) Z (hK _ _ ?_)
    refine Ops.nil (h5 _ _ ?_)
    refine ao.ret ?_
    show kY _ _ _ _ _ _ _
    refine ⟨by simp,_,_,105,_,Z,(fun w=>rfl),(rd _ _ _).mono ?_⟩
    rintro en u' A1 ⟨rfl,rfl,rfl⟩
    refine ⟨[.agg #[aX (cI (mn rs w)).word,num (((cI (mn rs w)).steps:Nat):Int),V],.bool true],?_,?_⟩
    · exact gt.cell Z (ob vu ie (i4 (AH.set_get_same _ _ _) n3.symm) Z) (gt.cell Z (oc vm (AH.set_get_same _ _ _) Z) gt.nil)
    · rw [et]
      have X:=hle.trans leC
      have nC:=leC.n
      have nH:(B.hide [some b0]).n=B.n:=rfl
      have a0:=AH.wf_set wfC (k:=A.n) O (.row true (nG [aX [],num 0,.slice none 0 0] 0 [aX (cI (mn rs w)).word,num (((cI (mn rs w)).steps:Nat):Int),V]) 3)
      refine ⟨V,y0,y5,y6,y7,y8,y9,by rw [isC];rfl,?_,AH.wf_set a0 (by show A.n + 1 < C.n;omega) _,?_,?_,neC⟩
      · exact pQ (pQ X D (g0 A.n (Nat.le_refl _))) D (g0 (A.n + 1) O)
      · exact i4 (i4 gC n1) n2
      · exact ((frC.base hle).keep (fun b' o hn h=>i4 h hn) a6).keep (fun b' o hn h=>i4 h hn) a7
  · obtain ⟨hn,rfl,leC,wfC,y0,y5,y6,y7,y8,y9,gC⟩:=hc
    show kY _ _ _ _ _ _ _
    refine ⟨by simp,_,_,105,_,Z,(fun w=>rfl),(yb A.n (A.n + 1) _ _ 3 1 [] C O (leC.get _ _ k1) (by simp) (leC.get _ _ k2) (by simp)).mono ?_⟩
    rintro en u' A1 ⟨rfl,rfl,rfl⟩
    refine ⟨[.agg #[aX [],num 0,.slice none 0 0],.bool false],?_,?_⟩
    · exact gt.cell Z (ob vu ie (i4 (AH.set_get_same _ _ _) n3.symm) Z) (gt.cell Z (oc vm (AH.set_get_same _ _ _) Z) gt.nil)
    · rw [et,hn]
      have X:=hle.trans leC
      have nC:=leC.n
      have nH:(B.hide [some b0]).n=B.n:=rfl
      have lbC:=wfC _ _ gC
      have a0:=AH.wf_new wfC (.row true [] 0)
      have aa:=AH.wf_set a0 (k:=C.n) (by show C.n < C.n + 1;omega) (.row true [] 0)
      have ab:=AH.wf_set aa (k:=A.n) (by show A.n < C.n + 1;omega) (.row true (nG [aX [],num 0,.slice none 0 0] 0 [aX [],num 0,.slice none 0 0]) 3)
      have l1:=AH.le_new X D (.row true [] 0)
      have l2:A0.le ((C.new (.row true [] 0)).set C.n (.row true [] 0)):=pQ l1 D (aL D X.n)
      refine ⟨.slice none 0 0,y0,y5,y6,y7,y8,y9,rfl,?_,AH.wf_set ab (by show A.n + 1 < C.n + 1;omega) _,?_,Fresh.nil _ _ _,fun q=>by cases q⟩
      · exact pQ (pQ l2 D (g0 A.n (Nat.le_refl _))) D (g0 (A.n + 1) O)
      · exact i4 (i4 (i4 ((AH.new_get_ne _ _ O).trans gC) O) n1) n2
end Go.Proofs.YtjppkekmddjcfaaGreatDoor

namespace Go.Proofs.YtjppkekmddjcfaaGreatDoor
open Go Go.RowKit V
set_option maxRecDepth 100000
theorem mg:Tryz.prog.info? 3=some Tryz.t3:=by kernel_rfl
theorem SL:dq Tryz.prog 147=some [(0,1),(1,3),(4,1),(5,1),(6,1),(7,3)]:=by kernel_rfl
theorem Uc:type_of% @Tryz.underlying147:=@Tryz.underlying147
theorem Uk:cO Tryz.prog 147=some (.agg #[.slice none 0 0,.int .i64 0,.slice none 0 0,.slice none 0 0,.map none,.slice none 0 0,.int .i64 0,.string ⟨⟨[]⟩⟩,.int .i64 0,.slice none 0 0]):=by kernel_rfl
theorem z3:cO Tryz.prog 3=some (.int .i64 0):=by kernel_rfl

theorem jU (g:Int) (u:Value) (l:List (List UInt8)) (rv:Value) (rs:List au) (A:AH) (hn:rs.length<=1000000) (e0:∀ r ∈ rs,0 < r.left.length/\r.left.length<=1000000) (hu:bJ A 1 u (dc l)) (hr:bJ A 3 rv (ci rs)) (hp:Proofs A rs):bG Tryz.prog 59 #[.agg #[num (g),u,rv]] A (fun v A1=>∃ b mb,v=.pointer (some ⟨b,0,none⟩)/\A.le A1/\A1.wf/\A1.get b=some (.row true [.slice none 0 0,num g,u,rv,.map (some mb),.slice none 0 0,num 0,aX [],num 0,.slice none 0 0] 10)/\A.get b=none/\ly (A1.hide [some b]) mb rs/\∃ M,ly M mb rs/\M.wf/\M.le A1/\M.get b=none/\∀ k o,A.get k=some o->M.get k=none):=by
 refine iy Tryz.call59 Tryz.func59 Z Tryz.results59 Tryz.ntmps59 Z (fun wf=>?_);have e2:=AH.le.refl A;refine ao.seq fun _ h2=>.region<|.l Z (fun _ _ dZ _=>ej wf rfl rfl fun A5 b4 aF=>?_);have bO:=e2.trans aF.le;refine dZ _ _<|.q Z (ah Z)<|.nil<|h2 _ _<|.seq fun _ h9=>.region<|.q Z (am dn cT Z Z aF.get Z)<|.l Z (fun _ _ cc _=>mu aF.wf fun A12 a4 ab=>?_);have ai:=aL wf (Nat.le_trans bO.n ab.lo);have dj:=ab.le.get _ _ aF.get;have b0:=bO.trans ab.le;refine cc _ _<|.q Z (cR Z (aU Uc Uk SL Z))<|.l Z (fun _ _ cf _=>ej ab.wf rfl rfl fun A18 a9 ag=>?_);have a1:=ne_new ab.wf ab.get ag.lo;have aP:=aL wf (Nat.le_trans b0.n ag.lo);have dk:=ag.le.get _ _ dj;have dv:=ag.le.get _ _ ab.get;have b1:=b0.trans ag.le;refine cf _ _<|.q Z (ah Z)<|.nil<|h9 _ _<|.seq fun _ dw=>.seq fun _ dz=>.region<|.q Z (aj de fw U Z)<|.q Z (ak ii Z Z dk Z)<|.q Z (bH (n:=rs.length) jw Z (hr.le b1) O (dm _)) ?_;refine Ops.q Z (ae Z)<|.nil<|dz _ _<|.block<|.loop (X:=Nat × Array MapEntry × Nat × List (UInt8 × Value)) (fun ⟨i,es,ck,E⟩=>[(3,.pointer (some ⟨a9,0,none⟩)),(12,rv),(13,num ((rs.length:Nat):Int)),(14,num ((i:Nat):Int))]) (fun ⟨i,es,ck,E⟩ B=>(i<=rs.length/\dC fA es E)/\A.le B/\B.get a4=some (.obj true (.map es ck))/\B.get a9=some (.row true [.slice none 0 0,num (g),u,rv,.map (some a4),.slice none 0 0,num ((0:Nat):Int),aX ([]),num ((0:Nat):Int),.slice none 0 0] 10)/\(kx A B E rs i [a4,a9])) (fun ⟨i,es,ck,E⟩=>rs.length - i) (⟨0,#[],0,[]⟩) (ks Z Z Z Z) (⟨⟨Nat.zero_le _,dC.nil⟩,b1,dv,ag.get,kx.nil⟩) ?_;rintro ⟨i,es,ck,E⟩ B28 ⟨⟨hi,hME⟩,az,a8,aa,hIO⟩;refine ao.wf fun a5=>?_;have hvv:=hIO.fr ((rs.getD i .zero).left.getD ((rs.getD i .zero).left.length - 1) 0);have ac:=hIO.ne ((rs.getD i .zero).left.getD ((rs.getD i .zero).left.length - 1) 0) a4 (by simp);have a6:=hIO.ne ((rs.getD i .zero).left.getD ((rs.getD i .zero).left.length - 1) 0) a9 (by simp);have bM:=AH.le.refl B28;have hil:=yZ (rs.take i) ((rs.getD i .zero).left.getD ((rs.getD i .zero).left.length - 1) 0);have htl:(rs.take i).length<=i:=by simp;omega
 have hll:=fun q:i < rs.length=>e0 _ (bx (d:=au.zero) q);refine ao.seq fun _ dD=>.region<|.q Z (cA Z Z)<|.nil<|dD _ _<|.seq fun _ dG=>.if rfl (fun e3=>?_) (fun e3=>?_)
 ·refine ao.skip<|dG _ _<|.seq fun _ bC=>.block<|.seq fun _ dI=>.region<|.q Z (ae Z) ?_;obtain ⟨ea,en,e9,ey,e7,ex,ev,d3,e1,dd,bR,e6⟩:=bJ.at (i:=i) (hr.le az) Oj O;refine Ops.q Z (aJ jw d8 Z d3 Z e1)<|.q Z (am nw d8 Z Z dd (bR.trans (congrArg some (fZ O))))<|.l Z (fun _ _ ch _=>ca a5 rm rfl fun A42 ec V=>?_);have aA:=ne_new a5 a8 V.lo;have aB:=ne_new a5 aa V.lo;have d0:=hvv.own.ne_new a5 V.lo;have aR:=aL wf (Nat.le_trans az.n V.lo);have aS:=aL a5 (Nat.le_trans bM.n V.lo);have dJ:=V.le.get _ _ a8;have dK:=V.le.get _ _ aa;have bT:=hvv.le V.le;have cP:=az.trans V.le;have cH:=bM.trans V.le;refine ch _ _<|.q Z (ah Z)<|.l Z (fun _ _ cu _=>aM (cs:=[aX ((rs.getD i .zero).left),aX ((rs.getD i .zero).right),(rs.getD i .zero).pv]) (c':=[aX ((rs.getD i .zero).left),aX ((rs.getD i .zero).right),(rs.getD i .zero).pv]) V.wf rfl rfl rfl rfl d8 V.get (Nat.le_of_ble_eq_true rfl) (gK (hp.get O)) rfl fun A51 a3=>?_);have aV:=a3.keep _ _ aA dJ;have ar:=a3.keep _ _ aB dK;have aG:=bT.keep a3.keep d0;have ay:=al cH a5 aS a3.n a3.keep;have b2:=al cP wf aR a3.n a3.keep;refine cu _ _<|.nil<|dI _ _<|.seq fun _ dO=>.region<|.q Z (aj eW fz U Z)<|.q Z (ak gz Z Z a3.get Z)<|.q Z (aj eW fz U Z)<|.q Z (ak gz Z Z a3.get Z)<|.q Z (d6 u9 Z) ?_;refine Ops.q Z (jc (b:=1) Z Z O)<|.q Z (uC u9 Z Z (by have:=hll O;omega))<|.q Z (ah Z)<|.nil<|dO _ _<|.drawnP [0,1,2,3,4,5,6,7,8,9,11] 10 12 [12,13,14] [10,13,14] mixed Y Y Z<|.q Z Z Z (ae Z)<|.q Z Z Z (c8 Z)<|.q Z Z Z (aj xi Mj U Z) ?_;have aD:=dL (off:=4) ar (show _=some (.map (some a4)) from rfl);refine kX.q Z Z Z (ak Jc Z Z ar Z)<|.q Z Z Z (ae Z)<|.q Z Z Z (ae Z)<|.q Z Z Z (c8 Z)<|.q Z Z Z (aj xi Mj U Z) ?_;have c7:=dL (off:=4) ar (show _=some (.map (some a4)) from rfl);refine kX.q Z Z Z (ak Jc Z Z ar Z)<|.q Z Z Z (ae Z)<|.q Z Z Z (ae Z)<|.both Z Z Z Z Z Z ?_ ?_
  ·refine fun _ _ cv _=>o0 qE Z Z Mo u5 I0 aV hME ?_;refine cv _ _ (aO.list (L:=[(⟨a9,4,none⟩,.map (some a4))]) Y (bq aD cL))<|.l Z Z Z (fun _ _ cB _=>aN (c:=[num ((i:Nat):Int)]) a3.wf rfl (ax er dx z3 rfl U U rfl) fun A65 eg a2=>?_);have di:=aL a5 (Nat.le_trans ay.n a2.lo);have bD:=a2.le.get _ _ aV;have bL:=a2.le.get _ _ ar;have aI:=aG.le a2.le;have aZ:=cm a2.le aD;have cS:=b2.trans a2.le;have cK:=ay.trans a2.le;refine cB _ _ (aO.list (L:=[(⟨a9,4,none⟩,.map (some a4))]) Y (bq aZ cL))<|.l Z Z Z (fun _ _ cC _=>cJ (ys:=[num ((i:Nat):Int)]) rfl rfl er dx mg z3 rfl U er (fun _ h=>by cases h) aI.own (bW (n:=1) a2.get Z) rfl rfl (by show (_ + _) * 8<=_;simp only [aH,List.length_cons,List.length_nil];(try simp only [List.length_append,List.length_cons,List.length_nil]);omega) O2 fun A76 e4 a7=>?_);rw [show ([num ((i:Nat):Int)]:List Value)=c9 [((i:Nat):Int)] from rfl,dM] at a7;obtain ⟨bU,cU⟩:=Fresh.grow aI cS wf a7;have dS:=a7.keep ac bD;have cX:=a7.ne ac a2.wf bD;have dV:=a7.keep a6 bL;have cZ:=a7.ne a6 a2.wf bL;have cb:=a7.cell a6 aZ;refine cC _ _ (aO.list (L:=[(⟨a9,4,none⟩,.map (some a4))]) Y (bq cb cL))<|.l Z Z Z (fun _ _ cF _=>m8 qE a7.wf rfl rfl rfl Mo u5 dS hME hIO.nd fun A91 bS bP ap cV=>?_);have b7:=hIO.step cK a2.wf a7 bU ap (by simp) (SI cX cZ) O Z;have dW:=ap.keep _ _ a1.symm dV;have bm:=al cU wf ai ap.n ap.keep;refine cF _ _ (aO.none Y)<|.done<|bC _ _<|.region<|.q Z (bN (b:=1) Z Z O)<|.q Z (ae Z)<|.nil ?_;exact ⟨⟨i + 1,bS,bP,wI E ((rs.getD i .zero).left.getD ((rs.getD i .zero).left.length - 1) 0) e4⟩,ks Z Z Z Z,Z,⟨⟨by omega,cV⟩,bm,ap.get,dW,b7⟩,O1⟩
  refine fun _ _ ba _=>aN (c:=[num ((i:Nat):Int)]) a3.wf rfl (ax er dx z3 rfl U U rfl) fun A103 e5 D=>?_;have d2:=aL a5 (Nat.le_trans ay.n D.lo);have aC:=D.le.get _ _ aV;have aT:=D.le.get _ _ ar;have aE:=aG.le D.le;have av:=cm D.le aD;have b8:=cm D.le c7;have bp:=b2.trans D.le;have bl:=ay.trans D.le;refine ba _ _ (aO.list (L:=[(⟨a9,4,none⟩,.map (some a4)),(⟨a9,4,none⟩,.map (some a4))]) Y (bq b8 (bq av cL)))<|.l Z Z Z (fun _ _ bb _=>o0 qE Z Z Mo u5 I0 aC hME ?_);refine bb _ _ (aO.list (L:=[(⟨a9,4,none⟩,.map (some a4))]) Y (bq av cL))<|.l Z Z Z (fun _ _ bc _=>cJ (ys:=[num ((i:Nat):Int)]) rfl rfl er dx mg z3 rfl U er (fun _ h=>by cases h) aE.own (bW (n:=1) D.get Z) rfl rfl (by show (_ + _) * 8<=_;simp only [aH,List.length_cons,List.length_nil];(try simp only [List.length_append,List.length_cons,List.length_nil]);omega) O2 fun A116 d1 a0=>?_);rw [show ([num ((i:Nat):Int)]:List Value)=c9 [((i:Nat):Int)] from rfl,dM] at a0;obtain ⟨b6,br⟩:=Fresh.grow aE bp wf a0;have bV:=a0.keep ac aC;have bA:=a0.ne ac D.wf aC;have bY:=a0.keep a6 aT;have bB:=a0.ne a6 D.wf aT;have b9:=a0.cell a6 av;refine bc _ _ (aO.list (L:=[(⟨a9,4,none⟩,.map (some a4))]) Y (bq b9 cL))<|.l Z Z Z (fun _ _ bd _=>m8 qE a0.wf rfl rfl rfl Mo u5 bV hME hIO.nd fun A131 b5 b3 ad bv=>?_);have aY:=hIO.step bl D.wf a0 b6 ad (by simp) (SI bA bB) O Z;have c3:=ad.keep _ _ a1.symm bY;have bu:=al br wf ai ad.n ad.keep;refine bd _ _ (aO.none Y)<|.done<|bC _ _<|.region<|.q Z (bN (b:=1) Z Z O)<|.q Z (ae Z)<|.nil ?_;exact ⟨⟨i + 1,b5,b3,wI E ((rs.getD i .zero).left.getD ((rs.getD i .zero).left.length - 1) 0) d1⟩,ks Z Z Z Z,Z,⟨⟨by omega,bv⟩,bu,ad.get,c3,aY⟩,O1⟩
 refine ao.exit<|dw _ _<|.seq fun _ c4=>.region<|.q Z (ae Z)<|.q Z (ah Z)<|.nil<|c4 _ _<|.rt (by exact be Z (⟨a9,a4,rfl,az,a5,aa,aP,hIO.map O a8 hME (by simp) a1,_,hIO.only O a8 hME (by simp) a1 ai,GI a5,GH.trans (cM _ _),zx,fun k o h=>zw h⟩))

theorem pn (g:Int) (u:Value) (l:List (List UInt8)) (rv:Value) (rs:List au) (w:List UInt8) (A:AH) (hn:l.length<=9223372036854775807) (hm:rs.length<=9223372036854775807) (hL:eF A) (hu:bJ A 1 u (dc l)) (hr:bJ A 3 rv (ci rs)) (hp:Proofs A rs):bG Tryz.prog 21 #[.agg #[num (g),u,rv],aX (w)] A (fun v A1=>∃ dv,v=.tuple #[.agg #[aX (mq g l rs w).word,num (((mq g l rs w).steps:Nat):Int),dv],num ((ke g l rs w:Nat):Int)]/\A.le A1/\A1.wf/\Fresh A A1 dv 3 (cN (mq g l rs w).disk)):=by
 refine lN Tryz.call21 Tryz.func21 Z Tryz.results21 Tryz.ntmps21 Z (fun wf=>?_);have cU:=AH.le.refl A;refine ao.seq fun _ h2=>.region<|.l Z (fun _ _ cP _=>ej wf rfl rfl fun A5 b4 aY=>?_);have bv:=cU.trans aY.le;refine cP _ _<|.l Z (fun _ _ cS _=>ca aY.wf AN rfl fun A10 b9 ad=>?_);have a2:=aL wf (Nat.le_trans bv.n ad.lo);have bd:=ad.le.get _ _ aY.get;have a5:=bv.trans ad.le;refine cS _ _<|.q Z (ah Z)<|.nil<|h2 _ _<|.seq fun _ cf=>.block<|.seq fun _ ch=>.region<|.q Z (am dn cT Z Z bd Z)<|.l Z (fun _ _ bD _=>aK Z (i3 ((g)) u l rv rs A10 hn hm (hL.le a5) (hu.le a5) (hr.le a5) (hp.le a5)) ?_);rintro dz A20 ⟨rfl,aa,bb⟩;have bl:=aa.get _ _ bd;have bm:=aa.get _ _ ad.get;have ay:=a5.trans aa;refine bD _ _<|.q Z (eE Z)<|.q Z (ah Z)<|.nil<|ch _ _<|.ifB Z (fun cV=>?_) (fun cV=>?_)
 ·refine ao.seq fun _ ck=>.region<|.q Z (cR Z (aU TK AN OG Z))<|.l Z (fun _ _ bL _=>aM (cs:=[aX ([]),num ((0:Nat):Int),.slice none 0 0]) (c':=[aX ([]),num ((0:Nat):Int),.slice none 0 0]) bb rfl rfl rfl rfl ie bm (Nat.le_of_ble_eq_true rfl) rfl rfl fun A29 ai=>?_);have bV:=al ay wf a2 ai.n ai.keep;refine bL _ _<|.q Z (ah Z)<|.nil<|ck _ _<|.ret ?_;repeat first | with_reducible refine bE ?_ | with_reducible refine bk ?_
  exact be (dE vu ie Z ai.get Z (ei Z eh)) (⟨_,by (rw [(C8 ‹_›).1,(C8 ‹_›).2];rfl),bV,ai.wf,by (rw [(C8 ‹_›).1];exact Fresh.nil _ _ _)⟩)
 refine ao.seq fun _ cu=>.region<|.q Z (aj fH iA U Z)<|.q Z (aj ia dx U Z)<|.q Z (ak fj Z Z bl Z)<|.q Z (ae Z)<|.l Z (fun _ _ bM _=>aK Z (oD (g) w A20 (hL.le ay)) ?_);rintro dD A37 ⟨rfl,ab,bc⟩;have bp:=ab.get _ _ bl;have aP:=ab.get _ _ bm;have a1:=ay.trans ab;refine bM _ _<|.q Z (fF (b:=0) Z Z)<|.q Z (ah Z)<|.nil<|cu _ _<|.if rfl (fun cX=>?_) (fun cX=>?_)
 ·refine ao.seq fun _ cv=>.region<|.q Z (cR Z (aU TK AN OG Z))<|.l Z (fun _ _ bO _=>aM (cs:=[aX ([]),num ((0:Nat):Int),.slice none 0 0]) (c':=[aX ([]),num ((0:Nat):Int),.slice none 0 0]) bc rfl rfl rfl rfl ie aP (Nat.le_of_ble_eq_true rfl) rfl rfl fun A46 ap=>?_);have bY:=al a1 wf a2 ap.n ap.keep;refine bO _ _<|.q Z (ah Z)<|.nil<|cv _ _<|.ret ?_;repeat first | with_reducible refine bE ?_ | with_reducible refine bk ?_
  exact be (dE vu ie Z ap.get Z (ei Z eh)) (⟨_,by (rw [(C9 ‹_› ‹_›).1,(C9 ‹_› ‹_›).2];rfl),bY,ap.wf,by (rw [(C9 ‹_› ‹_›).1];exact Fresh.nil _ _ _)⟩)
 refine ao.skip<|cf _ _<|.seq fun _ cB=>.region<|.q Z (am dn cT Z Z bp Z)<|.l Z (fun _ _ bP _=>aK Z (jU ((g)) u l rv rs A37 (ls (by simpa using ‹(!cx g l rs)=false›)) (oL (by simpa using ‹(!cx g l rs)=false›)) (hu.le a1) (hr.le a1) (hp.le a1)) ?_);rintro dG A54 ⟨D,b8,rfl,aB,aD,a8,X,ar,b2⟩;have cC:=aB.get _ _ aP;have c3:=a1.trans aB;have hrow:=a8;have hno:=X;have hix:=ar;have hM:=b2;have ba:b4 ≠ D:=fun z=>by have q0:=bp;rw [z,X] at q0;cases q0
 have ag:b9 ≠ D:=fun z=>by have q0:=aP;rw [z,X] at q0;cases q0
 have aE:=mW a1 X;refine bP _ _<|.q Z (ae Z) ?_;have a6:=cg (bs:=[some D]) c3 (qz aE nf);have aS:=cg (bs:=[some D]) (cM A54 [some D]) (qz (cn (by simp)) nf);refine Ops.l Z (fun _ _ bR _=>aK Z (po w rs l D (((g))) u rv b8 (.slice none 0 0) (.slice none 0 0) (num ((0:Nat):Int)) (aX ([])) (num ((0:Nat):Int)) (.slice none 0 0) (A54.hide [some D]) A54 (cM A54 [some D]) (cr aD) a8 (cn (by simp)) (by simpa using ‹(!cx g l rs)=false›) (hL.le a6) (hr.le a6) (hp.le a6) (ar.le aS)) ?_);rintro dI A61 ⟨d1,d2,d3,dd,di,dj,dk,rfl,ac,a4,a9,a7,aZ⟩;have aR:=bF (bs:=[some D]) cC (lQ ag ka);have br:=ac.get _ _ aR;have aF:=a7.base a6;have c7:=a7.seph aR;have bU:=aS.trans ac;have aT:=a6.trans ac;refine bR _ _<|.q Z (ae Z)<|.q Z (bf Z Z)<|.q Z (bf Z Z)<|.l Z (fun _ _ bS _=>ca a4 AN rfl fun A76 dw h=>?_);have av:=ne_new a4 br h.lo;have b0:=ne_new a4 a9 h.lo;have cb:=aF.own.ne_new a4 h.lo;have aI:=aL wf (Nat.le_trans aT.n h.lo);have cc:=aL (cr aD) (Nat.le_trans bU.n h.lo);have cF:=h.le.get _ _ br;have aG:=aF.le h.le;have c4:=aT.trans h.le;refine bS _ _ ?_;obtain ⟨aC,aA,az,d0,_⟩:=aG.own.slice;subst d0;refine Ops.l Z (fun _ _ bT _=>aM (cs:=[aX ((cI (cy rs w)).word),num (((cI (cy rs w)).steps:Nat):Int),.slice aC aA az]) (c':=[aX ((cI (cy rs w)).word),num (((cI (cy rs w)).steps:Nat):Int),.slice aC aA az]) h.wf rfl rfl rfl rfl ie h.get (Nat.le_of_ble_eq_true rfl) rfl rfl fun A87 V=>?_);have bu:=V.keep _ _ av cF;have bA:=aG.keep V.keep cb;have aV:=al c4 wf aI V.n V.keep;refine bT _ _<|.q Z (ah Z)<|.nil<|cB _ _<|.seq fun _ cH=>.seq fun _ cK=>.region<|.q Z (ae Z)<|.q Z (eE Z)<|.nil ?_;refine cK _ _<|.ifB Z (fun cZ=>?_) (fun cZ=>?_)
 ·refine ao.seq fun _ bB=>.region<|.q Z (cR Z (aU TK AN OG Z))<|.l Z (fun _ _ b3 _=>aM (cs:=[aX ([]),num ((0:Nat):Int),.slice none 0 0]) (c':=[aX ([]),num ((0:Nat):Int),.slice none 0 0]) V.wf rfl rfl rfl rfl ie bu (Nat.le_of_ble_eq_true rfl) rfl rfl fun A103 a3=>?_);have b6:=al aV wf a2 a3.n a3.keep;refine b3 _ _<|.q Z (ah Z)<|.nil<|bB _ _<|.ret ?_;repeat first | with_reducible refine bE ?_ | with_reducible refine bk ?_
  exact be (dE vu ie Z a3.get Z (ei Z eh)) (⟨_,by (rw [(Da ‹_› ‹_› ‹_›).1,(Da ‹_› ‹_› ‹_›).2];rfl),b6,a3.wf,by (rw [(Da ‹_› ‹_› ‹_›).1];exact Fresh.nil _ _ _)⟩)
 refine ao.skip<|cH _ _<|.seq fun _ bC=>.region<|.q Z (am vu ie Z Z V.get Z)<|.l Z (fun _ _ b5 _=>aM (cs:=[aX ((cI (cy rs w)).word),num (((cI (cy rs w)).steps:Nat):Int),.slice aC aA az]) (c':=[aX ((cI (cy rs w)).word),num (((cI (cy rs w)).steps:Nat):Int),.slice aC aA az]) V.wf rfl rfl rfl rfl ie bu (Nat.le_of_ble_eq_true rfl) rfl rfl fun A113 a0=>?_);have b1:=bA.keep a0.keep c7;have b7:=al aV wf a2 a0.n a0.keep;refine b5 _ _<|.q Z (ah Z)<|.nil<|bC _ _<|.ret ?_;repeat first | with_reducible refine bE ?_ | with_reducible refine bk ?_
 exact be (dE vu ie Z a0.get Z (ei Z eh)) (⟨_,by (rw [(Db ‹_› ‹_› ‹_›).1,(Db ‹_› ‹_› ‹_›).2];rfl),b7,a0.wf,by (rw [(Db ‹_› ‹_› ‹_›).1];exact b1)⟩)
end Go.Proofs.YtjppkekmddjcfaaGreatDoor

namespace Go.Proofs.YtjppkekmddjcfaaGreatDoor
open Go Go.RowKit
namespace V
section
variable {P:Program} {F:Fence} {nt n:Nat} {A:AH}
theorem MI (hF:vo F) {l:Nat} {args:Array Value} {R:Value->AH->Prop} (hc:kz P l args A R) {w:World} (hw:ct A w) :
    YieldAt F 0 P l args w fun e w'=>∃ A' v,e=.returned v/\ct A' w'/\eu A w A' w'/\R v A':=by
  rcases hF with rfl | ⟨l,rfl⟩
  · exact hc w hw
  · exact hc w hw
theorem MJ (hF:vo F) {fo:Operand} {aa:Array Operand} {tt:Array TypeId} {dst:Option Nat} {ty:TypeId} {ps:String} {af:Array Edge} {g:Option (Nat × Bool)} {l:Nat} {vs:List Value} {R:Value->AH->Prop} {a:Act} {w:World}
    (hf:a.eval fo=.func (.yield l) #[] #[]) (ha:aa.map a.eval=vs.toArray) (hc:kz P l vs.toArray A R) (hw:ct A w) {next:Act->World->Prop} {Q:Exit->Act->World->Prop}
    (h:∀ v A' w',ct A' w'->eu A w A' w'->R v A'->next (a.put dst v) w') :
    ({ dst:=dst,op:=.call { callee:=.value fo,args:=aa,argTypes:=tt },type:=ty,pos:=ps,after:=af,guard:=g }:Oper).wpIn F 0 P a w next Q:=by
  obtain ⟨fn,tmps,assign,body,hy,hr⟩:=MI hF hc hw
  have hx:(execOp a.eval { dst:=dst,op:=.call { callee:=.value fo,args:=aa,argTypes:=tt },type:=ty,pos:=ps,after:=af,guard:=g }).run P w=.ok (.round l fn tmps assign body) w:=by
    simp [execOp,resolve,hf,ha,Deferred.ofValue,invoke,hy]
  refine ⟨fun f _=>pW hF f,?_⟩
  rw [Oper.semAt_eq _ _ _ (fun c q=>by cases q),hx]
  refine ⟨qK hF,RoundIn.mono hr ?_⟩
  rintro en w' ⟨A',v,rfl,hv,hst,hR⟩
  exact h v A' w' hv hst hR

theorem mD {t el:TypeId} {len m:Nat} {z:Value} {l:List (Nat × Value)} {c:List Value} (hu:P.underlying t=some (.array len el)) (hz:cO P t=some z) (hs:du P el=some m)
    (hf:nc (fun i=>some (i * m,m)) z.cells.toList l=some c):kA P t l=some (.agg c.toArray):=by simp [kA,hu,hz,hs,hf]
theorem iM {e:gv} {x y:Operand} {t el:TypeId} {b off n len i:Nat} {k:IntKind} (hu:P.underlying t=some (.array len el)) (hs:du P el=some n) (h:bZ e x=some (.pointer (some ⟨b,off,none⟩))) (h':bZ e y=some (.int k (i:Nat))) (hi:i < len) :
    aQ P e A (.indexAddr t x y)=some (.pointer (some ⟨b,off + i * n,none⟩),[]):=by rw [GY hu hs h h' hi,my _ _ Z]
theorem Dt:∀ a:Fin 16,Na .xor .i64 ((a.1:Nat):Int) ((1:Nat):Int)=some (num ((a.1 ^^^ 1:Nat):Int)):=fun a=>by
  have key:∀ a:Fin 16,IntKind.i64.wrap ((BitVec.ofInt 64 ((a.1:Nat):Int) ^^^ BitVec.ofInt 64 ((1:Nat):Int)).toNat:Int)=((a.1 ^^^ 1:Nat):Int):=by decide
  show some (Value.int .i64 (IntKind.i64.wrap ((BitVec.ofInt 64 ((a.1:Nat):Int) ^^^ BitVec.ofInt 64 ((1:Nat):Int)).toNat:Int)))=_
  rw [key]
theorem Tc {e:gv} {x y:Operand} {t t':TypeId} {a:Nat} (h:bZ e x=some (num (a:Nat))) (h':bZ e y=some (num (1:Nat))) (ha:a < 16):aQ P e A (.binOp .xor t x y t')=some (num ((a ^^^ 1:Nat):Int),[]) :=
  CE U U h h' (Dt ⟨a,ha⟩)
def jy (P:Program) (nt:Nat) (F:Fence) (all:Array Oper) (os:List Oper) (Q:Exit->Fr->AH->Prop) (f:Fr) (A:AH):Prop :=
  ∀ a w,db nt f a->ct A w->∀ (A₀:AH) (w₀:World),eu A₀ w₀ A w->wpListIn F 0 P all (ky nt Q A₀ w₀) os a w
section
variable {all:Array Oper} {Q:Exit->Fr->AH->Prop} {f:Fr} {e:gv} {ds:List Deferred} {d t:Nat} {op:Op} {ty:TypeId} {ps:String} {af:Array Edge} {os:List Oper} {v:Value} {T:fh}
theorem jy.nil (h:Q .normal f A):jy P nt F all [] Q f A:=fun _ _ ha hw _ _ hs=>⟨f,A,ha,hw,hs,h,fun _ q=>by cases q⟩
theorem jy.q (hF:vo F) (hn:iW { dst:=some d,op:=op,type:=ty,pos:=ps,after:=af,guard:=none }=true) (hd:Nat.blt d nt=true) (hv:aQ P e A op=some (v,T)) (h:jy P nt F all os Q ⟨(d,v) :: e,ds⟩ A) :
    jy P nt F all ({ dst:=some d,op:=op,type:=ty,pos:=ps,after:=af,guard:=none } :: os) Q ⟨e,ds⟩ A:=by
  intro a w ha hw A₀ w₀ hs
  have:=fY (o:={ dst:=some d,op:=op,type:=ty,pos:=ps,after:=af,guard:=none }) hv ha hw
  unfold wpListIn
  rw [if_pos (by simp [Region.wanted])]
  refine ⟨fun f _=>pW hF f,?_⟩
  rw [Oper.semAt_eq _ _ _ (fun c hc=>by simp only at hc;subst hc;cases hn),this.2 w this.1]
  exact h _ w (ha.put (some d) v (da hd)) hw A₀ w₀ hs
theorem jy.y (hF:vo F) {fo:Operand} {l:Nat} {vs:List Value} {R:Value->AH->Prop} {aa:Array Operand} {tt:Array TypeId} (hd:Nat.blt d nt=true) (hf:bZ e fo=some (.func (.yield l) #[] #[])) (ha:jj (bZ e) aa.toList=some vs)
    (hc:kz P l vs.toArray A R) (h:∀ v A',R v A'->jy P nt F all os Q ⟨(d,v) :: e,ds⟩ A') :
    jy P nt F all ({ dst:=some d,op:=.call { callee:=.value fo,args:=aa,argTypes:=tt },type:=ty,pos:=ps,after:=af,guard:=none } :: os) Q ⟨e,ds⟩ A:=by
  intro a w hact hw A₀ w₀ hs
  unfold wpListIn
  rw [if_pos (by simp [Region.wanted])]
  have hev:∀ x v,bZ e x=some v->a.eval x=v:=fun x v g=>c0 hact g
  have hargs:aa.map a.eval=vs.toArray:=by apply Array.ext';simp [nW hev _ _ ha]
  exact MJ hF (hev _ _ hf) hargs hc hw fun v A' w' hv hst hR=>h v A' hR _ w' (hact.put (some d) v (da hd)) hv A₀ w₀ (hs.trans hst)
theorem ed.regionJ {id:Nat} {l:List Oper} (h:jy P nt F l.toArray l Q f A):ed P nt F (.region id l.toArray false) Q f A :=
  fun a w ha hw=>wpIn_region_lit (h a w ha hw A w (.refl _ _))
theorem ao.regionJ {id:Nat} {l:List Oper} (h:jy P nt Fence.wide l.toArray l Q f A):ao P nt (.region id l.toArray false) Q f A:=ed.run (ed.regionJ h)
end

theorem Rn (hF:vo F) {o:Oper} {a:Act} {w:World} {K:Act->World->Prop} {Q Q':Exit->Act->World->Prop} (hd:iW o=true) (hp:∀ ch a w,Q (.panic ch) a w->Q' (.panic ch) a w) (hl:¬ LetsOut Q) (h:o.wp P a w K Q):o.wpIn F n P a w K Q':=by
  have hs:o.semAt F.round a.eval=execOp a.eval o:=Oper.semAt_eq _ _ _ (fun c hc=>by simp [iW,hc] at hd)
  refine ⟨fun f _=>pW hF f,?_⟩
  rw [hs]
  unfold Oper.wp at h
  generalize (execOp a.eval o).run P w=r at h ⊢
  cases r with
  | ok x w' =>
    cases x <;> simp only [Oper.upon] at h <;> simp only [Oper.uponIn] <;>
      first
      | exact h
      | exact h.elim
      | exact ⟨qK hF,yA hF (h.mono fun e w'' he=>by
          cases e with
          | returned v=>exact he
          | panicked ch=>exact hp _ _ _ he
          | outgrown=>exact absurd he hl)⟩
      | exact ⟨qK hF,Ek hF h⟩
  | halt x w'=>cases x <;> simp only [Oper.upon] at h <;> simp only [Oper.uponIn] <;> exact hp _ _ _ h
theorem wk {ops:Array Oper} {y:Nat} {o o':Oper} (hy:ops[y]? = some o) (he:o'.after=o.after) (listed:Array Bool):Region.ready .any (ops.setIfInBounds y o') listed=Region.ready .any ops listed:=by
  unfold Region.ready
  rw [Array.size_setIfInBounds]
  apply List.filter_congr
  intro i hi
  congr 1
  by_cases q:y=i
  · subst q
    have hlt:=(Array.getElem?_eq_some_iff.1 hy).1
    have e1:ops[y]=o:=(Array.getElem?_eq_some_iff.1 hy).2
    simp [hlt,he,e1]
  · rw [Array.getElem?_setIfInBounds_ne q]
def rk (ops:Array Oper) (y z:Nat):Bool :=
  Nat.blt y ops.size && Nat.blt z ops.size && !(y == z) && (List.range ops.size).all (fun j=>j == y || j == z || kq ops j ops.size y) && kq ops y ops.size z &&
  (List.range ops.size).all (fun j=>match ops[j]? with | none=>false | some o=>o.after.all fun e=>Nat.blt e.on j) && ops.toList.all (fun o=>iW o && (match o.guard with | none=>true | _=>false))
theorem AE {o:Oper} (h:(match o.guard with | none=>true | _=>false)=true) (l:Nat->Value):o.guard=none:=by
  cases q:o.guard with
  | none=>rfl
  | some x=>rw [q] at h;cases h
theorem NZ {l:Array Bool} {i:Nat} (h:l.getD i true=false):i < l.size:=by
  rcases Nat.lt_or_ge i l.size with q | q
  · exact q
  · simp [q] at h
theorem KB {a:Act} {d:Nat} {v:Value} (h:d < a.tmps.size):(a.put (some d) v).eval (.tmp d)=v:=by simp [Act.eval,Act.put,h]
theorem Sx (hF:vo F) {ops:Array Oper} {y z d dz:Nat} {fo:Operand} {aa:Array Operand} {tt:Array TypeId} {ty tz tz':TypeId} {ps psz:String} {af afz:Array Edge} {l:Nat} {Qp Q:Exit->Act->World->Prop} {oy oz oy' oz':Oper}
    (ey:oy={ dst:=some d,op:=.call { callee:=.value fo,args:=aa,argTypes:=tt },type:=ty,pos:=ps,after:=af,guard:=none })
    (ez:oz={ dst:=some dz,op:=.unOp .not tz (.tmp d),type:=tz',pos:=psz,after:=afz,guard:=none })
    (ey':oy'={ oy with op:=.move (.const (.bool true)) }) (ez':oz'={ oz with op:=.move (.const (.bool false)) })
    (hy:ops[y]? = some oy) (hz:ops[z]? = some oz) (hw:rk ops y z=true) (hl:¬ LetsOut Qp) (hp:∀ ch a w,¬ Qp (.panic ch) a w)
    (hQ:∀ (a:Act) w,Qp .normal ((a.put (some d) (.bool true)).put (some dz) (.bool false)) w->d < a.tmps.size/\∃ (A:AH) (vs:List Value) (R:Value->AH->Prop),ct A w/\a.eval fo=.func (.yield l) #[] #[]/\aa.map a.eval=vs.toArray/\kz P l vs.toArray A R /\
      (∀ v A' w',R v A'->ct A' w'->eu A w A' w'->v=.bool true/\Q .normal ((a.put (some d) (.bool true)).put (some dz) (.bool false)) w')) :
    ∀ (fuel:Nat) (listed:Array Bool) (a:Act) (w:World),j7 ops listed->listed.size=ops.size->listed.getD y true=false ->
      wpAny P .any ((ops.setIfInBounds y oy').setIfInBounds z oz') Qp fuel listed a w->wpAnyIn F 0 P .any ops Q fuel listed a w:=by
  simp only [rk,Bool.and_eq_true,Bool.not_eq_true',List.all_eq_true,List.mem_range,Bool.or_eq_true,beq_iff_eq,beq_eq_false_iff_ne,ne_eq] at hw
  obtain ⟨⟨⟨⟨⟨⟨w1,w2⟩,w3⟩,w4⟩,w5⟩,w6⟩,w7⟩:=hw
  have w1:y < ops.size:=Nat.le_of_ble_eq_true w1
  have w2:z < ops.size:=Nat.le_of_ble_eq_true w2
  have ay:oy'.after=oy.after:=by rw [ey']
  have az:oz'.after=oz.after:=by rw [ez']
  generalize hops:(ops.setIfInBounds y oy').setIfInBounds z oz'=ops'
  have hr:∀ listed,Region.ready .any ops' listed=Region.ready .any ops listed:=fun listed=>by
    have e1:=wk (ops:=ops.setIfInBounds y oy') (y:=z) (o:=oz) (o':=oz') (by rw [Array.getElem?_setIfInBounds_ne w3];exact hz) az listed
    rw [<- hops,e1,wk hy ay]
  have hy':ops'[y]? = some oy':=by
    rw [<- hops,Array.getElem?_setIfInBounds_ne (fun q=>w3 q.symm)];simp [w1]
  have hz':ops'[z]? = some oz':=by
    rw [<- hops];simp [w2]
  have ho:∀ i,i ≠ y->i ≠ z->ops'[i]? = ops[i]?:=fun i h1 h2=>by
    rw [<- hops,Array.getElem?_setIfInBounds_ne (fun q=>h2 q.symm),Array.getElem?_setIfInBounds_ne (fun q=>h1 q.symm)]
  have a1:∀ i o,ops[i]? = some o->iW o=true/\o.guard=none:=fun i o hi=>by
    have hlt:=(Array.getElem?_eq_some_iff.1 hi).1
    have he:=(Array.getElem?_eq_some_iff.1 hi).2
    have:=w7 o (by rw [<- he];exact Array.getElem_mem_toList hlt)
    exact ⟨this.1,AE this.2 (fun _=>undef)⟩
  have back:∀ (i:Nat) (o:Oper),ops[i]? = some o->∀ e ∈ o.after,e.on < i:=fun i o hi e he=>by
    have hlt:=(Array.getElem?_eq_some_iff.1 hi).1
    have:=w6 i hlt
    rw [hi] at this
    exact Nat.le_of_ble_eq_true (Array.all_eq_true'.1 this e he)
  have some_ready:∀ (listed:Array Bool),listed.size=ops.size->∀ m,listed.getD m true=false->Region.ready .any ops listed ≠ []:=fun listed hsz=>by
    intro m
    induction m using Nat.strongRecOn with
    | _ m ih =>
      intro hm h0
      have hlt:m < ops.size:=by rw [<- hsz];exact NZ hm
      have hom:ops[m]? = some ops[m]:=by simp [hlt]
      by_cases q:∀ e ∈ ops[m].after,Region.binds .any e=true->listed.getD e.on false=true
      · have:m ∈ Region.ready .any ops listed:=mem_ready.2 ⟨hm,_,hom,q⟩
        rw [h0] at this;cases this
      · obtain ⟨e,he,hbe,hle⟩:∃ e,e ∈ ops[m].after/\Region.binds .any e=true/\¬ listed.getD e.on false=true:=Classical.byContradiction fun n=>q fun e he hb=>Classical.byContradiction fun z=>n ⟨e,he,hb,z⟩
        have V:=back m _ hom e he
        refine ih e.on V ?_ h0
        have:listed.getD e.on false=false:=by simpa using hle
        have h3:e.on < listed.size:=by omega
        simpa [h3] using this
  intro fuel
  induction fuel with
  | zero =>
    intro listed a w hcl hsz hun h
    have h0:=h.1
    rw [hr] at h0
    exact absurd h0 (some_ready listed hsz y hun)
  | succ fuel ih =>
    intro listed a w hcl hsz hun h
    refine ⟨fun h0=>absurd h0 (some_ready listed hsz y hun),fun i hi=>?_⟩
    obtain ⟨hiun,oi,hoi,hall⟩:=mem_ready.1 hi
    have h1:=h.2 i (by rw [hr];exact hi)
    unfold wpOp at h1
    unfold wpOpIn
    by_cases hiy:i=y
    · subst hiy
      rw [hy] at hoi;cases hoi
      have others:∀ j,j < ops.size->j ≠ i->j ≠ z->listed.getD j false=true:=fun j hj h1 h2=>by
        rcases w4 j hj with (q | q) | q
        · exact absurd q h1
        · exact absurd q h2
        · exact jC hcl _ _ _ hy hall q
      have hznl:listed.getD z true=false:=by
        cases q:listed.getD z true with
        | false=>rfl
        | true =>
          have a0:listed.getD z false=true:=by rw [<- q];simp [hsz,w2]
          have:=jC hcl _ _ _ hz (hcl z _ hz a0) w5
          rw [il hun] at this;cases this
      have a2:(listed.setIfInBounds i true).size=ops.size:=by simpa using hsz
      have X:(listed.setIfInBounds i true).getD z true=false:=by rw [getD_set_ne true w3];exact hznl
      have D:∀ j,j < ops.size->j ≠ z->(listed.setIfInBounds i true).getD j false=true:=fun j hj h2=>by
        by_cases q:j=i
        · subst q;simp [hsz,w1]
        · exact getD_set_true (others j hj q h2)
      have zready:z ∈ Region.ready .any ops (listed.setIfInBounds i true):=mem_ready.2 ⟨X,_,hz,fun e he _=>D _ (Nat.lt_trans (back z _ hz e he) w2) (by have:=back z _ hz e he;omega)⟩
      have only:∀ j,j ∈ Region.ready .any ops (listed.setIfInBounds i true)->j=z:=fun j hj=>by
        obtain ⟨q1,oj,q2,_⟩:=mem_ready.1 hj
        refine Classical.byContradiction fun q=>?_
        have:=D j (Array.getElem?_eq_some_iff.1 q2).1 q
        rw [il q1] at this;cases this
      have done:Region.ready .any ops ((listed.setIfInBounds i true).setIfInBounds z true)=[]:=by
        refine List.eq_nil_iff_forall_not_mem.2 fun j hj=>?_
        obtain ⟨q1,oj,q2,_⟩:=mem_ready.1 hj
        have hlt:=(Array.getElem?_eq_some_iff.1 q2).1
        have:((listed.setIfInBounds i true).setIfInBounds z true).getD j false=true:=by
          by_cases q:j=z
          · subst q;simp [hsz,w2]
          · exact getD_set_true (D j hlt q)
        rw [il q1] at this;cases this
      have wy':∀ l,Region.wanted oy' l=true:=fun l=>by rw [ey',ey];rfl
      have wz':∀ l,Region.wanted oz' l=true:=fun l=>by rw [ez',ez];rfl
      have wy:∀ l,Region.wanted oy l=true:=fun l=>by rw [ey];rfl
      have wz:∀ l,Region.wanted oz l=true:=fun l=>by rw [ez];rfl
      simp only [hy',wy',if_true] at h1
      have h2:wpAny P .any ops' Qp fuel (listed.setIfInBounds i true) (a.put (some d) (.bool true)) w:=by
        rcases h1 with h1 | ⟨_,h1⟩
        · rw [ey',ey] at h1;exact h1
        · exact absurd h1 hl
      cases fuel with
      | zero=>exfalso;have:=h2.1;rw [hr] at this;rw [this] at zready;cases zready
      | succ f =>
        have h3:=h2.2 z (by rw [hr];exact zready)
        unfold wpOp at h3
        simp only [hz',wz',if_true] at h3
        have h4:wpAny P .any ops' Qp f ((listed.setIfInBounds i true).setIfInBounds z true) ((a.put (some d) (.bool true)).put (some dz) (.bool false)) w:=by
          rcases h3 with h3 | ⟨_,h3⟩
          · rw [ez',ez] at h3;exact h3
          · exact absurd h3 hl
        have h5:Qp .normal ((a.put (some d) (.bool true)).put (some dz) (.bool false)) w:=by
          cases f with
          | zero=>exact h4.2
          | succ f=>exact h4.1 (by rw [hr];exact done)
        obtain ⟨hd,A,vs,R,hv,hfo,haa,hya,hK⟩:=hQ a w h5
        simp only [hy,wy,if_true]
        rw [ey]
        refine MJ hF hfo haa hya hv fun v A' w' hv' hst hR=>?_
        obtain ⟨rfl,hq⟩:=hK v A' w' hR hv' hst
        refine ⟨fun q=>(by rw [q] at zready;cases zready),fun j hj=>?_⟩
        have:=only j hj
        subst this
        unfold wpOpIn
        simp only [hz,wz,if_true]
        rw [ez]
        have hx:(execOp (a.put (some d) (.bool true)).eval { dst:=some dz,op:=.unOp .not tz (.tmp d),type:=tz',pos:=psz,after:=afz,guard:=none }).run P w'=.ok (.value (.bool false)) w':=by
          have:=KB (v:=.bool true) hd
          simp [execOp,this,Op.unary]
        refine ⟨fun f _=>pW hF f,?_⟩
        rw [Oper.semAt_eq _ _ _ (fun c q=>by cases q),hx]
        show wpAnyIn F 0 P .any ops Q f _ _ w'
        cases f with
        | zero=>exact ⟨done,hq⟩
        | succ f=>exact ⟨fun _=>hq,fun k hk=>by rw [done] at hk;cases hk⟩
    · have hiz:i ≠ z:=by
        rintro rfl
        have:=jC hcl _ _ _ hz (by rw [hz] at hoi;cases hoi;exact hall) w5
        rw [il hun] at this;cases this
      obtain ⟨g1,g2⟩:=a1 i oi hoi
      have hwt:∀ l,Region.wanted oi l=true:=fun l=>by simp [Region.wanted,g2]
      rw [ho i hiy hiz] at h1
      simp only [hoi,hwt,if_true] at h1 ⊢
      have h2:oi.wp P a w (wpAny P .any ops' Qp fuel (listed.setIfInBounds i true)) Qp:=by
        rcases h1 with h1 | ⟨_,h1⟩
        · exact h1
        · exact absurd h1 hl
      refine Rn hF g1 (fun ch a w q=>absurd q (hp ch a w)) hl (Oper.wp_mono (fun a' w' h3=>?_) h2)
      exact ih _ _ _ (gB hcl hi) (by simpa using hsz) (by rw [getD_set_ne true hiy];exact hun) h3

def GA (d dz:Nat):Operand->Bool
  | .tmp t=>!(t == d) && !(t == dz)
  | _=>true
theorem wg {d dz:Nat} {x:Operand} (h:GA d dz x=true):x ≠ .tmp d/\x ≠ .tmp dz:=by
  constructor <;> (rintro rfl;simp [GA] at h)
theorem ed.drawnYield {Q:Exit->Fr->AH->Prop} {e:gv} {ds:List Deferred} {id:Nat} {ops:Array Oper} (C:List Nat) (y z:Nat) {d dz:Nat} {fo:Operand} {aa:Array Operand} {tt:Array TypeId} {ty tz tz':TypeId} {ps psz:String} {af afz:Array Edge} {l:Nat} {oy oz:Oper} {vs:List Value} {R:Value->AH->Prop}
    (hF:vo F) (hy:ops[y]? = some oy) (hz:ops[z]? = some oz)
    (ey:oy={ dst:=some d,op:=.call { callee:=.value fo,args:=aa,argTypes:=tt },type:=ty,pos:=ps,after:=af,guard:=none })
    (ez:oz={ dst:=some dz,op:=.unOp .not tz (.tmp d),type:=tz',pos:=psz,after:=afz,guard:=none })
    (hw:rk ops y z=true) (hfd:(GA d dz fo && aa.toList.all (GA d dz))=true) (hdn:Nat.blt d nt=true) (hm:P.follows .mixedOrders=true)
    (hc:kZ ((ops.setIfInBounds y { oy with op:=.move (.const (.bool true)) }).setIfInBounds z { oz with op:=.move (.const (.bool false)) }) (Array.replicate ops.size false) C=true) (hn:Region.noSelect ((ops.setIfInBounds y { oy with op:=.move (.const (.bool true)) }).setIfInBounds z { oz with op:=.move (.const (.bool false)) })=true) (hl:C.length=ops.size)
    (hya:kz P l vs.toArray A R)
    (h:bj P nt ((ops.setIfInBounds y { oy with op:=.move (.const (.bool true)) }).setIfInBounds z { oz with op:=.move (.const (.bool false)) })
      (fun x f A'=>x=.normal/\A'=A/\bZ f.e fo=some (.func (.yield l) #[] #[])/\jj (bZ f.e) aa.toList=some vs/\∀ v A2,R v A2->v=.bool true/\Q .normal f A2) (Array.replicate ops.size false) [] C ⟨e,ds⟩ A):ed P nt F (.region id ops true) Q ⟨e,ds⟩ A:=by
  intro a w ha a0
  simp only [Bool.and_eq_true,List.all_eq_true] at hfd
  obtain ⟨D,V⟩:=hfd
  have D:=wg D
  obtain ⟨v1,s1⟩:=i5 a0
  have hsz:((ops.setIfInBounds y { oy with op:=.move (.const (.bool true)) }).setIfInBounds z { oz with op:=.move (.const (.bool false)) }).size=ops.size:=by simp
  have emp:∀ (os:Array Oper),os.size=ops.size->j7 os (Array.replicate ops.size false):=fun os hos j o _ hj=>by
    exfalso
    rcases Nat.lt_or_ge j ops.size with q | q
    · simp [q] at hj
    · simp [q] at hj
  have key:=h hc hn a _ ha v1 (fun p hp=>by cases hp) (emp _ hsz) A w s1
  rw [hl] at key
  have key:=jI _ _ _ _ key
  refine wpIn_mono (wpIn_region_any hm (Sx (l:=l) (Q:=dT nt Q A w) hF ey ez rfl rfl hy hz hw ?_ ?_ ?_ _ _ _ _ (emp _ rfl) (by simp) ?_ key)) (fun _ _ _=>dT.q)
  · rintro ⟨a,w,f',A',_,_,_,q,_⟩;exact absurd q.1 (by simp)
  · rintro ch a w ⟨f',A',_,_,_,q,_⟩;exact absurd q.1 (by simp)
  · rintro a2 w2 ⟨f',A',g1,g2,g3,⟨_,rfl,g5,g6,g7⟩,_⟩
    have a1:a2.tmps.size=nt:=by have:=g1.size;simpa [Act.put] using this
    have hd:=Nat.le_of_ble_eq_true hdn
    have hev:∀ x v,x ≠ .tmp d->x ≠ .tmp dz->bZ f'.e x=some v->a2.eval x=v:=fun x v n1 n2 g=>by
      have h5:=c0 g1 g
      cases x with
      | tmp t =>
        have t1:t ≠ d:=fun q=>n1 (by rw [q])
        have t2:t ≠ dz:=fun q=>n2 (by rw [q])
        rw [<- h5]
        simp only [Act.eval,Act.put,Array.getD_eq_getD_getElem?]
        rw [Array.getElem?_setIfInBounds_ne (Ne.symm t2),Array.getElem?_setIfInBounds_ne (Ne.symm t1)]
      | _=>exact h5
    refine ⟨by omega,A',vs,R,g2,hev _ _ D.1 D.2 g5,?_,hya,?_⟩
    · apply Array.ext'
      simp only [Array.toList_map]
      have key:∀ (l:List Operand) (us:List Value),(∀ x ∈ l,x ≠ .tmp d/\x ≠ .tmp dz)->jj (bZ f'.e) l=some us->l.map a2.eval=us:=by
        intro l
        induction l with
        | nil=>intro us _ h;simp [jj] at h;simp [h]
        | cons x l ih =>
          intro us hx h
          simp only [jj] at h
          split at h
          · rename_i v us' h1 h2
            cases h
            have:=hx x List.mem_cons_self
            simp [hev _ _ this.1 this.2 h1,ih _ (fun y hy=>hx y (List.mem_cons_of_mem _ hy)) h2]
          · cases h
      exact key _ _ (fun x hx=>wg (V x hx)) g6
    · intro v A2 w' hR X hst
      obtain ⟨r1,r2⟩:=g7 v A2 hR
      exact ⟨r1,f',A2,g1,X,g3.trans hst,r2,fun _ q=>by cases q⟩
  · have:y < ops.size:=(Array.getElem?_eq_some_iff.1 hy).1
    simp [this]
theorem ao.drawnYield {Q:Exit->Fr->AH->Prop} {e:gv} {ds:List Deferred} {id:Nat} {ops:Array Oper} (C:List Nat) (y z:Nat) {d dz:Nat} {fo:Operand} {aa:Array Operand} {tt:Array TypeId} {ty tz tz':TypeId} {ps psz:String} {af afz:Array Edge} {l:Nat} {oy oz:Oper} {vs:List Value} {R:Value->AH->Prop}
    (hy:ops[y]? = some oy) (hz:ops[z]? = some oz)
    (ey:oy={ dst:=some d,op:=.call { callee:=.value fo,args:=aa,argTypes:=tt },type:=ty,pos:=ps,after:=af,guard:=none })
    (ez:oz={ dst:=some dz,op:=.unOp .not tz (.tmp d),type:=tz',pos:=psz,after:=afz,guard:=none })
    (hw:rk ops y z=true) (hfd:(GA d dz fo && aa.toList.all (GA d dz))=true) (hdn:Nat.blt d nt=true) (hm:P.follows .mixedOrders=true)
    (hc:kZ ((ops.setIfInBounds y { oy with op:=.move (.const (.bool true)) }).setIfInBounds z { oz with op:=.move (.const (.bool false)) }) (Array.replicate ops.size false) C=true) (hn:Region.noSelect ((ops.setIfInBounds y { oy with op:=.move (.const (.bool true)) }).setIfInBounds z { oz with op:=.move (.const (.bool false)) })=true) (hl:C.length=ops.size)
    (hya:kz P l vs.toArray A R)
    (h:bj P nt ((ops.setIfInBounds y { oy with op:=.move (.const (.bool true)) }).setIfInBounds z { oz with op:=.move (.const (.bool false)) })
      (fun x f A'=>x=.normal/\A'=A/\bZ f.e fo=some (.func (.yield l) #[] #[])/\jj (bZ f.e) aa.toList=some vs/\∀ v A2,R v A2->v=.bool true/\Q .normal f A2) (Array.replicate ops.size false) [] C ⟨e,ds⟩ A):ao P nt (.region id ops true) Q ⟨e,ds⟩ A :=
  ed.run (ed.drawnYield C y z jT hy hz ey ez hw hfd hdn hm hc hn hl hya h)
end
end V
end Go.Proofs.YtjppkekmddjcfaaGreatDoor

namespace Go.Proofs.YtjppkekmddjcfaaGreatDoor
open Go Go.RowKit
namespace V
def lM (b4:Nat) (B:AH) (b:Nat):Prop:=b=b4\/∃ v cap,B.get b4=some (.row true [v] cap)/\blk v=some b
structure cD (b4:Nat) (M C:AH):Prop where
  le:M.le C
  wf:M.wf
  ow:∀ b,lM b4 C b->M.get b=none
section
variable {b4 b k:Nat} {A B C M M':AH} {v:Value} {cap:Nat} {o:eM}
theorem lM.same (h:lM b4 C b) (e:C.get b4=B.get b4):lM b4 B b:=by
  rcases h with h | ⟨v,cap,h1,h2⟩
  · exact .inl h
  · exact .inr ⟨v,cap,e ▸ h1,h2⟩
theorem lM.val (h:lM b4 C b) (g:C.get b4=some (.row true [v] cap)):b=b4\/blk v=some b:=by
  rcases h with h | ⟨v',cap',h1,h2⟩
  · exact .inl h
  · rw [g] at h1;cases h1;exact .inr h2
theorem cD.mono (h:cD b4 M C) (le:M'.le M) (wf:M'.wf):cD b4 M' C:=⟨le.trans h.le,wf,fun b hb=>by
  cases q:M'.get b with
  | none=>rfl
  | some o=>rw [<- h.ow b hb,le.get b o q]⟩
theorem cD.full (g:C.get b4=some (.row true [v] cap)) (wf:C.wf):cD b4 (C.hide [some b4,blk v]) C :=
  ⟨cM _ _,cr wf,fun b hb=>cn (by
    rcases hb.val g with rfl | q
    · simp
    · rw [q];simp)⟩
theorem cD.sub (h:cD b4 M C) (g:C.get b4=some (.row true [v] cap)):M.le (C.hide [some b4,blk v]) :=
  cg h.le fun b hb=>by
    simp only [List.mem_cons,List.not_mem_nil,or_false,Option.some.injEq] at hb
    rcases hb with rfl | hb
    · exact h.ow _ (.inl Z)
    · exact h.ow _ (.inr ⟨v,cap,g,hb.symm⟩)
end
theorem cD.up {b4:Nat} {A B M:AH} {v:Value} {cap:Nat} (h:cD b4 M A) (le:A.le B) (g:A.get b4=some (.row true [v] cap)):cD b4 M B :=
  ⟨h.le.trans le,h.wf,fun b hb=>h.ow b (hb.same (by rw [g];exact le.get _ _ g))⟩
theorem n8 {A B:AH} {v:Value} (le:A.le B) (h:∀ b,blk v=some b->∃ o,A.get b=some o):∀ b,blk v=some b->∃ o,B.get b=some o:=fun b hb=>let ⟨o,ho⟩:=h b hb;⟨o,le.get _ _ ho⟩
theorem ga {b4 b:Nat} {A X:AH} {v:Value} {cap:Nat} {o:eM} (h:A.get b=some o) (g:X.get b4=some (.row true [v] cap)) (l:∀ b,blk v=some b->∃ o,X.get b=some o) (nj:X.get b=none):(A.hide [some b4,blk v]).get b=some o :=
  bF h (lQ (fun q=>by rw [q,g] at nj;cases nj) (ng (fun q=>by obtain ⟨o,ho⟩:=l b q;rw [nj] at ho;cases ho) ka))
theorem pY {b4 n:Nat} {A B X:AH} {v t:Value} {cap:Nat} {xs:List Value} (h:Fresh B A t n xs) (g:X.get b4=some (.row true [v] cap)) (l:∀ b,blk v=some b->∃ o,X.get b=some o) (nj:∀ b,blk t=some b->X.get b=none):bJ (A.hide [some b4,blk v]) n t xs :=
  (h.off (bs:=[some b4,blk v]) (gJ (fun q=>by have:=nj _ q;rw [g] at this;cases this) (iq (fun c hc hq=>by obtain ⟨o,ho⟩:=l c hc;rw [nj c hq] at ho;cases ho) fW)) (AH.le.refl _)).slc
structure ji (b4:Nat) (A B:AH) (Ds:List Nat):Prop where
  nd:Ds.Nodup
  lo:∀ D ∈ Ds,A.n<=D
  get:∀ D ∈ Ds,B.get D=some (.obj true (.deferred (some [])))
  ow:∀ D ∈ Ds,¬ lM b4 B D
theorem ji.nil {b4:Nat} {A B:AH}:ji b4 A B []:=⟨List.nodup_nil,(fun _ h=>by cases h),(fun _ h=>by cases h),(fun _ h=>by cases h)⟩
theorem ji.up {b4:Nat} {A B C:AH} {Ds:List Nat} {v:Value} {cap:Nat} (h:ji b4 A B Ds) (le:B.le C) (g:B.get b4=some (.row true [v] cap)):ji b4 A C Ds :=
  ⟨h.nd,h.lo,fun D hD=>le.get _ _ (h.get D hD),fun D hD q=>h.ow D hD (q.same (by rw [g];exact le.get _ _ g))⟩
theorem ji.push {b4 D:Nat} {A B C:AH} {Ds:List Nat} {v:Value} {cap:Nat} (h:ji b4 A B Ds) (g:B.get b4=some (.row true [v] cap)) (hR:cD b4 (B.hide [some b4,blk v]) C) (wf:B.wf) (hA:A.n<=B.n) (hn:B.n<=D) (hD:C.get D=some (.obj true (.deferred (some [])))) (ho:¬ lM b4 C D):ji b4 A C (D :: Ds):=by
  have key:∀ E ∈ Ds,(B.hide [some b4,blk v]).get E=some (.obj true (.deferred (some []))):=fun E hE=>bF (h.get E hE) (lQ (fun q=>h.ow E hE (.inl q)) (ng (fun q=>h.ow E hE (.inr ⟨v,cap,g,q⟩)) ka))
  refine ⟨List.nodup_cons.2 ⟨fun q=>by have:=wf _ _ (h.get D q);omega,h.nd⟩,fun E hE=>?_,fun E hE=>?_,fun E hE=>?_⟩
  · rcases List.mem_cons.1 hE with rfl | q
    · omega
    · exact h.lo E q
  · rcases List.mem_cons.1 hE with rfl | q
    · exact hD
    · exact hR.le.get _ _ (key E q)
  · rcases List.mem_cons.1 hE with rfl | q
    · exact ho
    · intro z;have:=hR.ow E z;rw [key E q] at this;cases this
theorem ji.leave {b4:Nat} {A A' B M:AH} {Ds:List Nat} {v:Value} {cap:Nat} (h:ji b4 A B Ds) (le:M.le A) (wf:A.wf) (hR:cD b4 M B) (g:B.get b4=some (.row true [v] cap)) (hn:A'.n=B.n) (hk:∀ b o,b ∉ Ds->B.get b=some o->A'.get b=some o) :
    cD b4 M A'/\∀ b o,(b < A.n\/lM b4 B b)->B.get b=some o->A'.get b=some o:=by
  have k2:∀ b o,(b < A.n\/lM b4 B b)->B.get b=some o->A'.get b=some o:=fun b o hb hg=>hk b o (fun q=>by
    rcases hb with hb | hb
    · have:=h.lo b q;omega
    · exact h.ow b q hb) hg
  refine ⟨⟨⟨by rw [hn];exact hR.le.n,fun b o hb=>k2 b o (.inl (wf _ _ (le.get _ _ hb))) (hR.le.get _ _ hb)⟩,hR.wf,fun b hb=>hR.ow b (hb.same ?_)⟩,k2⟩
  rw [g];exact k2 b4 _ (.inr (.inl Z)) g
section
variable {P:Program} {nt:Nat} {Q:Exit->Fr->AH->Prop} {A M:AH} {e:gv} {ds:List Deferred}
theorem ao.rangeOwn {g:Operand} {gf:Nat} {lb:Array Value} {ps:Array Tmp} {assign body:Code} (b4 n:Nat) (xs:Nat->List Value) (I:Nat->AH->Prop) (e1:Nat->Nat->gv) (ar:Nat->eM)
    (hg:bZ e g=some (.func (.func gf) #[] lb)) (eg:eU P gf) (hps:∀ i,(xs i).length=ps.size) (hpn:∀ p ∈ ps.toList,p < nt) (a3:b4 < A.n) (hM:cD b4 M A)
    (hI:∀ i B B',I i B->B'.wf->B.n<=B'.n->(∀ b o,(b < A.n\/lM b4 B b)->B.get b=some o->B'.get b=some o)->I i B')
    (hv:∀ i B,I i B->∃ v cap,B.get b4=some (.row true [v] cap)/\∀ b,blk v=some b->∃ o,B.get b=some o) (h0:I 0 A)
    (hiter:∀ l (J:Nat->AH->Prop) B M,B.n=A.n + 2->A.le B->B.wf->cD b4 M B->(∀ i C,J i C->I i C) ->
      (∀ i C C',J i C->C'.wf->C.n<=C'.n->(∀ b o,(b < B.n\/lM b4 C b)->C.get b=some o->C'.get b=some o)->J i C')->J 0 B ->
      (∀ i C M',i < n->C.wf->J i C->cD b4 M' C->kz P l (xs i).toArray C (fun v C'=>v=.bool true/\J (i + 1) C'/\C'.wf/\cD b4 M' C')) ->
      bG P gf (#[.func (.yield l) #[] #[]] ++ lb) B (fun _ C=>J n C/\C.wf/\cD b4 M C))
    (hassign:∀ F i B,vo F->i < n->ed P nt F assign (uH fun f C=>∃ b6,B.n<=b6/\an (e1 i b6) f.e/\f.ds=[]/\B.le C/\C.wf/\C.get b6=some (ar i)) ⟨xQ ps.toList (xs i) e,[]⟩ B)
    (hbody:∀ F i B b6 M',vo F->i < n->I i B->B.wf->A.n<=B.n->cD b4 M' B->A.n<=b6->B.get b6=some (ar i)->¬ lM b4 B b6->M'.get b6=none->ed P nt F body (uH fun _ C=>I (i + 1) C/\C.wf/\cD b4 M' C) ⟨e1 i b6,[]⟩ B)
    (hK:∀ B D,I n B->B.wf->A.n<=D->A.n<=B.n->B.get D=some (.obj true (.deferred (some [])))->¬ lM b4 B D->cD b4 M B->Q .normal ⟨e,mark D :: ds⟩ B) :
    ao P nt (.rangeFunc g ps assign body) Q ⟨e,ds⟩ A:=by
  intro a w ha hw
  refine wpIn_wide.1 (wpIn_rangeFunc (n:=0) ?_)
  intro fn _
  rw [show Fence.wide.round=none from rfl]
  obtain ⟨rec,hrec⟩:∃ rec:LoopState->Option Code->Loop,rec=fun st pe=>{ state:=st,pending:=pe,fn,tmps:=a.tmps,params:=ps,assign,body,defers:=w.heap.size }:=⟨_,rfl⟩
  have hsz:w.heap.size=A.n:=hw.size
  have wfA:=hw.wf
  have hA:∀ b,lM b4 A b->b < A.n:=fun b hb=>by
    obtain ⟨v,cap,g1,g2⟩:=hv 0 A h0
    rcases hb.val g1 with rfl | q
    · exact a3
    · obtain ⟨o,ho⟩:=g2 b q;exact wfA _ _ ho
  obtain ⟨v1,s1⟩:=jx (o:=.obj true (.deferred (some []))) (x:=.deferred (some [])) hw ⟨rfl,fun _ _ _ q=>by cases q⟩
  obtain ⟨v2,s2⟩:=jx (o:=.obj true (.loop (rec .ready none))) (x:=.loop (rec .ready none)) v1 ⟨rfl,fun _ _ _ q=>by cases q⟩
  have hgl:((A.new (.obj true (.deferred (some [])))).new (.obj true (.loop (rec .ready none)))).get (A.n + 1)=some (.obj true (.loop (rec .ready none))):=AH.new_get_same _ _
  have hgd:((A.new (.obj true (.deferred (some [])))).new (.obj true (.loop (rec .ready none)))).get A.n=some (.obj true (.deferred (some []))):=by
    rw [AH.new_get_ne _ _ (by simp)];exact AH.new_get_same _ _
  have hkeep:∀ b,b < A.n->((A.new (.obj true (.deferred (some [])))).new (.obj true (.loop (rec .ready none)))).get b=A.get b:=fun b hb=>by
    rw [AH.new_get_ne _ _ Ox,AH.new_get_ne _ _ O]
  have hleA:A.le ((A.new (.obj true (.deferred (some [])))).new (.obj true (.loop (rec .ready none)))):=AH.le_new (AH.le_new (AH.le.refl A) wfA _) wfA _
  have hnB:((A.new (.obj true (.deferred (some [])))).new (.obj true (.loop (rec .ready none)))).n=A.n + 2:=rfl
  generalize ((A.new (.obj true (.deferred (some [])))).new (.obj true (.loop (rec .ready none))))=B0 at *
  have ad:I 0 B0:=hI 0 A _ h0 v2.wf O fun b o hb hgb=>by rw [hkeep b (wfA _ _ hgb)];exact hgb
  have aa:∀ b,lM b4 B0 b->b < A.n:=fun b hb=>hA b (hb.same (hkeep b4 a3))
  have hgev:a.eval g=.func (.func gf) #[] lb:=c0 ha hg
  -- what is kept of the loop's own blocks
  have nl:b4 ≠ A.n + 1:=by omega
  refine ⟨w.heap.size + 1,[mark w.heap.size],(w.alloc (.deferred (some []))).alloc (.loop (rec .ready none)),{ target:=.fn (.func gf) lb,args:=#[.func (.yield (w.heap.size + 1)) #[] #[]] },(w.alloc (.deferred (some []))).alloc (.loop (rec .ready none)),gf,
    #[.func (.yield (w.heap.size + 1)) #[] #[]] ++ lb,(w.alloc (.deferred (some []))).alloc (.loop (rec .ready none)),?_,?_,fun _ _=>trivial,?_,fun q=>(by cases q),?_⟩
  · rw [hrec];exact run_enterLoop_outer _ _ _ _ _
  · simp only [resolve,hgev]
    simp [go_sem]
  · have eg':=eg
    unfold eU at eg'
    simp [invoke,go_sem,eg']
  · rw [hsz]
    have ai:cD b4 M B0:=⟨hM.le.trans hleA,hM.wf,fun b hb=>hM.ow b (hb.same (hkeep b4 a3))⟩
    have hcall:=hiter (A.n + 1) (fun i C=>I i C/\C.get (A.n + 1)=some (.obj true (.loop (rec .ready none)))/\C.get A.n=some (.obj true (.deferred (some [])))/\¬ lM b4 C (A.n + 1)/\¬ lM b4 C A.n) B0 M hnB hleA v2.wf ai (fun i C h=>h.1)
      (fun i C C' h wf hn hk=>?_) ⟨ad,hgl,hgd,fun q=>by have:=aa _ q;omega,fun q=>by have:=aa _ q;omega⟩ ?_
    · refine (callsIn_wide.2 (hcall.2 _ v2)).mono ?_
      rintro en w' ⟨A',hv',hs',v,rfl,⟨⟨hIn,hgl',hgd',X,a0⟩,hwf',hM'⟩⟩
      obtain ⟨q1,_⟩:=hv'.obj hgl'
      obtain ⟨v3,s3⟩:=kS P (y:=.loop { rec .ready none with state:=.exhausted }) hv' hgl' (fun _ _ _ q=>by cases q)
      refine ⟨none,w'.putObj (A.n + 1) (.loop { rec .ready none with state:=.exhausted }),by
        have h7:=run_endLoop (P:=P) q1 (by rw [hrec];simp)
        have h8:(rec .ready none).pending=none:=by rw [hrec]
        exact h7.trans (congrArg (fun j=>Result.ok j _) h8),?_⟩
      have hl':=hwf' _ _ hgl'
      refine ⟨⟨e,mark A.n :: ds⟩,_,⟨ha.size,ha.slot,by show [mark _] ++ a.defers=_;rw [ha.ds];rfl⟩,v3,((s1.trans s2).trans hs').trans s3,?_,fun _ q=>by cases q⟩
      have hset:∀ b,b ≠ A.n + 1->(A'.set (A.n + 1) (.obj true (.loop { rec .ready none with state:=.exhausted }))).get b=A'.get b:=fun b hb=>AH.set_get_ne _ _ hb
      refine hK _ A.n (hI n A' _ hIn v3.wf (Nat.le_refl _) fun b o hb hgb=>?_) v3.wf (Nat.le_refl _) Ox ?_ ?_ ⟨⟨hM'.le.n,fun b o hb=>?_⟩,hM'.wf,fun b hb=>hM'.ow b (hb.same (hset b4 nl))⟩
      · rw [hset];exact hgb
        rintro rfl
        rcases hb with hb | hb
        · omega
        · exact X hb
      · rw [hset _ O];exact hgd'
      · exact fun q=>a0 (q.same (hset b4 nl))
      · have h1:=hM.le.get b o hb
        have h2:=wfA _ _ h1
        rw [hset _ O];exact hM'.le.get b o hb
    · obtain ⟨hIC,g1,g2,X,a0⟩:=h
      obtain ⟨v,cap,hr,_⟩:=hv i C hIC
      have e4:C'.get b4=C.get b4:=by rw [hr];exact hk b4 _ (.inr (.inl Z)) hr
      exact ⟨hI i C C' hIC wf hn (fun b o hb hgb=>hk b o (hb.imp (fun q=>by omega) id) hgb),hk _ _ (.inl O) g1,hk _ _ (.inl O) g2,fun q=>X (q.same e4),fun q=>a0 (q.same e4)⟩
    · rintro i C M' hi hwfC ⟨hIC,hgl',hgd',X,a0⟩ hMC w' hv'
      obtain ⟨q1,_⟩:=hv'.obj hgl'
      have hy:=run_yield (P:=P) (args:=(xs i).toArray) q1 (by rw [hrec];simpa using hps i)
      refine ⟨fn,_,assign,body,(by rw [hrec] at hy;exact hy),roundIn_of_wpIn trivial ?_⟩
      have hact:db nt ⟨xQ ps.toList (xs i) e,[]⟩ { tmps:=(ps.zip (xs i).toArray).foldl (fun t p=>t.setIfInBounds p.1 p.2) a.tmps,defers:=[] }:=by
        have:=rY (nt:=nt) (ps.toList.zip (xs i)) e a.tmps (fun p hp=>hpn _ (List.of_mem_zip hp).1) ⟨ha.size,ha.slot,rfl⟩
        rw [<- Array.foldl_toList,Array.toList_zip]
        exact this
      have av:=hassign (FR (A.n + 1)) i C (pg _) hi _ w' hact hv'
      refine wpIn_mono av ?_
      rintro x a1 w1 ⟨f1,C1,h1,h2,h3,h4,h5⟩
      cases x <;> (try exact h4.elim)
      obtain ⟨b6,aA,hE,hds,hleC,ay,ap⟩:=h4
      obtain ⟨fe,fds⟩:=f1
      simp only at hE hds
      subst hds
      obtain ⟨vC,capC,gC,lC⟩:=hv i C hIC
      have owC:∀ b,lM b4 C b->b < C.n:=fun b hb=>by
        rcases hb.val gC with rfl | q
        · exact hwfC _ _ gC
        · obtain ⟨o,ho⟩:=lC b q;exact hwfC _ _ ho
      have ac:C1.get b4=C.get b4:=by rw [gC];exact hleC.get _ _ gC
      have a4:=hleC.get _ _ hgl'
      have ab:=hleC.get _ _ hgd'
      obtain ⟨q2,_⟩:=h2.obj a4
      obtain ⟨v4,s4⟩:=kS P (y:=.loop { rec .ready none with state:=.busy }) h2 a4 (fun _ _ _ q=>by cases q)
      refine ⟨_,run_beginRound q2 (by rw [hrec]),?_⟩
      have hl':=hwfC _ _ hgl'
      have hd':=hwfC _ _ hgd'
      have hnC:=hleC.n
      have hset:∀ b,b ≠ A.n + 1->(C1.set (A.n + 1) (.obj true (.loop { rec .ready none with state:=.busy }))).get b=C1.get b:=fun b hb=>AH.set_get_ne _ _ hb
      have hsetl:(C1.set (A.n + 1) (.obj true (.loop { rec .ready none with state:=.busy }))).get (A.n + 1)=some (.obj true (.loop { rec .ready none with state:=.busy })):=AH.set_get_same _ _ _
      have hsetn:(C1.set (A.n + 1) (.obj true (.loop { rec .ready none with state:=.busy }))).n=C1.n:=rfl
      generalize C1.set (A.n + 1) (.obj true (.loop { rec .ready none with state:=.busy }))=B1 at *
      have hIB:I i B1:=hI i C _ hIC v4.wf O fun b o hb hgb=>by
        rw [hset];exact hleC.get _ _ hgb
        rintro rfl
        rcases hb with hb | hb
        · omega
        · exact X hb
      have a8:∀ b,lM b4 B1 b->lM b4 C b:=fun b hb=>(hb.same (hset b4 nl)).same ac
      have hMs:cD b4 ⟨C.n,fun b=>if b=A.n + 1 then some (.obj true (.loop { rec .ready none with state:=.busy })) else if b=A.n then some (.obj true (.deferred (some []))) else M'.get b⟩ B1:=by
        refine ⟨⟨by show C.n<=B1.n;omega,fun b o hb=>?_⟩,fun b o hb=>?_,fun b hb=>?_⟩
        · simp only at hb
          split at hb
          · rename_i q;subst q;rw [hsetl];exact hb
          · rename_i q
            rw [hset b q]
            split at hb
            · rename_i q2;subst q2;rw [ab];exact hb
            · exact hleC.get _ _ (hMC.le.get b o hb)
        · simp only at hb
          split at hb
          · show b < C.n;omega
          · split at hb
            · show b < C.n;omega
            · exact hwfC b o (hMC.le.get b o hb)
        · have h6:=a8 b hb
          simp only
          rw [if_neg (fun q:b=A.n + 1=>X (q ▸ h6)),if_neg (fun q:b=A.n=>a0 (q ▸ h6))]
          exact hMC.ow b h6
      have hb:=hbody (FR (A.n + 1)) i B1 b6 _ (pg _) hi hIB v4.wf O hMs O (by rw [hset _ O];exact ap) (fun q=>by have:=owC _ (a8 _ q);omega) (by
        simp only
        rw [if_neg O,if_neg O]
        cases q:M'.get b6 with
        | none=>rfl
        | some o=>have:=hwfC _ _ (hMC.le.get _ _ q);omega)
      refine wpIn_mono (hb _ _ (db.le h1 hE) v4) ?_
      rintro x a2 w2 ⟨f2,A2,g1,g2,g3,g4,g5⟩
      cases x <;> (try exact g4.elim)
      obtain ⟨ag,az,V⟩:=g4
      have a7:A2.get (A.n + 1)=some (.obj true (.loop { rec .ready none with state:=.busy })):=V.le.get _ _ (if_pos Z)
      have a6:A2.get A.n=some (.obj true (.deferred (some []))):=V.le.get _ _ (by simp [show ¬ A.n=A.n + 1 by omega])
      have a5:¬ lM b4 A2 (A.n + 1):=fun q=>by have:=V.ow _ q;simp only [if_true] at this;cases this
      have a9:¬ lM b4 A2 A.n:=fun q=>by have:=V.ow _ q;simp [show ¬ A.n=A.n + 1 by omega] at this
      obtain ⟨q3,_⟩:=g2.obj a7
      obtain ⟨v5,s5⟩:=kS P (y:=.loop { ({ rec .ready none with state:=.busy }:Loop) with state:=.ready,pending:=none }) g2 a7 (fun _ _ _ q=>by cases q)
      refine ⟨_,_,run_endRound (P:=P) none q3,_,_,Z,v5,((h3.trans s4).trans g3).trans s5,Z,⟨?_,?_,?_,?_,?_⟩,v5.wf,?_⟩
      · exact hI (i + 1) A2 _ ag v5.wf (Nat.le_refl _) fun b o hb hgb=>by
          rw [AH.set_get_ne];exact hgb
          rintro rfl
          rcases hb with hb | hb
          · omega
          · exact a5 hb
      · rw [AH.set_get_same,hrec]
      · rw [AH.set_get_ne _ _ O];exact a6
      · exact fun q=>a5 (q.same (AH.set_get_ne _ _ nl))
      · exact fun q=>a9 (q.same (AH.set_get_ne _ _ nl))
      · refine ⟨⟨Nat.le_trans hMC.le.n (by have:=V.le.n;exact this),fun b o hb=>?_⟩,hMC.wf,fun b hb=>?_⟩
        · by_cases q:b=A.n + 1
          · subst q
            have h6:=hMC.le.get _ _ hb
            rw [hgl'] at h6
            rw [AH.set_get_same,<- h6,hrec]
          · rw [AH.set_get_ne _ _ q]
            by_cases q2:b=A.n
            · subst q2;rw [a6,<- hMC.le.get _ _ hb,hgd']
            · exact V.le.get b o (by simp only;rw [if_neg q,if_neg q2];exact hb)
        · have h6:lM b4 A2 b:=hb.same (AH.set_get_ne _ _ nl)
          have h7:=V.ow b h6
          simp only at h7
          rw [if_neg (fun q:b=A.n + 1=>a5 (q ▸ h6)),if_neg (fun q:b=A.n=>a9 (q ▸ h6))] at h7
          exact h7
end
end V
end Go.Proofs.YtjppkekmddjcfaaGreatDoor

namespace Go.Proofs.YtjppkekmddjcfaaGreatDoor
open Go Go.RowKit V
section
variable {α:Type} {f:α->List Value} {n:Nat} {z:α}
theorem ug (hf:∀ a,(f a).length=n) (l:List α):(l.flatMap f).length=l.length * n:=by
  induction l with
  | nil=>simp
  | cons a l ih=>rw [List.flatMap_cons,List.length_append,ih,hf,List.length_cons,Nat.add_mul];omega
theorem JF (hf:∀ a,(f a).length=n) (l:List α) (i:Nat):(l.flatMap f).drop (i * n)=(l.drop i).flatMap f:=by
  induction l generalizing i with
  | nil=>simp
  | cons a l ih =>
    cases i with
    | zero=>simp
    | succ i =>
      rw [List.flatMap_cons,show (i + 1) * n=(f a).length + i * n by rw [hf,Nat.add_mul];omega,<- List.drop_drop,List.drop_left]
      exact ih i
theorem BX (hf:∀ a,(f a).length=n) {l:List α} {i:Nat} (h:i < l.length):((l.flatMap f).drop (i * n)).take n=f (l.getD i z):=by
  rw [JF hf,List.drop_eq_getElem_cons h]
  have e:l.getD i z=l[i]:=by simp [h]
  rw [e,List.flatMap_cons]
  exact List.take_left' (hf _)
theorem DX (hf:∀ a,(f a).length=n) {l:List α} {i k:Nat} (h:i < l.length) (hk:k < n):(l.flatMap f)[i * n + k]? = (f (l.getD i z))[k]?:=by
  rw [<- BX hf h,List.getElem?_take_of_lt hk,List.getElem?_drop]
end
abbrev Wd:=List UInt8
def wG (s:Wd × Wd):List Value:=[aX s.1,aX s.2]
def gu (l:List (Wd × Wd)):List Value:=l.flatMap wG
theorem dP (l:List (Wd × Wd)):(gu l).length=l.length * 2:=ug (f:=wG) (n:=2) (fun _=>rfl) l
theorem p4 (l:List (Wd × Wd)):(gu l).length=l.length * 2:=dP l
theorem pD (a b:List (Wd × Wd)):gu a ++ gu b=gu (a ++ b):=by simp [gu]
theorem IJ {l:List (Wd × Wd)} {i:Nat} (h:i < l.length):((gu l).drop (i * 2)).take 2=wG (l.getD i ([],[])):=BX (f:=wG) (n:=2) (fun _=>rfl) h
theorem wH {l:List (Wd × Wd)} {i:Nat} (h:i < l.length):(gu l)[i * 2 + 0]? = some (aX (l.getD i ([],[])).1):=DX (f:=wG) (n:=2) (fun _=>rfl) h U
theorem pq {l:List (Wd × Wd)} {i:Nat} (h:i < l.length):(gu l)[i * 2 + 1]? = some (aX (l.getD i ([],[])).2):=DX (f:=wG) (n:=2) (fun _=>rfl) h U
structure CP where
  i:Int
  j:Int
  word:Wd
  u:Wd
  v:Wd
deriving DecidableEq
def CP.zero:CP:=⟨0,0,[],[],[]⟩
def cp (c:CP):List Value:=[num c.i,num c.j,aX c.word,aX c.u,aX c.v]
abbrev NG (c:CP):Value:=.agg #[num c.i,num c.j,aX c.word,aX c.u,aX c.v]
def Bz (l:List CP):List Value:=l.flatMap cp
theorem mH (l:List CP):(Bz l).length=l.length * 5:=ug (f:=cp) (n:=5) (fun _=>rfl) l
theorem DM (l:List CP):(Bz l).length=l.length * 5:=mH l
theorem BE (a b:List CP):Bz a ++ Bz b=Bz (a ++ b):=by simp [Bz]
theorem QM {l:List CP} {i:Nat} (h:i < l.length):((Bz l).drop (i * 5)).take 5=cp (l.getD i .zero):=BX (f:=cp) (n:=5) (fun _=>rfl) h
def Oh (x:Nat):Wd:=[c5.getD x 0,c5.getD (x ^^^ 1) 0]
def aW (g:Int) (rs:List au):List (Wd × Wd):=rs.map (fun r=>(r.left,r.right)) ++ (List.range (2 * g.toNat)).map fun x=>(Oh x,[])
def nm (n i:Nat):Int:=if i < n then (i:Int) else -1 - ((i:Int) - (n:Int))
def p1 (u v:Wd) (k:Nat):Bool:=decide (1<=k) && decide (u.length - k < v.length) && decide (u.drop k=v.take (u.length - k))
def p2 (u v:Wd) (k:Nat):Bool:=decide (k + v.length<=u.length) && decide ((u.take (k + v.length)).drop k=v)
abbrev c1 (I J:Int) (a b:Wd × Wd) (k:Nat):CP:=⟨I,J,a.1 ++ b.1.drop (a.1.length - k),a.2 ++ b.1.drop (a.1.length - k),a.1.take k ++ b.2⟩
abbrev c2 (I J:Int) (a b:Wd × Wd) (k:Nat):CP:=⟨I,J,a.1,a.2,a.1.take k ++ b.2 ++ a.1.drop (k + b.1.length)⟩
def qf (I J:Int) (a b:Wd × Wd) (n:Nat):List CP:=((List.range n).filter (p1 a.1 b.1)).map (c1 I J a b)
def sI (I J:Int) (a b:Wd × Wd) (n:Nat):List CP:=((List.range n).filter (p2 a.1 b.1)).map (c2 I J a b)
def mz (I J:Int) (same:Bool) (a b:Wd × Wd):List CP:=qf I J a b a.1.length ++ if same then [] else sI I J a b (a.1.length + 1)
theorem C0 {rs:List au} {i:Nat} (h:i < rs.length):(rs.take i).map (fun r=>(r.left,r.right)) ++ [((rs.getD i .zero).left,(rs.getD i .zero).right)]=(rs.take (i + 1)).map (fun r=>(r.left,r.right)):=by
  have e:rs.getD i .zero=rs[i]:=by simp [h]
  rw [List.take_succ_eq_append_getElem h,List.map_append,e];rfl
theorem Qi {x:Nat} (h:x < 16):x ^^^ 1 < 16:=by
  have:∀ a:Fin 16,a.1 ^^^ 1 < 16:=by decide
  exact this ⟨x,h⟩
theorem JX {x:Nat} (h:x < 16):([fA 97,fA 65,fA 98,fA 66,fA 99,fA 67,fA 100,fA 68,fA 101,fA 69,fA 102,fA 70,fA 103,fA 71,fA 104,fA 72]:List Value)[0 + x * 1]? = some (fA (c5.getD x 0)):=by
  rw [Nat.zero_add,Nat.mul_one]
  have:∀ a:Fin 16,([97,65,98,66,99,67,100,68,101,69,102,70,103,71,104,72]:List UInt8)[a.1]? = some (c5.getD a.1 0):=by decide
  have h2:=congrArg (Option.map fA) (this ⟨x,h⟩)
  rw [<- List.getElem?_map] at h2
  exact h2
section
variable {I J:Int} {a b:Wd × Wd} {n k:Nat} {same:Bool}
theorem uv:qf I J a b (n + 1)=if p1 a.1 b.1 n then qf I J a b n ++ [c1 I J a b n] else qf I J a b n:=by
  unfold qf
  rw [List.range_succ,List.filter_append,List.map_append]
  by_cases h:p1 a.1 b.1 n=true <;> simp [h]
theorem qC:sI I J a b (n + 1)=if p2 a.1 b.1 n then sI I J a b n ++ [c2 I J a b n] else sI I J a b n:=by
  unfold sI
  rw [List.range_succ,List.filter_append,List.map_append]
  by_cases h:p2 a.1 b.1 n=true <;> simp [h]
theorem Kq (h:n<=k):qf I J a b n <+: qf I J a b k:=by
  induction k with
  | zero => obtain rfl : n = 0 := by omega
            exact List.prefix_refl _
  | succ k ih =>
    rcases Nat.lt_or_ge k n with q | q
    · obtain rfl:n=k + 1:=by omega
      exact List.prefix_refl _
    · refine (ih q).trans ?_
      rw [uv];split
      · exact List.prefix_append _ _
      · exact List.prefix_refl _
theorem JM (h:n<=k):sI I J a b n <+: sI I J a b k:=by
  induction k with
  | zero => obtain rfl : n = 0 := by omega
            exact List.prefix_refl _
  | succ k ih =>
    rcases Nat.lt_or_ge k n with q | q
    · obtain rfl:n=k + 1:=by omega
      exact List.prefix_refl _
    · refine (ih q).trans ?_
      rw [qC];split
      · exact List.prefix_append _ _
      · exact List.prefix_refl _
theorem oo {α:Type} {p q l:List α} {x z:α} (h:p ++ [x] <+: l):p.length < l.length/\l.getD p.length z=x:=by
  obtain ⟨t,rfl⟩:=h
  simp
theorem OE (h1:1<=n) (hn:n < a.1.length) (h2:a.1.length - n < b.1.length) (h3:a.1.drop n=b.1.take (a.1.length - n)) :
    (qf I J a b n).length < (mz I J same a b).length/\(mz I J same a b).getD (qf I J a b n).length .zero=c1 I J a b n/\(qf I J a b (n + 1)).length=(qf I J a b n).length + 1:=by
  have hp:p1 a.1 b.1 n=true:=by simp [p1,h1,h2,h3]
  have e:qf I J a b (n + 1)=qf I J a b n ++ [c1 I J a b n]:=by rw [uv,if_pos hp]
  have hq:qf I J a b n ++ [c1 I J a b n] <+: mz I J same a b:=e ▸ (Kq O).trans (List.prefix_append _ _)
  exact ⟨(oo (z:=CP.zero) (q:=[]) hq).1,(oo (q:=[]) hq).2,by rw [e];simp⟩
theorem Cy (h:¬ (1<=n/\a.1.length - n < b.1.length/\a.1.drop n=b.1.take (a.1.length - n))):(qf I J a b (n + 1)).length=(qf I J a b n).length:=by
  rw [uv,if_neg]
  simp only [p1,Bool.and_eq_true,decide_eq_true_eq]
  exact fun q=>h ⟨q.1.1,q.1.2,q.2⟩
theorem Oa (hs:same=false) (hn:n + b.1.length<=a.1.length) (h3:(a.1.take (n + b.1.length)).drop n=b.1) :
    (qf I J a b a.1.length).length + (sI I J a b n).length < (mz I J same a b).length/\(mz I J same a b).getD ((qf I J a b a.1.length).length + (sI I J a b n).length) .zero=c2 I J a b n/\(sI I J a b (n + 1)).length=(sI I J a b n).length + 1:=by
  have hp:p2 a.1 b.1 n=true:=by simp [p2,hn,h3]
  have e:sI I J a b (n + 1)=sI I J a b n ++ [c2 I J a b n]:=by rw [qC,if_pos hp]
  have hq:(qf I J a b a.1.length ++ sI I J a b n) ++ [c2 I J a b n] <+: mz I J same a b:=by
    unfold mz
    rw [hs,List.append_assoc,<- e]
    exact (List.prefix_append_right_inj _).2 (JM O)
  have:=oo (z:=CP.zero) (q:=[]) hq
  rw [List.length_append] at this
  exact ⟨this.1,this.2,by rw [e];simp⟩
theorem Re (h:¬ (a.1.take (n + b.1.length)).drop n=b.1):(sI I J a b (n + 1)).length=(sI I J a b n).length:=by
  rw [qC,if_neg]
  simp only [p2,Bool.and_eq_true,decide_eq_true_eq]
  exact fun q=>h q.2
theorem N8 (h:¬ n + b.1.length<=a.1.length) (hk:n<=k):sI I J a b k=sI I J a b n:=by
  induction k with
  | zero => obtain rfl : n = 0 := by omega
            rfl
  | succ k ih =>
    rcases Nat.lt_or_ge k n with q | q
    · obtain rfl:n=k + 1:=by omega
      rfl
    · rw [qC,if_neg,ih q]
      simp only [p2,Bool.and_eq_true,decide_eq_true_eq]
      exact fun q=>by omega
theorem Fj (hs:same=true):(mz I J same a b).length=(qf I J a b a.1.length).length:=by simp [mz,hs]
theorem Jf (hs:same=false) (h:¬ n + b.1.length<=a.1.length) (hn:n<=a.1.length + 1):(mz I J same a b).length=(qf I J a b a.1.length).length + (sI I J a b n).length:=by
  rw [mz,hs,List.length_append,if_neg (by simp),N8 h hn]
theorem GR:(qf I J a b 1).length=0:=by
  rw [Cy O];rfl
end
def Uv (I J:Int) (c:CP):CP:=⟨I,J,c.word,c.u,c.v⟩
abbrev eO (L:List (Wd × Wd)) (i j:Nat):List CP:=mz (i:Int) (j:Int) (decide (i=j)) (L.getD i ([],[])) (L.getD j ([],[]))
def ql (n:Nat) (L:List (Wd × Wd)) (i j:Nat):List CP:=if n<=i/\n<=j then [] else (eO L i j).map (Uv (nm n i) (nm n j))
def zK (n:Nat) (L:List (Wd × Wd)) (i k:Nat):List CP:=(List.range k).flatMap (ql n L i)
def rq (n:Nat) (L:List (Wd × Wd)) (i j:Nat):List CP:=((List.range i).flatMap fun i=>zK n L i L.length) ++ zK n L i j
def mZ (n:Nat) (L:List (Wd × Wd)):List CP:=(List.range L.length).flatMap fun i=>zK n L i L.length
def bg (g:Int) (rs:List au):List CP:=mZ rs.length (aW g rs)
theorem kQ (g:Int) (rs:List au):(aW g rs).length=rs.length + 2 * g.toNat:=by simp [aW]
theorem pr {g:Int} {rs:List au} (hg:1<=g/\g<=8) (hw:∀ r ∈ rs,0 < r.left.length/\r.left.length<=1000/\r.right.length<=1000):∀ s ∈ aW g rs,0 < s.1.length/\s.1.length<=100000/\s.2.length<=100000:=fun s hs=>by
  rcases List.mem_append.1 hs with h | h
  · obtain ⟨r,hr,rfl⟩:=List.mem_map.1 h
    have:=hw r hr
    exact ⟨this.1,by show r.left.length<=_;omega,by show r.right.length<=_;omega⟩
  · obtain ⟨x,hx,rfl⟩:=List.mem_map.1 h
    exact ⟨Nat.zero_lt_succ _,by show (2:Nat)<=100000;omega,by show (0:Nat)<=100000;omega⟩
theorem qL {bo:Nat} {A B N:AH} {v:Value} {cap:Nat} (r:cD bo N B) (gY:B.get bo=some (.row true [v] cap)) (gZ:A.get bo=some (.row true [v] cap)):∀ b,some b ∈ [some bo,blk v]->N.get b=none:=fun b hb=>by
  simp only [List.mem_cons,List.not_mem_nil,or_false,Option.some.injEq] at hb
  rcases hb with rfl | hb
  · exact r.ow _ (.inl Z)
  · exact r.ow _ (.inr ⟨_,_,gY,hb.symm⟩)
theorem fK {α:Type} {l:List α} {i:Nat} {z:α} (h:i < l.length):l.take i ++ [l.getD i z]=l.take (i + 1):=by
  have e:l.getD i z=l[i]:=by simp [h]
  rw [List.take_succ_eq_append_getElem h,e]
section
variable {n i j k:Nat} {L:List (Wd × Wd)}
theorem sO:rq n L i (j + 1)=rq n L i j ++ ql n L i j:=by simp [rq,zK,List.range_succ]
theorem AQ:rq n L (i + 1) 0=rq n L i L.length:=by simp [rq,zK,List.range_succ]
theorem I5:rq n L L.length 0=mZ n L:=by simp [rq,zK,mZ]
theorem yo (h:j<=k):rq n L i j <+: rq n L i k:=by
  induction k with
  | zero => obtain rfl : j = 0 := by omega
            exact List.prefix_refl _
  | succ k ih =>
    rcases Nat.lt_or_ge k j with q | q
    · obtain rfl:j=k + 1:=by omega
      exact List.prefix_refl _
    · rw [sO];exact (ih q).trans (List.prefix_append _ _)
theorem I8 (h:i<=k):rq n L i 0 <+: rq n L k 0:=by
  induction k with
  | zero => obtain rfl : i = 0 := by omega
            exact List.prefix_refl _
  | succ k ih =>
    rcases Nat.lt_or_ge k i with q | q
    · obtain rfl:i=k + 1:=by omega
      exact List.prefix_refl _
    · rw [AQ];exact (ih q).trans (yo (Nat.zero_le _))
theorem E8 (hi:i < L.length) (hj:j<=L.length):rq n L i j <+: mZ n L:=by
  rw [<- I5]
  refine (yo hj).trans ?_
  rw [<- AQ]
  exact I8 hi
theorem MR (h:n<=i/\n<=j):(rq n L i (j + 1)).length=(rq n L i j).length:=by rw [sO,ql,if_pos h,List.append_nil]
theorem I7 (h:¬ (n<=i/\n<=j)):(rq n L i (j + 1)).length=(rq n L i j).length + (eO L i j).length:=by
  rw [sO,ql,if_neg h,List.length_append,List.length_map]
theorem I6 (hi:i < L.length) (hj:j < L.length) (h:¬ (n<=i/\n<=j)) (hk:k < (eO L i j).length) :
    (rq n L i j).length + k < (mZ n L).length/\(mZ n L).getD ((rq n L i j).length + k) .zero=Uv (nm n i) (nm n j) ((eO L i j).getD k .zero):=by
  obtain ⟨t,ht⟩:=E8 (n:=n) (j:=j + 1) hi hj
  rw [sO,ql,if_neg h] at ht
  rw [<- ht]
  refine ⟨by simp only [List.length_append,List.length_map];omega,?_⟩
  rw [List.append_assoc]
  simp only [List.getD_eq_getElem?_getD]
  rw [List.getElem?_append_right O,Nat.add_sub_cancel_left,List.getElem?_append_left (by simpa using hk),List.getElem?_map,List.getElem?_eq_getElem hk]
  rfl
end
end Go.Proofs.YtjppkekmddjcfaaGreatDoor

namespace Go.Proofs.YtjppkekmddjcfaaGreatDoor
open Go Go.RowKit V
set_option maxRecDepth 100000
theorem vF:dF Tryz.prog 121=some false:=by kernel_rfl
theorem JN:Tryz.prog.info? 123=some Tryz.t123:=by kernel_rfl
theorem Cz:dq Tryz.prog 47=some [(0,1),(1,1),(2,1),(3,1),(4,1)]:=by kernel_rfl
theorem mr:du Tryz.prog 123=some 2:=by kernel_rfl
theorem pB:type_of% @Tryz.underlying121:=@Tryz.underlying121
theorem yf:type_of% @Tryz.underlying123:=@Tryz.underlying123
theorem R0:type_of% @Tryz.underlying47:=@Tryz.underlying47
theorem Du:cO Tryz.prog 123=some (.agg #[.string ⟨⟨[]⟩⟩,.string ⟨⟨[]⟩⟩]):=by kernel_rfl
theorem yi:cO Tryz.prog 47=some (.agg #[.int .i64 0,.int .i64 0,.string ⟨⟨[]⟩⟩,.string ⟨⟨[]⟩⟩,.string ⟨⟨[]⟩⟩]):=by kernel_rfl

theorem zT (x:Nat) (A:AH) (hL:eF A) (hx:x < 16):bG Tryz.prog 114 #[num ((x:Nat):Int)] A (fun v A1=>v=fA (c5.getD x 0)/\A=A1):=by
 refine iy Tryz.call114 Tryz.func114 Z Tryz.results114 Tryz.ntmps114 Z (fun wf=>?_);have X:=AH.le.refl A;obtain ⟨rwL,capL,gL⟩:=hL;refine ao.seq fun _ h2=>.region<|.q Z (ah Z)<|.nil<|h2 _ _<|.seq fun _ h4=>.seq fun _ h6=>.region<|.q Z (ae Z)<|.q Z (cA (b:=0) Z Z) ?_;refine Ops.q Z (ae Z)<|.part (t:=5) Z (fun p7=>?_) (fun p7=>?_)
 ·refine Ops.off Z Z Z Z<|.off Z Z Z Z<|.q Z (bi Z Z)<|.nil<|h6 _ _<|.cond_true Z<|.seq fun _ h9=>.region<|.q Z (ah Z)<|.nil ?_;refine h9 _ _<|.rt (by exact be Z (⟨by (exfalso;omega),Z⟩))
 refine Ops.on Z Z<|.q Z (ae Z)<|.on Z Z<|.q Z (wj (b:=16) Z Z)<|.q Z (bw Z Z)<|.nil<|h6 _ _<|.if rfl (fun V=>?_) (fun V=>?_)
 ·refine ao.seq fun _ h=>.region<|.q Z (ah Z)<|.nil<|h _ _<|.rt (by exact be Z (⟨by (exfalso;omega),Z⟩))
 refine ao.skip<|h4 _ _<|.seq fun _ D=>.region<|.q Z (ae Z)<|.q Z (iM Tr nI Z Z O)<|.q Z (ak M7 Z Z gL (JX hx))<|.q Z (ah Z)<|.nil<|D _ _ ?_;refine ao.ret ?_;repeat first | with_reducible refine bE ?_ | with_reducible refine bk ?_
 exact be Z (⟨by rfl,Z⟩)

theorem EJ (g:Int) (u:Value) (l:List (List UInt8)) (rv:Value) (rs:List au) (A:AH) (hg:1<=g/\g<=8) (hn:rs.length<=1000000) (hL:eF A) (hu:bJ A 1 u (dc l)) (hr:bJ A 3 rv (ci rs)) (hp:Proofs A rs):bG Tryz.prog 76 #[.agg #[num (g),u,rv]] A (fun v A1=>A.le A1/\A1.wf/\Fresh A A1 v 2 (gu (aW g rs))):=by
 refine iy Tryz.call76 Tryz.func76 Z Tryz.results76 Tryz.ntmps76 Z (fun wf=>?_);have bV:=AH.le.refl A;obtain ⟨gn,rfl⟩:∃ n:Nat,g=n:=⟨g.toNat,by omega⟩;refine ao.seq fun _ h2=>.region<|.l Z (fun _ _ bT _=>ej wf rfl rfl fun A5 b4 ar=>?_);have aD:=bV.trans ar.le;refine bT _ _<|.q Z (ah Z)<|.nil<|h2 _ _<|.seq fun _ h9=>.region<|.q Z (ah Z)<|.nil<|h9 _ _<|.seq fun _ bm=>?_;refine ao.seq fun _ bp=>.region<|.q Z (aj de fw U Z)<|.q Z (ak ii Z Z ar.get Z)<|.q Z (bH (n:=rs.length) jw Z (hr.le aD) O (dm _))<|.q Z (ae Z)<|.nil<|bp _ _<|.block<|.loop (X:=Nat × List (Wd × Wd) × Value) (fun ⟨i,o,s⟩=>[(1,.pointer (some ⟨b4,0,none⟩)),(3,s),(8,rv),(9,num ((rs.length:Nat):Int)),(10,num ((i:Nat):Int))]) (fun ⟨i,o,s⟩ B=>(i<=rs.length/\o=(rs.take i).map (fun r=>(r.left,r.right)))/\A.le B/\Fresh A B s 2 (gu o)/\B.get b4=some (.row true [num ((gn:Nat):Int),u,rv] 3)/\V.blk s ≠ some b4) (fun ⟨i,o,s⟩=>rs.length - i) (⟨0,[],.slice none 0 0⟩) (rn Z Z Z Z Z) (⟨⟨Nat.zero_le _,by simp⟩,aD,(Fresh.nil A A5 2),ar.get,(fun q=>by cases q)⟩) ?_;rintro ⟨i,o,s⟩ B15 ⟨⟨hi,ho⟩,a6,a3,a1,a2⟩;refine ao.wf fun ac=>?_;have hlo:o.length=i:=by rw [ho];simp;omega
 refine ao.seq fun _ br=>.region<|.q Z (cA Z Z)<|.nil<|br _ _<|.seq fun _ bu=>.if rfl (fun bY=>?_) (fun bY=>?_)
 ·refine ao.skip<|bu _ _<|.seq fun _ bv=>.block<|.seq fun _ bA=>.region ?_;obtain ⟨cf,cB,cc,cH,cb,cF,cC,bd,bU,bl,aE,c7⟩:=bJ.at (i:=i) (hr.le a6) Oj O;refine Ops.q Z (aJ jw d8 Z bd Z bU)<|.q Z (am nw d8 Z Z bl (aE.trans (congrArg some (fZ O))))<|.l Z (fun _ _ aS _=>ca ac rm rfl fun A29 ch D=>?_);have aa:=ne_new ac a1 D.lo;have bb:=a3.own.ne_new ac D.lo;have ap:=aL wf (Nat.le_trans a6.n D.lo);have bB:=D.le.get _ _ a1;have aF:=a3.le D.le;have b5:=a6.trans D.le;refine aS _ _<|.l Z (fun _ _ aT _=>aM (cs:=[aX ((rs.getD i .zero).left),aX ((rs.getD i .zero).right),(rs.getD i .zero).pv]) (c':=[aX ((rs.getD i .zero).left),aX ((rs.getD i .zero).right),(rs.getD i .zero).pv]) D.wf rfl rfl rfl rfl d8 D.get (Nat.le_of_ble_eq_true rfl) (gK (hp.get O)) rfl fun A36 a0=>?_);have bC:=a0.keep _ _ aa bB;have aG:=aF.keep a0.keep bb;have b6:=al b5 wf ap a0.n a0.keep;refine aT _ _<|.nil<|bA _ _<|.region<|.q Z (ae Z)<|.q Z (aj eW fz U Z)<|.q Z (ak gz Z Z a0.get Z)<|.q Z (aj kH fz U Z)<|.q Z (ak gz Z Z a0.get Z)<|.q Z (cR Z (mD yf Du fz Z)) ?_;refine Ops.l Z (fun _ _ aV _=>aN (c:=[aX ((rs.getD i .zero).left),aX ((rs.getD i .zero).right)]) a0.wf rfl (ax pB mr Du rfl U U rfl) fun A43 ck a4=>?_);have aC:=a4.le.get _ _ bC;have ai:=aG.le a4.le;have b7:=b6.trans a4.le;refine aV _ _<|.l Z (fun _ _ aY _=>cJ (ys:=[aX ((rs.getD i .zero).left),aX ((rs.getD i .zero).right)]) rfl rfl pB mr JN Du rfl U pB (fun _ h=>by cases h) ai.own (bW (n:=1) a4.get Z) rfl rfl (by show (_ + _) * 32<=_;simp only [dP,List.length_cons,List.length_nil];(try simp only [List.length_append,List.length_cons,List.length_nil]);omega) (by simp only [dP,List.length_cons,List.length_nil];(try simp only [List.length_append,List.length_cons,List.length_nil]);omega) fun A51 c4 a5=>?_);rw [show ([aX ((rs.getD i .zero).left),aX ((rs.getD i .zero).right)]:List Value)=gu [((rs.getD i .zero).left,(rs.getD i .zero).right)] from rfl,pD] at a5;obtain ⟨aI,b8⟩:=Fresh.grow ai b7 wf a5;have bD:=a5.keep a2 aC;have ba:=a5.ne a2 a4.wf aC;refine aY _ _<|.q Z (ah Z)<|.nil<|bv _ _<|.region<|.q Z (bN (b:=1) Z Z O)<|.q Z (ae Z)<|.nil ?_;exact ⟨⟨i + 1,o ++ [((rs.getD i .zero).left,(rs.getD i .zero).right)],c4⟩,rn Z Z Z Z Z,Z,⟨⟨by omega,by rw [ho];exact C0 O⟩,b8,aI,bD,ba⟩,O1⟩
 refine ao.exit<|bm _ _<|.seq fun _ bL=>.seq fun _ bM=>.region<|.q Z (aj fH iA U Z)<|.q Z (aj ia dx U Z)<|.q Z (ak fj Z Z a1 Z)<|.q Z (zD (a:=2) Z Z O)<|.q Z (ae Z) ?_;refine Ops.nil<|bM _ _<|.block<|.loop (X:=Nat × List (Wd × Wd) × Value) (fun ⟨x,o,s⟩=>[(3,s),(26,num ((2 * gn:Nat):Int)),(27,num ((x:Nat):Int))]) (fun ⟨x,o,s⟩ B=>(x<=2 * gn/\o=rs.map (fun r=>(r.left,r.right)) ++ (List.range x).map (fun x=>(Oh x,[])))/\A.le B/\Fresh A B s 2 (gu o)) (fun ⟨x,o,s⟩=>2 * gn - x) (⟨0,rs.map (fun r=>(r.left,r.right)),s⟩) (nR Z Z Z) (⟨⟨Nat.zero_le _,by simp⟩,a6,(c6 a3 (congrArg gu ((by rw [ho,List.take_of_length_le O]))))⟩) ?_;rintro ⟨x,o,s⟩ B67 ⟨⟨hx,ho⟩,a7,a9⟩;refine ao.wf fun av=>?_;have hlo:o.length=rs.length + x:=by rw [ho];simp
 refine ao.seq fun _ bO=>.region<|.q Z (cA Z Z)<|.nil<|bO _ _<|.seq fun _ bP=>.if rfl (fun c3=>?_) (fun c3=>?_)
 ·refine ao.skip<|bP _ _<|.seq fun _ bR=>.block<|.seq fun _ bS=>.region<|.q Z (ae Z)<|.q Z (ah Z)<|.nil<|bS _ _ ?_;refine ao.region<|.q Z (ae Z)<|.q Z (ae Z)<|.l Z (fun _ _ aZ _=>aK Z (zT x B67 (hL.le a7) O) ?_);rintro cK A80 ⟨rfl,rfl⟩;refine aZ _ _<|.q Z (ae Z)<|.q Z (Tc Z Z O)<|.l Z (fun _ _ b0 _=>aK Z (zT (x ^^^ 1) B67 (hL.le a7) (by exact Qi O)) ?_);rintro cP A84 ⟨rfl,rfl⟩;refine b0 _ _<|.l Z (fun _ _ b1 _=>aN (c:=[fA (c5.getD x 0),fA (c5.getD (x ^^^ 1) 0)]) av rfl (ax eo nI z5 rfl U U rfl) fun A88 cu a8=>?_);have aP:=a9.le a8.le;have b9:=a7.trans a8.le;refine b1 _ _<|.l Z (fun _ _ b2 _=>gU (s:=[c5.getD x 0,c5.getD (x ^^^ 1) 0]) Z eo u9 u5 (eR (n:=2) a8.get Z (Nat.le_refl _)) ?_);refine b2 _ _<|.q Z (cR Z (mD yf Du fz Z))<|.l Z (fun _ _ b3 _=>aN (c:=[aX ([c5.getD x 0,c5.getD (x ^^^ 1) 0]),aX ([])]) a8.wf rfl (ax pB mr Du rfl U U rfl) fun A96 cv ab=>?_);have ag:=aP.le ab.le;have aA:=b9.trans ab.le;refine b3 _ _<|.l Z (fun _ _ az _=>cJ (ys:=[aX ([c5.getD x 0,c5.getD (x ^^^ 1) 0]),aX ([])]) rfl rfl pB mr JN Du rfl U pB (fun _ h=>by cases h) ag.own (bW (n:=1) ab.get Z) rfl rfl (by show (_ + _) * 32<=_;simp only [dP,List.length_cons,List.length_nil];(try simp only [List.length_append,List.length_cons,List.length_nil]);omega) (by simp only [dP,List.length_cons,List.length_nil];(try simp only [List.length_append,List.length_cons,List.length_nil]);omega) fun A103 bc ad=>?_);rw [show ([aX ([c5.getD x 0,c5.getD (x ^^^ 1) 0]),aX ([])]:List Value)=gu [([c5.getD x 0,c5.getD (x ^^^ 1) 0],[])] from rfl,pD] at ad;obtain ⟨ay,aB⟩:=Fresh.grow ag aA wf ad;refine az _ _<|.q Z (ah Z)<|.nil<|bR _ _<|.region<|.q Z (bN (b:=1) Z Z O)<|.q Z (ae Z)<|.nil ?_;exact ⟨⟨x + 1,o ++ [([c5.getD x 0,c5.getD (x ^^^ 1) 0],[])],bc⟩,nR Z Z Z,Z,⟨⟨by omega,by rw [ho,List.range_succ,List.map_append,List.append_assoc];rfl⟩,aB,(c6 ay (congrArg gu ((by rfl))))⟩,O1⟩
 refine ao.exit<|bL _ _<|.seq fun _ aR=>.region<|.q Z (ae Z)<|.q Z (ah Z)<|.nil<|aR _ _<|.rt (by exact be Z (⟨a7,av,c6 a9 (congrArg gu (by rw [ho,show x=2 * gn by omega];rfl))⟩))

theorem tk (g:Int) (u:Value) (l:List (List UInt8)) (rv:Value) (rs:List au) (i:Nat) (A:AH) (hi:i<=1000000000) (hn:rs.length<=1000000) (hu:bJ A 1 u (dc l)) (hr:bJ A 3 rv (ci rs)):bG Tryz.prog 166 #[.agg #[num (g),u,rv],num ((i:Nat):Int)] A (fun v A1=>v=num (nm rs.length i)/\A.le A1/\A1.wf):=by
 refine lN Tryz.call166 Tryz.func166 Z Tryz.results166 Tryz.ntmps166 Z (fun wf=>?_);have a2:=AH.le.refl A;refine ao.seq fun _ h2=>.region<|.l Z (fun _ _ a1 _=>ej wf rfl rfl fun A5 b4 h=>?_);have D:=a2.trans h.le;refine a1 _ _<|.q Z (ah Z)<|.nil<|h2 _ _<|.seq fun _ h9=>.seq fun _ V=>.region<|.q Z (ae Z)<|.q Z (aj de fw U Z)<|.q Z (ak ii Z Z h.get Z) ?_;refine Ops.q Z (bH (n:=rs.length) jw Z (hr.le D) O (dm _))<|.q Z (cA Z Z)<|.nil<|V _ _<|.if rfl (fun a3=>?_) (fun a3=>?_)
 ·refine ao.seq fun _ X=>.region<|.q Z (ae Z)<|.q Z (ah Z)<|.nil<|X _ _<|.rt (by exact be Z (⟨by (rw [nm,if_pos ‹_›];rfl),D,h.wf⟩))
 refine ao.skip<|h9 _ _<|.seq fun _ a0=>.region<|.q Z (ae Z)<|.q Z (aj de fw U Z)<|.q Z (ak ii Z Z h.get Z)<|.q Z (bH (n:=rs.length) jw Z (hr.le D) O (dm _))<|.q Z (Ia Z Z O)<|.q Z (Ia Z Z O) ?_;refine Ops.q Z (ah Z)<|.nil<|a0 _ _<|.rt (by exact be Z (⟨by (rw [nm,if_neg ‹_›];rfl),D,h.wf⟩))

theorem wx (lv:Value) (S:List (Wd × Wd)) (i j:Nat) (A:AH) (hs:bJ A 2 lv (gu S)):bG Tryz.prog 165 #[lv,num ((i:Nat):Int),num ((j:Nat):Int)] A (fun v A1=>∃ b1 b2 b3,v=.func (.func 192) #[] #[.pointer (some ⟨b1,0,none⟩),.pointer (some ⟨b2,0,none⟩),.pointer (some ⟨b3,0,none⟩)]/\A.le A1/\A1.wf/\A1.get b1=some (.row true [lv] 1)/\A1.get b2=some (.row true [num (i:Int)] 1)/\A1.get b3=some (.row true [num (j:Int)] 1)/\A.n<=b1/\A.n<=b2/\A.n<=b3):=by
 refine yl Tryz.call165 Tryz.func165 Z Tryz.results165 Tryz.ntmps165 Z (fun wf=>?_);have a0:=AH.le.refl A;refine ao.seq fun _ h2=>.region ?_;obtain ⟨p7,l7,c7,q7,_⟩:=(hs.le a0);subst q7;refine Ops.l Z (fun _ _ ad _=>ej wf rfl rfl fun A5 b4 V=>?_);have a3:=Nat.le_trans a0.n V.lo;have a4:=a0.trans V.le;refine ad _ _<|.l Z (fun _ _ ag _=>ej V.wf rfl rfl fun A11 a7 D=>?_);have a1:=Nat.le_trans a4.n D.lo;have a9:=D.le.get _ _ V.get;have X:=a4.trans D.le;refine ag _ _<|.l Z (fun _ _ a5 _=>ej D.wf rfl rfl fun A17 a8 h=>?_);have a2:=Nat.le_trans X.n h.lo;have aa:=h.le.get _ _ a9;have ab:=h.le.get _ _ D.get;have a6:=X.trans h.le;refine a5 _ _<|.q Z (ah Z)<|.nil<|h2 _ _<|.seq fun _ ac=>.region<|.q Z (lg Z Z)<|.q Z (ah Z)<|.nil<|ac _ _ ?_;refine ao.ret ?_;repeat first | with_reducible refine bE ?_ | with_reducible refine bk ?_
 exact be Z (⟨b4,a7,a8,Z,a6,h.wf,aa,ab,h.get,a3,a1,a2⟩)

theorem uV (bo lp:Nat) (J:Nat->AH->Prop) (i j:Nat) (S:List (Wd × Wd)) (lv:Value) (M A:AH) (ba bb bc k1 k2 k3:Nat) (w1 w2 w3:Bool) (hP:cD bo M A) (br:J 0 A) (a0:M.get ba=some (.row w1 [lv] k1)) (a1:M.get bb=some (.row w2 [num (i:Int)] k2)) (a2:M.get bc=some (.row w3 [num (j:Int)] k3)) (hs:bJ M 2 lv (gu S)) (hi:i < S.length) (hj:j < S.length) (hne:∀ s ∈ S,0 < s.1.length/\s.1.length<=100000/\s.2.length<=100000) (hy:∀ k C M2,k < (mz (i:Int) (j:Int) (decide (i=j)) (S.getD i ([],[])) (S.getD j ([],[]))).length->C.wf->J k C->cD bo M2 C->kz Tryz.prog lp #[NG ((mz (i:Int) (j:Int) (decide (i=j)) (S.getD i ([],[])) (S.getD j ([],[]))).getD k .zero)] C (fun v C2=>v=.bool true/\J (k + 1) C2/\C2.wf/\cD bo M2 C2)):bG Tryz.prog 192 #[.func (.yield lp) #[] #[],.pointer (some ⟨ba,0,none⟩),.pointer (some ⟨bb,0,none⟩),.pointer (some ⟨bc,0,none⟩)] A (fun v A1=>J (mz (i:Int) (j:Int) (decide (i=j)) (S.getD i ([],[])) (S.getD j ([],[]))).length A1/\A1.wf/\cD bo M A1):=by
 refine Uq Tryz.call192 Tryz.func192 Z Tryz.results192 Tryz.ntmps192 Z (fun wf=>?_);have V:=hP.le;have cX:=hne _ (bx (d:=(([],[]):Wd × Wd)) hi);have cZ:=hne _ (bx (d:=(([],[]):Wd × Wd)) hj);refine ao.seq fun _ h2=>.drawn [0,1,2,3,4,5,6,7,8,9,10,11] mixed Y Y Z<|.q Z Z Z (ak vF Z Z (V.get _ _ a0) Z)<|.q Z Z Z (ak fj Z Z (V.get _ _ a1) Z) ?_;obtain ⟨b3,f3,dJ,r3,dG,n3,k3,e3,l3,g3,cH,aR⟩:=bJ.at (i:=i) (hs.le V) OP O;refine bj.q Z Z Z (aJ pB mr Z e3 Z l3)<|.q Z Z Z (iM (i:=0) yf fz Z Z U)<|.q Z Z Z (ak gz Z Z g3 ((aR 0 U).trans (wH O)))<|.q Z Z Z (ak vF Z Z (V.get _ _ a0) Z)<|.q Z Z Z (ak fj Z Z (V.get _ _ a2) Z) ?_;obtain ⟨b4,f4,dK,r4,dI,n4,k4,e4,l4,g4,cK,aS⟩:=bJ.at (i:=j) (hs.le V) OP O;refine bj.q Z Z Z (aJ pB mr Z e4 Z l4)<|.q Z Z Z (iM (i:=0) yf fz Z Z U)<|.q Z Z Z (ak gz Z Z g4 ((aS 0 U).trans (wH O)))<|.q Z Z Z (ah Z)<|.q Z Z Z (ah Z)<|.done<|h2 _ _<|.seq fun _ h6=>.seq fun _ h8=>.region ?_;refine Ops.q Z (ah Z)<|.nil<|h8 _ _<|.block<|.loop (X:=Nat) (fun k=>[(0,.func (.yield lp) #[] #[]),(1,.pointer (some ⟨ba,0,none⟩)),(2,.pointer (some ⟨bb,0,none⟩)),(3,.pointer (some ⟨bc,0,none⟩)),(5,aX ((S.getD i ([],[])).1)),(6,aX ((S.getD j ([],[])).1)),(7,num ((k:Nat):Int))]) (fun k B=>(1<=k/\k<=(S.getD i ([],[])).1.length)/\M.le B/\(J (qf (i:Int) (j:Int) (S.getD i ([],[])) (S.getD j ([],[])) k).length B/\cD bo M B)) (fun k=>(S.getD i ([],[])).1.length - k) 1 (vK Z Z Z Z Z Z Z) (⟨⟨Nat.le_refl _,by omega⟩,V,⟨(by rw [GR];exact br),hP⟩⟩) ?_;rintro k B10 ⟨⟨bu,ag⟩,D,hJk,hPk⟩;refine ao.wf fun aP=>.seq fun _ b6=>.seq fun _ b7=>.region<|.q Z (ae Z)<|.q Z (ae Z)<|.q Z (d6 u9 Z)<|.q Z (cA Z Z)<|.nil<|b7 _ _ ?_;refine ao.if rfl (fun bD=>?_) (fun bD=>?_)
 ·refine ao.skip<|b6 _ _<|.seq fun _ a4=>.block<|.seq fun _ b8=>.region<|.q Z (ae Z)<|.q Z (d6 u9 Z)<|.q Z (ae Z)<|.q Z (jc Z Z O) ?_;refine Ops.q Z (ah Z)<|.nil<|b8 _ _<|.seq fun _ ab=>.drawn [0,1,2,3,4,5,6,7,8,9,10,11,12] mixed Y Y Z<|.q Z Z Z (ae Z)<|.q Z Z Z (ae Z)<|.q Z Z Z (d6 u9 Z)<|.q Z Z Z (cA Z Z)<|.q Z Z Z (ae Z) ?_;refine bj.part (t:=34) Z (fun bL=>?_) (fun bL=>?_)
  ·refine bj.qOn Z Z Z Z Z (ae Z)<|.qOn Z Z Z Z Z (ae Z)<|.qOn Z Z Z Z Z (zF u9 Z Z O)<|.qOn Z Z Z Z Z (ae Z)<|.qOn Z Z Z Z Z (ae Z)<|.qOn Z Z Z Z Z (Ej u9 Z Z O)<|.qOn Z Z Z Z Z (qQ Z Z)<|.q Z Z Z (bi Z Z)<|.done<|ab _ _ ?_;refine ao.if rfl (fun bM=>?_) (fun bM=>?_)
   ·refine ao.seq fun _ b9=>?_;have a9:=OE (I:=i) (J:=j) (same:=decide (i=j)) (a:=(S.getD i ([],[]))) (b:=(S.getD j ([],[]))) (n:=k) O O O ‹_›;have a7:=hy _ B10 M a9.1 aP hJk hPk;rw [a9.2.1] at a7;refine ao.drawnYield [0,1,2,3,4,5,6,7,8,9,10,11,12,13,14,15,16,17,18,19,20,21,22,23,24,25,26,27,28] 27 28 rfl Z Z Z Y Y Z mixed Y Y Z (a7)<|.q Z Z Z (ae Z)<|.q Z Z Z (ak fj Z Z (D.get _ _ a1) Z)<|.q Z Z Z (ak fj Z Z (D.get _ _ a2) Z)<|.q Z Z Z (ae Z)<|.q Z Z Z (ae Z)<|.q Z Z Z (ae Z)<|.q Z Z Z (zF u9 Z Z O)<|.q Z Z Z (uA Z Z On)<|.q Z Z Z (ak vF Z Z (D.get _ _ a0) Z) ?_;refine bj.q Z Z Z (ak fj Z Z (D.get _ _ a1) Z) ?_;obtain ⟨cv,cP,cb,dv,bY,dd,d0,aT,bv,b0,bS,ai⟩:=bJ.at (i:=i) (hs.le D) OP O;refine bj.q Z Z Z (aJ pB mr Z aT Z bv)<|.q Z Z Z (iM (i:=1) yf fz Z Z U)<|.q Z Z Z (ak gz Z Z b0 ((ai 1 U).trans (pq O)))<|.q Z Z Z (ae Z)<|.q Z Z Z (ae Z)<|.q Z Z Z (zF u9 Z Z O)<|.q Z Z Z (uA Z Z On)<|.q Z Z Z (ae Z)<|.q Z Z Z (ae Z)<|.q Z Z Z (Ej u9 Z Z O) ?_;refine bj.q Z Z Z (ak vF Z Z (D.get _ _ a0) Z)<|.q Z Z Z (ak fj Z Z (D.get _ _ a2) Z) ?_;obtain ⟨cB,cS,cc,dw,c3,di,d1,aV,bA,b1,bT,ap⟩:=bJ.at (i:=j) (hs.le D) OP O;refine bj.q Z Z Z (aJ pB mr Z aV Z bA)<|.q Z Z Z (iM (i:=1) yf fz Z Z U)<|.q Z Z Z (ak gz Z Z b1 ((ap 1 U).trans (pq O)))<|.q Z Z Z (uA Z Z On)<|.q Z Z Z (cR Z (aU R0 yi Cz Z))<|.q Z Z Z (ae Z)<|.q Z Z Z (ae Z)<|.done ?_;refine ⟨rfl,rfl,rfl,rfl,fun dO A30 aE=>?_⟩;obtain ⟨ay,aA,ck,a5⟩:=aE;refine ⟨ay,?_⟩;have aG:=a5.le;have aC:J (qf (i:Int) (j:Int) (S.getD i ([],[])) (S.getD j ([],[])) (k + 1)).length A30:=by rw [a9.2.2];exact aA
    refine b9 _ _<|.cond_false Z<|.skip<|a4 _ _<|.region<|.q Z (ae Z)<|.q Z (bN (b:=1) Z Z O)<|.q Z (ah Z)<|.nil ?_;exact ⟨k + 1,vK Z Z Z Z Z Z Z,Z,⟨⟨by omega,by omega⟩,aG,⟨aC,a5⟩⟩,O1⟩
   refine ao.skip<|a4 _ _<|.region<|.q Z (ae Z)<|.q Z (bN (b:=1) Z Z O)<|.q Z (ah Z)<|.nil ?_;exact ⟨k + 1,vK Z Z Z Z Z Z Z,Z,⟨⟨by omega,by omega⟩,D,⟨(by rw [Cy (fun q=>by exact absurd q.2.2 ‹_›)];exact hJk),hPk⟩⟩,O1⟩
  refine bj.qOff Z Z Z Z Z Z<|.qOff Z Z Z Z Z Z<|.qOff Z Z Z Z Z Z<|.qOff Z Z Z Z Z Z<|.qOff Z Z Z Z Z Z<|.qOff Z Z Z Z Z Z<|.qOff Z Z Z Z Z Z<|.q Z Z Z (bw Z Z)<|.done<|ab _ _ ?_;refine ao.cond_false Z<|.skip<|a4 _ _<|.region<|.q Z (ae Z)<|.q Z (bN (b:=1) Z Z O)<|.q Z (ah Z)<|.nil ?_;exact ⟨k + 1,vK Z Z Z Z Z Z Z,Z,⟨⟨by omega,by omega⟩,D,⟨(by rw [Cy (fun q=>by exact absurd q.2.1 ‹_›)];exact hJk),hPk⟩⟩,O1⟩
 refine ao.exit<|h6 _ _<|.seq fun _ bd=>.region<|.q Z (ah Z)<|.nil<|bd _ _<|.block<|.loop (X:=Nat) (fun k=>[(0,.func (.yield lp) #[] #[]),(1,.pointer (some ⟨ba,0,none⟩)),(2,.pointer (some ⟨bb,0,none⟩)),(3,.pointer (some ⟨bc,0,none⟩)),(5,aX ((S.getD i ([],[])).1)),(6,aX ((S.getD j ([],[])).1)),(9,num ((k:Nat):Int))]) (fun k B=>(k<=(S.getD i ([],[])).1.length + 1/\(i=j->k=0))/\M.le B/\(J ((qf (i:Int) (j:Int) (S.getD i ([],[])) (S.getD j ([],[])) (S.getD i ([],[])).1.length).length + (sI (i:Int) (j:Int) (S.getD i ([],[])) (S.getD j ([],[])) k).length) B/\cD bo M B)) (fun k=>(S.getD i ([],[])).1.length + 1 - k) 0 (vK Z Z Z Z Z Z Z) (⟨⟨Nat.zero_le _,fun _=>rfl⟩,D,⟨(by rw [show k=(S.getD i ([],[])).1.length by omega] at hJk;exact hJk),hPk⟩⟩) ?_;rintro k B38 ⟨⟨bu,ag⟩,h,hJk,hPk⟩;refine ao.wf fun a3=>.seq fun _ bl=>.seq fun _ ac=>.region<|.q Z (ak fj Z Z (h.get _ _ a1) Z)<|.q Z (ak fj Z Z (h.get _ _ a2) Z)<|.q Z (fF Z Z)<|.q Z (ae Z)<|.part (t:=75) Z (fun bO=>?_) (fun bO=>?_)
 ·refine Ops.on Z Z<|.q Z (ae Z)<|.on Z Z<|.q Z (ae Z)<|.on Z Z<|.q Z (d6 u9 Z)<|.on Z Z<|.q Z (bN Z Z O)<|.on Z Z<|.q Z (ae Z) ?_;refine Ops.on Z Z<|.q Z (d6 u9 Z)<|.on Z Z<|.q Z (KN Z Z)<|.q Z (bi Z Z)<|.nil<|ac _ _<|.if rfl (fun bP=>?_) (fun bP=>?_)
  ·refine ao.skip<|bl _ _<|.seq fun _ ad=>.block<|.seq fun _ bm=>.region<|.q Z (ae Z)<|.q Z (ae Z)<|.q Z (ae Z)<|.q Z (ae Z) ?_;refine Ops.q Z (d6 u9 Z)<|.q Z (bN Z Z O)<|.q Z (UF u9 Z Z Z O)<|.q Z (ae Z)<|.q Z (qQ Z Z)<|.nil<|bm _ _<|.if rfl (fun bR=>?_) (fun bR=>?_)
   ·refine ao.seq fun _ bp=>?_;have aa:=Oa (I:=i) (J:=j) (same:=decide (i=j)) (a:=(S.getD i ([],[]))) (b:=(S.getD j ([],[]))) (n:=k) (decide_eq_false ‹_›) O ‹_›;have a8:=hy _ B38 M aa.1 a3 hJk hPk;rw [aa.2.1] at a8;refine ao.drawnYield [0,1,2,3,4,5,6,7,8,9,10,11,12,13,14,15,16,17,18,19,20,21,22,23,24,25,26,27] 26 27 rfl Z Z Z Y Y Z mixed Y Y Z (a8)<|.q Z Z Z (ae Z)<|.q Z Z Z (ak fj Z Z (h.get _ _ a1) Z)<|.q Z Z Z (ak fj Z Z (h.get _ _ a2) Z)<|.q Z Z Z (ae Z)<|.q Z Z Z (ak vF Z Z (h.get _ _ a0) Z)<|.q Z Z Z (ak fj Z Z (h.get _ _ a1) Z) ?_;obtain ⟨cC,cU,cf,dz,c4,dj,d2,aY,bB,b2,bU,ar⟩:=bJ.at (i:=i) (hs.le h) OP O;refine bj.q Z Z Z (aJ pB mr Z aY Z bB)<|.q Z Z Z (iM (i:=1) yf fz Z Z U)<|.q Z Z Z (ak gz Z Z b2 ((ar 1 U).trans (pq O)))<|.q Z Z Z (ae Z)<|.q Z Z Z (ae Z)<|.q Z Z Z (Ej u9 Z Z O)<|.q Z Z Z (ak vF Z Z (h.get _ _ a0) Z)<|.q Z Z Z (ak fj Z Z (h.get _ _ a2) Z) ?_;obtain ⟨cF,cV,ch,dD,c7,dk,d3,aZ,bC,b5,bV,av⟩:=bJ.at (i:=j) (hs.le h) OP O;refine bj.q Z Z Z (aJ pB mr Z aZ Z bC)<|.q Z Z Z (iM (i:=1) yf fz Z Z U)<|.q Z Z Z (ak gz Z Z b5 ((av 1 U).trans (pq O)))<|.q Z Z Z (uA Z Z On)<|.q Z Z Z (ae Z)<|.q Z Z Z (ae Z)<|.q Z Z Z (ae Z)<|.q Z Z Z (d6 u9 Z)<|.q Z Z Z (bN Z Z O)<|.q Z Z Z (zF u9 Z Z O) ?_;refine bj.q Z Z Z (uA Z Z On)<|.q Z Z Z (cR Z (aU R0 yi Cz Z))<|.q Z Z Z (ae Z)<|.q Z Z Z (ae Z)<|.done ?_;refine ⟨rfl,rfl,rfl,rfl,fun dS A56 aF=>?_⟩;obtain ⟨az,aB,cu,a6⟩:=aF;refine ⟨az,?_⟩;have aI:=a6.le;have aD:J ((qf (i:Int) (j:Int) (S.getD i ([],[])) (S.getD j ([],[])) (S.getD i ([],[])).1.length).length + (sI (i:Int) (j:Int) (S.getD i ([],[])) (S.getD j ([],[])) (k + 1)).length) A56:=by rw [aa.2.2];exact aB
    refine bp _ _<|.cond_false Z<|.skip<|ad _ _<|.region<|.q Z (ae Z)<|.q Z (bN (b:=1) Z Z O)<|.q Z (ah Z)<|.nil ?_;exact ⟨k + 1,vK Z Z Z Z Z Z Z,Z,⟨⟨by omega,fun q=>absurd q ‹_›⟩,aI,⟨aD,a6⟩⟩,O1⟩
   refine ao.skip<|ad _ _<|.region<|.q Z (ae Z)<|.q Z (bN (b:=1) Z Z O)<|.q Z (ah Z)<|.nil ?_;exact ⟨k + 1,vK Z Z Z Z Z Z Z,Z,⟨⟨by omega,fun q=>absurd q ‹_›⟩,h,⟨(by rw [Re ‹_›];exact hJk),hPk⟩⟩,O1⟩
  refine ao.exit ?_;repeat first | with_reducible refine bE ?_ | with_reducible refine bk ?_
  repeat first | with_reducible refine fa ?_ | with_reducible refine ep ?_ | with_reducible refine dX U ?_ | with_reducible refine dY ?_ | with_reducible refine dt ?_
  exact wn (vs:=[]) Z (⟨by (rw [Jf (decide_eq_false ‹_›) O O];exact hJk),a3,hPk⟩)
 refine Ops.off Z Z Z Z<|.off Z Z Z Z<|.off Z Z Z Z<|.off Z Z Z Z<|.off Z Z Z Z<|.off Z Z Z Z<|.off Z Z Z Z<|.q Z (bw Z Z)<|.nil<|ac _ _ ?_;refine ao.cond_false Z<|.exit ?_;repeat first | with_reducible refine bE ?_ | with_reducible refine bk ?_
 repeat first | with_reducible refine fa ?_ | with_reducible refine ep ?_ | with_reducible refine dX U ?_ | with_reducible refine dY ?_ | with_reducible refine dt ?_
 exact wn (vs:=[]) Z (⟨by (rw [Fj (decide_eq_true (Decidable.not_not.1 ‹_›))];rw [ag (Decidable.not_not.1 ‹_›)] at hJk;exact hJk),a3,hPk⟩)
end Go.Proofs.YtjppkekmddjcfaaGreatDoor
