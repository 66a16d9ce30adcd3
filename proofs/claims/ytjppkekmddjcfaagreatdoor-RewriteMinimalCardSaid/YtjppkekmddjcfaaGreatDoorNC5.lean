import Derived.Test.YtjppkekmddjcfaaGreatDoorNC4
import Derived.Test.YtjppkekmddjcfaaGreatDoorNC2
set_option linter.unusedSectionVars false
set_option linter.unusedVariables false
set_option linter.unusedSimpArgs false
open Go.Proofs.Tryz
namespace Go.Proofs.YtjppkekmddjcfaaGreatDoor
open Go Go.RowKit V
set_option maxRecDepth 100000
theorem lm:ef prog 102=some false:=by kernel_rfl
theorem RU:ef prog 143=some false:=by kernel_rfl
theorem i9:eO prog 145 0=some (102,0):=by kernel_rfl
theorem jP:eO prog 147 0=some (145,0):=by kernel_rfl
theorem LJ:eO prog 147 1=some (27,1):=by kernel_rfl
theorem CO:eO prog 147 2=some (143,4):=by kernel_rfl
theorem mu:eO prog 147 3=some (102,5):=by kernel_rfl
theorem w9:eO prog 147 4=some (3,6):=by kernel_rfl
theorem mw:eO prog 147 5=some (37,7):=by kernel_rfl
theorem MF:dQ prog 149=some []:=by kernel_rfl
theorem ij:dY prog 102=some 1:=by kernel_rfl
theorem Xo:dY prog 143=some 1:=by kernel_rfl
theorem qI:dY prog 145=some 1:=by kernel_rfl
theorem Xu:type_of% @underlying143:=@underlying143
theorem IZ:type_of% @underlying149:=@underlying149
theorem fk:type_of% @underlying67:=@underlying67
theorem Yb:c5 prog 149=some (.agg #[]):=by kernel_rfl
theorem RC:c5 prog 67=some (.slice none 0 0):=by kernel_rfl
theorem aas (b:Nat) (kv x1 x2 x3 x4 x5 x6 x7 x8 x9:Value) (k w:W8) (rw:Bool) (cap:Nat) (A:AH) (X:k.length<=1000000) (hw:w.length<=1000000) (hb:A.get b=some (.row rw [kv,x1,x2,x3,x4,x5,x6,x7,x8,x9] cap)) (hk:bJ A 1 kv (ao k)):bH prog 179 #[.pointer (some ⟨b,0,none⟩),ax (w)] A (fun v A1=>v=.bool (gH k w)/\A=A1):=by
 refine bi (e:=[(0,.pointer (some ⟨b,0,none⟩)),(1,ax (w))]) (args:=[.pointer (some ⟨b,0,none⟩),ax (w)]) call179 func179 Z results179 ntmps179 Z Z Z (fun wf=>?_);have h:=AH.le.refl A;refine ak.sq fun h2=>.region<|.I Z<|.nil<|h2<|.sq fun h4=>.region<|.J Z<|.p (du Z)<|.p (ae i9 ij U Z) ?_;refine Ops.p (ah lm Z Z (h.g hb) Z)<|.p (bE (n:=k.length) c0 Z (hk.le h) O (d6 _))<|.J Z<|.p (cN u9 Z)<|.p (vK Z Z O)<|.I Z<|.nil<|h4<|.sq fun h6=>.region ?_;refine Ops.J Z<|.p (ml Z Z)<|.J Z<|.part (t:=16) Z (fun p7=>?_) (fun p7=>?_)
 ·refine Ops.on Z Z<|.J Z<|.on Z Z<|.p (du Z)<|.on Z Z<|.p (ae i9 ij U Z)<|.on Z Z<|.p (ah lm Z Z (h.g hb) Z)<|.on Z Z<|.J Z ?_;refine Ops.on Z Z ?_;have D:=bJ.lo (j:=(((k.length:Nat):Int) - ((w.length:Nat):Int)).toNat) (hk.le h) U On;rw [TK,tn] at D;refine Ops.p (yB c0 j0 Z (hk.le h) (jz O) U On)<|.on Z Z<|.m (fun V=>eK (s:=k.drop ((((k.length:Nat):Int) - ((w.length:Nat):Int)).toNat)) Z c0 u9 u5 D ?_);refine V<|.on Z Z<|.J Z<|.on Z Z<|.p (ng Z Z)<|.p (aL Z Z)<|.I Z<|.nil<|h6<|.rt (by exact aH Z (⟨by (rw [Tm ‹_›];rfl),Z⟩))
 refine Ops.off Z Z Z Z<|.off Z Z Z Z<|.off Z Z Z Z<|.off Z Z Z Z<|.off Z Z Z Z<|.off Z Z Z Z<|.off Z Z Z Z<|.off Z Z Z Z<|.off Z Z Z Z<|.p (bh Z Z) ?_;refine Ops.I Z<|.nil<|h6<|.rt (by exact aH Z (⟨by (rw [Tn ‹_›];rfl),Z⟩))
theorem Na (n:Nat) (k:W8) (b:Nat) (kv x1 x2 x3 x4 x5 x6 x7 x8 x9:Value) (A0 A:AH) (a0:A0.le A) (a2:A0.wf) (hb:A.get b=some (.row true [kv,x1,x2,x3,x4,x5,x6,x7,x8,x9] 10)) (a1:A0.get b=none) (fr:Fresh A0 A kv 1 (ao k)) (V:blk kv ≠ some b) (hn:0 < n/\n<=k.length/\k.length<=1000000):bH prog 140 #[.pointer (some ⟨b,0,none⟩),num ((n:Nat):Int)] A (fun v A1=>∃ kv2,v=.tuple #[]/\A0.le A1/\A1.wf/\A1.get b=some (.row true [kv2,x1,x2,x3,x4,x5,x6,x7,x8,x9] 10)/\Fresh A0 A1 kv2 1 (ao (k.take (k.length - n)))/\blk kv2 ≠ some b):=by
 refine bi (e:=[(0,.pointer (some ⟨b,0,none⟩)),(1,num ((n:Nat):Int))]) (args:=[.pointer (some ⟨b,0,none⟩),num ((n:Nat):Int)]) call140 func140 Z results140 ntmps140 Z Z Z (fun wf=>?_);refine ak.drawn [0,1,2,3,4,5,6,7,8,9,10,11,12,13,14,15] mixed Y Y Z<|.p Z (aN Z)<|.p Z (aN Z)<|.p Z (du Z)<|.p Z (ae i9 ij U Z)<|.p Z (ah lm Z Z hb Z)<|.p Z (aN Z)<|.p Z (du Z)<|.p Z (ae i9 ij U Z)<|.p Z (ah lm Z Z hb Z) ?_;refine bn.p Z (bE (n:=k.length) c0 Z fr.slc O (d6 _))<|.p Z (aN Z)<|.p Z (fJ Z Z O) ?_;obtain ⟨b3,n3,c3,q3,m3,d3⟩:=fr.nonnil (by intro q;have:=Xk List.length q;simp only [aK,Xz] at this;omega);subst q3;rw [aK,TK] at m3;have D:=fr.take (k:=k.length - n) O;rw [TK,iQ] at D;refine bn.p Z (jo c0 j0 Z Z O)<|.p Z (du Z)<|.p Z (ae i9 ij U Z)<|.m Z (fun X=>aW (cs:=[.slice (some ⟨b3,0,none⟩) (k.length - n) c3]) (c':=[.slice (some ⟨b3,0,none⟩) (k.length - n) c3,x1,x2,x3,x4,x5,x6,x7,x8,x9]) wf rfl rfl rfl rfl ij hb G rfl rfl fun A6 h=>?_);refine X (aU.none Y)<|.done ?_;repeat first | with_reducible refine cR ?_ | with_reducible refine cr ?_
 repeat first | with_reducible refine gk ?_ | with_reducible refine fj ?_ | with_reducible refine eR U ?_ | with_reducible refine eU ?_ | with_reducible refine d4 ?_
 exact AU (vs:=[]) Z (⟨_,Z,(al a0 a2 a1 h.n h.keep),h.wf,h.get,(D.keep h.keep V),V⟩)
theorem aap (b:Nat) (kv:Value) (g:Int) (u rv:Value) (mb:Nat) (qv:Value) (x6 x7 x8 x9:Value) (rs:List an) (k:W8) (rw:Bool) (cap:Nat) (A:AH) (b7:0 < k.length/\k.length<=1000000/\rs.length<=1000000) (V:∀ r ∈ rs,0 < r.left.length/\r.left.length<=1000000) (hb:A.get b=some (.row rw [kv,num g,u,rv,.map (some mb),qv,x6,x7,x8,x9] cap)) (hk:bJ A 1 kv (ao k)) (hr:bJ A 3 rv (cd rs)) (hI:ou A mb rs):bH prog 141 #[.pointer (some ⟨b,0,none⟩)] A (fun v A1=>v=num (bq rs k)/\A=A1):=by
 refine bi (e:=[(0,.pointer (some ⟨b,0,none⟩))]) (args:=[.pointer (some ⟨b,0,none⟩)]) call141 func141 Z results141 ntmps141 Z Z Z (fun wf=>?_);have D:=AH.le.refl A;obtain ⟨mrw,mes,mck,mE,az,aA,a1⟩:=hI;have a0:=fun r (q:r ∈ rs)=>(V r q).1;have hxl:=FJ rs (k.getD (k.length - 1) 0);refine ak.sq fun h2=>.region<|.I Z<|.nil<|h2<|.sq fun h4=>.sq fun h6=>.drawn [0,1,2,3,4,5,6,7,8,9,10,11,12,13,14,15,16,17,20,18,19] mixed Y Y Z<|.p Z (aN Z)<|.p Z (du Z) ?_;refine bn.p Z (ae CO Xo U Z)<|.p Z (ah RU Z Z (D.g hb) Z)<|.p Z (aN Z)<|.p Z (du Z)<|.p Z (ae jP qI U Z)<|.p Z (ae i9 ij U Z)<|.p Z (ah lm Z Z (D.g hb) Z)<|.p Z (aN Z)<|.p Z (du Z)<|.p Z (ae jP qI U Z) ?_;refine bn.p Z (ae i9 ij U Z)<|.p Z (ah lm Z Z (D.g hb) Z)<|.p Z (bE (n:=k.length) c0 Z (hk.le D) O (d6 _))<|.p Z (fJ (b:=1) Z Z O) ?_;obtain ⟨b0,b3,aV,bl,aR,bb,b8,a7,aB,aa,aG,a2⟩:=bJ.at (i:=k.length - 1) (hk.le D) On O;refine bn.p Z (au c0 j0 Z a7 Z aB)<|.p Z (ah NF Z Z aa ((dt a2).trans (fF O)))<|.p Z (aN Z)<|.m Z (fun a5=>r0 uE Z Z Xu u5 RC az aA ?_);refine a5 (aU.none Y)<|.p Z (bE (n:=(iL rs (k.getD (k.length - 1) 0)).length) fk Z ((a1 (k.getD (k.length - 1) 0)).le D) O (fy _))<|.done<|h6<|.block<|.loop (X:=Nat) (fun j=>[(0,.pointer (some ⟨b,0,none⟩)),(23,(lk mE (k.getD (k.length - 1) 0)).getD (.slice none 0 0)),(24,num (((iL rs (k.getD (k.length - 1) 0)).length:Nat):Int)),(25,num ((j:Nat):Int))]) (fun j B=>(j<=(iL rs (k.getD (k.length - 1) 0)).length/\∀ i,i < j->gH k (rs.getD ((iL rs (k.getD (k.length - 1) 0)).getD i 0).toNat .zero).left=false)/\A=B) (fun j=>(iL rs (k.getD (k.length - 1) 0)).length - j) 0 (jC Z Z Z Z) (⟨⟨XK _,fun i h=>by omega⟩,Z⟩) ?_;rintro j B14 ⟨⟨hj,hq⟩,rfl⟩;have hio:=fun q:j < (iL rs (k.getD (k.length - 1) 0)).length=>YP q;have hlo:=fun q:j < (iL rs (k.getD (k.length - 1) 0)).length=>V _ (bj (d:=an.zero) (hio q).2.1);refine ak.sq fun ad=>.region<|.p (ca Z Z)<|.nil<|ad<|.sq fun ag=>.if rfl (fun aE=>?_) (fun aE=>?_)
 ·refine ak.skip<|ag<|.sq fun ai=>.block<|.sq fun ap=>.region ?_;obtain ⟨b1,b5,aY,bm,aS,bc,b9,a8,aC,ab,aI,a3⟩:=bJ.at (i:=j) ((a1 (k.getD (k.length - 1) 0)).le D) Oa O;refine Ops.p (au fk dH Z a8 Z aC)<|.p (ah fA Z Z ab ((dt a3).trans (dT O)))<|.I Z<|.nil<|ap<|.sq fun ar=>.drawn [0,1,2,3,4,5,6,7,8,9,10,11,12] mixed Y Y Z<|.p Z (aN Z)<|.p Z (du Z)<|.p Z (ae jP qI U Z) ?_;refine bn.p Z (aN Z)<|.p Z (du Z)<|.p Z (ae LJ dE U Z)<|.p Z (ae cW fp U Z)<|.p Z (ah ga Z Z (D.g hb) Z)<|.p Z (aN Z) ?_;obtain ⟨b2,b6,aZ,bp,aT,bd,ba,a9,aD,ac,aP,a4⟩:=bJ.at (i:=((iL rs (k.getD (k.length - 1) 0)).getD j 0).toNat) (hr.le D) (by simp only [bw];have:=hio O;omega) O;refine bn.p Z (au i4 eE Z a9 (jz (by have:=hio O;omega)) aD)<|.p Z (ae ew ek U Z)<|.p Z (ah eJ Z Z ac ((a4 0 U).trans (jK (by have:=hio O;omega))))<|.m Z (fun a6=>aq Z (aas b kv (num (g)) u rv (.map (some mb)) qv x6 x7 x8 x9 k ((rs.getD (((iL rs (k.getD (k.length - 1) 0)).getD j 0).toNat) .zero).left) _ _ A O (hlo O).2 (D.g hb) (hk.le D)) ?_);rintro br A32 ⟨rfl,rfl⟩;refine a6 (aU.none Y)<|.done<|ar<|.ifB Z (fun aF=>?_) (fun aF=>?_)
  ·refine ak.sq fun av=>.region<|.J Z<|.I Z<|.nil<|av<|.rt (by exact aH Z (⟨by (rw [OG a0 ‹_› (hio O).2.2 hq ‹_›,<- (hio O).2.2];rfl),Z⟩))
  refine ak.skip<|ai<|.region<|.p (bF (b:=1) Z Z O)<|.J Z<|.nil ?_;exact ⟨j + 1,jC Z Z Z Z,Z,⟨⟨by omega,fun i h=>(XW.1 h).elim (hq i) (fun z=>by subst z;assumption)⟩,Z⟩,O1⟩
 refine ak.exit<|h4<|.sq fun ay=>.region<|.I Z<|.nil<|ay<|.rt (by exact aH Z (⟨by (rw [Ua a0 O hq];rfl),Z⟩))
theorem IJ (w q:W8) (b:Nat) (x0 x1 x2 x3 x4 qv x6 x7 x8 x9:Value) (A0 A:AH) (aE:A0.le A) (ag:A0.wf) (hb:A.get b=some (.row true [x0,x1,x2,x3,x4,qv,x6,x7,x8,x9] 10)) (aG:A0.get b=none) (fr:Fresh A0 A qv 1 (ao q)) (aF:blk qv ≠ some b) (hn:w.length + q.length<=1000000):bH prog 139 #[.pointer (some ⟨b,0,none⟩),ax (w)] A (fun v A1=>∃ qv2,v=.tuple #[]/\A0.le A1/\A1.wf/\A1.get b=some (.row true [x0,x1,x2,x3,x4,qv2,x6,x7,x8,x9] 10)/\Fresh A0 A1 qv2 1 (ao (q ++ w.reverse))/\blk qv2 ≠ some b):=by
 refine bi (e:=[(0,.pointer (some ⟨b,0,none⟩)),(1,ax (w))]) (args:=[.pointer (some ⟨b,0,none⟩),ax (w)]) call139 func139 Z results139 ntmps139 Z Z Z (fun wf=>?_);refine ak.sq fun h2=>.region<|.J Z<|.p (cN u9 Z)<|.p (vK Z Z O)<|.I Z<|.nil<|h2<|.block<|.loop (X:=Nat × W8 × Value) (fun ⟨j,o,s⟩=>[(0,.pointer (some ⟨b,0,none⟩)),(1,ax (w)),(4,num ((j:Int) - 1))]) (fun ⟨j,o,s⟩ B=>(j<=w.length/\o=q ++ (w.drop j).reverse)/\A0.le B/\Fresh A0 B s 1 (ao o)/\B.get b=some (.row true [x0,x1,x2,x3,x4,s,x6,x7,x8,x9] 10)/\V.blk s ≠ some b) (fun ⟨j,o,s⟩=>j) (⟨w.length,q,qv⟩) (aj.cons Z<|aj.cons Z<|aj.cons (Xk (fun z:Int=>some (num z)) O)<|aj.nil _) (⟨⟨XV _,by simp⟩,aE,fr,hb,aF⟩) ?_;rintro ⟨j,o,s⟩ B4 ⟨⟨hj,ho⟩,ad,a4,a0,a1⟩;refine ak.wf fun ab=>?_;have hlo:o.length=q.length + (w.length - j):=by rw [ho];simp
 have htn:((j:Int) - 1).toNat=j - 1:=by omega
 refine ak.sq fun h7=>.sq fun h9=>.region<|.J Z<|.p (ml Z Z)<|.nil<|h9<|.if rfl (fun aI=>?_) (fun aI=>?_)
 ·refine ak.skip<|h7<|.sq fun aD=>.block<|.drawn [0,1,2,3,4,5,6,7,8,9,10,11,12] mixed Y Y Z<|.p Z (aN Z)<|.p Z (aN Z)<|.p Z (du Z)<|.p Z (ae mu ij U Z) ?_;have ap:=de (off:=5) a0 (show _=some (s) from rfl);refine bn.p Z (ah lm Z Z a0 Z)<|.p Z (aN Z)<|.p Z (aN Z)<|.p Z (nP u9 Z (jz O) O)<|.m Z (fun av=>bf (c:=[ed (w.getD ((j:Int) - 1).toNat 0)]) ab rfl (aw c0 j0 z5 rfl U U rfl) fun A16 aR D=>?_);have aC:=ne_new ab a0 D.lo;have ac:=D.le.g a0;have a6:=a4.le D.le;have ar:=cl D.le ap;refine av (aU.list (L:=[(⟨b,5,none⟩,s)]) Y (bz ar cm))<|.m Z (fun ay=>ct (ys:=[ed (w.getD ((j:Int) - 1).toNat 0)]) rfl rfl c0 j0 tD z5 rfl U c0 (fun _ h=>by cases h) a6.own (bN (n:=1) D.get Z) rfl rfl (by show (_ + _) * 1<=_;simp only [aK,Xq,Xz];(try simp only [Xx,Xq,Xz]);omega) Ob fun A24 aS a2=>?_);rw [show ([ed (w.getD ((j:Int) - 1).toNat 0)]:List Value)=ao [w.getD ((j:Int) - 1).toNat 0] from rfl,eu] at a2;obtain ⟨a7,aA⟩:=Fresh.grow a6 (ad.trans D.le) ag a2;have a9:=a2.ne a1 D.wf ac;refine ay (aU.none Y)<|.p Z (du Z)<|.p Z (ae mu ij U Z) ?_;obtain ⟨aa,a8,a5,aP,_⟩:=a7.own.slice;subst aP;refine bn.m Z (fun az=>aW (cs:=[.slice aa a8 a5]) (c':=[x0,x1,x2,x3,x4,.slice aa a8 a5,x6,x7,x8,x9]) a2.wf rfl rfl rfl rfl ij (a2.keep a1 ac) G rfl rfl fun A36 a3=>?_);have ai:=a7.keep a3.keep a9;have aB:=al aA ag aG a3.n a3.keep;refine az (aU.none Y)<|.done<|aD<|.region<|.J Z<|.p (vK Z Z O)<|.I Z<|.nil ?_;exact ⟨⟨j - 1,o ++ [w.getD ((j:Int) - 1).toNat 0],.slice aa a8 a5⟩,aj.cons Z<|aj.cons Z<|aj.cons (Xk (fun z:Int=>some (num z)) O)<|aj.nil _,Z,⟨⟨by omega,by rw [ho,htn,XY,Ie O hj]⟩,aB,ai,a3.get,a9⟩,O1⟩
 refine ak.exit ?_;repeat first | with_reducible refine cR ?_ | with_reducible refine cr ?_
 repeat first | with_reducible refine gk ?_ | with_reducible refine fj ?_ | with_reducible refine eR U ?_ | with_reducible refine eU ?_ | with_reducible refine d4 ?_
 exact AU (vs:=[]) Z (⟨_,Z,ad,ab,a0,ce a4 (Xk ao (by rw [ho,show j=0 by omega];rfl)),a1⟩)
theorem s_use (zi:Int) (i:Nat) (hzi:zi=(i:Int)) (rs:List an) (k q:W8) (d:List bK) (n m:Nat) (b0:Nat) (kv:Value) (g:Int) (u rv:Value) (mb:Nat) (qv x7 dv:Value) (A0 A:AH) (bU:A0.le A) (aD:A0.wf) (hb:A.get b0=some (.row true [kv,num g,u,rv,.map (some mb),qv,num ((m:Nat):Int),x7,num ((n:Nat):Int),dv] 10)) (ba:A0.get b0=none) (frk:Fresh A0 A kv 1 (ao k)) (frq:Fresh A0 A qv 1 (ao q)) (frd:Fresh A0 A dv 3 (co d)) (nk:blk kv ≠ some b0) (nq:blk qv ≠ some b0) (nd:blk dv ≠ some b0) (skq:bx kv qv) (skd:bx kv dv) (sqd:bx qv dv) (hi:i < rs.length/\rs.length<=1000000) (hx:(rs.getD i .zero).left.length<=k.length/\0 < (rs.getD i .zero).left.length/\k.length<=100000/\(rs.getD i .zero).right.length + q.length<=100000) (hd:d.length<=100000/\n<=20000/\m<=1000000/\(rs.getD i .zero).proof.length<=100000/\dp (rs.getD i .zero).proof<=1000000) (hL:ib A0) (hr:bJ A0 3 rv (cd rs)) (hp:Proofs A0 rs):Ci prog 142 #[.pointer (some ⟨b0,0,none⟩),num (zi)] A (fun v A1=>∃ kv2 qv2 dv2,v=.tuple #[]/\A0.le A1/\A1.wf/\A1.get b0=some (.row true [kv2,num g,u,rv,.map (some mb),qv2,num ((m + dp (iM (k.take (k.length - (rs.getD i .zero).left.length)) (rs.getD i .zero).proof):Nat):Int),x7,num ((n + 1:Nat):Int),dv2] 10)/\Fresh A0 A1 kv2 1 (ao (k.take (k.length - (rs.getD i .zero).left.length)))/\Fresh A0 A1 qv2 1 (ao (q ++ (rs.getD i .zero).right.reverse))/\Fresh A0 A1 dv2 3 (co (d ++ (iM (k.take (k.length - (rs.getD i .zero).left.length)) (rs.getD i .zero).proof)))/\blk kv2 ≠ some b0/\blk qv2 ≠ some b0/\blk dv2 ≠ some b0/\bx kv2 qv2/\bx kv2 dv2/\bx qv2 dv2/\JB (rs.getD i .zero) k n d m) (fun ch A1=>¬ JB (rs.getD i .zero) k n d m/\ch=[{ v:=.iface 149 (.agg #[]),recovered:=false }]/\A0.le A1/\A1.wf/\∃ y0 y5 y6 y7 y8 y9,A1.get b0=some (.row true [y0,num g,u,rv,.map (some mb),y5,y6,y7,y8,y9] 10)):=by
 refine Tu (e:=[(0,.pointer (some ⟨b0,0,none⟩)),(1,num (zi))]) (args:=[.pointer (some ⟨b0,0,none⟩),num (zi)]) call142 func142 Z results142 ntmps142 Z Z Z (fun wf=>?_);subst hzi;refine ak.sq fun h2=>.region<|.J Z<|.p (du Z)<|.p (ae LJ dE U Z)<|.p (ae cW fp U Z)<|.p (ah ga Z Z hb Z)<|.J Z ?_;obtain ⟨b3,f3,fq,r3,fo,n3,k3,e3,l3,g3,eg,fe⟩:=bJ.at (i:=i) (hr.le bU) O3 O;refine Ops.p (au i4 eE Z e3 Z l3)<|.p (am uo eE Z Z g3 (eg.trans (Xk some (iI O))))<|.m (fun eV=>bZ wf wJ rfl fun A6 b5 ay=>?_);have ap:=ne_new wf hb ay.lo;have dm:=frk.own.ne_new wf ay.lo;have dz:=frq.own.ne_new wf ay.lo;refine eV<|.m (fun dW=>aW (cs:=[ax ((rs.getD i .zero).left),ax ((rs.getD i .zero).right),(rs.getD i .zero).pv]) (c':=[ax ((rs.getD i .zero).left),ax ((rs.getD i .zero).right),(rs.getD i .zero).pv]) ay.wf rfl rfl rfl rfl eE ay.get G (jm (hp.get hi.1)) rfl fun A17 av=>?_);have ex:=av.k ap (ay.le.g hb);have bv:=(frk.le ay.le).keep av.keep dm;have bA:=(frq.le ay.le).keep av.keep dz;have bB:=(frd.le ay.le).keep av.keep (frd.own.ne_new wf ay.lo);refine dW<|.nil<|h2<|.sq fun ey=>.drawn [0,1,2,3,4,5,6] mixed Y Y Z<|.p Z (aN Z)<|.p Z (du Z)<|.p Z (ae jP qI U Z)<|.p Z (ae ew ek U Z)<|.p Z (ah eJ Z Z av.get Z) ?_;refine bn.p Z (cN u9 Z) ?_;have bS:=cz (bs:=[some b0,blk kv]) (al (bU.trans ay.le) aD (aX aD (Xj bU.n ay.lo)) av.n av.keep) (xe ba (uD bv.lo qX));refine bn.m Z (fun dZ=>aq Z (Na (((rs.getD i .zero).left).length) k b0 kv (num (g)) u rv (.map (some mb)) qv (num ((m:Nat):Int)) x7 (num ((n:Nat):Int)) dv (A17.hide [some b0,blk kv]) A17 (c6 A17 [some b0,blk kv]) (cI av.wf) ex (cQ (by simp)) (bv.hide (by simp)) nk O) ?_);rintro fr A30 ⟨a5,rfl,aR,dd,bc,aE,a8⟩;have dS:=bX (bs:=[some b0,blk kv]) av.get (qY ap.symm (pk dm mN));have dj:=aR.g dS;have c3:=aE.sep bA.own (jG nq (jH skq jk));have bC:=bA.off (jG nq (jH skq jk)) aR;have e9:=aE.sep bB.own (jG nd (jH skd jk));have bD:=bB.off (jG nd (jH skd jk)) aR;have bL:=aE.base bS;refine dZ (aU.none Y)<|.done<|ey<|.sq fun ez=>.region<|.J Z<|.p (ae jw ek U Z)<|.p (ah eJ Z Z dj Z) ?_;have bT:=cz (bs:=[some b0,blk qv]) (bS.trans aR) (xe ba (uD bC.lo qX));refine Ops.m (fun e0=>aq Z (IJ ((rs.getD i .zero).right) q b0 a5 (num (g)) u rv (.map (some mb)) qv (num ((m:Nat):Int)) x7 (num ((n:Nat):Int)) dv (A30.hide [some b0,blk qv]) A30 (c6 A30 [some b0,blk qv]) (cI dd) bc (cQ (by simp)) (bC.hide (by simp)) nq O) ?_);rintro ft A46 ⟨a9,rfl,aS,di,aT,aF,aC⟩;have dV:=bX (bs:=[some b0,blk qv]) dj (qY ap.symm (pk dz mN));have ea:=aF.sep bD.own (jG nd (jH sqd jk));have ec:=aF.sep bL.own (jG a8 (jH (bx.symm c3) jk));refine e0<|.nil<|ez<|.sq fun eA=>.region<|.J Z<|.p (du Z)<|.p (ae mw eW U Z)<|.p (ae qc dH U Z)<|.p (ah fA Z Z aT Z) ?_;refine Ops.p (bF (b:=1) Z Z O)<|.p (du Z)<|.p (ae mw eW U Z)<|.p (ae qc dH U Z)<|.m (fun e1=>aW (cs:=[num ((n + 1:Nat):Int)]) (c':=[a5,num (g),u,rv,.map (some mb),a9,num ((m:Nat):Int),x7,num ((n + 1:Nat):Int),dv]) di rfl rfl rfl rfl dH aT G rfl rfl fun A61 a3=>?_);have dk:=a3.k ap.symm (aS.g dV);have bM:=(bD.off (jG nd (jH sqd jk)) aS).keep a3.keep nd;have bO:=(bL.off (jG a8 (jH (bx.symm c3) jk)) aS).keep a3.keep a8;have dG:=(aF.base bT).keep a3.keep aC;have aV:=al (bT.trans aS) aD ba a3.n a3.keep;refine e1<|.nil<|eA<|.sq fun eC=>.sq fun dl=>.drawn [0,1,2,3,4,5,6,7,8,9,10,11,12,13,14,15,16,17,18] mixed Y Y Z<|.p Z (aN Z)<|.p Z (du Z)<|.p Z (ae mw eW U Z)<|.p Z (ae qc dH U Z) ?_;refine bn.p Z (ah fA Z Z a3.get Z)<|.p Z (eh (b:=20000) Z Z)<|.p Z (aN Z)<|.part (t:=42) Z (fun eY=>?_) (fun eY=>?_)
 ·refine bn.qOff Z Z Z Z Z Z<|.qOff Z Z Z Z Z Z<|.qOff Z Z Z Z Z Z<|.qOff Z Z Z Z Z Z<|.qOff Z Z Z Z Z Z<|.qOff Z Z Z Z Z Z<|.qOff Z Z Z Z Z Z<|.qOff Z Z Z Z Z Z<|.qOff Z Z Z Z Z Z<|.qOff Z Z Z Z Z Z ?_;refine bn.qOff Z Z Z Z Z Z<|.p Z (aL Z Z)<|.done<|dl<|.cond_true Z<|.region<|.p (cx Z (bg IZ Yb MF Z))<|.iface IZ Z Z<|.panicI Z ?_;(repeat first | with_reducible refine lQ ?_ | with_reducible refine kn ?_ | with_reducible refine jF ?_);exact Vi (⟨by exact fitU_1 ‹_›,Z,aV,a3.wf,_,_,_,_,_,_,a3.get⟩)
 refine bn.qOn Z Z Z Z Z (aN Z)<|.qOn Z Z Z Z Z (du Z)<|.qOn Z Z Z Z Z (ae mw eW U Z)<|.qOn Z Z Z Z Z (ae tx mn U Z)<|.qOn Z Z Z Z Z (ah pK Z Z a3.get Z)<|.qOn Z Z Z Z Z (bE (n:=d.length) oq Z bM.slc O (dR _))<|.qOn Z Z Z Z Z (ae mg mn U Z)<|.qOn Z Z Z Z Z (ah pK Z Z dk Z)<|.qOn Z Z Z Z Z (bE (n:=((rs.getD i .zero).proof).length) oq Z ((hp.get hi.1).le aV) O (dR _))<|.qOn Z Z Z Z Z (bF Z Z O) ?_;refine bn.qOn Z Z Z Z Z (eh (b:=100000) Z Z)<|.p Z (bh Z Z)<|.done<|dl<|.if rfl (fun eZ=>?_) (fun eZ=>?_)
 ·refine ak.region<|.p (cx Z (bg IZ Yb MF Z))<|.iface IZ Z Z<|.panicI Z ?_;(repeat first | with_reducible refine lQ ?_ | with_reducible refine kn ?_ | with_reducible refine jF ?_);exact Vi (⟨by exact fitU_2 ‹_›,Z,aV,a3.wf,_,_,_,_,_,_,a3.get⟩)
 refine ak.skip<|eC<|.sq fun eG=>.region<|.J Z<|.p (du Z)<|.p (ae jP qI U Z)<|.p (ae i9 ij U Z)<|.p (ah lm Z Z a3.get Z)<|.m (fun e2=>eK (s:=k.take (k.length - (((rs.getD i .zero).left).length))) Z c0 u9 u5 bO.slc ?_);refine e2<|.I Z<|.nil<|eG<|.sq fun eL=>.region<|.p (ae mg mn U Z)<|.p (ah pK Z Z dk Z)<|.p (bE (n:=((rs.getD i .zero).proof).length) oq Z ((hp.get hi.1).le aV) O (dR _))<|.J Z ?_;refine Ops.nil<|eL<|.block<|.loop (X:=Nat × List bK × Nat × Value) (fun ⟨j,D,mm,dw⟩=>[(0,.pointer (some ⟨b0,0,none⟩)),(5,ax (k.take (k.length - (((rs.getD i .zero).left).length)))),(64,(rs.getD i .zero).pv),(65,num ((((rs.getD i .zero).proof).length:Nat):Int)),(66,num ((j:Nat):Int))]) (fun ⟨j,D,mm,dw⟩ B=>(j<=(rs.getD i .zero).proof.length/\D=d ++ pre (k.take (k.length - (rs.getD i .zero).left.length)) (rs.getD i .zero).proof j/\mm=m + dp (pre (k.take (k.length - (rs.getD i .zero).left.length)) (rs.getD i .zero).proof j)/\mm<=1000000/\∀ i2,i2 < j->(k.take (k.length - (rs.getD i .zero).left.length)).length + ((rs.getD i .zero).proof.getD i2 .zero).conj.length<=100000)/\A0.le B/\Fresh A0 B dw 3 (co D)/\Fresh A0 B a5 1 (ao (k.take (k.length - (((rs.getD i .zero).left).length))))/\Fresh A0 B a9 1 (ao (q ++ ((rs.getD i .zero).right).reverse))/\B.get b0=some (.row true [a5,num (g),u,rv,.map (some mb),a9,num ((mm:Nat):Int),x7,num ((n + 1:Nat):Int),dw] 10)/\V.blk dw ≠ some b0/\V.blk a5 ≠ some b0/\V.blk a9 ≠ some b0/\bx dw a5/\bx dw a9/\bx a5 a9) (fun ⟨j,D,mm,dw⟩=>(rs.getD i .zero).proof.length - j) (⟨0,d,m,dv⟩) (sY Z Z Z Z Z) (⟨⟨XK _,by simp [pre],by simp [pre,dp],hd.2.2.1,fun i2 h=>by omega⟩,aV,bM,bO,dG,a3.get,nd,a8,aC,(bx.symm e9),(bx.symm ea),(bx.symm ec)⟩) ?_;rintro ⟨j,D,mm,dw⟩ B80 ⟨⟨hj,hD,hmm,hml,hq⟩,b6,aG,ad,ag,aI,ar,a0,a1,aA,aB,aY⟩;refine ak.wf fun aP=>?_;have hDl:D.length=d.length + j:=by rw [hD,Xx,ZJ hj]
 have hck:=fun z:j < (rs.getD i .zero).proof.length=>LD (bj (d:=bK.zero) z);have hpc:=fun z:j < (rs.getD i .zero).proof.length=>GU (p:=(k.take (k.length - (rs.getD i .zero).left.length))) z;have hps:=fun z:j < (rs.getD i .zero).proof.length=>GV (p:=(k.take (k.length - (rs.getD i .zero).left.length))) z;have hwr:=nG ((k.take (k.length - (rs.getD i .zero).left.length)) ++ ((rs.getD i .zero).proof.getD j .zero).conj);have hkp:(k.take (k.length - (rs.getD i .zero).left.length)).length<=k.length:=by simp
 have hla:=@Xx _ (k.take (k.length - (rs.getD i .zero).left.length)) ((rs.getD i .zero).proof.getD j .zero).conj;refine ak.sq fun eN=>.region<|.p (ca Z Z)<|.nil<|eN<|.sq fun eQ=>.if rfl (fun f0=>?_) (fun f0=>?_)
 ·refine ak.skip<|eQ<|.sq fun eS=>.block<|.sq fun eT=>.region ?_;obtain ⟨f9,fi,f6,fn,f4,fm,fl,en,eX,ev,dD,f2⟩:=bJ.at (i:=j) ((hp.get hi.1).le b6) Or O;refine Ops.p (au oq jb Z en Z eX)<|.p (am zy jb Z Z ev (dD.trans (Xk some (i3 O))))<|.m (fun e4=>bZ aP Rl rfl fun A94 fd a7=>?_);have az:=ne_new aP aI a7.lo;have bd:=aG.own.ne_new aP a7.lo;have bV:=ad.own.ne_new aP a7.lo;have bY:=ag.own.ne_new aP a7.lo;have b9:=aX aD (Xj b6.n a7.lo);refine e4<|.m (fun cP=>aW (cs:=[ax ((((rs.getD i .zero).proof).getD j .zero).conj),num ((((rs.getD i .zero).proof).getD j .zero).rel),.bool ((((rs.getD i .zero).proof).getD j .zero).inv)]) (c':=[ax ((((rs.getD i .zero).proof).getD j .zero).conj),num ((((rs.getD i .zero).proof).getD j .zero).rel),.bool ((((rs.getD i .zero).proof).getD j .zero).inv)]) a7.wf rfl rfl rfl rfl jb a7.get G rfl rfl fun A105 a6=>?_);have bP:=a6.k az (a7.le.g aI);have c7:=(aG.le a7.le).keep a6.keep bd;have cb:=(ad.le a7.le).keep a6.keep bV;have cc:=(ag.le a7.le).keep a6.keep bY;have b2:=al (b6.trans a7.le) aD b9 a6.n a6.keep;refine cP<|.nil<|eT<|.sq fun dI=>.sq fun dJ=>.region<|.J Z<|.p (cN u9 Z)<|.p (ae jx ek U Z)<|.p (ah eJ Z Z a6.get Z) ?_;refine Ops.p (cN u9 Z)<|.p (bF Z Z O)<|.p (eh (b:=100000) Z Z)<|.nil<|dJ<|.if rfl (fun e5=>?_) (fun e5=>?_)
  ·refine ak.region<|.p (cx Z (bg IZ Yb MF Z))<|.iface IZ Z Z<|.panicI Z ?_;(repeat first | with_reducible refine lQ ?_ | with_reducible refine kn ?_ | with_reducible refine jF ?_);exact Vi (⟨by exact fitU_3 O ‹_›,Z,b2,a6.wf,_,_,_,_,_,_,bP⟩)
  refine ak.skip<|dI<|.sq fun dK=>.region<|.J Z<|.p (ae jx ek U Z)<|.p (ah eJ Z Z a6.get Z)<|.p (nf Z Z O)<|.m (fun cS=>aq Z (uZ ((k.take (k.length - (((rs.getD i .zero).left).length))) ++ ((((rs.getD i .zero).proof).getD j .zero).conj)) A105 O (hL.le b2)) ?_);rintro f7 A121 ⟨rfl,ai,c4⟩;refine cS<|.p (ae jx ek U Z)<|.m (fun cU=>aW (cs:=[ax (cq ((k.take (k.length - (((rs.getD i .zero).left).length))) ++ ((((rs.getD i .zero).proof).getD j .zero).conj)))]) (c':=[ax (cq ((k.take (k.length - (((rs.getD i .zero).left).length))) ++ ((((rs.getD i .zero).proof).getD j .zero).conj))),num ((((rs.getD i .zero).proof).getD j .zero).rel),.bool ((((rs.getD i .zero).proof).getD j .zero).inv)]) c4 rfl rfl rfl rfl ek (ai.g a6.get) G rfl rfl fun A130 aa=>?_);have bb:=aa.k az (ai.g bP);have cf:=(c7.le ai).keep aa.keep bd;have ck:=(cb.le ai).keep aa.keep bV;have cu:=(cc.le ai).keep aa.keep bY;refine cU<|.nil<|dK<|.sq fun dL=>.drawn [0,1,2,3,4,5,6,7,8,9,10,11,12] mixed Y Y Z<|.p Z (aN Z)<|.p Z (aN Z)<|.p Z (du Z)<|.p Z (ae mw eW U Z)<|.p Z (ae tx mn U Z) ?_;have cH:=de (off:=9) bb (show _=some (dw) from rfl);refine bn.p Z (ah pK Z Z bb Z)<|.p Z (am zy jb Z Z aa.get Z)<|.m Z (fun cV=>bf (c:=[ax (cq ((k.take (k.length - (((rs.getD i .zero).left).length))) ++ ((((rs.getD i .zero).proof).getD j .zero).conj))),num ((((rs.getD i .zero).proof).getD j .zero).rel),.bool ((((rs.getD i .zero).proof).getD j .zero).inv)]) aa.wf rfl (aw oq jb Rl rfl U U rfl) fun A145 f1 a2=>?_);have bR:=a2.le.g bb;have bl:=cf.le a2.le;have bm:=ck.le a2.le;have bp:=cu.le a2.le;have cK:=cl a2.le cH;refine cV (aU.list (L:=[(⟨b0,9,none⟩,dw)]) Y (bz cK cm))<|.m Z (fun cX=>ct (ys:=[ax (cq ((k.take (k.length - (((rs.getD i .zero).left).length))) ++ ((((rs.getD i .zero).proof).getD j .zero).conj))),num ((((rs.getD i .zero).proof).getD j .zero).rel),.bool ((((rs.getD i .zero).proof).getD j .zero).inv)]) rfl rfl oq jb Uk Rl rfl U oq (fun _ h=>by cases h) bl.own (bN (n:=1) a2.get Z) rfl rfl (by show (_ + _) * 32<=_;simp only [cj,Xq,Xz];(try simp only [Xx,Xq,Xz]);omega) (by simp only [cj,Xq,Xz];(try simp only [Xx,Xq,Xz]);omega) fun A161 f8 a4=>?_);rw [show ([ax (cq ((k.take (k.length - (((rs.getD i .zero).left).length))) ++ ((((rs.getD i .zero).proof).getD j .zero).conj))),num ((((rs.getD i .zero).proof).getD j .zero).rel),.bool ((((rs.getD i .zero).proof).getD j .zero).inv)]:List Value)=co [⟨cq ((k.take (k.length - (((rs.getD i .zero).left).length))) ++ ((((rs.getD i .zero).proof).getD j .zero).conj)),(((rs.getD i .zero).proof).getD j .zero).rel,(((rs.getD i .zero).proof).getD j .zero).inv⟩] from rfl,oG] at a4;obtain ⟨br,d1⟩:=Fresh.grow bl ((al (b2.trans ai) aD b9 aa.n aa.keep).trans a2.le) aD a4;have b7:=a4.ne ar a2.wf bR;have d2:=bx.appd (show bx dw a5 from aA) bm.own a2.wf a4;have d3:=bx.appd (show bx dw a9 from aB) bp.own a2.wf a4;refine cX (aU.none Y)<|.p Z (du Z)<|.p Z (ae mw eW U Z)<|.p Z (ae tx mn U Z) ?_;obtain ⟨b8,b1,aZ,e7,_⟩:=br.own.slice;subst e7;refine bn.m Z (fun cZ=>aW (cs:=[.slice b8 b1 aZ]) (c':=[a5,num (g),u,rv,.map (some mb),a9,num ((mm:Nat):Int),x7,num ((n + 1:Nat):Int),.slice b8 b1 aZ]) a4.wf rfl rfl rfl rfl mn (a4.keep ar bR) G rfl rfl fun A179 ab=>?_);have cv:=(bm.appd a4 aA).keep ab.keep a0;have cA:=(bp.appd a4 aB).keep ab.keep a1;refine cZ (aU.none Y)<|.done<|dL<|.sq fun dM=>.drawn [0,1,2,3,4,5,6,7,8,9,10] mixed Y Y Z<|.p Z (aN Z)<|.p Z (du Z)<|.p Z (ae w9 dH U Z)<|.p Z (ah fA Z Z ab.get Z)<|.p Z (ae jx ek U Z) ?_;refine bn.p Z (ah eJ Z Z (ab.k az.symm (a4.keep bd (a2.le.g aa.get))) Z)<|.p Z (cN u9 Z)<|.p Z (bF Z Z O)<|.p Z (du Z)<|.p Z (ae w9 dH U Z)<|.m Z (fun d0=>aW (cs:=[num ((mm + ((cq ((k.take (k.length - (((rs.getD i .zero).left).length))) ++ ((((rs.getD i .zero).proof).getD j .zero).conj))).length):Nat):Int)]) (c':=[a5,num (g),u,rv,.map (some mb),a9,num ((mm + ((cq ((k.take (k.length - (((rs.getD i .zero).left).length))) ++ ((((rs.getD i .zero).proof).getD j .zero).conj))).length):Nat):Int),x7,num ((n + 1:Nat):Int),.slice b8 b1 aZ]) ab.wf rfl rfl rfl rfl dH ab.get G rfl rfl fun A191 ac=>?_);have cB:=cv.keep ac.keep a0;have cC:=cA.keep ac.keep a1;have cF:=(br.keep ab.keep b7).keep ac.keep b7;have bu:=al (al d1 aD ba ab.n ab.keep) aD ba ac.n ac.keep;refine d0 (aU.none Y)<|.done<|dM<|.sq fun dO=>.region<|.J Z<|.p (du Z)<|.p (ae w9 dH U Z)<|.p (ah fA Z Z ac.get Z)<|.p (eh (b:=1000000) Z Z) ?_;refine Ops.nil<|dO<|.if rfl (fun e6=>?_) (fun e6=>?_)
  ·refine ak.region<|.p (cx Z (bg IZ Yb MF Z))<|.iface IZ Z Z<|.panicI Z ?_;(repeat first | with_reducible refine lQ ?_ | with_reducible refine kn ?_ | with_reducible refine jF ?_);exact Vi (⟨by exact fitU_4 (j:=j + 1) (by rw [GU O];omega),Z,bu,ac.wf,_,_,_,_,_,_,ac.get⟩)
  refine ak.skip<|eS<|.region<|.p (bF (b:=1) Z Z O)<|.J Z<|.nil ?_;exact ⟨⟨j + 1,D ++ [⟨cq ((k.take (k.length - (((rs.getD i .zero).left).length))) ++ ((((rs.getD i .zero).proof).getD j .zero).conj)),(((rs.getD i .zero).proof).getD j .zero).rel,(((rs.getD i .zero).proof).getD j .zero).inv⟩],mm + ((cq ((k.take (k.length - (((rs.getD i .zero).left).length))) ++ ((((rs.getD i .zero).proof).getD j .zero).conj))).length),.slice b8 b1 aZ⟩,sY Z Z Z Z Z,Z,⟨⟨by omega,by rw [hps O,hD,XY],by have:=hpc O;omega,by omega,fun i2 h=>(XW.1 h).elim (hq i2) (fun z=>by subst z;omega)⟩,bu,cF,cB,cC,ac.get,b7,a0,a1,d2,d3,aY⟩,O1⟩
 refine ak.exit ?_;repeat first | with_reducible refine cR ?_ | with_reducible refine cr ?_
 repeat first | with_reducible refine gk ?_ | with_reducible refine fj ?_ | with_reducible refine eR U ?_ | with_reducible refine eU ?_ | with_reducible refine d4 ?_
 exact retEn (vs:=[]) Z (⟨_,_,_,Z,b6,aP,yI aI (by rw [hmm,(DQ O hq).1]),ad,ag,ce aG (Xk co (by rw [hD,(DQ O hq).1])),a0,a1,ar,aY,(bx.symm aA),(bx.symm aB),fitU_y ‹_› ‹_› O hq O⟩)
theorem s_prun (w:W8) (rs:List an) (l:List W8) (b0:Nat) (g:Int) (u rv:Value) (mb:Nat) (x0 x5 x6 x7 x8 x9:Value) (A0 A:AH) (dK:A0.le A) (aF:A0.wf) (hb:A.get b0=some (.row true [x0,num g,u,rv,.map (some mb),x5,x6,x7,x8,x9] 10)) (aE:A0.get b0=none) (hs:bI g l rs=true) (hwl:w.length<=20000) (hL:ib A0) (hr:bJ A0 3 rv (cd rs)) (hp:Proofs A0 rs) (hI:ou A0 mb rs):Ci prog 106 #[.pointer (some ⟨b0,0,none⟩),ax (w)] A (fun v A1=>∃ dv2 y0 y5 y6 y7 y8 y9,v=.agg #[ax (da (gT rs w)).word,num (((da (gT rs w)).steps:Nat):Int),dv2]/\A0.le A1/\A1.wf/\A1.get b0=some (.row true [y0,num g,u,rv,.map (some mb),y5,y6,y7,y8,y9] 10)/\Fresh A0 A1 dv2 3 (co (da (gT rs w)).disk)/\blk dv2 ≠ some b0/\(gT rs w).isSome=true) (fun ch A1=>gT rs w=none/\ch=[{ v:=.iface 149 (.agg #[]),recovered:=false }]/\A0.le A1/\A1.wf/\∃ y0 y5 y6 y7 y8 y9,A1.get b0=some (.row true [y0,num g,u,rv,.map (some mb),y5,y6,y7,y8,y9] 10)):=by
 refine Tu (e:=[(0,.pointer (some ⟨b0,0,none⟩)),(1,ax (w))]) (args:=[.pointer (some ⟨b0,0,none⟩),ax (w)]) call106 func106 Z results106 ntmps106 Z Z Z (fun wf=>?_);refine ak.seq fun _ h2=>.region<|.m (fun fi=>bZ wf s8 rfl fun A5 b4 bd=>?_);have a0:=ne_new wf hb bd.lo;refine fi<|.nil<|h2 _ _<|.sq fun eX=>.region<|.J Z<|.J Z<|.J Z<|.J Z<|.p (cx Z (bg XC s8 yv Z)) ?_;refine Ops.p (du Z)<|.p (ae jP qI U Z)<|.p (ae i9 ij U Z)<|.m (fun e5=>aW (cs:=[.slice none 0 0]) (c':=[.slice none 0 0,num (g),u,rv,.map (some mb),x5,x6,x7,x8,x9]) bd.wf rfl rfl rfl rfl ij (bd.le.g hb) G rfl rfl fun A12 b1=>?_);refine e5<|.p (du Z)<|.p (ae mu ij U Z)<|.m (fun e6=>aW (cs:=[.slice none 0 0]) (c':=[.slice none 0 0,num (g),u,rv,.map (some mb),.slice none 0 0,x6,x7,x8,x9]) b1.wf rfl rfl rfl rfl ij b1.get G rfl rfl fun A17 b2=>?_);refine e6<|.p (du Z)<|.p (ae w9 dH U Z)<|.m (fun e7=>aW (cs:=[num ((0:Nat):Int)]) (c':=[.slice none 0 0,num (g),u,rv,.map (some mb),.slice none 0 0,num ((0:Nat):Int),x7,x8,x9]) b2.wf rfl rfl rfl rfl dH b2.get G rfl rfl fun A22 b3=>?_);refine e7<|.p (du Z)<|.p (ae mw eW U Z)<|.m (fun e9=>aW (cs:=[ax ([]),num ((0:Nat):Int),.slice none 0 0]) (c':=[.slice none 0 0,num (g),u,rv,.map (some mb),.slice none 0 0,num ((0:Nat):Int),ax ([]),num ((0:Nat):Int),.slice none 0 0]) b3.wf rfl rfl rfl rfl eW b3.get G rfl rfl fun A27 b5=>?_);refine e9<|.nil<|eX<|.sq fun eY=>.region<|.J Z<|.J Z ?_;have ck:=Fresh.nil A0 A27 1;have cS:=cz (bs:=[some b0,blk (.slice none 0 0)]) (al (al (al (al (dK.trans bd.le) aF aE b1.n b1.keep) aF aE b2.n b2.keep) aF aE b3.n b3.keep) aF aE b5.n b5.keep) (xe aE (uD ck.lo qX));refine Ops.m (fun ea=>aq Z (IJ w ([]) b0 (.slice none 0 0) (num (g)) u rv (.map (some mb)) (.slice none 0 0) (num ((0:Nat):Int)) (ax ([])) (num ((0:Nat):Int)) (.slice none 0 0) (A27.hide [some b0,blk (.slice none 0 0)]) A27 (c6 A27 [some b0,blk (.slice none 0 0)]) (cI b5.wf) b5.get (cQ (by simp)) (ck.hide (by simp)) (fun q=>by cases q) Oi) ?_);rintro gf A37 ⟨dI,rfl,c3,fD,bP,b9,br⟩;have cC:=bX (bs:=[some b0,blk (.slice none 0 0)]) (b5.k a0.symm (b3.k a0.symm (b2.k a0.symm (b1.k a0.symm bd.get)))) (qY a0.symm (pk (fun q=>by cases q) mN));have eZ:=c3.g cC;have dO:=b9.base cS;have ex:=b9.seph cC;have en:=cS.trans c3;refine ea<|.nil<|eY<|.sq fun f0=>.block<|.loop (X:=W8 × W8 × Nat × List bK × Nat × Nat × Value × Value × Value) (fun ⟨q,k,n,d,m,f,kv,qv,dv⟩=>[(0,.pointer (some ⟨b0,0,none⟩)),(4,.pointer (some ⟨b4,0,none⟩))]) (fun ⟨q,k,n,d,m,f,kv,qv,dv⟩ B=>(iG rs f ⟨q,k,n,d,m⟩=iG rs uC (start w)/\q.length + k.length<=w.length/\n<=20000/\d.length<=100000/\m<=1000000/\(20000 - n) * 100001 + q.length < f)/\A0.le B/\Fresh A0 B kv 1 (ao k)/\Fresh A0 B qv 1 (ao q)/\Fresh A0 B dv 3 (co d)/\B.get b0=some (.row true [kv,num (g),u,rv,.map (some mb),qv,num ((m:Nat):Int),ax ([]),num ((n:Nat):Int),dv] 10)/\B.get b4=some (.row true [ax ([]),num ((0:Nat):Int),.slice none 0 0] 3)/\V.blk kv ≠ some b0/\V.blk qv ≠ some b0/\V.blk dv ≠ some b0/\V.blk kv ≠ some b4/\V.blk qv ≠ some b4/\V.blk dv ≠ some b4/\bx kv qv/\bx kv dv/\bx qv dv) (fun ⟨q,k,n,d,m,f,kv,qv,dv⟩=>f) (⟨w.reverse,[],0,[],0,uC,.slice none 0 0,dI,.slice none 0 0⟩) (kE Z Z) (⟨⟨Z,by simp,by omega,by simp,by omega,by have h1:w.length<=20000:=hwl;simp only [QQ];unfold uC;omega⟩,en,(Fresh.nil A0 A37 1),(ce dO (Xk ao ((by rfl)))),(Fresh.nil A0 A37 3),bP,eZ,(fun q=>by cases q),br,(fun q=>by cases q),(fun q=>by cases q),ex,(fun q=>by cases q),bx.nil,bx.nil,(bx.symm bx.nil)⟩) ?_;rintro ⟨q,k,n,d,m,f,kv,qv,dv⟩ B48 ⟨⟨hrun,hlen,hn,hd,hm,hf⟩,cU,bb,ac,ba,a2,bc,ab,a1,D,ap,ar,aa,az,aA,aG⟩;refine ak.wf fun d1=>?_;have hrf:=fun z:¬ bq rs (k ++ [q.getD (q.length - 1) 0]) < 0=>Ij hs z;have hkl:(k ++ [q.getD (q.length - 1) 0]).length=k.length + 1:=by simp
 have hmv:(iM ((k ++ [q.getD (q.length - 1) 0]).take ((k ++ [q.getD (q.length - 1) 0]).length - (rs.getD (bq rs (k ++ [q.getD (q.length - 1) 0])).toNat .zero).left.length)) (rs.getD (bq rs (k ++ [q.getD (q.length - 1) 0])).toNat .zero).proof).length<=(rs.getD (bq rs (k ++ [q.getD (q.length - 1) 0])).toNat .zero).proof.length:=wu _ _;have hmk:DF ((k ++ [q.getD (q.length - 1) 0]).take ((k ++ [q.getD (q.length - 1) 0]).length - (rs.getD (bq rs (k ++ [q.getD (q.length - 1) 0])).toNat .zero).left.length)) (rs.getD (bq rs (k ++ [q.getD (q.length - 1) 0])).toNat .zero).proof=true->(iM ((k ++ [q.getD (q.length - 1) 0]).take ((k ++ [q.getD (q.length - 1) 0]).length - (rs.getD (bq rs (k ++ [q.getD (q.length - 1) 0])).toNat .zero).left.length)) (rs.getD (bq rs (k ++ [q.getD (q.length - 1) 0])).toNat .zero).proof).length=(rs.getD (bq rs (k ++ [q.getD (q.length - 1) 0])).toNat .zero).proof.length:=Gk;refine ak.sq fun f1=>.sq fun f2=>.region<|.J Z<|.p (du Z)<|.p (ae mu ij U Z)<|.p (ah lm Z Z a2 Z)<|.p (bE (n:=q.length) c0 Z ac.slc O (d6 _))<|.p (eh (b:=0) Z Z)<|.nil ?_;refine f2<|.if rfl (fun fo=>?_) (fun fo=>?_)
 ·refine ak.skip<|f1<|.block<|.sq fun f3=>.drawn [0,1,2,3,4,5,6,7,8,9,10,11,12] mixed Y Y Z<|.p Z (aN Z)<|.p Z (du Z)<|.p Z (ae mu ij U Z)<|.p Z (ah lm Z Z a2 Z)<|.p Z (aN Z) ?_;refine bn.p Z (du Z)<|.p Z (ae mu ij U Z)<|.p Z (ah lm Z Z a2 Z)<|.p Z (bE (n:=q.length) c0 Z ac.slc O (d6 _))<|.p Z (fJ (b:=1) Z Z O) ?_;obtain ⟨fX,g4,fQ,gc,fN,g8,g6,eQ,fl,eT,fL,dL⟩:=bJ.at (i:=q.length - 1) ac.slc On O;refine bn.p Z (au c0 j0 Z eQ Z fl)<|.p Z (ah NF Z Z eT ((dt dL).trans (fF O)))<|.p Z (dB Z)<|.done<|f3<|.sq fun f4=>.drawn [0,1,2,3,4,5,6,7,8,9,10,11,12,13,14] mixed Y Y Z<|.p Z (aN Z)<|.p Z (aN Z)<|.p Z (du Z) ?_;refine bn.p Z (ae mu ij U Z)<|.p Z (ah lm Z Z a2 Z)<|.p Z (aN Z)<|.p Z (du Z)<|.p Z (ae mu ij U Z)<|.p Z (ah lm Z Z a2 Z)<|.p Z (bE (n:=q.length) c0 Z ac.slc O (d6 _))<|.p Z (fJ (b:=1) Z Z O) ?_;obtain ⟨a4,bL,a5,ft,fn,g1⟩:=ac.nonnil (by intro q;have:=Xk List.length q;simp only [aK,Xz] at this;omega);subst ft;rw [aK,TK] at fn;have cu:=ac.take (k:=q.length - 1) O;rw [TK,iQ] at cu;refine bn.p Z (jo c0 j0 Z Z O)<|.p Z (du Z)<|.p Z (ae mu ij U Z)<|.m Z (fun ec=>aW (cs:=[.slice (some ⟨a4,0,none⟩) (q.length - 1) a5]) (c':=[kv,num (g),u,rv,.map (some mb),.slice (some ⟨a4,0,none⟩) (q.length - 1) a5,num ((m:Nat):Int),ax ([]),num ((n:Nat):Int),dv]) d1 rfl rfl rfl rfl ij a2 G rfl rfl fun A65 a8=>?_);have dJ:=a8.k a0.symm bc;have aZ:=bb.keep a8.keep ab;have bM:=ba.keep a8.keep D;have bO:=cu.keep a8.keep a1;have cV:=al cU aF aE a8.n a8.keep;refine ec (aU.none Y)<|.done<|f4<|.sq fun f6=>.sq fun f7=>.region<|.J Z<|.p (du Z)<|.p (ae jP qI U Z)<|.p (ae i9 ij U Z) ?_;refine Ops.p (ah lm Z Z a8.get Z)<|.p (bE (n:=k.length) c0 Z aZ.slc O (d6 _))<|.I Z<|.nil<|f7<|.join (fun f A1=>aj [(78,.bool (decide (0 < k.length/\k.getD (k.length - 1) 0=q.getD (q.length - 1) 0 ^^^ 32))),(0,.pointer (some ⟨b0,0,none⟩)),(4,.pointer (some ⟨b4,0,none⟩)),(25,.pointer (some ⟨b0,0,none⟩)),(26,.pointer (some ⟨b0,0,none⟩)),(27,.pointer (some ⟨b0,5,none⟩)),(28,.slice (some ⟨a4,0,none⟩) bL a5),(29,num ((q.length:Nat):Int)),(30,.bool (decide (0 < q.length))),(31,.pointer (some ⟨b0,0,none⟩)),(32,.pointer (some ⟨b0,0,none⟩)),(33,.pointer (some ⟨b0,5,none⟩)),(34,.slice (some ⟨a4,0,none⟩) bL a5),(35,.pointer (some ⟨b0,0,none⟩)),(36,.pointer (some ⟨b0,0,none⟩)),(37,.pointer (some ⟨b0,5,none⟩)),(38,.slice (some ⟨a4,0,none⟩) bL a5),(39,num ((q.length:Nat):Int)),(40,num ((q.length - 1:Nat):Int)),(42,ed (q.getD (q.length - 1) 0)),(5,ed (q.getD (q.length - 1) 0)),(43,.pointer (some ⟨b0,0,none⟩)),(44,.pointer (some ⟨b0,0,none⟩)),(45,.pointer (some ⟨b0,0,none⟩)),(46,.pointer (some ⟨b0,5,none⟩)),(47,.slice (some ⟨a4,0,none⟩) bL a5),(48,.pointer (some ⟨b0,0,none⟩)),(49,.pointer (some ⟨b0,0,none⟩)),(50,.pointer (some ⟨b0,5,none⟩)),(51,.slice (some ⟨a4,0,none⟩) bL a5),(52,num ((q.length:Nat):Int)),(53,num ((q.length - 1:Nat):Int)),(54,.slice (some ⟨a4,0,none⟩) (q.length - 1) a5),(55,.pointer (some ⟨b0,0,none⟩)),(56,.pointer (some ⟨b0,5,none⟩)),(57,.pointer (some ⟨b0,0,none⟩)),(58,.pointer (some ⟨b0,0,none⟩)),(59,.pointer (some ⟨b0,0,none⟩)),(60,.pointer (some ⟨b0,0,none⟩)),(61,kv),(62,num ((k.length:Nat):Int)),(6,num ((k.length:Nat):Int))] f.e/\f.ds=[]/\A65=A1) ?_ ?_
  ·refine ak.region<|.J Z<|.p (eh (b:=0) Z Z)<|.J Z<|.part (t:=65) Z (fun fq=>?_) (fun fq=>?_)
   ·refine Ops.on Z Z<|.J Z<|.on Z Z<|.p (du Z)<|.on Z Z<|.p (ae jP qI U Z)<|.on Z Z<|.p (ae i9 ij U Z)<|.on Z Z<|.p (ah lm Z Z a8.get Z) ?_;refine Ops.on Z Z<|.J Z<|.on Z Z<|.p (fJ (b:=1) Z Z O)<|.on Z Z ?_;obtain ⟨g0,g5,fR,ge,fO,g9,g7,eS,fm,eV,fM,dM⟩:=bJ.at (i:=k.length - 1) aZ.slc On O;refine Ops.p (au c0 j0 Z eS Z fm)<|.on Z Z<|.p (ah NF Z Z eV ((dt dM).trans (fF O)))<|.on Z Z<|.J Z<|.on Z Z<|.p (VG (d:=32) Z Z)<|.on Z Z<|.p (yz Z Z)<|.p (aL Z Z) ?_;refine Ops.nil ?_;exact ⟨aj.cons (show some _=some _ from Xk (fun b=>some (Value.bool b)) (show (decide ((k.getD (k.length - 1) 0)=((q.getD (q.length - 1) 0) ^^^ 32)))=decide (0 < k.length/\k.getD (k.length - 1) 0=q.getD (q.length - 1) 0 ^^^ 32) from (by simp only [‹0 < _›,true_and])))<|aj.cons Z<|aj.cons Z<|aj.cons Z<|aj.cons Z<|aj.cons Z<|aj.cons Z<|aj.cons Z<|aj.cons Z<|aj.cons Z<|aj.cons Z<|aj.cons Z<|aj.cons Z<|aj.cons Z<|aj.cons Z<|aj.cons Z<|aj.cons Z<|aj.cons Z<|aj.cons Z<|aj.cons Z<|aj.cons Z<|aj.cons Z<|aj.cons Z<|aj.cons Z<|aj.cons Z<|aj.cons Z<|aj.cons Z<|aj.cons Z<|aj.cons Z<|aj.cons Z<|aj.cons Z<|aj.cons Z<|aj.cons Z<|aj.cons Z<|aj.cons Z<|aj.cons Z<|aj.cons Z<|aj.cons Z<|aj.cons Z<|aj.cons Z<|aj.cons Z<|aj.cons Z<|aj.nil _,Z,Z⟩
   refine Ops.off Z Z Z Z<|.off Z Z Z Z<|.off Z Z Z Z<|.off Z Z Z Z<|.off Z Z Z Z<|.off Z Z Z Z<|.off Z Z Z Z<|.off Z Z Z Z<|.off Z Z Z Z<|.off Z Z Z Z ?_;refine Ops.off Z Z Z Z<|.off Z Z Z Z<|.p (bh Z Z)<|.nil ?_;exact ⟨aj.cons (show some _=some _ from Xk (fun b=>some (Value.bool b)) (show (false)=decide (0 < k.length/\k.getD (k.length - 1) 0=q.getD (q.length - 1) 0 ^^^ 32) from (by simp only [‹¬ 0 < _›,false_and,decide_false])))<|aj.cons Z<|aj.cons Z<|aj.cons Z<|aj.cons Z<|aj.cons Z<|aj.cons Z<|aj.cons Z<|aj.cons Z<|aj.cons Z<|aj.cons Z<|aj.cons Z<|aj.cons Z<|aj.cons Z<|aj.cons Z<|aj.cons Z<|aj.cons Z<|aj.cons Z<|aj.cons Z<|aj.cons Z<|aj.cons Z<|aj.cons Z<|aj.cons Z<|aj.cons Z<|aj.cons Z<|aj.cons Z<|aj.cons Z<|aj.cons Z<|aj.cons Z<|aj.cons Z<|aj.cons Z<|aj.cons Z<|aj.cons Z<|aj.cons Z<|aj.cons Z<|aj.cons Z<|aj.cons Z<|aj.cons Z<|aj.cons Z<|aj.cons Z<|aj.cons Z<|aj.cons Z<|aj.nil _,Z,Z⟩
  rintro ⟨fe,fd⟩ _ ⟨hE,rfl,rfl⟩;refine ak.forget hE<|.if rfl (fun fr=>?_) (fun fr=>?_)
  ·refine ak.sq fun f8=>.region<|.J Z<|.p (du Z)<|.p (ae jP qI U Z) ?_;have cX:=cz (bs:=[some b0,blk kv]) cV (xe aE (uD aZ.lo qX));refine Ops.m (fun eg=>aq Z (Na 1 k b0 kv (num (g)) u rv (.map (some mb)) (.slice (some ⟨a4,0,none⟩) (q.length - 1) a5) (num ((m:Nat):Int)) (ax ([])) (num ((n:Nat):Int)) dv (A65.hide [some b0,blk kv]) A65 (c6 A65 [some b0,blk kv]) (cI a8.wf) a8.get (cQ (by simp)) (aZ.hide (by simp)) ab O) ?_);rintro gg A86 ⟨dz,rfl,aS,fE,bR,aC,bu⟩;have cF:=bX (bs:=[some b0,blk kv]) dJ (qY a0.symm (pk ap mN));have f9:=aS.g cF;have eG:=aC.sep bM.own (jG D (jH aA jk));have dS:=bM.off (jG D (jH aA jk)) aS;have eL:=aC.sep bO.own (jG a1 (jH az jk));have dV:=bO.off (jG a1 (jH az jk)) aS;have dW:=aC.base cX;have ey:=aC.seph cF;have ev:=cX.trans aS;refine eg<|.nil<|f8<|.exit ?_;exact ⟨⟨q.take (q.length - 1),k.take (k.length - 1),n,d,m,f - 1,dz,.slice (some ⟨a4,0,none⟩) (q.length - 1) a5,dv⟩,kE Z Z,Z,⟨⟨MQ O O hrun ‹_›,by simp only [XZ];omega,hn,hd,hm,by simp only [XZ];omega⟩,ev,(ce dW (Xk ao ((by rfl)))),(ce dV (Xk ao ((by rfl)))),(ce dS (Xk co ((by rfl)))),bR,f9,bu,a1,D,ey,ar,aa,eL,eG,aG⟩,O1⟩
  refine ak.skip<|f6<|.sq fun dZ=>.region<|.J Z<|.J Z<|.p (du Z)<|.p (ae jP qI U Z)<|.p (ae i9 ij U Z)<|.p (ah lm Z Z a8.get Z) ?_;refine Ops.J Z<|.m (fun d3=>bf (c:=[ed (q.getD (q.length - 1) 0)]) a8.wf rfl (aw c0 j0 z5 rfl U U rfl) fun A104 fI a6=>?_);have cv:=a6.le.g a8.get;have cA:=a6.le.g dJ;have bS:=aZ.le a6.le;have bT:=bM.le a6.le;have bU:=bO.le a6.le;refine d3<|.m (fun dd=>ct (ys:=[ed (q.getD (q.length - 1) 0)]) rfl rfl c0 j0 tD z5 rfl U c0 (fun _ h=>by cases h) bS.own (bN (n:=1) a6.get Z) rfl rfl (by show (_ + _) * 1<=_;simp only [aK,Xq,Xz];(try simp only [Xx,Xq,Xz]);omega) Ob fun A118 fS a3=>?_);rw [show ([ed (q.getD (q.length - 1) 0)]:List Value)=ao [q.getD (q.length - 1) 0] from rfl,eu] at a3;obtain ⟨bV,dD⟩:=Fresh.grow bS (cV.trans a6.le) aF a3;have bp:=a3.ne ab a6.wf cv;have c4:=a3.ne ap a6.wf cA;have c7:=bx.appd (show bx kv dv from aA) bT.own a6.wf a3;have cb:=bx.appd (show bx kv (.slice (some ⟨a4,0,none⟩) (q.length - 1) a5) from az) bU.own a6.wf a3;refine dd<|.p (du Z)<|.p (ae jP qI U Z)<|.p (ae i9 ij U Z) ?_;obtain ⟨av,ai,ag,eA,_⟩:=bV.own.slice;subst eA;refine Ops.m (fun di=>aW (cs:=[.slice av ai ag]) (c':=[.slice av ai ag,num (g),u,rv,.map (some mb),.slice (some ⟨a4,0,none⟩) (q.length - 1) a5,num ((m:Nat):Int),ax ([]),num ((n:Nat):Int),dv]) a3.wf rfl rfl rfl rfl ij (a3.keep ab cv) G rfl rfl fun A137 a9=>?_);have cB:=a9.k a0.symm (a3.keep ap cA);have bl:=(bT.appd a3 aA).keep a9.keep D;have bm:=(bU.appd a3 az).keep a9.keep a1;have aI:=bV.keep a9.keep bp;have aR:=al dD aF aE a9.n a9.keep;refine di<|.nil<|dZ<|.sq fun e0=>.region<|.J Z<|.m (fun dj=>aq Z (aap b0 (.slice av ai ag) ((g)) u rv mb (.slice (some ⟨a4,0,none⟩) (q.length - 1) a5) (num ((m:Nat):Int)) (ax ([])) (num ((n:Nat):Int)) dv rs (k ++ [q.getD (q.length - 1) 0]) _ _ A137 (by simp only [Xx,Xq,Xz];have:=(cT hs).2.1;omega) (fun r z=>by have:=mO hs z;omega) a9.get aI.slc (hr.le aR) (hI.le aR)) ?_);rintro fT A149 ⟨rfl,rfl⟩;refine dj<|.I Z<|.nil<|e0<|.sq fun e1=>.region<|.J Z<|.p (ml Z Z)<|.nil<|e1 ?_;refine ak.if rfl (fun ez=>?_) (fun ez=>?_)
  ·refine ak.region<|.J Z<|.J Z ?_;have ad:=cz (bs:=[some b0,blk (.slice av ai ag),blk (.slice (some ⟨a4,0,none⟩) (q.length - 1) a5),blk dv]) aR (xe aE (uD aI.lo (uD bm.lo (uD bl.lo qX))));refine Ops.l Z (fun _ _ dk cH=>XE Z (s_use ((bq rs (k ++ [q.getD (q.length - 1) 0]))) ((bq rs (k ++ [q.getD (q.length - 1) 0])).toNat) (by have:=hrf (show ¬ bq rs (k ++ [q.getD (q.length - 1) 0]) < 0 by omega);omega) rs (k ++ [q.getD (q.length - 1) 0]) (q.take (q.length - 1)) d n m b0 (.slice av ai ag) g u rv mb (.slice (some ⟨a4,0,none⟩) (q.length - 1) a5) (ax ([])) dv (A137.hide [some b0,blk (.slice av ai ag),blk (.slice (some ⟨a4,0,none⟩) (q.length - 1) a5),blk dv]) A137 (c6 A137 [some b0,blk (.slice av ai ag),blk (.slice (some ⟨a4,0,none⟩) (q.length - 1) a5),blk dv]) (cI a9.wf) a9.get (cQ (by simp)) (aI.hide (by simp)) (bm.hide (by simp)) (bl.hide (by simp)) bp a1 D cb c7 aG (by have:=hrf (show ¬ bq rs (k ++ [q.getD (q.length - 1) 0]) < 0 by omega);have h2:=(cT hs).2.1;omega) (by have:=hrf (show ¬ bq rs (k ++ [q.getD (q.length - 1) 0]) < 0 by omega);simp only [XZ];have:=mO hs (bj (d:=an.zero) this.1);omega) (by have:=hrf (show ¬ bq rs (k ++ [q.getD (q.length - 1) 0]) < 0 by omega);omega) (hL.le ad) (hr.le ad) (hp.le ad)) ?_ (fun eN Cq157 aB=>cH _ _ (by (repeat first | with_reducible refine lQ ?_ | with_reducible refine kn ?_ | with_reducible refine jF ?_);exact Vi (⟨js (kz O O hrun ‹_› (show ¬ bq rs (k ++ [q.getD (q.length - 1) 0]) < 0 by omega) (fun z=>aB.1 z)),aB.2.1,ad.trans aB.2.2.1,aB.2.2.2.1,aB.2.2.2.2⟩))));rintro fV A156 ⟨cK,d0,cf,rfl,bD,fv,bC,aT,aV,aY,b6,b7,b8,bv,bA,bB,a7⟩;have aP:=bX (bs:=[some b0,blk (.slice av ai ag),blk (.slice (some ⟨a4,0,none⟩) (q.length - 1) a5),blk dv]) cB (qY a0.symm (pk c4 (pk ar (pk aa mN))));refine dk _ _<|.nil ?_;exact ⟨⟨(q.take (q.length - 1)) ++ (rs.getD ((bq rs (k ++ [q.getD (q.length - 1) 0])).toNat) .zero).right.reverse,((k ++ [q.getD (q.length - 1) 0]).take ((k ++ [q.getD (q.length - 1) 0]).length - (rs.getD ((bq rs (k ++ [q.getD (q.length - 1) 0])).toNat) .zero).left.length)),n + 1,d ++ (iM ((k ++ [q.getD (q.length - 1) 0]).take ((k ++ [q.getD (q.length - 1) 0]).length - (rs.getD ((bq rs (k ++ [q.getD (q.length - 1) 0])).toNat) .zero).left.length)) (rs.getD ((bq rs (k ++ [q.getD (q.length - 1) 0])).toNat) .zero).proof),m + dp (iM ((k ++ [q.getD (q.length - 1) 0]).take ((k ++ [q.getD (q.length - 1) 0]).length - (rs.getD ((bq rs (k ++ [q.getD (q.length - 1) 0])).toNat) .zero).left.length)) (rs.getD ((bq rs (k ++ [q.getD (q.length - 1) 0])).toNat) .zero).proof),f - 1,cK,d0,cf⟩,kE Z Z,Z,⟨⟨Iu O O hrun ‹_› (show ¬ bq rs (k ++ [q.getD (q.length - 1) 0]) < 0 by omega) a7,Gu hlen hkl (hrf (show ¬ bq rs (k ++ [q.getD (q.length - 1) 0]) < 0 by omega)).2.2.1 (hrf (show ¬ bq rs (k ++ [q.getD (q.length - 1) 0]) < 0 by omega)).2.1 O,by have:=a7.2.1;omega,by have h0:=hmk a7.1;have h9:=@Xx _ d (iM ((k ++ [q.getD (q.length - 1) 0]).take ((k ++ [q.getD (q.length - 1) 0]).length - (rs.getD (bq rs (k ++ [q.getD (q.length - 1) 0])).toNat .zero).left.length)) (rs.getD (bq rs (k ++ [q.getD (q.length - 1) 0])).toNat .zero).proof);have h8:d.length + (rs.getD (bq rs (k ++ [q.getD (q.length - 1) 0])).toNat .zero).proof.length<=100000:=a7.2.2.1;omega,a7.2.2.2,Mr hf a7.2.1 (by have h1:=hrf (show ¬ bq rs (k ++ [q.getD (q.length - 1) 0]) < 0 by omega);omega) O⟩,(ad.trans bD),(ce (aT.base ad) (Xk ao ((by rfl)))),(ce (aV.base ad) (Xk ao ((by rfl)))),(ce (aY.base ad) (Xk co ((by rfl)))),bC,(bD.g aP),b6,b7,b8,(aT.seph aP),(aV.seph aP),(aY.seph aP),bv,bA,bB⟩,O1⟩
  refine ak.skip ?_;exact ⟨⟨q.take (q.length - 1),k ++ [q.getD (q.length - 1) 0],n,d,m,f - 1,.slice av ai ag,.slice (some ⟨a4,0,none⟩) (q.length - 1) a5,dv⟩,kE Z Z,Z,⟨⟨Iq O O hrun ‹_› (show bq rs (k ++ [q.getD (q.length - 1) 0]) < 0 by omega),by simp only [XZ,Xx,Xq,Xz];omega,hn,hd,hm,by simp only [XZ];omega⟩,aR,(ce aI (Xk ao ((by rfl)))),(ce bm (Xk ao ((by rfl)))),(ce bl (Xk co ((by rfl)))),a9.get,cB,bp,a1,D,c4,ar,aa,cb,c7,aG⟩,O1⟩
 refine ak.exit<|f0<|.sq fun e2=>.region<|.J Z<|.J Z<|.p (du Z)<|.p (ae jP qI U Z)<|.p (ae i9 ij U Z)<|.p (ah lm Z Z a2 Z) ?_;refine Ops.m (fun dl=>eK (s:=k) Z c0 u9 u5 bb.slc ?_);refine dl<|.p (du Z)<|.p (ae mw eW U Z)<|.p (ae jT ek U Z)<|.m (fun dm=>aW (cs:=[ax (k)]) (c':=[kv,num (g),u,rv,.map (some mb),qv,num ((m:Nat):Int),ax (k),num ((n:Nat):Int),dv]) d1 rfl rfl rfl rfl ek a2 G rfl rfl fun A172 ay=>?_);have bY:=ba.keep ay.keep D;refine dm<|.nil<|e2<|.sq fun e3=>.region<|.J Z<|.p (du Z)<|.p (ae mw eW U Z)<|.p (am oC eW Z Z ay.get Z) ?_;obtain ⟨cZ,cP,cc,eC,_⟩:=bY.own.slice;subst eC;refine Ops.m (fun dw=>aW (cs:=[ax (k),num ((n:Nat):Int),.slice cZ cP cc]) (c':=[ax (k),num ((n:Nat):Int),.slice cZ cP cc]) ay.wf rfl rfl rfl rfl eW (ay.k a0.symm bc) G rfl rfl fun A183 aD=>?_);have e4:=aD.k a0 ay.get;have d2:=bY.keep aD.keep aa;have dG:=al (al cU aF aE ay.n ay.keep) aF (aX aF (Xj dK.n bd.lo)) aD.n aD.keep;refine dw<|.nil<|e3<|.ret ?_;repeat first | with_reducible refine cR ?_ | with_reducible refine cr ?_
 exact retE (df oC eW Z aD.get Z d5) (⟨_,_,_,_,_,_,_,by rw [pr (uR O O hrun)];rfl,dG,aD.wf,e4,by rw [pr (uR O O hrun)];exact d2,D,by rw [pr (uR O O hrun)];rfl⟩)
abbrev atE (E:List (UInt8 × Value)) (c:UInt8):Value:=(lk E c).getD (.slice none 0 0)
structure mQ (A0 A:AH) (E:List (UInt8 × Value)) (rs:List an) (i:Nat) (bs:List Nat):Prop where
  nd:(E.map (·.1)).Nodup
  fr:∀ c,Fresh A0 A (atE E c) 1 (dy (iL (rs.take i) c))
  ne:∀ c,∀ b ∈ bs,blk (atE E c) ≠ some b
  sp:∀ c d,c ≠ d->bx (atE E c) (atE E d)
theorem _root_.Go.Proofs.YtjppkekmddjcfaaGreatDoor.V.Fresh.owk {A0 A B:AH} {v:Value} {n:Nat} {xs:List Value} (h:Fresh A0 A v n xs) (k:∀ b o,blk v=some b->A.get b=some o->B.get b=some o):Fresh A0 B v n xs:=⟨by
  rcases h.own with h | ⟨b',m,c,r,rcap,rfl,h2,h3⟩
  · exact .inl h
  · exact .inr ⟨b',m,c,r,rcap,Z,k _ _ Z h2,h3⟩,h.lo⟩
section
variable {A0 A A2 A3 A4:AH} {E:List (UInt8 × Value)} {rs:List an} {i m b:Nat} {bs:List Nat} {c d:UInt8} {v:Value} {o:fB}
theorem Ud (c:UInt8):iL [] c=[]:=by simp [iL]
theorem mQ.nil:mQ A0 A [] rs 0 bs:=⟨by simp,fun c=>by rw [List.take_zero,Ud];exact Fresh.nil _ _ _,fun c b _ q=>(by cases q),fun _ _ _=>bx.nil⟩
theorem vx {rs:List an} {i j:Nat} (h:j < i):(rs.take i).getD j .zero=rs.getD j .zero:=by
  simp [Vq,List.getElem?_take,h]
theorem OH (hi:i < rs.length) (d:UInt8):iL (rs.take (i + 1)) d=if vD (rs.getD i .zero)=d then iL (rs.take i) d ++ [(i:Int)] else iL (rs.take i) d:=by
  have e:∀ k,k<=rs.length->iL (rs.take k) d=((List.range k).filter fun i=>decide (vD (rs.getD i .zero)=d)).map fun (i:Nat)=>(i:Int):=fun k hk=>by
    unfold iL
    rw [XZ,QZ hk]
    congr 1
    apply List.filter_congr
    intro j hj
    rw [vx (VV.1 hj)]
  rw [e _ O,e _ O,SJ,List.filter_append,VJ]
  by_cases h:vD (rs.getD i .zero)=d
  · rw [XX h,List.filter_cons,XJ h];rfl
  · simp only [Xy h,List.filter_cons,List.filter_nil,Xv h];simp
theorem wT (d:UInt8):atE (Cd E c v) d=if d=c then v else atE E d:=by
  show (lk (Cd E c v) d).getD _=_
  rw [lk_upd]
  split <;> rfl
theorem mQ.step (h:mQ A0 A E rs i bs) (le:A.le A2) (D:A2.wf) (ap:ot A2 (atE E c) 1 (dy (iL (rs.take i) c ++ [(i:Int)])) v A3) (fr:Fresh A0 A3 v 1 (dy (iL (rs.take i) c ++ [(i:Int)]))) (sb:sL A3 A4 m o) (hm:m ∈ bs)
    (hne:∀ b ∈ bs,blk v ≠ some b) (hi:i < rs.length) (hc:vD (rs.getD i .zero)=c):mQ A0 A4 (Cd E c v) rs (i + 1) bs:=by
  have hs:∀ d,d ≠ c->bx v (atE E d):=fun d hd=>bx.appd (h.sp c d hd.symm) ((h.fr d).own.le le) D ap
  refine ⟨Rc h.nd,fun d=>?_,fun d b hb=>?_,fun d e hde=>?_⟩
  · rw [wT,OH hi,hc]
    by_cases hd:d=c
    · subst hd;rw [XX Z,XX Z];exact fr.keep sb.keep (hne m hm)
    · rw [Xy hd,Xy (fun q=>hd q.symm)]
      exact (((h.fr d).le le).appd ap (h.sp c d (fun q=>hd q.symm))).keep sb.keep (h.ne d m hm)
  · rw [wT];split
    · exact hne b hb
    · exact h.ne d b hb
  · rw [wT,wT]
    by_cases hd:d=c
    · subst hd;rw [XX Z,Xy (fun q=>hde q.symm)];exact hs e (fun q=>hde q.symm)
    · rw [Xy hd]
      by_cases he:e=c
      · subst he;rw [XX Z];exact (hs d hd).symm
      · rw [Xy he];exact h.sp d e hde
theorem mQ.map {rw:Bool} {es:Array MapEntry} {ck:Nat} (h:mQ A0 A E rs i bs) (hi:rs.length<=i) (g:A.get m=some (.obj rw (.map es ck))) (hE:d9 ed es E) (hb:b ∈ bs) (hm:m ≠ b):ou (A.hide [some b]) m rs:=by
  refine ⟨rw,es,ck,E,bX g (qY hm mN),hE,fun c=>?_⟩
  have:=((h.fr c).off (bs:=[some b]) (jG (h.ne c b hb) jk) (AH.le.refl _)).slc
  rwa [VX hi] at this
def mi (A0 A:AH) (b:Nat):AH:=⟨A.n,fun k=>if (A0.get k).isNone=true/\k ≠ b then A.get k else none⟩
theorem Pr {b:Nat}:(mi A0 A b).le (A.hide [some b]):=⟨XV _,fun k o h=>by
  simp only [mi] at h
  split at h
  · rename_i q;exact bX h (qY q.2 mN)
  · cases h⟩
theorem Pt {b:Nat} (wf:A.wf):(mi A0 A b).wf:=fun k o h=>by
  simp only [mi] at h
  split at h
  · exact wf k o h
  · cases h
theorem GA {b k:Nat} (h:A0.get k=some o):(mi A0 A b).get k=none:=by
  simp only [mi];rw [Xy];rw [h];simp
theorem GB {b:Nat}:(mi A0 A b).get b=none:=by simp [mi]
theorem mQ.only {rw:Bool} {es:Array MapEntry} {ck:Nat} (h:mQ A0 A E rs i bs) (hi:rs.length<=i) (g:A.get m=some (.obj rw (.map es ck))) (hE:d9 ed es E) (hb:b ∈ bs) (hm:m ≠ b) (h0:A0.get m=none):ou (mi A0 A b) m rs:=by
  have key:∀ k,A0.get k=none->k ≠ b->(mi A0 A b).get k=A.get k:=fun k h1 h2=>by simp only [mi];rw [XX ⟨by rw [h1];rfl,h2⟩]
  refine ⟨rw,es,ck,E,by rw [key m h0 hm];exact g,hE,fun c=>?_⟩
  have:=((h.fr c).owk (B:=mi A0 A b) (fun k o hk ho=>by rw [key k ((h.fr c).lo k hk) (fun z=>h.ne c b hb (by rw [hk,z]))];exact ho)).slc
  rwa [VX hi] at this
theorem mem2 {p:Nat->Prop} {a b:Nat} (ha:p a) (hb:p b):∀ c ∈ [a,b],p c:=fun c hc=>by
  simp only [Vz,Ty,or_false] at hc
  rcases hc with rfl | rfl
  · exact ha
  · exact hb
theorem xJ {v:Value} {n:Nat} {l:List Value} (h:qW A v n l) (g:A.get b=none):blk v ≠ some b:=fun q=>by
  obtain ⟨o,ho⟩:=h.blkget q;rw [g] at ho;cases ho
theorem sw (le:A.le A2) (h:A2.get b=none):A.get b=none:=by
  cases q:A.get b with
  | none=>rfl
  | some o=>rw [le.get b o q] at h;cases h
theorem O0 {v:Value} {n:Nat} {l:List Value} (le:A.le A2) (h:Fresh A2 A3 v n l):∀ b,blk v=some b->A.get b=none:=fun b hb=>sw le (h.lo b hb)
theorem C9 {s v:Value} {n:Nat} {l:List Value} (le:A.le A2) (wf:A.wf) (ap:ot A2 s n l v A3) (h:∀ b,blk s=some b->A.get b=none):∀ b,blk v=some b->A.get b=none:=fun b hb =>
  (ap.blk b hb).elim (fun q=>h b q) fun q=>aX wf (Xj le.n q)
theorem C8 {s v:Value} {n:Nat} {l:List Value} (le:A.le A2) (wf:A.wf) (ap:ot A2 s n l v A3) (h:∀ b,blk s=some b->A.get b=none):A.le A3 :=
  ⟨Xj le.n ap.n,fun b o g=>ap.get b o (le.get b o g) fun q=>by rw [h b q] at g;cases g⟩
theorem OE {bs:List (Option Nat)} (le:A.le A2):(A.hide bs).le (A2.hide bs):=cz ((c6 A bs).trans le) fun b q=>cQ q
end
def cG (rs:List an) (w:W8):Option Ja:=if 20000 < w.length then none else gT rs w
section
variable {g:Int} {l:List W8} {rs:List an} {w:W8}
theorem yD (h:bG g w=0):uc g rs w=cG rs w:=by
  unfold uc cG
  by_cases q:w.length<=20000
  · rw [XX ⟨h,q⟩,Xy O]
  · rw [Xy (fun z=>q z.2),XX O]
theorem KG (h:(!bI g l rs)=true):jZ g l rs w=.zero/\fU g l rs w=100:=Xm (by simpa using h)
theorem KH (h:(!bI g l rs)=false) (h2:¬ bG g w=0):jZ g l rs w=.zero/\fU g l rs w=4:=by
  rw [(ny (by simpa using h)).1,(ny (by simpa using h)).2];exact ua h2
theorem KI (h:(!bI g l rs)=false) (h2:¬ ¬ bG g w=0) (q:(!(cG rs w).isSome)=true):jZ g l rs w=.zero/\fU g l rs w=2:=by
  have h2:=Decidable.not_not.1 h2
  rw [(ny (by simpa using h)).1,(ny (by simpa using h)).2,fK,gJ,yD h2,rI q]
  simp [h2,da]
theorem KJ (h:(!bI g l rs)=false) (h2:¬ ¬ bG g w=0) (q:(!(cG rs w).isSome)=false):jZ g l rs w=da (cG rs w)/\fU g l rs w=0:=by
  have h2:=Decidable.not_not.1 h2
  rw [(ny (by simpa using h)).1,(ny (by simpa using h)).2,fK,gJ,yD h2]
  simp_all
theorem vc (hs:bI g l rs=true):∀ r ∈ rs,0 < r.left.length/\r.left.length<=1000000:=fun r hr=>by have:=mO hs hr;omega
theorem sI (hs:bI g l rs=true):rs.length<=1000000:=by have:=(cT hs).2.1;omega
end
theorem Zr {A:AH} {n:Nat} {a:W8} {i:Int} {v:Value} {xs:List Value} (h:bJ A n v xs):lG [ax a,num i,v]=true:=by
  obtain ⟨p,k,c,rfl,_⟩:=h;rfl
theorem jY {A:AH} {k b:Nat} {o x:fB} (h:A.get b=some x) (hn:b ≠ k):(A.set k o).get b=some x:=(AH.set_get_ne _ _ hn).trans h
theorem tH {A0 A:AH} {k:Nat} {o:fB} (le:A0.le A) (D:A0.wf) (h:A0.get k=none):A0.le (A.set k o):=al le D h rfl fun b' o' hn g=>jY g hn
theorem u7 (p q:Value) (A:AH):lj prog 105 #[p,q] .returning A (fun en u' A1=>en=.returned (ej [])/\u'=.returning/\A=A1):=by
  refine lj.enter (args:=[p,q]) func105 Z (by rw [ntmps105];exact Sv rfl) (fun wf=>?_)
  have hn:Tryz.f105.ntmps=12:=ntmps105
  have hr:Tryz.f105.results = #[]:=results105
  rw [hn,hr]
  refine tm.seq (tm.region Z (vi.recoverNil Z Z Z O (fun _ _=>rfl) (vi.nil ?_)))
  refine tm.of_run ?_
  refine ak.block ?_
  refine ak.sq fun h4=>?_
  refine ak.region ?_
  refine Ops.val (v:=.bool true) Z Z (fun a ha w hw=>?_) ?_
  · have h5:=c9 (x:=.tmp 5) ha Z
    simp only [execOp,h5]
    simp [Act.eval,go_sem]
  refine Ops.nil (h4 ?_)
  refine ak.cond_true Z ?_
  refine ak.region<|.I Z<|.nil ?_
  exact ⟨Z,[],Z,Z,Z,Z⟩
theorem sz149:dY prog 149=some 0:=by kernel_rfl
theorem b37:mY prog 37 []=some (.agg #[ax [],num 0,.slice none 0 0]):=by kernel_rfl
theorem Ei (a b:Nat) (c1 c2:List Value) (k1 k2:Nat) (older:List PanicEntry) (A:AH) (hab:a ≠ b) (h1:A.get a=some (.row true c1 k1)) (l1:3<=c1.length) (h2:A.get b=some (.row true c2 k2)) (l2:1<=c2.length) :
    lj prog 105 #[.pointer (some ⟨a,0,none⟩),.pointer (some ⟨b,0,none⟩)] (.panicking ({ v:=.iface 149 (.agg #[]),recovered:=false } :: older)) A (fun en u' A1=>en=.returned (ej [])/\u'=.panicking ({ v:=.iface 149 (.agg #[]),recovered:=true } :: older) /\
      A1=(((A.new (.row true [] 0)).set A.n (.row true [] 0)).set a (.row true (jW c1 0 [ax [],num 0,.slice none 0 0]) k1)).set b (.row true (jW c2 0 [.bool false]) k2)):=by
  refine lj.enter (args:=[_,_]) func105 Z (by rw [ntmps105];exact Sv rfl) (fun wf=>?_)
  have hn:Tryz.f105.ntmps=12:=ntmps105
  have hr:Tryz.f105.results = #[]:=results105
  rw [hn,hr]
  refine tm.seq (tm.region Z (vi.recover Z Z Z O (fun _ _=>rfl) (vi.nil ?_)))
  refine tm.of_run ?_
  refine ak.block ?_
  refine ak.sq fun h4=>?_
  refine ak.region ?_
  refine Ops.val (v:=.bool false) Z Z (fun a ha w hw=>?_) ?_
  · have h5:=c9 (x:=.tmp 5) ha Z
    simp only [execOp,h5]
    simp [Act.eval,go_sem]
  refine Ops.nil (h4 ?_)
  refine ak.cond_false Z ?_
  refine ak.sq fun h6=>?_
  refine ak.region ?_
  refine Ops.val (v:=.tuple #[.agg #[],.bool true]) Z Z (fun a ha w hw=>?_) ?_
  · have h5:=c9 (x:=.tmp 5) ha Z
    simp only [execOp,h5]
    simp [Act.eval,go_sem]
    rw [Kf underlying149];rfl
  refine Ops.p (aQ Z Z)<|.p (aQ Z Z)<|.nil (h6 ?_)
  refine ak.cond_true Z ?_
  refine ak.sq fun h8=>?_
  refine ak.region ?_
  refine Ops.l rfl fun K Kp hK _=>ED (z:=.agg #[]) (cs:=[]) Yb Z (hK _ _ ?_)
  refine Ops.l rfl fun K Kp hK _=>rZ (cs:=[]) Z Z Z sz149 Z (AH.new_get_same _ _) (by simp) Z (hK _ _ ?_)
  refine Ops.nil (h8 ?_)
  have ha:=wf a _ h1
  have hb:=wf b _ h2
  refine ak.region ?_
  refine Ops.p (cx Z b37) ?_
  refine Ops.l rfl fun K Kp hK _=>rZ (cs:=[ax [],num 0,.slice none 0 0]) (c:=c1) (cap:=k1) Z Z Z eW Z (by rw [AH.set_get_ne _ _ (by show a ≠ A.n;omega),AH.new_get_ne _ _ (by show a ≠ A.n;omega)];exact h1) (by simpa using l1) Z (hK _ _ ?_)
  refine Ops.l rfl fun K Kp hK _=>rZ (cs:=[.bool false]) (c:=c2) (cap:=k2) Z Z Z nR Z (by rw [AH.set_get_ne _ _ (by show b ≠ a;omega),AH.set_get_ne _ _ (by show b ≠ A.n;omega),AH.new_get_ne _ _ (by show b ≠ A.n;omega)];exact h2) (by simpa using l2) Z (hK _ _ ?_)
  refine Ops.nil ?_
  exact ⟨Z,[],Z,Z,Z,Z⟩
theorem u6 (w:W8) (rs:List an) (l:List W8) (b0:Nat) (g:Int) (u rv:Value) (mb:Nat) (x0 x5 x6 x7 x8 x9:Value) (A0 A:AH) (a2:A0.le A) (D:A0.wf)
    (hb:A.get b0=some (.row true [x0,num g,u,rv,.map (some mb),x5,x6,x7,x8,x9] 10)) (a8:A0.get b0=none) (hs:bI g l rs=true) (hL:ib A0) (hr:bJ A0 3 rv (cd rs)) (hp:Proofs A0 rs) (hI:ou A0 mb rs) :
    bH prog 60 #[.pointer (some ⟨b0,0,none⟩),ax (w)] A (fun v A1=>∃ V y0 y5 y6 y7 y8 y9,v=.tuple #[.agg #[ax (da (cG rs w)).word,num (((da (cG rs w)).steps:Nat):Int),V],.bool (cG rs w).isSome]/\A0.le A1/\A1.wf /\
      A1.get b0=some (.row true [y0,num g,u,rv,.map (some mb),y5,y6,y7,y8,y9] 10)/\Fresh A0 A1 V 3 (co (da (cG rs w)).disk)/\blk V ≠ some b0):=by
  refine Ci.ret (enterD (e:=[(0,.pointer (some ⟨b0,0,none⟩)),(1,ax w)]) (args:=[.pointer (some ⟨b0,0,none⟩),ax w]) call60 func60 Z results60 ntmps60 Z Z Z (fun wf=>?_))
  have ac:b0 < A.n:=wf _ _ hb
  have n1:b0 ≠ A.n:=by omega
  have n2:b0 ≠ A.n + 1:=by omega
  have n3:A.n + 1 ≠ A.n:=by omega
  have a5:∀ o1 o2:fB,A.le ((A.new o1).new o2):=fun o1 o2=>AH.le_new (AH.le_new (AH.le.refl A) wf o1) wf o2
  have g0:∀ b,A.n<=b->A0.get b=none:=fun b h=>aX D (Xj a2.n h)
  refine ak.sq fun h1=>?_
  refine ak.region ?_
  refine Ops.l rfl fun K Kp hK _=>ED (z:=.agg #[ax [],num 0,.slice none 0 0]) (cs:=[ax [],num 0,.slice none 0 0]) s8 Z (hK _ _ ?_)
  refine Ops.l rfl fun K Kp hK _=>ED (z:=.bool false) (cs:=[.bool false]) z4 Z (hK _ _ ?_)
  refine Ops.nil (h1 ?_)
  have a9:=AH.wf_new wf (.row true [ax [],num 0,.slice none 0 0] 3)
  have a3:=AH.wf_new a9 (.row true [.bool false] 1)
  have a1:=a5 (.row true [ax [],num 0,.slice none 0 0] 3) (.row true [.bool false] 1)
  have e1:((A.new (.row true [ax [],num 0,.slice none 0 0] 3)).new (.row true [.bool false] 1)).get A.n=some (.row true [ax [],num 0,.slice none 0 0] 3):=by
    rw [AH.new_get_ne _ _ (by show A.n ≠ A.n + 1;omega)];exact AH.new_get_same _ _
  have e2:((A.new (.row true [ax [],num 0,.slice none 0 0] 3)).new (.row true [.bool false] 1)).get (A.n + 1)=some (.row true [.bool false] 1):=AH.new_get_same _ _
  have e0:=a1.g hb
  have nB:((A.new (.row true [ax [],num 0,.slice none 0 0] 3)).new (.row true [.bool false] 1)).n=A.n + 2:=rfl
  generalize ((A.new (.row true [ax [],num 0,.slice none 0 0] 3)).new (.row true [.bool false] 1))=B at *
  have leB:=a2.trans a1
  refine ak.sq fun h2=>?_
  refine ak.region ?_
  refine Ops.p (od Z Z) ?_
  refine Ops.defer (d:={ target:=.fn (.func 105) #[.pointer (some ⟨A.n,0,none⟩),.pointer (some ⟨A.n + 1,0,none⟩)],args:=#[] }) Z Z (fun a ha w hw=>?_) ?_
  · have h6:=c9 (x:=.tmp 6) ha Z
    simp only [execOp,resolve,h6]
    simp [Deferred.ofValue]
  refine Ops.nil (h2 ?_)
  refine ak.seq fun K3 h3=>?_
  refine ak.seq fun K3' a4=>?_
  refine ak.region ?_
  refine Ops.J Z<|.p (cN u9 Z) ?_
  refine Ops.p (eh (b:=20000) Z Z) ?_
  refine Ops.nil (a4 _ _ ?_)
  refine ak.if (p:=20000 < w.length) Z (fun hl=>?_) (fun hl=>?_)
  · have et:cG rs w=none:=XX hl
    refine ak.seq fun K5 h5=>?_
    refine ak.region ?_
    refine Ops.p (cx Z b37) ?_
    refine Ops.l rfl fun K Kp hK _=>rZ (cs:=[ax [],num 0,.slice none 0 0]) (c:=[ax [],num 0,.slice none 0 0]) (cap:=3) Z Z Z eW Z e1 (by simp) Z (hK _ _ ?_)
    refine Ops.l rfl fun K Kp hK _=>rZ (cs:=[.bool false]) (c:=[.bool false]) (cap:=1) Z Z Z nR Z (jY e2 n3) (by simp) Z (hK _ _ ?_)
    refine Ops.nil (h5 _ _ ?_)
    refine ak.ret ?_
    show nS _ _ _ _ _ _ _
    refine ⟨by simp,_,_,105,_,Z,(fun w=>rfl),(u7 _ _ _).mono ?_⟩
    rintro en u' A1 ⟨rfl,rfl,rfl⟩
    refine ⟨[.agg #[ax [],num 0,.slice none 0 0],.bool false],?_,?_⟩
    · exact iE.cell Z (rn oC eW (jY (AH.set_get_same _ _ _) n3.symm) Z) (iE.cell Z (rp wQ (AH.set_get_same _ _ _) Z) iE.nil)
    · rw [et]
      have a0:=AH.wf_set a3 (k:=A.n) O (.row true (jW [ax [],num 0,.slice none 0 0] 0 [ax [],num 0,.slice none 0 0]) 3)
      refine ⟨.slice none 0 0,x0,x5,x6,x7,x8,x9,rfl,?_,AH.wf_set a0 (by show A.n + 1 < B.n;omega) _,?_,Fresh.nil _ _ _,fun q=>by cases q⟩
      · exact tH (tH leB D (g0 A.n (XV _))) D (g0 (A.n + 1) O)
      · exact jY (jY e0 n1) n2
  refine ak.skip (h3 _ _ ?_)
  have et:cG rs w=gT rs w:=Xy hl
  refine ak.seq fun K5 h5=>?_
  refine ak.region ?_
  refine Ops.J Z<|.J Z ?_
  have hle:=cz (A:=B) (bs:=[some b0]) leB (fun b q=>by rw [Vk] at q;cases q;exact a8)
  have hwf:=cI (bs:=[some b0]) a3
  have hno:(B.hide [some b0]).get b0=none:=cQ (Vk.2 rfl)
  have k1:=bX (bs:=[some b0]) e1 Oi
  have k2:=bX (bs:=[some b0]) e2 Oi
  refine Ops.l rfl fun K Kp hK hKp=>XE Z (s_prun w rs l b0 g u rv mb x0 x5 x6 x7 x8 x9 (B.hide [some b0]) B (c6 _ _) hwf e0 hno hs O (hL.le hle) (hr.le hle) (hp.le hle) (hI.le hle)) (fun v C hv=>hK _ _ ?_) (fun ch C hc=>hKp _ _ ?_)
  · obtain ⟨V,y0,y5,y6,y7,y8,y9,rfl,leC,wfC,gC,frC,neC,isC⟩:=hv
    have a6:=frC.seph k1
    have a7:=frC.seph k2
    have one:lG [ax (da (gT rs w)).word,num (((da (gT rs w)).steps:Nat):Int),V]=true:=Zr frC.slc
    refine Ops.l rfl fun K Kp hK _=>rZ (cs:=[ax (da (gT rs w)).word,num (((da (gT rs w)).steps:Nat):Int),V]) (c:=[ax [],num 0,.slice none 0 0]) (cap:=3) Z Z Z eW Z (leC.g k1) (by simp) one (hK _ _ ?_)
    refine Ops.l rfl fun K Kp hK _=>rZ (cs:=[.bool true]) (c:=[.bool false]) (cap:=1) Z Z Z nR Z (jY (leC.g k2) n3) (by simp) Z (hK _ _ ?_)
    refine Ops.nil (h5 _ _ ?_)
    refine ak.ret ?_
    show nS _ _ _ _ _ _ _
    refine ⟨by simp,_,_,105,_,Z,(fun w=>rfl),(u7 _ _ _).mono ?_⟩
    rintro en u' A1 ⟨rfl,rfl,rfl⟩
    refine ⟨[.agg #[ax (da (gT rs w)).word,num (((da (gT rs w)).steps:Nat):Int),V],.bool true],?_,?_⟩
    · exact iE.cell Z (rn oC eW (jY (AH.set_get_same _ _ _) n3.symm) Z) (iE.cell Z (rp wQ (AH.set_get_same _ _ _) Z) iE.nil)
    · rw [et]
      have X:=hle.trans leC
      have nC:=leC.n
      have nH:(B.hide [some b0]).n=B.n:=rfl
      have a0:=AH.wf_set wfC (k:=A.n) O (.row true (jW [ax [],num 0,.slice none 0 0] 0 [ax (da (gT rs w)).word,num (((da (gT rs w)).steps:Nat):Int),V]) 3)
      refine ⟨V,y0,y5,y6,y7,y8,y9,by rw [isC];rfl,?_,AH.wf_set a0 (by show A.n + 1 < C.n;omega) _,?_,?_,neC⟩
      · exact tH (tH X D (g0 A.n (XV _))) D (g0 (A.n + 1) O)
      · exact jY (jY gC n1) n2
      · exact ((frC.base hle).keep (fun b' o hn h=>jY h hn) a6).keep (fun b' o hn h=>jY h hn) a7
  · obtain ⟨hn,rfl,leC,wfC,y0,y5,y6,y7,y8,y9,gC⟩:=hc
    show nS _ _ _ _ _ _ _
    refine ⟨by simp,_,_,105,_,Z,(fun w=>rfl),(Ei A.n (A.n + 1) _ _ 3 1 [] C O (leC.g k1) (by simp) (leC.g k2) (by simp)).mono ?_⟩
    rintro en u' A1 ⟨rfl,rfl,rfl⟩
    refine ⟨[.agg #[ax [],num 0,.slice none 0 0],.bool false],?_,?_⟩
    · exact iE.cell Z (rn oC eW (jY (AH.set_get_same _ _ _) n3.symm) Z) (iE.cell Z (rp wQ (AH.set_get_same _ _ _) Z) iE.nil)
    · rw [et,hn]
      have X:=hle.trans leC
      have nC:=leC.n
      have nH:(B.hide [some b0]).n=B.n:=rfl
      have lbC:=wfC _ _ gC
      have a0:=AH.wf_new wfC (.row true [] 0)
      have aa:=AH.wf_set a0 (k:=C.n) (by show C.n < C.n + 1;omega) (.row true [] 0)
      have ab:=AH.wf_set aa (k:=A.n) (by show A.n < C.n + 1;omega) (.row true (jW [ax [],num 0,.slice none 0 0] 0 [ax [],num 0,.slice none 0 0]) 3)
      have l1:=AH.le_new X D (.row true [] 0)
      have l2:A0.le ((C.new (.row true [] 0)).set C.n (.row true [] 0)):=tH l1 D (aX D X.n)
      refine ⟨.slice none 0 0,y0,y5,y6,y7,y8,y9,rfl,?_,AH.wf_set ab (by show A.n + 1 < C.n + 1;omega) _,?_,Fresh.nil _ _ _,fun q=>by cases q⟩
      · exact tH (tH l2 D (g0 A.n (XV _))) D (g0 (A.n + 1) O)
      · exact jY (jY (jY ((AH.new_get_ne _ _ O).trans gC) O) n1) n2
theorem pd:prog.info? 3=some Tryz.t3:=by kernel_rfl
theorem pl147:dQ prog 147=some [(0,1),(1,3),(4,1),(5,1),(6,1),(7,3)]:=by kernel_rfl
theorem u147:type_of% @underlying147:=@underlying147
theorem z147:c5 prog 147=some (.agg #[.slice none 0 0,.int .i64 0,.slice none 0 0,.slice none 0 0,.map none,.slice none 0 0,.int .i64 0,.string ⟨⟨[]⟩⟩,.int .i64 0,.slice none 0 0]):=by kernel_rfl
theorem z3:c5 prog 3=some (.int .i64 0):=by kernel_rfl
theorem ol (g:Int) (u:Value) (l:List W8) (rv:Value) (rs:List an) (A:AH) (hn:rs.length<=1000000) (cS:∀ r ∈ rs,0 < r.left.length/\r.left.length<=1000000) (hu:bJ A 1 u (dN l)) (hr:bJ A 3 rv (cd rs)) (hp:Proofs A rs):bH prog 59 #[.agg #[num (g),u,rv]] A (fun v A1=>∃ b mb,v=.pointer (some ⟨b,0,none⟩)/\A.le A1/\A1.wf/\A1.get b=some (.row true [.slice none 0 0,num g,u,rv,.map (some mb),.slice none 0 0,num 0,ax [],num 0,.slice none 0 0] 10)/\A.get b=none/\ou (A1.hide [some b]) mb rs/\∃ M,ou M mb rs/\M.wf/\M.le A1/\M.get b=none/\∀ k o,A.get k=some o->M.get k=none):=by
 refine bi (e:=[(0,.agg #[num (g),u,rv])]) (args:=[.agg #[num (g),u,rv]]) call59 func59 Z results59 ntmps59 Z Z Z (fun wf=>?_);have cV:=AH.le.refl A;refine ak.sq fun h2=>.region<|.m (fun cP=>d8 wf rfl rfl fun A5 b4 aD=>?_);have bu:=cV.trans aD.le;refine cP<|.I Z<|.nil<|h2<|.sq fun h9=>.region<|.p (am ei dE Z Z aD.get Z)<|.m (fun bM=>pC aD.wf fun A12 a4 ab=>?_);have ai:=aX wf (Xj bu.n ab.lo);have aV:=bu.trans ab.le;refine bM<|.p (cx Z (bg u147 z147 pl147 Z))<|.m (fun bO=>d8 ab.wf rfl rfl fun A18 a9 ag=>?_);have a1:=ne_new ab.wf ab.get ag.lo;have aG:=aX wf (Xj aV.n ag.lo);have aY:=aV.trans ag.le;refine bO<|.I Z<|.nil<|h9<|.sq fun cA=>.sq fun cB=>.region<|.p (ae cW fp U Z)<|.p (ah ga Z Z (ag.le.g (ab.le.g aD.get)) Z)<|.p (bE (n:=rs.length) i4 Z (hr.le aY) O (cL _)) ?_;refine Ops.J Z<|.nil<|cB<|.block<|.loop (X:=Nat × Array MapEntry × Nat × List (UInt8 × Value)) (fun ⟨i,es,ck,E⟩=>[(3,.pointer (some ⟨a9,0,none⟩)),(12,rv),(13,num ((rs.length:Nat):Int)),(14,num ((i:Nat):Int))]) (fun ⟨i,es,ck,E⟩ B=>(i<=rs.length/\d9 ed es E)/\A.le B/\B.get a4=some (.obj true (.map es ck))/\B.get a9=some (.row true [.slice none 0 0,num (g),u,rv,.map (some a4),.slice none 0 0,num ((0:Nat):Int),ax ([]),num ((0:Nat):Int),.slice none 0 0] 10)/\(mQ A B E rs i [a4,a9])) (fun ⟨i,es,ck,E⟩=>rs.length - i) (⟨0,#[],0,[]⟩) (jC Z Z Z Z) (⟨⟨XK _,d9.nil⟩,aY,(ag.le.g ab.get),ag.get,mQ.nil⟩) ?_;rintro ⟨i,es,ck,E⟩ B28 ⟨⟨hi,hME⟩,az,a8,aa,hIO⟩;refine ak.wf fun a5=>?_;have hvv:=hIO.fr ((rs.getD i .zero).left.getD ((rs.getD i .zero).left.length - 1) 0);have ac:=hIO.ne ((rs.getD i .zero).left.getD ((rs.getD i .zero).left.length - 1) 0) a4 (by simp);have a6:=hIO.ne ((rs.getD i .zero).left.getD ((rs.getD i .zero).left.length - 1) 0) a9 (by simp);have br:=AH.le.refl B28;have hil:=FJ (rs.take i) ((rs.getD i .zero).left.getD ((rs.getD i .zero).left.length - 1) 0);have htl:(rs.take i).length<=i:=by simp;omega
 have hll:=fun q:i < rs.length=>cS _ (bj (d:=an.zero) q);refine ak.sq fun cC=>.region<|.p (ca Z Z)<|.nil<|cC<|.sq fun cF=>.if rfl (fun cX=>?_) (fun cX=>?_)
 ·refine ak.skip<|cF<|.sq fun bl=>.block<|.sq fun cH=>.region<|.J Z ?_;obtain ⟨dd,dk,d3,dv,d2,dm,dl,ch,cU,cu,bA,d1⟩:=bJ.at (i:=i) (hr.le az) O3 O;refine Ops.p (au i4 eE Z ch Z cU)<|.p (am uo eE Z Z cu (bA.trans (Xk some (iI O))))<|.m (fun bP=>bZ a5 wJ rfl fun A42 di V=>?_);have aI:=aX a5 (Xj br.n V.lo);refine bP<|.I Z<|.m (fun bR=>aW (cs:=[ax ((rs.getD i .zero).left),ax ((rs.getD i .zero).right),(rs.getD i .zero).pv]) (c':=[ax ((rs.getD i .zero).left),ax ((rs.getD i .zero).right),(rs.getD i .zero).pv]) V.wf rfl rfl rfl rfl eE V.get G (jm (hp.get O)) rfl fun A51 a3=>?_);have aR:=a3.k (ne_new a5 a8 V.lo) (V.le.g a8);have ar:=a3.k (ne_new a5 aa V.lo) (V.le.g aa);have aE:=(hvv.le V.le).keep a3.keep (hvv.own.ne_new a5 V.lo);have ay:=al (br.trans V.le) a5 aI a3.n a3.keep;have aZ:=al (az.trans V.le) wf (aX wf (Xj az.n V.lo)) a3.n a3.keep;refine bR<|.nil<|cH<|.sq fun cK=>.region<|.p (ae ew ek U Z)<|.p (ah eJ Z Z a3.get Z)<|.p (ae ew ek U Z)<|.p (ah eJ Z Z a3.get Z)<|.p (cN u9 Z) ?_;refine Ops.p (fJ (b:=1) Z Z O)<|.p (nP u9 Z Z (by have:=hll O;omega))<|.I Z<|.nil<|cK<|.drawnP [0,1,2,3,4,5,6,7,8,9,11] 10 12 [12,13,14] [10,13,14] mixed Y Y Z<|.p Z (aN Z)<|.p Z (du Z)<|.p Z (ae CO Xo U Z) ?_;have aB:=de (off:=4) ar (show _=some (.map (some a4)) from rfl);refine i8.p Z (ah RU Z Z ar Z)<|.p Z (aN Z)<|.p Z (aN Z)<|.p Z (du Z)<|.p Z (ae CO Xo U Z) ?_;have bL:=de (off:=4) ar (show _=some (.map (some a4)) from rfl);refine i8.p Z (ah RU Z Z ar Z)<|.p Z (aN Z)<|.p Z (aN Z)<|.both Z Z Z Z Z Z ?_ ?_
  ·refine fun _ _ bS _=>r0 uE Z Z Xu u5 RC aR hME ?_;refine bS _ _ (aU.list (L:=[(⟨a9,4,none⟩,.map (some a4))]) Y (bz aB cm))<|.m Z (fun bT=>bf (c:=[num ((i:Nat):Int)]) a3.wf rfl (aw fk dH z3 rfl U U rfl) fun A65 dj a2=>?_);have cv:=aX a5 (Xj ay.n a2.lo);have bm:=a2.le.g aR;have bp:=a2.le.g ar;have aF:=aE.le a2.le;have aT:=cl a2.le aB;have bY:=ay.trans a2.le;refine bT (aU.list (L:=[(⟨a9,4,none⟩,.map (some a4))]) Y (bz aT cm))<|.m Z (fun bU=>ct (ys:=[num ((i:Nat):Int)]) rfl rfl fk dH pd z3 rfl U fk (fun _ h=>by cases h) aF.own (bN (n:=1) a2.get Z) rfl rfl (by show (_ + _) * 8<=_;simp only [aJ,Xq,Xz];(try simp only [Xx,Xq,Xz]);omega) O2 fun A76 cZ a7=>?_);rw [show ([num ((i:Nat):Int)]:List Value)=dy [((i:Nat):Int)] from rfl,eo] at a7;obtain ⟨bC,c3⟩:=Fresh.grow aF (aZ.trans a2.le) wf a7;have c7:=a7.ne ac a2.wf bm;have cb:=a7.ne a6 a2.wf bp;refine bU (aU.list (L:=[(⟨a9,4,none⟩,.map (some a4))]) Y (bz (a7.cell a6 aT) cm))<|.m Z (fun bV=>qw uE a7.wf rfl rfl rfl Xu u5 (a7.keep ac bm) hME hIO.nd fun A91 bB bv ap c4=>?_);have b3:=hIO.step bY a2.wf a7 bC ap (by simp) (mem2 c7 cb) O Z;refine bV (aU.none Y)<|.done<|bl<|.region<|.p (bF (b:=1) Z Z O)<|.J Z<|.nil ?_;exact ⟨⟨i + 1,bB,bv,Cd E ((rs.getD i .zero).left.getD ((rs.getD i .zero).left.length - 1) 0) cZ⟩,jC Z Z Z Z,Z,⟨⟨by omega,c4⟩,(al c3 wf ai ap.n ap.keep),ap.get,(ap.k a1.symm (a7.keep a6 bp)),b3⟩,O1⟩
  refine fun _ _ b5 _=>bf (c:=[num ((i:Nat):Int)]) a3.wf rfl (aw fk dH z3 rfl U U rfl) fun A103 d0 D=>?_;have cf:=aX a5 (Xj ay.n D.lo);have aA:=D.le.g aR;have aP:=D.le.g ar;have aC:=aE.le D.le;have av:=cl D.le aB;have b9:=ay.trans D.le;refine b5 _ _ (aU.list (L:=[(⟨a9,4,none⟩,.map (some a4)),(⟨a9,4,none⟩,.map (some a4))]) Y (bz (cl D.le bL) (bz av cm)))<|.m Z (fun b6=>r0 uE Z Z Xu u5 RC aA hME ?_);refine b6 (aU.list (L:=[(⟨a9,4,none⟩,.map (some a4))]) Y (bz av cm))<|.m Z (fun b7=>ct (ys:=[num ((i:Nat):Int)]) rfl rfl fk dH pd z3 rfl U fk (fun _ h=>by cases h) aC.own (bN (n:=1) D.get Z) rfl rfl (by show (_ + _) * 8<=_;simp only [aJ,Xq,Xz];(try simp only [Xx,Xq,Xz]);omega) O2 fun A116 cc a0=>?_);rw [show ([num ((i:Nat):Int)]:List Value)=dy [((i:Nat):Int)] from rfl,eo] at a0;obtain ⟨b2,ba⟩:=Fresh.grow aC (aZ.trans D.le) wf a0;have bc:=a0.ne ac D.wf aA;have bd:=a0.ne a6 D.wf aP;refine b7 (aU.list (L:=[(⟨a9,4,none⟩,.map (some a4))]) Y (bz (a0.cell a6 av) cm))<|.m Z (fun b8=>qw uE a0.wf rfl rfl rfl Xu u5 (a0.keep ac aA) hME hIO.nd fun A131 b1 b0 ad bb=>?_);have aS:=hIO.step b9 D.wf a0 b2 ad (by simp) (mem2 bc bd) O Z;refine b8 (aU.none Y)<|.done<|bl<|.region<|.p (bF (b:=1) Z Z O)<|.J Z<|.nil ?_;exact ⟨⟨i + 1,b1,b0,Cd E ((rs.getD i .zero).left.getD ((rs.getD i .zero).left.length - 1) 0) cc⟩,jC Z Z Z Z,Z,⟨⟨by omega,bb⟩,(al ba wf ai ad.n ad.keep),ad.get,(ad.k a1.symm (a0.keep a6 aP)),aS⟩,O1⟩
 refine ak.exit<|cA<|.sq fun bD=>.region<|.J Z<|.I Z<|.nil<|bD<|.rt (by exact aH Z (⟨a9,a4,rfl,az,a5,aa,aG,hIO.map O a8 hME (by simp) a1,_,hIO.only O a8 hME (by simp) a1 ai,Pt a5,Pr.trans (c6 _ _),GB,fun k o h=>GA h⟩))
theorem px (g:Int) (u:Value) (l:List W8) (rv:Value) (rs:List an) (w:W8) (A:AH) (hn:l.length<=9223372036854775807) (hm:rs.length<=9223372036854775807) (hL:ib A) (hu:bJ A 1 u (dN l)) (hr:bJ A 3 rv (cd rs)) (hp:Proofs A rs):bH prog 21 #[.agg #[num (g),u,rv],ax (w)] A (fun v A1=>∃ dv,v=.tuple #[.agg #[ax (jZ g l rs w).word,num (((jZ g l rs w).steps:Nat):Int),dv],num ((fU g l rs w:Nat):Int)]/\A.le A1/\A1.wf/\Fresh A A1 dv 3 (co (jZ g l rs w).disk)):=by
 refine bi (e:=[(0,.agg #[num (g),u,rv]),(1,ax (w))]) (args:=[.agg #[num (g),u,rv],ax (w)]) call21 func21 Z results21 ntmps21 Z Z Z (fun wf=>?_);have ck:=AH.le.refl A;refine ak.sq fun h2=>.region<|.m (fun cf=>d8 wf rfl rfl fun A5 b4 aT=>?_);have br:=ck.trans aT.le;refine cf<|.m (fun ch=>bZ aT.wf s8 rfl fun A10 b9 ad=>?_);have a2:=aX wf (Xj br.n ad.lo);have bb:=ad.le.g aT.get;have a5:=br.trans ad.le;refine ch<|.I Z<|.nil<|h2<|.sq fun bU=>.block<|.sq fun bV=>.region<|.p (am ei dE Z Z bb Z)<|.m (fun bA=>aq Z (ld ((g)) u l rv rs A10 hn hm (hL.le a5) (hu.le a5) (hr.le a5) (hp.le a5)) ?_);rintro cX A20 ⟨rfl,aa,b8⟩;have bc:=aa.g bb;have bd:=aa.g ad.get;have av:=a5.trans aa;refine bA<|.p (eD Z)<|.I Z<|.nil<|bV<|.ifB Z (fun cu=>?_) (fun cu=>?_)
 ·refine ak.sq fun bY=>.region<|.p (cx Z (bg XC s8 yv Z))<|.m (fun bB=>aW (cs:=[ax ([]),num ((0:Nat):Int),.slice none 0 0]) (c':=[ax ([]),num ((0:Nat):Int),.slice none 0 0]) b8 rfl rfl rfl rfl eW bd G rfl rfl fun A29 ai=>?_);have bR:=al av wf a2 ai.n ai.keep;refine bB<|.I Z<|.nil<|bY<|.rt (by exact aH (df oC eW Z ai.get Z (dA Z d5)) (⟨_,by (rw [(KG ‹_›).1,(KG ‹_›).2];rfl),bR,ai.wf,by (rw [(KG ‹_›).1];exact Fresh.nil _ _ _)⟩))
 refine ak.sq fun c3=>.region<|.p (ae gi ik U Z)<|.p (ae gh dH U Z)<|.p (ah fA Z Z bc Z)<|.J Z<|.m (fun bC=>aq Z (rJ (g) w A20 (hL.le av)) ?_);rintro cZ A37 ⟨rfl,ab,ba⟩;have bl:=ab.g bc;have aG:=ab.g bd;have a1:=av.trans ab;refine bC<|.p (eB (b:=0) Z Z)<|.I Z<|.nil<|c3<|.if rfl (fun cv=>?_) (fun cv=>?_)
 ·refine ak.sq fun c4=>.region<|.p (cx Z (bg XC s8 yv Z))<|.m (fun bD=>aW (cs:=[ax ([]),num ((0:Nat):Int),.slice none 0 0]) (c':=[ax ([]),num ((0:Nat):Int),.slice none 0 0]) ba rfl rfl rfl rfl eW aG G rfl rfl fun A46 ap=>?_);have bS:=al a1 wf a2 ap.n ap.keep;refine bD<|.I Z<|.nil<|c4<|.rt (by exact aH (df oC eW Z ap.get Z (dA Z d5)) (⟨_,by (rw [(KH ‹_› ‹_›).1,(KH ‹_› ‹_›).2];rfl),bS,ap.wf,by (rw [(KH ‹_› ‹_›).1];exact Fresh.nil _ _ _)⟩))
 refine ak.skip<|bU<|.sq fun c7=>.region<|.p (am ei dE Z Z bl Z)<|.m (fun bL=>aq Z (ol ((g)) u l rv rs A37 (sI (by simpa using ‹(!bI g l rs)=false›)) (vc (by simpa using ‹(!bI g l rs)=false›)) (hu.le a1) (hr.le a1) (hp.le a1)) ?_);rintro d0 A54 ⟨D,b6,rfl,aA,aC,a8,X,ar,b0⟩;have hrow:=a8;have hno:=X;have hix:=ar;have hM:=b0;have b7:b4 ≠ D:=fun z=>by have q0:=bl;rw [z,X] at q0;cases q0
 have ag:b9 ≠ D:=fun z=>by have q0:=aG;rw [z,X] at q0;cases q0
 have aD:=sw a1 X;refine bL<|.J Z ?_;have a6:=cz (bs:=[some D]) (a1.trans aA) (xe aD qX);have aP:=cz (bs:=[some D]) (c6 A54 [some D]) (xe (cQ (by simp)) qX);refine Ops.m (fun bM=>aq Z (u6 w rs l D (((g))) u rv b6 (.slice none 0 0) (.slice none 0 0) (num ((0:Nat):Int)) (ax ([])) (num ((0:Nat):Int)) (.slice none 0 0) (A54.hide [some D]) A54 (c6 A54 [some D]) (cI aC) a8 (cQ (by simp)) (by simpa using ‹(!bI g l rs)=false›) (hL.le a6) (hr.le a6) (hp.le a6) (ar.le aP)) ?_);rintro d1 A61 ⟨cC,cF,cH,cK,cP,cS,cU,rfl,ac,a4,a9,a7,aV⟩;have aI:=bX (bs:=[some D]) (aA.g aG) (qY ag mN);have bm:=ac.g aI;have aE:=a7.base a6;have aR:=a6.trans ac;refine bM<|.J Z<|.p (aQ Z Z)<|.p (aQ Z Z)<|.m (fun bO=>bZ a4 s8 rfl fun A76 cV h=>?_);have aY:=ne_new a4 a9 h.lo;have bT:=aX (cI aC) (Xj (aP.trans ac).n h.lo);have aF:=aE.le h.le;refine bO ?_;obtain ⟨aB,az,ay,cB,_⟩:=aF.own.slice;subst cB;refine Ops.m (fun bP=>aW (cs:=[ax ((da (cG rs w)).word),num (((da (cG rs w)).steps:Nat):Int),.slice aB az ay]) (c':=[ax ((da (cG rs w)).word),num (((da (cG rs w)).steps:Nat):Int),.slice aB az ay]) h.wf rfl rfl rfl rfl eW h.get G rfl rfl fun A87 V=>?_);have bp:=V.k (ne_new a4 bm h.lo) (h.le.g bm);have aS:=al (aR.trans h.le) wf (aX wf (Xj aR.n h.lo)) V.n V.keep;refine bP<|.I Z<|.nil<|c7<|.sq fun cb=>.sq fun cc=>.region<|.J Z<|.p (eD Z)<|.nil ?_;refine cc<|.ifB Z (fun cA=>?_) (fun cA=>?_)
 ·refine ak.sq fun bu=>.region<|.p (cx Z (bg XC s8 yv Z))<|.m (fun b1=>aW (cs:=[ax ([]),num ((0:Nat):Int),.slice none 0 0]) (c':=[ax ([]),num ((0:Nat):Int),.slice none 0 0]) V.wf rfl rfl rfl rfl eW bp G rfl rfl fun A103 a3=>?_);have b3:=al aS wf a2 a3.n a3.keep;refine b1<|.I Z<|.nil<|bu<|.rt (by exact aH (df oC eW Z a3.get Z (dA Z d5)) (⟨_,by (rw [(KI ‹_› ‹_› ‹_›).1,(KI ‹_› ‹_› ‹_›).2];rfl),b3,a3.wf,by (rw [(KI ‹_› ‹_› ‹_›).1];exact Fresh.nil _ _ _)⟩))
 refine ak.skip<|cb<|.sq fun bv=>.region<|.p (am oC eW Z Z V.get Z)<|.m (fun b2=>aW (cs:=[ax ((da (cG rs w)).word),num (((da (cG rs w)).steps:Nat):Int),.slice aB az ay]) (c':=[ax ((da (cG rs w)).word),num (((da (cG rs w)).steps:Nat):Int),.slice aB az ay]) V.wf rfl rfl rfl rfl eW bp G rfl rfl fun A113 a0=>?_);have aZ:=(aF.keep V.keep (aE.own.ne_new a4 h.lo)).keep a0.keep (a7.seph aI);have b5:=al aS wf a2 a0.n a0.keep;refine b2<|.I Z<|.nil<|bv<|.rt (by exact aH (df oC eW Z a0.get Z (dA Z d5)) (⟨_,by (rw [(KJ ‹_› ‹_› ‹_›).1,(KJ ‹_› ‹_› ‹_›).2];rfl),b5,a0.wf,by (rw [(KJ ‹_› ‹_› ‹_›).1];exact aZ)⟩))
namespace V
section
variable {P:Program} {F:Fence} {nt n:Nat} {A:AH}
theorem XU (hF:zp F) {l:Nat} {args:Array Value} {R:Value->AH->Prop} (hc:mU P l args A R) {w:World} (hw:cD A w) :
    YieldAt F 0 P l args w fun e w'=>∃ A' v,e=.returned v/\cD A' w'/\fx A w A' w'/\R v A':=by
  rcases hF with rfl | ⟨l,rfl⟩
  · exact hc w hw
  · exact hc w hw
theorem Ya (hF:zp F) {fo:Operand} {aa:Array Operand} {tt:Array TypeId} {dst:Option Nat} {ty:TypeId} {ps:String} {af:Array Edge} {g:Option (Nat × Bool)} {l:Nat} {vs:List Value} {R:Value->AH->Prop} {a:Act} {w:World}
    (hf:a.eval fo=.func (.yield l) #[] #[]) (ha:aa.map a.eval=vs.toArray) (hc:mU P l vs.toArray A R) (hw:cD A w) {next:Act->World->Prop} {Q:Exit->Act->World->Prop}
    (h:∀ v A' w',cD A' w'->fx A w A' w'->R v A'->next (a.put dst v) w') :
    ({ dst:=dst,op:=.call { callee:=.value fo,args:=aa,argTypes:=tt },type:=ty,pos:=ps,after:=af,guard:=g }:Oper).wpIn F 0 P a w next Q:=by
  obtain ⟨fn,tmps,assign,body,hy,hr⟩:=XU hF hc hw
  have hx:(execOp a.eval { dst:=dst,op:=.call { callee:=.value fo,args:=aa,argTypes:=tt },type:=ty,pos:=ps,after:=af,guard:=g }).run P w=.ok (.round l fn tmps assign body) w:=by
    simp [execOp,resolve,hf,ha,Deferred.ofValue,invoke,hy]
  refine ⟨fun f _=>tP hF f,?_⟩
  rw [Oper.semAt_eq _ _ _ (fun c q=>by cases q),hx]
  refine ⟨uN hF,RoundIn.mono hr ?_⟩
  rintro en w' ⟨A',v,rfl,hv,hst,hR⟩
  exact h v A' w' hv hst hR
theorem pO {t el:TypeId} {len m:Nat} {z:Value} {l:List (Nat × Value)} {c:List Value} (hu:P.underlying t=some (.array len el)) (hz:c5 P t=some z) (hs:dY P el=some m)
    (hf:qC (fun i=>some (i * m,m)) z.cells.toList l=some c):mY P t l=some (.agg c.toArray):=by simp [mY,hu,hz,hs,hf]
theorem jI {e:im} {x y:Operand} {t el:TypeId} {b off n len i:Nat} {k:IntKind} (hu:P.underlying t=some (.array len el)) (hs:dY P el=some n) (h:cg e x=some (.pointer (some ⟨b,off,none⟩))) (h':cg e y=some (.int k (i:Nat))) (hi:i < len) :
    bk P e A (.indexAddr t x y)=some (.pointer (some ⟨b,off + i * n,none⟩),[]):=by rw [PH hu hs h h' hi,pG _ _ Z]
theorem Ld:∀ a:Fin 16,Yp .xor .i64 ((a.1:Nat):Int) ((1:Nat):Int)=some (num ((a.1 ^^^ 1:Nat):Int)):=fun a=>by
  have key:∀ a:Fin 16,IntKind.i64.wrap ((BitVec.ofInt 64 ((a.1:Nat):Int) ^^^ BitVec.ofInt 64 ((1:Nat):Int)).toNat:Int)=((a.1 ^^^ 1:Nat):Int):=by decide
  show some (Value.int .i64 (IntKind.i64.wrap ((BitVec.ofInt 64 ((a.1:Nat):Int) ^^^ BitVec.ofInt 64 ((1:Nat):Int)).toNat:Int)))=_
  rw [key]
theorem qxor1 {e:im} {x y:Operand} {t t':TypeId} {a:Nat} (h:cg e x=some (num (a:Nat))) (h':cg e y=some (num (1:Nat))) (ha:a < 16):bk P e A (.binOp .xor t x y t')=some (num ((a ^^^ 1:Nat):Int),[]) :=
  zA U U h h' (Ld ⟨a,ha⟩)
def mR (P:Program) (nt:Nat) (F:Fence) (all:Array Oper) (os:List Oper) (Q:Exit->Fr->AH->Prop) (f:Fr) (A:AH):Prop :=
  ∀ a w,dC nt f a->cD A w->∀ (A₀:AH) (w₀:World),fx A₀ w₀ A w->wpListIn F 0 P all (mS nt Q A₀ w₀) os a w
section
variable {all:Array Oper} {Q:Exit->Fr->AH->Prop} {f:Fr} {e:im} {ds:List Deferred} {d t:Nat} {op:Op} {ty:TypeId} {ps:String} {af:Array Edge} {os:List Oper} {v:Value} {T:fC}
theorem mR.nil (h:Q .normal f A):mR P nt F all [] Q f A:=fun _ _ ha hw _ _ hs=>⟨f,A,ha,hw,hs,h,fun _ q=>by cases q⟩
theorem mR.q (hF:zp F) (hn:jQ { dst:=some d,op:=op,type:=ty,pos:=ps,after:=af,guard:=none }=true) (hd:Nat.blt d nt=true) (hv:bk P e A op=some (v,T)) (h:mR P nt F all os Q ⟨(d,v) :: e,ds⟩ A) :
    mR P nt F all ({ dst:=some d,op:=op,type:=ty,pos:=ps,after:=af,guard:=none } :: os) Q ⟨e,ds⟩ A:=by
  intro a w ha hw A₀ w₀ hs
  have:=ig (o:={ dst:=some d,op:=op,type:=ty,pos:=ps,after:=af,guard:=none }) hv ha hw
  unfold wpListIn
  rw [XX (by simp [Region.wanted])]
  refine ⟨fun f _=>tP hF f,?_⟩
  rw [Oper.semAt_eq _ _ _ (fun c hc=>by simp only at hc;subst hc;cases hn),this.2 w this.1]
  exact h _ w (ha.put (some d) v (dq hd)) hw A₀ w₀ hs
theorem mR.y (hF:zp F) {fo:Operand} {l:Nat} {vs:List Value} {R:Value->AH->Prop} {aa:Array Operand} {tt:Array TypeId} (hd:Nat.blt d nt=true) (hf:cg e fo=some (.func (.yield l) #[] #[])) (ha:ki (cg e) aa.toList=some vs)
    (hc:mU P l vs.toArray A R) (h:∀ v A',R v A'->mR P nt F all os Q ⟨(d,v) :: e,ds⟩ A') :
    mR P nt F all ({ dst:=some d,op:=.call { callee:=.value fo,args:=aa,argTypes:=tt },type:=ty,pos:=ps,after:=af,guard:=none } :: os) Q ⟨e,ds⟩ A:=by
  intro a w hact hw A₀ w₀ hs
  unfold wpListIn
  rw [XX (by simp [Region.wanted])]
  have hev:∀ x v,cg e x=some v->a.eval x=v:=fun x v g=>c9 hact g
  have hargs:aa.map a.eval=vs.toArray:=by apply Array.ext';simp [re hev _ _ ha]
  exact Ya hF (hev _ _ hf) hargs hc hw fun v A' w' hv hst hR=>h v A' hR _ w' (hact.put (some d) v (dq hd)) hv A₀ w₀ (hs.trans hst)
theorem fw.regionJ {id:Nat} {l:List Oper} (h:mR P nt F l.toArray l Q f A):fw P nt F (.region id l.toArray false) Q f A :=
  fun a w ha hw=>wpIn_region_lit (h a w ha hw A w (.refl _ _))
theorem ak.regionJ {id:Nat} {l:List Oper} (h:mR P nt Fence.wide l.toArray l Q f A):ak P nt (.region id l.toArray false) Q f A:=fw.run (fw.regionJ h)
end
theorem op_in2 (hF:zp F) {o:Oper} {a:Act} {w:World} {K:Act->World->Prop} {Q Q':Exit->Act->World->Prop} (hd:jQ o=true) (hp:∀ ch a w,Q (.panic ch) a w->Q' (.panic ch) a w) (hl:¬ LetsOut Q) (h:o.wp P a w K Q):o.wpIn F n P a w K Q':=by
  have hs:o.semAt F.round a.eval=execOp a.eval o:=Oper.semAt_eq _ _ _ (fun c hc=>by simp [jQ,hc] at hd)
  refine ⟨fun f _=>tP hF f,?_⟩
  rw [hs]
  unfold Oper.wp at h
  generalize (execOp a.eval o).run P w=r at h ⊢
  cases r with
  | ok x w' =>
    cases x <;> simp only [Oper.upon] at h <;> simp only [Oper.uponIn] <;>
      first
      | exact h
      | exact h.elim
      | exact ⟨uN hF,ER hF (h.mono fun e w'' he=>by
          cases e with
          | returned v=>exact he
          | panicked ch=>exact hp _ _ _ he
          | outgrown=>exact absurd he hl)⟩
      | exact ⟨uN hF,MO hF h⟩
  | halt x w'=>cases x <;> simp only [Oper.upon] at h <;> simp only [Oper.uponIn] <;> exact hp _ _ _ h
theorem AQ {ops:Array Oper} {y:Nat} {o o':Oper} (hy:ops[y]? = some o) (he:o'.after=o.after) (listed:Array Bool):Region.ready .any (ops.setIfInBounds y o') listed=Region.ready .any ops listed:=by
  unfold Region.ready
  rw [Array.size_setIfInBounds]
  apply List.filter_congr
  intro i hi
  congr 1
  by_cases q:y=i
  · subst q
    have hlt:=(Tj.1 hy).1
    have e1:ops[y]=o:=(Tj.1 hy).2
    simp [hlt,he,e1]
  · rw [Tz q]
def vd (ops:Array Oper) (y z:Nat):Bool :=
  Nat.blt y ops.size && Nat.blt z ops.size && !(y == z) && (List.range ops.size).all (fun j=>j == y || j == z || ms ops j ops.size y) && ms ops y ops.size z &&
  (List.range ops.size).all (fun j=>match ops[j]? with | none=>false | some o=>o.after.all fun e=>Nat.blt e.on j) && ops.toList.all (fun o=>jQ o && (match o.guard with | none=>true | _=>false))
theorem I6 {o:Oper} (h:(match o.guard with | none=>true | _=>false)=true) (l:Nat->Value):o.guard=none:=by
  cases q:o.guard with
  | none=>rfl
  | some x=>rw [q] at h;cases h
theorem YO {l:Array Bool} {i:Nat} (h:l.getD i true=false):i < l.size:=by
  rcases VY i l.size with q | q
  · exact q
  · simp [q] at h
theorem Vu {a:Act} {d:Nat} {v:Value} (h:d < a.tmps.size):(a.put (some d) v).eval (.tmp d)=v:=by simp [Act.eval,Act.put,h]
theorem any_y (hF:zp F) {ops:Array Oper} {y z d dz:Nat} {fo:Operand} {aa:Array Operand} {tt:Array TypeId} {ty tz tz':TypeId} {ps psz:String} {af afz:Array Edge} {l:Nat} {Qp Q:Exit->Act->World->Prop} {oy oz oy' oz':Oper}
    (ey:oy={ dst:=some d,op:=.call { callee:=.value fo,args:=aa,argTypes:=tt },type:=ty,pos:=ps,after:=af,guard:=none })
    (ez:oz={ dst:=some dz,op:=.unOp .not tz (.tmp d),type:=tz',pos:=psz,after:=afz,guard:=none })
    (ey':oy'={ oy with op:=.move (.const (.bool true)) }) (ez':oz'={ oz with op:=.move (.const (.bool false)) })
    (hy:ops[y]? = some oy) (hz:ops[z]? = some oz) (hw:vd ops y z=true) (hl:¬ LetsOut Qp) (hp:∀ ch a w,¬ Qp (.panic ch) a w)
    (hQ:∀ (a:Act) w,Qp .normal ((a.put (some d) (.bool true)).put (some dz) (.bool false)) w->d < a.tmps.size/\∃ (A:AH) (vs:List Value) (R:Value->AH->Prop),cD A w/\a.eval fo=.func (.yield l) #[] #[]/\aa.map a.eval=vs.toArray/\mU P l vs.toArray A R /\
      (∀ v A' w',R v A'->cD A' w'->fx A w A' w'->v=.bool true/\Q .normal ((a.put (some d) (.bool true)).put (some dz) (.bool false)) w')) :
    ∀ (fuel:Nat) (listed:Array Bool) (a:Act) (w:World),md ops listed->listed.size=ops.size->listed.getD y true=false ->
      wpAny P .any ((ops.setIfInBounds y oy').setIfInBounds z oz') Qp fuel listed a w->wpAnyIn F 0 P .any ops Q fuel listed a w:=by
  simp only [vd,XQ,Bool.not_eq_true',Vx,VV,Bool.or_eq_true,QX,beq_eq_false_iff_ne,ne_eq] at hw
  obtain ⟨⟨⟨⟨⟨⟨w1,w2⟩,w3⟩,w4⟩,w5⟩,w6⟩,w7⟩:=hw
  have w1:y < ops.size:=Sv w1
  have w2:z < ops.size:=Sv w2
  have ay:oy'.after=oy.after:=by rw [ey']
  have az:oz'.after=oz.after:=by rw [ez']
  generalize hops:(ops.setIfInBounds y oy').setIfInBounds z oz'=ops'
  have hr:∀ listed,Region.ready .any ops' listed=Region.ready .any ops listed:=fun listed=>by
    have e1:=AQ (ops:=ops.setIfInBounds y oy') (y:=z) (o:=oz) (o':=oz') (by rw [Tz w3];exact hz) az listed
    rw [<- hops,e1,AQ hy ay]
  have hy':ops'[y]? = some oy':=by
    rw [<- hops,Tz (fun q=>w3 q.symm)];simp [w1]
  have hz':ops'[z]? = some oz':=by
    rw [<- hops];simp [w2]
  have ho:∀ i,i ≠ y->i ≠ z->ops'[i]? = ops[i]?:=fun i h1 h2=>by
    rw [<- hops,Tz (fun q=>h2 q.symm),Tz (fun q=>h1 q.symm)]
  have a1:∀ i o,ops[i]? = some o->jQ o=true/\o.guard=none:=fun i o hi=>by
    have hlt:=(Tj.1 hi).1
    have he:=(Tj.1 hi).2
    have:=w7 o (by rw [<- he];exact Array.getElem_mem_toList hlt)
    exact ⟨this.1,I6 this.2 (fun _=>undef)⟩
  have back:∀ (i:Nat) (o:Oper),ops[i]? = some o->∀ e ∈ o.after,e.on < i:=fun i o hi e he=>by
    have hlt:=(Tj.1 hi).1
    have:=w6 i hlt
    rw [hi] at this
    exact Sv (Array.all_eq_true'.1 this e he)
  have some_ready:∀ (listed:Array Bool),listed.size=ops.size->∀ m,listed.getD m true=false->Region.ready .any ops listed ≠ []:=fun listed hsz=>by
    intro m
    induction m using Nat.strongRecOn with
    | _ m ih =>
      intro hm h0
      have hlt:m < ops.size:=by rw [<- hsz];exact YO hm
      have hom:ops[m]? = some ops[m]:=by simp [hlt]
      by_cases q:∀ e ∈ ops[m].after,Region.binds .any e=true->listed.getD e.on false=true
      · have:m ∈ Region.ready .any ops listed:=mem_ready.2 ⟨hm,_,hom,q⟩
        rw [h0] at this;cases this
      · obtain ⟨e,he,hbe,hle⟩:∃ e,e ∈ ops[m].after/\Region.binds .any e=true/\¬ listed.getD e.on false=true:=Classical.byContradiction fun n=>q fun e he hb=>Classical.byContradiction fun z=>n ⟨e,he,hb,z⟩
        have V:=back m _ hom e he
        refine ih e.on V ?_ h0
        have:listed.getD e.on false=false:=by simpa using hle
        have h3:e.on < listed.size:=by omega
        simpa [h3] using this
  intro fuel
  induction fuel with
  | zero =>
    intro listed a w hcl hsz hun h
    have h0:=h.1
    rw [hr] at h0
    exact absurd h0 (some_ready listed hsz y hun)
  | succ fuel ih =>
    intro listed a w hcl hsz hun h
    refine ⟨fun h0=>absurd h0 (some_ready listed hsz y hun),fun i hi=>?_⟩
    obtain ⟨hiun,oi,hoi,hall⟩:=mem_ready.1 hi
    have h1:=h.2 i (by rw [hr];exact hi)
    unfold wpOp at h1
    unfold wpOpIn
    by_cases hiy:i=y
    · subst hiy
      rw [hy] at hoi;cases hoi
      have others:∀ j,j < ops.size->j ≠ i->j ≠ z->listed.getD j false=true:=fun j hj h1 h2=>by
        rcases w4 j hj with (q | q) | q
        · exact absurd q h1
        · exact absurd q h2
        · exact kJ hcl _ _ _ hy hall q
      have hznl:listed.getD z true=false:=by
        cases q:listed.getD z true with
        | false=>rfl
        | true =>
          have a0:listed.getD z false=true:=by rw [<- q];simp [hsz,w2]
          have:=kJ hcl _ _ _ hz (hcl z _ hz a0) w5
          rw [jg hun] at this;cases this
      have a2:(listed.setIfInBounds i true).size=ops.size:=by simpa using hsz
      have X:(listed.setIfInBounds i true).getD z true=false:=by rw [getD_set_ne true w3];exact hznl
      have D:∀ j,j < ops.size->j ≠ z->(listed.setIfInBounds i true).getD j false=true:=fun j hj h2=>by
        by_cases q:j=i
        · subst q;simp [hsz,w1]
        · exact getD_set_true (others j hj q h2)
      have zready:z ∈ Region.ready .any ops (listed.setIfInBounds i true):=mem_ready.2 ⟨X,_,hz,fun e he _=>D _ (Nat.lt_trans (back z _ hz e he) w2) (by have:=back z _ hz e he;omega)⟩
      have only:∀ j,j ∈ Region.ready .any ops (listed.setIfInBounds i true)->j=z:=fun j hj=>by
        obtain ⟨q1,oj,q2,_⟩:=mem_ready.1 hj
        refine Classical.byContradiction fun q=>?_
        have:=D j (Tj.1 q2).1 q
        rw [jg q1] at this;cases this
      have done:Region.ready .any ops ((listed.setIfInBounds i true).setIfInBounds z true)=[]:=by
        refine List.eq_nil_iff_forall_not_mem.2 fun j hj=>?_
        obtain ⟨q1,oj,q2,_⟩:=mem_ready.1 hj
        have hlt:=(Tj.1 q2).1
        have:((listed.setIfInBounds i true).setIfInBounds z true).getD j false=true:=by
          by_cases q:j=z
          · subst q;simp [hsz,w2]
          · exact getD_set_true (D j hlt q)
        rw [jg q1] at this;cases this
      have wy':∀ l,Region.wanted oy' l=true:=fun l=>by rw [ey',ey];rfl
      have wz':∀ l,Region.wanted oz' l=true:=fun l=>by rw [ez',ez];rfl
      have wy:∀ l,Region.wanted oy l=true:=fun l=>by rw [ey];rfl
      have wz:∀ l,Region.wanted oz l=true:=fun l=>by rw [ez];rfl
      simp only [hy',wy',if_true] at h1
      have h2:wpAny P .any ops' Qp fuel (listed.setIfInBounds i true) (a.put (some d) (.bool true)) w:=by
        rcases h1 with h1 | ⟨_,h1⟩
        · rw [ey',ey] at h1;exact h1
        · exact absurd h1 hl
      cases fuel with
      | zero=>exfalso;have:=h2.1;rw [hr] at this;rw [this] at zready;cases zready
      | succ f =>
        have h3:=h2.2 z (by rw [hr];exact zready)
        unfold wpOp at h3
        simp only [hz',wz',if_true] at h3
        have h4:wpAny P .any ops' Qp f ((listed.setIfInBounds i true).setIfInBounds z true) ((a.put (some d) (.bool true)).put (some dz) (.bool false)) w:=by
          rcases h3 with h3 | ⟨_,h3⟩
          · rw [ez',ez] at h3;exact h3
          · exact absurd h3 hl
        have h5:Qp .normal ((a.put (some d) (.bool true)).put (some dz) (.bool false)) w:=by
          cases f with
          | zero=>exact h4.2
          | succ f=>exact h4.1 (by rw [hr];exact done)
        obtain ⟨hd,A,vs,R,hv,hfo,haa,hya,hK⟩:=hQ a w h5
        simp only [hy,wy,if_true]
        rw [ey]
        refine Ya hF hfo haa hya hv fun v A' w' hv' hst hR=>?_
        obtain ⟨rfl,hq⟩:=hK v A' w' hR hv' hst
        refine ⟨fun q=>(by rw [q] at zready;cases zready),fun j hj=>?_⟩
        have:=only j hj
        subst this
        unfold wpOpIn
        simp only [hz,wz,if_true]
        rw [ez]
        have hx:(execOp (a.put (some d) (.bool true)).eval { dst:=some dz,op:=.unOp .not tz (.tmp d),type:=tz',pos:=psz,after:=afz,guard:=none }).run P w'=.ok (.value (.bool false)) w':=by
          have:=Vu (v:=.bool true) hd
          simp [execOp,this,Op.unary]
        refine ⟨fun f _=>tP hF f,?_⟩
        rw [Oper.semAt_eq _ _ _ (fun c q=>by cases q),hx]
        show wpAnyIn F 0 P .any ops Q f _ _ w'
        cases f with
        | zero=>exact ⟨done,hq⟩
        | succ f=>exact ⟨fun _=>hq,fun k hk=>by rw [done] at hk;cases hk⟩
    · have hiz:i ≠ z:=by
        rintro rfl
        have:=kJ hcl _ _ _ hz (by rw [hz] at hoi;cases hoi;exact hall) w5
        rw [jg hun] at this;cases this
      obtain ⟨g1,g2⟩:=a1 i oi hoi
      have hwt:∀ l,Region.wanted oi l=true:=fun l=>by simp [Region.wanted,g2]
      rw [ho i hiy hiz] at h1
      simp only [hoi,hwt,if_true] at h1 ⊢
      have h2:oi.wp P a w (wpAny P .any ops' Qp fuel (listed.setIfInBounds i true)) Qp:=by
        rcases h1 with h1 | ⟨_,h1⟩
        · exact h1
        · exact absurd h1 hl
      refine op_in2 hF g1 (fun ch a w q=>absurd q (hp ch a w)) hl (Oper.wp_mono (fun a' w' h3=>?_) h2)
      exact ih _ _ _ (iU hcl hi) (by simpa using hsz) (by rw [getD_set_ne true hiy];exact hun) h3
def Pq (d dz:Nat):Operand->Bool
  | .tmp t=>!(t == d) && !(t == dz)
  | _=>true
theorem AE {d dz:Nat} {x:Operand} (h:Pq d dz x=true):x ≠ .tmp d/\x ≠ .tmp dz:=by
  constructor <;> (rintro rfl;simp [Pq] at h)
theorem fw.drawnYield {Q:Exit->Fr->AH->Prop} {e:im} {ds:List Deferred} {id:Nat} {ops:Array Oper} (C:List Nat) (y z:Nat) {d dz:Nat} {fo:Operand} {aa:Array Operand} {tt:Array TypeId} {ty tz tz':TypeId} {ps psz:String} {af afz:Array Edge} {l:Nat} {oy oz:Oper} {vs:List Value} {R:Value->AH->Prop}
    (hF:zp F) (hy:ops[y]? = some oy) (hz:ops[z]? = some oz)
    (ey:oy={ dst:=some d,op:=.call { callee:=.value fo,args:=aa,argTypes:=tt },type:=ty,pos:=ps,after:=af,guard:=none })
    (ez:oz={ dst:=some dz,op:=.unOp .not tz (.tmp d),type:=tz',pos:=psz,after:=afz,guard:=none })
    (hw:vd ops y z=true) (hfd:(Pq d dz fo && aa.toList.all (Pq d dz))=true) (hdn:Nat.blt d nt=true) (hm:P.follows .mixedOrders=true)
    (hc:nW ((ops.setIfInBounds y { oy with op:=.move (.const (.bool true)) }).setIfInBounds z { oz with op:=.move (.const (.bool false)) }) (Array.replicate ops.size false) C=true) (hn:Region.noSelect ((ops.setIfInBounds y { oy with op:=.move (.const (.bool true)) }).setIfInBounds z { oz with op:=.move (.const (.bool false)) })=true) (hl:C.length=ops.size)
    (hya:mU P l vs.toArray A R)
    (h:bn P nt ((ops.setIfInBounds y { oy with op:=.move (.const (.bool true)) }).setIfInBounds z { oz with op:=.move (.const (.bool false)) })
      (fun x f A'=>x=.normal/\A'=A/\cg f.e fo=some (.func (.yield l) #[] #[])/\ki (cg f.e) aa.toList=some vs/\∀ v A2,R v A2->v=.bool true/\Q .normal f A2) (Array.replicate ops.size false) [] C ⟨e,ds⟩ A):fw P nt F (.region id ops true) Q ⟨e,ds⟩ A:=by
  intro a w ha a0
  simp only [XQ,Vx] at hfd
  obtain ⟨D,V⟩:=hfd
  have D:=AE D
  obtain ⟨v1,s1⟩:=j5 a0
  have hsz:((ops.setIfInBounds y { oy with op:=.move (.const (.bool true)) }).setIfInBounds z { oz with op:=.move (.const (.bool false)) }).size=ops.size:=by simp
  have emp:∀ (os:Array Oper),os.size=ops.size->md os (Array.replicate ops.size false):=fun os hos j o _ hj=>by
    exfalso
    rcases VY j ops.size with q | q
    · simp [q] at hj
    · simp [q] at hj
  have key:=h hc hn a _ ha v1 (fun p hp=>by cases hp) (emp _ hsz) A w s1
  rw [hl] at key
  have key:=lh _ _ _ _ key
  refine wpIn_mono (wpIn_region_any hm (any_y (l:=l) (Q:=eM nt Q A w) hF ey ez rfl rfl hy hz hw ?_ ?_ ?_ _ _ _ _ (emp _ rfl) (by simp) ?_ key)) (fun _ _ _=>eM.q)
  · rintro ⟨a,w,f',A',_,_,_,q,_⟩;exact absurd q.1 (by simp)
  · rintro ch a w ⟨f',A',_,_,_,q,_⟩;exact absurd q.1 (by simp)
  · rintro a2 w2 ⟨f',A',g1,g2,g3,⟨_,rfl,g5,g6,g7⟩,_⟩
    have a1:a2.tmps.size=nt:=by have:=g1.size;simpa [Act.put] using this
    have hd:=Sv hdn
    have hev:∀ x v,x ≠ .tmp d->x ≠ .tmp dz->cg f'.e x=some v->a2.eval x=v:=fun x v n1 n2 g=>by
      have h5:=c9 g1 g
      cases x with
      | tmp t =>
        have t1:t ≠ d:=fun q=>n1 (by rw [q])
        have t2:t ≠ dz:=fun q=>n2 (by rw [q])
        rw [<- h5]
        simp only [Act.eval,Act.put,Array.getD_eq_getD_getElem?]
        rw [Tz (Ne.symm t2),Tz (Ne.symm t1)]
      | _=>exact h5
    refine ⟨by omega,A',vs,R,g2,hev _ _ D.1 D.2 g5,?_,hya,?_⟩
    · apply Array.ext'
      simp only [Array.toList_map]
      have key:∀ (l:List Operand) (us:List Value),(∀ x ∈ l,x ≠ .tmp d/\x ≠ .tmp dz)->ki (cg f'.e) l=some us->l.map a2.eval=us:=by
        intro l
        induction l with
        | nil=>intro us _ h;simp [ki] at h;simp [h]
        | cons x l ih =>
          intro us hx h
          simp only [ki] at h
          split at h
          · rename_i v us' h1 h2
            cases h
            have:=hx x Vy
            simp [hev _ _ this.1 this.2 h1,ih _ (fun y hy=>hx y (VZ _ hy)) h2]
          · cases h
      exact key _ _ (fun x hx=>AE (V x hx)) g6
    · intro v A2 w' hR X hst
      obtain ⟨r1,r2⟩:=g7 v A2 hR
      exact ⟨r1,f',A2,g1,X,g3.trans hst,r2,fun _ q=>by cases q⟩
  · have:y < ops.size:=(Tj.1 hy).1
    simp [this]
theorem ak.drawnYield {Q:Exit->Fr->AH->Prop} {e:im} {ds:List Deferred} {id:Nat} {ops:Array Oper} (C:List Nat) (y z:Nat) {d dz:Nat} {fo:Operand} {aa:Array Operand} {tt:Array TypeId} {ty tz tz':TypeId} {ps psz:String} {af afz:Array Edge} {l:Nat} {oy oz:Oper} {vs:List Value} {R:Value->AH->Prop}
    (hy:ops[y]? = some oy) (hz:ops[z]? = some oz)
    (ey:oy={ dst:=some d,op:=.call { callee:=.value fo,args:=aa,argTypes:=tt },type:=ty,pos:=ps,after:=af,guard:=none })
    (ez:oz={ dst:=some dz,op:=.unOp .not tz (.tmp d),type:=tz',pos:=psz,after:=afz,guard:=none })
    (hw:vd ops y z=true) (hfd:(Pq d dz fo && aa.toList.all (Pq d dz))=true) (hdn:Nat.blt d nt=true) (hm:P.follows .mixedOrders=true)
    (hc:nW ((ops.setIfInBounds y { oy with op:=.move (.const (.bool true)) }).setIfInBounds z { oz with op:=.move (.const (.bool false)) }) (Array.replicate ops.size false) C=true) (hn:Region.noSelect ((ops.setIfInBounds y { oy with op:=.move (.const (.bool true)) }).setIfInBounds z { oz with op:=.move (.const (.bool false)) })=true) (hl:C.length=ops.size)
    (hya:mU P l vs.toArray A R)
    (h:bn P nt ((ops.setIfInBounds y { oy with op:=.move (.const (.bool true)) }).setIfInBounds z { oz with op:=.move (.const (.bool false)) })
      (fun x f A'=>x=.normal/\A'=A/\cg f.e fo=some (.func (.yield l) #[] #[])/\ki (cg f.e) aa.toList=some vs/\∀ v A2,R v A2->v=.bool true/\Q .normal f A2) (Array.replicate ops.size false) [] C ⟨e,ds⟩ A):ak P nt (.region id ops true) Q ⟨e,ds⟩ A :=
  fw.run (fw.drawnYield C y z lD hy hz ey ez hw hfd hdn hm hc hn hl hya h)
end
end V
namespace V
def oT (b4:Nat) (B:AH) (b:Nat):Prop:=b=b4\/∃ v cap,B.get b4=some (.row true [v] cap)/\blk v=some b
structure c8 (b4:Nat) (M C:AH):Prop where
  le:M.le C
  wf:M.wf
  ow:∀ b,oT b4 C b->M.get b=none
section
variable {b4 b k:Nat} {A B C M M':AH} {v:Value} {cap:Nat} {o:fB}
theorem oT.same (h:oT b4 C b) (e:C.get b4=B.get b4):oT b4 B b:=by
  rcases h with h | ⟨v,cap,h1,h2⟩
  · exact .inl h
  · exact .inr ⟨v,cap,e ▸ h1,h2⟩
theorem oT.val (h:oT b4 C b) (g:C.get b4=some (.row true [v] cap)):b=b4\/blk v=some b:=by
  rcases h with h | ⟨v',cap',h1,h2⟩
  · exact .inl h
  · rw [g] at h1;cases h1;exact .inr h2
theorem c8.mono (h:c8 b4 M C) (le:M'.le M) (wf:M'.wf):c8 b4 M' C:=⟨le.trans h.le,wf,fun b hb=>by
  cases q:M'.get b with
  | none=>rfl
  | some o=>rw [<- h.ow b hb,le.get b o q]⟩
theorem c8.full (g:C.get b4=some (.row true [v] cap)) (wf:C.wf):c8 b4 (C.hide [some b4,blk v]) C :=
  ⟨c6 _ _,cI wf,fun b hb=>cQ (by
    rcases hb.val g with rfl | q
    · simp
    · rw [q];simp)⟩
theorem c8.sub (h:c8 b4 M C) (g:C.get b4=some (.row true [v] cap)):M.le (C.hide [some b4,blk v]) :=
  cz h.le fun b hb=>by
    simp only [Vz,Ty,or_false,Option.some.injEq] at hb
    rcases hb with rfl | hb
    · exact h.ow _ (.inl Z)
    · exact h.ow _ (.inr ⟨v,cap,g,hb.symm⟩)
end
theorem c8.up {b4:Nat} {A B M:AH} {v:Value} {cap:Nat} (h:c8 b4 M A) (le:A.le B) (g:A.get b4=some (.row true [v] cap)):c8 b4 M B :=
  ⟨h.le.trans le,h.wf,fun b hb=>h.ow b (hb.same (by rw [g];exact le.g g))⟩
theorem uv {A B:AH} {v:Value} (le:A.le B) (h:∀ b,blk v=some b->∃ o,A.get b=some o):∀ b,blk v=some b->∃ o,B.get b=some o:=fun b hb=>let ⟨o,ho⟩:=h b hb;⟨o,le.g ho⟩
theorem kZ {b4 b:Nat} {A X:AH} {v:Value} {cap:Nat} {o:fB} (h:A.get b=some o) (g:X.get b4=some (.row true [v] cap)) (l:∀ b,blk v=some b->∃ o,X.get b=some o) (nj:X.get b=none):(A.hide [some b4,blk v]).get b=some o :=
  bX h (qY (fun q=>by rw [q,g] at nj;cases nj) (pk (fun q=>by obtain ⟨o,ho⟩:=l b q;rw [nj] at ho;cases ho) mN))
theorem tX {b4 n:Nat} {A B X:AH} {v t:Value} {cap:Nat} {xs:List Value} (h:Fresh B A t n xs) (g:X.get b4=some (.row true [v] cap)) (l:∀ b,blk v=some b->∃ o,X.get b=some o) (nj:∀ b,blk t=some b->X.get b=none):bJ (A.hide [some b4,blk v]) n t xs :=
  (h.off (bs:=[some b4,blk v]) (jG (fun q=>by have:=nj _ q;rw [g] at this;cases this) (jH (fun c hc hq=>by obtain ⟨o,ho⟩:=l c hc;rw [nj c hq] at ho;cases ho) jk)) (AH.le.refl _)).slc
structure kG (b4:Nat) (A B:AH) (Ds:List Nat):Prop where
  nd:Ds.Nodup
  lo:∀ D ∈ Ds,A.n<=D
  get:∀ D ∈ Ds,B.get D=some (.obj true (.deferred (some [])))
  ow:∀ D ∈ Ds,¬ oT b4 B D
theorem kG.nil {b4:Nat} {A B:AH}:kG b4 A B []:=⟨List.nodup_nil,(fun _ h=>by cases h),(fun _ h=>by cases h),(fun _ h=>by cases h)⟩
theorem kG.up {b4:Nat} {A B C:AH} {Ds:List Nat} {v:Value} {cap:Nat} (h:kG b4 A B Ds) (le:B.le C) (g:B.get b4=some (.row true [v] cap)):kG b4 A C Ds :=
  ⟨h.nd,h.lo,fun D hD=>le.g (h.get D hD),fun D hD q=>h.ow D hD (q.same (by rw [g];exact le.g g))⟩
theorem kG.push {b4 D:Nat} {A B C:AH} {Ds:List Nat} {v:Value} {cap:Nat} (h:kG b4 A B Ds) (g:B.get b4=some (.row true [v] cap)) (hR:c8 b4 (B.hide [some b4,blk v]) C) (wf:B.wf) (hA:A.n<=B.n) (hn:B.n<=D) (hD:C.get D=some (.obj true (.deferred (some [])))) (ho:¬ oT b4 C D):kG b4 A C (D :: Ds):=by
  have key:∀ E ∈ Ds,(B.hide [some b4,blk v]).get E=some (.obj true (.deferred (some []))):=fun E hE=>bX (h.get E hE) (qY (fun q=>h.ow E hE (.inl q)) (pk (fun q=>h.ow E hE (.inr ⟨v,cap,g,q⟩)) mN))
  refine ⟨List.nodup_cons.2 ⟨fun q=>by have:=wf _ _ (h.get D q);omega,h.nd⟩,fun E hE=>?_,fun E hE=>?_,fun E hE=>?_⟩
  · rcases Vz.1 hE with rfl | q
    · omega
    · exact h.lo E q
  · rcases Vz.1 hE with rfl | q
    · exact hD
    · exact hR.le.g (key E q)
  · rcases Vz.1 hE with rfl | q
    · exact ho
    · intro z;have:=hR.ow E z;rw [key E q] at this;cases this
theorem kG.leave {b4:Nat} {A A' B M:AH} {Ds:List Nat} {v:Value} {cap:Nat} (h:kG b4 A B Ds) (le:M.le A) (wf:A.wf) (hR:c8 b4 M B) (g:B.get b4=some (.row true [v] cap)) (hn:A'.n=B.n) (hk:∀ b o,b ∉ Ds->B.get b=some o->A'.get b=some o) :
    c8 b4 M A'/\∀ b o,(b < A.n\/oT b4 B b)->B.get b=some o->A'.get b=some o:=by
  have k2:∀ b o,(b < A.n\/oT b4 B b)->B.get b=some o->A'.get b=some o:=fun b o hb hg=>hk b o (fun q=>by
    rcases hb with hb | hb
    · have:=h.lo b q;omega
    · exact h.ow b q hb) hg
  refine ⟨⟨⟨by rw [hn];exact hR.le.n,fun b o hb=>k2 b o (.inl (wf _ _ (le.g hb))) (hR.le.g hb)⟩,hR.wf,fun b hb=>hR.ow b (hb.same ?_)⟩,k2⟩
  rw [g];exact k2 b4 _ (.inr (.inl Z)) g
section
variable {P:Program} {nt:Nat} {Q:Exit->Fr->AH->Prop} {A M:AH} {e:im} {ds:List Deferred}
theorem ak.rangeOwn {g:Operand} {gf:Nat} {lb:Array Value} {ps:Array Tmp} {assign body:Code} (b4 n:Nat) (xs:Nat->List Value) (I:Nat->AH->Prop) (e1:Nat->Nat->im) (ar:Nat->fB)
    (hg:cg e g=some (.func (.func gf) #[] lb)) (eg:f5 P gf) (hps:∀ i,(xs i).length=ps.size) (hpn:∀ p ∈ ps.toList,p < nt) (a3:b4 < A.n) (hM:c8 b4 M A)
    (hI:∀ i B B',I i B->B'.wf->B.n<=B'.n->(∀ b o,(b < A.n\/oT b4 B b)->B.get b=some o->B'.get b=some o)->I i B')
    (hv:∀ i B,I i B->∃ v cap,B.get b4=some (.row true [v] cap)/\∀ b,blk v=some b->∃ o,B.get b=some o) (h0:I 0 A)
    (hiter:∀ l (J:Nat->AH->Prop) B M,B.n=A.n + 2->A.le B->B.wf->c8 b4 M B->(∀ i C,J i C->I i C) ->
      (∀ i C C',J i C->C'.wf->C.n<=C'.n->(∀ b o,(b < B.n\/oT b4 C b)->C.get b=some o->C'.get b=some o)->J i C')->J 0 B ->
      (∀ i C M',i < n->C.wf->J i C->c8 b4 M' C->mU P l (xs i).toArray C (fun v C'=>v=.bool true/\J (i + 1) C'/\C'.wf/\c8 b4 M' C')) ->
      bH P gf (#[.func (.yield l) #[] #[]] ++ lb) B (fun _ C=>J n C/\C.wf/\c8 b4 M C))
    (hassign:∀ F i B,zp F->i < n->fw P nt F assign (yH fun f C=>∃ b6,B.n<=b6/\aj (e1 i b6) f.e/\f.ds=[]/\B.le C/\C.wf/\C.get b6=some (ar i)) ⟨D9 ps.toList (xs i) e,[]⟩ B)
    (hbody:∀ F i B b6 M',zp F->i < n->I i B->B.wf->A.n<=B.n->c8 b4 M' B->A.n<=b6->B.get b6=some (ar i)->¬ oT b4 B b6->M'.get b6=none->fw P nt F body (yH fun _ C=>I (i + 1) C/\C.wf/\c8 b4 M' C) ⟨e1 i b6,[]⟩ B)
    (hK:∀ B D,I n B->B.wf->A.n<=D->A.n<=B.n->B.get D=some (.obj true (.deferred (some [])))->¬ oT b4 B D->c8 b4 M B->Q .normal ⟨e,mark D :: ds⟩ B) :
    ak P nt (.rangeFunc g ps assign body) Q ⟨e,ds⟩ A:=by
  intro a w ha hw
  refine wpIn_wide.1 (wpIn_rangeFunc (n:=0) ?_)
  intro fn _
  rw [show Fence.wide.round=none from rfl]
  obtain ⟨rec,hrec⟩:∃ rec:LoopState->Option Code->Loop,rec=fun st pe=>{ state:=st,pending:=pe,fn,tmps:=a.tmps,params:=ps,assign,body,defers:=w.heap.size }:=⟨_,rfl⟩
  have hsz:w.heap.size=A.n:=hw.size
  have wfA:=hw.wf
  have hA:∀ b,oT b4 A b->b < A.n:=fun b hb=>by
    obtain ⟨v,cap,g1,g2⟩:=hv 0 A h0
    rcases hb.val g1 with rfl | q
    · exact a3
    · obtain ⟨o,ho⟩:=g2 b q;exact wfA _ _ ho
  obtain ⟨v1,s1⟩:=kB (o:=.obj true (.deferred (some []))) (x:=.deferred (some [])) hw ⟨rfl,fun _ _ _ q=>by cases q⟩
  obtain ⟨v2,s2⟩:=kB (o:=.obj true (.loop (rec .ready none))) (x:=.loop (rec .ready none)) v1 ⟨rfl,fun _ _ _ q=>by cases q⟩
  have hgl:((A.new (.obj true (.deferred (some [])))).new (.obj true (.loop (rec .ready none)))).get (A.n + 1)=some (.obj true (.loop (rec .ready none))):=AH.new_get_same _ _
  have hgd:((A.new (.obj true (.deferred (some [])))).new (.obj true (.loop (rec .ready none)))).get A.n=some (.obj true (.deferred (some []))):=by
    rw [AH.new_get_ne _ _ (by simp)];exact AH.new_get_same _ _
  have hkeep:∀ b,b < A.n->((A.new (.obj true (.deferred (some [])))).new (.obj true (.loop (rec .ready none)))).get b=A.get b:=fun b hb=>by
    rw [AH.new_get_ne _ _ Oi,AH.new_get_ne _ _ O]
  have hleA:A.le ((A.new (.obj true (.deferred (some [])))).new (.obj true (.loop (rec .ready none)))):=AH.le_new (AH.le_new (AH.le.refl A) wfA _) wfA _
  have hnB:((A.new (.obj true (.deferred (some [])))).new (.obj true (.loop (rec .ready none)))).n=A.n + 2:=rfl
  generalize ((A.new (.obj true (.deferred (some [])))).new (.obj true (.loop (rec .ready none))))=B0 at *
  have ad:I 0 B0:=hI 0 A _ h0 v2.wf O fun b o hb hgb=>by rw [hkeep b (wfA _ _ hgb)];exact hgb
  have aa:∀ b,oT b4 B0 b->b < A.n:=fun b hb=>hA b (hb.same (hkeep b4 a3))
  have hgev:a.eval g=.func (.func gf) #[] lb:=c9 ha hg
  -- what is kept of the loop's own blocks
  have nl:b4 ≠ A.n + 1:=by omega
  refine ⟨w.heap.size + 1,[mark w.heap.size],(w.alloc (.deferred (some []))).alloc (.loop (rec .ready none)),{ target:=.fn (.func gf) lb,args:=#[.func (.yield (w.heap.size + 1)) #[] #[]] },(w.alloc (.deferred (some []))).alloc (.loop (rec .ready none)),gf,
    #[.func (.yield (w.heap.size + 1)) #[] #[]] ++ lb,(w.alloc (.deferred (some []))).alloc (.loop (rec .ready none)),?_,?_,fun _ _=>trivial,?_,fun q=>(by cases q),?_⟩
  · rw [hrec];exact run_enterLoop_outer _ _ _ _ _
  · simp only [resolve,hgev]
    simp [go_sem]
  · have eg':=eg
    unfold f5 at eg'
    simp [invoke,go_sem,eg']
  · rw [hsz]
    have ai:c8 b4 M B0:=⟨hM.le.trans hleA,hM.wf,fun b hb=>hM.ow b (hb.same (hkeep b4 a3))⟩
    have hcall:=hiter (A.n + 1) (fun i C=>I i C/\C.get (A.n + 1)=some (.obj true (.loop (rec .ready none)))/\C.get A.n=some (.obj true (.deferred (some [])))/\¬ oT b4 C (A.n + 1)/\¬ oT b4 C A.n) B0 M hnB hleA v2.wf ai (fun i C h=>h.1)
      (fun i C C' h wf hn hk=>?_) ⟨ad,hgl,hgd,fun q=>by have:=aa _ q;omega,fun q=>by have:=aa _ q;omega⟩ ?_
    · refine (callsIn_wide.2 (hcall.2 _ v2)).mono ?_
      rintro en w' ⟨A',hv',hs',v,rfl,⟨⟨hIn,hgl',hgd',X,a0⟩,hwf',hM'⟩⟩
      obtain ⟨q1,_⟩:=hv'.obj hgl'
      obtain ⟨v3,s3⟩:=nF P (y:=.loop { rec .ready none with state:=.exhausted }) hv' hgl' (fun _ _ _ q=>by cases q)
      refine ⟨none,w'.putObj (A.n + 1) (.loop { rec .ready none with state:=.exhausted }),by
        have h7:=run_endLoop (P:=P) q1 (by rw [hrec];simp)
        have h8:(rec .ready none).pending=none:=by rw [hrec]
        exact h7.trans (Xk (fun j=>Result.ok j _) h8),?_⟩
      have hl':=hwf' _ _ hgl'
      refine ⟨⟨e,mark A.n :: ds⟩,_,⟨ha.size,ha.slot,by show [mark _] ++ a.defers=_;rw [ha.ds];rfl⟩,v3,((s1.trans s2).trans hs').trans s3,?_,fun _ q=>by cases q⟩
      have hset:∀ b,b ≠ A.n + 1->(A'.set (A.n + 1) (.obj true (.loop { rec .ready none with state:=.exhausted }))).get b=A'.get b:=fun b hb=>AH.set_get_ne _ _ hb
      refine hK _ A.n (hI n A' _ hIn v3.wf (XV _) fun b o hb hgb=>?_) v3.wf (XV _) Oi ?_ ?_ ⟨⟨hM'.le.n,fun b o hb=>?_⟩,hM'.wf,fun b hb=>hM'.ow b (hb.same (hset b4 nl))⟩
      · rw [hset];exact hgb
        rintro rfl
        rcases hb with hb | hb
        · omega
        · exact X hb
      · rw [hset _ O];exact hgd'
      · exact fun q=>a0 (q.same (hset b4 nl))
      · have h1:=hM.le.get b o hb
        have h2:=wfA _ _ h1
        rw [hset _ O];exact hM'.le.get b o hb
    · obtain ⟨hIC,g1,g2,X,a0⟩:=h
      obtain ⟨v,cap,hr,_⟩:=hv i C hIC
      have e4:C'.get b4=C.get b4:=by rw [hr];exact hk b4 _ (.inr (.inl Z)) hr
      exact ⟨hI i C C' hIC wf hn (fun b o hb hgb=>hk b o (hb.imp (fun q=>by omega) id) hgb),hk _ _ (.inl O) g1,hk _ _ (.inl O) g2,fun q=>X (q.same e4),fun q=>a0 (q.same e4)⟩
    · rintro i C M' hi hwfC ⟨hIC,hgl',hgd',X,a0⟩ hMC w' hv'
      obtain ⟨q1,_⟩:=hv'.obj hgl'
      have hy:=run_yield (P:=P) (args:=(xs i).toArray) q1 (by rw [hrec];simpa using hps i)
      refine ⟨fn,_,assign,body,(by rw [hrec] at hy;exact hy),roundIn_of_wpIn trivial ?_⟩
      have hact:dC nt ⟨D9 ps.toList (xs i) e,[]⟩ { tmps:=(ps.zip (xs i).toArray).foldl (fun t p=>t.setIfInBounds p.1 p.2) a.tmps,defers:=[] }:=by
        have:=vO (nt:=nt) (ps.toList.zip (xs i)) e a.tmps (fun p hp=>hpn _ (List.of_mem_zip hp).1) ⟨ha.size,ha.slot,rfl⟩
        rw [<- Array.foldl_toList,Array.toList_zip]
        exact this
      have av:=hassign (FR (A.n + 1)) i C (sy _) hi _ w' hact hv'
      refine wpIn_mono av ?_
      rintro x a1 w1 ⟨f1,C1,h1,h2,h3,h4,h5⟩
      cases x <;> (try exact h4.elim)
      obtain ⟨b6,aA,hE,hds,hleC,ay,ap⟩:=h4
      obtain ⟨fe,fds⟩:=f1
      simp only at hE hds
      subst hds
      obtain ⟨vC,capC,gC,lC⟩:=hv i C hIC
      have owC:∀ b,oT b4 C b->b < C.n:=fun b hb=>by
        rcases hb.val gC with rfl | q
        · exact hwfC _ _ gC
        · obtain ⟨o,ho⟩:=lC b q;exact hwfC _ _ ho
      have ac:C1.get b4=C.get b4:=by rw [gC];exact hleC.get _ _ gC
      have a4:=hleC.get _ _ hgl'
      have ab:=hleC.get _ _ hgd'
      obtain ⟨q2,_⟩:=h2.obj a4
      obtain ⟨v4,s4⟩:=nF P (y:=.loop { rec .ready none with state:=.busy }) h2 a4 (fun _ _ _ q=>by cases q)
      refine ⟨_,run_beginRound q2 (by rw [hrec]),?_⟩
      have hl':=hwfC _ _ hgl'
      have hd':=hwfC _ _ hgd'
      have hnC:=hleC.n
      have hset:∀ b,b ≠ A.n + 1->(C1.set (A.n + 1) (.obj true (.loop { rec .ready none with state:=.busy }))).get b=C1.get b:=fun b hb=>AH.set_get_ne _ _ hb
      have hsetl:(C1.set (A.n + 1) (.obj true (.loop { rec .ready none with state:=.busy }))).get (A.n + 1)=some (.obj true (.loop { rec .ready none with state:=.busy })):=AH.set_get_same _ _ _
      have hsetn:(C1.set (A.n + 1) (.obj true (.loop { rec .ready none with state:=.busy }))).n=C1.n:=rfl
      generalize C1.set (A.n + 1) (.obj true (.loop { rec .ready none with state:=.busy }))=B1 at *
      have hIB:I i B1:=hI i C _ hIC v4.wf O fun b o hb hgb=>by
        rw [hset];exact hleC.get _ _ hgb
        rintro rfl
        rcases hb with hb | hb
        · omega
        · exact X hb
      have a8:∀ b,oT b4 B1 b->oT b4 C b:=fun b hb=>(hb.same (hset b4 nl)).same ac
      have hMs:c8 b4 ⟨C.n,fun b=>if b=A.n + 1 then some (.obj true (.loop { rec .ready none with state:=.busy })) else if b=A.n then some (.obj true (.deferred (some []))) else M'.get b⟩ B1:=by
        refine ⟨⟨by show C.n<=B1.n;omega,fun b o hb=>?_⟩,fun b o hb=>?_,fun b hb=>?_⟩
        · simp only at hb
          split at hb
          · rename_i q;subst q;rw [hsetl];exact hb
          · rename_i q
            rw [hset b q]
            split at hb
            · rename_i q2;subst q2;rw [ab];exact hb
            · exact hleC.get _ _ (hMC.le.get b o hb)
        · simp only at hb
          split at hb
          · show b < C.n;omega
          · split at hb
            · show b < C.n;omega
            · exact hwfC b o (hMC.le.get b o hb)
        · have h6:=a8 b hb
          simp only
          rw [Xy (fun q:b=A.n + 1=>X (q ▸ h6)),Xy (fun q:b=A.n=>a0 (q ▸ h6))]
          exact hMC.ow b h6
      have hb:=hbody (FR (A.n + 1)) i B1 b6 _ (sy _) hi hIB v4.wf O hMs O (by rw [hset _ O];exact ap) (fun q=>by have:=owC _ (a8 _ q);omega) (by
        simp only
        rw [Xy O,Xy O]
        cases q:M'.get b6 with
        | none=>rfl
        | some o=>have:=hwfC _ _ (hMC.le.get _ _ q);omega)
      refine wpIn_mono (hb _ _ (dC.le h1 hE) v4) ?_
      rintro x a2 w2 ⟨f2,A2,g1,g2,g3,g4,g5⟩
      cases x <;> (try exact g4.elim)
      obtain ⟨ag,az,V⟩:=g4
      have a7:A2.get (A.n + 1)=some (.obj true (.loop { rec .ready none with state:=.busy })):=V.le.get _ _ (XX Z)
      have a6:A2.get A.n=some (.obj true (.deferred (some []))):=V.le.get _ _ (by simp [show ¬ A.n=A.n + 1 by omega])
      have a5:¬ oT b4 A2 (A.n + 1):=fun q=>by have:=V.ow _ q;simp only [if_true] at this;cases this
      have a9:¬ oT b4 A2 A.n:=fun q=>by have:=V.ow _ q;simp [show ¬ A.n=A.n + 1 by omega] at this
      obtain ⟨q3,_⟩:=g2.obj a7
      obtain ⟨v5,s5⟩:=nF P (y:=.loop { ({ rec .ready none with state:=.busy }:Loop) with state:=.ready,pending:=none }) g2 a7 (fun _ _ _ q=>by cases q)
      refine ⟨_,_,run_endRound (P:=P) none q3,_,_,Z,v5,((h3.trans s4).trans g3).trans s5,Z,⟨?_,?_,?_,?_,?_⟩,v5.wf,?_⟩
      · exact hI (i + 1) A2 _ ag v5.wf (XV _) fun b o hb hgb=>by
          rw [AH.set_get_ne];exact hgb
          rintro rfl
          rcases hb with hb | hb
          · omega
          · exact a5 hb
      · rw [AH.set_get_same,hrec]
      · rw [AH.set_get_ne _ _ O];exact a6
      · exact fun q=>a5 (q.same (AH.set_get_ne _ _ nl))
      · exact fun q=>a9 (q.same (AH.set_get_ne _ _ nl))
      · refine ⟨⟨Xj hMC.le.n (by have:=V.le.n;exact this),fun b o hb=>?_⟩,hMC.wf,fun b hb=>?_⟩
        · by_cases q:b=A.n + 1
          · subst q
            have h6:=hMC.le.get _ _ hb
            rw [hgl'] at h6
            rw [AH.set_get_same,<- h6,hrec]
          · rw [AH.set_get_ne _ _ q]
            by_cases q2:b=A.n
            · subst q2;rw [a6,<- hMC.le.get _ _ hb,hgd']
            · exact V.le.get b o (by simp only;rw [Xy q,Xy q2];exact hb)
        · have h6:oT b4 A2 b:=hb.same (AH.set_get_ne _ _ nl)
          have h7:=V.ow b h6
          simp only at h7
          rw [Xy (fun q:b=A.n + 1=>a5 (q ▸ h6)),Xy (fun q:b=A.n=>a9 (q ▸ h6))] at h7
          exact h7
end
end V
section
variable {α:Type} {f:α->List Value} {n:Nat} {z:α}
theorem tC (hf:∀ a,(f a).length=n) (l:List α):(l.flatMap f).length=l.length * n:=by
  induction l with
  | nil=>simp
  | cons a l ih=>rw [Sw,Xx,ih,hf,Xq,SW];omega
theorem TN (hf:∀ a,(f a).length=n) (l:List α) (i:Nat):(l.flatMap f).drop (i * n)=(l.drop i).flatMap f:=by
  induction l generalizing i with
  | nil=>simp
  | cons a l ih =>
    cases i with
    | zero=>simp
    | succ i =>
      rw [Sw,show (i + 1) * n=(f a).length + i * n by rw [hf,SW];omega,<- List.drop_drop,RY]
      exact ih i
theorem CX (hf:∀ a,(f a).length=n) {l:List α} {i:Nat} (h:i < l.length):((l.flatMap f).drop (i * n)).take n=f (l.getD i z):=by
  rw [TN hf,Tq h]
  have e:l.getD i z=l[i]:=by simp [h]
  rw [e,Sw]
  exact List.take_left' (hf _)
theorem xc (hf:∀ a,(f a).length=n) {l:List α} {i k:Nat} (h:i < l.length) (hk:k < n):(l.flatMap f)[i * n + k]? = (f (l.getD i z))[k]?:=by
  rw [<- CX hf h,SX hk,RV]
theorem YN (hf:∀ a,lG (f a)=true) (l:List α):lG (l.flatMap f)=true:=by
  simp only [lG,Vx] at hf ⊢
  intro v hv
  obtain ⟨a,_,h2⟩:=Qv.1 hv
  exact hf a v h2
end
abbrev Wd:=W8
def BK (s:Wd × Wd):List Value:=[ax s.1,ax s.2]
def iJ (l:List (Wd × Wd)):List Value:=l.flatMap BK
theorem er (l:List (Wd × Wd)):(iJ l).length=l.length * 2:=tC (f:=BK) (n:=2) (fun _=>rfl) l
theorem ug (l:List (Wd × Wd)):(iJ l).length=l.length * 2:=er l
theorem th (a b:List (Wd × Wd)):iJ a ++ iJ b=iJ (a ++ b):=by simp [iJ]
theorem QL {l:List (Wd × Wd)} {i:Nat} (h:i < l.length):((iJ l).drop (i * 2)).take 2=BK (l.getD i ([],[])):=CX (f:=BK) (n:=2) (fun _=>rfl) h
theorem BQ {l:List (Wd × Wd)} {i:Nat} (h:i < l.length):(iJ l)[i * 2 + 0]? = some (ax (l.getD i ([],[])).1):=xc (f:=BK) (n:=2) (fun _=>rfl) h U
theorem sG {l:List (Wd × Wd)} {i:Nat} (h:i < l.length):(iJ l)[i * 2 + 1]? = some (ax (l.getD i ([],[])).2):=xc (f:=BK) (n:=2) (fun _=>rfl) h U
structure Sd where
  n:Int
  left:Wd
  right:Wd
def Sd.zero:Sd:=⟨0,[],[]⟩
def sd (s:Sd):List Value:=[num s.n,ax s.left,ax s.right]
def IK (l:List Sd):List Value:=l.flatMap sd
theorem jV (l:List Sd):(IK l).length=l.length * 3:=tC (f:=sd) (n:=3) (fun _=>rfl) l
theorem Ng (l:List Sd):(IK l).length=l.length * 3:=jV l
theorem za (a b:List Sd):IK a ++ IK b=IK (a ++ b):=by simp [IK]
theorem Xc {l:List Sd} {i:Nat} (h:i < l.length):((IK l).drop (i * 3)).take 3=sd (l.getD i .zero):=CX (f:=sd) (n:=3) (fun _=>rfl) h
structure CP where
  i:Int
  j:Int
  word:Wd
  u:Wd
  v:Wd
deriving DecidableEq
def CP.zero:CP:=⟨0,0,[],[],[]⟩
def cp (c:CP):List Value:=[num c.i,num c.j,ax c.word,ax c.u,ax c.v]
abbrev YF (c:CP):Value:=.agg #[num c.i,num c.j,ax c.word,ax c.u,ax c.v]
def sW (l:List CP):List Value:=l.flatMap cp
theorem e8 (l:List CP):(sW l).length=l.length * 5:=tC (f:=cp) (n:=5) (fun _=>rfl) l
theorem wW (l:List CP):(sW l).length=l.length * 5:=e8 l
theorem pY (a b:List CP):sW a ++ sW b=sW (a ++ b):=by simp [sW]
theorem S7 {l:List CP} {i:Nat} (h:i < l.length):((sW l).drop (i * 5)).take 5=cp (l.getD i .zero):=CX (f:=cp) (n:=5) (fun _=>rfl) h
theorem S8 {l:List CP} {i:Nat} (h:i < l.length):(sW l)[i * 5 + 3]? = some (ax (l.getD i .zero).u):=xc (f:=cp) (n:=5) (fun _=>rfl) h U
theorem S9 {l:List CP} {i:Nat} (h:i < l.length):(sW l)[i * 5 + 4]? = some (ax (l.getD i .zero).v):=xc (f:=cp) (n:=5) (fun _=>rfl) h U
theorem YE (l:List CP):lG (sW l)=true:=YN (f:=cp) (fun _=>rfl) l
def Ru (x:Nat):Wd:=[bW.getD x 0,bW.getD (x ^^^ 1) 0]
def aO (g:Int) (rs:List an):List (Wd × Wd):=rs.map (fun r=>(r.left,r.right)) ++ (List.range (2 * g.toNat)).map fun x=>(Ru x,[])
def nm (n i:Nat):Int:=if i < n then (i:Int) else -1 - ((i:Int) - (n:Int))
def p1 (u v:Wd) (k:Nat):Bool:=decide (1<=k) && decide (u.length - k < v.length) && decide (u.drop k=v.take (u.length - k))
def p2 (u v:Wd) (k:Nat):Bool:=decide (k + v.length<=u.length) && decide ((u.take (k + v.length)).drop k=v)
abbrev c1 (I J:Int) (a b:Wd × Wd) (k:Nat):CP:=⟨I,J,a.1 ++ b.1.drop (a.1.length - k),a.2 ++ b.1.drop (a.1.length - k),a.1.take k ++ b.2⟩
abbrev c2 (I J:Int) (a b:Wd × Wd) (k:Nat):CP:=⟨I,J,a.1,a.2,a.1.take k ++ b.2 ++ a.1.drop (k + b.1.length)⟩
def oc (I J:Int) (a b:Wd × Wd) (n:Nat):List CP:=((List.range n).filter (p1 a.1 b.1)).map (c1 I J a b)
def si (I J:Int) (a b:Wd × Wd) (n:Nat):List CP:=((List.range n).filter (p2 a.1 b.1)).map (c2 I J a b)
def jR (I J:Int) (same:Bool) (a b:Wd × Wd):List CP:=oc I J a b a.1.length ++ if same then [] else si I J a b (a.1.length + 1)
theorem Ky {rs:List an} {i:Nat} (h:i < rs.length):(rs.take i).map (fun r=>(r.left,r.right)) ++ [((rs.getD i .zero).left,(rs.getD i .zero).right)]=(rs.take (i + 1)).map (fun r=>(r.left,r.right)):=by
  have e:rs.getD i .zero=rs[i]:=by simp [h]
  rw [List.take_succ_eq_append_getElem h,VJ,e];rfl
theorem sJ {x:Nat} (h:x < 16):x ^^^ 1 < 16:=by
  have:∀ a:Fin 16,a.1 ^^^ 1 < 16:=by decide
  exact this ⟨x,h⟩
theorem UG {x:Nat} (h:x < 16):([ed 97,ed 65,ed 98,ed 66,ed 99,ed 67,ed 100,ed 68,ed 101,ed 69,ed 102,ed 70,ed 103,ed 71,ed 104,ed 72]:List Value)[0 + x * 1]? = some (ed (bW.getD x 0)):=by
  rw [Qq,TK]
  have:∀ a:Fin 16,([97,65,98,66,99,67,100,68,101,69,102,70,103,71,104,72]:W8)[a.1]? = some (bW.getD a.1 0):=by decide
  have h2:=Xk (Option.map ed) (this ⟨x,h⟩)
  rw [<- List.getElem?_map] at h2
  exact h2
section
variable {I J:Int} {a b:Wd × Wd} {n k:Nat} {same:Bool}
theorem rz:oc I J a b (n + 1)=if p1 a.1 b.1 n then oc I J a b n ++ [c1 I J a b n] else oc I J a b n:=by
  unfold oc
  rw [SJ,List.filter_append,VJ]
  by_cases h:p1 a.1 b.1 n=true <;> simp [h]
theorem pc:si I J a b (n + 1)=if p2 a.1 b.1 n then si I J a b n ++ [c2 I J a b n] else si I J a b n:=by
  unfold si
  rw [SJ,List.filter_append,VJ]
  by_cases h:p2 a.1 b.1 n=true <;> simp [h]
theorem Vf (h:n<=k):oc I J a b n <+: oc I J a b k:=by
  induction k with
  | zero => obtain rfl : n = 0 := by omega
            exact Sj _
  | succ k ih =>
    rcases VY k n with q | q
    · obtain rfl:n=k + 1:=by omega
      exact Sj _
    · refine (ih q).trans ?_
      rw [rz];split
      · exact Rw _ _
      · exact Sj _
theorem Uf (h:n<=k):si I J a b n <+: si I J a b k:=by
  induction k with
  | zero => obtain rfl : n = 0 := by omega
            exact Sj _
  | succ k ih =>
    rcases VY k n with q | q
    · obtain rfl:n=k + 1:=by omega
      exact Sj _
    · refine (ih q).trans ?_
      rw [pc];split
      · exact Rw _ _
      · exact Sj _
theorem rE {α:Type} {p q l:List α} {x z:α} (h:p ++ [x] <+: l):p.length < l.length/\l.getD p.length z=x:=by
  obtain ⟨t,rfl⟩:=h
  simp
theorem Zt (h1:1<=n) (hn:n < a.1.length) (h2:a.1.length - n < b.1.length) (h3:a.1.drop n=b.1.take (a.1.length - n)) :
    (oc I J a b n).length < (jR I J same a b).length/\(jR I J same a b).getD (oc I J a b n).length .zero=c1 I J a b n/\(oc I J a b (n + 1)).length=(oc I J a b n).length + 1:=by
  have hp:p1 a.1 b.1 n=true:=by simp [p1,h1,h2,h3]
  have e:oc I J a b (n + 1)=oc I J a b n ++ [c1 I J a b n]:=by rw [rz,XX hp]
  have hq:oc I J a b n ++ [c1 I J a b n] <+: jR I J same a b:=e ▸ (Vf O).trans (Rw _ _)
  exact ⟨(rE (z:=CP.zero) (q:=[]) hq).1,(rE (q:=[]) hq).2,by rw [e];simp⟩
theorem J0 (h:¬ (1<=n/\a.1.length - n < b.1.length/\a.1.drop n=b.1.take (a.1.length - n))):(oc I J a b (n + 1)).length=(oc I J a b n).length:=by
  rw [rz,Xy]
  simp only [p1,XQ,Xw]
  exact fun q=>h ⟨q.1.1,q.1.2,q.2⟩
theorem YU (hs:same=false) (hn:n + b.1.length<=a.1.length) (h3:(a.1.take (n + b.1.length)).drop n=b.1) :
    (oc I J a b a.1.length).length + (si I J a b n).length < (jR I J same a b).length/\(jR I J same a b).getD ((oc I J a b a.1.length).length + (si I J a b n).length) .zero=c2 I J a b n/\(si I J a b (n + 1)).length=(si I J a b n).length + 1:=by
  have hp:p2 a.1 b.1 n=true:=by simp [p2,hn,h3]
  have e:si I J a b (n + 1)=si I J a b n ++ [c2 I J a b n]:=by rw [pc,XX hp]
  have hq:(oc I J a b a.1.length ++ si I J a b n) ++ [c2 I J a b n] <+: jR I J same a b:=by
    unfold jR
    rw [hs,XY,<- e]
    exact (List.prefix_append_right_inj _).2 (Uf O)
  have:=rE (z:=CP.zero) (q:=[]) hq
  rw [Xx] at this
  exact ⟨this.1,this.2,by rw [e];simp⟩
theorem inc_no (h:¬ (a.1.take (n + b.1.length)).drop n=b.1):(si I J a b (n + 1)).length=(si I J a b n).length:=by
  rw [pc,Xy]
  simp only [p2,XQ,Xw]
  exact fun q=>h q.2
theorem YR (h:¬ n + b.1.length<=a.1.length) (hk:n<=k):si I J a b k=si I J a b n:=by
  induction k with
  | zero => obtain rfl : n = 0 := by omega
            rfl
  | succ k ih =>
    rcases VY k n with q | q
    · obtain rfl:n=k + 1:=by omega
      rfl
    · rw [pc,Xy,ih q]
      simp only [p2,XQ,Xw]
      exact fun q=>by omega
theorem NH (hs:same=true):(jR I J same a b).length=(oc I J a b a.1.length).length:=by simp [jR,hs]
theorem Sc (hs:same=false) (h:¬ n + b.1.length<=a.1.length) (hn:n<=a.1.length + 1):(jR I J same a b).length=(oc I J a b a.1.length).length + (si I J a b n).length:=by
  rw [jR,hs,Xx,Xy (by simp),YR h hn]
theorem AL:(oc I J a b 1).length=0:=by
  rw [J0 O];rfl
end
def ren (I J:Int) (c:CP):CP:=⟨I,J,c.word,c.u,c.v⟩
abbrev i0 (L:List (Wd × Wd)) (i j:Nat):List CP:=jR (i:Int) (j:Int) (decide (i=j)) (L.getD i ([],[])) (L.getD j ([],[]))
def qz (n:Nat) (L:List (Wd × Wd)) (i j:Nat):List CP:=if n<=i/\n<=j then [] else (i0 L i j).map (ren (nm n i) (nm n j))
def zB (n:Nat) (L:List (Wd × Wd)) (i k:Nat):List CP:=(List.range k).flatMap (qz n L i)
def uj (n:Nat) (L:List (Wd × Wd)) (i j:Nat):List CP:=((List.range i).flatMap fun i=>zB n L i L.length) ++ zB n L i j
def jA (n:Nat) (L:List (Wd × Wd)):List CP:=(List.range L.length).flatMap fun i=>zB n L i L.length
def aM (g:Int) (rs:List an):List CP:=jA rs.length (aO g rs)
theorem jq (g:Int) (rs:List an):(aO g rs).length=rs.length + 2 * g.toNat:=by simp [aO]
theorem sH {g:Int} {rs:List an} (hg:1<=g/\g<=8) (hw:∀ r ∈ rs,0 < r.left.length/\r.left.length<=1000/\r.right.length<=1000):∀ s ∈ aO g rs,0 < s.1.length/\s.1.length<=100000/\s.2.length<=100000:=fun s hs=>by
  rcases Vw.1 hs with h | h
  · obtain ⟨r,hr,rfl⟩:=Vj.1 h
    have:=hw r hr
    exact ⟨this.1,by show r.left.length<=_;omega,by show r.right.length<=_;omega⟩
  · obtain ⟨x,hx,rfl⟩:=Vj.1 h
    exact ⟨Nat.zero_lt_succ _,by show (2:Nat)<=100000;omega,by show (0:Nat)<=100000;omega⟩
theorem GH {bo:Nat} {A B N:AH} {v:Value} {cap:Nat} (r:c8 bo N B) (gY:B.get bo=some (.row true [v] cap)) (gZ:A.get bo=some (.row true [v] cap)):∀ b,some b ∈ [some bo,blk v]->N.get b=none:=fun b hb=>by
  simp only [Vz,Ty,or_false,Option.some.injEq] at hb
  rcases hb with rfl | hb
  · exact r.ow _ (.inl Z)
  · exact r.ow _ (.inr ⟨_,_,gY,hb.symm⟩)
theorem gz {α:Type} {l:List α} {i:Nat} {z:α} (h:i < l.length):l.take i ++ [l.getD i z]=l.take (i + 1):=by
  have e:l.getD i z=l[i]:=by simp [h]
  rw [List.take_succ_eq_append_getElem h,e]
section
variable {n i j k:Nat} {L:List (Wd × Wd)}
theorem un:uj n L i (j + 1)=uj n L i j ++ qz n L i j:=by simp [uj,zB,SJ]
theorem Cn:uj n L (i + 1) 0=uj n L i L.length:=by simp [uj,zB,SJ]
theorem Jg:uj n L L.length 0=jA n L:=by simp [uj,zB,jA]
theorem EK (h:j<=k):uj n L i j <+: uj n L i k:=by
  induction k with
  | zero => obtain rfl : j = 0 := by omega
            exact Sj _
  | succ k ih =>
    rcases VY k j with q | q
    · obtain rfl:j=k + 1:=by omega
      exact Sj _
    · rw [un];exact (ih q).trans (Rw _ _)
theorem RH (h:i<=k):uj n L i 0 <+: uj n L k 0:=by
  induction k with
  | zero => obtain rfl : i = 0 := by omega
            exact Sj _
  | succ k ih =>
    rcases VY k i with q | q
    · obtain rfl:i=k + 1:=by omega
      exact Sj _
    · rw [Cn];exact (ih q).trans (EK (XK _))
theorem zK (hi:i < L.length) (hj:j<=L.length):uj n L i j <+: jA n L:=by
  rw [<- Jg]
  refine (EK hj).trans ?_
  rw [<- Cn]
  exact RH hi
theorem Ye (h:n<=i/\n<=j):(uj n L i (j + 1)).length=(uj n L i j).length:=by rw [un,qz,XX h,Sk]
theorem PL_len (h:¬ (n<=i/\n<=j)):(uj n L i (j + 1)).length=(uj n L i j).length + (i0 L i j).length:=by
  rw [un,qz,Xy h,Xx,TX]
theorem PL_get (hi:i < L.length) (hj:j < L.length) (h:¬ (n<=i/\n<=j)) (hk:k < (i0 L i j).length) :
    (uj n L i j).length + k < (jA n L).length/\(jA n L).getD ((uj n L i j).length + k) .zero=ren (nm n i) (nm n j) ((i0 L i j).getD k .zero):=by
  obtain ⟨t,ht⟩:=zK (n:=n) (j:=j + 1) hi hj
  rw [un,qz,Xy h] at ht
  rw [<- ht]
  refine ⟨by simp only [Xx,TX];omega,?_⟩
  rw [XY]
  simp only [Vq]
  rw [TZ O,Nat.add_sub_cancel_left,Tv (by simpa using hk),List.getElem?_map,SQ hk]
  rfl
end
theorem zM:ef prog 121=some false:=by kernel_rfl
theorem Uh:prog.info? 123=some Tryz.t123:=by kernel_rfl
theorem vI:dQ prog 47=some [(0,1),(1,1),(2,1),(3,1),(4,1)]:=by kernel_rfl
theorem pB:dY prog 123=some 2:=by kernel_rfl
theorem s7:type_of% @underlying121:=@underlying121
theorem Eu:type_of% @underlying123:=@underlying123
theorem QY:type_of% @underlying47:=@underlying47
theorem Lg:c5 prog 123=some (.agg #[.string ⟨⟨[]⟩⟩,.string ⟨⟨[]⟩⟩]):=by kernel_rfl
theorem tk:c5 prog 47=some (.agg #[.int .i64 0,.int .i64 0,.string ⟨⟨[]⟩⟩,.string ⟨⟨[]⟩⟩,.string ⟨⟨[]⟩⟩]):=by kernel_rfl
theorem IA (x:Nat) (A:AH) (hL:ib A) (hx:x < 16):bH prog 114 #[num ((x:Nat):Int)] A (fun v A1=>v=ed (bW.getD x 0)/\A=A1):=by
 refine bi (e:=[(0,num ((x:Nat):Int))]) (args:=[num ((x:Nat):Int)]) call114 func114 Z results114 ntmps114 Z Z Z (fun wf=>?_);have X:=AH.le.refl A;obtain ⟨rwL,capL,gL⟩:=hL;refine ak.sq fun h2=>.region<|.I Z<|.nil<|h2<|.sq fun h4=>.sq fun h6=>.region<|.J Z<|.p (ca (b:=0) Z Z) ?_;refine Ops.J Z<|.part (t:=5) Z (fun p7=>?_) (fun p7=>?_)
 ·refine Ops.off Z Z Z Z<|.off Z Z Z Z<|.p (aL Z Z)<|.nil<|h6<|.cond_true Z<|.sq fun h9=>.region<|.I Z<|.nil ?_;refine h9<|.rt (by exact aH Z (⟨by (exfalso;omega),Z⟩))
 refine Ops.on Z Z<|.J Z<|.on Z Z<|.p (yA (b:=16) Z Z)<|.p (bh Z Z)<|.nil<|h6<|.if rfl (fun V=>?_) (fun V=>?_)
 ·refine ak.sq fun h=>.region<|.I Z<|.nil<|h<|.rt (by exact aH Z (⟨by (exfalso;omega),Z⟩))
 refine ak.skip<|h4<|.sq fun D=>.region<|.J Z<|.p (jI u172 j0 Z Z O)<|.p (ah NF Z Z gL (UG hx))<|.I Z<|.nil<|D ?_;refine ak.ret ?_;repeat first | with_reducible refine cR ?_ | with_reducible refine cr ?_
 exact aH Z (⟨by rfl,Z⟩)
theorem M9 (g:Int) (u:Value) (l:List W8) (rv:Value) (rs:List an) (A:AH) (hg:1<=g/\g<=8) (hn:rs.length<=1000000) (hL:ib A) (hu:bJ A 1 u (dN l)) (hr:bJ A 3 rv (cd rs)) (hp:Proofs A rs):bH prog 76 #[.agg #[num (g),u,rv]] A (fun v A1=>A.le A1/\A1.wf/\Fresh A A1 v 2 (iJ (aO g rs))):=by
 refine bi (e:=[(0,.agg #[num (g),u,rv])]) (args:=[.agg #[num (g),u,rv]]) call76 func76 Z results76 ntmps76 Z Z Z (fun wf=>?_);have bB:=AH.le.refl A;obtain ⟨gn,rfl⟩:∃ n:Nat,g=n:=⟨g.toNat,by omega⟩;refine ak.sq fun h2=>.region<|.m (fun bv=>d8 wf rfl rfl fun A5 b4 ai=>?_);have aB:=bB.trans ai.le;refine bv<|.I Z<|.nil<|h2<|.sq fun h9=>.region<|.I Z<|.nil<|h9<|.sq fun b6=>?_;refine ak.sq fun b7=>.region<|.p (ae cW fp U Z)<|.p (ah ga Z Z ai.get Z)<|.p (bE (n:=rs.length) i4 Z (hr.le aB) O (cL _))<|.J Z<|.nil<|b7<|.block<|.loop (X:=Nat × List (Wd × Wd) × Value) (fun ⟨i,o,s⟩=>[(1,.pointer (some ⟨b4,0,none⟩)),(3,s),(8,rv),(9,num ((rs.length:Nat):Int)),(10,num ((i:Nat):Int))]) (fun ⟨i,o,s⟩ B=>(i<=rs.length/\o=(rs.take i).map (fun r=>(r.left,r.right)))/\A.le B/\Fresh A B s 2 (iJ o)/\B.get b4=some (.row true [num ((gn:Nat):Int),u,rv] 3)/\V.blk s ≠ some b4) (fun ⟨i,o,s⟩=>rs.length - i) (⟨0,[],.slice none 0 0⟩) (sY Z Z Z Z Z) (⟨⟨XK _,by simp⟩,aB,(Fresh.nil A A5 2),ai.get,(fun q=>by cases q)⟩) ?_;rintro ⟨i,o,s⟩ B15 ⟨⟨hi,ho⟩,a6,a3,a1,a2⟩;refine ak.wf fun ab=>?_;have hlo:o.length=i:=by rw [ho];simp;omega
 refine ak.sq fun b8=>.region<|.p (ca Z Z)<|.nil<|b8<|.sq fun b9=>.if rfl (fun bC=>?_) (fun bC=>?_)
 ·refine ak.skip<|b9<|.sq fun ba=>.block<|.sq fun bb=>.region ?_;obtain ⟨bR,bY,bP,c7,bO,c4,c3,b3,bA,b5,aC,bM⟩:=bJ.at (i:=i) (hr.le a6) O3 O;refine Ops.p (au i4 eE Z b3 Z bA)<|.p (am uo eE Z Z b5 (aC.trans (Xk some (iI O))))<|.m (fun aG=>bZ ab wJ rfl fun A29 bS D=>?_);refine aG<|.m (fun aI=>aW (cs:=[ax ((rs.getD i .zero).left),ax ((rs.getD i .zero).right),(rs.getD i .zero).pv]) (c':=[ax ((rs.getD i .zero).left),ax ((rs.getD i .zero).right),(rs.getD i .zero).pv]) D.wf rfl rfl rfl rfl eE D.get G (jm (hp.get O)) rfl fun A36 a0=>?_);have aD:=(a3.le D.le).keep a0.keep (a3.own.ne_new ab D.lo);refine aI<|.nil<|bb<|.region<|.J Z<|.p (ae ew ek U Z)<|.p (ah eJ Z Z a0.get Z)<|.p (ae jw ek U Z)<|.p (ah eJ Z Z a0.get Z)<|.p (cx Z (pO Eu Lg ek Z)) ?_;refine Ops.m (fun aP=>bf (c:=[ax ((rs.getD i .zero).left),ax ((rs.getD i .zero).right)]) a0.wf rfl (aw s7 pB Lg rfl U U rfl) fun A43 bT a4=>?_);have aA:=a4.le.g (a0.k (ne_new ab a1 D.lo) (D.le.g a1));have ag:=aD.le a4.le;refine aP<|.m (fun aR=>ct (ys:=[ax ((rs.getD i .zero).left),ax ((rs.getD i .zero).right)]) rfl rfl s7 pB Uh Lg rfl U s7 (fun _ h=>by cases h) ag.own (bN (n:=1) a4.get Z) rfl rfl (by show (_ + _) * 32<=_;simp only [er,Xq,Xz];(try simp only [Xx,Xq,Xz]);omega) (by simp only [er,Xq,Xz];(try simp only [Xx,Xq,Xz]);omega) fun A51 bL a5=>?_);rw [show ([ax ((rs.getD i .zero).left),ax ((rs.getD i .zero).right)]:List Value)=iJ [((rs.getD i .zero).left,(rs.getD i .zero).right)] from rfl,th] at a5;obtain ⟨aE,b0⟩:=Fresh.grow ag ((al (a6.trans D.le) wf (aX wf (Xj a6.n D.lo)) a0.n a0.keep).trans a4.le) wf a5;have bc:=a5.keep a2 aA;have b1:=a5.ne a2 a4.wf aA;refine aR<|.I Z<|.nil<|ba<|.region<|.p (bF (b:=1) Z Z O)<|.J Z<|.nil ?_;exact ⟨⟨i + 1,o ++ [((rs.getD i .zero).left,(rs.getD i .zero).right)],bL⟩,sY Z Z Z Z Z,Z,⟨⟨by omega,by rw [ho];exact Ky O⟩,b0,aE,bc,b1⟩,O1⟩
 refine ak.exit<|b6<|.sq fun bd=>.sq fun bl=>.region<|.p (ae gi ik U Z)<|.p (ae gh dH U Z)<|.p (ah fA Z Z a1 Z)<|.p (qG (a:=2) Z Z O)<|.J Z ?_;refine Ops.nil<|bl<|.block<|.loop (X:=Nat × List (Wd × Wd) × Value) (fun ⟨x,o,s⟩=>[(3,s),(26,num ((2 * gn:Nat):Int)),(27,num ((x:Nat):Int))]) (fun ⟨x,o,s⟩ B=>(x<=2 * gn/\o=rs.map (fun r=>(r.left,r.right)) ++ (List.range x).map (fun x=>(Ru x,[])))/\A.le B/\Fresh A B s 2 (iJ o)) (fun ⟨x,o,s⟩=>2 * gn - x) (⟨0,rs.map (fun r=>(r.left,r.right)),s⟩) (jc Z Z Z) (⟨⟨XK _,by simp⟩,a6,(ce a3 (Xk iJ ((by rw [ho,VX O]))))⟩) ?_;rintro ⟨x,o,s⟩ B67 ⟨⟨hx,ho⟩,a7,a9⟩;refine ak.wf fun ap=>?_;have hlo:o.length=rs.length + x:=by rw [ho];simp
 refine ak.sq fun bm=>.region<|.p (ca Z Z)<|.nil<|bm<|.sq fun bp=>.if rfl (fun bD=>?_) (fun bD=>?_)
 ·refine ak.skip<|bp<|.sq fun br=>.block<|.sq fun bu=>.region<|.J Z<|.I Z<|.nil<|bu ?_;refine ak.region<|.J Z<|.J Z<|.m (fun aS=>aq Z (IA x B67 (hL.le a7) O) ?_);rintro cb A80 ⟨rfl,rfl⟩;refine aS<|.J Z<|.p (qxor1 Z Z O)<|.m (fun aT=>aq Z (IA (x ^^^ 1) B67 (hL.le a7) (by exact sJ O)) ?_);rintro cc A84 ⟨rfl,rfl⟩;refine aT<|.m (fun aV=>bf (c:=[ed (bW.getD x 0),ed (bW.getD (x ^^^ 1) 0)]) ap rfl (aw c0 j0 z5 rfl U U rfl) fun A88 bU a8=>?_);refine aV<|.m (fun aY=>eK (s:=[bW.getD x 0,bW.getD (x ^^^ 1) 0]) Z c0 u9 u5 (fu (n:=2) a8.get Z (XV _)) ?_);refine aY<|.p (cx Z (pO Eu Lg ek Z))<|.m (fun aZ=>bf (c:=[ax ([bW.getD x 0,bW.getD (x ^^^ 1) 0]),ax ([])]) a8.wf rfl (aw s7 pB Lg rfl U U rfl) fun A96 bV aa=>?_);have ad:=(a9.le a8.le).le aa.le;have ay:=(a7.trans a8.le).trans aa.le;refine aZ<|.m (fun av=>ct (ys:=[ax ([bW.getD x 0,bW.getD (x ^^^ 1) 0]),ax ([])]) rfl rfl s7 pB Uh Lg rfl U s7 (fun _ h=>by cases h) ad.own (bN (n:=1) aa.get Z) rfl rfl (by show (_ + _) * 32<=_;simp only [er,Xq,Xz];(try simp only [Xx,Xq,Xz]);omega) (by simp only [er,Xq,Xz];(try simp only [Xx,Xq,Xz]);omega) fun A103 b2 ac=>?_);rw [show ([ax ([bW.getD x 0,bW.getD (x ^^^ 1) 0]),ax ([])]:List Value)=iJ [([bW.getD x 0,bW.getD (x ^^^ 1) 0],[])] from rfl,th] at ac;obtain ⟨ar,az⟩:=Fresh.grow ad ay wf ac;refine av<|.I Z<|.nil<|br<|.region<|.p (bF (b:=1) Z Z O)<|.J Z<|.nil ?_;exact ⟨⟨x + 1,o ++ [([bW.getD x 0,bW.getD (x ^^^ 1) 0],[])],b2⟩,jc Z Z Z,Z,⟨⟨by omega,by rw [ho,SJ,VJ,XY];rfl⟩,az,(ce ar (Xk iJ ((by rfl))))⟩,O1⟩
 refine ak.exit<|bd<|.sq fun aF=>.region<|.J Z<|.I Z<|.nil<|aF<|.rt (by exact aH Z (⟨a7,ap,ce a9 (Xk iJ (by rw [ho,show x=2 * gn by omega];rfl))⟩))
theorem M7 (g:Int) (u:Value) (l:List W8) (rv:Value) (rs:List an) (i:Nat) (A:AH) (hi:i<=1000000000) (hn:rs.length<=1000000) (hu:bJ A 1 u (dN l)) (hr:bJ A 3 rv (cd rs)):bH prog 166 #[.agg #[num (g),u,rv],num ((i:Nat):Int)] A (fun v A1=>v=num (nm rs.length i)/\A.le A1/\A1.wf):=by
 refine bi (e:=[(0,.agg #[num (g),u,rv]),(1,num ((i:Nat):Int))]) (args:=[.agg #[num (g),u,rv],num ((i:Nat):Int)]) call166 func166 Z results166 ntmps166 Z Z Z (fun wf=>?_);have a2:=AH.le.refl A;refine ak.sq fun h2=>.region<|.m (fun a1=>d8 wf rfl rfl fun A5 b4 h=>?_);have D:=a2.trans h.le;refine a1<|.I Z<|.nil<|h2<|.sq fun h9=>.sq fun V=>.region<|.J Z<|.p (ae cW fp U Z)<|.p (ah ga Z Z h.get Z) ?_;refine Ops.p (bE (n:=rs.length) i4 Z (hr.le D) O (cL _))<|.p (ca Z Z)<|.nil<|V<|.if rfl (fun a3=>?_) (fun a3=>?_)
 ·refine ak.sq fun X=>.region<|.J Z<|.I Z<|.nil<|X<|.rt (by exact aH Z (⟨by (rw [nm,XX ‹_›];rfl),D,h.wf⟩))
 refine ak.skip<|h9<|.sq fun a0=>.region<|.J Z<|.p (ae cW fp U Z)<|.p (ah ga Z Z h.get Z)<|.p (bE (n:=rs.length) i4 Z (hr.le D) O (cL _))<|.p (vK Z Z O)<|.p (vK Z Z O) ?_;refine Ops.I Z<|.nil<|a0<|.rt (by exact aH Z (⟨by (rw [nm,Xy ‹_›];rfl),D,h.wf⟩))
theorem Qc (lv:Value) (S:List (Wd × Wd)) (i j:Nat) (A:AH) (hs:bJ A 2 lv (iJ S)):bH prog 165 #[lv,num ((i:Nat):Int),num ((j:Nat):Int)] A (fun v A1=>∃ b1 b2 b3,v=.func (.func 192) #[] #[.pointer (some ⟨b1,0,none⟩),.pointer (some ⟨b2,0,none⟩),.pointer (some ⟨b3,0,none⟩)]/\A.le A1/\A1.wf/\A1.get b1=some (.row true [lv] 1)/\A1.get b2=some (.row true [num (i:Int)] 1)/\A1.get b3=some (.row true [num (j:Int)] 1)/\A.n<=b1/\A.n<=b2/\A.n<=b3):=by
 refine bi (e:=[(0,lv),(1,num ((i:Nat):Int)),(2,num ((j:Nat):Int))]) (args:=[lv,num ((i:Nat):Int),num ((j:Nat):Int)]) call165 func165 Z results165 ntmps165 Z Z Z (fun wf=>?_);have a0:=AH.le.refl A;refine ak.sq fun h2=>.region ?_;obtain ⟨p7,l7,c7,q7,_⟩:=(hs.le a0);subst q7;refine Ops.m (fun a9=>d8 wf rfl rfl fun A5 b4 V=>?_);have a3:=Xj a0.n V.lo;have a4:=a0.trans V.le;refine a9<|.m (fun aa=>d8 V.wf rfl rfl fun A11 a6 D=>?_);have a1:=Xj a4.n D.lo;have X:=a4.trans D.le;refine aa<|.m (fun a5=>d8 D.wf rfl rfl fun A17 a7 h=>?_);have a2:=Xj X.n h.lo;refine a5<|.I Z<|.nil<|h2<|.sq fun a8=>.region<|.p (od Z Z)<|.I Z<|.nil<|a8 ?_;refine ak.ret ?_;repeat first | with_reducible refine cR ?_ | with_reducible refine cr ?_
 exact aH Z (⟨b4,a6,a7,Z,(X.trans h.le),h.wf,(h.le.g (D.le.g V.get)),(h.le.g D.get),h.get,a3,a1,a2⟩)
theorem Kq (bo lp:Nat) (J:Nat->AH->Prop) (i j:Nat) (S:List (Wd × Wd)) (lv:Value) (M A:AH) (ba bb bc k1 k2 k3:Nat) (w1 w2 w3:Bool) (hP:c8 bo M A) (bm:J 0 A) (a0:M.get ba=some (.row w1 [lv] k1)) (a1:M.get bb=some (.row w2 [num (i:Int)] k2)) (a2:M.get bc=some (.row w3 [num (j:Int)] k3)) (hs:bJ M 2 lv (iJ S)) (hi:i < S.length) (hj:j < S.length) (hne:∀ s ∈ S,0 < s.1.length/\s.1.length<=100000/\s.2.length<=100000) (hy:∀ k C M2,k < (jR (i:Int) (j:Int) (decide (i=j)) (S.getD i ([],[])) (S.getD j ([],[]))).length->C.wf->J k C->c8 bo M2 C->mU prog lp #[YF ((jR (i:Int) (j:Int) (decide (i=j)) (S.getD i ([],[])) (S.getD j ([],[]))).getD k .zero)] C (fun v C2=>v=.bool true/\J (k + 1) C2/\C2.wf/\c8 bo M2 C2)):bH prog 192 #[.func (.yield lp) #[] #[],.pointer (some ⟨ba,0,none⟩),.pointer (some ⟨bb,0,none⟩),.pointer (some ⟨bc,0,none⟩)] A (fun v A1=>J (jR (i:Int) (j:Int) (decide (i=j)) (S.getD i ([],[])) (S.getD j ([],[]))).length A1/\A1.wf/\c8 bo M A1):=by
 refine bi (e:=[(0,.func (.yield lp) #[] #[]),(1,.pointer (some ⟨ba,0,none⟩)),(2,.pointer (some ⟨bb,0,none⟩)),(3,.pointer (some ⟨bc,0,none⟩))]) (args:=[.func (.yield lp) #[] #[],.pointer (some ⟨ba,0,none⟩),.pointer (some ⟨bb,0,none⟩),.pointer (some ⟨bc,0,none⟩)]) call192 func192 Z results192 ntmps192 Z Z Z (fun wf=>?_);have V:=hP.le;have cS:=hne _ (bj (d:=(([],[]):Wd × Wd)) hi);have cU:=hne _ (bj (d:=(([],[]):Wd × Wd)) hj);refine ak.sq fun h2=>.drawn [0,1,2,3,4,5,6,7,8,9,10,11] mixed Y Y Z<|.p Z (ah zM Z Z (V.g a0) Z)<|.p Z (ah fA Z Z (V.g a1) Z) ?_;obtain ⟨b3,f3,dw,r3,dm,n3,k3,e3,l3,g3,cB,aI⟩:=bJ.at (i:=i) (hs.le V) OA O;refine bn.p Z (au s7 pB Z e3 Z l3)<|.p Z (jI (i:=0) Eu ek Z Z U)<|.p Z (ah eJ Z Z g3 ((aI 0 U).trans (BQ O)))<|.p Z (ah zM Z Z (V.g a0) Z)<|.p Z (ah fA Z Z (V.g a2) Z) ?_;obtain ⟨b4,f4,dz,r4,dv,n4,k4,e4,l4,g4,cC,aP⟩:=bJ.at (i:=j) (hs.le V) OA O;refine bn.p Z (au s7 pB Z e4 Z l4)<|.p Z (jI (i:=0) Eu ek Z Z U)<|.p Z (ah eJ Z Z g4 ((aP 0 U).trans (BQ O)))<|.p Z (dB Z)<|.p Z (dB Z)<|.done<|h2<|.sq fun h6=>.sq fun h8=>.region ?_;refine Ops.I Z<|.nil<|h8<|.block<|.loop (X:=Nat) (fun k=>[(0,.func (.yield lp) #[] #[]),(1,.pointer (some ⟨ba,0,none⟩)),(2,.pointer (some ⟨bb,0,none⟩)),(3,.pointer (some ⟨bc,0,none⟩)),(5,ax ((S.getD i ([],[])).1)),(6,ax ((S.getD j ([],[])).1)),(7,num ((k:Nat):Int))]) (fun k B=>(1<=k/\k<=(S.getD i ([],[])).1.length)/\M.le B/\(J (oc (i:Int) (j:Int) (S.getD i ([],[])) (S.getD j ([],[])) k).length B/\c8 bo M B)) (fun k=>(S.getD i ([],[])).1.length - k) 1 (Jc Z Z Z Z Z Z Z) (⟨⟨XV _,by omega⟩,V,⟨(by rw [AL];exact bm),hP⟩⟩) ?_;rintro k B10 ⟨⟨bp,ag⟩,D,hJk,hPk⟩;refine ak.wf fun aG=>.sq fun b2=>.sq fun b5=>.region<|.J Z<|.J Z<|.p (cN u9 Z)<|.p (ca Z Z)<|.nil<|b5 ?_;refine ak.if rfl (fun bB=>?_) (fun bB=>?_)
 ·refine ak.skip<|b2<|.sq fun a4=>.block<|.sq fun b6=>.region<|.J Z<|.p (cN u9 Z)<|.J Z<|.p (fJ Z Z O) ?_;refine Ops.I Z<|.nil<|b6<|.sq fun ab=>.drawn [0,1,2,3,4,5,6,7,8,9,10,11,12] mixed Y Y Z<|.p Z (aN Z)<|.p Z (aN Z)<|.p Z (cN u9 Z)<|.p Z (ca Z Z)<|.p Z (aN Z) ?_;refine bn.part (t:=34) Z (fun bC=>?_) (fun bC=>?_)
  ·refine bn.qOn Z Z Z Z Z (aN Z)<|.qOn Z Z Z Z Z (aN Z)<|.qOn Z Z Z Z Z (tc u9 Z Z O)<|.qOn Z Z Z Z Z (aN Z)<|.qOn Z Z Z Z Z (aN Z)<|.qOn Z Z Z Z Z (wx u9 Z Z O)<|.qOn Z Z Z Z Z (ng Z Z)<|.p Z (aL Z Z)<|.done<|ab ?_;refine ak.if rfl (fun bD=>?_) (fun bD=>?_)
   ·refine ak.sq fun b7=>?_;have a9:=Zt (I:=i) (J:=j) (same:=decide (i=j)) (a:=(S.getD i ([],[]))) (b:=(S.getD j ([],[]))) (n:=k) O O O ‹_›;have a7:=hy _ B10 M a9.1 aG hJk hPk;rw [a9.2.1] at a7;refine ak.drawnYield [0,1,2,3,4,5,6,7,8,9,10,11,12,13,14,15,16,17,18,19,20,21,22,23,24,25,26,27,28] 27 28 rfl Z Z Z Y Y Z mixed Y Y Z (a7)<|.p Z (aN Z)<|.p Z (ah fA Z Z (D.g a1) Z)<|.p Z (ah fA Z Z (D.g a2) Z)<|.p Z (aN Z)<|.p Z (aN Z)<|.p Z (aN Z)<|.p Z (tc u9 Z Z O)<|.p Z (nf Z Z Ov)<|.p Z (ah zM Z Z (D.g a0) Z) ?_;refine bn.p Z (ah fA Z Z (D.g a1) Z) ?_;obtain ⟨ck,cF,c4,di,bU,d1,cV,aR,br,aY,bP,ai⟩:=bJ.at (i:=i) (hs.le D) OA O;refine bn.p Z (au s7 pB Z aR Z br)<|.p Z (jI (i:=1) Eu ek Z Z U)<|.p Z (ah eJ Z Z aY ((ai 1 U).trans (sG O)))<|.p Z (aN Z)<|.p Z (aN Z)<|.p Z (tc u9 Z Z O)<|.p Z (nf Z Z Ov)<|.p Z (aN Z)<|.p Z (aN Z)<|.p Z (wx u9 Z Z O) ?_;refine bn.p Z (ah zM Z Z (D.g a0) Z)<|.p Z (ah fA Z Z (D.g a2) Z) ?_;obtain ⟨cu,cH,c7,dj,bV,d2,cX,aS,bu,aZ,bR,ap⟩:=bJ.at (i:=j) (hs.le D) OA O;refine bn.p Z (au s7 pB Z aS Z bu)<|.p Z (jI (i:=1) Eu ek Z Z U)<|.p Z (ah eJ Z Z aZ ((ap 1 U).trans (sG O)))<|.p Z (nf Z Z Ov)<|.p Z (cx Z (bg QY tk vI Z))<|.p Z (aN Z)<|.p Z (aN Z)<|.done ?_;refine ⟨rfl,rfl,rfl,rfl,fun dD A30 aE=>?_⟩;obtain ⟨ay,aA,cf,a5⟩:=aE;refine ⟨ay,?_⟩;have aC:J (oc (i:Int) (j:Int) (S.getD i ([],[])) (S.getD j ([],[])) (k + 1)).length A30:=by rw [a9.2.2];exact aA
    refine b7<|.cond_false Z<|.skip<|a4<|.region<|.J Z<|.p (bF (b:=1) Z Z O)<|.I Z<|.nil ?_;exact ⟨k + 1,Jc Z Z Z Z Z Z Z,Z,⟨⟨by omega,by omega⟩,a5.le,⟨aC,a5⟩⟩,O1⟩
   refine ak.skip<|a4<|.region<|.J Z<|.p (bF (b:=1) Z Z O)<|.I Z<|.nil ?_;exact ⟨k + 1,Jc Z Z Z Z Z Z Z,Z,⟨⟨by omega,by omega⟩,D,⟨(by rw [J0 (fun q=>by exact absurd q.2.2 ‹_›)];exact hJk),hPk⟩⟩,O1⟩
  refine bn.qOff Z Z Z Z Z Z<|.qOff Z Z Z Z Z Z<|.qOff Z Z Z Z Z Z<|.qOff Z Z Z Z Z Z<|.qOff Z Z Z Z Z Z<|.qOff Z Z Z Z Z Z<|.qOff Z Z Z Z Z Z<|.p Z (bh Z Z)<|.done<|ab ?_;refine ak.cond_false Z<|.skip<|a4<|.region<|.J Z<|.p (bF (b:=1) Z Z O)<|.I Z<|.nil ?_;exact ⟨k + 1,Jc Z Z Z Z Z Z Z,Z,⟨⟨by omega,by omega⟩,D,⟨(by rw [J0 (fun q=>by exact absurd q.2.1 ‹_›)];exact hJk),hPk⟩⟩,O1⟩
 refine ak.exit<|h6<|.sq fun b8=>.region<|.I Z<|.nil<|b8<|.block<|.loop (X:=Nat) (fun k=>[(0,.func (.yield lp) #[] #[]),(1,.pointer (some ⟨ba,0,none⟩)),(2,.pointer (some ⟨bb,0,none⟩)),(3,.pointer (some ⟨bc,0,none⟩)),(5,ax ((S.getD i ([],[])).1)),(6,ax ((S.getD j ([],[])).1)),(9,num ((k:Nat):Int))]) (fun k B=>(k<=(S.getD i ([],[])).1.length + 1/\(i=j->k=0))/\M.le B/\(J ((oc (i:Int) (j:Int) (S.getD i ([],[])) (S.getD j ([],[])) (S.getD i ([],[])).1.length).length + (si (i:Int) (j:Int) (S.getD i ([],[])) (S.getD j ([],[])) k).length) B/\c8 bo M B)) (fun k=>(S.getD i ([],[])).1.length + 1 - k) 0 (Jc Z Z Z Z Z Z Z) (⟨⟨XK _,fun _=>rfl⟩,D,⟨(by rw [show k=(S.getD i ([],[])).1.length by omega] at hJk;exact hJk),hPk⟩⟩) ?_;rintro k B38 ⟨⟨bp,ag⟩,h,hJk,hPk⟩;refine ak.wf fun a3=>.sq fun b9=>.sq fun ac=>.region<|.p (ah fA Z Z (h.g a1) Z)<|.p (ah fA Z Z (h.g a2) Z)<|.p (eB Z Z)<|.J Z<|.part (t:=75) Z (fun bL=>?_) (fun bL=>?_)
 ·refine Ops.on Z Z<|.J Z<|.on Z Z<|.J Z<|.on Z Z<|.p (cN u9 Z)<|.on Z Z<|.p (bF Z Z O)<|.on Z Z<|.J Z ?_;refine Ops.on Z Z<|.p (cN u9 Z)<|.on Z Z<|.p (rG Z Z)<|.p (aL Z Z)<|.nil<|ac<|.if rfl (fun bM=>?_) (fun bM=>?_)
  ·refine ak.skip<|b9<|.sq fun ad=>.block<|.sq fun bd=>.region<|.J Z<|.J Z<|.J Z<|.J Z ?_;refine Ops.p (cN u9 Z)<|.p (bF Z Z O)<|.p (qsl u9 Z Z Z O)<|.J Z<|.p (ng Z Z)<|.nil<|bd<|.if rfl (fun bO=>?_) (fun bO=>?_)
   ·refine ak.sq fun bl=>?_;have aa:=YU (I:=i) (J:=j) (same:=decide (i=j)) (a:=(S.getD i ([],[]))) (b:=(S.getD j ([],[]))) (n:=k) (Xv ‹_›) O ‹_›;have a8:=hy _ B38 M aa.1 a3 hJk hPk;rw [aa.2.1] at a8;refine ak.drawnYield [0,1,2,3,4,5,6,7,8,9,10,11,12,13,14,15,16,17,18,19,20,21,22,23,24,25,26,27] 26 27 rfl Z Z Z Y Y Z mixed Y Y Z (a8)<|.p Z (aN Z)<|.p Z (ah fA Z Z (h.g a1) Z)<|.p Z (ah fA Z Z (h.g a2) Z)<|.p Z (aN Z)<|.p Z (ah zM Z Z (h.g a0) Z)<|.p Z (ah fA Z Z (h.g a1) Z) ?_;obtain ⟨cv,cK,cb,dk,bY,d3,cZ,aT,bv,b0,bS,ar⟩:=bJ.at (i:=i) (hs.le h) OA O;refine bn.p Z (au s7 pB Z aT Z bv)<|.p Z (jI (i:=1) Eu ek Z Z U)<|.p Z (ah eJ Z Z b0 ((ar 1 U).trans (sG O)))<|.p Z (aN Z)<|.p Z (aN Z)<|.p Z (wx u9 Z Z O)<|.p Z (ah zM Z Z (h.g a0) Z)<|.p Z (ah fA Z Z (h.g a2) Z) ?_;obtain ⟨cA,cP,cc,dl,c3,dd,d0,aV,bA,b1,bT,av⟩:=bJ.at (i:=j) (hs.le h) OA O;refine bn.p Z (au s7 pB Z aV Z bA)<|.p Z (jI (i:=1) Eu ek Z Z U)<|.p Z (ah eJ Z Z b1 ((av 1 U).trans (sG O)))<|.p Z (nf Z Z Ov)<|.p Z (aN Z)<|.p Z (aN Z)<|.p Z (aN Z)<|.p Z (cN u9 Z)<|.p Z (bF Z Z O)<|.p Z (tc u9 Z Z O) ?_;refine bn.p Z (nf Z Z Ov)<|.p Z (cx Z (bg QY tk vI Z))<|.p Z (aN Z)<|.p Z (aN Z)<|.done ?_;refine ⟨rfl,rfl,rfl,rfl,fun dG A56 aF=>?_⟩;obtain ⟨az,aB,ch,a6⟩:=aF;refine ⟨az,?_⟩;have aD:J ((oc (i:Int) (j:Int) (S.getD i ([],[])) (S.getD j ([],[])) (S.getD i ([],[])).1.length).length + (si (i:Int) (j:Int) (S.getD i ([],[])) (S.getD j ([],[])) (k + 1)).length) A56:=by rw [aa.2.2];exact aB
    refine bl<|.cond_false Z<|.skip<|ad<|.region<|.J Z<|.p (bF (b:=1) Z Z O)<|.I Z<|.nil ?_;exact ⟨k + 1,Jc Z Z Z Z Z Z Z,Z,⟨⟨by omega,fun q=>absurd q ‹_›⟩,a6.le,⟨aD,a6⟩⟩,O1⟩
   refine ak.skip<|ad<|.region<|.J Z<|.p (bF (b:=1) Z Z O)<|.I Z<|.nil ?_;exact ⟨k + 1,Jc Z Z Z Z Z Z Z,Z,⟨⟨by omega,fun q=>absurd q ‹_›⟩,h,⟨(by rw [inc_no ‹_›];exact hJk),hPk⟩⟩,O1⟩
  refine ak.exit ?_;repeat first | with_reducible refine cR ?_ | with_reducible refine cr ?_
  repeat first | with_reducible refine gk ?_ | with_reducible refine fj ?_ | with_reducible refine eR U ?_ | with_reducible refine eU ?_ | with_reducible refine d4 ?_
  exact AU (vs:=[]) Z (⟨by (rw [Sc (Xv ‹_›) O O];exact hJk),a3,hPk⟩)
 refine Ops.off Z Z Z Z<|.off Z Z Z Z<|.off Z Z Z Z<|.off Z Z Z Z<|.off Z Z Z Z<|.off Z Z Z Z<|.off Z Z Z Z<|.p (bh Z Z)<|.nil<|ac ?_;refine ak.cond_false Z<|.exit ?_;repeat first | with_reducible refine cR ?_ | with_reducible refine cr ?_
 repeat first | with_reducible refine gk ?_ | with_reducible refine fj ?_ | with_reducible refine eR U ?_ | with_reducible refine eU ?_ | with_reducible refine d4 ?_
 exact AU (vs:=[]) Z (⟨by (rw [NH (XJ (Decidable.not_not.1 ‹_›))];rw [ag (Decidable.not_not.1 ‹_›)] at hJk;exact hJk),a3,hPk⟩)
end Go.Proofs.YtjppkekmddjcfaaGreatDoor
