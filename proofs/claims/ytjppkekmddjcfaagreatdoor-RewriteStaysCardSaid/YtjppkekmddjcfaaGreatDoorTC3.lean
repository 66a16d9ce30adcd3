import Derived.Test.YtjppkekmddjcfaaGreatDoorTC2
import Derived.Recover
set_option linter.unusedSectionVars false
set_option linter.unusedVariables false
set_option linter.unusedSimpArgs false
namespace Go.Proofs.YtjppkekmddjcfaaGreatDoor
open Go Go.RowKit V
set_option maxRecDepth 100000


theorem EF (u lv:Value) (o w:List UInt8) (A0 A:AH) (a6:A0.le A) (aZ:A0.wf) (hu:Fresh A0 A u 1 (aw o)) (hv:bJ A0 1 lv (aw w)) (hwl:w.length<=1000000) (hol:o.length<=100000000000):bG Tryz.prog 173 #[u,.func (.func 174) #[] #[],lv] A (fun v A1=>A0.le A1/\A1.wf/\Fresh A0 A1 v 1 (aw (w.foldl push o))):=by
 refine yl Tryz.call173 Tryz.func173 Z Tryz.results173 Tryz.ntmps173 Z (fun wf=>?_);refine ao.seq fun _ h2=>.region<|.q Z (ah Z)<|.nil<|h2 _ _<|.seq fun _ h4=>.seq fun _ h6=>.region<|.q Z (ae Z)<|.q Z (bH (n:=w.length) eo Z (hv.le a6) O (fJ _)) ?_;refine Ops.q Z (ae Z)<|.nil<|h6 _ _<|.block<|.loop (X:=Nat × List UInt8 × Value) (fun ⟨i,x,s⟩=>[(0,s),(1,.func (.func 174) #[] #[]),(10,lv),(11,num ((w.length:Nat):Int)),(12,num ((i:Nat):Int))]) (fun ⟨i,x,s⟩ B=>(i<=w.length/\(w.drop i).foldl push x=w.foldl push o/\x.length<=o.length + i)/\A0.le B/\Fresh A0 B s 1 (aw x)) (fun ⟨i,x,s⟩=>w.length - i) (⟨0,o,u⟩) (rn Z Z Z Z Z) (⟨⟨Nat.zero_le _,Z,Nat.le_refl _⟩,a6,hu⟩) ?_;rintro ⟨i,x,s⟩ B8 ⟨⟨hi,a0,bd⟩,a1,D⟩;refine ao.wf fun a7=>.seq fun _ aB=>.region<|.q Z (cA Z Z)<|.nil<|aB _ _<|.seq fun _ aC=>.if rfl (fun aR=>?_) (fun aR=>?_)
 ·refine ao.skip<|aC _ _<|.seq fun _ a5=>.block<|.seq fun _ aD=>.region ?_;obtain ⟨b7,bb,b5,bv,b2,bp,bl,av,aG,az,b0,a8⟩:=bJ.at (i:=i) (hv.le a1) Oz O;refine Ops.q Z (aJ eo nI Z av Z aG)<|.q Z (ak M7 Z Z az ((dh a8).trans (i7 O)))<|.q Z (ah Z)<|.nil<|aD _ _<|.seq fun _ aE=>.region<|.q Z (ae Z)<|.q Z (bH (n:=x.length) eo Z D.slc O (fJ _))<|.q Z (ah Z) ?_;refine Ops.nil<|aE _ _<|.join (fun f A1=>an [(29,.bool (decide (0 < x.length/\x.getD (x.length - 1) 0=w.getD i 0 ^^^ 32))),(0,s),(1,.func (.func 174) #[] #[]),(10,lv),(11,num ((w.length:Nat):Int)),(12,num ((i:Nat):Int)),(13,.bool (decide (i < w.length))),(15,fA (w.getD i 0)),(8,fA (w.getD i 0)),(16,s),(17,num ((x.length:Nat):Int)),(9,num ((x.length:Nat):Int))] f.e/\f.ds=[]/\B8=A1) ?_ ?_
  ·refine ao.region<|.q Z (ae Z)<|.q Z (fu (b:=0) Z Z)<|.q Z (ae Z)<|.part (t:=20) Z (fun aS=>?_) (fun aS=>?_)
   ·refine Ops.on Z Z<|.q Z (ae Z)<|.on Z Z<|.q Z (ae Z)<|.on Z Z<|.q Z (ae Z)<|.on Z Z<|.q Z (jc (b:=1) Z Z O)<|.on Z Z ?_;obtain ⟨b8,bc,b6,bA,b3,br,bm,ay,aI,aA,b1,a9⟩:=bJ.at (i:=x.length - 1) D.slc Oz O;refine Ops.q Z (aJ eo nI Z ay Z aI)<|.on Z Z<|.q Z (ak M7 Z Z aA ((dh a9).trans (i7 O)))<|.on Z Z<|.q Z (ae Z)<|.on Z Z<|.l Z (fun _ _ ab _=>np Z Z (zX (x.getD (x.length - 1) 0) (w.getD i 0) B8) ?_);rintro bB A28 ⟨rfl,rfl⟩;refine ab _ _<|.q Z (bi Z Z)<|.nil ?_;exact ⟨an.cons (show some _=some _ from congrArg (fun b=>some (Value.bool b)) (show (decide (x.getD (x.length - 1) 0=(w.getD i 0) ^^^ 32))=decide (0 < x.length/\x.getD (x.length - 1) 0=w.getD i 0 ^^^ 32) from (by simp only [‹0 < _›,true_and])))<|tV Z Z Z Z Z Z Z Z Z Z Z,Z,Z⟩
   refine Ops.off Z Z Z Z<|.off Z Z Z Z<|.off Z Z Z Z<|.off Z Z Z Z<|.off Z Z Z Z<|.off Z Z Z Z<|.off Z Z Z Z<|.off Z Z Z Z<|.q Z (bw Z Z)<|.nil ?_;exact ⟨an.cons (show some _=some _ from congrArg (fun b=>some (Value.bool b)) (show (false)=decide (0 < x.length/\x.getD (x.length - 1) 0=w.getD i 0 ^^^ 32) from (by simp only [‹¬ 0 < _›,false_and,decide_false])))<|tV Z Z Z Z Z Z Z Z Z Z Z,Z,Z⟩
  rintro ⟨fe,fd⟩ _ ⟨hE,rfl,rfl⟩;refine ao.forget hE<|.if rfl (fun aT=>?_) (fun aT=>?_)
  ·refine ao.region<|.q Z (ae Z)<|.q Z (ae Z)<|.q Z (jc (b:=1) Z Z O) ?_;obtain ⟨ap,bu,ar,aV,aP,ba⟩:=D.nonnil (by intro q;have:=congrArg List.length q;simp only [bn,List.length_nil] at this;omega);subst aV;rw [bn,Nat.mul_one] at aP;have a3:=D.take (k:=x.length - 1) O;rw [Nat.mul_one,mF] at a3;refine Ops.q Z (ou eo nI Z Z O)<|.q Z (ah Z)<|.nil<|a5 _ _<|.region<|.q Z (bN (b:=1) Z Z O)<|.q Z (ae Z)<|.nil ?_;exact ⟨⟨i + 1,x.take (x.length - 1),.slice (some ⟨ap,0,none⟩) (x.length - 1) ar⟩,rn Z Z Z Z Z,Z,⟨⟨by omega,by exact Ef OK a0 ‹_›,by simp only [List.length_append,List.length_take,List.length_cons,List.length_nil];omega⟩,a1,a3⟩,O1⟩
  refine ao.region<|.q Z (ae Z)<|.q Z (ae Z)<|.l Z (fun _ _ ac _=>aN (c:=[fA (w.getD i 0)]) a7 rfl (ax eo nI z5 rfl U U rfl) fun A35 b9 V=>?_);have a4:=D.le V.le;have ag:=a1.trans V.le;refine ac _ _<|.l Z (fun _ _ ad _=>cJ (ys:=[fA (w.getD i 0)]) rfl rfl eo nI zc z5 rfl U eo (fun _ h=>by cases h) a4.own (bW (n:=1) V.get Z) rfl rfl (by show (_ + _) * 1<=_;simp only [bn,List.length_cons,List.length_nil];(try simp only [List.length_append,List.length_cons,List.length_nil]);omega) Of fun A41 aY a2=>?_);rw [show ([fA (w.getD i 0)]:List Value)=aw [w.getD i 0] from rfl,iw] at a2;obtain ⟨aa,ai⟩:=Fresh.grow a4 ag aZ a2;refine ad _ _<|.q Z (ah Z)<|.nil<|a5 _ _<|.region<|.q Z (bN (b:=1) Z Z O)<|.q Z (ae Z)<|.nil ?_;exact ⟨⟨i + 1,x ++ [w.getD i 0],aY⟩,rn Z Z Z Z Z,Z,⟨⟨by omega,by exact Eh OK a0 ‹_›,by simp only [List.length_append,List.length_take,List.length_cons,List.length_nil];omega⟩,ai,aa⟩,O1⟩
 refine ao.exit<|h4 _ _<|.seq fun _ aF=>.region<|.q Z (ae Z)<|.q Z (ah Z)<|.nil<|aF _ _<|.rt (by exact be Z (⟨a1,a7,c6 D (congrArg aw (by rw [tU O] at a0;exact a0))⟩))

theorem CW (lv:Value) (l:List (List UInt8)) (A:AH) (hn:l.length<=100) (hl:∀ x ∈ l,x.length<=1000000) (hv:bJ A 1 lv (dc l)):bG Tryz.prog 130 #[lv] A (fun v A1=>v=aX (th l.flatten)/\A.le A1/\A1.wf):=by
 refine iy Tryz.call130 Tryz.func130 Z Tryz.results130 Tryz.ntmps130 Z (fun wf=>?_);have a5:=AH.le.refl A;refine ao.seq fun _ h2=>.region<|.q Z (ah Z)<|.nil<|h2 _ _<|.seq fun _ h4=>.region<|.q Z (ah Z)<|.nil<|h4 _ _ ?_;refine ao.seq fun _ h6=>.seq fun _ h8=>.region<|.q Z (ae Z)<|.q Z (bH (n:=l.length) kh Z (hv.le a5) O (eJ _))<|.q Z (ae Z)<|.nil<|h8 _ _<|.block<|.loop (X:=Nat × List UInt8 × Value) (fun ⟨k,o,s⟩=>[(3,s),(6,lv),(7,num ((l.length:Nat):Int)),(8,num ((k:Nat):Int))]) (fun ⟨k,o,s⟩ B=>(k<=l.length/\(l.drop k).flatten.foldl push o=th l.flatten/\o.length<=1000000 * k)/\A.le B/\Fresh A B s 1 (aw o)) (fun ⟨k,o,s⟩=>l.length - k) (⟨0,[],.slice none 0 0⟩) (ks Z Z Z Z) (⟨⟨Nat.zero_le _,Z,Nat.zero_le _⟩,a5,(Fresh.nil A A 1)⟩) ?_;rintro ⟨k,o,s⟩ B10 ⟨⟨hk,ha,hb⟩,a3,D⟩;refine ao.wf fun V=>?_;have hlk:=fun q:k < l.length=>hl _ (bx (d:=[]) q);have hpl:=fU (l.getD k []) o;refine ao.seq fun _ av=>.region<|.q Z (cA Z Z)<|.nil<|av _ _<|.seq fun _ ay=>.if rfl (fun aD=>?_) (fun aD=>?_)
 ·refine ao.skip<|ay _ _<|.seq fun _ az=>.block<|.seq fun _ aA=>.region ?_;obtain ⟨aS,aT,aR,aZ,aP,aY,aV,ap,aC,ar,aG,a6⟩:=bJ.at (i:=k) (hv.le a3) Ow O;refine Ops.q Z (aJ kh fz Z ap Z aC)<|.q Z (ak gz Z Z ar ((dh a6).trans (f5 O)))<|.q Z (ah Z)<|.nil<|aA _ _<|.region<|.q Z (ae Z)<|.q Z (ae Z)<|.l Z (fun _ _ a8 _=>vk (s:=l.getD k []) V rfl u9 eo u5 (by have:=hlk O;omega) fun A24 ai ab h aI=>?_);have ag:=D.own.ne_new V h.lo;have a1:=D.le h.le;have ac:=a3.trans h.le;refine a8 _ _ ?_;have a2:=cg (bs:=[blk s]) ac (sj a1.lo nf);refine Ops.l Z (fun _ _ a9 _=>aK Z (EF s (.slice (some ⟨ai,0,none⟩) (l.getD k []).length ab) o (l.getD k []) (A24.hide [blk s]) A24 (cM A24 [blk s]) (cr h.wf) (a1.hide (by simp)) (eR (n:=(l.getD k []).length) (bF (bs:=[blk s]) h.get (ng ag ka)) (fJ _) O) (hlk O) O) ?_);rintro aE A33 ⟨a4,aF,a0⟩;have a7:=a0.base a2;have ad:=a2.trans a4;refine a9 _ _<|.q Z (ah Z)<|.nil<|az _ _<|.region<|.q Z (bN (b:=1) Z Z O)<|.q Z (ae Z)<|.nil ?_;exact ⟨⟨k + 1,(l.getD k []).foldl push o,aE⟩,ks Z Z Z Z,Z,⟨⟨by omega,rX O ha Z,by have:=hlk O;omega⟩,ad,a7⟩,O1⟩
 refine ao.exit<|h6 _ _<|.seq fun _ aB=>.region<|.q Z (ae Z)<|.l Z (fun _ _ aa _=>gU (s:=o) Z eo u9 u5 D.slc ?_);refine aa _ _<|.q Z (ah Z)<|.nil<|aB _ _<|.rt (by exact be Z (⟨by rw [rz O] at ha;rw [<- ha];rfl,a3,V⟩))

theorem sC (lv:Value) (w:List UInt8) (A:AH) (hw:w.length<=1000000) (hv:bJ A 1 lv (dc [w])):bG Tryz.prog 130 #[lv] A (fun v A1=>v=aX (th w)/\A.le A1/\A1.wf) :=
 by have h:=CW lv [w] A (by simp) (by simpa using hw) hv;simpa using h

theorem Iu (g:Int) (u:Value) (l:List (List UInt8)) (A:AH) (hn:l.length<=9223372036854775807) (hu:bJ A 1 u (dc l)):bG Tryz.prog 168 #[.agg #[num (g),u]] A (fun v A1=>v=.bool (decide (d9 g l=0))/\A.le A1/\A1.wf):=by
 refine iy Tryz.call168 Tryz.func168 Z Tryz.results168 Tryz.ntmps168 Z (fun wf=>?_);have b3:=AH.le.refl A;refine ao.seq fun _ h2=>.region<|.l Z (fun _ _ b1 _=>ej wf rfl rfl fun A5 b4 D=>?_);have a1:=b3.trans D.le;refine b1 _ _<|.q Z (ah Z)<|.nil<|h2 _ _<|.seq fun _ h9=>.seq fun _ a8=>.region<|.q Z (aj ia dx U Z)<|.q Z (ak fj Z Z D.get Z)<|.q Z (qO Z Z) ?_;refine Ops.q Z (ae Z)<|.part (t:=8) Z (fun b5=>?_) (fun b5=>?_)
 ·refine Ops.off Z Z Z Z<|.off Z Z Z Z<|.off Z Z Z Z<|.q Z (bi Z Z)<|.q Z (ae Z)<|.off Z Z Z Z<|.off Z Z Z Z<|.off Z Z Z Z<|.off Z Z Z Z<|.q Z (bi Z Z) ?_;refine Ops.nil<|a8 _ _<|.cond_true Z<|.seq fun _ az=>.region<|.q Z (ah Z)<|.nil<|az _ _<|.rt (by exact be Z (⟨by rw [decide_eq_false (by (exact fun q=>by have:=(d5 q).1;omega))];rfl,a1,D.wf⟩))
 refine Ops.on Z Z<|.q Z (aj ia dx U Z)<|.on Z Z<|.q Z (ak fj Z Z D.get Z)<|.on Z Z<|.q Z (KI Z Z)<|.q Z (bw Z Z)<|.q Z (ae Z)<|.part (t:=13) Z (fun b6=>?_) (fun b6=>?_)
 ·refine Ops.off Z Z Z Z<|.off Z Z Z Z<|.off Z Z Z Z<|.off Z Z Z Z<|.q Z (bi Z Z)<|.nil<|a8 _ _<|.cond_true Z<|.seq fun _ aA=>.region ?_;refine Ops.q Z (ah Z)<|.nil<|aA _ _<|.rt (by exact be Z (⟨by rw [decide_eq_false (by (exact fun q=>by have:=(d5 q).1;omega))];rfl,a1,D.wf⟩))
 refine Ops.on Z Z<|.q Z (aj go ms U Z)<|.on Z Z<|.q Z (ak lU Z Z D.get Z)<|.on Z Z<|.q Z (bH (n:=l.length) kh Z (hu.le a1) O (eJ _))<|.on Z Z<|.q Z (fu (b:=60) Z Z)<|.q Z (bw Z Z)<|.nil ?_;refine a8 _ _<|.if rfl (fun b7=>?_) (fun b7=>?_)
 ·refine ao.seq fun _ aB=>.region<|.q Z (ah Z)<|.nil<|aB _ _<|.rt (by exact be Z (⟨by rw [decide_eq_false (by (exact fun q=>by have:=(d5 q).2.1;omega))];rfl,a1,D.wf⟩))
 refine ao.skip<|h9 _ _<|.seq fun _ aC=>.seq fun _ aD=>.region<|.q Z (aj go ms U Z)<|.q Z (ak lU Z Z D.get Z)<|.q Z (bH (n:=l.length) kh Z (hu.le a1) O (eJ _))<|.q Z (ae Z)<|.nil ?_;refine aD _ _<|.block<|.loop (X:=Nat) (fun k=>[(1,.pointer (some ⟨b4,0,none⟩)),(20,u),(21,num ((l.length:Nat):Int)),(22,num ((k:Nat):Int))]) (fun k B=>(k<=l.length/\∀ j,j < k->(l.getD j []).length<=200/\gW g (l.getD j [])=false)/\A.le B/\B.get b4=some (.row true [num (g),u] 2)) (fun k=>l.length - k) 0 (ks Z Z Z Z) (⟨⟨Nat.zero_le _,fun j h=>by omega⟩,a1,D.get⟩) ?_;rintro k B26 ⟨⟨hk,hb⟩,V,a0⟩;refine ao.wf fun a3=>.seq fun _ aE=>.region<|.q Z (cA Z Z)<|.nil<|aE _ _<|.seq fun _ aF=>.if rfl (fun b8=>?_) (fun b8=>?_)
 ·refine ao.skip<|aF _ _<|.seq fun _ aG=>.block<|.seq fun _ aI=>.region ?_;obtain ⟨Sy,bp,bm,bv,bl,bu,br,av,b2,ay,bd,ac⟩:=bJ.at (i:=k) (hu.le V) Ow O;refine Ops.q Z (aJ kh fz Z av Z b2)<|.q Z (ak gz Z Z ay ((dh ac).trans (f5 O)))<|.q Z (ah Z)<|.nil<|aI _ _<|.seq fun _ a4=>.region<|.q Z (ae Z)<|.q Z (d6 u9 Z)<|.q Z (cA (b:=1) Z Z) ?_;refine Ops.q Z (ae Z)<|.part (t:=29) Z (fun b9=>?_) (fun b9=>?_)
  ·refine Ops.off Z Z Z Z<|.off Z Z Z Z<|.off Z Z Z Z<|.q Z (bi Z Z)<|.q Z (ae Z)<|.off Z Z Z Z<|.off Z Z Z Z<|.off Z Z Z Z<|.off Z Z Z Z<|.q Z (bi Z Z) ?_;refine Ops.q Z (ae Z)<|.off Z Z Z Z<|.off Z Z Z Z<|.off Z Z Z Z<|.off Z Z Z Z<|.off Z Z Z Z<|.q Z (bi Z Z)<|.nil<|a4 _ _<|.cond_true Z ?_;refine ao.seq fun _ aP=>.region<|.q Z (ah Z)<|.nil<|aP _ _<|.rt (by exact be Z (⟨by rw [decide_eq_false (by exact pk (i:=k) O (.inr (by first | exact pK O | exact tE ‹_› | exact tF ‹_›)))];rfl,V,a3⟩))
  refine Ops.on Z Z<|.q Z (ae Z)<|.on Z Z<|.q Z (d6 u9 Z)<|.on Z Z<|.q Z (fu (b:=200) Z Z)<|.q Z (bw Z Z)<|.q Z (ae Z)<|.part (t:=34) Z (fun ba=>?_) (fun ba=>?_)
  ·refine Ops.off Z Z Z Z<|.off Z Z Z Z<|.off Z Z Z Z<|.off Z Z Z Z<|.q Z (bi Z Z)<|.q Z (ae Z)<|.off Z Z Z Z<|.off Z Z Z Z<|.off Z Z Z Z<|.off Z Z Z Z ?_;refine Ops.off Z Z Z Z<|.q Z (bi Z Z)<|.nil<|a4 _ _<|.cond_true Z<|.seq fun _ aR=>.region<|.q Z (ah Z)<|.nil<|aR _ _ ?_;refine ao.ret ?_;repeat first | with_reducible refine bE ?_ | with_reducible refine bk ?_
   exact be Z (⟨by rw [decide_eq_false (by exact pk (i:=k) O (.inl O))];rfl,V,a3⟩)
  refine Ops.on Z Z<|.q Z (am sG iA Z Z a0 Z)<|.on Z Z<|.q Z (ae Z)<|.on Z Z<|.l Z (fun _ _ ad _=>aK Z (r0 ((g)) u l (l.getD k []) B26 O (hu.le V)) ?_);rintro bA A48 ⟨rfl,a5,a7⟩;have aS:=a5.get _ _ a0;have a9:=V.trans a5;refine ad _ _<|.on Z Z<|.q Z (ot Z)<|.q Z (bw Z Z)<|.q Z (ae Z)<|.part (t:=40) Z (fun bb=>?_) (fun bb=>?_)
  ·refine Ops.off Z Z Z Z<|.off Z Z Z Z<|.off Z Z Z Z<|.off Z Z Z Z<|.off Z Z Z Z<|.q Z (bi Z Z)<|.nil<|a4 _ _<|.cond_true Z<|.seq fun _ aT=>?_;refine ao.region<|.q Z (ah Z)<|.nil<|aT _ _<|.rt (by exact be Z (⟨by rw [decide_eq_false (by exact pk (i:=k) O (.inr (by first | exact pK O | exact tE ‹_› | exact tF ‹_›)))];rfl,a9,a7⟩))
  refine Ops.on Z Z<|.q Z (ae Z)<|.on Z Z<|.l Z (fun _ _ ag _=>aN (c:=[aX (l.getD k [])]) a7 rfl (ax kh fz z9 rfl U U rfl) fun A57 ar a2=>?_);have aV:=a2.le.get _ _ aS;have ap:=a9.trans a2.le;refine ag _ _<|.on Z Z<|.l Z (fun _ _ ai _=>aK Z (sC (.slice (some ⟨ar,0,none⟩) 1 1) (l.getD k []) A57 O (eR (n:=1) a2.get Z (Nat.le_refl _))) ?_);rintro bB A63 ⟨rfl,a6,ab⟩;have aY:=a6.get _ _ aV;have aa:=ap.trans a6;refine ai _ _<|.on Z Z<|.q Z (ae Z)<|.on Z Z<|.q Z (oA Z Z)<|.q Z (bw Z Z)<|.nil<|a4 _ _<|.if rfl (fun bc=>?_) (fun bc=>?_)
  ·refine ao.seq fun _ aZ=>.region<|.q Z (ah Z)<|.nil<|aZ _ _<|.rt (by exact be Z (⟨by rw [decide_eq_false (by exact pk (i:=k) O (.inr (by first | exact pK O | exact tE ‹_› | exact tF ‹_›)))];rfl,aa,ab⟩))
  refine ao.skip<|aG _ _<|.region<|.q Z (bN (b:=1) Z Z O)<|.q Z (ae Z)<|.nil ?_;exact ⟨k + 1,ks Z Z Z Z,Z,⟨⟨by omega,fun j h=>(Nat.lt_succ_iff_lt_or_eq.1 h).elim (hb j) (fun z=>by subst z;exact ⟨by omega,Ff O ‹_› ‹_›⟩)⟩,aa,aY⟩,O1⟩
 refine ao.exit<|aC _ _<|.seq fun _ b0=>.region<|.q Z (ah Z)<|.nil<|b0 _ _<|.rt (by exact be Z (⟨by rw [decide_eq_true (uw (i:=k) O O O hb)];rfl,V,a3⟩))

theorem Ir (g:Int) (u:Value) (l:List (List UInt8)) (dv:Value) (d:List bX) (A:AH) (hg:1<=g/\g<=8) (hn:l.length<=100000000) (hu:bJ A 1 u (dc l)) (hv:bJ A 3 dv (cN d)):bG Tryz.prog 170 #[.agg #[num (g),u],dv] A (fun v A1=>v=.bool (ib g l d)/\A.le A1/\A1.wf):=by
 refine lN Tryz.call170 Tryz.func170 Z Tryz.results170 Tryz.ntmps170 Z (fun wf=>?_);have b3:=AH.le.refl A;refine ao.seq fun _ h2=>.region<|.l Z (fun _ _ b1 _=>ej wf rfl rfl fun A5 b4 ab=>?_);have a6:=b3.trans ab.le;refine b1 _ _<|.q Z (ah Z)<|.nil<|h2 _ _<|.seq fun _ h9=>.seq fun _ az=>.region<|.q Z (ae Z)<|.q Z (bH (n:=d.length) oO Z (hv.le a6) O (ee _))<|.q Z (fu (b:=100000) Z Z) ?_;refine Ops.nil<|az _ _<|.if rfl (fun b5=>?_) (fun b5=>?_)
 ·refine ao.seq fun _ aA=>.region<|.q Z (ah Z)<|.nil<|aA _ _<|.rt (by exact be Z (⟨by (rw [ib,decide_eq_false O];simp [fg]),a6,ab.wf⟩))
 refine ao.skip<|h9 _ _<|.seq fun _ aB=>.region<|.q Z (ah Z)<|.nil<|aB _ _<|.seq fun _ aC=>.seq fun _ aD=>.region ?_;refine Ops.q Z (ae Z)<|.q Z (bH (n:=d.length) oO Z (hv.le a6) O (ee _))<|.q Z (ae Z)<|.nil<|aD _ _<|.block<|.loop (X:=Nat × Nat) (fun ⟨k,n⟩=>[(2,.pointer (some ⟨b4,0,none⟩)),(5,num ((n:Nat):Int)),(11,dv),(12,num ((d.length:Nat):Int)),(13,num ((k:Nat):Int))]) (fun ⟨k,n⟩ B=>(k<=d.length/\n + ew (d.drop k)=ew d/\n<=100000 * k/\∀ j,j < k->i0 g l (d.getD j .zero)=true)/\A.le B/\B.get b4=some (.row true [num (g),u] 2)) (fun ⟨k,n⟩=>d.length - k) (⟨0,0⟩) (rn Z Z Z Z Z) (⟨⟨Nat.zero_le _,Nat.zero_add _,Nat.zero_le _,fun j h=>by omega⟩,a6,ab.get⟩) ?_;rintro ⟨k,n⟩ B22 ⟨⟨hk,hc,hnk,hb⟩,a2,a1⟩;refine ao.wf fun a5=>?_;have hcd:=fun q:k < d.length=>Bx q;refine ao.seq fun _ aE=>.region<|.q Z (cA Z Z)<|.nil<|aE _ _<|.seq fun _ aF=>.if rfl (fun b6=>?_) (fun b6=>?_)
 ·refine ao.skip<|aF _ _<|.seq fun _ aG=>.block<|.seq fun _ aI=>.region ?_;obtain ⟨bd,bm,bc,bu,bb,br,bp,av,b2,ay,ad,ba⟩:=bJ.at (i:=k) (hv.le a2) ON O;refine Ops.q Z (aJ oO jz Z av Z b2)<|.q Z (am yw jz Z Z ay (ad.trans (congrArg some (i8 O))))<|.l Z (fun _ _ ag _=>ca a5 IW rfl fun A36 bl V=>?_);have a4:=ne_new a5 a1 V.lo;have a7:=aL wf (Nat.le_trans a2.n V.lo);have aP:=V.le.get _ _ a1;have ar:=a2.trans V.le;refine ag _ _<|.l Z (fun _ _ ai _=>aM (cs:=[aX ((d.getD k .zero).conj),num ((d.getD k .zero).rel),.bool ((d.getD k .zero).inv)]) (c':=[aX ((d.getD k .zero).conj),num ((d.getD k .zero).rel),.bool ((d.getD k .zero).inv)]) V.wf rfl rfl rfl rfl jz V.get (Nat.le_of_ble_eq_true rfl) rfl rfl fun A41 D=>?_);have a8:=D.keep _ _ a4 aP;have a0:=al ar wf a7 D.n D.keep;refine ai _ _<|.nil<|aI _ _<|.seq fun _ aR=>.seq fun _ a9=>.region<|.q Z (aj BQ dx U Z)<|.q Z (ak fj Z Z D.get Z)<|.q Z (qO Z Z)<|.q Z (ae Z) ?_;refine Ops.part (t:=20) Z (fun b7=>?_) (fun b7=>?_)
  ·refine Ops.off Z Z Z Z<|.off Z Z Z Z<|.off Z Z Z Z<|.off Z Z Z Z<|.off Z Z Z Z<|.off Z Z Z Z<|.q Z (bi Z Z)<|.q Z (ae Z)<|.off Z Z Z Z<|.off Z Z Z Z ?_;refine Ops.off Z Z Z Z<|.off Z Z Z Z<|.off Z Z Z Z<|.q Z (bi Z Z)<|.nil<|a9 _ _<|.cond_true Z<|.seq fun _ aS=>.region<|.q Z (ah Z) ?_;refine Ops.nil<|aS _ _<|.rt (by exact be Z (⟨by (rw [pO (i:=k) O (by first | exact uq ‹_› | exact ur ‹_› | exact ut ‹_›)];rfl),a0,D.wf⟩))
  refine Ops.on Z Z<|.q Z (aj BQ dx U Z)<|.on Z Z<|.q Z (ak fj Z Z D.get Z)<|.on Z Z<|.q Z (aj go ms U Z)<|.on Z Z<|.q Z (ak lU Z Z a8 Z)<|.on Z Z<|.q Z (bH (n:=l.length) kh Z (hu.le a0) O (eJ _)) ?_;refine Ops.on Z Z<|.q Z (pz Z Z)<|.q Z (bw Z Z)<|.q Z (ae Z)<|.part (t:=28) Z (fun b8=>?_) (fun b8=>?_)
  ·refine Ops.off Z Z Z Z<|.off Z Z Z Z<|.off Z Z Z Z<|.off Z Z Z Z<|.off Z Z Z Z<|.q Z (bi Z Z)<|.nil<|a9 _ _<|.cond_true Z<|.seq fun _ aT=>?_;refine ao.region<|.q Z (ah Z)<|.nil<|aT _ _<|.rt (by exact be Z (⟨by (rw [pO (i:=k) O (by first | exact uq ‹_› | exact ur ‹_› | exact ut ‹_›)];rfl),a0,D.wf⟩))
  refine Ops.on Z Z<|.q Z (am sG iA Z Z a8 Z)<|.on Z Z<|.q Z (aj mN fz U Z)<|.on Z Z<|.q Z (ak gz Z Z D.get Z)<|.on Z Z<|.l Z (fun _ _ ap _=>aK Z (r0 ((g)) u l ((d.getD k .zero).conj) A41 hg (hu.le a0)) ?_);rintro bv A57 ⟨rfl,a3,ac⟩;have aV:=a3.get _ _ a8;have aY:=a3.get _ _ D.get;have aa:=a0.trans a3;refine ap _ _<|.on Z Z<|.q Z (ot Z)<|.q Z (bw Z Z)<|.nil<|a9 _ _<|.if rfl (fun b9=>?_) (fun b9=>?_)
  ·refine ao.seq fun _ aZ=>.region<|.q Z (ah Z)<|.nil<|aZ _ _<|.rt (by exact be Z (⟨by (rw [pO (i:=k) O (by first | exact uq ‹_› | exact ur ‹_› | exact ut ‹_›)];rfl),aa,ac⟩))
  refine ao.skip<|aR _ _<|.region<|.q Z (ae Z)<|.q Z (aj mN fz U Z)<|.q Z (ak gz Z Z aY Z)<|.q Z (d6 u9 Z)<|.q Z (bN Z Z (by (have:=kU (Decidable.not_not.1 ‹¬ ¬ co g (d.getD k .zero).conj=0›);omega)))<|.q Z (ah Z)<|.nil ?_;refine aG _ _<|.region<|.q Z (bN (b:=1) Z Z O)<|.q Z (ae Z)<|.nil ?_;exact ⟨⟨k + 1,n + (d.getD k .zero).conj.length⟩,rn Z Z Z Z Z,Z,⟨⟨by omega,by have:=hcd O;omega,by have:=kU (Decidable.not_not.1 ‹¬ ¬ co g (d.getD k .zero).conj=0›);omega,fun j h=>(Nat.lt_succ_iff_lt_or_eq.1 h).elim (hb j) (fun z=>by subst z;exact GB ‹_› ‹_› ‹_›)⟩,aa,aV⟩,O1⟩
 refine ao.exit<|aC _ _<|.seq fun _ b0=>.region<|.q Z (ae Z)<|.q Z (KN (b:=1000000) Z Z)<|.q Z (ah Z)<|.nil<|b0 _ _<|.rt (by exact be Z (⟨by (rw [Ga (i:=k) (n:=n) O hb hc];simp_all [fg] <;> omega),a2,a5⟩))

theorem Iw (g:Int) (u:Value) (l:List (List UInt8)) (wsv:Value) (ws:List (List UInt8)) (dsv dv:Value) (d:List bX) (A:AH) (hn:l.length<=100000000) (hwn:ws.length<=100000000) (hu:bJ A 1 u (dc l)) (hws:bJ A 1 wsv (dc ws)) (hds:bJ A 1 dsv (Mr [dv])) (hv:bJ A 3 dv (cN d)):bG Tryz.prog 128 #[.agg #[num (g),u],wsv,dsv] A (fun v A1=>v=num ((AL g l ws [d]:Nat):Int)/\A.le A1/\A1.wf):=by
 refine yl Tryz.call128 Tryz.func128 Z Tryz.results128 Tryz.ntmps128 Z (fun wf=>?_);have bd:=AH.le.refl A;have bB:([dv]:List Value).length=1:=rfl;refine ao.seq fun _ h2=>.region<|.l Z (fun _ _ ba _=>ej wf rfl rfl fun A5 b4 a8=>?_);have ac:=bd.trans a8.le;refine ba _ _<|.q Z (ah Z)<|.nil<|h2 _ _<|.seq fun _ h9=>.seq fun _ aC=>.region<|.q Z (am sG iA Z Z a8.get Z)<|.l Z (fun _ _ ai _=>aK Z (Iu ((g)) u l A5 O (hu.le ac)) ?_);rintro c7 A14 ⟨rfl,a3,a9⟩;have aD:=a3.get _ _ a8.get;have a2:=ac.trans a3;refine ai _ _<|.q Z (ot Z)<|.nil<|aC _ _<|.if rfl (fun bl=>?_) (fun bl=>?_)
 ·refine ao.seq fun _ aE=>.region<|.q Z (ah Z)<|.nil<|aE _ _<|.rt (by exact be Z (⟨by (rw [QI ‹_›];rfl),a2,a9⟩))
 refine ao.skip<|h9 _ _<|.seq fun _ aF=>.seq fun _ aG=>.region<|.q Z (ae Z)<|.q Z (bH (n:=ws.length) kh Z (hws.le a2) O (eJ _))<|.q Z (ae Z)<|.nil<|aG _ _ ?_;refine ao.block<|.loop (X:=Nat) (fun i=>[(2,dsv),(3,.pointer (some ⟨b4,0,none⟩)),(14,wsv),(15,num ((ws.length:Nat):Int)),(16,num ((i:Nat):Int))]) (fun i B=>(i<=ws.length/\∀ j,j < i->co g (ws.getD j [])=0)/\A.le B/\B.get b4=some (.row true [num (g),u] 2)) (fun i=>ws.length - i) 0 (rn Z Z Z Z Z) (⟨⟨Nat.zero_le _,fun j h=>by omega⟩,a2,aD⟩) ?_;rintro i B26 ⟨⟨hi,hw⟩,V,D⟩;refine ao.wf fun bO=>?_;have hg:=(d5 (Decidable.not_not.1 ‹¬ ¬ d9 g l=0›)).1;refine ao.seq fun _ aI=>.region<|.q Z (cA Z Z)<|.nil<|aI _ _<|.seq fun _ aP=>.if rfl (fun bm=>?_) (fun bm=>?_)
 ·refine ao.skip<|aP _ _<|.seq fun _ aR=>.block<|.seq fun _ aS=>.region ?_;obtain ⟨Sy,bR,bL,c3,bC,bV,bT,ay,bb,aA,bv,ad⟩:=bJ.at (i:=i) (hws.le V) Ow O;refine Ops.q Z (aJ kh fz Z ay Z bb)<|.q Z (ak gz Z Z aA ((dh ad).trans (f5 O)))<|.q Z (ah Z)<|.nil<|aS _ _<|.seq fun _ aT=>.region<|.q Z (am sG iA Z Z D Z)<|.q Z (ae Z)<|.l Z (fun _ _ ap _=>aK Z (r0 ((g)) u l (ws.getD i []) B26 hg (hu.le V)) ?_);rintro cb A42 ⟨rfl,a4,aa⟩;have aV:=a4.get _ _ D;have a6:=V.trans a4;refine ap _ _<|.q Z (ot Z)<|.nil<|aT _ _<|.if rfl (fun bp=>?_) (fun bp=>?_)
  ·refine ao.seq fun _ aY=>.region<|.q Z (ah Z)<|.nil<|aY _ _<|.rt (by exact be Z (⟨by (rw [QJ (i:=i) ‹¬ ¬ d9 g l=0› O ‹_›];rfl),a6,aa⟩))
  refine ao.skip<|aR _ _<|.region<|.q Z (bN (b:=1) Z Z O)<|.q Z (ae Z)<|.nil ?_;exact ⟨i + 1,rn Z Z Z Z Z,Z,⟨⟨by omega,fun j h=>(Nat.lt_succ_iff_lt_or_eq.1 h).elim (hw j) (fun z=>by subst z;exact Decidable.not_not.1 ‹_›)⟩,a6,aV⟩,O1⟩
 refine ao.exit<|aF _ _<|.seq fun _ aZ=>.seq fun _ b0=>.region<|.q Z (ae Z)<|.q Z (bH (n:=([dv]).length) Uf Z (hds.le V) O (Mu _))<|.q Z (ae Z)<|.nil<|b0 _ _ ?_;refine ao.block<|.loop (X:=Nat) (fun k=>[(3,.pointer (some ⟨b4,0,none⟩)),(25,dsv),(26,num ((([dv]).length:Nat):Int)),(27,num ((k:Nat):Int))]) (fun k B=>(k<=1/\(0 < k->ib g l d=true))/\A.le B/\B.get b4=some (.row true [num (g),u] 2)) (fun k=>1 - k) 0 (ks Z Z Z Z) (⟨⟨Nat.zero_le _,fun h=>by omega⟩,V,D⟩) ?_;rintro k B54 ⟨⟨hk,hd⟩,a0,a1⟩;refine ao.wf fun av=>.seq fun _ b1=>.region<|.q Z (cA Z Z)<|.nil<|b1 _ _<|.seq fun _ b2=>.if rfl (fun br=>?_) (fun br=>?_)
 ·refine ao.skip<|b2 _ _<|.seq fun _ b3=>.block<|.seq fun _ b5=>.region ?_;obtain ⟨bP,bS,bM,c4,bD,bY,bU,az,bc,aB,bA,ag⟩:=bJ.at (i:=k) (hds.le a0) (by simp only [Au];omega) O;refine Ops.q Z (aJ Uf jG Z az Z bc)<|.q Z (ak ns Z Z aB (((dh ag).trans (Ms O)).trans (congrArg some (OC (by have:([dv]:List Value).length=1:=rfl;omega)))))<|.q Z (ah Z)<|.nil<|b5 _ _<|.seq fun _ b6=>.region<|.q Z (am sG iA Z Z a1 Z)<|.q Z (ae Z)<|.l Z (fun _ _ ar _=>aK Z (Ir ((g)) u l dv d B54 hg hn (hu.le a0) (hv.le a0)) ?_);rintro cc A70 ⟨rfl,a5,ab⟩;have b7:=a5.get _ _ a1;have a7:=a0.trans a5;refine ar _ _<|.q Z (eE Z)<|.nil<|b6 _ _<|.ifB Z (fun bu=>?_) (fun bu=>?_)
  ·refine ao.seq fun _ b8=>.region<|.q Z (ah Z)<|.nil<|b8 _ _<|.rt (by exact be Z (⟨by (rw [QK (i:=i) ‹¬ ¬ d9 g l=0› O hw (by simpa using ‹(!ib g l d)=true›)];rfl),a7,ab⟩))
  refine ao.skip<|b3 _ _<|.region<|.q Z (bN (b:=1) Z Z O)<|.q Z (ae Z)<|.nil ?_;exact ⟨k + 1,ks Z Z Z Z,Z,⟨⟨by omega,fun _=>by simpa using ‹(!ib g l d)=false›⟩,a7,b7⟩,O1⟩
 refine ao.exit<|aZ _ _<|.seq fun _ b9=>.region<|.q Z (ah Z)<|.nil<|b9 _ _<|.rt (by exact be Z (⟨by (rw [SD (i:=i) ‹¬ ¬ d9 g l=0› O hw (hd O)];rfl),a0,av⟩))

theorem RJ (g:Int) (u:Value) (l:List (List UInt8)) (dv:Value) (d:List bX) (A:AH) (hp:d9 g l=0) (hd:ib g l d=true) (hu:bJ A 1 u (dc l)) (hv:bJ A 3 dv (cN d)):bG Tryz.prog 129 #[.agg #[num (g),u],dv] A (fun v A1=>v=aX (QF l d)/\A.le A1/\A1.wf):=by
 refine lN Tryz.call129 Tryz.func129 Z Tryz.results129 Tryz.ntmps129 Z (fun wf=>?_);have di:=AH.le.refl A;have hdl:=(uk hd).1;refine ao.seq fun _ h2=>.region<|.l Z (fun _ _ d2 _=>ej wf rfl rfl fun A5 b4 b7=>?_);have b6:=di.trans b7.le;refine d2 _ _<|.q Z (ah Z)<|.nil<|h2 _ _<|.seq fun _ h9=>.region<|.q Z (ah Z)<|.nil<|h9 _ _<|.seq fun _ cu=>?_;refine ao.seq fun _ cv=>.region<|.q Z (ae Z)<|.q Z (bH (n:=d.length) oO Z (hv.le b6) O (ee _))<|.q Z (ae Z)<|.nil<|cv _ _<|.block<|.loop (X:=Nat × List UInt8 × Value) (fun ⟨k,o,s⟩=>[(2,.pointer (some ⟨b4,0,none⟩)),(5,s),(10,dv),(11,num ((d.length:Nat):Int)),(12,num ((k:Nat):Int))]) (fun ⟨k,o,s⟩ B=>(k<=d.length/\(d.drop k).foldl (mA l) o=QF l d/\o.length<=200200 * k)/\A.le B/\Fresh A B s 1 (aw o)/\B.get b4=some (.row true [num (g),u] 2)/\V.blk s ≠ some b4) (fun ⟨k,o,s⟩=>d.length - k) (⟨0,[],.slice none 0 0⟩) (rn Z Z Z Z Z) (⟨⟨Nat.zero_le _,rfl,Nat.zero_le _⟩,b6,(Fresh.nil A A5 1),b7.get,(fun q=>by cases q)⟩) ?_;rintro ⟨k,o,s⟩ B15 ⟨⟨hk,hf,ho⟩,ac,a5,aa,ap⟩;refine ao.wf fun ag=>?_;have hz:=fun q:k < d.length=>zf hd _ (bx (d:=.zero) q);have hzl:=fun q:k < d.length=>kU (hz q).2;have hre:=fun q:k < d.length=>Ry hp (hz q).1;have hrl:k < d.length->(if (d.getD k .zero).inv then inv (l.getD (d.getD k .zero).rel.toNat []) else l.getD (d.getD k .zero).rel.toNat []).length<=200:=fun q=>by have:=(hre q).2;split <;> first | (rw [iZ];exact this) | exact this
 refine ao.seq fun _ cB=>.region<|.q Z (cA Z Z)<|.nil<|cB _ _<|.seq fun _ cC=>.if rfl (fun dj=>?_) (fun dj=>?_)
 ·refine ao.skip<|cC _ _<|.seq fun _ cF=>.block<|.seq fun _ cH=>.region ?_;obtain ⟨dV,dZ,dO,e5,dJ,e3,e1,cc,d3,ch,b8,dI⟩:=bJ.at (i:=k) (hv.le ac) ON O;refine Ops.q Z (aJ oO jz Z cc Z d3)<|.q Z (am yw jz Z Z ch (b8.trans (congrArg some (i8 O))))<|.l Z (fun _ _ bD _=>ca ag IW rfl fun A29 aC a0=>?_);have ai:=ne_new ag aa a0.lo;have c3:=a5.own.ne_new ag a0.lo;have aE:=aL wf (Nat.le_trans ac.n a0.lo);have cK:=a0.le.get _ _ aa;have ba:=a5.le a0.le;have bS:=ac.trans a0.le;refine bD _ _<|.l Z (fun _ _ bL _=>aM (cs:=[aX ((d.getD k .zero).conj),num ((d.getD k .zero).rel),.bool ((d.getD k .zero).inv)]) (c':=[aX ((d.getD k .zero).conj),num ((d.getD k .zero).rel),.bool ((d.getD k .zero).inv)]) a0.wf rfl rfl rfl rfl jz a0.get (Nat.le_of_ble_eq_true rfl) rfl rfl fun A36 h=>?_);have b3:=h.keep _ _ ai cK;have bb:=ba.keep h.keep c3;have aG:=al bS wf aE h.n h.keep;refine bL _ _<|.nil<|cH _ _<|.seq fun _ cP=>.drawn [0,1,2,3,4,5,6,8,9,13,7,10,11,12] mixed Y Y Z<|.q Z Z Z (aj mN fz U Z) ?_;have bv:=dL (off:=0) h.get (show _=some (aX ((d.getD k .zero).conj)) from rfl);refine bj.q Z Z Z (ak gz Z Z h.get Z)<|.q Z Z Z (am sG iA Z Z b3 Z)<|.q Z Z Z (aj BQ dx U Z)<|.q Z Z Z (ak fj Z Z h.get Z)<|.q Z Z Z (aj Rd lJ U Z)<|.q Z Z Z (ak vm Z Z h.get Z)<|.q Z Z Z (aj mN fz U Z) ?_;have bA:=dL (off:=0) h.get (show _=some (aX ((d.getD k .zero).conj)) from rfl);refine bj.q Z Z Z (ak gz Z Z h.get Z)<|.q Z Z Z (ae Z)<|.l Z Z Z (fun _ _ bM _=>aK Z (RP ((g)) u l (((d.getD k .zero).rel)) ((d.getD k .zero).inv) A36 (hz O).1 (hre O).2 (hu.le aG)) ?_);rintro e7 A51 ⟨rfl,a2,dD⟩;have cS:=a2.get _ _ b3;have bc:=bb.le a2;have aF:=cm a2 bv;have bB:=cm a2 bA;have bT:=aG.trans a2;refine bM _ _ (aO.list (L:=[(⟨aC,0,none⟩,aX ((d.getD k .zero).conj)),(⟨aC,0,none⟩,aX ((d.getD k .zero).conj))]) Y (bq bB (bq aF cL)))<|.l Z Z Z (fun _ _ bO _=>aK Z (uW ((d.getD k .zero).conj) A51 (by have:=hzl O;omega)) ?_);rintro e9 A65 ⟨rfl,a4,aB⟩;have cU:=a4.get _ _ cS;have aD:=bc.le a4;have bC:=cm a4 aF;have bU:=bT.trans a4;refine bO _ _ (aO.list (L:=[(⟨aC,0,none⟩,aX ((d.getD k .zero).conj))]) Y (bq bC cL))<|.l Z Z Z (fun _ _ bP _=>aN (c:=[aX ((d.getD k .zero).conj),aX (if (d.getD k .zero).inv then inv (l.getD (((d.getD k .zero).rel)).toNat []) else l.getD (((d.getD k .zero).rel)).toNat []),aX (inv ((d.getD k .zero).conj))]) aB rfl (ax kh fz z9 rfl U U rfl) fun A75 ar a9=>?_);have c4:=aD.own.ne_new aB a9.lo;have cV:=a9.le.get _ _ cU;have bd:=aD.le a9.le;have bV:=bU.trans a9.le;refine bP _ _ (aO.none Y)<|.q Z Z Z (qlen kh Z)<|.done<|cP _ _<|.block<|.loop (X:=Nat × List UInt8 × Value) (fun ⟨j,y,t⟩=>[(2,.pointer (some ⟨b4,0,none⟩)),(5,t),(10,dv),(11,num ((d.length:Nat):Int)),(12,num ((k:Nat):Int)),(27,.slice (some ⟨ar,0,none⟩) 3 3),(28,num ((3:Nat):Int)),(29,num ((j:Nat):Int))]) (fun ⟨j,y,t⟩ B=>(j<=3/\([(d.getD k .zero).conj,if (d.getD k .zero).inv then inv (l.getD (d.getD k .zero).rel.toNat []) else l.getD (d.getD k .zero).rel.toNat [],inv (d.getD k .zero).conj].drop j).flatten.foldl push y=mA l o (d.getD k .zero)/\y.length<=o.length + 100000 * j)/\A.le B/\Fresh A B t 1 (aw y)/\B.get b4=some (.row true [num (g),u] 2)/\B.get ar=some (.row true [aX ((d.getD k .zero).conj),aX (if (d.getD k .zero).inv then inv (l.getD (((d.getD k .zero).rel)).toNat []) else l.getD (((d.getD k .zero).rel)).toNat []),aX (inv ((d.getD k .zero).conj))] 3)/\V.blk t ≠ some b4/\V.blk t ≠ some ar) (fun ⟨j,y,t⟩=>3 - j) (⟨0,o,s⟩) (xd Z Z Z Z Z Z Z Z) (⟨⟨Nat.zero_le _,by simp [mA,yK,NH,List.foldl_append],Nat.le_refl _⟩,bV,bd,cV,a9.get,ap,c4⟩) ?_;rintro ⟨j,y,t⟩ B84 ⟨⟨hj,hy,hyl⟩,aI,a6,ab,a7,a3,ad⟩;refine ao.wf fun aP=>?_;have hWl:∀ x ∈ [(d.getD k .zero).conj,if (d.getD k .zero).inv then inv (l.getD (d.getD k .zero).rel.toNat []) else l.getD (d.getD k .zero).rel.toNat [],inv (d.getD k .zero).conj],x.length<=100000:=by have h1:=hzl O;have h2:=hrl O;intro x hx;simp only [List.mem_cons,List.not_mem_nil,or_false] at hx;rcases hx with rfl | rfl | rfl <;> first | omega | (rw [iZ];omega)
  have b5:[(d.getD k .zero).conj,if (d.getD k .zero).inv then inv (l.getD (d.getD k .zero).rel.toNat []) else l.getD (d.getD k .zero).rel.toNat [],inv (d.getD k .zero).conj].length=3:=rfl;have hWj:=fun q:j < 3=>hWl _ (bx (d:=[]) (k:=j) (by rw [b5];exact q));have hpl:=fU ([(d.getD k .zero).conj,if (d.getD k .zero).inv then inv (l.getD (d.getD k .zero).rel.toNat []) else l.getD (d.getD k .zero).rel.toNat [],inv (d.getD k .zero).conj].getD j []) y;refine ao.seq fun _ cX=>.region<|.q Z (cA (b:=3) Z Z)<|.nil<|cX _ _<|.seq fun _ cZ=>.if rfl (fun dk=>?_) (fun dk=>?_)
  ·refine ao.skip<|cZ _ _<|.seq fun _ d0=>.block<|.seq fun _ d1=>?_;have bY:bJ B84 1 (.slice (some ⟨ar,0,none⟩) 3 3) (dc [(d.getD k .zero).conj,if (d.getD k .zero).inv then inv (l.getD (((d.getD k .zero).rel)).toNat []) else l.getD (((d.getD k .zero).rel)).toNat [],inv ((d.getD k .zero).conj)]):=eR (n:=3) a7 Z (Nat.le_refl _);refine ao.region ?_;obtain ⟨dW,e0,dS,e6,dK,e4,e2,cf,dd,ck,dG,b9⟩:=bJ.at (i:=j) bY Ow O;refine Ops.q Z (aJ kh fz Z cf Z dd)<|.q Z (ak gz Z Z ck ((dh b9).trans (f5 O)))<|.q Z (ah Z)<|.nil<|d1 _ _<|.region<|.q Z (ae Z)<|.q Z (ae Z)<|.l Z (fun _ _ bR _=>vk (s:=([(d.getD k .zero).conj,if (d.getD k .zero).inv then inv (l.getD (((d.getD k .zero).rel)).toNat []) else l.getD (((d.getD k .zero).rel)).toNat [],inv ((d.getD k .zero).conj)]).getD j []) aP rfl u9 eo u5 (by have:=hWj O;omega) fun A99 cb aV D dz=>?_);have b0:=a6.own.ne_new aP D.lo;have bl:=D.le.get _ _ ab;have bm:=D.le.get _ _ a7;have av:=a6.le D.le;have aY:=aI.trans D.le;refine bR _ _ ?_;have aA:=cg (bs:=[blk t]) aY (sj av.lo nf);refine Ops.l Z (fun _ _ aS _=>aK Z (EF t (.slice (some ⟨cb,0,none⟩) (([(d.getD k .zero).conj,if (d.getD k .zero).inv then inv (l.getD (((d.getD k .zero).rel)).toNat []) else l.getD (((d.getD k .zero).rel)).toNat [],inv ((d.getD k .zero).conj)]).getD j []).length aV) y (([(d.getD k .zero).conj,if (d.getD k .zero).inv then inv (l.getD (((d.getD k .zero).rel)).toNat []) else l.getD (((d.getD k .zero).rel)).toNat [],inv ((d.getD k .zero).conj)]).getD j []) (A99.hide [blk t]) A99 (cM A99 [blk t]) (cr D.wf) (av.hide (by simp)) (eR (n:=(([(d.getD k .zero).conj,if (d.getD k .zero).inv then inv (l.getD (((d.getD k .zero).rel)).toNat []) else l.getD (((d.getD k .zero).rel)).toNat [],inv ((d.getD k .zero).conj)]).getD j []).length) (bF (bs:=[blk t]) D.get (ng b0 ka)) (fJ _) O) (by have:=hWj O;omega) O) ?_);rintro c7 A111 ⟨a8,dw,a1⟩;have ay:=bF (bs:=[blk t]) bl (ng a3 ka);have bp:=a8.get _ _ ay;have az:=bF (bs:=[blk t]) bm (ng ad ka);have br:=a8.get _ _ az;have aR:=a1.base aA;have b1:=a1.seph ay;have b2:=a1.seph az;have aZ:=aA.trans a8;refine aS _ _<|.q Z (ah Z)<|.nil<|d0 _ _<|.region<|.q Z (bN (b:=1) Z Z O)<|.q Z (ae Z)<|.nil ?_;exact ⟨⟨j + 1,(([(d.getD k .zero).conj,if (d.getD k .zero).inv then inv (l.getD (((d.getD k .zero).rel)).toNat []) else l.getD (((d.getD k .zero).rel)).toNat [],inv ((d.getD k .zero).conj)]).getD j []).foldl push y,c7⟩,xd Z Z Z Z Z Z Z Z,Z,⟨⟨by omega,rX (by rw [b5];omega) hy Z,by have:=hWj O;omega⟩,aZ,aR,bp,br,b1,b2⟩,O1⟩
  refine ao.exit<|cF _ _<|.region<|.q Z (bN (b:=1) Z Z O)<|.q Z (ae Z)<|.nil ?_;exact ⟨⟨k + 1,mA l o (d.getD k .zero),t⟩,rn Z Z Z Z Z,Z,⟨⟨by omega,FX (d:=.zero) O hf Z,by have:=Nc (l:=l) (o:=o) (hzl O) (hre O).2;omega⟩,aI,(c6 a6 (congrArg aw ((by (rw [show j=3 by omega] at hy;exact hy))))),ab,a3⟩,O1⟩
 refine ao.exit<|cu _ _<|.seq fun _ bu=>.region<|.q Z (ae Z)<|.l Z (fun _ _ aT _=>gU (s:=o) Z eo u9 u5 a5.slc ?_);refine aT _ _<|.q Z (ah Z)<|.nil<|bu _ _<|.rt (by exact be Z (⟨by rw [rz O] at hf;rw [<- hf];rfl,ac,ag⟩))

theorem Iq (g:Int) (u:Value) (l:List (List UInt8)) (dv:Value) (d:List bX) (w:List UInt8) (A:AH) (hn:l.length<=100000000) (hu:bJ A 1 u (dc l)) (hv:bJ A 3 dv (cN d)):bG Tryz.prog 92 #[.agg #[num (g),u],dv,aX (w)] A (fun v A1=>v=num ((lH g l d w:Nat):Int)/\A.le A1/\A1.wf):=by
 refine yl Tryz.call92 Tryz.func92 Z Tryz.results92 Tryz.ntmps92 Z (fun wf=>?_);have b1:=AH.le.refl A;refine ao.seq fun _ h2=>.region<|.l Z (fun _ _ aZ _=>ej wf rfl rfl fun A5 b4 a1=>?_);have b0:=b1.trans a1.le;refine aZ _ _<|.q Z (ah Z)<|.nil<|h2 _ _<|.seq fun _ h9=>.seq fun _ aD=>.region<|.q Z (am sG iA Z Z a1.get Z)<|.q Z (ae Z)<|.l Z (fun _ _ ad _=>aN (c:=[aX (w)]) a1.wf rfl (ax kh fz z9 rfl U U rfl) fun A14 aA D=>?_);have aE:=D.le.get _ _ a1.get;have a5:=b0.trans D.le;refine ad _ _<|.q Z (ae Z) ?_;obtain ⟨a8,a4,a3,b5,_⟩:=(hv.le a5);subst b5;refine Ops.l Z (fun _ _ ag _=>aN (c:=[.slice a8 a4 a3]) D.wf rfl (ax Uf jG UG rfl U U rfl) fun A20 aB V=>?_);have aF:=V.le.get _ _ aE;have aG:=V.le.get _ _ D.get;have X:=a5.trans V.le;refine ag _ _<|.l Z (fun _ _ ai _=>aK Z (Iw ((g)) u l (.slice (some ⟨aA,0,none⟩) 1 1) ([w]) (.slice (some ⟨aB,0,none⟩) 1 1) (.slice a8 a4 a3) d A20 hn (by simp) (hu.le X) (eR (n:=1) aG Z (Nat.le_refl _)) (eR (n:=1) V.get Z (Nat.le_refl _)) (hv.le X)) ?_);rintro b6 A28 ⟨rfl,a0,ab⟩;have aI:=a0.get _ _ aF;have h:=X.trans a0;refine ai _ _<|.q Z (ah Z)<|.nil<|aD _ _<|.seq fun _ aP=>.region<|.q Z (ae Z)<|.q Z (fF (b:=0) Z Z)<|.nil<|aP _ _ ?_;refine ao.if rfl (fun b2=>?_) (fun b2=>?_)
 ·refine ao.seq fun _ aR=>.region<|.q Z (ae Z)<|.q Z (ah Z)<|.nil<|aR _ _<|.rt (by exact be Z (⟨by (rw [lH,if_pos ‹_›];rfl),h,ab⟩))
 refine ao.skip<|h9 _ _<|.seq fun _ aS=>.seq fun _ aT=>.region<|.q Z (am sG iA Z Z aI Z)<|.q Z (ae Z)<|.l Z (fun _ _ ap _=>aK Z (RJ ((g)) u l (.slice a8 a4 a3) d A28 (qm ‹¬ ¬ AL g l [w] [d]=0›).1 (qm ‹¬ ¬ AL g l [w] [d]=0›).2.2 (hu.le h) (hv.le h)) ?_);rintro b7 A45 ⟨rfl,a9,ac⟩;have ay:=h.trans a9;refine ap _ _<|.q Z (ae Z)<|.l Z (fun _ _ ar _=>aN (c:=[aX (w)]) ac rfl (ax kh fz z9 rfl U U rfl) fun A53 aC a7=>?_);have az:=ay.trans a7.le;refine ar _ _<|.l Z (fun _ _ av _=>aK Z (sC (.slice (some ⟨aC,0,none⟩) 1 1) w A53 (by have:=kU ((qm ‹¬ ¬ AL g l [w] [d]=0›).2.1 w (by simp));omega) (eR (n:=1) a7.get Z (Nat.le_refl _))) ?_);rintro b8 A61 ⟨rfl,aa,a2⟩;have a6:=az.trans aa;refine av _ _<|.q Z (oA Z Z)<|.nil<|aT _ _<|.if rfl (fun b3=>?_) (fun b3=>?_)
 ·refine ao.seq fun _ aV=>.region<|.q Z (ah Z)<|.nil<|aV _ _<|.rt (by exact be Z (⟨by (rw [lH,if_neg ‹_›,if_pos ‹_›];rfl),a6,a2⟩))
 refine ao.skip<|aS _ _<|.seq fun _ aY=>.region<|.q Z (ah Z)<|.nil<|aY _ _<|.rt (by exact be Z (⟨by (rw [lH,if_neg ‹_›,if_neg ‹_›];rfl),a6,a2⟩))
end Go.Proofs.YtjppkekmddjcfaaGreatDoor

namespace Go.Proofs.YtjppkekmddjcfaaGreatDoor
open Go Go.RowKit V
set_option maxRecDepth 100000
theorem nw:dF Tryz.prog 83=some true:=by kernel_rfl
theorem kH:eb Tryz.prog 83 1=some (9,1):=by kernel_rfl
theorem iE:eb Tryz.prog 83 2=some (35,2):=by kernel_rfl
theorem Tq:type_of% @Tryz.underlying135:=@Tryz.underlying135
theorem z4:cO Tryz.prog 4=some (.bool false):=by kernel_rfl
theorem rm:cO Tryz.prog 83=some (.agg #[.string ⟨⟨[]⟩⟩,.string ⟨⟨[]⟩⟩,.slice none 0 0]):=by kernel_rfl

theorem z6 (g:Int) (w:List UInt8) (A:AH) (hL:eF A):bG Tryz.prog 91 #[num (g),aX (w)] A (fun v A1=>v=.bool (jV g w)/\A.le A1/\A1.wf):=by
 refine lN Tryz.call91 Tryz.func91 Z Tryz.results91 Tryz.ntmps91 Z (fun wf=>?_);have X:=AH.le.refl A;refine ao.seq fun _ h2=>.region<|.q Z (ah Z)<|.nil<|h2 _ _<|.seq fun _ h4=>.region<|.q Z (ae Z)<|.q Z (d6 u9 Z)<|.q Z (KN (b:=1000) Z Z) ?_;refine Ops.q Z (ae Z)<|.part (t:=8) Z (fun p5=>?_) (fun p5=>?_)
 ·refine Ops.on Z Z<|.q Z (ae Z)<|.on Z Z<|.q Z (ae Z)<|.on Z Z<|.l Z (fun _ _ a4 _=>aK Z (oD (g) w A hL) ?_);rintro v7 A8 ⟨rfl,a2,a3⟩;have h:=X.trans a2;refine a4 _ _<|.on Z Z<|.q Z (oq (b:=0) Z Z)<|.q Z (bi Z Z)<|.q Z (ae Z)<|.part (t:=14) Z (fun a5=>?_) (fun a5=>?_)
  ·refine Ops.on Z Z<|.q Z (ae Z)<|.on Z Z<|.l Z (fun _ _ a0 _=>aK Z (rc w A8 O (hL.le h)) ?_);rintro a6 A14 ⟨rfl,D,V⟩;have a1:=h.trans D;refine a0 _ _<|.on Z Z<|.q Z (ae Z)<|.on Z Z<|.q Z (qQ Z Z)<|.q Z (bi Z Z)<|.q Z (ah Z)<|.nil<|h4 _ _<|.rt (by exact be Z (⟨by simp_all [fg,jV],a1,V⟩))
  refine Ops.off Z Z Z Z<|.off Z Z Z Z<|.off Z Z Z Z<|.off Z Z Z Z<|.q Z (bw Z Z)<|.q Z (ah Z)<|.nil<|h4 _ _<|.rt (by exact be Z (⟨by (rw [show jV g w=false from by simp only [jV,decide_eq_false_iff_not];rintro ⟨q1,q2,q3⟩;first | omega | exact absurd q3 ‹_› | exact absurd q2 ‹_›];rfl),h,a3⟩))
 refine Ops.off Z Z Z Z<|.off Z Z Z Z<|.off Z Z Z Z<|.off Z Z Z Z<|.q Z (bw Z Z)<|.q Z (ae Z)<|.off Z Z Z Z<|.off Z Z Z Z<|.off Z Z Z Z<|.off Z Z Z Z ?_;refine Ops.q Z (bw Z Z)<|.q Z (ah Z)<|.nil<|h4 _ _<|.rt (by exact be Z (⟨by (rw [show jV g w=false from by simp only [jV,decide_eq_false_iff_not];rintro ⟨q1,q2,q3⟩;first | omega | exact absurd q3 ‹_› | exact absurd q2 ‹_›];rfl),X,wf⟩))

theorem IB (w:List UInt8) (g:Int) (b cap:Nat) (rw:Bool) (c1:Value) (A:AH) (hL:eF A) (hb:A.get b=some (.row rw [num g,c1] cap)):bG Tryz.prog 127 #[aX (w),.pointer (some ⟨b,0,none⟩)] A (fun v A1=>v=.bool (tD g w)/\A.le A1/\A1.wf):=by
 refine lN Tryz.call127 Tryz.func127 Z Tryz.results127 Tryz.ntmps127 Z (fun wf=>?_);have D:=AH.le.refl A;refine ao.seq fun _ h2=>.region<|.q Z (ah Z)<|.nil<|h2 _ _<|.seq fun _ h4=>.region<|.q Z (ae Z)<|.q Z (qQ Z Z)<|.q Z (ae Z) ?_;refine Ops.part (t:=6) Z (fun p5=>?_) (fun p5=>?_)
 ·refine Ops.off Z Z Z Z<|.off Z Z Z Z<|.off Z Z Z Z<|.q Z (bi Z Z)<|.q Z (ae Z)<|.off Z Z Z Z<|.off Z Z Z Z<|.off Z Z Z Z<|.off Z Z Z Z<|.off Z Z Z Z ?_;refine Ops.q Z (bi Z Z)<|.q Z (ae Z)<|.off Z Z Z Z<|.off Z Z Z Z<|.off Z Z Z Z<|.off Z Z Z Z<|.q Z (bi Z Z)<|.q Z (ah Z)<|.nil<|h4 _ _ ?_;refine ao.ret ?_;repeat first | with_reducible refine bE ?_ | with_reducible refine bk ?_
  exact be Z (⟨by simp_all [fg,tD] <;> omega,D,wf⟩)
 refine Ops.on Z Z<|.q Z (ae Z)<|.on Z Z<|.q Z (d6 u9 Z)<|.on Z Z<|.q Z (fu (b:=200) Z Z)<|.q Z (bw Z Z)<|.q Z (ae Z)<|.part (t:=11) Z (fun p6=>?_) (fun p6=>?_)
 ·refine Ops.off Z Z Z Z<|.off Z Z Z Z<|.off Z Z Z Z<|.off Z Z Z Z<|.off Z Z Z Z<|.q Z (bi Z Z)<|.q Z (ae Z)<|.off Z Z Z Z<|.off Z Z Z Z<|.off Z Z Z Z ?_;refine Ops.off Z Z Z Z<|.q Z (bi Z Z)<|.q Z (ah Z)<|.nil<|h4 _ _<|.rt (by exact be Z (⟨by simp_all [fg,tD] <;> omega,D,wf⟩))
 refine Ops.on Z Z<|.q Z (aj ia dx U Z)<|.on Z Z<|.q Z (ak fj Z Z (D.get _ _ hb) Z)<|.on Z Z<|.q Z (ae Z)<|.on Z Z<|.l Z (fun _ _ a4 _=>aK Z (oD (g) w A hL) ?_);rintro v8 A9 ⟨rfl,V,a0⟩;have h:=D.trans V;refine a4 _ _<|.on Z Z<|.q Z (fF (b:=0) Z Z)<|.q Z (bw Z Z)<|.q Z (ae Z)<|.part (t:=18) Z (fun a5=>?_) (fun a5=>?_)
 ·refine Ops.off Z Z Z Z<|.off Z Z Z Z<|.off Z Z Z Z<|.off Z Z Z Z<|.q Z (bi Z Z)<|.q Z (ah Z)<|.nil<|h4 _ _<|.rt (by exact be Z (⟨by simp_all [fg,tD] <;> omega,h,a0⟩))
 refine Ops.on Z Z<|.q Z (ae Z)<|.on Z Z<|.l Z (fun _ _ a2 _=>aK Z (rc w A9 O (hL.le h)) ?_);rintro a6 A15 ⟨rfl,X,a1⟩;have a3:=h.trans X;refine a2 _ _<|.on Z Z<|.q Z (ae Z)<|.on Z Z<|.q Z (oA Z Z)<|.q Z (bw Z Z)<|.q Z (ah Z)<|.nil<|h4 _ _<|.rt (by exact be Z (⟨by simp_all [fg,tD] <;> omega,a3,a1⟩))

theorem LN (g:Int) (u:Value) (l:List (List UInt8)) (A:AH) (hn:l.length<=9223372036854775807) (hL:eF A) (hu:bJ A 1 u (dc l)):bG Tryz.prog 90 #[.agg #[num (g),u]] A (fun v A1=>v=.bool (decide (d9 g l=0))/\A.le A1/\A1.wf):=by
 refine iy Tryz.call90 Tryz.func90 Z Tryz.results90 Tryz.ntmps90 Z (fun wf=>?_);have a8:=AH.le.refl A;refine ao.seq fun _ h2=>.region<|.l Z (fun _ _ a7 _=>ej wf rfl rfl fun A5 b4 h=>?_);have D:=a8.trans h.le;refine a7 _ _<|.q Z (ah Z)<|.nil<|h2 _ _<|.seq fun _ h9=>.seq fun _ V=>.region<|.q Z (aj ia dx U Z)<|.q Z (ak fj Z Z h.get Z)<|.q Z (qO Z Z) ?_;refine Ops.q Z (ae Z)<|.part (t:=6) Z (fun a9=>?_) (fun a9=>?_)
 ·refine Ops.off Z Z Z Z<|.off Z Z Z Z<|.off Z Z Z Z<|.q Z (bi Z Z)<|.q Z (ae Z)<|.off Z Z Z Z<|.off Z Z Z Z<|.off Z Z Z Z<|.off Z Z Z Z<|.q Z (bi Z Z) ?_;refine Ops.nil<|V _ _<|.cond_true Z<|.seq fun _ a3=>.region<|.q Z (ah Z)<|.nil<|a3 _ _<|.rt (by exact be Z (⟨by (rw [decide_eq_false (by first | exact xJ ‹_› | exact xK ‹_› | exact xI ‹_›)];rfl),D,h.wf⟩))
 refine Ops.on Z Z<|.q Z (aj ia dx U Z)<|.on Z Z<|.q Z (ak fj Z Z h.get Z)<|.on Z Z<|.q Z (KI Z Z)<|.q Z (bw Z Z)<|.q Z (ae Z)<|.part (t:=11) Z (fun aa=>?_) (fun aa=>?_)
 ·refine Ops.off Z Z Z Z<|.off Z Z Z Z<|.off Z Z Z Z<|.off Z Z Z Z<|.q Z (bi Z Z)<|.nil<|V _ _<|.cond_true Z<|.seq fun _ a4=>.region ?_;refine Ops.q Z (ah Z)<|.nil<|a4 _ _<|.rt (by exact be Z (⟨by (rw [decide_eq_false (by first | exact xJ ‹_› | exact xK ‹_› | exact xI ‹_›)];rfl),D,h.wf⟩))
 refine Ops.on Z Z<|.q Z (aj go ms U Z)<|.on Z Z<|.q Z (ak lU Z Z h.get Z)<|.on Z Z<|.q Z (bH (n:=l.length) kh Z (hu.le D) O (eJ _))<|.on Z Z<|.q Z (fu (b:=60) Z Z)<|.q Z (bw Z Z)<|.nil ?_;refine V _ _<|.if rfl (fun ab=>?_) (fun ab=>?_)
 ·refine ao.seq fun _ a5=>.region<|.q Z (ah Z)<|.nil<|a5 _ _<|.rt (by exact be Z (⟨by (rw [decide_eq_false (by first | exact xJ ‹_› | exact xK ‹_› | exact xI ‹_›)];rfl),D,h.wf⟩))
 refine ao.skip<|h9 _ _<|.seq fun _ a6=>.region<|.q Z (aj go ms U Z)<|.q Z (ak lU Z Z h.get Z)<|.q Z (lg Z Z)<|.l Z (fun _ _ a1 _=>aK Z (sL 127 #[.pointer (some ⟨b4,0,none⟩)] (tD g) u l A5 O (hu.le D) (fun s hs B le wf=>IB s g b4 _ _ _ B ((hL.le D).le le) (le.get _ _ h.get))) ?_);rintro ac A25 ⟨rfl,X,a0⟩;have a2:=D.trans X;refine a1 _ _<|.q Z (ot Z)<|.q Z (ah Z)<|.nil<|a6 _ _<|.rt (by exact be Z (⟨by (by_cases hq:0<=za (tD g) l <;> first | (rw [decide_eq_false (KA O hq)];simp [hq,fg]) | (rw [decide_eq_true (GX O O hq)];simp [hq,fg])),a2,a0⟩))

theorem i3 (g:Int) (u:Value) (l:List (List UInt8)) (rv:Value) (rs:List au) (A:AH) (hn:l.length<=9223372036854775807) (hm:rs.length<=9223372036854775807) (hL:eF A) (hu:bJ A 1 u (dc l)) (hr:bJ A 3 rv (ci rs)) (hp:Proofs A rs):bG Tryz.prog 44 #[.agg #[num (g),u,rv]] A (fun v A1=>v=.bool (cx g l rs)/\A.le A1/\A1.wf):=by
 refine iy Tryz.call44 Tryz.func44 Z Tryz.results44 Tryz.ntmps44 Z (fun wf=>?_);have dV:=AH.le.refl A;refine ao.seq fun _ h2=>.region<|.l Z (fun _ _ dO _=>ej wf rfl rfl fun A5 b4 aV=>?_);have aT:=dV.trans aV.le;refine dO _ _<|.q Z (ah Z)<|.nil<|h2 _ _<|.seq fun _ h9=>.seq fun _ bv=>.region<|.q Z (aj fH iA U Z)<|.q Z (am sG iA Z Z aV.get Z)<|.l Z (fun _ _ cc _=>aK Z (LN ((g)) u l A5 hn (hL.le aT) (hu.le aT)) ?_);rintro ey A14 ⟨rfl,aF,a6⟩;have aP:=aF.get _ _ aV.get;have a8:=aT.trans aF;refine cc _ _<|.q Z (ot Z)<|.q Z (ae Z)<|.part (t:=10) Z (fun dW=>?_) (fun dW=>?_)
 ·refine Ops.off Z Z Z Z<|.off Z Z Z Z<|.off Z Z Z Z<|.off Z Z Z Z<|.q Z (bi Z Z)<|.nil<|bv _ _<|.cond_true Z<|.seq fun _ cV=>.region ?_;refine Ops.q Z (ah Z)<|.nil<|cV _ _<|.rt (by exact be Z (⟨by (rw [PR ‹_›];rfl),a8,a6⟩))
 refine Ops.on Z Z<|.q Z (aj de fw U Z)<|.on Z Z<|.q Z (ak ii Z Z aP Z)<|.on Z Z<|.q Z (bH (n:=rs.length) jw Z (hr.le a8) O (dm _))<|.on Z Z<|.q Z (fu (b:=2000) Z Z)<|.q Z (bw Z Z)<|.nil ?_;refine bv _ _<|.if rfl (fun dZ=>?_) (fun dZ=>?_)
 ·refine ao.seq fun _ cX=>.region<|.q Z (ah Z)<|.nil<|cX _ _<|.rt (by exact be Z (⟨by (rw [PT ‹_›];rfl),a8,a6⟩))
 refine ao.skip<|h9 _ _<|.seq fun _ cZ=>.region<|.l Z (fun _ _ cf _=>mu a6 fun A28 br a9=>?_);have ar:=ne_new a6 aP a9.lo;have aG:=aL wf (Nat.le_trans a8.n a9.lo);have bA:=a9.le.get _ _ aP;have aS:=a8.trans a9.le;refine cf _ _<|.q Z (ah Z)<|.nil<|cZ _ _<|.seq fun _ d0=>.seq fun _ d1=>.region<|.q Z (aj de fw U Z)<|.q Z (ak ii Z Z bA Z)<|.q Z (bH (n:=rs.length) jw Z (hr.le aS) O (dm _)) ?_;refine Ops.q Z (ae Z)<|.nil<|d1 _ _<|.block<|.loop (X:=Nat × Array MapEntry × Nat) (fun ⟨i,es,ck⟩=>[(1,.pointer (some ⟨b4,0,none⟩)),(3,.map (some br)),(18,rv),(19,num ((rs.length:Nat):Int)),(20,num ((i:Nat):Int))]) (fun ⟨i,es,ck⟩ B=>(i<=rs.length/\(∀ j,j < i->gb g l (rs.getD j .zero)=true)/\(jB (rs.take i)).Nodup/\dC aX es (oE (jB (rs.take i))))/\A.le B/\B.get br=some (.obj true (.map es ck))/\B.get b4=some (.row true [num (g),u,rv] 3)) (fun ⟨i,es,ck⟩=>rs.length - i) (⟨0,#[],0⟩) (rn Z Z Z Z Z) (⟨⟨Nat.zero_le _,fun j h=>by omega,by simp [jB],by exact dC.nil⟩,aS,a9.get,bA⟩) ?_;rintro ⟨i,es,ck⟩ B37 ⟨⟨hi,hb,hND,hME⟩,ag,a7,ab⟩;refine ao.wf fun ap=>?_;have hpz:=d5 (Decidable.not_not.1 ‹¬ ¬ d9 g l=0›);refine ao.seq fun _ d2=>.region<|.q Z (cA Z Z)<|.nil<|d2 _ _<|.seq fun _ d3=>.if rfl (fun e0=>?_) (fun e0=>?_)
 ·refine ao.skip<|d3 _ _<|.seq fun _ dd=>.block<|.seq fun _ di=>.region ?_;obtain ⟨ec,eg,e7,ex,e6,ev,en,cS,dS,cU,bM,e5⟩:=bJ.at (i:=i) (hr.le ag) Oj O;refine Ops.q Z (aJ jw d8 Z cS Z dS)<|.q Z (am nw d8 Z Z cU (bM.trans (congrArg some (fZ O))))<|.l Z (fun _ _ ch _=>ca ap rm rfl fun A51 bu V=>?_);have ai:=ne_new ap a7 V.lo;have av:=ne_new ap ab V.lo;have aI:=aL wf (Nat.le_trans ag.n V.lo);have dj:=V.le.get _ _ a7;have dk:=V.le.get _ _ ab;have cH:=ag.trans V.le;refine ch _ _<|.l Z (fun _ _ cu _=>aM (cs:=[aX ((rs.getD i .zero).left),aX ((rs.getD i .zero).right),(rs.getD i .zero).pv]) (c':=[aX ((rs.getD i .zero).left),aX ((rs.getD i .zero).right),(rs.getD i .zero).pv]) V.wf rfl rfl rfl rfl d8 V.get (Nat.le_of_ble_eq_true rfl) (gK (hp.get O)) rfl fun A57 a0=>?_);have bB:=a0.keep _ _ ai dj;have bC:=a0.keep _ _ av dk;have az:=al cH wf aI a0.n a0.keep;refine cu _ _<|.nil<|di _ _<|.seq fun _ dv=>.seq fun _ aC=>.region<|.q Z (ae Z)<|.q Z (aj eW fz U Z)<|.q Z (ak gz Z Z a0.get Z)<|.l Z (fun _ _ cv _=>Dn (L:=jB (rs.take i)) Z Z Tq u9 z4 bB hME ?_);refine cv _ _<|.q Z (ae Z)<|.part (t:=28) Z (fun e1=>?_) (fun e1=>?_)
  ·refine Ops.off Z Z Z Z<|.off Z Z Z Z<|.off Z Z Z Z<|.off Z Z Z Z<|.off Z Z Z Z<|.off Z Z Z Z<|.off Z Z Z Z<|.q Z (bi Z Z)<|.q Z (ae Z)<|.off Z Z Z Z ?_;refine Ops.off Z Z Z Z<|.off Z Z Z Z<|.off Z Z Z Z<|.off Z Z Z Z<|.off Z Z Z Z<|.off Z Z Z Z<|.q Z (bi Z Z)<|.q Z (ae Z)<|.off Z Z Z Z<|.off Z Z Z Z ?_;refine Ops.off Z Z Z Z<|.off Z Z Z Z<|.off Z Z Z Z<|.off Z Z Z Z<|.q Z (bi Z Z)<|.nil<|aC _ _<|.cond_true Z<|.seq fun _ dw=>.region ?_;refine Ops.q Z (ah Z)<|.nil<|dw _ _<|.rt (by exact be Z (⟨by (rw [PW (i:=i) O ‹_›];rfl),az,a0.wf⟩))
  refine Ops.on Z Z<|.q Z (aj fH iA U Z)<|.on Z Z<|.q Z (aj ia dx U Z)<|.on Z Z<|.q Z (ak fj Z Z bC Z)<|.on Z Z<|.q Z (aj eW fz U Z)<|.on Z Z<|.q Z (ak gz Z Z a0.get Z) ?_;refine Ops.on Z Z<|.l Z (fun _ _ cB _=>aK Z (z6 (g) ((rs.getD i .zero).left) A57 (hL.le az)) ?_);rintro ez A73 ⟨rfl,a2,bl⟩;have dz:=a2.get _ _ bB;have bD:=a2.get _ _ bC;have bL:=a2.get _ _ a0.get;have aA:=az.trans a2;refine cB _ _<|.on Z Z<|.q Z (eE Z)<|.q Z (bw Z Z)<|.q Z (ae Z)<|.partB (t:=37) Z (fun e2=>?_) (fun e2=>?_)
  ·refine Ops.off Z Z Z Z<|.off Z Z Z Z<|.off Z Z Z Z<|.off Z Z Z Z<|.off Z Z Z Z<|.off Z Z Z Z<|.off Z Z Z Z<|.q Z (bi Z Z)<|.q Z (ae Z)<|.off Z Z Z Z ?_;refine Ops.off Z Z Z Z<|.off Z Z Z Z<|.off Z Z Z Z<|.off Z Z Z Z<|.off Z Z Z Z<|.q Z (bi Z Z)<|.nil<|aC _ _<|.cond_true Z<|.seq fun _ dD=>?_;refine ao.region<|.q Z (ah Z)<|.nil<|dD _ _<|.rt (by exact be Z (⟨by (rw [tl (i:=i) O (by first | exact qS ‹_› | exact qT ‹_› | exact qW ‹_› | exact qX ‹_›)];rfl),aA,bl⟩))
  refine Ops.on Z Z<|.q Z (aj fH iA U Z)<|.on Z Z<|.q Z (aj ia dx U Z)<|.on Z Z<|.q Z (ak fj Z Z bD Z)<|.on Z Z<|.q Z (aj kH fz U Z)<|.on Z Z<|.q Z (ak gz Z Z bL Z) ?_;refine Ops.on Z Z<|.l Z (fun _ _ cC _=>aK Z (z6 (g) ((rs.getD i .zero).right) A73 (hL.le aA)) ?_);rintro eA A84 ⟨rfl,a3,bm⟩;have dG:=a3.get _ _ dz;have dI:=a3.get _ _ bD;have aR:=a3.get _ _ bL;have aB:=aA.trans a3;refine cC _ _<|.on Z Z<|.q Z (eE Z)<|.q Z (bw Z Z)<|.q Z (ae Z)<|.partB (t:=46) Z (fun e3=>?_) (fun e3=>?_)
  ·refine Ops.off Z Z Z Z<|.off Z Z Z Z<|.off Z Z Z Z<|.off Z Z Z Z<|.off Z Z Z Z<|.off Z Z Z Z<|.q Z (bi Z Z)<|.nil<|aC _ _<|.cond_true Z ?_;refine ao.seq fun _ dJ=>.region<|.q Z (ah Z)<|.nil<|dJ _ _<|.rt (by exact be Z (⟨by (rw [tl (i:=i) O (by first | exact qS ‹_› | exact qT ‹_› | exact qW ‹_› | exact qX ‹_›)];rfl),aB,bm⟩))
  refine Ops.on Z Z<|.q Z (aj kH fz U Z)<|.on Z Z<|.q Z (ak gz Z Z aR Z)<|.on Z Z<|.q Z (aj eW fz U Z)<|.on Z Z<|.q Z (ak gz Z Z aR Z)<|.on Z Z<|.l Z (fun _ _ cF _=>aK Z (ww ((rs.getD i .zero).right) ((rs.getD i .zero).left) A84 (by (have:=jW (sK ‹(!jV g (rs.getD i .zero).right)=false›);omega)) (by (have:=jW (sK ‹(!jV g (rs.getD i .zero).left)=false›);omega)) (hL.le aB)) ?_);rintro eC A95 ⟨rfl,a4,bp⟩;have dK:=a4.get _ _ dG;have aD:=a4.get _ _ dI;have aa:=a4.get _ _ aR;have ac:=aB.trans a4;refine cF _ _<|.on Z Z<|.q Z (pz Z Z)<|.q Z (bw Z Z)<|.nil<|aC _ _<|.if rfl (fun cK=>?_) (fun cK=>?_)
  ·refine ao.seq fun _ bO=>.region<|.q Z (ah Z)<|.nil<|bO _ _<|.rt (by exact be Z (⟨by (rw [tl (i:=i) O (by first | exact qS ‹_› | exact qT ‹_› | exact qW ‹_› | exact qX ‹_›)];rfl),ac,bp⟩))
  refine ao.skip<|dv _ _<|.seq fun _ bP=>.seq fun _ bR=>.drawn [0,1,2,3,4,5,6,7,8,9,10,11] mixed Y Y Z<|.q Z Z Z (aj fH iA U Z) ?_;have b0:=dL (off:=0) aD (show _=some (num (g)) from rfl);have b1:=dL (off:=1) aD (show _=some (u) from rfl);refine bj.q Z Z Z (am sG iA Z Z aD Z)<|.q Z Z Z (aj iE jG U Z) ?_;have b2:=dL (off:=2) aa (show _=some ((rs.getD i .zero).pv) from rfl);refine bj.q Z Z Z (ak ns Z Z aa Z)<|.q Z Z Z (aj eW fz U Z) ?_;have b3:=dL (off:=0) aa (show _=some (aX ((rs.getD i .zero).left)) from rfl);refine bj.q Z Z Z (ak gz Z Z aa Z)<|.q Z Z Z (aj kH fz U Z)<|.q Z Z Z (ak gz Z Z aa Z)<|.l Z Z Z (fun _ _ b9 _=>aK Z (Ik ((rs.getD i .zero).right) A95 (by (have:=jW (sK ‹(!jV g (rs.getD i .zero).right)=false›);omega)) (hL.le ac)) ?_);rintro e9 A115 ⟨rfl,D,e4⟩;have bS:=D.get _ _ dK;have bT:=D.get _ _ aD;have bU:=D.get _ _ aa;have b5:=cm D b0;have b6:=cm D b1;have b7:=cm D b2;have b8:=cm D b3;have ad:=ac.trans D;refine b9 _ _ (aO.list (L:=[(⟨bu,0,none⟩,aX ((rs.getD i .zero).left)),(⟨bu,2,none⟩,(rs.getD i .zero).pv),(⟨b4,0,none⟩,num (g)),(⟨b4,1,none⟩,u)]) Y (bq b8 (bq b7 (bq b5 (bq b6 cL)))))<|.q Z Z Z (uA Z Z (by (have h1:=jW (sK ‹(!jV g (rs.getD i .zero).right)=false›);have h2:=jW (sK ‹(!jV g (rs.getD i .zero).left)=false›);have h3:=sM (rs.getD i .zero).right;omega)))<|.l Z Z Z (fun _ _ ba _=>aK Z (Iq ((g)) u l ((rs.getD i .zero).pv) ((rs.getD i .zero).proof) (((rs.getD i .zero).left) ++ (gO ((rs.getD i .zero).right))) A115 O (hu.le ad) ((hp.get O).le ad)) ?_);rintro ea A128 ⟨rfl,a1,ay⟩;have bV:=a1.get _ _ bS;have bY:=a1.get _ _ bT;have c3:=a1.get _ _ bU;have aE:=ad.trans a1;refine ba _ _ (aO.none Y)<|.q Z Z Z (fF (b:=0) Z Z)<|.done<|bR _ _<|.if rfl (fun cP=>?_) (fun cP=>?_)
  ·refine ao.seq fun _ c4=>.region<|.q Z (ah Z)<|.nil<|c4 _ _<|.rt (by exact be Z (⟨by (rw [tl (i:=i) O (by first | exact qS ‹_› | exact qT ‹_› | exact qW ‹_› | exact qX ‹_›)];rfl),aE,ay⟩))
  refine ao.skip<|bP _ _<|.region<|.q Z (ae Z)<|.q Z (aj eW fz U Z)<|.q Z (ak gz Z Z c3 Z)<|.l Z (fun _ _ bb _=>Dr (L:=jB (rs.take i)) ay rfl rfl rfl Tq u9 bV hME hND ‹_› fun A142 aZ aY a5 bd=>?_);have c7:=a5.keep _ _ ar bY;have bc:=al aE wf aG a5.n a5.keep;refine bb _ _<|.nil<|dd _ _<|.region<|.q Z (bN (b:=1) Z Z O)<|.q Z (ae Z)<|.nil ?_;exact ⟨⟨i + 1,aZ,aY⟩,rn Z Z Z Z Z,Z,⟨⟨by omega,fun j h=>(Nat.lt_succ_iff_lt_or_eq.1 h).elim (hb j) (fun z=>by subst z;exact Lg ‹_› ‹_› ‹_› ‹_›),Cd O hND ‹_›,by rw [un O];exact bd⟩,bc,a5.get,c7⟩,O1⟩
 refine ao.exit<|d0 _ _<|.seq fun _ cb=>.region<|.q Z (ah Z)<|.nil<|cb _ _<|.rt (by exact be Z (⟨by (rw [PX ‹_› ‹_› O hb hND];rfl),ag,ap⟩))

theorem EB (g:Int) (u:Value) (l:List (List UInt8)) (rv:Value) (rs:List au) (A:AH) (hn:l.length<=9223372036854775807) (hm:rs.length<=9223372036854775807) (hL:eF A) (hu:bJ A 1 u (dc l)) (hr:bJ A 3 rv (ci rs)) (hp:Proofs A rs):bG Tryz.prog 12 #[.agg #[num (g),u,rv]] A (fun v A1=>v=num (((if cx g l rs then 0 else 100:Nat)):Int)/\A.le A1/\A1.wf):=by
 refine iy Tryz.call12 Tryz.func12 Z Tryz.results12 Tryz.ntmps12 Z (fun wf=>?_);have a6:=AH.le.refl A;refine ao.seq fun _ h2=>.region<|.l Z (fun _ _ a5 _=>ej wf rfl rfl fun A5 b4 a0=>?_);have h:=a6.trans a0.le;refine a5 _ _<|.q Z (ah Z)<|.nil<|h2 _ _<|.seq fun _ h9=>.seq fun _ a2=>.region<|.q Z (am dn cT Z Z a0.get Z)<|.l Z (fun _ _ a1 _=>aK Z (i3 ((g)) u l rv rs A5 hn hm (hL.le h) (hu.le h) (hr.le h) (hp.le h)) ?_);rintro a8 A14 ⟨rfl,X,D⟩;have V:=h.trans X;refine a1 _ _<|.q Z (eE Z)<|.nil<|a2 _ _<|.ifB Z (fun a7=>?_) (fun a7=>?_)
 ·refine ao.seq fun _ a3=>.region<|.q Z (ah Z)<|.nil<|a3 _ _<|.rt (by exact be Z (⟨by (rw [if_neg (by simpa using ‹(!cx g l rs)=true›)];rfl),V,D⟩))
 refine ao.skip<|h9 _ _<|.seq fun _ a4=>.region<|.q Z (ah Z)<|.nil<|a4 _ _<|.rt (by exact be Z (⟨by (rw [if_pos (by simpa using ‹(!cx g l rs)=false›)];rfl),V,D⟩))
end Go.Proofs.YtjppkekmddjcfaaGreatDoor

namespace Go.Proofs.YtjppkekmddjcfaaGreatDoor
open Go Go.RowKit V
set_option maxRecDepth 100000


end Go.Proofs.YtjppkekmddjcfaaGreatDoor

namespace Go.Proofs.YtjppkekmddjcfaaGreatDoor
open Go Go.RowKit V
set_option maxRecDepth 100000


theorem xZ (g:Nat) (caps:Array Value) (q:au->Bool) (rv:Value) (rs:List au) (A:AH) (hn:rs.length<=9223372036854775807) (hr:bJ A 3 rv (ci rs)) (hf:∀ r,r ∈ rs->∀ B,A.le B->B.wf->bG Tryz.prog g (#[] ++ #[.agg #[aX r.left,aX r.right,r.pv]] ++ caps) B (fun v B1=>v=.bool (q r)/\B.le B1/\B1.wf)):bG Tryz.prog 103 #[rv,.func (.func g) #[] caps] A (fun v A1=>v=num (za q rs)/\A.le A1/\A1.wf):=by
 refine lN Tryz.call103 Tryz.func103 Z Tryz.results103 Tryz.ntmps103 Z (fun wf=>?_);have a2:=AH.le.refl A;refine ao.seq fun _ h2=>.region<|.q Z (ah Z)<|.nil<|h2 _ _<|.seq fun _ h4=>.seq fun _ h6=>.region<|.q Z (ae Z)<|.q Z (bH (n:=rs.length) jw Z (hr.le a2) O (dm _)) ?_;refine Ops.q Z (ae Z)<|.nil<|h6 _ _<|.block<|.loop (X:=Nat) (fun k=>[(0,rv),(1,.func (.func g) #[] caps),(7,num ((rs.length:Nat):Int)),(8,num ((k:Nat):Int))]) (fun k B=>(k<=rs.length/\∀ j,j < k->q (rs.getD j .zero)=false)/\A.le B) (fun k=>rs.length - k) 0 (ks Z Z Z Z) (⟨⟨by omega,fun j h=>by omega⟩,a2⟩) ?_;rintro k B8 ⟨⟨hk,hq⟩,D⟩;refine ao.wf fun a3=>.seq fun _ a8=>.region<|.q Z (cA Z Z)<|.nil<|a8 _ _<|.seq fun _ a9=>.if rfl (fun ap=>?_) (fun ap=>?_)
 ·refine ao.skip<|a9 _ _<|.seq fun _ aa=>.block<|.seq fun _ ab=>.region<|.q Z (ae Z)<|.q Z (ah Z)<|.nil<|ab _ _ ?_;refine ao.seq fun _ ac=>.region<|.q Z (ae Z)<|.q Z (ae Z)<|.q Z (ae Z) ?_;obtain ⟨aA,aB,az,aE,ay,aD,aC,a6,ai,a7,a4,av⟩:=bJ.at (i:=k) (hr.le D) Oj O;refine Ops.q Z (aJ jw d8 Z a6 Z ai)<|.q Z (am nw d8 Z Z a7 (a4.trans (congrArg some (fZ O))))<|.l Z (fun _ _ a5 _=>np Z Z (hf ((rs.getD k .zero)) (bx (d:=au.zero) O) B8 D a3) ?_);rintro aF A24 ⟨rfl,a0,a1⟩;have V:=D.trans a0;refine a5 _ _<|.nil<|ac _ _<|.ifB Z (fun ar=>?_) (fun ar=>?_)
  ·refine ao.seq fun _ ad=>.region<|.q Z (ae Z)<|.q Z (ah Z)<|.nil<|ad _ _<|.rt (by exact be Z (⟨by rw [vQ (d:=.zero) OK hq ‹_›];rfl,V,a1⟩))
  refine ao.skip<|aa _ _<|.region<|.q Z (bN (b:=1) Z Z O)<|.q Z (ae Z)<|.nil ?_;exact ⟨k + 1,ks Z Z Z Z,Z,⟨⟨by omega,fun j h=>(Nat.lt_succ_iff_lt_or_eq.1 h).elim (hq j) (fun z=>by subst z;assumption)⟩,V⟩,O1⟩
 refine ao.exit<|h4 _ _<|.seq fun _ ag=>.region<|.q Z (ah Z)<|.nil<|ag _ _<|.rt (by exact be Z (⟨by rw [zb (d:=.zero) (fun j h=>hq j O)];rfl,D,a3⟩))

theorem nh (g:Nat) (caps:Array Value) (q:au->Bool) (rv:Value) (rs:List au) (A:AH) (hn:rs.length<=9223372036854775807) (hr:bJ A 3 rv (ci rs)) (hf:∀ r,r ∈ rs->∀ B,A.le B->B.wf->bG Tryz.prog g (#[] ++ #[.agg #[aX r.left,aX r.right,r.pv]] ++ caps) B (fun v B1=>v=.bool (q r)/\B.le B1/\B1.wf)):bG Tryz.prog 50 #[rv,.func (.func g) #[] caps] A (fun v A1=>v=.bool (decide (0<=za q rs))/\A.le A1/\A1.wf):=by
 refine lN Tryz.call50 Tryz.func50 Z Tryz.results50 Tryz.ntmps50 Z (fun wf=>?_);have h:=AH.le.refl A;refine ao.seq fun _ h2=>.region<|.q Z (ah Z)<|.nil<|h2 _ _<|.seq fun _ h4=>.region<|.q Z (ae Z)<|.q Z (ae Z)<|.l Z (fun _ _ X _=>aK Z (xZ g caps q rv rs A hn (hr.le h) (fun s hs B le wf=>hf s hs B (h.trans le) wf)) ?_);rintro v6 A7 ⟨rfl,D,V⟩;have a0:=h.trans D;refine X _ _<|.q Z (pz Z Z)<|.q Z (ah Z)<|.nil<|h4 _ _<|.rt (by exact be Z (⟨Z,a0,V⟩))

theorem RK (r:au) (w:List UInt8) (b cap:Nat) (rw:Bool) (A:AH) (hM:nr A) (hw:w.length<=1000000) (hb:A.get b=some (.row rw [aX w] cap)):bG Tryz.prog 100 #[.agg #[aX (r.left),aX (r.right),r.pv],.pointer (some ⟨b,0,none⟩)] A (fun v A1=>v=.bool (decide (0<=MN w r.left 0))/\A.le A1/\A1.wf):=by
 refine lN Tryz.call100 Tryz.func100 Z Tryz.results100 Tryz.ntmps100 Z (fun wf=>?_);have a0:=AH.le.refl A;refine ao.seq fun _ h2=>.region<|.l Z (fun _ _ X _=>ej wf rfl rfl fun A5 b4 D=>?_);have h:=a0.trans D.le;refine X _ _<|.q Z (ah Z)<|.nil<|h2 _ _<|.seq fun _ h9=>.region<|.q Z (ak gz Z Z (h.get _ _ hb) Z)<|.q Z (aj eW fz U Z)<|.q Z (ak gz Z Z D.get Z)<|.l Z (fun _ _ V _=>aK Z (CQ w r.left A5 (hM.le h) O) ?_);rintro a1 A12 ⟨rfl,rfl⟩;refine V _ _<|.q Z (ah Z)<|.nil<|h9 _ _<|.rt (by exact be Z (⟨Z,h,D.wf⟩))

theorem EH (g:Int) (u:Value) (l:List (List UInt8)) (rv:Value) (rs:List au) (w:List UInt8) (A:AH) (hn:rs.length<=9223372036854775807) (hw:w.length<=1000000) (hL:eF A) (hM:nr A) (hu:bJ A 1 u (dc l)) (hr:bJ A 3 rv (ci rs)):bG Tryz.prog 48 #[.agg #[num (g),u,rv],aX (w)] A (fun v A1=>v=.bool (ym rs w)/\A.le A1/\A1.wf):=by
 refine lN Tryz.call48 Tryz.func48 Z Tryz.results48 Tryz.ntmps48 Z (fun wf=>?_);have ap:=AH.le.refl A;refine ao.seq fun _ h2=>.region<|.l Z (fun _ _ ad _=>ej wf rfl rfl fun A5 b4 a0=>?_);have ai:=ap.trans a0.le;refine ad _ _<|.l Z (fun _ _ ag _=>ej a0.wf rfl rfl fun A10 b9 h=>?_);have aa:=h.le.get _ _ a0.get;have X:=ai.trans h.le;refine ag _ _<|.q Z (ah Z)<|.nil<|h2 _ _<|.seq fun _ a4=>.drawn [0,2,1,3,4,5,6,7,8,9,10,11] mixed Y Y Z<|.q Z Z Z (ak gz Z Z h.get Z) ?_;have a5:=dL (off:=0) h.get (show _=some (aX (w)) from rfl);refine bj.q Z Z Z (ak gz Z Z h.get Z)<|.l Z Z Z (fun _ _ a7 _=>aK Z (rc w A10 O (hL.le X)) ?_);rintro av A20 ⟨rfl,D,a2⟩;have ab:=D.get _ _ aa;have ac:=D.get _ _ h.get;have a6:=cm D a5;have V:=X.trans D;refine a7 _ _ (aO.list (L:=[(⟨b9,0,none⟩,aX (w))]) Y (bq a6 cL))<|.q Z Z Z (qQ Z Z)<|.q Z Z Z (ae Z)<|.part (t:=9) Z (fun ar=>?_) (fun ar=>?_)
 ·refine bj.qOn Z Z Z Z Z (aj de fw U Z)<|.qOn Z Z Z Z Z (ak ii Z Z ab Z)<|.qOn Z Z Z Z Z (lg Z Z)<|.lOn Z Z Z Z Z (fun _ _ a8 _=>aK Z (nh 100 #[.pointer (some ⟨b9,0,none⟩)] (fun r:au=>decide (0<=MN w r.left 0)) rv rs A20 O (hr.le V) (fun r hs B le wf=>RK r w b9 _ _ B ((hM.le V).le le) O (le.get _ _ ac))) ?_);rintro ay A31 ⟨rfl,a1,a3⟩;have a9:=V.trans a1;refine a8 _ _ (aO.none Y)<|.qOn Z Z Z Z Z (ot Z)<|.q Z Z Z (bi Z Z)<|.q Z Z Z (ah Z)<|.done<|a4 _ _<|.rt (by exact be Z (⟨by (rw [Oc ‹_›,<- decide_not];rfl),a9,a3⟩))
 refine bj.qOff Z Z Z Z Z Z<|.qOff Z Z Z Z Z Z<|.qOff Z Z Z Z Z Z<|.lOff Z Z Z Z Z Z<|.qOff Z Z Z Z Z Z<|.q Z Z Z (bw Z Z)<|.q Z Z Z (ah Z)<|.done<|a4 _ _<|.rt (by exact be Z (⟨by (rw [JP ‹_›];rfl),V,a2⟩))

theorem LR (g:Int) (u:Value) (l:List (List UInt8)) (rv:Value) (rs:List au) (w:List UInt8) (A:AH) (hn:rs.length<=9223372036854775807) (hw:w.length<=1000000) (h0:0 < w.length) (hL:eF A) (hM:nr A) (hu:bJ A 1 u (dc l)) (hr:bJ A 3 rv (ci rs)):bG Tryz.prog 52 #[.agg #[num (g),u,rv],aX (w)] A (fun v A1=>v=.bool (ym rs (w.take (w.length - 1)) && ym rs (w.drop 1))/\A.le A1/\A1.wf):=by
 refine lN Tryz.call52 Tryz.func52 Z Tryz.results52 Tryz.ntmps52 Z (fun wf=>?_);have a8:=AH.le.refl A;refine ao.seq fun _ h2=>.region<|.l Z (fun _ _ a7 _=>ej wf rfl rfl fun A5 b4 X=>?_);have D:=a8.trans X.le;refine a7 _ _<|.q Z (ah Z)<|.nil<|h2 _ _<|.seq fun _ h9=>.drawn [0,1,2,3,4,5,6,7,8,9,10,11,12,13] mixed Y Y Z<|.q Z Z Z (am dn cT Z Z X.get Z)<|.q Z Z Z (ae Z)<|.q Z Z Z (ae Z)<|.q Z Z Z (d6 u9 Z) ?_;refine bj.q Z Z Z (jc (b:=1) Z Z O)<|.q Z Z Z (Ej u9 Z Z O)<|.l Z Z Z (fun _ _ a3 _=>aK Z (EH ((g)) u l rv rs (w.take (w.length - 1)) A5 hn Ox (hL.le D) (hM.le D) (hu.le D) (hr.le D)) ?_);rintro aa A15 ⟨rfl,V,a1⟩;have a6:=V.get _ _ X.get;have h:=D.trans V;refine a3 _ _ (aO.none Y)<|.q Z Z Z (ae Z)<|.partB (t:=12) Z (fun a9=>?_) (fun a9=>?_)
 ·refine bj.qOn Z Z Z Z Z (am dn cT Z Z a6 Z)<|.qOn Z Z Z Z Z (ae Z)<|.qOn Z Z Z Z Z (zF (i:=1) u9 Z Z O)<|.lOn Z Z Z Z Z (fun _ _ a4 _=>aK Z (EH ((g)) u l rv rs (w.drop 1) A15 hn Ox (hL.le h) (hM.le h) (hu.le h) (hr.le h)) ?_);rintro ab A28 ⟨rfl,a0,a2⟩;have a5:=h.trans a0;refine a4 _ _ (aO.none Y)<|.q Z Z Z (bi Z Z)<|.q Z Z Z (ah Z)<|.done<|h9 _ _<|.rt (by exact be Z (⟨by simp_all [fg],a5,a2⟩))
 refine bj.qOff Z Z Z Z Z Z<|.qOff Z Z Z Z Z Z<|.qOff Z Z Z Z Z Z<|.lOff Z Z Z Z Z Z<|.q Z Z Z (bw Z Z)<|.q Z Z Z (ah Z)<|.done<|h9 _ _<|.rt (by exact be Z (⟨by simp_all [fg],h,a1⟩))

theorem lI (g:Int) (u:Value) (l:List (List UInt8)) (rv:Value) (rs:List au) (w:List UInt8) (A:AH) (hn:l.length<=9223372036854775807) (hm:rs.length<=9223372036854775807) (hL:eF A) (hM:nr A) (hu:bJ A 1 u (dc l)) (hr:bJ A 3 rv (ci rs)) (hp:Proofs A rs):bG Tryz.prog 14 #[.agg #[num (g),u,rv],aX (w)] A (fun v A1=>v=.bool (cx g l rs && decide (co g w=0) && ym rs w)/\A.le A1/\A1.wf):=by
 refine lN Tryz.call14 Tryz.func14 Z Tryz.results14 Tryz.ntmps14 Z (fun wf=>?_);have ad:=AH.le.refl A;refine ao.seq fun _ h2=>.region<|.l Z (fun _ _ ac _=>ej wf rfl rfl fun A5 b4 a1=>?_);have D:=ad.trans a1.le;refine ac _ _<|.q Z (ah Z)<|.nil<|h2 _ _<|.seq fun _ h9=>.region<|.q Z (am dn cT Z Z a1.get Z)<|.l Z (fun _ _ a7 _=>aK Z (i3 ((g)) u l rv rs A5 hn hm (hL.le D) (hu.le D) (hr.le D) (hp.le D)) ?_);rintro ap A12 ⟨rfl,X,a3⟩;have a6:=X.get _ _ a1.get;have V:=D.trans X;refine a7 _ _<|.q Z (ae Z)<|.partB (t:=7) Z (fun ag=>?_) (fun ag=>?_)
 ·refine Ops.on Z Z<|.q Z (aj fH iA U Z)<|.on Z Z<|.q Z (aj ia dx U Z)<|.on Z Z<|.q Z (ak fj Z Z a6 Z)<|.on Z Z<|.q Z (ae Z)<|.on Z Z<|.l Z (fun _ _ a8 _=>aK Z (oD (g) w A12 (hL.le V)) ?_);rintro ar A19 ⟨rfl,a0,a4⟩;have ab:=a0.get _ _ a6;have h:=V.trans a0;refine a8 _ _<|.on Z Z<|.q Z (oq (b:=0) Z Z)<|.q Z (bi Z Z)<|.q Z (ae Z)<|.part (t:=15) Z (fun ai=>?_) (fun ai=>?_)
  ·refine Ops.on Z Z<|.q Z (am dn cT Z Z ab Z)<|.on Z Z<|.q Z (ae Z)<|.on Z Z<|.l Z (fun _ _ a9 _=>aK Z (EH ((g)) u l rv rs w A19 hm (by have:=kU ‹co g w=0›;omega) (hL.le h) (hM.le h) (hu.le h) (hr.le h)) ?_);rintro av A26 ⟨rfl,a2,a5⟩;have aa:=h.trans a2;refine a9 _ _<|.q Z (bi Z Z)<|.q Z (ah Z)<|.nil<|h9 _ _<|.rt (by exact be Z (⟨by simp_all [fg],aa,a5⟩))
  refine Ops.off Z Z Z Z<|.off Z Z Z Z<|.off Z Z Z Z<|.q Z (bw Z Z)<|.q Z (ah Z)<|.nil<|h9 _ _<|.rt (by exact be Z (⟨by simp_all [fg],h,a4⟩))
 refine Ops.off Z Z Z Z<|.off Z Z Z Z<|.off Z Z Z Z<|.off Z Z Z Z<|.off Z Z Z Z<|.off Z Z Z Z<|.q Z (bw Z Z)<|.q Z (ae Z)<|.off Z Z Z Z<|.off Z Z Z Z ?_;refine Ops.off Z Z Z Z<|.q Z (bw Z Z)<|.q Z (ah Z)<|.nil<|h9 _ _<|.rt (by exact be Z (⟨by simp_all [fg],V,a3⟩))

theorem LQ (r:au) (g:Int) (u:Value) (l:List (List UInt8)) (rv:Value) (rs:List au) (b cap:Nat) (rw:Bool) (A:AH) (hm:rs.length<=9223372036854775807) (hll:r.left.length<=1000/\r.right.length<=1000/\0 < r.left.length) (hL:eF A) (hM:nr A) (hu:bJ A 1 u (dc l)) (hr:bJ A 3 rv (ci rs)) (hb:A.get b=some (.row rw [num g,u,rv] cap)):bG Tryz.prog 51 #[.agg #[aX (r.left),aX (r.right),r.pv],.pointer (some ⟨b,0,none⟩)] A (fun v A1=>v=.bool (nX rs r)/\A.le A1/\A1.wf):=by
 refine lN Tryz.call51 Tryz.func51 Z Tryz.results51 Tryz.ntmps51 Z (fun wf=>?_);have a8:=AH.le.refl A;refine ao.seq fun _ h2=>.region<|.l Z (fun _ _ a7 _=>ej wf rfl rfl fun A5 b4 X=>?_);have D:=a8.trans X.le;refine a7 _ _<|.q Z (ah Z)<|.nil<|h2 _ _<|.seq fun _ h9=>.region<|.q Z (am dn cT Z Z (D.get _ _ hb) Z)<|.q Z (aj kH fz U Z)<|.q Z (ak gz Z Z X.get Z)<|.l Z (fun _ _ a3 _=>aK Z (EH ((g)) u l rv rs r.right A5 hm O (hL.le D) (hM.le D) (hu.le D) (hr.le D)) ?_);rintro aa A12 ⟨rfl,V,a1⟩;have a6:=V.get _ _ X.get;have h:=D.trans V;refine a3 _ _<|.q Z (eE Z)<|.q Z (ae Z)<|.partB (t:=9) Z (fun a9=>?_) (fun a9=>?_)
 ·refine Ops.off Z Z Z Z<|.off Z Z Z Z<|.off Z Z Z Z<|.off Z Z Z Z<|.off Z Z Z Z<|.q Z (bi Z Z)<|.q Z (ah Z)<|.nil<|h9 _ _<|.rt (by exact be Z (⟨by simp_all [fg,nX],h,a1⟩))
 refine Ops.on Z Z<|.q Z (am dn cT Z Z (h.get _ _ hb) Z)<|.on Z Z<|.q Z (aj eW fz U Z)<|.on Z Z<|.q Z (ak gz Z Z a6 Z)<|.on Z Z<|.l Z (fun _ _ a4 _=>aK Z (LR ((g)) u l rv rs r.left A12 hm O hll.2.2 (hL.le h) (hM.le h) (hu.le h) (hr.le h)) ?_);rintro ab A19 ⟨rfl,a0,a2⟩;have a5:=h.trans a0;refine a4 _ _<|.on Z Z<|.q Z (eE Z)<|.q Z (bw Z Z)<|.q Z (ah Z)<|.nil<|h9 _ _<|.rt (by exact be Z (⟨by simp_all [fg,nX],a5,a2⟩))

theorem sA (g:Int) (u:Value) (l:List (List UInt8)) (rv:Value) (rs:List au) (A:AH) (hn:l.length<=9223372036854775807) (hm:rs.length<=9223372036854775807) (hL:eF A) (hM:nr A) (hu:bJ A 1 u (dc l)) (hr:bJ A 3 rv (ci rs)) (hp:Proofs A rs):bG Tryz.prog 16 #[.agg #[num (g),u,rv]] A (fun v A1=>v=.bool (vR g l rs)/\A.le A1/\A1.wf):=by
 refine iy Tryz.call16 Tryz.func16 Z Tryz.results16 Tryz.ntmps16 Z (fun wf=>?_);have a8:=AH.le.refl A;refine ao.seq fun _ h2=>.region<|.l Z (fun _ _ a7 _=>ej wf rfl rfl fun A5 b4 X=>?_);have D:=a8.trans X.le;refine a7 _ _<|.q Z (ah Z)<|.nil<|h2 _ _<|.seq fun _ h9=>.region<|.q Z (am dn cT Z Z X.get Z)<|.l Z (fun _ _ a4 _=>aK Z (i3 ((g)) u l rv rs A5 hn hm (hL.le D) (hu.le D) (hr.le D) (hp.le D)) ?_);rintro aa A12 ⟨rfl,V,a1⟩;have a3:=V.get _ _ X.get;have h:=D.trans V;refine a4 _ _<|.q Z (ae Z)<|.partB (t:=5) Z (fun a9=>?_) (fun a9=>?_)
 ·refine Ops.on Z Z<|.q Z (aj de fw U Z)<|.on Z Z<|.q Z (ak ii Z Z a3 Z)<|.on Z Z<|.q Z (lg Z Z)<|.on Z Z<|.l Z (fun _ _ a5 _=>aK Z (nh 51 #[.pointer (some ⟨b4,0,none⟩)] (nX rs) rv rs A12 O (hr.le h) (fun r hs B le wf=>LQ r g u l rv rs b4 _ _ B hm (mo ‹cx g l rs=true› hs) ((hL.le h).le le) ((hM.le h).le le) ((hu.le h).le le) ((hr.le h).le le) (le.get _ _ a3))) ?_);rintro ab A19 ⟨rfl,a0,a2⟩;have a6:=h.trans a0;refine a5 _ _<|.on Z Z<|.q Z (ot Z)<|.q Z (bi Z Z)<|.q Z (ah Z)<|.nil<|h9 _ _<|.rt (by exact be Z (⟨by (rw [Gb ‹_›,<- decide_not];rfl),a6,a2⟩))
 refine Ops.off Z Z Z Z<|.off Z Z Z Z<|.off Z Z Z Z<|.off Z Z Z Z<|.off Z Z Z Z<|.q Z (bw Z Z)<|.q Z (ah Z)<|.nil<|h9 _ _<|.rt (by exact be Z (⟨by (rw [Gh ‹_›];rfl),h,a1⟩))
end Go.Proofs.YtjppkekmddjcfaaGreatDoor

namespace Go.Proofs.YtjppkekmddjcfaaGreatDoor
open Go Go.RowKit V
set_option maxRecDepth 100000
theorem Uy:type_of% @Tryz.underlying85:=@Tryz.underlying85

theorem Ut (a b:bX):vJ Tryz.prog 85 (.agg #[aX a.conj,num a.rel,.bool a.inv]) (.agg #[aX b.conj,num b.rel,.bool b.inv])=some (decide (a=b)) :=
  QQ Uy Y ⟨rfl,rfl,by decide⟩ ⟨rfl,rfl,by decide⟩ ⟨rfl,rfl,by decide⟩ gz fj vm u9 u3 u4 a b

theorem Lu (v1 v2:Value) (l1 l2:List bX) (A:AH) (hn:l1.length<=9223372036854775807) (V:bJ A 3 v1 (cN l1)) (a0:bJ A 3 v2 (cN l2)):bG Tryz.prog 55 #[v1,v2] A (fun v A1=>v=.bool (decide (l1=l2))/\A=A1):=by
 refine lN Tryz.call55 Tryz.func55 Z Tryz.results55 Tryz.ntmps55 Z (fun wf=>?_);have D:=AH.le.refl A;refine ao.seq fun _ h2=>.region<|.q Z (ah Z)<|.nil<|h2 _ _<|.seq fun _ h4=>.seq fun _ h6=>.region<|.q Z (ae Z)<|.q Z (bH (n:=l1.length) oO Z (V.le D) O (ee _)) ?_;refine Ops.q Z (ae Z)<|.q Z (bH (n:=l2.length) oO Z (a0.le D) O (ee _))<|.q Z (fF Z Z)<|.nil<|h6 _ _<|.if rfl (fun p7=>?_) (fun p7=>?_)
 ·refine ao.seq fun _ h9=>.region<|.q Z (ah Z)<|.nil<|h9 _ _<|.rt (by exact be Z (⟨by (rw [decide_eq_false (fun q=>by have:=congrArg List.length q;omega)];rfl),Z⟩))
 refine ao.skip<|h4 _ _<|.seq fun _ a7=>.seq fun _ a8=>.region<|.q Z (ae Z)<|.q Z (bH (n:=l1.length) oO Z (V.le D) O (ee _))<|.q Z (ae Z)<|.nil<|a8 _ _ ?_;refine ao.block<|.loop (X:=Nat) (fun k=>[(0,v1),(1,v2),(12,num ((l1.length:Nat):Int)),(13,num ((k:Nat):Int))]) (fun k B=>(k<=l1.length/\l1.length=l2.length/\∀ j,j < k->l1.getD j .zero=l2.getD j .zero)/\A=B) (fun k=>l1.length - k) 0 (ks Z Z Z Z) (⟨⟨Nat.zero_le _,by omega,fun j h=>by omega⟩,Z⟩) ?_;rintro k B15 ⟨⟨hk,hl,hq⟩,rfl⟩;refine ao.seq fun _ a9=>.region<|.q Z (cA Z Z)<|.nil<|a9 _ _<|.seq fun _ aa=>.if rfl (fun av=>?_) (fun av=>?_)
 ·refine ao.skip<|aa _ _<|.seq fun _ ab=>.block<|.seq fun _ ac=>.region<|.q Z (ae Z)<|.q Z (ah Z)<|.nil<|ac _ _ ?_;refine ao.seq fun _ ad=>.drawn [0,1,2,3,4,5,6,7,8] mixed Y Y Z<|.q Z Z Z (ae Z)<|.q Z Z Z (ae Z) ?_;obtain ⟨aF,aI,aD,aY,aB,aT,aR,a3,ap,a5,a1,az⟩:=bJ.at (i:=k) (V.le D) ON O;refine bj.q Z Z Z (aJ oO jz Z a3 Z ap)<|.q Z Z Z (am yw jz Z Z a5 (a1.trans (congrArg some (i8 O))))<|.q Z Z Z (ae Z)<|.q Z Z Z (ae Z) ?_;obtain ⟨aG,aP,aE,aZ,aC,aV,aS,a4,ar,a6,a2,aA⟩:=bJ.at (i:=k) (a0.le D) ON O;refine bj.q Z Z Z (aJ oO jz Z a4 Z ar)<|.q Z Z Z (am yw jz Z Z a6 (a2.trans (congrArg some (i8 O))))<|.q Z Z Z ((S8 Z Z (fun _ _ q=>by cases q) (fun _ q=>by cases q) (Ut ((l1.getD k .zero)) ((l2.getD k .zero)))).trans (congrArg (fun z=>some (Value.bool z,[])) (decide_not (p:=(l1.getD k .zero)=(l2.getD k .zero))).symm))<|.done<|ad _ _<|.if rfl (fun ay=>?_) (fun ay=>?_)
  ·refine ao.seq fun _ ag=>.region<|.q Z (ah Z)<|.nil<|ag _ _<|.rt (by exact be Z (⟨by (rw [decide_eq_false (xl (i:=k) ‹_›)];rfl),Z⟩))
  refine ao.skip<|ab _ _<|.region<|.q Z (bN (b:=1) Z Z O)<|.q Z (ae Z)<|.nil ?_;exact ⟨k + 1,ks Z Z Z Z,Z,⟨⟨by omega,hl,fun j h=>(Nat.lt_succ_iff_lt_or_eq.1 h).elim (hq j) (fun z=>by subst z;exact Decidable.not_not.1 ‹_›)⟩,Z⟩,O1⟩
 refine ao.exit<|a7 _ _<|.seq fun _ ai=>.region<|.q Z (ah Z)<|.nil<|ai _ _<|.rt (by exact be Z (⟨by (rw [decide_eq_true (o8 hl O hq)];rfl),Z⟩))

theorem LA (v1 v2:Value) (l1 l2:List bX) (A:AH) (hn:l1.length<=9223372036854775807) (V:bJ A 3 v1 (cN l1)) (a0:bJ A 3 v2 (cN l2)):bG Tryz.prog 61 #[v1,v2] A (fun v A1=>v=.bool (decide (l1=l2))/\A=A1):=by
 refine lN Tryz.call61 Tryz.func61 Z Tryz.results61 Tryz.ntmps61 Z (fun wf=>?_);have D:=AH.le.refl A;refine ao.seq fun _ h2=>.region<|.q Z (ah Z)<|.nil<|h2 _ _<|.seq fun _ h4=>.seq fun _ h6=>.region<|.q Z (ae Z)<|.q Z (bH (n:=l1.length) oO Z (V.le D) O (ee _)) ?_;refine Ops.q Z (ae Z)<|.q Z (bH (n:=l2.length) oO Z (a0.le D) O (ee _))<|.q Z (fF Z Z)<|.nil<|h6 _ _<|.if rfl (fun p7=>?_) (fun p7=>?_)
 ·refine ao.seq fun _ h9=>.region<|.q Z (ah Z)<|.nil<|h9 _ _<|.rt (by exact be Z (⟨by (rw [decide_eq_false (fun q=>by have:=congrArg List.length q;omega)];rfl),Z⟩))
 refine ao.skip<|h4 _ _<|.seq fun _ a7=>.seq fun _ a8=>.region<|.q Z (ae Z)<|.q Z (bH (n:=l1.length) oO Z (V.le D) O (ee _))<|.q Z (ae Z)<|.nil<|a8 _ _ ?_;refine ao.block<|.loop (X:=Nat) (fun k=>[(0,v1),(1,v2),(12,num ((l1.length:Nat):Int)),(13,num ((k:Nat):Int))]) (fun k B=>(k<=l1.length/\l1.length=l2.length/\∀ j,j < k->l1.getD j .zero=l2.getD j .zero)/\A=B) (fun k=>l1.length - k) 0 (ks Z Z Z Z) (⟨⟨Nat.zero_le _,by omega,fun j h=>by omega⟩,Z⟩) ?_;rintro k B15 ⟨⟨hk,hl,hq⟩,rfl⟩;refine ao.seq fun _ a9=>.region<|.q Z (cA Z Z)<|.nil<|a9 _ _<|.seq fun _ aa=>.if rfl (fun av=>?_) (fun av=>?_)
 ·refine ao.skip<|aa _ _<|.seq fun _ ab=>.block<|.seq fun _ ac=>.region<|.q Z (ae Z)<|.q Z (ah Z)<|.nil<|ac _ _ ?_;refine ao.seq fun _ ad=>.drawn [0,1,2,3,4,5,6,7,8] mixed Y Y Z<|.q Z Z Z (ae Z)<|.q Z Z Z (ae Z) ?_;obtain ⟨aF,aI,aD,aY,aB,aT,aR,a3,ap,a5,a1,az⟩:=bJ.at (i:=k) (V.le D) ON O;refine bj.q Z Z Z (aJ oO jz Z a3 Z ap)<|.q Z Z Z (am yw jz Z Z a5 (a1.trans (congrArg some (i8 O))))<|.q Z Z Z (ae Z)<|.q Z Z Z (ae Z) ?_;obtain ⟨aG,aP,aE,aZ,aC,aV,aS,a4,ar,a6,a2,aA⟩:=bJ.at (i:=k) (a0.le D) ON O;refine bj.q Z Z Z (aJ oO jz Z a4 Z ar)<|.q Z Z Z (am yw jz Z Z a6 (a2.trans (congrArg some (i8 O))))<|.q Z Z Z ((S8 Z Z (fun _ _ q=>by cases q) (fun _ q=>by cases q) (Ut ((l1.getD k .zero)) ((l2.getD k .zero)))).trans (congrArg (fun z=>some (Value.bool z,[])) (decide_not (p:=(l1.getD k .zero)=(l2.getD k .zero))).symm))<|.done<|ad _ _<|.if rfl (fun ay=>?_) (fun ay=>?_)
  ·refine ao.seq fun _ ag=>.region<|.q Z (ah Z)<|.nil<|ag _ _<|.rt (by exact be Z (⟨by (rw [decide_eq_false (xl (i:=k) ‹_›)];rfl),Z⟩))
  refine ao.skip<|ab _ _<|.region<|.q Z (bN (b:=1) Z Z O)<|.q Z (ae Z)<|.nil ?_;exact ⟨k + 1,ks Z Z Z Z,Z,⟨⟨by omega,hl,fun j h=>(Nat.lt_succ_iff_lt_or_eq.1 h).elim (hq j) (fun z=>by subst z;exact Decidable.not_not.1 ‹_›)⟩,Z⟩,O1⟩
 refine ao.exit<|a7 _ _<|.seq fun _ ai=>.region<|.q Z (ah Z)<|.nil<|ai _ _<|.rt (by exact be Z (⟨by (rw [decide_eq_true (o8 hl O hq)];rfl),Z⟩))

theorem Ly (v1 v2:Value) (l1 l2:List (List UInt8)) (A:AH) (hn:l1.length<=9223372036854775807) (V:bJ A 1 v1 (dc l1)) (a0:bJ A 1 v2 (dc l2)):bG Tryz.prog 56 #[v1,v2] A (fun v A1=>v=.bool (decide (l1=l2))/\A=A1):=by
 refine lN Tryz.call56 Tryz.func56 Z Tryz.results56 Tryz.ntmps56 Z (fun wf=>?_);have D:=AH.le.refl A;refine ao.seq fun _ h2=>.region<|.q Z (ah Z)<|.nil<|h2 _ _<|.seq fun _ h4=>.seq fun _ h6=>.region<|.q Z (ae Z)<|.q Z (bH (n:=l1.length) kh Z (V.le D) O (eJ _)) ?_;refine Ops.q Z (ae Z)<|.q Z (bH (n:=l2.length) kh Z (a0.le D) O (eJ _))<|.q Z (fF Z Z)<|.nil<|h6 _ _<|.if rfl (fun p7=>?_) (fun p7=>?_)
 ·refine ao.seq fun _ h9=>.region<|.q Z (ah Z)<|.nil<|h9 _ _<|.rt (by exact be Z (⟨by (rw [decide_eq_false (fun q=>by have:=congrArg List.length q;omega)];rfl),Z⟩))
 refine ao.skip<|h4 _ _<|.seq fun _ a7=>.seq fun _ a8=>.region<|.q Z (ae Z)<|.q Z (bH (n:=l1.length) kh Z (V.le D) O (eJ _))<|.q Z (ae Z)<|.nil<|a8 _ _ ?_;refine ao.block<|.loop (X:=Nat) (fun k=>[(0,v1),(1,v2),(12,num ((l1.length:Nat):Int)),(13,num ((k:Nat):Int))]) (fun k B=>(k<=l1.length/\l1.length=l2.length/\∀ j,j < k->l1.getD j []=l2.getD j [])/\A=B) (fun k=>l1.length - k) 0 (ks Z Z Z Z) (⟨⟨Nat.zero_le _,by omega,fun j h=>by omega⟩,Z⟩) ?_;rintro k B15 ⟨⟨hk,hl,hq⟩,rfl⟩;refine ao.seq fun _ a9=>.region<|.q Z (cA Z Z)<|.nil<|a9 _ _<|.seq fun _ aa=>.if rfl (fun av=>?_) (fun av=>?_)
 ·refine ao.skip<|aa _ _<|.seq fun _ ab=>.block<|.seq fun _ ac=>.region<|.q Z (ae Z)<|.q Z (ah Z)<|.nil<|ac _ _ ?_;refine ao.seq fun _ ad=>.drawn [0,1,2,3,4,5,6,7,8] mixed Y Y Z<|.q Z Z Z (ae Z)<|.q Z Z Z (ae Z) ?_;obtain ⟨aF,aI,aD,aY,aB,aT,aR,a3,ap,a5,az,a1⟩:=bJ.at (i:=k) (V.le D) Ow O;refine bj.q Z Z Z (aJ kh fz Z a3 Z ap)<|.q Z Z Z (ak gz Z Z a5 ((dh a1).trans (f5 O)))<|.q Z Z Z (ae Z)<|.q Z Z Z (ae Z) ?_;obtain ⟨aG,aP,aE,aZ,aC,aV,aS,a4,ar,a6,aA,a2⟩:=bJ.at (i:=k) (a0.le D) Ow O;refine bj.q Z Z Z (aJ kh fz Z a4 Z ar)<|.q Z Z Z (ak gz Z Z a6 ((dh a2).trans (f5 O)))<|.q Z Z Z (oA Z Z)<|.done<|ad _ _<|.if rfl (fun ay=>?_) (fun ay=>?_)
  ·refine ao.seq fun _ ag=>.region<|.q Z (ah Z)<|.nil<|ag _ _<|.rt (by exact be Z (⟨by (rw [decide_eq_false (xl (i:=k) ‹_›)];rfl),Z⟩))
  refine ao.skip<|ab _ _<|.region<|.q Z (bN (b:=1) Z Z O)<|.q Z (ae Z)<|.nil ?_;exact ⟨k + 1,ks Z Z Z Z,Z,⟨⟨by omega,hl,fun j h=>(Nat.lt_succ_iff_lt_or_eq.1 h).elim (hq j) (fun z=>by subst z;exact Decidable.not_not.1 ‹_›)⟩,Z⟩,O1⟩
 refine ao.exit<|a7 _ _<|.seq fun _ ai=>.region<|.q Z (ah Z)<|.nil<|ai _ _<|.rt (by exact be Z (⟨by (rw [decide_eq_true (o8 hl O hq)];rfl),Z⟩))

theorem Pt (r s:au) (A:AH) (hn:r.proof.length<=9223372036854775807) (a4:bJ A 3 r.pv (cN r.proof)) (a5:bJ A 3 s.pv (cN s.proof)):bG Tryz.prog 54 #[.agg #[aX (r.left),aX (r.right),r.pv],.agg #[aX (s.left),aX (s.right),s.pv]] A (fun v A1=>v=.bool (decide (dA true r=dA true s))/\A.le A1/\A1.wf):=by
 refine lN Tryz.call54 Tryz.func54 Z Tryz.results54 Tryz.ntmps54 Z (fun wf=>?_);have a7:=AH.le.refl A;refine ao.seq fun _ h2=>.region<|.l Z (fun _ _ a2 _=>ej wf rfl rfl fun A5 b4 a0=>?_);have a6:=a7.trans a0.le;refine a2 _ _<|.l Z (fun _ _ a3 _=>ej a0.wf rfl rfl fun A10 b9 h=>?_);have V:=h.le.get _ _ a0.get;have D:=a6.trans h.le;refine a3 _ _<|.q Z (ah Z)<|.nil<|h2 _ _<|.seq fun _ X=>.region<|.q Z (aj eW fz U Z)<|.q Z (ak gz Z Z V Z)<|.q Z (aj eW fz U Z)<|.q Z (ak gz Z Z h.get Z) ?_;refine Ops.q Z (qQ Z Z)<|.q Z (ae Z)<|.part (t:=10) Z (fun a8=>?_) (fun a8=>?_)
 ·refine Ops.on Z Z<|.q Z (aj kH fz U Z)<|.on Z Z<|.q Z (ak gz Z Z V Z)<|.on Z Z<|.q Z (aj kH fz U Z)<|.on Z Z<|.q Z (ak gz Z Z h.get Z)<|.on Z Z<|.q Z (qQ Z Z) ?_;refine Ops.q Z (bi Z Z)<|.q Z (ae Z)<|.part (t:=17) Z (fun a9=>?_) (fun a9=>?_)
  ·refine Ops.on Z Z<|.q Z (aj iE jG U Z)<|.on Z Z<|.q Z (ak ns Z Z V Z)<|.on Z Z<|.q Z (aj iE jG U Z)<|.on Z Z<|.q Z (ak ns Z Z h.get Z)<|.on Z Z<|.l Z (fun _ _ a1 _=>aK Z (Lu r.pv s.pv r.proof s.proof A10 hn (a4.le D) (a5.le D)) ?_);rintro aa A20 ⟨rfl,rfl⟩;refine a1 _ _<|.q Z (bi Z Z)<|.q Z (ah Z)<|.nil<|X _ _<|.rt (by exact be Z (⟨by simp_all [fg,dA],D,h.wf⟩))
  refine Ops.off Z Z Z Z<|.off Z Z Z Z<|.off Z Z Z Z<|.off Z Z Z Z<|.off Z Z Z Z<|.q Z (bw Z Z)<|.q Z (ah Z)<|.nil<|X _ _<|.rt (by exact be Z (⟨by simp_all [fg,dA],D,h.wf⟩))
 refine Ops.off Z Z Z Z<|.off Z Z Z Z<|.off Z Z Z Z<|.off Z Z Z Z<|.off Z Z Z Z<|.q Z (bw Z Z)<|.q Z (ae Z)<|.off Z Z Z Z<|.off Z Z Z Z<|.off Z Z Z Z ?_;refine Ops.off Z Z Z Z<|.off Z Z Z Z<|.q Z (bw Z Z)<|.q Z (ah Z)<|.nil<|X _ _<|.rt (by exact be Z (⟨by simp_all [fg,dA],D,h.wf⟩))

theorem Lx (v1 v2:Value) (rs ss:List au) (A:AH) (hn:rs.length<=9223372036854775807) (hpn:∀ r ∈ rs,r.proof.length<=9223372036854775807) (a9:bJ A 3 v1 (ci rs)) (ap:bJ A 3 v2 (ci ss)) (ag:Proofs A rs) (ai:Proofs A ss):bG Tryz.prog 57 #[v1,v2,.func (.func 54) #[] #[]] A (fun v A1=>v=.bool (eP true rs ss)/\A.le A1/\A1.wf):=by
 refine yl Tryz.call57 Tryz.func57 Z Tryz.results57 Tryz.ntmps57 Z (fun wf=>?_);have a4:=AH.le.refl A;refine ao.seq fun _ h2=>.region<|.q Z (ah Z)<|.nil<|h2 _ _<|.seq fun _ h4=>.seq fun _ h6=>.region<|.q Z (ae Z)<|.q Z (bH (n:=rs.length) jw Z (a9.le a4) O (dm _)) ?_;refine Ops.q Z (ae Z)<|.q Z (bH (n:=ss.length) jw Z (ap.le a4) O (dm _))<|.q Z (fF Z Z)<|.nil<|h6 _ _<|.if rfl (fun p7=>?_) (fun p7=>?_)
 ·refine ao.seq fun _ h9=>.region<|.q Z (ah Z)<|.nil<|h9 _ _<|.rt (by exact be Z (⟨by (rw [wB ‹_›];rfl),a4,wf⟩))
 refine ao.skip<|h4 _ _<|.seq fun _ aR=>.seq fun _ aS=>.region<|.q Z (ae Z)<|.q Z (bH (n:=rs.length) jw Z (a9.le a4) O (dm _))<|.q Z (ae Z)<|.nil<|aS _ _ ?_;refine ao.block<|.loop (X:=Nat) (fun k=>[(1,v2),(2,.func (.func 54) #[] #[]),(15,v1),(16,num ((rs.length:Nat):Int)),(17,num ((k:Nat):Int))]) (fun k B=>(k<=rs.length/\rs.length=ss.length/\∀ j,j < k->dA true (rs.getD j .zero)=dA true (ss.getD j .zero))/\A.le B) (fun k=>rs.length - k) 0 (rn Z Z Z Z Z) (⟨⟨Nat.zero_le _,by omega,fun j h=>by omega⟩,a4⟩) ?_;rintro k B15 ⟨⟨hk,hl,hq⟩,a0⟩;refine ao.wf fun ab=>.seq fun _ aT=>.region<|.q Z (cA Z Z)<|.nil<|aT _ _<|.seq fun _ aV=>.if rfl (fun b9=>?_) (fun b9=>?_)
 ·refine ao.skip<|aV _ _<|.seq fun _ aY=>.block<|.seq fun _ aZ=>.region<|.q Z (ae Z) ?_;obtain ⟨br,bB,bm,bP,bd,bM,bD,aF,b7,aI,ar,bb⟩:=bJ.at (i:=k) (a9.le a0) Oj O;refine Ops.q Z (aJ jw d8 Z aF Z b7)<|.q Z (am nw d8 Z Z aI (ar.trans (congrArg some (fZ O))))<|.l Z (fun _ _ ay _=>ca ab rm rfl fun A29 bu a1=>?_);have a7:=aL wf (Nat.le_trans a0.n a1.lo);have aD:=a0.trans a1.le;refine ay _ _<|.q Z (ah Z)<|.l Z (fun _ _ az _=>aM (cs:=[aX ((rs.getD k .zero).left),aX ((rs.getD k .zero).right),(rs.getD k .zero).pv]) (c':=[aX ((rs.getD k .zero).left),aX ((rs.getD k .zero).right),(rs.getD k .zero).pv]) a1.wf rfl rfl rfl rfl d8 a1.get (Nat.le_of_ble_eq_true rfl) (gK (ag.get O)) rfl fun A33 V=>?_);have a5:=al aD wf a7 V.n V.keep;refine az _ _<|.nil<|aZ _ _<|.seq fun _ b0=>.region<|.q Z (ae Z)<|.q Z (ae Z) ?_;obtain ⟨bv,bC,bp,bR,bl,bO,bL,aG,b8,aP,av,bc⟩:=bJ.at (i:=k) (ap.le a5) Oj O;refine Ops.q Z (aJ jw d8 Z aG Z b8)<|.q Z (am nw d8 Z Z aP (av.trans (congrArg some (fZ O))))<|.l Z (fun _ _ aA _=>ca V.wf rm rfl fun A41 bA D=>?_);have a2:=ne_new V.wf V.get D.lo;have a8:=aL wf (Nat.le_trans a5.n D.lo);have b1:=D.le.get _ _ V.get;have aE:=a5.trans D.le;refine aA _ _<|.l Z (fun _ _ aB _=>aM (cs:=[aX ((ss.getD k .zero).left),aX ((ss.getD k .zero).right),(ss.getD k .zero).pv]) (c':=[aX ((ss.getD k .zero).left),aX ((ss.getD k .zero).right),(ss.getD k .zero).pv]) D.wf rfl rfl rfl rfl d8 D.get (Nat.le_of_ble_eq_true rfl) (gK (ai.get O)) rfl fun A46 a3=>?_);have b2:=a3.keep _ _ a2 b1;have a6:=al aE wf a8 a3.n a3.keep;refine aB _ _<|.nil<|b0 _ _<|.seq fun _ b3=>.region<|.q Z (ae Z)<|.q Z (am nw d8 Z Z b2 Z)<|.q Z (am nw d8 Z Z a3.get Z)<|.l Z (fun _ _ aC _=>np Z Z (Pt ((rs.getD k .zero)) ((ss.getD k .zero)) A46 (hpn _ (bx (d:=au.zero) O)) ((ag.get O).le a6) ((ai.get O).le a6)) ?_);rintro bS A56 ⟨rfl,ac,ad⟩;have aa:=a6.trans ac;refine aC _ _<|.q Z (ot Z)<|.nil<|b3 _ _<|.if rfl (fun ba=>?_) (fun ba=>?_)
  ·refine ao.seq fun _ b5=>.region<|.q Z (ah Z)<|.nil<|b5 _ _<|.rt (by exact be Z (⟨by (rw [re (i:=k) hl O ‹_›];rfl),aa,ad⟩))
  refine ao.skip<|aY _ _<|.region<|.q Z (bN (b:=1) Z Z O)<|.q Z (ae Z)<|.nil ?_;exact ⟨k + 1,rn Z Z Z Z Z,Z,⟨⟨by omega,hl,fun j h=>(Nat.lt_succ_iff_lt_or_eq.1 h).elim (hq j) (fun z=>by subst z;exact Decidable.not_not.1 ‹_›)⟩,aa⟩,O1⟩
 refine ao.exit<|aR _ _<|.seq fun _ b6=>.region<|.q Z (ah Z)<|.nil<|b6 _ _<|.rt (by exact be Z (⟨by (rw [wD hl O hq];rfl),a0,ab⟩))

theorem LD (g1:Int) (u1:Value) (l1:List (List UInt8)) (a1:Value) (rs:List au) (g2:Int) (u2:Value) (l2:List (List UInt8)) (a2:Value) (ss:List au) (A:AH) (aA:l1.length<=1000000) (aB:l2.length<=1000000) (hn:rs.length<=1000000) (hpn:∀ r ∈ rs,r.proof.length<=1000000000) (ai:bJ A 1 u1 (dc l1)) (ad:bJ A 3 a1 (ci rs)) (ab:Proofs A rs) (ap:bJ A 1 u2 (dc l2)) (ag:bJ A 3 a2 (ci ss)) (ac:Proofs A ss):bG Tryz.prog 18 #[.agg #[num (g1),u1,a1],.agg #[num (g2),u2,a2]] A (fun v A1=>v=.bool (decide (g1=g2) && decide (l1=l2) && eP true rs ss)/\A.le A1/\A1.wf):=by
 refine lN Tryz.call18 Tryz.func18 Z Tryz.results18 Tryz.ntmps18 Z (fun wf=>?_);have av:=AH.le.refl A;refine ao.seq fun _ h2=>.region<|.l Z (fun _ _ a9 _=>ej wf rfl rfl fun A5 b4 a0=>?_);have ar:=av.trans a0.le;refine a9 _ _<|.l Z (fun _ _ aa _=>ej a0.wf rfl rfl fun A10 b9 D=>?_);have V:=D.le.get _ _ a0.get;have h:=ar.trans D.le;refine aa _ _<|.q Z (ah Z)<|.nil<|h2 _ _<|.seq fun _ a8=>.region<|.q Z (ah Z)<|.nil<|a8 _ _<|.seq fun _ X=>?_;refine ao.region<|.q Z (aj fH iA U Z)<|.q Z (aj ia dx U Z)<|.q Z (ak fj Z Z V Z)<|.q Z (aj fH iA U Z)<|.q Z (aj ia dx U Z)<|.q Z (ak fj Z Z D.get Z)<|.q Z (Rq Z Z)<|.q Z (ae Z)<|.part (t:=13) Z (fun ay=>?_) (fun ay=>?_)
 ·refine Ops.on Z Z<|.q Z (aj fH iA U Z)<|.on Z Z<|.q Z (aj go ms U Z)<|.on Z Z<|.q Z (ak lU Z Z V Z)<|.on Z Z<|.q Z (aj fH iA U Z)<|.on Z Z<|.q Z (aj go ms U Z) ?_;refine Ops.on Z Z<|.q Z (ak lU Z Z D.get Z)<|.on Z Z<|.l Z (fun _ _ a5 _=>aK Z (Ly u1 u2 l1 l2 A10 O (ai.le h) (ap.le h)) ?_);rintro aC A21 ⟨rfl,rfl⟩;refine a5 _ _<|.q Z (bi Z Z)<|.q Z (ae Z)<|.part (t:=22) Z (fun az=>?_) (fun az=>?_)
  ·refine Ops.on Z Z<|.q Z (aj de fw U Z)<|.on Z Z<|.q Z (ak ii Z Z V Z)<|.on Z Z<|.q Z (aj de fw U Z)<|.on Z Z<|.q Z (ak ii Z Z D.get Z)<|.on Z Z<|.q Z (ae Z) ?_;refine Ops.on Z Z<|.l Z (fun _ _ a6 _=>aK Z (Lx a1 a2 rs ss A10 O (fun r q=>by have:=hpn r q;omega) (ad.le h) (ag.le h) (ab.le h) (ac.le h)) ?_);rintro aD A26 ⟨rfl,a3,a4⟩;have a7:=h.trans a3;refine a6 _ _<|.q Z (bi Z Z)<|.q Z (ah Z)<|.nil<|X _ _<|.rt (by exact be Z (⟨by simp_all [fg],a7,a4⟩))
  refine Ops.off Z Z Z Z<|.off Z Z Z Z<|.off Z Z Z Z<|.off Z Z Z Z<|.off Z Z Z Z<|.off Z Z Z Z<|.q Z (bw Z Z)<|.q Z (ah Z)<|.nil<|X _ _ ?_;refine ao.ret ?_;repeat first | with_reducible refine bE ?_ | with_reducible refine bk ?_
  exact be Z (⟨by simp_all [fg],h,D.wf⟩)
 refine Ops.off Z Z Z Z<|.off Z Z Z Z<|.off Z Z Z Z<|.off Z Z Z Z<|.off Z Z Z Z<|.off Z Z Z Z<|.off Z Z Z Z<|.q Z (bw Z Z)<|.q Z (ae Z)<|.off Z Z Z Z ?_;refine Ops.off Z Z Z Z<|.off Z Z Z Z<|.off Z Z Z Z<|.off Z Z Z Z<|.off Z Z Z Z<|.q Z (bw Z Z)<|.q Z (ah Z)<|.nil<|X _ _<|.rt (by exact be Z (⟨by simp_all [fg],h,D.wf⟩))

theorem zU (v1 v2:Value) (rs ss:List au) (pf:Bool) (A:AH) (hn:rs.length<=9223372036854775807) (hpn:∀ r ∈ rs,r.proof.length<=9223372036854775807) (a0:bJ A 3 v1 (ci rs)) (a2:bJ A 3 v2 (ci ss)) (aT:Proofs A rs) (aV:Proofs A ss):bG Tryz.prog 40 #[v1,v2,.bool (pf)] A (fun v A1=>v=.bool (eP pf rs ss)/\A.le A1/\A1.wf):=by
 refine yl Tryz.call40 Tryz.func40 Z Tryz.results40 Tryz.ntmps40 Z (fun wf=>?_);have a3:=AH.le.refl A;refine ao.seq fun _ h2=>.region<|.q Z (ah Z)<|.nil<|h2 _ _<|.seq fun _ h4=>.seq fun _ h6=>.region<|.q Z (ae Z)<|.q Z (bH (n:=rs.length) jw Z (a0.le a3) O (dm _)) ?_;refine Ops.q Z (ae Z)<|.q Z (bH (n:=ss.length) jw Z (a2.le a3) O (dm _))<|.q Z (fF Z Z)<|.nil<|h6 _ _<|.if rfl (fun p7=>?_) (fun p7=>?_)
 ·refine ao.seq fun _ h9=>.region<|.q Z (ah Z)<|.nil<|h9 _ _<|.rt (by exact be Z (⟨by (rw [wB ‹_›];rfl),a3,wf⟩))
 refine ao.skip<|h4 _ _<|.seq fun _ aD=>.seq fun _ aE=>.region<|.q Z (ah Z)<|.nil<|aE _ _<|.block<|.loop (X:=Nat) (fun k=>[(0,v1),(1,v2),(2,.bool (pf)),(7,num ((k:Nat):Int))]) (fun k B=>(k<=rs.length/\rs.length=ss.length/\∀ j,j < k->dA pf (rs.getD j .zero)=dA pf (ss.getD j .zero))/\A.le B) (fun k=>rs.length - k) 0 (ks Z Z Z Z) (⟨⟨Nat.zero_le _,by omega,fun j h=>by omega⟩,a3⟩) ?_;rintro k B15 ⟨⟨hk,hl,hq⟩,D⟩;refine ao.wf fun V=>.seq fun _ aF=>.seq fun _ aG=>.region<|.q Z (ae Z)<|.q Z (ae Z)<|.q Z (bH (n:=rs.length) jw Z (a0.le D) O (dm _))<|.q Z (cA Z Z)<|.nil<|aG _ _ ?_;refine ao.if rfl (fun b5=>?_) (fun b5=>?_)
 ·refine ao.skip<|aF _ _<|.seq fun _ a4=>.block<|.seq fun _ a1=>.drawn [0,1,2,3,4,5,6,7,8,9,10,11,12,13,14,15,16,17,18,19,20,21,22,23,24,25,26,27,28,29,30,31,32,33,34,35,36,37,38,39,40] mixed Y Y Z<|.q Z Z Z (ae Z)<|.q Z Z Z (ae Z) ?_;obtain ⟨bR,c3,bC,cV,bp,cF,ch,ac,aY,av,ba,a5⟩:=bJ.at (i:=k) (a0.le D) Oj O;refine bj.q Z Z Z (aJ jw d8 Z ac Z aY)<|.q Z Z Z (aj eW fz U Z)<|.q Z Z Z (ak gz Z Z av ((a5 0 U).trans (uL O)))<|.q Z Z Z (ae Z)<|.q Z Z Z (ae Z) ?_;obtain ⟨bS,c4,bD,cX,br,cH,ck,ad,aZ,ay,bb,a6⟩:=bJ.at (i:=k) (a2.le D) Oj O;refine bj.q Z Z Z (aJ jw d8 Z ad Z aZ)<|.q Z Z Z (aj eW fz U Z)<|.q Z Z Z (ak gz Z Z ay ((a6 0 U).trans (uL O)))<|.q Z Z Z (oA Z Z)<|.q Z Z Z (ae Z)<|.part (t:=30) Z (fun b6=>?_) (fun b6=>?_)
  ·refine bj.qOff Z Z Z Z Z Z<|.qOff Z Z Z Z Z Z<|.qOff Z Z Z Z Z Z<|.qOff Z Z Z Z Z Z<|.qOff Z Z Z Z Z Z<|.qOff Z Z Z Z Z Z<|.qOff Z Z Z Z Z Z<|.qOff Z Z Z Z Z Z<|.qOff Z Z Z Z Z Z<|.qOff Z Z Z Z Z Z ?_;refine bj.qOff Z Z Z Z Z Z<|.q Z Z Z (bi Z Z)<|.q Z Z Z (ae Z)<|.qOff Z Z Z Z Z Z<|.qOff Z Z Z Z Z Z<|.qUnd Z Z Z Z Z<|.qUnd Z Z Z Z Z<|.qUnd Z Z Z Z Z<|.qUnd Z Z Z Z Z<|.qUnd Z Z Z Z Z ?_;refine bj.qUnd Z Z Z Z Z<|.qUnd Z Z Z Z Z<|.qUnd Z Z Z Z Z<|.qUnd Z Z Z Z Z<|.qUnd Z Z Z Z Z<|.lUnd Z Z Z Z Z<|.qUnd Z Z Z Z Z<|.qOff Z Z Z Z Z Z<|.q Z Z Z (bi Z Z)<|.done ?_;refine a1 _ _<|.cond_true Z<|.seq fun _ aI=>.region<|.q Z (ah Z)<|.nil<|aI _ _<|.rt (by exact be Z (⟨by (rw [re (i:=k) hl O (by simp_all [dA])];rfl),D,V⟩))
  refine bj.qOn Z Z Z Z Z (ae Z)<|.qOn Z Z Z Z Z (ae Z) ?_;obtain ⟨bT,c7,bL,cZ,bu,cK,cu,ag,b0,az,bc,a7⟩:=bJ.at (i:=k) (a0.le D) Oj O;refine bj.qOn Z Z Z Z Z (aJ jw d8 Z ag Z b0)<|.qOn Z Z Z Z Z (aj kH fz U Z)<|.qOn Z Z Z Z Z (ak gz Z Z az ((a7 1 U).trans (zL O)))<|.qOn Z Z Z Z Z (ae Z)<|.qOn Z Z Z Z Z (ae Z) ?_;obtain ⟨bU,cb,bM,d0,bv,cP,cv,ai,b1,aA,bd,a8⟩:=bJ.at (i:=k) (a2.le D) Oj O;refine bj.qOn Z Z Z Z Z (aJ jw d8 Z ai Z b1)<|.qOn Z Z Z Z Z (aj kH fz U Z)<|.qOn Z Z Z Z Z (ak gz Z Z aA ((a8 1 U).trans (zL O)))<|.qOn Z Z Z Z Z (oA Z Z)<|.q Z Z Z (bw Z Z)<|.q Z Z Z (ae Z)<|.part (t:=43) Z (fun b7=>?_) (fun b7=>?_)
  ·refine bj.qOff Z Z Z Z Z Z<|.qOff Z Z Z Z Z Z<|.qUnd Z Z Z Z Z<|.qUnd Z Z Z Z Z<|.qUnd Z Z Z Z Z<|.qUnd Z Z Z Z Z<|.qUnd Z Z Z Z Z<|.qUnd Z Z Z Z Z<|.qUnd Z Z Z Z Z<|.qUnd Z Z Z Z Z ?_;refine bj.qUnd Z Z Z Z Z<|.qUnd Z Z Z Z Z<|.lUnd Z Z Z Z Z<|.qUnd Z Z Z Z Z<|.qOff Z Z Z Z Z Z<|.q Z Z Z (bi Z Z)<|.done<|a1 _ _<|.cond_true Z<|.seq fun _ aP=>?_;refine ao.region<|.q Z (ah Z)<|.nil<|aP _ _<|.rt (by exact be Z (⟨by (rw [re (i:=k) hl O (by simp_all [dA])];rfl),D,V⟩))
  refine bj.qOn Z Z Z Z Z (ae Z)<|.qOn Z Z Z Z Z (ae Z)<|.partB (t:=45) Z (fun b8=>?_) (fun b8=>?_)
  ·refine bj.qOn Z Z Z Z Z (ae Z)<|.qOn Z Z Z Z Z (ae Z) ?_;obtain ⟨bV,cc,bO,d1,bA,cS,cB,ap,b2,aB,bl,a9⟩:=bJ.at (i:=k) (a0.le D) Oj O;refine bj.qOn Z Z Z Z Z (aJ jw d8 Z ap Z b2)<|.qOn Z Z Z Z Z (aj iE jG U Z)<|.qOn Z Z Z Z Z (ak ns Z Z aB ((a9 2 U).trans (zM O)))<|.qOn Z Z Z Z Z (ae Z)<|.qOn Z Z Z Z Z (ae Z) ?_;obtain ⟨bY,cf,bP,d2,bB,cU,cC,ar,b3,aC,bm,aa⟩:=bJ.at (i:=k) (a2.le D) Oj O;refine bj.qOn Z Z Z Z Z (aJ jw d8 Z ar Z b3)<|.qOn Z Z Z Z Z (aj iE jG U Z)<|.qOn Z Z Z Z Z (ak ns Z Z aC ((aa 2 U).trans (zM O)))<|.lOn Z Z Z Z Z (fun _ _ ab _=>aK Z (LA ((rs.getD k .zero).pv) ((ss.getD k .zero).pv) ((rs.getD k .zero).proof) ((ss.getD k .zero).proof) B15 (hpn _ (bx (d:=au.zero) O)) ((aT.get O).le D) ((aV.get O).le D)) ?_);rintro d3 A49 ⟨rfl,rfl⟩;refine ab _ _ (aO.none Y)<|.qOn Z Z Z Z Z (ot Z)<|.qOn Z Z Z Z Z (bi Z Z)<|.q Z Z Z (bw Z Z)<|.done<|a1 _ _<|.if rfl (fun b9=>?_) (fun b9=>?_)
   ·refine ao.seq fun _ aR=>.region<|.q Z (ah Z)<|.nil<|aR _ _<|.rt (by exact be Z (⟨by (rw [re (i:=k) hl O (by simp_all [dA])];rfl),D,V⟩))
   refine ao.skip<|a4 _ _<|.region<|.q Z (ae Z)<|.q Z (bN (b:=1) Z Z O)<|.q Z (ah Z)<|.nil ?_;exact ⟨k + 1,ks Z Z Z Z,Z,⟨⟨by omega,hl,fun j h=>(Nat.lt_succ_iff_lt_or_eq.1 h).elim (hq j) (fun z=>by subst z;simp_all [dA])⟩,D⟩,O1⟩
  refine bj.qOff Z Z Z Z Z Z<|.qOff Z Z Z Z Z Z<|.qOff Z Z Z Z Z Z<|.qOff Z Z Z Z Z Z<|.qOff Z Z Z Z Z Z<|.qOff Z Z Z Z Z Z<|.qOff Z Z Z Z Z Z<|.qOff Z Z Z Z Z Z<|.qOff Z Z Z Z Z Z<|.qOff Z Z Z Z Z Z ?_;refine bj.lOff Z Z Z Z Z Z<|.qOff Z Z Z Z Z Z<|.qOn Z Z Z Z Z (bw Z Z)<|.q Z Z Z (bw Z Z)<|.done<|a1 _ _<|.cond_false Z<|.skip<|a4 _ _<|.region ?_;refine Ops.q Z (ae Z)<|.q Z (bN (b:=1) Z Z O)<|.q Z (ah Z)<|.nil ?_;exact ⟨k + 1,ks Z Z Z Z,Z,⟨⟨by omega,hl,fun j h=>(Nat.lt_succ_iff_lt_or_eq.1 h).elim (hq j) (fun z=>by subst z;simp_all [dA])⟩,D⟩,O1⟩
 refine ao.exit<|aD _ _<|.seq fun _ aS=>.region<|.q Z (ah Z)<|.nil<|aS _ _<|.rt (by exact be Z (⟨by (rw [wD hl O hq];rfl),D,V⟩))

theorem EE (g1:Int) (u1:Value) (l1:List (List UInt8)) (a1:Value) (rs:List au) (g2:Int) (u2:Value) (l2:List (List UInt8)) (a2:Value) (ss:List au) (A:AH) (ai:l1.length<=1000000) (ap:l2.length<=1000000) (hn:rs.length<=1000000) (hpn:∀ r ∈ rs,r.proof.length<=1000000000) (aA:bJ A 1 u1 (dc l1)) (ay:bJ A 3 a1 (ci rs)) (ar:Proofs A rs) (aB:bJ A 1 u2 (dc l2)) (az:bJ A 3 a2 (ci ss)) (av:Proofs A ss):bG Tryz.prog 19 #[.agg #[num (g1),u1,a1],.agg #[num (g2),u2,a2]] A (fun v A1=>v=.bool (decide (g1=g2) && decide (l1=l2) && eP true rs ss)/\A.le A1/\A1.wf):=by
 refine lN Tryz.call19 Tryz.func19 Z Tryz.results19 Tryz.ntmps19 Z (fun wf=>?_);have aD:=AH.le.refl A;refine ao.seq fun _ h2=>.region<|.l Z (fun _ _ ad _=>ej wf rfl rfl fun A5 b4 a0=>?_);have aC:=aD.trans a0.le;refine ad _ _<|.l Z (fun _ _ ag _=>ej a0.wf rfl rfl fun A10 b9 V=>?_);have a6:=V.le.get _ _ a0.get;have X:=aC.trans V.le;refine ag _ _<|.q Z (ah Z)<|.nil<|h2 _ _<|.seq fun _ a7=>.region<|.q Z (aj fH iA U Z)<|.q Z (am sG iA Z Z a6 Z)<|.q Z (aj fH iA U Z)<|.q Z (am sG iA Z Z V.get Z) ?_;refine Ops.l Z (fun _ _ a8 _=>aK Z (CT ((g1)) u1 l1 ((g2)) u2 l2 A10 ai ap (aA.le X) (aB.le X)) ?_);rintro aF A18 ⟨rfl,D,a4⟩;have ab:=D.get _ _ a6;have ac:=D.get _ _ V.get;have h:=X.trans D;refine a8 _ _<|.q Z (ae Z)<|.part (t:=10) Z (fun aE=>?_) (fun aE=>?_)
 ·refine Ops.on Z Z<|.q Z (aj de fw U Z)<|.on Z Z<|.q Z (ak ii Z Z ab Z)<|.on Z Z<|.q Z (aj de fw U Z)<|.on Z Z<|.q Z (ak ii Z Z ac Z)<|.on Z Z<|.l Z (fun _ _ a9 _=>aK Z (zU a1 a2 rs ss true A18 O (fun r q=>by have:=hpn r q;omega) (ay.le h) (az.le h) (ar.le h) (av.le h)) ?_);rintro aG A26 ⟨rfl,a3,a5⟩;have aa:=h.trans a3;refine a9 _ _<|.q Z (bi Z Z)<|.q Z (ah Z)<|.nil<|a7 _ _<|.rt (by exact be Z (⟨by simp_all [fg],aa,a5⟩))
 refine Ops.off Z Z Z Z<|.off Z Z Z Z<|.off Z Z Z Z<|.off Z Z Z Z<|.off Z Z Z Z<|.q Z (bw Z Z)<|.q Z (ah Z)<|.nil<|a7 _ _<|.rt (by exact be Z (⟨by simp_all [fg],h,a4⟩))
end Go.Proofs.YtjppkekmddjcfaaGreatDoor

namespace Go.Proofs.YtjppkekmddjcfaaGreatDoor
open Go Go.RowKit V
theorem V.Fresh.sep0 {A B:AH} {v u:Value} {size s2:Nat} {xs ys:List Value} (h:Fresh A B v size xs) (hu:nP A u s2 ys):bh v u:=fun c hv hc=>by
  obtain ⟨x,hx⟩:=hu.blkget hc
  have:=h.lo c hv
  rw [hx] at this;cases this
def MP (p:List UInt8) (d:List bX):Bool:=d.all fun c=>decide (p.length + c.conj.length<=100000)
def zo (p:List UInt8) (c:bX):bX:=⟨dy (p ++ c.conj),c.rel,c.inv⟩
def nA (p:List UInt8) (d:List bX):List bX:=if MP p d then d.map (zo p) else []
theorem Rk {p:List UInt8} {d:List bX} {i:Nat} (hi:i < d.length) (h:100000 < p.length + (d.getD i .zero).conj.length):MP p d=false :=
  List.all_eq_false.2 ⟨_,bx (d:=.zero) hi,by simp only [decide_eq_true_eq];omega⟩
theorem OB {p:List UInt8} {d:List bX} {i:Nat} (hi:d.length<=i) (h:∀ j,j < i->p.length + (d.getD j .zero).conj.length<=100000):MP p d=true :=
  List.all_eq_true.2 fun c hc=>by
    obtain ⟨j,hj,rfl⟩:=List.getElem_of_mem hc
    have:=h j O
    simpa [hj] using this
theorem Cn {p:List UInt8} {d o:List bX} {i:Nat} (hi:i < d.length) (h:o=(d.take i).map (zo p)):o ++ [⟨dy (p ++ (d.getD i .zero).conj),(d.getD i .zero).rel,(d.getD i .zero).inv⟩]=(d.take (i + 1)).map (zo p):=by
  have e:d.getD i .zero=d[i]:=by simp [hi]
  rw [h,List.take_succ_eq_append_getElem hi,List.map_append,e];rfl
theorem Gx {p:List UInt8} {d o:List bX} {i:Nat} (hi:d.length<=i) (h:o=(d.take i).map (zo p)) (hk:MP p d=true):o=nA p d:=by
  rw [h,nA,if_pos hk,List.take_of_length_le hi]
theorem zn (p:List UInt8) (d:List bX):(nA p d).length<=d.length:=by unfold nA;split <;> simp
theorem Kb {p:List UInt8} {d:List bX} (h:MP p d=true):(nA p d).length=d.length:=by rw [nA,if_pos h];simp
theorem qq (a b:List bX):ew (a ++ b)=ew a + ew b:=by simp [ew]
theorem Bw (c:bX) (d:List bX):ew (c :: d)=c.conj.length + ew d:=by simp [ew]
structure IZ where
  word:List UInt8
  steps:Nat
  disk:List bX
def IZ.zero:IZ:=⟨[],0,[]⟩
structure MU where
  rest:List UInt8
  stack:List UInt8
  steps:Nat
  disk:List bX
  sum:Nat
abbrev vB (q:List UInt8):UInt8:=q.getD (q.length - 1) 0
abbrev Qw (q:List UInt8):List UInt8:=q.take (q.length - 1)
abbrev ze (k q:List UInt8):Prop:=0 < k.length/\vB k=vB q ^^^ 32
abbrev rj (rs:List au) (k:List UInt8):au:=rs.getD (cG rs k).toNat .zero
abbrev NI (rs:List au) (k:List UInt8):List UInt8:=k.take (k.length - (rj rs k).left.length)
abbrev Ke (rs:List au) (k:List UInt8):List bX:=nA (NI rs k) (rj rs k).proof
def fits (rs:List au) (k:List UInt8) (n:Nat) (d:List bX) (m:Nat):Prop :=
  MP (NI rs k) (rj rs k).proof=true/\n + 1<=20000/\d.length + (rj rs k).proof.length<=100000/\m + ew (Ke rs k)<=1000000
instance (rs:List au) (k:List UInt8) (n:Nat) (d:List bX) (m:Nat):Decidable (fits rs k n d m):=by unfold fits;infer_instance
def wo (rs:List au) (s:MU):Option MU :=
  if ze s.stack s.rest then some ⟨Qw s.rest,Qw s.stack,s.steps,s.disk,s.sum⟩
  else if cG rs (s.stack ++ [vB s.rest]) < 0 then some ⟨Qw s.rest,s.stack ++ [vB s.rest],s.steps,s.disk,s.sum⟩
  else if fits rs (s.stack ++ [vB s.rest]) s.steps s.disk s.sum then
    some ⟨Qw s.rest ++ (rj rs (s.stack ++ [vB s.rest])).right.reverse,NI rs (s.stack ++ [vB s.rest]),s.steps + 1,s.disk ++ Ke rs (s.stack ++ [vB s.rest]),s.sum + ew (Ke rs (s.stack ++ [vB s.rest]))⟩
  else none
def jt (rs:List au):Nat->MU->Option MU
  | 0,_=>none
  | f + 1,s=>if s.rest=[] then some s else match wo rs s with | none=>none | some s'=>jt rs f s'
def vM:Nat:=2001000000
def start (w:List UInt8):MU:=⟨w.reverse,[],0,[],0⟩
def mn (rs:List au) (w:List UInt8):Option IZ:=(jt rs vM (start w)).map fun s=>⟨s.stack,s.steps,s.disk⟩
section
variable {rs:List au} {f n m:Nat} {q k:List UInt8} {d:List bX} {R:Option MU}
theorem xU (hf:0 < f) (hq:q.length=0) (h:jt rs f ⟨q,k,n,d,m⟩=R):R=some ⟨q,k,n,d,m⟩:=by
  obtain ⟨f,rfl⟩:∃ g,f=g + 1:=⟨f - 1,by omega⟩
  rw [<- h,jt,if_pos (List.length_eq_zero_iff.1 hq)]
theorem xX (hf:0 < f) (hq:0 < q.length) (h:jt rs f ⟨q,k,n,d,m⟩=R) {s:MU} (e:wo rs ⟨q,k,n,d,m⟩=some s):jt rs (f - 1) s=R:=by
  obtain ⟨f,rfl⟩:∃ g,f=g + 1:=⟨f - 1,by omega⟩
  rw [<- h,jt,if_neg (fun z=>by rw [show q=[] from z] at hq;exact absurd hq (by simp)),e];rfl
theorem Pb (hf:0 < f) (hq:0 < q.length) (h:jt rs f ⟨q,k,n,d,m⟩=R) (hc:ze k q):jt rs (f - 1) ⟨Qw q,Qw k,n,d,m⟩=R :=
  xX hf hq h (by rw [wo,if_pos hc])
theorem Lm (hf:0 < f) (hq:0 < q.length) (h:jt rs f ⟨q,k,n,d,m⟩=R) (hc:¬ ze k q) (hr:cG rs (k ++ [vB q]) < 0):jt rs (f - 1) ⟨Qw q,k ++ [vB q],n,d,m⟩=R :=
  xX hf hq h (by rw [wo,if_neg hc,if_pos hr])
theorem Ln (hf:0 < f) (hq:0 < q.length) (h:jt rs f ⟨q,k,n,d,m⟩=R) (hc:¬ ze k q) (hr:¬ cG rs (k ++ [vB q]) < 0) (hx:fits rs (k ++ [vB q]) n d m) :
    jt rs (f - 1) ⟨Qw q ++ (rj rs (k ++ [vB q])).right.reverse,NI rs (k ++ [vB q]),n + 1,d ++ Ke rs (k ++ [vB q]),m + ew (Ke rs (k ++ [vB q]))⟩=R :=
  xX hf hq h (by rw [wo,if_neg hc,if_neg hr,if_pos hx])
theorem Ll (hf:0 < f) (hq:0 < q.length) (h:jt rs f ⟨q,k,n,d,m⟩=R) (hc:¬ ze k q) (hr:¬ cG rs (k ++ [vB q]) < 0) (hx:¬ fits rs (k ++ [vB q]) n d m):R=none:=by
  obtain ⟨f,rfl⟩:∃ g,f=g + 1:=⟨f - 1,by omega⟩
  rw [<- h,jt,if_neg (fun z=>by rw [show q=[] from z] at hq;exact absurd hq (by simp)),wo,if_neg hc,if_neg hr,if_neg hx]
theorem sy {o:List UInt8} (h:¬ cG rs o < 0):(cG rs o).toNat < rs.length/\iI o (rj rs o).left=true/\cG rs o=((cG rs o).toNat:Nat):=by
  unfold rj
  unfold cG at h ⊢
  split at h
  · rename_i i hi
    have h1:=List.mem_range.1 (List.mem_of_find?_eq_some hi)
    have h2:=List.find?_some hi
    exact ⟨by simpa using h1,by simpa using h2,by simp⟩
  · exact absurd O h
theorem Jx {o w:List UInt8} (h:iI o w=true):w.length<=o.length:=by simp only [iI,decide_eq_true_eq] at h;exact h.1
theorem Jl {u v:List UInt8} (h:nZ u v < 0):u.length<=v.length:=by
  unfold nZ at h
  split at h
  · split at h <;> omega
  · omega
theorem Ld {g:Int} {l:List (List UInt8)} {r:au} (h:gb g l r=true):r.right.length<=r.left.length:=by
  have:=(gx h).2.2.1
  unfold fx at this
  split at this
  · exact Jl this
  · omega
theorem su {g:Int} {w:List UInt8} (h:jV g w=true):SJ w:=uu (fun q=>q (rf h))
theorem uK {g:Int} {l:List (List UInt8)} {r:au} (hs:cx g l rs=true) (hr:r ∈ rs):r.right.length<=r.left.length/\r.left.length<=1000/\r.proof.length<=100000/\ew r.proof<=1000000/\SJ r.right/\SJ r.left:=by
  have h:=(ir hs).2.2.1 r hr
  have h2:=gx h
  have h3:lH g l r.proof (r.left ++ gO r.right)=0:=h2.2.2.2
  unfold lH at h3
  split at h3
  · exact absurd h3 ‹_›
  · rename_i hc
    have:=uk (qm hc).2.2
    exact ⟨Ld h,jW h2.1,this.1,this.2,su h2.2.1,su h2.1⟩
theorem J9 {o:List UInt8} (h:¬ cG rs o < 0):rj rs o ∈ rs:=bx (sy h).1
theorem Lh {g:Int} {l:List (List UInt8)} {o:List UInt8} (hs:cx g l rs=true) (h:¬ cG rs o < 0):(cG rs o).toNat < rs.length/\(rs.getD (cG rs o).toNat .zero).left.length<=o.length/\(rs.getD (cG rs o).toNat .zero).right.length<=(rs.getD (cG rs o).toNat .zero).left.length/\(rs.getD (cG rs o).toNat .zero).left.length<=1000/\(rs.getD (cG rs o).toNat .zero).proof.length<=100000/\ew (rs.getD (cG rs o).toNat .zero).proof<=1000000/\0<=cG rs o:=by
  have h1:=sy h
  have h2:=uK hs (J9 h)
  exact ⟨h1.1,Jx h1.2.1,h2.1,h2.2.1,h2.2.2.1,h2.2.2.2.1,by omega⟩
theorem Kg (q r:List UInt8) (hq:0 < q.length):(q.take (q.length - 1) ++ r.reverse).length=q.length - 1 + r.length:=by simp
theorem Kf {q k K r:List UInt8} {W n:Nat} (h:q.length + k.length<=W) (hK:K.length=k.length + 1) (hr:r.length<=n) (hn:n<=K.length) (hq:0 < q.length):(q.take (q.length - 1) ++ r.reverse).length + (K.take (K.length - n)).length<=W:=by
  rw [Kg q r hq,List.length_take];omega
theorem Oq {q r:List UInt8} {n f:Nat} (hf:(20000 - n) * 100001 + q.length < f) (hn:n + 1<=20000) (hr:r.length<=1000) (hq:0 < q.length):(20000 - (n + 1)) * 100001 + (q.take (q.length - 1) ++ r.reverse).length < f - 1:=by
  rw [Kg q r hq]
  obtain ⟨e,he⟩:∃ e,20000 - n=e + 1:=⟨20000 - n - 1,by omega⟩
  have h2:20000 - (n + 1)=e:=by omega
  rw [h2];rw [he,Nat.add_mul,Nat.one_mul] at hf
  generalize e * 100001=z at *
  have:z + (q.length - 1 + r.length) + 1 < f:=by
    refine Nat.lt_of_le_of_lt ?_ hf
    have:q.length - 1 + r.length + 1<=100001 + q.length:=by omega
    omega
  omega
def Td (s:MU):IZ:=⟨s.stack,s.steps,s.disk⟩
def cI (o:Option IZ):IZ:=o.getD .zero
theorem rZ {w:List UInt8} {s:MU} (h:jt rs vM (start w)=some s):mn rs w=some (Td s):=by rw [mn,h];rfl
theorem Ic {w:List UInt8} (h:jt rs vM (start w)=none):mn rs w=none:=by rw [mn,h];rfl
def uE (g:Int) (rs:List au) (w:List UInt8):Option IZ:=if co g w=0/\w.length<=20000 then mn rs w else none
def rU (g:Int) (rs:List au) (w:List UInt8):Nat:=if ¬ co g w=0 then 4 else if (uE g rs w).isSome then 0 else 2
def Ib (g:Int) (rs:List au) (w:List UInt8):IZ:=cI (uE g rs w)
variable {g:Int} {w:List UInt8}
theorem Rx (h:¬ co g w=0):Ib g rs w=.zero/\rU g rs w=4:=by simp [Ib,uE,rU,h,cI]
def mq (g:Int) (l:List (List UInt8)) (rs:List au) (w:List UInt8):IZ:=if cx g l rs then Ib g rs w else .zero
def ke (g:Int) (l:List (List UInt8)) (rs:List au) (w:List UInt8):Nat:=if cx g l rs then rU g rs w else 100
theorem RY {l:List (List UInt8)} (h:cx g l rs=false):mq g l rs w=.zero/\ke g l rs w=100:=by simp [mq,ke,h]
theorem sa {l:List (List UInt8)} (h:cx g l rs=true):mq g l rs w=Ib g rs w/\ke g l rs w=rU g rs w:=by simp [mq,ke,h]
theorem oC {o:Option IZ} (h:(!o.isSome)=true):o=none:=by cases o <;> simp_all
theorem mj {o:Option IZ} (h:(!o.isSome)=false):o=some (cI o):=by cases o <;> simp_all [cI]
end
end Go.Proofs.YtjppkekmddjcfaaGreatDoor

namespace Go.Proofs.YtjppkekmddjcfaaGreatDoor
open Go Go.RowKit V
set_option maxRecDepth 100000
theorem vu:dF Tryz.prog 37=some true:=by kernel_rfl
theorem mL:eb Tryz.prog 37 0=some (9,0):=by kernel_rfl
theorem rC:eb Tryz.prog 37 1=some (3,1):=by kernel_rfl
theorem ue:eb Tryz.prog 37 2=some (35,2):=by kernel_rfl
theorem D4:Tryz.prog.info? 85=some Tryz.t85:=by kernel_rfl
theorem OG:dq Tryz.prog 37=some [(0,1),(1,1),(2,1)]:=by kernel_rfl
theorem TR:dq Tryz.prog 85=some [(0,1),(1,1),(2,1)]:=by kernel_rfl
theorem ie:du Tryz.prog 37=some 3:=by kernel_rfl
theorem TK:type_of% @Tryz.underlying37:=@Tryz.underlying37
theorem AN:cO Tryz.prog 37=some (.agg #[.string ⟨⟨[]⟩⟩,.int .i64 0,.slice none 0 0]):=by kernel_rfl

end Go.Proofs.YtjppkekmddjcfaaGreatDoor

namespace Go.Proofs.YtjppkekmddjcfaaGreatDoor
open Go Go.RowKit
namespace V

end V
end Go.Proofs.YtjppkekmddjcfaaGreatDoor

namespace Go.Proofs.YtjppkekmddjcfaaGreatDoor
open Go Go.RowKit
namespace V
section
variable {A B C:AH} {b:Nat} {v v':Value} {size:Nat} {xs ys:List Value}
def Sm (A0 A:AH) (Ds:List Nat):Prop:=Ds.Nodup/\∀ D ∈ Ds,A.get D=some (.obj true (.deferred (some [])))/\A0.get D=none
end
end V
end Go.Proofs.YtjppkekmddjcfaaGreatDoor

namespace Go.Proofs.YtjppkekmddjcfaaGreatDoor
open Go Go.RowKit
namespace V
def tL (ops:Array Oper):Array Bool->List Nat->Nat->Nat->List Nat->List Nat->Bool
  | listed,[],i,j,C,D=>(Region.ready .any ops listed == [i,j]) && kZ ops (listed.setIfInBounds i true) C && kZ ops (listed.setIfInBounds j true) D && (C.length == D.length)
  | listed,q :: Cq,i,j,C,D=>match ops[q]? with
    | none=>false
    | some o=>dp o.op && (Region.ready .any ops listed).contains q && Region.free .any ops listed q && tL ops (listed.setIfInBounds q true) Cq i j C D
section
variable {P:Program} {nt:Nat} {ops:Array Oper} {Q:Exit->Fr->AH->Prop} {f:Fr} {A:AH}
def kX (P:Program) (nt:Nat) (ops:Array Oper) (Q:Exit->Fr->AH->Prop) (listed:Array Bool) (held:List (Nat × fh)) (Cq:List Nat) (i j:Nat) (C D:List Nat) (f:Fr) (A:AH):Prop :=
  tL ops listed Cq i j C D=true->Region.noSelect ops=true->∀ a w,db nt f a->ct A w->dQ ops held listed w->j7 ops listed ->
    ∀ (A₀:AH) (w₀:World),eu A₀ w₀ A w->eK P ops (dT nt Q A₀ w₀) (dQ ops held) (Cq.length + (C.length + 1)) listed a w
theorem kX.quiet {listed:Array Bool} {held:List (Nat × fh)} {q i j:Nat} {Cq C D:List Nat} {o:Oper} {v:Value} {T:fh} (ho:ops[q]? = some o) (hq:dp o.op=true) (hd:∀ t,o.dst=some t->t < nt)
    (hv:∀ a w,db nt f a->ct A w->fb T w/\YieldsIf P ops (fb T) o v a)
    (h:kX P nt ops Q (listed.setIfInBounds q true) ((q,T) :: held) Cq i j C D ⟨fp f.e o.dst v,f.ds⟩ A):kX P nt ops Q listed held (q :: Cq) i j C D f A:=by
  intro hc hn a w ha hw hh hcl A₀ w₀ hs
  simp only [tL,ho,Bool.and_eq_true] at hc
  obtain ⟨⟨⟨_,c1⟩,c2⟩,c3⟩:=hc
  obtain ⟨t1,t2⟩:=hv a w ha hw
  have hr:q ∈ Region.ready .any ops listed:=by simpa using c1
  have hheld:dQ ops ((q,T) :: held) listed w:=fun p hp hj=>by
    rcases List.mem_cons.1 hp with rfl | hp
    · exact t1
    · exact hh p hp hj
  have H:=h c3 hn _ w (ha.put o.dst v hd) hw ((ja ho hq _ _).2 hheld) (gB hcl hr) A₀ w₀ hs
  have free:=Region.free_spec ho c2
  have H':eK P ops (dT nt Q A₀ w₀) (dQ ops ((q,T) :: held)) (Cq.length + (C.length + 1) + 1) listed a w :=
    m7 (T:=fb T) ho (Region.noSelect_spec hn) (fun c a w g=>rO _ _ c a w g)
      (fun l w' hcl' hun hS=>hS (q,T) (List.mem_cons_self ..) fun j hl ⟨oj,hoj,_⟩=>by
        cases e:kq ops q ops.size j with
        | false=>rfl
        | true =>
          have:=jC hcl' ops.size j oj hoj (hcl' j oj hoj hl) e
          rw [il hun] at this;cases this)
      (fun l w'=>ja ho hq l w') _ listed a w hcl (fun j oj hoj hne hun hno=>free j oj hoj hne hun hno) hr t2 hheld H
  have weaken:∀ (fuel:Nat) (l:Array Bool) (a:Act) (w:World),eK P ops (dT nt Q A₀ w₀) (dQ ops ((q,T) :: held)) fuel l a w->eK P ops (dT nt Q A₀ w₀) (dQ ops held) fuel l a w:=by
    intro fuel
    induction fuel with
    | zero=>intro l a w h;exact h
    | succ fuel ih=>intro l a w h;exact ⟨h.1,fun j hj=>wpOp_mono (fun a' w' h'=>⟨fun p hp=>h'.1 p (List.mem_cons_of_mem _ hp),ih _ _ _ h'.2⟩) (h.2 j hj)⟩
  rw [List.length_cons,Nat.add_right_comm]
  exact weaken _ _ _ _ H'
theorem wb {listed:Array Bool} {held:List (Nat × fh)} {i:Nat} {C:List Nat} {o:Oper} {a:Act} {w:World} {A₀:AH} {w₀:World} (ho:ops[i]? = some o) (hq:dp o.op=false) (hd:∀ t,o.dst=some t->t < nt) (hwn:∀ a:Act,db nt f a->Region.wanted o (yielded ops a.tmps)=true)
    (c2:kZ ops (listed.setIfInBounds i true) C=true) (hn:Region.noSelect ops=true) (ha:db nt f a) (hw:ct A w) (hcl:j7 ops listed) (hs:eu A₀ w₀ A w) (hr:i ∈ Region.ready .any ops listed)
    (h:∀ (K:Value->AH->Prop) (Kp:List PanicEntry->AH->Prop),
      (∀ v A',(∀ w',ct A' w'->∀ p ∈ held,kq ops p.1 ops.size i=false->fb p.2 w')->bj P nt ops Q (listed.setIfInBounds i true) (held.filter fun p=>!kq ops p.1 ops.size i) C ⟨fp f.e o.dst v,f.ds⟩ A'->K v A') ->
      (∀ ch A',Q (.panic ch) ⟨[],f.ds⟩ A'->Kp ch A')->j6 P f.e A o K Kp) :
    wpOp P ops (dT nt Q A₀ w₀) i (fun a' w'=>dQ ops held (listed.setIfInBounds i true) w'/\eK P ops (dT nt Q A₀ w₀) (dQ ops held) C.length (listed.setIfInBounds i true) a' w') a w:=by
  have hlt:i < listed.size:=by
    have:=(mem_ready.1 hr).1
    rcases Nat.lt_or_ge i listed.size with h' | h'
    · exact h'
    · simp [Array.getElem?_eq_none h'] at this
  have hl:(listed.setIfInBounds i true).getD i false=true:=by simp [hlt]
  unfold wpOp
  simp only [ho,hwn a ha,if_true]
  left
  have:=ph (o:=o) (K:=fun v A'=>(∀ w',ct A' w'->∀ p ∈ held,kq ops p.1 ops.size i=false->fb p.2 w')/\bj P nt ops Q (listed.setIfInBounds i true) (held.filter fun p=>!kq ops p.1 ops.size i) C ⟨fp f.e o.dst v,f.ds⟩ A')
    (Kp:=fun ch A'=>Q (.panic ch) ⟨[],f.ds⟩ A') ha hw (h _ _ (fun v A' g1 g2=>⟨g1,g2⟩) (fun ch A' g=>g))
  unfold Oper.wp at this ⊢
  have up:∀ r,o.upon P a (jA A a w o fun v A'=>(∀ w',ct A' w'->∀ p ∈ held,kq ops p.1 ops.size i=false->fb p.2 w')/\bj P nt ops Q (listed.setIfInBounds i true) (held.filter fun p=>!kq ops p.1 ops.size i) C ⟨fp f.e o.dst v,f.ds⟩ A') (gV A a w fun ch A'=>Q (.panic ch) ⟨[],f.ds⟩ A') r ->
      o.upon P a (fun a' w'=>dQ ops held (listed.setIfInBounds i true) w'/\eK P ops (dT nt Q A₀ w₀) (dQ ops held) C.length (listed.setIfInBounds i true) a' w') (dT nt Q A₀ w₀) r:=by
    have next:∀ a' w',(jA A a w o fun v A'=>(∀ w',ct A' w'->∀ p ∈ held,kq ops p.1 ops.size i=false->fb p.2 w')/\bj P nt ops Q (listed.setIfInBounds i true) (held.filter fun p=>!kq ops p.1 ops.size i) C ⟨fp f.e o.dst v,f.ds⟩ A') a' w' ->
        dQ ops held (listed.setIfInBounds i true) w'/\eK P ops (dT nt Q A₀ w₀) (dQ ops held) C.length (listed.setIfInBounds i true) a' w':=by
      rintro a' w' ⟨v,A',rfl,hv',hs',g1,g2⟩
      have hlo:V.loud ops i:=⟨o,ho,hq⟩
      have hh':dQ ops held (listed.setIfInBounds i true) w':=fun p hp hj=>g1 w' hv' p hp (hj i hl hlo)
      refine ⟨hh',?_⟩
      have H:=g2 c2 hn _ w' (ha.put o.dst v hd) hv' (fun p hp hj=>hh' p (List.mem_filter.1 hp).1 hj) (gB hcl hr) A₀ w₀ (hs.trans hs')
      refine j5 (x:=i) (fun l w hx hS p hp hj=>hS p (List.mem_filter.2 ⟨hp,?_⟩) hj) _ _ _ _ hl H
      simp [hj i hx hlo]
    have pan:∀ x a' w',gV A a w (fun ch A'=>Q (.panic ch) ⟨[],f.ds⟩ A') x a' w'->dT nt Q A₀ w₀ x a' w':=by
      rintro x a' w' ⟨ch,A',rfl,rfl,hv',hs',g⟩
      exact ⟨⟨[],f.ds⟩,A',⟨ha.size,(fun _ _ q=>by cases q),ha.ds⟩,hv',hs.trans hs',g,fun _ _=>rfl⟩
    intro r hr'
    cases r with
    | ok n w' =>
      cases n <;> simp only [Oper.upon] at hr' ⊢ <;> (try exact hr'.elim)
      case value v=>exact next _ _ hr'
      case skip=>exact next _ _ hr'
      case defer d=>exact next _ _ hr'
      case enter f' args =>
        refine hr'.mono fun e w'' he=>?_
        cases e with
        | returned v=>exact next _ _ he
        | panicked ch=>exact pan _ _ _ he
        | outgrown=>obtain ⟨a₁,w₁,ch,A',q,_⟩:=he;cases q
      case row row args=>exact hr'.mono fun v w'' he=>next _ _ he
    | halt x w' =>
      cases x <;> simp only [Oper.upon] at hr' ⊢ <;> (try exact hr'.elim)
      case panic v=>exact pan _ _ _ hr'
  exact up _ this
variable {e:gv} {ds:List Deferred}
theorem kX.q {listed:Array Bool} {held:List (Nat × fh)} {i j k d:Nat} {Cq C D:List Nat} {op:Op} {ty:TypeId} {ps:String} {af:Array Edge} {v:Value} {T:fh} (ho:ops[k]? = some { dst:=some d,op:=op,type:=ty,pos:=ps,after:=af,guard:=none }) (hq:dp op=true) (hd:Nat.blt d nt=true) (hv:aQ P e A op=some (v,T))
    (h:kX P nt ops Q (listed.setIfInBounds k true) ((k,T) :: held) Cq i j C D ⟨(d,v) :: e,ds⟩ A):kX P nt ops Q listed held (k :: Cq) i j C D ⟨e,ds⟩ A :=
  kX.quiet (f:=⟨e,ds⟩) (T:=T) (v:=v) ho hq (da (d:=some d) hd) (fun a w ha hw=>by
    have key:=fY (P:=P) (f:=(⟨e,ds⟩:Fr)) (o:={ dst:=some d,op:=op,type:=ty,pos:=ps,after:=af,guard:=none }) hv ha hw
    exact ⟨key.1,.inl ⟨by simp [Region.wanted],key.2⟩⟩) h
theorem kX.both {listed:Array Bool} {held:List (Nat × fh)} {i j:Nat} {C D:List Nat} {di dj:Option Nat} {opi opj:Op} {ti tj:TypeId} {pi pj:String} {afi afj:Array Edge}
    (hoi:ops[i]? = some { dst:=di,op:=opi,type:=ti,pos:=pi,after:=afi,guard:=none }) (hoj:ops[j]? = some { dst:=dj,op:=opj,type:=tj,pos:=pj,after:=afj,guard:=none }) (hqi:dp opi=false) (hqj:dp opj=false) (hdi:gj nt di=true) (hdj:gj nt dj=true)
    (hi:∀ (K:Value->AH->Prop) (Kp:List PanicEntry->AH->Prop),(∀ v A',aO ops held i A'->bj P nt ops Q (listed.setIfInBounds i true) (held.filter fun p=>!kq ops p.1 ops.size i) C ⟨fp e di v,ds⟩ A'->K v A') ->
      (∀ ch A',Q (.panic ch) ⟨[],ds⟩ A'->Kp ch A')->j6 P e A { dst:=di,op:=opi,type:=ti,pos:=pi,after:=afi,guard:=none } K Kp)
    (hj:∀ (K:Value->AH->Prop) (Kp:List PanicEntry->AH->Prop),(∀ v A',aO ops held j A'->bj P nt ops Q (listed.setIfInBounds j true) (held.filter fun p=>!kq ops p.1 ops.size j) D ⟨fp e dj v,ds⟩ A'->K v A') ->
      (∀ ch A',Q (.panic ch) ⟨[],ds⟩ A'->Kp ch A')->j6 P e A { dst:=dj,op:=opj,type:=tj,pos:=pj,after:=afj,guard:=none } K Kp):kX P nt ops Q listed held [] i j C D ⟨e,ds⟩ A:=by
  intro hc hn a w ha hw hh hcl A₀ w₀ hs
  simp only [tL,Bool.and_eq_true,beq_iff_eq] at hc
  obtain ⟨⟨⟨c1,c2⟩,c3⟩,c4⟩:=hc
  rw [List.length_nil,Nat.zero_add]
  refine ⟨fun h0=>(by rw [c1] at h0;cases h0),fun k hk=>?_⟩
  have hk':=hk
  rw [c1] at hk'
  simp only [List.mem_cons,List.not_mem_nil,or_false] at hk'
  rcases hk' with rfl | rfl
  · exact wb (C:=C) hoi hqi (da hdi) (fun a _=>by simp [Region.wanted]) c2 hn ha hw hcl hs hk hi
  · rw [c4];exact wb (C:=D) hoj hqj (da hdj) (fun a _=>by simp [Region.wanted]) c3 hn ha hw hcl hs hk hj
theorem ao.drawnP {id:Nat} (Cq:List Nat) (i j:Nat) (C D:List Nat) (hm:P.follows .mixedOrders=true) (hc:tL ops (Array.replicate ops.size false) Cq i j C D=true) (hn:Region.noSelect ops=true) (hl:Cq.length + (C.length + 1)=ops.size)
    (h:kX P nt ops Q (Array.replicate ops.size false) [] Cq i j C D f A):ao P nt (.region id ops true) Q f A:=by
  intro a w ha hw
  obtain ⟨v1,s1⟩:=i5 hw
  refine wp_mono (wp_region_any hm (jI (Q:=dT nt Q A w) (S:=dQ ops []) _ _ _ _ ?_)) (fun _ _ _=>dT.q)
  have key:=h hc hn a _ ha v1 (fun p hp=>by cases hp) (fun j o _ hj=>by
    exfalso
    rcases Nat.lt_or_ge j ops.size with q | q
    · simp [q] at hj
    · simp [q] at hj) A w s1
  rw [hl] at key
  exact key
end
end V
end Go.Proofs.YtjppkekmddjcfaaGreatDoor

namespace Go.Proofs.YtjppkekmddjcfaaGreatDoor
open Go Go.RowKit
namespace V
section
variable {P:Program} {nt:Nat} {A:AH}

def jK (P:Program) (g:FuncId) (args:Array Value) (u:FrameMode) (A:AH) (Q:Ending->FrameMode->AH->Prop):Prop :=
  ∀ w,ct A w->CallsD P g args u w fun e u' w'=>∃ A',ct A' w'/\eu A w A' w'/\Q e u' A'

theorem jK.mono {g:FuncId} {args:Array Value} {u:FrameMode} {Q Q':Ending->FrameMode->AH->Prop} (h:jK P g args u A Q)
    (k:∀ e u' A',Q e u' A'->Q' e u' A'):jK P g args u A Q' :=
  fun w hw=>(h w hw).mono fun _ _ _ ⟨A',v,s,q⟩=>⟨A',v,s,k _ _ _ q⟩

def kY (P:Program) (rs:List ResultVar) (e:gv) (Q:Ending->AH->Prop):List Deferred->FrameMode->AH->Prop
  | [],.returning,A=>∃ vs,gt P e A rs=some vs/\Q (.returned (fg vs)) A
  | [],.panicking ch,A=>Q (.panicked ch) A
  | [],.run,_=>False
  | d :: ds,u,A=>u ≠ .run/\∃ fv cap g args,d.target=.fn fv cap/\(∀ w,(invoke d.target d.args).run P w=.ok (.enter g args) w) /\
      jK P g args u A fun
        | .returned _,u',A'=>kY P rs e Q ds (settle u') A'
        | .panicked ch,u',A'=>kY P rs e Q ds (raised u' ch) A'
        | .outgrown,_,_=>False

theorem xq {fn:Func} {e:gv} {a:Act} {Q:Ending->AH->Prop} {A₀:AH} {w₀:World} (hsz:a.tmps.size=nt) (hsl:∀ t v,cz e t=some v->a.tmps.getD t undef=v/\t < nt) :
    ∀ (ds:List Deferred) (u:FrameMode) (A:AH) (w:World),ct A w->eu A₀ w₀ A w->kY P fn.results.toList e Q ds u A ->
      Leaves P fn a.tmps (fun en w'=>∃ A',ct A' w'/\eu A₀ w₀ A' w'/\Q en A') ds u w:=by
  intro ds
  induction ds with
  | nil =>
    intro u A w hv hs h
    cases u with
    | run=>exact h.elim
    | returning =>
      obtain ⟨vs,hr,hq⟩:=h
      exact ⟨_,jd (nt:=nt) (f:=⟨e,a.defers⟩) (a:=a) ⟨hsz,hsl,Z⟩ hv hr,A,hv,hs,hq⟩
    | panicking ch=>exact ⟨A,hv,hs,h⟩
  | cons d ds ih =>
    intro u A w hv hs h
    obtain ⟨hu,fv,cap,g,args,ht,hi,hc⟩:=h
    refine ⟨hu,fv,cap,g,args,ht,hi w,(hc w hv).mono ?_⟩
    rintro en u' w' ⟨A',hv',hs',hq⟩
    cases en with
    | returned v=>exact ih _ A' w' hv' (hs.trans hs') hq
    | panicked ch=>exact ih _ A' w' hv' (hs.trans hs') hq
    | outgrown=>exact hq.elim

def Bg (P:Program) (rs:List ResultVar) (Q:Ending->AH->Prop):Exit->Fr->AH->Prop
  | .normal,f,A | .ret,f,A=>kY P rs f.e Q f.ds .returning A
  | .panic ch,f,A=>kY P rs f.e Q f.ds (.panicking ch) A
  | _,_,_=>False

theorem Ja {args:List Value} (hn:args.length<=nt):db nt ⟨qi args 0,[]⟩ { tmps:=args.toArray ++ Array.replicate (nt - args.toArray.size) undef,defers:=[] }:=by
  refine ⟨by simp;omega,fun t v q=>?_,Z⟩
  obtain ⟨_,h2⟩:=tC args 0 t v q
  simp only [Nat.sub_zero] at h2
  have hlt:t < args.length:=(List.getElem?_eq_some_iff.1 h2).1
  refine ⟨?_,by omega⟩
  simp only [Array.getD_eq_getD_getElem?]
  rw [Array.getElem?_append_left (by simpa using hlt)]
  simp [h2]

theorem gi.enterD {g:FuncId} {fn:Func} {c:Code} {args:List Value} {Qe:Ending->AH->Prop} (he:eU P g) (hf:P.funcs[g]? = some fn) (hb:fn.body=some c) (hn:args.length<=fn.ntmps)
    (h:A.wf->ao P fn.ntmps c (Bg P fn.results.toList Qe) ⟨qi args 0,[]⟩ A):gi P g args.toArray A Qe:=by
  refine ⟨he,fun w hw=>calls_of_wp_defers hf hb ?_⟩
  refine wp_mono (h hw.wf _ w (Ja hn) hw) ?_
  rintro x a' w' ⟨f',A',h1,h2,h3,h4,h5⟩
  cases x <;> simp only [Bg] at h4 <;> (try exact h4.elim)
  case normal=>simp only [bodyPostD];rw [h1.ds];exact xq h1.size h1.slot _ _ _ _ h2 h3 h4
  case ret=>simp only [bodyPostD];rw [h1.ds];exact xq h1.size h1.slot _ _ _ _ h2 h3 h4
  case panic ch=>simp only [bodyPostD];rw [h1.ds];exact xq h1.size h1.slot _ _ _ _ h2 h3 h4

def Qj (nt:Nat) (Q:Exit->FrameMode->Fr->AH->Prop) (A:AH) (w:World) (c₀:Frame) (cs:List Frame):Exit->Act->List Frame->World->Prop :=
  fun x a' cs' w'=>∃ u' f' A',cs'={ c₀ with mode:=u' } :: cs/\db nt f' a'/\ct A' w'/\eu A w A' w'/\Q x u' f' A'

def pH (P:Program) (nt:Nat) (c:Code) (Q:Exit->FrameMode->Fr->AH->Prop) (u:FrameMode) (f:Fr) (A:AH):Prop :=
  ∀ a w (c₀:Frame) cs,c₀.mode=u->db nt f a->ct A w->c.wpS P (Qj nt Q A w c₀ cs) a (c₀ :: cs) w

def rp (P:Program) (nt:Nat) (all:Array Oper) (l:List Nat) (Q:Exit->FrameMode->Fr->AH->Prop) (u:FrameMode) (f:Fr) (A:AH):Prop :=
  ∀ a w (c₀:Frame) cs,c₀.mode=u->db nt f a->ct A w->∀ (A₀:AH) (w₀:World),eu A₀ w₀ A w->wpOpsS P all (Qj nt Q A₀ w₀ c₀ cs) l a (c₀ :: cs) w

variable {Q:Exit->FrameMode->Fr->AH->Prop} {u:FrameMode} {f:Fr} {all:Array Oper} {l:List Nat} {e:gv} {ds:List Deferred}

theorem vh {c:Code} {R R':Exit->Act->List Frame->World->Prop} {a:Act} {cs:List Frame} {w:World} (h:c.wpS P R a cs w) (k:∀ x a cs w,R x a cs w->R' x a cs w):c.wpS P R' a cs w :=
  fun b kk hb hr=>let ⟨x,a',cs',w',q,r⟩:=h b kk hb hr;⟨x,a',cs',w',k _ _ _ _ q,r⟩

theorem pH.of_run {c:Code} (h:ao P nt c (fun x f A=>Q x u f A) f A):pH P nt c Q u f A:=by
  intro a w c₀ cs hu ha hw
  refine wpS_of_wp (wp_mono (h a w ha hw) ?_)
  rintro x a' w' ⟨f',A',h1,h2,h3,h4,_⟩
  exact ⟨u,f',A',by subst hu;rfl,h1,h2,h3,h4⟩

def Tp (K:FrameMode->Fr->AH->Prop) (Q:Exit->FrameMode->Fr->AH->Prop):Exit->FrameMode->Fr->AH->Prop
  | .normal,u,f,A=>K u f A
  | x,u,f,A=>Q x u f A

theorem pH.seq {x y:Code} (h:pH P nt x (Tp (fun u f A=>pH P nt y Q u f A) Q) u f A):pH P nt (x.seq y) Q u f A:=by
  intro a w c₀ cs hu ha hw
  refine wpS_seq (vh (h a w c₀ cs hu ha hw) ?_)
  rintro e a' cs' w' ⟨u',f',A',rfl,h1,h2,h3,h4⟩
  cases e with
  | normal =>
    refine vh (h4 a' w' { c₀ with mode:=u' } cs Z h1 h2) ?_
    rintro x a'' cs'' w'' ⟨u2,f2,A2,rfl,g1,g2,g3,g4⟩
    exact ⟨u2,f2,A2,Z,g1,g2,h3.trans g3,g4⟩
  | _=>exact ⟨u',f',A',Z,h1,h2,h3,h4⟩

theorem pH.region {id:Nat} {ops:Array Oper} (hl:List.range ops.size=l) (h:rp P nt ops l Q u f A):pH P nt (.region id ops false) Q u f A:=by
  intro a w c₀ cs hu ha hw
  refine wpS_region ?_
  rw [hl]
  exact h a w c₀ cs hu ha hw A w (.refl _ _)

theorem rp.nil (h:Q .normal u f A):rp P nt all [] Q u f A:=by
  intro a w c₀ cs hu ha hw A₀ w₀ hs
  exact ⟨u,f,A,by subst hu;rfl,ha,hw,hs,h⟩

theorem rp.recover {i:Nat} {o:Oper} {d:Nat} {v:Value} {older:List PanicEntry} (ho:all[i]? = some o) (hg:o.guard=none) (hd:o.dst=some d) (hdn:d < nt)
    (hr:∀ ρ w,(execOp ρ o).run P w=.ok .recover w)
    (h:rp P nt all l Q (.panicking ({ v:=v,recovered:=true } :: older)) ⟨(d,v) :: e,ds⟩ A) :
    rp P nt all (i :: l) Q (.panicking ({ v:=v,recovered:=false } :: older)) ⟨e,ds⟩ A:=by
  intro a w c₀ cs hu ha hw A₀ w₀ hs
  simp only [wpOpsS,ho]
  rw [if_pos (by simp [Region.wanted,hg]),hr]
  simp only [recoverD,hu]
  have:=h (a.put o.dst v) w { c₀ with mode:=.panicking ({ v:=v,recovered:=true } :: older) } cs Z (by have:=ha.put o.dst v (by rw [hd];rintro t ⟨⟩;exact hdn);rw [hd] at this ⊢;exact this) hw A₀ w₀ hs
  exact this

theorem rp.recoverNil {i:Nat} {o:Oper} {d:Nat} (ho:all[i]? = some o) (hg:o.guard=none) (hd:o.dst=some d) (hdn:d < nt)
    (hr:∀ ρ w,(execOp ρ o).run P w=.ok .recover w)
    (h:rp P nt all l Q .returning ⟨(d,.nilIface) :: e,ds⟩ A) :
    rp P nt all (i :: l) Q .returning ⟨e,ds⟩ A:=by
  intro a w c₀ cs hu ha hw A₀ w₀ hs
  simp only [wpOpsS,ho]
  rw [if_pos (by simp [Region.wanted,hg]),hr]
  simp only [recoverD,hu]
  have:=h (a.put o.dst .nilIface) w c₀ cs hu (by have:=ha.put o.dst .nilIface (by rw [hd];rintro t ⟨⟩;exact hdn);rw [hd] at this ⊢;exact this) hw A₀ w₀ hs
  exact this

def Jg (P:Program) (rs:List ResultVar) (R:Ending->FrameMode->AH->Prop):Exit->FrameMode->Fr->AH->Prop
  | .normal,u,f,A | .ret,u,f,A=>f.ds=[]/\∃ vs,gt P f.e A rs=some vs/\R (.returned (fg vs)) u A
  | .panic ch,u,f,A=>f.ds=[]/\R (.panicked ch) u A
  | _,_,_,_=>False

theorem jK.enter {g:FuncId} {fn:Func} {c:Code} {args:List Value} {R:Ending->FrameMode->AH->Prop} (hf:P.funcs[g]? = some fn) (hb:fn.body=some c) (hn:args.length<=fn.ntmps)
    (h:A.wf->pH P fn.ntmps c (Jg P fn.results.toList R) u ⟨qi args 0,[]⟩ A):jK P g args.toArray u A R:=by
  intro w hw
  refine callsD_of_wpS hf hb fun c₀ cs hu=>?_
  refine vh (h hw.wf _ w c₀ cs hu (Ja hn) hw) ?_
  rintro x a' cs' w' ⟨u',f',A',rfl,h1,h2,h3,h4⟩
  cases x <;> simp only [Jg] at h4 <;> (try exact h4.elim)
  case normal=>obtain ⟨q,vs,hr,hq⟩:=h4;exact ⟨h1.ds.trans q,u',Z,_,jd h1 h2 hr,A',h2,h3,hq⟩
  case ret=>obtain ⟨q,vs,hr,hq⟩:=h4;exact ⟨h1.ds.trans q,u',Z,_,jd h1 h2 hr,A',h2,h3,hq⟩
  case panic ch=>exact ⟨h1.ds.trans h4.1,u',Z,A',h2,h3,h4.2⟩
end
theorem CM {P:Program} {t x:TypeId} {fs:Array Field} {v:Value} {w:World} (hu:P.underlying t=some (.struct fs)):(Instr.typeAssert (.iface t v) x t true).run P w=.ok (.tuple #[v,.bool true]) w:=by
  have h1:(underlying t).run P w=.ok (.struct fs) w:=by simp [underlying,go_sem,hu]
  simp [Instr.typeAssert,go_sem,h1]

section
variable {P:Program} {nt:Nat} {A:AH} {Q:Exit->Fr->AH->Prop} {all:Array Oper} {os:List Oper} {e:gv} {ds:List Deferred} {o:Oper}

theorem Ops.raise {v:Value} (hg:o.guard=none) (hr:∀ a:Act,db nt ⟨e,ds⟩ a->∀ w,ct A w->(execOp a.eval o).run P w=.halt (.panic v) w) (h:Q (.panic [{ v:=v,recovered:=false }]) ⟨e,ds⟩ A) :
    Ops P nt all (o :: os) Q ⟨e,ds⟩ A:=by
  intro a w ha hw A₀ w₀ hs
  unfold wpList
  rw [if_pos (by simp [Region.wanted,hg])]
  left
  unfold Oper.wp
  rw [hr a ha w hw]
  exact ⟨⟨e,ds⟩,A,ha,hw,hs,h,fun _ _=>trivial⟩

theorem Ops.val {v:Value} (hg:o.guard=none) (hd:gj nt o.dst=true) (hr:∀ a:Act,db nt ⟨e,ds⟩ a->∀ w,ct A w->(execOp a.eval o).run P w=.ok (.value v) w) (h:Ops P nt all os Q ⟨fp e o.dst v,ds⟩ A) :
    Ops P nt all (o :: os) Q ⟨e,ds⟩ A:=by
  intro a w ha hw A₀ w₀ hs
  unfold wpList
  rw [if_pos (by simp [Region.wanted,hg])]
  left
  unfold Oper.wp
  rw [hr a ha w hw]
  exact h _ w (ha.put o.dst v (da hd)) hw A₀ w₀ hs

theorem Ops.defer {d:Deferred} (hg:o.guard=none) (hd:o.dst=none) (hr:∀ a:Act,db nt ⟨e,ds⟩ a->∀ w,ct A w->(execOp a.eval o).run P w=.ok (.defer d) w) (h:Ops P nt all os Q ⟨e,d :: ds⟩ A) :
    Ops P nt all (o :: os) Q ⟨e,ds⟩ A:=by
  intro a w ha hw A₀ w₀ hs
  unfold wpList
  rw [if_pos (by simp [Region.wanted,hg])]
  left
  unfold Oper.wp
  rw [hr a ha w hw]
  simp only [Oper.upon,hd]
  exact h ({ a with defers:=d :: a.defers }:Act) w ⟨ha.size,ha.slot,by have:=ha.ds;simp only at this ⊢;rw [this]⟩ hw A₀ w₀ hs

def wK (P:Program) (g:FuncId) (args:Array Value) (A:AH) (R:Value->AH->Prop) (Rp:List PanicEntry->AH->Prop):Prop:=gi P g args A (yO R Rp)
theorem wK.ret {g:FuncId} {args:Array Value} {R:Value->AH->Prop} (h:wK P g args A R (fun _ _=>False)):bG P g args A R :=
  gi.mono h fun en A' q=>by
    cases en with
    | returned v=>exact ⟨v,Z,q⟩
    | panicked ch=>exact q.elim
    | outgrown=>exact q.elim
variable {K:Value->AH->Prop} {Kp:List PanicEntry->AH->Prop} {g:Option (Nat × Bool)} {dst:Option Nat} {ty:TypeId} {ps:String} {af:Array Edge}
theorem Mw {gg:FuncId} {vs:List Value} {R:Value->AH->Prop} {Rp:List PanicEntry->AH->Prop} {aa:Array Operand} {tt:Array TypeId} (ha:jj (bZ e) aa.toList=some vs)
    (hc:wK P gg vs.toArray A R Rp) (h:∀ v A',R v A'->K v A') (hp:∀ ch A',Rp ch A'->Kp ch A'):j6 P e A { dst:=dst,op:=.call { callee:=.value (.func gg),args:=aa,argTypes:=tt },type:=ty,pos:=ps,after:=af,guard:=g } K Kp:=by
  simp only [j6,tK,bZ,ha]
  refine gi.mono (Q:=yO R Rp) (by unfold wK at hc;simpa using hc) fun en A' q=>?_
  cases en with
  | returned v=>exact h _ _ q
  | panicked ch=>exact hp _ _ q
  | outgrown=>exact q.elim
theorem Jy {gg:FuncId} {fn:Func} {c:Code} {rs:Array ResultVar} {args:List Value} {a:Array Value} {R:Value->AH->Prop} {Rp:List PanicEntry->AH->Prop} (he:eU P gg) (hf:P.funcs[gg]? = some fn) (hb:fn.body=some c)
    (hr:fn.results=rs) (hnt:fn.ntmps=nt) (ha:args.toArray=a) (hn:Nat.ble args.length nt=true) (hE:qi args 0=e) (h:A.wf->ao P nt c (i6 P rs.toList (yO R Rp)) ⟨e,[]⟩ A):wK P gg a A R Rp:=by
  subst hr;subst hnt;subst ha;subst hE
  exact gi.enter he hf hb (Nat.le_of_ble_eq_true hn) h

theorem enterD {gg:FuncId} {fn:Func} {c:Code} {rs:Array ResultVar} {args:List Value} {a:Array Value} {R:Value->AH->Prop} {Rp:List PanicEntry->AH->Prop} (he:eU P gg) (hf:P.funcs[gg]? = some fn) (hb:fn.body=some c)
    (hr:fn.results=rs) (hnt:fn.ntmps=nt) (ha:args.toArray=a) (hn:Nat.ble args.length nt=true) (hE:qi args 0=e) (h:A.wf->ao P nt c (Bg P rs.toList (yO R Rp)) ⟨e,[]⟩ A):wK P gg a A R Rp:=by
  subst hr;subst hnt;subst ha;subst hE
  exact gi.enterD he hf hb (Nat.le_of_ble_eq_true hn) h
end
section
variable {P:Program} {A:AH} {e:gv} {r:List ResultVar} {vs:List Value} {v:Value} {t:TypeId} {a b off cap n:Nat} {rw:Bool} {c cs:List Value}
theorem gt.nil:gt P e A []=some []:=rfl
theorem gt.cell {p:Addr} (hx:cz e a=some (.pointer (some p))) (hv:jQ P A t (.pointer (some p))=some v) (hr:gt P e A r=some vs):gt P e A (.cell a t :: r)=some (v :: vs):=by
  simp only [gt,hx,hr,hv];rfl
theorem oc (ha:dF P t=some false) (hg:A.get b=some (.row rw c cap)) (hc:c[off]? = some v):jQ P A t (.pointer (some ⟨b,off,none⟩))=some v:=by
  simp only [jQ,ha];simp [AH.cell,hg,hc]
theorem ob (ha:dF P t=some true) (hs:du P t=some n) (hg:A.get b=some (.row rw c cap)) (hc:jD c off n=some cs):jQ P A t (.pointer (some ⟨b,off,none⟩))=some (.agg cs.toArray):=by
  simp only [jQ,ha,hs,Option.bind_some];simp [AH.cellsAt,hg,hc]
end
end V
end Go.Proofs.YtjppkekmddjcfaaGreatDoor

namespace Go.Proofs.YtjppkekmddjcfaaGreatDoor
open Go Go.RowKit
namespace V
section
variable {P:Program} {nt:Nat} {A:AH} {Q:Exit->Fr->AH->Prop} {all:Array Oper} {os:List Oper} {e:gv} {ds:List Deferred} {o:Oper} {x:Operand} {v:Value} {dst:Option Nat} {ty:TypeId} {ps:String} {af:Array Edge} {t:TypeId} {fs:Array Field}
theorem Ops.iface (hu:P.underlying t=some (.struct fs)) (hx:bZ e x=some v) (hd:gj nt dst=true) (h:Ops P nt all os Q ⟨fp e dst (.iface t v),ds⟩ A) :
    Ops P nt all ({ dst:=dst,op:=.makeInterface t x,type:=ty,pos:=ps,after:=af,guard:=none } :: os) Q ⟨e,ds⟩ A :=
  Ops.val Z hd (fun a ha w hw=>by
    have h5:=c0 ha hx
    simp only [execOp,h5,Instr.makeInterface,Sem.run_bind,cj hu,Result.andThen_ok];rfl) h
theorem Ops.panicI (hx:bZ e x=some (.iface t v)) (h:Q (.panic [{ v:=.iface t v,recovered:=false }]) ⟨e,ds⟩ A) :
    Ops P nt all ({ dst:=dst,op:=.panic x,type:=ty,pos:=ps,after:=af,guard:=none } :: os) Q ⟨e,ds⟩ A :=
  Ops.raise Z (fun a ha w hw=>by
    have h5:=c0 ha hx
    simp only [execOp,h5,Instr.panic,Sem.run_bind];rfl) h
theorem jZ {K:Fr->AH->Prop} {f:Fr} {ch:List PanicEntry} (h:Q (.panic ch) f A):pG K Q (.panic ch) f A:=h
theorem jl {i:Nat} {f:Fr} {ch:List PanicEntry} (h:Q (.panic ch) f A):lA i Q (.panic ch) f A:=h
theorem iL {f:Fr} {ch:List PanicEntry} (h:Q (.panic ch) f A):xD Q (.panic ch) f A:=h
variable {rs:List ResultVar} {R:Value->AH->Prop} {Rp:List PanicEntry->AH->Prop} {vs:List Value}
theorem TX (hr:gt P e A rs=some vs) (h:R (fg vs) A):i6 P rs (yO R Rp) .ret ⟨e,[]⟩ A:=⟨rfl,vs,hr,h⟩
theorem Te (hr:gt P e A rs=some vs) (h:R (fg vs) A):i6 P rs (yO R Rp) .normal ⟨e,[]⟩ A:=⟨rfl,vs,hr,h⟩
theorem Kr {ch:List PanicEntry} (h:Rp ch A):i6 P rs (yO R Rp) (.panic ch) ⟨e,[]⟩ A:=⟨rfl,h⟩
end
end V
end Go.Proofs.YtjppkekmddjcfaaGreatDoor

namespace Go.Proofs.YtjppkekmddjcfaaGreatDoor
open Go Go.RowKit V
def c9 (l:List Int):List Value:=l.map fun i=>num i
theorem aH (l:List Int):(c9 l).length=l.length:=by simp [c9]
theorem eB (l:List Int):(c9 l).length=l.length * 1:=by simp [c9]
theorem df {l:List Int} {i:Nat} (h:i < l.length):(c9 l)[i]? = some (num (l.getD i 0)):=by simp [c9,h]
theorem dM (a b:List Int):c9 a ++ c9 b=c9 (a ++ b):=by simp [c9]
theorem io (a:List Int) (n:Nat) (c:Int):(c9 a).set n (num c)=c9 (a.set n c):=by simp [c9,List.map_set]
theorem im (n:Nat):List.replicate n (num 0)=c9 (List.replicate n 0):=by simp [c9]
def cq (l:List Bool):List Value:=l.map fun b=>.bool b
theorem bz (l:List Bool):(cq l).length=l.length:=by simp [cq]
theorem ff (l:List Bool):(cq l).length=l.length * 1:=by simp [cq]
theorem ek {l:List Bool} {i:Nat} (h:i < l.length):(cq l)[i]? = some (.bool (l.getD i false)):=by simp [cq,h]
theorem mC (a b:List Bool):cq a ++ cq b=cq (a ++ b):=by simp [cq]
theorem kr (a:List Bool) (n:Nat) (c:Bool):(cq a).set n (.bool c)=cq (a.set n c):=by simp [cq,List.map_set]
theorem m9 (n:Nat):List.replicate n (.bool false)=cq (List.replicate n false):=by simp [cq]
def rL (r:au):UInt8:=r.left.getD (r.left.length - 1) 0
def gw (rs:List au) (c:UInt8):List Int:=((List.range rs.length).filter fun i=>decide (rL (rs.getD i .zero)=c)).map fun (i:Nat)=>(i:Int)
def ly (A:AH) (m:Nat) (rs:List au):Prop:=∃ rw es ck,∃ E:List (UInt8 × Value),A.get m=some (.obj rw (.map es ck))/\dC fA es E/\∀ c,bJ A 1 ((lk E c).getD (.slice none 0 0)) (c9 (gw rs c))
theorem ly.le {A B:AH} {m:Nat} {rs:List au} (h:ly A m rs) (le:A.le B):ly B m rs:=by
  obtain ⟨rw,es,ck,E,h1,h2,h3⟩:=h
  exact ⟨rw,es,ck,E,le.get _ _ h1,h2,fun c=>(h3 c).le le⟩
theorem JJ {rs:List au} {c:UInt8} {j:Nat} (hj:j < (gw rs c).length):∃ i:Nat,(gw rs c).getD j 0=i/\i < rs.length:=by
  have h:=bx (d:=0) hj
  generalize (gw rs c).getD j 0=z at h
  simp only [gw,List.mem_map,List.mem_filter,List.mem_range] at h
  obtain ⟨i,⟨h1,h2⟩,rfl⟩:=h
  exact ⟨i,Z,h1⟩
theorem N0 {rs:List au} {c:UInt8} {j:Nat} (hj:j < (gw rs c).length):0<=(gw rs c).getD j 0/\((gw rs c).getD j 0).toNat < rs.length/\(gw rs c).getD j 0=(((gw rs c).getD j 0).toNat:Nat):=by
  obtain ⟨i,h1,h2⟩:=JJ hj
  rw [h1];exact ⟨by omega,by simpa using h2,by simp⟩
theorem yZ (rs:List au) (c:UInt8):(gw rs c).length<=rs.length:=by
  simp only [gw,List.length_map]
  exact Nat.le_trans (List.length_filter_le _ _) (by simp)
theorem Jw {k w:List UInt8} (h:¬ (0:Int)<=(k.length:Int) - (w.length:Int)):iI k w=false:=by
  simp only [iI,decide_eq_false_iff_not];intro q;omega
theorem Jv {k w:List UInt8} (h:(0:Int)<=(k.length:Int) - (w.length:Int)):iI k w=decide (k.drop ((k.length:Int) - (w.length:Int)).toNat=w):=by
  rw [iI,show ((k.length:Int) - (w.length:Int)).toNat=k.length - w.length by omega]
  congr 1;rw [eq_iff_iff];exact ⟨fun q=>q.2,fun q=>⟨by omega,q⟩⟩
theorem FG {o w:List UInt8} (h:iI o w=true) (hw:0 < w.length):w.getD (w.length - 1) 0=o.getD (o.length - 1) 0:=by
  simp only [iI,decide_eq_true_eq] at h
  obtain ⟨h1,h2⟩:=h
  have h3:w.getD (w.length - 1) 0=(o.drop (o.length - w.length)).getD (w.length - 1) 0:=by rw [h2]
  rw [h3]
  simp only [List.getD_eq_getElem?_getD,List.getElem?_drop]
  congr 2;omega
theorem yU {p q:Nat->Bool} {l:List Nat} (h:∀ x ∈ l,q x=true->p x=true):(l.filter p).find? q=l.find? q:=by
  induction l with
  | nil=>rfl
  | cons x l ih =>
    have ih:=ih fun y hy=>h y (List.mem_cons_of_mem _ hy)
    by_cases hp:p x=true
    · rw [List.filter_cons_of_pos hp,List.find?_cons,List.find?_cons,ih]
    · have hq:q x=false:=by
        cases e:q x with
        | false=>rfl
        | true=>exact absurd (h x List.mem_cons_self e) hp
      rw [List.filter_cons_of_neg hp,ih,List.find?_cons,hq]
theorem sx {rs:List au} {o:List UInt8} (h0:∀ r ∈ rs,0 < r.left.length) :
    cG rs o=match (gw rs (o.getD (o.length - 1) 0)).find? (fun i=>iI o (rs.getD i.toNat .zero).left) with | some i=>i | none=>-1:=by
  unfold cG gw
  rw [List.find?_map]
  have e:((fun i:Int=>iI o (rs.getD i.toNat .zero).left) ∘ fun (i:Nat)=>(i:Int))=fun i:Nat=>iI o (rs.getD i .zero).left:=by funext i;simp
  rw [e,yU (p:=fun i=>decide (rL (rs.getD i .zero)=o.getD (o.length - 1) 0)) fun x hx hq=>by
    rw [decide_eq_true_iff]
    exact FG hq (h0 _ (bx (d:=.zero) (List.mem_range.1 hx)))]
  cases (List.range rs.length).find? fun i=>iI o (rs.getD i .zero).left <;> rfl
theorem gd {α:Type} {l:List α} {j:Nat} {d:α} (h:j < l.length):l.getD j d=l[j]:=by simp [h]
theorem F5 {rs:List au} {o:List UInt8} {j i:Nat} (h0:∀ r ∈ rs,0 < r.left.length) (hj:j < (gw rs (o.getD (o.length - 1) 0)).length) (hi:(gw rs (o.getD (o.length - 1) 0)).getD j 0=i) (hn:∀ k,k < j->iI o (rs.getD ((gw rs (o.getD (o.length - 1) 0)).getD k 0).toNat .zero).left=false) (h:iI o (rs.getD i .zero).left=true):cG rs o=i:=by
  rw [sx h0]
  generalize gw rs (o.getD (o.length - 1) 0)=L at *
  have hf:L.find? (fun i=>iI o (rs.getD i.toNat .zero).left)=some (i:Int):=by
    rw [List.find?_eq_some_iff_getElem]
    refine ⟨by simpa using h,j,hj,by rw [<- gd hj];exact hi,fun k hk=>?_⟩
    have:=hn k hk
    rw [gd (show k < L.length by omega)] at this
    rw [this];rfl
  rw [hf]
theorem JI {rs:List au} {o:List UInt8} {j:Nat} (h0:∀ r ∈ rs,0 < r.left.length) (hj:(gw rs (o.getD (o.length - 1) 0)).length<=j) (hn:∀ k,k < j->iI o (rs.getD ((gw rs (o.getD (o.length - 1) 0)).getD k 0).toNat .zero).left=false):cG rs o = -1:=by
  rw [sx h0]
  generalize gw rs (o.getD (o.length - 1) 0)=L at *
  have hf:L.find? (fun i=>iI o (rs.getD i.toNat .zero).left)=none:=by
    rw [List.find?_eq_none]
    intro x hx
    obtain ⟨k,hk,rfl⟩:=List.getElem_of_mem hx
    have:=hn k O
    rw [gd hk] at this
    rw [this];decide
  rw [hf]
def BK (x:au) (k:List UInt8) (n:Nat) (d:List bX) (m:Nat):Prop :=
  MP (k.take (k.length - x.left.length)) x.proof=true/\n + 1<=20000/\d.length + x.proof.length<=100000/\m + ew (nA (k.take (k.length - x.left.length)) x.proof)<=1000000
def pre (p:List UInt8) (P:List bX) (j:Nat):List bX:=(P.take j).map (zo p)
theorem O6 {p:List UInt8} {P:List bX} {j:Nat} (h:j<=P.length):(pre p P j).length=j:=by simp [pre];omega
theorem zB {p:List UInt8} {P:List bX} {j:Nat} (h:j < P.length):pre p P (j + 1)=pre p P j ++ [⟨dy (p ++ (P.getD j .zero).conj),(P.getD j .zero).rel,(P.getD j .zero).inv⟩]:=(Cn h Z).symm
theorem zA {p:List UInt8} {P:List bX} {j:Nat} (h:j < P.length):ew (pre p P (j + 1))=ew (pre p P j) + (dy (p ++ (P.getD j .zero).conj)).length:=by
  rw [zB h,qq,Bw];rfl
theorem xH {p:List UInt8} {P:List bX} {j:Nat} (hj:P.length<=j) (h:∀ i,i < j->p.length + (P.getD i .zero).conj.length<=100000):pre p P j=nA p P/\MP p P=true:=by
  have hk:=OB hj h
  exact ⟨Gx hj Z hk,hk⟩
theorem Ro {p:List UInt8} {P:List bX} (j:Nat) (h:MP p P=true):ew (pre p P j)<=ew (nA p P):=by
  rw [nA,if_pos h,pre,<- List.take_append_drop j P,List.map_append,qq,List.take_append_drop]
  exact Nat.le_add_right _ _
theorem QW {x:au} {k:List UInt8} {n m:Nat} {d:List bX} (h:20000 < n + 1):¬ BK x k n d m:=fun q=>by have:=q.2.1;omega
theorem QX {x:au} {k:List UInt8} {n m:Nat} {d:List bX} (h:100000 < d.length + x.proof.length):¬ BK x k n d m:=fun q=>by have:=q.2.2.1;omega
theorem QY {x:au} {k:List UInt8} {n m j:Nat} {d:List bX} (hj:j < x.proof.length) (h:100000 < (k.take (k.length - x.left.length)).length + (x.proof.getD j .zero).conj.length):¬ BK x k n d m:=fun q=>by
  have:=q.1;rw [Rk hj h] at this;cases this
theorem QZ {x:au} {k:List UInt8} {n m j:Nat} {d:List bX} (h:1000000 < m + ew (pre (k.take (k.length - x.left.length)) x.proof j)):¬ BK x k n d m:=fun q=>by
  have:=Ro j q.1;have:=q.2.2.2;omega
theorem Ra {x:au} {k:List UInt8} {n m j:Nat} {d:List bX} (h1:¬ 20000 < n + 1) (h2:¬ 100000 < d.length + x.proof.length) (hj:x.proof.length<=j) (h:∀ i,i < j->(k.take (k.length - x.left.length)).length + (x.proof.getD i .zero).conj.length<=100000) (hm:m + ew (pre (k.take (k.length - x.left.length)) x.proof j)<=1000000):BK x k n d m:=by
  have:=xH hj h
  exact ⟨this.2,by omega,by omega,by rw [<- this.1];exact hm⟩
end Go.Proofs.YtjppkekmddjcfaaGreatDoor
