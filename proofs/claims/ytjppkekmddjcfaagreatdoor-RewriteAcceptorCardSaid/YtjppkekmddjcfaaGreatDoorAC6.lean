import Derived.Test.YtjppkekmddjcfaaGreatDoorAC5
set_option linter.unusedSectionVars false
set_option linter.unusedVariables false
set_option linter.unusedSimpArgs false
open Go.Proofs.Tryz
namespace Go.Proofs.YtjppkekmddjcfaaGreatDoor
open Go Go.RowKit V
set_option maxRecDepth 100000
theorem jk:eo prog 62 0=some (3,0):=by kernel_rfl
theorem mS:eo prog 62 1=some (3,1):=by kernel_rfl
theorem ip:eo prog 62 2=some (59,2):=by kernel_rfl
theorem eF:eo prog 62 3=some (60,3):=by kernel_rfl
theorem S9 (k:Nat) (acc:List Bool) (L:List (List Int)) (av nv:Value) (rows:List Value) (A:AH) (hok:n0 k acc L) (hav:bz A 1 av (bQ acc)) (hnv:bz A 1 nv (dx rows)) (hrl:rows.length=L.length) (hF:∀ i,i < L.length->bz A 1 (rows.getD i undef) (cf (L.getD i []))):bH prog 116 #[.agg #[num ((k:Nat):Int),num ((0:Nat):Int),av,nv]] A (fun v A1=>v=num ((0:Nat):Int)/\A.le A1/\A1.wf):=by
 refine aN (e:=[(0,.agg #[num ((k:Nat):Int),num ((0:Nat):Int),av,nv])]) (args:=[.agg #[num ((k:Nat):Int),num ((0:Nat):Int),av,nv]]) call116 func116 Z results116 ntmps116 Z Z Z (fun wf=>?_);have b9:=AH.le.refl A;obtain ⟨⟨c0,c3⟩,hal,⟨bV,bY⟩,hrow,hval⟩:=hok;refine ak.sq fun h2=>.region<|.m (fun b6=>dQ wf rfl rfl fun A5 b4 h=>?_);have V:=b9.trans h.le;refine b6<|.I Z<|.nil<|h2<|.sq fun h9=>.region<|.p (ae ip gV U Z)<|.p (ah io Z Z h.get Z)<|.p (bx (n:=acc.length) jQ Z (hav.le V) O (fH _))<|.I Z ?_;refine Ops.nil<|h9<|.sq fun ai=>.sq fun a2=>.region<|.p (ae jk cl U Z)<|.p (ah dK Z Z h.get Z)<|.p (bK (b:=1) Z Z)<|.J Z<|.part (t:=14) Z (fun ba=>?_) (fun ba=>?_)
 ·refine Ops.off Z Z Z Z<|.off Z Z Z Z<|.off Z Z Z Z<|.p (aJ Z Z)<|.J Z<|.off Z Z Z Z<|.off Z Z Z Z<|.p (aJ Z Z)<|.J Z<|.off Z Z Z Z ?_;refine Ops.off Z Z Z Z<|.off Z Z Z Z<|.off Z Z Z Z<|.off Z Z Z Z<|.p (aJ Z Z)<|.J Z<|.off Z Z Z Z<|.off Z Z Z Z<|.off Z Z Z Z<|.p (aJ Z Z) ?_;refine Ops.J Z<|.off Z Z Z Z<|.off Z Z Z Z<|.off Z Z Z Z<|.off Z Z Z Z<|.off Z Z Z Z<|.p (aJ Z Z)<|.nil<|a2<|.cond_true Z ?_;refine ak.sq fun ap=>.region<|.I Z<|.nil<|ap<|.rt (by exact aH Z (⟨by (exfalso;omega),V,h.wf⟩))
 refine Ops.on Z Z<|.p (ae jk cl U Z)<|.on Z Z<|.p (ah dK Z Z h.get Z)<|.on Z Z<|.p (ej (b:=400) Z Z)<|.p (aO Z Z)<|.J Z<|.part (t:=19) Z (fun bb=>?_) (fun bb=>?_)
 ·refine Ops.off Z Z Z Z<|.off Z Z Z Z<|.p (aJ Z Z)<|.J Z<|.off Z Z Z Z<|.off Z Z Z Z<|.off Z Z Z Z<|.off Z Z Z Z<|.off Z Z Z Z<|.p (aJ Z Z) ?_;refine Ops.J Z<|.off Z Z Z Z<|.off Z Z Z Z<|.off Z Z Z Z<|.p (aJ Z Z)<|.J Z<|.off Z Z Z Z<|.off Z Z Z Z<|.off Z Z Z Z<|.off Z Z Z Z ?_;refine Ops.off Z Z Z Z<|.p (aJ Z Z)<|.nil<|a2<|.cond_true Z<|.sq fun ar=>.region<|.I Z<|.nil<|ar ?_;refine ak.ret ?_;repeat first | with_reducible refine cz ?_ | with_reducible refine cj ?_
  exact aH Z (⟨by (exfalso;omega),V,h.wf⟩)
 refine Ops.on Z Z<|.J Z<|.on Z Z<|.p (ej (b:=20000) Z Z)<|.p (aO Z Z)<|.J Z<|.part (t:=23) Z (fun bc=>?_) (fun bc=>?_)
 ·refine Ops.off Z Z Z Z<|.off Z Z Z Z<|.off Z Z Z Z<|.off Z Z Z Z<|.off Z Z Z Z<|.p (aJ Z Z)<|.J Z<|.off Z Z Z Z<|.off Z Z Z Z<|.off Z Z Z Z ?_;refine Ops.p (aJ Z Z)<|.J Z<|.off Z Z Z Z<|.off Z Z Z Z<|.off Z Z Z Z<|.off Z Z Z Z<|.off Z Z Z Z<|.p (aJ Z Z)<|.nil<|a2 ?_;refine ak.cond_true Z<|.sq fun ay=>.region<|.I Z<|.nil<|ay<|.rt (by exact aH Z (⟨by (exfalso;omega),V,h.wf⟩))
 refine Ops.on Z Z<|.p (ae eF fC U Z)<|.on Z Z<|.p (ah ie Z Z h.get Z)<|.on Z Z<|.p (bx (n:=rows.length) jg Z (hnv.le V) O (fp _))<|.on Z Z<|.J Z<|.on Z Z<|.p (fy Z Z) ?_;refine Ops.p (aO Z Z)<|.J Z<|.part (t:=30) Z (fun bd=>?_) (fun bd=>?_)
 ·refine Ops.off Z Z Z Z<|.off Z Z Z Z<|.off Z Z Z Z<|.p (aJ Z Z)<|.J Z<|.off Z Z Z Z<|.off Z Z Z Z<|.off Z Z Z Z<|.off Z Z Z Z<|.off Z Z Z Z ?_;refine Ops.p (aJ Z Z)<|.nil<|a2<|.cond_true Z<|.sq fun az=>.region<|.I Z<|.nil<|az<|.rt (by exact aH Z (⟨by (exfalso;omega),V,h.wf⟩))
 refine Ops.on Z Z<|.p (ae mS cl U Z)<|.on Z Z<|.p (ah dK Z Z h.get Z)<|.on Z Z<|.p (bK (a:=0) (b:=0) Z Z)<|.p (aO Z Z)<|.J Z<|.part (t:=35) Z (fun bl=>?_) (fun bl=>?_)
 ·refine Ops.off Z Z Z Z<|.off Z Z Z Z<|.off Z Z Z Z<|.off Z Z Z Z<|.off Z Z Z Z<|.p (aJ Z Z)<|.nil<|a2<|.cond_true Z<|.sq fun aA=>?_;refine ak.region<|.I Z<|.nil<|aA<|.rt (by exact aH Z (⟨by (exfalso;omega),V,h.wf⟩))
 refine Ops.on Z Z<|.p (ae mS cl U Z)<|.on Z Z<|.p (ah dK Z Z h.get Z)<|.on Z Z<|.J Z<|.on Z Z<|.p (qmaxN Z Z)<|.on Z Z<|.p (tK (a:=0) Z Z) ?_;refine Ops.p (aO Z Z)<|.nil<|a2<|.if rfl (fun bm=>?_) (fun bm=>?_)
 ·refine ak.sq fun aB=>.region<|.I Z<|.nil<|aB<|.rt (by exact aH Z (⟨by (exfalso;omega),V,h.wf⟩))
 refine ak.skip<|ai<|.sq fun aC=>.sq fun aD=>.region<|.p (ae eF fC U Z)<|.p (ah ie Z Z h.get Z)<|.p (bx (n:=rows.length) jg Z (hnv.le V) O (fp _))<|.J Z<|.nil ?_;refine aD<|.block<|.loop (X:=Nat) (fun i=>[(1,.pointer (some ⟨b4,0,none⟩)),(3,num ((acc.length:Nat):Int)),(43,nv),(44,num ((rows.length:Nat):Int)),(45,num ((i:Nat):Int))]) (fun i B=>(i<=L.length)/\A.le B/\B.get b4=some (.row true [num ((k:Nat):Int),num ((0:Nat):Int),av,nv] 4)) (fun i=>L.length - i) 0 (nR Z Z Z Z Z) (⟨(XZ _),V,h.get⟩) ?_;rintro i B37 ⟨hi,a0,a3⟩;refine ak.wf fun a6=>?_;have hro:=fun q:i < L.length=>hrow i q;refine ak.sq fun aF=>.region<|.p (bK Z Z)<|.nil<|aF<|.sq fun aG=>.if rfl (fun bp=>?_) (fun bp=>?_)
 ·refine ak.skip<|aG<|.sq fun aI=>.block<|.sq fun aP=>.region ?_;obtain ⟨bR,bT,bO,ck,bL,cc,c4,ab,b7,ad,bB,a9⟩:=bz.at (i:=i) (hnv.le a0) Of O;refine Ops.p (al jg dX Z ab Z b7)<|.p (ah jc Z Z ad ((cb a9).trans (c6 O)))<|.I Z<|.nil<|aP<|.sq fun aR=>.sq fun aS=>.region<|.J Z<|.p (bx (n:=((L.getD i [])).length) cQ Z ((hF i O).le a0) O (c9 _)) ?_;refine Ops.p (ae jk cl U Z)<|.p (ah dK Z Z a3 Z)<|.p (fy Z Z)<|.nil<|aS<|.if rfl (fun br=>?_) (fun br=>?_)
  ·refine ak.sq fun aT=>.region<|.I Z<|.nil<|aT<|.rt (by exact aH Z (⟨by (exfalso;omega),a0,a6⟩))
  refine ak.skip<|aR<|.sq fun aV=>.region<|.J Z<|.p (bx (n:=((L.getD i [])).length) cQ Z ((hF i O).le a0) O (c9 _))<|.J Z<|.nil<|aV<|.block ?_;refine ak.loop (X:=Nat) (fun j=>[(1,.pointer (some ⟨b4,0,none⟩)),(3,num ((acc.length:Nat):Int)),(43,nv),(44,num ((rows.length:Nat):Int)),(45,num ((i:Nat):Int)),(54,rows.getD i undef),(55,num ((((L.getD i [])).length:Nat):Int)),(56,num ((j:Nat):Int))]) (fun j B=>(j<=k/\i < L.length)/\A.le B/\B.get b4=some (.row true [num ((k:Nat):Int),num ((0:Nat):Int),av,nv] 4)) (fun j=>k - j) 0 (un Z Z Z Z Z Z Z Z) (⟨⟨XZ _,by omega⟩,a0,a3⟩) ?_;rintro j B59 ⟨⟨hj,a5⟩,a1,a4⟩;refine ak.wf fun a7=>?_;have bD:=hrow i a5;have hva:=fun q:j < k=>hval i j a5 q;refine ak.sq fun aY=>.region<|.p (bK Z Z)<|.nil<|aY<|.sq fun aZ=>.if rfl (fun bu=>?_) (fun bu=>?_)
  ·refine ak.skip<|aZ<|.sq fun b0=>.block<|.sq fun b1=>.region ?_;obtain ⟨bS,bU,bP,ct,bM,ch,c7,ac,b8,ag,bC,aa⟩:=bz.at (i:=j) ((hF i O).le a1) O2 O;refine Ops.p (al cQ cl Z ac Z b8)<|.p (ah dK Z Z ag ((cb aa).trans (bJ O)))<|.I Z<|.nil<|b1<|.sq fun a8=>.region<|.J Z<|.p (iU Z Z)<|.J Z ?_;refine Ops.part (t:=62) Z (fun bv=>?_) (fun bv=>?_)
   ·refine Ops.off Z Z Z Z<|.off Z Z Z Z<|.off Z Z Z Z<|.p (aJ Z Z)<|.nil<|a8<|.cond_true Z<|.sq fun b2=>.region<|.I Z ?_;refine Ops.nil<|b2<|.rt (by exact aH Z (⟨by (exfalso;have:=hva O;simp only [c5] at this;omega),a1,a7⟩))
   refine Ops.on Z Z<|.J Z<|.on Z Z<|.J Z<|.on Z Z<|.p (lu Z Z)<|.p (aO Z Z)<|.nil<|a8<|.if rfl (fun bA=>?_) (fun bA=>?_)
   ·refine ak.sq fun b3=>.region<|.I Z<|.nil<|b3<|.rt (by exact aH Z (⟨by (exfalso;have:=hva O;simp only [c5] at this;omega),a1,a7⟩))
   refine ak.skip<|b0<|.region<|.p (bk (b:=1) Z Z O)<|.J Z<|.nil ?_;exact ⟨j + 1,un Z Z Z Z Z Z Z Z,Z,⟨⟨by omega,a5⟩,a1,a4⟩,O1⟩
  refine ak.exit<|aI<|.region<|.p (bk (b:=1) Z Z O)<|.J Z<|.nil ?_;exact ⟨i + 1,nR Z Z Z Z Z,Z,⟨O,a1,a4⟩,O1⟩
 refine ak.exit<|aC<|.sq fun b5=>.region<|.I Z<|.nil<|b5<|.rt (by exact aH Z (⟨by rfl,a0,a6⟩))
theorem Td (k:Nat) (acc:List Bool) (L:List (List Int)) (av nv:Value) (rows:List Value) (A:AH) (hok:n0 k acc L) (hav:bz A 1 av (bQ acc)) (hnv:bz A 1 nv (dx rows)) (hrl:rows.length=L.length) (hF:∀ i,i < L.length->bz A 1 (rows.getD i undef) (cf (L.getD i []))):bH prog 149 #[.agg #[num ((k:Nat):Int),num ((0:Nat):Int),av,nv]] A (fun v A1=>v=num ((0:Nat):Int)/\A.le A1/\A1.wf):=by
 refine aN (e:=[(0,.agg #[num ((k:Nat):Int),num ((0:Nat):Int),av,nv])]) (args:=[.agg #[num ((k:Nat):Int),num ((0:Nat):Int),av,nv]]) call149 func149 Z results149 ntmps149 Z Z Z (fun wf=>?_);have a3:=AH.le.refl A;obtain ⟨⟨a7,a8⟩,hal,⟨a5,a6⟩,hrow,hval⟩:=hok;refine ak.sq fun h2=>.region<|.m (fun a2=>dQ wf rfl rfl fun A5 b4 h=>?_);have V:=a3.trans h.le;refine a2<|.I Z<|.nil<|h2<|.sq fun h9=>.sq fun X=>.region<|.p (ae ip gV U Z)<|.p (ah io Z Z h.get Z)<|.p (bx (n:=acc.length) jQ Z (hav.le V) O (fH _)) ?_;refine Ops.p (jM (b:=0) Z Z)<|.nil<|X<|.if rfl (fun a4=>?_) (fun a4=>?_)
 ·refine ak.sq fun a0=>.region<|.I Z<|.nil<|a0<|.rt (by exact aH Z (⟨by (exfalso;omega),V,h.wf⟩))
 refine ak.skip<|h9<|.sq fun a1=>.region<|.p (ae mS cl U Z)<|.p (ah dK Z Z h.get Z)<|.I Z<|.nil<|a1<|.rt (by exact aH Z (⟨by rfl,V,h.wf⟩))
theorem Tc (k:Nat) (acc:List Bool) (L:List (List Int)) (av nv:Value) (rows:List Value) (s:Int) (c:Nat) (A:AH) (hok:n0 k acc L) (hav:bz A 1 av (bQ acc)) (hnv:bz A 1 nv (dx rows)) (hrl:rows.length=L.length) (hF:∀ i,i < L.length->bz A 1 (rows.getD i undef) (cf (L.getD i []))) (hs:s < L.length) (hc:c < k):bH prog 151 #[.agg #[num ((k:Nat):Int),num ((0:Nat):Int),av,nv],num (s),num ((c:Nat):Int)] A (fun v A1=>v=num (if s < 0 then -1 else c5 L s.toNat c)/\A.le A1/\A1.wf):=by
 refine aN (e:=[(0,.agg #[num ((k:Nat):Int),num ((0:Nat):Int),av,nv]),(1,num (s)),(2,num ((c:Nat):Int))]) (args:=[.agg #[num ((k:Nat):Int),num ((0:Nat):Int),av,nv],num (s),num ((c:Nat):Int)]) call151 func151 Z results151 ntmps151 Z Z Z (fun wf=>?_);have ab:=AH.le.refl A;obtain ⟨⟨aG,aI⟩,hal,⟨aD,aF⟩,hrow,hval⟩:=hok;have hro:=fun q:0<=s=>hrow s.toNat O;refine ak.sq fun h2=>.region<|.m (fun a8=>dQ wf rfl rfl fun A5 b4 V=>?_);have h:=ab.trans V.le;refine a8<|.I Z<|.nil<|h2<|.sq fun h9=>.sq fun a5=>.region<|.J Z<|.p (iU Z Z)<|.nil ?_;refine a5<|.if rfl (fun ac=>?_) (fun ac=>?_)
 ·refine ak.sq fun a6=>.region<|.I Z<|.nil<|a6<|.rt (by exact aH Z (⟨by (rw [Xw ‹_›];rfl),h,V.wf⟩))
 refine ak.skip<|h9<|.sq fun a7=>.region<|.p (ae eF fC U Z)<|.p (ah ie Z Z V.get Z)<|.J Z ?_;obtain ⟨az,aB,ar,aV,ai,aS,aP,a1,a9,a3,ad,X⟩:=bz.at (i:=(s).toNat) (hnv.le h) Of O;refine Ops.p (al jg dX Z a1 (go O) a9)<|.p (ah jc Z Z a3 ((cb X).trans (c6 O)))<|.J Z ?_;obtain ⟨aA,aC,ay,aY,ap,aT,aR,a2,aa,a4,ag,a0⟩:=bz.at (i:=c) ((hF ((s).toNat) O).le h) (by simp only [aj];have:=hro O;omega) O;refine Ops.p (al cQ cl Z a2 Z aa)<|.p (ah dK Z Z a4 ((cb a0).trans (bJ (by have:=hro O;omega))))<|.I Z<|.nil<|a7<|.rt (by exact aH Z (⟨by (rw [Xy ‹_›];rfl),h,V.wf⟩))
def o0 (k:Nat) (ws:List Wd):List (List Int) × List Bool:=ws.foldl (fun t w=>(vJ k t.1 t.2 w,vI k t.1 t.2 w)) ([CO k],[false])
def UN (k:Nat) (b:BS) (i:Nat):BS:=(List.range k).foldl (od (qn b i)) b
def Ur (k:Nat):Nat->Nat->BS->BS
  | 0,_,b=>b
  | f + 1,i,b=>if i < b.Q.length then Ur k f (i + 1) (UN k b i) else b
def s8 (k:Nat) (ws:List Wd):BS:=Ur k ((o0 k ws).1.length + 1) 0 ⟨(o0 k ws).1,(o0 k ws).2,List.replicate (o0 k ws).1.length 0,[0]⟩
def ew (E:List Bool) (r:List Int):List Int:=r.map fun m=>if E.getD m.toNat false then -1 else m
def Gv (k:Nat) (ws:List Wd):List Bool:=(s8 k ws).E.map fun e=>!e
def Ak (k:Nat) (ws:List Wd):List (List Int):=(s8 k ws).L.map (ew (s8 k ws).E)
def gT (step:Int->Nat->Option Int) (q:Int) (st:List Int × List Int) (c:Nat):List Int × List Int :=
  match step q c with
  | none=>(st.1 ++ [-1],st.2)
  | some t=>if t ∈ st.2 then (st.1 ++ [(st.2.idxOf t:Int)],st.2) else (st.1 ++ [(st.2.length:Int)],st.2 ++ [t])
def JC (k:Nat) (step:Int->Nat->Option Int) (q:Int) (Q:List Int):List Int × List Int:=(List.range k).foldl (gT step q) ([],Q)
def eD (k:Nat) (step:Int->Nat->Option Int):Nat->Nat->List Int->List (List Int)->List Int × List (List Int)
  | 0,_,Q,R=>(Q,R)
  | f + 1,i,Q,R=>if i < Q.length then eD k step f (i + 1) (JC k step (Q.getD i 0) Q).2 (R ++ [(JC k step (Q.getD i 0) Q).1]) else (Q,R)
def kW (L:List (List Int)) (s:Int) (c:Nat):Option Int:=some (if s < 0 then -1 else c5 L s.toNat c)
def gH (k:Nat) (L:List (List Int)):List Int × List (List Int):=eD k (kW L) (L.length + 2) 0 [0] []
def rg (k:Nat) (acc:List Bool) (L:List (List Int)):List Bool:=(gH k L).1.map fun s=>decide (0<=s) && acc.getD s.toNat false
def qo (B:List (List Int)) (s m:Int):List (List Int):=if 0<=m then B.set m.toNat (B.getD m.toNat [] ++ [s]) else B
def jW (N:List (List Int)) (B:List (List Int)) (s:Nat):List (List Int):=(N.getD s []).foldl (fun B m=>qo B s m) B
def df (N:List (List Int)):List (List Int):=(List.range N.length).foldl (jW N) (List.replicate N.length [])
def eU (Q:List Int) (p:Int):List Int:=if p ∈ Q then Q else Q ++ [p]
def ia (B:List (List Int)):Nat->Nat->List Int->List Int
  | 0,_,Q=>Q
  | f + 1,i,Q=>if i < Q.length then ia B f (i + 1) ((B.getD (Q.getD i 0).toNat []).foldl eU Q) else Q
def o8 (acc:List Bool) (i:Nat):List Int:=((List.range i).filter fun s=>acc.getD s false).map fun (s:Nat)=>(s:Int)
def gu (acc:List Bool) (N:List (List Int)):List Int:=ia (df N) (N.length + 1) 0 (o8 acc acc.length)
def eH (acc:List Bool) (N:List (List Int)):List Bool:=(List.range acc.length).map fun (s:Nat)=>decide ((s:Int) ∈ gu acc N)
def JZ (Q:List Int):List (Int × Value):=Q.zipIdx.map fun p=>(p.1,num ((p.2:Nat):Int))
theorem xq (Q:List Int):(JZ Q).map (·.1)=Q:=by
  simp [JZ,List.map_map,Function.comp_def]
theorem Rn (Q:List Int) (t:Int):JZ (Q ++ [t])=JZ Q ++ [(t,num ((Q.length:Nat):Int))]:=by simp [JZ,List.zipIdx_append]
theorem Mr {Q:List Int} {t:Int} (h:t ∉ Q):lk (JZ Q) t=none:=Bz.2 (by rw [xq];exact h)
theorem VG:∀ (Q:List Int) (n:Nat) (t:Int),t ∈ Q->lk ((Q.zipIdx n).map fun p=>(p.1,num ((p.2:Nat):Int))) t=some (num (((n + Q.idxOf t:Nat)):Int)):=by
  intro Q
  induction Q with
  | nil=>intro n t h;cases h
  | cons a Q ih =>
    intro n t h
    by_cases q:a=t
    · subst q;simp [lk]
    · have h2:t ∈ Q:=by rcases Vy.1 h with z | z;exact absurd z.symm q;exact z
      have:=ih (n + 1) t h2
      simp only [List.zipIdx_cons,Tz]
      rw [List.idxOf_cons,beq_eq_false_iff_ne.2 q,cond_false]
      simp only [lk,QQ,Xv q] at this ⊢
      rw [this]
      congr 3;omega
theorem Rm {Q:List Int} {t:Int} (h:t ∈ Q):lk (JZ Q) t=some (num ((Q.idxOf t:Nat):Int)):=by
  have:=VG Q 0 t h
  rwa [Sq] at this
theorem Wq {Q:List Int} {t:Int} (h:t ∉ Q):zY (JZ Q) t (num ((Q.length:Nat):Int))=JZ (Q ++ [t]):=by
  rw [wo (by rw [xq];exact h),Rn]
section
variable {α:Type} [DecidableEq α] {kd:TypeDesc} {enc:α->Value} {P:Program} {e:ii} {A:AH} {x y z:Operand} {t kt et:TypeId} {ty:TypeId} {ps:String} {af:Array Edge} {dst:Option Nat} {Q:Value->AH->Prop} {Kp:List PanicEntry->AH->Prop} {g:Option (Nat × Bool)} {m clock:Nat} {es:Array MapEntry} {E:List (α × Value)} {k:α} {v:Value}
theorem Yd (K:sW kd enc) (wf:A.wf) (hx:cd e x=some (.map (some m))) (hy:cd e y=some (enc k)) (hz:cd e z=some v) (hu:P.underlying t=some (.map kt et)) (hk:P.underlying kt=some kd) (hg:A.get m=some (.obj true (.map es clock))) (hE:dF enc es E) (hn:(E.map (·.1)).Nodup)
    (h:∀ A1 es1 ck,s7 A A1 m (.obj true (.map es1 ck))->dF enc es1 (zY E k v)->Q undef A1):kY P e A { dst:=dst,op:=.insert t x y z,type:=ty,pos:=ps,after:=af,guard:=g } Q Kp :=
  pN (dst:=dst) (ty:=ty) (ps:=ps) (af:=af) (g:=g) (Kp:=Kp) K wf hx hy hz hu hk hg hE hn h
end
theorem fY {b:Nat}:cu [] b:=fun _ h=>by cases h
theorem Uj {P:Program} {e:ii} {A:AH} {x y:Operand} {t kt et:TypeId} {ty:TypeId} {ps:String} {af:Array Edge} {dst:Option Nat} {Q:Value->AH->Prop} {Kp:List PanicEntry->AH->Prop} {g:Option (Nat × Bool)} {m clock:Nat} {es:Array MapEntry} {rw:Bool} {L:List Int} {k:Int}
    (hx:cd e x=some (.map (some m))) (hy:cd e y=some (num k)) (hu:P.underlying t=some (.map kt et)) (hk:P.underlying kt=some (.int .i64)) (hz:cE P et=some (num 0)) (hg:A.get m=some (.obj rw (.map es clock))) (hE:dF num es (JZ L))
    (h1:k ∈ L->Q (.tuple #[num ((L.idxOf k:Nat):Int),.bool true]) A) (h2:k ∉ L->Q (.tuple #[num 0,.bool false]) A):kY P e A { dst:=dst,op:=.lookup t x y true,type:=ty,pos:=ps,after:=af,guard:=g } Q Kp:=by
  refine yf uU hx hy hu hk hz hg hE (fun v hv=>?_) (fun hn=>?_)
  · by_cases q:k ∈ L
    · rw [Rm q] at hv;cases hv;exact h1 q
    · rw [Mr q] at hv;cases hv
  · exact h2 fun q=>by rw [Rm q] at hn;cases hn
theorem D6 {o:Option Int} (h:(!o.isSome)=true):o=none:=by cases o <;> simp_all
theorem lM {o:Option Int} (h:(!o.isSome)=false):o=some (o.getD 0):=by cases o <;> simp_all
theorem lh {Q:List Int} {t:Int} (h:Q.Nodup) (ht:t ∉ Q):(Q ++ [t]).Nodup:=RX.2 ⟨h,by simp,by intro a ha b hb;simp at hb;subst hb;exact fun e=>ht (e ▸ ha)⟩
theorem kB {Q:List Int} {t:Int} {D:Int->Prop} (h:∀ q ∈ Q,D q) (ht:D t):∀ q ∈ Q ++ [t],D q:=fun q hq=>by
  rcases VJ.1 hq with z | z
  · exact h q z
  · rw [XW] at z;subst z;exact ht
theorem i9 {Q Q1:List Int} (h:Q <+: Q1) {i:Nat} (hi:i < Q.length):Q1.getD i 0=Q.getD i 0:=by obtain ⟨t,rfl⟩:=h;exact i5 hi
theorem Ro {Q Q1:List Int} (h:Q <+: Q1) {i:Nat} (hi:i<=Q.length):Q1.take i=Q.take i:=by obtain ⟨t,rfl⟩:=h;rw [List.take_append_of_le_length hi]
theorem mW {N:Nat} {Q:List Int} (hn:Q.Nodup) (hQ:∀ q ∈ Q,-1<=q/\q < (N:Int)):Q.length<=N + 1:=by
  have:=qI (N + 1) (Q.map fun q=>(q + 1).toNat) ?_ ?_
  · simpa using this
  · rw [Rv,RZ]
    exact List.Pairwise.imp_of_mem (fun {a b} ha hb hab e=>hab (by have:=hQ a ha;have:=hQ b hb;omega)) hn
  · intro x hx
    obtain ⟨q,hq,rfl⟩:=Vk.1 hx
    have:=hQ q hq;omega
section
variable {k c:Nat} {step:Int->Nat->Option Int} {q:Int} {Q Q1 r:List Int}
def Ld (step:Int->Nat->Option Int) (q:Int) (Q:List Int) (c:Nat):List Int × List Int:=(List.range c).foldl (gT step q) ([],Q)
theorem wW:Ld step q Q (c + 1)=gT step q (Ld step q Q c) c:=by simp [Ld,Ty]
theorem PD (h:Ld step q Q c=(r,Q1)) (hs:step q c=none):Ld step q Q (c + 1)=(r ++ [-1],Q1):=by rw [wW,h,gT,hs]
theorem Vf {t:Int} (h:Ld step q Q c=(r,Q1)) (hs:step q c=some t) (ht:t ∈ Q1):Ld step q Q (c + 1)=(r ++ [(Q1.idxOf t:Int)],Q1):=by
  rw [wW,h,gT,hs];simp only;rw [Xw ht]
theorem AN {t:Int} (h:Ld step q Q c=(r,Q1)) (hs:step q c=some t) (ht:t ∉ Q1):Ld step q Q (c + 1)=(r ++ [(Q1.length:Int)],Q1 ++ [t]):=by
  rw [wW,h,gT,hs];simp only;rw [Xy ht]
theorem kU {r:List Int} {k:Nat} {v:Int} (h:r.length < k):(r ++ List.replicate (k - r.length) 0).set r.length v=(r ++ [v]) ++ List.replicate (k - (r.length + 1)) 0:=by
  rw [RK _ _ (XX _),Qx,show k - r.length=(k - (r.length + 1)) + 1 by omega,List.replicate_succ,List.set_cons_zero]
  simp
theorem th {r:List Int} {k:Nat} {v w:Int} (h:r.length < k):((r ++ List.replicate (k - r.length) 0).set r.length v).set r.length w=(r ++ [w]) ++ List.replicate (k - (r.length + 1)) 0:=by
  rw [Sv];exact kU h
end
theorem wU {k f i:Nat} {step:Int->Nat->Option Int} {Q:List Int} {R:List (List Int)} (hf:0 < f) (hi:Q.length<=i):eD k step f i Q R=(Q,R):=by
  obtain ⟨f,rfl⟩:∃ g,f=g + 1:=⟨f - 1,by omega⟩
  rw [eD,Xy O]
theorem Dp {k f i:Nat} {step:Int->Nat->Option Int} {Q:List Int} {R:List (List Int)} {X:List Int × List (List Int)} (hf:0 < f) (hi:i < Q.length) (h:eD k step f i Q R=X) {r Q1:List Int} (e:Ld step (Q.getD i 0) Q k=(r,Q1)):eD k step (f - 1) (i + 1) Q1 (R ++ [r])=X:=by
  obtain ⟨f,rfl⟩:∃ g,f=g + 1:=⟨f - 1,by omega⟩
  rw [<- h,eD,Xw hi]
  show _=eD k step f (i + 1) (Ld step (Q.getD i 0) Q k).2 (R ++ [(Ld step (Q.getD i 0) Q k).1])
  rw [e];rfl
namespace V
inductive OT where
  | done:OT
  | one (i:Nat) (t:OT):OT
  | two (i j:Nat) (t u:OT):OT
def OT.len:OT->Nat
  | .done=>0
  | .one _ t=>t.len + 1
  | .two _ _ t _=>t.len + 1
def mR (ops:Array Oper):Array Bool->OT->Bool
  | listed,.done=>(Region.ready .any ops listed).isEmpty
  | listed,.one i C=>match ops[i]? with
    | none=>false
    | some o =>
      if du o.op then (Region.ready .any ops listed).contains i && Region.free .any ops listed i && mR ops (listed.setIfInBounds i true) C
      else (Region.ready .any ops listed == [i]) && mR ops (listed.setIfInBounds i true) C
  | listed,.two i j C D=>(Region.ready .any ops listed == [i,j]) && mR ops (listed.setIfInBounds i true) C && mR ops (listed.setIfInBounds j true) D && (C.len == D.len)
section
variable {P:Program} {nt:Nat} {ops:Array Oper} {Q:Exit->Fr->AH->Prop} {f:Fr} {A:AH}
def cU (P:Program) (nt:Nat) (ops:Array Oper) (Q:Exit->Fr->AH->Prop) (listed:Array Bool) (held:List (Nat × fx)) (C:OT) (f:Fr) (A:AH):Prop :=
  mR ops listed C=true->Region.noSelect ops=true->∀ a w,de nt f a->cw A w->d6 ops held listed w->md ops listed ->
    ∀ (A₀:AH) (w₀:World),fz A₀ w₀ A w->fF P ops (d9 nt Q A₀ w₀) (d6 ops held) C.len listed a w
theorem cU.quiet {listed:Array Bool} {held:List (Nat × fx)} {i:Nat} {C:OT} {o:Oper} {v:Value} {T:fx} (ho:ops[i]? = some o) (hq:du o.op=true) (hd:∀ t,o.dst=some t->t < nt)
    (hv:∀ a w,de nt f a->cw A w->f8 T w/\YieldsIf P ops (f8 T) o v a)
    (h:cU P nt ops Q (listed.setIfInBounds i true) ((i,T) :: held) C ⟨gw f.e o.dst v,f.ds⟩ A):cU P nt ops Q listed held (.one i C) f A:=by
  intro hc hn a w ha hw hh hcl A₀ w₀ hs
  simp only [mR,ho,Xw hq,XK] at hc
  obtain ⟨⟨c1,c2⟩,c3⟩:=hc
  obtain ⟨t1,t2⟩:=hv a w ha hw
  have hr:i ∈ Region.ready .any ops listed:=by simpa using c1
  have hheld:d6 ops ((i,T) :: held) listed w:=fun p hp hj=>by
    rcases Vy.1 hp with rfl | hp
    · exact t1
    · exact hh p hp hj
  have H:=h c3 hn _ w (ha.put o.dst v hd) hw ((jI ho hq _ _).2 hheld) (iG hcl hr) A₀ w₀ hs
  have free:=Region.free_spec ho c2
  have H':fF P ops (d9 nt Q A₀ w₀) (d6 ops ((i,T) :: held)) (C.len + 1) listed a w :=
    pM (T:=f8 T) ho (Region.noSelect_spec hn) (fun c a w g=>u7 _ _ c a w g)
      (fun l w' hcl' hun hS=>hS (i,T) (VX ..) fun j hl ⟨oj,hoj,_⟩=>by
        cases q:mw ops i ops.size j with
        | false=>rfl
        | true =>
          have:=kq hcl' ops.size j oj hoj (hcl' j oj hoj hl) q
          rw [i6 hun] at this;cases this)
      (fun l w'=>jI ho hq l w') _ listed a w hcl (fun j oj hoj hne hun hno=>free j oj hoj hne hun hno) hr t2 hheld H
  -- less is asked
  have weaken:∀ (fuel:Nat) (l:Array Bool) (a:Act) (w:World),fF P ops (d9 nt Q A₀ w₀) (d6 ops ((i,T) :: held)) fuel l a w->fF P ops (d9 nt Q A₀ w₀) (d6 ops held) fuel l a w:=by
    intro fuel
    induction fuel with
    | zero=>intro l a w h;exact h
    | succ fuel ih=>intro l a w h;exact ⟨h.1,fun j hj=>wpOp_mono (fun a' w' h'=>⟨fun p hp=>h'.1 p (VZ _ hp),ih _ _ _ h'.2⟩) (h.2 j hj)⟩
  exact weaken _ _ _ _ H'
theorem su {listed:Array Bool} {held:List (Nat × fx)} {i:Nat} {C:OT} {o:Oper} {a:Act} {w:World} {A₀:AH} {w₀:World} (ho:ops[i]? = some o) (hq:du o.op=false) (hd:∀ t,o.dst=some t->t < nt) (hwn:∀ a:Act,de nt f a->Region.wanted o (yielded ops a.tmps)=true)
    (c2:mR ops (listed.setIfInBounds i true) C=true) (hn:Region.noSelect ops=true) (ha:de nt f a) (hw:cw A w) (hcl:md ops listed) (hs:fz A₀ w₀ A w) (hr:i ∈ Region.ready .any ops listed)
    (h:∀ (K:Value->AH->Prop) (Kp:List PanicEntry->AH->Prop),
      (∀ v A',(∀ w',cw A' w'->∀ p ∈ held,mw ops p.1 ops.size i=false->f8 p.2 w')->cU P nt ops Q (listed.setIfInBounds i true) (held.filter fun p=>!mw ops p.1 ops.size i) C ⟨gw f.e o.dst v,f.ds⟩ A'->K v A') ->
      (∀ ch A',Q (.panic ch) ⟨[],f.ds⟩ A'->Kp ch A')->kY P f.e A o K Kp) :
    wpOp P ops (d9 nt Q A₀ w₀) i (fun a' w'=>d6 ops held (listed.setIfInBounds i true) w'/\fF P ops (d9 nt Q A₀ w₀) (d6 ops held) C.len (listed.setIfInBounds i true) a' w') a w:=by
  have hlt:i < listed.size:=by
    have:=(mem_ready.1 hr).1
    rcases VW i listed.size with h' | h'
    · exact h'
    · simp [RQ h'] at this
  have hl:(listed.setIfInBounds i true).getD i false=true:=by simp [hlt]
  unfold wpOp
  simp only [ho,hwn a ha,if_true]
  left
  have:=rz (o:=o) (K:=fun v A'=>(∀ w',cw A' w'->∀ p ∈ held,mw ops p.1 ops.size i=false->f8 p.2 w')/\cU P nt ops Q (listed.setIfInBounds i true) (held.filter fun p=>!mw ops p.1 ops.size i) C ⟨gw f.e o.dst v,f.ds⟩ A')
    (Kp:=fun ch A'=>Q (.panic ch) ⟨[],f.ds⟩ A') ha hw (h _ _ (fun v A' g1 g2=>⟨g1,g2⟩) (fun ch A' g=>g))
  unfold Oper.wp at this ⊢
  have up:∀ r,o.upon P a (ki A a w o fun v A'=>(∀ w',cw A' w'->∀ p ∈ held,mw ops p.1 ops.size i=false->f8 p.2 w')/\cU P nt ops Q (listed.setIfInBounds i true) (held.filter fun p=>!mw ops p.1 ops.size i) C ⟨gw f.e o.dst v,f.ds⟩ A') (iP A a w fun ch A'=>Q (.panic ch) ⟨[],f.ds⟩ A') r ->
      o.upon P a (fun a' w'=>d6 ops held (listed.setIfInBounds i true) w'/\fF P ops (d9 nt Q A₀ w₀) (d6 ops held) C.len (listed.setIfInBounds i true) a' w') (d9 nt Q A₀ w₀) r:=by
    have next:∀ a' w',(ki A a w o fun v A'=>(∀ w',cw A' w'->∀ p ∈ held,mw ops p.1 ops.size i=false->f8 p.2 w')/\cU P nt ops Q (listed.setIfInBounds i true) (held.filter fun p=>!mw ops p.1 ops.size i) C ⟨gw f.e o.dst v,f.ds⟩ A') a' w' ->
        d6 ops held (listed.setIfInBounds i true) w'/\fF P ops (d9 nt Q A₀ w₀) (d6 ops held) C.len (listed.setIfInBounds i true) a' w':=by
      rintro a' w' ⟨v,A',rfl,hv',hs',g1,g2⟩
      have hlo:V.loud ops i:=⟨o,ho,hq⟩
      have hh':d6 ops held (listed.setIfInBounds i true) w':=fun p hp hj=>g1 w' hv' p hp (hj i hl hlo)
      refine ⟨hh',?_⟩
      have H:=g2 c2 hn _ w' (ha.put o.dst v hd) hv' (fun p hp hj=>hh' p (SK.1 hp).1 hj) (iG hcl hr) A₀ w₀ (hs.trans hs')
      refine ma (x:=i) (fun l w hx hS p hp hj=>hS p (SK.2 ⟨hp,?_⟩) hj) _ _ _ _ hl H
      simp [hj i hx hlo]
    have pan:∀ x a' w',iP A a w (fun ch A'=>Q (.panic ch) ⟨[],f.ds⟩ A') x a' w'->d9 nt Q A₀ w₀ x a' w':=by
      rintro x a' w' ⟨ch,A',rfl,rfl,hv',hs',g⟩
      exact ⟨⟨[],f.ds⟩,A',⟨ha.size,(fun _ _ q=>by cases q),ha.ds⟩,hv',hs.trans hs',g,fun _ _=>rfl⟩
    intro r hr'
    cases r with
    | ok n w' =>
      cases n <;> simp only [Oper.upon] at hr' ⊢ <;> (try exact hr'.elim)
      case value v=>exact next _ _ hr'
      case skip=>exact next _ _ hr'
      case defer d=>exact next _ _ hr'
      case enter f' args =>
        refine hr'.mono fun e w'' he=>?_
        cases e with
        | returned v=>exact next _ _ he
        | panicked ch=>exact pan _ _ _ he
        | outgrown=>obtain ⟨a₁,w₁,ch,A',q,_⟩:=he;cases q
      case row row args=>exact hr'.mono fun v w'' he=>next _ _ he
    | halt x w' =>
      cases x <;> simp only [Oper.upon] at hr' ⊢ <;> (try exact hr'.elim)
      case panic v=>exact pan _ _ _ hr'
  exact up _ this
variable {e:ii} {ds:List Deferred}
theorem cU.done {listed:Array Bool} {held:List (Nat × fx)} (h:Q .normal f A):cU P nt ops Q listed held .done f A:=by
  intro hc _ a w ha hw _ _ A₀ w₀ hs
  simp only [mR,List.isEmpty_iff] at hc
  exact ⟨hc,f,A,ha,hw,hs,h,fun _ q=>by cases q⟩
theorem cU.q {listed:Array Bool} {held:List (Nat × fx)} {k d:Nat} {C:OT} {op:Op} {ty:TypeId} {ps:String} {af:Array Edge} {v:Value} {T:fx} (ho:ops[k]? = some { dst:=some d,op:=op,type:=ty,pos:=ps,after:=af,guard:=none }) (hq:du op=true) (hd:Nat.blt d nt=true) (hv:aW P e A op=some (v,T))
    (h:cU P nt ops Q (listed.setIfInBounds k true) ((k,T) :: held) C ⟨(d,v) :: e,ds⟩ A):cU P nt ops Q listed held (.one k C) ⟨e,ds⟩ A :=
  cU.quiet (f:=⟨e,ds⟩) (T:=T) (v:=v) ho hq (dc (d:=some d) hd) (fun a w ha hw=>by
    have key:=ib (P:=P) (f:=(⟨e,ds⟩:Fr)) (o:={ dst:=some d,op:=op,type:=ty,pos:=ps,after:=af,guard:=none }) hv ha hw
    exact ⟨key.1,.inl ⟨by simp [Region.wanted],key.2⟩⟩) h
theorem cU.l {listed:Array Bool} {held:List (Nat × fx)} {i:Nat} {C:OT} {di:Option Nat} {opi:Op} {ti:TypeId} {pi:String} {afi:Array Edge}
    (hoi:ops[i]? = some { dst:=di,op:=opi,type:=ti,pos:=pi,after:=afi,guard:=none }) (hqi:du opi=false) (hdi:ij nt di=true)
    (hi:∀ (K:Value->AH->Prop) (Kp:List PanicEntry->AH->Prop),(∀ v A',bg ops held i A'->cU P nt ops Q (listed.setIfInBounds i true) (held.filter fun p=>!mw ops p.1 ops.size i) C ⟨gw e di v,ds⟩ A'->K v A') ->
      (∀ ch A',Q (.panic ch) ⟨[],ds⟩ A'->Kp ch A')->kY P e A { dst:=di,op:=opi,type:=ti,pos:=pi,after:=afi,guard:=none } K Kp):cU P nt ops Q listed held (.one i C) ⟨e,ds⟩ A:=by
  intro hc hn a w ha hw hh hcl A₀ w₀ hs
  simp only [mR,hoi,hqi,RV,if_false,XK,Qy] at hc
  obtain ⟨c1,c2⟩:=hc
  simp only [OT.len]
  refine ⟨fun h0=>(by rw [c1] at h0;cases h0),fun k hk=>?_⟩
  have hk':=hk
  rw [c1,XW] at hk'
  subst hk'
  exact su (C:=C) hoi hqi (dc hdi) (fun a _=>by simp [Region.wanted]) c2 hn ha hw hcl hs hk hi
theorem cU.both {listed:Array Bool} {held:List (Nat × fx)} {i j:Nat} {C D:OT} {di dj:Option Nat} {opi opj:Op} {ti tj:TypeId} {pi pj:String} {afi afj:Array Edge}
    (hoi:ops[i]? = some { dst:=di,op:=opi,type:=ti,pos:=pi,after:=afi,guard:=none }) (hoj:ops[j]? = some { dst:=dj,op:=opj,type:=tj,pos:=pj,after:=afj,guard:=none }) (hqi:du opi=false) (hqj:du opj=false) (hdi:ij nt di=true) (hdj:ij nt dj=true)
    (hi:∀ (K:Value->AH->Prop) (Kp:List PanicEntry->AH->Prop),(∀ v A',bg ops held i A'->cU P nt ops Q (listed.setIfInBounds i true) (held.filter fun p=>!mw ops p.1 ops.size i) C ⟨gw e di v,ds⟩ A'->K v A') ->
      (∀ ch A',Q (.panic ch) ⟨[],ds⟩ A'->Kp ch A')->kY P e A { dst:=di,op:=opi,type:=ti,pos:=pi,after:=afi,guard:=none } K Kp)
    (hj:∀ (K:Value->AH->Prop) (Kp:List PanicEntry->AH->Prop),(∀ v A',bg ops held j A'->cU P nt ops Q (listed.setIfInBounds j true) (held.filter fun p=>!mw ops p.1 ops.size j) D ⟨gw e dj v,ds⟩ A'->K v A') ->
      (∀ ch A',Q (.panic ch) ⟨[],ds⟩ A'->Kp ch A')->kY P e A { dst:=dj,op:=opj,type:=tj,pos:=pj,after:=afj,guard:=none } K Kp):cU P nt ops Q listed held (.two i j C D) ⟨e,ds⟩ A:=by
  intro hc hn a w ha hw hh hcl A₀ w₀ hs
  simp only [mR,XK,Qy] at hc
  obtain ⟨⟨⟨c1,c2⟩,c3⟩,c4⟩:=hc
  simp only [OT.len]
  refine ⟨fun h0=>(by rw [c1] at h0;cases h0),fun k hk=>?_⟩
  have hk':=hk
  rw [c1] at hk'
  simp only [Vy,SQ,or_false] at hk'
  rcases hk' with rfl | rfl
  · exact su (C:=C) hoi hqi (dc hdi) (fun a _=>by simp [Region.wanted]) c2 hn ha hw hcl hs hk hi
  · rw [c4];exact su (C:=D) hoj hqj (dc hdj) (fun a _=>by simp [Region.wanted]) c3 hn ha hw hcl hs hk hj
theorem ak.drawnT {id:Nat} (C:OT) (hm:P.follows .mixedOrders=true) (hc:mR ops (Array.replicate ops.size false) C=true) (hn:Region.noSelect ops=true) (hl:C.len=ops.size)
    (h:cU P nt ops Q (Array.replicate ops.size false) [] C f A):ak P nt (.region id ops true) Q f A:=by
  intro a w ha hw
  obtain ⟨v1,s1⟩:=jF hw
  refine wp_mono (wp_region_any hm (kO (Q:=d9 nt Q A w) (S:=d6 ops []) _ _ _ _ ?_)) (fun _ _ _=>d9.q)
  have key:=h hc hn a _ ha v1 (fun p hp=>by cases hp) (fun j o _ hj=>by
    exfalso
    rcases VW j ops.size with q | q
    · simp [q] at hj
    · simp [q] at hj) A w s1
  rw [hl] at key
  exact key
end
end V
theorem j0:eo prog 213 1=some (59,1):=by kernel_rfl
theorem rn:eo prog 213 2=some (60,2):=by kernel_rfl
theorem tk:eo prog 213 3=some (67,3):=by kernel_rfl
theorem tl:eo prog 213 4=some (67,4):=by kernel_rfl
theorem pl213:dk prog 213=some [(0,1),(1,1),(2,1),(3,1),(4,1)]:=by kernel_rfl
theorem u213:type_of% @underlying213:=@underlying213
theorem Jb:type_of% @underlying222:=@underlying222
theorem z213:cE prog 213=some (.agg #[.int .i64 0,.slice none 0 0,.slice none 0 0,.slice none 0 0,.slice none 0 0]):=by kernel_rfl
theorem zP (k most bd F0:Nat) (s0:Int) (g1 g2:Nat) (e0 e1:Array Value) (step:Int->Nat->Option Int) (accf:Int->Bool) (D:Int->Prop) (A:AH) (hk:k<=1000) (hm:bd<=most/\most<=1000000/\bd < F0) (D3:D s0) (hDs:∀ q c t,D q->c < k->step q c=some t->D t) (hfin:∀ Q:List Int,Q.Nodup->(∀ q ∈ Q,D q)->Q.length<=bd) (B5:∀ (q:Int) (c:Nat) B,D q->c < k->A.le B->B.wf->bH prog g1 (#[num q,num (c:Int)] ++ e0) B (fun v C=>v=.tuple #[num ((step q c).getD 0),.bool (step q c).isSome]/\B.le C/\C.wf)) (B6:∀ (q:Int) B,D q->A.le B->B.wf->bH prog g2 (#[num q] ++ e1) B (fun v C=>v=.bool (accf q)/\B.le C/\C.wf)):bH prog 148 #[num ((k:Nat):Int),num ((most:Nat):Int),num (s0),.func (.func g1) #[] e0,.func (.func g2) #[] e1] A (fun v A1=>∃ b av nv fv bv rows,v=.tuple #[.pointer (some ⟨b,0,none⟩),.bool true]/\A.le A1/\A1.wf/\A1.get b=some (.row true [num (k:Int),av,nv,fv,bv] 5)/\A.get b=none/\Fresh A A1 av 1 (bQ ((eD k step F0 0 [s0] []).1.map accf))/\Fresh A A1 nv 1 (dx rows)/\iZ A A1 rows (eD k step F0 0 [s0] []).2/\blk av ≠ some b/\blk nv ≠ some b/\cu rows b/\aL av nv/\au av rows/\au nv rows):=by
 refine aN (e:=[(0,num ((k:Nat):Int)),(1,num ((most:Nat):Int)),(2,num (s0)),(3,.func (.func g1) #[] e0),(4,.func (.func g2) #[] e1)]) (args:=[num ((k:Nat):Int),num ((most:Nat):Int),num (s0),.func (.func g1) #[] e0,.func (.func g2) #[] e1]) call148 func148 Z results148 ntmps148 Z Z Z (fun wf=>?_);have y3:=AH.le.refl A;refine ak.sq fun h2=>.region<|.I Z<|.I Z<|.nil<|h2<|.sq fun h4=>.region<|.J Z<|.p (dn Z (bE u213 z213 pl213 Z)) ?_;refine Ops.m (fun Dd=>dQ wf rfl rfl fun A7 b6 ft=>?_);have ct:=bh wf (Xj y3.n ft.lo);have y2:=y3.trans ft.le;refine Dd<|.I Z<|.nil<|h4<|.sq fun CH=>.region<|.m (fun B7=>o5 ft.wf fun A14 cT eG=>?_);have aA:=ne_new ft.wf ft.get eG.lo;have h5:=bh wf (Xj y2.n eG.lo);refine B7<|.J Z<|.m (fun B8=>Yd uU (E:=[]) eG.wf rfl rfl rfl Jb u3 eG.get dF.nil List.nodup_nil fun A19 nk y5 dW By=>?_);have xR:=dW.k aA (eG.le.g ft.get);have ox:=an (y2.trans eG.le) wf h5 dW.n dW.keep;have Bm:dF num nk (JZ [s0]):=By;refine B8<|.J Z<|.I Z<|.nil<|CH<|.sq fun CK=>.region<|.J Z<|.m (fun B9=>aE (c:=[num (s0)]) dW.wf rfl (aq cQ cl z3 rfl U U rfl) fun A30 xN d0=>?_);have dO:=ne_new dW.wf xR d0.lo;have gF:=ne_new dW.wf dW.get d0.lo;have xS:=d0.le.g xR;have xT:=d0.le.g dW.get;have oy:=ox.trans d0.le;refine B9<|.I Z<|.nil<|CK<|.sq fun CL=>.region<|.J Z<|.J Z<|.m (fun Ba=>aE (c:=[num (-1)]) d0.wf rfl (aq cQ cl z3 rfl U U rfl) fun A39 h3 cc=>?_);have dS:=ne_new d0.wf xS cc.lo;have gG:=ne_new d0.wf xT cc.lo;have gM:=ne_new d0.wf d0.get cc.lo;have xV:=cc.le.g xS;have y0:=cc.le.g xT;have y1:=cc.le.g d0.get;have oz:=oy.trans cc.le;refine Ba<|.m (fun Bb=>aE (c:=[num (-1)]) cc.wf rfl (aq cQ cl z3 rfl U U rfl) fun A47 hF d1=>?_);have dV:=ne_new cc.wf xV d1.lo;have gL:=ne_new cc.wf y0 d1.lo;have gN:=ne_new cc.wf y1 d1.lo;have gP:=ne_new cc.wf cc.get d1.lo;refine Bb<|.p (cW Z)<|.p (ae tk dX U Z)<|.m (fun Bc=>aU (cs:=[.slice (some ⟨h3,0,none⟩) 1 1]) (c':=[num ((k:Nat):Int),.slice none 0 0,.slice none 0 0,.slice (some ⟨h3,0,none⟩) 1 1,.slice none 0 0]) d1.wf rfl rfl rfl rfl dX (d1.le.g xV) G rfl rfl fun A55 dZ=>?_);refine Bc<|.p (cW Z)<|.p (ae tl dX U Z)<|.m (fun Bd=>aU (cs:=[.slice (some ⟨hF,0,none⟩) 1 1]) (c':=[num ((k:Nat):Int),.slice none 0 0,.slice none 0 0,.slice (some ⟨h3,0,none⟩) 1 1,.slice (some ⟨hF,0,none⟩) 1 1]) dZ.wf rfl rfl rfl rfl dX dZ.get G rfl rfl fun A63 eb=>?_);have CR:=eb.k aA.symm (dZ.k aA.symm (d1.le.g y0));have Bv:=an (an (oz.trans d1.le) wf ct dZ.n dZ.keep) wf ct eb.n eb.keep;refine Bd<|.nil<|CL<|.sq fun CS=>.sq fun CT=>.region<|.I Z<|.nil<|CT<|.block ?_;have y9:Fresh A A63 (.slice (some ⟨h3,0,none⟩) 1 1) 1 (cf [-1]):=Fresh.lit (eb.k dS.symm (dZ.k dS.symm (d1.le.g cc.get))) (bh wf (Xj oy.n cc.lo)) Z G;have yt:Fresh A A63 (.slice (some ⟨hF,0,none⟩) 1 1) 1 (cf [-1]):=Fresh.lit (eb.k dV.symm (dZ.k dV.symm d1.get)) (bh wf (Xj oz.n d1.lo)) Z G;have yS:Fresh A A63 (.slice (some ⟨xN,0,none⟩) 1 1) 1 (cf [s0]):=Fresh.lit (eb.k dO.symm (dZ.k dO.symm (d1.le.g y1))) (bh wf (Xj ox.n d0.lo)) Z G;have y8:iZ A A63 [] []:=iZ.nil;refine ak.loop (X:=Nat × List Int × List Bool × List Int × List Int × Array MapEntry × Nat × Nat × Value × Value × Value × Value × Value × List Value × List (List Int)) (fun ⟨i,Q,ac,fi,bl,es,ck,f,qv,av,nv,fv,bv,rw,R⟩=>[(0,num ((k:Nat):Int)),(1,num ((most:Nat):Int)),(3,.func (.func g1) #[] e0),(4,.func (.func g2) #[] e1),(12,.pointer (some ⟨b6,0,none⟩)),(13,.map (some cT)),(14,qv),(15,num ((i:Nat):Int))]) (fun ⟨i,Q,ac,fi,bl,es,ck,f,qv,av,nv,fv,bv,rw,R⟩ B=>(i<=Q.length/\ac=(Q.take i).map accf/\Q.Nodup/\(∀ q ∈ Q,D q)/\dF num es (JZ Q)/\eD k step f i Q R=(eD k step F0 0 [s0] [])/\f + i=F0/\fi.length=Q.length/\bl.length=Q.length/\R.length=i)/\A.le B/\Fresh A B qv 1 (cf Q)/\Fresh A B av 1 (bQ ac)/\Fresh A B nv 1 (dx rw)/\Fresh A B fv 1 (cf fi)/\Fresh A B bv 1 (cf bl)/\B.get cT=some (.obj true (.map es ck))/\B.get b6=some (.row true [num ((k:Nat):Int),av,nv,fv,bv] 5)/\V.blk qv ≠ some cT/\V.blk av ≠ some cT/\V.blk nv ≠ some cT/\V.blk fv ≠ some cT/\V.blk bv ≠ some cT/\V.blk qv ≠ some b6/\V.blk av ≠ some b6/\V.blk nv ≠ some b6/\V.blk fv ≠ some b6/\V.blk bv ≠ some b6/\aL qv av/\aL qv nv/\aL qv fv/\aL qv bv/\aL av nv/\aL av fv/\aL av bv/\aL nv fv/\aL nv bv/\aL fv bv/\iZ A B rw R/\cu rw cT/\cu rw b6/\au qv rw/\au av rw/\au nv rw/\au fv rw/\au bv rw) (fun ⟨i,Q,ac,fi,bl,es,ck,f,qv,av,nv,fv,bv,rw,R⟩=>F0 - i) (⟨0,[s0],[],[-1],[-1],nk,y5,F0,.slice (some ⟨xN,0,none⟩) 1 1,.slice none 0 0,.slice none 0 0,.slice (some ⟨h3,0,none⟩) 1 1,.slice (some ⟨hF,0,none⟩) 1 1,[],[]⟩) (un Z Z Z Z Z Z Z Z) (⟨⟨XZ _,rfl,by simp,fun q hq=>by rw [XW] at hq;subst hq;exact D3,Bm,rfl,by omega,rfl,rfl,rfl⟩,Bv,yS,(Fresh.nil A A63 1),(Fresh.nil A A63 1),y9,yt,CR,eb.get,(fun q=>by cases q;exact gF rfl),(fun q=>by cases q),(fun q=>by cases q),(fun q=>by cases q;exact gG rfl),(fun q=>by cases q;exact gL rfl),(fun q=>by cases q;exact dO rfl),(fun q=>by cases q),(fun q=>by cases q),(fun q=>by cases q;exact dS rfl),(fun q=>by cases q;exact dV rfl),(aL.symm aL.nil),(aL.symm aL.nil),(fun c hc hq=>by cases hc;cases hq;exact gM rfl),(fun c hc hq=>by cases hc;cases hq;exact gN rfl),aL.nil,aL.nil,aL.nil,aL.nil,aL.nil,(fun c hc hq=>by cases hc;cases hq;exact gP Z),y8,fY,fY,au.empty,au.nil,au.nil,au.empty,au.empty⟩) ?_;rintro ⟨i,Q,ac,fi,bl,es,ck,f,qv,av,nv,fv,bv,rw,R⟩ B81 ⟨⟨hi,hac,hnd,hDQ,hme,hex,hf,hfi,hbl,hRl⟩,hu,eA,fo,fq,nj,nd,hl,e2,fn,e7,fm,fl,fe,em,dG,dI,ek,eg,f4,hz,hA,hB,ec,f6,f7,hC,hD,hE,fr,f9,dz,g8,dD,ee,g9,gc⟩;refine ak.wf fun oF=>?_;have hrw:rw.length=R.length:=by first | exact iZ.len ‹_›
 have hlQ:=hfin Q hnd hDQ;have hla:ac.length=i:=by rw [hac,Tq,Vz];omega
 have hDi:=fun q:i < Q.length=>hDQ _ (aX (d:=(0:Int)) q);refine ak.sq fun CV=>.sq fun D0=>.region<|.J Z<|.J Z<|.p (bx (n:=Q.length) cQ Z eA.slc O (c9 _))<|.p (bK Z Z)<|.nil<|D0<|.if rfl (fun Di=>?_) (fun Di=>?_)
 ·refine ak.skip<|CV<|.sq fun D1=>.block<|.sq fun D2=>.drawn [0,1,2,3,4,5,6,7,8,9,10,11,12,13,14,15] mixed Y Y Z<|.q Z Z Z (aK Z)<|.q Z Z Z (aK Z)<|.q Z Z Z (cW Z)<|.q Z Z Z (ae j0 gV U Z) ?_;have B4:=cR (off:=1) e2 (show _=some (av) from rfl);refine DOps.q Z Z Z (ah io Z Z e2 Z)<|.q Z Z Z (aK Z)<|.q Z Z Z (aK Z)<|.q Z Z Z (aK Z) ?_;obtain ⟨F9,Fd,EK,Fl,EG,Fi,Fe,Cv,Dg,CC,Eq,y6⟩:=bz.at (i:=i) eA.slc O2 O;refine DOps.q Z Z Z (al cQ cl Z Cv Z Dg)<|.q Z Z Z (ah dK Z Z CC ((cb y6).trans (bJ O)))<|.l Z Z Z (fun _ _ Bk _=>pY Z Z (B6 (Q.getD i 0) B81 (hDi O) hu oF) ?_);rintro Fm A97 ⟨rfl,cP,nb⟩;have hG:=fr.le cP;have lW:=bI cP B4;refine Bk _ _ (bg.list (L:=[(⟨b6,1,none⟩,av)]) Y (bf lW bX))<|.l Z Z Z (fun _ _ sb _=>aE (c:=[.bool (accf (Q.getD i 0))]) nb rfl (aq jQ kN z4 rfl U U rfl) fun A112 E4 b8=>?_);have Ds:=hG.ne_new nb b8.lo;have nl:=b8.le.g (cP.g hl);have nn:=b8.le.g (cP.g e2);have hT:=(eA.le cP).le b8.le;have hU:=(fo.le cP).le b8.le;have hV:=(fq.le cP).le b8.le;have hW:=(nj.le cP).le b8.le;have hX:=(nd.le cP).le b8.le;have hH:=hG.le b8.le;have s6:=bI b8.le lW;have tI:=(hu.trans cP).trans b8.le;refine sb _ _ (bg.list (L:=[(⟨b6,1,none⟩,av)]) Y (bf s6 bX))<|.l Z Z Z (fun _ _ sf _=>cm (ys:=[.bool (accf (Q.getD i 0))]) rfl rfl jQ kN DB z4 rfl U jQ (fun _ h=>by cases h) hU.own (bG (n:=1) b8.get Z) rfl rfl (by show (_ + _) * 1<=_;simp only [bi,Xq,Xx];(try simp only [Xz,Xq,Xx]);omega) Oy fun A131 ES bm=>?_);rw [show ([.bool (accf (Q.getD i 0))]:List Value)=bQ [accf (Q.getD i 0)] from rfl,jd] at bm;obtain ⟨hY,tJ⟩:=Fresh.grow hU tI wf bm;have uS:=bm.ne e7 b8.wf nl;have mE:=bm.ne dG b8.wf nn;have vC:=aL.appd (show aL av qv from (aL.symm f4)) hT.own b8.wf bm;have vS:=aL.appd (show aL av nv from ec) hV.own b8.wf bm;have vX:=aL.appd (show aL av fv from f6) hW.own b8.wf bm;have vZ:=aL.appd (show aL av bv from f7) hX.own b8.wf bm;have w0:=au.appd (show au av rw from dD) hH b8.wf bm;have oJ:=hH.appd bm (show au av rw from dD);refine sf _ _ (bg.none Y)<|.q Z Z Z (cW Z)<|.q Z Z Z (ae j0 gV U Z) ?_;obtain ⟨aG,aF,aD,BT,_⟩:=hY.own.slice;subst BT;refine DOps.l Z Z Z (fun _ _ sr _=>aU (cs:=[.slice aG aF aD]) (c':=[num ((k:Nat):Int),.slice aG aF aD,nv,fv,bv]) bm.wf rfl rfl rfl rfl gV (bm.keep dG nn) G rfl rfl fun A155 b1=>?_);have nq:=b1.k aA.symm (bm.keep e7 nl);have hZ:=(hT.appd bm (aL.symm f4)).keep b1.keep em;have i1:=(hV.appd bm ec).keep b1.keep dI;have i2:=(hW.appd bm f6).keep b1.keep ek;have ih:=(hX.appd bm f7).keep b1.keep eg;have it:=hY.keep b1.keep mE;have hI:=oJ.keep b1.keep dz;have mm:=an tJ wf ct b1.n b1.keep;refine sr _ _ (bg.none Y)<|.done<|D2<|.sq fun zI=>.region<|.J Z<|.m (fun ss=>jo (n:=k) (k:=k) b1.wf mm rfl rfl cQ cl z3 jq rfl (XX _) (by show 8 * _<=_;omega) O fun A169 y4 bp iv=>?_);rw [ef] at iv;have fd:=ne_new b1.wf nq bp.lo;have gQ:=ne_new b1.wf b1.get bp.lo;have v7:=hI.ne_new b1.wf bp.lo;have zS:=bp.le.g nq;have zV:=bp.le.g b1.get;have p9:=hZ.le bp.le;have pa:=i1.le bp.le;have pc:=i2.le bp.le;have pe:=ih.le bp.le;have pf:=it.le bp.le;have oK:=hI.le bp.le;have tO:=mm.trans bp.le;have w1:=aL.of_new (n:=k) (c:=k) hZ.own b1.wf bp.lo;have w2:=aL.of_new (n:=k) (c:=k) i1.own b1.wf bp.lo;have w3:=aL.of_new (n:=k) (c:=k) i2.own b1.wf bp.lo;have w4:=aL.of_new (n:=k) (c:=k) ih.own b1.wf bp.lo;have w5:=aL.of_new (n:=k) (c:=k) it.own b1.wf bp.lo;refine ss<|.I Z<|.nil<|zI<|.sq fun A5=>.sq fun A6=>.region<|.J Z<|.J Z<|.nil ?_;refine A6<|.block<|.loop (X:=Nat × List Int × List Int × List Int × List Int × List Int × Array MapEntry × Nat × Value × Value × Value × Value) (fun ⟨c,r,o,Q1,fi,bl,es,ck,rv,bM,ab,a2⟩=>[(0,num ((k:Nat):Int)),(1,num ((most:Nat):Int)),(3,.func (.func g1) #[] e0),(4,.func (.func g2) #[] e1),(12,.pointer (some ⟨b6,0,none⟩)),(13,.map (some cT)),(14,bM),(15,num ((i:Nat):Int)),(16,rv),(61,num ((k:Nat):Int)),(62,num ((c:Nat):Int))]) (fun ⟨c,r,o,Q1,fi,bl,es,ck,rv,bM,ab,a2⟩ B=>(c<=k/\Ld step (Q.getD i 0) Q c=(r,Q1)/\r.length=c/\o=r ++ List.replicate (k - c) 0/\Q1.Nodup/\(∀ q ∈ Q1,D q)/\dF num es (JZ Q1)/\fi.length=Q1.length/\bl.length=Q1.length/\Q <+: Q1)/\A.le B/\Fresh A B rv 1 (cf o)/\Fresh A B bM 1 (cf Q1)/\Fresh A B ab 1 (cf fi)/\Fresh A B a2 1 (cf bl)/\Fresh A B nv 1 (dx rw)/\Fresh A B (.slice aG aF aD) 1 (bQ (ac ++ [accf (Q.getD i 0)]))/\B.get cT=some (.obj true (.map es ck))/\B.get b6=some (.row true [num ((k:Nat):Int),.slice aG aF aD,nv,ab,a2] 5)/\V.blk rv ≠ some cT/\V.blk bM ≠ some cT/\V.blk ab ≠ some cT/\V.blk a2 ≠ some cT/\V.blk nv ≠ some cT/\V.blk (.slice aG aF aD) ≠ some cT/\V.blk rv ≠ some b6/\V.blk bM ≠ some b6/\V.blk ab ≠ some b6/\V.blk a2 ≠ some b6/\V.blk nv ≠ some b6/\V.blk (.slice aG aF aD) ≠ some b6/\aL rv bM/\aL rv ab/\aL rv a2/\aL rv nv/\aL rv (.slice aG aF aD)/\aL bM ab/\aL bM a2/\aL bM nv/\aL bM (.slice aG aF aD)/\aL ab a2/\aL ab nv/\aL ab (.slice aG aF aD)/\aL a2 nv/\aL a2 (.slice aG aF aD)/\aL nv (.slice aG aF aD)/\iZ A B rw R/\cu rw cT/\cu rw b6/\au rv rw/\au bM rw/\au ab rw/\au a2 rw/\au nv rw/\au (.slice aG aF aD) rw) (fun ⟨c,r,o,Q1,fi,bl,es,ck,rv,bM,ab,a2⟩=>k - c) (⟨0,[],List.replicate k 0,Q,fi,bl,es,ck,.slice (some ⟨y4,0,none⟩) k k,qv,fv,bv⟩) (uF Z Z Z Z Z Z Z Z Z Z Z) (⟨⟨XZ _,rfl,rfl,by simp,hnd,hDQ,hme,hfi,hbl,Tx _⟩,tO,iv,p9,pc,pe,pa,pf,zS,zV,(fun q=>by cases q;exact fd rfl),fn,fl,fe,fm,uS,(fun q=>by cases q;exact gQ Z),em,ek,eg,dI,mE,w1,w3,w4,w2,w5,hA,hB,hz,(aL.symm vC),hE,(aL.symm hC),(aL.symm vX),(aL.symm hD),(aL.symm vZ),(aL.symm vS),oK,f9,dz,(au.new v7),g8,g9,gc,ee,w0⟩) ?_;rintro ⟨c,r,o,Q1,fi,bl,es,ck,rv,bM,ab,a2⟩ B197 ⟨⟨hc,hexp,hrl,ho,eC,f1,f2,hj,hh,hpre⟩,mt,dw,eQ,eN,eM,eL,e6,eR,ea,a5,bc,aa,a9,aB,az,a0,bD,a3,ai,a4,a1,bO,aV,aY,aC,aZ,cV,cX,ch,cZ,bu,b9,bA,ba,bB,bP,e9,bb,a8,ag,bS,aP,aR,bC,bL⟩;refine ak.wf fun eZ=>?_;have hlo:o.length=k:=by rw [ho];simp;omega
  have Et:=hfin Q1 eC f1;have hpl:=hpre.length_le;have hgi:=i9 hpre (show i < Q.length by omega);have o4:D (Q1.getD i 0):=by rw [hgi];exact hDi O
  refine ak.sq fun A8=>.region<|.p (bK Z Z)<|.nil<|A8<|.sq fun A9=>.if rfl (fun BM=>?_) (fun BM=>?_)
  ·refine ak.skip<|A9<|.sq fun f0=>.block<|.sq fun Aa=>.region<|.J Z<|.I Z<|.nil<|Aa ?_;refine ak.sq fun Ab=>.region<|.J Z<|.J Z ?_;obtain ⟨en,Ex,Eg,C7,DO,d3,oi,yT,F2,BA,EL,Bo⟩:=dw.at1 (x:=c) O2;rw [aj] at oi;refine Ops.p (al cQ cl Z d3 Z (by rw [oi];omega))<|.m (fun sv=>aU (off:=c) (c':=C7.set c (num (-1))) eZ rfl (by simp) rfl rfl cl yT (by show c + 1<=_;omega) rfl rfl fun A212 bU=>?_);have Ac:=bU.k (fun q=>a5 (by rw [d3];exact Xk some q.symm)) eR;have Ad:=bU.k (fun q=>a0 (by rw [d3];exact Xk some q.symm)) ea;have iD:=eQ.keep bU.keep (bO en (by rw [d3];rfl));have pi:=eN.keep bU.keep (aV en (by rw [d3];rfl));have pj:=eM.keep bU.keep (aY en (by rw [d3];rfl));have pl:=eL.keep bU.keep (aC en (by rw [d3];rfl));have pp:=e6.keep bU.keep (aZ en (by rw [d3];rfl));have oN:=e9.keep bU.keep (fun r hr=>ag r hr en (by rw [d3];rfl));have iF:=Bo (num (-1)) A212 bU;rw [dp] at iF;have mv:=an mt wf BA bU.n bU.keep;refine sv<|.nil<|Ab<|.sq fun Af=>.region<|.J Z<|.J Z<|.J Z ?_;obtain ⟨E5,Er,E3,EE,DS,Ey,Ev,y7,Bu,z0,Dj,oI⟩:=bz.at (i:=i) iD.slc O2 O;refine Ops.p (al cQ cl Z y7 Z Bu)<|.p (ah dK Z Z z0 ((cb oI).trans (bJ O)))<|.J Z<|.m (fun sz=>pY Z Z (B5 (Q1.getD i 0) c A212 o4 O mv bU.wf) ?_);rintro ET A229 ⟨rfl,bT,h6⟩;have g5:=bT.g Ac;have hb:=bT.g Ad;have fN:=iF.le bT;have eX:=iD.le bT;have fO:=pi.le bT;have fQ:=pj.le bT;have fR:=pl.le bT;have fS:=pp.le bT;have fM:=oN.le bT;have gm:=mv.trans bT;refine sz<|.J Z<|.p (bj Z Z)<|.p (bj Z Z)<|.I Z<|.I Z<|.nil<|Af<|.sq fun Ag=>.sq fun Ai=>?_;refine ak.region<|.J Z<|.p (ff Z)<|.nil<|Ai<|.ifB Z (fun BP=>?_) (fun BP=>?_)
   ·refine ak.exit<|f0<|.region<|.p (bk (b:=1) Z Z O)<|.J Z<|.nil ?_;exact ⟨⟨c + 1,r ++ [(-1)],o.set c ((-1)),Q1,fi,bl,es,ck,rv,bM,ab,a2⟩,uF Z Z Z Z Z Z Z Z Z Z Z,Z,⟨⟨by omega,PD hexp (by rw [<- hgi];exact D6 ‹_›),by simp;omega,by rw [ho,<- hrl];exact kU O,eC,f1,f2,hj,hh,hpre⟩,gm,fN,eX,fO,fQ,fR,fS,g5,hb,a5,bc,aa,a9,aB,az,a0,bD,a3,ai,a4,a1,bO,aV,aY,aC,aZ,cV,cX,ch,cZ,bu,b9,bA,ba,bB,bP,fM,bb,a8,ag,bS,aP,aR,bC,bL⟩,O1⟩
   refine ak.skip<|Ag<|.sq fun nB=>.region<|.J Z<|.J Z<|.m (fun me=>Uj Z Z Jb u3 z3 g5 f2 (fun Do=>?_) (fun tB=>?_))
   ·refine me<|.J Z<|.p (bj Z Z)<|.p (bj Z Z)<|.I Z<|.I Z<|.nil<|nB<|.sq fun Ap=>.sq fun Ar=>?_;refine ak.region<|.J Z<|.p (ff Z)<|.nil<|Ar<|.cond_false Z<|.skip<|Ap<|.region<|.J Z ?_;refine Ops.J Z<|.J Z ?_;obtain ⟨er,Ez,Ek,Cc,DV,dd,oj,z1,F3,BB,EM,Bp⟩:=fN.at1 (x:=c) O4;rw [aj] at oj;refine Ops.p (al cQ cl Z dd Z (by rw [oj];(try simp only [XQ]);omega))<|.m (fun sB=>aU (off:=c) (c':=Cc.set c (num ((Q1.idxOf ((step (Q1.getD i 0) c).getD 0):Nat):Int))) h6 rfl (by simp) rfl rfl cl z1 (by show c + 1<=_;omega) rfl rfl fun A257 cv=>?_);have As:=cv.k (fun q=>a5 (by rw [dd];exact Xk some q.symm)) g5;have At:=cv.k (fun q=>a0 (by rw [dd];exact Xk some q.symm)) hb;have pv:=eX.keep cv.keep (bO er (by rw [dd];rfl));have pw:=fO.keep cv.keep (aV er (by rw [dd];rfl));have pA:=fQ.keep cv.keep (aY er (by rw [dd];rfl));have pC:=fR.keep cv.keep (aC er (by rw [dd];rfl));have pE:=fS.keep cv.keep (aZ er (by rw [dd];rfl));have oP:=fM.keep cv.keep (fun r hr=>ag r hr er (by rw [dd];rfl));have iH:=Bp (num ((Q1.idxOf ((step (Q1.getD i 0) c).getD 0):Nat):Int)) A257 cv;rw [dp] at iH;have tS:=an gm wf BB cv.n cv.keep;refine sB<|.nil<|f0<|.region<|.p (bk (b:=1) Z Z O)<|.J Z<|.nil ?_;exact ⟨⟨c + 1,r ++ [(Q1.idxOf ((step (Q1.getD i 0) c).getD 0):Int)],(o.set c ((-1))).set c (((Q1.idxOf ((step (Q1.getD i 0) c).getD 0):Nat):Int)),Q1,fi,bl,es,ck,rv,bM,ab,a2⟩,uF Z Z Z Z Z Z Z Z Z Z Z,Z,⟨⟨by omega,Vf hexp (by rw [<- hgi];exact lM ‹_›) ‹_›,by simp;omega,by rw [ho,<- hrl];exact th O,eC,f1,f2,hj,hh,hpre⟩,tS,iH,pv,pw,pA,pC,pE,As,At,a5,bc,aa,a9,aB,az,a0,bD,a3,ai,a4,a1,bO,aV,aY,aC,aZ,cV,cX,ch,cZ,bu,b9,bA,ba,bB,bP,oP,bb,a8,ag,bS,aP,aR,bC,bL⟩,O1⟩
   have ge:=lh eC tB;have g6:=kB f1 (hDs _ _ _ o4 O (lM ‹(!(step (Q1.getD i 0) c).isSome)=false›));have Bl:=hfin _ ge g6;rw [Xz,TQ] at Bl;refine me<|.J Z<|.p (bj Z Z)<|.p (bj Z Z)<|.I Z<|.I Z<|.nil<|nB<|.sq fun hd=>.sq fun Av=>?_;refine ak.region<|.J Z<|.p (ff Z)<|.nil<|Av<|.cond_true Z<|.sq fun Ay=>.region<|.J Z<|.p (bx (n:=Q1.length) cQ Z eX.slc O (c9 _)) ?_;refine Ops.I Z<|.nil<|Ay<|.sq fun Az=>.sq fun AA=>.region<|.J Z<|.J Z<|.p (tK Z Z)<|.nil ?_;refine AA<|.if rfl (fun BR=>?_) (fun BR=>?_)
   ·refine ak.sq fun Es=>?_;exfalso;omega
   refine ak.skip<|Az<|.sq fun AB=>.region<|.J Z<|.J Z<|.J Z<|.m (fun sD=>pN uU h6 rfl rfl rfl Jb u3 g5 f2 (by rw [xq];exact eC) fun A285 eS fL bR uP=>?_);have hJ:=fM.keep bR.keep bb;have f3:dF num eS (JZ (Q1 ++ [((step (Q1.getD i 0) c).getD 0)])):=by rw [<- Wq ‹_›];exact uP
   refine sD<|.nil<|AB<|.sq fun AC=>.region<|.J Z<|.J Z<|.m (fun sF=>aE (c:=[num ((step (Q1.getD i 0) c).getD 0)]) bR.wf rfl (aq cQ cl z3 rfl U U rfl) fun A304 E6 b0=>?_);have Dv:=hJ.ne_new bR.wf b0.lo;have nC:=b0.le.g bR.get;have nD:=b0.le.g (bR.k aA hb);have iN:=(fN.keep bR.keep a5).le b0.le;have iS:=(eX.keep bR.keep bc).le b0.le;have iT:=(fO.keep bR.keep aa).le b0.le;have iV:=(fQ.keep bR.keep a9).le b0.le;have iX:=(fR.keep bR.keep aB).le b0.le;have j1:=(fS.keep bR.keep az).le b0.le;have hK:=hJ.le b0.le;have tT:=(an gm wf h5 bR.n bR.keep).trans b0.le;refine sF<|.m (fun sN=>cm (ys:=[num ((step (Q1.getD i 0) c).getD 0)]) rfl rfl cQ cl jq z3 rfl U cQ (fun _ h=>by cases h) iS.own (bG (n:=1) b0.get Z) rfl rfl (by show (_ + _) * 8<=_;simp only [aj,Xq,Xx];(try simp only [Xz,Xq,Xx]);omega) O3 fun A324 dJ ar=>?_);rw [show ([num ((step (Q1.getD i 0) c).getD 0)]:List Value)=cf [(step (Q1.getD i 0) c).getD 0] from rfl,cJ] at ar;obtain ⟨j2,mx⟩:=Fresh.grow iS tT wf ar;have nE:=ar.keep bc nC;have gp:=ar.ne bc b0.wf nC;have eB:=ar.keep bD nD;have d2:=ar.ne bD b0.wf nD;have e3:=aL.appd (show aL bM rv from (aL.symm bO)) iN.own b0.wf ar;have j3:=iN.appd ar (aL.symm bO);have e4:=aL.appd (show aL bM ab from cV) iT.own b0.wf ar;have fT:=iT.appd ar cV;have e5:=aL.appd (show aL bM a2 from cX) iV.own b0.wf ar;have j4:=iV.appd ar cX;have gZ:=aL.appd (show aL bM nv from ch) iX.own b0.wf ar;have jX:=iX.appd ar ch;have h0:=aL.appd (show aL bM (.slice aG aF aD) from cZ) j1.own b0.wf ar;have k0:=j1.appd ar cZ;have h1:=au.appd (show au bM rw from bS) hK b0.wf ar;have eT:=hK.appd ar (show au bM rw from bS);refine sN<|.I Z<|.nil<|AC<|.drawnT (.one 0 (.one 1 (.one 2 (.one 3 (.one 4 (.one 5 (.one 6 (.one 9 (.one 10 (.one 11 (.one 12 (.one 13 (.two 7 14 (.two 8 14 (.one 14 (.one 15 (.one 16 (.one 17 (.one 18 (.one 19 (.one 20 (.one 21 (.done))))))))) (.one 8 (.one 15 (.one 16 (.one 17 (.one 18 (.one 19 (.one 20 (.one 21 (.done)))))))))) (.one 7 (.one 8 (.one 15 (.one 16 (.one 17 (.one 18 (.one 19 (.one 20 (.one 21 (.done))))))))))))))))))))))) mixed Y Y Z ?_;refine cU.q Z Z Z (aK Z) ?_;refine cU.q Z Z Z (aK Z) ?_;refine cU.q Z Z Z (aK Z) ?_;refine cU.q Z Z Z (cW Z) ?_;refine cU.q Z Z Z (ae tk dX U Z) ?_;have lX:=cR (off:=3) eB (show _=some (ab) from rfl);refine cU.q Z Z Z (ah jc Z Z eB Z) ?_;refine cU.q Z Z Z (aK Z) ?_;refine cU.q Z Z Z (aK Z) ?_;refine cU.q Z Z Z (cW Z) ?_;refine cU.q Z Z Z (ae tl dX U Z) ?_;have lY:=cR (off:=4) eB (show _=some (a2) from rfl);refine cU.q Z Z Z (ah jc Z Z eB Z) ?_;refine cU.q Z Z Z (aK Z) ?_;refine cU.both Z Z Z Z Z Z ?_ ?_
   ·refine fun _ _ sP _=>aE (c:=[num ((i:Nat):Int)]) ar.wf rfl (aq cQ cl z3 rfl U U rfl) fun A351 E7 ad=>?_;have Dw:=eT.ne_new ar.wf ad.lo;have he:=ad.le.g nE;have hg:=ad.le.g eB;have fU:=j3.le ad.le;have eY:=fT.le ad.le;have fV:=j4.le ad.le;have fX:=jX.le ad.le;have g0:=k0.le ad.le;have g4:=j2.le ad.le;have eV:=eT.le ad.le;have lZ:=bI ad.le lX;have g7:=bI ad.le lY;have mB:=mx.trans ad.le;refine sP _ _ (bg.list (L:=[(⟨b6,4,none⟩,a2),(⟨b6,3,none⟩,ab)]) Y (bf g7 (bf lZ bX))) ?_;refine cU.both Z Z Z Z Z Z ?_ ?_
    ·refine fun _ _ sQ _=>cm (ys:=[num ((i:Nat):Int)]) rfl rfl cQ cl jq z3 rfl U cQ (fun _ h=>by cases h) eY.own (bG (n:=1) ad.get Z) rfl rfl (by show (_ + _) * 8<=_;simp only [aj,Xq,Xx];(try simp only [Xz,Xq,Xx]);omega) O3 fun A373 Cq aI=>?_;rw [show ([num ((i:Nat):Int)]:List Value)=cf [((i:Nat):Int)] from rfl,cJ] at aI;obtain ⟨pF,tW⟩:=Fresh.grow eY mB wf aI;have v0:=aI.ne aa ad.wf he;have gq:=aI.ne a3 ad.wf hg;have mT:=aL.appd (show aL ab rv from (aL.symm aV)) fU.own ad.wf aI;have mV:=aL.appd (show aL ab a2 from bu) fV.own ad.wf aI;have w6:=aL.appd (show aL ab nv from b9) fX.own ad.wf aI;have w7:=aL.appd (show aL ab (.slice aG aF aD) from bA) g0.own ad.wf aI;have wc:=aL.appd (show aL ab dJ from (aL.symm e4)) g4.own ad.wf aI;have wl:=au.appd (show au ab rw from aP) eV ad.wf aI;have hL:=eV.appd aI (show au ab rw from aP);have m1:=aI.cell a3 g7;refine sQ _ _ (bg.list (L:=[(⟨b6,4,none⟩,a2)]) Y (bf m1 bX)) ?_;refine cU.l Z Z Z (fun _ _ sR _=>aE (c:=[num ((c:Nat):Int)]) aI.wf rfl (aq cQ cl z3 rfl U U rfl) fun A400 E9 aS=>?_);have Dz:=hL.ne_new aI.wf aS.lo;have nH:=aS.le.g (aI.keep aa he);have nJ:=aS.le.g (aI.keep a3 hg);have k1:=(fU.appd aI (aL.symm aV)).le aS.le;have k2:=(fV.appd aI bu).le aS.le;have k3:=(fX.appd aI b9).le aS.le;have k4:=(g0.appd aI bA).le aS.le;have k6:=(g4.appd aI (aL.symm e4)).le aS.le;have k7:=pF.le aS.le;have hM:=hL.le aS.le;refine sR _ _ (bg.list (L:=[(⟨b6,4,none⟩,a2)]) Y (bf (bI aS.le m1) bX)) ?_;refine cU.l Z Z Z (fun _ _ sS _=>cm (ys:=[num ((c:Nat):Int)]) rfl rfl cQ cl jq z3 rfl U cQ (fun _ h=>by cases h) k2.own (bG (n:=1) aS.get Z) rfl rfl (by show (_ + _) * 8<=_;simp only [aj,Xq,Xx];(try simp only [Xz,Xq,Xx]);omega) O3 fun A421 EV b2=>?_);rw [show ([num ((c:Nat):Int)]:List Value)=cf [((c:Nat):Int)] from rfl,cJ] at b2;obtain ⟨pI,tY⟩:=Fresh.grow k2 (tW.trans aS.le) wf b2;have v1:=b2.ne a9 aS.wf nH;have gs:=b2.ne ai aS.wf nJ;have mX:=aL.appd (show aL a2 rv from (aL.symm aY)) k1.own aS.wf b2;have wm:=aL.appd (show aL a2 nv from ba) k3.own aS.wf b2;have wp:=aL.appd (show aL a2 (.slice aG aF aD) from bB) k4.own aS.wf b2;have wv:=aL.appd (show aL a2 dJ from (aL.symm e5)) k6.own aS.wf b2;have wy:=aL.appd (show aL a2 Cq from (aL.symm mV)) k7.own aS.wf b2;have k9:=k7.appd b2 (aL.symm mV);have wz:=au.appd (show au a2 rw from aR) hM aS.wf b2;have oQ:=hM.appd b2 (show au a2 rw from aR);refine sS _ _ (bg.none Y) ?_;refine cU.q Z Z Z (cW Z) ?_;refine cU.q Z Z Z (ae tk dX U Z) ?_;obtain ⟨gS,gf,fD,BU,_⟩:=k9.own.slice;subst BU;refine cU.l Z Z Z (fun _ _ sT _=>aU (cs:=[.slice gS gf fD]) (c':=[num ((k:Nat):Int),.slice aG aF aD,nv,.slice gS gf fD,a2]) b2.wf rfl rfl rfl rfl dX (b2.keep ai nJ) G rfl rfl fun A447 bV=>?_);have pJ:=(k1.appd b2 (aL.symm aY)).keep bV.keep a0;have pL:=(k3.appd b2 ba).keep bV.keep a4;have pP:=(k4.appd b2 bB).keep bV.keep a1;have pS:=(k6.appd b2 (aL.symm e5)).keep bV.keep d2;have kc:=pI.keep bV.keep gs;have oR:=oQ.keep bV.keep a8;refine sT _ _ (bg.none Y) ?_;refine cU.q Z Z Z (cW Z) ?_;refine cU.q Z Z Z (ae tl dX U Z) ?_;obtain ⟨hv,hn,h7,BV,_⟩:=kc.own.slice;subst BV;refine cU.l Z Z Z (fun _ _ sV _=>aU (cs:=[.slice hv hn h7]) (c':=[num ((k:Nat):Int),.slice aG aF aD,nv,.slice gS gf fD,.slice hv hn h7]) bV.wf rfl rfl rfl rfl dX bV.get G rfl rfl fun A460 bY=>?_);have AD:=bY.k aA.symm (bV.k aA.symm (b2.keep a9 nH));have pV:=pJ.keep bY.keep a0;have pW:=pL.keep bY.keep a4;have q0:=pP.keep bY.keep a1;have q1:=pS.keep bY.keep d2;have q2:=(k9.keep bV.keep gq).keep bY.keep gq;have q3:=kc.keep bY.keep gs;have oS:=oR.keep bY.keep a8;refine sV _ _ (bg.none Y) ?_;refine cU.done ?_;refine hd<|.region<|.J Z<|.J Z<|.J Z ?_;obtain ⟨ev,EA,El,Ch,DW,di,ok,z2,F4,BC,EN,Br⟩:=pV.at1 (x:=c) O4;rw [aj] at ok;refine Ops.p (al cQ cl Z di Z (by rw [ok];(try simp only [XQ]);omega))<|.m (fun sZ=>aU (off:=c) (c':=Ch.set c (num ((Q1.length:Nat):Int))) bY.wf rfl (by simp) rfl rfl cl z2 (by show c + 1<=_;omega) rfl rfl fun A473 cC=>?_);have AF:=cC.k (fun q=>a5 (by rw [di];exact Xk some q.symm)) AD;have AG:=cC.k (fun q=>a0 (by rw [di];exact Xk some q.symm)) bY.get;have q4:=pW.keep cC.keep (aC ev (by rw [di];rfl));have q5:=q0.keep cC.keep (aZ ev (by rw [di];rfl));have q6:=q1.keep cC.keep ((aL.symm e3) ev (by rw [di];rfl));have q7:=q2.keep cC.keep ((aL.symm mT) ev (by rw [di];rfl));have q8:=q3.keep cC.keep ((aL.symm mX) ev (by rw [di];rfl));have oV:=oS.keep cC.keep (fun r hr=>ag r hr ev (by rw [di];rfl));have kl:=Br (num ((Q1.length:Nat):Int)) A473 cC;rw [dp] at kl;have tZ:=an (an (an tY wf ct bV.n bV.keep) wf ct bY.n bY.keep) wf BC cC.n cC.keep;refine sZ<|.nil<|f0<|.region<|.p (bk (b:=1) Z Z O)<|.J Z<|.nil ?_;exact ⟨⟨c + 1,r ++ [(Q1.length:Int)],(o.set c ((-1))).set c (((Q1.length:Nat):Int)),Q1 ++ [(step (Q1.getD i 0) c).getD 0],fi ++ [((i:Nat):Int)],bl ++ [((c:Nat):Int)],eS,fL,rv,dJ,.slice gS gf fD,.slice hv hn h7⟩,uF Z Z Z Z Z Z Z Z Z Z Z,Z,⟨⟨by omega,AN hexp (by rw [<- hgi];exact lM ‹_›) ‹_›,by simp;omega,by rw [ho,<- hrl];exact th O,ge,g6,f3,by simp;omega,by simp;omega,hpre.trans (SZ _ _)⟩,tZ,kl,q6,q7,q8,q4,q5,AF,AG,a5,gp,v0,v1,aB,az,a0,d2,gq,gs,a4,a1,(aL.symm e3),(aL.symm mT),(aL.symm mX),aC,aZ,(aL.symm wc),(aL.symm wv),gZ,h0,(aL.symm wy),w6,w7,wm,wp,bP,oV,bb,a8,ag,h1,wl,wz,bC,bL⟩,O1⟩
    refine fun _ _ t0 _=>aE (c:=[num ((c:Nat):Int)]) ad.wf rfl (aq cQ cl z3 rfl U U rfl) fun A487 Ea ap=>?_;have DD:=eV.ne_new ad.wf ap.lo;have nK:=ap.le.g he;have nL:=ap.le.g hg;have AI:=ap.le.g ad.get;have km:=fU.le ap.le;have kp:=eY.le ap.le;have kv:=fV.le ap.le;have kC:=fX.le ap.le;have kD:=g0.le ap.le;have kK:=g4.le ap.le;have hN:=eV.le ap.le;have m2:=bI ap.le g7;refine t0 _ _ (bg.list (L:=[(⟨b6,4,none⟩,a2),(⟨b6,3,none⟩,ab)]) Y (bf m2 (bf (bI ap.le lZ) bX))) ?_;refine cU.l Z Z Z (fun _ _ t1 _=>cm (ys:=[num ((i:Nat):Int)]) rfl rfl cQ cl jq z3 rfl U cQ (fun _ h=>by cases h) kp.own (bG (n:=1) AI Z) rfl rfl (by show (_ + _) * 8<=_;simp only [aj,Xq,Xx];(try simp only [Xz,Xq,Xx]);omega) O3 fun A510 Cs a6=>?_);rw [show ([num ((i:Nat):Int)]:List Value)=cf [((i:Nat):Int)] from rfl,cJ] at a6;obtain ⟨kL,u0⟩:=Fresh.grow kp (mB.trans ap.le) wf a6;have nM:=a6.keep aa nK;have v2:=a6.ne aa ap.wf nK;have nN:=a6.keep a3 nL;have gA:=a6.ne a3 ap.wf nL;have AP:=a6.keep (eY.own.ne_new ad.wf ap.lo) ap.get;have n1:=aL.appd (show aL ab rv from (aL.symm aV)) km.own ap.wf a6;have kM:=km.appd a6 (aL.symm aV);have n3:=aL.appd (show aL ab a2 from bu) kv.own ap.wf a6;have kP:=kv.appd a6 bu;have wC:=aL.appd (show aL ab nv from b9) kC.own ap.wf a6;have kT:=kC.appd a6 b9;have wF:=aL.appd (show aL ab (.slice aG aF aD) from bA) kD.own ap.wf a6;have kV:=kD.appd a6 bA;have wL:=aL.appd (show aL ab dJ from (aL.symm e4)) kK.own ap.wf a6;have l0:=kK.appd a6 (aL.symm e4);have wM:=au.appd (show au ab rw from aP) hN ap.wf a6;have hO:=hN.appd a6 (show au ab rw from aP);refine t1 _ _ (bg.list (L:=[(⟨b6,4,none⟩,a2)]) Y (bf (a6.cell a3 m2) bX)) ?_;refine cU.l Z Z Z (fun _ _ t2 _=>cm (ys:=[num ((c:Nat):Int)]) rfl rfl cQ cl jq z3 rfl U cQ (fun _ h=>by cases h) kP.own (bG (n:=1) AP Z) rfl rfl (by show (_ + _) * 8<=_;simp only [aj,Xq,Xx];(try simp only [Xz,Xq,Xx]);omega) O3 fun A538 EX b3=>?_);rw [show ([num ((c:Nat):Int)]:List Value)=cf [((c:Nat):Int)] from rfl,cJ] at b3;obtain ⟨q9,u1⟩:=Fresh.grow kP u0 wf b3;have v3:=b3.ne a9 a6.wf nM;have gC:=b3.ne ai a6.wf nN;have n4:=aL.appd (show aL a2 rv from (aL.symm aY)) kM.own a6.wf b3;have wP:=aL.appd (show aL a2 nv from ba) kT.own a6.wf b3;have wS:=aL.appd (show aL a2 (.slice aG aF aD) from bB) kV.own a6.wf b3;have wV:=aL.appd (show aL a2 dJ from (aL.symm e5)) l0.own a6.wf b3;have wY:=aL.appd (show aL a2 Cs from (aL.symm n3)) kL.own a6.wf b3;have l1:=kL.appd b3 (aL.symm n3);have wZ:=au.appd (show au a2 rw from aR) hO a6.wf b3;have oW:=hO.appd b3 (show au a2 rw from aR);refine t2 _ _ (bg.none Y) ?_;refine cU.q Z Z Z (cW Z) ?_;refine cU.q Z Z Z (ae tk dX U Z) ?_;obtain ⟨gX,gg,fE,BY,_⟩:=l1.own.slice;subst BY;refine cU.l Z Z Z (fun _ _ t3 _=>aU (cs:=[.slice gX gg fE]) (c':=[num ((k:Nat):Int),.slice aG aF aD,nv,.slice gX gg fE,a2]) b3.wf rfl rfl rfl rfl dX (b3.keep ai nN) G rfl rfl fun A564 c0=>?_);have qa:=(kM.appd b3 (aL.symm aY)).keep c0.keep a0;have qb:=(kT.appd b3 ba).keep c0.keep a4;have qd:=(kV.appd b3 bB).keep c0.keep a1;have qp:=(l0.appd b3 (aL.symm e5)).keep c0.keep d2;have l4:=q9.keep c0.keep gC;have oX:=oW.keep c0.keep a8;refine t3 _ _ (bg.none Y) ?_;refine cU.q Z Z Z (cW Z) ?_;refine cU.q Z Z Z (ae tl dX U Z) ?_;obtain ⟨hw,hp,h8,C0,_⟩:=l4.own.slice;subst C0;refine cU.l Z Z Z (fun _ _ t4 _=>aU (cs:=[.slice hw hp h8]) (c':=[num ((k:Nat):Int),.slice aG aF aD,nv,.slice gX gg fE,.slice hw hp h8]) c0.wf rfl rfl rfl rfl dX c0.get G rfl rfl fun A577 c3=>?_);have AR:=c3.k aA.symm (c0.k aA.symm (b3.keep a9 nM));have qr:=qa.keep c3.keep a0;have qu:=qb.keep c3.keep a4;have qA:=qd.keep c3.keep a1;have qB:=qp.keep c3.keep d2;have qD:=(l1.keep c0.keep gA).keep c3.keep gA;have qN:=l4.keep c3.keep gC;have oY:=oX.keep c3.keep a8;refine t4 _ _ (bg.none Y) ?_;refine cU.done ?_;refine hd<|.region<|.J Z<|.J Z<|.J Z ?_;obtain ⟨ex,EB,Em,Ck,DZ,dj,ov,zi,F6,BD,EQ,Bs⟩:=qr.at1 (x:=c) O4;rw [aj] at ov;refine Ops.p (al cQ cl Z dj Z (by rw [ov];(try simp only [XQ]);omega))<|.m (fun t5=>aU (off:=c) (c':=Ck.set c (num ((Q1.length:Nat):Int))) c3.wf rfl (by simp) rfl rfl cl zi (by show c + 1<=_;omega) rfl rfl fun A590 cH=>?_);have AS:=cH.k (fun q=>a5 (by rw [dj];exact Xk some q.symm)) AR;have AT:=cH.k (fun q=>a0 (by rw [dj];exact Xk some q.symm)) c3.get;have qP:=qu.keep cH.keep (aC ex (by rw [dj];rfl));have qR:=qA.keep cH.keep (aZ ex (by rw [dj];rfl));have qU:=qB.keep cH.keep ((aL.symm e3) ex (by rw [dj];rfl));have qV:=qD.keep cH.keep ((aL.symm n1) ex (by rw [dj];rfl));have r1:=qN.keep cH.keep ((aL.symm n4) ex (by rw [dj];rfl));have oZ:=oY.keep cH.keep (fun r hr=>ag r hr ex (by rw [dj];rfl));have l6:=Bs (num ((Q1.length:Nat):Int)) A590 cH;rw [dp] at l6;have u8:=an (an (an u1 wf ct c0.n c0.keep) wf ct c3.n c3.keep) wf BD cH.n cH.keep;refine t5<|.nil<|f0<|.region<|.p (bk (b:=1) Z Z O)<|.J Z<|.nil ?_;exact ⟨⟨c + 1,r ++ [(Q1.length:Int)],(o.set c ((-1))).set c (((Q1.length:Nat):Int)),Q1 ++ [(step (Q1.getD i 0) c).getD 0],fi ++ [((i:Nat):Int)],bl ++ [((c:Nat):Int)],eS,fL,rv,dJ,.slice gX gg fE,.slice hw hp h8⟩,uF Z Z Z Z Z Z Z Z Z Z Z,Z,⟨⟨by omega,AN hexp (by rw [<- hgi];exact lM ‹_›) ‹_›,by simp;omega,by rw [ho,<- hrl];exact th O,ge,g6,f3,by simp;omega,by simp;omega,hpre.trans (SZ _ _)⟩,u8,l6,qU,qV,r1,qP,qR,AS,AT,a5,gp,v2,v3,aB,az,a0,d2,gA,gC,a4,a1,(aL.symm e3),(aL.symm n1),(aL.symm n4),aC,aZ,(aL.symm wL),(aL.symm wV),gZ,h0,(aL.symm wY),wC,wF,wP,wS,bP,oZ,bb,a8,ag,h1,wM,wZ,bC,bL⟩,O1⟩
   refine fun _ _ t6 _=>aE (c:=[num ((c:Nat):Int)]) ar.wf rfl (aq cQ cl z3 rfl U U rfl) fun A604 Eb br=>?_;have DG:=eT.ne_new ar.wf br.lo;have hP:=eT.le br.le;have m3:=bI br.le lX;have m6:=bI br.le lY;refine t6 _ _ (bg.list (L:=[(⟨b6,4,none⟩,a2),(⟨b6,3,none⟩,ab)]) Y (bf m6 (bf m3 bX))) ?_;refine cU.l Z Z Z (fun _ _ t7 _=>aE (c:=[num ((i:Nat):Int)]) br.wf rfl (aq cQ cl z3 rfl U U rfl) fun A627 Ec ay=>?_);have DI:=hP.ne_new br.wf ay.lo;have nO:=ay.le.g (br.le.g nE);have nQ:=ay.le.g (br.le.g eB);have l7:=(j3.le br.le).le ay.le;have l9:=(fT.le br.le).le ay.le;have la:=(j4.le br.le).le ay.le;have lb:=(jX.le br.le).le ay.le;have lc:=(k0.le br.le).le ay.le;have li:=(j2.le br.le).le ay.le;have hQ:=hP.le ay.le;have mb:=bI ay.le m6;have ub:=(mx.trans br.le).trans ay.le;refine t7 _ _ (bg.list (L:=[(⟨b6,4,none⟩,a2),(⟨b6,3,none⟩,ab)]) Y (bf mb (bf (bI ay.le m3) bX))) ?_;refine cU.l Z Z Z (fun _ _ t8 _=>cm (ys:=[num ((i:Nat):Int)]) rfl rfl cQ cl jq z3 rfl U cQ (fun _ h=>by cases h) l9.own (bG (n:=1) ay.get Z) rfl rfl (by show (_ + _) * 8<=_;simp only [aj,Xq,Xx];(try simp only [Xz,Xq,Xx]);omega) O3 fun A650 Ct a7=>?_);rw [show ([num ((i:Nat):Int)]:List Value)=cf [((i:Nat):Int)] from rfl,cJ] at a7;obtain ⟨lj,ui⟩:=Fresh.grow l9 ub wf a7;have nT:=a7.keep aa nO;have v4:=a7.ne aa ay.wf nO;have nV:=a7.keep a3 nQ;have gD:=a7.ne a3 ay.wf nQ;have AV:=a7.keep (fT.own.ne_new ar.wf br.lo) (ay.le.g br.get);have n6:=aL.appd (show aL ab rv from (aL.symm aV)) l7.own ay.wf a7;have lp:=l7.appd a7 (aL.symm aV);have n7:=aL.appd (show aL ab a2 from bu) la.own ay.wf a7;have lt:=la.appd a7 bu;have x0:=aL.appd (show aL ab nv from b9) lb.own ay.wf a7;have lA:=lb.appd a7 b9;have x1:=aL.appd (show aL ab (.slice aG aF aD) from bA) lc.own ay.wf a7;have lB:=lc.appd a7 bA;have x2:=aL.appd (show aL ab dJ from (aL.symm e4)) li.own ay.wf a7;have lC:=li.appd a7 (aL.symm e4);have x3:=au.appd (show au ab rw from aP) hQ ay.wf a7;have hR:=hQ.appd a7 (show au ab rw from aP);refine t8 _ _ (bg.list (L:=[(⟨b6,4,none⟩,a2)]) Y (bf (a7.cell a3 mb) bX)) ?_;refine cU.l Z Z Z (fun _ _ t9 _=>cm (ys:=[num ((c:Nat):Int)]) rfl rfl cQ cl jq z3 rfl U cQ (fun _ h=>by cases h) lt.own (bG (n:=1) AV Z) rfl rfl (by show (_ + _) * 8<=_;simp only [aj,Xq,Xx];(try simp only [Xz,Xq,Xx]);omega) O3 fun A678 EY b5=>?_);rw [show ([num ((c:Nat):Int)]:List Value)=cf [((c:Nat):Int)] from rfl,cJ] at b5;obtain ⟨r2,up⟩:=Fresh.grow lt ui wf b5;have v5:=b5.ne a9 a7.wf nT;have gE:=b5.ne ai a7.wf nV;have n9:=aL.appd (show aL a2 rv from (aL.symm aY)) lp.own a7.wf b5;have x4:=aL.appd (show aL a2 nv from ba) lA.own a7.wf b5;have x5:=aL.appd (show aL a2 (.slice aG aF aD) from bB) lB.own a7.wf b5;have x6:=aL.appd (show aL a2 dJ from (aL.symm e5)) lC.own a7.wf b5;have x7:=aL.appd (show aL a2 Ct from (aL.symm n7)) lj.own a7.wf b5;have lE:=lj.appd b5 (aL.symm n7);have x8:=au.appd (show au a2 rw from aR) hR a7.wf b5;have p0:=hR.appd b5 (show au a2 rw from aR);refine t9 _ _ (bg.none Y) ?_;refine cU.q Z Z Z (cW Z) ?_;refine cU.q Z Z Z (ae tk dX U Z) ?_;obtain ⟨gY,gl,fI,C1,_⟩:=lE.own.slice;subst C1;refine cU.l Z Z Z (fun _ _ tb _=>aU (cs:=[.slice gY gl fI]) (c':=[num ((k:Nat):Int),.slice aG aF aD,nv,.slice gY gl fI,a2]) b5.wf rfl rfl rfl rfl dX (b5.keep ai nV) G rfl rfl fun A704 c4=>?_);have r3:=(lp.appd b5 (aL.symm aY)).keep c4.keep a0;have r4:=(lA.appd b5 ba).keep c4.keep a4;have r6:=(lB.appd b5 bB).keep c4.keep a1;have r7:=(lC.appd b5 (aL.symm e5)).keep c4.keep d2;have lF:=r2.keep c4.keep gE;have p3:=p0.keep c4.keep a8;refine tb _ _ (bg.none Y) ?_;refine cU.q Z Z Z (cW Z) ?_;refine cU.q Z Z Z (ae tl dX U Z) ?_;obtain ⟨hx,hs,h9,C2,_⟩:=lF.own.slice;subst C2;refine cU.l Z Z Z (fun _ _ ti _=>aU (cs:=[.slice hx hs h9]) (c':=[num ((k:Nat):Int),.slice aG aF aD,nv,.slice gY gl fI,.slice hx hs h9]) c4.wf rfl rfl rfl rfl dX c4.get G rfl rfl fun A717 c7=>?_);have AY:=c7.k aA.symm (c4.k aA.symm (b5.keep a9 nT));have r9:=r3.keep c7.keep a0;have ri:=r4.keep c7.keep a4;have rj:=r6.keep c7.keep a1;have rr:=r7.keep c7.keep d2;have rI:=(lE.keep c4.keep gD).keep c7.keep gD;have rJ:=lF.keep c7.keep gE;have p4:=p3.keep c7.keep a8;refine ti _ _ (bg.none Y) ?_;refine cU.done ?_;refine hd<|.region<|.J Z<|.J Z<|.J Z ?_;obtain ⟨ey,EC,En,Cp,E2,dv,ow,zs,F7,BL,ER,Bt⟩:=r9.at1 (x:=c) O4;rw [aj] at ow;refine Ops.p (al cQ cl Z dv Z (by rw [ow];(try simp only [XQ]);omega))<|.m (fun tj=>aU (off:=c) (c':=Cp.set c (num ((Q1.length:Nat):Int))) c7.wf rfl (by simp) rfl rfl cl zs (by show c + 1<=_;omega) rfl rfl fun A730 cK=>?_);have AZ:=cK.k (fun q=>a5 (by rw [dv];exact Xk some q.symm)) AY;have B0:=cK.k (fun q=>a0 (by rw [dv];exact Xk some q.symm)) c7.get;have rR:=ri.keep cK.keep (aC ey (by rw [dv];rfl));have rS:=rj.keep cK.keep (aZ ey (by rw [dv];rfl));have rT:=rr.keep cK.keep ((aL.symm e3) ey (by rw [dv];rfl));have rV:=rI.keep cK.keep ((aL.symm n6) ey (by rw [dv];rfl));have rW:=rJ.keep cK.keep ((aL.symm n9) ey (by rw [dv];rfl));have p5:=p4.keep cK.keep (fun r hr=>ag r hr ey (by rw [dv];rfl));have lI:=Bt (num ((Q1.length:Nat):Int)) A730 cK;rw [dp] at lI;have us:=an (an (an up wf ct c4.n c4.keep) wf ct c7.n c7.keep) wf BL cK.n cK.keep;refine tj<|.nil<|f0<|.region<|.p (bk (b:=1) Z Z O)<|.J Z<|.nil ?_;exact ⟨⟨c + 1,r ++ [(Q1.length:Int)],(o.set c ((-1))).set c (((Q1.length:Nat):Int)),Q1 ++ [(step (Q1.getD i 0) c).getD 0],fi ++ [((i:Nat):Int)],bl ++ [((c:Nat):Int)],eS,fL,rv,dJ,.slice gY gl fI,.slice hx hs h9⟩,uF Z Z Z Z Z Z Z Z Z Z Z,Z,⟨⟨by omega,AN hexp (by rw [<- hgi];exact lM ‹_›) ‹_›,by simp;omega,by rw [ho,<- hrl];exact th O,ge,g6,f3,by simp;omega,by simp;omega,hpre.trans (SZ _ _)⟩,us,lI,rT,rV,rW,rR,rS,AZ,B0,a5,gp,v4,v5,aB,az,a0,d2,gD,gE,a4,a1,(aL.symm e3),(aL.symm n6),(aL.symm n9),aC,aZ,(aL.symm x2),(aL.symm x6),gZ,h0,(aL.symm x7),x0,x1,x4,x5,bP,p5,bb,a8,ag,h1,x3,x8,bC,bL⟩,O1⟩
  refine ak.exit<|A5<|.region<|.J Z<|.J Z<|.p (cW Z)<|.p (ae rn fC U Z)<|.p (ah ie Z Z ea Z)<|.J Z ?_;obtain ⟨eK,eE,ez,C3,_⟩:=dw.own.slice;subst C3;refine Ops.m (fun tt=>aE (c:=[.slice eK eE ez]) eZ rfl (aq jg dX Gi rfl U U rfl) fun A744 Ee aT=>?_);have v8:=e9.ne_new eZ aT.lo;have o2:=aT.le.g eR;have o3:=aT.le.g ea;have lJ:=dw.le aT.le;have lK:=eQ.le aT.le;have lO:=eN.le aT.le;have lP:=eM.le aT.le;have lS:=eL.le aT.le;have lT:=e6.le aT.le;have hS:=e9.le aT.le;refine tt<|.m (fun tw=>cm (ys:=[.slice eK eE ez]) rfl rfl jg dX xb Gi rfl U jg (fun _ h=>by cases h) lS.own (bG (n:=1) aT.get Z) rfl rfl (by show (_ + _) * 24<=_;simp only [bw,Xq,Xx];(try simp only [Xz,Xq,Xx]);omega) OF fun A765 EZ b7=>?_);rw [show ([.slice eK eE ez]:List Value)=dx [Value.slice eK eE ez] from rfl,lx] at b7;obtain ⟨lV,uB⟩:=Fresh.grow lS (mt.trans aT.le) wf b7;have v6:=b7.ne aB aT.wf o2;have mK:=b7.ne a4 aT.wf o3;have x9:=aL.appd (show aL nv bM from (aL.symm ch)) lK.own aT.wf b7;have xa:=aL.appd (show aL nv ab from (aL.symm b9)) lO.own aT.wf b7;have xf:=aL.appd (show aL nv a2 from (aL.symm ba)) lP.own aT.wf b7;have xn:=aL.appd (show aL nv (.slice aG aF aD) from bP) lT.own aT.wf b7;have p6:=hS.appd b7 (show au nv rw from bC);have p7:=p6.snoc (lJ.appd b7 (aL.symm aC)) ag;have v9:=bb.snoc a5;have mM:=a8.snoc a0;have DJ:=v8.snoc (dw.own.ne_new eZ aT.lo);have xr:=bS.snoc (aL.symm bO);have xt:=aP.snoc (aL.symm aV);have xv:=aR.snoc (aL.symm aY);have xA:=bL.snoc (aL.symm aZ);have xF:=(au.appd (show au nv rw from bC) hS aT.wf b7).snoc (aL.appd (show aL nv (.slice eK eE ez) from (aL.symm aC)) lJ.own aT.wf b7);refine tw<|.p (cW Z)<|.p (ae rn fC U Z) ?_;obtain ⟨hy,ht,ha,C4,_⟩:=lV.own.slice;subst C4;refine Ops.m (fun tz=>aU (cs:=[.slice hy ht ha]) (c':=[num ((k:Nat):Int),.slice aG aF aD,.slice hy ht ha,ab,a2]) b7.wf rfl rfl rfl rfl fC (b7.keep a4 o3) G rfl rfl fun A799 cS=>?_);have B2:=cS.k aA.symm (b7.keep aB o2);have s1:=(lK.appd b7 (aL.symm ch)).keep cS.keep bD;have s2:=(lO.appd b7 (aL.symm b9)).keep cS.keep a3;have s3:=(lP.appd b7 (aL.symm ba)).keep cS.keep ai;have s4:=(lT.appd b7 bP).keep cS.keep a1;have s5:=lV.keep cS.keep mK;have p8:=p7.keep cS.keep mM;have uI:=an uB wf ct cS.n cS.keep;refine tz<|.nil ?_;have fmR:=kw p8 (show R ++ [o]=R ++ [r] from by rw [ho,show k - c=0 by omega];simp);refine D1<|.region<|.J Z<|.p (bk (b:=1) Z Z O)<|.I Z<|.nil ?_;exact ⟨⟨i + 1,Q1,ac ++ [accf (Q.getD i 0)],fi,bl,es,ck,f - 1,bM,.slice aG aF aD,.slice hy ht ha,ab,a2,rw ++ [Value.slice eK eE ez],R ++ [r]⟩,un Z Z Z Z Z Z Z Z,Z,⟨⟨by omega,by rw [hac,Ro hpre (show i + 1<=Q.length by omega)];exact oo (z:=(0:Int)) accf O,eC,f1,f2,Dp O O hex (by rw [<- show c=k by omega];exact hexp),by omega,hj,hh,by simp;omega⟩,uI,s1,s4,s5,s2,s3,B2,cS.get,bc,az,v6,aa,a9,bD,a1,mK,a3,ai,cZ,(aL.symm x9),cV,cX,(aL.symm xn),(aL.symm bA),(aL.symm bB),xa,xf,bu,fmR,v9,mM,xr,xA,xF,xt,xv⟩,O1⟩
 refine ak.exit<|CS<|.sq fun B3=>.region<|.J Z<|.I Z<|.I Z<|.nil<|B3<|.rt (by exact aH Z (⟨b6,_,_,_,_,_,Z,hu,oF,e2,ct,ci fo (Xk bQ (by rw [hac,Vw O,<- hex,wU O O])),fq,kw fr (by rw [<- hex,wU O O]),dG,dI,dz,ec,dD,ee⟩))
theorem jA:dM prog 62=some true:=by kernel_rfl
theorem gr:dy prog 62=some 4:=by kernel_rfl
theorem Tu (s:Int) (c:Nat) (b cap:Nat) (rw:Bool) (k:Nat) (acc:List Bool) (L:List (List Int)) (av nv:Value) (rows:List Value) (A:AH) (hb:A.get b=some (.row rw [num (k:Int),num ((0:Nat):Int),av,nv] cap)) (hok:n0 k acc L) (hav:bz A 1 av (bQ acc)) (hnv:bz A 1 nv (dx rows)) (hrl:rows.length=L.length) (hF:∀ i,i < L.length->bz A 1 (rows.getD i undef) (cf (L.getD i []))) (hs:s < L.length) (hc:c < k):bH prog 150 #[num (s),num ((c:Nat):Int),.pointer (some ⟨b,0,none⟩)] A (fun v A1=>v=.tuple #[num ((kW L s c).getD 0),.bool (kW L s c).isSome]/\A.le A1/\A1.wf):=by
 refine aN (e:=[(0,num (s)),(1,num ((c:Nat):Int)),(2,.pointer (some ⟨b,0,none⟩))]) (args:=[num (s),num ((c:Nat):Int),.pointer (some ⟨b,0,none⟩)]) call150 func150 Z results150 ntmps150 Z Z Z (fun wf=>?_);have h:=AH.le.refl A;refine ak.sq fun h2=>.region<|.I Z<|.I Z<|.nil<|h2<|.sq fun h4=>.region<|.p (ao jA gr Z Z (h.g hb) Z)<|.J Z ?_;refine Ops.J Z<|.m (fun a0=>ax Z (Tc k acc L av nv rows s c A hok (hav.le h) (hnv.le h) hrl (fun i hi=>(hF i hi).le h) O O) ?_);rintro v6 A7 ⟨rfl,V,X⟩;refine a0<|.I Z<|.I Z<|.nil<|h4<|.rt (by exact aH Z (⟨Z,(h.trans V),X⟩))
theorem TA (s:Int) (b cap:Nat) (rw:Bool) (k:Nat) (acc:List Bool) (L:List (List Int)) (av nv:Value) (rows:List Value) (A:AH) (hb:A.get b=some (.row rw [num (k:Int),num ((0:Nat):Int),av,nv] cap)) (hok:n0 k acc L) (hav:bz A 1 av (bQ acc)) (hnv:bz A 1 nv (dx rows)) (hrl:rows.length=L.length) (hF:∀ i,i < L.length->bz A 1 (rows.getD i undef) (cf (L.getD i []))) (hs:s < L.length):bH prog 152 #[num (s),.pointer (some ⟨b,0,none⟩)] A (fun v A1=>v=.bool (decide (0<=s) && acc.getD s.toNat false)/\A.le A1/\A1.wf):=by
 refine aN (e:=[(0,num (s)),(1,.pointer (some ⟨b,0,none⟩))]) (args:=[num (s),.pointer (some ⟨b,0,none⟩)]) call152 func152 Z results152 ntmps152 Z Z Z (fun wf=>?_);have h:=AH.le.refl A;obtain ⟨⟨a2,a3⟩,hal,⟨a0,a1⟩,hrow,hval⟩:=hok;refine ak.sq fun h2=>.region<|.I Z<|.nil<|h2<|.sq fun h4=>.region<|.J Z<|.p (lu Z Z)<|.J Z ?_;refine Ops.part (t:=6) Z (fun p5=>?_) (fun p5=>?_)
 ·refine Ops.on Z Z<|.p (ae ip gV U Z)<|.on Z Z<|.p (ah io Z Z (h.g hb) Z)<|.on Z Z<|.J Z<|.on Z Z ?_;obtain ⟨b6,f6,a5,r6,a4,n6,k6,e6,l6,g6,X,V⟩:=bz.at (i:=(s).toNat) (hav.le h) Oj O;refine Ops.p (al jQ kN Z e6 (go O) l6)<|.on Z Z<|.p (ah um Z Z g6 ((cb V).trans (dC O)))<|.p (aJ Z Z)<|.I Z<|.nil<|h4<|.rt (by exact aH Z (⟨by (rw [Vv O];rfl),h,wf⟩))
 refine Ops.off Z Z Z Z<|.off Z Z Z Z<|.off Z Z Z Z<|.off Z Z Z Z<|.off Z Z Z Z<|.p (aO Z Z)<|.I Z<|.nil<|h4<|.rt (by exact aH Z (⟨by (rw [Xv O];rfl),h,wf⟩))
theorem XD (k:Nat) (acc:List Bool) (L:List (List Int)) (av nv:Value) (rows:List Value) (A:AH) (hok:n0 k acc L) (hav:bz A 1 av (bQ acc)) (hnv:bz A 1 nv (dx rows)) (hrl:rows.length=L.length) (hF:∀ i,i < L.length->bz A 1 (rows.getD i undef) (cf (L.getD i []))):bH prog 118 #[.agg #[num ((k:Nat):Int),num ((0:Nat):Int),av,nv]] A (fun v A1=>∃ b av2 nv2 fv bv rows2,v=.pointer (some ⟨b,0,none⟩)/\A.le A1/\A1.wf/\A1.get b=some (.row true [num (k:Int),av2,nv2,fv,bv] 5)/\A.get b=none/\Fresh A A1 av2 1 (bQ (rg k acc L))/\Fresh A A1 nv2 1 (dx rows2)/\iZ A A1 rows2 (gH k L).2/\blk av2 ≠ some b/\blk nv2 ≠ some b/\cu rows2 b/\aL av2 nv2/\au av2 rows2/\au nv2 rows2):=by
 refine aN (e:=[(0,.agg #[num ((k:Nat):Int),num ((0:Nat):Int),av,nv])]) (args:=[.agg #[num ((k:Nat):Int),num ((0:Nat):Int),av,nv]]) call118 func118 Z results118 ntmps118 Z Z Z (fun wf=>?_);have aP:=AH.le.refl A;have a1:=hok;obtain ⟨⟨b0,b1⟩,hal,⟨aY,aZ⟩,hrow,hval⟩:=hok;refine ak.sq fun h2=>.region<|.m (fun aI=>dQ wf rfl rfl fun A5 b4 X=>?_);have a0:=aP.trans X.le;refine aI<|.I Z<|.nil<|h2<|.sq fun h9=>.drawn [0,1,2,3,4,5,6,8,9,7,10,11,12,13,14,15] mixed Y Y Z<|.p Z (ae jk cl U Z) ?_;have ap:=cR (off:=0) X.get (show _=some (num ((k:Nat):Int)) from rfl);refine DOps.p Z (ah dK Z Z X.get Z)<|.p Z (ae ip gV U Z) ?_;have ar:=cR (off:=2) X.get (show _=some (av) from rfl);refine DOps.p Z (ah io Z Z X.get Z)<|.p Z (bx (n:=acc.length) jQ Z (hav.le a0) O (fH _))<|.p Z (bk (b:=2) Z Z O)<|.p Z (ao jA gr Z Z X.get Z)<|.p Z (nu Z Z)<|.p Z (nu Z Z)<|.m Z (fun aA=>ax Z (Td k acc L av nv rows A5 a1 (hav.le a0) (hnv.le a0) hrl (fun i hi=>(hF i hi).le a0)) ?_);rintro b2 A18 ⟨rfl,V,aV⟩;have ai:=V.g X.get;have ay:=bI V ap;have az:=bI V ar;have h:=a0.trans V;refine aA (bg.list (L:=[(⟨b4,2,none⟩,av),(⟨b4,0,none⟩,num ((k:Nat):Int))]) Y (bf az (bf ay bX)))<|.m Z (fun aB=>ax Z (zP k (acc.length + 2) (L.length + 1) (L.length + 2) (((0:Nat):Int)) 150 152 #[.pointer (some ⟨b4,0,none⟩)] #[.pointer (some ⟨b4,0,none⟩)] (kW L) (fun s=>decide (0<=s) && acc.getD s.toNat false) (fun q=>-1<=q/\q < (L.length:Int)) A18 O ⟨by omega,by omega,by omega⟩ ⟨by omega,by omega⟩ (fun q c t hq hc hs=>by simp only [kW,Option.some.injEq] at hs;subst hs;split;exact ⟨by omega,by omega⟩;have:=hval q.toNat c O hc;exact ⟨by omega,by omega⟩) (fun Q hn hQ=>mW hn hQ) (fun q c B hq hc le wfB=>Tu q c b4 _ _ k acc L av nv rows B (le.g ai) a1 (hav.le (h.trans le)) (hnv.le (h.trans le)) hrl (fun i hi=>(hF i hi).le (h.trans le)) O hc) (fun q B hq le wfB=>TA q b4 _ _ k acc L av nv rows B (le.g ai) a1 (hav.le (h.trans le)) (hnv.le (h.trans le)) hrl (fun i hi=>(hF i hi).le (h.trans le)) O)) ?_);rintro b3 A30 ⟨aT,aC,aR,aF,aD,aS,rfl,ad,ag,a5,a4,a2,a6,a3,a7,a8,a9,aa,ab,ac⟩;have xr:=a5;have xn:=a4;have xa:=a2;have xv:=a6;have xf:=a3;have y1:=a7;have y2:=a8;have y3:=a9;have y4:=aa;have y5:=ab;have y6:=ac;refine aB (bg.none Y)<|.p Z (aK Z)<|.p Z (bj Z Z)<|.p Z (bj Z Z)<|.p Z (d7 Z)<|.p Z (d7 Z)<|.done<|h9<|.sq fun aG=>.region ?_;refine Ops.J Z<|.I Z<|.nil<|aG<|.rt (by exact aH Z (⟨_,_,_,_,_,_,Z,(h.trans ad),ag,a5,tD h a4,a2.base h,a6.base h,a3.base h,a7,a8,a9,aa,ab,ac⟩))
def ga (ws:List Wd):Nat:=(ws.map List.length).sum
theorem xi (a:List Wd) (w:Wd):ga (a ++ [w])=ga a + w.length:=by simp [ga]
theorem xj (ws:List Wd) (i:Nat):ga (ws.take i)<=ga ws:=by
  unfold ga
  conv=>rhs;rw [<- Rq i ws]
  rw [VV,List.sum_append];omega
structure TI (k:Nat) (ws:List Wd) (i:Nat) (L:List (List Int)) (E:List Bool):Prop where
  run:o0 k (ws.take i)=(L,E)
  tri:∃ W,Od k L E W ((ws.take i).map d8)
  num:L.length<=1 + ga (ws.take i)
section
variable {k i:Nat} {ws:List Wd} {L L0:List (List Int)} {E E0:List Bool} {W S:List (List Nat)} {d:Int}
theorem TI.start:TI k ws 0 ([] ++ [CO k]) ([] ++ [false]) :=
  ⟨rfl,⟨[[]],⟨Gk.start k,TW.start,(fun w h=>by cases h),fun m hm=>by
    obtain rfl:m=0:=by simp at hm;omega
    exact ⟨fun h=>by simp at h,fun h=>by cases h⟩⟩⟩,by simp⟩
theorem TI.ok (h:TI k ws i L E):Gk k L E/\0 < L.length:=by
  obtain ⟨W,hT⟩:=h.tri
  exact ⟨hT.ok,by have:=hT.tw.pos;have:=hT.tw.len;omega⟩
theorem TI.len (h:TI k ws i L E):E.length=L.length:=h.ok.1.len
theorem TI.next (h:TI k ws i L E) (hi:i < ws.length) (hw:∀ c ∈ ws.getD i [],0<=ix c/\ix c < k):TI k ws (i + 1) (vJ k L E (ws.getD i [])) (vI k L E (ws.getD i [])):=by
  obtain ⟨W,hT⟩:=h.tri
  obtain ⟨W1,h1,h2⟩:=hT.add hw
  have e:ws.take (i + 1)=ws.take i ++ [ws.getD i []]:=(fP (z:=[]) hi).symm
  refine ⟨?_,⟨W1,?_⟩,?_⟩
  · have hr:=h.run
    rw [e,o0,SJ]
    show (fun t w=>(vJ k t.1 t.2 w,vI k t.1 t.2 w)) (o0 k (ws.take i)) (ws.getD i [])=_
    rw [hr]
  · rw [e,VV];exact h1
  · rw [e,xi];have:=h.num;omega
theorem TI.bound (h:TI k ws i L E):L.length<=1 + ga ws:=Xj h.num (by have:=xj ws i;omega)
end
structure BO (k:Nat) (L0:List (List Int)) (W S:List (List Nat)) (R:BS) (i:Nat) (L:List (List Int)) (E:List Bool) (F Q:List Int):Prop where
  tw:TW k L0 W
  sub:∀ w ∈ S,w ∈ W
  ne:[] ∉ S
  inv:BI k L0 W S ⟨L,E,F,Q⟩ i 0
  fin:∃ f,f + i=W.length + 1/\Ur k f i ⟨L,E,F,Q⟩=R
structure BN (k:Nat) (L0:List (List Int)) (W S:List (List Nat)) (R:BS) (i:Nat) (L:List (List Int)) (E:List Bool) (F Q:List Int) (x:Nat) (L1:List (List Int)) (E1:List Bool) (F1 Q1:List Int):Prop where
  out:BO k L0 W S R i L E F Q
  lt:i < Q.length
  inv:BI k L0 W S ⟨L1,E1,F1,Q1⟩ i x
  run:(List.range x).foldl (od (Q.getD i 0).toNat) ⟨L,E,F,Q⟩=⟨L1,E1,F1,Q1⟩
  pre:Q <+: Q1
section
variable {k i x:Nat} {L L1 L0:List (List Int)} {E E0 E1:List Bool} {F Q F1 Q1:List Int} {W S:List (List Nat)} {R:BS} {ws:List Wd} {d:Int}
abbrev yu (L1:List (List Int)) (E1:List Bool) (F1 Q1:List Int) (n x:Nat):Int:=mi ⟨L1,E1,F1,Q1⟩ n x
theorem BO.start {ws:List Wd} (h:TI k ws ws.length L E) (hne:∀ w ∈ ws,w ≠ []):∃ W,BO k L W (ws.map d8) (s8 k ws) 0 L E (List.replicate L.length 0) [0]:=by
  obtain ⟨W,hT⟩:=h.tri
  have e:ws.take ws.length=ws:=Ry
  rw [e] at hT
  have hr:=h.run
  rw [e] at hr
  have hl:=hT.tw.len
  have hn:([]:List Nat) ∉ ws.map d8:=fun q=>by
    obtain ⟨w,hw,q⟩:=Vk.1 q
    exact hne w hw (List.map_eq_nil_iff.1 q)
  refine ⟨W,hT.tw,hT.sub,hn,by rw [<- hl];exact BI.start hT hn,W.length + 1,Z,?_⟩
  rw [s8,hr,hl]
theorem BO.lens (h:BO k L0 W S R i L E F Q):L.length=W.length/\E.length=W.length/\F.length=W.length/\Q.length<=W.length/\L0.length=W.length:=⟨h.inv.len.1,h.inv.len.2.1,h.inv.len.2.2,h.inv.qlen,h.tw.len.symm⟩
theorem BO.at (h:BO k L0 W S R i L E F Q) (hi:i < Q.length):0<=Q.getD i 0/\(Q.getD i 0).toNat < W.length/\(L.getD (Q.getD i 0).toNat []).length=k:=by
  have h1:0<=Q.getD i 0/\Q.getD i 0 < W.length:=h.inv.qr i hi
  have h2:=h.inv.row (Q.getD i 0).toNat O
  exact ⟨h1.1,by omega,h2⟩
theorem BN.start (h:BO k L0 W S R i L E F Q) (hi:i < Q.length):BN k L0 W S R i L E F Q 0 L E F Q:=⟨h,hi,h.inv,rfl,Tx _⟩
theorem BN.q (h:BN k L0 W S R i L E F Q x L1 E1 F1 Q1):Q1.getD i 0=Q.getD i 0/\i < Q1.length:=⟨i9 h.pre h.lt,SX h.lt h.pre.length_le⟩
theorem BN.lens (h:BN k L0 W S R i L E F Q x L1 E1 F1 Q1):L1.length=W.length/\E1.length=W.length/\F1.length=W.length/\Q1.length<=W.length/\L0.length=W.length:=⟨h.inv.len.1,h.inv.len.2.1,h.inv.len.2.2,h.inv.qlen,h.out.tw.len.symm⟩
theorem BN.facts (h:BN k L0 W S R i L E F Q x L1 E1 F1 Q1):0<=Q.getD i 0/\(Q.getD i 0).toNat < W.length/\(L1.getD (Q.getD i 0).toNat []).length=k:=by
  have h1:=h.out.at h.lt
  exact ⟨h1.1,h1.2.1,h.inv.row _ h1.2.1⟩
theorem BN.fail (h:BN k L0 W S R i L E F Q x L1 E1 F1 Q1) (hn:Q.getD i 0 ≠ 0):0<=F1.getD (Q.getD i 0).toNat 0/\(F1.getD (Q.getD i 0).toNat 0).toNat < W.length/\(L1.getD (F1.getD (Q.getD i 0).toNat 0).toNat []).length=k:=by
  have hq:=h.q
  have V:0 < i:=by
    rcases Sz i with q | q
    · subst q;have h0:Q1.getD 0 0=0:=h.inv.q0.2;rw [hq.1] at h0;exact absurd h0 hn
    · exact q
  have h1:0<=F1.getD (Q1.getD i 0).toNat 0/\F1.getD (Q1.getD i 0).toNat 0 < W.length:=(fun z=>⟨z.1,z.2.1⟩) (h.inv.fl i V hq.2)
  rw [hq.1] at h1
  exact ⟨h1.1,by omega,h.inv.row _ O⟩
theorem BN.to (h:BN k L0 W S R i L E F Q x L1 E1 F1 Q1) (hx:x < k):0<=yu L1 E1 F1 Q1 (Q.getD i 0).toNat x/\(yu L1 E1 F1 Q1 (Q.getD i 0).toNat x).toNat < W.length:=by
  have hq:=h.q
  have h1:0<=yu L1 E1 F1 Q1 (Q1.getD i 0).toNat x/\yu L1 E1 F1 Q1 (Q1.getD i 0).toNat x < W.length:=(fun z=>⟨z.1,z.2.1⟩) (h.inv.to h.out.tw hq.2 hx)
  rw [hq.1] at h1
  omega
theorem BN.met (h:BN k L0 W S R i L E F Q x L1 E1 F1 Q1) (hx:x < k) (hm:0<=(L1.getD (Q.getD i 0).toNat []).getD x 0):((L1.getD (Q.getD i 0).toNat []).getD x 0).toNat < W.length:=by
  have hq:=h.q
  have hf:=h.facts
  have e:c5 L1 (Q.getD i 0).toNat x=c5 L0 (Q.getD i 0).toNat x:=h.inv.same _ x hf.2.1 hx fun a ha ea=>by
    have e2:qn ⟨L1,E1,F1,Q1⟩ a=qn ⟨L1,E1,F1,Q1⟩ i:=by rw [ea];show _=(Q1.getD i 0).toNat;rw [hq.1]
    exact .inr ⟨h.inv.qd a i ha hq.2 e2,XX _⟩
  have:=h.out.tw.is (Q.getD i 0).toNat x hf.2.1 hx (by rw [<- e];exact hm)
  rw [<- e] at this
  exact this.1
theorem XU {n:Int} (h:¬ n=0) (h0:0<=n):num ((L1.getD (F1.getD n.toNat 0).toNat []).getD x 0)=num (yu L1 E1 F1 Q1 n.toNat x):=by
  show _=num (mi _ _ _);rw [mi,Xy O]
theorem ZZ {n:Int} (h:¬ ¬ n=0):num ((0:Nat):Int)=num (yu L1 E1 F1 Q1 n.toNat x):=by
  have:=Decidable.not_not.1 h;subst this;rfl
theorem BN.step (h:BN k L0 W S R i L E F Q x L1 E1 F1 Q1) (hx:x < k) {L2:List (List Int)} {E2:List Bool} {F2 Q2:List Int} (e:od (Q.getD i 0).toNat ⟨L1,E1,F1,Q1⟩ x=⟨L2,E2,F2,Q2⟩) (hp:Q1 <+: Q2):BN k L0 W S R i L E F Q (x + 1) L2 E2 F2 Q2:=by
  have hq:=h.q
  refine ⟨h.out,h.lt,?_,?_,h.pre.trans hp⟩
  · have:=h.inv.step h.out.tw h.out.sub h.out.ne hq.2 hx
    rw [show qn ⟨L1,E1,F1,Q1⟩ i=(Q.getD i 0).toNat by show (Q1.getD i 0).toNat=_;rw [hq.1],e] at this
    exact this
  · rw [Ty,SJ,h.run];exact e
theorem BN.neg (h:BN k L0 W S R i L E F Q x L1 E1 F1 Q1) (hx:x < k) (hm:(L1.getD (Q.getD i 0).toNat []).getD x 0 < 0):BN k L0 W S R i L E F Q (x + 1) (L1.set (Q.getD i 0).toNat ((L1.getD (Q.getD i 0).toNat []).set x (yu L1 E1 F1 Q1 (Q.getD i 0).toNat x))) E1 F1 Q1 :=
  h.step hx (by rw [od,Xw hm]) (Tx _)
theorem BN.pos (h:BN k L0 W S R i L E F Q x L1 E1 F1 Q1) (hx:x < k) (hm:¬ (L1.getD (Q.getD i 0).toNat []).getD x 0 < 0) {c:Bool} (hc:c=(E1.getD ((L1.getD (Q.getD i 0).toNat []).getD x 0).toNat false || E1.getD (yu L1 E1 F1 Q1 (Q.getD i 0).toNat x).toNat false)) :
    BN k L0 W S R i L E F Q (x + 1) L1 (E1.set ((L1.getD (Q.getD i 0).toNat []).getD x 0).toNat c) (F1.set ((L1.getD (Q.getD i 0).toNat []).getD x 0).toNat (yu L1 E1 F1 Q1 (Q.getD i 0).toNat x)) (Q1 ++ [(L1.getD (Q.getD i 0).toNat []).getD x 0]):=by
  subst hc
  exact h.step hx (by rw [od,Xy hm]) (SZ _ _)
theorem BO.next (h:BN k L0 W S R i L E F Q x L1 E1 F1 Q1) (hx:x=k):BO k L0 W S R (i + 1) L1 E1 F1 Q1:=by
  subst hx
  have hq:=h.q
  obtain ⟨f,hf,e⟩:=h.out.fin
  have hl:=h.out.inv.qlen
  have hlt:=h.lt
  have V:Q.length<=W.length:=hl
  obtain ⟨f,rfl⟩:∃ g,f=g + 1:=⟨f - 1,by omega⟩
  refine ⟨h.out.tw,h.out.sub,h.out.ne,h.inv.next hq.2,f,by omega,?_⟩
  rw [Ur,Xw (by exact hlt)] at e
  have e2:UN x ⟨L,E,F,Q⟩ i=⟨L1,E1,F1,Q1⟩:=h.run
  rw [e2] at e;exact e
theorem BO.fin' (h:BO k L0 W S R i L E F Q) (hi:Q.length<=i):R=⟨L,E,F,Q⟩/\Ux k L E W S:=by
  obtain ⟨f,hf,e⟩:=h.fin
  have hl:=h.inv.qlen
  refine ⟨?_,h.inv.aho h.tw h.sub hi⟩
  rw [<- e]
  cases f with
  | zero=>rfl
  | succ f=>rw [Ur,Xy (by show ¬ i < Q.length;omega)]
def qe (E:List Bool) (r:List Int) (x:Nat):List Int:=ew E (r.take x) ++ r.drop x
def og (E:List Bool) (L:List (List Int)) (s x:Nat):List (List Int):=(L.take s).map (ew E) ++ (match L.drop s with | []=>[] | r :: t=>qe E r x :: t)
theorem ph (E:List Bool) (r:List Int):(ew E r).length=r.length:=by simp [ew]
theorem Df {r:List Int}:(qe E r x).length=r.length:=by simp [qe,ew];omega
theorem yW {r:List Int}:qe E r 0=r:=by simp [qe,ew]
theorem Pm {r:List Int} (h:r.length<=x):qe E r x=ew E r:=by simp [qe,Vw h,SV h]
theorem Vd {r:List Int} {y:Nat} (hx:x<=y) (hy:y < r.length):(qe E r x).getD y 0=r.getD y 0:=by
  simp only [qe,XJ]
  rw [TV (by rw [ph,Vz];omega),RY,ph,Vz]
  congr 2;omega
theorem yV {r:List Int} (hx:x < r.length):qe E r (x + 1)=if E.getD (r.getD x 0).toNat false then (qe E r x).set x (-1) else qe E r x:=by
  have e1:r.take (x + 1)=r.take x ++ [r.getD x 0]:=(fP (z:=0) hx).symm
  have e2:r.drop x=r.getD x 0 :: r.drop (x + 1):=qC hx
  have hl:(ew E (r.take x)).length=x:=by rw [ph,Vz];omega
  have e3:ew E (r.take x ++ [r.getD x 0])=ew E (r.take x) ++ [if E.getD (r.getD x 0).toNat false then -1 else r.getD x 0]:=by simp only [ew,VV,Tz,Qv]
  have e4:qe E r x=ew E (r.take x) ++ r.getD x 0 :: r.drop (x + 1):=by rw [<- e2];rfl
  have e5:qe E r (x + 1)=ew E (r.take x) ++ (if E.getD (r.getD x 0).toNat false then -1 else r.getD x 0) :: r.drop (x + 1):=by
    show ew E (r.take (x + 1)) ++ r.drop (x + 1)=_
    rw [e1,e3,Tk];rfl
  rw [e5,e4]
  split
  · rw [RK _ _ O,hl,Qx,List.set_cons_zero]
  · rfl
theorem oh {s:Nat} (h:s < L.length):L.drop s=L.getD s [] :: L.drop (s + 1):=qC h
theorem De {s:Nat}:(og E L s x).length=L.length:=by
  unfold og
  rcases VW s L.length with h | h
  · rw [oh h];simp;omega
  · rw [SV h];simp;omega
theorem GJ:og E L 0 0=L:=by
  cases L with
  | nil=>rfl
  | cons r t=>show [] ++ qe E r 0 :: t=_;rw [yW];rfl
theorem te {s:Nat} (h:s < L.length):(og E L s x).getD s []=qe E (L.getD s []) x:=by
  unfold og;rw [oh h]
  have hl:((L.take s).map (ew E)).length=s:=by simp;omega
  simp only [XJ]
  rw [TV O,hl,Qx];rfl
theorem Pk {s:Nat} (h:s < L.length) (hx:x < (L.getD s []).length) (he:E.getD ((L.getD s []).getD x 0).toNat false=true):(og E L s x).set s (((og E L s x).getD s []).set x (-1))=og E L s (x + 1):=by
  rw [te h]
  unfold og;rw [oh h]
  have hl:((L.take s).map (ew E)).length=s:=by simp;omega
  rw [RK _ _ O,hl,Qx]
  show _ ++ _ :: _=_ ++ _ :: _
  rw [yV hx,Xw he]
theorem Vb {s:Nat} (h:s < L.length) (hx:x < (L.getD s []).length) (he:E.getD ((L.getD s []).getD x 0).toNat false=false):og E L s x=og E L s (x + 1):=by
  unfold og;rw [oh h]
  show _ ++ _ :: _=_ ++ _ :: _
  rw [yV hx,he];rfl
theorem KU {s:Nat} (h:s < L.length) (hx:(L.getD s []).length<=x):og E L s x=og E L (s + 1) 0:=by
  unfold og
  rw [oh h,<- fP (z:=[]) h,VV]
  show _ ++ qe E _ x :: _=_
  rw [Pm hx,Tk]
  congr 1
  show _=[ew E (L.getD s [])] ++ _
  rw [List.singleton_append];congr 1
  cases L.drop (s + 1) with
  | nil=>rfl
  | cons r t=>show _=qe E r 0 :: t;rw [yW]
theorem Ph {s:Nat} (h:L.length<=s):og E L s x=L.map (ew E):=by
  unfold og
  rw [SV h,Vw h];simp
theorem KS {s:Nat} (h:s < L.length) (hx:x < (L.getD s []).length):((og E L s x).getD s []).getD x 0=(L.getD s []).getD x 0:=by
  rw [te h,Vd (XX _) hx]
end
def AK:W8:=[48,49,50,51,52,53,54,55,56,57,97,98,99,100,101,102,103,104,105,106,107,108,109,110,111,112,113,114,115,116,117,118,119,120,121,122]
def uO:Nat->Nat->W8
  | 0,_=>[]
  | f + 1,n=>if n < 36 then [AK.getD n 0] else uO f (n / 36) ++ [AK.getD (n % 36) 0]
def iy (n:Nat):W8:=uO 13 n
theorem Du:∀ (f n:Nat),(uO f n).length<=f
  | 0,_=>XX _
  | f + 1,n=>by
    unfold uO;split
    · simp
    · have:=Du f (n / 36);simp;omega
theorem uM (n:Nat):(iy n).length<=13:=Du 13 n
def Kx (c:UInt8):Nat:=AK.idxOf c
theorem vT:∀ d,d < 36->Kx (AK.getD d 0)=d/\AK.getD d 0 ≠ 32/\AK.getD d 0 ≠ 45:=by decide
theorem pn:∀ (f n:Nat),∀ c ∈ uO f n,c ≠ 32/\c ≠ 45
  | 0,_,_,h=>by cases h
  | f + 1,n,c,h=>by
    unfold uO at h;split at h
    · rename_i q;rw [XW] at h;subst h;exact (vT n q).2
    · rcases VJ.1 h with q | q
      · exact pn f _ c q
      · rw [XW] at q;subst q;exact (vT _ (Nat.mod_lt _ U)).2
def Ky (l:W8):Nat:=l.foldl (fun a c=>a * 36 + Kx c) 0
theorem sM:∀ (f n:Nat),n < 36 ^ f->Ky (uO f n)=n
  | 0,n,h=>by simp at h;subst h;rfl
  | f + 1,n,h=>by
    unfold uO;split
    · rename_i q;show 0 * 36 + Kx _=n;rw [(vT n q).1];omega
    · have:=sM f (n / 36) (by rw [Nat.pow_succ] at h;exact Nat.div_lt_of_lt_mul O)
      rw [Ky,SJ]
      show Ky (uO f (n / 36)) * 36 + Kx _=n
      rw [this,(vT _ (Nat.mod_lt _ U)).1];omega
theorem zb {a b:Nat} (ha:a < 1000000) (hb:b < 1000000) (h:iy a=iy b):a=b:=by
  have h1:=sM 13 a (SX ha U)
  have h2:=sM 13 b (SX hb U)
  rw [<- h1,<- h2];exact Xk Ky h
structure wt (n m i:Nat) (l:W8):Prop where
  len:l.length=65
  eq:∃ f,f + 52=i/\0 < f/\f<=13/\iy n=uO f m ++ l.drop i/\m < 36 ^ f
  le:m<=n
section
variable {n m i f:Nat} {l:W8}
theorem wt.start (hn:n<=1000000):wt n n 65 (List.replicate 65 0):=⟨by simp,⟨13,rfl,by decide,by decide,by simp [iy],Nat.lt_of_le_of_lt hn U⟩,XX _⟩
theorem wt.idx (h:wt n m i l):53<=i/\i<=65:=by obtain ⟨f,h1,h2,h3,_⟩:=h.eq;omega
theorem Dl {l:W8} {j:Nat} {c:UInt8} (h:j < l.length):(l.set j c).drop j=c :: l.drop (j + 1):=by
  rw [Tv (by simpa using h),List.drop_set_of_lt O]
  simp
theorem wt.next (h:wt n m i l) (hm:36<=m):wt n (m / 36) (i - 1) (l.set (i - 1) (AK.getD (m - m / 36 * 36) 0))/\54<=i:=by
  obtain ⟨f,h1,h2,h3,h4,h5⟩:=h.eq
  have hf:2<=f:=by
    rcases VW f 2 with q | q
    · obtain rfl:f=1:=by omega
      omega
    · exact q
  obtain ⟨f,rfl⟩:∃ g,f=g + 1:=⟨f - 1,by omega⟩
  refine ⟨⟨by simpa using h.len,⟨f,by omega,by omega,by omega,?_,by rw [Nat.pow_succ] at h5;exact Nat.div_lt_of_lt_mul O⟩,Xj (Nat.div_le_self _ _) h.le⟩,by omega⟩
  rw [h4,uO,Xy O,Dl (by rw [h.len];omega),show i - 1 + 1=i by omega,Tk]
  rw [show m - m / 36 * 36=m % 36 by omega];rfl
theorem wt.last (h:wt n m i l) (hm:m < 36):(l.set (i - 1) (AK.getD m 0)).drop (i - 1)=iy n:=by
  obtain ⟨f,h1,h2,h3,h4,h5⟩:=h.eq
  obtain ⟨f,rfl⟩:∃ g,f=g + 1:=⟨f - 1,by omega⟩
  rw [h4,uO,Xw hm,Dl (by rw [h.len];omega),show i - 1 + 1=i by omega];rfl
end
abbrev yJ (n:Nat):Value:=.int .u64 (n:Int)
section
variable {P:Program} {e:ii} {A:AH} {x y:Operand} {t t':TypeId} {a b:Nat}
theorem Ji {n:Int} (h:0<=n/\n<=18446744073709551615):IntKind.u64.wrap n=n:=IntWalk.u64_in n h
theorem RC {k k₀:IntKind} (hs:P.underlying t=some (.int k₀)) (hd:P.underlying t'=some (.int .u64)) (h:cd e x=some (.int k (a:Nat))) (hr:a<=18446744073709551615):aW P e A (.convert t t' x)=some (yJ a,[]) :=
  RB hs hd h (Ji O)
theorem qsubW (h:cd e x=some (yJ a)) (h':cd e y=some (yJ b)) (hr:b<=a/\a<=18446744073709551615):aW P e A (.binOp .sub t x y t')=some (yJ (a - b),[]):=by
  refine yD U U h h' ?_
  refine Xk (fun z=>some (Value.int .u64 z)) ?_
  rw [Ji O];omega
theorem qmulW (h:cd e x=some (yJ a)) (h':cd e y=some (yJ b)) (hr:a * b<=18446744073709551615):aW P e A (.binOp .mul t x y t')=some (yJ (a * b),[]):=by
  refine yD U U h h' ?_
  refine Xk (fun z=>some (Value.int .u64 z)) ?_
  have:((a * b:Nat):Int)=(a:Int) * b:=Int.natCast_mul a b
  rw [Ji (by rw [<- this];omega)];simp
theorem qquoW (h:cd e x=some (yJ a)) (h':cd e y=some (yJ b)) (hr:1<=b/\a<=18446744073709551615):aW P e A (.binOp .quo t x y t')=some (yJ (a / b),[]):=by
  refine yD U U h h' ?_
  show (if (b:Int)=0 then none else _)=_
  rw [Xy O]
  refine Xk (fun z=>some (Value.int .u64 z)) ?_
  rw [IntWalk.u64_quo _ _ O];simp
end
section
variable {P:Program} {nt:Nat} {all:Array Oper} {os:List Oper} {Q:Exit->Fr->AH->Prop} {e:ii} {ds:List Deferred} {A:AH} {x lo:Operand} {t el:TypeId} {ty:TypeId} {ps:String} {af:Array Edge} {dst:Option Nat} {b n j:Nat}
theorem V.Ops.sliceArr (hd:ij nt dst=true) (hu:P.underlying t=some (.array n el)) (hs:dy P el=some 1) (hx:cd e x=some (.pointer (some ⟨b,0,none⟩))) (hlo:cd e lo=some (num (j:Nat))) (hj:j < n)
    (h:Ops P nt all os Q ⟨gw e dst (.slice (some ⟨b,j,none⟩) (n - j) (n - j)),ds⟩ A):Ops P nt all ({ dst:=dst,op:=.slice t x (some lo) none none,type:=ty,pos:=ps,after:=af,guard:=none } :: os) Q ⟨e,ds⟩ A:=by
  refine Ops.val Z hd (fun a ha w hw=>?_) h
  have h1:=cI ha hx
  have h2:=cI ha hlo
  simp only [execOp,h1,Rw,h2,Option.map_none]
  have hb:=sK (P:=P) (w:=w) (isS:=false) (len:=n) (cap:=n) (lo:=some (some (num (j:Nat)))) (hi:=none) (lo':=some (num (j:Nat))) (hi':=none) (l:=(j:Int)) (h:=(n:Int)) (fun v q=>by cases q;exact ⟨_,rfl,rfl⟩) (fun q=>by cases q) (fun v q=>by cases q) (fun _=>rfl) Z Z O O O
  have hne:n ≠ j:=by omega
  simp [Instr.sliceAt,cg hu,hb,ep hs,Instr.sureAddr,Addr.add,hne]
  intro z;omega
end
theorem and36:UM .and .i64 ((36:Nat):Int) ((35:Nat):Int)=some (num ((32:Nat):Int)):=by
  have key:IntKind.i64.wrap ((BitVec.ofInt 64 ((36:Nat):Int) &&& BitVec.ofInt 64 ((35:Nat):Int)).toNat:Int)=((32:Nat):Int):=by decide
  show some (Value.int .i64 (IntKind.i64.wrap ((BitVec.ofInt 64 ((36:Nat):Int) &&& BitVec.ofInt 64 ((35:Nat):Int)).toNat:Int)))=_
  rw [key]
theorem XH {A:AH} {b cap j:Nat} {rw:Bool} {c:List Value} (h:A.get b=some (.row rw c cap)) (hj:j<=c.length):bz A 1 (.slice (some ⟨b,j,none⟩) (c.length - j) (c.length - j)) (c.drop j) :=
  ⟨_,_,_,rfl,by simp,XX _,.inr ⟨b,j,rw,c,cap,rfl,h,by rw [VY,Vw (by simp)]⟩⟩
theorem u2:type_of% @underlying2:=@underlying2
theorem u201:type_of% @underlying201:=@underlying201
theorem Z6:type_of% @underlying246:=@underlying246
theorem z246:cE prog 246=some (.agg #[.int .u8 0,.int .u8 0,.int .u8 0,.int .u8 0,.int .u8 0,.int .u8 0,.int .u8 0,.int .u8 0,.int .u8 0,.int .u8 0,.int .u8 0,.int .u8 0,.int .u8 0,.int .u8 0,.int .u8 0,.int .u8 0,.int .u8 0,.int .u8 0,.int .u8 0,.int .u8 0,.int .u8 0,.int .u8 0,.int .u8 0,.int .u8 0,.int .u8 0,.int .u8 0,.int .u8 0,.int .u8 0,.int .u8 0,.int .u8 0,.int .u8 0,.int .u8 0,.int .u8 0,.int .u8 0,.int .u8 0,.int .u8 0,.int .u8 0,.int .u8 0,.int .u8 0,.int .u8 0,.int .u8 0,.int .u8 0,.int .u8 0,.int .u8 0,.int .u8 0,.int .u8 0,.int .u8 0,.int .u8 0,.int .u8 0,.int .u8 0,.int .u8 0,.int .u8 0,.int .u8 0,.int .u8 0,.int .u8 0,.int .u8 0,.int .u8 0,.int .u8 0,.int .u8 0,.int .u8 0,.int .u8 0,.int .u8 0,.int .u8 0,.int .u8 0,.int .u8 0]):=by kernel_rfl
theorem ZO (A:AH):bH prog 213 #[num ((36:Nat):Int)] A (fun v A1=>v=.bool false/\A=A1):=by
 refine aN (e:=[(0,num ((36:Nat):Int))]) (args:=[num ((36:Nat):Int)]) call213 func213 Z results213 ntmps213 Z Z Z (fun wf=>?_);have h:=AH.le.refl A;refine ak.sq fun h2=>.region<|.I Z<|.nil<|h2<|.sq fun h4=>.region<|.J Z<|.J Z<|.p (iO (a:=36) (b:=1) Z Z O) ?_;refine Ops.p (yD U U Z Z and36)<|.p (((jM (a:=32) (b:=0) Z Z).trans (Xk (fun z=>some (Value.bool z,[])) (Xv U))))<|.I Z<|.nil<|h4<|.rt (by exact aH Z (⟨Z,Z⟩))
theorem M9 (u:Value) (o:W8) (n:Nat) (A0 A:AH) (ad:A0.le A) (a8:A0.wf) (hu:Fresh A0 A u 1 (aw o)) (ho:o.length<=100000000000) (hn:n<=1000000):bH prog 210 #[u,.int .u64 ((n:Nat):Int),num ((36:Nat):Int),.bool (false),.bool (true)] A (fun v A1=>∃ w,v=.tuple #[w,aM []]/\A0.le A1/\A1.wf/\Fresh A0 A1 w 1 (aw (o ++ iy n))):=by
 refine aN (e:=[(0,u),(1,.int .u64 ((n:Nat):Int)),(2,num ((36:Nat):Int)),(3,.bool (false)),(4,.bool (true))]) (args:=[u,.int .u64 ((n:Nat):Int),num ((36:Nat):Int),.bool (false),.bool (true)]) call210 func210 Z results210 ntmps210 Z Z Z (fun wf=>?_);refine ak.sq fun h2=>.region<|.I Z<|.I Z<|.nil<|h2<|.sq fun h4=>.sq fun h6=>.region<|.J Z ?_;refine Ops.p (((bK (a:=36) (b:=2) Z Z).trans (Xk (fun z=>some (Value.bool z,[])) (Xv U))))<|.J Z<|.on Z Z<|.J Z<|.on Z Z<|.p (((jM (a:=36) (b:=10) Z Z).trans (Xk (fun z=>some (Value.bool z,[])) (Xv U))))<|.p (aO Z Z)<|.J Z<|.on Z Z<|.J Z ?_;refine Ops.on Z Z<|.p (((ej (a:=36) (b:=36) Z Z).trans (Xk (fun z=>some (Value.bool z,[])) (Xv U))))<|.p (aO Z Z)<|.nil<|h6<|.cond_false Z<|.skip<|h4<|.sq fun h8=>.region ?_;refine Ops.m (fun b2=>co (cs:=aw (List.replicate 65 0)) wf z246 rfl fun A11 a9 a2=>?_);have a6:=bh a8 (Xj ad.n a2.lo);refine b2<|.nil<|h8<|.sq fun az=>.region<|.I Z<|.nil<|az<|.sq fun aA=>.sq fun aB=>?_;refine ak.region<|.J Z<|.nil<|aB<|.cond_false Z<|.skip<|aA<|.sq fun aC=>.sq fun aD=>.region ?_;refine Ops.J Z<|.m (fun ai=>ax Z (ZO A11) ?_);rintro b6 A28 ⟨rfl,rfl⟩;refine ai<|.nil<|aD<|.cond_false Z<|.sq fun aF=>.region<|.J Z<|.p (RC u3 u201 Z O)<|.I Z<|.nil ?_;refine aF<|.sq fun aG=>.block<|.loop (X:=Nat × Nat × W8) (fun ⟨m,i,l⟩=>[(0,u),(1,.int .u64 ((m:Nat):Int)),(3,.bool (false)),(4,.bool (true)),(10,.slice none 0 0),(11,aM ([])),(12,.pointer (some ⟨a9,0,none⟩)),(13,num ((i:Nat):Int)),(17,.int .u64 ((36:Nat):Int))]) (fun ⟨m,i,l⟩ B=>(wt n m i l)/\A0.le B/\Fresh A0 B u 1 (aw o)/\B.get a9=some (.row true (aw l) 65)/\V.blk u ≠ some a9) (fun ⟨m,i,l⟩=>m) (⟨n,65,List.replicate 65 0⟩) (Ut Z Z Z Z Z Z Z Z Z) (⟨wt.start hn,(ad.trans a2.le),(hu.le a2.le),a2.get,(hu.own.ne_new wf a2.lo)⟩) ?_;rintro ⟨m,i,l⟩ B35 ⟨hfm,ab,a5,a1,a0⟩;refine ak.wf fun ac=>?_;have hix:=hfm.idx;have hll:=hfm.len;have hmn:=hfm.le;have hnx:=fun q:36<=m=>hfm.next q;refine ak.sq fun aI=>.sq fun aP=>.region<|.J Z<|.J Z<|.p (tK (b:=36) Z Z)<|.nil<|aP<|.if rfl (fun b3=>?_) (fun b3=>?_)
 ·refine ak.skip<|aI<|.block<|.sq fun aR=>.region<|.J Z<|.p (iO (b:=1) Z Z (by (try have:=(hnx O).2);omega))<|.I Z<|.nil<|aR ?_;refine ak.sq fun aS=>.region<|.J Z<|.J Z<|.p (qquoW (b:=36) Z Z (by (try have:=(hnx O).2);omega))<|.I Z<|.nil<|aS<|.sq fun aT=>.region ?_;refine Ops.J Z<|.J Z<|.J Z<|.J Z<|.p (qmulW (b:=36) Z Z (by (try have:=(hnx O).2);omega))<|.p (qsubW Z Z (by (try have:=(hnx O).2);omega))<|.p (ng u9 Z Z (by simp only [Xq,Xx];omega))<|.p (jt (i:=i - 1) Z6 lQ Z Z O)<|.m (fun ap=>aU (off:=(i - 1)) ac rfl (by simp) rfl rfl lQ a1 OR rfl (rl _ _ _) fun A49 a3=>?_);refine ap<|.nil<|aT<|.region<|.J Z<|.I Z<|.nil ?_;exact ⟨⟨m / 36,i - 1,l.set ((i - 1)) (([48,49,50,51,52,53,54,55,56,57,97,98,99,100,101,102,103,104,105,106,107,108,109,110,111,112,113,114,115,116,117,118,119,120,121,122]).getD (m - ((m / 36) * 36)) 0)⟩,Ut Z Z Z Z Z Z Z Z Z,Z,⟨(hnx ‹_›).1,(an ab a8 a6 a3.n a3.keep),(a5.keep a3.keep a0),a3.get,a0⟩,O1⟩
 refine ak.exit<|aG<|.sq fun aV=>.region<|.J Z<|.p (iO (b:=1) Z Z (by (try have:=(hnx O).2);omega))<|.I Z<|.nil<|aV<|.region ?_;refine Ops.J Z<|.J Z<|.p (ng u9 Z Z (by simp only [Xq,Xx];omega))<|.p (jt (i:=i - 1) Z6 lQ Z Z O)<|.m (fun ar=>aU (off:=(i - 1)) ac rfl (by simp) rfl rfl lQ a1 OR rfl (rl _ _ _) fun A56 a4=>?_);have aa:=a5.keep a4.keep a0;refine ar<|.nil<|aC<|.sq fun aY=>.sq fun aZ=>.region<|.J Z<|.nil<|aZ<|.cond_false Z ?_;refine ak.skip<|aY<|.sq fun b5=>.sq fun b0=>.region<|.J Z<|.nil<|b0<|.cond_true Z<|.sq fun b1=>?_;have hlast:=hfm.last O;unfold AK at hlast;have hfl:=uM n;refine ak.region<|.J Z<|.J Z<|.sliceArr (j:=i - 1) Y Z6 lQ Z Z O ?_;have hsa:=XH (j:=i - 1) a4.get (by simp only [be,XQ];omega);simp only [be,XQ,hfm.len,se] at hsa;rw [hlast] at hsa;refine Ops.m (fun av=>cm rfl rfl db lQ vL z5 rfl U db (fun _ h=>by cases h) aa.own (hsa.listOf (n:=(iy n).length) (by simp only [be] <;> omega) O) (by simp only [be] <;> omega) (KO _) (by show (_ + _) * 1<=_;simp only [be,Xq,Xx];(try simp only [Xz,Xq,Xx]);omega) On fun A71 b7 a7=>?_);rw [fA] at a7;obtain ⟨ag,ay⟩:=Fresh.grow aa (an ab a8 a6 a4.n a4.keep) a8 a7;refine av<|.I Z<|.nil<|b1<|.rt (by exact aH Z (⟨_,Z,ay,a7.wf,ag⟩))
theorem Zz (u:Value) (o:W8) (n:Nat) (A0 A:AH) (a3:A0.le A) (a5:A0.wf) (hu:Fresh A0 A u 1 (aw o)) (ho:o.length<=100000000000) (hn:n<=1000000):bH prog 206 #[u,.int .u64 ((n:Nat):Int),num ((36:Nat):Int)] A (fun v A1=>A0.le A1/\A1.wf/\Fresh A0 A1 v 1 (aw (o ++ iy n))):=by
 refine aN (e:=[(0,u),(1,.int .u64 ((n:Nat):Int)),(2,num ((36:Nat):Int))]) (args:=[u,.int .u64 ((n:Nat):Int),num ((36:Nat):Int)]) call206 func206 Z results206 ntmps206 Z Z Z (fun wf=>?_);refine ak.sq fun h2=>.region<|.I Z<|.nil<|h2<|.sq fun h4=>.sq fun h6=>.region<|.J Z<|.p (((jM (a:=36) (b:=10) Z Z).trans (Xk (fun z=>some (Value.bool z,[])) (Xv U)))) ?_;refine Ops.nil<|h6<|.cond_false Z<|.skip<|h4<|.sq fun h8=>.region<|.J Z<|.J Z<|.J Z ?_;have X:=cy (bs:=[blk u]) a3 (uo hu.lo rK);refine Ops.m (fun a2=>ax Z (M9 u o n (A.hide [blk u]) A (cL A [blk u]) (cx wf) (hu.hide (by simp)) ho hn) ?_);rintro a4 A11 ⟨h,rfl,a0,h,V⟩;refine a2<|.J Z<|.p (bj Z Z)<|.p (bj Z Z)<|.I Z<|.nil<|h8<|.sq fun a1=>.region<|.J Z ?_;refine Ops.I Z<|.nil<|a1<|.rt (by exact aH Z (⟨(X.trans a0),h,(V.base X)⟩))
theorem WN (u:Value) (o:W8) (n:Nat) (A0 A:AH) (a3:A0.le A) (a6:A0.wf) (hu:Fresh A0 A u 1 (aw o)) (ho:o.length<=100000000000) (hn:n<=1000000):bH prog 202 #[u,num ((n:Nat):Int),num ((36:Nat):Int)] A (fun v A1=>A0.le A1/\A1.wf/\Fresh A0 A1 v 1 (aw (o ++ iy n))):=by
 refine aN (e:=[(0,u),(1,num ((n:Nat):Int)),(2,num ((36:Nat):Int))]) (args:=[u,num ((n:Nat):Int),num ((36:Nat):Int)]) call202 func202 Z results202 ntmps202 Z Z Z (fun wf=>?_);refine ak.sq fun h2=>.region<|.I Z<|.nil<|h2<|.sq fun h4=>.region<|.J Z<|.p (RC u2 u201 Z O)<|.I Z ?_;refine Ops.nil<|h4<|.sq fun h6=>.sq fun h8=>.region<|.J Z<|.p (bK (b:=0) Z Z)<|.nil<|h8<|.if rfl (fun p9=>?_) (fun p9=>?_)
 ·refine ak.sq fun a4=>?_;exact absurd ‹n < 0› O
 refine ak.skip<|h6<|.sq fun a2=>.region<|.J Z<|.J Z<|.J Z ?_;have V:=cy (bs:=[blk u]) a3 (uo hu.lo rK);refine Ops.m (fun a1=>ax Z (Zz u o n (A.hide [blk u]) A (cL A [blk u]) (cx wf) (hu.hide (by simp)) ho hn) ?_);rintro a5 A16 ⟨X,a0,h⟩;refine a1<|.I Z<|.nil<|a2<|.rt (by exact aH Z (⟨(V.trans X),a0,(h.base V)⟩))
theorem Zy (u:Value) (o:W8) (n:Nat) (A0 A:AH) (a2:A0.le A) (a3:A0.wf) (hu:Fresh A0 A u 1 (aw o)) (ho:o.length<=100000000000) (hn:n<=1000000):bH prog 184 #[u,num ((n:Nat):Int),num ((36:Nat):Int)] A (fun v A1=>A0.le A1/\A1.wf/\Fresh A0 A1 v 1 (aw (o ++ iy n))):=by
 refine aN (e:=[(0,u),(1,num ((n:Nat):Int)),(2,num ((36:Nat):Int))]) (args:=[u,num ((n:Nat):Int),num ((36:Nat):Int)]) call184 func184 Z results184 ntmps184 Z Z Z (fun wf=>?_);refine ak.sq fun h2=>.region<|.I Z<|.nil<|h2<|.sq fun h4=>.region<|.J Z<|.J Z<|.J Z ?_;have V:=cy (bs:=[blk u]) a2 (uo hu.lo rK);refine Ops.m (fun a1=>ax Z (WN u o n (A.hide [blk u]) A (cL A [blk u]) (cx wf) (hu.hide (by simp)) ho hn) ?_);rintro v6 A7 ⟨X,a0,h⟩;refine a1<|.I Z<|.nil<|h4<|.rt (by exact aH Z (⟨(V.trans X),a0,(h.base V)⟩))
structure yM (k:Nat) (acc:List Bool) (N:List (List Int)):Prop where
  sym:1<=k/\k<=400
  len:acc.length=N.length
  num:N.length<=30000
  row:∀ s,s < N.length->(N.getD s []).length=k
  val:∀ s x,s < N.length->x < k->-1<=c5 N s x/\c5 N s x < N.length
section
variable {N B B1:List (List Int)} {s j n:Nat} {m:Int} {row:List Int}
theorem qQ (n:Nat) (v:Value):List.replicate n v=dx (List.replicate n v):=rfl
theorem wx {s:Int}:(qo B s m).length=B.length:=by unfold qo;split <;> simp
theorem Oq {s:Int} (h:0<=m):qo B s m=B.set m.toNat (B.getD m.toNat [] ++ [s]):=Xw h
theorem UG {s:Int} (h:¬ 0<=m):qo B s m=B:=Xy h
theorem ww {s:Int} {c:Nat} (h:∀ t,(B.getD t []).length<=c) (hm:0<=m->m.toNat < B.length):∀ t,((qo B s m).getD t []).length<=c + 1:=fun t=>by
  unfold qo;split
  · rename_i q
    rw [dl (hm q)]
    split
    · have:=h m.toNat;rw [Xz,TQ];omega
    · have:=h t;omega
  · have:=h t;omega
structure N8 (N:List (List Int)) (s:Nat) (B:List (List Int)):Prop where
  run:(List.range s).foldl (jW N) (List.replicate N.length [])=B
  len:B.length=N.length
  bound:∀ t,(B.getD t []).length<=1000 * s
structure Jn (N:List (List Int)) (s:Nat) (B:List (List Int)) (j:Nat) (B1:List (List Int)):Prop where
  out:N8 N s B
  run:((N.getD s []).take j).foldl (fun B m=>qo B s m) B=B1
  len:B1.length=N.length
  bound:∀ t,(B1.getD t []).length<=1000 * s + j
theorem N8.start:N8 N 0 (List.replicate N.length []):=⟨rfl,by simp,fun t=>by
  by_cases h:t < N.length <;> simp [XJ,h]⟩
theorem Jn.start (h:N8 N s B):Jn N s B 0 B:=⟨h,rfl,h.len,h.bound⟩
theorem Jn.step (h:Jn N s B j B1) (hj:j < (N.getD s []).length) (hm:0<=(N.getD s []).getD j 0->((N.getD s []).getD j 0).toNat < N.length):Jn N s B (j + 1) (qo B1 s ((N.getD s []).getD j 0)) :=
  ⟨h.out,by rw [<- fP (z:=0) hj,SJ,h.run];rfl,by rw [wx];exact h.len,ww h.bound fun q=>by rw [h.len];exact hm q⟩
theorem Jn.yes (h:Jn N s B j B1) (hj:j < (N.getD s []).length) (hm:0<=(N.getD s []).getD j 0->((N.getD s []).getD j 0).toNat < N.length) (q:0<=(N.getD s []).getD j 0):Jn N s B (j + 1) (B1.set ((N.getD s []).getD j 0).toNat (B1.getD ((N.getD s []).getD j 0).toNat [] ++ [(s:Int)])):=by
  have:=h.step hj hm;rwa [Oq q] at this
theorem Jn.no (h:Jn N s B j B1) (hj:j < (N.getD s []).length) (hm:0<=(N.getD s []).getD j 0->((N.getD s []).getD j 0).toNat < N.length) (q:¬ 0<=(N.getD s []).getD j 0):Jn N s B (j + 1) B1:=by
  have:=h.step hj hm;rwa [UG q] at this
theorem N8.next (h:Jn N s B j B1) (hj:(N.getD s []).length=j) (hk:j<=1000):N8 N (s + 1) B1 :=
  ⟨by rw [Ty,SJ,h.out.run];show jW N B s=B1;rw [jW,<- h.run,<- hj,Ry],h.len,fun t=>by have:=h.bound t;omega⟩
theorem N8.fin (h:N8 N s B) (hs:s=N.length):B=df N:=by subst hs;exact h.run.symm
theorem QS {s p:Int} {t:Nat}:p ∈ (qo B s m).getD t [] ↔ p ∈ B.getD t []\/(0<=m/\m.toNat=t/\t < B.length/\p=s):=by
  unfold qo;split
  · rename_i q
    by_cases hm:m.toNat < B.length
    · rw [dl hm]
      split
      · rename_i e;subst e
        rw [VJ,XW]
        exact ⟨fun h=>h.imp id fun z=>⟨q,rfl,hm,z⟩,fun h=>h.imp id fun z=>z.2.2.2⟩
      · rename_i e
        exact ⟨.inl,fun h=>h.elim id fun z=>absurd z.2.1.symm e⟩
    · rw [List.set_eq_of_length_le O]
      exact ⟨.inl,fun h=>h.elim id fun z=>absurd z.2.2.1 O⟩
  · exact ⟨.inl,fun h=>h.elim id fun z=>absurd z.1 ‹_›⟩
theorem uQ {s:Int}:∀ (row:List Int) (B:List (List Int)),(row.foldl (fun B m=>qo B s m) B).length=B.length
  | [],_=>rfl
  | a :: row,B=>by rw [Tj,uQ row];exact wx
theorem zp {s p:Int} {t:Nat}:∀ (row:List Int) (B:List (List Int)),p ∈ (row.foldl (fun B m=>qo B s m) B).getD t [] ↔ p ∈ B.getD t []\/((t:Int) ∈ row/\t < B.length/\p=s)
  | [],B=>by simp
  | a :: row,B=>by
    rw [Tj,zp row,QS,wx,Vy]
    constructor
    · rintro ((h | ⟨h1,h2,h3,h4⟩) | ⟨h1,h2,h3⟩)
      · exact .inl h
      · exact .inr ⟨.inl O,h3,h4⟩
      · exact .inr ⟨.inr h1,h2,h3⟩
    · rintro (h | ⟨h1 | h1,h2,h3⟩)
      · exact .inl (.inl h)
      · exact .inl (.inr ⟨by omega,by omega,h2,h3⟩)
      · exact .inr ⟨h1,h2,h3⟩
theorem zq {p:Int} {t:Nat}:∀ (L:List Nat) (B:List (List Int)),p ∈ (L.foldl (jW N) B).getD t [] ↔ p ∈ B.getD t []\/(t < B.length/\∃ s ∈ L,p=(s:Int)/\(t:Int) ∈ N.getD s [])
  | [],B=>by simp
  | a :: L,B=>by
    rw [Tj,zq L,jW,zp,uQ]
    constructor
    · rintro ((h | ⟨h1,h2,h3⟩) | ⟨h1,s,h2,h3⟩)
      · exact .inl h
      · exact .inr ⟨h2,a,VX,h3,h1⟩
      · exact .inr ⟨h1,s,VZ _ h2,h3⟩
    · rintro (h | ⟨h1,s,h2,h3,h4⟩)
      · exact .inl (.inl h)
      · rcases Vy.1 h2 with rfl | h2
        · exact .inl (.inr ⟨h4,h1,h3⟩)
        · exact .inr ⟨h1,s,h2,h3,h4⟩
theorem qH {p:Int} {t:Nat}:p ∈ (df N).getD t [] ↔ t < N.length/\∃ s,s < N.length/\p=(s:Int)/\(t:Int) ∈ N.getD s []:=by
  rw [df,zq]
  have e:(List.replicate N.length ([]:List Int)).getD t []=[]:=by by_cases h:t < N.length <;> simp [XJ,h]
  rw [e];simp
theorem ta:(df N).length=N.length:=by
  have:∀ (L:List Nat) (B:List (List Int)),(L.foldl (jW N) B).length=B.length:=by
    intro L
    induction L with
    | nil=>intro B;rfl
    | cons a L ih=>intro B;rw [Tj,ih,jW,uQ]
  rw [df,this];simp
theorem CX {s m:Int} {c:Nat} (h:∀ t,(B.getD t []).length<=c):∀ t,((qo B s m).getD t []).length<=c + 1:=fun t=>by
  by_cases hm:m.toNat < B.length
  · exact ww h (fun _=>hm) t
  · have:=h t
    unfold qo;split
    · rw [List.set_eq_of_length_le O];omega
    · omega
theorem vq {s:Int}:∀ (row:List Int) (B:List (List Int)) (c:Nat),(∀ t,(B.getD t []).length<=c)->∀ t,((row.foldl (fun B m=>qo B s m) B).getD t []).length<=c + row.length
  | [],B,c,h=>h
  | a :: row,B,c,h=>fun t=>by
    have:=vq (s:=s) row (qo B s a) (c + 1) (CX h) t
    rw [Tj,Xq];omega
theorem vr {k:Nat} (hk:∀ s,(N.getD s []).length<=k):∀ (L:List Nat) (B:List (List Int)) (c:Nat),(∀ t,(B.getD t []).length<=c)->∀ t,((L.foldl (jW N) B).getD t []).length<=c + k * L.length
  | [],B,c,h=>fun t=>by have:=h t;simpa using this
  | a :: L,B,c,h=>fun t=>by
    have h1:=vr hk L (jW N B a) (c + k) (fun t=>by have:=vq (s:=(a:Int)) (N.getD a []) B c h t;have:=hk a;unfold jW;omega) t
    rw [Tj,Xq,Nat.mul_succ];omega
theorem Gx {k:Nat} (hk:∀ s,(N.getD s []).length<=k) (t:Nat):((df N).getD t []).length<=k * N.length:=by
  have:=vr hk (List.range N.length) (List.replicate N.length []) 0 (fun t=>by by_cases h:t < N.length <;> simp [XJ,h]) t
  rw [Qz] at this;unfold df;omega
theorem yM.rows {k:Nat} {acc:List Bool} (h:yM k acc N) (s:Nat):(N.getD s []).length<=400:=by
  by_cases q:s < N.length
  · have:=h.row s q;have:=h.sym;omega
  · simp [XJ,q]
theorem yM.back {k:Nat} {acc:List Bool} (h:yM k acc N) (t:Nat):((df N).getD t []).length<=12000000:=by
  have:=Gx h.rows t;have:=h.num;omega
structure n5 (n:Nat) (sn:List Bool) (Q:List Int):Prop where
  len:sn.length=n
  nd:Q.Nodup
  rng:∀ q ∈ Q,0<=q/\q < n
  is:∀ p,p < n->sn.getD p false=decide ((p:Int) ∈ Q)
variable {sn:List Bool} {Q Q1:List Int} {acc:List Bool} {i:Nat}
theorem n5.nil:n5 n (List.replicate n false) []:=⟨by simp,List.nodup_nil,(fun _ h=>by cases h),fun p hp=>by simp [hp]⟩
theorem n5.add (h:n5 n sn Q) {p:Int} (hp:0<=p/\p < n) (hn:p ∉ Q):n5 n (sn.set p.toNat true) (Q ++ [p]) :=
  ⟨by simpa using h.len,lh h.nd hn,kB h.rng hp,fun q hq=>by
    rw [dl (by rw [h.len];omega)]
    split
    · rename_i e;subst e;simp;exact .inr O
    · rename_i e
      rw [h.is q hq]
      congr 1
      rw [VJ,XW,eq_iff_iff]
      exact ⟨.inl,fun z=>z.elim id fun z=>absurd O e⟩⟩
theorem n5.qlen (h:n5 n sn Q):Q.length<=n:=by
  have:=rx (l:=Q.map Int.toNat) (n:=n) ?_ ?_
  · simpa using this
  · rw [Rv,RZ]
    exact List.Pairwise.imp_of_mem (fun {a c} ha hc hac e=>hac (by have:=h.rng a ha;have:=h.rng c hc;omega)) h.nd
  · intro x hx
    obtain ⟨a,ha,rfl⟩:=Vk.1 hx
    have:=h.rng a ha;omega
theorem yN:o8 acc (i + 1)=o8 acc i ++ (if acc.getD i false then [(i:Int)] else []):=by
  rw [o8,Ty,List.filter_append,VV]
  congr 1
  by_cases h:acc.getD i false=true
  · rw [Xw h,List.filter_cons,Xw h];rfl
  · rw [Xy h,List.filter_cons,Xy h];rfl
theorem Oh (h:Q=o8 acc i) (q:acc.getD i false=true):Q ++ [(i:Int)]=o8 acc (i + 1):=by rw [h,yN,Xw q]
theorem UC (h:Q=o8 acc i) (q:acc.getD i false=false):Q=o8 acc (i + 1):=by rw [h,yN,q];simp
theorem n8 {q:Int}:q ∈ o8 acc i ↔ ∃ s,s < i/\acc.getD s false=true/\q=(s:Int):=by
  simp only [o8,Vk,SK,TY]
  exact ⟨fun ⟨s,⟨h1,h2⟩,h3⟩=>⟨s,h1,h2,h3.symm⟩,fun ⟨s,h1,h2,h3⟩=>⟨s,⟨h1,h2⟩,h3.symm⟩⟩
theorem Og:(i:Int) ∉ o8 acc i:=fun h=>by obtain ⟨s,h1,_,h3⟩:=n8.1 h;omega
structure CJ (acc:List Bool) (N:List (List Int)) (i:Nat) (sn:List Bool) (Q:List Int):Prop where
  seen:n5 N.length sn Q
  le:i<=Q.length
  fin:∃ f,f + i=N.length + 1/\ia (df N) f i Q=gu acc N
structure CM (acc:List Bool) (N:List (List Int)) (i:Nat) (sn:List Bool) (Q:List Int) (j:Nat) (sn1:List Bool) (Q1:List Int):Prop where
  out:CJ acc N i sn Q
  lt:i < Q.length
  seen:n5 N.length sn1 Q1
  run:(((df N).getD (Q.getD i 0).toNat []).take j).foldl eU Q=Q1
variable {sn1:List Bool}
theorem CJ.start (h:n5 N.length sn (o8 acc acc.length)):CJ acc N 0 sn (o8 acc acc.length):=⟨h,XZ _,_,rfl,rfl⟩
theorem k8:∀ (P Q:List Int),Q <+: P.foldl eU Q
  | [],Q=>Tx _
  | p :: P,Q=>by
    rw [Tj]
    refine List.IsPrefix.trans ?_ (k8 P (eU Q p))
    unfold eU;split
    · exact Tx _
    · exact SZ _ _
theorem mo {B:List (List Int)}:∀ (f i:Nat) (Q:List Int),Q <+: ia B f i Q
  | 0,_,_=>Tx _
  | f + 1,i,Q=>by
    unfold ia;split
    · exact (k8 _ _).trans (mo f _ _)
    · exact Tx _
theorem CJ.pre (h:CJ acc N i sn Q):Q <+: gu acc N:=by obtain ⟨f,_,e⟩:=h.fin;rw [<- e];exact mo _ _ _
theorem CJ.get (h:CJ acc N i sn Q) (hi:i < Q.length):(gu acc N).getD i 0=Q.getD i 0/\i < (gu acc N).length:=⟨i9 h.pre hi,SX hi h.pre.length_le⟩
theorem CJ.at (h:CJ acc N i sn Q) (hi:i < Q.length):0<=Q.getD i 0/\(Q.getD i 0).toNat < N.length:=by have:=h.seen.rng _ (aX (d:=(0:Int)) hi);omega
theorem CM.start (h:CJ acc N i sn Q) (hi:i < Q.length):CM acc N i sn Q 0 sn Q:=⟨h,hi,h.seen,rfl⟩
theorem CM.rng (hj:j < ((df N).getD (Q.getD i 0).toNat []).length):0<=((df N).getD (Q.getD i 0).toNat []).getD j 0/\(((df N).getD (Q.getD i 0).toNat []).getD j 0).toNat < N.length:=by
  obtain ⟨_,s,h2,h3,_⟩:=qH.1 (aX (d:=(0:Int)) hj)
  rw [h3];exact ⟨by omega,by simpa using h2⟩
theorem CM.next (h:CM acc N i sn Q j sn1 Q1) (hj:j < ((df N).getD (Q.getD i 0).toNat []).length) {Q2:List Int} {V:List Bool} (hs:n5 N.length V Q2) (e:eU Q1 (((df N).getD (Q.getD i 0).toNat []).getD j 0)=Q2):CM acc N i sn Q (j + 1) V Q2 :=
  ⟨h.out,h.lt,hs,by rw [<- fP (z:=(0:Int)) hj,SJ,h.run];exact e⟩
theorem CM.old (h:CM acc N i sn Q j sn1 Q1) (hj:j < ((df N).getD (Q.getD i 0).toNat []).length) (q:(!sn1.getD (((df N).getD (Q.getD i 0).toNat []).getD j 0).toNat false)=false):CM acc N i sn Q (j + 1) sn1 Q1:=by
  have hr:=CM.rng hj
  refine h.next hj h.seen ?_
  rw [h.seen.is _ hr.2] at q
  rw [eU,Xw]
  simp only [Bool.not_eq_false',Vq] at q
  rwa [show ((((df N).getD (Q.getD i 0).toNat []).getD j 0).toNat:Int)=((df N).getD (Q.getD i 0).toNat []).getD j 0 by omega] at q
theorem CM.new (h:CM acc N i sn Q j sn1 Q1) (hj:j < ((df N).getD (Q.getD i 0).toNat []).length) (q:(!sn1.getD (((df N).getD (Q.getD i 0).toNat []).getD j 0).toNat false)=true):CM acc N i sn Q (j + 1) (sn1.set (((df N).getD (Q.getD i 0).toNat []).getD j 0).toNat true) (Q1 ++ [((df N).getD (Q.getD i 0).toNat []).getD j 0]):=by
  have hr:=CM.rng hj
  rw [h.seen.is _ hr.2] at q
  simp only [Bool.not_eq_true',VK] at q
  rw [show ((((df N).getD (Q.getD i 0).toNat []).getD j 0).toNat:Int)=((df N).getD (Q.getD i 0).toNat []).getD j 0 by omega] at q
  exact h.next hj (h.seen.add O q) (by rw [eU,Xy q])
theorem CJ.next (h:CM acc N i sn Q j sn1 Q1) (hj:((df N).getD (Q.getD i 0).toNat []).length=j):CJ acc N (i + 1) sn1 Q1:=by
  obtain ⟨f,hf,e⟩:=h.out.fin
  have h1:=h.out.seen.qlen
  have h2:=h.lt
  obtain ⟨f,rfl⟩:∃ g,f=g + 1:=⟨f - 1,by omega⟩
  have hr:=h.run
  rw [<- hj,Ry] at hr
  have hp:Q <+: Q1:=by rw [<- hr];exact k8 _ _
  refine ⟨h.seen,by have:=hp.length_le;omega,f,by omega,?_⟩
  rw [<- e,ia,Xw h2,hr]
theorem CJ.end (h:CJ acc N i sn Q) (hi:Q.length<=i):Q=gu acc N/\i=(gu acc N).length:=by
  obtain ⟨f,hf,e⟩:=h.fin
  have h1:=h.seen.qlen
  have h2:=h.le
  have e2:Q=gu acc N:=by
    rw [<- e]
    cases f with
    | zero=>rfl
    | succ f=>rw [ia,Xy O]
  exact ⟨e2,by rw [<- e2];omega⟩
end
def jS (A B:AH) (bo:Nat) (v:Value):Prop:=∀ b,blk v=some b->A.n<=b/\¬ nY bo B b
section
variable {A B C E M:AH} {bo b:Nat} {v u vY:Value} {cY:Nat} {n:Nat} {xs:List Value}
theorem jS.off (h:jS A C bo v) (g:C.get bo=some (.row true [vY] cY)):NY v [some bo,blk vY]:=fun c hc=>by
  have:=(h c hc).2
  refine rP (fun q=>this (.inl q)) (px (fun q=>this (.inr ⟨_,_,g,q⟩)) nZ)
theorem jS.ne (h:jS A C bo v):blk v ≠ some bo:=fun q=>(h bo q).2 (.inl Z)
theorem jS.yield (h:jS A C bo v) (fr:ql C v n xs) (g:C.get bo=some (.row true [vY] cY)) (hR:cG bo (C.hide [some bo,blk vY]) E):jS A E bo v:=fun b hb=>⟨(h b hb).1,fun z=>by
  obtain ⟨o,ho⟩:=fr.blkget hb
  have:=hR.ow b z
  rw [ce ho (h.off g b hb)] at this;cases this⟩
theorem jS.nm (hs:jS A C bo v) (hq:jS A C bo u) (h:b < A.n\/nY bo C b):some b ∉ [blk v,blk u]:=by
  refine px (fun z=>?_) (px (fun z=>?_) nZ)
  · have:=hs b z;rcases h with h | h;omega;exact this.2 h
  · have:=hq b z;rcases h with h | h;omega;exact this.2 h
theorem jS.next {v':Value} (hs:jS A C bo v) (hq:jS A C bo u) (g:C.get bo=some (.row true [vY] cY)) (l:∀ b,blk vY=some b->∃ o,C.get b=some o) (gE:E.get bo=some (.row true [vY] cY))
    (nj:∀ b,blk v'=some b->(C.hide [blk v,blk u]).get b=none) (lo:∀ b,blk v'=some b->A.n<=b):jS A E bo v':=fun b hb=>⟨lo b hb,fun z=>by
  have z2:nY bo C b:=z.same (by rw [gE,g])
  have hex:∃ o,C.get b=some o:=by
    rcases z2.val g with rfl | q
    · exact ⟨_,g⟩
    · exact l b q
  obtain ⟨o,ho⟩:=hex
  have:=nj b hb
  rw [ce ho (jS.nm hs hq (.inr z2))] at this;cases this⟩
theorem jS.start (g:C.get bo=some (.row true [vY] cY)) (l:∀ b,blk vY=some b->∃ o,A.get b=some o) (gA:A.get bo=some (.row true [vY] cY)) (nj:∀ b,blk v=some b->A.get b=none) (lo:∀ b,blk v=some b->A.n<=b):jS A C bo v:=fun b hb=>⟨lo b hb,fun z=>by
  rcases z.val g with rfl | q
  · have:=nj _ hb;rw [gA] at this;cases this
  · obtain ⟨o,ho⟩:=l b q;have:=nj _ hb;rw [ho] at this;cases this⟩
theorem cG.keep (h:cG bo M C) (le:M.le E) (g:C.get bo=some (.row true [vY] cY)) (gE:E.get bo=some (.row true [vY] cY)):cG bo M E:=⟨le,h.wf,fun b hb=>h.ow b (hb.same (by rw [gE,g]))⟩
theorem QJ {s:Value} (h:∀ b,blk s=some b->A.n<=b) (ap:nA C s n xs v E) (hn:A.n<=C.n):∀ b,blk v=some b->A.n<=b:=fun b hb=>(ap.blk b hb).elim (h b) fun q=>Xj hn q
theorem Zk:∀ b,blk (.slice none 0 0)=some b->A.n<=b:=fun _ q=>by cases q
end
theorem oa:dM prog 160=some false:=by kernel_rfl
theorem ZD (b:Nat) (rwb:Bool) (capb k:Nat) (av nv fv bv:Value) (acc:List Bool) (N:List (List Int)) (rows:List Value) (A:AH) (hok:yM k acc N) (hb:A.get b=some (.row rwb [num (k:Int),av,nv,fv,bv] capb)) (hav:bz A 1 av (bQ acc)) (hnv:bz A 1 nv (dx rows)) (hrl:rows.length=N.length) (hF:∀ i,i < N.length->bz A 1 (rows.getD i undef) (cf (N.getD i []))):bH prog 200 #[.pointer (some ⟨b,0,none⟩)] A (fun v A1=>∃ rows2,A.le A1/\A1.wf/\Fresh A A1 v 1 (dx rows2)/\iZ A A1 rows2 (df N)/\au v rows2):=by
 refine aN (e:=[(0,.pointer (some ⟨b,0,none⟩))]) (args:=[.pointer (some ⟨b,0,none⟩)]) call200 func200 Z results200 ntmps200 Z Z Z (fun wf=>?_);have ad:=AH.le.refl A;obtain ⟨⟨dz,dD⟩,hal,hnl,hrow,hval⟩:=hok;refine ak.sq fun h2=>.region<|.I Z<|.nil<|h2<|.sq fun h4=>.region<|.J Z<|.p (cW Z)<|.p (ae j0 gV U Z) ?_;refine Ops.p (ah io Z Z (ad.g hb) Z)<|.p (bx (n:=acc.length) jQ Z (hav.le ad) O (fH _))<|.m (fun bR=>jo (n:=acc.length) (k:=acc.length) wf ad rfl rfl jg dX Gi xb rfl (XX _) (by show 24 * _<=_;omega) O fun A7 b6 bY aD=>?_);rw [qQ] at aD;have ac:=ad.trans bY.le;have aS:iZ A A7 (List.replicate acc.length (Value.slice none 0 0)) (List.replicate acc.length []):=iZ.nils;refine bR<|.I Z<|.nil<|h4<|.sq fun bm=>.sq fun bp=>.region<|.J Z<|.p (cW Z)<|.p (ae rn fC U Z) ?_;refine Ops.p (ah ie Z Z (ac.g hb) Z)<|.p (bx (n:=rows.length) jg Z (hnv.le ac) O (fp _))<|.J Z<|.nil<|bp<|.block<|.loop (X:=Nat × Value × List Value × List (List Int)) (fun ⟨s,ov,R,Bk⟩=>[(3,ov),(17,nv),(18,num ((rows.length:Nat):Int)),(19,num ((s:Nat):Int))]) (fun ⟨s,ov,R,Bk⟩ B=>(s<=N.length/\N8 N s Bk)/\A.le B/\Fresh A B ov 1 (dx R)/\iZ A B R Bk/\au ov R) (fun ⟨s,ov,R,Bk⟩=>N.length - s) (⟨0,.slice (some ⟨b6,0,none⟩) acc.length acc.length,List.replicate acc.length (Value.slice none 0 0),List.replicate acc.length []⟩) (mc Z Z Z Z) (⟨⟨XZ _,by (rw [hal];exact N8.start)⟩,ac,aD,aS,qY⟩) ?_;rintro ⟨s,ov,R,Bk⟩ B17 ⟨⟨hs,hbk⟩,a9,a8,a6,a2⟩;refine ak.wf fun b5=>?_;have hro:=fun q:s < N.length=>hrow s q;have hva:=fun x (q:s < N.length) (z:x < k)=>hval s x q z;refine ak.sq fun br=>.region<|.p (bK Z Z)<|.nil<|br<|.sq fun bu=>.if rfl (fun c3=>?_) (fun c3=>?_)
 ·refine ak.skip<|bu<|.sq fun bA=>.block<|.sq fun bB=>.region<|.J Z ?_;obtain ⟨d1,dj,cX,dZ,cP,dO,dG,b8,bT,bb,ck,aI⟩:=bz.at (i:=s) (hnv.le a9) Of O;refine Ops.p (al jg dX Z b8 Z bT)<|.p (ah jc Z Z bb ((cb aI).trans (c6 O)))<|.I Z<|.I Z<|.nil<|bB<|.sq fun bC=>.region<|.J Z<|.p (bx (n:=((N.getD s [])).length) cQ Z ((hF s O).le a9) O (c9 _)) ?_;refine Ops.J Z<|.nil<|bC<|.block<|.loop (X:=Nat × Value × List Value × List (List Int)) (fun ⟨j,a4,R1,Bk1⟩=>[(3,a4),(4,num ((s:Nat):Int)),(17,nv),(18,num ((rows.length:Nat):Int)),(19,num ((s:Nat):Int)),(24,rows.getD s undef),(25,num ((((N.getD s [])).length:Nat):Int)),(26,num ((j:Nat):Int))]) (fun ⟨j,a4,R1,Bk1⟩ B=>(j<=k/\Jn N s Bk j Bk1)/\A.le B/\Fresh A B a4 1 (dx R1)/\iZ A B R1 Bk1/\au a4 R1) (fun ⟨j,a4,R1,Bk1⟩=>k - j) (⟨0,ov,R,Bk⟩) (un Z Z Z Z Z Z Z Z) (⟨⟨XZ _,Jn.start hbk⟩,a9,a8,a6,a2⟩) ?_;rintro ⟨j,a4,R1,Bk1⟩ B32 ⟨⟨hj,hbj⟩,aa,a1,a0,V⟩;refine ak.wf fun aB=>?_;have cH:R1.length=Bk1.length:=by first | exact iZ.len ‹_›
  have cC:=hbj.len;have hvj:=fun z:j < k=>hva j O z;simp only [c5] at hvj;have hbd:=hbj.bound ((N.getD s []).getD j 0).toNat;refine ak.sq fun bD=>.region<|.p (bK Z Z)<|.nil<|bD<|.sq fun bL=>.if rfl (fun c4=>?_) (fun c4=>?_)
  ·refine ak.skip<|bL<|.sq fun aF=>.block<|.sq fun bM=>.region ?_;obtain ⟨d2,dv,cZ,e0,cS,dS,dI,b9,bU,bc,ct,aP⟩:=bz.at (i:=j) ((hF s O).le aa) O2 O;refine Ops.p (al cQ cl Z b9 Z bU)<|.p (ah dK Z Z bc ((cb aP).trans (bJ O)))<|.I Z<|.nil<|bM<|.sq fun bO=>.region<|.J Z<|.p (lu Z Z)<|.nil ?_;refine bO<|.if rfl (fun c7=>?_) (fun c7=>?_)
   ·refine ak.region<|.J Z<|.J Z<|.J Z<|.J Z ?_;obtain ⟨d3,dw,d0,e1,cT,dV,dJ,ba,bV,bd,cv,aR⟩:=bz.at (i:=(((N.getD s [])).getD j 0).toNat) a1.slc Of O;refine Ops.p (al jg dX Z ba (go O) bV)<|.p (ah jc Z Z bd ((cb aR).trans (c6 O)))<|.J Z<|.m (fun aZ=>aE (c:=[num ((s:Nat):Int)]) aB rfl (aq cQ cl z3 rfl U U rfl) fun A50 dd a3=>?_);have cK:=a0.ne_new aB a3.lo;have ai:=a1.le a3.le;have a7:=a0.le a3.le;refine aZ<|.m (fun b0=>cm (ys:=[num ((s:Nat):Int)]) rfl rfl cQ cl jq z3 rfl U cQ (fun _ h=>by cases h) (a7.fr ((((N.getD s [])).getD j 0).toNat) O).own (bG (n:=1) a3.get Z) rfl rfl (by show (_ + _) * 8<=_;simp only [aj,Xq,Xx];(try simp only [Xz,Xq,Xx]);omega) O3 fun A58 e3 a5=>?_);rw [show ([num ((s:Nat):Int)]:List Value)=cf [((s:Nat):Int)] from rfl,cJ] at a5;obtain ⟨ap,b2⟩:=Fresh.grow (a7.fr ((((N.getD s [])).getD j 0).toNat) O) (aa.trans a3.le) wf a5;have b3:=aL.appd (cF V (s:=(((N.getD s [])).getD j 0).toNat) (by have:=a7.len;omega)).symm ai.own a3.wf a5;have aY:=ai.appd a5 (cF V (s:=(((N.getD s [])).getD j 0).toNat) (by have:=a7.len;omega)).symm;have aA:=jD (s:=(((N.getD s [])).getD j 0).toNat) V b3.symm;have aT:=a7.appRow a3.wf O a5 ap;obtain ⟨az,ay,ag,cc,_⟩:=ap.own.slice;subst cc;refine b0 ?_;obtain ⟨b7,dW,di,ch,cV,aC,aG,bl,e4,c0,e2,bS⟩:=aY.at1 (x:=(((N.getD s [])).getD j 0).toNat) Of;rw [bw] at aG;refine Ops.p (al jg dX Z aC (go O) (by rw [aG];omega))<|.m (fun b1=>aU (off:=(((N.getD s [])).getD j 0).toNat) (c':=ch.set ((((N.getD s [])).getD j 0).toNat) (.slice az ay ag)) a5.wf rfl (by simp) rfl rfl dX bl (by show ((((N.getD s [])).getD j 0).toNat) + 1<=_;omega) rfl rfl fun A72 ab=>?_);have aV:=aT.keep ab.keep (fun r hr=>aA r hr b7 (by rw [aC];rfl));have ar:=bS (.slice az ay ag) A72 ab;rw [tN] at ar;refine b1<|.nil<|aF<|.region<|.p (bk (b:=1) Z Z O)<|.J Z<|.nil ?_;exact ⟨⟨j + 1,a4,R1.set ((((N.getD s [])).getD j 0).toNat) (Value.slice az ay ag),Bk1.set ((((N.getD s [])).getD j 0).toNat) (((Bk1.getD ((((N.getD s [])).getD j 0).toNat) [])) ++ [((s:Nat):Int)])⟩,un Z Z Z Z Z Z Z Z,Z,⟨⟨by omega,by exact hbj.yes O O ‹_›⟩,(an b2 wf c0 ab.n ab.keep),ar,aV,aA⟩,O1⟩
   refine ak.skip<|aF<|.region<|.p (bk (b:=1) Z Z O)<|.J Z<|.nil ?_;exact ⟨⟨j + 1,a4,R1,Bk1⟩,un Z Z Z Z Z Z Z Z,Z,⟨⟨by omega,by exact hbj.no O O ‹_›⟩,aa,a1,a0,V⟩,O1⟩
  refine ak.exit<|bA<|.region<|.p (bk (b:=1) Z Z O)<|.J Z<|.nil ?_;exact ⟨⟨s + 1,a4,R1,Bk1⟩,mc Z Z Z Z,Z,⟨⟨by omega,N8.next hbj O O⟩,aa,a1,a0,V⟩,O1⟩
 refine ak.exit<|bm<|.sq fun bP=>.region<|.J Z<|.I Z<|.nil<|bP<|.rt (by exact aH Z (⟨_,a9,b5,a8,kw a6 (hbk.fin O),a2⟩))
theorem ZN (b:Nat) (A:AH):bH prog 180 #[.pointer (some ⟨b,0,none⟩)] A (fun v A1=>∃ b1,v=.func (.func 199) #[] #[.pointer (some ⟨b1,0,none⟩)]/\A.le A1/\A1.wf/\A1.get b1=some (.row true [.pointer (some ⟨b,0,none⟩)] 1)/\A.get b1=none):=by
 refine aN (e:=[(0,.pointer (some ⟨b,0,none⟩))]) (args:=[.pointer (some ⟨b,0,none⟩)]) call180 func180 Z results180 ntmps180 Z Z Z (fun wf=>?_);have V:=AH.le.refl A;refine ak.sq fun h2=>.region<|.m (fun X=>dQ wf rfl rfl fun A5 b4 h=>?_);refine X<|.I Z<|.nil<|h2<|.sq fun h9=>.region<|.p (nu Z Z)<|.I Z<|.nil<|h9 ?_;refine ak.ret ?_;repeat first | with_reducible refine cz ?_ | with_reducible refine cj ?_
 exact aH Z (⟨b4,Z,(V.trans h.le),h.wf,h.get,(bh wf (Xj V.n h.lo))⟩)
theorem Xl (a0 lp:Nat) (J:Nat->AH->Prop) (b:Nat) (rwb:Bool) (capb k:Nat) (av nv fv bv:Value) (acc:List Bool) (N:List (List Int)) (rows:List Value) (M A:AH) (b1 k1:Nat) (w1:Bool) (hP:cG a0 M A) (eg:J 0 A) (cK:M.get b1=some (.row w1 [.pointer (some ⟨b,0,none⟩)] k1)) (hok:yM k acc N) (hb:M.get b=some (.row rwb [num (k:Int),av,nv,fv,bv] capb)) (hav:bz M 1 av (bQ acc)) (hnv:bz M 1 nv (dx rows)) (hrl:rows.length=N.length) (hF:∀ i,i < N.length->bz M 1 (rows.getD i undef) (cf (N.getD i []))) (hclo:∀ i C C2,J i C->C2.wf->C.n<=C2.n->(∀ b o,(b < A.n\/nY a0 C b)->C.get b=some o->C2.get b=some o)->J i C2) (hv:∀ i C,J i C->∃ v cap,C.get a0=some (.row true [v] cap)/\∀ b,blk v=some b->∃ o,C.get b=some o) (hy:∀ k C M2,k < (gu acc N).length->C.wf->J k C->cG a0 M2 C->mN prog lp #[num ((gu acc N).getD k 0)] C (fun v C2=>v=.bool true/\J (k + 1) C2/\C2.wf/\cG a0 M2 C2)):bH prog 199 #[.func (.yield lp) #[] #[],.pointer (some ⟨b1,0,none⟩)] A (fun v A1=>J (gu acc N).length A1/\A1.wf/\cG a0 M A1):=by
 refine aN (e:=[(0,.func (.yield lp) #[] #[]),(1,.pointer (some ⟨b1,0,none⟩))]) (args:=[.func (.yield lp) #[] #[],.pointer (some ⟨b1,0,none⟩)]) call199 func199 Z results199 ntmps199 Z Z Z (fun wf=>?_);have b6:=hP.le;have dj:=hok;obtain ⟨⟨j2,j3⟩,hal,hnl,hrow,hval⟩:=hok;obtain ⟨vX,cX,gX,lX⟩:=hv _ _ eg;have hbl:=ta (N:=N);refine ak.sq fun h2=>.region<|.p (ah oa Z Z (b6.g cK) Z)<|.m (fun gN=>ax Z (ZD b _ _ k av nv fv bv acc N rows A dj (b6.g hb) (hav.le b6) (hnv.le b6) hrl (fun i hi=>(hF i hi).le b6)) ?_);rintro v4 A5 ⟨bd,dI,bM,bO,bm,fT⟩;have h3:=b6.trans dI;have c0:=(AH.le.refl A).trans dI;have xr:=bO;have xf:=bm;have xs:=fT;have gZ:=c0.get _ _ gX;have aV:M.le (A5.hide [some a0,blk vX]):=cy h3 (fun b hb=>by simp only [Vy,SQ,or_false,Option.some.injEq] at hb;rcases hb with rfl | hb;exact hP.ow _ (.inl Z);exact hP.ow _ (.inr ⟨_,_,gX,hb.symm⟩));have hbk:bz (A5.hide [some a0,blk vX]) 1 v4 (dx bd):=sJ bO gX lX (fun b h=>bO.lo b h);have hFK:∀ i,i < N.length->bz (A5.hide [some a0,blk vX]) 1 (bd.getD i undef) (cf ((df N).getD i [])):=fun i hi=>sJ (bm.fr i (by rw [ta];exact hi)) gX lX (fun b h=>(bm.fr i (by rw [ta];exact hi)).lo b h);have hrb:bd.length=N.length:=by rw [bm.len,ta]
 have aR:=cL A5 [some a0,blk vX];have bu:=cx (bs:=[some a0,blk vX]) bM;have dd:(A5.hide [some a0,blk vX]).get a0=none:=cD (by simp);have di:∀ b,blk vX=some b->(A5.hide [some a0,blk vX]).get b=none:=fun b h=>cD (by simp [h]);have bU:A.n<=(A5.hide [some a0,blk vX]).n:=c0.n;generalize hM1:A5.hide [some a0,blk vX]=M1 at aV hbk hFK aR bu dd di bU;refine gN<|.I Z<|.nil<|h2<|.sq fun g8=>.region<|.p (ah oa Z Z (aR.get _ _ (aV.get _ _ cK)) Z)<|.p (cW Z)<|.p (ae j0 gV U Z)<|.p (ah io Z Z (aR.get _ _ (aV.get _ _ hb)) Z) ?_;refine Ops.p (bx (n:=acc.length) jQ Z ((hav.le aV).le aR) O (fH _))<|.m (fun f2=>jo (n:=acc.length) (k:=acc.length) bM aR rfl rfl jQ kN z4 DB rfl (XX _) (by show 1 * _<=_;omega) O fun A13 fX aY ck=>?_);rw [pO] at ck;have bc:=ne_new bM gZ aY.lo;have cP:=bh wf (Xj c0.n aY.lo);have dJ:=Xj aR.n aY.lo;have g9:=aY.le.g gZ;have ba:=aR.trans aY.le;have fe:=c0.trans aY.le;refine f2<|.I Z<|.nil<|g8<|.sq fun gc=>.region<|.I Z<|.nil<|gc<|.sq fun ge=>?_;refine ak.sq fun gf=>.region<|.p (ah oa Z Z (ba.g (aV.get _ _ cK)) Z)<|.p (cW Z)<|.p (ae j0 gV U Z)<|.p (ah io Z Z (ba.g (aV.get _ _ hb)) Z)<|.p (bx (n:=acc.length) jQ Z ((hav.le aV).le ba) O (fH _))<|.J Z<|.nil<|gf ?_;refine ak.block<|.loop (X:=Nat × List Bool × List Int × Value × Value) (fun ⟨s,sn,Q,sv,qv⟩=>[(0,.func (.yield lp) #[] #[]),(3,v4),(4,sv),(5,qv),(22,av),(23,num ((acc.length:Nat):Int)),(24,num ((s:Nat):Int))]) (fun ⟨s,sn,Q,sv,qv⟩ B=>(s<=acc.length/\n5 N.length sn Q/\Q=o8 acc s)/\M1.le B/\Fresh M1 B sv 1 (bQ sn)/\Fresh M1 B qv 1 (cf Q)/\B.get a0=some (.row true [vX] cX)/\V.blk sv ≠ some a0/\V.blk qv ≠ some a0/\aL sv qv/\A.le B/\(∀ b,V.blk sv=some b->A.get b=none)/\(∀ b,V.blk qv=some b->A.get b=none)/\((∀ b,blk sv=some b->A.n<=b)/\(∀ b,blk qv=some b->A.n<=b))) (fun ⟨s,sn,Q,sv,qv⟩=>acc.length - s) (⟨0,List.replicate acc.length false,[],.slice (some ⟨fX,0,none⟩) acc.length acc.length,.slice none 0 0⟩) (ym Z Z Z Z Z Z Z) (⟨⟨XZ _,by rw [hal];exact n5.nil,rfl⟩,ba,ck,(Fresh.nil M1 A13 1),g9,(fun q=>by cases q;exact bc rfl),(fun q=>by cases q),(aL.symm aL.nil),fe,(fun b q=>by cases q;exact cP),(fun _ q=>by cases q),⟨(fun b q=>by cases q;exact Xj bU dJ),Zk⟩⟩) ?_;rintro ⟨s,sn,Q,sv,qv⟩ B26 ⟨⟨hs,hse,hQ⟩,bb,aP,aI,ab,ar,ap,ac,b0,aC,aB,los,loq⟩;refine ak.wf fun bl=>?_;have hsl:=hse.len;have hql:=hse.qlen;have f9:=hse.add (p:=(s:Int));refine ak.sq fun gg=>.region<|.p (bK Z Z)<|.nil<|gg<|.sq fun gl=>.if rfl (fun h6=>?_) (fun h6=>?_)
 ·refine ak.skip<|gl<|.sq fun ec=>.block<|.sq fun gm=>.region<|.J Z ?_;obtain ⟨YI,iX,iD,k4,ih,k0,j4,g0,h0,g4,hB,ex⟩:=bz.at (i:=s) ((hav.le aV).le bb) Oj O;refine Ops.p (al jQ kN Z g0 Z h0)<|.p (ah um Z Z g4 ((cb ex).trans (dC O)))<|.I Z<|.I Z<|.nil<|gm<|.sq fun gp=>.region<|.J Z<|.nil ?_;refine gp<|.ifB Z (fun h7=>?_) (fun h7=>?_)
  ·refine ak.sq fun gq=>.region<|.J Z<|.J Z ?_;obtain ⟨eb,k2,iV,h9,it,bP,en,g5,kc,h5,k7,gS⟩:=aP.at1 (x:=s) Oj;rw [bi] at en;refine Ops.p (al jQ kN Z bP Z (by rw [en];omega))<|.m (fun f3=>aU (off:=s) (c':=h9.set s (.bool (true))) bl rfl (by simp) rfl rfl kN g5 (by show s + 1<=_;omega) rfl rfl fun A45 aG=>?_);have gs:=aG.k (fun q=>ar (by rw [bP];exact Xk some q.symm)) ab;have eE:=aI.keep aG.keep (ac eb (by rw [bP];rfl));have ct:=gS (.bool (true)) A45 aG;rw [my] at ct;have dv:=an b0 wf (aC eb (by rw [bP];rfl)) aG.n aG.keep;have dD:=an bb bu h5 aG.n aG.keep;refine f3<|.nil<|gq<|.region<|.J Z<|.J Z<|.m (fun f4=>aE (c:=[num ((s:Nat):Int)]) aG.wf rfl (aq cQ cl z3 rfl U U rfl) fun A54 iS ai=>?_);have g7:=bh wf (Xj dv.n ai.lo);have h4:=Xj dD.n ai.lo;have ee:=ai.le.g gs;have cv:=ct.le ai.le;have cC:=eE.le ai.le;have dG:=dD.trans ai.le;have dw:=dv.trans ai.le;refine f4<|.m (fun f6=>cm (ys:=[num ((s:Nat):Int)]) rfl rfl cQ cl jq z3 rfl U cQ (fun _ h=>by cases h) cC.own (bG (n:=1) ai.get Z) rfl rfl (by show (_ + _) * 8<=_;simp only [aj,Xq,Xx];(try simp only [Xz,Xq,Xx]);omega) O3 fun A64 ha az=>?_);rw [show ([num ((s:Nat):Int)]:List Value)=cf [((s:Nat):Int)] from rfl,cJ] at az;obtain ⟨eG,fD⟩:=Fresh.grow cC dG bu az;have gA:=az.keep ap ee;have fI:=az.ne ap ai.wf ee;have fR:=aL.appd (show aL qv sv from (aL.symm ac)) cv.own ai.wf az;have eK:=cv.appd az (aL.symm ac);have fE:=QJ loq az (Xj bU dG.n);have fl:=JM dw wf az aB;have fL:=JN dw wf az aB;refine f6<|.I Z<|.nil<|ec<|.region<|.p (bk (b:=1) Z Z O)<|.J Z<|.nil ?_;exact ⟨⟨s + 1,sn.set s true,Q ++ [((s:Nat):Int)],sv,ha⟩,ym Z Z Z Z Z Z Z,Z,⟨⟨by omega,by exact f9 O (by rw [hQ];exact Og),by exact Oh hQ ‹_›⟩,fD,eK,eG,gA,ar,fI,(aL.symm fR),fl,aC,fL,⟨los,fE⟩⟩,O1⟩
  refine ak.skip<|ec<|.region<|.p (bk (b:=1) Z Z O)<|.J Z<|.nil ?_;exact ⟨⟨s + 1,sn,Q,sv,qv⟩,ym Z Z Z Z Z Z Z,Z,⟨⟨by omega,by exact hse,by exact UC hQ ‹_›⟩,bb,aP,aI,ab,ar,ap,ac,b0,aC,aB,⟨los,loq⟩⟩,O1⟩
 refine ak.exit<|ge<|.sq fun gC=>.region<|.I Z<|.nil<|gC<|.block ?_;have f1:=hclo _ _ _ eg bl b0.n (fun b o _ h=>b0.get b o h);have oS:jS A B26 a0 sv:=jS.start ab lX gX aC los;have oQ:jS A B26 a0 qv:=jS.start ab lX gX aB loq;have b7:M1.le (B26.hide [some a0,blk vX,blk sv,blk qv]):=cy bb (yn dd (uo di (uo aP.lo (uo aI.lo rK))));have frS:Fresh (B26.hide [some a0,blk vX,blk sv,blk qv]) B26 sv 1 (bQ sn):=aP.hide (by simp);have frQ:Fresh (B26.hide [some a0,blk vX,blk sv,blk qv]) B26 qv 1 (cf Q):=aI.hide (by simp);have em:cG a0 (B26.hide [some a0,blk vX,blk sv,blk qv]) B26:=⟨cL _ _,cx bl,fun b hb=>cD (by rcases hb.val ab with rfl | q;simp;simp [q])⟩;have d3:=cL B26 [some a0,blk vX,blk sv,blk qv];have bA:=cx (bs:=[some a0,blk vX,blk sv,blk qv]) bl;have hseQ:Q=o8 acc acc.length:=by rw [hQ,show s=acc.length by omega]
 have f7:CJ acc N 0 sn Q:=by subst hseQ;exact CJ.start hse
 generalize hM2:(B26.hide [some a0,blk vX,blk sv,blk qv])=M2 at b7 frS frQ em d3 bA;refine ak.loop (X:=Nat × List Bool × List Int × Value × Value) (fun ⟨i,b5,Q1,a7,a6⟩=>[(0,.func (.yield lp) #[] #[]),(3,v4),(4,a7),(5,a6),(8,num ((i:Nat):Int))]) (fun ⟨i,b5,Q1,a7,a6⟩ B=>(CJ acc N i b5 Q1)/\M2.le B/\Fresh M2 B a7 1 (bQ b5)/\Fresh M2 B a6 1 (cf Q1)/\aL a7 a6/\(J i B/\cG a0 M2 B/\jS A B a0 a7/\jS A B a0 a6)) (fun ⟨i,b5,Q1,a7,a6⟩=>N.length + 1 - i) (⟨0,sn,Q,sv,qv⟩) (nR Z Z Z Z Z) (⟨f7,d3,frS,frQ,ac,⟨f1,em,oS,oQ⟩⟩) ?_;rintro ⟨i,b5,Q1,a7,a6⟩ B81 ⟨hlv,hS,b2,aA,bD,cV,d1,ev,er⟩;refine ak.wf fun bL=>?_;have hK:=hlv.seen.len;have hI:=hlv.seen.qlen;have hil:=hlv.le;have hat:=fun q:i < Q1.length=>hlv.at q;have hget:=fun q:i < Q1.length=>hlv.get q;have hbb:=dj.back (Q1.getD i 0).toNat;refine ak.sq fun gD=>.sq fun gE=>.region<|.J Z<|.J Z<|.p (bx (n:=Q1.length) cQ Z aA.slc O (c9 _))<|.p (bK Z Z)<|.nil<|gE<|.if rfl (fun h8=>?_) (fun h8=>?_)
 ·refine ak.skip<|gD<|.sq fun gF=>.block<|.sq fun gG=>.sq fun gL=>?_;obtain ⟨vY,cY,gY,lY⟩:=hv _ _ cV;have hyy:=hy i B81 _ (hget O).2 bL cV (cG.full gY bL);rw [(hget O).1] at hyy;refine ak.regionJ ?_;refine mJ.q lq Z Z (aK Z) ?_;refine mJ.q lq Z Z (aK Z) ?_;refine mJ.q lq Z Z (aK Z) ?_;obtain ⟨iT,j1,iF,k6,iv,k3,jX,g1,h1,g6,hC,ey⟩:=bz.at (i:=i) aA.slc O2 O;refine mJ.q lq Z Z (al cQ cl Z g1 Z h1) ?_;refine mJ.q lq Z Z (ah dK Z Z g6 ((cb ey).trans (bJ O))) ?_;refine mJ.y lq rfl rfl rfl (hyy) fun k9 A95 fd=>?_;obtain ⟨rfl,ek,hc,b3⟩:=fd;obtain ⟨vZ,cZ,gZ,lZ⟩:=hv _ _ ek;have b9:=b3.mono (d1.sub gY) d1.wf;have eL:=b2.off (jS.off ev gY) b3.le;have cH:=aA.off (jS.off er gY) b3.le;have br:=jS.yield ev b2.own gY b3;have bp:=jS.yield er aA.own gY b3;have gQ:=cL A95 [blk a7,blk a6];have c3:=cx (bs:=[blk a7,blk a6]) hc;have njS:∀ b,blk a7=some b->(A95.hide [blk a7,blk a6]).get b=none:=fun b h=>cD (by simp [h]);have njQ:∀ b,blk a6=some b->(A95.hide [blk a7,blk a6]).get b=none:=fun b h=>cD (by simp [h]);have gP:A.n<=M2.n:=Xj bU b7.n;refine mJ.q lq Z Z (ff Z) ?_;refine mJ.nil ?_;refine gL<|.cond_false Z<|.skip<|gG<|.sq fun gM=>.region<|.J Z<|.J Z<|.J Z ?_;obtain ⟨ht,hD,ho,hY,hh,hT,hM,ez,fn,eM,hd,dV⟩:=bz.at (i:=i) cH.slc O2 O;refine Ops.p (al cQ cl Z ez Z fn)<|.p (ah dK Z Z eM ((cb dV).trans (bJ O))) ?_;obtain ⟨hu,hE,hp,hZ,hk,hU,hN,eA,fo,eN,he,dW⟩:=bz.at (i:=(Q1.getD i 0).toNat) ((hbk.le b7).le b9.le) (by simp only [bw];have:=hat O;omega) O;refine Ops.p (al jg dX Z eA (go (by have:=hat O;omega)) fo)<|.p (ah jc Z Z eN ((cb dW).trans (c6 (by have:=hat O;omega))))<|.p (bx (n:=((((df N)).getD ((Q1.getD i 0).toNat) [])).length) cQ Z (((fun i hi=>(hFK i hi).le b7) ((Q1.getD i 0).toNat) (by have:=hat O;omega)).le b9.le) O (c9 _))<|.J Z<|.nil<|gM<|.block<|.loop (X:=Nat × List Bool × List Int × Value × Value) (fun ⟨j,aZ,Q2,ay,aD⟩=>[(0,.func (.yield lp) #[] #[]),(3,v4),(4,ay),(5,aD),(8,num ((i:Nat):Int)),(57,bd.getD ((Q1.getD i 0).toNat) undef),(58,num ((((((df N)).getD ((Q1.getD i 0).toNat) [])).length:Nat):Int)),(59,num ((j:Nat):Int))]) (fun ⟨j,aZ,Q2,ay,aD⟩ B=>(j<=((df N).getD (Q1.getD i 0).toNat []).length/\CM acc N i b5 Q1 j aZ Q2)/\M2.le B/\Fresh M2 B ay 1 (bQ aZ)/\Fresh M2 B aD 1 (cf Q2)/\B.get a0=some (.row true [vZ] cZ)/\V.blk ay ≠ some a0/\V.blk aD ≠ some a0/\aL ay aD/\(A95.hide [blk a7,blk a6]).le B/\(∀ b,V.blk ay=some b->(A95.hide [blk a7,blk a6]).get b=none)/\(∀ b,V.blk aD=some b->(A95.hide [blk a7,blk a6]).get b=none)/\((∀ b,blk ay=some b->A.n<=b)/\(∀ b,blk aD=some b->A.n<=b))) (fun ⟨j,aZ,Q2,ay,aD⟩=>((df N).getD (Q1.getD i 0).toNat []).length - j) (⟨0,b5,Q1,a7,a6⟩) (un Z Z Z Z Z Z Z Z) (⟨⟨XZ _,CM.start hlv O⟩,b9.le,eL,cH,gZ,br.ne,bp.ne,bD,gQ,njS,njQ,⟨(fun b q=>(br b q).1),(fun b q=>(bp b q).1)⟩⟩) ?_;rintro ⟨j,aZ,Q2,ay,aD⟩ B103 ⟨⟨hj,hlj⟩,aT,ad,aF,a2,a5,a4,a3,aS,aa,a9,bC,bB⟩;refine ak.wf fun cc=>?_;have hL:=hlj.seen.len;have hJ:=hlj.seen.qlen;have hrg:=fun q:j < ((df N).getD (Q1.getD i 0).toNat []).length=>CM.rng q;refine ak.sq fun eT=>.region<|.p (bK Z Z)<|.nil<|eT<|.sq fun eV=>.if rfl (fun fN=>?_) (fun fN=>?_)
  ·refine ak.skip<|eV<|.sq fun cS=>.block<|.sq fun eX=>.region ?_;obtain ⟨hw,hG,hq,i1,hl,hV,hO,eB,fq,eQ,hf,dZ⟩:=bz.at (i:=j) (((fun i hi=>(hFK i hi).le b7) ((Q1.getD i 0).toNat) (by have:=hat O;omega)).le aT) O2 O;refine Ops.p (al cQ cl Z eB Z fq)<|.p (ah dK Z Z eQ ((cb dZ).trans (bJ O)))<|.I Z<|.nil<|eX<|.sq fun eY=>.region<|.J Z<|.J Z ?_;obtain ⟨hx,hH,hr,i2,hm,hW,hR,eC,ft,eR,hg,e0⟩:=bz.at (i:=(((((df N)).getD ((Q1.getD i 0).toNat) [])).getD j 0).toNat) ad.slc Oj O;refine Ops.p (al jQ kN Z eC (go O) ft)<|.p (ah um Z Z eR ((cb e0).trans (dC O)))<|.p (ff Z)<|.nil<|eY<|.ifB Z (fun fO=>?_) (fun fO=>?_)
   ·refine ak.sq fun eZ=>.region<|.J Z<|.J Z ?_;obtain ⟨ch,hX,hA,fQ,hn,b8,dz,eS,iN,fM,iH,fm⟩:=ad.at1 (x:=(((((df N)).getD ((Q1.getD i 0).toNat) [])).getD j 0).toNat) Oj;rw [bi] at dz;refine Ops.p (al jQ kN Z b8 (go O) (by rw [dz];omega))<|.m (fun e3=>aU (off:=(((((df N)).getD ((Q1.getD i 0).toNat) [])).getD j 0).toNat) (c':=fQ.set ((((((df N)).getD ((Q1.getD i 0).toNat) [])).getD j 0).toNat) (.bool (true))) cc rfl (by simp) rfl rfl kN eS (by show ((((((df N)).getD ((Q1.getD i 0).toNat) [])).getD j 0).toNat) + 1<=_;omega) rfl rfl fun A123 ag=>?_);have f0:=ag.k (fun q=>a5 (by rw [b8];exact Xk some q.symm)) a2;have e1:=aF.keep ag.keep (a3 ch (by rw [b8];rfl));have bR:=fm (.bool (true)) A123 ag;rw [my] at bR;have bV:=an aS c3 (aa ch (by rw [b8];rfl)) ag.n ag.keep;have c4:=an aT bA fM ag.n ag.keep;refine e3<|.nil<|eZ<|.region<|.J Z<|.J Z<|.m (fun e4=>aE (c:=[num (((((df N)).getD ((Q1.getD i 0).toNat) [])).getD j 0)]) ag.wf rfl (aq cQ cl z3 rfl U U rfl) fun A132 hz a1=>?_);have fU:=bh c3 (Xj bV.n a1.lo);have fV:=Xj c4.n a1.lo;have cT:=a1.le.g f0;have bS:=bR.le a1.le;have bT:=e1.le a1.le;have c7:=c4.trans a1.le;have bY:=bV.trans a1.le;refine e4<|.m (fun e5=>cm (ys:=[num (((((df N)).getD ((Q1.getD i 0).toNat) [])).getD j 0)]) rfl rfl cQ cl jq z3 rfl U cQ (fun _ h=>by cases h) bT.own (bG (n:=1) a1.get Z) rfl rfl (by show (_ + _) * 8<=_;simp only [aj,Xq,Xx];(try simp only [Xz,Xq,Xx]);omega) O3 fun A142 fS a8=>?_);rw [show ([num (((((df N)).getD ((Q1.getD i 0).toNat) [])).getD j 0)]:List Value)=cf [((((df N)).getD ((Q1.getD i 0).toNat) [])).getD j 0] from rfl,cJ] at a8;obtain ⟨e2,e7⟩:=Fresh.grow bT c7 bA a8;have e9:=QJ bB a8 (Xj gP c7.n);have e6:=JM bY c3 a8 a9;have ea:=JN bY c3 a8 a9;refine e5<|.I Z<|.nil<|cS<|.region<|.p (bk (b:=1) Z Z O)<|.J Z<|.nil ?_;exact ⟨⟨j + 1,aZ.set ((((((df N)).getD ((Q1.getD i 0).toNat) [])).getD j 0).toNat) true,Q2 ++ [((((df N)).getD ((Q1.getD i 0).toNat) [])).getD j 0],ay,fS⟩,un Z Z Z Z Z Z Z Z,Z,⟨⟨by omega,by exact hlj.new O ‹_›⟩,e7,(bS.appd a8 (aL.symm a3)),e2,(a8.keep a4 cT),a5,(a8.ne a4 a1.wf cT),(aL.symm (aL.appd (show aL aD ay from (aL.symm a3)) bS.own a1.wf a8)),e6,aa,ea,⟨bC,e9⟩⟩,O1⟩
   refine ak.skip<|cS<|.region<|.p (bk (b:=1) Z Z O)<|.J Z<|.nil ?_;exact ⟨⟨j + 1,aZ,Q2,ay,aD⟩,un Z Z Z Z Z Z Z Z,Z,⟨⟨by omega,by exact hlj.old O ‹_›⟩,aT,ad,aF,a2,a5,a4,a3,aS,aa,a9,⟨bC,bB⟩⟩,O1⟩
  refine ak.exit<|gF<|.region<|.J Z<|.p (bk (b:=1) Z Z O)<|.I Z<|.nil ?_;have d0:=hclo _ _ _ ek cc aS.n (fun b o hb h=>aS.get b o (ce h (jS.nm br bp hb)));have d2:=cG.keep b9 aT gZ a2;have dS:=jS.next br bp gZ lZ a2 aa bC;have dO:=jS.next br bp gZ lZ a2 a9 bB;exact ⟨⟨i + 1,aZ,Q2,ay,aD⟩,nR Z Z Z Z Z,Z,⟨CJ.next hlj O,aT,ad,aF,a3,⟨d0,d2,dS,dO⟩⟩,O1⟩
 refine ak.exit ?_;repeat first | with_reducible refine cz ?_ | with_reducible refine cj ?_
 repeat first | with_reducible refine f5 ?_ | with_reducible refine fc ?_ | with_reducible refine eh U ?_ | with_reducible refine ei ?_ | with_reducible refine dA ?_
 exact zD (vs:=[]) Z (⟨by rw [<- (hlv.end O).2];exact cV,bL,d1.mono (aV.trans b7) hP.wf⟩)
abbrev jB (p:Bool × Bool):Value:=.agg #[.bool p.1,.bool p.2]
section
variable {P:Program} {w:World} {kt bt:TypeId} {p q:Bool × Bool}
structure Oe (P:Program) (kt bt:TypeId):Prop where
  arr:P.underlying kt=some (.array 2 bt)
  bool:P.underlying bt=some .bool
  sz:dy P bt=some 1
  ag:dM P bt=some false
theorem I9 (h:Oe P kt bt):(part bt #[.bool p.1,.bool p.2] 0).run P w=.ok (.bool p.1) w:=oO (by rw [qJ,h.ag];rfl)
theorem Ja (h:Oe P kt bt):(part bt #[.bool p.1,.bool p.2] 1).run P w=.ok (.bool p.2) w:=oO (by rw [qJ,h.ag];rfl)
theorem xH (h:Oe P kt bt) (b:Bool):(Instr.checkKey b 10000 kt (jB p)).run P w=.ok () w:=by
  have e:Instr.checkKey b 10000 kt (jB p)=Instr.checkKey b (9998 + 1 + 1) kt (jB p):=rfl
  rw [e]
  generalize 9998=d
  have hb:∀ v,(Instr.checkKey b (d + 1) bt (.bool v)).run P w=.ok () w:=fun v=>by
    unfold Instr.checkKey
    simp only [Sem.run_bind,cg h.bool,Result.andThen_ok];rfl
  rw [Instr.checkKey]
  simp [Sem.run_bind,cg h.arr,Result.andThen_ok,Std.Legacy.Range.forIn_eq_forIn_range',List.range',ep h.sz,hb]
  rw [I9 h];simp [hb]
  rw [Ja h];simp [hb]
theorem IJ (h:Oe P kt bt):(Op.equal kt (jB p) (jB q)).run P w=.ok (decide (p=q)) w:=by
  have e:Op.equal kt (jB p) (jB q)=Op.equalIn (9998 + 1 + 1) kt (jB p) (jB q):=rfl
  rw [e]
  generalize 9998=d
  have hb:∀ u v,(Op.equalIn (d + 1) bt (.bool u) (.bool v)).run P w=.ok (u == v) w:=fun u v=>by
    simp only [Op.equalIn,Sem.run_bind,cg h.bool,Result.andThen_ok];rfl
  rw [Op.equalIn]
  simp [Sem.run_bind,cg h.arr,Result.andThen_ok,Std.Legacy.Range.forIn_eq_forIn_range',List.range',ep h.sz,hb]
  rw [I9 h];simp
  rw [I9 h];simp [hb]
  obtain ⟨p1,p2⟩:=p
  obtain ⟨q1,q2⟩:=q
  by_cases h1:p1=q1
  · subst h1
    simp
    rw [Ja (p:=(p1,p2)) h];simp
    rw [Ja (p:=(p1,q2)) h];simp [hb]
    by_cases h2:p2=q2
    · subst h2;simp
    · simp [h2]
  · simp [h1]
theorem Sc (h:Oe P kt bt) (k:Bool × Bool):∀ (l:List MapEntry) (E:List ((Bool × Bool) × Value)) (n:Nat),l.map (fun x=>(x.key,x.val))=E.map (fun p=>(jB p.1,p.2)) ->
    ∃ r,(Instr.findAsking kt (jB k) l n).run P w=.ok r w/\r.map (·.2)=lk E k:=by
  intro l
  induction l with
  | nil =>
    intro E n hE
    cases E with
    | nil=>exact ⟨none,Z,Z⟩
    | cons p E=>cases hE
  | cons x l ih =>
    intro E n hE
    cases E with
    | nil=>cases hE
    | cons p E =>
      simp only [Tz,List.cons.injEq,Prod.mk.injEq] at hE
      obtain ⟨⟨h1,h2⟩,h3⟩:=hE
      rw [Instr.findAsking]
      simp only [Sem.run_bind,h1,IJ h,Result.andThen_ok]
      by_cases q:k=p.1
      · rw [Vv q]
        exact ⟨some (n,x.val),Z,by simp [lk,q,h2]⟩
      · rw [Xv q]
        obtain ⟨r,g1,g2⟩:=ih E (n + 1) h3
        exact ⟨r,g1,by rw [g2];simp [lk,show ¬ p.1=k from fun e=>q e.symm]⟩
theorem zH (h:Oe P kt bt) (k:Bool × Bool) {es:Array MapEntry} {E:List ((Bool × Bool) × Value)} (hE:dF jB es E):∃ r,(Instr.findKey kt (jB k) es.toList).run P w=.ok r w/\r.map (·.2)=lk E k:=by
  obtain ⟨r,g1,g2⟩:=Sc (w:=w) h k es.toList E 0 hE
  unfold Instr.findKey
  simp only [Sem.run_bind,cg h.arr,Result.andThen_ok]
  cases hl:es.toList with
  | nil =>
    refine ⟨none,Z,?_⟩
    have hE':es.toList.map (fun x=>(x.key,x.val))=E.map fun p=>(jB p.1,p.2):=hE
    rw [hl] at hE'
    cases E with
    | nil=>rfl
    | cons p E=>cases hE'
  | cons x l =>
    rw [hl] at g1
    refine ⟨r,?_,g2⟩
    have:Instr.findNow (.array 2 bt) (jB k) (x :: l) 0=none:=by
      unfold Instr.findNow
      have:Instr.sameNow (.array 2 bt) (jB k) x.key=none:=by unfold Instr.sameNow;rfl
      rw [this]
    rw [this];exact g1
end
section
variable {P:Program} {nt:Nat} {all:Array Oper} {os:List Oper} {Q:Exit->Fr->AH->Prop} {e:ii} {ds:List Deferred} {A:AH} {x y z:Operand} {t kt et bt:TypeId} {ty:TypeId} {ps:String} {af:Array Edge} {dst:Option Nat} {m clock:Nat} {es:Array MapEntry} {rw:Bool} {E:List ((Bool × Bool) × Value)} {k:Bool × Bool} {v zv:Value}
theorem V.Ops.look2 (hd:ij nt dst=true) (hx:cd e x=some (.map (some m))) (hy:cd e y=some (jB k)) (hu:P.underlying t=some (.map kt et)) (hk:Oe P kt bt) (hz:cE P et=some zv) (hg:A.get m=some (.obj rw (.map es clock))) (hE:dF jB es E)
    (h1:∀ v,lk E k=some v->Ops P nt all os Q ⟨gw e dst (.tuple #[v,.bool true]),ds⟩ A) (h2:lk E k=none->Ops P nt all os Q ⟨gw e dst (.tuple #[zv,.bool false]),ds⟩ A) :
    Ops P nt all ({ dst:=dst,op:=.lookup t x y true,type:=ty,pos:=ps,after:=af,guard:=none } :: os) Q ⟨e,ds⟩ A:=by
  have key:∀ (u:Value × Bool),u=(match lk E k with | some v=>(v,true) | none=>(zv,false))->∀ a:Act,de nt ⟨e,ds⟩ a->∀ w,cw A w->(execOp a.eval { dst:=dst,op:=.lookup t x y true,type:=ty,pos:=ps,after:=af,guard:=none }).run P w=.ok (.value (.tuple #[u.1,.bool u.2])) w:=by
    rintro u rfl a ha w hw
    have g1:=cI ha hx
    have g2:=cI ha hy
    obtain ⟨o1,o2⟩:=hw.obj hg
    obtain ⟨r,f1,f2⟩:=zH (w:=w) hk k hE
    simp only [execOp,g1,g2,Instr.lookup,Sem.run_bind,cg hu,Result.andThen_ok,dE o1 o2,Sem.run_pure,xH hk,f1]
    cases r with
    | none =>
      simp only [Option.map_none] at f2
      rw [<- f2]
      simp only [Sem.run_bind,iK hz,Result.andThen_ok,Sem.run_pure,if_true]
    | some r =>
      simp only [Rw] at f2
      rw [<- f2]
      simp only [Sem.run_bind,Result.andThen_ok,Sem.run_pure,if_true]
  cases hl:lk E k with
  | none=>exact Ops.val Z hd (key (zv,false) (by rw [hl])) (h2 hl)
  | some v=>exact Ops.val Z hd (key (v,true) (by rw [hl])) (h1 v hl)
theorem V.Ops.skipW {o:Oper} {A':AH} (hg:o.guard=none) (hd:ij nt o.dst=true) (hr:∀ a:Act,de nt ⟨e,ds⟩ a->∀ w,cw A w->∃ w',(execOp a.eval o).run P w=.ok .skip w'/\cw A' w'/\fz A w A' w') (h:Ops P nt all os Q ⟨gw e o.dst undef,ds⟩ A') :
    Ops P nt all (o :: os) Q ⟨e,ds⟩ A:=by
  intro a w ha hw A₀ w₀ hs
  unfold wpList
  rw [Xw (by simp [Region.wanted,hg])]
  left
  unfold Oper.wp
  obtain ⟨w',r,v1,s1⟩:=hr a ha w hw
  rw [r]
  exact h _ w' (ha.put o.dst undef (dc hd)) v1 A₀ w₀ (hs.trans s1)
theorem V.Ops.new2 (hd:ij nt dst=true) (wf:A.wf) (hx:cd e x=some (.map (some m))) (hy:cd e y=some (jB k)) (hz:cd e z=some v) (hu:P.underlying t=some (.map kt et)) (hk:Oe P kt bt) (hg:A.get m=some (.obj true (.map es clock))) (hE:dF jB es E) (hn:lk E k=none)
    (h:∀ A1 es1 ck,s7 A A1 m (.obj true (.map es1 ck))->dF jB es1 (E ++ [(k,v)])->Ops P nt all os Q ⟨gw e dst undef,ds⟩ A1) :
    Ops P nt all ({ dst:=dst,op:=.mapUpdate t x y z,type:=ty,pos:=ps,after:=af,guard:=none } :: os) Q ⟨e,ds⟩ A:=by
  refine Ops.skipW (A':=A.set m (.obj true (.map (es.push { key:=jB k,val:=v,born:=clock }) (clock + 1)))) Z hd (fun a ha w hw=>?_) (h _ _ _ (TG wf hg _) (hE.push k v clock))
  have g1:=cI ha hx
  have g2:=cI ha hy
  have g3:=cI ha hz
  obtain ⟨o1,o2⟩:=hw.obj hg
  obtain ⟨r,f1,f2⟩:=zH (w:=w) hk k hE
  rw [hn] at f2
  obtain rfl:r=none:=by cases r with | none=>rfl | some r=>cases f2
  obtain ⟨w',r,v1,s1⟩:=jR (P:=P) hw hg (y:=.map (es.push { key:=jB k,val:=v,born:=clock }) (clock + 1)) (fun _ _ _ q=>by cases q)
  refine ⟨w',?_,v1,s1⟩
  simp only [execOp,g1,g2,g3,Sem.run_bind,Instr.mapUpdate,cg hu,Result.andThen_ok,dE o1 o2,xH hk,f1,r]
  rfl
end
end Go.Proofs.YtjppkekmddjcfaaGreatDoor
