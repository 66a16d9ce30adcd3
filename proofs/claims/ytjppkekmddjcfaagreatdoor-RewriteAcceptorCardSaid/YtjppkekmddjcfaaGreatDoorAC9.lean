import Derived.Test.YtjppkekmddjcfaaGreatDoorAC8
set_option linter.unusedSectionVars false
set_option linter.unusedVariables false
set_option linter.unusedSimpArgs false
open Go.Proofs.Tryz
namespace Go.Proofs.YtjppkekmddjcfaaGreatDoor
open Go Go.RowKit V
section
variable {k i j:Nat} {acc:List Bool} {N:List (List Int)}
theorem kA {w:List Nat} {x:Nat} {s:Int} (h:0<=c5 N s.toNat x):fG acc N (x :: w) s=fG acc N w (c5 N s.toNat x):=by
  show (match gb N s x with | none=>false | some t=>lng (gb N) (KE acc) w t)=_
  rw [gb,Xw h]
theorem jK {w:List Nat} {x:Nat} {s:Int} (h:¬ 0<=c5 N s.toNat x):fG acc N (x :: w) s=false:=by
  show (match gb N s x with | none=>false | some t=>lng (gb N) (KE acc) w t)=_
  rw [gb,Xy h]
abbrev yL (k:Nat) (acc:List Bool) (N:List (List Int)) (q:Int):Prop:=∃ s:Nat,s < N.length/\q=s/\∃ w,Ls k w/\fG acc N w (s:Int)=true
theorem Ie (h:yM k acc N):∀ (f i:Nat) (Q:List Int),(∀ q ∈ Q,yL k acc N q)->∀ q ∈ ia (df N) f i Q,yL k acc N q:=by
  intro f
  induction f with
  | zero=>intro i Q hQ;exact hQ
  | succ f ih =>
    intro i Q hQ
    unfold ia;split
    · rename_i hi
      refine ih _ _ ?_
      have hq:=hQ _ (aX (d:=(0:Int)) hi)
      have:∀ (P Q:List Int),(∀ p ∈ P,yL k acc N p)->(∀ q ∈ Q,yL k acc N q)->∀ q ∈ P.foldl eU Q,yL k acc N q:=by
        intro P
        induction P with
        | nil=>intro Q _ h2;exact h2
        | cons p P ih2 =>
          intro Q h1 h2
          rw [Tj]
          refine ih2 _ (fun p hp=>h1 p (VZ _ hp)) ?_
          unfold eU;split
          · exact h2
          · exact kB h2 (h1 p VX)
      refine this _ _ (fun p hp=>?_) hQ
      obtain ⟨hl,s,h1,h2,h3⟩:=qH.1 hp
      obtain ⟨t,t1,t2,w,t3,t4⟩:=hq
      rw [t2,XY] at h3
      obtain ⟨x,hx,ex⟩:=VQ h3
      have V:x < k:=by rw [<- h.row s h1];exact hx
      have ee:c5 N s x=(t:Int):=by show (N.getD s []).getD x 0=_;rw [gd hx,ex]
      refine ⟨s,h1,h2,x :: w,t3.cons V,?_⟩
      rw [kA (by rw [XY,ee];omega),XY,ee];exact t4
    · exact hQ
theorem DR:∀ (f i:Nat) (Q:List Int),Q.Nodup->(∀ q ∈ Q,0<=q/\q < (N.length:Int))->N.length < f + i->(∀ j,j < i->j < Q.length->∀ p ∈ (df N).getD (Q.getD j 0).toNat [],p ∈ Q) ->
    ∀ q ∈ ia (df N) f i Q,∀ p ∈ (df N).getD q.toNat [],p ∈ ia (df N) f i Q:=by
  intro f
  induction f with
  | zero =>
    intro i Q h1 h2 h3 h4 q hq p hp
    have hl:=jJ h1 h2
    change q ∈ Q at hq
    obtain ⟨j,hj,e⟩:=VQ hq
    exact h4 j O hj p (by rw [gd hj,e];exact hp)
  | succ f ih =>
    intro i Q h1 h2 h3 h4
    unfold ia;split
    · rename_i hi
      have hP:∀ p ∈ (df N).getD (Q.getD i 0).toNat [],0<=p/\p < (N.length:Int):=fun p hp=>by obtain ⟨_,s,h1,h2,_⟩:=qH.1 hp;omega
      have key:∀ (P Q:List Int),(∀ p ∈ P,0<=p/\p < (N.length:Int))->Q.Nodup->(∀ q ∈ Q,0<=q/\q < (N.length:Int))->(P.foldl eU Q).Nodup/\(∀ q ∈ P.foldl eU Q,0<=q/\q < (N.length:Int))/\(∀ p ∈ P,p ∈ P.foldl eU Q):=by
        intro P
        induction P with
        | nil=>intro Q _ h2 h3;exact ⟨h2,h3,fun p hp=>by cases hp⟩
        | cons a P ih2 =>
          intro Q h1 h2 h3
          rw [Tj]
          have st:(eU Q a).Nodup/\(∀ q ∈ eU Q a,0<=q/\q < (N.length:Int))/\a ∈ eU Q a:=by
            unfold eU;split
            · exact ⟨h2,h3,‹_›⟩
            · exact ⟨lh h2 ‹_›,kB h3 (h1 a VX),by simp⟩
          obtain ⟨g1,g2,g3⟩:=ih2 _ (fun p hp=>h1 p (VZ _ hp)) st.1 st.2.1
          refine ⟨g1,g2,fun p hp=>?_⟩
          rcases Vy.1 hp with rfl | hp
          · exact (k8 P _).subset st.2.2
          · exact g3 p hp
      obtain ⟨g1,g2,g3⟩:=key _ Q hP h1 h2
      have hpre:=k8 ((df N).getD (Q.getD i 0).toNat []) Q
      refine ih (i + 1) _ g1 g2 O fun j hj hjl p hp=>?_
      rcases VW j i with z | z
      · rw [i9 hpre O] at hp
        exact hpre.subset (h4 j z O p hp)
      · obtain rfl:j=i:=by omega
        rw [i9 hpre hi] at hp
        exact g3 p hp
    · rename_i hi
      intro q hq p hp
      obtain ⟨j,hj,e⟩:=VQ hq
      exact h4 j O hj p (by rw [gd hj,e];exact hp)
theorem tv (h:yM k acc N):vE k N.length acc (eH acc N) N:=by
  refine ⟨fun s x hs hx=>(h.val s x hs hx).2,fun s hs=>?_⟩
  have e:(eH acc N).getD s false=decide ((s:Int) ∈ gu acc N):=eW _ false (by rw [h.len];exact hs)
  rw [e,Sk]
  have ha:∀ q ∈ o8 acc acc.length,yL k acc N q:=fun q hq=>by
    obtain ⟨s,h1,h2,h3⟩:=n8.1 hq
    exact ⟨s,by rw [<- h.len];exact h1,h3,[],Ls.nil,by show acc.getD (s:Int).toNat false=true;rw [XY];exact h2⟩
  constructor
  · intro hm
    obtain ⟨t,t1,t2,t3⟩:=Ie h _ _ _ ha _ hm
    have:s=t:=by omega
    subst this;exact t3
  · rintro ⟨w,hw,hl⟩
    have hcl:∀ q ∈ gu acc N,∀ p ∈ (df N).getD q.toNat [],p ∈ gu acc N:=by
      refine DR (N.length + 1) 0 _ ?_ (fun q hq=>by obtain ⟨s,h1,_,h3⟩:=n8.1 hq;have:=h.len;omega) O (fun j hj=>by omega)
      unfold o8
      rw [Rv,RZ]
      exact List.Pairwise.imp (fun {a b} hab e=>hab O) (List.nodup_range.filter _)
    suffices hh:∀ w s,s < N.length->Ls k w->fG acc N w (s:Int)=true->(s:Int) ∈ gu acc N from hh w s hs hw hl
    intro w
    induction w with
    | nil =>
      intro s hs _ hl
      refine (mo (B:=df N) (N.length + 1) 0 (o8 acc acc.length)).subset (n8.2 ⟨s,by rw [h.len];exact hs,?_,Z⟩)
      have:acc.getD (s:Int).toNat false=true:=hl
      rwa [XY] at this
    | cons x w ih =>
      intro s hs hw hl
      obtain ⟨hx,hw⟩:=hw.tail
      have hv:=h.val s x hs hx
      by_cases q:0<=c5 N s x
      · rw [kA (by rw [XY];exact q),XY] at hl
        have:=ih (c5 N s x).toNat O hw (by rw [show (((c5 N s x).toNat:Nat):Int)=c5 N s x by omega];exact hl)
        refine hcl _ this _ (qH.2 ⟨by omega,s,hs,Z,?_⟩)
        rw [XY,show (((c5 N s x).toNat:Nat):Int)=c5 N s x by omega]
        exact aX (by rw [h.row s hs];exact hx)
      · rw [jK (by rw [XY];exact q)] at hl;cases hl
end
section
variable {k n i j:Nat} {acc lv:List Bool} {N:List (List Int)} {cls:List Int}
theorem Vu {m m':Int} (hcr:∀ c ∈ cls,0<=c/\c < (n:Int)) (hn:n<=100000) (hm:m.toNat < cls.length) (hm':m'.toNat < cls.length) (h:(if cB lv m then iy (cls.getD m.toNat 0).toNat else [])=(if cB lv m' then iy (cls.getD m'.toNat 0).toNat else [])) :
    (if cB lv m then some (cls.getD m.toNat 0) else none)=(if cB lv m' then some (cls.getD m'.toNat 0) else none):=by
  have h1:=hcr _ (aX (d:=(0:Int)) hm)
  have h2:=hcr _ (aX (d:=(0:Int)) hm')
  by_cases q:cB lv m=true
  · rw [Xw q] at h ⊢
    by_cases q2:cB lv m'=true
    · rw [Xw q2] at h ⊢
      have:=zb O O h
      congr 1;omega
    · rw [Xy q2] at h;exact absurd h (uN _)
  · rw [Xy q] at h ⊢
    by_cases q2:cB lv m'=true
    · rw [Xw q2] at h;exact absurd h.symm (uN _)
    · rw [Xy q2]
theorem AX (hcr:∀ c ∈ cls,0<=c/\c < (n:Int)) (hn:n<=100000):∀ (r r':List Int),r.length=r'.length->(∀ m ∈ r,m.toNat < cls.length)->(∀ m ∈ r',m.toNat < cls.length)->r.flatMap (pq lv cls)=r'.flatMap (pq lv cls) ->
    ∀ x,x < r.length->(if cB lv (r.getD x 0) then some (cls.getD (r.getD x 0).toNat 0) else none)=(if cB lv (r'.getD x 0) then some (cls.getD (r'.getD x 0).toNat 0) else none)
  | [],_,_,_,_,_,x,hx=>by cases hx
  | a :: r,[],h,_,_,_,_,_=>by cases h
  | a :: r,b :: r',h,h1,h2,h3,x,hx=>by
    rw [Sj,Sj] at h3
    simp only [pq,List.cons_append,List.cons.injEq,true_and] at h3
    have V:∀ m,∀ c ∈ (if cB lv m then iy (cls.getD m.toNat 0).toNat else []),c ≠ 32:=fun m c hc=>by
      split at hc
      · exact (pn 13 _ c hc).1
      · cases hc
    obtain ⟨e1,e2⟩:=Cz (V a) (V b) (mC r) (mC r') h3
    cases x with
    | zero=>exact Vu hcr hn (h1 a VX) (h2 b VX) e1
    | succ x =>
      simp only [List.getD_cons_succ]
      exact AX hcr hn r r' (by simpa using h) (fun m hm=>h1 m (VZ _ hm)) (fun m hm=>h2 m (VZ _ hm)) e2 x (by simpa using hx)
theorem JF:∀ (r r':List Int),r.length=r'.length->(∀ x,x < r.length->(if cB lv (r.getD x 0) then some (cls.getD (r.getD x 0).toNat 0) else none)=(if cB lv (r'.getD x 0) then some (cls.getD (r'.getD x 0).toNat 0) else none))->r.flatMap (pq lv cls)=r'.flatMap (pq lv cls)
  | [],[],_,_=>rfl
  | [],_ :: _,h,_=>by cases h
  | _ :: _,[],h,_=>by cases h
  | a :: r,b :: r',h,h1=>by
    rw [Sj,Sj]
    have h0:=h1 0 (by simp)
    simp only [List.getD_cons_zero] at h0
    have e:pq lv cls a=pq lv cls b:=by
      unfold pq
      by_cases q:cB lv a=true
      · rw [Xw q] at h0 ⊢
        by_cases q2:cB lv b=true
        · rw [Xw q2] at h0 ⊢;rw [Option.some.inj h0]
        · rw [Xy q2] at h0;cases h0
      · rw [Xy q] at h0 ⊢
        by_cases q2:cB lv b=true
        · rw [Xw q2] at h0;cases h0
        · rw [Xy q2]
    rw [e,JF r r' (by simpa using h) fun x hx=>by have:=h1 (x + 1) (by simpa using hx);simpa only [List.getD_cons_succ] using this]
structure ClQ (lv:List Bool) (n:Nat) (cls:List Int):Prop where
  rng:∀ c ∈ cls,0<=c/\c < (n:Int)
  dead:yK lv n cls
  lv:∀ i j,i < n->j < n->cls.getD i 0=cls.getD j 0->lv.getD i false=lv.getD j false
theorem uZ {K:Type} [DecidableEq K] (f:Nat->K):∀ c ∈ (bW ((List.range n).map f)).1,0<=c/\c < (n:Int):=fun c hc=>by
  have:=tF _ c hc
  have h2:=wd ((List.range n).map f)
  rw [Tq,Qz] at h2
  omega
theorem tE {K:Type} [DecidableEq K] (f:Nat->K) (d:K) (hi:i < n) (hj:j < n):(bW ((List.range n).map f)).1.getD i 0=(bW ((List.range n).map f)).1.getD j 0 ↔ f i=f j:=by
  rw [py _ (d:=d) (by simpa using hi) (by simpa using hj),eW f d hi,eW f d hj]
theorem uC (h:yM k acc N):sY k N.length acc (eH acc N) N (sg acc (eH acc N) N)/\ClQ (eH acc N) N.length (sg acc (eH acc N) N):=by
  have hl:=tv h
  have hn:=h.num
  generalize hlv:eH acc N=lv at *
  have hd:∀ i,i < N.length->lv.getD i false=false->acc.getD i false=false:=fun i hi q=>by subst hlv;exact DQ i (by rw [h.len];exact hi) q
  rw [sg,Ax,yU]
  have key:=fun (cls:List Int) (hln:cls.length=N.length) (hq:ClQ lv N.length cls) (i j:Nat) (hi:i < N.length) (hj:j < N.length)=>Jr (N:=N) O lv cls hln hq.rng hq.dead i j hi hj
  refine xl hl (mY lv N) [] (ClQ lv N.length) (fun cls hln hq=>⟨uZ _,yR lv cls,fun i j hi hj e=>?_⟩) key (fun cls hln hq i j hi hj li lj=>?_) ⟨by rw [ll];simp,fun i j hi hj li lj e=>?_,fun i j hi hj li lj e=>?_⟩ ⟨uZ _,yQ lv hd,fun i j hi hj e=>?_⟩ (xm _ (false,false)) O
  · exact hq.lv i j hi hj (key cls hln hq i j hi hj ((tE _ [] hi hj).1 e))
  · have hr:=fun (i:Nat) (hi:i < N.length) (m:Int) (hm:m ∈ N.getD i [])=>(show m.toNat < cls.length by
      obtain ⟨x,hx,ex⟩:=VQ hm
      have V:x < k:=by rw [<- h.row i hi];exact hx
      have:=h.val i x hi V
      rw [show c5 N i x=m by show (N.getD i []).getD x 0=m;rw [gd hx,ex]] at this
      omega)
    constructor
    · intro e
      refine ⟨key cls hln hq i j hi hj e,fun x hx=>?_⟩
      rw [mY,mY,Xw li,Xw lj] at e
      obtain ⟨_,e2⟩:=Cz (fun c hc=>(pn 13 _ c hc).1) (fun c hc=>(pn 13 _ c hc).1) (mC _) (mC _) e
      exact AX hq.rng O _ _ (by rw [h.row i hi,h.row j hj]) (hr i hi) (hr j hj) e2 x (by rw [h.row i hi];exact hx)
    · rintro ⟨e1,e2⟩
      rw [mY,mY,Xw li,Xw lj,e1,JF (lv:=lv) (cls:=cls) (N.getD i []) (N.getD j []) (by rw [h.row i hi,h.row j hj]) fun x hx=>e2 x (by rw [<- h.row i hi];exact hx)]
  · rw [tE _ (false,false) hi hj,NG,NG,li,lj]
    have:=e [] Ls.nil
    have:acc.getD (i:Int).toNat false=acc.getD (j:Int).toNat false:=this
    rw [XY,XY] at this
    rw [this]
  · rw [tE _ (false,false) hi hj,NG,NG,Prod.mk.injEq] at e;exact e.2
  · rw [tE _ (false,false) hi hj,NG,NG,Prod.mk.injEq] at e;exact e.1
theorem j7 {c:Int} (h:c ∈ cls):fj cls c < cls.length/\cls.getD (fj cls c) 0=c:=by
  have:=wb h
  exact ⟨this,by rw [gd this];exact TZ this⟩
theorem Wx (hl:vE k n acc lv N) (hm:sY k n acc lv N cls) (hq:ClQ lv n cls):∀ w,Ls k w->∀ c ∈ cls,lv.getD (fj cls c) false=true ->
    lng (dL lv N cls) (fun c=>acc.getD (fj cls c) false) w c=fG acc N w ((fj cls c:Nat):Int):=by
  intro w
  induction w with
  | nil=>intro _ c hc lc;show acc.getD (fj cls c) false=acc.getD (((fj cls c:Nat):Int)).toNat false;rw [XY]
  | cons x w ih =>
    intro hw c hc lc
    obtain ⟨hx,hw⟩:=hw.tail
    have h1:=j7 hc
    rw [hm.inv.len] at h1
    have hr:=hl.rng _ x h1.1 hx
    rw [uY hl h1.1 hx hw]
    show (match dL lv N cls c x with | none=>false | some t=>lng (dL lv N cls) (fun c=>acc.getD (fj cls c) false) w t)=_
    unfold dL
    by_cases q:cB lv (c5 N (fj cls c) x)=true
    · rw [Xw q,Xw q]
      have a1:lv.getD (c5 N (fj cls c) x).toNat false=true:=by rw [cB] at q;simp only [XK] at q;exact q.2
      have a2:(c5 N (fj cls c) x).toNat < n:=by omega
      have a3:cls.getD (c5 N (fj cls c) x).toNat 0 ∈ cls:=aX (by rw [hm.inv.len];exact a2)
      have h2:=j7 a3
      rw [hm.inv.len] at h2
      have a4:lv.getD (fj cls (cls.getD (c5 N (fj cls c) x).toNat 0)) false=true:=by rw [hq.lv _ _ h2.1 a2 h2.2];exact a1
      show lng (dL lv N cls) _ w _=_
      rw [ih hw _ a3 a4]
      exact hm.lng hl w hw _ _ h2.1 a2 a4 a1 h2.2
    · rw [Xy q,Xy q]
end
section
variable {k n2:Nat} {acc acc2 lv2:List Bool} {N N2:List (List Int)} {cls2:List Int}
theorem Zt {k n:Nat} {cls Q:List Int} {D:Int->Prop} (h:QK id D Q) (hD:∀ q,D q->0<=q/\q < (n:Int)):Q.length<=n :=
  jJ (by have:=h.nd;rwa [List.map_id] at this) fun q hq=>hD q (h.dom q hq)
theorem VC {bd:Nat} {key:Int->Int} {step:Int->Nat->Option Int} {D:Int->Prop} (hDs:∀ q c t,D q->c < k->step q c=some t->D t) (hfin:∀ Q:List Int,QK key D Q->Q.length<=bd) {f f2 i:Nat} {Q:List Int} {R:List (List Int)}
    (h:QK key D Q) (h1:bd < f + i) (h2:bd < f2 + i):eP k key step f i Q R=eP k key step f2 i Q R:=by
  have pw:∀ Q:List Int,PW Eq Q Q:=fun Q=>by
    induction Q with
    | nil=>exact .nil
    | cons a Q ih=>exact .cons Z ih
  obtain ⟨e1,e2⟩:=xX (p:=Eq) (key2:=key) (step2:=step) hDs hfin (fun a b c d e1 e2=>by rw [e1,e2]) (fun a b x e hx=>by
    subst e
    cases step a x with
    | none=>exact .inl ⟨Z,Z⟩
    | some t=>exact .inr ⟨t,t,Z,Z,Z⟩) f f2 i Q Q R h h1 h2 (pw Q)
  have:∀ {s t:List Int},PW Eq s t->s=t:=fun h=>by
    induction h with
    | nil=>rfl
    | cons e _ ih=>rw [e,ih]
  exact Prod.ext (this e2) e1
abbrev QD (lv:List Bool) (cls:List Int) (c:Int):Prop:=c ∈ cls/\lv.getD (fj cls c) false=true
theorem Cf {n:Nat} {lv:List Bool} {cls:List Int} (hl:vE k n acc lv N) (hm:sY k n acc lv N cls) (hq:ClQ lv n cls) (c:Int) (x:Nat) (t:Int) (hc:QD lv cls c) (hx:x < k) (e:dL lv N cls c x=some t):QD lv cls t:=by
  have h1:=j7 hc.1
  rw [hm.inv.len] at h1
  have hr:=hl.rng _ x h1.1 hx
  unfold dL at e
  by_cases q:cB lv (c5 N (fj cls c) x)=true
  · rw [Xw q] at e
    cases e
    have a1:lv.getD (c5 N (fj cls c) x).toNat false=true:=by rw [cB] at q;simp only [XK] at q;exact q.2
    have a2:(c5 N (fj cls c) x).toNat < n:=by omega
    have a3:cls.getD (c5 N (fj cls c) x).toNat 0 ∈ cls:=aX (by rw [hm.inv.len];exact a2)
    have h2:=j7 a3
    rw [hm.inv.len] at h2
    exact ⟨a3,by rw [hq.lv _ _ h2.1 a2 h2.2];exact a1⟩
  · rw [Xy q] at e;cases e
theorem Cg {n:Nat} {lv:List Bool} {cls:List Int} (hq:ClQ lv n cls):∀ Q:List Int,QK id (QD lv cls) Q->Q.length<=n:=fun Q h=>Zt (k:=0) (cls:=cls) h fun q V=>hq.rng q V.1
theorem OM (h:yM k acc N) (h0:(eH acc N).getD 0 false=true) (w:List Nat) (hw:Ls k w):fG (ux k acc N).1 (ux k acc N).2 w 0=fG acc N w 0/\0 < (ux k acc N).2.length:=by
  obtain ⟨hm,hq⟩:=uC h
  have hl:=tv h
  have hN:0 < N.length:=by
    refine Nat.pos_of_ne_zero fun z=>?_
    have:(eH acc N).length=0:=by simp [eH,h.len,z]
    rw [rp this] at h0;cases h0
  rw [qx h0]
  generalize hlv:eH acc N=lv at *
  generalize hcl:sg acc lv N=cls at *
  have a0:cls.getD 0 0 ∈ cls:=aX (by rw [hm.inv.len];exact hN)
  have V:=j7 a0
  rw [hm.inv.len] at V
  have X:QD lv cls (cls.getD 0 0):=⟨a0,by rw [hq.lv _ 0 V.1 hN V.2];exact h0⟩
  have hDs:=Cf hl hm hq
  have hfin:=Cg hq
  have a1:QK id (QD lv cls) [cls.getD 0 0]:=⟨by simp,fun q hq=>by rw [XW] at hq;subst hq;exact X⟩
  obtain ⟨e1,e2⟩:=om hDs hfin (N.length + 1) 0 [cls.getD 0 0] [] a1 O Z (by simp) (fun j hj=>by omega)
  rw [zm] at e1 e2
  have ex:uz k acc N=eD k (dL lv N cls) (N.length + 1) 0 [cls.getD 0 0] []:=by rw [uz,hlv,hcl]
  rw [ex]
  have hlen:=e2.length_le
  rw [TQ] at hlen
  have g:=e1.lng (acc:=fun c=>acc.getD (fj cls c) false) hDs (fun s t _ _ e w _=>by have e:s=t:=e;rw [e]) w hw 0 O
  refine ⟨?_,by have:=e1.len;show 0 < (eD k (dL lv N cls) (N.length + 1) 0 [cls.getD 0 0] []).2.length;omega⟩
  rw [i9 e2 (by simp)] at g
  refine (show fG _ _ w ((0:Nat):Int)=_ from g).trans ?_
  show lng _ _ w (cls.getD 0 0)=_
  rw [Wx hl hm hq w hw _ X.1 X.2]
  exact hm.lng hl w hw _ 0 V.1 hN X.2 h0 V.2
structure YF (k n:Nat) (N:List (List Int)) (cls:List Int):Prop where
  pos:0 < n
  len:N.length=n
  rng:∀ s x,s < n->x < k->c5 N s x < n
  st:∀ i j,i < n->j < n->(cls.getD i 0=cls.getD j 0 ↔ ∀ w,Ls k w->fG (List.replicate n true) N w (i:Int)=fG (List.replicate n true) N w (j:Int))
theorem iC {n s:Nat} (h:s < n):(List.replicate n true).getD s false=true:=by simp [h]
theorem OQ {cls:List Int} {f:Nat} (h:yM k acc N) (r:YF k n2 N2 cls) (hL:∀ w,Ls k w->fG acc N w 0=fG (List.replicate n2 true) N2 w 0) (hf:n2 < f) :
    ux k acc N=((eP k (fun s=>cls.getD s.toNat 0) (gb N2) f 0 [0] []).1.map (fun _=>true),(eP k (fun s=>cls.getD s.toNat 0) (gb N2) f 0 [0] []).2):=by
  have hl:=tv h
  have hN:0 < N.length:=by
    refine Nat.pos_of_ne_zero fun z=>?_
    have:=hL [] Ls.nil
    have h2:acc.length=0:=by rw [h.len,z]
    have h3:acc.getD (0:Int).toNat false=(List.replicate n2 true).getD (0:Int).toNat false:=this
    rw [show (0:Int).toNat=0 from rfl,iC r.pos,TX.1 h2] at h3
    cases h3
  have h0:(eH acc N).getD 0 false=true:=(hl.live 0 hN).2 ⟨[],Ls.nil,by
    rw [show ((0:Nat):Int)=0 from rfl,hL [] Ls.nil]
    show (List.replicate n2 true).getD (0:Int).toNat false=true
    exact iC r.pos⟩
  obtain ⟨hm,hq⟩:=uC h
  rw [qx h0]
  generalize hlv:eH acc N=lv at *
  generalize hcl:sg acc lv N=V at *
  have a4:V.getD 0 0 ∈ V:=aX (by rw [hm.inv.len];exact hN)
  have X:=j7 a4
  rw [hm.inv.len] at X
  have a0:QD lv V (V.getD 0 0):=⟨a4,by rw [hq.lv _ 0 X.1 hN X.2];exact h0⟩
  have hDs:=Cf hl hm hq
  have hfin:=Cg hq
  -- the other side's states
  have a5:∀ q c t,(0<=q/\q < (n2:Int))->c < k->gb N2 q c=some t->0<=t/\t < (n2:Int):=fun q c t hq hc e=>by
    unfold gb at e
    split at e
    · cases e;have:=r.rng q.toNat c O hc;omega
    · cases e
  have a2:∀ Q:List Int,QK (fun s=>cls.getD s.toNat 0) (fun q=>0<=q/\q < (n2:Int)) Q->Q.length<=n2:=fun Q h=>by
    have:Q.Nodup:=List.Pairwise.imp (fun {a b} hab e=>hab (by rw [e])) (RZ.1 h.nd)
    exact jJ this h.dom
  have a7:QK (fun s=>cls.getD s.toNat 0) (fun q=>0<=q/\q < (n2:Int)) [0]:=⟨by simp,fun q hq=>by rw [XW] at hq;subst hq;have:=r.pos;omega⟩
  rw [VC a5 a2 (f2:=f + N.length + 1) a7 O O]
  have a6:QK id (QD lv V) [V.getD 0 0]:=⟨by simp,fun q hq=>by rw [XW] at hq;subst hq;exact a0⟩
  let p:Int->Int->Prop:=fun c s=>QD lv V c/\(0<=s/\s < (n2:Int))/\∀ w,Ls k w->fG acc N w ((fj V c:Nat):Int)=fG (List.replicate n2 true) N2 w s
  have a8:p (V.getD 0 0) 0:=⟨a0,by have:=r.pos;omega,fun w hw=>by
    rw [<- hL w hw]
    exact hm.lng hl w hw _ 0 X.1 hN a0.2 h0 X.2⟩
  obtain ⟨e1,e2⟩:=xX (p:=p) (key2:=fun s=>cls.getD s.toNat 0) (step2:=gb N2) hDs hfin (fun a b c d pa pc=>by
      have ha:=j7 pa.1.1
      have hc:=j7 pc.1.1
      rw [hm.inv.len] at ha hc
      have hb:=pa.2.1;have hd:=pc.2.1
      have i1:=hm.iff hl ha.1 hc.1 pa.1.2 pc.1.2
      rw [ha.2,hc.2] at i1
      have i2:=r.st b.toNat d.toNat O O
      rw [show ((b.toNat:Nat):Int)=b by omega,show ((d.toNat:Nat):Int)=d by omega] at i2
      show id a=id c ↔ _
      rw [id,id,i1,i2]
      exact ⟨fun z w hw=>by rw [<- pa.2.2 w hw,<- pc.2.2 w hw];exact z w hw,fun z w hw=>by rw [pa.2.2 w hw,pc.2.2 w hw];exact z w hw⟩)
    (fun a b x pa hx=>by
      have ha:=j7 pa.1.1
      rw [hm.inv.len] at ha
      have hb:=pa.2.1
      have hr:=hl.rng _ x ha.1 hx
      have a9:=r.rng b.toNat x O hx
      have hlv:=hl.at ha.1 hx
      by_cases q:0<=c5 N2 b.toNat x
      · -- the letter leads on
        have ea:∀ w,fG (List.replicate n2 true) N2 (x :: w) b=fG (List.replicate n2 true) N2 w (c5 N2 b.toNat x):=fun w=>kA q
        have hlive:cB lv (c5 N (fj V a) x)=true:=hlv.2 ⟨[],Ls.nil,by
          rw [pa.2.2 [x] (Ls.nil.cons hx),ea]
          exact iC O⟩
        have a3:dL lv N V a x=some (V.getD (c5 N (fj V a) x).toNat 0):=by unfold dL;rw [Xw hlive]
        have hd:=hDs a x _ pa.1 hx a3
        refine .inr ⟨_,c5 N2 b.toNat x,a3,by unfold gb;rw [Xw q],hd,⟨q,a9⟩,fun w hw=>?_⟩
        have h2:=j7 hd.1
        rw [hm.inv.len] at h2
        have a1:lv.getD (c5 N (fj V a) x).toNat false=true:=by rw [cB] at hlive;simp only [XK] at hlive;exact hlive.2
        rw [hm.lng hl w hw _ (c5 N (fj V a) x).toNat h2.1 O hd.2 a1 h2.2,<- ea,<- pa.2.2 _ (hw.cons hx),uY hl ha.1 hx hw,Xw hlive]
      · refine .inl ⟨?_,by unfold gb;rw [Xy q]⟩
        unfold dL
        rw [Xy]
        intro z
        obtain ⟨w,hw,e⟩:=hlv.1 z
        rw [pa.2.2 _ (hw.cons hx),jK q] at e
        cases e)
    (N.length + 1) (f + N.length + 1) 0 [V.getD 0 0] [0] [] a6 O O (.cons a8 .nil)
  have ex:uz k acc N=eP k id (dL lv N V) (N.length + 1) 0 [V.getD 0 0] []:=by rw [zm,uz,hlv,hcl]
  rw [ex]
  refine Prod.ext ?_ e1
  have:∀ {s t:List Int},PW p s t->s.map (fun c=>acc.getD (fj V c) false)=t.map fun _=>true:=fun h=>by
    induction h with
    | nil=>rfl
    | cons hp _ ih =>
      rw [Tz,Tz,ih]
      have:=hp.2.2 [] Ls.nil
      have t:acc.getD (((fj V _:Nat):Int)).toNat false=(List.replicate n2 true).getD (_:Int).toNat false:=this
      rw [XY] at t
      rw [t,iC (by have:=hp.2.1;omega)]
  exact this e2
theorem vk {L:List (List Int)} (h:n0 k acc L) (w:List Nat) (hw:Ls k w):fG (rg k acc L) (gH k L).2 w 0=fG acc L w 0:=by
  have hn:=h.num
  have hDs:=pK h
  have hfin:∀ Q:List Int,QK id (fun q=>-1<=q/\q < (L.length:Int)) Q->Q.length<=L.length + 1:=fun Q hQ=>mW (by have:=hQ.nd;rwa [List.map_id] at this) hQ.dom
  obtain ⟨e1,e2⟩:=om (k:=k) hDs hfin (L.length + 2) 0 [0] [] ⟨by simp,fun q hq=>by rw [XW] at hq;subst hq;omega⟩ O Z (by simp) (fun j hj=>by omega)
  rw [zm] at e1 e2
  have hlen:=e2.length_le
  have g:=e1.lng (acc:=fun s=>decide (0<=s) && acc.getD s.toNat false) hDs (fun s t _ _ e w _=>by have e:s=t:=e;rw [e]) w hw 0 (by simp at hlen;omega)
  rw [i9 e2 (by simp)] at g
  refine (show fG _ _ w ((0:Nat):Int)=_ from g).trans ?_
  have key:∀ w,Ls k w->∀ s:Int,-1<=s/\s < (L.length:Int)->lng (kW L) (fun s=>decide (0<=s) && acc.getD s.toNat false) w s=if s < 0 then false else fG acc L w s:=by
    intro w
    induction w with
    | nil =>
      intro _ s hs
      show (decide (0<=s) && acc.getD s.toNat false)=_
      split
      · rw [Xv O];rfl
      · rw [Vv O];rfl
    | cons x w ih =>
      intro hw s hs
      obtain ⟨hx,hw⟩:=hw.tail
      show lng (kW L) _ w (if s < 0 then -1 else c5 L s.toNat x)=_
      split
      · rw [ih hw _ O];rfl
      · have:=h.val s.toNat x O hx
        rw [ih hw _ O]
        by_cases q:0<=c5 L s.toNat x
        · rw [Xy O,kA q]
        · rw [Xw O,jK q]
  rw [show ([0]:List Int).getD 0 0=0 from rfl,key w hw 0 O];rfl
theorem C9 {L:List (List Int)} (h:n0 k acc L) (h0:∃ w,Ls k w/\fG acc L w 0=true) (w:List Nat) (hw:Ls k w):fG (vK k acc L).1 (vK k acc L).2 w 0=fG acc L w 0/\0 < (vK k acc L).2.length:=by
  obtain ⟨hM,_⟩:=uk h
  have hN:0 < (gH k L).2.length:=by
    have hDs:=pK h
    have hn:=h.num
    have hfin:∀ Q:List Int,QK id (fun q=>-1<=q/\q < (L.length:Int)) Q->Q.length<=L.length + 1:=fun Q hQ=>mW (by have:=hQ.nd;rwa [List.map_id] at this) hQ.dom
    obtain ⟨e1,e2⟩:=om (k:=k) hDs hfin (L.length + 2) 0 [0] [] ⟨by simp,fun q hq=>by rw [XW] at hq;subst hq;omega⟩ O Z (by simp) (fun j hj=>by omega)
    rw [zm] at e1 e2
    have:=e2.length_le
    have h2:=e1.len
    simp at this
    show 0 < (eD k (kW L) (L.length + 2) 0 [0] []).2.length
    omega
  obtain ⟨w0,V,e0⟩:=h0
  have hlive:(eH (rg k acc L) (gH k L).2).getD 0 false=true:=((tv hM).live 0 hN).2 ⟨w0,V,by rw [show ((0:Nat):Int)=0 from rfl,vk h w0 V];exact e0⟩
  have:=OM hM hlive w hw
  rw [vk h w hw] at this
  exact this
theorem KQ {L:List (List Int)} {cls:List Int} {f:Nat} (h:n0 k acc L) (r:YF k n2 N2 cls) (hL:∀ w,Ls k w->fG acc L w 0=fG (List.replicate n2 true) N2 w 0) (hf:n2 < f) :
    vK k acc L=((eP k (fun s=>cls.getD s.toNat 0) (gb N2) f 0 [0] []).1.map (fun _=>true),(eP k (fun s=>cls.getD s.toNat 0) (gb N2) f 0 [0] []).2) :=
  OQ (uk h).1 r (fun w hw=>by rw [vk h w hw];exact hL w hw) hf
end
def vF (S:List (List Nat)) (v:List Nat):Prop:=∀ u ∈ S,¬ u <:+: v
section
variable {k s x n:Nat} {S W:List (List Nat)} {L:List (List Int)} {E:List Bool} {v w u:List Nat}
theorem GY:u <:+: v ++ [x] ↔ u <:+: v\/u <:+ v ++ [x]:=by
  constructor
  · rintro ⟨a,b,e⟩
    rcases List.eq_nil_or_concat b with rfl | ⟨b',y,rfl⟩
    · exact .inr ⟨a,by simpa using e⟩
    · left
      rw [List.concat_eq_append,<- Tk] at e
      exact ⟨a,b',(Qw e Z).1⟩
  · rintro (⟨a,b,rfl⟩ | ⟨a,e⟩)
    · exact ⟨a,b ++ [x],by simp⟩
    · exact ⟨a,[],by simpa using e⟩
theorem vF.snoc:vF S (v ++ [x]) ↔ vF S v/\∀ u ∈ S,¬ u <:+ v ++ [x]:=by
  simp only [vF,GY,not_or]
  exact ⟨fun h=>⟨fun u hu=>(h u hu).1,fun u hu=>(h u hu).2⟩,fun h u hu=>⟨h.1 u hu,h.2 u hu⟩⟩
theorem vF.pre (h:vF S (v ++ w)):vF S v:=fun u hu ⟨a,b,e⟩=>h u hu ⟨a,b ++ w,by rw [<- e];simp⟩
theorem vF.nil (h:[] ∉ S):vF S []:=fun u hu hi=>by
  have:=List.infix_nil.1 hi
  exact h (this ▸ hu)
theorem QL (hsub:∀ u ∈ S,u ∈ W):(∃ u ∈ S,u <:+ rq W v) ↔ ∃ u ∈ S,u <:+ v :=
  ⟨fun ⟨u,h1,h2⟩=>⟨u,h1,h2.trans mp⟩,fun ⟨u,h1,h2⟩=>⟨u,h1,ru (hsub u h1) h2⟩⟩
theorem UL (h:Ux k L E W S):∀ w,Ls k w->∀ v s,s < W.length->W.getD s []=rq W v->vF S v->(fG (E.map fun e=>!e) (L.map (ew E)) w (s:Int)=true ↔ vF S (v ++ w)):=by
  intro w
  induction w with
  | nil =>
    intro _ v s hs hv hn
    have hE:E.getD s false=false:=by
      cases q:E.getD s false with
      | false=>rfl
      | true =>
        obtain ⟨u,h1,h2⟩:=(h.ends s hs).1 q
        rw [hv] at h2
        obtain ⟨a,e⟩:=h2.trans mp
        exact absurd ⟨a,[],by simpa using e⟩ (hn u h1)
    rw [Qj]
    have:fG (E.map fun e=>!e) (L.map (ew E)) [] (s:Int)=(E.map fun e=>!e).getD (s:Int).toNat false:=rfl
    rw [this,XY]
    have h2:(E.map fun e=>!e).getD s false=true:=by
      have hl:s < E.length:=by rw [h.len.2];exact hs
      have:E.getD s false=E[s]:=gd hl
      rw [XJ,List.getElem?_map,SW hl]
      rw [this] at hE
      simp [hE]
    exact ⟨fun _=>hn,fun _=>h2⟩
  | cons x w ih =>
    intro hw v s hs hv hn
    obtain ⟨hx,hw⟩:=hw.tail
    obtain ⟨t1,t2,t3⟩:=h.to s x hs hx
    rw [hv,<- tx h.prec] at t3
    have ec:c5 (L.map (ew E)) s x=if E.getD (c5 L s x).toNat false then -1 else c5 L s x:=Jy (by rw [h.len.1];exact hs) (by rw [h.row s hs];exact hx)
    have he:=h.ends (c5 L s x).toNat O
    rw [t3,QL h.sub] at he
    have ea:v ++ x :: w=(v ++ [x]) ++ w:=by simp
    rw [ea]
    by_cases q:E.getD (c5 L s x).toNat false=true
    · rw [Xw q] at ec
      rw [jK (by rw [XY,ec];decide)]
      obtain ⟨u,h1,h2⟩:=he.1 q
      exact ⟨(fun z=>by cases z),fun z=>absurd h2 ((vF.snoc.1 z.pre).2 u h1)⟩
    · rw [Xy q] at ec
      rw [kA (by rw [XY,ec];exact t1),XY,ec]
      have:=ih hw (v ++ [x]) (c5 L s x).toNat O t3 (vF.snoc.2 ⟨hn,fun u h1 h2=>q (he.2 ⟨u,h1,h2⟩)⟩)
      rwa [show (((c5 L s x).toNat:Nat):Int)=c5 L s x by omega] at this
end
section
variable {k:Nat} {ws:List Wd}
theorem NI (hw:∀ w ∈ ws,∀ c ∈ w,0<=ix c/\ix c < k):∃ W,Od k (o0 k ws).1 (o0 k ws).2 W (ws.map d8):=by
  suffices h:∀ (ws:List Wd) (L:List (List Int)) (E:List Bool) (W:List (List Nat)) (S:List (List Nat)),(∀ w ∈ ws,∀ c ∈ w,0<=ix c/\ix c < k)->Od k L E W S ->
      ∃ W1,Od k (ws.foldl (fun t w=>(vJ k t.1 t.2 w,vI k t.1 t.2 w)) (L,E)).1 (ws.foldl (fun t w=>(vJ k t.1 t.2 w,vI k t.1 t.2 w)) (L,E)).2 W1 (S ++ ws.map d8) by
    obtain ⟨W,h1,_⟩:=(TI.start (k:=k) (ws:=ws)).tri
    have h2:([] ++ [CO k]:List (List Int))=[CO k]:=rfl
    obtain ⟨W,hW⟩:=(TI.start (k:=k) (ws:=ws)).tri
    exact h ws _ _ W [] hw hW
  intro ws
  induction ws with
  | nil=>intro L E W S _ h;exact ⟨W,by simpa using h⟩
  | cons w ws ih =>
    intro L E W S hw h
    obtain ⟨W1,h1,_⟩:=h.add (hw w VX)
    obtain ⟨W2,h2⟩:=ih _ _ W1 (S ++ [d8 w]) (fun w' hw'=>hw w' (VZ _ hw')) h1
    exact ⟨W2,by rw [Tz,List.append_cons];exact h2⟩
theorem UO {L0:List (List Int)} {W S:List (List Nat)} {b:BS} {i:Nat} (h:BI k L0 W S b i 0) (t:TW k L0 W) (hs:∀ w ∈ S,w ∈ W) (hne:[] ∉ S) (hi:i < b.Q.length):BI k L0 W S (UN k b i) (i + 1) 0/\b.Q.length<=(UN k b i).Q.length:=by
  have:∀ j,j<=k->BI k L0 W S ((List.range j).foldl (od (qn b i)) b) i j/\b.Q <+: ((List.range j).foldl (od (qn b i)) b).Q:=by
    intro j
    induction j with
    | zero=>intro _;exact ⟨h,Tx _⟩
    | succ j ih =>
      intro hj
      obtain ⟨g1,g2⟩:=ih O
      rw [Ty,SJ,Tj,List.foldl_nil]
      have e:qn ((List.range j).foldl (od (qn b i)) b) i=qn b i:=by unfold qn;rw [i9 g2 hi]
      have:=g1.step t hs hne (SX hi g2.length_le) O
      rw [e] at this
      refine ⟨this,g2.trans ?_⟩
      unfold od;split
      · exact Tx _
      · exact SZ _ _
  obtain ⟨g1,g2⟩:=this k (XX _)
  exact ⟨g1.next (SX hi g2.length_le),g2.length_le⟩
theorem Jp {L0:List (List Int)} {W S:List (List Nat)} (t:TW k L0 W) (hs:∀ w ∈ S,w ∈ W) (hne:[] ∉ S):∀ (f i:Nat) (b:BS),BI k L0 W S b i 0->i<=b.Q.length->W.length < f + i->Ux k (Ur k f i b).L (Ur k f i b).E W S
  | 0,i,b,h,h1,h2=>by have:=h.qlen;omega
  | f + 1,i,b,h,h1,h2=>by
    unfold Ur;split
    · rename_i hi
      obtain ⟨g1,g2⟩:=UO h t hs hne hi
      exact Jp t hs hne f (i + 1) _ g1 O O
    · rename_i hi
      exact h.aho t hs O
theorem YG (hw:∀ w ∈ ws,∀ c ∈ w,0<=ix c/\ix c < k) (hne:∀ w ∈ ws,w ≠ []):∃ W,Ux k (s8 k ws).L (s8 k ws).E W (ws.map d8):=by
  obtain ⟨W,h⟩:=NI hw
  have hl:=h.tw.len
  have h0:[] ∉ ws.map d8:=fun z=>by
    obtain ⟨w,h1,h2⟩:=Vk.1 z
    exact hne w h1 (List.map_eq_nil_iff.1 h2)
  refine ⟨W,?_⟩
  have:=BI.start h h0
  rw [hl] at this
  exact Jp h.tw h.sub h0 _ 0 _ this (XZ _) (by rw [hl];omega)
end
def yw (l:List Wd) (w:Wd):Int:=if w ∈ l then (l.idxOf w:Int) else -1
def j9 (rs:List aQ) (P:List Wd) (p:Wd):List Wd:=if nS rs p=true/\p ∉ P then P ++ [p] else P
def js (rs:List aQ) (P:List Wd) (w:Wd) (j:Nat):List Wd:=(List.range j).foldl (fun P m=>j9 rs P (w.take (m + 1))) P
def oC (g:Int) (rs:List aQ) (i:Nat):List Wd:=((il g rs).take i).foldl (fun P w=>js rs P w (w.length - 1)) [[]]
def eI (g:Int) (rs:List aQ):List Wd:=oC g rs (il g rs).length
def jP (P:List Wd):Wd->Int
  | []=>yw P []
  | a :: t=>if a :: t ∈ P then (P.idxOf (a :: t):Int) else jP P t
def rM (rs:List aQ) (P:List Wd) (p:Wd) (x:Nat):Int:=if nS rs (p ++ [bq.getD x 0]) then jP P (p ++ [bq.getD x 0]) else -1
def yE (rs:List aQ) (P:List Wd) (k:Nat) (p:Wd):List Int:=(List.range k).map (rM rs P p)
def nX (g:Int) (rs:List aQ):List (List Int):=(eI g rs).map (yE rs (eI g rs) (2 * g.toNat))
section
variable {g:Int} {rs:List aQ} {P:List Wd} {p w:Wd} {j i:Nat}
theorem BW:p ∈ j9 rs P w ↔ p ∈ P\/(p=w/\nS rs w=true):=by
  unfold j9;split
  · rename_i h
    rw [VJ,XW]
    exact ⟨fun z=>z.imp id fun z=>⟨z,h.1⟩,fun z=>z.imp id fun z=>z.1⟩
  · rename_i h
    refine ⟨.inl,fun z=>z.elim id fun z=>?_⟩
    obtain ⟨rfl,h1⟩:=z
    exact Classical.byContradiction fun q=>h ⟨h1,q⟩
theorem m4:js rs P w (j + 1)=j9 rs (js rs P w j) (w.take (j + 1)):=by simp [js,Ty]
theorem Mw:p ∈ js rs P w j ↔ p ∈ P\/∃ m,m < j/\p=w.take (m + 1)/\nS rs p=true:=by
  induction j with
  | zero=>simp [js]
  | succ j ih =>
    rw [m4,BW,ih]
    constructor
    · rintro ((h | ⟨m,h1,h2,h3⟩) | ⟨h1,h2⟩)
      · exact .inl h
      · exact .inr ⟨m,by omega,h2,h3⟩
      · exact .inr ⟨j,by omega,h1,h1 ▸ h2⟩
    · rintro (h | ⟨m,h1,h2,h3⟩)
      · exact .inl (.inl h)
      · rcases VW m j with z | z
        · exact .inl (.inr ⟨m,z,h2,h3⟩)
        · obtain rfl:m=j:=by omega
          exact .inr ⟨h2,h2 ▸ h3⟩
theorem BQ:(j9 rs P w).length<=P.length + 1:=by unfold j9;split <;> simp
theorem zy:(js rs P w j).length<=P.length + j:=by
  induction j with
  | zero=>exact XX _
  | succ j ih=>rw [m4];have:=BQ (rs:=rs) (P:=js rs P w j) (w:=w.take (j + 1));omega
theorem pD:oC g rs 0=[[]]:=by simp [oC]
theorem pB (hi:i < (il g rs).length):oC g rs (i + 1)=js rs (oC g rs i) ((il g rs).getD i []) (((il g rs).getD i []).length - 1):=by
  rw [oC,<- fP (z:=([]:Wd)) hi,SJ];rfl
theorem Mu:∀ i,i<=(il g rs).length->∀ p,p ∈ oC g rs i ↔ p=[]\/∃ m,m < i/\∃ j,j + 1 < ((il g rs).getD m []).length/\p=((il g rs).getD m []).take (j + 1)/\nS rs p=true:=by
  intro i
  induction i with
  | zero=>intro _ p;rw [pD];simp
  | succ i ih =>
    intro hi p
    rw [pB O,Mw,ih O]
    constructor
    · rintro ((h | ⟨m,h1,j,h2⟩) | ⟨j,h1,h2,h3⟩)
      · exact .inl h
      · exact .inr ⟨m,by omega,j,h2⟩
      · exact .inr ⟨i,by omega,j,by omega,h2,h3⟩
    · rintro (h | ⟨m,h1,j,h2,h3,h4⟩)
      · exact .inl (.inl h)
      · rcases VW m i with z | z
        · exact .inl (.inr ⟨m,z,j,h2,h3,h4⟩)
        · obtain rfl:m=i:=by omega
          exact .inr ⟨j,by omega,h3,h4⟩
theorem zx:∀ i,i<=(il g rs).length->(oC g rs i).length<=1 + ga ((il g rs).take i):=by
  intro i
  induction i with
  | zero=>intro _;rw [pD];simp
  | succ i ih =>
    intro hi
    rw [pB O,<- fP (z:=([]:Wd)) O,xi]
    have:=ih O
    have:=zy (rs:=rs) (P:=oC g rs i) (w:=(il g rs).getD i []) (j:=((il g rs).getD i []).length - 1)
    omega
theorem mG:p ∈ eI g rs ↔ p=[]\/∃ w ∈ il g rs,∃ j,j + 1 < w.length/\p=w.take (j + 1)/\nS rs p=true:=by
  rw [eI,Mu _ (XX _)]
  constructor
  · rintro (h | ⟨m,h1,h2⟩)
    · exact .inl h
    · exact .inr ⟨_,aX (d:=([]:Wd)) h1,h2⟩
  · rintro (h | ⟨w,h1,h2⟩)
    · exact .inl h
    · obtain ⟨m,hm,rfl⟩:=VQ h1
      exact .inr ⟨m,hm,by rw [gd hm];exact h2⟩
theorem Ms:(eI g rs).length<=1 + ga (il g rs):=by have:=zx (g:=g) (rs:=rs) _ (XX _);rwa [Ry] at this
theorem kG:[] ∈ eI g rs:=mG.2 (.inl Z)
end
theorem Vr:∀ c:UInt8,0<=ix c->ix c < 16->bq.getD (ix c).toNat 0=c:=iQ (by decide +kernel)
abbrev lw (w:List Nat):Wd:=w.map fun x=>bq.getD x 0
section
variable {gn:Nat} {rs:List aQ} {l:List Wd} {u v w:Wd}
theorem sC {c:UInt8} (h:je (gn:Int) c=true):0<=ix c/\ix c < ((2 * gn:Nat):Int):=by
  simp only [je,XK,Vq] at h;omega
theorem wa (hg:gn<=8) (h:u.all (je (gn:Int))=true):lw (d8 u)=u:=by
  unfold lw d8
  rw [List.map_map]
  conv=>rhs;rw [<- List.map_id u]
  refine Qk fun c hc=>?_
  have:=sC (Vx.1 h c hc)
  exact Vr c this.1 O
theorem TN (hg:gn<=8) (h1:u.all (je (gn:Int))=true) (h2:v.all (je (gn:Int))=true) (e:d8 u=d8 v):u=v:=by
  rw [<- wa hg h1,<- wa hg h2,e]
theorem uf:d8 (u ++ v)=d8 u ++ d8 v:=by simp [d8]
theorem xZ (hg:gn<=8) (h1:u.all (je (gn:Int))=true) (h2:v.all (je (gn:Int))=true):d8 u <:+: d8 v ↔ u <:+: v:=by
  constructor
  · rintro ⟨a,b,e⟩
    refine ⟨lw a,lw b,?_⟩
    rw [<- wa hg h1,<- wa hg h2,<- e];simp [lw]
  · rintro ⟨a,b,rfl⟩
    exact ⟨d8 a,d8 b,by simp [d8]⟩
theorem vl (hs:bN (gn:Int) l rs=true) (hw:w ∈ il gn rs):w.all (je (gn:Int))=true:=by
  obtain ⟨s,h1,rfl⟩:=Vk.1 hw
  refine Vx.2 fun c hc=>?_
  have:=r8 hs s h1 c hc
  simp only [je,XK,Vq];omega
theorem tn (hs:bN (gn:Int) l rs=true) (hu:u.all (je (gn:Int))=true) (hl:u.length<=100000):nS rs u=true ↔ vF ((il gn rs).map d8) (d8 u):=by
  have hg:=kn hs
  rw [CR.irr_iff (g:=(gn:Int)) hg hu hl]
  constructor
  · intro h x hx hi
    obtain ⟨w,h1,rfl⟩:=Vk.1 hx
    have hi:=(xZ O (vl hs h1) hu).1 hi
    obtain ⟨s,h2,rfl⟩:=Vk.1 h1
    obtain ⟨a,b,e⟩:=hi
    exact h _ (e ▸ CR.St.mk a b s h2)
  · intro h y hy
    cases hy with
    | mk a b s hs' =>
      have hm:s.1 ∈ il gn rs:=Vk.2 ⟨s,hs',rfl⟩
      exact h _ (Vk.2 ⟨_,hm,Z⟩) ((xZ O (vl hs hm) hu).2 ⟨a,b,Z⟩)
end
section
variable {gn:Nat} {rs:List aQ} {l:List Wd} {P:List Wd} {w p:Wd}
theorem Bg {p:Wd} (h:p ∈ P):P.idxOf p < P.length/\P.getD (P.idxOf p) []=p:=by
  have:=Vj.2 h
  exact ⟨this,by rw [gd this];exact TZ this⟩
theorem xY (hg:gn<=8) (h0:[] ∈ P) (hP:∀ p ∈ P,p.all (je (gn:Int))=true):∀ w:Wd,w.all (je (gn:Int))=true->0<=jP P w/\jP P w < P.length/\d8 (P.getD (jP P w).toNat [])=rq (P.map d8) (d8 w)
  | [],_=>by
    have:=Bg h0
    rw [jP,yw,Xw h0,XY,this.2]
    exact ⟨by omega,by omega,Z⟩
  | a :: t,hw=>by
    have ht:t.all (je (gn:Int))=true:=by simp only [List.all_cons,XK] at hw;exact hw.2
    have em:d8 (a :: t) ∈ P.map d8 ↔ a :: t ∈ P:=⟨fun h=>by
      obtain ⟨q,h1,h2⟩:=Vk.1 h
      rw [<- TN hg (hP q h1) hw h2];exact h1,fun h=>Vk.2 ⟨_,h,rfl⟩⟩
    have es:d8 (a :: t)=(ix a).toNat :: d8 t:=rfl
    rw [jP]
    by_cases q:a :: t ∈ P
    · have:=Bg q
      have q2:=em.2 q
      rw [Xw q,XY,this.2]
      refine ⟨by omega,by omega,?_⟩
      rw [es] at q2 ⊢
      rw [rq,Xw q2]
    · obtain ⟨h1,h2,h3⟩:=xY hg h0 hP t ht
      have q2:=fun z=>q (em.1 z)
      rw [Xy q]
      refine ⟨h1,h2,?_⟩
      rw [h3]
      rw [es] at q2 ⊢
      rw [rq,Xy q2]
theorem qL (hs:bN (gn:Int) l rs=true):∀ p ∈ eI gn rs,p.all (je (gn:Int))=true:=fun p hp=>by
  rcases mG.1 hp with rfl | ⟨w,h1,j,h2,rfl,h3⟩
  · rfl
  · refine Vx.2 fun c hc=>Vx.1 (vl hs h1) c (List.mem_of_mem_take hc)
theorem yj (hs:bN (gn:Int) l rs=true) {w:Wd} (hw:w ∈ il gn rs):w.length<=1000:=by
  obtain ⟨s,h1,rfl⟩:=Vk.1 hw
  rcases CR.in_cases h1 with ⟨r,hr,rfl⟩ | ⟨x,hx,rfl⟩
  · exact (zW hs r hr).2.1
  · simp [QM]
theorem sI (hs:bN (gn:Int) l rs=true):∀ p ∈ eI gn rs,p.length<=1000:=fun p hp=>by
  rcases mG.1 hp with rfl | ⟨w,h1,j,h2,rfl,h3⟩
  · simp
  · have:=yj hs h1;rw [Vz];omega
theorem My (hs:bN (gn:Int) l rs=true):Oc ((eI gn rs).map d8):=by
  refine ⟨Vk.2 ⟨[],kG,rfl⟩,fun u x hu=>?_⟩
  obtain ⟨p,hp,e⟩:=Vk.1 hu
  have hok:=qL hs p hp
  have hl:=sI hs p hp
  rcases mG.1 hp with rfl | ⟨w,h1,j,h2,h3,h4⟩
  · cases u <;> cases e
  · have e2:u=d8 (p.take j):=by
      have hlen:p.length=j + 1:=by rw [h3,Vz];omega
      have:=Xk (fun z=>z.take j) e
      have h:u.length=j:=by
        have q:=Xk List.length e
        rw [Xz,TQ,show (d8 p).length=p.length from Tq _] at q
        omega
      have q:(d8 p).take j=(u ++ [x]).take j:=this
      have q2:(u ++ [x]).take j=u:=by rw [List.take_append_of_le_length O,Vw O]
      rw [q2] at q
      rw [<- q];simp [d8,List.map_take]
    rw [e2]
    refine Vk.2 ⟨_,mG.2 ?_,Z⟩
    rcases Sz j with z | z
    · left;subst z;rfl
    · right
      refine ⟨w,h1,j - 1,by omega,by rw [h3,List.take_take];congr 1;omega,?_⟩
      have h5:=(tn hs hok O).1 h4
      refine (tn hs (Vx.2 fun c hc=>Vx.1 hok c (List.mem_of_mem_take hc)) (by rw [Vz];omega)).2 ?_
      have e3:d8 p=d8 (p.take j) ++ d8 (p.drop j):=by rw [<- uf,Rq]
      rw [e3] at h5
      exact h5.pre
theorem WB (hs:bN (gn:Int) l rs=true):∀ w,Ls (2 * gn) w->∀ v s,s < (eI gn rs).length->d8 ((eI gn rs).getD s [])=rq ((eI gn rs).map d8) v->Ls (2 * gn) v->vF ((il gn rs).map d8) v ->
    (fG (List.replicate (eI gn rs).length true) (nX gn rs) w (s:Int)=true ↔ vF ((il gn rs).map d8) (v ++ w)):=by
  have hg:=kn hs
  intro w
  induction w with
  | nil =>
    intro _ v s V hv _ hn
    rw [Qj]
    have:fG (List.replicate (eI gn rs).length true) (nX gn rs) [] (s:Int)=(List.replicate (eI gn rs).length true).getD (s:Int).toNat false:=rfl
    rw [this,XY,iC V]
    exact ⟨fun _=>hn,fun _=>rfl⟩
  | cons x w ih =>
    intro hw v s V hv hvl hn
    obtain ⟨hx,hw⟩:=hw.tail
    have hpm:(eI gn rs).getD s [] ∈ eI gn rs:=aX V
    have hok:=qL hs _ hpm
    have hlen:=sI hs _ hpm
    generalize hp:(eI gn rs).getD s []=p at *
    have hix:ix (bq.getD x 0)=x:=BF x O
    have X:(p ++ [bq.getD x 0]).all (je (gn:Int))=true:=by
      rw [List.all_append,hok]
      simp only [List.all_cons,List.all_nil,Bool.and_true,QX,je,XK,Vq,hix];omega
    have hsy:d8 (p ++ [bq.getD x 0])=d8 p ++ [x]:=by rw [uf];show _ ++ [(ix (bq.getD x 0)).toNat]=_;rw [hix];rfl
    have er:c5 (nX gn rs) s x=rM rs (eI gn rs) p x:=by
      unfold c5 nX
      have e1:((eI gn rs).map (yE rs (eI gn rs) (2 * (gn:Int).toNat))).getD s []=yE rs (eI gn rs) (2 * (gn:Int).toNat) p:=by
        rw [<- hp];simp [XJ,V]
      rw [e1,yE,XY]
      exact eW _ 0 hx
    have hirr:=tn hs X Or
    rw [hsy,hv] at hirr
    have key:vF ((il gn rs).map d8) (rq ((eI gn rs).map d8) v ++ [x]) ↔ vF ((il gn rs).map d8) (v ++ [x]):=by
      obtain ⟨r,hr⟩:=(mp:rq ((eI gn rs).map d8) v <:+ v)
      refine ⟨fun h=>vF.snoc.2 ⟨hn,fun u hu hsu=>?_⟩,fun h u hu ⟨a,b,e⟩=>h u hu ⟨r ++ a,b,by rw [<- hr];simp only [Tk] at e ⊢;rw [e]⟩⟩
      -- u is v's end and x: its beginning is a prefix
      obtain ⟨y,hy,rfl⟩:=Vk.1 hu
      have hyo:=vl hs hy
      have hyl:=yj hs hy
      rcases List.eq_nil_or_concat y with rfl | ⟨y',c,rfl⟩
      · exact h _ hu (List.nil_infix)
      · rw [List.concat_eq_append] at *
        rw [uf] at hsu
        obtain ⟨a,ea⟩:=hsu
        rw [<- Tk] at ea
        obtain ⟨e1,e2⟩:=Qw ea Z
        have hsy':d8 y' <:+ v:=⟨a,e1⟩
        have hyo':y'.all (je (gn:Int))=true:=by rw [List.all_append,XK] at hyo;exact hyo.1
        have hirr':nS rs y'=true:=(tn hs hyo' (by simp at hyl;omega)).2 fun u hu ⟨b1,b2,e⟩=>hn u hu ⟨a ++ b1,b2,by rw [<- e1,<- e];simp⟩
        have hm:y' ∈ eI gn rs:=by
          rcases Sz y'.length with z | z
          · rw [TX.1 z];exact kG
          · exact mG.2 (.inr ⟨_,hy,y'.length - 1,by simp;omega,by rw [show y'.length - 1 + 1=y'.length by omega,List.take_left'] ;rfl,hirr'⟩)
        have hmax:=ru (Vk.2 ⟨_,hm,rfl⟩) hsy'
        obtain ⟨b,eb⟩:=hmax
        refine h _ hu ⟨b,[],?_⟩
        rw [uf,Qj,<- Tk,eb,e2]
    have ea:v ++ x :: w=(v ++ [x]) ++ w:=by simp
    rw [ea]
    by_cases q:nS rs (p ++ [bq.getD x 0])=true
    · have a0:=key.1 (hirr.1 q)
      obtain ⟨c1,c2,c3⟩:=xY O kG (qL hs) _ X
      rw [hsy,hv,<- tx (My hs)] at c3
      have ec:c5 (nX gn rs) s x=jP (eI gn rs) (p ++ [bq.getD x 0]):=by rw [er,rM,Xw q]
      rw [kA (by rw [XY,ec];exact c1),XY,ec]
      have:=ih hw (v ++ [x]) (jP (eI gn rs) (p ++ [bq.getD x 0])).toNat O c3 (fun y hy=>by
        rcases VJ.1 hy with z | z
        · exact hvl y z
        · rw [XW] at z;subst z;exact hx) a0
      rwa [show (((jP (eI gn rs) (p ++ [bq.getD x 0])).toNat:Nat):Int)=jP (eI gn rs) (p ++ [bq.getD x 0]) by omega] at this
    · have ec:c5 (nX gn rs) s x = -1:=by rw [er,rM,Xy q]
      rw [jK (by rw [XY,ec];decide)]
      exact ⟨(fun z=>by cases z),fun z=>absurd (hirr.2 (key.2 z.pre)) q⟩
theorem Mz:(eI gn rs).getD 0 []=[]:=by
  have:∀ i,i<=(il gn rs).length->(oC gn rs i).getD 0 []=[]/\0 < (oC gn rs i).length:=by
    intro i
    induction i with
    | zero=>intro _;rw [pD];exact ⟨Z,Nat.zero_lt_one⟩
    | succ i ih =>
      intro hi
      obtain ⟨h1,h2⟩:=ih O
      rw [pB O]
      generalize oC (gn:Int) rs i=P at *
      generalize (il (gn:Int) rs).getD i []=w
      have:∀ j,(js rs P w j).getD 0 []=[]/\0 < (js rs P w j).length:=by
        intro j
        induction j with
        | zero=>exact ⟨h1,h2⟩
        | succ j ih =>
          rw [m4,j9]
          split
          · rw [i5 ih.2];exact ⟨ih.1,by simp⟩
          · exact ih
      exact this _
  exact (this _ (XX _)).1
end
def jT (k:Nat) (N:List (List Int)) (cls:List Int) (i:Nat):List Int:=cls.getD i 0 :: (List.range k).map fun x=>if 0<=c5 N i x then cls.getD (c5 N i x).toNat 0 else -1
def iI (k:Nat) (N:List (List Int)):List Int:=i4 N.length (jT k N) (N.length + 2) 0 (List.replicate N.length 1)
def UQ (k:Nat) (N:List (List Int)):List Int × List (List Int):=eP k (fun s=>(iI k N).getD s.toNat 0) (gb N) (N.length + 1) 0 [0] []
section
variable {k n i j:Nat} {N:List (List Int)} {cls:List Int}
theorem OB (h:n0 k (List.replicate N.length true) N):vE k N.length (List.replicate N.length true) (List.replicate N.length true) N :=
  ⟨fun s x hs hx=>(h.val s x hs hx).2,fun s hs=>by
    rw [iC hs]
    exact ⟨fun _=>⟨[],Ls.nil,by show (List.replicate N.length true).getD (s:Int).toNat false=true;rw [XY,iC hs]⟩,fun _=>rfl⟩⟩
theorem AE {c:List Int} (hp:∀ x ∈ c,(0:Int)<=x) (i:Nat):0<=c.getD i 0:=by
  by_cases h:i < c.length
  · exact hp _ (aX h)
  · simp [XJ,h]
theorem DK (h:n0 k (List.replicate N.length true) N) (hp:∀ c ∈ cls,0<=c) (hi:i < N.length) (hj:j < N.length) :
    jT k N cls i=jT k N cls j ↔ cls.getD i 0=cls.getD j 0/\∀ x,x < k->nc (List.replicate N.length true) N cls i x=nc (List.replicate N.length true) N cls j x:=by
  have live:∀ i x,i < N.length->x < k->cB (List.replicate N.length true) (c5 N i x)=decide (0<=c5 N i x):=fun i x hi hx=>by
    have:=h.val i x hi hx
    rw [cB]
    by_cases q:0<=c5 N i x
    · rw [Vv q,iC O];rfl
    · rw [Xv q];rfl
  unfold jT
  rw [List.cons.injEq]
  refine and_congr_right fun _=>⟨fun e x hx=>?_,fun e=>Qk fun x hx=>?_⟩
  · have:=Xk (fun l:List Int=>l.getD x 0) e
    simp only [eW _ (0:Int) hx] at this
    unfold nc
    rw [live i x hi hx,live j x hj hx]
    have p1:=AE hp (c5 N i x).toNat
    have p2:=AE hp (c5 N j x).toNat
    by_cases q1:0<=c5 N i x <;> by_cases q2:0<=c5 N j x <;> simp only [q1,q2,if_true,if_false,decide_true,decide_false,RV] at this ⊢
    · rw [this]
    · omega
    · omega
  · have hx:=TY.1 hx
    have:=e x hx
    unfold nc at this
    rw [live i x hi hx,live j x hj hx] at this
    by_cases q1:0<=c5 N i x <;> by_cases q2:0<=c5 N j x <;> simp only [q1,q2,if_true,if_false,decide_true,decide_false,RV] at this ⊢
    · exact Option.some.inj this
    · cases this
    · cases this
theorem sh (h:n0 k (List.replicate N.length true) N):sY k N.length (List.replicate N.length true) (List.replicate N.length true) N (iI k N)/\(iI k N).length=N.length:=by
  have hl:=OB h
  have hn:=h.num
  obtain ⟨h1,_⟩:=xl hl (jT k N) [] (fun cls=>∀ c ∈ cls,0<=c) (fun cls _ _ c hc=>(tF _ c hc).1) (fun cls _ hp i j hi hj e=>((DK h hp hi hj).1 e).1) (fun cls _ hp i j hi hj _ _=>DK h hp hi hj)
    (cls:=List.replicate N.length 1) (f:=N.length + 2) (count:=0)
    ⟨by simp,fun i j hi hj _ _ _=>by simp [hi,hj],fun i j hi hj _ _ _=>by rw [iC hi,iC hj]⟩ (fun c hc=>by rw [List.eq_of_mem_replicate hc];decide) (XZ _) O
  exact ⟨h1,h1.inv.len⟩
theorem O7 (h:n0 k (List.replicate N.length true) N):YF k N.length N (iI k N):=by
  have hl:=OB h
  exact ⟨h.num.1,rfl,fun s x hs hx=>(h.val s x hs hx).2,fun i j hi hj=>(sh h).1.iff hl hi hj (iC hi) (iC hj)⟩
theorem O8 (h:n0 k (List.replicate N.length true) N):∀ c ∈ iI k N,0<=c/\c < (N.length:Int):=by
  have hn:=h.num
  obtain ⟨c0,_,e,_⟩:=nP (n:=N.length) (jT k N) [] (fun cls=>cls.length=N.length) (fun cls _=>by rw [ll];simp) (fun cls _ i j _ _ e=>by unfold jT at e;exact (List.cons.inj e).1) (fun cls h=>h) (N.length + 2) 0 (List.replicate N.length 1) (by simp) (XZ _) O
  intro c hc
  rw [iI,e] at hc
  exact uZ _ c hc
end
section
variable {gn:Nat} {rs:List aQ} {l:List Wd}
theorem J5 (hs:bN (gn:Int) l rs=true) (hb:ga (il gn rs)<=18000):n0 (2 * gn) (List.replicate (nX gn rs).length true) (nX gn rs):=by
  have hg:=kn hs
  have hl:(nX gn rs).length=(eI gn rs).length:=by simp [nX]
  have h1:=Ms (g:=(gn:Int)) (rs:=rs)
  have h2:0 < (eI gn rs).length:=List.length_pos_of_mem kG
  have hrow:∀ s,s < (eI gn rs).length->(nX gn rs).getD s []=yE rs (eI gn rs) (2 * gn) ((eI gn rs).getD s []):=fun s h=>by
    unfold nX;rw [XY];simp [XJ,h]
  refine ⟨by omega,by simp,by omega,fun s h=>by rw [hrow s O,yE];simp,fun s x h hx=>?_⟩
  rw [c5,hrow s O,yE,eW _ 0 hx,rM]
  split
  · have hpm:(eI gn rs).getD s [] ∈ eI gn rs:=aX O
    have V:((eI gn rs).getD s [] ++ [bq.getD x 0]).all (je (gn:Int))=true:=by
      rw [List.all_append,qL hs _ hpm]
      simp only [List.all_cons,List.all_nil,Bool.and_true,QX,je,XK,Vq,BF x O];omega
    have:=xY O kG (qL hs) _ V
    omega
  · omega
theorem Aj (hs:bN (gn:Int) l rs=true) (hb:ga (il gn rs)<=18000):∃ W,Ux (2 * gn) (s8 (2 * gn) (il gn rs)).L (s8 (2 * gn) (il gn rs)).E W ((il gn rs).map d8) :=
  YG (fun w hw c hc=>by have:=sC (Vx.1 (vl hs hw) c hc);exact this) (yi hs)
theorem vP (hs:bN (gn:Int) l rs=true) (hb:ga (il gn rs)<=18000) (w:List Nat) (hw:Ls (2 * gn) w) :
    (fG (Gv (2 * gn) (il gn rs)) (Ak (2 * gn) (il gn rs)) w 0=true ↔ vF ((il gn rs).map d8) w)/\(fG (List.replicate (nX gn rs).length true) (nX gn rs) w 0=true ↔ vF ((il gn rs).map d8) w):=by
  obtain ⟨W,h⟩:=Aj hs hb
  have hne:[] ∉ (il gn rs).map d8:=fun z=>by
    obtain ⟨w,h1,h2⟩:=Vk.1 z
    exact yi hs w h1 (List.map_eq_nil_iff.1 h2)
  refine ⟨?_,?_⟩
  · have:=UL h w hw [] 0 h.pos (by rw [h.zero];rfl) (vF.nil hne)
    rwa [List.nil_append] at this
  · have hl:(nX gn rs).length=(eI gn rs).length:=by simp [nX]
    have:=WB hs w hw [] 0 (List.length_pos_of_mem kG) (by rw [Mz];rfl) Ls.nil (vF.nil hne)
    rw [List.nil_append] at this
    rwa [hl]
theorem UD (hs:bN (gn:Int) l rs=true) (hb:ga (il gn rs)<=18000) (hW:(s8 (2 * gn) (il gn rs)).L.length<=19000):n0 (2 * gn) (Gv (2 * gn) (il gn rs)) (Ak (2 * gn) (il gn rs)):=by
  obtain ⟨W,h⟩:=Aj hs hb
  have hg:=kn hs
  have:=h.len.1
  exact Ol h O O
end
section
variable {P:Program} {nt:Nat} {ops:Array Oper} {Q:Exit->Fr->AH->Prop} {e:ii} {ds:List Deferred} {A:AH} {d:Nat} {x:Operand} {s t:TypeId} {ty:TypeId} {ps:String} {af:Array Edge} {listed:Array Bool} {held:List (Nat × fx)} {i:Nat} {C:List Nat} {k:IntKind} {c:UInt8}
theorem V.DOps.runeStr (ho:ops[i]? = some { dst:=some d,op:=.convert s t x,type:=ty,pos:=ps,after:=af,guard:=none }) (hlt:Nat.blt d nt=true) (hs:P.underlying s=some (.int k)) (ht:P.underlying t=some .string) (hx:cd e x=some (dT c)) (hc:c < 128)
    (hk:DOps P nt ops Q (listed.setIfInBounds i true) ((i,[]) :: held) C ⟨(d,aM [c]) :: e,ds⟩ A):DOps P nt ops Q listed held (i :: C) ⟨e,ds⟩ A:=by
  refine DOps.quiet (T:=[]) (v:=aM [c]) ho Z (dc hlt) (fun a w ha hw=>⟨(fun p hp=>by cases hp),.inl ⟨by simp [Region.wanted],fun w' _=>?_⟩⟩) hk
  have h1:=cI ha hx
  have h2:Utf8.encode (c.toNat:Int)=⟨#[c]⟩:=by
    have:=JB c hc
    cases q:Utf8.encode (c.toNat:Int) with | mk d=>rw [q] at this;simp only at this;rw [this]
  simp only [execOp,h1,Go.convert,Sem.run_bind,cg hs,cg ht,Result.andThen_ok,dT,Conv.intToString,Sem.run_pure,h2]
  rfl
end
section
variable {l P P1:List Wd} {w p:Wd} {i j m:Nat} {rs:List aQ} {z:Int} {g:Int}
theorem at_no (hi:l.length<=i) (h:∀ m,m < i->¬ l.getD m []=w):yw l w = -1:=by
  rw [yw,Xy]
  intro hm
  have:=Bg hm
  exact h _ O this.2
theorem at_eq:atw l w=yw l w:=by
  by_cases h:w ∈ l
  · have:=Bg h
    rw [yw,Xw h]
    exact uw this.1 (fun j hj e=>by
      have h2:=List.not_of_lt_findIdx (xs:=l) (p:=(· == w)) (i:=j) (by simpa [List.idxOf] using hj)
      rw [gd (Nat.lt_trans hj this.1)] at e
      rw [e] at h2
      simp at h2) this.2
  · have:∀ m,m < l.length->¬ l.getD m []=w:=fun m hm e=>h (e ▸ aX hm)
    rw [wG (XX _) this,at_no (XX _) this]
theorem YH (h:yw l w < 0):w ∉ l:=fun q=>by rw [yw,Xw q] at h;omega
theorem Iy (hj:1<=j) (e:P1=js rs P w (j - 1)) (h:nS rs (w.take j)=true) (h2:yw P1 (w.take j) < 0):P1 ++ [w.take j]=js rs P w (j + 1 - 1):=by
  obtain ⟨j,rfl⟩:∃ y,j=y + 1:=⟨j - 1,by omega⟩
  rw [show j + 1 - 1=j by omega] at e
  have hn:w.take (j + 1) ∉ js rs P w j:=by rw [<- e];exact YH h2
  rw [show j + 1 + 1 - 1=j + 1 by omega,m4,j9,Xw ⟨h,hn⟩,e]
theorem Yr (hj:1<=j) (e:P1=js rs P w (j - 1)) (h:¬ (nS rs (w.take j)=true/\yw P1 (w.take j) < 0)):P1=js rs P w (j + 1 - 1):=by
  obtain ⟨j,rfl⟩:∃ y,j=y + 1:=⟨j - 1,by omega⟩
  rw [show j + 1 - 1=j by omega] at e
  rw [show j + 1 + 1 - 1=j + 1 by omega,m4,j9,Xy,e]
  rintro ⟨q1,q2⟩
  refine h ⟨q1,?_⟩
  rw [yw,Xy (by rw [e];exact q2)];decide
theorem Iu (hj:1<=j) (e:P1=js rs P w (j - 1)) (h:nS rs (w.take j)=false):P1=js rs P w (j + 1 - 1):=Yr hj e fun q=>by rw [h] at q;cases q.1
theorem Iw (hj:1<=j) (e:P1=js rs P w (j - 1)) (h:¬ yw P1 (w.take j) < 0):P1=js rs P w (j + 1 - 1):=Yr hj e fun q=>h q.2
def Ah (P:List Wd) (w:Wd) (m:Nat) (z:Int):Prop:=(z = -1/\m<=w.length/\jP P (w.drop m)=jP P w)\/(0<=z/\z=jP P w)
theorem Ah.start:Ah P w 0 (-1):=.inl ⟨rfl,XZ _,rfl⟩
theorem ZU (h:w ∈ P):jP P w=(P.idxOf w:Int):=by
  cases w with
  | nil=>rw [jP,yw,Xw h]
  | cons a t=>rw [jP,Xw h]
theorem Ah.next (h0:[] ∈ P) (h:Ah P w m z) (hz:z < 0):Ah P w (m + 1) (yw P (w.drop m)):=by
  rcases h with ⟨_,h1,h2⟩ | ⟨h1,_⟩
  · by_cases q:w.drop m ∈ P
    · right
      rw [yw,Xw q,<- h2,ZU q]
      exact ⟨by omega,Z⟩
    · left
      rw [yw,Xy q]
      have hm:m < w.length:=by
        rcases VW m w.length with z | z
        · exact z
        · rw [List.drop_of_length_le z] at q;exact absurd h0 q
      refine ⟨Z,hm,?_⟩
      rw [<- h2,qC (z:=(0:UInt8)) hm,jP,Xy]
      rw [<- qC hm];exact q
  · omega
theorem Ah.end (h:Ah P w m z) (hm:¬ m<=w.length\/¬ z < 0):z=jP P w:=by
  rcases h with ⟨h1,h2,_⟩ | ⟨_,h2⟩
  · exfalso;omega
  · exact h2
theorem mz {f:Nat->Int} {k c:Nat} {o o1:List Int} {v:Int} (h:o=(List.range c).map f ++ List.replicate (k - c) 0) (hc:c < k) (hv:v=f c) (h1:o1=o.set c v):o1=(List.range (c + 1)).map f ++ List.replicate (k - (c + 1)) 0:=by
  have:=kU (r:=(List.range c).map f) (k:=k) (v:=v) (by simpa using hc)
  rw [Tq,Qz] at this
  rw [h1,h,this,Ty,VV,hv];rfl
end
theorem WD {f:Nat->Int} {k c:Nat} {o:List Int} (h:o=(List.range c).map f ++ List.replicate (k - c) 0) (hc:c=k):o=(List.range k).map f:=by subst hc;rw [h,Qx];simp
theorem wK {rs:List aQ} {P:List Wd} {p:Wd} {x:Nat} (h:(!nS rs (p ++ [bq.getD x 0]))=true):-1=rM rs P p x:=by
  rw [rM,Xy];intro q;rw [q] at h;cases h
theorem uA {rs:List aQ} {P:List Wd} {p:Wd} {x:Nat} {z:Int} (h:(!nS rs (p ++ [bq.getD x 0]))=false) (e:z=jP P (p ++ [bq.getD x 0])):z=rM rs P p x:=by
  rw [rM,Xw,e]
  cases q:nS rs (p ++ [bq.getD x 0]) with
  | true=>rfl
  | false=>rw [q] at h;cases h
section
variable {k n i j m:Nat} {N Lr:List (List Int)} {cls o o1 fi r:List Int} {z v:Int}
def rO (k:Nat) (N:List (List Int)) (cls:List Int) (i j:Nat):List Int:=cls.getD i 0 :: (List.range j).map fun x=>if 0<=c5 N i x then cls.getD (c5 N i x).toNat 0 else -1
theorem Ia:rO k N cls i (j + 1)=rO k N cls i j ++ [if 0<=c5 N i j then cls.getD (c5 N i j).toNat 0 else -1]:=by simp [rO,Ty]
theorem LL:rO k N cls i k=jT k N cls i:=rfl
theorem xc:(jT k N cls i).length=k + 1:=by simp [jT]
theorem LM:(rO k N cls i j).length=j + 1:=by simp [rO]
def Gu (k:Nat) (N:List (List Int)) (cls:List Int) (n i:Nat) (Lr:List (List Int)):Prop:=Lr=(List.range i).map (jT k N cls) ++ List.replicate (n - i) []
theorem Gu.len (h:Gu k N cls n i Lr) (hi:i<=n):Lr.length=n:=by rw [h];simp;omega
theorem Gu.start:Gu k N cls n 0 (List.replicate n []):=by simp [Gu]
theorem Gu.at (h:Gu k N cls n i Lr) (hi:i < n):Lr.getD i []=[]:=by
  rw [h,XJ,TV (by simp)]
  simp [show 0 < n - i by omega]
theorem Gu.next (h:Gu k N cls n i Lr) (hi:i < n) {L1:List (List Int)} (e:L1=Lr.set i (rO k N cls i j)) (hj:j=k):Gu k N cls n (i + 1) L1:=by
  subst hj
  rw [Gu,e,h,LL,RK _ _ (by simp)]
  simp only [Tq,Qz,Qx]
  rw [show n - i=(n - (i + 1)) + 1 by omega,List.replicate_succ,List.set_cons_zero,Ty,VV]
  simp
theorem Gu.fin (h:Gu k N cls n i Lr) (hi:i=n) {a:Nat} (ha:a < n):Lr.getD a []=jT k N cls a:=by
  subst hi
  rw [h,Qx,List.replicate_zero,Qj,eW _ [] ha]
theorem Kb {L1 L2:List (List Int)} {i:Nat} {v:Int} (hi:i < Lr.length) (e:L1=Lr.set i (rO k N cls i j)) (hv:v=if 0<=c5 N i j then cls.getD (c5 N i j).toNat 0 else -1) (e2:L2=L1.set i (L1.getD i [] ++ [v])):L2=Lr.set i (rO k N cls i (j + 1)):=by
  rw [e2,e,dl hi,Xw Z,Sv,Ia,hv]
theorem xP {x y:List Int} (hl:x.length=y.length) (hi:x.length<=i) (h:∀ m,m < i->x.getD m 0=y.getD m 0):x=y:=ro (d:=(0:Int)) hl hi h
structure KA (n:Nat) (f:Nat->List Int) (i:Nat) (o fi:List Int):Prop where
  run:∃ r,bW ((List.range i).map f)=(r,fi.map fun s=>f s.toNat)/\r.length=i/\o=r ++ List.replicate (n - i) 0
  rng:∀ s ∈ fi,0<=s/\s < (i:Int)
  le:fi.length<=i
variable {f:Nat->List Int}
theorem KA.start:KA n f 0 (List.replicate n 0) []:=⟨⟨[],rfl,rfl,by simp⟩,(fun s hs=>by cases hs),XX _⟩
theorem KA.len (h:KA n f i o fi) (hi:i<=n):o.length=n:=by obtain ⟨r,_,h2,h3⟩:=h.run;rw [h3];simp;omega
def Gj (f:Nat->List Int) (fi:List Int) (i m:Nat) (z:Int):Prop:=(z = -1/\∀ a,a < m->a < fi.length->¬ f i=f (fi.getD a 0).toNat)\/(0<=z/\z.toNat < fi.length/\f i=f (fi.getD z.toNat 0).toNat/\∀ a,a < z.toNat->¬ f i=f (fi.getD a 0).toNat)
theorem Gj.start:Gj f fi i 0 (-1):=.inl ⟨rfl,fun a h=>by omega⟩
theorem Gj.hit (h:Gj f fi i m z) (hz:z < 0) (hm:m < fi.length) (e:f i=f (fi.getD m 0).toNat):Gj f fi i (m + 1) (m:Int):=by
  rcases h with ⟨_,h1⟩ | h1
  · exact .inr ⟨by omega,by simpa using hm,by simpa using e,fun a ha=>h1 a (by simpa using ha) O⟩
  · omega
theorem Gj.miss (h:Gj f fi i m z) (hz:z < 0) (e:¬ f i=f (fi.getD m 0).toNat):Gj f fi i (m + 1) z:=by
  rcases h with ⟨h0,h1⟩ | h1
  · refine .inl ⟨h0,fun a ha hl=>?_⟩
    rcases VW a m with q | q
    · exact h1 a q hl
    · rw [show a=m by omega];exact e
  · omega
theorem Gj.none (h:Gj f fi i m z) (hz:z < 0) (hm:fi.length<=m):f i ∉ fi.map fun s=>f s.toNat:=fun q=>by
  rcases h with ⟨h0,h1⟩ | h1
  · obtain ⟨s,hs,e⟩:=Vk.1 q
    obtain ⟨a,ha,rfl⟩:=VQ hs
    exact h1 a O ha (by rw [gd ha];exact e.symm)
  · omega
theorem Ln {K:Type} [DecidableEq K] {l:List K} {a:Nat} {x d:K} (ha:a < l.length) (e:l.getD a d=x) (h:∀ b,b < a->¬ l.getD b d=x):l.idxOf x=a:=by
  have hm:x ∈ l:=e ▸ aX ha
  have h1:=Vj.2 hm
  have h2:l.getD (l.idxOf x) d=x:=by rw [gd h1];exact TZ h1
  rcases Nat.lt_trichotomy (l.idxOf x) a with q | q | q
  · exact absurd h2 (h _ q)
  · exact q
  · exfalso
    have h3:=List.not_of_lt_findIdx (xs:=l) (p:=(· == x)) (i:=a) (by simpa [List.idxOf] using q)
    rw [gd ha] at e
    simp [e] at h3
def Zb {K:Type} [DecidableEq K] (l:List K) (x:K):Nat:=l.idxOf x
theorem Gj.some (h:Gj f fi i m z) (hz:¬ z < 0):f i ∈ (fi.map fun s=>f s.toNat)/\(Zb (fi.map fun s=>f s.toNat) (f i):Int)=z:=by
  rcases h with ⟨h0,h1⟩ | ⟨h0,h1,h2,h3⟩
  · omega
  · have e:∀ a,a < fi.length->(fi.map fun s=>f s.toNat).getD a []=f (fi.getD a 0).toNat:=fun a ha=>by simp [XJ,ha]
    have hl:z.toNat < (fi.map fun s=>f s.toNat).length:=by simpa using h1
    have:=Ln (l:=fi.map fun s=>f s.toNat) (d:=[]) (x:=f i) hl (by rw [e _ h1];exact h2.symm) (fun b hb q=>h3 b hb (by rw [e b O] at q;exact q.symm))
    refine ⟨?_,by rw [show Zb (fi.map fun s=>f s.toNat) (f i)=z.toNat from this];omega⟩
    rw [show f i=(fi.map fun s=>f s.toNat).getD z.toNat [] by rw [e _ h1];exact h2]
    exact aX hl
theorem KA.old (h:KA n f i o fi) (hi:i < n) (q:Gj f fi i m z) (hz:¬ z < 0) (e:o1=o.set i z):KA n f (i + 1) o1 fi:=by
  obtain ⟨r,h1,h2,h3⟩:=h.run
  obtain ⟨q1,q2⟩:=q.some hz
  refine ⟨⟨r ++ [z],?_,by simp [h2],?_⟩,fun s hs=>by have:=h.rng s hs;omega,by have:=h.le;omega⟩
  · rw [Ty,VV,Tz,Qv,mF,h1,mq,Xw q1]
    show (r ++ [(Zb (fi.map fun s=>f s.toNat) (f i):Int)],_)=_
    rw [q2]
  · rw [e,h3,<- h2];exact kU O
theorem KA.new (h:KA n f i o fi) (hi:i < n) (q:Gj f fi i m z) (hz:z < 0) (hm:fi.length<=m) (e:o1=o.set i (fi.length:Int)):KA n f (i + 1) o1 (fi ++ [(i:Int)]):=by
  obtain ⟨r,h1,h2,h3⟩:=h.run
  have q1:=q.none hz hm
  refine ⟨⟨r ++ [(fi.length:Int)],?_,by simp [h2],?_⟩,fun s hs=>?_,by have:=h.le;simp;omega⟩
  · rw [Ty,VV,Tz,Qv,mF,h1,mq,Xy q1];simp
  · rw [e,h3,<- h2];exact kU O
  · rcases VJ.1 hs with z | z
    · have:=h.rng s z;omega
    · rw [XW] at z;omega
structure Gr (k:Nat) (N:List (List Int)) (f ct:Nat) (cls:List Int):Prop where
  len:cls.length=N.length
  cnt:ct<=(bW cls).2.length
  fuel:N.length < f + ct
  run:i4 N.length (jT k N) f ct cls=iI k N
  pos:∀ c ∈ cls,0<=c
variable {fu cnt:Nat}
theorem Gr.start (h:0 < N.length):Gr k N (N.length + 2) 0 (List.replicate N.length 1):=⟨by simp,XZ _,by omega,rfl,fun c hc=>by rw [List.eq_of_mem_replicate hc];decide⟩
theorem Gr.bound (h:Gr k N fu cnt cls):0 < fu:=by have:=h.cnt;have:=wd cls;have:=h.len;have:=h.fuel;omega
theorem Gr.fin (h:KA N.length (jT k N cls) i o fi) (hi:i=N.length):bW ((List.range N.length).map (jT k N cls))=(o,fi.map fun s=>jT k N cls s.toNat):=by
  subst hi
  obtain ⟨r,h1,h2,h3⟩:=h.run
  rw [h1,h3];simp
theorem Gr.finer (h:Gr k N fu cnt cls) (hf:bW ((List.range N.length).map (jT k N cls))=(o,fi.map fun s=>jT k N cls s.toNat)):cnt<=fi.length:=by
  have:=pz cls ((List.range N.length).map (jT k N cls)) 0 [] (by simp [h.len]) (fun i j hi hj e=>by
    simp only [Tq,Qz] at hi hj
    rw [eW _ [] hi,eW _ [] hj] at e
    unfold jT at e;exact (List.cons.inj e).1)
  rw [hf,Tq] at this
  have:=h.cnt;omega
theorem Gr.stop (h:Gr k N fu cnt cls) (hf:bW ((List.range N.length).map (jT k N cls))=(o,fi.map fun s=>jT k N cls s.toNat)) (e:fi.length=cnt):o=iI k N:=by
  obtain ⟨fu,rfl⟩:∃ y,fu=y + 1:=⟨fu - 1,by have:=h.bound;omega⟩
  rw [<- h.run,i4,hf,Tq,Xw e]
theorem Gr.next (h:Gr k N fu cnt cls) (hf:bW ((List.range N.length).map (jT k N cls))=(o,fi.map fun s=>jT k N cls s.toNat)) (e:¬ fi.length=cnt):Gr k N (fu - 1) fi.length o:=by
  have hb:=h.bound
  have h2:=h.finer hf
  obtain ⟨fu,rfl⟩:∃ y,fu=y + 1:=⟨fu - 1,by omega⟩
  have hl:o.length=N.length:=by have:=ll ((List.range N.length).map (jT k N cls));rw [hf] at this;simpa using this
  refine ⟨hl,?_,by have:=h.fuel;omega,?_,fun c hc=>?_⟩
  · have:=xm ((List.range N.length).map (jT k N cls)) []
    rw [hf,Tq] at this;exact this
  · rw [<- h.run,i4,hf,Tq,Xy e];rfl
  · have:=tF ((List.range N.length).map (jT k N cls)) c (by rw [hf];exact hc);exact this.1
theorem u6 (h:o=List.replicate i 1 ++ List.replicate (n - i) 0) (hi:i < n) (e:o1=o.set i 1):o1=List.replicate (i + 1) 1 ++ List.replicate (n - (i + 1)) 0:=by
  have:=kU (r:=List.replicate i (1:Int)) (k:=n) (v:=1) (by simpa using hi)
  rw [TJ] at this
  rw [e,h,this,List.replicate_succ' (n:=i)]
end
section
variable {k n i c:Nat} {N R:List (List Int)} {cls Q Q1 M M1 r o o1:List Int} {q t:Int} {key:Int->Int} {step:Int->Nat->Option Int}
structure vG (n:Nat) (key:Int->Int) (Q M:List Int):Prop where
  len:M.length=n
  is:∀ c,c < n->M.getD c 0=if (c:Int) ∈ Q.map key then ((Q.map key).idxOf (c:Int):Int) else -1
theorem vG.start {a:Int} (h:M=List.replicate n (-1)) (hk:0<=key a/\key a < (n:Int)) (e:M1=M.set (key a).toNat 0):vG n key [a] M1:=by
  refine ⟨by rw [e,h];simp,fun c hc=>?_⟩
  rw [e,dl (by rw [h];simp;omega)]
  by_cases q:c=(key a).toNat
  · rw [Xw q,Xw Or]
    simp [show key a=(c:Int) by omega]
  · rw [Xy q,Xy Or,h];simp [hc]
theorem vG.lt (h:vG n key Q M) (ht:0<=key t/\key t < (n:Int)):M.getD (key t).toNat 0 < 0 ↔ key t ∉ Q.map key:=by
  rw [h.is _ O,show (((key t).toNat:Nat):Int)=key t by omega]
  split
  · rename_i q;exact ⟨fun z=>by omega,fun z=>absurd q z⟩
  · rename_i q;exact ⟨fun _=>q,fun _=>by decide⟩
theorem vG.at (h:vG n key Q M) (ht:0<=key t/\key t < (n:Int)) (hm:key t ∈ Q.map key):M.getD (key t).toNat 0=((Q.map key).idxOf (key t):Int):=by
  rw [h.is _ O,show (((key t).toNat:Nat):Int)=key t by omega,Xw hm]
theorem vG.add (h:vG n key Q M) (ht:0<=key t/\key t < (n:Int)) (hm:key t ∉ Q.map key) (e:M1=M.set (key t).toNat (Q.length:Int)):vG n key (Q ++ [t]) M1:=by
  refine ⟨by rw [e,XQ];exact h.len,fun c hc=>?_⟩
  rw [e,dl (by rw [h.len];omega),VV,Tz,Qv]
  by_cases q:c=(key t).toNat
  · have q2:(c:Int)=key t:=by omega
    rw [Xw q,q2,Xw (by simp),List.idxOf_append,Xy hm];simp
  · have q2:(c:Int) ≠ key t:=by omega
    rw [Xy q,h.is c hc]
    by_cases w:(c:Int) ∈ Q.map key
    · rw [Xw w,Xw (List.mem_append_left _ w),List.idxOf_append,Xw w]
    · rw [Xy w,Xy (by rw [VJ,XW];exact fun z=>z.elim w q2)]
def JP (key:Int->Int) (step:Int->Nat->Option Int) (q:Int) (Q:List Int) (c:Nat):List Int × List Int:=(List.range c).foldl (d4 key step q) ([],Q)
theorem xd:JP key step q Q (c + 1)=d4 key step q (JP key step q Q c) c:=by simp [JP,Ty]
theorem Qt (h:JP key step q Q c=(r,Q1)) (hs:step q c=none):JP key step q Q (c + 1)=(r ++ [-1],Q1):=by rw [xd,h,d4,hs]
theorem VA (h:JP key step q Q c=(r,Q1)) (hs:step q c=some t) (ht:key t ∈ Q1.map key):JP key step q Q (c + 1)=(r ++ [((Q1.map key).idxOf (key t):Int)],Q1):=by
  rw [xd,h,d4,hs];dsimp only;rw [Xw ht]
theorem VB (h:JP key step q Q c=(r,Q1)) (hs:step q c=some t) (ht:key t ∉ Q1.map key):JP key step q Q (c + 1)=(r ++ [(Q1.length:Int)],Q1 ++ [t]):=by
  rw [xd,h,d4,hs];dsimp only;rw [Xy ht]
theorem Ib {f:Nat} (hf:0 < f) (hi:Q.length<=i):eP k key step f i Q R=(Q,R):=by
  obtain ⟨f,rfl⟩:∃ g,f=g + 1:=⟨f - 1,by omega⟩
  rw [eP,Xy O]
theorem DL {f:Nat} {X:List Int × List (List Int)} (hf:0 < f) (hi:i < Q.length) (h:eP k key step f i Q R=X) (e:JP key step (Q.getD i 0) Q k=(r,Q1)):eP k key step (f - 1) (i + 1) Q1 (R ++ [r])=X:=by
  obtain ⟨f,rfl⟩:∃ g,f=g + 1:=⟨f - 1,by omega⟩
  rw [<- h,eP,Xw hi]
  show _=eP k key step f (i + 1) (JP key step (Q.getD i 0) Q k).2 (R ++ [(JP key step (Q.getD i 0) Q k).1])
  rw [e];rfl
abbrev qg (k:Nat) (N:List (List Int)) (s:Int):Int:=(iI k N).getD s.toNat 0
abbrev AM (N:List (List Int)) (q:Int):Prop:=0<=q/\q < (N.length:Int)
structure Uq (k:Nat) (N:List (List Int)) (f i:Nat) (Q:List Int) (R:List (List Int)) (M:List Int):Prop where
  le:i<=Q.length
  run:eP k (qg k N) (gb N) f i Q R=UQ k N
  fuel:f + i=N.length + 1
  num:R.length=i
  q:QK (qg k N) (AM N) Q
  m:vG N.length (qg k N) Q M
structure CI (k:Nat) (N:List (List Int)) (q:Int) (Q:List Int) (c:Nat) (o Q1 M1:List Int):Prop where
  le:c<=k
  run:∃ r,JP (qg k N) (gb N) q Q c=(r,Q1)/\r.length=c/\o=r ++ List.replicate (k - c) 0
  q:QK (qg k N) (AM N) Q1
  m:vG N.length (qg k N) Q1 M1
  pre:Q <+: Q1
variable {fu:Nat}
theorem Cb (h:QK (qg k N) (AM N) Q):Q.length<=N.length:=by
  have:Q.Nodup:=List.Pairwise.imp (fun {a b} hab e=>hab (by rw [e])) (RZ.1 h.nd)
  exact jJ this h.dom
theorem qE (h:n0 k (List.replicate N.length true) N) (ht:AM N t):0<=qg k N t/\qg k N t < (N.length:Int):=by
  have hl:=(sh h).2
  exact O8 h _ (aX (by have:=ht.1;have:=ht.2;omega))
theorem Uq.start (h:n0 k (List.replicate N.length true) N) (e:M=List.replicate N.length (-1)) (e1:M1=M.set (qg k N 0).toNat 0):Uq k N (N.length + 1) 0 [0] [] M1:=by
  have hn:=h.num
  have hd:AM N 0:=⟨Int.le_refl _,by omega⟩
  exact ⟨XZ _,Z,Z,Z,⟨by simp,fun q hq=>by rw [XW] at hq;subst hq;exact hd⟩,vG.start e (qE h hd) e1⟩
theorem CI.start (h:Uq k N fu i Q R M):CI k N (Q.getD i 0) Q 0 (List.replicate k 0) Q M:=⟨XZ _,⟨[],rfl,rfl,by simp⟩,h.q,h.m,Tx _⟩
theorem CI.len (h:CI k N q Q c o Q1 M1):o.length=k:=by obtain ⟨r,_,h2,h3⟩:=h.run;have:=h.le;rw [h3];simp;omega
theorem CI.none (h:CI k N q Q c o Q1 M1) (hc:c < k) (hs:c5 N q.toNat c < 0) (e:o1=o.set c (-1)):CI k N q Q (c + 1) o1 Q1 M1:=by
  obtain ⟨r,h1,h2,h3⟩:=h.run
  refine ⟨hc,⟨r ++ [-1],Qt h1 (by unfold gb;rw [Xy O]),by simp [h2],?_⟩,h.q,h.m,h.pre⟩
  rw [e,h3,<- h2];exact kU O
theorem CI.met (h:CI k N q Q c o Q1 M1) (hA:n0 k (List.replicate N.length true) N) (hc:c < k) (hq:AM N q) (hs:0<=c5 N q.toNat c) (hm:¬ M1.getD (qg k N (c5 N q.toNat c)).toNat 0 < 0) (e:o1=o.set c (M1.getD (qg k N (c5 N q.toNat c)).toNat 0)):CI k N q Q (c + 1) o1 Q1 M1:=by
  obtain ⟨r,h1,h2,h3⟩:=h.run
  have hv:=hA.val q.toNat c (by have:=hq.1;have:=hq.2;omega) hc
  have hk:=qE hA (show AM N (c5 N q.toNat c) from ⟨hs,hv.2⟩)
  have hin:qg k N (c5 N q.toNat c) ∈ Q1.map (qg k N):=Classical.byContradiction fun z=>hm ((h.m.lt hk).2 z)
  rw [h.m.at hk hin] at e
  refine ⟨hc,⟨_,VA h1 (by unfold gb;rw [Xw hs]) hin,by simp [h2],?_⟩,h.q,h.m,h.pre⟩
  rw [e,h3,<- h2];exact kU O
theorem CI.new (h:CI k N q Q c o Q1 M1) (hA:n0 k (List.replicate N.length true) N) (hc:c < k) (hq:AM N q) (hs:0<=c5 N q.toNat c) (hm:M1.getD (qg k N (c5 N q.toNat c)).toNat 0 < 0) {M2:List Int} (e2:M2=M1.set (qg k N (c5 N q.toNat c)).toNat (Q1.length:Int)) (e:o1=o.set c (M2.getD (qg k N (c5 N q.toNat c)).toNat 0)) :
    CI k N q Q (c + 1) o1 (Q1 ++ [c5 N q.toNat c]) M2:=by
  obtain ⟨r,h1,h2,h3⟩:=h.run
  have hv:=hA.val q.toNat c (by have:=hq.1;have:=hq.2;omega) hc
  have hd:AM N (c5 N q.toNat c):=⟨hs,hv.2⟩
  have hk:=qE hA hd
  have hno:=(h.m.lt hk).1 hm
  rw [e2,dl (by rw [h.m.len];omega),Xw Z] at e
  refine ⟨hc,⟨_,VB h1 (by unfold gb;rw [Xw hs]) hno,by simp [h2],?_⟩,h.q.add hd hno,h.m.add hk hno e2,h.pre.trans (SZ _ _)⟩
  rw [e,h3,<- h2];exact kU O
theorem CI.row (h:CI k N q Q c o Q1 M1) (hc:c=k):JP (qg k N) (gb N) q Q k=(o,Q1):=by
  subst hc
  obtain ⟨r,h1,h2,h3⟩:=h.run
  rw [h1,h3,Qx];simp
theorem Uq.next (h:Uq k N fu i Q R M) (hi:i < Q.length) (j:CI k N (Q.getD i 0) Q c o Q1 M1) (hc:c=k):Uq k N (fu - 1) (i + 1) Q1 (R ++ [o]) M1:=by
  have hl:=Cb h.q
  have hf:=h.fuel
  exact ⟨SX hi j.pre.length_le,DL O hi h.run (j.row hc),by omega,by simp [h.num],j.q,j.m⟩
theorem Uq.end (h:Uq k N fu i Q R M) (hi:Q.length<=i):UQ k N=(Q,R)/\i=Q.length:=by
  have hl:=Cb h.q
  have hf:=h.fuel
  have:=h.le
  exact ⟨by rw [<- h.run];exact Ib O hi,by omega⟩
end
def uy (k:Nat) (N:List (List Int)):List Bool × List (List Int):=((UQ k N).1.map (fun _=>true),(UQ k N).2)
theorem EP {n:Nat} {b:Bool} (h:b=true):List.replicate n true ++ [b]=List.replicate (n + 1) true:=by rw [h,List.replicate_succ' (n:=n)]
theorem VM (Q:List Int):Q.map (fun _=>true)=List.replicate Q.length true:=by
  induction Q with
  | nil=>rfl
  | cons a Q ih=>rw [Tz,ih];rfl
def ik (L:List (List Int)):List Int->Int->Int
  | [],s=>s
  | x :: w,s=>ik L w (if s < 0 then -1 else c5 L s.toNat x.toNat)
theorem xe {k:Nat} {acc:List Bool} {L:List (List Int)} (h:n0 k acc L):∀ (w:List Nat) (s:Int),Ls k w->-1<=s/\s < (L.length:Int)->(-1<=ik L (w.map fun (x:Nat)=>(x:Int)) s/\ik L (w.map fun (x:Nat)=>(x:Int)) s < (L.length:Int)) /\
    (decide (0<=ik L (w.map fun (x:Nat)=>(x:Int)) s) && acc.getD (ik L (w.map fun (x:Nat)=>(x:Int)) s).toNat false)=if s < 0 then false else fG acc L w s
  | [],s,_,hs=>by
    refine ⟨hs,?_⟩
    show (decide (0<=s) && acc.getD s.toNat false)=_
    split
    · rw [Xv O];rfl
    · rw [Vv O];rfl
  | x :: w,s,hw,hs=>by
    obtain ⟨hx,hw⟩:=hw.tail
    rw [Tz,ik,XY]
    by_cases q:s < 0
    · rw [Xw q,Xw q]
      have:=xe h w (-1) hw (by have:=h.num;omega)
      rwa [Xw U] at this
    · rw [Xy q,Xy q]
      have hv:=h.val s.toNat x O hx
      have:=xe h w (c5 L s.toNat x) hw O
      refine ⟨this.1,this.2.trans ?_⟩
      by_cases q2:0<=c5 L s.toNat x
      · rw [Xy O,kA q2]
      · rw [Xw O,jK q2]
theorem LQ {L:List (List Int)} {w:List Int} {i:Nat} {s:Int} (hi:i < w.length):ik L (w.drop i) s=ik L (w.drop (i + 1)) (if s < 0 then -1 else c5 L s.toNat (w.getD i 0).toNat):=by
  rw [qC (z:=(0:Int)) hi,ik]
theorem QC {L:List (List Int)} {w:List Int} {i:Nat} {s:Int} (hi:w.length<=i):ik L (w.drop i) s=s:=by rw [List.drop_of_length_le hi];rfl
theorem JR {k:Nat} {acc:List Bool} {L:List (List Int)} {s c:Int} (h:n0 k acc L) (hs:-1<=s/\s < (L.length:Int)) (hc:0<=c/\c < (k:Int)):-1<=(if s < 0 then -1 else c5 L s.toNat c.toNat)/\(if s < 0 then -1 else c5 L s.toNat c.toNat) < (L.length:Int):=by
  have hn:=h.num
  split
  · omega
  · exact h.val s.toNat c.toNat O O
theorem DP {k:Nat} {acc:List Bool} {L:List (List Int)} (h:n0 k acc L):∀ (w:List Int) (s:Int),(∀ x ∈ w,0<=x/\x < (k:Int))->-1<=s/\s < (L.length:Int)->-1<=ik L w s/\ik L w s < (L.length:Int)
  | [],s,_,hs=>hs
  | x :: w,s,hw,hs=>DP h w _ (fun y hy=>hw y (VZ _ hy)) (JR h hs (hw x VX))
theorem OL {k:Nat} {acc:List Bool} {L:List (List Int)} (h:n0 k acc L) (hn:L.length<=19000) (h0:∃ w,Ls k w/\fG acc L w 0=true):n0 k (vK k acc L).1 (vK k acc L).2:=by
  obtain ⟨hM,hMl⟩:=uk h
  have hpos:=(C9 h h0 [] Ls.nil).2
  obtain ⟨hm,hq⟩:=uC hM
  have hl:=tv hM
  obtain ⟨w0,a3,e0⟩:=h0
  generalize hacc:rg k acc L=acc' at *
  generalize hN:(gH k L).2=N at *
  have hlive:(eH acc' N).getD 0 false=true:=by
    refine Classical.byContradiction fun q=>?_
    have q:(eH acc' N).getD 0 false=false:=by simpa using q
    rw [vK,hacc,hN,tc q] at hpos
    exact absurd hpos U
  rw [vK,hacc,hN,qx hlive] at hpos ⊢
  have X:0 < N.length:=by
    refine Nat.pos_of_ne_zero fun z=>?_
    have:(eH acc' N).length=0:=by simp [eH,hM.len,z]
    rw [rp this] at hlive;cases hlive
  generalize hlv:eH acc' N=lv at *
  generalize hcl:sg acc' lv N=cls at *
  have a0:cls.getD 0 0 ∈ cls:=aX (by rw [hm.inv.len];exact X)
  have V:=j7 a0
  rw [hm.inv.len] at V
  have a1:QD lv cls (cls.getD 0 0):=⟨a0,by rw [hq.lv _ 0 V.1 X V.2];exact hlive⟩
  have hDs:=Cf hl hm hq
  have hfin:=Cg hq
  have a2:QK id (QD lv cls) [cls.getD 0 0]:=⟨by simp,fun q hq=>by rw [XW] at hq;subst hq;exact a1⟩
  obtain ⟨e1,e2⟩:=om hDs hfin (N.length + 1) 0 [cls.getD 0 0] [] a2 O Z (by simp) (fun j hj=>by omega)
  rw [zm] at e1 e2
  have ex:uz k acc' N=eD k (dL lv N cls) (N.length + 1) 0 [cls.getD 0 0] []:=by rw [uz,hlv,hcl]
  rw [ex] at hpos ⊢
  have hb:=hfin _ e1.q
  have hlen:=e1.len
  generalize (eD k (dL lv N cls) (N.length + 1) 0 [cls.getD 0 0] []).1=Q at *
  generalize (eD k (dL lv N cls) (N.length + 1) 0 [cls.getD 0 0] []).2=R at *
  refine ⟨h.sym,by simp [hlen],⟨hpos,by show R.length<=20000;omega⟩,fun s hs=>(e1.row s (by have:s < R.length:=hs;omega)).1,fun s x hs hx=>?_⟩
  have hs:s < R.length:=hs
  obtain ⟨r1,r2⟩:=(e1.row s O).2 x hx
  show -1<=(R.getD s []).getD x 0/\(R.getD s []).getD x 0 < (R.length:Int)
  cases hst:dL lv N cls (Q.getD s 0) x with
  | none=>rw [r1 hst];omega
  | some t=>have:=r2 t hst;omega
section
variable {g:Int} {gn:Nat} {l:List Wd} {rs:List aQ} {u:Wd}
def rX (g:Int) (l:List Wd) (rs:List aQ):List Bool × List (List Int):=if bN g l rs then uy (2 * g.toNat) (nX g rs) else ([],[])
theorem wj (h:bN g l rs=false):na g l rs=0/\gR g l rs=100/\rX g l rs=([],[]):=by simp [na,gR,rX,h]
theorem tM (h:bN (gn:Int) l rs=true):na gn l rs=2 * gn/\gR gn l rs=0/\rX gn l rs=uy (2 * gn) (nX gn rs):=by simp [na,gR,rX,h]
theorem CW (hs:bN (gn:Int) l rs=true) (hb:ga (il gn rs)<=18000):(s8 (2 * gn) (il gn rs)).L.length<=19000:=by
  obtain ⟨W,h⟩:=Aj hs hb
  have h1:=h.len.1
  -- the trie has a node for each letter at most
  have:∀ (ws:List Wd),(∀ w ∈ ws,∀ c ∈ w,0<=ix c/\ix c < ((2 * gn:Nat):Int))->(o0 (2 * gn) ws).1.length<=1 + ga ws:=by
    intro ws hw
    have hT:∀ i,i<=ws.length->TI (2 * gn) ws i (o0 (2 * gn) (ws.take i)).1 (o0 (2 * gn) (ws.take i)).2:=by
      intro i
      induction i with
      | zero=>intro _;exact TI.start
      | succ i ih =>
        intro hi
        have:=(ih O).next O (fun c hc=>hw _ (aX (d:=([]:Wd)) O) c hc)
        have e:=this.run
        rw [e];exact this
    have:=(hT ws.length (XX _)).num
    rwa [Ry] at this
  have h2:=this (il gn rs) (fun w hw c hc=>sC (Vx.1 (vl hs hw) c hc))
  have h3:(s8 (2 * gn) (il gn rs)).L.length=(o0 (2 * gn) (il gn rs)).1.length:=by
    have:∀ (f i:Nat) (b:BS),(Ur (2 * gn) f i b).L.length=b.L.length:=by
      intro f
      induction f with
      | zero=>intro i b;rfl
      | succ f ih =>
        intro i b
        unfold Ur;split
        · rw [ih]
          have:∀ (xs:List Nat) (b:BS) (n:Nat),(xs.foldl (od n) b).L.length=b.L.length:=by
            intro xs
            induction xs with
            | nil=>intro b n;rfl
            | cons x xs ih=>intro b n;rw [Tj,ih];unfold od;split <;> simp
          exact this _ _ _
        · rfl
    exact this _ _ _
  omega
theorem UF (hs:bN (gn:Int) l rs=true) (hb:ga (il gn rs)<=18000):(Ak (2 * gn) (il gn rs)).length<=19000:=by
  rw [Ak,Tq];exact CW hs hb
theorem uu (hs:bN (gn:Int) l rs=true) (hb:ga (il gn rs)<=18000):n0 (2 * gn) (Gv (2 * gn) (il gn rs)) (Ak (2 * gn) (il gn rs)):=UD hs hb (CW hs hb)
theorem Om (hb:bN g l rs=true->ga (il g rs)<=18000):jz g l rs=rX g l rs:=by
  unfold jz rX
  split
  · rename_i hs
    obtain ⟨gn,rfl⟩:∃ n:Nat,g=n:=⟨g.toNat,by have:=kn hs;omega⟩
    rw [XY]
    have hb:=hb hs
    have hr:=J5 hs hb
    have:=KQ (f:=(nX gn rs).length + 1) (uu hs hb) (O7 hr) (fun w hw=>by
      obtain ⟨h1,h2⟩:=vP hs hb w hw
      rw [Rz,h1,h2]) O
    rw [this];rfl
  · rfl
theorem CU (hs:bN (gn:Int) l rs=true) (hb:ga (il gn rs)<=18000):n0 (2 * gn) (jz gn l rs).1 (jz gn l rs).2:=by
  have hA:=uu hs hb
  have hne:[] ∉ (il gn rs).map d8:=fun z=>by
    obtain ⟨w,h1,h2⟩:=Vk.1 z
    exact yi hs w h1 (List.map_eq_nil_iff.1 h2)
  rw [jz,Xw hs,XY]
  have hn:=UF hs hb
  exact OL hA hn ⟨[],Ls.nil,(vP hs hb [] Ls.nil).1.2 (vF.nil hne)⟩
theorem qm (hb:bN g l rs=true->ga (il g rs)<=18000) (h:gR g l rs=0):bN g l rs=true/\n0 (na g l rs) (jz g l rs).1 (jz g l rs).2:=by
  have hs:bN g l rs=true:=by
    cases q:bN g l rs with
    | true=>rfl
    | false=>simp [gR,q] at h
  obtain ⟨gn,rfl⟩:∃ n:Nat,g=n:=⟨g.toNat,by have:=kn hs;omega⟩
  refine ⟨hs,?_⟩
  rw [(rk hs).1]
  exact CU hs (hb hs)
theorem Gw (hb:bN g l rs=true->ga (il g rs)<=18000):(jz g l rs).1.length<=1000000/\(jz g l rs).2.length<=1000000/\∀ r ∈ (jz g l rs).2,r.length<=100000:=by
  by_cases h:gR g l rs=0
  · obtain ⟨hs,hA⟩:=qm hb h
    have hn:=hA.num
    have hk:=hA.sym
    refine ⟨by rw [hA.len];omega,by omega,fun r hr=>?_⟩
    obtain ⟨i,hi,rfl⟩:=VQ hr
    have:=hA.row i hi
    rw [gd hi] at this
    omega
  · have hs:bN g l rs=false:=by
      cases q:bN g l rs with
      | false=>rfl
      | true=>simp [gR,q] at h
    have e:jz g l rs=([],[]):=by simp [jz,hs]
    rw [e]
    exact ⟨XZ _,XZ _,fun r hr=>by cases hr⟩
theorem KF (hs:bN (gn:Int) l rs=true) (hb:ga (il gn rs)<=18000) (hu:u.all (je (gn:Int))=true) (hl:u.length<=100000):fG (jz gn l rs).1 (jz gn l rs).2 (d8 u) 0=nS rs u:=by
  have hg:=kn hs
  have hA:=uu hs hb
  have hw:Ls (2 * gn) (d8 u):=fun x hx=>by
    obtain ⟨c,hc,rfl⟩:=Vk.1 hx
    have:=sC (Vx.1 hu c hc)
    omega
  rw [jz,Xw hs,XY]
  have hne:[] ∉ (il gn rs).map d8:=fun z=>by
    obtain ⟨w,h1,h2⟩:=Vk.1 z
    exact yi hs w h1 (List.map_eq_nil_iff.1 h2)
  rw [(C9 hA ⟨[],Ls.nil,(vP hs hb [] Ls.nil).1.2 (vF.nil hne)⟩ (d8 u) hw).1]
  rw [Rz,(vP hs hb _ hw).1,<- tn hs hu hl]
theorem UE (hb:bN g l rs=true->ga (il g rs)<=18000) (h:gR g l rs=0) (hu:bZ g u=0) :
    (decide (0<=ik (jz g l rs).2 (u.map ix) 0) && (jz g l rs).1.getD (ik (jz g l rs).2 (u.map ix) 0).toNat false)=(bN g l rs && decide (bZ g u=0) && nS rs u):=by
  obtain ⟨hs,hA⟩:=qm hb h
  obtain ⟨gn,rfl⟩:∃ n:Nat,g=n:=⟨g.toNat,by have:=kn hs;omega⟩
  obtain ⟨_,hl,hok⟩:=Fr.all_wcheck hu
  have hw:Ls (2 * gn) (d8 u):=fun x hx=>by
    obtain ⟨c,hc,rfl⟩:=Vk.1 hx
    have:=sC (Vx.1 hok c hc)
    omega
  have e:u.map ix=(d8 u).map fun (x:Nat)=>(x:Int):=by
    unfold d8
    rw [List.map_map]
    refine Qk fun c hc=>?_
    have:=sC (Vx.1 hok c hc)
    show ix c=((ix c).toNat:Int)
    omega
  rw [hs,Vv hu,QX,QX,<- KF hs (hb hs) hok hl,e]
  have V:=CU hs (hb hs)
  have hn:=V.num
  have:=(xe V (d8 u) 0 hw O).2
  rw [Xy U] at this
  exact this
theorem VE {a b:Bool} (h:(!(a == b))=true) (e:a=b):False:=by rw [e] at h;simp at h
theorem Zf (hb:bN g l rs=true->ga (il g rs)<=18000) (h:gR g l rs=0) (hu:bZ g u=0):∀ x ∈ u.map ix,0<=x/\x < ((na g l rs:Nat):Int):=fun x hx=>by
  obtain ⟨hs,hA⟩:=qm hb h
  obtain ⟨gn,rfl⟩:∃ n:Nat,g=n:=⟨g.toNat,by have:=kn hs;omega⟩
  obtain ⟨_,hl,hok⟩:=Fr.all_wcheck hu
  obtain ⟨c,hc,rfl⟩:=Vk.1 hx
  rw [(rk hs).1]
  exact sC (Vx.1 hok c hc)
end
set_option maxRecDepth 100000
theorem YA (u:Value) (l:List W8) (w:W8) (A:AH) (hn:l.length<=1000000) (hu:bz A 1 u (dB l)):bH prog 72 #[u,aM w] A (fun v A1=>v=num (yw l w)/\A=A1) :=
  (s_at u l w A hn hu).mono fun v A1 h=>by rw [at_eq] at h;exact h
theorem Ni (u1 u2:Value) (l1 l2:List Int) (A:AH) (hn:l1.length<=1000000) (hl:l1.length=l2.length) (a0:bz A 1 u1 (cf l1)) (ag:bz A 1 u2 (cf l2)):bH prog 146 #[u1,u2] A (fun v A1=>v=.bool (decide (l1=l2))/\A.le A1/\A1.wf):=by
 refine aN (e:=[(0,u1),(1,u2)]) (args:=[u1,u2]) call146 func146 Z results146 ntmps146 Z Z Z (fun wf=>?_);have ar:=AH.le.refl A;refine ak.sq fun h2=>.region<|.I Z<|.nil<|h2<|.sq fun h4=>.sq fun h6=>.region<|.I Z<|.nil ?_;refine h6<|.block<|.loop (X:=Nat) (fun i=>[(0,u1),(1,u2),(5,num ((i:Nat):Int))]) (fun i B=>(i<=l1.length/\∀ j,j < i->l1.getD j 0=l2.getD j 0)/\A.le B) (fun i=>l1.length - i) 0 (jh Z Z Z) (⟨⟨XZ _,fun j h=>by omega⟩,ar⟩) ?_;rintro i B8 ⟨⟨hi,hq⟩,V⟩;refine ak.wf fun a1=>.sq fun a8=>.sq fun a9=>.region<|.J Z<|.J Z<|.p (bx (n:=l1.length) cQ Z (a0.le V) O (c9 _))<|.p (bK Z Z)<|.nil<|a9 ?_;refine ak.if rfl (fun av=>?_) (fun av=>?_)
 ·refine ak.skip<|a8<|.sq fun aa=>.block<|.sq fun ab=>.drawn [0,1,2,3,4,5,6,7,8] mixed Y Y Z<|.p Z (aK Z)<|.p Z (aK Z) ?_;obtain ⟨aG,aP,aD,aZ,aB,aV,aS,a4,ai,a6,az,a2⟩:=bz.at (i:=i) (a0.le V) O2 O;refine DOps.p Z (al cQ cl Z a4 Z ai)<|.p Z (ah dK Z Z a6 ((cb a2).trans (bJ O)))<|.p Z (aK Z)<|.p Z (aK Z) ?_;obtain ⟨aI,aR,aF,b0,aC,aY,aT,a5,ap,a7,aA,a3⟩:=bz.at (i:=i) (ag.le V) O2 O;refine DOps.p Z (al cQ cl Z a5 Z ap)<|.p Z (ah dK Z Z a7 ((cb a3).trans (bJ O)))<|.p Z (MD Z Z)<|.done<|ab<|.if rfl (fun ay=>?_) (fun ay=>?_)
  ·refine ak.sq fun ac=>.region<|.I Z<|.nil<|ac<|.rt (by exact aH Z (⟨by first | (rw [Xv (fun e=>‹¬ l1.getD i 0=l2.getD i 0› (Xk (fun z=>z.getD i 0) e))];rfl) | (rw [Vv (xP hl O hq)];rfl),V,a1⟩))
  refine ak.skip<|aa<|.region<|.J Z<|.p (bk (b:=1) Z Z O)<|.I Z<|.nil ?_;exact ⟨i + 1,jh Z Z Z,Z,⟨⟨by omega,fun j h=>(XV.1 h).elim (hq j) (fun z=>by subst z;exact Decidable.not_not.1 ‹_›)⟩,V⟩,O1⟩
 refine ak.exit<|h4<|.sq fun ad=>.region<|.I Z<|.nil<|ad<|.rt (by exact aH Z (⟨by first | (rw [Xv (fun e=>‹¬ l1.getD i 0=l2.getD i 0› (Xk (fun z=>z.getD i 0) e))];rfl) | (rw [Vv (xP hl O hq)];rfl),V,a1⟩))
theorem Xm (k:Nat) (L:List (List Int)) (av nv:Value) (rows:List Value) (A:AH) (hok:n0 k (List.replicate L.length true) L) (hav:bz A 1 av (bQ (List.replicate L.length true))) (hnv:bz A 1 nv (dx rows)) (hrl:rows.length=L.length) (hF:∀ i,i < L.length->bz A 1 (rows.getD i undef) (cf (L.getD i []))):bH prog 145 #[.agg #[num ((k:Nat):Int),num ((0:Nat):Int),av,nv]] A (fun v A1=>A.le A1/\A1.wf/\Fresh A A1 v 1 (bQ (List.replicate L.length true))):=by
 refine aN (e:=[(0,.agg #[num ((k:Nat):Int),num ((0:Nat):Int),av,nv])]) (args:=[.agg #[num ((k:Nat):Int),num ((0:Nat):Int),av,nv]]) call145 func145 Z results145 ntmps145 Z Z Z (fun wf=>?_);have bl:=AH.le.refl A;have bA:=hok;obtain ⟨⟨c0,c3⟩,hal,⟨bS,bT⟩,hrow,hval⟩:=hok;have hrep:(List.replicate L.length true).length=L.length:=TJ;refine ak.sq fun h2=>.region<|.m (fun bc=>dQ wf rfl rfl fun A5 b4 ad=>?_);have aC:=bl.trans ad.le;refine bc<|.I Z<|.nil<|h2<|.sq fun h9=>.region<|.m (fun aG=>aE (c:=[]) ad.wf rfl (aq jQ kN z4 rfl U U rfl) fun A12 aT a5=>?_);have a8:=ne_new ad.wf ad.get a5.lo;have ap:=a5.le.g ad.get;have ar:=aC.trans a5.le;refine aG<|.p (ae ip gV U Z)<|.p (ah io Z Z ap Z) ?_;have ai:Fresh A A12 (.slice (some ⟨aT,0,none⟩) 0 0) 1 (bQ []):=Fresh.lit a5.get (bh wf (Xj aC.n a5.lo)) Z G;refine Ops.m (fun aI=>cm rfl rfl jQ kN DB z4 rfl U jQ (fun _ h=>by cases h) ai.own ((hav.le ar).listOf (n:=(List.replicate L.length true).length) (by simp only [bi] <;> omega) O) (by simp only [bi] <;> omega) (KJ _) (by show (_ + _) * 1<=_;simp only [bi,Xq,Xx];(try simp only [Xz,Xq,Xx]);omega) Oy fun A18 a3 ac=>?_);rw [jd] at ac;obtain ⟨aF,aP⟩:=Fresh.grow ai ar wf ac;have aZ:=ac.keep (fun q=>by cases q;exact a8 Z) ap;have aR:=ac.ne (fun q=>by cases q;exact a8 Z) a5.wf ap;refine aI<|.I Z<|.nil ?_;have frR:=ci aF (Xk bQ (List.nil_append (List.replicate L.length true)));refine h9<|.sq fun b0=>.sq fun b1=>.region<|.I Z<|.nil<|b1<|.block<|.loop (X:=Bool) (fun c=>[(1,.pointer (some ⟨b4,0,none⟩)),(3,a3),(4,.bool (c))]) (fun c B=>(True)/\A.le B/\Fresh A B a3 1 (bQ (List.replicate L.length true))/\B.get b4=some (.row true [num ((k:Nat):Int),num ((0:Nat):Int),av,nv] 4)/\V.blk a3 ≠ some b4) (fun c=>c.toNat) true (jh Z Z Z) (⟨trivial,aP,frR,aZ,aR⟩) ?_;rintro c B32 ⟨_,ag,a6,aa,a9⟩;refine ak.wf fun aS=>.sq fun b2=>.sq fun b3=>.region<|.J Z<|.nil<|b3<|.ifB Z (fun bm=>?_) (fun bm=>?_)
 ·refine ak.skip<|b2<|.block<|.sq fun b5=>.region<|.I Z<|.nil<|b5<|.sq fun b6=>.region ?_;refine Ops.p (ae eF fC U Z)<|.p (ah ie Z Z aa Z)<|.p (bx (n:=rows.length) jg Z (hnv.le ag) O (fp _))<|.p (tL Z Z O)<|.I Z<|.nil<|b6<|.block<|.loop (X:=Int) (fun i=>[(1,.pointer (some ⟨b4,0,none⟩)),(3,a3),(4,.bool (false)),(5,num (i))]) (fun i B=>(-1<=i/\i < (L.length:Int))/\A.le B/\Fresh A B a3 1 (bQ (List.replicate L.length true))/\B.get b4=some (.row true [num ((k:Nat):Int),num ((0:Nat):Int),av,nv] 4)/\V.blk a3 ≠ some b4) (fun i=>(i + 1).toNat) (((rows.length:Nat):Int) - ((1:Nat):Int)) (mc Z Z Z Z) (⟨⟨by omega,by omega⟩,ag,a6,aa,a9⟩) ?_;rintro i B44 ⟨⟨bV,bY⟩,ay,a7,ab,a1⟩;refine ak.wf fun bD=>.sq fun b7=>.sq fun b8=>.region<|.J Z<|.p (lu Z Z)<|.nil<|b8<|.if rfl (fun bp=>?_) (fun bp=>?_)
  ·refine ak.skip<|b7<|.sq fun aA=>.block<|.sq fun b9=>.region<|.I Z<|.nil<|b9<|.block ?_;refine ak.loop (X:=Nat) (fun j=>[(1,.pointer (some ⟨b4,0,none⟩)),(3,a3),(4,.bool (false)),(5,num (i)),(6,num ((j:Nat):Int))]) (fun j B=>(0<=i)/\A.le B/\Fresh A B a3 1 (bQ (List.replicate L.length true))/\B.get b4=some (.row true [num ((k:Nat):Int),num ((0:Nat):Int),av,nv] 4)/\V.blk a3 ≠ some b4) (fun j=>k - j) 0 (nR Z Z Z Z Z) (⟨O,ay,a7,ab,a1⟩) ?_;rintro j B56 ⟨bU,az,a0,a4,a2⟩;refine ak.wf fun bL=>?_;have hlv:=iC (s:=i.toNat) (n:=L.length) O;refine ak.sq fun ba=>.sq fun aB=>.region<|.J Z<|.p (ae jk cl U Z)<|.p (ah dK Z Z a4 Z)<|.p (bK Z Z)<|.J Z<|.part (t:=24) Z (fun br=>?_) (fun br=>?_)
   ·refine Ops.on Z Z<|.J Z<|.on Z Z<|.J Z<|.on Z Z ?_;obtain ⟨bM,bO,bC,cc,bB,c7,c4,aV,bd,aY,bv,aD⟩:=bz.at (i:=(i).toNat) a0.slc Oj O;refine Ops.p (al jQ kN Z aV (go O) bd)<|.on Z Z<|.p (ah um Z Z aY ((cb aD).trans (dC O)))<|.on Z Z<|.p (ff Z)<|.p (aJ Z Z)<|.nil<|aB<|.ifB Z (fun bu=>?_) (fun bu=>?_)
    ·refine ak.skip<|ba<|.sq fun bP=>.block<|.sq fun bR=>?_;exfalso;simp_all
    refine ak.exit<|aA<|.region<|.J Z<|.p (tL Z Z O)<|.I Z<|.nil ?_;exact ⟨i - ((1:Nat):Int),mc Z Z Z Z,Z,⟨⟨by omega,by omega⟩,az,a0,a4,a2⟩,O1⟩
   refine Ops.off Z Z Z Z<|.off Z Z Z Z<|.off Z Z Z Z<|.off Z Z Z Z<|.off Z Z Z Z<|.p (aO Z Z)<|.nil<|aB<|.cond_false Z<|.exit ?_;refine aA<|.region<|.J Z<|.p (tL Z Z O)<|.I Z<|.nil ?_;exact ⟨i - ((1:Nat):Int),mc Z Z Z Z,Z,⟨⟨by omega,by omega⟩,az,a0,a4,a2⟩,O1⟩
  refine ak.exit ?_;exact ⟨false,jh Z Z Z,Z,⟨trivial,ay,a7,ab,a1⟩,(by rw [‹c=true›];decide)⟩
 refine ak.exit<|b0<|.sq fun bb=>.region<|.J Z<|.I Z<|.nil<|bb<|.rt (by exact aH Z (⟨ag,aS,a6⟩))
set_option maxHeartbeats 4000000
theorem ZJ (k:Nat) (L:List (List Int)) (av nv:Value) (rows:List Value) (A:AH) (hok:n0 k (List.replicate L.length true) L) (hav:bz A 1 av (bQ (List.replicate L.length true))) (hnv:bz A 1 nv (dx rows)) (hrl:rows.length=L.length) (hF:∀ i,i < L.length->bz A 1 (rows.getD i undef) (cf (L.getD i []))):bH prog 113 #[.agg #[num ((k:Nat):Int),num ((0:Nat):Int),av,nv]] A (fun v A1=>A.le A1/\A1.wf/\Fresh A A1 v 1 (cf (iI k L))):=by
 refine aN (e:=[(0,.agg #[num ((k:Nat):Int),num ((0:Nat):Int),av,nv])]) (args:=[.agg #[num ((k:Nat):Int),num ((0:Nat):Int),av,nv]]) call113 func113 Z results113 ntmps113 Z Z Z (fun wf=>?_);have wl:=AH.le.refl A;have r4:=hok;obtain ⟨⟨dG,EQ⟩,hal,⟨w1,e5⟩,hrow,hval⟩:=hok;have hrep:(List.replicate L.length true).length=L.length:=TJ;refine ak.sq fun h2=>.region<|.m (fun w3=>dQ wf rfl rfl fun A5 b4 ea=>?_);have e9:=wl.trans ea.le;refine w3<|.I Z<|.nil<|h2<|.sq fun h9=>.region<|.p (ae eF fC U Z)<|.p (ah ie Z Z ea.get Z)<|.p (bx (n:=rows.length) jg Z (hnv.le e9) O (fp _))<|.I Z ?_;refine Ops.nil<|h9<|.sq fun v0=>.region<|.p (ao jA gr Z Z ea.get Z)<|.m (fun qR=>ax Z (Xm k L av nv rows A5 r4 (hav.le e9) (hnv.le e9) hrl (fun i hi=>(hF i hi).le e9)) ?_);rintro gD A14 ⟨gq,eB,gl⟩;have nd:=gq.g ea.get;have hz:=e9.trans gq;have gX:=gl.base e9;have sD:=gl.ne ea.wf ea.get;refine qR<|.I Z<|.nil<|v0<|.sq fun v1=>.region<|.J Z<|.m (fun qU=>jo (n:=rows.length) (k:=rows.length) eB hz rfl rfl cQ cl z3 jq rfl (XX _) (by show 8 * _<=_;omega) O fun A24 tZ dZ gY=>?_);rw [ef] at gY;have eK:=ne_new eB nd dZ.lo;have v2:=dZ.le.g nd;have ox:=gX.le dZ.le;have sv:=hz.trans dZ.le;have tO:=aL.of_new (n:=rows.length) (c:=rows.length) gX.own eB dZ.lo;refine qU<|.I Z<|.nil<|v1<|.sq fun v3=>.sq fun v4=>.region<|.I Z<|.nil<|v4 ?_;refine ak.block<|.loop (X:=Nat × List Int × Value) (fun ⟨i,o,cv⟩=>[(1,.pointer (some ⟨b4,0,none⟩)),(3,num ((rows.length:Nat):Int)),(4,gD),(5,cv),(6,num ((i:Nat):Int))]) (fun ⟨i,o,cv⟩ B=>(i<=L.length/\o=List.replicate i 1 ++ List.replicate (L.length - i) 0)/\A.le B/\Fresh A B cv 1 (cf o)/\Fresh A B gD 1 (bQ (List.replicate L.length true))/\B.get b4=some (.row true [num ((k:Nat):Int),num ((0:Nat):Int),av,nv] 4)/\V.blk cv ≠ some b4/\V.blk gD ≠ some b4/\aL cv gD) (fun ⟨i,o,cv⟩=>L.length - i) (⟨0,List.replicate rows.length 0,.slice (some ⟨tZ,0,none⟩) rows.length rows.length⟩) (nR Z Z Z Z Z) (⟨⟨XZ _,by rw [hrl];simp⟩,sv,gY,ox,v2,(fun q=>by cases q;exact eK Z),sD,tO⟩) ?_;rintro ⟨i,o,cv⟩ B37 ⟨⟨hi,ho⟩,hA,e3,eC,e6,aA,bC,b6⟩;refine ak.wf fun tY=>?_;have hol:o.length=L.length:=by rw [ho];simp;omega
 have eV:=fun q:i < L.length=>iC (s:=i) q;refine ak.sq fun v5=>.sq fun v6=>.region<|.J Z<|.J Z<|.p (bK Z Z)<|.nil<|v6<|.if rfl (fun wy=>?_) (fun wy=>?_)
 ·refine ak.skip<|v5<|.sq fun hn=>.block<|.sq fun v7=>.region<|.J Z<|.J Z ?_;obtain ⟨u0,EV,EG,wF,E3,gN,nk,us,F9,wm,F4,w4⟩:=e3.at1 (x:=i) O4;rw [aj] at nk;refine Ops.p (al cQ cl Z gN Z (by rw [nk];(try simp only [XQ]);omega))<|.m (fun qV=>aU (off:=i) (c':=wF.set i (num (-1))) tY rfl Ov rfl rfl cl us (by show i + 1<=_;omega) rfl rfl fun A50 dz=>?_);have nj:=dz.k (fun q=>aA (by rw [gN];exact Xk some q.symm)) e6;have eR:=eC.keep dz.keep (b6 u0 (by rw [gN];rfl));have eS:=w4 (num (-1)) A50 dz;rw [dp] at eS;have hB:=an hA wf wm dz.n dz.keep;refine qV<|.nil<|v7<|.sq fun v8=>.region<|.J Z<|.J Z ?_;obtain ⟨EC,EM,E9,F2,E4,EX,ES,ui,w7,uB,B7,nC⟩:=bz.at (i:=i) eR.slc Oj O;refine Ops.p (al jQ kN Z ui Z w7)<|.p (ah um Z Z uB ((cb nC).trans (dC O)))<|.nil<|v8<|.ifB Z (fun wz=>?_) (fun wz=>?_)
  ·refine ak.sq fun v9=>.region<|.J Z<|.J Z ?_;obtain ⟨u1,EY,EK,wL,E5,gP,nl,uI,Fd,wp,F6,w5⟩:=eS.at1 (x:=i) O4;rw [aj] at nl;refine Ops.p (al cQ cl Z gP Z (by rw [nl];(try simp only [XQ]);omega))<|.m (fun r1=>aU (off:=i) (c':=wL.set i (num ((0:Nat):Int))) dz.wf rfl Ov rfl rfl cl uI (by show i + 1<=_;omega) rfl rfl fun A64 dD=>?_);have hp:=dD.k (fun q=>aA (by rw [gP];exact Xk some q.symm)) nj;have gZ:=eR.keep dD.keep (b6 u1 (by rw [gP];rfl));have eT:=w5 (num ((0:Nat):Int)) A64 dD;rw [dp] at eT;have f0:=an hB wf wp dD.n dD.keep;refine r1<|.nil<|v9<|.sq fun vC=>.region<|.p (ae ip gV U Z)<|.p (ah io Z Z hp Z)<|.J Z ?_;obtain ⟨EE,EN,Ea,F3,E6,EZ,ET,up,wc,uP,B8,nD⟩:=bz.at (i:=i) (hav.le f0) Oj O;refine Ops.p (al jQ kN Z up Z wc)<|.p (ah um Z Z uP ((cb nD).trans (dC O)))<|.nil<|vC<|.ifB Z (fun wC=>?_) (fun wC=>?_)
   ·refine ak.region<|.J Z<|.J Z ?_;obtain ⟨u8,F0,EL,wM,E7,gQ,nn,uS,Fe,wv,F7,w6⟩:=eT.at1 (x:=i) O4;rw [aj] at nn;refine Ops.p (al cQ cl Z gQ Z (by rw [nn];(try simp only [XQ]);omega))<|.m (fun r2=>aU (off:=i) (c':=wM.set i (num ((1:Nat):Int))) dD.wf rfl Ov rfl rfl cl uS (by show i + 1<=_;omega) rfl rfl fun A76 e1=>?_);have vS:=e1.k (fun q=>aA (by rw [gQ];exact Xk some q.symm)) hp;have oy:=gZ.keep e1.keep (b6 u8 (by rw [gQ];rfl));have h0:=w6 (num ((1:Nat):Int)) A76 e1;rw [dp] at h0;have sz:=an f0 wf wv e1.n e1.keep;refine r2<|.nil<|hn<|.region<|.J Z<|.p (bk (b:=1) Z Z O)<|.I Z<|.nil ?_;exact ⟨⟨i + 1,((o.set i ((-1))).set i (((0:Nat):Int))).set i (((1:Nat):Int)),cv⟩,nR Z Z Z Z Z,Z,⟨⟨by omega,by first | exact u6 ho O (by rw [Sv,Sv];rfl) | (exfalso;have:=eV O;simp_all)⟩,sz,h0,oy,vS,aA,bC,b6⟩,O1⟩
   refine ak.skip<|hn<|.region<|.J Z<|.p (bk (b:=1) Z Z O)<|.I Z<|.nil ?_;exact ⟨⟨i + 1,(o.set i ((-1))).set i (((0:Nat):Int)),cv⟩,nR Z Z Z Z Z,Z,⟨⟨by omega,by first | exact u6 ho O (by rw [Sv,Sv];rfl) | (exfalso;have:=eV O;simp_all)⟩,f0,eT,gZ,hp,aA,bC,b6⟩,O1⟩
  refine ak.skip<|hn<|.region<|.J Z<|.p (bk (b:=1) Z Z O)<|.I Z<|.nil ?_;exact ⟨⟨i + 1,o.set i ((-1)),cv⟩,nR Z Z Z Z Z,Z,⟨⟨by omega,by first | exact u6 ho O (by rw [Sv,Sv];rfl) | (exfalso;have:=eV O;simp_all)⟩,hB,eS,eR,nj,aA,bC,b6⟩,O1⟩
 refine ak.exit<|v3<|.sq fun vX=>.region<|.I Z<|.nil<|vX<|.block<|.loop (X:=Nat × Nat × List Int × Value) (fun ⟨ct,fu,cls,kv⟩=>[(1,.pointer (some ⟨b4,0,none⟩)),(3,num ((rows.length:Nat):Int)),(5,kv),(7,num ((ct:Nat):Int))]) (fun ⟨ct,fu,cls,kv⟩ B=>(Gr k L fu ct cls)/\A.le B/\Fresh A B kv 1 (cf cls)/\B.get b4=some (.row true [num ((k:Nat):Int),num ((0:Nat):Int),av,nv] 4)/\V.blk kv ≠ some b4) (fun ⟨ct,fu,cls,kv⟩=>fu) (⟨0,L.length + 2,o,cv⟩) (mc Z Z Z Z) (⟨(by have e:o=List.replicate L.length 1:=(by rw [ho,show i=L.length by omega];simp);rw [e];exact Gr.start w1),hA,e3,e6,aA⟩) ?_;rintro ⟨ct,fu,cls,kv⟩ B85 ⟨hcl,hC,e4,e7,eA⟩;refine ak.wf fun f4=>?_;have hcb:=hcl.bound;have hclen:=hcl.len;refine ak.block<|.sq fun vZ=>.region<|.J Z<|.m (fun r3=>jo (n:=rows.length) (k:=rows.length) f4 hC rfl rfl jg dX Gi xb rfl (XX _) (by show 24 * _<=_;omega) O fun A91 ub e0 h1=>?_);rw [qQ] at h1;have eL:=ne_new f4 e7 e0.lo;have w0:=e0.le.g e7;have oz:=e4.le e0.le;have sB:=hC.trans e0.le;have tS:=aL.of_new (n:=rows.length) (c:=rows.length) e4.own f4 e0.lo;have ow:iZ A A91 (List.replicate rows.length (Value.slice none 0 0)) (List.replicate rows.length []):=iZ.nils;refine r3<|.I Z<|.nil<|vZ<|.sq fun pa=>.sq fun pc=>.region<|.I Z<|.nil<|pc ?_;refine ak.block<|.loop (X:=Nat × Value × List Value × List (List Int)) (fun ⟨i2,hv,hd,Lr⟩=>[(1,.pointer (some ⟨b4,0,none⟩)),(3,num ((rows.length:Nat):Int)),(5,kv),(7,num ((ct:Nat):Int)),(8,hv),(9,num ((i2:Nat):Int))]) (fun ⟨i2,hv,hd,Lr⟩ B=>(i2<=L.length/\Gu k L cls L.length i2 Lr)/\A.le B/\Fresh A B hv 1 (dx hd)/\Fresh A B kv 1 (cf cls)/\B.get b4=some (.row true [num ((k:Nat):Int),num ((0:Nat):Int),av,nv] 4)/\V.blk hv ≠ some b4/\V.blk kv ≠ some b4/\aL hv kv/\iZ A B hd Lr/\cu hd b4/\au hv hd/\au kv hd) (fun ⟨i2,hv,hd,Lr⟩=>L.length - i2) (⟨0,.slice (some ⟨ub,0,none⟩) rows.length rows.length,List.replicate rows.length (Value.slice none 0 0),List.replicate rows.length []⟩) (yA Z Z Z Z Z Z) (⟨⟨XZ _,by rw [hrl];exact Gu.start⟩,sB,h1,oz,w0,(fun q=>by cases q;exact eL Z),eA,tS,ow,Ed,qY,qY⟩) ?_;rintro ⟨i2,hv,hd,Lr⟩ B105 ⟨⟨w2,hrw⟩,ex,c3,bL,d3,bS,cH,cP,ba,aG,aI,aP⟩;refine ak.wf fun c7=>?_;have hhl:hd.length=Lr.length:=by first | exact iZ.len ‹_›
 have r7:=hrw.len w2;have hrz:i2 < L.length->(Lr.getD i2 []).length=0:=fun q=>by rw [hrw.at q];rfl
 refine ak.sq fun pe=>.sq fun pf=>.region<|.J Z<|.J Z<|.p (bK Z Z)<|.nil<|pf<|.if rfl (fun sV=>?_) (fun sV=>?_)
 ·refine ak.skip<|pe<|.sq fun pi=>.block<|.sq fun pj=>.drawn [0,1,2,3,4,5,6,7,8,9,10,11,12,13] mixed Y Y Z<|.p Z (aK Z)<|.p Z (aK Z)<|.p Z (aK Z)<|.p Z (aK Z) ?_;obtain ⟨nq,gS,zi,Dj,xA,Cc,BC,nE,rR,h3,wP,f6⟩:=bz.at (i:=i2) c3.slc Of O;refine DOps.p Z (al jg dX Z nE Z rR) ?_;have kL:=cR (off:=gS + i2 * 1) h3 ((cb f6).trans (c6 O));refine DOps.p Z (ah jc Z Z h3 ((cb f6).trans (c6 O)))<|.p Z (aK Z)<|.p Z (aK Z) ?_;obtain ⟨Ap,B9,zs,Do,xF,Ch,BD,nH,rS,oF,wS,hE⟩:=bz.at (i:=i2) bL.slc O2 O;refine DOps.p Z (al cQ cl Z nH Z rS)<|.p Z (ah dK Z Z oF ((cb hE).trans (bJ O)))<|.m Z (fun kP=>aE (c:=[num (cls.getD i2 0)]) c7 rfl (aq cQ cl z3 rfl U U rfl) fun A122 Ar aV=>?_);have xf:=ba.ne_new c7 aV.lo;have h4:=aV.le.g d3;have fn:=c3.le aV.le;have fo:=bL.le aV.le;have bp:=ba.le aV.le;have kM:=bI aV.le kL;refine kP (bg.list (L:=[(⟨nq,gS + i2 * 1,none⟩,hd.getD i2 undef)]) Y (bf kM bX))<|.m Z (fun kT=>cm (ys:=[num (cls.getD i2 0)]) rfl rfl cQ cl jq z3 rfl U cQ (fun _ h=>by cases h) (bp.fr i2 (by first | omega | (have:=hfr O;omega))).own (bG (n:=1) aV.get Z) rfl rfl (by show (_ + _) * 8<=_;simp only [aj,Xq,Xx];(try simp only [Xz,Xq,Xx]);have:=hrz O;omega) (by simp only [aj,Xq,Xx];(try simp only [Xz,Xq,Xx]);have:=hrz O;omega) fun A135 En b7=>?_);rw [show ([num (cls.getD i2 0)]:List Value)=cf [cls.getD i2 0] from rfl,cJ] at b7;obtain ⟨fq,lE⟩:=Fresh.grow (bp.fr i2 (by first | omega | (have:=hfr O;omega))) (ex.trans aV.le) wf b7;have pl:=b7.keep (cF aG (s:=i2) (by have:=bp.len;omega)) h4;have lW:=b7.ne (cF aG (s:=i2) (by have:=bp.len;omega)) aV.wf h4;have m2:=sy (s:=i2) aG lW;have me:=aL.appd (cF aI (s:=i2) (by have:=bp.len;omega)).symm fn.own aV.wf b7;have iD:=fn.appd b7 (cF aI (s:=i2) (by have:=bp.len;omega)).symm;have gs:=jD (s:=i2) aI me.symm;have mm:=aL.appd (cF aP (s:=i2) (by have:=bp.len;omega)).symm fo.own aV.wf b7;have iF:=fo.appd b7 (cF aP (s:=i2) (by have:=bp.len;omega)).symm;have mt:=jD (s:=i2) aP mm.symm;have hU:=bp.appRow aV.wf (by first | omega | (have:=hfr O;omega)) b7 fq;obtain ⟨f1,eX,eM,t9,_⟩:=fq.own.slice;subst t9;refine kT (bg.none Y) ?_;obtain ⟨gG,Ck,AZ,tj,xN,ek,hq,oI,Et,sF,Eb,r9⟩:=iD.at1 (x:=i2) ON;rw [bw] at hq;refine DOps.p Z (al jg dX Z ek Z (by rw [hq];(try simp only [XQ]);omega))<|.m Z (fun kV=>aU (off:=i2) (c':=tj.set i2 (.slice f1 eX eM)) b7.wf rfl Ov rfl rfl dX oI (by show i2 + 1<=_;omega) rfl rfl fun A155 cX=>?_);have pp:=cX.k (fun q=>bS (by rw [ek];exact Xk some q.symm)) pl;have iH:=iF.keep cX.keep (cP gG (by rw [ek];rfl));have hV:=hU.keep cX.keep (fun r hr=>gs r hr gG (by rw [ek];rfl));have ft:=r9 (.slice f1 eX eM) A155 cX;rw [tN] at ft;have lF:=an lE wf sF cX.n cX.keep;refine kV (bg.none Y)<|.done<|pj<|.sq fun pv=>.region<|.I Z<|.nil<|pv<|.block<|.loop (X:=Nat × Value × List Value × List (List Int)) (fun ⟨j,ck,cc,Lr1⟩=>[(1,.pointer (some ⟨b4,0,none⟩)),(3,num ((rows.length:Nat):Int)),(5,kv),(7,num ((ct:Nat):Int)),(8,ck),(9,num ((i2:Nat):Int)),(10,num ((j:Nat):Int))]) (fun ⟨j,ck,cc,Lr1⟩ B=>(j<=k/\Lr1=Lr.set i2 (rO k L cls i2 j))/\A.le B/\Fresh A B ck 1 (dx cc)/\Fresh A B kv 1 (cf cls)/\B.get b4=some (.row true [num ((k:Nat):Int),num ((0:Nat):Int),av,nv] 4)/\V.blk ck ≠ some b4/\V.blk kv ≠ some b4/\aL ck kv/\iZ A B cc Lr1/\cu cc b4/\au ck cc/\au kv cc) (fun ⟨j,ck,cc,Lr1⟩=>k - j) (⟨0,hv,hd.set i2 (Value.slice f1 eX eM),Lr.set i2 (((Lr.getD i2 [])) ++ [cls.getD i2 0])⟩) (ym Z Z Z Z Z Z Z) (⟨⟨XZ _,by rw [hrw.at O];rfl⟩,lF,ft,iH,pp,bS,cH,cP,hV,m2,gs,mt⟩) ?_;rintro ⟨j,ck,cc,Lr1⟩ B165 ⟨⟨hj,e5⟩,c4,bl,bM,b5,aF,bD,bm,aR,a3,a4,a5⟩;refine ak.wf fun dS=>?_;have By:cc.length=Lr1.length:=by first | exact iZ.len ‹_›
  have BB:Lr1.length=L.length:=by rw [e5,XQ];exact r7
  have hro:=hrow i2 O;have hva:=fun q:j < k=>hval i2 j O q;simp only [c5] at hva;have hkl:(Lr1.getD i2 []).length=j + 1:=by rw [e5,dl O,Xw Z,LM]
  refine ak.sq fun pw=>.sq fun pA=>.region<|.J Z<|.p (ae jk cl U Z)<|.p (ah dK Z Z b5 Z)<|.p (bK Z Z)<|.nil<|pA<|.if rfl (fun sZ=>?_) (fun sZ=>?_)
  ·refine ak.skip<|pw<|.sq fun h5=>.block<|.sq fun pC=>.region<|.I Z<|.nil<|pC<|.sq fun h6=>?_;refine ak.sq fun pE=>.region<|.p (ae eF fC U Z)<|.p (ah ie Z Z b5 Z)<|.J Z ?_;obtain ⟨As,Ba,zI,Ds,xR,Cp,BL,nJ,rT,oJ,wV,hG⟩:=bz.at (i:=i2) (hnv.le c4) Of O;refine Ops.p (al jg dX Z nJ Z rT)<|.p (ah jc Z Z oJ ((cb hG).trans (c6 O)))<|.J Z ?_;obtain ⟨At,Bb,zS,Dv,xS,Cq,BM,nK,rV,oK,wY,hH⟩:=bz.at (i:=j) ((hF i2 (by first | omega | (have:=hfr O;omega))).le c4) O2 O;refine Ops.p (al cQ cl Z nK Z rV)<|.p (ah dK Z Z oK ((cb hH).trans (bJ O)))<|.p (lu Z Z)<|.nil<|pE<|.if rfl (fun t0=>?_) (fun t0=>?_)
   ·refine ak.region<|.J Z<|.p (ae eF fC U Z)<|.p (ah ie Z Z b5 Z)<|.J Z ?_;obtain ⟨Av,Bc,zV,Dw,xT,Cs,BP,nL,rW,oN,wZ,hI⟩:=bz.at (i:=i2) (hnv.le c4) Of O;refine Ops.p (al jg dX Z nL Z rW)<|.p (ah jc Z Z oN ((cb hI).trans (c6 O)))<|.J Z ?_;obtain ⟨Ay,Bd,A6,Dz,xV,Ct,BR,nM,s0,oP,x0,hJ⟩:=bz.at (i:=j) ((hF i2 (by first | omega | (have:=hfr O;omega))).le c4) O2 O;refine Ops.p (al cQ cl Z nM Z s0)<|.p (ah dK Z Z oP ((cb hJ).trans (bJ O))) ?_;obtain ⟨Az,Bk,A7,DD,y0,Cv,BT,nN,s1,oQ,x1,hK⟩:=bz.at (i:=(((L.getD i2 [])).getD j 0).toNat) bM.slc (by simp only [aj];have:=hva O;omega) O;refine Ops.p (al cQ cl Z nN (go O) s1)<|.p (ah dK Z Z oQ ((cb hK).trans (bJ (by have:=hva O;omega))))<|.I Z<|.nil<|h6<|.region<|.J Z<|.J Z<|.J Z<|.J Z ?_;obtain ⟨AA,Bl,A8,DG,y1,CC,BU,nO,s2,oR,x2,hL⟩:=bz.at (i:=i2) bl.slc Of O;refine Ops.p (al jg dX Z nO Z s2)<|.p (ah jc Z Z oR ((cb hL).trans (c6 O)))<|.J Z<|.m (fun l0=>aE (c:=[num (cls.getD ((((L.getD i2 [])).getD j 0).toNat) 0)]) dS rfl (aq cQ cl z3 rfl U U rfl) fun A189 AB aZ=>?_);have xn:=aR.ne_new dS aZ.lo;have h7:=aZ.le.g b5;have fD:=bl.le aZ.le;have fE:=bM.le aZ.le;have br:=aR.le aZ.le;refine l0<|.m (fun l1=>cm (ys:=[num (cls.getD ((((L.getD i2 [])).getD j 0).toNat) 0)]) rfl rfl cQ cl jq z3 rfl U cQ (fun _ h=>by cases h) (br.fr i2 (by first | omega | (have:=hfr O;omega))).own (bG (n:=1) aZ.get Z) rfl rfl (by show (_ + _) * 8<=_;simp only [aj,Xq,Xx];(try simp only [Xz,Xq,Xx]);omega) O3 fun A200 Eq b8=>?_);rw [show ([num (cls.getD ((((L.getD i2 [])).getD j 0).toNat) 0)]:List Value)=cf [cls.getD ((((L.getD i2 [])).getD j 0).toNat) 0] from rfl,cJ] at b8;obtain ⟨fI,lI⟩:=Fresh.grow (br.fr i2 (by first | omega | (have:=hfr O;omega))) (c4.trans aZ.le) wf b8;have pF:=b8.keep (cF a3 (s:=i2) (by have:=br.len;omega)) h7;have lX:=b8.ne (cF a3 (s:=i2) (by have:=br.len;omega)) aZ.wf h7;have m3:=sy (s:=i2) a3 lX;have mv:=aL.appd (cF a4 (s:=i2) (by have:=br.len;omega)).symm fD.own aZ.wf b8;have iN:=fD.appd b8 (cF a4 (s:=i2) (by have:=br.len;omega)).symm;have gA:=jD (s:=i2) a4 mv.symm;have mx:=aL.appd (cF a5 (s:=i2) (by have:=br.len;omega)).symm fE.own aZ.wf b8;have iS:=fE.appd b8 (cF a5 (s:=i2) (by have:=br.len;omega)).symm;have mB:=jD (s:=i2) a5 mx.symm;have hW:=br.appRow aZ.wf (by first | omega | (have:=hfr O;omega)) b8 fI;obtain ⟨f2,eY,eN,tb,_⟩:=fI.own.slice;subst tb;refine l1 ?_;obtain ⟨gL,CH,B0,tt,y2,em,hs,oS,Ev,sN,Ec,ri⟩:=iN.at1 (x:=i2) ON;rw [bw] at hs;refine Ops.p (al jg dX Z em Z (by rw [hs];(try simp only [XQ]);omega))<|.m (fun l4=>aU (off:=i2) (c':=tt.set i2 (.slice f2 eY eN)) b8.wf rfl Ov rfl rfl dX oS (by show i2 + 1<=_;omega) rfl rfl fun A220 cZ=>?_);have pI:=cZ.k (fun q=>aF (by rw [em];exact Xk some q.symm)) pF;have iT:=iS.keep cZ.keep (bm gL (by rw [em];rfl));have hX:=hW.keep cZ.keep (fun r hr=>gA r hr gL (by rw [em];rfl));have fL:=ri (.slice f2 eY eN) A220 cZ;rw [tN] at fL;refine l4<|.nil<|h5<|.region<|.J Z<|.p (bk (b:=1) Z Z O)<|.I Z<|.nil ?_;exact ⟨⟨j + 1,ck,cc.set i2 (Value.slice f2 eY eN),Lr1.set i2 (((Lr1.getD i2 [])) ++ [cls.getD ((((L.getD i2 [])).getD j 0).toNat) 0])⟩,ym Z Z Z Z Z Z Z,Z,⟨⟨by omega,Kb O e5 (by first | exact (Xw ‹_›).symm | exact (Xy ‹_›).symm) Z⟩,(an lI wf sN cZ.n cZ.keep),fL,iT,pI,aF,bD,bm,hX,m3,gA,mB⟩,O1⟩
   refine ak.skip<|h6<|.region<|.J Z<|.J Z<|.J Z<|.J Z ?_;obtain ⟨AC,Bm,A9,DI,y3,CK,BV,nQ,s3,oV,x3,hM⟩:=bz.at (i:=i2) bl.slc Of O;refine Ops.p (al jg dX Z nQ Z s3)<|.p (ah jc Z Z oV ((cb hM).trans (c6 O)))<|.J Z<|.m (fun l6=>aE (c:=[num (-1)]) dS rfl (aq cQ cl z3 rfl U U rfl) fun A230 AD b0=>?_);have xr:=aR.ne_new dS b0.lo;have h8:=b0.le.g b5;have fM:=bl.le b0.le;have fN:=bM.le b0.le;have bu:=aR.le b0.le;refine l6<|.m (fun l7=>cm (ys:=[num (-1)]) rfl rfl cQ cl jq z3 rfl U cQ (fun _ h=>by cases h) (bu.fr i2 (by first | omega | (have:=hfr O;omega))).own (bG (n:=1) b0.get Z) rfl rfl (by show (_ + _) * 8<=_;simp only [aj,Xq,Xx];(try simp only [Xz,Xq,Xx]);omega) O3 fun A241 Er b9=>?_);rw [show ([num (-1)]:List Value)=cf [-1] from rfl,cJ] at b9;obtain ⟨fO,lJ⟩:=Fresh.grow (bu.fr i2 (by first | omega | (have:=hfr O;omega))) (c4.trans b0.le) wf b9;have pJ:=b9.keep (cF a3 (s:=i2) (by have:=bu.len;omega)) h8;have lY:=b9.ne (cF a3 (s:=i2) (by have:=bu.len;omega)) b0.wf h8;have m6:=sy (s:=i2) a3 lY;have mE:=aL.appd (cF a4 (s:=i2) (by have:=bu.len;omega)).symm fM.own b0.wf b9;have iV:=fM.appd b9 (cF a4 (s:=i2) (by have:=bu.len;omega)).symm;have gC:=jD (s:=i2) a4 mE.symm;have mK:=aL.appd (cF a5 (s:=i2) (by have:=bu.len;omega)).symm fN.own b0.wf b9;have iX:=fN.appd b9 (cF a5 (s:=i2) (by have:=bu.len;omega)).symm;have mM:=jD (s:=i2) a5 mK.symm;have hY:=bu.appRow b0.wf (by first | omega | (have:=hfr O;omega)) b9 fO;obtain ⟨f3,eZ,eQ,ti,_⟩:=fO.own.slice;subst ti;refine l7 ?_;obtain ⟨gM,CL,B2,tw,y4,en,ht,oW,Ex,sP,Ee,rj⟩:=iV.at1 (x:=i2) ON;rw [bw] at ht;refine Ops.p (al jg dX Z en Z (by rw [ht];(try simp only [XQ]);omega))<|.m (fun l9=>aU (off:=i2) (c':=tw.set i2 (.slice f3 eZ eQ)) b9.wf rfl Ov rfl rfl dX oW (by show i2 + 1<=_;omega) rfl rfl fun A261 d0=>?_);have pL:=d0.k (fun q=>aF (by rw [en];exact Xk some q.symm)) pJ;have j1:=iX.keep d0.keep (bm gM (by rw [en];rfl));have hZ:=hY.keep d0.keep (fun r hr=>gC r hr gM (by rw [en];rfl));have fQ:=rj (.slice f3 eZ eQ) A261 d0;rw [tN] at fQ;refine l9<|.nil<|h5<|.region<|.J Z<|.p (bk (b:=1) Z Z O)<|.I Z<|.nil ?_;exact ⟨⟨j + 1,ck,cc.set i2 (Value.slice f3 eZ eQ),Lr1.set i2 (((Lr1.getD i2 [])) ++ [-1])⟩,ym Z Z Z Z Z Z Z,Z,⟨⟨by omega,Kb O e5 (by first | exact (Xw ‹_›).symm | exact (Xy ‹_›).symm) Z⟩,(an lJ wf sP d0.n d0.keep),fQ,j1,pL,aF,bD,bm,hZ,m6,gC,mM⟩,O1⟩
  refine ak.exit<|pi<|.region<|.J Z<|.p (bk (b:=1) Z Z O)<|.I Z<|.nil ?_;exact ⟨⟨i2 + 1,ck,cc,Lr1⟩,yA Z Z Z Z Z Z,Z,⟨⟨by omega,hrw.next O e5 O⟩,c4,bl,bM,b5,aF,bD,bm,aR,a3,a4,a5⟩,O1⟩
 refine ak.exit<|pa<|.sq fun pP=>.region<|.J Z<|.m (fun la=>jo (n:=rows.length) (k:=rows.length) c7 ex rfl rfl cQ cl z3 jq rfl (XX _) (by show 8 * _<=_;omega) O fun A272 nB bv fR=>?_);rw [ef] at fR;have ez:=ne_new c7 d3 bv.lo;have mb:=ba.ne_new c7 bv.lo;have pS:=bv.le.g d3;have j2:=c3.le bv.le;have j3:=bL.le bv.le;have i1:=ba.le bv.le;have lK:=ex.trans bv.le;have mT:=aL.of_new (n:=rows.length) (c:=rows.length) c3.own c7 bv.lo;have mV:=aL.of_new (n:=rows.length) (c:=rows.length) bL.own c7 bv.lo;refine la<|.I Z<|.nil<|pP<|.sq fun pV=>.region<|.I Z<|.nil<|pV<|.sq fun pW=>?_;refine ak.sq fun q0=>.region<|.I Z<|.nil<|q0<|.block ?_;have dG:∀ b,b < L.length->Lr.getD b []=jT k L cls b:=fun b hb=>hrw.fin O hb;refine ak.loop (X:=Nat × List Int × List Int × Value × Value) (fun ⟨a,o3,fi,c0,fv⟩=>[(1,.pointer (some ⟨b4,0,none⟩)),(3,num ((rows.length:Nat):Int)),(5,kv),(7,num ((ct:Nat):Int)),(8,hv),(12,c0),(13,fv),(14,num ((a:Nat):Int))]) (fun ⟨a,o3,fi,c0,fv⟩ B=>(a<=L.length/\KA L.length (jT k L cls) a o3 fi)/\A.le B/\Fresh A B c0 1 (cf o3)/\Fresh A B fv 1 (cf fi)/\Fresh A B hv 1 (dx hd)/\Fresh A B kv 1 (cf cls)/\B.get b4=some (.row true [num ((k:Nat):Int),num ((0:Nat):Int),av,nv] 4)/\V.blk c0 ≠ some b4/\V.blk fv ≠ some b4/\V.blk hv ≠ some b4/\V.blk kv ≠ some b4/\aL c0 fv/\aL c0 hv/\aL c0 kv/\aL fv hv/\aL fv kv/\aL hv kv/\iZ A B hd Lr/\cu hd b4/\au c0 hd/\au fv hd/\au hv hd/\au kv hd) (fun ⟨a,o3,fi,c0,fv⟩=>L.length - a) (⟨0,List.replicate rows.length 0,[],.slice (some ⟨nB,0,none⟩) rows.length rows.length,.slice none 0 0⟩) (un Z Z Z Z Z Z Z Z) (⟨⟨XZ _,by rw [hrl];exact KA.start⟩,lK,fR,(Fresh.nil A A272 1),j2,j3,pS,(fun q=>by cases q;exact ez rfl),(fun q=>by cases q),bS,cH,(aL.symm aL.nil),mT,mV,aL.nil,aL.nil,cP,i1,aG,(au.new mb),au.nil,aI,aP⟩) ?_;rintro ⟨a,o3,fi,c0,fv⟩ B292 ⟨⟨ha,hnu⟩,ey,ch,d2,eE,eG,dW,b1,d1,cC,cK,cS,cT,cV,dI,dJ,dO,e2,bT,b3,bU,bV,bY⟩;refine ak.wf fun gE=>?_;have r6:=hnu.len ha;have hfl:=hnu.le;have hcp:=AE hcl.pos a;refine ak.sq fun q1=>.sq fun q2=>.region<|.J Z<|.J Z<|.p (bK Z Z)<|.nil<|q2<|.if rfl (fun t1=>?_) (fun t1=>?_)
 ·refine ak.skip<|q1<|.sq fun dV=>.block<|.sq fun q3=>.region<|.J Z<|.J Z ?_;obtain ⟨eb,CR,B3,tz,y5,di,hu,oX,Ey,sQ,Eg,rr⟩:=ch.at1 (x:=a) O4;rw [aj] at hu;refine Ops.p (al cQ cl Z di Z (by rw [hu];(try simp only [XQ]);omega))<|.m (fun lb=>aU (off:=a) (c':=tz.set a (num (-1))) gE rfl Ov rfl rfl cl oX (by show a + 1<=_;omega) rfl rfl fun A305 bP=>?_);have hc:=bP.k (fun q=>b1 (by rw [di];exact Xk some q.symm)) dW;have fS:=d2.keep bP.keep (cS eb (by rw [di];rfl));have fT:=eE.keep bP.keep (cT eb (by rw [di];rfl));have er:=eG.keep bP.keep (cV eb (by rw [di];rfl));have f7:=e2.keep bP.keep (fun r hr=>b3 r hr eb (by rw [di];rfl));have ev:=rr (num (-1)) A305 bP;rw [dp] at ev;have gm:=an ey wf sQ bP.n bP.keep;refine lb<|.nil<|q3<|.sq fun q4=>.sq fun q5=>.region<|.J Z<|.J Z ?_;obtain ⟨AF,Bo,Aa,DJ,y6,CS,BY,nT,s4,oY,x4,hN⟩:=bz.at (i:=a) er.slc O2 O;refine Ops.p (al cQ cl Z nT Z s4)<|.p (ah dK Z Z oY ((cb hN).trans (bJ O)))<|.p (iU Z Z)<|.nil<|q5<|.if rfl (fun t2=>?_) (fun t2=>?_)
  ·refine ak.exit<|dV<|.region<|.J Z<|.p (bk (b:=1) Z Z O)<|.I Z<|.nil ?_;exact ⟨⟨a + 1,o3.set a ((-1)),fi,c0,fv⟩,un Z Z Z Z Z Z Z Z,Z,⟨⟨by omega,by first | exact hnu.new O hfs O O (by rw [bO,Sv]) | exact hnu.old O hfs O bO | (exfalso;omega)⟩,gm,ev,fS,fT,er,hc,b1,d1,cC,cK,cS,cT,cV,dI,dJ,dO,f7,bT,b3,bU,bV,bY⟩,O1⟩
  refine ak.skip<|q4<|.sq fun he=>.sq fun q6=>.region<|.I Z<|.nil<|q6<|.block<|.loop (X:=Nat × Int × List Int × Value) (fun ⟨m,z,o4,b2⟩=>[(1,.pointer (some ⟨b4,0,none⟩)),(3,num ((rows.length:Nat):Int)),(5,kv),(7,num ((ct:Nat):Int)),(8,hv),(12,b2),(13,fv),(14,num ((a:Nat):Int)),(15,num ((m:Nat):Int))]) (fun ⟨m,z,o4,b2⟩ B=>(m<=fi.length/\o4=o3.set a z/\Gj (jT k L cls) fi a m z)/\A.le B/\Fresh A B b2 1 (cf o4)/\Fresh A B fv 1 (cf fi)/\Fresh A B hv 1 (dx hd)/\Fresh A B kv 1 (cf cls)/\B.get b4=some (.row true [num ((k:Nat):Int),num ((0:Nat):Int),av,nv] 4)/\V.blk b2 ≠ some b4/\V.blk fv ≠ some b4/\V.blk hv ≠ some b4/\V.blk kv ≠ some b4/\aL b2 fv/\aL b2 hv/\aL b2 kv/\aL fv hv/\aL fv kv/\aL hv kv/\iZ A B hd Lr/\cu hd b4/\au b2 hd/\au fv hd/\au hv hd/\au kv hd) (fun ⟨m,z,o4,b2⟩=>fi.length - m) (⟨0,(-1),o3.set a (-1),c0⟩) (Ut Z Z Z Z Z Z Z Z Z) (⟨⟨XZ _,Z,Gj.start⟩,gm,ev,fS,fT,er,hc,b1,d1,cC,cK,cS,cT,cV,dI,dJ,dO,f7,bT,b3,bU,bV,bY⟩) ?_;rintro ⟨m,z,o4,b2⟩ B325 ⟨⟨hm,bO,hfs⟩,dd,ar,ab,aD,bd,bA,a2,a6,ai,ap,a7,ac,ad,ay,az,aY,ag,a8,a0,a1,a9,aa⟩;refine ak.wf fun gF=>?_;have BA:o4.length=L.length:=by rw [bO,XQ];exact r6
  have ER:o4.getD a 0=z:=by rw [bO,dl O,Xw Z]
  have hfr:=fun q:m < fi.length=>hnu.rng _ (aX (d:=(0:Int)) q);refine ak.sq fun q7=>.sq fun hf=>.region<|.J Z<|.J Z<|.p (bx (n:=fi.length) cQ Z ab.slc O (c9 _))<|.p (bK Z Z)<|.J Z<|.part (t:=121) Z (fun t3=>?_) (fun t3=>?_)
  ·refine Ops.on Z Z<|.J Z<|.on Z Z<|.J Z<|.on Z Z ?_;obtain ⟨AG,Bp,Ab,DO,y7,CT,C0,nV,s5,oZ,x5,hO⟩:=bz.at (i:=a) ar.slc O2 O;refine Ops.p (al cQ cl Z nV Z s5)<|.on Z Z<|.p (ah dK Z Z oZ ((cb hO).trans (bJ O)))<|.on Z Z<|.p (iU Z Z)<|.p (aJ Z Z)<|.nil<|hf<|.if rfl (fun t4=>?_) (fun t4=>?_)
   ·refine ak.skip<|q7<|.sq fun hg=>.block<|.sq fun q8=>.drawn [0,1,2,3,4,5,6,7,8,9,10,11] mixed Y Y Z<|.p Z (aK Z)<|.p Z (aK Z) ?_;obtain ⟨AI,Br,Ac,DS,y8,CV,C1,o2,s6,p0,x6,hP⟩:=bz.at (i:=a) aD.slc Of O;refine DOps.p Z (al jg dX Z o2 Z s6)<|.p Z (ah jc Z Z p0 ((cb hP).trans (c6 O)))<|.p Z (aK Z)<|.p Z (aK Z)<|.p Z (aK Z) ?_;obtain ⟨AP,Bs,Ad,DV,y9,D0,C2,oi,sb,p3,x7,hQ⟩:=bz.at (i:=m) ab.slc O2 O;refine DOps.p Z (al cQ cl Z oi Z sb)<|.p Z (ah dK Z Z p3 ((cb hQ).trans (bJ O))) ?_;obtain ⟨AR,Bt,Af,DW,yt,D1,C3,oj,sf,p4,x8,hR⟩:=bz.at (i:=(fi.getD m 0).toNat) aD.slc (by simp only [bw];have:=hfr O;omega) O;refine DOps.p Z (al jg dX Z oj (go (by have:=hfr O;omega)) sf)<|.p Z (ah jc Z Z p4 ((cb hR).trans (c6 (by have:=hfr O;omega))))<|.m Z (fun lc=>ax Z (Ni (hd.getD a undef) (hd.getD ((fi.getD m 0).toNat) undef) ((Lr.getD a [])) ((Lr.getD ((fi.getD m 0).toNat) [])) B325 (by have:=hfr O;rw [dG a O,xc];omega) (by have:=hfr O;rw [dG a O,dG (fi.getD m 0).toNat O,xc,xc]) (ag.fr a (by first | omega | (have:=hfr O;omega))).slc (ag.fr ((fi.getD m 0).toNat) (by first | omega | (have:=hfr O;omega))).slc) ?_);rintro Es A346 ⟨rfl,bB,hD⟩;have hh:=bB.g bA;have fU:=ar.le bB;have fV:=ab.le bB;have fX:=aD.le bB;have g0:=bd.le bB;have f9:=ag.le bB;have gp:=dd.trans bB;refine lc (bg.none Y)<|.done<|q8<|.if rfl (fun t5=>?_) (fun t5=>?_)
    ·refine ak.region<|.J Z<|.J Z<|.J Z ?_;obtain ⟨ec,D2,B4,tB,yS,dj,hw,p5,Ez,sR,Ek,rv⟩:=fU.at1 (x:=a) O4;rw [aj] at hw;refine Ops.p (al cQ cl Z dj Z (by rw [hw];(try simp only [XQ]);omega))<|.m (fun li=>aU (off:=a) (c':=tB.set a (num ((m:Nat):Int))) hD rfl Ov rfl rfl cl p5 (by show a + 1<=_;omega) rfl rfl fun A361 bR=>?_);have q9:=bR.k (fun q=>a2 (by rw [dj];exact Xk some q.symm)) hh;have j4:=fV.keep bR.keep (a7 ec (by rw [dj];rfl));have jX:=fX.keep bR.keep (ac ec (by rw [dj];rfl));have k0:=g0.keep bR.keep (ad ec (by rw [dj];rfl));have ih:=f9.keep bR.keep (fun r hr=>a0 r hr ec (by rw [dj];rfl));have g1:=rv (num ((m:Nat):Int)) A361 bR;rw [dp] at g1;have lO:=an gp wf sR bR.n bR.keep;refine li<|.nil<|hg<|.region<|.J Z<|.p (bk (b:=1) Z Z O)<|.I Z<|.nil ?_;exact ⟨⟨m + 1,((m:Nat):Int),o4.set a (((m:Nat):Int)),b2⟩,Ut Z Z Z Z Z Z Z Z Z,Z,⟨⟨by omega,by rw [bO,Sv],hfs.hit O O (by have:=hfr O;rw [<- dG a O,<- dG (fi.getD m 0).toNat O];assumption)⟩,lO,g1,j4,jX,k0,q9,a2,a6,ai,ap,a7,ac,ad,ay,az,aY,ih,a8,a0,a1,a9,aa⟩,O1⟩
    refine ak.skip<|hg<|.region<|.J Z<|.p (bk (b:=1) Z Z O)<|.I Z<|.nil ?_;exact ⟨⟨m + 1,z,o4,b2⟩,Ut Z Z Z Z Z Z Z Z Z,Z,⟨⟨by omega,bO,hfs.miss O (by have:=hfr O;rw [<- dG a O,<- dG (fi.getD m 0).toNat O];assumption)⟩,gp,fU,fV,fX,g0,hh,a2,a6,ai,ap,a7,ac,ad,ay,az,aY,f9,a8,a0,a1,a9,aa⟩,O1⟩
   refine ak.exit<|he<|.sq fun qa=>.region<|.J Z<|.J Z ?_;obtain ⟨AS,Bu,Ag,DZ,yT,D3,C4,ok,sr,p6,x9,hS⟩:=bz.at (i:=a) ar.slc O2 O;refine Ops.p (al cQ cl Z ok Z sr)<|.p (ah dK Z Z p6 ((cb hS).trans (bJ O)))<|.p (iU Z Z)<|.nil<|qa<|.if rfl (fun t6=>?_) (fun t6=>?_)
   ·refine ak.sq fun qb=>.region<|.J Z<|.J Z<|.J Z<|.p (bx (n:=fi.length) cQ Z ab.slc O (c9 _)) ?_;obtain ⟨ee,Dd,B5,tI,z0,dv,hx,p7,EA,sS,El,rI⟩:=ar.at1 (x:=a) O4;rw [aj] at hx;refine Ops.p (al cQ cl Z dv Z (by rw [hx];(try simp only [XQ]);omega))<|.m (fun lj=>aU (off:=a) (c':=tI.set a (num ((fi.length:Nat):Int))) gF rfl Ov rfl rfl cl p7 (by show a + 1<=_;omega) rfl rfl fun A378 bb=>?_);have qd:=bb.k (fun q=>a2 (by rw [dv];exact Xk some q.symm)) bA;have k1:=ab.keep bb.keep (a7 ee (by rw [dv];rfl));have k2:=aD.keep bb.keep (ac ee (by rw [dv];rfl));have k3:=bd.keep bb.keep (ad ee (by rw [dv];rfl));have fd:=ag.keep bb.keep (fun r hr=>a0 r hr ee (by rw [dv];rfl));have g4:=rI (num ((fi.length:Nat):Int)) A378 bb;rw [dp] at g4;refine lj<|.nil<|qb<|.region<|.J Z<|.J Z<|.m (fun lp=>aE (c:=[num ((a:Nat):Int)]) bb.wf rfl (aq cQ cl z3 rfl U U rfl) fun A389 AT aB=>?_);have xt:=fd.ne_new bb.wf aB.lo;have hk:=aB.le.g qd;have g5:=g4.le aB.le;have g6:=k1.le aB.le;have g7:=k2.le aB.le;have g8:=k3.le aB.le;have fe:=fd.le aB.le;have lP:=(an dd wf sS bb.n bb.keep).trans aB.le;refine lp<|.m (fun lt=>cm (ys:=[num ((a:Nat):Int)]) rfl rfl cQ cl jq z3 rfl U cQ (fun _ h=>by cases h) g6.own (bG (n:=1) aB.get Z) rfl rfl (by show (_ + _) * 8<=_;simp only [aj,Xq,Xx];(try simp only [Xz,Xq,Xx]);omega) O3 fun A404 tT aS=>?_);rw [show ([num ((a:Nat):Int)]:List Value)=cf [((a:Nat):Int)] from rfl,cJ] at aS;obtain ⟨k4,lS⟩:=Fresh.grow g6 lP wf aS;have qp:=aS.keep a6 hk;have lZ:=aS.ne a6 aB.wf hk;have mX:=aL.appd (show aL fv b2 from (aL.symm a7)) g5.own aB.wf aS;have k6:=g5.appd aS (aL.symm a7);have n1:=aL.appd (show aL fv hv from ay) g7.own aB.wf aS;have k7:=g7.appd aS ay;have n3:=aL.appd (show aL fv kv from az) g8.own aB.wf aS;have k9:=g8.appd aS az;have n4:=au.appd (show au fv hd from a1) fe aB.wf aS;have it:=fe.appd aS (show au fv hd from a1);refine lt<|.I Z<|.nil<|dV<|.region<|.J Z<|.p (bk (b:=1) Z Z O)<|.I Z<|.nil ?_;exact ⟨⟨a + 1,o4.set a (((fi.length:Nat):Int)),fi ++ [((a:Nat):Int)],b2,tT⟩,un Z Z Z Z Z Z Z Z,Z,⟨⟨by omega,by first | exact hnu.new O hfs O O (by rw [bO,Sv]) | exact hnu.old O hfs O bO | (exfalso;omega)⟩,lS,k6,k4,k7,k9,qp,a2,lZ,ai,ap,(aL.symm mX),ac,ad,n1,n3,aY,it,a8,a0,n4,a9,aa⟩,O1⟩
   refine ak.skip<|dV<|.region<|.J Z<|.p (bk (b:=1) Z Z O)<|.I Z<|.nil ?_;exact ⟨⟨a + 1,o4,fi,b2,fv⟩,un Z Z Z Z Z Z Z Z,Z,⟨⟨by omega,by first | exact hnu.new O hfs O O (by rw [bO,Sv]) | exact hnu.old O hfs O bO | (exfalso;omega)⟩,dd,ar,ab,aD,bd,bA,a2,a6,ai,ap,a7,ac,ad,ay,az,aY,ag,a8,a0,a1,a9,aa⟩,O1⟩
  refine Ops.off Z Z Z Z<|.off Z Z Z Z<|.off Z Z Z Z<|.off Z Z Z Z<|.off Z Z Z Z<|.p (aO Z Z)<|.nil<|hf<|.cond_false Z<|.exit ?_;refine he<|.sq fun qr=>.region<|.J Z<|.J Z ?_;obtain ⟨AV,Bv,Ai,E2,z1,Dg,C7,ov,ss,p8,xa,hT⟩:=bz.at (i:=a) ar.slc O2 O;refine Ops.p (al cQ cl Z ov Z ss)<|.p (ah dK Z Z p8 ((cb hT).trans (bJ O)))<|.p (iU Z Z)<|.nil<|qr<|.if rfl (fun t7=>?_) (fun t7=>?_)
  ·refine ak.sq fun qu=>.region<|.J Z<|.J Z<|.J Z<|.p (bx (n:=fi.length) cQ Z ab.slc O (c9 _)) ?_;obtain ⟨eg,Di,B6,tJ,z2,dw,hy,p9,EB,sT,Em,rJ⟩:=ar.at1 (x:=a) O4;rw [aj] at hy;refine Ops.p (al cQ cl Z dw Z (by rw [hy];(try simp only [XQ]);omega))<|.m (fun lA=>aU (off:=a) (c':=tJ.set a (num ((fi.length:Nat):Int))) gF rfl Ov rfl rfl cl p9 (by show a + 1<=_;omega) rfl rfl fun A429 bc=>?_);have qv:=bc.k (fun q=>a2 (by rw [dw];exact Xk some q.symm)) bA;have kc:=ab.keep bc.keep (a7 eg (by rw [dw];rfl));have kl:=aD.keep bc.keep (ac eg (by rw [dw];rfl));have km:=bd.keep bc.keep (ad eg (by rw [dw];rfl));have fl:=ag.keep bc.keep (fun r hr=>a0 r hr eg (by rw [dw];rfl));have g9:=rJ (num ((fi.length:Nat):Int)) A429 bc;rw [dp] at g9;refine lA<|.nil<|qu<|.region<|.J Z<|.J Z<|.m (fun lB=>aE (c:=[num ((a:Nat):Int)]) bc.wf rfl (aq cQ cl z3 rfl U U rfl) fun A440 AY aC=>?_);have xv:=fl.ne_new bc.wf aC.lo;have hl:=aC.le.g qv;have gc:=g9.le aC.le;have ge:=kc.le aC.le;have gf:=kl.le aC.le;have gg:=km.le aC.le;have fm:=fl.le aC.le;have lT:=(an dd wf sT bc.n bc.keep).trans aC.le;refine lB<|.m (fun lC=>cm (ys:=[num ((a:Nat):Int)]) rfl rfl cQ cl jq z3 rfl U cQ (fun _ h=>by cases h) ge.own (bG (n:=1) aC.get Z) rfl rfl (by show (_ + _) * 8<=_;simp only [aj,Xq,Xx];(try simp only [Xz,Xq,Xx]);omega) O3 fun A455 tW aT=>?_);rw [show ([num ((a:Nat):Int)]:List Value)=cf [((a:Nat):Int)] from rfl,cJ] at aT;obtain ⟨kp,lV⟩:=Fresh.grow ge lT wf aT;have qA:=aT.keep a6 hl;have m1:=aT.ne a6 aC.wf hl;have n6:=aL.appd (show aL fv b2 from (aL.symm a7)) gc.own aC.wf aT;have kC:=gc.appd aT (aL.symm a7);have n7:=aL.appd (show aL fv hv from ay) gf.own aC.wf aT;have kD:=gf.appd aT ay;have n9:=aL.appd (show aL fv kv from az) gg.own aC.wf aT;have kK:=gg.appd aT az;have nb:=au.appd (show au fv hd from a1) fm aC.wf aT;have iv:=fm.appd aT (show au fv hd from a1);refine lC<|.I Z<|.nil<|dV<|.region<|.J Z<|.p (bk (b:=1) Z Z O)<|.I Z<|.nil ?_;exact ⟨⟨a + 1,o4.set a (((fi.length:Nat):Int)),fi ++ [((a:Nat):Int)],b2,tW⟩,un Z Z Z Z Z Z Z Z,Z,⟨⟨by omega,by first | exact hnu.new O hfs O O (by rw [bO,Sv]) | exact hnu.old O hfs O bO | (exfalso;omega)⟩,lV,kC,kp,kD,kK,qA,a2,m1,ai,ap,(aL.symm n6),ac,ad,n7,n9,aY,iv,a8,a0,nb,a9,aa⟩,O1⟩
  refine ak.skip<|dV<|.region<|.J Z<|.p (bk (b:=1) Z Z O)<|.I Z<|.nil ?_;exact ⟨⟨a + 1,o4,fi,b2,fv⟩,un Z Z Z Z Z Z Z Z,Z,⟨⟨by omega,by first | exact hnu.new O hfs O O (by rw [bO,Sv]) | exact hnu.old O hfs O bO | (exfalso;omega)⟩,dd,ar,ab,aD,bd,bA,a2,a6,ai,ap,a7,ac,ad,ay,az,aY,ag,a8,a0,a1,a9,aa⟩,O1⟩
 refine ak.exit<|pW<|.sq fun qB=>.region<|.J Z<|.I Z<|.nil<|qB<|.sq fun qD=>.sq fun qN=>?_;have hnf:=Gr.fin hnu O;refine ak.region<|.J Z<|.p (bx (n:=fi.length) cQ Z d2.slc O (c9 _))<|.J Z<|.p (jM Z Z)<|.nil<|qN<|.if rfl (fun t8=>?_) (fun t8=>?_)
 ·refine ak.sq fun qP=>.region<|.J Z<|.I Z<|.nil<|qP<|.rt (by exact aH Z (⟨ey,gE,ci ch (Xk cf (hcl.stop hnf ‹_›))⟩))
 refine ak.skip<|qD<|.region<|.J Z<|.p (bx (n:=fi.length) cQ Z d2.slc O (c9 _))<|.I Z<|.nil ?_;exact ⟨⟨fi.length,fu - 1,o3,c0⟩,mc Z Z Z Z,Z,⟨hcl.next hnf ‹_›,ey,ch,dW,b1⟩,O1⟩
end Go.Proofs.YtjppkekmddjcfaaGreatDoor
