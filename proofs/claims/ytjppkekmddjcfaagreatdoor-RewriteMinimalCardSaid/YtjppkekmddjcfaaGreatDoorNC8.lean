import Derived.Test.YtjppkekmddjcfaaGreatDoorNC5
import Derived.Test.YtjppkekmddjcfaaGreatDoorNC7
import Derived.Test.YtjppkekmddjcfaaGreatDoorNC6
import Derived.Test.YtjppkekmddjcfaaGreatDoorNC2
set_option linter.unusedSectionVars false
set_option linter.unusedVariables false
set_option linter.unusedSimpArgs false
open Go.Proofs.Tryz
namespace Go.Proofs.YtjppkekmddjcfaaGreatDoor
open Go Go.RowKit
namespace V
section
variable {P:Program} {nt:Nat} {Q:Exit->Fr->AH->Prop} {A M:AH} {e:im} {ds:List Deferred}
theorem ak.rangeOwnP {g:Operand} {gf:Nat} {lb:Array Value} {ps:Array Tmp} {assign body:Code} (b4 n:Nat) (xs:Nat->List Value) (I:Nat->AH->Prop) (e1:Nat->im)
    (hg:cg e g=some (.func (.func gf) #[] lb)) (eg:f5 P gf) (hps:∀ i,(xs i).length=ps.size) (hpn:∀ p ∈ ps.toList,p < nt) (a3:b4 < A.n) (hM:c8 b4 M A)
    (hI:∀ i B B',I i B->B'.wf->B.n<=B'.n->(∀ b o,(b < A.n\/oT b4 B b)->B.get b=some o->B'.get b=some o)->I i B')
    (hv:∀ i B,I i B->∃ v cap,B.get b4=some (.row true [v] cap)/\∀ b,blk v=some b->∃ o,B.get b=some o) (h0:I 0 A)
    (hiter:∀ l (J:Nat->AH->Prop) B M,B.n=A.n + 2->A.le B->B.wf->c8 b4 M B->(∀ i C,J i C->I i C) ->
      (∀ i C C',J i C->C'.wf->C.n<=C'.n->(∀ b o,(b < B.n\/oT b4 C b)->C.get b=some o->C'.get b=some o)->J i C')->J 0 B ->
      (∀ i C M',i < n->C.wf->J i C->c8 b4 M' C->mU P l (xs i).toArray C (fun v C'=>v=.bool true/\J (i + 1) C'/\C'.wf/\c8 b4 M' C')) ->
      bH P gf (#[.func (.yield l) #[] #[]] ++ lb) B (fun _ C=>J n C/\C.wf/\c8 b4 M C))
    (hassign:∀ F i B,zp F->i < n->fw P nt F assign (yH fun f C=>aj (e1 i) f.e/\f.ds=[]/\B.le C/\C.wf) ⟨D9 ps.toList (xs i) e,[]⟩ B)
    (hbody:∀ F i B M',zp F->i < n->I i B->B.wf->A.n<=B.n->c8 b4 M' B->fw P nt F body (yH fun _ C=>I (i + 1) C/\C.wf/\c8 b4 M' C) ⟨e1 i,[]⟩ B)
    (hK:∀ B D,I n B->B.wf->A.n<=D->A.n<=B.n->B.get D=some (.obj true (.deferred (some [])))->¬ oT b4 B D->c8 b4 M B->Q .normal ⟨e,mark D :: ds⟩ B) :
    ak P nt (.rangeFunc g ps assign body) Q ⟨e,ds⟩ A:=by
  intro a w ha hw
  refine wpIn_wide.1 (wpIn_rangeFunc (n:=0) ?_)
  intro fn _
  rw [show Fence.wide.round=none from rfl]
  obtain ⟨rec,hrec⟩:∃ rec:LoopState->Option Code->Loop,rec=fun st pe=>{ state:=st,pending:=pe,fn,tmps:=a.tmps,params:=ps,assign,body,defers:=w.heap.size }:=⟨_,rfl⟩
  have hsz:w.heap.size=A.n:=hw.size
  have wfA:=hw.wf
  have hA:∀ b,oT b4 A b->b < A.n:=fun b hb=>by
    obtain ⟨v,cap,g1,g2⟩:=hv 0 A h0
    rcases hb.val g1 with rfl | q
    · exact a3
    · obtain ⟨o,ho⟩:=g2 b q;exact wfA _ _ ho
  obtain ⟨v1,s1⟩:=kB (o:=.obj true (.deferred (some []))) (x:=.deferred (some [])) hw ⟨rfl,fun _ _ _ q=>by cases q⟩
  obtain ⟨v2,s2⟩:=kB (o:=.obj true (.loop (rec .ready none))) (x:=.loop (rec .ready none)) v1 ⟨rfl,fun _ _ _ q=>by cases q⟩
  have hgl:((A.new (.obj true (.deferred (some [])))).new (.obj true (.loop (rec .ready none)))).get (A.n + 1)=some (.obj true (.loop (rec .ready none))):=AH.new_get_same _ _
  have hgd:((A.new (.obj true (.deferred (some [])))).new (.obj true (.loop (rec .ready none)))).get A.n=some (.obj true (.deferred (some []))):=by
    rw [AH.new_get_ne _ _ (by simp)];exact AH.new_get_same _ _
  have hkeep:∀ b,b < A.n->((A.new (.obj true (.deferred (some [])))).new (.obj true (.loop (rec .ready none)))).get b=A.get b:=fun b hb=>by
    rw [AH.new_get_ne _ _ Oi,AH.new_get_ne _ _ O]
  have hleA:A.le ((A.new (.obj true (.deferred (some [])))).new (.obj true (.loop (rec .ready none)))):=AH.le_new (AH.le_new (AH.le.refl A) wfA _) wfA _
  have hnB:((A.new (.obj true (.deferred (some [])))).new (.obj true (.loop (rec .ready none)))).n=A.n + 2:=rfl
  generalize ((A.new (.obj true (.deferred (some [])))).new (.obj true (.loop (rec .ready none))))=B0 at *
  have ac:I 0 B0:=hI 0 A _ h0 v2.wf O fun b o hb hgb=>by rw [hkeep b (wfA _ _ hgb)];exact hgb
  have a9:∀ b,oT b4 B0 b->b < A.n:=fun b hb=>hA b (hb.same (hkeep b4 a3))
  have hgev:a.eval g=.func (.func gf) #[] lb:=c9 ha hg
  -- what is kept of the loop's own blocks
  have nl:b4 ≠ A.n + 1:=by omega
  refine ⟨w.heap.size + 1,[mark w.heap.size],(w.alloc (.deferred (some []))).alloc (.loop (rec .ready none)),{ target:=.fn (.func gf) lb,args:=#[.func (.yield (w.heap.size + 1)) #[] #[]] },(w.alloc (.deferred (some []))).alloc (.loop (rec .ready none)),gf,
    #[.func (.yield (w.heap.size + 1)) #[] #[]] ++ lb,(w.alloc (.deferred (some []))).alloc (.loop (rec .ready none)),?_,?_,fun _ _=>trivial,?_,fun q=>(by cases q),?_⟩
  · rw [hrec];exact run_enterLoop_outer _ _ _ _ _
  · simp only [resolve,hgev]
    simp [go_sem]
  · have eg':=eg
    unfold f5 at eg'
    simp [invoke,go_sem,eg']
  · rw [hsz]
    have ag:c8 b4 M B0:=⟨hM.le.trans hleA,hM.wf,fun b hb=>hM.ow b (hb.same (hkeep b4 a3))⟩
    have hcall:=hiter (A.n + 1) (fun i C=>I i C/\C.get (A.n + 1)=some (.obj true (.loop (rec .ready none)))/\C.get A.n=some (.obj true (.deferred (some [])))/\¬ oT b4 C (A.n + 1)/\¬ oT b4 C A.n) B0 M hnB hleA v2.wf ag (fun i C h=>h.1)
      (fun i C C' h wf hn hk=>?_) ⟨ac,hgl,hgd,fun q=>by have:=a9 _ q;omega,fun q=>by have:=a9 _ q;omega⟩ ?_
    · refine (callsIn_wide.2 (hcall.2 _ v2)).mono ?_
      rintro en w' ⟨A',hv',hs',v,rfl,⟨⟨hIn,hgl',hgd',X,a0⟩,hwf',hM'⟩⟩
      obtain ⟨q1,_⟩:=hv'.obj hgl'
      obtain ⟨v3,s3⟩:=nF P (y:=.loop { rec .ready none with state:=.exhausted }) hv' hgl' (fun _ _ _ q=>by cases q)
      refine ⟨none,w'.putObj (A.n + 1) (.loop { rec .ready none with state:=.exhausted }),by
        have h7:=run_endLoop (P:=P) q1 (by rw [hrec];simp)
        have h8:(rec .ready none).pending=none:=by rw [hrec]
        exact h7.trans (Xk (fun j=>Result.ok j _) h8),?_⟩
      have hl':=hwf' _ _ hgl'
      refine ⟨⟨e,mark A.n :: ds⟩,_,⟨ha.size,ha.slot,by show [mark _] ++ a.defers=_;rw [ha.ds];rfl⟩,v3,((s1.trans s2).trans hs').trans s3,?_,fun _ q=>by cases q⟩
      have hset:∀ b,b ≠ A.n + 1->(A'.set (A.n + 1) (.obj true (.loop { rec .ready none with state:=.exhausted }))).get b=A'.get b:=fun b hb=>AH.set_get_ne _ _ hb
      refine hK _ A.n (hI n A' _ hIn v3.wf (XV _) fun b o hb hgb=>?_) v3.wf (XV _) Oi ?_ ?_ ⟨⟨hM'.le.n,fun b o hb=>?_⟩,hM'.wf,fun b hb=>hM'.ow b (hb.same (hset b4 nl))⟩
      · rw [hset];exact hgb
        rintro rfl
        rcases hb with hb | hb
        · omega
        · exact X hb
      · rw [hset _ O];exact hgd'
      · exact fun q=>a0 (q.same (hset b4 nl))
      · have h1:=hM.le.get b o hb
        have h2:=wfA _ _ h1
        rw [hset _ O];exact hM'.le.get b o hb
    · obtain ⟨hIC,g1,g2,X,a0⟩:=h
      obtain ⟨v,cap,hr,_⟩:=hv i C hIC
      have e4:C'.get b4=C.get b4:=by rw [hr];exact hk b4 _ (.inr (.inl Z)) hr
      exact ⟨hI i C C' hIC wf hn (fun b o hb hgb=>hk b o (hb.imp (fun q=>by omega) id) hgb),hk _ _ (.inl O) g1,hk _ _ (.inl O) g2,fun q=>X (q.same e4),fun q=>a0 (q.same e4)⟩
    · rintro i C M' hi hwfC ⟨hIC,hgl',hgd',X,a0⟩ hMC w' hv'
      obtain ⟨q1,_⟩:=hv'.obj hgl'
      have hy:=run_yield (P:=P) (args:=(xs i).toArray) q1 (by rw [hrec];simpa using hps i)
      refine ⟨fn,_,assign,body,(by rw [hrec] at hy;exact hy),roundIn_of_wpIn trivial ?_⟩
      have hact:dC nt ⟨D9 ps.toList (xs i) e,[]⟩ { tmps:=(ps.zip (xs i).toArray).foldl (fun t p=>t.setIfInBounds p.1 p.2) a.tmps,defers:=[] }:=by
        have:=vO (nt:=nt) (ps.toList.zip (xs i)) e a.tmps (fun p hp=>hpn _ (List.of_mem_zip hp).1) ⟨ha.size,ha.slot,rfl⟩
        rw [<- Array.foldl_toList,Array.toList_zip]
        exact this
      have ap:=hassign (FR (A.n + 1)) i C (sy _) hi _ w' hact hv'
      refine wpIn_mono ap ?_
      rintro x a1 w1 ⟨f1,C1,h1,h2,h3,h4,h5⟩
      cases x <;> (try exact h4.elim)
      obtain ⟨hE,hds,hleC,ar⟩:=h4
      obtain ⟨fe,fds⟩:=f1
      simp only at hE hds
      subst hds
      obtain ⟨vC,capC,gC,lC⟩:=hv i C hIC
      have owC:∀ b,oT b4 C b->b < C.n:=fun b hb=>by
        rcases hb.val gC with rfl | q
        · exact hwfC _ _ gC
        · obtain ⟨o,ho⟩:=lC b q;exact hwfC _ _ ho
      have ab:C1.get b4=C.get b4:=by rw [gC];exact hleC.get _ _ gC
      have a4:=hleC.get _ _ hgl'
      have aa:=hleC.get _ _ hgd'
      obtain ⟨q2,_⟩:=h2.obj a4
      obtain ⟨v4,s4⟩:=nF P (y:=.loop { rec .ready none with state:=.busy }) h2 a4 (fun _ _ _ q=>by cases q)
      refine ⟨_,run_beginRound q2 (by rw [hrec]),?_⟩
      have hl':=hwfC _ _ hgl'
      have hd':=hwfC _ _ hgd'
      have hnC:=hleC.n
      have hset:∀ b,b ≠ A.n + 1->(C1.set (A.n + 1) (.obj true (.loop { rec .ready none with state:=.busy }))).get b=C1.get b:=fun b hb=>AH.set_get_ne _ _ hb
      have hsetl:(C1.set (A.n + 1) (.obj true (.loop { rec .ready none with state:=.busy }))).get (A.n + 1)=some (.obj true (.loop { rec .ready none with state:=.busy })):=AH.set_get_same _ _ _
      have hsetn:(C1.set (A.n + 1) (.obj true (.loop { rec .ready none with state:=.busy }))).n=C1.n:=rfl
      generalize C1.set (A.n + 1) (.obj true (.loop { rec .ready none with state:=.busy }))=B1 at *
      have hIB:I i B1:=hI i C _ hIC v4.wf O fun b o hb hgb=>by
        rw [hset];exact hleC.get _ _ hgb
        rintro rfl
        rcases hb with hb | hb
        · omega
        · exact X hb
      have ai:∀ b,oT b4 B1 b->oT b4 C b:=fun b hb=>(hb.same (hset b4 nl)).same ab
      have hMs:c8 b4 ⟨C.n,fun b=>if b=A.n + 1 then some (.obj true (.loop { rec .ready none with state:=.busy })) else if b=A.n then some (.obj true (.deferred (some []))) else M'.get b⟩ B1:=by
        refine ⟨⟨by show C.n<=B1.n;omega,fun b o hb=>?_⟩,fun b o hb=>?_,fun b hb=>?_⟩
        · simp only at hb
          split at hb
          · rename_i q;subst q;rw [hsetl];exact hb
          · rename_i q
            rw [hset b q]
            split at hb
            · rename_i q2;subst q2;rw [aa];exact hb
            · exact hleC.get _ _ (hMC.le.get b o hb)
        · simp only at hb
          split at hb
          · show b < C.n;omega
          · split at hb
            · show b < C.n;omega
            · exact hwfC b o (hMC.le.get b o hb)
        · have h6:=ai b hb
          simp only
          rw [Xy (fun q:b=A.n + 1=>X (q ▸ h6)),Xy (fun q:b=A.n=>a0 (q ▸ h6))]
          exact hMC.ow b h6
      have hb:=hbody (FR (A.n + 1)) i B1 _ (sy _) hi hIB v4.wf O hMs
      refine wpIn_mono (hb _ _ (dC.le h1 hE) v4) ?_
      rintro x a2 w2 ⟨f2,A2,g1,g2,g3,g4,g5⟩
      cases x <;> (try exact g4.elim)
      obtain ⟨ad,av,V⟩:=g4
      have a7:A2.get (A.n + 1)=some (.obj true (.loop { rec .ready none with state:=.busy })):=V.le.get _ _ (XX Z)
      have a6:A2.get A.n=some (.obj true (.deferred (some []))):=V.le.get _ _ (by simp [show ¬ A.n=A.n + 1 by omega])
      have a5:¬ oT b4 A2 (A.n + 1):=fun q=>by have:=V.ow _ q;simp only [if_true] at this;cases this
      have a8:¬ oT b4 A2 A.n:=fun q=>by have:=V.ow _ q;simp [show ¬ A.n=A.n + 1 by omega] at this
      obtain ⟨q3,_⟩:=g2.obj a7
      obtain ⟨v5,s5⟩:=nF P (y:=.loop { ({ rec .ready none with state:=.busy }:Loop) with state:=.ready,pending:=none }) g2 a7 (fun _ _ _ q=>by cases q)
      refine ⟨_,_,run_endRound (P:=P) none q3,_,_,Z,v5,((h3.trans s4).trans g3).trans s5,Z,⟨?_,?_,?_,?_,?_⟩,v5.wf,?_⟩
      · exact hI (i + 1) A2 _ ad v5.wf (XV _) fun b o hb hgb=>by
          rw [AH.set_get_ne];exact hgb
          rintro rfl
          rcases hb with hb | hb
          · omega
          · exact a5 hb
      · rw [AH.set_get_same,hrec]
      · rw [AH.set_get_ne _ _ O];exact a6
      · exact fun q=>a5 (q.same (AH.set_get_ne _ _ nl))
      · exact fun q=>a8 (q.same (AH.set_get_ne _ _ nl))
      · refine ⟨⟨Xj hMC.le.n (by have:=V.le.n;exact this),fun b o hb=>?_⟩,hMC.wf,fun b hb=>?_⟩
        · by_cases q:b=A.n + 1
          · subst q
            have h6:=hMC.le.get _ _ hb
            rw [hgl'] at h6
            rw [AH.set_get_same,<- h6,hrec]
          · rw [AH.set_get_ne _ _ q]
            by_cases q2:b=A.n
            · subst q2;rw [a6,<- hMC.le.get _ _ hb,hgd']
            · exact V.le.get b o (by simp only;rw [Xy q,Xy q2];exact hb)
        · have h6:oT b4 A2 b:=hb.same (AH.set_get_ne _ _ nl)
          have h7:=V.ow b h6
          simp only at h7
          rw [Xy (fun q:b=A.n + 1=>a5 (q ▸ h6)),Xy (fun q:b=A.n=>a8 (q ▸ h6))] at h7
          exact h7
end
end V
open V
section
variable {lv:List Bool} {N:List (List Int)} {cls:List Int} {i j n:Nat} {o:Wd} {m:Int}
def uF (lv:List Bool) (N:List (List Int)) (cls:List Int) (i j:Nat):Wd:=jf (cls.getD i 0).toNat ++ ((N.getD i []).take j).flatMap (yl lv cls)
theorem Aj (hj:j < (N.getD i []).length):uF lv N cls i (j + 1)=uF lv N cls i j ++ yl lv cls ((N.getD i []).getD j 0):=by
  rw [uF,<- gz (z:=(0:Int)) hj,List.flatMap_append,<- XY]
  simp [uF]
theorem Mg (h:o=uF lv N cls i j) (hj:j < (N.getD i []).length) (q:mh lv ((N.getD i []).getD j 0)=false):o ++ [32]=uF lv N cls i (j + 1):=by
  rw [Aj hj,yl,q,h];simp
theorem UA (h:o=uF lv N cls i j) (hj:j < (N.getD i []).length) (q:mh lv ((N.getD i []).getD j 0)=true):o ++ [32] ++ jf (cls.getD ((N.getD i []).getD j 0).toNat 0).toNat=uF lv N cls i (j + 1):=by
  rw [Aj hj,yl,q,h,XY];simp
theorem yp (h:¬ 0<=m):mh lv m=false:=by rw [mh,Xv h];rfl
theorem O6 (h:m < 0):mh lv m=false:=yp O
theorem qg (h:0<=m):mh lv m=lv.getD m.toNat false:=by rw [mh,XJ h];rfl
theorem UC:(yl lv cls m).length<=14:=by
  unfold yl;split
  · have:=vu (cls.getD m.toNat 0).toNat;rw [Xq];omega
  · simp
theorem Uz:(uF lv N cls i j).length<=13 + 14 * j:=by
  have h1:=vu (cls.getD i 0).toNat
  have h2:∀ l:List Int,(l.flatMap (yl lv cls)).length<=14 * l.length:=by
    intro l
    induction l with
    | nil=>simp
    | cons a l ih=>have:=UC (lv:=lv) (cls:=cls) (m:=a);rw [Sw,Xx,Xq];omega
  have h3:=h2 ((N.getD i []).take j)
  have:((N.getD i []).take j).length<=j:=List.length_take_le _ _
  rw [uF,Xx];omega
theorem pg (h:lv.getD i false=false):qQ lv N cls i=[45]:=by rw [qQ,h];rfl
theorem O4 (h:lv.getD i false=true) (hj:(N.getD i []).length=j):qQ lv N cls i=uF lv N cls i j:=by
  rw [qQ,XX h,uF,<- hj,Rj]
theorem Ou (n:Nat):jf n ≠ []:=by
  unfold jf vv
  split
  · simp
  · simp
theorem aaA {a b x y:Wd} (ha:∀ c ∈ a,c ≠ 32) (hb:∀ c ∈ b,c ≠ 32) (hx:x=[]\/∃ t,x=32 :: t) (hy:y=[]\/∃ t,y=32 :: t) (e:a ++ x=b ++ y):a=b/\x=y:=by
  induction a generalizing b with
  | nil =>
    cases b with
    | nil=>exact ⟨Z,e⟩
    | cons c b =>
      rcases hx with rfl | ⟨t,rfl⟩
      · simp at e
      · simp only [Rq,List.cons_append,List.cons.injEq] at e
        exact absurd e.1.symm (hb c Vy)
  | cons c a ih =>
    cases b with
    | nil =>
      rcases hy with rfl | ⟨t,rfl⟩
      · simp at e
      · simp only [Rq,List.cons_append,List.cons.injEq] at e
        exact absurd e.1 (ha c Vy)
    | cons d b =>
      simp only [List.cons_append,List.cons.injEq] at e
      obtain ⟨h1,h2⟩:=ih (fun c hc=>ha c (VZ _ hc)) (fun c hc=>hb c (VZ _ hc)) e.2
      exact ⟨by rw [e.1,h1],h2⟩
theorem z6 (l:List Int):l.flatMap (yl lv cls)=[]\/∃ t,l.flatMap (yl lv cls)=32 :: t:=by
  cases l with
  | nil=>exact .inl Z
  | cons a l=>right;rw [Sw,yl];exact ⟨_,Z⟩
theorem Uy (hcl:cls.length=n) (hcr:∀ c ∈ cls,0<=c/\c < (n:Int)) (hn:n<=100000) (hd:∀ i j,i < n->j < n->lv.getD i false=false->lv.getD j false=false->cls.getD i 0=cls.getD j 0) (i j:Nat) (hi:i < n) (hj:j < n) (h:qQ lv N cls i=qQ lv N cls j):cls.getD i 0=cls.getD j 0:=by
  have hm:∀ i,(∃ t,jf (cls.getD i 0).toNat ++ t=[45])->False:=fun i ⟨t,z⟩=>by
    have h1:=xb 13 (cls.getD i 0).toNat
    cases hf:jf (cls.getD i 0).toNat with
    | nil=>exact Ou _ hf
    | cons c l =>
      rw [hf] at z
      simp only [List.cons_append,List.cons.injEq] at z
      exact (h1 c (by show c ∈ jf _;rw [hf];exact Vy)).2 z.1
  cases hli:lv.getD i false with
  | false =>
    cases hlj:lv.getD j false with
    | false=>exact hd i j hi hj hli hlj
    | true=>rw [pg hli,qQ,XX hlj] at h;exact absurd ⟨_,h.symm⟩ (hm j)
  | true =>
    cases hlj:lv.getD j false with
    | false=>rw [pg hlj,qQ,XX hli] at h;exact absurd ⟨_,h⟩ (hm i)
    | true =>
      rw [qQ,qQ,XX hli,XX hlj] at h
      have h1:=hcr _ (bj (d:=(0:Int)) (show i < cls.length by omega))
      have h2:=hcr _ (bj (d:=(0:Int)) (show j < cls.length by omega))
      have:=(aaA (fun c hc=>(xb 13 _ c hc).1) (fun c hc=>(xb 13 _ c hc).1) (z6 _) (z6 _) h).1
      have:=Ot O O this
      omega
def EI (lv:List Bool) (n:Nat) (cls:List Int):Prop:=∀ i j,i < n->j < n->lv.getD i false=false->lv.getD j false=false->cls.getD i 0=cls.getD j 0
theorem GY {K:Type} (f:Nat->K) (d:K) (hi:i < n):((List.range n).map f).getD i d=f i:=by simp [Vq,hi]
theorem zX {K:Type} [DecidableEq K] (f:Nat->K) (d:K) (h:∀ i j,i < n->j < n->lv.getD i false=false->lv.getD j false=false->f i=f j):EI lv n (cw ((List.range n).map f)).1:=fun i j hi hj h1 h2 =>
  (DE _ (d:=d) (by simpa using hi) (by simpa using hj)).2 (by rw [GY f d hi,GY f d hj];exact h i j hi hj h1 h2)
end
section
variable {n k:Nat} {lv:List Bool} {N:List (List Int)} {cls:List Int} {c m:Int} {x i:Nat}
theorem xQ (key:List Int->Nat->Wd):∀ (f count:Nat) (cls:List Int),cls.length=n->(∀ c ∈ cls,0<=c/\c < (n:Int))->(nX n key f count cls).length=n/\∀ c ∈ nX n key f count cls,0<=c/\c < (n:Int)
  | 0,_,cls,h1,h2=>⟨h1,h2⟩
  | f + 1,count,cls,h1,h2=>by
    obtain ⟨g1,g2,_,_⟩:=ul.of (n:=n) (l:=(List.range n).map (key cls)) (cls:=(cw ((List.range n).map (key cls))).1) (Q:=(cw ((List.range n).map (key cls))).2) (by simp) Z
    unfold nX;split
    · exact ⟨g1,g2⟩
    · exact xQ key f _ _ g1 g2
theorem YB (st:Nat->Bool × Bool) (key:List Int->Nat->Wd):(EW n st key).length=n/\∀ c ∈ EW n st key,0<=c/\c < (n:Int):=by
  obtain ⟨g1,g2,_,_⟩:=ul.of (n:=n) (l:=(List.range n).map st) (cls:=(cw ((List.range n).map st)).1) (Q:=(cw ((List.range n).map st)).2) (by simp) Z
  exact xQ key _ _ _ g1 g2
theorem Ly {acc:List Bool}:(CA acc lv N).length=N.length/\∀ c ∈ CA acc lv N,0<=c/\c < (N.length:Int):=YB _ _
theorem Dr (h:c ∈ cls):kw cls c < cls.length:=Tk.2 h
theorem VF (h:mh lv ((N.getD (kw cls c) []).getD x 0)=false):kx lv N cls c x=none:=by
  rw [kx,show ju N (kw cls c) x=(N.getD (kw cls c) []).getD x 0 from rfl,h];rfl
theorem ZO (h:mh lv ((N.getD (kw cls c) []).getD x 0)=true):kx lv N cls c x=some (cls.getD ((N.getD (kw cls c) []).getD x 0).toNat 0):=by
  rw [kx,show ju N (kw cls c) x=(N.getD (kw cls c) []).getD x 0 from rfl,XX h]
structure sK (cls:List Int) (i:Nat) (E:List (Int × Value)):Prop where
  nd:(E.map (·.1)).Nodup
  is:∀ c,lk E c=if c ∈ cls.take i then some (num ((kw cls c:Nat):Int)) else none
variable {E:List (Int × Value)}
theorem sK.start:sK cls 0 []:=⟨List.nodup_nil,fun c=>by simp [lk]⟩
theorem sK.in_ (h:sK cls i E) {v:Value} (q:lk E c=some v):c ∈ cls.take i:=by
  rw [h.is] at q;split at q
  · assumption
  · cases q
theorem sK.no_ (h:sK cls i E) (q:lk E c=none):c ∉ cls.take i:=fun z=>by rw [h.is,XX z] at q;cases q
theorem rU (hi:i < cls.length):c ∈ cls.take (i + 1) ↔ c ∈ cls.take i\/c=cls.getD i 0:=by
  rw [<- gz (z:=(0:Int)) hi,Vw,Vk]
theorem sK.old (h:sK cls i E) (hi:i < cls.length) (q:cls.getD i 0 ∈ cls.take i):sK cls (i + 1) E:=⟨h.nd,fun c=>by
  rw [h.is]
  by_cases z:c ∈ cls.take i
  · rw [XX z,XX ((rU hi).2 (.inl z))]
  · rw [Xy z,Xy fun w=>((rU hi).1 w).elim z fun e=>z (e ▸ q)]⟩
theorem sK.new (h:sK cls i E) (hi:i < cls.length) (q:cls.getD i 0 ∉ cls.take i):sK cls (i + 1) (Cd E (cls.getD i 0) (num ((i:Nat):Int))):=by
  have hk:lk E (cls.getD i 0)=none:=by rw [h.is,Xy q]
  have hn:cls.getD i 0 ∉ E.map (·.1):=Dp.1 hk
  rw [xq hn]
  have hm:kw cls (cls.getD i 0)=i:=by
    have e:cls=cls.take i ++ cls.drop i:=(VW i cls).symm
    have e2:cls.drop i=cls.getD i 0 :: cls.drop (i + 1):=pb hi
    rw [kw]
    conv=>lhs;arg 2;rw [e]
    rw [List.idxOf_append,Xy q,e2,List.idxOf_cons_self,XZ];omega
  refine ⟨?_,fun c=>?_⟩
  · rw [VJ,TJ,List.map_nil]
    exact Qx.2 ⟨h.nd,by simp,by intro a ha b hb;rw [Vk] at hb;subst hb;intro e;rw [show a=cls.getD i 0 from e] at ha;exact hn ha⟩
  · by_cases z:c=cls.getD i 0
    · subst z
      rw [XX ((rU hi).2 (.inr Z)),hm]
      simp only [lk,List.find?_append]
      have:E.find? (fun p=>decide (p.1=cls.getD i 0))=none:=by
        cases w:E.find? (fun p=>decide (p.1=cls.getD i 0)) with
        | none=>rfl
        | some p=>simp only [lk,w] at hk;cases hk
      rw [this];simp
    · have e1:lk (E ++ [(cls.getD i 0,num ((i:Nat):Int))]) c=lk E c:=by
        simp only [lk,List.find?_append,QJ,Xv (show ¬ cls.getD i 0=c from fun e=>z e.symm),List.find?_nil,Option.or_none]
      rw [e1,h.is]
      by_cases w:c ∈ cls.take i
      · rw [XX w,XX ((rU hi).2 (.inl w))]
      · rw [Xy w,Xy fun v=>((rU hi).1 v).elim w z]
def vg (A:AH) (bp:Nat) (cls:List Int):Prop:=∃ w cap mm w2 es ck,∃ E:List (Int × Value),A.get bp=some (.row w [.map (some mm)] cap)/\A.get mm=some (.obj w2 (.map es ck))/\d9 num es E/\∀ c ∈ cls,lk E c=some (num ((kw cls c:Nat):Int))
theorem vg.le {A B:AH} {bp:Nat} (h:vg A bp cls) (le:A.le B):vg B bp cls:=by
  obtain ⟨w,cap,mm,w2,es,ck,E,h1,h2,h3,h4⟩:=h
  exact ⟨w,cap,mm,w2,es,ck,E,le.g h1,le.g h2,h3,h4⟩
theorem sK.all (h:sK cls i E) (hi:cls.length<=i):∀ c ∈ cls,lk E c=some (num ((kw cls c:Nat):Int)):=fun c hc=>by
  rw [h.is,VX hi,XX hc]
theorem I9 {P:Program} {e:im} {A:AH} {x y:Operand} {t kt et:TypeId} {ty:TypeId} {ps:String} {af:Array Edge} {dst:Option Nat} {Q:Value->AH->Prop} {Kp:List PanicEntry->AH->Prop} {g:Option (Nat × Bool)} {m clock:Nat} {es:Array MapEntry} {E:List (Int × Value)} {k:Int} {v zv:Value} {rw:Bool}
    (hx:cg e x=some (.map (some m))) (hy:cg e y=some (num k)) (hu:P.underlying t=some (.map kt et)) (hk:P.underlying kt=some (.int .i64)) (hz:c5 P et=some zv) (hg:A.get m=some (.obj rw (.map es clock))) (hE:d9 num es E) (hv:lk E k=some v)
    (h:Q v A):ll P e A { dst:=dst,op:=.lookup t x y false,type:=ty,pos:=ps,after:=af,guard:=g } Q Kp:=r0 vA hx hy hu hk hz hg hE (by rw [hv];exact h)
def lz (l:List Bool) (Q:List Int):List Bool:=Q.foldl (fun l s=>l.set s.toNat true) l
theorem ph:∀ (Q:List Int) (l:List Bool),(lz l Q).length=l.length
  | [],_=>rfl
  | q :: Q,l=>by rw [lz,TQ];exact (ph Q _).trans (by simp)
theorem JO (l:List Bool) (Q:List Int) (q:Int):lz l (Q ++ [q])=(lz l Q).set q.toNat true:=by simp [lz]
theorem Gi:∀ (Q:List Int) (l:List Bool),(∀ q ∈ Q,0<=q/\q < (l.length:Int))->∀ i,i < l.length->(lz l Q).getD i false=(l.getD i false || decide ((i:Int) ∈ Q))
  | [],l,_,i,hi=>by simp [lz]
  | q :: Q,l,h,i,hi=>by
    have hq:=h q Vy
    rw [lz,TQ]
    show (lz (l.set q.toNat true) Q).getD i false=_
    rw [Gi Q _ (fun p hp=>by rw [SK];exact h p (VZ _ hp)) i (by simpa using hi),fa O]
    by_cases e:i=q.toNat
    · rw [XX e,XJ (show (i:Int) ∈ q :: Q from by rw [Vz];left;omega)];simp
    · rw [Xy e];congr 1
      rw [decide_eq_decide,Vz]
      exact ⟨.inr,fun z=>z.elim (fun z=>absurd O e) id⟩
end
theorem Gb {acc:List Bool} {N:List (List Int)} (hal:acc.length=N.length):∀ q ∈ ip acc N,0<=q/\q < (N.length:Int):=by
  suffices h:∀ (f i:Nat) (Q:List Int),(∀ q ∈ Q,0<=q/\q < (N.length:Int))->∀ q ∈ ku (em N) f i Q,0<=q/\q < (N.length:Int) by
    exact h _ _ _ fun q hq=>by obtain ⟨s,h1,_,h3⟩:=xy.1 hq;omega
  intro f
  induction f with
  | zero=>intro i Q h;exact h
  | succ f ih =>
    intro i Q h
    unfold ku;split
    · refine ih _ _ ?_
      have:∀ (P Q:List Int),(∀ p ∈ P,0<=p/\p < (N.length:Int))->(∀ q ∈ Q,0<=q/\q < (N.length:Int))->∀ q ∈ P.foldl jE Q,0<=q/\q < (N.length:Int):=by
        intro P
        induction P with
        | nil=>intro Q _ h;exact h
        | cons p P ih =>
          intro Q hP hQ
          rw [TQ]
          refine ih _ (fun x hx=>hP x (VZ _ hx)) ?_
          unfold jE;split
          · exact hQ
          · exact so hQ (hP p Vy)
      refine this _ _ (fun p hp=>?_) h
      obtain ⟨_,s,h2,h3,_⟩:=Gj.1 hp
      omega
    · exact h
theorem O9 {acc:List Bool} {N:List (List Int)} (hal:acc.length=N.length):lz (List.replicate acc.length false) (ip acc N)=jD acc N:=by
  apply List.ext_getElem
  · rw [ph];simp [jD]
  · intro i h1 h2
    rw [ph,Rk] at h1
    have:=Gi (ip acc N) (List.replicate acc.length false) (fun q hq=>by have:=Gb hal q hq;simp;omega) i (by simpa using h1)
    rw [gd (by rw [ph];simpa using h1)] at this
    rw [this]
    simp [jD,h1]
theorem O7 {acc:List Bool} {N:List (List Int)}:(jD acc N).length=acc.length:=by simp [jD]
theorem Pb {l:List Bool} {Q:List Int} {k:Nat} (hk:k < Q.length):(lz l (Q.take k)).set (Q.getD k 0).toNat true=lz l (Q.take (k + 1)):=by
  rw [<- gz (z:=(0:Int)) hk,JO]
theorem yd {k:Nat} {step:Int->Nat->Option Int} {D:Int->Prop} (hDs:∀ q c t,D q->c < k->step q c=some t->D t) {q:Int} (hq:D q):∀ (l:List Nat) (r:List Int × List Int),(∀ c ∈ l,c < k)->r.2.Nodup->(∀ q ∈ r.2,D q)->(l.foldl (iA step q) r).2.Nodup/\∀ q' ∈ (l.foldl (iA step q) r).2,D q'
  | [],r,_,h1,h2=>⟨h1,h2⟩
  | c :: l,r,hl,h1,h2=>by
    rw [TQ]
    refine yd hDs hq l _ (fun c hc=>hl c (VZ _ hc)) ?_ ?_
    · unfold iA;split
      · exact h1
      · split
        · exact h1
        · exact ry h1 ‹_›
    · unfold iA;split
      · exact h2
      · split
        · exact h2
        · exact so h2 (hDs q c _ hq (hl c Vy) ‹_›)
theorem vp {k:Nat} {step:Int->Nat->Option Int} {D:Int->Prop} (hDs:∀ q c t,D q->c < k->step q c=some t->D t):∀ (f i:Nat) (Q:List Int) (R:List (List Int)),Q.Nodup->(∀ q ∈ Q,D q)->(gV k step f i Q R).1.Nodup/\∀ q ∈ (gV k step f i Q R).1,D q
  | 0,_,_,_,h1,h2=>⟨h1,h2⟩
  | f + 1,i,Q,R,h1,h2=>by
    unfold gV;split
    · rename_i hi
      obtain ⟨g1,g2⟩:=yd hDs (h2 _ (bj (d:=(0:Int)) hi)) (List.range k) ([],Q) (fun c hc=>VV.1 hc) h1 h2
      exact vp hDs f _ _ _ g1 g2
    · exact ⟨h1,h2⟩
theorem wn {N:Nat} {Q:List Int} (hn:Q.Nodup) (hQ:∀ q ∈ Q,0<=q/\q < (N:Int)):Q.length<=N:=by
  have:=su (l:=Q.map Int.toNat) (n:=N) ?_ ?_
  · simpa using this
  · rw [List.nodup_iff_pairwise_ne,Qz]
    exact List.Pairwise.imp_of_mem (fun {a c} ha hc hac e=>hac (by have:=hQ a ha;have:=hQ c hc;omega)) hn
  · intro x hx
    obtain ⟨a,ha,rfl⟩:=Vj.1 hx
    have:=hQ a ha;omega
theorem VE {k:Nat} {acc:List Bool} {N:List (List Int)} {lv:List Bool} {cls:List Int} (hok:Jf k acc N) (hcl:cls.length=N.length) (q:Int) (c:Nat) (t:Int) (hq:q ∈ cls) (hc:c < k) (h:kx lv N cls q c=some t):t ∈ cls:=by
  have hm:=Dr hq
  have hv:=hok.val (kw cls q) c O hc
  unfold kx at h;split at h
  · rename_i hl
    cases h
    have:0<=ju N (kw cls q) c:=by
      rw [mh] at hl
      simp only [XQ,Xw] at hl;exact hl.1
    exact bj O
  · cases h
theorem Sl {k:Nat} {acc:List Bool} {N:List (List Int)} (hok:Jf k acc N) (hN:0 < N.length):(Jr k acc N).1.length<=N.length:=by
  have hc:=Ly (lv:=jD acc N) (N:=N) (acc:=acc)
  obtain ⟨g1,g2⟩:=vp (D:=fun q=>q ∈ CA acc (jD acc N) N) (fun q c t=>VE (lv:=jD acc N) hok hc.1 q c t) (N.length + 1) 0 [(CA acc (jD acc N) N).getD 0 0] [] (by simp) (fun q hq=>by
    rw [Vk] at hq;subst hq;exact bj (by rw [hc.1];exact hN))
  exact wn g1 fun q hq=>hc.2 q (g2 q hq)
theorem wV {k:Nat} {acc:List Bool} {N:List (List Int)} (h:(jD acc N).getD 0 false=false):Cy k acc N=([],[]):=by rw [Cy,h];rfl
theorem EU {k:Nat} {acc:List Bool} {N:List (List Int)} (h:(jD acc N).getD 0 false=true):Cy k acc N=((Jr k acc N).1.map fun c=>acc.getD (kw (CA acc (jD acc N) N) c) false,(Jr k acc N).2):=by rw [Cy,XX h]
theorem An {l:List Bool} (h:l.length=0):l.getD 0 false=false:=by rw [Vv.1 h];rfl
theorem Yu {N:List (List Int)} {n:Nat} (hn:n<=100000) (lv:List Bool) (cls:List Int) (h1:cls.length=n) (h2:∀ c ∈ cls,0<=c/\c < (n:Int)) (h3:EI lv n cls) (i j:Nat) (hi:i < n) (hj:j < n) (h:qQ lv N cls i=qQ lv N cls j):cls.getD i 0=cls.getD j 0 :=
  Uy h1 h2 hn h3 i j hi hj h
theorem NR {acc:List Bool} {n:Nat} (lv:List Bool) (hl:∀ i,i < n->lv.getD i false=false->acc.getD i false=false):EI lv n (cw ((List.range n).map (stF acc lv))).1 :=
  zX (stF acc lv) (false,false) fun i j hi hj h1 h2=>by simp only [stF];rw [h1,h2,hl i hi h1,hl j hj h2]
theorem NS {N:List (List Int)} {n:Nat} (lv:List Bool) (cls:List Int):EI lv n (cw ((List.range n).map (qQ lv N cls))).1 :=
  zX (qQ lv N cls) [] fun i j hi hj h1 h2=>by rw [pg h1,pg h2]
theorem UK {acc:List Bool} {N:List (List Int)} (i:Nat) (hi:i < acc.length) (h:(jD acc N).getD i false=false):acc.getD i false=false:=by
  cases q:acc.getD i false with
  | false=>rfl
  | true =>
    have h1:(i:Int) ∈ ip acc N:=(qh (B:=em N) (N.length + 1) 0 (sO acc acc.length)).subset (xy.2 ⟨i,hi,q,rfl⟩)
    simp [jD,hi,h1] at h
set_option maxRecDepth 100000
set_option maxHeartbeats 4000000
theorem Ll:ef prog 222=some false:=by kernel_rfl
theorem CQ:eO prog 213 0=some (3,0):=by kernel_rfl
theorem Vl:dQ prog 62=some [(0,1),(1,1),(2,1),(3,1)]:=by kernel_rfl
theorem sz222:dY prog 222=some 1:=by kernel_rfl
theorem u218:type_of% @underlying218:=@underlying218
theorem u62:type_of% @underlying62:=@underlying62
theorem z222:c5 prog 222=some (.map none):=by kernel_rfl
theorem z59:c5 prog 59=some (.slice none 0 0):=by kernel_rfl
theorem Ri:c5 prog 62=some (.agg #[.int .i64 0,.int .i64 0,.slice none 0 0,.slice none 0 0]):=by kernel_rfl
theorem MY (u:Value) (o:W8) (m:Int) (A0 A:AH) (h:A0.le A) (D:A0.wf) (hu:Fresh A0 A u 1 (ao o)) (ho:o.length<=100000000000) (hm:0<=m/\m<=1000000):bH prog 184 #[u,num m,num ((36:Nat):Int)] A (fun v A1=>A0.le A1/\A1.wf/\Fresh A0 A1 v 1 (ao (o ++ jf m.toNat))):=by
 obtain ⟨n,rfl⟩:∃ n:Nat,m=n:=⟨m.toNat,by omega⟩;exact s_AppI u o n A0 A h D hu ho O
theorem s_can1 (i:Nat) (bl bm kl km:Nat) (wl wm:Bool) (lv:Value) (live:List Bool) (b:Nat) (rwb:Bool) (capb k:Nat) (av nv fv bv:Value) (acc:List Bool) (N:List (List Int)) (rows:List Value) (A:AH) (gl:A.get bl=some (.row wl [lv] kl)) (gm:A.get bm=some (.row wm [.pointer (some ⟨b,0,none⟩)] km)) (hlv:bJ A 1 lv (cy live)) (hll:live.length=N.length) (hok:Jf k acc N) (hb:A.get b=some (.row rwb [num (k:Int),av,nv,fv,bv] capb)) (hav:bJ A 1 av (cy acc)) (hnv:bJ A 1 nv (fh rows)) (hrl:rows.length=N.length) (hF:∀ i,i < N.length->bJ A 1 (rows.getD i undef) (dy (N.getD i []))) (hi:i < N.length):bH prog 182 #[num ((i:Nat):Int),.pointer (some ⟨bl,0,none⟩),.pointer (some ⟨bm,0,none⟩)] A (fun v A1=>v=jS (stF acc live i)/\A.le A1/\A1.wf):=by
 refine bi (e:=[(0,num ((i:Nat):Int)),(1,.pointer (some ⟨bl,0,none⟩)),(2,.pointer (some ⟨bm,0,none⟩))]) (args:=[num ((i:Nat):Int),.pointer (some ⟨bl,0,none⟩),.pointer (some ⟨bm,0,none⟩)]) call182 func182 Z results182 ntmps182 Z Z Z (fun wf=>?_);have X:=AH.le.refl A;obtain ⟨⟨aA,aB⟩,hal,hnl,hrow,hval⟩:=hok;refine ak.sq fun h2=>.region<|.m (fun a7=>bZ wf z218 rfl fun A5 b4 V=>?_);have h:=X.trans V.le;refine a7<|.nil<|h2<|.sq fun h9=>.drawn [0,1,2,3,4,5,6,7,8,9,10,11,12] mixed Y Y Z<|.p Z (ah jr Z Z (h.g gl) Z)<|.p Z (aN Z) ?_;obtain ⟨ap,ay,ag,aG,ac,aE,aC,a3,a8,a5,aa,a0⟩:=bJ.at (i:=i) (hlv.le h) Of O;refine bn.p Z (au nA nR Z a3 Z a8)<|.p Z (ah wQ Z Z a5 ((dt a0).trans (fg O)))<|.p Z (ah o4 Z Z (h.g gm) Z)<|.p Z (du Z)<|.p Z (ae kq jt U Z)<|.p Z (ah jr Z Z (h.g hb) Z)<|.p Z (aN Z) ?_;obtain ⟨ar,az,ai,aI,ad,aF,aD,a4,a9,a6,ab,a1⟩:=bJ.at (i:=i) (hav.le h) Of O;refine bn.p Z (au nA nR Z a4 Z a9)<|.p Z (ah wQ Z Z a6 ((dt a1).trans (fg O)))<|.p Z (cx Z (pO u218 z218 nR Z))<|.m Z (fun a2=>aW (cs:=[.bool (live.getD i false),.bool (acc.getD i false)]) (c':=[.bool (live.getD i false),.bool (acc.getD i false)]) V.wf rfl rfl rfl rfl IW V.get G rfl rfl fun A18 D=>?_);refine a2 (aU.none Y)<|.done<|h9<|.rt (by exact aH (df R0 IW Z D.get Z d5) (⟨Z,(al h wf (aX wf (Xj X.n V.lo)) D.n D.keep),D.wf⟩))
theorem s_can2 (i:Nat) (cls:List Int) (cv:Value) (bl bm kl km:Nat) (wl wm:Bool) (lv:Value) (live:List Bool) (b:Nat) (rwb:Bool) (capb k:Nat) (av nv fv bv:Value) (acc:List Bool) (N:List (List Int)) (rows:List Value) (A:AH) (gl:A.get bl=some (.row wl [lv] kl)) (gm:A.get bm=some (.row wm [.pointer (some ⟨b,0,none⟩)] km)) (hlv:bJ A 1 lv (cy live)) (hll:live.length=N.length) (hok:Jf k acc N) (hb:A.get b=some (.row rwb [num (k:Int),av,nv,fv,bv] capb)) (hav:bJ A 1 av (cy acc)) (hnv:bJ A 1 nv (fh rows)) (hrl:rows.length=N.length) (hF:∀ i,i < N.length->bJ A 1 (rows.getD i undef) (dy (N.getD i []))) (hi:i < N.length) (hcv:bJ A 1 cv (dy cls)) (hcl:cls.length=N.length) (hcr:∀ c ∈ cls,0<=c/\c < (N.length:Int))  : bH prog 183 #[cv,num ((i:Nat):Int),.pointer (some ⟨bl,0,none⟩),.pointer (some ⟨bm,0,none⟩)] A (fun v A1=>v=ax (qQ live N cls i)/\A.le A1/\A1.wf):=by
 refine bi (e:=[(0,cv),(1,num ((i:Nat):Int)),(2,.pointer (some ⟨bl,0,none⟩)),(3,.pointer (some ⟨bm,0,none⟩))]) (args:=[cv,num ((i:Nat):Int),.pointer (some ⟨bl,0,none⟩),.pointer (some ⟨bm,0,none⟩)]) call183 func183 Z results183 ntmps183 Z Z Z (fun wf=>?_);have a3:=AH.le.refl A;obtain ⟨⟨dd,di⟩,hal,hnl,hrow,hval⟩:=hok;have hri:=hrow i hi;have hci:=hcr _ (bj (d:=(0:Int)) (show i < cls.length by omega));refine ak.sq fun h2=>.region<|.I Z<|.nil<|h2<|.sq fun h4=>.sq fun h6=>.region<|.p (ah jr Z Z (a3.g gl) Z)<|.J Z ?_;obtain ⟨b7,f7,dV,r7,dS,n7,k7,e7,l7,g7,cX,aS⟩:=bJ.at (i:=i) (hlv.le a3) Of O;refine Ops.p (au nA nR Z e7 Z l7)<|.p (ah wQ Z Z g7 ((dt aS).trans (fg O)))<|.p (eD Z)<|.nil<|h6<|.ifB Z (fun p8=>?_) (fun p8=>?_)
 ·refine ak.sq fun b8=>.region<|.I Z<|.nil<|b8<|.rt (by exact aH Z (⟨by (rw [pg (by simpa using ‹(!live.getD i false)=true›)];rfl),a3,wf⟩))
 refine ak.skip<|h4<|.sq fun b9=>.region<|.J Z<|.J Z ?_;obtain ⟨cH,cZ,cu,dJ,cb,dw,dj,aT,bA,b1,bV,ar⟩:=bJ.at (i:=i) (hcv.le a3) Oa O;refine Ops.p (au fk dH Z aT Z bA)<|.p (ah fA Z Z b1 ((dt ar).trans (dT O))) ?_;have ab:=cz (bs:=[blk (.slice none 0 0)]) a3 (uD (Fresh.nil A A 1).lo qX);refine Ops.m (fun aE=>aq Z (MY (.slice none 0 0) ([]) (cls.getD i 0) (A.hide [blk (.slice none 0 0)]) A (c6 A [blk (.slice none 0 0)]) (cI wf) ((Fresh.nil A A 1).hide (by simp)) Oy (by (try have:=hcm (by have:=hva O;omega));omega)) ?_);rintro bR A17 ⟨ag,bT,a7⟩;have aC:=a7.base ab;have V:=ab.trans ag;refine aE<|.I Z<|.nil<|b9<|.sq fun ba=>.sq fun bb=>.region<|.p (ah o4 Z Z (V.g gm) Z)<|.p (du Z)<|.p (ae sh jM U Z) ?_;refine Ops.p (ah ln Z Z (V.g hb) Z)<|.J Z ?_;obtain ⟨cK,d0,cA,dK,cc,dz,dk,aV,bB,b2,bY,ay⟩:=bJ.at (i:=i) (hnv.le V) Ok O;refine Ops.p (au qq gU Z aV Z bB)<|.p (ah nI Z Z b2 ((dt ay).trans (fP O)))<|.p (bE (n:=((N.getD i [])).length) fk Z ((hF i O).le V) O (fy _))<|.J Z<|.nil<|bb<|.block<|.loop (X:=Nat × W8 × Value) (fun ⟨j,o,kv⟩=>[(0,cv),(2,.pointer (some ⟨bl,0,none⟩)),(7,kv),(26,rows.getD i undef),(27,num ((((N.getD i [])).length:Nat):Int)),(28,num ((j:Nat):Int))]) (fun ⟨j,o,kv⟩ B=>(j<=k/\o=uF live N cls i j)/\A.le B/\Fresh A B kv 1 (ao o)) (fun ⟨j,o,kv⟩=>k - j) (⟨0,([]) ++ jf (cls.getD i 0).toNat,bR⟩) (ya Z Z Z Z Z Z) (⟨⟨XK _,by simp [uF]⟩,V,aC⟩) ?_;rintro ⟨j,o,kv⟩ B28 ⟨⟨hj,ho⟩,a5,a0⟩;refine ak.wf fun ad=>?_;have hlo:o.length<=13 + 14 * j:=by rw [ho];exact Uz
 have hva:=fun q:j < k=>hval i j hi q;simp only [ju] at hva;have hcm:=fun q:((N.getD i []).getD j 0).toNat < cls.length=>hcr _ (bj (d:=(0:Int)) q);refine ak.sq fun bc=>.region<|.p (ca Z Z)<|.nil<|bc<|.sq fun bd=>.if rfl (fun bM=>?_) (fun bM=>?_)
 ·refine ak.skip<|bd<|.sq fun aa=>.block<|.sq fun bp=>.region ?_;obtain ⟨cP,d1,cB,dL,cf,dD,dl,aY,bC,b3,c3,az⟩:=bJ.at (i:=j) ((hF i O).le a5) Oa O;refine Ops.p (au fk dH Z aY Z bC)<|.p (ah fA Z Z b3 ((dt az).trans (dT O)))<|.I Z<|.nil<|bp<|.sq fun br=>.region<|.J Z<|.m (fun aF=>bf (c:=[ed (32)]) ad rfl (aw c0 j0 z5 rfl U U rfl) fun A44 cS a6=>?_);have a9:=a0.le a6.le;refine aF<|.m (fun aG=>ct (ys:=[ed (32)]) rfl rfl c0 j0 tD z5 rfl U c0 (fun _ h=>by cases h) a9.own (bN (n:=1) a6.get Z) rfl rfl (by show (_ + _) * 1<=_;simp only [aK,Xq,Xz];(try simp only [Xx,Xq,Xz]);omega) Ob fun A50 a1 a4=>?_);rw [show ([ed (32)]:List Value)=ao [32] from rfl,eu] at a4;obtain ⟨a2,D⟩:=Fresh.grow a9 (a5.trans a6.le) wf a4;refine aG<|.I Z<|.nil<|br<|.sq fun ap=>.region<|.J Z<|.p (ml Z Z)<|.J Z<|.part (t:=37) Z (fun bO=>?_) (fun bO=>?_)
  ·refine Ops.on Z Z<|.p (ah jr Z Z (D.g gl) Z)<|.on Z Z<|.J Z<|.on Z Z ?_;obtain ⟨cU,d2,cC,dM,ch,dG,dm,aZ,bD,b5,c4,aA⟩:=bJ.at (i:=(((N.getD i [])).getD j 0).toNat) (hlv.le D) (by simp only [bQ];have:=hva O;omega) O;refine Ops.p (au nA nR Z aZ (jz (by have:=hva O;omega)) bD)<|.on Z Z<|.p (ah wQ Z Z b5 ((dt aA).trans (fg (by have:=hva O;omega))))<|.p (aL Z Z)<|.nil<|ap<|.ifB Z (fun bP=>?_) (fun bP=>?_)
   ·refine ak.region<|.J Z<|.J Z<|.J Z ?_;obtain ⟨cV,d3,cF,dO,ck,dI,dv,b0,bL,b6,c7,aB⟩:=bJ.at (i:=(((N.getD i [])).getD j 0).toNat) (hcv.le D) (by simp only [aJ];have:=hva O;omega) O;refine Ops.p (au fk dH Z b0 (jz (by have:=hva O;omega)) bL)<|.p (ah fA Z Z b6 ((dt aB).trans (dT (by have:=hva O;omega)))) ?_;have ac:=cz (bs:=[blk a1]) D (uD a2.lo qX);refine Ops.m (fun aI=>aq Z (MY a1 (o ++ [32]) (cls.getD ((((N.getD i [])).getD j 0).toNat) 0) (A50.hide [blk a1]) A50 (c6 A50 [blk a1]) (cI a4.wf) (a2.hide (by simp)) Oy (by (try have:=hcm (by have:=hva O;omega));omega)) ?_);rintro bS A65 ⟨ai,bU,a8⟩;have aD:=a8.base ac;have aR:=ac.trans ai;refine aI<|.I Z<|.nil<|aa<|.region<|.p (bF (b:=1) Z Z O)<|.J Z<|.nil ?_;exact ⟨⟨j + 1,(o ++ [32]) ++ jf (cls.getD ((((N.getD i [])).getD j 0).toNat) 0).toNat,bS⟩,ya Z Z Z Z Z Z,Z,⟨⟨by omega,by exact UA ho O (by rw [qg ‹_›];assumption)⟩,aR,aD⟩,O1⟩
   refine ak.skip<|aa<|.region<|.p (bF (b:=1) Z Z O)<|.J Z<|.nil ?_;exact ⟨⟨j + 1,o ++ [32],a1⟩,ya Z Z Z Z Z Z,Z,⟨⟨by omega,by exact Mg ho O (by rw [qg ‹_›];assumption)⟩,D,a2⟩,O1⟩
  refine Ops.off Z Z Z Z<|.off Z Z Z Z<|.off Z Z Z Z<|.off Z Z Z Z<|.p (bh Z Z)<|.nil<|ap<|.cond_false Z<|.skip<|aa ?_;refine ak.region<|.p (bF (b:=1) Z Z O)<|.J Z<|.nil ?_;exact ⟨⟨j + 1,o ++ [32],a1⟩,ya Z Z Z Z Z Z,Z,⟨⟨by omega,by exact Mg ho O (yp ‹_›)⟩,D,a2⟩,O1⟩
 refine ak.exit<|ba<|.sq fun bu=>.region<|.J Z<|.m (fun aP=>eK (s:=o) Z c0 u9 u5 a0.slc ?_);refine aP<|.I Z<|.nil<|bu<|.rt (by exact aH Z (⟨by (rw [O4 (by simpa using ‹(!live.getD i false)=false›) (show (N.getD i []).length=j by omega),<- ho];rfl),a5,ad⟩))
theorem s_can3 (c:Int) (x:Nat) (bp bc kc:Nat) (wc:Bool) (cv:Value) (cls:List Int) (bl bm kl km:Nat) (wl wm:Bool) (lv:Value) (live:List Bool) (b:Nat) (rwb:Bool) (capb k:Nat) (av nv fv bv:Value) (acc:List Bool) (N:List (List Int)) (rows:List Value) (A:AH) (gl:A.get bl=some (.row wl [lv] kl)) (gm:A.get bm=some (.row wm [.pointer (some ⟨b,0,none⟩)] km)) (hlv:bJ A 1 lv (cy live)) (hll:live.length=N.length) (hok:Jf k acc N) (hb:A.get b=some (.row rwb [num (k:Int),av,nv,fv,bv] capb)) (hav:bJ A 1 av (cy acc)) (hnv:bJ A 1 nv (fh rows)) (hrl:rows.length=N.length) (hF:∀ i,i < N.length->bJ A 1 (rows.getD i undef) (dy (N.getD i [])))(hmp:vg A bp cls) (gc:A.get bc=some (.row wc [cv] kc)) (hcv:bJ A 1 cv (dy cls)) (hcl:cls.length=N.length) (hc:c ∈ cls) (hx:x < k):bH prog 185 #[num (c),num ((x:Nat):Int),.pointer (some ⟨bm,0,none⟩),.pointer (some ⟨bp,0,none⟩),.pointer (some ⟨bl,0,none⟩),.pointer (some ⟨bc,0,none⟩)] A (fun v A1=>v=.tuple #[num ((kx live N cls c x).getD 0),.bool (kx live N cls c x).isSome]/\A.le A1/\A1.wf):=by
 refine bi (e:=[(0,num (c)),(1,num ((x:Nat):Int)),(2,.pointer (some ⟨bm,0,none⟩)),(3,.pointer (some ⟨bp,0,none⟩)),(4,.pointer (some ⟨bl,0,none⟩)),(5,.pointer (some ⟨bc,0,none⟩))]) (args:=[num (c),num ((x:Nat):Int),.pointer (some ⟨bm,0,none⟩),.pointer (some ⟨bp,0,none⟩),.pointer (some ⟨bl,0,none⟩),.pointer (some ⟨bc,0,none⟩)]) call185 func185 Z results185 ntmps185 Z Z Z (fun wf=>?_);have h:=AH.le.refl A;obtain ⟨⟨b1,b2⟩,hal,hnl,hrow,hval⟩:=hok;obtain ⟨wp,kp,mm,w2,es,ck,E,gp,gmm,hME,hMM⟩:=hmp;have hmf:=Dr hc;have hrm:=hrow (kw cls c) O;have hvm:=hval (kw cls c) x O hx;simp only [ju] at hvm;refine ak.sq fun h2=>.region<|.I Z<|.I Z<|.nil<|h2<|.sq fun h4=>.drawn [0,1,2,3,4,5,9,6,7,8,10,11,12] mixed Y Y Z ?_;have ac:=de (off:=0) (h.g gm) (show _=some (.pointer (some ⟨b,0,none⟩)) from rfl);refine bn.p Z (ah o4 Z Z (h.g gm) Z)<|.p Z (du Z)<|.p Z (ae sh jM U Z) ?_;have ad:=de (off:=2) (h.g hb) (show _=some (nv) from rfl);refine bn.p Z (ah ln Z Z (h.g hb) Z)<|.p Z (ah Ll Z Z (h.g gp) Z)<|.p Z (aN Z)<|.p Z (aN Z)<|.m Z (fun ag=>I9 Z Z KQ u3 z3 (h.g gmm) hME (hMM _ hc) ?_);refine ag (aU.list (L:=[(⟨b,2,none⟩,nv),(⟨bm,0,none⟩,.pointer (some ⟨b,0,none⟩))]) Y (bz ad (bz ac cm))) ?_;obtain ⟨b9,f9,bA,r9,bu,n9,k9,e9,l9,g9,aV,a1⟩:=bJ.at (i:=kw cls c) (hnv.le h) Ok O;refine bn.p Z (au qq gU Z e9 Z l9)<|.p Z (ah nI Z Z g9 ((dt a1).trans (fP O))) ?_;obtain ⟨aR,aY,aG,bb,aD,b7,b3,a2,ai,a5,aA,V⟩:=bJ.at (i:=x) ((hF (kw cls c) O).le h) Oa O;refine bn.p Z (au fk dH Z a2 Z ai)<|.p Z (ah fA Z Z a5 ((dt V).trans (dT O)))<|.p Z (dB Z)<|.done<|h4<|.sq fun a8=>.sq fun D=>.region<|.J Z<|.p (kY Z Z) ?_;refine Ops.J Z<|.part (t:=25) Z (fun ay=>?_) (fun ay=>?_)
 ·refine Ops.off Z Z Z Z<|.off Z Z Z Z<|.off Z Z Z Z<|.off Z Z Z Z<|.off Z Z Z Z<|.p (aL Z Z)<|.nil<|D<|.cond_true Z<|.sq fun a9=>?_;refine ak.region<|.I Z<|.I Z<|.nil<|a9<|.rt (by exact aH Z (⟨by (rw [VF (O6 ‹_›)];rfl),h,wf⟩))
 refine Ops.on Z Z<|.p (ah jr Z Z (h.g gl) Z)<|.on Z Z<|.J Z<|.on Z Z ?_;obtain ⟨aS,aZ,aI,bd,aE,b8,b5,a3,ap,a6,aB,X⟩:=bJ.at (i:=(((N.getD (kw cls c) [])).getD x 0).toNat) (hlv.le h) Of O;refine Ops.p (au nA nR Z a3 (jz O) ap)<|.on Z Z<|.p (ah wQ Z Z a6 ((dt X).trans (fg O)))<|.on Z Z<|.p (eD Z)<|.p (bh Z Z)<|.nil<|D<|.ifB Z (fun az=>?_) (fun az=>?_)
 ·refine ak.sq fun aa=>.region<|.I Z<|.I Z<|.nil<|aa<|.rt (by exact aH Z (⟨by (rw [VF (by rw [qg O];simpa using ‹(!live.getD _ false)=true›)];rfl),h,wf⟩))
 refine ak.skip<|a8<|.sq fun ab=>.region<|.p (ah nI Z Z (h.g gc) Z)<|.J Z ?_;obtain ⟨aT,b0,aP,br,aF,ba,b6,a4,ar,a7,aC,a0⟩:=bJ.at (i:=(((N.getD (kw cls c) [])).getD x 0).toNat) (hcv.le h) Oa O;refine Ops.p (au fk dH Z a4 (jz O) ar)<|.p (ah fA Z Z a7 ((dt a0).trans (dT O)))<|.I Z<|.I Z<|.nil<|ab<|.rt (by exact aH Z (⟨by (rw [ZO (by rw [qg O];simpa using ‹(!live.getD _ false)=false›)];rfl),h,wf⟩))
theorem s_can4 (c:Int) (bp bm km:Nat) (wm:Bool) (cls:List Int) (b:Nat) (rwb:Bool) (capb k:Nat) (av nv fv bv:Value) (acc:List Bool) (N:List (List Int)) (rows:List Value) (A:AH) (gm:A.get bm=some (.row wm [.pointer (some ⟨b,0,none⟩)] km)) (hok:Jf k acc N) (hb:A.get b=some (.row rwb [num (k:Int),av,nv,fv,bv] capb)) (hav:bJ A 1 av (cy acc)) (hnv:bJ A 1 nv (fh rows)) (hrl:rows.length=N.length) (hF:∀ i,i < N.length->bJ A 1 (rows.getD i undef) (dy (N.getD i []))) (hmp:vg A bp cls) (hcl:cls.length=N.length) (hc:c ∈ cls):bH prog 186 #[num (c),.pointer (some ⟨bm,0,none⟩),.pointer (some ⟨bp,0,none⟩)] A (fun v A1=>v=.bool (acc.getD (kw cls c) false)/\A.le A1/\A1.wf):=by
 refine bi (e:=[(0,num (c)),(1,.pointer (some ⟨bm,0,none⟩)),(2,.pointer (some ⟨bp,0,none⟩))]) (args:=[num (c),.pointer (some ⟨bm,0,none⟩),.pointer (some ⟨bp,0,none⟩)]) call186 func186 Z results186 ntmps186 Z Z Z (fun wf=>?_);have h:=AH.le.refl A;obtain ⟨⟨a2,a3⟩,hal,hnl,hrow,hval⟩:=hok;obtain ⟨wp,kp,mm,w2,es,ck,E,gp,gmm,hME,hMM⟩:=hmp;have hmf:=Dr hc;refine ak.sq fun h2=>.region<|.I Z<|.nil<|h2<|.sq fun h4=>.drawn [0,1,2,3,4,5,6,7,8,9] mixed Y Y Z ?_;have V:=de (off:=0) (h.g gm) (show _=some (.pointer (some ⟨b,0,none⟩)) from rfl);refine bn.p Z (ah o4 Z Z (h.g gm) Z)<|.p Z (du Z)<|.p Z (ae kq jt U Z) ?_;have X:=de (off:=1) (h.g hb) (show _=some (av) from rfl);refine bn.p Z (ah jr Z Z (h.g hb) Z)<|.p Z (ah Ll Z Z (h.g gp) Z)<|.p Z (aN Z)<|.m Z (fun a0=>I9 Z Z KQ u3 z3 (h.g gmm) hME (hMM _ hc) ?_);refine a0 (aU.list (L:=[(⟨b,1,none⟩,av),(⟨bm,0,none⟩,.pointer (some ⟨b,0,none⟩))]) Y (bz X (bz V cm))) ?_;obtain ⟨b9,f9,a5,r9,a4,n9,k9,e9,l9,g9,a1,D⟩:=bJ.at (i:=kw cls c) (hav.le h) Of O;refine bn.p Z (au nA nR Z e9 Z l9)<|.p Z (ah wQ Z Z g9 ((dt D).trans (fg O)))<|.p Z (dB Z)<|.done<|h4<|.rt (by exact aH Z (⟨Z,h,wf⟩))
theorem aai (b:Nat) (rwb:Bool) (capb k:Nat) (av nv fv bv:Value) (acc:List Bool) (N:List (List Int)) (rows:List Value) (A:AH) (hok:Jf k acc N) (hN:N.length<=20000) (hb:A.get b=some (.row rwb [num (k:Int),av,nv,fv,bv] capb)) (hav:bJ A 1 av (cy acc)) (hnv:bJ A 1 nv (fh rows)) (hrl:rows.length=N.length) (hF:∀ i,i < N.length->bJ A 1 (rows.getD i undef) (dy (N.getD i []))):bH prog 147 #[.pointer (some ⟨b,0,none⟩)] A (fun v A1=>∃ av2 nv2 rows2,v=.tuple #[.agg #[num (k:Int),num ((0:Nat):Int),av2,nv2],.bool true]/\A.le A1/\A1.wf/\Fresh A A1 av2 1 (cy (Cy k acc N).1)/\Fresh A A1 nv2 1 (fh rows2)/\mq A A1 rows2 (Cy k acc N).2/\bx av2 nv2/\be av2 rows2/\be nv2 rows2):=by
  refine enterM (e:=[(0,.pointer (some ⟨b,0,none⟩))]) (args:=[.pointer (some ⟨b,0,none⟩)]) call147 func147 Z results147 ntmps147 Z Z Z (fun wf=>?_)
  have jn:=AH.le.refl A
  have df_:Defs A A []:=⟨List.Pairwise.nil,fun _ h=>by cases h⟩
  have bT:=hok
  obtain ⟨⟨pL,di⟩,hal,hnl,hrow,hval⟩:=hok
  refine ak.seq fun K1 h2=>.region<|.m (fun o1=>d8 wf rfl rfl fun A5 b4 f8=>?_)
  have oI:=Xj jn.n f8.lo
  have gN:=jn.trans f8.le
  refine o1<|.m (fun o2=>bZ f8.wf Ri rfl fun A10 b9 br=>?_)
  have dl:=aX wf (Xj gN.n br.lo)
  have oJ:=Xj gN.n br.lo
  have g0:=br.le.g f8.get
  have dz:=gN.trans br.le
  refine o2<|.I Z<|.nil<|h2 _ _<|.seq fun K14 nB=>.region<|.p (ah o4 Z Z g0 Z)<|.p (du Z)<|.p (ae CQ dH U Z)<|.p (ah fA Z Z (dz.g hb) Z) ?_
  refine Ops.p (cx Z (bg u62 Ri Vl Z))<|.m (fun m3=>bZ br.wf Ri rfl fun A18 cc bu=>?_)
  have e4:=ne_new br.wf g0 bu.lo
  have e5:=ne_new br.wf br.get bu.lo
  have fR:=aX wf (Xj dz.n bu.lo)
  have oi:=Xj dz.n bu.lo
  have nC:=bu.le.g g0
  have nD:=bu.le.g br.get
  have mB:=dz.trans bu.le
  refine m3<|.m (fun m6=>aW (cs:=[num ((k:Nat):Int),num ((0:Nat):Int),.slice none 0 0,.slice none 0 0]) (c':=[num ((k:Nat):Int),num ((0:Nat):Int),.slice none 0 0,.slice none 0 0]) bu.wf rfl rfl rfl rfl lg bu.get G rfl rfl fun A24 b5=>?_)
  have gG:=b5.k e4 nC
  have iD:=b5.k e5 nD
  have cP:=al mB wf fR b5.n b5.keep
  refine m6<|.nil<|nB _ _<|.seq fun K29 nE=>.region<|.p (ah o4 Z Z gG Z)<|.p (du Z)<|.p (ae kq jt U Z)<|.p (ah jr Z Z (cP.g hb) Z)<|.p (bE (n:=acc.length) nA Z (hav.le cP) O (gx _)) ?_
  refine Ops.m (fun ma=>oO (n:=acc.length) (k:=acc.length) b5.wf cP rfl rfl nA nR z4 Uj rfl (XV _) (by show 1 * _<=_;omega) O fun A33 a2 aD eg=>?_)
  rw [qx] at eg
  have ch:=ne_new b5.wf gG aD.lo
  have cA:=ne_new b5.wf iD aD.lo
  have c3:=ne_new b5.wf b5.get aD.lo
  have oj:=Xj cP.n aD.lo
  have iF:=aD.le.g gG
  have iH:=aD.le.g iD
  have iN:=aD.le.g b5.get
  have eC:=cP.trans aD.le
  refine ma<|.m (fun mb=>bZ aD.wf z59 rfl fun A42 a4 aE=>?_)
  have cu:=ne_new aD.wf iF aE.lo
  have cB:=ne_new aD.wf iH aE.lo
  have c4:=ne_new aD.wf iN aE.lo
  have eG:=eg.own.ne_new aD.wf aE.lo
  have e1:=aX wf (Xj eC.n aE.lo)
  have ok:=Xj eC.n aE.lo
  have nH:=aE.le.g iF
  have nJ:=aE.le.g iH
  have nK:=aE.le.g iN
  have k3:=eg.le aE.le
  have mE:=eC.trans aE.le
  refine mb<|.m (fun me=>aW (cs:=[.slice (some ⟨a2,0,none⟩) acc.length acc.length]) (c':=[.slice (some ⟨a2,0,none⟩) acc.length acc.length]) aE.wf rfl rfl rfl rfl jt aE.get G rfl rfl fun A51 bM=>?_)
  have gL:=bM.k cu nH
  have iR:=bM.k cB nJ
  have iS:=bM.k c4 nK
  have fN:=k3.keep bM.keep eG
  have mK:=al mE wf e1 bM.n bM.keep
  refine me<|.nil<|nE _ _<|.seq fun K58 nL=>.seq fun K60 nM=>.region<|.p (ah o4 Z Z gL Z)<|.m (fun mm=>aq Z (s_live b A51) ?_)
  rintro q2 A64 ⟨bl,rfl,bP,e0,dj,b7⟩
  have nN:=bP.g gL
  have nO:=bP.g iR
  have nQ:=bP.g iS
  have f2:=bP.g bM.get
  have fO:=fN.le bP
  have mM:=mK.trans bP
  have hrow:=dj
  have hno:=b7
  have h8:b4 ≠ bl:=fun z=>by have q0:=gL;rw [z,b7] at q0;cases q0
  have h9:b9 ≠ bl:=fun z=>by have q0:=iR;rw [z,b7] at q0;cases q0
  have gX:cc ≠ bl:=fun z=>by have q0:=iS;rw [z,b7] at q0;cases q0
  have cV:a4 ≠ bl:=fun z=>by have q0:=bM.get;rw [z,b7] at q0;cases q0
  have mV:blk (.slice (some ⟨a2,0,none⟩) acc.length acc.length) ≠ some bl:=xJ fN.own b7
  refine mm<|.nil<|nM _ _<|.block ?_
  have aR:=c8.full f2 e0
  have hLM:=cz (bs:=[some a4,blk (.slice (some ⟨a2,0,none⟩) acc.length acc.length)]) mM (xe e1 (uD fO.lo qX))
  have iv:Fresh (A64.hide [some a4,blk (.slice (some ⟨a2,0,none⟩) acc.length acc.length)]) A64 (.slice (some ⟨a2,0,none⟩) acc.length acc.length) 1 (cy (List.replicate acc.length false)):=fO.hide (by simp)
  have dm:=bX (bs:=[some a4,blk (.slice (some ⟨a2,0,none⟩) acc.length acc.length)]) nN (qY (cu) (pk (fun q=>by cases q;exact ch Z) mN))
  have dv:=bX (bs:=[some a4,blk (.slice (some ⟨a2,0,none⟩) acc.length acc.length)]) nO (qY (cB) (pk (fun q=>by cases q;exact cA Z) mN))
  have cK:=bX (bs:=[some a4,blk (.slice (some ⟨a2,0,none⟩) acc.length acc.length)]) nQ (qY (c4) (pk (fun q=>by cases q;exact c3 Z) mN))
  have bp:=bX (bs:=[some a4,blk (.slice (some ⟨a2,0,none⟩) acc.length acc.length)]) dj (qY (cV.symm) (pk mV mN))
  generalize hM0:(A64.hide [some a4,blk (.slice (some ⟨a2,0,none⟩) acc.length acc.length)])=M at aR hLM iv dm dv cK bp
  have hvI:∀ (k:Nat) (B:AH),(M.le B/\B.get a4=some (.row true [.slice (some ⟨a2,0,none⟩) acc.length acc.length] 1)/\Fresh M B (.slice (some ⟨a2,0,none⟩) acc.length acc.length) 1 (cy (lz (List.replicate acc.length false) ((ip acc N).take k))))->∃ v cap,B.get a4=some (.row true [v] cap)/\∀ b,blk v=some b->∃ o,B.get b=some o:=fun k B ⟨_,g1,f1⟩=>⟨_,1,g1,fun b hb=>f1.own.blkget hb⟩
  refine ak.rangeOwnP (M:=M) a4 (ip acc N).length (fun k=>[num ((ip acc N).getD k 0)]) (fun k B=>(M.le B/\B.get a4=some (.row true [.slice (some ⟨a2,0,none⟩) acc.length acc.length] 1)/\Fresh M B (.slice (some ⟨a2,0,none⟩) acc.length acc.length) 1 (cy (lz (List.replicate acc.length false) ((ip acc N).take k))))) (fun k=>[(6,num ((ip acc N).getD k 0)),(0,.pointer (some ⟨b,0,none⟩)),(1,.pointer (some ⟨b4,0,none⟩)),(2,.pointer (some ⟨b9,0,none⟩)),(15,.pointer (some ⟨b,0,none⟩)),(16,.pointer (some ⟨b,0,none⟩)),(17,.pointer (some ⟨b,0,none⟩)),(4,.pointer (some ⟨cc,0,none⟩)),(20,.pointer (some ⟨b,0,none⟩)),(21,.pointer (some ⟨b,0,none⟩)),(22,.pointer (some ⟨b,1,none⟩)),(5,.pointer (some ⟨a4,0,none⟩)),(26,.pointer (some ⟨b,0,none⟩))]) Z call199 (fun _=>rfl) U (e0 _ _ f2) aR ?_ hvI ?_ ?_ ?_ ?_ ?_
  · rintro k B B2 ⟨i1,g1,f1⟩ dk o3 hk
    exact ⟨⟨Xj i1.n o3,fun b o h=>hk b o (.inl (Rv (aR.wf b o h) aR.le.n)) (i1.get _ _ h)⟩,hk _ _ (.inr (.inl rfl)) g1,f1.owk (fun b o hb h=>hk b o (.inr (.inr ⟨_,1,g1,hb⟩)) h)⟩
  · exact ⟨aR.le,f2,by rw [List.take_zero];exact iv⟩
  · intro ov J2 B M4 hnB hleB wfB e2 hJI m1 en hyd
    obtain ⟨_,gq,fq⟩:=hJI 0 B en
    have s3:M.le (B.hide [some a4,blk (.slice (some ⟨a2,0,none⟩) acc.length acc.length)]):=cz (hJI 0 B en).1 (fun b hb=>by simp only [Vz,Ty,or_false,Option.some.injEq] at hb;rcases hb with rfl | hb;exact aR.ow _ (.inl Z);exact fq.lo b hb.symm)
    exact (aam a4 ov J2 b rwb capb k av nv fv bv acc N rows _ B bl _ _ (c8.full gq wfB) en (s3.get _ _ bp) bT (s3.get _ _ (hLM.get _ _ hb)) ((hav.le hLM).le s3) ((hnv.le hLM).le s3) hrl (fun i hi=>((hF i hi).le hLM).le s3) (fun i C C2 j1 j2 j3 j4=>m1 i C C2 j1 j2 j3 j4) (fun i C j1=>hvI i C (hJI i C j1)) (fun k C M2=>hyd k C M2)).mono (fun v C h=>⟨h.1,h.2.1,h.2.2.mono (e2.sub gq) e2.wf⟩)
  · intro F k B hF_ hk_
    refine fw.wf fun wfB_=>?_
    have hF:=hF_
    refine fw.region hF (by repeat' first | with_reducible exact kU | with_reducible apply m9 | with_reducible apply kS) Y<|.I Z<|.nil ?_
    exact ⟨aj.cons Z<|aj.cons Z<|aj.cons Z<|aj.cons Z<|aj.cons Z<|aj.cons Z<|aj.cons Z<|aj.cons Z<|aj.cons Z<|aj.cons Z<|aj.cons Z<|aj.cons Z<|aj.cons Z<|aj.nil _,Z,AH.le.refl _,wfB_⟩
  · rintro F k B M4 hF hk_ ⟨i1,g1,f1⟩ wfB hnB e2
    have s3:M.le (B.hide [some a4,blk (.slice (some ⟨a2,0,none⟩) acc.length acc.length)]):=cz i1 (fun b hb=>by simp only [Vz,Ty,or_false,Option.some.injEq] at hb;rcases hb with rfl | hb;exact aR.ow _ (.inl Z);exact f1.lo b hb.symm)
    have s4:=e2.sub g1
    have leX:=c6 B [some a4,blk (.slice (some ⟨a2,0,none⟩) acc.length acc.length)]
    have wfX:(B.hide [some a4,blk (.slice (some ⟨a2,0,none⟩) acc.length acc.length)]).wf:=cI wfB
    have noX:(B.hide [some a4,blk (.slice (some ⟨a2,0,none⟩) acc.length acc.length)]).get a4=none:=cQ (by simp)
    have fX:Fresh (B.hide [some a4,blk (.slice (some ⟨a2,0,none⟩) acc.length acc.length)]) B (.slice (some ⟨a2,0,none⟩) acc.length acc.length) 1 (cy (lz (List.replicate acc.length false) ((ip acc N).take k))):=f1.hide (by simp)
    have hlr:=Gb hal _ (bj (d:=(0:Int)) hk_)
    have hml:(lz (List.replicate acc.length false) ((ip acc N).take k)).length=acc.length:=by rw [ph];simp
    generalize hMX:B.hide [some a4,blk (.slice (some ⟨a2,0,none⟩) acc.length acc.length)]=MX at s3 s4 leX wfX noX fX
    refine fw.block<|.region hF (by repeat' first | with_reducible exact kU | with_reducible apply m9 | with_reducible apply kS) Y<|.p (ah jr Z Z g1 Z)<|.J Z ?_
    obtain ⟨pE,pS,pI,oA,pl,it,iX,nq,q3,ox,q1,oa⟩:=fX.at1 (x:=((ip acc N).getD k 0).toNat) Of
    rw [bQ] at iX
    refine Ops.p (au nA nR Z it (jz O) (by rw [iX];omega))<|.m (fun mt=>aW (off:=((ip acc N).getD k 0).toNat) (c':=oA.set (((ip acc N).getD k 0).toNat) (.bool (true))) wfB rfl (by simp) rfl rfl nR nq (by show (((ip acc N).getD k 0).toNat) + 1<=_;omega) rfl rfl fun A75 cX=>?_)
    have iT:=cX.k (fun q=>eG (by rw [it];exact Xk some q.symm)) g1
    have fQ:=oa (.bool (true)) A75 cX
    rw [mI] at fQ
    have gP:=al leX wfX ox cX.n cX.keep
    refine mt<|.nil ?_
    have fe:=ce fQ (Xk cy (Pb hk_))
    exact ⟨⟨s3.trans gP,iT,fe.base s3⟩,cX.wf,c8.mono ⟨gP,wfX,fun b hb=>by rcases hb.val iT with rfl | q;exact noX;exact fe.lo b q⟩ s4 e2.wf⟩
  · rintro B D0 ⟨i1,g1,f1⟩ wfB hnD hnB gD hoD hPM
    have leB:=hLM.trans i1
    obtain ⟨LV,hLV⟩:∃ LV,LV=jD acc N:=⟨_,rfl⟩
    have frB:=ce (f1.base hLM) (Xk cy (show lz (List.replicate acc.length false) ((ip acc N).take (ip acc N).length)=LV by rw [Rj,hLV];exact O9 hal))
    have hlfl:LV.length=acc.length:=by rw [hLV];exact O7
    have bV:=i1.get _ _ dm
    have cF:=i1.get _ _ dv
    have bU:=i1.get _ _ cK
    have ey:=i1.get _ _ bp
    have hlA:A.n<=D0:=Xj hLM.n (Xj aR.le.n hnD)
    have mT:D0 ≠ b4:=by have:=aR.wf _ _ dm;have:=aR.le.n;omega
    have aF:D0 ≠ b9:=by have:=aR.wf _ _ dv;have:=aR.le.n;omega
    have jN:D0 ≠ cc:=by have:=aR.wf _ _ cK;have:=aR.le.n;omega
    have jX:D0 ≠ a4:=by have:=e0 _ _ f2;omega
    have h7:D0 ≠ bl:=by have:=aR.wf _ _ bp;have:=aR.le.n;omega
    have nvD:blk (.slice (some ⟨a2,0,none⟩) acc.length acc.length) ≠ some D0:=fun q=>hoD (.inr ⟨_,_,g1,q⟩)
    refine nL _ _<|.seq fun K80 nT=>.seq fun K82 iV=>.region<|.p (ah jr Z Z g1 Z)<|.p (bE (n:=LV.length) nA Z frB.slc O (gx _))<|.p (gI (b:=0) Z Z)<|.J Z<|.part (t:=35) Z (fun oy=>?_) (fun oy=>?_)
    ·
      refine Ops.off Z Z Z Z<|.off Z Z Z Z<|.off Z Z Z Z<|.off Z Z Z Z<|.p (aL Z Z)<|.nil<|iV _ _<|.cond_true Z<|.seq fun K85 nU=>.region ?_
      refine Ops.p (am sU lg Z Z bU Z)<|.m (fun mv=>aW (cs:=[num ((k:Nat):Int),num ((0:Nat):Int),.slice none 0 0,.slice none 0 0]) (c':=[num ((k:Nat):Int),num ((0:Nat):Int),.slice none 0 0,.slice none 0 0]) wfB rfl rfl rfl rfl lg cF G rfl rfl fun A88 dZ=>?_)
      have nV:=dZ.k aF gD
      have gQ:=al leB wf dl dZ.n dZ.keep
      refine mv<|.I Z<|.nil<|nU _ _<|.ret ?_
      (repeat first | with_reducible refine cR ?_ | with_reducible refine cr ?_);(repeat first | with_reducible refine gk ?_ | with_reducible refine fj ?_ | with_reducible refine eR U ?_ | with_reducible refine eU ?_ | with_reducible refine d4 ?_);have cf:LV.getD 0 false=false:=(by first | assumption | exact An Ow | simpa using ‹(!LV.getD 0 false)=true›);refine ⟨[D0],rfl,(by simp),(fun E hE=>by rw [Vk] at hE;subst hE;exact nV),[.agg #[num ((k:Nat):Int),num ((0:Nat):Int),.slice none 0 0,.slice none 0 0],.bool (true)],fun A2 dk e3 di=>?_⟩;have hkD:∀ b o,b ≠ D0->A88.get b=some o->A2.get b=some o:=fun b o hb h=>di b o (by simpa using hb) h;exact ⟨df sU lg Z (hkD _ _ aF.symm dZ.get) Z (dA Z d5),⟨_,Z,_,_,[],Z,⟨by rw [e3];exact gQ.n,fun b o h=>hkD b o (by have:=wf _ _ h;omega) (gQ.g h)⟩,dk,ce (Fresh.nil _ _ _) (Xk cy (show []=_ from by rw [wV (by rw [<- hLV];exact cf)])),Fresh.nil _ _ _,oH mq.nil (by rw [wV (by rw [<- hLV];exact cf)]),bx.nil,be.nil,be.nil⟩⟩
    ·
      refine Ops.on Z Z<|.p (ah jr Z Z g1 Z)<|.on Z Z ?_
      obtain ⟨pF,pJ,pu,pV,pp,pU,pP,nn,ob,nu,p5,k0⟩:=bJ.at (i:=0) frB.slc Of O
      refine Ops.p (au nA nR Z nn Z ob)<|.on Z Z<|.p (ah wQ Z Z nu ((dt k0).trans (fg O)))<|.on Z Z<|.p (eD Z)<|.p (bh Z Z)<|.nil<|iV _ _<|.ifB Z (fun oz=>?_) (fun oz=>?_)
      ·
        refine ak.seq fun K99 k6=>.region<|.p (am sU lg Z Z bU Z)<|.m (fun hv=>aW (cs:=[num ((k:Nat):Int),num ((0:Nat):Int),.slice none 0 0,.slice none 0 0]) (c':=[num ((k:Nat):Int),num ((0:Nat):Int),.slice none 0 0,.slice none 0 0]) wfB rfl rfl rfl rfl lg cF G rfl rfl fun A102 cH=>?_)
        have k7:=cH.k aF gD
        have f4:=al leB wf dl cH.n cH.keep
        refine hv<|.I Z<|.nil<|k6 _ _<|.ret ?_
        (repeat first | with_reducible refine cR ?_ | with_reducible refine cr ?_);(repeat first | with_reducible refine gk ?_ | with_reducible refine fj ?_ | with_reducible refine eR U ?_ | with_reducible refine eU ?_ | with_reducible refine d4 ?_);have cf:LV.getD 0 false=false:=(by first | assumption | exact An Ow | simpa using ‹(!LV.getD 0 false)=true›);refine ⟨[D0],rfl,(by simp),(fun E hE=>by rw [Vk] at hE;subst hE;exact k7),[.agg #[num ((k:Nat):Int),num ((0:Nat):Int),.slice none 0 0,.slice none 0 0],.bool (true)],fun A2 dk e3 di=>?_⟩;have hkD:∀ b o,b ≠ D0->A102.get b=some o->A2.get b=some o:=fun b o hb h=>di b o (by simpa using hb) h;exact ⟨df sU lg Z (hkD _ _ aF.symm cH.get) Z (dA Z d5),⟨_,Z,_,_,[],Z,⟨by rw [e3];exact f4.n,fun b o h=>hkD b o (by have:=wf _ _ h;omega) (f4.g h)⟩,dk,ce (Fresh.nil _ _ _) (Xk cy (show []=_ from by rw [wV (by rw [<- hLV];exact cf)])),Fresh.nil _ _ _,oH mq.nil (by rw [wV (by rw [<- hLV];exact cf)]),bx.nil,be.nil,be.nil⟩⟩
      ·
        refine ak.skip<|nT _ _<|.seq fun K111 k9=>?_
        have hpos:0 < acc.length:=by rw [<- hlfl];exact Nat.pos_of_ne_zero ‹¬ LV.length=0›
        refine ak.region<|.p (ah o4 Z Z bV Z)<|.p (du Z)<|.p (ae kq jt U Z)<|.p (ah jr Z Z (leB.g hb) Z)<|.p (bE (n:=acc.length) nA Z (hav.le leB) O (gx _))<|.p (od Z Z)<|.p (od Z Z) ?_
        have ex:LV.length=N.length:=by rw [hlfl,hal]
        refine Ops.m (fun hw=>aq Z (Qf acc.length 182 183 #[.pointer (some ⟨a4,0,none⟩),.pointer (some ⟨b4,0,none⟩)] #[.pointer (some ⟨a4,0,none⟩),.pointer (some ⟨b4,0,none⟩)] (stF acc LV) (qQ LV N) B O (fun i B hi le wfB=>s_can1 i a4 b4 _ _ _ _ (.slice (some ⟨a2,0,none⟩) acc.length acc.length) LV b rwb capb k av nv fv bv acc N rows B (le.g g1) (le.g bV) (frB.slc.le le) ex bT ((leB.trans le).get _ _ hb) (hav.le (leB.trans le)) (hnv.le (leB.trans le)) hrl (fun i hi=>(hF i hi).le (leB.trans le)) O) (fun cls cv i B hcv h1 h2 hi le wfB=>s_can2 i cls cv a4 b4 _ _ _ _ (.slice (some ⟨a2,0,none⟩) acc.length acc.length) LV b rwb capb k av nv fv bv acc N rows B (le.g g1) (le.g bV) (frB.slc.le le) ex bT ((leB.trans le).get _ _ hb) (hav.le (leB.trans le)) (hnv.le (leB.trans le)) hrl (fun i hi=>(hF i hi).le (leB.trans le)) O hcv O (by rw [<- hal];exact h2)) (EI LV acc.length) (NR _ (fun i hi h=>UK i hi (by rw [<- hLV];exact h))) (fun cls _ _=>NS _ cls) (fun cls h1 h2 h3 i j hi hj h=>Yu (N:=N) O _ cls h1 h2 h3 i j hi hj h)) ?_)
        rintro pv A115 ⟨aP,aB,b6⟩
        have fS:=aP.g bV
        have fT:=aP.g cF
        have fV:=aP.g bU
        have g4:=aP.g g1
        have g5:=aP.g ey
        have g6:=aP.g gD
        have eQ:=frB.le aP
        have dw:=leB.trans aP
        have eS:=b6.base leB
        have hP:=b6.ne wfB bV
        have hR:=b6.ne wfB cF
        have hS:=b6.ne wfB bU
        have hT:=b6.ne wfB g1
        have hU:=b6.ne wfB gD
        refine hw<|.m (fun hx=>bZ aB RC rfl fun A134 bR a3=>?_)
        have dL:=ne_new aB fS a3.lo
        have dS:=ne_new aB fT a3.lo
        have cZ:=ne_new aB fV a3.lo
        have d2:=ne_new aB g4 a3.lo
        have cC:=ne_new aB g5 a3.lo
        have dI:=ne_new aB g6 a3.lo
        have f9:=eQ.own.ne_new aB a3.lo
        have fd:=eS.own.ne_new aB a3.lo
        have fm:=aX wf (Xj dw.n a3.lo)
        have nb:=Xj dw.n a3.lo
        have ka:=a3.le.g fS
        have kc:=a3.le.g fT
        have kl:=a3.le.g fV
        have km:=a3.le.g g4
        have kp:=a3.le.g g5
        have kv:=a3.le.g g6
        have hh:=eQ.le a3.le
        have eT:=eS.le a3.le
        have hJ:=dw.trans a3.le
        refine hx ?_
        obtain ⟨aA,ay,ar,n2,_⟩:=eT.own.slice
        subst n2
        refine Ops.m (fun hy=>aW (cs:=[.slice aA ay ar]) (c':=[.slice aA ay ar]) a3.wf rfl rfl rfl rfl gU a3.get G rfl rfl fun A149 a1=>?_)
        have g7:=a1.k dL ka
        have g8:=a1.k dS kc
        have g9:=a1.k cZ kl
        have gc:=a1.k d2 km
        have ge:=a1.k cC kp
        have gf:=a1.k dI kv
        have eV:=hh.keep a1.keep f9
        have hl:=eT.keep a1.keep fd
        have dD:=al hJ wf fm a1.n a1.keep
        refine hy<|.nil ?_
        obtain ⟨CL,hCL⟩:∃ CL,CL=CA acc (jD acc N) N:=⟨_,rfl⟩
        have eX:=ce hl (Xk dy (show EW acc.length (stF acc LV) (qQ LV N)=CL by rw [hCL,hLV,hal];rfl))
        obtain ⟨ev,m2⟩:CL.length=N.length/\∀ c ∈ CL,0<=c/\c < (N.length:Int):=by rw [hCL];exact Ly
        refine k9 _ _<|.seq fun K161 kA=>.region<|.m (fun hz=>pC a1.wf fun A165 bS D=>?_)
        have dM:=ne_new a1.wf g7 D.lo
        have dV:=ne_new a1.wf g8 D.lo
        have d0:=ne_new a1.wf g9 D.lo
        have d3:=ne_new a1.wf gc D.lo
        have fL:=ne_new a1.wf ge D.lo
        have dJ:=ne_new a1.wf gf D.lo
        have cS:=ne_new a1.wf a1.get D.lo
        have hV:=eV.own.ne_new a1.wf D.lo
        have hW:=eX.own.ne_new a1.wf D.lo
        have fn:=aX wf (Xj dD.n D.lo)
        have nc:=Xj dD.n D.lo
        have gg:=D.le.g g7
        have gl:=D.le.g g8
        have gm:=D.le.g g9
        have gp:=D.le.g gc
        have kC:=D.le.g ge
        have gs:=D.le.g gf
        have gA:=D.le.g a1.get
        have eY:=eV.le D.le
        have eZ:=eX.le D.le
        have dG:=dD.trans D.le
        refine hz<|.m (fun hA=>bZ D.wf z222 rfl fun A181 b3 a0=>?_)
        have dO:=ne_new D.wf gg a0.lo
        have dW:=ne_new D.wf gl a0.lo
        have d1:=ne_new D.wf gm a0.lo
        have dd:=ne_new D.wf gp a0.lo
        have fM:=ne_new D.wf kC a0.lo
        have dK:=ne_new D.wf gs a0.lo
        have cU:=ne_new D.wf gA a0.lo
        have bL:=ne_new D.wf D.get a0.lo
        have fi:=eY.own.ne_new D.wf a0.lo
        have fl:=eZ.own.ne_new D.wf a0.lo
        have fo:=aX wf (Xj dG.n a0.lo)
        have nj:=Xj dG.n a0.lo
        have kD:=a0.le.g gg
        have kK:=a0.le.g gl
        have kL:=a0.le.g gm
        have kM:=a0.le.g gp
        have kP:=a0.le.g gs
        have kT:=a0.le.g gA
        have kV:=a0.le.g D.get
        have hm:=eY.le a0.le
        have ho:=eZ.le a0.le
        have hK:=dG.trans a0.le
        refine hA<|.m (fun hB=>aW (cs:=[.map (some bS)]) (c':=[.map (some bS)]) a0.wf rfl rfl rfl rfl sz222 a0.get G rfl rfl fun A197 ac=>?_)
        have l0:=ac.k dO kD
        have l1:=ac.k dW kK
        have l4:=ac.k d1 kL
        have l6:=ac.k dd kM
        have l7:=ac.k dK kP
        have gC:=ac.k cU kT
        have l9:=ac.k bL kV
        have hp:=hm.keep ac.keep fi
        have f0:=ho.keep ac.keep fl
        have hL:=al hK wf fo ac.n ac.keep
        refine hB<|.nil<|kA _ _<|.seq fun K210 la=>.seq fun K212 lb=>.region<|.p (ah nI Z Z gC Z)<|.p (bE (n:=CL.length) fk Z f0.slc O (fy _))<|.J Z<|.nil ?_
        refine lb _ _<|.block<|.loopD (X:=Nat × List (Int × Value) × Array MapEntry × Nat) (fun ⟨i,E,es,ck⟩=>[(1,.pointer (some ⟨b4,0,none⟩)),(2,.pointer (some ⟨b9,0,none⟩)),(4,.pointer (some ⟨cc,0,none⟩)),(5,.pointer (some ⟨a4,0,none⟩)),(7,.pointer (some ⟨bR,0,none⟩)),(8,.pointer (some ⟨b3,0,none⟩)),(51,.slice aA ay ar),(52,num ((CL.length:Nat):Int)),(53,num ((i:Nat):Int))]) (fun ⟨i,E,es,ck⟩=>[V.mark D0]) (fun ⟨i,E,es,ck⟩ B=>(i<=CL.length/\d9 num es E/\sK CL i E)/\A.le B/\Fresh A B (.slice (some ⟨a2,0,none⟩) acc.length acc.length) 1 (cy LV)/\Fresh A B (.slice aA ay ar) 1 (dy CL)/\B.get bS=some (.obj true (.map es ck))/\B.get D0=some (.obj true (.deferred (some [])))/\B.get b4=some (.row true [.pointer (some ⟨b,0,none⟩)] 1)/\B.get b9=some (.row true [num ((0:Nat):Int),num ((0:Nat):Int),.slice none 0 0,.slice none 0 0] 4)/\B.get cc=some (.row true [num ((k:Nat):Int),num ((0:Nat):Int),.slice none 0 0,.slice none 0 0] 4)/\B.get a4=some (.row true [.slice (some ⟨a2,0,none⟩) acc.length acc.length] 1)/\B.get bR=some (.row true [.slice aA ay ar] 1)/\B.get b3=some (.row true [.map (some bS)] 1)/\V.blk (.slice (some ⟨a2,0,none⟩) acc.length acc.length) ≠ some bS/\V.blk (.slice aA ay ar) ≠ some bS/\V.blk (.slice (some ⟨a2,0,none⟩) acc.length acc.length) ≠ some D0/\V.blk (.slice aA ay ar) ≠ some D0/\V.blk (.slice (some ⟨a2,0,none⟩) acc.length acc.length) ≠ some b4/\V.blk (.slice aA ay ar) ≠ some b4/\V.blk (.slice (some ⟨a2,0,none⟩) acc.length acc.length) ≠ some b9/\V.blk (.slice aA ay ar) ≠ some b9/\V.blk (.slice (some ⟨a2,0,none⟩) acc.length acc.length) ≠ some cc/\V.blk (.slice aA ay ar) ≠ some cc/\V.blk (.slice (some ⟨a2,0,none⟩) acc.length acc.length) ≠ some a4/\V.blk (.slice aA ay ar) ≠ some a4/\V.blk (.slice (some ⟨a2,0,none⟩) acc.length acc.length) ≠ some bR/\V.blk (.slice aA ay ar) ≠ some bR/\V.blk (.slice (some ⟨a2,0,none⟩) acc.length acc.length) ≠ some b3/\V.blk (.slice aA ay ar) ≠ some b3) (fun ⟨i,E,es,ck⟩=>CL.length - i) (⟨0,[],#[],0⟩) (ev9 Z Z Z Z Z Z Z Z Z) Z (⟨⟨XK _,d9.nil,sK.start⟩,hL,hp,f0,l9,l7,l0,l1,l4,l6,gC,ac.get,hV,hW,nvD,hU,(fun q=>by cases q;exact ch rfl),hP,(fun q=>by cases q;exact cA rfl),hR,(fun q=>by cases q;exact c3 Z),hS,eG,hT,f9,fd,fi,fl⟩) ?_
        rintro ⟨i,E,es,ck⟩ B215 ⟨⟨hi,hme,hmi⟩,a5,bm,ab,aa,ag,a7,ai,aY,aI,a9,a6,az,ap,bB,bb,bC,bc,bD,bd,b8,b1,ba,b2,aZ,aS,b0,aT⟩
        refine ak.wf fun c7=>.seq fun K217 lc=>.region<|.p (ca Z Z)<|.nil<|lc _ _<|.seq fun K219 lp=>.if rfl (fun mX=>?_) (fun mX=>?_)
        ·
          refine ak.skip<|lp _ _<|.seq fun K222 gE=>.block<|.seq fun K224 lt=>.region<|.J Z ?_
          obtain ⟨p0,p6,oX,pi,oV,pe,p9,k1,mx,k4,oB,hd⟩:=bJ.at (i:=i) ab.slc Oa O
          refine Ops.p (au fk dH Z k1 Z mx)<|.p (ah fA Z Z k4 ((dt hd).trans (dT O)))<|.I Z<|.I Z<|.nil<|lt _ _<|.seq fun K227 gF=>.region<|.p (ah Ll Z Z a6 Z)<|.J Z ?_
          refine Ops.m (fun f3=>zj (k:=(CL.getD i 0)) vA Z Z KQ u3 z3 aa hme (fun oZ hI=>?_) (fun hH=>?_))
          ·
            refine f3<|.J Z<|.p (aQ Z Z)<|.p (aQ Z Z)<|.I Z<|.I Z<|.nil<|gF _ _<|.seq fun K233 lw=>.region ?_
            refine Ops.J Z<|.p (eD Z)<|.nil<|lw _ _<|.cond_false Z<|.skip<|gE _ _<|.region<|.p (bF (b:=1) Z Z O)<|.J Z ?_
            refine Ops.nil ?_
            exact ⟨⟨i + 1,E,es,ck⟩,ev9 Z Z Z Z Z Z Z Z Z,Z,⟨⟨by omega,hme,hmi.old O (hmi.in_ hI)⟩,a5,bm,ab,aa,ag,a7,ai,aY,aI,a9,a6,az,ap,bB,bb,bC,bc,bD,bd,b8,b1,ba,b2,aZ,aS,b0,aT⟩,O1⟩
          ·
            refine f3<|.J Z<|.p (aQ Z Z)<|.p (aQ Z Z)<|.I Z<|.I Z<|.nil<|gF _ _<|.seq fun K235 lA=>.region ?_
            refine Ops.J Z<|.p (eD Z)<|.nil<|lA _ _<|.cond_true Z<|.region<|.p (ah Ll Z Z a6 Z)<|.J Z<|.J Z<|.m (fun hC=>qw (k:=(CL.getD i 0)) vA c7 rfl rfl rfl KQ u3 aa hme hmi.nd fun A238 hf ha ad hO=>?_)
            have lB:=ad.k dJ ag
            have lC:=ad.k dM a7
            have lE:=ad.k dV ai
            have lF:=ad.k d0 aY
            have lK:=ad.k d3 aI
            have lO:=ad.k cS a9
            have lP:=ad.k bL.symm a6
            have hr:=bm.keep ad.keep az
            have hs:=ab.keep ad.keep ap
            have hM:=al a5 wf fn ad.n ad.keep
            refine hC<|.nil<|gE _ _<|.region<|.p (bF (b:=1) Z Z O)<|.J Z<|.nil ?_
            exact ⟨⟨i + 1,Cd E (CL.getD i 0) (num ((i:Nat):Int)),hf,ha⟩,ev9 Z Z Z Z Z Z Z Z Z,Z,⟨⟨by omega,hO,hmi.new O (hmi.no_ hH)⟩,hM,hr,hs,ad.get,lB,lC,lE,lF,lK,lO,lP,az,ap,bB,bb,bC,bc,bD,bd,b8,b1,ba,b2,aZ,aS,b0,aT⟩,O1⟩
        ·
          refine ak.exit<|la _ _<|.seq fun K253 lR=>.drawn [0,1,2,3,4,5,6,7,8,9,10,11,12,13,14] mixed Y Y Z<|.p Z (ah o4 Z Z a7 Z)<|.p Z (du Z)<|.p Z (ae CQ dH U Z)<|.p Z (ah fA Z Z (a5.g hb) Z)<|.p Z (ah nI Z Z a9 Z) ?_
          obtain ⟨p3,p7,oY,pj,oW,pf,pa,k2,mA,k5,oF,he⟩:=bJ.at (i:=0) ab.slc Oa O
          refine bn.p Z (au fk dH Z k2 Z mA)<|.p Z (ah fA Z Z k5 ((dt he).trans (dT O)))<|.p Z (od Z Z)<|.p Z (od Z Z) ?_
          have gM:vg B215 b3 CL:=⟨_,_,_,_,_,_,E,a6,aa,hme,hmi.all O⟩
          refine bn.m Z (fun hD=>aq Z (Bx k 20001 N.length (N.length + 1) ((CL.getD 0 0)) 185 186 #[.pointer (some ⟨b4,0,none⟩),.pointer (some ⟨b3,0,none⟩),.pointer (some ⟨a4,0,none⟩),.pointer (some ⟨bR,0,none⟩)] #[.pointer (some ⟨b4,0,none⟩),.pointer (some ⟨b3,0,none⟩)] (kx LV N CL) (fun c=>acc.getD (kw CL c) false) (fun q=>q ∈ CL) B215 O ⟨by omega,by omega,by omega⟩ (bj O) (fun q c t=>VE (lv:=LV) bT ev q c t) (fun Q hn hQ=>wn hn (fun q hq=>m2 q (hQ q hq))) (fun q c B hq hc le wfB=>s_can3 q c b3 bR _ _ (.slice aA ay ar) CL a4 b4 _ _ _ _ (.slice (some ⟨a2,0,none⟩) acc.length acc.length) LV b rwb capb k av nv fv bv acc N rows B (le.g aI) (le.g a7) (bm.slc.le le) ex bT ((a5.trans le).get _ _ hb) (hav.le (a5.trans le)) (hnv.le (a5.trans le)) hrl (fun i hi=>(hF i hi).le (a5.trans le)) (gM.le le) (le.g a9) (ab.slc.le le) ev hq hc) (fun q B hq le wfB=>s_can4 q b3 b4 _ _ CL b rwb capb k av nv fv bv acc N rows B (le.g a7) bT ((a5.trans le).get _ _ hb) (hav.le (a5.trans le)) (hnv.le (a5.trans le)) hrl (fun i hi=>(hF i hi).le (a5.trans le)) (gM.le le) ev hq)) ?_)
          rintro pA A262 ⟨aG,n6,nk,n9,n7,nl,rfl,bY,h0,cb,aC,aV,bO,a8,h4,h5,h6,e6,e7,e9⟩
          have lS:=bY.g ag
          have lT:=bY.g a7
          have lV:=bY.g ai
          have f6:=a5.trans bY
          have xr:=cb
          have xn:=aC
          have xa:=aV
          have xv:=bO
          have xf:=a8
          have y1:=h4
          have y2:=h5
          have y3:=h6
          have y4:=e6
          have y5:=e7
          have y6:=e9
          have hEX:gV k (kx LV N CL) (N.length + 1) 0 [CL.getD 0 0] []=Jr k acc N:=by rw [hLV,hCL];rfl
          rw [hEX] at aV a8
          have ft:bS ≠ aG:=fun z=>by have q0:=aa;rw [z,aC] at q0;cases q0
          have gS:D0 ≠ aG:=fun z=>by have q0:=ag;rw [z,aC] at q0;cases q0
          have gY:b4 ≠ aG:=fun z=>by have q0:=a7;rw [z,aC] at q0;cases q0
          have gZ:b9 ≠ aG:=fun z=>by have q0:=ai;rw [z,aC] at q0;cases q0
          have fE:cc ≠ aG:=fun z=>by have q0:=aY;rw [z,aC] at q0;cases q0
          have fI:a4 ≠ aG:=fun z=>by have q0:=aI;rw [z,aC] at q0;cases q0
          have fr:bR ≠ aG:=fun z=>by have q0:=a9;rw [z,aC] at q0;cases q0
          have fD:b3 ≠ aG:=fun z=>by have q0:=a6;rw [z,aC] at q0;cases q0
          have oK:=a8.ne aa
          have hX:=aV.ne c7 ag
          have hY:=bO.ne c7 ag
          have ih:=a8.ne ag
          have oN:=a8.ne a7
          have hZ:=aV.ne c7 ai
          have i2:=bO.ne c7 ai
          have ir:=a8.ne ai
          have oP:=a8.ne aY
          have oQ:=a8.ne aI
          have oR:=a8.ne a9
          have oS:=a8.ne a6
          have hxl:=Sl bT O
          refine hD (aU.none Y)<|.p Z (aN Z)<|.p Z (aQ Z Z)<|.p Z (aQ Z Z)<|.p Z (dB Z)<|.p Z (dB Z)<|.done<|lR _ _<|.seq fun K303 lW=>.seq fun K305 lX=>?_
          refine ak.region<|.J Z<|.p (eD Z)<|.J Z<|.on Z Z<|.J Z<|.on Z Z<|.p (du Z)<|.on Z Z<|.p (ae kq jt U Z) ?_
          refine Ops.on Z Z<|.p (ah jr Z Z cb Z)<|.on Z Z<|.p (bE (n:=((Jr k acc N).1.map (fun c=>acc.getD (kw CL c) false)).length) nA Z (aV.base a5).slc O (gx _))<|.on Z Z<|.p (eh (b:=20000) Z Z)<|.p (bh Z Z)<|.nil<|lX _ _<|.if rfl (fun n1=>?_) (fun n1=>?_)
          ·
            refine ak.seq fun K308 p8=>?_
            exfalso;have:=hxl;simp only [TX] at *;omega
          ·
            refine ak.skip<|lW _ _<|.seq fun K310 lY=>.drawn [0,1,2,3,4,5,6,7,8,9,10,11,12,13,14] mixed Y Y Z<|.p Z (ah o4 Z Z lT Z)<|.p Z (du Z)<|.p Z (ae CQ dH U Z)<|.p Z (ah fA Z Z (f6.g hb) Z)<|.p Z (aN Z)<|.p Z (du Z) ?_
            refine bn.p Z (ae kq jt U Z)<|.p Z (ah jr Z Z cb Z)<|.p Z (aN Z)<|.p Z (du Z)<|.p Z (ae sh jM U Z)<|.p Z (ah ln Z Z cb Z) ?_
            obtain ⟨eL,ez,ea,n3,_⟩:=(aV.base a5).own.slice
            subst n3
            obtain ⟨eN,eA,ec,n4,_⟩:=(bO.base a5).own.slice
            subst n4
            refine bn.p Z (cx Z (bg u62 Ri Vl Z))<|.m Z (fun hG=>aW (cs:=[num ((k:Nat):Int),num ((0:Nat):Int),.slice eL ez ea,.slice eN eA ec]) (c':=[num ((k:Nat):Int),num ((0:Nat):Int),.slice eL ez ea,.slice eN eA ec]) h0 rfl rfl rfl rfl lg lV G rfl rfl fun A319 bA=>?_)
            have lZ:=bA.k aF lS
            have ht:=(aV.base a5).keep bA.keep hZ
            have hu:=(bO.base a5).keep bA.keep i2
            have hg:=(a8.base a5).keep bA.keep ir
            have f7:=al f6 wf dl bA.n bA.keep
            refine hG (aU.none Y)<|.p Z (dB Z)<|.done<|lY _ _<|.ret ?_
            (repeat first | with_reducible refine cR ?_ | with_reducible refine cr ?_);(repeat first | with_reducible refine gk ?_ | with_reducible refine fj ?_ | with_reducible refine eR U ?_ | with_reducible refine eU ?_ | with_reducible refine d4 ?_);have cf:LV.getD 0 false=true:=(by first | assumption | simpa using ‹(!LV.getD 0 false)=false›);refine ⟨[D0],rfl,(by simp),(fun E hE=>by rw [Vk] at hE;subst hE;exact lZ),[.agg #[num ((k:Nat):Int),num ((0:Nat):Int),.slice eL ez ea,.slice eN eA ec],.bool (true)],fun A2 dk e3 di=>?_⟩;have hkD:∀ b o,b ≠ D0->A319.get b=some o->A2.get b=some o:=fun b o hb h=>di b o (by simpa using hb) h;exact ⟨df sU lg Z (hkD _ _ aF.symm bA.get) Z (dA Z d5),⟨_,Z,_,_,_,Z,⟨by rw [e3];exact f7.n,fun b o h=>hkD b o (by have:=wf _ _ h;omega) (f7.g h)⟩,dk,ce (ht.keep hkD hX) (Xk cy (by rw [EU (by rw [<- hLV];exact cf),hCL])),hu.keep hkD hY,oH (hg.keep hkD ih) (by rw [EU (by rw [<- hLV];exact cf)]),e6,e7,e9⟩⟩
def xx (k n:Nat) (R:List (List Int)):Prop:=∀ r ∈ R,r.length=k/\∀ m ∈ r,-1<=m/\m < (n:Int)
theorem xx.mono {k n n':Nat} {R:List (List Int)} (h:xx k n R) (hn:n<=n'):xx k n' R:=fun r hr=>⟨(h r hr).1,fun m hm=>by have:=(h r hr).2 m hm;omega⟩
theorem ye {step:Int->Nat->Option Int} {q:Int}:∀ (l:List Nat) (r:List Int × List Int),(∀ m ∈ r.1,-1<=m/\m < (r.2.length:Int)) ->
    (l.foldl (iA step q) r).1.length=r.1.length + l.length/\r.2.length<=(l.foldl (iA step q) r).2.length/\∀ m ∈ (l.foldl (iA step q) r).1,-1<=m/\m < ((l.foldl (iA step q) r).2.length:Int)
  | [],r,h=>⟨rfl,XV _,h⟩
  | c :: l,r,h=>by
    rw [TQ]
    have key:(iA step q r c).1.length=r.1.length + 1/\r.2.length<=(iA step q r c).2.length/\∀ m ∈ (iA step q r c).1,-1<=m/\m < ((iA step q r c).2.length:Int):=by
      unfold iA
      split
      · refine ⟨by simp,XV _,fun m hm=>?_⟩
        rcases Vw.1 hm with z | z
        · exact h m z
        · rw [Vk] at z;subst z;exact ⟨Int.le_refl _,by show (-1:Int) < (r.2.length:Int);omega⟩
      · rename_i t _
        split
        · rename_i ht
          refine ⟨by simp,XV _,fun m hm=>?_⟩
          rcases Vw.1 hm with z | z
          · exact h m z
          · rw [Vk] at z;subst z;have:=Tk.2 ht;exact ⟨by omega,by show ((r.2.idxOf t:Nat):Int) < (r.2.length:Int);omega⟩
        · refine ⟨by simp,by simp,fun m hm=>?_⟩
          show -1<=m/\m < ((r.2 ++ [t]).length:Int)
          rw [Xx,Tw]
          rcases Vw.1 hm with z | z
          · have:=h m z;omega
          · rw [Vk] at z;subst z;exact ⟨by omega,by omega⟩
    obtain ⟨k1,k2,k3⟩:=key
    obtain ⟨g1,g2,g3⟩:=ye l (iA step q r c) k3
    exact ⟨by rw [g1,k1,Xq];omega,Xj k2 g2,g3⟩
theorem wh {k:Nat} {step:Int->Nat->Option Int} {D:Int->Prop} {bd:Nat} (hDs:∀ q c t,D q->c < k->step q c=some t->D t) (hfin:∀ Q:List Int,Q.Nodup->(∀ q ∈ Q,D q)->Q.length<=bd) :
    ∀ (f i:Nat) (Q:List Int) (R:List (List Int)),Q.Nodup->(∀ q ∈ Q,D q)->bd < f + i->R.length=i->i<=Q.length->xx k Q.length R ->
      (gV k step f i Q R).2.length=(gV k step f i Q R).1.length/\xx k (gV k step f i Q R).1.length (gV k step f i Q R).2
  | 0,i,Q,R,h1,h2,h3,h4,h5,h6=>by have:=hfin Q h1 h2;exact ⟨by show R.length=Q.length;omega,h6⟩
  | f + 1,i,Q,R,h1,h2,h3,h4,h5,h6=>by
    unfold gV;split
    · rename_i hi
      obtain ⟨g1,g2⟩:=yd hDs (h2 _ (bj (d:=(0:Int)) hi)) (List.range k) ([],Q) (fun c hc=>VV.1 hc) h1 h2
      obtain ⟨r1,r2,r3⟩:=ye (step:=step) (q:=Q.getD i 0) (List.range k) ([],Q) (fun m hm=>by cases hm)
      refine wh hDs hfin f (i + 1) _ _ g1 g2 O (by simp [h4]) (Xj hi r2) fun r hr=>?_
      rcases Vw.1 hr with z | z
      · exact h6.mono r2 r z
      · rw [Vk] at z;subst z
        exact ⟨by rw [show (TE k step (Q.getD i 0) Q).1.length=_ from r1];simp,r3⟩
    · exact ⟨by show R.length=Q.length;omega,h6⟩
theorem zh {k:Nat} {acc:List Bool} {L:List (List Int)} (h:RD k acc L) (q:Int) (c:Nat) (t:Int) (hq:-1<=q/\q < (L.length:Int)) (hc:c < k) (e:qe L q c=some t):-1<=t/\t < (L.length:Int):=by
  simp only [qe,Option.some.injEq] at e
  subst e
  split
  · exact ⟨by omega,by have:=h.num;omega⟩
  · have:=h.val q.toNat c O hc;exact ⟨by omega,by omega⟩
theorem XH {k:Nat} {acc:List Bool} {L:List (List Int)} (h:RD k acc L):Jf k (zg k acc L) (iY k L).2/\(iY k L).2.length<=L.length + 1:=by
  have hn:=h.num
  have h0:∀ q ∈ ([0]:List Int),-1<=q/\q < (L.length:Int):=fun q hq=>by rw [Vk] at hq;subst hq;omega
  obtain ⟨g1,g2⟩:=vp (D:=fun q=>-1<=q/\q < (L.length:Int)) (k:=k) (zh h) (L.length + 2) 0 [0] [] (by simp) h0
  obtain ⟨r1,r2⟩:=wh (D:=fun q=>-1<=q/\q < (L.length:Int)) (bd:=L.length + 1) (k:=k) (zh h) (fun Q h1 h2=>tE h1 h2) (L.length + 2) 0 [0] [] (by simp) h0 O Z (by simp) (fun r hr=>by cases hr)
  have hb:=tE g1 g2
  have hr:∀ s,s < (iY k L).2.length->((iY k L).2.getD s []).length=k/\∀ m ∈ (iY k L).2.getD s [],-1<=m/\m < ((iY k L).1.length:Int):=fun s hs=>r2 _ (bj hs)
  refine ⟨⟨h.sym,by rw [zg,TX];exact r1.symm,by have:(iY k L).2.length=(iY k L).1.length:=r1;have:(iY k L).1.length<=L.length + 1:=hb;omega,fun s hs=>(hr s hs).1,fun s x hs hx=>?_⟩,by have:(iY k L).2.length=(iY k L).1.length:=r1;have:(iY k L).1.length<=L.length + 1:=hb;omega⟩
  have:=hr s hs
  have h2:=this.2 (ju (iY k L).2 s x) (bj (by rw [this.1];exact hx))
  have:(iY k L).2.length=(iY k L).1.length:=r1
  omega
theorem WX (b:Nat) (rwb:Bool) (capb k:Nat) (av nv fv bv:Value) (acc:List Bool) (N:List (List Int)) (rows:List Value) (A:AH) (hok:Jf k acc N) (hN:N.length<=20000) (hb:A.get b=some (.row rwb [num (k:Int),av,nv,fv,bv] capb)) (hav:bJ A 1 av (cy acc)) (hnv:bJ A 1 nv (fh rows)) (hrl:rows.length=N.length) (hF:∀ i,i < N.length->bJ A 1 (rows.getD i undef) (dy (N.getD i []))):bH prog 117 #[.pointer (some ⟨b,0,none⟩),.bool (true)] A (fun v A1=>∃ av2 nv2 rows2,v=.tuple #[.agg #[num (k:Int),num ((0:Nat):Int),av2,nv2],num ((0:Nat):Int)]/\A.le A1/\A1.wf/\Fresh A A1 av2 1 (cy (Cy k acc N).1)/\Fresh A A1 nv2 1 (fh rows2)/\mq A A1 rows2 (Cy k acc N).2/\bx av2 nv2/\be av2 rows2/\be nv2 rows2):=by
 refine bi (e:=[(0,.pointer (some ⟨b,0,none⟩)),(1,.bool (true))]) (args:=[.pointer (some ⟨b,0,none⟩),.bool (true)]) call117 func117 Z results117 ntmps117 Z Z Z (fun wf=>?_);have az:=AH.le.refl A;refine ak.sq fun h2=>.region<|.m (fun b5=>bZ wf Ri rfl fun A5 b4 a1=>?_);have D:=az.trans a1.le;refine b5<|.I Z<|.nil<|h2<|.sq fun h9=>.sq fun aZ=>.region<|.J Z<|.p (eD Z)<|.nil ?_;refine aZ<|.cond_false Z<|.skip<|h9<|.sq fun b0=>.region<|.J Z<|.m (fun aF=>aq Z (aai b _ _ k av nv fv bv acc N rows A5 hok hN (D.g hb) (hav.le D) (hnv.le D) hrl (fun i hi=>(hF i hi).le D)) ?_);rintro bl A16 ⟨aY,b6,b9,rfl,ac,a0,a2,a4,a3,a5,a6,a7⟩;have ay:=ac.g a1.get;have ar:=D.trans ac;have xa:=a2;have xv:=a4;have xf:=a3;have bb:=a5;have bc:=a6;have bd:=a7;have aT:=a3.ne a1.get;refine aF<|.J Z<|.p (aQ Z Z)<|.p (aQ Z Z)<|.m (fun aG=>bZ a0 Ri rfl fun A25 ba h=>?_);have aR:=(a2.base D).own.ne_new a0 h.lo;have aS:=(a4.base D).own.ne_new a0 h.lo;have aV:=(a3.base D).ne_new a0 h.lo;have ai:=(a2.base D).le h.le;have ap:=(a4.base D).le h.le;have aA:=(a3.base D).le h.le;refine aG ?_;obtain ⟨ad,aa,a8,b7,_⟩:=ai.own.slice;subst b7;obtain ⟨ag,ab,a9,b8,_⟩:=ap.own.slice;subst b8;refine Ops.m (fun aI=>aW (cs:=[num ((k:Nat):Int),num ((0:Nat):Int),.slice ad aa a8,.slice ag ab a9]) (c':=[num ((k:Nat):Int),num ((0:Nat):Int),.slice ad aa a8,.slice ag ab a9]) h.wf rfl rfl rfl rfl lg h.get G rfl rfl fun A38 V=>?_);have aB:=aA.keep V.keep aV;refine aI<|.I Z<|.nil<|b0<|.sq fun b1=>.sq fun b2=>.region<|.J Z<|.p (eD Z)<|.nil ?_;refine b2<|.cond_false Z<|.skip<|b1<|.sq fun b3=>.region<|.p (am sU lg Z Z V.get Z)<|.m (fun aP=>aW (cs:=[num ((k:Nat):Int),num ((0:Nat):Int),.slice ad aa a8,.slice ag ab a9]) (c':=[num ((k:Nat):Int),num ((0:Nat):Int),.slice ad aa a8,.slice ag ab a9]) V.wf rfl rfl rfl rfl lg (V.k (ne_new a0 ay h.lo) (h.le.g ay)) G rfl rfl fun A52 X=>?_);have aD:=(ai.keep V.keep aR).keep X.keep (a2.ne a1.wf a1.get);have aE:=(ap.keep V.keep aS).keep X.keep (a4.ne a1.wf a1.get);have aC:=aB.keep X.keep aT;refine aP<|.I Z<|.nil<|b3<|.rt (by exact aH (df sU lg Z X.get Z (dA Z d5)) (⟨_,_,_,Z,(al (al (ar.trans h.le) wf (aX wf (Xj ar.n h.lo)) V.n V.keep) wf (aX wf (Xj az.n a1.lo)) X.n X.keep),X.wf,aD,aE,aC,a5,a6,a7⟩))
theorem WH (k:Nat) (acc:List Bool) (L:List (List Int)) (av nv:Value) (rows:List Value) (A:AH) (hL:L.length<=19000) (hok:RD k acc L) (hav:bJ A 1 av (cy acc)) (hnv:bJ A 1 nv (fh rows)) (hrl:rows.length=L.length) (hF:∀ i,i < L.length->bJ A 1 (rows.getD i undef) (dy (L.getD i []))):bH prog 79 #[.agg #[num ((k:Nat):Int),num ((0:Nat):Int),av,nv]] A (fun v A1=>∃ av2 nv2 rows2,v=.tuple #[.agg #[num (k:Int),num ((0:Nat):Int),av2,nv2],num ((0:Nat):Int)]/\A.le A1/\A1.wf/\Fresh A A1 av2 1 (cy (Yr k acc L).1)/\Fresh A A1 nv2 1 (fh rows2)/\mq A A1 rows2 (Yr k acc L).2/\bx av2 nv2/\be av2 rows2/\be nv2 rows2):=by
 refine bi (e:=[(0,.agg #[num ((k:Nat):Int),num ((0:Nat):Int),av,nv])]) (args:=[.agg #[num ((k:Nat):Int),num ((0:Nat):Int),av,nv]]) call79 func79 Z results79 ntmps79 Z Z Z (fun wf=>?_);have bP:=AH.le.refl A;have aD:=hok;obtain ⟨hmk,hml⟩:=XH hok;refine ak.sq fun h2=>.region<|.m (fun bM=>d8 wf rfl rfl fun A5 b4 aE=>?_);have b7:=bP.trans aE.le;refine bM<|.m (fun bO=>bZ aE.wf Ri rfl fun A10 b9 a8=>?_);have b3:=a8.le.g aE.get;have a5:=b7.trans a8.le;refine bO<|.I Z<|.nil<|h2<|.sq fun bC=>.sq fun bD=>.region<|.p (am sU lg Z Z b3 Z)<|.m (fun bm=>aq Z (WI k acc L av nv rows A10 aD (hav.le a5) (hnv.le a5) hrl (fun i hi=>(hF i hi).le a5)) ?_);rintro cu A20 ⟨rfl,a6,bV⟩;have ap:=a6.g b3;have aC:=a6.g a8.get;have h:=a5.trans a6;refine bm<|.p (((eB (a:=0) (b:=0) Z Z).trans (Xk (fun z=>some (Value.bool z,[])) (Xv (fun q=>q Z)))))<|.nil<|bD<|.cond_false Z<|.skip<|bC<|.sq fun bL=>.region<|.p (am sU lg Z Z ap Z) ?_;refine Ops.m (fun bp=>aq Z (aat k acc L av nv rows A20 aD (hav.le h) (hnv.le h) hrl (fun i hi=>(hF i hi).le h)) ?_);rintro cv A29 ⟨a4,az,aF,aB,aA,aG,rfl,a7,ay,ab,aa,a9,ac,V,aR,aS,aT,aV,aY,aZ⟩;have ar:=a7.g aC;have a1:=h.trans a7;have xr:=ab;have xn:=aa;have xa:=a9;have xv:=ac;have xf:=V;have w1:=aR;have w2:=aS;have w3:=aT;have w4:=aV;have w5:=aY;have w6:=aZ;have aI:b4 ≠ a4:=fun z=>by have q0:=ap;rw [z,aa] at q0;cases q0
 have aP:b9 ≠ a4:=fun z=>by have q0:=aC;rw [z,aa] at q0;cases q0
 have c7:=V.ne ap;have bv:=V.ne aC;refine bp<|.m (fun br=>aq Z (WX a4 _ _ k az aF aB aA (zg k acc L) ((iY k L).2) aG A29 hmk O ab (a9.base h).slc (ac.base h).slc (V.base h).len (fun i hi=>((V.base h).fr i hi).slc)) ?_);rintro cA A42 ⟨bB,bR,bU,rfl,X,b0,a2,a3,a0,ad,ag,ai⟩;have c3:=(a9.base h).le X;have c4:=(ac.base h).le X;have bb:=(V.base h).le X;have xa:=a2;have xv:=a3;have xf:=a0;have cf:=ad;have ch:=ag;have ck:=ai;have cb:=a0.ne (a7.g ap);have bA:=a0.ne ar;have cc:=a0.ne ab;refine br<|.p (aQ Z Z)<|.p (aQ Z Z) ?_;obtain ⟨b8,b5,b1,bS,_⟩:=(a2.base a1).own.slice;subst bS;obtain ⟨ba,b6,b2,bT,_⟩:=(a3.base a1).own.slice;subst bT;refine Ops.m (fun bu=>aW (cs:=[num ((k:Nat):Int),num ((0:Nat):Int),.slice b8 b5 b1,.slice ba b6 b2]) (c':=[num ((k:Nat):Int),num ((0:Nat):Int),.slice b8 b5 b1,.slice ba b6 b2]) b0 rfl rfl rfl rfl lg (X.g ar) G rfl rfl fun A63 D=>?_);have bd:=(a2.base a1).keep D.keep (a2.ne ay ar);have bl:=(a3.base a1).keep D.keep (a3.ne ay ar);have bY:=bb.keep D.keep bv;have bc:=(a0.base a1).keep D.keep bA;refine bu<|.I Z<|.nil<|bL<|.rt (by exact aH (df sU lg Z D.get Z (dA Z d5)) (⟨_,_,_,Z,(al (a1.trans X) wf (aX wf (Xj b7.n a8.lo)) D.n D.keep),D.wf,bd,bl,bc,ad,ag,ai⟩))
def Cg (g:Int) (rs:List an):List Wd:=(aO g rs).map (·.1)
def Nz (g:Int) (l:List Wd) (rs:List an):Nat:=if bI g l rs then 2 * g.toNat else 0
def vk (g:Int) (l:List Wd) (rs:List an):Nat:=if bI g l rs then 0 else 100
def Ji (g:Int) (l:List Wd) (rs:List an):List Bool × List (List Int):=if bI g l rs then Yr (2 * g.toNat) (Yg (2 * g.toNat) (Cg g rs)) (Yh (2 * g.toNat) (Cg g rs)) else ([],[])
section
variable {g:Int} {l:List Wd} {rs:List an} {gn i k:Nat} {w:Wd}
theorem Cr (h:(!bI g l rs)=true):Nz g l rs=0/\vk g l rs=100/\Ji g l rs=([],[]):=by
  have h:bI g l rs=false:=by simpa using h
  simp [Nz,vk,Ji,h]
theorem wO (h:bI (gn:Int) l rs=true):Nz gn l rs=2 * gn/\vk gn l rs=0/\Ji gn l rs=Yr (2 * gn) (Yg (2 * gn) (Cg gn rs)) (Yh (2 * gn) (Cg gn rs)):=by
  simp [Nz,vk,Ji,h]
theorem zf (h:bG g w=0):∀ c ∈ w,0<=ix c/\ix c < 2 * g:=fun c hc=>by
  unfold bG at h
  split at h
  · cases h
  · split at h
    · cases h
    · split at h
      · rename_i q
        have:=Vx.1 q c hc
        simpa [iu] using this
      · cases h
theorem UN:∀ x,x < 16->ix (bW.getD x 0)=x:=by decide
theorem Zd:∀ x,x < 16->x ^^^ 1 < 16/\(x ^^^ 1) / 2=x / 2:=by decide
theorem zG (hs:bI (gn:Int) l rs=true):∀ s ∈ aO (gn:Int) rs,∀ c ∈ s.1,0<=ix c/\ix c < ((2 * gn:Nat):Int):=fun s hm c hc=>by
  have hg:=ja hs
  rcases Vw.1 hm with z | z
  · obtain ⟨r,hr,rfl⟩:=Vj.1 z
    have:=zf (ii (dx ((cT hs).2.2.1 r hr)).1) c hc
    omega
  · obtain ⟨x,hx,rfl⟩:=Vj.1 z
    have hx:=VV.1 hx
    rw [RX] at hx
    have h1:=Zd x O
    simp only [Ru,Vz,Ty,or_false] at hc
    rcases hc with rfl | rfl
    · rw [UN x O];omega
    · rw [UN _ h1.1];omega
theorem Nx:(Cg g rs).length=(aO g rs).length:=by simp [Cg]
theorem XP (hi:i < (aO g rs).length):(Cg g rs).getD i []=((aO g rs).getD i ([],[])).1:=by
  simp [Cg,Vq,hi]
theorem wsF_ne (hs:bI g l rs=true):∀ w ∈ Cg g rs,w ≠ []:=fun w hw e=>by
  obtain ⟨s,h1,rfl⟩:=Vj.1 hw
  have:=(sH (ja hs) (rP hs) s h1).1
  rw [e] at this;simp at this
theorem TI.next2 {L:List (List Int)} {E:List Bool} (h:TI k (Cg g rs) i L E) (hi:i < (aO g rs).length) (hw:∀ c ∈ ((aO g rs).getD i ([],[])).1,0<=ix c/\ix c < k):TI k (Cg g rs) (i + 1) (zx k L E ((aO g rs).getD i ([],[])).1) (zw k L E ((aO g rs).getD i ([],[])).1):=by
  have:=h.next (by rw [Nx];exact hi) (by rw [XP hi];exact hw)
  rwa [XP hi] at this
end
section
variable {k:Nat} {L:List (List Int)} {E:List Bool} {W S:List (List Nat)}
theorem YI {s x:Nat} (hs:s < L.length) (hx:x < (L.getD s []).length):ju (L.map (fG E)) s x=if E.getD (ju L s x).toNat false then -1 else ju L s x:=by
  unfold ju
  have e:(L.map (fG E)).getD s []=fG E (L.getD s []):=by simp [Vq,hs]
  rw [e,fG]
  have:((L.getD s []).map fun m=>if E.getD m.toNat false=true then -1 else m).getD x 0=(fun m:Int=>if E.getD m.toNat false=true then -1 else m) ((L.getD s []).getD x 0):=by
    simp only [Vq,List.getElem?_map]
    have:x < (L[s]?.getD []).length:=by simpa [Vq] using hx
    simp [this]
  rw [this]
theorem acc_ok (h:Aho k L E W S) (hk:1<=k/\k<=400) (hn:W.length<=19000):RD k (E.map fun e=>!e) (L.map (fG E)):=by
  have h1:=h.len
  have h2:=h.pos
  refine ⟨hk,by simp;omega,by simp;omega,fun s hs=>?_,fun s x hs hx=>?_⟩
  · rw [TX] at hs
    rw [show (L.map (fG E)).getD s []=fG E (L.getD s []) by simp [Vq,hs],pZ]
    exact h.row s O
  · rw [TX] at hs ⊢
    have hr:=h.row s O
    rw [YI hs O]
    have:=h.to s x O hx
    split
    · omega
    · omega
theorem Aho.at (h:Aho k L E W S) {s x:Nat} (hs:s < W.length) (hx:x < k):0<=(L.getD s []).getD x 0/\((L.getD s []).getD x 0).toNat < W.length:=by
  have:=h.to s x hs hx
  simp only [ju] at this
  omega
end
theorem Pm {E:List Bool} {s:Nat} (h:s < E.length):(E.take s).map (fun e=>!e) ++ [!E.getD s false]=(E.take (s + 1)).map fun e=>!e:=uJ (z:=false) (fun e=>!e) h
theorem ag123:ef prog 123=some true:=by kernel_rfl
theorem pl119:dQ prog 119=some [(0,1),(1,1)]:=by kernel_rfl
theorem u119:type_of% @underlying119:=@underlying119
theorem z119:c5 prog 119=some (.agg #[.slice none 0 0,.slice none 0 0]):=by kernel_rfl
theorem s_Acc (g:Int) (u:Value) (l:List W8) (rv:Value) (rs:List an) (A:AH) (hn:l.length<=9223372036854775807) (hm:rs.length<=9223372036854775807) (hln:bI g l rs=true->s9 (Cg g rs)<=18000) (hL:ib A) (hu:bJ A 1 u (dN l)) (hr:bJ A 3 rv (cd rs)) (hp:Proofs A rs):bH prog 33 #[.agg #[num (g),u,rv]] A (fun v A1=>∃ av2 nv2 rows2,v=.tuple #[.agg #[num ((Nz g l rs:Nat):Int),num ((0:Nat):Int),av2,nv2],num ((vk g l rs:Nat):Int)]/\A.le A1/\A1.wf/\Fresh A A1 av2 1 (cy (Ji g l rs).1)/\Fresh A A1 nv2 1 (fh rows2)/\mq A A1 rows2 (Ji g l rs).2/\bx av2 nv2/\be av2 rows2/\be nv2 rows2):=by
 refine bi (e:=[(0,.agg #[num (g),u,rv])]) (args:=[.agg #[num (g),u,rv]]) call33 func33 Z results33 ntmps33 Z Z Z (fun wf=>?_);have Br:=AH.le.refl A;refine ak.sq fun h2=>.region<|.l Z (fun _ _ t9 _=>d8 wf rfl rfl fun A5 b4 nM=>?_);have tb:=Br.trans nM.le;refine t9 _ _<|.m (fun Bo=>bZ nM.wf Ri rfl fun A10 b9 hD=>?_);have lA:=aX wf (Xj tb.n hD.lo);have t7:=hD.le.g nM.get;have ge:=tb.trans hD.le;refine Bo<|.I Z<|.nil<|h2<|.sq fun B6=>.sq fun B7=>.region<|.p (am ei dE Z Z t7 Z)<|.m (fun y3=>aq Z (ld ((g)) u l rv rs A10 hn hm (hL.le ge) (hu.le ge) (hr.le ge) (hp.le ge)) ?_);rintro Hw A20 ⟨rfl,hB,g5⟩;have mV:=hB.g t7;have mX:=hB.g hD.get;have iX:=ge.trans hB;refine y3<|.p (eD Z)<|.nil<|B7<|.ifB Z (fun Bs=>?_) (fun Bs=>?_)
 ·refine ak.sq fun B8=>.region<|.p (cx Z (bg u62 Ri Vl Z))<|.m (fun y4=>aW (cs:=[num ((0:Nat):Int),num ((0:Nat):Int),.slice none 0 0,.slice none 0 0]) (c':=[num ((0:Nat):Int),num ((0:Nat):Int),.slice none 0 0,.slice none 0 0]) g5 rfl rfl rfl rfl lg mX G rfl rfl fun A29 hI=>?_);have Ac:=al iX wf lA hI.n hI.keep;refine y4<|.I Z<|.nil<|B8<|.rt (by exact aH (df sU lg Z hI.get Z (dA Z d5)) (⟨_,_,[],by rw [(Cr ‹_›).1,(Cr ‹_›).2.1];rfl,Ac,hI.wf,ce (Fresh.nil _ _ _) (Xk cy (show []=_ by rw [(Cr ‹_›).2.2])),Fresh.nil _ _ _,oH mq.nil (by rw [(Cr ‹_›).2.2]),bx.nil,be.nil,be.nil⟩))
 refine ak.skip<|B6<|.sq fun B9=>?_;have hs:bI g l rs=true:=by simpa using ‹(!bI g l rs)=false›
 obtain ⟨gn,rfl⟩:∃ n:Nat,g=(n:Int):=⟨g.toNat,by have:=ja hs;omega⟩;have hg:=ja hs;have hbs:=hln hs;have hse:=rP hs;have hsn:=sI hs;have hsl:=jq (gn:Int) rs;rw [RX] at hsl;refine ak.region<|.p (ae gi ik U Z)<|.p (ae gh dH U Z)<|.p (ah fA Z Z mV Z)<|.p (qG (a:=2) Z Z O)<|.I Z<|.nil<|B9<|.sq fun Ba=>.region ?_;refine Ops.p (cx Z (bg u119 z119 pl119 Z))<|.m (fun y5=>d8 g5 rfl rfl fun A39 a0 dW=>?_);have fN:=ne_new g5 mX dW.lo;have hO:=aX wf (Xj iX.n dW.lo);refine y5<|.I Z<|.nil<|Ba<|.sq fun Bb=>?_;have mx:Fresh A A39 (.slice none 0 0) 1 (fh []):=Fresh.nil _ _ _;have mA:Fresh A A39 (.slice none 0 0) 1 (cy []):=Fresh.nil _ _ _;have mt:mq A A39 [] []:=mq.nil;refine ak.region<|.J Z<|.J Z ?_;have hz:=cz (bs:=([some a0,blk (.slice none 0 0),blk (.slice none 0 0)] ++ ([]).map blk)) (iX.trans dW.le) (JF (xe hO (uD mx.lo (uD mA.lo qX))) mt);refine Ops.m (fun y6=>aq Z (WT (2 * gn) a0 (.slice none 0 0) (.slice none 0 0) ([]) ([]) ([]) (A39.hide ([some a0,blk (.slice none 0 0),blk (.slice none 0 0)] ++ ([]).map blk)) A39 (c6 A39 ([some a0,blk (.slice none 0 0),blk (.slice none 0 0)] ++ ([]).map blk)) (cI dW.wf) dW.get (cQ (by simp)) (mx.hide (by simp)) (mA.hide (by simp)) (fun q=>by cases q) (fun q=>by cases q) bx.nil mt.hideAll na be.empty be.empty ⟨by omega,by simp,by simp⟩) ?_);rintro Hx A51 ⟨sr,oA,m6,rfl,hC,m1,fM,h3,h4,gY,gZ,hS,fX,hN,m2,m3⟩;have nB:=bX (bs:=([some a0,blk (.slice none 0 0),blk (.slice none 0 0)] ++ ([]).map blk)) (dW.le.g mV) (DB (qY (ne_new g5 mV dW.lo) (pk (fun q=>by cases q) (pk (fun q=>by cases q) mN))) na);have ho:=bX (bs:=([some a0,blk (.slice none 0 0),blk (.slice none 0 0)] ++ ([]).map blk)) (dW.le.g mX) (DB (qY fN (pk (fun q=>by cases q) (pk (fun q=>by cases q) mN))) na);have t8:=hC.g ho;have mB:=h3.base hz;have mE:=h4.base hz;have mv:=fX.base hz;have G4:=fX.ne nB;have Ar:=fX.ne ho;have fm:=hz.trans hC;have nD:=fX.len;rw [Xx,Tw] at nD;refine y6<|.nil<|Bb<|.sq fun Bc=>.sq fun Bd=>.region<|.p (am ei dE Z Z (hC.g nB) Z)<|.m (fun y7=>aq Z (M9 (((gn:Nat):Int)) u l rv rs A51 hg O (hL.le fm) (hu.le fm) (hr.le fm) (hp.le fm)) ?_);rintro gF A74 ⟨e7,DI,e4⟩;have tV:=mv.le e7;have mK:=e4.base fm;have AZ:=be.fresh mv e4;refine y7<|.p (bE (n:=(aO (((gn:Nat):Int)) rs).length) s7 Z mK.slc O (ug _))<|.J Z<|.nil<|Bd<|.block<|.loop (X:=Nat × List Bool × Value × Value × List Value × List (List Int)) (fun ⟨i,E1,D,sX,rw,L1⟩=>[(2,.pointer (some ⟨b9,0,none⟩)),(4,num ((2 * gn:Nat):Int)),(5,.pointer (some ⟨a0,0,none⟩)),(34,gF),(35,num (((aO (((gn:Nat):Int)) rs).length:Nat):Int)),(36,num ((i:Nat):Int))]) (fun ⟨i,E1,D,sX,rw,L1⟩ B=>(i<=(aO gn rs).length/\TI (2 * gn) (Cg gn rs) i L1 E1)/\A.le B/\Fresh A B D 1 (fh rw)/\Fresh A B sX 1 (cy E1)/\Fresh A B gF 2 (iJ (aO (((gn:Nat):Int)) rs))/\B.get b9=some (.row true [num ((0:Nat):Int),num ((0:Nat):Int),.slice none 0 0,.slice none 0 0] 4)/\B.get a0=some (.row true [D,sX] 2)/\V.blk D ≠ some b9/\V.blk sX ≠ some b9/\V.blk gF ≠ some b9/\V.blk D ≠ some a0/\V.blk sX ≠ some a0/\V.blk gF ≠ some a0/\bx D sX/\bx D gF/\bx sX gF/\mq A B rw L1/\dn rw b9/\dn rw a0/\be D rw/\be sX rw/\be gF rw) (fun ⟨i,E1,D,sX,rw,L1⟩=>(aO gn rs).length - i) (⟨0,[] ++ [false],sr,oA,m6,([]) ++ [Jd (2 * gn)]⟩) (ya Z Z Z Z Z Z) (⟨⟨XK _,TI.start⟩,(fm.trans e7),(mB.le e7),(mE.le e7),mK,(e7.g t8),(e7.g fM),(h3.seph ho),(h4.seph ho),(e4.ne m1 t8),gY,gZ,(e4.ne m1 fM),hS,(bx.symm (e4.sep0 mB.own)),(bx.symm (e4.sep0 mE.own)),tV,Ar,hN,m2,m3,AZ⟩) ?_;rintro ⟨i,E1,D,sX,rw,L1⟩ B91 ⟨⟨hi,hti⟩,hA,cv,dk,cC,e6,cA,eA,ez,gA,e1,dZ,aF,gE,dD,dG,e5,f0,ea,f1,f2,cf⟩;refine ak.wf fun bL=>?_;have hrw:rw.length=L1.length:=by first | exact mq.len ‹_›
 have hlb:=hti.bound;have hlE:=hti.len;have nC:=hti.ok;have hwl:=fun q:i < (aO gn rs).length=>sH hg hse _ (bj (d:=(([],[]):Wd × Wd)) q);have hwc:=fun q:i < (aO gn rs).length=>zG hs _ (bj (d:=(([],[]):Wd × Wd)) q);refine ak.sq fun Bk=>.region<|.p (ca Z Z)<|.nil<|Bk<|.sq fun Bl=>.if rfl (fun Bt=>?_) (fun Bt=>?_)
 ·refine ak.skip<|Bl<|.sq fun Bm=>.block<|.sq fun v3=>.region ?_;obtain ⟨DJ,Ev,D3,G5,Ch,Fq,F2,tj,z1,tW,nU,BY⟩:=bJ.at (i:=i) cC.slc OA O;refine Ops.p (au s7 pB Z tj Z z1)<|.p (am ag123 pB Z Z tW (nU.trans (Xk some (QL O))))<|.m (fun qb=>bZ bL Lg rfl fun A105 DK ar=>?_);have ey:=ne_new bL cA ar.lo;have lP:=cv.own.ne_new bL ar.lo;have lR:=dk.own.ne_new bL ar.lo;have lV:=e5.ne_new bL ar.lo;have oB:=e5.le ar.le;refine qb<|.m (fun qd=>aW (cs:=[ax (((aO (((gn:Nat):Int)) rs).getD i ([],[])).1),ax (((aO (((gn:Nat):Int)) rs).getD i ([],[])).2)]) (c':=[ax (((aO (((gn:Nat):Int)) rs).getD i ([],[])).1),ax (((aO (((gn:Nat):Int)) rs).getD i ([],[])).2)]) ar.wf rfl rfl rfl rfl pB ar.get G rfl rfl fun A119 bA=>?_);have v4:=bA.k ey (ar.le.g cA);have k5:=(cv.le ar.le).keep bA.keep lP;have k6:=(dk.le ar.le).keep bA.keep lR;have g0:=(cC.le ar.le).keep bA.keep (cC.own.ne_new bL ar.lo);have j3:=oB.keep bA.keep lV;refine qd<|.nil<|v3<|.region<|.J Z<|.J Z<|.p (jI (i:=0) Eu ek Z Z O)<|.p (ah eJ Z Z bA.get Z) ?_;have f3:=cz (bs:=([some a0,blk D,blk sX] ++ rw.map blk)) (al (hA.trans ar.le) wf (aX wf (Xj hA.n ar.lo)) bA.n bA.keep) (JF (xe hO (uD k5.lo (uD k6.lo qX))) j3);refine Ops.m (fun qp=>aq Z (s_add (2 * gn) (((aO (((gn:Nat):Int)) rs).getD i ([],[])).1) a0 D sX rw L1 E1 (A119.hide ([some a0,blk D,blk sX] ++ rw.map blk)) A119 (c6 A119 ([some a0,blk D,blk sX] ++ rw.map blk)) (cI bA.wf) v4 (cQ (by simp)) (k5.hide (by simp)) (k6.hide (by simp)) e1 dZ gE j3.hideAll ea f1 f2 (hL.le f3) ⟨by omega,by omega,by have:=(hwl O).2.1;omega⟩ nC.1 nC.2 (hwc O)) ?_);rintro GE A130 ⟨nN,mm,j2,rfl,gf,Bu,ht,eQ,eS,gl,gm,hJ,eZ,hh,iF,iH⟩;have g4:=bX (bs:=([some a0,blk D,blk sX] ++ rw.map blk)) (bA.k (ne_new bL e6 ar.lo) (ar.le.g e6)) (DB (qY fN (pk eA (pk ez mN))) f0);have qa:=bX (bs:=([some a0,blk D,blk sX] ++ rw.map blk)) bA.get (DB (qY ey.symm (pk lP (pk lR mN))) lV);have sD:=eZ.sepOff g0.own (n8 (jG aF (jH dD (jH dG jk))) cf);have oF:=eZ.base f3;have ss:=eZ.ne g4;have C2:=eZ.ne qa;refine qp<|.nil<|Bm<|.region<|.p (bF (b:=1) Z Z O)<|.J Z<|.nil ?_;exact ⟨⟨i + 1,zw (2 * gn) L1 E1 (((aO (((gn:Nat):Int)) rs).getD i ([],[])).1),nN,mm,j2,zx (2 * gn) L1 E1 (((aO (((gn:Nat):Int)) rs).getD i ([],[])).1)⟩,ya Z Z Z Z Z Z,Z,⟨⟨by omega,hti.next2 O (hwc O)⟩,(f3.trans gf),(eQ.base f3),(eS.base f3),(g0.off (n8 (jG aF (jH dD (jH dG jk))) cf) gf),(gf.g g4),ht,(eQ.seph g4),(eS.seph g4),gA,gl,gm,aF,hJ,(eQ.sep g0.own (n8 (jG aF (jH dD (jH dG jk))) cf)),(eS.sep g0.own (n8 (jG aF (jH dD (jH dG jk))) cf)),oF,ss,hh,iF,iH,sD⟩,O1⟩
 refine ak.exit<|Bc<|.sq fun v5=>?_;have y8:rw.length=L1.length:=hrw;obtain ⟨W,nv⟩:=BO.start (k:=2 * gn) (show TI (2 * gn) (Cg gn rs) (Cg gn rs).length L1 E1 by rw [Nx,<- show i=(aO gn rs).length by omega];exact hti) (wsF_ne hs);obtain ⟨H3,H4,H5,H6,H7⟩:=nv.lens;refine ak.region<|.J Z<|.p (du Z)<|.p (ae jO jM U Z)<|.p (ah ln Z Z cA Z)<|.p (bE (n:=rw.length) qq Z cv.slc O (jJ _))<|.m (fun qr=>oO (n:=rw.length) (k:=rw.length) bL hA rfl rfl fk dH z3 pd rfl (XV _) (by show 8 * _<=_;omega) O fun A155 ti a2 hj=>?_);rw [jh] at hj;have hG:=ne_new bL e6 a2.lo;have gS:=ne_new bL cA a2.lo;have sv:=e5.ne_new bL a2.lo;have mM:=a2.le.g e6;have mT:=a2.le.g cA;have k7:=cv.le a2.le;have k9:=dk.le a2.le;have j4:=e5.le a2.le;have lC:=hA.trans a2.le;have sF:=bx.of_new (n:=rw.length) (c:=rw.length) cv.own bL a2.lo;have sM:=bx.of_new (n:=rw.length) (c:=rw.length) dk.own bL a2.lo;have DG:=bx.of_new (n:=rw.length) (c:=rw.length) cC.own bL a2.lo;refine qr<|.I Z<|.nil<|v5<|.sq fun v6=>.region<|.m (fun qt=>bf (c:=[num ((0:Nat):Int)]) a2.wf rfl (aw fk dH z3 rfl U U rfl) fun A176 ma aD=>?_);have hH:=ne_new a2.wf mM aD.lo;have gX:=ne_new a2.wf mT aD.lo;have sb:=k7.own.ne_new a2.wf aD.lo;have sf:=k9.own.ne_new a2.wf aD.lo;have sm:=hj.own.ne_new a2.wf aD.lo;have sz:=j4.ne_new a2.wf aD.lo;have v7:=aD.le.g mM;have v8:=aD.le.g mT;have oZ:=k7.le aD.le;have p0:=k9.le aD.le;have p3:=hj.le aD.le;have oI:=j4.le aD.le;have ro:=lC.trans aD.le;refine qt<|.I Z<|.nil<|v6<|.sq fun v9=>.sq fun vC=>.region<|.I Z<|.nil<|vC ?_;refine ak.block ?_;have p5:Fresh A A176 (.slice (some ⟨ma,0,none⟩) 1 1) 1 (dy [((0:Nat):Int)]):=Fresh.lit aD.get (aX wf (Xj lC.n aD.lo)) Z G;refine ak.loop (X:=Nat × List Int × List Int × List Bool × Value × Value × Value × List (List Int)) (fun ⟨j,fl,qu,en,fv,qv,kE,Lt⟩=>[(2,.pointer (some ⟨b9,0,none⟩)),(4,num ((2 * gn:Nat):Int)),(5,.pointer (some ⟨a0,0,none⟩)),(8,fv),(9,qv),(10,num ((j:Nat):Int))]) (fun ⟨j,fl,qu,en,fv,qv,kE,Lt⟩ B=>(BO (2 * gn) L1 W ((Cg gn rs).map KF) (Jj (2 * gn) (Cg gn rs)) j Lt en fl qu)/\A.le B/\Fresh A B fv 1 (dy fl)/\Fresh A B qv 1 (dy qu)/\Fresh A B kE 1 (cy en)/\Fresh A B D 1 (fh rw)/\B.get b9=some (.row true [num ((0:Nat):Int),num ((0:Nat):Int),.slice none 0 0,.slice none 0 0] 4)/\B.get a0=some (.row true [D,kE] 2)/\V.blk fv ≠ some b9/\V.blk qv ≠ some b9/\V.blk kE ≠ some b9/\V.blk D ≠ some b9/\V.blk fv ≠ some a0/\V.blk qv ≠ some a0/\V.blk kE ≠ some a0/\V.blk D ≠ some a0/\bx fv qv/\bx fv kE/\bx fv D/\bx qv kE/\bx qv D/\bx kE D/\mq A B rw Lt/\dn rw b9/\dn rw a0/\be fv rw/\be qv rw/\be kE rw/\be D rw) (fun ⟨j,fl,qu,en,fv,qv,kE,Lt⟩=>W.length + 1 - j) (⟨0,List.replicate rw.length 0,[0],E1,.slice (some ⟨ti,0,none⟩) rw.length rw.length,.slice (some ⟨ma,0,none⟩) 1 1,sX,L1⟩) (ya Z Z Z Z Z Z) (⟨(by rw [y8];exact nv),ro,p3,p5,p0,oZ,v7,v8,(fun q=>by cases q;exact hG rfl),(fun q=>by cases q;exact hH rfl),ez,eA,(fun q=>by cases q;exact gS rfl),(fun q=>by cases q;exact gX rfl),dZ,e1,(bx.symm (fun c hc hq=>by cases hc;exact sm hq)),sM,sF,(fun c hc hq=>by cases hc;exact sf hq),(fun c hc hq=>by cases hc;exact sb hq),(bx.symm gE),oI,f0,ea,(be.new sv),(be.new sz),f2,f1⟩) ?_;rintro ⟨j,fl,qu,en,fv,qv,kE,Lt⟩ B198 ⟨hbo,hv,iD,eT,dL,cc,eV,cH,h0,h1,e0,dJ,gq,gC,dI,d2,hT,hU,hV,hW,hX,fO,dl,ec,dS,gG,gM,ev,ex⟩;refine ak.wf fun e9=>?_;obtain ⟨He,Hf,t9,Hg,Hh⟩:=hbo.lens;have hat:=fun q:j < qu.length=>hbo.at q;refine ak.sq fun vS=>.sq fun vX=>.region<|.J Z<|.J Z<|.p (bE (n:=qu.length) fk Z eT.slc O (fy _))<|.p (ca Z Z)<|.nil<|vX<|.if rfl (fun As=>?_) (fun As=>?_)
 ·refine ak.skip<|vS<|.sq fun vZ=>.block<|.sq fun w0=>.region<|.J Z<|.J Z ?_;obtain ⟨DL,Ex,Dd,G6,Ck,Fs,F3,tr,z2,tY,Bv,nV⟩:=bJ.at (i:=j) eT.slc Oa O;refine Ops.p (au fk dH Z tr Z z2)<|.p (ah fA Z Z tY ((dt nV).trans (dT O)))<|.I Z<|.nil<|w0<|.sq fun w1=>?_;obtain ⟨H0,H1,H2⟩:=hat O;refine ak.region<|.J Z<|.p (du Z)<|.p (ae jO jM U Z)<|.p (ah ln Z Z cH Z)<|.J Z ?_;obtain ⟨DM,Ey,Dg,G7,Cp,Ft,F4,tt,zi,tZ,By,o1⟩:=bJ.at (i:=(qu.getD j 0).toNat) cc.slc Ok O;refine Ops.p (au qq gU Z tt (jz O) zi)<|.p (ah nI Z Z tZ ((dt o1).trans (fP O)))<|.p (bE (n:=((Lt.getD ((qu.getD j 0).toNat) [])).length) fk Z (dl.fr ((qu.getD j 0).toNat) O).slc O (fy _))<|.J Z<|.nil<|w1<|.block<|.loop (X:=Nat × List Int × List Int × List Bool × Value × Value × Value × List (List Int)) (fun ⟨x,aY,bc,vn,bM,aT,jc,Lt1⟩=>[(2,.pointer (some ⟨b9,0,none⟩)),(4,num ((2 * gn:Nat):Int)),(5,.pointer (some ⟨a0,0,none⟩)),(8,bM),(9,aT),(10,num ((j:Nat):Int)),(11,num (qu.getD j 0)),(69,rw.getD ((qu.getD j 0).toNat) undef),(70,num ((((Lt.getD ((qu.getD j 0).toNat) [])).length:Nat):Int)),(71,num ((x:Nat):Int))]) (fun ⟨x,aY,bc,vn,bM,aT,jc,Lt1⟩ B=>(x<=2 * gn/\BN (2 * gn) L1 W ((Cg gn rs).map KF) (Jj (2 * gn) (Cg gn rs)) j Lt en fl qu x Lt1 vn aY bc)/\A.le B/\Fresh A B bM 1 (dy aY)/\Fresh A B aT 1 (dy bc)/\Fresh A B jc 1 (cy vn)/\Fresh A B D 1 (fh rw)/\B.get b9=some (.row true [num ((0:Nat):Int),num ((0:Nat):Int),.slice none 0 0,.slice none 0 0] 4)/\B.get a0=some (.row true [D,jc] 2)/\V.blk bM ≠ some b9/\V.blk aT ≠ some b9/\V.blk jc ≠ some b9/\V.blk D ≠ some b9/\V.blk bM ≠ some a0/\V.blk aT ≠ some a0/\V.blk jc ≠ some a0/\V.blk D ≠ some a0/\bx bM aT/\bx bM jc/\bx bM D/\bx aT jc/\bx aT D/\bx jc D/\mq A B rw Lt1/\dn rw b9/\dn rw a0/\be bM rw/\be aT rw/\be jc rw/\be D rw) (fun ⟨x,aY,bc,vn,bM,aT,jc,Lt1⟩=>2 * gn - x) (⟨0,fl,qu,en,fv,qv,kE,Lt⟩) (Fy Z Z Z Z Z Z Z Z Z Z) (⟨⟨XK _,BN.start hbo O⟩,hv,iD,eT,dL,cc,eV,cH,h0,h1,e0,dJ,gq,gC,dI,d2,hT,hU,hV,hW,hX,fO,dl,ec,dS,gG,gM,ev,ex⟩) ?_;rintro ⟨x,aY,bc,vn,bM,aT,jc,Lt1⟩ B214 ⟨⟨hx,hbn⟩,lE,dM,fI,fE,dd,g9,dV,b0,aA,az,bl,aE,a8,a7,b5,b1,b2,c3,aC,br,bu,dm,b7,aZ,aG,ai,ap,bb⟩;refine ak.wf fun lY=>?_;obtain ⟨Hi,Hj,Hk,Hl,Hm⟩:=hbn.lens;obtain ⟨Bp,Ho,Hp⟩:=hbn.facts;refine ak.sq fun w2=>.region<|.p (ca Z Z)<|.nil<|w2<|.sq fun w3=>.if rfl (fun At=>?_) (fun At=>?_)
  ·refine ak.skip<|w3<|.sq fun iN=>.block<|.sq fun w4=>.region<|.J Z ?_;obtain ⟨DO,Ez,Di,G8,Cq,Fv,F6,tv,zs,u0,BA,o2⟩:=bJ.at (i:=x) (dm.fr ((qu.getD j 0).toNat) O).slc Oa O;refine Ops.p (au fk dH Z tv Z zs)<|.p (ah fA Z Z u0 ((dt o2).trans (dT O)))<|.I Z<|.I Z<|.nil<|w4<|.sq fun w5=>.region<|.I Z<|.nil ?_;refine w5<|.join (fun f A1=>aj [(14,num ((zt Lt1 vn aY bc (qu.getD j 0).toNat x))),(2,.pointer (some ⟨b9,0,none⟩)),(4,num ((2 * gn:Nat):Int)),(5,.pointer (some ⟨a0,0,none⟩)),(8,bM),(9,aT),(10,num ((j:Nat):Int)),(11,num (qu.getD j 0)),(69,rw.getD ((qu.getD j 0).toNat) undef),(70,num ((((Lt.getD ((qu.getD j 0).toNat) [])).length:Nat):Int)),(71,num ((x:Nat):Int)),(72,.bool (decide (x < ((Lt.getD ((qu.getD j 0).toNat) [])).length))),(73,num ((x:Nat):Int)),(75,num (((Lt1.getD ((qu.getD j 0).toNat) [])).getD x 0)),(12,num ((x:Nat):Int)),(13,num (((Lt1.getD ((qu.getD j 0).toNat) [])).getD x 0))] f.e/\f.ds=[]/\B214.le A1/\A1.wf) ?_ ?_
   ·have lB:=AH.le.refl B214;refine ak.sq fun w6=>.region<|.J Z<|.p (PK Z Z)<|.nil<|w6<|.if rfl (fun Av=>?_) (fun Av=>?_)
    ·obtain ⟨Hb,Hc,Hd⟩:=hbn.fail ‹_›;refine ak.drawn [0,1,2,3,4,5,6,7,8,9,10,11,12,13] mixed Y Y Z<|.p Z (aN Z)<|.p Z (du Z)<|.p Z (ae jO jM U Z)<|.p Z (ah ln Z Z dV Z)<|.p Z (aN Z)<|.p Z (aN Z) ?_;obtain ⟨DS,EA,Dj,G9,Cs,FD,F7,tw,zu,u1,BB,o3⟩:=bJ.at (i:=(qu.getD j 0).toNat) dM.slc Oa O;refine bn.p Z (au fk dH Z tw (jz O) zu)<|.p Z (ah fA Z Z u1 ((dt o3).trans (dT O))) ?_;obtain ⟨DV,EC,Dk,Gc,Cu,FE,F8,tz,zE,u8,BC,oa⟩:=bJ.at (i:=(aY.getD ((qu.getD j 0).toNat) 0).toNat) dd.slc Ok O;refine bn.p Z (au qq gU Z tz (jz O) zE)<|.p Z (ah nI Z Z u8 ((dt oa).trans (fP O)))<|.p Z (aN Z) ?_;obtain ⟨DW,EG,Dl,Gd,CB,FI,F9,tB,zI,ub,BD,ob⟩:=bJ.at (i:=x) (dm.fr ((aY.getD ((qu.getD j 0).toNat) 0).toNat) O).slc Oa O;refine bn.p Z (au fk dH Z tB Z zI)<|.p Z (ah fA Z Z ub ((dt ob).trans (dT O)))<|.p Z (dB Z)<|.done ?_;exact ⟨aj.cons (Xk some (by exact aaE ‹_› Bp))<|aj.cons Z<|aj.cons Z<|aj.cons Z<|aj.cons Z<|aj.cons Z<|aj.cons Z<|aj.cons Z<|aj.cons Z<|aj.cons Z<|aj.cons Z<|aj.cons Z<|aj.cons Z<|aj.cons Z<|aj.cons Z<|aj.cons Z<|aj.nil _,Z,lB,lY⟩
    refine ak.skip ?_;exact ⟨aj.cons (Xk some (by exact toOf_z ‹_›))<|aj.cons Z<|aj.cons Z<|aj.cons Z<|aj.cons Z<|aj.cons Z<|aj.cons Z<|aj.cons Z<|aj.cons Z<|aj.cons Z<|aj.cons Z<|aj.cons Z<|aj.cons Z<|aj.cons Z<|aj.cons Z<|aj.cons Z<|aj.nil _,Z,lB,lY⟩
   rintro ⟨fe,fd⟩ A237 ⟨hE,rfl,bY,it⟩;refine ak.forget hE ?_;have n1:=bY.g g9;have iR:=bY.g dV;have ka:=dM.le bY;have kc:=fI.le bY;have kl:=fE.le bY;have hk:=dd.le bY;have cF:=dm.le bY;have lF:=lE.trans bY;refine ak.sq fun w7=>.sq fun wc=>.region<|.J Z<|.p (kY Z Z)<|.nil<|wc<|.if rfl (fun Ay=>?_) (fun Ay=>?_)
   ·refine ak.sq fun wl=>.region<|.J Z<|.p (du Z)<|.p (ae jO jM U Z)<|.p (ah ln Z Z iR Z)<|.J Z ?_;obtain ⟨DZ,EL,Dm,Ge,CC,FL,Fd,tF,zS,ui,BL,oi⟩:=bJ.at (i:=(qu.getD j 0).toNat) hk.slc Ok O;refine Ops.p (au qq gU Z tF (jz O) zS)<|.p (ah nI Z Z ui ((dt oi).trans (fP O)))<|.J Z<|.J Z ?_;obtain ⟨h8,FM,El,AR,CF,eC,zU,up,GM,Ad,Gp,y9⟩:=cF.at (s:=(qu.getD j 0).toNat) (x:=x) O O;refine Ops.p (au fk dH Z eC Z (by rw [zU];omega))<|.m (fun qA=>aW (off:=x) (c':=AR.set x (num ((zt Lt1 vn aY bc (qu.getD j 0).toNat x)))) it rfl (by simp) rfl rfl dH up (by show x + 1<=_;omega) rfl rfl fun A257 cu=>?_);have wm:=cu.k (fun q=>eI b7 (s:=(qu.getD j 0).toNat) (by have:=cF.len;omega) (by rw [eC];exact Xk some q.symm)) n1;have wp:=cu.k (fun q=>eI aZ (s:=(qu.getD j 0).toNat) (by have:=cF.len;omega) (by rw [eC];exact Xk some q.symm)) iR;have p6:=ka.keep cu.keep (fun q=>eI aG (s:=(qu.getD j 0).toNat) (by have:=cF.len;omega) h8 q (by rw [eC];rfl));have p7:=kc.keep cu.keep (fun q=>eI ai (s:=(qu.getD j 0).toNat) (by have:=cF.len;omega) h8 q (by rw [eC];rfl));have p8:=kl.keep cu.keep (fun q=>eI ap (s:=(qu.getD j 0).toNat) (by have:=cF.len;omega) h8 q (by rw [eC];rfl));have p9:=hk.keep cu.keep (fun q=>eI bb (s:=(qu.getD j 0).toNat) (by have:=cF.len;omega) h8 q (by rw [eC];rfl));have oJ:=y9 (((zt Lt1 vn aY bc (qu.getD j 0).toNat x))) A257 cu;refine qA<|.nil<|wl<|.exit<|iN<|.region<|.p (bF (b:=1) Z Z O)<|.J Z<|.nil ?_;exact ⟨⟨x + 1,aY,bc,vn,bM,aT,jc,Lt1.set ((qu.getD j 0).toNat) ((Lt1.getD ((qu.getD j 0).toNat) []).set x (((zt Lt1 vn aY bc (qu.getD j 0).toNat x))))⟩,Fy Z Z Z Z Z Z Z Z Z Z,Z,⟨⟨by omega,by exact hbn.neg O ‹_›⟩,(al lF wf Ad cu.n cu.keep),p6,p7,p8,p9,wm,wp,b0,aA,az,bl,aE,a8,a7,b5,b1,b2,c3,aC,br,bu,oJ,b7,aZ,aG,ai,ap,bb⟩,O1⟩
   refine ak.skip<|w7<|.sq fun wy=>?_;obtain ⟨Hr,Hs⟩:=hbn.to (show x < 2 * gn by omega);have Hn:=hbn.met (show x < 2 * gn by omega);refine ak.region<|.J Z<|.J Z<|.J Z ?_;obtain ⟨h9,FN,En,AS,CH,eG,nE,us,GN,Af,Gq,yt⟩:=ka.at1 (x:=(((Lt1.getD ((qu.getD j 0).toNat) [])).getD x 0).toNat) Oa;rw [aJ] at nE;refine Ops.p (au fk dH Z eG (jz O) (by rw [nE];omega))<|.m (fun qB=>aW (off:=(((Lt1.getD ((qu.getD j 0).toNat) [])).getD x 0).toNat) (c':=AS.set ((((Lt1.getD ((qu.getD j 0).toNat) [])).getD x 0).toNat) (num ((zt Lt1 vn aY bc (qu.getD j 0).toNat x)))) it rfl (by simp) rfl rfl dH us (by show ((((Lt1.getD ((qu.getD j 0).toNat) [])).getD x 0).toNat) + 1<=_;omega) rfl rfl fun A271 bB=>?_);have n2:=bB.k (fun q=>b0 (by rw [eG];exact Xk some q.symm)) n1;have g7:=bB.k (fun q=>aE (by rw [eG];exact Xk some q.symm)) iR;have km:=kc.keep bB.keep (b1 h9 (by rw [eG];rfl));have g1:=kl.keep bB.keep (b2 h9 (by rw [eG];rfl));have kp:=hk.keep bB.keep (c3 h9 (by rw [eG];rfl));have jn:=cF.keep bB.keep (fun r hr=>aG r hr h9 (by rw [eG];rfl));have hl:=yt (num ((zt Lt1 vn aY bc (qu.getD j 0).toNat x))) A271 bB;rw [ji] at hl;have lK:=al lF wf Af bB.n bB.keep;refine qB<|.nil<|wy<|.sq fun n3=>.drawn [0,1,2,3,4,5,6,7,8,9,10,11,12,13,14,15,16,17,18,19,20,21,22] mixed Y Y Z<|.p Z (aN Z)<|.p Z (du Z)<|.p Z (ae nZ jt U Z)<|.p Z (ah jr Z Z g7 Z)<|.p Z (aN Z) ?_;refine bn.p Z (aN Z)<|.p Z (du Z)<|.p Z (ae nZ jt U Z)<|.p Z (ah jr Z Z g7 Z)<|.p Z (aN Z) ?_;obtain ⟨E2,EN,Do,Gf,CK,FO,Fe,tI,zV,uw,BM,oj⟩:=bJ.at (i:=(((Lt1.getD ((qu.getD j 0).toNat) [])).getD x 0).toNat) g1.slc Of O;refine bn.p Z (au nA nR Z tI (jz O) zV)<|.p Z (ah wQ Z Z uw ((dt oj).trans (fg O)))<|.p Z (aN Z)<|.partB (t:=119) Z (fun Az=>?_) (fun Az=>?_)
   ·refine bn.qOff Z Z Z Z Z Z<|.qOff Z Z Z Z Z Z<|.qOff Z Z Z Z Z Z<|.qOff Z Z Z Z Z Z<|.qOff Z Z Z Z Z Z<|.qOff Z Z Z Z Z Z<|.qOff Z Z Z Z Z Z<|.p Z (aL Z Z) ?_;obtain ⟨ha,FQ,Eq,AT,CL,eL,nH,uB,GP,Ag,Gs,yS⟩:=g1.at1 (x:=(((Lt1.getD ((qu.getD j 0).toNat) [])).getD x 0).toNat) Of;rw [bQ] at nH;refine bn.p Z (au nA nR Z eL (jz O) (by rw [nH];omega))<|.m Z (fun qD=>aW (off:=(((Lt1.getD ((qu.getD j 0).toNat) [])).getD x 0).toNat) (c':=AT.set ((((Lt1.getD ((qu.getD j 0).toNat) [])).getD x 0).toNat) (.bool (true))) bB.wf rfl (by simp) rfl rfl nR uB (by show ((((Lt1.getD ((qu.getD j 0).toNat) [])).getD x 0).toNat) + 1<=_;omega) rfl rfl fun A290 bC=>?_);have wz:=bC.k (fun q=>az (by rw [eL];exact Xk some q.symm)) n2;have wC:=bC.k (fun q=>a7 (by rw [eL];exact Xk some q.symm)) g7;have pa:=hl.keep bC.keep ((bx.symm b2) ha (by rw [eL];rfl));have pe:=km.keep bC.keep ((bx.symm aC) ha (by rw [eL];rfl));have pf:=kp.keep bC.keep (bu ha (by rw [eL];rfl));have jN:=jn.keep bC.keep (fun r hr=>ap r hr ha (by rw [eL];rfl));have kv:=yS (.bool (true)) A290 bC;rw [mI] at kv;refine qD (aU.none Y)<|.done<|n3<|.region<|.J Z<|.J Z<|.m (fun qN=>bf (c:=[num (((Lt1.getD ((qu.getD j 0).toNat) [])).getD x 0)]) bC.wf rfl (aw fk dH z3 rfl U U rfl) fun A302 E3 av=>?_);have C3:=jN.ne_new bC.wf av.lo;have n4:=av.le.g wz;have n6:=av.le.g wC;have kA:=pa.le av.le;have kC:=pe.le av.le;have kD:=kv.le av.le;have kK:=pf.le av.le;have jX:=jN.le av.le;have rq:=(al lK wf Ag bC.n bC.keep).trans av.le;refine qN<|.m (fun qP=>ct (ys:=[num (((Lt1.getD ((qu.getD j 0).toNat) [])).getD x 0)]) rfl rfl fk dH pd z3 rfl U fk (fun _ h=>by cases h) kC.own (bN (n:=1) av.get Z) rfl rfl (by show (_ + _) * 8<=_;simp only [aJ,Xq,Xz];(try simp only [Xx,Xq,Xz]);omega) O2 fun A318 B0 aI=>?_);rw [show ([num (((Lt1.getD ((qu.getD j 0).toNat) [])).getD x 0)]:List Value)=dy [((Lt1.getD ((qu.getD j 0).toNat) [])).getD x 0] from rfl,eo] at aI;obtain ⟨pi,rr⟩:=Fresh.grow kC rq wf aI;have wF:=aI.keep aA n4;have rW:=aI.ne aA av.wf n4;have wL:=aI.keep a8 n6;have s0:=aI.ne a8 av.wf n6;have sN:=bx.appd (show bx aT bM from (bx.symm b1)) kA.own av.wf aI;have pj:=kA.appd aI (bx.symm b1);have sP:=bx.appd (show bx aT jc from aC) kD.own av.wf aI;have pl:=kD.appd aI aC;have sQ:=bx.appd (show bx aT D from br) kK.own av.wf aI;have pp:=kK.appd aI br;have sR:=be.appd (show be aT rw from ai) jX av.wf aI;have oK:=jX.appd aI (show be aT rw from ai);refine qP<|.I Z<|.nil<|iN<|.region<|.p (bF (b:=1) Z Z O)<|.J Z<|.nil ?_;exact ⟨⟨x + 1,aY.set ((((Lt1.getD ((qu.getD j 0).toNat) [])).getD x 0).toNat) (((zt Lt1 vn aY bc (qu.getD j 0).toNat x))),bc ++ [((Lt1.getD ((qu.getD j 0).toNat) [])).getD x 0],vn.set ((((Lt1.getD ((qu.getD j 0).toNat) [])).getD x 0).toNat) true,bM,B0,jc,Lt1⟩,Fy Z Z Z Z Z Z Z Z Z Z,Z,⟨⟨by omega,by exact hbn.pos O ‹_› (by rw [‹vn.getD ((Lt1.getD (qu.getD j 0).toNat []).getD x 0).toNat false=true›];rfl)⟩,rr,pj,pi,pl,pp,wF,wL,b0,rW,az,bl,aE,s0,a7,b5,(bx.symm sN),b2,c3,sP,sQ,bu,oK,b7,aZ,aG,sR,ap,bb⟩,O1⟩
   refine bn.qOn Z Z Z Z Z (aN Z)<|.qOn Z Z Z Z Z (du Z)<|.qOn Z Z Z Z Z (ae nZ jt U Z)<|.qOn Z Z Z Z Z (ah jr Z Z g7 Z)<|.qOn Z Z Z Z Z (aN Z) ?_;obtain ⟨E4,EQ,Ds,Gg,CR,FS,Fi,tJ,A6,uI,BP,ov⟩:=bJ.at (i:=((zt Lt1 vn aY bc (qu.getD j 0).toNat x)).toNat) g1.slc Of O;refine bn.qOn Z Z Z Z Z (au nA nR Z tJ (jz O) A6)<|.qOn Z Z Z Z Z (ah wQ Z Z uI ((dt ov).trans (fg O)))<|.p Z (bh Z Z) ?_;obtain ⟨hb,FT,Es,AV,CS,eN,nJ,uP,GQ,Ai,GC,yT⟩:=g1.at1 (x:=(((Lt1.getD ((qu.getD j 0).toNat) [])).getD x 0).toNat) Of;rw [bQ] at nJ;refine bn.p Z (au nA nR Z eN (jz O) (by rw [nJ];omega))<|.m Z (fun qR=>aW (off:=(((Lt1.getD ((qu.getD j 0).toNat) [])).getD x 0).toNat) (c':=AV.set ((((Lt1.getD ((qu.getD j 0).toNat) [])).getD x 0).toNat) (.bool (vn.getD (((zt Lt1 vn aY bc (qu.getD j 0).toNat x)).toNat) false))) bB.wf rfl (by simp) rfl rfl nR uP (by show ((((Lt1.getD ((qu.getD j 0).toNat) [])).getD x 0).toNat) + 1<=_;omega) rfl rfl fun A342 bD=>?_);have wM:=bD.k (fun q=>az (by rw [eN];exact Xk some q.symm)) n2;have wP:=bD.k (fun q=>a7 (by rw [eN];exact Xk some q.symm)) g7;have pu:=hl.keep bD.keep ((bx.symm b2) hb (by rw [eN];rfl));have pv:=km.keep bD.keep ((bx.symm aC) hb (by rw [eN];rfl));have pA:=kp.keep bD.keep (bu hb (by rw [eN];rfl));have k0:=jn.keep bD.keep (fun r hr=>ap r hr hb (by rw [eN];rfl));have kL:=yT (.bool (vn.getD (((zt Lt1 vn aY bc (qu.getD j 0).toNat x)).toNat) false)) A342 bD;rw [mI] at kL;refine qR (aU.none Y)<|.done<|n3<|.region<|.J Z<|.J Z<|.m (fun qT=>bf (c:=[num (((Lt1.getD ((qu.getD j 0).toNat) [])).getD x 0)]) bD.wf rfl (aw fk dH z3 rfl U U rfl) fun A354 E5 ay=>?_);have C4:=k0.ne_new bD.wf ay.lo;have n7:=ay.le.g wM;have n9:=ay.le.g wP;have kM:=pu.le ay.le;have kP:=pv.le ay.le;have kT:=kL.le ay.le;have kV:=pA.le ay.le;have k1:=k0.le ay.le;have rA:=(al lK wf Ai bD.n bD.keep).trans ay.le;refine qT<|.m (fun qU=>ct (ys:=[num (((Lt1.getD ((qu.getD j 0).toNat) [])).getD x 0)]) rfl rfl fk dH pd z3 rfl U fk (fun _ h=>by cases h) kP.own (bN (n:=1) ay.get Z) rfl rfl (by show (_ + _) * 8<=_;simp only [aJ,Xq,Xz];(try simp only [Xx,Xq,Xz]);omega) O2 fun A370 B2 aP=>?_);rw [show ([num (((Lt1.getD ((qu.getD j 0).toNat) [])).getD x 0)]:List Value)=dy [((Lt1.getD ((qu.getD j 0).toNat) [])).getD x 0] from rfl,eo] at aP;obtain ⟨pE,rB⟩:=Fresh.grow kP rA wf aP;have wS:=aP.keep aA n7;have s1:=aP.ne aA ay.wf n7;have wY:=aP.keep a8 n9;have s2:=aP.ne a8 ay.wf n9;have sS:=bx.appd (show bx aT bM from (bx.symm b1)) kM.own ay.wf aP;have pF:=kM.appd aP (bx.symm b1);have sT:=bx.appd (show bx aT jc from aC) kT.own ay.wf aP;have pI:=kT.appd aP aC;have sV:=bx.appd (show bx aT D from br) kV.own ay.wf aP;have pJ:=kV.appd aP br;have sZ:=be.appd (show be aT rw from ai) k1 ay.wf aP;have oN:=k1.appd aP (show be aT rw from ai);refine qU<|.I Z<|.nil<|iN<|.region<|.p (bF (b:=1) Z Z O)<|.J Z<|.nil ?_;exact ⟨⟨x + 1,aY.set ((((Lt1.getD ((qu.getD j 0).toNat) [])).getD x 0).toNat) (((zt Lt1 vn aY bc (qu.getD j 0).toNat x))),bc ++ [((Lt1.getD ((qu.getD j 0).toNat) [])).getD x 0],vn.set ((((Lt1.getD ((qu.getD j 0).toNat) [])).getD x 0).toNat) (vn.getD (((zt Lt1 vn aY bc (qu.getD j 0).toNat x)).toNat) false),bM,B2,jc,Lt1⟩,Fy Z Z Z Z Z Z Z Z Z Z,Z,⟨⟨by omega,by exact hbn.pos O ‹_› (by rw [‹vn.getD ((Lt1.getD (qu.getD j 0).toNat []).getD x 0).toNat false=false›,Bool.false_or])⟩,rB,pF,pE,pI,pJ,wS,wY,b0,s1,az,bl,aE,s2,a7,b5,(bx.symm sS),b2,c3,sT,sV,bu,oN,b7,aZ,aG,sZ,ap,bb⟩,O1⟩
  refine ak.exit<|vZ<|.region<|.J Z<|.p (bF (b:=1) Z Z O)<|.I Z<|.nil ?_;exact ⟨⟨j + 1,aY,bc,vn,bM,aT,jc,Lt1⟩,ya Z Z Z Z Z Z,Z,⟨BO.next hbn O,lE,dM,fI,fE,dd,g9,dV,b0,aA,az,bl,aE,a8,a7,b5,b1,b2,c3,aC,br,bu,dm,b7,aZ,aG,ai,ap,bb⟩,O1⟩
 refine ak.exit<|v9<|.sq fun wZ=>?_;obtain ⟨hR,hAh⟩:=hbo.fin' O;have hpw:=hAh.pos;refine ak.region<|.J Z<|.p (cx Z (bg u62 Ri Vl Z))<|.m (fun qV=>bZ e9 Ri rfl fun A393 bp aR=>?_);have dz:=ne_new e9 eV aR.lo;have d1:=ne_new e9 cH aR.lo;have lS:=dL.own.ne_new e9 aR.lo;have lT:=cc.own.ne_new e9 aR.lo;have lW:=dl.ne_new e9 aR.lo;have f9:=aX wf (Xj hv.n aR.lo);have oP:=dl.le aR.le;refine qV<|.m (fun r1=>aW (cs:=[num ((2 * gn:Nat):Int),num ((0:Nat):Int),.slice none 0 0,.slice none 0 0]) (c':=[num ((2 * gn:Nat):Int),num ((0:Nat):Int),.slice none 0 0,.slice none 0 0]) aR.wf rfl rfl rfl rfl lg aR.get G rfl rfl fun A409 cP=>?_);have x0:=cP.k dz (aR.le.g eV);have nb:=cP.k d1 (aR.le.g cH);have pL:=(dL.le aR.le).keep cP.keep lS;have l0:=(cc.le aR.le).keep cP.keep lT;have oQ:=oP.keep cP.keep lW;have rF:=al (hv.trans aR.le) wf f9 cP.n cP.keep;refine r1<|.nil<|wZ<|.sq fun x1=>.sq fun x2=>.region<|.J Z<|.p (du Z)<|.p (ae jO jM U Z)<|.p (ah ln Z Z nb Z) ?_;refine Ops.p (bE (n:=rw.length) qq Z l0.slc O (jJ _))<|.J Z<|.nil<|x2<|.block<|.loop (X:=Nat × List Value × List Bool × Value × Value × List (List Int)) (fun ⟨s,hd,ac,a4,aB,Lc⟩=>[(2,.pointer (some ⟨b9,0,none⟩)),(5,.pointer (some ⟨a0,0,none⟩)),(15,.pointer (some ⟨bp,0,none⟩)),(139,D),(140,num ((rw.length:Nat):Int)),(141,num ((s:Nat):Int))]) (fun ⟨s,hd,ac,a4,aB,Lc⟩ B=>(s<=rw.length/\Lc=o8 en Lt s 0/\hd=rw.take s/\ac=(en.take s).map (fun e=>!e))/\A.le B/\Fresh A B a4 1 (cy ac)/\Fresh A B aB 1 (fh hd)/\Fresh A B kE 1 (cy en)/\Fresh A B D 1 (fh rw)/\B.get b9=some (.row true [num ((0:Nat):Int),num ((0:Nat):Int),.slice none 0 0,.slice none 0 0] 4)/\B.get a0=some (.row true [D,kE] 2)/\B.get bp=some (.row true [num ((2 * gn:Nat):Int),num ((0:Nat):Int),a4,aB] 4)/\V.blk a4 ≠ some b9/\V.blk aB ≠ some b9/\V.blk kE ≠ some b9/\V.blk D ≠ some b9/\V.blk a4 ≠ some a0/\V.blk aB ≠ some a0/\V.blk kE ≠ some a0/\V.blk D ≠ some a0/\V.blk a4 ≠ some bp/\V.blk aB ≠ some bp/\V.blk kE ≠ some bp/\V.blk D ≠ some bp/\bx a4 aB/\bx a4 kE/\bx a4 D/\bx aB kE/\bx aB D/\bx kE D/\mq A B rw Lc/\dn rw b9/\dn rw a0/\dn rw bp/\be a4 rw/\be aB rw/\be kE rw/\be D rw) (fun ⟨s,hd,ac,a4,aB,Lc⟩=>rw.length - s) (⟨0,[],[],.slice none 0 0,.slice none 0 0,Lt⟩) (ya Z Z Z Z Z Z) (⟨⟨XK _,Jw.symm,by simp,by simp⟩,rF,(Fresh.nil A A409 1),(Fresh.nil A A409 1),pL,l0,x0,nb,cP.get,(fun q=>by cases q),(fun q=>by cases q),e0,dJ,(fun q=>by cases q),(fun q=>by cases q),dI,d2,(fun q=>by cases q),(fun q=>by cases q),lS,lT,bx.nil,bx.nil,bx.nil,bx.nil,bx.nil,fO,oQ,ec,dS,lW,be.nil,be.nil,ev,ex⟩) ?_;rintro ⟨s,hd,ac,a4,aB,Lc⟩ B424 ⟨⟨Hq,hLc,hhd,hac⟩,dw,fD,dO,hf,eY,cB,fL,ch,gp,gs,fT,fV,fR,fS,fq,ft,fn,fo,f4,f6,hY,hZ,i1,i2,ih,ir,dv,eg,g8,fQ,gL,gN,gP,gQ⟩;refine ak.wf fun lZ=>?_;have hcl:Lc.length=Lt.length:=by rw [hLc];exact Fj
 have hhl:hd.length=s:=by rw [hhd,XZ];omega
 have hacl:ac.length=s:=by rw [hac,TX,XZ];omega
 refine ak.sq fun x3=>.region<|.p (ca Z Z)<|.nil<|x3<|.sq fun x4=>.if rfl (fun AA=>?_) (fun AA=>?_)
 ·refine ak.skip<|x4<|.sq fun x5=>.block<|.sq fun x6=>.region<|.J Z ?_;obtain ⟨E6,ES,Dv,Gl,CU,FV,Fl,tO,A7,uS,BR,ow⟩:=bJ.at (i:=s) eY.slc Ok O;refine Ops.p (au qq gU Z tO Z A7)<|.p (ah nI Z Z uS ((dt ow).trans (fP O)))<|.I Z<|.I Z<|.nil<|x6<|.sq fun x7=>.sq fun x8=>.region<|.J Z ?_;refine Ops.p (bE (n:=((Lc.getD s [])).length) fk Z (dv.fr s O).slc O (fy _))<|.J Z<|.nil<|x8<|.block ?_;have hrs:(Lt.getD s []).length=2 * gn:=hAh.row s O;have F0:(Lc.getD s []).length=2 * gn:=by rw [hLc,uu O,Fk];exact hrs
  refine ak.loop (X:=Nat × List (List Int)) (fun ⟨y,Lc1⟩=>[(2,.pointer (some ⟨b9,0,none⟩)),(5,.pointer (some ⟨a0,0,none⟩)),(15,.pointer (some ⟨bp,0,none⟩)),(16,num ((s:Nat):Int)),(17,rw.getD s undef),(139,D),(140,num ((rw.length:Nat):Int)),(141,num ((s:Nat):Int)),(146,rw.getD s undef),(147,num ((((Lc.getD s [])).length:Nat):Int)),(148,num ((y:Nat):Int))]) (fun ⟨y,Lc1⟩ B=>(y<=2 * gn/\Lc1=o8 en Lt s y)/\A.le B/\Fresh A B a4 1 (cy ac)/\Fresh A B aB 1 (fh hd)/\Fresh A B kE 1 (cy en)/\Fresh A B D 1 (fh rw)/\B.get b9=some (.row true [num ((0:Nat):Int),num ((0:Nat):Int),.slice none 0 0,.slice none 0 0] 4)/\B.get a0=some (.row true [D,kE] 2)/\B.get bp=some (.row true [num ((2 * gn:Nat):Int),num ((0:Nat):Int),a4,aB] 4)/\V.blk a4 ≠ some b9/\V.blk aB ≠ some b9/\V.blk kE ≠ some b9/\V.blk D ≠ some b9/\V.blk a4 ≠ some a0/\V.blk aB ≠ some a0/\V.blk kE ≠ some a0/\V.blk D ≠ some a0/\V.blk a4 ≠ some bp/\V.blk aB ≠ some bp/\V.blk kE ≠ some bp/\V.blk D ≠ some bp/\bx a4 aB/\bx a4 kE/\bx a4 D/\bx aB kE/\bx aB D/\bx kE D/\mq A B rw Lc1/\dn rw b9/\dn rw a0/\dn rw bp/\be a4 rw/\be aB rw/\be kE rw/\be D rw) (fun ⟨y,Lc1⟩=>2 * gn - y) (⟨0,Lc⟩) (vo Z Z Z Z Z Z Z Z Z Z Z) (⟨⟨XK _,hLc⟩,dw,fD,dO,hf,eY,cB,fL,ch,gp,gs,fT,fV,fR,fS,fq,ft,fn,fo,f4,f6,hY,hZ,i1,i2,ih,ir,dv,eg,g8,fQ,gL,gN,gP,gQ⟩) ?_;rintro ⟨y,Lc1⟩ B441 ⟨⟨hy,fi⟩,hw,d3,dj,cb,di,eX,cK,ck,bd,bm,c4,c7,b3,b6,bO,bP,ab,aS,ad,ag,cU,cV,cX,cZ,d0,e2,a1,bR,bv,a6,b8,ba,bS,bT⟩;refine ak.wf fun hK=>?_;have EZ:Lc1.length=Lt.length:=by rw [fi];exact Fj
  have hrc:(Lc1.getD s []).length=2 * gn:=by rw [fi,uu O,Fk];exact hrs
  have hce:=fun q:y < 2 * gn=>(show (Lc1.getD s []).getD y 0=(Lt.getD s []).getD y 0 by rw [fi];exact N5 O O);have hca:=fun q:y < 2 * gn=>hAh.at (s:=s) (x:=y) O q;refine ak.sq fun x9=>.region<|.p (ca Z Z)<|.nil<|x9<|.sq fun xn=>.if rfl (fun AB=>?_) (fun AB=>?_)
  ·refine ak.skip<|xn<|.sq fun nc=>.block<|.sq fun xr=>.region<|.J Z ?_;obtain ⟨E7,ET,Dw,Gm,CV,G0,Fm,tR,A8,uW,BT,ox⟩:=bJ.at (i:=y) (a1.fr s O).slc Oa O;refine Ops.p (au fk dH Z tR Z A8)<|.p (ah fA Z Z uW ((dt ox).trans (dT O)))<|.I Z<|.I Z<|.nil<|xr<|.sq fun xt=>?_;obtain ⟨H8,H9⟩:=hca O;have Ha:=hce O;refine ak.region<|.J Z<|.p (du Z)<|.p (ae nZ jt U Z)<|.p (ah jr Z Z cK Z)<|.J Z ?_;obtain ⟨E9,EV,Dz,Gn,D0,G1,Fn,tS,A9,v0,BU,oy⟩:=bJ.at (i:=(((Lc1.getD s [])).getD y 0).toNat) cb.slc Of O;refine Ops.p (au nA nR Z tS (jz O) A9)<|.p (ah wQ Z Z v0 ((dt oy).trans (fg O)))<|.nil<|xt<|.ifB Z (fun AC=>?_) (fun AC=>?_)
   ·refine ak.region<|.J Z<|.J Z ?_;obtain ⟨he,G2,Et,AY,D1,dK,Aa,v1,GS,Ap,GD,z0⟩:=a1.at (s:=s) (x:=y) O O;refine Ops.p (au fk dH Z dK Z (by rw [Aa];omega))<|.m (fun r2=>aW (off:=y) (c':=AY.set y (num (-1))) hK rfl (by simp) rfl rfl dH v1 (by show y + 1<=_;omega) rfl rfl fun A459 bU=>?_);have xA:=bU.k (fun q=>eI bR (s:=s) (by have:=a1.len;omega) (by rw [dK];exact Xk some q.symm)) eX;have xF:=bU.k (fun q=>eI bv (s:=s) (by have:=a1.len;omega) (by rw [dK];exact Xk some q.symm)) cK;have xN:=bU.k (fun q=>eI a6 (s:=s) (by have:=a1.len;omega) (by rw [dK];exact Xk some q.symm)) ck;have pP:=d3.keep bU.keep (fun q=>eI b8 (s:=s) (by have:=a1.len;omega) he q (by rw [dK];rfl));have pS:=dj.keep bU.keep (fun q=>eI ba (s:=s) (by have:=a1.len;omega) he q (by rw [dK];rfl));have pU:=cb.keep bU.keep (fun q=>eI bS (s:=s) (by have:=a1.len;omega) he q (by rw [dK];rfl));have pV:=di.keep bU.keep (fun q=>eI bT (s:=s) (by have:=a1.len;omega) he q (by rw [dK];rfl));have oR:=z0 ((-1)) A459 bU;have rO:=al hw wf Ap bU.n bU.keep;refine r2<|.nil<|nc<|.region<|.p (bF (b:=1) Z Z O)<|.J Z<|.nil ?_;exact ⟨⟨y + 1,Lc1.set s ((Lc1.getD s []).set y ((-1)))⟩,vo Z Z Z Z Z Z Z Z Z Z Z,Z,⟨⟨by omega,by (rw [fi];exact Tc O O (by rw [<- hce O];assumption))⟩,rO,pP,pS,pU,pV,xA,xF,xN,bd,bm,c4,c7,b3,b6,bO,bP,ab,aS,ad,ag,cU,cV,cX,cZ,d0,e2,oR,bR,bv,a6,b8,ba,bS,bT⟩,O1⟩
   refine ak.skip<|nc<|.region<|.p (bF (b:=1) Z Z O)<|.J Z<|.nil ?_;exact ⟨⟨y + 1,Lc1⟩,vo Z Z Z Z Z Z Z Z Z Z Z,Z,⟨⟨by omega,by (rw [fi];exact YG O O (by rw [<- hce O];assumption))⟩,hw,d3,dj,cb,di,eX,cK,ck,bd,bm,c4,c7,b3,b6,bO,bP,ab,aS,ad,ag,cU,cV,cX,cZ,d0,e2,a1,bR,bv,a6,b8,ba,bS,bT⟩,O1⟩
  refine ak.exit<|x7<|.sq fun xR=>?_;obtain ⟨hQ,hP,hM,hsh,_⟩:=(a1.fr s O).own.slice;rw [hsh];refine ak.region<|.p (ae m4 jM U Z)<|.p (ah ln Z Z ck Z)<|.J Z<|.m (fun r3=>bf (c:=[.slice hQ hP hM]) hK rfl (aw qq gU RC rfl U U rfl) fun A474 Ea a5=>?_);have C7:=a1.ne_new hK a5.lo;have nd:=a5.le.g eX;have nj:=a5.le.g cK;have nk:=a5.le.g ck;have l1:=d3.le a5.le;have l4:=dj.le a5.le;have l6:=cb.le a5.le;have l7:=di.le a5.le;have k2:=a1.le a5.le;refine r3<|.m (fun r4=>ct (ys:=[.slice hQ hP hM]) rfl rfl qq gU LQ RC rfl U qq (fun _ h=>by cases h) l4.own (bN (n:=1) a5.get Z) rfl rfl (by show (_ + _) * 24<=_;simp only [cJ,Xq,Xz];(try simp only [Xx,Xq,Xz]);omega) OF fun A491 GF a9=>?_);rw [show ([.slice hQ hP hM]:List Value)=fh [Value.slice hQ hP hM] from rfl,rH] at a9;obtain ⟨l9,rQ⟩:=Fresh.grow l4 (hw.trans a5.le) wf a9;have s3:=a9.ne bm a5.wf nd;have s4:=a9.ne b6 a5.wf nj;have hF:=a9.ne aS a5.wf nk;have lX:=bx.appd (show bx aB a4 from (bx.symm cU)) l1.own a5.wf a9;have t0:=bx.appd (show bx aB kE from cZ) l6.own a5.wf a9;have t1:=bx.appd (show bx aB D from d0) l7.own a5.wf a9;have t2:=be.appd (show be aB rw from ba) k2 a5.wf a9;have oS:=k2.appd a9 (show be aB rw from ba);refine r4<|.p (ae m4 jM U Z) ?_;obtain ⟨gD,gc,g6,AF,_⟩:=l9.own.slice;subst AF;refine Ops.m (fun r6=>aW (cs:=[.slice gD gc g6]) (c':=[num ((2 * gn:Nat):Int),num ((0:Nat):Int),a4,.slice gD gc g6]) a9.wf rfl rfl rfl rfl jM (a9.keep aS nk) G rfl rfl fun A514 aV=>?_);have nl:=aV.k d1 (a9.keep b6 nj);have q0:=(l1.appd a9 (bx.symm cU)).keep aV.keep ab;have la:=(l6.appd a9 cZ).keep aV.keep ad;have q1:=(l7.appd a9 d0).keep aV.keep ag;have k3:=oS.keep aV.keep a6;refine r6<|.nil<|xR<|.drawn [0,1,2,3,4,5,6,7,8,9,10,11,12,13] mixed Y Y Z<|.p Z (ae m0 jt U Z) ?_;have q8:=de (off:=2) aV.get (show _=some (a4) from rfl);refine bn.p Z (ah jr Z Z aV.get Z)<|.p Z (aN Z)<|.p Z (du Z)<|.p Z (ae nZ jt U Z)<|.p Z (ah jr Z Z nl Z)<|.p Z (aN Z) ?_;obtain ⟨Ec,EX,DD,Go,D2,G3,Fo,tT,Ab,v2,BV,oz⟩:=bJ.at (i:=s) la.slc Of O;refine bn.p Z (au nA nR Z tT Z Ab)<|.p Z (ah wQ Z Z v2 ((dt oz).trans (fg O)))<|.p Z (eD Z)<|.m Z (fun r7=>bf (c:=[.bool (!(en.getD s false))]) aV.wf rfl (aw nA nR z4 rfl U U rfl) fun A530 Eg a3=>?_);have Cb:=k3.ne_new aV.wf a3.lo;have nn:=a3.le.g (aV.k dz (a9.keep bm nd));have nq:=a3.le.g nl;have nu:=a3.le.g aV.get;have lb:=q0.le a3.le;have lc:=la.le a3.le;have lp:=q1.le a3.le;have lt:=(l9.keep aV.keep hF).le a3.le;have k4:=k3.le a3.le;have q9:=cl a3.le q8;have rR:=(al rQ wf f9 aV.n aV.keep).trans a3.le;refine r7 (aU.list (L:=[(⟨bp,2,none⟩,a4)]) Y (bz q9 cm))<|.m Z (fun r9=>ct (ys:=[.bool (!(en.getD s false))]) rfl rfl nA nR Uj z4 rfl U nA (fun _ h=>by cases h) lb.own (bN (n:=1) a3.get Z) rfl rfl (by show (_ + _) * 1<=_;simp only [bQ,Xq,Xz];(try simp only [Xx,Xq,Xz]);omega) OI fun A550 GG aa=>?_);rw [show ([.bool (!(en.getD s false))]:List Value)=cy [!(en.getD s false)] from rfl,pN] at aa;obtain ⟨lw,rS⟩:=Fresh.grow lb rR wf aa;have s5:=aa.ne bd a3.wf nn;have s6:=aa.ne b3 a3.wf nq;have lO:=aa.ne ab a3.wf nu;have t3:=bx.appd (show bx a4 kE from cV) lc.own a3.wf aa;have t4:=bx.appd (show bx a4 D from cX) lp.own a3.wf aa;have t5:=bx.appd (show bx a4 (.slice gD gc g6) from (bx.symm lX)) lt.own a3.wf aa;have t6:=be.appd (show be a4 rw from b8) k4 a3.wf aa;have oV:=k4.appd aa (show be a4 rw from b8);refine r9 (aU.none Y)<|.p Z (ae m0 jt U Z) ?_;obtain ⟨j1,iV,iv,AG,_⟩:=lw.own.slice;subst AG;refine bn.m Z (fun ra=>aW (cs:=[.slice j1 iV iv]) (c':=[num ((2 * gn:Nat):Int),num ((0:Nat):Int),.slice j1 iV iv,.slice gD gc g6]) aa.wf rfl rfl rfl rfl jt (aa.keep ab nu) G rfl rfl fun A574 bV=>?_);have xS:=bV.k dz (aa.keep bd nn);have xT:=bV.k d1 (aa.keep b3 nq);have q2:=(lc.appd aa cV).keep bV.keep ad;have q3:=(lp.appd aa cX).keep bV.keep ag;have q4:=(lt.appd aa (bx.symm lX)).keep bV.keep hF;have q5:=lw.keep bV.keep lO;have oW:=oV.keep bV.keep a6;have rT:=al rS wf f9 bV.n bV.keep;refine ra (aU.none Y)<|.done<|x5<|.region<|.p (bF (b:=1) Z Z O)<|.J Z<|.nil ?_;exact ⟨⟨s + 1,hd ++ [Value.slice hQ hP hM],ac ++ [!(en.getD s false)],.slice j1 iV iv,.slice gD gc g6,Lc1⟩,ya Z Z Z Z Z Z,Z,⟨⟨by omega,by rw [fi,show y=(Lt.getD s []).length by omega];exact N8 O O,by rw [hhd,<- hsh];exact gz O,by rw [hac];exact Pm O⟩,rT,q5,q4,q2,q3,xS,xT,bV.get,s5,s3,c4,c7,s6,s4,bO,bP,lO,hF,ad,ag,t5,t3,t4,t0,t1,e2,oW,bR,bv,a6,t6,t2,bS,bT⟩,O1⟩
 refine ak.exit<|x1<|.sq fun xV=>.sq fun y0=>.region<|.p (ae m4 jM U Z)<|.p (ah ln Z Z ch Z)<|.p (bE (n:=hd.length) qq Z dO.slc O (jJ _))<|.p (eh (b:=20000) Z Z)<|.nil ?_;refine y0<|.if rfl (fun AD=>?_) (fun AD=>?_)
 ·refine ak.sq fun EY=>?_;exfalso;omega
 refine ak.skip<|xV<|.sq fun y1=>.region<|.p (am sU lg Z Z ch Z) ?_;have y2:hd=rw:=by rw [hhd,VX O]
 have iS:Lc=Lt.map (fG en):=by rw [hLc];exact Ta O
 have iT:ac=en.map (fun e=>!e):=by rw [hac,VX O]
 have hao:RD (2 * gn) ac Lc:=by rw [iS,iT];exact acc_ok hAh O O
 refine Ops.m (fun rb=>aq Z (WH (2 * gn) ac Lc a4 aB hd B424 O hao fD.slc dO.slc O (fun i hi=>by rw [y2];exact (dv.fr i hi).slc)) ?_);rintro GL A595 ⟨B3,B4,B5,rfl,gg,nT,f7,f8,e3,h5,h6,h7⟩;have oX:=dv.le gg;have xa:=f7;have xv:=f8;have xf:=e3;have Ht:=h5;have Hu:=h6;have Hv:=h7;have sB:=e3.ne cB;have Cc:=e3.ne fL;have Cf:=e3.ne ch;refine rb<|.p (aQ Z Z)<|.p (aQ Z Z) ?_;obtain ⟨nO,nK,mb,AI,_⟩:=(f7.base dw).own.slice;subst AI;obtain ⟨nQ,nL,me,AP,_⟩:=(f8.base dw).own.slice;subst AP;refine Ops.m (fun rf=>aW (cs:=[num ((2 * gn:Nat):Int),num ((0:Nat):Int),.slice nO nK mb,.slice nQ nL me]) (c':=[num ((2 * gn:Nat):Int),num ((0:Nat):Int),.slice nO nK mb,.slice nQ nL me]) nT rfl rfl rfl rfl lg (gg.g cB) G rfl rfl fun A618 cS=>?_);have q6:=(f7.base dw).keep cS.keep (f7.ne lZ cB);have q7:=(f8.base dw).keep cS.keep (f8.ne lZ cB);have C1:=oX.keep cS.keep eg;have oY:=(e3.base dw).keep cS.keep sB;have rV:=al (dw.trans gg) wf lA cS.n cS.keep;refine rf<|.I Z<|.nil<|y1<|.rt (by exact aH (df sU lg Z cS.get Z (dA Z d5)) (⟨_,_,_,by rw [(wO hs).1,(wO hs).2.1];rfl,rV,cS.wf,ce q6 (Xk cy (by rw [(wO hs).2.2,iT,iS,Yg,Yh,hR])),q7,oH oY (by rw [(wO hs).2.2,iT,iS,Yg,Yh,hR]),h5,h6,h7⟩))
def ep:List Wd:=[[97,98,65,66]]
def db (a b c d:Value):List an:=[⟨[98,97],[97,98],a,[⟨[],0,true⟩]⟩,⟨[98,65],[65,98],b,[⟨[65],0,false⟩]⟩,⟨[66,97],[97,66],c,[⟨[66],0,false⟩]⟩,⟨[66,65],[65,66],d,[⟨[66,65],0,true⟩]⟩]
section
variable (a b c d:Value)
set_option maxRecDepth 100000
theorem yw:bI 2 ep (db a b c d)=true:=by kernel_rfl
theorem Zz:(jZ 2 ep (db a b c d) [98,98,97,65]).word=[98,98]/\(jZ 2 ep (db a b c d) [98,98,97,65]).steps=4/\fU 2 ep (db a b c d) [98,98,97,65]=0:=by refine ⟨?_,?_,?_⟩ <;> kernel_rfl
theorem ZA:(jZ 2 ep (db a b c d) [98,97,66]).word=[97]/\(jZ 2 ep (db a b c d) [98,97,66]).steps=1/\fU 2 ep (db a b c d) [98,97,66]=0:=by refine ⟨?_,?_,?_⟩ <;> kernel_rfl
theorem ZB:(jZ 2 ep (db a b c d) [98,97,98,97]).word=[97,97,98,98]/\(jZ 2 ep (db a b c d) [98,97,98,97]).steps=3/\fU 2 ep (db a b c d) [98,97,98,97]=0:=by refine ⟨?_,?_,?_⟩ <;> kernel_rfl
theorem ZC:ci 2 ep (db a b c d)=(true,.zero,0):=by kernel_rfl
theorem ZD:pW 2 ep (db a b c d)=(true,0):=by kernel_rfl
theorem ZE:isRed 2 ep (db a b c d)=true:=by kernel_rfl
theorem ZF:Ji 2 ep (db a b c d)=([true,true,true,true,true],[[1,2,3,4],[1,-1,3,4],[-1,2,3,4],[-1,-1,3,-1],[-1,-1,-1,4]])/\Nz 2 ep (db a b c d)=4/\vk 2 ep (db a b c d)=0:=by refine ⟨?_,?_,?_⟩ <;> kernel_rfl
theorem ZG:ci 2 ep ((db a b c d).take 1)=(false,⟨0,-1,[98,97,65],[97,98,65],[98]⟩,0):=by kernel_rfl
theorem MG:sj (db a b c d) [97,66]=true/\sj (db a b c d) [66,97]=false/\bG 2 [97,66]=0/\bG 2 [66,97]=0:=by refine ⟨?_,?_,?_,?_⟩ <;> kernel_rfl
theorem uQ:(aM 2 (db a b c d)).length<=50000/\(aM 2 ((db a b c d).take 1)).length<=50000/\s9 (Cg 2 (db a b c d))<=18000:=by
  refine ⟨?_,?_,?_⟩ <;> exact Sv Y
theorem Vm:fH true (db a b c d) (db a b c d)=true:=by kernel_rfl
end
structure gR (A:AH) (u rv:Value) (a b c d:Value):Prop where
  L:ib A
  M:tl A
  u:bJ A 1 u (dN ep)
  r:bJ A 3 rv (cd (db a b c d))
  p:Proofs A (db a b c d)
theorem gR.le {A B:AH} {u rv a b c d:Value} (h:gR A u rv a b c d) (le:A.le B):gR B u rv a b c d:=⟨h.L.le le,h.M.le le,h.u.le le,h.r.le le,h.p.le le⟩
theorem gR.one {A:AH} {u:Value} {br:Nat} {a b c d:Value} (h:gR A u (.slice (some ⟨br,0,none⟩) 4 4) a b c d):bJ A 3 (.slice (some ⟨br,0,none⟩) 1 4) (cd ((db a b c d).take 1))/\Proofs A ((db a b c d).take 1):=by
  obtain ⟨p,n,k,e,h1,h2,h3⟩:=h.r
  cases e
  rcases h3 with h3 | ⟨b',off,rw,r,rcap,e,g1,g2⟩
  · cases h3
  · cases e
    refine ⟨⟨_,1,4,rfl,rfl,by decide,.inr ⟨_,0,rw,r,rcap,rfl,g1,?_⟩⟩,fun r hr=>h.p r (SY hr)⟩
    have:((r.drop 0).take (4 * 3)).take 3=(cd (db a b c d)).take 3:=by rw [g2]
    rw [List.take_take] at this
    exact this
end Go.Proofs.YtjppkekmddjcfaaGreatDoor
