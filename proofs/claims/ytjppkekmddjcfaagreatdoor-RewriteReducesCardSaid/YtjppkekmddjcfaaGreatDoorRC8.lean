import Derived.Test.YtjppkekmddjcfaaGreatDoorRC5
import Derived.Test.YtjppkekmddjcfaaGreatDoorRC7
import Derived.Test.YtjppkekmddjcfaaGreatDoorRC6
import Derived.Test.YtjppkekmddjcfaaGreatDoorRC2
set_option linter.unusedSectionVars false
set_option linter.unusedVariables false
set_option linter.unusedSimpArgs false
namespace Go.Proofs.YtjppkekmddjcfaaGreatDoor
open Go Go.RowKit
namespace V
section
variable {P:Program} {nt:Nat} {Q:Exit->Fr->AH->Prop} {A M:AH} {e:gx} {ds:List Deferred}
theorem am.rangeOwnP {g:Operand} {gf:Nat} {lb:Array Value} {ps:Array Tmp} {assign body:Code} (b4 n:Nat) (xs:Nat->List Value) (I:Nat->AH->Prop) (e1:Nat->gx)
    (hg:bX e g=some (.func (.func gf) #[] lb)) (eg:fy P gf) (hps:∀ i,(xs i).length=ps.size) (hpn:∀ p ∈ ps.toList,p < nt) (a3:b4 < A.n) (hM:cx b4 M A)
    (hI:∀ i B B',I i B->B'.wf->B.n<=B'.n->(∀ b o,(b < A.n\/mN b4 B b)->B.get b=some o->B'.get b=some o)->I i B')
    (hv:∀ i B,I i B->∃ v cap,B.get b4=some (.row true [v] cap)/\∀ b,blk v=some b->∃ o,B.get b=some o) (h0:I 0 A)
    (hiter:∀ l (J:Nat->AH->Prop) B M,B.n=A.n + 2->A.le B->B.wf->cx b4 M B->(∀ i C,J i C->I i C) ->
      (∀ i C C',J i C->C'.wf->C.n<=C'.n->(∀ b o,(b < B.n\/mN b4 C b)->C.get b=some o->C'.get b=some o)->J i C')->J 0 B ->
      (∀ i C M',i < n->C.wf->J i C->cx b4 M' C->lr P l (xs i).toArray C (fun v C'=>v=.bool true/\J (i + 1) C'/\C'.wf/\cx b4 M' C')) ->
      bH P gf (#[.func (.yield l) #[] #[]] ++ lb) B (fun _ C=>J n C/\C.wf/\cx b4 M C))
    (hassign:∀ F i B,wG F->i < n->ef P nt F assign (vO fun f C=>al (e1 i) f.e/\f.ds=[]/\B.le C/\C.wf) ⟨zm ps.toList (xs i) e,[]⟩ B)
    (hbody:∀ F i B M',wG F->i < n->I i B->B.wf->A.n<=B.n->cx b4 M' B->ef P nt F body (vO fun _ C=>I (i + 1) C/\C.wf/\cx b4 M' C) ⟨e1 i,[]⟩ B)
    (hK:∀ B D,I n B->B.wf->A.n<=D->A.n<=B.n->B.get D=some (.obj true (.deferred (some [])))->¬ mN b4 B D->cx b4 M B->Q .normal ⟨e,mark D :: ds⟩ B) :
    am P nt (.rangeFunc g ps assign body) Q ⟨e,ds⟩ A:=by
  intro a w ha hw
  refine wpIn_wide.1 (wpIn_rangeFunc (n:=0) ?_)
  intro fn _
  rw [show Fence.wide.round=none from rfl]
  obtain ⟨rec,hrec⟩:∃ rec:LoopState->Option Code->Loop,rec=fun st pe=>{ state:=st,pending:=pe,fn,tmps:=a.tmps,params:=ps,assign,body,defers:=w.heap.size }:=⟨_,rfl⟩
  have hsz:w.heap.size=A.n:=hw.size
  have wfA:=hw.wf
  have hA:∀ b,mN b4 A b->b < A.n:=fun b hb=>by
    obtain ⟨v,cap,g1,g2⟩:=hv 0 A h0
    rcases hb.val g1 with rfl | q
    · exact a3
    · obtain ⟨o,ho⟩:=g2 b q;exact wfA _ _ ho
  obtain ⟨v1,s1⟩:=jK (o:=.obj true (.deferred (some []))) (x:=.deferred (some [])) hw ⟨rfl,fun _ _ _ q=>by cases q⟩
  obtain ⟨v2,s2⟩:=jK (o:=.obj true (.loop (rec .ready none))) (x:=.loop (rec .ready none)) v1 ⟨rfl,fun _ _ _ q=>by cases q⟩
  have hgl:((A.new (.obj true (.deferred (some [])))).new (.obj true (.loop (rec .ready none)))).get (A.n + 1)=some (.obj true (.loop (rec .ready none))):=AH.new_get_same _ _
  have hgd:((A.new (.obj true (.deferred (some [])))).new (.obj true (.loop (rec .ready none)))).get A.n=some (.obj true (.deferred (some []))):=by
    rw [AH.new_get_ne _ _ (by simp)];exact AH.new_get_same _ _
  have hkeep:∀ b,b < A.n->((A.new (.obj true (.deferred (some [])))).new (.obj true (.loop (rec .ready none)))).get b=A.get b:=fun b hb=>by
    rw [AH.new_get_ne _ _ Oz,AH.new_get_ne _ _ O]
  have hleA:A.le ((A.new (.obj true (.deferred (some [])))).new (.obj true (.loop (rec .ready none)))):=AH.le_new (AH.le_new (AH.le.refl A) wfA _) wfA _
  have hnB:((A.new (.obj true (.deferred (some [])))).new (.obj true (.loop (rec .ready none)))).n=A.n + 2:=rfl
  generalize ((A.new (.obj true (.deferred (some [])))).new (.obj true (.loop (rec .ready none))))=B0 at *
  have ac:I 0 B0:=hI 0 A _ h0 v2.wf O fun b o hb hgb=>by rw [hkeep b (wfA _ _ hgb)];exact hgb
  have a9:∀ b,mN b4 B0 b->b < A.n:=fun b hb=>hA b (hb.same (hkeep b4 a3))
  have hgev:a.eval g=.func (.func gf) #[] lb:=cL ha hg
  -- what is kept of the loop's own blocks
  have nl:b4 ≠ A.n + 1:=by omega
  refine ⟨w.heap.size + 1,[mark w.heap.size],(w.alloc (.deferred (some []))).alloc (.loop (rec .ready none)),{ target:=.fn (.func gf) lb,args:=#[.func (.yield (w.heap.size + 1)) #[] #[]] },(w.alloc (.deferred (some []))).alloc (.loop (rec .ready none)),gf,
    #[.func (.yield (w.heap.size + 1)) #[] #[]] ++ lb,(w.alloc (.deferred (some []))).alloc (.loop (rec .ready none)),?_,?_,fun _ _=>trivial,?_,fun q=>(by cases q),?_⟩
  · rw [hrec];exact run_enterLoop_outer _ _ _ _ _
  · simp only [resolve,hgev]
    simp [go_sem]
  · have eg':=eg
    unfold fy at eg'
    simp [invoke,go_sem,eg']
  · rw [hsz]
    have ag:cx b4 M B0:=⟨hM.le.trans hleA,hM.wf,fun b hb=>hM.ow b (hb.same (hkeep b4 a3))⟩
    have hcall:=hiter (A.n + 1) (fun i C=>I i C/\C.get (A.n + 1)=some (.obj true (.loop (rec .ready none)))/\C.get A.n=some (.obj true (.deferred (some [])))/\¬ mN b4 C (A.n + 1)/\¬ mN b4 C A.n) B0 M hnB hleA v2.wf ag (fun i C h=>h.1)
      (fun i C C' h wf hn hk=>?_) ⟨ac,hgl,hgd,fun q=>by have:=a9 _ q;omega,fun q=>by have:=a9 _ q;omega⟩ ?_
    · refine (callsIn_wide.2 (hcall.2 _ v2)).mono ?_
      rintro en w' ⟨A',hv',hs',v,rfl,⟨⟨hIn,hgl',hgd',X,a0⟩,hwf',hM'⟩⟩
      obtain ⟨q1,_⟩:=hv'.obj hgl'
      obtain ⟨v3,s3⟩:=lU P (y:=.loop { rec .ready none with state:=.exhausted }) hv' hgl' (fun _ _ _ q=>by cases q)
      refine ⟨none,w'.putObj (A.n + 1) (.loop { rec .ready none with state:=.exhausted }),by
        have h7:=run_endLoop (P:=P) q1 (by rw [hrec];simp)
        have h8:(rec .ready none).pending=none:=by rw [hrec]
        exact h7.trans (congrArg (fun j=>Result.ok j _) h8),?_⟩
      have hl':=hwf' _ _ hgl'
      refine ⟨⟨e,mark A.n :: ds⟩,_,⟨ha.size,ha.slot,by show [mark _] ++ a.defers=_;rw [ha.ds];rfl⟩,v3,((s1.trans s2).trans hs').trans s3,?_,fun _ q=>by cases q⟩
      have hset:∀ b,b ≠ A.n + 1->(A'.set (A.n + 1) (.obj true (.loop { rec .ready none with state:=.exhausted }))).get b=A'.get b:=fun b hb=>AH.set_get_ne _ _ hb
      refine hK _ A.n (hI n A' _ hIn v3.wf (Nat.le_refl _) fun b o hb hgb=>?_) v3.wf (Nat.le_refl _) Oz ?_ ?_ ⟨⟨hM'.le.n,fun b o hb=>?_⟩,hM'.wf,fun b hb=>hM'.ow b (hb.same (hset b4 nl))⟩
      · rw [hset];exact hgb
        rintro rfl
        rcases hb with hb | hb
        · omega
        · exact X hb
      · rw [hset _ O];exact hgd'
      · exact fun q=>a0 (q.same (hset b4 nl))
      · have h1:=hM.le.get b o hb
        have h2:=wfA _ _ h1
        rw [hset _ O];exact hM'.le.get b o hb
    · obtain ⟨hIC,g1,g2,X,a0⟩:=h
      obtain ⟨v,cap,hr,_⟩:=hv i C hIC
      have e4:C'.get b4=C.get b4:=by rw [hr];exact hk b4 _ (.inr (.inl Z)) hr
      exact ⟨hI i C C' hIC wf hn (fun b o hb hgb=>hk b o (hb.imp (fun q=>by omega) id) hgb),hk _ _ (.inl O) g1,hk _ _ (.inl O) g2,fun q=>X (q.same e4),fun q=>a0 (q.same e4)⟩
    · rintro i C M' hi hwfC ⟨hIC,hgl',hgd',X,a0⟩ hMC w' hv'
      obtain ⟨q1,_⟩:=hv'.obj hgl'
      have hy:=run_yield (P:=P) (args:=(xs i).toArray) q1 (by rw [hrec];simpa using hps i)
      refine ⟨fn,_,assign,body,(by rw [hrec] at hy;exact hy),roundIn_of_wpIn trivial ?_⟩
      have hact:cW nt ⟨zm ps.toList (xs i) e,[]⟩ { tmps:=(ps.zip (xs i).toArray).foldl (fun t p=>t.setIfInBounds p.1 p.2) a.tmps,defers:=[] }:=by
        have:=tp (nt:=nt) (ps.toList.zip (xs i)) e a.tmps (fun p hp=>hpn _ (List.of_mem_zip hp).1) ⟨ha.size,ha.slot,rfl⟩
        rw [<- Array.foldl_toList,Array.toList_zip]
        exact this
      have ap:=hassign (FR (A.n + 1)) i C (qj _) hi _ w' hact hv'
      refine wpIn_mono ap ?_
      rintro x a1 w1 ⟨f1,C1,h1,h2,h3,h4,h5⟩
      cases x <;> (try exact h4.elim)
      obtain ⟨hE,hds,hleC,ar⟩:=h4
      obtain ⟨fe,fds⟩:=f1
      simp only at hE hds
      subst hds
      obtain ⟨vC,capC,gC,lC⟩:=hv i C hIC
      have owC:∀ b,mN b4 C b->b < C.n:=fun b hb=>by
        rcases hb.val gC with rfl | q
        · exact hwfC _ _ gC
        · obtain ⟨o,ho⟩:=lC b q;exact hwfC _ _ ho
      have ab:C1.get b4=C.get b4:=by rw [gC];exact hleC.get _ _ gC
      have a4:=hleC.get _ _ hgl'
      have aa:=hleC.get _ _ hgd'
      obtain ⟨q2,_⟩:=h2.obj a4
      obtain ⟨v4,s4⟩:=lU P (y:=.loop { rec .ready none with state:=.busy }) h2 a4 (fun _ _ _ q=>by cases q)
      refine ⟨_,run_beginRound q2 (by rw [hrec]),?_⟩
      have hl':=hwfC _ _ hgl'
      have hd':=hwfC _ _ hgd'
      have hnC:=hleC.n
      have hset:∀ b,b ≠ A.n + 1->(C1.set (A.n + 1) (.obj true (.loop { rec .ready none with state:=.busy }))).get b=C1.get b:=fun b hb=>AH.set_get_ne _ _ hb
      have hsetl:(C1.set (A.n + 1) (.obj true (.loop { rec .ready none with state:=.busy }))).get (A.n + 1)=some (.obj true (.loop { rec .ready none with state:=.busy })):=AH.set_get_same _ _ _
      have hsetn:(C1.set (A.n + 1) (.obj true (.loop { rec .ready none with state:=.busy }))).n=C1.n:=rfl
      generalize C1.set (A.n + 1) (.obj true (.loop { rec .ready none with state:=.busy }))=B1 at *
      have hIB:I i B1:=hI i C _ hIC v4.wf O fun b o hb hgb=>by
        rw [hset];exact hleC.get _ _ hgb
        rintro rfl
        rcases hb with hb | hb
        · omega
        · exact X hb
      have ai:∀ b,mN b4 B1 b->mN b4 C b:=fun b hb=>(hb.same (hset b4 nl)).same ab
      have hMs:cx b4 ⟨C.n,fun b=>if b=A.n + 1 then some (.obj true (.loop { rec .ready none with state:=.busy })) else if b=A.n then some (.obj true (.deferred (some []))) else M'.get b⟩ B1:=by
        refine ⟨⟨by show C.n<=B1.n;omega,fun b o hb=>?_⟩,fun b o hb=>?_,fun b hb=>?_⟩
        · simp only at hb
          split at hb
          · rename_i q;subst q;rw [hsetl];exact hb
          · rename_i q
            rw [hset b q]
            split at hb
            · rename_i q2;subst q2;rw [aa];exact hb
            · exact hleC.get _ _ (hMC.le.get b o hb)
        · simp only at hb
          split at hb
          · show b < C.n;omega
          · split at hb
            · show b < C.n;omega
            · exact hwfC b o (hMC.le.get b o hb)
        · have h6:=ai b hb
          simp only
          rw [if_neg (fun q:b=A.n + 1=>X (q ▸ h6)),if_neg (fun q:b=A.n=>a0 (q ▸ h6))]
          exact hMC.ow b h6
      have hb:=hbody (FR (A.n + 1)) i B1 _ (qj _) hi hIB v4.wf O hMs
      refine wpIn_mono (hb _ _ (cW.le h1 hE) v4) ?_
      rintro x a2 w2 ⟨f2,A2,g1,g2,g3,g4,g5⟩
      cases x <;> (try exact g4.elim)
      obtain ⟨ad,av,V⟩:=g4
      have a7:A2.get (A.n + 1)=some (.obj true (.loop { rec .ready none with state:=.busy })):=V.le.get _ _ (if_pos Z)
      have a6:A2.get A.n=some (.obj true (.deferred (some []))):=V.le.get _ _ (by simp [show ¬ A.n=A.n + 1 by omega])
      have a5:¬ mN b4 A2 (A.n + 1):=fun q=>by have:=V.ow _ q;simp only [if_true] at this;cases this
      have a8:¬ mN b4 A2 A.n:=fun q=>by have:=V.ow _ q;simp [show ¬ A.n=A.n + 1 by omega] at this
      obtain ⟨q3,_⟩:=g2.obj a7
      obtain ⟨v5,s5⟩:=lU P (y:=.loop { ({ rec .ready none with state:=.busy }:Loop) with state:=.ready,pending:=none }) g2 a7 (fun _ _ _ q=>by cases q)
      refine ⟨_,_,run_endRound (P:=P) none q3,_,_,Z,v5,((h3.trans s4).trans g3).trans s5,Z,⟨?_,?_,?_,?_,?_⟩,v5.wf,?_⟩
      · exact hI (i + 1) A2 _ ad v5.wf (Nat.le_refl _) fun b o hb hgb=>by
          rw [AH.set_get_ne];exact hgb
          rintro rfl
          rcases hb with hb | hb
          · omega
          · exact a5 hb
      · rw [AH.set_get_same,hrec]
      · rw [AH.set_get_ne _ _ O];exact a6
      · exact fun q=>a5 (q.same (AH.set_get_ne _ _ nl))
      · exact fun q=>a8 (q.same (AH.set_get_ne _ _ nl))
      · refine ⟨⟨Nat.le_trans hMC.le.n (by have:=V.le.n;exact this),fun b o hb=>?_⟩,hMC.wf,fun b hb=>?_⟩
        · by_cases q:b=A.n + 1
          · subst q
            have h6:=hMC.le.get _ _ hb
            rw [hgl'] at h6
            rw [AH.set_get_same,<- h6,hrec]
          · rw [AH.set_get_ne _ _ q]
            by_cases q2:b=A.n
            · subst q2;rw [a6,<- hMC.le.get _ _ hb,hgd']
            · exact V.le.get b o (by simp only;rw [if_neg q,if_neg q2];exact hb)
        · have h6:mN b4 A2 b:=hb.same (AH.set_get_ne _ _ nl)
          have h7:=V.ow b h6
          simp only at h7
          rw [if_neg (fun q:b=A.n + 1=>a5 (q ▸ h6)),if_neg (fun q:b=A.n=>a8 (q ▸ h6))] at h7
          exact h7
end
end V
end Go.Proofs.YtjppkekmddjcfaaGreatDoor

namespace Go.Proofs.YtjppkekmddjcfaaGreatDoor
open Go Go.RowKit V
section
variable {lv:List Bool} {N:List (List Int)} {cls:List Int} {i j n:Nat} {o:Wd} {m:Int}
def rO (lv:List Bool) (N:List (List Int)) (cls:List Int) (i j:Nat):Wd:=ip (cls.getD i 0).toNat ++ ((N.getD i []).take j).flatMap (vw lv cls)
theorem xz (hj:j < (N.getD i []).length):rO lv N cls i (j + 1)=rO lv N cls i j ++ vw lv cls ((N.getD i []).getD j 0):=by
  rw [rO,<- f5 (z:=(0:Int)) hj,List.flatMap_append,<- List.append_assoc]
  simp [rO]
theorem qc (h:o=rO lv N cls i j) (hj:j < (N.getD i []).length) (q:kS lv ((N.getD i []).getD j 0)=false):o ++ [32]=rO lv N cls i (j + 1):=by
  rw [xz hj,vw,q,h];simp
theorem vv (h:o=rO lv N cls i j) (hj:j < (N.getD i []).length) (q:kS lv ((N.getD i []).getD j 0)=true):o ++ [32] ++ ip (cls.getD ((N.getD i []).getD j 0).toNat 0).toNat=rO lv N cls i (j + 1):=by
  rw [xz hj,vw,q,h,List.append_assoc];simp
theorem nU (h:¬ 0<=m):kS lv m=false:=by rw [kS,decide_eq_false h];rfl
theorem tf (h:m < 0):kS lv m=false:=nU O
theorem fa (h:0<=m):kS lv m=lv.getD m.toNat false:=by rw [kS,decide_eq_true h];rfl
theorem Mh:(vw lv cls m).length<=14:=by
  unfold vw;split
  · have:=sW (cls.getD m.toNat 0).toNat;rw [List.length_cons];omega
  · simp
theorem Mg:(rO lv N cls i j).length<=13 + 14 * j:=by
  have h1:=sW (cls.getD i 0).toNat
  have h2:∀ l:List Int,(l.flatMap (vw lv cls)).length<=14 * l.length:=by
    intro l
    induction l with
    | nil=>simp
    | cons a l ih=>have:=Mh (lv:=lv) (cls:=cls) (m:=a);rw [List.flatMap_cons,List.length_append,List.length_cons];omega
  have h3:=h2 ((N.getD i []).take j)
  have:((N.getD i []).take j).length<=j:=List.length_take_le _ _
  rw [rO,List.length_append];omega
theorem jm (h:lv.getD i false=false):oH lv N cls i=[45]:=by rw [oH,h];rfl
theorem xy (h:lv.getD i false=true) (hj:(N.getD i []).length=j):oH lv N cls i=rO lv N cls i j:=by
  rw [oH,if_pos h,rO,<- hj,List.take_length]
theorem I3 (n:Nat):ip n ≠ []:=by
  unfold ip sX
  split
  · simp
  · simp
theorem RG {a b x y:Wd} (ha:∀ c ∈ a,c ≠ 32) (hb:∀ c ∈ b,c ≠ 32) (hx:x=[]\/∃ t,x=32 :: t) (hy:y=[]\/∃ t,y=32 :: t) (e:a ++ x=b ++ y):a=b/\x=y:=by
  induction a generalizing b with
  | nil =>
    cases b with
    | nil=>exact ⟨Z,e⟩
    | cons c b =>
      rcases hx with rfl | ⟨t,rfl⟩
      · simp at e
      · simp only [List.nil_append,List.cons_append,List.cons.injEq] at e
        exact absurd e.1.symm (hb c List.mem_cons_self)
  | cons c a ih =>
    cases b with
    | nil =>
      rcases hy with rfl | ⟨t,rfl⟩
      · simp at e
      · simp only [List.nil_append,List.cons_append,List.cons.injEq] at e
        exact absurd e.1 (ha c List.mem_cons_self)
    | cons d b =>
      simp only [List.cons_append,List.cons.injEq] at e
      obtain ⟨h1,h2⟩:=ih (fun c hc=>ha c (List.mem_cons_of_mem _ hc)) (fun c hc=>hb c (List.mem_cons_of_mem _ hc)) e.2
      exact ⟨by rw [e.1,h1],h2⟩
theorem xm (l:List Int):l.flatMap (vw lv cls)=[]\/∃ t,l.flatMap (vw lv cls)=32 :: t:=by
  cases l with
  | nil=>exact .inl Z
  | cons a l=>right;rw [List.flatMap_cons,vw];exact ⟨_,Z⟩
theorem Mf (hcl:cls.length=n) (hcr:∀ c ∈ cls,0<=c/\c < (n:Int)) (hn:n<=100000) (hd:∀ i j,i < n->j < n->lv.getD i false=false->lv.getD j false=false->cls.getD i 0=cls.getD j 0) (i j:Nat) (hi:i < n) (hj:j < n) (h:oH lv N cls i=oH lv N cls j):cls.getD i 0=cls.getD j 0:=by
  have hm:∀ i,(∃ t,ip (cls.getD i 0).toNat ++ t=[45])->False:=fun i ⟨t,z⟩=>by
    have h1:=uA 13 (cls.getD i 0).toNat
    cases hf:ip (cls.getD i 0).toNat with
    | nil=>exact I3 _ hf
    | cons c l =>
      rw [hf] at z
      simp only [List.cons_append,List.cons.injEq] at z
      exact (h1 c (by show c ∈ ip _;rw [hf];exact List.mem_cons_self)).2 z.1
  cases hli:lv.getD i false with
  | false =>
    cases hlj:lv.getD j false with
    | false=>exact hd i j hi hj hli hlj
    | true=>rw [jm hli,oH,if_pos hlj] at h;exact absurd ⟨_,h.symm⟩ (hm j)
  | true =>
    cases hlj:lv.getD j false with
    | false=>rw [jm hlj,oH,if_pos hli] at h;exact absurd ⟨_,h⟩ (hm i)
    | true =>
      rw [oH,oH,if_pos hli,if_pos hlj] at h
      have h1:=hcr _ (bw (d:=(0:Int)) (show i < cls.length by omega))
      have h2:=hcr _ (bw (d:=(0:Int)) (show j < cls.length by omega))
      have:=(RG (fun c hc=>(uA 13 _ c hc).1) (fun c hc=>(uA 13 _ c hc).1) (xm _) (xm _) h).1
      have:=I0 O O this
      omega
def zH (lv:List Bool) (n:Nat) (cls:List Int):Prop:=∀ i j,i < n->j < n->lv.getD i false=false->lv.getD j false=false->cls.getD i 0=cls.getD j 0
theorem BQ {K:Type} (f:Nat->K) (d:K) (hi:i < n):((List.range n).map f).getD i d=f i:=by simp [List.getD_eq_getElem?_getD,hi]
theorem xl {K:Type} [DecidableEq K] (f:Nat->K) (d:K) (h:∀ i j,i < n->j < n->lv.getD i false=false->lv.getD j false=false->f i=f j):zH lv n (cf ((List.range n).map f)).1:=fun i j hi hj h1 h2 =>
  (yZ _ (d:=d) (by simpa using hi) (by simpa using hj)).2 (by rw [BQ f d hi,BQ f d hj];exact h i j hi hj h1 h2)
end
section
variable {n k:Nat} {lv:List Bool} {N:List (List Int)} {cls:List Int} {c m:Int} {x i:Nat}
theorem vd (key:List Int->Nat->Wd):∀ (f count:Nat) (cls:List Int),cls.length=n->(∀ c ∈ cls,0<=c/\c < (n:Int))->(mg n key f count cls).length=n/\∀ c ∈ mg n key f count cls,0<=c/\c < (n:Int)
  | 0,_,cls,h1,h2=>⟨h1,h2⟩
  | f + 1,count,cls,h1,h2=>by
    obtain ⟨g1,g2,_,_⟩:=rz.of (n:=n) (l:=(List.range n).map (key cls)) (cls:=(cf ((List.range n).map (key cls))).1) (Q:=(cf ((List.range n).map (key cls))).2) (by simp) Z
    unfold mg;split
    · exact ⟨g1,g2⟩
    · exact vd key f _ _ g1 g2
theorem PK (st:Nat->Bool × Bool) (key:List Int->Nat->Wd):(zW n st key).length=n/\∀ c ∈ zW n st key,0<=c/\c < (n:Int):=by
  obtain ⟨g1,g2,_,_⟩:=rz.of (n:=n) (l:=(List.range n).map st) (cls:=(cf ((List.range n).map st)).1) (Q:=(cf ((List.range n).map st)).2) (by simp) Z
  exact vd key _ _ _ g1 g2
theorem Fz {acc:List Bool}:(yy acc lv N).length=N.length/\∀ c ∈ yy acc lv N,0<=c/\c < (N.length:Int):=PK _ _
theorem yW (h:c ∈ cls):jC cls c < cls.length:=List.idxOf_lt_length_iff.2 h
theorem tm (h:kS lv ((N.getD (jC cls c) []).getD x 0)=false):jF lv N cls c x=none:=by
  rw [jF,show ie N (jC cls c) x=(N.getD (jC cls c) []).getD x 0 from rfl,h];rfl
theorem zk (h:kS lv ((N.getD (jC cls c) []).getD x 0)=true):jF lv N cls c x=some (cls.getD ((N.getD (jC cls c) []).getD x 0).toNat 0):=by
  rw [jF,show ie N (jC cls c) x=(N.getD (jC cls c) []).getD x 0 from rfl,if_pos h]
structure qs (cls:List Int) (i:Nat) (E:List (Int × Value)):Prop where
  nd:(E.map (·.1)).Nodup
  is:∀ c,lk E c=if c ∈ cls.take i then some (num ((jC cls c:Nat):Int)) else none
variable {E:List (Int × Value)}
theorem qs.start:qs cls 0 []:=⟨List.nodup_nil,fun c=>by simp [lk]⟩
theorem qs.in_ (h:qs cls i E) {v:Value} (q:lk E c=some v):c ∈ cls.take i:=by
  rw [h.is] at q;split at q
  · assumption
  · cases q
theorem qs.no_ (h:qs cls i E) (q:lk E c=none):c ∉ cls.take i:=fun z=>by rw [h.is,if_pos z] at q;cases q
theorem pQ (hi:i < cls.length):c ∈ cls.take (i + 1) ↔ c ∈ cls.take i\/c=cls.getD i 0:=by
  rw [<- f5 (z:=(0:Int)) hi,List.mem_append,List.mem_singleton]
theorem qs.old (h:qs cls i E) (hi:i < cls.length) (q:cls.getD i 0 ∈ cls.take i):qs cls (i + 1) E:=⟨h.nd,fun c=>by
  rw [h.is]
  by_cases z:c ∈ cls.take i
  · rw [if_pos z,if_pos ((pQ hi).2 (.inl z))]
  · rw [if_neg z,if_neg fun w=>((pQ hi).1 w).elim z fun e=>z (e ▸ q)]⟩
theorem qs.new (h:qs cls i E) (hi:i < cls.length) (q:cls.getD i 0 ∉ cls.take i):qs cls (i + 1) (yi E (cls.getD i 0) (num ((i:Nat):Int))):=by
  have hk:lk E (cls.getD i 0)=none:=by rw [h.is,if_neg q]
  have hn:cls.getD i 0 ∉ E.map (·.1):=yU.1 hk
  rw [uO hn]
  have hm:jC cls (cls.getD i 0)=i:=by
    have e:cls=cls.take i ++ cls.drop i:=(List.take_append_drop i cls).symm
    have e2:cls.drop i=cls.getD i 0 :: cls.drop (i + 1):=tG hi
    rw [jC]
    conv=>lhs;arg 2;rw [e]
    rw [List.idxOf_append,if_neg q,e2,List.idxOf_cons_self,List.length_take];omega
  refine ⟨?_,fun c=>?_⟩
  · rw [List.map_append,List.map_cons,List.map_nil]
    exact List.nodup_append.2 ⟨h.nd,by simp,by intro a ha b hb;rw [List.mem_singleton] at hb;subst hb;intro e;rw [show a=cls.getD i 0 from e] at ha;exact hn ha⟩
  · by_cases z:c=cls.getD i 0
    · subst z
      rw [if_pos ((pQ hi).2 (.inr Z)),hm]
      simp only [lk,List.find?_append]
      have:E.find? (fun p=>decide (p.1=cls.getD i 0))=none:=by
        cases w:E.find? (fun p=>decide (p.1=cls.getD i 0)) with
        | none=>rfl
        | some p=>simp only [lk,w] at hk;cases hk
      rw [this];simp
    · have e1:lk (E ++ [(cls.getD i 0,num ((i:Nat):Int))]) c=lk E c:=by
        simp only [lk,List.find?_append,List.find?_cons,decide_eq_false (show ¬ cls.getD i 0=c from fun e=>z e.symm),List.find?_nil,Option.or_none]
      rw [e1,h.is]
      by_cases w:c ∈ cls.take i
      · rw [if_pos w,if_pos ((pQ hi).2 (.inl w))]
      · rw [if_neg w,if_neg fun v=>((pQ hi).1 v).elim w z]
def sD (A:AH) (bp:Nat) (cls:List Int):Prop:=∃ w cap mm w2 es ck,∃ E:List (Int × Value),A.get bp=some (.row w [.map (some mm)] cap)/\A.get mm=some (.obj w2 (.map es ck))/\du num es E/\∀ c ∈ cls,lk E c=some (num ((jC cls c:Nat):Int))
theorem sD.le {A B:AH} {bp:Nat} (h:sD A bp cls) (le:A.le B):sD B bp cls:=by
  obtain ⟨w,cap,mm,w2,es,ck,E,h1,h2,h3,h4⟩:=h
  exact ⟨w,cap,mm,w2,es,ck,E,le.get _ _ h1,le.get _ _ h2,h3,h4⟩
theorem qs.all (h:qs cls i E) (hi:cls.length<=i):∀ c ∈ cls,lk E c=some (num ((jC cls c:Nat):Int)):=fun c hc=>by
  rw [h.is,List.take_of_length_le hi,if_pos hc]
theorem CU {P:Program} {e:gx} {A:AH} {x y:Operand} {t kt et:TypeId} {ty:TypeId} {ps:String} {af:Array Edge} {dst:Option Nat} {Q:Value->AH->Prop} {Kp:List PanicEntry->AH->Prop} {g:Option (Nat × Bool)} {m clock:Nat} {es:Array MapEntry} {E:List (Int × Value)} {k:Int} {v zv:Value} {rw:Bool}
    (hx:bX e x=some (.map (some m))) (hy:bX e y=some (num k)) (hu:P.underlying t=some (.map kt et)) (hk:P.underlying kt=some (.int .i64)) (hz:cD P et=some zv) (hg:A.get m=some (.obj rw (.map es clock))) (hE:du num es E) (hv:lk E k=some v)
    (h:Q v A):kO P e A { dst:=dst,op:=.lookup t x y false,type:=ty,pos:=ps,after:=af,guard:=g } Q Kp:=pT tc hx hy hu hk hz hg hE (by rw [hv];exact h)
def ko (l:List Bool) (Q:List Int):List Bool:=Q.foldl (fun l s=>l.set s.toNat true) l
theorem m0:∀ (Q:List Int) (l:List Bool),(ko l Q).length=l.length
  | [],_=>rfl
  | q :: Q,l=>by rw [ko,List.foldl_cons];exact (m0 Q _).trans (by simp)
theorem DN (l:List Bool) (Q:List Int) (q:Int):ko l (Q ++ [q])=(ko l Q).set q.toNat true:=by simp [ko]
theorem AW:∀ (Q:List Int) (l:List Bool),(∀ q ∈ Q,0<=q/\q < (l.length:Int))->∀ i,i < l.length->(ko l Q).getD i false=(l.getD i false || decide ((i:Int) ∈ Q))
  | [],l,_,i,hi=>by simp [ko]
  | q :: Q,l,h,i,hi=>by
    have hq:=h q List.mem_cons_self
    rw [ko,List.foldl_cons]
    show (ko (l.set q.toNat true) Q).getD i false=_
    rw [AW Q _ (fun p hp=>by rw [List.length_set];exact h p (List.mem_cons_of_mem _ hp)) i (by simpa using hi),d9 O]
    by_cases e:i=q.toNat
    · rw [if_pos e,decide_eq_true (show (i:Int) ∈ q :: Q from by rw [List.mem_cons];left;omega)];simp
    · rw [if_neg e];congr 1
      rw [decide_eq_decide,List.mem_cons]
      exact ⟨.inr,fun z=>z.elim (fun z=>absurd O e) id⟩
end
theorem AQ {acc:List Bool} {N:List (List Int)} (hal:acc.length=N.length):∀ q ∈ gk acc N,0<=q/\q < (N.length:Int):=by
  suffices h:∀ (f i:Nat) (Q:List Int),(∀ q ∈ Q,0<=q/\q < (N.length:Int))->∀ q ∈ jB (dy N) f i Q,0<=q/\q < (N.length:Int) by
    exact h _ _ _ fun q hq=>by obtain ⟨s,h1,_,h3⟩:=uU.1 hq;omega
  intro f
  induction f with
  | zero=>intro i Q h;exact h
  | succ f ih =>
    intro i Q h
    unfold jB;split
    · refine ih _ _ ?_
      have:∀ (P Q:List Int),(∀ p ∈ P,0<=p/\p < (N.length:Int))->(∀ q ∈ Q,0<=q/\q < (N.length:Int))->∀ q ∈ P.foldl i0 Q,0<=q/\q < (N.length:Int):=by
        intro P
        induction P with
        | nil=>intro Q _ h;exact h
        | cons p P ih =>
          intro Q hP hQ
          rw [List.foldl_cons]
          refine ih _ (fun x hx=>hP x (List.mem_cons_of_mem _ hx)) ?_
          unfold i0;split
          · exact hQ
          · exact qg hQ (hP p List.mem_cons_self)
      refine this _ _ (fun p hp=>?_) h
      obtain ⟨_,s,h2,h3,_⟩:=AX.1 hp
      omega
    · exact h
theorem Jg {acc:List Bool} {N:List (List Int)} (hal:acc.length=N.length):ko (List.replicate acc.length false) (gk acc N)=iZ acc N:=by
  apply List.ext_getElem
  · rw [m0];simp [iZ]
  · intro i h1 h2
    rw [m0,List.length_replicate] at h1
    have:=AW (gk acc N) (List.replicate acc.length false) (fun q hq=>by have:=AQ hal q hq;simp;omega) i (by simpa using h1)
    rw [gd (by rw [m0];simpa using h1)] at this
    rw [this]
    simp [iZ,h1]
theorem Je {acc:List Bool} {N:List (List Int)}:(iZ acc N).length=acc.length:=by simp [iZ]
theorem Jh {l:List Bool} {Q:List Int} {k:Nat} (hk:k < Q.length):(ko l (Q.take k)).set (Q.getD k 0).toNat true=ko l (Q.take (k + 1)):=by
  rw [<- f5 (z:=(0:Int)) hk,DN]
theorem vm {k:Nat} {step:Int->Nat->Option Int} {D:Int->Prop} (hDs:∀ q c t,D q->c < k->step q c=some t->D t) {q:Int} (hq:D q):∀ (l:List Nat) (r:List Int × List Int),(∀ c ∈ l,c < k)->r.2.Nodup->(∀ q ∈ r.2,D q)->(l.foldl (gr step q) r).2.Nodup/\∀ q' ∈ (l.foldl (gr step q) r).2,D q'
  | [],r,_,h1,h2=>⟨h1,h2⟩
  | c :: l,r,hl,h1,h2=>by
    rw [List.foldl_cons]
    refine vm hDs hq l _ (fun c hc=>hl c (List.mem_cons_of_mem _ hc)) ?_ ?_
    · unfold gr;split
      · exact h1
      · split
        · exact h1
        · exact po h1 ‹_›
    · unfold gr;split
      · exact h2
      · split
        · exact h2
        · exact qg h2 (hDs q c _ hq (hl c List.mem_cons_self) ‹_›)
theorem sO {k:Nat} {step:Int->Nat->Option Int} {D:Int->Prop} (hDs:∀ q c t,D q->c < k->step q c=some t->D t):∀ (f i:Nat) (Q:List Int) (R:List (List Int)),Q.Nodup->(∀ q ∈ Q,D q)->(fU k step f i Q R).1.Nodup/\∀ q ∈ (fU k step f i Q R).1,D q
  | 0,_,_,_,h1,h2=>⟨h1,h2⟩
  | f + 1,i,Q,R,h1,h2=>by
    unfold fU;split
    · rename_i hi
      obtain ⟨g1,g2⟩:=vm hDs (h2 _ (bw (d:=(0:Int)) hi)) (List.range k) ([],Q) (fun c hc=>List.mem_range.1 hc) h1 h2
      exact sO hDs f _ _ _ g1 g2
    · exact ⟨h1,h2⟩
theorem tM {N:Nat} {Q:List Int} (hn:Q.Nodup) (hQ:∀ q ∈ Q,0<=q/\q < (N:Int)):Q.length<=N:=by
  have:=qh (l:=Q.map Int.toNat) (n:=N) ?_ ?_
  · simpa using this
  · rw [List.nodup_iff_pairwise_ne,List.pairwise_map]
    exact List.Pairwise.imp_of_mem (fun {a c} ha hc hac e=>hac (by have:=hQ a ha;have:=hQ c hc;omega)) hn
  · intro x hx
    obtain ⟨a,ha,rfl⟩:=List.mem_map.1 hx
    have:=hQ a ha;omega
theorem M7 {k:Nat} {acc:List Bool} {N:List (List Int)} {lv:List Bool} {cls:List Int} (hok:CY k acc N) (hcl:cls.length=N.length) (q:Int) (c:Nat) (t:Int) (hq:q ∈ cls) (hc:c < k) (h:jF lv N cls q c=some t):t ∈ cls:=by
  have hm:=yW hq
  have hv:=hok.val (jC cls q) c O hc
  unfold jF at h;split at h
  · rename_i hl
    cases h
    have:0<=ie N (jC cls q) c:=by
      rw [kS] at hl
      simp only [Bool.and_eq_true,decide_eq_true_eq] at hl;exact hl.1
    exact bw O
  · cases h
theorem KW {k:Nat} {acc:List Bool} {N:List (List Int)} (hok:CY k acc N) (hN:0 < N.length):(Dc k acc N).1.length<=N.length:=by
  have hc:=Fz (lv:=iZ acc N) (N:=N) (acc:=acc)
  obtain ⟨g1,g2⟩:=sO (D:=fun q=>q ∈ yy acc (iZ acc N) N) (fun q c t=>M7 (lv:=iZ acc N) hok hc.1 q c t) (N.length + 1) 0 [(yy acc (iZ acc N) N).getD 0 0] [] (by simp) (fun q hq=>by
    rw [List.mem_singleton] at hq;subst hq;exact bw (by rw [hc.1];exact hN))
  exact tM g1 fun q hq=>hc.2 q (g2 q hq)
theorem ux {k:Nat} {acc:List Bool} {N:List (List Int)} (h:(iZ acc N).getD 0 false=false):yw k acc N=([],[]):=by rw [yw,h];rfl
theorem zT {k:Nat} {acc:List Bool} {N:List (List Int)} (h:(iZ acc N).getD 0 false=true):yw k acc N=((Dc k acc N).1.map fun c=>acc.getD (jC (yy acc (iZ acc N) N) c) false,(Dc k acc N).2):=by rw [yw,if_pos h]
theorem xD {l:List Bool} (h:l.length=0):l.getD 0 false=false:=by rw [List.length_eq_zero_iff.1 h];rfl
theorem Pz {N:List (List Int)} {n:Nat} (hn:n<=100000) (lv:List Bool) (cls:List Int) (h1:cls.length=n) (h2:∀ c ∈ cls,0<=c/\c < (n:Int)) (h3:zH lv n cls) (i j:Nat) (hi:i < n) (hj:j < n) (h:oH lv N cls i=oH lv N cls j):cls.getD i 0=cls.getD j 0 :=
  Mf h1 h2 hn h3 i j hi hj h
theorem IA {acc:List Bool} {n:Nat} (lv:List Bool) (hl:∀ i,i < n->lv.getD i false=false->acc.getD i false=false):zH lv n (cf ((List.range n).map (TE acc lv))).1 :=
  xl (TE acc lv) (false,false) fun i j hi hj h1 h2=>by simp only [TE];rw [h1,h2,hl i hi h1,hl j hj h2]
theorem IB {N:List (List Int)} {n:Nat} (lv:List Bool) (cls:List Int):zH lv n (cf ((List.range n).map (oH lv N cls))).1 :=
  xl (oH lv N cls) [] fun i j hi hj h1 h2=>by rw [jm h1,jm h2]
theorem Mn {acc:List Bool} {N:List (List Int)} (i:Nat) (hi:i < acc.length) (h:(iZ acc N).getD i false=false):acc.getD i false=false:=by
  cases q:acc.getD i false with
  | false=>rfl
  | true =>
    have h1:(i:Int) ∈ gk acc N:=(nW (B:=dy N) (N.length + 1) 0 (qw acc acc.length)).subset (uU.2 ⟨i,hi,q,rfl⟩)
    simp [iZ,hi,h1] at h
end Go.Proofs.YtjppkekmddjcfaaGreatDoor

namespace Go.Proofs.YtjppkekmddjcfaaGreatDoor
open Go Go.RowKit V
set_option maxRecDepth 100000
set_option maxHeartbeats 4000000
theorem Fp:dx Tryz.prog 222=some false:=by kernel_rfl
theorem yI:ee Tryz.prog 213 0=some (3,0):=by kernel_rfl
theorem ML:dh Tryz.prog 62=some [(0,1),(1,1),(2,1),(3,1)]:=by kernel_rfl
theorem UQ:dp Tryz.prog 222=some 1:=by kernel_rfl
theorem Vx:type_of% @Tryz.underlying218:=@Tryz.underlying218
theorem UY:type_of% @Tryz.underlying62:=@Tryz.underlying62
theorem VE:cD Tryz.prog 222=some (.map none):=by kernel_rfl
theorem VZ:cD Tryz.prog 59=some (.slice none 0 0):=by kernel_rfl
theorem Kj:cD Tryz.prog 62=some (.agg #[.int .i64 0,.int .i64 0,.slice none 0 0,.slice none 0 0]):=by kernel_rfl

theorem GK (u:Value) (o:List UInt8) (m:Int) (A0 A:AH) (h:A0.le A) (D:A0.wf) (hu:Fresh A0 A u 1 (ao o)) (ho:o.length<=100000000000) (hm:0<=m/\m<=1000000):bH Tryz.prog 184 #[u,num m,num ((36:Nat):Int)] A (fun v A1=>A0.le A1/\A1.wf/\Fresh A0 A1 v 1 (ao (o ++ ip m.toNat))):=by
 obtain ⟨n,rfl⟩:∃ n:Nat,m=n:=⟨m.toNat,by omega⟩;exact S8 u o n A0 A h D hu ho O

theorem Tg (i:Nat) (bl bm kl km:Nat) (wl wm:Bool) (lv:Value) (live:List Bool) (b:Nat) (rwb:Bool) (capb k:Nat) (av nv fv bv:Value) (acc:List Bool) (N:List (List Int)) (rows:List Value) (A:AH) (gl:A.get bl=some (.row wl [lv] kl)) (gm:A.get bm=some (.row wm [.pointer (some ⟨b,0,none⟩)] km)) (hlv:bK A 1 lv (cl live)) (hll:live.length=N.length) (hok:CY k acc N) (hb:A.get b=some (.row rwb [num (k:Int),av,nv,fv,bv] capb)) (hav:bK A 1 av (cl acc)) (hnv:bK A 1 nv (em rows)) (hrl:rows.length=N.length) (hF:∀ i,i < N.length->bK A 1 (rows.getD i undef) (cO (N.getD i []))) (hi:i < N.length):bH Tryz.prog 182 #[num ((i:Nat):Int),.pointer (some ⟨bl,0,none⟩),.pointer (some ⟨bm,0,none⟩)] A (fun v A1=>v=jf (TE acc live i)/\A.le A1/\A1.wf):=by
 refine wQ Tryz.call182 Tryz.func182 Z Tryz.results182 Tryz.ntmps182 Z (fun wf=>?_);have a0:=AH.le.refl A;obtain ⟨⟨aC,aD⟩,hal,hnl,hrow,hval⟩:=hok;refine am.seq fun _ h2=>.region<|.l Z (fun _ _ a9 _=>cg wf TP rfl fun A5 b4 V=>?_);have X:=aU wf (Nat.le_trans a0.n V.lo);have h:=a0.trans V.le;refine a9 _ _<|.nil<|h2 _ _<|.seq fun _ h9=>.drawn [0,1,2,3,4,5,6,7,8,9,10,11,12] mixed Y Y Z<|.q Z Z Z (ak iE Z Z (h.get _ _ gl) Z)<|.q Z Z Z (ah Z) ?_;obtain ⟨ay,aA,ap,aR,ag,aI,aF,a5,aa,a7,ac,a1⟩:=bK.at (i:=i) (hlv.le h) Oi O;refine bj.q Z Z Z (ax lS mc Z a5 Z aa)<|.q Z Z Z (ak ut Z Z a7 ((cT a1).trans (ek O)))<|.q Z Z Z (ak mQ Z Z (h.get _ _ gm) Z)<|.q Z Z Z (cQ Z)<|.q Z Z Z (aj jy iK U Z)<|.q Z Z Z (ak iE Z Z (h.get _ _ hb) Z)<|.q Z Z Z (ah Z) ?_;obtain ⟨az,aB,ar,aS,ai,aP,aG,a6,ab,a8,ad,a2⟩:=bK.at (i:=i) (hav.le h) Oi O;refine bj.q Z Z Z (ax lS mc Z a6 Z ab)<|.q Z Z Z (ak ut Z Z a8 ((cT a2).trans (ek O)))<|.q Z Z Z (cU Z (nw Vx TP mc Z))<|.l Z Z Z (fun _ _ a3 _=>aQ (cs:=[.bool (live.getD i false),.bool (acc.getD i false)]) (c':=[.bool (live.getD i false),.bool (acc.getD i false)]) V.wf rfl rfl rfl rfl CG V.get (Nat.le_of_ble_eq_true rfl) rfl rfl fun A18 D=>?_);have a4:=an h wf X D.n D.keep;refine a3 _ _ (be.none Y)<|.done<|h9 _ _<|.ret ?_;repeat first | with_reducible refine bz ?_ | with_reducible refine bi ?_
 exact aJ (df KN CG Z D.get Z d7) (⟨Z,a4,D.wf⟩)

theorem Th (i:Nat) (cls:List Int) (cv:Value) (bl bm kl km:Nat) (wl wm:Bool) (lv:Value) (live:List Bool) (b:Nat) (rwb:Bool) (capb k:Nat) (av nv fv bv:Value) (acc:List Bool) (N:List (List Int)) (rows:List Value) (A:AH) (gl:A.get bl=some (.row wl [lv] kl)) (gm:A.get bm=some (.row wm [.pointer (some ⟨b,0,none⟩)] km)) (hlv:bK A 1 lv (cl live)) (hll:live.length=N.length) (hok:CY k acc N) (hb:A.get b=some (.row rwb [num (k:Int),av,nv,fv,bv] capb)) (hav:bK A 1 av (cl acc)) (hnv:bK A 1 nv (em rows)) (hrl:rows.length=N.length) (hF:∀ i,i < N.length->bK A 1 (rows.getD i undef) (cO (N.getD i []))) (hi:i < N.length) (hcv:bK A 1 cv (cO cls)) (hcl:cls.length=N.length) (hcr:∀ c ∈ cls,0<=c/\c < (N.length:Int))  : bH Tryz.prog 183 #[cv,num ((i:Nat):Int),.pointer (some ⟨bl,0,none⟩),.pointer (some ⟨bm,0,none⟩)] A (fun v A1=>v=aX (oH live N cls i)/\A.le A1/\A1.wf):=by
 refine VH Tryz.call183 Tryz.func183 Z Tryz.results183 Tryz.ntmps183 Z (fun wf=>?_);have a3:=AH.le.refl A;obtain ⟨⟨dz,dD⟩,hal,hnl,hrow,hval⟩:=hok;have hri:=hrow i hi;have hci:=hcr _ (bw (d:=(0:Int)) (show i < cls.length by omega));refine am.seq fun _ h2=>.region<|.q Z (ae Z)<|.nil<|h2 _ _<|.seq fun _ h4=>.seq fun _ h6=>.region<|.q Z (ak iE Z Z (a3.get _ _ gl) Z)<|.q Z (ah Z) ?_;obtain ⟨b7,f7,e6,r7,e5,n7,k7,e7,l7,g7,dj,aV⟩:=bK.at (i:=i) (hlv.le a3) Oi O;refine Ops.q Z (ax lS mc Z e7 Z l7)<|.q Z (ak ut Z Z g7 ((cT aV).trans (ek O)))<|.q Z (eu Z)<|.nil<|h6 _ _<|.ifB Z (fun p8=>?_) (fun p8=>?_)
 ·refine am.seq fun _ ba=>.region<|.q Z (ae Z)<|.nil<|ba _ _<|.rt (by exact aJ Z (⟨by first | (rw [jm ‹_›];rfl) | (rw [jm (by simpa using ‹(!live.getD i false)=true›)];rfl) | (rw [xy (by simpa using ‹(!live.getD i false)=false›) (show (N.getD i []).length=j by omega),<- ho];rfl),a3,wf⟩))
 refine am.skip<|h4 _ _<|.seq fun _ bb=>.region<|.q Z (ah Z)<|.q Z (ah Z) ?_;obtain ⟨d0,dk,cP,e0,ck,dO,dI,aY,bC,b3,c3,ar⟩:=bK.at (i:=i) (hcv.le a3) Of O;refine Ops.q Z (ax ep c5 Z aY Z bC)<|.q Z (ak eM Z Z b3 ((cT ar).trans (c8 O))) ?_;have ab:=ci (bs:=[blk (.slice none 0 0)]) a3 (sA (Fresh.nil A A 1).lo oT);refine Ops.l Z (fun _ _ aF _=>au Z (GK (.slice none 0 0) ([]) (cls.getD i 0) (A.hide [blk (.slice none 0 0)]) A (cE A [blk (.slice none 0 0)]) (cm wf) ((Fresh.nil A A 1).hide (by simp)) Oy (by (try have:=hcm (by have:=hva O;omega));omega)) ?_);rintro bT A17 ⟨ag,bV,a7⟩;have aC:=a7.base ab;have V:=ab.trans ag;refine aF _ _<|.q Z (ae Z)<|.nil<|bb _ _<|.seq fun _ bc=>.seq fun _ bd=>.region<|.q Z (ak mQ Z Z (V.get _ _ gm) Z)<|.q Z (cQ Z)<|.q Z (aj p3 i8 U Z) ?_;refine Ops.q Z (ak kh Z Z (V.get _ _ hb) Z)<|.q Z (ah Z) ?_;obtain ⟨d1,dl,cS,e1,cA,dS,dJ,aZ,bD,b5,c4,ay⟩:=bK.at (i:=i) (hnv.le V) Ok O;refine Ops.q Z (ax oe fF Z aZ Z bD)<|.q Z (ak l8 Z Z b5 ((cT ay).trans (eO O)))<|.q Z (bF (n:=((N.getD i [])).length) ep Z ((hF i O).le V) O (eD _))<|.q Z (ah Z)<|.nil<|bd _ _<|.block<|.loop (X:=Nat × List UInt8 × Value) (fun ⟨j,o,kv⟩=>[(0,cv),(2,.pointer (some ⟨bl,0,none⟩)),(7,kv),(26,rows.getD i undef),(27,num ((((N.getD i [])).length:Nat):Int)),(28,num ((j:Nat):Int))]) (fun ⟨j,o,kv⟩ B=>(j<=k/\o=rO live N cls i j)/\A.le B/\Fresh A B kv 1 (ao o)) (fun ⟨j,o,kv⟩=>k - j) (⟨0,([]) ++ ip (cls.getD i 0).toNat,bT⟩) (zE Z Z Z Z Z Z) (⟨⟨Nat.zero_le _,by simp [rO]⟩,V,aC⟩) ?_;rintro ⟨j,o,kv⟩ B28 ⟨⟨hj,ho⟩,a5,a0⟩;refine am.wf fun ad=>?_;have hlo:o.length<=13 + 14 * j:=by rw [ho];exact Mg
 have hva:=fun q:j < k=>hval i j hi q;simp only [ie] at hva;have hcm:=fun q:((N.getD i []).getD j 0).toNat < cls.length=>hcr _ (bw (d:=(0:Int)) q);refine am.seq fun _ bp=>.region<|.q Z (cd Z Z)<|.nil<|bp _ _<|.seq fun _ br=>.if rfl (fun bP=>?_) (fun bP=>?_)
 ·refine am.skip<|br _ _<|.seq fun _ aa=>.block<|.seq fun _ bu=>.region ?_;obtain ⟨d2,dm,cV,e2,cC,dV,dK,b0,bL,b6,c7,az⟩:=bK.at (i:=j) ((hF i O).le a5) Of O;refine Ops.q Z (ax ep c5 Z b0 Z bL)<|.q Z (ak eM Z Z b6 ((cT az).trans (c8 O)))<|.q Z (ae Z)<|.nil<|bu _ _<|.seq fun _ bA=>.region<|.q Z (ah Z)<|.l Z (fun _ _ aG _=>aN (c:=[d8 (32)]) ad rfl (aw cy ji z5 rfl U U rfl) fun A44 d3 a6=>?_);have a9:=a0.le a6.le;have aS:=a5.trans a6.le;refine aG _ _<|.l Z (fun _ _ aI _=>cF (ys:=[d8 (32)]) rfl rfl cy ji rd z5 rfl U cy (fun _ h=>by cases h) a9.own (bN (n:=1) a6.get Z) rfl rfl (by show (_ + _) * 1<=_;simp only [aH,List.length_cons,List.length_nil];(try simp only [List.length_append,List.length_cons,List.length_nil]);omega) O3 fun A50 a1 a4=>?_);rw [show ([d8 (32)]:List Value)=ao [32] from rfl,dE] at a4;obtain ⟨a2,D⟩:=Fresh.grow a9 aS wf a4;refine aI _ _<|.q Z (ae Z)<|.nil<|bA _ _<|.seq fun _ ap=>.region<|.q Z (ah Z)<|.q Z (lM Z Z)<|.q Z (ah Z)<|.part (t:=37) Z (fun bR=>?_) (fun bR=>?_)
  ·refine Ops.on Z Z<|.q Z (ak iE Z Z (D.get _ _ gl) Z)<|.on Z Z<|.q Z (ah Z)<|.on Z Z ?_;obtain ⟨dd,dv,cX,e3,cH,dW,dL,b1,bM,b8,cc,aA⟩:=bK.at (i:=(((N.getD i [])).getD j 0).toNat) (hlv.le D) (by simp only [bJ];have:=hva O;omega) O;refine Ops.q Z (ax lS mc Z b1 (iQ (by have:=hva O;omega)) bM)<|.on Z Z<|.q Z (ak ut Z Z b8 ((cT aA).trans (ek (by have:=hva O;omega))))<|.q Z (aM Z Z)<|.nil<|ap _ _<|.ifB Z (fun bS=>?_) (fun bS=>?_)
   ·refine am.region<|.q Z (ah Z)<|.q Z (ah Z)<|.q Z (ah Z) ?_;obtain ⟨di,dw,cZ,e4,cK,dZ,dM,b2,bO,b9,ch,aB⟩:=bK.at (i:=(((N.getD i [])).getD j 0).toNat) (hcv.le D) (by simp only [aE];have:=hva O;omega) O;refine Ops.q Z (ax ep c5 Z b2 (iQ (by have:=hva O;omega)) bO)<|.q Z (ak eM Z Z b9 ((cT aB).trans (c8 (by have:=hva O;omega)))) ?_;have ac:=ci (bs:=[blk a1]) D (sA a2.lo oT);refine Ops.l Z (fun _ _ aP _=>au Z (GK a1 (o ++ [32]) (cls.getD ((((N.getD i [])).getD j 0).toNat) 0) (A50.hide [blk a1]) A50 (cE A50 [blk a1]) (cm a4.wf) (a2.hide (by simp)) Oy (by (try have:=hcm (by have:=hva O;omega));omega)) ?_);rintro bU A65 ⟨ai,bY,a8⟩;have aD:=a8.base ac;have aT:=ac.trans ai;refine aP _ _<|.q Z (ae Z)<|.nil<|aa _ _<|.region<|.q Z (bE (b:=1) Z Z O)<|.q Z (ah Z)<|.nil ?_;exact ⟨⟨j + 1,(o ++ [32]) ++ ip (cls.getD ((((N.getD i [])).getD j 0).toNat) 0).toNat,bU⟩,zE Z Z Z Z Z Z,Z,⟨⟨by omega,by first | exact vv ho O (by rw [fa ‹_›];assumption) | exact qc ho O (by rw [fa ‹_›];assumption) | exact qc ho O (nU ‹_›)⟩,aT,aD⟩,O1⟩
   refine am.skip<|aa _ _<|.region<|.q Z (bE (b:=1) Z Z O)<|.q Z (ah Z)<|.nil ?_;exact ⟨⟨j + 1,o ++ [32],a1⟩,zE Z Z Z Z Z Z,Z,⟨⟨by omega,by first | exact vv ho O (by rw [fa ‹_›];assumption) | exact qc ho O (by rw [fa ‹_›];assumption) | exact qc ho O (nU ‹_›)⟩,D,a2⟩,O1⟩
  refine Ops.off Z Z Z Z<|.off Z Z Z Z<|.off Z Z Z Z<|.off Z Z Z Z<|.q Z (aW Z Z)<|.nil<|ap _ _<|.cond_false Z<|.skip<|aa _ _ ?_;refine am.region<|.q Z (bE (b:=1) Z Z O)<|.q Z (ah Z)<|.nil ?_;exact ⟨⟨j + 1,o ++ [32],a1⟩,zE Z Z Z Z Z Z,Z,⟨⟨by omega,by first | exact vv ho O (by rw [fa ‹_›];assumption) | exact qc ho O (by rw [fa ‹_›];assumption) | exact qc ho O (nU ‹_›)⟩,D,a2⟩,O1⟩
 refine am.exit<|bc _ _<|.seq fun _ bB=>.region<|.q Z (ah Z)<|.l Z (fun _ _ aR _=>dT (s:=o) Z cy u9 u5 a0.slc ?_);refine aR _ _<|.q Z (ae Z)<|.nil<|bB _ _<|.rt (by exact aJ Z (⟨by first | (rw [jm ‹_›];rfl) | (rw [jm (by simpa using ‹(!live.getD i false)=true›)];rfl) | (rw [xy (by simpa using ‹(!live.getD i false)=false›) (show (N.getD i []).length=j by omega),<- ho];rfl),a5,ad⟩))

theorem Tk (c:Int) (x:Nat) (bp bc kc:Nat) (wc:Bool) (cv:Value) (cls:List Int) (bl bm kl km:Nat) (wl wm:Bool) (lv:Value) (live:List Bool) (b:Nat) (rwb:Bool) (capb k:Nat) (av nv fv bv:Value) (acc:List Bool) (N:List (List Int)) (rows:List Value) (A:AH) (gl:A.get bl=some (.row wl [lv] kl)) (gm:A.get bm=some (.row wm [.pointer (some ⟨b,0,none⟩)] km)) (hlv:bK A 1 lv (cl live)) (hll:live.length=N.length) (hok:CY k acc N) (hb:A.get b=some (.row rwb [num (k:Int),av,nv,fv,bv] capb)) (hav:bK A 1 av (cl acc)) (hnv:bK A 1 nv (em rows)) (hrl:rows.length=N.length) (hF:∀ i,i < N.length->bK A 1 (rows.getD i undef) (cO (N.getD i [])))(hmp:sD A bp cls) (gc:A.get bc=some (.row wc [cv] kc)) (hcv:bK A 1 cv (cO cls)) (hcl:cls.length=N.length) (hc:c ∈ cls) (hx:x < k):bH Tryz.prog 185 #[num (c),num ((x:Nat):Int),.pointer (some ⟨bm,0,none⟩),.pointer (some ⟨bp,0,none⟩),.pointer (some ⟨bl,0,none⟩),.pointer (some ⟨bc,0,none⟩)] A (fun v A1=>v=.tuple #[num ((jF live N cls c x).getD 0),.bool (jF live N cls c x).isSome]/\A.le A1/\A1.wf):=by
 refine VU Tryz.call185 Tryz.func185 Z Tryz.results185 Tryz.ntmps185 Z (fun wf=>?_);have h:=AH.le.refl A;obtain ⟨⟨b2,b3⟩,hal,hnl,hrow,hval⟩:=hok;obtain ⟨wp,kp,mm,w2,es,ck,E,gp,gmm,hME,hMM⟩:=hmp;have hmf:=yW hc;have hrm:=hrow (jC cls c) O;have hvm:=hval (jC cls c) x O hx;simp only [ie] at hvm;refine am.seq fun _ h2=>.region<|.q Z (ae Z)<|.q Z (ae Z)<|.nil<|h2 _ _<|.seq fun _ h4=>.drawn [0,1,2,3,4,5,9,6,7,8,10,11,12] mixed Y Y Z ?_;have ac:=cG (off:=0) (h.get _ _ gm) (show _=some (.pointer (some ⟨b,0,none⟩)) from rfl);refine bj.q Z Z Z (ak mQ Z Z (h.get _ _ gm) Z)<|.q Z Z Z (cQ Z)<|.q Z Z Z (aj p3 i8 U Z) ?_;have ad:=cG (off:=2) (h.get _ _ hb) (show _=some (nv) from rfl);refine bj.q Z Z Z (ak kh Z Z (h.get _ _ hb) Z)<|.q Z Z Z (ak Fp Z Z (h.get _ _ gp) Z)<|.q Z Z Z (ah Z)<|.q Z Z Z (ah Z)<|.l Z Z Z (fun _ _ ag _=>CU Z Z EO u3 z3 (h.get _ _ gmm) hME (hMM _ hc) ?_);refine ag _ _ (be.list (L:=[(⟨b,2,none⟩,nv),(⟨bm,0,none⟩,.pointer (some ⟨b,0,none⟩))]) Y (bg ad (bg ac bZ))) ?_;obtain ⟨b9,f9,bB,r9,bA,n9,k9,e9,l9,g9,aY,a1⟩:=bK.at (i:=jC cls c) (hnv.le h) Ok O;refine bj.q Z Z Z (ax oe fF Z e9 Z l9)<|.q Z Z Z (ak l8 Z Z g9 ((cT a1).trans (eO O))) ?_;obtain ⟨aS,aZ,aI,bd,aD,b8,b5,a2,ai,a5,aA,V⟩:=bK.at (i:=x) ((hF (jC cls c) O).le h) Of O;refine bj.q Z Z Z (ax ep c5 Z a2 Z ai)<|.q Z Z Z (ak eM Z Z a5 ((cT V).trans (c8 O)))<|.q Z Z Z (ae Z)<|.done<|h4 _ _<|.seq fun _ a8=>.seq fun _ D=>.region<|.q Z (ah Z)<|.q Z (k8 Z Z) ?_;refine Ops.q Z (ah Z)<|.part (t:=25) Z (fun ay=>?_) (fun ay=>?_)
 ·refine Ops.off Z Z Z Z<|.off Z Z Z Z<|.off Z Z Z Z<|.off Z Z Z Z<|.off Z Z Z Z<|.q Z (aM Z Z)<|.nil<|D _ _<|.cond_true Z<|.seq fun _ a9=>?_;refine am.region<|.q Z (ae Z)<|.q Z (ae Z)<|.nil<|a9 _ _<|.rt (by exact aJ Z (⟨by first | (rw [tm (tf ‹_›)];rfl) | (rw [tm (by rw [fa O];simpa using ‹(!live.getD _ false)=true›)];rfl) | (rw [zk (by rw [fa O];simpa using ‹(!live.getD _ false)=false›)];rfl),h,wf⟩))
 refine Ops.on Z Z<|.q Z (ak iE Z Z (h.get _ _ gl) Z)<|.on Z Z<|.q Z (ah Z)<|.on Z Z ?_;obtain ⟨aT,b0,aP,br,aF,ba,b6,a3,ap,a6,aB,X⟩:=bK.at (i:=(((N.getD (jC cls c) [])).getD x 0).toNat) (hlv.le h) Oi O;refine Ops.q Z (ax lS mc Z a3 (iQ O) ap)<|.on Z Z<|.q Z (ak ut Z Z a6 ((cT X).trans (ek O)))<|.on Z Z<|.q Z (eu Z)<|.q Z (aW Z Z)<|.nil<|D _ _<|.ifB Z (fun az=>?_) (fun az=>?_)
 ·refine am.seq fun _ aa=>.region<|.q Z (ae Z)<|.q Z (ae Z)<|.nil<|aa _ _<|.rt (by exact aJ Z (⟨by first | (rw [tm (tf ‹_›)];rfl) | (rw [tm (by rw [fa O];simpa using ‹(!live.getD _ false)=true›)];rfl) | (rw [zk (by rw [fa O];simpa using ‹(!live.getD _ false)=false›)];rfl),h,wf⟩))
 refine am.skip<|a8 _ _<|.seq fun _ ab=>.region<|.q Z (ak l8 Z Z (h.get _ _ gc) Z)<|.q Z (ah Z) ?_;obtain ⟨aV,b1,aR,bu,aG,bb,b7,a4,ar,a7,aC,a0⟩:=bK.at (i:=(((N.getD (jC cls c) [])).getD x 0).toNat) (hcv.le h) Of O;refine Ops.q Z (ax ep c5 Z a4 (iQ O) ar)<|.q Z (ak eM Z Z a7 ((cT a0).trans (c8 O)))<|.q Z (ae Z)<|.q Z (ae Z)<|.nil<|ab _ _<|.rt (by exact aJ Z (⟨by first | (rw [tm (tf ‹_›)];rfl) | (rw [tm (by rw [fa O];simpa using ‹(!live.getD _ false)=true›)];rfl) | (rw [zk (by rw [fa O];simpa using ‹(!live.getD _ false)=false›)];rfl),h,wf⟩))

theorem Tl (c:Int) (bp bm km:Nat) (wm:Bool) (cls:List Int) (b:Nat) (rwb:Bool) (capb k:Nat) (av nv fv bv:Value) (acc:List Bool) (N:List (List Int)) (rows:List Value) (A:AH) (gm:A.get bm=some (.row wm [.pointer (some ⟨b,0,none⟩)] km)) (hok:CY k acc N) (hb:A.get b=some (.row rwb [num (k:Int),av,nv,fv,bv] capb)) (hav:bK A 1 av (cl acc)) (hnv:bK A 1 nv (em rows)) (hrl:rows.length=N.length) (hF:∀ i,i < N.length->bK A 1 (rows.getD i undef) (cO (N.getD i []))) (hmp:sD A bp cls) (hcl:cls.length=N.length) (hc:c ∈ cls):bH Tryz.prog 186 #[num (c),.pointer (some ⟨bm,0,none⟩),.pointer (some ⟨bp,0,none⟩)] A (fun v A1=>v=.bool (acc.getD (jC cls c) false)/\A.le A1/\A1.wf):=by
 refine wQ Tryz.call186 Tryz.func186 Z Tryz.results186 Tryz.ntmps186 Z (fun wf=>?_);have h:=AH.le.refl A;obtain ⟨⟨a2,a3⟩,hal,hnl,hrow,hval⟩:=hok;obtain ⟨wp,kp,mm,w2,es,ck,E,gp,gmm,hME,hMM⟩:=hmp;have hmf:=yW hc;refine am.seq fun _ h2=>.region<|.q Z (ae Z)<|.nil<|h2 _ _<|.seq fun _ h4=>.drawn [0,1,2,3,4,5,6,7,8,9] mixed Y Y Z ?_;have V:=cG (off:=0) (h.get _ _ gm) (show _=some (.pointer (some ⟨b,0,none⟩)) from rfl);refine bj.q Z Z Z (ak mQ Z Z (h.get _ _ gm) Z)<|.q Z Z Z (cQ Z)<|.q Z Z Z (aj jy iK U Z) ?_;have X:=cG (off:=1) (h.get _ _ hb) (show _=some (av) from rfl);refine bj.q Z Z Z (ak iE Z Z (h.get _ _ hb) Z)<|.q Z Z Z (ak Fp Z Z (h.get _ _ gp) Z)<|.q Z Z Z (ah Z)<|.l Z Z Z (fun _ _ a0 _=>CU Z Z EO u3 z3 (h.get _ _ gmm) hME (hMM _ hc) ?_);refine a0 _ _ (be.list (L:=[(⟨b,1,none⟩,av),(⟨bm,0,none⟩,.pointer (some ⟨b,0,none⟩))]) Y (bg X (bg V bZ))) ?_;obtain ⟨b9,f9,a5,r9,a4,n9,k9,e9,l9,g9,a1,D⟩:=bK.at (i:=jC cls c) (hav.le h) Oi O;refine bj.q Z Z Z (ax lS mc Z e9 Z l9)<|.q Z Z Z (ak ut Z Z g9 ((cT D).trans (ek O)))<|.q Z Z Z (ae Z)<|.done<|h4 _ _<|.rt (by exact aJ Z (⟨Z,h,wf⟩))

theorem Rn (b:Nat) (rwb:Bool) (capb k:Nat) (av nv fv bv:Value) (acc:List Bool) (N:List (List Int)) (rows:List Value) (A:AH) (hok:CY k acc N) (hN:N.length<=20000) (hb:A.get b=some (.row rwb [num (k:Int),av,nv,fv,bv] capb)) (hav:bK A 1 av (cl acc)) (hnv:bK A 1 nv (em rows)) (hrl:rows.length=N.length) (hF:∀ i,i < N.length->bK A 1 (rows.getD i undef) (cO (N.getD i []))):bH Tryz.prog 147 #[.pointer (some ⟨b,0,none⟩)] A (fun v A1=>∃ av2 nv2 rows2,v=.tuple #[.agg #[num (k:Int),num ((0:Nat):Int),av2,nv2],.bool true]/\A.le A1/\A1.wf/\Fresh A A1 av2 1 (cl (yw k acc N).1)/\Fresh A A1 nv2 1 (em rows2)/\ib A A1 rows2 (yw k acc N).2/\bq av2 nv2/\aL av2 rows2/\aL nv2 rows2):=by
  refine enterM (e:=[(0,.pointer (some ⟨b,0,none⟩))]) (args:=[.pointer (some ⟨b,0,none⟩)]) Tryz.call147 Tryz.func147 Z Tryz.results147 Tryz.ntmps147 Z Z Z (fun wf=>?_)
  have k7:=AH.le.refl A
  have df_:TX A A []:=⟨List.Pairwise.nil,fun _ h=>by cases h⟩
  have bU:=hok
  obtain ⟨⟨qB,dz⟩,hal,hnl,hrow,hval⟩:=hok
  refine am.seq fun K1 h2=>.region<|.l Z (fun _ _ oQ _=>dQ wf rfl rfl fun A5 b4 ft=>?_)
  have pe:=Nat.le_trans k7.n ft.lo
  have h0:=k7.trans ft.le
  refine oQ _ _<|.l Z (fun _ _ oR _=>cg ft.wf Kj rfl fun A10 b9 bu=>?_)
  have dJ:=aU wf (Nat.le_trans h0.n bu.lo)
  have pf:=Nat.le_trans h0.n bu.lo
  have gc:=bu.le.get _ _ ft.get
  have dO:=h0.trans bu.le
  refine oR _ _<|.q Z (ae Z)<|.nil<|h2 _ _<|.seq fun K14 o2=>.region<|.q Z (ak mQ Z Z gc Z)<|.q Z (cQ Z)<|.q Z (aj yI c5 U Z)<|.q Z (ak eM Z Z (dO.get _ _ hb) Z) ?_
  refine Ops.q Z (cU Z (bn UY Kj ML Z))<|.l Z (fun _ _ mT _=>cg bu.wf Kj rfl fun A18 cA bA=>?_)
  have en:=ne_new bu.wf gc bA.lo
  have ev:=ne_new bu.wf bu.get bA.lo
  have g6:=aU wf (Nat.le_trans dO.n bA.lo)
  have oX:=Nat.le_trans dO.n bA.lo
  have o3:=bA.le.get _ _ gc
  have oi:=bA.le.get _ _ bu.get
  have nb:=dO.trans bA.le
  refine mT _ _<|.l Z (fun _ _ mV _=>aQ (cs:=[num ((k:Nat):Int),num ((0:Nat):Int),.slice none 0 0,.slice none 0 0]) (c':=[num ((k:Nat):Int),num ((0:Nat):Int),.slice none 0 0,.slice none 0 0]) bA.wf rfl rfl rfl rfl j9 bA.get (Nat.le_of_ble_eq_true rfl) rfl rfl fun A24 b6=>?_)
  have gX:=b6.keep _ _ en o3
  have iV:=b6.keep _ _ ev oi
  have d1:=an nb wf g6 b6.n b6.keep
  refine mV _ _<|.nil<|o2 _ _<|.seq fun K29 oj=>.region<|.q Z (ak mQ Z Z gX Z)<|.q Z (cQ Z)<|.q Z (aj jy iK U Z)<|.q Z (ak iE Z Z (d1.get _ _ hb) Z)<|.q Z (bF (n:=acc.length) lS Z (hav.le d1) O (fw _)) ?_
  refine Ops.l Z (fun _ _ mX _=>mL (n:=acc.length) (k:=acc.length) b6.wf d1 rfl rfl lS mc z4 LU rfl (Nat.le_refl _) (by show 1 * _<=_;omega) O fun A33 a2 aD eG=>?_)
  rw [om] at eG
  have cH:=ne_new b6.wf gX aD.lo
  have cP:=ne_new b6.wf iV aD.lo
  have c4:=ne_new b6.wf b6.get aD.lo
  have oY:=Nat.le_trans d1.n aD.lo
  have iX:=aD.le.get _ _ gX
  have jX:=aD.le.get _ _ iV
  have k0:=aD.le.get _ _ b6.get
  have eX:=d1.trans aD.le
  refine mX _ _<|.l Z (fun _ _ n1 _=>cg aD.wf VZ rfl fun A42 a4 aF=>?_)
  have cK:=ne_new aD.wf iX aF.lo
  have cS:=ne_new aD.wf jX aF.lo
  have c7:=ne_new aD.wf k0 aF.lo
  have eY:=eG.own.ne_new aD.wf aF.lo
  have ea:=aU wf (Nat.le_trans eX.n aF.lo)
  have oZ:=Nat.le_trans eX.n aF.lo
  have ok:=aF.le.get _ _ iX
  have ov:=aF.le.get _ _ jX
  have ox:=aF.le.get _ _ k0
  have km:=eG.le aF.le
  have nc:=eX.trans aF.le
  refine n1 _ _<|.l Z (fun _ _ n2 _=>aQ (cs:=[.slice (some ⟨a2,0,none⟩) acc.length acc.length]) (c':=[.slice (some ⟨a2,0,none⟩) acc.length acc.length]) aF.wf rfl rfl rfl rfl iK aF.get (Nat.le_of_ble_eq_true rfl) rfl rfl fun A51 bO=>?_)
  have gY:=bO.keep _ _ cK ok
  have k1:=bO.keep _ _ cS ov
  have k2:=bO.keep _ _ c7 ox
  have g3:=km.keep bO.keep eY
  have nj:=an nc wf ea bO.n bO.keep
  refine n2 _ _<|.nil<|oj _ _<|.seq fun K58 oy=>.seq fun K60 oz=>.region<|.q Z (ak mQ Z Z gY Z)<|.l Z (fun _ _ n3 _=>au Z (Tq b A51) ?_)
  rintro qU A64 ⟨bm,rfl,bR,e9,dD,b8⟩
  have oF:=bR.get _ _ gY
  have oI:=bR.get _ _ k1
  have oJ:=bR.get _ _ k2
  have fl:=bR.get _ _ bO.get
  have g4:=g3.le bR
  have nk:=nj.trans bR
  have hrow:=dD
  have hno:=b8
  have hh:b4 ≠ bm:=fun z=>by have q0:=gY;rw [z,b8] at q0;cases q0
  have hl:b9 ≠ bm:=fun z=>by have q0:=k1;rw [z,b8] at q0;cases q0
  have h7:cA ≠ bm:=fun z=>by have q0:=k2;rw [z,b8] at q0;cases q0
  have dd:a4 ≠ bm:=fun z=>by have q0:=bO.get;rw [z,b8] at q0;cases q0
  have nn:blk (.slice (some ⟨a2,0,none⟩) acc.length acc.length) ≠ some bm:=zP g3.own b8
  refine n3 _ _<|.nil<|oz _ _<|.block ?_
  have aS:=cx.full fl e9
  have hLM:=ci (bs:=[some a4,blk (.slice (some ⟨a2,0,none⟩) acc.length acc.length)]) nk (uk ea (sA g4.lo oT))
  have iT:Fresh (A64.hide [some a4,blk (.slice (some ⟨a2,0,none⟩) acc.length acc.length)]) A64 (.slice (some ⟨a2,0,none⟩) acc.length acc.length) 1 (cl (List.replicate acc.length false)):=g4.hide (by simp)
  have dK:=bQ (bs:=[some a4,blk (.slice (some ⟨a2,0,none⟩) acc.length acc.length)]) oF (qz (cK) (nY (fun q=>by cases q;exact cH Z) mI))
  have dL:=bQ (bs:=[some a4,blk (.slice (some ⟨a2,0,none⟩) acc.length acc.length)]) oI (qz (cS) (nY (fun q=>by cases q;exact cP Z) mI))
  have d0:=bQ (bs:=[some a4,blk (.slice (some ⟨a2,0,none⟩) acc.length acc.length)]) oJ (qz (c7) (nY (fun q=>by cases q;exact c4 Z) mI))
  have br:=bQ (bs:=[some a4,blk (.slice (some ⟨a2,0,none⟩) acc.length acc.length)]) dD (qz (dd.symm) (nY nn mI))
  generalize hM0:(A64.hide [some a4,blk (.slice (some ⟨a2,0,none⟩) acc.length acc.length)])=M at aS hLM iT dK dL d0 br
  have hvI:∀ (k:Nat) (B:AH),(M.le B/\B.get a4=some (.row true [.slice (some ⟨a2,0,none⟩) acc.length acc.length] 1)/\Fresh M B (.slice (some ⟨a2,0,none⟩) acc.length acc.length) 1 (cl (ko (List.replicate acc.length false) ((gk acc N).take k))))->∃ v cap,B.get a4=some (.row true [v] cap)/\∀ b,blk v=some b->∃ o,B.get b=some o:=fun k B ⟨_,g1,f1⟩=>⟨_,1,g1,fun b hb=>f1.own.blkget hb⟩
  refine am.rangeOwnP (M:=M) a4 (gk acc N).length (fun k=>[num ((gk acc N).getD k 0)]) (fun k B=>(M.le B/\B.get a4=some (.row true [.slice (some ⟨a2,0,none⟩) acc.length acc.length] 1)/\Fresh M B (.slice (some ⟨a2,0,none⟩) acc.length acc.length) 1 (cl (ko (List.replicate acc.length false) ((gk acc N).take k))))) (fun k=>[(6,num ((gk acc N).getD k 0)),(0,.pointer (some ⟨b,0,none⟩)),(1,.pointer (some ⟨b4,0,none⟩)),(2,.pointer (some ⟨b9,0,none⟩)),(15,.pointer (some ⟨b,0,none⟩)),(16,.pointer (some ⟨b,0,none⟩)),(17,.pointer (some ⟨b,0,none⟩)),(4,.pointer (some ⟨cA,0,none⟩)),(20,.pointer (some ⟨b,0,none⟩)),(21,.pointer (some ⟨b,0,none⟩)),(22,.pointer (some ⟨b,1,none⟩)),(5,.pointer (some ⟨a4,0,none⟩)),(26,.pointer (some ⟨b,0,none⟩))]) Z Tryz.call199 (fun _=>rfl) U (e9 _ _ fl) aS ?_ hvI ?_ ?_ ?_ ?_ ?_
  · rintro k B B2 ⟨i1,g1,f1⟩ dI oS hk
    exact ⟨⟨Nat.le_trans i1.n oS,fun b o h=>hk b o (.inl (Nat.lt_of_lt_of_le (aS.wf b o h) aS.le.n)) (i1.get _ _ h)⟩,hk _ _ (.inr (.inl rfl)) g1,f1.owk (fun b o hb h=>hk b o (.inr (.inr ⟨_,1,g1,hb⟩)) h)⟩
  · exact ⟨aS.le,fl,by rw [List.take_zero];exact iT⟩
  · intro p0 J2 B M4 hnB hleB wfB ec hJI mK eL hyd
    obtain ⟨_,gq,fq⟩:=hJI 0 B eL
    have s3:M.le (B.hide [some a4,blk (.slice (some ⟨a2,0,none⟩) acc.length acc.length)]):=ci (hJI 0 B eL).1 (fun b hb=>by simp only [List.mem_cons,List.not_mem_nil,or_false,Option.some.injEq] at hb;rcases hb with rfl | hb;exact aS.ow _ (.inl Z);exact fq.lo b hb.symm)
    exact (Ru a4 p0 J2 b rwb capb k av nv fv bv acc N rows _ B bm _ _ (cx.full gq wfB) eL (s3.get _ _ br) bU (s3.get _ _ (hLM.get _ _ hb)) ((hav.le hLM).le s3) ((hnv.le hLM).le s3) hrl (fun i hi=>((hF i hi).le hLM).le s3) (fun i C C2 j1 j2 j3 j4=>mK i C C2 j1 j2 j3 j4) (fun i C j1=>hvI i C (hJI i C j1)) (fun k C M2=>hyd k C M2)).mono (fun v C h=>⟨h.1,h.2.1,h.2.2.mono (ec.sub gq) ec.wf⟩)
  · intro F k B hF_ hk_
    refine ef.wf fun wfB_=>?_
    have hF:=hF_
    refine ef.region hF (by repeat' first | with_reducible exact iG | with_reducible apply pm | with_reducible apply lj) Y<|.q Z (ae Z)<|.nil ?_
    exact ⟨al.cons Z<|al.cons Z<|al.cons Z<|al.cons Z<|al.cons Z<|al.cons Z<|al.cons Z<|al.cons Z<|al.cons Z<|al.cons Z<|al.cons Z<|al.cons Z<|al.cons Z<|al.nil _,Z,AH.le.refl _,wfB_⟩
  · rintro F k B M4 hF hk_ ⟨i1,g1,f1⟩ wfB hnB ec
    have s3:M.le (B.hide [some a4,blk (.slice (some ⟨a2,0,none⟩) acc.length acc.length)]):=ci i1 (fun b hb=>by simp only [List.mem_cons,List.not_mem_nil,or_false,Option.some.injEq] at hb;rcases hb with rfl | hb;exact aS.ow _ (.inl Z);exact f1.lo b hb.symm)
    have s4:=ec.sub g1
    have leX:=cE B [some a4,blk (.slice (some ⟨a2,0,none⟩) acc.length acc.length)]
    have wfX:(B.hide [some a4,blk (.slice (some ⟨a2,0,none⟩) acc.length acc.length)]).wf:=cm wfB
    have noX:(B.hide [some a4,blk (.slice (some ⟨a2,0,none⟩) acc.length acc.length)]).get a4=none:=cr (by simp)
    have fX:Fresh (B.hide [some a4,blk (.slice (some ⟨a2,0,none⟩) acc.length acc.length)]) B (.slice (some ⟨a2,0,none⟩) acc.length acc.length) 1 (cl (ko (List.replicate acc.length false) ((gk acc N).take k))):=f1.hide (by simp)
    have hlr:=AQ hal _ (bw (d:=(0:Int)) hk_)
    have hml:(ko (List.replicate acc.length false) ((gk acc N).take k)).length=acc.length:=by rw [m0];simp
    generalize hMX:B.hide [some a4,blk (.slice (some ⟨a2,0,none⟩) acc.length acc.length)]=MX at s3 s4 leX wfX noX fX
    refine ef.block<|.region hF (by repeat' first | with_reducible exact iG | with_reducible apply pm | with_reducible apply lj) Y<|.q Z (ak iE Z Z g1 Z)<|.q Z (ah Z) ?_
    obtain ⟨qt,qN,qv,p8,qa,iS,k6,nV,qV,p5,qT,oV⟩:=fX.at1 (x:=((gk acc N).getD k 0).toNat) Oi
    rw [bJ] at k6
    refine Ops.q Z (ax lS mc Z iS (iQ O) (by rw [k6];omega))<|.l Z (fun _ _ n4 _=>aQ (off:=((gk acc N).getD k 0).toNat) (c':=p8.set (((gk acc N).getD k 0).toNat) (.bool (true))) wfB rfl (by simp) rfl rfl mc nV (by show (((gk acc N).getD k 0).toNat) + 1<=_;omega) rfl rfl fun A75 di=>?_)
    have k3:=di.keep _ _ (fun q=>eY (by rw [iS];exact congrArg some q.symm)) g1
    have g5:=oV (.bool (true)) A75 di
    rw [lg] at g5
    have h4:=an leX wfX p5 di.n di.keep
    refine n4 _ _<|.nil ?_
    have fe:=cw g5 (congrArg cl (Jh hk_))
    exact ⟨⟨s3.trans h4,k3,fe.base s3⟩,di.wf,cx.mono ⟨h4,wfX,fun b hb=>by rcases hb.val k3 with rfl | q;exact noX;exact fe.lo b q⟩ s4 ec.wf⟩
  · rintro B D0 ⟨i1,g1,f1⟩ wfB hnD hnB gD hoD hPM
    have leB:=hLM.trans i1
    obtain ⟨LV,hLV⟩:∃ LV,LV=iZ acc N:=⟨_,rfl⟩
    have frB:=cw (f1.base hLM) (congrArg cl (show ko (List.replicate acc.length false) ((gk acc N).take (gk acc N).length)=LV by rw [List.take_length,hLV];exact Jg hal))
    have hlfl:LV.length=acc.length:=by rw [hLV];exact Je
    have bY:=i1.get _ _ dK
    have cX:=i1.get _ _ dL
    have bV:=i1.get _ _ d0
    have eS:=i1.get _ _ br
    have hlA:A.n<=D0:=Nat.le_trans hLM.n (Nat.le_trans aS.le.n hnD)
    have nl:D0 ≠ b4:=by have:=aS.wf _ _ dK;have:=aS.le.n;omega
    have aG:D0 ≠ b9:=by have:=aS.wf _ _ dL;have:=aS.le.n;omega
    have k9:D0 ≠ cA:=by have:=aS.wf _ _ d0;have:=aS.le.n;omega
    have ka:D0 ≠ a4:=by have:=e9 _ _ fl;omega
    have hg:D0 ≠ bm:=by have:=aS.wf _ _ br;have:=aS.le.n;omega
    have nvD:blk (.slice (some ⟨a2,0,none⟩) acc.length acc.length) ≠ some D0:=fun q=>hoD (.inr ⟨_,_,g1,q⟩)
    refine oy _ _<|.seq fun K80 oK=>.seq fun K82 k4=>.region<|.q Z (ak iE Z Z g1 Z)<|.q Z (bF (n:=LV.length) lS Z frB.slc O (fw _))<|.q Z (ku (b:=0) Z Z)<|.q Z (ah Z)<|.part (t:=35) Z (fun p6=>?_) (fun p6=>?_)
    ·
      refine Ops.off Z Z Z Z<|.off Z Z Z Z<|.off Z Z Z Z<|.off Z Z Z Z<|.q Z (aM Z Z)<|.nil<|k4 _ _<|.cond_true Z<|.seq fun K85 oN=>.region ?_
      refine Ops.q Z (aq qx j9 Z Z bV Z)<|.l Z (fun _ _ n6 _=>aQ (cs:=[num ((k:Nat):Int),num ((0:Nat):Int),.slice none 0 0,.slice none 0 0]) (c':=[num ((k:Nat):Int),num ((0:Nat):Int),.slice none 0 0,.slice none 0 0]) wfB rfl rfl rfl rfl j9 cX (Nat.le_of_ble_eq_true rfl) rfl rfl fun A88 e7=>?_)
      have oP:=e7.keep _ _ aG gD
      have h5:=an leB wf dJ e7.n e7.keep
      refine n6 _ _<|.q Z (ae Z)<|.nil<|oN _ _<|.ret ?_
      (repeat first | with_reducible refine bz ?_ | with_reducible refine bi ?_);(repeat first | with_reducible refine fb ?_ | with_reducible refine eo ?_ | with_reducible refine dY U ?_ | with_reducible refine d4 ?_ | with_reducible refine dn ?_);have cC:LV.getD 0 false=false:=(by first | assumption | exact xD OF | simpa using ‹(!LV.getD 0 false)=true›);refine ⟨[D0],rfl,(by simp),(fun E hE=>by rw [List.mem_singleton] at hE;subst hE;exact oP),[.agg #[num ((k:Nat):Int),num ((0:Nat):Int),.slice none 0 0,.slice none 0 0],.bool (true)],fun A2 dI eg dz=>?_⟩;have hkD:∀ b o,b ≠ D0->A88.get b=some o->A2.get b=some o:=fun b o hb h=>dz b o (by simpa using hb) h;exact ⟨df qx j9 Z (hkD _ _ aG.symm e7.get) Z (dF Z d7),⟨_,Z,_,_,[],Z,⟨by rw [eg];exact h5.n,fun b o h=>hkD b o (by have:=wf _ _ h;omega) (h5.get _ _ h)⟩,dI,cw (Fresh.nil _ _ _) (congrArg cl (show []=_ from by rw [ux (by rw [<- hLV];exact cC)])),Fresh.nil _ _ _,mG ib.nil (by rw [ux (by rw [<- hLV];exact cC)]),bq.nil,aL.nil,aL.nil⟩⟩
    ·
      refine Ops.on Z Z<|.q Z (ak iE Z Z g1 Z)<|.on Z Z ?_
      obtain ⟨qu,qA,qd,qR,qb,qP,qD,nT,oW,o1,pV,kc⟩:=bK.at (i:=0) frB.slc Oi O
      refine Ops.q Z (ax lS mc Z nT Z oW)<|.on Z Z<|.q Z (ak ut Z Z o1 ((cT kc).trans (ek O)))<|.on Z Z<|.q Z (eu Z)<|.q Z (aW Z Z)<|.nil<|k4 _ _<|.ifB Z (fun p7=>?_) (fun p7=>?_)
      ·
        refine am.seq fun K99 kA=>.region<|.q Z (aq qx j9 Z Z bV Z)<|.l Z (fun _ _ hC _=>aQ (cs:=[num ((k:Nat):Int),num ((0:Nat):Int),.slice none 0 0,.slice none 0 0]) (c':=[num ((k:Nat):Int),num ((0:Nat):Int),.slice none 0 0,.slice none 0 0]) wfB rfl rfl rfl rfl j9 cX (Nat.le_of_ble_eq_true rfl) rfl rfl fun A102 cZ=>?_)
        have kC:=cZ.keep _ _ aG gD
        have fn:=an leB wf dJ cZ.n cZ.keep
        refine hC _ _<|.q Z (ae Z)<|.nil<|kA _ _<|.ret ?_
        (repeat first | with_reducible refine bz ?_ | with_reducible refine bi ?_);(repeat first | with_reducible refine fb ?_ | with_reducible refine eo ?_ | with_reducible refine dY U ?_ | with_reducible refine d4 ?_ | with_reducible refine dn ?_);have cC:LV.getD 0 false=false:=(by first | assumption | exact xD OF | simpa using ‹(!LV.getD 0 false)=true›);refine ⟨[D0],rfl,(by simp),(fun E hE=>by rw [List.mem_singleton] at hE;subst hE;exact kC),[.agg #[num ((k:Nat):Int),num ((0:Nat):Int),.slice none 0 0,.slice none 0 0],.bool (true)],fun A2 dI eg dz=>?_⟩;have hkD:∀ b o,b ≠ D0->A102.get b=some o->A2.get b=some o:=fun b o hb h=>dz b o (by simpa using hb) h;exact ⟨df qx j9 Z (hkD _ _ aG.symm cZ.get) Z (dF Z d7),⟨_,Z,_,_,[],Z,⟨by rw [eg];exact fn.n,fun b o h=>hkD b o (by have:=wf _ _ h;omega) (fn.get _ _ h)⟩,dI,cw (Fresh.nil _ _ _) (congrArg cl (show []=_ from by rw [ux (by rw [<- hLV];exact cC)])),Fresh.nil _ _ _,mG ib.nil (by rw [ux (by rw [<- hLV];exact cC)]),bq.nil,aL.nil,aL.nil⟩⟩
      ·
        refine am.skip<|oK _ _<|.seq fun K111 kD=>?_
        have hpos:0 < acc.length:=by rw [<- hlfl];exact Nat.pos_of_ne_zero ‹¬ LV.length=0›
        refine am.region<|.q Z (ak mQ Z Z bY Z)<|.q Z (cQ Z)<|.q Z (aj jy iK U Z)<|.q Z (ak iE Z Z (leB.get _ _ hb) Z)<|.q Z (bF (n:=acc.length) lS Z (hav.le leB) O (fw _))<|.q Z (ml Z Z)<|.q Z (ml Z Z) ?_
        have eQ:LV.length=N.length:=by rw [hlfl,hal]
        refine Ops.l Z (fun _ _ hD _=>au Z (JK acc.length 182 183 #[.pointer (some ⟨a4,0,none⟩),.pointer (some ⟨b4,0,none⟩)] #[.pointer (some ⟨a4,0,none⟩),.pointer (some ⟨b4,0,none⟩)] (TE acc LV) (oH LV N) B O (fun i B hi le wfB=>Tg i a4 b4 _ _ _ _ (.slice (some ⟨a2,0,none⟩) acc.length acc.length) LV b rwb capb k av nv fv bv acc N rows B (le.get _ _ g1) (le.get _ _ bY) (frB.slc.le le) eQ bU ((leB.trans le).get _ _ hb) (hav.le (leB.trans le)) (hnv.le (leB.trans le)) hrl (fun i hi=>(hF i hi).le (leB.trans le)) O) (fun cls cv i B hcv h1 h2 hi le wfB=>Th i cls cv a4 b4 _ _ _ _ (.slice (some ⟨a2,0,none⟩) acc.length acc.length) LV b rwb capb k av nv fv bv acc N rows B (le.get _ _ g1) (le.get _ _ bY) (frB.slc.le le) eQ bU ((leB.trans le).get _ _ hb) (hav.le (leB.trans le)) (hnv.le (leB.trans le)) hrl (fun i hi=>(hF i hi).le (leB.trans le)) O hcv O (by rw [<- hal];exact h2)) (zH LV acc.length) (IA _ (fun i hi h=>Mn i hi (by rw [<- hLV];exact h))) (fun cls _ _=>IB _ cls) (fun cls h1 h2 h3 i j hi hj h=>Pz (N:=N) O _ cls h1 h2 h3 i j hi hj h)) ?_)
        rintro qp A115 ⟨aR,aB,b7⟩
        have g7:=aR.get _ _ bY
        have g8:=aR.get _ _ cX
        have g9:=aR.get _ _ bV
        have ge:=aR.get _ _ g1
        have gf:=aR.get _ _ eS
        have gg:=aR.get _ _ gD
        have f2:=frB.le aR
        have dM:=leB.trans aR
        have f3:=b7.base leB
        have hX:=b7.ne wfB bY
        have hY:=b7.ne wfB cX
        have hZ:=b7.ne wfB bV
        have i2:=b7.ne wfB g1
        have ih:=b7.ne wfB gD
        refine hD _ _<|.l Z (fun _ _ hG _=>cg aB Kw rfl fun A134 bS a3=>?_)
        have e1:=ne_new aB g7 a3.lo
        have e4:=ne_new aB g8 a3.lo
        have dj:=ne_new aB g9 a3.lo
        have dm:=ne_new aB ge a3.lo
        have cV:=ne_new aB gf a3.lo
        have dW:=ne_new aB gg a3.lo
        have fD:=f2.own.ne_new aB a3.lo
        have fE:=f3.own.ne_new aB a3.lo
        have fM:=aU wf (Nat.le_trans dM.n a3.lo)
        have nL:=Nat.le_trans dM.n a3.lo
        have kK:=a3.le.get _ _ g7
        have kL:=a3.le.get _ _ g8
        have kM:=a3.le.get _ _ g9
        have kP:=a3.le.get _ _ ge
        have kT:=a3.le.get _ _ gf
        have kV:=a3.le.get _ _ gg
        have ht:=f2.le a3.le
        have f4:=f3.le a3.le
        have hS:=dM.trans a3.le
        refine hG _ _ ?_
        obtain ⟨aA,ay,ar,nC,_⟩:=f4.own.slice
        subst nC
        refine Ops.l Z (fun _ _ hH _=>aQ (cs:=[.slice aA ay ar]) (c':=[.slice aA ay ar]) a3.wf rfl rfl rfl rfl fF a3.get (Nat.le_of_ble_eq_true rfl) rfl rfl fun A149 a1=>?_)
        have gl:=a1.keep _ _ e1 kK
        have gm:=a1.keep _ _ e4 kL
        have gp:=a1.keep _ _ dj kM
        have gs:=a1.keep _ _ dm kP
        have gA:=a1.keep _ _ cV kT
        have gC:=a1.keep _ _ dW kV
        have f6:=ht.keep a1.keep fD
        have hu:=f4.keep a1.keep fE
        have dS:=an hS wf fM a1.n a1.keep
        refine hH _ _<|.nil ?_
        obtain ⟨CL,hCL⟩:∃ CL,CL=yy acc (iZ acc N) N:=⟨_,rfl⟩
        have f7:=cw hu (congrArg cO (show zW acc.length (TE acc LV) (oH LV N)=CL by rw [hCL,hLV,hal];rfl))
        obtain ⟨eN,mM⟩:CL.length=N.length/\∀ c ∈ CL,0<=c/\c < (N.length:Int):=by rw [hCL];exact Fz
        refine kD _ _<|.seq fun K161 l0=>.region<|.l Z (fun _ _ hI _=>nh a1.wf fun A165 bT D=>?_)
        have e2:=ne_new a1.wf gl D.lo
        have e5:=ne_new a1.wf gm D.lo
        have dk:=ne_new a1.wf gp D.lo
        have dv:=ne_new a1.wf gs D.lo
        have g0:=ne_new a1.wf gA D.lo
        have dZ:=ne_new a1.wf gC D.lo
        have d2:=ne_new a1.wf a1.get D.lo
        have ir:=f6.own.ne_new a1.wf D.lo
        have it:=f7.own.ne_new a1.wf D.lo
        have fN:=aU wf (Nat.le_trans dS.n D.lo)
        have nM:=Nat.le_trans dS.n D.lo
        have gE:=D.le.get _ _ gl
        have gF:=D.le.get _ _ gm
        have gG:=D.le.get _ _ gp
        have gL:=D.le.get _ _ gs
        have l1:=D.le.get _ _ gA
        have gM:=D.le.get _ _ gC
        have gN:=D.le.get _ _ a1.get
        have f9:=f6.le D.le
        have fd:=f7.le D.le
        have dV:=dS.trans D.le
        refine hI _ _<|.l Z (fun _ _ hJ _=>cg D.wf VE rfl fun A181 b5 a0=>?_)
        have e3:=ne_new D.wf gE a0.lo
        have e6:=ne_new D.wf gF a0.lo
        have dl:=ne_new D.wf gG a0.lo
        have dw:=ne_new D.wf gL a0.lo
        have g2:=ne_new D.wf l1 a0.lo
        have e0:=ne_new D.wf gM a0.lo
        have d3:=ne_new D.wf gN a0.lo
        have bM:=ne_new D.wf D.get a0.lo
        have fI:=f9.own.ne_new D.wf a0.lo
        have fL:=fd.own.ne_new D.wf a0.lo
        have fO:=aU wf (Nat.le_trans dV.n a0.lo)
        have nN:=Nat.le_trans dV.n a0.lo
        have l2:=a0.le.get _ _ gE
        have l3:=a0.le.get _ _ gF
        have l4:=a0.le.get _ _ gG
        have l6:=a0.le.get _ _ gL
        have l7:=a0.le.get _ _ gM
        have l9:=a0.le.get _ _ gN
        have lb:=a0.le.get _ _ D.get
        have hv:=f9.le a0.le
        have hw:=fd.le a0.le
        have hT:=dV.trans a0.le
        refine hJ _ _<|.l Z (fun _ _ hK _=>aQ (cs:=[.map (some bT)]) (c':=[.map (some bT)]) a0.wf rfl rfl rfl rfl UQ a0.get (Nat.le_of_ble_eq_true rfl) rfl rfl fun A197 ac=>?_)
        have lp:=ac.keep _ _ e3 l2
        have lt:=ac.keep _ _ e6 l3
        have lw:=ac.keep _ _ dl l4
        have lB:=ac.keep _ _ dw l6
        have lC:=ac.keep _ _ e0 l7
        have gP:=ac.keep _ _ d3 l9
        have lE:=ac.keep _ _ bM lb
        have hx:=hv.keep ac.keep fI
        have fi:=hw.keep ac.keep fL
        have hU:=an hT wf fO ac.n ac.keep
        refine hK _ _<|.nil<|l0 _ _<|.seq fun K210 lF=>.seq fun K212 lK=>.region<|.q Z (ak l8 Z Z gP Z)<|.q Z (bF (n:=CL.length) ep Z fi.slc O (eD _))<|.q Z (ah Z)<|.nil ?_
        refine lK _ _<|.block<|.loopD (X:=Nat × List (Int × Value) × Array MapEntry × Nat) (fun ⟨i,E,es,ck⟩=>[(1,.pointer (some ⟨b4,0,none⟩)),(2,.pointer (some ⟨b9,0,none⟩)),(4,.pointer (some ⟨cA,0,none⟩)),(5,.pointer (some ⟨a4,0,none⟩)),(7,.pointer (some ⟨bS,0,none⟩)),(8,.pointer (some ⟨b5,0,none⟩)),(51,.slice aA ay ar),(52,num ((CL.length:Nat):Int)),(53,num ((i:Nat):Int))]) (fun ⟨i,E,es,ck⟩=>[V.mark D0]) (fun ⟨i,E,es,ck⟩ B=>(i<=CL.length/\du num es E/\qs CL i E)/\A.le B/\Fresh A B (.slice (some ⟨a2,0,none⟩) acc.length acc.length) 1 (cl LV)/\Fresh A B (.slice aA ay ar) 1 (cO CL)/\B.get bT=some (.obj true (.map es ck))/\B.get D0=some (.obj true (.deferred (some [])))/\B.get b4=some (.row true [.pointer (some ⟨b,0,none⟩)] 1)/\B.get b9=some (.row true [num ((0:Nat):Int),num ((0:Nat):Int),.slice none 0 0,.slice none 0 0] 4)/\B.get cA=some (.row true [num ((k:Nat):Int),num ((0:Nat):Int),.slice none 0 0,.slice none 0 0] 4)/\B.get a4=some (.row true [.slice (some ⟨a2,0,none⟩) acc.length acc.length] 1)/\B.get bS=some (.row true [.slice aA ay ar] 1)/\B.get b5=some (.row true [.map (some bT)] 1)/\V.blk (.slice (some ⟨a2,0,none⟩) acc.length acc.length) ≠ some bT/\V.blk (.slice aA ay ar) ≠ some bT/\V.blk (.slice (some ⟨a2,0,none⟩) acc.length acc.length) ≠ some D0/\V.blk (.slice aA ay ar) ≠ some D0/\V.blk (.slice (some ⟨a2,0,none⟩) acc.length acc.length) ≠ some b4/\V.blk (.slice aA ay ar) ≠ some b4/\V.blk (.slice (some ⟨a2,0,none⟩) acc.length acc.length) ≠ some b9/\V.blk (.slice aA ay ar) ≠ some b9/\V.blk (.slice (some ⟨a2,0,none⟩) acc.length acc.length) ≠ some cA/\V.blk (.slice aA ay ar) ≠ some cA/\V.blk (.slice (some ⟨a2,0,none⟩) acc.length acc.length) ≠ some a4/\V.blk (.slice aA ay ar) ≠ some a4/\V.blk (.slice (some ⟨a2,0,none⟩) acc.length acc.length) ≠ some bS/\V.blk (.slice aA ay ar) ≠ some bS/\V.blk (.slice (some ⟨a2,0,none⟩) acc.length acc.length) ≠ some b5/\V.blk (.slice aA ay ar) ≠ some b5) (fun ⟨i,E,es,ck⟩=>CL.length - i) (⟨0,[],#[],0⟩) (Sq Z Z Z Z Z Z Z Z Z) Z (⟨⟨Nat.zero_le _,du.nil,qs.start⟩,hU,hx,fi,lE,lC,lp,lt,lw,lB,gP,ac.get,ir,it,nvD,ih,(fun q=>by cases q;exact cH rfl),hX,(fun q=>by cases q;exact cP rfl),hY,(fun q=>by cases q;exact c4 Z),hZ,eY,i2,fD,fE,fI,fL⟩) ?_
        rintro ⟨i,E,es,ck⟩ B215 ⟨⟨hi,hme,hmi⟩,a5,bp,ab,aa,ag,a7,ai,aZ,aP,a9,a6,az,ap,bC,bc,bD,bd,bL,bl,ba,b2,bb,b3,b0,aT,b1,aV⟩
        refine am.wf fun cc=>.seq fun K217 lO=>.region<|.q Z (cd Z Z)<|.nil<|lO _ _<|.seq fun K219 lP=>.if rfl (fun nq=>?_) (fun nq=>?_)
        ·
          refine am.skip<|lP _ _<|.seq fun K222 gQ=>.block<|.seq fun K224 lT=>.region<|.q Z (ah Z) ?_
          obtain ⟨pP,q1,pI,q8,pE,q6,q4,kk,n7,kp,p9,ho⟩:=bK.at (i:=i) ab.slc Of O
          refine Ops.q Z (ax ep c5 Z kk Z n7)<|.q Z (ak eM Z Z kp ((cT ho).trans (c8 O)))<|.q Z (ae Z)<|.q Z (ae Z)<|.nil<|lT _ _<|.seq fun K227 gS=>.region<|.q Z (ak Fp Z Z a6 Z)<|.q Z (ah Z) ?_
          refine Ops.l Z (fun _ _ fm _=>wx (k:=(CL.getD i 0)) tc Z Z EO u3 z3 aa hme (fun pL hR=>?_) (fun hP=>?_))
          ·
            refine fm _ _<|.q Z (ah Z)<|.q Z (bh Z Z)<|.q Z (bh Z Z)<|.q Z (ae Z)<|.q Z (ae Z)<|.nil<|gS _ _<|.seq fun K233 lV=>.region ?_
            refine Ops.q Z (ah Z)<|.q Z (eu Z)<|.nil<|lV _ _<|.cond_false Z<|.skip<|gQ _ _<|.region<|.q Z (bE (b:=1) Z Z O)<|.q Z (ah Z) ?_
            refine Ops.nil ?_
            exact ⟨⟨i + 1,E,es,ck⟩,Sq Z Z Z Z Z Z Z Z Z,Z,⟨⟨by omega,hme,hmi.old O (hmi.in_ hR)⟩,a5,bp,ab,aa,ag,a7,ai,aZ,aP,a9,a6,az,ap,bC,bc,bD,bd,bL,bl,ba,b2,bb,b3,b0,aT,b1,aV⟩,O1⟩
          ·
            refine fm _ _<|.q Z (ah Z)<|.q Z (bh Z Z)<|.q Z (bh Z Z)<|.q Z (ae Z)<|.q Z (ae Z)<|.nil<|gS _ _<|.seq fun K235 lW=>.region ?_
            refine Ops.q Z (ah Z)<|.q Z (eu Z)<|.nil<|lW _ _<|.cond_true Z<|.region<|.q Z (ak Fp Z Z a6 Z)<|.q Z (ah Z)<|.q Z (ah Z)<|.l Z (fun _ _ hL _=>oh (k:=(CL.getD i 0)) tc cc rfl rfl rfl EO u3 aa hme hmi.nd fun A238 hr hm ad hW=>?_)
            have lX:=ad.keep _ _ dZ ag
            have lY:=ad.keep _ _ e2 a7
            have lZ:=ad.keep _ _ e5 ai
            have m1:=ad.keep _ _ dk aZ
            have m2:=ad.keep _ _ dv aP
            have m3:=ad.keep _ _ d2 a9
            have m6:=ad.keep _ _ bM.symm a6
            have hy:=bp.keep ad.keep az
            have hz:=ab.keep ad.keep ap
            have hV:=an a5 wf fN ad.n ad.keep
            refine hL _ _<|.nil<|gQ _ _<|.region<|.q Z (bE (b:=1) Z Z O)<|.q Z (ah Z)<|.nil ?_
            exact ⟨⟨i + 1,yi E (CL.getD i 0) (num ((i:Nat):Int)),hr,hm⟩,Sq Z Z Z Z Z Z Z Z Z,Z,⟨⟨by omega,hW,hmi.new O (hmi.no_ hP)⟩,hV,hy,hz,ad.get,lX,lY,lZ,m1,m2,m3,m6,az,ap,bC,bc,bD,bd,bL,bl,ba,b2,bb,b3,b0,aT,b1,aV⟩,O1⟩
        ·
          refine am.exit<|lF _ _<|.seq fun K253 mb=>.drawn [0,1,2,3,4,5,6,7,8,9,10,11,12,13,14] mixed Y Y Z<|.q Z Z Z (ak mQ Z Z a7 Z)<|.q Z Z Z (cQ Z)<|.q Z Z Z (aj yI c5 U Z)<|.q Z Z Z (ak eM Z Z (a5.get _ _ hb) Z)<|.q Z Z Z (ak l8 Z Z a9 Z) ?_
          obtain ⟨pS,q2,pJ,q9,pF,q7,q5,kl,n9,kv,pa,hp⟩:=bK.at (i:=0) ab.slc Of O
          refine bj.q Z Z Z (ax ep c5 Z kl Z n9)<|.q Z Z Z (ak eM Z Z kv ((cT hp).trans (c8 O)))<|.q Z Z Z (ml Z Z)<|.q Z Z Z (ml Z Z) ?_
          have gZ:sD B215 b5 CL:=⟨_,_,_,_,_,_,E,a6,aa,hme,hmi.all O⟩
          refine bj.l Z Z Z (fun _ _ hM _=>au Z (ye k 20001 N.length (N.length + 1) ((CL.getD 0 0)) 185 186 #[.pointer (some ⟨b4,0,none⟩),.pointer (some ⟨b5,0,none⟩),.pointer (some ⟨a4,0,none⟩),.pointer (some ⟨bS,0,none⟩)] #[.pointer (some ⟨b4,0,none⟩),.pointer (some ⟨b5,0,none⟩)] (jF LV N CL) (fun c=>acc.getD (jC CL c) false) (fun q=>q ∈ CL) B215 O ⟨by omega,by omega,by omega⟩ (bw O) (fun q c t=>M7 (lv:=LV) bU eN q c t) (fun Q hn hQ=>tM hn (fun q hq=>mM q (hQ q hq))) (fun q c B hq hc le wfB=>Tk q c b5 bS _ _ (.slice aA ay ar) CL a4 b4 _ _ _ _ (.slice (some ⟨a2,0,none⟩) acc.length acc.length) LV b rwb capb k av nv fv bv acc N rows B (le.get _ _ aP) (le.get _ _ a7) (bp.slc.le le) eQ bU ((a5.trans le).get _ _ hb) (hav.le (a5.trans le)) (hnv.le (a5.trans le)) hrl (fun i hi=>(hF i hi).le (a5.trans le)) (gZ.le le) (le.get _ _ a9) (ab.slc.le le) eN hq hc) (fun q B hq le wfB=>Tl q b5 b4 _ _ CL b rwb capb k av nv fv bv acc N rows B (le.get _ _ a7) bU ((a5.trans le).get _ _ hb) (hav.le (a5.trans le)) (hnv.le (a5.trans le)) hrl (fun i hi=>(hF i hi).le (a5.trans le)) (gZ.le le) eN hq)) ?_)
          rintro qr A262 ⟨aI,nH,nO,nK,nJ,nQ,rfl,c3,ha,ch,aC,aY,bP,a8,hd,he,hf,ex,ey,ez⟩
          have me:=c3.get _ _ ag
          have mm:=c3.get _ _ a7
          have mt:=c3.get _ _ ai
          have fo:=a5.trans c3
          have xr:=ch
          have xn:=aC
          have xa:=aY
          have xv:=bP
          have xf:=a8
          have y1:=hd
          have y2:=he
          have y3:=hf
          have y4:=ex
          have y5:=ey
          have y6:=ez
          have hEX:fU k (jF LV N CL) (N.length + 1) 0 [CL.getD 0 0] []=Dc k acc N:=by rw [hLV,hCL];rfl
          rw [hEX] at aY a8
          have fR:bT ≠ aI:=fun z=>by have q0:=aa;rw [z,aC] at q0;cases q0
          have h6:D0 ≠ aI:=fun z=>by have q0:=ag;rw [z,aC] at q0;cases q0
          have h8:b4 ≠ aI:=fun z=>by have q0:=a7;rw [z,aC] at q0;cases q0
          have h9:b9 ≠ aI:=fun z=>by have q0:=ai;rw [z,aC] at q0;cases q0
          have fT:cA ≠ aI:=fun z=>by have q0:=aZ;rw [z,aC] at q0;cases q0
          have fV:a4 ≠ aI:=fun z=>by have q0:=aP;rw [z,aC] at q0;cases q0
          have fQ:bS ≠ aI:=fun z=>by have q0:=a9;rw [z,aC] at q0;cases q0
          have fS:b5 ≠ aI:=fun z=>by have q0:=a6;rw [z,aC] at q0;cases q0
          have pi:=a8.ne aa
          have iv:=aY.ne cc ag
          have iD:=bP.ne cc ag
          have iN:=a8.ne ag
          have pj:=a8.ne a7
          have iF:=aY.ne cc ai
          have iH:=bP.ne cc ai
          have iR:=a8.ne ai
          have pl:=a8.ne aZ
          have pp:=a8.ne aP
          have pv:=a8.ne a9
          have pA:=a8.ne a6
          have hxl:=KW bU O
          refine hM _ _ (be.none Y)<|.q Z Z Z (ah Z)<|.q Z Z Z (bh Z Z)<|.q Z Z Z (bh Z Z)<|.q Z Z Z (ae Z)<|.q Z Z Z (ae Z)<|.done<|mb _ _<|.seq fun K303 mv=>.seq fun K305 mx=>?_
          refine am.region<|.q Z (ah Z)<|.q Z (eu Z)<|.q Z (ah Z)<|.on Z Z<|.q Z (ah Z)<|.on Z Z<|.q Z (cQ Z)<|.on Z Z<|.q Z (aj jy iK U Z) ?_
          refine Ops.on Z Z<|.q Z (ak iE Z Z ch Z)<|.on Z Z<|.q Z (bF (n:=((Dc k acc N).1.map (fun c=>acc.getD (jC CL c) false)).length) lS Z (aY.base a5).slc O (fw _))<|.on Z Z<|.q Z (dP (b:=20000) Z Z)<|.q Z (aW Z Z)<|.nil<|mx _ _<|.if rfl (fun nB=>?_) (fun nB=>?_)
          ·
            refine am.seq fun K308 q3=>?_
            exfalso;have:=hxl;simp only [List.length_map] at *;omega
          ·
            refine am.skip<|mv _ _<|.seq fun K310 mB=>.drawn [0,1,2,3,4,5,6,7,8,9,10,11,12,13,14] mixed Y Y Z<|.q Z Z Z (ak mQ Z Z mm Z)<|.q Z Z Z (cQ Z)<|.q Z Z Z (aj yI c5 U Z)<|.q Z Z Z (ak eM Z Z (fo.get _ _ hb) Z)<|.q Z Z Z (ah Z)<|.q Z Z Z (cQ Z) ?_
            refine bj.q Z Z Z (aj jy iK U Z)<|.q Z Z Z (ak iE Z Z ch Z)<|.q Z Z Z (ah Z)<|.q Z Z Z (cQ Z)<|.q Z Z Z (aj p3 i8 U Z)<|.q Z Z Z (ak kh Z Z ch Z) ?_
            obtain ⟨eZ,eT,eA,nD,_⟩:=(aY.base a5).own.slice
            subst nD
            obtain ⟨f0,eV,eC,nE,_⟩:=(bP.base a5).own.slice
            subst nE
            refine bj.q Z Z Z (cU Z (bn UY Kj ML Z))<|.l Z Z Z (fun _ _ hO _=>aQ (cs:=[num ((k:Nat):Int),num ((0:Nat):Int),.slice eZ eT eA,.slice f0 eV eC]) (c':=[num ((k:Nat):Int),num ((0:Nat):Int),.slice eZ eT eA,.slice f0 eV eC]) ha rfl rfl rfl rfl j9 mt (Nat.le_of_ble_eq_true rfl) rfl rfl fun A319 bB=>?_)
            have mE:=bB.keep _ _ aG me
            have hA:=(aY.base a5).keep bB.keep iF
            have hB:=(bP.base a5).keep bB.keep iH
            have hs:=(a8.base a5).keep bB.keep iR
            have fr:=an fo wf dJ bB.n bB.keep
            refine hO _ _ (be.none Y)<|.q Z Z Z (ae Z)<|.done<|mB _ _<|.ret ?_
            (repeat first | with_reducible refine bz ?_ | with_reducible refine bi ?_);(repeat first | with_reducible refine fb ?_ | with_reducible refine eo ?_ | with_reducible refine dY U ?_ | with_reducible refine d4 ?_ | with_reducible refine dn ?_);have cC:LV.getD 0 false=true:=(by first | assumption | simpa using ‹(!LV.getD 0 false)=false›);refine ⟨[D0],rfl,(by simp),(fun E hE=>by rw [List.mem_singleton] at hE;subst hE;exact mE),[.agg #[num ((k:Nat):Int),num ((0:Nat):Int),.slice eZ eT eA,.slice f0 eV eC],.bool (true)],fun A2 dI eg dz=>?_⟩;have hkD:∀ b o,b ≠ D0->A319.get b=some o->A2.get b=some o:=fun b o hb h=>dz b o (by simpa using hb) h;exact ⟨df qx j9 Z (hkD _ _ aG.symm bB.get) Z (dF Z d7),⟨_,Z,_,_,_,Z,⟨by rw [eg];exact fr.n,fun b o h=>hkD b o (by have:=wf _ _ h;omega) (fr.get _ _ h)⟩,dI,cw (hA.keep hkD iv) (congrArg cl (by rw [zT (by rw [<- hLV];exact cC),hCL])),hB.keep hkD iD,mG (hs.keep hkD iN) (by rw [zT (by rw [<- hLV];exact cC)]),ex,ey,ez⟩⟩
end Go.Proofs.YtjppkekmddjcfaaGreatDoor

namespace Go.Proofs.YtjppkekmddjcfaaGreatDoor
open Go Go.RowKit V
def uT (k n:Nat) (R:List (List Int)):Prop:=∀ r ∈ R,r.length=k/\∀ m ∈ r,-1<=m/\m < (n:Int)
theorem uT.mono {k n n':Nat} {R:List (List Int)} (h:uT k n R) (hn:n<=n'):uT k n' R:=fun r hr=>⟨(h r hr).1,fun m hm=>by have:=(h r hr).2 m hm;omega⟩
theorem vn {step:Int->Nat->Option Int} {q:Int}:∀ (l:List Nat) (r:List Int × List Int),(∀ m ∈ r.1,-1<=m/\m < (r.2.length:Int)) ->
    (l.foldl (gr step q) r).1.length=r.1.length + l.length/\r.2.length<=(l.foldl (gr step q) r).2.length/\∀ m ∈ (l.foldl (gr step q) r).1,-1<=m/\m < ((l.foldl (gr step q) r).2.length:Int)
  | [],r,h=>⟨rfl,Nat.le_refl _,h⟩
  | c :: l,r,h=>by
    rw [List.foldl_cons]
    have key:(gr step q r c).1.length=r.1.length + 1/\r.2.length<=(gr step q r c).2.length/\∀ m ∈ (gr step q r c).1,-1<=m/\m < ((gr step q r c).2.length:Int):=by
      unfold gr
      split
      · refine ⟨by simp,Nat.le_refl _,fun m hm=>?_⟩
        rcases List.mem_append.1 hm with z | z
        · exact h m z
        · rw [List.mem_singleton] at z;subst z;exact ⟨Int.le_refl _,by show (-1:Int) < (r.2.length:Int);omega⟩
      · rename_i t _
        split
        · rename_i ht
          refine ⟨by simp,Nat.le_refl _,fun m hm=>?_⟩
          rcases List.mem_append.1 hm with z | z
          · exact h m z
          · rw [List.mem_singleton] at z;subst z;have:=List.idxOf_lt_length_iff.2 ht;exact ⟨by omega,by show ((r.2.idxOf t:Nat):Int) < (r.2.length:Int);omega⟩
        · refine ⟨by simp,by simp,fun m hm=>?_⟩
          show -1<=m/\m < ((r.2 ++ [t]).length:Int)
          rw [List.length_append,List.length_singleton]
          rcases List.mem_append.1 hm with z | z
          · have:=h m z;omega
          · rw [List.mem_singleton] at z;subst z;exact ⟨by omega,by omega⟩
    obtain ⟨k1,k2,k3⟩:=key
    obtain ⟨g1,g2,g3⟩:=vn l (gr step q r c) k3
    exact ⟨by rw [g1,k1,List.length_cons];omega,Nat.le_trans k2 g2,g3⟩
theorem tH {k:Nat} {step:Int->Nat->Option Int} {D:Int->Prop} {bd:Nat} (hDs:∀ q c t,D q->c < k->step q c=some t->D t) (hfin:∀ Q:List Int,Q.Nodup->(∀ q ∈ Q,D q)->Q.length<=bd) :
    ∀ (f i:Nat) (Q:List Int) (R:List (List Int)),Q.Nodup->(∀ q ∈ Q,D q)->bd < f + i->R.length=i->i<=Q.length->uT k Q.length R ->
      (fU k step f i Q R).2.length=(fU k step f i Q R).1.length/\uT k (fU k step f i Q R).1.length (fU k step f i Q R).2
  | 0,i,Q,R,h1,h2,h3,h4,h5,h6=>by have:=hfin Q h1 h2;exact ⟨by show R.length=Q.length;omega,h6⟩
  | f + 1,i,Q,R,h1,h2,h3,h4,h5,h6=>by
    unfold fU;split
    · rename_i hi
      obtain ⟨g1,g2⟩:=vm hDs (h2 _ (bw (d:=(0:Int)) hi)) (List.range k) ([],Q) (fun c hc=>List.mem_range.1 hc) h1 h2
      obtain ⟨r1,r2,r3⟩:=vn (step:=step) (q:=Q.getD i 0) (List.range k) ([],Q) (fun m hm=>by cases hm)
      refine tH hDs hfin f (i + 1) _ _ g1 g2 O (by simp [h4]) (Nat.le_trans hi r2) fun r hr=>?_
      rcases List.mem_append.1 hr with z | z
      · exact h6.mono r2 r z
      · rw [List.mem_singleton] at z;subst z
        exact ⟨by rw [show (LC k step (Q.getD i 0) Q).1.length=_ from r1];simp,r3⟩
    · exact ⟨by show R.length=Q.length;omega,h6⟩
theorem ww {k:Nat} {acc:List Bool} {L:List (List Int)} (h:Kx k acc L) (q:Int) (c:Nat) (t:Int) (hq:-1<=q/\q < (L.length:Int)) (hc:c < k) (e:nP L q c=some t):-1<=t/\t < (L.length:Int):=by
  simp only [nP,Option.some.injEq] at e
  subst e
  split
  · exact ⟨by omega,by have:=h.num;omega⟩
  · have:=h.val q.toNat c O hc;exact ⟨by omega,by omega⟩
theorem O4 {k:Nat} {acc:List Bool} {L:List (List Int)} (h:Kx k acc L):CY k (wv k acc L) (gW k L).2/\(gW k L).2.length<=L.length + 1:=by
  have hn:=h.num
  have h0:∀ q ∈ ([0]:List Int),-1<=q/\q < (L.length:Int):=fun q hq=>by rw [List.mem_singleton] at hq;subst hq;omega
  obtain ⟨g1,g2⟩:=sO (D:=fun q=>-1<=q/\q < (L.length:Int)) (k:=k) (ww h) (L.length + 2) 0 [0] [] (by simp) h0
  obtain ⟨r1,r2⟩:=tH (D:=fun q=>-1<=q/\q < (L.length:Int)) (bd:=L.length + 1) (k:=k) (ww h) (fun Q h1 h2=>re h1 h2) (L.length + 2) 0 [0] [] (by simp) h0 O Z (by simp) (fun r hr=>by cases hr)
  have hb:=re g1 g2
  have hr:∀ s,s < (gW k L).2.length->((gW k L).2.getD s []).length=k/\∀ m ∈ (gW k L).2.getD s [],-1<=m/\m < ((gW k L).1.length:Int):=fun s hs=>r2 _ (bw hs)
  refine ⟨⟨h.sym,by rw [wv,List.length_map];exact r1.symm,by have:(gW k L).2.length=(gW k L).1.length:=r1;have:(gW k L).1.length<=L.length + 1:=hb;omega,fun s hs=>(hr s hs).1,fun s x hs hx=>?_⟩,by have:(gW k L).2.length=(gW k L).1.length:=r1;have:(gW k L).1.length<=L.length + 1:=hb;omega⟩
  have:=hr s hs
  have h2:=this.2 (ie (gW k L).2 s x) (bw (by rw [this.1];exact hx))
  have:(gW k L).2.length=(gW k L).1.length:=r1
  omega
end Go.Proofs.YtjppkekmddjcfaaGreatDoor

namespace Go.Proofs.YtjppkekmddjcfaaGreatDoor
open Go Go.RowKit V
set_option maxRecDepth 100000
set_option maxHeartbeats 4000000


theorem Oh (b:Nat) (rwb:Bool) (capb k:Nat) (av nv fv bv:Value) (acc:List Bool) (N:List (List Int)) (rows:List Value) (A:AH) (hok:CY k acc N) (hN:N.length<=20000) (hb:A.get b=some (.row rwb [num (k:Int),av,nv,fv,bv] capb)) (hav:bK A 1 av (cl acc)) (hnv:bK A 1 nv (em rows)) (hrl:rows.length=N.length) (hF:∀ i,i < N.length->bK A 1 (rows.getD i undef) (cO (N.getD i []))):bH Tryz.prog 117 #[.pointer (some ⟨b,0,none⟩),.bool (true)] A (fun v A1=>∃ av2 nv2 rows2,v=.tuple #[.agg #[num (k:Int),num ((0:Nat):Int),av2,nv2],num ((0:Nat):Int)]/\A.le A1/\A1.wf/\Fresh A A1 av2 1 (cl (yw k acc N).1)/\Fresh A A1 nv2 1 (em rows2)/\ib A A1 rows2 (yw k acc N).2/\bq av2 nv2/\aL av2 rows2/\aL nv2 rows2):=by
 refine jP Tryz.call117 Tryz.func117 Z Tryz.results117 Tryz.ntmps117 Z (fun wf=>?_);have aC:=AH.le.refl A;refine am.seq fun _ h2=>.region<|.l Z (fun _ _ bu _=>cg wf Kj rfl fun A5 b4 a1=>?_);have aA:=aU wf (Nat.le_trans aC.n a1.lo);have D:=aC.trans a1.le;refine bu _ _<|.q Z (ae Z)<|.nil<|h2 _ _<|.seq fun _ h9=>.seq fun _ bb=>.region<|.q Z (ah Z)<|.q Z (eu Z)<|.nil ?_;refine bb _ _<|.cond_false Z<|.skip<|h9 _ _<|.seq fun _ bc=>.region<|.q Z (ah Z)<|.l Z (fun _ _ aT _=>au Z (Rn b _ _ k av nv fv bv acc N rows A5 hok hN (D.get _ _ hb) (hav.le D) (hnv.le D) hrl (fun i hi=>(hF i hi).le D)) ?_);rintro bR A16 ⟨ba,bA,bD,rfl,ad,a0,a2,a4,a3,a6,a7,a8⟩;have aB:=ad.get _ _ a1.get;have az:=D.trans ad;have xa:=a2;have xv:=a4;have xf:=a3;have bM:=a6;have bO:=a7;have bP:=a8;have b3:=a2.ne a1.wf a1.get;have b5:=a4.ne a1.wf a1.get;have b8:=a3.ne a1.get;refine aT _ _<|.q Z (ah Z)<|.q Z (bh Z Z)<|.q Z (bh Z Z)<|.l Z (fun _ _ aV _=>cg a0 Kj rfl fun A25 bL h=>?_);have a5:=ne_new a0 aB h.lo;have b6:=(a2.base D).own.ne_new a0 h.lo;have b7:=(a4.base D).own.ne_new a0 h.lo;have b9:=(a3.base D).ne_new a0 h.lo;have ay:=aU wf (Nat.le_trans az.n h.lo);have bd:=h.le.get _ _ aB;have ap:=(a2.base D).le h.le;have ar:=(a4.base D).le h.le;have aD:=(a3.base D).le h.le;have b0:=az.trans h.le;refine aV _ _ ?_;obtain ⟨ag,ab,a9,bB,_⟩:=ap.own.slice;subst bB;obtain ⟨ai,ac,aa,bC,_⟩:=ar.own.slice;subst bC;refine Ops.l Z (fun _ _ aY _=>aQ (cs:=[num ((k:Nat):Int),num ((0:Nat):Int),.slice ag ab a9,.slice ai ac aa]) (c':=[num ((k:Nat):Int),num ((0:Nat):Int),.slice ag ab a9,.slice ai ac aa]) h.wf rfl rfl rfl rfl j9 h.get (Nat.le_of_ble_eq_true rfl) rfl rfl fun A38 V=>?_);have bl:=V.keep _ _ a5 bd;have aI:=ap.keep V.keep b6;have aP:=ar.keep V.keep b7;have aF:=aD.keep V.keep b9;have b1:=an b0 wf ay V.n V.keep;refine aY _ _<|.q Z (ae Z)<|.nil<|bc _ _<|.seq fun _ bm=>.seq fun _ bp=>.region<|.q Z (ah Z)<|.q Z (eu Z)<|.nil ?_;refine bp _ _<|.cond_false Z<|.skip<|bm _ _<|.seq fun _ br=>.region<|.q Z (aq qx j9 Z Z V.get Z)<|.l Z (fun _ _ aZ _=>aQ (cs:=[num ((k:Nat):Int),num ((0:Nat):Int),.slice ag ab a9,.slice ai ac aa]) (c':=[num ((k:Nat):Int),num ((0:Nat):Int),.slice ag ab a9,.slice ai ac aa]) V.wf rfl rfl rfl rfl j9 bl (Nat.le_of_ble_eq_true rfl) rfl rfl fun A52 X=>?_);have aR:=aI.keep X.keep b3;have aS:=aP.keep X.keep b5;have aG:=aF.keep X.keep b8;have b2:=an b1 wf aA X.n X.keep;refine aZ _ _<|.q Z (ae Z)<|.nil<|br _ _<|.ret ?_;repeat first | with_reducible refine bz ?_ | with_reducible refine bi ?_
 exact aJ (df qx j9 Z X.get Z (dF Z d7)) (⟨_,_,_,Z,b2,X.wf,aR,aS,aG,a6,a7,a8⟩)

theorem NW (k:Nat) (acc:List Bool) (L:List (List Int)) (av nv:Value) (rows:List Value) (A:AH) (hL:L.length<=19000) (hok:Kx k acc L) (hav:bK A 1 av (cl acc)) (hnv:bK A 1 nv (em rows)) (hrl:rows.length=L.length) (hF:∀ i,i < L.length->bK A 1 (rows.getD i undef) (cO (L.getD i []))):bH Tryz.prog 79 #[.agg #[num ((k:Nat):Int),num ((0:Nat):Int),av,nv]] A (fun v A1=>∃ av2 nv2 rows2,v=.tuple #[.agg #[num (k:Int),num ((0:Nat):Int),av2,nv2],num ((0:Nat):Int)]/\A.le A1/\A1.wf/\Fresh A A1 av2 1 (cl (Py k acc L).1)/\Fresh A A1 nv2 1 (em rows2)/\ib A A1 rows2 (Py k acc L).2/\bq av2 nv2/\aL av2 rows2/\aL nv2 rows2):=by
 refine ia Tryz.call79 Tryz.func79 Z Tryz.results79 Tryz.ntmps79 Z (fun wf=>?_);have c4:=AH.le.refl A;have aD:=hok;obtain ⟨hmk,hml⟩:=O4 hok;refine am.seq fun _ h2=>.region<|.l Z (fun _ _ bY _=>dQ wf rfl rfl fun A5 b4 aF=>?_);have ba:=c4.trans aF.le;refine bY _ _<|.l Z (fun _ _ c3 _=>cg aF.wf Kj rfl fun A10 b9 a8=>?_);have aS:=aU wf (Nat.le_trans ba.n a8.lo);have b6:=a8.le.get _ _ aF.get;have a5:=ba.trans a8.le;refine c3 _ _<|.q Z (ae Z)<|.nil<|h2 _ _<|.seq fun _ bR=>.seq fun _ bS=>.region<|.q Z (aq qx j9 Z Z b6 Z)<|.l Z (fun _ _ br _=>au Z (NX k acc L av nv rows A10 aD (hav.le a5) (hnv.le a5) hrl (fun i hi=>(hF i hi).le a5)) ?_);rintro d0 A20 ⟨rfl,a6,cv⟩;have ap:=a6.get _ _ b6;have aC:=a6.get _ _ a8.get;have h:=a5.trans a6;refine br _ _<|.q Z (((fh (a:=0) (b:=0) Z Z).trans (congrArg (fun z=>some (Value.bool z,[])) (decide_eq_false (fun q=>q Z)))))<|.nil<|bS _ _<|.cond_false Z<|.skip<|bR _ _<|.seq fun _ bT=>.region<|.q Z (aq qx j9 Z Z ap Z) ?_;refine Ops.l Z (fun _ _ bu _=>au Z (RC k acc L av nv rows A20 aD (hav.le h) (hnv.le h) hrl (fun i hi=>(hF i hi).le h)) ?_);rintro d1 A29 ⟨a4,az,aG,aB,aA,aI,rfl,a7,ay,ab,aa,a9,ac,V,aT,aV,aY,aZ,b0,b1⟩;have bU:=a7.get _ _ ap;have ar:=a7.get _ _ aC;have a1:=h.trans a7;have xr:=ab;have xn:=aa;have xa:=a9;have xv:=ac;have xf:=V;have w1:=aT;have w2:=aV;have w3:=aY;have w4:=aZ;have w5:=b0;have w6:=b1;have aP:b4 ≠ a4:=fun z=>by have q0:=ap;rw [z,aa] at q0;cases q0
 have aR:b9 ≠ a4:=fun z=>by have q0:=aC;rw [z,aa] at q0;cases q0
 have cK:=V.ne ap;have bM:=V.ne aC;refine bu _ _<|.l Z (fun _ _ bv _=>au Z (Oh a4 _ _ k az aG aB aA (wv k acc L) ((gW k L).2) aI A29 hmk O ab (a9.base h).slc (ac.base h).slc (V.base h).len (fun i hi=>((V.base h).fr i hi).slc)) ?_);rintro d2 A42 ⟨bP,c7,ck,rfl,X,b2,a2,a3,a0,ad,ag,ai⟩;have bV:=X.get _ _ ar;have cC:=(a9.base h).le X;have cH:=(ac.base h).le X;have bd:=(V.base h).le X;have bB:=a1.trans X;have xa:=a2;have xv:=a3;have xf:=a0;have cV:=ad;have cX:=ag;have cZ:=ai;have cP:=a0.ne bU;have bD:=a2.ne ay ar;have bL:=a3.ne ay ar;have bO:=a0.ne ar;have cS:=a0.ne ab;refine bv _ _<|.q Z (bh Z Z)<|.q Z (bh Z Z) ?_;obtain ⟨bb,b7,b3,cc,_⟩:=(a2.base a1).own.slice;subst cc;obtain ⟨bc,b8,b5,ch,_⟩:=(a3.base a1).own.slice;subst ch;refine Ops.l Z (fun _ _ bA _=>aQ (cs:=[num ((k:Nat):Int),num ((0:Nat):Int),.slice bb b7 b3,.slice bc b8 b5]) (c':=[num ((k:Nat):Int),num ((0:Nat):Int),.slice bb b7 b3,.slice bc b8 b5]) b2 rfl rfl rfl rfl j9 bV (Nat.le_of_ble_eq_true rfl) rfl rfl fun A63 D=>?_);have bm:=(a2.base a1).keep D.keep bD;have bp:=(a3.base a1).keep D.keep bL;have cA:=bd.keep D.keep bM;have bl:=(a0.base a1).keep D.keep bO;have bC:=an bB wf aS D.n D.keep;refine bA _ _<|.q Z (ae Z)<|.nil<|bT _ _<|.ret ?_;repeat first | with_reducible refine bz ?_ | with_reducible refine bi ?_
 exact aJ (df qx j9 Z D.get Z (dF Z d7)) (⟨_,_,_,Z,bC,D.wf,bm,bp,bl,ad,ag,ai⟩)
end Go.Proofs.YtjppkekmddjcfaaGreatDoor

namespace Go.Proofs.YtjppkekmddjcfaaGreatDoor
open Go Go.RowKit V
def yk (g:Int) (rs:List bf):List Wd:=(bx g rs).map (·.1)
def Im (g:Int) (l:List Wd) (rs:List bf):Nat:=if cj g l rs then 2 * g.toNat else 0
def sJ (g:Int) (l:List Wd) (rs:List bf):Nat:=if cj g l rs then 0 else 100
def C0 (g:Int) (l:List Wd) (rs:List bf):List Bool × List (List Int):=if cj g l rs then Py (2 * g.toNat) (Pn (2 * g.toNat) (yk g rs)) (Po (2 * g.toNat) (yk g rs)) else ([],[])
section
variable {g:Int} {l:List Wd} {rs:List bf} {gn i k:Nat} {w:Wd}
theorem yp (h:(!cj g l rs)=true):Im g l rs=0/\sJ g l rs=100/\C0 g l rs=([],[]):=by
  have h:cj g l rs=false:=by simpa using h
  simp [Im,sJ,C0,h]
theorem ur (h:cj (gn:Int) l rs=true):Im gn l rs=2 * gn/\sJ gn l rs=0/\C0 gn l rs=Py (2 * gn) (Pn (2 * gn) (yk gn rs)) (Po (2 * gn) (yk gn rs)):=by
  simp [Im,sJ,C0,h]
theorem wu (h:bG g w=0):∀ c ∈ w,0<=ix c/\ix c < 2 * g:=fun c hc=>by
  unfold bG at h
  split at h
  · cases h
  · split at h
    · cases h
    · split at h
      · rename_i q
        have:=List.all_eq_true.1 q c hc
        simpa [iU] using this
      · cases h
theorem Mq:∀ x,x < 16->ix (cI.getD x 0)=x:=by decide
theorem Qj:∀ x,x < 16->x ^^^ 1 < 16/\(x ^^^ 1) / 2=x / 2:=by decide
theorem w8 (hs:cj (gn:Int) l rs=true):∀ s ∈ bx (gn:Int) rs,∀ c ∈ s.1,0<=ix c/\ix c < ((2 * gn:Nat):Int):=fun s hm c hc=>by
  have hg:=CF hs
  rcases List.mem_append.1 hm with z | z
  · obtain ⟨r,hr,rfl⟩:=List.mem_map.1 z
    have:=wu (so (gB ((fB hs).2.2.1 r hr)).1) c hc
    omega
  · obtain ⟨x,hx,rfl⟩:=List.mem_map.1 z
    have hx:=List.mem_range.1 hx
    rw [Int.toNat_natCast] at hx
    have h1:=Qj x O
    simp only [Vi,List.mem_cons,List.not_mem_nil,or_false] at hc
    rcases hc with rfl | rfl
    · rw [Mq x O];omega
    · rw [Mq _ h1.1];omega
theorem Ii:(yk g rs).length=(bx g rs).length:=by simp [yk]
theorem O9 (hi:i < (bx g rs).length):(yk g rs).getD i []=((bx g rs).getD i ([],[])).1:=by
  simp [yk,List.getD_eq_getElem?_getD,hi]
theorem TN (hs:cj g l rs=true):∀ w ∈ yk g rs,w ≠ []:=fun w hw e=>by
  obtain ⟨s,h1,rfl⟩:=List.mem_map.1 hw
  have:=(tx (CF hs) (OE hs) s h1).1
  rw [e] at this;simp at this
theorem TI.next2 {L:List (List Int)} {E:List Bool} (h:TI k (yk g rs) i L E) (hi:i < (bx g rs).length) (hw:∀ c ∈ ((bx g rs).getD i ([],[])).1,0<=ix c/\ix c < k):TI k (yk g rs) (i + 1) (wN k L E ((bx g rs).getD i ([],[])).1) (wK k L E ((bx g rs).getD i ([],[])).1):=by
  have:=h.next (by rw [Ii];exact hi) (by rw [O9 hi];exact hw)
  rwa [O9 hi] at this
end
section
variable {k:Nat} {L:List (List Int)} {E:List Bool} {W S:List (List Nat)}
theorem PT {s x:Nat} (hs:s < L.length) (hx:x < (L.getD s []).length):ie (L.map (eI E)) s x=if E.getD (ie L s x).toNat false then -1 else ie L s x:=by
  unfold ie
  have e:(L.map (eI E)).getD s []=eI E (L.getD s []):=by simp [List.getD_eq_getElem?_getD,hs]
  rw [e,eI]
  have:((L.getD s []).map fun m=>if E.getD m.toNat false=true then -1 else m).getD x 0=(fun m:Int=>if E.getD m.toNat false=true then -1 else m) ((L.getD s []).getD x 0):=by
    simp only [List.getD_eq_getElem?_getD,List.getElem?_map]
    have:x < (L[s]?.getD []).length:=by simpa [List.getD_eq_getElem?_getD] using hx
    simp [this]
  rw [this]
theorem Sg (h:TV k L E W S) (hk:1<=k/\k<=400) (hn:W.length<=19000):Kx k (E.map fun e=>!e) (L.map (eI E)):=by
  have h1:=h.len
  have h2:=h.pos
  refine ⟨hk,by simp;omega,by simp;omega,fun s hs=>?_,fun s x hs hx=>?_⟩
  · rw [List.length_map] at hs
    rw [show (L.map (eI E)).getD s []=eI E (L.getD s []) by simp [List.getD_eq_getElem?_getD,hs],nF]
    exact h.row s O
  · rw [List.length_map] at hs ⊢
    have hr:=h.row s O
    rw [PT hs O]
    have:=h.to s x O hx
    split
    · omega
    · omega
theorem TV.at (h:TV k L E W S) {s x:Nat} (hs:s < W.length) (hx:x < k):0<=(L.getD s []).getD x 0/\((L.getD s []).getD x 0).toNat < W.length:=by
  have:=h.to s x hs hx
  simp only [ie] at this
  omega
end
theorem Jk {E:List Bool} {s:Nat} (h:s < E.length):(E.take s).map (fun e=>!e) ++ [!E.getD s false]=(E.take (s + 1)).map fun e=>!e:=rU (z:=false) (fun e=>!e) h
end Go.Proofs.YtjppkekmddjcfaaGreatDoor

namespace Go.Proofs.YtjppkekmddjcfaaGreatDoor
open Go Go.RowKit V
set_option maxRecDepth 100000
set_option maxHeartbeats 4000000
theorem Uc:dx Tryz.prog 123=some true:=by kernel_rfl
theorem Uo:dh Tryz.prog 119=some [(0,1),(1,1)]:=by kernel_rfl
theorem Vu:type_of% @Tryz.underlying119:=@Tryz.underlying119
theorem VB:cD Tryz.prog 119=some (.agg #[.slice none 0 0,.slice none 0 0]):=by kernel_rfl

theorem UJ (g:Int) (u:Value) (l:List (List UInt8)) (rv:Value) (rs:List bf) (A:AH) (hn:l.length<=9223372036854775807) (hm:rs.length<=9223372036854775807) (hln:cj g l rs=true->qF (yk g rs)<=18000) (hL:gJ A) (hu:bK A 1 u (d5 l)) (hr:bK A 3 rv (c9 rs)) (hp:Proofs A rs):bH Tryz.prog 33 #[.agg #[num (g),u,rv]] A (fun v A1=>∃ av2 nv2 rows2,v=.tuple #[.agg #[num ((Im g l rs:Nat):Int),num ((0:Nat):Int),av2,nv2],num ((sJ g l rs:Nat):Int)]/\A.le A1/\A1.wf/\Fresh A A1 av2 1 (cl (C0 g l rs).1)/\Fresh A A1 nv2 1 (em rows2)/\ib A A1 rows2 (C0 g l rs).2/\bq av2 nv2/\aL av2 rows2/\aL nv2 rows2):=by
 refine ia Tryz.call33 Tryz.func33 Z Tryz.results33 Tryz.ntmps33 Z (fun wf=>?_);have Fl:=AH.le.refl A;refine am.seq fun _ h2=>.region<|.l Z (fun _ _ x1 _=>dQ wf rfl rfl fun A5 b4 oK=>?_);have x3:=Fl.trans oK.le;refine x1 _ _<|.l Z (fun _ _ Fi _=>cg oK.wf Kj rfl fun A10 b9 hM=>?_);have lY:=aU wf (Nat.le_trans x3.n hM.lo);have wZ:=hM.le.get _ _ oK.get;have gs:=x3.trans hM.le;refine Fi _ _<|.q Z (ae Z)<|.nil<|h2 _ _<|.seq fun _ EQ=>.seq fun _ ES=>.region<|.q Z (aq eR ew Z Z wZ Z)<|.l Z (fun _ _ C3 _=>au Z (j8 ((g)) u l rv rs A10 hn hm (hL.le gs) (hu.le gs) (hr.le gs) (hp.le gs)) ?_);rintro Me A20 ⟨rfl,hJ,gf⟩;have nB:=hJ.get _ _ wZ;have nC:=hJ.get _ _ hM.get;have k3:=gs.trans hJ;refine C3 _ _<|.q Z (eu Z)<|.nil<|ES _ _<|.ifB Z (fun Fm=>?_) (fun Fm=>?_)
 ·refine am.seq fun _ ET=>.region<|.q Z (cU Z (bn UY Kj ML Z))<|.l Z (fun _ _ C4 _=>aQ (cs:=[num ((0:Nat):Int),num ((0:Nat):Int),.slice none 0 0,.slice none 0 0]) (c':=[num ((0:Nat):Int),num ((0:Nat):Int),.slice none 0 0,.slice none 0 0]) gf rfl rfl rfl rfl j9 nC (Nat.le_of_ble_eq_true rfl) rfl rfl fun A29 hS=>?_);have Ds:=an k3 wf lY hS.n hS.keep;refine C4 _ _<|.q Z (ae Z)<|.nil<|ET _ _<|.ret ?_;repeat first | with_reducible refine bz ?_ | with_reducible refine bi ?_
  exact aJ (df qx j9 Z hS.get Z (dF Z d7)) (⟨_,_,[],by rw [(yp ‹_›).1,(yp ‹_›).2.1];rfl,Ds,hS.wf,cw (Fresh.nil _ _ _) (congrArg cl (show []=_ by rw [(yp ‹_›).2.2])),Fresh.nil _ _ _,mG ib.nil (by rw [(yp ‹_›).2.2]),bq.nil,aL.nil,aL.nil⟩)
 refine am.skip<|EQ _ _<|.seq fun _ EV=>?_;have hs:cj g l rs=true:=by simpa using ‹(!cj g l rs)=false›
 obtain ⟨gn,rfl⟩:∃ n:Nat,g=(n:Int):=⟨g.toNat,by have:=CF hs;omega⟩;have hg:=CF hs;have hbs:=hln hs;have hse:=OE hs;have hsn:=su hs;have hsl:=wn (gn:Int) rs;rw [Int.toNat_natCast] at hsl;refine am.region<|.q Z (aj fY gz U Z)<|.q Z (aj fW c5 U Z)<|.q Z (ak eM Z Z nB Z)<|.q Z (px (a:=2) Z Z O)<|.q Z (ae Z)<|.nil<|EV _ _<|.seq fun _ EX=>.region ?_;refine Ops.q Z (cU Z (bn Vu VB Uo Z))<|.l Z (fun _ _ C7 _=>dQ gf rfl rfl fun A39 a0 e7=>?_);have hZ:=ne_new gf nB e7.lo;have g1:=ne_new gf nC e7.lo;have hX:=aU wf (Nat.le_trans k3.n e7.lo);have EY:=e7.le.get _ _ nB;have EZ:=e7.le.get _ _ nC;have Dv:=k3.trans e7.le;refine C7 _ _<|.q Z (ae Z)<|.nil<|EX _ _<|.seq fun _ F0=>?_;have nd:Fresh A A39 (.slice none 0 0) 1 (em []):=Fresh.nil _ _ _;have nj:Fresh A A39 (.slice none 0 0) 1 (cl []):=Fresh.nil _ _ _;have nb:ib A A39 [] []:=ib.nil;refine am.region<|.q Z (ah Z)<|.q Z (ah Z) ?_;have hH:=ci (bs:=([some a0,blk (.slice none 0 0),blk (.slice none 0 0)] ++ ([]).map blk)) Dv (DB (uk hX (sA nd.lo (sA nj.lo oT))) nb);refine Ops.l Z (fun _ _ Cc _=>au Z (Oc (2 * gn) a0 (.slice none 0 0) (.slice none 0 0) ([]) ([]) ([]) (A39.hide ([some a0,blk (.slice none 0 0),blk (.slice none 0 0)] ++ ([]).map blk)) A39 (cE A39 ([some a0,blk (.slice none 0 0),blk (.slice none 0 0)] ++ ([]).map blk)) (cm e7.wf) e7.get (cr (by simp)) (nd.hide (by simp)) (nj.hide (by simp)) (fun q=>by cases q) (fun q=>by cases q) bq.nil nb.hideAll lL aL.empty aL.empty ⟨by omega,by simp,by simp⟩) ?_);rintro Mk A51 ⟨vC,pf,n3,rfl,hK,mT,g0,ha,hb,h6,h7,i2,g8,hW,mV,mX⟩;have ov:=bQ (bs:=([some a0,blk (.slice none 0 0),blk (.slice none 0 0)] ++ ([]).map blk)) EY (yX (qz hZ (nY (fun q=>by cases q) (nY (fun q=>by cases q) mI))) lL);have F2:=hK.get _ _ ov;have hC:=bQ (bs:=([some a0,blk (.slice none 0 0),blk (.slice none 0 0)] ++ ([]).map blk)) EZ (yX (qz g1 (nY (fun q=>by cases q) (nY (fun q=>by cases q) mI))) lL);have x0:=hK.get _ _ hC;have nk:=ha.base hH;have Dz:=ha.seph hC;have nl:=hb.base hH;have DD:=hb.seph hC;have nc:=g8.base hH;have IX:=g8.ne ov;have DV:=g8.ne hC;have fM:=hH.trans hK;have ox:=g8.len;rw [List.length_append,List.length_singleton] at ox;refine Cc _ _<|.nil<|F0 _ _<|.seq fun _ F3=>.seq fun _ F4=>.region<|.q Z (aq eR ew Z Z F2 Z)<|.l Z (fun _ _ Ch _=>au Z (GV (((gn:Nat):Int)) u l rv rs A51 hg O (hL.le fM) (hu.le fM) (hr.le fM) (hp.le fM)) ?_);rintro gS A74 ⟨eA,H8,ex⟩;have F6:=eA.get _ _ x0;have F7:=eA.get _ _ g0;have y0:=nk.le eA;have y1:=nl.le eA;have xV:=nc.le eA;have Dw:=fM.trans eA;have nn:=ex.base fM;have Ex:=ex.sep0 nk.own;have Ey:=ex.sep0 nl.own;have Ez:=aL.fresh nc ex;have DI:=ex.ne mT x0;have DJ:=ex.ne mT g0;refine Ch _ _<|.q Z (bF (n:=(bx (((gn:Nat):Int)) rs).length) qE Z nn.slc O (rq _))<|.q Z (ah Z)<|.nil<|F4 _ _<|.block<|.loop (X:=Nat × List Bool × Value × Value × List Value × List (List Int)) (fun ⟨i,E1,D,qy,rw,L1⟩=>[(2,.pointer (some ⟨b9,0,none⟩)),(4,num ((2 * gn:Nat):Int)),(5,.pointer (some ⟨a0,0,none⟩)),(34,gS),(35,num (((bx (((gn:Nat):Int)) rs).length:Nat):Int)),(36,num ((i:Nat):Int))]) (fun ⟨i,E1,D,qy,rw,L1⟩ B=>(i<=(bx gn rs).length/\TI (2 * gn) (yk gn rs) i L1 E1)/\A.le B/\Fresh A B D 1 (em rw)/\Fresh A B qy 1 (cl E1)/\Fresh A B gS 2 (gw (bx (((gn:Nat):Int)) rs))/\B.get b9=some (.row true [num ((0:Nat):Int),num ((0:Nat):Int),.slice none 0 0,.slice none 0 0] 4)/\B.get a0=some (.row true [D,qy] 2)/\V.blk D ≠ some b9/\V.blk qy ≠ some b9/\V.blk gS ≠ some b9/\V.blk D ≠ some a0/\V.blk qy ≠ some a0/\V.blk gS ≠ some a0/\bq D qy/\bq D gS/\bq qy gS/\ib A B rw L1/\dG rw b9/\dG rw a0/\aL D rw/\aL qy rw/\aL gS rw) (fun ⟨i,E1,D,qy,rw,L1⟩=>(bx gn rs).length - i) (⟨0,[] ++ [false],vC,pf,n3,([]) ++ [CX (2 * gn)]⟩) (zE Z Z Z Z Z Z) (⟨⟨Nat.zero_le _,TI.start⟩,Dw,y0,y1,nn,F6,F7,Dz,DD,DI,h6,h7,DJ,i2,(bq.symm Ex),(bq.symm Ey),xV,DV,hW,mV,mX,Ez⟩) ?_;rintro ⟨i,E1,D,qy,rw,L1⟩ B91 ⟨⟨hi,hti⟩,hI,cK,dI,cV,ez,cP,eX,eV,gM,ec,e9,aG,gQ,dS,dV,ey,fm,eG,fn,fo,cv⟩;refine am.wf fun bM=>?_;have hrw:rw.length=L1.length:=by first | exact ib.len ‹_›
 have hlb:=hti.bound;have hlE:=hti.len;have ow:=hti.ok;have hwl:=fun q:i < (bx gn rs).length=>tx hg hse _ (bw (d:=(([],[]):Wd × Wd)) q);have hwc:=fun q:i < (bx gn rs).length=>w8 hs _ (bw (d:=(([],[]):Wd × Wd)) q);refine am.seq fun _ F9=>.region<|.q Z (cd Z Z)<|.nil<|F9 _ _<|.seq fun _ Fd=>.if rfl (fun Fn=>?_) (fun Fn=>?_)
 ·refine am.skip<|Fd _ _<|.seq fun _ Fe=>.block<|.seq fun _ A6=>.region ?_;obtain ⟨H9,Hx,GG,J1,G7,Id,HO,x5,CH,y2,oS,FT⟩:=bK.at (i:=i) cV.slc ON O;refine Ops.q Z (ax qE ng Z x5 Z CH)<|.q Z (aq Uc ng Z Z y2 (oS.trans (congrArg some (J6 O))))<|.l Z (fun _ _ ss _=>cg bM Fg rfl fun A105 Ha ar=>?_);have hO:=ne_new bM ez ar.lo;have eT:=ne_new bM cP ar.lo;have me:=cK.own.ne_new bM ar.lo;have mm:=dI.own.ne_new bM ar.lo;have v2:=cV.own.ne_new bM ar.lo;have mx:=ey.ne_new bM ar.lo;have n1:=aU wf (Nat.le_trans hI.n ar.lo);have A7:=ar.le.get _ _ ez;have A8:=ar.le.get _ _ cP;have q0:=cK.le ar.le;have q1:=dI.le ar.le;have q2:=cV.le ar.le;have pi:=ey.le ar.le;have ti:=hI.trans ar.le;refine ss _ _<|.l Z (fun _ _ sv _=>aQ (cs:=[aX (((bx (((gn:Nat):Int)) rs).getD i ([],[])).1),aX (((bx (((gn:Nat):Int)) rs).getD i ([],[])).2)]) (c':=[aX (((bx (((gn:Nat):Int)) rs).getD i ([],[])).1),aX (((bx (((gn:Nat):Int)) rs).getD i ([],[])).2)]) ar.wf rfl rfl rfl rfl ng ar.get (Nat.le_of_ble_eq_true rfl) rfl rfl fun A119 bB=>?_);have A9:=bB.keep _ _ hO A7;have Aa:=bB.keep _ _ eT A8;have kC:=q0.keep bB.keep me;have kD:=q1.keep bB.keep mm;have g9:=q2.keep bB.keep v2;have k7:=pi.keep bB.keep mx;have tj:=an ti wf n1 bB.n bB.keep;refine sv _ _<|.nil<|A6 _ _<|.region<|.q Z (ah Z)<|.q Z (ah Z)<|.q Z (i4 (i:=0) zy fc Z Z O)<|.q Z (ak fP Z Z bB.get Z) ?_;have fq:=ci (bs:=([some a0,blk D,blk qy] ++ rw.map blk)) tj (DB (uk hX (sA kC.lo (sA kD.lo oT))) k7);refine Ops.l Z (fun _ _ sz _=>au Z (UK (2 * gn) (((bx (((gn:Nat):Int)) rs).getD i ([],[])).1) a0 D qy rw L1 E1 (A119.hide ([some a0,blk D,blk qy] ++ rw.map blk)) A119 (cE A119 ([some a0,blk D,blk qy] ++ rw.map blk)) (cm bB.wf) Aa (cr (by simp)) (kC.hide (by simp)) (kD.hide (by simp)) ec e9 gQ k7.hideAll eG fn fo (hL.le fq) ⟨by omega,by omega,by have:=(hwl O).2.1;omega⟩ ow.1 ow.2 (hwc O)) ?_);rintro Ko A130 ⟨oN,n9,k6,rfl,gA,Fo,hD,f2,f3,gD,gE,hT,fi,hw,j2,j3⟩;have ge:=bQ (bs:=([some a0,blk D,blk qy] ++ rw.map blk)) A9 (yX (qz g1 (nY eX (nY eV mI))) fm);have Ab:=gA.get _ _ ge;have sr:=bQ (bs:=([some a0,blk D,blk qy] ++ rw.map blk)) bB.get (yX (qz eT.symm (nY me (nY mm mI))) mx);have w1:=fi.sepOff g9.own (mj (kr aG (jD dS (jD dV kq))) cv);have w2:=f2.sep g9.own (mj (kr aG (jD dS (jD dV kq))) cv);have w3:=f3.sep g9.own (mj (kr aG (jD dS (jD dV kq))) cv);have q3:=g9.off (mj (kr aG (jD dS (jD dV kq))) cv) gA;have q4:=f2.base fq;have v3:=f2.seph ge;have q5:=f3.base fq;have v4:=f3.seph ge;have pj:=fi.base fq;have vS:=fi.ne ge;have G0:=fi.ne sr;have tr:=fq.trans gA;refine sz _ _<|.nil<|Fe _ _<|.region<|.q Z (bE (b:=1) Z Z O)<|.q Z (ah Z)<|.nil ?_;exact ⟨⟨i + 1,wK (2 * gn) L1 E1 (((bx (((gn:Nat):Int)) rs).getD i ([],[])).1),oN,n9,k6,wN (2 * gn) L1 E1 (((bx (((gn:Nat):Int)) rs).getD i ([],[])).1)⟩,zE Z Z Z Z Z Z,Z,⟨⟨by omega,hti.next2 O (hwc O)⟩,tr,q4,q5,q3,Ab,hD,v3,v4,gM,gD,gE,aG,hT,w2,w3,pj,vS,hw,j2,j3,w1⟩,O1⟩
 refine am.exit<|F3 _ _<|.seq fun _ Ac=>?_;have Ck:rw.length=L1.length:=hrw;obtain ⟨W,oj⟩:=BO.start (k:=2 * gn) (show TI (2 * gn) (yk gn rs) (yk gn rs).length L1 E1 by rw [Ii,<- show i=(bx gn rs).length by omega];exact hti) (TN hs);obtain ⟨L2,L3,L4,L6,L7⟩:=oj.lens;refine am.region<|.q Z (ah Z)<|.q Z (cQ Z)<|.q Z (aj i9 i8 U Z)<|.q Z (ak kh Z Z cP Z)<|.q Z (bF (n:=rw.length) oe Z cK.slc O (i6 _))<|.l Z (fun _ _ sB _=>mL (n:=rw.length) (k:=rw.length) bM hI rfl rfl ep c5 z3 mZ rfl (Nat.le_refl _) (by show 8 * _<=_;omega) O fun A155 x4 a2 hz=>?_);rw [iu] at hz;have hP:=ne_new bM ez a2.lo;have h4:=ne_new bM cP a2.lo;have vX:=ey.ne_new bM a2.lo;have nq:=a2.le.get _ _ ez;have nv:=a2.le.get _ _ cP;have kK:=cK.le a2.le;have kL:=dI.le a2.le;have k9:=ey.le a2.le;have m1:=hI.trans a2.le;have w4:=bq.of_new (n:=rw.length) (c:=rw.length) cK.own bM a2.lo;have w5:=bq.of_new (n:=rw.length) (c:=rw.length) dI.own bM a2.lo;have H7:=bq.of_new (n:=rw.length) (c:=rw.length) cV.own bM a2.lo;refine sB _ _<|.q Z (ae Z)<|.nil<|Ac _ _<|.seq fun _ Ad=>.region<|.l Z (fun _ _ sF _=>aN (c:=[num ((0:Nat):Int)]) a2.wf rfl (aw ep c5 z3 rfl U U rfl) fun A176 n4 aD=>?_);have hQ:=ne_new a2.wf nq aD.lo;have h5:=ne_new a2.wf nv aD.lo;have v5:=kK.own.ne_new a2.wf aD.lo;have v6:=kL.own.ne_new a2.wf aD.lo;have v7:=hz.own.ne_new a2.wf aD.lo;have vZ:=k9.ne_new a2.wf aD.lo;have n2:=aU wf (Nat.le_trans m1.n aD.lo);have Af:=aD.le.get _ _ nq;have Ag:=aD.le.get _ _ nv;have q6:=kK.le aD.le;have q7:=kL.le aD.le;have q8:=hz.le aD.le;have pl:=k9.le aD.le;have ts:=m1.trans aD.le;refine sF _ _<|.q Z (ae Z)<|.nil<|Ad _ _<|.seq fun _ Ai=>.seq fun _ Ap=>.region<|.q Z (ae Z)<|.nil<|Ap _ _ ?_;refine am.block ?_;have q9:Fresh A A176 (.slice (some ⟨n4,0,none⟩) 1 1) 1 (cO [((0:Nat):Int)]):=Fresh.lit aD.get n2 Z (Nat.le_of_ble_eq_true Z);refine am.loop (X:=Nat × List Int × List Int × List Bool × Value × Value × Value × List (List Int)) (fun ⟨j,fl,qu,en,fv,qv,jV,Lt⟩=>[(2,.pointer (some ⟨b9,0,none⟩)),(4,num ((2 * gn:Nat):Int)),(5,.pointer (some ⟨a0,0,none⟩)),(8,fv),(9,qv),(10,num ((j:Nat):Int))]) (fun ⟨j,fl,qu,en,fv,qv,jV,Lt⟩ B=>(BO (2 * gn) L1 W ((yk gn rs).map EE) (C5 (2 * gn) (yk gn rs)) j Lt en fl qu)/\A.le B/\Fresh A B fv 1 (cO fl)/\Fresh A B qv 1 (cO qu)/\Fresh A B jV 1 (cl en)/\Fresh A B D 1 (em rw)/\B.get b9=some (.row true [num ((0:Nat):Int),num ((0:Nat):Int),.slice none 0 0,.slice none 0 0] 4)/\B.get a0=some (.row true [D,jV] 2)/\V.blk fv ≠ some b9/\V.blk qv ≠ some b9/\V.blk jV ≠ some b9/\V.blk D ≠ some b9/\V.blk fv ≠ some a0/\V.blk qv ≠ some a0/\V.blk jV ≠ some a0/\V.blk D ≠ some a0/\bq fv qv/\bq fv jV/\bq fv D/\bq qv jV/\bq qv D/\bq jV D/\ib A B rw Lt/\dG rw b9/\dG rw a0/\aL fv rw/\aL qv rw/\aL jV rw/\aL D rw) (fun ⟨j,fl,qu,en,fv,qv,jV,Lt⟩=>W.length + 1 - j) (⟨0,List.replicate rw.length 0,[0],E1,.slice (some ⟨x4,0,none⟩) rw.length rw.length,.slice (some ⟨n4,0,none⟩) 1 1,qy,L1⟩) (zE Z Z Z Z Z Z) (⟨(by rw [Ck];exact oj),ts,q8,q9,q7,q6,Af,Ag,(fun q=>by cases q;exact hP rfl),(fun q=>by cases q;exact hQ rfl),eV,eX,(fun q=>by cases q;exact h4 rfl),(fun q=>by cases q;exact h5 rfl),e9,ec,(bq.symm (fun c hc hq=>by cases hc;exact v7 hq)),w5,w4,(fun c hc hq=>by cases hc;exact v6 hq),(fun c hc hq=>by cases hc;exact v5 hq),(bq.symm gQ),pl,fm,eG,(aL.new vX),(aL.new vZ),fo,fn⟩) ?_;rintro ⟨j,fl,qu,en,fv,qv,jV,Lt⟩ B198 ⟨hbo,hF,j1,f4,e1,ck,f6,cZ,h8,h9,ea,dZ,gG,gN,dW,dm,ih,ir,it,iv,iD,g2,dJ,eL,e5,gX,gZ,eQ,eS⟩;refine am.wf fun eC=>?_;obtain ⟨Lp,Lv,x1,Lw,LB⟩:=hbo.lens;have hat:=fun q:j < qu.length=>hbo.at q;refine am.seq fun _ Ar=>.seq fun _ As=>.region<|.q Z (ah Z)<|.q Z (ah Z)<|.q Z (bF (n:=qu.length) ep Z f4.slc O (eD _))<|.q Z (cd Z Z)<|.nil<|As _ _<|.if rfl (fun DW=>?_) (fun DW=>?_)
 ·refine am.skip<|Ar _ _<|.seq fun _ At=>.block<|.seq fun _ Av=>.region<|.q Z (ah Z)<|.q Z (ah Z) ?_;obtain ⟨Hb,Hy,GL,J2,G8,If,HP,x6,CK,y3,Fq,oV⟩:=bK.at (i:=j) f4.slc Of O;refine Ops.q Z (ax ep c5 Z x6 Z CK)<|.q Z (ak eM Z Z y3 ((cT oV).trans (c8 O)))<|.q Z (ae Z)<|.nil<|Av _ _<|.seq fun _ Ay=>?_;obtain ⟨KP,KT,KV⟩:=hat O;refine am.region<|.q Z (ah Z)<|.q Z (cQ Z)<|.q Z (aj i9 i8 U Z)<|.q Z (ak kh Z Z cZ Z)<|.q Z (ah Z) ?_;obtain ⟨Hc,Hz,GM,J3,G9,Ih,HQ,x7,CL,y4,Fs,oW⟩:=bK.at (i:=(qu.getD j 0).toNat) ck.slc Ok O;refine Ops.q Z (ax oe fF Z x7 (iQ O) CL)<|.q Z (ak l8 Z Z y4 ((cT oW).trans (eO O)))<|.q Z (bF (n:=((Lt.getD ((qu.getD j 0).toNat) [])).length) ep Z (dJ.fr ((qu.getD j 0).toNat) O).slc O (eD _))<|.q Z (ah Z)<|.nil<|Ay _ _<|.block<|.loop (X:=Nat × List Int × List Int × List Bool × Value × Value × Value × List (List Int)) (fun ⟨x,aZ,bd,ia,bO,aV,jQ,Lt1⟩=>[(2,.pointer (some ⟨b9,0,none⟩)),(4,num ((2 * gn:Nat):Int)),(5,.pointer (some ⟨a0,0,none⟩)),(8,bO),(9,aV),(10,num ((j:Nat):Int)),(11,num (qu.getD j 0)),(69,rw.getD ((qu.getD j 0).toNat) undef),(70,num ((((Lt.getD ((qu.getD j 0).toNat) [])).length:Nat):Int)),(71,num ((x:Nat):Int))]) (fun ⟨x,aZ,bd,ia,bO,aV,jQ,Lt1⟩ B=>(x<=2 * gn/\BN (2 * gn) L1 W ((yk gn rs).map EE) (C5 (2 * gn) (yk gn rs)) j Lt en fl qu x Lt1 ia aZ bd)/\A.le B/\Fresh A B bO 1 (cO aZ)/\Fresh A B aV 1 (cO bd)/\Fresh A B jQ 1 (cl ia)/\Fresh A B D 1 (em rw)/\B.get b9=some (.row true [num ((0:Nat):Int),num ((0:Nat):Int),.slice none 0 0,.slice none 0 0] 4)/\B.get a0=some (.row true [D,jQ] 2)/\V.blk bO ≠ some b9/\V.blk aV ≠ some b9/\V.blk jQ ≠ some b9/\V.blk D ≠ some b9/\V.blk bO ≠ some a0/\V.blk aV ≠ some a0/\V.blk jQ ≠ some a0/\V.blk D ≠ some a0/\bq bO aV/\bq bO jQ/\bq bO D/\bq aV jQ/\bq aV D/\bq jQ D/\ib A B rw Lt1/\dG rw b9/\dG rw a0/\aL bO rw/\aL aV rw/\aL jQ rw/\aL D rw) (fun ⟨x,aZ,bd,ia,bO,aV,jQ,Lt1⟩=>2 * gn - x) (⟨0,fl,qu,en,fv,qv,jV,Lt⟩) (Am Z Z Z Z Z Z Z Z Z Z) (⟨⟨Nat.zero_le _,BN.start hbo O⟩,hF,j1,f4,e1,ck,f6,cZ,h8,h9,ea,dZ,gG,gN,dW,dm,ih,ir,it,iv,iD,g2,dJ,eL,e5,gX,gZ,eQ,eS⟩) ?_;rintro ⟨x,aZ,bd,ia,bO,aV,jQ,Lt1⟩ B214 ⟨⟨hx,hbn⟩,m2,e2,fV,fT,dw,gp,e6,b1,aA,az,bm,aF,a8,a7,b6,b2,b3,c4,aC,bu,bv,dK,b8,b0,aI,ai,ap,bc⟩;refine am.wf fun mK=>?_;obtain ⟨LE,LF,LK,LO,LP⟩:=hbn.lens;obtain ⟨x2,LV,LW⟩:=hbn.facts;refine am.seq fun _ Az=>.region<|.q Z (cd Z Z)<|.nil<|Az _ _<|.seq fun _ AA=>.if rfl (fun DZ=>?_) (fun DZ=>?_)
  ·refine am.skip<|AA _ _<|.seq fun _ j4=>.block<|.seq fun _ AB=>.region<|.q Z (ah Z) ?_;obtain ⟨Hd,HA,GN,J4,Gc,In,HR,x8,CS,y5,Ft,oX⟩:=bK.at (i:=x) (dK.fr ((qu.getD j 0).toNat) O).slc Of O;refine Ops.q Z (ax ep c5 Z x8 Z CS)<|.q Z (ak eM Z Z y5 ((cT oX).trans (c8 O)))<|.q Z (ae Z)<|.q Z (ae Z)<|.nil<|AB _ _<|.seq fun _ AC=>.region<|.q Z (ae Z)<|.nil ?_;refine AC _ _<|.join (fun f A1=>al [(14,num ((wJ Lt1 ia aZ bd (qu.getD j 0).toNat x))),(2,.pointer (some ⟨b9,0,none⟩)),(4,num ((2 * gn:Nat):Int)),(5,.pointer (some ⟨a0,0,none⟩)),(8,bO),(9,aV),(10,num ((j:Nat):Int)),(11,num (qu.getD j 0)),(69,rw.getD ((qu.getD j 0).toNat) undef),(70,num ((((Lt.getD ((qu.getD j 0).toNat) [])).length:Nat):Int)),(71,num ((x:Nat):Int)),(72,.bool (decide (x < ((Lt.getD ((qu.getD j 0).toNat) [])).length))),(73,num ((x:Nat):Int)),(75,num (((Lt1.getD ((qu.getD j 0).toNat) [])).getD x 0)),(12,num ((x:Nat):Int)),(13,num (((Lt1.getD ((qu.getD j 0).toNat) [])).getD x 0))] f.e/\f.ds=[]/\B214.le A1/\A1.wf) ?_ ?_
   ·have lZ:=AH.le.refl B214;refine am.seq fun _ AD=>.region<|.q Z (ah Z)<|.q Z (M5 Z Z)<|.nil<|AD _ _<|.if rfl (fun E2=>?_) (fun E2=>?_)
    ·obtain ⟨Lf,Lk,Lo⟩:=hbn.fail ‹_›;refine am.drawn [0,1,2,3,4,5,6,7,8,9,10,11,12,13] mixed Y Y Z<|.q Z Z Z (ah Z)<|.q Z Z Z (cQ Z)<|.q Z Z Z (aj i9 i8 U Z)<|.q Z Z Z (ak kh Z Z e6 Z)<|.q Z Z Z (ah Z)<|.q Z Z Z (ah Z) ?_;obtain ⟨He,HB,GP,K0,Gd,Io,HS,x9,CV,y6,Fv,oY⟩:=bK.at (i:=(qu.getD j 0).toNat) e2.slc Of O;refine bj.q Z Z Z (ax ep c5 Z x9 (iQ O) CV)<|.q Z Z Z (ak eM Z Z y6 ((cT oY).trans (c8 O))) ?_;obtain ⟨Hf,HC,GQ,K1,Ge,Ir,HT,xn,D0,y7,FD,oZ⟩:=bK.at (i:=(aZ.getD ((qu.getD j 0).toNat) 0).toNat) dw.slc Ok O;refine bj.q Z Z Z (ax oe fF Z xn (iQ O) D0)<|.q Z Z Z (ak l8 Z Z y7 ((cT oZ).trans (eO O)))<|.q Z Z Z (ah Z) ?_;obtain ⟨Hg,HD,GS,K2,Gf,Is,HU,xr,D1,y8,FE,p0⟩:=bK.at (i:=x) (dK.fr ((aZ.getD ((qu.getD j 0).toNat) 0).toNat) O).slc Of O;refine bj.q Z Z Z (ax ep c5 Z xr Z D1)<|.q Z Z Z (ak eM Z Z y8 ((cT p0).trans (c8 O)))<|.q Z Z Z (ae Z)<|.done ?_;exact ⟨al.cons (congrArg some (by first | exact Ib ‹_› x2 | exact OH ‹_›))<|al.cons Z<|al.cons Z<|al.cons Z<|al.cons Z<|al.cons Z<|al.cons Z<|al.cons Z<|al.cons Z<|al.cons Z<|al.cons Z<|al.cons Z<|al.cons Z<|al.cons Z<|al.cons Z<|al.cons Z<|al.nil _,Z,lZ,mK⟩
    refine am.skip ?_;exact ⟨al.cons (congrArg some (by first | exact Ib ‹_› x2 | exact OH ‹_›))<|al.cons Z<|al.cons Z<|al.cons Z<|al.cons Z<|al.cons Z<|al.cons Z<|al.cons Z<|al.cons Z<|al.cons Z<|al.cons Z<|al.cons Z<|al.cons Z<|al.cons Z<|al.cons Z<|al.cons Z<|al.nil _,Z,lZ,mK⟩
   rintro ⟨fe,fd⟩ A237 ⟨hE,rfl,c3,iV⟩;refine am.forget hE ?_;have nD:=c3.get _ _ gp;have jX:=c3.get _ _ e6;have kM:=e2.le c3;have kP:=fV.le c3;have kT:=fT.le c3;have hA:=dw.le c3;have cX:=dK.le c3;have m3:=m2.trans c3;refine am.seq fun _ AF=>.seq fun _ AG=>.region<|.q Z (ah Z)<|.q Z (k8 Z Z)<|.nil<|AG _ _<|.if rfl (fun E3=>?_) (fun E3=>?_)
   ·refine am.seq fun _ AI=>.region<|.q Z (ah Z)<|.q Z (cQ Z)<|.q Z (aj i9 i8 U Z)<|.q Z (ak kh Z Z jX Z)<|.q Z (ah Z) ?_;obtain ⟨Hh,HE,H0,K3,Gg,It,HV,xt,D2,y9,FI,p5⟩:=bK.at (i:=(qu.getD j 0).toNat) hA.slc Ok O;refine Ops.q Z (ax oe fF Z xt (iQ O) D2)<|.q Z (ak l8 Z Z y9 ((cT p5).trans (eO O)))<|.q Z (ah Z)<|.q Z (ah Z) ?_;obtain ⟨hj,Iv,Hs,En,Gl,eY,D3,yt,KC,DK,Kc,Cp⟩:=cX.at (s:=(qu.getD j 0).toNat) (x:=x) O O;refine Ops.q Z (ax ep c5 Z eY Z (by rw [D3];omega))<|.l Z (fun _ _ sM _=>aQ (off:=x) (c':=En.set x (num ((wJ Lt1 ia aZ bd (qu.getD j 0).toNat x)))) iV rfl (by simp) rfl rfl c5 yt (by show x + 1<=_;omega) rfl rfl fun A257 cH=>?_);have AP:=cH.keep _ _ (fun q=>ed b8 (s:=(qu.getD j 0).toNat) (by have:=cX.len;omega) (by rw [eY];exact congrArg some q.symm)) nD;have AR:=cH.keep _ _ (fun q=>ed b0 (s:=(qu.getD j 0).toNat) (by have:=cX.len;omega) (by rw [eY];exact congrArg some q.symm)) jX;have qa:=kM.keep cH.keep (fun q=>ed aI (s:=(qu.getD j 0).toNat) (by have:=cX.len;omega) hj q (by rw [eY];rfl));have qb:=kP.keep cH.keep (fun q=>ed ai (s:=(qu.getD j 0).toNat) (by have:=cX.len;omega) hj q (by rw [eY];rfl));have qd:=kT.keep cH.keep (fun q=>ed ap (s:=(qu.getD j 0).toNat) (by have:=cX.len;omega) hj q (by rw [eY];rfl));have qp:=hA.keep cH.keep (fun q=>ed bc (s:=(qu.getD j 0).toNat) (by have:=cX.len;omega) hj q (by rw [eY];rfl));have pp:=Cp (((wJ Lt1 ia aZ bd (qu.getD j 0).toNat x))) A257 cH;have tt:=an m3 wf DK cH.n cH.keep;refine sM _ _<|.nil<|AI _ _<|.exit<|j4 _ _<|.region<|.q Z (bE (b:=1) Z Z O)<|.q Z (ah Z)<|.nil ?_;exact ⟨⟨x + 1,aZ,bd,ia,bO,aV,jQ,Lt1.set ((qu.getD j 0).toNat) ((Lt1.getD ((qu.getD j 0).toNat) []).set x (((wJ Lt1 ia aZ bd (qu.getD j 0).toNat x))))⟩,Am Z Z Z Z Z Z Z Z Z Z,Z,⟨⟨by omega,by first | exact hbn.neg O ‹_› | exact hbn.pos O ‹_› (by rw [‹ia.getD ((Lt1.getD (qu.getD j 0).toNat []).getD x 0).toNat false=true›];rfl) | exact hbn.pos O ‹_› (by rw [‹ia.getD ((Lt1.getD (qu.getD j 0).toNat []).getD x 0).toNat false=false›,Bool.false_or])⟩,tt,qa,qb,qd,qp,AP,AR,b1,aA,az,bm,aF,a8,a7,b6,b2,b3,c4,aC,bu,bv,pp,b8,b0,aI,ai,ap,bc⟩,O1⟩
   refine am.skip<|AF _ _<|.seq fun _ AS=>?_;obtain ⟨M2,M3⟩:=hbn.to (show x < 2 * gn by omega);have LT:=hbn.met (show x < 2 * gn by omega);refine am.region<|.q Z (ah Z)<|.q Z (ah Z)<|.q Z (ah Z) ?_;obtain ⟨hk,Ix,Ht,Eq,Gm,eZ,oy,yS,KD,DL,Kd,Cq⟩:=kM.at1 (x:=(((Lt1.getD ((qu.getD j 0).toNat) [])).getD x 0).toNat) Of;rw [aE] at oy;refine Ops.q Z (ax ep c5 Z eZ (iQ O) (by rw [oy];omega))<|.l Z (fun _ _ sN _=>aQ (off:=(((Lt1.getD ((qu.getD j 0).toNat) [])).getD x 0).toNat) (c':=Eq.set ((((Lt1.getD ((qu.getD j 0).toNat) [])).getD x 0).toNat) (num ((wJ Lt1 ia aZ bd (qu.getD j 0).toNat x)))) iV rfl (by simp) rfl rfl c5 yS (by show ((((Lt1.getD ((qu.getD j 0).toNat) [])).getD x 0).toNat) + 1<=_;omega) rfl rfl fun A271 bC=>?_);have nE:=bC.keep _ _ (fun q=>b1 (by rw [eZ];exact congrArg some q.symm)) nD;have gl:=bC.keep _ _ (fun q=>aF (by rw [eZ];exact congrArg some q.symm)) jX;have kV:=kP.keep bC.keep (b2 hk (by rw [eZ];rfl));have gc:=kT.keep bC.keep (b3 hk (by rw [eZ];rfl));have l0:=hA.keep bC.keep (c4 hk (by rw [eZ];rfl));have ka:=cX.keep bC.keep (fun r hr=>aI r hr hk (by rw [eZ];rfl));have hB:=Cq (num ((wJ Lt1 ia aZ bd (qu.getD j 0).toNat x))) A271 bC;rw [iw] at hB;have m6:=an m3 wf DL bC.n bC.keep;refine sN _ _<|.nil<|AS _ _<|.seq fun _ nH=>.drawn [0,1,2,3,4,5,6,7,8,9,10,11,12,13,14,15,16,17,18,19,20,21,22] mixed Y Y Z<|.q Z Z Z (ah Z)<|.q Z Z Z (cQ Z)<|.q Z Z Z (aj mh iK U Z)<|.q Z Z Z (ak iE Z Z gl Z)<|.q Z Z Z (ah Z) ?_;refine bj.q Z Z Z (ah Z)<|.q Z Z Z (cQ Z)<|.q Z Z Z (aj mh iK U Z)<|.q Z Z Z (ak iE Z Z gl Z)<|.q Z Z Z (ah Z) ?_;obtain ⟨Hi,HF,H1,K4,Gn,ID,HW,xA,Dd,yT,FL,p6⟩:=bK.at (i:=(((Lt1.getD ((qu.getD j 0).toNat) [])).getD x 0).toNat) gc.slc Oi O;refine bj.q Z Z Z (ax lS mc Z xA (iQ O) Dd)<|.q Z Z Z (ak ut Z Z yT ((cT p6).trans (ek O)))<|.q Z Z Z (ah Z)<|.partB (t:=119) Z (fun E4=>?_) (fun E4=>?_)
   ·refine bj.qOff Z Z Z Z Z Z<|.qOff Z Z Z Z Z Z<|.qOff Z Z Z Z Z Z<|.qOff Z Z Z Z Z Z<|.qOff Z Z Z Z Z Z<|.qOff Z Z Z Z Z Z<|.qOff Z Z Z Z Z Z<|.q Z Z Z (aM Z Z) ?_;obtain ⟨hl,IF,Hu,Es,Go,f0,oz,z0,KK,DM,Kk,Cs⟩:=gc.at1 (x:=(((Lt1.getD ((qu.getD j 0).toNat) [])).getD x 0).toNat) Oi;rw [bJ] at oz;refine bj.q Z Z Z (ax lS mc Z f0 (iQ O) (by rw [oz];omega))<|.l Z Z Z (fun _ _ sP _=>aQ (off:=(((Lt1.getD ((qu.getD j 0).toNat) [])).getD x 0).toNat) (c':=Es.set ((((Lt1.getD ((qu.getD j 0).toNat) [])).getD x 0).toNat) (.bool (true))) bC.wf rfl (by simp) rfl rfl mc z0 (by show ((((Lt1.getD ((qu.getD j 0).toNat) [])).getD x 0).toNat) + 1<=_;omega) rfl rfl fun A290 bD=>?_);have AT:=bD.keep _ _ (fun q=>az (by rw [f0];exact congrArg some q.symm)) nE;have AV:=bD.keep _ _ (fun q=>a7 (by rw [f0];exact congrArg some q.symm)) gl;have qr:=hB.keep bD.keep ((bq.symm b3) hl (by rw [f0];rfl));have qt:=kV.keep bD.keep ((bq.symm aC) hl (by rw [f0];rfl));have qA:=l0.keep bD.keep (bv hl (by rw [f0];rfl));have kc:=ka.keep bD.keep (fun r hr=>ap r hr hl (by rw [f0];rfl));have l1:=Cs (.bool (true)) A290 bD;rw [lg] at l1;have tw:=an m6 wf DM bD.n bD.keep;refine sP _ _ (be.none Y)<|.done<|nH _ _<|.region<|.q Z (ah Z)<|.q Z (ah Z)<|.l Z (fun _ _ sR _=>aN (c:=[num (((Lt1.getD ((qu.getD j 0).toNat) [])).getD x 0)]) bD.wf rfl (aw ep c5 z3 rfl U U rfl) fun A302 Hj av=>?_);have G1:=kc.ne_new bD.wf av.lo;have nJ:=av.le.get _ _ AT;have nK:=av.le.get _ _ AV;have l2:=qr.le av.le;have l3:=qt.le av.le;have l4:=l1.le av.le;have l6:=qA.le av.le;have kk:=kc.le av.le;have tz:=tw.trans av.le;refine sR _ _<|.l Z (fun _ _ sS _=>cF (ys:=[num (((Lt1.getD ((qu.getD j 0).toNat) [])).getD x 0)]) rfl rfl ep c5 mZ z3 rfl U ep (fun _ h=>by cases h) l3.own (bN (n:=1) av.get Z) rfl rfl (by show (_ + _) * 8<=_;simp only [aE,List.length_cons,List.length_nil];(try simp only [List.length_append,List.length_cons,List.length_nil]);omega) O2 fun A318 EA aP=>?_);rw [show ([num (((Lt1.getD ((qu.getD j 0).toNat) [])).getD x 0)]:List Value)=cO [((Lt1.getD ((qu.getD j 0).toNat) [])).getD x 0] from rfl,dA] at aP;obtain ⟨qB,tB⟩:=Fresh.grow l3 tz wf aP;have AY:=aP.keep aA nJ;have up:=aP.ne aA av.wf nJ;have AZ:=aP.keep a8 nK;have us:=aP.ne a8 av.wf nK;have w6:=bq.appd (show bq aV bO from (bq.symm b2)) l2.own av.wf aP;have qD:=l2.appd aP (bq.symm b2);have w7:=bq.appd (show bq aV jQ from aC) l4.own av.wf aP;have qN:=l4.appd aP aC;have wc:=bq.appd (show bq aV D from bu) l6.own av.wf aP;have qP:=l6.appd aP bu;have wl:=aL.appd (show aL aV rw from ai) kk av.wf aP;have pv:=kk.appd aP (show aL aV rw from ai);refine sS _ _<|.q Z (ae Z)<|.nil<|j4 _ _<|.region<|.q Z (bE (b:=1) Z Z O)<|.q Z (ah Z)<|.nil ?_;exact ⟨⟨x + 1,aZ.set ((((Lt1.getD ((qu.getD j 0).toNat) [])).getD x 0).toNat) (((wJ Lt1 ia aZ bd (qu.getD j 0).toNat x))),bd ++ [((Lt1.getD ((qu.getD j 0).toNat) [])).getD x 0],ia.set ((((Lt1.getD ((qu.getD j 0).toNat) [])).getD x 0).toNat) true,bO,EA,jQ,Lt1⟩,Am Z Z Z Z Z Z Z Z Z Z,Z,⟨⟨by omega,by first | exact hbn.neg O ‹_› | exact hbn.pos O ‹_› (by rw [‹ia.getD ((Lt1.getD (qu.getD j 0).toNat []).getD x 0).toNat false=true›];rfl) | exact hbn.pos O ‹_› (by rw [‹ia.getD ((Lt1.getD (qu.getD j 0).toNat []).getD x 0).toNat false=false›,Bool.false_or])⟩,tB,qD,qB,qN,qP,AY,AZ,b1,up,az,bm,aF,us,a7,b6,(bq.symm w6),b3,c4,w7,wc,bv,pv,b8,b0,aI,wl,ap,bc⟩,O1⟩
   refine bj.qOn Z Z Z Z Z (ah Z)<|.qOn Z Z Z Z Z (cQ Z)<|.qOn Z Z Z Z Z (aj mh iK U Z)<|.qOn Z Z Z Z Z (ak iE Z Z gl Z)<|.qOn Z Z Z Z Z (ah Z) ?_;obtain ⟨Hk,HG,H2,K5,Gp,IH,HX,xF,Di,z1,FM,p7⟩:=bK.at (i:=((wJ Lt1 ia aZ bd (qu.getD j 0).toNat x)).toNat) gc.slc Oi O;refine bj.qOn Z Z Z Z Z (ax lS mc Z xF (iQ O) Di)<|.qOn Z Z Z Z Z (ak ut Z Z z1 ((cT p7).trans (ek O)))<|.q Z Z Z (aW Z Z) ?_;obtain ⟨ho,IN,Hv,Et,Gq,f1,oF,z2,KL,DO,Kl,Cv⟩:=gc.at1 (x:=(((Lt1.getD ((qu.getD j 0).toNat) [])).getD x 0).toNat) Oi;rw [bJ] at oF;refine bj.q Z Z Z (ax lS mc Z f1 (iQ O) (by rw [oF];omega))<|.l Z Z Z (fun _ _ sT _=>aQ (off:=(((Lt1.getD ((qu.getD j 0).toNat) [])).getD x 0).toNat) (c':=Et.set ((((Lt1.getD ((qu.getD j 0).toNat) [])).getD x 0).toNat) (.bool (ia.getD (((wJ Lt1 ia aZ bd (qu.getD j 0).toNat x)).toNat) false))) bC.wf rfl (by simp) rfl rfl mc z2 (by show ((((Lt1.getD ((qu.getD j 0).toNat) [])).getD x 0).toNat) + 1<=_;omega) rfl rfl fun A342 bL=>?_);have B0:=bL.keep _ _ (fun q=>az (by rw [f1];exact congrArg some q.symm)) nE;have B2:=bL.keep _ _ (fun q=>a7 (by rw [f1];exact congrArg some q.symm)) gl;have qR:=hB.keep bL.keep ((bq.symm b3) ho (by rw [f1];rfl));have qT:=kV.keep bL.keep ((bq.symm aC) ho (by rw [f1];rfl));have qU:=l0.keep bL.keep (bv ho (by rw [f1];rfl));have kl:=ka.keep bL.keep (fun r hr=>ap r hr ho (by rw [f1];rfl));have l7:=Cv (.bool (ia.getD (((wJ Lt1 ia aZ bd (qu.getD j 0).toNat x)).toNat) false)) A342 bL;rw [lg] at l7;have tI:=an m6 wf DO bL.n bL.keep;refine sT _ _ (be.none Y)<|.done<|nH _ _<|.region<|.q Z (ah Z)<|.q Z (ah Z)<|.l Z (fun _ _ sV _=>aN (c:=[num (((Lt1.getD ((qu.getD j 0).toNat) [])).getD x 0)]) bL.wf rfl (aw ep c5 z3 rfl U U rfl) fun A354 Hl ay=>?_);have G2:=kl.ne_new bL.wf ay.lo;have nL:=ay.le.get _ _ B0;have nM:=ay.le.get _ _ B2;have l9:=qR.le ay.le;have lb:=qT.le ay.le;have lp:=l7.le ay.le;have lt:=qU.le ay.le;have km:=kl.le ay.le;have tJ:=tI.trans ay.le;refine sV _ _<|.l Z (fun _ _ sZ _=>cF (ys:=[num (((Lt1.getD ((qu.getD j 0).toNat) [])).getD x 0)]) rfl rfl ep c5 mZ z3 rfl U ep (fun _ h=>by cases h) lb.own (bN (n:=1) ay.get Z) rfl rfl (by show (_ + _) * 8<=_;simp only [aE,List.length_cons,List.length_nil];(try simp only [List.length_append,List.length_cons,List.length_nil]);omega) O2 fun A370 EC aR=>?_);rw [show ([num (((Lt1.getD ((qu.getD j 0).toNat) [])).getD x 0)]:List Value)=cO [((Lt1.getD ((qu.getD j 0).toNat) [])).getD x 0] from rfl,dA] at aR;obtain ⟨qV,tO⟩:=Fresh.grow lb tJ wf aR;have B3:=aR.keep aA nL;have uB:=aR.ne aA ay.wf nL;have B4:=aR.keep a8 nM;have uI:=aR.ne a8 ay.wf nM;have wm:=bq.appd (show bq aV bO from (bq.symm b2)) l9.own ay.wf aR;have r1:=l9.appd aR (bq.symm b2);have wp:=bq.appd (show bq aV jQ from aC) lp.own ay.wf aR;have r2:=lp.appd aR aC;have wy:=bq.appd (show bq aV D from bu) lt.own ay.wf aR;have r3:=lt.appd aR bu;have wz:=aL.appd (show aL aV rw from ai) km ay.wf aR;have pA:=km.appd aR (show aL aV rw from ai);refine sZ _ _<|.q Z (ae Z)<|.nil<|j4 _ _<|.region<|.q Z (bE (b:=1) Z Z O)<|.q Z (ah Z)<|.nil ?_;exact ⟨⟨x + 1,aZ.set ((((Lt1.getD ((qu.getD j 0).toNat) [])).getD x 0).toNat) (((wJ Lt1 ia aZ bd (qu.getD j 0).toNat x))),bd ++ [((Lt1.getD ((qu.getD j 0).toNat) [])).getD x 0],ia.set ((((Lt1.getD ((qu.getD j 0).toNat) [])).getD x 0).toNat) (ia.getD (((wJ Lt1 ia aZ bd (qu.getD j 0).toNat x)).toNat) false),bO,EC,jQ,Lt1⟩,Am Z Z Z Z Z Z Z Z Z Z,Z,⟨⟨by omega,by first | exact hbn.neg O ‹_› | exact hbn.pos O ‹_› (by rw [‹ia.getD ((Lt1.getD (qu.getD j 0).toNat []).getD x 0).toNat false=true›];rfl) | exact hbn.pos O ‹_› (by rw [‹ia.getD ((Lt1.getD (qu.getD j 0).toNat []).getD x 0).toNat false=false›,Bool.false_or])⟩,tO,r1,qV,r2,r3,B3,B4,b1,uB,az,bm,aF,uI,a7,b6,(bq.symm wm),b3,c4,wp,wy,bv,pA,b8,b0,aI,wz,ap,bc⟩,O1⟩
  refine am.exit<|At _ _<|.region<|.q Z (ah Z)<|.q Z (bE (b:=1) Z Z O)<|.q Z (ae Z)<|.nil ?_;exact ⟨⟨j + 1,aZ,bd,ia,bO,aV,jQ,Lt1⟩,zE Z Z Z Z Z Z,Z,⟨BO.next hbn O,m2,e2,fV,fT,dw,gp,e6,b1,aA,az,bm,aF,a8,a7,b6,b2,b3,c4,aC,bu,bv,dK,b8,b0,aI,ai,ap,bc⟩,O1⟩
 refine am.exit<|Ai _ _<|.seq fun _ B5=>?_;obtain ⟨hR,hAh⟩:=hbo.fin' O;have hpw:=hAh.pos;refine am.region<|.q Z (ah Z)<|.q Z (cU Z (bn UY Kj ML Z))<|.l Z (fun _ _ t0 _=>cg eC Kj rfl fun A393 br aS=>?_);have dO:=ne_new eC f6 aS.lo;have dl:=ne_new eC cZ aS.lo;have mt:=e1.own.ne_new eC aS.lo;have mv:=ck.own.ne_new eC aS.lo;have mB:=dJ.ne_new eC aS.lo;have fL:=aU wf (Nat.le_trans hF.n aS.lo);have B6:=aS.le.get _ _ f6;have B7:=aS.le.get _ _ cZ;have r4:=e1.le aS.le;have r5:=ck.le aS.le;have pE:=dJ.le aS.le;have tR:=hF.trans aS.le;refine t0 _ _<|.l Z (fun _ _ t1 _=>aQ (cs:=[num ((2 * gn:Nat):Int),num ((0:Nat):Int),.slice none 0 0,.slice none 0 0]) (c':=[num ((2 * gn:Nat):Int),num ((0:Nat):Int),.slice none 0 0,.slice none 0 0]) aS.wf rfl rfl rfl rfl j9 aS.get (Nat.le_of_ble_eq_true rfl) rfl rfl fun A409 d1=>?_);have B8:=d1.keep _ _ dO B6;have nN:=d1.keep _ _ dl B7;have r6:=r4.keep d1.keep mt;have lw:=r5.keep d1.keep mv;have pF:=pE.keep d1.keep mB;have tS:=an tR wf fL d1.n d1.keep;refine t1 _ _<|.nil<|B5 _ _<|.seq fun _ B9=>.seq fun _ Ba=>.region<|.q Z (ah Z)<|.q Z (cQ Z)<|.q Z (aj i9 i8 U Z)<|.q Z (ak kh Z Z nN Z) ?_;refine Ops.q Z (bF (n:=rw.length) oe Z lw.slc O (i6 _))<|.q Z (ah Z)<|.nil<|Ba _ _<|.block<|.loop (X:=Nat × List Value × List Bool × Value × Value × List (List Int)) (fun ⟨s,hd,ac,a4,aB,Lc⟩=>[(2,.pointer (some ⟨b9,0,none⟩)),(5,.pointer (some ⟨a0,0,none⟩)),(15,.pointer (some ⟨br,0,none⟩)),(139,D),(140,num ((rw.length:Nat):Int)),(141,num ((s:Nat):Int))]) (fun ⟨s,hd,ac,a4,aB,Lc⟩ B=>(s<=rw.length/\Lc=mW en Lt s 0/\hd=rw.take s/\ac=(en.take s).map (fun e=>!e))/\A.le B/\Fresh A B a4 1 (cl ac)/\Fresh A B aB 1 (em hd)/\Fresh A B jV 1 (cl en)/\Fresh A B D 1 (em rw)/\B.get b9=some (.row true [num ((0:Nat):Int),num ((0:Nat):Int),.slice none 0 0,.slice none 0 0] 4)/\B.get a0=some (.row true [D,jV] 2)/\B.get br=some (.row true [num ((2 * gn:Nat):Int),num ((0:Nat):Int),a4,aB] 4)/\V.blk a4 ≠ some b9/\V.blk aB ≠ some b9/\V.blk jV ≠ some b9/\V.blk D ≠ some b9/\V.blk a4 ≠ some a0/\V.blk aB ≠ some a0/\V.blk jV ≠ some a0/\V.blk D ≠ some a0/\V.blk a4 ≠ some br/\V.blk aB ≠ some br/\V.blk jV ≠ some br/\V.blk D ≠ some br/\bq a4 aB/\bq a4 jV/\bq a4 D/\bq aB jV/\bq aB D/\bq jV D/\ib A B rw Lc/\dG rw b9/\dG rw a0/\dG rw br/\aL a4 rw/\aL aB rw/\aL jV rw/\aL D rw) (fun ⟨s,hd,ac,a4,aB,Lc⟩=>rw.length - s) (⟨0,[],[],.slice none 0 0,.slice none 0 0,Lt⟩) (zE Z Z Z Z Z Z) (⟨⟨Nat.zero_le _,Dn.symm,by simp,by simp⟩,tS,(Fresh.nil A A409 1),(Fresh.nil A A409 1),r6,lw,B8,nN,d1.get,(fun q=>by cases q),(fun q=>by cases q),ea,dZ,(fun q=>by cases q),(fun q=>by cases q),dW,dm,(fun q=>by cases q),(fun q=>by cases q),mt,mv,bq.nil,bq.nil,bq.nil,bq.nil,bq.nil,g2,pF,eL,e5,mB,aL.nil,aL.nil,eQ,eS⟩) ?_;rintro ⟨s,hd,ac,a4,aB,Lc⟩ B424 ⟨⟨M1,hLc,hhd,hac⟩,dM,fS,e3,hv,f9,cS,fX,cA,gF,gL,g6,g7,g4,g5,fQ,fR,fN,fO,ft,fD,iF,iH,iN,iR,iS,iT,dL,eN,gm,g3,gY,h0,h1,h3⟩;refine am.wf fun mM=>?_;have hcl:Lc.length=Lt.length:=by rw [hLc];exact z6
 have hhl:hd.length=s:=by rw [hhd,List.length_take];omega
 have hacl:ac.length=s:=by rw [hac,List.length_map,List.length_take];omega
 refine am.seq fun _ Bb=>.region<|.q Z (cd Z Z)<|.nil<|Bb _ _<|.seq fun _ Bc=>.if rfl (fun E5=>?_) (fun E5=>?_)
 ·refine am.skip<|Bc _ _<|.seq fun _ Bd=>.block<|.seq fun _ Bk=>.region<|.q Z (ah Z) ?_;obtain ⟨Hm,HH,H3,K6,Gs,IO,HY,xN,Dj,zi,FN,p8⟩:=bK.at (i:=s) f9.slc Ok O;refine Ops.q Z (ax oe fF Z xN Z Dj)<|.q Z (ak l8 Z Z zi ((cT p8).trans (eO O)))<|.q Z (ae Z)<|.q Z (ae Z)<|.nil<|Bk _ _<|.seq fun _ Bl=>.seq fun _ Bm=>.region<|.q Z (ah Z) ?_;refine Ops.q Z (bF (n:=((Lc.getD s [])).length) ep Z (dL.fr s O).slc O (eD _))<|.q Z (ah Z)<|.nil<|Bm _ _<|.block ?_;have hrs:(Lt.getD s []).length=2 * gn:=hAh.row s O;have HN:(Lc.getD s []).length=2 * gn:=by rw [hLc,rG O,Ae];exact hrs
  refine am.loop (X:=Nat × List (List Int)) (fun ⟨y,Lc1⟩=>[(2,.pointer (some ⟨b9,0,none⟩)),(5,.pointer (some ⟨a0,0,none⟩)),(15,.pointer (some ⟨br,0,none⟩)),(16,num ((s:Nat):Int)),(17,rw.getD s undef),(139,D),(140,num ((rw.length:Nat):Int)),(141,num ((s:Nat):Int)),(146,rw.getD s undef),(147,num ((((Lc.getD s [])).length:Nat):Int)),(148,num ((y:Nat):Int))]) (fun ⟨y,Lc1⟩ B=>(y<=2 * gn/\Lc1=mW en Lt s y)/\A.le B/\Fresh A B a4 1 (cl ac)/\Fresh A B aB 1 (em hd)/\Fresh A B jV 1 (cl en)/\Fresh A B D 1 (em rw)/\B.get b9=some (.row true [num ((0:Nat):Int),num ((0:Nat):Int),.slice none 0 0,.slice none 0 0] 4)/\B.get a0=some (.row true [D,jV] 2)/\B.get br=some (.row true [num ((2 * gn:Nat):Int),num ((0:Nat):Int),a4,aB] 4)/\V.blk a4 ≠ some b9/\V.blk aB ≠ some b9/\V.blk jV ≠ some b9/\V.blk D ≠ some b9/\V.blk a4 ≠ some a0/\V.blk aB ≠ some a0/\V.blk jV ≠ some a0/\V.blk D ≠ some a0/\V.blk a4 ≠ some br/\V.blk aB ≠ some br/\V.blk jV ≠ some br/\V.blk D ≠ some br/\bq a4 aB/\bq a4 jV/\bq a4 D/\bq aB jV/\bq aB D/\bq jV D/\ib A B rw Lc1/\dG rw b9/\dG rw a0/\dG rw br/\aL a4 rw/\aL aB rw/\aL jV rw/\aL D rw) (fun ⟨y,Lc1⟩=>2 * gn - y) (⟨0,Lc⟩) (vj Z Z Z Z Z Z Z Z Z Z Z) (⟨⟨Nat.zero_le _,hLc⟩,dM,fS,e3,hv,f9,cS,fX,cA,gF,gL,g6,g7,g4,g5,fQ,fR,fN,fO,ft,fD,iF,iH,iN,iR,iS,iT,dL,eN,gm,g3,gY,h0,h1,h3⟩) ?_;rintro ⟨y,Lc1⟩ B441 ⟨⟨hy,e4⟩,hG,dv,dD,ch,dz,f7,d0,cC,bl,bp,c7,cc,b5,b7,bP,bR,ab,aT,ad,ag,d3,dd,di,dj,dk,eg,a1,bS,bA,a6,ba,bb,bT,bU⟩;refine am.wf fun hU=>?_;have HM:Lc1.length=Lt.length:=by rw [e4];exact z6
  have hrc:(Lc1.getD s []).length=2 * gn:=by rw [e4,rG O,Ae];exact hrs
  have hce:=fun q:y < 2 * gn=>(show (Lc1.getD s []).getD y 0=(Lt.getD s []).getD y 0 by rw [e4];exact IJ O O);have hca:=fun q:y < 2 * gn=>hAh.at (s:=s) (x:=y) O q;refine am.seq fun _ Bo=>.region<|.q Z (cd Z Z)<|.nil<|Bo _ _<|.seq fun _ Bp=>.if rfl (fun E6=>?_) (fun E6=>?_)
  ·refine am.skip<|Bp _ _<|.seq fun _ nO=>.block<|.seq fun _ Br=>.region<|.q Z (ah Z) ?_;obtain ⟨Hn,HI,H4,K7,GC,IR,HZ,xR,Dk,zs,FO,p9⟩:=bK.at (i:=y) (a1.fr s O).slc Of O;refine Ops.q Z (ax ep c5 Z xR Z Dk)<|.q Z (ak eM Z Z zs ((cT p9).trans (c8 O)))<|.q Z (ae Z)<|.q Z (ae Z)<|.nil<|Br _ _<|.seq fun _ Bs=>?_;obtain ⟨L9,Lb⟩:=hca O;have Le:=hce O;refine am.region<|.q Z (ah Z)<|.q Z (cQ Z)<|.q Z (aj mh iK U Z)<|.q Z (ak iE Z Z d0 Z)<|.q Z (ah Z) ?_;obtain ⟨Ho,HJ,H5,K9,GD,IS,I1,xS,Dl,zI,FQ,pa⟩:=bK.at (i:=(((Lc1.getD s [])).getD y 0).toNat) ch.slc Oi O;refine Ops.q Z (ax lS mc Z xS (iQ O) Dl)<|.q Z (ak ut Z Z zI ((cT pa).trans (ek O)))<|.nil<|Bs _ _<|.ifB Z (fun E7=>?_) (fun E7=>?_)
   ·refine am.region<|.q Z (ah Z)<|.q Z (ah Z) ?_;obtain ⟨ht,IT,Hw,Ev,GE,e0,Dm,zS,KM,DS,Km,CC⟩:=a1.at (s:=s) (x:=y) O O;refine Ops.q Z (ax ep c5 Z e0 Z (by rw [Dm];omega))<|.l Z (fun _ _ t2 _=>aQ (off:=y) (c':=Ev.set y (num (-1))) hU rfl (by simp) rfl rfl c5 zS (by show y + 1<=_;omega) rfl rfl fun A459 bV=>?_);have Bt:=bV.keep _ _ (fun q=>ed bS (s:=s) (by have:=a1.len;omega) (by rw [e0];exact congrArg some q.symm)) f7;have Bu:=bV.keep _ _ (fun q=>ed bA (s:=s) (by have:=a1.len;omega) (by rw [e0];exact congrArg some q.symm)) d0;have Bv:=bV.keep _ _ (fun q=>ed a6 (s:=s) (by have:=a1.len;omega) (by rw [e0];exact congrArg some q.symm)) cC;have r7:=dv.keep bV.keep (fun q=>ed ba (s:=s) (by have:=a1.len;omega) ht q (by rw [e0];rfl));have r9:=dD.keep bV.keep (fun q=>ed bb (s:=s) (by have:=a1.len;omega) ht q (by rw [e0];rfl));have rf:=ch.keep bV.keep (fun q=>ed bT (s:=s) (by have:=a1.len;omega) ht q (by rw [e0];rfl));have rr:=dz.keep bV.keep (fun q=>ed bU (s:=s) (by have:=a1.len;omega) ht q (by rw [e0];rfl));have pI:=CC ((-1)) A459 bV;have tT:=an hG wf DS bV.n bV.keep;refine t2 _ _<|.nil<|nO _ _<|.region<|.q Z (bE (b:=1) Z Z O)<|.q Z (ah Z)<|.nil ?_;exact ⟨⟨y + 1,Lc1.set s ((Lc1.getD s []).set y ((-1)))⟩,vj Z Z Z Z Z Z Z Z Z Z Z,Z,⟨⟨by omega,by first | (rw [e4];exact z7 O O (by rw [<- hce O];assumption)) | (rw [e4];exact FF O O (by rw [<- hce O];assumption))⟩,tT,r7,r9,rf,rr,Bt,Bu,Bv,bl,bp,c7,cc,b5,b7,bP,bR,ab,aT,ad,ag,d3,dd,di,dj,dk,eg,pI,bS,bA,a6,ba,bb,bT,bU⟩,O1⟩
   refine am.skip<|nO _ _<|.region<|.q Z (bE (b:=1) Z Z O)<|.q Z (ah Z)<|.nil ?_;exact ⟨⟨y + 1,Lc1⟩,vj Z Z Z Z Z Z Z Z Z Z Z,Z,⟨⟨by omega,by first | (rw [e4];exact z7 O O (by rw [<- hce O];assumption)) | (rw [e4];exact FF O O (by rw [<- hce O];assumption))⟩,hG,dv,dD,ch,dz,f7,d0,cC,bl,bp,c7,cc,b5,b7,bP,bR,ab,aT,ad,ag,d3,dd,di,dj,dk,eg,a1,bS,bA,a6,ba,bb,bT,bU⟩,O1⟩
  refine am.exit<|Bl _ _<|.seq fun _ By=>?_;obtain ⟨i1,hY,hV,hsh,_⟩:=(a1.fr s O).own.slice;rw [hsh];refine am.region<|.q Z (aj lI i8 U Z)<|.q Z (ak kh Z Z cC Z)<|.q Z (ah Z)<|.l Z (fun _ _ t3 _=>aN (c:=[.slice i1 hY hV]) hU rfl (aw oe fF Kw rfl U U rfl) fun A474 Hp a5=>?_);have G3:=a1.ne_new hU a5.lo;have nQ:=a5.le.get _ _ f7;have nT:=a5.le.get _ _ d0;have nV:=a5.le.get _ _ cC;have lB:=dv.le a5.le;have lC:=dD.le a5.le;have lE:=ch.le a5.le;have lF:=dz.le a5.le;have kp:=a1.le a5.le;have tW:=hG.trans a5.le;refine t3 _ _<|.l Z (fun _ _ t4 _=>cF (ys:=[.slice i1 hY hV]) rfl rfl oe fF FX Kw rfl U oe (fun _ h=>by cases h) lC.own (bN (n:=1) a5.get Z) rfl rfl (by show (_ + _) * 24<=_;simp only [cq,List.length_cons,List.length_nil];(try simp only [List.length_append,List.length_cons,List.length_nil]);omega) Ov fun A491 Kt a9=>?_);rw [show ([.slice i1 hY hV]:List Value)=em [Value.slice i1 hY hV] from rfl,pz] at a9;obtain ⟨lK,tY⟩:=Fresh.grow lC tW wf a9;have BA:=a9.keep bp nQ;have uP:=a9.ne bp a5.wf nQ;have BB:=a9.keep b7 nT;have uS:=a9.ne b7 a5.wf nT;have BC:=a9.keep aT nV;have hN:=a9.ne aT a5.wf nV;have mE:=bq.appd (show bq aB a4 from (bq.symm d3)) lB.own a5.wf a9;have rt:=lB.appd a9 (bq.symm d3);have wC:=bq.appd (show bq aB jV from dj) lE.own a5.wf a9;have rF:=lE.appd a9 dj;have wF:=bq.appd (show bq aB D from dk) lF.own a5.wf a9;have rR:=lF.appd a9 dk;have wL:=aL.appd (show aL aB rw from bb) kp a5.wf a9;have pJ:=kp.appd a9 (show aL aB rw from bb);refine t4 _ _<|.q Z (aj lI i8 U Z) ?_;obtain ⟨gP,gq,gg,Ea,_⟩:=lK.own.slice;subst Ea;refine Ops.l Z (fun _ _ t5 _=>aQ (cs:=[.slice gP gq gg]) (c':=[num ((2 * gn:Nat):Int),num ((0:Nat):Int),a4,.slice gP gq gg]) a9.wf rfl rfl rfl rfl i8 BC (Nat.le_of_ble_eq_true rfl) rfl rfl fun A514 aY=>?_);have BD:=aY.keep _ _ dO BA;have o1:=aY.keep _ _ dl BB;have rS:=rt.keep aY.keep ab;have lO:=rF.keep aY.keep ad;have rT:=rR.keep aY.keep ag;have rV:=lK.keep aY.keep hN;have kv:=pJ.keep aY.keep a6;have tZ:=an tY wf fL aY.n aY.keep;refine t5 _ _<|.nil<|By _ _<|.drawn [0,1,2,3,4,5,6,7,8,9,10,11,12,13] mixed Y Y Z<|.q Z Z Z (aj lH iK U Z) ?_;have sf:=cG (off:=2) aY.get (show _=some (a4) from rfl);refine bj.q Z Z Z (ak iE Z Z aY.get Z)<|.q Z Z Z (ah Z)<|.q Z Z Z (cQ Z)<|.q Z Z Z (aj mh iK U Z)<|.q Z Z Z (ak iE Z Z o1 Z)<|.q Z Z Z (ah Z) ?_;obtain ⟨Hq,HK,H6,Ka,GF,IV,I2,xT,Do,zV,FS,pe⟩:=bK.at (i:=s) lO.slc Oi O;refine bj.q Z Z Z (ax lS mc Z xT Z Do)<|.q Z Z Z (ak ut Z Z zV ((cT pe).trans (ek O)))<|.q Z Z Z (eu Z)<|.l Z Z Z (fun _ _ t6 _=>aN (c:=[.bool (!(en.getD s false))]) aY.wf rfl (aw lS mc z4 rfl U U rfl) fun A530 Hr a3=>?_);have G4:=kv.ne_new aY.wf a3.lo;have o2:=a3.le.get _ _ BD;have o3:=a3.le.get _ _ o1;have oi:=a3.le.get _ _ aY.get;have lP:=rS.le a3.le;have lT:=lO.le a3.le;have lV:=rT.le a3.le;have lW:=rV.le a3.le;have kA:=kv.le a3.le;have sm:=bW a3.le sf;have u0:=tZ.trans a3.le;refine t6 _ _ (be.list (L:=[(⟨br,2,none⟩,a4)]) Y (bg sm bZ))<|.l Z Z Z (fun _ _ t7 _=>cF (ys:=[.bool (!(en.getD s false))]) rfl rfl lS mc LU z4 rfl U lS (fun _ h=>by cases h) lP.own (bN (n:=1) a3.get Z) rfl rfl (by show (_ + _) * 1<=_;simp only [bJ,List.length_cons,List.length_nil];(try simp only [List.length_append,List.length_cons,List.length_nil]);omega) Ow fun A550 Kv aa=>?_);rw [show ([.bool (!(en.getD s false))]:List Value)=cl [!(en.getD s false)] from rfl,nu] at aa;obtain ⟨lX,u1⟩:=Fresh.grow lP u0 wf aa;have BL:=aa.keep bl o2;have v0:=aa.ne bl a3.wf o2;have BM:=aa.keep b5 o3;have v1:=aa.ne b5 a3.wf o3;have BP:=aa.keep ab oi;have mb:=aa.ne ab a3.wf oi;have wM:=bq.appd (show bq a4 jV from dd) lT.own a3.wf aa;have rW:=lT.appd aa dd;have wP:=bq.appd (show bq a4 D from di) lV.own a3.wf aa;have s0:=lV.appd aa di;have wS:=bq.appd (show bq a4 (.slice gP gq gg) from (bq.symm mE)) lW.own a3.wf aa;have s1:=lW.appd aa (bq.symm mE);have wY:=aL.appd (show aL a4 rw from ba) kA a3.wf aa;have pL:=kA.appd aa (show aL a4 rw from ba);refine t7 _ _ (be.none Y)<|.q Z Z Z (aj lH iK U Z) ?_;obtain ⟨k4,k2,iX,Ec,_⟩:=lX.own.slice;subst Ec;refine bj.l Z Z Z (fun _ _ t8 _=>aQ (cs:=[.slice k4 k2 iX]) (c':=[num ((2 * gn:Nat):Int),num ((0:Nat):Int),.slice k4 k2 iX,.slice gP gq gg]) aa.wf rfl rfl rfl rfl iK BP (Nat.le_of_ble_eq_true rfl) rfl rfl fun A574 bY=>?_);have BR:=bY.keep _ _ dO BL;have BT:=bY.keep _ _ dl BM;have s2:=rW.keep bY.keep ad;have s3:=s0.keep bY.keep ag;have s4:=s1.keep bY.keep hN;have s5:=lX.keep bY.keep mb;have pP:=pL.keep bY.keep a6;have u8:=an u1 wf fL bY.n bY.keep;refine t8 _ _ (be.none Y)<|.done<|Bd _ _<|.region<|.q Z (bE (b:=1) Z Z O)<|.q Z (ah Z)<|.nil ?_;exact ⟨⟨s + 1,hd ++ [Value.slice i1 hY hV],ac ++ [!(en.getD s false)],.slice k4 k2 iX,.slice gP gq gg,Lc1⟩,zE Z Z Z Z Z Z,Z,⟨⟨by omega,by rw [e4,show y=(Lt.getD s []).length by omega];exact IK O O,by rw [hhd,<- hsh];exact f5 O,by rw [hac];exact Jk O⟩,u8,s5,s4,s2,s3,BR,BT,bY.get,v0,uP,c7,cc,v1,uS,bP,bR,mb,hN,ad,ag,wS,wM,wP,wC,wF,eg,pP,bS,bA,a6,wY,wL,bT,bU⟩,O1⟩
 refine am.exit<|B9 _ _<|.seq fun _ BU=>.seq fun _ BV=>.region<|.q Z (aj lI i8 U Z)<|.q Z (ak kh Z Z cA Z)<|.q Z (bF (n:=hd.length) oe Z e3.slc O (i6 _))<|.q Z (dP (b:=20000) Z Z)<|.nil ?_;refine BV _ _<|.if rfl (fun E9=>?_) (fun E9=>?_)
 ·refine am.seq fun _ HL=>?_;exfalso;omega
 refine am.skip<|BU _ _<|.seq fun _ BY=>.region<|.q Z (aq qx j9 Z Z cA Z) ?_;have C2:hd=rw:=by rw [hhd,List.take_of_length_le O]
 have k0:Lc=Lt.map (eI en):=by rw [hLc];exact Lj O
 have k1:ac=en.map (fun e=>!e):=by rw [hac,List.take_of_length_le O]
 have hao:Kx (2 * gn) ac Lc:=by rw [k0,k1];exact Sg hAh O O
 refine Ops.l Z (fun _ _ t9 _=>au Z (NW (2 * gn) ac Lc a4 aB hd B424 O hao fS.slc e3.slc O (fun i hi=>by rw [C2];exact (dL.fr i hi).slc)) ?_);rintro KA A595 ⟨EG,EL,EN,rfl,gC,oR,fE,fI,ev,he,hf,hh⟩;have C1:=gC.get _ _ cS;have pS:=dL.le gC;have ub:=dM.trans gC;have xa:=fE;have xv:=fI;have xf:=ev;have M4:=he;have M6:=hf;have Mb:=hh;have v8:=fE.ne mM cS;have v9:=fI.ne mM cS;have w0:=ev.ne cS;have G5:=ev.ne fX;have G6:=ev.ne cA;refine t9 _ _<|.q Z (bh Z Z)<|.q Z (bh Z Z) ?_;obtain ⟨oP,oI,n6,Eg,_⟩:=(fE.base dM).own.slice;subst Eg;obtain ⟨oQ,oJ,n7,El,_⟩:=(fI.base dM).own.slice;subst El;refine Ops.l Z (fun _ _ tb _=>aQ (cs:=[num ((2 * gn:Nat):Int),num ((0:Nat):Int),.slice oP oI n6,.slice oQ oJ n7]) (c':=[num ((2 * gn:Nat):Int),num ((0:Nat):Int),.slice oP oI n6,.slice oQ oJ n7]) oR rfl rfl rfl rfl j9 C1 (Nat.le_of_ble_eq_true rfl) rfl rfl fun A618 d2=>?_);have s6:=(fE.base dM).keep d2.keep v8;have sb:=(fI.base dM).keep d2.keep v9;have FV:=pS.keep d2.keep eN;have pV:=(ev.base dM).keep d2.keep w0;have ui:=an ub wf lY d2.n d2.keep;refine tb _ _<|.q Z (ae Z)<|.nil<|BY _ _<|.ret ?_;repeat first | with_reducible refine bz ?_ | with_reducible refine bi ?_
 exact aJ (df qx j9 Z d2.get Z (dF Z d7)) (⟨_,_,_,by rw [(ur hs).1,(ur hs).2.1];rfl,ui,d2.wf,cw s6 (congrArg cl (by rw [(ur hs).2.2,k1,k0,Pn,Po,hR])),sb,mG pV (by rw [(ur hs).2.2,k1,k0,Pn,Po,hR]),he,hf,hh⟩)
end Go.Proofs.YtjppkekmddjcfaaGreatDoor

namespace Go.Proofs.YtjppkekmddjcfaaGreatDoor
open Go Go.RowKit V
def dB:List Wd:=[[97,98,65,66]]
def cJ (a b c d:Value):List bf:=[⟨[98,97],[97,98],a,[⟨[],0,true⟩]⟩,⟨[98,65],[65,98],b,[⟨[65],0,false⟩]⟩,⟨[66,97],[97,66],c,[⟨[66],0,false⟩]⟩,⟨[66,65],[65,66],d,[⟨[66,65],0,true⟩]⟩]
section
variable (a b c d:Value)
set_option maxRecDepth 100000
theorem vG:cj 2 dB (cJ a b c d)=true:=by kernel_rfl
theorem QE:(ei 2 dB (cJ a b c d) [98,98,97,65]).word=[98,98]/\(ei 2 dB (cJ a b c d) [98,98,97,65]).steps=4/\gV 2 dB (cJ a b c d) [98,98,97,65]=0:=by refine ⟨?_,?_,?_⟩ <;> kernel_rfl
theorem QF:(ei 2 dB (cJ a b c d) [98,97,66]).word=[97]/\(ei 2 dB (cJ a b c d) [98,97,66]).steps=1/\gV 2 dB (cJ a b c d) [98,97,66]=0:=by refine ⟨?_,?_,?_⟩ <;> kernel_rfl
theorem QG:(ei 2 dB (cJ a b c d) [98,97,98,97]).word=[97,97,98,98]/\(ei 2 dB (cJ a b c d) [98,97,98,97]).steps=3/\gV 2 dB (cJ a b c d) [98,97,98,97]=0:=by refine ⟨?_,?_,?_⟩ <;> kernel_rfl
theorem QH:fG 2 dB (cJ a b c d)=(true,.zero,0):=by kernel_rfl
theorem QI:ny 2 dB (cJ a b c d)=(true,0):=by kernel_rfl
theorem QJ:isRed 2 dB (cJ a b c d)=true:=by kernel_rfl
theorem QK:C0 2 dB (cJ a b c d)=([true,true,true,true,true],[[1,2,3,4],[1,-1,3,4],[-1,2,3,4],[-1,-1,3,-1],[-1,-1,-1,4]])/\Im 2 dB (cJ a b c d)=4/\sJ 2 dB (cJ a b c d)=0:=by refine ⟨?_,?_,?_⟩ <;> kernel_rfl
theorem QL:fG 2 dB ((cJ a b c d).take 1)=(false,⟨0,-1,[98,97,65],[97,98,65],[98]⟩,0):=by kernel_rfl
theorem Gt:s9 (cJ a b c d) [97,66]=true/\s9 (cJ a b c d) [66,97]=false/\bG 2 [97,66]=0/\bG 2 [66,97]=0:=by refine ⟨?_,?_,?_,?_⟩ <;> kernel_rfl
theorem sa:(bk 2 (cJ a b c d)).length<=50000/\(bk 2 ((cJ a b c d).take 1)).length<=50000/\qF (yk 2 (cJ a b c d))<=18000:=by
  refine ⟨?_,?_,?_⟩ <;> exact Nat.le_of_ble_eq_true Y
theorem MN:iJ true (cJ a b c d) (cJ a b c d)=true:=by kernel_rfl
end
structure fC (A:AH) (u rv:Value) (a b c d:Value):Prop where
  L:gJ A
  M:rB A
  u:bK A 1 u (d5 dB)
  r:bK A 3 rv (c9 (cJ a b c d))
  p:Proofs A (cJ a b c d)
theorem fC.le {A B:AH} {u rv a b c d:Value} (h:fC A u rv a b c d) (le:A.le B):fC B u rv a b c d:=⟨h.L.le le,h.M.le le,h.u.le le,h.r.le le,h.p.le le⟩
theorem fC.one {A:AH} {u:Value} {br:Nat} {a b c d:Value} (h:fC A u (.slice (some ⟨br,0,none⟩) 4 4) a b c d):bK A 3 (.slice (some ⟨br,0,none⟩) 1 4) (c9 ((cJ a b c d).take 1))/\Proofs A ((cJ a b c d).take 1):=by
  obtain ⟨p,n,k,e,h1,h2,h3⟩:=h.r
  cases e
  rcases h3 with h3 | ⟨b',off,rw,r,rcap,e,g1,g2⟩
  · cases h3
  · cases e
    refine ⟨⟨_,1,4,rfl,rfl,by decide,.inr ⟨_,0,rw,r,rcap,rfl,g1,?_⟩⟩,fun r hr=>h.p r (List.mem_of_mem_take hr)⟩
    have:((r.drop 0).take (4 * 3)).take 3=(c9 (cJ a b c d)).take 3:=by rw [g2]
    rw [List.take_take] at this
    exact this
end Go.Proofs.YtjppkekmddjcfaaGreatDoor
