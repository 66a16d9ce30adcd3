import Derived.Test.YtjppkekmddjcfaaGreatDoorTC4
import Derived.Test.YtjppkekmddjcfaaGreatDoorTC6
import Derived.Test.YtjppkekmddjcfaaGreatDoorTC5
import Derived.Test.YtjppkekmddjcfaaGreatDoorTC2
set_option linter.unusedSectionVars false
set_option linter.unusedVariables false
set_option linter.unusedSimpArgs false
namespace Go.Proofs.YtjppkekmddjcfaaGreatDoor
open Go Go.RowKit
namespace V
section
variable {P:Program} {nt:Nat} {Q:Exit->Fr->AH->Prop} {A M:AH} {e:gv} {ds:List Deferred}
theorem ao.rangeOwnP {g:Operand} {gf:Nat} {lb:Array Value} {ps:Array Tmp} {assign body:Code} (b4 n:Nat) (xs:Nat->List Value) (I:Nat->AH->Prop) (e1:Nat->gv)
    (hg:bZ e g=some (.func (.func gf) #[] lb)) (eg:eU P gf) (hps:∀ i,(xs i).length=ps.size) (hpn:∀ p ∈ ps.toList,p < nt) (a3:b4 < A.n) (hM:cD b4 M A)
    (hI:∀ i B B',I i B->B'.wf->B.n<=B'.n->(∀ b o,(b < A.n\/lM b4 B b)->B.get b=some o->B'.get b=some o)->I i B')
    (hv:∀ i B,I i B->∃ v cap,B.get b4=some (.row true [v] cap)/\∀ b,blk v=some b->∃ o,B.get b=some o) (h0:I 0 A)
    (hiter:∀ l (J:Nat->AH->Prop) B M,B.n=A.n + 2->A.le B->B.wf->cD b4 M B->(∀ i C,J i C->I i C) ->
      (∀ i C C',J i C->C'.wf->C.n<=C'.n->(∀ b o,(b < B.n\/lM b4 C b)->C.get b=some o->C'.get b=some o)->J i C')->J 0 B ->
      (∀ i C M',i < n->C.wf->J i C->cD b4 M' C->kz P l (xs i).toArray C (fun v C'=>v=.bool true/\J (i + 1) C'/\C'.wf/\cD b4 M' C')) ->
      bG P gf (#[.func (.yield l) #[] #[]] ++ lb) B (fun _ C=>J n C/\C.wf/\cD b4 M C))
    (hassign:∀ F i B,vo F->i < n->ed P nt F assign (uH fun f C=>an (e1 i) f.e/\f.ds=[]/\B.le C/\C.wf) ⟨xQ ps.toList (xs i) e,[]⟩ B)
    (hbody:∀ F i B M',vo F->i < n->I i B->B.wf->A.n<=B.n->cD b4 M' B->ed P nt F body (uH fun _ C=>I (i + 1) C/\C.wf/\cD b4 M' C) ⟨e1 i,[]⟩ B)
    (hK:∀ B D,I n B->B.wf->A.n<=D->A.n<=B.n->B.get D=some (.obj true (.deferred (some [])))->¬ lM b4 B D->cD b4 M B->Q .normal ⟨e,mark D :: ds⟩ B) :
    ao P nt (.rangeFunc g ps assign body) Q ⟨e,ds⟩ A:=by
  intro a w ha hw
  refine wpIn_wide.1 (wpIn_rangeFunc (n:=0) ?_)
  intro fn _
  rw [show Fence.wide.round=none from rfl]
  obtain ⟨rec,hrec⟩:∃ rec:LoopState->Option Code->Loop,rec=fun st pe=>{ state:=st,pending:=pe,fn,tmps:=a.tmps,params:=ps,assign,body,defers:=w.heap.size }:=⟨_,rfl⟩
  have hsz:w.heap.size=A.n:=hw.size
  have wfA:=hw.wf
  have hA:∀ b,lM b4 A b->b < A.n:=fun b hb=>by
    obtain ⟨v,cap,g1,g2⟩:=hv 0 A h0
    rcases hb.val g1 with rfl | q
    · exact a3
    · obtain ⟨o,ho⟩:=g2 b q;exact wfA _ _ ho
  obtain ⟨v1,s1⟩:=jx (o:=.obj true (.deferred (some []))) (x:=.deferred (some [])) hw ⟨rfl,fun _ _ _ q=>by cases q⟩
  obtain ⟨v2,s2⟩:=jx (o:=.obj true (.loop (rec .ready none))) (x:=.loop (rec .ready none)) v1 ⟨rfl,fun _ _ _ q=>by cases q⟩
  have hgl:((A.new (.obj true (.deferred (some [])))).new (.obj true (.loop (rec .ready none)))).get (A.n + 1)=some (.obj true (.loop (rec .ready none))):=AH.new_get_same _ _
  have hgd:((A.new (.obj true (.deferred (some [])))).new (.obj true (.loop (rec .ready none)))).get A.n=some (.obj true (.deferred (some []))):=by
    rw [AH.new_get_ne _ _ (by simp)];exact AH.new_get_same _ _
  have hkeep:∀ b,b < A.n->((A.new (.obj true (.deferred (some [])))).new (.obj true (.loop (rec .ready none)))).get b=A.get b:=fun b hb=>by
    rw [AH.new_get_ne _ _ Ox,AH.new_get_ne _ _ O]
  have hleA:A.le ((A.new (.obj true (.deferred (some [])))).new (.obj true (.loop (rec .ready none)))):=AH.le_new (AH.le_new (AH.le.refl A) wfA _) wfA _
  have hnB:((A.new (.obj true (.deferred (some [])))).new (.obj true (.loop (rec .ready none)))).n=A.n + 2:=rfl
  generalize ((A.new (.obj true (.deferred (some [])))).new (.obj true (.loop (rec .ready none))))=B0 at *
  have ac:I 0 B0:=hI 0 A _ h0 v2.wf O fun b o hb hgb=>by rw [hkeep b (wfA _ _ hgb)];exact hgb
  have a9:∀ b,lM b4 B0 b->b < A.n:=fun b hb=>hA b (hb.same (hkeep b4 a3))
  have hgev:a.eval g=.func (.func gf) #[] lb:=c0 ha hg
  -- what is kept of the loop's own blocks
  have nl:b4 ≠ A.n + 1:=by omega
  refine ⟨w.heap.size + 1,[mark w.heap.size],(w.alloc (.deferred (some []))).alloc (.loop (rec .ready none)),{ target:=.fn (.func gf) lb,args:=#[.func (.yield (w.heap.size + 1)) #[] #[]] },(w.alloc (.deferred (some []))).alloc (.loop (rec .ready none)),gf,
    #[.func (.yield (w.heap.size + 1)) #[] #[]] ++ lb,(w.alloc (.deferred (some []))).alloc (.loop (rec .ready none)),?_,?_,fun _ _=>trivial,?_,fun q=>(by cases q),?_⟩
  · rw [hrec];exact run_enterLoop_outer _ _ _ _ _
  · simp only [resolve,hgev]
    simp [go_sem]
  · have eg':=eg
    unfold eU at eg'
    simp [invoke,go_sem,eg']
  · rw [hsz]
    have ag:cD b4 M B0:=⟨hM.le.trans hleA,hM.wf,fun b hb=>hM.ow b (hb.same (hkeep b4 a3))⟩
    have hcall:=hiter (A.n + 1) (fun i C=>I i C/\C.get (A.n + 1)=some (.obj true (.loop (rec .ready none)))/\C.get A.n=some (.obj true (.deferred (some [])))/\¬ lM b4 C (A.n + 1)/\¬ lM b4 C A.n) B0 M hnB hleA v2.wf ag (fun i C h=>h.1)
      (fun i C C' h wf hn hk=>?_) ⟨ac,hgl,hgd,fun q=>by have:=a9 _ q;omega,fun q=>by have:=a9 _ q;omega⟩ ?_
    · refine (callsIn_wide.2 (hcall.2 _ v2)).mono ?_
      rintro en w' ⟨A',hv',hs',v,rfl,⟨⟨hIn,hgl',hgd',X,a0⟩,hwf',hM'⟩⟩
      obtain ⟨q1,_⟩:=hv'.obj hgl'
      obtain ⟨v3,s3⟩:=kS P (y:=.loop { rec .ready none with state:=.exhausted }) hv' hgl' (fun _ _ _ q=>by cases q)
      refine ⟨none,w'.putObj (A.n + 1) (.loop { rec .ready none with state:=.exhausted }),by
        have h7:=run_endLoop (P:=P) q1 (by rw [hrec];simp)
        have h8:(rec .ready none).pending=none:=by rw [hrec]
        exact h7.trans (congrArg (fun j=>Result.ok j _) h8),?_⟩
      have hl':=hwf' _ _ hgl'
      refine ⟨⟨e,mark A.n :: ds⟩,_,⟨ha.size,ha.slot,by show [mark _] ++ a.defers=_;rw [ha.ds];rfl⟩,v3,((s1.trans s2).trans hs').trans s3,?_,fun _ q=>by cases q⟩
      have hset:∀ b,b ≠ A.n + 1->(A'.set (A.n + 1) (.obj true (.loop { rec .ready none with state:=.exhausted }))).get b=A'.get b:=fun b hb=>AH.set_get_ne _ _ hb
      refine hK _ A.n (hI n A' _ hIn v3.wf (Nat.le_refl _) fun b o hb hgb=>?_) v3.wf (Nat.le_refl _) Ox ?_ ?_ ⟨⟨hM'.le.n,fun b o hb=>?_⟩,hM'.wf,fun b hb=>hM'.ow b (hb.same (hset b4 nl))⟩
      · rw [hset];exact hgb
        rintro rfl
        rcases hb with hb | hb
        · omega
        · exact X hb
      · rw [hset _ O];exact hgd'
      · exact fun q=>a0 (q.same (hset b4 nl))
      · have h1:=hM.le.get b o hb
        have h2:=wfA _ _ h1
        rw [hset _ O];exact hM'.le.get b o hb
    · obtain ⟨hIC,g1,g2,X,a0⟩:=h
      obtain ⟨v,cap,hr,_⟩:=hv i C hIC
      have e4:C'.get b4=C.get b4:=by rw [hr];exact hk b4 _ (.inr (.inl Z)) hr
      exact ⟨hI i C C' hIC wf hn (fun b o hb hgb=>hk b o (hb.imp (fun q=>by omega) id) hgb),hk _ _ (.inl O) g1,hk _ _ (.inl O) g2,fun q=>X (q.same e4),fun q=>a0 (q.same e4)⟩
    · rintro i C M' hi hwfC ⟨hIC,hgl',hgd',X,a0⟩ hMC w' hv'
      obtain ⟨q1,_⟩:=hv'.obj hgl'
      have hy:=run_yield (P:=P) (args:=(xs i).toArray) q1 (by rw [hrec];simpa using hps i)
      refine ⟨fn,_,assign,body,(by rw [hrec] at hy;exact hy),roundIn_of_wpIn trivial ?_⟩
      have hact:db nt ⟨xQ ps.toList (xs i) e,[]⟩ { tmps:=(ps.zip (xs i).toArray).foldl (fun t p=>t.setIfInBounds p.1 p.2) a.tmps,defers:=[] }:=by
        have:=rY (nt:=nt) (ps.toList.zip (xs i)) e a.tmps (fun p hp=>hpn _ (List.of_mem_zip hp).1) ⟨ha.size,ha.slot,rfl⟩
        rw [<- Array.foldl_toList,Array.toList_zip]
        exact this
      have ap:=hassign (FR (A.n + 1)) i C (pg _) hi _ w' hact hv'
      refine wpIn_mono ap ?_
      rintro x a1 w1 ⟨f1,C1,h1,h2,h3,h4,h5⟩
      cases x <;> (try exact h4.elim)
      obtain ⟨hE,hds,hleC,ar⟩:=h4
      obtain ⟨fe,fds⟩:=f1
      simp only at hE hds
      subst hds
      obtain ⟨vC,capC,gC,lC⟩:=hv i C hIC
      have owC:∀ b,lM b4 C b->b < C.n:=fun b hb=>by
        rcases hb.val gC with rfl | q
        · exact hwfC _ _ gC
        · obtain ⟨o,ho⟩:=lC b q;exact hwfC _ _ ho
      have ab:C1.get b4=C.get b4:=by rw [gC];exact hleC.get _ _ gC
      have a4:=hleC.get _ _ hgl'
      have aa:=hleC.get _ _ hgd'
      obtain ⟨q2,_⟩:=h2.obj a4
      obtain ⟨v4,s4⟩:=kS P (y:=.loop { rec .ready none with state:=.busy }) h2 a4 (fun _ _ _ q=>by cases q)
      refine ⟨_,run_beginRound q2 (by rw [hrec]),?_⟩
      have hl':=hwfC _ _ hgl'
      have hd':=hwfC _ _ hgd'
      have hnC:=hleC.n
      have hset:∀ b,b ≠ A.n + 1->(C1.set (A.n + 1) (.obj true (.loop { rec .ready none with state:=.busy }))).get b=C1.get b:=fun b hb=>AH.set_get_ne _ _ hb
      have hsetl:(C1.set (A.n + 1) (.obj true (.loop { rec .ready none with state:=.busy }))).get (A.n + 1)=some (.obj true (.loop { rec .ready none with state:=.busy })):=AH.set_get_same _ _ _
      have hsetn:(C1.set (A.n + 1) (.obj true (.loop { rec .ready none with state:=.busy }))).n=C1.n:=rfl
      generalize C1.set (A.n + 1) (.obj true (.loop { rec .ready none with state:=.busy }))=B1 at *
      have hIB:I i B1:=hI i C _ hIC v4.wf O fun b o hb hgb=>by
        rw [hset];exact hleC.get _ _ hgb
        rintro rfl
        rcases hb with hb | hb
        · omega
        · exact X hb
      have ai:∀ b,lM b4 B1 b->lM b4 C b:=fun b hb=>(hb.same (hset b4 nl)).same ab
      have hMs:cD b4 ⟨C.n,fun b=>if b=A.n + 1 then some (.obj true (.loop { rec .ready none with state:=.busy })) else if b=A.n then some (.obj true (.deferred (some []))) else M'.get b⟩ B1:=by
        refine ⟨⟨by show C.n<=B1.n;omega,fun b o hb=>?_⟩,fun b o hb=>?_,fun b hb=>?_⟩
        · simp only at hb
          split at hb
          · rename_i q;subst q;rw [hsetl];exact hb
          · rename_i q
            rw [hset b q]
            split at hb
            · rename_i q2;subst q2;rw [aa];exact hb
            · exact hleC.get _ _ (hMC.le.get b o hb)
        · simp only at hb
          split at hb
          · show b < C.n;omega
          · split at hb
            · show b < C.n;omega
            · exact hwfC b o (hMC.le.get b o hb)
        · have h6:=ai b hb
          simp only
          rw [if_neg (fun q:b=A.n + 1=>X (q ▸ h6)),if_neg (fun q:b=A.n=>a0 (q ▸ h6))]
          exact hMC.ow b h6
      have hb:=hbody (FR (A.n + 1)) i B1 _ (pg _) hi hIB v4.wf O hMs
      refine wpIn_mono (hb _ _ (db.le h1 hE) v4) ?_
      rintro x a2 w2 ⟨f2,A2,g1,g2,g3,g4,g5⟩
      cases x <;> (try exact g4.elim)
      obtain ⟨ad,av,V⟩:=g4
      have a7:A2.get (A.n + 1)=some (.obj true (.loop { rec .ready none with state:=.busy })):=V.le.get _ _ (if_pos Z)
      have a6:A2.get A.n=some (.obj true (.deferred (some []))):=V.le.get _ _ (by simp [show ¬ A.n=A.n + 1 by omega])
      have a5:¬ lM b4 A2 (A.n + 1):=fun q=>by have:=V.ow _ q;simp only [if_true] at this;cases this
      have a8:¬ lM b4 A2 A.n:=fun q=>by have:=V.ow _ q;simp [show ¬ A.n=A.n + 1 by omega] at this
      obtain ⟨q3,_⟩:=g2.obj a7
      obtain ⟨v5,s5⟩:=kS P (y:=.loop { ({ rec .ready none with state:=.busy }:Loop) with state:=.ready,pending:=none }) g2 a7 (fun _ _ _ q=>by cases q)
      refine ⟨_,_,run_endRound (P:=P) none q3,_,_,Z,v5,((h3.trans s4).trans g3).trans s5,Z,⟨?_,?_,?_,?_,?_⟩,v5.wf,?_⟩
      · exact hI (i + 1) A2 _ ad v5.wf (Nat.le_refl _) fun b o hb hgb=>by
          rw [AH.set_get_ne];exact hgb
          rintro rfl
          rcases hb with hb | hb
          · omega
          · exact a5 hb
      · rw [AH.set_get_same,hrec]
      · rw [AH.set_get_ne _ _ O];exact a6
      · exact fun q=>a5 (q.same (AH.set_get_ne _ _ nl))
      · exact fun q=>a8 (q.same (AH.set_get_ne _ _ nl))
      · refine ⟨⟨Nat.le_trans hMC.le.n (by have:=V.le.n;exact this),fun b o hb=>?_⟩,hMC.wf,fun b hb=>?_⟩
        · by_cases q:b=A.n + 1
          · subst q
            have h6:=hMC.le.get _ _ hb
            rw [hgl'] at h6
            rw [AH.set_get_same,<- h6,hrec]
          · rw [AH.set_get_ne _ _ q]
            by_cases q2:b=A.n
            · subst q2;rw [a6,<- hMC.le.get _ _ hb,hgd']
            · exact V.le.get b o (by simp only;rw [if_neg q,if_neg q2];exact hb)
        · have h6:lM b4 A2 b:=hb.same (AH.set_get_ne _ _ nl)
          have h7:=V.ow b h6
          simp only at h7
          rw [if_neg (fun q:b=A.n + 1=>a5 (q ▸ h6)),if_neg (fun q:b=A.n=>a8 (q ▸ h6))] at h7
          exact h7
end
end V
end Go.Proofs.YtjppkekmddjcfaaGreatDoor

namespace Go.Proofs.YtjppkekmddjcfaaGreatDoor
open Go Go.RowKit V
section
variable {lv:List Bool} {N:List (List Int)} {cls:List Int} {i j n:Nat} {o:Wd} {m:Int}
def qF (lv:List Bool) (N:List (List Int)) (cls:List Int) (i j:Nat):Wd:=ik (cls.getD i 0).toNat ++ ((N.getD i []).take j).flatMap (um lv cls)
theorem vU (hj:j < (N.getD i []).length):qF lv N cls i (j + 1)=qF lv N cls i j ++ um lv cls ((N.getD i []).getD j 0):=by
  rw [qF,<- fK (z:=(0:Int)) hj,List.flatMap_append,<- List.append_assoc]
  simp [qF]
theorem o7 (h:o=qF lv N cls i j) (hj:j < (N.getD i []).length) (q:j8 lv ((N.getD i []).getD j 0)=false):o ++ [32]=qF lv N cls i (j + 1):=by
  rw [vU hj,um,q,h];simp
theorem ul (h:o=qF lv N cls i j) (hj:j < (N.getD i []).length) (q:j8 lv ((N.getD i []).getD j 0)=true):o ++ [32] ++ ik (cls.getD ((N.getD i []).getD j 0).toNat 0).toNat=qF lv N cls i (j + 1):=by
  rw [vU hj,um,q,h,List.append_assoc];simp
theorem mR (h:¬ 0<=m):j8 lv m=false:=by rw [j8,decide_eq_false h];rfl
theorem rM (h:m < 0):j8 lv m=false:=mR O
theorem e8 (h:0<=m):j8 lv m=lv.getD m.toNat false:=by rw [j8,decide_eq_true h];rfl
theorem JV:(um lv cls m).length<=14:=by
  unfold um;split
  · have:=rE (cls.getD m.toNat 0).toNat;rw [List.length_cons];omega
  · simp
theorem JU:(qF lv N cls i j).length<=13 + 14 * j:=by
  have h1:=rE (cls.getD i 0).toNat
  have h2:∀ l:List Int,(l.flatMap (um lv cls)).length<=14 * l.length:=by
    intro l
    induction l with
    | nil=>simp
    | cons a l ih=>have:=JV (lv:=lv) (cls:=cls) (m:=a);rw [List.flatMap_cons,List.length_append,List.length_cons];omega
  have h3:=h2 ((N.getD i []).take j)
  have:((N.getD i []).take j).length<=j:=List.length_take_le _ _
  rw [qF,List.length_append];omega
theorem jb (h:lv.getD i false=false):nz lv N cls i=[45]:=by rw [nz,h];rfl
theorem vT (h:lv.getD i false=true) (hj:(N.getD i []).length=j):nz lv N cls i=qF lv N cls i j:=by
  rw [nz,if_pos h,qF,<- hj,List.take_length]
theorem FW (n:Nat):ik n ≠ []:=by
  unfold ik rF
  split
  · simp
  · simp
theorem PO {a b x y:Wd} (ha:∀ c ∈ a,c ≠ 32) (hb:∀ c ∈ b,c ≠ 32) (hx:x=[]\/∃ t,x=32 :: t) (hy:y=[]\/∃ t,y=32 :: t) (e:a ++ x=b ++ y):a=b/\x=y:=by
  induction a generalizing b with
  | nil =>
    cases b with
    | nil=>exact ⟨Z,e⟩
    | cons c b =>
      rcases hx with rfl | ⟨t,rfl⟩
      · simp at e
      · simp only [List.nil_append,List.cons_append,List.cons.injEq] at e
        exact absurd e.1.symm (hb c List.mem_cons_self)
  | cons c a ih =>
    cases b with
    | nil =>
      rcases hy with rfl | ⟨t,rfl⟩
      · simp at e
      · simp only [List.nil_append,List.cons_append,List.cons.injEq] at e
        exact absurd e.1 (ha c List.mem_cons_self)
    | cons d b =>
      simp only [List.cons_append,List.cons.injEq] at e
      obtain ⟨h1,h2⟩:=ih (fun c hc=>ha c (List.mem_cons_of_mem _ hc)) (fun c hc=>hb c (List.mem_cons_of_mem _ hc)) e.2
      exact ⟨by rw [e.1,h1],h2⟩
theorem vL (l:List Int):l.flatMap (um lv cls)=[]\/∃ t,l.flatMap (um lv cls)=32 :: t:=by
  cases l with
  | nil=>exact .inl Z
  | cons a l=>right;rw [List.flatMap_cons,um];exact ⟨_,Z⟩
theorem JT (hcl:cls.length=n) (hcr:∀ c ∈ cls,0<=c/\c < (n:Int)) (hn:n<=100000) (hd:∀ i j,i < n->j < n->lv.getD i false=false->lv.getD j false=false->cls.getD i 0=cls.getD j 0) (i j:Nat) (hi:i < n) (hj:j < n) (h:nz lv N cls i=nz lv N cls j):cls.getD i 0=cls.getD j 0:=by
  have hm:∀ i,(∃ t,ik (cls.getD i 0).toNat ++ t=[45])->False:=fun i ⟨t,z⟩=>by
    have h1:=s8 13 (cls.getD i 0).toNat
    cases hf:ik (cls.getD i 0).toNat with
    | nil=>exact FW _ hf
    | cons c l =>
      rw [hf] at z
      simp only [List.cons_append,List.cons.injEq] at z
      exact (h1 c (by show c ∈ ik _;rw [hf];exact List.mem_cons_self)).2 z.1
  cases hli:lv.getD i false with
  | false =>
    cases hlj:lv.getD j false with
    | false=>exact hd i j hi hj hli hlj
    | true=>rw [jb hli,nz,if_pos hlj] at h;exact absurd ⟨_,h.symm⟩ (hm j)
  | true =>
    cases hlj:lv.getD j false with
    | false=>rw [jb hlj,nz,if_pos hli] at h;exact absurd ⟨_,h⟩ (hm i)
    | true =>
      rw [nz,nz,if_pos hli,if_pos hlj] at h
      have h1:=hcr _ (bx (d:=(0:Int)) (show i < cls.length by omega))
      have h2:=hcr _ (bx (d:=(0:Int)) (show j < cls.length by omega))
      have:=(PO (fun c hc=>(s8 13 _ c hc).1) (fun c hc=>(s8 13 _ c hc).1) (vL _) (vL _) h).1
      have:=FU O O this
      omega
def yn (lv:List Bool) (n:Nat) (cls:List Int):Prop:=∀ i j,i < n->j < n->lv.getD i false=false->lv.getD j false=false->cls.getD i 0=cls.getD j 0
theorem zG {K:Type} (f:Nat->K) (d:K) (hi:i < n):((List.range n).map f).getD i d=f i:=by simp [List.getD_eq_getElem?_getD,hi]
theorem vI {K:Type} [DecidableEq K] (f:Nat->K) (d:K) (h:∀ i j,i < n->j < n->lv.getD i false=false->lv.getD j false=false->f i=f j):yn lv n (cl ((List.range n).map f)).1:=fun i j hi hj h1 h2 =>
  (xE _ (d:=d) (by simpa using hi) (by simpa using hj)).2 (by rw [zG f d hi,zG f d hj];exact h i j hi hj h1 h2)
end
section
variable {n k:Nat} {lv:List Bool} {N:List (List Int)} {cls:List Int} {c m:Int} {x i:Nat}
theorem tM (key:List Int->Nat->Wd):∀ (f count:Nat) (cls:List Int),cls.length=n->(∀ c ∈ cls,0<=c/\c < (n:Int))->(k5 n key f count cls).length=n/\∀ c ∈ k5 n key f count cls,0<=c/\c < (n:Int)
  | 0,_,cls,h1,h2=>⟨h1,h2⟩
  | f + 1,count,cls,h1,h2=>by
    obtain ⟨g1,g2,_,_⟩:=qg.of (n:=n) (l:=(List.range n).map (key cls)) (cls:=(cl ((List.range n).map (key cls))).1) (Q:=(cl ((List.range n).map (key cls))).2) (by simp) Z
    unfold k5;split
    · exact ⟨g1,g2⟩
    · exact tM key f _ _ g1 g2
theorem Nw (st:Nat->Bool × Bool) (key:List Int->Nat->Wd):(yC n st key).length=n/\∀ c ∈ yC n st key,0<=c/\c < (n:Int):=by
  obtain ⟨g1,g2,_,_⟩:=qg.of (n:=n) (l:=(List.range n).map st) (cls:=(cl ((List.range n).map st)).1) (Q:=(cl ((List.range n).map st)).2) (by simp) Z
  exact tM key _ _ _ g1 g2
theorem DH {acc:List Bool}:(w8 acc lv N).length=N.length/\∀ c ∈ w8 acc lv N,0<=c/\c < (N.length:Int):=Nw _ _
theorem xy (h:c ∈ cls):jq cls c < cls.length:=List.idxOf_lt_length_iff.2 h
theorem rQ (h:j8 lv ((N.getD (jq cls c) []).getD x 0)=false):js lv N cls c x=none:=by
  rw [js,show gR N (jq cls c) x=(N.getD (jq cls c) []).getD x 0 from rfl,h];rfl
theorem xO (h:j8 lv ((N.getD (jq cls c) []).getD x 0)=true):js lv N cls c x=some (cls.getD ((N.getD (jq cls c) []).getD x 0).toNat 0):=by
  rw [js,show gR N (jq cls c) x=(N.getD (jq cls c) []).getD x 0 from rfl,if_pos h]
structure pt (cls:List Int) (i:Nat) (E:List (Int × Value)):Prop where
  nd:(E.map (·.1)).Nodup
  is:∀ c,lk E c=if c ∈ cls.take i then some (num ((jq cls c:Nat):Int)) else none
variable {E:List (Int × Value)}
theorem pt.start:pt cls 0 []:=⟨List.nodup_nil,fun c=>by simp [lk]⟩
theorem pt.in_ (h:pt cls i E) {v:Value} (q:lk E c=some v):c ∈ cls.take i:=by
  rw [h.is] at q;split at q
  · assumption
  · cases q
theorem pt.no_ (h:pt cls i E) (q:lk E c=none):c ∉ cls.take i:=fun z=>by rw [h.is,if_pos z] at q;cases q
theorem oM (hi:i < cls.length):c ∈ cls.take (i + 1) ↔ c ∈ cls.take i\/c=cls.getD i 0:=by
  rw [<- fK (z:=(0:Int)) hi,List.mem_append,List.mem_singleton]
theorem pt.old (h:pt cls i E) (hi:i < cls.length) (q:cls.getD i 0 ∈ cls.take i):pt cls (i + 1) E:=⟨h.nd,fun c=>by
  rw [h.is]
  by_cases z:c ∈ cls.take i
  · rw [if_pos z,if_pos ((oM hi).2 (.inl z))]
  · rw [if_neg z,if_neg fun w=>((oM hi).1 w).elim z fun e=>z (e ▸ q)]⟩
theorem pt.new (h:pt cls i E) (hi:i < cls.length) (q:cls.getD i 0 ∉ cls.take i):pt cls (i + 1) (wI E (cls.getD i 0) (num ((i:Nat):Int))):=by
  have hk:lk E (cls.getD i 0)=none:=by rw [h.is,if_neg q]
  have hn:cls.getD i 0 ∉ E.map (·.1):=xw.1 hk
  rw [tm hn]
  have hm:jq cls (cls.getD i 0)=i:=by
    have e:cls=cls.take i ++ cls.drop i:=(List.take_append_drop i cls).symm
    have e2:cls.drop i=cls.getD i 0 :: cls.drop (i + 1):=n5 hi
    rw [jq]
    conv=>lhs;arg 2;rw [e]
    rw [List.idxOf_append,if_neg q,e2,List.idxOf_cons_self,List.length_take];omega
  refine ⟨?_,fun c=>?_⟩
  · rw [List.map_append,List.map_cons,List.map_nil]
    exact List.nodup_append.2 ⟨h.nd,by simp,by intro a ha b hb;rw [List.mem_singleton] at hb;subst hb;intro e;rw [show a=cls.getD i 0 from e] at ha;exact hn ha⟩
  · by_cases z:c=cls.getD i 0
    · subst z
      rw [if_pos ((oM hi).2 (.inr Z)),hm]
      simp only [lk,List.find?_append]
      have:E.find? (fun p=>decide (p.1=cls.getD i 0))=none:=by
        cases w:E.find? (fun p=>decide (p.1=cls.getD i 0)) with
        | none=>rfl
        | some p=>simp only [lk,w] at hk;cases hk
      rw [this];simp
    · have e1:lk (E ++ [(cls.getD i 0,num ((i:Nat):Int))]) c=lk E c:=by
        simp only [lk,List.find?_append,List.find?_cons,decide_eq_false (show ¬ cls.getD i 0=c from fun e=>z e.symm),List.find?_nil,Option.or_none]
      rw [e1,h.is]
      by_cases w:c ∈ cls.take i
      · rw [if_pos w,if_pos ((oM hi).2 (.inl w))]
      · rw [if_neg w,if_neg fun v=>((oM hi).1 v).elim w z]
def ro (A:AH) (bp:Nat) (cls:List Int):Prop:=∃ w cap mm w2 es ck,∃ E:List (Int × Value),A.get bp=some (.row w [.map (some mm)] cap)/\A.get mm=some (.obj w2 (.map es ck))/\dC num es E/\∀ c ∈ cls,lk E c=some (num ((jq cls c:Nat):Int))
theorem ro.le {A B:AH} {bp:Nat} (h:ro A bp cls) (le:A.le B):ro B bp cls:=by
  obtain ⟨w,cap,mm,w2,es,ck,E,h1,h2,h3,h4⟩:=h
  exact ⟨w,cap,mm,w2,es,ck,E,le.get _ _ h1,le.get _ _ h2,h3,h4⟩
theorem pt.all (h:pt cls i E) (hi:cls.length<=i):∀ c ∈ cls,lk E c=some (num ((jq cls c:Nat):Int)):=fun c hc=>by
  rw [h.is,List.take_of_length_le hi,if_pos hc]
theorem AJ {P:Program} {e:gv} {A:AH} {x y:Operand} {t kt et:TypeId} {ty:TypeId} {ps:String} {af:Array Edge} {dst:Option Nat} {Q:Value->AH->Prop} {Kp:List PanicEntry->AH->Prop} {g:Option (Nat × Bool)} {m clock:Nat} {es:Array MapEntry} {E:List (Int × Value)} {k:Int} {v zv:Value} {rw:Bool}
    (hx:bZ e x=some (.map (some m))) (hy:bZ e y=some (num k)) (hu:P.underlying t=some (.map kt et)) (hk:P.underlying kt=some (.int .i64)) (hz:cO P et=some zv) (hg:A.get m=some (.obj rw (.map es clock))) (hE:dC num es E) (hv:lk E k=some v)
    (h:Q v A):j6 P e A { dst:=dst,op:=.lookup t x y false,type:=ty,pos:=ps,after:=af,guard:=g } Q Kp:=o0 rJ hx hy hu hk hz hg hE (by rw [hv];exact h)
def jR (l:List Bool) (Q:List Int):List Bool:=Q.foldl (fun l s=>l.set s.toNat true) l
theorem mh:∀ (Q:List Int) (l:List Bool),(jR l Q).length=l.length
  | [],_=>rfl
  | q :: Q,l=>by rw [jR,List.foldl_cons];exact (mh Q _).trans (by simp)
theorem Cl (l:List Bool) (Q:List Int) (q:Int):jR l (Q ++ [q])=(jR l Q).set q.toNat true:=by simp [jR]
theorem zl:∀ (Q:List Int) (l:List Bool),(∀ q ∈ Q,0<=q/\q < (l.length:Int))->∀ i,i < l.length->(jR l Q).getD i false=(l.getD i false || decide ((i:Int) ∈ Q))
  | [],l,_,i,hi=>by simp [jR]
  | q :: Q,l,h,i,hi=>by
    have hq:=h q List.mem_cons_self
    rw [jR,List.foldl_cons]
    show (jR (l.set q.toNat true) Q).getD i false=_
    rw [zl Q _ (fun p hp=>by rw [List.length_set];exact h p (List.mem_cons_of_mem _ hp)) i (by simpa using hi),d4 O]
    by_cases e:i=q.toNat
    · rw [if_pos e,decide_eq_true (show (i:Int) ∈ q :: Q from by rw [List.mem_cons];left;omega)];simp
    · rw [if_neg e];congr 1
      rw [decide_eq_decide,List.mem_cons]
      exact ⟨.inr,fun z=>z.elim (fun z=>absurd O e) id⟩
end
theorem zj {acc:List Bool} {N:List (List Int)} (hal:acc.length=N.length):∀ q ∈ gh acc N,0<=q/\q < (N.length:Int):=by
  suffices h:∀ (f i:Nat) (Q:List Int),(∀ q ∈ Q,0<=q/\q < (N.length:Int))->∀ q ∈ jp (dH N) f i Q,0<=q/\q < (N.length:Int) by
    exact h _ _ _ fun q hq=>by obtain ⟨s,h1,_,h3⟩:=tr.1 hq;omega
  intro f
  induction f with
  | zero=>intro i Q h;exact h
  | succ f ih =>
    intro i Q h
    unfold jp;split
    · refine ih _ _ ?_
      have:∀ (P Q:List Int),(∀ p ∈ P,0<=p/\p < (N.length:Int))->(∀ q ∈ Q,0<=q/\q < (N.length:Int))->∀ q ∈ P.foldl iK Q,0<=q/\q < (N.length:Int):=by
        intro P
        induction P with
        | nil=>intro Q _ h;exact h
        | cons p P ih =>
          intro Q hP hQ
          rw [List.foldl_cons]
          refine ih _ (fun x hx=>hP x (List.mem_cons_of_mem _ hx)) ?_
          unfold iK;split
          · exact hQ
          · exact pb hQ (hP p List.mem_cons_self)
      refine this _ _ (fun p hp=>?_) h
      obtain ⟨_,s,h2,h3,_⟩:=zm.1 hp
      omega
    · exact h
theorem Gt {acc:List Bool} {N:List (List Int)} (hal:acc.length=N.length):jR (List.replicate acc.length false) (gh acc N)=iJ acc N:=by
  apply List.ext_getElem
  · rw [mh];simp [iJ]
  · intro i h1 h2
    rw [mh,List.length_replicate] at h1
    have:=zl (gh acc N) (List.replicate acc.length false) (fun q hq=>by have:=zj hal q hq;simp;omega) i (by simpa using h1)
    rw [gd (by rw [mh];simpa using h1)] at this
    rw [this]
    simp [iJ,h1]
theorem Gk {acc:List Bool} {N:List (List Int)}:(iJ acc N).length=acc.length:=by simp [iJ]
theorem Gu {l:List Bool} {Q:List Int} {k:Nat} (hk:k < Q.length):(jR l (Q.take k)).set (Q.getD k 0).toNat true=jR l (Q.take (k + 1)):=by
  rw [<- fK (z:=(0:Int)) hk,Cl]
theorem uc {k:Nat} {step:Int->Nat->Option Int} {D:Int->Prop} (hDs:∀ q c t,D q->c < k->step q c=some t->D t) {q:Int} (hq:D q):∀ (l:List Nat) (r:List Int × List Int),(∀ c ∈ l,c < k)->r.2.Nodup->(∀ q ∈ r.2,D q)->(l.foldl (gk step q) r).2.Nodup/\∀ q' ∈ (l.foldl (gk step q) r).2,D q'
  | [],r,_,h1,h2=>⟨h1,h2⟩
  | c :: l,r,hl,h1,h2=>by
    rw [List.foldl_cons]
    refine uc hDs hq l _ (fun c hc=>hl c (List.mem_cons_of_mem _ hc)) ?_ ?_
    · unfold gk;split
      · exact h1
      · split
        · exact h1
        · exact oh h1 ‹_›
    · unfold gk;split
      · exact h2
      · split
        · exact h2
        · exact pb h2 (hDs q c _ hq (hl c List.mem_cons_self) ‹_›)
theorem rA {k:Nat} {step:Int->Nat->Option Int} {D:Int->Prop} (hDs:∀ q c t,D q->c < k->step q c=some t->D t):∀ (f i:Nat) (Q:List Int) (R:List (List Int)),Q.Nodup->(∀ q ∈ Q,D q)->(fG k step f i Q R).1.Nodup/\∀ q ∈ (fG k step f i Q R).1,D q
  | 0,_,_,_,h1,h2=>⟨h1,h2⟩
  | f + 1,i,Q,R,h1,h2=>by
    unfold fG;split
    · rename_i hi
      obtain ⟨g1,g2⟩:=uc hDs (h2 _ (bx (d:=(0:Int)) hi)) (List.range k) ([],Q) (fun c hc=>List.mem_range.1 hc) h1 h2
      exact rA hDs f _ _ _ g1 g2
    · exact ⟨h1,h2⟩
theorem sk {N:Nat} {Q:List Int} (hn:Q.Nodup) (hQ:∀ q ∈ Q,0<=q/\q < (N:Int)):Q.length<=N:=by
  have:=pc (l:=Q.map Int.toNat) (n:=N) ?_ ?_
  · simpa using this
  · rw [List.nodup_iff_pairwise_ne,List.pairwise_map]
    exact List.Pairwise.imp_of_mem (fun {a c} ha hc hac e=>hac (by have:=hQ a ha;have:=hQ c hc;omega)) hn
  · intro x hx
    obtain ⟨a,ha,rfl⟩:=List.mem_map.1 hx
    have:=hQ a ha;omega
theorem KU {k:Nat} {acc:List Bool} {N:List (List Int)} {lv:List Bool} {cls:List Int} (hok:AO k acc N) (hcl:cls.length=N.length) (q:Int) (c:Nat) (t:Int) (hq:q ∈ cls) (hc:c < k) (h:js lv N cls q c=some t):t ∈ cls:=by
  have hm:=xy hq
  have hv:=hok.val (jq cls q) c O hc
  unfold js at h;split at h
  · rename_i hl
    cases h
    have:0<=gR N (jq cls q) c:=by
      rw [j8] at hl
      simp only [Bool.and_eq_true,decide_eq_true_eq] at hl;exact hl.1
    exact bx O
  · cases h
theorem Jh {k:Nat} {acc:List Bool} {N:List (List Int)} (hok:AO k acc N) (hN:0 < N.length):(Bn k acc N).1.length<=N.length:=by
  have hc:=DH (lv:=iJ acc N) (N:=N) (acc:=acc)
  obtain ⟨g1,g2⟩:=rA (D:=fun q=>q ∈ w8 acc (iJ acc N) N) (fun q c t=>KU (lv:=iJ acc N) hok hc.1 q c t) (N.length + 1) 0 [(w8 acc (iJ acc N) N).getD 0 0] [] (by simp) (fun q hq=>by
    rw [List.mem_singleton] at hq;subst hq;exact bx (by rw [hc.1];exact hN))
  exact sk g1 fun q hq=>hc.2 q (g2 q hq)
theorem sX {k:Nat} {acc:List Bool} {N:List (List Int)} (h:(iJ acc N).getD 0 false=false):wW k acc N=([],[]):=by rw [wW,h];rfl
theorem yB {k:Nat} {acc:List Bool} {N:List (List Int)} (h:(iJ acc N).getD 0 false=true):wW k acc N=((Bn k acc N).1.map fun c=>acc.getD (jq (w8 acc (iJ acc N) N) c) false,(Bn k acc N).2):=by rw [wW,if_pos h]
theorem wa {l:List Bool} (h:l.length=0):l.getD 0 false=false:=by rw [List.length_eq_zero_iff.1 h];rfl
theorem Ng {N:List (List Int)} {n:Nat} (hn:n<=100000) (lv:List Bool) (cls:List Int) (h1:cls.length=n) (h2:∀ c ∈ cls,0<=c/\c < (n:Int)) (h3:yn lv n cls) (i j:Nat) (hi:i < n) (hj:j < n) (h:nz lv N cls i=nz lv N cls j):cls.getD i 0=cls.getD j 0 :=
  JT h1 h2 hn h3 i j hi hj h
theorem Fu {acc:List Bool} {n:Nat} (lv:List Bool) (hl:∀ i,i < n->lv.getD i false=false->acc.getD i false=false):yn lv n (cl ((List.range n).map (RU acc lv))).1 :=
  vI (RU acc lv) (false,false) fun i j hi hj h1 h2=>by simp only [RU];rw [h1,h2,hl i hi h1,hl j hj h2]
theorem Fw {N:List (List Int)} {n:Nat} (lv:List Bool) (cls:List Int):yn lv n (cl ((List.range n).map (nz lv N cls))).1 :=
  vI (nz lv N cls) [] fun i j hi hj h1 h2=>by rw [jb h1,jb h2]
theorem JZ {acc:List Bool} {N:List (List Int)} (i:Nat) (hi:i < acc.length) (h:(iJ acc N).getD i false=false):acc.getD i false=false:=by
  cases q:acc.getD i false with
  | false=>rfl
  | true =>
    have h1:(i:Int) ∈ gh acc N:=(mS (B:=dH N) (N.length + 1) 0 (pw acc acc.length)).subset (tr.2 ⟨i,hi,q,rfl⟩)
    simp [iJ,hi,h1] at h
end Go.Proofs.YtjppkekmddjcfaaGreatDoor

namespace Go.Proofs.YtjppkekmddjcfaaGreatDoor
open Go Go.RowKit V
set_option maxRecDepth 100000
set_option maxHeartbeats 4000000
theorem DB:dF Tryz.prog 222=some false:=by kernel_rfl
theorem xj:eb Tryz.prog 213 0=some (3,0):=by kernel_rfl
theorem Ks:dq Tryz.prog 62=some [(0,1),(1,1),(2,1),(3,1)]:=by kernel_rfl
theorem Tl:du Tryz.prog 222=some 1:=by kernel_rfl
theorem Ue:type_of% @Tryz.underlying218:=@Tryz.underlying218
theorem Tv:type_of% @Tryz.underlying62:=@Tryz.underlying62
theorem Um:cO Tryz.prog 222=some (.map none):=by kernel_rfl
theorem UH:cO Tryz.prog 59=some (.slice none 0 0):=by kernel_rfl
theorem IU:cO Tryz.prog 62=some (.agg #[.int .i64 0,.int .i64 0,.slice none 0 0,.slice none 0 0]):=by kernel_rfl

theorem Ew (u:Value) (o:List UInt8) (m:Int) (A0 A:AH) (h:A0.le A) (D:A0.wf) (hu:Fresh A0 A u 1 (aw o)) (ho:o.length<=100000000000) (hm:0<=m/\m<=1000000):bG Tryz.prog 184 #[u,num m,num ((36:Nat):Int)] A (fun v A1=>A0.le A1/\A1.wf/\Fresh A0 A1 v 1 (aw (o ++ ik m.toNat))):=by
 obtain ⟨n,rfl⟩:∃ n:Nat,m=n:=⟨m.toNat,by omega⟩;exact RA u o n A0 A h D hu ho O

theorem RE (i:Nat) (bl bm kl km:Nat) (wl wm:Bool) (lv:Value) (live:List Bool) (b:Nat) (rwb:Bool) (capb k:Nat) (av nv fv bv:Value) (acc:List Bool) (N:List (List Int)) (rows:List Value) (A:AH) (gl:A.get bl=some (.row wl [lv] kl)) (gm:A.get bm=some (.row wm [.pointer (some ⟨b,0,none⟩)] km)) (hlv:bJ A 1 lv (cq live)) (hll:live.length=N.length) (hok:AO k acc N) (hb:A.get b=some (.row rwb [num (k:Int),av,nv,fv,bv] capb)) (hav:bJ A 1 av (cq acc)) (hnv:bJ A 1 nv (em rows)) (hrl:rows.length=N.length) (hF:∀ i,i < N.length->bJ A 1 (rows.getD i undef) (c9 (N.getD i []))) (hi:i < N.length):bG Tryz.prog 182 #[num ((i:Nat):Int),.pointer (some ⟨bl,0,none⟩),.pointer (some ⟨bm,0,none⟩)] A (fun v A1=>v=iY (RU acc live i)/\A.le A1/\A1.wf):=by
 refine yl Tryz.call182 Tryz.func182 Z Tryz.results182 Tryz.ntmps182 Z (fun wf=>?_);have a0:=AH.le.refl A;obtain ⟨⟨aC,aD⟩,hal,hnl,hrow,hval⟩:=hok;refine ao.seq fun _ h2=>.region<|.l Z (fun _ _ a9 _=>ca wf Sd rfl fun A5 b4 V=>?_);have X:=aL wf (Nat.le_trans a0.n V.lo);have h:=a0.trans V.le;refine a9 _ _<|.nil<|h2 _ _<|.seq fun _ h9=>.drawn [0,1,2,3,4,5,6,7,8,9,10,11,12] mixed Y Y Z<|.q Z Z Z (ak iu Z Z (h.get _ _ gl) Z)<|.q Z Z Z (ae Z) ?_;obtain ⟨ay,aA,ap,aP,ag,aG,aE,a5,aa,a7,ac,a1⟩:=bJ.at (i:=i) (hlv.le h) Oi O;refine bj.q Z Z Z (aJ kR lJ Z a5 Z aa)<|.q Z Z Z (ak vm Z Z a7 ((dh a1).trans (ek O)))<|.q Z Z Z (ak lS Z Z (h.get _ _ gm) Z)<|.q Z Z Z (c8 Z)<|.q Z Z Z (aj jm iB U Z)<|.q Z Z Z (ak iu Z Z (h.get _ _ hb) Z)<|.q Z Z Z (ae Z) ?_;obtain ⟨az,aB,ar,aR,ai,aI,aF,a6,ab,a8,ad,a2⟩:=bJ.at (i:=i) (hav.le h) Oi O;refine bj.q Z Z Z (aJ kR lJ Z a6 Z ab)<|.q Z Z Z (ak vm Z Z a8 ((dh a2).trans (ek O)))<|.q Z Z Z (cR Z (mD Ue Sd lJ Z))<|.l Z Z Z (fun _ _ a3 _=>aM (cs:=[.bool (live.getD i false),.bool (acc.getD i false)]) (c':=[.bool (live.getD i false),.bool (acc.getD i false)]) V.wf rfl rfl rfl rfl An V.get (Nat.le_of_ble_eq_true rfl) rfl rfl fun A18 D=>?_);have a4:=al h wf X D.n D.keep;refine a3 _ _ (aO.none Y)<|.done<|h9 _ _<|.ret ?_;repeat first | with_reducible refine bE ?_ | with_reducible refine bk ?_
 exact be (dE Jd An Z D.get Z eh) (⟨Z,a4,D.wf⟩)

theorem RF (i:Nat) (cls:List Int) (cv:Value) (bl bm kl km:Nat) (wl wm:Bool) (lv:Value) (live:List Bool) (b:Nat) (rwb:Bool) (capb k:Nat) (av nv fv bv:Value) (acc:List Bool) (N:List (List Int)) (rows:List Value) (A:AH) (gl:A.get bl=some (.row wl [lv] kl)) (gm:A.get bm=some (.row wm [.pointer (some ⟨b,0,none⟩)] km)) (hlv:bJ A 1 lv (cq live)) (hll:live.length=N.length) (hok:AO k acc N) (hb:A.get b=some (.row rwb [num (k:Int),av,nv,fv,bv] capb)) (hav:bJ A 1 av (cq acc)) (hnv:bJ A 1 nv (em rows)) (hrl:rows.length=N.length) (hF:∀ i,i < N.length->bJ A 1 (rows.getD i undef) (c9 (N.getD i []))) (hi:i < N.length) (hcv:bJ A 1 cv (c9 cls)) (hcl:cls.length=N.length) (hcr:∀ c ∈ cls,0<=c/\c < (N.length:Int))  : bG Tryz.prog 183 #[cv,num ((i:Nat):Int),.pointer (some ⟨bl,0,none⟩),.pointer (some ⟨bm,0,none⟩)] A (fun v A1=>v=aX (nz live N cls i)/\A.le A1/\A1.wf):=by
 refine Uq Tryz.call183 Tryz.func183 Z Tryz.results183 Tryz.ntmps183 Z (fun wf=>?_);have a3:=AH.le.refl A;obtain ⟨⟨dj,dk⟩,hal,hnl,hrow,hval⟩:=hok;have hri:=hrow i hi;have hci:=hcr _ (bx (d:=(0:Int)) (show i < cls.length by omega));refine ao.seq fun _ h2=>.region<|.q Z (ah Z)<|.nil<|h2 _ _<|.seq fun _ h4=>.seq fun _ h6=>.region<|.q Z (ak iu Z Z (a3.get _ _ gl) Z)<|.q Z (ae Z) ?_;obtain ⟨b7,f7,e3,r7,e2,n7,k7,e7,l7,g7,d0,aT⟩:=bJ.at (i:=i) (hlv.le a3) Oi O;refine Ops.q Z (aJ kR lJ Z e7 Z l7)<|.q Z (ak vm Z Z g7 ((dh aT).trans (ek O)))<|.q Z (eE Z)<|.nil<|h6 _ _<|.ifB Z (fun p8=>?_) (fun p8=>?_)
 ·refine ao.seq fun _ b9=>.region<|.q Z (ah Z)<|.nil<|b9 _ _<|.rt (by exact be Z (⟨by first | (rw [jb ‹_›];rfl) | (rw [jb (by simpa using ‹(!live.getD i false)=true›)];rfl) | (rw [vT (by simpa using ‹(!live.getD i false)=false›) (show (N.getD i []).length=j by omega),<- ho];rfl),a3,wf⟩))
 refine ao.skip<|h4 _ _<|.seq fun _ ba=>.region<|.q Z (ae Z)<|.q Z (ae Z) ?_;obtain ⟨cP,d1,cB,dV,cc,dI,dv,aV,bB,b2,bY,ar⟩:=bJ.at (i:=i) (hcv.le a3) O3 O;refine Ops.q Z (aJ er dx Z aV Z bB)<|.q Z (ak fj Z Z b2 ((dh ar).trans (df O))) ?_;have ab:=cg (bs:=[blk (.slice none 0 0)]) a3 (sj (Fresh.nil A A 1).lo nf);refine Ops.l Z (fun _ _ aE _=>aK Z (Ew (.slice none 0 0) ([]) (cls.getD i 0) (A.hide [blk (.slice none 0 0)]) A (cM A [blk (.slice none 0 0)]) (cr wf) ((Fresh.nil A A 1).hide (by simp)) Oy (by (try have:=hcm (by have:=hva O;omega));omega)) ?_);rintro bS A17 ⟨ag,bU,a7⟩;have aC:=a7.base ab;have V:=ab.trans ag;refine aE _ _<|.q Z (ah Z)<|.nil<|ba _ _<|.seq fun _ bb=>.seq fun _ bc=>.region<|.q Z (ak lS Z Z (V.get _ _ gm) Z)<|.q Z (c8 Z)<|.q Z (aj o6 iQ U Z) ?_;refine Ops.q Z (ak jN Z Z (V.get _ _ hb) Z)<|.q Z (ae Z) ?_;obtain ⟨cS,d2,cC,dW,cf,dJ,dw,aY,bC,b3,c3,ay⟩:=bJ.at (i:=i) (hnv.le V) Ok O;refine Ops.q Z (aJ m5 fC Z aY Z bC)<|.q Z (ak kW Z Z b3 ((dh ay).trans (eH O)))<|.q Z (bH (n:=((N.getD i [])).length) er Z ((hF i O).le V) O (eB _))<|.q Z (ae Z)<|.nil<|bc _ _<|.block<|.loop (X:=Nat × List UInt8 × Value) (fun ⟨j,o,kv⟩=>[(0,cv),(2,.pointer (some ⟨bl,0,none⟩)),(7,kv),(26,rows.getD i undef),(27,num ((((N.getD i [])).length:Nat):Int)),(28,num ((j:Nat):Int))]) (fun ⟨j,o,kv⟩ B=>(j<=k/\o=qF live N cls i j)/\A.le B/\Fresh A B kv 1 (aw o)) (fun ⟨j,o,kv⟩=>k - j) (⟨0,([]) ++ ik (cls.getD i 0).toNat,bS⟩) (DR Z Z Z Z Z Z) (⟨⟨Nat.zero_le _,by simp [qF]⟩,V,aC⟩) ?_;rintro ⟨j,o,kv⟩ B28 ⟨⟨hj,ho⟩,a5,a0⟩;refine ao.wf fun ad=>?_;have hlo:o.length<=13 + 14 * j:=by rw [ho];exact JU
 have hva:=fun q:j < k=>hval i j hi q;simp only [gR] at hva;have hcm:=fun q:((N.getD i []).getD j 0).toNat < cls.length=>hcr _ (bx (d:=(0:Int)) q);refine ao.seq fun _ bd=>.region<|.q Z (cA Z Z)<|.nil<|bd _ _<|.seq fun _ bp=>.if rfl (fun bO=>?_) (fun bO=>?_)
 ·refine ao.skip<|bp _ _<|.seq fun _ aa=>.block<|.seq fun _ br=>.region ?_;obtain ⟨cU,d3,cF,dZ,ch,dK,dz,aZ,bD,b5,c4,az⟩:=bJ.at (i:=j) ((hF i O).le a5) O3 O;refine Ops.q Z (aJ er dx Z aZ Z bD)<|.q Z (ak fj Z Z b5 ((dh az).trans (df O)))<|.q Z (ah Z)<|.nil<|br _ _<|.seq fun _ bu=>.region<|.q Z (ae Z)<|.l Z (fun _ _ aF _=>aN (c:=[fA (32)]) ad rfl (ax eo nI z5 rfl U U rfl) fun A44 cV a6=>?_);have a9:=a0.le a6.le;have aR:=a5.trans a6.le;refine aF _ _<|.l Z (fun _ _ aG _=>cJ (ys:=[fA (32)]) rfl rfl eo nI zc z5 rfl U eo (fun _ h=>by cases h) a9.own (bW (n:=1) a6.get Z) rfl rfl (by show (_ + _) * 1<=_;simp only [bn,List.length_cons,List.length_nil];(try simp only [List.length_append,List.length_cons,List.length_nil]);omega) Of fun A50 a1 a4=>?_);rw [show ([fA (32)]:List Value)=aw [32] from rfl,iw] at a4;obtain ⟨a2,D⟩:=Fresh.grow a9 aR wf a4;refine aG _ _<|.q Z (ah Z)<|.nil<|bu _ _<|.seq fun _ ap=>.region<|.q Z (ae Z)<|.q Z (pz Z Z)<|.q Z (ae Z)<|.part (t:=37) Z (fun bP=>?_) (fun bP=>?_)
  ·refine Ops.on Z Z<|.q Z (ak iu Z Z (D.get _ _ gl) Z)<|.on Z Z<|.q Z (ae Z)<|.on Z Z ?_;obtain ⟨cX,dd,cH,e0,ck,dO,dD,b0,bL,b6,c7,aA⟩:=bJ.at (i:=(((N.getD i [])).getD j 0).toNat) (hlv.le D) (by simp only [bz];have:=hva O;omega) O;refine Ops.q Z (aJ kR lJ Z b0 (jr (by have:=hva O;omega)) bL)<|.on Z Z<|.q Z (ak vm Z Z b6 ((dh aA).trans (ek (by have:=hva O;omega))))<|.q Z (bi Z Z)<|.nil<|ap _ _<|.ifB Z (fun bR=>?_) (fun bR=>?_)
   ·refine ao.region<|.q Z (ae Z)<|.q Z (ae Z)<|.q Z (ae Z) ?_;obtain ⟨cZ,di,cK,e1,cu,dS,dG,b1,bM,b8,cb,aB⟩:=bJ.at (i:=(((N.getD i [])).getD j 0).toNat) (hcv.le D) (by simp only [aH];have:=hva O;omega) O;refine Ops.q Z (aJ er dx Z b1 (jr (by have:=hva O;omega)) bM)<|.q Z (ak fj Z Z b8 ((dh aB).trans (df (by have:=hva O;omega)))) ?_;have ac:=cg (bs:=[blk a1]) D (sj a2.lo nf);refine Ops.l Z (fun _ _ aI _=>aK Z (Ew a1 (o ++ [32]) (cls.getD ((((N.getD i [])).getD j 0).toNat) 0) (A50.hide [blk a1]) A50 (cM A50 [blk a1]) (cr a4.wf) (a2.hide (by simp)) Oy (by (try have:=hcm (by have:=hva O;omega));omega)) ?_);rintro bT A65 ⟨ai,bV,a8⟩;have aD:=a8.base ac;have aS:=ac.trans ai;refine aI _ _<|.q Z (ah Z)<|.nil<|aa _ _<|.region<|.q Z (bN (b:=1) Z Z O)<|.q Z (ae Z)<|.nil ?_;exact ⟨⟨j + 1,(o ++ [32]) ++ ik (cls.getD ((((N.getD i [])).getD j 0).toNat) 0).toNat,bT⟩,DR Z Z Z Z Z Z,Z,⟨⟨by omega,by first | exact ul ho O (by rw [e8 ‹_›];assumption) | exact o7 ho O (by rw [e8 ‹_›];assumption) | exact o7 ho O (mR ‹_›)⟩,aS,aD⟩,O1⟩
   refine ao.skip<|aa _ _<|.region<|.q Z (bN (b:=1) Z Z O)<|.q Z (ae Z)<|.nil ?_;exact ⟨⟨j + 1,o ++ [32],a1⟩,DR Z Z Z Z Z Z,Z,⟨⟨by omega,by first | exact ul ho O (by rw [e8 ‹_›];assumption) | exact o7 ho O (by rw [e8 ‹_›];assumption) | exact o7 ho O (mR ‹_›)⟩,D,a2⟩,O1⟩
  refine Ops.off Z Z Z Z<|.off Z Z Z Z<|.off Z Z Z Z<|.off Z Z Z Z<|.q Z (bw Z Z)<|.nil<|ap _ _<|.cond_false Z<|.skip<|aa _ _ ?_;refine ao.region<|.q Z (bN (b:=1) Z Z O)<|.q Z (ae Z)<|.nil ?_;exact ⟨⟨j + 1,o ++ [32],a1⟩,DR Z Z Z Z Z Z,Z,⟨⟨by omega,by first | exact ul ho O (by rw [e8 ‹_›];assumption) | exact o7 ho O (by rw [e8 ‹_›];assumption) | exact o7 ho O (mR ‹_›)⟩,D,a2⟩,O1⟩
 refine ao.exit<|bb _ _<|.seq fun _ bA=>.region<|.q Z (ae Z)<|.l Z (fun _ _ aP _=>gU (s:=o) Z eo u9 u5 a0.slc ?_);refine aP _ _<|.q Z (ah Z)<|.nil<|bA _ _<|.rt (by exact be Z (⟨by first | (rw [jb ‹_›];rfl) | (rw [jb (by simpa using ‹(!live.getD i false)=true›)];rfl) | (rw [vT (by simpa using ‹(!live.getD i false)=false›) (show (N.getD i []).length=j by omega),<- ho];rfl),a5,ad⟩))

theorem RG (c:Int) (x:Nat) (bp bc kc:Nat) (wc:Bool) (cv:Value) (cls:List Int) (bl bm kl km:Nat) (wl wm:Bool) (lv:Value) (live:List Bool) (b:Nat) (rwb:Bool) (capb k:Nat) (av nv fv bv:Value) (acc:List Bool) (N:List (List Int)) (rows:List Value) (A:AH) (gl:A.get bl=some (.row wl [lv] kl)) (gm:A.get bm=some (.row wm [.pointer (some ⟨b,0,none⟩)] km)) (hlv:bJ A 1 lv (cq live)) (hll:live.length=N.length) (hok:AO k acc N) (hb:A.get b=some (.row rwb [num (k:Int),av,nv,fv,bv] capb)) (hav:bJ A 1 av (cq acc)) (hnv:bJ A 1 nv (em rows)) (hrl:rows.length=N.length) (hF:∀ i,i < N.length->bJ A 1 (rows.getD i undef) (c9 (N.getD i [])))(hmp:ro A bp cls) (gc:A.get bc=some (.row wc [cv] kc)) (hcv:bJ A 1 cv (c9 cls)) (hcl:cls.length=N.length) (hc:c ∈ cls) (hx:x < k):bG Tryz.prog 185 #[num (c),num ((x:Nat):Int),.pointer (some ⟨bm,0,none⟩),.pointer (some ⟨bp,0,none⟩),.pointer (some ⟨bl,0,none⟩),.pointer (some ⟨bc,0,none⟩)] A (fun v A1=>v=.tuple #[num ((js live N cls c x).getD 0),.bool (js live N cls c x).isSome]/\A.le A1/\A1.wf):=by
 refine UD Tryz.call185 Tryz.func185 Z Tryz.results185 Tryz.ntmps185 Z (fun wf=>?_);have h:=AH.le.refl A;obtain ⟨⟨b1,b2⟩,hal,hnl,hrow,hval⟩:=hok;obtain ⟨wp,kp,mm,w2,es,ck,E,gp,gmm,hME,hMM⟩:=hmp;have hmf:=xy hc;have hrm:=hrow (jq cls c) O;have hvm:=hval (jq cls c) x O hx;simp only [gR] at hvm;refine ao.seq fun _ h2=>.region<|.q Z (ah Z)<|.q Z (ah Z)<|.nil<|h2 _ _<|.seq fun _ h4=>.drawn [0,1,2,3,4,5,9,6,7,8,10,11,12] mixed Y Y Z ?_;have ac:=dL (off:=0) (h.get _ _ gm) (show _=some (.pointer (some ⟨b,0,none⟩)) from rfl);refine bj.q Z Z Z (ak lS Z Z (h.get _ _ gm) Z)<|.q Z Z Z (c8 Z)<|.q Z Z Z (aj o6 iQ U Z) ?_;have ad:=dL (off:=2) (h.get _ _ hb) (show _=some (nv) from rfl);refine bj.q Z Z Z (ak jN Z Z (h.get _ _ hb) Z)<|.q Z Z Z (ak DB Z Z (h.get _ _ gp) Z)<|.q Z Z Z (ae Z)<|.q Z Z Z (ae Z)<|.l Z Z Z (fun _ _ ag _=>AJ Z Z Dh u3 z3 (h.get _ _ gmm) hME (hMM _ hc) ?_);refine ag _ _ (aO.list (L:=[(⟨b,2,none⟩,nv),(⟨bm,0,none⟩,.pointer (some ⟨b,0,none⟩))]) Y (bq ad (bq ac cL))) ?_;obtain ⟨b9,f9,bA,r9,bu,n9,k9,e9,l9,g9,aV,a1⟩:=bJ.at (i:=jq cls c) (hnv.le h) Ok O;refine bj.q Z Z Z (aJ m5 fC Z e9 Z l9)<|.q Z Z Z (ak kW Z Z g9 ((dh a1).trans (eH O))) ?_;obtain ⟨aR,aY,aG,bb,aD,b7,b3,a2,ai,a5,aA,V⟩:=bJ.at (i:=x) ((hF (jq cls c) O).le h) O3 O;refine bj.q Z Z Z (aJ er dx Z a2 Z ai)<|.q Z Z Z (ak fj Z Z a5 ((dh V).trans (df O)))<|.q Z Z Z (ah Z)<|.done<|h4 _ _<|.seq fun _ a8=>.seq fun _ D=>.region<|.q Z (ae Z)<|.q Z (qO Z Z) ?_;refine Ops.q Z (ae Z)<|.part (t:=25) Z (fun ay=>?_) (fun ay=>?_)
 ·refine Ops.off Z Z Z Z<|.off Z Z Z Z<|.off Z Z Z Z<|.off Z Z Z Z<|.off Z Z Z Z<|.q Z (bi Z Z)<|.nil<|D _ _<|.cond_true Z<|.seq fun _ a9=>?_;refine ao.region<|.q Z (ah Z)<|.q Z (ah Z)<|.nil<|a9 _ _<|.rt (by exact be Z (⟨by first | (rw [rQ (rM ‹_›)];rfl) | (rw [rQ (by rw [e8 O];simpa using ‹(!live.getD _ false)=true›)];rfl) | (rw [xO (by rw [e8 O];simpa using ‹(!live.getD _ false)=false›)];rfl),h,wf⟩))
 refine Ops.on Z Z<|.q Z (ak iu Z Z (h.get _ _ gl) Z)<|.on Z Z<|.q Z (ae Z)<|.on Z Z ?_;obtain ⟨aS,aZ,aI,bd,aE,b8,b5,a3,ap,a6,aB,X⟩:=bJ.at (i:=(((N.getD (jq cls c) [])).getD x 0).toNat) (hlv.le h) Oi O;refine Ops.q Z (aJ kR lJ Z a3 (jr O) ap)<|.on Z Z<|.q Z (ak vm Z Z a6 ((dh X).trans (ek O)))<|.on Z Z<|.q Z (eE Z)<|.q Z (bw Z Z)<|.nil<|D _ _<|.ifB Z (fun az=>?_) (fun az=>?_)
 ·refine ao.seq fun _ aa=>.region<|.q Z (ah Z)<|.q Z (ah Z)<|.nil<|aa _ _<|.rt (by exact be Z (⟨by first | (rw [rQ (rM ‹_›)];rfl) | (rw [rQ (by rw [e8 O];simpa using ‹(!live.getD _ false)=true›)];rfl) | (rw [xO (by rw [e8 O];simpa using ‹(!live.getD _ false)=false›)];rfl),h,wf⟩))
 refine ao.skip<|a8 _ _<|.seq fun _ ab=>.region<|.q Z (ak kW Z Z (h.get _ _ gc) Z)<|.q Z (ae Z) ?_;obtain ⟨aT,b0,aP,br,aF,ba,b6,a4,ar,a7,aC,a0⟩:=bJ.at (i:=(((N.getD (jq cls c) [])).getD x 0).toNat) (hcv.le h) O3 O;refine Ops.q Z (aJ er dx Z a4 (jr O) ar)<|.q Z (ak fj Z Z a7 ((dh a0).trans (df O)))<|.q Z (ah Z)<|.q Z (ah Z)<|.nil<|ab _ _<|.rt (by exact be Z (⟨by first | (rw [rQ (rM ‹_›)];rfl) | (rw [rQ (by rw [e8 O];simpa using ‹(!live.getD _ false)=true›)];rfl) | (rw [xO (by rw [e8 O];simpa using ‹(!live.getD _ false)=false›)];rfl),h,wf⟩))

theorem RH (c:Int) (bp bm km:Nat) (wm:Bool) (cls:List Int) (b:Nat) (rwb:Bool) (capb k:Nat) (av nv fv bv:Value) (acc:List Bool) (N:List (List Int)) (rows:List Value) (A:AH) (gm:A.get bm=some (.row wm [.pointer (some ⟨b,0,none⟩)] km)) (hok:AO k acc N) (hb:A.get b=some (.row rwb [num (k:Int),av,nv,fv,bv] capb)) (hav:bJ A 1 av (cq acc)) (hnv:bJ A 1 nv (em rows)) (hrl:rows.length=N.length) (hF:∀ i,i < N.length->bJ A 1 (rows.getD i undef) (c9 (N.getD i []))) (hmp:ro A bp cls) (hcl:cls.length=N.length) (hc:c ∈ cls):bG Tryz.prog 186 #[num (c),.pointer (some ⟨bm,0,none⟩),.pointer (some ⟨bp,0,none⟩)] A (fun v A1=>v=.bool (acc.getD (jq cls c) false)/\A.le A1/\A1.wf):=by
 refine yl Tryz.call186 Tryz.func186 Z Tryz.results186 Tryz.ntmps186 Z (fun wf=>?_);have h:=AH.le.refl A;obtain ⟨⟨a2,a3⟩,hal,hnl,hrow,hval⟩:=hok;obtain ⟨wp,kp,mm,w2,es,ck,E,gp,gmm,hME,hMM⟩:=hmp;have hmf:=xy hc;refine ao.seq fun _ h2=>.region<|.q Z (ah Z)<|.nil<|h2 _ _<|.seq fun _ h4=>.drawn [0,1,2,3,4,5,6,7,8,9] mixed Y Y Z ?_;have V:=dL (off:=0) (h.get _ _ gm) (show _=some (.pointer (some ⟨b,0,none⟩)) from rfl);refine bj.q Z Z Z (ak lS Z Z (h.get _ _ gm) Z)<|.q Z Z Z (c8 Z)<|.q Z Z Z (aj jm iB U Z) ?_;have X:=dL (off:=1) (h.get _ _ hb) (show _=some (av) from rfl);refine bj.q Z Z Z (ak iu Z Z (h.get _ _ hb) Z)<|.q Z Z Z (ak DB Z Z (h.get _ _ gp) Z)<|.q Z Z Z (ae Z)<|.l Z Z Z (fun _ _ a0 _=>AJ Z Z Dh u3 z3 (h.get _ _ gmm) hME (hMM _ hc) ?_);refine a0 _ _ (aO.list (L:=[(⟨b,1,none⟩,av),(⟨bm,0,none⟩,.pointer (some ⟨b,0,none⟩))]) Y (bq X (bq V cL))) ?_;obtain ⟨b9,f9,a5,r9,a4,n9,k9,e9,l9,g9,a1,D⟩:=bJ.at (i:=jq cls c) (hav.le h) Oi O;refine bj.q Z Z Z (aJ kR lJ Z e9 Z l9)<|.q Z Z Z (ak vm Z Z g9 ((dh D).trans (ek O)))<|.q Z Z Z (ah Z)<|.done<|h4 _ _<|.rt (by exact be Z (⟨Z,h,wf⟩))

theorem Px (b:Nat) (rwb:Bool) (capb k:Nat) (av nv fv bv:Value) (acc:List Bool) (N:List (List Int)) (rows:List Value) (A:AH) (hok:AO k acc N) (hN:N.length<=20000) (hb:A.get b=some (.row rwb [num (k:Int),av,nv,fv,bv] capb)) (hav:bJ A 1 av (cq acc)) (hnv:bJ A 1 nv (em rows)) (hrl:rows.length=N.length) (hF:∀ i,i < N.length->bJ A 1 (rows.getD i undef) (c9 (N.getD i []))):bG Tryz.prog 147 #[.pointer (some ⟨b,0,none⟩)] A (fun v A1=>∃ av2 nv2 rows2,v=.tuple #[.agg #[num (k:Int),num ((0:Nat):Int),av2,nv2],.bool true]/\A.le A1/\A1.wf/\Fresh A A1 av2 1 (cq (wW k acc N).1)/\Fresh A A1 nv2 1 (em rows2)/\kg A A1 rows2 (wW k acc N).2/\bh av2 nv2/\aq av2 rows2/\aq nv2 rows2):=by
  refine enterM (e:=[(0,.pointer (some ⟨b,0,none⟩))]) (args:=[.pointer (some ⟨b,0,none⟩)]) Tryz.call147 Tryz.func147 Z Tryz.results147 Tryz.ntmps147 Z Z Z (fun wf=>?_)
  have k6:=AH.le.refl A
  have df_:Sm A A []:=⟨List.Pairwise.nil,fun _ h=>by cases h⟩
  have bT:=hok
  obtain ⟨⟨qB,dj⟩,hal,hnl,hrow,hval⟩:=hok
  refine ao.seq fun K1 h2=>.region<|.l Z (fun _ _ oR _=>ej wf rfl rfl fun A5 b4 fn=>?_)
  have pf:=Nat.le_trans k6.n fn.lo
  have gX:=k6.trans fn.le
  refine oR _ _<|.l Z (fun _ _ oS _=>ca fn.wf IU rfl fun A10 b9 br=>?_)
  have dw:=aL wf (Nat.le_trans gX.n br.lo)
  have pi:=Nat.le_trans gX.n br.lo
  have g7:=br.le.get _ _ fn.get
  have dI:=gX.trans br.le
  refine oS _ _<|.q Z (ah Z)<|.nil<|h2 _ _<|.seq fun K14 o3=>.region<|.q Z (ak lS Z Z g7 Z)<|.q Z (c8 Z)<|.q Z (aj xj dx U Z)<|.q Z (ak fj Z Z (dI.get _ _ hb) Z) ?_
  refine Ops.q Z (cR Z (aU Tv IU Ks Z))<|.l Z (fun _ _ mX _=>ca br.wf IU rfl fun A18 cc bu=>?_)
  have ea:=ne_new br.wf g7 bu.lo
  have ec:=ne_new br.wf br.get bu.lo
  have g3:=aL wf (Nat.le_trans dI.n bu.lo)
  have oY:=Nat.le_trans dI.n bu.lo
  have oi:=bu.le.get _ _ g7
  have oj:=bu.le.get _ _ br.get
  have nk:=dI.trans bu.le
  refine mX _ _<|.l Z (fun _ _ n1 _=>aM (cs:=[num ((k:Nat):Int),num ((0:Nat):Int),.slice none 0 0,.slice none 0 0]) (c':=[num ((k:Nat):Int),num ((0:Nat):Int),.slice none 0 0,.slice none 0 0]) bu.wf rfl rfl rfl rfl jH bu.get (Nat.le_of_ble_eq_true rfl) rfl rfl fun A24 b5=>?_)
  have gP:=b5.keep _ _ ea oi
  have iT:=b5.keep _ _ ec oj
  have cS:=al nk wf g3 b5.n b5.keep
  refine n1 _ _<|.nil<|o3 _ _<|.seq fun K29 ok=>.region<|.q Z (ak lS Z Z gP Z)<|.q Z (c8 Z)<|.q Z (aj jm iB U Z)<|.q Z (ak iu Z Z (cS.get _ _ hb) Z)<|.q Z (bH (n:=acc.length) kR Z (hav.le cS) O (ff _)) ?_
  refine Ops.l Z (fun _ _ n2 _=>lL (n:=acc.length) (k:=acc.length) b5.wf cS rfl rfl kR lJ z4 JO rfl (Nat.le_refl _) (by show 1 * _<=_;omega) O fun A33 a2 aD ez=>?_)
  rw [m9] at ez
  have ch:=ne_new b5.wf gP aD.lo
  have cB:=ne_new b5.wf iT aD.lo
  have c3:=ne_new b5.wf b5.get aD.lo
  have oZ:=Nat.le_trans cS.n aD.lo
  have iV:=aD.le.get _ _ gP
  have iX:=aD.le.get _ _ iT
  have jX:=aD.le.get _ _ b5.get
  have eS:=cS.trans aD.le
  refine n2 _ _<|.l Z (fun _ _ n3 _=>ca aD.wf UH rfl fun A42 a4 aE=>?_)
  have cu:=ne_new aD.wf iV aE.lo
  have cC:=ne_new aD.wf iX aE.lo
  have c4:=ne_new aD.wf jX aE.lo
  have eT:=ez.own.ne_new aD.wf aE.lo
  have e6:=aL wf (Nat.le_trans eS.n aE.lo)
  have p0:=Nat.le_trans eS.n aE.lo
  have ov:=aE.le.get _ _ iV
  have ox:=aE.le.get _ _ iX
  have oy:=aE.le.get _ _ jX
  have kp:=ez.le aE.le
  have nl:=eS.trans aE.le
  refine n3 _ _<|.l Z (fun _ _ n4 _=>aM (cs:=[.slice (some ⟨a2,0,none⟩) acc.length acc.length]) (c':=[.slice (some ⟨a2,0,none⟩) acc.length acc.length]) aE.wf rfl rfl rfl rfl iB aE.get (Nat.le_of_ble_eq_true rfl) rfl rfl fun A51 bM=>?_)
  have gQ:=bM.keep _ _ cu ov
  have k0:=bM.keep _ _ cC ox
  have k1:=bM.keep _ _ c4 oy
  have fV:=kp.keep bM.keep eT
  have nn:=al nl wf e6 bM.n bM.keep
  refine n4 _ _<|.nil<|ok _ _<|.seq fun K58 oz=>.seq fun K60 oF=>.region<|.q Z (ak lS Z Z gQ Z)<|.l Z (fun _ _ n6 _=>aK Z (RL b A51) ?_)
  rintro qV A64 ⟨bl,rfl,bP,e5,dk,b7⟩
  have oI:=bP.get _ _ gQ
  have oJ:=bP.get _ _ k0
  have oK:=bP.get _ _ k1
  have f9:=bP.get _ _ bM.get
  have g0:=fV.le bP
  have nq:=nn.trans bP
  have hrow:=dk
  have hno:=b7
  have he:b4 ≠ bl:=fun z=>by have q0:=gQ;rw [z,b7] at q0;cases q0
  have hf:b9 ≠ bl:=fun z=>by have q0:=k0;rw [z,b7] at q0;cases q0
  have h4:cc ≠ bl:=fun z=>by have q0:=k1;rw [z,b7] at q0;cases q0
  have cX:a4 ≠ bl:=fun z=>by have q0:=bM.get;rw [z,b7] at q0;cases q0
  have nB:blk (.slice (some ⟨a2,0,none⟩) acc.length acc.length) ≠ some bl:=qk fV.own b7
  refine n6 _ _<|.nil<|oF _ _<|.block ?_
  have aR:=cD.full f9 e5
  have hLM:=cg (bs:=[some a4,blk (.slice (some ⟨a2,0,none⟩) acc.length acc.length)]) nq (qz e6 (sj g0.lo nf))
  have iS:Fresh (A64.hide [some a4,blk (.slice (some ⟨a2,0,none⟩) acc.length acc.length)]) A64 (.slice (some ⟨a2,0,none⟩) acc.length acc.length) 1 (cq (List.replicate acc.length false)):=g0.hide (by simp)
  have dz:=bF (bs:=[some a4,blk (.slice (some ⟨a2,0,none⟩) acc.length acc.length)]) oI (lQ (cu) (ng (fun q=>by cases q;exact ch Z) ka))
  have dD:=bF (bs:=[some a4,blk (.slice (some ⟨a2,0,none⟩) acc.length acc.length)]) oJ (lQ (cC) (ng (fun q=>by cases q;exact cB Z) ka))
  have cP:=bF (bs:=[some a4,blk (.slice (some ⟨a2,0,none⟩) acc.length acc.length)]) oK (lQ (c4) (ng (fun q=>by cases q;exact c3 Z) ka))
  have bp:=bF (bs:=[some a4,blk (.slice (some ⟨a2,0,none⟩) acc.length acc.length)]) dk (lQ (cX.symm) (ng nB ka))
  generalize hM0:(A64.hide [some a4,blk (.slice (some ⟨a2,0,none⟩) acc.length acc.length)])=M at aR hLM iS dz dD cP bp
  have hvI:∀ (k:Nat) (B:AH),(M.le B/\B.get a4=some (.row true [.slice (some ⟨a2,0,none⟩) acc.length acc.length] 1)/\Fresh M B (.slice (some ⟨a2,0,none⟩) acc.length acc.length) 1 (cq (jR (List.replicate acc.length false) ((gh acc N).take k))))->∃ v cap,B.get a4=some (.row true [v] cap)/\∀ b,blk v=some b->∃ o,B.get b=some o:=fun k B ⟨_,g1,f1⟩=>⟨_,1,g1,fun b hb=>f1.own.blkget hb⟩
  refine ao.rangeOwnP (M:=M) a4 (gh acc N).length (fun k=>[num ((gh acc N).getD k 0)]) (fun k B=>(M.le B/\B.get a4=some (.row true [.slice (some ⟨a2,0,none⟩) acc.length acc.length] 1)/\Fresh M B (.slice (some ⟨a2,0,none⟩) acc.length acc.length) 1 (cq (jR (List.replicate acc.length false) ((gh acc N).take k))))) (fun k=>[(6,num ((gh acc N).getD k 0)),(0,.pointer (some ⟨b,0,none⟩)),(1,.pointer (some ⟨b4,0,none⟩)),(2,.pointer (some ⟨b9,0,none⟩)),(15,.pointer (some ⟨b,0,none⟩)),(16,.pointer (some ⟨b,0,none⟩)),(17,.pointer (some ⟨b,0,none⟩)),(4,.pointer (some ⟨cc,0,none⟩)),(20,.pointer (some ⟨b,0,none⟩)),(21,.pointer (some ⟨b,0,none⟩)),(22,.pointer (some ⟨b,1,none⟩)),(5,.pointer (some ⟨a4,0,none⟩)),(26,.pointer (some ⟨b,0,none⟩))]) Z Tryz.call199 (fun _=>rfl) U (e5 _ _ f9) aR ?_ hvI ?_ ?_ ?_ ?_ ?_
  · rintro k B B2 ⟨i1,g1,f1⟩ dv oV hk
    exact ⟨⟨Nat.le_trans i1.n oV,fun b o h=>hk b o (.inl (Nat.lt_of_lt_of_le (aR.wf b o h) aR.le.n)) (i1.get _ _ h)⟩,hk _ _ (.inr (.inl rfl)) g1,f1.owk (fun b o hb h=>hk b o (.inr (.inr ⟨_,1,g1,hb⟩)) h)⟩
  · exact ⟨aR.le,f9,by rw [List.take_zero];exact iS⟩
  · intro p5 J2 B M4 hnB hleB wfB e7 hJI mT eA hyd
    obtain ⟨_,gq,fq⟩:=hJI 0 B eA
    have s3:M.le (B.hide [some a4,blk (.slice (some ⟨a2,0,none⟩) acc.length acc.length)]):=cg (hJI 0 B eA).1 (fun b hb=>by simp only [List.mem_cons,List.not_mem_nil,or_false,Option.some.injEq] at hb;rcases hb with rfl | hb;exact aR.ow _ (.inl Z);exact fq.lo b hb.symm)
    exact (PB a4 p5 J2 b rwb capb k av nv fv bv acc N rows _ B bl _ _ (cD.full gq wfB) eA (s3.get _ _ bp) bT (s3.get _ _ (hLM.get _ _ hb)) ((hav.le hLM).le s3) ((hnv.le hLM).le s3) hrl (fun i hi=>((hF i hi).le hLM).le s3) (fun i C C2 j1 j2 j3 j4=>mT i C C2 j1 j2 j3 j4) (fun i C j1=>hvI i C (hJI i C j1)) (fun k C M2=>hyd k C M2)).mono (fun v C h=>⟨h.1,h.2.1,h.2.2.mono (e7.sub gq) e7.wf⟩)
  · intro F k B hF_ hk_
    refine ed.wf fun wfB_=>?_
    have hF:=hF_
    refine ed.region hF (by repeat' first | with_reducible exact iz | with_reducible apply oe | with_reducible apply ku) Y<|.q Z (ah Z)<|.nil ?_
    exact ⟨an.cons Z<|an.cons Z<|an.cons Z<|an.cons Z<|an.cons Z<|an.cons Z<|an.cons Z<|an.cons Z<|an.cons Z<|an.cons Z<|an.cons Z<|an.cons Z<|an.cons Z<|an.nil _,Z,AH.le.refl _,wfB_⟩
  · rintro F k B M4 hF hk_ ⟨i1,g1,f1⟩ wfB hnB e7
    have s3:M.le (B.hide [some a4,blk (.slice (some ⟨a2,0,none⟩) acc.length acc.length)]):=cg i1 (fun b hb=>by simp only [List.mem_cons,List.not_mem_nil,or_false,Option.some.injEq] at hb;rcases hb with rfl | hb;exact aR.ow _ (.inl Z);exact f1.lo b hb.symm)
    have s4:=e7.sub g1
    have leX:=cM B [some a4,blk (.slice (some ⟨a2,0,none⟩) acc.length acc.length)]
    have wfX:(B.hide [some a4,blk (.slice (some ⟨a2,0,none⟩) acc.length acc.length)]).wf:=cr wfB
    have noX:(B.hide [some a4,blk (.slice (some ⟨a2,0,none⟩) acc.length acc.length)]).get a4=none:=cn (by simp)
    have fX:Fresh (B.hide [some a4,blk (.slice (some ⟨a2,0,none⟩) acc.length acc.length)]) B (.slice (some ⟨a2,0,none⟩) acc.length acc.length) 1 (cq (jR (List.replicate acc.length false) ((gh acc N).take k))):=f1.hide (by simp)
    have hlr:=zj hal _ (bx (d:=(0:Int)) hk_)
    have hml:(jR (List.replicate acc.length false) ((gh acc N).take k)).length=acc.length:=by rw [mh];simp
    generalize hMX:B.hide [some a4,blk (.slice (some ⟨a2,0,none⟩) acc.length acc.length)]=MX at s3 s4 leX wfX noX fX
    refine ed.block<|.region hF (by repeat' first | with_reducible exact iz | with_reducible apply oe | with_reducible apply ku) Y<|.q Z (ak iu Z Z g1 Z)<|.q Z (ae Z) ?_
    obtain ⟨qr,qN,qv,p9,q9,iN,k4,o1,r1,p6,qU,oW⟩:=fX.at1 (x:=((gh acc N).getD k 0).toNat) Oi
    rw [bz] at k4
    refine Ops.q Z (aJ kR lJ Z iN (jr O) (by rw [k4];omega))<|.l Z (fun _ _ n7 _=>aM (off:=((gh acc N).getD k 0).toNat) (c':=p9.set (((gh acc N).getD k 0).toNat) (.bool (true))) wfB rfl (by simp) rfl rfl lJ o1 (by show (((gh acc N).getD k 0).toNat) + 1<=_;omega) rfl rfl fun A75 cZ=>?_)
    have k2:=cZ.keep _ _ (fun q=>eT (by rw [iN];exact congrArg some q.symm)) g1
    have g2:=oW (.bool (true)) A75 cZ
    rw [kr] at g2
    have gY:=al leX wfX p6 cZ.n cZ.keep
    refine n7 _ _<|.nil ?_
    have fe:=c6 g2 (congrArg cq (Gu hk_))
    exact ⟨⟨s3.trans gY,k2,fe.base s3⟩,cZ.wf,cD.mono ⟨gY,wfX,fun b hb=>by rcases hb.val k2 with rfl | q;exact noX;exact fe.lo b q⟩ s4 e7.wf⟩
  · rintro B D0 ⟨i1,g1,f1⟩ wfB hnD hnB gD hoD hPM
    have leB:=hLM.trans i1
    obtain ⟨LV,hLV⟩:∃ LV,LV=iJ acc N:=⟨_,rfl⟩
    have frB:=c6 (f1.base hLM) (congrArg cq (show jR (List.replicate acc.length false) ((gh acc N).take (gh acc N).length)=LV by rw [List.take_length,hLV];exact Gt hal))
    have hlfl:LV.length=acc.length:=by rw [hLV];exact Gk
    have bV:=i1.get _ _ dz
    have cH:=i1.get _ _ dD
    have bU:=i1.get _ _ cP
    have eL:=i1.get _ _ bp
    have hlA:A.n<=D0:=Nat.le_trans hLM.n (Nat.le_trans aR.le.n hnD)
    have nu:D0 ≠ b4:=by have:=aR.wf _ _ dz;have:=aR.le.n;omega
    have aF:D0 ≠ b9:=by have:=aR.wf _ _ dD;have:=aR.le.n;omega
    have k7:D0 ≠ cc:=by have:=aR.wf _ _ cP;have:=aR.le.n;omega
    have k9:D0 ≠ a4:=by have:=e5 _ _ f9;omega
    have hd:D0 ≠ bl:=by have:=aR.wf _ _ bp;have:=aR.le.n;omega
    have nvD:blk (.slice (some ⟨a2,0,none⟩) acc.length acc.length) ≠ some D0:=fun q=>hoD (.inr ⟨_,_,g1,q⟩)
    refine oz _ _<|.seq fun K80 oN=>.seq fun K82 k3=>.region<|.q Z (ak iu Z Z g1 Z)<|.q Z (bH (n:=LV.length) kR Z frB.slc O (ff _))<|.q Z (oq (b:=0) Z Z)<|.q Z (ae Z)<|.part (t:=35) Z (fun p7=>?_) (fun p7=>?_)
    ·
      refine Ops.off Z Z Z Z<|.off Z Z Z Z<|.off Z Z Z Z<|.off Z Z Z Z<|.q Z (bi Z Z)<|.nil<|k3 _ _<|.cond_true Z<|.seq fun K85 oP=>.region ?_
      refine Ops.q Z (am px jH Z Z bU Z)<|.l Z (fun _ _ n9 _=>aM (cs:=[num ((k:Nat):Int),num ((0:Nat):Int),.slice none 0 0,.slice none 0 0]) (c':=[num ((k:Nat):Int),num ((0:Nat):Int),.slice none 0 0,.slice none 0 0]) wfB rfl rfl rfl rfl jH cH (Nat.le_of_ble_eq_true rfl) rfl rfl fun A88 e4=>?_)
      have oQ:=e4.keep _ _ aF gD
      have gZ:=al leB wf dw e4.n e4.keep
      refine n9 _ _<|.q Z (ah Z)<|.nil<|oP _ _<|.ret ?_
      (repeat first | with_reducible refine bE ?_ | with_reducible refine bk ?_);(repeat first | with_reducible refine fa ?_ | with_reducible refine ep ?_ | with_reducible refine dX U ?_ | with_reducible refine dY ?_ | with_reducible refine dt ?_);have cf:LV.getD 0 false=false:=(by first | assumption | exact wa OK | simpa using ‹(!LV.getD 0 false)=true›);refine ⟨[D0],rfl,(by simp),(fun E hE=>by rw [List.mem_singleton] at hE;subst hE;exact oQ),[.agg #[num ((k:Nat):Int),num ((0:Nat):Int),.slice none 0 0,.slice none 0 0],.bool (true)],fun A2 dv e9 dj=>?_⟩;have hkD:∀ b o,b ≠ D0->A88.get b=some o->A2.get b=some o:=fun b o hb h=>dj b o (by simpa using hb) h;exact ⟨dE px jH Z (hkD _ _ aF.symm e4.get) Z (ei Z eh),⟨_,Z,_,_,[],Z,⟨by rw [e9];exact gZ.n,fun b o h=>hkD b o (by have:=wf _ _ h;omega) (gZ.get _ _ h)⟩,dv,c6 (Fresh.nil _ _ _) (congrArg cq (show []=_ from by rw [sX (by rw [<- hLV];exact cf)])),Fresh.nil _ _ _,lD kg.nil (by rw [sX (by rw [<- hLV];exact cf)]),bh.nil,aq.nil,aq.nil⟩⟩
    ·
      refine Ops.on Z Z<|.q Z (ak iu Z Z g1 Z)<|.on Z Z ?_
      obtain ⟨qu,qA,qb,qR,qa,qP,qD,nV,oX,o2,pU,kc⟩:=bJ.at (i:=0) frB.slc Oi O
      refine Ops.q Z (aJ kR lJ Z nV Z oX)<|.on Z Z<|.q Z (ak vm Z Z o2 ((dh kc).trans (ek O)))<|.on Z Z<|.q Z (eE Z)<|.q Z (bw Z Z)<|.nil<|k3 _ _<|.ifB Z (fun p8=>?_) (fun p8=>?_)
      ·
        refine ao.seq fun K99 kD=>.region<|.q Z (am px jH Z Z bU Z)<|.l Z (fun _ _ hz _=>aM (cs:=[num ((k:Nat):Int),num ((0:Nat):Int),.slice none 0 0,.slice none 0 0]) (c':=[num ((k:Nat):Int),num ((0:Nat):Int),.slice none 0 0,.slice none 0 0]) wfB rfl rfl rfl rfl jH cH (Nat.le_of_ble_eq_true rfl) rfl rfl fun A102 cK=>?_)
        have kK:=cK.keep _ _ aF gD
        have fi:=al leB wf dw cK.n cK.keep
        refine hz _ _<|.q Z (ah Z)<|.nil<|kD _ _<|.ret ?_
        (repeat first | with_reducible refine bE ?_ | with_reducible refine bk ?_);(repeat first | with_reducible refine fa ?_ | with_reducible refine ep ?_ | with_reducible refine dX U ?_ | with_reducible refine dY ?_ | with_reducible refine dt ?_);have cf:LV.getD 0 false=false:=(by first | assumption | exact wa OK | simpa using ‹(!LV.getD 0 false)=true›);refine ⟨[D0],rfl,(by simp),(fun E hE=>by rw [List.mem_singleton] at hE;subst hE;exact kK),[.agg #[num ((k:Nat):Int),num ((0:Nat):Int),.slice none 0 0,.slice none 0 0],.bool (true)],fun A2 dv e9 dj=>?_⟩;have hkD:∀ b o,b ≠ D0->A102.get b=some o->A2.get b=some o:=fun b o hb h=>dj b o (by simpa using hb) h;exact ⟨dE px jH Z (hkD _ _ aF.symm cK.get) Z (ei Z eh),⟨_,Z,_,_,[],Z,⟨by rw [e9];exact fi.n,fun b o h=>hkD b o (by have:=wf _ _ h;omega) (fi.get _ _ h)⟩,dv,c6 (Fresh.nil _ _ _) (congrArg cq (show []=_ from by rw [sX (by rw [<- hLV];exact cf)])),Fresh.nil _ _ _,lD kg.nil (by rw [sX (by rw [<- hLV];exact cf)]),bh.nil,aq.nil,aq.nil⟩⟩
      ·
        refine ao.skip<|oN _ _<|.seq fun K111 kL=>?_
        have hpos:0 < acc.length:=by rw [<- hlfl];exact Nat.pos_of_ne_zero ‹¬ LV.length=0›
        refine ao.region<|.q Z (ak lS Z Z bV Z)<|.q Z (c8 Z)<|.q Z (aj jm iB U Z)<|.q Z (ak iu Z Z (leB.get _ _ hb) Z)<|.q Z (bH (n:=acc.length) kR Z (hav.le leB) O (ff _))<|.q Z (lg Z Z)<|.q Z (lg Z Z) ?_
        have eG:LV.length=N.length:=by rw [hlfl,hal]
        refine Ops.l Z (fun _ _ hA _=>aK Z (Im acc.length 182 183 #[.pointer (some ⟨a4,0,none⟩),.pointer (some ⟨b4,0,none⟩)] #[.pointer (some ⟨a4,0,none⟩),.pointer (some ⟨b4,0,none⟩)] (RU acc LV) (nz LV N) B O (fun i B hi le wfB=>RE i a4 b4 _ _ _ _ (.slice (some ⟨a2,0,none⟩) acc.length acc.length) LV b rwb capb k av nv fv bv acc N rows B (le.get _ _ g1) (le.get _ _ bV) (frB.slc.le le) eG bT ((leB.trans le).get _ _ hb) (hav.le (leB.trans le)) (hnv.le (leB.trans le)) hrl (fun i hi=>(hF i hi).le (leB.trans le)) O) (fun cls cv i B hcv h1 h2 hi le wfB=>RF i cls cv a4 b4 _ _ _ _ (.slice (some ⟨a2,0,none⟩) acc.length acc.length) LV b rwb capb k av nv fv bv acc N rows B (le.get _ _ g1) (le.get _ _ bV) (frB.slc.le le) eG bT ((leB.trans le).get _ _ hb) (hav.le (leB.trans le)) (hnv.le (leB.trans le)) hrl (fun i hi=>(hF i hi).le (leB.trans le)) O hcv O (by rw [<- hal];exact h2)) (yn LV acc.length) (Fu _ (fun i hi h=>JZ i hi (by rw [<- hLV];exact h))) (fun cls _ _=>Fw _ cls) (fun cls h1 h2 h3 i j hi hj h=>Ng (N:=N) O _ cls h1 h2 h3 i j hi hj h)) ?_)
        rintro qd A115 ⟨aP,aB,b6⟩
        have g4:=aP.get _ _ bV
        have g5:=aP.get _ _ cH
        have g6:=aP.get _ _ bU
        have g8:=aP.get _ _ g1
        have g9:=aP.get _ _ eL
        have gc:=aP.get _ _ gD
        have eY:=frB.le aP
        have dG:=leB.trans aP
        have eZ:=b6.base leB
        have hU:=b6.ne wfB bV
        have hV:=b6.ne wfB cH
        have hW:=b6.ne wfB bU
        have hX:=b6.ne wfB g1
        have hY:=b6.ne wfB gD
        refine hA _ _<|.l Z (fun _ _ hB _=>ca aB I0 rfl fun A134 bR a3=>?_)
        have dW:=ne_new aB g4 a3.lo
        have e1:=ne_new aB g5 a3.lo
        have d0:=ne_new aB g6 a3.lo
        have d3:=ne_new aB g8 a3.lo
        have cF:=ne_new aB g9 a3.lo
        have dO:=ne_new aB gc a3.lo
        have fo:=eY.own.ne_new aB a3.lo
        have fr:=eZ.own.ne_new aB a3.lo
        have fE:=aL wf (Nat.le_trans dG.n a3.lo)
        have nN:=Nat.le_trans dG.n a3.lo
        have kM:=a3.le.get _ _ g4
        have kP:=a3.le.get _ _ g5
        have kT:=a3.le.get _ _ g6
        have kV:=a3.le.get _ _ g8
        have l0:=a3.le.get _ _ g9
        have l1:=a3.le.get _ _ gc
        have hp:=eY.le a3.le
        have f0:=eZ.le a3.le
        have hO:=dG.trans a3.le
        refine hB _ _ ?_
        obtain ⟨aA,ay,ar,nE,_⟩:=f0.own.slice
        subst nE
        refine Ops.l Z (fun _ _ hC _=>aM (cs:=[.slice aA ay ar]) (c':=[.slice aA ay ar]) a3.wf rfl rfl rfl rfl fC a3.get (Nat.le_of_ble_eq_true rfl) rfl rfl fun A149 a1=>?_)
        have ge:=a1.keep _ _ dW kM
        have gf:=a1.keep _ _ e1 kP
        have gg:=a1.keep _ _ d0 kT
        have gl:=a1.keep _ _ d3 kV
        have gm:=a1.keep _ _ cF l0
        have gp:=a1.keep _ _ dO l1
        have f2:=hp.keep a1.keep fo
        have hr:=f0.keep a1.keep fr
        have dJ:=al hO wf fE a1.n a1.keep
        refine hC _ _<|.nil ?_
        obtain ⟨CL,hCL⟩:∃ CL,CL=w8 acc (iJ acc N) N:=⟨_,rfl⟩
        have f3:=c6 hr (congrArg c9 (show yC acc.length (RU acc LV) (nz LV N)=CL by rw [hCL,hLV,hal];rfl))
        obtain ⟨eC,mV⟩:CL.length=N.length/\∀ c ∈ CL,0<=c/\c < (N.length:Int):=by rw [hCL];exact DH
        refine kL _ _<|.seq fun K161 l2=>.region<|.l Z (fun _ _ hD _=>mu a1.wf fun A165 bS D=>?_)
        have dZ:=ne_new a1.wf ge D.lo
        have e2:=ne_new a1.wf gf D.lo
        have d1:=ne_new a1.wf gg D.lo
        have dd:=ne_new a1.wf gl D.lo
        have fS:=ne_new a1.wf gm D.lo
        have dS:=ne_new a1.wf gp D.lo
        have cU:=ne_new a1.wf a1.get D.lo
        have hZ:=f2.own.ne_new a1.wf D.lo
        have i2:=f3.own.ne_new a1.wf D.lo
        have fI:=aL wf (Nat.le_trans dJ.n D.lo)
        have nO:=Nat.le_trans dJ.n D.lo
        have gs:=D.le.get _ _ ge
        have gA:=D.le.get _ _ gf
        have gC:=D.le.get _ _ gg
        have gE:=D.le.get _ _ gl
        have l3:=D.le.get _ _ gm
        have gF:=D.le.get _ _ gp
        have gG:=D.le.get _ _ a1.get
        have f4:=f2.le D.le
        have f6:=f3.le D.le
        have dK:=dJ.trans D.le
        refine hD _ _<|.l Z (fun _ _ hG _=>ca D.wf Um rfl fun A181 b3 a0=>?_)
        have e0:=ne_new D.wf gs a0.lo
        have e3:=ne_new D.wf gA a0.lo
        have d2:=ne_new D.wf gC a0.lo
        have di:=ne_new D.wf gE a0.lo
        have fT:=ne_new D.wf l3 a0.lo
        have dV:=ne_new D.wf gF a0.lo
        have cV:=ne_new D.wf gG a0.lo
        have bL:=ne_new D.wf D.get a0.lo
        have ft:=f4.own.ne_new D.wf a0.lo
        have fD:=f6.own.ne_new D.wf a0.lo
        have fL:=aL wf (Nat.le_trans dK.n a0.lo)
        have nQ:=Nat.le_trans dK.n a0.lo
        have l4:=a0.le.get _ _ gs
        have l6:=a0.le.get _ _ gA
        have l7:=a0.le.get _ _ gC
        have l9:=a0.le.get _ _ gE
        have lb:=a0.le.get _ _ gF
        have lp:=a0.le.get _ _ gG
        have lt:=a0.le.get _ _ D.get
        have hs:=f4.le a0.le
        have ht:=f6.le a0.le
        have hP:=dK.trans a0.le
        refine hG _ _<|.l Z (fun _ _ hH _=>aM (cs:=[.map (some bS)]) (c':=[.map (some bS)]) a0.wf rfl rfl rfl rfl Tl a0.get (Nat.le_of_ble_eq_true rfl) rfl rfl fun A197 ac=>?_)
        have lw:=ac.keep _ _ e0 l4
        have lB:=ac.keep _ _ e3 l6
        have lC:=ac.keep _ _ d2 l7
        have lE:=ac.keep _ _ di l9
        have lF:=ac.keep _ _ dV lb
        have gL:=ac.keep _ _ cV lp
        have lK:=ac.keep _ _ bL lt
        have hu:=hs.keep ac.keep ft
        have f7:=ht.keep ac.keep fD
        have hR:=al hP wf fL ac.n ac.keep
        refine hH _ _<|.nil<|l2 _ _<|.seq fun K210 lO=>.seq fun K212 lP=>.region<|.q Z (ak kW Z Z gL Z)<|.q Z (bH (n:=CL.length) er Z f7.slc O (eB _))<|.q Z (ae Z)<|.nil ?_
        refine lP _ _<|.block<|.loopD (X:=Nat × List (Int × Value) × Array MapEntry × Nat) (fun ⟨i,E,es,ck⟩=>[(1,.pointer (some ⟨b4,0,none⟩)),(2,.pointer (some ⟨b9,0,none⟩)),(4,.pointer (some ⟨cc,0,none⟩)),(5,.pointer (some ⟨a4,0,none⟩)),(7,.pointer (some ⟨bR,0,none⟩)),(8,.pointer (some ⟨b3,0,none⟩)),(51,.slice aA ay ar),(52,num ((CL.length:Nat):Int)),(53,num ((i:Nat):Int))]) (fun ⟨i,E,es,ck⟩=>[V.mark D0]) (fun ⟨i,E,es,ck⟩ B=>(i<=CL.length/\dC num es E/\pt CL i E)/\A.le B/\Fresh A B (.slice (some ⟨a2,0,none⟩) acc.length acc.length) 1 (cq LV)/\Fresh A B (.slice aA ay ar) 1 (c9 CL)/\B.get bS=some (.obj true (.map es ck))/\B.get D0=some (.obj true (.deferred (some [])))/\B.get b4=some (.row true [.pointer (some ⟨b,0,none⟩)] 1)/\B.get b9=some (.row true [num ((0:Nat):Int),num ((0:Nat):Int),.slice none 0 0,.slice none 0 0] 4)/\B.get cc=some (.row true [num ((k:Nat):Int),num ((0:Nat):Int),.slice none 0 0,.slice none 0 0] 4)/\B.get a4=some (.row true [.slice (some ⟨a2,0,none⟩) acc.length acc.length] 1)/\B.get bR=some (.row true [.slice aA ay ar] 1)/\B.get b3=some (.row true [.map (some bS)] 1)/\V.blk (.slice (some ⟨a2,0,none⟩) acc.length acc.length) ≠ some bS/\V.blk (.slice aA ay ar) ≠ some bS/\V.blk (.slice (some ⟨a2,0,none⟩) acc.length acc.length) ≠ some D0/\V.blk (.slice aA ay ar) ≠ some D0/\V.blk (.slice (some ⟨a2,0,none⟩) acc.length acc.length) ≠ some b4/\V.blk (.slice aA ay ar) ≠ some b4/\V.blk (.slice (some ⟨a2,0,none⟩) acc.length acc.length) ≠ some b9/\V.blk (.slice aA ay ar) ≠ some b9/\V.blk (.slice (some ⟨a2,0,none⟩) acc.length acc.length) ≠ some cc/\V.blk (.slice aA ay ar) ≠ some cc/\V.blk (.slice (some ⟨a2,0,none⟩) acc.length acc.length) ≠ some a4/\V.blk (.slice aA ay ar) ≠ some a4/\V.blk (.slice (some ⟨a2,0,none⟩) acc.length acc.length) ≠ some bR/\V.blk (.slice aA ay ar) ≠ some bR/\V.blk (.slice (some ⟨a2,0,none⟩) acc.length acc.length) ≠ some b3/\V.blk (.slice aA ay ar) ≠ some b3) (fun ⟨i,E,es,ck⟩=>CL.length - i) (⟨0,[],#[],0⟩) (QT Z Z Z Z Z Z Z Z Z) Z (⟨⟨Nat.zero_le _,dC.nil,pt.start⟩,hR,hu,f7,lK,lF,lw,lB,lC,lE,gL,ac.get,hZ,i2,nvD,hY,(fun q=>by cases q;exact ch rfl),hU,(fun q=>by cases q;exact cB rfl),hV,(fun q=>by cases q;exact c3 Z),hW,eT,hX,fo,fr,ft,fD⟩) ?_
        rintro ⟨i,E,es,ck⟩ B215 ⟨⟨hi,hme,hmi⟩,a5,bm,ab,aa,ag,a7,ai,aY,aI,a9,a6,az,ap,bB,bb,bC,bc,bD,bd,b8,b1,ba,b2,aZ,aS,b0,aT⟩
        refine ao.wf fun c7=>.seq fun K217 lT=>.region<|.q Z (cA Z Z)<|.nil<|lT _ _<|.seq fun K219 lV=>.if rfl (fun nC=>?_) (fun nC=>?_)
        ·
          refine ao.skip<|lV _ _<|.seq fun K222 gM=>.block<|.seq fun K224 lW=>.region<|.q Z (ae Z) ?_
          obtain ⟨pP,pV,pI,q7,pE,q5,q3,kl,nb,kv,pa,hh⟩:=bJ.at (i:=i) ab.slc O3 O
          refine Ops.q Z (aJ er dx Z kl Z nb)<|.q Z (ak fj Z Z kv ((dh hh).trans (df O)))<|.q Z (ah Z)<|.q Z (ah Z)<|.nil<|lW _ _<|.seq fun K227 gN=>.region<|.q Z (ak DB Z Z a6 Z)<|.q Z (ae Z) ?_
          refine Ops.l Z (fun _ _ fd _=>vg (k:=(CL.getD i 0)) rJ Z Z Dh u3 z3 aa hme (fun pL hM=>?_) (fun hL=>?_))
          ·
            refine fd _ _<|.q Z (ae Z)<|.q Z (bf Z Z)<|.q Z (bf Z Z)<|.q Z (ah Z)<|.q Z (ah Z)<|.nil<|gN _ _<|.seq fun K233 lX=>.region ?_
            refine Ops.q Z (ae Z)<|.q Z (eE Z)<|.nil<|lX _ _<|.cond_false Z<|.skip<|gM _ _<|.region<|.q Z (bN (b:=1) Z Z O)<|.q Z (ae Z) ?_
            refine Ops.nil ?_
            exact ⟨⟨i + 1,E,es,ck⟩,QT Z Z Z Z Z Z Z Z Z,Z,⟨⟨by omega,hme,hmi.old O (hmi.in_ hM)⟩,a5,bm,ab,aa,ag,a7,ai,aY,aI,a9,a6,az,ap,bB,bb,bC,bc,bD,bd,b8,b1,ba,b2,aZ,aS,b0,aT⟩,O1⟩
          ·
            refine fd _ _<|.q Z (ae Z)<|.q Z (bf Z Z)<|.q Z (bf Z Z)<|.q Z (ah Z)<|.q Z (ah Z)<|.nil<|gN _ _<|.seq fun K235 lY=>.region ?_
            refine Ops.q Z (ae Z)<|.q Z (eE Z)<|.nil<|lY _ _<|.cond_true Z<|.region<|.q Z (ak DB Z Z a6 Z)<|.q Z (ae Z)<|.q Z (ae Z)<|.l Z (fun _ _ hI _=>m8 (k:=(CL.getD i 0)) rJ c7 rfl rfl rfl Dh u3 aa hme hmi.nd fun A238 hm hg ad hT=>?_)
            have lZ:=ad.keep _ _ dS ag
            have m1:=ad.keep _ _ dZ a7
            have m2:=ad.keep _ _ e2 ai
            have m3:=ad.keep _ _ d1 aY
            have m6:=ad.keep _ _ dd aI
            have mb:=ad.keep _ _ cU a9
            have me:=ad.keep _ _ bL.symm a6
            have hv:=bm.keep ad.keep az
            have hw:=ab.keep ad.keep ap
            have hS:=al a5 wf fI ad.n ad.keep
            refine hI _ _<|.nil<|gM _ _<|.region<|.q Z (bN (b:=1) Z Z O)<|.q Z (ae Z)<|.nil ?_
            exact ⟨⟨i + 1,wI E (CL.getD i 0) (num ((i:Nat):Int)),hm,hg⟩,QT Z Z Z Z Z Z Z Z Z,Z,⟨⟨by omega,hT,hmi.new O (hmi.no_ hL)⟩,hS,hv,hw,ad.get,lZ,m1,m2,m3,m6,mb,me,az,ap,bB,bb,bC,bc,bD,bd,b8,b1,ba,b2,aZ,aS,b0,aT⟩,O1⟩
        ·
          refine ao.exit<|lO _ _<|.seq fun K253 mm=>.drawn [0,1,2,3,4,5,6,7,8,9,10,11,12,13,14] mixed Y Y Z<|.q Z Z Z (ak lS Z Z a7 Z)<|.q Z Z Z (c8 Z)<|.q Z Z Z (aj xj dx U Z)<|.q Z Z Z (ak fj Z Z (a5.get _ _ hb) Z)<|.q Z Z Z (ak kW Z Z a9 Z) ?_
          obtain ⟨pS,q1,pJ,q8,pF,q6,q4,km,nj,kC,pe,hl⟩:=bJ.at (i:=0) ab.slc O3 O
          refine bj.q Z Z Z (aJ er dx Z km Z nj)<|.q Z Z Z (ak fj Z Z kC ((dh hl).trans (df O)))<|.q Z Z Z (lg Z Z)<|.q Z Z Z (lg Z Z) ?_
          have gS:ro B215 b3 CL:=⟨_,_,_,_,_,_,E,a6,aa,hme,hmi.all O⟩
          refine bj.l Z Z Z (fun _ _ hJ _=>aK Z (wA k 20001 N.length (N.length + 1) ((CL.getD 0 0)) 185 186 #[.pointer (some ⟨b4,0,none⟩),.pointer (some ⟨b3,0,none⟩),.pointer (some ⟨a4,0,none⟩),.pointer (some ⟨bR,0,none⟩)] #[.pointer (some ⟨b4,0,none⟩),.pointer (some ⟨b3,0,none⟩)] (js LV N CL) (fun c=>acc.getD (jq CL c) false) (fun q=>q ∈ CL) B215 O ⟨by omega,by omega,by omega⟩ (bx O) (fun q c t=>KU (lv:=LV) bT eC q c t) (fun Q hn hQ=>sk hn (fun q hq=>mV q (hQ q hq))) (fun q c B hq hc le wfB=>RG q c b3 bR _ _ (.slice aA ay ar) CL a4 b4 _ _ _ _ (.slice (some ⟨a2,0,none⟩) acc.length acc.length) LV b rwb capb k av nv fv bv acc N rows B (le.get _ _ aI) (le.get _ _ a7) (bm.slc.le le) eG bT ((a5.trans le).get _ _ hb) (hav.le (a5.trans le)) (hnv.le (a5.trans le)) hrl (fun i hi=>(hF i hi).le (a5.trans le)) (gS.le le) (le.get _ _ a9) (ab.slc.le le) eC hq hc) (fun q B hq le wfB=>RH q b3 b4 _ _ CL b rwb capb k av nv fv bv acc N rows B (le.get _ _ a7) bT ((a5.trans le).get _ _ hb) (hav.le (a5.trans le)) (hnv.le (a5.trans le)) hrl (fun i hi=>(hF i hi).le (a5.trans le)) (gS.le le) eC hq)) ?_)
          rintro qp A262 ⟨aG,nK,nT,nM,nL,nU,rfl,bY,h7,cb,aC,aV,bO,a8,h8,h9,ha,eg,en,ev⟩
          have mt:=bY.get _ _ ag
          have mv:=bY.get _ _ a7
          have mx:=bY.get _ _ ai
          have fl:=a5.trans bY
          have xr:=cb
          have xn:=aC
          have xa:=aV
          have xv:=bO
          have xf:=a8
          have y1:=h8
          have y2:=h9
          have y3:=ha
          have y4:=eg
          have y5:=en
          have y6:=ev
          have hEX:fG k (js LV N CL) (N.length + 1) 0 [CL.getD 0 0] []=Bn k acc N:=by rw [hLV,hCL];rfl
          rw [hEX] at aV a8
          have fN:bS ≠ aG:=fun z=>by have q0:=aa;rw [z,aC] at q0;cases q0
          have h0:D0 ≠ aG:=fun z=>by have q0:=ag;rw [z,aC] at q0;cases q0
          have h5:b4 ≠ aG:=fun z=>by have q0:=a7;rw [z,aC] at q0;cases q0
          have h6:b9 ≠ aG:=fun z=>by have q0:=ai;rw [z,aC] at q0;cases q0
          have fQ:cc ≠ aG:=fun z=>by have q0:=aY;rw [z,aC] at q0;cases q0
          have fR:a4 ≠ aG:=fun z=>by have q0:=aI;rw [z,aC] at q0;cases q0
          have fM:bR ≠ aG:=fun z=>by have q0:=a9;rw [z,aC] at q0;cases q0
          have fO:b3 ≠ aG:=fun z=>by have q0:=a6;rw [z,aC] at q0;cases q0
          have pj:=a8.ne aa
          have ih:=aV.ne c7 ag
          have it:=bO.ne c7 ag
          have iF:=a8.ne ag
          have pl:=a8.ne a7
          have iv:=aV.ne c7 ai
          have iD:=bO.ne c7 ai
          have iH:=a8.ne ai
          have pp:=a8.ne aY
          have pu:=a8.ne aI
          have pv:=a8.ne a9
          have pA:=a8.ne a6
          have hxl:=Jh bT O
          refine hJ _ _ (aO.none Y)<|.q Z Z Z (ae Z)<|.q Z Z Z (bf Z Z)<|.q Z Z Z (bf Z Z)<|.q Z Z Z (ah Z)<|.q Z Z Z (ah Z)<|.done<|mm _ _<|.seq fun K303 mB=>.seq fun K305 mE=>?_
          refine ao.region<|.q Z (ae Z)<|.q Z (eE Z)<|.q Z (ae Z)<|.on Z Z<|.q Z (ae Z)<|.on Z Z<|.q Z (c8 Z)<|.on Z Z<|.q Z (aj jm iB U Z) ?_
          refine Ops.on Z Z<|.q Z (ak iu Z Z cb Z)<|.on Z Z<|.q Z (bH (n:=((Bn k acc N).1.map (fun c=>acc.getD (jq CL c) false)).length) kR Z (aV.base a5).slc O (ff _))<|.on Z Z<|.q Z (fu (b:=20000) Z Z)<|.q Z (bw Z Z)<|.nil<|mE _ _<|.if rfl (fun nD=>?_) (fun nD=>?_)
          ·
            refine ao.seq fun K308 q2=>?_
            exfalso;have:=hxl;simp only [List.length_map] at *;omega
          ·
            refine ao.skip<|mB _ _<|.seq fun K310 mK=>.drawn [0,1,2,3,4,5,6,7,8,9,10,11,12,13,14] mixed Y Y Z<|.q Z Z Z (ak lS Z Z mv Z)<|.q Z Z Z (c8 Z)<|.q Z Z Z (aj xj dx U Z)<|.q Z Z Z (ak fj Z Z (fl.get _ _ hb) Z)<|.q Z Z Z (ae Z)<|.q Z Z Z (c8 Z) ?_
            refine bj.q Z Z Z (aj jm iB U Z)<|.q Z Z Z (ak iu Z Z cb Z)<|.q Z Z Z (ae Z)<|.q Z Z Z (c8 Z)<|.q Z Z Z (aj o6 iQ U Z)<|.q Z Z Z (ak jN Z Z cb Z) ?_
            obtain ⟨eV,eN,ex,nH,_⟩:=(aV.base a5).own.slice
            subst nH
            obtain ⟨eX,eQ,ey,nJ,_⟩:=(bO.base a5).own.slice
            subst nJ
            refine bj.q Z Z Z (cR Z (aU Tv IU Ks Z))<|.l Z Z Z (fun _ _ hK _=>aM (cs:=[num ((k:Nat):Int),num ((0:Nat):Int),.slice eV eN ex,.slice eX eQ ey]) (c':=[num ((k:Nat):Int),num ((0:Nat):Int),.slice eV eN ex,.slice eX eQ ey]) h7 rfl rfl rfl rfl jH mx (Nat.le_of_ble_eq_true rfl) rfl rfl fun A319 bA=>?_)
            have mM:=bA.keep _ _ aF mt
            have hx:=(aV.base a5).keep bA.keep iv
            have hy:=(bO.base a5).keep bA.keep iD
            have ho:=(a8.base a5).keep bA.keep iH
            have fm:=al fl wf dw bA.n bA.keep
            refine hK _ _ (aO.none Y)<|.q Z Z Z (ah Z)<|.done<|mK _ _<|.ret ?_
            (repeat first | with_reducible refine bE ?_ | with_reducible refine bk ?_);(repeat first | with_reducible refine fa ?_ | with_reducible refine ep ?_ | with_reducible refine dX U ?_ | with_reducible refine dY ?_ | with_reducible refine dt ?_);have cf:LV.getD 0 false=true:=(by first | assumption | simpa using ‹(!LV.getD 0 false)=false›);refine ⟨[D0],rfl,(by simp),(fun E hE=>by rw [List.mem_singleton] at hE;subst hE;exact mM),[.agg #[num ((k:Nat):Int),num ((0:Nat):Int),.slice eV eN ex,.slice eX eQ ey],.bool (true)],fun A2 dv e9 dj=>?_⟩;have hkD:∀ b o,b ≠ D0->A319.get b=some o->A2.get b=some o:=fun b o hb h=>dj b o (by simpa using hb) h;exact ⟨dE px jH Z (hkD _ _ aF.symm bA.get) Z (ei Z eh),⟨_,Z,_,_,_,Z,⟨by rw [e9];exact fm.n,fun b o h=>hkD b o (by have:=wf _ _ h;omega) (fm.get _ _ h)⟩,dv,c6 (hx.keep hkD ih) (congrArg cq (by rw [yB (by rw [<- hLV];exact cf),hCL])),hy.keep hkD it,lD (ho.keep hkD iF) (by rw [yB (by rw [<- hLV];exact cf)]),eg,en,ev⟩⟩
end Go.Proofs.YtjppkekmddjcfaaGreatDoor

namespace Go.Proofs.YtjppkekmddjcfaaGreatDoor
open Go Go.RowKit V
def tp (k n:Nat) (R:List (List Int)):Prop:=∀ r ∈ R,r.length=k/\∀ m ∈ r,-1<=m/\m < (n:Int)
theorem tp.mono {k n n':Nat} {R:List (List Int)} (h:tp k n R) (hn:n<=n'):tp k n' R:=fun r hr=>⟨(h r hr).1,fun m hm=>by have:=(h r hr).2 m hm;omega⟩
theorem ud {step:Int->Nat->Option Int} {q:Int}:∀ (l:List Nat) (r:List Int × List Int),(∀ m ∈ r.1,-1<=m/\m < (r.2.length:Int)) ->
    (l.foldl (gk step q) r).1.length=r.1.length + l.length/\r.2.length<=(l.foldl (gk step q) r).2.length/\∀ m ∈ (l.foldl (gk step q) r).1,-1<=m/\m < ((l.foldl (gk step q) r).2.length:Int)
  | [],r,h=>⟨rfl,Nat.le_refl _,h⟩
  | c :: l,r,h=>by
    rw [List.foldl_cons]
    have key:(gk step q r c).1.length=r.1.length + 1/\r.2.length<=(gk step q r c).2.length/\∀ m ∈ (gk step q r c).1,-1<=m/\m < ((gk step q r c).2.length:Int):=by
      unfold gk
      split
      · refine ⟨by simp,Nat.le_refl _,fun m hm=>?_⟩
        rcases List.mem_append.1 hm with z | z
        · exact h m z
        · rw [List.mem_singleton] at z;subst z;exact ⟨Int.le_refl _,by show (-1:Int) < (r.2.length:Int);omega⟩
      · rename_i t _
        split
        · rename_i ht
          refine ⟨by simp,Nat.le_refl _,fun m hm=>?_⟩
          rcases List.mem_append.1 hm with z | z
          · exact h m z
          · rw [List.mem_singleton] at z;subst z;have:=List.idxOf_lt_length_iff.2 ht;exact ⟨by omega,by show ((r.2.idxOf t:Nat):Int) < (r.2.length:Int);omega⟩
        · refine ⟨by simp,by simp,fun m hm=>?_⟩
          show -1<=m/\m < ((r.2 ++ [t]).length:Int)
          rw [List.length_append,List.length_singleton]
          rcases List.mem_append.1 hm with z | z
          · have:=h m z;omega
          · rw [List.mem_singleton] at z;subst z;exact ⟨by omega,by omega⟩
    obtain ⟨k1,k2,k3⟩:=key
    obtain ⟨g1,g2,g3⟩:=ud l (gk step q r c) k3
    exact ⟨by rw [g1,k1,List.length_cons];omega,Nat.le_trans k2 g2,g3⟩
theorem sg {k:Nat} {step:Int->Nat->Option Int} {D:Int->Prop} {bd:Nat} (hDs:∀ q c t,D q->c < k->step q c=some t->D t) (hfin:∀ Q:List Int,Q.Nodup->(∀ q ∈ Q,D q)->Q.length<=bd) :
    ∀ (f i:Nat) (Q:List Int) (R:List (List Int)),Q.Nodup->(∀ q ∈ Q,D q)->bd < f + i->R.length=i->i<=Q.length->tp k Q.length R ->
      (fG k step f i Q R).2.length=(fG k step f i Q R).1.length/\tp k (fG k step f i Q R).1.length (fG k step f i Q R).2
  | 0,i,Q,R,h1,h2,h3,h4,h5,h6=>by have:=hfin Q h1 h2;exact ⟨by show R.length=Q.length;omega,h6⟩
  | f + 1,i,Q,R,h1,h2,h3,h4,h5,h6=>by
    unfold fG;split
    · rename_i hi
      obtain ⟨g1,g2⟩:=uc hDs (h2 _ (bx (d:=(0:Int)) hi)) (List.range k) ([],Q) (fun c hc=>List.mem_range.1 hc) h1 h2
      obtain ⟨r1,r2,r3⟩:=ud (step:=step) (q:=Q.getD i 0) (List.range k) ([],Q) (fun m hm=>by cases hm)
      refine sg hDs hfin f (i + 1) _ _ g1 g2 O (by simp [h4]) (Nat.le_trans hi r2) fun r hr=>?_
      rcases List.mem_append.1 hr with z | z
      · exact h6.mono r2 r z
      · rw [List.mem_singleton] at z;subst z
        exact ⟨by rw [show (JC k step (Q.getD i 0) Q).1.length=_ from r1];simp,r3⟩
    · exact ⟨by show R.length=Q.length;omega,h6⟩
theorem vf {k:Nat} {acc:List Bool} {L:List (List Int)} (h:I3 k acc L) (q:Int) (c:Nat) (t:Int) (hq:-1<=q/\q < (L.length:Int)) (hc:c < k) (e:mP L q c=some t):-1<=t/\t < (L.length:Int):=by
  simp only [mP,Option.some.injEq] at e
  subst e
  split
  · exact ⟨by omega,by have:=h.num;omega⟩
  · have:=h.val q.toNat c O hc;exact ⟨by omega,by omega⟩
theorem MA {k:Nat} {acc:List Bool} {L:List (List Int)} (h:I3 k acc L):AO k (ve k acc L) (gI k L).2/\(gI k L).2.length<=L.length + 1:=by
  have hn:=h.num
  have h0:∀ q ∈ ([0]:List Int),-1<=q/\q < (L.length:Int):=fun q hq=>by rw [List.mem_singleton] at hq;subst hq;omega
  obtain ⟨g1,g2⟩:=rA (D:=fun q=>-1<=q/\q < (L.length:Int)) (k:=k) (vf h) (L.length + 2) 0 [0] [] (by simp) h0
  obtain ⟨r1,r2⟩:=sg (D:=fun q=>-1<=q/\q < (L.length:Int)) (bd:=L.length + 1) (k:=k) (vf h) (fun Q h1 h2=>pN h1 h2) (L.length + 2) 0 [0] [] (by simp) h0 O Z (by simp) (fun r hr=>by cases hr)
  have hb:=pN g1 g2
  have hr:∀ s,s < (gI k L).2.length->((gI k L).2.getD s []).length=k/\∀ m ∈ (gI k L).2.getD s [],-1<=m/\m < ((gI k L).1.length:Int):=fun s hs=>r2 _ (bx hs)
  refine ⟨⟨h.sym,by rw [ve,List.length_map];exact r1.symm,by have:(gI k L).2.length=(gI k L).1.length:=r1;have:(gI k L).1.length<=L.length + 1:=hb;omega,fun s hs=>(hr s hs).1,fun s x hs hx=>?_⟩,by have:(gI k L).2.length=(gI k L).1.length:=r1;have:(gI k L).1.length<=L.length + 1:=hb;omega⟩
  have:=hr s hs
  have h2:=this.2 (gR (gI k L).2 s x) (bx (by rw [this.1];exact hx))
  have:(gI k L).2.length=(gI k L).1.length:=r1
  omega
end Go.Proofs.YtjppkekmddjcfaaGreatDoor

namespace Go.Proofs.YtjppkekmddjcfaaGreatDoor
open Go Go.RowKit V
set_option maxRecDepth 100000
set_option maxHeartbeats 4000000


theorem LZ (b:Nat) (rwb:Bool) (capb k:Nat) (av nv fv bv:Value) (acc:List Bool) (N:List (List Int)) (rows:List Value) (A:AH) (hok:AO k acc N) (hN:N.length<=20000) (hb:A.get b=some (.row rwb [num (k:Int),av,nv,fv,bv] capb)) (hav:bJ A 1 av (cq acc)) (hnv:bJ A 1 nv (em rows)) (hrl:rows.length=N.length) (hF:∀ i,i < N.length->bJ A 1 (rows.getD i undef) (c9 (N.getD i []))):bG Tryz.prog 117 #[.pointer (some ⟨b,0,none⟩),.bool (true)] A (fun v A1=>∃ av2 nv2 rows2,v=.tuple #[.agg #[num (k:Int),num ((0:Nat):Int),av2,nv2],num ((0:Nat):Int)]/\A.le A1/\A1.wf/\Fresh A A1 av2 1 (cq (wW k acc N).1)/\Fresh A A1 nv2 1 (em rows2)/\kg A A1 rows2 (wW k acc N).2/\bh av2 nv2/\aq av2 rows2/\aq nv2 rows2):=by
 refine lN Tryz.call117 Tryz.func117 Z Tryz.results117 Tryz.ntmps117 Z (fun wf=>?_);have aC:=AH.le.refl A;refine ao.seq fun _ h2=>.region<|.l Z (fun _ _ br _=>ca wf IU rfl fun A5 b4 a1=>?_);have aA:=aL wf (Nat.le_trans aC.n a1.lo);have D:=aC.trans a1.le;refine br _ _<|.q Z (ah Z)<|.nil<|h2 _ _<|.seq fun _ h9=>.seq fun _ ba=>.region<|.q Z (ae Z)<|.q Z (eE Z)<|.nil ?_;refine ba _ _<|.cond_false Z<|.skip<|h9 _ _<|.seq fun _ bb=>.region<|.q Z (ae Z)<|.l Z (fun _ _ aS _=>aK Z (Px b _ _ k av nv fv bv acc N rows A5 hok hN (D.get _ _ hb) (hav.le D) (hnv.le D) hrl (fun i hi=>(hF i hi).le D)) ?_);rintro bP A16 ⟨b9,bu,bC,rfl,ad,a0,a2,a4,a3,a6,a7,a8⟩;have aB:=ad.get _ _ a1.get;have az:=D.trans ad;have xa:=a2;have xv:=a4;have xf:=a3;have bL:=a6;have bM:=a7;have bO:=a8;have b2:=a2.ne a1.wf a1.get;have b3:=a4.ne a1.wf a1.get;have b7:=a3.ne a1.get;refine aS _ _<|.q Z (ae Z)<|.q Z (bf Z Z)<|.q Z (bf Z Z)<|.l Z (fun _ _ aT _=>ca a0 IU rfl fun A25 bD h=>?_);have a5:=ne_new a0 aB h.lo;have b5:=(a2.base D).own.ne_new a0 h.lo;have b6:=(a4.base D).own.ne_new a0 h.lo;have b8:=(a3.base D).ne_new a0 h.lo;have ay:=aL wf (Nat.le_trans az.n h.lo);have bc:=h.le.get _ _ aB;have ap:=(a2.base D).le h.le;have ar:=(a4.base D).le h.le;have aD:=(a3.base D).le h.le;have aZ:=az.trans h.le;refine aT _ _ ?_;obtain ⟨ag,ab,a9,bA,_⟩:=ap.own.slice;subst bA;obtain ⟨ai,ac,aa,bB,_⟩:=ar.own.slice;subst bB;refine Ops.l Z (fun _ _ aV _=>aM (cs:=[num ((k:Nat):Int),num ((0:Nat):Int),.slice ag ab a9,.slice ai ac aa]) (c':=[num ((k:Nat):Int),num ((0:Nat):Int),.slice ag ab a9,.slice ai ac aa]) h.wf rfl rfl rfl rfl jH h.get (Nat.le_of_ble_eq_true rfl) rfl rfl fun A38 V=>?_);have bd:=V.keep _ _ a5 bc;have aG:=ap.keep V.keep b5;have aI:=ar.keep V.keep b6;have aE:=aD.keep V.keep b8;have b0:=al aZ wf ay V.n V.keep;refine aV _ _<|.q Z (ah Z)<|.nil<|bb _ _<|.seq fun _ bl=>.seq fun _ bm=>.region<|.q Z (ae Z)<|.q Z (eE Z)<|.nil ?_;refine bm _ _<|.cond_false Z<|.skip<|bl _ _<|.seq fun _ bp=>.region<|.q Z (am px jH Z Z V.get Z)<|.l Z (fun _ _ aY _=>aM (cs:=[num ((k:Nat):Int),num ((0:Nat):Int),.slice ag ab a9,.slice ai ac aa]) (c':=[num ((k:Nat):Int),num ((0:Nat):Int),.slice ag ab a9,.slice ai ac aa]) V.wf rfl rfl rfl rfl jH bd (Nat.le_of_ble_eq_true rfl) rfl rfl fun A52 X=>?_);have aP:=aG.keep X.keep b2;have aR:=aI.keep X.keep b3;have aF:=aE.keep X.keep b7;have b1:=al b0 wf aA X.n X.keep;refine aY _ _<|.q Z (ah Z)<|.nil<|bp _ _<|.ret ?_;repeat first | with_reducible refine bE ?_ | with_reducible refine bk ?_
 exact be (dE px jH Z X.get Z (ei Z eh)) (⟨_,_,_,Z,b1,X.wf,aP,aR,aF,a6,a7,a8⟩)

theorem LI (k:Nat) (acc:List Bool) (L:List (List Int)) (av nv:Value) (rows:List Value) (A:AH) (hL:L.length<=19000) (hok:I3 k acc L) (hav:bJ A 1 av (cq acc)) (hnv:bJ A 1 nv (em rows)) (hrl:rows.length=L.length) (hF:∀ i,i < L.length->bJ A 1 (rows.getD i undef) (c9 (L.getD i []))):bG Tryz.prog 79 #[.agg #[num ((k:Nat):Int),num ((0:Nat):Int),av,nv]] A (fun v A1=>∃ av2 nv2 rows2,v=.tuple #[.agg #[num (k:Int),num ((0:Nat):Int),av2,nv2],num ((0:Nat):Int)]/\A.le A1/\A1.wf/\Fresh A A1 av2 1 (cq (Nf k acc L).1)/\Fresh A A1 nv2 1 (em rows2)/\kg A A1 rows2 (Nf k acc L).2/\bh av2 nv2/\aq av2 rows2/\aq nv2 rows2):=by
 refine iy Tryz.call79 Tryz.func79 Z Tryz.results79 Tryz.ntmps79 Z (fun wf=>?_);have c3:=AH.le.refl A;have aD:=hok;obtain ⟨hmk,hml⟩:=MA hok;refine ao.seq fun _ h2=>.region<|.l Z (fun _ _ bV _=>ej wf rfl rfl fun A5 b4 aE=>?_);have b8:=c3.trans aE.le;refine bV _ _<|.l Z (fun _ _ bY _=>ca aE.wf IU rfl fun A10 b9 a8=>?_);have aR:=aL wf (Nat.le_trans b8.n a8.lo);have b5:=a8.le.get _ _ aE.get;have a5:=b8.trans a8.le;refine bY _ _<|.q Z (ah Z)<|.nil<|h2 _ _<|.seq fun _ bP=>.seq fun _ bR=>.region<|.q Z (am px jH Z Z b5 Z)<|.l Z (fun _ _ bp _=>aK Z (LJ k acc L av nv rows A10 aD (hav.le a5) (hnv.le a5) hrl (fun i hi=>(hF i hi).le a5)) ?_);rintro cP A20 ⟨rfl,a6,cf⟩;have ap:=a6.get _ _ b5;have aC:=a6.get _ _ a8.get;have h:=a5.trans a6;refine bp _ _<|.q Z (((fF (a:=0) (b:=0) Z Z).trans (congrArg (fun z=>some (Value.bool z,[])) (decide_eq_false (fun q=>q Z)))))<|.nil<|bR _ _<|.cond_false Z<|.skip<|bP _ _<|.seq fun _ bS=>.region<|.q Z (am px jH Z Z ap Z) ?_;refine Ops.l Z (fun _ _ br _=>aK Z (PK k acc L av nv rows A20 aD (hav.le h) (hnv.le h) hrl (fun i hi=>(hF i hi).le h)) ?_);rintro cS A29 ⟨a4,az,aF,aB,aA,aG,rfl,a7,ay,ab,aa,a9,ac,V,aS,aT,aV,aY,aZ,b0⟩;have bT:=a7.get _ _ ap;have ar:=a7.get _ _ aC;have a1:=h.trans a7;have xr:=ab;have xn:=aa;have xa:=a9;have xv:=ac;have xf:=V;have w1:=aS;have w2:=aT;have w3:=aV;have w4:=aY;have w5:=aZ;have w6:=b0;have aI:b4 ≠ a4:=fun z=>by have q0:=ap;rw [z,aa] at q0;cases q0
 have aP:b9 ≠ a4:=fun z=>by have q0:=aC;rw [z,aa] at q0;cases q0
 have cv:=V.ne ap;have bL:=V.ne aC;refine br _ _<|.l Z (fun _ _ bu _=>aK Z (LZ a4 _ _ k az aF aB aA (ve k acc L) ((gI k L).2) aG A29 hmk O ab (a9.base h).slc (ac.base h).slc (V.base h).len (fun i hi=>((V.base h).fr i hi).slc)) ?_);rintro cU A42 ⟨bO,c4,cc,rfl,X,b1,a2,a3,a0,ad,ag,ai⟩;have bU:=X.get _ _ ar;have ck:=(a9.base h).le X;have cu:=(ac.base h).le X;have bc:=(V.base h).le X;have bA:=a1.trans X;have xa:=a2;have xv:=a3;have xf:=a0;have cF:=ad;have cH:=ag;have cK:=ai;have cB:=a0.ne bT;have bC:=a2.ne ay ar;have bD:=a3.ne ay ar;have bM:=a0.ne ar;have cC:=a0.ne ab;refine bu _ _<|.q Z (bf Z Z)<|.q Z (bf Z Z) ?_;obtain ⟨ba,b6,b2,c7,_⟩:=(a2.base a1).own.slice;subst c7;obtain ⟨bb,b7,b3,cb,_⟩:=(a3.base a1).own.slice;subst cb;refine Ops.l Z (fun _ _ bv _=>aM (cs:=[num ((k:Nat):Int),num ((0:Nat):Int),.slice ba b6 b2,.slice bb b7 b3]) (c':=[num ((k:Nat):Int),num ((0:Nat):Int),.slice ba b6 b2,.slice bb b7 b3]) b1 rfl rfl rfl rfl jH bU (Nat.le_of_ble_eq_true rfl) rfl rfl fun A63 D=>?_);have bl:=(a2.base a1).keep D.keep bC;have bm:=(a3.base a1).keep D.keep bD;have ch:=bc.keep D.keep bL;have bd:=(a0.base a1).keep D.keep bM;have bB:=al bA wf aR D.n D.keep;refine bv _ _<|.q Z (ah Z)<|.nil<|bS _ _<|.ret ?_;repeat first | with_reducible refine bE ?_ | with_reducible refine bk ?_
 exact be (dE px jH Z D.get Z (ei Z eh)) (⟨_,_,_,Z,bB,D.wf,bl,bm,bd,ad,ag,ai⟩)
end Go.Proofs.YtjppkekmddjcfaaGreatDoor

namespace Go.Proofs.YtjppkekmddjcfaaGreatDoor
open Go Go.RowKit V
def vj (g:Int) (rs:List au):List Wd:=(aW g rs).map (·.1)
def Fb (g:Int) (l:List Wd) (rs:List au):Nat:=if cx g l rs then 2 * g.toNat else 0
def ru (g:Int) (l:List Wd) (rs:List au):Nat:=if cx g l rs then 0 else 100
def AX (g:Int) (l:List Wd) (rs:List au):List Bool × List (List Int):=if cx g l rs then Nf (2 * g.toNat) (MW (2 * g.toNat) (vj g rs)) (MY (2 * g.toNat) (vj g rs)) else ([],[])
section
variable {g:Int} {l:List Wd} {rs:List au} {gn i k:Nat} {w:Wd}
theorem wR (h:(!cx g l rs)=true):Fb g l rs=0/\ru g l rs=100/\AX g l rs=([],[]):=by
  have h:cx g l rs=false:=by simpa using h
  simp [Fb,ru,AX,h]
theorem sQ (h:cx (gn:Int) l rs=true):Fb gn l rs=2 * gn/\ru gn l rs=0/\AX gn l rs=Nf (2 * gn) (MW (2 * gn) (vj gn rs)) (MY (2 * gn) (vj gn rs)):=by
  simp [Fb,ru,AX,h]
theorem vd (h:co g w=0):∀ c ∈ w,0<=ix c/\ix c < 2 * g:=fun c hc=>by
  unfold co at h
  split at h
  · cases h
  · split at h
    · cases h
    · split at h
      · rename_i q
        have:=List.all_eq_true.1 q c hc
        simpa [qe] using this
      · cases h
theorem J6:∀ x,x < 16->ix (c5.getD x 0)=x:=by decide
theorem Ol:∀ x,x < 16->x ^^^ 1 < 16/\(x ^^^ 1) / 2=x / 2:=by decide
theorem vA (hs:cx (gn:Int) l rs=true):∀ s ∈ aW (gn:Int) rs,∀ c ∈ s.1,0<=ix c/\ix c < ((2 * gn:Nat):Int):=fun s hm c hc=>by
  have hg:=ri hs
  rcases List.mem_append.1 hm with z | z
  · obtain ⟨r,hr,rfl⟩:=List.mem_map.1 z
    have:=vd (rf (gx ((ir hs).2.2.1 r hr)).1) c hc
    omega
  · obtain ⟨x,hx,rfl⟩:=List.mem_map.1 z
    have hx:=List.mem_range.1 hx
    rw [Int.toNat_natCast] at hx
    have h1:=Ol x O
    simp only [Oh,List.mem_cons,List.not_mem_nil,or_false] at hc
    rcases hc with rfl | rfl
    · rw [J6 x O];omega
    · rw [J6 _ h1.1];omega
theorem EU:(vj g rs).length=(aW g rs).length:=by simp [vj]
theorem MH (hi:i < (aW g rs).length):(vj g rs).getD i []=((aW g rs).getD i ([],[])).1:=by
  simp [vj,List.getD_eq_getElem?_getD,hi]
theorem Sc (hs:cx g l rs=true):∀ w ∈ vj g rs,w ≠ []:=fun w hw e=>by
  obtain ⟨s,h1,rfl⟩:=List.mem_map.1 hw
  have:=(pr (ri hs) (u7 hs) s h1).1
  rw [e] at this;simp at this
theorem TI.next2 {L:List (List Int)} {E:List Bool} (h:TI k (vj g rs) i L E) (hi:i < (aW g rs).length) (hw:∀ c ∈ ((aW g rs).getD i ([],[])).1,0<=ix c/\ix c < k):TI k (vj g rs) (i + 1) (vt k L E ((aW g rs).getD i ([],[])).1) (vr k L E ((aW g rs).getD i ([],[])).1):=by
  have:=h.next (by rw [EU];exact hi) (by rw [MH hi];exact hw)
  rwa [MH hi] at this
end
section
variable {k:Nat} {L:List (List Int)} {E:List Bool} {W S:List (List Nat)}
theorem NR {s x:Nat} (hs:s < L.length) (hx:x < (L.getD s []).length):gR (L.map (eD E)) s x=if E.getD (gR L s x).toNat false then -1 else gR L s x:=by
  unfold gR
  have e:(L.map (eD E)).getD s []=eD E (L.getD s []):=by simp [List.getD_eq_getElem?_getD,hs]
  rw [e,eD]
  have:((L.getD s []).map fun m=>if E.getD m.toNat false=true then -1 else m).getD x 0=(fun m:Int=>if E.getD m.toNat false=true then -1 else m) ((L.getD s []).getD x 0):=by
    simp only [List.getD_eq_getElem?_getD,List.getElem?_map]
    have:x < (L[s]?.getD []).length:=by simpa [List.getD_eq_getElem?_getD] using hx
    simp [this]
  rw [this]
theorem QE (h:Sl k L E W S) (hk:1<=k/\k<=400) (hn:W.length<=19000):I3 k (E.map fun e=>!e) (L.map (eD E)):=by
  have h1:=h.len
  have h2:=h.pos
  refine ⟨hk,by simp;omega,by simp;omega,fun s hs=>?_,fun s x hs hx=>?_⟩
  · rw [List.length_map] at hs
    rw [show (L.map (eD E)).getD s []=eD E (L.getD s []) by simp [List.getD_eq_getElem?_getD,hs],mI]
    exact h.row s O
  · rw [List.length_map] at hs ⊢
    have hr:=h.row s O
    rw [NR hs O]
    have:=h.to s x O hx
    split
    · omega
    · omega
theorem Sl.at (h:Sl k L E W S) {s x:Nat} (hs:s < W.length) (hx:x < k):0<=(L.getD s []).getD x 0/\((L.getD s []).getD x 0).toNat < W.length:=by
  have:=h.to s x hs hx
  simp only [gR] at this
  omega
end
theorem Gy {E:List Bool} {s:Nat} (h:s < E.length):(E.take s).map (fun e=>!e) ++ [!E.getD s false]=(E.take (s + 1)).map fun e=>!e:=od (z:=false) (fun e=>!e) h
end Go.Proofs.YtjppkekmddjcfaaGreatDoor

namespace Go.Proofs.YtjppkekmddjcfaaGreatDoor
open Go Go.RowKit V
set_option maxRecDepth 100000
set_option maxHeartbeats 4000000
theorem Sq:dF Tryz.prog 123=some true:=by kernel_rfl
theorem SK:dq Tryz.prog 119=some [(0,1),(1,1)]:=by kernel_rfl
theorem Ua:type_of% @Tryz.underlying119:=@Tryz.underlying119
theorem Uj:cO Tryz.prog 119=some (.agg #[.slice none 0 0,.slice none 0 0]):=by kernel_rfl

theorem Qy (g:Int) (u:Value) (l:List (List UInt8)) (rv:Value) (rs:List au) (A:AH) (hn:l.length<=9223372036854775807) (hm:rs.length<=9223372036854775807) (hln:cx g l rs=true->kJ (vj g rs)<=18000) (hL:eF A) (hu:bJ A 1 u (dc l)) (hr:bJ A 3 rv (ci rs)) (hp:Proofs A rs):bG Tryz.prog 33 #[.agg #[num (g),u,rv]] A (fun v A1=>∃ av2 nv2 rows2,v=.tuple #[.agg #[num ((Fb g l rs:Nat):Int),num ((0:Nat):Int),av2,nv2],num ((ru g l rs:Nat):Int)]/\A.le A1/\A1.wf/\Fresh A A1 av2 1 (cq (AX g l rs).1)/\Fresh A A1 nv2 1 (em rows2)/\kg A A1 rows2 (AX g l rs).2/\bh av2 nv2/\aq av2 rows2/\aq nv2 rows2):=by
 refine iy Tryz.call33 Tryz.func33 Z Tryz.results33 Tryz.ntmps33 Z (fun wf=>?_);have Fn:=AH.le.refl A;refine ao.seq fun _ h2=>.region<|.l Z (fun _ _ x9 _=>ej wf rfl rfl fun A5 b4 oN=>?_);have xr:=Fn.trans oN.le;refine x9 _ _<|.l Z (fun _ _ Fm _=>ca oN.wf IU rfl fun A10 b9 hI=>?_);have m1:=aL wf (Nat.le_trans xr.n hI.lo);have x7:=hI.le.get _ _ oN.get;have gm:=xr.trans hI.le;refine Fm _ _<|.q Z (ah Z)<|.nil<|h2 _ _<|.seq fun _ ET=>.seq fun _ EV=>.region<|.q Z (am dn cT Z Z x7 Z)<|.l Z (fun _ _ Ck _=>aK Z (i3 ((g)) u l rv rs A10 hn hm (hL.le gm) (hu.le gm) (hr.le gm) (hp.le gm)) ?_);rintro MB A20 ⟨rfl,hG,g9⟩;have nD:=hG.get _ _ x7;have nE:=hG.get _ _ hI.get;have k2:=gm.trans hG;refine Ck _ _<|.q Z (eE Z)<|.nil<|EV _ _<|.ifB Z (fun Fo=>?_) (fun Fo=>?_)
 ·refine ao.seq fun _ EX=>.region<|.q Z (cR Z (aU Tv IU Ks Z))<|.l Z (fun _ _ Cp _=>aM (cs:=[num ((0:Nat):Int),num ((0:Nat):Int),.slice none 0 0,.slice none 0 0]) (c':=[num ((0:Nat):Int),num ((0:Nat):Int),.slice none 0 0,.slice none 0 0]) g9 rfl rfl rfl rfl jH nE (Nat.le_of_ble_eq_true rfl) rfl rfl fun A29 hO=>?_);have Dv:=al k2 wf m1 hO.n hO.keep;refine Cp _ _<|.q Z (ah Z)<|.nil<|EX _ _<|.ret ?_;repeat first | with_reducible refine bE ?_ | with_reducible refine bk ?_
  exact be (dE px jH Z hO.get Z (ei Z eh)) (⟨_,_,[],by rw [(wR ‹_›).1,(wR ‹_›).2.1];rfl,Dv,hO.wf,c6 (Fresh.nil _ _ _) (congrArg cq (show []=_ by rw [(wR ‹_›).2.2])),Fresh.nil _ _ _,lD kg.nil (by rw [(wR ‹_›).2.2]),bh.nil,aq.nil,aq.nil⟩)
 refine ao.skip<|ET _ _<|.seq fun _ EY=>?_;have hs:cx g l rs=true:=by simpa using ‹(!cx g l rs)=false›
 obtain ⟨gn,rfl⟩:∃ n:Nat,g=(n:Int):=⟨g.toNat,by have:=ri hs;omega⟩;have hg:=ri hs;have hbs:=hln hs;have hse:=u7 hs;have hsn:=ls hs;have hsl:=kQ (gn:Int) rs;rw [Int.toNat_natCast] at hsl;refine ao.region<|.q Z (aj fH iA U Z)<|.q Z (aj ia dx U Z)<|.q Z (ak fj Z Z nD Z)<|.q Z (zD (a:=2) Z Z O)<|.q Z (ah Z)<|.nil<|EY _ _<|.seq fun _ EZ=>.region ?_;refine Ops.q Z (cR Z (aU Ua Uj SK Z))<|.l Z (fun _ _ Cq _=>ej g9 rfl rfl fun A39 a0 e4=>?_);have hW:=ne_new g9 nD e4.lo;have fV:=ne_new g9 nE e4.lo;have hU:=aL wf (Nat.le_trans k2.n e4.lo);have F0:=e4.le.get _ _ nD;have F2:=e4.le.get _ _ nE;have Dw:=k2.trans e4.le;refine Cq _ _<|.q Z (ah Z)<|.nil<|EZ _ _<|.seq fun _ F3=>?_;have nl:Fresh A A39 (.slice none 0 0) 1 (em []):=Fresh.nil _ _ _;have nn:Fresh A A39 (.slice none 0 0) 1 (cq []):=Fresh.nil _ _ _;have nj:kg A A39 [] []:=kg.nil;refine ao.region<|.q Z (ae Z)<|.q Z (ae Z) ?_;have hD:=cg (bs:=([some a0,blk (.slice none 0 0),blk (.slice none 0 0)] ++ ([]).map blk)) Dw (Ca (qz hU (sj nl.lo (sj nn.lo nf))) nj);refine Ops.l Z (fun _ _ Cs _=>aK Z (LS (2 * gn) a0 (.slice none 0 0) (.slice none 0 0) ([]) ([]) ([]) (A39.hide ([some a0,blk (.slice none 0 0),blk (.slice none 0 0)] ++ ([]).map blk)) A39 (cM A39 ([some a0,blk (.slice none 0 0),blk (.slice none 0 0)] ++ ([]).map blk)) (cr e4.wf) e4.get (cn (by simp)) (nl.hide (by simp)) (nn.hide (by simp)) (fun q=>by cases q) (fun q=>by cases q) bh.nil nj.hideAll kN aq.empty aq.empty ⟨by omega,by simp,by simp⟩) ?_);rintro ME A51 ⟨w4,pi,n6,rfl,hH,mX,fT,h7,h8,h3,h4,hY,g5,hT,n1,n2⟩;have ow:=bF (bs:=([some a0,blk (.slice none 0 0),blk (.slice none 0 0)] ++ ([]).map blk)) F0 (xC (lQ hW (ng (fun q=>by cases q) (ng (fun q=>by cases q) ka))) kN);have F4:=hH.get _ _ ow;have hz:=bF (bs:=([some a0,blk (.slice none 0 0),blk (.slice none 0 0)] ++ ([]).map blk)) F2 (xC (lQ fV (ng (fun q=>by cases q) (ng (fun q=>by cases q) ka))) kN);have x8:=hH.get _ _ hz;have nq:=h7.base hD;have DD:=h7.seph hz;have nu:=h8.base hD;have DG:=h8.seph hz;have nk:=g5.base hD;have J4:=g5.ne ow;have DZ:=g5.ne hz;have fE:=hD.trans hH;have oy:=g5.len;rw [List.length_append,List.length_singleton] at oy;refine Cs _ _<|.nil<|F3 _ _<|.seq fun _ F6=>.seq fun _ F7=>.region<|.q Z (am dn cT Z Z F4 Z)<|.l Z (fun _ _ Cu _=>aK Z (EJ (((gn:Nat):Int)) u l rv rs A51 hg O (hL.le fE) (hu.le fE) (hr.le fE) (hp.le fE)) ?_);rintro gN A74 ⟨ex,Ha,ec⟩;have F9:=ex.get _ _ x8;have Fd:=ex.get _ _ fT;have y8:=nq.le ex;have y9:=nu.le ex;have y7:=nk.le ex;have Dz:=fE.trans ex;have nv:=ec.base fE;have Ez:=ec.sep0 nq.own;have EA:=ec.sep0 nu.own;have EC:=aq.fresh nk ec;have DI:=ec.ne mX x8;have DJ:=ec.ne mX fT;refine Cu _ _<|.q Z (bH (n:=(aW (((gn:Nat):Int)) rs).length) pB Z nv.slc O (p4 _))<|.q Z (ae Z)<|.nil<|F7 _ _<|.block<|.loop (X:=Nat × List Bool × Value × Value × List Value × List (List Int)) (fun ⟨i,E1,D,py,rw,L1⟩=>[(2,.pointer (some ⟨b9,0,none⟩)),(4,num ((2 * gn:Nat):Int)),(5,.pointer (some ⟨a0,0,none⟩)),(34,gN),(35,num (((aW (((gn:Nat):Int)) rs).length:Nat):Int)),(36,num ((i:Nat):Int))]) (fun ⟨i,E1,D,py,rw,L1⟩ B=>(i<=(aW gn rs).length/\TI (2 * gn) (vj gn rs) i L1 E1)/\A.le B/\Fresh A B D 1 (em rw)/\Fresh A B py 1 (cq E1)/\Fresh A B gN 2 (gu (aW (((gn:Nat):Int)) rs))/\B.get b9=some (.row true [num ((0:Nat):Int),num ((0:Nat):Int),.slice none 0 0,.slice none 0 0] 4)/\B.get a0=some (.row true [D,py] 2)/\V.blk D ≠ some b9/\V.blk py ≠ some b9/\V.blk gN ≠ some b9/\V.blk D ≠ some a0/\V.blk py ≠ some a0/\V.blk gN ≠ some a0/\bh D py/\bh D gN/\bh py gN/\kg A B rw L1/\bI rw b9/\bI rw a0/\aq D rw/\aq py rw/\aq gN rw) (fun ⟨i,E1,D,py,rw,L1⟩=>(aW gn rs).length - i) (⟨0,[] ++ [false],w4,pi,n6,([]) ++ [AM (2 * gn)]⟩) (DR Z Z Z Z Z Z) (⟨⟨Nat.zero_le _,TI.start⟩,Dz,y8,y9,nv,F9,Fd,DD,DG,DI,h3,h4,DJ,hY,(bh.symm Ez),(bh.symm EA),y7,DZ,hT,n1,n2,EC⟩) ?_;rintro ⟨i,E1,D,py,rw,L1⟩ B91 ⟨⟨hi,hti⟩,hF,cv,dv,cF,ev,cB,eS,eQ,gF,e7,e5,aF,gM,dJ,dK,eg,f7,ez,f9,fi,cf⟩;refine ao.wf fun bL=>?_;have hrw:rw.length=L1.length:=by first | exact kg.len ‹_›
 have hlb:=hti.bound;have hlE:=hti.len;have ox:=hti.ok;have hwl:=fun q:i < (aW gn rs).length=>pr hg hse _ (bx (d:=(([],[]):Wd × Wd)) q);have hwc:=fun q:i < (aW gn rs).length=>vA hs _ (bx (d:=(([],[]):Wd × Wd)) q);refine ao.seq fun _ Fe=>.region<|.q Z (cA Z Z)<|.nil<|Fe _ _<|.seq fun _ Fi=>.if rfl (fun Fq=>?_) (fun Fq=>?_)
 ·refine ao.skip<|Fi _ _<|.seq fun _ Fl=>.block<|.seq fun _ Ad=>.region ?_;obtain ⟨Hb,Hz,GM,K0,G9,Ih,HQ,xA,CL,yt,oV,G0⟩:=bJ.at (i:=i) cF.slc OP O;refine Ops.q Z (aJ pB mr Z xA Z CL)<|.q Z (am Sq mr Z Z yt (oV.trans (congrArg some (IJ O))))<|.l Z (fun _ _ sN _=>ca bL Du rfl fun A105 Hc ar=>?_);have hK:=ne_new bL ev ar.lo;have eN:=ne_new bL cB ar.lo;have mt:=cv.own.ne_new bL ar.lo;have mv:=dv.own.ne_new bL ar.lo;have vC:=cF.own.ne_new bL ar.lo;have mE:=eg.ne_new bL ar.lo;have n3:=aL wf (Nat.le_trans hF.n ar.lo);have Af:=ar.le.get _ _ ev;have Ag:=ar.le.get _ _ cB;have pV:=cv.le ar.le;have q0:=dv.le ar.le;have q1:=cF.le ar.le;have pj:=eg.le ar.le;have tB:=hF.trans ar.le;refine sN _ _<|.l Z (fun _ _ sP _=>aM (cs:=[aX (((aW (((gn:Nat):Int)) rs).getD i ([],[])).1),aX (((aW (((gn:Nat):Int)) rs).getD i ([],[])).2)]) (c':=[aX (((aW (((gn:Nat):Int)) rs).getD i ([],[])).1),aX (((aW (((gn:Nat):Int)) rs).getD i ([],[])).2)]) ar.wf rfl rfl rfl rfl mr ar.get (Nat.le_of_ble_eq_true rfl) rfl rfl fun A119 bA=>?_);have Ai:=bA.keep _ _ hK Af;have Ap:=bA.keep _ _ eN Ag;have kK:=pV.keep bA.keep mt;have kL:=q0.keep bA.keep mv;have g6:=q1.keep bA.keep vC;have k6:=pj.keep bA.keep mE;have tI:=al tB wf n3 bA.n bA.keep;refine sP _ _<|.nil<|Ad _ _<|.region<|.q Z (ae Z)<|.q Z (ae Z)<|.q Z (iM (i:=0) yf fz Z Z O)<|.q Z (ak gz Z Z bA.get Z) ?_;have fm:=cg (bs:=([some a0,blk D,blk py] ++ rw.map blk)) tI (Ca (qz hU (sj kK.lo (sj kL.lo nf))) k6);refine Ops.l Z (fun _ _ sR _=>aK Z (Tf (2 * gn) (((aW (((gn:Nat):Int)) rs).getD i ([],[])).1) a0 D py rw L1 E1 (A119.hide ([some a0,blk D,blk py] ++ rw.map blk)) A119 (cM A119 ([some a0,blk D,blk py] ++ rw.map blk)) (cr bA.wf) Ap (cn (by simp)) (kK.hide (by simp)) (kL.hide (by simp)) e7 e5 gM k6.hideAll ez f9 fi (hL.le fm) ⟨by omega,by omega,by have:=(hwl O).2.1;omega⟩ ox.1 ox.2 (hwc O)) ?_);rintro KK A130 ⟨oP,nd,k4,rfl,gp,Fs,hA,eZ,f0,gs,gA,hP,f6,ho,j1,j2⟩;have g8:=bF (bs:=([some a0,blk D,blk py] ++ rw.map blk)) Ai (xC (lQ fV (ng eS (ng eQ ka))) f7);have Ar:=gp.get _ _ g8;have sF:=bF (bs:=([some a0,blk D,blk py] ++ rw.map blk)) bA.get (xC (lQ eN.symm (ng mt (ng mv ka))) mE);have wl:=f6.sepOff g6.own (ld (gJ aF (iq dJ (iq dK fW))) cf);have wm:=eZ.sep g6.own (ld (gJ aF (iq dJ (iq dK fW))) cf);have wp:=f0.sep g6.own (ld (gJ aF (iq dJ (iq dK fW))) cf);have q2:=g6.off (ld (gJ aF (iq dJ (iq dK fW))) cf) gp;have q3:=eZ.base fm;have vS:=eZ.seph g8;have q4:=f0.base fm;have vX:=f0.seph g8;have pl:=f6.base fm;have w5:=f6.ne g8;have G2:=f6.ne sF;have tJ:=fm.trans gp;refine sR _ _<|.nil<|Fl _ _<|.region<|.q Z (bN (b:=1) Z Z O)<|.q Z (ae Z)<|.nil ?_;exact ⟨⟨i + 1,vr (2 * gn) L1 E1 (((aW (((gn:Nat):Int)) rs).getD i ([],[])).1),oP,nd,k4,vt (2 * gn) L1 E1 (((aW (((gn:Nat):Int)) rs).getD i ([],[])).1)⟩,DR Z Z Z Z Z Z,Z,⟨⟨by omega,hti.next2 O (hwc O)⟩,tJ,q3,q4,q2,Ar,hA,vS,vX,gF,gs,gA,aF,hP,wm,wp,pl,w5,ho,j1,j2,wl⟩,O1⟩
 refine ao.exit<|F6 _ _<|.seq fun _ As=>?_;have Cv:rw.length=L1.length:=hrw;obtain ⟨W,ov⟩:=BO.start (k:=2 * gn) (show TI (2 * gn) (vj gn rs) (vj gn rs).length L1 E1 by rw [EU,<- show i=(aW gn rs).length by omega];exact hti) (Sc hs);obtain ⟨Lb,Le,Lf,Lk,Lo⟩:=ov.lens;refine ao.region<|.q Z (ae Z)<|.q Z (c8 Z)<|.q Z (aj iR iQ U Z)<|.q Z (ak jN Z Z cB Z)<|.q Z (bH (n:=rw.length) m5 Z cv.slc O (iO _))<|.l Z (fun _ _ sS _=>lL (n:=rw.length) (k:=rw.length) bL hF rfl rfl er dx z3 mg rfl (Nat.le_refl _) (by show 8 * _<=_;omega) O fun A155 xt a2 ht=>?_);rw [im] at ht;have hM:=ne_new bL ev a2.lo;have h0:=ne_new bL cB a2.lo;have w6:=eg.ne_new bL a2.lo;have nB:=a2.le.get _ _ ev;have nC:=a2.le.get _ _ cB;have kM:=cv.le a2.le;have kP:=dv.le a2.le;have k7:=eg.le a2.le;have m3:=hF.trans a2.le;have wy:=bh.of_new (n:=rw.length) (c:=rw.length) cv.own bL a2.lo;have wz:=bh.of_new (n:=rw.length) (c:=rw.length) dv.own bL a2.lo;have H9:=bh.of_new (n:=rw.length) (c:=rw.length) cF.own bL a2.lo;refine sS _ _<|.q Z (ah Z)<|.nil<|As _ _<|.seq fun _ At=>.region<|.l Z (fun _ _ sT _=>aN (c:=[num ((0:Nat):Int)]) a2.wf rfl (ax er dx z3 rfl U U rfl) fun A176 n7 aD=>?_);have hN:=ne_new a2.wf nB aD.lo;have h1:=ne_new a2.wf nC aD.lo;have vZ:=kM.own.ne_new a2.wf aD.lo;have w0:=kP.own.ne_new a2.wf aD.lo;have w1:=ht.own.ne_new a2.wf aD.lo;have w7:=k7.ne_new a2.wf aD.lo;have n4:=aL wf (Nat.le_trans m3.n aD.lo);have Av:=aD.le.get _ _ nB;have Ay:=aD.le.get _ _ nC;have q5:=kM.le aD.le;have q6:=kP.le aD.le;have q7:=ht.le aD.le;have pp:=k7.le aD.le;have tO:=m3.trans aD.le;refine sT _ _<|.q Z (ah Z)<|.nil<|At _ _<|.seq fun _ Az=>.seq fun _ AA=>.region<|.q Z (ah Z)<|.nil<|AA _ _ ?_;refine ao.block ?_;have q8:Fresh A A176 (.slice (some ⟨n7,0,none⟩) 1 1) 1 (c9 [((0:Nat):Int)]):=Fresh.lit aD.get n4 Z (Nat.le_of_ble_eq_true Z);refine ao.loop (X:=Nat × List Int × List Int × List Bool × Value × Value × Value × List (List Int)) (fun ⟨j,fl,qu,en,fv,qv,jO,Lt⟩=>[(2,.pointer (some ⟨b9,0,none⟩)),(4,num ((2 * gn:Nat):Int)),(5,.pointer (some ⟨a0,0,none⟩)),(8,fv),(9,qv),(10,num ((j:Nat):Int))]) (fun ⟨j,fl,qu,en,fv,qv,jO,Lt⟩ B=>(BO (2 * gn) L1 W ((vj gn rs).map C6) (Be (2 * gn) (vj gn rs)) j Lt en fl qu)/\A.le B/\Fresh A B fv 1 (c9 fl)/\Fresh A B qv 1 (c9 qu)/\Fresh A B jO 1 (cq en)/\Fresh A B D 1 (em rw)/\B.get b9=some (.row true [num ((0:Nat):Int),num ((0:Nat):Int),.slice none 0 0,.slice none 0 0] 4)/\B.get a0=some (.row true [D,jO] 2)/\V.blk fv ≠ some b9/\V.blk qv ≠ some b9/\V.blk jO ≠ some b9/\V.blk D ≠ some b9/\V.blk fv ≠ some a0/\V.blk qv ≠ some a0/\V.blk jO ≠ some a0/\V.blk D ≠ some a0/\bh fv qv/\bh fv jO/\bh fv D/\bh qv jO/\bh qv D/\bh jO D/\kg A B rw Lt/\bI rw b9/\bI rw a0/\aq fv rw/\aq qv rw/\aq jO rw/\aq D rw) (fun ⟨j,fl,qu,en,fv,qv,jO,Lt⟩=>W.length + 1 - j) (⟨0,List.replicate rw.length 0,[0],E1,.slice (some ⟨xt,0,none⟩) rw.length rw.length,.slice (some ⟨n7,0,none⟩) 1 1,py,L1⟩) (DR Z Z Z Z Z Z) (⟨(by rw [Cv];exact ov),tO,q7,q8,q6,q5,Av,Ay,(fun q=>by cases q;exact hM rfl),(fun q=>by cases q;exact hN rfl),eQ,eS,(fun q=>by cases q;exact h0 rfl),(fun q=>by cases q;exact h1 rfl),e5,e7,(bh.symm (fun c hc hq=>by cases hc;exact w1 hq)),wz,wy,(fun c hc hq=>by cases hc;exact w0 hq),(fun c hc hq=>by cases hc;exact vZ hq),(bh.symm gM),pp,f7,ez,(aq.new w6),(aq.new w7),fi,f9⟩) ?_;rintro ⟨j,fl,qu,en,fv,qv,jO,Lt⟩ B198 ⟨hbo,hB,iX,f1,dW,cc,f2,cK,h5,h6,e6,dS,gD,gG,dO,d3,hZ,i1,i2,ih,it,fX,dw,eA,e2,gP,gS,eG,eL⟩;refine ao.wf fun ey=>?_;obtain ⟨LK,LO,x9,LP,LT⟩:=hbo.lens;have hat:=fun q:j < qu.length=>hbo.at q;refine ao.seq fun _ AB=>.seq fun _ AC=>.region<|.q Z (ae Z)<|.q Z (ae Z)<|.q Z (bH (n:=qu.length) er Z f1.slc O (eB _))<|.q Z (cA Z Z)<|.nil<|AC _ _<|.if rfl (fun E2=>?_) (fun E2=>?_)
 ·refine ao.skip<|AB _ _<|.seq fun _ AD=>.block<|.seq fun _ AF=>.region<|.q Z (ae Z)<|.q Z (ae Z) ?_;obtain ⟨Hd,HA,GN,K1,Gc,In,HR,xF,CR,yS,Ft,oW⟩:=bJ.at (i:=j) f1.slc O3 O;refine Ops.q Z (aJ er dx Z xF Z CR)<|.q Z (ak fj Z Z yS ((dh oW).trans (df O)))<|.q Z (ah Z)<|.nil<|AF _ _<|.seq fun _ AG=>?_;obtain ⟨L6,L7,L9⟩:=hat O;refine ao.region<|.q Z (ae Z)<|.q Z (c8 Z)<|.q Z (aj iR iQ U Z)<|.q Z (ak jN Z Z cK Z)<|.q Z (ae Z) ?_;obtain ⟨He,HB,GP,K2,Gd,Io,HS,xN,CS,yT,Fv,oX⟩:=bJ.at (i:=(qu.getD j 0).toNat) cc.slc Ok O;refine Ops.q Z (aJ m5 fC Z xN (jr O) CS)<|.q Z (ak kW Z Z yT ((dh oX).trans (eH O)))<|.q Z (bH (n:=((Lt.getD ((qu.getD j 0).toNat) [])).length) er Z (dw.fr ((qu.getD j 0).toNat) O).slc O (eB _))<|.q Z (ae Z)<|.nil<|AG _ _<|.block<|.loop (X:=Nat × List Int × List Int × List Bool × Value × Value × Value × List (List Int)) (fun ⟨x,aY,bc,iy,bM,aT,nR,Lt1⟩=>[(2,.pointer (some ⟨b9,0,none⟩)),(4,num ((2 * gn:Nat):Int)),(5,.pointer (some ⟨a0,0,none⟩)),(8,bM),(9,aT),(10,num ((j:Nat):Int)),(11,num (qu.getD j 0)),(69,rw.getD ((qu.getD j 0).toNat) undef),(70,num ((((Lt.getD ((qu.getD j 0).toNat) [])).length:Nat):Int)),(71,num ((x:Nat):Int))]) (fun ⟨x,aY,bc,iy,bM,aT,nR,Lt1⟩ B=>(x<=2 * gn/\BN (2 * gn) L1 W ((vj gn rs).map C6) (Be (2 * gn) (vj gn rs)) j Lt en fl qu x Lt1 iy aY bc)/\A.le B/\Fresh A B bM 1 (c9 aY)/\Fresh A B aT 1 (c9 bc)/\Fresh A B nR 1 (cq iy)/\Fresh A B D 1 (em rw)/\B.get b9=some (.row true [num ((0:Nat):Int),num ((0:Nat):Int),.slice none 0 0,.slice none 0 0] 4)/\B.get a0=some (.row true [D,nR] 2)/\V.blk bM ≠ some b9/\V.blk aT ≠ some b9/\V.blk nR ≠ some b9/\V.blk D ≠ some b9/\V.blk bM ≠ some a0/\V.blk aT ≠ some a0/\V.blk nR ≠ some a0/\V.blk D ≠ some a0/\bh bM aT/\bh bM nR/\bh bM D/\bh aT nR/\bh aT D/\bh nR D/\kg A B rw Lt1/\bI rw b9/\bI rw a0/\aq bM rw/\aq aT rw/\aq nR rw/\aq D rw) (fun ⟨x,aY,bc,iy,bM,aT,nR,Lt1⟩=>2 * gn - x) (⟨0,fl,qu,en,fv,qv,jO,Lt⟩) (NW Z Z Z Z Z Z Z Z Z Z) (⟨⟨Nat.zero_le _,BN.start hbo O⟩,hB,iX,f1,dW,cc,f2,cK,h5,h6,e6,dS,gD,gG,dO,d3,hZ,i1,i2,ih,it,fX,dw,eA,e2,gP,gS,eG,eL⟩) ?_;rintro ⟨x,aY,bc,iy,bM,aT,nR,Lt1⟩ B214 ⟨⟨hx,hbn⟩,m6,dZ,fR,fQ,di,gg,e3,b0,aA,az,bl,aE,a8,a7,b5,b1,b2,c3,aC,br,bu,dz,b7,aZ,aG,ai,ap,bb⟩;refine ao.wf fun mT=>?_;obtain ⟨LV,LW,M1,M2,M3⟩:=hbn.lens;obtain ⟨xn,M6,Mb⟩:=hbn.facts;refine ao.seq fun _ AI=>.region<|.q Z (cA Z Z)<|.nil<|AI _ _<|.seq fun _ AP=>.if rfl (fun E3=>?_) (fun E3=>?_)
  ·refine ao.skip<|AP _ _<|.seq fun _ j3=>.block<|.seq fun _ AR=>.region<|.q Z (ae Z) ?_;obtain ⟨Hf,HC,GQ,K3,Ge,Is,HT,xR,CU,z0,FD,oY⟩:=bJ.at (i:=x) (dz.fr ((qu.getD j 0).toNat) O).slc O3 O;refine Ops.q Z (aJ er dx Z xR Z CU)<|.q Z (ak fj Z Z z0 ((dh oY).trans (df O)))<|.q Z (ah Z)<|.q Z (ah Z)<|.nil<|AR _ _<|.seq fun _ AS=>.region<|.q Z (ah Z)<|.nil ?_;refine AS _ _<|.join (fun f A1=>an [(14,num ((vq Lt1 iy aY bc (qu.getD j 0).toNat x))),(2,.pointer (some ⟨b9,0,none⟩)),(4,num ((2 * gn:Nat):Int)),(5,.pointer (some ⟨a0,0,none⟩)),(8,bM),(9,aT),(10,num ((j:Nat):Int)),(11,num (qu.getD j 0)),(69,rw.getD ((qu.getD j 0).toNat) undef),(70,num ((((Lt.getD ((qu.getD j 0).toNat) [])).length:Nat):Int)),(71,num ((x:Nat):Int)),(72,.bool (decide (x < ((Lt.getD ((qu.getD j 0).toNat) [])).length))),(73,num ((x:Nat):Int)),(75,num (((Lt1.getD ((qu.getD j 0).toNat) [])).getD x 0)),(12,num ((x:Nat):Int)),(13,num (((Lt1.getD ((qu.getD j 0).toNat) [])).getD x 0))] f.e/\f.ds=[]/\B214.le A1/\A1.wf) ?_ ?_
   ·have m2:=AH.le.refl B214;refine ao.seq fun _ AT=>.region<|.q Z (ae Z)<|.q Z (GZ Z Z)<|.nil<|AT _ _<|.if rfl (fun E4=>?_) (fun E4=>?_)
    ·obtain ⟨LB,LE,LF⟩:=hbn.fail ‹_›;refine ao.drawn [0,1,2,3,4,5,6,7,8,9,10,11,12,13] mixed Y Y Z<|.q Z Z Z (ae Z)<|.q Z Z Z (c8 Z)<|.q Z Z Z (aj iR iQ U Z)<|.q Z Z Z (ak jN Z Z e3 Z)<|.q Z Z Z (ae Z)<|.q Z Z Z (ae Z) ?_;obtain ⟨Hg,HD,GS,K4,Gf,It,HU,xS,CV,z1,FE,oZ⟩:=bJ.at (i:=(qu.getD j 0).toNat) dZ.slc O3 O;refine bj.q Z Z Z (aJ er dx Z xS (jr O) CV)<|.q Z Z Z (ak fj Z Z z1 ((dh oZ).trans (df O))) ?_;obtain ⟨Hh,HE,H0,K5,Gg,Iv,HV,xT,D0,z2,FI,p0⟩:=bJ.at (i:=(aY.getD ((qu.getD j 0).toNat) 0).toNat) di.slc Ok O;refine bj.q Z Z Z (aJ m5 fC Z xT (jr O) D0)<|.q Z Z Z (ak kW Z Z z2 ((dh p0).trans (eH O)))<|.q Z Z Z (ae Z) ?_;obtain ⟨Hi,HF,H1,K6,Gl,Ix,HW,xV,D1,zi,FL,p5⟩:=bJ.at (i:=x) (dz.fr ((aY.getD ((qu.getD j 0).toNat) 0).toNat) O).slc O3 O;refine bj.q Z Z Z (aJ er dx Z xV Z D1)<|.q Z Z Z (ak fj Z Z zi ((dh p5).trans (df O)))<|.q Z Z Z (ah Z)<|.done ?_;exact ⟨an.cons (congrArg some (by first | exact EO ‹_› xn | exact Ml ‹_›))<|an.cons Z<|an.cons Z<|an.cons Z<|an.cons Z<|an.cons Z<|an.cons Z<|an.cons Z<|an.cons Z<|an.cons Z<|an.cons Z<|an.cons Z<|an.cons Z<|an.cons Z<|an.cons Z<|an.cons Z<|an.nil _,Z,m2,mT⟩
    refine ao.skip ?_;exact ⟨an.cons (congrArg some (by first | exact EO ‹_› xn | exact Ml ‹_›))<|an.cons Z<|an.cons Z<|an.cons Z<|an.cons Z<|an.cons Z<|an.cons Z<|an.cons Z<|an.cons Z<|an.cons Z<|an.cons Z<|an.cons Z<|an.cons Z<|an.cons Z<|an.cons Z<|an.cons Z<|an.nil _,Z,m2,mT⟩
   rintro ⟨fe,fd⟩ A237 ⟨hE,rfl,bY,iT⟩;refine ao.forget hE ?_;have nH:=bY.get _ _ gg;have j4:=bY.get _ _ e3;have kT:=dZ.le bY;have kV:=fR.le bY;have l0:=fQ.le bY;have hv:=di.le bY;have cH:=dz.le bY;have mb:=m6.trans bY;refine ao.seq fun _ AV=>.seq fun _ AY=>.region<|.q Z (ae Z)<|.q Z (qO Z Z)<|.nil<|AY _ _<|.if rfl (fun E5=>?_) (fun E5=>?_)
   ·refine ao.seq fun _ AZ=>.region<|.q Z (ae Z)<|.q Z (c8 Z)<|.q Z (aj iR iQ U Z)<|.q Z (ak jN Z Z j4 Z)<|.q Z (ae Z) ?_;obtain ⟨Hj,HG,H2,K7,Gm,ID,HX,y0,D2,zs,FM,p6⟩:=bJ.at (i:=(qu.getD j 0).toNat) hv.slc Ok O;refine Ops.q Z (aJ m5 fC Z y0 (jr O) D2)<|.q Z (ak kW Z Z zs ((dh p6).trans (eH O)))<|.q Z (ae Z)<|.q Z (ae Z) ?_;obtain ⟨he,IF,Hu,Es,Gn,eT,D3,zE,KT,DK,Ko,CB⟩:=cH.at (s:=(qu.getD j 0).toNat) (x:=x) O O;refine Ops.q Z (aJ er dx Z eT Z (by rw [D3];omega))<|.l Z (fun _ _ sV _=>aM (off:=x) (c':=Es.set x (num ((vq Lt1 iy aY bc (qu.getD j 0).toNat x)))) iT rfl (by simp) rfl rfl dx zE (by show x + 1<=_;omega) rfl rfl fun A257 cu=>?_);have B0:=cu.keep _ _ (fun q=>dR b7 (s:=(qu.getD j 0).toNat) (by have:=cH.len;omega) (by rw [eT];exact congrArg some q.symm)) nH;have B2:=cu.keep _ _ (fun q=>dR aZ (s:=(qu.getD j 0).toNat) (by have:=cH.len;omega) (by rw [eT];exact congrArg some q.symm)) j4;have q9:=kT.keep cu.keep (fun q=>dR aG (s:=(qu.getD j 0).toNat) (by have:=cH.len;omega) he q (by rw [eT];rfl));have qa:=kV.keep cu.keep (fun q=>dR ai (s:=(qu.getD j 0).toNat) (by have:=cH.len;omega) he q (by rw [eT];rfl));have qb:=l0.keep cu.keep (fun q=>dR ap (s:=(qu.getD j 0).toNat) (by have:=cH.len;omega) he q (by rw [eT];rfl));have qd:=hv.keep cu.keep (fun q=>dR bb (s:=(qu.getD j 0).toNat) (by have:=cH.len;omega) he q (by rw [eT];rfl));have pu:=CB (((vq Lt1 iy aY bc (qu.getD j 0).toNat x))) A257 cu;have tS:=al mb wf DK cu.n cu.keep;refine sV _ _<|.nil<|AZ _ _<|.exit<|j3 _ _<|.region<|.q Z (bN (b:=1) Z Z O)<|.q Z (ae Z)<|.nil ?_;exact ⟨⟨x + 1,aY,bc,iy,bM,aT,nR,Lt1.set ((qu.getD j 0).toNat) ((Lt1.getD ((qu.getD j 0).toNat) []).set x (((vq Lt1 iy aY bc (qu.getD j 0).toNat x))))⟩,NW Z Z Z Z Z Z Z Z Z Z,Z,⟨⟨by omega,by first | exact hbn.neg O ‹_› | exact hbn.pos O ‹_› (by rw [‹iy.getD ((Lt1.getD (qu.getD j 0).toNat []).getD x 0).toNat false=true›];rfl) | exact hbn.pos O ‹_› (by rw [‹iy.getD ((Lt1.getD (qu.getD j 0).toNat []).getD x 0).toNat false=false›,Bool.false_or])⟩,tS,q9,qa,qb,qd,B0,B2,b0,aA,az,bl,aE,a8,a7,b5,b1,b2,c3,aC,br,bu,pu,b7,aZ,aG,ai,ap,bb⟩,O1⟩
   refine ao.skip<|AV _ _<|.seq fun _ B3=>?_;obtain ⟨Mk,Mm⟩:=hbn.to (show x < 2 * gn by omega);have M4:=hbn.met (show x < 2 * gn by omega);refine ao.region<|.q Z (ae Z)<|.q Z (ae Z)<|.q Z (ae Z) ?_;obtain ⟨hf,IH,Hv,Et,Go,eV,oz,zI,KV,DO,Kt,CC⟩:=kT.at1 (x:=(((Lt1.getD ((qu.getD j 0).toNat) [])).getD x 0).toNat) O3;rw [aH] at oz;refine Ops.q Z (aJ er dx Z eV (jr O) (by rw [oz];omega))<|.l Z (fun _ _ sZ _=>aM (off:=(((Lt1.getD ((qu.getD j 0).toNat) [])).getD x 0).toNat) (c':=Et.set ((((Lt1.getD ((qu.getD j 0).toNat) [])).getD x 0).toNat) (num ((vq Lt1 iy aY bc (qu.getD j 0).toNat x)))) iT rfl (by simp) rfl rfl dx zI (by show ((((Lt1.getD ((qu.getD j 0).toNat) [])).getD x 0).toNat) + 1<=_;omega) rfl rfl fun A271 bB=>?_);have nJ:=bB.keep _ _ (fun q=>b0 (by rw [eV];exact congrArg some q.symm)) nH;have ge:=bB.keep _ _ (fun q=>aE (by rw [eV];exact congrArg some q.symm)) j4;have l1:=kV.keep bB.keep (b1 hf (by rw [eV];rfl));have g7:=l0.keep bB.keep (b2 hf (by rw [eV];rfl));have l2:=hv.keep bB.keep (c3 hf (by rw [eV];rfl));have k9:=cH.keep bB.keep (fun r hr=>aG r hr hf (by rw [eV];rfl));have hw:=CC (num ((vq Lt1 iy aY bc (qu.getD j 0).toNat x))) A271 bB;rw [io] at hw;have me:=al mb wf DO bB.n bB.keep;refine sZ _ _<|.nil<|B3 _ _<|.seq fun _ nK=>.drawn [0,1,2,3,4,5,6,7,8,9,10,11,12,13,14,15,16,17,18,19,20,21,22] mixed Y Y Z<|.q Z Z Z (ae Z)<|.q Z Z Z (c8 Z)<|.q Z Z Z (aj k8 iB U Z)<|.q Z Z Z (ak iu Z Z ge Z)<|.q Z Z Z (ae Z) ?_;refine bj.q Z Z Z (ae Z)<|.q Z Z Z (c8 Z)<|.q Z Z Z (aj k8 iB U Z)<|.q Z Z Z (ak iu Z Z ge Z)<|.q Z Z Z (ae Z) ?_;obtain ⟨Hk,HH,H3,K9,Gp,IN,HY,y1,Dd,zS,FN,p7⟩:=bJ.at (i:=(((Lt1.getD ((qu.getD j 0).toNat) [])).getD x 0).toNat) g7.slc Oi O;refine bj.q Z Z Z (aJ kR lJ Z y1 (jr O) Dd)<|.q Z Z Z (ak vm Z Z zS ((dh p7).trans (ek O)))<|.q Z Z Z (ae Z)<|.partB (t:=119) Z (fun E6=>?_) (fun E6=>?_)
   ·refine bj.qOff Z Z Z Z Z Z<|.qOff Z Z Z Z Z Z<|.qOff Z Z Z Z Z Z<|.qOff Z Z Z Z Z Z<|.qOff Z Z Z Z Z Z<|.qOff Z Z Z Z Z Z<|.qOff Z Z Z Z Z Z<|.q Z Z Z (bi Z Z) ?_;obtain ⟨hh,IO,Hw,Ev,Gq,eX,oF,zV,L2,DS,Kv,CF⟩:=g7.at1 (x:=(((Lt1.getD ((qu.getD j 0).toNat) [])).getD x 0).toNat) Oi;rw [bz] at oF;refine bj.q Z Z Z (aJ kR lJ Z eX (jr O) (by rw [oF];omega))<|.l Z Z Z (fun _ _ t0 _=>aM (off:=(((Lt1.getD ((qu.getD j 0).toNat) [])).getD x 0).toNat) (c':=Ev.set ((((Lt1.getD ((qu.getD j 0).toNat) [])).getD x 0).toNat) (.bool (true))) bB.wf rfl (by simp) rfl rfl lJ zV (by show ((((Lt1.getD ((qu.getD j 0).toNat) [])).getD x 0).toNat) + 1<=_;omega) rfl rfl fun A290 bC=>?_);have B4:=bC.keep _ _ (fun q=>az (by rw [eX];exact congrArg some q.symm)) nJ;have B5:=bC.keep _ _ (fun q=>a7 (by rw [eX];exact congrArg some q.symm)) ge;have qp:=hw.keep bC.keep ((bh.symm b2) hh (by rw [eX];rfl));have qr:=l1.keep bC.keep ((bh.symm aC) hh (by rw [eX];rfl));have qA:=l2.keep bC.keep (bu hh (by rw [eX];rfl));have kc:=k9.keep bC.keep (fun r hr=>ap r hr hh (by rw [eX];rfl));have l3:=CF (.bool (true)) A290 bC;rw [kr] at l3;have tT:=al me wf DS bC.n bC.keep;refine t0 _ _ (aO.none Y)<|.done<|nK _ _<|.region<|.q Z (ae Z)<|.q Z (ae Z)<|.l Z (fun _ _ t1 _=>aN (c:=[num (((Lt1.getD ((qu.getD j 0).toNat) [])).getD x 0)]) bC.wf rfl (ax er dx z3 rfl U U rfl) fun A302 Hl av=>?_);have G3:=kc.ne_new bC.wf av.lo;have nL:=av.le.get _ _ B4;have nM:=av.le.get _ _ B5;have l4:=qp.le av.le;have l6:=qr.le av.le;have l7:=l3.le av.le;have l9:=qA.le av.le;have kl:=kc.le av.le;have tW:=tT.trans av.le;refine t1 _ _<|.l Z (fun _ _ t2 _=>cJ (ys:=[num (((Lt1.getD ((qu.getD j 0).toNat) [])).getD x 0)]) rfl rfl er dx mg z3 rfl U er (fun _ h=>by cases h) l6.own (bW (n:=1) av.get Z) rfl rfl (by show (_ + _) * 8<=_;simp only [aH,List.length_cons,List.length_nil];(try simp only [List.length_append,List.length_cons,List.length_nil]);omega) O2 fun A318 EG aI=>?_);rw [show ([num (((Lt1.getD ((qu.getD j 0).toNat) [])).getD x 0)]:List Value)=c9 [((Lt1.getD ((qu.getD j 0).toNat) [])).getD x 0] from rfl,dM] at aI;obtain ⟨qB,tY⟩:=Fresh.grow l6 tW wf aI;have B6:=aI.keep aA nL;have v2:=aI.ne aA av.wf nL;have B7:=aI.keep a8 nM;have v3:=aI.ne a8 av.wf nM;have wC:=bh.appd (show bh aT bM from (bh.symm b1)) l4.own av.wf aI;have qD:=l4.appd aI (bh.symm b1);have wF:=bh.appd (show bh aT nR from aC) l7.own av.wf aI;have qN:=l7.appd aI aC;have wL:=bh.appd (show bh aT D from br) l9.own av.wf aI;have qP:=l9.appd aI br;have wM:=aq.appd (show aq aT rw from ai) kl av.wf aI;have pv:=kl.appd aI (show aq aT rw from ai);refine t2 _ _<|.q Z (ah Z)<|.nil<|j3 _ _<|.region<|.q Z (bN (b:=1) Z Z O)<|.q Z (ae Z)<|.nil ?_;exact ⟨⟨x + 1,aY.set ((((Lt1.getD ((qu.getD j 0).toNat) [])).getD x 0).toNat) (((vq Lt1 iy aY bc (qu.getD j 0).toNat x))),bc ++ [((Lt1.getD ((qu.getD j 0).toNat) [])).getD x 0],iy.set ((((Lt1.getD ((qu.getD j 0).toNat) [])).getD x 0).toNat) true,bM,EG,nR,Lt1⟩,NW Z Z Z Z Z Z Z Z Z Z,Z,⟨⟨by omega,by first | exact hbn.neg O ‹_› | exact hbn.pos O ‹_› (by rw [‹iy.getD ((Lt1.getD (qu.getD j 0).toNat []).getD x 0).toNat false=true›];rfl) | exact hbn.pos O ‹_› (by rw [‹iy.getD ((Lt1.getD (qu.getD j 0).toNat []).getD x 0).toNat false=false›,Bool.false_or])⟩,tY,qD,qB,qN,qP,B6,B7,b0,v2,az,bl,aE,v3,a7,b5,(bh.symm wC),b2,c3,wF,wL,bu,pv,b7,aZ,aG,wM,ap,bb⟩,O1⟩
   refine bj.qOn Z Z Z Z Z (ae Z)<|.qOn Z Z Z Z Z (c8 Z)<|.qOn Z Z Z Z Z (aj k8 iB U Z)<|.qOn Z Z Z Z Z (ak iu Z Z ge Z)<|.qOn Z Z Z Z Z (ae Z) ?_;obtain ⟨Hm,HI,H4,Kc,Gs,IS,HZ,y2,Dg,A6,FO,p8⟩:=bJ.at (i:=((vq Lt1 iy aY bc (qu.getD j 0).toNat x)).toNat) g7.slc Oi O;refine bj.qOn Z Z Z Z Z (aJ kR lJ Z y2 (jr O) Dg)<|.qOn Z Z Z Z Z (ak vm Z Z A6 ((dh p8).trans (ek O)))<|.q Z Z Z (bw Z Z) ?_;obtain ⟨hj,IT,Hx,Ex,GC,eY,oI,A7,L3,DV,KC,CH⟩:=g7.at1 (x:=(((Lt1.getD ((qu.getD j 0).toNat) [])).getD x 0).toNat) Oi;rw [bz] at oI;refine bj.q Z Z Z (aJ kR lJ Z eY (jr O) (by rw [oI];omega))<|.l Z Z Z (fun _ _ t3 _=>aM (off:=(((Lt1.getD ((qu.getD j 0).toNat) [])).getD x 0).toNat) (c':=Ex.set ((((Lt1.getD ((qu.getD j 0).toNat) [])).getD x 0).toNat) (.bool (iy.getD (((vq Lt1 iy aY bc (qu.getD j 0).toNat x)).toNat) false))) bB.wf rfl (by simp) rfl rfl lJ A7 (by show ((((Lt1.getD ((qu.getD j 0).toNat) [])).getD x 0).toNat) + 1<=_;omega) rfl rfl fun A342 bD=>?_);have B8:=bD.keep _ _ (fun q=>az (by rw [eY];exact congrArg some q.symm)) nJ;have B9:=bD.keep _ _ (fun q=>a7 (by rw [eY];exact congrArg some q.symm)) ge;have qR:=hw.keep bD.keep ((bh.symm b2) hj (by rw [eY];rfl));have qU:=l1.keep bD.keep ((bh.symm aC) hj (by rw [eY];rfl));have qV:=l2.keep bD.keep (bu hj (by rw [eY];rfl));have km:=k9.keep bD.keep (fun r hr=>ap r hr hj (by rw [eY];rfl));have lb:=CH (.bool (iy.getD (((vq Lt1 iy aY bc (qu.getD j 0).toNat x)).toNat) false)) A342 bD;rw [kr] at lb;have tZ:=al me wf DV bD.n bD.keep;refine t3 _ _ (aO.none Y)<|.done<|nK _ _<|.region<|.q Z (ae Z)<|.q Z (ae Z)<|.l Z (fun _ _ t4 _=>aN (c:=[num (((Lt1.getD ((qu.getD j 0).toNat) [])).getD x 0)]) bD.wf rfl (ax er dx z3 rfl U U rfl) fun A354 Hn ay=>?_);have G4:=km.ne_new bD.wf ay.lo;have nN:=ay.le.get _ _ B8;have nO:=ay.le.get _ _ B9;have lp:=qR.le ay.le;have lt:=qU.le ay.le;have lw:=lb.le ay.le;have lB:=qV.le ay.le;have kp:=km.le ay.le;have u0:=tZ.trans ay.le;refine t4 _ _<|.l Z (fun _ _ t5 _=>cJ (ys:=[num (((Lt1.getD ((qu.getD j 0).toNat) [])).getD x 0)]) rfl rfl er dx mg z3 rfl U er (fun _ h=>by cases h) lt.own (bW (n:=1) ay.get Z) rfl rfl (by show (_ + _) * 8<=_;simp only [aH,List.length_cons,List.length_nil];(try simp only [List.length_append,List.length_cons,List.length_nil]);omega) O2 fun A370 EL aP=>?_);rw [show ([num (((Lt1.getD ((qu.getD j 0).toNat) [])).getD x 0)]:List Value)=c9 [((Lt1.getD ((qu.getD j 0).toNat) [])).getD x 0] from rfl,dM] at aP;obtain ⟨r1,u1⟩:=Fresh.grow lt u0 wf aP;have Ba:=aP.keep aA nN;have v4:=aP.ne aA ay.wf nN;have Bb:=aP.keep a8 nO;have v5:=aP.ne a8 ay.wf nO;have wP:=bh.appd (show bh aT bM from (bh.symm b1)) lp.own ay.wf aP;have r2:=lp.appd aP (bh.symm b1);have wS:=bh.appd (show bh aT nR from aC) lw.own ay.wf aP;have r3:=lw.appd aP aC;have wY:=bh.appd (show bh aT D from br) lB.own ay.wf aP;have r4:=lB.appd aP br;have wZ:=aq.appd (show aq aT rw from ai) kp ay.wf aP;have pA:=kp.appd aP (show aq aT rw from ai);refine t5 _ _<|.q Z (ah Z)<|.nil<|j3 _ _<|.region<|.q Z (bN (b:=1) Z Z O)<|.q Z (ae Z)<|.nil ?_;exact ⟨⟨x + 1,aY.set ((((Lt1.getD ((qu.getD j 0).toNat) [])).getD x 0).toNat) (((vq Lt1 iy aY bc (qu.getD j 0).toNat x))),bc ++ [((Lt1.getD ((qu.getD j 0).toNat) [])).getD x 0],iy.set ((((Lt1.getD ((qu.getD j 0).toNat) [])).getD x 0).toNat) (iy.getD (((vq Lt1 iy aY bc (qu.getD j 0).toNat x)).toNat) false),bM,EL,nR,Lt1⟩,NW Z Z Z Z Z Z Z Z Z Z,Z,⟨⟨by omega,by first | exact hbn.neg O ‹_› | exact hbn.pos O ‹_› (by rw [‹iy.getD ((Lt1.getD (qu.getD j 0).toNat []).getD x 0).toNat false=true›];rfl) | exact hbn.pos O ‹_› (by rw [‹iy.getD ((Lt1.getD (qu.getD j 0).toNat []).getD x 0).toNat false=false›,Bool.false_or])⟩,u1,r2,r1,r3,r4,Ba,Bb,b0,v4,az,bl,aE,v5,a7,b5,(bh.symm wP),b2,c3,wS,wY,bu,pA,b7,aZ,aG,wZ,ap,bb⟩,O1⟩
  refine ao.exit<|AD _ _<|.region<|.q Z (ae Z)<|.q Z (bN (b:=1) Z Z O)<|.q Z (ah Z)<|.nil ?_;exact ⟨⟨j + 1,aY,bc,iy,bM,aT,nR,Lt1⟩,DR Z Z Z Z Z Z,Z,⟨BO.next hbn O,m6,dZ,fR,fQ,di,gg,e3,b0,aA,az,bl,aE,a8,a7,b5,b1,b2,c3,aC,br,bu,dz,b7,aZ,aG,ai,ap,bb⟩,O1⟩
 refine ao.exit<|Az _ _<|.seq fun _ Bc=>?_;obtain ⟨hR,hAh⟩:=hbo.fin' O;have hpw:=hAh.pos;refine ao.region<|.q Z (ae Z)<|.q Z (cR Z (aU Tv IU Ks Z))<|.l Z (fun _ _ t6 _=>ca ey IU rfl fun A393 bp aR=>?_);have dI:=ne_new ey f2 aR.lo;have d2:=ne_new ey cK aR.lo;have mx:=dW.own.ne_new ey aR.lo;have mB:=cc.own.ne_new ey aR.lo;have mK:=dw.ne_new ey aR.lo;have fD:=aL wf (Nat.le_trans hB.n aR.lo);have Bd:=aR.le.get _ _ f2;have Bk:=aR.le.get _ _ cK;have r6:=dW.le aR.le;have r7:=cc.le aR.le;have pE:=dw.le aR.le;have u8:=hB.trans aR.le;refine t6 _ _<|.l Z (fun _ _ t7 _=>aM (cs:=[num ((2 * gn:Nat):Int),num ((0:Nat):Int),.slice none 0 0,.slice none 0 0]) (c':=[num ((2 * gn:Nat):Int),num ((0:Nat):Int),.slice none 0 0,.slice none 0 0]) aR.wf rfl rfl rfl rfl jH aR.get (Nat.le_of_ble_eq_true rfl) rfl rfl fun A409 cS=>?_);have Bl:=cS.keep _ _ dI Bd;have nQ:=cS.keep _ _ d2 Bk;have r9:=r6.keep cS.keep mx;have lC:=r7.keep cS.keep mB;have pF:=pE.keep cS.keep mK;have ub:=al u8 wf fD cS.n cS.keep;refine t7 _ _<|.nil<|Bc _ _<|.seq fun _ Bm=>.seq fun _ Bo=>.region<|.q Z (ae Z)<|.q Z (c8 Z)<|.q Z (aj iR iQ U Z)<|.q Z (ak jN Z Z nQ Z) ?_;refine Ops.q Z (bH (n:=rw.length) m5 Z lC.slc O (iO _))<|.q Z (ae Z)<|.nil<|Bo _ _<|.block<|.loop (X:=Nat × List Value × List Bool × Value × Value × List (List Int)) (fun ⟨s,hd,ac,a4,aB,Lc⟩=>[(2,.pointer (some ⟨b9,0,none⟩)),(5,.pointer (some ⟨a0,0,none⟩)),(15,.pointer (some ⟨bp,0,none⟩)),(139,D),(140,num ((rw.length:Nat):Int)),(141,num ((s:Nat):Int))]) (fun ⟨s,hd,ac,a4,aB,Lc⟩ B=>(s<=rw.length/\Lc=l8 en Lt s 0/\hd=rw.take s/\ac=(en.take s).map (fun e=>!e))/\A.le B/\Fresh A B a4 1 (cq ac)/\Fresh A B aB 1 (em hd)/\Fresh A B jO 1 (cq en)/\Fresh A B D 1 (em rw)/\B.get b9=some (.row true [num ((0:Nat):Int),num ((0:Nat):Int),.slice none 0 0,.slice none 0 0] 4)/\B.get a0=some (.row true [D,jO] 2)/\B.get bp=some (.row true [num ((2 * gn:Nat):Int),num ((0:Nat):Int),a4,aB] 4)/\V.blk a4 ≠ some b9/\V.blk aB ≠ some b9/\V.blk jO ≠ some b9/\V.blk D ≠ some b9/\V.blk a4 ≠ some a0/\V.blk aB ≠ some a0/\V.blk jO ≠ some a0/\V.blk D ≠ some a0/\V.blk a4 ≠ some bp/\V.blk aB ≠ some bp/\V.blk jO ≠ some bp/\V.blk D ≠ some bp/\bh a4 aB/\bh a4 jO/\bh a4 D/\bh aB jO/\bh aB D/\bh jO D/\kg A B rw Lc/\bI rw b9/\bI rw a0/\bI rw bp/\aq a4 rw/\aq aB rw/\aq jO rw/\aq D rw) (fun ⟨s,hd,ac,a4,aB,Lc⟩=>rw.length - s) (⟨0,[],[],.slice none 0 0,.slice none 0 0,Lt⟩) (DR Z Z Z Z Z Z) (⟨⟨Nat.zero_le _,BF.symm,by simp,by simp⟩,ub,(Fresh.nil A A409 1),(Fresh.nil A A409 1),r9,lC,Bl,nQ,cS.get,(fun q=>by cases q),(fun q=>by cases q),e6,dS,(fun q=>by cases q),(fun q=>by cases q),dO,d3,(fun q=>by cases q),(fun q=>by cases q),mx,mB,bh.nil,bh.nil,bh.nil,bh.nil,bh.nil,fX,pF,eA,e2,mK,aq.nil,aq.nil,eG,eL⟩) ?_;rintro ⟨s,hd,ac,a4,aB,Lc⟩ B424 ⟨⟨Me,hLc,hhd,hac⟩,dG,fO,e0,hl,f4,cC,fS,ch,gC,gE,g3,g4,g1,g2,fM,fN,fI,fL,fn,fo,iv,iD,iF,iH,iN,iS,dD,eC,gf,g0,gQ,gX,gY,gZ⟩;refine ao.wf fun mV=>?_;have hcl:Lc.length=Lt.length:=by rw [hLc];exact yH
 have hhl:hd.length=s:=by rw [hhd,List.length_take];omega
 have hacl:ac.length=s:=by rw [hac,List.length_map,List.length_take];omega
 refine ao.seq fun _ Bp=>.region<|.q Z (cA Z Z)<|.nil<|Bp _ _<|.seq fun _ Br=>.if rfl (fun E7=>?_) (fun E7=>?_)
 ·refine ao.skip<|Br _ _<|.seq fun _ Bs=>.block<|.seq fun _ Bt=>.region<|.q Z (ae Z) ?_;obtain ⟨Ho,HJ,H5,Kd,GD,IV,I1,y3,Di,A8,FQ,p9⟩:=bJ.at (i:=s) f4.slc Ok O;refine Ops.q Z (aJ m5 fC Z y3 Z Di)<|.q Z (ak kW Z Z A8 ((dh p9).trans (eH O)))<|.q Z (ah Z)<|.q Z (ah Z)<|.nil<|Bt _ _<|.seq fun _ Bu=>.seq fun _ Bv=>.region<|.q Z (ae Z) ?_;refine Ops.q Z (bH (n:=((Lc.getD s [])).length) er Z (dD.fr s O).slc O (eB _))<|.q Z (ae Z)<|.nil<|Bv _ _<|.block ?_;have hrs:(Lt.getD s []).length=2 * gn:=hAh.row s O;have HP:(Lc.getD s []).length=2 * gn:=by rw [hLc,qs O,yJ];exact hrs
  refine ao.loop (X:=Nat × List (List Int)) (fun ⟨y,Lc1⟩=>[(2,.pointer (some ⟨b9,0,none⟩)),(5,.pointer (some ⟨a0,0,none⟩)),(15,.pointer (some ⟨bp,0,none⟩)),(16,num ((s:Nat):Int)),(17,rw.getD s undef),(139,D),(140,num ((rw.length:Nat):Int)),(141,num ((s:Nat):Int)),(146,rw.getD s undef),(147,num ((((Lc.getD s [])).length:Nat):Int)),(148,num ((y:Nat):Int))]) (fun ⟨y,Lc1⟩ B=>(y<=2 * gn/\Lc1=l8 en Lt s y)/\A.le B/\Fresh A B a4 1 (cq ac)/\Fresh A B aB 1 (em hd)/\Fresh A B jO 1 (cq en)/\Fresh A B D 1 (em rw)/\B.get b9=some (.row true [num ((0:Nat):Int),num ((0:Nat):Int),.slice none 0 0,.slice none 0 0] 4)/\B.get a0=some (.row true [D,jO] 2)/\B.get bp=some (.row true [num ((2 * gn:Nat):Int),num ((0:Nat):Int),a4,aB] 4)/\V.blk a4 ≠ some b9/\V.blk aB ≠ some b9/\V.blk jO ≠ some b9/\V.blk D ≠ some b9/\V.blk a4 ≠ some a0/\V.blk aB ≠ some a0/\V.blk jO ≠ some a0/\V.blk D ≠ some a0/\V.blk a4 ≠ some bp/\V.blk aB ≠ some bp/\V.blk jO ≠ some bp/\V.blk D ≠ some bp/\bh a4 aB/\bh a4 jO/\bh a4 D/\bh aB jO/\bh aB D/\bh jO D/\kg A B rw Lc1/\bI rw b9/\bI rw a0/\bI rw bp/\aq a4 rw/\aq aB rw/\aq jO rw/\aq D rw) (fun ⟨y,Lc1⟩=>2 * gn - y) (⟨0,Lc⟩) (tV Z Z Z Z Z Z Z Z Z Z Z) (⟨⟨Nat.zero_le _,hLc⟩,dG,fO,e0,hl,f4,cC,fS,ch,gC,gE,g3,g4,g1,g2,fM,fN,fI,fL,fn,fo,iv,iD,iF,iH,iN,iS,dD,eC,gf,g0,gQ,gX,gY,gZ⟩) ?_;rintro ⟨y,Lc1⟩ B441 ⟨⟨hy,e1⟩,hC,dd,dk,cb,dj,f3,cP,ck,bd,bm,c4,c7,b3,b6,bO,bP,ab,aS,ad,ag,cV,cX,cZ,d0,d1,e9,a1,bR,bv,a6,b8,ba,bS,bT⟩;refine ao.wf fun hQ=>?_;have HO:Lc1.length=Lt.length:=by rw [e1];exact yH
  have hrc:(Lc1.getD s []).length=2 * gn:=by rw [e1,qs O,yJ];exact hrs
  have hce:=fun q:y < 2 * gn=>(show (Lc1.getD s []).getD y 0=(Lt.getD s []).getD y 0 by rw [e1];exact Fy O O);have hca:=fun q:y < 2 * gn=>hAh.at (s:=s) (x:=y) O q;refine ao.seq fun _ By=>.region<|.q Z (cA Z Z)<|.nil<|By _ _<|.seq fun _ BA=>.if rfl (fun E9=>?_) (fun E9=>?_)
  ·refine ao.skip<|BA _ _<|.seq fun _ nT=>.block<|.seq fun _ BB=>.region<|.q Z (ae Z) ?_;obtain ⟨Hp,HK,H6,Kk,GE,IX,I2,y4,Dj,A9,FS,pa⟩:=bJ.at (i:=y) (a1.fr s O).slc O3 O;refine Ops.q Z (aJ er dx Z y4 Z Dj)<|.q Z (ak fj Z Z A9 ((dh pa).trans (df O)))<|.q Z (ah Z)<|.q Z (ah Z)<|.nil<|BB _ _<|.seq fun _ BC=>?_;obtain ⟨Lp,Lv⟩:=hca O;have Lw:=hce O;refine ao.region<|.q Z (ae Z)<|.q Z (c8 Z)<|.q Z (aj k8 iB U Z)<|.q Z (ak iu Z Z cP Z)<|.q Z (ae Z) ?_;obtain ⟨Hq,HL,H7,Kl,GF,J1,Id,y5,Dk,Aa,FT,pe⟩:=bJ.at (i:=(((Lc1.getD s [])).getD y 0).toNat) cb.slc Oi O;refine Ops.q Z (aJ kR lJ Z y5 (jr O) Dk)<|.q Z (ak vm Z Z Aa ((dh pe).trans (ek O)))<|.nil<|BC _ _<|.ifB Z (fun Ea=>?_) (fun Ea=>?_)
   ·refine ao.region<|.q Z (ae Z)<|.q Z (ae Z) ?_;obtain ⟨hk,J2,Hy,Ey,GG,dV,Do,Ab,L4,DW,KD,CK⟩:=a1.at (s:=s) (x:=y) O O;refine Ops.q Z (aJ er dx Z dV Z (by rw [Do];omega))<|.l Z (fun _ _ t8 _=>aM (off:=y) (c':=Ey.set y (num (-1))) hQ rfl (by simp) rfl rfl dx Ab (by show y + 1<=_;omega) rfl rfl fun A459 bU=>?_);have BD:=bU.keep _ _ (fun q=>dR bR (s:=s) (by have:=a1.len;omega) (by rw [dV];exact congrArg some q.symm)) f3;have BL:=bU.keep _ _ (fun q=>dR bv (s:=s) (by have:=a1.len;omega) (by rw [dV];exact congrArg some q.symm)) cP;have BM:=bU.keep _ _ (fun q=>dR a6 (s:=s) (by have:=a1.len;omega) (by rw [dV];exact congrArg some q.symm)) ck;have rr:=dd.keep bU.keep (fun q=>dR b8 (s:=s) (by have:=a1.len;omega) hk q (by rw [dV];rfl));have rt:=dk.keep bU.keep (fun q=>dR ba (s:=s) (by have:=a1.len;omega) hk q (by rw [dV];rfl));have rR:=cb.keep bU.keep (fun q=>dR bS (s:=s) (by have:=a1.len;omega) hk q (by rw [dV];rfl));have rS:=dj.keep bU.keep (fun q=>dR bT (s:=s) (by have:=a1.len;omega) hk q (by rw [dV];rfl));have pI:=CK ((-1)) A459 bU;have ui:=al hC wf DW bU.n bU.keep;refine t8 _ _<|.nil<|nT _ _<|.region<|.q Z (bN (b:=1) Z Z O)<|.q Z (ae Z)<|.nil ?_;exact ⟨⟨y + 1,Lc1.set s ((Lc1.getD s []).set y ((-1)))⟩,tV Z Z Z Z Z Z Z Z Z Z Z,Z,⟨⟨by omega,by first | (rw [e1];exact yI O O (by rw [<- hce O];assumption)) | (rw [e1];exact DN O O (by rw [<- hce O];assumption))⟩,ui,rr,rt,rR,rS,BD,BL,BM,bd,bm,c4,c7,b3,b6,bO,bP,ab,aS,ad,ag,cV,cX,cZ,d0,d1,e9,pI,bR,bv,a6,b8,ba,bS,bT⟩,O1⟩
   refine ao.skip<|nT _ _<|.region<|.q Z (bN (b:=1) Z Z O)<|.q Z (ae Z)<|.nil ?_;exact ⟨⟨y + 1,Lc1⟩,tV Z Z Z Z Z Z Z Z Z Z Z,Z,⟨⟨by omega,by first | (rw [e1];exact yI O O (by rw [<- hce O];assumption)) | (rw [e1];exact DN O O (by rw [<- hce O];assumption))⟩,hC,dd,dk,cb,dj,f3,cP,ck,bd,bm,c4,c7,b3,b6,bO,bP,ab,aS,ad,ag,cV,cX,cZ,d0,d1,e9,a1,bR,bv,a6,b8,ba,bS,bT⟩,O1⟩
  refine ao.exit<|Bu _ _<|.seq fun _ BP=>?_;obtain ⟨hX,hV,hS,hsh,_⟩:=(a1.fr s O).own.slice;rw [hsh];refine ao.region<|.q Z (aj kG iQ U Z)<|.q Z (ak jN Z Z ck Z)<|.q Z (ae Z)<|.l Z (fun _ _ t9 _=>aN (c:=[.slice hX hV hS]) hQ rfl (ax m5 fC I0 rfl U U rfl) fun A474 Hr a5=>?_);have G5:=a1.ne_new hQ a5.lo;have nU:=a5.le.get _ _ f3;have nV:=a5.le.get _ _ cP;have o1:=a5.le.get _ _ ck;have lE:=dd.le a5.le;have lF:=dk.le a5.le;have lK:=cb.le a5.le;have lO:=dj.le a5.le;have kv:=a1.le a5.le;have up:=hC.trans a5.le;refine t9 _ _<|.l Z (fun _ _ tb _=>cJ (ys:=[.slice hX hV hS]) rfl rfl m5 fC DY I0 rfl U m5 (fun _ h=>by cases h) lF.own (bW (n:=1) a5.get Z) rfl rfl (by show (_ + _) * 24<=_;simp only [cw,List.length_cons,List.length_nil];(try simp only [List.length_append,List.length_cons,List.length_nil]);omega) Or fun A491 KL a9=>?_);rw [show ([.slice hX hV hS]:List Value)=em [Value.slice hX hV hS] from rfl,oB] at a9;obtain ⟨lP,us⟩:=Fresh.grow lF up wf a9;have BR:=a9.keep bm nU;have v6:=a9.ne bm a5.wf nU;have BT:=a9.keep b6 nV;have v7:=a9.ne b6 a5.wf nV;have BU:=a9.keep aS o1;have hJ:=a9.ne aS a5.wf o1;have mM:=bh.appd (show bh aB a4 from (bh.symm cV)) lE.own a5.wf a9;have rT:=lE.appd a9 (bh.symm cV);have x0:=bh.appd (show bh aB jO from d0) lK.own a5.wf a9;have rV:=lK.appd a9 d0;have x1:=bh.appd (show bh aB D from d1) lO.own a5.wf a9;have rW:=lO.appd a9 d1;have x2:=aq.appd (show aq aB rw from ba) kv a5.wf a9;have pJ:=kv.appd a9 (show aq aB rw from ba);refine tb _ _<|.q Z (aj kG iQ U Z) ?_;obtain ⟨gL,gl,gc,Eg,_⟩:=lP.own.slice;subst Eg;refine Ops.l Z (fun _ _ ti _=>aM (cs:=[.slice gL gl gc]) (c':=[num ((2 * gn:Nat):Int),num ((0:Nat):Int),a4,.slice gL gl gc]) a9.wf rfl rfl rfl rfl iQ BU (Nat.le_of_ble_eq_true rfl) rfl rfl fun A514 aV=>?_);have BV:=aV.keep _ _ dI BR;have o2:=aV.keep _ _ d2 BT;have s0:=rT.keep aV.keep ab;have lT:=rV.keep aV.keep ad;have s1:=rW.keep aV.keep ag;have s2:=lP.keep aV.keep hJ;have kC:=pJ.keep aV.keep a6;have uB:=al us wf fD aV.n aV.keep;refine ti _ _<|.nil<|BP _ _<|.drawn [0,1,2,3,4,5,6,7,8,9,10,11,12,13] mixed Y Y Z<|.q Z Z Z (aj kF iB U Z) ?_;have sz:=dL (off:=2) aV.get (show _=some (a4) from rfl);refine bj.q Z Z Z (ak iu Z Z aV.get Z)<|.q Z Z Z (ae Z)<|.q Z Z Z (c8 Z)<|.q Z Z Z (aj k8 iB U Z)<|.q Z Z Z (ak iu Z Z o2 Z)<|.q Z Z Z (ae Z) ?_;obtain ⟨Hs,HM,H8,Km,GL,J3,If,y6,Ds,Ac,FV,pf⟩:=bJ.at (i:=s) lT.slc Oi O;refine bj.q Z Z Z (aJ kR lJ Z y6 Z Ds)<|.q Z Z Z (ak vm Z Z Ac ((dh pf).trans (ek O)))<|.q Z Z Z (eE Z)<|.l Z Z Z (fun _ _ tj _=>aN (c:=[.bool (!(en.getD s false))]) aV.wf rfl (ax kR lJ z4 rfl U U rfl) fun A530 Ht a3=>?_);have G6:=kC.ne_new aV.wf a3.lo;have o3:=a3.le.get _ _ BV;have oi:=a3.le.get _ _ o2;have oj:=a3.le.get _ _ aV.get;have lV:=s0.le a3.le;have lW:=lT.le a3.le;have lX:=s1.le a3.le;have lY:=s2.le a3.le;have kD:=kC.le a3.le;have sB:=cm a3.le sz;have uI:=uB.trans a3.le;refine tj _ _ (aO.list (L:=[(⟨bp,2,none⟩,a4)]) Y (bq sB cL))<|.l Z Z Z (fun _ _ ts _=>cJ (ys:=[.bool (!(en.getD s false))]) rfl rfl kR lJ JO z4 rfl U kR (fun _ h=>by cases h) lV.own (bW (n:=1) a3.get Z) rfl rfl (by show (_ + _) * 1<=_;simp only [bz,List.length_cons,List.length_nil];(try simp only [List.length_append,List.length_cons,List.length_nil]);omega) Ov fun A550 KM aa=>?_);rw [show ([.bool (!(en.getD s false))]:List Value)=cq [!(en.getD s false)] from rfl,mC] at aa;obtain ⟨lZ,uP⟩:=Fresh.grow lV uI wf aa;have BY:=aa.keep bd o3;have v8:=aa.ne bd a3.wf o3;have C1:=aa.keep b3 oi;have v9:=aa.ne b3 a3.wf oi;have C2:=aa.keep ab oj;have mm:=aa.ne ab a3.wf oj;have x3:=bh.appd (show bh a4 jO from cX) lW.own a3.wf aa;have s3:=lW.appd aa cX;have x4:=bh.appd (show bh a4 D from cZ) lX.own a3.wf aa;have s4:=lX.appd aa cZ;have x5:=bh.appd (show bh a4 (.slice gL gl gc) from (bh.symm mM)) lY.own a3.wf aa;have s5:=lY.appd aa (bh.symm mM);have x6:=aq.appd (show aq a4 rw from b8) kD a3.wf aa;have pL:=kD.appd aa (show aq a4 rw from b8);refine ts _ _ (aO.none Y)<|.q Z Z Z (aj kF iB U Z) ?_;obtain ⟨k3,k1,iV,El,_⟩:=lZ.own.slice;subst El;refine bj.l Z Z Z (fun _ _ tt _=>aM (cs:=[.slice k3 k1 iV]) (c':=[num ((2 * gn:Nat):Int),num ((0:Nat):Int),.slice k3 k1 iV,.slice gL gl gc]) aa.wf rfl rfl rfl rfl iB C2 (Nat.le_of_ble_eq_true rfl) rfl rfl fun A574 bV=>?_);have C3:=bV.keep _ _ dI BY;have C4:=bV.keep _ _ d2 C1;have s6:=s3.keep bV.keep ad;have sb:=s4.keep bV.keep ag;have sf:=s5.keep bV.keep hJ;have sr:=lZ.keep bV.keep mm;have pP:=pL.keep bV.keep a6;have uS:=al uP wf fD bV.n bV.keep;refine tt _ _ (aO.none Y)<|.done<|Bs _ _<|.region<|.q Z (bN (b:=1) Z Z O)<|.q Z (ae Z)<|.nil ?_;exact ⟨⟨s + 1,hd ++ [Value.slice hX hV hS],ac ++ [!(en.getD s false)],.slice k3 k1 iV,.slice gL gl gc,Lc1⟩,DR Z Z Z Z Z Z,Z,⟨⟨by omega,by rw [e1,show y=(Lt.getD s []).length by omega];exact Fz O O,by rw [hhd,<- hsh];exact fK O,by rw [hac];exact Gy O⟩,uS,sr,sf,s6,sb,C3,C4,bV.get,v8,v6,c4,c7,v9,v7,bO,bP,mm,hJ,ad,ag,x5,x3,x4,x0,x1,e9,pP,bR,bv,a6,x6,x2,bS,bT⟩,O1⟩
 refine ao.exit<|Bm _ _<|.seq fun _ C7=>.seq fun _ Cb=>.region<|.q Z (aj kG iQ U Z)<|.q Z (ak jN Z Z ch Z)<|.q Z (bH (n:=hd.length) m5 Z e0.slc O (iO _))<|.q Z (fu (b:=20000) Z Z)<|.nil ?_;refine Cb _ _<|.if rfl (fun Ec=>?_) (fun Ec=>?_)
 ·refine ao.seq fun _ HN=>?_;exfalso;omega
 refine ao.skip<|C7 _ _<|.seq fun _ Cc=>.region<|.q Z (am px jH Z Z ch Z) ?_;have Ch:hd=rw:=by rw [hhd,List.take_of_length_le O]
 have jX:Lc=Lt.map (eD en):=by rw [hLc];exact Jp O
 have k0:ac=en.map (fun e=>!e):=by rw [hac,List.take_of_length_le O]
 have hao:I3 (2 * gn) ac Lc:=by rw [jX,k0];exact QE hAh O O
 refine Ops.l Z (fun _ _ tw _=>aK Z (LI (2 * gn) ac Lc a4 aB hd B424 O hao fO.slc e0.slc O (fun i hi=>by rw [Ch];exact (dD.fr i hi).slc)) ?_);rintro KP A595 ⟨EN,EQ,ES,rfl,gq,oS,fq,ft,ea,h9,ha,hb⟩;have Cf:=gq.get _ _ cC;have pS:=dD.le gq;have v0:=dG.trans gq;have xa:=fq;have xv:=ft;have xf:=ea;have Mt:=h9;have Mv:=ha;have Mx:=hb;have w2:=fq.ne mV cC;have w3:=ft.ne mV cC;have wc:=ea.ne cC;have G7:=ea.ne fS;have G8:=ea.ne ch;refine tw _ _<|.q Z (bf Z Z)<|.q Z (bf Z Z) ?_;obtain ⟨oQ,oJ,n9,En,_⟩:=(fq.base dG).own.slice;subst En;obtain ⟨oR,oK,nb,Eq,_⟩:=(ft.base dG).own.slice;subst Eq;refine Ops.l Z (fun _ _ tz _=>aM (cs:=[num ((2 * gn:Nat):Int),num ((0:Nat):Int),.slice oQ oJ n9,.slice oR oK nb]) (c':=[num ((2 * gn:Nat):Int),num ((0:Nat):Int),.slice oQ oJ n9,.slice oR oK nb]) oS rfl rfl rfl rfl jH Cf (Nat.le_of_ble_eq_true rfl) rfl rfl fun A618 cU=>?_);have ss:=(fq.base dG).keep cU.keep w2;have sv:=(ft.base dG).keep cU.keep w3;have G1:=pS.keep cU.keep eC;have pU:=(ea.base dG).keep cU.keep wc;have v1:=al v0 wf m1 cU.n cU.keep;refine tz _ _<|.q Z (ah Z)<|.nil<|Cc _ _<|.ret ?_;repeat first | with_reducible refine bE ?_ | with_reducible refine bk ?_
 exact be (dE px jH Z cU.get Z (ei Z eh)) (⟨_,_,_,by rw [(sQ hs).1,(sQ hs).2.1];rfl,v1,cU.wf,c6 ss (congrArg cq (by rw [(sQ hs).2.2,k0,jX,MW,MY,hR])),sv,lD pU (by rw [(sQ hs).2.2,k0,jX,MW,MY,hR]),h9,ha,hb⟩)
end Go.Proofs.YtjppkekmddjcfaaGreatDoor

namespace Go.Proofs.YtjppkekmddjcfaaGreatDoor
open Go Go.RowKit V
def dN:List Wd:=[[97,98,65,66]]
def cW (a b c d:Value):List au:=[⟨[98,97],[97,98],a,[⟨[],0,true⟩]⟩,⟨[98,65],[65,98],b,[⟨[65],0,false⟩]⟩,⟨[66,97],[97,66],c,[⟨[66],0,false⟩]⟩,⟨[66,65],[65,66],d,[⟨[66,65],0,true⟩]⟩]
section
variable (a b c d:Value)
set_option maxRecDepth 100000
theorem ux:cx 2 dN (cW a b c d)=true:=by kernel_rfl
theorem OH:(mq 2 dN (cW a b c d) [98,98,97,65]).word=[98,98]/\(mq 2 dN (cW a b c d) [98,98,97,65]).steps=4/\ke 2 dN (cW a b c d) [98,98,97,65]=0:=by refine ⟨?_,?_,?_⟩ <;> kernel_rfl
theorem OL:(mq 2 dN (cW a b c d) [98,97,66]).word=[97]/\(mq 2 dN (cW a b c d) [98,97,66]).steps=1/\ke 2 dN (cW a b c d) [98,97,66]=0:=by refine ⟨?_,?_,?_⟩ <;> kernel_rfl
theorem OM:(mq 2 dN (cW a b c d) [98,97,98,97]).word=[97,97,98,98]/\(mq 2 dN (cW a b c d) [98,97,98,97]).steps=3/\ke 2 dN (cW a b c d) [98,97,98,97]=0:=by refine ⟨?_,?_,?_⟩ <;> kernel_rfl
theorem OO:dr 2 dN (cW a b c d)=(true,.zero,0):=by kernel_rfl
theorem OQ:mG 2 dN (cW a b c d)=(true,0):=by kernel_rfl
theorem OU:vR 2 dN (cW a b c d)=true:=by kernel_rfl
theorem O0:AX 2 dN (cW a b c d)=([true,true,true,true,true],[[1,2,3,4],[1,-1,3,4],[-1,2,3,4],[-1,-1,3,-1],[-1,-1,-1,4]])/\Fb 2 dN (cW a b c d)=4/\ru 2 dN (cW a b c d)=0:=by refine ⟨?_,?_,?_⟩ <;> kernel_rfl
theorem O4:dr 2 dN ((cW a b c d).take 1)=(false,⟨0,-1,[98,97,65],[97,98,65],[98]⟩,0):=by kernel_rfl
theorem Ed:ym (cW a b c d) [97,66]=true/\ym (cW a b c d) [66,97]=false/\co 2 [97,66]=0/\co 2 [66,97]=0:=by refine ⟨?_,?_,?_,?_⟩ <;> kernel_rfl
theorem qM:(bg 2 (cW a b c d)).length<=50000/\(bg 2 ((cW a b c d).take 1)).length<=50000/\kJ (vj 2 (cW a b c d))<=18000:=by
  refine ⟨?_,?_,?_⟩ <;> exact Nat.le_of_ble_eq_true Y
theorem Ku:eP true (cW a b c d) (cW a b c d)=true:=by kernel_rfl
end
structure fy (A:AH) (u rv:Value) (a b c d:Value):Prop where
  L:eF A
  M:nr A
  u:bJ A 1 u (dc dN)
  r:bJ A 3 rv (ci (cW a b c d))
  p:Proofs A (cW a b c d)
theorem fy.le {A B:AH} {u rv a b c d:Value} (h:fy A u rv a b c d) (le:A.le B):fy B u rv a b c d:=⟨h.L.le le,h.M.le le,h.u.le le,h.r.le le,h.p.le le⟩
theorem fy.one {A:AH} {u:Value} {br:Nat} {a b c d:Value} (h:fy A u (.slice (some ⟨br,0,none⟩) 4 4) a b c d):bJ A 3 (.slice (some ⟨br,0,none⟩) 1 4) (ci ((cW a b c d).take 1))/\Proofs A ((cW a b c d).take 1):=by
  obtain ⟨p,n,k,e,h1,h2,h3⟩:=h.r
  cases e
  rcases h3 with h3 | ⟨b',off,rw,r,rcap,e,g1,g2⟩
  · cases h3
  · cases e
    refine ⟨⟨_,1,4,rfl,rfl,by decide,.inr ⟨_,0,rw,r,rcap,rfl,g1,?_⟩⟩,fun r hr=>h.p r (List.mem_of_mem_take hr)⟩
    have:((r.drop 0).take (4 * 3)).take 3=(ci (cW a b c d)).take 3:=by rw [g2]
    rw [List.take_take] at this
    exact this
end Go.Proofs.YtjppkekmddjcfaaGreatDoor
