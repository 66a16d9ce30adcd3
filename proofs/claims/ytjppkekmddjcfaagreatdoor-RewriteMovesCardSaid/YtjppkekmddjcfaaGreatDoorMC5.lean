import Derived.Test.YtjppkekmddjcfaaGreatDoorMC4
set_option linter.unusedSectionVars false
set_option linter.unusedVariables false
set_option linter.unusedSimpArgs false
namespace Go.Proofs.YtjppkekmddjcfaaGreatDoor
open Go Go.RowKit
namespace V
def na (b4:Nat) (B:AH) (b:Nat):Prop:=b=b4\/∃ v cap,B.get b4=some (.row true [v] cap)/\blk v=some b
structure cq (b4:Nat) (M C:AH):Prop where
  le:M.le C
  wf:M.wf
  ow:∀ b,na b4 C b->M.get b=none
section
variable {b4 b k:Nat} {A B C M M':AH} {v:Value} {cap:Nat} {o:fG}
theorem na.same (h:na b4 C b) (e:C.get b4=B.get b4):na b4 B b:=by
  rcases h with h | ⟨v,cap,h1,h2⟩
  · exact .inl h
  · exact .inr ⟨v,cap,e ▸ h1,h2⟩
theorem na.val (h:na b4 C b) (g:C.get b4=some (.row true [v] cap)):b=b4\/blk v=some b:=by
  rcases h with h | ⟨v',cap',h1,h2⟩
  · exact .inl h
  · rw [g] at h1;cases h1;exact .inr h2
theorem cq.mono (h:cq b4 M C) (le:M'.le M) (wf:M'.wf):cq b4 M' C:=⟨le.trans h.le,wf,fun b hb=>by
  cases q:M'.get b with
  | none=>rfl
  | some o=>rw [<- h.ow b hb,le.get b o q]⟩
theorem cq.full (g:C.get b4=some (.row true [v] cap)) (wf:C.wf):cq b4 (C.hide [some b4,blk v]) C :=
  ⟨cz _ _,cg wf,fun b hb=>cn (by
    rcases hb.val g with rfl | q
    · simp
    · rw [q];simp)⟩
theorem cq.sub (h:cq b4 M C) (g:C.get b4=some (.row true [v] cap)):M.le (C.hide [some b4,blk v]) :=
  cd h.le fun b hb=>by
    simp only [List.mem_cons,List.not_mem_nil,or_false,Option.some.injEq] at hb
    rcases hb with rfl | hb
    · exact h.ow _ (.inl Z)
    · exact h.ow _ (.inr ⟨v,cap,g,hb.symm⟩)
end
theorem cq.up {b4:Nat} {A B M:AH} {v:Value} {cap:Nat} (h:cq b4 M A) (le:A.le B) (g:A.get b4=some (.row true [v] cap)):cq b4 M B :=
  ⟨h.le.trans le,h.wf,fun b hb=>h.ow b (hb.same (by rw [g];exact le.get _ _ g))⟩
theorem pM {A B:AH} {v:Value} (le:A.le B) (h:∀ b,blk v=some b->∃ o,A.get b=some o):∀ b,blk v=some b->∃ o,B.get b=some o:=fun b hb=>let ⟨o,ho⟩:=h b hb;⟨o,le.get _ _ ho⟩
theorem go {b4 b:Nat} {A X:AH} {v:Value} {cap:Nat} {o:fG} (h:A.get b=some o) (g:X.get b4=some (.row true [v] cap)) (l:∀ b,blk v=some b->∃ o,X.get b=some o) (nj:X.get b=none):(A.hide [some b4,blk v]).get b=some o :=
  bN h (rd (fun q=>by rw [q,g] at nj;cases nj) (oD (fun q=>by obtain ⟨o,ho⟩:=l b q;rw [nj] at ho;cases ho) m7))
theorem rL {b4 n:Nat} {A B X:AH} {v t:Value} {cap:Nat} {xs:List Value} (h:Fresh B A t n xs) (g:X.get b4=some (.row true [v] cap)) (l:∀ b,blk v=some b->∃ o,X.get b=some o) (nj:∀ b,blk t=some b->X.get b=none):bI (A.hide [some b4,blk v]) n t xs :=
  (h.off (bs:=[some b4,blk v]) (ks (fun q=>by have:=nj _ q;rw [g] at this;cases this) (jF (fun c hc hq=>by obtain ⟨o,ho⟩:=l c hc;rw [nj c hq] at ho;cases ho) kr)) (AH.le.refl _)).slc
structure jt (b4:Nat) (A B:AH) (Ds:List Nat):Prop where
  nd:Ds.Nodup
  lo:∀ D ∈ Ds,A.n<=D
  get:∀ D ∈ Ds,B.get D=some (.obj true (.deferred (some [])))
  ow:∀ D ∈ Ds,¬ na b4 B D
theorem jt.nil {b4:Nat} {A B:AH}:jt b4 A B []:=⟨List.nodup_nil,(fun _ h=>by cases h),(fun _ h=>by cases h),(fun _ h=>by cases h)⟩
theorem jt.up {b4:Nat} {A B C:AH} {Ds:List Nat} {v:Value} {cap:Nat} (h:jt b4 A B Ds) (le:B.le C) (g:B.get b4=some (.row true [v] cap)):jt b4 A C Ds :=
  ⟨h.nd,h.lo,fun D hD=>le.get _ _ (h.get D hD),fun D hD q=>h.ow D hD (q.same (by rw [g];exact le.get _ _ g))⟩
theorem jt.push {b4 D:Nat} {A B C:AH} {Ds:List Nat} {v:Value} {cap:Nat} (h:jt b4 A B Ds) (g:B.get b4=some (.row true [v] cap)) (hR:cq b4 (B.hide [some b4,blk v]) C) (wf:B.wf) (hA:A.n<=B.n) (hn:B.n<=D) (hD:C.get D=some (.obj true (.deferred (some [])))) (ho:¬ na b4 C D):jt b4 A C (D :: Ds):=by
  have key:∀ E ∈ Ds,(B.hide [some b4,blk v]).get E=some (.obj true (.deferred (some []))):=fun E hE=>bN (h.get E hE) (rd (fun q=>h.ow E hE (.inl q)) (oD (fun q=>h.ow E hE (.inr ⟨v,cap,g,q⟩)) m7))
  refine ⟨List.nodup_cons.2 ⟨fun q=>by have:=wf _ _ (h.get D q);omega,h.nd⟩,fun E hE=>?_,fun E hE=>?_,fun E hE=>?_⟩
  · rcases List.mem_cons.1 hE with rfl | q
    · omega
    · exact h.lo E q
  · rcases List.mem_cons.1 hE with rfl | q
    · exact hD
    · exact hR.le.get _ _ (key E q)
  · rcases List.mem_cons.1 hE with rfl | q
    · exact ho
    · intro z;have:=hR.ow E z;rw [key E q] at this;cases this
theorem jt.leave {b4:Nat} {A A' B M:AH} {Ds:List Nat} {v:Value} {cap:Nat} (h:jt b4 A B Ds) (le:M.le A) (wf:A.wf) (hR:cq b4 M B) (g:B.get b4=some (.row true [v] cap)) (hn:A'.n=B.n) (hk:∀ b o,b ∉ Ds->B.get b=some o->A'.get b=some o) :
    cq b4 M A'/\∀ b o,(b < A.n\/na b4 B b)->B.get b=some o->A'.get b=some o:=by
  have k2:∀ b o,(b < A.n\/na b4 B b)->B.get b=some o->A'.get b=some o:=fun b o hb hg=>hk b o (fun q=>by
    rcases hb with hb | hb
    · have:=h.lo b q;omega
    · exact h.ow b q hb) hg
  refine ⟨⟨⟨by rw [hn];exact hR.le.n,fun b o hb=>k2 b o (.inl (wf _ _ (le.get _ _ hb))) (hR.le.get _ _ hb)⟩,hR.wf,fun b hb=>hR.ow b (hb.same ?_)⟩,k2⟩
  rw [g];exact k2 b4 _ (.inr (.inl Z)) g
section
variable {P:Program} {nt:Nat} {Q:Exit->Fr->AH->Prop} {A M:AH} {e:gI} {ds:List Deferred}
theorem al.rangeOwn {g:Operand} {gf:Nat} {lb:Array Value} {ps:Array Tmp} {assign body:Code} (b4 n:Nat) (xs:Nat->List Value) (I:Nat->AH->Prop) (e1:Nat->Nat->gI) (ar:Nat->fG)
    (hg:bQ e g=some (.func (.func gf) #[] lb)) (eg:fx P gf) (hps:∀ i,(xs i).length=ps.size) (hpn:∀ p ∈ ps.toList,p < nt) (a3:b4 < A.n) (hM:cq b4 M A)
    (hI:∀ i B B',I i B->B'.wf->B.n<=B'.n->(∀ b o,(b < A.n\/na b4 B b)->B.get b=some o->B'.get b=some o)->I i B')
    (hv:∀ i B,I i B->∃ v cap,B.get b4=some (.row true [v] cap)/\∀ b,blk v=some b->∃ o,B.get b=some o) (h0:I 0 A)
    (hiter:∀ l (J:Nat->AH->Prop) B M,B.n=A.n + 2->A.le B->B.wf->cq b4 M B->(∀ i C,J i C->I i C) ->
      (∀ i C C',J i C->C'.wf->C.n<=C'.n->(∀ b o,(b < B.n\/na b4 C b)->C.get b=some o->C'.get b=some o)->J i C')->J 0 B ->
      (∀ i C M',i < n->C.wf->J i C->cq b4 M' C->ls P l (xs i).toArray C (fun v C'=>v=.bool true/\J (i + 1) C'/\C'.wf/\cq b4 M' C')) ->
      bz P gf (#[.func (.yield l) #[] #[]] ++ lb) B (fun _ C=>J n C/\C.wf/\cq b4 M C))
    (hassign:∀ F i B,xk F->i < n->eh P nt F assign (wv fun f C=>∃ b6,B.n<=b6/\am (e1 i b6) f.e/\f.ds=[]/\B.le C/\C.wf/\C.get b6=some (ar i)) ⟨zK ps.toList (xs i) e,[]⟩ B)
    (hbody:∀ F i B b6 M',xk F->i < n->I i B->B.wf->A.n<=B.n->cq b4 M' B->A.n<=b6->B.get b6=some (ar i)->¬ na b4 B b6->M'.get b6=none->eh P nt F body (wv fun _ C=>I (i + 1) C/\C.wf/\cq b4 M' C) ⟨e1 i b6,[]⟩ B)
    (hK:∀ B D,I n B->B.wf->A.n<=D->A.n<=B.n->B.get D=some (.obj true (.deferred (some [])))->¬ na b4 B D->cq b4 M B->Q .normal ⟨e,mark D :: ds⟩ B) :
    al P nt (.rangeFunc g ps assign body) Q ⟨e,ds⟩ A:=by
  intro a w ha hw
  refine wpIn_wide.1 (wpIn_rangeFunc (n:=0) ?_)
  intro fn _
  rw [show Fence.wide.round=none from rfl]
  obtain ⟨rec,hrec⟩:∃ rec:LoopState->Option Code->Loop,rec=fun st pe=>{ state:=st,pending:=pe,fn,tmps:=a.tmps,params:=ps,assign,body,defers:=w.heap.size }:=⟨_,rfl⟩
  have hsz:w.heap.size=A.n:=hw.size
  have wfA:=hw.wf
  have hA:∀ b,na b4 A b->b < A.n:=fun b hb=>by
    obtain ⟨v,cap,g1,g2⟩:=hv 0 A h0
    rcases hb.val g1 with rfl | q
    · exact a3
    · obtain ⟨o,ho⟩:=g2 b q;exact wfA _ _ ho
  obtain ⟨v1,s1⟩:=jK (o:=.obj true (.deferred (some []))) (x:=.deferred (some [])) hw ⟨rfl,fun _ _ _ q=>by cases q⟩
  obtain ⟨v2,s2⟩:=jK (o:=.obj true (.loop (rec .ready none))) (x:=.loop (rec .ready none)) v1 ⟨rfl,fun _ _ _ q=>by cases q⟩
  have hgl:((A.new (.obj true (.deferred (some [])))).new (.obj true (.loop (rec .ready none)))).get (A.n + 1)=some (.obj true (.loop (rec .ready none))):=AH.new_get_same _ _
  have hgd:((A.new (.obj true (.deferred (some [])))).new (.obj true (.loop (rec .ready none)))).get A.n=some (.obj true (.deferred (some []))):=by
    rw [AH.new_get_ne _ _ (by simp)];exact AH.new_get_same _ _
  have hkeep:∀ b,b < A.n->((A.new (.obj true (.deferred (some [])))).new (.obj true (.loop (rec .ready none)))).get b=A.get b:=fun b hb=>by
    rw [AH.new_get_ne _ _ Ow,AH.new_get_ne _ _ O]
  have hleA:A.le ((A.new (.obj true (.deferred (some [])))).new (.obj true (.loop (rec .ready none)))):=AH.le_new (AH.le_new (AH.le.refl A) wfA _) wfA _
  have hnB:((A.new (.obj true (.deferred (some [])))).new (.obj true (.loop (rec .ready none)))).n=A.n + 2:=rfl
  generalize ((A.new (.obj true (.deferred (some [])))).new (.obj true (.loop (rec .ready none))))=B0 at *
  have ad:I 0 B0:=hI 0 A _ h0 v2.wf O fun b o hb hgb=>by rw [hkeep b (wfA _ _ hgb)];exact hgb
  have aa:∀ b,na b4 B0 b->b < A.n:=fun b hb=>hA b (hb.same (hkeep b4 a3))
  have hgev:a.eval g=.func (.func gf) #[] lb:=cI ha hg
  -- what is kept of the loop's own blocks
  have nl:b4 ≠ A.n + 1:=by omega
  refine ⟨w.heap.size + 1,[mark w.heap.size],(w.alloc (.deferred (some []))).alloc (.loop (rec .ready none)),{ target:=.fn (.func gf) lb,args:=#[.func (.yield (w.heap.size + 1)) #[] #[]] },(w.alloc (.deferred (some []))).alloc (.loop (rec .ready none)),gf,
    #[.func (.yield (w.heap.size + 1)) #[] #[]] ++ lb,(w.alloc (.deferred (some []))).alloc (.loop (rec .ready none)),?_,?_,fun _ _=>trivial,?_,fun q=>(by cases q),?_⟩
  · rw [hrec];exact run_enterLoop_outer _ _ _ _ _
  · simp only [resolve,hgev]
    simp [go_sem]
  · have eg':=eg
    unfold fx at eg'
    simp [invoke,go_sem,eg']
  · rw [hsz]
    have ai:cq b4 M B0:=⟨hM.le.trans hleA,hM.wf,fun b hb=>hM.ow b (hb.same (hkeep b4 a3))⟩
    have hcall:=hiter (A.n + 1) (fun i C=>I i C/\C.get (A.n + 1)=some (.obj true (.loop (rec .ready none)))/\C.get A.n=some (.obj true (.deferred (some [])))/\¬ na b4 C (A.n + 1)/\¬ na b4 C A.n) B0 M hnB hleA v2.wf ai (fun i C h=>h.1)
      (fun i C C' h wf hn hk=>?_) ⟨ad,hgl,hgd,fun q=>by have:=aa _ q;omega,fun q=>by have:=aa _ q;omega⟩ ?_
    · refine (callsIn_wide.2 (hcall.2 _ v2)).mono ?_
      rintro en w' ⟨A',hv',hs',v,rfl,⟨⟨hIn,hgl',hgd',X,a0⟩,hwf',hM'⟩⟩
      obtain ⟨q1,_⟩:=hv'.obj hgl'
      obtain ⟨v3,s3⟩:=md P (y:=.loop { rec .ready none with state:=.exhausted }) hv' hgl' (fun _ _ _ q=>by cases q)
      refine ⟨none,w'.putObj (A.n + 1) (.loop { rec .ready none with state:=.exhausted }),by
        have h7:=run_endLoop (P:=P) q1 (by rw [hrec];simp)
        have h8:(rec .ready none).pending=none:=by rw [hrec]
        exact h7.trans (congrArg (fun j=>Result.ok j _) h8),?_⟩
      have hl':=hwf' _ _ hgl'
      refine ⟨⟨e,mark A.n :: ds⟩,_,⟨ha.size,ha.slot,by show [mark _] ++ a.defers=_;rw [ha.ds];rfl⟩,v3,((s1.trans s2).trans hs').trans s3,?_,fun _ q=>by cases q⟩
      have hset:∀ b,b ≠ A.n + 1->(A'.set (A.n + 1) (.obj true (.loop { rec .ready none with state:=.exhausted }))).get b=A'.get b:=fun b hb=>AH.set_get_ne _ _ hb
      refine hK _ A.n (hI n A' _ hIn v3.wf (Nat.le_refl _) fun b o hb hgb=>?_) v3.wf (Nat.le_refl _) Ow ?_ ?_ ⟨⟨hM'.le.n,fun b o hb=>?_⟩,hM'.wf,fun b hb=>hM'.ow b (hb.same (hset b4 nl))⟩
      · rw [hset];exact hgb
        rintro rfl
        rcases hb with hb | hb
        · omega
        · exact X hb
      · rw [hset _ O];exact hgd'
      · exact fun q=>a0 (q.same (hset b4 nl))
      · have h1:=hM.le.get b o hb
        have h2:=wfA _ _ h1
        rw [hset _ O];exact hM'.le.get b o hb
    · obtain ⟨hIC,g1,g2,X,a0⟩:=h
      obtain ⟨v,cap,hr,_⟩:=hv i C hIC
      have e4:C'.get b4=C.get b4:=by rw [hr];exact hk b4 _ (.inr (.inl Z)) hr
      exact ⟨hI i C C' hIC wf hn (fun b o hb hgb=>hk b o (hb.imp (fun q=>by omega) id) hgb),hk _ _ (.inl O) g1,hk _ _ (.inl O) g2,fun q=>X (q.same e4),fun q=>a0 (q.same e4)⟩
    · rintro i C M' hi hwfC ⟨hIC,hgl',hgd',X,a0⟩ hMC w' hv'
      obtain ⟨q1,_⟩:=hv'.obj hgl'
      have hy:=run_yield (P:=P) (args:=(xs i).toArray) q1 (by rw [hrec];simpa using hps i)
      refine ⟨fn,_,assign,body,(by rw [hrec] at hy;exact hy),roundIn_of_wpIn trivial ?_⟩
      have hact:cU nt ⟨zK ps.toList (xs i) e,[]⟩ { tmps:=(ps.zip (xs i).toArray).foldl (fun t p=>t.setIfInBounds p.1 p.2) a.tmps,defers:=[] }:=by
        have:=tX (nt:=nt) (ps.toList.zip (xs i)) e a.tmps (fun p hp=>hpn _ (List.of_mem_zip hp).1) ⟨ha.size,ha.slot,rfl⟩
        rw [<- Array.foldl_toList,Array.toList_zip]
        exact this
      have av:=hassign (FR (A.n + 1)) i C (qL _) hi _ w' hact hv'
      refine wpIn_mono av ?_
      rintro x a1 w1 ⟨f1,C1,h1,h2,h3,h4,h5⟩
      cases x <;> (try exact h4.elim)
      obtain ⟨b6,aA,hE,hds,hleC,ay,ap⟩:=h4
      obtain ⟨fe,fds⟩:=f1
      simp only at hE hds
      subst hds
      obtain ⟨vC,capC,gC,lC⟩:=hv i C hIC
      have owC:∀ b,na b4 C b->b < C.n:=fun b hb=>by
        rcases hb.val gC with rfl | q
        · exact hwfC _ _ gC
        · obtain ⟨o,ho⟩:=lC b q;exact hwfC _ _ ho
      have ac:C1.get b4=C.get b4:=by rw [gC];exact hleC.get _ _ gC
      have a4:=hleC.get _ _ hgl'
      have ab:=hleC.get _ _ hgd'
      obtain ⟨q2,_⟩:=h2.obj a4
      obtain ⟨v4,s4⟩:=md P (y:=.loop { rec .ready none with state:=.busy }) h2 a4 (fun _ _ _ q=>by cases q)
      refine ⟨_,run_beginRound q2 (by rw [hrec]),?_⟩
      have hl':=hwfC _ _ hgl'
      have hd':=hwfC _ _ hgd'
      have hnC:=hleC.n
      have hset:∀ b,b ≠ A.n + 1->(C1.set (A.n + 1) (.obj true (.loop { rec .ready none with state:=.busy }))).get b=C1.get b:=fun b hb=>AH.set_get_ne _ _ hb
      have hsetl:(C1.set (A.n + 1) (.obj true (.loop { rec .ready none with state:=.busy }))).get (A.n + 1)=some (.obj true (.loop { rec .ready none with state:=.busy })):=AH.set_get_same _ _ _
      have hsetn:(C1.set (A.n + 1) (.obj true (.loop { rec .ready none with state:=.busy }))).n=C1.n:=rfl
      generalize C1.set (A.n + 1) (.obj true (.loop { rec .ready none with state:=.busy }))=B1 at *
      have hIB:I i B1:=hI i C _ hIC v4.wf O fun b o hb hgb=>by
        rw [hset];exact hleC.get _ _ hgb
        rintro rfl
        rcases hb with hb | hb
        · omega
        · exact X hb
      have a8:∀ b,na b4 B1 b->na b4 C b:=fun b hb=>(hb.same (hset b4 nl)).same ac
      have hMs:cq b4 ⟨C.n,fun b=>if b=A.n + 1 then some (.obj true (.loop { rec .ready none with state:=.busy })) else if b=A.n then some (.obj true (.deferred (some []))) else M'.get b⟩ B1:=by
        refine ⟨⟨by show C.n<=B1.n;omega,fun b o hb=>?_⟩,fun b o hb=>?_,fun b hb=>?_⟩
        · simp only at hb
          split at hb
          · rename_i q;subst q;rw [hsetl];exact hb
          · rename_i q
            rw [hset b q]
            split at hb
            · rename_i q2;subst q2;rw [ab];exact hb
            · exact hleC.get _ _ (hMC.le.get b o hb)
        · simp only at hb
          split at hb
          · show b < C.n;omega
          · split at hb
            · show b < C.n;omega
            · exact hwfC b o (hMC.le.get b o hb)
        · have h6:=a8 b hb
          simp only
          rw [if_neg (fun q:b=A.n + 1=>X (q ▸ h6)),if_neg (fun q:b=A.n=>a0 (q ▸ h6))]
          exact hMC.ow b h6
      have hb:=hbody (FR (A.n + 1)) i B1 b6 _ (qL _) hi hIB v4.wf O hMs O (by rw [hset _ O];exact ap) (fun q=>by have:=owC _ (a8 _ q);omega) (by
        simp only
        rw [if_neg O,if_neg O]
        cases q:M'.get b6 with
        | none=>rfl
        | some o=>have:=hwfC _ _ (hMC.le.get _ _ q);omega)
      refine wpIn_mono (hb _ _ (cU.le h1 hE) v4) ?_
      rintro x a2 w2 ⟨f2,A2,g1,g2,g3,g4,g5⟩
      cases x <;> (try exact g4.elim)
      obtain ⟨ag,az,V⟩:=g4
      have a7:A2.get (A.n + 1)=some (.obj true (.loop { rec .ready none with state:=.busy })):=V.le.get _ _ (if_pos Z)
      have a6:A2.get A.n=some (.obj true (.deferred (some []))):=V.le.get _ _ (by simp [show ¬ A.n=A.n + 1 by omega])
      have a5:¬ na b4 A2 (A.n + 1):=fun q=>by have:=V.ow _ q;simp only [if_true] at this;cases this
      have a9:¬ na b4 A2 A.n:=fun q=>by have:=V.ow _ q;simp [show ¬ A.n=A.n + 1 by omega] at this
      obtain ⟨q3,_⟩:=g2.obj a7
      obtain ⟨v5,s5⟩:=md P (y:=.loop { ({ rec .ready none with state:=.busy }:Loop) with state:=.ready,pending:=none }) g2 a7 (fun _ _ _ q=>by cases q)
      refine ⟨_,_,run_endRound (P:=P) none q3,_,_,Z,v5,((h3.trans s4).trans g3).trans s5,Z,⟨?_,?_,?_,?_,?_⟩,v5.wf,?_⟩
      · exact hI (i + 1) A2 _ ag v5.wf (Nat.le_refl _) fun b o hb hgb=>by
          rw [AH.set_get_ne];exact hgb
          rintro rfl
          rcases hb with hb | hb
          · omega
          · exact a5 hb
      · rw [AH.set_get_same,hrec]
      · rw [AH.set_get_ne _ _ O];exact a6
      · exact fun q=>a5 (q.same (AH.set_get_ne _ _ nl))
      · exact fun q=>a9 (q.same (AH.set_get_ne _ _ nl))
      · refine ⟨⟨Nat.le_trans hMC.le.n (by have:=V.le.n;exact this),fun b o hb=>?_⟩,hMC.wf,fun b hb=>?_⟩
        · by_cases q:b=A.n + 1
          · subst q
            have h6:=hMC.le.get _ _ hb
            rw [hgl'] at h6
            rw [AH.set_get_same,<- h6,hrec]
          · rw [AH.set_get_ne _ _ q]
            by_cases q2:b=A.n
            · subst q2;rw [a6,<- hMC.le.get _ _ hb,hgd']
            · exact V.le.get b o (by simp only;rw [if_neg q,if_neg q2];exact hb)
        · have h6:na b4 A2 b:=hb.same (AH.set_get_ne _ _ nl)
          have h7:=V.ow b h6
          simp only at h7
          rw [if_neg (fun q:b=A.n + 1=>a5 (q ▸ h6)),if_neg (fun q:b=A.n=>a9 (q ▸ h6))] at h7
          exact h7
end
end V
end Go.Proofs.YtjppkekmddjcfaaGreatDoor

namespace Go.Proofs.YtjppkekmddjcfaaGreatDoor
open Go Go.RowKit V
section
variable {α:Type} {f:α->List Value} {n:Nat} {z:α}
theorem vQ (hf:∀ a,(f a).length=n) (l:List α):(l.flatMap f).length=l.length * n:=by
  induction l with
  | nil=>simp
  | cons a l ih=>rw [List.flatMap_cons,List.length_append,ih,hf,List.length_cons,Nat.add_mul];omega
theorem Nr (hf:∀ a,(f a).length=n) (l:List α) (i:Nat):(l.flatMap f).drop (i * n)=(l.drop i).flatMap f:=by
  induction l generalizing i with
  | nil=>simp
  | cons a l ih =>
    cases i with
    | zero=>simp
    | succ i =>
      rw [List.flatMap_cons,show (i + 1) * n=(f a).length + i * n by rw [hf,Nat.add_mul];omega,<- List.drop_drop,List.drop_left]
      exact ih i
theorem EK (hf:∀ a,(f a).length=n) {l:List α} {i:Nat} (h:i < l.length):((l.flatMap f).drop (i * n)).take n=f (l.getD i z):=by
  rw [Nr hf,List.drop_eq_getElem_cons h]
  have e:l.getD i z=l[i]:=by simp [h]
  rw [e,List.flatMap_cons]
  exact List.take_left' (hf _)
theorem Iq (hf:∀ a,(f a).length=n) {l:List α} {i k:Nat} (h:i < l.length) (hk:k < n):(l.flatMap f)[i * n + k]? = (f (l.getD i z))[k]?:=by
  rw [<- EK hf h,List.getElem?_take_of_lt hk,List.getElem?_drop]
end
abbrev Wd:=List UInt8
def yC (s:Wd × Wd):List Value:=[bg s.1,bg s.2]
def gH (l:List (Wd × Wd)):List Value:=l.flatMap yC
theorem dA (l:List (Wd × Wd)):(gH l).length=l.length * 2:=vQ (f:=yC) (n:=2) (fun _=>rfl) l
theorem rO (l:List (Wd × Wd)):(gH l).length=l.length * 2:=dA l
theorem rp (a b:List (Wd × Wd)):gH a ++ gH b=gH (a ++ b):=by simp [gH]
theorem Lu {l:List (Wd × Wd)} {i:Nat} (h:i < l.length):((gH l).drop (i * 2)).take 2=yC (l.getD i ([],[])):=EK (f:=yC) (n:=2) (fun _=>rfl) h
theorem yD {l:List (Wd × Wd)} {i:Nat} (h:i < l.length):(gH l)[i * 2 + 0]? = some (bg (l.getD i ([],[])).1):=Iq (f:=yC) (n:=2) (fun _=>rfl) h U
theorem qS {l:List (Wd × Wd)} {i:Nat} (h:i < l.length):(gH l)[i * 2 + 1]? = some (bg (l.getD i ([],[])).2):=Iq (f:=yC) (n:=2) (fun _=>rfl) h U
structure CP where
  i:Int
  j:Int
  word:Wd
  u:Wd
  v:Wd
deriving DecidableEq
def CP.zero:CP:=⟨0,0,[],[],[]⟩
def cp (c:CP):List Value:=[num c.i,num c.j,bg c.word,bg c.u,bg c.v]
abbrev Se (c:CP):Value:=.agg #[num c.i,num c.j,bg c.word,bg c.u,bg c.v]
def Er (l:List CP):List Value:=l.flatMap cp
theorem oe (l:List CP):(Er l).length=l.length * 5:=vQ (f:=cp) (n:=5) (fun _=>rfl) l
theorem Ig (l:List CP):(Er l).length=l.length * 5:=oe l
theorem Eu (a b:List CP):Er a ++ Er b=Er (a ++ b):=by simp [Er]
theorem UV {l:List CP} {i:Nat} (h:i < l.length):((Er l).drop (i * 5)).take 5=cp (l.getD i .zero):=EK (f:=cp) (n:=5) (fun _=>rfl) h
def LU (x:Nat):Wd:=[bJ.getD x 0,bJ.getD (x ^^^ 1) 0]
def aO (g:Int) (rs:List bf):List (Wd × Wd):=rs.map (fun r=>(r.left,r.right)) ++ (List.range (2 * g.toNat)).map fun x=>(LU x,[])
def nm (n i:Nat):Int:=if i < n then (i:Int) else -1 - ((i:Int) - (n:Int))
def p1 (u v:Wd) (k:Nat):Bool:=decide (1<=k) && decide (u.length - k < v.length) && decide (u.drop k=v.take (u.length - k))
def p2 (u v:Wd) (k:Nat):Bool:=decide (k + v.length<=u.length) && decide ((u.take (k + v.length)).drop k=v)
abbrev c1 (I J:Int) (a b:Wd × Wd) (k:Nat):CP:=⟨I,J,a.1 ++ b.1.drop (a.1.length - k),a.2 ++ b.1.drop (a.1.length - k),a.1.take k ++ b.2⟩
abbrev c2 (I J:Int) (a b:Wd × Wd) (k:Nat):CP:=⟨I,J,a.1,a.2,a.1.take k ++ b.2 ++ a.1.drop (k + b.1.length)⟩
def s9 (I J:Int) (a b:Wd × Wd) (n:Nat):List CP:=((List.range n).filter (p1 a.1 b.1)).map (c1 I J a b)
def vU (I J:Int) (a b:Wd × Wd) (n:Nat):List CP:=((List.range n).filter (p2 a.1 b.1)).map (c2 I J a b)
def ly (I J:Int) (same:Bool) (a b:Wd × Wd):List CP:=s9 I J a b a.1.length ++ if same then [] else vU I J a b (a.1.length + 1)
theorem Gb {rs:List bf} {i:Nat} (h:i < rs.length):(rs.take i).map (fun r=>(r.left,r.right)) ++ [((rs.getD i .zero).left,(rs.getD i .zero).right)]=(rs.take (i + 1)).map (fun r=>(r.left,r.right)):=by
  have e:rs.getD i .zero=rs[i]:=by simp [h]
  rw [List.take_succ_eq_append_getElem h,List.map_append,e];rfl
theorem UD {x:Nat} (h:x < 16):x ^^^ 1 < 16:=by
  have:∀ a:Fin 16,a.1 ^^^ 1 < 16:=by decide
  exact this ⟨x,h⟩
theorem N5 {x:Nat} (h:x < 16):([ej 97,ej 65,ej 98,ej 66,ej 99,ej 67,ej 100,ej 68,ej 101,ej 69,ej 102,ej 70,ej 103,ej 71,ej 104,ej 72]:List Value)[0 + x * 1]? = some (ej (bJ.getD x 0)):=by
  rw [Nat.zero_add,Nat.mul_one]
  have:∀ a:Fin 16,([97,65,98,66,99,67,100,68,101,69,102,70,103,71,104,72]:List UInt8)[a.1]? = some (bJ.getD a.1 0):=by decide
  have h2:=congrArg (Option.map ej) (this ⟨x,h⟩)
  rw [<- List.getElem?_map] at h2
  exact h2
section
variable {I J:Int} {a b:Wd × Wd} {n k:Nat} {same:Bool}
theorem wj:s9 I J a b (n + 1)=if p1 a.1 b.1 n then s9 I J a b n ++ [c1 I J a b n] else s9 I J a b n:=by
  unfold s9
  rw [List.range_succ,List.filter_append,List.map_append]
  by_cases h:p1 a.1 b.1 n=true <;> simp [h]
theorem sj:vU I J a b (n + 1)=if p2 a.1 b.1 n then vU I J a b n ++ [c2 I J a b n] else vU I J a b n:=by
  unfold vU
  rw [List.range_succ,List.filter_append,List.map_append]
  by_cases h:p2 a.1 b.1 n=true <;> simp [h]
theorem OO (h:n<=k):s9 I J a b n <+: s9 I J a b k:=by
  induction k with
  | zero => obtain rfl : n = 0 := by omega
            exact List.prefix_refl _
  | succ k ih =>
    rcases Nat.lt_or_ge k n with q | q
    · obtain rfl:n=k + 1:=by omega
      exact List.prefix_refl _
    · refine (ih q).trans ?_
      rw [wj];split
      · exact List.prefix_append _ _
      · exact List.prefix_refl _
theorem Nz (h:n<=k):vU I J a b n <+: vU I J a b k:=by
  induction k with
  | zero => obtain rfl : n = 0 := by omega
            exact List.prefix_refl _
  | succ k ih =>
    rcases Nat.lt_or_ge k n with q | q
    · obtain rfl:n=k + 1:=by omega
      exact List.prefix_refl _
    · refine (ih q).trans ?_
      rw [sj];split
      · exact List.prefix_append _ _
      · exact List.prefix_refl _
theorem p3 {α:Type} {p q l:List α} {x z:α} (h:p ++ [x] <+: l):p.length < l.length/\l.getD p.length z=x:=by
  obtain ⟨t,rfl⟩:=h
  simp
theorem S8 (h1:1<=n) (hn:n < a.1.length) (h2:a.1.length - n < b.1.length) (h3:a.1.drop n=b.1.take (a.1.length - n)) :
    (s9 I J a b n).length < (ly I J same a b).length/\(ly I J same a b).getD (s9 I J a b n).length .zero=c1 I J a b n/\(s9 I J a b (n + 1)).length=(s9 I J a b n).length + 1:=by
  have hp:p1 a.1 b.1 n=true:=by simp [p1,h1,h2,h3]
  have e:s9 I J a b (n + 1)=s9 I J a b n ++ [c1 I J a b n]:=by rw [wj,if_pos hp]
  have hq:s9 I J a b n ++ [c1 I J a b n] <+: ly I J same a b:=e ▸ (OO O).trans (List.prefix_append _ _)
  exact ⟨(p3 (z:=CP.zero) (q:=[]) hq).1,(p3 (q:=[]) hq).2,by rw [e];simp⟩
theorem Fw (h:¬ (1<=n/\a.1.length - n < b.1.length/\a.1.drop n=b.1.take (a.1.length - n))):(s9 I J a b (n + 1)).length=(s9 I J a b n).length:=by
  rw [wj,if_neg]
  simp only [p1,Bool.and_eq_true,decide_eq_true_eq]
  exact fun q=>h ⟨q.1.1,q.1.2,q.2⟩
theorem Sx (hs:same=false) (hn:n + b.1.length<=a.1.length) (h3:(a.1.take (n + b.1.length)).drop n=b.1) :
    (s9 I J a b a.1.length).length + (vU I J a b n).length < (ly I J same a b).length/\(ly I J same a b).getD ((s9 I J a b a.1.length).length + (vU I J a b n).length) .zero=c2 I J a b n/\(vU I J a b (n + 1)).length=(vU I J a b n).length + 1:=by
  have hp:p2 a.1 b.1 n=true:=by simp [p2,hn,h3]
  have e:vU I J a b (n + 1)=vU I J a b n ++ [c2 I J a b n]:=by rw [sj,if_pos hp]
  have hq:(s9 I J a b a.1.length ++ vU I J a b n) ++ [c2 I J a b n] <+: ly I J same a b:=by
    unfold ly
    rw [hs,List.append_assoc,<- e]
    exact (List.prefix_append_right_inj _).2 (Nz O)
  have:=p3 (z:=CP.zero) (q:=[]) hq
  rw [List.length_append] at this
  exact ⟨this.1,this.2,by rw [e];simp⟩
theorem Vg (h:¬ (a.1.take (n + b.1.length)).drop n=b.1):(vU I J a b (n + 1)).length=(vU I J a b n).length:=by
  rw [sj,if_neg]
  simp only [p2,Bool.and_eq_true,decide_eq_true_eq]
  exact fun q=>h q.2
theorem Sw (h:¬ n + b.1.length<=a.1.length) (hk:n<=k):vU I J a b k=vU I J a b n:=by
  induction k with
  | zero => obtain rfl : n = 0 := by omega
            rfl
  | succ k ih =>
    rcases Nat.lt_or_ge k n with q | q
    · obtain rfl:n=k + 1:=by omega
      rfl
    · rw [sj,if_neg,ih q]
      simp only [p2,Bool.and_eq_true,decide_eq_true_eq]
      exact fun q=>by omega
theorem Jv (hs:same=true):(ly I J same a b).length=(s9 I J a b a.1.length).length:=by simp [ly,hs]
theorem Mw (hs:same=false) (h:¬ n + b.1.length<=a.1.length) (hn:n<=a.1.length + 1):(ly I J same a b).length=(s9 I J a b a.1.length).length + (vU I J a b n).length:=by
  rw [ly,hs,List.length_append,if_neg (by simp),Sw h hn]
theorem Kw:(s9 I J a b 1).length=0:=by
  rw [Fw O];rfl
end
def Xx (I J:Int) (c:CP):CP:=⟨I,J,c.word,c.u,c.v⟩
abbrev ei (L:List (Wd × Wd)) (i j:Nat):List CP:=ly (i:Int) (j:Int) (decide (i=j)) (L.getD i ([],[])) (L.getD j ([],[]))
def ug (n:Nat) (L:List (Wd × Wd)) (i j:Nat):List CP:=if n<=i/\n<=j then [] else (ei L i j).map (Xx (nm n i) (nm n j))
def CO (n:Nat) (L:List (Wd × Wd)) (i k:Nat):List CP:=(List.range k).flatMap (ug n L i)
def td (n:Nat) (L:List (Wd × Wd)) (i j:Nat):List CP:=((List.range i).flatMap fun i=>CO n L i L.length) ++ CO n L i j
def jG (n:Nat) (L:List (Wd × Wd)):List CP:=(List.range L.length).flatMap fun i=>CO n L i L.length
def bh (g:Int) (rs:List bf):List CP:=jG rs.length (aO g rs)
theorem oL (g:Int) (rs:List bf):(aO g rs).length=rs.length + 2 * g.toNat:=by simp [aO]
theorem ud {g:Int} {rs:List bf} (hg:1<=g/\g<=8) (hw:∀ r ∈ rs,0 < r.left.length/\r.left.length<=1000/\r.right.length<=1000):∀ s ∈ aO g rs,0 < s.1.length/\s.1.length<=100000/\s.2.length<=100000:=fun s hs=>by
  rcases List.mem_append.1 hs with h | h
  · obtain ⟨r,hr,rfl⟩:=List.mem_map.1 h
    have:=hw r hr
    exact ⟨this.1,by show r.left.length<=_;omega,by show r.right.length<=_;omega⟩
  · obtain ⟨x,hx,rfl⟩:=List.mem_map.1 h
    exact ⟨Nat.zero_lt_succ _,by show (2:Nat)<=100000;omega,by show (0:Nat)<=100000;omega⟩
theorem sE {bo:Nat} {A B N:AH} {v:Value} {cap:Nat} (r:cq bo N B) (gY:B.get bo=some (.row true [v] cap)) (gZ:A.get bo=some (.row true [v] cap)):∀ b,some b ∈ [some bo,blk v]->N.get b=none:=fun b hb=>by
  simp only [List.mem_cons,List.not_mem_nil,or_false,Option.some.injEq] at hb
  rcases hb with rfl | hb
  · exact r.ow _ (.inl Z)
  · exact r.ow _ (.inr ⟨_,_,gY,hb.symm⟩)
theorem _root_.Go.Proofs.YtjppkekmddjcfaaGreatDoor.V.Fresh.owk {A0 A B:AH} {v:Value} {n:Nat} {xs:List Value} (h:Fresh A0 A v n xs) (k:∀ b o,blk v=some b->A.get b=some o->B.get b=some o):Fresh A0 B v n xs:=⟨by
  rcases h.own with h | ⟨b',m,c,r,rcap,rfl,h2,h3⟩
  · exact .inl h
  · exact .inr ⟨b',m,c,r,rcap,Z,k _ _ Z h2,h3⟩,h.lo⟩
theorem f8 {α:Type} {l:List α} {i:Nat} {z:α} (h:i < l.length):l.take i ++ [l.getD i z]=l.take (i + 1):=by
  have e:l.getD i z=l[i]:=by simp [h]
  rw [List.take_succ_eq_append_getElem h,e]
section
variable {n i j k:Nat} {L:List (Wd × Wd)}
theorem uK:td n L i (j + 1)=td n L i j ++ ug n L i j:=by simp [td,CO,List.range_succ]
theorem DY:td n L (i + 1) 0=td n L i L.length:=by simp [td,CO,List.range_succ]
theorem L5:td n L L.length 0=jG n L:=by simp [td,CO,jG]
theorem Al (h:j<=k):td n L i j <+: td n L i k:=by
  induction k with
  | zero => obtain rfl : j = 0 := by omega
            exact List.prefix_refl _
  | succ k ih =>
    rcases Nat.lt_or_ge k j with q | q
    · obtain rfl:j=k + 1:=by omega
      exact List.prefix_refl _
    · rw [uK];exact (ih q).trans (List.prefix_append _ _)
theorem Md (h:i<=k):td n L i 0 <+: td n L k 0:=by
  induction k with
  | zero => obtain rfl : i = 0 := by omega
            exact List.prefix_refl _
  | succ k ih =>
    rcases Nat.lt_or_ge k i with q | q
    · obtain rfl:i=k + 1:=by omega
      exact List.prefix_refl _
    · rw [DY];exact (ih q).trans (Al (Nat.zero_le _))
theorem Jr (hi:i < L.length) (hj:j<=L.length):td n L i j <+: jG n L:=by
  rw [<- L5]
  refine (Al hj).trans ?_
  rw [<- DY]
  exact Md hi
theorem Rz (h:n<=i/\n<=j):(td n L i (j + 1)).length=(td n L i j).length:=by rw [uK,ug,if_pos h,List.append_nil]
theorem Mc (h:¬ (n<=i/\n<=j)):(td n L i (j + 1)).length=(td n L i j).length + (ei L i j).length:=by
  rw [uK,ug,if_neg h,List.length_append,List.length_map]
theorem L8 (hi:i < L.length) (hj:j < L.length) (h:¬ (n<=i/\n<=j)) (hk:k < (ei L i j).length) :
    (td n L i j).length + k < (jG n L).length/\(jG n L).getD ((td n L i j).length + k) .zero=Xx (nm n i) (nm n j) ((ei L i j).getD k .zero):=by
  obtain ⟨t,ht⟩:=Jr (n:=n) (j:=j + 1) hi hj
  rw [uK,ug,if_neg h] at ht
  rw [<- ht]
  refine ⟨by simp only [List.length_append,List.length_map];omega,?_⟩
  rw [List.append_assoc]
  simp only [List.getD_eq_getElem?_getD]
  rw [List.getElem?_append_right O,Nat.add_sub_cancel_left,List.getElem?_append_left (by simpa using hk),List.getElem?_map,List.getElem?_eq_getElem hk]
  rfl
end
end Go.Proofs.YtjppkekmddjcfaaGreatDoor

namespace Go.Proofs.YtjppkekmddjcfaaGreatDoor
open Go Go.RowKit V
set_option maxRecDepth 100000
theorem xG:dn Tryz.prog 121=some false:=by kernel_rfl
theorem NA:Tryz.prog.info? 123=some Tryz.t123:=by kernel_rfl
theorem Fx:c9 Tryz.prog 47=some [(0,1),(1,1),(2,1),(3,1),(4,1)]:=by kernel_rfl
theorem nU:da Tryz.prog 123=some 2:=by kernel_rfl
theorem rg:type_of% @Tryz.underlying121:=@Tryz.underlying121
theorem zX:type_of% @Tryz.underlying123:=@Tryz.underlying123
theorem VR:type_of% @Tryz.underlying47:=@Tryz.underlying47
theorem GO:cx Tryz.prog 123=some (.agg #[.string ⟨⟨[]⟩⟩,.string ⟨⟨[]⟩⟩]):=by kernel_rfl
theorem Ae:cx Tryz.prog 47=some (.agg #[.int .i64 0,.int .i64 0,.string ⟨⟨[]⟩⟩,.string ⟨⟨[]⟩⟩,.string ⟨⟨[]⟩⟩]):=by kernel_rfl

theorem CZ (x:Nat) (A:AH) (hL:gO A) (hx:x < 16):bz Tryz.prog 114 #[num ((x:Nat):Int)] A (fun v A1=>v=ej (bJ.getD x 0)/\A=A1):=by
 refine ic Tryz.call114 Tryz.func114 Z Tryz.results114 Tryz.ntmps114 Z (fun wf=>?_);have X:=AH.le.refl A;obtain ⟨rwL,capL,gL⟩:=hL;refine al.seq fun _ h2=>.region<|.q Z (ae Z)<|.nil<|h2 _ _<|.seq fun _ h4=>.seq fun _ h6=>.region<|.q Z (ah Z)<|.q Z (bX (b:=0) Z Z) ?_;refine Ops.q Z (ah Z)<|.part (t:=5) Z (fun p7=>?_) (fun p7=>?_)
 ·refine Ops.off Z Z Z Z<|.off Z Z Z Z<|.q Z (aJ Z Z)<|.nil<|h6 _ _<|.cond_true Z<|.seq fun _ h9=>.region<|.q Z (ae Z)<|.nil ?_;refine h9 _ _<|.rt (by exact aE Z (⟨by (exfalso;omega),Z⟩))
 refine Ops.on Z Z<|.q Z (ah Z)<|.on Z Z<|.q Z (wq (b:=16) Z Z)<|.q Z (aL Z Z)<|.nil<|h6 _ _<|.if rfl (fun V=>?_) (fun V=>?_)
 ·refine al.seq fun _ h=>.region<|.q Z (ae Z)<|.nil<|h _ _<|.rt (by exact aE Z (⟨by (exfalso;omega),Z⟩))
 refine al.skip<|h4 _ _<|.seq fun _ D=>.region<|.q Z (ah Z)<|.q Z (i0 Xl kf Z Z O)<|.q Z (ak Mo Z Z gL (N5 hx))<|.q Z (ae Z)<|.nil<|D _ _ ?_;refine al.ret ?_;repeat first | with_reducible refine bw ?_ | with_reducible refine bj ?_
 exact aE Z (⟨by rfl,Z⟩)

theorem Je (g:Int) (u:Value) (l:List (List UInt8)) (rv:Value) (rs:List bf) (A:AH) (hg:1<=g/\g<=8) (hn:rs.length<=1000000) (hL:gO A) (hu:bI A 1 u (d6 l)) (hr:bI A 3 rv (dc rs)) (hp:Proofs A rs):bz Tryz.prog 76 #[.agg #[num (g),u,rv]] A (fun v A1=>A.le A1/\A1.wf/\Fresh A A1 v 2 (gH (aO g rs))):=by
 refine ic Tryz.call76 Tryz.func76 Z Tryz.results76 Tryz.ntmps76 Z (fun wf=>?_);have bY:=AH.le.refl A;obtain ⟨gn,rfl⟩:∃ n:Nat,g=n:=⟨g.toNat,by omega⟩;refine al.seq fun _ h2=>.region<|.l Z (fun _ _ bU _=>dP wf rfl rfl fun A5 b4 ar=>?_);have aD:=bY.trans ar.le;refine bU _ _<|.q Z (ae Z)<|.nil<|h2 _ _<|.seq fun _ h9=>.region<|.q Z (ae Z)<|.nil<|h9 _ _<|.seq fun _ bp=>?_;refine al.seq fun _ br=>.region<|.q Z (aj eF jO U Z)<|.q Z (ak kh Z Z ar.get Z)<|.q Z (bF (n:=rs.length) rh Z (hr.le aD) O (dE _))<|.q Z (ah Z)<|.nil<|br _ _<|.block<|.loop (X:=Nat × List (Wd × Wd) × Value) (fun ⟨i,o,s⟩=>[(1,.pointer (some ⟨b4,0,none⟩)),(3,s),(8,rv),(9,num ((rs.length:Nat):Int)),(10,num ((i:Nat):Int))]) (fun ⟨i,o,s⟩ B=>(i<=rs.length/\o=(rs.take i).map (fun r=>(r.left,r.right)))/\A.le B/\Fresh A B s 2 (gH o)/\B.get b4=some (.row true [num ((gn:Nat):Int),u,rv] 3)/\V.blk s ≠ some b4) (fun ⟨i,o,s⟩=>rs.length - i) (⟨0,[],.slice none 0 0⟩) (pw Z Z Z Z Z) (⟨⟨Nat.zero_le _,by simp⟩,aD,(Fresh.nil A A5 2),ar.get,(fun q=>by cases q)⟩) ?_;rintro ⟨i,o,s⟩ B15 ⟨⟨hi,ho⟩,a6,a3,a1,a2⟩;refine al.wf fun ac=>?_;have hlo:o.length=i:=by rw [ho];simp;omega
 refine al.seq fun _ bu=>.region<|.q Z (bX Z Z)<|.nil<|bu _ _<|.seq fun _ bv=>.if rfl (fun c3=>?_) (fun c3=>?_)
 ·refine al.skip<|bv _ _<|.seq fun _ bA=>.block<|.seq fun _ bB=>.region ?_;obtain ⟨ck,cH,ch,cS,cf,cP,cK,bl,bV,bm,aF,cc⟩:=bI.at (i:=i) (hr.le a6) Oz O;refine Ops.q Z (aH rh iU Z bl Z bV)<|.q Z (an vn iU Z Z bm (aF.trans (congrArg some (i4 O))))<|.l Z (fun _ _ aT _=>cm ac LN rfl fun A29 cv D=>?_);have aa:=ne_new ac a1 D.lo;have bc:=a3.own.ne_new ac D.lo;have ap:=aW wf (Nat.le_trans a6.n D.lo);have bC:=D.le.get _ _ a1;have aG:=a3.le D.le;have b6:=a6.trans D.le;refine aT _ _<|.l Z (fun _ _ aV _=>be (cs:=[bg ((rs.getD i .zero).left),bg ((rs.getD i .zero).right),(rs.getD i .zero).pv]) (c':=[bg ((rs.getD i .zero).left),bg ((rs.getD i .zero).right),(rs.getD i .zero).pv]) D.wf rfl rfl rfl rfl iU D.get (Nat.le_of_ble_eq_true rfl) (kw (hp.get O)) rfl fun A36 a0=>?_);have bD:=a0.keep _ _ aa bC;have aI:=aG.keep a0.keep bc;have b7:=ao b6 wf ap a0.n a0.keep;refine aV _ _<|.nil<|bB _ _<|.region<|.q Z (ah Z)<|.q Z (aj gk fU U Z)<|.q Z (ak gu Z Z a0.get Z)<|.q Z (aj kS fU U Z)<|.q Z (ak gu Z Z a0.get Z)<|.q Z (dx Z (n8 zX GO fU Z)) ?_;refine Ops.l Z (fun _ _ aY _=>aM (c:=[bg ((rs.getD i .zero).left),bg ((rs.getD i .zero).right)]) a0.wf rfl (aw rg nU GO rfl U U rfl) fun A43 cA a4=>?_);have aC:=a4.le.get _ _ bD;have ai:=aI.le a4.le;have b8:=b7.trans a4.le;refine aY _ _<|.l Z (fun _ _ aZ _=>cR (ys:=[bg ((rs.getD i .zero).left),bg ((rs.getD i .zero).right)]) rfl rfl rg nU NA GO rfl U rg (fun _ h=>by cases h) ai.own (bW (n:=1) a4.get Z) rfl rfl (by show (_ + _) * 32<=_;simp only [dA,List.length_cons,List.length_nil];(try simp only [List.length_append,List.length_cons,List.length_nil]);omega) (by simp only [dA,List.length_cons,List.length_nil];(try simp only [List.length_append,List.length_cons,List.length_nil]);omega) fun A51 c7 a5=>?_);rw [show ([bg ((rs.getD i .zero).left),bg ((rs.getD i .zero).right)]:List Value)=gH [((rs.getD i .zero).left,(rs.getD i .zero).right)] from rfl,rp] at a5;obtain ⟨aP,b9⟩:=Fresh.grow ai b8 wf a5;have bL:=a5.keep a2 aC;have bb:=a5.ne a2 a4.wf aC;refine aZ _ _<|.q Z (ae Z)<|.nil<|bA _ _<|.region<|.q Z (bE (b:=1) Z Z O)<|.q Z (ah Z)<|.nil ?_;exact ⟨⟨i + 1,o ++ [((rs.getD i .zero).left,(rs.getD i .zero).right)],c7⟩,pw Z Z Z Z Z,Z,⟨⟨by omega,by rw [ho];exact Gb O⟩,b9,aP,bL,bb⟩,O1⟩
 refine al.exit<|bp _ _<|.seq fun _ bM=>.seq fun _ bO=>.region<|.q Z (aj gj fK U Z)<|.q Z (aj fz cD U Z)<|.q Z (ak df Z Z a1 Z)<|.q Z (p4 (a:=2) Z Z O)<|.q Z (ah Z) ?_;refine Ops.nil<|bO _ _<|.block<|.loop (X:=Nat × List (Wd × Wd) × Value) (fun ⟨x,o,s⟩=>[(3,s),(26,num ((2 * gn:Nat):Int)),(27,num ((x:Nat):Int))]) (fun ⟨x,o,s⟩ B=>(x<=2 * gn/\o=rs.map (fun r=>(r.left,r.right)) ++ (List.range x).map (fun x=>(LU x,[])))/\A.le B/\Fresh A B s 2 (gH o)) (fun ⟨x,o,s⟩=>2 * gn - x) (⟨0,rs.map (fun r=>(r.left,r.right)),s⟩) (ll Z Z Z) (⟨⟨Nat.zero_le _,by simp⟩,a6,(cy a3 (congrArg gH ((by rw [ho,List.take_of_length_le O]))))⟩) ?_;rintro ⟨x,o,s⟩ B67 ⟨⟨hx,ho⟩,a7,a9⟩;refine al.wf fun av=>?_;have hlo:o.length=rs.length + x:=by rw [ho];simp
 refine al.seq fun _ bP=>.region<|.q Z (bX Z Z)<|.nil<|bP _ _<|.seq fun _ bR=>.if rfl (fun c4=>?_) (fun c4=>?_)
 ·refine al.skip<|bR _ _<|.seq fun _ bS=>.block<|.seq fun _ bT=>.region<|.q Z (ah Z)<|.q Z (ae Z)<|.nil<|bT _ _ ?_;refine al.region<|.q Z (ah Z)<|.q Z (ah Z)<|.l Z (fun _ _ b0 _=>au Z (CZ x B67 (hL.le a7) O) ?_);rintro cV A80 ⟨rfl,rfl⟩;refine b0 _ _<|.q Z (ah Z)<|.q Z (WV Z Z O)<|.l Z (fun _ _ b1 _=>au Z (CZ (x ^^^ 1) B67 (hL.le a7) (by exact UD O)) ?_);rintro cX A84 ⟨rfl,rfl⟩;refine b1 _ _<|.l Z (fun _ _ b2 _=>aM (c:=[ej (bJ.getD x 0),ej (bJ.getD (x ^^^ 1) 0)]) av rfl (aw cT kf z5 rfl U U rfl) fun A88 cC a8=>?_);have aR:=a9.le a8.le;have ba:=a7.trans a8.le;refine b2 _ _<|.l Z (fun _ _ b3 _=>ee (s:=[bJ.getD x 0,bJ.getD (x ^^^ 1) 0]) Z cT u9 u5 (d5 (n:=2) a8.get Z (Nat.le_refl _)) ?_);refine b3 _ _<|.q Z (dx Z (n8 zX GO fU Z))<|.l Z (fun _ _ b5 _=>aM (c:=[bg ([bJ.getD x 0,bJ.getD (x ^^^ 1) 0]),bg ([])]) a8.wf rfl (aw rg nU GO rfl U U rfl) fun A96 cF ab=>?_);have ag:=aR.le ab.le;have aA:=ba.trans ab.le;refine b5 _ _<|.l Z (fun _ _ az _=>cR (ys:=[bg ([bJ.getD x 0,bJ.getD (x ^^^ 1) 0]),bg ([])]) rfl rfl rg nU NA GO rfl U rg (fun _ h=>by cases h) ag.own (bW (n:=1) ab.get Z) rfl rfl (by show (_ + _) * 32<=_;simp only [dA,List.length_cons,List.length_nil];(try simp only [List.length_append,List.length_cons,List.length_nil]);omega) (by simp only [dA,List.length_cons,List.length_nil];(try simp only [List.length_append,List.length_cons,List.length_nil]);omega) fun A103 bd ad=>?_);rw [show ([bg ([bJ.getD x 0,bJ.getD (x ^^^ 1) 0]),bg ([])]:List Value)=gH [([bJ.getD x 0,bJ.getD (x ^^^ 1) 0],[])] from rfl,rp] at ad;obtain ⟨ay,aB⟩:=Fresh.grow ag aA wf ad;refine az _ _<|.q Z (ae Z)<|.nil<|bS _ _<|.region<|.q Z (bE (b:=1) Z Z O)<|.q Z (ah Z)<|.nil ?_;exact ⟨⟨x + 1,o ++ [([bJ.getD x 0,bJ.getD (x ^^^ 1) 0],[])],bd⟩,ll Z Z Z,Z,⟨⟨by omega,by rw [ho,List.range_succ,List.map_append,List.append_assoc];rfl⟩,aB,(cy ay (congrArg gH ((by rfl))))⟩,O1⟩
 refine al.exit<|bM _ _<|.seq fun _ aS=>.region<|.q Z (ah Z)<|.q Z (ae Z)<|.nil<|aS _ _<|.rt (by exact aE Z (⟨a7,av,cy a9 (congrArg gH (by rw [ho,show x=2 * gn by omega];rfl))⟩))

theorem ve (g:Int) (u:Value) (l:List (List UInt8)) (rv:Value) (rs:List bf) (i:Nat) (A:AH) (hi:i<=1000000000) (hn:rs.length<=1000000) (hu:bI A 1 u (d6 l)) (hr:bI A 3 rv (dc rs)):bz Tryz.prog 166 #[.agg #[num (g),u,rv],num ((i:Nat):Int)] A (fun v A1=>v=num (nm rs.length i)/\A.le A1/\A1.wf):=by
 refine mf Tryz.call166 Tryz.func166 Z Tryz.results166 Tryz.ntmps166 Z (fun wf=>?_);have a2:=AH.le.refl A;refine al.seq fun _ h2=>.region<|.l Z (fun _ _ a1 _=>dP wf rfl rfl fun A5 b4 h=>?_);have D:=a2.trans h.le;refine a1 _ _<|.q Z (ae Z)<|.nil<|h2 _ _<|.seq fun _ h9=>.seq fun _ V=>.region<|.q Z (ah Z)<|.q Z (aj eF jO U Z)<|.q Z (ak kh Z Z h.get Z) ?_;refine Ops.q Z (bF (n:=rs.length) rh Z (hr.le D) O (dE _))<|.q Z (bX Z Z)<|.nil<|V _ _<|.if rfl (fun a3=>?_) (fun a3=>?_)
 ·refine al.seq fun _ X=>.region<|.q Z (ah Z)<|.q Z (ae Z)<|.nil<|X _ _<|.rt (by exact aE Z (⟨by (rw [nm,if_pos ‹_›];rfl),D,h.wf⟩))
 refine al.skip<|h9 _ _<|.seq fun _ a0=>.region<|.q Z (ah Z)<|.q Z (aj eF jO U Z)<|.q Z (ak kh Z Z h.get Z)<|.q Z (bF (n:=rs.length) rh Z (hr.le D) O (dE _))<|.q Z (uH Z Z O)<|.q Z (uH Z Z O) ?_;refine Ops.q Z (ae Z)<|.nil<|a0 _ _<|.rt (by exact aE Z (⟨by (rw [nm,if_neg ‹_›];rfl),D,h.wf⟩))

theorem yx (lv:Value) (S:List (Wd × Wd)) (i j:Nat) (A:AH) (hs:bI A 2 lv (gH S)):bz Tryz.prog 165 #[lv,num ((i:Nat):Int),num ((j:Nat):Int)] A (fun v A1=>∃ b1 b2 b3,v=.func (.func 192) #[] #[.pointer (some ⟨b1,0,none⟩),.pointer (some ⟨b2,0,none⟩),.pointer (some ⟨b3,0,none⟩)]/\A.le A1/\A1.wf/\A1.get b1=some (.row true [lv] 1)/\A1.get b2=some (.row true [num (i:Int)] 1)/\A1.get b3=some (.row true [num (j:Int)] 1)/\A.n<=b1/\A.n<=b2/\A.n<=b3):=by
 refine uC Tryz.call165 Tryz.func165 Z Tryz.results165 Tryz.ntmps165 Z (fun wf=>?_);have a0:=AH.le.refl A;refine al.seq fun _ h2=>.region ?_;obtain ⟨p7,l7,c7,q7,_⟩:=(hs.le a0);subst q7;refine Ops.l Z (fun _ _ ad _=>dP wf rfl rfl fun A5 b4 V=>?_);have a3:=Nat.le_trans a0.n V.lo;have a4:=a0.trans V.le;refine ad _ _<|.l Z (fun _ _ ag _=>dP V.wf rfl rfl fun A11 a7 D=>?_);have a1:=Nat.le_trans a4.n D.lo;have a9:=D.le.get _ _ V.get;have X:=a4.trans D.le;refine ag _ _<|.l Z (fun _ _ a5 _=>dP D.wf rfl rfl fun A17 a8 h=>?_);have a2:=Nat.le_trans X.n h.lo;have aa:=h.le.get _ _ a9;have ab:=h.le.get _ _ D.get;have a6:=X.trans h.le;refine a5 _ _<|.q Z (ae Z)<|.nil<|h2 _ _<|.seq fun _ ac=>.region<|.q Z (mD Z Z)<|.q Z (ae Z)<|.nil<|ac _ _ ?_;refine al.ret ?_;repeat first | with_reducible refine bw ?_ | with_reducible refine bj ?_
 exact aE Z (⟨b4,a7,a8,Z,a6,h.wf,aa,ab,h.get,a3,a1,a2⟩)

theorem wN (bo lp:Nat) (J:Nat->AH->Prop) (i j:Nat) (S:List (Wd × Wd)) (lv:Value) (M A:AH) (ba bb bc k1 k2 k3:Nat) (w1 w2 w3:Bool) (hP:cq bo M A) (bu:J 0 A) (a0:M.get ba=some (.row w1 [lv] k1)) (a1:M.get bb=some (.row w2 [num (i:Int)] k2)) (a2:M.get bc=some (.row w3 [num (j:Int)] k3)) (hs:bI M 2 lv (gH S)) (hi:i < S.length) (hj:j < S.length) (hne:∀ s ∈ S,0 < s.1.length/\s.1.length<=100000/\s.2.length<=100000) (hy:∀ k C M2,k < (ly (i:Int) (j:Int) (decide (i=j)) (S.getD i ([],[])) (S.getD j ([],[]))).length->C.wf->J k C->cq bo M2 C->ls Tryz.prog lp #[Se ((ly (i:Int) (j:Int) (decide (i=j)) (S.getD i ([],[])) (S.getD j ([],[]))).getD k .zero)] C (fun v C2=>v=.bool true/\J (k + 1) C2/\C2.wf/\cq bo M2 C2)):bz Tryz.prog 192 #[.func (.yield lp) #[] #[],.pointer (some ⟨ba,0,none⟩),.pointer (some ⟨bb,0,none⟩),.pointer (some ⟨bc,0,none⟩)] A (fun v A1=>J (ly (i:Int) (j:Int) (decide (i=j)) (S.getD i ([],[])) (S.getD j ([],[]))).length A1/\A1.wf/\cq bo M A1):=by
 refine Yn Tryz.call192 Tryz.func192 Z Tryz.results192 Tryz.ntmps192 Z (fun wf=>?_);have V:=hP.le;have d2:=hne _ (bi (d:=(([],[]):Wd × Wd)) hi);have d3:=hne _ (bi (d:=(([],[]):Wd × Wd)) hj);refine al.seq fun _ h2=>.drawn [0,1,2,3,4,5,6,7,8,9,10,11] mixed Y Y Z<|.q Z Z Z (ak xG Z Z (V.get _ _ a0) Z)<|.q Z Z Z (ak df Z Z (V.get _ _ a1) Z) ?_;obtain ⟨b3,f3,dL,r3,dJ,n3,k3,e3,l3,g3,cS,aS⟩:=bI.at (i:=i) (hs.le V) OJ O;refine bk.q Z Z Z (aH rg nU Z e3 Z l3)<|.q Z Z Z (i0 (i:=0) zX fU Z Z U)<|.q Z Z Z (ak gu Z Z g3 ((aS 0 U).trans (yD O)))<|.q Z Z Z (ak xG Z Z (V.get _ _ a0) Z)<|.q Z Z Z (ak df Z Z (V.get _ _ a2) Z) ?_;obtain ⟨b4,f4,dM,r4,dK,n4,k4,e4,l4,g4,cV,aT⟩:=bI.at (i:=j) (hs.le V) OJ O;refine bk.q Z Z Z (aH rg nU Z e4 Z l4)<|.q Z Z Z (i0 (i:=0) zX fU Z Z U)<|.q Z Z Z (ak gu Z Z g4 ((aT 0 U).trans (yD O)))<|.q Z Z Z (ae Z)<|.q Z Z Z (ae Z)<|.done<|h2 _ _<|.seq fun _ h6=>.seq fun _ h8=>.region ?_;refine Ops.q Z (ae Z)<|.nil<|h8 _ _<|.block<|.loop (X:=Nat) (fun k=>[(0,.func (.yield lp) #[] #[]),(1,.pointer (some ⟨ba,0,none⟩)),(2,.pointer (some ⟨bb,0,none⟩)),(3,.pointer (some ⟨bc,0,none⟩)),(5,bg ((S.getD i ([],[])).1)),(6,bg ((S.getD j ([],[])).1)),(7,num ((k:Nat):Int))]) (fun k B=>(1<=k/\k<=(S.getD i ([],[])).1.length)/\M.le B/\(J (s9 (i:Int) (j:Int) (S.getD i ([],[])) (S.getD j ([],[])) k).length B/\cq bo M B)) (fun k=>(S.getD i ([],[])).1.length - k) 1 (Im Z Z Z Z Z Z Z) (⟨⟨Nat.le_refl _,by omega⟩,V,⟨(by rw [Kw];exact bu),hP⟩⟩) ?_;rintro k B10 ⟨⟨bv,ag⟩,D,hJk,hPk⟩;refine al.wf fun aR=>.seq fun _ b7=>.seq fun _ b8=>.region<|.q Z (ah Z)<|.q Z (ah Z)<|.q Z (cw u9 Z)<|.q Z (bX Z Z)<|.nil<|b8 _ _ ?_;refine al.if rfl (fun bL=>?_) (fun bL=>?_)
 ·refine al.skip<|b7 _ _<|.seq fun _ a4=>.block<|.seq fun _ b9=>.region<|.q Z (ah Z)<|.q Z (cw u9 Z)<|.q Z (ah Z)<|.q Z (il Z Z O) ?_;refine Ops.q Z (ae Z)<|.nil<|b9 _ _<|.seq fun _ ab=>.drawn [0,1,2,3,4,5,6,7,8,9,10,11,12] mixed Y Y Z<|.q Z Z Z (ah Z)<|.q Z Z Z (ah Z)<|.q Z Z Z (cw u9 Z)<|.q Z Z Z (bX Z Z)<|.q Z Z Z (ah Z) ?_;refine bk.part (t:=34) Z (fun bM=>?_) (fun bM=>?_)
  ·refine bk.qOn Z Z Z Z Z (ah Z)<|.qOn Z Z Z Z Z (ah Z)<|.qOn Z Z Z Z Z (pd u9 Z Z O)<|.qOn Z Z Z Z Z (ah Z)<|.qOn Z Z Z Z Z (ah Z)<|.qOn Z Z Z Z Z (pc u9 Z Z O)<|.qOn Z Z Z Z Z (pb Z Z)<|.q Z Z Z (aJ Z Z)<|.done<|ab _ _ ?_;refine al.if rfl (fun bO=>?_) (fun bO=>?_)
   ·refine al.seq fun _ bd=>?_;have a9:=S8 (I:=i) (J:=j) (same:=decide (i=j)) (a:=(S.getD i ([],[]))) (b:=(S.getD j ([],[]))) (n:=k) O O O ‹_›;have a7:=hy _ B10 M a9.1 aR hJk hPk;rw [a9.2.1] at a7;refine al.drawnYield [0,1,2,3,4,5,6,7,8,9,10,11,12,13,14,15,16,17,18,19,20,21,22,23,24,25,26,27,28] 27 28 rfl Z Z Z Y Y Z mixed Y Y Z (a7)<|.q Z Z Z (ah Z)<|.q Z Z Z (ak df Z Z (D.get _ _ a1) Z)<|.q Z Z Z (ak df Z Z (D.get _ _ a2) Z)<|.q Z Z Z (ah Z)<|.q Z Z Z (ah Z)<|.q Z Z Z (ah Z)<|.q Z Z Z (pd u9 Z Z O)<|.q Z Z Z (jH Z Z Ob)<|.q Z Z Z (ak xG Z Z (D.get _ _ a0) Z) ?_;refine bk.q Z Z Z (ak df Z Z (D.get _ _ a1) Z) ?_;obtain ⟨cF,cX,cf,dz,c3,dl,dd,aV,bA,b1,bT,ai⟩:=bI.at (i:=i) (hs.le D) OJ O;refine bk.q Z Z Z (aH rg nU Z aV Z bA)<|.q Z Z Z (i0 (i:=1) zX fU Z Z U)<|.q Z Z Z (ak gu Z Z b1 ((ai 1 U).trans (qS O)))<|.q Z Z Z (ah Z)<|.q Z Z Z (ah Z)<|.q Z Z Z (pd u9 Z Z O)<|.q Z Z Z (jH Z Z Ob)<|.q Z Z Z (ah Z)<|.q Z Z Z (ah Z)<|.q Z Z Z (pc u9 Z Z O) ?_;refine bk.q Z Z Z (ak xG Z Z (D.get _ _ a0) Z)<|.q Z Z Z (ak df Z Z (D.get _ _ a2) Z) ?_;obtain ⟨cH,cZ,ch,dD,c4,dm,di,aY,bB,b2,bU,ap⟩:=bI.at (i:=j) (hs.le D) OJ O;refine bk.q Z Z Z (aH rg nU Z aY Z bB)<|.q Z Z Z (i0 (i:=1) zX fU Z Z U)<|.q Z Z Z (ak gu Z Z b2 ((ap 1 U).trans (qS O)))<|.q Z Z Z (jH Z Z Ob)<|.q Z Z Z (dx Z (bH VR Ae Fx Z))<|.q Z Z Z (ah Z)<|.q Z Z Z (ah Z)<|.done ?_;refine ⟨rfl,rfl,rfl,rfl,fun dO A30 aF=>?_⟩;obtain ⟨ay,aA,cA,a5⟩:=aF;refine ⟨ay,?_⟩;have aI:=a5.le;have aC:J (s9 (i:Int) (j:Int) (S.getD i ([],[])) (S.getD j ([],[])) (k + 1)).length A30:=by rw [a9.2.2];exact aA
    refine bd _ _<|.cond_false Z<|.skip<|a4 _ _<|.region<|.q Z (ah Z)<|.q Z (bE (b:=1) Z Z O)<|.q Z (ae Z)<|.nil ?_;exact ⟨k + 1,Im Z Z Z Z Z Z Z,Z,⟨⟨by omega,by omega⟩,aI,⟨aC,a5⟩⟩,O1⟩
   refine al.skip<|a4 _ _<|.region<|.q Z (ah Z)<|.q Z (bE (b:=1) Z Z O)<|.q Z (ae Z)<|.nil ?_;exact ⟨k + 1,Im Z Z Z Z Z Z Z,Z,⟨⟨by omega,by omega⟩,D,⟨(by rw [Fw (fun q=>by exact absurd q.2.2 ‹_›)];exact hJk),hPk⟩⟩,O1⟩
  refine bk.qOff Z Z Z Z Z Z<|.qOff Z Z Z Z Z Z<|.qOff Z Z Z Z Z Z<|.qOff Z Z Z Z Z Z<|.qOff Z Z Z Z Z Z<|.qOff Z Z Z Z Z Z<|.qOff Z Z Z Z Z Z<|.q Z Z Z (aL Z Z)<|.done<|ab _ _ ?_;refine al.cond_false Z<|.skip<|a4 _ _<|.region<|.q Z (ah Z)<|.q Z (bE (b:=1) Z Z O)<|.q Z (ae Z)<|.nil ?_;exact ⟨k + 1,Im Z Z Z Z Z Z Z,Z,⟨⟨by omega,by omega⟩,D,⟨(by rw [Fw (fun q=>by exact absurd q.2.1 ‹_›)];exact hJk),hPk⟩⟩,O1⟩
 refine al.exit<|h6 _ _<|.seq fun _ bl=>.region<|.q Z (ae Z)<|.nil<|bl _ _<|.block<|.loop (X:=Nat) (fun k=>[(0,.func (.yield lp) #[] #[]),(1,.pointer (some ⟨ba,0,none⟩)),(2,.pointer (some ⟨bb,0,none⟩)),(3,.pointer (some ⟨bc,0,none⟩)),(5,bg ((S.getD i ([],[])).1)),(6,bg ((S.getD j ([],[])).1)),(9,num ((k:Nat):Int))]) (fun k B=>(k<=(S.getD i ([],[])).1.length + 1/\(i=j->k=0))/\M.le B/\(J ((s9 (i:Int) (j:Int) (S.getD i ([],[])) (S.getD j ([],[])) (S.getD i ([],[])).1.length).length + (vU (i:Int) (j:Int) (S.getD i ([],[])) (S.getD j ([],[])) k).length) B/\cq bo M B)) (fun k=>(S.getD i ([],[])).1.length + 1 - k) 0 (Im Z Z Z Z Z Z Z) (⟨⟨Nat.zero_le _,fun _=>rfl⟩,D,⟨(by rw [show k=(S.getD i ([],[])).1.length by omega] at hJk;exact hJk),hPk⟩⟩) ?_;rintro k B38 ⟨⟨bv,ag⟩,h,hJk,hPk⟩;refine al.wf fun a3=>.seq fun _ bm=>.seq fun _ ac=>.region<|.q Z (ak df Z Z (h.get _ _ a1) Z)<|.q Z (ak df Z Z (h.get _ _ a2) Z)<|.q Z (fh Z Z)<|.q Z (ah Z)<|.part (t:=75) Z (fun bP=>?_) (fun bP=>?_)
 ·refine Ops.on Z Z<|.q Z (ah Z)<|.on Z Z<|.q Z (ah Z)<|.on Z Z<|.q Z (cw u9 Z)<|.on Z Z<|.q Z (bE Z Z O)<|.on Z Z<|.q Z (ah Z) ?_;refine Ops.on Z Z<|.q Z (cw u9 Z)<|.on Z Z<|.q Z (sH Z Z)<|.q Z (aJ Z Z)<|.nil<|ac _ _<|.if rfl (fun bR=>?_) (fun bR=>?_)
  ·refine al.skip<|bm _ _<|.seq fun _ ad=>.block<|.seq fun _ bp=>.region<|.q Z (ah Z)<|.q Z (ah Z)<|.q Z (ah Z)<|.q Z (ah Z) ?_;refine Ops.q Z (cw u9 Z)<|.q Z (bE Z Z O)<|.q Z (XW u9 Z Z Z O)<|.q Z (ah Z)<|.q Z (pb Z Z)<|.nil<|bp _ _<|.if rfl (fun bS=>?_) (fun bS=>?_)
   ·refine al.seq fun _ br=>?_;have aa:=Sx (I:=i) (J:=j) (same:=decide (i=j)) (a:=(S.getD i ([],[]))) (b:=(S.getD j ([],[]))) (n:=k) (decide_eq_false ‹_›) O ‹_›;have a8:=hy _ B38 M aa.1 a3 hJk hPk;rw [aa.2.1] at a8;refine al.drawnYield [0,1,2,3,4,5,6,7,8,9,10,11,12,13,14,15,16,17,18,19,20,21,22,23,24,25,26,27] 26 27 rfl Z Z Z Y Y Z mixed Y Y Z (a8)<|.q Z Z Z (ah Z)<|.q Z Z Z (ak df Z Z (h.get _ _ a1) Z)<|.q Z Z Z (ak df Z Z (h.get _ _ a2) Z)<|.q Z Z Z (ah Z)<|.q Z Z Z (ak xG Z Z (h.get _ _ a0) Z)<|.q Z Z Z (ak df Z Z (h.get _ _ a1) Z) ?_;obtain ⟨cK,d0,ck,dG,c7,dv,dj,aZ,bC,b5,bV,ar⟩:=bI.at (i:=i) (hs.le h) OJ O;refine bk.q Z Z Z (aH rg nU Z aZ Z bC)<|.q Z Z Z (i0 (i:=1) zX fU Z Z U)<|.q Z Z Z (ak gu Z Z b5 ((ar 1 U).trans (qS O)))<|.q Z Z Z (ah Z)<|.q Z Z Z (ah Z)<|.q Z Z Z (pc u9 Z Z O)<|.q Z Z Z (ak xG Z Z (h.get _ _ a0) Z)<|.q Z Z Z (ak df Z Z (h.get _ _ a2) Z) ?_;obtain ⟨cP,d1,cv,dI,cc,dw,dk,b0,bD,b6,bY,av⟩:=bI.at (i:=j) (hs.le h) OJ O;refine bk.q Z Z Z (aH rg nU Z b0 Z bD)<|.q Z Z Z (i0 (i:=1) zX fU Z Z U)<|.q Z Z Z (ak gu Z Z b6 ((av 1 U).trans (qS O)))<|.q Z Z Z (jH Z Z Ob)<|.q Z Z Z (ah Z)<|.q Z Z Z (ah Z)<|.q Z Z Z (ah Z)<|.q Z Z Z (cw u9 Z)<|.q Z Z Z (bE Z Z O)<|.q Z Z Z (pd u9 Z Z O) ?_;refine bk.q Z Z Z (jH Z Z Ob)<|.q Z Z Z (dx Z (bH VR Ae Fx Z))<|.q Z Z Z (ah Z)<|.q Z Z Z (ah Z)<|.done ?_;refine ⟨rfl,rfl,rfl,rfl,fun dS A56 aG=>?_⟩;obtain ⟨az,aB,cC,a6⟩:=aG;refine ⟨az,?_⟩;have aP:=a6.le;have aD:J ((s9 (i:Int) (j:Int) (S.getD i ([],[])) (S.getD j ([],[])) (S.getD i ([],[])).1.length).length + (vU (i:Int) (j:Int) (S.getD i ([],[])) (S.getD j ([],[])) (k + 1)).length) A56:=by rw [aa.2.2];exact aB
    refine br _ _<|.cond_false Z<|.skip<|ad _ _<|.region<|.q Z (ah Z)<|.q Z (bE (b:=1) Z Z O)<|.q Z (ae Z)<|.nil ?_;exact ⟨k + 1,Im Z Z Z Z Z Z Z,Z,⟨⟨by omega,fun q=>absurd q ‹_›⟩,aP,⟨aD,a6⟩⟩,O1⟩
   refine al.skip<|ad _ _<|.region<|.q Z (ah Z)<|.q Z (bE (b:=1) Z Z O)<|.q Z (ae Z)<|.nil ?_;exact ⟨k + 1,Im Z Z Z Z Z Z Z,Z,⟨⟨by omega,fun q=>absurd q ‹_›⟩,h,⟨(by rw [Vg ‹_›];exact hJk),hPk⟩⟩,O1⟩
  refine al.exit ?_;repeat first | with_reducible refine bw ?_ | with_reducible refine bj ?_
  repeat first | with_reducible refine fc ?_ | with_reducible refine eu ?_ | with_reducible refine dY U ?_ | with_reducible refine d4 ?_ | with_reducible refine db ?_
  exact yl (vs:=[]) Z (⟨by (rw [Mw (decide_eq_false ‹_›) O O];exact hJk),a3,hPk⟩)
 refine Ops.off Z Z Z Z<|.off Z Z Z Z<|.off Z Z Z Z<|.off Z Z Z Z<|.off Z Z Z Z<|.off Z Z Z Z<|.off Z Z Z Z<|.q Z (aL Z Z)<|.nil<|ac _ _ ?_;refine al.cond_false Z<|.exit ?_;repeat first | with_reducible refine bw ?_ | with_reducible refine bj ?_
 repeat first | with_reducible refine fc ?_ | with_reducible refine eu ?_ | with_reducible refine dY U ?_ | with_reducible refine d4 ?_ | with_reducible refine db ?_
 exact yl (vs:=[]) Z (⟨by (rw [Jv (decide_eq_true (Decidable.not_not.1 ‹_›))];rw [ag (Decidable.not_not.1 ‹_›)] at hJk;exact hJk),a3,hPk⟩)
end Go.Proofs.YtjppkekmddjcfaaGreatDoor

namespace Go.Proofs.YtjppkekmddjcfaaGreatDoor
open Go Go.RowKit V
set_option maxRecDepth 100000
theorem UH:dn Tryz.prog 202=some false:=by kernel_rfl
theorem uz:dn Tryz.prog 47=some true:=by kernel_rfl
theorem RJ:dn Tryz.prog 78=some false:=by kernel_rfl
theorem Nh:dB Tryz.prog 47 0=some (3,0):=by kernel_rfl
theorem Ni:dB Tryz.prog 47 1=some (3,1):=by kernel_rfl
theorem Wt:Tryz.prog.info? 47=some Tryz.t47:=by kernel_rfl
theorem jP:da Tryz.prog 47=some 5:=by kernel_rfl
theorem Xh:da Tryz.prog 78=some 1:=by kernel_rfl
theorem VZ:type_of% @Tryz.underlying78:=@Tryz.underlying78
theorem Yw:cx Tryz.prog 78=some (.slice none 0 0):=by kernel_rfl

theorem Qq (bo lp:Nat) (J:Nat->AH->Prop) (g:Int) (u:Value) (l:List (List UInt8)) (rv:Value) (rs:List bf) (M A:AH) (bs k1:Nat) (w1:Bool) (hP:cq bo M A) (hB:J 0 A) (gbs:M.get bs=some (.row w1 [num g,u,rv] k1)) (hL:gO M) (hu:bI M 1 u (d6 l)) (hr:bI M 3 rv (dc rs)) (hp:Proofs M rs) (hg:1<=g/\g<=8) (hn:rs.length<=1000000) (hw:∀ r ∈ rs,0 < r.left.length/\r.left.length<=1000/\r.right.length<=1000) (hclo:∀ i C C2,J i C->C2.wf->C.n<=C2.n->(∀ b o,(b < A.n\/na bo C b)->C.get b=some o->C2.get b=some o)->J i C2) (hv:∀ i C,J i C->∃ v cap,C.get bo=some (.row true [v] cap)/\∀ b,blk v=some b->∃ o,C.get b=some o) (hbo:bo < A.n) (hy:∀ k C M2,k < (bh g rs).length->C.wf->J k C->cq bo M2 C->ls Tryz.prog lp #[Se ((bh g rs).getD k .zero)] C (fun v C2=>v=.bool true/\J (k + 1) C2/\C2.wf/\cq bo M2 C2)):bz Tryz.prog 164 #[.func (.yield lp) #[] #[],.pointer (some ⟨bs,0,none⟩)] A (fun v A1=>J (bh g rs).length A1/\A1.wf/\cq bo M A1):=by
  refine enterM (e:=[(0,.func (.yield lp) #[] #[]),(1,.pointer (some ⟨bs,0,none⟩))]) (args:=[.func (.yield lp) #[] #[],.pointer (some ⟨bs,0,none⟩)]) Tryz.call164 Tryz.func164 Z Tryz.results164 Tryz.ntmps164 Z Z Z (fun wf=>?_)
  have hE:=hP.le
  obtain ⟨hG,mM,dS,fD⟩:=hv _ _ hB
  have hC:=AH.le.refl A
  have kT:jt bo A A []:=jt.nil
  have l2:A.n<=A.n:=Nat.le_refl _
  have hne:=ud hg hw
  have hsl:=oL g rs
  refine al.seq fun K1 h2=>.region<|.l Z (fun _ _ l1 _=>dP wf rfl rfl fun A5 b4 e9=>?_)
  have g2:=aW wf (Nat.le_trans hC.n e9.lo)
  have m1:=Nat.le_trans hE.n e9.lo
  have dl:=hE.trans e9.le
  have hD:=hC.trans e9.le
  refine l1 _ _<|.nil<|h2 _ _<|.seq fun K9 ka=>.region<|.q Z (an fp eO Z Z (dl.get _ _ gbs) Z)<|.l Z (fun _ _ iN _=>au Z (Je ((g)) u l rv rs A5 hg hn (hL.le dl) (hu.le dl) (hr.le dl) (hp.le dl)) ?_)
  rintro dm A13 ⟨eL,eQ,ez⟩
  have kc:=eL.get _ _ e9.get
  have aZ:=hD.trans eL
  have f0:=ez.base dl
  have k7:=J0 hD ez
  refine iN _ _<|.q Z (ae Z)<|.nil<|ka _ _<|.seq fun K21 kl=>.region<|.q Z (ah Z)<|.q Z (bF (n:=(aO ((g)) rs).length) rg Z f0.slc O (rO _))<|.q Z (ah Z)<|.nil ?_
  refine kl _ _<|.block ?_
  have hY:=hclo _ _ _ hB eQ aZ.n (fun b o _ h=>aZ.get b o h)
  have f1:=aZ.get _ _ dS
  have mr:=pM aZ fD
  have it:=hP.up aZ dS
  have j2:=Nat.le_trans l2 aZ.n
  have hU:=kT.up aZ dS
  have bu:=cq.full f1 eQ
  have aR:=it.sub f1
  have cX:=aR.get _ _ gbs
  have cV:=go kc dS fD g2
  have aG:=rL f0 dS fD k7
  have e5:=hu.le aR
  have dk:=hr.le aR
  have fe:=hL.le aR
  have fm:A.n<=(A13.hide [some bo,blk hG]).n:=j2
  generalize hM24:(A13.hide [some bo,blk hG])=M24 at bu aR cX cV aG e5 dk fe fm
  refine al.loopD (X:=Nat × List Nat) (fun ⟨i,Ds⟩=>[(1,.pointer (some ⟨bs,0,none⟩)),(2,.pointer (some ⟨b4,0,none⟩)),(3,dm),(10,num (((aO ((g)) rs).length:Nat):Int)),(11,num ((i:Nat):Int))]) (fun ⟨i,Ds⟩=>Ds.map V.mark) (fun ⟨i,Ds⟩ B=>(i<=(aO g rs).length)/\M24.le B/\jt bo A B Ds/\(J (td rs.length (aO g rs) i 0).length B/\cq bo M24 B)) (fun ⟨i,Ds⟩=>(aO g rs).length - i) (⟨0,[]⟩) (pw Z Z Z Z Z) Z (⟨(Nat.zero_le _),bu.le,hU,⟨(by rw [show (td rs.length (aO g rs) 0 0).length=0 from rfl];exact hY),bu⟩⟩) ?_
  rintro ⟨i,Ds⟩ B26 ⟨hl_i,dM,bM,hJ_i,hP_i⟩
  refine al.wf fun ex=>?_
  obtain ⟨fQ,me,dw,fE⟩:=hv _ _ hJ_i
  have ft:=AH.le.refl B26
  have j3:=Nat.le_trans fm dM.n
  refine al.seq fun K29 km=>.region<|.q Z (bX Z Z)<|.nil<|km _ _<|.seq fun K31 kp=>.if rfl (fun lc=>?_) (fun lc=>?_)
  ·
    refine al.skip<|kp _ _<|.seq fun K34 kv=>.block<|.seq fun K36 kA=>.region<|.q Z (ah Z)<|.l Z (fun _ _ iR _=>cm ex z3 rfl fun A40 eV b2=>?_)
    have f3:=aW bu.wf (Nat.le_trans dM.n b2.lo)
    have dV:=aW ex (Nat.le_trans ft.n b2.lo)
    have l9:=Nat.le_trans dM.n b2.lo
    have k2:=dM.trans b2.le
    have jN:=ft.trans b2.le
    refine iR _ _<|.l Z (fun _ _ iS _=>be (cs:=[num ((i:Nat):Int)]) (c':=[num ((i:Nat):Int)]) b2.wf rfl rfl rfl rfl cD b2.get (Nat.le_of_ble_eq_true rfl) rfl rfl fun A45 b7=>?_)
    have b0:=ao jN ex dV b7.n b7.keep
    have k3:=ao k2 bu.wf f3 b7.n b7.keep
    refine iS _ _<|.nil<|kA _ _<|.seq fun K49 kC=>.region<|.q Z (ah Z)<|.q Z (bF (n:=(aO ((g)) rs).length) rg Z (aG.le k3) O (rO _))<|.q Z (ah Z)<|.nil<|kC _ _ ?_
    refine al.block ?_
    have hZ:=hclo _ _ _ hJ_i b7.wf b0.n (fun b o _ h=>b0.get b o h)
    have f2:=b0.get _ _ dw
    have ms:=pM b0 fE
    have iv:=hP_i.up b0 dw
    have j4:=Nat.le_trans j3 b0.n
    have hV:=bM.up b0 dw
    have aS:=cq.full f2 b7.wf
    have a7:=iv.sub f2
    have ar:=a7.get _ _ cX
    have bv:=a7.get _ _ cV
    have a4:=go b7.get dw fE dV
    have cv:=e5.le a7
    have av:=dk.le a7
    have a5:=aG.le a7
    have en:=fe.le a7
    have dI:A.n<=(A45.hide [some bo,blk fQ]).n:=j4
    generalize hM52:(A45.hide [some bo,blk fQ])=M52 at aS a7 ar bv a4 cv av a5 en dI
    refine al.loopD (X:=Nat × List Nat) (fun ⟨j,Ds⟩=>[(1,.pointer (some ⟨bs,0,none⟩)),(2,.pointer (some ⟨b4,0,none⟩)),(3,dm),(4,.pointer (some ⟨eV,0,none⟩)),(10,num (((aO ((g)) rs).length:Nat):Int)),(11,num ((i:Nat):Int)),(15,num (((aO ((g)) rs).length:Nat):Int)),(16,num ((j:Nat):Int))]) (fun ⟨j,Ds⟩=>Ds.map V.mark) (fun ⟨j,Ds⟩ B=>(j<=(aO g rs).length)/\M52.le B/\jt bo A B Ds/\(J (td rs.length (aO g rs) i j).length B/\cq bo M52 B)) (fun ⟨j,Ds⟩=>(aO g rs).length - j) (⟨0,Ds⟩) (yZ Z Z Z Z Z Z Z Z) Z (⟨(Nat.zero_le _),aS.le,hV,⟨hZ,aS⟩⟩) ?_
    rintro ⟨j,Ds⟩ B54 ⟨hl_j,cC,bO,hJ_j,hP_j⟩
    refine al.wf fun aA=>?_
    obtain ⟨dO,mi,D,a9⟩:=hv _ _ hJ_j
    have fv:=AH.le.refl B54
    have ev:=Nat.le_trans dI cC.n
    refine al.seq fun K57 kD=>.region<|.q Z (bX Z Z)<|.nil<|kD _ _<|.seq fun K59 kK=>.if rfl (fun lt=>?_) (fun lt=>?_)
    ·
      refine al.skip<|kK _ _<|.seq fun K62 f7=>.block<|.seq fun K64 kL=>.region<|.q Z (ah Z)<|.l Z (fun _ _ iT _=>cm aA z3 rfl fun A68 ey b3=>?_)
      have f4:=aW aS.wf (Nat.le_trans cC.n b3.lo)
      have bU:=aW aA (Nat.le_trans fv.n b3.lo)
      have la:=Nat.le_trans cC.n b3.lo
      have k4:=cC.trans b3.le
      have k0:=fv.trans b3.le
      refine iT _ _<|.l Z (fun _ _ iV _=>be (cs:=[num ((j:Nat):Int)]) (c':=[num ((j:Nat):Int)]) b3.wf rfl rfl rfl rfl cD b3.get (Nat.le_of_ble_eq_true rfl) rfl rfl fun A73 ai=>?_)
      have a1:=ao k0 aA bU ai.n ai.keep
      have ag:=ao k4 aS.wf f4 ai.n ai.keep
      refine iV _ _<|.nil<|kL _ _<|.seq fun K77 hz=>.seq fun K79 hA=>.region<|.q Z (ak df Z Z (ag.get _ _ a4) Z)<|.q Z (aj eF jO U Z)<|.q Z (ak kh Z Z (ag.get _ _ ar) Z)<|.q Z (bF (n:=rs.length) rh Z (av.le ag) O (dE _)) ?_
      refine Ops.q Z (wq Z Z)<|.q Z (ah Z)<|.part (t:=24) Z (fun lw=>?_) (fun lw=>?_)
      ·
        refine Ops.on Z Z<|.q Z (ak df Z Z ai.get Z)<|.on Z Z<|.q Z (aj eF jO U Z)<|.on Z Z<|.q Z (ak kh Z Z (ag.get _ _ ar) Z)<|.on Z Z<|.q Z (bF (n:=rs.length) rh Z (av.le ag) O (dE _))<|.on Z Z<|.q Z (wq Z Z) ?_
        refine Ops.q Z (aJ Z Z)<|.nil<|hA _ _<|.if rfl (fun lA=>?_) (fun lA=>?_)
        ·
          refine al.exit<|f7 _ _<|.region<|.q Z (bE (b:=1) Z Z O)<|.q Z (ah Z)<|.nil ?_
          have ih:=hclo _ _ _ hJ_j ai.wf a1.n (fun b o _ h=>a1.get b o h)
          have ml:=a1.get _ _ D
          have mt:=pM a1 a9
          have iD:=hP_j.up a1 D
          have mm:=Nat.le_trans ev a1.n
          have hW:=bO.up a1 D
          exact ⟨⟨j + 1,Ds⟩,yZ Z Z Z Z Z Z Z Z,Z,⟨O,ag,hW,⟨(by rw [Rz ⟨by omega,by omega⟩];exact ih),iD⟩⟩,O1⟩
        ·
          refine al.skip<|hz _ _<|.seq fun K84 kM=>.region<|.q Z (ah Z)<|.q Z (ak df Z Z (ag.get _ _ a4) Z)<|.q Z (ak df Z Z ai.get Z)<|.l Z (fun _ _ iX _=>au Z (yx dm (aO ((g)) rs) i j A73 (a5.le ag)) ?_)
          rintro mR A88 ⟨fT,fV,fX,rfl,eN,bT,dd,di,dj,d1,d2,d3⟩
          have kP:=eN.get _ _ ai.get
          have b1:=a1.trans eN
          have hrwa:=dd
          have hrwb:=di
          have hrwc:=dj
          have hloa:=d1
          have hlob:=d2
          have hloc:=d3
          have ea:=aW aA (Nat.le_trans a1.n d1)
          have ec:=aW aA (Nat.le_trans a1.n d2)
          have eg:=aW aA (Nat.le_trans a1.n d3)
          refine iX _ _<|.nil<|kM _ _<|.block ?_
          have ir:=hclo _ _ _ hJ_j bT b1.n (fun b o _ h=>b1.get b o h)
          have dz:=b1.get _ _ D
          have mv:=pM b1 a9
          have iF:=hP_j.up b1 D
          have jn:=Nat.le_trans ev b1.n
          have hX:=bO.up b1 D
          have ay:=cq.full dz bT
          have a2:=iF.sub dz
          have a8:=a2.get _ _ ar
          have d0:=a2.get _ _ bv
          have bY:=a2.get _ _ a4
          have aV:=go kP D a9 bU
          have ba:=go dd D a9 ea
          have bb:=go di D a9 ec
          have bc:=go dj D a9 eg
          have cA:=cv.le a2
          have bB:=av.le a2
          have bD:=a5.le a2
          have fi:=en.le a2
          have dJ:A.n<=(A88.hide [some bo,blk dO]).n:=jn
          generalize hM94:(A88.hide [some bo,blk dO])=M94 at ay a2 a8 d0 bY aV ba bb bc cA bB bD fi dJ
          refine al.rangeOwn (M:=M94) bo (ei (aO g rs) i j).length (fun k=>[Se ((ei (aO g rs) i j).getD k .zero)]) (fun k B=>J ((td rs.length (aO g rs) i j).length + k) B/\cq bo M94 B) (fun k b6=>[(6,.pointer (some ⟨b6,0,none⟩)),(1,.pointer (some ⟨bs,0,none⟩)),(2,.pointer (some ⟨b4,0,none⟩)),(4,.pointer (some ⟨eV,0,none⟩)),(5,.pointer (some ⟨ey,0,none⟩)),(20,.pointer (some ⟨bs,2,none⟩)),(26,.pointer (some ⟨bs,2,none⟩))]) (fun k=>.row true [num (((ei (aO g rs) i j).getD k .zero).i),num (((ei (aO g rs) i j).getD k .zero).j),bg (((ei (aO g rs) i j).getD k .zero).word),bg (((ei (aO g rs) i j).getD k .zero).u),bg (((ei (aO g rs) i j).getD k .zero).v)] 5) Z Tryz.call192 (fun _=>rfl) U (bT _ _ dz) ay ?_ ?_ ?_ ?_ ?_ ?_ ?_
          · rintro k B B2 ⟨i1,i2⟩ dv e4 hk
            obtain ⟨v,cc,gq,_⟩:=hv _ _ i1
            exact ⟨hclo _ _ _ i1 dv e4 (fun b o hb h=>hk b o (hb.imp (fun q=>Nat.lt_of_lt_of_le q (Nat.le_trans dJ ay.le.n)) id) h),⟨⟨Nat.le_trans i2.le.n e4,fun b o h=>hk b o (.inl (Nat.lt_of_lt_of_le (i2.wf b o h) ay.le.n)) (i2.le.get _ _ h)⟩,i2.wf,fun b hb=>i2.ow b (hb.same (by rw [gq];exact hk bo _ (.inr (.inl Z)) gq))⟩⟩
          · exact fun k B i1=>hv _ _ i1.1
          · exact ⟨ir,ay⟩
          · intro fL J2 B M4 hnB hleB wfB ap hJI iH aT hyd
            obtain ⟨v,cc,gq,_⟩:=hv _ _ (hJI 0 B aT).1
            have s3:=(hJI 0 B aT).2.sub gq
            exact (wN bo fL J2 i j (aO g rs) dm _ B fT fV fX _ _ _ _ _ _ (cq.full gq wfB) aT (s3.get _ _ ba) (s3.get _ _ bb) (s3.get _ _ bc) (bD.le s3) O O hne (fun k C M2=>hyd k C M2)).mono (fun v C h=>⟨h.1,h.2.1,h.2.2.mono (ap.sub gq) ap.wf⟩)
          · intro F k B hF_ hk_
            refine eh.wf fun wfB_=>?_
            have hF:=hF_
            refine eh.region hF (by repeat' with_reducible exact iK) Y<|.l Z (fun _ _ j1 _=>cm wfB_ Ae rfl fun A97 k9 cK=>?_)
            have f5:=aW wfB_ (Nat.le_trans (AH.le.refl B).n cK.lo)
            have fI:=Nat.le_trans (AH.le.refl B).n cK.lo
            have k6:=(AH.le.refl B).trans cK.le
            refine j1 _ _<|.l Z (fun _ _ gM _=>be (cs:=[num (((ei (aO g rs) i j).getD k .zero).i),num (((ei (aO g rs) i j).getD k .zero).j),bg (((ei (aO g rs) i j).getD k .zero).word),bg (((ei (aO g rs) i j).getD k .zero).u),bg (((ei (aO g rs) i j).getD k .zero).v)]) (c':=[num (((ei (aO g rs) i j).getD k .zero).i),num (((ei (aO g rs) i j).getD k .zero).j),bg (((ei (aO g rs) i j).getD k .zero).word),bg (((ei (aO g rs) i j).getD k .zero).u),bg (((ei (aO g rs) i j).getD k .zero).v)]) cK.wf rfl rfl rfl rfl jP cK.get (Nat.le_of_ble_eq_true rfl) rfl rfl fun A101 bR=>?_)
            have hi:=ao k6 wfB_ f5 bR.n bR.keep
            refine gM _ _<|.nil ?_
            exact ⟨k9,fI,Im Z Z Z Z Z Z Z,Z,hi,bR.wf,bR.get⟩
          · rintro F k B b6 M4 hF hk_ ⟨i1,i2⟩ wfB hnB ap fl g6 cP f6
            obtain ⟨vY,cY,gY,lY⟩:=hv _ _ i1
            have l4:A.n<=b6:=Nat.le_trans (Nat.le_trans dJ ay.le.n) fl
            have fM:bo ≠ b6:=fun q=>cP (.inl q.symm)
            have lb:blk vY ≠ some b6:=fun q=>cP (.inr ⟨_,_,gY,q⟩)
            have s3:=i2.sub gY
            have e1:M94.get b6=none:=by cases q:M94.get b6 with | none=>rfl | some o=>exact absurd (ay.wf _ _ q) (by have:=ay.le.n;omega)
            have s6:=cd (bs:=[some b6]) s3 (uD e1 px)
            have jX:=cz B [some b6]
            have m6:((B.hide [some bo,blk vY]).hide [some b6]).le (B.hide [some b6]):=xP (cz _ _)
            have cS:((B.hide [some bo,blk vY]).hide [some b6]).wf:=cg (cg wfB)
            have b5:((B.hide [some bo,blk vY]).hide [some b6]).get b6=none:=cn (by simp)
            have wfX:(B.hide [some b6]).wf:=cg wfB
            have e7:(B.hide [some b6]).get b6=none:=cn (by simp)
            generalize hM6:(B.hide [some bo,blk vY]).hide [some b6]=M6 at s6 m6 cS b5
            have kV:=fi.le s6
            refine eh.block<|.seq fun K104 hI=>.drawn [0,1,3,4,2,6,5,7,8,9] hF (by repeat' first | with_reducible exact iK | with_reducible apply pU | with_reducible apply ln) Y mixed Y Y Z<|.q Z Z Z (an fp eO Z Z ((m6.trans jX).get _ _ (s6.get _ _ a8)) Z)<|.q Z Z Z (ak df Z Z ((m6.trans jX).get _ _ (s6.get _ _ bY)) Z) ?_
            have g9:=c5 (off:=0) ((m6.trans jX).get _ _ (s6.get _ _ a8)) (show _=some (num (g)) from rfl)
            have gc:=c5 (off:=1) ((m6.trans jX).get _ _ (s6.get _ _ a8)) (show _=some (u) from rfl)
            have ge:=c5 (off:=2) ((m6.trans jX).get _ _ (s6.get _ _ a8)) (show _=some (rv) from rfl)
            refine bk.q Z Z Z (an fp eO Z Z ((m6.trans jX).get _ _ (s6.get _ _ a8)) Z) ?_
            have gf:=c5 (off:=0) ((m6.trans jX).get _ _ (s6.get _ _ aV)) (show _=some (num ((j:Nat):Int)) from rfl)
            refine bk.q Z Z Z (ak df Z Z ((m6.trans jX).get _ _ (s6.get _ _ aV)) Z)<|.l Z Z Z (fun _ _ gN _=>au Z (ve ((g)) u l rv rs i B O hn ((cA.le s6).le (m6.trans jX)) ((bB.le s6).le (m6.trans jX))) ?_)
            rintro mx A116 ⟨rfl,aa,lB⟩
            have hJ:=aa.get _ _ g6
            have gg:=cr aa g9
            have gl:=cr aa gc
            have gm:=cr aa ge
            have gp:=cr aa gf
            have dK:=(m6.trans jX).trans aa
            have ha:=jX.trans aa
            refine gN _ _ (aX.list (L:=[(⟨ey,0,none⟩,num ((j:Nat):Int)),(⟨bs,0,none⟩,num (g)),(⟨bs,1,none⟩,u),(⟨bs,2,none⟩,rv)]) Y (bx gp (bx gg (bx gl (bx gm cO)))))<|.q Z Z Z (aj Nh cD U Z)<|.l Z Z Z (fun _ _ gP _=>au Z (ve ((g)) u l rv rs j A116 O hn ((cA.le s6).le dK) ((bB.le s6).le dK)) ?_)
            rintro mA A131 ⟨rfl,cF,fR⟩
            have hK:=cF.get _ _ hJ
            have hj:=dK.trans cF
            have hc:=ha.trans cF
            refine gP _ _ (aX.none Y)<|.l Z Z Z (fun _ _ gQ _=>be (cs:=[num (nm rs.length i)]) (c':=[num (nm rs.length i),num (((ei (aO g rs) i j).getD k .zero).j),bg (((ei (aO g rs) i j).getD k .zero).word),bg (((ei (aO g rs) i j).getD k .zero).u),bg (((ei (aO g rs) i j).getD k .zero).v)]) fR rfl rfl rfl rfl cD hK (Nat.le_of_ble_eq_true rfl) rfl rfl fun A141 aI=>?_)
            have hd:=ao hc wfX e7 aI.n aI.keep
            have hl:=ao hj cS b5 aI.n aI.keep
            refine gQ _ _ (aX.none Y)<|.q Z Z Z (aj Ni cD U Z)<|.l Z Z Z (fun _ _ gS _=>be (cs:=[num (nm rs.length j)]) (c':=[num (nm rs.length i),num (nm rs.length j),bg (((ei (aO g rs) i j).getD k .zero).word),bg (((ei (aO g rs) i j).getD k .zero).u),bg (((ei (aO g rs) i j).getD k .zero).v)]) aI.wf rfl rfl rfl rfl cD aI.get (Nat.le_of_ble_eq_true rfl) rfl rfl fun A146 ac=>?_)
            have bl:=ao hd wfX e7 ac.n ac.keep
            have hm:=ao hl cS b5 ac.n ac.keep
            refine gS _ _ (aX.none Y)<|.done<|hI _ _<|.seq fun K150 hM=>?_
            have g4:=hclo _ _ _ i1 ac.wf bl.n (fun b o hb h=>bl.get b o (bN h (rd (fun q=>by subst q;rcases hb with hb | hb;omega;exact cP hb) m7)))
            have dD:=bl.get _ _ (bN gY (rd fM m7))
            have fN:=L8 (n:=rs.length) (L:=(aO g rs)) (i:=i) (j:=j) (k:=k) O O O hk_
            have eC:=hy _ _ _ fN.1 ac.wf g4 (cq.full dD ac.wf)
            rw [show bh g rs=jG rs.length (aO g rs) from rfl,fN.2] at eC
            refine eh.regionJ ?_
            refine jL.q hF Z Z (ak UH Z Z (hm.get _ _ (s6.get _ _ d0)) Z) ?_
            refine jL.q hF Z Z (an uz jP Z Z ac.get Z) ?_
            refine jL.y hF rfl rfl rfl (eC) fun mB A154 h7=>?_
            obtain ⟨rfl,hJz,wfz,hPz⟩:=h7
            skip
            refine jL.q hF Z Z (eo Z) ?_
            refine jL.nil ?_
            refine hM _ _<|.cond_false Z<|.skip ?_
            exact ⟨⟨hJz,(hPz.mono (cd ((cd (bs:=[some b6]) i2.le (uD e1 px)).trans bl) (sE i2 gY dD)) i2.wf)⟩,wfz,(hPz.mono (cd ((cd (bs:=[some b6]) ap.le (uD f6 px)).trans bl) (sE ap gY dD)) ap.wf)⟩
          · rintro B156 D156 ⟨i1,i2⟩ ma fn l6 g0 fq b8
            have f9:=jt.push hX dz (by rw [hM94];exact b8) bT (Nat.le_trans dJ ay.le.n) fn g0 fq
            have e2:J (td rs.length (aO g rs) i (j + 1)).length B156:=by rw [Mc O];exact i1
            obtain ⟨m2,lE,lK,lV⟩:=hv _ _ e2
            have lP:=Nat.le_trans dI (a2.trans b8.le).n
            refine f7 _ _<|.region<|.q Z (bE (b:=1) Z Z O)<|.q Z (ah Z)<|.nil ?_
            exact ⟨⟨j + 1,D156 :: Ds⟩,yZ Z Z Z Z Z Z Z Z,Z,⟨O,(a2.trans b8.le),f9,⟨e2,(b8.mono a2 aS.wf)⟩⟩,O1⟩
      ·
        refine Ops.off Z Z Z Z<|.off Z Z Z Z<|.off Z Z Z Z<|.off Z Z Z Z<|.off Z Z Z Z<|.q Z (aL Z Z)<|.nil<|hA _ _<|.cond_false Z<|.skip ?_
        refine hz _ _<|.seq fun K158 hN=>.region<|.q Z (ah Z)<|.q Z (ak df Z Z (ag.get _ _ a4) Z)<|.q Z (ak df Z Z ai.get Z)<|.l Z (fun _ _ gX _=>au Z (yx dm (aO ((g)) rs) i j A73 (a5.le ag)) ?_)
        rintro mE A162 ⟨eX,eY,eZ,rfl,e6,br,cf,ch,ck,c3,c4,c7⟩
        have hO:=e6.get _ _ ai.get
        have az:=a1.trans e6
        have hrwa:=cf
        have hrwb:=ch
        have hrwc:=ck
        have hloa:=c3
        have hlob:=c4
        have hloc:=c7
        have dW:=aW aA (Nat.le_trans a1.n c3)
        have dZ:=aW aA (Nat.le_trans a1.n c4)
        have e0:=aW aA (Nat.le_trans a1.n c7)
        refine gX _ _<|.nil<|hN _ _<|.block ?_
        have g5:=hclo _ _ _ hJ_j br az.n (fun b o _ h=>az.get b o h)
        have bL:=az.get _ _ D
        have lW:=pM az a9
        have g8:=hP_j.up az D
        have h9:=Nat.le_trans ev az.n
        have g3:=bO.up az D
        have a6:=cq.full bL br
        have a0:=g8.sub bL
        have a3:=a0.get _ _ ar
        have bV:=a0.get _ _ bv
        have bC:=a0.get _ _ a4
        have aB:=go hO D a9 bU
        have aC:=go cf D a9 dW
        have aD:=go ch D a9 dZ
        have aF:=go ck D a9 e0
        have bA:=cv.le a0
        have aY:=av.le a0
        have bd:=a5.le a0
        have eA:=en.le a0
        have bP:A.n<=(A162.hide [some bo,blk dO]).n:=h9
        generalize hM168:(A162.hide [some bo,blk dO])=M168 at a6 a0 a3 bV bC aB aC aD aF bA aY bd eA bP
        refine al.rangeOwn (M:=M168) bo (ei (aO g rs) i j).length (fun k=>[Se ((ei (aO g rs) i j).getD k .zero)]) (fun k B=>J ((td rs.length (aO g rs) i j).length + k) B/\cq bo M168 B) (fun k b6=>[(6,.pointer (some ⟨b6,0,none⟩)),(1,.pointer (some ⟨bs,0,none⟩)),(2,.pointer (some ⟨b4,0,none⟩)),(4,.pointer (some ⟨eV,0,none⟩)),(5,.pointer (some ⟨ey,0,none⟩)),(20,.pointer (some ⟨bs,2,none⟩))]) (fun k=>.row true [num (((ei (aO g rs) i j).getD k .zero).i),num (((ei (aO g rs) i j).getD k .zero).j),bg (((ei (aO g rs) i j).getD k .zero).word),bg (((ei (aO g rs) i j).getD k .zero).u),bg (((ei (aO g rs) i j).getD k .zero).v)] 5) Z Tryz.call192 (fun _=>rfl) U (br _ _ bL) a6 ?_ ?_ ?_ ?_ ?_ ?_ ?_
        · rintro k B B2 ⟨i1,i2⟩ dv e4 hk
          obtain ⟨v,cc,gq,_⟩:=hv _ _ i1
          exact ⟨hclo _ _ _ i1 dv e4 (fun b o hb h=>hk b o (hb.imp (fun q=>Nat.lt_of_lt_of_le q (Nat.le_trans bP a6.le.n)) id) h),⟨⟨Nat.le_trans i2.le.n e4,fun b o h=>hk b o (.inl (Nat.lt_of_lt_of_le (i2.wf b o h) a6.le.n)) (i2.le.get _ _ h)⟩,i2.wf,fun b hb=>i2.ow b (hb.same (by rw [gq];exact hk bo _ (.inr (.inl Z)) gq))⟩⟩
        · exact fun k B i1=>hv _ _ i1.1
        · exact ⟨g5,a6⟩
        · intro fL J2 B M4 hnB hleB wfB ap hJI iH aT hyd
          obtain ⟨v,cc,gq,_⟩:=hv _ _ (hJI 0 B aT).1
          have s3:=(hJI 0 B aT).2.sub gq
          exact (wN bo fL J2 i j (aO g rs) dm _ B eX eY eZ _ _ _ _ _ _ (cq.full gq wfB) aT (s3.get _ _ aC) (s3.get _ _ aD) (s3.get _ _ aF) (bd.le s3) O O hne (fun k C M2=>hyd k C M2)).mono (fun v C h=>⟨h.1,h.2.1,h.2.2.mono (ap.sub gq) ap.wf⟩)
        · intro F k B hF_ hk_
          refine eh.wf fun wfB_=>?_
          have hF:=hF_
          refine eh.region hF (by repeat' with_reducible exact iK) Y<|.l Z (fun _ _ h0 _=>cm wfB_ Ae rfl fun A171 hH bp=>?_)
          have eS:=aW wfB_ (Nat.le_trans (AH.le.refl B).n bp.lo)
          have eT:=Nat.le_trans (AH.le.refl B).n bp.lo
          have ho:=(AH.le.refl B).trans bp.le
          refine h0 _ _<|.l Z (fun _ _ h1 _=>be (cs:=[num (((ei (aO g rs) i j).getD k .zero).i),num (((ei (aO g rs) i j).getD k .zero).j),bg (((ei (aO g rs) i j).getD k .zero).word),bg (((ei (aO g rs) i j).getD k .zero).u),bg (((ei (aO g rs) i j).getD k .zero).v)]) (c':=[num (((ei (aO g rs) i j).getD k .zero).i),num (((ei (aO g rs) i j).getD k .zero).j),bg (((ei (aO g rs) i j).getD k .zero).word),bg (((ei (aO g rs) i j).getD k .zero).u),bg (((ei (aO g rs) i j).getD k .zero).v)]) bp.wf rfl rfl rfl rfl jP bp.get (Nat.le_of_ble_eq_true rfl) rfl rfl fun A175 bS=>?_)
          have hq:=ao ho wfB_ eS bS.n bS.keep
          refine h1 _ _<|.nil ?_
          exact ⟨hH,eT,Il Z Z Z Z Z Z,Z,hq,bS.wf,bS.get⟩
        · rintro F k B b6 M4 hF hk_ ⟨i1,i2⟩ wfB hnB ap fl g6 cP f6
          obtain ⟨vY,cY,gY,lY⟩:=hv _ _ i1
          have l4:A.n<=b6:=Nat.le_trans (Nat.le_trans bP a6.le.n) fl
          have fM:bo ≠ b6:=fun q=>cP (.inl q.symm)
          have lb:blk vY ≠ some b6:=fun q=>cP (.inr ⟨_,_,gY,q⟩)
          have s3:=i2.sub gY
          have e1:M168.get b6=none:=by cases q:M168.get b6 with | none=>rfl | some o=>exact absurd (a6.wf _ _ q) (by have:=a6.le.n;omega)
          have s6:=cd (bs:=[some b6]) s3 (uD e1 px)
          have jX:=cz B [some b6]
          have m6:((B.hide [some bo,blk vY]).hide [some b6]).le (B.hide [some b6]):=xP (cz _ _)
          have cS:((B.hide [some bo,blk vY]).hide [some b6]).wf:=cg (cg wfB)
          have b5:((B.hide [some bo,blk vY]).hide [some b6]).get b6=none:=cn (by simp)
          have wfX:(B.hide [some b6]).wf:=cg wfB
          have e7:(B.hide [some b6]).get b6=none:=cn (by simp)
          generalize hM6:(B.hide [some bo,blk vY]).hide [some b6]=M6 at s6 m6 cS b5
          have kV:=eA.le s6
          refine eh.block<|.seq fun K178 hQ=>.drawn [0,1,3,4,2,6,5,7,8,9] hF (by repeat' first | with_reducible exact iK | with_reducible apply pU | with_reducible apply ln) Y mixed Y Y Z<|.q Z Z Z (an fp eO Z Z ((m6.trans jX).get _ _ (s6.get _ _ a3)) Z)<|.q Z Z Z (ak df Z Z ((m6.trans jX).get _ _ (s6.get _ _ bC)) Z) ?_
          have gs:=c5 (off:=0) ((m6.trans jX).get _ _ (s6.get _ _ a3)) (show _=some (num (g)) from rfl)
          have gA:=c5 (off:=1) ((m6.trans jX).get _ _ (s6.get _ _ a3)) (show _=some (u) from rfl)
          have gC:=c5 (off:=2) ((m6.trans jX).get _ _ (s6.get _ _ a3)) (show _=some (rv) from rfl)
          refine bk.q Z Z Z (an fp eO Z Z ((m6.trans jX).get _ _ (s6.get _ _ a3)) Z) ?_
          have gD:=c5 (off:=0) ((m6.trans jX).get _ _ (s6.get _ _ aB)) (show _=some (num ((j:Nat):Int)) from rfl)
          refine bk.q Z Z Z (ak df Z Z ((m6.trans jX).get _ _ (s6.get _ _ aB)) Z)<|.l Z Z Z (fun _ _ h3 _=>au Z (ve ((g)) u l rv rs i B O hn ((bA.le s6).le (m6.trans jX)) ((aY.le s6).le (m6.trans jX))) ?_)
          rintro mI A190 ⟨rfl,ab,lC⟩
          have hR:=ab.get _ _ g6
          have gE:=cr ab gs
          have gF:=cr ab gA
          have gG:=cr ab gC
          have gL:=cr ab gD
          have dL:=(m6.trans jX).trans ab
          have he:=jX.trans ab
          refine h3 _ _ (aX.list (L:=[(⟨ey,0,none⟩,num ((j:Nat):Int)),(⟨bs,0,none⟩,num (g)),(⟨bs,1,none⟩,u),(⟨bs,2,none⟩,rv)]) Y (bx gL (bx gE (bx gF (bx gG cO)))))<|.q Z Z Z (aj Nh cD U Z)<|.l Z Z Z (fun _ _ h4 _=>au Z (ve ((g)) u l rv rs j A190 O hn ((bA.le s6).le dL) ((aY.le s6).le dL)) ?_)
          rintro mK A205 ⟨rfl,cH,fS⟩
          have hS:=cH.get _ _ hR
          have hs:=dL.trans cH
          have hf:=he.trans cH
          refine h4 _ _ (aX.none Y)<|.l Z Z Z (fun _ _ h5 _=>be (cs:=[num (nm rs.length i)]) (c':=[num (nm rs.length i),num (((ei (aO g rs) i j).getD k .zero).j),bg (((ei (aO g rs) i j).getD k .zero).word),bg (((ei (aO g rs) i j).getD k .zero).u),bg (((ei (aO g rs) i j).getD k .zero).v)]) fS rfl rfl rfl rfl cD hS (Nat.le_of_ble_eq_true rfl) rfl rfl fun A215 aP=>?_)
          have hh:=ao hf wfX e7 aP.n aP.keep
          have ht:=ao hs cS b5 aP.n aP.keep
          refine h5 _ _ (aX.none Y)<|.q Z Z Z (aj Ni cD U Z)<|.l Z Z Z (fun _ _ h6 _=>be (cs:=[num (nm rs.length j)]) (c':=[num (nm rs.length i),num (nm rs.length j),bg (((ei (aO g rs) i j).getD k .zero).word),bg (((ei (aO g rs) i j).getD k .zero).u),bg (((ei (aO g rs) i j).getD k .zero).v)]) aP.wf rfl rfl rfl rfl cD aP.get (Nat.le_of_ble_eq_true rfl) rfl rfl fun A220 ad=>?_)
          have bm:=ao hh wfX e7 ad.n ad.keep
          have hx:=ao ht cS b5 ad.n ad.keep
          refine h6 _ _ (aX.none Y)<|.done<|hQ _ _<|.seq fun K224 hT=>?_
          have g7:=hclo _ _ _ i1 ad.wf bm.n (fun b o hb h=>bm.get b o (bN h (rd (fun q=>by subst q;rcases hb with hb | hb;omega;exact cP hb) m7)))
          have dG:=bm.get _ _ (bN gY (rd fM m7))
          have fO:=L8 (n:=rs.length) (L:=(aO g rs)) (i:=i) (j:=j) (k:=k) O O O hk_
          have eG:=hy _ _ _ fO.1 ad.wf g7 (cq.full dG ad.wf)
          rw [show bh g rs=jG rs.length (aO g rs) from rfl,fO.2] at eG
          refine eh.regionJ ?_
          refine jL.q hF Z Z (ak UH Z Z (hx.get _ _ (s6.get _ _ bV)) Z) ?_
          refine jL.q hF Z Z (an uz jP Z Z ad.get Z) ?_
          refine jL.y hF rfl rfl rfl (eG) fun mL A228 h8=>?_
          obtain ⟨rfl,hJz,wfz,hPz⟩:=h8
          skip
          refine jL.q hF Z Z (eo Z) ?_
          refine jL.nil ?_
          refine hT _ _<|.cond_false Z<|.skip ?_
          exact ⟨⟨hJz,(hPz.mono (cd ((cd (bs:=[some b6]) i2.le (uD e1 px)).trans bm) (sE i2 gY dG)) i2.wf)⟩,wfz,(hPz.mono (cd ((cd (bs:=[some b6]) ap.le (uD f6 px)).trans bm) (sE ap gY dG)) ap.wf)⟩
        · rintro B230 D230 ⟨i1,i2⟩ mb fo l7 g1 fr b9
          have fd:=jt.push g3 bL (by rw [hM168];exact b9) br (Nat.le_trans bP a6.le.n) fo g1 fr
          have e3:J (td rs.length (aO g rs) i (j + 1)).length B230:=by rw [Mc O];exact i1
          obtain ⟨m3,lF,lO,lX⟩:=hv _ _ e3
          have lT:=Nat.le_trans dI (a0.trans b9.le).n
          refine f7 _ _<|.region<|.q Z (bE (b:=1) Z Z O)<|.q Z (ah Z)<|.nil ?_
          exact ⟨⟨j + 1,D230 :: Ds⟩,yZ Z Z Z Z Z Z Z Z,Z,⟨O,(a0.trans b9.le),fd,⟨e3,(b9.mono a0 aS.wf)⟩⟩,O1⟩
    ·
      refine al.exit<|kv _ _<|.region<|.q Z (bE (b:=1) Z Z O)<|.q Z (ah Z)<|.nil ?_
      exact ⟨⟨i + 1,Ds⟩,pw Z Z Z Z Z,Z,⟨O,(a7.trans cC),bO,⟨(by rw [DY,show (aO g rs).length=j by omega];exact hJ_j),(hP_j.mono a7 bu.wf)⟩⟩,O1⟩
  ·
    refine al.exit ?_
    (repeat first | with_reducible refine bw ?_ | with_reducible refine bj ?_);(repeat first | with_reducible refine fc ?_ | with_reducible refine eu ?_ | with_reducible refine dY U ?_ | with_reducible refine d4 ?_ | with_reducible refine db ?_);obtain ⟨vZ,cZ,gZ,lZ⟩:=hv _ _ hJ_i;refine ⟨Ds,rfl,bM.nd,bM.get,[],fun A2 dv l3 l0=>?_⟩;obtain ⟨z1,z2⟩:=bM.leave hP.le wf (hP_i.mono aR hP.wf) gZ l3 l0;exact ⟨Z,_,Z,(by rw [show bh g rs=td rs.length (aO g rs) i 0 from by rw [show i=(aO g rs).length by omega,L5];rfl];exact hclo _ _ _ hJ_i dv O z2),dv,z1⟩

theorem Ug (g:Int) (u:Value) (l:List (List UInt8)) (rv:Value) (rs:List bf) (A:AH) (hu:bI A 1 u (d6 l)) (hr:bI A 3 rv (dc rs)):bz Tryz.prog 125 #[.agg #[num (g),u,rv]] A (fun v A1=>∃ b,v=.func (.func 164) #[] #[.pointer (some ⟨b,0,none⟩)]/\A.le A1/\A1.wf/\A1.get b=some (.row true [num g,u,rv] 3)/\A.get b=none):=by
 refine ic Tryz.call125 Tryz.func125 Z Tryz.results125 Tryz.ntmps125 Z (fun wf=>?_);have V:=AH.le.refl A;refine al.seq fun _ h2=>.region<|.l Z (fun _ _ X _=>dP wf rfl rfl fun A5 b4 h=>?_);have D:=aW wf (Nat.le_trans V.n h.lo);have a0:=V.trans h.le;refine X _ _<|.q Z (ae Z)<|.nil<|h2 _ _<|.seq fun _ h9=>.region<|.q Z (mD Z Z)<|.q Z (ae Z)<|.nil<|h9 _ _ ?_;refine al.ret ?_;repeat first | with_reducible refine bw ?_ | with_reducible refine bj ?_
 exact aE Z (⟨b4,Z,a0,h.wf,h.get,D⟩)

theorem Ql (g:Int) (u:Value) (l:List (List UInt8)) (rv:Value) (rs:List bf) (A:AH) (hg:1<=g/\g<=8) (hn:rs.length<=1000000) (hw:∀ r ∈ rs,0 < r.left.length/\r.left.length<=1000/\r.right.length<=1000) (hmx:(bh g rs).length<=50000) (hL:gO A) (hu:bI A 1 u (d6 l)) (hr:bI A 3 rv (dc rs)) (hp:Proofs A rs):bz Tryz.prog 88 #[.agg #[num (g),u,rv]] A (fun v A1=>∃ w,v=.tuple #[w,.bool true]/\A.le A1/\A1.wf/\Fresh A A1 w 5 (Er (bh g rs))):=by
  refine enterM (e:=[(0,.agg #[num (g),u,rv])]) (args:=[.agg #[num (g),u,rv]]) Tryz.call88 Tryz.func88 Z Tryz.results88 Tryz.ntmps88 Z Z Z (fun wf=>?_)
  have c4:=AH.le.refl A
  have df_:Wb A A []:=⟨List.Pairwise.nil,fun _ h=>by cases h⟩
  refine al.seq fun K1 h2=>.region<|.l Z (fun _ _ e2 _=>dP wf rfl rfl fun A5 b4 aV=>?_)
  have ex:=Nat.le_trans c4.n aV.lo
  have bc:=c4.trans aV.le
  refine e2 _ _<|.l Z (fun _ _ e3 _=>cm aV.wf Yw rfl fun A10 b9 a3=>?_)
  have bD:=aW wf (Nat.le_trans bc.n a3.lo)
  have ey:=Nat.le_trans bc.n a3.lo
  have dD:=a3.le.get _ _ aV.get
  have aP:=bc.trans a3.le
  refine e3 _ _<|.l Z (fun _ _ cK _=>cm a3.wf z4 rfl fun A16 aY X=>?_)
  have ac:=ne_new a3.wf a3.get X.lo
  have b2:=aW wf (Nat.le_trans aP.n X.lo)
  have e6:=Nat.le_trans aP.n X.lo
  have bS:=X.le.get _ _ dD
  have bT:=X.le.get _ _ a3.get
  have aR:=aP.trans X.le
  refine cK _ _<|.nil<|h2 _ _<|.seq fun K21 dG=>.region<|.l Z (fun _ _ cP _=>cm X.wf Yw rfl fun A25 D a1=>?_)
  have aG:=ne_new X.wf bS a1.lo
  have aI:=ne_new X.wf bT a1.lo
  have aB:=ne_new X.wf X.get a1.lo
  have b3:=aW wf (Nat.le_trans aR.n a1.lo)
  have e7:=Nat.le_trans aR.n a1.lo
  have b7:=a1.le.get _ _ bS
  have bU:=a1.le.get _ _ bT
  have bV:=a1.le.get _ _ X.get
  have aS:=aR.trans a1.le
  refine cP _ _<|.nil<|dG _ _<|.seq fun K31 dI=>.seq fun K33 dJ=>.region<|.q Z (an fp eO Z Z b7 Z)<|.l Z (fun _ _ cS _=>au Z (Ug ((g)) u l rv rs A25 (hu.le aS) (hr.le aS)) ?_)
  rintro eN A37 ⟨a4,rfl,a7,ai,az,a2⟩
  have dK:=a7.get _ _ b7
  have dL:=a7.get _ _ bU
  have dM:=a7.get _ _ bV
  have aD:=a7.get _ _ a1.get
  have bb:=aS.trans a7
  have hrow:=az
  have hno:=a2
  have bA:b4 ≠ a4:=fun z=>by have q0:=b7;rw [z,a2] at q0;cases q0
  have bB:b9 ≠ a4:=fun z=>by have q0:=bU;rw [z,a2] at q0;cases q0
  have bp:aY ≠ a4:=fun z=>by have q0:=bV;rw [z,a2] at q0;cases q0
  have ay:D ≠ a4:=fun z=>by have q0:=a1.get;rw [z,a2] at q0;cases q0
  refine cS _ _<|.nil<|dJ _ _<|.block ?_
  have V:=cq.full aD ai
  have hLM:=cd (bs:=[some D,blk (.slice none 0 0)]) bb (fun b hb=>by simp only [List.mem_cons,List.not_mem_nil,or_false,Option.some.injEq,blk] at hb;rcases hb with rfl | hb;exact b3;cases hb)
  have bP:=Fresh.nil (A37.hide [some D,blk (.slice none 0 0)]) A37 5
  have ad:=bN (bs:=[some D,blk (.slice none 0 0)]) dK (rd (aG) (oD (fun q=>by cases q) m7))
  have ag:=bN (bs:=[some D,blk (.slice none 0 0)]) dL (rd (aI) (oD (fun q=>by cases q) m7))
  have a6:=bN (bs:=[some D,blk (.slice none 0 0)]) dM (rd (aB) (oD (fun q=>by cases q) m7))
  have a0:=bN (bs:=[some D,blk (.slice none 0 0)]) az (rd (ay.symm) (oD (fun q=>by cases q) m7))
  generalize hM0:(A37.hide [some D,blk (.slice none 0 0)])=M at V hLM bP ad ag a6 a0
  have hvI:∀ (k:Nat) (B:AH),(M.le B/\∃ v,B.get D=some (.row true [v] 1)/\Fresh M B v 5 (Er ((bh g rs).take k))/\blk v ≠ some D)->∃ v cap,B.get D=some (.row true [v] cap)/\∀ b,blk v=some b->∃ o,B.get b=some o:=fun k B ⟨_,v,g1,f1,_⟩=>⟨v,1,g1,fun b hb=>f1.own.blkget hb⟩
  refine al.rangeOwn (M:=M) D (bh g rs).length (fun k=>[Se ((bh g rs).getD k .zero)]) (fun k B=>(M.le B/\∃ v,B.get D=some (.row true [v] 1)/\Fresh M B v 5 (Er ((bh g rs).take k))/\blk v ≠ some D)) (fun k b6=>[(5,.pointer (some ⟨b6,0,none⟩)),(1,.pointer (some ⟨b4,0,none⟩)),(2,.pointer (some ⟨b9,0,none⟩)),(3,.pointer (some ⟨aY,0,none⟩)),(4,.pointer (some ⟨D,0,none⟩))]) (fun k=>.row true [num (((bh g rs).getD k .zero).i),num (((bh g rs).getD k .zero).j),bg (((bh g rs).getD k .zero).word),bg (((bh g rs).getD k .zero).u),bg (((bh g rs).getD k .zero).v)] 5) Z Tryz.call164 (fun _=>rfl) U (ai _ _ aD) V ?_ hvI ?_ ?_ ?_ ?_ ?_
  · rintro k B B2 ⟨i1,v,g1,f1,n1⟩ ck e5 hk
    exact ⟨⟨Nat.le_trans i1.n e5,fun b o h=>hk b o (.inl (Nat.lt_of_lt_of_le (V.wf b o h) V.le.n)) (i1.get _ _ h)⟩,v,hk _ _ (.inr (.inl rfl)) g1,f1.owk (fun b o hb h=>hk b o (.inr (.inr ⟨v,1,g1,hb⟩)) h),n1⟩
  · exact ⟨V.le,_,aD,bP,fun q=>by cases q⟩
  · intro ea J2 B M4 hnB hleB wfB aF hJI cH aA hyd
    obtain ⟨v,cc,gq,_⟩:=hvI _ _ (hJI 0 B aA)
    have s3:M.le (B.hide [some D,blk v]):=cd (hJI 0 B aA).1 (fun b hb=>by obtain ⟨_,w,g1,f1,_⟩:=hJI 0 B aA;rw [g1] at gq;cases gq;simp only [List.mem_cons,List.not_mem_nil,or_false,Option.some.injEq] at hb;rcases hb with rfl | hb;exact V.ow _ (.inl Z);exact f1.lo b hb.symm)
    exact (Qq D ea J2 g u l rv rs _ B a4 _ _ (cq.full gq wfB) aA (s3.get _ _ a0) ((hL.le hLM).le s3) ((hu.le hLM).le s3) ((hr.le hLM).le s3) ((hp.le hLM).le s3) hg hn hw (fun i C C2 j1 j2 j3 j4=>cH i C C2 j1 j2 j3 j4) (fun i C j1=>hvI i C (hJI i C j1)) (wfB _ _ gq) (fun k C M2=>hyd k C M2)).mono (fun v C h=>⟨h.1,h.2.1,h.2.2.mono (aF.sub gq) aF.wf⟩)
  · intro F k B hF_ hk_
    refine eh.wf fun wfB_=>?_
    have hF:=hF_
    refine eh.region hF (by repeat' with_reducible exact iK) Y<|.l Z (fun _ _ cV _=>cm wfB_ Ae rfl fun A46 dz ar=>?_)
    have b5:=aW wfB_ (Nat.le_trans (AH.le.refl B).n ar.lo)
    have bl:=Nat.le_trans (AH.le.refl B).n ar.lo
    have di:=(AH.le.refl B).trans ar.le
    refine cV _ _<|.l Z (fun _ _ cX _=>be (cs:=[num (((bh g rs).getD k .zero).i),num (((bh g rs).getD k .zero).j),bg (((bh g rs).getD k .zero).word),bg (((bh g rs).getD k .zero).u),bg (((bh g rs).getD k .zero).v)]) (c':=[num (((bh g rs).getD k .zero).i),num (((bh g rs).getD k .zero).j),bg (((bh g rs).getD k .zero).word),bg (((bh g rs).getD k .zero).u),bg (((bh g rs).getD k .zero).v)]) ar.wf rfl rfl rfl rfl jP ar.get (Nat.le_of_ble_eq_true rfl) rfl rfl fun A50 aC=>?_)
    have dj:=ao di wfB_ b5 aC.n aC.keep
    refine cX _ _<|.nil ?_
    exact ⟨dz,bl,pw Z Z Z Z Z,Z,dj,aC.wf,aC.get⟩
  · rintro F k B b6 M4 hF hk_ ⟨i1,v,g1,f1,n1⟩ wfB hnB aF eL g6 cf eC
    have s3:M.le (B.hide [some D,blk v]):=cd i1 (fun b hb=>by simp only [List.mem_cons,List.not_mem_nil,or_false,Option.some.injEq] at hb;rcases hb with rfl | hb;exact V.ow _ (.inl Z);exact f1.lo b hb.symm)
    have s4:=aF.sub g1
    have leX:=cz B [some D,blk v]
    have wfX:(B.hide [some D,blk v]).wf:=cg wfB
    have noX:(B.hide [some D,blk v]).get D=none:=cn (by simp)
    have fX:Fresh (B.hide [some D,blk v]) B v 5 (Er ((bh g rs).take k)):=f1.hide (by simp)
    have bR:(B.hide [some D,blk v]).get b6=some (.row true [num (((bh g rs).getD k .zero).i),num (((bh g rs).getD k .zero).j),bg (((bh g rs).getD k .zero).word),bg (((bh g rs).getD k .zero).u),bg (((bh g rs).getD k .zero).v)] 5):=bN g6 (rd (fun q=>cf (.inl q)) (oD (fun q=>cf (.inr ⟨_,_,g1,q⟩)) m7))
    generalize hMX:B.hide [some D,blk v]=MX at s3 s4 leX wfX noX fX bR
    have htk:((bh g rs).take k).length=k:=by rw [List.length_take];omega
    refine eh.block<|.seq fun K53 dO=>.seq fun K55 dS=>.region hF (by repeat' first | with_reducible exact iK | with_reducible apply pU | with_reducible apply ln) Y<|.q Z (ak RJ Z Z g1 Z)<|.q Z (bF (n:=((bh g rs).take k).length) VZ Z fX.slc O (Ig _))<|.q Z (iC (b:=50000) Z Z)<|.nil<|dS _ _<|.if rfl (fun ec=>?_) (fun ec=>?_)
    ·
      refine eh.seq fun K58 eG=>?_
      exact absurd ‹_› O
    ·
      refine eh.skip<|dO _ _<|.region hF (by repeat' first | with_reducible exact iK | with_reducible apply ln) Y<|.q Z (ak RJ Z Z g1 Z)<|.q Z (an uz jP Z Z (leX.get _ _ bR) Z)<|.l Z (fun _ _ cZ _=>aM (c:=[num (((bh g rs).getD k .zero).i),num (((bh g rs).getD k .zero).j),bg (((bh g rs).getD k .zero).word),bg (((bh g rs).getD k .zero).u),bg (((bh g rs).getD k .zero).v)]) wfB rfl (aw VZ jP Ae rfl U U rfl) fun A62 eA a8=>?_)
      have e9:=Nat.le_trans leX.n a8.lo
      have bY:=a8.le.get _ _ g1
      have b0:=fX.le a8.le
      have dk:=leX.trans a8.le
      refine cZ _ _<|.l Z (fun _ _ d0 _=>cR (ys:=[num (((bh g rs).getD k .zero).i),num (((bh g rs).getD k .zero).j),bg (((bh g rs).getD k .zero).word),bg (((bh g rs).getD k .zero).u),bg (((bh g rs).getD k .zero).v)]) rfl rfl VZ jP Wt Ae rfl U VZ (fun _ h=>by cases h) b0.own (bW (n:=1) a8.get Z) rfl rfl (by show (_ + _) * 64<=_;simp only [oe,List.length_cons,List.length_nil];(try simp only [List.length_append,List.length_cons,List.length_nil]);omega) (by simp only [oe,List.length_cons,List.length_nil];(try simp only [List.length_append,List.length_cons,List.length_nil]);omega) fun A69 eQ ap=>?_)
      rw [show ([num (((bh g rs).getD k .zero).i),num (((bh g rs).getD k .zero).j),bg (((bh g rs).getD k .zero).word),bg (((bh g rs).getD k .zero).u),bg (((bh g rs).getD k .zero).v)]:List Value)=Er [⟨((bh g rs).getD k .zero).i,((bh g rs).getD k .zero).j,((bh g rs).getD k .zero).word,((bh g rs).getD k .zero).u,((bh g rs).getD k .zero).v⟩] from rfl,Eu] at ap
      obtain ⟨b1,dl⟩:=Fresh.grow b0 dk wfX ap
      have dV:=ap.keep n1 bY
      have bm:=ap.ne n1 a8.wf bY
      refine d0 _ _ ?_
      obtain ⟨ch,c3,bO,eg,_⟩:=b1.own.slice
      subst eg
      refine Ops.l Z (fun _ _ d1 _=>be (cs:=[.slice ch c3 bO]) (c':=[.slice ch c3 bO]) ap.wf rfl rfl rfl rfl Xh dV (Nat.le_of_ble_eq_true rfl) rfl rfl fun A80 a9=>?_)
      have cv:=b1.keep a9.keep bm
      have bd:=ao dl wfX noX a9.n a9.keep
      refine d1 _ _<|.nil ?_
      have fe:=cy cv (congrArg Er (f8 (z:=CP.zero) hk_))
      exact ⟨⟨s3.trans bd,_,a9.get,fe.base s3,bm⟩,a9.wf,cq.mono ⟨bd,wfX,fun b hb=>by rcases hb.val a9.get with rfl | q;exact noX;exact fe.lo b q⟩ s4 aF.wf⟩
  · rintro B D0 ⟨i1,v,g1,f1,n1⟩ wfB hnD hnB gD hoD hPM
    have leB:=hLM.trans i1
    have frB:=f1.base hLM
    have hDp:jt D A B [D0]:=jt.push (A:=A) jt.nil aD (by rw [hM0];exact hPM) ai bb.n hnD gD hoD
    have ev:=i1.get _ _ ad
    have bL:=i1.get _ _ ag
    have b8:=i1.get _ _ a6
    have dd:=i1.get _ _ a0
    have ez:=f1.ne V.wf ad
    have bM:=f1.ne V.wf ag
    have br:=f1.ne V.wf a6
    have dw:=f1.ne V.wf a0
    have dv:D0 ≠ b4:=by have:=V.wf _ _ ad;have:=V.le.n;omega
    have av:D0 ≠ b9:=by have:=V.wf _ _ ag;have:=V.le.n;omega
    have ab:D0 ≠ aY:=by have:=V.wf _ _ a6;have:=V.le.n;omega
    have c7:D0 ≠ D:=by have:=ai _ _ aD;omega
    have bv:D0 ≠ a4:=by have:=V.wf _ _ a0;have:=V.le.n;omega
    have nvD:blk v ≠ some D0:=fun q=>hoD (.inr ⟨_,_,g1,q⟩)
    have hlA:A.n<=D0:=Nat.le_trans hLM.n (Nat.le_trans V.le.n hnD)
    refine dI _ _<|.seq fun K84 dW=>.region<|.q Z (ak RJ Z Z g1 Z) ?_
    obtain ⟨bu,ba,aZ,en,_⟩:=frB.own.slice
    subst en
    refine Ops.l Z (fun _ _ d2 _=>be (cs:=[.slice bu ba aZ]) (c':=[.slice bu ba aZ]) wfB rfl rfl rfl rfl Xh bL (Nat.le_of_ble_eq_true rfl) rfl rfl fun A88 a5=>?_)
    have dZ:=a5.keep _ _ ac.symm b8
    have e0:=a5.keep _ _ av gD
    have cA:=frB.keep a5.keep bM
    have dm:=ao leB wf bD a5.n a5.keep
    refine d2 _ _<|.l Z (fun _ _ d3 _=>be (cs:=[.bool (true)]) (c':=[.bool (true)]) a5.wf rfl rfl rfl rfl mn dZ (Nat.le_of_ble_eq_true rfl) rfl rfl fun A98 aa=>?_)
    have cC:=aa.keep _ _ ac a5.get
    have cF:=aa.keep _ _ ab e0
    have bC:=cA.keep aa.keep br
    have aT:=ao dm wf b2 aa.n aa.keep
    refine d3 _ _<|.nil<|dW _ _<|.ret ?_
    (repeat first | with_reducible refine bw ?_ | with_reducible refine bj ?_);(repeat first | with_reducible refine fc ?_ | with_reducible refine eu ?_ | with_reducible refine dY U ?_ | with_reducible refine d4 ?_ | with_reducible refine db ?_);refine ⟨[D0],rfl,(by simp),(fun E hE=>by rw [List.mem_singleton] at hE;subst hE;exact cF),[.slice bu ba aZ,.bool true],fun A2 ck e4 e1=>?_⟩;have hkD:∀ b o,b ≠ D0->A98.get b=some o->A2.get b=some o:=fun b o hb h=>e1 b o (by simpa using hb) h;exact ⟨gB.cell Z (pR RJ (hkD _ _ av.symm cC) Z) (gB.cell Z (pR uM (hkD _ _ ab.symm aa.get) Z) gB.nil),_,Z,_,Z,⟨by rw [e4];exact aT.n,fun b o h=>hkD b o (by have:=wf _ _ h;omega) (aT.get _ _ h)⟩,ck,(cy bC (congrArg Er (List.take_length))).owk (fun b o hb h=>hkD b o (fun z=>nvD (by rw [hb,z])) h)⟩
end Go.Proofs.YtjppkekmddjcfaaGreatDoor

namespace Go.Proofs.YtjppkekmddjcfaaGreatDoor
open Go Go.RowKit V
def gb (rs:List bf):List CP->Bool × CP × Nat
  | []=>(true,.zero,0)
  | p :: t=>match eJ rs p.u,eJ rs p.v with
    | some a,some b=>if a.word=b.word then gb rs t else (false,p,0)
    | _,_=>(false,.zero,2)
def jJ (rs:List bf):Bool->List Wd->Bool × Nat
  | t,[]=>(t,0)
  | t,w :: ws=>match eJ rs w with
    | none=>(false,2)
    | some r=>jJ rs (t && decide (r.word=[])) ws
section
variable {rs:List bf} {l:List CP} {i:Nat} {R:Bool × CP × Nat}
theorem QE (hi:l.length<=i) (h:gb rs (l.drop i)=R):R=(true,.zero,0):=by
  rw [<- h,List.drop_eq_nil_of_le hi];rfl
theorem uk {α:Type} {l:List α} {i:Nat} {z:α} (hi:i < l.length):l.drop i=l.getD i z :: l.drop (i + 1):=by
  rw [List.drop_eq_getElem_cons hi];simp [hi]
theorem Df (hi:i < l.length) (h:gb rs (l.drop i)=R) (q:(!(eJ rs (l.getD i .zero).u).isSome)=true\/(!(eJ rs (l.getD i .zero).v).isSome)=true):R=(false,.zero,2):=by
  rw [<- h,uk (z:=CP.zero) hi,gb]
  rcases q with q | q
  · rw [sI q]
  · rw [sI q];cases eJ rs (l.getD i .zero).u <;> rfl
theorem QC (hi:i < l.length) (h:gb rs (l.drop i)=R) (q1:(!(eJ rs (l.getD i .zero).u).isSome)=false) (q2:(!(eJ rs (l.getD i .zero).v).isSome)=false) (hne:¬ (fw (eJ rs (l.getD i .zero).u)).word=(fw (eJ rs (l.getD i .zero).v)).word):R=(false,l.getD i .zero,0):=by
  rw [<- h,uk (z:=CP.zero) hi,gb,qe q1,qe q2]
  simp only
  rw [if_neg hne]
theorem Lq (hi:i < l.length) (h:gb rs (l.drop i)=R) (q1:(!(eJ rs (l.getD i .zero).u).isSome)=false) (q2:(!(eJ rs (l.getD i .zero).v).isSome)=false) (he:¬ ¬ (fw (eJ rs (l.getD i .zero).u)).word=(fw (eJ rs (l.getD i .zero).v)).word):gb rs (l.drop (i + 1))=R:=by
  rw [<- h,uk (z:=CP.zero) hi]
  conv=>rhs;rw [gb,qe q1,qe q2]
  simp only
  rw [if_pos (Decidable.not_not.1 he)]
end
section
variable {rs:List bf} {l:List Wd} {i:Nat} {t:Bool} {R:Bool × Nat}
theorem yA (hi:l.length<=i) (h:jJ rs t (l.drop i)=R):R=(t,0):=by
  rw [<- h,List.drop_eq_nil_of_le hi];rfl
theorem Ln (hi:i < l.length) (h:jJ rs t (l.drop i)=R) (q:(!(eJ rs (l.getD i [])).isSome)=true):R=(false,2):=by
  rw [<- h,uk (z:=[]) hi,jJ,sI q]
theorem wQ (hi:i < l.length) (h:jJ rs t (l.drop i)=R) (q:(!(eJ rs (l.getD i [])).isSome)=false):jJ rs (t && decide ((fw (eJ rs (l.getD i []))).word=[])) (l.drop (i + 1))=R:=by
  rw [<- h,uk (z:=[]) hi]
  conv=>rhs;rw [jJ,qe q]
end
def ew (g:Int) (l:List Wd) (rs:List bf):Bool × CP × Nat:=if bZ g l rs then gb rs (bh g rs) else (false,.zero,100)
def ja (g:Int) (l:List Wd) (rs:List bf):Bool × Nat:=if (ew g l rs).2.2=0 then (if (jJ rs true l).2=0 then ((ew g l rs).1 && (jJ rs true l).1,0) else (false,(jJ rs true l).2)) else (false,(ew g l rs).2.2)
section
variable {g:Int} {l:List Wd} {rs:List bf}
theorem R5 (h:(!bZ g l rs)=true):ew g l rs=(false,.zero,100):=by simp_all [ew]
theorem R8 (h:(!bZ g l rs)=false):ew g l rs=gb rs (bh g rs):=by simp_all [ew]
theorem MN (h:¬ (ew g l rs).2.2=0):ja g l rs=(false,(ew g l rs).2.2):=by rw [ja,if_neg h]
theorem MO (h:¬ ¬ (ew g l rs).2.2=0) (q:jJ rs true l=(false,2)):ja g l rs=(false,2):=by
  rw [ja,if_pos (Decidable.not_not.1 h),q];rfl
theorem AO {t:Bool} (h:¬ ¬ (ew g l rs).2.2=0) (q:jJ rs true l=(t,0)):ja g l rs=((ew g l rs).1 && t,0):=by
  rw [ja,if_pos (Decidable.not_not.1 h),q];rfl
theorem qz (h:¬ ¬ (ew g l rs).2.2=0):bZ g l rs=true:=by
  have h:=Decidable.not_not.1 h
  cases q:bZ g l rs with
  | true=>rfl
  | false=>simp [ew,q] at h
theorem ql (hs:bZ g l rs=true):1<=g/\g<=8:=(ct (gh hs).1).1
theorem QK (hs:bZ g l rs=true):∀ r ∈ rs,0 < r.left.length/\r.left.length<=1000/\r.right.length<=1000:=fun r hr=>by
  have h1:=l5 hs hr
  have h2:=nI hs hr
  omega
end
end Go.Proofs.YtjppkekmddjcfaaGreatDoor

namespace Go.Proofs.YtjppkekmddjcfaaGreatDoor
open Go Go.RowKit V
set_option maxRecDepth 100000
theorem Vd:dB Tryz.prog 47 3=some (9,3):=by kernel_rfl
theorem Ve:dB Tryz.prog 47 4=some (9,4):=by kernel_rfl

theorem Uc (g:Int) (u:Value) (l:List (List UInt8)) (rv:Value) (rs:List bf) (A:AH) (hs:bZ g l rs=true) (hmx:(bh g rs).length<=50000) (hL:gO A) (hu:bI A 1 u (d6 l)) (hr:bI A 3 rv (dc rs)) (hp:Proofs A rs):bz Tryz.prog 69 #[.agg #[num (g),u,rv]] A (fun v A1=>v=.tuple #[.bool (gb rs (bh g rs)).1,Se (gb rs (bh g rs)).2.1,num (((gb rs (bh g rs)).2.2:Nat):Int)]/\A.le A1/\A1.wf):=by
 refine ic Tryz.call69 Tryz.func69 Z Tryz.results69 Tryz.ntmps69 Z (fun wf=>?_);have gN:=AH.le.refl A;refine al.seq fun _ h2=>.region<|.l Z (fun _ _ gG _=>dP wf rfl rfl fun A5 b4 cK=>?_);have eN:=gN.trans cK.le;refine gG _ _<|.q Z (ae Z)<|.l Z (fun _ _ gL _=>cm cK.wf Ae rfl fun A10 b9 aA=>?_);have aC:=aW wf (Nat.le_trans eN.n aA.lo);have ez:=aA.le.get _ _ cK.get;have az:=eN.trans aA.le;refine gL _ _<|.q Z (ae Z)<|.nil<|h2 _ _<|.seq fun _ g8=>.region<|.q Z (an fp eO Z Z ez Z)<|.l Z (fun _ _ ft _=>au Z (Ql ((g)) u l rv rs A10 (ql hs) (sX hs) (QK hs) hmx (hL.le az) (hu.le az) (hr.le az) (hp.le az)) ?_);rintro ha A18 ⟨bc,rfl,b6,gS,bu⟩;have eA:=b6.get _ _ ez;have eC:=b6.get _ _ aA.get;have aS:=az.trans b6;have bS:=bu.base az;have fS:=bu.ne aA.wf aA.get;refine ft _ _<|.q Z (ah Z)<|.q Z (aQ Z Z)<|.q Z (aQ Z Z)<|.q Z (ae Z)<|.q Z (ae Z)<|.nil<|g8 _ _<|.seq fun _ g9=>.seq fun _ gc=>?_;refine al.region<|.q Z (ah Z)<|.q Z (eo Z)<|.nil<|gc _ _<|.cond_false Z<|.skip<|g9 _ _<|.seq fun _ ge=>.region ?_;refine Ops.q Z (an fp eO Z Z eA Z)<|.l Z (fun _ _ fv _=>au Z (qf ((g)) u l rv rs A18 (sX hs) (wU hs) (hu.le aS) (hr.le aS) (hp.le aS)) ?_);rintro hb A34 ⟨h,b8,rfl,b7,ab,b3,aa,aR⟩;have gf:=b7.get _ _ eC;have bT:=bS.le b7;have fO:=aS.trans b7;have hrow:=b3;have hno:=aa;have hix:=aR;have e9:b4 ≠ h:=fun z=>by have q0:=eA;rw [z,aa] at q0;cases q0
 have ar:b9 ≠ h:=fun z=>by have q0:=eC;rw [z,aa] at q0;cases q0
 have b2:=sy aS aa;have fT:=Ax bS.own aa;refine fv _ _<|.q Z (ae Z)<|.nil<|ge _ _<|.seq fun _ gg=>.seq fun _ gl=>.region<|.q Z (ah Z)<|.q Z (bF (n:=(bh ((g)) rs).length) VZ Z bT.slc O (Ig _))<|.q Z (ah Z) ?_;refine Ops.nil<|gl _ _<|.block<|.loop (X:=Nat × Value × Value × Value × Value × Value × Value) (fun ⟨i,y0,y5,y6,y7,y8,y9⟩=>[(3,.pointer (some ⟨b9,0,none⟩)),(7,.pointer (some ⟨h,0,none⟩)),(24,bc),(25,num (((bh ((g)) rs).length:Nat):Int)),(26,num ((i:Nat):Int))]) (fun ⟨i,y0,y5,y6,y7,y8,y9⟩ B=>(i<=(bh g rs).length/\gb rs ((bh g rs).drop i)=gb rs (bh g rs))/\A.le B/\Fresh A B bc 5 (Er (bh ((g)) rs))/\B.get h=some (.row true [y0,num ((g)),u,rv,.map (some b8),y5,y6,y7,y8,y9] 10)/\B.get b9=some (.row true [num ((0:Nat):Int),num ((0:Nat):Int),bg ([]),bg ([]),bg ([])] 5)/\V.blk bc ≠ some h/\V.blk bc ≠ some b9/\(A34.hide [some h]).le B) (fun ⟨i,y0,y5,y6,y7,y8,y9⟩=>(bh g rs).length - i) (⟨0,.slice none 0 0,.slice none 0 0,num ((0:Nat):Int),bg ([]),num ((0:Nat):Int),.slice none 0 0⟩) (pw Z Z Z Z Z) (⟨⟨Nat.zero_le _,Z⟩,fO,bT,b3,gf,fT,fS,(cz A34 [some h])⟩) ?_;rintro ⟨i,y0,y5,y6,y7,y8,y9⟩ B46 ⟨⟨hi,hsc⟩,bp,a9,aB,ay,a2,aY,bv⟩;refine al.wf fun aZ=>.seq fun _ gm=>.region<|.q Z (bX Z Z)<|.nil<|gm _ _<|.seq fun _ gp=>.if rfl (fun gP=>?_) (fun gP=>?_)
 ·refine al.skip<|gp _ _<|.seq fun _ gq=>.block<|.seq fun _ gs=>.region ?_;obtain ⟨h3,h6,h0,h9,gZ,h8,h7,g6,gM,g7,eQ,gY⟩:=bI.at (i:=i) a9.slc (by simp only [oe];omega) O;refine Ops.q Z (aH VZ jP Z g6 Z gM)<|.q Z (an uz jP Z Z g7 (eQ.trans (congrArg some (UV O))))<|.l Z (fun _ _ fD _=>cm aZ Ae rfl fun A60 h4 a4=>?_);have a5:=ne_new aZ aB a4.lo;have bd:=ne_new aZ ay a4.lo;have fV:=a9.own.ne_new aZ a4.lo;have bV:=aW wf (Nat.le_trans bp.n a4.lo);have c3:=aW (cg ab) (Nat.le_trans bv.n a4.lo);have gA:=a4.le.get _ _ aB;have gC:=a4.le.get _ _ ay;have eS:=a9.le a4.le;have fQ:=bp.trans a4.le;have fM:=bv.trans a4.le;refine fD _ _<|.l Z (fun _ _ fE _=>be (cs:=[num (((bh ((g)) rs).getD i .zero).i),num (((bh ((g)) rs).getD i .zero).j),bg (((bh ((g)) rs).getD i .zero).word),bg (((bh ((g)) rs).getD i .zero).u),bg (((bh ((g)) rs).getD i .zero).v)]) (c':=[num (((bh ((g)) rs).getD i .zero).i),num (((bh ((g)) rs).getD i .zero).j),bg (((bh ((g)) rs).getD i .zero).word),bg (((bh ((g)) rs).getD i .zero).u),bg (((bh ((g)) rs).getD i .zero).v)]) a4.wf rfl rfl rfl rfl jP a4.get (Nat.le_of_ble_eq_true rfl) rfl rfl fun A69 a6=>?_);have gD:=a6.keep _ _ a5 gA;have gE:=a6.keep _ _ bd gC;have eT:=eS.keep a6.keep fV;have fN:=ao fM (cg ab) c3 a6.n a6.keep;have fR:=ao fQ wf bV a6.n a6.keep;refine fE _ _<|.nil<|gs _ _<|.seq fun _ gF=>.region<|.q Z (ah Z)<|.q Z (aj Vd fU U Z)<|.q Z (ak gu Z Z a6.get Z) ?_;have aT:=cd (bs:=[some h]) fR (uD b2 px);have cv:=cd (bs:=[some h]) fN (uD (cn (by simp)) px);refine Ops.l Z (fun _ _ fI _=>au Z (vf (((bh ((g)) rs).getD i .zero).u) rs l h (((g))) u rv b8 y0 y5 y6 y7 y8 y9 (A69.hide [some h]) A69 (cz A69 [some h]) (cg a6.wf) gD (cn (by simp)) hs (hL.le aT) (hr.le aT) (hp.le aT) (aR.le cv)) ?_);rintro hc A80 ⟨gQ,ec,eg,en,ev,ex,ey,rfl,ap,av,ag,bD,cP⟩;have fq:=bN (bs:=[some h]) gE (rd ar m7);have eG:=ap.get _ _ fq;have fr:=bN (bs:=[some h]) a6.get (rd a5.symm m7);have eL:=ap.get _ _ fr;have bU:=eT.off (ks a2 kr) ap;have eV:=bD.base aT;have cA:=cv.trans ap;have cH:=aT.trans ap;refine fI _ _<|.q Z (ah Z)<|.q Z (aQ Z Z)<|.q Z (aQ Z Z)<|.l Z (fun _ _ fL _=>cm av DT rfl fun A97 h5 a1=>?_);have ad:=ne_new av ag a1.lo;have bl:=ne_new av eG a1.lo;have ba:=ne_new av eL a1.lo;have fX:=bU.own.ne_new av a1.lo;have bY:=aW wf (Nat.le_trans cH.n a1.lo);have c4:=aW (cg ab) (Nat.le_trans cA.n a1.lo);have eX:=a1.le.get _ _ ag;have eY:=a1.le.get _ _ eG;have eZ:=a1.le.get _ _ eL;have dd:=bU.le a1.le;have di:=eV.le a1.le;have e1:=cH.trans a1.le;have dV:=cA.trans a1.le;refine fL _ _ ?_;obtain ⟨cS,cC,bP,g3,_⟩:=di.own.slice;subst g3;refine Ops.l Z (fun _ _ dG _=>be (cs:=[bg ((fw (eJ rs (((bh ((g)) rs).getD i .zero).u))).word),num (((fw (eJ rs (((bh ((g)) rs).getD i .zero).u))).steps:Nat):Int),.slice cS cC bP]) (c':=[bg ((fw (eJ rs (((bh ((g)) rs).getD i .zero).u))).word),num (((fw (eJ rs (((bh ((g)) rs).getD i .zero).u))).steps:Nat):Int),.slice cS cC bP]) a1.wf rfl rfl rfl rfl ij a1.get (Nat.le_of_ble_eq_true rfl) rfl rfl fun A110 a3=>?_);have f0:=a3.keep _ _ ad eX;have f1:=a3.keep _ _ bl eY;have c7:=a3.keep _ _ ba eZ;have dj:=dd.keep a3.keep fX;have dW:=ao dV (cg ab) c4 a3.n a3.keep;have e2:=ao e1 wf bY a3.n a3.keep;refine dG _ _<|.q Z (ae Z)<|.nil<|gF _ _<|.seq fun _ f2=>.region<|.q Z (ah Z)<|.q Z (aj Ve fU U Z)<|.q Z (ak gu Z Z c7 Z) ?_;have ai:=cd (bs:=[some h]) e2 (uD b2 px);have bA:=cd (bs:=[some h]) dW (uD (cn (by simp)) px);refine Ops.l Z (fun _ _ dI _=>au Z (vf (((bh ((g)) rs).getD i .zero).v) rs l h (((g))) u rv b8 ec eg en ev ex ey (A110.hide [some h]) A110 (cz A110 [some h]) (cg a3.wf) f0 (cn (by simp)) hs (hL.le ai) (hr.le ai) (hp.le ai) (aR.le bA)) ?_);rintro h1 A123 ⟨g5,cX,cZ,d0,d1,d2,d3,rfl,a7,a8,ac,bm,bO⟩;have dw:=bN (bs:=[some h]) f1 (rd ar m7);have cc:=a7.get _ _ dw;have dz:=bN (bs:=[some h]) c7 (rd a5.symm m7);have cf:=a7.get _ _ dz;have dD:=bN (bs:=[some h]) a3.get (rd ad.symm m7);have ch:=a7.get _ _ dD;have br:=dj.off (ks a2 kr) a7;have dk:=bm.base ai;have bB:=bA.trans a7;have bC:=ai.trans a7;refine dI _ _<|.q Z (ah Z)<|.q Z (aQ Z Z)<|.q Z (aQ Z Z)<|.l Z (fun _ _ dJ _=>cm a8 DT rfl fun A145 gX D=>?_);have aV:=ne_new a8 ac D.lo;have bb:=ne_new a8 cc D.lo;have b0:=ne_new a8 cf D.lo;have b1:=ne_new a8 ch D.lo;have ea:=br.own.ne_new a8 D.lo;have bL:=aW wf (Nat.le_trans bC.n D.lo);have bM:=aW (cg ab) (Nat.le_trans bB.n D.lo);have f3:=D.le.get _ _ ac;have f4:=D.le.get _ _ cc;have f5:=D.le.get _ _ cf;have f6:=D.le.get _ _ ch;have dl:=br.le D.le;have dm:=dk.le D.le;have e3:=bC.trans D.le;have dZ:=bB.trans D.le;refine dJ _ _ ?_;obtain ⟨cV,cF,bR,g4,_⟩:=dm.own.slice;subst g4;refine Ops.l Z (fun _ _ dK _=>be (cs:=[bg ((fw (eJ rs (((bh ((g)) rs).getD i .zero).v))).word),num (((fw (eJ rs (((bh ((g)) rs).getD i .zero).v))).steps:Nat):Int),.slice cV cF bR]) (c':=[bg ((fw (eJ rs (((bh ((g)) rs).getD i .zero).v))).word),num (((fw (eJ rs (((bh ((g)) rs).getD i .zero).v))).steps:Nat):Int),.slice cV cF bR]) D.wf rfl rfl rfl rfl ij D.get (Nat.le_of_ble_eq_true rfl) rfl rfl fun A161 a0=>?_);have f7:=a0.keep _ _ aV f3;have b5:=a0.keep _ _ bb f4;have f9:=a0.keep _ _ b0 f5;have fd:=a0.keep _ _ b1 f6;have dv:=dl.keep a0.keep ea;have e0:=ao dZ (cg ab) bM a0.n a0.keep;have aD:=ao e3 wf bL a0.n a0.keep;refine dK _ _<|.q Z (ae Z)<|.nil<|f2 _ _<|.seq fun _ fe=>.seq fun _ ck=>.region<|.q Z (ah Z)<|.q Z (eo Z)<|.q Z (ah Z) ?_;refine Ops.partB (t:=46) Z (fun g0=>?_) (fun g0=>?_)
  ·refine Ops.off Z Z Z Z<|.off Z Z Z Z<|.q Z (aJ Z Z)<|.nil<|ck _ _<|.cond_true Z<|.seq fun _ fi=>.region<|.q Z (dx Z (bH VR Ae Fx Z))<|.q Z (ae Z) ?_;refine Ops.l Z (fun _ _ dL _=>be (cs:=[num ((0:Nat):Int),num ((0:Nat):Int),bg ([]),bg ([]),bg ([])]) (c':=[num ((0:Nat):Int),num ((0:Nat):Int),bg ([]),bg ([]),bg ([])]) a0.wf rfl rfl rfl rfl jP b5 (Nat.le_of_ble_eq_true rfl) rfl rfl fun A180 aF=>?_);have e4:=ao aD wf aC aF.n aF.keep;refine dL _ _<|.q Z (ae Z)<|.nil<|fi _ _<|.ret ?_;repeat first | with_reducible refine bw ?_ | with_reducible refine bj ?_
   exact aE (fC Z (fa uz jP Z aF.get Z (fC Z gz))) (⟨by (rw [Df O hsc (by first | exact .inl ‹_› | exact .inr ‹_›)];rfl),e4,aF.wf⟩)
  refine Ops.on Z Z<|.q Z (ah Z)<|.on Z Z<|.q Z (eo Z)<|.q Z (aL Z Z)<|.nil<|ck _ _<|.ifB Z (fun g1=>?_) (fun g1=>?_)
  ·refine al.seq fun _ fl=>.region<|.q Z (dx Z (bH VR Ae Fx Z))<|.q Z (ae Z)<|.l Z (fun _ _ dM _=>be (cs:=[num ((0:Nat):Int),num ((0:Nat):Int),bg ([]),bg ([]),bg ([])]) (c':=[num ((0:Nat):Int),num ((0:Nat):Int),bg ([]),bg ([]),bg ([])]) a0.wf rfl rfl rfl rfl jP b5 (Nat.le_of_ble_eq_true rfl) rfl rfl fun A194 aG=>?_);have e5:=ao aD wf aC aG.n aG.keep;refine dM _ _<|.q Z (ae Z)<|.nil<|fl _ _<|.ret ?_;repeat first | with_reducible refine bw ?_ | with_reducible refine bj ?_
   exact aE (fC Z (fa uz jP Z aG.get Z (fC Z gz))) (⟨by (rw [Df O hsc (by first | exact .inl ‹_› | exact .inr ‹_›)];rfl),e5,aG.wf⟩)
  refine al.skip<|fe _ _<|.seq fun _ fm=>.region<|.q Z (aj ol fU U Z)<|.q Z (ak gu Z Z fd Z)<|.q Z (aj ol fU U Z)<|.q Z (ak gu Z Z a0.get Z)<|.q Z (pg Z Z)<|.nil ?_;refine fm _ _<|.if rfl (fun g2=>?_) (fun g2=>?_)
  ·refine al.seq fun _ fn=>.drawn [0,1,2,3] mixed Y Y Z<|.q Z Z Z (an uz jP Z Z f9 Z)<|.q Z Z Z (ae Z)<|.l Z Z Z (fun _ _ dO _=>be (cs:=[num (((bh ((g)) rs).getD i .zero).i),num (((bh ((g)) rs).getD i .zero).j),bg (((bh ((g)) rs).getD i .zero).word),bg (((bh ((g)) rs).getD i .zero).u),bg (((bh ((g)) rs).getD i .zero).v)]) (c':=[num (((bh ((g)) rs).getD i .zero).i),num (((bh ((g)) rs).getD i .zero).j),bg (((bh ((g)) rs).getD i .zero).word),bg (((bh ((g)) rs).getD i .zero).u),bg (((bh ((g)) rs).getD i .zero).v)]) a0.wf rfl rfl rfl rfl jP b5 (Nat.le_of_ble_eq_true rfl) rfl rfl fun A215 aI=>?_);have e6:=ao aD wf aC aI.n aI.keep;refine dO _ _ (aX.none Y)<|.q Z Z Z (ae Z)<|.done<|fn _ _<|.ret ?_;repeat first | with_reducible refine bw ?_ | with_reducible refine bj ?_
   exact aE (fC Z (fa uz jP Z aI.get Z (fC Z gz))) (⟨by (rw [QC O hsc ‹_› ‹_› ‹_›];rfl),e6,aI.wf⟩)
  refine al.skip<|gq _ _<|.region<|.q Z (bE (b:=1) Z Z O)<|.q Z (ah Z)<|.nil ?_;exact ⟨⟨i + 1,cX,cZ,d0,d1,d2,d3⟩,pw Z Z Z Z Z,Z,⟨⟨by omega,Lq O hsc ‹_› ‹_› ‹_›⟩,aD,dv,f7,b5,a2,aY,e0⟩,O1⟩
 refine al.exit<|gg _ _<|.seq fun _ fo=>.region<|.q Z (dx Z (bH VR Ae Fx Z))<|.q Z (ae Z)<|.l Z (fun _ _ dS _=>be (cs:=[num ((0:Nat):Int),num ((0:Nat):Int),bg ([]),bg ([]),bg ([])]) (c':=[num ((0:Nat):Int),num ((0:Nat):Int),bg ([]),bg ([]),bg ([])]) aZ rfl rfl rfl rfl jP ay (Nat.le_of_ble_eq_true rfl) rfl rfl fun A228 aP=>?_);have e7:=ao bp wf aC aP.n aP.keep;refine dS _ _<|.q Z (ae Z)<|.nil<|fo _ _<|.ret ?_;repeat first | with_reducible refine bw ?_ | with_reducible refine bj ?_
 exact aE (fC Z (fa uz jP Z aP.get Z (fC Z gz))) (⟨by (rw [QE O hsc];rfl),e7,aP.wf⟩)

theorem zO (g:Int) (u:Value) (l:List (List UInt8)) (rv:Value) (rs:List bf) (A:AH) (hn:l.length<=9223372036854775807) (hm:rs.length<=9223372036854775807) (hmx:bZ g l rs=true->(bh g rs).length<=50000) (hL:gO A) (hu:bI A 1 u (d6 l)) (hr:bI A 3 rv (dc rs)) (hp:Proofs A rs):bz Tryz.prog 28 #[.agg #[num (g),u,rv]] A (fun v A1=>v=.tuple #[.bool (ew g l rs).1,Se (ew g l rs).2.1,num (((ew g l rs).2.2:Nat):Int)]/\A.le A1/\A1.wf):=by
 refine ic Tryz.call28 Tryz.func28 Z Tryz.results28 Tryz.ntmps28 Z (fun wf=>?_);have aF:=AH.le.refl A;refine al.seq fun _ h2=>.region<|.l Z (fun _ _ aC _=>dP wf rfl rfl fun A5 b4 a4=>?_);have a9:=aF.trans a4.le;refine aC _ _<|.q Z (ae Z)<|.l Z (fun _ _ aD _=>cm a4.wf Ae rfl fun A10 b9 X=>?_);have a2:=aW wf (Nat.le_trans a9.n X.lo);have a7:=X.le.get _ _ a4.get;have D:=a9.trans X.le;refine aD _ _<|.q Z (ae Z)<|.nil<|h2 _ _<|.seq fun _ ar=>.seq fun _ av=>.region<|.q Z (an fp eO Z Z a7 Z)<|.l Z (fun _ _ aa _=>au Z (j7 ((g)) u l rv rs A10 hn hm (hL.le D) (hu.le D) (hr.le D) (hp.le D)) ?_);rintro aI A20 ⟨rfl,V,a5⟩;have ay:=V.get _ _ a7;have a8:=V.get _ _ X.get;have h:=D.trans V;refine aa _ _<|.q Z (eo Z)<|.nil<|av _ _<|.ifB Z (fun aG=>?_) (fun aG=>?_)
 ·refine al.seq fun _ az=>.region<|.q Z (dx Z (bH VR Ae Fx Z))<|.q Z (ae Z)<|.l Z (fun _ _ ab _=>be (cs:=[num ((0:Nat):Int),num ((0:Nat):Int),bg ([]),bg ([]),bg ([])]) (c':=[num ((0:Nat):Int),num ((0:Nat):Int),bg ([]),bg ([]),bg ([])]) a5 rfl rfl rfl rfl jP a8 (Nat.le_of_ble_eq_true rfl) rfl rfl fun A29 a0=>?_);have ag:=ao h wf a2 a0.n a0.keep;refine ab _ _<|.q Z (ae Z)<|.nil<|az _ _<|.ret ?_;repeat first | with_reducible refine bw ?_ | with_reducible refine bj ?_
  exact aE (fC Z (fa uz jP Z a0.get Z (fC Z gz))) (⟨by (rw [R5 ‹_›];rfl),ag,a0.wf⟩)
 refine al.skip<|ar _ _<|.seq fun _ aA=>.region<|.q Z (an fp eO Z Z ay Z)<|.l Z (fun _ _ ac _=>au Z (Uc ((g)) u l rv rs A20 (by simpa using ‹(!bZ g l rs)=false›) (hmx (by simpa using ‹(!bZ g l rs)=false›)) (hL.le h) (hu.le h) (hr.le h) (hp.le h)) ?_);rintro aP A37 ⟨rfl,a3,a6⟩;have aB:=a3.get _ _ a8;have ai:=h.trans a3;refine ac _ _<|.q Z (aQ Z Z)<|.q Z (aQ Z Z)<|.q Z (aQ Z Z)<|.q Z (ae Z)<|.l Z (fun _ _ ad _=>be (cs:=[num ((gb rs (bh ((g)) rs)).2.1.i),num ((gb rs (bh ((g)) rs)).2.1.j),bg ((gb rs (bh ((g)) rs)).2.1.word),bg ((gb rs (bh ((g)) rs)).2.1.u),bg ((gb rs (bh ((g)) rs)).2.1.v)]) (c':=[num ((gb rs (bh ((g)) rs)).2.1.i),num ((gb rs (bh ((g)) rs)).2.1.j),bg ((gb rs (bh ((g)) rs)).2.1.word),bg ((gb rs (bh ((g)) rs)).2.1.u),bg ((gb rs (bh ((g)) rs)).2.1.v)]) a6 rfl rfl rfl rfl jP aB (Nat.le_of_ble_eq_true rfl) rfl rfl fun A43 a1=>?_);have ap:=ao ai wf a2 a1.n a1.keep;refine ad _ _<|.q Z (ae Z)<|.nil<|aA _ _<|.ret ?_;repeat first | with_reducible refine bw ?_ | with_reducible refine bj ?_
 exact aE (fC Z (fa uz jP Z a1.get Z (fC Z gz))) (⟨by (rw [R8 ‹_›];rfl),ap,a1.wf⟩)

theorem I9 (g:Int) (u:Value) (l:List (List UInt8)) (rv:Value) (rs:List bf) (A:AH) (hn:l.length<=9223372036854775807) (hm:rs.length<=9223372036854775807) (hmx:bZ g l rs=true->(bh g rs).length<=50000) (hL:gO A) (hu:bI A 1 u (d6 l)) (hr:bI A 3 rv (dc rs)) (hp:Proofs A rs):bz Tryz.prog 30 #[.agg #[num (g),u,rv]] A (fun v A1=>v=.tuple #[.bool (ja g l rs).1,num (((ja g l rs).2:Nat):Int)]/\A.le A1/\A1.wf):=by
 refine ic Tryz.call30 Tryz.func30 Z Tryz.results30 Tryz.ntmps30 Z (fun wf=>?_);have d2:=AH.le.refl A;refine al.seq fun _ h2=>.region<|.l Z (fun _ _ d0 _=>dP wf rfl rfl fun A5 b4 b6=>?_);have ab:=d2.trans b6.le;refine d0 _ _<|.q Z (ae Z)<|.q Z (ae Z)<|.nil<|h2 _ _<|.seq fun _ h9=>.region<|.q Z (an fp eO Z Z b6.get Z)<|.l Z (fun _ _ bB _=>au Z (zO ((g)) u l rv rs A5 hn hm hmx (hL.le ab) (hu.le ab) (hr.le ab) (hp.le ab)) ?_);rintro dL A12 ⟨rfl,ai,ay⟩;have bc:=ai.get _ _ b6.get;have b2:=ab.trans ai;refine bB _ _<|.q Z (ah Z)<|.q Z (aQ Z Z)<|.q Z (aQ Z Z)<|.q Z (aQ Z Z)<|.l Z (fun _ _ bC _=>cm ay Ae rfl fun A18 bV a3=>?_);have ac:=ne_new ay bc a3.lo;have aS:=aW wf (Nat.le_trans b2.n a3.lo);have c4:=a3.le.get _ _ bc;have bS:=b2.trans a3.le;refine bC _ _<|.q Z (ae Z)<|.l Z (fun _ _ bD _=>be (cs:=[num ((ew ((g)) l rs).2.1.i),num ((ew ((g)) l rs).2.1.j),bg ((ew ((g)) l rs).2.1.word),bg ((ew ((g)) l rs).2.1.u),bg ((ew ((g)) l rs).2.1.v)]) (c':=[num ((ew ((g)) l rs).2.1.i),num ((ew ((g)) l rs).2.1.j),bg ((ew ((g)) l rs).2.1.word),bg ((ew ((g)) l rs).2.1.u),bg ((ew ((g)) l rs).2.1.v)]) a3.wf rfl rfl rfl rfl jP a3.get (Nat.le_of_ble_eq_true rfl) rfl rfl fun A23 a5=>?_);have aY:=a5.keep _ _ ac c4;have a2:=ao bS wf aS a5.n a5.keep;refine bD _ _<|.q Z (ae Z)<|.nil<|h9 _ _<|.seq fun _ c7=>.seq fun _ cc=>.region<|.q Z (ah Z)<|.q Z (fh (b:=0) Z Z)<|.nil ?_;refine cc _ _<|.if rfl (fun d3=>?_) (fun d3=>?_)
 ·refine al.seq fun _ cf=>.region<|.q Z (ah Z)<|.q Z (ae Z)<|.q Z (ae Z)<|.nil<|cf _ _<|.rt (by exact aE Z (⟨by (rw [MN ‹_›];rfl),a2,a5.wf⟩))
 refine al.skip<|c7 _ _<|.seq fun _ ch=>.region<|.q Z (an fp eO Z Z aY Z)<|.l Z (fun _ _ bL _=>au Z (qf ((g)) u l rv rs A23 (sX (qz ‹_›)) (wU (qz ‹_›)) (hu.le a2) (hr.le a2) (hp.le a2)) ?_);rintro dM A38 ⟨h,av,rfl,ap,az,a7,a0,a9⟩;have ck:=ap.get _ _ aY;have b3:=a2.trans ap;have hrow:=a7;have hno:=a0;have hix:=a9;have ba:b4 ≠ h:=fun z=>by have q0:=aY;rw [z,a0] at q0;cases q0
 have b8:bV ≠ h:=fun z=>by have q0:=a5.get;rw [z,a0] at q0;cases q0
 have aR:=sy a2 a0;refine bL _ _<|.q Z (ae Z)<|.nil<|ch _ _<|.seq fun _ cv=>.region<|.q Z (ae Z)<|.nil<|cv _ _<|.seq fun _ cA=>?_;refine al.seq fun _ cC=>.region<|.q Z (aj gj fK U Z)<|.q Z (aj gV oO U Z)<|.q Z (ak n0 Z Z ck Z)<|.q Z (bF (n:=l.length) mh Z (hu.le b3) O (eb _))<|.q Z (ah Z)<|.nil<|cC _ _<|.block ?_;refine al.loop (X:=Nat × Bool × Value × Value × Value × Value × Value × Value) (fun ⟨i,t,y0,y5,y6,y7,y8,y9⟩=>[(4,.bool ((ew ((g)) l rs).1)),(7,.pointer (some ⟨h,0,none⟩)),(8,.bool (t)),(26,u),(27,num ((l.length:Nat):Int)),(28,num ((i:Nat):Int))]) (fun ⟨i,t,y0,y5,y6,y7,y8,y9⟩ B=>(i<=l.length/\jJ rs t (l.drop i)=jJ rs true l)/\A.le B/\B.get h=some (.row true [y0,num ((g)),u,rv,.map (some av),y5,y6,y7,y8,y9] 10)/\(A38.hide [some h]).le B) (fun ⟨i,t,y0,y5,y6,y7,y8,y9⟩=>l.length - i) (⟨0,true,.slice none 0 0,.slice none 0 0,num ((0:Nat):Int),bg ([]),num ((0:Nat):Int),.slice none 0 0⟩) (Il Z Z Z Z Z Z) (⟨⟨Nat.zero_le _,Z⟩,b3,a7,(cz A38 [some h])⟩) ?_;rintro ⟨i,t,y0,y5,y6,y7,y8,y9⟩ B50 ⟨⟨hi,hsc⟩,a8,aa,b9⟩;refine al.wf fun ag=>.seq fun _ cF=>.region<|.q Z (bX Z Z)<|.nil<|cF _ _<|.seq fun _ cH=>.if rfl (fun dd=>?_) (fun dd=>?_)
 ·refine al.skip<|cH _ _<|.seq fun _ bd=>.block<|.seq fun _ cK=>.region ?_;obtain ⟨dz,dG,dw,dK,dv,dJ,dI,bY,d1,c3,dm,bu⟩:=bI.at (i:=i) (hu.le a8) Ok O;refine Ops.q Z (aH mh fU Z bY Z d1)<|.q Z (ak gu Z Z c3 ((cQ bu).trans (eM O)))<|.q Z (ae Z)<|.nil<|cK _ _<|.seq fun _ cP=>.region<|.q Z (ah Z)<|.q Z (ah Z) ?_;have a4:=cd (bs:=[some h]) a8 (uD aR px);have aZ:=cd (bs:=[some h]) b9 (uD (cn (by simp)) px);refine Ops.l Z (fun _ _ bM _=>au Z (vf (l.getD i []) rs l h (((g))) u rv av y0 y5 y6 y7 y8 y9 (B50.hide [some h]) B50 (cz B50 [some h]) (cg ag) aa (cn (by simp)) (qz ‹_›) (hL.le a4) (hr.le a4) (hp.le a4) (a9.le aZ)) ?_);rintro dO A66 ⟨dl,aB,aC,aD,aF,aG,aI,rfl,ar,aA,a1,aP,b7⟩;have bv:=aP.base a4;have b0:=aZ.trans ar;have b5:=a4.trans ar;refine bM _ _<|.q Z (ah Z)<|.q Z (aQ Z Z)<|.q Z (aQ Z Z)<|.l Z (fun _ _ bO _=>cm aA DT rfl fun A75 dD D=>?_);have a6:=ne_new aA a1 D.lo;have aT:=aW wf (Nat.le_trans b5.n D.lo);have aV:=aW (cg az) (Nat.le_trans b0.n D.lo);have cS:=D.le.get _ _ a1;have bA:=bv.le D.le;have bT:=b5.trans D.le;have bR:=b0.trans D.le;refine bO _ _ ?_;obtain ⟨br,bp,bb,dk,_⟩:=bA.own.slice;subst dk;refine Ops.l Z (fun _ _ bP _=>be (cs:=[bg ((fw (eJ rs (l.getD i []))).word),num (((fw (eJ rs (l.getD i []))).steps:Nat):Int),.slice br bp bb]) (c':=[bg ((fw (eJ rs (l.getD i []))).word),num (((fw (eJ rs (l.getD i []))).steps:Nat):Int),.slice br bp bb]) D.wf rfl rfl rfl rfl ij D.get (Nat.le_of_ble_eq_true rfl) rfl rfl fun A84 V=>?_);have bl:=V.keep _ _ a6 cS;have b1:=ao bR (cg az) aV V.n V.keep;have ad:=ao bT wf aT V.n V.keep;refine bP _ _<|.q Z (ae Z)<|.nil<|cP _ _<|.seq fun _ cV=>.seq fun _ cX=>.region<|.q Z (ah Z)<|.q Z (eo Z)<|.nil ?_;refine cX _ _<|.ifB Z (fun di=>?_) (fun di=>?_)
  ·refine al.seq fun _ cZ=>.region<|.q Z (ae Z)<|.q Z (ae Z)<|.nil<|cZ _ _<|.rt (by exact aE Z (⟨by (rw [MO ‹_› (Ln O hsc ‹_›)];rfl),ad,V.wf⟩))
  refine al.skip<|cV _ _<|.region<|.q Z (ah Z)<|.q Z (ah Z)<|.partB (t:=41) Z (fun dj=>?_) (fun dj=>?_)
  ·refine Ops.on Z Z<|.q Z (aj ol fU U Z)<|.on Z Z<|.q Z (ak gu Z Z V.get Z)<|.on Z Z<|.q Z (pb Z Z)<|.q Z (aJ Z Z)<|.q Z (ae Z)<|.nil<|bd _ _ ?_;refine al.region<|.q Z (bE (b:=1) Z Z O)<|.q Z (ah Z)<|.nil ?_;exact ⟨⟨i + 1,decide ((fw (eJ rs (l.getD i []))).word=[]),aB,aC,aD,aF,aG,aI⟩,Il Z Z Z Z Z Z,Z,⟨⟨by omega,by have:=wQ O hsc ‹_›;simp_all⟩,ad,bl,b1⟩,O1⟩
  refine Ops.off Z Z Z Z<|.off Z Z Z Z<|.off Z Z Z Z<|.q Z (aL Z Z)<|.q Z (ae Z)<|.nil<|bd _ _<|.region<|.q Z (bE (b:=1) Z Z O)<|.q Z (ah Z) ?_;refine Ops.nil ?_;exact ⟨⟨i + 1,false,aB,aC,aD,aF,aG,aI⟩,Il Z Z Z Z Z Z,Z,⟨⟨by omega,by have:=wQ O hsc ‹_›;simp_all⟩,ad,bl,b1⟩,O1⟩
 refine al.exit<|cA _ _<|.seq fun _ bm=>.region<|.q Z (ah Z)<|.q Z (ah Z)<|.partB (t:=48) Z (fun bU=>?_) (fun bU=>?_)
 ·refine Ops.on Z Z<|.q Z (ah Z)<|.q Z (aJ Z Z)<|.q Z (ae Z)<|.q Z (ae Z)<|.nil<|bm _ _<|.rt (by exact aE Z (⟨by (rw [AO ‹_› (yA O hsc)];simp_all [dX]),a8,ag⟩))
 refine Ops.off Z Z Z Z<|.q Z (aL Z Z)<|.q Z (ae Z)<|.q Z (ae Z)<|.nil<|bm _ _<|.rt (by exact aE Z (⟨by (rw [AO ‹_› (yA O hsc)];simp_all [dX]),a8,ag⟩))
end Go.Proofs.YtjppkekmddjcfaaGreatDoor

namespace Go.Proofs.YtjppkekmddjcfaaGreatDoor
open Go Go.RowKit V
def er (l:List Value):List Value:=l
theorem cl (l:List Value):(er l).length=l.length:=rfl
theorem i3 (l:List Value):(er l).length=l.length * 1:=by simp [er]
theorem eK {l:List Value} {i:Nat} (h:i < l.length):(er l)[i]? = some (l.getD i undef):=by simp [er,h]
theorem qc (a b:List Value):er a ++ er b=er (a ++ b):=rfl
theorem Po (a:List Value) (n:Nat) (c:Value):(er a).set n c=er (a.set n c):=rfl
structure im {α:Type} (kk:Nat) (f:List α->List Value) (A0 A:AH) (rows:List Value) (L:List (List α)):Prop where
  len:rows.length=L.length
  fr:∀ i,i < L.length->Fresh A0 A (rows.getD i undef) kk (f (L.getD i []))
  sp:∀ i j,i < L.length->j < L.length->i ≠ j->bn (rows.getD i undef) (rows.getD j undef)
abbrev kY (A0 A:AH) (rows:List Value) (L:List (List Int)):Prop:=im 1 cN A0 A rows L
def dH (rows:List Value) (b:Nat):Prop:=∀ r ∈ rows,blk r ≠ some b
def aK (v:Value) (rows:List Value):Prop:=∀ r ∈ rows,bn v r
theorem m4 {A0 A:AH} {rows:List Value} {L L':List (List Int)} (h:kY A0 A rows L) (e:L=L'):kY A0 A rows L':=e ▸ h
theorem _root_.Go.Proofs.YtjppkekmddjcfaaGreatDoor.V.Fresh.at1 {A0 A:AH} {v:Value} {xs:List Value} {x:Nat} (fr:Fresh A0 A v 1 xs) (hx:x < xs.length):∃ b n c r rcap,v=.slice (some ⟨b,0,none⟩) n c/\n=xs.length/\A.get b=some (.row true r rcap)/\x < r.length/\A0.get b=none/\r.take n=xs /\
    ∀ (w:Value) A1,uy A A1 b (.row true (r.set x w) rcap)->Fresh A0 A1 v 1 (xs.set x w):=by
  obtain ⟨b,n,c,e,h1,h2⟩:=fr.nonnil (by intro q;rw [q] at hx;simp at hx)
  have lo:=fr.lo b (by rw [e];rfl)
  subst e
  obtain ⟨r,rcap,g,h3,h4⟩:=fr.row
  rw [Nat.mul_one] at h1 h3
  have hl:n<=r.length:=by have:=congrArg List.length h3;rw [List.length_take] at this;omega
  exact ⟨b,n,c,r,rcap,rfl,h1,g,by omega,lo,h3,fun w A1 sb=>fr.setc g sb⟩
section
variable {A0 A A1:AH} {rows:List Value} {α:Type} {kk:Nat} {f:List α->List Value} {L:List (List α)} {b s x:Nat} {v v':Value} {size:Nat} {xs:List Value} {r:List α} {o:fG}
theorem nG {p:Value->Prop} (hl:rows.length=L.length) (h:∀ i,i < L.length->p (rows.getD i undef)):∀ r ∈ rows,p r:=fun r hr=>by
  obtain ⟨i,hi,rfl⟩:=List.getElem_of_mem hr
  have:=h i O
  simpa [hi] using this
theorem ef {p:Value->Prop} (h:∀ r ∈ rows,p r) (hi:s < rows.length):p (rows.getD s undef):=h _ (bi (d:=undef) hi)
theorem im.nil:im kk f A0 A [] []:=⟨rfl,(fun _ h=>by cases h),(fun _ _ h=>by cases h)⟩
theorem im.le (h:im kk f A0 A rows L) (le:A.le A1):im kk f A0 A1 rows L:=⟨h.len,fun i hi=>(h.fr i hi).le le,h.sp⟩
theorem im.base {M:AH} (h:im kk f M A rows L) (le:A0.le M):im kk f A0 A rows L:=⟨h.len,fun i hi=>(h.fr i hi).base le,h.sp⟩
theorem im.keep (h:im kk f A0 A rows L) (k:∀ b' o,b' ≠ b->A.get b'=some o->A1.get b'=some o) (n:dH rows b):im kk f A0 A1 rows L :=
  ⟨h.len,fun i hi=>(h.fr i hi).keep k (ef n (by rw [h.len];exact hi)),h.sp⟩
theorem im.appd {zs:List Value} {n:Nat} (h:im kk f A0 A rows L) (ap:mW A v n zs v' A1) (hs:aK v rows):im kk f A0 A1 rows L :=
  ⟨h.len,fun i hi=>(h.fr i hi).appd ap (ef hs (by rw [h.len];exact hi)),h.sp⟩
theorem aK.nil:aK (.slice none 0 0) rows:=fun _ _=>bn.nil
theorem aK.empty:aK v []:=fun _ h=>by cases h
theorem aK.appd {zs:List Value} {n:Nat} (hs:aK v rows) (h:im kk f A0 A rows L) (wf:A.wf) (ap:mW A v n zs v' A1):aK v' rows :=
  nG h.len fun i hi=>bn.appd (ef hs (by rw [h.len];exact hi)) (h.fr i hi).own wf ap
theorem aK.new {n c:Nat} (h:dH rows b):aK (.slice (some ⟨b,0,none⟩) n c) rows:=fun r hr k hk hq=>by cases hk;exact h r hr hq
theorem aK.fresh {n:Nat} (h:im kk f A0 A rows L) (fr:Fresh A A1 v n xs):aK v rows:=nG h.len fun i hi c hv hc=>by
  obtain ⟨o,ho⟩:=(h.fr i hi).own.blkget hc
  rw [fr.lo c hv] at ho;cases ho
theorem im.ne_new (h:im kk f A0 A rows L) (wf:A.wf) (hb:A.n<=b):dH rows b:=nG h.len fun i hi=>(h.fr i hi).own.ne_new wf hb
theorem im.ne (h:im kk f A0 A rows L) (hb:A0.get b=some o):dH rows b:=nG h.len fun i hi=>(h.fr i hi).seph hb
theorem dH.snoc (h:dH rows b) (hv:V.blk v ≠ some b):dH (rows ++ [v]) b:=fun r hr=>by
  rcases List.mem_append.1 hr with q | q
  · exact h r q
  · rw [List.mem_singleton] at q;subst q;exact hv
theorem aK.snoc {u:Value} (h:aK u rows) (hv:bn u v):aK u (rows ++ [v]):=fun r hr=>by
  rcases List.mem_append.1 hr with q | q
  · exact h r q
  · rw [List.mem_singleton] at q;subst q;exact hv
theorem im.snoc (h:im kk f A0 A rows L) (fr:Fresh A0 A v kk (f r)) (hs:aK v rows):im kk f A0 A (rows ++ [v]) (L ++ [r]):=by
  have e1:∀ i,i < L.length->(rows ++ [v]).getD i undef=rows.getD i undef:=fun i hi=>by simp [List.getElem?_append_left (show i < rows.length by rw [h.len];exact hi)]
  have e2:(rows ++ [v]).getD L.length undef=v:=by rw [<- h.len];simp
  have e3:∀ i,i < L.length->(L ++ [r]).getD i []=L.getD i []:=fun i hi=>by simp [List.getElem?_append_left hi]
  have e4:(L ++ [r]).getD L.length []=r:=by simp
  refine ⟨by simp [h.len],fun i hi=>?_,fun i j hi hj hij=>?_⟩
  · rcases Nat.lt_or_ge i L.length with q | q
    · rw [e1 i q,e3 i q];exact h.fr i q
    · obtain rfl:i=L.length:=by simp at hi;omega
      rw [e2,e4];exact fr
  · rcases Nat.lt_or_ge i L.length with q | q
    · rcases Nat.lt_or_ge j L.length with q2 | q2
      · rw [e1 i q,e1 j q2];exact h.sp i j q q2 hij
      · obtain rfl:j=L.length:=by simp at hj;omega
        rw [e1 i q,e2];exact (ef hs (by rw [h.len];exact q)).symm
    · obtain rfl:i=L.length:=by simp at hi;omega
      rcases Nat.lt_or_ge j L.length with q2 | q2
      · rw [e2,e1 j q2];exact ef hs (by rw [h.len];exact q2)
      · obtain rfl:j=L.length:=by simp at hj;omega
        exact absurd Z hij
theorem im.hideAll {l:List (Option Nat)} (h:im kk f A0 A rows L):im kk f (A.hide (l ++ rows.map V.blk)) A rows L :=
  ⟨h.len,fun i hi=>(h.fr i hi).hide (List.mem_append.2 (.inr (List.mem_map.2 ⟨_,bi (d:=undef) (by rw [h.len];exact hi),rfl⟩))),h.sp⟩
theorem EM {l:List (Option Nat)} (t:∀ b,some b ∈ l->A0.get b=none) (h:im kk f A0 A rows L):∀ b,some b ∈ l ++ rows.map V.blk->A0.get b=none:=fun b hb=>by
  rcases List.mem_append.1 hb with q | q
  · exact t b q
  · obtain ⟨r,hr,e⟩:=List.mem_map.1 q
    exact nG (p:=fun r=>∀ b,V.blk r=some b->A0.get b=none) h.len (fun i hi=>(h.fr i hi).lo) r hr b e
theorem zw {l:List (Option Nat)} {k:Nat} (t:some k ∉ l) (h:dH rows k):some k ∉ l ++ rows.map V.blk:=fun hb=>by
  rcases List.mem_append.1 hb with q | q
  · exact t q
  · obtain ⟨r,hr,e⟩:=List.mem_map.1 q
    exact h r hr e
theorem mC {l:List (Option Nat)} {u:Value} (t:LR u l) (h:aK u rows):LR u (l ++ rows.map V.blk):=fun c hc hb=>by
  rcases List.mem_append.1 hb with q | q
  · exact t c hc q
  · obtain ⟨r,hr,e⟩:=List.mem_map.1 q
    exact h r hr c hc e
theorem im.sepOff {bs:List (Option Nat)} {u:Value} {n:Nat} (h:im kk f (A.hide bs) A1 rows L) (hu:pu A u n xs) (o:LR u bs):aK u rows:=nG h.len fun i hi=>((h.fr i hi).sep hu o).symm
theorem JO {k i:Nat} (h:i < k):(List.replicate i (-1:Int) ++ List.replicate (k - i) 0).set i (-1)=List.replicate (i + 1) (-1) ++ List.replicate (k - (i + 1)) 0:=by
  rw [List.set_append_right _ _ (by simp),List.length_replicate,Nat.sub_self,show k - i=(k - (i + 1)) + 1 by omega,List.replicate_succ,List.set_cons_zero,List.replicate_succ' (n:=i)]
  simp
theorem su {α β:Type} (f:α->β) {l:List α} {i:Nat} {z:α} (h:i < l.length):(l.take i).map f ++ [f (l.getD i z)]=(l.take (i + 1)).map f:=by
  rw [<- f8 (z:=z) h,List.map_append];rfl
theorem d7 {α:Type} {l:List α} {i j:Nat} {a d:α} (hi:i < l.length):(l.set i a).getD j d=if j=i then a else l.getD j d:=by
  simp only [List.getD_eq_getElem?_getD,List.getElem?_set]
  by_cases h:i=j
  · subst h;simp [hi]
  · rw [if_neg h,if_neg (fun q=>h q.symm)]
theorem Dh {n:Nat} {u:Value}:aK u (List.replicate n (.slice none 0 0)):=fun r hr=>by rw [(List.mem_replicate.1 hr).2];exact bn.nil.symm
theorem SL {r:Value} (h:r ∈ rows.set s v):r ∈ rows\/r=v:=List.mem_or_eq_of_mem_set h
theorem F8 {u:Value} (h:aK u rows) (hv:bn u v):aK u (rows.set s v):=fun r hr=>by
  rcases SL hr with q | q
  · exact h r q
  · subst q;exact hv
end
section
variable {A0 A A1:AH} {rows:List Value} {L:List (List Int)} {b s x:Nat} {v v':Value} {size:Nat} {xs:List Value} {r:List Int} {o:fG}
theorem im.nils {n:Nat}:kY A0 A (List.replicate n (.slice none 0 0)) (List.replicate n []):=by
  have e:∀ i,i < n->(List.replicate n (Value.slice none 0 0)).getD i undef=.slice none 0 0:=fun i hi=>by simp [hi]
  refine ⟨by simp,fun i hi=>?_,fun i j hi hj _=>?_⟩
  · rw [List.length_replicate] at hi
    rw [e i hi,show (List.replicate n ([]:List Int)).getD i []=[] by simp [hi]]
    exact Fresh.nil _ _ _
  · rw [List.length_replicate] at hi
    rw [e i hi];exact bn.nil
theorem im.appRow {y:List Int} (h:kY A0 A rows L) (wf:A.wf) (hs:s < L.length) (ap:mW A (rows.getD s undef) 1 (cN y) v A1) (fr:Fresh A0 A1 v 1 (cN y)):kY A0 A1 (rows.set s v) (L.set s y):=by
  have hsr:s < rows.length:=by rw [h.len];exact hs
  refine ⟨by simp [h.len],fun i hi=>?_,fun i j hi hj hij=>?_⟩
  · rw [d7 hsr,d7 hs]
    rw [List.length_set] at hi
    split
    · exact fr
    · rename_i q;exact (h.fr i hi).appd ap (h.sp s i hs hi (fun z=>q z.symm))
  · rw [List.length_set] at hi hj
    rw [d7 hsr,d7 hsr]
    have key:∀ i,i < L.length->i ≠ s->bn v (rows.getD i undef):=fun i hi q=>bn.appd (h.sp s i hs hi (fun z=>q z.symm)) (h.fr i hi).own wf ap
    by_cases q1:i=s
    · rw [if_pos q1,if_neg (fun z=>hij (q1.trans z.symm))]
      exact key j hj (fun z=>hij (q1.trans z.symm))
    · rw [if_neg q1]
      by_cases q2:j=s
      · rw [if_pos q2];exact (key i hi q1).symm
      · rw [if_neg q2];exact h.sp i j hi hj hij
theorem im.at (h:kY A0 A rows L) (hs:s < L.length) (hx:x < (L.getD s []).length):∃ b n c r rcap,rows.getD s undef=.slice (some ⟨b,0,none⟩) n c/\n=(L.getD s []).length/\A.get b=some (.row true r rcap)/\x < r.length/\A0.get b=none/\r.take n=cN (L.getD s []) /\
    ∀ (i:Int) A1,uy A A1 b (.row true (r.set x (num i)) rcap)->kY A0 A1 rows (L.set s ((L.getD s []).set x i)):=by
  have fr:=h.fr s hs
  obtain ⟨b,n,c,e,h1,h2⟩:=fr.nonnil (by intro q;have:=congrArg List.length q;rw [ax,List.length_nil] at this;omega)
  have lo:=fr.lo b (by rw [e];rfl)
  have fr':=fr
  rw [e] at fr'
  obtain ⟨r,rcap,g,h3,h4⟩:=fr'.row
  rw [Nat.mul_one,ax] at h1
  rw [Nat.mul_one] at h3
  have hl:n<=r.length:=by have:=congrArg List.length h3;rw [List.length_take,ax] at this;omega
  refine ⟨b,n,c,r,rcap,e,h1,g,by omega,lo,h3,fun i A1 sb=>⟨by simpa using h.len,fun j hj=>?_,fun j k hj hk=>h.sp j k (by simpa using hj) (by simpa using hk)⟩⟩
  rw [d7 hs]
  by_cases q:j=s
  · subst q
    rw [if_pos Z,e]
    have:=fr'.setc (w:=num i) (i:=x) g sb
    rwa [iy] at this
  · rw [if_neg q]
    have hj':j < L.length:=by simpa using hj
    exact (h.fr j hj').keep sb.keep (fun z=>h.sp s j hs hj' (fun w=>q w.symm) b (by rw [e];rfl) z)
end
theorem kY.len {A0 A:AH} {rows:List Value} {L:List (List Int)} (h:kY A0 A rows L):rows.length=L.length:=im.len h
theorem kY.nil {A0 A:AH}:kY A0 A [] []:=im.nil
theorem kY.nils {A0 A:AH} {n:Nat}:kY A0 A (List.replicate n (.slice none 0 0)) (List.replicate n []):=im.nils
end Go.Proofs.YtjppkekmddjcfaaGreatDoor

namespace Go.Proofs.YtjppkekmddjcfaaGreatDoor
open Go Go.RowKit V
structure DP (k:Nat) (L:List (List Int)) (E:List Bool):Prop where
  len:E.length=L.length
  row:∀ s,s < L.length->(L.getD s []).length=k
  val:∀ s x,s < L.length->x < k->-1<=(L.getD s []).getD x 0/\(L.getD s []).getD x 0 < L.length
abbrev DR (k:Nat):List Int:=List.replicate k (-1)
abbrev grow (k:Nat) (L:List (List Int)) (s x:Nat):List (List Int):=(L ++ [DR k]).set s (((L ++ [DR k]).getD s []).set x (L.length:Int))
def Dr (k:Nat) (t:List (List Int) × List Bool × Nat) (x:Int):List (List Int) × List Bool × Nat :=
  if (t.1.getD t.2.2 []).getD x.toNat 0 < 0 then (grow k t.1 t.2.2 x.toNat,t.2.1 ++ [false],t.1.length) else (t.1,t.2.1,((t.1.getD t.2.2 []).getD x.toNat 0).toNat)
def oG (k:Nat) (L:List (List Int)) (E:List Bool) (xs:List Int):List (List Int) × List Bool × Nat:=xs.foldl (Dr k) (L,E,0)
def xo (k:Nat) (L:List (List Int)) (E:List Bool) (w:Wd):List (List Int):=(oG k L E (w.map ix)).1
def xm (k:Nat) (L:List (List Int)) (E:List Bool) (w:Wd):List Bool:=(oG k L E (w.map ix)).2.1.set (oG k L E (w.map ix)).2.2 true
section
variable {k s x i:Nat} {L L1:List (List Int)} {E E1:List Bool} {xs:List Int} {d:Int}
theorem kj {α:Type} {l m:List α} {i:Nat} {z:α} (h:i < l.length):(l ++ m).getD i z=l.getD i z:=by simp [List.getElem?_append_left h]
theorem jB:(grow k L s x).length=L.length + 1:=by simp
theorem uY (h:DP k L E) (hs:s < L.length) (hx:x < k) {j y:Nat} (hj:j < L.length + 1):(grow k L s x).getD j []=if j=s then (L.getD s []).set x L.length else if j < L.length then L.getD j [] else DR k:=by
  rw [grow,d7 Ow,kj hs]
  by_cases h1:j=s
  · rw [if_pos h1,if_pos h1]
  · rw [if_neg h1,if_neg h1]
    by_cases h2:j < L.length
    · rw [if_pos h2,kj h2]
    · rw [if_neg h2,show j=L.length by omega];simp
theorem zh (h:DP k L E) (hs:s < L.length) (hx:x < k):DP k (grow k L s x) (E ++ [false]):=by
  refine ⟨by rw [jB];simp [h.len],fun j hj=>?_,fun j y hj hy=>?_⟩
  · rw [jB] at hj
    rw [uY (y:=0) h hs hx hj]
    split
    · rw [List.length_set];exact h.row s hs
    · split
      · exact h.row j ‹_›
      · exact List.length_replicate
  · rw [jB] at hj
    rw [uY (y:=0) h hs hx hj,jB]
    have h0:=h.row s hs
    split
    · rw [d7 (by rw [h0];exact hx)]
      split
      · omega
      · have:=h.val s y hs hy;omega
    · split
      · have:=h.val j y ‹_› hy;omega
      · have:(DR k).getD y 0 = -1:=by simp [hy]
        rw [this];omega
theorem vR (h:DP k L E) (hs:s < L.length) (hx:x < k):((grow k L s x).getD s []).getD x 0=(L.length:Int):=by
  rw [uY (y:=0) h hs hx O,if_pos Z,d7 (by rw [h.row s hs];exact hx),if_pos Z]
theorem yn {t:List (List Int) × List Bool × Nat} (hi:i < xs.length) (h:oG k L E (xs.take i)=t):oG k L E (xs.take (i + 1))=Dr k t (xs.getD i 0):=by
  rw [<- f8 (z:=0) hi,oG,List.foldl_append]
  show Dr k (oG k L E (xs.take i)) _=_
  rw [h]
theorem CT (hi:i < xs.length) (h:oG k L E (xs.take i)=(L1,E1,s)) (q:(L1.getD s []).getD (xs.getD i 0).toNat 0 < 0):oG k L E (xs.take (i + 1))=(grow k L1 s (xs.getD i 0).toNat,E1 ++ [false],L1.length):=by
  rw [yn hi h,Dr,if_pos q]
theorem CU (hi:i < xs.length) (h:oG k L E (xs.take i)=(L1,E1,s)) (q:¬ (L1.getD s []).getD (xs.getD i 0).toNat 0 < 0):oG k L E (xs.take (i + 1))=(L1,E1,((L1.getD s []).getD (xs.getD i 0).toNat 0).toNat):=by
  rw [yn hi h,Dr,if_neg q]
theorem DP.start (k:Nat):DP k [DR k] [false]:=⟨rfl,fun s hs=>by
    obtain rfl:s=0:=by simp at hs;omega
    simp,fun s x hs hx=>by
    obtain rfl:s=0:=by simp at hs;omega
    simp [hx]⟩
end
end Go.Proofs.YtjppkekmddjcfaaGreatDoor

namespace Go.Proofs.YtjppkekmddjcfaaGreatDoor
open Go Go.RowKit V
set_option maxRecDepth 100000
theorem iI:dn Tryz.prog 59=some false:=by kernel_rfl
theorem ki:dn Tryz.prog 60=some false:=by kernel_rfl
theorem mj:dn Tryz.prog 67=some false:=by kernel_rfl
theorem i7:dB Tryz.prog 119 0=some (60,0):=by kernel_rfl
theorem my:dB Tryz.prog 119 1=some (59,1):=by kernel_rfl
theorem NF:Tryz.prog.info? 4=some Tryz.t4:=by kernel_rfl
theorem Iy:Tryz.prog.info? 67=some Tryz.t67:=by kernel_rfl
theorem iM:da Tryz.prog 59=some 1:=by kernel_rfl
theorem i6:da Tryz.prog 60=some 1:=by kernel_rfl
theorem fP:da Tryz.prog 67=some 1:=by kernel_rfl
theorem mc:type_of% @Tryz.underlying59:=@Tryz.underlying59
theorem oT:type_of% @Tryz.underlying60:=@Tryz.underlying60

theorem Lh (w:List UInt8) (A:AH) (hL:gO A) (hw:w.length<=1000000):bz Tryz.prog 115 #[bg (w)] A (fun v A1=>A.le A1/\A1.wf/\Fresh A A1 v 1 (cN (w.map ix))):=by
 refine ic Tryz.call115 Tryz.func115 Z Tryz.results115 Tryz.ntmps115 Z (fun wf=>?_);have ai:=AH.le.refl A;refine al.seq fun _ h2=>.region<|.q Z (ae Z)<|.nil<|h2 _ _<|.seq fun _ h4=>.region<|.q Z (ae Z)<|.nil<|h4 _ _ ?_;refine al.seq fun _ h6=>.seq fun _ h8=>.region<|.q Z (ah Z)<|.q Z (cw u9 Z)<|.q Z (ah Z)<|.nil<|h8 _ _<|.block<|.loop (X:=Nat × List Int × Value) (fun ⟨i,o,s⟩=>[(0,bg (w)),(3,s),(6,num ((w.length:Nat):Int)),(7,num ((i:Nat):Int))]) (fun ⟨i,o,s⟩ B=>(i<=w.length/\o=(w.take i).map ix)/\A.le B/\Fresh A B s 1 (cN o)) (fun ⟨i,o,s⟩=>w.length - i) (⟨0,[],.slice none 0 0⟩) (mw Z Z Z Z) (⟨⟨Nat.zero_le _,by simp⟩,ai,(Fresh.nil A A 1)⟩) ?_;rintro ⟨i,o,s⟩ B10 ⟨⟨hi,ho⟩,a2,V⟩;refine al.wf fun a3=>?_;have hlo:o.length=i:=by rw [ho];simp;omega
 refine al.seq fun _ aa=>.region<|.q Z (bX Z Z)<|.nil<|aa _ _<|.seq fun _ ab=>.if rfl (fun ap=>?_) (fun ap=>?_)
 ·refine al.skip<|ab _ _<|.seq fun _ ac=>.block<|.seq fun _ ad=>.region<|.q Z (ah Z)<|.q Z (ae Z)<|.nil<|ad _ _ ?_;refine al.region<|.q Z (ah Z)<|.q Z (ah Z)<|.q Z (ah Z)<|.q Z (lR u9 Z Z O)<|.l Z (fun _ _ a5 _=>au Z (sL (w.getD i 0) B10 (hL.le a2)) ?_);rintro ay A23 ⟨rfl,rfl⟩;refine a5 _ _<|.l Z (fun _ _ a6 _=>aM (c:=[num (ix (w.getD i 0))]) a3 rfl (aw eB cD z3 rfl U U rfl) fun A27 av D=>?_);have a1:=V.le D.le;have a8:=a2.trans D.le;refine a6 _ _<|.l Z (fun _ _ a7 _=>cR (ys:=[num (ix (w.getD i 0))]) rfl rfl eB cD nu z3 rfl U eB (fun _ h=>by cases h) a1.own (bW (n:=1) D.get Z) rfl rfl (by show (_ + _) * 8<=_;simp only [ax,List.length_cons,List.length_nil];(try simp only [List.length_append,List.length_cons,List.length_nil]);omega) O2 fun A33 ar a0=>?_);rw [show ([num (ix (w.getD i 0))]:List Value)=cN [ix (w.getD i 0)] from rfl,dt] at a0;obtain ⟨a4,a9⟩:=Fresh.grow a1 a8 wf a0;refine a7 _ _<|.q Z (ae Z)<|.nil<|ac _ _<|.region<|.q Z (bE (b:=1) Z Z O)<|.q Z (ah Z)<|.nil ?_;exact ⟨⟨i + 1,o ++ [ix (w.getD i 0)],ar⟩,mw Z Z Z Z,Z,⟨⟨by omega,by rw [ho];exact su ix O⟩,a9,a4⟩,O1⟩
 refine al.exit<|h6 _ _<|.seq fun _ ag=>.region<|.q Z (ah Z)<|.q Z (ae Z)<|.nil<|ag _ _<|.rt (by exact aE Z (⟨a2,a3,cy V (congrArg cN (by rw [ho,List.take_of_length_le O]))⟩))

theorem Qm (k:Nat) (b:Nat) (nv ev:Value) (rows:List Value) (L:List (List Int)) (E:List Bool) (A0 A:AH) (c7:A0.le A) (aI:A0.wf) (hb:A.get b=some (.row true [nv,ev] 2)) (cc:A0.get b=none) (frn:Fresh A0 A nv 1 (er rows)) (fre:Fresh A0 A ev 1 (ce E)) (nn:blk nv ≠ some b) (ne:blk ev ≠ some b) (sne:bn nv ev) (fm:kY A0 A rows L) (fo:dH rows b) (fsn:aK nv rows) (fse:aK ev rows) (hk:k<=1000/\L.length<=1000000/\E.length<=1000000):bz Tryz.prog 75 #[.pointer (some ⟨b,0,none⟩),num ((k:Nat):Int)] A (fun v A1=>∃ nv2 jM rows2,v=num ((L.length:Nat):Int)/\A0.le A1/\A1.wf/\A1.get b=some (.row true [nv2,jM] 2)/\Fresh A0 A1 nv2 1 (er rows2)/\Fresh A0 A1 jM 1 (ce (E ++ [false]))/\blk nv2 ≠ some b/\blk jM ≠ some b/\bn nv2 jM/\kY A0 A1 rows2 (L ++ [DR k])/\dH rows2 b/\aK nv2 rows2/\aK jM rows2):=by
 refine mf Tryz.call75 Tryz.func75 Z Tryz.results75 Tryz.ntmps75 Z (fun wf=>?_);have hrl:=fm.len;have hkr:(List.replicate k (0:Int)).length=k:=List.length_replicate;refine al.seq fun _ h2=>.region<|.q Z (ae Z)<|.nil<|h2 _ _<|.seq fun _ h4=>.region<|.q Z (ah Z)<|.l Z (fun _ _ e9 _=>m9 (n:=k) (k:=k) wf c7 rfl rfl eB cD z3 nu rfl (Nat.le_refl _) (by show 8 * _<=_;omega) O fun A7 b6 ar bp=>?_);rw [iw] at bp;have b5:=ne_new wf hb ar.lo;have dD:=fm.ne_new wf ar.lo;have dV:=ar.le.get _ _ hb;have cA:=frn.le ar.le;have cC:=fre.le ar.le;have cf:=fm.le ar.le;have di:=c7.trans ar.le;have dJ:=bn.of_new (n:=k) (c:=k) frn.own wf ar.lo;have dK:=bn.of_new (n:=k) (c:=k) fre.own wf ar.lo;refine e9 _ _<|.q Z (ae Z)<|.nil<|h4 _ _<|.seq fun _ dW=>.seq fun _ dZ=>.region<|.q Z (ah Z)<|.q Z (bF (n:=(List.replicate k (0:Int)).length) eB Z bp.slc O (eD _))<|.q Z (ah Z) ?_;refine Ops.nil<|dZ _ _<|.block<|.loop (X:=Nat × List Int × Value) (fun ⟨i,o,r⟩=>[(0,.pointer (some ⟨b,0,none⟩)),(5,r),(10,num (((List.replicate k (0:Int)).length:Nat):Int)),(11,num ((i:Nat):Int))]) (fun ⟨i,o,r⟩ B=>(i<=k/\o=List.replicate i (-1) ++ List.replicate (k - i) 0)/\A0.le B/\Fresh A0 B r 1 (cN o)/\Fresh A0 B nv 1 (er rows)/\Fresh A0 B ev 1 (ce E)/\B.get b=some (.row true [nv,ev] 2)/\V.blk r ≠ some b/\V.blk nv ≠ some b/\V.blk ev ≠ some b/\bn r nv/\bn r ev/\bn nv ev/\kY A0 B rows L/\dH rows b/\aK r rows/\aK nv rows/\aK ev rows) (fun ⟨i,o,r⟩=>k - i) (⟨0,List.replicate k 0,.slice (some ⟨b6,0,none⟩) k k⟩) (mw Z Z Z Z) (⟨⟨Nat.zero_le _,by simp⟩,di,bp,cA,cC,dV,(fun q=>by cases q;exact b5 Z),nn,ne,dJ,dK,sne,cf,fo,(aK.new dD),fsn,fse⟩) ?_;rintro ⟨i,o,r⟩ B25 ⟨⟨hi,ho⟩,bv,ag,aF,aD,ap,aa,a9,a4,a8,ac,ad,av,az,a6,a7,ai⟩;refine al.wf fun aC=>?_;have hlo:o.length=k:=by rw [ho];simp;omega
 have hrl:=fm.len;refine al.seq fun _ e0=>.region<|.q Z (bX Z Z)<|.nil<|e0 _ _<|.seq fun _ e1=>.if rfl (fun eg=>?_) (fun eg=>?_)
 ·refine al.skip<|e1 _ _<|.seq fun _ e2=>.block<|.seq fun _ e3=>.region<|.q Z (ah Z)<|.q Z (ae Z)<|.nil<|e3 _ _ ?_;refine al.region<|.q Z (ah Z)<|.q Z (ah Z) ?_;obtain ⟨b7,eS,eQ,ey,eC,aG,c4,dS,eX,ec,eT,ea⟩:=ag.at1 (x:=i) Of;rw [ax] at c4;refine Ops.q Z (aH eB cD Z aG Z (by rw [c4];omega))<|.l Z (fun _ _ d0 _=>be (off:=i) (c':=ey.set i (num (-1))) aC rfl (by simp) rfl rfl cD dS (by show i + 1<=_;omega) rfl rfl fun A38 ab=>?_);have e4:=ab.keep _ _ (fun q=>aa (by rw [aG];exact congrArg some q.symm)) ap;have cF:=aF.keep ab.keep (a8 b7 (by rw [aG];rfl));have cH:=aD.keep ab.keep (ac b7 (by rw [aG];rfl));have ch:=av.keep ab.keep (fun r hr=>a6 r hr b7 (by rw [aG];rfl));have bb:=ea (num (-1)) A38 ab;rw [iy] at bb;have dj:=ao bv aI ec ab.n ab.keep;refine d0 _ _<|.nil<|e2 _ _<|.region<|.q Z (bE (b:=1) Z Z Ox)<|.q Z (ah Z)<|.nil ?_;exact ⟨⟨i + 1,o.set i ((-1)),r⟩,mw Z Z Z Z,Z,⟨⟨by omega,by rw [ho];exact JO O⟩,dj,bb,cF,cH,e4,aa,a9,a4,a8,ac,ad,ch,az,a6,a7,ai⟩,O1⟩
 refine al.exit<|dW _ _<|.seq fun _ e5=>.region<|.q Z (ah Z)<|.q Z (ah Z)<|.q Z (cM Z)<|.q Z (aj i7 i6 U Z)<|.q Z (ak ki Z Z ap Z)<|.q Z (ah Z) ?_;obtain ⟨aB,aA,ay,en,_⟩:=ag.own.slice;subst en;refine Ops.l Z (fun _ _ d1 _=>aM (c:=[.slice aB aA ay]) aC rfl (aw oT fP LX rfl U U rfl) fun A50 eL D=>?_);have dv:=ne_new aC ap D.lo;have dz:=ag.own.ne_new aC D.lo;have dG:=av.ne_new aC D.lo;have c3:=D.le.get _ _ ap;have bc:=ag.le D.le;have bd:=aF.le D.le;have bl:=aD.le D.le;have b9:=av.le D.le;have dk:=bv.trans D.le;refine d1 _ _<|.l Z (fun _ _ d2 _=>cR (ys:=[.slice aB aA ay]) rfl rfl oT fP Iy LX rfl U oT (fun _ h=>by cases h) bd.own (bW (n:=1) D.get Z) rfl rfl (by show (_ + _) * 24<=_;simp only [cl,List.length_cons,List.length_nil];(try simp only [List.length_append,List.length_cons,List.length_nil]);omega) Or fun A64 eV a1=>?_);rw [show ([.slice aB aA ay]:List Value)=er [Value.slice aB aA ay] from rfl,qc] at a1;obtain ⟨bm,dl⟩:=Fresh.grow bd dk aI a1;have e6:=a1.keep a9 c3;have aP:=a1.ne a9 D.wf c3;have dL:=bn.appd (show bn nv (.slice aB aA ay) from (bn.symm a8)) bc.own D.wf a1;have cK:=bc.appd a1 (bn.symm a8);have bB:=bn.appd (show bn nv ev from ad) bl.own D.wf a1;have cP:=bl.appd a1 ad;have dM:=aK.appd (show aK nv rows from a7) b9 D.wf a1;have ck:=b9.appd a1 (show aK nv rows from a7);have cv:=ck.snoc cK a6;have aR:=az.snoc aa;have eA:=dG.snoc dz;have bC:=ai.snoc (bn.symm ac);have dO:=dM.snoc dL;refine d2 _ _<|.q Z (cM Z)<|.q Z (aj i7 i6 U Z) ?_;obtain ⟨b3,b1,aS,ex,_⟩:=bm.own.slice;subst ex;refine Ops.l Z (fun _ _ d3 _=>be (cs:=[.slice b3 b1 aS]) (c':=[.slice b3 b1 aS,ev]) a1.wf rfl rfl rfl rfl i6 e6 (Nat.le_of_ble_eq_true rfl) rfl rfl fun A86 a3=>?_);have cS:=cP.keep a3.keep a4;have cV:=bm.keep a3.keep aP;have ba:=cv.keep a3.keep aR;have dm:=ao dl aI cc a3.n a3.keep;refine d3 _ _<|.nil<|e5 _ _<|.seq fun _ e7=>.region<|.q Z (ah Z)<|.q Z (ah Z)<|.q Z (cM Z)<|.q Z (aj my iM U Z)<|.q Z (ak iI Z Z a3.get Z) ?_;refine Ops.l Z (fun _ _ dd _=>aM (c:=[.bool (false)]) a3.wf rfl (aw mc mn z4 rfl U U rfl) fun A96 eN a2=>?_);have dw:=ne_new a3.wf a3.get a2.lo;have ez:=ba.ne_new a3.wf a2.lo;have br:=a2.le.get _ _ a3.get;have aV:=cS.le a2.le;have aY:=cV.le a2.le;have aT:=ba.le a2.le;have bS:=dm.trans a2.le;refine dd _ _<|.l Z (fun _ _ bP _=>cR (ys:=[.bool (false)]) rfl rfl mc mn NF z4 rfl U mc (fun _ h=>by cases h) aV.own (bW (n:=1) a2.get Z) rfl rfl (by show (_ + _) * 1<=_;simp only [bG,List.length_cons,List.length_nil];(try simp only [List.length_append,List.length_cons,List.length_nil]);omega) Ov fun A107 eG a0=>?_);rw [show ([.bool (false)]:List Value)=ce [false] from rfl,n5] at a0;obtain ⟨aZ,bT⟩:=Fresh.grow aV bS aI a0;have cX:=a0.keep a4 br;have b2:=a0.ne a4 a2.wf br;have bV:=bn.appd (show bn ev (.slice b3 b1 aS) from (bn.symm bB)) aY.own a2.wf a0;have bM:=aY.appd a0 (bn.symm bB);have bY:=aK.appd (show aK ev (rows ++ [Value.slice aB aA ay]) from bC) aT a2.wf a0;have bD:=aT.appd a0 (show aK ev (rows ++ [Value.slice aB aA ay]) from bC);refine bP _ _<|.q Z (cM Z)<|.q Z (aj my iM U Z) ?_;obtain ⟨bA,bu,b8,dI,_⟩:=aZ.own.slice;subst dI;refine Ops.l Z (fun _ _ bR _=>be (cs:=[.slice bA bu b8]) (c':=[.slice b3 b1 aS,.slice bA bu b8]) a0.wf rfl rfl rfl rfl iM cX (Nat.le_of_ble_eq_true rfl) rfl rfl fun A122 a5=>?_);have b0:=bM.keep a5.keep aP;have bO:=aZ.keep a5.keep b2;have bL:=bD.keep a5.keep aR;have bU:=ao bT aI cc a5.n a5.keep;refine bR _ _<|.nil<|e7 _ _<|.seq fun _ cZ=>.region<|.q Z (ah Z)<|.q Z (cM Z)<|.q Z (aj i7 i6 U Z)<|.q Z (ak ki Z Z a5.get Z)<|.q Z (bF (n:=(rows ++ [Value.slice aB aA ay]).length) oT Z b0.slc O (i3 _)) ?_;refine Ops.q Z (il (b:=1) Z Z Ox)<|.q Z (ae Z)<|.nil<|cZ _ _<|.rt (by exact aE Z (⟨_,_,_,(show num _=num _ from congrArg (fun z:Nat=>num (z:Int)) (by simp [fm.len])),bU,a5.wf,a5.get,b0,bO,aP,b2,(bn.symm bV),m4 bL (by rw [ho,show i=k by omega,Nat.sub_self];simp [DR]),aR,dO,bY⟩))

theorem W9 (k:Nat) (w:List UInt8) (b:Nat) (nv ev:Value) (rows:List Value) (L:List (List Int)) (E:List Bool) (A0 A:AH) (b8:A0.le A) (bv:A0.wf) (hb:A.get b=some (.row true [nv,ev] 2)) (eg:A0.get b=none) (frn:Fresh A0 A nv 1 (er rows)) (fre:Fresh A0 A ev 1 (ce E)) (nn:blk nv ≠ some b) (ne:blk ev ≠ some b) (sne:bn nv ev) (fm:kY A0 A rows L) (fo:dH rows b) (fsn:aK nv rows) (fse:aK ev rows) (hL:gO A0) (hk:k<=1000/\L.length<=100000/\w.length<=100000) (hT:DP k L E) (h0:0 < L.length) (hw:∀ c ∈ w,0<=ix c/\ix c < k):bz Tryz.prog 77 #[.pointer (some ⟨b,0,none⟩),num ((k:Nat):Int),bg (w)] A (fun v A1=>∃ nv2 jM rows2,v=.tuple #[]/\A0.le A1/\A1.wf/\A1.get b=some (.row true [nv2,jM] 2)/\Fresh A0 A1 nv2 1 (er rows2)/\Fresh A0 A1 jM 1 (ce (xm k L E w))/\blk nv2 ≠ some b/\blk jM ≠ some b/\bn nv2 jM/\kY A0 A1 rows2 (xo k L E w)/\dH rows2 b/\aK nv2 rows2/\aK jM rows2):=by
 refine uC Tryz.call77 Tryz.func77 Z Tryz.results77 Tryz.ntmps77 Z (fun wf=>?_);have hwx:∀ x ∈ w.map ix,0<=x/\x < (k:Int):=fun x hx=>by obtain ⟨c,hc,rfl⟩:=List.mem_map.1 hx;exact hw c hc
 have hwl:(w.map ix).length=w.length:=List.length_map _;refine al.seq fun _ h2=>.region<|.q Z (ae Z)<|.nil<|h2 _ _<|.seq fun _ h4=>.seq fun _ h6=>.region<|.q Z (ah Z)<|.l Z (fun _ _ dZ _=>au Z (Lh w A (hL.le b8) O) ?_);rintro v8 A9 ⟨av,eG,ap⟩;have dK:=av.get _ _ hb;have bU:=frn.le av;have bV:=fre.le av;have bR:=fm.le av;have cv:=b8.trans av;have b2:=ap.base b8;have cK:=ap.sep0 frn.own;have cP:=ap.sep0 fre.own;have cS:=aK.fresh fm ap;have cH:=ap.ne wf hb;refine dZ _ _<|.q Z (bF (n:=(w.map ix).length) eB Z b2.slc O (eD _))<|.q Z (ah Z)<|.nil<|h6 _ _<|.block<|.loop (X:=Nat × List Bool × Nat × Value × Value × List Value × List (List Int)) (fun ⟨i,E1,s,a7,rc,rw,L1⟩=>[(0,.pointer (some ⟨b,0,none⟩)),(1,num ((k:Nat):Int)),(6,num ((s:Nat):Int)),(11,v8),(12,num (((w.map ix).length:Nat):Int)),(13,num ((i:Nat):Int))]) (fun ⟨i,E1,s,a7,rc,rw,L1⟩ B=>(i<=(w.map ix).length/\oG k L E ((w.map ix).take i)=(L1,E1,s)/\DP k L1 E1/\s < L1.length/\L1.length<=L.length + i)/\A0.le B/\Fresh A0 B a7 1 (er rw)/\Fresh A0 B rc 1 (ce E1)/\Fresh A0 B v8 1 (cN (w.map ix))/\B.get b=some (.row true [a7,rc] 2)/\V.blk a7 ≠ some b/\V.blk rc ≠ some b/\V.blk v8 ≠ some b/\bn a7 rc/\bn a7 v8/\bn rc v8/\kY A0 B rw L1/\dH rw b/\aK a7 rw/\aK rc rw/\aK v8 rw) (fun ⟨i,E1,s,a7,rc,rw,L1⟩=>(w.map ix).length - i) (⟨0,E,0,nv,ev,rows,L⟩) (am.cons Z<|am.cons Z<|am.cons (congrArg (fun z:Int=>some (num z)) (by first | exact vR hok ar (by have:=hxw O;omega) | omega))<|ll Z Z Z) (⟨⟨Nat.zero_le _,Z,hT,h0,by omega⟩,cv,bU,bV,b2,dK,nn,ne,cH,sne,(bn.symm cK),(bn.symm cP),bR,fo,fsn,fse,cS⟩) ?_;rintro ⟨i,E1,s,a7,rc,rw,L1⟩ B22 ⟨⟨hi,hrun,hok,ar,g5⟩,aY,a1,a9,D,a8,ab,a3,h,ac,a5,a6,a4,ad,aa,a2,a0⟩;refine al.wf fun ba=>?_;have hrw:rw.length=L1.length:=by first | exact kY.len ‹_›
 have hxw:=fun q:i < (w.map ix).length=>hwx _ (bi (d:=(0:Int)) q);have hro:=hok.row s ar;have hvo:=fun q:((w.map ix).getD i 0).toNat < k=>hok.val s ((w.map ix).getD i 0).toNat ar q;have hEl:=hok.len;refine al.seq fun _ dL=>.region<|.q Z (bX Z Z)<|.nil<|dL _ _<|.seq fun _ dM=>.if rfl (fun ey=>?_) (fun ey=>?_)
 ·refine al.skip<|dM _ _<|.seq fun _ bm=>.block<|.seq fun _ dO=>.region ?_;obtain ⟨fD,fT,fd,gG,eZ,gl,g6,cZ,e2,dk,eL,bA⟩:=bI.at (i:=i) D.slc Of O;refine Ops.q Z (aH eB cD Z cZ Z e2)<|.q Z (ak df Z Z dk ((cQ bA).trans (c6 O)))<|.q Z (ae Z)<|.nil<|dO _ _<|.seq fun _ bp=>.seq fun _ dS=>.region<|.q Z (ah Z)<|.q Z (cM Z) ?_;refine Ops.q Z (aj i7 i6 U Z)<|.q Z (ak ki Z Z a8 Z)<|.q Z (ah Z) ?_;obtain ⟨fE,fV,fe,gL,f0,gm,g7,d0,e3,dl,eN,bB⟩:=bI.at (i:=s) a1.slc On O;refine Ops.q Z (aH oT fP Z d0 Z e3)<|.q Z (ak mj Z Z dl ((cQ bB).trans (eK O)))<|.q Z (ah Z) ?_;obtain ⟨fI,fX,fi,gM,f1,gp,g8,d1,e4,dm,eQ,bC⟩:=bI.at (i:=((w.map ix).getD i 0).toNat) (a4.fr s O).slc (by simp only [ax];have:=hxw O;omega) O;refine Ops.q Z (aH eB cD Z d1 (eR (by have:=hxw O;omega)) e4)<|.q Z (ak df Z Z dm ((cQ bC).trans (c6 (by have:=hxw O;omega))))<|.q Z (jd Z Z)<|.nil<|dS _ _<|.if rfl (fun ez=>?_) (fun ez=>?_)
  ·refine al.seq fun _ dV=>.region<|.q Z (ah Z)<|.q Z (ah Z) ?_;have aP:=cd (bs:=([some b,blk a7,blk rc] ++ rw.map blk)) aY (EM (uD eg (s8 a1.lo (s8 a9.lo px))) a4);refine Ops.l Z (fun _ _ cf _=>au Z (Qm k b a7 rc rw L1 E1 (B22.hide ([some b,blk a7,blk rc] ++ rw.map blk)) B22 (cz B22 ([some b,blk a7,blk rc] ++ rw.map blk)) (cg ba) a8 (cn (by simp)) (a1.hide (by simp)) (a9.hide (by simp)) ab a3 ac a4.hideAll ad aa a2 ⟨by omega,by omega,by omega⟩) ?_);rintro h1 A45 ⟨bc,bb,aG,rfl,b0,bd,aF,az,aA,aS,aT,aV,aI,aB,aC,aD⟩;have b9:=aI.sepOff D.own (mC (ks h (jF a5 (jF a6 kr))) a0);have cV:=az.sep D.own (mC (ks h (jF a5 (jF a6 kr))) a0);have cX:=aA.sep D.own (mC (ks h (jF a5 (jF a6 kr))) a0);have bY:=D.off (mC (ks h (jF a5 (jF a6 kr))) a0) b0;have b3:=az.base aP;have c3:=aA.base aP;have ay:=aI.base aP;have cA:=aP.trans b0;have b7:=aI.len;rw [List.length_append,List.length_singleton] at b7;have hgl:((L1 ++ [DR k]).getD s []).length=k:=by rw [kj ar];exact hok.row s ar
   have hll:(L1 ++ [DR k]).length=L1.length + 1:=by simp
   refine cf _ _<|.q Z (ae Z)<|.nil<|dV _ _<|.region<|.q Z (ah Z)<|.q Z (cM Z)<|.q Z (aj i7 i6 U Z)<|.q Z (ak ki Z Z aF Z)<|.q Z (ah Z) ?_;obtain ⟨fL,g0,fl,gN,f2,gq,g9,d2,e5,dv,eS,bD⟩:=bI.at (i:=s) b3.slc On O;refine Ops.q Z (aH oT fP Z d2 Z e5)<|.q Z (ak mj Z Z dv ((cQ bD).trans (eK O)))<|.q Z (ah Z)<|.q Z (ah Z) ?_;obtain ⟨b1,gs,fR,eA,f3,aR,e6,dw,h3,en,gY,e0⟩:=ay.at (s:=s) (x:=((w.map ix).getD i 0).toNat) O (by have:=hxw O;omega);refine Ops.q Z (aH eB cD Z aR (eR (by have:=hxw O;omega)) (by rw [e6];have:=hxw O;omega))<|.l Z (fun _ _ ch _=>be (off:=((w.map ix).getD i 0).toNat) (c':=eA.set (((w.map ix).getD i 0).toNat) (num ((L1.length:Nat):Int))) bd rfl (by simp) rfl rfl cD dw (by show (((w.map ix).getD i 0).toNat) + 1<=_;omega) rfl rfl fun A59 ag=>?_);have br:=ag.keep _ _ (fun q=>ef aB (s:=s) (by have:=ay.len;omega) (by rw [aR];exact congrArg some q.symm)) aF;have c4:=bY.keep ag.keep (fun q=>ef b9 (s:=s) (by have:=ay.len;omega) b1 q (by rw [aR];rfl));have b5:=b3.keep ag.keep (fun q=>ef aC (s:=s) (by have:=ay.len;omega) b1 q (by rw [aR];rfl));have c7:=c3.keep ag.keep (fun q=>ef aD (s:=s) (by have:=ay.len;omega) b1 q (by rw [aR];rfl));have bS:=e0 (((L1.length:Nat):Int)) A59 ag;have cC:=ao cA bv en ag.n ag.keep;refine ch _ _<|.nil ?_;have hgr:((grow k L1 s ((w.map ix).getD i 0).toNat).getD s []).length=k:=(zh hok ar O).row s (by rw [jB];omega);have hgll:(grow k L1 s ((w.map ix).getD i 0).toNat).length=L1.length + 1:=jB;have fmG:kY A0 A59 aG (grow k L1 s ((w.map ix).getD i 0).toNat):=bS;have hgm:=fmG.len;refine bp _ _<|.region<|.q Z (ah Z)<|.q Z (cM Z)<|.q Z (aj i7 i6 U Z)<|.q Z (ak ki Z Z br Z)<|.q Z (ah Z) ?_;obtain ⟨fM,g1,fn,gP,f4,gA,gc,d3,e7,dz,eT,bL⟩:=bI.at (i:=s) b5.slc On O;refine Ops.q Z (aH oT fP Z d3 Z e7)<|.q Z (ak mj Z Z dz ((cQ bL).trans (eK O)))<|.q Z (ah Z) ?_;obtain ⟨fN,g2,fq,gQ,f5,gC,ge,dd,e9,dD,eV,bM⟩:=bI.at (i:=((w.map ix).getD i 0).toNat) (fmG.fr s O).slc (by simp only [ax];have:=hxw O;omega) O;refine Ops.q Z (aH eB cD Z dd (eR (by have:=hxw O;omega)) e9)<|.q Z (ak df Z Z dD ((cQ bM).trans (c6 (by have:=hxw O;omega))))<|.q Z (ae Z)<|.nil<|bm _ _<|.region<|.q Z (bE (b:=1) Z Z O)<|.q Z (ah Z)<|.nil ?_;exact ⟨⟨i + 1,E1 ++ [false],L1.length,bc,bb,aG,grow k L1 s ((w.map ix).getD i 0).toNat⟩,am.cons Z<|am.cons Z<|am.cons (congrArg (fun z:Int=>some (num z)) (by first | exact vR hok ar (by have:=hxw O;omega) | omega))<|ll Z Z Z,Z,⟨⟨by omega,CT O hrun ‹_›,zh hok ar (by have:=hxw O;omega),by omega,by omega⟩,cC,b5,c7,c4,br,aS,aT,h,aV,cV,cX,fmG,aB,aC,aD,b9⟩,O1⟩
  refine al.skip<|bp _ _<|.region<|.q Z (ah Z)<|.q Z (cM Z)<|.q Z (aj i7 i6 U Z)<|.q Z (ak ki Z Z a8 Z)<|.q Z (ah Z) ?_;obtain ⟨fO,g3,ft,gS,f6,gD,gf,di,ea,dG,eX,bO⟩:=bI.at (i:=s) a1.slc On O;refine Ops.q Z (aH oT fP Z di Z ea)<|.q Z (ak mj Z Z dG ((cQ bO).trans (eK O)))<|.q Z (ah Z) ?_;obtain ⟨fQ,g4,fv,gX,f7,gE,gg,dj,ec,dI,eY,bP⟩:=bI.at (i:=((w.map ix).getD i 0).toNat) (a4.fr s O).slc (by simp only [ax];have:=hxw O;omega) O;refine Ops.q Z (aH eB cD Z dj (eR (by have:=hxw O;omega)) ec)<|.q Z (ak df Z Z dI ((cQ bP).trans (c6 (by have:=hxw O;omega))))<|.q Z (ae Z)<|.nil<|bm _ _<|.region<|.q Z (bE (b:=1) Z Z O)<|.q Z (ah Z)<|.nil ?_;exact ⟨⟨i + 1,E1,((L1.getD s []).getD ((w.map ix).getD i 0).toNat 0).toNat,a7,rc,rw,L1⟩,am.cons Z<|am.cons Z<|am.cons (congrArg (fun z:Int=>some (num z)) (by first | exact vR hok ar (by have:=hxw O;omega) | omega))<|ll Z Z Z,Z,⟨⟨by omega,CU O hrun ‹_›,hok,by have:=hvo (by have:=hxw O;omega);omega,by omega⟩,aY,a1,a9,D,a8,ab,a3,h,ac,a5,a6,a4,ad,aa,a2,a0⟩,O1⟩
 refine al.exit<|h4 _ _<|.region<|.q Z (ah Z)<|.q Z (cM Z)<|.q Z (aj my iM U Z)<|.q Z (ak iI Z Z a8 Z)<|.q Z (ah Z) ?_;obtain ⟨bl,gF,fS,eC,f9,aZ,bu,dJ,h5,ex,gZ,e1⟩:=a9.at1 (x:=s) Oi;rw [bG] at bu;refine Ops.q Z (aH mc mn Z aZ Z (by rw [bu];omega))<|.l Z (fun _ _ ck _=>be (off:=s) (c':=eC.set s (.bool (true))) ba rfl (by simp) rfl rfl mn dJ (by show s + 1<=_;omega) rfl rfl fun A73 ai=>?_);have dW:=ai.keep _ _ (fun q=>a3 (by rw [aZ];exact congrArg some q.symm)) a8;have cc:=a1.keep ai.keep ((bn.symm ac) bl (by rw [aZ];rfl));have bT:=a4.keep ai.keep (fun r hr=>a2 r hr bl (by rw [aZ];rfl));have b6:=e1 (.bool (true)) A73 ai;rw [li] at b6;have cF:=ao aY bv ex ai.n ai.keep;refine ck _ _<|.nil ?_;repeat first | with_reducible refine bw ?_ | with_reducible refine bj ?_
 repeat first | with_reducible refine fc ?_ | with_reducible refine eu ?_ | with_reducible refine dY U ?_ | with_reducible refine d4 ?_ | with_reducible refine db ?_
 exact yl (vs:=[]) Z (⟨_,_,_,Z,cF,ai.wf,dW,cc,cy b6 (congrArg ce (by rw [xm,<- List.take_of_length_le (show (w.map ix).length<=i by omega),hrun])),ab,a3,ac,m4 bT (by rw [xo,<- List.take_of_length_le (show (w.map ix).length<=i by omega),hrun]),ad,aa,a2⟩)
end Go.Proofs.YtjppkekmddjcfaaGreatDoor

namespace Go.Proofs.YtjppkekmddjcfaaGreatDoor
open Go Go.RowKit V
abbrev ig (L:List (List Int)) (n x:Nat):Int:=(L.getD n []).getD x 0
structure TW (k:Nat) (L:List (List Int)) (W:List (List Nat)):Prop where
  len:W.length=L.length
  pos:0 < W.length
  zero:W.getD 0 []=[]
  nd:∀ a b,a < W.length->b < W.length->W.getD a []=W.getD b []->a=b
  pre:∀ m,0 < m->m < W.length->∃ n x,n < W.length/\x < k/\W.getD m []=W.getD n [] ++ [x]
  is:∀ n x,n < W.length->x < k->0<=ig L n x->(ig L n x).toNat < W.length/\W.getD (ig L n x).toNat []=W.getD n [] ++ [x]
  no:∀ n x,n < W.length->x < k->ig L n x < 0->W.getD n [] ++ [x] ∉ W
section
variable {k s x i:Nat} {L L1:List (List Int)} {E E1:List Bool} {xs:List Int} {W:List (List Nat)}
theorem Ol {w:List Nat} (h:w ∈ W):∃ a,a < W.length/\W.getD a []=w:=by
  obtain ⟨i,hi,rfl⟩:=List.getElem_of_mem h
  exact ⟨i,hi,by simp [hi]⟩
theorem mY {a:Nat} (h:a < W.length):W.getD a [] ∈ W:=bi h
theorem Bj (h:DP k L E) (hs:s < L.length) (hx:x < k) {j y:Nat} (hj:j < L.length + 1) (hy:y < k):ig (grow k L s x) j y=if j=s/\y=x then (L.length:Int) else if j < L.length then ig L j y else -1:=by
  unfold ig
  rw [uY (y:=0) h hs hx hj]
  by_cases h1:j=s
  · subst h1
    rw [if_pos Z,d7 (by rw [h.row j hs];exact hx)]
    by_cases h2:y=x
    · rw [if_pos h2,if_pos ⟨rfl,h2⟩]
    · rw [if_neg h2,if_neg (fun q=>h2 q.2),if_pos hs]
  · simp only [h1,false_and,if_false]
    by_cases h2:j < L.length
    · simp only [h2,if_true]
    · simp only [h2,if_false];simp [DR,hy]
theorem TW.grow (h:DP k L E) (t:TW k L W) (hs:s < L.length) (hx:x < k) (hn:ig L s x < 0):TW k (grow k L s x) (W ++ [W.getD s [] ++ [x]]):=by
  have hl:=t.len
  have e1:∀ a,a < W.length->(W ++ [W.getD s [] ++ [x]]).getD a []=W.getD a []:=fun a ha=>kj ha
  have e2:(W ++ [W.getD s [] ++ [x]]).getD W.length []=W.getD s [] ++ [x]:=by simp
  have hnew:=t.no s x O hx hn
  have key:∀ n y,n < W.length->W.getD n [] ++ [y]=W.getD s [] ++ [x]->n=s/\y=x:=fun n y D q=>by
    have:=List.append_inj' q Z
    exact ⟨t.nd n s D O this.1,by simpa using this.2⟩
  refine ⟨by rw [jB];simp [hl],by simp,by rw [e1 0 t.pos];exact t.zero,fun a b ha hb q=>?_,fun m hm V=>?_,fun n y D hy h0=>?_,fun n y D hy h0=>?_⟩
  · simp only [List.length_append,List.length_singleton] at ha hb
    rcases Nat.lt_or_ge a W.length with qa | qa
    · rcases Nat.lt_or_ge b W.length with qb | qb
      · rw [e1 a qa,e1 b qb] at q;exact t.nd a b qa qb q
      · obtain rfl:b=W.length:=by omega
        rw [e1 a qa,e2] at q;exact absurd (q ▸ mY qa) hnew
    · obtain rfl:a=W.length:=by omega
      rcases Nat.lt_or_ge b W.length with qb | qb
      · rw [e1 b qb,e2] at q;exact absurd (q ▸ mY qb) hnew
      · omega
  · simp only [List.length_append,List.length_singleton] at V
    rcases Nat.lt_or_ge m W.length with q | q
    · obtain ⟨n,y,h1,h2,h3⟩:=t.pre m hm q
      exact ⟨n,y,by simp;omega,h2,by rw [e1 m q,e1 n h1];exact h3⟩
    · obtain rfl:m=W.length:=by omega
      exact ⟨s,x,by simp;omega,hx,by rw [e2,e1 s O]⟩
  · simp only [List.length_append,List.length_singleton] at D ⊢
    rw [Bj h hs hx O hy] at h0 ⊢
    split
    · rename_i q
      obtain ⟨rfl,rfl⟩:=q
      rw [Int.toNat_natCast,<- hl,e2,e1 n O]
      exact ⟨by omega,Z⟩
    · rename_i q
      rw [if_neg q] at h0
      split
      · rename_i q2
        rw [if_pos q2] at h0
        have:=t.is n y O hy h0
        rw [e1 n O,e1 _ this.1]
        exact ⟨by omega,this.2⟩
      · rename_i q2;rw [if_neg q2] at h0;omega
  · simp only [List.length_append,List.length_singleton] at D
    rw [Bj h hs hx O hy] at h0
    split at h0
    · omega
    · rename_i q
      intro hm
      split at h0
      · rename_i q2
        have:=t.no n y O hy h0
        rw [e1 n O] at hm
        rcases List.mem_append.1 hm with z | z
        · exact this z
        · rw [List.mem_singleton] at z
          exact q (key n y O z)
      · rename_i q2
        obtain rfl:n=W.length:=by omega
        rw [e2] at hm
        rcases List.mem_append.1 hm with z | z
        · have hlen:∀ a b:Nat,a < W.length->W.getD a []=(W.getD s [] ++ [x]) ++ [b]->False:=fun a b ha q=>by
            rcases Nat.eq_zero_or_pos a with q0 | q0
            · subst q0;rw [t.zero] at q;simp at q
            · obtain ⟨n,y2,h1,h2,h3⟩:=t.pre a q0 ha
              rw [h3] at q
              have:=(List.append_inj' q Z).1
              exact hnew (this ▸ mY h1)
          obtain ⟨a,ha,e⟩:=Ol z
          exact hlen a y ha e
        · rw [List.mem_singleton] at z
          have:=congrArg List.length z
          simp at this
theorem TW.start:TW k [DR k] [[]]:=by
  have e:∀ n x,n < 1->x < k->ig [DR k] n x = -1:=fun n x hn hx=>by
    obtain rfl:n=0:=by omega
    simp [ig,DR,hx]
  refine ⟨rfl,by simp,rfl,fun a b ha hb _=>by simp at ha hb;omega,fun m hm h=>by simp at h;omega,fun n x hn hx h0=>?_,fun n x hn hx h0=>?_⟩
  · rw [e n x hn hx] at h0;omega
  · obtain rfl:n=0:=by simp at hn;omega
    simp
structure UG (k:Nat) (L:List (List Int)) (E:List Bool) (W S:List (List Nat)):Prop where
  ok:DP k L E
  tw:TW k L W
  sub:∀ w ∈ S,w ∈ W
  ends:∀ m,m < W.length->(E.getD m false=true ↔ W.getD m [] ∈ S)
theorem UG.run {S:List (List Nat)} (h:UG k L E W S) (hx:∀ x ∈ xs,0<=x/\x < (k:Int)):∀ i,i<=xs.length->∃ W1,UG k (oG k L E (xs.take i)).1 (oG k L E (xs.take i)).2.1 W1 S/\(oG k L E (xs.take i)).2.2 < (oG k L E (xs.take i)).1.length /\
    W1.getD (oG k L E (xs.take i)).2.2 []=(xs.take i).map Int.toNat/\(oG k L E (xs.take i)).1.length<=L.length + i:=by
  intro i
  induction i with
  | zero=>intro _;exact ⟨W,h,by have:=h.tw.pos;have:=h.tw.len;show 0 < L.length;omega,h.tw.zero,Nat.le_refl _⟩
  | succ i ih =>
    intro hi
    obtain ⟨W1,h1,h2,h3,h4⟩:=ih O
    rcases hr:oG k L E (xs.take i) with ⟨L1,E1,s⟩
    rw [hr] at h1 h2 h3 h4
    simp only at h1 h2 h3 h4
    have hb:=hx _ (bi (d:=(0:Int)) (show i < xs.length by omega))
    have hl:=h1.tw.len
    have et:(xs.take (i + 1)).map Int.toNat=(xs.take i).map Int.toNat ++ [(xs.getD i 0).toNat]:=(su (z:=(0:Int)) Int.toNat (show i < xs.length by omega)).symm
    by_cases q:(L1.getD s []).getD (xs.getD i 0).toNat 0 < 0
    · rw [CT O hr q]
      refine ⟨W1 ++ [W1.getD s [] ++ [(xs.getD i 0).toNat]],⟨zh h1.ok h2 O,TW.grow h1.ok h1.tw h2 O q,fun w hw=>List.mem_append.2 (.inl (h1.sub w hw)),fun m hm=>?_⟩,by rw [jB];show L1.length < _;omega,?_,by rw [jB];omega⟩
      · simp only [List.length_append,List.length_singleton] at hm
        rcases Nat.lt_or_ge m W1.length with z | z
        · rw [kj z,kj (by rw [h1.ok.len];omega)];exact h1.ends m z
        · obtain rfl:m=W1.length:=by omega
          have e1:(E1 ++ [false]).getD W1.length false=false:=by rw [hl,<- h1.ok.len];simp
          have e2:(W1 ++ [W1.getD s [] ++ [(xs.getD i 0).toNat]]).getD W1.length []=W1.getD s [] ++ [(xs.getD i 0).toNat]:=by simp
          rw [e1,e2]
          have:=h1.tw.no s _ O O q
          exact ⟨(fun z=>by cases z),fun z=>absurd (h1.sub _ z) this⟩
      · show (W1 ++ _).getD L1.length []=_
        rw [<- hl,et,<- h3];simp
    · rw [CU O hr q]
      have:=h1.tw.is s (xs.getD i 0).toNat O O (by show 0<=(L1.getD s []).getD _ 0;omega)
      exact ⟨W1,h1,by show ((L1.getD s []).getD (xs.getD i 0).toNat 0).toNat < L1.length;rw [<- hl];exact this.1,by rw [et,<- h3];exact this.2,by show L1.length<=_;omega⟩
theorem DP.set {E2:List Bool} (h:DP k L E) (he:E2.length=E.length):DP k L E2:=⟨by rw [he,h.len],h.row,h.val⟩
def Gi (w:Wd):List Nat:=w.map fun c=>(ix c).toNat
theorem UG.add {S:List (List Nat)} {w:Wd} (h:UG k L E W S) (hw:∀ c ∈ w,0<=ix c/\ix c < k):∃ W1,UG k (xo k L E w) (xm k L E w) W1 (S ++ [Gi w])/\(xo k L E w).length<=L.length + w.length:=by
  have hx:∀ x ∈ w.map ix,0<=x/\x < (k:Int):=fun x hx=>by obtain ⟨c,hc,rfl⟩:=List.mem_map.1 hx;exact hw c hc
  obtain ⟨W1,h1,h2,h3,h4⟩:=h.run hx (w.map ix).length (Nat.le_refl _)
  rw [List.take_length] at h1 h2 h3 h4
  have e3:(w.map ix).map Int.toNat=Gi w:=by rw [List.map_map];rfl
  have hl:=h1.tw.len
  refine ⟨W1,⟨h1.ok.set (by simp [xm]),h1.tw,fun u hu=>?_,fun m hm=>?_⟩,by rw [xo];rw [List.length_map] at h4;exact h4⟩
  · rcases List.mem_append.1 hu with z | z
    · exact h1.sub u z
    · rw [List.mem_singleton] at z;rw [z,<- e3,<- h3];exact mY O
  · rw [xm,d7 (by rw [h1.ok.len];exact h2)]
    split
    · rename_i q;subst q
      exact ⟨fun _=>List.mem_append.2 (.inr (List.mem_singleton.2 (by rw [h3,e3]))),fun _=>rfl⟩
    · rename_i q
      rw [h1.ends m hm,List.mem_append,List.mem_singleton]
      exact ⟨.inl,fun z=>z.elim id fun z=>absurd (h1.tw.nd m _ hm O (by rw [z,h3,e3])) q⟩
end
end Go.Proofs.YtjppkekmddjcfaaGreatDoor
