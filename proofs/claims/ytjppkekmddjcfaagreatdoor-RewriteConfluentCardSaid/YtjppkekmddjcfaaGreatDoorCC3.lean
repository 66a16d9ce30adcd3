import Derived.Test.YtjppkekmddjcfaaGreatDoorCC2
set_option linter.unusedSectionVars false
set_option linter.unusedVariables false
set_option linter.unusedSimpArgs false
namespace Go.Proofs.YtjppkekmddjcfaaGreatDoor
open Go Go.RowKit
namespace V
def mI (b4:Nat) (B:AH) (b:Nat):Prop:=b=b4\/∃ v cap,B.get b4=some (.row true [v] cap)/\blk v=some b
structure cq (b4:Nat) (M C:AH):Prop where
  le:M.le C
  wf:M.wf
  ow:∀ b,mI b4 C b->M.get b=none
section
variable {b4 b k:Nat} {A B C M M':AH} {v:Value} {cap:Nat} {o:fC}
theorem mI.same (h:mI b4 C b) (e:C.get b4=B.get b4):mI b4 B b:=by
  rcases h with h | ⟨v,cap,h1,h2⟩
  · exact .inl h
  · exact .inr ⟨v,cap,e ▸ h1,h2⟩
theorem mI.val (h:mI b4 C b) (g:C.get b4=some (.row true [v] cap)):b=b4\/blk v=some b:=by
  rcases h with h | ⟨v',cap',h1,h2⟩
  · exact .inl h
  · rw [g] at h1;cases h1;exact .inr h2
theorem cq.mono (h:cq b4 M C) (le:M'.le M) (wf:M'.wf):cq b4 M' C:=⟨le.trans h.le,wf,fun b hb=>by
  cases q:M'.get b with
  | none=>rfl
  | some o=>rw [<- h.ow b hb,le.get b o q]⟩
theorem cq.full (g:C.get b4=some (.row true [v] cap)) (wf:C.wf):cq b4 (C.hide [some b4,blk v]) C :=
  ⟨cx _ _,cg wf,fun b hb=>cn (by
    rcases hb.val g with rfl | q
    · simp
    · rw [q];simp)⟩
theorem cq.sub (h:cq b4 M C) (g:C.get b4=some (.row true [v] cap)):M.le (C.hide [some b4,blk v]) :=
  cd h.le fun b hb=>by
    simp only [List.mem_cons,List.not_mem_nil,or_false,Option.some.injEq] at hb
    rcases hb with rfl | hb
    · exact h.ow _ (.inl Z)
    · exact h.ow _ (.inr ⟨v,cap,g,hb.symm⟩)
end
theorem cq.up {b4:Nat} {A B M:AH} {v:Value} {cap:Nat} (h:cq b4 M A) (le:A.le B) (g:A.get b4=some (.row true [v] cap)):cq b4 M B :=
  ⟨h.le.trans le,h.wf,fun b hb=>h.ow b (hb.same (by rw [g];exact le.get _ _ g))⟩
theorem pg {A B:AH} {v:Value} (le:A.le B) (h:∀ b,blk v=some b->∃ o,A.get b=some o):∀ b,blk v=some b->∃ o,B.get b=some o:=fun b hb=>let ⟨o,ho⟩:=h b hb;⟨o,le.get _ _ ho⟩
theorem fZ {b4 b:Nat} {A X:AH} {v:Value} {cap:Nat} {o:fC} (h:A.get b=some o) (g:X.get b4=some (.row true [v] cap)) (l:∀ b,blk v=some b->∃ o,X.get b=some o) (nj:X.get b=none):(A.hide [some b4,blk v]).get b=some o :=
  bK h (qL (fun q=>by rw [q,g] at nj;cases nj) (n0 (fun q=>by obtain ⟨o,ho⟩:=l b q;rw [nj] at ho;cases ho) mF))
theorem rz {b4 n:Nat} {A B X:AH} {v t:Value} {cap:Nat} {xs:List Value} (h:Fresh B A t n xs) (g:X.get b4=some (.row true [v] cap)) (l:∀ b,blk v=some b->∃ o,X.get b=some o) (nj:∀ b,blk t=some b->X.get b=none):bI (A.hide [some b4,blk v]) n t xs :=
  (h.off (bs:=[some b4,blk v]) (kf (fun q=>by have:=nj _ q;rw [g] at this;cases this) (jA (fun c hc hq=>by obtain ⟨o,ho⟩:=l c hc;rw [nj c hq] at ho;cases ho) ke)) (AH.le.refl _)).slc
structure jp (b4:Nat) (A B:AH) (Ds:List Nat):Prop where
  nd:Ds.Nodup
  lo:∀ D ∈ Ds,A.n<=D
  get:∀ D ∈ Ds,B.get D=some (.obj true (.deferred (some [])))
  ow:∀ D ∈ Ds,¬ mI b4 B D
theorem jp.nil {b4:Nat} {A B:AH}:jp b4 A B []:=⟨List.nodup_nil,(fun _ h=>by cases h),(fun _ h=>by cases h),(fun _ h=>by cases h)⟩
theorem jp.up {b4:Nat} {A B C:AH} {Ds:List Nat} {v:Value} {cap:Nat} (h:jp b4 A B Ds) (le:B.le C) (g:B.get b4=some (.row true [v] cap)):jp b4 A C Ds :=
  ⟨h.nd,h.lo,fun D hD=>le.get _ _ (h.get D hD),fun D hD q=>h.ow D hD (q.same (by rw [g];exact le.get _ _ g))⟩
theorem jp.push {b4 D:Nat} {A B C:AH} {Ds:List Nat} {v:Value} {cap:Nat} (h:jp b4 A B Ds) (g:B.get b4=some (.row true [v] cap)) (hR:cq b4 (B.hide [some b4,blk v]) C) (wf:B.wf) (hA:A.n<=B.n) (hn:B.n<=D) (hD:C.get D=some (.obj true (.deferred (some [])))) (ho:¬ mI b4 C D):jp b4 A C (D :: Ds):=by
  have key:∀ E ∈ Ds,(B.hide [some b4,blk v]).get E=some (.obj true (.deferred (some []))):=fun E hE=>bK (h.get E hE) (qL (fun q=>h.ow E hE (.inl q)) (n0 (fun q=>h.ow E hE (.inr ⟨v,cap,g,q⟩)) mF))
  refine ⟨List.nodup_cons.2 ⟨fun q=>by have:=wf _ _ (h.get D q);omega,h.nd⟩,fun E hE=>?_,fun E hE=>?_,fun E hE=>?_⟩
  · rcases List.mem_cons.1 hE with rfl | q
    · omega
    · exact h.lo E q
  · rcases List.mem_cons.1 hE with rfl | q
    · exact hD
    · exact hR.le.get _ _ (key E q)
  · rcases List.mem_cons.1 hE with rfl | q
    · exact ho
    · intro z;have:=hR.ow E z;rw [key E q] at this;cases this
theorem jp.leave {b4:Nat} {A A' B M:AH} {Ds:List Nat} {v:Value} {cap:Nat} (h:jp b4 A B Ds) (le:M.le A) (wf:A.wf) (hR:cq b4 M B) (g:B.get b4=some (.row true [v] cap)) (hn:A'.n=B.n) (hk:∀ b o,b ∉ Ds->B.get b=some o->A'.get b=some o) :
    cq b4 M A'/\∀ b o,(b < A.n\/mI b4 B b)->B.get b=some o->A'.get b=some o:=by
  have k2:∀ b o,(b < A.n\/mI b4 B b)->B.get b=some o->A'.get b=some o:=fun b o hb hg=>hk b o (fun q=>by
    rcases hb with hb | hb
    · have:=h.lo b q;omega
    · exact h.ow b q hb) hg
  refine ⟨⟨⟨by rw [hn];exact hR.le.n,fun b o hb=>k2 b o (.inl (wf _ _ (le.get _ _ hb))) (hR.le.get _ _ hb)⟩,hR.wf,fun b hb=>hR.ow b (hb.same ?_)⟩,k2⟩
  rw [g];exact k2 b4 _ (.inr (.inl Z)) g
section
variable {P:Program} {nt:Nat} {Q:Exit->Fr->AH->Prop} {A M:AH} {e:gu} {ds:List Deferred}
theorem am.rangeOwn {g:Operand} {gf:Nat} {lb:Array Value} {ps:Array Tmp} {assign body:Code} (b4 n:Nat) (xs:Nat->List Value) (I:Nat->AH->Prop) (e1:Nat->Nat->gu) (ar:Nat->fC)
    (hg:bN e g=some (.func (.func gf) #[] lb)) (eg:fu P gf) (hps:∀ i,(xs i).length=ps.size) (hpn:∀ p ∈ ps.toList,p < nt) (a3:b4 < A.n) (hM:cq b4 M A)
    (hI:∀ i B B',I i B->B'.wf->B.n<=B'.n->(∀ b o,(b < A.n\/mI b4 B b)->B.get b=some o->B'.get b=some o)->I i B')
    (hv:∀ i B,I i B->∃ v cap,B.get b4=some (.row true [v] cap)/\∀ b,blk v=some b->∃ o,B.get b=some o) (h0:I 0 A)
    (hiter:∀ l (J:Nat->AH->Prop) B M,B.n=A.n + 2->A.le B->B.wf->cq b4 M B->(∀ i C,J i C->I i C) ->
      (∀ i C C',J i C->C'.wf->C.n<=C'.n->(∀ b o,(b < B.n\/mI b4 C b)->C.get b=some o->C'.get b=some o)->J i C')->J 0 B ->
      (∀ i C M',i < n->C.wf->J i C->cq b4 M' C->ld P l (xs i).toArray C (fun v C'=>v=.bool true/\J (i + 1) C'/\C'.wf/\cq b4 M' C')) ->
      bE P gf (#[.func (.yield l) #[] #[]] ++ lb) B (fun _ C=>J n C/\C.wf/\cq b4 M C))
    (hassign:∀ F i B,wH F->i < n->d6 P nt F assign (vR fun f C=>∃ b6,B.n<=b6/\al (e1 i b6) f.e/\f.ds=[]/\B.le C/\C.wf/\C.get b6=some (ar i)) ⟨zm ps.toList (xs i) e,[]⟩ B)
    (hbody:∀ F i B b6 M',wH F->i < n->I i B->B.wf->A.n<=B.n->cq b4 M' B->A.n<=b6->B.get b6=some (ar i)->¬ mI b4 B b6->M'.get b6=none->d6 P nt F body (vR fun _ C=>I (i + 1) C/\C.wf/\cq b4 M' C) ⟨e1 i b6,[]⟩ B)
    (hK:∀ B D,I n B->B.wf->A.n<=D->A.n<=B.n->B.get D=some (.obj true (.deferred (some [])))->¬ mI b4 B D->cq b4 M B->Q .normal ⟨e,mark D :: ds⟩ B) :
    am P nt (.rangeFunc g ps assign body) Q ⟨e,ds⟩ A:=by
  intro a w ha hw
  refine wpIn_wide.1 (wpIn_rangeFunc (n:=0) ?_)
  intro fn _
  rw [show Fence.wide.round=none from rfl]
  obtain ⟨rec,hrec⟩:∃ rec:LoopState->Option Code->Loop,rec=fun st pe=>{ state:=st,pending:=pe,fn,tmps:=a.tmps,params:=ps,assign,body,defers:=w.heap.size }:=⟨_,rfl⟩
  have hsz:w.heap.size=A.n:=hw.size
  have wfA:=hw.wf
  have hA:∀ b,mI b4 A b->b < A.n:=fun b hb=>by
    obtain ⟨v,cap,g1,g2⟩:=hv 0 A h0
    rcases hb.val g1 with rfl | q
    · exact a3
    · obtain ⟨o,ho⟩:=g2 b q;exact wfA _ _ ho
  obtain ⟨v1,s1⟩:=jF (o:=.obj true (.deferred (some []))) (x:=.deferred (some [])) hw ⟨rfl,fun _ _ _ q=>by cases q⟩
  obtain ⟨v2,s2⟩:=jF (o:=.obj true (.loop (rec .ready none))) (x:=.loop (rec .ready none)) v1 ⟨rfl,fun _ _ _ q=>by cases q⟩
  have hgl:((A.new (.obj true (.deferred (some [])))).new (.obj true (.loop (rec .ready none)))).get (A.n + 1)=some (.obj true (.loop (rec .ready none))):=AH.new_get_same _ _
  have hgd:((A.new (.obj true (.deferred (some [])))).new (.obj true (.loop (rec .ready none)))).get A.n=some (.obj true (.deferred (some []))):=by
    rw [AH.new_get_ne _ _ (by simp)];exact AH.new_get_same _ _
  have hkeep:∀ b,b < A.n->((A.new (.obj true (.deferred (some [])))).new (.obj true (.loop (rec .ready none)))).get b=A.get b:=fun b hb=>by
    rw [AH.new_get_ne _ _ Or,AH.new_get_ne _ _ O]
  have hleA:A.le ((A.new (.obj true (.deferred (some [])))).new (.obj true (.loop (rec .ready none)))):=AH.le_new (AH.le_new (AH.le.refl A) wfA _) wfA _
  have hnB:((A.new (.obj true (.deferred (some [])))).new (.obj true (.loop (rec .ready none)))).n=A.n + 2:=rfl
  generalize ((A.new (.obj true (.deferred (some [])))).new (.obj true (.loop (rec .ready none))))=B0 at *
  have ad:I 0 B0:=hI 0 A _ h0 v2.wf O fun b o hb hgb=>by rw [hkeep b (wfA _ _ hgb)];exact hgb
  have aa:∀ b,mI b4 B0 b->b < A.n:=fun b hb=>hA b (hb.same (hkeep b4 a3))
  have hgev:a.eval g=.func (.func gf) #[] lb:=cB ha hg
  -- what is kept of the loop's own blocks
  have nl:b4 ≠ A.n + 1:=by omega
  refine ⟨w.heap.size + 1,[mark w.heap.size],(w.alloc (.deferred (some []))).alloc (.loop (rec .ready none)),{ target:=.fn (.func gf) lb,args:=#[.func (.yield (w.heap.size + 1)) #[] #[]] },(w.alloc (.deferred (some []))).alloc (.loop (rec .ready none)),gf,
    #[.func (.yield (w.heap.size + 1)) #[] #[]] ++ lb,(w.alloc (.deferred (some []))).alloc (.loop (rec .ready none)),?_,?_,fun _ _=>trivial,?_,fun q=>(by cases q),?_⟩
  · rw [hrec];exact run_enterLoop_outer _ _ _ _ _
  · simp only [resolve,hgev]
    simp [go_sem]
  · have eg':=eg
    unfold fu at eg'
    simp [invoke,go_sem,eg']
  · rw [hsz]
    have ai:cq b4 M B0:=⟨hM.le.trans hleA,hM.wf,fun b hb=>hM.ow b (hb.same (hkeep b4 a3))⟩
    have hcall:=hiter (A.n + 1) (fun i C=>I i C/\C.get (A.n + 1)=some (.obj true (.loop (rec .ready none)))/\C.get A.n=some (.obj true (.deferred (some [])))/\¬ mI b4 C (A.n + 1)/\¬ mI b4 C A.n) B0 M hnB hleA v2.wf ai (fun i C h=>h.1)
      (fun i C C' h wf hn hk=>?_) ⟨ad,hgl,hgd,fun q=>by have:=aa _ q;omega,fun q=>by have:=aa _ q;omega⟩ ?_
    · refine (callsIn_wide.2 (hcall.2 _ v2)).mono ?_
      rintro en w' ⟨A',hv',hs',v,rfl,⟨⟨hIn,hgl',hgd',X,a0⟩,hwf',hM'⟩⟩
      obtain ⟨q1,_⟩:=hv'.obj hgl'
      obtain ⟨v3,s3⟩:=lL P (y:=.loop { rec .ready none with state:=.exhausted }) hv' hgl' (fun _ _ _ q=>by cases q)
      refine ⟨none,w'.putObj (A.n + 1) (.loop { rec .ready none with state:=.exhausted }),by
        have h7:=run_endLoop (P:=P) q1 (by rw [hrec];simp)
        have h8:(rec .ready none).pending=none:=by rw [hrec]
        exact h7.trans (congrArg (fun j=>Result.ok j _) h8),?_⟩
      have hl':=hwf' _ _ hgl'
      refine ⟨⟨e,mark A.n :: ds⟩,_,⟨ha.size,ha.slot,by show [mark _] ++ a.defers=_;rw [ha.ds];rfl⟩,v3,((s1.trans s2).trans hs').trans s3,?_,fun _ q=>by cases q⟩
      have hset:∀ b,b ≠ A.n + 1->(A'.set (A.n + 1) (.obj true (.loop { rec .ready none with state:=.exhausted }))).get b=A'.get b:=fun b hb=>AH.set_get_ne _ _ hb
      refine hK _ A.n (hI n A' _ hIn v3.wf (Nat.le_refl _) fun b o hb hgb=>?_) v3.wf (Nat.le_refl _) Or ?_ ?_ ⟨⟨hM'.le.n,fun b o hb=>?_⟩,hM'.wf,fun b hb=>hM'.ow b (hb.same (hset b4 nl))⟩
      · rw [hset];exact hgb
        rintro rfl
        rcases hb with hb | hb
        · omega
        · exact X hb
      · rw [hset _ O];exact hgd'
      · exact fun q=>a0 (q.same (hset b4 nl))
      · have h1:=hM.le.get b o hb
        have h2:=wfA _ _ h1
        rw [hset _ O];exact hM'.le.get b o hb
    · obtain ⟨hIC,g1,g2,X,a0⟩:=h
      obtain ⟨v,cap,hr,_⟩:=hv i C hIC
      have e4:C'.get b4=C.get b4:=by rw [hr];exact hk b4 _ (.inr (.inl Z)) hr
      exact ⟨hI i C C' hIC wf hn (fun b o hb hgb=>hk b o (hb.imp (fun q=>by omega) id) hgb),hk _ _ (.inl O) g1,hk _ _ (.inl O) g2,fun q=>X (q.same e4),fun q=>a0 (q.same e4)⟩
    · rintro i C M' hi hwfC ⟨hIC,hgl',hgd',X,a0⟩ hMC w' hv'
      obtain ⟨q1,_⟩:=hv'.obj hgl'
      have hy:=run_yield (P:=P) (args:=(xs i).toArray) q1 (by rw [hrec];simpa using hps i)
      refine ⟨fn,_,assign,body,(by rw [hrec] at hy;exact hy),roundIn_of_wpIn trivial ?_⟩
      have hact:cO nt ⟨zm ps.toList (xs i) e,[]⟩ { tmps:=(ps.zip (xs i).toArray).foldl (fun t p=>t.setIfInBounds p.1 p.2) a.tmps,defers:=[] }:=by
        have:=tx (nt:=nt) (ps.toList.zip (xs i)) e a.tmps (fun p hp=>hpn _ (List.of_mem_zip hp).1) ⟨ha.size,ha.slot,rfl⟩
        rw [<- Array.foldl_toList,Array.toList_zip]
        exact this
      have av:=hassign (FR (A.n + 1)) i C (qy _) hi _ w' hact hv'
      refine wpIn_mono av ?_
      rintro x a1 w1 ⟨f1,C1,h1,h2,h3,h4,h5⟩
      cases x <;> (try exact h4.elim)
      obtain ⟨b6,aA,hE,hds,hleC,ay,ap⟩:=h4
      obtain ⟨fe,fds⟩:=f1
      simp only at hE hds
      subst hds
      obtain ⟨vC,capC,gC,lC⟩:=hv i C hIC
      have owC:∀ b,mI b4 C b->b < C.n:=fun b hb=>by
        rcases hb.val gC with rfl | q
        · exact hwfC _ _ gC
        · obtain ⟨o,ho⟩:=lC b q;exact hwfC _ _ ho
      have ac:C1.get b4=C.get b4:=by rw [gC];exact hleC.get _ _ gC
      have a4:=hleC.get _ _ hgl'
      have ab:=hleC.get _ _ hgd'
      obtain ⟨q2,_⟩:=h2.obj a4
      obtain ⟨v4,s4⟩:=lL P (y:=.loop { rec .ready none with state:=.busy }) h2 a4 (fun _ _ _ q=>by cases q)
      refine ⟨_,run_beginRound q2 (by rw [hrec]),?_⟩
      have hl':=hwfC _ _ hgl'
      have hd':=hwfC _ _ hgd'
      have hnC:=hleC.n
      have hset:∀ b,b ≠ A.n + 1->(C1.set (A.n + 1) (.obj true (.loop { rec .ready none with state:=.busy }))).get b=C1.get b:=fun b hb=>AH.set_get_ne _ _ hb
      have hsetl:(C1.set (A.n + 1) (.obj true (.loop { rec .ready none with state:=.busy }))).get (A.n + 1)=some (.obj true (.loop { rec .ready none with state:=.busy })):=AH.set_get_same _ _ _
      have hsetn:(C1.set (A.n + 1) (.obj true (.loop { rec .ready none with state:=.busy }))).n=C1.n:=rfl
      generalize C1.set (A.n + 1) (.obj true (.loop { rec .ready none with state:=.busy }))=B1 at *
      have hIB:I i B1:=hI i C _ hIC v4.wf O fun b o hb hgb=>by
        rw [hset];exact hleC.get _ _ hgb
        rintro rfl
        rcases hb with hb | hb
        · omega
        · exact X hb
      have a8:∀ b,mI b4 B1 b->mI b4 C b:=fun b hb=>(hb.same (hset b4 nl)).same ac
      have hMs:cq b4 ⟨C.n,fun b=>if b=A.n + 1 then some (.obj true (.loop { rec .ready none with state:=.busy })) else if b=A.n then some (.obj true (.deferred (some []))) else M'.get b⟩ B1:=by
        refine ⟨⟨by show C.n<=B1.n;omega,fun b o hb=>?_⟩,fun b o hb=>?_,fun b hb=>?_⟩
        · simp only at hb
          split at hb
          · rename_i q;subst q;rw [hsetl];exact hb
          · rename_i q
            rw [hset b q]
            split at hb
            · rename_i q2;subst q2;rw [ab];exact hb
            · exact hleC.get _ _ (hMC.le.get b o hb)
        · simp only at hb
          split at hb
          · show b < C.n;omega
          · split at hb
            · show b < C.n;omega
            · exact hwfC b o (hMC.le.get b o hb)
        · have h6:=a8 b hb
          simp only
          rw [if_neg (fun q:b=A.n + 1=>X (q ▸ h6)),if_neg (fun q:b=A.n=>a0 (q ▸ h6))]
          exact hMC.ow b h6
      have hb:=hbody (FR (A.n + 1)) i B1 b6 _ (qy _) hi hIB v4.wf O hMs O (by rw [hset _ O];exact ap) (fun q=>by have:=owC _ (a8 _ q);omega) (by
        simp only
        rw [if_neg O,if_neg O]
        cases q:M'.get b6 with
        | none=>rfl
        | some o=>have:=hwfC _ _ (hMC.le.get _ _ q);omega)
      refine wpIn_mono (hb _ _ (cO.le h1 hE) v4) ?_
      rintro x a2 w2 ⟨f2,A2,g1,g2,g3,g4,g5⟩
      cases x <;> (try exact g4.elim)
      obtain ⟨ag,az,V⟩:=g4
      have a7:A2.get (A.n + 1)=some (.obj true (.loop { rec .ready none with state:=.busy })):=V.le.get _ _ (if_pos Z)
      have a6:A2.get A.n=some (.obj true (.deferred (some []))):=V.le.get _ _ (by simp [show ¬ A.n=A.n + 1 by omega])
      have a5:¬ mI b4 A2 (A.n + 1):=fun q=>by have:=V.ow _ q;simp only [if_true] at this;cases this
      have a9:¬ mI b4 A2 A.n:=fun q=>by have:=V.ow _ q;simp [show ¬ A.n=A.n + 1 by omega] at this
      obtain ⟨q3,_⟩:=g2.obj a7
      obtain ⟨v5,s5⟩:=lL P (y:=.loop { ({ rec .ready none with state:=.busy }:Loop) with state:=.ready,pending:=none }) g2 a7 (fun _ _ _ q=>by cases q)
      refine ⟨_,_,run_endRound (P:=P) none q3,_,_,Z,v5,((h3.trans s4).trans g3).trans s5,Z,⟨?_,?_,?_,?_,?_⟩,v5.wf,?_⟩
      · exact hI (i + 1) A2 _ ag v5.wf (Nat.le_refl _) fun b o hb hgb=>by
          rw [AH.set_get_ne];exact hgb
          rintro rfl
          rcases hb with hb | hb
          · omega
          · exact a5 hb
      · rw [AH.set_get_same,hrec]
      · rw [AH.set_get_ne _ _ O];exact a6
      · exact fun q=>a5 (q.same (AH.set_get_ne _ _ nl))
      · exact fun q=>a9 (q.same (AH.set_get_ne _ _ nl))
      · refine ⟨⟨Nat.le_trans hMC.le.n (by have:=V.le.n;exact this),fun b o hb=>?_⟩,hMC.wf,fun b hb=>?_⟩
        · by_cases q:b=A.n + 1
          · subst q
            have h6:=hMC.le.get _ _ hb
            rw [hgl'] at h6
            rw [AH.set_get_same,<- h6,hrec]
          · rw [AH.set_get_ne _ _ q]
            by_cases q2:b=A.n
            · subst q2;rw [a6,<- hMC.le.get _ _ hb,hgd']
            · exact V.le.get b o (by simp only;rw [if_neg q,if_neg q2];exact hb)
        · have h6:mI b4 A2 b:=hb.same (AH.set_get_ne _ _ nl)
          have h7:=V.ow b h6
          simp only at h7
          rw [if_neg (fun q:b=A.n + 1=>a5 (q ▸ h6)),if_neg (fun q:b=A.n=>a9 (q ▸ h6))] at h7
          exact h7
end
end V
end Go.Proofs.YtjppkekmddjcfaaGreatDoor

namespace Go.Proofs.YtjppkekmddjcfaaGreatDoor
open Go Go.RowKit V
section
variable {α:Type} {f:α->List Value} {n:Nat} {z:α}
theorem rk (hf:∀ a,(f a).length=n) (l:List α):(l.flatMap f).length=l.length * n:=by
  induction l with
  | nil=>simp
  | cons a l ih=>rw [List.flatMap_cons,List.length_append,ih,hf,List.length_cons,Nat.add_mul];omega
theorem Mc (hf:∀ a,(f a).length=n) (l:List α) (i:Nat):(l.flatMap f).drop (i * n)=(l.drop i).flatMap f:=by
  induction l generalizing i with
  | nil=>simp
  | cons a l ih =>
    cases i with
    | zero=>simp
    | succ i =>
      rw [List.flatMap_cons,show (i + 1) * n=(f a).length + i * n by rw [hf,Nat.add_mul];omega,<- List.drop_drop,List.drop_left]
      exact ih i
theorem DT (hf:∀ a,(f a).length=n) {l:List α} {i:Nat} (h:i < l.length):((l.flatMap f).drop (i * n)).take n=f (l.getD i z):=by
  rw [Mc hf,List.drop_eq_getElem_cons h]
  have e:l.getD i z=l[i]:=by simp [h]
  rw [e,List.flatMap_cons]
  exact List.take_left' (hf _)
theorem uC (hf:∀ a,(f a).length=n) {l:List α} {i k:Nat} (h:i < l.length) (hk:k < n):(l.flatMap f)[i * n + k]? = (f (l.getD i z))[k]?:=by
  rw [<- DT hf h,List.getElem?_take_of_lt hk,List.getElem?_drop]
end
abbrev Wd:=List UInt8
def yf (s:Wd × Wd):List Value:=[bf s.1,bf s.2]
def gt (l:List (Wd × Wd)):List Value:=l.flatMap yf
theorem dC (l:List (Wd × Wd)):(gt l).length=l.length * 2:=rk (f:=yf) (n:=2) (fun _=>rfl) l
theorem rG (l:List (Wd × Wd)):(gt l).length=l.length * 2:=dC l
theorem re (a b:List (Wd × Wd)):gt a ++ gt b=gt (a ++ b):=by simp [gt]
theorem Ks {l:List (Wd × Wd)} {i:Nat} (h:i < l.length):((gt l).drop (i * 2)).take 2=yf (l.getD i ([],[])):=DT (f:=yf) (n:=2) (fun _=>rfl) h
theorem yg {l:List (Wd × Wd)} {i:Nat} (h:i < l.length):(gt l)[i * 2 + 0]? = some (bf (l.getD i ([],[])).1):=uC (f:=yf) (n:=2) (fun _=>rfl) h U
theorem qF {l:List (Wd × Wd)} {i:Nat} (h:i < l.length):(gt l)[i * 2 + 1]? = some (bf (l.getD i ([],[])).2):=uC (f:=yf) (n:=2) (fun _=>rfl) h U
structure CP where
  i:Int
  j:Int
  word:Wd
  u:Wd
  v:Wd
deriving DecidableEq
def CP.zero:CP:=⟨0,0,[],[],[]⟩
def cp (c:CP):List Value:=[num c.i,num c.j,bf c.word,bf c.u,bf c.v]
abbrev QK (c:CP):Value:=.agg #[num c.i,num c.j,bf c.word,bf c.u,bf c.v]
def DA (l:List CP):List Value:=l.flatMap cp
theorem nF (l:List CP):(DA l).length=l.length * 5:=rk (f:=cp) (n:=5) (fun _=>rfl) l
theorem Gh (l:List CP):(DA l).length=l.length * 5:=nF l
theorem DB (a b:List CP):DA a ++ DA b=DA (a ++ b):=by simp [DA]
theorem TH {l:List CP} {i:Nat} (h:i < l.length):((DA l).drop (i * 5)).take 5=cp (l.getD i .zero):=DT (f:=cp) (n:=5) (fun _=>rfl) h
def Tq (x:Nat):Wd:=[bZ.getD x 0,bZ.getD (x ^^^ 1) 0]
def aM (g:Int) (rs:List be):List (Wd × Wd):=rs.map (fun r=>(r.left,r.right)) ++ (List.range (2 * g.toNat)).map fun x=>(Tq x,[])
def nm (n i:Nat):Int:=if i < n then (i:Int) else -1 - ((i:Int) - (n:Int))
def p1 (u v:Wd) (k:Nat):Bool:=decide (1<=k) && decide (u.length - k < v.length) && decide (u.drop k=v.take (u.length - k))
def p2 (u v:Wd) (k:Nat):Bool:=decide (k + v.length<=u.length) && decide ((u.take (k + v.length)).drop k=v)
abbrev c1 (I J:Int) (a b:Wd × Wd) (k:Nat):CP:=⟨I,J,a.1 ++ b.1.drop (a.1.length - k),a.2 ++ b.1.drop (a.1.length - k),a.1.take k ++ b.2⟩
abbrev c2 (I J:Int) (a b:Wd × Wd) (k:Nat):CP:=⟨I,J,a.1,a.2,a.1.take k ++ b.2 ++ a.1.drop (k + b.1.length)⟩
def sD (I J:Int) (a b:Wd × Wd) (n:Nat):List CP:=((List.range n).filter (p1 a.1 b.1)).map (c1 I J a b)
def vw (I J:Int) (a b:Wd × Wd) (n:Nat):List CP:=((List.range n).filter (p2 a.1 b.1)).map (c2 I J a b)
def li (I J:Int) (same:Bool) (a b:Wd × Wd):List CP:=sD I J a b a.1.length ++ if same then [] else vw I J a b (a.1.length + 1)
theorem EW {rs:List be} {i:Nat} (h:i < rs.length):(rs.take i).map (fun r=>(r.left,r.right)) ++ [((rs.getD i .zero).left,(rs.getD i .zero).right)]=(rs.take (i + 1)).map (fun r=>(r.left,r.right)):=by
  have e:rs.getD i .zero=rs[i]:=by simp [h]
  rw [List.take_succ_eq_append_getElem h,List.map_append,e];rfl
theorem Te {x:Nat} (h:x < 16):x ^^^ 1 < 16:=by
  have:∀ a:Fin 16,a.1 ^^^ 1 < 16:=by decide
  exact this ⟨x,h⟩
theorem MG {x:Nat} (h:x < 16):([ek 97,ek 65,ek 98,ek 66,ek 99,ek 67,ek 100,ek 68,ek 101,ek 69,ek 102,ek 70,ek 103,ek 71,ek 104,ek 72]:List Value)[0 + x * 1]? = some (ek (bZ.getD x 0)):=by
  rw [Nat.zero_add,Nat.mul_one]
  have:∀ a:Fin 16,([97,65,98,66,99,67,100,68,101,69,102,70,103,71,104,72]:List UInt8)[a.1]? = some (bZ.getD a.1 0):=by decide
  have h2:=congrArg (Option.map ek) (this ⟨x,h⟩)
  rw [<- List.getElem?_map] at h2
  exact h2
section
variable {I J:Int} {a b:Wd × Wd} {n k:Nat} {same:Bool}
theorem vH:sD I J a b (n + 1)=if p1 a.1 b.1 n then sD I J a b n ++ [c1 I J a b n] else sD I J a b n:=by
  unfold sD
  rw [List.range_succ,List.filter_append,List.map_append]
  by_cases h:p1 a.1 b.1 n=true <;> simp [h]
theorem rX:vw I J a b (n + 1)=if p2 a.1 b.1 n then vw I J a b n ++ [c2 I J a b n] else vw I J a b n:=by
  unfold vw
  rw [List.range_succ,List.filter_append,List.map_append]
  by_cases h:p2 a.1 b.1 n=true <;> simp [h]
theorem M9 (h:n<=k):sD I J a b n <+: sD I J a b k:=by
  induction k with
  | zero => obtain rfl : n = 0 := by omega
            exact List.prefix_refl _
  | succ k ih =>
    rcases Nat.lt_or_ge k n with q | q
    · obtain rfl:n=k + 1:=by omega
      exact List.prefix_refl _
    · refine (ih q).trans ?_
      rw [vH];split
      · exact List.prefix_append _ _
      · exact List.prefix_refl _
theorem Mj (h:n<=k):vw I J a b n <+: vw I J a b k:=by
  induction k with
  | zero => obtain rfl : n = 0 := by omega
            exact List.prefix_refl _
  | succ k ih =>
    rcases Nat.lt_or_ge k n with q | q
    · obtain rfl:n=k + 1:=by omega
      exact List.prefix_refl _
    · refine (ih q).trans ?_
      rw [rX];split
      · exact List.prefix_append _ _
      · exact List.prefix_refl _
theorem py {α:Type} {p q l:List α} {x z:α} (h:p ++ [x] <+: l):p.length < l.length/\l.getD p.length z=x:=by
  obtain ⟨t,rfl⟩:=h
  simp
theorem RD (h1:1<=n) (hn:n < a.1.length) (h2:a.1.length - n < b.1.length) (h3:a.1.drop n=b.1.take (a.1.length - n)) :
    (sD I J a b n).length < (li I J same a b).length/\(li I J same a b).getD (sD I J a b n).length .zero=c1 I J a b n/\(sD I J a b (n + 1)).length=(sD I J a b n).length + 1:=by
  have hp:p1 a.1 b.1 n=true:=by simp [p1,h1,h2,h3]
  have e:sD I J a b (n + 1)=sD I J a b n ++ [c1 I J a b n]:=by rw [vH,if_pos hp]
  have hq:sD I J a b n ++ [c1 I J a b n] <+: li I J same a b:=e ▸ (M9 O).trans (List.prefix_append _ _)
  exact ⟨(py (z:=CP.zero) (q:=[]) hq).1,(py (q:=[]) hq).2,by rw [e];simp⟩
theorem Em (h:¬ (1<=n/\a.1.length - n < b.1.length/\a.1.drop n=b.1.take (a.1.length - n))):(sD I J a b (n + 1)).length=(sD I J a b n).length:=by
  rw [vH,if_neg]
  simp only [p1,Bool.and_eq_true,decide_eq_true_eq]
  exact fun q=>h ⟨q.1.1,q.1.2,q.2⟩
theorem Rc (hs:same=false) (hn:n + b.1.length<=a.1.length) (h3:(a.1.take (n + b.1.length)).drop n=b.1) :
    (sD I J a b a.1.length).length + (vw I J a b n).length < (li I J same a b).length/\(li I J same a b).getD ((sD I J a b a.1.length).length + (vw I J a b n).length) .zero=c2 I J a b n/\(vw I J a b (n + 1)).length=(vw I J a b n).length + 1:=by
  have hp:p2 a.1 b.1 n=true:=by simp [p2,hn,h3]
  have e:vw I J a b (n + 1)=vw I J a b n ++ [c2 I J a b n]:=by rw [rX,if_pos hp]
  have hq:(sD I J a b a.1.length ++ vw I J a b n) ++ [c2 I J a b n] <+: li I J same a b:=by
    unfold li
    rw [hs,List.append_assoc,<- e]
    exact (List.prefix_append_right_inj _).2 (Mj O)
  have:=py (z:=CP.zero) (q:=[]) hq
  rw [List.length_append] at this
  exact ⟨this.1,this.2,by rw [e];simp⟩
theorem Ue (h:¬ (a.1.take (n + b.1.length)).drop n=b.1):(vw I J a b (n + 1)).length=(vw I J a b n).length:=by
  rw [rX,if_neg]
  simp only [p2,Bool.and_eq_true,decide_eq_true_eq]
  exact fun q=>h q.2
theorem QZ (h:¬ n + b.1.length<=a.1.length) (hk:n<=k):vw I J a b k=vw I J a b n:=by
  induction k with
  | zero => obtain rfl : n = 0 := by omega
            rfl
  | succ k ih =>
    rcases Nat.lt_or_ge k n with q | q
    · obtain rfl:n=k + 1:=by omega
      rfl
    · rw [rX,if_neg,ih q]
      simp only [p2,Bool.and_eq_true,decide_eq_true_eq]
      exact fun q=>by omega
theorem IM (hs:same=true):(li I J same a b).length=(sD I J a b a.1.length).length:=by simp [li,hs]
theorem Li (hs:same=false) (h:¬ n + b.1.length<=a.1.length) (hn:n<=a.1.length + 1):(li I J same a b).length=(sD I J a b a.1.length).length + (vw I J a b n).length:=by
  rw [li,hs,List.length_append,if_neg (by simp),QZ h hn]
theorem JH:(sD I J a b 1).length=0:=by
  rw [Em O];rfl
end
def Wi (I J:Int) (c:CP):CP:=⟨I,J,c.word,c.u,c.v⟩
abbrev d7 (L:List (Wd × Wd)) (i j:Nat):List CP:=li (i:Int) (j:Int) (decide (i=j)) (L.getD i ([],[])) (L.getD j ([],[]))
def tH (n:Nat) (L:List (Wd × Wd)) (i j:Nat):List CP:=if n<=i/\n<=j then [] else (d7 L i j).map (Wi (nm n i) (nm n j))
def Ca (n:Nat) (L:List (Wd × Wd)) (i k:Nat):List CP:=(List.range k).flatMap (tH n L i)
def sI (n:Nat) (L:List (Wd × Wd)) (i j:Nat):List CP:=((List.range i).flatMap fun i=>Ca n L i L.length) ++ Ca n L i j
def jC (n:Nat) (L:List (Wd × Wd)):List CP:=(List.range L.length).flatMap fun i=>Ca n L i L.length
def bh (g:Int) (rs:List be):List CP:=jC rs.length (aM g rs)
theorem oe (g:Int) (rs:List be):(aM g rs).length=rs.length + 2 * g.toNat:=by simp [aM]
theorem tD {g:Int} {rs:List be} (hg:1<=g/\g<=8) (hw:∀ r ∈ rs,0 < r.left.length/\r.left.length<=1000/\r.right.length<=1000):∀ s ∈ aM g rs,0 < s.1.length/\s.1.length<=100000/\s.2.length<=100000:=fun s hs=>by
  rcases List.mem_append.1 hs with h | h
  · obtain ⟨r,hr,rfl⟩:=List.mem_map.1 h
    have:=hw r hr
    exact ⟨this.1,by show r.left.length<=_;omega,by show r.right.length<=_;omega⟩
  · obtain ⟨x,hx,rfl⟩:=List.mem_map.1 h
    exact ⟨Nat.zero_lt_succ _,by show (2:Nat)<=100000;omega,by show (0:Nat)<=100000;omega⟩
theorem sg {bo:Nat} {A B N:AH} {v:Value} {cap:Nat} (r:cq bo N B) (gY:B.get bo=some (.row true [v] cap)) (gZ:A.get bo=some (.row true [v] cap)):∀ b,some b ∈ [some bo,blk v]->N.get b=none:=fun b hb=>by
  simp only [List.mem_cons,List.not_mem_nil,or_false,Option.some.injEq] at hb
  rcases hb with rfl | hb
  · exact r.ow _ (.inl Z)
  · exact r.ow _ (.inr ⟨_,_,gY,hb.symm⟩)
theorem _root_.Go.Proofs.YtjppkekmddjcfaaGreatDoor.V.Fresh.owk {A0 A B:AH} {v:Value} {n:Nat} {xs:List Value} (h:Fresh A0 A v n xs) (k:∀ b o,blk v=some b->A.get b=some o->B.get b=some o):Fresh A0 B v n xs:=⟨by
  rcases h.own with h | ⟨b',m,c,r,rcap,rfl,h2,h3⟩
  · exact .inl h
  · exact .inr ⟨b',m,c,r,rcap,Z,k _ _ Z h2,h3⟩,h.lo⟩
theorem fJ {α:Type} {l:List α} {i:Nat} {z:α} (h:i < l.length):l.take i ++ [l.getD i z]=l.take (i + 1):=by
  have e:l.getD i z=l[i]:=by simp [h]
  rw [List.take_succ_eq_append_getElem h,e]
section
variable {n i j k:Nat} {L:List (Wd × Wd)}
theorem ur:sI n L i (j + 1)=sI n L i j ++ tH n L i j:=by simp [sI,Ca,List.range_succ]
theorem C8:sI n L (i + 1) 0=sI n L i L.length:=by simp [sI,Ca,List.range_succ]
theorem KQ:sI n L L.length 0=jC n L:=by simp [sI,Ca,jC]
theorem zG (h:j<=k):sI n L i j <+: sI n L i k:=by
  induction k with
  | zero => obtain rfl : j = 0 := by omega
            exact List.prefix_refl _
  | succ k ih =>
    rcases Nat.lt_or_ge k j with q | q
    · obtain rfl:j=k + 1:=by omega
      exact List.prefix_refl _
    · rw [ur];exact (ih q).trans (List.prefix_append _ _)
theorem KU (h:i<=k):sI n L i 0 <+: sI n L k 0:=by
  induction k with
  | zero => obtain rfl : i = 0 := by omega
            exact List.prefix_refl _
  | succ k ih =>
    rcases Nat.lt_or_ge k i with q | q
    · obtain rfl:i=k + 1:=by omega
      exact List.prefix_refl _
    · rw [C8];exact (ih q).trans (zG (Nat.zero_le _))
theorem II (hi:i < L.length) (hj:j<=L.length):sI n L i j <+: jC n L:=by
  rw [<- KQ]
  refine (zG hj).trans ?_
  rw [<- C8]
  exact KU hi
theorem Qc (h:n<=i/\n<=j):(sI n L i (j + 1)).length=(sI n L i j).length:=by rw [ur,tH,if_pos h,List.append_nil]
theorem KS (h:¬ (n<=i/\n<=j)):(sI n L i (j + 1)).length=(sI n L i j).length + (d7 L i j).length:=by
  rw [ur,tH,if_neg h,List.length_append,List.length_map]
theorem KR (hi:i < L.length) (hj:j < L.length) (h:¬ (n<=i/\n<=j)) (hk:k < (d7 L i j).length) :
    (sI n L i j).length + k < (jC n L).length/\(jC n L).getD ((sI n L i j).length + k) .zero=Wi (nm n i) (nm n j) ((d7 L i j).getD k .zero):=by
  obtain ⟨t,ht⟩:=II (n:=n) (j:=j + 1) hi hj
  rw [ur,tH,if_neg h] at ht
  rw [<- ht]
  refine ⟨by simp only [List.length_append,List.length_map];omega,?_⟩
  rw [List.append_assoc]
  simp only [List.getD_eq_getElem?_getD]
  rw [List.getElem?_append_right O,Nat.add_sub_cancel_left,List.getElem?_append_left (by simpa using hk),List.getElem?_map,List.getElem?_eq_getElem hk]
  rfl
end
end Go.Proofs.YtjppkekmddjcfaaGreatDoor

namespace Go.Proofs.YtjppkekmddjcfaaGreatDoor
open Go Go.RowKit V
def fP (rs:List be):List CP->Bool × CP × Nat
  | []=>(true,.zero,0)
  | p :: t=>match eI rs p.u,eI rs p.v with
    | some a,some b=>if a.word=b.word then fP rs t else (false,p,0)
    | _,_=>(false,.zero,2)
def mh (rs:List be):Bool->List Wd->Bool × Nat
  | t,[]=>(t,0)
  | t,w :: ws=>match eI rs w with
    | none=>(false,2)
    | some r=>mh rs (t && decide (r.word=[])) ws
section
variable {rs:List be} {l:List CP} {i:Nat} {R:Bool × CP × Nat}
theorem Pn (hi:l.length<=i) (h:fP rs (l.drop i)=R):R=(true,.zero,0):=by
  rw [<- h,List.drop_eq_nil_of_le hi];rfl
theorem tM {α:Type} {l:List α} {i:Nat} {z:α} (hi:i < l.length):l.drop i=l.getD i z :: l.drop (i + 1):=by
  rw [List.drop_eq_getElem_cons hi];simp [hi]
theorem Cx (hi:i < l.length) (h:fP rs (l.drop i)=R) (q:(!(eI rs (l.getD i .zero).u).isSome)=true\/(!(eI rs (l.getD i .zero).v).isSome)=true):R=(false,.zero,2):=by
  rw [<- h,tM (z:=CP.zero) hi,fP]
  rcases q with q | q
  · rw [si q]
  · rw [si q];cases eI rs (l.getD i .zero).u <;> rfl
theorem Pm (hi:i < l.length) (h:fP rs (l.drop i)=R) (q1:(!(eI rs (l.getD i .zero).u).isSome)=false) (q2:(!(eI rs (l.getD i .zero).v).isSome)=false) (hne:¬ (fk (eI rs (l.getD i .zero).u)).word=(fk (eI rs (l.getD i .zero).v)).word):R=(false,l.getD i .zero,0):=by
  rw [<- h,tM (z:=CP.zero) hi,fP,pD q1,pD q2]
  simp only
  rw [if_neg hne]
theorem Kn (hi:i < l.length) (h:fP rs (l.drop i)=R) (q1:(!(eI rs (l.getD i .zero).u).isSome)=false) (q2:(!(eI rs (l.getD i .zero).v).isSome)=false) (he:¬ ¬ (fk (eI rs (l.getD i .zero).u)).word=(fk (eI rs (l.getD i .zero).v)).word):fP rs (l.drop (i + 1))=R:=by
  rw [<- h,tM (z:=CP.zero) hi]
  conv=>rhs;rw [fP,pD q1,pD q2]
  simp only
  rw [if_pos (Decidable.not_not.1 he)]
end
section
variable {rs:List be} {l:List Wd} {i:Nat} {t:Bool} {R:Bool × Nat}
theorem yd (hi:l.length<=i) (h:mh rs t (l.drop i)=R):R=(t,0):=by
  rw [<- h,List.drop_eq_nil_of_le hi];rfl
theorem Kj (hi:i < l.length) (h:mh rs t (l.drop i)=R) (q:(!(eI rs (l.getD i [])).isSome)=true):R=(false,2):=by
  rw [<- h,tM (z:=[]) hi,mh,si q]
theorem wj (hi:i < l.length) (h:mh rs t (l.drop i)=R) (q:(!(eI rs (l.getD i [])).isSome)=false):mh rs (t && decide ((fk (eI rs (l.getD i []))).word=[])) (l.drop (i + 1))=R:=by
  rw [<- h,tM (z:=[]) hi]
  conv=>rhs;rw [mh,pD q]
end
def du (g:Int) (l:List Wd) (rs:List be):Bool × CP × Nat:=if bW g l rs then fP rs (bh g rs) else (false,.zero,100)
def nz (g:Int) (l:List Wd) (rs:List be):Bool × Nat:=if (du g l rs).2.2=0 then (if (mh rs true l).2=0 then ((du g l rs).1 && (mh rs true l).1,0) else (false,(mh rs true l).2)) else (false,(du g l rs).2.2)
section
variable {g:Int} {l:List Wd} {rs:List be}
theorem QF (h:(!bW g l rs)=true):du g l rs=(false,.zero,100):=by simp_all [du]
theorem QG (h:(!bW g l rs)=false):du g l rs=fP rs (bh g rs):=by simp_all [du]
theorem Ly (h:¬ (du g l rs).2.2=0):nz g l rs=(false,(du g l rs).2.2):=by rw [nz,if_neg h]
theorem Lz (h:¬ ¬ (du g l rs).2.2=0) (q:mh rs true l=(false,2)):nz g l rs=(false,2):=by
  rw [nz,if_pos (Decidable.not_not.1 h),q];rfl
theorem zX {t:Bool} (h:¬ ¬ (du g l rs).2.2=0) (q:mh rs true l=(t,0)):nz g l rs=((du g l rs).1 && t,0):=by
  rw [nz,if_pos (Decidable.not_not.1 h),q];rfl
theorem sQ (h:¬ ¬ (du g l rs).2.2=0):bW g l rs=true:=by
  have h:=Decidable.not_not.1 h
  cases q:bW g l rs with
  | true=>rfl
  | false=>simp [du,q] at h
theorem pX (hs:bW g l rs=true):1<=g/\g<=8:=(c0 (gV hs).1).1
theorem Px (hs:bW g l rs=true):∀ r ∈ rs,0 < r.left.length/\r.left.length<=1000/\r.right.length<=1000:=fun r hr=>by
  have h1:=lI hs hr
  have h2:=na hs hr
  omega
end
end Go.Proofs.YtjppkekmddjcfaaGreatDoor

namespace Go.Proofs.YtjppkekmddjcfaaGreatDoor
open Go Go.RowKit V
def eh (l:List Value):List Value:=l
theorem cm (l:List Value):(eh l).length=l.length:=rfl
theorem iZ (l:List Value):(eh l).length=l.length * 1:=by simp [eh]
theorem eH {l:List Value} {i:Nat} (h:i < l.length):(eh l)[i]? = some (l.getD i undef):=by simp [eh,h]
theorem pC (a b:List Value):eh a ++ eh b=eh (a ++ b):=rfl
theorem NI (a:List Value) (n:Nat) (c:Value):(eh a).set n c=eh (a.set n c):=rfl
structure gW (A0 A:AH) (rows:List Value) (L:List (List Int)):Prop where
  len:rows.length=L.length
  fr:∀ i,i < L.length->Fresh A0 A (rows.getD i undef) 1 (cJ (L.getD i []))
  sp:∀ i j,i < L.length->j < L.length->i ≠ j->bk (rows.getD i undef) (rows.getD j undef)
def dE (rows:List Value) (b:Nat):Prop:=∀ r ∈ rows,blk r ≠ some b
def aK (v:Value) (rows:List Value):Prop:=∀ r ∈ rows,bk v r
theorem mC {A0 A:AH} {rows:List Value} {L L':List (List Int)} (h:gW A0 A rows L) (e:L=L'):gW A0 A rows L':=e ▸ h
theorem _root_.Go.Proofs.YtjppkekmddjcfaaGreatDoor.V.Fresh.at1 {A0 A:AH} {v:Value} {xs:List Value} {x:Nat} (fr:Fresh A0 A v 1 xs) (hx:x < xs.length):∃ b n c r rcap,v=.slice (some ⟨b,0,none⟩) n c/\n=xs.length/\A.get b=some (.row true r rcap)/\x < r.length/\A0.get b=none/\r.take n=xs /\
    ∀ (w:Value) A1,uj A A1 b (.row true (r.set x w) rcap)->Fresh A0 A1 v 1 (xs.set x w):=by
  obtain ⟨b,n,c,e,h1,h2⟩:=fr.nonnil (by intro q;rw [q] at hx;simp at hx)
  have lo:=fr.lo b (by rw [e];rfl)
  subst e
  obtain ⟨r,rcap,g,h3,h4⟩:=fr.row
  rw [Nat.mul_one] at h1 h3
  have hl:n<=r.length:=by have:=congrArg List.length h3;rw [List.length_take] at this;omega
  exact ⟨b,n,c,r,rcap,rfl,h1,g,by omega,lo,h3,fun w A1 sb=>fr.setc g sb⟩
section
variable {A0 A A1:AH} {rows:List Value} {L:List (List Int)} {b s x:Nat} {v v':Value} {size:Nat} {xs:List Value} {r:List Int} {o:fC}
theorem m9 {p:Value->Prop} (hl:rows.length=L.length) (h:∀ i,i < L.length->p (rows.getD i undef)):∀ r ∈ rows,p r:=fun r hr=>by
  obtain ⟨i,hi,rfl⟩:=List.getElem_of_mem hr
  have:=h i O
  simpa [hi] using this
theorem d4 {p:Value->Prop} (h:∀ r ∈ rows,p r) (hi:s < rows.length):p (rows.getD s undef):=h _ (bi (d:=undef) hi)
theorem gW.nil:gW A0 A [] []:=⟨rfl,(fun _ h=>by cases h),(fun _ _ h=>by cases h)⟩
theorem gW.le (h:gW A0 A rows L) (le:A.le A1):gW A0 A1 rows L:=⟨h.len,fun i hi=>(h.fr i hi).le le,h.sp⟩
theorem gW.base {M:AH} (h:gW M A rows L) (le:A0.le M):gW A0 A rows L:=⟨h.len,fun i hi=>(h.fr i hi).base le,h.sp⟩
theorem gW.keep (h:gW A0 A rows L) (k:∀ b' o,b' ≠ b->A.get b'=some o->A1.get b'=some o) (n:dE rows b):gW A0 A1 rows L :=
  ⟨h.len,fun i hi=>(h.fr i hi).keep k (d4 n (by rw [h.len];exact hi)),h.sp⟩
theorem gW.appd {zs:List Value} {n:Nat} (h:gW A0 A rows L) (ap:mu A v n zs v' A1) (hs:aK v rows):gW A0 A1 rows L :=
  ⟨h.len,fun i hi=>(h.fr i hi).appd ap (d4 hs (by rw [h.len];exact hi)),h.sp⟩
theorem aK.nil:aK (.slice none 0 0) rows:=fun _ _=>bk.nil
theorem aK.empty:aK v []:=fun _ h=>by cases h
theorem aK.appd {zs:List Value} {n:Nat} (hs:aK v rows) (h:gW A0 A rows L) (wf:A.wf) (ap:mu A v n zs v' A1):aK v' rows :=
  m9 h.len fun i hi=>bk.appd (d4 hs (by rw [h.len];exact hi)) (h.fr i hi).own wf ap
theorem aK.new {n c:Nat} (h:dE rows b):aK (.slice (some ⟨b,0,none⟩) n c) rows:=fun r hr k hk hq=>by cases hk;exact h r hr hq
theorem aK.fresh {n:Nat} (h:gW A0 A rows L) (fr:Fresh A A1 v n xs):aK v rows:=m9 h.len fun i hi c hv hc=>by
  obtain ⟨o,ho⟩:=(h.fr i hi).own.blkget hc
  rw [fr.lo c hv] at ho;cases ho
theorem gW.ne_new (h:gW A0 A rows L) (wf:A.wf) (hb:A.n<=b):dE rows b:=m9 h.len fun i hi=>(h.fr i hi).own.ne_new wf hb
theorem gW.ne (h:gW A0 A rows L) (hb:A0.get b=some o):dE rows b:=m9 h.len fun i hi=>(h.fr i hi).seph hb
theorem dE.snoc (h:dE rows b) (hv:V.blk v ≠ some b):dE (rows ++ [v]) b:=fun r hr=>by
  rcases List.mem_append.1 hr with q | q
  · exact h r q
  · rw [List.mem_singleton] at q;subst q;exact hv
theorem aK.snoc {u:Value} (h:aK u rows) (hv:bk u v):aK u (rows ++ [v]):=fun r hr=>by
  rcases List.mem_append.1 hr with q | q
  · exact h r q
  · rw [List.mem_singleton] at q;subst q;exact hv
theorem gW.snoc (h:gW A0 A rows L) (fr:Fresh A0 A v 1 (cJ r)) (hs:aK v rows):gW A0 A (rows ++ [v]) (L ++ [r]):=by
  have e1:∀ i,i < L.length->(rows ++ [v]).getD i undef=rows.getD i undef:=fun i hi=>by simp [List.getElem?_append_left (show i < rows.length by rw [h.len];exact hi)]
  have e2:(rows ++ [v]).getD L.length undef=v:=by rw [<- h.len];simp
  have e3:∀ i,i < L.length->(L ++ [r]).getD i []=L.getD i []:=fun i hi=>by simp [List.getElem?_append_left hi]
  have e4:(L ++ [r]).getD L.length []=r:=by simp
  refine ⟨by simp [h.len],fun i hi=>?_,fun i j hi hj hij=>?_⟩
  · rcases Nat.lt_or_ge i L.length with q | q
    · rw [e1 i q,e3 i q];exact h.fr i q
    · obtain rfl:i=L.length:=by simp at hi;omega
      rw [e2,e4];exact fr
  · rcases Nat.lt_or_ge i L.length with q | q
    · rcases Nat.lt_or_ge j L.length with q2 | q2
      · rw [e1 i q,e1 j q2];exact h.sp i j q q2 hij
      · obtain rfl:j=L.length:=by simp at hj;omega
        rw [e1 i q,e2];exact (d4 hs (by rw [h.len];exact q)).symm
    · obtain rfl:i=L.length:=by simp at hi;omega
      rcases Nat.lt_or_ge j L.length with q2 | q2
      · rw [e2,e1 j q2];exact d4 hs (by rw [h.len];exact q2)
      · obtain rfl:j=L.length:=by simp at hj;omega
        exact absurd Z hij
theorem gW.hideAll {l:List (Option Nat)} (h:gW A0 A rows L):gW (A.hide (l ++ rows.map V.blk)) A rows L :=
  ⟨h.len,fun i hi=>(h.fr i hi).hide (List.mem_append.2 (.inr (List.mem_map.2 ⟨_,bi (d:=undef) (by rw [h.len];exact hi),rfl⟩))),h.sp⟩
theorem DU {l:List (Option Nat)} (t:∀ b,some b ∈ l->A0.get b=none) (h:gW A0 A rows L):∀ b,some b ∈ l ++ rows.map V.blk->A0.get b=none:=fun b hb=>by
  rcases List.mem_append.1 hb with q | q
  · exact t b q
  · obtain ⟨r,hr,e⟩:=List.mem_map.1 q
    exact m9 (p:=fun r=>∀ b,V.blk r=some b->A0.get b=none) h.len (fun i hi=>(h.fr i hi).lo) r hr b e
theorem yX {l:List (Option Nat)} {k:Nat} (t:some k ∉ l) (h:dE rows k):some k ∉ l ++ rows.map V.blk:=fun hb=>by
  rcases List.mem_append.1 hb with q | q
  · exact t q
  · obtain ⟨r,hr,e⟩:=List.mem_map.1 q
    exact h r hr e
theorem ma {l:List (Option Nat)} {u:Value} (t:KH u l) (h:aK u rows):KH u (l ++ rows.map V.blk):=fun c hc hb=>by
  rcases List.mem_append.1 hb with q | q
  · exact t c hc q
  · obtain ⟨r,hr,e⟩:=List.mem_map.1 q
    exact h r hr c hc e
theorem gW.sepOff {bs:List (Option Nat)} {u:Value} {n:Nat} (h:gW (A.hide bs) A1 rows L) (hu:o0 A u n xs) (o:KH u bs):aK u rows:=m9 h.len fun i hi=>((h.fr i hi).sep hu o).symm
theorem Jc {k i:Nat} (h:i < k):(List.replicate i (-1:Int) ++ List.replicate (k - i) 0).set i (-1)=List.replicate (i + 1) (-1) ++ List.replicate (k - (i + 1)) 0:=by
  rw [List.set_append_right _ _ (by simp),List.length_replicate,Nat.sub_self,show k - i=(k - (i + 1)) + 1 by omega,List.replicate_succ,List.set_cons_zero,List.replicate_succ' (n:=i)]
  simp
theorem r8 {α β:Type} (f:α->β) {l:List α} {i:Nat} {z:α} (h:i < l.length):(l.take i).map f ++ [f (l.getD i z)]=(l.take (i + 1)).map f:=by
  rw [<- fJ (z:=z) h,List.map_append];rfl
theorem dU {α:Type} {l:List α} {i j:Nat} {a d:α} (hi:i < l.length):(l.set i a).getD j d=if j=i then a else l.getD j d:=by
  simp only [List.getD_eq_getElem?_getD,List.getElem?_set]
  by_cases h:i=j
  · subst h;simp [hi]
  · rw [if_neg h,if_neg (fun q=>h q.symm)]
theorem Cy {n:Nat} {u:Value}:aK u (List.replicate n (.slice none 0 0)):=fun r hr=>by rw [(List.mem_replicate.1 hr).2];exact bk.nil.symm
theorem Rn {r:Value} (h:r ∈ rows.set s v):r ∈ rows\/r=v:=List.mem_or_eq_of_mem_set h
theorem ER {u:Value} (h:aK u rows) (hv:bk u v):aK u (rows.set s v):=fun r hr=>by
  rcases Rn hr with q | q
  · exact h r q
  · subst q;exact hv
theorem gW.nils {n:Nat}:gW A0 A (List.replicate n (.slice none 0 0)) (List.replicate n []):=by
  have e:∀ i,i < n->(List.replicate n (Value.slice none 0 0)).getD i undef=.slice none 0 0:=fun i hi=>by simp [hi]
  refine ⟨by simp,fun i hi=>?_,fun i j hi hj _=>?_⟩
  · rw [List.length_replicate] at hi
    rw [e i hi,show (List.replicate n ([]:List Int)).getD i []=[] by simp [hi]]
    exact Fresh.nil _ _ _
  · rw [List.length_replicate] at hi
    rw [e i hi];exact bk.nil
theorem gW.appRow {y:List Int} (h:gW A0 A rows L) (wf:A.wf) (hs:s < L.length) (ap:mu A (rows.getD s undef) 1 (cJ y) v A1) (fr:Fresh A0 A1 v 1 (cJ y)):gW A0 A1 (rows.set s v) (L.set s y):=by
  have hsr:s < rows.length:=by rw [h.len];exact hs
  refine ⟨by simp [h.len],fun i hi=>?_,fun i j hi hj hij=>?_⟩
  · rw [dU hsr,dU hs]
    rw [List.length_set] at hi
    split
    · exact fr
    · rename_i q;exact (h.fr i hi).appd ap (h.sp s i hs hi (fun z=>q z.symm))
  · rw [List.length_set] at hi hj
    rw [dU hsr,dU hsr]
    have key:∀ i,i < L.length->i ≠ s->bk v (rows.getD i undef):=fun i hi q=>bk.appd (h.sp s i hs hi (fun z=>q z.symm)) (h.fr i hi).own wf ap
    by_cases q1:i=s
    · rw [if_pos q1,if_neg (fun z=>hij (q1.trans z.symm))]
      exact key j hj (fun z=>hij (q1.trans z.symm))
    · rw [if_neg q1]
      by_cases q2:j=s
      · rw [if_pos q2];exact (key i hi q1).symm
      · rw [if_neg q2];exact h.sp i j hi hj hij
theorem gW.at (h:gW A0 A rows L) (hs:s < L.length) (hx:x < (L.getD s []).length):∃ b n c r rcap,rows.getD s undef=.slice (some ⟨b,0,none⟩) n c/\n=(L.getD s []).length/\A.get b=some (.row true r rcap)/\x < r.length/\A0.get b=none/\r.take n=cJ (L.getD s []) /\
    ∀ (i:Int) A1,uj A A1 b (.row true (r.set x (num i)) rcap)->gW A0 A1 rows (L.set s ((L.getD s []).set x i)):=by
  have fr:=h.fr s hs
  obtain ⟨b,n,c,e,h1,h2⟩:=fr.nonnil (by intro q;have:=congrArg List.length q;rw [aw,List.length_nil] at this;omega)
  have lo:=fr.lo b (by rw [e];rfl)
  have fr':=fr
  rw [e] at fr'
  obtain ⟨r,rcap,g,h3,h4⟩:=fr'.row
  rw [Nat.mul_one,aw] at h1
  rw [Nat.mul_one] at h3
  have hl:n<=r.length:=by have:=congrArg List.length h3;rw [List.length_take,aw] at this;omega
  refine ⟨b,n,c,r,rcap,e,h1,g,by omega,lo,h3,fun i A1 sb=>⟨by simpa using h.len,fun j hj=>?_,fun j k hj hk=>h.sp j k (by simpa using hj) (by simpa using hk)⟩⟩
  rw [dU hs]
  by_cases q:j=s
  · subst q
    rw [if_pos Z,e]
    have:=fr'.setc (w:=num i) (i:=x) g sb
    rwa [iy] at this
  · rw [if_neg q]
    have hj':j < L.length:=by simpa using hj
    exact (h.fr j hj').keep sb.keep (fun z=>h.sp s j hs hj' (fun w=>q w.symm) b (by rw [e];rfl) z)
end
end Go.Proofs.YtjppkekmddjcfaaGreatDoor

namespace Go.Proofs.YtjppkekmddjcfaaGreatDoor
open Go Go.RowKit V
structure CX (k:Nat) (L:List (List Int)) (E:List Bool):Prop where
  len:E.length=L.length
  row:∀ s,s < L.length->(L.getD s []).length=k
  val:∀ s x,s < L.length->x < k->-1<=(L.getD s []).getD x 0/\(L.getD s []).getD x 0 < L.length
abbrev C0 (k:Nat):List Int:=List.replicate k (-1)
abbrev grow (k:Nat) (L:List (List Int)) (s x:Nat):List (List Int):=(L ++ [C0 k]).set s (((L ++ [C0 k]).getD s []).set x (L.length:Int))
def CB (k:Nat) (t:List (List Int) × List Bool × Nat) (x:Int):List (List Int) × List Bool × Nat :=
  if (t.1.getD t.2.2 []).getD x.toNat 0 < 0 then (grow k t.1 t.2.2 x.toNat,t.2.1 ++ [false],t.1.length) else (t.1,t.2.1,((t.1.getD t.2.2 []).getD x.toNat 0).toNat)
def n8 (k:Nat) (L:List (List Int)) (E:List Bool) (xs:List Int):List (List Int) × List Bool × Nat:=xs.foldl (CB k) (L,E,0)
def wN (k:Nat) (L:List (List Int)) (E:List Bool) (w:Wd):List (List Int):=(n8 k L E (w.map ix)).1
def wK (k:Nat) (L:List (List Int)) (E:List Bool) (w:Wd):List Bool:=(n8 k L E (w.map ix)).2.1.set (n8 k L E (w.map ix)).2.2 true
section
variable {k s x i:Nat} {L L1:List (List Int)} {E E1:List Bool} {xs:List Int} {d:Int}
theorem j8 {α:Type} {l m:List α} {i:Nat} {z:α} (h:i < l.length):(l ++ m).getD i z=l.getD i z:=by simp [List.getElem?_append_left h]
theorem jw:(grow k L s x).length=L.length + 1:=by simp
theorem uD (h:CX k L E) (hs:s < L.length) (hx:x < k) {j y:Nat} (hj:j < L.length + 1):(grow k L s x).getD j []=if j=s then (L.getD s []).set x L.length else if j < L.length then L.getD j [] else C0 k:=by
  rw [grow,dU Or,j8 hs]
  by_cases h1:j=s
  · rw [if_pos h1,if_pos h1]
  · rw [if_neg h1,if_neg h1]
    by_cases h2:j < L.length
    · rw [if_pos h2,j8 h2]
    · rw [if_neg h2,show j=L.length by omega];simp
theorem yJ (h:CX k L E) (hs:s < L.length) (hx:x < k):CX k (grow k L s x) (E ++ [false]):=by
  refine ⟨by rw [jw];simp [h.len],fun j hj=>?_,fun j y hj hy=>?_⟩
  · rw [jw] at hj
    rw [uD (y:=0) h hs hx hj]
    split
    · rw [List.length_set];exact h.row s hs
    · split
      · exact h.row j ‹_›
      · exact List.length_replicate
  · rw [jw] at hj
    rw [uD (y:=0) h hs hx hj,jw]
    have h0:=h.row s hs
    split
    · rw [dU (by rw [h0];exact hx)]
      split
      · omega
      · have:=h.val s y hs hy;omega
    · split
      · have:=h.val j y ‹_› hy;omega
      · have:(C0 k).getD y 0 = -1:=by simp [hy]
        rw [this];omega
theorem vv (h:CX k L E) (hs:s < L.length) (hx:x < k):((grow k L s x).getD s []).getD x 0=(L.length:Int):=by
  rw [uD (y:=0) h hs hx O,if_pos Z,dU (by rw [h.row s hs];exact hx),if_pos Z]
theorem xP {t:List (List Int) × List Bool × Nat} (hi:i < xs.length) (h:n8 k L E (xs.take i)=t):n8 k L E (xs.take (i + 1))=CB k t (xs.getD i 0):=by
  rw [<- fJ (z:=0) hi,n8,List.foldl_append]
  show CB k (n8 k L E (xs.take i)) _=_
  rw [h]
theorem Cd (hi:i < xs.length) (h:n8 k L E (xs.take i)=(L1,E1,s)) (q:(L1.getD s []).getD (xs.getD i 0).toNat 0 < 0):n8 k L E (xs.take (i + 1))=(grow k L1 s (xs.getD i 0).toNat,E1 ++ [false],L1.length):=by
  rw [xP hi h,CB,if_pos q]
theorem Ce (hi:i < xs.length) (h:n8 k L E (xs.take i)=(L1,E1,s)) (q:¬ (L1.getD s []).getD (xs.getD i 0).toNat 0 < 0):n8 k L E (xs.take (i + 1))=(L1,E1,((L1.getD s []).getD (xs.getD i 0).toNat 0).toNat):=by
  rw [xP hi h,CB,if_neg q]
theorem CX.start (k:Nat):CX k [C0 k] [false]:=⟨rfl,fun s hs=>by
    obtain rfl:s=0:=by simp at hs;omega
    simp,fun s x hs hx=>by
    obtain rfl:s=0:=by simp at hs;omega
    simp [hx]⟩
end
end Go.Proofs.YtjppkekmddjcfaaGreatDoor

namespace Go.Proofs.YtjppkekmddjcfaaGreatDoor
open Go Go.RowKit V
abbrev ia (L:List (List Int)) (n x:Nat):Int:=(L.getD n []).getD x 0
structure TW (k:Nat) (L:List (List Int)) (W:List (List Nat)):Prop where
  len:W.length=L.length
  pos:0 < W.length
  zero:W.getD 0 []=[]
  nd:∀ a b,a < W.length->b < W.length->W.getD a []=W.getD b []->a=b
  pre:∀ m,0 < m->m < W.length->∃ n x,n < W.length/\x < k/\W.getD m []=W.getD n [] ++ [x]
  is:∀ n x,n < W.length->x < k->0<=ia L n x->(ia L n x).toNat < W.length/\W.getD (ia L n x).toNat []=W.getD n [] ++ [x]
  no:∀ n x,n < W.length->x < k->ia L n x < 0->W.getD n [] ++ [x] ∉ W
section
variable {k s x i:Nat} {L L1:List (List Int)} {E E1:List Bool} {xs:List Int} {W:List (List Nat)}
theorem MQ {w:List Nat} (h:w ∈ W):∃ a,a < W.length/\W.getD a []=w:=by
  obtain ⟨i,hi,rfl⟩:=List.getElem_of_mem h
  exact ⟨i,hi,by simp [hi]⟩
theorem mw {a:Nat} (h:a < W.length):W.getD a [] ∈ W:=bi h
theorem Ak (h:CX k L E) (hs:s < L.length) (hx:x < k) {j y:Nat} (hj:j < L.length + 1) (hy:y < k):ia (grow k L s x) j y=if j=s/\y=x then (L.length:Int) else if j < L.length then ia L j y else -1:=by
  unfold ia
  rw [uD (y:=0) h hs hx hj]
  by_cases h1:j=s
  · subst h1
    rw [if_pos Z,dU (by rw [h.row j hs];exact hx)]
    by_cases h2:y=x
    · rw [if_pos h2,if_pos ⟨rfl,h2⟩]
    · rw [if_neg h2,if_neg (fun q=>h2 q.2),if_pos hs]
  · simp only [h1,false_and,if_false]
    by_cases h2:j < L.length
    · simp only [h2,if_true]
    · simp only [h2,if_false];simp [C0,hy]
theorem TW.grow (h:CX k L E) (t:TW k L W) (hs:s < L.length) (hx:x < k) (hn:ia L s x < 0):TW k (grow k L s x) (W ++ [W.getD s [] ++ [x]]):=by
  have hl:=t.len
  have e1:∀ a,a < W.length->(W ++ [W.getD s [] ++ [x]]).getD a []=W.getD a []:=fun a ha=>j8 ha
  have e2:(W ++ [W.getD s [] ++ [x]]).getD W.length []=W.getD s [] ++ [x]:=by simp
  have hnew:=t.no s x O hx hn
  have key:∀ n y,n < W.length->W.getD n [] ++ [y]=W.getD s [] ++ [x]->n=s/\y=x:=fun n y D q=>by
    have:=List.append_inj' q Z
    exact ⟨t.nd n s D O this.1,by simpa using this.2⟩
  refine ⟨by rw [jw];simp [hl],by simp,by rw [e1 0 t.pos];exact t.zero,fun a b ha hb q=>?_,fun m hm V=>?_,fun n y D hy h0=>?_,fun n y D hy h0=>?_⟩
  · simp only [List.length_append,List.length_singleton] at ha hb
    rcases Nat.lt_or_ge a W.length with qa | qa
    · rcases Nat.lt_or_ge b W.length with qb | qb
      · rw [e1 a qa,e1 b qb] at q;exact t.nd a b qa qb q
      · obtain rfl:b=W.length:=by omega
        rw [e1 a qa,e2] at q;exact absurd (q ▸ mw qa) hnew
    · obtain rfl:a=W.length:=by omega
      rcases Nat.lt_or_ge b W.length with qb | qb
      · rw [e1 b qb,e2] at q;exact absurd (q ▸ mw qb) hnew
      · omega
  · simp only [List.length_append,List.length_singleton] at V
    rcases Nat.lt_or_ge m W.length with q | q
    · obtain ⟨n,y,h1,h2,h3⟩:=t.pre m hm q
      exact ⟨n,y,by simp;omega,h2,by rw [e1 m q,e1 n h1];exact h3⟩
    · obtain rfl:m=W.length:=by omega
      exact ⟨s,x,by simp;omega,hx,by rw [e2,e1 s O]⟩
  · simp only [List.length_append,List.length_singleton] at D ⊢
    rw [Ak h hs hx O hy] at h0 ⊢
    split
    · rename_i q
      obtain ⟨rfl,rfl⟩:=q
      rw [Int.toNat_natCast,<- hl,e2,e1 n O]
      exact ⟨by omega,Z⟩
    · rename_i q
      rw [if_neg q] at h0
      split
      · rename_i q2
        rw [if_pos q2] at h0
        have:=t.is n y O hy h0
        rw [e1 n O,e1 _ this.1]
        exact ⟨by omega,this.2⟩
      · rename_i q2;rw [if_neg q2] at h0;omega
  · simp only [List.length_append,List.length_singleton] at D
    rw [Ak h hs hx O hy] at h0
    split at h0
    · omega
    · rename_i q
      intro hm
      split at h0
      · rename_i q2
        have:=t.no n y O hy h0
        rw [e1 n O] at hm
        rcases List.mem_append.1 hm with z | z
        · exact this z
        · rw [List.mem_singleton] at z
          exact q (key n y O z)
      · rename_i q2
        obtain rfl:n=W.length:=by omega
        rw [e2] at hm
        rcases List.mem_append.1 hm with z | z
        · have hlen:∀ a b:Nat,a < W.length->W.getD a []=(W.getD s [] ++ [x]) ++ [b]->False:=fun a b ha q=>by
            rcases Nat.eq_zero_or_pos a with q0 | q0
            · subst q0;rw [t.zero] at q;simp at q
            · obtain ⟨n,y2,h1,h2,h3⟩:=t.pre a q0 ha
              rw [h3] at q
              have:=(List.append_inj' q Z).1
              exact hnew (this ▸ mw h1)
          obtain ⟨a,ha,e⟩:=MQ z
          exact hlen a y ha e
        · rw [List.mem_singleton] at z
          have:=congrArg List.length z
          simp at this
theorem TW.start:TW k [C0 k] [[]]:=by
  have e:∀ n x,n < 1->x < k->ia [C0 k] n x = -1:=fun n x hn hx=>by
    obtain rfl:n=0:=by omega
    simp [ia,C0,hx]
  refine ⟨rfl,by simp,rfl,fun a b ha hb _=>by simp at ha hb;omega,fun m hm h=>by simp at h;omega,fun n x hn hx h0=>?_,fun n x hn hx h0=>?_⟩
  · rw [e n x hn hx] at h0;omega
  · obtain rfl:n=0:=by simp at hn;omega
    simp
structure Th (k:Nat) (L:List (List Int)) (E:List Bool) (W S:List (List Nat)):Prop where
  ok:CX k L E
  tw:TW k L W
  sub:∀ w ∈ S,w ∈ W
  ends:∀ m,m < W.length->(E.getD m false=true ↔ W.getD m [] ∈ S)
theorem Th.run {S:List (List Nat)} (h:Th k L E W S) (hx:∀ x ∈ xs,0<=x/\x < (k:Int)):∀ i,i<=xs.length->∃ W1,Th k (n8 k L E (xs.take i)).1 (n8 k L E (xs.take i)).2.1 W1 S/\(n8 k L E (xs.take i)).2.2 < (n8 k L E (xs.take i)).1.length /\
    W1.getD (n8 k L E (xs.take i)).2.2 []=(xs.take i).map Int.toNat/\(n8 k L E (xs.take i)).1.length<=L.length + i:=by
  intro i
  induction i with
  | zero=>intro _;exact ⟨W,h,by have:=h.tw.pos;have:=h.tw.len;show 0 < L.length;omega,h.tw.zero,Nat.le_refl _⟩
  | succ i ih =>
    intro hi
    obtain ⟨W1,h1,h2,h3,h4⟩:=ih O
    rcases hr:n8 k L E (xs.take i) with ⟨L1,E1,s⟩
    rw [hr] at h1 h2 h3 h4
    simp only at h1 h2 h3 h4
    have hb:=hx _ (bi (d:=(0:Int)) (show i < xs.length by omega))
    have hl:=h1.tw.len
    have et:(xs.take (i + 1)).map Int.toNat=(xs.take i).map Int.toNat ++ [(xs.getD i 0).toNat]:=(r8 (z:=(0:Int)) Int.toNat (show i < xs.length by omega)).symm
    by_cases q:(L1.getD s []).getD (xs.getD i 0).toNat 0 < 0
    · rw [Cd O hr q]
      refine ⟨W1 ++ [W1.getD s [] ++ [(xs.getD i 0).toNat]],⟨yJ h1.ok h2 O,TW.grow h1.ok h1.tw h2 O q,fun w hw=>List.mem_append.2 (.inl (h1.sub w hw)),fun m hm=>?_⟩,by rw [jw];show L1.length < _;omega,?_,by rw [jw];omega⟩
      · simp only [List.length_append,List.length_singleton] at hm
        rcases Nat.lt_or_ge m W1.length with z | z
        · rw [j8 z,j8 (by rw [h1.ok.len];omega)];exact h1.ends m z
        · obtain rfl:m=W1.length:=by omega
          have e1:(E1 ++ [false]).getD W1.length false=false:=by rw [hl,<- h1.ok.len];simp
          have e2:(W1 ++ [W1.getD s [] ++ [(xs.getD i 0).toNat]]).getD W1.length []=W1.getD s [] ++ [(xs.getD i 0).toNat]:=by simp
          rw [e1,e2]
          have:=h1.tw.no s _ O O q
          exact ⟨(fun z=>by cases z),fun z=>absurd (h1.sub _ z) this⟩
      · show (W1 ++ _).getD L1.length []=_
        rw [<- hl,et,<- h3];simp
    · rw [Ce O hr q]
      have:=h1.tw.is s (xs.getD i 0).toNat O O (by show 0<=(L1.getD s []).getD _ 0;omega)
      exact ⟨W1,h1,by show ((L1.getD s []).getD (xs.getD i 0).toNat 0).toNat < L1.length;rw [<- hl];exact this.1,by rw [et,<- h3];exact this.2,by show L1.length<=_;omega⟩
theorem CX.set {E2:List Bool} (h:CX k L E) (he:E2.length=E.length):CX k L E2:=⟨by rw [he,h.len],h.row,h.val⟩
def Fa (w:Wd):List Nat:=w.map fun c=>(ix c).toNat
theorem Th.add {S:List (List Nat)} {w:Wd} (h:Th k L E W S) (hw:∀ c ∈ w,0<=ix c/\ix c < k):∃ W1,Th k (wN k L E w) (wK k L E w) W1 (S ++ [Fa w])/\(wN k L E w).length<=L.length + w.length:=by
  have hx:∀ x ∈ w.map ix,0<=x/\x < (k:Int):=fun x hx=>by obtain ⟨c,hc,rfl⟩:=List.mem_map.1 hx;exact hw c hc
  obtain ⟨W1,h1,h2,h3,h4⟩:=h.run hx (w.map ix).length (Nat.le_refl _)
  rw [List.take_length] at h1 h2 h3 h4
  have e3:(w.map ix).map Int.toNat=Fa w:=by rw [List.map_map];rfl
  have hl:=h1.tw.len
  refine ⟨W1,⟨h1.ok.set (by simp [wK]),h1.tw,fun u hu=>?_,fun m hm=>?_⟩,by rw [wN];rw [List.length_map] at h4;exact h4⟩
  · rcases List.mem_append.1 hu with z | z
    · exact h1.sub u z
    · rw [List.mem_singleton] at z;rw [z,<- e3,<- h3];exact mw O
  · rw [wK,dU (by rw [h1.ok.len];exact h2)]
    split
    · rename_i q;subst q
      exact ⟨fun _=>List.mem_append.2 (.inr (List.mem_singleton.2 (by rw [h3,e3]))),fun _=>rfl⟩
    · rename_i q
      rw [h1.ends m hm,List.mem_append,List.mem_singleton]
      exact ⟨.inl,fun z=>z.elim id fun z=>absurd (h1.tw.nd m _ hm O (by rw [z,h3,e3])) q⟩
end
end Go.Proofs.YtjppkekmddjcfaaGreatDoor

namespace Go.Proofs.YtjppkekmddjcfaaGreatDoor
open Go Go.RowKit V
def tV (W:List (List Nat)):List Nat->List Nat
  | []=>[]
  | a :: t=>if a :: t ∈ W then a :: t else tV W t
def Qf (W:List (List Nat)):Prop:=[] ∈ W/\∀ u x,u ++ [x] ∈ W->u ∈ W
section
variable {W S:List (List Nat)} {u w t:List Nat} {a x:Nat}
theorem yV (h:Qf W):tV W w ∈ W:=by
  induction w with
  | nil=>exact h.1
  | cons a t ih=>unfold tV;split <;> assumption
theorem qq:tV W w <:+ w:=by
  induction w with
  | nil=>exact List.suffix_refl _
  | cons a t ih =>
    unfold tV;split
    · exact List.suffix_refl _
    · exact ih.trans (List.suffix_cons _ _)
theorem Ul (h:w ∈ W):tV W w=w:=by
  cases w with
  | nil=>rfl
  | cons a t=>rw [tV,if_pos h]
theorem sw (h:u <:+ a :: t):u=a :: t\/u <:+ t:=by
  rcases List.suffix_cons_iff.1 h with h | h
  · exact .inl h
  · exact .inr h
theorem uF (hu:u ∈ W) (h:u <:+ w):u <:+ tV W w:=by
  induction w with
  | nil=>exact h
  | cons a t ih =>
    unfold tV;split
    · exact h
    · rename_i q
      rcases sw h with z | z
      · exact absurd (z ▸ hu) q
      · exact ih z
theorem zx {u v:List Nat} (h:u <:+ v) (h':v <:+ u):u=v:=h.eq_of_length (Nat.le_antisymm h.length_le h'.length_le)
theorem AX (hp:Qf W):tV W (w ++ [x])=tV W (tV W w ++ [x]):=by
  refine zx ?_ ?_
  · refine uF (yV hp) ?_
    have h1:tV W (w ++ [x]) <:+ w ++ [x]:=qq
    have h2:tV W (w ++ [x]) ∈ W:=yV hp
    rcases List.eq_nil_or_concat (tV W (w ++ [x])) with q | ⟨u,y,q⟩
    · rw [q];exact List.nil_suffix
    · rw [List.concat_eq_append] at q
      rw [q] at h1 h2 ⊢
      obtain ⟨r,hr⟩:=h1
      rw [<- List.append_assoc] at hr
      obtain ⟨e1,e2⟩:=List.append_inj' hr Z
      have hu:=uF (hp.2 u y h2) (⟨r,e1⟩:u <:+ w)
      obtain ⟨r',hr'⟩:=hu
      exact ⟨r',by rw [<- List.append_assoc,hr',e2]⟩
  · refine uF (yV hp) ((qq).trans ?_)
    obtain ⟨r,hr⟩:=(qq:tV W w <:+ w)
    exact ⟨r,by rw [<- List.append_assoc,hr]⟩
end
theorem TW.prec {k:Nat} {L:List (List Int)} {W:List (List Nat)} (h:TW k L W):Qf W:=by
  refine ⟨h.zero ▸ mw h.pos,fun u x hu=>?_⟩
  obtain ⟨m,hm,e⟩:=MQ hu
  rcases Nat.eq_zero_or_pos m with q | q
  · subst q;rw [h.zero] at e;simp at e
  · obtain ⟨n,y,h1,h2,h3⟩:=h.pre m q hm
    rw [h3] at e
    exact (List.append_inj' e Z).1 ▸ mw h1
structure BS where
  L:List (List Int)
  E:List Bool
  F:List Int
  Q:List Int
abbrev kH (b:BS) (n x:Nat):Int:=if n=0 then 0 else ia b.L (b.F.getD n 0).toNat x
def u7 (n:Nat) (b:BS) (x:Nat):BS :=
  if ia b.L n x < 0 then { b with L:=b.L.set n ((b.L.getD n []).set x (kH b n x)) }
  else ⟨b.L,b.E.set (ia b.L n x).toNat (b.E.getD (ia b.L n x).toNat false || b.E.getD (kH b n x).toNat false),b.F.set (ia b.L n x).toNat (kH b n x),b.Q ++ [ia b.L n x]⟩
abbrev qn (b:BS) (a:Nat):Nat:=(b.Q.getD a 0).toNat
structure BI (k:Nat) (L0:List (List Int)) (W S:List (List Nat)) (b:BS) (i j:Nat):Prop where
  len:b.L.length=W.length/\b.E.length=W.length/\b.F.length=W.length
  row:∀ s,s < W.length->(b.L.getD s []).length=k
  q0:0 < b.Q.length/\b.Q.getD 0 0=0
  qr:∀ a,a < b.Q.length->0<=b.Q.getD a 0/\b.Q.getD a 0 < W.length
  qd:∀ a c,a < b.Q.length->c < b.Q.length->qn b a=qn b c->a=c
  srt:∀ a c,a<=c->c < b.Q.length->(W.getD (qn b a) []).length<=(W.getD (qn b c) []).length
  same:∀ n x,n < W.length->x < k->(∀ a,a < b.Q.length->qn b a=n->i < a\/a=i/\j<=x)->ia b.L n x=ia L0 n x
  done:∀ a x,a < b.Q.length->x < k->(a < i\/a=i/\x < j)->0<=ia b.L (qn b a) x/\ia b.L (qn b a) x < W.length/\W.getD (ia b.L (qn b a) x).toNat []=tV W (W.getD (qn b a) [] ++ [x])
  ch:∀ a x,a < b.Q.length->x < k->(a < i\/a=i/\x < j)->W.getD (qn b a) [] ++ [x] ∈ W->∃ c,c < b.Q.length/\W.getD (qn b c) []=W.getD (qn b a) [] ++ [x]
  pa:∀ c,0 < c->c < b.Q.length->∃ a x,a < b.Q.length/\x < k/\(a < i\/a=i/\x < j)/\W.getD (qn b c) []=W.getD (qn b a) [] ++ [x]
  fl:∀ c,0 < c->c < b.Q.length->0<=b.F.getD (qn b c) 0/\b.F.getD (qn b c) 0 < W.length/\W.getD (b.F.getD (qn b c) 0).toNat []=tV W ((W.getD (qn b c) []).drop 1)
  eq:∀ c,c < b.Q.length->(b.E.getD (qn b c) false=true ↔ ∃ u ∈ S,u <:+ W.getD (qn b c) [])
  en:∀ m,m < W.length->(∀ c,c < b.Q.length->qn b c ≠ m)->(b.E.getD m false=true ↔ W.getD m [] ∈ S)
section
variable {k i j:Nat} {L0:List (List Int)} {E0:List Bool} {W S:List (List Nat)} {b:BS}
theorem BI.before (h:BI k L0 W S b i j) (t:TW k L0 W) (hi:i < b.Q.length):∀ n p,p < W.length->(W.getD p []).length=n->n < (W.getD (qn b i) []).length->∃ a,a < i/\qn b a=p:=by
  intro n
  induction n with
  | zero =>
    intro p hp hl hn
    have e:p=0:=t.nd p 0 hp t.pos (by rw [t.zero];exact List.length_eq_zero_iff.1 hl)
    subst e
    have q0:qn b 0=0:=by unfold qn;rw [h.q0.2];rfl
    refine ⟨0,?_,q0⟩
    rcases Nat.eq_zero_or_pos i with q | q
    · subst q;rw [q0,t.zero] at hn;simp at hn
    · exact q
  | succ n ih =>
    intro p hp hl hn
    have D:0 < p:=by
      rcases Nat.eq_zero_or_pos p with q | q
      · subst q;rw [t.zero] at hl;simp at hl
      · exact q
    obtain ⟨m,x,h1,h2,h3⟩:=t.pre p D hp
    have hml:(W.getD m []).length=n:=by rw [h3] at hl;simpa using hl
    obtain ⟨a,ha,ea⟩:=ih m h1 hml O
    obtain ⟨c,hc,ec⟩:=h.ch a x O h2 (.inl ha) (by rw [ea,<- h3];exact mw hp)
    have ecp:qn b c=p:=t.nd _ _ (by have:=h.qr c hc;unfold qn;omega) hp (by rw [ec,ea,h3])
    refine ⟨c,?_,ecp⟩
    refine Classical.byContradiction fun q=>?_
    have:=h.srt i c O hc
    rw [ecp] at this;omega
theorem BI.qlt (h:BI k L0 W S b i j) {a:Nat} (ha:a < b.Q.length):qn b a < W.length:=by have:=h.qr a ha;unfold qn;omega
theorem BI.to (h:BI k L0 W S b i j) (t:TW k L0 W) (hi:i < b.Q.length) (hj:j < k):0<=kH b (qn b i) j/\kH b (qn b i) j < W.length/\W.getD (kH b (qn b i) j).toNat []=tV W ((W.getD (qn b i) [] ++ [j]).drop 1) /\
    ∃ c,c < b.Q.length/\qn b c=(kH b (qn b i) j).toNat:=by
  have hq:=h.qlt hi
  by_cases hz:qn b i=0
  · rw [kH,if_pos hz,hz,t.zero]
    have q0:qn b 0=0:=by unfold qn;rw [h.q0.2];rfl
    exact ⟨Int.le_refl _,by have:=t.pos;omega,by show W.getD 0 []=_;rw [t.zero];rfl,0,h.q0.1,q0⟩
  · rw [kH,if_neg hz]
    have X:0 < i:=by
      rcases Nat.eq_zero_or_pos i with q | q
      · subst q;exact absurd (by unfold qn;rw [h.q0.2];rfl) hz
      · exact q
    obtain ⟨f1,f2,f3⟩:=h.fl i X hi
    generalize hw:W.getD (qn b i) []=w at *
    obtain ⟨a0,w0,rfl⟩:∃ a0 w0,w=a0 :: w0:=by
      cases w with
      | nil=>exact absurd (t.nd _ 0 hq t.pos (by rw [hw,t.zero])) hz
      | cons a0 w0=>exact ⟨a0,w0,Z⟩
    simp only [List.drop_one,List.tail_cons,List.cons_append] at f3 ⊢
    have hsh:(W.getD (b.F.getD (qn b i) 0).toNat []).length < (W.getD (qn b i) []).length:=by
      rw [f3,hw];have:=(qq:tV W w0 <:+ w0).length_le;simp;omega
    obtain ⟨c,hc,ec⟩:=h.before t hi _ _ O Z hsh
    have hd:=h.done c j O hj (.inl hc)
    rw [ec] at hd
    refine ⟨hd.1,hd.2.1,by rw [hd.2.2,f3,<- AX t.prec],?_⟩
    -- it has been met,as its word is not longer than the node's
    have a1:(W.getD (ia b.L (b.F.getD (qn b i) 0).toNat j).toNat []).length<=(W.getD (qn b i) []).length:=by
      rw [hd.2.2,f3,<- AX t.prec]
      have:=(qq:tV W (w0 ++ [j]) <:+ w0 ++ [j]).length_le
      rw [hw];simp at this ⊢;omega
    generalize hr:(ia b.L (b.F.getD (qn b i) 0).toNat j).toNat=r at *
    have hrW:r < W.length:=by omega
    rcases Nat.lt_or_ge (W.getD r []).length (W.getD (qn b i) []).length with q | q
    · obtain ⟨c,hc,ec⟩:=h.before t hi _ r hrW Z q
      exact ⟨c,by omega,ec⟩
    · rcases Nat.eq_zero_or_pos r with z | z
      · subst z
        have q0:qn b 0=0:=by unfold qn;rw [h.q0.2];rfl
        exact ⟨0,h.q0.1,q0⟩
      · obtain ⟨m,x,h1,h2,h3⟩:=t.pre r z hrW
        have hm:(W.getD m []).length < (W.getD (qn b i) []).length:=by rw [h3,List.length_append,List.length_singleton] at a1;omega
        obtain ⟨c,hc,ec⟩:=h.before t hi _ m h1 Z hm
        obtain ⟨d,D,V⟩:=h.ch c x O h2 (.inl hc) (by rw [ec,<- h3];exact mw hrW)
        exact ⟨d,D,t.nd _ _ (h.qlt D) hrW (by rw [V,ec,h3])⟩
theorem UQ {L:List (List Int)} {n x m y:Nat} {v:Int} (hn:n < L.length) (hx:x < (L.getD n []).length):ia (L.set n ((L.getD n []).set x v)) m y=if m=n/\y=x then v else ia L m y:=by
  unfold ia
  rw [dU hn]
  by_cases h:m=n
  · subst h
    rw [if_pos Z,dU hx]
    by_cases h2:y=x <;> simp [h2]
  · simp [h]
theorem BI.step (h:BI k L0 W S b i j) (t:TW k L0 W) (hs:∀ w ∈ S,w ∈ W) (hne:[] ∉ S) (hi:i < b.Q.length) (hj:j < k):BI k L0 W S (u7 (qn b i) b j) i (j + 1):=by
  have hq:=h.qlt hi
  obtain ⟨t1,t2,t3,t4⟩:=h.to t hi hj
  have hsame:ia b.L (qn b i) j=ia L0 (qn b i) j:=h.same _ _ hq hj fun a ha ea=>by
    have:=h.qd a i ha hi ea;exact .inr ⟨this,by omega⟩
  have V:∀ a,a < b.Q.length->qn b a=qn b i->a=i:=fun a ha ea=>h.qd a i ha hi ea
  unfold u7
  split
  · -- the letter leads nowhere yet
    rename_i hneg
    have hno:=t.no (qn b i) j hq hj (by rw [<- hsame];exact hneg)
    have hval:W.getD (kH b (qn b i) j).toNat []=tV W (W.getD (qn b i) [] ++ [j]):=by
      rw [t3]
      cases hw:W.getD (qn b i) [] ++ [j] with
      | nil=>simp at hw
      | cons a0 w0=>rw [hw] at hno;rw [tV,if_neg hno];rfl
    have hent:∀ m y,ia (b.L.set (qn b i) ((b.L.getD (qn b i) []).set j (kH b (qn b i) j))) m y=if m=qn b i/\y=j then kH b (qn b i) j else ia b.L m y:=fun m y=>UQ (by rw [h.len.1];exact hq) (by rw [h.row _ hq];exact hj)
    refine ⟨⟨by simp [h.len.1],h.len.2⟩,fun s hs'=>?_,h.q0,h.qr,h.qd,h.srt,fun n x hn hx hc=>?_,fun a x ha hx hc=>?_,fun a x ha hx hc hm=>?_,fun c D hc=>?_,h.fl,h.eq,h.en⟩
    · show ((b.L.set _ _).getD s []).length=k
      rw [dU (by rw [h.len.1];exact hq)]
      split
      · rw [List.length_set];exact h.row _ hq
      · exact h.row s hs'
    · show ia (b.L.set _ _) n x=_
      rw [hent,if_neg]
      · exact h.same n x hn hx fun a ha ea=>by rcases hc a ha ea with q | q;exact .inl q;exact .inr ⟨q.1,by omega⟩
      · rintro ⟨rfl,rfl⟩
        rcases hc i hi rfl with q | q <;> omega
    · show 0<=ia (b.L.set _ _) (qn b a) x/\_
      have e:ia (b.L.set (qn b i) ((b.L.getD (qn b i) []).set j (kH b (qn b i) j))) (qn b a) x=if qn b a=qn b i/\x=j then kH b (qn b i) j else ia b.L (qn b a) x:=hent _ _
      show 0<=ia (b.L.set (qn b i) ((b.L.getD (qn b i) []).set j (kH b (qn b i) j))) (qn b a) x/\ia (b.L.set (qn b i) ((b.L.getD (qn b i) []).set j (kH b (qn b i) j))) (qn b a) x < W.length/\W.getD (ia (b.L.set (qn b i) ((b.L.getD (qn b i) []).set j (kH b (qn b i) j))) (qn b a) x).toNat []=_
      rw [e]
      by_cases q:qn b a=qn b i/\x=j
      · rw [if_pos q,q.1,q.2];exact ⟨t1,t2,hval⟩
      · rw [if_neg q]
        exact h.done a x ha hx (by
          rcases hc with c | c
          · exact .inl c
          · exact .inr ⟨c.1,by have:¬ x=j:=fun z=>q ⟨by rw [c.1],z⟩;omega⟩)
    · rcases hc with c | c
      · exact h.ch a x ha hx (.inl c) hm
      · by_cases z:x=j
        · obtain ⟨rfl,_⟩:=c;subst z;exact absurd hm hno
        · exact h.ch a x ha hx (.inr ⟨c.1,by omega⟩) hm
    · obtain ⟨a,x,h1,h2,h3,h4⟩:=h.pa c D hc
      exact ⟨a,x,h1,h2,by rcases h3 with c | c;exact .inl c;exact .inr ⟨c.1,by omega⟩,h4⟩
  · -- a node that is met now
    rename_i hpos
    obtain ⟨m1,m2⟩:=t.is (qn b i) j hq hj (by rw [<- hsame];omega)
    rw [<- hsame] at m1 m2
    generalize hm:ia b.L (qn b i) j=z at *
    obtain ⟨m,rfl⟩:∃ m:Nat,z=m:=⟨z.toNat,by omega⟩
    rw [Int.toNat_natCast] at m1 m2 ⊢
    have fresh:∀ c,c < b.Q.length->qn b c ≠ m:=fun c hc ec=>by
      rcases Nat.eq_zero_or_pos c with q | q
      · subst q
        have q0:qn b 0=0:=by unfold qn;rw [h.q0.2];rfl
        rw [q0] at ec;rw [<- ec,t.zero] at m2;simp at m2
      · obtain ⟨a,x,h1,h2,h3,h4⟩:=h.pa c q hc
        rw [ec,m2] at h4
        obtain ⟨e1,e2⟩:=List.append_inj' h4 Z
        have ea:=V a h1 (t.nd _ _ (h.qlt h1) hq e1.symm)
        have ex:x=j:=by simpa using e2.symm
        rcases h3 with c | c <;> omega
    have g1:∀ a,a < b.Q.length->(b.Q ++ [(m:Int)]).getD a 0=b.Q.getD a 0:=fun a ha=>j8 ha
    have g2:(b.Q ++ [(m:Int)]).getD b.Q.length 0=m:=by simp
    have n1:∀ a,a < b.Q.length->((b.Q ++ [(m:Int)]).getD a 0).toNat=qn b a:=fun a ha=>by rw [g1 a ha]
    have n2:((b.Q ++ [(m:Int)]).getD b.Q.length 0).toNat=m:=by rw [g2];rfl
    have lw:(W.getD m []).length=(W.getD (qn b i) []).length + 1:=by rw [m2];simp
    have jo:∀ c,c < b.Q.length->(W.getD (qn b c) []).length<=(W.getD (qn b i) []).length + 1:=fun c hc=>by
      rcases Nat.eq_zero_or_pos c with q | q
      · subst q
        have q0:qn b 0=0:=by unfold qn;rw [h.q0.2];rfl
        rw [q0,t.zero];simp
      · obtain ⟨a,x,h1,h2,h3,h4⟩:=h.pa c q hc
        rw [h4,List.length_append,List.length_singleton]
        have:=h.srt a i (by rcases h3 with c | c <;> omega) hi
        omega
    have lt:∀ {a},a < (b.Q ++ [(m:Int)]).length->a < b.Q.length\/a=b.Q.length:=fun {a} ha=>by simp at ha;omega
    refine ⟨⟨h.len.1,by simp [h.len.2.1],by simp [h.len.2.2]⟩,h.row,⟨by simp,by show (b.Q ++ [(m:Int)]).getD 0 0=0;rw [g1 0 h.q0.1];exact h.q0.2⟩,fun a ha=>?_,fun a c ha hc ec=>?_,fun a c hac hc=>?_,fun n x hn hx hc=>?_,fun a x ha hx hc=>?_,fun a x ha hx hc hm'=>?_,fun c D hc=>?_,fun c D hc=>?_,fun c hc=>?_,fun p hp hc=>?_⟩
    · show 0<=(b.Q ++ [(m:Int)]).getD a 0/\(b.Q ++ [(m:Int)]).getD a 0 < W.length
      rcases lt ha with q | q
      · rw [g1 a q];exact h.qr a q
      · rw [q,g2];omega
    · have ec:((b.Q ++ [(m:Int)]).getD a 0).toNat=((b.Q ++ [(m:Int)]).getD c 0).toNat:=ec
      rcases lt ha with q | q
      · rcases lt hc with q2 | q2
        · rw [n1 a q,n1 c q2] at ec;exact h.qd a c q q2 ec
        · rw [n1 a q,q2,n2] at ec;exact absurd ec (fresh a q)
      · rcases lt hc with q2 | q2
        · rw [n1 c q2,q,n2] at ec;exact absurd ec.symm (fresh c q2)
        · omega
    · show (W.getD ((b.Q ++ [(m:Int)]).getD a 0).toNat []).length<=(W.getD ((b.Q ++ [(m:Int)]).getD c 0).toNat []).length
      rcases lt hc with q2 | q2
      · rw [n1 a O,n1 c q2];exact h.srt a c hac q2
      · rw [q2,n2]
        rcases Nat.lt_or_ge a b.Q.length with q | q
        · rw [n1 a q,lw];exact jo a q
        · rw [show a=b.Q.length by omega,n2];exact Nat.le_refl _
    · refine h.same n x hn hx fun a ha ea=>?_
      have:=hc a Or (by show ((b.Q ++ [(m:Int)]).getD a 0).toNat=n;rw [n1 a ha];exact ea)
      rcases this with q | q
      · exact .inl q
      · exact .inr ⟨q.1,by omega⟩
    · show 0<=ia b.L ((b.Q ++ [(m:Int)]).getD a 0).toNat x/\ia b.L ((b.Q ++ [(m:Int)]).getD a 0).toNat x < W.length/\W.getD (ia b.L ((b.Q ++ [(m:Int)]).getD a 0).toNat x).toNat []=tV W (W.getD ((b.Q ++ [(m:Int)]).getD a 0).toNat [] ++ [x])
      have hal:a < b.Q.length:=by omega
      rw [n1 a hal]
      by_cases q:a=i/\x=j
      · obtain ⟨rfl,rfl⟩:=q
        rw [hm,Int.toNat_natCast,m2,<- m2,Ul (mw m1)]
        exact ⟨by omega,by omega,Z⟩
      · exact h.done a x hal hx (by
          rcases hc with c | c
          · exact .inl c
          · exact .inr ⟨c.1,by have:¬ x=j:=fun z=>q ⟨c.1,z⟩;omega⟩)
    · show ∃ c,c < (b.Q ++ [(m:Int)]).length/\W.getD ((b.Q ++ [(m:Int)]).getD c 0).toNat []=W.getD ((b.Q ++ [(m:Int)]).getD a 0).toNat [] ++ [x]
      have hal:a < b.Q.length:=by omega
      have hm':W.getD ((b.Q ++ [(m:Int)]).getD a 0).toNat [] ++ [x] ∈ W:=hm'
      rw [n1 a hal] at hm' ⊢
      by_cases q:a=i/\x=j
      · obtain ⟨rfl,rfl⟩:=q
        exact ⟨b.Q.length,by simp,by rw [n2];exact m2⟩
      · obtain ⟨c,c1,c2⟩:=h.ch a x hal hx (by
          rcases hc with c | c
          · exact .inl c
          · exact .inr ⟨c.1,by have:¬ x=j:=fun z=>q ⟨c.1,z⟩;omega⟩) hm'
        exact ⟨c,by simp;omega,by rw [n1 c c1];exact c2⟩
    · show ∃ a x,a < (b.Q ++ [(m:Int)]).length/\x < k/\(a < i\/a=i/\x < j + 1)/\W.getD ((b.Q ++ [(m:Int)]).getD c 0).toNat []=W.getD ((b.Q ++ [(m:Int)]).getD a 0).toNat [] ++ [x]
      rcases lt hc with q | q
      · obtain ⟨a,x,h1,h2,h3,h4⟩:=h.pa c D q
        exact ⟨a,x,by simp;omega,h2,by rcases h3 with c | c;exact .inl c;exact .inr ⟨c.1,by omega⟩,by rw [n1 c q,n1 a h1];exact h4⟩
      · exact ⟨i,j,by simp;omega,hj,.inr ⟨Z,by omega⟩,by rw [q,n2,n1 i hi];exact m2⟩
    · show 0<=(b.F.set m (kH b (qn b i) j)).getD ((b.Q ++ [(m:Int)]).getD c 0).toNat 0/\(b.F.set m (kH b (qn b i) j)).getD ((b.Q ++ [(m:Int)]).getD c 0).toNat 0 < W.length/\W.getD ((b.F.set m (kH b (qn b i) j)).getD ((b.Q ++ [(m:Int)]).getD c 0).toNat 0).toNat []=tV W ((W.getD ((b.Q ++ [(m:Int)]).getD c 0).toNat []).drop 1)
      rw [dU (by rw [h.len.2.2];exact m1)]
      rcases lt hc with q | q
      · rw [n1 c q,if_neg (fresh c q)];exact h.fl c D q
      · rw [q,n2,if_pos Z,m2];exact ⟨t1,t2,t3⟩
    · show (b.E.set m (b.E.getD m false || b.E.getD (kH b (qn b i) j).toNat false)).getD ((b.Q ++ [(m:Int)]).getD c 0).toNat false=true ↔ ∃ u ∈ S,u <:+ W.getD ((b.Q ++ [(m:Int)]).getD c 0).toNat []
      rw [dU (by rw [h.len.2.1];exact m1)]
      rcases lt hc with q | q
      · rw [n1 c q,if_neg (fresh c q)];exact h.eq c q
      · rw [q,n2,if_pos Z,Bool.or_eq_true,h.en m m1 fresh]
        obtain ⟨d,d1,d2⟩:=t4
        rw [<- d2,h.eq d d1,d2,t3,<- m2]
        constructor
        · rintro (z | ⟨u,u1,u2⟩)
          · exact ⟨_,z,List.suffix_refl _⟩
          · exact ⟨u,u1,u2.trans (qq.trans (List.drop_suffix _ _))⟩
        · rintro ⟨u,u1,u2⟩
          cases hw:W.getD m [] with
          | nil=>rw [hw] at lw;simp at lw
          | cons a0 w0 =>
            rw [hw] at u2
            rcases sw u2 with z | z
            · exact .inl (z ▸ u1)
            · exact .inr ⟨u,u1,uF (hs u u1) z⟩
    · show (b.E.set m (b.E.getD m false || b.E.getD (kH b (qn b i) j).toNat false)).getD p false=true ↔ _
      have hpm:p ≠ m:=fun z=>hc b.Q.length (by simp) (by show ((b.Q ++ [(m:Int)]).getD b.Q.length 0).toNat=p;rw [n2,z])
      rw [dU (by rw [h.len.2.1];exact m1),if_neg hpm]
      exact h.en p hp fun c hc'=>by have:=hc c Or;intro z;exact this (by show ((b.Q ++ [(m:Int)]).getD c 0).toNat=p;rw [n1 c hc'];exact z)
theorem BI.start (h:Th k L0 E0 W S) (hne:[] ∉ S):BI k L0 W S ⟨L0,E0,List.replicate W.length 0,[0]⟩ 0 0:=by
  have hl:=h.tw.len
  have q0:∀ a,a < ([0]:List Int).length->a=0:=fun a ha=>by simpa using ha
  refine ⟨⟨hl.symm,by rw [hl];exact h.ok.len,List.length_replicate⟩,fun s hs=>h.ok.row s O,⟨Nat.zero_lt_one,rfl⟩,fun a ha=>?_,fun a c ha hc _=>?_,fun a c hac hc=>?_,fun n x hn hx _=>rfl,fun a x ha hx hc=>?_,fun a x ha hx hc=>?_,fun c D hc=>?_,fun c D hc=>?_,fun c hc=>?_,fun m hm _=>h.ends m hm⟩
  · rw [q0 a ha];exact ⟨Int.le_refl _,by have:=h.tw.pos;show (0:Int) < W.length;omega⟩
  · rw [q0 a ha,q0 c hc]
  · rw [q0 c hc,q0 a (by have:=q0 c hc;show a < 1;omega)];exact Nat.le_refl _
  · omega
  · omega
  · exact absurd (q0 c hc) O
  · exact absurd (q0 c hc) O
  · rw [q0 c hc]
    show E0.getD 0 false=true ↔ ∃ u ∈ S,u <:+ W.getD 0 []
    rw [h.ends 0 h.tw.pos,h.tw.zero]
    exact ⟨fun z=>absurd z hne,fun ⟨u,u1,u2⟩=>absurd ((List.suffix_nil.1 u2) ▸ u1) hne⟩
theorem BI.next (h:BI k L0 W S b i k) (hi:i < b.Q.length):BI k L0 W S b (i + 1) 0:=by
  have e:∀ {a x},x < k->(a < i + 1\/a=i + 1/\x < 0)->(a < i\/a=i/\x < k):=fun {a x} hx hc=>by omega
  exact ⟨h.len,h.row,h.q0,h.qr,h.qd,h.srt,fun n x hn hx hc=>h.same n x hn hx fun a ha ea=>by have:=hc a ha ea;omega,fun a x ha hx hc=>h.done a x ha hx (e hx hc),fun a x ha hx hc=>h.ch a x ha hx (e hx hc),
    fun c D hc=>by obtain ⟨a,x,h1,h2,h3,h4⟩:=h.pa c D hc;exact ⟨a,x,h1,h2,by omega,h4⟩,h.fl,h.eq,h.en⟩
theorem pt:∀ (n:Nat) (l:List Nat),l.Nodup->(∀ x ∈ l,x < n)->l.length<=n
  | 0,l,_,h=>by
    cases l with
    | nil=>exact Nat.le_refl _
    | cons a l=>exact absurd (h a List.mem_cons_self) O
  | n + 1,l,hn,h=>by
    have h1:=pt n (l.erase n) (hn.erase n) (fun x hx=>by
      have h2:=h x (List.mem_of_mem_erase hx)
      have h3:x ≠ n:=by rintro rfl;exact hn.not_mem_erase hx
      omega)
    by_cases hm:n ∈ l
    · rw [List.length_erase_of_mem hm] at h1;omega
    · rw [List.erase_of_not_mem hm] at h1;omega
theorem qw {l:List Nat} {n:Nat} (h1:l.Nodup) (h2:∀ x ∈ l,x < n):l.length<=n:=pt _ _ h1 h2
theorem BI.qlen (h:BI k L0 W S b i j):b.Q.length<=W.length:=by
  have:=qw (l:=(List.range b.Q.length).map (qn b)) (n:=W.length) ?_ ?_
  · simpa using this
  · rw [List.nodup_iff_pairwise_ne,List.pairwise_map]
    exact List.Pairwise.imp_of_mem (fun {a c} ha hc hac e=>hac (h.qd a c (List.mem_range.1 ha) (List.mem_range.1 hc) e)) List.nodup_range
  · intro x hx
    obtain ⟨a,ha,rfl⟩:=List.mem_map.1 hx
    exact h.qlt (List.mem_range.1 ha)
theorem BI.all (h:BI k L0 W S b i 0) (t:TW k L0 W) (hi:b.Q.length<=i):∀ n p,p < W.length->(W.getD p []).length=n->∃ a,a < b.Q.length/\qn b a=p:=by
  intro n
  induction n with
  | zero =>
    intro p hp hl
    have e:p=0:=t.nd p 0 hp t.pos (by rw [t.zero];exact List.length_eq_zero_iff.1 hl)
    subst e
    exact ⟨0,h.q0.1,by unfold qn;rw [h.q0.2];rfl⟩
  | succ n ih =>
    intro p hp hl
    have D:0 < p:=by
      rcases Nat.eq_zero_or_pos p with q | q
      · subst q;rw [t.zero] at hl;simp at hl
      · exact q
    obtain ⟨m,x,h1,h2,h3⟩:=t.pre p D hp
    obtain ⟨a,ha,ea⟩:=ih m h1 (by rw [h3] at hl;simpa using hl)
    obtain ⟨c,hc,ec⟩:=h.ch a x ha h2 (.inl O) (by rw [ea,<- h3];exact mw hp)
    exact ⟨c,hc,t.nd _ _ (h.qlt hc) hp (by rw [ec,ea,h3])⟩
structure Vc (k:Nat) (L:List (List Int)) (E:List Bool) (W S:List (List Nat)):Prop where
  len:L.length=W.length/\E.length=W.length
  row:∀ s,s < W.length->(L.getD s []).length=k
  pos:0 < W.length
  zero:W.getD 0 []=[]
  nd:∀ a b,a < W.length->b < W.length->W.getD a []=W.getD b []->a=b
  prec:Qf W
  sub:∀ w ∈ S,w ∈ W
  to:∀ n x,n < W.length->x < k->0<=ia L n x/\ia L n x < W.length/\W.getD (ia L n x).toNat []=tV W (W.getD n [] ++ [x])
  ends:∀ n,n < W.length->(E.getD n false=true ↔ ∃ u ∈ S,u <:+ W.getD n [])
theorem BI.aho (h:BI k L0 W S b i 0) (t:TW k L0 W) (hs:∀ w ∈ S,w ∈ W) (hi:b.Q.length<=i):Vc k b.L b.E W S :=
  ⟨⟨h.len.1,h.len.2.1⟩,h.row,t.pos,t.zero,t.nd,t.prec,hs,fun n x hn hx=>by
    obtain ⟨a,ha,rfl⟩:=h.all t hi _ n hn Z
    exact h.done a x ha hx (.inl O),fun n hn=>by
    obtain ⟨a,ha,rfl⟩:=h.all t hi _ n hn Z
    exact h.eq a ha⟩
end
structure KN (k:Nat) (acc:List Bool) (L:List (List Int)):Prop where
  sym:1<=k/\k<=400
  len:acc.length=L.length
  num:0 < L.length/\L.length<=20000
  row:∀ s,s < L.length->(L.getD s []).length=k
  val:∀ s x,s < L.length->x < k->-1<=ia L s x/\ia L s x < L.length
end Go.Proofs.YtjppkekmddjcfaaGreatDoor

namespace Go.Proofs.YtjppkekmddjcfaaGreatDoor
open Go Go.RowKit V
def wq (k:Nat) (ws:List Wd):List (List Int) × List Bool:=ws.foldl (fun t w=>(wN k t.1 t.2 w,wK k t.1 t.2 w)) ([C0 k],[false])
def Vk (k:Nat) (b:BS) (i:Nat):BS:=(List.range k).foldl (u7 (qn b i)) b
def Vj (k:Nat):Nat->Nat->BS->BS
  | 0,_,b=>b
  | f + 1,i,b=>if i < b.Q.length then Vj k f (i + 1) (Vk k b i) else b
def Db (k:Nat) (ws:List Wd):BS:=Vj k ((wq k ws).1.length + 1) 0 ⟨(wq k ws).1,(wq k ws).2,List.replicate (wq k ws).1.length 0,[0]⟩
def ew (E:List Bool) (r:List Int):List Int:=r.map fun m=>if E.getD m.toNat false then -1 else m
def Qg (k:Nat) (ws:List Wd):List Bool:=(Db k ws).E.map fun e=>!e
def Qh (k:Nat) (ws:List Wd):List (List Int):=(Db k ws).L.map (ew (Db k ws).E)
def gh (step:Int->Nat->Option Int) (q:Int) (st:List Int × List Int) (c:Nat):List Int × List Int :=
  match step q c with
  | none=>(st.1 ++ [-1],st.2)
  | some t=>if t ∈ st.2 then (st.1 ++ [(st.2.idxOf t:Int)],st.2) else (st.1 ++ [(st.2.length:Int)],st.2 ++ [t])
def LZ (k:Nat) (step:Int->Nat->Option Int) (q:Int) (Q:List Int):List Int × List Int:=(List.range k).foldl (gh step q) ([],Q)
def fF (k:Nat) (step:Int->Nat->Option Int):Nat->Nat->List Int->List (List Int)->List Int × List (List Int)
  | 0,_,Q,R=>(Q,R)
  | f + 1,i,Q,R=>if i < Q.length then fF k step f (i + 1) (LZ k step (Q.getD i 0) Q).2 (R ++ [(LZ k step (Q.getD i 0) Q).1]) else (Q,R)
def nS (L:List (List Int)) (s:Int) (c:Nat):Option Int:=some (if s < 0 then -1 else ia L s.toNat c)
def gO (k:Nat) (L:List (List Int)):List Int × List (List Int):=fF k (nS L) (L.length + 2) 0 [0] []
def wv (k:Nat) (acc:List Bool) (L:List (List Int)):List Bool:=(gO k L).1.map fun s=>decide (0<=s) && acc.getD s.toNat false
def o6 (B:List (List Int)) (s m:Int):List (List Int):=if 0<=m then B.set m.toNat (B.getD m.toNat [] ++ [s]) else B
def jr (N:List (List Int)) (B:List (List Int)) (s:Nat):List (List Int):=(N.getD s []).foldl (fun B m=>o6 B s m) B
def dt (N:List (List Int)):List (List Int):=(List.range N.length).foldl (jr N) (List.replicate N.length [])
def iU (Q:List Int) (p:Int):List Int:=if p ∈ Q then Q else Q ++ [p]
def jy (B:List (List Int)):Nat->Nat->List Int->List Int
  | 0,_,Q=>Q
  | f + 1,i,Q=>if i < Q.length then jy B f (i + 1) ((B.getD (Q.getD i 0).toNat []).foldl iU Q) else Q
def qI (acc:List Bool) (i:Nat):List Int:=((List.range i).filter fun s=>acc.getD s false).map fun (s:Nat)=>(s:Int)
def f8 (acc:List Bool) (N:List (List Int)):List Int:=jy (dt N) (N.length + 1) 0 (qI acc acc.length)
def iQ (acc:List Bool) (N:List (List Int)):List Bool:=(List.range acc.length).map fun (s:Nat)=>decide ((s:Int) ∈ f8 acc N)
end Go.Proofs.YtjppkekmddjcfaaGreatDoor

namespace Go.Proofs.YtjppkekmddjcfaaGreatDoor
open Go Go.RowKit V
def GW (Q:List Int):List (Int × Value):=Q.zipIdx.map fun p=>(p.1,num ((p.2:Nat):Int))
theorem vJ (Q:List Int):(GW Q).map (·.1)=Q:=by
  simp [GW,List.map_map,Function.comp_def]
theorem Np (Q:List Int) (t:Int):GW (Q ++ [t])=GW Q ++ [(t,num ((Q.length:Nat):Int))]:=by simp [GW,List.zipIdx_append]
theorem JJ {Q:List Int} {t:Int} (h:t ∉ Q):lk (GW Q) t=none:=yU.2 (by rw [vJ];exact h)
theorem Rj:∀ (Q:List Int) (n:Nat) (t:Int),t ∈ Q->lk ((Q.zipIdx n).map fun p=>(p.1,num ((p.2:Nat):Int))) t=some (num (((n + Q.idxOf t:Nat)):Int)):=by
  intro Q
  induction Q with
  | nil=>intro n t h;cases h
  | cons a Q ih =>
    intro n t h
    by_cases q:a=t
    · subst q;simp [lk]
    · have h2:t ∈ Q:=by rcases List.mem_cons.1 h with z | z;exact absurd z.symm q;exact z
      have:=ih (n + 1) t h2
      simp only [List.zipIdx_cons,List.map_cons]
      rw [List.idxOf_cons,beq_eq_false_iff_ne.2 q,cond_false]
      simp only [lk,List.find?_cons,decide_eq_false q] at this ⊢
      rw [this]
      congr 3;omega
theorem Ni {Q:List Int} {t:Int} (h:t ∈ Q):lk (GW Q) t=some (num ((Q.idxOf t:Nat):Int)):=by
  have:=Rj Q 0 t h
  rwa [Nat.zero_add] at this
theorem RQ {Q:List Int} {t:Int} (h:t ∉ Q):yj (GW Q) t (num ((Q.length:Nat):Int))=GW (Q ++ [t]):=by
  rw [uO (by rw [vJ];exact h),Np]
section
variable {α:Type} [DecidableEq α] {kd:TypeDesc} {enc:α->Value} {P:Program} {e:gu} {A:AH} {x y z:Operand} {t kt et:TypeId} {ty:TypeId} {ps:String} {af:Array Edge} {dst:Option Nat} {Q:Value->AH->Prop} {Kp:List PanicEntry->AH->Prop} {g:Option (Nat × Bool)} {m clock:Nat} {es:Array MapEntry} {E:List (α × Value)} {k:α} {v:Value}
theorem S8 (K:rJ kd enc) (wf:A.wf) (hx:bN e x=some (.map (some m))) (hy:bN e y=some (enc k)) (hz:bN e z=some v) (hu:P.underlying t=some (.map kt et)) (hk:P.underlying kt=some kd) (hg:A.get m=some (.obj true (.map es clock))) (hE:dh enc es E) (hn:(E.map (·.1)).Nodup)
    (h:∀ A1 es1 ck,uj A A1 m (.obj true (.map es1 ck))->dh enc es1 (yj E k v)->Q undef A1):ky P e A { dst:=dst,op:=.insert t x y z,type:=ty,pos:=ps,after:=af,guard:=g } Q Kp :=
  om (dst:=dst) (ty:=ty) (ps:=ps) (af:=af) (g:=g) (Kp:=Kp) K wf hx hy hz hu hk hg hE hn h
end
theorem lx {b:Nat}:dE [] b:=fun _ h=>by cases h
theorem PO {P:Program} {e:gu} {A:AH} {x y:Operand} {t kt et:TypeId} {ty:TypeId} {ps:String} {af:Array Edge} {dst:Option Nat} {Q:Value->AH->Prop} {Kp:List PanicEntry->AH->Prop} {g:Option (Nat × Bool)} {m clock:Nat} {es:Array MapEntry} {rw:Bool} {L:List Int} {k:Int}
    (hx:bN e x=some (.map (some m))) (hy:bN e y=some (num k)) (hu:P.underlying t=some (.map kt et)) (hk:P.underlying kt=some (.int .i64)) (hz:cu P et=some (num 0)) (hg:A.get m=some (.obj rw (.map es clock))) (hE:dh num es (GW L))
    (h1:k ∈ L->Q (.tuple #[num ((L.idxOf k:Nat):Int),.bool true]) A) (h2:k ∉ L->Q (.tuple #[num 0,.bool false]) A):ky P e A { dst:=dst,op:=.lookup t x y true,type:=ty,pos:=ps,after:=af,guard:=g } Q Kp:=by
  refine wx tf hx hy hu hk hz hg hE (fun v hv=>?_) (fun hn=>?_)
  · by_cases q:k ∈ L
    · rw [Ni q] at hv;cases hv;exact h1 q
    · rw [JJ q] at hv;cases hv
  · exact h2 fun q=>by rw [Ni q] at hn;cases hn
theorem Bn {o:Option Int} (h:(!o.isSome)=true):o=none:=by cases o <;> simp_all
theorem kq {o:Option Int} (h:(!o.isSome)=false):o=some (o.getD 0):=by cases o <;> simp_all
theorem pu {Q:List Int} {t:Int} (h:Q.Nodup) (ht:t ∉ Q):(Q ++ [t]).Nodup:=List.nodup_append.2 ⟨h,by simp,by intro a ha b hb;simp at hb;subst hb;exact fun e=>ht (e ▸ ha)⟩
theorem qs {Q:List Int} {t:Int} {D:Int->Prop} (h:∀ q ∈ Q,D q) (ht:D t):∀ q ∈ Q ++ [t],D q:=fun q hq=>by
  rcases List.mem_append.1 hq with z | z
  · exact h q z
  · rw [List.mem_singleton] at z;subst z;exact ht
theorem vK {Q Q1:List Int} (h:Q <+: Q1) {i:Nat} (hi:i < Q.length):Q1.getD i 0=Q.getD i 0:=by obtain ⟨t,rfl⟩:=h;exact j8 hi
theorem Nr {Q Q1:List Int} (h:Q <+: Q1) {i:Nat} (hi:i<=Q.length):Q1.take i=Q.take i:=by obtain ⟨t,rfl⟩:=h;rw [List.take_append_of_le_length hi]
theorem rl {N:Nat} {Q:List Int} (hn:Q.Nodup) (hQ:∀ q ∈ Q,-1<=q/\q < (N:Int)):Q.length<=N + 1:=by
  have:=pt (N + 1) (Q.map fun q=>(q + 1).toNat) ?_ ?_
  · simpa using this
  · rw [List.nodup_iff_pairwise_ne,List.pairwise_map]
    exact List.Pairwise.imp_of_mem (fun {a b} ha hb hab e=>hab (by have:=hQ a ha;have:=hQ b hb;omega)) hn
  · intro x hx
    obtain ⟨q,hq,rfl⟩:=List.mem_map.1 hx
    have:=hQ q hq;omega
section
variable {k c:Nat} {step:Int->Nat->Option Int} {q:Int} {Q Q1 r:List Int}
def Jb (step:Int->Nat->Option Int) (q:Int) (Q:List Int) (c:Nat):List Int × List Int:=(List.range c).foldl (gh step q) ([],Q)
theorem vp:Jb step q Q (c + 1)=gh step q (Jb step q Q c) c:=by simp [Jb,List.range_succ]
theorem LY (h:Jb step q Q c=(r,Q1)) (hs:step q c=none):Jb step q Q (c + 1)=(r ++ [-1],Q1):=by rw [vp,h,gh,hs]
theorem QQ {t:Int} (h:Jb step q Q c=(r,Q1)) (hs:step q c=some t) (ht:t ∈ Q1):Jb step q Q (c + 1)=(r ++ [(Q1.idxOf t:Int)],Q1):=by
  rw [vp,h,gh,hs];simp only;rw [if_pos ht]
theorem yD {t:Int} (h:Jb step q Q c=(r,Q1)) (hs:step q c=some t) (ht:t ∉ Q1):Jb step q Q (c + 1)=(r ++ [(Q1.length:Int)],Q1 ++ [t]):=by
  rw [vp,h,gh,hs];simp only;rw [if_neg ht]
theorem yE {r:List Int} {k:Nat} {v:Int} (h:r.length < k):(r ++ List.replicate (k - r.length) 0).set r.length v=(r ++ [v]) ++ List.replicate (k - (r.length + 1)) 0:=by
  rw [List.set_append_right _ _ (Nat.le_refl _),Nat.sub_self,show k - r.length=(k - (r.length + 1)) + 1 by omega,List.replicate_succ,List.set_cons_zero]
  simp
theorem rP {r:List Int} {k:Nat} {v w:Int} (h:r.length < k):((r ++ List.replicate (k - r.length) 0).set r.length v).set r.length w=(r ++ [w]) ++ List.replicate (k - (r.length + 1)) 0:=by
  rw [List.set_set];exact yE h
end
theorem vo {k f i:Nat} {step:Int->Nat->Option Int} {Q:List Int} {R:List (List Int)} (hf:0 < f) (hi:Q.length<=i):fF k step f i Q R=(Q,R):=by
  obtain ⟨f,rfl⟩:∃ g,f=g + 1:=⟨f - 1,by omega⟩
  rw [fF,if_neg O]
theorem Am {k f i:Nat} {step:Int->Nat->Option Int} {Q:List Int} {R:List (List Int)} {X:List Int × List (List Int)} (hf:0 < f) (hi:i < Q.length) (h:fF k step f i Q R=X) {r Q1:List Int} (e:Jb step (Q.getD i 0) Q k=(r,Q1)):fF k step (f - 1) (i + 1) Q1 (R ++ [r])=X:=by
  obtain ⟨f,rfl⟩:∃ g,f=g + 1:=⟨f - 1,by omega⟩
  rw [<- h,fF,if_pos hi]
  show _=fF k step f (i + 1) (Jb step (Q.getD i 0) Q k).2 (R ++ [(Jb step (Q.getD i 0) Q k).1])
  rw [e];rfl
end Go.Proofs.YtjppkekmddjcfaaGreatDoor

namespace Go.Proofs.YtjppkekmddjcfaaGreatDoor
open Go Go.RowKit V
def qQ (ws:List Wd):Nat:=(ws.map List.length).sum
theorem DY (a:List Wd) (w:Wd):qQ (a ++ [w])=qQ a + w.length:=by simp [qQ]
theorem D4 (ws:List Wd) (i:Nat):qQ (ws.take i)<=qQ ws:=by
  unfold qQ
  conv=>rhs;rw [<- List.take_append_drop i ws]
  rw [List.map_append,List.sum_append];omega
structure TI (k:Nat) (ws:List Wd) (i:Nat) (L:List (List Int)) (E:List Bool):Prop where
  run:wq k (ws.take i)=(L,E)
  tri:∃ W,Th k L E W ((ws.take i).map Fa)
  num:L.length<=1 + qQ (ws.take i)
section
variable {k i:Nat} {ws:List Wd} {L L0:List (List Int)} {E E0:List Bool} {W S:List (List Nat)} {d:Int}
theorem TI.start:TI k ws 0 ([] ++ [C0 k]) ([] ++ [false]) :=
  ⟨rfl,⟨[[]],⟨CX.start k,TW.start,(fun w h=>by cases h),fun m hm=>by
    obtain rfl:m=0:=by simp at hm;omega
    exact ⟨fun h=>by simp at h,fun h=>by cases h⟩⟩⟩,by simp⟩
theorem TI.ok (h:TI k ws i L E):CX k L E/\0 < L.length:=by
  obtain ⟨W,hT⟩:=h.tri
  exact ⟨hT.ok,by have:=hT.tw.pos;have:=hT.tw.len;omega⟩
theorem TI.len (h:TI k ws i L E):E.length=L.length:=h.ok.1.len
theorem TI.next (h:TI k ws i L E) (hi:i < ws.length) (hw:∀ c ∈ ws.getD i [],0<=ix c/\ix c < k):TI k ws (i + 1) (wN k L E (ws.getD i [])) (wK k L E (ws.getD i [])):=by
  obtain ⟨W,hT⟩:=h.tri
  obtain ⟨W1,h1,h2⟩:=hT.add hw
  have e:ws.take (i + 1)=ws.take i ++ [ws.getD i []]:=(fJ (z:=[]) hi).symm
  refine ⟨?_,⟨W1,?_⟩,?_⟩
  · have hr:=h.run
    rw [e,wq,List.foldl_append]
    show (fun t w=>(wN k t.1 t.2 w,wK k t.1 t.2 w)) (wq k (ws.take i)) (ws.getD i [])=_
    rw [hr]
  · rw [e,List.map_append];exact h1
  · rw [e,DY];have:=h.num;omega
theorem TI.bound (h:TI k ws i L E):L.length<=1 + qQ ws:=Nat.le_trans h.num (by have:=D4 ws i;omega)
end
structure BO (k:Nat) (L0:List (List Int)) (W S:List (List Nat)) (R:BS) (i:Nat) (L:List (List Int)) (E:List Bool) (F Q:List Int):Prop where
  tw:TW k L0 W
  sub:∀ w ∈ S,w ∈ W
  ne:[] ∉ S
  inv:BI k L0 W S ⟨L,E,F,Q⟩ i 0
  fin:∃ f,f + i=W.length + 1/\Vj k f i ⟨L,E,F,Q⟩=R
structure BN (k:Nat) (L0:List (List Int)) (W S:List (List Nat)) (R:BS) (i:Nat) (L:List (List Int)) (E:List Bool) (F Q:List Int) (x:Nat) (L1:List (List Int)) (E1:List Bool) (F1 Q1:List Int):Prop where
  out:BO k L0 W S R i L E F Q
  lt:i < Q.length
  inv:BI k L0 W S ⟨L1,E1,F1,Q1⟩ i x
  run:(List.range x).foldl (u7 (Q.getD i 0).toNat) ⟨L,E,F,Q⟩=⟨L1,E1,F1,Q1⟩
  pre:Q <+: Q1
section
variable {k i x:Nat} {L L1 L0:List (List Int)} {E E0 E1:List Bool} {F Q F1 Q1:List Int} {W S:List (List Nat)} {R:BS} {ws:List Wd} {d:Int}
abbrev wJ (L1:List (List Int)) (E1:List Bool) (F1 Q1:List Int) (n x:Nat):Int:=kH ⟨L1,E1,F1,Q1⟩ n x
theorem BO.start {ws:List Wd} (h:TI k ws ws.length L E) (hne:∀ w ∈ ws,w ≠ []):∃ W,BO k L W (ws.map Fa) (Db k ws) 0 L E (List.replicate L.length 0) [0]:=by
  obtain ⟨W,hT⟩:=h.tri
  have e:ws.take ws.length=ws:=List.take_length
  rw [e] at hT
  have hr:=h.run
  rw [e] at hr
  have hl:=hT.tw.len
  have hn:([]:List Nat) ∉ ws.map Fa:=fun q=>by
    obtain ⟨w,hw,q⟩:=List.mem_map.1 q
    exact hne w hw (List.map_eq_nil_iff.1 q)
  refine ⟨W,hT.tw,hT.sub,hn,by rw [<- hl];exact BI.start hT hn,W.length + 1,Z,?_⟩
  rw [Db,hr,hl]
theorem BO.lens (h:BO k L0 W S R i L E F Q):L.length=W.length/\E.length=W.length/\F.length=W.length/\Q.length<=W.length/\L0.length=W.length:=⟨h.inv.len.1,h.inv.len.2.1,h.inv.len.2.2,h.inv.qlen,h.tw.len.symm⟩
theorem BO.at (h:BO k L0 W S R i L E F Q) (hi:i < Q.length):0<=Q.getD i 0/\(Q.getD i 0).toNat < W.length/\(L.getD (Q.getD i 0).toNat []).length=k:=by
  have h1:0<=Q.getD i 0/\Q.getD i 0 < W.length:=h.inv.qr i hi
  have h2:=h.inv.row (Q.getD i 0).toNat O
  exact ⟨h1.1,by omega,h2⟩
theorem BN.start (h:BO k L0 W S R i L E F Q) (hi:i < Q.length):BN k L0 W S R i L E F Q 0 L E F Q:=⟨h,hi,h.inv,rfl,List.prefix_refl _⟩
theorem BN.q (h:BN k L0 W S R i L E F Q x L1 E1 F1 Q1):Q1.getD i 0=Q.getD i 0/\i < Q1.length:=⟨vK h.pre h.lt,Nat.lt_of_lt_of_le h.lt h.pre.length_le⟩
theorem BN.lens (h:BN k L0 W S R i L E F Q x L1 E1 F1 Q1):L1.length=W.length/\E1.length=W.length/\F1.length=W.length/\Q1.length<=W.length/\L0.length=W.length:=⟨h.inv.len.1,h.inv.len.2.1,h.inv.len.2.2,h.inv.qlen,h.out.tw.len.symm⟩
theorem BN.facts (h:BN k L0 W S R i L E F Q x L1 E1 F1 Q1):0<=Q.getD i 0/\(Q.getD i 0).toNat < W.length/\(L1.getD (Q.getD i 0).toNat []).length=k:=by
  have h1:=h.out.at h.lt
  exact ⟨h1.1,h1.2.1,h.inv.row _ h1.2.1⟩
theorem BN.fail (h:BN k L0 W S R i L E F Q x L1 E1 F1 Q1) (hn:Q.getD i 0 ≠ 0):0<=F1.getD (Q.getD i 0).toNat 0/\(F1.getD (Q.getD i 0).toNat 0).toNat < W.length/\(L1.getD (F1.getD (Q.getD i 0).toNat 0).toNat []).length=k:=by
  have hq:=h.q
  have D:0 < i:=by
    rcases Nat.eq_zero_or_pos i with q | q
    · subst q;have h0:Q1.getD 0 0=0:=h.inv.q0.2;rw [hq.1] at h0;exact absurd h0 hn
    · exact q
  have h1:0<=F1.getD (Q1.getD i 0).toNat 0/\F1.getD (Q1.getD i 0).toNat 0 < W.length:=(fun z=>⟨z.1,z.2.1⟩) (h.inv.fl i D hq.2)
  rw [hq.1] at h1
  exact ⟨h1.1,by omega,h.inv.row _ O⟩
theorem BN.to (h:BN k L0 W S R i L E F Q x L1 E1 F1 Q1) (hx:x < k):0<=wJ L1 E1 F1 Q1 (Q.getD i 0).toNat x/\(wJ L1 E1 F1 Q1 (Q.getD i 0).toNat x).toNat < W.length:=by
  have hq:=h.q
  have h1:0<=wJ L1 E1 F1 Q1 (Q1.getD i 0).toNat x/\wJ L1 E1 F1 Q1 (Q1.getD i 0).toNat x < W.length:=(fun z=>⟨z.1,z.2.1⟩) (h.inv.to h.out.tw hq.2 hx)
  rw [hq.1] at h1
  omega
theorem BN.met (h:BN k L0 W S R i L E F Q x L1 E1 F1 Q1) (hx:x < k) (hm:0<=(L1.getD (Q.getD i 0).toNat []).getD x 0):((L1.getD (Q.getD i 0).toNat []).getD x 0).toNat < W.length:=by
  have hq:=h.q
  have hf:=h.facts
  have e:ia L1 (Q.getD i 0).toNat x=ia L0 (Q.getD i 0).toNat x:=h.inv.same _ x hf.2.1 hx fun a ha ea=>by
    have e2:qn ⟨L1,E1,F1,Q1⟩ a=qn ⟨L1,E1,F1,Q1⟩ i:=by rw [ea];show _=(Q1.getD i 0).toNat;rw [hq.1]
    exact .inr ⟨h.inv.qd a i ha hq.2 e2,Nat.le_refl _⟩
  have:=h.out.tw.is (Q.getD i 0).toNat x hf.2.1 hx (by rw [<- e];exact hm)
  rw [<- e] at this
  exact this.1
theorem IA {n:Int} (h:¬ n=0) (h0:0<=n):num ((L1.getD (F1.getD n.toNat 0).toNat []).getD x 0)=num (wJ L1 E1 F1 Q1 n.toNat x):=by
  show _=num (kH _ _ _);rw [kH,if_neg O]
theorem Pz {n:Int} (h:¬ ¬ n=0):num ((0:Nat):Int)=num (wJ L1 E1 F1 Q1 n.toNat x):=by
  have:=Decidable.not_not.1 h;subst this;rfl
theorem BN.step (h:BN k L0 W S R i L E F Q x L1 E1 F1 Q1) (hx:x < k) {L2:List (List Int)} {E2:List Bool} {F2 Q2:List Int} (e:u7 (Q.getD i 0).toNat ⟨L1,E1,F1,Q1⟩ x=⟨L2,E2,F2,Q2⟩) (hp:Q1 <+: Q2):BN k L0 W S R i L E F Q (x + 1) L2 E2 F2 Q2:=by
  have hq:=h.q
  refine ⟨h.out,h.lt,?_,?_,h.pre.trans hp⟩
  · have:=h.inv.step h.out.tw h.out.sub h.out.ne hq.2 hx
    rw [show qn ⟨L1,E1,F1,Q1⟩ i=(Q.getD i 0).toNat by show (Q1.getD i 0).toNat=_;rw [hq.1],e] at this
    exact this
  · rw [List.range_succ,List.foldl_append,h.run];exact e
theorem BN.neg (h:BN k L0 W S R i L E F Q x L1 E1 F1 Q1) (hx:x < k) (hm:(L1.getD (Q.getD i 0).toNat []).getD x 0 < 0):BN k L0 W S R i L E F Q (x + 1) (L1.set (Q.getD i 0).toNat ((L1.getD (Q.getD i 0).toNat []).set x (wJ L1 E1 F1 Q1 (Q.getD i 0).toNat x))) E1 F1 Q1 :=
  h.step hx (by rw [u7,if_pos hm]) (List.prefix_refl _)
theorem BN.pos (h:BN k L0 W S R i L E F Q x L1 E1 F1 Q1) (hx:x < k) (hm:¬ (L1.getD (Q.getD i 0).toNat []).getD x 0 < 0) {c:Bool} (hc:c=(E1.getD ((L1.getD (Q.getD i 0).toNat []).getD x 0).toNat false || E1.getD (wJ L1 E1 F1 Q1 (Q.getD i 0).toNat x).toNat false)) :
    BN k L0 W S R i L E F Q (x + 1) L1 (E1.set ((L1.getD (Q.getD i 0).toNat []).getD x 0).toNat c) (F1.set ((L1.getD (Q.getD i 0).toNat []).getD x 0).toNat (wJ L1 E1 F1 Q1 (Q.getD i 0).toNat x)) (Q1 ++ [(L1.getD (Q.getD i 0).toNat []).getD x 0]):=by
  subst hc
  exact h.step hx (by rw [u7,if_neg hm]) (List.prefix_append _ _)
theorem BO.next (h:BN k L0 W S R i L E F Q x L1 E1 F1 Q1) (hx:x=k):BO k L0 W S R (i + 1) L1 E1 F1 Q1:=by
  subst hx
  have hq:=h.q
  obtain ⟨f,hf,e⟩:=h.out.fin
  have hl:=h.out.inv.qlen
  have hlt:=h.lt
  have D:Q.length<=W.length:=hl
  obtain ⟨f,rfl⟩:∃ g,f=g + 1:=⟨f - 1,by omega⟩
  refine ⟨h.out.tw,h.out.sub,h.out.ne,h.inv.next hq.2,f,by omega,?_⟩
  rw [Vj,if_pos (by exact hlt)] at e
  have e2:Vk x ⟨L,E,F,Q⟩ i=⟨L1,E1,F1,Q1⟩:=h.run
  rw [e2] at e;exact e
theorem BO.fin' (h:BO k L0 W S R i L E F Q) (hi:Q.length<=i):R=⟨L,E,F,Q⟩/\Vc k L E W S:=by
  obtain ⟨f,hf,e⟩:=h.fin
  have hl:=h.inv.qlen
  refine ⟨?_,h.inv.aho h.tw h.sub hi⟩
  rw [<- e]
  cases f with
  | zero=>rfl
  | succ f=>rw [Vj,if_neg (by show ¬ i < Q.length;omega)]
def oM (E:List Bool) (r:List Int) (x:Nat):List Int:=ew E (r.take x) ++ r.drop x
def mS (E:List Bool) (L:List (List Int)) (s x:Nat):List (List Int):=(L.take s).map (ew E) ++ (match L.drop s with | []=>[] | r :: t=>oM E r x :: t)
theorem nG (E:List Bool) (r:List Int):(ew E r).length=r.length:=by simp [ew]
theorem z7 {r:List Int}:(oM E r x).length=r.length:=by simp [oM,ew];omega
theorem xh {r:List Int}:oM E r 0=r:=by simp [oM,ew]
theorem LH {r:List Int} (h:r.length<=x):oM E r x=ew E r:=by simp [oM,List.take_of_length_le h,List.drop_eq_nil_of_le h]
theorem QL {r:List Int} {y:Nat} (hx:x<=y) (hy:y < r.length):(oM E r x).getD y 0=r.getD y 0:=by
  simp only [oM,List.getD_eq_getElem?_getD]
  rw [List.getElem?_append_right (by rw [nG,List.length_take];omega),List.getElem?_drop,nG,List.length_take]
  congr 2;omega
theorem xg {r:List Int} (hx:x < r.length):oM E r (x + 1)=if E.getD (r.getD x 0).toNat false then (oM E r x).set x (-1) else oM E r x:=by
  have e1:r.take (x + 1)=r.take x ++ [r.getD x 0]:=(fJ (z:=0) hx).symm
  have e2:r.drop x=r.getD x 0 :: r.drop (x + 1):=tM hx
  have hl:(ew E (r.take x)).length=x:=by rw [nG,List.length_take];omega
  have e3:ew E (r.take x ++ [r.getD x 0])=ew E (r.take x) ++ [if E.getD (r.getD x 0).toNat false then -1 else r.getD x 0]:=by simp only [ew,List.map_append,List.map_cons,List.map_nil]
  have e4:oM E r x=ew E (r.take x) ++ r.getD x 0 :: r.drop (x + 1):=by rw [<- e2];rfl
  have e5:oM E r (x + 1)=ew E (r.take x) ++ (if E.getD (r.getD x 0).toNat false then -1 else r.getD x 0) :: r.drop (x + 1):=by
    show ew E (r.take (x + 1)) ++ r.drop (x + 1)=_
    rw [e1,e3,List.append_assoc];rfl
  rw [e5,e4]
  split
  · rw [List.set_append_right _ _ O,hl,Nat.sub_self,List.set_cons_zero]
  · rfl
theorem mU {s:Nat} (h:s < L.length):L.drop s=L.getD s [] :: L.drop (s + 1):=tM h
theorem zZ {s:Nat}:(mS E L s x).length=L.length:=by
  unfold mS
  rcases Nat.lt_or_ge s L.length with h | h
  · rw [mU h];simp;omega
  · rw [List.drop_eq_nil_of_le h];simp;omega
theorem DC:mS E L 0 0=L:=by
  cases L with
  | nil=>rfl
  | cons r t=>show [] ++ oM E r 0 :: t=_;rw [xh];rfl
theorem rN {s:Nat} (h:s < L.length):(mS E L s x).getD s []=oM E (L.getD s []) x:=by
  unfold mS;rw [mU h]
  have hl:((L.take s).map (ew E)).length=s:=by simp;omega
  simp only [List.getD_eq_getElem?_getD]
  rw [List.getElem?_append_right O,hl,Nat.sub_self];rfl
theorem z6 {s:Nat} (h:s < L.length) (hx:x < (L.getD s []).length) (he:E.getD ((L.getD s []).getD x 0).toNat false=true):(mS E L s x).set s (((mS E L s x).getD s []).set x (-1))=mS E L s (x + 1):=by
  rw [rN h]
  unfold mS;rw [mU h]
  have hl:((L.take s).map (ew E)).length=s:=by simp;omega
  rw [List.set_append_right _ _ O,hl,Nat.sub_self]
  show _ ++ _ :: _=_ ++ _ :: _
  rw [xg hx,if_pos he]
theorem Gi {s:Nat} (h:s < L.length) (hx:x < (L.getD s []).length) (he:E.getD ((L.getD s []).getD x 0).toNat false=false):mS E L s x=mS E L s (x + 1):=by
  unfold mS;rw [mU h]
  show _ ++ _ :: _=_ ++ _ :: _
  rw [xg hx,he];rfl
theorem I5 {s:Nat} (h:s < L.length) (hx:(L.getD s []).length<=x):mS E L s x=mS E L (s + 1) 0:=by
  unfold mS
  rw [mU h,<- fJ (z:=[]) h,List.map_append]
  show _ ++ oM E _ x :: _=_
  rw [LH hx,List.append_assoc]
  congr 1
  show _=[ew E (L.getD s [])] ++ _
  rw [List.singleton_append];congr 1
  cases L.drop (s + 1) with
  | nil=>rfl
  | cons r t=>show _=oM E r 0 :: t;rw [xh]
theorem LG {s:Nat} (h:L.length<=s):mS E L s x=L.map (ew E):=by
  unfold mS
  rw [List.drop_eq_nil_of_le h,List.take_of_length_le h];simp
theorem I4 {s:Nat} (h:s < L.length) (hx:x < (L.getD s []).length):((mS E L s x).getD s []).getD x 0=(L.getD s []).getD x 0:=by
  rw [rN h,QL (Nat.le_refl _) hx]
end
end Go.Proofs.YtjppkekmddjcfaaGreatDoor

namespace Go.Proofs.YtjppkekmddjcfaaGreatDoor
open Go Go.RowKit V
def yA:List UInt8:=[48,49,50,51,52,53,54,55,56,57,97,98,99,100,101,102,103,104,105,106,107,108,109,110,111,112,113,114,115,116,117,118,119,120,121,122]
def s9:Nat->Nat->List UInt8
  | 0,_=>[]
  | f + 1,n=>if n < 36 then [yA.getD n 0] else s9 f (n / 36) ++ [yA.getD (n % 36) 0]
def iq (n:Nat):List UInt8:=s9 13 n
theorem Au:∀ (f n:Nat),(s9 f n).length<=f
  | 0,_=>Nat.le_refl _
  | f + 1,n=>by
    unfold s9;split
    · simp
    · have:=Au f (n / 36);simp;omega
theorem s8 (n:Nat):(iq n).length<=13:=Au 13 n
def IB (c:UInt8):Nat:=yA.idxOf c
theorem uy:∀ d,d < 36->IB (yA.getD d 0)=d/\yA.getD d 0 ≠ 32/\yA.getD d 0 ≠ 45:=by decide
theorem uA:∀ (f n:Nat),∀ c ∈ s9 f n,c ≠ 32/\c ≠ 45
  | 0,_,_,h=>by cases h
  | f + 1,n,c,h=>by
    unfold s9 at h;split at h
    · rename_i q;rw [List.mem_singleton] at h;subst h;exact (uy n q).2
    · rcases List.mem_append.1 h with q | q
      · exact uA f _ c q
      · rw [List.mem_singleton] at q;subst q;exact (uy _ (Nat.mod_lt _ U)).2
def IC (l:List UInt8):Nat:=l.foldl (fun a c=>a * 36 + IB c) 0
theorem rH:∀ (f n:Nat),n < 36 ^ f->IC (s9 f n)=n
  | 0,n,h=>by simp at h;subst h;rfl
  | f + 1,n,h=>by
    unfold s9;split
    · rename_i q;show 0 * 36 + IB _=n;rw [(uy n q).1];omega
    · have:=rH f (n / 36) (by rw [Nat.pow_succ] at h;exact Nat.div_lt_of_lt_mul O)
      rw [IC,List.foldl_append]
      show IC (s9 f (n / 36)) * 36 + IB _=n
      rw [this,(uy _ (Nat.mod_lt _ U)).1];omega
theorem Je {a b:Nat} (ha:a < 1000000) (hb:b < 1000000) (h:iq a=iq b):a=b:=by
  have h1:=rH 13 a (Nat.lt_of_lt_of_le ha U)
  have h2:=rH 13 b (Nat.lt_of_lt_of_le hb U)
  rw [<- h1,<- h2];exact congrArg IC h
structure uR (n m i:Nat) (l:List UInt8):Prop where
  len:l.length=65
  eq:∃ f,f + 52=i/\0 < f/\f<=13/\iq n=s9 f m ++ l.drop i/\m < 36 ^ f
  le:m<=n
section
variable {n m i f:Nat} {l:List UInt8}
theorem uR.start (hn:n<=1000000):uR n n 65 (List.replicate 65 0):=⟨by simp,⟨13,rfl,by decide,by decide,by simp [iq],Nat.lt_of_le_of_lt hn U⟩,Nat.le_refl _⟩
theorem uR.idx (h:uR n m i l):53<=i/\i<=65:=by obtain ⟨f,h1,h2,h3,_⟩:=h.eq;omega
theorem Ah {l:List UInt8} {j:Nat} {c:UInt8} (h:j < l.length):(l.set j c).drop j=c :: l.drop (j + 1):=by
  rw [List.drop_eq_getElem_cons (by simpa using h),List.drop_set_of_lt O]
  simp
theorem uR.next (h:uR n m i l) (hm:36<=m):uR n (m / 36) (i - 1) (l.set (i - 1) (yA.getD (m - m / 36 * 36) 0))/\54<=i:=by
  obtain ⟨f,h1,h2,h3,h4,h5⟩:=h.eq
  have hf:2<=f:=by
    rcases Nat.lt_or_ge f 2 with q | q
    · obtain rfl:f=1:=by omega
      omega
    · exact q
  obtain ⟨f,rfl⟩:∃ g,f=g + 1:=⟨f - 1,by omega⟩
  refine ⟨⟨by simpa using h.len,⟨f,by omega,by omega,by omega,?_,by rw [Nat.pow_succ] at h5;exact Nat.div_lt_of_lt_mul O⟩,Nat.le_trans (Nat.div_le_self _ _) h.le⟩,by omega⟩
  rw [h4,s9,if_neg O,Ah (by rw [h.len];omega),show i - 1 + 1=i by omega,List.append_assoc]
  rw [show m - m / 36 * 36=m % 36 by omega];rfl
theorem uR.last (h:uR n m i l) (hm:m < 36):(l.set (i - 1) (yA.getD m 0)).drop (i - 1)=iq n:=by
  obtain ⟨f,h1,h2,h3,h4,h5⟩:=h.eq
  obtain ⟨f,rfl⟩:∃ g,f=g + 1:=⟨f - 1,by omega⟩
  rw [h4,s9,if_pos hm,Ah (by rw [h.len];omega),show i - 1 + 1=i by omega];rfl
end
abbrev xb (n:Nat):Value:=.int .u64 (n:Int)
section
variable {P:Program} {e:gu} {A:AH} {x y:Operand} {t t':TypeId} {a b:Nat}
theorem FA {n:Int} (h:0<=n/\n<=18446744073709551615):IntKind.u64.wrap n=n:=IntWalk.u64_in n h
theorem Nx {k k₀:IntKind} (hs:P.underlying t=some (.int k₀)) (hd:P.underlying t'=some (.int .u64)) (h:bN e x=some (.int k (a:Nat))) (hr:a<=18446744073709551615):aL P e A (.convert t t' x)=some (xb a,[]) :=
  Nw hs hd h (FA O)
theorem VH (h:bN e x=some (xb a)) (h':bN e y=some (xb b)) (hr:b<=a/\a<=18446744073709551615):aL P e A (.binOp .sub t x y t')=some (xb (a - b),[]):=by
  refine zg U U h h' ?_
  refine congrArg (fun z=>some (Value.int .u64 z)) ?_
  rw [FA O];omega
theorem VE (h:bN e x=some (xb a)) (h':bN e y=some (xb b)) (hr:a * b<=18446744073709551615):aL P e A (.binOp .mul t x y t')=some (xb (a * b),[]):=by
  refine zg U U h h' ?_
  refine congrArg (fun z=>some (Value.int .u64 z)) ?_
  have:((a * b:Nat):Int)=(a:Int) * b:=Int.natCast_mul a b
  rw [FA (by rw [<- this];omega)];simp
theorem VF (h:bN e x=some (xb a)) (h':bN e y=some (xb b)) (hr:1<=b/\a<=18446744073709551615):aL P e A (.binOp .quo t x y t')=some (xb (a / b),[]):=by
  refine zg U U h h' ?_
  show (if (b:Int)=0 then none else _)=_
  rw [if_neg O]
  refine congrArg (fun z=>some (Value.int .u64 z)) ?_
  rw [IntWalk.u64_quo _ _ O];simp
end
section
variable {P:Program} {nt:Nat} {all:Array Oper} {os:List Oper} {Q:Exit->Fr->AH->Prop} {e:gu} {ds:List Deferred} {A:AH} {x lo:Operand} {t el:TypeId} {ty:TypeId} {ps:String} {af:Array Edge} {dst:Option Nat} {b n j:Nat}
theorem V.Ops.sliceArr (hd:gx nt dst=true) (hu:P.underlying t=some (.array n el)) (hs:c9 P el=some 1) (hx:bN e x=some (.pointer (some ⟨b,0,none⟩))) (hlo:bN e lo=some (num (j:Nat))) (hj:j < n)
    (h:Ops P nt all os Q ⟨fA e dst (.slice (some ⟨b,j,none⟩) (n - j) (n - j)),ds⟩ A):Ops P nt all ({ dst:=dst,op:=.slice t x (some lo) none none,type:=ty,pos:=ps,after:=af,guard:=none } :: os) Q ⟨e,ds⟩ A:=by
  refine Ops.val Z hd (fun a ha w hw=>?_) h
  have h1:=cB ha hx
  have h2:=cB ha hlo
  simp only [execOp,h1,Option.map_some,h2,Option.map_none]
  have hb:=rD (P:=P) (w:=w) (isS:=false) (len:=n) (cap:=n) (lo:=some (some (num (j:Nat)))) (hi:=none) (lo':=some (num (j:Nat))) (hi':=none) (l:=(j:Int)) (h:=(n:Int)) (fun v q=>by cases q;exact ⟨_,rfl,rfl⟩) (fun q=>by cases q) (fun v q=>by cases q) (fun _=>rfl) Z Z O O O
  have hne:n ≠ j:=by omega
  simp [Instr.sliceAt,ca hu,hb,dX hs,Instr.sureAddr,Addr.add,hne]
  intro z;omega
end
theorem Vh:Qo .and .i64 ((36:Nat):Int) ((35:Nat):Int)=some (num ((32:Nat):Int)):=by
  have key:IntKind.i64.wrap ((BitVec.ofInt 64 ((36:Nat):Int) &&& BitVec.ofInt 64 ((35:Nat):Int)).toNat:Int)=((32:Nat):Int):=by decide
  show some (Value.int .i64 (IntKind.i64.wrap ((BitVec.ofInt 64 ((36:Nat):Int) &&& BitVec.ofInt 64 ((35:Nat):Int)).toNat:Int)))=_
  rw [key]
theorem SO {A:AH} {b cap j:Nat} {rw:Bool} {c:List Value} (h:A.get b=some (.row rw c cap)) (hj:j<=c.length):bI A 1 (.slice (some ⟨b,j,none⟩) (c.length - j) (c.length - j)) (c.drop j) :=
  ⟨_,_,_,rfl,by simp,Nat.le_refl _,.inr ⟨b,j,rw,c,cap,rfl,h,by rw [Nat.mul_one,List.take_of_length_le (by simp)]⟩⟩
end Go.Proofs.YtjppkekmddjcfaaGreatDoor

namespace Go.Proofs.YtjppkekmddjcfaaGreatDoor
open Go Go.RowKit V
structure C6 (k:Nat) (acc:List Bool) (N:List (List Int)):Prop where
  sym:1<=k/\k<=400
  len:acc.length=N.length
  num:N.length<=30000
  row:∀ s,s < N.length->(N.getD s []).length=k
  val:∀ s x,s < N.length->x < k->-1<=ia N s x/\ia N s x < N.length
section
variable {N B B1:List (List Int)} {s j n:Nat} {m:Int} {row:List Int}
theorem vO (n:Nat) (v:Value):List.replicate n v=eh (List.replicate n v):=rfl
theorem uW {s:Int}:(o6 B s m).length=B.length:=by unfold o6;split <;> simp
theorem KY {s:Int} (h:0<=m):o6 B s m=B.set m.toNat (B.getD m.toNat [] ++ [s]):=if_pos h
theorem Qi {s:Int} (h:¬ 0<=m):o6 B s m=B:=if_neg h
theorem uV {s:Int} {c:Nat} (h:∀ t,(B.getD t []).length<=c) (hm:0<=m->m.toNat < B.length):∀ t,((o6 B s m).getD t []).length<=c + 1:=fun t=>by
  unfold o6;split
  · rename_i q
    rw [dU (hm q)]
    split
    · have:=h m.toNat;rw [List.length_append,List.length_singleton];omega
    · have:=h t;omega
  · have:=h t;omega
structure KG (N:List (List Int)) (s:Nat) (B:List (List Int)):Prop where
  run:(List.range s).foldl (jr N) (List.replicate N.length [])=B
  len:B.length=N.length
  bound:∀ t,(B.getD t []).length<=1000 * s
structure FG (N:List (List Int)) (s:Nat) (B:List (List Int)) (j:Nat) (B1:List (List Int)):Prop where
  out:KG N s B
  run:((N.getD s []).take j).foldl (fun B m=>o6 B s m) B=B1
  len:B1.length=N.length
  bound:∀ t,(B1.getD t []).length<=1000 * s + j
theorem KG.start:KG N 0 (List.replicate N.length []):=⟨rfl,by simp,fun t=>by
  by_cases h:t < N.length <;> simp [List.getD_eq_getElem?_getD,h]⟩
theorem FG.start (h:KG N s B):FG N s B 0 B:=⟨h,rfl,h.len,h.bound⟩
theorem FG.step (h:FG N s B j B1) (hj:j < (N.getD s []).length) (hm:0<=(N.getD s []).getD j 0->((N.getD s []).getD j 0).toNat < N.length):FG N s B (j + 1) (o6 B1 s ((N.getD s []).getD j 0)) :=
  ⟨h.out,by rw [<- fJ (z:=0) hj,List.foldl_append,h.run];rfl,by rw [uW];exact h.len,uV h.bound fun q=>by rw [h.len];exact hm q⟩
theorem FG.yes (h:FG N s B j B1) (hj:j < (N.getD s []).length) (hm:0<=(N.getD s []).getD j 0->((N.getD s []).getD j 0).toNat < N.length) (q:0<=(N.getD s []).getD j 0):FG N s B (j + 1) (B1.set ((N.getD s []).getD j 0).toNat (B1.getD ((N.getD s []).getD j 0).toNat [] ++ [(s:Int)])):=by
  have:=h.step hj hm;rwa [KY q] at this
theorem FG.no (h:FG N s B j B1) (hj:j < (N.getD s []).length) (hm:0<=(N.getD s []).getD j 0->((N.getD s []).getD j 0).toNat < N.length) (q:¬ 0<=(N.getD s []).getD j 0):FG N s B (j + 1) B1:=by
  have:=h.step hj hm;rwa [Qi q] at this
theorem KG.next (h:FG N s B j B1) (hj:(N.getD s []).length=j) (hk:j<=1000):KG N (s + 1) B1 :=
  ⟨by rw [List.range_succ,List.foldl_append,h.out.run];show jr N B s=B1;rw [jr,<- h.run,<- hj,List.take_length],h.len,fun t=>by have:=h.bound t;omega⟩
theorem KG.fin (h:KG N s B) (hs:s=N.length):B=dt N:=by subst hs;exact h.run.symm
theorem MP {s p:Int} {t:Nat}:p ∈ (o6 B s m).getD t [] ↔ p ∈ B.getD t []\/(0<=m/\m.toNat=t/\t < B.length/\p=s):=by
  unfold o6;split
  · rename_i q
    by_cases hm:m.toNat < B.length
    · rw [dU hm]
      split
      · rename_i e;subst e
        rw [List.mem_append,List.mem_singleton]
        exact ⟨fun h=>h.imp id fun z=>⟨q,rfl,hm,z⟩,fun h=>h.imp id fun z=>z.2.2.2⟩
      · rename_i e
        exact ⟨.inl,fun h=>h.elim id fun z=>absurd z.2.1.symm e⟩
    · rw [List.set_eq_of_length_le O]
      exact ⟨.inl,fun h=>h.elim id fun z=>absurd z.2.2.1 O⟩
  · exact ⟨.inl,fun h=>h.elim id fun z=>absurd z.1 ‹_›⟩
theorem ta {s:Int}:∀ (row:List Int) (B:List (List Int)),(row.foldl (fun B m=>o6 B s m) B).length=B.length
  | [],_=>rfl
  | a :: row,B=>by rw [List.foldl_cons,ta row];exact uW
theorem xD {s p:Int} {t:Nat}:∀ (row:List Int) (B:List (List Int)),p ∈ (row.foldl (fun B m=>o6 B s m) B).getD t [] ↔ p ∈ B.getD t []\/((t:Int) ∈ row/\t < B.length/\p=s)
  | [],B=>by simp
  | a :: row,B=>by
    rw [List.foldl_cons,xD row,MP,uW,List.mem_cons]
    constructor
    · rintro ((h | ⟨h1,h2,h3,h4⟩) | ⟨h1,h2,h3⟩)
      · exact .inl h
      · exact .inr ⟨.inl O,h3,h4⟩
      · exact .inr ⟨.inr h1,h2,h3⟩
    · rintro (h | ⟨h1 | h1,h2,h3⟩)
      · exact .inl (.inl h)
      · exact .inl (.inr ⟨by omega,by omega,h2,h3⟩)
      · exact .inr ⟨h1,h2,h3⟩
theorem xE {p:Int} {t:Nat}:∀ (L:List Nat) (B:List (List Int)),p ∈ (L.foldl (jr N) B).getD t [] ↔ p ∈ B.getD t []\/(t < B.length/\∃ s ∈ L,p=(s:Int)/\(t:Int) ∈ N.getD s [])
  | [],B=>by simp
  | a :: L,B=>by
    rw [List.foldl_cons,xE L,jr,xD,ta]
    constructor
    · rintro ((h | ⟨h1,h2,h3⟩) | ⟨h1,s,h2,h3⟩)
      · exact .inl h
      · exact .inr ⟨h2,a,List.mem_cons_self,h3,h1⟩
      · exact .inr ⟨h1,s,List.mem_cons_of_mem _ h2,h3⟩
    · rintro (h | ⟨h1,s,h2,h3,h4⟩)
      · exact .inl (.inl h)
      · rcases List.mem_cons.1 h2 with rfl | h2
        · exact .inl (.inr ⟨h4,h1,h3⟩)
        · exact .inr ⟨h1,s,h2,h3,h4⟩
theorem Bf {p:Int} {t:Nat}:p ∈ (dt N).getD t [] ↔ t < N.length/\∃ s,s < N.length/\p=(s:Int)/\(t:Int) ∈ N.getD s []:=by
  rw [dt,xE]
  have e:(List.replicate N.length ([]:List Int)).getD t []=[]:=by by_cases h:t < N.length <;> simp [List.getD_eq_getElem?_getD,h]
  rw [e];simp
theorem rM:(dt N).length=N.length:=by
  have:∀ (L:List Nat) (B:List (List Int)),(L.foldl (jr N) B).length=B.length:=by
    intro L
    induction L with
    | nil=>intro B;rfl
    | cons a L ih=>intro B;rw [List.foldl_cons,ih,jr,ta]
  rw [dt,this];simp
theorem zK {s m:Int} {c:Nat} (h:∀ t,(B.getD t []).length<=c):∀ t,((o6 B s m).getD t []).length<=c + 1:=fun t=>by
  by_cases hm:m.toNat < B.length
  · exact uV h (fun _=>hm) t
  · have:=h t
    unfold o6;split
    · rw [List.set_eq_of_length_le O];omega
    · omega
theorem tP {s:Int}:∀ (row:List Int) (B:List (List Int)) (c:Nat),(∀ t,(B.getD t []).length<=c)->∀ t,((row.foldl (fun B m=>o6 B s m) B).getD t []).length<=c + row.length
  | [],B,c,h=>h
  | a :: row,B,c,h=>fun t=>by
    have:=tP (s:=s) row (o6 B s a) (c + 1) (zK h) t
    rw [List.foldl_cons,List.length_cons];omega
theorem tQ {k:Nat} (hk:∀ s,(N.getD s []).length<=k):∀ (L:List Nat) (B:List (List Int)) (c:Nat),(∀ t,(B.getD t []).length<=c)->∀ t,((L.foldl (jr N) B).getD t []).length<=c + k * L.length
  | [],B,c,h=>fun t=>by have:=h t;simpa using this
  | a :: L,B,c,h=>fun t=>by
    have h1:=tQ hk L (jr N B a) (c + k) (fun t=>by have:=tP (s:=(a:Int)) (N.getD a []) B c h t;have:=hk a;unfold jr;omega) t
    rw [List.foldl_cons,List.length_cons,Nat.mul_succ];omega
theorem Dc {k:Nat} (hk:∀ s,(N.getD s []).length<=k) (t:Nat):((dt N).getD t []).length<=k * N.length:=by
  have:=tQ hk (List.range N.length) (List.replicate N.length []) 0 (fun t=>by by_cases h:t < N.length <;> simp [List.getD_eq_getElem?_getD,h]) t
  rw [List.length_range] at this;unfold dt;omega
theorem C6.rows {k:Nat} {acc:List Bool} (h:C6 k acc N) (s:Nat):(N.getD s []).length<=400:=by
  by_cases q:s < N.length
  · have:=h.row s q;have:=h.sym;omega
  · simp [List.getD_eq_getElem?_getD,q]
theorem C6.back {k:Nat} {acc:List Bool} (h:C6 k acc N) (t:Nat):((dt N).getD t []).length<=12000000:=by
  have:=Dc h.rows t;have:=h.num;omega
structure mN (n:Nat) (sn:List Bool) (Q:List Int):Prop where
  len:sn.length=n
  nd:Q.Nodup
  rng:∀ q ∈ Q,0<=q/\q < n
  is:∀ p,p < n->sn.getD p false=decide ((p:Int) ∈ Q)
variable {sn:List Bool} {Q Q1:List Int} {acc:List Bool} {i:Nat}
theorem mN.nil:mN n (List.replicate n false) []:=⟨by simp,List.nodup_nil,(fun _ h=>by cases h),fun p hp=>by simp [hp]⟩
theorem mN.add (h:mN n sn Q) {p:Int} (hp:0<=p/\p < n) (hn:p ∉ Q):mN n (sn.set p.toNat true) (Q ++ [p]) :=
  ⟨by simpa using h.len,pu h.nd hn,qs h.rng hp,fun q hq=>by
    rw [dU (by rw [h.len];omega)]
    split
    · rename_i e;subst e;simp;exact .inr O
    · rename_i e
      rw [h.is q hq]
      congr 1
      rw [List.mem_append,List.mem_singleton,eq_iff_iff]
      exact ⟨.inl,fun z=>z.elim id fun z=>absurd O e⟩⟩
theorem mN.qlen (h:mN n sn Q):Q.length<=n:=by
  have:=qw (l:=Q.map Int.toNat) (n:=n) ?_ ?_
  · simpa using this
  · rw [List.nodup_iff_pairwise_ne,List.pairwise_map]
    exact List.Pairwise.imp_of_mem (fun {a c} ha hc hac e=>hac (by have:=h.rng a ha;have:=h.rng c hc;omega)) h.nd
  · intro x hx
    obtain ⟨a,ha,rfl⟩:=List.mem_map.1 hx
    have:=h.rng a ha;omega
theorem xc:qI acc (i + 1)=qI acc i ++ (if acc.getD i false then [(i:Int)] else []):=by
  rw [qI,List.range_succ,List.filter_append,List.map_append]
  congr 1
  by_cases h:acc.getD i false=true
  · rw [if_pos h,List.filter_cons,if_pos h];rfl
  · rw [if_neg h,List.filter_cons,if_neg h];rfl
theorem zJ (h:Q=qI acc i) (q:acc.getD i false=true):Q ++ [(i:Int)]=qI acc (i + 1):=by rw [h,xc,if_pos q]
theorem FK (h:Q=qI acc i) (q:acc.getD i false=false):Q=qI acc (i + 1):=by rw [h,xc,q];simp
theorem uU {q:Int}:q ∈ qI acc i ↔ ∃ s,s < i/\acc.getD s false=true/\q=(s:Int):=by
  simp only [qI,List.mem_map,List.mem_filter,List.mem_range]
  exact ⟨fun ⟨s,⟨h1,h2⟩,h3⟩=>⟨s,h1,h2,h3.symm⟩,fun ⟨s,h1,h2,h3⟩=>⟨s,⟨h1,h2⟩,h3.symm⟩⟩
theorem zH:(i:Int) ∉ qI acc i:=fun h=>by obtain ⟨s,h1,_,h3⟩:=uU.1 h;omega
structure zC (acc:List Bool) (N:List (List Int)) (i:Nat) (sn:List Bool) (Q:List Int):Prop where
  seen:mN N.length sn Q
  le:i<=Q.length
  fin:∃ f,f + i=N.length + 1/\jy (dt N) f i Q=f8 acc N
structure zD (acc:List Bool) (N:List (List Int)) (i:Nat) (sn:List Bool) (Q:List Int) (j:Nat) (sn1:List Bool) (Q1:List Int):Prop where
  out:zC acc N i sn Q
  lt:i < Q.length
  seen:mN N.length sn1 Q1
  run:(((dt N).getD (Q.getD i 0).toNat []).take j).foldl iU Q=Q1
variable {sn1:List Bool}
theorem zC.start (h:mN N.length sn (qI acc acc.length)):zC acc N 0 sn (qI acc acc.length):=⟨h,Nat.zero_le _,_,rfl,rfl⟩
theorem pm:∀ (P Q:List Int),Q <+: P.foldl iU Q
  | [],Q=>List.prefix_refl _
  | p :: P,Q=>by
    rw [List.foldl_cons]
    refine List.IsPrefix.trans ?_ (pm P (iU Q p))
    unfold iU;split
    · exact List.prefix_refl _
    · exact List.prefix_append _ _
theorem nY {B:List (List Int)}:∀ (f i:Nat) (Q:List Int),Q <+: jy B f i Q
  | 0,_,_=>List.prefix_refl _
  | f + 1,i,Q=>by
    unfold jy;split
    · exact (pm _ _).trans (nY f _ _)
    · exact List.prefix_refl _
theorem zC.pre (h:zC acc N i sn Q):Q <+: f8 acc N:=by obtain ⟨f,_,e⟩:=h.fin;rw [<- e];exact nY _ _ _
theorem zC.get (h:zC acc N i sn Q) (hi:i < Q.length):(f8 acc N).getD i 0=Q.getD i 0/\i < (f8 acc N).length:=⟨vK h.pre hi,Nat.lt_of_lt_of_le hi h.pre.length_le⟩
theorem zC.at (h:zC acc N i sn Q) (hi:i < Q.length):0<=Q.getD i 0/\(Q.getD i 0).toNat < N.length:=by have:=h.seen.rng _ (bi (d:=(0:Int)) hi);omega
theorem zD.start (h:zC acc N i sn Q) (hi:i < Q.length):zD acc N i sn Q 0 sn Q:=⟨h,hi,h.seen,rfl⟩
theorem zD.rng (hj:j < ((dt N).getD (Q.getD i 0).toNat []).length):0<=((dt N).getD (Q.getD i 0).toNat []).getD j 0/\(((dt N).getD (Q.getD i 0).toNat []).getD j 0).toNat < N.length:=by
  obtain ⟨_,s,h2,h3,_⟩:=Bf.1 (bi (d:=(0:Int)) hj)
  rw [h3];exact ⟨by omega,by simpa using h2⟩
theorem zD.next (h:zD acc N i sn Q j sn1 Q1) (hj:j < ((dt N).getD (Q.getD i 0).toNat []).length) {Q2:List Int} {D:List Bool} (hs:mN N.length D Q2) (e:iU Q1 (((dt N).getD (Q.getD i 0).toNat []).getD j 0)=Q2):zD acc N i sn Q (j + 1) D Q2 :=
  ⟨h.out,h.lt,hs,by rw [<- fJ (z:=(0:Int)) hj,List.foldl_append,h.run];exact e⟩
theorem zD.old (h:zD acc N i sn Q j sn1 Q1) (hj:j < ((dt N).getD (Q.getD i 0).toNat []).length) (q:(!sn1.getD (((dt N).getD (Q.getD i 0).toNat []).getD j 0).toNat false)=false):zD acc N i sn Q (j + 1) sn1 Q1:=by
  have hr:=zD.rng hj
  refine h.next hj h.seen ?_
  rw [h.seen.is _ hr.2] at q
  rw [iU,if_pos]
  simp only [Bool.not_eq_false',decide_eq_true_eq] at q
  rwa [show ((((dt N).getD (Q.getD i 0).toNat []).getD j 0).toNat:Int)=((dt N).getD (Q.getD i 0).toNat []).getD j 0 by omega] at q
theorem zD.new (h:zD acc N i sn Q j sn1 Q1) (hj:j < ((dt N).getD (Q.getD i 0).toNat []).length) (q:(!sn1.getD (((dt N).getD (Q.getD i 0).toNat []).getD j 0).toNat false)=true):zD acc N i sn Q (j + 1) (sn1.set (((dt N).getD (Q.getD i 0).toNat []).getD j 0).toNat true) (Q1 ++ [((dt N).getD (Q.getD i 0).toNat []).getD j 0]):=by
  have hr:=zD.rng hj
  rw [h.seen.is _ hr.2] at q
  simp only [Bool.not_eq_true',decide_eq_false_iff_not] at q
  rw [show ((((dt N).getD (Q.getD i 0).toNat []).getD j 0).toNat:Int)=((dt N).getD (Q.getD i 0).toNat []).getD j 0 by omega] at q
  exact h.next hj (h.seen.add O q) (by rw [iU,if_neg q])
theorem zC.next (h:zD acc N i sn Q j sn1 Q1) (hj:((dt N).getD (Q.getD i 0).toNat []).length=j):zC acc N (i + 1) sn1 Q1:=by
  obtain ⟨f,hf,e⟩:=h.out.fin
  have h1:=h.out.seen.qlen
  have h2:=h.lt
  obtain ⟨f,rfl⟩:∃ g,f=g + 1:=⟨f - 1,by omega⟩
  have hr:=h.run
  rw [<- hj,List.take_length] at hr
  have hp:Q <+: Q1:=by rw [<- hr];exact pm _ _
  refine ⟨h.seen,by have:=hp.length_le;omega,f,by omega,?_⟩
  rw [<- e,jy,if_pos h2,hr]
theorem zC.end (h:zC acc N i sn Q) (hi:Q.length<=i):Q=f8 acc N/\i=(f8 acc N).length:=by
  obtain ⟨f,hf,e⟩:=h.fin
  have h1:=h.seen.qlen
  have h2:=h.le
  have e2:Q=f8 acc N:=by
    rw [<- e]
    cases f with
    | zero=>rfl
    | succ f=>rw [jy,if_neg O]
  exact ⟨e2,by rw [<- e2];omega⟩
end
def jk (A B:AH) (bo:Nat) (v:Value):Prop:=∀ b,blk v=some b->A.n<=b/\¬ mI bo B b
section
variable {A B C E M:AH} {bo b:Nat} {v u vY:Value} {cY:Nat} {n:Nat} {xs:List Value}
theorem jk.off (h:jk A C bo v) (g:C.get bo=some (.row true [vY] cY)):KH v [some bo,blk vY]:=fun c hc=>by
  have:=(h c hc).2
  refine qL (fun q=>this (.inl q)) (n0 (fun q=>this (.inr ⟨_,_,g,q⟩)) mF)
theorem jk.ne (h:jk A C bo v):blk v ≠ some bo:=fun q=>(h bo q).2 (.inl Z)
theorem jk.yield (h:jk A C bo v) (fr:o0 C v n xs) (g:C.get bo=some (.row true [vY] cY)) (hR:cq bo (C.hide [some bo,blk vY]) E):jk A E bo v:=fun b hb=>⟨(h b hb).1,fun z=>by
  obtain ⟨o,ho⟩:=fr.blkget hb
  have:=hR.ow b z
  rw [bK ho (h.off g b hb)] at this;cases this⟩
theorem jk.nm (hs:jk A C bo v) (hq:jk A C bo u) (h:b < A.n\/mI bo C b):some b ∉ [blk v,blk u]:=by
  refine n0 (fun z=>?_) (n0 (fun z=>?_) mF)
  · have:=hs b z;rcases h with h | h;omega;exact this.2 h
  · have:=hq b z;rcases h with h | h;omega;exact this.2 h
theorem jk.next {v':Value} (hs:jk A C bo v) (hq:jk A C bo u) (g:C.get bo=some (.row true [vY] cY)) (l:∀ b,blk vY=some b->∃ o,C.get b=some o) (gE:E.get bo=some (.row true [vY] cY))
    (nj:∀ b,blk v'=some b->(C.hide [blk v,blk u]).get b=none) (lo:∀ b,blk v'=some b->A.n<=b):jk A E bo v':=fun b hb=>⟨lo b hb,fun z=>by
  have z2:mI bo C b:=z.same (by rw [gE,g])
  have hex:∃ o,C.get b=some o:=by
    rcases z2.val g with rfl | q
    · exact ⟨_,g⟩
    · exact l b q
  obtain ⟨o,ho⟩:=hex
  have:=nj b hb
  rw [bK ho (jk.nm hs hq (.inr z2))] at this;cases this⟩
theorem jk.start (g:C.get bo=some (.row true [vY] cY)) (l:∀ b,blk vY=some b->∃ o,A.get b=some o) (gA:A.get bo=some (.row true [vY] cY)) (nj:∀ b,blk v=some b->A.get b=none) (lo:∀ b,blk v=some b->A.n<=b):jk A C bo v:=fun b hb=>⟨lo b hb,fun z=>by
  rcases z.val g with rfl | q
  · have:=nj _ hb;rw [gA] at this;cases this
  · obtain ⟨o,ho⟩:=l b q;have:=nj _ hb;rw [ho] at this;cases this⟩
theorem cq.keep (h:cq bo M C) (le:M.le E) (g:C.get bo=some (.row true [vY] cY)) (gE:E.get bo=some (.row true [vY] cY)):cq bo M E:=⟨le,h.wf,fun b hb=>h.ow b (hb.same (by rw [gE,g]))⟩
theorem MJ {s:Value} (h:∀ b,blk s=some b->A.n<=b) (ap:mu C s n xs v E) (hn:A.n<=C.n):∀ b,blk v=some b->A.n<=b:=fun b hb=>(ap.blk b hb).elim (h b) fun q=>Nat.le_trans hn q
theorem Uk:∀ b,blk (.slice none 0 0)=some b->A.n<=b:=fun _ q=>by cases q
end
end Go.Proofs.YtjppkekmddjcfaaGreatDoor

namespace Go.Proofs.YtjppkekmddjcfaaGreatDoor
open Go Go.RowKit V
abbrev i7 (p:Bool × Bool):Value:=.agg #[.bool p.1,.bool p.2]
section
variable {P:Program} {w:World} {kt bt:TypeId} {p q:Bool × Bool}
structure KW (P:Program) (kt bt:TypeId):Prop where
  arr:P.underlying kt=some (.array 2 bt)
  bool:P.underlying bt=some .bool
  sz:c9 P bt=some 1
  ag:dr P bt=some false
theorem Fh (h:KW P kt bt):(part bt #[.bool p.1,.bool p.2] 0).run P w=.ok (.bool p.1) w:=nf (by rw [pw,h.ag];rfl)
theorem Fj (h:KW P kt bt):(part bt #[.bool p.1,.bool p.2] 1).run P w=.ok (.bool p.2) w:=nf (by rw [pw,h.ag];rfl)
theorem wa (h:KW P kt bt) (b:Bool):(Instr.checkKey b 10000 kt (i7 p)).run P w=.ok () w:=by
  have e:Instr.checkKey b 10000 kt (i7 p)=Instr.checkKey b (9998 + 1 + 1) kt (i7 p):=rfl
  rw [e]
  generalize 9998=d
  have hb:∀ v,(Instr.checkKey b (d + 1) bt (.bool v)).run P w=.ok () w:=fun v=>by
    unfold Instr.checkKey
    simp only [Sem.run_bind,ca h.bool,Result.andThen_ok];rfl
  rw [Instr.checkKey]
  simp [Sem.run_bind,ca h.arr,Result.andThen_ok,Std.Legacy.Range.forIn_eq_forIn_range',List.range',dX h.sz,hb]
  rw [Fh h];simp [hb]
  rw [Fj h];simp [hb]
theorem EE (h:KW P kt bt):(Op.equal kt (i7 p) (i7 q)).run P w=.ok (decide (p=q)) w:=by
  have e:Op.equal kt (i7 p) (i7 q)=Op.equalIn (9998 + 1 + 1) kt (i7 p) (i7 q):=rfl
  rw [e]
  generalize 9998=d
  have hb:∀ u v,(Op.equalIn (d + 1) bt (.bool u) (.bool v)).run P w=.ok (u == v) w:=fun u v=>by
    simp only [Op.equalIn,Sem.run_bind,ca h.bool,Result.andThen_ok];rfl
  rw [Op.equalIn]
  simp [Sem.run_bind,ca h.arr,Result.andThen_ok,Std.Legacy.Range.forIn_eq_forIn_range',List.range',dX h.sz,hb]
  rw [Fh h];simp
  rw [Fh h];simp [hb]
  obtain ⟨p1,p2⟩:=p
  obtain ⟨q1,q2⟩:=q
  by_cases h1:p1=q1
  · subst h1
    simp
    rw [Fj (p:=(p1,p2)) h];simp
    rw [Fj (p:=(p1,q2)) h];simp [hb]
    by_cases h2:p2=q2
    · subst h2;simp
    · simp [h2]
  · simp [h1]
theorem N8 (h:KW P kt bt) (k:Bool × Bool):∀ (l:List MapEntry) (E:List ((Bool × Bool) × Value)) (n:Nat),l.map (fun x=>(x.key,x.val))=E.map (fun p=>(i7 p.1,p.2)) ->
    ∃ r,(Instr.findAsking kt (i7 k) l n).run P w=.ok r w/\r.map (·.2)=lk E k:=by
  intro l
  induction l with
  | nil =>
    intro E n hE
    cases E with
    | nil=>exact ⟨none,Z,Z⟩
    | cons p E=>cases hE
  | cons x l ih =>
    intro E n hE
    cases E with
    | nil=>cases hE
    | cons p E =>
      simp only [List.map_cons,List.cons.injEq,Prod.mk.injEq] at hE
      obtain ⟨⟨h1,h2⟩,h3⟩:=hE
      rw [Instr.findAsking]
      simp only [Sem.run_bind,h1,EE h,Result.andThen_ok]
      by_cases q:k=p.1
      · rw [decide_eq_true q]
        exact ⟨some (n,x.val),Z,by simp [lk,q,h2]⟩
      · rw [decide_eq_false q]
        obtain ⟨r,g1,g2⟩:=ih E (n + 1) h3
        exact ⟨r,g1,by rw [g2];simp [lk,show ¬ p.1=k from fun e=>q e.symm]⟩
theorem xU (h:KW P kt bt) (k:Bool × Bool) {es:Array MapEntry} {E:List ((Bool × Bool) × Value)} (hE:dh i7 es E):∃ r,(Instr.findKey kt (i7 k) es.toList).run P w=.ok r w/\r.map (·.2)=lk E k:=by
  obtain ⟨r,g1,g2⟩:=N8 (w:=w) h k es.toList E 0 hE
  unfold Instr.findKey
  simp only [Sem.run_bind,ca h.arr,Result.andThen_ok]
  cases hl:es.toList with
  | nil =>
    refine ⟨none,Z,?_⟩
    have hE':es.toList.map (fun x=>(x.key,x.val))=E.map fun p=>(i7 p.1,p.2):=hE
    rw [hl] at hE'
    cases E with
    | nil=>rfl
    | cons p E=>cases hE'
  | cons x l =>
    rw [hl] at g1
    refine ⟨r,?_,g2⟩
    have:Instr.findNow (.array 2 bt) (i7 k) (x :: l) 0=none:=by
      unfold Instr.findNow
      have:Instr.sameNow (.array 2 bt) (i7 k) x.key=none:=by unfold Instr.sameNow;rfl
      rw [this]
    rw [this];exact g1
end
section
variable {P:Program} {nt:Nat} {all:Array Oper} {os:List Oper} {Q:Exit->Fr->AH->Prop} {e:gu} {ds:List Deferred} {A:AH} {x y z:Operand} {t kt et bt:TypeId} {ty:TypeId} {ps:String} {af:Array Edge} {dst:Option Nat} {m clock:Nat} {es:Array MapEntry} {rw:Bool} {E:List ((Bool × Bool) × Value)} {k:Bool × Bool} {v zv:Value}
theorem V.Ops.look2 (hd:gx nt dst=true) (hx:bN e x=some (.map (some m))) (hy:bN e y=some (i7 k)) (hu:P.underlying t=some (.map kt et)) (hk:KW P kt bt) (hz:cu P et=some zv) (hg:A.get m=some (.obj rw (.map es clock))) (hE:dh i7 es E)
    (h1:∀ v,lk E k=some v->Ops P nt all os Q ⟨fA e dst (.tuple #[v,.bool true]),ds⟩ A) (h2:lk E k=none->Ops P nt all os Q ⟨fA e dst (.tuple #[zv,.bool false]),ds⟩ A) :
    Ops P nt all ({ dst:=dst,op:=.lookup t x y true,type:=ty,pos:=ps,after:=af,guard:=none } :: os) Q ⟨e,ds⟩ A:=by
  have key:∀ (u:Value × Bool),u=(match lk E k with | some v=>(v,true) | none=>(zv,false))->∀ a:Act,cO nt ⟨e,ds⟩ a->∀ w,co A w->(execOp a.eval { dst:=dst,op:=.lookup t x y true,type:=ty,pos:=ps,after:=af,guard:=none }).run P w=.ok (.value (.tuple #[u.1,.bool u.2])) w:=by
    rintro u rfl a ha w hw
    have g1:=cB ha hx
    have g2:=cB ha hy
    obtain ⟨o1,o2⟩:=hw.obj hg
    obtain ⟨r,f1,f2⟩:=xU (w:=w) hk k hE
    simp only [execOp,g1,g2,Instr.lookup,Sem.run_bind,ca hu,Result.andThen_ok,dc o1 o2,Sem.run_pure,wa hk,f1]
    cases r with
    | none =>
      simp only [Option.map_none] at f2
      rw [<- f2]
      simp only [Sem.run_bind,gJ hz,Result.andThen_ok,Sem.run_pure,if_true]
    | some r =>
      simp only [Option.map_some] at f2
      rw [<- f2]
      simp only [Sem.run_bind,Result.andThen_ok,Sem.run_pure,if_true]
  cases hl:lk E k with
  | none=>exact Ops.val Z hd (key (zv,false) (by rw [hl])) (h2 hl)
  | some v=>exact Ops.val Z hd (key (v,true) (by rw [hl])) (h1 v hl)
theorem V.Ops.skipW {o:Oper} {A':AH} (hg:o.guard=none) (hd:gx nt o.dst=true) (hr:∀ a:Act,cO nt ⟨e,ds⟩ a->∀ w,co A w->∃ w',(execOp a.eval o).run P w=.ok .skip w'/\co A' w'/\eD A w A' w') (h:Ops P nt all os Q ⟨fA e o.dst undef,ds⟩ A') :
    Ops P nt all (o :: os) Q ⟨e,ds⟩ A:=by
  intro a w ha hw A₀ w₀ hs
  unfold wpList
  rw [if_pos (by simp [Region.wanted,hg])]
  left
  unfold Oper.wp
  obtain ⟨w',r,v1,s1⟩:=hr a ha w hw
  rw [r]
  exact h _ w' (ha.put o.dst undef (cQ hd)) v1 A₀ w₀ (hs.trans s1)
theorem V.Ops.new2 (hd:gx nt dst=true) (wf:A.wf) (hx:bN e x=some (.map (some m))) (hy:bN e y=some (i7 k)) (hz:bN e z=some v) (hu:P.underlying t=some (.map kt et)) (hk:KW P kt bt) (hg:A.get m=some (.obj true (.map es clock))) (hE:dh i7 es E) (hn:lk E k=none)
    (h:∀ A1 es1 ck,uj A A1 m (.obj true (.map es1 ck))->dh i7 es1 (E ++ [(k,v)])->Ops P nt all os Q ⟨fA e dst undef,ds⟩ A1) :
    Ops P nt all ({ dst:=dst,op:=.mapUpdate t x y z,type:=ty,pos:=ps,after:=af,guard:=none } :: os) Q ⟨e,ds⟩ A:=by
  refine Ops.skipW (A':=A.set m (.obj true (.map (es.push { key:=i7 k,val:=v,born:=clock }) (clock + 1)))) Z hd (fun a ha w hw=>?_) (h _ _ _ (Po wf hg _) (hE.push k v clock))
  have g1:=cB ha hx
  have g2:=cB ha hy
  have g3:=cB ha hz
  obtain ⟨o1,o2⟩:=hw.obj hg
  obtain ⟨r,f1,f2⟩:=xU (w:=w) hk k hE
  rw [hn] at f2
  obtain rfl:r=none:=by cases r with | none=>rfl | some r=>cases f2
  obtain ⟨w',r,v1,s1⟩:=jj (P:=P) hw hg (y:=.map (es.push { key:=i7 k,val:=v,born:=clock }) (clock + 1)) (fun _ _ _ q=>by cases q)
  refine ⟨w',?_,v1,s1⟩
  simp only [execOp,g1,g2,g3,Sem.run_bind,Instr.mapUpdate,ca hu,Result.andThen_ok,dc o1 o2,wa hk,f1,r]
  rfl
end
end Go.Proofs.YtjppkekmddjcfaaGreatDoor

namespace Go.Proofs.YtjppkekmddjcfaaGreatDoor
open Go Go.RowKit V
section
variable {K:Type} [DecidableEq K]
def m7 (Q:List K):List (K × Value):=Q.zipIdx.map fun p=>(p.1,num ((p.2:Nat):Int))
theorem tq (Q:List K):(m7 Q).map (·.1)=Q:=by
  simp [m7,List.map_map,Function.comp_def]
theorem xH (Q:List K) (t:K):m7 (Q ++ [t])=m7 Q ++ [(t,num ((Q.length:Nat):Int))]:=by simp [m7,List.zipIdx_append]
theorem BF (Q:List K):(m7 Q).length=Q.length:=by simp [m7]
theorem za {Q:List K} {t:K} (h:t ∉ Q):lk (m7 Q) t=none:=yU.2 (by rw [tq];exact h)
theorem MI:∀ (Q:List K) (n:Nat) (t:K),t ∈ Q->lk ((Q.zipIdx n).map fun p=>(p.1,num ((p.2:Nat):Int))) t=some (num (((n + Q.idxOf t:Nat)):Int)):=by
  intro Q
  induction Q with
  | nil=>intro n t h;cases h
  | cons a Q ih =>
    intro n t h
    by_cases q:a=t
    · subst q;simp [lk]
    · have h2:t ∈ Q:=by rcases List.mem_cons.1 h with z | z;exact absurd z.symm q;exact z
      have:=ih (n + 1) t h2
      simp only [List.zipIdx_cons,List.map_cons]
      rw [List.idxOf_cons,beq_eq_false_iff_ne.2 q,cond_false]
      simp only [lk,List.find?_cons,decide_eq_false q] at this ⊢
      rw [this]
      congr 3;omega
theorem uH {Q:List K} {t:K} (h:t ∈ Q):lk (m7 Q) t=some (num ((Q.idxOf t:Nat):Int)):=by
  have:=MI Q 0 t h
  rwa [Nat.zero_add] at this
theorem Nh {Q:List K} {t:K} (h:t ∉ Q):yj (m7 Q) t (num ((Q.length:Nat):Int))=m7 (Q ++ [t]):=by
  rw [uO (by rw [tq];exact h),xH]
def n5 (st:List Int × List K) (x:K):List Int × List K:=if x ∈ st.2 then (st.1 ++ [(st.2.idxOf x:Int)],st.2) else (st.1 ++ [(st.2.length:Int)],st.2 ++ [x])
def cb (l:List K):List Int × List K:=l.foldl n5 ([],[])
theorem qx (l:List K) (x:K):cb (l ++ [x])=n5 (cb l) x:=by simp [cb]
theorem gk (l:List K):(cb l).2.Nodup/\(∀ x,x ∈ (cb l).2 ↔ x ∈ l)/\(cb l).1=l.map (fun x=>((cb l).2.idxOf x:Int)):=by
  suffices h:∀ (l m:List K),cb m=(m.map (fun x=>((cb m).2.idxOf x:Int)),(cb m).2)->(cb m).2.Nodup->(∀ x,x ∈ (cb m).2 ↔ x ∈ m) ->
      (cb (m ++ l)).2.Nodup/\(∀ x,x ∈ (cb (m ++ l)).2 ↔ x ∈ m ++ l)/\(cb (m ++ l)).1=(m ++ l).map (fun x=>((cb (m ++ l)).2.idxOf x:Int)) by
    have:=h l [] Z List.nodup_nil (fun x=>Iff.rfl)
    simpa using this
  intro l
  induction l with
  | nil=>intro m h1 h2 h3;rw [List.append_nil];exact ⟨h2,h3,congrArg (·.1) h1⟩
  | cons a l ih =>
    intro m h1 h2 h3
    have e:m ++ a :: l=(m ++ [a]) ++ l:=by simp
    rw [e]
    have es:cb (m ++ [a])=n5 (cb m) a:=qx m a
    by_cases q:a ∈ (cb m).2
    · have e2:n5 (cb m) a=((cb m).1 ++ [((cb m).2.idxOf a:Int)],(cb m).2):=if_pos q
      refine ih (m ++ [a]) ?_ ?_ ?_
      · rw [es,e2];simp only [List.map_append,List.map_cons,List.map_nil]
        rw [show (cb m).1=m.map (fun x=>((cb m).2.idxOf x:Int)) from congrArg (·.1) h1]
      · rw [es,e2];exact h2
      · intro x;rw [es,e2,List.mem_append,List.mem_singleton]
        show x ∈ (cb m).2 ↔ _
        rw [h3 x]
        exact ⟨.inl,fun z=>z.elim id fun z=>by subst z;exact (h3 x).1 q⟩
    · have e2:n5 (cb m) a=((cb m).1 ++ [((cb m).2.length:Int)],(cb m).2 ++ [a]):=if_neg q
      refine ih (m ++ [a]) ?_ ?_ ?_
      · rw [es,e2];simp only [List.map_append,List.map_cons,List.map_nil]
        have hm:(cb m).1=m.map (fun x=>((cb m).2.idxOf x:Int)):=congrArg (·.1) h1
        congr 1
        rw [hm]
        congr 1
        · apply List.map_congr_left
          intro x hx
          rw [List.idxOf_append,if_pos ((h3 x).2 hx)]
        · rw [List.idxOf_append,if_neg q];simp
      · rw [es,e2];exact List.nodup_append.2 ⟨h2,by simp,by intro x hx y hy;simp at hy;subst hy;exact fun z=>q (z ▸ hx)⟩
      · intro x;rw [es,e2,List.mem_append,List.mem_append,List.mem_singleton]
        show _\/_ ↔ _
        rw [h3 x]
theorem MW (l:List K):(cb l).1.length=l.length:=by rw [(gk l).2.2];simp
theorem vG {l:List K} {n:Nat} (h1:l.Nodup) (f:K->Nat) (hf:∀ a ∈ l,∀ b ∈ l,f a=f b->a=b) (hb:∀ a ∈ l,f a < n):l.length<=n:=by
  have:=qw (l:=l.map f) (n:=n) ?_ ?_
  · simpa using this
  · rw [List.nodup_iff_pairwise_ne,List.pairwise_map]
    exact List.Pairwise.imp_of_mem (fun {a c} ha hc hac e=>hac (hf a ha c hc e)) h1
  · intro x hx
    obtain ⟨a,ha,rfl⟩:=List.mem_map.1 hx
    exact hb a ha
theorem Rx (l:List K):(cb l).2.length<=l.length :=
  vG (gk l).1 (fun a=>l.idxOf a) (fun a ha b hb e=>by
    have h1:=((gk l).2.1 a).1 ha
    have h2:=((gk l).2.1 b).1 hb
    have e1:=List.getElem_idxOf (List.idxOf_lt_length_iff.2 h1)
    have e2:=List.getElem_idxOf (List.idxOf_lt_length_iff.2 h2)
    rw [<- e1,<- e2];congr 1) fun a ha=>List.idxOf_lt_length_iff.2 (((gk l).2.1 a).1 ha)
theorem sd (l:List K) {i:Nat} {d:K} (hi:i < l.length):(cb l).1.getD i 0=((cb l).2.idxOf (l.getD i d):Int)/\l.getD i d ∈ (cb l).2:=by
  refine ⟨?_,((gk l).2.1 _).2 (bi hi)⟩
  rw [(gk l).2.2]
  simp [List.getD_eq_getElem?_getD,hi]
theorem MY (l:List K):∀ c ∈ (cb l).1,0<=c/\c < (cb l).2.length:=fun c hc=>by
  rw [(gk l).2.2] at hc
  obtain ⟨x,hx,rfl⟩:=List.mem_map.1 hc
  have:=List.idxOf_lt_length_iff.2 (((gk l).2.1 x).2 hx)
  omega
theorem yZ (l:List K) {i j:Nat} {d:K} (hi:i < l.length) (hj:j < l.length):(cb l).1.getD i 0=(cb l).1.getD j 0 ↔ l.getD i d=l.getD j d:=by
  have h1:=sd l (d:=d) hi
  have h2:=sd l (d:=d) hj
  rw [h1.1,h2.1]
  constructor
  · intro h
    have e1:=List.getElem_idxOf (List.idxOf_lt_length_iff.2 h1.2)
    have e2:=List.getElem_idxOf (List.idxOf_lt_length_iff.2 h2.2)
    rw [<- e1,<- e2];congr 1;omega
  · intro h;rw [h]
end
theorem Ei {K L:Type} [DecidableEq K] [DecidableEq L] (l:List K) (m:List L) (d:K) (d2:L) (hl:l.length=m.length) (h:∀ i j,i < m.length->j < m.length->m.getD i d2=m.getD j d2->l.getD i d=l.getD j d):(cb l).2.length<=(cb m).2.length :=
  vG (gk l).1 (fun a=>(cb m).2.idxOf (m.getD (l.idxOf a) d2)) (fun a ha b hb e=>by
    have h1:=List.idxOf_lt_length_iff.2 (((gk l).2.1 a).1 ha)
    have h2:=List.idxOf_lt_length_iff.2 (((gk l).2.1 b).1 hb)
    have m1:=sd m (d:=d2) (i:=l.idxOf a) O
    have m2:=sd m (d:=d2) (i:=l.idxOf b) O
    have e1:=List.getElem_idxOf h1
    have e2:=List.getElem_idxOf h2
    have:=h _ _ O O ((yZ m (d:=d2) (i:=l.idxOf a) (j:=l.idxOf b) O O).1 (by rw [m1.1,m2.1];exact congrArg Int.ofNat e))
    rw [gd h1,gd h2] at this
    rw [<- e1,<- e2];exact this) fun a ha=>by
    have h1:=List.idxOf_lt_length_iff.2 (((gk l).2.1 a).1 ha)
    exact List.idxOf_lt_length_iff.2 (sd m (d:=d2) (i:=l.idxOf a) O).2
def lU (n:Nat) (key:List Int->Nat->Wd):Nat->Nat->List Int->List Int
  | 0,_,cls=>cls
  | f + 1,count,cls=>if (cb ((List.range n).map (key cls))).2.length=count then (cb ((List.range n).map (key cls))).1 else lU n key f (cb ((List.range n).map (key cls))).2.length (cb ((List.range n).map (key cls))).1
def zU (n:Nat) (st:Nat->Bool × Bool) (key:List Int->Nat->Wd):List Int:=lU n key (n + 2) (cb ((List.range n).map st)).2.length (cb ((List.range n).map st)).1
def kE (lv:List Bool) (m:Int):Bool:=decide (0<=m) && lv.getD m.toNat false
def vA (lv:List Bool) (cls:List Int) (m:Int):Wd:=32 :: (if kE lv m then iq (cls.getD m.toNat 0).toNat else [])
def oO (lv:List Bool) (N:List (List Int)) (cls:List Int) (i:Nat):Wd:=if lv.getD i false then iq (cls.getD i 0).toNat ++ (N.getD i []).flatMap (vA lv cls) else [45]
def UR (acc lv:List Bool) (i:Nat):Bool × Bool:=(lv.getD i false,acc.getD i false)
def yx (acc lv:List Bool) (N:List (List Int)):List Int:=zU N.length (UR acc lv) (oO lv N)
def jz (cls:List Int) (c:Int):Nat:=cls.idxOf c
def jD (lv:List Bool) (N:List (List Int)) (cls:List Int) (c:Int) (x:Nat):Option Int :=
  if kE lv (ia N (jz cls c) x) then some (cls.getD (ia N (jz cls c) x).toNat 0) else none
def Dp (k:Nat) (acc:List Bool) (N:List (List Int)):List Int × List (List Int):=fF k (jD (iQ acc N) N (yx acc (iQ acc N) N)) (N.length + 1) 0 [(yx acc (iQ acc N) N).getD 0 0] []
def yv (k:Nat) (acc:List Bool) (N:List (List Int)):List Bool × List (List Int) :=
  if (iQ acc N).getD 0 false then ((Dp k acc N).1.map fun c=>acc.getD (jz (yx acc (iQ acc N) N) c) false,(Dp k acc N).2) else ([],[])
def Qq (k:Nat) (acc:List Bool) (L:List (List Int)):List Bool × List (List Int):=yv k (wv k acc L) (gO k L).2
end Go.Proofs.YtjppkekmddjcfaaGreatDoor

namespace Go.Proofs.YtjppkekmddjcfaaGreatDoor
open Go Go.RowKit V
section
variable {K:Type} [DecidableEq K]
def iM (Q:List K) (k:K):Nat:=if k ∈ Q then Q.idxOf k else Q.length
def jx (Q:List K) (k:K):List K:=if k ∈ Q then Q else Q ++ [k]
theorem Bq {Q:List K} {k:K} (h:k ∈ Q):iM Q k=Q.idxOf k:=if_pos h
theorem Bw {Q:List K} {k:K} (h:k ∉ Q):iM Q k=Q.length:=if_neg h
theorem xy {Q:List K} {k:K} (h:k ∈ Q):jx Q k=Q:=if_pos h
theorem xz {Q:List K} {k:K} (h:k ∉ Q):jx Q k=Q ++ [k]:=if_neg h
end
section
variable {α:Type} [DecidableEq α] {enc:α->Value} {P:Program} {e:gu} {A:AH} {x:Operand} {t kt et:TypeId} {ty:TypeId} {ps:String} {af:Array Edge} {dst:Option Nat} {K:Value->AH->Prop} {Kp:List PanicEntry->AH->Prop} {g:Option (Nat × Bool)} {m clock:Nat} {es:Array MapEntry} {rw:Bool} {Q:List α}
theorem sA (hx:bN e x=some (.map (some m))) (hu:P.underlying t=some (.map kt et)) (hg:A.get m=some (.obj rw (.map es clock))) (hE:dh enc es (m7 Q)) (h:K (num ((Q.length:Nat):Int)) A) :
    ky P e A { dst:=dst,op:=.call { callee:=.builtin .len,args:=#[x],argTypes:=#[t] },type:=ty,pos:=ps,after:=af,guard:=g } K Kp:=by
  simp only [ky,vc,jq,hx]
  refine ⟨num ((Q.length:Nat):Int),?_,h⟩
  simp only [r0,hu,hg]
  rw [hE.size,BF]
theorem PN {kd:TypeDesc} {y:Operand} {k:α} (Ko:rJ kd enc) (hx:bN e x=some (.map (some m))) (hy:bN e y=some (enc k)) (hu:P.underlying t=some (.map kt et)) (hk:P.underlying kt=some kd) (hz:cu P et=some (num 0)) (hg:A.get m=some (.obj rw (.map es clock))) (hE:dh enc es (m7 Q))
    (h1:k ∈ Q->K (.tuple #[num ((iM Q k:Nat):Int),.bool true]) A) (h2:k ∉ Q->K (.tuple #[num 0,.bool false]) A):ky P e A { dst:=dst,op:=.lookup t x y true,type:=ty,pos:=ps,after:=af,guard:=g } K Kp:=by
  refine wx Ko hx hy hu hk hz hg hE (fun v hv=>?_) (fun hn=>?_)
  · by_cases q:k ∈ Q
    · rw [uH q,<- Bq q] at hv;cases hv;exact h1 q
    · rw [za q] at hv;cases hv
  · exact h2 fun q=>by rw [uH q] at hn;cases hn
end
section
variable {P:Program} {nt:Nat} {all:Array Oper} {os:List Oper} {Q:Exit->Fr->AH->Prop} {e:gu} {ds:List Deferred} {A:AH} {x y z:Operand} {t kt et bt:TypeId} {ty:TypeId} {ps:String} {af:Array Edge} {dst:Option Nat} {m clock:Nat} {es:Array MapEntry} {rw:Bool} {L:List (Bool × Bool)} {k:Bool × Bool}
theorem V.Ops.look2G (hd:gx nt dst=true) (hx:bN e x=some (.map (some m))) (hy:bN e y=some (i7 k)) (hu:P.underlying t=some (.map kt et)) (hk:KW P kt bt) (hz:cu P et=some (num 0)) (hg:A.get m=some (.obj rw (.map es clock))) (hE:dh i7 es (m7 L))
    (h1:k ∈ L->Ops P nt all os Q ⟨fA e dst (.tuple #[num ((iM L k:Nat):Int),.bool true]),ds⟩ A) (h2:k ∉ L->Ops P nt all os Q ⟨fA e dst (.tuple #[num 0,.bool false]),ds⟩ A) :
    Ops P nt all ({ dst:=dst,op:=.lookup t x y true,type:=ty,pos:=ps,after:=af,guard:=none } :: os) Q ⟨e,ds⟩ A:=by
  refine Ops.look2 hd hx hy hu hk hz hg hE (fun v hv=>?_) (fun hn=>?_)
  · by_cases q:k ∈ L
    · rw [uH q,<- Bq q] at hv;cases hv;exact h1 q
    · rw [za q] at hv;cases hv
  · exact h2 fun q=>by rw [uH q] at hn;cases hn
theorem V.Ops.new2G (hd:gx nt dst=true) (wf:A.wf) (hx:bN e x=some (.map (some m))) (hy:bN e y=some (i7 k)) (hz:bN e z=some (num ((L.length:Nat):Int))) (hu:P.underlying t=some (.map kt et)) (hk:KW P kt bt) (hg:A.get m=some (.obj true (.map es clock))) (hE:dh i7 es (m7 L)) (hn:k ∉ L)
    (h:∀ A1 D ck,uj A A1 m (.obj true (.map D ck))->dh i7 D (m7 (L ++ [k]))->Ops P nt all os Q ⟨fA e dst undef,ds⟩ A1) :
    Ops P nt all ({ dst:=dst,op:=.mapUpdate t x y z,type:=ty,pos:=ps,after:=af,guard:=none } :: os) Q ⟨e,ds⟩ A :=
  Ops.new2 hd wf hx hy hz hu hk hg hE (za hn) fun A1 D ck sb me=>h A1 D ck sb (by rw [xH];exact me)
end
section
variable {K:Type} [DecidableEq K]
theorem yO {Q:List K} {k:K} (h:Q.Nodup):(jx Q k).Nodup:=by
  unfold jx;split
  · exact h
  · rename_i q;exact List.nodup_append.2 ⟨h,by simp,by intro a ha b hb;simp at hb;subst hb;exact fun e=>q (e ▸ ha)⟩
theorem rq (st:List Int × List K) (x:K):n5 st x=(st.1 ++ [(iM st.2 x:Int)],jx st.2 x):=by
  unfold n5 iM jx;split <;> rfl
structure ns (n:Nat) (f:Nat->K) (i:Nat) (o:List Int) (Q:List K):Prop where
  run:∃ r,cb ((List.range i).map f)=(r,Q)/\r.length=i/\o=r ++ List.replicate (n - i) 0
  nd:Q.Nodup
  le:Q.length<=i
variable {n i:Nat} {f:Nat->K} {o:List Int} {Q:List K}
theorem ns.start:ns n f 0 (List.replicate n 0) []:=⟨⟨[],rfl,rfl,by simp⟩,List.nodup_nil,Nat.le_refl _⟩
theorem ns.len (h:ns n f i o Q) (hi:i<=n):o.length=n:=by obtain ⟨r,_,h2,h3⟩:=h.run;rw [h3];simp;omega
theorem ns.next (h:ns n f i o Q) (hi:i < n):ns n f (i + 1) (o.set i (iM Q (f i):Int)) (jx Q (f i)):=by
  obtain ⟨r,h1,h2,h3⟩:=h.run
  refine ⟨⟨r ++ [(iM Q (f i):Int)],?_,by simp [h2],?_⟩,yO h.nd,?_⟩
  · rw [List.range_succ,List.map_append,List.map_cons,List.map_nil,qx,h1,rq]
  · rw [h3,<- h2];exact yE O
  · have:=h.le;unfold jx;split
    · omega
    · simp;omega
theorem ns.old (h:ns n f i o Q) (hi:i < n) (q:f i ∈ Q):ns n f (i + 1) (o.set i (iM Q (f i):Int)) Q:=by
  have:=h.next hi;rwa [xy q] at this
theorem ns.new (h:ns n f i o Q) (hi:i < n) (q:f i ∉ Q):ns n f (i + 1) (o.set i (Q.length:Int)) (Q ++ [f i]):=by
  have:=h.next hi;rwa [Bw q,xz q] at this
theorem ns.fin (h:ns n f i o Q) (hi:i=n):cb ((List.range n).map f)=(o,Q):=by
  subst hi
  obtain ⟨r,h1,h2,h3⟩:=h.run
  rw [h1,h3];simp
end
structure rI (n:Nat) (st:Nat->Bool × Bool) (key:List Int->Nat->Wd) (count:Nat) (cls:List Int):Prop where
  len:cls.length=n
  rng:∀ c ∈ cls,0<=c/\c < n
  dis:∃ l:List Int,l.length=n/\cb l=(cls,(cb l).2)/\(cb l).2.length=count
  cnt:count<=n
  fin:∃ f,n + 2<=f + count/\lU n key f count cls=zU n st key
theorem JA {K:Type} [DecidableEq K] (l:List K):(cb (cb l).1).2.length=(cb l).2.length/\(cb (cb l).1).1=(cb l).1:=by
  suffices h:∀ (m:List K),(cb (cb m).1).2=(List.range (cb m).2.length).map (fun (i:Nat)=>(i:Int))/\(cb (cb m).1).1=(cb m).1 by
    have:=h l;exact ⟨by rw [this.1];simp,this.2⟩
  suffices h:∀ (l m:List K),((cb (cb m).1).2=(List.range (cb m).2.length).map (fun (i:Nat)=>(i:Int))/\(cb (cb m).1).1=(cb m).1)->((cb (cb (m ++ l)).1).2=(List.range (cb (m ++ l)).2.length).map (fun (i:Nat)=>(i:Int))/\(cb (cb (m ++ l)).1).1=(cb (m ++ l)).1) by
    intro m;have:=h m [] ⟨rfl,rfl⟩;simpa using this
  intro l
  induction l with
  | nil=>intro m h;rw [List.append_nil];exact h
  | cons a l ih =>
    intro m h
    rw [show m ++ a :: l=(m ++ [a]) ++ l by simp]
    refine ih _ ?_
    rw [qx,rq]
    show (cb ((cb m).1 ++ [_])).2=_/\(cb ((cb m).1 ++ [_])).1=_
    rw [qx,rq]
    simp only
    rw [h.1,h.2]
    by_cases q:a ∈ (cb m).2
    · have hi:=List.idxOf_lt_length_iff.2 q
      have hm:((cb m).2.idxOf a:Int) ∈ (List.range (cb m).2.length).map (fun (i:Nat)=>(i:Int)):=List.mem_map.2 ⟨_,List.mem_range.2 hi,rfl⟩
      have e1:iM (cb m).2 a=(cb m).2.idxOf a:=if_pos q
      have e2:jx (cb m).2 a=(cb m).2:=if_pos q
      have e3:jx ((List.range (cb m).2.length).map (fun (i:Nat)=>(i:Int))) ((cb m).2.idxOf a:Int)=(List.range (cb m).2.length).map (fun (i:Nat)=>(i:Int)):=if_pos hm
      have e4:iM ((List.range (cb m).2.length).map (fun (i:Nat)=>(i:Int))) ((cb m).2.idxOf a:Int)=(cb m).2.idxOf a:=by
        rw [iM,if_pos hm]
        have:=List.getElem_idxOf (List.idxOf_lt_length_iff.2 hm)
        simp only [List.getElem_map,List.getElem_range] at this
        omega
      rw [e1,e2,e3,e4];exact ⟨Z,Z⟩
    · have e1:iM (cb m).2 a=(cb m).2.length:=if_neg q
      have e2:jx (cb m).2 a=(cb m).2 ++ [a]:=if_neg q
      have hm:¬ ((cb m).2.length:Int) ∈ (List.range (cb m).2.length).map (fun (i:Nat)=>(i:Int)):=fun z=>by
        obtain ⟨i,h1,h2⟩:=List.mem_map.1 z
        have:=List.mem_range.1 h1;omega
      rw [e1,e2]
      have e3:jx ((List.range (cb m).2.length).map (fun (i:Nat)=>(i:Int))) ((cb m).2.length:Int)=(List.range (cb m).2.length).map (fun (i:Nat)=>(i:Int)) ++ [((cb m).2.length:Int)]:=if_neg hm
      have e4:iM ((List.range (cb m).2.length).map (fun (i:Nat)=>(i:Int))) ((cb m).2.length:Int)=(cb m).2.length:=by rw [iM,if_neg hm];simp
      rw [e3,e4]
      refine ⟨?_,Z⟩
      rw [List.length_append,List.length_singleton,List.range_succ,List.map_append];rfl
section
variable {n count:Nat} {st:Nat->Bool × Bool} {key:List Int->Nat->Wd} {cls o:List Int} {Q:List Wd} {Q2:List (Bool × Bool)}
theorem rI.of {K:Type} [DecidableEq K] {l:List K} {cls:List Int} {Q:List K} (hl:l.length=n) (h:cb l=(cls,Q)):cls.length=n/\(∀ c ∈ cls,0<=c/\c < (n:Int))/\(∃ l:List Int,l.length=n/\cb l=(cls,(cb l).2)/\(cb l).2.length=Q.length)/\Q.length<=n:=by
  have h1:=MW l
  have h2:=MY l
  have h3:=Rx l
  have h4:=JA l
  rw [h] at h1 h2 h3 h4
  simp only at h1 h2 h3 h4
  exact ⟨by omega,fun c hc=>by have:=h2 c hc;omega,⟨cls,by omega,Prod.ext h4.2 rfl,h4.1⟩,by omega⟩
theorem rI.start (h:cb ((List.range n).map st)=(cls,Q2)):rI n st key Q2.length cls:=by
  obtain ⟨h1,h2,h3,h4⟩:=rI.of (n:=n) (by simp) h
  exact ⟨h1,h2,h3,h4,n + 2,by omega,by rw [zU,h]⟩
theorem rI.stop (h:rI n st key count cls) (e:cb ((List.range n).map (key cls))=(o,Q)) (hq:Q.length=count):o=zU n st key:=by
  obtain ⟨f,hf,g⟩:=h.fin
  have:=h.cnt
  obtain ⟨f,rfl⟩:∃ g,f=g + 1:=⟨f - 1,by omega⟩
  rw [lU,e] at g
  simp only at g
  rw [if_pos hq] at g;exact g
theorem rI.next (h:rI n st key count cls) (hinj:∀ i j,i < n->j < n->key cls i=key cls j->cls.getD i 0=cls.getD j 0) (e:cb ((List.range n).map (key cls))=(o,Q)) (hq:¬ Q.length=count):rI n st key Q.length o/\count < Q.length:=by
  obtain ⟨f,hf,g⟩:=h.fin
  have hc:=h.cnt
  obtain ⟨f,rfl⟩:∃ g,f=g + 1:=⟨f - 1,by omega⟩
  obtain ⟨h1,h2,h3,h4⟩:=rI.of (n:=n) (by simp) e
  have hle:count<=Q.length:=by
    obtain ⟨l,l1,l2,l3⟩:=h.dis
    have:=Ei l ((List.range n).map (key cls)) 0 [] (by simp [l1]) fun i j hi hj q=>by
      rw [List.length_map,List.length_range] at hi hj
      have e1:∀ i,i < n->((List.range n).map (key cls)).getD i []=key cls i:=fun i hi=>by simp [List.getD_eq_getElem?_getD,hi]
      rw [e1 i hi,e1 j hj] at q
      have:=hinj i j hi hj q
      have e2:cls=(cb l).1:=by rw [l2]
      rw [e2] at this
      exact (yZ l (d:=(0:Int)) O O).1 this
    rw [l3,e] at this;exact this
  rw [lU,e] at g
  simp only at g
  rw [if_neg hq] at g
  exact ⟨⟨h1,h2,h3,h4,f,by omega,g⟩,by omega⟩
end
end Go.Proofs.YtjppkekmddjcfaaGreatDoor

namespace Go.Proofs.YtjppkekmddjcfaaGreatDoor
open Go Go.RowKit
namespace V
section
variable {P:Program} {nt:Nat} {Q:Exit->Fr->AH->Prop} {A M:AH} {e:gu} {ds:List Deferred}
theorem am.rangeOwnP {g:Operand} {gf:Nat} {lb:Array Value} {ps:Array Tmp} {assign body:Code} (b4 n:Nat) (xs:Nat->List Value) (I:Nat->AH->Prop) (e1:Nat->gu)
    (hg:bN e g=some (.func (.func gf) #[] lb)) (eg:fu P gf) (hps:∀ i,(xs i).length=ps.size) (hpn:∀ p ∈ ps.toList,p < nt) (a3:b4 < A.n) (hM:cq b4 M A)
    (hI:∀ i B B',I i B->B'.wf->B.n<=B'.n->(∀ b o,(b < A.n\/mI b4 B b)->B.get b=some o->B'.get b=some o)->I i B')
    (hv:∀ i B,I i B->∃ v cap,B.get b4=some (.row true [v] cap)/\∀ b,blk v=some b->∃ o,B.get b=some o) (h0:I 0 A)
    (hiter:∀ l (J:Nat->AH->Prop) B M,B.n=A.n + 2->A.le B->B.wf->cq b4 M B->(∀ i C,J i C->I i C) ->
      (∀ i C C',J i C->C'.wf->C.n<=C'.n->(∀ b o,(b < B.n\/mI b4 C b)->C.get b=some o->C'.get b=some o)->J i C')->J 0 B ->
      (∀ i C M',i < n->C.wf->J i C->cq b4 M' C->ld P l (xs i).toArray C (fun v C'=>v=.bool true/\J (i + 1) C'/\C'.wf/\cq b4 M' C')) ->
      bE P gf (#[.func (.yield l) #[] #[]] ++ lb) B (fun _ C=>J n C/\C.wf/\cq b4 M C))
    (hassign:∀ F i B,wH F->i < n->d6 P nt F assign (vR fun f C=>al (e1 i) f.e/\f.ds=[]/\B.le C/\C.wf) ⟨zm ps.toList (xs i) e,[]⟩ B)
    (hbody:∀ F i B M',wH F->i < n->I i B->B.wf->A.n<=B.n->cq b4 M' B->d6 P nt F body (vR fun _ C=>I (i + 1) C/\C.wf/\cq b4 M' C) ⟨e1 i,[]⟩ B)
    (hK:∀ B D,I n B->B.wf->A.n<=D->A.n<=B.n->B.get D=some (.obj true (.deferred (some [])))->¬ mI b4 B D->cq b4 M B->Q .normal ⟨e,mark D :: ds⟩ B) :
    am P nt (.rangeFunc g ps assign body) Q ⟨e,ds⟩ A:=by
  intro a w ha hw
  refine wpIn_wide.1 (wpIn_rangeFunc (n:=0) ?_)
  intro fn _
  rw [show Fence.wide.round=none from rfl]
  obtain ⟨rec,hrec⟩:∃ rec:LoopState->Option Code->Loop,rec=fun st pe=>{ state:=st,pending:=pe,fn,tmps:=a.tmps,params:=ps,assign,body,defers:=w.heap.size }:=⟨_,rfl⟩
  have hsz:w.heap.size=A.n:=hw.size
  have wfA:=hw.wf
  have hA:∀ b,mI b4 A b->b < A.n:=fun b hb=>by
    obtain ⟨v,cap,g1,g2⟩:=hv 0 A h0
    rcases hb.val g1 with rfl | q
    · exact a3
    · obtain ⟨o,ho⟩:=g2 b q;exact wfA _ _ ho
  obtain ⟨v1,s1⟩:=jF (o:=.obj true (.deferred (some []))) (x:=.deferred (some [])) hw ⟨rfl,fun _ _ _ q=>by cases q⟩
  obtain ⟨v2,s2⟩:=jF (o:=.obj true (.loop (rec .ready none))) (x:=.loop (rec .ready none)) v1 ⟨rfl,fun _ _ _ q=>by cases q⟩
  have hgl:((A.new (.obj true (.deferred (some [])))).new (.obj true (.loop (rec .ready none)))).get (A.n + 1)=some (.obj true (.loop (rec .ready none))):=AH.new_get_same _ _
  have hgd:((A.new (.obj true (.deferred (some [])))).new (.obj true (.loop (rec .ready none)))).get A.n=some (.obj true (.deferred (some []))):=by
    rw [AH.new_get_ne _ _ (by simp)];exact AH.new_get_same _ _
  have hkeep:∀ b,b < A.n->((A.new (.obj true (.deferred (some [])))).new (.obj true (.loop (rec .ready none)))).get b=A.get b:=fun b hb=>by
    rw [AH.new_get_ne _ _ Or,AH.new_get_ne _ _ O]
  have hleA:A.le ((A.new (.obj true (.deferred (some [])))).new (.obj true (.loop (rec .ready none)))):=AH.le_new (AH.le_new (AH.le.refl A) wfA _) wfA _
  have hnB:((A.new (.obj true (.deferred (some [])))).new (.obj true (.loop (rec .ready none)))).n=A.n + 2:=rfl
  generalize ((A.new (.obj true (.deferred (some [])))).new (.obj true (.loop (rec .ready none))))=B0 at *
  have ac:I 0 B0:=hI 0 A _ h0 v2.wf O fun b o hb hgb=>by rw [hkeep b (wfA _ _ hgb)];exact hgb
  have a9:∀ b,mI b4 B0 b->b < A.n:=fun b hb=>hA b (hb.same (hkeep b4 a3))
  have hgev:a.eval g=.func (.func gf) #[] lb:=cB ha hg
  -- what is kept of the loop's own blocks
  have nl:b4 ≠ A.n + 1:=by omega
  refine ⟨w.heap.size + 1,[mark w.heap.size],(w.alloc (.deferred (some []))).alloc (.loop (rec .ready none)),{ target:=.fn (.func gf) lb,args:=#[.func (.yield (w.heap.size + 1)) #[] #[]] },(w.alloc (.deferred (some []))).alloc (.loop (rec .ready none)),gf,
    #[.func (.yield (w.heap.size + 1)) #[] #[]] ++ lb,(w.alloc (.deferred (some []))).alloc (.loop (rec .ready none)),?_,?_,fun _ _=>trivial,?_,fun q=>(by cases q),?_⟩
  · rw [hrec];exact run_enterLoop_outer _ _ _ _ _
  · simp only [resolve,hgev]
    simp [go_sem]
  · have eg':=eg
    unfold fu at eg'
    simp [invoke,go_sem,eg']
  · rw [hsz]
    have ag:cq b4 M B0:=⟨hM.le.trans hleA,hM.wf,fun b hb=>hM.ow b (hb.same (hkeep b4 a3))⟩
    have hcall:=hiter (A.n + 1) (fun i C=>I i C/\C.get (A.n + 1)=some (.obj true (.loop (rec .ready none)))/\C.get A.n=some (.obj true (.deferred (some [])))/\¬ mI b4 C (A.n + 1)/\¬ mI b4 C A.n) B0 M hnB hleA v2.wf ag (fun i C h=>h.1)
      (fun i C C' h wf hn hk=>?_) ⟨ac,hgl,hgd,fun q=>by have:=a9 _ q;omega,fun q=>by have:=a9 _ q;omega⟩ ?_
    · refine (callsIn_wide.2 (hcall.2 _ v2)).mono ?_
      rintro en w' ⟨A',hv',hs',v,rfl,⟨⟨hIn,hgl',hgd',X,a0⟩,hwf',hM'⟩⟩
      obtain ⟨q1,_⟩:=hv'.obj hgl'
      obtain ⟨v3,s3⟩:=lL P (y:=.loop { rec .ready none with state:=.exhausted }) hv' hgl' (fun _ _ _ q=>by cases q)
      refine ⟨none,w'.putObj (A.n + 1) (.loop { rec .ready none with state:=.exhausted }),by
        have h7:=run_endLoop (P:=P) q1 (by rw [hrec];simp)
        have h8:(rec .ready none).pending=none:=by rw [hrec]
        exact h7.trans (congrArg (fun j=>Result.ok j _) h8),?_⟩
      have hl':=hwf' _ _ hgl'
      refine ⟨⟨e,mark A.n :: ds⟩,_,⟨ha.size,ha.slot,by show [mark _] ++ a.defers=_;rw [ha.ds];rfl⟩,v3,((s1.trans s2).trans hs').trans s3,?_,fun _ q=>by cases q⟩
      have hset:∀ b,b ≠ A.n + 1->(A'.set (A.n + 1) (.obj true (.loop { rec .ready none with state:=.exhausted }))).get b=A'.get b:=fun b hb=>AH.set_get_ne _ _ hb
      refine hK _ A.n (hI n A' _ hIn v3.wf (Nat.le_refl _) fun b o hb hgb=>?_) v3.wf (Nat.le_refl _) Or ?_ ?_ ⟨⟨hM'.le.n,fun b o hb=>?_⟩,hM'.wf,fun b hb=>hM'.ow b (hb.same (hset b4 nl))⟩
      · rw [hset];exact hgb
        rintro rfl
        rcases hb with hb | hb
        · omega
        · exact X hb
      · rw [hset _ O];exact hgd'
      · exact fun q=>a0 (q.same (hset b4 nl))
      · have h1:=hM.le.get b o hb
        have h2:=wfA _ _ h1
        rw [hset _ O];exact hM'.le.get b o hb
    · obtain ⟨hIC,g1,g2,X,a0⟩:=h
      obtain ⟨v,cap,hr,_⟩:=hv i C hIC
      have e4:C'.get b4=C.get b4:=by rw [hr];exact hk b4 _ (.inr (.inl Z)) hr
      exact ⟨hI i C C' hIC wf hn (fun b o hb hgb=>hk b o (hb.imp (fun q=>by omega) id) hgb),hk _ _ (.inl O) g1,hk _ _ (.inl O) g2,fun q=>X (q.same e4),fun q=>a0 (q.same e4)⟩
    · rintro i C M' hi hwfC ⟨hIC,hgl',hgd',X,a0⟩ hMC w' hv'
      obtain ⟨q1,_⟩:=hv'.obj hgl'
      have hy:=run_yield (P:=P) (args:=(xs i).toArray) q1 (by rw [hrec];simpa using hps i)
      refine ⟨fn,_,assign,body,(by rw [hrec] at hy;exact hy),roundIn_of_wpIn trivial ?_⟩
      have hact:cO nt ⟨zm ps.toList (xs i) e,[]⟩ { tmps:=(ps.zip (xs i).toArray).foldl (fun t p=>t.setIfInBounds p.1 p.2) a.tmps,defers:=[] }:=by
        have:=tx (nt:=nt) (ps.toList.zip (xs i)) e a.tmps (fun p hp=>hpn _ (List.of_mem_zip hp).1) ⟨ha.size,ha.slot,rfl⟩
        rw [<- Array.foldl_toList,Array.toList_zip]
        exact this
      have ap:=hassign (FR (A.n + 1)) i C (qy _) hi _ w' hact hv'
      refine wpIn_mono ap ?_
      rintro x a1 w1 ⟨f1,C1,h1,h2,h3,h4,h5⟩
      cases x <;> (try exact h4.elim)
      obtain ⟨hE,hds,hleC,ar⟩:=h4
      obtain ⟨fe,fds⟩:=f1
      simp only at hE hds
      subst hds
      obtain ⟨vC,capC,gC,lC⟩:=hv i C hIC
      have owC:∀ b,mI b4 C b->b < C.n:=fun b hb=>by
        rcases hb.val gC with rfl | q
        · exact hwfC _ _ gC
        · obtain ⟨o,ho⟩:=lC b q;exact hwfC _ _ ho
      have ab:C1.get b4=C.get b4:=by rw [gC];exact hleC.get _ _ gC
      have a4:=hleC.get _ _ hgl'
      have aa:=hleC.get _ _ hgd'
      obtain ⟨q2,_⟩:=h2.obj a4
      obtain ⟨v4,s4⟩:=lL P (y:=.loop { rec .ready none with state:=.busy }) h2 a4 (fun _ _ _ q=>by cases q)
      refine ⟨_,run_beginRound q2 (by rw [hrec]),?_⟩
      have hl':=hwfC _ _ hgl'
      have hd':=hwfC _ _ hgd'
      have hnC:=hleC.n
      have hset:∀ b,b ≠ A.n + 1->(C1.set (A.n + 1) (.obj true (.loop { rec .ready none with state:=.busy }))).get b=C1.get b:=fun b hb=>AH.set_get_ne _ _ hb
      have hsetl:(C1.set (A.n + 1) (.obj true (.loop { rec .ready none with state:=.busy }))).get (A.n + 1)=some (.obj true (.loop { rec .ready none with state:=.busy })):=AH.set_get_same _ _ _
      have hsetn:(C1.set (A.n + 1) (.obj true (.loop { rec .ready none with state:=.busy }))).n=C1.n:=rfl
      generalize C1.set (A.n + 1) (.obj true (.loop { rec .ready none with state:=.busy }))=B1 at *
      have hIB:I i B1:=hI i C _ hIC v4.wf O fun b o hb hgb=>by
        rw [hset];exact hleC.get _ _ hgb
        rintro rfl
        rcases hb with hb | hb
        · omega
        · exact X hb
      have ai:∀ b,mI b4 B1 b->mI b4 C b:=fun b hb=>(hb.same (hset b4 nl)).same ab
      have hMs:cq b4 ⟨C.n,fun b=>if b=A.n + 1 then some (.obj true (.loop { rec .ready none with state:=.busy })) else if b=A.n then some (.obj true (.deferred (some []))) else M'.get b⟩ B1:=by
        refine ⟨⟨by show C.n<=B1.n;omega,fun b o hb=>?_⟩,fun b o hb=>?_,fun b hb=>?_⟩
        · simp only at hb
          split at hb
          · rename_i q;subst q;rw [hsetl];exact hb
          · rename_i q
            rw [hset b q]
            split at hb
            · rename_i q2;subst q2;rw [aa];exact hb
            · exact hleC.get _ _ (hMC.le.get b o hb)
        · simp only at hb
          split at hb
          · show b < C.n;omega
          · split at hb
            · show b < C.n;omega
            · exact hwfC b o (hMC.le.get b o hb)
        · have h6:=ai b hb
          simp only
          rw [if_neg (fun q:b=A.n + 1=>X (q ▸ h6)),if_neg (fun q:b=A.n=>a0 (q ▸ h6))]
          exact hMC.ow b h6
      have hb:=hbody (FR (A.n + 1)) i B1 _ (qy _) hi hIB v4.wf O hMs
      refine wpIn_mono (hb _ _ (cO.le h1 hE) v4) ?_
      rintro x a2 w2 ⟨f2,A2,g1,g2,g3,g4,g5⟩
      cases x <;> (try exact g4.elim)
      obtain ⟨ad,av,V⟩:=g4
      have a7:A2.get (A.n + 1)=some (.obj true (.loop { rec .ready none with state:=.busy })):=V.le.get _ _ (if_pos Z)
      have a6:A2.get A.n=some (.obj true (.deferred (some []))):=V.le.get _ _ (by simp [show ¬ A.n=A.n + 1 by omega])
      have a5:¬ mI b4 A2 (A.n + 1):=fun q=>by have:=V.ow _ q;simp only [if_true] at this;cases this
      have a8:¬ mI b4 A2 A.n:=fun q=>by have:=V.ow _ q;simp [show ¬ A.n=A.n + 1 by omega] at this
      obtain ⟨q3,_⟩:=g2.obj a7
      obtain ⟨v5,s5⟩:=lL P (y:=.loop { ({ rec .ready none with state:=.busy }:Loop) with state:=.ready,pending:=none }) g2 a7 (fun _ _ _ q=>by cases q)
      refine ⟨_,_,run_endRound (P:=P) none q3,_,_,Z,v5,((h3.trans s4).trans g3).trans s5,Z,⟨?_,?_,?_,?_,?_⟩,v5.wf,?_⟩
      · exact hI (i + 1) A2 _ ad v5.wf (Nat.le_refl _) fun b o hb hgb=>by
          rw [AH.set_get_ne];exact hgb
          rintro rfl
          rcases hb with hb | hb
          · omega
          · exact a5 hb
      · rw [AH.set_get_same,hrec]
      · rw [AH.set_get_ne _ _ O];exact a6
      · exact fun q=>a5 (q.same (AH.set_get_ne _ _ nl))
      · exact fun q=>a8 (q.same (AH.set_get_ne _ _ nl))
      · refine ⟨⟨Nat.le_trans hMC.le.n (by have:=V.le.n;exact this),fun b o hb=>?_⟩,hMC.wf,fun b hb=>?_⟩
        · by_cases q:b=A.n + 1
          · subst q
            have h6:=hMC.le.get _ _ hb
            rw [hgl'] at h6
            rw [AH.set_get_same,<- h6,hrec]
          · rw [AH.set_get_ne _ _ q]
            by_cases q2:b=A.n
            · subst q2;rw [a6,<- hMC.le.get _ _ hb,hgd']
            · exact V.le.get b o (by simp only;rw [if_neg q,if_neg q2];exact hb)
        · have h6:mI b4 A2 b:=hb.same (AH.set_get_ne _ _ nl)
          have h7:=V.ow b h6
          simp only at h7
          rw [if_neg (fun q:b=A.n + 1=>a5 (q ▸ h6)),if_neg (fun q:b=A.n=>a8 (q ▸ h6))] at h7
          exact h7
end
end V
end Go.Proofs.YtjppkekmddjcfaaGreatDoor

namespace Go.Proofs.YtjppkekmddjcfaaGreatDoor
open Go Go.RowKit V
section
variable {lv:List Bool} {N:List (List Int)} {cls:List Int} {i j n:Nat} {o:Wd} {m:Int}
def rZ (lv:List Bool) (N:List (List Int)) (cls:List Int) (i j:Nat):Wd:=iq (cls.getD i 0).toNat ++ ((N.getD i []).take j).flatMap (vA lv cls)
theorem xx (hj:j < (N.getD i []).length):rZ lv N cls i (j + 1)=rZ lv N cls i j ++ vA lv cls ((N.getD i []).getD j 0):=by
  rw [rZ,<- fJ (z:=(0:Int)) hj,List.flatMap_append,<- List.append_assoc]
  simp [rZ]
theorem qo (h:o=rZ lv N cls i j) (hj:j < (N.getD i []).length) (q:kE lv ((N.getD i []).getD j 0)=false):o ++ [32]=rZ lv N cls i (j + 1):=by
  rw [xx hj,vA,q,h];simp
theorem vz (h:o=rZ lv N cls i j) (hj:j < (N.getD i []).length) (q:kE lv ((N.getD i []).getD j 0)=true):o ++ [32] ++ iq (cls.getD ((N.getD i []).getD j 0).toNat 0).toNat=rZ lv N cls i (j + 1):=by
  rw [xx hj,vA,q,h,List.append_assoc];simp
theorem nX (h:¬ 0<=m):kE lv m=false:=by rw [kE,decide_eq_false h];rfl
theorem tm (h:m < 0):kE lv m=false:=nX O
theorem eW (h:0<=m):kE lv m=lv.getD m.toNat false:=by rw [kE,decide_eq_true h];rfl
theorem MC:(vA lv cls m).length<=14:=by
  unfold vA;split
  · have:=s8 (cls.getD m.toNat 0).toNat;rw [List.length_cons];omega
  · simp
theorem MA:(rZ lv N cls i j).length<=13 + 14 * j:=by
  have h1:=s8 (cls.getD i 0).toNat
  have h2:∀ l:List Int,(l.flatMap (vA lv cls)).length<=14 * l.length:=by
    intro l
    induction l with
    | nil=>simp
    | cons a l ih=>have:=MC (lv:=lv) (cls:=cls) (m:=a);rw [List.flatMap_cons,List.length_append,List.length_cons];omega
  have h3:=h2 ((N.getD i []).take j)
  have:((N.getD i []).take j).length<=j:=List.length_take_le _ _
  rw [rZ,List.length_append];omega
theorem jf (h:lv.getD i false=false):oO lv N cls i=[45]:=by rw [oO,h];rfl
theorem xw (h:lv.getD i false=true) (hj:(N.getD i []).length=j):oO lv N cls i=rZ lv N cls i j:=by
  rw [oO,if_pos h,rZ,<- hj,List.take_length]
theorem Jf (n:Nat):iq n ≠ []:=by
  unfold iq s9
  split
  · simp
  · simp
theorem SQ {a b x y:Wd} (ha:∀ c ∈ a,c ≠ 32) (hb:∀ c ∈ b,c ≠ 32) (hx:x=[]\/∃ t,x=32 :: t) (hy:y=[]\/∃ t,y=32 :: t) (e:a ++ x=b ++ y):a=b/\x=y:=by
  induction a generalizing b with
  | nil =>
    cases b with
    | nil=>exact ⟨Z,e⟩
    | cons c b =>
      rcases hx with rfl | ⟨t,rfl⟩
      · simp at e
      · simp only [List.nil_append,List.cons_append,List.cons.injEq] at e
        exact absurd e.1.symm (hb c List.mem_cons_self)
  | cons c a ih =>
    cases b with
    | nil =>
      rcases hy with rfl | ⟨t,rfl⟩
      · simp at e
      · simp only [List.nil_append,List.cons_append,List.cons.injEq] at e
        exact absurd e.1 (ha c List.mem_cons_self)
    | cons d b =>
      simp only [List.cons_append,List.cons.injEq] at e
      obtain ⟨h1,h2⟩:=ih (fun c hc=>ha c (List.mem_cons_of_mem _ hc)) (fun c hc=>hb c (List.mem_cons_of_mem _ hc)) e.2
      exact ⟨by rw [e.1,h1],h2⟩
theorem xj (l:List Int):l.flatMap (vA lv cls)=[]\/∃ t,l.flatMap (vA lv cls)=32 :: t:=by
  cases l with
  | nil=>exact .inl Z
  | cons a l=>right;rw [List.flatMap_cons,vA];exact ⟨_,Z⟩
theorem Mz (hcl:cls.length=n) (hcr:∀ c ∈ cls,0<=c/\c < (n:Int)) (hn:n<=100000) (hd:∀ i j,i < n->j < n->lv.getD i false=false->lv.getD j false=false->cls.getD i 0=cls.getD j 0) (i j:Nat) (hi:i < n) (hj:j < n) (h:oO lv N cls i=oO lv N cls j):cls.getD i 0=cls.getD j 0:=by
  have hm:∀ i,(∃ t,iq (cls.getD i 0).toNat ++ t=[45])->False:=fun i ⟨t,z⟩=>by
    have h1:=uA 13 (cls.getD i 0).toNat
    cases hf:iq (cls.getD i 0).toNat with
    | nil=>exact Jf _ hf
    | cons c l =>
      rw [hf] at z
      simp only [List.cons_append,List.cons.injEq] at z
      exact (h1 c (by show c ∈ iq _;rw [hf];exact List.mem_cons_self)).2 z.1
  cases hli:lv.getD i false with
  | false =>
    cases hlj:lv.getD j false with
    | false=>exact hd i j hi hj hli hlj
    | true=>rw [jf hli,oO,if_pos hlj] at h;exact absurd ⟨_,h.symm⟩ (hm j)
  | true =>
    cases hlj:lv.getD j false with
    | false=>rw [jf hlj,oO,if_pos hli] at h;exact absurd ⟨_,h⟩ (hm i)
    | true =>
      rw [oO,oO,if_pos hli,if_pos hlj] at h
      have h1:=hcr _ (bi (d:=(0:Int)) (show i < cls.length by omega))
      have h2:=hcr _ (bi (d:=(0:Int)) (show j < cls.length by omega))
      have:=(SQ (fun c hc=>(uA 13 _ c hc).1) (fun c hc=>(uA 13 _ c hc).1) (xj _) (xj _) h).1
      have:=Je O O this
      omega
def zF (lv:List Bool) (n:Nat) (cls:List Int):Prop:=∀ i j,i < n->j < n->lv.getD i false=false->lv.getD j false=false->cls.getD i 0=cls.getD j 0
theorem BQ {K:Type} (f:Nat->K) (d:K) (hi:i < n):((List.range n).map f).getD i d=f i:=by simp [List.getD_eq_getElem?_getD,hi]
theorem xi {K:Type} [DecidableEq K] (f:Nat->K) (d:K) (h:∀ i j,i < n->j < n->lv.getD i false=false->lv.getD j false=false->f i=f j):zF lv n (cb ((List.range n).map f)).1:=fun i j hi hj h1 h2 =>
  (yZ _ (d:=d) (by simpa using hi) (by simpa using hj)).2 (by rw [BQ f d hi,BQ f d hj];exact h i j hi hj h1 h2)
end
section
variable {n k:Nat} {lv:List Bool} {N:List (List Int)} {cls:List Int} {c m:Int} {x i:Nat}
theorem vf (key:List Int->Nat->Wd):∀ (f count:Nat) (cls:List Int),cls.length=n->(∀ c ∈ cls,0<=c/\c < (n:Int))->(lU n key f count cls).length=n/\∀ c ∈ lU n key f count cls,0<=c/\c < (n:Int)
  | 0,_,cls,h1,h2=>⟨h1,h2⟩
  | f + 1,count,cls,h1,h2=>by
    obtain ⟨g1,g2,_,_⟩:=rI.of (n:=n) (l:=(List.range n).map (key cls)) (cls:=(cb ((List.range n).map (key cls))).1) (Q:=(cb ((List.range n).map (key cls))).2) (by simp) Z
    unfold lU;split
    · exact ⟨g1,g2⟩
    · exact vf key f _ _ g1 g2
theorem QE (st:Nat->Bool × Bool) (key:List Int->Nat->Wd):(zU n st key).length=n/\∀ c ∈ zU n st key,0<=c/\c < (n:Int):=by
  obtain ⟨g1,g2,_,_⟩:=rI.of (n:=n) (l:=(List.range n).map st) (cls:=(cb ((List.range n).map st)).1) (Q:=(cb ((List.range n).map st)).2) (by simp) Z
  exact vf key _ _ _ g1 g2
theorem Ga {acc:List Bool}:(yx acc lv N).length=N.length/\∀ c ∈ yx acc lv N,0<=c/\c < (N.length:Int):=QE _ _
theorem yW (h:c ∈ cls):jz cls c < cls.length:=List.idxOf_lt_length_iff.2 h
theorem tu (h:kE lv ((N.getD (jz cls c) []).getD x 0)=false):jD lv N cls c x=none:=by
  rw [jD,show ia N (jz cls c) x=(N.getD (jz cls c) []).getD x 0 from rfl,h];rfl
theorem zj (h:kE lv ((N.getD (jz cls c) []).getD x 0)=true):jD lv N cls c x=some (cls.getD ((N.getD (jz cls c) []).getD x 0).toNat 0):=by
  rw [jD,show ia N (jz cls c) x=(N.getD (jz cls c) []).getD x 0 from rfl,if_pos h]
structure qG (cls:List Int) (i:Nat) (E:List (Int × Value)):Prop where
  nd:(E.map (·.1)).Nodup
  is:∀ c,lk E c=if c ∈ cls.take i then some (num ((jz cls c:Nat):Int)) else none
variable {E:List (Int × Value)}
theorem qG.start:qG cls 0 []:=⟨List.nodup_nil,fun c=>by simp [lk]⟩
theorem qG.in_ (h:qG cls i E) {v:Value} (q:lk E c=some v):c ∈ cls.take i:=by
  rw [h.is] at q;split at q
  · assumption
  · cases q
theorem qG.no_ (h:qG cls i E) (q:lk E c=none):c ∉ cls.take i:=fun z=>by rw [h.is,if_pos z] at q;cases q
theorem pZ (hi:i < cls.length):c ∈ cls.take (i + 1) ↔ c ∈ cls.take i\/c=cls.getD i 0:=by
  rw [<- fJ (z:=(0:Int)) hi,List.mem_append,List.mem_singleton]
theorem qG.old (h:qG cls i E) (hi:i < cls.length) (q:cls.getD i 0 ∈ cls.take i):qG cls (i + 1) E:=⟨h.nd,fun c=>by
  rw [h.is]
  by_cases z:c ∈ cls.take i
  · rw [if_pos z,if_pos ((pZ hi).2 (.inl z))]
  · rw [if_neg z,if_neg fun w=>((pZ hi).1 w).elim z fun e=>z (e ▸ q)]⟩
theorem qG.new (h:qG cls i E) (hi:i < cls.length) (q:cls.getD i 0 ∉ cls.take i):qG cls (i + 1) (yj E (cls.getD i 0) (num ((i:Nat):Int))):=by
  have hk:lk E (cls.getD i 0)=none:=by rw [h.is,if_neg q]
  have hn:cls.getD i 0 ∉ E.map (·.1):=yU.1 hk
  rw [uO hn]
  have hm:jz cls (cls.getD i 0)=i:=by
    have e:cls=cls.take i ++ cls.drop i:=(List.take_append_drop i cls).symm
    have e2:cls.drop i=cls.getD i 0 :: cls.drop (i + 1):=tM hi
    rw [jz]
    conv=>lhs;arg 2;rw [e]
    rw [List.idxOf_append,if_neg q,e2,List.idxOf_cons_self,List.length_take];omega
  refine ⟨?_,fun c=>?_⟩
  · rw [List.map_append,List.map_cons,List.map_nil]
    exact List.nodup_append.2 ⟨h.nd,by simp,by intro a ha b hb;rw [List.mem_singleton] at hb;subst hb;intro e;rw [show a=cls.getD i 0 from e] at ha;exact hn ha⟩
  · by_cases z:c=cls.getD i 0
    · subst z
      rw [if_pos ((pZ hi).2 (.inr Z)),hm]
      simp only [lk,List.find?_append]
      have:E.find? (fun p=>decide (p.1=cls.getD i 0))=none:=by
        cases w:E.find? (fun p=>decide (p.1=cls.getD i 0)) with
        | none=>rfl
        | some p=>simp only [lk,w] at hk;cases hk
      rw [this];simp
    · have e1:lk (E ++ [(cls.getD i 0,num ((i:Nat):Int))]) c=lk E c:=by
        simp only [lk,List.find?_append,List.find?_cons,decide_eq_false (show ¬ cls.getD i 0=c from fun e=>z e.symm),List.find?_nil,Option.or_none]
      rw [e1,h.is]
      by_cases w:c ∈ cls.take i
      · rw [if_pos w,if_pos ((pZ hi).2 (.inl w))]
      · rw [if_neg w,if_neg fun v=>((pZ hi).1 v).elim w z]
def sG (A:AH) (bp:Nat) (cls:List Int):Prop:=∃ w cap mm w2 es ck,∃ E:List (Int × Value),A.get bp=some (.row w [.map (some mm)] cap)/\A.get mm=some (.obj w2 (.map es ck))/\dh num es E/\∀ c ∈ cls,lk E c=some (num ((jz cls c:Nat):Int))
theorem sG.le {A B:AH} {bp:Nat} (h:sG A bp cls) (le:A.le B):sG B bp cls:=by
  obtain ⟨w,cap,mm,w2,es,ck,E,h1,h2,h3,h4⟩:=h
  exact ⟨w,cap,mm,w2,es,ck,E,le.get _ _ h1,le.get _ _ h2,h3,h4⟩
theorem qG.all (h:qG cls i E) (hi:cls.length<=i):∀ c ∈ cls,lk E c=some (num ((jz cls c:Nat):Int)):=fun c hc=>by
  rw [h.is,List.take_of_length_le hi,if_pos hc]
theorem CU {P:Program} {e:gu} {A:AH} {x y:Operand} {t kt et:TypeId} {ty:TypeId} {ps:String} {af:Array Edge} {dst:Option Nat} {Q:Value->AH->Prop} {Kp:List PanicEntry->AH->Prop} {g:Option (Nat × Bool)} {m clock:Nat} {es:Array MapEntry} {E:List (Int × Value)} {k:Int} {v zv:Value} {rw:Bool}
    (hx:bN e x=some (.map (some m))) (hy:bN e y=some (num k)) (hu:P.underlying t=some (.map kt et)) (hk:P.underlying kt=some (.int .i64)) (hz:cu P et=some zv) (hg:A.get m=some (.obj rw (.map es clock))) (hE:dh num es E) (hv:lk E k=some v)
    (h:Q v A):ky P e A { dst:=dst,op:=.lookup t x y false,type:=ty,pos:=ps,after:=af,guard:=g } Q Kp:=qf tf hx hy hu hk hz hg hE (by rw [hv];exact h)
def kb (l:List Bool) (Q:List Int):List Bool:=Q.foldl (fun l s=>l.set s.toNat true) l
theorem mY:∀ (Q:List Int) (l:List Bool),(kb l Q).length=l.length
  | [],_=>rfl
  | q :: Q,l=>by rw [kb,List.foldl_cons];exact (mY Q _).trans (by simp)
theorem D9 (l:List Bool) (Q:List Int) (q:Int):kb l (Q ++ [q])=(kb l Q).set q.toNat true:=by simp [kb]
theorem Be:∀ (Q:List Int) (l:List Bool),(∀ q ∈ Q,0<=q/\q < (l.length:Int))->∀ i,i < l.length->(kb l Q).getD i false=(l.getD i false || decide ((i:Int) ∈ Q))
  | [],l,_,i,hi=>by simp [kb]
  | q :: Q,l,h,i,hi=>by
    have hq:=h q List.mem_cons_self
    rw [kb,List.foldl_cons]
    show (kb (l.set q.toNat true) Q).getD i false=_
    rw [Be Q _ (fun p hp=>by rw [List.length_set];exact h p (List.mem_cons_of_mem _ hp)) i (by simpa using hi),dU O]
    by_cases e:i=q.toNat
    · rw [if_pos e,decide_eq_true (show (i:Int) ∈ q :: Q from by rw [List.mem_cons];left;omega)];simp
    · rw [if_neg e];congr 1
      rw [decide_eq_decide,List.mem_cons]
      exact ⟨.inr,fun z=>z.elim (fun z=>absurd O e) id⟩
end
theorem AW {acc:List Bool} {N:List (List Int)} (hal:acc.length=N.length):∀ q ∈ f8 acc N,0<=q/\q < (N.length:Int):=by
  suffices h:∀ (f i:Nat) (Q:List Int),(∀ q ∈ Q,0<=q/\q < (N.length:Int))->∀ q ∈ jy (dt N) f i Q,0<=q/\q < (N.length:Int) by
    exact h _ _ _ fun q hq=>by obtain ⟨s,h1,_,h3⟩:=uU.1 hq;omega
  intro f
  induction f with
  | zero=>intro i Q h;exact h
  | succ f ih =>
    intro i Q h
    unfold jy;split
    · refine ih _ _ ?_
      have:∀ (P Q:List Int),(∀ p ∈ P,0<=p/\p < (N.length:Int))->(∀ q ∈ Q,0<=q/\q < (N.length:Int))->∀ q ∈ P.foldl iU Q,0<=q/\q < (N.length:Int):=by
        intro P
        induction P with
        | nil=>intro Q _ h;exact h
        | cons p P ih =>
          intro Q hP hQ
          rw [List.foldl_cons]
          refine ih _ (fun x hx=>hP x (List.mem_cons_of_mem _ hx)) ?_
          unfold iU;split
          · exact hQ
          · exact qs hQ (hP p List.mem_cons_self)
      refine this _ _ (fun p hp=>?_) h
      obtain ⟨_,s,h2,h3,_⟩:=Bf.1 hp
      omega
    · exact h
theorem Ju {acc:List Bool} {N:List (List Int)} (hal:acc.length=N.length):kb (List.replicate acc.length false) (f8 acc N)=iQ acc N:=by
  apply List.ext_getElem
  · rw [mY];simp [iQ]
  · intro i h1 h2
    rw [mY,List.length_replicate] at h1
    have:=Be (f8 acc N) (List.replicate acc.length false) (fun q hq=>by have:=AW hal q hq;simp;omega) i (by simpa using h1)
    rw [gd (by rw [mY];simpa using h1)] at this
    rw [this]
    simp [iQ,h1]
theorem Js {acc:List Bool} {N:List (List Int)}:(iQ acc N).length=acc.length:=by simp [iQ]
theorem Jv {l:List Bool} {Q:List Int} {k:Nat} (hk:k < Q.length):(kb l (Q.take k)).set (Q.getD k 0).toNat true=kb l (Q.take (k + 1)):=by
  rw [<- fJ (z:=(0:Int)) hk,D9]
theorem vq {k:Nat} {step:Int->Nat->Option Int} {D:Int->Prop} (hDs:∀ q c t,D q->c < k->step q c=some t->D t) {q:Int} (hq:D q):∀ (l:List Nat) (r:List Int × List Int),(∀ c ∈ l,c < k)->r.2.Nodup->(∀ q ∈ r.2,D q)->(l.foldl (gh step q) r).2.Nodup/\∀ q' ∈ (l.foldl (gh step q) r).2,D q'
  | [],r,_,h1,h2=>⟨h1,h2⟩
  | c :: l,r,hl,h1,h2=>by
    rw [List.foldl_cons]
    refine vq hDs hq l _ (fun c hc=>hl c (List.mem_cons_of_mem _ hc)) ?_ ?_
    · unfold gh;split
      · exact h1
      · split
        · exact h1
        · exact pu h1 ‹_›
    · unfold gh;split
      · exact h2
      · split
        · exact h2
        · exact qs h2 (hDs q c _ hq (hl c List.mem_cons_self) ‹_›)
theorem sU {k:Nat} {step:Int->Nat->Option Int} {D:Int->Prop} (hDs:∀ q c t,D q->c < k->step q c=some t->D t):∀ (f i:Nat) (Q:List Int) (R:List (List Int)),Q.Nodup->(∀ q ∈ Q,D q)->(fF k step f i Q R).1.Nodup/\∀ q ∈ (fF k step f i Q R).1,D q
  | 0,_,_,_,h1,h2=>⟨h1,h2⟩
  | f + 1,i,Q,R,h1,h2=>by
    unfold fF;split
    · rename_i hi
      obtain ⟨g1,g2⟩:=vq hDs (h2 _ (bi (d:=(0:Int)) hi)) (List.range k) ([],Q) (fun c hc=>List.mem_range.1 hc) h1 h2
      exact sU hDs f _ _ _ g1 g2
    · exact ⟨h1,h2⟩
theorem tU {N:Nat} {Q:List Int} (hn:Q.Nodup) (hQ:∀ q ∈ Q,0<=q/\q < (N:Int)):Q.length<=N:=by
  have:=qw (l:=Q.map Int.toNat) (n:=N) ?_ ?_
  · simpa using this
  · rw [List.nodup_iff_pairwise_ne,List.pairwise_map]
    exact List.Pairwise.imp_of_mem (fun {a c} ha hc hac e=>hac (by have:=hQ a ha;have:=hQ c hc;omega)) hn
  · intro x hx
    obtain ⟨a,ha,rfl⟩:=List.mem_map.1 hx
    have:=hQ a ha;omega
theorem NG {k:Nat} {acc:List Bool} {N:List (List Int)} {lv:List Bool} {cls:List Int} (hok:C6 k acc N) (hcl:cls.length=N.length) (q:Int) (c:Nat) (t:Int) (hq:q ∈ cls) (hc:c < k) (h:jD lv N cls q c=some t):t ∈ cls:=by
  have hm:=yW hq
  have hv:=hok.val (jz cls q) c O hc
  unfold jD at h;split at h
  · rename_i hl
    cases h
    have:0<=ia N (jz cls q) c:=by
      rw [kE] at hl
      simp only [Bool.and_eq_true,decide_eq_true_eq] at hl;exact hl.1
    exact bi O
  · cases h
theorem Lm {k:Nat} {acc:List Bool} {N:List (List Int)} (hok:C6 k acc N) (hN:0 < N.length):(Dp k acc N).1.length<=N.length:=by
  have hc:=Ga (lv:=iQ acc N) (N:=N) (acc:=acc)
  obtain ⟨g1,g2⟩:=sU (D:=fun q=>q ∈ yx acc (iQ acc N) N) (fun q c t=>NG (lv:=iQ acc N) hok hc.1 q c t) (N.length + 1) 0 [(yx acc (iQ acc N) N).getD 0 0] [] (by simp) (fun q hq=>by
    rw [List.mem_singleton] at hq;subst hq;exact bi (by rw [hc.1];exact hN))
  exact tU g1 fun q hq=>hc.2 q (g2 q hq)
theorem ux {k:Nat} {acc:List Bool} {N:List (List Int)} (h:(iQ acc N).getD 0 false=false):yv k acc N=([],[]):=by rw [yv,h];rfl
theorem zT {k:Nat} {acc:List Bool} {N:List (List Int)} (h:(iQ acc N).getD 0 false=true):yv k acc N=((Dp k acc N).1.map fun c=>acc.getD (jz (yx acc (iQ acc N) N) c) false,(Dp k acc N).2):=by rw [yv,if_pos h]
theorem xB {l:List Bool} (h:l.length=0):l.getD 0 false=false:=by rw [List.length_eq_zero_iff.1 h];rfl
theorem Qs {N:List (List Int)} {n:Nat} (hn:n<=100000) (lv:List Bool) (cls:List Int) (h1:cls.length=n) (h2:∀ c ∈ cls,0<=c/\c < (n:Int)) (h3:zF lv n cls) (i j:Nat) (hi:i < n) (hj:j < n) (h:oO lv N cls i=oO lv N cls j):cls.getD i 0=cls.getD j 0 :=
  Mz h1 h2 hn h3 i j hi hj h
theorem IW {acc:List Bool} {n:Nat} (lv:List Bool) (hl:∀ i,i < n->lv.getD i false=false->acc.getD i false=false):zF lv n (cb ((List.range n).map (UR acc lv))).1 :=
  xi (UR acc lv) (false,false) fun i j hi hj h1 h2=>by simp only [UR];rw [h1,h2,hl i hi h1,hl j hj h2]
theorem IY {N:List (List Int)} {n:Nat} (lv:List Bool) (cls:List Int):zF lv n (cb ((List.range n).map (oO lv N cls))).1 :=
  xi (oO lv N cls) [] fun i j hi hj h1 h2=>by rw [jf h1,jf h2]
theorem MH {acc:List Bool} {N:List (List Int)} (i:Nat) (hi:i < acc.length) (h:(iQ acc N).getD i false=false):acc.getD i false=false:=by
  cases q:acc.getD i false with
  | false=>rfl
  | true =>
    have h1:(i:Int) ∈ f8 acc N:=(nY (B:=dt N) (N.length + 1) 0 (qI acc acc.length)).subset (uU.2 ⟨i,hi,q,rfl⟩)
    simp [iQ,hi,h1] at h
end Go.Proofs.YtjppkekmddjcfaaGreatDoor

namespace Go.Proofs.YtjppkekmddjcfaaGreatDoor
open Go Go.RowKit V
def uT (k n:Nat) (R:List (List Int)):Prop:=∀ r ∈ R,r.length=k/\∀ m ∈ r,-1<=m/\m < (n:Int)
theorem uT.mono {k n n':Nat} {R:List (List Int)} (h:uT k n R) (hn:n<=n'):uT k n' R:=fun r hr=>⟨(h r hr).1,fun m hm=>by have:=(h r hr).2 m hm;omega⟩
theorem vr {step:Int->Nat->Option Int} {q:Int}:∀ (l:List Nat) (r:List Int × List Int),(∀ m ∈ r.1,-1<=m/\m < (r.2.length:Int)) ->
    (l.foldl (gh step q) r).1.length=r.1.length + l.length/\r.2.length<=(l.foldl (gh step q) r).2.length/\∀ m ∈ (l.foldl (gh step q) r).1,-1<=m/\m < ((l.foldl (gh step q) r).2.length:Int)
  | [],r,h=>⟨rfl,Nat.le_refl _,h⟩
  | c :: l,r,h=>by
    rw [List.foldl_cons]
    have key:(gh step q r c).1.length=r.1.length + 1/\r.2.length<=(gh step q r c).2.length/\∀ m ∈ (gh step q r c).1,-1<=m/\m < ((gh step q r c).2.length:Int):=by
      unfold gh
      split
      · refine ⟨by simp,Nat.le_refl _,fun m hm=>?_⟩
        rcases List.mem_append.1 hm with z | z
        · exact h m z
        · rw [List.mem_singleton] at z;subst z;exact ⟨Int.le_refl _,by show (-1:Int) < (r.2.length:Int);omega⟩
      · rename_i t _
        split
        · rename_i ht
          refine ⟨by simp,Nat.le_refl _,fun m hm=>?_⟩
          rcases List.mem_append.1 hm with z | z
          · exact h m z
          · rw [List.mem_singleton] at z;subst z;have:=List.idxOf_lt_length_iff.2 ht;exact ⟨by omega,by show ((r.2.idxOf t:Nat):Int) < (r.2.length:Int);omega⟩
        · refine ⟨by simp,by simp,fun m hm=>?_⟩
          show -1<=m/\m < ((r.2 ++ [t]).length:Int)
          rw [List.length_append,List.length_singleton]
          rcases List.mem_append.1 hm with z | z
          · have:=h m z;omega
          · rw [List.mem_singleton] at z;subst z;exact ⟨by omega,by omega⟩
    obtain ⟨k1,k2,k3⟩:=key
    obtain ⟨g1,g2,g3⟩:=vr l (gh step q r c) k3
    exact ⟨by rw [g1,k1,List.length_cons];omega,Nat.le_trans k2 g2,g3⟩
theorem tN {k:Nat} {step:Int->Nat->Option Int} {D:Int->Prop} {bd:Nat} (hDs:∀ q c t,D q->c < k->step q c=some t->D t) (hfin:∀ Q:List Int,Q.Nodup->(∀ q ∈ Q,D q)->Q.length<=bd) :
    ∀ (f i:Nat) (Q:List Int) (R:List (List Int)),Q.Nodup->(∀ q ∈ Q,D q)->bd < f + i->R.length=i->i<=Q.length->uT k Q.length R ->
      (fF k step f i Q R).2.length=(fF k step f i Q R).1.length/\uT k (fF k step f i Q R).1.length (fF k step f i Q R).2
  | 0,i,Q,R,h1,h2,h3,h4,h5,h6=>by have:=hfin Q h1 h2;exact ⟨by show R.length=Q.length;omega,h6⟩
  | f + 1,i,Q,R,h1,h2,h3,h4,h5,h6=>by
    unfold fF;split
    · rename_i hi
      obtain ⟨g1,g2⟩:=vq hDs (h2 _ (bi (d:=(0:Int)) hi)) (List.range k) ([],Q) (fun c hc=>List.mem_range.1 hc) h1 h2
      obtain ⟨r1,r2,r3⟩:=vr (step:=step) (q:=Q.getD i 0) (List.range k) ([],Q) (fun m hm=>by cases hm)
      refine tN hDs hfin f (i + 1) _ _ g1 g2 O (by simp [h4]) (Nat.le_trans hi r2) fun r hr=>?_
      rcases List.mem_append.1 hr with z | z
      · exact h6.mono r2 r z
      · rw [List.mem_singleton] at z;subst z
        exact ⟨by rw [show (LZ k step (Q.getD i 0) Q).1.length=_ from r1];simp,r3⟩
    · exact ⟨by show R.length=Q.length;omega,h6⟩
theorem ww {k:Nat} {acc:List Bool} {L:List (List Int)} (h:KN k acc L) (q:Int) (c:Nat) (t:Int) (hq:-1<=q/\q < (L.length:Int)) (hc:c < k) (e:nS L q c=some t):-1<=t/\t < (L.length:Int):=by
  simp only [nS,Option.some.injEq] at e
  subst e
  split
  · exact ⟨by omega,by have:=h.num;omega⟩
  · have:=h.val q.toNat c O hc;exact ⟨by omega,by omega⟩
theorem PM {k:Nat} {acc:List Bool} {L:List (List Int)} (h:KN k acc L):C6 k (wv k acc L) (gO k L).2/\(gO k L).2.length<=L.length + 1:=by
  have hn:=h.num
  have h0:∀ q ∈ ([0]:List Int),-1<=q/\q < (L.length:Int):=fun q hq=>by rw [List.mem_singleton] at hq;subst hq;omega
  obtain ⟨g1,g2⟩:=sU (D:=fun q=>-1<=q/\q < (L.length:Int)) (k:=k) (ww h) (L.length + 2) 0 [0] [] (by simp) h0
  obtain ⟨r1,r2⟩:=tN (D:=fun q=>-1<=q/\q < (L.length:Int)) (bd:=L.length + 1) (k:=k) (ww h) (fun Q h1 h2=>rl h1 h2) (L.length + 2) 0 [0] [] (by simp) h0 O Z (by simp) (fun r hr=>by cases hr)
  have hb:=rl g1 g2
  have hr:∀ s,s < (gO k L).2.length->((gO k L).2.getD s []).length=k/\∀ m ∈ (gO k L).2.getD s [],-1<=m/\m < ((gO k L).1.length:Int):=fun s hs=>r2 _ (bi hs)
  refine ⟨⟨h.sym,by rw [wv,List.length_map];exact r1.symm,by have:(gO k L).2.length=(gO k L).1.length:=r1;have:(gO k L).1.length<=L.length + 1:=hb;omega,fun s hs=>(hr s hs).1,fun s x hs hx=>?_⟩,by have:(gO k L).2.length=(gO k L).1.length:=r1;have:(gO k L).1.length<=L.length + 1:=hb;omega⟩
  have:=hr s hs
  have h2:=this.2 (ia (gO k L).2 s x) (bi (by rw [this.1];exact hx))
  have:(gO k L).2.length=(gO k L).1.length:=r1
  omega
end Go.Proofs.YtjppkekmddjcfaaGreatDoor

namespace Go.Proofs.YtjppkekmddjcfaaGreatDoor
open Go Go.RowKit V
def yl (g:Int) (rs:List be):List Wd:=(aM g rs).map (·.1)
def IJ (g:Int) (l:List Wd) (rs:List be):Nat:=if bW g l rs then 2 * g.toNat else 0
def sJ (g:Int) (l:List Wd) (rs:List be):Nat:=if bW g l rs then 0 else 100
def Da (g:Int) (l:List Wd) (rs:List be):List Bool × List (List Int):=if bW g l rs then Qq (2 * g.toNat) (Qg (2 * g.toNat) (yl g rs)) (Qh (2 * g.toNat) (yl g rs)) else ([],[])
section
variable {g:Int} {l:List Wd} {rs:List be} {gn i k:Nat} {w:Wd}
theorem yp (h:(!bW g l rs)=true):IJ g l rs=0/\sJ g l rs=100/\Da g l rs=([],[]):=by
  have h:bW g l rs=false:=by simpa using h
  simp [IJ,sJ,Da,h]
theorem ut (h:bW (gn:Int) l rs=true):IJ gn l rs=2 * gn/\sJ gn l rs=0/\Da gn l rs=Qq (2 * gn) (Qg (2 * gn) (yl gn rs)) (Qh (2 * gn) (yl gn rs)):=by
  simp [IJ,sJ,Da,h]
theorem wu (h:bH g w=0):∀ c ∈ w,0<=ix c/\ix c < 2 * g:=fun c hc=>by
  unfold bH at h
  split at h
  · cases h
  · split at h
    · cases h
    · split at h
      · rename_i q
        have:=List.all_eq_true.1 q c hc
        simpa [gv] using this
      · cases h
theorem MN:∀ x,x < 16->ix (bZ.getD x 0)=x:=by decide
theorem Rk:∀ x,x < 16->x ^^^ 1 < 16/\(x ^^^ 1) / 2=x / 2:=by decide
theorem w9 (hs:bW (gn:Int) l rs=true):∀ s ∈ aM (gn:Int) rs,∀ c ∈ s.1,0<=ix c/\ix c < ((2 * gn:Nat):Int):=fun s hm c hc=>by
  have hg:=pX hs
  rcases List.mem_append.1 hm with z | z
  · obtain ⟨r,hr,rfl⟩:=List.mem_map.1 z
    have:=wu (nh (fh ((gV hs).2.2.1 r hr)).1) c hc
    omega
  · obtain ⟨x,hx,rfl⟩:=List.mem_map.1 z
    have hx:=List.mem_range.1 hx
    rw [Int.toNat_natCast] at hx
    have h1:=Rk x O
    simp only [Tq,List.mem_cons,List.not_mem_nil,or_false] at hc
    rcases hc with rfl | rfl
    · rw [MN x O];omega
    · rw [MN _ h1.1];omega
theorem IE:(yl g rs).length=(aM g rs).length:=by simp [yl]
theorem PT (hi:i < (aM g rs).length):(yl g rs).getD i []=((aM g rs).getD i ([],[])).1:=by
  simp [yl,List.getD_eq_getElem?_getD,hi]
theorem UZ (hs:bW g l rs=true):∀ w ∈ yl g rs,w ≠ []:=fun w hw e=>by
  obtain ⟨s,h1,rfl⟩:=List.mem_map.1 hw
  have:=(tD (pX hs) (Px hs) s h1).1
  rw [e] at this;simp at this
theorem TI.next2 {L:List (List Int)} {E:List Bool} (h:TI k (yl g rs) i L E) (hi:i < (aM g rs).length) (hw:∀ c ∈ ((aM g rs).getD i ([],[])).1,0<=ix c/\ix c < k):TI k (yl g rs) (i + 1) (wN k L E ((aM g rs).getD i ([],[])).1) (wK k L E ((aM g rs).getD i ([],[])).1):=by
  have:=h.next (by rw [IE];exact hi) (by rw [PT hi];exact hw)
  rwa [PT hi] at this
end
section
variable {k:Nat} {L:List (List Int)} {E:List Bool} {W S:List (List Nat)}
theorem QM {s x:Nat} (hs:s < L.length) (hx:x < (L.getD s []).length):ia (L.map (ew E)) s x=if E.getD (ia L s x).toNat false then -1 else ia L s x:=by
  unfold ia
  have e:(L.map (ew E)).getD s []=ew E (L.getD s []):=by simp [List.getD_eq_getElem?_getD,hs]
  rw [e,ew]
  have:((L.getD s []).map fun m=>if E.getD m.toNat false=true then -1 else m).getD x 0=(fun m:Int=>if E.getD m.toNat false=true then -1 else m) ((L.getD s []).getD x 0):=by
    simp only [List.getD_eq_getElem?_getD,List.getElem?_map]
    have:x < (L[s]?.getD []).length:=by simpa [List.getD_eq_getElem?_getD] using hx
    simp [this]
  rw [this]
theorem TD (h:Vc k L E W S) (hk:1<=k/\k<=400) (hn:W.length<=19000):KN k (E.map fun e=>!e) (L.map (ew E)):=by
  have h1:=h.len
  have h2:=h.pos
  refine ⟨hk,by simp;omega,by simp;omega,fun s hs=>?_,fun s x hs hx=>?_⟩
  · rw [List.length_map] at hs
    rw [show (L.map (ew E)).getD s []=ew E (L.getD s []) by simp [List.getD_eq_getElem?_getD,hs],nG]
    exact h.row s O
  · rw [List.length_map] at hs ⊢
    have hr:=h.row s O
    rw [QM hs O]
    have:=h.to s x O hx
    split
    · omega
    · omega
theorem Vc.at (h:Vc k L E W S) {s x:Nat} (hs:s < W.length) (hx:x < k):0<=(L.getD s []).getD x 0/\((L.getD s []).getD x 0).toNat < W.length:=by
  have:=h.to s x hs hx
  simp only [ia] at this
  omega
end
theorem Jz {E:List Bool} {s:Nat} (h:s < E.length):(E.take s).map (fun e=>!e) ++ [!E.getD s false]=(E.take (s + 1)).map fun e=>!e:=r8 (z:=false) (fun e=>!e) h
end Go.Proofs.YtjppkekmddjcfaaGreatDoor

namespace Go.Proofs.YtjppkekmddjcfaaGreatDoor
open Go Go.RowKit V
def dy:List Wd:=[[97,98,65,66]]
def cz (a b c d:Value):List be:=[⟨[98,97],[97,98],a,[⟨[],0,true⟩]⟩,⟨[98,65],[65,98],b,[⟨[65],0,false⟩]⟩,⟨[66,97],[97,66],c,[⟨[66],0,false⟩]⟩,⟨[66,65],[65,66],d,[⟨[66,65],0,true⟩]⟩]
section
variable (a b c d:Value)
set_option maxRecDepth 100000
theorem vI:bW 2 dy (cz a b c d)=true:=by kernel_rfl
theorem RI:(il 2 dy (cz a b c d) [98,98,97,65]).word=[98,98]/\(il 2 dy (cz a b c d) [98,98,97,65]).steps=4/\iG 2 dy (cz a b c d) [98,98,97,65]=0:=by refine ⟨?_,?_,?_⟩ <;> kernel_rfl
theorem RJ:(il 2 dy (cz a b c d) [98,97,66]).word=[97]/\(il 2 dy (cz a b c d) [98,97,66]).steps=1/\iG 2 dy (cz a b c d) [98,97,66]=0:=by refine ⟨?_,?_,?_⟩ <;> kernel_rfl
theorem RK:(il 2 dy (cz a b c d) [98,97,98,97]).word=[97,97,98,98]/\(il 2 dy (cz a b c d) [98,97,98,97]).steps=3/\iG 2 dy (cz a b c d) [98,97,98,97]=0:=by refine ⟨?_,?_,?_⟩ <;> kernel_rfl
theorem RL:du 2 dy (cz a b c d)=(true,.zero,0):=by kernel_rfl
theorem RM:nz 2 dy (cz a b c d)=(true,0):=by kernel_rfl
theorem RN:isRed 2 dy (cz a b c d)=true:=by kernel_rfl
theorem RO:Da 2 dy (cz a b c d)=([true,true,true,true,true],[[1,2,3,4],[1,-1,3,4],[-1,2,3,4],[-1,-1,3,-1],[-1,-1,-1,4]])/\IJ 2 dy (cz a b c d)=4/\sJ 2 dy (cz a b c d)=0:=by refine ⟨?_,?_,?_⟩ <;> kernel_rfl
theorem RP:du 2 dy ((cz a b c d).take 1)=(false,⟨0,-1,[98,97,65],[97,98,65],[98]⟩,0):=by kernel_rfl
theorem GV:CY (cz a b c d) [97,66]=true/\CY (cz a b c d) [66,97]=false/\bH 2 [97,66]=0/\bH 2 [66,97]=0:=by refine ⟨?_,?_,?_,?_⟩ <;> kernel_rfl
theorem sh:(bh 2 (cz a b c d)).length<=50000/\(bh 2 ((cz a b c d).take 1)).length<=50000/\qQ (yl 2 (cz a b c d))<=18000:=by
  refine ⟨?_,?_,?_⟩ <;> exact Nat.le_of_ble_eq_true Y
theorem Ng:iK true (cz a b c d) (cz a b c d)=true:=by kernel_rfl
end
structure fz (A:AH) (u rv:Value) (a b c d:Value):Prop where
  L:gy A
  M:rK A
  u:bI A 1 u (ei dy)
  r:bI A 3 rv (db (cz a b c d))
  p:Proofs A (cz a b c d)
theorem fz.le {A B:AH} {u rv a b c d:Value} (h:fz A u rv a b c d) (le:A.le B):fz B u rv a b c d:=⟨h.L.le le,h.M.le le,h.u.le le,h.r.le le,h.p.le le⟩
theorem fz.one {A:AH} {u:Value} {br:Nat} {a b c d:Value} (h:fz A u (.slice (some ⟨br,0,none⟩) 4 4) a b c d):bI A 3 (.slice (some ⟨br,0,none⟩) 1 4) (db ((cz a b c d).take 1))/\Proofs A ((cz a b c d).take 1):=by
  obtain ⟨p,n,k,e,h1,h2,h3⟩:=h.r
  cases e
  rcases h3 with h3 | ⟨b',off,rw,r,rcap,e,g1,g2⟩
  · cases h3
  · cases e
    refine ⟨⟨_,1,4,rfl,rfl,by decide,.inr ⟨_,0,rw,r,rcap,rfl,g1,?_⟩⟩,fun r hr=>h.p r (List.mem_of_mem_take hr)⟩
    have:((r.drop 0).take (4 * 3)).take 3=(db (cz a b c d)).take 3:=by rw [g2]
    rw [List.take_take] at this
    exact this
end Go.Proofs.YtjppkekmddjcfaaGreatDoor

namespace Go.Proofs.YtjppkekmddjcfaaGreatDoor
open Go Go.RowKit V
def ii (held:List (Nat × eK)) (A:AH):Prop:=∀ p ∈ held,∀ q ∈ p.2,A.cell q.1=some q.2
theorem ii.now {ops:Array Oper} {held:List (Nat × eK)} {i:Nat} {A:AH} (h:ii held A):aW ops held i A:=aW.of fun p hp _ q hq=>h p hp q hq
theorem ii.nil {A:AH}:ii [] A:=fun _ h=>by cases h
theorem ii.cons {held:List (Nat × eK)} {i:Nat} {T:eK} {A:AH} (h:∀ q ∈ T,A.cell q.1=some q.2) (h2:ii held A):ii ((i,T) :: held) A:=fun p hp=>(List.mem_cons.1 hp).elim (fun q=>q ▸ h) (h2 p)
theorem ii.filter {held:List (Nat × eK)} {f:Nat × eK->Bool} {A:AH} (h:ii held A):ii (held.filter f) A:=fun p hp=>h p (List.mem_filter.1 hp).1
def pT (r:be):Bool:=decide (r.left.length<=40) && decide (r.right.length<=40) && decide (r.proof.length<=60) && r.proof.all fun c=>decide (c.conj.length<=200)
def iP (l:List Wd) (rs:List be):Bool:=decide (rs.length<=30) && decide (l.length<=10) && l.all (fun w=>decide (w.length<=60)) && rs.all pT
section
variable {l:List Wd} {rs:List be} {i j:Nat} {r:be}
theorem mi:pT r=true ↔ r.left.length<=40/\r.right.length<=40/\r.proof.length<=60/\∀ c ∈ r.proof,c.conj.length<=200:=by
  simp only [pT,Bool.and_eq_true,decide_eq_true_eq,List.all_eq_true,and_assoc]
theorem iE:iP l rs=true ↔ rs.length<=30/\l.length<=10/\(∀ w ∈ l,w.length<=60)/\∀ r ∈ rs,pT r=true:=by
  simp only [iP,Bool.and_eq_true,decide_eq_true_eq,List.all_eq_true,and_assoc]
theorem pU {P:Prop} (h:iP l rs=true->False):iP l rs=false:=by
  cases q:iP l rs with
  | false=>rfl
  | true=>exact (h q).elim
theorem mj (h:30 < rs.length):iP l rs=false:=pU (P:=True) fun q=>by have:=(iE.1 q).1;omega
theorem mn (h:10 < l.length):iP l rs=false:=pU (P:=True) fun q=>by have:=(iE.1 q).2.1;omega
theorem mo (hi:i < l.length) (h:60 < (l.getD i []).length):iP l rs=false:=pU (P:=True) fun q=>by have:=(iE.1 q).2.2.1 _ (bi (d:=([]:Wd)) hi);omega
theorem mp (hi:i < rs.length) (h:40 < (rs.getD i .zero).left.length\/40 < (rs.getD i .zero).right.length\/60 < (rs.getD i .zero).proof.length):iP l rs=false:=pU (P:=True) fun q=>by
  have:=mi.1 ((iE.1 q).2.2.2 _ (bi (d:=.zero) hi));omega
theorem mq (hi:i < rs.length) (hj:j < (rs.getD i .zero).proof.length) (h:200 < ((rs.getD i .zero).proof.getD j .zero).conj.length):iP l rs=false:=pU (P:=True) fun q=>by
  have:=(mi.1 ((iE.1 q).2.2.2 _ (bi (d:=.zero) hi))).2.2.2 _ (bi (d:=bJ.zero) hj);omega
theorem uY {α:Type} {p:α->Prop} {l:List α} {d:α} (hi:l.length<=i) (h:∀ j,j < i->p (l.getD j d)):∀ x ∈ l,p x:=fun x hx=>by
  obtain ⟨j,hj,rfl⟩:=List.getElem_of_mem hx
  have:=h j O
  rwa [gd hj] at this
theorem ji (h1:rs.length<=30) (h2:l.length<=10) (hi:l.length<=i) (h3:∀ j,j < i->(l.getD j []).length<=60) (hj:rs.length<=j) (h4:∀ k,k < j->pT (rs.getD k .zero)=true):iP l rs=true :=
  iE.2 ⟨h1,h2,uY (p:=fun w=>w.length<=60) hi h3,uY (p:=fun r=>pT r=true) hj h4⟩
theorem E8 (h1:¬ 40 < r.left.length) (h2:¬ 40 < r.right.length) (h3:¬ 60 < r.proof.length) (hj:r.proof.length<=j) (h4:∀ k,k < j->(r.proof.getD k .zero).conj.length<=200):pT r=true :=
  mi.2 ⟨by omega,by omega,by omega,uY (p:=fun c=>c.conj.length<=200) hj h4⟩
theorem I0 {k:Nat} {d:List bJ} (h:∀ c ∈ d,c.conj.length<=k):dn d<=k * d.length:=by
  induction d with
  | nil=>simp [dn]
  | cons a d ih =>
    rw [vi,List.length_cons,Nat.mul_succ]
    have h1:=h a List.mem_cons_self
    have h2:=ih fun c hc=>h c (List.mem_cons_of_mem _ hc)
    omega
theorem Ku (h:iP l rs=true):Xb l rs:=by
  obtain ⟨h1,h2,h3,h4⟩:=iE.1 h
  refine ⟨by omega,fun x hx=>by have:=h3 x hx;omega,by omega,fun r hr=>?_⟩
  have h5:=mi.1 (h4 r hr)
  have h6:=I0 h5.2.2.2
  have h7:dn r.proof<=200 * 60:=Nat.le_trans h6 (Nat.mul_le_mul_left _ h5.2.2.1)
  omega
end
end Go.Proofs.YtjppkekmddjcfaaGreatDoor

namespace Go.Proofs.YtjppkekmddjcfaaGreatDoor
open Go Go.RowKit V Fr
theorem yi {g:Int} {l:List Wd} {rs:List be} {w:Wd} (h:iG g l rs w=0):bW g l rs=true/\bH g w=0/\w.length<=20000/\jV rs w=some (il g l rs w):=by
  cases hs:bW g l rs with
  | false=>rw [(Pw hs).2] at h;cases h
  | true =>
    rw [(og hs).2] at h
    rw [(og hs).1]
    by_cases hw:bH g w=0
    · by_cases hl:20000 < w.length
      · rw [(Uu (Decidable.not_not.2 hw) hl).2] at h;cases h
      · rw [(NP (Decidable.not_not.2 hw) hl).2] at h
        rw [(NP (Decidable.not_not.2 hw) hl).1]
        refine ⟨Z,hw,by omega,?_⟩
        cases q:jV rs w with
        | none=>rw [q] at h;cases h
        | some R=>rfl
    · rw [(NR hw).2] at h;cases h
end Go.Proofs.YtjppkekmddjcfaaGreatDoor
