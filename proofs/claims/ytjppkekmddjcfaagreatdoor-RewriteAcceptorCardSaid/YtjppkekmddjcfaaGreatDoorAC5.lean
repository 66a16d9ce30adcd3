import Derived.Test.YtjppkekmddjcfaaGreatDoorAC4
set_option linter.unusedSectionVars false
set_option linter.unusedVariables false
set_option linter.unusedSimpArgs false
open Go.Proofs.Tryz
namespace Go.Proofs.YtjppkekmddjcfaaGreatDoor
open Go Go.RowKit
namespace V
def nY (b4:Nat) (B:AH) (b:Nat):Prop:=b=b4\/∃ v cap,B.get b4=some (.row true [v] cap)/\blk v=some b
structure cG (b4:Nat) (M C:AH):Prop where
  le:M.le C
  wf:M.wf
  ow:∀ b,nY b4 C b->M.get b=none
section
variable {b4 b k:Nat} {A B C M M':AH} {v:Value} {cap:Nat} {o:gv}
theorem nY.same (h:nY b4 C b) (e:C.get b4=B.get b4):nY b4 B b:=by
  rcases h with h | ⟨v,cap,h1,h2⟩
  · exact .inl h
  · exact .inr ⟨v,cap,e ▸ h1,h2⟩
theorem nY.val (h:nY b4 C b) (g:C.get b4=some (.row true [v] cap)):b=b4\/blk v=some b:=by
  rcases h with h | ⟨v',cap',h1,h2⟩
  · exact .inl h
  · rw [g] at h1;cases h1;exact .inr h2
theorem cG.mono (h:cG b4 M C) (le:M'.le M) (wf:M'.wf):cG b4 M' C:=⟨le.trans h.le,wf,fun b hb=>by
  cases q:M'.get b with
  | none=>rfl
  | some o=>rw [<- h.ow b hb,le.get b o q]⟩
theorem cG.full (g:C.get b4=some (.row true [v] cap)) (wf:C.wf):cG b4 (C.hide [some b4,blk v]) C :=
  ⟨cL _ _,cx wf,fun b hb=>cD (by
    rcases hb.val g with rfl | q
    · simp
    · rw [q];simp)⟩
theorem cG.sub (h:cG b4 M C) (g:C.get b4=some (.row true [v] cap)):M.le (C.hide [some b4,blk v]) :=
  cy h.le fun b hb=>by
    simp only [Vy,SQ,or_false,Option.some.injEq] at hb
    rcases hb with rfl | hb
    · exact h.ow _ (.inl Z)
    · exact h.ow _ (.inr ⟨v,cap,g,hb.symm⟩)
end
theorem cG.up {b4:Nat} {A B M:AH} {v:Value} {cap:Nat} (h:cG b4 M A) (le:A.le B) (g:A.get b4=some (.row true [v] cap)):cG b4 M B :=
  ⟨h.le.trans le,h.wf,fun b hb=>h.ow b (hb.same (by rw [g];exact le.g g))⟩
theorem tf {A B:AH} {v:Value} (le:A.le B) (h:∀ b,blk v=some b->∃ o,A.get b=some o):∀ b,blk v=some b->∃ o,B.get b=some o:=fun b hb=>let ⟨o,ho⟩:=h b hb;⟨o,le.g ho⟩
theorem kH {b4 b:Nat} {A X:AH} {v:Value} {cap:Nat} {o:gv} (h:A.get b=some o) (g:X.get b4=some (.row true [v] cap)) (l:∀ b,blk v=some b->∃ o,X.get b=some o) (nj:X.get b=none):(A.hide [some b4,blk v]).get b=some o :=
  ce h (rP (fun q=>by rw [q,g] at nj;cases nj) (px (fun q=>by obtain ⟨o,ho⟩:=l b q;rw [nj] at ho;cases ho) nZ))
theorem sJ {b4 n:Nat} {A B X:AH} {v t:Value} {cap:Nat} {xs:List Value} (h:Fresh B A t n xs) (g:X.get b4=some (.row true [v] cap)) (l:∀ b,blk v=some b->∃ o,X.get b=some o) (nj:∀ b,blk t=some b->X.get b=none):bz (A.hide [some b4,blk v]) n t xs :=
  (h.off (bs:=[some b4,blk v]) (ln (fun q=>by have:=nj _ q;rw [g] at this;cases this) (j8 (fun c hc hq=>by obtain ⟨o,ho⟩:=l c hc;rw [nj c hq] at ho;cases ho) lm)) (AH.le.refl _)).slc
structure kj (b4:Nat) (A B:AH) (Ds:List Nat):Prop where
  nd:Ds.Nodup
  lo:∀ D ∈ Ds,A.n<=D
  get:∀ D ∈ Ds,B.get D=some (.obj true (.deferred (some [])))
  ow:∀ D ∈ Ds,¬ nY b4 B D
theorem kj.nil {b4:Nat} {A B:AH}:kj b4 A B []:=⟨List.nodup_nil,(fun _ h=>by cases h),(fun _ h=>by cases h),(fun _ h=>by cases h)⟩
theorem kj.up {b4:Nat} {A B C:AH} {Ds:List Nat} {v:Value} {cap:Nat} (h:kj b4 A B Ds) (le:B.le C) (g:B.get b4=some (.row true [v] cap)):kj b4 A C Ds :=
  ⟨h.nd,h.lo,fun D hD=>le.g (h.get D hD),fun D hD q=>h.ow D hD (q.same (by rw [g];exact le.g g))⟩
theorem kj.push {b4 D:Nat} {A B C:AH} {Ds:List Nat} {v:Value} {cap:Nat} (h:kj b4 A B Ds) (g:B.get b4=some (.row true [v] cap)) (hR:cG b4 (B.hide [some b4,blk v]) C) (wf:B.wf) (hA:A.n<=B.n) (hn:B.n<=D) (hD:C.get D=some (.obj true (.deferred (some [])))) (ho:¬ nY b4 C D):kj b4 A C (D :: Ds):=by
  have key:∀ E ∈ Ds,(B.hide [some b4,blk v]).get E=some (.obj true (.deferred (some []))):=fun E hE=>ce (h.get E hE) (rP (fun q=>h.ow E hE (.inl q)) (px (fun q=>h.ow E hE (.inr ⟨v,cap,g,q⟩)) nZ))
  refine ⟨List.nodup_cons.2 ⟨fun q=>by have:=wf _ _ (h.get D q);omega,h.nd⟩,fun E hE=>?_,fun E hE=>?_,fun E hE=>?_⟩
  · rcases Vy.1 hE with rfl | q
    · omega
    · exact h.lo E q
  · rcases Vy.1 hE with rfl | q
    · exact hD
    · exact hR.le.g (key E q)
  · rcases Vy.1 hE with rfl | q
    · exact ho
    · intro z;have:=hR.ow E z;rw [key E q] at this;cases this
theorem kj.leave {b4:Nat} {A A' B M:AH} {Ds:List Nat} {v:Value} {cap:Nat} (h:kj b4 A B Ds) (le:M.le A) (wf:A.wf) (hR:cG b4 M B) (g:B.get b4=some (.row true [v] cap)) (hn:A'.n=B.n) (hk:∀ b o,b ∉ Ds->B.get b=some o->A'.get b=some o) :
    cG b4 M A'/\∀ b o,(b < A.n\/nY b4 B b)->B.get b=some o->A'.get b=some o:=by
  have k2:∀ b o,(b < A.n\/nY b4 B b)->B.get b=some o->A'.get b=some o:=fun b o hb hg=>hk b o (fun q=>by
    rcases hb with hb | hb
    · have:=h.lo b q;omega
    · exact h.ow b q hb) hg
  refine ⟨⟨⟨by rw [hn];exact hR.le.n,fun b o hb=>k2 b o (.inl (wf _ _ (le.g hb))) (hR.le.g hb)⟩,hR.wf,fun b hb=>hR.ow b (hb.same ?_)⟩,k2⟩
  rw [g];exact k2 b4 _ (.inr (.inl Z)) g
section
variable {P:Program} {nt:Nat} {Q:Exit->Fr->AH->Prop} {A M:AH} {e:ii} {ds:List Deferred}
theorem ak.rangeOwn {g:Operand} {gf:Nat} {lb:Array Value} {ps:Array Tmp} {assign body:Code} (b4 n:Nat) (xs:Nat->List Value) (I:Nat->AH->Prop) (e1:Nat->Nat->ii) (ar:Nat->gv)
    (hg:cd e g=some (.func (.func gf) #[] lb)) (eg:gx P gf) (hps:∀ i,(xs i).length=ps.size) (hpn:∀ p ∈ ps.toList,p < nt) (a3:b4 < A.n) (hM:cG b4 M A)
    (hI:∀ i B B',I i B->B'.wf->B.n<=B'.n->(∀ b o,(b < A.n\/nY b4 B b)->B.get b=some o->B'.get b=some o)->I i B')
    (hv:∀ i B,I i B->∃ v cap,B.get b4=some (.row true [v] cap)/\∀ b,blk v=some b->∃ o,B.get b=some o) (h0:I 0 A)
    (hiter:∀ l (J:Nat->AH->Prop) B M,B.n=A.n + 2->A.le B->B.wf->cG b4 M B->(∀ i C,J i C->I i C) ->
      (∀ i C C',J i C->C'.wf->C.n<=C'.n->(∀ b o,(b < B.n\/nY b4 C b)->C.get b=some o->C'.get b=some o)->J i C')->J 0 B ->
      (∀ i C M',i < n->C.wf->J i C->cG b4 M' C->mN P l (xs i).toArray C (fun v C'=>v=.bool true/\J (i + 1) C'/\C'.wf/\cG b4 M' C')) ->
      bH P gf (#[.func (.yield l) #[] #[]] ++ lb) B (fun _ C=>J n C/\C.wf/\cG b4 M C))
    (hassign:∀ F i B,yo F->i < n->fh P nt F assign (xy fun f C=>∃ b6,B.n<=b6/\am (e1 i b6) f.e/\f.ds=[]/\B.le C/\C.wf/\C.get b6=some (ar i)) ⟨Cj ps.toList (xs i) e,[]⟩ B)
    (hbody:∀ F i B b6 M',yo F->i < n->I i B->B.wf->A.n<=B.n->cG b4 M' B->A.n<=b6->B.get b6=some (ar i)->¬ nY b4 B b6->M'.get b6=none->fh P nt F body (xy fun _ C=>I (i + 1) C/\C.wf/\cG b4 M' C) ⟨e1 i b6,[]⟩ B)
    (hK:∀ B D,I n B->B.wf->A.n<=D->A.n<=B.n->B.get D=some (.obj true (.deferred (some [])))->¬ nY b4 B D->cG b4 M B->Q .normal ⟨e,mark D :: ds⟩ B) :
    ak P nt (.rangeFunc g ps assign body) Q ⟨e,ds⟩ A:=by
  intro a w ha hw
  refine wpIn_wide.1 (wpIn_rangeFunc (n:=0) ?_)
  intro fn _
  rw [show Fence.wide.round=none from rfl]
  obtain ⟨rec,hrec⟩:∃ rec:LoopState->Option Code->Loop,rec=fun st pe=>{ state:=st,pending:=pe,fn,tmps:=a.tmps,params:=ps,assign,body,defers:=w.heap.size }:=⟨_,rfl⟩
  have hsz:w.heap.size=A.n:=hw.size
  have wfA:=hw.wf
  have hA:∀ b,nY b4 A b->b < A.n:=fun b hb=>by
    obtain ⟨v,cap,g1,g2⟩:=hv 0 A h0
    rcases hb.val g1 with rfl | q
    · exact a3
    · obtain ⟨o,ho⟩:=g2 b q;exact wfA _ _ ho
  obtain ⟨v1,s1⟩:=kf (o:=.obj true (.deferred (some []))) (x:=.deferred (some [])) hw ⟨rfl,fun _ _ _ q=>by cases q⟩
  obtain ⟨v2,s2⟩:=kf (o:=.obj true (.loop (rec .ready none))) (x:=.loop (rec .ready none)) v1 ⟨rfl,fun _ _ _ q=>by cases q⟩
  have hgl:((A.new (.obj true (.deferred (some [])))).new (.obj true (.loop (rec .ready none)))).get (A.n + 1)=some (.obj true (.loop (rec .ready none))):=AH.new_get_same _ _
  have hgd:((A.new (.obj true (.deferred (some [])))).new (.obj true (.loop (rec .ready none)))).get A.n=some (.obj true (.deferred (some []))):=by
    rw [AH.new_get_ne _ _ (by simp)];exact AH.new_get_same _ _
  have hkeep:∀ b,b < A.n->((A.new (.obj true (.deferred (some [])))).new (.obj true (.loop (rec .ready none)))).get b=A.get b:=fun b hb=>by
    rw [AH.new_get_ne _ _ Or,AH.new_get_ne _ _ O]
  have hleA:A.le ((A.new (.obj true (.deferred (some [])))).new (.obj true (.loop (rec .ready none)))):=AH.le_new (AH.le_new (AH.le.refl A) wfA _) wfA _
  have hnB:((A.new (.obj true (.deferred (some [])))).new (.obj true (.loop (rec .ready none)))).n=A.n + 2:=rfl
  generalize ((A.new (.obj true (.deferred (some [])))).new (.obj true (.loop (rec .ready none))))=B0 at *
  have ad:I 0 B0:=hI 0 A _ h0 v2.wf O fun b o hb hgb=>by rw [hkeep b (wfA _ _ hgb)];exact hgb
  have aa:∀ b,nY b4 B0 b->b < A.n:=fun b hb=>hA b (hb.same (hkeep b4 a3))
  have hgev:a.eval g=.func (.func gf) #[] lb:=cI ha hg
  -- what is kept of the loop's own blocks
  have nl:b4 ≠ A.n + 1:=by omega
  refine ⟨w.heap.size + 1,[mark w.heap.size],(w.alloc (.deferred (some []))).alloc (.loop (rec .ready none)),{ target:=.fn (.func gf) lb,args:=#[.func (.yield (w.heap.size + 1)) #[] #[]] },(w.alloc (.deferred (some []))).alloc (.loop (rec .ready none)),gf,
    #[.func (.yield (w.heap.size + 1)) #[] #[]] ++ lb,(w.alloc (.deferred (some []))).alloc (.loop (rec .ready none)),?_,?_,fun _ _=>trivial,?_,fun q=>(by cases q),?_⟩
  · rw [hrec];exact run_enterLoop_outer _ _ _ _ _
  · simp only [resolve,hgev]
    simp [go_sem]
  · have eg':=eg
    unfold gx at eg'
    simp [invoke,go_sem,eg']
  · rw [hsz]
    have ai:cG b4 M B0:=⟨hM.le.trans hleA,hM.wf,fun b hb=>hM.ow b (hb.same (hkeep b4 a3))⟩
    have hcall:=hiter (A.n + 1) (fun i C=>I i C/\C.get (A.n + 1)=some (.obj true (.loop (rec .ready none)))/\C.get A.n=some (.obj true (.deferred (some [])))/\¬ nY b4 C (A.n + 1)/\¬ nY b4 C A.n) B0 M hnB hleA v2.wf ai (fun i C h=>h.1)
      (fun i C C' h wf hn hk=>?_) ⟨ad,hgl,hgd,fun q=>by have:=aa _ q;omega,fun q=>by have:=aa _ q;omega⟩ ?_
    · refine (callsIn_wide.2 (hcall.2 _ v2)).mono ?_
      rintro en w' ⟨A',hv',hs',v,rfl,⟨⟨hIn,hgl',hgd',X,a0⟩,hwf',hM'⟩⟩
      obtain ⟨q1,_⟩:=hv'.obj hgl'
      obtain ⟨v3,s3⟩:=m9 P (y:=.loop { rec .ready none with state:=.exhausted }) hv' hgl' (fun _ _ _ q=>by cases q)
      refine ⟨none,w'.putObj (A.n + 1) (.loop { rec .ready none with state:=.exhausted }),by
        have h7:=run_endLoop (P:=P) q1 (by rw [hrec];simp)
        have h8:(rec .ready none).pending=none:=by rw [hrec]
        exact h7.trans (Xk (fun j=>Result.ok j _) h8),?_⟩
      have hl':=hwf' _ _ hgl'
      refine ⟨⟨e,mark A.n :: ds⟩,_,⟨ha.size,ha.slot,by show [mark _] ++ a.defers=_;rw [ha.ds];rfl⟩,v3,((s1.trans s2).trans hs').trans s3,?_,fun _ q=>by cases q⟩
      have hset:∀ b,b ≠ A.n + 1->(A'.set (A.n + 1) (.obj true (.loop { rec .ready none with state:=.exhausted }))).get b=A'.get b:=fun b hb=>AH.set_get_ne _ _ hb
      refine hK _ A.n (hI n A' _ hIn v3.wf (XX _) fun b o hb hgb=>?_) v3.wf (XX _) Or ?_ ?_ ⟨⟨hM'.le.n,fun b o hb=>?_⟩,hM'.wf,fun b hb=>hM'.ow b (hb.same (hset b4 nl))⟩
      · rw [hset];exact hgb
        rintro rfl
        rcases hb with hb | hb
        · omega
        · exact X hb
      · rw [hset _ O];exact hgd'
      · exact fun q=>a0 (q.same (hset b4 nl))
      · have h1:=hM.le.get b o hb
        have h2:=wfA _ _ h1
        rw [hset _ O];exact hM'.le.get b o hb
    · obtain ⟨hIC,g1,g2,X,a0⟩:=h
      obtain ⟨v,cap,hr,_⟩:=hv i C hIC
      have e4:C'.get b4=C.get b4:=by rw [hr];exact hk b4 _ (.inr (.inl Z)) hr
      exact ⟨hI i C C' hIC wf hn (fun b o hb hgb=>hk b o (hb.imp (fun q=>by omega) id) hgb),hk _ _ (.inl O) g1,hk _ _ (.inl O) g2,fun q=>X (q.same e4),fun q=>a0 (q.same e4)⟩
    · rintro i C M' hi hwfC ⟨hIC,hgl',hgd',X,a0⟩ hMC w' hv'
      obtain ⟨q1,_⟩:=hv'.obj hgl'
      have hy:=run_yield (P:=P) (args:=(xs i).toArray) q1 (by rw [hrec];simpa using hps i)
      refine ⟨fn,_,assign,body,(by rw [hrec] at hy;exact hy),roundIn_of_wpIn trivial ?_⟩
      have hact:de nt ⟨Cj ps.toList (xs i) e,[]⟩ { tmps:=(ps.zip (xs i).toArray).foldl (fun t p=>t.setIfInBounds p.1 p.2) a.tmps,defers:=[] }:=by
        have:=vd (nt:=nt) (ps.toList.zip (xs i)) e a.tmps (fun p hp=>hpn _ (List.of_mem_zip hp).1) ⟨ha.size,ha.slot,rfl⟩
        rw [<- Array.foldl_toList,Array.toList_zip]
        exact this
      have av:=hassign (FR (A.n + 1)) i C (ry _) hi _ w' hact hv'
      refine wpIn_mono av ?_
      rintro x a1 w1 ⟨f1,C1,h1,h2,h3,h4,h5⟩
      cases x <;> (try exact h4.elim)
      obtain ⟨b6,aA,hE,hds,hleC,ay,ap⟩:=h4
      obtain ⟨fe,fds⟩:=f1
      simp only at hE hds
      subst hds
      obtain ⟨vC,capC,gC,lC⟩:=hv i C hIC
      have owC:∀ b,nY b4 C b->b < C.n:=fun b hb=>by
        rcases hb.val gC with rfl | q
        · exact hwfC _ _ gC
        · obtain ⟨o,ho⟩:=lC b q;exact hwfC _ _ ho
      have ac:C1.get b4=C.get b4:=by rw [gC];exact hleC.get _ _ gC
      have a4:=hleC.get _ _ hgl'
      have ab:=hleC.get _ _ hgd'
      obtain ⟨q2,_⟩:=h2.obj a4
      obtain ⟨v4,s4⟩:=m9 P (y:=.loop { rec .ready none with state:=.busy }) h2 a4 (fun _ _ _ q=>by cases q)
      refine ⟨_,run_beginRound q2 (by rw [hrec]),?_⟩
      have hl':=hwfC _ _ hgl'
      have hd':=hwfC _ _ hgd'
      have hnC:=hleC.n
      have hset:∀ b,b ≠ A.n + 1->(C1.set (A.n + 1) (.obj true (.loop { rec .ready none with state:=.busy }))).get b=C1.get b:=fun b hb=>AH.set_get_ne _ _ hb
      have hsetl:(C1.set (A.n + 1) (.obj true (.loop { rec .ready none with state:=.busy }))).get (A.n + 1)=some (.obj true (.loop { rec .ready none with state:=.busy })):=AH.set_get_same _ _ _
      have hsetn:(C1.set (A.n + 1) (.obj true (.loop { rec .ready none with state:=.busy }))).n=C1.n:=rfl
      generalize C1.set (A.n + 1) (.obj true (.loop { rec .ready none with state:=.busy }))=B1 at *
      have hIB:I i B1:=hI i C _ hIC v4.wf O fun b o hb hgb=>by
        rw [hset];exact hleC.get _ _ hgb
        rintro rfl
        rcases hb with hb | hb
        · omega
        · exact X hb
      have a8:∀ b,nY b4 B1 b->nY b4 C b:=fun b hb=>(hb.same (hset b4 nl)).same ac
      have hMs:cG b4 ⟨C.n,fun b=>if b=A.n + 1 then some (.obj true (.loop { rec .ready none with state:=.busy })) else if b=A.n then some (.obj true (.deferred (some []))) else M'.get b⟩ B1:=by
        refine ⟨⟨by show C.n<=B1.n;omega,fun b o hb=>?_⟩,fun b o hb=>?_,fun b hb=>?_⟩
        · simp only at hb
          split at hb
          · rename_i q;subst q;rw [hsetl];exact hb
          · rename_i q
            rw [hset b q]
            split at hb
            · rename_i q2;subst q2;rw [ab];exact hb
            · exact hleC.get _ _ (hMC.le.get b o hb)
        · simp only at hb
          split at hb
          · show b < C.n;omega
          · split at hb
            · show b < C.n;omega
            · exact hwfC b o (hMC.le.get b o hb)
        · have h6:=a8 b hb
          simp only
          rw [Xy (fun q:b=A.n + 1=>X (q ▸ h6)),Xy (fun q:b=A.n=>a0 (q ▸ h6))]
          exact hMC.ow b h6
      have hb:=hbody (FR (A.n + 1)) i B1 b6 _ (ry _) hi hIB v4.wf O hMs O (by rw [hset _ O];exact ap) (fun q=>by have:=owC _ (a8 _ q);omega) (by
        simp only
        rw [Xy O,Xy O]
        cases q:M'.get b6 with
        | none=>rfl
        | some o=>have:=hwfC _ _ (hMC.le.get _ _ q);omega)
      refine wpIn_mono (hb _ _ (de.le h1 hE) v4) ?_
      rintro x a2 w2 ⟨f2,A2,g1,g2,g3,g4,g5⟩
      cases x <;> (try exact g4.elim)
      obtain ⟨ag,az,V⟩:=g4
      have a7:A2.get (A.n + 1)=some (.obj true (.loop { rec .ready none with state:=.busy })):=V.le.get _ _ (Xw Z)
      have a6:A2.get A.n=some (.obj true (.deferred (some []))):=V.le.get _ _ (by simp [show ¬ A.n=A.n + 1 by omega])
      have a5:¬ nY b4 A2 (A.n + 1):=fun q=>by have:=V.ow _ q;simp only [if_true] at this;cases this
      have a9:¬ nY b4 A2 A.n:=fun q=>by have:=V.ow _ q;simp [show ¬ A.n=A.n + 1 by omega] at this
      obtain ⟨q3,_⟩:=g2.obj a7
      obtain ⟨v5,s5⟩:=m9 P (y:=.loop { ({ rec .ready none with state:=.busy }:Loop) with state:=.ready,pending:=none }) g2 a7 (fun _ _ _ q=>by cases q)
      refine ⟨_,_,run_endRound (P:=P) none q3,_,_,Z,v5,((h3.trans s4).trans g3).trans s5,Z,⟨?_,?_,?_,?_,?_⟩,v5.wf,?_⟩
      · exact hI (i + 1) A2 _ ag v5.wf (XX _) fun b o hb hgb=>by
          rw [AH.set_get_ne];exact hgb
          rintro rfl
          rcases hb with hb | hb
          · omega
          · exact a5 hb
      · rw [AH.set_get_same,hrec]
      · rw [AH.set_get_ne _ _ O];exact a6
      · exact fun q=>a5 (q.same (AH.set_get_ne _ _ nl))
      · exact fun q=>a9 (q.same (AH.set_get_ne _ _ nl))
      · refine ⟨⟨Xj hMC.le.n (by have:=V.le.n;exact this),fun b o hb=>?_⟩,hMC.wf,fun b hb=>?_⟩
        · by_cases q:b=A.n + 1
          · subst q
            have h6:=hMC.le.get _ _ hb
            rw [hgl'] at h6
            rw [AH.set_get_same,<- h6,hrec]
          · rw [AH.set_get_ne _ _ q]
            by_cases q2:b=A.n
            · subst q2;rw [a6,<- hMC.le.get _ _ hb,hgd']
            · exact V.le.get b o (by simp only;rw [Xy q,Xy q2];exact hb)
        · have h6:nY b4 A2 b:=hb.same (AH.set_get_ne _ _ nl)
          have h7:=V.ow b h6
          simp only at h7
          rw [Xy (fun q:b=A.n + 1=>a5 (q ▸ h6)),Xy (fun q:b=A.n=>a9 (q ▸ h6))] at h7
          exact h7
end
end V
open V
section
variable {α:Type} {f:α->List Value} {n:Nat} {z:α}
theorem sl (hf:∀ a,(f a).length=n) (l:List α):(l.flatMap f).length=l.length * n:=by
  induction l with
  | nil=>simp
  | cons a l ih=>rw [Sj,Xz,ih,hf,Xq,Rk];omega
theorem PK (hf:∀ a,(f a).length=n) (l:List α) (i:Nat):(l.flatMap f).drop (i * n)=(l.drop i).flatMap f:=by
  induction l generalizing i with
  | nil=>simp
  | cons a l ih =>
    cases i with
    | zero=>simp
    | succ i =>
      rw [Sj,show (i + 1) * n=(f a).length + i * n by rw [hf,Rk];omega,<- List.drop_drop,List.drop_left]
      exact ih i
theorem GW (hf:∀ a,(f a).length=n) {l:List α} {i:Nat} (h:i < l.length):((l.flatMap f).drop (i * n)).take n=f (l.getD i z):=by
  rw [PK hf,Tv h]
  have e:l.getD i z=l[i]:=by simp [h]
  rw [e,Sj]
  exact List.take_left' (hf _)
theorem Be (hf:∀ a,(f a).length=n) {l:List α} {i k:Nat} (h:i < l.length) (hk:k < n):(l.flatMap f)[i * n + k]? = (f (l.getD i z))[k]?:=by
  rw [<- GW hf h,SY hk,RY]
end
abbrev Wd:=W8
def zR (s:Wd × Wd):List Value:=[aM s.1,aM s.2]
def ir (l:List (Wd × Wd)):List Value:=l.flatMap zR
theorem dR (l:List (Wd × Wd)):(ir l).length=l.length * 2:=sl (f:=zR) (n:=2) (fun _=>rfl) l
theorem sL (l:List (Wd × Wd)):(ir l).length=l.length * 2:=dR l
theorem r5 (a b:List (Wd × Wd)):ir a ++ ir b=ir (a ++ b):=by simp [ir]
theorem Nz {l:List (Wd × Wd)} {i:Nat} (h:i < l.length):((ir l).drop (i * 2)).take 2=zR (l.getD i ([],[])):=GW (f:=zR) (n:=2) (fun _=>rfl) h
theorem zT {l:List (Wd × Wd)} {i:Nat} (h:i < l.length):(ir l)[i * 2 + 0]? = some (aM (l.getD i ([],[])).1):=Be (f:=zR) (n:=2) (fun _=>rfl) h U
theorem rD {l:List (Wd × Wd)} {i:Nat} (h:i < l.length):(ir l)[i * 2 + 1]? = some (aM (l.getD i ([],[])).2):=Be (f:=zR) (n:=2) (fun _=>rfl) h U
structure Sd where
  n:Int
  left:Wd
  right:Wd
def Sd.zero:Sd:=⟨0,[],[]⟩
def sd (s:Sd):List Value:=[num s.n,aM s.left,aM s.right]
def FB (l:List Sd):List Value:=l.flatMap sd
theorem jC (l:List Sd):(FB l).length=l.length * 3:=sl (f:=sd) (n:=3) (fun _=>rfl) l
theorem XE (l:List Sd):(FB l).length=l.length * 3:=jC l
theorem xU (a b:List Sd):FB a ++ FB b=FB (a ++ b):=by simp [FB]
theorem TF {l:List Sd} {i:Nat} (h:i < l.length):(FB l)[i * 3 + 1]? = some (aM (l.getD i .zero).left):=Be (f:=sd) (n:=3) (fun _=>rfl) h U
structure CP where
  i:Int
  j:Int
  word:Wd
  u:Wd
  v:Wd
deriving DecidableEq
def CP.zero:CP:=⟨0,0,[],[],[]⟩
def cp (c:CP):List Value:=[num c.i,num c.j,aM c.word,aM c.u,aM c.v]
abbrev Yo (c:CP):Value:=.agg #[num c.i,num c.j,aM c.word,aM c.u,aM c.v]
def GH (l:List CP):List Value:=l.flatMap cp
theorem pg (l:List CP):(GH l).length=l.length * 5:=sl (f:=cp) (n:=5) (fun _=>rfl) l
theorem Jx (l:List CP):(GH l).length=l.length * 5:=pg l
theorem GI (a b:List CP):GH a ++ GH b=GH (a ++ b):=by simp [GH]
theorem YL {l:List CP} {i:Nat} (h:i < l.length):((GH l).drop (i * 5)).take 5=cp (l.getD i .zero):=GW (f:=cp) (n:=5) (fun _=>rfl) h
def QM (x:Nat):Wd:=[bq.getD x 0,bq.getD (x ^^^ 1) 0]
def bF (g:Int) (rs:List aQ):List (Wd × Wd):=rs.map (fun r=>(r.left,r.right)) ++ (List.range (2 * g.toNat)).map fun x=>(QM x,[])
def nm (n i:Nat):Int:=if i < n then (i:Int) else -1 - ((i:Int) - (n:Int))
def p1 (u v:Wd) (k:Nat):Bool:=decide (1<=k) && decide (u.length - k < v.length) && decide (u.drop k=v.take (u.length - k))
def p2 (u v:Wd) (k:Nat):Bool:=decide (k + v.length<=u.length) && decide ((u.take (k + v.length)).drop k=v)
abbrev c1 (I J:Int) (a b:Wd × Wd) (k:Nat):CP:=⟨I,J,a.1 ++ b.1.drop (a.1.length - k),a.2 ++ b.1.drop (a.1.length - k),a.1.take k ++ b.2⟩
abbrev c2 (I J:Int) (a b:Wd × Wd) (k:Nat):CP:=⟨I,J,a.1,a.2,a.1.take k ++ b.2 ++ a.1.drop (k + b.1.length)⟩
def vv (I J:Int) (a b:Wd × Wd) (n:Nat):List CP:=((List.range n).filter (p1 a.1 b.1)).map (c1 I J a b)
def yC (I J:Int) (a b:Wd × Wd) (n:Nat):List CP:=((List.range n).filter (p2 a.1 b.1)).map (c2 I J a b)
def sc (I J:Int) (same:Bool) (a b:Wd × Wd):List CP:=vv I J a b a.1.length ++ if same then [] else yC I J a b (a.1.length + 1)
theorem I3 {rs:List aQ} {i:Nat} (h:i < rs.length):(rs.take i).map (fun r=>(r.left,r.right)) ++ [((rs.getD i .zero).left,(rs.getD i .zero).right)]=(rs.take (i + 1)).map (fun r=>(r.left,r.right)):=by
  have e:rs.getD i .zero=rs[i]:=by simp [h]
  rw [List.take_succ_eq_append_getElem h,VV,e];rfl
theorem rF {x:Nat} (h:x < 16):x ^^^ 1 < 16:=by
  have:∀ a:Fin 16,a.1 ^^^ 1 < 16:=by decide
  exact this ⟨x,h⟩
theorem QG {x:Nat} (h:x < 16):([dT 97,dT 65,dT 98,dT 66,dT 99,dT 67,dT 100,dT 68,dT 101,dT 69,dT 102,dT 70,dT 103,dT 71,dT 104,dT 72]:List Value)[0 + x * 1]? = some (dT (bq.getD x 0)):=by
  rw [Sq,VY]
  have:∀ a:Fin 16,([97,65,98,66,99,67,100,68,101,69,102,70,103,71,104,72]:W8)[a.1]? = some (bq.getD a.1 0):=by decide
  have h2:=Xk (Option.map dT) (this ⟨x,h⟩)
  rw [<- List.getElem?_map] at h2
  exact h2
section
variable {I J:Int} {a b:Wd × Wd} {n k:Nat} {same:Bool}
theorem xo:vv I J a b (n + 1)=if p1 a.1 b.1 n then vv I J a b n ++ [c1 I J a b n] else vv I J a b n:=by
  unfold vv
  rw [Ty,List.filter_append,VV]
  by_cases h:p1 a.1 b.1 n=true <;> simp [h]
theorem tm:yC I J a b (n + 1)=if p2 a.1 b.1 n then yC I J a b n ++ [c2 I J a b n] else yC I J a b n:=by
  unfold yC
  rw [Ty,List.filter_append,VV]
  by_cases h:p2 a.1 b.1 n=true <;> simp [h]
theorem Rf (h:n<=k):vv I J a b n <+: vv I J a b k:=by
  induction k with
  | zero => obtain rfl : n = 0 := by omega
            exact Tx _
  | succ k ih =>
    rcases VW k n with q | q
    · obtain rfl:n=k + 1:=by omega
      exact Tx _
    · refine (ih q).trans ?_
      rw [xo];split
      · exact SZ _ _
      · exact Tx _
theorem PU (h:n<=k):yC I J a b n <+: yC I J a b k:=by
  induction k with
  | zero => obtain rfl : n = 0 := by omega
            exact Tx _
  | succ k ih =>
    rcases VW k n with q | q
    · obtain rfl:n=k + 1:=by omega
      exact Tx _
    · refine (ih q).trans ?_
      rw [tm];split
      · exact SZ _ _
      · exact Tx _
theorem qM {α:Type} {p q l:List α} {x z:α} (h:p ++ [x] <+: l):p.length < l.length/\l.getD p.length z=x:=by
  obtain ⟨t,rfl⟩:=h
  simp
theorem VU (h1:1<=n) (hn:n < a.1.length) (h2:a.1.length - n < b.1.length) (h3:a.1.drop n=b.1.take (a.1.length - n)) :
    (vv I J a b n).length < (sc I J same a b).length/\(sc I J same a b).getD (vv I J a b n).length .zero=c1 I J a b n/\(vv I J a b (n + 1)).length=(vv I J a b n).length + 1:=by
  have hp:p1 a.1 b.1 n=true:=by simp [p1,h1,h2,h3]
  have e:vv I J a b (n + 1)=vv I J a b n ++ [c1 I J a b n]:=by rw [xo,Xw hp]
  have hq:vv I J a b n ++ [c1 I J a b n] <+: sc I J same a b:=e ▸ (Rf O).trans (SZ _ _)
  exact ⟨(qM (z:=CP.zero) (q:=[]) hq).1,(qM (q:=[]) hq).2,by rw [e];simp⟩
theorem Ir (h:¬ (1<=n/\a.1.length - n < b.1.length/\a.1.drop n=b.1.take (a.1.length - n))):(vv I J a b (n + 1)).length=(vv I J a b n).length:=by
  rw [xo,Xy]
  simp only [p1,XK,Vq]
  exact fun q=>h ⟨q.1.1,q.1.2,q.2⟩
theorem Vn (hs:same=false) (hn:n + b.1.length<=a.1.length) (h3:(a.1.take (n + b.1.length)).drop n=b.1) :
    (vv I J a b a.1.length).length + (yC I J a b n).length < (sc I J same a b).length/\(sc I J same a b).getD ((vv I J a b a.1.length).length + (yC I J a b n).length) .zero=c2 I J a b n/\(yC I J a b (n + 1)).length=(yC I J a b n).length + 1:=by
  have hp:p2 a.1 b.1 n=true:=by simp [p2,hn,h3]
  have e:yC I J a b (n + 1)=yC I J a b n ++ [c2 I J a b n]:=by rw [tm,Xw hp]
  have hq:(vv I J a b a.1.length ++ yC I J a b n) ++ [c2 I J a b n] <+: sc I J same a b:=by
    unfold sc
    rw [hs,Tk,<- e]
    exact (List.prefix_append_right_inj _).2 (PU O)
  have:=qM (z:=CP.zero) (q:=[]) hq
  rw [Xz] at this
  exact ⟨this.1,this.2,by rw [e];simp⟩
theorem Zc (h:¬ (a.1.take (n + b.1.length)).drop n=b.1):(yC I J a b (n + 1)).length=(yC I J a b n).length:=by
  rw [tm,Xy]
  simp only [p2,XK,Vq]
  exact fun q=>h q.2
theorem Vm (h:¬ n + b.1.length<=a.1.length) (hk:n<=k):yC I J a b k=yC I J a b n:=by
  induction k with
  | zero => obtain rfl : n = 0 := by omega
            rfl
  | succ k ih =>
    rcases VW k n with q | q
    · obtain rfl:n=k + 1:=by omega
      rfl
    · rw [tm,Xy,ih q]
      simp only [p2,XK,Vq]
      exact fun q=>by omega
theorem KI (hs:same=true):(sc I J same a b).length=(vv I J a b a.1.length).length:=by simp [sc,hs]
theorem OD (hs:same=false) (h:¬ n + b.1.length<=a.1.length) (hn:n<=a.1.length + 1):(sc I J same a b).length=(vv I J a b a.1.length).length + (yC I J a b n).length:=by
  rw [sc,hs,Xz,Xy (by simp),Vm h hn]
theorem Mp:(vv I J a b 1).length=0:=by
  rw [Ir O];rfl
end
def ren (I J:Int) (c:CP):CP:=⟨I,J,c.word,c.u,c.v⟩
abbrev kh (L:List (Wd × Wd)) (i j:Nat):List CP:=sc (i:Int) (j:Int) (decide (i=j)) (L.getD i ([],[])) (L.getD j ([],[]))
def Da (n:Nat) (L:List (Wd × Wd)) (i j:Nat):List CP:=if n<=i/\n<=j then [] else (kh L i j).map (ren (nm n i) (nm n j))
def MG (n:Nat) (L:List (Wd × Wd)) (i k:Nat):List CP:=(List.range k).flatMap (Da n L i)
def vH (n:Nat) (L:List (Wd × Wd)) (i j:Nat):List CP:=((List.range i).flatMap fun i=>MG n L i L.length) ++ MG n L i j
def sE (n:Nat) (L:List (Wd × Wd)):List CP:=(List.range L.length).flatMap fun i=>MG n L i L.length
def bn (g:Int) (rs:List aQ):List CP:=sE rs.length (bF g rs)
theorem iL (g:Int) (rs:List aQ):(bF g rs).length=rs.length + 2 * g.toNat:=by simp [bF]
theorem vh {g:Int} {rs:List aQ} (hg:1<=g/\g<=8) (hw:∀ r ∈ rs,0 < r.left.length/\r.left.length<=1000/\r.right.length<=1000):∀ s ∈ bF g rs,0 < s.1.length/\s.1.length<=100000/\s.2.length<=100000:=fun s hs=>by
  rcases VJ.1 hs with h | h
  · obtain ⟨r,hr,rfl⟩:=Vk.1 h
    have:=hw r hr
    exact ⟨this.1,by show r.left.length<=_;omega,by show r.right.length<=_;omega⟩
  · obtain ⟨x,hx,rfl⟩:=Vk.1 h
    exact ⟨Nat.zero_lt_succ _,by show (2:Nat)<=100000;omega,by show (0:Nat)<=100000;omega⟩
theorem Ei {bo:Nat} {A B N:AH} {v:Value} {cap:Nat} (r:cG bo N B) (gY:B.get bo=some (.row true [v] cap)) (gZ:A.get bo=some (.row true [v] cap)):∀ b,some b ∈ [some bo,blk v]->N.get b=none:=fun b hb=>by
  simp only [Vy,SQ,or_false,Option.some.injEq] at hb
  rcases hb with rfl | hb
  · exact r.ow _ (.inl Z)
  · exact r.ow _ (.inr ⟨_,_,gY,hb.symm⟩)
theorem fP {α:Type} {l:List α} {i:Nat} {z:α} (h:i < l.length):l.take i ++ [l.getD i z]=l.take (i + 1):=by
  have e:l.getD i z=l[i]:=by simp [h]
  rw [List.take_succ_eq_append_getElem h,e]
section
variable {n i j k:Nat} {L:List (Wd × Wd)}
theorem vO:vH n L i (j + 1)=vH n L i j ++ Da n L i j:=by simp [vH,MG,Ty]
theorem Gt:vH n L (i + 1) 0=vH n L i L.length:=by simp [vH,MG,Ty]
theorem Oa:vH n L L.length 0=sE n L:=by simp [vH,MG,sE]
theorem CQ (h:j<=k):vH n L i j <+: vH n L i k:=by
  induction k with
  | zero => obtain rfl : j = 0 := by omega
            exact Tx _
  | succ k ih =>
    rcases VW k j with q | q
    · obtain rfl:j=k + 1:=by omega
      exact Tx _
    · rw [vO];exact (ih q).trans (SZ _ _)
theorem Ob (h:i<=k):vH n L i 0 <+: vH n L k 0:=by
  induction k with
  | zero => obtain rfl : i = 0 := by omega
            exact Tx _
  | succ k ih =>
    rcases VW k i with q | q
    · obtain rfl:i=k + 1:=by omega
      exact Tx _
    · rw [Gt];exact (ih q).trans (CQ (XZ _))
theorem KB (hi:i < L.length) (hj:j<=L.length):vH n L i j <+: sE n L:=by
  rw [<- Oa]
  refine (CQ hj).trans ?_
  rw [<- Gt]
  exact Ob hi
theorem Uy (h:n<=i/\n<=j):(vH n L i (j + 1)).length=(vH n L i j).length:=by rw [vO,Da,Xw h,Qj]
theorem YE (h:¬ (n<=i/\n<=j)):(vH n L i (j + 1)).length=(vH n L i j).length + (kh L i j).length:=by
  rw [vO,Da,Xy h,Xz,Tq]
theorem YD (hi:i < L.length) (hj:j < L.length) (h:¬ (n<=i/\n<=j)) (hk:k < (kh L i j).length) :
    (vH n L i j).length + k < (sE n L).length/\(sE n L).getD ((vH n L i j).length + k) .zero=ren (nm n i) (nm n j) ((kh L i j).getD k .zero):=by
  obtain ⟨t,ht⟩:=KB (n:=n) (j:=j + 1) hi hj
  rw [vO,Da,Xy h] at ht
  rw [<- ht]
  refine ⟨by simp only [Xz,Tq];omega,?_⟩
  rw [Tk]
  simp only [XJ]
  rw [TV O,Nat.add_sub_cancel_left,Sx (by simpa using hk),List.getElem?_map,SW hk]
  rfl
end
set_option maxRecDepth 100000
theorem yO:dM prog 121=some false:=by kernel_rfl
theorem PY:prog.info? 123=some Tryz.t123:=by kernel_rfl
theorem Iz:dk prog 47=some [(0,1),(1,1),(2,1),(3,1),(4,1)]:=by kernel_rfl
theorem oU:dy prog 123=some 2:=by kernel_rfl
theorem rL:type_of% @underlying121:=@underlying121
theorem CE:type_of% @underlying123:=@underlying123
theorem Z7:type_of% @underlying47:=@underlying47
theorem Jm:cE prog 123=some (.agg #[.string ⟨⟨[]⟩⟩,.string ⟨⟨[]⟩⟩]):=by kernel_rfl
theorem Gh:cE prog 47=some (.agg #[.int .i64 0,.int .i64 0,.string ⟨⟨[]⟩⟩,.string ⟨⟨[]⟩⟩,.string ⟨⟨[]⟩⟩]):=by kernel_rfl
theorem Fg (x:Nat) (A:AH) (hL:iB A) (hx:x < 16):bH prog 114 #[num ((x:Nat):Int)] A (fun v A1=>v=dT (bq.getD x 0)/\A=A1):=by
 refine aN (e:=[(0,num ((x:Nat):Int))]) (args:=[num ((x:Nat):Int)]) call114 func114 Z results114 ntmps114 Z Z Z (fun wf=>?_);have a0:=AH.le.refl A;obtain ⟨rwL,capL,gL⟩:=hL;refine ak.sq fun h2=>.region<|.I Z<|.nil<|h2<|.sq fun h4=>.sq fun h6=>.region<|.J Z<|.p (bK (b:=0) Z Z) ?_;refine Ops.J Z<|.part (t:=5) Z (fun p7=>?_) (fun p7=>?_)
 ·refine Ops.off Z Z Z Z<|.off Z Z Z Z<|.p (aJ Z Z)<|.nil<|h6<|.cond_true Z<|.sq fun h9=>.region<|.I Z<|.nil ?_;refine h9<|.rt (by exact aH Z (⟨by (exfalso;omega),Z⟩))
 refine Ops.on Z Z<|.J Z<|.on Z Z<|.p (tK (b:=16) Z Z)<|.p (aO Z Z)<|.nil<|h6<|.if rfl (fun X=>?_) (fun X=>?_)
 ·refine ak.sq fun h=>.region<|.I Z<|.nil<|h<|.rt (by exact aH Z (⟨by (exfalso;omega),Z⟩))
 refine ak.skip<|h4<|.sq fun V=>.region<|.J Z<|.p (jt u172 lQ Z Z O)<|.p (ah OA Z Z gL (QG hx))<|.I Z<|.nil<|V ?_;refine ak.ret ?_;repeat first | with_reducible refine cz ?_ | with_reducible refine cj ?_
 exact aH Z (⟨by rfl,Z⟩)
theorem Kn (g:Int) (u:Value) (l:List W8) (rv:Value) (rs:List aQ) (A:AH) (hg:1<=g/\g<=8) (hn:rs.length<=1000000) (hL:iB A) (hu:bz A 1 u (dB l)) (hr:bz A 3 rv (dh rs)) (hp:Proofs A rs):bH prog 76 #[.agg #[num (g),u,rv]] A (fun v A1=>A.le A1/\A1.wf/\Fresh A A1 v 2 (ir (bF g rs))):=by
 refine aN (e:=[(0,.agg #[num (g),u,rv])]) (args:=[.agg #[num (g),u,rv]]) call76 func76 Z results76 ntmps76 Z Z Z (fun wf=>?_);have bD:=AH.le.refl A;obtain ⟨gn,rfl⟩:∃ n:Nat,g=n:=⟨g.toNat,by omega⟩;refine ak.sq fun h2=>.region<|.m (fun bB=>dQ wf rfl rfl fun A5 b4 ap=>?_);have aC:=bD.trans ap.le;refine bB<|.I Z<|.nil<|h2<|.sq fun h9=>.region<|.I Z<|.nil<|h9<|.sq fun b8=>?_;refine ak.sq fun b9=>.region<|.p (ae dU ja U Z)<|.p (ah jj Z Z ap.get Z)<|.p (bx (n:=rs.length) o6 Z (hr.le aC) O (dt _))<|.J Z<|.nil<|b9<|.block<|.loop (X:=Nat × List (Wd × Wd) × Value) (fun ⟨i,o,s⟩=>[(1,.pointer (some ⟨b4,0,none⟩)),(3,s),(8,rv),(9,num ((rs.length:Nat):Int)),(10,num ((i:Nat):Int))]) (fun ⟨i,o,s⟩ B=>(i<=rs.length/\o=(rs.take i).map (fun r=>(r.left,r.right)))/\A.le B/\Fresh A B s 2 (ir o)/\B.get b4=some (.row true [num ((gn:Nat):Int),u,rv] 3)/\V.blk s ≠ some b4) (fun ⟨i,o,s⟩=>rs.length - i) (⟨0,[],.slice none 0 0⟩) (nR Z Z Z Z Z) (⟨⟨XZ _,by simp⟩,aC,(Fresh.nil A A5 2),ap.get,(fun q=>by cases q)⟩) ?_;rintro ⟨i,o,s⟩ B15 ⟨⟨hi,ho⟩,a7,a4,a2,a3⟩;refine ak.wf fun ac=>?_;have hlo:o.length=i:=by rw [ho];simp;omega
 refine ak.sq fun ba=>.region<|.p (bK Z Z)<|.nil<|ba<|.sq fun bb=>.if rfl (fun bL=>?_) (fun bL=>?_)
 ·refine ak.skip<|bb<|.sq fun bc=>.block<|.sq fun bd=>.region ?_;obtain ⟨bT,c3,bS,cc,bR,c7,c4,b6,bC,b7,aD,bP⟩:=bz.at (i:=i) (hr.le a7) Ow O;refine Ops.p (al o6 iW Z b6 Z bC)<|.p (ao wB iW Z Z b7 (aD.trans (Xk some (ju O))))<|.m (fun aP=>co ac NX rfl fun A29 bU a0=>?_);refine aP<|.m (fun aR=>aU (cs:=[aM ((rs.getD i .zero).left),aM ((rs.getD i .zero).right),(rs.getD i .zero).pv]) (c':=[aM ((rs.getD i .zero).left),aM ((rs.getD i .zero).right),(rs.getD i .zero).pv]) a0.wf rfl rfl rfl rfl iW a0.get G (lr (hp.get O)) rfl fun A36 a1=>?_);have aF:=(a4.le a0.le).keep a1.keep (a4.own.ne_new ac a0.lo);refine aR<|.nil<|bd<|.region<|.J Z<|.p (ae gk fK U Z)<|.p (ah gK Z Z a1.get Z)<|.p (ae kx fK U Z)<|.p (ah gK Z Z a1.get Z)<|.p (dn Z (pb CE Jm fK Z)) ?_;refine Ops.m (fun aS=>aE (c:=[aM ((rs.getD i .zero).left),aM ((rs.getD i .zero).right)]) a1.wf rfl (aq rL oU Jm rfl U U rfl) fun A43 bV a5=>?_);have aB:=a5.le.g (a1.k (ne_new ac a2 a0.lo) (a0.le.g a2));have ai:=aF.le a5.le;refine aS<|.m (fun aT=>cm (ys:=[aM ((rs.getD i .zero).left),aM ((rs.getD i .zero).right)]) rfl rfl rL oU PY Jm rfl U rL (fun _ h=>by cases h) ai.own (bG (n:=1) a5.get Z) rfl rfl (by show (_ + _) * 32<=_;simp only [dR,Xq,Xx];(try simp only [Xz,Xq,Xx]);omega) (by simp only [dR,Xq,Xx];(try simp only [Xz,Xq,Xx]);omega) fun A51 bO a6=>?_);rw [show ([aM ((rs.getD i .zero).left),aM ((rs.getD i .zero).right)]:List Value)=ir [((rs.getD i .zero).left,(rs.getD i .zero).right)] from rfl,r5] at a6;obtain ⟨aG,b2⟩:=Fresh.grow ai ((an (a7.trans a0.le) wf (bh wf (Xj a7.n a0.lo)) a1.n a1.keep).trans a5.le) wf a6;have bl:=a6.keep a3 aB;have b3:=a6.ne a3 a5.wf aB;refine aT<|.I Z<|.nil<|bc<|.region<|.p (bk (b:=1) Z Z O)<|.J Z<|.nil ?_;exact ⟨⟨i + 1,o ++ [((rs.getD i .zero).left,(rs.getD i .zero).right)],bO⟩,nR Z Z Z Z Z,Z,⟨⟨by omega,by rw [ho];exact I3 O⟩,b2,aG,bl,b3⟩,O1⟩
 refine ak.exit<|b8<|.sq fun bm=>.sq fun bp=>.region<|.p (ae gy iw U Z)<|.p (ae gj cl U Z)<|.p (ah dK Z Z a2 Z)<|.p (oE (a:=2) Z Z O)<|.J Z ?_;refine Ops.nil<|bp<|.block<|.loop (X:=Nat × List (Wd × Wd) × Value) (fun ⟨x,o,s⟩=>[(3,s),(26,num ((2 * gn:Nat):Int)),(27,num ((x:Nat):Int))]) (fun ⟨x,o,s⟩ B=>(x<=2 * gn/\o=rs.map (fun r=>(r.left,r.right)) ++ (List.range x).map (fun x=>(QM x,[])))/\A.le B/\Fresh A B s 2 (ir o)) (fun ⟨x,o,s⟩=>2 * gn - x) (⟨0,rs.map (fun r=>(r.left,r.right)),s⟩) (jh Z Z Z) (⟨⟨XZ _,by simp⟩,a7,(ci a4 (Xk ir ((by rw [ho,Vw O]))))⟩) ?_;rintro ⟨x,o,s⟩ B67 ⟨⟨hx,ho⟩,a8,aa⟩;refine ak.wf fun ar=>?_;have hlo:o.length=rs.length + x:=by rw [ho];simp
 refine ak.sq fun br=>.region<|.p (bK Z Z)<|.nil<|br<|.sq fun bu=>.if rfl (fun bM=>?_) (fun bM=>?_)
 ·refine ak.skip<|bu<|.sq fun bv=>.block<|.sq fun bA=>.region<|.J Z<|.I Z<|.nil<|bA ?_;refine ak.region<|.J Z<|.J Z<|.m (fun aV=>ax Z (Fg x B67 (hL.le a8) O) ?_);rintro ch A80 ⟨rfl,rfl⟩;refine aV<|.J Z<|.p (qxor1 Z Z O)<|.m (fun aY=>ax Z (Fg (x ^^^ 1) B67 (hL.le a8) (by exact rF O)) ?_);rintro ck A84 ⟨rfl,rfl⟩;refine aY<|.m (fun aZ=>aE (c:=[dT (bq.getD x 0),dT (bq.getD (x ^^^ 1) 0)]) ar rfl (aq db lQ z5 rfl U U rfl) fun A88 bY a9=>?_);refine aZ<|.m (fun b0=>fb (s:=[bq.getD x 0,bq.getD (x ^^^ 1) 0]) Z db u9 u5 (fg (n:=2) a9.get Z (XX _)) ?_);refine b0<|.p (dn Z (pb CE Jm fK Z))<|.m (fun b1=>aE (c:=[aM ([bq.getD x 0,bq.getD (x ^^^ 1) 0]),aM ([])]) a9.wf rfl (aq rL oU Jm rfl U U rfl) fun A96 c0 ab=>?_);have ag:=(aa.le a9.le).le ab.le;have az:=(a8.trans a9.le).trans ab.le;refine b1<|.m (fun ay=>cm (ys:=[aM ([bq.getD x 0,bq.getD (x ^^^ 1) 0]),aM ([])]) rfl rfl rL oU PY Jm rfl U rL (fun _ h=>by cases h) ag.own (bG (n:=1) ab.get Z) rfl rfl (by show (_ + _) * 32<=_;simp only [dR,Xq,Xx];(try simp only [Xz,Xq,Xx]);omega) (by simp only [dR,Xq,Xx];(try simp only [Xz,Xq,Xx]);omega) fun A103 b5 ad=>?_);rw [show ([aM ([bq.getD x 0,bq.getD (x ^^^ 1) 0]),aM ([])]:List Value)=ir [([bq.getD x 0,bq.getD (x ^^^ 1) 0],[])] from rfl,r5] at ad;obtain ⟨av,aA⟩:=Fresh.grow ag az wf ad;refine ay<|.I Z<|.nil<|bv<|.region<|.p (bk (b:=1) Z Z O)<|.J Z<|.nil ?_;exact ⟨⟨x + 1,o ++ [([bq.getD x 0,bq.getD (x ^^^ 1) 0],[])],b5⟩,jh Z Z Z,Z,⟨⟨by omega,by rw [ho,Ty,VV,Tk];rfl⟩,aA,(ci av (Xk ir ((by rfl))))⟩,O1⟩
 refine ak.exit<|bm<|.sq fun aI=>.region<|.J Z<|.I Z<|.nil<|aI<|.rt (by exact aH Z (⟨a8,ar,ci aa (Xk ir (by rw [ho,show x=2 * gn by omega];rfl))⟩))
theorem Ki (g:Int) (u:Value) (l:List W8) (rv:Value) (rs:List aQ) (i:Nat) (A:AH) (hi:i<=1000000000) (hn:rs.length<=1000000) (hu:bz A 1 u (dB l)) (hr:bz A 3 rv (dh rs)):bH prog 166 #[.agg #[num (g),u,rv],num ((i:Nat):Int)] A (fun v A1=>v=num (nm rs.length i)/\A.le A1/\A1.wf):=by
 refine aN (e:=[(0,.agg #[num (g),u,rv]),(1,num ((i:Nat):Int))]) (args:=[.agg #[num (g),u,rv],num ((i:Nat):Int)]) call166 func166 Z results166 ntmps166 Z Z Z (fun wf=>?_);have a3:=AH.le.refl A;refine ak.sq fun h2=>.region<|.m (fun a2=>dQ wf rfl rfl fun A5 b4 h=>?_);have V:=a3.trans h.le;refine a2<|.I Z<|.nil<|h2<|.sq fun h9=>.sq fun X=>.region<|.J Z<|.p (ae dU ja U Z)<|.p (ah jj Z Z h.get Z) ?_;refine Ops.p (bx (n:=rs.length) o6 Z (hr.le V) O (dt _))<|.p (bK Z Z)<|.nil<|X<|.if rfl (fun a4=>?_) (fun a4=>?_)
 ·refine ak.sq fun a0=>.region<|.J Z<|.I Z<|.nil<|a0<|.rt (by exact aH Z (⟨by (rw [nm,Xw ‹_›];rfl),V,h.wf⟩))
 refine ak.skip<|h9<|.sq fun a1=>.region<|.J Z<|.p (ae dU ja U Z)<|.p (ah jj Z Z h.get Z)<|.p (bx (n:=rs.length) o6 Z (hr.le V) O (dt _))<|.p (tL Z Z O)<|.p (tL Z Z O) ?_;refine Ops.I Z<|.nil<|a1<|.rt (by exact aH Z (⟨by (rw [nm,Xy ‹_›];rfl),V,h.wf⟩))
theorem MW (lv:Value) (S:List (Wd × Wd)) (i j:Nat) (A:AH) (hs:bz A 2 lv (ir S)):bH prog 165 #[lv,num ((i:Nat):Int),num ((j:Nat):Int)] A (fun v A1=>∃ b1 b2 b3,v=.func (.func 192) #[] #[.pointer (some ⟨b1,0,none⟩),.pointer (some ⟨b2,0,none⟩),.pointer (some ⟨b3,0,none⟩)]/\A.le A1/\A1.wf/\A1.get b1=some (.row true [lv] 1)/\A1.get b2=some (.row true [num (i:Int)] 1)/\A1.get b3=some (.row true [num (j:Int)] 1)/\A.n<=b1/\A.n<=b2/\A.n<=b3):=by
 refine aN (e:=[(0,lv),(1,num ((i:Nat):Int)),(2,num ((j:Nat):Int))]) (args:=[lv,num ((i:Nat):Int),num ((j:Nat):Int)]) call165 func165 Z results165 ntmps165 Z Z Z (fun wf=>?_);have a1:=AH.le.refl A;refine ak.sq fun h2=>.region ?_;obtain ⟨p7,l7,c7,q7,_⟩:=(hs.le a1);subst q7;refine Ops.m (fun aa=>dQ wf rfl rfl fun A5 b4 X=>?_);have a4:=Xj a1.n X.lo;have a5:=a1.trans X.le;refine aa<|.m (fun ab=>dQ X.wf rfl rfl fun A11 a7 V=>?_);have a2:=Xj a5.n V.lo;have a0:=a5.trans V.le;refine ab<|.m (fun a6=>dQ V.wf rfl rfl fun A17 a8 h=>?_);have a3:=Xj a0.n h.lo;refine a6<|.I Z<|.nil<|h2<|.sq fun a9=>.region<|.p (nu Z Z)<|.I Z<|.nil<|a9 ?_;refine ak.ret ?_;repeat first | with_reducible refine cz ?_ | with_reducible refine cj ?_
 exact aH Z (⟨b4,a7,a8,Z,(a0.trans h.le),h.wf,(h.le.g (V.le.g X.get)),(h.le.g V.get),h.get,a4,a2,a3⟩)
theorem IU (bo lp:Nat) (J:Nat->AH->Prop) (i j:Nat) (S:List (Wd × Wd)) (lv:Value) (M A:AH) (ba bb bc k1 k2 k3:Nat) (w1 w2 w3:Bool) (hP:cG bo M A) (br:J 0 A) (a1:M.get ba=some (.row w1 [lv] k1)) (a2:M.get bb=some (.row w2 [num (i:Int)] k2)) (a3:M.get bc=some (.row w3 [num (j:Int)] k3)) (hs:bz M 2 lv (ir S)) (hi:i < S.length) (hj:j < S.length) (hne:∀ s ∈ S,0 < s.1.length/\s.1.length<=100000/\s.2.length<=100000) (hy:∀ k C M2,k < (sc (i:Int) (j:Int) (decide (i=j)) (S.getD i ([],[])) (S.getD j ([],[]))).length->C.wf->J k C->cG bo M2 C->mN prog lp #[Yo ((sc (i:Int) (j:Int) (decide (i=j)) (S.getD i ([],[])) (S.getD j ([],[]))).getD k .zero)] C (fun v C2=>v=.bool true/\J (k + 1) C2/\C2.wf/\cG bo M2 C2)):bH prog 192 #[.func (.yield lp) #[] #[],.pointer (some ⟨ba,0,none⟩),.pointer (some ⟨bb,0,none⟩),.pointer (some ⟨bc,0,none⟩)] A (fun v A1=>J (sc (i:Int) (j:Int) (decide (i=j)) (S.getD i ([],[])) (S.getD j ([],[]))).length A1/\A1.wf/\cG bo M A1):=by
 refine aN (e:=[(0,.func (.yield lp) #[] #[]),(1,.pointer (some ⟨ba,0,none⟩)),(2,.pointer (some ⟨bb,0,none⟩)),(3,.pointer (some ⟨bc,0,none⟩))]) (args:=[.func (.yield lp) #[] #[],.pointer (some ⟨ba,0,none⟩),.pointer (some ⟨bb,0,none⟩),.pointer (some ⟨bc,0,none⟩)]) call192 func192 Z results192 ntmps192 Z Z Z (fun wf=>?_);have a0:=hP.le;have d1:=hne _ (aX (d:=(([],[]):Wd × Wd)) hi);have d2:=hne _ (aX (d:=(([],[]):Wd × Wd)) hj);refine ak.sq fun h2=>.drawn [0,1,2,3,4,5,6,7,8,9,10,11] mixed Y Y Z<|.p Z (ah yO Z Z (a0.g a1) Z)<|.p Z (ah dK Z Z (a0.g a2) Z) ?_;obtain ⟨b3,f3,dW,r3,dS,n3,k3,e3,l3,g3,cS,aR⟩:=bz.at (i:=i) (hs.le a0) OP O;refine DOps.p Z (al rL oU Z e3 Z l3)<|.p Z (jt (i:=0) CE fK Z Z U)<|.p Z (ah gK Z Z g3 ((aR 0 U).trans (zT O)))<|.p Z (ah yO Z Z (a0.g a1) Z)<|.p Z (ah dK Z Z (a0.g a3) Z) ?_;obtain ⟨b4,f4,dZ,r4,dV,n4,k4,e4,l4,g4,cT,aS⟩:=bz.at (i:=j) (hs.le a0) OP O;refine DOps.p Z (al rL oU Z e4 Z l4)<|.p Z (jt (i:=0) CE fK Z Z U)<|.p Z (ah gK Z Z g4 ((aS 0 U).trans (zT O)))<|.p Z (d7 Z)<|.p Z (d7 Z)<|.done<|h2<|.sq fun h6=>.sq fun h8=>.region ?_;refine Ops.I Z<|.nil<|h8<|.block<|.loop (X:=Nat) (fun k=>[(0,.func (.yield lp) #[] #[]),(1,.pointer (some ⟨ba,0,none⟩)),(2,.pointer (some ⟨bb,0,none⟩)),(3,.pointer (some ⟨bc,0,none⟩)),(5,aM ((S.getD i ([],[])).1)),(6,aM ((S.getD j ([],[])).1)),(7,num ((k:Nat):Int))]) (fun k B=>(1<=k/\k<=(S.getD i ([],[])).1.length)/\M.le B/\(J (vv (i:Int) (j:Int) (S.getD i ([],[])) (S.getD j ([],[])) k).length B/\cG bo M B)) (fun k=>(S.getD i ([],[])).1.length - k) 1 (ym Z Z Z Z Z Z Z) (⟨⟨XX _,by omega⟩,a0,⟨(by rw [Mp];exact br),hP⟩⟩) ?_;rintro k B10 ⟨⟨bu,ai⟩,V,hJk,hPk⟩;refine ak.wf fun aP=>.sq fun b6=>.sq fun b7=>.region<|.J Z<|.J Z<|.p (cM u9 Z)<|.p (bK Z Z)<|.nil<|b7 ?_;refine ak.if rfl (fun bD=>?_) (fun bD=>?_)
 ·refine ak.skip<|b6<|.sq fun a5=>.block<|.sq fun b8=>.region<|.J Z<|.p (cM u9 Z)<|.J Z<|.p (iO Z Z O) ?_;refine Ops.I Z<|.nil<|b8<|.sq fun ac=>.drawn [0,1,2,3,4,5,6,7,8,9,10,11,12] mixed Y Y Z<|.p Z (aK Z)<|.p Z (aK Z)<|.p Z (cM u9 Z)<|.p Z (bK Z Z)<|.p Z (aK Z) ?_;refine DOps.part (t:=34) Z (fun bL=>?_) (fun bL=>?_)
  ·refine DOps.qOn Z Z Z Z Z (aK Z)<|.qOn Z Z Z Z Z (aK Z)<|.qOn Z Z Z Z Z (zB u9 Z Z O)<|.qOn Z Z Z Z Z (aK Z)<|.qOn Z Z Z Z Z (aK Z)<|.qOn Z Z Z Z Z (EH u9 Z Z O)<|.qOn Z Z Z Z Z (nw Z Z)<|.p Z (aJ Z Z)<|.done<|ac ?_;refine ak.if rfl (fun bM=>?_) (fun bM=>?_)
   ·refine ak.sq fun b9=>?_;have aa:=VU (I:=i) (J:=j) (same:=decide (i=j)) (a:=(S.getD i ([],[]))) (b:=(S.getD j ([],[]))) (n:=k) O O O ‹_›;have a8:=hy _ B10 M aa.1 aP hJk hPk;rw [aa.2.1] at a8;refine ak.drawnYield [0,1,2,3,4,5,6,7,8,9,10,11,12,13,14,15,16,17,18,19,20,21,22,23,24,25,26,27,28] 27 28 rfl Z Z Z Y Y Z mixed Y Y Z (a8)<|.p Z (aK Z)<|.p Z (ah dK Z Z (V.g a2) Z)<|.p Z (ah dK Z Z (V.g a3) Z)<|.p Z (aK Z)<|.p Z (aK Z)<|.p Z (aK Z)<|.p Z (zB u9 Z Z O)<|.p Z (rU Z Z OK)<|.p Z (ah yO Z Z (V.g a1) Z) ?_;refine DOps.p Z (ah dK Z Z (V.g a2) Z) ?_;obtain ⟨cC,cV,c7,dG,bY,dv,d3,aT,bv,b0,bS,ap⟩:=bz.at (i:=i) (hs.le V) OP O;refine DOps.p Z (al rL oU Z aT Z bv)<|.p Z (jt (i:=1) CE fK Z Z U)<|.p Z (ah gK Z Z b0 ((ap 1 U).trans (rD O)))<|.p Z (aK Z)<|.p Z (aK Z)<|.p Z (zB u9 Z Z O)<|.p Z (rU Z Z OK)<|.p Z (aK Z)<|.p Z (aK Z)<|.p Z (EH u9 Z Z O) ?_;refine DOps.p Z (ah yO Z Z (V.g a1) Z)<|.p Z (ah dK Z Z (V.g a3) Z) ?_;obtain ⟨cH,cX,cc,dI,c0,dw,dd,aV,bA,b1,bT,ar⟩:=bz.at (i:=j) (hs.le V) OP O;refine DOps.p Z (al rL oU Z aV Z bA)<|.p Z (jt (i:=1) CE fK Z Z U)<|.p Z (ah gK Z Z b1 ((ar 1 U).trans (rD O)))<|.p Z (rU Z Z OK)<|.p Z (dn Z (bE Z7 Gh Iz Z))<|.p Z (aK Z)<|.p Z (aK Z)<|.done ?_;refine ⟨rfl,rfl,rfl,rfl,fun e0 A30 aG=>?_⟩;obtain ⟨az,aB,ct,a6⟩:=aG;refine ⟨az,?_⟩;have aD:J (vv (i:Int) (j:Int) (S.getD i ([],[])) (S.getD j ([],[])) (k + 1)).length A30:=by rw [aa.2.2];exact aB
    refine b9<|.cond_false Z<|.skip<|a5<|.region<|.J Z<|.p (bk (b:=1) Z Z O)<|.I Z<|.nil ?_;exact ⟨k + 1,ym Z Z Z Z Z Z Z,Z,⟨⟨by omega,by omega⟩,a6.le,⟨aD,a6⟩⟩,O1⟩
   refine ak.skip<|a5<|.region<|.J Z<|.p (bk (b:=1) Z Z O)<|.I Z<|.nil ?_;exact ⟨k + 1,ym Z Z Z Z Z Z Z,Z,⟨⟨by omega,by omega⟩,V,⟨(by rw [Ir (fun q=>by exact absurd q.2.2 ‹_›)];exact hJk),hPk⟩⟩,O1⟩
  refine DOps.qOff Z Z Z Z Z Z<|.qOff Z Z Z Z Z Z<|.qOff Z Z Z Z Z Z<|.qOff Z Z Z Z Z Z<|.qOff Z Z Z Z Z Z<|.qOff Z Z Z Z Z Z<|.qOff Z Z Z Z Z Z<|.p Z (aO Z Z)<|.done<|ac ?_;refine ak.cond_false Z<|.skip<|a5<|.region<|.J Z<|.p (bk (b:=1) Z Z O)<|.I Z<|.nil ?_;exact ⟨k + 1,ym Z Z Z Z Z Z Z,Z,⟨⟨by omega,by omega⟩,V,⟨(by rw [Ir (fun q=>by exact absurd q.2.1 ‹_›)];exact hJk),hPk⟩⟩,O1⟩
 refine ak.exit<|h6<|.sq fun bd=>.region<|.I Z<|.nil<|bd<|.block<|.loop (X:=Nat) (fun k=>[(0,.func (.yield lp) #[] #[]),(1,.pointer (some ⟨ba,0,none⟩)),(2,.pointer (some ⟨bb,0,none⟩)),(3,.pointer (some ⟨bc,0,none⟩)),(5,aM ((S.getD i ([],[])).1)),(6,aM ((S.getD j ([],[])).1)),(9,num ((k:Nat):Int))]) (fun k B=>(k<=(S.getD i ([],[])).1.length + 1/\(i=j->k=0))/\M.le B/\(J ((vv (i:Int) (j:Int) (S.getD i ([],[])) (S.getD j ([],[])) (S.getD i ([],[])).1.length).length + (yC (i:Int) (j:Int) (S.getD i ([],[])) (S.getD j ([],[])) k).length) B/\cG bo M B)) (fun k=>(S.getD i ([],[])).1.length + 1 - k) 0 (ym Z Z Z Z Z Z Z) (⟨⟨XZ _,fun _=>rfl⟩,V,⟨(by rw [show k=(S.getD i ([],[])).1.length by omega] at hJk;exact hJk),hPk⟩⟩) ?_;rintro k B38 ⟨⟨bu,ai⟩,h,hJk,hPk⟩;refine ak.wf fun a4=>.sq fun bl=>.sq fun ad=>.region<|.p (ah dK Z Z (h.g a2) Z)<|.p (ah dK Z Z (h.g a3) Z)<|.p (fy Z Z)<|.J Z<|.part (t:=75) Z (fun bO=>?_) (fun bO=>?_)
 ·refine Ops.on Z Z<|.J Z<|.on Z Z<|.J Z<|.on Z Z<|.p (cM u9 Z)<|.on Z Z<|.p (bk Z Z O)<|.on Z Z<|.J Z ?_;refine Ops.on Z Z<|.p (cM u9 Z)<|.on Z Z<|.p (oD Z Z)<|.p (aJ Z Z)<|.nil<|ad<|.if rfl (fun bP=>?_) (fun bP=>?_)
  ·refine ak.skip<|bl<|.sq fun ag=>.block<|.sq fun bm=>.region<|.J Z<|.J Z<|.J Z<|.J Z ?_;refine Ops.p (cM u9 Z)<|.p (bk Z Z O)<|.p (qsl u9 Z Z Z O)<|.J Z<|.p (nw Z Z)<|.nil<|bm<|.if rfl (fun bR=>?_) (fun bR=>?_)
   ·refine ak.sq fun bp=>?_;have ab:=Vn (I:=i) (J:=j) (same:=decide (i=j)) (a:=(S.getD i ([],[]))) (b:=(S.getD j ([],[]))) (n:=k) (Xv ‹_›) O ‹_›;have a9:=hy _ B38 M ab.1 a4 hJk hPk;rw [ab.2.1] at a9;refine ak.drawnYield [0,1,2,3,4,5,6,7,8,9,10,11,12,13,14,15,16,17,18,19,20,21,22,23,24,25,26,27] 26 27 rfl Z Z Z Y Y Z mixed Y Y Z (a9)<|.p Z (aK Z)<|.p Z (ah dK Z Z (h.g a2) Z)<|.p Z (ah dK Z Z (h.g a3) Z)<|.p Z (aK Z)<|.p Z (ah yO Z Z (h.g a1) Z)<|.p Z (ah dK Z Z (h.g a2) Z) ?_;obtain ⟨cK,cZ,ch,dJ,c3,dz,di,aY,bB,b2,bU,av⟩:=bz.at (i:=i) (hs.le h) OP O;refine DOps.p Z (al rL oU Z aY Z bB)<|.p Z (jt (i:=1) CE fK Z Z U)<|.p Z (ah gK Z Z b2 ((av 1 U).trans (rD O)))<|.p Z (aK Z)<|.p Z (aK Z)<|.p Z (EH u9 Z Z O)<|.p Z (ah yO Z Z (h.g a1) Z)<|.p Z (ah dK Z Z (h.g a3) Z) ?_;obtain ⟨cP,d0,ck,dO,c4,dD,dj,aZ,bC,b5,bV,ay⟩:=bz.at (i:=j) (hs.le h) OP O;refine DOps.p Z (al rL oU Z aZ Z bC)<|.p Z (jt (i:=1) CE fK Z Z U)<|.p Z (ah gK Z Z b5 ((ay 1 U).trans (rD O)))<|.p Z (rU Z Z OK)<|.p Z (aK Z)<|.p Z (aK Z)<|.p Z (aK Z)<|.p Z (cM u9 Z)<|.p Z (bk Z Z O)<|.p Z (zB u9 Z Z O) ?_;refine DOps.p Z (rU Z Z OK)<|.p Z (dn Z (bE Z7 Gh Iz Z))<|.p Z (aK Z)<|.p Z (aK Z)<|.done ?_;refine ⟨rfl,rfl,rfl,rfl,fun e1 A56 aI=>?_⟩;obtain ⟨aA,aC,cv,a7⟩:=aI;refine ⟨aA,?_⟩;have aF:J ((vv (i:Int) (j:Int) (S.getD i ([],[])) (S.getD j ([],[])) (S.getD i ([],[])).1.length).length + (yC (i:Int) (j:Int) (S.getD i ([],[])) (S.getD j ([],[])) (k + 1)).length) A56:=by rw [ab.2.2];exact aC
    refine bp<|.cond_false Z<|.skip<|ag<|.region<|.J Z<|.p (bk (b:=1) Z Z O)<|.I Z<|.nil ?_;exact ⟨k + 1,ym Z Z Z Z Z Z Z,Z,⟨⟨by omega,fun q=>absurd q ‹_›⟩,a7.le,⟨aF,a7⟩⟩,O1⟩
   refine ak.skip<|ag<|.region<|.J Z<|.p (bk (b:=1) Z Z O)<|.I Z<|.nil ?_;exact ⟨k + 1,ym Z Z Z Z Z Z Z,Z,⟨⟨by omega,fun q=>absurd q ‹_›⟩,h,⟨(by rw [Zc ‹_›];exact hJk),hPk⟩⟩,O1⟩
  refine ak.exit ?_;repeat first | with_reducible refine cz ?_ | with_reducible refine cj ?_
  repeat first | with_reducible refine f5 ?_ | with_reducible refine fc ?_ | with_reducible refine eh U ?_ | with_reducible refine ei ?_ | with_reducible refine dA ?_
  exact zD (vs:=[]) Z (⟨by (rw [OD (Xv ‹_›) O O];exact hJk),a4,hPk⟩)
 refine Ops.off Z Z Z Z<|.off Z Z Z Z<|.off Z Z Z Z<|.off Z Z Z Z<|.off Z Z Z Z<|.off Z Z Z Z<|.off Z Z Z Z<|.p (aO Z Z)<|.nil<|ad ?_;refine ak.cond_false Z<|.exit ?_;repeat first | with_reducible refine cz ?_ | with_reducible refine cj ?_
 repeat first | with_reducible refine f5 ?_ | with_reducible refine fc ?_ | with_reducible refine eh U ?_ | with_reducible refine ei ?_ | with_reducible refine dA ?_
 exact zD (vs:=[]) Z (⟨by (rw [KI (Vv (Decidable.not_not.1 ‹_›))];rw [ai (Decidable.not_not.1 ‹_›)] at hJk;exact hJk),a4,hPk⟩)
theorem ag202:dM prog 202=some false:=by kernel_rfl
theorem wA:dM prog 47=some true:=by kernel_rfl
theorem UK:dM prog 78=some false:=by kernel_rfl
theorem YW:eo prog 47 0=some (3,0):=by kernel_rfl
theorem YX:eo prog 47 1=some (3,1):=by kernel_rfl
theorem inf47:prog.info? 47=some Tryz.t47:=by kernel_rfl
theorem lN:dy prog 47=some 5:=by kernel_rfl
theorem sz78:dy prog 78=some 1:=by kernel_rfl
theorem u78:type_of% @underlying78:=@underlying78
theorem z78:cE prog 78=some (.slice none 0 0):=by kernel_rfl
theorem Tn (bo lp:Nat) (J:Nat->AH->Prop) (g:Int) (u:Value) (l:List W8) (rv:Value) (rs:List aQ) (M A:AH) (bs k1:Nat) (w1:Bool) (hP:cG bo M A) (eZ:J 0 A) (gbs:M.get bs=some (.row w1 [num g,u,rv] k1)) (hL:iB M) (hu:bz M 1 u (dB l)) (hr:bz M 3 rv (dh rs)) (hp:Proofs M rs) (hg:1<=g/\g<=8) (hn:rs.length<=1000000) (hw:∀ r ∈ rs,0 < r.left.length/\r.left.length<=1000/\r.right.length<=1000) (hclo:∀ i C C2,J i C->C2.wf->C.n<=C2.n->(∀ b o,(b < A.n\/nY bo C b)->C.get b=some o->C2.get b=some o)->J i C2) (hv:∀ i C,J i C->∃ v cap,C.get bo=some (.row true [v] cap)/\∀ b,blk v=some b->∃ o,C.get b=some o) (hbo:bo < A.n) (hy:∀ k C M2,k < (bn g rs).length->C.wf->J k C->cG bo M2 C->mN prog lp #[Yo ((bn g rs).getD k .zero)] C (fun v C2=>v=.bool true/\J (k + 1) C2/\C2.wf/\cG bo M2 C2)):bH prog 164 #[.func (.yield lp) #[] #[],.pointer (some ⟨bs,0,none⟩)] A (fun v A1=>J (bn g rs).length A1/\A1.wf/\cG bo M A1):=by
  refine enterM (e:=[(0,.func (.yield lp) #[] #[]),(1,.pointer (some ⟨bs,0,none⟩))]) (args:=[.func (.yield lp) #[] #[],.pointer (some ⟨bs,0,none⟩)]) call164 func164 Z results164 ntmps164 Z Z Z (fun wf=>?_)
  have f3:=hP.le
  obtain ⟨f6,hK,bT,e0⟩:=hv _ _ eZ
  have f1:=AH.le.refl A
  have gS:kj bo A A []:=kj.nil
  have h3:A.n<=A.n:=XX _
  have hne:=vh hg hw
  have hsl:=iL g rs
  refine ak.seq fun K1 h2=>.region<|.m (fun h1=>dQ wf rfl rfl fun A5 b4 c4=>?_)
  have eg:=bh wf (Xj f1.n c4.lo)
  have hm:=Xj f3.n c4.lo
  have bC:=f3.trans c4.le
  have f2:=f1.trans c4.le
  refine h1<|.nil<|h2 _ _<|.seq fun K9 gl=>.region<|.p (ao fW fw Z Z (bC.g gbs) Z)<|.m (fun fO=>ax Z (Kn ((g)) u l rv rs A5 hg hn (hL.le bC) (hu.le bC) (hr.le bC) (hp.le bC)) ?_)
  rintro c7 A13 ⟨cT,d0,cP⟩
  have gm:=cT.g c4.get
  have av:=f2.trans cT
  have d3:=cP.base bC
  have gf:=LG f2 cP
  refine fO<|.I Z<|.nil<|gl _ _<|.seq fun K21 gp=>.region<|.J Z<|.p (bx (n:=(bF ((g)) rs).length) rL Z d3.slc O (sL _))<|.J Z<|.nil ?_
  refine gp _ _<|.block ?_
  have ft:=hclo _ _ _ eZ d0 av.n (fun b o _ h=>av.get b o h)
  have dd:=av.get _ _ bT
  have hB:=tf av e0
  have fI:=hP.up av bT
  have fX:=Xj h3 av.n
  have fn:=gS.up av bT
  have aR:=cG.full dd d0
  have ap:=fI.sub dd
  have bc:=ap.get _ _ gbs
  have bb:=kH gm bT e0 eg
  have a9:=sJ d3 bT e0 gf
  have c0:=hu.le ap
  have bB:=hr.le ap
  have dD:=hL.le ap
  have dJ:A.n<=(A13.hide [some bo,blk f6]).n:=fX
  generalize hM24:(A13.hide [some bo,blk f6])=M24 at aR ap bc bb a9 c0 bB dD dJ
  refine ak.loopD (X:=Nat × List Nat) (fun ⟨i,Ds⟩=>[(1,.pointer (some ⟨bs,0,none⟩)),(2,.pointer (some ⟨b4,0,none⟩)),(3,c7),(10,num (((bF ((g)) rs).length:Nat):Int)),(11,num ((i:Nat):Int))]) (fun ⟨i,Ds⟩=>Ds.map V.mark) (fun ⟨i,Ds⟩ B=>(i<=(bF g rs).length)/\M24.le B/\kj bo A B Ds/\(J (vH rs.length (bF g rs) i 0).length B/\cG bo M24 B)) (fun ⟨i,Ds⟩=>(bF g rs).length - i) (⟨0,[]⟩) (nR Z Z Z Z Z) Z (⟨(XZ _),aR.le,fn,⟨(by rw [show (vH rs.length (bF g rs) 0 0).length=0 from rfl];exact ft),aR⟩⟩) ?_
  rintro ⟨i,Ds⟩ B26 ⟨hl_i,bS,b0,hJ_i,hP_i⟩
  refine ak.wf fun cK=>?_
  obtain ⟨e5,hs,bD,e1⟩:=hv _ _ hJ_i
  have dW:=AH.le.refl B26
  have g0:=Xj dJ bS.n
  refine ak.seq fun K29 gs=>.region<|.p (bK Z Z)<|.nil<|gs _ _<|.seq fun K31 gA=>.if rfl (fun ha=>?_) (fun ha=>?_)
  ·
    refine ak.skip<|gA _ _<|.seq fun K34 gC=>.block<|.seq fun K36 gD=>.region<|.J Z<|.m (fun fQ=>co cK z3 rfl fun A40 d1 aA=>?_)
    have dj:=bh aR.wf (Xj bS.n aA.lo)
    have bU:=bh cK (Xj dW.n aA.lo)
    have h6:=Xj bS.n aA.lo
    have g8:=bS.trans aA.le
    have g5:=dW.trans aA.le
    refine fQ<|.m (fun fR=>aU (cs:=[num ((i:Nat):Int)]) (c':=[num ((i:Nat):Int)]) aA.wf rfl rfl rfl rfl cl aA.get G rfl rfl fun A45 aC=>?_)
    have ay:=an g5 cK bU aC.n aC.keep
    have g9:=an g8 aR.wf dj aC.n aC.keep
    refine fR<|.nil<|gD _ _<|.seq fun K49 gF=>.region<|.J Z<|.p (bx (n:=(bF ((g)) rs).length) rL Z (a9.le g9) O (sL _))<|.J Z<|.nil<|gF _ _ ?_
    refine ak.block ?_
    have fv:=hclo _ _ _ hJ_i aC.wf ay.n (fun b o _ h=>ay.get b o h)
    have di:=ay.get _ _ bD
    have hC:=tf ay e1
    have fL:=hP_i.up ay bD
    have g1:=Xj g0 ay.n
    have fo:=b0.up ay bD
    have aS:=cG.full di aC.wf
    have a1:=fL.sub di
    have ad:=a1.get _ _ bc
    have bd:=a1.get _ _ bb
    have a8:=kH aC.get bD e1 bU
    have c3:=c0.le a1
    have ag:=bB.le a1
    have aa:=a9.le a1
    have dG:=dD.le a1
    have cC:A.n<=(A45.hide [some bo,blk e5]).n:=g1
    generalize hM52:(A45.hide [some bo,blk e5])=M52 at aS a1 ad bd a8 c3 ag aa dG cC
    refine ak.loopD (X:=Nat × List Nat) (fun ⟨j,Ds⟩=>[(1,.pointer (some ⟨bs,0,none⟩)),(2,.pointer (some ⟨b4,0,none⟩)),(3,c7),(4,.pointer (some ⟨d1,0,none⟩)),(10,num (((bF ((g)) rs).length:Nat):Int)),(11,num ((i:Nat):Int)),(15,num (((bF ((g)) rs).length:Nat):Int)),(16,num ((j:Nat):Int))]) (fun ⟨j,Ds⟩=>Ds.map V.mark) (fun ⟨j,Ds⟩ B=>(j<=(bF g rs).length)/\M52.le B/\kj bo A B Ds/\(J (vH rs.length (bF g rs) i j).length B/\cG bo M52 B)) (fun ⟨j,Ds⟩=>(bF g rs).length - j) (⟨0,Ds⟩) (un Z Z Z Z Z Z Z Z) Z (⟨(XZ _),aS.le,fo,⟨fv,aS⟩⟩) ?_
    rintro ⟨j,Ds⟩ B54 ⟨hl_j,b7,bO,hJ_j,hP_j⟩
    refine ak.wf fun aY=>?_
    obtain ⟨e6,ht,a6,aV⟩:=hv _ _ hJ_j
    have dZ:=AH.le.refl B54
    have dV:=Xj cC b7.n
    refine ak.seq fun K57 gG=>.region<|.p (bK Z Z)<|.nil<|gG _ _<|.seq fun K59 gL=>.if rfl (fun hc=>?_) (fun hc=>?_)
    ·
      refine ak.skip<|gL _ _<|.seq fun K62 eY=>.block<|.seq fun K64 gM=>.region<|.J Z<|.m (fun fS=>co aY z3 rfl fun A68 d2 aB=>?_)
      have dv:=bh aS.wf (Xj b7.n aB.lo)
      have bV:=bh aY (Xj dZ.n aB.lo)
      have h7:=Xj b7.n aB.lo
      have gc:=b7.trans aB.le
      have g7:=dZ.trans aB.le
      refine fS<|.m (fun fT=>aU (cs:=[num ((j:Nat):Int)]) (c':=[num ((j:Nat):Int)]) aB.wf rfl rfl rfl rfl cl aB.get G rfl rfl fun A73 ac=>?_)
      have a3:=an g7 aY bV ac.n ac.keep
      have ab:=an gc aS.wf dv ac.n ac.keep
      refine fT<|.nil<|gM _ _<|.seq fun K77 gN=>.join (fun f A1=>am [(30,.bool (decide (rs.length<=i/\rs.length<=j))),(1,.pointer (some ⟨bs,0,none⟩)),(2,.pointer (some ⟨b4,0,none⟩)),(3,c7),(4,.pointer (some ⟨d1,0,none⟩)),(10,num (((bF ((g)) rs).length:Nat):Int)),(11,num ((i:Nat):Int)),(15,num (((bF ((g)) rs).length:Nat):Int)),(16,num ((j:Nat):Int)),(17,.bool (decide (j < (bF ((g)) rs).length))),(18,num ((j:Nat):Int)),(5,.pointer (some ⟨d2,0,none⟩))] f.e/\f.ds=Ds.map V.mark/\A73=A1) ?_ ?_
      ·
        refine ak.region<|.p (ah dK Z Z (ab.g a8) Z)<|.p (ae dU ja U Z)<|.p (ah jj Z Z (ab.g ad) Z)<|.p (bx (n:=rs.length) o6 Z (ag.le ab) O (dt _))<|.p (tK Z Z)<|.J Z<|.part (t:=24) Z (fun hd=>?_) (fun hd=>?_)
        ·
          refine Ops.on Z Z<|.p (ah dK Z Z ac.get Z)<|.on Z Z<|.p (ae dU ja U Z)<|.on Z Z<|.p (ah jj Z Z (ab.g ad) Z)<|.on Z Z<|.p (bx (n:=rs.length) o6 Z (ag.le ab) O (dt _))<|.on Z Z<|.p (tK Z Z) ?_
          refine Ops.p (aJ Z Z)<|.nil ?_
          exact ⟨am.cons (show some _=some _ from Xk (fun b=>some (Value.bool b)) (show (decide (rs.length<=j))=decide (rs.length<=i/\rs.length<=j) from (by simp [*])))<|uF Z Z Z Z Z Z Z Z Z Z Z,Z,Z⟩
        ·
          refine Ops.off Z Z Z Z<|.off Z Z Z Z<|.off Z Z Z Z<|.off Z Z Z Z<|.off Z Z Z Z<|.p (aO Z Z)<|.nil ?_
          exact ⟨am.cons (show some _=some _ from Xk (fun b=>some (Value.bool b)) (show (false)=decide (rs.length<=i/\rs.length<=j) from (by simp [*])))<|uF Z Z Z Z Z Z Z Z Z Z Z,Z,Z⟩
      ·
        rintro ⟨fe,fd⟩ _ ⟨hE,rfl,rfl⟩
        refine ak.forget hE<|.if rfl (fun he=>?_) (fun he=>?_)
        ·
          refine ak.exit<|eY _ _<|.region<|.p (bk (b:=1) Z Z O)<|.J Z<|.nil ?_
          have fD:=hclo _ _ _ hJ_j ac.wf a3.n (fun b o _ h=>a3.get b o h)
          have hx:=a3.get _ _ a6
          have hD:=tf a3 aV
          have fM:=hP_j.up a3 a6
          have hA:=Xj dV a3.n
          have fq:=bO.up a3 a6
          exact ⟨⟨j + 1,Ds⟩,un Z Z Z Z Z Z Z Z,Z,⟨O,ab,fq,⟨(by rw [Uy ⟨by omega,by omega⟩];exact fD),fM⟩⟩,O1⟩
        ·
          refine ak.skip<|gN _ _<|.seq fun K84 gP=>.region<|.J Z<|.p (ah dK Z Z (ab.g a8) Z)<|.p (ah dK Z Z ac.get Z)<|.m (fun fU=>ax Z (MW c7 (bF ((g)) rs) i j A73 (aa.le ab)) ?_)
          rintro hQ A88 ⟨ea,eb,ec,rfl,cV,b2,bu,bv,bA,bm,bp,br⟩
          have gQ:=cV.g ac.get
          have az:=a3.trans cV
          have hrwa:=bu
          have hrwb:=bv
          have hrwc:=bA
          have hloa:=bm
          have hlob:=bp
          have hloc:=br
          have ch:=bh aY (Xj a3.n bm)
          have ck:=bh aY (Xj a3.n bp)
          have ct:=bh aY (Xj a3.n br)
          refine fU<|.nil<|gP _ _<|.block ?_
          have fE:=hclo _ _ _ hJ_j b2 az.n (fun b o _ h=>az.get b o h)
          have bL:=az.get _ _ a6
          have hG:=tf az aV
          have fN:=hP_j.up az a6
          have g4:=Xj dV az.n
          have fr:=bO.up az a6
          have a7:=cG.full bL b2
          have a0:=fN.sub bL
          have a2:=a0.get _ _ ad
          have bl:=a0.get _ _ bd
          have b3:=a0.get _ _ a8
          have ar:=kH gQ a6 aV bV
          have aF:=kH bu a6 aV ch
          have aG:=kH bv a6 aV ck
          have aI:=kH bA a6 aV ct
          have b5:=c3.le a0
          have aT:=ag.le a0
          have aZ:=aa.le a0
          have dI:=dG.le a0
          have bP:A.n<=(A88.hide [some bo,blk e6]).n:=g4
          generalize hM94:(A88.hide [some bo,blk e6])=M94 at a7 a0 a2 bl b3 ar aF aG aI b5 aT aZ dI bP
          refine ak.rangeOwn (M:=M94) bo (kh (bF g rs) i j).length (fun k=>[Yo ((kh (bF g rs) i j).getD k .zero)]) (fun k B=>J ((vH rs.length (bF g rs) i j).length + k) B/\cG bo M94 B) (fun k b6=>[(6,.pointer (some ⟨b6,0,none⟩)),(1,.pointer (some ⟨bs,0,none⟩)),(2,.pointer (some ⟨b4,0,none⟩)),(4,.pointer (some ⟨d1,0,none⟩)),(5,.pointer (some ⟨d2,0,none⟩))]) (fun k=>.row true [num (((kh (bF g rs) i j).getD k .zero).i),num (((kh (bF g rs) i j).getD k .zero).j),aM (((kh (bF g rs) i j).getD k .zero).word),aM (((kh (bF g rs) i j).getD k .zero).u),aM (((kh (bF g rs) i j).getD k .zero).v)] 5) Z call192 (fun _=>rfl) U (b2 _ _ bL) a7 ?_ ?_ ?_ ?_ ?_ ?_ ?_
          · rintro k B B2 ⟨i1,i2⟩ cX f0 hk
            obtain ⟨v,cc,gq,_⟩:=hv _ _ i1
            exact ⟨hclo _ _ _ i1 cX f0 (fun b o hb h=>hk b o (hb.imp (fun q=>SX q (Xj bP a7.le.n)) id) h),⟨⟨Xj i2.le.n f0,fun b o h=>hk b o (.inl (SX (i2.wf b o h) a7.le.n)) (i2.le.g h)⟩,i2.wf,fun b hb=>i2.ow b (hb.same (by rw [gq];exact hk bo _ (.inr (.inl Z)) gq))⟩⟩
          · exact fun k B i1=>hv _ _ i1.1
          · exact ⟨fE,a7⟩
          · intro h8 J2 B M4 hnB hleB wfB ba hJI hz cv hyd
            obtain ⟨v,cc,gq,_⟩:=hv _ _ (hJI 0 B cv).1
            have s3:=(hJI 0 B cv).2.sub gq
            exact (IU bo h8 J2 i j (bF g rs) c7 _ B ea eb ec _ _ _ _ _ _ (cG.full gq wfB) cv (s3.get _ _ aF) (s3.get _ _ aG) (s3.get _ _ aI) (aZ.le s3) O O hne (fun k C M2=>hyd k C M2)).mono (fun v C h=>⟨h.1,h.2.1,h.2.2.mono (ba.sub gq) ba.wf⟩)
          · intro F k B hF_ hk_
            refine fh.wf fun wfB_=>?_
            have hF:=hF_
            refine fh.region hF (by repeat' first | with_reducible exact kF | with_reducible apply mZ | with_reducible apply kE) Y<|.m (fun fV=>co wfB_ Gh rfl fun A97 gg b9=>?_)
            have dw:=bh wfB_ (Xj (AH.le.refl B).n b9.lo)
            have e2:=Xj (AH.le.refl B).n b9.lo
            have ge:=(AH.le.refl B).trans b9.le
            refine fV<|.m (fun eB=>aU (cs:=[num (((kh (bF g rs) i j).getD k .zero).i),num (((kh (bF g rs) i j).getD k .zero).j),aM (((kh (bF g rs) i j).getD k .zero).word),aM (((kh (bF g rs) i j).getD k .zero).u),aM (((kh (bF g rs) i j).getD k .zero).v)]) (c':=[num (((kh (bF g rs) i j).getD k .zero).i),num (((kh (bF g rs) i j).getD k .zero).j),aM (((kh (bF g rs) i j).getD k .zero).word),aM (((kh (bF g rs) i j).getD k .zero).u),aM (((kh (bF g rs) i j).getD k .zero).v)]) b9.wf rfl rfl rfl rfl lN b9.get G rfl rfl fun A101 b1=>?_)
            have eR:=an ge wfB_ dw b1.n b1.keep
            refine eB<|.nil ?_
            exact ⟨gg,e2,nR Z Z Z Z Z,Z,eR,b1.wf,b1.get⟩
          · rintro F k B b6 M4 hF hk_ ⟨i1,i2⟩ wfB hnB ba gX g6 e3 gE
            obtain ⟨vY,cY,gY,lY⟩:=hv _ _ i1
            have hN:A.n<=b6:=Xj (Xj bP a7.le.n) gX
            have h9:bo ≠ b6:=fun q=>e3 (.inl q.symm)
            have hO:blk vY ≠ some b6:=fun q=>e3 (.inr ⟨_,_,gY,q⟩)
            have s3:=i2.sub gY
            have eX:M94.get b6=none:=by cases q:M94.get b6 with | none=>rfl | some o=>exact absurd (a7.wf _ _ q) (by have:=a7.le.n;omega)
            have s6:=cy (bs:=[some b6]) s3 (yn eX rK)
            have jX:=cL B [some b6]
            have m6:((B.hide [some bo,blk vY]).hide [some b6]).le (B.hide [some b6]):=Lm (cL _ _)
            have e7:((B.hide [some bo,blk vY]).hide [some b6]).wf:=cx (cx wfB)
            have cH:((B.hide [some bo,blk vY]).hide [some b6]).get b6=none:=cD (by simp)
            have wfX:(B.hide [some b6]).wf:=cx wfB
            have f4:(B.hide [some b6]).get b6=none:=cD (by simp)
            generalize hM6:(B.hide [some bo,blk vY]).hide [some b6]=M6 at s6 m6 e7 cH
            have hM:=dI.le s6
            refine fh.block<|.seq fun K104 f7=>.drawn [0,1,3,4,2,6,5,7,8,9] hF (by repeat' first | with_reducible exact kF | with_reducible apply mZ | with_reducible apply kE) Y mixed Y Y Z<|.p Z (ao fW fw Z Z ((m6.trans jX).get _ _ (s6.get _ _ a2)) Z)<|.p Z (ah dK Z Z ((m6.trans jX).get _ _ (s6.get _ _ b3)) Z) ?_
            have em:=cR (off:=0) ((m6.trans jX).get _ _ (s6.get _ _ a2)) (show _=some (num (g)) from rfl)
            have en:=cR (off:=1) ((m6.trans jX).get _ _ (s6.get _ _ a2)) (show _=some (u) from rfl)
            have er:=cR (off:=2) ((m6.trans jX).get _ _ (s6.get _ _ a2)) (show _=some (rv) from rfl)
            refine DOps.p Z (ao fW fw Z Z ((m6.trans jX).get _ _ (s6.get _ _ a2)) Z) ?_
            have ev:=cR (off:=0) ((m6.trans jX).get _ _ (s6.get _ _ ar)) (show _=some (num ((j:Nat):Int)) from rfl)
            refine DOps.p Z (ah dK Z Z ((m6.trans jX).get _ _ (s6.get _ _ ar)) Z)<|.m Z (fun eC=>ax Z (Ki ((g)) u l rv rs i B O hn ((b5.le s6).le (m6.trans jX)) ((aT.le s6).le (m6.trans jX))) ?_)
            rintro hH A116 ⟨rfl,a4,hf⟩
            have f9:=a4.g g6
            have ex:=bI a4 em
            have ey:=bI a4 en
            have ez:=bI a4 er
            have eA:=bI a4 ev
            have bR:=(m6.trans jX).trans a4
            have eM:=jX.trans a4
            refine eC (bg.list (L:=[(⟨d2,0,none⟩,num ((j:Nat):Int)),(⟨bs,0,none⟩,num (g)),(⟨bs,1,none⟩,u),(⟨bs,2,none⟩,rv)]) Y (bf eA (bf ex (bf ey (bf ez bX)))))<|.p Z (ae YW cl U Z)<|.m Z (fun eE=>ax Z (Ki ((g)) u l rv rs j A116 O hn ((b5.le s6).le bR) ((aT.le s6).le bR)) ?_)
            rintro hI A131 ⟨rfl,b8,e9⟩
            have fl:=b8.g f9
            have eS:=bR.trans b8
            have eN:=eM.trans b8
            refine eE (bg.none Y)<|.m Z (fun eG=>aU (cs:=[num (nm rs.length i)]) (c':=[num (nm rs.length i),num (((kh (bF g rs) i j).getD k .zero).j),aM (((kh (bF g rs) i j).getD k .zero).word),aM (((kh (bF g rs) i j).getD k .zero).u),aM (((kh (bF g rs) i j).getD k .zero).v)]) e9 rfl rfl rfl rfl cl fl G rfl rfl fun A141 ai=>?_)
            have eQ:=an eN wfX f4 ai.n ai.keep
            have eT:=an eS e7 cH ai.n ai.keep
            refine eG (bg.none Y)<|.p Z (ae YX cl U Z)<|.m Z (fun eK=>aU (cs:=[num (nm rs.length j)]) (c':=[num (nm rs.length i),num (nm rs.length j),aM (((kh (bF g rs) i j).getD k .zero).word),aM (((kh (bF g rs) i j).getD k .zero).u),aM (((kh (bF g rs) i j).getD k .zero).v)]) ai.wf rfl rfl rfl rfl cl ai.get G rfl rfl fun A146 a5=>?_)
            have aP:=an eQ wfX f4 a5.n a5.keep
            have eV:=an eT e7 cH a5.n a5.keep
            refine eK (bg.none Y)<|.done<|f7 _ _<|.seq fun K150 fm=>?_
            have ek:=hclo _ _ _ i1 a5.wf aP.n (fun b o hb h=>aP.get b o (ce h (rP (fun q=>by subst q;rcases hb with hb | hb;omega;exact e3 hb) nZ)))
            have bM:=aP.get _ _ (ce gY (rP h9 nZ))
            have e4:=YD (n:=rs.length) (L:=(bF g rs)) (i:=i) (j:=j) (k:=k) O O O hk_
            have cS:=hy _ _ _ e4.1 a5.wf ek (cG.full bM a5.wf)
            rw [show bn g rs=sE rs.length (bF g rs) from rfl,e4.2] at cS
            refine fh.regionJ ?_
            refine mJ.q hF Z Z (ah ag202 Z Z (eV.g (s6.get _ _ bl)) Z) ?_
            refine mJ.q hF Z Z (ao wA lN Z Z a5.get Z) ?_
            refine mJ.y hF rfl rfl rfl (cS) fun hJ A154 eL=>?_
            obtain ⟨rfl,hJz,wfz,hPz⟩:=eL
            skip
            refine mJ.q hF Z Z (ff Z) ?_
            refine mJ.nil ?_
            refine fm _ _<|.cond_false Z<|.skip ?_
            exact ⟨⟨hJz,(hPz.mono (cy ((cy (bs:=[some b6]) i2.le (yn eX rK)).trans aP) (Ei i2 gY bM)) i2.wf)⟩,wfz,(hPz.mono (cy ((cy (bs:=[some b6]) ba.le (yn gE rK)).trans aP) (Ei ba gY bM)) ba.wf)⟩
          · rintro B156 D156 ⟨i1,i2⟩ hq dO h5 ee dS aD
            have dz:=kj.push fr bL (by rw [hM94];exact aD) b2 (Xj bP a7.le.n) dO ee dS
            have bY:J (vH rs.length (bF g rs) i (j + 1)).length B156:=by rw [YE O];exact i1
            obtain ⟨ho,hh,hi,hl⟩:=hv _ _ bY
            have hj:=Xj cC (a0.trans aD.le).n
            refine eY _ _<|.region<|.p (bk (b:=1) Z Z O)<|.J Z<|.nil ?_
            exact ⟨⟨j + 1,D156 :: Ds⟩,un Z Z Z Z Z Z Z Z,Z,⟨O,(a0.trans aD.le),dz,⟨bY,(aD.mono a0 aS.wf)⟩⟩,O1⟩
    ·
      refine ak.exit<|gC _ _<|.region<|.p (bk (b:=1) Z Z O)<|.J Z<|.nil ?_
      exact ⟨⟨i + 1,Ds⟩,nR Z Z Z Z Z,Z,⟨O,(a1.trans b7),bO,⟨(by rw [Gt,show (bF g rs).length=j by omega];exact hJ_j),(hP_j.mono a1 aR.wf)⟩⟩,O1⟩
  ·
    refine ak.exit ?_
    (repeat first | with_reducible refine cz ?_ | with_reducible refine cj ?_);(repeat first | with_reducible refine f5 ?_ | with_reducible refine fc ?_ | with_reducible refine eh U ?_ | with_reducible refine ei ?_ | with_reducible refine dA ?_);obtain ⟨vZ,cZ,gZ,lZ⟩:=hv _ _ hJ_i;refine ⟨Ds,rfl,b0.nd,b0.get,[],fun A2 cX h4 h0=>?_⟩;obtain ⟨z1,z2⟩:=b0.leave hP.le wf (hP_i.mono ap hP.wf) gZ h4 h0;exact ⟨Z,_,Z,(by rw [show bn g rs=vH rs.length (bF g rs) i 0 from by rw [show i=(bF g rs).length by omega,Oa];rfl];exact hclo _ _ _ hJ_i cX O z2),cX,z1⟩
theorem Xo (g:Int) (u:Value) (l:List W8) (rv:Value) (rs:List aQ) (A:AH) (hu:bz A 1 u (dB l)) (hr:bz A 3 rv (dh rs)):bH prog 125 #[.agg #[num (g),u,rv]] A (fun v A1=>∃ b,v=.func (.func 164) #[] #[.pointer (some ⟨b,0,none⟩)]/\A.le A1/\A1.wf/\A1.get b=some (.row true [num g,u,rv] 3)/\A.get b=none):=by
 refine aN (e:=[(0,.agg #[num (g),u,rv])]) (args:=[.agg #[num (g),u,rv]]) call125 func125 Z results125 ntmps125 Z Z Z (fun wf=>?_);have V:=AH.le.refl A;refine ak.sq fun h2=>.region<|.m (fun X=>dQ wf rfl rfl fun A5 b4 h=>?_);refine X<|.I Z<|.nil<|h2<|.sq fun h9=>.region<|.p (nu Z Z)<|.I Z<|.nil<|h9 ?_;refine ak.ret ?_;repeat first | with_reducible refine cz ?_ | with_reducible refine cj ?_
 exact aH Z (⟨b4,Z,(V.trans h.le),h.wf,h.get,(bh wf (Xj V.n h.lo))⟩)
theorem Th (g:Int) (u:Value) (l:List W8) (rv:Value) (rs:List aQ) (A:AH) (hg:1<=g/\g<=8) (hn:rs.length<=1000000) (hw:∀ r ∈ rs,0 < r.left.length/\r.left.length<=1000/\r.right.length<=1000) (hmx:(bn g rs).length<=50000) (hL:iB A) (hu:bz A 1 u (dB l)) (hr:bz A 3 rv (dh rs)) (hp:Proofs A rs):bH prog 88 #[.agg #[num (g),u,rv]] A (fun v A1=>∃ w,v=.tuple #[w,.bool true]/\A.le A1/\A1.wf/\Fresh A A1 w 5 (GH (bn g rs))):=by
  refine enterM (e:=[(0,.agg #[num (g),u,rv])]) (args:=[.agg #[num (g),u,rv]]) call88 func88 Z results88 ntmps88 Z Z Z (fun wf=>?_)
  have c4:=AH.le.refl A
  have df_:Defs A A []:=⟨List.Pairwise.nil,fun _ h=>by cases h⟩
  refine ak.seq fun K1 h2=>.region<|.m (fun ea=>dQ wf rfl rfl fun A5 b4 aY=>?_)
  have ez:=Xj c4.n aY.lo
  have bd:=c4.trans aY.le
  refine ea<|.m (fun eb=>co aY.wf z78 rfl fun A10 b9 a4=>?_)
  have bL:=bh wf (Xj bd.n a4.lo)
  have eA:=Xj bd.n a4.lo
  have dO:=a4.le.g aY.get
  have aR:=bd.trans a4.le
  refine eb<|.m (fun cS=>co a4.wf z4 rfl fun A16 aZ a0=>?_)
  have ad:=ne_new a4.wf a4.get a0.lo
  have b3:=bh wf (Xj aR.n a0.lo)
  have eg:=Xj aR.n a0.lo
  have bT:=a0.le.g dO
  have bU:=a0.le.g a4.get
  have aS:=aR.trans a0.le
  refine cS<|.nil<|h2 _ _<|.seq fun K21 dS=>.region<|.m (fun cT=>co a0.wf z78 rfl fun A25 V a2=>?_)
  have aI:=ne_new a0.wf bT a2.lo
  have aP:=ne_new a0.wf bU a2.lo
  have aC:=ne_new a0.wf a0.get a2.lo
  have b5:=bh wf (Xj aS.n a2.lo)
  have ek:=Xj aS.n a2.lo
  have b8:=a2.le.g bT
  have bV:=a2.le.g bU
  have bY:=a2.le.g a0.get
  have aT:=aS.trans a2.le
  refine cT<|.nil<|dS _ _<|.seq fun K31 dV=>.seq fun K33 dW=>.region<|.p (ao fW fw Z Z b8 Z)<|.m (fun cV=>ax Z (Xo ((g)) u l rv rs A25 (hu.le aT) (hr.le aT)) ?_)
  rintro eL A37 ⟨a5,rfl,a8,ap,aA,a3⟩
  have dZ:=a8.g b8
  have e0:=a8.g bV
  have e1:=a8.g bY
  have aF:=a8.g a2.get
  have bc:=aT.trans a8
  have hrow:=aA
  have hno:=a3
  have bB:b4 ≠ a5:=fun z=>by have q0:=b8;rw [z,a3] at q0;cases q0
  have bC:b9 ≠ a5:=fun z=>by have q0:=bV;rw [z,a3] at q0;cases q0
  have br:aZ ≠ a5:=fun z=>by have q0:=bY;rw [z,a3] at q0;cases q0
  have az:V ≠ a5:=fun z=>by have q0:=a2.get;rw [z,a3] at q0;cases q0
  refine cV<|.nil<|dW _ _<|.block ?_
  have X:=cG.full aF ap
  have hLM:=cy (bs:=[some V,blk (.slice none 0 0)]) bc (fun b hb=>by simp only [Vy,SQ,or_false,Option.some.injEq,blk] at hb;rcases hb with rfl | hb;exact b5;cases hb)
  have bR:=Fresh.nil (A37.hide [some V,blk (.slice none 0 0)]) A37 5
  have ag:=ce (bs:=[some V,blk (.slice none 0 0)]) dZ (rP (aI) (px (fun q=>by cases q) nZ))
  have ai:=ce (bs:=[some V,blk (.slice none 0 0)]) e0 (rP (aP) (px (fun q=>by cases q) nZ))
  have a7:=ce (bs:=[some V,blk (.slice none 0 0)]) e1 (rP (aC) (px (fun q=>by cases q) nZ))
  have a1:=ce (bs:=[some V,blk (.slice none 0 0)]) aA (rP (az.symm) (px (fun q=>by cases q) nZ))
  generalize hM0:(A37.hide [some V,blk (.slice none 0 0)])=M at X hLM bR ag ai a7 a1
  have hvI:∀ (k:Nat) (B:AH),(M.le B/\∃ v,B.get V=some (.row true [v] 1)/\Fresh M B v 5 (GH ((bn g rs).take k))/\blk v ≠ some V)->∃ v cap,B.get V=some (.row true [v] cap)/\∀ b,blk v=some b->∃ o,B.get b=some o:=fun k B ⟨_,v,g1,f1,_⟩=>⟨v,1,g1,fun b hb=>f1.own.blkget hb⟩
  refine ak.rangeOwn (M:=M) V (bn g rs).length (fun k=>[Yo ((bn g rs).getD k .zero)]) (fun k B=>(M.le B/\∃ v,B.get V=some (.row true [v] 1)/\Fresh M B v 5 (GH ((bn g rs).take k))/\blk v ≠ some V)) (fun k b6=>[(5,.pointer (some ⟨b6,0,none⟩)),(1,.pointer (some ⟨b4,0,none⟩)),(2,.pointer (some ⟨b9,0,none⟩)),(3,.pointer (some ⟨aZ,0,none⟩)),(4,.pointer (some ⟨V,0,none⟩))]) (fun k=>.row true [num (((bn g rs).getD k .zero).i),num (((bn g rs).getD k .zero).j),aM (((bn g rs).getD k .zero).word),aM (((bn g rs).getD k .zero).u),aM (((bn g rs).getD k .zero).v)] 5) Z call164 (fun _=>rfl) U (ap _ _ aF) X ?_ hvI ?_ ?_ ?_ ?_ ?_
  · rintro k B B2 ⟨i1,v,g1,f1,n1⟩ ct ee hk
    exact ⟨⟨Xj i1.n ee,fun b o h=>hk b o (.inl (SX (X.wf b o h) X.le.n)) (i1.get _ _ h)⟩,v,hk _ _ (.inr (.inl rfl)) g1,f1.owk (fun b o hb h=>hk b o (.inr (.inr ⟨v,1,g1,hb⟩)) h),n1⟩
  · exact ⟨X.le,_,aF,bR,fun q=>by cases q⟩
  · intro en J2 B M4 hnB hleB wfB aG hJI cP aB hyd
    obtain ⟨v,cc,gq,_⟩:=hvI _ _ (hJI 0 B aB)
    have s3:M.le (B.hide [some V,blk v]):=cy (hJI 0 B aB).1 (fun b hb=>by obtain ⟨_,w,g1,f1,_⟩:=hJI 0 B aB;rw [g1] at gq;cases gq;simp only [Vy,SQ,or_false,Option.some.injEq] at hb;rcases hb with rfl | hb;exact X.ow _ (.inl Z);exact f1.lo b hb.symm)
    exact (Tn V en J2 g u l rv rs _ B a5 _ _ (cG.full gq wfB) aB (s3.get _ _ a1) ((hL.le hLM).le s3) ((hu.le hLM).le s3) ((hr.le hLM).le s3) ((hp.le hLM).le s3) hg hn hw (fun i C C2 j1 j2 j3 j4=>cP i C C2 j1 j2 j3 j4) (fun i C j1=>hvI i C (hJI i C j1)) (wfB _ _ gq) (fun k C M2=>hyd k C M2)).mono (fun v C h=>⟨h.1,h.2.1,h.2.2.mono (aG.sub gq) aG.wf⟩)
  · intro F k B hF_ hk_
    refine fh.wf fun wfB_=>?_
    have hF:=hF_
    refine fh.region hF (by repeat' first | with_reducible exact kF | with_reducible apply mZ | with_reducible apply kE) Y<|.m (fun cX=>co wfB_ Gh rfl fun A46 dJ av=>?_)
    have b7:=bh wfB_ (Xj (AH.le.refl B).n av.lo)
    have bm:=Xj (AH.le.refl B).n av.lo
    have dj:=(AH.le.refl B).trans av.le
    refine cX<|.m (fun cZ=>aU (cs:=[num (((bn g rs).getD k .zero).i),num (((bn g rs).getD k .zero).j),aM (((bn g rs).getD k .zero).word),aM (((bn g rs).getD k .zero).u),aM (((bn g rs).getD k .zero).v)]) (c':=[num (((bn g rs).getD k .zero).i),num (((bn g rs).getD k .zero).j),aM (((bn g rs).getD k .zero).word),aM (((bn g rs).getD k .zero).u),aM (((bn g rs).getD k .zero).v)]) av.wf rfl rfl rfl rfl lN av.get G rfl rfl fun A50 aD=>?_)
    have dv:=an dj wfB_ b7 aD.n aD.keep
    refine cZ<|.nil ?_
    exact ⟨dJ,bm,nR Z Z Z Z Z,Z,dv,aD.wf,aD.get⟩
  · rintro F k B b6 M4 hF hk_ ⟨i1,v,g1,f1,n1⟩ wfB hnB aG eK g6 ch eE
    have s3:M.le (B.hide [some V,blk v]):=cy i1 (fun b hb=>by simp only [Vy,SQ,or_false,Option.some.injEq] at hb;rcases hb with rfl | hb;exact X.ow _ (.inl Z);exact f1.lo b hb.symm)
    have s4:=aG.sub g1
    have leX:=cL B [some V,blk v]
    have wfX:(B.hide [some V,blk v]).wf:=cx wfB
    have noX:(B.hide [some V,blk v]).get V=none:=cD (by simp)
    have fX:Fresh (B.hide [some V,blk v]) B v 5 (GH ((bn g rs).take k)):=f1.hide (by simp)
    have bS:(B.hide [some V,blk v]).get b6=some (.row true [num (((bn g rs).getD k .zero).i),num (((bn g rs).getD k .zero).j),aM (((bn g rs).getD k .zero).word),aM (((bn g rs).getD k .zero).u),aM (((bn g rs).getD k .zero).v)] 5):=ce g6 (rP (fun q=>ch (.inl q)) (px (fun q=>ch (.inr ⟨_,_,g1,q⟩)) nZ))
    generalize hMX:B.hide [some V,blk v]=MX at s3 s4 leX wfX noX fX bS
    have htk:((bn g rs).take k).length=k:=by rw [Vz];omega
    refine fh.block<|.seq fun K53 e2=>.seq fun K55 e3=>.region hF (by repeat' first | with_reducible exact kF | with_reducible apply mZ | with_reducible apply kE) Y<|.p (ah UK Z Z g1 Z)<|.p (bx (n:=((bn g rs).take k).length) u78 Z fX.slc O (Jx _))<|.p (jM (b:=50000) Z Z)<|.nil<|e3 _ _<|.if rfl (fun er=>?_) (fun er=>?_)
    ·
      refine fh.seq fun K58 eG=>?_
      exact absurd ‹_› O
    ·
      refine fh.skip<|e2 _ _<|.region hF (by repeat' first | with_reducible exact kF | with_reducible apply mZ | with_reducible apply kE) Y<|.p (ah UK Z Z g1 Z)<|.p (ao wA lN Z Z (leX.g bS) Z)<|.m (fun d0=>aE (c:=[num (((bn g rs).getD k .zero).i),num (((bn g rs).getD k .zero).j),aM (((bn g rs).getD k .zero).word),aM (((bn g rs).getD k .zero).u),aM (((bn g rs).getD k .zero).v)]) wfB rfl (aq u78 lN Gh rfl U U rfl) fun A62 eC a9=>?_)
      have em:=Xj leX.n a9.lo
      have c0:=a9.le.g g1
      have b1:=fX.le a9.le
      have dw:=leX.trans a9.le
      refine d0<|.m (fun d1=>cm (ys:=[num (((bn g rs).getD k .zero).i),num (((bn g rs).getD k .zero).j),aM (((bn g rs).getD k .zero).word),aM (((bn g rs).getD k .zero).u),aM (((bn g rs).getD k .zero).v)]) rfl rfl u78 lN inf47 Gh rfl U u78 (fun _ h=>by cases h) b1.own (bG (n:=1) a9.get Z) rfl rfl (by show (_ + _) * 64<=_;simp only [pg,Xq,Xx];(try simp only [Xz,Xq,Xx]);omega) (by simp only [pg,Xq,Xx];(try simp only [Xz,Xq,Xx]);omega) fun A69 eM ar=>?_)
      rw [show ([num (((bn g rs).getD k .zero).i),num (((bn g rs).getD k .zero).j),aM (((bn g rs).getD k .zero).word),aM (((bn g rs).getD k .zero).u),aM (((bn g rs).getD k .zero).v)]:List Value)=GH [⟨((bn g rs).getD k .zero).i,((bn g rs).getD k .zero).j,((bn g rs).getD k .zero).word,((bn g rs).getD k .zero).u,((bn g rs).getD k .zero).v⟩] from rfl,GI] at ar
      obtain ⟨b2,dz⟩:=Fresh.grow b1 dw wfX ar
      have e4:=ar.keep n1 c0
      have bp:=ar.ne n1 a9.wf c0
      refine d1 ?_
      obtain ⟨ck,c3,bP,ev,_⟩:=b2.own.slice
      subst ev
      refine Ops.m (fun d2=>aU (cs:=[.slice ck c3 bP]) (c':=[.slice ck c3 bP]) ar.wf rfl rfl rfl rfl sz78 e4 G rfl rfl fun A80 aa=>?_)
      have cv:=b2.keep aa.keep bp
      have bl:=an dz wfX noX aa.n aa.keep
      refine d2<|.nil ?_
      have fe:=ci cv (Xk GH (fP (z:=CP.zero) hk_))
      exact ⟨⟨s3.trans bl,_,aa.get,fe.base s3,bp⟩,aa.wf,cG.mono ⟨bl,wfX,fun b hb=>by rcases hb.val aa.get with rfl | q;exact noX;exact fe.lo b q⟩ s4 aG.wf⟩
  · rintro B D0 ⟨i1,v,g1,f1,n1⟩ wfB hnD hnB gD hoD hPM
    have leB:=hLM.trans i1
    have frB:=f1.base hLM
    have hDp:kj V A B [D0]:=kj.push (A:=A) kj.nil aF (by rw [hM0];exact hPM) ap bc.n hnD gD hoD
    have ey:=i1.get _ _ ag
    have bM:=i1.get _ _ ai
    have ba:=i1.get _ _ a7
    have di:=i1.get _ _ a1
    have eB:=f1.ne X.wf ag
    have bO:=f1.ne X.wf ai
    have bu:=f1.ne X.wf a7
    have dI:=f1.ne X.wf a1
    have dG:D0 ≠ b4:=by have:=X.wf _ _ ag;have:=X.le.n;omega
    have ay:D0 ≠ b9:=by have:=X.wf _ _ ai;have:=X.le.n;omega
    have ac:D0 ≠ aZ:=by have:=X.wf _ _ a7;have:=X.le.n;omega
    have c7:D0 ≠ V:=by have:=ap _ _ aF;omega
    have bA:D0 ≠ a5:=by have:=X.wf _ _ a1;have:=X.le.n;omega
    have nvD:blk v ≠ some D0:=fun q=>hoD (.inr ⟨_,_,g1,q⟩)
    have hlA:A.n<=D0:=Xj hLM.n (Xj X.le.n hnD)
    refine dV _ _<|.seq fun K84 e5=>.region<|.p (ah UK Z Z g1 Z) ?_
    obtain ⟨bv,bb,b0,ex,_⟩:=frB.own.slice
    subst ex
    refine Ops.m (fun d3=>aU (cs:=[.slice bv bb b0]) (c':=[.slice bv bb b0]) wfB rfl rfl rfl rfl sz78 bM G rfl rfl fun A88 a6=>?_)
    have e6:=a6.k ad.symm ba
    have e7:=a6.k ay gD
    have cC:=frB.keep a6.keep bO
    have dD:=an leB wf bL a6.n a6.keep
    refine d3<|.m (fun dd=>aU (cs:=[.bool (true)]) (c':=[.bool (true)]) a6.wf rfl rfl rfl rfl kN e6 G rfl rfl fun A98 ab=>?_)
    have cH:=ab.k ad a6.get
    have cK:=ab.k ac e7
    have bD:=cC.keep ab.keep bu
    have aV:=an dD wf b3 ab.n ab.keep
    refine dd<|.nil<|e5 _ _<|.ret ?_
    (repeat first | with_reducible refine cz ?_ | with_reducible refine cj ?_);(repeat first | with_reducible refine f5 ?_ | with_reducible refine fc ?_ | with_reducible refine eh U ?_ | with_reducible refine ei ?_ | with_reducible refine dA ?_);refine ⟨[D0],rfl,(by simp),(fun E hE=>by rw [XW] at hE;subst hE;exact cK),[.slice bv bb b0,.bool true],fun A2 ct ec e9=>?_⟩;have hkD:∀ b o,b ≠ D0->A98.get b=some o->A2.get b=some o:=fun b o hb h=>e9 b o (by simpa using hb) h;exact ⟨iq.cell Z (qG UK (hkD _ _ ay.symm cH) Z) (iq.cell Z (qG um (hkD _ _ ac.symm ab.get) Z) iq.nil),_,Z,_,Z,⟨by rw [ec];exact aV.n,fun b o h=>hkD b o (by have:=wf _ _ h;omega) (aV.g h)⟩,ct,(ci bD (Xk GH (Ry))).owk (fun b o hb h=>hkD b o (fun z=>nvD (by rw [hb,z])) h)⟩
def iz (rs:List aQ):List CP->Bool × CP × Nat
  | []=>(true,.zero,0)
  | p :: t=>match gt rs p.u,gt rs p.v with
    | some a,some b=>if a.word=b.word then iz rs t else (false,p,0)
    | _,_=>(false,.zero,2)
def ny (rs:List aQ):Bool->List Wd->Bool × Nat
  | t,[]=>(t,0)
  | t,w :: ws=>match gt rs w with
    | none=>(false,2)
    | some r=>ny rs (t && decide (r.word=[])) ws
section
variable {rs:List aQ} {l:List CP} {i:Nat} {R:Bool × CP × Nat}
theorem TE (hi:l.length<=i) (h:iz rs (l.drop i)=R):R=(true,.zero,0):=by
  rw [<- h,SV hi];rfl
theorem qC {α:Type} {l:List α} {i:Nat} {z:α} (hi:i < l.length):l.drop i=l.getD i z :: l.drop (i + 1):=by
  rw [Tv hi];simp [hi]
theorem FA (hi:i < l.length) (h:iz rs (l.drop i)=R) (q:(!(gt rs (l.getD i .zero).u).isSome)=true\/(!(gt rs (l.getD i .zero).v).isSome)=true):R=(false,.zero,2):=by
  rw [<- h,qC (z:=CP.zero) hi,iz]
  rcases q with q | q
  · rw [tP q]
  · rw [tP q];cases gt rs (l.getD i .zero).u <;> rfl
theorem TD (hi:i < l.length) (h:iz rs (l.drop i)=R) (q1:(!(gt rs (l.getD i .zero).u).isSome)=false) (q2:(!(gt rs (l.getD i .zero).v).isSome)=false) (hne:¬ (gJ (gt rs (l.getD i .zero).u)).word=(gJ (gt rs (l.getD i .zero).v)).word):R=(false,l.getD i .zero,0):=by
  rw [<- h,qC (z:=CP.zero) hi,iz,qS q1,qS q2]
  simp only
  rw [Xy hne]
theorem Nw (hi:i < l.length) (h:iz rs (l.drop i)=R) (q1:(!(gt rs (l.getD i .zero).u).isSome)=false) (q2:(!(gt rs (l.getD i .zero).v).isSome)=false) (he:¬ ¬ (gJ (gt rs (l.getD i .zero).u)).word=(gJ (gt rs (l.getD i .zero).v)).word):iz rs (l.drop (i + 1))=R:=by
  rw [<- h,qC (z:=CP.zero) hi]
  conv=>rhs;rw [iz,qS q1,qS q2]
  simp only
  rw [Xw (Decidable.not_not.1 he)]
end
section
variable {rs:List aQ} {l:List Wd} {i:Nat} {t:Bool} {R:Bool × Nat}
theorem zQ (hi:l.length<=i) (h:ny rs t (l.drop i)=R):R=(t,0):=by
  rw [<- h,SV hi];rfl
theorem Nu (hi:i < l.length) (h:ny rs t (l.drop i)=R) (q:(!(gt rs (l.getD i [])).isSome)=true):R=(false,2):=by
  rw [<- h,qC (z:=[]) hi,ny,tP q]
theorem xQ (hi:i < l.length) (h:ny rs t (l.drop i)=R) (q:(!(gt rs (l.getD i [])).isSome)=false):ny rs (t && decide ((gJ (gt rs (l.getD i []))).word=[])) (l.drop (i + 1))=R:=by
  rw [<- h,qC (z:=[]) hi]
  conv=>rhs;rw [ny,qS q]
end
def gO (g:Int) (l:List Wd) (rs:List aQ):Bool × CP × Nat:=if bN g l rs then iz rs (bn g rs) else (false,.zero,100)
def pd (g:Int) (l:List Wd) (rs:List aQ):Bool × Nat:=if (gO g l rs).2.2=0 then (if (ny rs true l).2=0 then ((gO g l rs).1 && (ny rs true l).1,0) else (false,(ny rs true l).2)) else (false,(gO g l rs).2.2)
section
variable {g:Int} {l:List Wd} {rs:List aQ}
theorem UZ (h:(!bN g l rs)=true):gO g l rs=(false,.zero,100):=by simp_all [gO]
theorem U6 (h:(!bN g l rs)=false):gO g l rs=iz rs (bn g rs):=by simp_all [gO]
theorem Pb (h:¬ (gO g l rs).2.2=0):pd g l rs=(false,(gO g l rs).2.2):=by rw [pd,Xy h]
theorem Pd (h:¬ ¬ (gO g l rs).2.2=0) (q:ny rs true l=(false,2)):pd g l rs=(false,2):=by
  rw [pd,Xw (Decidable.not_not.1 h),q];rfl
theorem Db {t:Bool} (h:¬ ¬ (gO g l rs).2.2=0) (q:ny rs true l=(t,0)):pd g l rs=((gO g l rs).1 && t,0):=by
  rw [pd,Xw (Decidable.not_not.1 h),q];rfl
theorem uD (h:¬ ¬ (gO g l rs).2.2=0):bN g l rs=true:=by
  have h:=Decidable.not_not.1 h
  cases q:bN g l rs with
  | true=>rfl
  | false=>simp [gO,q] at h
theorem kn (hs:bN g l rs=true):1<=g/\g<=8:=(dq (ke hs).1).1
theorem zW (hs:bN g l rs=true):∀ r ∈ rs,0 < r.left.length/\r.left.length<=1000/\r.right.length<=1000:=fun r hr=>by
  have h1:=xC hs hr
  have h2:=oL hs hr
  omega
end
theorem YY:eo prog 47 3=some (9,3):=by kernel_rfl
theorem YZ:eo prog 47 4=some (9,4):=by kernel_rfl
theorem Xg (g:Int) (u:Value) (l:List W8) (rv:Value) (rs:List aQ) (A:AH) (hs:bN g l rs=true) (hmx:(bn g rs).length<=50000) (hL:iB A) (hu:bz A 1 u (dB l)) (hr:bz A 3 rv (dh rs)) (hp:Proofs A rs):bH prog 69 #[.agg #[num (g),u,rv]] A (fun v A1=>v=.tuple #[.bool (iz rs (bn g rs)).1,Yo (iz rs (bn g rs)).2.1,num (((iz rs (bn g rs)).2.2:Nat):Int)]/\A.le A1/\A1.wf):=by
 refine aN (e:=[(0,.agg #[num (g),u,rv])]) (args:=[.agg #[num (g),u,rv]]) call69 func69 Z results69 ntmps69 Z Z Z (fun wf=>?_);have fr:=AH.le.refl A;refine ak.sq fun h2=>.region<|.m (fun fn=>dQ wf rfl rfl fun A5 b4 ch=>?_);have eb:=fr.trans ch.le;refine fn<|.I Z<|.m (fun fo=>co ch.wf Gh rfl fun A10 b9 aB=>?_);have aD:=bh wf (Xj eb.n aB.lo);have e5:=aB.le.g ch.get;have aA:=eb.trans aB.le;refine fo<|.I Z<|.nil<|h2<|.sq fun f0=>.region<|.p (ao fW fw Z Z e5 Z)<|.m (fun eB=>ax Z (Th ((g)) u l rv rs A10 (kn hs) (ug hs) (zW hs) hmx (hL.le aA) (hu.le aA) (hr.le aA) (hp.le aA)) ?_);rintro fX A18 ⟨b8,rfl,b5,fD,bd⟩;have e6:=b5.g e5;have e7:=b5.g aB.get;have aT:=aA.trans b5;have bD:=bd.base aA;refine eB<|.J Z<|.p (bj Z Z)<|.p (bj Z Z)<|.I Z<|.I Z<|.nil<|f0<|.sq fun f1=>.sq fun f2=>?_;refine ak.region<|.J Z<|.p (ff Z)<|.nil<|f2<|.cond_false Z<|.skip<|f1<|.sq fun f3=>.region ?_;refine Ops.p (ao fW fw Z Z e6 Z)<|.m (fun eC=>ax Z (qW ((g)) u l rv rs A18 (ug hs) (ya hs) (hu.le aT) (hr.le aT) (hp.le aT)) ?_);rintro g0 A34 ⟨h,b7,rfl,b6,ac,b2,ab,aS,bY⟩;have bL:=bD.le b6;have hrow:=b2;have hno:=ab;have hix:=aS;have hOn:=bY;have dW:b4 ≠ h:=fun z=>by have q0:=e6;rw [z,ab] at q0;cases q0
 have av:b9 ≠ h:=fun z=>by have q0:=e7;rw [z,ab] at q0;cases q0
 have b1:=tD aT ab;have eN:=C5 bD.own ab;refine eC<|.I Z<|.nil<|f3<|.sq fun f4=>.sq fun f6=>.region<|.J Z<|.p (bx (n:=(bn ((g)) rs).length) u78 Z bL.slc O (Jx _))<|.J Z ?_;refine Ops.nil<|f6<|.block<|.loop (X:=Nat × Value × Value × Value × Value × Value × Value) (fun ⟨i,y0,y5,y6,y7,y8,y9⟩=>[(3,.pointer (some ⟨b9,0,none⟩)),(7,.pointer (some ⟨h,0,none⟩)),(24,b8),(25,num (((bn ((g)) rs).length:Nat):Int)),(26,num ((i:Nat):Int))]) (fun ⟨i,y0,y5,y6,y7,y8,y9⟩ B=>(i<=(bn g rs).length/\iz rs ((bn g rs).drop i)=iz rs (bn g rs))/\A.le B/\Fresh A B b8 5 (GH (bn ((g)) rs))/\B.get h=some (.row true [y0,num ((g)),u,rv,.map (some b7),y5,y6,y7,y8,y9] 10)/\B.get b9=some (.row true [num ((0:Nat):Int),num ((0:Nat):Int),aM ([]),aM ([]),aM ([])] 5)/\V.blk b8 ≠ some h/\V.blk b8 ≠ some b9/\(A34.hide [some h]).le B) (fun ⟨i,y0,y5,y6,y7,y8,y9⟩=>(bn g rs).length - i) (⟨0,.slice none 0 0,.slice none 0 0,num ((0:Nat):Int),aM ([]),num ((0:Nat):Int),.slice none 0 0⟩) (nR Z Z Z Z Z) (⟨⟨XZ _,Z⟩,(aT.trans b6),bL,b2,(b6.g e7),eN,(bd.ne aB.wf aB.get),(cL A34 [some h])⟩) ?_;rintro ⟨i,y0,y5,y6,y7,y8,y9⟩ B46 ⟨⟨hi,hsc⟩,bb,aa,aC,az,a3,aZ,bl⟩;refine ak.wf fun b0=>.sq fun f7=>.region<|.p (bK Z Z)<|.nil<|f7<|.sq fun f9=>.if rfl (fun ft=>?_) (fun ft=>?_)
 ·refine ak.skip<|f9<|.sq fun fd=>.block<|.sq fun fe=>.region ?_;obtain ⟨fO,fS,fM,fV,fL,fU,fT,eY,fq,eZ,ec,fI⟩:=bz.at (i:=i) aa.slc (by simp only [pg];omega) O;refine Ops.p (al u78 lN Z eY Z fq)<|.p (ao wA lN Z Z eZ (ec.trans (Xk some (YL O))))<|.m (fun eE=>co b0 Gh rfl fun A60 fQ a5=>?_);have a6:=ne_new b0 aC a5.lo;have bO:=bh (cx ac) (Xj bl.n a5.lo);refine eE<|.m (fun eG=>aU (cs:=[num (((bn ((g)) rs).getD i .zero).i),num (((bn ((g)) rs).getD i .zero).j),aM (((bn ((g)) rs).getD i .zero).word),aM (((bn ((g)) rs).getD i .zero).u),aM (((bn ((g)) rs).getD i .zero).v)]) (c':=[num (((bn ((g)) rs).getD i .zero).i),num (((bn ((g)) rs).getD i .zero).j),aM (((bn ((g)) rs).getD i .zero).word),aM (((bn ((g)) rs).getD i .zero).u),aM (((bn ((g)) rs).getD i .zero).v)]) a5.wf rfl rfl rfl rfl lN a5.get G rfl rfl fun A69 a7=>?_);have fl:=a7.k a6 (a5.le.g aC);have ee:=(aa.le a5.le).keep a7.keep (aa.own.ne_new b0 a5.lo);have eM:=an (bl.trans a5.le) (cx ac) bO a7.n a7.keep;refine eG<|.nil<|fe<|.sq fun fm=>.region<|.J Z<|.p (ae YY fK U Z)<|.p (ah gK Z Z a7.get Z) ?_;have aV:=cy (bs:=[some h]) (an (bb.trans a5.le) wf (bh wf (Xj bb.n a5.lo)) a7.n a7.keep) (yn b1 rK);have c0:=cy (bs:=[some h]) eM (yn (cD (by simp)) rK);refine Ops.m (fun eK=>ax Z (wk (((bn ((g)) rs).getD i .zero).u) rs l h (((g))) u rv b7 y0 y5 y6 y7 y8 y9 (A69.hide [some h]) A69 (cL A69 [some h]) (cx a7.wf) fl (cD (by simp)) hs (hL.le aV) (hr.le aV) (hp.le aV) (aS.le c0)) ?_);rintro g1 A80 ⟨fv,dZ,e0,e1,e2,e3,e4,rfl,ar,ay,ai,bu,ck⟩;have ez:=ce (bs:=[some h]) (a7.k (ne_new b0 az a5.lo) (a5.le.g az)) (rP av nZ);have e9:=ar.g ez;have eA:=ce (bs:=[some h]) a7.get (rP a6.symm nZ);have ea:=ar.g eA;have bM:=ee.off (ln a3 lm) ar;have c3:=c0.trans ar;have cc:=aV.trans ar;refine eK<|.J Z<|.p (bj Z Z)<|.p (bj Z Z)<|.m (fun eL=>co ay Kz rfl fun A97 fR a2=>?_);have ag:=ne_new ay ai a2.lo;have bP:=bh (cx ac) (Xj c3.n a2.lo);have cV:=(bu.base aV).le a2.le;refine eL ?_;obtain ⟨ct,c4,bB,eT,_⟩:=cV.own.slice;subst eT;refine Ops.m (fun dd=>aU (cs:=[aM ((gJ (gt rs (((bn ((g)) rs).getD i .zero).u))).word),num (((gJ (gt rs (((bn ((g)) rs).getD i .zero).u))).steps:Nat):Int),.slice ct c4 bB]) (c':=[aM ((gJ (gt rs (((bn ((g)) rs).getD i .zero).u))).word),num (((gJ (gt rs (((bn ((g)) rs).getD i .zero).u))).steps:Nat):Int),.slice ct c4 bB]) a2.wf rfl rfl rfl rfl jb a2.get G rfl rfl fun A110 a4=>?_);have eg:=a4.k ag (a2.le.g ai);have bR:=a4.k (ne_new ay ea a2.lo) (a2.le.g ea);have cX:=(bM.le a2.le).keep a4.keep (bM.own.ne_new ay a2.lo);have dI:=an (c3.trans a2.le) (cx ac) bP a4.n a4.keep;refine dd<|.I Z<|.nil<|fm<|.sq fun ek=>.region<|.J Z<|.p (ae YZ fK U Z)<|.p (ah gK Z Z bR Z) ?_;have ap:=cy (bs:=[some h]) (an (cc.trans a2.le) wf (bh wf (Xj cc.n a2.lo)) a4.n a4.keep) (yn b1 rK);have bm:=cy (bs:=[some h]) dI (yn (cD (by simp)) rK);refine Ops.m (fun di=>ax Z (wk (((bn ((g)) rs).getD i .zero).v) rs l h (((g))) u rv b7 dZ e0 e1 e2 e3 e4 (A110.hide [some h]) A110 (cL A110 [some h]) (cx a4.wf) eg (cD (by simp)) hs (hL.le ap) (hr.le ap) (hp.le ap) (aS.le bm)) ?_);rintro fN A123 ⟨eX,cC,cH,cK,cP,cS,cT,rfl,a8,a9,ad,ba,bA⟩;have d1:=ce (bs:=[some h]) (a4.k (ne_new ay e9 a2.lo) (a2.le.g e9)) (rP av nZ);have bS:=a8.g d1;have d2:=ce (bs:=[some h]) bR (rP a6.symm nZ);have bT:=a8.g d2;have d3:=ce (bs:=[some h]) a4.get (rP ag.symm nZ);have bU:=a8.g d3;have bc:=cX.off (ln a3 lm) a8;have bp:=bm.trans a8;have br:=ap.trans a8;refine di<|.J Z<|.p (bj Z Z)<|.p (bj Z Z)<|.m (fun dj=>co a9 Kz rfl fun A145 fE a0=>?_);have aY:=ne_new a9 ad a0.lo;have bv:=bh (cx ac) (Xj bp.n a0.lo);have cZ:=(ba.base ap).le a0.le;refine dj ?_;obtain ⟨cv,c7,bC,eV,_⟩:=cZ.own.slice;subst eV;refine Ops.m (fun dv=>aU (cs:=[aM ((gJ (gt rs (((bn ((g)) rs).getD i .zero).v))).word),num (((gJ (gt rs (((bn ((g)) rs).getD i .zero).v))).steps:Nat):Int),.slice cv c7 bC]) (c':=[aM ((gJ (gt rs (((bn ((g)) rs).getD i .zero).v))).word),num (((gJ (gt rs (((bn ((g)) rs).getD i .zero).v))).steps:Nat):Int),.slice cv c7 bC]) a0.wf rfl rfl rfl rfl jb a0.get G rfl rfl fun A161 a1=>?_);have b3:=a1.k (ne_new a9 bS a0.lo) (a0.le.g bS);have d0:=(bc.le a0.le).keep a1.keep (bc.own.ne_new a9 a0.lo);have aF:=an (br.trans a0.le) wf (bh wf (Xj br.n a0.lo)) a1.n a1.keep;refine dv<|.I Z<|.nil<|ek<|.sq fun em=>.sq fun bV=>.region<|.J Z<|.p (ff Z)<|.J Z ?_;refine Ops.partB (t:=46) Z (fun eQ=>?_) (fun eQ=>?_)
  ·refine Ops.off Z Z Z Z<|.off Z Z Z Z<|.p (aJ Z Z)<|.nil<|bV<|.cond_true Z<|.sq fun en=>.region<|.p (dn Z (bE Z7 Gh Iz Z))<|.I Z ?_;refine Ops.m (fun dw=>aU (cs:=[num ((0:Nat):Int),num ((0:Nat):Int),aM ([]),aM ([]),aM ([])]) (c':=[num ((0:Nat):Int),num ((0:Nat):Int),aM ([]),aM ([]),aM ([])]) a1.wf rfl rfl rfl rfl lN b3 G rfl rfl fun A180 aG=>?_);have dJ:=an aF wf aD aG.n aG.keep;refine dw<|.I Z<|.nil<|en<|.rt (by exact aH (fB Z (e8 wA lN Z aG.get Z (fB Z gB))) (⟨by (rw [FA O hsc (by first | exact .inl ‹_› | exact .inr ‹_›)];rfl),dJ,aG.wf⟩))
  refine Ops.on Z Z<|.J Z<|.on Z Z<|.p (ff Z)<|.p (aO Z Z)<|.nil<|bV<|.ifB Z (fun eR=>?_) (fun eR=>?_)
  ·refine ak.sq fun er=>.region<|.p (dn Z (bE Z7 Gh Iz Z))<|.I Z<|.m (fun dz=>aU (cs:=[num ((0:Nat):Int),num ((0:Nat):Int),aM ([]),aM ([]),aM ([])]) (c':=[num ((0:Nat):Int),num ((0:Nat):Int),aM ([]),aM ([]),aM ([])]) a1.wf rfl rfl rfl rfl lN b3 G rfl rfl fun A194 aI=>?_);have dO:=an aF wf aD aI.n aI.keep;refine dz<|.I Z<|.nil<|er<|.rt (by exact aH (fB Z (e8 wA lN Z aI.get Z (fB Z gB))) (⟨by (rw [FA O hsc (by first | exact .inl ‹_› | exact .inr ‹_›)];rfl),dO,aI.wf⟩))
  refine ak.skip<|em<|.sq fun ev=>.region<|.p (ae sk fK U Z)<|.p (ah gK Z Z (a1.k (ne_new a9 bU a0.lo) (a0.le.g bU)) Z)<|.p (ae sk fK U Z)<|.p (ah gK Z Z a1.get Z)<|.p (qO Z Z)<|.nil ?_;refine ev<|.if rfl (fun eS=>?_) (fun eS=>?_)
  ·refine ak.sq fun ex=>.drawn [0,1,2,3] mixed Y Y Z<|.p Z (ao wA lN Z Z (a1.k (ne_new a9 bT a0.lo) (a0.le.g bT)) Z)<|.p Z (d7 Z)<|.m Z (fun dD=>aU (cs:=[num (((bn ((g)) rs).getD i .zero).i),num (((bn ((g)) rs).getD i .zero).j),aM (((bn ((g)) rs).getD i .zero).word),aM (((bn ((g)) rs).getD i .zero).u),aM (((bn ((g)) rs).getD i .zero).v)]) (c':=[num (((bn ((g)) rs).getD i .zero).i),num (((bn ((g)) rs).getD i .zero).j),aM (((bn ((g)) rs).getD i .zero).word),aM (((bn ((g)) rs).getD i .zero).u),aM (((bn ((g)) rs).getD i .zero).v)]) a1.wf rfl rfl rfl rfl lN b3 G rfl rfl fun A215 aP=>?_);have dS:=an aF wf aD aP.n aP.keep;refine dD (bg.none Y)<|.p Z (d7 Z)<|.done<|ex<|.rt (by exact aH (fB Z (e8 wA lN Z aP.get Z (fB Z gB))) (⟨by (rw [TD O hsc ‹_› ‹_› ‹_›];rfl),dS,aP.wf⟩))
  refine ak.skip<|fd<|.region<|.p (bk (b:=1) Z Z O)<|.J Z<|.nil ?_;exact ⟨⟨i + 1,cC,cH,cK,cP,cS,cT⟩,nR Z Z Z Z Z,Z,⟨⟨by omega,Nw O hsc ‹_› ‹_› ‹_›⟩,aF,d0,(a1.k aY (a0.le.g ad)),b3,a3,aZ,(an (bp.trans a0.le) (cx ac) bv a1.n a1.keep)⟩,O1⟩
 refine ak.exit<|f4<|.sq fun ey=>.region<|.p (dn Z (bE Z7 Gh Iz Z))<|.I Z<|.m (fun dG=>aU (cs:=[num ((0:Nat):Int),num ((0:Nat):Int),aM ([]),aM ([]),aM ([])]) (c':=[num ((0:Nat):Int),num ((0:Nat):Int),aM ([]),aM ([]),aM ([])]) b0 rfl rfl rfl rfl lN az G rfl rfl fun A228 aR=>?_);have dV:=an bb wf aD aR.n aR.keep;refine dG<|.I Z<|.nil<|ey<|.rt (by exact aH (fB Z (e8 wA lN Z aR.get Z (fB Z gB))) (⟨by (rw [TE O hsc];rfl),dV,aR.wf⟩))
theorem Co (g:Int) (u:Value) (l:List W8) (rv:Value) (rs:List aQ) (A:AH) (hn:l.length<=9223372036854775807) (hm:rs.length<=9223372036854775807) (hmx:bN g l rs=true->(bn g rs).length<=50000) (hL:iB A) (hu:bz A 1 u (dB l)) (hr:bz A 3 rv (dh rs)) (hp:Proofs A rs):bH prog 28 #[.agg #[num (g),u,rv]] A (fun v A1=>v=.tuple #[.bool (gO g l rs).1,Yo (gO g l rs).2.1,num (((gO g l rs).2.2:Nat):Int)]/\A.le A1/\A1.wf):=by
 refine aN (e:=[(0,.agg #[num (g),u,rv])]) (args:=[.agg #[num (g),u,rv]]) call28 func28 Z results28 ntmps28 Z Z Z (fun wf=>?_);have aD:=AH.le.refl A;refine ak.sq fun h2=>.region<|.m (fun aB=>dQ wf rfl rfl fun A5 b4 a5=>?_);have aa:=aD.trans a5.le;refine aB<|.I Z<|.m (fun aC=>co a5.wf Gh rfl fun A10 b9 a0=>?_);have a3:=bh wf (Xj aa.n a0.lo);have a8:=a0.le.g a5.get;have V:=aa.trans a0.le;refine aC<|.I Z<|.nil<|h2<|.sq fun ar=>.sq fun av=>.region<|.p (ao fW fw Z Z a8 Z)<|.m (fun ab=>ax Z (kJ ((g)) u l rv rs A10 hn hm (hL.le V) (hu.le V) (hr.le V) (hp.le V)) ?_);rintro aG A20 ⟨rfl,X,a6⟩;have ay:=X.g a8;have a9:=X.g a0.get;have h:=V.trans X;refine ab<|.p (ff Z)<|.nil<|av<|.ifB Z (fun aF=>?_) (fun aF=>?_)
 ·refine ak.sq fun az=>.region<|.p (dn Z (bE Z7 Gh Iz Z))<|.I Z<|.m (fun ac=>aU (cs:=[num ((0:Nat):Int),num ((0:Nat):Int),aM ([]),aM ([]),aM ([])]) (c':=[num ((0:Nat):Int),num ((0:Nat):Int),aM ([]),aM ([]),aM ([])]) a6 rfl rfl rfl rfl lN a9 G rfl rfl fun A29 a1=>?_);have ai:=an h wf a3 a1.n a1.keep;refine ac<|.I Z<|.nil<|az<|.rt (by exact aH (fB Z (e8 wA lN Z a1.get Z (fB Z gB))) (⟨by (rw [UZ ‹_›];rfl),ai,a1.wf⟩))
 refine ak.skip<|ar<|.sq fun aA=>.region<|.p (ao fW fw Z Z ay Z)<|.m (fun ad=>ax Z (Xg ((g)) u l rv rs A20 (by simpa using ‹(!bN g l rs)=false›) (hmx (by simpa using ‹(!bN g l rs)=false›)) (hL.le h) (hu.le h) (hr.le h) (hp.le h)) ?_);rintro aI A37 ⟨rfl,a4,a7⟩;refine ad<|.p (bj Z Z)<|.p (bj Z Z)<|.p (bj Z Z)<|.I Z<|.m (fun ag=>aU (cs:=[num ((iz rs (bn ((g)) rs)).2.1.i),num ((iz rs (bn ((g)) rs)).2.1.j),aM ((iz rs (bn ((g)) rs)).2.1.word),aM ((iz rs (bn ((g)) rs)).2.1.u),aM ((iz rs (bn ((g)) rs)).2.1.v)]) (c':=[num ((iz rs (bn ((g)) rs)).2.1.i),num ((iz rs (bn ((g)) rs)).2.1.j),aM ((iz rs (bn ((g)) rs)).2.1.word),aM ((iz rs (bn ((g)) rs)).2.1.u),aM ((iz rs (bn ((g)) rs)).2.1.v)]) a7 rfl rfl rfl rfl lN (a4.g a9) G rfl rfl fun A43 a2=>?_);have ap:=an (h.trans a4) wf a3 a2.n a2.keep;refine ag<|.I Z<|.nil<|aA<|.rt (by exact aH (fB Z (e8 wA lN Z a2.get Z (fB Z gB))) (⟨by (rw [U6 ‹_›];rfl),ap,a2.wf⟩))
theorem WQ (g:Int) (u:Value) (l:List W8) (rv:Value) (rs:List aQ) (A:AH) (hn:l.length<=9223372036854775807) (hm:rs.length<=9223372036854775807) (hmx:bN g l rs=true->(bn g rs).length<=50000) (hL:iB A) (hu:bz A 1 u (dB l)) (hr:bz A 3 rv (dh rs)) (hp:Proofs A rs):bH prog 30 #[.agg #[num (g),u,rv]] A (fun v A1=>v=.tuple #[.bool (pd g l rs).1,num (((pd g l rs).2:Nat):Int)]/\A.le A1/\A1.wf):=by
 refine aN (e:=[(0,.agg #[num (g),u,rv])]) (args:=[.agg #[num (g),u,rv]]) call30 func30 Z results30 ntmps30 Z Z Z (fun wf=>?_);have cP:=AH.le.refl A;refine ak.sq fun h2=>.region<|.m (fun cH=>dQ wf rfl rfl fun A5 b4 b5=>?_);have ac:=cP.trans b5.le;refine cH<|.I Z<|.I Z<|.nil<|h2<|.sq fun h9=>.region<|.p (ao fW fw Z Z b5.get Z)<|.m (fun bv=>ax Z (Co ((g)) u l rv rs A5 hn hm hmx (hL.le ac) (hu.le ac) (hr.le ac) (hp.le ac)) ?_);rintro dD A12 ⟨rfl,ai,ay⟩;have bb:=ai.g b5.get;have b1:=ac.trans ai;refine bv<|.J Z<|.p (bj Z Z)<|.p (bj Z Z)<|.p (bj Z Z)<|.m (fun bA=>co ay Gh rfl fun A18 bP a4=>?_);refine bA<|.I Z<|.m (fun bB=>aU (cs:=[num ((gO ((g)) l rs).2.1.i),num ((gO ((g)) l rs).2.1.j),aM ((gO ((g)) l rs).2.1.word),aM ((gO ((g)) l rs).2.1.u),aM ((gO ((g)) l rs).2.1.v)]) (c':=[num ((gO ((g)) l rs).2.1.i),num ((gO ((g)) l rs).2.1.j),aM ((gO ((g)) l rs).2.1.word),aM ((gO ((g)) l rs).2.1.u),aM ((gO ((g)) l rs).2.1.v)]) a4.wf rfl rfl rfl rfl lN a4.get G rfl rfl fun A23 a6=>?_);have aT:=a6.k (ne_new ay bb a4.lo) (a4.le.g bb);have a3:=an (b1.trans a4.le) wf (bh wf (Xj b1.n a4.lo)) a6.n a6.keep;refine bB<|.I Z<|.nil<|h9<|.sq fun bT=>.sq fun bU=>.region<|.J Z<|.p (fy (b:=0) Z Z)<|.nil ?_;refine bU<|.if rfl (fun cS=>?_) (fun cS=>?_)
 ·refine ak.sq fun bV=>.region<|.J Z<|.I Z<|.I Z<|.nil<|bV<|.rt (by exact aH Z (⟨by (rw [Pb ‹_›];rfl),a3,a6.wf⟩))
 refine ak.skip<|bT<|.sq fun bY=>.region<|.p (ao fW fw Z Z aT Z)<|.m (fun bC=>ax Z (qW ((g)) u l rv rs A23 (ug (uD ‹_›)) (ya (uD ‹_›)) (hu.le a3) (hr.le a3) (hp.le a3)) ?_);rintro dG A38 ⟨h,av,rfl,ap,az,a8,a1,aa,aV⟩;have b2:=a3.trans ap;have hrow:=a8;have hno:=a1;have hix:=aa;have hOn:=aV;have b9:b4 ≠ h:=fun z=>by have q0:=aT;rw [z,a1] at q0;cases q0
 have b7:bP ≠ h:=fun z=>by have q0:=a6.get;rw [z,a1] at q0;cases q0
 have aR:=tD a3 a1;refine bC<|.I Z<|.nil<|bY<|.sq fun c0=>.region<|.I Z<|.nil<|c0<|.sq fun c3=>?_;refine ak.sq fun c4=>.region<|.p (ae gy iw U Z)<|.p (ae iR qk U Z)<|.p (ah qc Z Z (ap.g aT) Z)<|.p (bx (n:=l.length) ko Z (hu.le b2) O (dY _))<|.J Z<|.nil<|c4<|.block ?_;refine ak.loop (X:=Nat × Bool × Value × Value × Value × Value × Value × Value) (fun ⟨i,t,y0,y5,y6,y7,y8,y9⟩=>[(4,.bool ((gO ((g)) l rs).1)),(7,.pointer (some ⟨h,0,none⟩)),(8,.bool (t)),(26,u),(27,num ((l.length:Nat):Int)),(28,num ((i:Nat):Int))]) (fun ⟨i,t,y0,y5,y6,y7,y8,y9⟩ B=>(i<=l.length/\ny rs t (l.drop i)=ny rs true l)/\A.le B/\B.get h=some (.row true [y0,num ((g)),u,rv,.map (some av),y5,y6,y7,y8,y9] 10)/\(A38.hide [some h]).le B) (fun ⟨i,t,y0,y5,y6,y7,y8,y9⟩=>l.length - i) (⟨0,true,.slice none 0 0,.slice none 0 0,num ((0:Nat):Int),aM ([]),num ((0:Nat):Int),.slice none 0 0⟩) (yA Z Z Z Z Z Z) (⟨⟨XZ _,Z⟩,b2,a8,(cL A38 [some h])⟩) ?_;rintro ⟨i,t,y0,y5,y6,y7,y8,y9⟩ B50 ⟨⟨hi,hsc⟩,a9,ab,b8⟩;refine ak.wf fun ag=>.sq fun c7=>.region<|.p (bK Z Z)<|.nil<|c7<|.sq fun cc=>.if rfl (fun cT=>?_) (fun cT=>?_)
 ·refine ak.skip<|cc<|.sq fun bc=>.block<|.sq fun ch=>.region ?_;obtain ⟨dd,dj,d3,dz,d2,dw,dv,bR,cK,bS,d1,br⟩:=bz.at (i:=i) (hu.le a9) Ok O;refine Ops.p (al ko fK Z bR Z cK)<|.p (ah gK Z Z bS ((cb br).trans (dm O)))<|.I Z<|.nil<|ch<|.sq fun ck=>.region<|.J Z<|.J Z ?_;have a5:=cy (bs:=[some h]) a9 (yn aR rK);have aY:=cy (bs:=[some h]) b8 (yn (cD (by simp)) rK);refine Ops.m (fun bD=>ax Z (wk (l.getD i []) rs l h (((g))) u rv av y0 y5 y6 y7 y8 y9 (B50.hide [some h]) B50 (cL B50 [some h]) (cx ag) ab (cD (by simp)) (uD ‹_›) (hL.le a5) (hr.le a5) (hp.le a5) (aa.le aY)) ?_);rintro dI A66 ⟨d0,aB,aC,aD,aF,aG,aI,rfl,ar,aA,a2,aP,b6⟩;have aZ:=aY.trans ar;have b3:=a5.trans ar;refine bD<|.J Z<|.p (bj Z Z)<|.p (bj Z Z)<|.m (fun bL=>co aA Kz rfl fun A75 di V=>?_);have a7:=ne_new aA a2 V.lo;have aS:=bh (cx az) (Xj aZ.n V.lo);have bu:=(aP.base a5).le V.le;refine bL ?_;obtain ⟨bp,bm,ba,cZ,_⟩:=bu.own.slice;subst cZ;refine Ops.m (fun bM=>aU (cs:=[aM ((gJ (gt rs (l.getD i []))).word),num (((gJ (gt rs (l.getD i []))).steps:Nat):Int),.slice bp bm ba]) (c':=[aM ((gJ (gt rs (l.getD i []))).word),num (((gJ (gt rs (l.getD i []))).steps:Nat):Int),.slice bp bm ba]) V.wf rfl rfl rfl rfl jb V.get G rfl rfl fun A84 a0=>?_);have bd:=a0.k a7 (V.le.g a2);have b0:=an (aZ.trans V.le) (cx az) aS a0.n a0.keep;have ad:=an (b3.trans V.le) wf (bh wf (Xj b3.n V.lo)) a0.n a0.keep;refine bM<|.I Z<|.nil<|ck<|.sq fun ct=>.sq fun cv=>.region<|.J Z<|.p (ff Z)<|.nil ?_;refine cv<|.ifB Z (fun cV=>?_) (fun cV=>?_)
  ·refine ak.sq fun cC=>.region<|.I Z<|.I Z<|.nil<|cC<|.rt (by exact aH Z (⟨by (rw [Pd ‹_› (Nu O hsc ‹_›)];rfl),ad,a0.wf⟩))
  refine ak.skip<|ct<|.region<|.J Z<|.J Z<|.partB (t:=41) Z (fun cX=>?_) (fun cX=>?_)
  ·refine Ops.on Z Z<|.p (ae sk fK U Z)<|.on Z Z<|.p (ah gK Z Z a0.get Z)<|.on Z Z<|.p (nw Z Z)<|.p (aJ Z Z)<|.I Z<|.nil<|bc ?_;refine ak.region<|.p (bk (b:=1) Z Z O)<|.J Z<|.nil ?_;exact ⟨⟨i + 1,decide ((gJ (gt rs (l.getD i []))).word=[]),aB,aC,aD,aF,aG,aI⟩,yA Z Z Z Z Z Z,Z,⟨⟨by omega,by have:=xQ O hsc ‹_›;simp_all⟩,ad,bd,b0⟩,O1⟩
  refine Ops.off Z Z Z Z<|.off Z Z Z Z<|.off Z Z Z Z<|.p (aO Z Z)<|.I Z<|.nil<|bc<|.region<|.p (bk (b:=1) Z Z O)<|.J Z ?_;refine Ops.nil ?_;exact ⟨⟨i + 1,false,aB,aC,aD,aF,aG,aI⟩,yA Z Z Z Z Z Z,Z,⟨⟨by omega,by have:=xQ O hsc ‹_›;simp_all⟩,ad,bd,b0⟩,O1⟩
 refine ak.exit<|c3<|.sq fun bl=>.region<|.J Z<|.J Z<|.partB (t:=48) Z (fun bO=>?_) (fun bO=>?_)
 ·refine Ops.on Z Z<|.J Z<|.p (aJ Z Z)<|.I Z<|.I Z<|.nil<|bl<|.rt (by exact aH Z (⟨by (rw [Db ‹_› (zQ O hsc)];simp_all [fZ]),a9,ag⟩))
 refine Ops.off Z Z Z Z<|.p (aO Z Z)<|.I Z<|.I Z<|.nil<|bl<|.rt (by exact aH Z (⟨by (rw [Db ‹_› (zQ O hsc)];simp_all [fZ]),a9,ag⟩))
def dx (l:List Value):List Value:=l
theorem bw (l:List Value):(dx l).length=l.length:=rfl
theorem fp (l:List Value):(dx l).length=l.length * 1:=by simp [dx]
theorem c6 {l:List Value} {i:Nat} (h:i < l.length):(dx l)[i]? = some (l.getD i undef):=by simp [dx,h]
theorem lx (a b:List Value):dx a ++ dx b=dx (a ++ b):=rfl
theorem tN (a:List Value) (n:Nat) (c:Value):(dx a).set n c=dx (a.set n c):=rfl
structure i0 {α:Type} (kk:Nat) (f:List α->List Value) (A0 A:AH) (rows:List Value) (L:List (List α)):Prop where
  len:rows.length=L.length
  fr:∀ i,i < L.length->Fresh A0 A (rows.getD i undef) kk (f (L.getD i []))
  sp:∀ i j,i < L.length->j < L.length->i ≠ j->aL (rows.getD i undef) (rows.getD j undef)
abbrev iZ (A0 A:AH) (rows:List Value) (L:List (List Int)):Prop:=i0 1 cf A0 A rows L
def cu (rows:List Value) (b:Nat):Prop:=∀ r ∈ rows,blk r ≠ some b
def au (v:Value) (rows:List Value):Prop:=∀ r ∈ rows,aL v r
theorem kw {A0 A:AH} {rows:List Value} {L L':List (List Int)} (h:iZ A0 A rows L) (e:L=L'):iZ A0 A rows L':=e ▸ h
theorem _root_.Go.Proofs.YtjppkekmddjcfaaGreatDoor.V.Fresh.at1 {A0 A:AH} {v:Value} {xs:List Value} {x:Nat} (fr:Fresh A0 A v 1 xs) (hx:x < xs.length):∃ b n c r rcap,v=.slice (some ⟨b,0,none⟩) n c/\n=xs.length/\A.get b=some (.row true r rcap)/\x < r.length/\A0.get b=none/\r.take n=xs /\
    ∀ (w:Value) A1,s7 A A1 b (.row true (r.set x w) rcap)->Fresh A0 A1 v 1 (xs.set x w):=by
  obtain ⟨b,n,c,e,h1,h2⟩:=fr.nonnil (by intro q;rw [q] at hx;simp at hx)
  have lo:=fr.lo b (by rw [e];rfl)
  subst e
  obtain ⟨r,rcap,g,h3,h4⟩:=fr.row
  rw [VY] at h1 h3
  have hl:n<=r.length:=by have:=Xk List.length h3;rw [Vz] at this;omega
  exact ⟨b,n,c,r,rcap,rfl,h1,g,by omega,lo,h3,fun w A1 sb=>fr.setc g sb⟩
section
variable {A0 A A1:AH} {rows:List Value} {α:Type} {kk:Nat} {f:List α->List Value} {L:List (List α)} {b s x:Nat} {v v':Value} {size:Nat} {xs:List Value} {r:List α} {o:gv}
theorem oG {p:Value->Prop} (hl:rows.length=L.length) (h:∀ i,i < L.length->p (rows.getD i undef)):∀ r ∈ rows,p r:=fun r hr=>by
  obtain ⟨i,hi,rfl⟩:=VQ hr
  have:=h i O
  simpa [hi] using this
theorem cF {p:Value->Prop} (h:∀ r ∈ rows,p r) (hi:s < rows.length):p (rows.getD s undef):=h _ (aX (d:=undef) hi)
theorem i0.nil:i0 kk f A0 A [] []:=⟨rfl,(fun _ h=>by cases h),(fun _ _ h=>by cases h)⟩
theorem i0.le (h:i0 kk f A0 A rows L) (le:A.le A1):i0 kk f A0 A1 rows L:=⟨h.len,fun i hi=>(h.fr i hi).le le,h.sp⟩
theorem i0.base {M:AH} (h:i0 kk f M A rows L) (le:A0.le M):i0 kk f A0 A rows L:=⟨h.len,fun i hi=>(h.fr i hi).base le,h.sp⟩
theorem i0.keep (h:i0 kk f A0 A rows L) (k:∀ b' o,b' ≠ b->A.get b'=some o->A1.get b'=some o) (n:cu rows b):i0 kk f A0 A1 rows L :=
  ⟨h.len,fun i hi=>(h.fr i hi).keep k (cF n (by rw [h.len];exact hi)),h.sp⟩
theorem i0.appd {zs:List Value} {n:Nat} (h:i0 kk f A0 A rows L) (ap:nA A v n zs v' A1) (hs:au v rows):i0 kk f A0 A1 rows L :=
  ⟨h.len,fun i hi=>(h.fr i hi).appd ap (cF hs (by rw [h.len];exact hi)),h.sp⟩
theorem au.nil:au (.slice none 0 0) rows:=fun _ _=>aL.nil
theorem au.empty:au v []:=fun _ h=>by cases h
theorem au.appd {zs:List Value} {n:Nat} (hs:au v rows) (h:i0 kk f A0 A rows L) (wf:A.wf) (ap:nA A v n zs v' A1):au v' rows :=
  oG h.len fun i hi=>aL.appd (cF hs (by rw [h.len];exact hi)) (h.fr i hi).own wf ap
theorem au.new {n c:Nat} (h:cu rows b):au (.slice (some ⟨b,0,none⟩) n c) rows:=fun r hr k hk hq=>by cases hk;exact h r hr hq
theorem au.fresh {n:Nat} (h:i0 kk f A0 A rows L) (fr:Fresh A A1 v n xs):au v rows:=oG h.len fun i hi c hv hc=>by
  obtain ⟨o,ho⟩:=(h.fr i hi).own.blkget hc
  rw [fr.lo c hv] at ho;cases ho
theorem i0.ne_new (h:i0 kk f A0 A rows L) (wf:A.wf) (hb:A.n<=b):cu rows b:=oG h.len fun i hi=>(h.fr i hi).own.ne_new wf hb
theorem i0.ne (h:i0 kk f A0 A rows L) (hb:A0.get b=some o):cu rows b:=oG h.len fun i hi=>(h.fr i hi).seph hb
theorem cu.snoc (h:cu rows b) (hv:V.blk v ≠ some b):cu (rows ++ [v]) b:=fun r hr=>by
  rcases VJ.1 hr with q | q
  · exact h r q
  · rw [XW] at q;subst q;exact hv
theorem au.snoc {u:Value} (h:au u rows) (hv:aL u v):au u (rows ++ [v]):=fun r hr=>by
  rcases VJ.1 hr with q | q
  · exact h r q
  · rw [XW] at q;subst q;exact hv
theorem i0.snoc (h:i0 kk f A0 A rows L) (fr:Fresh A0 A v kk (f r)) (hs:au v rows):i0 kk f A0 A (rows ++ [v]) (L ++ [r]):=by
  have e1:∀ i,i < L.length->(rows ++ [v]).getD i undef=rows.getD i undef:=fun i hi=>by simp [Sx (show i < rows.length by rw [h.len];exact hi)]
  have e2:(rows ++ [v]).getD L.length undef=v:=by rw [<- h.len];simp
  have e3:∀ i,i < L.length->(L ++ [r]).getD i []=L.getD i []:=fun i hi=>by simp [Sx hi]
  have e4:(L ++ [r]).getD L.length []=r:=by simp
  refine ⟨by simp [h.len],fun i hi=>?_,fun i j hi hj hij=>?_⟩
  · rcases VW i L.length with q | q
    · rw [e1 i q,e3 i q];exact h.fr i q
    · obtain rfl:i=L.length:=by simp at hi;omega
      rw [e2,e4];exact fr
  · rcases VW i L.length with q | q
    · rcases VW j L.length with q2 | q2
      · rw [e1 i q,e1 j q2];exact h.sp i j q q2 hij
      · obtain rfl:j=L.length:=by simp at hj;omega
        rw [e1 i q,e2];exact (cF hs (by rw [h.len];exact q)).symm
    · obtain rfl:i=L.length:=by simp at hi;omega
      rcases VW j L.length with q2 | q2
      · rw [e2,e1 j q2];exact cF hs (by rw [h.len];exact q2)
      · obtain rfl:j=L.length:=by simp at hj;omega
        exact absurd Z hij
theorem i0.hideAll {l:List (Option Nat)} (h:i0 kk f A0 A rows L):i0 kk f (A.hide (l ++ rows.map V.blk)) A rows L :=
  ⟨h.len,fun i hi=>(h.fr i hi).hide (VJ.2 (.inr (Vk.2 ⟨_,aX (d:=undef) (by rw [h.len];exact hi),rfl⟩))),h.sp⟩
theorem GX {l:List (Option Nat)} (t:∀ b,some b ∈ l->A0.get b=none) (h:i0 kk f A0 A rows L):∀ b,some b ∈ l ++ rows.map V.blk->A0.get b=none:=fun b hb=>by
  rcases VJ.1 hb with q | q
  · exact t b q
  · obtain ⟨r,hr,e⟩:=Vk.1 q
    exact oG (p:=fun r=>∀ b,V.blk r=some b->A0.get b=none) h.len (fun i hi=>(h.fr i hi).lo) r hr b e
theorem BG {l:List (Option Nat)} {k:Nat} (t:some k ∉ l) (h:cu rows k):some k ∉ l ++ rows.map V.blk:=fun hb=>by
  rcases VJ.1 hb with q | q
  · exact t q
  · obtain ⟨r,hr,e⟩:=Vk.1 q
    exact h r hr e
theorem ns {l:List (Option Nat)} {u:Value} (t:NY u l) (h:au u rows):NY u (l ++ rows.map V.blk):=fun c hc hb=>by
  rcases VJ.1 hb with q | q
  · exact t c hc q
  · obtain ⟨r,hr,e⟩:=Vk.1 q
    exact h r hr c hc e
theorem i0.sepOff {bs:List (Option Nat)} {u:Value} {n:Nat} (h:i0 kk f (A.hide bs) A1 rows L) (hu:ql A u n xs) (o:NY u bs):au u rows:=oG h.len fun i hi=>((h.fr i hi).sep hu o).symm
theorem za {k i:Nat} (h:i < k):(List.replicate i (-1:Int) ++ List.replicate (k - i) 0).set i (-1)=List.replicate (i + 1) (-1) ++ List.replicate (k - (i + 1)) 0:=by
  rw [RK _ _ (by simp),TJ,Qx,show k - i=(k - (i + 1)) + 1 by omega,List.replicate_succ,List.set_cons_zero,List.replicate_succ' (n:=i)]
  simp
theorem oo {α β:Type} (f:α->β) {l:List α} {i:Nat} {z:α} (h:i < l.length):(l.take i).map f ++ [f (l.getD i z)]=(l.take (i + 1)).map f:=by
  rw [<- fP (z:=z) h,VV];rfl
theorem dl {α:Type} {l:List α} {i j:Nat} {a d:α} (hi:i < l.length):(l.set i a).getD j d=if j=i then a else l.getD j d:=by
  simp only [XJ,List.getElem?_set]
  by_cases h:i=j
  · subst h;simp [hi]
  · rw [Xy h,Xy (fun q=>h q.symm)]
theorem Ed {n b:Nat}:cu (List.replicate n (.slice none 0 0)) b:=fun r hr=>by rw [(List.mem_replicate.1 hr).2];exact fun q=>by cases q
theorem qY {n:Nat} {u:Value}:au u (List.replicate n (.slice none 0 0)):=fun r hr=>by rw [(List.mem_replicate.1 hr).2];exact aL.nil.symm
theorem JT {r:Value} (h:r ∈ rows.set s v):r ∈ rows\/r=v:=List.mem_or_eq_of_mem_set h
theorem sy (h:cu rows b) (hv:V.blk v ≠ some b):cu (rows.set s v) b:=fun r hr=>by
  rcases JT hr with q | q
  · exact h r q
  · subst q;exact hv
theorem jD {u:Value} (h:au u rows) (hv:aL u v):au u (rows.set s v):=fun r hr=>by
  rcases JT hr with q | q
  · exact h r q
  · subst q;exact hv
end
section
variable {A0 A A1:AH} {rows:List Value} {L:List (List Int)} {b s x:Nat} {v v':Value} {size:Nat} {xs:List Value} {r:List Int} {o:gv}
theorem i0.nils {n:Nat}:iZ A0 A (List.replicate n (.slice none 0 0)) (List.replicate n []):=by
  have e:∀ i,i < n->(List.replicate n (Value.slice none 0 0)).getD i undef=.slice none 0 0:=fun i hi=>by simp [hi]
  refine ⟨by simp,fun i hi=>?_,fun i j hi hj _=>?_⟩
  · rw [TJ] at hi
    rw [e i hi,show (List.replicate n ([]:List Int)).getD i []=[] by simp [hi]]
    exact Fresh.nil _ _ _
  · rw [TJ] at hi
    rw [e i hi];exact aL.nil
theorem i0.appRow {y:List Int} (h:iZ A0 A rows L) (wf:A.wf) (hs:s < L.length) (ap:nA A (rows.getD s undef) 1 (cf y) v A1) (fr:Fresh A0 A1 v 1 (cf y)):iZ A0 A1 (rows.set s v) (L.set s y):=by
  have hsr:s < rows.length:=by rw [h.len];exact hs
  refine ⟨by simp [h.len],fun i hi=>?_,fun i j hi hj hij=>?_⟩
  · rw [dl hsr,dl hs]
    rw [XQ] at hi
    split
    · exact fr
    · rename_i q;exact (h.fr i hi).appd ap (h.sp s i hs hi (fun z=>q z.symm))
  · rw [XQ] at hi hj
    rw [dl hsr,dl hsr]
    have key:∀ i,i < L.length->i ≠ s->aL v (rows.getD i undef):=fun i hi q=>aL.appd (h.sp s i hs hi (fun z=>q z.symm)) (h.fr i hi).own wf ap
    by_cases q1:i=s
    · rw [Xw q1,Xy (fun z=>hij (q1.trans z.symm))]
      exact key j hj (fun z=>hij (q1.trans z.symm))
    · rw [Xy q1]
      by_cases q2:j=s
      · rw [Xw q2];exact (key i hi q1).symm
      · rw [Xy q2];exact h.sp i j hi hj hij
theorem i0.at (h:iZ A0 A rows L) (hs:s < L.length) (hx:x < (L.getD s []).length):∃ b n c r rcap,rows.getD s undef=.slice (some ⟨b,0,none⟩) n c/\n=(L.getD s []).length/\A.get b=some (.row true r rcap)/\x < r.length/\A0.get b=none/\r.take n=cf (L.getD s []) /\
    ∀ (i:Int) A1,s7 A A1 b (.row true (r.set x (num i)) rcap)->iZ A0 A1 rows (L.set s ((L.getD s []).set x i)):=by
  have fr:=h.fr s hs
  obtain ⟨b,n,c,e,h1,h2⟩:=fr.nonnil (by intro q;have:=Xk List.length q;rw [aj,Xx] at this;omega)
  have lo:=fr.lo b (by rw [e];rfl)
  have fr':=fr
  rw [e] at fr'
  obtain ⟨r,rcap,g,h3,h4⟩:=fr'.row
  rw [VY,aj] at h1
  rw [VY] at h3
  have hl:n<=r.length:=by have:=Xk List.length h3;rw [Vz,aj] at this;omega
  refine ⟨b,n,c,r,rcap,e,h1,g,by omega,lo,h3,fun i A1 sb=>⟨by simpa using h.len,fun j hj=>?_,fun j k hj hk=>h.sp j k (by simpa using hj) (by simpa using hk)⟩⟩
  rw [dl hs]
  by_cases q:j=s
  · subst q
    rw [Xw Z,e]
    have:=fr'.setc (w:=num i) (i:=x) g sb
    rwa [dp] at this
  · rw [Xy q]
    have hj':j < L.length:=by simpa using hj
    exact (h.fr j hj').keep sb.keep (fun z=>h.sp s j hs hj' (fun w=>q w.symm) b (by rw [e];rfl) z)
end
theorem iZ.len {A0 A:AH} {rows:List Value} {L:List (List Int)} (h:iZ A0 A rows L):rows.length=L.length:=i0.len h
theorem iZ.nil {A0 A:AH}:iZ A0 A [] []:=i0.nil
theorem iZ.nils {A0 A:AH} {n:Nat}:iZ A0 A (List.replicate n (.slice none 0 0)) (List.replicate n []):=i0.nils
structure Gk (k:Nat) (L:List (List Int)) (E:List Bool):Prop where
  len:E.length=L.length
  row:∀ s,s < L.length->(L.getD s []).length=k
  val:∀ s x,s < L.length->x < k->-1<=(L.getD s []).getD x 0/\(L.getD s []).getD x 0 < L.length
abbrev CO (k:Nat):List Int:=List.replicate k (-1)
abbrev grow (k:Nat) (L:List (List Int)) (s x:Nat):List (List Int):=(L ++ [CO k]).set s (((L ++ [CO k]).getD s []).set x (L.length:Int))
def FH (k:Nat) (t:List (List Int) × List Bool × Nat) (x:Int):List (List Int) × List Bool × Nat :=
  if (t.1.getD t.2.2 []).getD x.toNat 0 < 0 then (grow k t.1 t.2.2 x.toNat,t.2.1 ++ [false],t.1.length) else (t.1,t.2.1,((t.1.getD t.2.2 []).getD x.toNat 0).toNat)
def pG (k:Nat) (L:List (List Int)) (E:List Bool) (xs:List Int):List (List Int) × List Bool × Nat:=xs.foldl (FH k) (L,E,0)
def vJ (k:Nat) (L:List (List Int)) (E:List Bool) (w:Wd):List (List Int):=(pG k L E (w.map ix)).1
def vI (k:Nat) (L:List (List Int)) (E:List Bool) (w:Wd):List Bool:=(pG k L E (w.map ix)).2.1.set (pG k L E (w.map ix)).2.2 true
section
variable {k s x i:Nat} {L L1:List (List Int)} {E E1:List Bool} {xs:List Int} {d:Int}
theorem i5 {α:Type} {l m:List α} {i:Nat} {z:α} (h:i < l.length):(l ++ m).getD i z=l.getD i z:=by simp [Sx h]
theorem j5:(grow k L s x).length=L.length + 1:=by simp
theorem vV (h:Gk k L E) (hs:s < L.length) (hx:x < k) {j y:Nat} (hj:j < L.length + 1):(grow k L s x).getD j []=if j=s then (L.getD s []).set x L.length else if j < L.length then L.getD j [] else CO k:=by
  rw [grow,dl Or,i5 hs]
  by_cases h1:j=s
  · rw [Xw h1,Xw h1]
  · rw [Xy h1,Xy h1]
    by_cases h2:j < L.length
    · rw [Xw h2,i5 h2]
    · rw [Xy h2,show j=L.length by omega];simp
theorem Bf (h:Gk k L E) (hs:s < L.length) (hx:x < k):Gk k (grow k L s x) (E ++ [false]):=by
  refine ⟨by rw [j5];simp [h.len],fun j hj=>?_,fun j y hj hy=>?_⟩
  · rw [j5] at hj
    rw [vV (y:=0) h hs hx hj]
    split
    · rw [XQ];exact h.row s hs
    · split
      · exact h.row j ‹_›
      · exact TJ
  · rw [j5] at hj
    rw [vV (y:=0) h hs hx hj,j5]
    have h0:=h.row s hs
    split
    · rw [dl (by rw [h0];exact hx)]
      split
      · omega
      · have:=h.val s y hs hy;omega
    · split
      · have:=h.val j y ‹_› hy;omega
      · have:(CO k).getD y 0 = -1:=by simp [hy]
        rw [this];omega
theorem PN (h:Gk k L E) (hs:s < L.length) (hx:x < k):((grow k L s x).getD s []).getD x 0=(L.length:Int):=by
  rw [vV (y:=0) h hs hx O,Xw Z,dl (by rw [h.row s hs];exact hx),Xw Z]
theorem zF {t:List (List Int) × List Bool × Nat} (hi:i < xs.length) (h:pG k L E (xs.take i)=t):pG k L E (xs.take (i + 1))=FH k t (xs.getD i 0):=by
  rw [<- fP (z:=0) hi,pG,SJ]
  show FH k (pG k L E (xs.take i)) _=_
  rw [h]
theorem EW (hi:i < xs.length) (h:pG k L E (xs.take i)=(L1,E1,s)) (q:(L1.getD s []).getD (xs.getD i 0).toNat 0 < 0):pG k L E (xs.take (i + 1))=(grow k L1 s (xs.getD i 0).toNat,E1 ++ [false],L1.length):=by
  rw [zF hi h,FH,Xw q]
theorem E8 (hi:i < xs.length) (h:pG k L E (xs.take i)=(L1,E1,s)) (q:¬ (L1.getD s []).getD (xs.getD i 0).toNat 0 < 0):pG k L E (xs.take (i + 1))=(L1,E1,((L1.getD s []).getD (xs.getD i 0).toNat 0).toNat):=by
  rw [zF hi h,FH,Xy q]
theorem Gk.start (k:Nat):Gk k [CO k] [false]:=⟨rfl,fun s hs=>by
    obtain rfl:s=0:=by simp at hs;omega
    simp,fun s x hs hx=>by
    obtain rfl:s=0:=by simp at hs;omega
    simp [hx]⟩
end
theorem io:dM prog 59=some false:=by kernel_rfl
theorem ie:dM prog 60=some false:=by kernel_rfl
theorem jc:dM prog 67=some false:=by kernel_rfl
theorem jw:eo prog 119 0=some (60,0):=by kernel_rfl
theorem np:eo prog 119 1=some (59,1):=by kernel_rfl
theorem DB:prog.info? 4=some Tryz.t4:=by kernel_rfl
theorem xb:prog.info? 67=some Tryz.t67:=by kernel_rfl
theorem gV:dy prog 59=some 1:=by kernel_rfl
theorem fC:dy prog 60=some 1:=by kernel_rfl
theorem dX:dy prog 67=some 1:=by kernel_rfl
theorem jQ:type_of% @underlying59:=@underlying59
theorem jg:type_of% @underlying60:=@underlying60
theorem Na (w:W8) (A:AH) (hL:iB A) (hw:w.length<=1000000):bH prog 115 #[aM (w)] A (fun v A1=>A.le A1/\A1.wf/\Fresh A A1 v 1 (cf (w.map ix))):=by
 refine aN (e:=[(0,aM (w))]) (args:=[aM (w)]) call115 func115 Z results115 ntmps115 Z Z Z (fun wf=>?_);have ai:=AH.le.refl A;refine ak.sq fun h2=>.region<|.I Z<|.nil<|h2<|.sq fun h4=>.region<|.I Z<|.nil<|h4 ?_;refine ak.sq fun h6=>.sq fun h8=>.region<|.J Z<|.p (cM u9 Z)<|.J Z<|.nil<|h8<|.block<|.loop (X:=Nat × List Int × Value) (fun ⟨i,o,s⟩=>[(0,aM (w)),(3,s),(6,num ((w.length:Nat):Int)),(7,num ((i:Nat):Int))]) (fun ⟨i,o,s⟩ B=>(i<=w.length/\o=(w.take i).map ix)/\A.le B/\Fresh A B s 1 (cf o)) (fun ⟨i,o,s⟩=>w.length - i) (⟨0,[],.slice none 0 0⟩) (mc Z Z Z Z) (⟨⟨XZ _,by simp⟩,ai,(Fresh.nil A A 1)⟩) ?_;rintro ⟨i,o,s⟩ B10 ⟨⟨hi,ho⟩,a3,a0⟩;refine ak.wf fun a4=>?_;have hlo:o.length=i:=by rw [ho];simp;omega
 refine ak.sq fun aa=>.region<|.p (bK Z Z)<|.nil<|aa<|.sq fun ab=>.if rfl (fun ap=>?_) (fun ap=>?_)
 ·refine ak.skip<|ab<|.sq fun ac=>.block<|.sq fun ad=>.region<|.J Z<|.I Z<|.nil<|ad ?_;refine ak.region<|.J Z<|.J Z<|.J Z<|.p (ng u9 Z Z O)<|.m (fun a6=>ax Z (tV (w.getD i 0) B10 (hL.le a3)) ?_);rintro ay A23 ⟨rfl,rfl⟩;refine a6<|.m (fun a7=>aE (c:=[num (ix (w.getD i 0))]) a4 rfl (aq cQ cl z3 rfl U U rfl) fun A27 av V=>?_);have a2:=a0.le V.le;refine a7<|.m (fun a8=>cm (ys:=[num (ix (w.getD i 0))]) rfl rfl cQ cl jq z3 rfl U cQ (fun _ h=>by cases h) a2.own (bG (n:=1) V.get Z) rfl rfl (by show (_ + _) * 8<=_;simp only [aj,Xq,Xx];(try simp only [Xz,Xq,Xx]);omega) O3 fun A33 ar a1=>?_);rw [show ([num (ix (w.getD i 0))]:List Value)=cf [ix (w.getD i 0)] from rfl,cJ] at a1;obtain ⟨a5,a9⟩:=Fresh.grow a2 (a3.trans V.le) wf a1;refine a8<|.I Z<|.nil<|ac<|.region<|.p (bk (b:=1) Z Z O)<|.J Z<|.nil ?_;exact ⟨⟨i + 1,o ++ [ix (w.getD i 0)],ar⟩,mc Z Z Z Z,Z,⟨⟨by omega,by rw [ho];exact oo ix O⟩,a9,a5⟩,O1⟩
 refine ak.exit<|h6<|.sq fun ag=>.region<|.J Z<|.I Z<|.nil<|ag<|.rt (by exact aH Z (⟨a3,a4,ci a0 (Xk cf (by rw [ho,Vw O]))⟩))
theorem Tl (k:Nat) (b:Nat) (nv ev:Value) (rows:List Value) (L:List (List Int)) (E:List Bool) (A0 A:AH) (c4:A0.le A) (aP:A0.wf) (hb:A.get b=some (.row true [nv,ev] 2)) (c7:A0.get b=none) (frn:Fresh A0 A nv 1 (dx rows)) (fre:Fresh A0 A ev 1 (bQ E)) (nn:blk nv ≠ some b) (ne:blk ev ≠ some b) (sne:aL nv ev) (fm:iZ A0 A rows L) (fo:cu rows b) (fsn:au nv rows) (fse:au ev rows) (hk:k<=1000/\L.length<=1000000/\E.length<=1000000):bH prog 75 #[.pointer (some ⟨b,0,none⟩),num ((k:Nat):Int)] A (fun v A1=>∃ nv2 kg rows2,v=num ((L.length:Nat):Int)/\A0.le A1/\A1.wf/\A1.get b=some (.row true [nv2,kg] 2)/\Fresh A0 A1 nv2 1 (dx rows2)/\Fresh A0 A1 kg 1 (bQ (E ++ [false]))/\blk nv2 ≠ some b/\blk kg ≠ some b/\aL nv2 kg/\iZ A0 A1 rows2 (L ++ [CO k])/\cu rows2 b/\au nv2 rows2/\au kg rows2):=by
 refine aN (e:=[(0,.pointer (some ⟨b,0,none⟩)),(1,num ((k:Nat):Int))]) (args:=[.pointer (some ⟨b,0,none⟩),num ((k:Nat):Int)]) call75 func75 Z results75 ntmps75 Z Z Z (fun wf=>?_);have hrl:=fm.len;have hkr:(List.replicate k (0:Int)).length=k:=TJ;refine ak.sq fun h2=>.region<|.I Z<|.nil<|h2<|.sq fun h4=>.region<|.J Z<|.m (fun e4=>jo (n:=k) (k:=k) wf c4 rfl rfl cQ cl z3 jq rfl (XX _) (by show 8 * _<=_;omega) O fun A7 b6 av br=>?_);rw [ef] at br;have b7:=ne_new wf hb av.lo;have dj:=fm.ne_new wf av.lo;have dJ:=av.le.g hb;have cv:=frn.le av.le;have cC:=fre.le av.le;have cc:=fm.le av.le;have d1:=c4.trans av.le;have dz:=aL.of_new (n:=k) (c:=k) frn.own wf av.lo;have dD:=aL.of_new (n:=k) (c:=k) fre.own wf av.lo;refine e4<|.I Z<|.nil<|h4<|.sq fun dO=>.sq fun dS=>.region<|.J Z<|.p (bx (n:=(List.replicate k (0:Int)).length) cQ Z br.slc O (c9 _))<|.J Z ?_;refine Ops.nil<|dS<|.block<|.loop (X:=Nat × List Int × Value) (fun ⟨i,o,r⟩=>[(0,.pointer (some ⟨b,0,none⟩)),(5,r),(10,num (((List.replicate k (0:Int)).length:Nat):Int)),(11,num ((i:Nat):Int))]) (fun ⟨i,o,r⟩ B=>(i<=k/\o=List.replicate i (-1) ++ List.replicate (k - i) 0)/\A0.le B/\Fresh A0 B r 1 (cf o)/\Fresh A0 B nv 1 (dx rows)/\Fresh A0 B ev 1 (bQ E)/\B.get b=some (.row true [nv,ev] 2)/\V.blk r ≠ some b/\V.blk nv ≠ some b/\V.blk ev ≠ some b/\aL r nv/\aL r ev/\aL nv ev/\iZ A0 B rows L/\cu rows b/\au r rows/\au nv rows/\au ev rows) (fun ⟨i,o,r⟩=>k - i) (⟨0,List.replicate k 0,.slice (some ⟨b6,0,none⟩) k k⟩) (mc Z Z Z Z) (⟨⟨XZ _,by simp⟩,d1,br,cv,cC,dJ,(fun q=>by cases q;exact b7 Z),nn,ne,dz,dD,sne,cc,fo,(au.new dj),fsn,fse⟩) ?_;rintro ⟨i,o,r⟩ B25 ⟨⟨hi,ho⟩,bA,ai,aG,aF,ar,ab,aa,a5,a9,ad,ag,ay,aA,a7,a8,ap⟩;refine ak.wf fun aD=>?_;have hlo:o.length=k:=by rw [ho];simp;omega
 have hrl:=fm.len;refine ak.sq fun dV=>.region<|.p (bK Z Z)<|.nil<|dV<|.sq fun dW=>.if rfl (fun e7=>?_) (fun e7=>?_)
 ·refine ak.skip<|dW<|.sq fun dZ=>.block<|.sq fun e0=>.region<|.J Z<|.I Z<|.nil<|e0 ?_;refine ak.region<|.J Z<|.J Z ?_;obtain ⟨b8,ex,er,eb,eg,aI,c3,dI,eA,e6,ey,e5⟩:=ai.at1 (x:=i) O2;rw [aj] at c3;refine Ops.p (al cQ cl Z aI Z (by rw [c3];omega))<|.m (fun cT=>aU (off:=i) (c':=eb.set i (num (-1))) aD rfl (by simp) rfl rfl cl dI (by show i + 1<=_;omega) rfl rfl fun A38 ac=>?_);have e1:=ac.k (fun q=>ab (by rw [aI];exact Xk some q.symm)) ar;have cH:=aG.keep ac.keep (a9 b8 (by rw [aI];rfl));have cK:=aF.keep ac.keep (ad b8 (by rw [aI];rfl));have ch:=ay.keep ac.keep (fun r hr=>a7 r hr b8 (by rw [aI];rfl));have bc:=e5 (num (-1)) A38 ac;rw [dp] at bc;have d2:=an bA aP e6 ac.n ac.keep;refine cT<|.nil<|dZ<|.region<|.p (bk (b:=1) Z Z Oi)<|.J Z<|.nil ?_;exact ⟨⟨i + 1,o.set i ((-1)),r⟩,mc Z Z Z Z,Z,⟨⟨by omega,by rw [ho];exact za O⟩,d2,bc,cH,cK,e1,ab,aa,a5,a9,ad,ag,ch,aA,a7,a8,ap⟩,O1⟩
 refine ak.exit<|dO<|.sq fun e2=>.region<|.J Z<|.J Z<|.p (cW Z)<|.p (ae jw fC U Z)<|.p (ah ie Z Z ar Z)<|.J Z ?_;obtain ⟨aC,aB,az,e9,_⟩:=ai.own.slice;subst e9;refine Ops.m (fun cV=>aE (c:=[.slice aC aB az]) aD rfl (aq jg dX Gi rfl U U rfl) fun A50 em a0=>?_);have dd:=ne_new aD ar a0.lo;have dv:=ay.ne_new aD a0.lo;have c0:=a0.le.g ar;have bd:=ai.le a0.le;have bl:=aG.le a0.le;have bm:=aF.le a0.le;have ba:=ay.le a0.le;refine cV<|.m (fun cX=>cm (ys:=[.slice aC aB az]) rfl rfl jg dX xb Gi rfl U jg (fun _ h=>by cases h) bl.own (bG (n:=1) a0.get Z) rfl rfl (by show (_ + _) * 24<=_;simp only [bw,Xq,Xx];(try simp only [Xz,Xq,Xx]);omega) OF fun A64 ez a2=>?_);rw [show ([.slice aC aB az]:List Value)=dx [Value.slice aC aB az] from rfl,lx] at a2;obtain ⟨bp,d3⟩:=Fresh.grow bl (bA.trans a0.le) aP a2;have aR:=a2.ne aa a0.wf c0;have bC:=aL.appd (show aL nv ev from ag) bm.own a0.wf a2;have ck:=ba.appd a2 (show au nv rows from a8);have ct:=ck.snoc (bd.appd a2 (aL.symm a9)) a7;have aS:=aA.snoc ab;have ee:=dv.snoc (ai.own.ne_new aD a0.lo);have bD:=ap.snoc (aL.symm ad);have dG:=(au.appd (show au nv rows from a8) ba a0.wf a2).snoc (aL.appd (show aL nv (.slice aC aB az) from (aL.symm a9)) bd.own a0.wf a2);refine cX<|.p (cW Z)<|.p (ae jw fC U Z) ?_;obtain ⟨b5,b2,aT,ea,_⟩:=bp.own.slice;subst ea;refine Ops.m (fun cZ=>aU (cs:=[.slice b5 b2 aT]) (c':=[.slice b5 b2 aT,ev]) a2.wf rfl rfl rfl rfl fC (a2.keep aa c0) G rfl rfl fun A86 a4=>?_);have cP:=(bm.appd a2 ag).keep a4.keep a5;have bb:=ct.keep a4.keep aS;refine cZ<|.nil<|e2<|.sq fun e3=>.region<|.J Z<|.J Z<|.p (cW Z)<|.p (ae np gV U Z)<|.p (ah io Z Z a4.get Z) ?_;refine Ops.m (fun d0=>aE (c:=[.bool (false)]) a4.wf rfl (aq jQ kN z4 rfl U U rfl) fun A96 en a3=>?_);have di:=ne_new a4.wf a4.get a3.lo;have ec:=bb.ne_new a4.wf a3.lo;have bu:=a3.le.g a4.get;have aY:=cP.le a3.le;have aZ:=(bp.keep a4.keep aR).le a3.le;have aV:=bb.le a3.le;have bS:=(an d3 aP c7 a4.n a4.keep).trans a3.le;refine d0<|.m (fun bP=>cm (ys:=[.bool (false)]) rfl rfl jQ kN DB z4 rfl U jQ (fun _ h=>by cases h) aY.own (bG (n:=1) a3.get Z) rfl rfl (by show (_ + _) * 1<=_;simp only [bi,Xq,Xx];(try simp only [Xz,Xq,Xx]);omega) Oy fun A107 ek a1=>?_);rw [show ([.bool (false)]:List Value)=bQ [false] from rfl,jd] at a1;obtain ⟨b0,bT⟩:=Fresh.grow aY bS aP a1;have b3:=a1.ne a5 a3.wf bu;have bV:=aL.appd (show aL ev (.slice b5 b2 aT) from (aL.symm bC)) aZ.own a3.wf a1;have bY:=au.appd (show au ev (rows ++ [Value.slice aC aB az]) from bD) aV a3.wf a1;have bL:=aV.appd a1 (show au ev (rows ++ [Value.slice aC aB az]) from bD);refine bP<|.p (cW Z)<|.p (ae np gV U Z) ?_;obtain ⟨bB,bv,b9,dw,_⟩:=b0.own.slice;subst dw;refine Ops.m (fun bR=>aU (cs:=[.slice bB bv b9]) (c':=[.slice b5 b2 aT,.slice bB bv b9]) a1.wf rfl rfl rfl rfl gV (a1.keep a5 bu) G rfl rfl fun A122 a6=>?_);have b1:=(aZ.appd a1 (aL.symm bC)).keep a6.keep aR;have bO:=b0.keep a6.keep b3;have bM:=bL.keep a6.keep aS;have bU:=an bT aP c7 a6.n a6.keep;refine bR<|.nil<|e3<|.sq fun cS=>.region<|.J Z<|.p (cW Z)<|.p (ae jw fC U Z)<|.p (ah ie Z Z a6.get Z)<|.p (bx (n:=(rows ++ [Value.slice aC aB az]).length) jg Z b1.slc O (fp _)) ?_;refine Ops.p (iO (b:=1) Z Z Oi)<|.I Z<|.nil<|cS<|.rt (by exact aH Z (⟨_,_,_,(show num _=num _ from Xk (fun z:Nat=>num (z:Int)) (by simp [fm.len])),bU,a6.wf,a6.get,b1,bO,aR,b3,(aL.symm bV),kw bM (by rw [ho,show i=k by omega,Qx];simp [CO]),aS,dG,bY⟩))
theorem s_add (k:Nat) (w:W8) (b:Nat) (nv ev:Value) (rows:List Value) (L:List (List Int)) (E:List Bool) (A0 A:AH) (b9:A0.le A) (bA:A0.wf) (hb:A.get b=some (.row true [nv,ev] 2)) (e7:A0.get b=none) (frn:Fresh A0 A nv 1 (dx rows)) (fre:Fresh A0 A ev 1 (bQ E)) (nn:blk nv ≠ some b) (ne:blk ev ≠ some b) (sne:aL nv ev) (fm:iZ A0 A rows L) (fo:cu rows b) (fsn:au nv rows) (fse:au ev rows) (hL:iB A0) (hk:k<=1000/\L.length<=100000/\w.length<=100000) (hT:Gk k L E) (h0:0 < L.length) (hw:∀ c ∈ w,0<=ix c/\ix c < k):bH prog 77 #[.pointer (some ⟨b,0,none⟩),num ((k:Nat):Int),aM (w)] A (fun v A1=>∃ nv2 kg rows2,v=.tuple #[]/\A0.le A1/\A1.wf/\A1.get b=some (.row true [nv2,kg] 2)/\Fresh A0 A1 nv2 1 (dx rows2)/\Fresh A0 A1 kg 1 (bQ (vI k L E w))/\blk nv2 ≠ some b/\blk kg ≠ some b/\aL nv2 kg/\iZ A0 A1 rows2 (vJ k L E w)/\cu rows2 b/\au nv2 rows2/\au kg rows2):=by
 refine aN (e:=[(0,.pointer (some ⟨b,0,none⟩)),(1,num ((k:Nat):Int)),(2,aM (w))]) (args:=[.pointer (some ⟨b,0,none⟩),num ((k:Nat):Int),aM (w)]) call77 func77 Z results77 ntmps77 Z Z Z (fun wf=>?_);have hwx:∀ x ∈ w.map ix,0<=x/\x < (k:Int):=fun x hx=>by obtain ⟨c,hc,rfl⟩:=Vk.1 hx;exact hw c hc
 have hwl:(w.map ix).length=w.length:=Tq _;refine ak.sq fun h2=>.region<|.I Z<|.nil<|h2<|.sq fun h4=>.sq fun h6=>.region<|.J Z<|.m (fun dO=>ax Z (Na w A (hL.le b9) O) ?_);rintro v8 A9 ⟨av,ek,ar⟩;have bS:=fm.le av;have b3:=ar.base b9;have ct:=au.fresh fm ar;refine dO<|.p (bx (n:=(w.map ix).length) cQ Z b3.slc O (c9 _))<|.J Z<|.nil<|h6<|.block<|.loop (X:=Nat × List Bool × Nat × Value × Value × List Value × List (List Int)) (fun ⟨i,E1,s,a8,rH,rw,L1⟩=>[(0,.pointer (some ⟨b,0,none⟩)),(1,num ((k:Nat):Int)),(6,num ((s:Nat):Int)),(11,v8),(12,num (((w.map ix).length:Nat):Int)),(13,num ((i:Nat):Int))]) (fun ⟨i,E1,s,a8,rH,rw,L1⟩ B=>(i<=(w.map ix).length/\pG k L E ((w.map ix).take i)=(L1,E1,s)/\Gk k L1 E1/\s < L1.length/\L1.length<=L.length + i)/\A0.le B/\Fresh A0 B a8 1 (dx rw)/\Fresh A0 B rH 1 (bQ E1)/\Fresh A0 B v8 1 (cf (w.map ix))/\B.get b=some (.row true [a8,rH] 2)/\V.blk a8 ≠ some b/\V.blk rH ≠ some b/\V.blk v8 ≠ some b/\aL a8 rH/\aL a8 v8/\aL rH v8/\iZ A0 B rw L1/\cu rw b/\au a8 rw/\au rH rw/\au v8 rw) (fun ⟨i,E1,s,a8,rH,rw,L1⟩=>(w.map ix).length - i) (⟨0,E,0,nv,ev,rows,L⟩) (am.cons Z<|am.cons Z<|am.cons (Xk (fun z:Int=>some (num z)) O)<|jh Z Z Z) (⟨⟨XZ _,Z,hT,h0,by omega⟩,(b9.trans av),(frn.le av),(fre.le av),b3,(av.g hb),nn,ne,(ar.ne wf hb),sne,(aL.symm (ar.sep0 frn.own)),(aL.symm (ar.sep0 fre.own)),bS,fo,fsn,fse,ct⟩) ?_;rintro ⟨i,E1,s,a8,rH,rw,L1⟩ B22 ⟨⟨hi,hrun,hok,az,fO⟩,aZ,a2,aa,a0,a9,ac,a4,h,ad,a6,a7,a5,ag,ab,a3,a1⟩;refine ak.wf fun bb=>?_;have hrw:rw.length=L1.length:=by first | exact iZ.len ‹_›
 have hxw:=fun q:i < (w.map ix).length=>hwx _ (aX (d:=(0:Int)) q);have hro:=hok.row s az;have hvo:=fun q:((w.map ix).getD i 0).toNat < k=>hok.val s ((w.map ix).getD i 0).toNat az q;have hEl:=hok.len;refine ak.sq fun dw=>.region<|.p (bK Z Z)<|.nil<|dw<|.sq fun dz=>.if rfl (fun eb=>?_) (fun eb=>?_)
 ·refine ak.skip<|dz<|.sq fun bp=>.block<|.sq fun dD=>.region ?_;obtain ⟨f3,ft,eT,gg,eC,g1,fQ,cv,dW,cX,em,bB⟩:=bz.at (i:=i) a0.slc O2 O;refine Ops.p (al cQ cl Z cv Z dW)<|.p (ah dK Z Z cX ((cb bB).trans (bJ O)))<|.I Z<|.nil<|dD<|.sq fun br=>.sq fun dG=>.region<|.J Z<|.p (cW Z) ?_;refine Ops.p (ae jw fC U Z)<|.p (ah ie Z Z a9 Z)<|.J Z ?_;obtain ⟨f4,fv,eV,gl,eE,g4,fR,cC,dZ,cZ,en,bC⟩:=bz.at (i:=s) a2.slc Of O;refine Ops.p (al jg dX Z cC Z dZ)<|.p (ah jc Z Z cZ ((cb bC).trans (c6 O)))<|.J Z ?_;obtain ⟨f6,fD,eX,gm,eG,g5,fS,cH,e0,d0,er,bD⟩:=bz.at (i:=((w.map ix).getD i 0).toNat) (a5.fr s O).slc (by simp only [aj];have:=hxw O;omega) O;refine Ops.p (al cQ cl Z cH (go (by have:=hxw O;omega)) e0)<|.p (ah dK Z Z d0 ((cb bD).trans (bJ (by have:=hxw O;omega))))<|.p (iU Z Z)<|.nil<|dG<|.if rfl (fun ec=>?_) (fun ec=>?_)
  ·refine ak.sq fun dI=>.region<|.J Z<|.J Z ?_;have aR:=cy (bs:=([some b,blk a8,blk rH] ++ rw.map blk)) aZ (GX (yn e7 (uo a2.lo (uo aa.lo rK))) a5);refine Ops.m (fun c7=>ax Z (Tl k b a8 rH rw L1 E1 (B22.hide ([some b,blk a8,blk rH] ++ rw.map blk)) B22 (cL B22 ([some b,blk a8,blk rH] ++ rw.map blk)) (cx bb) a9 (cD (by simp)) (a2.hide (by simp)) (aa.hide (by simp)) ac a4 ad a5.hideAll ag ab a3 ⟨by omega,by omega,by omega⟩) ?_);rintro gF A45 ⟨bd,bc,aI,rfl,b1,bl,aG,aA,aB,aT,aV,aY,aP,aC,aD,aF⟩;have ba:=aP.sepOff a0.own (ns (ln h (j8 a6 (j8 a7 lm))) a1);have bV:=a0.off (ns (ln h (j8 a6 (j8 a7 lm))) a1) b1;have b5:=aA.base aR;have bY:=aB.base aR;have ay:=aP.base aR;have b8:=aP.len;rw [Xz,TQ] at b8;have hgl:((L1 ++ [CO k]).getD s []).length=k:=by rw [i5 az];exact hok.row s az
   have hll:(L1 ++ [CO k]).length=L1.length + 1:=by simp
   refine c7<|.I Z<|.nil<|dI<|.region<|.J Z<|.p (cW Z)<|.p (ae jw fC U Z)<|.p (ah ie Z Z aG Z)<|.J Z ?_;obtain ⟨f7,fE,eY,gp,eK,g6,fT,cK,e1,d1,ex,bL⟩:=bz.at (i:=s) b5.slc Of O;refine Ops.p (al jg dX Z cK Z e1)<|.p (ah jc Z Z d1 ((cb bL).trans (c6 O)))<|.J Z<|.J Z ?_;obtain ⟨b2,g7,fn,ee,eL,aS,e2,d2,gG,e9,gD,dS⟩:=ay.at (s:=s) (x:=((w.map ix).getD i 0).toNat) O (by have:=hxw O;omega);refine Ops.p (al cQ cl Z aS (go (by have:=hxw O;omega)) (by rw [e2];have:=hxw O;omega))<|.m (fun cc=>aU (off:=((w.map ix).getD i 0).toNat) (c':=ee.set (((w.map ix).getD i 0).toNat) (num ((L1.length:Nat):Int))) bl rfl (by simp) rfl rfl cl d2 (by show (((w.map ix).getD i 0).toNat) + 1<=_;omega) rfl rfl fun A59 ai=>?_);have bu:=ai.k (fun q=>cF aC (s:=s) (by have:=ay.len;omega) (by rw [aS];exact Xk some q.symm)) aG;have c0:=bV.keep ai.keep (fun q=>cF ba (s:=s) (by have:=ay.len;omega) b2 q (by rw [aS];rfl));have b6:=b5.keep ai.keep (fun q=>cF aD (s:=s) (by have:=ay.len;omega) b2 q (by rw [aS];rfl));have c3:=bY.keep ai.keep (fun q=>cF aF (s:=s) (by have:=ay.len;omega) b2 q (by rw [aS];rfl));have bT:=dS (((L1.length:Nat):Int)) A59 ai;refine cc<|.nil ?_;have hgr:((grow k L1 s ((w.map ix).getD i 0).toNat).getD s []).length=k:=(Bf hok az O).row s (by rw [j5];omega);have hgll:(grow k L1 s ((w.map ix).getD i 0).toNat).length=L1.length + 1:=j5;have fmG:iZ A0 A59 aI (grow k L1 s ((w.map ix).getD i 0).toNat):=bT;have hgm:=fmG.len;refine br<|.region<|.J Z<|.p (cW Z)<|.p (ae jw fC U Z)<|.p (ah ie Z Z bu Z)<|.J Z ?_;obtain ⟨f9,fI,eZ,gq,eM,g8,fU,cP,e3,d3,ey,bM⟩:=bz.at (i:=s) b6.slc Of O;refine Ops.p (al jg dX Z cP Z e3)<|.p (ah jc Z Z d3 ((cb bM).trans (c6 O)))<|.J Z ?_;obtain ⟨fd,fL,f0,gs,eN,g9,fV,cS,e4,dd,ez,bO⟩:=bz.at (i:=((w.map ix).getD i 0).toNat) (fmG.fr s O).slc (by simp only [aj];have:=hxw O;omega) O;refine Ops.p (al cQ cl Z cS (go (by have:=hxw O;omega)) e4)<|.p (ah dK Z Z dd ((cb bO).trans (bJ (by have:=hxw O;omega))))<|.I Z<|.nil<|bp<|.region<|.p (bk (b:=1) Z Z O)<|.J Z<|.nil ?_;exact ⟨⟨i + 1,E1 ++ [false],L1.length,bd,bc,aI,grow k L1 s ((w.map ix).getD i 0).toNat⟩,am.cons Z<|am.cons Z<|am.cons (Xk (fun z:Int=>some (num z)) (by exact PN hok az (by have:=hxw O;omega)))<|jh Z Z Z,Z,⟨⟨by omega,EW O hrun ‹_›,Bf hok az (by have:=hxw O;omega),by omega,by omega⟩,(an (aR.trans b1) bA e9 ai.n ai.keep),b6,c3,c0,bu,aT,aV,h,aY,(aA.sep a0.own (ns (ln h (j8 a6 (j8 a7 lm))) a1)),(aB.sep a0.own (ns (ln h (j8 a6 (j8 a7 lm))) a1)),fmG,aC,aD,aF,ba⟩,O1⟩
  refine ak.skip<|br<|.region<|.J Z<|.p (cW Z)<|.p (ae jw fC U Z)<|.p (ah ie Z Z a9 Z)<|.J Z ?_;obtain ⟨fe,fM,f1,gA,eQ,gc,fX,cT,e5,di,eA,bP⟩:=bz.at (i:=s) a2.slc Of O;refine Ops.p (al jg dX Z cT Z e5)<|.p (ah jc Z Z di ((cb bP).trans (c6 O)))<|.J Z ?_;obtain ⟨fl,fN,f2,gC,eR,ge,g0,cV,e6,dj,eB,bR⟩:=bz.at (i:=((w.map ix).getD i 0).toNat) (a5.fr s O).slc (by simp only [aj];have:=hxw O;omega) O;refine Ops.p (al cQ cl Z cV (go (by have:=hxw O;omega)) e6)<|.p (ah dK Z Z dj ((cb bR).trans (bJ (by have:=hxw O;omega))))<|.I Z<|.nil<|bp<|.region<|.p (bk (b:=1) Z Z O)<|.J Z<|.nil ?_;exact ⟨⟨i + 1,E1,((L1.getD s []).getD ((w.map ix).getD i 0).toNat 0).toNat,a8,rH,rw,L1⟩,am.cons Z<|am.cons Z<|am.cons (Xk (fun z:Int=>some (num z)) O)<|jh Z Z Z,Z,⟨⟨by omega,E8 O hrun ‹_›,hok,by have:=hvo (by have:=hxw O;omega);omega,by omega⟩,aZ,a2,aa,a0,a9,ac,a4,h,ad,a6,a7,a5,ag,ab,a3,a1⟩,O1⟩
 refine ak.exit<|h4<|.region<|.J Z<|.p (cW Z)<|.p (ae np gV U Z)<|.p (ah io Z Z a9 Z)<|.J Z ?_;obtain ⟨bm,gf,fq,eg,eS,b0,bv,dv,gL,ea,gE,dV⟩:=aa.at1 (x:=s) Oj;rw [bi] at bv;refine Ops.p (al jQ kN Z b0 Z (by rw [bv];omega))<|.m (fun ch=>aU (off:=s) (c':=eg.set s (.bool (true))) bb rfl (by simp) rfl rfl kN dv (by show s + 1<=_;omega) rfl rfl fun A73 ap=>?_);have dJ:=ap.k (fun q=>a4 (by rw [b0];exact Xk some q.symm)) a9;have c4:=a2.keep ap.keep ((aL.symm ad) bm (by rw [b0];rfl));have bU:=a5.keep ap.keep (fun r hr=>a3 r hr bm (by rw [b0];rfl));have b7:=dV (.bool (true)) A73 ap;rw [my] at b7;have ck:=an aZ bA ea ap.n ap.keep;refine ch<|.nil ?_;repeat first | with_reducible refine cz ?_ | with_reducible refine cj ?_
 repeat first | with_reducible refine f5 ?_ | with_reducible refine fc ?_ | with_reducible refine eh U ?_ | with_reducible refine ei ?_ | with_reducible refine dA ?_
 exact zD (vs:=[]) Z (⟨_,_,_,Z,ck,ap.wf,dJ,c4,ci b7 (Xk bQ (by rw [vI,<- Vw (show (w.map ix).length<=i by omega),hrun])),ac,a4,ad,kw bU (by rw [vJ,<- Vw (show (w.map ix).length<=i by omega),hrun]),ag,ab,a3⟩)
abbrev c5 (L:List (List Int)) (n x:Nat):Int:=(L.getD n []).getD x 0
structure TW (k:Nat) (L:List (List Int)) (W:List (List Nat)):Prop where
  len:W.length=L.length
  pos:0 < W.length
  zero:W.getD 0 []=[]
  nd:∀ a b,a < W.length->b < W.length->W.getD a []=W.getD b []->a=b
  pre:∀ m,0 < m->m < W.length->∃ n x,n < W.length/\x < k/\W.getD m []=W.getD n [] ++ [x]
  is:∀ n x,n < W.length->x < k->0<=c5 L n x->(c5 L n x).toNat < W.length/\W.getD (c5 L n x).toNat []=W.getD n [] ++ [x]
  no:∀ n x,n < W.length->x < k->c5 L n x < 0->W.getD n [] ++ [x] ∉ W
section
variable {k s x i:Nat} {L L1:List (List Int)} {E E1:List Bool} {xs:List Int} {W:List (List Nat)}
theorem QT {w:List Nat} (h:w ∈ W):∃ a,a < W.length/\W.getD a []=w:=by
  obtain ⟨i,hi,rfl⟩:=VQ h
  exact ⟨i,hi,by simp [hi]⟩
theorem nG {a:Nat} (h:a < W.length):W.getD a [] ∈ W:=aX h
theorem Dn (h:Gk k L E) (hs:s < L.length) (hx:x < k) {j y:Nat} (hj:j < L.length + 1) (hy:y < k):c5 (grow k L s x) j y=if j=s/\y=x then (L.length:Int) else if j < L.length then c5 L j y else -1:=by
  unfold c5
  rw [vV (y:=0) h hs hx hj]
  by_cases h1:j=s
  · subst h1
    rw [Xw Z,dl (by rw [h.row j hs];exact hx)]
    by_cases h2:y=x
    · rw [Xw h2,Xw ⟨rfl,h2⟩]
    · rw [Xy h2,Xy (fun q=>h2 q.2),Xw hs]
  · simp only [h1,false_and,if_false]
    by_cases h2:j < L.length
    · simp only [h2,if_true]
    · simp only [h2,if_false];simp [CO,hy]
theorem TW.grow (h:Gk k L E) (t:TW k L W) (hs:s < L.length) (hx:x < k) (hn:c5 L s x < 0):TW k (grow k L s x) (W ++ [W.getD s [] ++ [x]]):=by
  have hl:=t.len
  have e1:∀ a,a < W.length->(W ++ [W.getD s [] ++ [x]]).getD a []=W.getD a []:=fun a ha=>i5 ha
  have e2:(W ++ [W.getD s [] ++ [x]]).getD W.length []=W.getD s [] ++ [x]:=by simp
  have hnew:=t.no s x O hx hn
  have key:∀ n y,n < W.length->W.getD n [] ++ [y]=W.getD s [] ++ [x]->n=s/\y=x:=fun n y V q=>by
    have:=Qw q Z
    exact ⟨t.nd n s V O this.1,by simpa using this.2⟩
  refine ⟨by rw [j5];simp [hl],by simp,by rw [e1 0 t.pos];exact t.zero,fun a b ha hb q=>?_,fun m hm X=>?_,fun n y V hy h0=>?_,fun n y V hy h0=>?_⟩
  · simp only [Xz,TQ] at ha hb
    rcases VW a W.length with qa | qa
    · rcases VW b W.length with qb | qb
      · rw [e1 a qa,e1 b qb] at q;exact t.nd a b qa qb q
      · obtain rfl:b=W.length:=by omega
        rw [e1 a qa,e2] at q;exact absurd (q ▸ nG qa) hnew
    · obtain rfl:a=W.length:=by omega
      rcases VW b W.length with qb | qb
      · rw [e1 b qb,e2] at q;exact absurd (q ▸ nG qb) hnew
      · omega
  · simp only [Xz,TQ] at X
    rcases VW m W.length with q | q
    · obtain ⟨n,y,h1,h2,h3⟩:=t.pre m hm q
      exact ⟨n,y,by simp;omega,h2,by rw [e1 m q,e1 n h1];exact h3⟩
    · obtain rfl:m=W.length:=by omega
      exact ⟨s,x,by simp;omega,hx,by rw [e2,e1 s O]⟩
  · simp only [Xz,TQ] at V ⊢
    rw [Dn h hs hx O hy] at h0 ⊢
    split
    · rename_i q
      obtain ⟨rfl,rfl⟩:=q
      rw [XY,<- hl,e2,e1 n O]
      exact ⟨by omega,Z⟩
    · rename_i q
      rw [Xy q] at h0
      split
      · rename_i q2
        rw [Xw q2] at h0
        have:=t.is n y O hy h0
        rw [e1 n O,e1 _ this.1]
        exact ⟨by omega,this.2⟩
      · rename_i q2;rw [Xy q2] at h0;omega
  · simp only [Xz,TQ] at V
    rw [Dn h hs hx O hy] at h0
    split at h0
    · omega
    · rename_i q
      intro hm
      split at h0
      · rename_i q2
        have:=t.no n y O hy h0
        rw [e1 n O] at hm
        rcases VJ.1 hm with z | z
        · exact this z
        · rw [XW] at z
          exact q (key n y O z)
      · rename_i q2
        obtain rfl:n=W.length:=by omega
        rw [e2] at hm
        rcases VJ.1 hm with z | z
        · have hlen:∀ a b:Nat,a < W.length->W.getD a []=(W.getD s [] ++ [x]) ++ [b]->False:=fun a b ha q=>by
            rcases Sz a with q0 | q0
            · subst q0;rw [t.zero] at q;simp at q
            · obtain ⟨n,y2,h1,h2,h3⟩:=t.pre a q0 ha
              rw [h3] at q
              have:=(Qw q Z).1
              exact hnew (this ▸ nG h1)
          obtain ⟨a,ha,e⟩:=QT z
          exact hlen a y ha e
        · rw [XW] at z
          have:=Xk List.length z
          simp at this
theorem TW.start:TW k [CO k] [[]]:=by
  have e:∀ n x,n < 1->x < k->c5 [CO k] n x = -1:=fun n x hn hx=>by
    obtain rfl:n=0:=by omega
    simp [c5,CO,hx]
  refine ⟨rfl,by simp,rfl,fun a b ha hb _=>by simp at ha hb;omega,fun m hm h=>by simp at h;omega,fun n x hn hx h0=>?_,fun n x hn hx h0=>?_⟩
  · rw [e n x hn hx] at h0;omega
  · obtain rfl:n=0:=by simp at hn;omega
    simp
structure Od (k:Nat) (L:List (List Int)) (E:List Bool) (W S:List (List Nat)):Prop where
  ok:Gk k L E
  tw:TW k L W
  sub:∀ w ∈ S,w ∈ W
  ends:∀ m,m < W.length->(E.getD m false=true ↔ W.getD m [] ∈ S)
theorem Od.run {S:List (List Nat)} (h:Od k L E W S) (hx:∀ x ∈ xs,0<=x/\x < (k:Int)):∀ i,i<=xs.length->∃ W1,Od k (pG k L E (xs.take i)).1 (pG k L E (xs.take i)).2.1 W1 S/\(pG k L E (xs.take i)).2.2 < (pG k L E (xs.take i)).1.length /\
    W1.getD (pG k L E (xs.take i)).2.2 []=(xs.take i).map Int.toNat/\(pG k L E (xs.take i)).1.length<=L.length + i:=by
  intro i
  induction i with
  | zero=>intro _;exact ⟨W,h,by have:=h.tw.pos;have:=h.tw.len;show 0 < L.length;omega,h.tw.zero,XX _⟩
  | succ i ih =>
    intro hi
    obtain ⟨W1,h1,h2,h3,h4⟩:=ih O
    rcases hr:pG k L E (xs.take i) with ⟨L1,E1,s⟩
    rw [hr] at h1 h2 h3 h4
    simp only at h1 h2 h3 h4
    have hb:=hx _ (aX (d:=(0:Int)) (show i < xs.length by omega))
    have hl:=h1.tw.len
    have et:(xs.take (i + 1)).map Int.toNat=(xs.take i).map Int.toNat ++ [(xs.getD i 0).toNat]:=(oo (z:=(0:Int)) Int.toNat (show i < xs.length by omega)).symm
    by_cases q:(L1.getD s []).getD (xs.getD i 0).toNat 0 < 0
    · rw [EW O hr q]
      refine ⟨W1 ++ [W1.getD s [] ++ [(xs.getD i 0).toNat]],⟨Bf h1.ok h2 O,TW.grow h1.ok h1.tw h2 O q,fun w hw=>VJ.2 (.inl (h1.sub w hw)),fun m hm=>?_⟩,by rw [j5];show L1.length < _;omega,?_,by rw [j5];omega⟩
      · simp only [Xz,TQ] at hm
        rcases VW m W1.length with z | z
        · rw [i5 z,i5 (by rw [h1.ok.len];omega)];exact h1.ends m z
        · obtain rfl:m=W1.length:=by omega
          have e1:(E1 ++ [false]).getD W1.length false=false:=by rw [hl,<- h1.ok.len];simp
          have e2:(W1 ++ [W1.getD s [] ++ [(xs.getD i 0).toNat]]).getD W1.length []=W1.getD s [] ++ [(xs.getD i 0).toNat]:=by simp
          rw [e1,e2]
          have:=h1.tw.no s _ O O q
          exact ⟨(fun z=>by cases z),fun z=>absurd (h1.sub _ z) this⟩
      · show (W1 ++ _).getD L1.length []=_
        rw [<- hl,et,<- h3];simp
    · rw [E8 O hr q]
      have:=h1.tw.is s (xs.getD i 0).toNat O O (by show 0<=(L1.getD s []).getD _ 0;omega)
      exact ⟨W1,h1,by show ((L1.getD s []).getD (xs.getD i 0).toNat 0).toNat < L1.length;rw [<- hl];exact this.1,by rw [et,<- h3];exact this.2,by show L1.length<=_;omega⟩
theorem Gk.set {E2:List Bool} (h:Gk k L E) (he:E2.length=E.length):Gk k L E2:=⟨by rw [he,h.len],h.row,h.val⟩
def d8 (w:Wd):List Nat:=w.map fun c=>(ix c).toNat
theorem Od.add {S:List (List Nat)} {w:Wd} (h:Od k L E W S) (hw:∀ c ∈ w,0<=ix c/\ix c < k):∃ W1,Od k (vJ k L E w) (vI k L E w) W1 (S ++ [d8 w])/\(vJ k L E w).length<=L.length + w.length:=by
  have hx:∀ x ∈ w.map ix,0<=x/\x < (k:Int):=fun x hx=>by obtain ⟨c,hc,rfl⟩:=Vk.1 hx;exact hw c hc
  obtain ⟨W1,h1,h2,h3,h4⟩:=h.run hx (w.map ix).length (XX _)
  rw [Ry] at h1 h2 h3 h4
  have e3:(w.map ix).map Int.toNat=d8 w:=by rw [List.map_map];rfl
  have hl:=h1.tw.len
  refine ⟨W1,⟨h1.ok.set (by simp [vI]),h1.tw,fun u hu=>?_,fun m hm=>?_⟩,by rw [vJ];rw [Tq] at h4;exact h4⟩
  · rcases VJ.1 hu with z | z
    · exact h1.sub u z
    · rw [XW] at z;rw [z,<- e3,<- h3];exact nG O
  · rw [vI,dl (by rw [h1.ok.len];exact h2)]
    split
    · rename_i q;subst q
      exact ⟨fun _=>VJ.2 (.inr (XW.2 (by rw [h3,e3]))),fun _=>rfl⟩
    · rename_i q
      rw [h1.ends m hm,VJ,XW]
      exact ⟨.inl,fun z=>z.elim id fun z=>absurd (h1.tw.nd m _ hm O (by rw [z,h3,e3])) q⟩
end
def rq (W:List (List Nat)):List Nat->List Nat
  | []=>[]
  | a :: t=>if a :: t ∈ W then a :: t else rq W t
def Oc (W:List (List Nat)):Prop:=[] ∈ W/\∀ u x,u ++ [x] ∈ W->u ∈ W
section
variable {W S:List (List Nat)} {u w t:List Nat} {a x:Nat}
theorem BE (h:Oc W):rq W w ∈ W:=by
  induction w with
  | nil=>exact h.1
  | cons a t ih=>unfold rq;split <;> assumption
theorem mp:rq W w <:+ w:=by
  induction w with
  | nil=>exact List.suffix_refl _
  | cons a t ih =>
    unfold rq;split
    · exact List.suffix_refl _
    · exact ih.trans (List.suffix_cons _ _)
theorem Zl (h:w ∈ W):rq W w=w:=by
  cases w with
  | nil=>rfl
  | cons a t=>rw [rq,Xw h]
theorem ue (h:u <:+ a :: t):u=a :: t\/u <:+ t:=by
  rcases List.suffix_cons_iff.1 h with h | h
  · exact .inl h
  · exact .inr h
theorem ru (hu:u ∈ W) (h:u <:+ w):u <:+ rq W w:=by
  induction w with
  | nil=>exact h
  | cons a t ih =>
    unfold rq;split
    · exact h
    · rename_i q
      rcases ue h with z | z
      · exact absurd (z ▸ hu) q
      · exact ih z
theorem CB {u v:List Nat} (h:u <:+ v) (h':v <:+ u):u=v:=h.eq_of_length (Nat.le_antisymm h.length_le h'.length_le)
theorem tx (hp:Oc W):rq W (w ++ [x])=rq W (rq W w ++ [x]):=by
  refine CB ?_ ?_
  · refine ru (BE hp) ?_
    have h1:rq W (w ++ [x]) <:+ w ++ [x]:=mp
    have h2:rq W (w ++ [x]) ∈ W:=BE hp
    rcases List.eq_nil_or_concat (rq W (w ++ [x])) with q | ⟨u,y,q⟩
    · rw [q];exact List.nil_suffix
    · rw [List.concat_eq_append] at q
      rw [q] at h1 h2 ⊢
      obtain ⟨r,hr⟩:=h1
      rw [<- Tk] at hr
      obtain ⟨e1,e2⟩:=Qw hr Z
      have hu:=ru (hp.2 u y h2) (⟨r,e1⟩:u <:+ w)
      obtain ⟨r',hr'⟩:=hu
      exact ⟨r',by rw [<- Tk,hr',e2]⟩
  · refine ru (BE hp) ((mp).trans ?_)
    obtain ⟨r,hr⟩:=(mp:rq W w <:+ w)
    exact ⟨r,by rw [<- Tk,hr]⟩
end
theorem TW.prec {k:Nat} {L:List (List Int)} {W:List (List Nat)} (h:TW k L W):Oc W:=by
  refine ⟨h.zero ▸ nG h.pos,fun u x hu=>?_⟩
  obtain ⟨m,hm,e⟩:=QT hu
  rcases Sz m with q | q
  · subst q;rw [h.zero] at e;simp at e
  · obtain ⟨n,y,h1,h2,h3⟩:=h.pre m q hm
    rw [h3] at e
    exact (Qw e Z).1 ▸ nG h1
structure BS where
  L:List (List Int)
  E:List Bool
  F:List Int
  Q:List Int
abbrev mi (b:BS) (n x:Nat):Int:=if n=0 then 0 else c5 b.L (b.F.getD n 0).toNat x
def od (n:Nat) (b:BS) (x:Nat):BS :=
  if c5 b.L n x < 0 then { b with L:=b.L.set n ((b.L.getD n []).set x (mi b n x)) }
  else ⟨b.L,b.E.set (c5 b.L n x).toNat (b.E.getD (c5 b.L n x).toNat false || b.E.getD (mi b n x).toNat false),b.F.set (c5 b.L n x).toNat (mi b n x),b.Q ++ [c5 b.L n x]⟩
abbrev qn (b:BS) (a:Nat):Nat:=(b.Q.getD a 0).toNat
structure BI (k:Nat) (L0:List (List Int)) (W S:List (List Nat)) (b:BS) (i j:Nat):Prop where
  len:b.L.length=W.length/\b.E.length=W.length/\b.F.length=W.length
  row:∀ s,s < W.length->(b.L.getD s []).length=k
  q0:0 < b.Q.length/\b.Q.getD 0 0=0
  qr:∀ a,a < b.Q.length->0<=b.Q.getD a 0/\b.Q.getD a 0 < W.length
  qd:∀ a c,a < b.Q.length->c < b.Q.length->qn b a=qn b c->a=c
  srt:∀ a c,a<=c->c < b.Q.length->(W.getD (qn b a) []).length<=(W.getD (qn b c) []).length
  same:∀ n x,n < W.length->x < k->(∀ a,a < b.Q.length->qn b a=n->i < a\/a=i/\j<=x)->c5 b.L n x=c5 L0 n x
  done:∀ a x,a < b.Q.length->x < k->(a < i\/a=i/\x < j)->0<=c5 b.L (qn b a) x/\c5 b.L (qn b a) x < W.length/\W.getD (c5 b.L (qn b a) x).toNat []=rq W (W.getD (qn b a) [] ++ [x])
  ch:∀ a x,a < b.Q.length->x < k->(a < i\/a=i/\x < j)->W.getD (qn b a) [] ++ [x] ∈ W->∃ c,c < b.Q.length/\W.getD (qn b c) []=W.getD (qn b a) [] ++ [x]
  pa:∀ c,0 < c->c < b.Q.length->∃ a x,a < b.Q.length/\x < k/\(a < i\/a=i/\x < j)/\W.getD (qn b c) []=W.getD (qn b a) [] ++ [x]
  fl:∀ c,0 < c->c < b.Q.length->0<=b.F.getD (qn b c) 0/\b.F.getD (qn b c) 0 < W.length/\W.getD (b.F.getD (qn b c) 0).toNat []=rq W ((W.getD (qn b c) []).drop 1)
  eq:∀ c,c < b.Q.length->(b.E.getD (qn b c) false=true ↔ ∃ u ∈ S,u <:+ W.getD (qn b c) [])
  en:∀ m,m < W.length->(∀ c,c < b.Q.length->qn b c ≠ m)->(b.E.getD m false=true ↔ W.getD m [] ∈ S)
section
variable {k i j:Nat} {L0:List (List Int)} {E0:List Bool} {W S:List (List Nat)} {b:BS}
theorem BI.before (h:BI k L0 W S b i j) (t:TW k L0 W) (hi:i < b.Q.length):∀ n p,p < W.length->(W.getD p []).length=n->n < (W.getD (qn b i) []).length->∃ a,a < i/\qn b a=p:=by
  intro n
  induction n with
  | zero =>
    intro p hp hl hn
    have e:p=0:=t.nd p 0 hp t.pos (by rw [t.zero];exact TX.1 hl)
    subst e
    have q0:qn b 0=0:=by unfold qn;rw [h.q0.2];rfl
    refine ⟨0,?_,q0⟩
    rcases Sz i with q | q
    · subst q;rw [q0,t.zero] at hn;simp at hn
    · exact q
  | succ n ih =>
    intro p hp hl hn
    have V:0 < p:=by
      rcases Sz p with q | q
      · subst q;rw [t.zero] at hl;simp at hl
      · exact q
    obtain ⟨m,x,h1,h2,h3⟩:=t.pre p V hp
    have hml:(W.getD m []).length=n:=by rw [h3] at hl;simpa using hl
    obtain ⟨a,ha,ea⟩:=ih m h1 hml O
    obtain ⟨c,hc,ec⟩:=h.ch a x O h2 (.inl ha) (by rw [ea,<- h3];exact nG hp)
    have ecp:qn b c=p:=t.nd _ _ (by have:=h.qr c hc;unfold qn;omega) hp (by rw [ec,ea,h3])
    refine ⟨c,?_,ecp⟩
    refine Classical.byContradiction fun q=>?_
    have:=h.srt i c O hc
    rw [ecp] at this;omega
theorem BI.qlt (h:BI k L0 W S b i j) {a:Nat} (ha:a < b.Q.length):qn b a < W.length:=by have:=h.qr a ha;unfold qn;omega
theorem BI.to (h:BI k L0 W S b i j) (t:TW k L0 W) (hi:i < b.Q.length) (hj:j < k):0<=mi b (qn b i) j/\mi b (qn b i) j < W.length/\W.getD (mi b (qn b i) j).toNat []=rq W ((W.getD (qn b i) [] ++ [j]).drop 1) /\
    ∃ c,c < b.Q.length/\qn b c=(mi b (qn b i) j).toNat:=by
  have hq:=h.qlt hi
  by_cases hz:qn b i=0
  · rw [mi,Xw hz,hz,t.zero]
    have q0:qn b 0=0:=by unfold qn;rw [h.q0.2];rfl
    exact ⟨Int.le_refl _,by have:=t.pos;omega,by show W.getD 0 []=_;rw [t.zero];rfl,0,h.q0.1,q0⟩
  · rw [mi,Xy hz]
    have a1:0 < i:=by
      rcases Sz i with q | q
      · subst q;exact absurd (by unfold qn;rw [h.q0.2];rfl) hz
      · exact q
    obtain ⟨f1,f2,f3⟩:=h.fl i a1 hi
    generalize hw:W.getD (qn b i) []=w at *
    obtain ⟨a0,w0,rfl⟩:∃ a0 w0,w=a0 :: w0:=by
      cases w with
      | nil=>exact absurd (t.nd _ 0 hq t.pos (by rw [hw,t.zero])) hz
      | cons a0 w0=>exact ⟨a0,w0,Z⟩
    simp only [List.drop_one,List.tail_cons,List.cons_append] at f3 ⊢
    have hsh:(W.getD (b.F.getD (qn b i) 0).toNat []).length < (W.getD (qn b i) []).length:=by
      rw [f3,hw];have:=(mp:rq W w0 <:+ w0).length_le;simp;omega
    obtain ⟨c,hc,ec⟩:=h.before t hi _ _ O Z hsh
    have hd:=h.done c j O hj (.inl hc)
    rw [ec] at hd
    refine ⟨hd.1,hd.2.1,by rw [hd.2.2,f3,<- tx t.prec],?_⟩
    -- it has been met,as its word is not longer than the node's
    have a2:(W.getD (c5 b.L (b.F.getD (qn b i) 0).toNat j).toNat []).length<=(W.getD (qn b i) []).length:=by
      rw [hd.2.2,f3,<- tx t.prec]
      have:=(mp:rq W (w0 ++ [j]) <:+ w0 ++ [j]).length_le
      rw [hw];simp at this ⊢;omega
    generalize hr:(c5 b.L (b.F.getD (qn b i) 0).toNat j).toNat=r at *
    have hrW:r < W.length:=by omega
    rcases VW (W.getD r []).length (W.getD (qn b i) []).length with q | q
    · obtain ⟨c,hc,ec⟩:=h.before t hi _ r hrW Z q
      exact ⟨c,by omega,ec⟩
    · rcases Sz r with z | z
      · subst z
        have q0:qn b 0=0:=by unfold qn;rw [h.q0.2];rfl
        exact ⟨0,h.q0.1,q0⟩
      · obtain ⟨m,x,h1,h2,h3⟩:=t.pre r z hrW
        have hm:(W.getD m []).length < (W.getD (qn b i) []).length:=by rw [h3,Xz,TQ] at a2;omega
        obtain ⟨c,hc,ec⟩:=h.before t hi _ m h1 Z hm
        obtain ⟨d,V,X⟩:=h.ch c x O h2 (.inl hc) (by rw [ec,<- h3];exact nG hrW)
        exact ⟨d,V,t.nd _ _ (h.qlt V) hrW (by rw [X,ec,h3])⟩
theorem ZT {L:List (List Int)} {n x m y:Nat} {v:Int} (hn:n < L.length) (hx:x < (L.getD n []).length):c5 (L.set n ((L.getD n []).set x v)) m y=if m=n/\y=x then v else c5 L m y:=by
  unfold c5
  rw [dl hn]
  by_cases h:m=n
  · subst h
    rw [Xw Z,dl hx]
    by_cases h2:y=x <;> simp [h2]
  · simp [h]
theorem BI.step (h:BI k L0 W S b i j) (t:TW k L0 W) (hs:∀ w ∈ S,w ∈ W) (hne:[] ∉ S) (hi:i < b.Q.length) (hj:j < k):BI k L0 W S (od (qn b i) b j) i (j + 1):=by
  have hq:=h.qlt hi
  obtain ⟨t1,t2,t3,t4⟩:=h.to t hi hj
  have hsame:c5 b.L (qn b i) j=c5 L0 (qn b i) j:=h.same _ _ hq hj fun a ha ea=>by
    have:=h.qd a i ha hi ea;exact .inr ⟨this,by omega⟩
  have X:∀ a,a < b.Q.length->qn b a=qn b i->a=i:=fun a ha ea=>h.qd a i ha hi ea
  unfold od
  split
  · -- the letter leads nowhere yet
    rename_i hneg
    have hno:=t.no (qn b i) j hq hj (by rw [<- hsame];exact hneg)
    have hval:W.getD (mi b (qn b i) j).toNat []=rq W (W.getD (qn b i) [] ++ [j]):=by
      rw [t3]
      cases hw:W.getD (qn b i) [] ++ [j] with
      | nil=>simp at hw
      | cons a0 w0=>rw [hw] at hno;rw [rq,Xy hno];rfl
    have hent:∀ m y,c5 (b.L.set (qn b i) ((b.L.getD (qn b i) []).set j (mi b (qn b i) j))) m y=if m=qn b i/\y=j then mi b (qn b i) j else c5 b.L m y:=fun m y=>ZT (by rw [h.len.1];exact hq) (by rw [h.row _ hq];exact hj)
    refine ⟨⟨by simp [h.len.1],h.len.2⟩,fun s hs'=>?_,h.q0,h.qr,h.qd,h.srt,fun n x hn hx hc=>?_,fun a x ha hx hc=>?_,fun a x ha hx hc hm=>?_,fun c V hc=>?_,h.fl,h.eq,h.en⟩
    · show ((b.L.set _ _).getD s []).length=k
      rw [dl (by rw [h.len.1];exact hq)]
      split
      · rw [XQ];exact h.row _ hq
      · exact h.row s hs'
    · show c5 (b.L.set _ _) n x=_
      rw [hent,Xy]
      · exact h.same n x hn hx fun a ha ea=>by rcases hc a ha ea with q | q;exact .inl q;exact .inr ⟨q.1,by omega⟩
      · rintro ⟨rfl,rfl⟩
        rcases hc i hi rfl with q | q <;> omega
    · show 0<=c5 (b.L.set _ _) (qn b a) x/\_
      have e:c5 (b.L.set (qn b i) ((b.L.getD (qn b i) []).set j (mi b (qn b i) j))) (qn b a) x=if qn b a=qn b i/\x=j then mi b (qn b i) j else c5 b.L (qn b a) x:=hent _ _
      show 0<=c5 (b.L.set (qn b i) ((b.L.getD (qn b i) []).set j (mi b (qn b i) j))) (qn b a) x/\c5 (b.L.set (qn b i) ((b.L.getD (qn b i) []).set j (mi b (qn b i) j))) (qn b a) x < W.length/\W.getD (c5 (b.L.set (qn b i) ((b.L.getD (qn b i) []).set j (mi b (qn b i) j))) (qn b a) x).toNat []=_
      rw [e]
      by_cases q:qn b a=qn b i/\x=j
      · rw [Xw q,q.1,q.2];exact ⟨t1,t2,hval⟩
      · rw [Xy q]
        exact h.done a x ha hx (by
          rcases hc with c | c
          · exact .inl c
          · exact .inr ⟨c.1,by have:¬ x=j:=fun z=>q ⟨by rw [c.1],z⟩;omega⟩)
    · rcases hc with c | c
      · exact h.ch a x ha hx (.inl c) hm
      · by_cases z:x=j
        · obtain ⟨rfl,_⟩:=c;subst z;exact absurd hm hno
        · exact h.ch a x ha hx (.inr ⟨c.1,by omega⟩) hm
    · obtain ⟨a,x,h1,h2,h3,h4⟩:=h.pa c V hc
      exact ⟨a,x,h1,h2,by rcases h3 with c | c;exact .inl c;exact .inr ⟨c.1,by omega⟩,h4⟩
  · -- a node that is met now
    rename_i hpos
    obtain ⟨m1,m2⟩:=t.is (qn b i) j hq hj (by rw [<- hsame];omega)
    rw [<- hsame] at m1 m2
    generalize hm:c5 b.L (qn b i) j=z at *
    obtain ⟨m,rfl⟩:∃ m:Nat,z=m:=⟨z.toNat,by omega⟩
    rw [XY] at m1 m2 ⊢
    have fresh:∀ c,c < b.Q.length->qn b c ≠ m:=fun c hc ec=>by
      rcases Sz c with q | q
      · subst q
        have q0:qn b 0=0:=by unfold qn;rw [h.q0.2];rfl
        rw [q0] at ec;rw [<- ec,t.zero] at m2;simp at m2
      · obtain ⟨a,x,h1,h2,h3,h4⟩:=h.pa c q hc
        rw [ec,m2] at h4
        obtain ⟨e1,e2⟩:=Qw h4 Z
        have ea:=X a h1 (t.nd _ _ (h.qlt h1) hq e1.symm)
        have ex:x=j:=by simpa using e2.symm
        rcases h3 with c | c <;> omega
    have g1:∀ a,a < b.Q.length->(b.Q ++ [(m:Int)]).getD a 0=b.Q.getD a 0:=fun a ha=>i5 ha
    have g2:(b.Q ++ [(m:Int)]).getD b.Q.length 0=m:=by simp
    have n1:∀ a,a < b.Q.length->((b.Q ++ [(m:Int)]).getD a 0).toNat=qn b a:=fun a ha=>by rw [g1 a ha]
    have n2:((b.Q ++ [(m:Int)]).getD b.Q.length 0).toNat=m:=by rw [g2];rfl
    have lw:(W.getD m []).length=(W.getD (qn b i) []).length + 1:=by rw [m2];simp
    have yI:∀ c,c < b.Q.length->(W.getD (qn b c) []).length<=(W.getD (qn b i) []).length + 1:=fun c hc=>by
      rcases Sz c with q | q
      · subst q
        have q0:qn b 0=0:=by unfold qn;rw [h.q0.2];rfl
        rw [q0,t.zero];simp
      · obtain ⟨a,x,h1,h2,h3,h4⟩:=h.pa c q hc
        rw [h4,Xz,TQ]
        have:=h.srt a i (by rcases h3 with c | c <;> omega) hi
        omega
    have lt:∀ {a},a < (b.Q ++ [(m:Int)]).length->a < b.Q.length\/a=b.Q.length:=fun {a} ha=>by simp at ha;omega
    refine ⟨⟨h.len.1,by simp [h.len.2.1],by simp [h.len.2.2]⟩,h.row,⟨by simp,by show (b.Q ++ [(m:Int)]).getD 0 0=0;rw [g1 0 h.q0.1];exact h.q0.2⟩,fun a ha=>?_,fun a c ha hc ec=>?_,fun a c hac hc=>?_,fun n x hn hx hc=>?_,fun a x ha hx hc=>?_,fun a x ha hx hc hm'=>?_,fun c V hc=>?_,fun c V hc=>?_,fun c hc=>?_,fun p hp hc=>?_⟩
    · show 0<=(b.Q ++ [(m:Int)]).getD a 0/\(b.Q ++ [(m:Int)]).getD a 0 < W.length
      rcases lt ha with q | q
      · rw [g1 a q];exact h.qr a q
      · rw [q,g2];omega
    · have ec:((b.Q ++ [(m:Int)]).getD a 0).toNat=((b.Q ++ [(m:Int)]).getD c 0).toNat:=ec
      rcases lt ha with q | q
      · rcases lt hc with q2 | q2
        · rw [n1 a q,n1 c q2] at ec;exact h.qd a c q q2 ec
        · rw [n1 a q,q2,n2] at ec;exact absurd ec (fresh a q)
      · rcases lt hc with q2 | q2
        · rw [n1 c q2,q,n2] at ec;exact absurd ec.symm (fresh c q2)
        · omega
    · show (W.getD ((b.Q ++ [(m:Int)]).getD a 0).toNat []).length<=(W.getD ((b.Q ++ [(m:Int)]).getD c 0).toNat []).length
      rcases lt hc with q2 | q2
      · rw [n1 a O,n1 c q2];exact h.srt a c hac q2
      · rw [q2,n2]
        rcases VW a b.Q.length with q | q
        · rw [n1 a q,lw];exact yI a q
        · rw [show a=b.Q.length by omega,n2];exact XX _
    · refine h.same n x hn hx fun a ha ea=>?_
      have:=hc a Or (by show ((b.Q ++ [(m:Int)]).getD a 0).toNat=n;rw [n1 a ha];exact ea)
      rcases this with q | q
      · exact .inl q
      · exact .inr ⟨q.1,by omega⟩
    · show 0<=c5 b.L ((b.Q ++ [(m:Int)]).getD a 0).toNat x/\c5 b.L ((b.Q ++ [(m:Int)]).getD a 0).toNat x < W.length/\W.getD (c5 b.L ((b.Q ++ [(m:Int)]).getD a 0).toNat x).toNat []=rq W (W.getD ((b.Q ++ [(m:Int)]).getD a 0).toNat [] ++ [x])
      have hal:a < b.Q.length:=by omega
      rw [n1 a hal]
      by_cases q:a=i/\x=j
      · obtain ⟨rfl,rfl⟩:=q
        rw [hm,XY,m2,<- m2,Zl (nG m1)]
        exact ⟨by omega,by omega,Z⟩
      · exact h.done a x hal hx (by
          rcases hc with c | c
          · exact .inl c
          · exact .inr ⟨c.1,by have:¬ x=j:=fun z=>q ⟨c.1,z⟩;omega⟩)
    · show ∃ c,c < (b.Q ++ [(m:Int)]).length/\W.getD ((b.Q ++ [(m:Int)]).getD c 0).toNat []=W.getD ((b.Q ++ [(m:Int)]).getD a 0).toNat [] ++ [x]
      have hal:a < b.Q.length:=by omega
      have hm':W.getD ((b.Q ++ [(m:Int)]).getD a 0).toNat [] ++ [x] ∈ W:=hm'
      rw [n1 a hal] at hm' ⊢
      by_cases q:a=i/\x=j
      · obtain ⟨rfl,rfl⟩:=q
        exact ⟨b.Q.length,by simp,by rw [n2];exact m2⟩
      · obtain ⟨c,c1,c2⟩:=h.ch a x hal hx (by
          rcases hc with c | c
          · exact .inl c
          · exact .inr ⟨c.1,by have:¬ x=j:=fun z=>q ⟨c.1,z⟩;omega⟩) hm'
        exact ⟨c,by simp;omega,by rw [n1 c c1];exact c2⟩
    · show ∃ a x,a < (b.Q ++ [(m:Int)]).length/\x < k/\(a < i\/a=i/\x < j + 1)/\W.getD ((b.Q ++ [(m:Int)]).getD c 0).toNat []=W.getD ((b.Q ++ [(m:Int)]).getD a 0).toNat [] ++ [x]
      rcases lt hc with q | q
      · obtain ⟨a,x,h1,h2,h3,h4⟩:=h.pa c V q
        exact ⟨a,x,by simp;omega,h2,by rcases h3 with c | c;exact .inl c;exact .inr ⟨c.1,by omega⟩,by rw [n1 c q,n1 a h1];exact h4⟩
      · exact ⟨i,j,by simp;omega,hj,.inr ⟨Z,by omega⟩,by rw [q,n2,n1 i hi];exact m2⟩
    · show 0<=(b.F.set m (mi b (qn b i) j)).getD ((b.Q ++ [(m:Int)]).getD c 0).toNat 0/\(b.F.set m (mi b (qn b i) j)).getD ((b.Q ++ [(m:Int)]).getD c 0).toNat 0 < W.length/\W.getD ((b.F.set m (mi b (qn b i) j)).getD ((b.Q ++ [(m:Int)]).getD c 0).toNat 0).toNat []=rq W ((W.getD ((b.Q ++ [(m:Int)]).getD c 0).toNat []).drop 1)
      rw [dl (by rw [h.len.2.2];exact m1)]
      rcases lt hc with q | q
      · rw [n1 c q,Xy (fresh c q)];exact h.fl c V q
      · rw [q,n2,Xw Z,m2];exact ⟨t1,t2,t3⟩
    · show (b.E.set m (b.E.getD m false || b.E.getD (mi b (qn b i) j).toNat false)).getD ((b.Q ++ [(m:Int)]).getD c 0).toNat false=true ↔ ∃ u ∈ S,u <:+ W.getD ((b.Q ++ [(m:Int)]).getD c 0).toNat []
      rw [dl (by rw [h.len.2.1];exact m1)]
      rcases lt hc with q | q
      · rw [n1 c q,Xy (fresh c q)];exact h.eq c q
      · rw [q,n2,Xw Z,Bool.or_eq_true,h.en m m1 fresh]
        obtain ⟨d,d1,d2⟩:=t4
        rw [<- d2,h.eq d d1,d2,t3,<- m2]
        constructor
        · rintro (z | ⟨u,u1,u2⟩)
          · exact ⟨_,z,List.suffix_refl _⟩
          · exact ⟨u,u1,u2.trans (mp.trans (List.drop_suffix _ _))⟩
        · rintro ⟨u,u1,u2⟩
          cases hw:W.getD m [] with
          | nil=>rw [hw] at lw;simp at lw
          | cons a0 w0 =>
            rw [hw] at u2
            rcases ue u2 with z | z
            · exact .inl (z ▸ u1)
            · exact .inr ⟨u,u1,ru (hs u u1) z⟩
    · show (b.E.set m (b.E.getD m false || b.E.getD (mi b (qn b i) j).toNat false)).getD p false=true ↔ _
      have hpm:p ≠ m:=fun z=>hc b.Q.length (by simp) (by show ((b.Q ++ [(m:Int)]).getD b.Q.length 0).toNat=p;rw [n2,z])
      rw [dl (by rw [h.len.2.1];exact m1),Xy hpm]
      exact h.en p hp fun c hc'=>by have:=hc c Or;intro z;exact this (by show ((b.Q ++ [(m:Int)]).getD c 0).toNat=p;rw [n1 c hc'];exact z)
theorem BI.start (h:Od k L0 E0 W S) (hne:[] ∉ S):BI k L0 W S ⟨L0,E0,List.replicate W.length 0,[0]⟩ 0 0:=by
  have hl:=h.tw.len
  have q0:∀ a,a < ([0]:List Int).length->a=0:=fun a ha=>by simpa using ha
  refine ⟨⟨hl.symm,by rw [hl];exact h.ok.len,TJ⟩,fun s hs=>h.ok.row s O,⟨Nat.zero_lt_one,rfl⟩,fun a ha=>?_,fun a c ha hc _=>?_,fun a c hac hc=>?_,fun n x hn hx _=>rfl,fun a x ha hx hc=>?_,fun a x ha hx hc=>?_,fun c V hc=>?_,fun c V hc=>?_,fun c hc=>?_,fun m hm _=>h.ends m hm⟩
  · rw [q0 a ha];exact ⟨Int.le_refl _,by have:=h.tw.pos;show (0:Int) < W.length;omega⟩
  · rw [q0 a ha,q0 c hc]
  · rw [q0 c hc,q0 a (by have:=q0 c hc;show a < 1;omega)];exact XX _
  · omega
  · omega
  · exact absurd (q0 c hc) O
  · exact absurd (q0 c hc) O
  · rw [q0 c hc]
    show E0.getD 0 false=true ↔ ∃ u ∈ S,u <:+ W.getD 0 []
    rw [h.ends 0 h.tw.pos,h.tw.zero]
    exact ⟨fun z=>absurd z hne,fun ⟨u,u1,u2⟩=>absurd ((List.suffix_nil.1 u2) ▸ u1) hne⟩
theorem BI.next (h:BI k L0 W S b i k) (hi:i < b.Q.length):BI k L0 W S b (i + 1) 0:=by
  have e:∀ {a x},x < k->(a < i + 1\/a=i + 1/\x < 0)->(a < i\/a=i/\x < k):=fun {a x} hx hc=>by omega
  exact ⟨h.len,h.row,h.q0,h.qr,h.qd,h.srt,fun n x hn hx hc=>h.same n x hn hx fun a ha ea=>by have:=hc a ha ea;omega,fun a x ha hx hc=>h.done a x ha hx (e hx hc),fun a x ha hx hc=>h.ch a x ha hx (e hx hc),
    fun c V hc=>by obtain ⟨a,x,h1,h2,h3,h4⟩:=h.pa c V hc;exact ⟨a,x,h1,h2,by omega,h4⟩,h.fl,h.eq,h.en⟩
theorem qI:∀ (n:Nat) (l:List Nat),l.Nodup->(∀ x ∈ l,x < n)->l.length<=n
  | 0,l,_,h=>by
    cases l with
    | nil=>exact XX _
    | cons a l=>exact absurd (h a VX) O
  | n + 1,l,hn,h=>by
    have h1:=qI n (l.erase n) (hn.erase n) (fun x hx=>by
      have h2:=h x (List.mem_of_mem_erase hx)
      have h3:x ≠ n:=by rintro rfl;exact hn.not_mem_erase hx
      omega)
    by_cases hm:n ∈ l
    · rw [List.length_erase_of_mem hm] at h1;omega
    · rw [List.erase_of_not_mem hm] at h1;omega
theorem rx {l:List Nat} {n:Nat} (h1:l.Nodup) (h2:∀ x ∈ l,x < n):l.length<=n:=qI _ _ h1 h2
theorem BI.qlen (h:BI k L0 W S b i j):b.Q.length<=W.length:=by
  have:=rx (l:=(List.range b.Q.length).map (qn b)) (n:=W.length) ?_ ?_
  · simpa using this
  · rw [Rv,RZ]
    exact List.Pairwise.imp_of_mem (fun {a c} ha hc hac e=>hac (h.qd a c (TY.1 ha) (TY.1 hc) e)) List.nodup_range
  · intro x hx
    obtain ⟨a,ha,rfl⟩:=Vk.1 hx
    exact h.qlt (TY.1 ha)
theorem BI.all (h:BI k L0 W S b i 0) (t:TW k L0 W) (hi:b.Q.length<=i):∀ n p,p < W.length->(W.getD p []).length=n->∃ a,a < b.Q.length/\qn b a=p:=by
  intro n
  induction n with
  | zero =>
    intro p hp hl
    have e:p=0:=t.nd p 0 hp t.pos (by rw [t.zero];exact TX.1 hl)
    subst e
    exact ⟨0,h.q0.1,by unfold qn;rw [h.q0.2];rfl⟩
  | succ n ih =>
    intro p hp hl
    have V:0 < p:=by
      rcases Sz p with q | q
      · subst q;rw [t.zero] at hl;simp at hl
      · exact q
    obtain ⟨m,x,h1,h2,h3⟩:=t.pre p V hp
    obtain ⟨a,ha,ea⟩:=ih m h1 (by rw [h3] at hl;simpa using hl)
    obtain ⟨c,hc,ec⟩:=h.ch a x ha h2 (.inl O) (by rw [ea,<- h3];exact nG hp)
    exact ⟨c,hc,t.nd _ _ (h.qlt hc) hp (by rw [ec,ea,h3])⟩
structure Ux (k:Nat) (L:List (List Int)) (E:List Bool) (W S:List (List Nat)):Prop where
  len:L.length=W.length/\E.length=W.length
  row:∀ s,s < W.length->(L.getD s []).length=k
  pos:0 < W.length
  zero:W.getD 0 []=[]
  nd:∀ a b,a < W.length->b < W.length->W.getD a []=W.getD b []->a=b
  prec:Oc W
  sub:∀ w ∈ S,w ∈ W
  to:∀ n x,n < W.length->x < k->0<=c5 L n x/\c5 L n x < W.length/\W.getD (c5 L n x).toNat []=rq W (W.getD n [] ++ [x])
  ends:∀ n,n < W.length->(E.getD n false=true ↔ ∃ u ∈ S,u <:+ W.getD n [])
theorem BI.aho (h:BI k L0 W S b i 0) (t:TW k L0 W) (hs:∀ w ∈ S,w ∈ W) (hi:b.Q.length<=i):Ux k b.L b.E W S :=
  ⟨⟨h.len.1,h.len.2.1⟩,h.row,t.pos,t.zero,t.nd,t.prec,hs,fun n x hn hx=>by
    obtain ⟨a,ha,rfl⟩:=h.all t hi _ n hn Z
    exact h.done a x ha hx (.inl O),fun n hn=>by
    obtain ⟨a,ha,rfl⟩:=h.all t hi _ n hn Z
    exact h.eq a ha⟩
end
structure n0 (k:Nat) (acc:List Bool) (L:List (List Int)):Prop where
  sym:1<=k/\k<=400
  len:acc.length=L.length
  num:0 < L.length/\L.length<=20000
  row:∀ s,s < L.length->(L.getD s []).length=k
  val:∀ s x,s < L.length->x < k->-1<=c5 L s x/\c5 L s x < L.length
end Go.Proofs.YtjppkekmddjcfaaGreatDoor
