import Derived.Test.YtjppkekmddjcfaaGreatDoorCC5
import Derived.Test.YtjppkekmddjcfaaGreatDoorCC2
import Derived.Test.YtjppkekmddjcfaaGreatDoorCC3
set_option linter.unusedSectionVars false
set_option linter.unusedVariables false
set_option linter.unusedSimpArgs false
namespace Go.Proofs.YtjppkekmddjcfaaGreatDoor
open Go Go.RowKit V
set_option maxRecDepth 100000

theorem RC {A:AH} {n:Nat} {a:List UInt8} {i:Int} {v:Value} {xs:List Value} (h:bI A n v xs):qM [bf a,num i,v]=true:=by
  obtain ⟨p,k,c,rfl,_⟩:=h;rfl
theorem ja {A:AH} {k b:Nat} {o x:fC} (h:A.get b=some x) (hn:b ≠ k):(A.set k o).get b=some x:=(AH.set_get_ne _ _ hn).trans h
theorem ro {A0 A:AH} {k:Nat} {o:fC} (le:A0.le A) (D:A0.wf) (h:A0.get k=none):A0.le (A.set k o):=an le D h rfl fun b' o' hn g=>ja g hn
theorem su (p q:Value) (A:AH):j5 Tryz.prog 105 #[p,q] .returning A (fun en u' A1=>en=.returned (dT [])/\u'=.returning/\A=A1):=by
  refine j5.enter (args:=[p,q]) Tryz.func105 Z (by rw [Tryz.ntmps105];exact Nat.le_of_ble_eq_true rfl) (fun wf=>?_)
  have hn:Tryz.f105.ntmps=12:=Tryz.ntmps105
  have hr:Tryz.f105.results = #[]:=Tryz.results105
  rw [hn,hr]
  refine ri.seq (ri.region Z (sH.recoverNil Z Z Z O (fun _ _=>rfl) (sH.nil ?_)))
  refine ri.of_run ?_
  refine am.block ?_
  refine am.seq fun K3 h4=>?_
  refine am.region ?_
  refine Ops.val (v:=.bool true) Z Z (fun a ha w hw=>?_) ?_
  · have h5:=cB (x:=.tmp 5) ha Z
    simp only [execOp,h5]
    simp [Act.eval,go_sem]
  refine Ops.nil (h4 _ _ ?_)
  refine am.cond_true Z ?_
  refine am.region<|.q Z (ah Z)<|.nil ?_
  exact ⟨Z,[],Z,Z,Z,Z⟩

theorem VP:c9 Tryz.prog 149=some 0:=by kernel_rfl
theorem U7:ll Tryz.prog 37 []=some (.agg #[bf [],num 0,.slice none 0 0]):=by kernel_rfl

theorem zu (a b:Nat) (c1 c2:List Value) (k1 k2:Nat) (older:List PanicEntry) (A:AH) (hab:a ≠ b) (h1:A.get a=some (.row true c1 k1)) (l1:3<=c1.length) (h2:A.get b=some (.row true c2 k2)) (l2:1<=c2.length) :
    j5 Tryz.prog 105 #[.pointer (some ⟨a,0,none⟩),.pointer (some ⟨b,0,none⟩)] (.panicking ({ v:=.iface 149 (.agg #[]),recovered:=false } :: older)) A (fun en u' A1=>en=.returned (dT [])/\u'=.panicking ({ v:=.iface 149 (.agg #[]),recovered:=true } :: older) /\
      A1=(((A.new (.row true [] 0)).set A.n (.row true [] 0)).set a (.row true (oT c1 0 [bf [],num 0,.slice none 0 0]) k1)).set b (.row true (oT c2 0 [.bool false]) k2)):=by
  refine j5.enter (args:=[_,_]) Tryz.func105 Z (by rw [Tryz.ntmps105];exact Nat.le_of_ble_eq_true rfl) (fun wf=>?_)
  have hn:Tryz.f105.ntmps=12:=Tryz.ntmps105
  have hr:Tryz.f105.results = #[]:=Tryz.results105
  rw [hn,hr]
  refine ri.seq (ri.region Z (sH.recover Z Z Z O (fun _ _=>rfl) (sH.nil ?_)))
  refine ri.of_run ?_
  refine am.block ?_
  refine am.seq fun K3 h4=>?_
  refine am.region ?_
  refine Ops.val (v:=.bool false) Z Z (fun a ha w hw=>?_) ?_
  · have h5:=cB (x:=.tmp 5) ha Z
    simp only [execOp,h5]
    simp [Act.eval,go_sem]
  refine Ops.nil (h4 _ _ ?_)
  refine am.cond_false Z ?_
  refine am.seq fun K5 h6=>?_
  refine am.region ?_
  refine Ops.val (v:=.tuple #[.agg #[],.bool true]) Z Z (fun a ha w hw=>?_) ?_
  · have h5:=cB (x:=.tmp 5) ha Z
    simp only [execOp,h5]
    simp [Act.eval,go_sem]
    rw [ED Tryz.underlying149];rfl
  refine Ops.q Z (bg Z Z)<|.q Z (bg Z Z)<|.nil (h6 _ _ ?_)
  refine am.cond_true Z ?_
  refine am.seq fun K7 h8=>?_
  refine am.region ?_
  refine Ops.l rfl fun K Kp hK _=>zA (z:=.agg #[]) (cs:=[]) PX Z (hK _ _ ?_)
  refine Ops.l rfl fun K Kp hK _=>qc (cs:=[]) Z Z Z VP Z (AH.new_get_same _ _) (by simp) Z (hK _ _ ?_)
  refine Ops.nil (h8 _ _ ?_)
  have ha:=wf a _ h1
  have hb:=wf b _ h2
  refine am.region ?_
  refine Ops.q Z (dA Z U7) ?_
  refine Ops.l rfl fun K Kp hK _=>qc (cs:=[bf [],num 0,.slice none 0 0]) (c:=c1) (cap:=k1) Z Z Z ig Z (by rw [AH.set_get_ne _ _ (by show a ≠ A.n;omega),AH.new_get_ne _ _ (by show a ≠ A.n;omega)];exact h1) (by simpa using l1) Z (hK _ _ ?_)
  refine Ops.l rfl fun K Kp hK _=>qc (cs:=[.bool false]) (c:=c2) (cap:=k2) Z Z Z ms Z (by rw [AH.set_get_ne _ _ (by show b ≠ a;omega),AH.set_get_ne _ _ (by show b ≠ A.n;omega),AH.new_get_ne _ _ (by show b ≠ A.n;omega)];exact h2) (by simpa using l2) Z (hK _ _ ?_)
  refine Ops.nil ?_
  exact ⟨Z,[],Z,Z,Z,Z⟩


theorem uN (w:List UInt8) (rs:List be) (l:List (List UInt8)) (b0:Nat) (g:Int) (u rv:Value) (mb:Nat) (x0 x5 x6 x7 x8 x9:Value) (A0 A:AH) (a2:A0.le A) (D:A0.wf)
    (hb:A.get b0=some (.row true [x0,num g,u,rv,.map (some mb),x5,x6,x7,x8,x9] 10)) (a8:A0.get b0=none) (hs:bW g l rs=true) (hL:gy A0) (hr:bI A0 3 rv (db rs)) (hp:Proofs A0 rs) (hI:o5 A0 mb rs) :
    bE Tryz.prog 60 #[.pointer (some ⟨b0,0,none⟩),bf (w)] A (fun v A1=>∃ V y0 y5 y6 y7 y8 y9,v=.tuple #[.agg #[bf (fk (eI rs w)).word,num (((fk (eI rs w)).steps:Nat):Int),V],.bool (eI rs w).isSome]/\A0.le A1/\A1.wf /\
      A1.get b0=some (.row true [y0,num g,u,rv,.map (some mb),y5,y6,y7,y8,y9] 10)/\Fresh A0 A1 V 3 (cy (fk (eI rs w)).disk)/\blk V ≠ some b0):=by
  refine ym.ret (enterD (e:=[(0,.pointer (some ⟨b0,0,none⟩)),(1,bf w)]) (args:=[.pointer (some ⟨b0,0,none⟩),bf w]) Tryz.call60 Tryz.func60 Z Tryz.results60 Tryz.ntmps60 Z Z Z (fun wf=>?_))
  have ac:b0 < A.n:=wf _ _ hb
  have n1:b0 ≠ A.n:=by omega
  have n2:b0 ≠ A.n + 1:=by omega
  have n3:A.n + 1 ≠ A.n:=by omega
  have a5:∀ o1 o2:fC,A.le ((A.new o1).new o2):=fun o1 o2=>AH.le_new (AH.le_new (AH.le.refl A) wf o1) wf o2
  have g0:∀ b,A.n<=b->A0.get b=none:=fun b h=>aQ D (Nat.le_trans a2.n h)
  refine am.seq fun K1 h1=>?_
  refine am.region ?_
  refine Ops.l rfl fun K Kp hK _=>zA (z:=.agg #[bf [],num 0,.slice none 0 0]) (cs:=[bf [],num 0,.slice none 0 0]) C5 Z (hK _ _ ?_)
  refine Ops.l rfl fun K Kp hK _=>zA (z:=.bool false) (cs:=[.bool false]) z4 Z (hK _ _ ?_)
  refine Ops.nil (h1 _ _ ?_)
  have a9:=AH.wf_new wf (.row true [bf [],num 0,.slice none 0 0] 3)
  have a3:=AH.wf_new a9 (.row true [.bool false] 1)
  have a1:=a5 (.row true [bf [],num 0,.slice none 0 0] 3) (.row true [.bool false] 1)
  have e1:((A.new (.row true [bf [],num 0,.slice none 0 0] 3)).new (.row true [.bool false] 1)).get A.n=some (.row true [bf [],num 0,.slice none 0 0] 3):=by
    rw [AH.new_get_ne _ _ (by show A.n ≠ A.n + 1;omega)];exact AH.new_get_same _ _
  have e2:((A.new (.row true [bf [],num 0,.slice none 0 0] 3)).new (.row true [.bool false] 1)).get (A.n + 1)=some (.row true [.bool false] 1):=AH.new_get_same _ _
  have e0:=a1.get _ _ hb
  have nB:((A.new (.row true [bf [],num 0,.slice none 0 0] 3)).new (.row true [.bool false] 1)).n=A.n + 2:=rfl
  generalize ((A.new (.row true [bf [],num 0,.slice none 0 0] 3)).new (.row true [.bool false] 1))=B at *
  have leB:=a2.trans a1
  refine am.seq fun K2 h2=>?_
  refine am.region ?_
  refine Ops.q Z (mc Z Z) ?_
  refine Ops.defer (d:={ target:=.fn (.func 105) #[.pointer (some ⟨A.n,0,none⟩),.pointer (some ⟨A.n + 1,0,none⟩)],args:=#[] }) Z Z (fun a ha w hw=>?_) ?_
  · have h6:=cB (x:=.tmp 6) ha Z
    simp only [execOp,resolve,h6]
    simp [Deferred.ofValue]
  refine Ops.nil (h2 _ _ ?_)
  refine am.seq fun K3 h3=>?_
  refine am.seq fun K3' a4=>?_
  refine am.region ?_
  refine Ops.q Z (ae Z)<|.q Z (cD u9 Z) ?_
  refine Ops.q Z (ee (b:=20000) Z Z) ?_
  refine Ops.nil (a4 _ _ ?_)
  refine am.if (p:=20000 < w.length) Z (fun hl=>?_) (fun hl=>?_)
  · have et:eI rs w=none:=if_pos hl
    refine am.seq fun K5 h5=>?_
    refine am.region ?_
    refine Ops.q Z (dA Z U7) ?_
    refine Ops.l rfl fun K Kp hK _=>qc (cs:=[bf [],num 0,.slice none 0 0]) (c:=[bf [],num 0,.slice none 0 0]) (cap:=3) Z Z Z ig Z e1 (by simp) Z (hK _ _ ?_)
    refine Ops.l rfl fun K Kp hK _=>qc (cs:=[.bool false]) (c:=[.bool false]) (cap:=1) Z Z Z ms Z (ja e2 n3) (by simp) Z (hK _ _ ?_)
    refine Ops.nil (h5 _ _ ?_)
    refine am.ret ?_
    show lR _ _ _ _ _ _ _
    refine ⟨by simp,_,_,105,_,Z,(fun w=>rfl),(su _ _ _).mono ?_⟩
    rintro en u' A1 ⟨rfl,rfl,rfl⟩
    refine ⟨[.agg #[bf [],num 0,.slice none 0 0],.bool false],?_,?_⟩
    · exact gr.cell Z (pn wO ig (ja (AH.set_get_same _ _ _) n3.symm) Z) (gr.cell Z (po uX (AH.set_get_same _ _ _) Z) gr.nil)
    · rw [et]
      have a0:=AH.wf_set a3 (k:=A.n) O (.row true (oT [bf [],num 0,.slice none 0 0] 0 [bf [],num 0,.slice none 0 0]) 3)
      refine ⟨.slice none 0 0,x0,x5,x6,x7,x8,x9,rfl,?_,AH.wf_set a0 (by show A.n + 1 < B.n;omega) _,?_,Fresh.nil _ _ _,fun q=>by cases q⟩
      · exact ro (ro leB D (g0 A.n (Nat.le_refl _))) D (g0 (A.n + 1) O)
      · exact ja (ja e0 n1) n2
  refine am.skip (h3 _ _ ?_)
  have et:eI rs w=jV rs w:=if_neg hl
  refine am.seq fun K5 h5=>?_
  refine am.region ?_
  refine Ops.q Z (ae Z)<|.q Z (ae Z) ?_
  have hle:=cd (A:=B) (bs:=[some b0]) leB (fun b q=>by rw [List.mem_singleton] at q;cases q;exact a8)
  have hwf:=cg (bs:=[some b0]) a3
  have hno:(B.hide [some b0]).get b0=none:=cn (List.mem_singleton.2 rfl)
  have k1:=bK (bs:=[some b0]) e1 Or
  have k2:=bK (bs:=[some b0]) e2 Or
  refine Ops.l rfl fun K Kp hK hKp=>PH Z (UM w rs l b0 g u rv mb x0 x5 x6 x7 x8 x9 (B.hide [some b0]) B (cx _ _) hwf e0 hno hs O (hL.le hle) (hr.le hle) (hp.le hle) (hI.le hle)) (fun v C hv=>hK _ _ ?_) (fun ch C hc=>hKp _ _ ?_)
  · obtain ⟨V,y0,y5,y6,y7,y8,y9,rfl,leC,wfC,gC,frC,neC,isC⟩:=hv
    have a6:=frC.seph k1
    have a7:=frC.seph k2
    have one:qM [bf (fk (jV rs w)).word,num (((fk (jV rs w)).steps:Nat):Int),V]=true:=RC frC.slc
    refine Ops.l rfl fun K Kp hK _=>qc (cs:=[bf (fk (jV rs w)).word,num (((fk (jV rs w)).steps:Nat):Int),V]) (c:=[bf [],num 0,.slice none 0 0]) (cap:=3) Z Z Z ig Z (leC.get _ _ k1) (by simp) one (hK _ _ ?_)
    refine Ops.l rfl fun K Kp hK _=>qc (cs:=[.bool true]) (c:=[.bool false]) (cap:=1) Z Z Z ms Z (ja (leC.get _ _ k2) n3) (by simp) Z (hK _ _ ?_)
    refine Ops.nil (h5 _ _ ?_)
    refine am.ret ?_
    show lR _ _ _ _ _ _ _
    refine ⟨by simp,_,_,105,_,Z,(fun w=>rfl),(su _ _ _).mono ?_⟩
    rintro en u' A1 ⟨rfl,rfl,rfl⟩
    refine ⟨[.agg #[bf (fk (jV rs w)).word,num (((fk (jV rs w)).steps:Nat):Int),V],.bool true],?_,?_⟩
    · exact gr.cell Z (pn wO ig (ja (AH.set_get_same _ _ _) n3.symm) Z) (gr.cell Z (po uX (AH.set_get_same _ _ _) Z) gr.nil)
    · rw [et]
      have X:=hle.trans leC
      have nC:=leC.n
      have nH:(B.hide [some b0]).n=B.n:=rfl
      have a0:=AH.wf_set wfC (k:=A.n) O (.row true (oT [bf [],num 0,.slice none 0 0] 0 [bf (fk (jV rs w)).word,num (((fk (jV rs w)).steps:Nat):Int),V]) 3)
      refine ⟨V,y0,y5,y6,y7,y8,y9,by rw [isC];rfl,?_,AH.wf_set a0 (by show A.n + 1 < C.n;omega) _,?_,?_,neC⟩
      · exact ro (ro X D (g0 A.n (Nat.le_refl _))) D (g0 (A.n + 1) O)
      · exact ja (ja gC n1) n2
      · exact ((frC.base hle).keep (fun b' o hn h=>ja h hn) a6).keep (fun b' o hn h=>ja h hn) a7
  · obtain ⟨hn,rfl,leC,wfC,y0,y5,y6,y7,y8,y9,gC⟩:=hc
    show lR _ _ _ _ _ _ _
    refine ⟨by simp,_,_,105,_,Z,(fun w=>rfl),(zu A.n (A.n + 1) _ _ 3 1 [] C O (leC.get _ _ k1) (by simp) (leC.get _ _ k2) (by simp)).mono ?_⟩
    rintro en u' A1 ⟨rfl,rfl,rfl⟩
    refine ⟨[.agg #[bf [],num 0,.slice none 0 0],.bool false],?_,?_⟩
    · exact gr.cell Z (pn wO ig (ja (AH.set_get_same _ _ _) n3.symm) Z) (gr.cell Z (po uX (AH.set_get_same _ _ _) Z) gr.nil)
    · rw [et,hn]
      have X:=hle.trans leC
      have nC:=leC.n
      have nH:(B.hide [some b0]).n=B.n:=rfl
      have lbC:=wfC _ _ gC
      have a0:=AH.wf_new wfC (.row true [] 0)
      have aa:=AH.wf_set a0 (k:=C.n) (by show C.n < C.n + 1;omega) (.row true [] 0)
      have ab:=AH.wf_set aa (k:=A.n) (by show A.n < C.n + 1;omega) (.row true (oT [bf [],num 0,.slice none 0 0] 0 [bf [],num 0,.slice none 0 0]) 3)
      have l1:=AH.le_new X D (.row true [] 0)
      have l2:A0.le ((C.new (.row true [] 0)).set C.n (.row true [] 0)):=ro l1 D (aQ D X.n)
      refine ⟨.slice none 0 0,y0,y5,y6,y7,y8,y9,rfl,?_,AH.wf_set ab (by show A.n + 1 < C.n + 1;omega) _,?_,Fresh.nil _ _ _,fun q=>by cases q⟩
      · exact ro (ro l2 D (g0 A.n (Nat.le_refl _))) D (g0 (A.n + 1) O)
      · exact ja (ja (ja ((AH.new_get_ne _ _ O).trans gC) O) n1) n2
end Go.Proofs.YtjppkekmddjcfaaGreatDoor

namespace Go.Proofs.YtjppkekmddjcfaaGreatDoor
open Go Go.RowKit V
set_option maxRecDepth 100000
theorem mW:Tryz.prog.info? 3=some Tryz.t3:=by kernel_rfl
theorem Vw:c8 Tryz.prog 147=some [(0,1),(1,3),(4,1),(5,1),(6,1),(7,3)]:=by kernel_rfl
theorem WO:type_of% @Tryz.underlying147:=@Tryz.underlying147
theorem WW:cu Tryz.prog 147=some (.agg #[.slice none 0 0,.int .i64 0,.slice none 0 0,.slice none 0 0,.map none,.slice none 0 0,.int .i64 0,.string ⟨⟨[]⟩⟩,.int .i64 0,.slice none 0 0]):=by kernel_rfl
theorem z3:cu Tryz.prog 3=some (.int .i64 0):=by kernel_rfl

theorem pO (g:Int) (u:Value) (l:List (List UInt8)) (rv:Value) (rs:List be) (A:AH) (hn:rs.length<=1000000) (e0:∀ r ∈ rs,0 < r.left.length/\r.left.length<=1000000) (hu:bI A 1 u (ei l)) (hr:bI A 3 rv (db rs)) (hp:Proofs A rs):bE Tryz.prog 59 #[.agg #[num (g),u,rv]] A (fun v A1=>∃ b mb,v=.pointer (some ⟨b,0,none⟩)/\A.le A1/\A1.wf/\A1.get b=some (.row true [.slice none 0 0,num g,u,rv,.map (some mb),.slice none 0 0,num 0,bf [],num 0,.slice none 0 0] 10)/\A.get b=none/\o5 (A1.hide [some b]) mb rs):=by
 refine gR Tryz.call59 Tryz.func59 Z Tryz.results59 Tryz.ntmps59 Z (fun wf=>?_);have e2:=AH.le.refl A;refine am.seq fun _ h2=>.region<|.l Z (fun _ _ dZ _=>d8 wf rfl rfl fun A5 b4 aG=>?_);have bP:=e2.trans aG.le;refine dZ _ _<|.q Z (ah Z)<|.nil<|h2 _ _<|.seq fun _ h9=>.region<|.q Z (aq fc eF Z Z aG.get Z)<|.l Z (fun _ _ ch _=>np aG.wf fun A12 a3 ab=>?_);have aB:=aQ wf (Nat.le_trans bP.n ab.lo);have dv:=ab.le.get _ _ aG.get;have b1:=bP.trans ab.le;refine ch _ _<|.q Z (dA Z (bG WO WW Vw Z))<|.l Z (fun _ _ cv _=>d8 ab.wf rfl rfl fun A18 a8 ag=>?_);have a6:=ne_new ab.wf ab.get ag.lo;have aR:=aQ wf (Nat.le_trans b1.n ag.lo);have dw:=ag.le.get _ _ dv;have dz:=ag.le.get _ _ ab.get;have b2:=b1.trans ag.le;refine cv _ _<|.q Z (ah Z)<|.nil<|h9 _ _<|.seq fun _ dD=>.seq fun _ dG=>.region<|.q Z (aj eb jm U Z)<|.q Z (ak jH Z Z dw Z)<|.q Z (bF (n:=rs.length) p3 Z (hr.le b2) O (dp _)) ?_;refine Ops.q Z (ae Z)<|.nil<|dG _ _<|.block<|.loop (X:=Nat × Array MapEntry × Nat × List (UInt8 × Value)) (fun ⟨i,es,ck,E⟩=>[(3,.pointer (some ⟨a8,0,none⟩)),(12,rv),(13,num ((rs.length:Nat):Int)),(14,num ((i:Nat):Int))]) (fun ⟨i,es,ck,E⟩ B=>(i<=rs.length/\dh ek es E)/\A.le B/\B.get a3=some (.obj true (.map es ck))/\B.get a8=some (.row true [.slice none 0 0,num (g),u,rv,.map (some a3),.slice none 0 0,num ((0:Nat):Int),bf ([]),num ((0:Nat):Int),.slice none 0 0] 10)/\(nr A B E rs i [a3,a8])) (fun ⟨i,es,ck,E⟩=>rs.length - i) (⟨0,#[],0,[]⟩) (mA Z Z Z Z) (⟨⟨Nat.zero_le _,dh.nil⟩,b2,dz,ag.get,nr.nil⟩) ?_;rintro ⟨i,es,ck,E⟩ B28 ⟨⟨hi,hME⟩,ay,a9,aa,hIO⟩;refine am.wf fun a7=>?_;have hvv:=hIO.fr ((rs.getD i .zero).left.getD ((rs.getD i .zero).left.length - 1) 0);have ac:=hIO.ne ((rs.getD i .zero).left.getD ((rs.getD i .zero).left.length - 1) 0) a3 (by simp);have a4:=hIO.ne ((rs.getD i .zero).left.getD ((rs.getD i .zero).left.length - 1) 0) a8 (by simp);have bO:=AH.le.refl B28;have hil:=Ax (rs.take i) ((rs.getD i .zero).left.getD ((rs.getD i .zero).left.length - 1) 0);have htl:(rs.take i).length<=i:=by simp;omega
 have hll:=fun q:i < rs.length=>e0 _ (bi (d:=be.zero) q);refine am.seq fun _ dI=>.region<|.q Z (bX Z Z)<|.nil<|dI _ _<|.seq fun _ dJ=>.if rfl (fun e3=>?_) (fun e3=>?_)
 ·refine am.skip<|dJ _ _<|.seq fun _ bD=>.block<|.seq fun _ dK=>.region<|.q Z (ae Z) ?_;obtain ⟨ea,en,e9,ey,e7,ex,ev,dk,e1,dl,bS,e6⟩:=bI.at (i:=i) (hr.le ay) Oy O;refine Ops.q Z (aE p3 im Z dk Z e1)<|.q Z (aq ul im Z Z dl (bS.trans (congrArg some (iC O))))<|.l Z (fun _ _ cA _=>cl a7 IG rfl fun A42 ec V=>?_);have az:=ne_new a7 a9 V.lo;have aA:=ne_new a7 aa V.lo;have dd:=hvv.own.ne_new a7 V.lo;have aS:=aQ wf (Nat.le_trans ay.n V.lo);have aT:=aQ a7 (Nat.le_trans bO.n V.lo);have dL:=V.le.get _ _ a9;have dM:=V.le.get _ _ aa;have bU:=hvv.le V.le;have cX:=ay.trans V.le;have cS:=bO.trans V.le;refine cA _ _<|.q Z (ah Z)<|.l Z (fun _ _ cC _=>aX (cs:=[bf ((rs.getD i .zero).left),bf ((rs.getD i .zero).right),(rs.getD i .zero).pv]) (c':=[bf ((rs.getD i .zero).left),bf ((rs.getD i .zero).right),(rs.getD i .zero).pv]) V.wf rfl rfl rfl rfl im V.get (Nat.le_of_ble_eq_true rfl) (jB (hp.get O)) rfl fun A51 a2=>?_);have aY:=a2.keep _ _ az dL;have ap:=a2.keep _ _ aA dM;have aI:=bU.keep a2.keep dd;have av:=an cS a7 aT a2.n a2.keep;have b3:=an cX wf aS a2.n a2.keep;refine cC _ _<|.nil<|dK _ _<|.seq fun _ dO=>.region<|.q Z (aj eU fp U Z)<|.q Z (ak fW Z Z a2.get Z)<|.q Z (aj eU fp U Z)<|.q Z (ak fW Z Z a2.get Z)<|.q Z (cD u9 Z) ?_;refine Ops.q Z (ik (b:=1) Z Z O)<|.q Z (lD u9 Z Z (by have:=hll O;omega))<|.q Z (ah Z)<|.nil<|dO _ _<|.drawnP [0,1,2,3,4,5,6,7,8,9,11] 10 12 [12,13,14] [10,13,14] mixed Y Y Z<|.q Z Z Z (ae Z)<|.q Z Z Z (cL Z)<|.q Z Z Z (aj yG Py U Z) ?_;have aD:=cR (off:=4) ap (show _=some (.map (some a3)) from rfl);refine oo.q Z Z Z (ak KZ Z Z ap Z)<|.q Z Z Z (ae Z)<|.q Z Z Z (ae Z)<|.q Z Z Z (cL Z)<|.q Z Z Z (aj yG Py U Z) ?_;have cc:=cR (off:=4) ap (show _=some (.map (some a3)) from rfl);refine oo.q Z Z Z (ak KZ Z Z ap Z)<|.q Z Z Z (ae Z)<|.q Z Z Z (ae Z)<|.both Z Z Z Z Z Z ?_ ?_
  ·refine fun _ _ cF _=>qf rY Z Z PC u5 KJ aY hME ?_;refine cF _ _ (aW.list (L:=[(⟨a8,4,none⟩,.map (some a3))]) Y (bw aD cI))<|.l Z Z Z (fun _ _ cH _=>aO (c:=[num ((i:Nat):Int)]) a2.wf rfl (ax em cW z3 rfl U U rfl) fun A65 eg a1=>?_);have dm:=aQ a7 (Nat.le_trans av.n a1.lo);have bL:=a1.le.get _ _ aY;have bM:=a1.le.get _ _ ap;have aP:=aI.le a1.le;have b0:=cr a1.le aD;have cZ:=b3.trans a1.le;have cV:=av.trans a1.le;refine cH _ _ (aW.list (L:=[(⟨a8,4,none⟩,.map (some a3))]) Y (bw b0 cI))<|.l Z Z Z (fun _ _ cK _=>cN (ys:=[num ((i:Nat):Int)]) rfl rfl em cW mW z3 rfl U em (fun _ h=>by cases h) aP.own (bQ (n:=1) a1.get Z) rfl rfl (by show (_ + _) * 8<=_;simp only [aw,List.length_cons,List.length_nil];(try simp only [List.length_append,List.length_cons,List.length_nil]);omega) O2 fun A76 e4 a5=>?_);rw [show ([num ((i:Nat):Int)]:List Value)=cJ [((i:Nat):Int)] from rfl,dx] at a5;obtain ⟨bV,d0⟩:=Fresh.grow aP cZ wf a5;have dS:=a5.keep ac bL;have d2:=a5.ne ac a1.wf bL;have dV:=a5.keep a4 bM;have d3:=a5.ne a4 a1.wf bM;have cf:=a5.cell a4 b0;refine cK _ _ (aW.list (L:=[(⟨a8,4,none⟩,.map (some a3))]) Y (bw cf cI))<|.l Z Z Z (fun _ _ cP _=>om rY a5.wf rfl rfl rfl PC u5 dS hME hIO.nd fun A91 bT bR ai d1=>?_);have b8:=hIO.step cV a1.wf a5 bV ai (by simp) (Vt d2 d3) O Z;have dW:=ai.keep _ _ a6.symm dV;have bp:=an d0 wf aB ai.n ai.keep;refine cP _ _ (aW.none Y)<|.done<|bD _ _<|.region<|.q Z (bq (b:=1) Z Z O)<|.q Z (ae Z)<|.nil ?_;exact ⟨⟨i + 1,bT,bR,yj E ((rs.getD i .zero).left.getD ((rs.getD i .zero).left.length - 1) 0) e4⟩,mA Z Z Z Z,Z,⟨⟨by omega,d1⟩,bp,ai.get,dW,b8⟩,O1⟩
  refine fun _ _ bb _=>aO (c:=[num ((i:Nat):Int)]) a2.wf rfl (ax em cW z3 rfl U U rfl) fun A103 e5 D=>?_;have dj:=aQ a7 (Nat.le_trans av.n D.lo);have aC:=D.le.get _ _ aY;have aV:=D.le.get _ _ ap;have aF:=aI.le D.le;have ar:=cr D.le aD;have b9:=cr D.le cc;have br:=b3.trans D.le;have bm:=av.trans D.le;refine bb _ _ (aW.list (L:=[(⟨a8,4,none⟩,.map (some a3)),(⟨a8,4,none⟩,.map (some a3))]) Y (bw b9 (bw ar cI)))<|.l Z Z Z (fun _ _ bc _=>qf rY Z Z PC u5 KJ aC hME ?_);refine bc _ _ (aW.list (L:=[(⟨a8,4,none⟩,.map (some a3))]) Y (bw ar cI))<|.l Z Z Z (fun _ _ bd _=>cN (ys:=[num ((i:Nat):Int)]) rfl rfl em cW mW z3 rfl U em (fun _ h=>by cases h) aF.own (bQ (n:=1) D.get Z) rfl rfl (by show (_ + _) * 8<=_;simp only [aw,List.length_cons,List.length_nil];(try simp only [List.length_append,List.length_cons,List.length_nil]);omega) O2 fun A116 di a0=>?_);rw [show ([num ((i:Nat):Int)]:List Value)=cJ [((i:Nat):Int)] from rfl,dx] at a0;obtain ⟨b7,bu⟩:=Fresh.grow aF br wf a0;have bY:=a0.keep ac aC;have bB:=a0.ne ac D.wf aC;have c3:=a0.keep a4 aV;have bC:=a0.ne a4 D.wf aV;have ba:=a0.cell a4 ar;refine bd _ _ (aW.list (L:=[(⟨a8,4,none⟩,.map (some a3))]) Y (bw ba cI))<|.l Z Z Z (fun _ _ bl _=>om rY a0.wf rfl rfl rfl PC u5 bY hME hIO.nd fun A131 b6 b5 ad bA=>?_);have aZ:=hIO.step bm D.wf a0 b7 ad (by simp) (Vt bB bC) O Z;have c4:=ad.keep _ _ a6.symm c3;have bv:=an bu wf aB ad.n ad.keep;refine bl _ _ (aW.none Y)<|.done<|bD _ _<|.region<|.q Z (bq (b:=1) Z Z O)<|.q Z (ae Z)<|.nil ?_;exact ⟨⟨i + 1,b6,b5,yj E ((rs.getD i .zero).left.getD ((rs.getD i .zero).left.length - 1) 0) di⟩,mA Z Z Z Z,Z,⟨⟨by omega,bA⟩,bv,ad.get,c4,aZ⟩,O1⟩
 refine am.exit<|dD _ _<|.seq fun _ c7=>.region<|.q Z (ae Z)<|.q Z (ah Z)<|.nil<|c7 _ _<|.rt (by exact aH Z (⟨a8,a3,Z,ay,a7,aa,aR,hIO.map O a9 hME (by simp) a6⟩))

theorem ng (g:Int) (u:Value) (l:List (List UInt8)) (rv:Value) (rs:List be) (w:List UInt8) (A:AH) (hn:l.length<=9223372036854775807) (hm:rs.length<=9223372036854775807) (hL:gy A) (hu:bI A 1 u (ei l)) (hr:bI A 3 rv (db rs)) (hp:Proofs A rs):bE Tryz.prog 21 #[.agg #[num (g),u,rv],bf (w)] A (fun v A1=>∃ dv,v=.tuple #[.agg #[bf (il g l rs w).word,num (((il g l rs w).steps:Nat):Int),dv],num ((iG g l rs w:Nat):Int)]/\A.le A1/\A1.wf/\Fresh A A1 dv 3 (cy (il g l rs w).disk)):=by
 refine lQ Tryz.call21 Tryz.func21 Z Tryz.results21 Tryz.ntmps21 Z (fun wf=>?_);have cZ:=AH.le.refl A;refine am.seq fun _ h2=>.region<|.l Z (fun _ _ cV _=>d8 wf rfl rfl fun A5 b4 aZ=>?_);have bv:=cZ.trans aZ.le;refine cV _ _<|.l Z (fun _ _ cX _=>cl aZ.wf C5 rfl fun A10 b9 ad=>?_);have a2:=aQ wf (Nat.le_trans bv.n ad.lo);have bd:=ad.le.get _ _ aZ.get;have a5:=bv.trans ad.le;refine cX _ _<|.q Z (ah Z)<|.nil<|h2 _ _<|.seq fun _ ch=>.block<|.seq fun _ ck=>.region<|.q Z (aq fc eF Z Z bd Z)<|.l Z (fun _ _ bD _=>au Z (jW ((g)) u l rv rs A10 hn hm (hL.le a5) (hu.le a5) (hr.le a5) (hp.le a5)) ?_);rintro dD A20 ⟨rfl,aa,bb⟩;have bl:=aa.get _ _ bd;have bm:=aa.get _ _ ad.get;have ay:=a5.trans aa;refine bD _ _<|.q Z (er Z)<|.q Z (ah Z)<|.nil<|ck _ _<|.ifB Z (fun d0=>?_) (fun d0=>?_)
 ·refine am.seq fun _ cv=>.region<|.q Z (dA Z (bG Wj C5 RG Z))<|.l Z (fun _ _ bL _=>aX (cs:=[bf ([]),num ((0:Nat):Int),.slice none 0 0]) (c':=[bf ([]),num ((0:Nat):Int),.slice none 0 0]) bb rfl rfl rfl rfl ig bm (Nat.le_of_ble_eq_true rfl) rfl rfl fun A29 ai=>?_);have bV:=an ay wf a2 ai.n ai.keep;refine bL _ _<|.q Z (ah Z)<|.nil<|cv _ _<|.ret ?_;repeat first | with_reducible refine bz ?_ | with_reducible refine bn ?_
  exact aH (eP wO ig Z ai.get Z (fy Z go)) (⟨_,by (rw [(Fb ‹_›).1,(Fb ‹_›).2];rfl),bV,ai.wf,by (rw [(Fb ‹_›).1];exact Fresh.nil _ _ _)⟩)
 refine am.seq fun _ cA=>.region<|.q Z (aj gi ie U Z)<|.q Z (aj fY cW U Z)<|.q Z (ak eR Z Z bl Z)<|.q Z (ae Z)<|.l Z (fun _ _ bM _=>au Z (pQ (g) w A20 (hL.le ay)) ?_);rintro dG A37 ⟨rfl,ab,bc⟩;have bp:=ab.get _ _ bl;have aR:=ab.get _ _ bm;have a1:=ay.trans ab;refine bM _ _<|.q Z (fg (b:=0) Z Z)<|.q Z (ah Z)<|.nil<|cA _ _<|.if rfl (fun d1=>?_) (fun d1=>?_)
 ·refine am.seq fun _ cC=>.region<|.q Z (dA Z (bG Wj C5 RG Z))<|.l Z (fun _ _ bO _=>aX (cs:=[bf ([]),num ((0:Nat):Int),.slice none 0 0]) (c':=[bf ([]),num ((0:Nat):Int),.slice none 0 0]) bc rfl rfl rfl rfl ig aR (Nat.le_of_ble_eq_true rfl) rfl rfl fun A46 ap=>?_);have bY:=an a1 wf a2 ap.n ap.keep;refine bO _ _<|.q Z (ah Z)<|.nil<|cC _ _<|.ret ?_;repeat first | with_reducible refine bz ?_ | with_reducible refine bn ?_
  exact aH (eP wO ig Z ap.get Z (fy Z go)) (⟨_,by (rw [(Fc ‹_› ‹_›).1,(Fc ‹_› ‹_›).2];rfl),bY,ap.wf,by (rw [(Fc ‹_› ‹_›).1];exact Fresh.nil _ _ _)⟩)
 refine am.skip<|ch _ _<|.seq fun _ cF=>.region<|.q Z (aq fc eF Z Z bp Z)<|.l Z (fun _ _ bP _=>au Z (pO ((g)) u l rv rs A37 (sx (by simpa using ‹(!bW g l rs)=false›)) (wo (by simpa using ‹(!bW g l rs)=false›)) (hu.le a1) (hr.le a1) (hp.le a1)) ?_);rintro dI A54 ⟨D,b8,rfl,aB,aD,a8,X,ar⟩;have cH:=aB.get _ _ aR;have c3:=a1.trans aB;have hrow:=a8;have hno:=X;have hix:=ar;have ba:b4 ≠ D:=fun z=>by have q0:=bp;rw [z,X] at q0;cases q0
 have ag:b9 ≠ D:=fun z=>by have q0:=aR;rw [z,X] at q0;cases q0
 have aF:=sc a1 X;refine bP _ _<|.q Z (ae Z) ?_;have a6:=cd (bs:=[some D]) c3 (um aF o4);have aT:=cd (bs:=[some D]) (cx A54 [some D]) (um (cn (by simp)) o4);refine Ops.l Z (fun _ _ bR _=>au Z (uN w rs l D (((g))) u rv b8 (.slice none 0 0) (.slice none 0 0) (num ((0:Nat):Int)) (bf ([])) (num ((0:Nat):Int)) (.slice none 0 0) (A54.hide [some D]) A54 (cx A54 [some D]) (cg aD) a8 (cn (by simp)) (by simpa using ‹(!bW g l rs)=false›) (hL.le a6) (hr.le a6) (hp.le a6) (ar.le aT)) ?_);rintro dJ A61 ⟨dd,di,dj,dk,dl,dm,dw,rfl,ac,a4,a9,a7,b0⟩;have aS:=bK (bs:=[some D]) cH (qL ag mF);have br:=ac.get _ _ aS;have aG:=a7.base a6;have c7:=a7.seph aS;have bU:=aT.trans ac;have aV:=a6.trans ac;refine bR _ _<|.q Z (ae Z)<|.q Z (bg Z Z)<|.q Z (bg Z Z)<|.l Z (fun _ _ bS _=>cl a4 C5 rfl fun A76 dz h=>?_);have av:=ne_new a4 br h.lo;have b1:=ne_new a4 a9 h.lo;have cc:=aG.own.ne_new a4 h.lo;have aP:=aQ wf (Nat.le_trans aV.n h.lo);have cf:=aQ (cg aD) (Nat.le_trans bU.n h.lo);have cK:=h.le.get _ _ br;have aI:=aG.le h.le;have c4:=aV.trans h.le;refine bS _ _ ?_;obtain ⟨aC,aA,az,d3,_⟩:=aI.own.slice;subst d3;refine Ops.l Z (fun _ _ bT _=>aX (cs:=[bf ((fk (eI rs w)).word),num (((fk (eI rs w)).steps:Nat):Int),.slice aC aA az]) (c':=[bf ((fk (eI rs w)).word),num (((fk (eI rs w)).steps:Nat):Int),.slice aC aA az]) h.wf rfl rfl rfl rfl ig h.get (Nat.le_of_ble_eq_true rfl) rfl rfl fun A87 V=>?_);have bu:=V.keep _ _ av cK;have bA:=aI.keep V.keep cc;have aY:=an c4 wf aP V.n V.keep;refine bT _ _<|.q Z (ah Z)<|.nil<|cF _ _<|.seq fun _ cP=>.seq fun _ cS=>.region<|.q Z (ae Z)<|.q Z (er Z)<|.nil ?_;refine cS _ _<|.ifB Z (fun d2=>?_) (fun d2=>?_)
 ·refine am.seq fun _ bB=>.region<|.q Z (dA Z (bG Wj C5 RG Z))<|.l Z (fun _ _ b3 _=>aX (cs:=[bf ([]),num ((0:Nat):Int),.slice none 0 0]) (c':=[bf ([]),num ((0:Nat):Int),.slice none 0 0]) V.wf rfl rfl rfl rfl ig bu (Nat.le_of_ble_eq_true rfl) rfl rfl fun A103 a3=>?_);have b6:=an aY wf a2 a3.n a3.keep;refine b3 _ _<|.q Z (ah Z)<|.nil<|bB _ _<|.ret ?_;repeat first | with_reducible refine bz ?_ | with_reducible refine bn ?_
  exact aH (eP wO ig Z a3.get Z (fy Z go)) (⟨_,by (rw [(Ff ‹_› ‹_› ‹_›).1,(Ff ‹_› ‹_› ‹_›).2];rfl),b6,a3.wf,by (rw [(Ff ‹_› ‹_› ‹_›).1];exact Fresh.nil _ _ _)⟩)
 refine am.skip<|cP _ _<|.seq fun _ bC=>.region<|.q Z (aq wO ig Z Z V.get Z)<|.l Z (fun _ _ b5 _=>aX (cs:=[bf ((fk (eI rs w)).word),num (((fk (eI rs w)).steps:Nat):Int),.slice aC aA az]) (c':=[bf ((fk (eI rs w)).word),num (((fk (eI rs w)).steps:Nat):Int),.slice aC aA az]) V.wf rfl rfl rfl rfl ig bu (Nat.le_of_ble_eq_true rfl) rfl rfl fun A113 a0=>?_);have b2:=bA.keep a0.keep c7;have b7:=an aY wf a2 a0.n a0.keep;refine b5 _ _<|.q Z (ah Z)<|.nil<|bC _ _<|.ret ?_;repeat first | with_reducible refine bz ?_ | with_reducible refine bn ?_
 exact aH (eP wO ig Z a0.get Z (fy Z go)) (⟨_,by (rw [(Fg ‹_› ‹_› ‹_›).1,(Fg ‹_› ‹_› ‹_›).2];rfl),b7,a0.wf,by (rw [(Fg ‹_› ‹_› ‹_›).1];exact b2)⟩)
end Go.Proofs.YtjppkekmddjcfaaGreatDoor

namespace Go.Proofs.YtjppkekmddjcfaaGreatDoor
open Go Go.RowKit V
set_option maxRecDepth 100000
theorem xd:dr Tryz.prog 121=some false:=by kernel_rfl
theorem Mn:Tryz.prog.info? 123=some Tryz.t123:=by kernel_rfl
theorem Eo:c8 Tryz.prog 47=some [(0,1),(1,1),(2,1),(3,1),(4,1)]:=by kernel_rfl
theorem ni:c9 Tryz.prog 123=some 2:=by kernel_rfl
theorem qO:type_of% @Tryz.underlying121:=@Tryz.underlying121
theorem zy:type_of% @Tryz.underlying123:=@Tryz.underlying123
theorem UV:type_of% @Tryz.underlying47:=@Tryz.underlying47
theorem FF:cu Tryz.prog 123=some (.agg #[.string ⟨⟨[]⟩⟩,.string ⟨⟨[]⟩⟩]):=by kernel_rfl
theorem zB:cu Tryz.prog 47=some (.agg #[.int .i64 0,.int .i64 0,.string ⟨⟨[]⟩⟩,.string ⟨⟨[]⟩⟩,.string ⟨⟨[]⟩⟩]):=by kernel_rfl

theorem Cm (x:Nat) (A:AH) (hL:gy A) (hx:x < 16):bE Tryz.prog 114 #[num ((x:Nat):Int)] A (fun v A1=>v=ek (bZ.getD x 0)/\A=A1):=by
 refine gR Tryz.call114 Tryz.func114 Z Tryz.results114 Tryz.ntmps114 Z (fun wf=>?_);have X:=AH.le.refl A;obtain ⟨rwL,capL,gL⟩:=hL;refine am.seq fun _ h2=>.region<|.q Z (ah Z)<|.nil<|h2 _ _<|.seq fun _ h4=>.seq fun _ h6=>.region<|.q Z (ae Z)<|.q Z (bX (b:=0) Z Z) ?_;refine Ops.q Z (ae Z)<|.part (t:=5) Z (fun p7=>?_) (fun p7=>?_)
 ·refine Ops.off Z Z Z Z<|.off Z Z Z Z<|.q Z (aJ Z Z)<|.nil<|h6 _ _<|.cond_true Z<|.seq fun _ h9=>.region<|.q Z (ah Z)<|.nil ?_;refine h9 _ _<|.rt (by exact aH Z (⟨by (exfalso;omega),Z⟩))
 refine Ops.on Z Z<|.q Z (ae Z)<|.on Z Z<|.q Z (vM (b:=16) Z Z)<|.q Z (aU Z Z)<|.nil<|h6 _ _<|.if rfl (fun V=>?_) (fun V=>?_)
 ·refine am.seq fun _ h=>.region<|.q Z (ah Z)<|.nil<|h _ _<|.rt (by exact aH Z (⟨by (exfalso;omega),Z⟩))
 refine am.skip<|h4 _ _<|.seq fun _ D=>.region<|.q Z (ae Z)<|.q Z (gT VY kz Z Z O)<|.q Z (ak Ld Z Z gL (MG hx))<|.q Z (ah Z)<|.nil<|D _ _ ?_;refine am.ret ?_;repeat first | with_reducible refine bz ?_ | with_reducible refine bn ?_
 exact aH Z (⟨by rfl,Z⟩)

theorem Im (g:Int) (u:Value) (l:List (List UInt8)) (rv:Value) (rs:List be) (A:AH) (hg:1<=g/\g<=8) (hn:rs.length<=1000000) (hL:gy A) (hu:bI A 1 u (ei l)) (hr:bI A 3 rv (db rs)) (hp:Proofs A rs):bE Tryz.prog 76 #[.agg #[num (g),u,rv]] A (fun v A1=>A.le A1/\A1.wf/\Fresh A A1 v 2 (gt (aM g rs))):=by
 refine gR Tryz.call76 Tryz.func76 Z Tryz.results76 Tryz.ntmps76 Z (fun wf=>?_);have bY:=AH.le.refl A;obtain ⟨gn,rfl⟩:∃ n:Nat,g=n:=⟨g.toNat,by omega⟩;refine am.seq fun _ h2=>.region<|.l Z (fun _ _ bU _=>d8 wf rfl rfl fun A5 b4 ar=>?_);have aD:=bY.trans ar.le;refine bU _ _<|.q Z (ah Z)<|.nil<|h2 _ _<|.seq fun _ h9=>.region<|.q Z (ah Z)<|.nil<|h9 _ _<|.seq fun _ bp=>?_;refine am.seq fun _ br=>.region<|.q Z (aj eb jm U Z)<|.q Z (ak jH Z Z ar.get Z)<|.q Z (bF (n:=rs.length) p3 Z (hr.le aD) O (dp _))<|.q Z (ae Z)<|.nil<|br _ _<|.block<|.loop (X:=Nat × List (Wd × Wd) × Value) (fun ⟨i,o,s⟩=>[(1,.pointer (some ⟨b4,0,none⟩)),(3,s),(8,rv),(9,num ((rs.length:Nat):Int)),(10,num ((i:Nat):Int))]) (fun ⟨i,o,s⟩ B=>(i<=rs.length/\o=(rs.take i).map (fun r=>(r.left,r.right)))/\A.le B/\Fresh A B s 2 (gt o)/\B.get b4=some (.row true [num ((gn:Nat):Int),u,rv] 3)/\V.blk s ≠ some b4) (fun ⟨i,o,s⟩=>rs.length - i) (⟨0,[],.slice none 0 0⟩) (qk Z Z Z Z Z) (⟨⟨Nat.zero_le _,by simp⟩,aD,(Fresh.nil A A5 2),ar.get,(fun q=>by cases q)⟩) ?_;rintro ⟨i,o,s⟩ B15 ⟨⟨hi,ho⟩,a6,a3,a1,a2⟩;refine am.wf fun ac=>?_;have hlo:o.length=i:=by rw [ho];simp;omega
 refine am.seq fun _ bu=>.region<|.q Z (bX Z Z)<|.nil<|bu _ _<|.seq fun _ bv=>.if rfl (fun c3=>?_) (fun c3=>?_)
 ·refine am.skip<|bv _ _<|.seq fun _ bA=>.block<|.seq fun _ bB=>.region ?_;obtain ⟨ck,cH,ch,cS,cf,cP,cK,bl,bV,bm,aF,cc⟩:=bI.at (i:=i) (hr.le a6) Oy O;refine Ops.q Z (aE p3 im Z bl Z bV)<|.q Z (aq ul im Z Z bm (aF.trans (congrArg some (iC O))))<|.l Z (fun _ _ aT _=>cl ac IG rfl fun A29 cv D=>?_);have aa:=ne_new ac a1 D.lo;have bc:=a3.own.ne_new ac D.lo;have ap:=aQ wf (Nat.le_trans a6.n D.lo);have bC:=D.le.get _ _ a1;have aG:=a3.le D.le;have b6:=a6.trans D.le;refine aT _ _<|.l Z (fun _ _ aV _=>aX (cs:=[bf ((rs.getD i .zero).left),bf ((rs.getD i .zero).right),(rs.getD i .zero).pv]) (c':=[bf ((rs.getD i .zero).left),bf ((rs.getD i .zero).right),(rs.getD i .zero).pv]) D.wf rfl rfl rfl rfl im D.get (Nat.le_of_ble_eq_true rfl) (jB (hp.get O)) rfl fun A36 a0=>?_);have bD:=a0.keep _ _ aa bC;have aI:=aG.keep a0.keep bc;have b7:=an b6 wf ap a0.n a0.keep;refine aV _ _<|.nil<|bB _ _<|.region<|.q Z (ae Z)<|.q Z (aj eU fp U Z)<|.q Z (ak fW Z Z a0.get Z)<|.q Z (aj jQ fp U Z)<|.q Z (ak fW Z Z a0.get Z)<|.q Z (dA Z (nx zy FF fp Z)) ?_;refine Ops.l Z (fun _ _ aY _=>aO (c:=[bf ((rs.getD i .zero).left),bf ((rs.getD i .zero).right)]) a0.wf rfl (ax qO ni FF rfl U U rfl) fun A43 cA a4=>?_);have aC:=a4.le.get _ _ bD;have ai:=aI.le a4.le;have b8:=b7.trans a4.le;refine aY _ _<|.l Z (fun _ _ aZ _=>cN (ys:=[bf ((rs.getD i .zero).left),bf ((rs.getD i .zero).right)]) rfl rfl qO ni Mn FF rfl U qO (fun _ h=>by cases h) ai.own (bQ (n:=1) a4.get Z) rfl rfl (by show (_ + _) * 32<=_;simp only [dC,List.length_cons,List.length_nil];(try simp only [List.length_append,List.length_cons,List.length_nil]);omega) (by simp only [dC,List.length_cons,List.length_nil];(try simp only [List.length_append,List.length_cons,List.length_nil]);omega) fun A51 c7 a5=>?_);rw [show ([bf ((rs.getD i .zero).left),bf ((rs.getD i .zero).right)]:List Value)=gt [((rs.getD i .zero).left,(rs.getD i .zero).right)] from rfl,re] at a5;obtain ⟨aP,b9⟩:=Fresh.grow ai b8 wf a5;have bL:=a5.keep a2 aC;have bb:=a5.ne a2 a4.wf aC;refine aZ _ _<|.q Z (ah Z)<|.nil<|bA _ _<|.region<|.q Z (bq (b:=1) Z Z O)<|.q Z (ae Z)<|.nil ?_;exact ⟨⟨i + 1,o ++ [((rs.getD i .zero).left,(rs.getD i .zero).right)],c7⟩,qk Z Z Z Z Z,Z,⟨⟨by omega,by rw [ho];exact EW O⟩,b9,aP,bL,bb⟩,O1⟩
 refine am.exit<|bp _ _<|.seq fun _ bM=>.seq fun _ bO=>.region<|.q Z (aj gi ie U Z)<|.q Z (aj fY cW U Z)<|.q Z (ak eR Z Z a1 Z)<|.q Z (pz (a:=2) Z Z O)<|.q Z (ae Z) ?_;refine Ops.nil<|bO _ _<|.block<|.loop (X:=Nat × List (Wd × Wd) × Value) (fun ⟨x,o,s⟩=>[(3,s),(26,num ((2 * gn:Nat):Int)),(27,num ((x:Nat):Int))]) (fun ⟨x,o,s⟩ B=>(x<=2 * gn/\o=rs.map (fun r=>(r.left,r.right)) ++ (List.range x).map (fun x=>(Tq x,[])))/\A.le B/\Fresh A B s 2 (gt o)) (fun ⟨x,o,s⟩=>2 * gn - x) (⟨0,rs.map (fun r=>(r.left,r.right)),s⟩) (kX Z Z Z) (⟨⟨Nat.zero_le _,by simp⟩,a6,(cw a3 (congrArg gt ((by rw [ho,List.take_of_length_le O]))))⟩) ?_;rintro ⟨x,o,s⟩ B67 ⟨⟨hx,ho⟩,a7,a9⟩;refine am.wf fun av=>?_;have hlo:o.length=rs.length + x:=by rw [ho];simp
 refine am.seq fun _ bP=>.region<|.q Z (bX Z Z)<|.nil<|bP _ _<|.seq fun _ bR=>.if rfl (fun c4=>?_) (fun c4=>?_)
 ·refine am.skip<|bR _ _<|.seq fun _ bS=>.block<|.seq fun _ bT=>.region<|.q Z (ae Z)<|.q Z (ah Z)<|.nil<|bT _ _ ?_;refine am.region<|.q Z (ae Z)<|.q Z (ae Z)<|.l Z (fun _ _ b0 _=>au Z (Cm x B67 (hL.le a7) O) ?_);rintro cV A80 ⟨rfl,rfl⟩;refine b0 _ _<|.q Z (ae Z)<|.q Z (VI Z Z O)<|.l Z (fun _ _ b1 _=>au Z (Cm (x ^^^ 1) B67 (hL.le a7) (by exact Te O)) ?_);rintro cX A84 ⟨rfl,rfl⟩;refine b1 _ _<|.l Z (fun _ _ b2 _=>aO (c:=[ek (bZ.getD x 0),ek (bZ.getD (x ^^^ 1) 0)]) av rfl (ax cT kz z5 rfl U U rfl) fun A88 cC a8=>?_);have aR:=a9.le a8.le;have ba:=a7.trans a8.le;refine b2 _ _<|.l Z (fun _ _ b3 _=>eB (s:=[bZ.getD x 0,bZ.getD (x ^^^ 1) 0]) Z cT u9 u5 (eo (n:=2) a8.get Z (Nat.le_refl _)) ?_);refine b3 _ _<|.q Z (dA Z (nx zy FF fp Z))<|.l Z (fun _ _ b5 _=>aO (c:=[bf ([bZ.getD x 0,bZ.getD (x ^^^ 1) 0]),bf ([])]) a8.wf rfl (ax qO ni FF rfl U U rfl) fun A96 cF ab=>?_);have ag:=aR.le ab.le;have aA:=ba.trans ab.le;refine b5 _ _<|.l Z (fun _ _ az _=>cN (ys:=[bf ([bZ.getD x 0,bZ.getD (x ^^^ 1) 0]),bf ([])]) rfl rfl qO ni Mn FF rfl U qO (fun _ h=>by cases h) ag.own (bQ (n:=1) ab.get Z) rfl rfl (by show (_ + _) * 32<=_;simp only [dC,List.length_cons,List.length_nil];(try simp only [List.length_append,List.length_cons,List.length_nil]);omega) (by simp only [dC,List.length_cons,List.length_nil];(try simp only [List.length_append,List.length_cons,List.length_nil]);omega) fun A103 bd ad=>?_);rw [show ([bf ([bZ.getD x 0,bZ.getD (x ^^^ 1) 0]),bf ([])]:List Value)=gt [([bZ.getD x 0,bZ.getD (x ^^^ 1) 0],[])] from rfl,re] at ad;obtain ⟨ay,aB⟩:=Fresh.grow ag aA wf ad;refine az _ _<|.q Z (ah Z)<|.nil<|bS _ _<|.region<|.q Z (bq (b:=1) Z Z O)<|.q Z (ae Z)<|.nil ?_;exact ⟨⟨x + 1,o ++ [([bZ.getD x 0,bZ.getD (x ^^^ 1) 0],[])],bd⟩,kX Z Z Z,Z,⟨⟨by omega,by rw [ho,List.range_succ,List.map_append,List.append_assoc];rfl⟩,aB,(cw ay (congrArg gt ((by rfl))))⟩,O1⟩
 refine am.exit<|bM _ _<|.seq fun _ aS=>.region<|.q Z (ae Z)<|.q Z (ah Z)<|.nil<|aS _ _<|.rt (by exact aH Z (⟨a7,av,cw a9 (congrArg gt (by rw [ho,show x=2 * gn by omega];rfl))⟩))

theorem uM (g:Int) (u:Value) (l:List (List UInt8)) (rv:Value) (rs:List be) (i:Nat) (A:AH) (hi:i<=1000000000) (hn:rs.length<=1000000) (hu:bI A 1 u (ei l)) (hr:bI A 3 rv (db rs)):bE Tryz.prog 166 #[.agg #[num (g),u,rv],num ((i:Nat):Int)] A (fun v A1=>v=num (nm rs.length i)/\A.le A1/\A1.wf):=by
 refine lQ Tryz.call166 Tryz.func166 Z Tryz.results166 Tryz.ntmps166 Z (fun wf=>?_);have a2:=AH.le.refl A;refine am.seq fun _ h2=>.region<|.l Z (fun _ _ a1 _=>d8 wf rfl rfl fun A5 b4 h=>?_);have D:=a2.trans h.le;refine a1 _ _<|.q Z (ah Z)<|.nil<|h2 _ _<|.seq fun _ h9=>.seq fun _ V=>.region<|.q Z (ae Z)<|.q Z (aj eb jm U Z)<|.q Z (ak jH Z Z h.get Z) ?_;refine Ops.q Z (bF (n:=rs.length) p3 Z (hr.le D) O (dp _))<|.q Z (bX Z Z)<|.nil<|V _ _<|.if rfl (fun a3=>?_) (fun a3=>?_)
 ·refine am.seq fun _ X=>.region<|.q Z (ae Z)<|.q Z (ah Z)<|.nil<|X _ _<|.rt (by exact aH Z (⟨by (rw [nm,if_pos ‹_›];rfl),D,h.wf⟩))
 refine am.skip<|h9 _ _<|.seq fun _ a0=>.region<|.q Z (ae Z)<|.q Z (aj eb jm U Z)<|.q Z (ak jH Z Z h.get Z)<|.q Z (bF (n:=rs.length) p3 Z (hr.le D) O (dp _))<|.q Z (wU Z Z O)<|.q Z (wU Z Z O) ?_;refine Ops.q Z (ah Z)<|.nil<|a0 _ _<|.rt (by exact aH Z (⟨by (rw [nm,if_neg ‹_›];rfl),D,h.wf⟩))

theorem yb (lv:Value) (S:List (Wd × Wd)) (i j:Nat) (A:AH) (hs:bI A 2 lv (gt S)):bE Tryz.prog 165 #[lv,num ((i:Nat):Int),num ((j:Nat):Int)] A (fun v A1=>∃ b1 b2 b3,v=.func (.func 192) #[] #[.pointer (some ⟨b1,0,none⟩),.pointer (some ⟨b2,0,none⟩),.pointer (some ⟨b3,0,none⟩)]/\A.le A1/\A1.wf/\A1.get b1=some (.row true [lv] 1)/\A1.get b2=some (.row true [num (i:Int)] 1)/\A1.get b3=some (.row true [num (j:Int)] 1)/\A.n<=b1/\A.n<=b2/\A.n<=b3):=by
 refine wR Tryz.call165 Tryz.func165 Z Tryz.results165 Tryz.ntmps165 Z (fun wf=>?_);have a0:=AH.le.refl A;refine am.seq fun _ h2=>.region ?_;obtain ⟨p7,l7,c7,q7,_⟩:=(hs.le a0);subst q7;refine Ops.l Z (fun _ _ ad _=>d8 wf rfl rfl fun A5 b4 V=>?_);have a3:=Nat.le_trans a0.n V.lo;have a4:=a0.trans V.le;refine ad _ _<|.l Z (fun _ _ ag _=>d8 V.wf rfl rfl fun A11 a7 D=>?_);have a1:=Nat.le_trans a4.n D.lo;have a9:=D.le.get _ _ V.get;have X:=a4.trans D.le;refine ag _ _<|.l Z (fun _ _ a5 _=>d8 D.wf rfl rfl fun A17 a8 h=>?_);have a2:=Nat.le_trans X.n h.lo;have aa:=h.le.get _ _ a9;have ab:=h.le.get _ _ D.get;have a6:=X.trans h.le;refine a5 _ _<|.q Z (ah Z)<|.nil<|h2 _ _<|.seq fun _ ac=>.region<|.q Z (mc Z Z)<|.q Z (ah Z)<|.nil<|ac _ _ ?_;refine am.ret ?_;repeat first | with_reducible refine bz ?_ | with_reducible refine bn ?_
 exact aH Z (⟨b4,a7,a8,Z,a6,h.wf,aa,ab,h.get,a3,a1,a2⟩)

theorem wh (bo lp:Nat) (J:Nat->AH->Prop) (i j:Nat) (S:List (Wd × Wd)) (lv:Value) (M A:AH) (ba bb bc k1 k2 k3:Nat) (w1 w2 w3:Bool) (hP:cq bo M A) (bu:J 0 A) (a0:M.get ba=some (.row w1 [lv] k1)) (a1:M.get bb=some (.row w2 [num (i:Int)] k2)) (a2:M.get bc=some (.row w3 [num (j:Int)] k3)) (hs:bI M 2 lv (gt S)) (hi:i < S.length) (hj:j < S.length) (hne:∀ s ∈ S,0 < s.1.length/\s.1.length<=100000/\s.2.length<=100000) (hy:∀ k C M2,k < (li (i:Int) (j:Int) (decide (i=j)) (S.getD i ([],[])) (S.getD j ([],[]))).length->C.wf->J k C->cq bo M2 C->ld Tryz.prog lp #[QK ((li (i:Int) (j:Int) (decide (i=j)) (S.getD i ([],[])) (S.getD j ([],[]))).getD k .zero)] C (fun v C2=>v=.bool true/\J (k + 1) C2/\C2.wf/\cq bo M2 C2)):bE Tryz.prog 192 #[.func (.yield lp) #[] #[],.pointer (some ⟨ba,0,none⟩),.pointer (some ⟨bb,0,none⟩),.pointer (some ⟨bc,0,none⟩)] A (fun v A1=>J (li (i:Int) (j:Int) (decide (i=j)) (S.getD i ([],[])) (S.getD j ([],[]))).length A1/\A1.wf/\cq bo M A1):=by
 refine Wt Tryz.call192 Tryz.func192 Z Tryz.results192 Tryz.ntmps192 Z (fun wf=>?_);have V:=hP.le;have d2:=hne _ (bi (d:=(([],[]):Wd × Wd)) hi);have d3:=hne _ (bi (d:=(([],[]):Wd × Wd)) hj);refine am.seq fun _ h2=>.drawn [0,1,2,3,4,5,6,7,8,9,10,11] mixed Y Y Z<|.q Z Z Z (ak xd Z Z (V.get _ _ a0) Z)<|.q Z Z Z (ak eR Z Z (V.get _ _ a1) Z) ?_;obtain ⟨b3,f3,dL,r3,dJ,n3,k3,e3,l3,g3,cS,aS⟩:=bI.at (i:=i) (hs.le V) OI O;refine bj.q Z Z Z (aE qO ni Z e3 Z l3)<|.q Z Z Z (gT (i:=0) zy fp Z Z U)<|.q Z Z Z (ak fW Z Z g3 ((aS 0 U).trans (yg O)))<|.q Z Z Z (ak xd Z Z (V.get _ _ a0) Z)<|.q Z Z Z (ak eR Z Z (V.get _ _ a2) Z) ?_;obtain ⟨b4,f4,dM,r4,dK,n4,k4,e4,l4,g4,cV,aT⟩:=bI.at (i:=j) (hs.le V) OI O;refine bj.q Z Z Z (aE qO ni Z e4 Z l4)<|.q Z Z Z (gT (i:=0) zy fp Z Z U)<|.q Z Z Z (ak fW Z Z g4 ((aT 0 U).trans (yg O)))<|.q Z Z Z (ah Z)<|.q Z Z Z (ah Z)<|.done<|h2 _ _<|.seq fun _ h6=>.seq fun _ h8=>.region ?_;refine Ops.q Z (ah Z)<|.nil<|h8 _ _<|.block<|.loop (X:=Nat) (fun k=>[(0,.func (.yield lp) #[] #[]),(1,.pointer (some ⟨ba,0,none⟩)),(2,.pointer (some ⟨bb,0,none⟩)),(3,.pointer (some ⟨bc,0,none⟩)),(5,bf ((S.getD i ([],[])).1)),(6,bf ((S.getD j ([],[])).1)),(7,num ((k:Nat):Int))]) (fun k B=>(1<=k/\k<=(S.getD i ([],[])).1.length)/\M.le B/\(J (sD (i:Int) (j:Int) (S.getD i ([],[])) (S.getD j ([],[])) k).length B/\cq bo M B)) (fun k=>(S.getD i ([],[])).1.length - k) 1 (Gt Z Z Z Z Z Z Z) (⟨⟨Nat.le_refl _,by omega⟩,V,⟨(by rw [JH];exact bu),hP⟩⟩) ?_;rintro k B10 ⟨⟨bv,ag⟩,D,hJk,hPk⟩;refine am.wf fun aR=>.seq fun _ b7=>.seq fun _ b8=>.region<|.q Z (ae Z)<|.q Z (ae Z)<|.q Z (cD u9 Z)<|.q Z (bX Z Z)<|.nil<|b8 _ _ ?_;refine am.if rfl (fun bL=>?_) (fun bL=>?_)
 ·refine am.skip<|b7 _ _<|.seq fun _ a4=>.block<|.seq fun _ b9=>.region<|.q Z (ae Z)<|.q Z (cD u9 Z)<|.q Z (ae Z)<|.q Z (ik Z Z O) ?_;refine Ops.q Z (ah Z)<|.nil<|b9 _ _<|.seq fun _ ab=>.drawn [0,1,2,3,4,5,6,7,8,9,10,11,12] mixed Y Y Z<|.q Z Z Z (ae Z)<|.q Z Z Z (ae Z)<|.q Z Z Z (cD u9 Z)<|.q Z Z Z (bX Z Z)<|.q Z Z Z (ae Z) ?_;refine bj.part (t:=34) Z (fun bM=>?_) (fun bM=>?_)
  ·refine bj.qOn Z Z Z Z Z (ae Z)<|.qOn Z Z Z Z Z (ae Z)<|.qOn Z Z Z Z Z (vN u9 Z Z O)<|.qOn Z Z Z Z Z (ae Z)<|.qOn Z Z Z Z Z (ae Z)<|.qOn Z Z Z Z Z (xK u9 Z Z O)<|.qOn Z Z Z Z Z (m8 Z Z)<|.q Z Z Z (aJ Z Z)<|.done<|ab _ _ ?_;refine am.if rfl (fun bO=>?_) (fun bO=>?_)
   ·refine am.seq fun _ bd=>?_;have a9:=RD (I:=i) (J:=j) (same:=decide (i=j)) (a:=(S.getD i ([],[]))) (b:=(S.getD j ([],[]))) (n:=k) O O O ‹_›;have a7:=hy _ B10 M a9.1 aR hJk hPk;rw [a9.2.1] at a7;refine am.drawnYield [0,1,2,3,4,5,6,7,8,9,10,11,12,13,14,15,16,17,18,19,20,21,22,23,24,25,26,27,28] 27 28 rfl Z Z Z Y Y Z mixed Y Y Z (a7)<|.q Z Z Z (ae Z)<|.q Z Z Z (ak eR Z Z (D.get _ _ a1) Z)<|.q Z Z Z (ak eR Z Z (D.get _ _ a2) Z)<|.q Z Z Z (ae Z)<|.q Z Z Z (ae Z)<|.q Z Z Z (ae Z)<|.q Z Z Z (vN u9 Z Z O)<|.q Z Z Z (pB Z Z Ob)<|.q Z Z Z (ak xd Z Z (D.get _ _ a0) Z) ?_;refine bj.q Z Z Z (ak eR Z Z (D.get _ _ a1) Z) ?_;obtain ⟨cF,cX,cf,dz,c3,dl,dd,aV,bA,b1,bT,ai⟩:=bI.at (i:=i) (hs.le D) OI O;refine bj.q Z Z Z (aE qO ni Z aV Z bA)<|.q Z Z Z (gT (i:=1) zy fp Z Z U)<|.q Z Z Z (ak fW Z Z b1 ((ai 1 U).trans (qF O)))<|.q Z Z Z (ae Z)<|.q Z Z Z (ae Z)<|.q Z Z Z (vN u9 Z Z O)<|.q Z Z Z (pB Z Z Ob)<|.q Z Z Z (ae Z)<|.q Z Z Z (ae Z)<|.q Z Z Z (xK u9 Z Z O) ?_;refine bj.q Z Z Z (ak xd Z Z (D.get _ _ a0) Z)<|.q Z Z Z (ak eR Z Z (D.get _ _ a2) Z) ?_;obtain ⟨cH,cZ,ch,dD,c4,dm,di,aY,bB,b2,bU,ap⟩:=bI.at (i:=j) (hs.le D) OI O;refine bj.q Z Z Z (aE qO ni Z aY Z bB)<|.q Z Z Z (gT (i:=1) zy fp Z Z U)<|.q Z Z Z (ak fW Z Z b2 ((ap 1 U).trans (qF O)))<|.q Z Z Z (pB Z Z Ob)<|.q Z Z Z (dA Z (bG UV zB Eo Z))<|.q Z Z Z (ae Z)<|.q Z Z Z (ae Z)<|.done ?_;refine ⟨rfl,rfl,rfl,rfl,fun dO A30 aF=>?_⟩;obtain ⟨ay,aA,cA,a5⟩:=aF;refine ⟨ay,?_⟩;have aI:=a5.le;have aC:J (sD (i:Int) (j:Int) (S.getD i ([],[])) (S.getD j ([],[])) (k + 1)).length A30:=by rw [a9.2.2];exact aA
    refine bd _ _<|.cond_false Z<|.skip<|a4 _ _<|.region<|.q Z (ae Z)<|.q Z (bq (b:=1) Z Z O)<|.q Z (ah Z)<|.nil ?_;exact ⟨k + 1,Gt Z Z Z Z Z Z Z,Z,⟨⟨by omega,by omega⟩,aI,⟨aC,a5⟩⟩,O1⟩
   refine am.skip<|a4 _ _<|.region<|.q Z (ae Z)<|.q Z (bq (b:=1) Z Z O)<|.q Z (ah Z)<|.nil ?_;exact ⟨k + 1,Gt Z Z Z Z Z Z Z,Z,⟨⟨by omega,by omega⟩,D,⟨(by rw [Em (fun q=>by exact absurd q.2.2 ‹_›)];exact hJk),hPk⟩⟩,O1⟩
  refine bj.qOff Z Z Z Z Z Z<|.qOff Z Z Z Z Z Z<|.qOff Z Z Z Z Z Z<|.qOff Z Z Z Z Z Z<|.qOff Z Z Z Z Z Z<|.qOff Z Z Z Z Z Z<|.qOff Z Z Z Z Z Z<|.q Z Z Z (aU Z Z)<|.done<|ab _ _ ?_;refine am.cond_false Z<|.skip<|a4 _ _<|.region<|.q Z (ae Z)<|.q Z (bq (b:=1) Z Z O)<|.q Z (ah Z)<|.nil ?_;exact ⟨k + 1,Gt Z Z Z Z Z Z Z,Z,⟨⟨by omega,by omega⟩,D,⟨(by rw [Em (fun q=>by exact absurd q.2.1 ‹_›)];exact hJk),hPk⟩⟩,O1⟩
 refine am.exit<|h6 _ _<|.seq fun _ bl=>.region<|.q Z (ah Z)<|.nil<|bl _ _<|.block<|.loop (X:=Nat) (fun k=>[(0,.func (.yield lp) #[] #[]),(1,.pointer (some ⟨ba,0,none⟩)),(2,.pointer (some ⟨bb,0,none⟩)),(3,.pointer (some ⟨bc,0,none⟩)),(5,bf ((S.getD i ([],[])).1)),(6,bf ((S.getD j ([],[])).1)),(9,num ((k:Nat):Int))]) (fun k B=>(k<=(S.getD i ([],[])).1.length + 1/\(i=j->k=0))/\M.le B/\(J ((sD (i:Int) (j:Int) (S.getD i ([],[])) (S.getD j ([],[])) (S.getD i ([],[])).1.length).length + (vw (i:Int) (j:Int) (S.getD i ([],[])) (S.getD j ([],[])) k).length) B/\cq bo M B)) (fun k=>(S.getD i ([],[])).1.length + 1 - k) 0 (Gt Z Z Z Z Z Z Z) (⟨⟨Nat.zero_le _,fun _=>rfl⟩,D,⟨(by rw [show k=(S.getD i ([],[])).1.length by omega] at hJk;exact hJk),hPk⟩⟩) ?_;rintro k B38 ⟨⟨bv,ag⟩,h,hJk,hPk⟩;refine am.wf fun a3=>.seq fun _ bm=>.seq fun _ ac=>.region<|.q Z (ak eR Z Z (h.get _ _ a1) Z)<|.q Z (ak eR Z Z (h.get _ _ a2) Z)<|.q Z (fg Z Z)<|.q Z (ae Z)<|.part (t:=75) Z (fun bP=>?_) (fun bP=>?_)
 ·refine Ops.on Z Z<|.q Z (ae Z)<|.on Z Z<|.q Z (ae Z)<|.on Z Z<|.q Z (cD u9 Z)<|.on Z Z<|.q Z (bq Z Z O)<|.on Z Z<|.q Z (ae Z) ?_;refine Ops.on Z Z<|.q Z (cD u9 Z)<|.on Z Z<|.q Z (qW Z Z)<|.q Z (aJ Z Z)<|.nil<|ac _ _<|.if rfl (fun bR=>?_) (fun bR=>?_)
  ·refine am.skip<|bm _ _<|.seq fun _ ad=>.block<|.seq fun _ bp=>.region<|.q Z (ae Z)<|.q Z (ae Z)<|.q Z (ae Z)<|.q Z (ae Z) ?_;refine Ops.q Z (cD u9 Z)<|.q Z (bq Z Z O)<|.q Z (Xg u9 Z Z Z O)<|.q Z (ae Z)<|.q Z (m8 Z Z)<|.nil<|bp _ _<|.if rfl (fun bS=>?_) (fun bS=>?_)
   ·refine am.seq fun _ br=>?_;have aa:=Rc (I:=i) (J:=j) (same:=decide (i=j)) (a:=(S.getD i ([],[]))) (b:=(S.getD j ([],[]))) (n:=k) (decide_eq_false ‹_›) O ‹_›;have a8:=hy _ B38 M aa.1 a3 hJk hPk;rw [aa.2.1] at a8;refine am.drawnYield [0,1,2,3,4,5,6,7,8,9,10,11,12,13,14,15,16,17,18,19,20,21,22,23,24,25,26,27] 26 27 rfl Z Z Z Y Y Z mixed Y Y Z (a8)<|.q Z Z Z (ae Z)<|.q Z Z Z (ak eR Z Z (h.get _ _ a1) Z)<|.q Z Z Z (ak eR Z Z (h.get _ _ a2) Z)<|.q Z Z Z (ae Z)<|.q Z Z Z (ak xd Z Z (h.get _ _ a0) Z)<|.q Z Z Z (ak eR Z Z (h.get _ _ a1) Z) ?_;obtain ⟨cK,d0,ck,dG,c7,dv,dj,aZ,bC,b5,bV,ar⟩:=bI.at (i:=i) (hs.le h) OI O;refine bj.q Z Z Z (aE qO ni Z aZ Z bC)<|.q Z Z Z (gT (i:=1) zy fp Z Z U)<|.q Z Z Z (ak fW Z Z b5 ((ar 1 U).trans (qF O)))<|.q Z Z Z (ae Z)<|.q Z Z Z (ae Z)<|.q Z Z Z (xK u9 Z Z O)<|.q Z Z Z (ak xd Z Z (h.get _ _ a0) Z)<|.q Z Z Z (ak eR Z Z (h.get _ _ a2) Z) ?_;obtain ⟨cP,d1,cv,dI,cc,dw,dk,b0,bD,b6,bY,av⟩:=bI.at (i:=j) (hs.le h) OI O;refine bj.q Z Z Z (aE qO ni Z b0 Z bD)<|.q Z Z Z (gT (i:=1) zy fp Z Z U)<|.q Z Z Z (ak fW Z Z b6 ((av 1 U).trans (qF O)))<|.q Z Z Z (pB Z Z Ob)<|.q Z Z Z (ae Z)<|.q Z Z Z (ae Z)<|.q Z Z Z (ae Z)<|.q Z Z Z (cD u9 Z)<|.q Z Z Z (bq Z Z O)<|.q Z Z Z (vN u9 Z Z O) ?_;refine bj.q Z Z Z (pB Z Z Ob)<|.q Z Z Z (dA Z (bG UV zB Eo Z))<|.q Z Z Z (ae Z)<|.q Z Z Z (ae Z)<|.done ?_;refine ⟨rfl,rfl,rfl,rfl,fun dS A56 aG=>?_⟩;obtain ⟨az,aB,cC,a6⟩:=aG;refine ⟨az,?_⟩;have aP:=a6.le;have aD:J ((sD (i:Int) (j:Int) (S.getD i ([],[])) (S.getD j ([],[])) (S.getD i ([],[])).1.length).length + (vw (i:Int) (j:Int) (S.getD i ([],[])) (S.getD j ([],[])) (k + 1)).length) A56:=by rw [aa.2.2];exact aB
    refine br _ _<|.cond_false Z<|.skip<|ad _ _<|.region<|.q Z (ae Z)<|.q Z (bq (b:=1) Z Z O)<|.q Z (ah Z)<|.nil ?_;exact ⟨k + 1,Gt Z Z Z Z Z Z Z,Z,⟨⟨by omega,fun q=>absurd q ‹_›⟩,aP,⟨aD,a6⟩⟩,O1⟩
   refine am.skip<|ad _ _<|.region<|.q Z (ae Z)<|.q Z (bq (b:=1) Z Z O)<|.q Z (ah Z)<|.nil ?_;exact ⟨k + 1,Gt Z Z Z Z Z Z Z,Z,⟨⟨by omega,fun q=>absurd q ‹_›⟩,h,⟨(by rw [Ue ‹_›];exact hJk),hPk⟩⟩,O1⟩
  refine am.exit ?_;repeat first | with_reducible refine bz ?_ | with_reducible refine bn ?_
  repeat first | with_reducible refine e8 ?_ | with_reducible refine ej ?_ | with_reducible refine dQ U ?_ | with_reducible refine dR ?_ | with_reducible refine da ?_
  exact xM (vs:=[]) Z (⟨by (rw [Li (decide_eq_false ‹_›) O O];exact hJk),a3,hPk⟩)
 refine Ops.off Z Z Z Z<|.off Z Z Z Z<|.off Z Z Z Z<|.off Z Z Z Z<|.off Z Z Z Z<|.off Z Z Z Z<|.off Z Z Z Z<|.q Z (aU Z Z)<|.nil<|ac _ _ ?_;refine am.cond_false Z<|.exit ?_;repeat first | with_reducible refine bz ?_ | with_reducible refine bn ?_
 repeat first | with_reducible refine e8 ?_ | with_reducible refine ej ?_ | with_reducible refine dQ U ?_ | with_reducible refine dR ?_ | with_reducible refine da ?_
 exact xM (vs:=[]) Z (⟨by (rw [IM (decide_eq_true (Decidable.not_not.1 ‹_›))];rw [ag (Decidable.not_not.1 ‹_›)] at hJk;exact hJk),a3,hPk⟩)
end Go.Proofs.YtjppkekmddjcfaaGreatDoor

namespace Go.Proofs.YtjppkekmddjcfaaGreatDoor
open Go Go.RowKit V
set_option maxRecDepth 100000
theorem Tk:dr Tryz.prog 202=some false:=by kernel_rfl
theorem uk:dr Tryz.prog 47=some true:=by kernel_rfl
theorem Ql:dr Tryz.prog 78=some false:=by kernel_rfl
theorem L5:d5 Tryz.prog 47 0=some (3,0):=by kernel_rfl
theorem L8:d5 Tryz.prog 47 1=some (3,1):=by kernel_rfl
theorem Vn:Tryz.prog.info? 47=some Tryz.t47:=by kernel_rfl
theorem jE:c9 Tryz.prog 47=some 5:=by kernel_rfl
theorem VU:c9 Tryz.prog 78=some 1:=by kernel_rfl
theorem Va:type_of% @Tryz.underlying78:=@Tryz.underlying78
theorem Xm:cu Tryz.prog 78=some (.slice none 0 0):=by kernel_rfl

theorem Pb (bo lp:Nat) (J:Nat->AH->Prop) (g:Int) (u:Value) (l:List (List UInt8)) (rv:Value) (rs:List be) (M A:AH) (bs k1:Nat) (w1:Bool) (hP:cq bo M A) (hB:J 0 A) (gbs:M.get bs=some (.row w1 [num g,u,rv] k1)) (hL:gy M) (hu:bI M 1 u (ei l)) (hr:bI M 3 rv (db rs)) (hp:Proofs M rs) (hg:1<=g/\g<=8) (hn:rs.length<=1000000) (hw:∀ r ∈ rs,0 < r.left.length/\r.left.length<=1000/\r.right.length<=1000) (hclo:∀ i C C2,J i C->C2.wf->C.n<=C2.n->(∀ b o,(b < A.n\/mI bo C b)->C.get b=some o->C2.get b=some o)->J i C2) (hv:∀ i C,J i C->∃ v cap,C.get bo=some (.row true [v] cap)/\∀ b,blk v=some b->∃ o,C.get b=some o) (hbo:bo < A.n) (hy:∀ k C M2,k < (bh g rs).length->C.wf->J k C->cq bo M2 C->ld Tryz.prog lp #[QK ((bh g rs).getD k .zero)] C (fun v C2=>v=.bool true/\J (k + 1) C2/\C2.wf/\cq bo M2 C2)):bE Tryz.prog 164 #[.func (.yield lp) #[] #[],.pointer (some ⟨bs,0,none⟩)] A (fun v A1=>J (bh g rs).length A1/\A1.wf/\cq bo M A1):=by
  refine enterM (e:=[(0,.func (.yield lp) #[] #[]),(1,.pointer (some ⟨bs,0,none⟩))]) (args:=[.func (.yield lp) #[] #[],.pointer (some ⟨bs,0,none⟩)]) Tryz.call164 Tryz.func164 Z Tryz.results164 Tryz.ntmps164 Z Z Z (fun wf=>?_)
  have hE:=hP.le
  obtain ⟨hG,n2,dS,fD⟩:=hv _ _ hB
  have hC:=AH.le.refl A
  have kP:jp bo A A []:=jp.nil
  have l1:A.n<=A.n:=Nat.le_refl _
  have hne:=tD hg hw
  have hsl:=oe g rs
  refine am.seq fun K1 h2=>.region<|.l Z (fun _ _ l0 _=>d8 wf rfl rfl fun A5 b4 e9=>?_)
  have g2:=aQ wf (Nat.le_trans hC.n e9.lo)
  have lX:=Nat.le_trans hE.n e9.lo
  have dl:=hE.trans e9.le
  have hD:=hC.trans e9.le
  refine l0 _ _<|.nil<|h2 _ _<|.seq fun K9 ka=>.region<|.q Z (aq fc eF Z Z (dl.get _ _ gbs) Z)<|.l Z (fun _ _ iN _=>au Z (Im ((g)) u l rv rs A5 hg hn (hL.le dl) (hu.le dl) (hr.le dl) (hp.le dl)) ?_)
  rintro dm A13 ⟨eL,eQ,ez⟩
  have kc:=eL.get _ _ e9.get
  have aZ:=hD.trans eL
  have f0:=ez.base dl
  have k7:=Jq hD ez
  refine iN _ _<|.q Z (ah Z)<|.nil<|ka _ _<|.seq fun K21 kk=>.region<|.q Z (ae Z)<|.q Z (bF (n:=(aM ((g)) rs).length) qO Z f0.slc O (rG _))<|.q Z (ae Z)<|.nil ?_
  refine kk _ _<|.block ?_
  have hY:=hclo _ _ _ hB eQ aZ.n (fun b o _ h=>aZ.get b o h)
  have f1:=aZ.get _ _ dS
  have mv:=pg aZ fD
  have it:=hP.up aZ dS
  have j2:=Nat.le_trans l1 aZ.n
  have hU:=kP.up aZ dS
  have bu:=cq.full f1 eQ
  have aR:=it.sub f1
  have cX:=aR.get _ _ gbs
  have cV:=fZ kc dS fD g2
  have aG:=rz f0 dS fD k7
  have e5:=hu.le aR
  have dk:=hr.le aR
  have fe:=hL.le aR
  have fm:A.n<=(A13.hide [some bo,blk hG]).n:=j2
  generalize hM24:(A13.hide [some bo,blk hG])=M24 at bu aR cX cV aG e5 dk fe fm
  refine am.loopD (X:=Nat × List Nat) (fun ⟨i,Ds⟩=>[(1,.pointer (some ⟨bs,0,none⟩)),(2,.pointer (some ⟨b4,0,none⟩)),(3,dm),(10,num (((aM ((g)) rs).length:Nat):Int)),(11,num ((i:Nat):Int))]) (fun ⟨i,Ds⟩=>Ds.map V.mark) (fun ⟨i,Ds⟩ B=>(i<=(aM g rs).length)/\M24.le B/\jp bo A B Ds/\(J (sI rs.length (aM g rs) i 0).length B/\cq bo M24 B)) (fun ⟨i,Ds⟩=>(aM g rs).length - i) (⟨0,[]⟩) (qk Z Z Z Z Z) Z (⟨(Nat.zero_le _),bu.le,hU,⟨(by rw [show (sI rs.length (aM g rs) 0 0).length=0 from rfl];exact hY),bu⟩⟩) ?_
  rintro ⟨i,Ds⟩ B26 ⟨hl_i,dM,bM,hJ_i,hP_i⟩
  refine am.wf fun ex=>?_
  obtain ⟨fQ,me,dw,fE⟩:=hv _ _ hJ_i
  have ft:=AH.le.refl B26
  have j3:=Nat.le_trans fm dM.n
  refine am.seq fun K29 kl=>.region<|.q Z (bX Z Z)<|.nil<|kl _ _<|.seq fun K31 km=>.if rfl (fun lb=>?_) (fun lb=>?_)
  ·
    refine am.skip<|km _ _<|.seq fun K34 kp=>.block<|.seq fun K36 kv=>.region<|.q Z (ae Z)<|.l Z (fun _ _ iR _=>cl ex z3 rfl fun A40 eV b2=>?_)
    have f3:=aQ bu.wf (Nat.le_trans dM.n b2.lo)
    have dV:=aQ ex (Nat.le_trans ft.n b2.lo)
    have l7:=Nat.le_trans dM.n b2.lo
    have k2:=dM.trans b2.le
    have jN:=ft.trans b2.le
    refine iR _ _<|.l Z (fun _ _ iS _=>aX (cs:=[num ((i:Nat):Int)]) (c':=[num ((i:Nat):Int)]) b2.wf rfl rfl rfl rfl cW b2.get (Nat.le_of_ble_eq_true rfl) rfl rfl fun A45 b7=>?_)
    have b0:=an jN ex dV b7.n b7.keep
    have k3:=an k2 bu.wf f3 b7.n b7.keep
    refine iS _ _<|.nil<|kv _ _<|.seq fun K49 kA=>.region<|.q Z (ae Z)<|.q Z (bF (n:=(aM ((g)) rs).length) qO Z (aG.le k3) O (rG _))<|.q Z (ae Z)<|.nil<|kA _ _ ?_
    refine am.block ?_
    have hZ:=hclo _ _ _ hJ_i b7.wf b0.n (fun b o _ h=>b0.get b o h)
    have f2:=b0.get _ _ dw
    have mx:=pg b0 fE
    have iv:=hP_i.up b0 dw
    have j4:=Nat.le_trans j3 b0.n
    have hV:=bM.up b0 dw
    have aS:=cq.full f2 b7.wf
    have a7:=iv.sub f2
    have ar:=a7.get _ _ cX
    have bv:=a7.get _ _ cV
    have a4:=fZ b7.get dw fE dV
    have cv:=e5.le a7
    have av:=dk.le a7
    have a5:=aG.le a7
    have en:=fe.le a7
    have dI:A.n<=(A45.hide [some bo,blk fQ]).n:=j4
    generalize hM52:(A45.hide [some bo,blk fQ])=M52 at aS a7 ar bv a4 cv av a5 en dI
    refine am.loopD (X:=Nat × List Nat) (fun ⟨j,Ds⟩=>[(1,.pointer (some ⟨bs,0,none⟩)),(2,.pointer (some ⟨b4,0,none⟩)),(3,dm),(4,.pointer (some ⟨eV,0,none⟩)),(10,num (((aM ((g)) rs).length:Nat):Int)),(11,num ((i:Nat):Int)),(15,num (((aM ((g)) rs).length:Nat):Int)),(16,num ((j:Nat):Int))]) (fun ⟨j,Ds⟩=>Ds.map V.mark) (fun ⟨j,Ds⟩ B=>(j<=(aM g rs).length)/\M52.le B/\jp bo A B Ds/\(J (sI rs.length (aM g rs) i j).length B/\cq bo M52 B)) (fun ⟨j,Ds⟩=>(aM g rs).length - j) (⟨0,Ds⟩) (yC Z Z Z Z Z Z Z Z) Z (⟨(Nat.zero_le _),aS.le,hV,⟨hZ,aS⟩⟩) ?_
    rintro ⟨j,Ds⟩ B54 ⟨hl_j,cC,bO,hJ_j,hP_j⟩
    refine am.wf fun aA=>?_
    obtain ⟨dO,ml,D,a9⟩:=hv _ _ hJ_j
    have fv:=AH.le.refl B54
    have ev:=Nat.le_trans dI cC.n
    refine am.seq fun K57 kC=>.region<|.q Z (bX Z Z)<|.nil<|kC _ _<|.seq fun K59 kD=>.if rfl (fun lc=>?_) (fun lc=>?_)
    ·
      refine am.skip<|kD _ _<|.seq fun K62 f7=>.block<|.seq fun K64 kK=>.region<|.q Z (ae Z)<|.l Z (fun _ _ iT _=>cl aA z3 rfl fun A68 ey b3=>?_)
      have f4:=aQ aS.wf (Nat.le_trans cC.n b3.lo)
      have bU:=aQ aA (Nat.le_trans fv.n b3.lo)
      have l9:=Nat.le_trans cC.n b3.lo
      have k4:=cC.trans b3.le
      have k0:=fv.trans b3.le
      refine iT _ _<|.l Z (fun _ _ iV _=>aX (cs:=[num ((j:Nat):Int)]) (c':=[num ((j:Nat):Int)]) b3.wf rfl rfl rfl rfl cW b3.get (Nat.le_of_ble_eq_true rfl) rfl rfl fun A73 ai=>?_)
      have a1:=an k0 aA bU ai.n ai.keep
      have ag:=an k4 aS.wf f4 ai.n ai.keep
      refine iV _ _<|.nil<|kK _ _<|.seq fun K77 hz=>.seq fun K79 hA=>.region<|.q Z (ak eR Z Z (ag.get _ _ a4) Z)<|.q Z (aj eb jm U Z)<|.q Z (ak jH Z Z (ag.get _ _ ar) Z)<|.q Z (bF (n:=rs.length) p3 Z (av.le ag) O (dp _)) ?_
      refine Ops.q Z (vM Z Z)<|.q Z (ae Z)<|.part (t:=24) Z (fun lt=>?_) (fun lt=>?_)
      ·
        refine Ops.on Z Z<|.q Z (ak eR Z Z ai.get Z)<|.on Z Z<|.q Z (aj eb jm U Z)<|.on Z Z<|.q Z (ak jH Z Z (ag.get _ _ ar) Z)<|.on Z Z<|.q Z (bF (n:=rs.length) p3 Z (av.le ag) O (dp _))<|.on Z Z<|.q Z (vM Z Z) ?_
        refine Ops.q Z (aJ Z Z)<|.nil<|hA _ _<|.if rfl (fun lw=>?_) (fun lw=>?_)
        ·
          refine am.exit<|f7 _ _<|.region<|.q Z (bq (b:=1) Z Z O)<|.q Z (ae Z)<|.nil ?_
          have ih:=hclo _ _ _ hJ_j ai.wf a1.n (fun b o _ h=>a1.get b o h)
          have mm:=a1.get _ _ D
          have mB:=pg a1 a9
          have iD:=hP_j.up a1 D
          have mt:=Nat.le_trans ev a1.n
          have hW:=bO.up a1 D
          exact ⟨⟨j + 1,Ds⟩,yC Z Z Z Z Z Z Z Z,Z,⟨O,ag,hW,⟨(by rw [Qc ⟨by omega,by omega⟩];exact ih),iD⟩⟩,O1⟩
        ·
          refine am.skip<|hz _ _<|.seq fun K84 kL=>.region<|.q Z (ae Z)<|.q Z (ak eR Z Z (ag.get _ _ a4) Z)<|.q Z (ak eR Z Z ai.get Z)<|.l Z (fun _ _ iX _=>au Z (yb dm (aM ((g)) rs) i j A73 (a5.le ag)) ?_)
          rintro n3 A88 ⟨fT,fV,fX,rfl,eN,bT,dd,di,dj,d1,d2,d3⟩
          have kM:=eN.get _ _ ai.get
          have b1:=a1.trans eN
          have hrwa:=dd
          have hrwb:=di
          have hrwc:=dj
          have hloa:=d1
          have hlob:=d2
          have hloc:=d3
          have ea:=aQ aA (Nat.le_trans a1.n d1)
          have ec:=aQ aA (Nat.le_trans a1.n d2)
          have eg:=aQ aA (Nat.le_trans a1.n d3)
          refine iX _ _<|.nil<|kL _ _<|.block ?_
          have ir:=hclo _ _ _ hJ_j bT b1.n (fun b o _ h=>b1.get b o h)
          have dz:=b1.get _ _ D
          have mE:=pg b1 a9
          have iF:=hP_j.up b1 D
          have jn:=Nat.le_trans ev b1.n
          have hX:=bO.up b1 D
          have ay:=cq.full dz bT
          have a2:=iF.sub dz
          have a8:=a2.get _ _ ar
          have d0:=a2.get _ _ bv
          have bY:=a2.get _ _ a4
          have aV:=fZ kM D a9 bU
          have ba:=fZ dd D a9 ea
          have bb:=fZ di D a9 ec
          have bc:=fZ dj D a9 eg
          have cA:=cv.le a2
          have bB:=av.le a2
          have bD:=a5.le a2
          have fi:=en.le a2
          have dJ:A.n<=(A88.hide [some bo,blk dO]).n:=jn
          generalize hM94:(A88.hide [some bo,blk dO])=M94 at ay a2 a8 d0 bY aV ba bb bc cA bB bD fi dJ
          refine am.rangeOwn (M:=M94) bo (d7 (aM g rs) i j).length (fun k=>[QK ((d7 (aM g rs) i j).getD k .zero)]) (fun k B=>J ((sI rs.length (aM g rs) i j).length + k) B/\cq bo M94 B) (fun k b6=>[(6,.pointer (some ⟨b6,0,none⟩)),(1,.pointer (some ⟨bs,0,none⟩)),(2,.pointer (some ⟨b4,0,none⟩)),(4,.pointer (some ⟨eV,0,none⟩)),(5,.pointer (some ⟨ey,0,none⟩)),(20,.pointer (some ⟨bs,2,none⟩)),(26,.pointer (some ⟨bs,2,none⟩))]) (fun k=>.row true [num (((d7 (aM g rs) i j).getD k .zero).i),num (((d7 (aM g rs) i j).getD k .zero).j),bf (((d7 (aM g rs) i j).getD k .zero).word),bf (((d7 (aM g rs) i j).getD k .zero).u),bf (((d7 (aM g rs) i j).getD k .zero).v)] 5) Z Tryz.call192 (fun _=>rfl) U (bT _ _ dz) ay ?_ ?_ ?_ ?_ ?_ ?_ ?_
          · rintro k B B2 ⟨i1,i2⟩ dv e4 hk
            obtain ⟨v,cc,gq,_⟩:=hv _ _ i1
            exact ⟨hclo _ _ _ i1 dv e4 (fun b o hb h=>hk b o (hb.imp (fun q=>Nat.lt_of_lt_of_le q (Nat.le_trans dJ ay.le.n)) id) h),⟨⟨Nat.le_trans i2.le.n e4,fun b o h=>hk b o (.inl (Nat.lt_of_lt_of_le (i2.wf b o h) ay.le.n)) (i2.le.get _ _ h)⟩,i2.wf,fun b hb=>i2.ow b (hb.same (by rw [gq];exact hk bo _ (.inr (.inl Z)) gq))⟩⟩
          · exact fun k B i1=>hv _ _ i1.1
          · exact ⟨ir,ay⟩
          · intro fL J2 B M4 hnB hleB wfB ap hJI iH aT hyd
            obtain ⟨v,cc,gq,_⟩:=hv _ _ (hJI 0 B aT).1
            have s3:=(hJI 0 B aT).2.sub gq
            exact (wh bo fL J2 i j (aM g rs) dm _ B fT fV fX _ _ _ _ _ _ (cq.full gq wfB) aT (s3.get _ _ ba) (s3.get _ _ bb) (s3.get _ _ bc) (bD.le s3) O O hne (fun k C M2=>hyd k C M2)).mono (fun v C h=>⟨h.1,h.2.1,h.2.2.mono (ap.sub gq) ap.wf⟩)
          · intro F k B hF_ hk_
            refine d6.wf fun wfB_=>?_
            have hF:=hF_
            refine d6.region hF (by repeat' with_reducible exact iJ) Y<|.l Z (fun _ _ j1 _=>cl wfB_ zB rfl fun A97 k9 cK=>?_)
            have f5:=aQ wfB_ (Nat.le_trans (AH.le.refl B).n cK.lo)
            have fI:=Nat.le_trans (AH.le.refl B).n cK.lo
            have k6:=(AH.le.refl B).trans cK.le
            refine j1 _ _<|.l Z (fun _ _ gM _=>aX (cs:=[num (((d7 (aM g rs) i j).getD k .zero).i),num (((d7 (aM g rs) i j).getD k .zero).j),bf (((d7 (aM g rs) i j).getD k .zero).word),bf (((d7 (aM g rs) i j).getD k .zero).u),bf (((d7 (aM g rs) i j).getD k .zero).v)]) (c':=[num (((d7 (aM g rs) i j).getD k .zero).i),num (((d7 (aM g rs) i j).getD k .zero).j),bf (((d7 (aM g rs) i j).getD k .zero).word),bf (((d7 (aM g rs) i j).getD k .zero).u),bf (((d7 (aM g rs) i j).getD k .zero).v)]) cK.wf rfl rfl rfl rfl jE cK.get (Nat.le_of_ble_eq_true rfl) rfl rfl fun A101 bR=>?_)
            have hi:=an k6 wfB_ f5 bR.n bR.keep
            refine gM _ _<|.nil ?_
            exact ⟨k9,fI,Gt Z Z Z Z Z Z Z,Z,hi,bR.wf,bR.get⟩
          · rintro F k B b6 M4 hF hk_ ⟨i1,i2⟩ wfB hnB ap fl g6 cP f6
            obtain ⟨vY,cY,gY,lY⟩:=hv _ _ i1
            have l3:A.n<=b6:=Nat.le_trans (Nat.le_trans dJ ay.le.n) fl
            have fM:bo ≠ b6:=fun q=>cP (.inl q.symm)
            have la:blk vY ≠ some b6:=fun q=>cP (.inr ⟨_,_,gY,q⟩)
            have s3:=i2.sub gY
            have e1:M94.get b6=none:=by cases q:M94.get b6 with | none=>rfl | some o=>exact absurd (ay.wf _ _ q) (by have:=ay.le.n;omega)
            have s6:=cd (bs:=[some b6]) s3 (um e1 o4)
            have jX:=cx B [some b6]
            have m6:((B.hide [some bo,blk vY]).hide [some b6]).le (B.hide [some b6]):=xm (cx _ _)
            have cS:((B.hide [some bo,blk vY]).hide [some b6]).wf:=cg (cg wfB)
            have b5:((B.hide [some bo,blk vY]).hide [some b6]).get b6=none:=cn (by simp)
            have wfX:(B.hide [some b6]).wf:=cg wfB
            have e7:(B.hide [some b6]).get b6=none:=cn (by simp)
            generalize hM6:(B.hide [some bo,blk vY]).hide [some b6]=M6 at s6 m6 cS b5
            have kT:=fi.le s6
            refine d6.block<|.seq fun K104 hI=>.drawn [0,1,3,4,2,6,5,7,8,9] hF (by repeat' first | with_reducible exact iJ | with_reducible apply pr | with_reducible apply kZ) Y mixed Y Y Z<|.q Z Z Z (aq fc eF Z Z ((m6.trans jX).get _ _ (s6.get _ _ a8)) Z)<|.q Z Z Z (ak eR Z Z ((m6.trans jX).get _ _ (s6.get _ _ bY)) Z) ?_
            have g9:=cR (off:=0) ((m6.trans jX).get _ _ (s6.get _ _ a8)) (show _=some (num (g)) from rfl)
            have gc:=cR (off:=1) ((m6.trans jX).get _ _ (s6.get _ _ a8)) (show _=some (u) from rfl)
            have ge:=cR (off:=2) ((m6.trans jX).get _ _ (s6.get _ _ a8)) (show _=some (rv) from rfl)
            refine bj.q Z Z Z (aq fc eF Z Z ((m6.trans jX).get _ _ (s6.get _ _ a8)) Z) ?_
            have gf:=cR (off:=0) ((m6.trans jX).get _ _ (s6.get _ _ aV)) (show _=some (num ((j:Nat):Int)) from rfl)
            refine bj.q Z Z Z (ak eR Z Z ((m6.trans jX).get _ _ (s6.get _ _ aV)) Z)<|.l Z Z Z (fun _ _ gN _=>au Z (uM ((g)) u l rv rs i B O hn ((cA.le s6).le (m6.trans jX)) ((bB.le s6).le (m6.trans jX))) ?_)
            rintro mK A116 ⟨rfl,aa,lA⟩
            have hJ:=aa.get _ _ g6
            have gg:=cr aa g9
            have gl:=cr aa gc
            have gm:=cr aa ge
            have gp:=cr aa gf
            have dK:=(m6.trans jX).trans aa
            have ha:=jX.trans aa
            refine gN _ _ (aW.list (L:=[(⟨ey,0,none⟩,num ((j:Nat):Int)),(⟨bs,0,none⟩,num (g)),(⟨bs,1,none⟩,u),(⟨bs,2,none⟩,rv)]) Y (bw gp (bw gg (bw gl (bw gm cI)))))<|.q Z Z Z (aj L5 cW U Z)<|.l Z Z Z (fun _ _ gP _=>au Z (uM ((g)) u l rv rs j A116 O hn ((cA.le s6).le dK) ((bB.le s6).le dK)) ?_)
            rintro mL A131 ⟨rfl,cF,fR⟩
            have hK:=cF.get _ _ hJ
            have hj:=dK.trans cF
            have hc:=ha.trans cF
            refine gP _ _ (aW.none Y)<|.l Z Z Z (fun _ _ gQ _=>aX (cs:=[num (nm rs.length i)]) (c':=[num (nm rs.length i),num (((d7 (aM g rs) i j).getD k .zero).j),bf (((d7 (aM g rs) i j).getD k .zero).word),bf (((d7 (aM g rs) i j).getD k .zero).u),bf (((d7 (aM g rs) i j).getD k .zero).v)]) fR rfl rfl rfl rfl cW hK (Nat.le_of_ble_eq_true rfl) rfl rfl fun A141 aI=>?_)
            have hd:=an hc wfX e7 aI.n aI.keep
            have hl:=an hj cS b5 aI.n aI.keep
            refine gQ _ _ (aW.none Y)<|.q Z Z Z (aj L8 cW U Z)<|.l Z Z Z (fun _ _ gS _=>aX (cs:=[num (nm rs.length j)]) (c':=[num (nm rs.length i),num (nm rs.length j),bf (((d7 (aM g rs) i j).getD k .zero).word),bf (((d7 (aM g rs) i j).getD k .zero).u),bf (((d7 (aM g rs) i j).getD k .zero).v)]) aI.wf rfl rfl rfl rfl cW aI.get (Nat.le_of_ble_eq_true rfl) rfl rfl fun A146 ac=>?_)
            have bl:=an hd wfX e7 ac.n ac.keep
            have hm:=an hl cS b5 ac.n ac.keep
            refine gS _ _ (aW.none Y)<|.done<|hI _ _<|.seq fun K150 hM=>?_
            have g4:=hclo _ _ _ i1 ac.wf bl.n (fun b o hb h=>bl.get b o (bK h (qL (fun q=>by subst q;rcases hb with hb | hb;omega;exact cP hb) mF)))
            have dD:=bl.get _ _ (bK gY (qL fM mF))
            have fN:=KR (n:=rs.length) (L:=(aM g rs)) (i:=i) (j:=j) (k:=k) O O O hk_
            have eC:=hy _ _ _ fN.1 ac.wf g4 (cq.full dD ac.wf)
            rw [show bh g rs=jC rs.length (aM g rs) from rfl,fN.2] at eC
            refine d6.regionJ ?_
            refine jG.q hF Z Z (ak Tk Z Z (hm.get _ _ (s6.get _ _ d0)) Z) ?_
            refine jG.q hF Z Z (aq uk jE Z Z ac.get Z) ?_
            refine jG.y hF rfl rfl rfl (eC) fun mM A154 h7=>?_
            obtain ⟨rfl,hJz,wfz,hPz⟩:=h7
            skip
            refine jG.q hF Z Z (er Z) ?_
            refine jG.nil ?_
            refine hM _ _<|.cond_false Z<|.skip ?_
            exact ⟨⟨hJz,(hPz.mono (cd ((cd (bs:=[some b6]) i2.le (um e1 o4)).trans bl) (sg i2 gY dD)) i2.wf)⟩,wfz,(hPz.mono (cd ((cd (bs:=[some b6]) ap.le (um f6 o4)).trans bl) (sg ap gY dD)) ap.wf)⟩
          · rintro B156 D156 ⟨i1,i2⟩ m3 fn l4 g0 fq b8
            have f9:=jp.push hX dz (by rw [hM94];exact b8) bT (Nat.le_trans dJ ay.le.n) fn g0 fq
            have e2:J (sI rs.length (aM g rs) i (j + 1)).length B156:=by rw [KS O];exact i1
            obtain ⟨m1,lC,lF,lT⟩:=hv _ _ e2
            have lO:=Nat.le_trans dI (a2.trans b8.le).n
            refine f7 _ _<|.region<|.q Z (bq (b:=1) Z Z O)<|.q Z (ae Z)<|.nil ?_
            exact ⟨⟨j + 1,D156 :: Ds⟩,yC Z Z Z Z Z Z Z Z,Z,⟨O,(a2.trans b8.le),f9,⟨e2,(b8.mono a2 aS.wf)⟩⟩,O1⟩
      ·
        refine Ops.off Z Z Z Z<|.off Z Z Z Z<|.off Z Z Z Z<|.off Z Z Z Z<|.off Z Z Z Z<|.q Z (aU Z Z)<|.nil<|hA _ _<|.cond_false Z<|.skip ?_
        refine hz _ _<|.seq fun K158 hN=>.region<|.q Z (ae Z)<|.q Z (ak eR Z Z (ag.get _ _ a4) Z)<|.q Z (ak eR Z Z ai.get Z)<|.l Z (fun _ _ gX _=>au Z (yb dm (aM ((g)) rs) i j A73 (a5.le ag)) ?_)
        rintro mT A162 ⟨eX,eY,eZ,rfl,e6,br,cf,ch,ck,c3,c4,c7⟩
        have hO:=e6.get _ _ ai.get
        have az:=a1.trans e6
        have hrwa:=cf
        have hrwb:=ch
        have hrwc:=ck
        have hloa:=c3
        have hlob:=c4
        have hloc:=c7
        have dW:=aQ aA (Nat.le_trans a1.n c3)
        have dZ:=aQ aA (Nat.le_trans a1.n c4)
        have e0:=aQ aA (Nat.le_trans a1.n c7)
        refine gX _ _<|.nil<|hN _ _<|.block ?_
        have g5:=hclo _ _ _ hJ_j br az.n (fun b o _ h=>az.get b o h)
        have bL:=az.get _ _ D
        have lV:=pg az a9
        have g8:=hP_j.up az D
        have h9:=Nat.le_trans ev az.n
        have g3:=bO.up az D
        have a6:=cq.full bL br
        have a0:=g8.sub bL
        have a3:=a0.get _ _ ar
        have bV:=a0.get _ _ bv
        have bC:=a0.get _ _ a4
        have aB:=fZ hO D a9 bU
        have aC:=fZ cf D a9 dW
        have aD:=fZ ch D a9 dZ
        have aF:=fZ ck D a9 e0
        have bA:=cv.le a0
        have aY:=av.le a0
        have bd:=a5.le a0
        have eA:=en.le a0
        have bP:A.n<=(A162.hide [some bo,blk dO]).n:=h9
        generalize hM168:(A162.hide [some bo,blk dO])=M168 at a6 a0 a3 bV bC aB aC aD aF bA aY bd eA bP
        refine am.rangeOwn (M:=M168) bo (d7 (aM g rs) i j).length (fun k=>[QK ((d7 (aM g rs) i j).getD k .zero)]) (fun k B=>J ((sI rs.length (aM g rs) i j).length + k) B/\cq bo M168 B) (fun k b6=>[(6,.pointer (some ⟨b6,0,none⟩)),(1,.pointer (some ⟨bs,0,none⟩)),(2,.pointer (some ⟨b4,0,none⟩)),(4,.pointer (some ⟨eV,0,none⟩)),(5,.pointer (some ⟨ey,0,none⟩)),(20,.pointer (some ⟨bs,2,none⟩))]) (fun k=>.row true [num (((d7 (aM g rs) i j).getD k .zero).i),num (((d7 (aM g rs) i j).getD k .zero).j),bf (((d7 (aM g rs) i j).getD k .zero).word),bf (((d7 (aM g rs) i j).getD k .zero).u),bf (((d7 (aM g rs) i j).getD k .zero).v)] 5) Z Tryz.call192 (fun _=>rfl) U (br _ _ bL) a6 ?_ ?_ ?_ ?_ ?_ ?_ ?_
        · rintro k B B2 ⟨i1,i2⟩ dv e4 hk
          obtain ⟨v,cc,gq,_⟩:=hv _ _ i1
          exact ⟨hclo _ _ _ i1 dv e4 (fun b o hb h=>hk b o (hb.imp (fun q=>Nat.lt_of_lt_of_le q (Nat.le_trans bP a6.le.n)) id) h),⟨⟨Nat.le_trans i2.le.n e4,fun b o h=>hk b o (.inl (Nat.lt_of_lt_of_le (i2.wf b o h) a6.le.n)) (i2.le.get _ _ h)⟩,i2.wf,fun b hb=>i2.ow b (hb.same (by rw [gq];exact hk bo _ (.inr (.inl Z)) gq))⟩⟩
        · exact fun k B i1=>hv _ _ i1.1
        · exact ⟨g5,a6⟩
        · intro fL J2 B M4 hnB hleB wfB ap hJI iH aT hyd
          obtain ⟨v,cc,gq,_⟩:=hv _ _ (hJI 0 B aT).1
          have s3:=(hJI 0 B aT).2.sub gq
          exact (wh bo fL J2 i j (aM g rs) dm _ B eX eY eZ _ _ _ _ _ _ (cq.full gq wfB) aT (s3.get _ _ aC) (s3.get _ _ aD) (s3.get _ _ aF) (bd.le s3) O O hne (fun k C M2=>hyd k C M2)).mono (fun v C h=>⟨h.1,h.2.1,h.2.2.mono (ap.sub gq) ap.wf⟩)
        · intro F k B hF_ hk_
          refine d6.wf fun wfB_=>?_
          have hF:=hF_
          refine d6.region hF (by repeat' with_reducible exact iJ) Y<|.l Z (fun _ _ h0 _=>cl wfB_ zB rfl fun A171 hH bp=>?_)
          have eS:=aQ wfB_ (Nat.le_trans (AH.le.refl B).n bp.lo)
          have eT:=Nat.le_trans (AH.le.refl B).n bp.lo
          have ho:=(AH.le.refl B).trans bp.le
          refine h0 _ _<|.l Z (fun _ _ h1 _=>aX (cs:=[num (((d7 (aM g rs) i j).getD k .zero).i),num (((d7 (aM g rs) i j).getD k .zero).j),bf (((d7 (aM g rs) i j).getD k .zero).word),bf (((d7 (aM g rs) i j).getD k .zero).u),bf (((d7 (aM g rs) i j).getD k .zero).v)]) (c':=[num (((d7 (aM g rs) i j).getD k .zero).i),num (((d7 (aM g rs) i j).getD k .zero).j),bf (((d7 (aM g rs) i j).getD k .zero).word),bf (((d7 (aM g rs) i j).getD k .zero).u),bf (((d7 (aM g rs) i j).getD k .zero).v)]) bp.wf rfl rfl rfl rfl jE bp.get (Nat.le_of_ble_eq_true rfl) rfl rfl fun A175 bS=>?_)
          have hq:=an ho wfB_ eS bS.n bS.keep
          refine h1 _ _<|.nil ?_
          exact ⟨hH,eT,Gr Z Z Z Z Z Z,Z,hq,bS.wf,bS.get⟩
        · rintro F k B b6 M4 hF hk_ ⟨i1,i2⟩ wfB hnB ap fl g6 cP f6
          obtain ⟨vY,cY,gY,lY⟩:=hv _ _ i1
          have l3:A.n<=b6:=Nat.le_trans (Nat.le_trans bP a6.le.n) fl
          have fM:bo ≠ b6:=fun q=>cP (.inl q.symm)
          have la:blk vY ≠ some b6:=fun q=>cP (.inr ⟨_,_,gY,q⟩)
          have s3:=i2.sub gY
          have e1:M168.get b6=none:=by cases q:M168.get b6 with | none=>rfl | some o=>exact absurd (a6.wf _ _ q) (by have:=a6.le.n;omega)
          have s6:=cd (bs:=[some b6]) s3 (um e1 o4)
          have jX:=cx B [some b6]
          have m6:((B.hide [some bo,blk vY]).hide [some b6]).le (B.hide [some b6]):=xm (cx _ _)
          have cS:((B.hide [some bo,blk vY]).hide [some b6]).wf:=cg (cg wfB)
          have b5:((B.hide [some bo,blk vY]).hide [some b6]).get b6=none:=cn (by simp)
          have wfX:(B.hide [some b6]).wf:=cg wfB
          have e7:(B.hide [some b6]).get b6=none:=cn (by simp)
          generalize hM6:(B.hide [some bo,blk vY]).hide [some b6]=M6 at s6 m6 cS b5
          have kT:=eA.le s6
          refine d6.block<|.seq fun K178 hQ=>.drawn [0,1,3,4,2,6,5,7,8,9] hF (by repeat' first | with_reducible exact iJ | with_reducible apply pr | with_reducible apply kZ) Y mixed Y Y Z<|.q Z Z Z (aq fc eF Z Z ((m6.trans jX).get _ _ (s6.get _ _ a3)) Z)<|.q Z Z Z (ak eR Z Z ((m6.trans jX).get _ _ (s6.get _ _ bC)) Z) ?_
          have gs:=cR (off:=0) ((m6.trans jX).get _ _ (s6.get _ _ a3)) (show _=some (num (g)) from rfl)
          have gA:=cR (off:=1) ((m6.trans jX).get _ _ (s6.get _ _ a3)) (show _=some (u) from rfl)
          have gC:=cR (off:=2) ((m6.trans jX).get _ _ (s6.get _ _ a3)) (show _=some (rv) from rfl)
          refine bj.q Z Z Z (aq fc eF Z Z ((m6.trans jX).get _ _ (s6.get _ _ a3)) Z) ?_
          have gD:=cR (off:=0) ((m6.trans jX).get _ _ (s6.get _ _ aB)) (show _=some (num ((j:Nat):Int)) from rfl)
          refine bj.q Z Z Z (ak eR Z Z ((m6.trans jX).get _ _ (s6.get _ _ aB)) Z)<|.l Z Z Z (fun _ _ h3 _=>au Z (uM ((g)) u l rv rs i B O hn ((bA.le s6).le (m6.trans jX)) ((aY.le s6).le (m6.trans jX))) ?_)
          rintro mV A190 ⟨rfl,ab,lB⟩
          have hR:=ab.get _ _ g6
          have gE:=cr ab gs
          have gF:=cr ab gA
          have gG:=cr ab gC
          have gL:=cr ab gD
          have dL:=(m6.trans jX).trans ab
          have he:=jX.trans ab
          refine h3 _ _ (aW.list (L:=[(⟨ey,0,none⟩,num ((j:Nat):Int)),(⟨bs,0,none⟩,num (g)),(⟨bs,1,none⟩,u),(⟨bs,2,none⟩,rv)]) Y (bw gL (bw gE (bw gF (bw gG cI)))))<|.q Z Z Z (aj L5 cW U Z)<|.l Z Z Z (fun _ _ h4 _=>au Z (uM ((g)) u l rv rs j A190 O hn ((bA.le s6).le dL) ((aY.le s6).le dL)) ?_)
          rintro mX A205 ⟨rfl,cH,fS⟩
          have hS:=cH.get _ _ hR
          have hs:=dL.trans cH
          have hf:=he.trans cH
          refine h4 _ _ (aW.none Y)<|.l Z Z Z (fun _ _ h5 _=>aX (cs:=[num (nm rs.length i)]) (c':=[num (nm rs.length i),num (((d7 (aM g rs) i j).getD k .zero).j),bf (((d7 (aM g rs) i j).getD k .zero).word),bf (((d7 (aM g rs) i j).getD k .zero).u),bf (((d7 (aM g rs) i j).getD k .zero).v)]) fS rfl rfl rfl rfl cW hS (Nat.le_of_ble_eq_true rfl) rfl rfl fun A215 aP=>?_)
          have hh:=an hf wfX e7 aP.n aP.keep
          have ht:=an hs cS b5 aP.n aP.keep
          refine h5 _ _ (aW.none Y)<|.q Z Z Z (aj L8 cW U Z)<|.l Z Z Z (fun _ _ h6 _=>aX (cs:=[num (nm rs.length j)]) (c':=[num (nm rs.length i),num (nm rs.length j),bf (((d7 (aM g rs) i j).getD k .zero).word),bf (((d7 (aM g rs) i j).getD k .zero).u),bf (((d7 (aM g rs) i j).getD k .zero).v)]) aP.wf rfl rfl rfl rfl cW aP.get (Nat.le_of_ble_eq_true rfl) rfl rfl fun A220 ad=>?_)
          have bm:=an hh wfX e7 ad.n ad.keep
          have hx:=an ht cS b5 ad.n ad.keep
          refine h6 _ _ (aW.none Y)<|.done<|hQ _ _<|.seq fun K224 hT=>?_
          have g7:=hclo _ _ _ i1 ad.wf bm.n (fun b o hb h=>bm.get b o (bK h (qL (fun q=>by subst q;rcases hb with hb | hb;omega;exact cP hb) mF)))
          have dG:=bm.get _ _ (bK gY (qL fM mF))
          have fO:=KR (n:=rs.length) (L:=(aM g rs)) (i:=i) (j:=j) (k:=k) O O O hk_
          have eG:=hy _ _ _ fO.1 ad.wf g7 (cq.full dG ad.wf)
          rw [show bh g rs=jC rs.length (aM g rs) from rfl,fO.2] at eG
          refine d6.regionJ ?_
          refine jG.q hF Z Z (ak Tk Z Z (hx.get _ _ (s6.get _ _ bV)) Z) ?_
          refine jG.q hF Z Z (aq uk jE Z Z ad.get Z) ?_
          refine jG.y hF rfl rfl rfl (eG) fun n1 A228 h8=>?_
          obtain ⟨rfl,hJz,wfz,hPz⟩:=h8
          skip
          refine jG.q hF Z Z (er Z) ?_
          refine jG.nil ?_
          refine hT _ _<|.cond_false Z<|.skip ?_
          exact ⟨⟨hJz,(hPz.mono (cd ((cd (bs:=[some b6]) i2.le (um e1 o4)).trans bm) (sg i2 gY dG)) i2.wf)⟩,wfz,(hPz.mono (cd ((cd (bs:=[some b6]) ap.le (um f6 o4)).trans bm) (sg ap gY dG)) ap.wf)⟩
        · rintro B230 D230 ⟨i1,i2⟩ mb fo l6 g1 fr b9
          have fd:=jp.push g3 bL (by rw [hM168];exact b9) br (Nat.le_trans bP a6.le.n) fo g1 fr
          have e3:J (sI rs.length (aM g rs) i (j + 1)).length B230:=by rw [KS O];exact i1
          obtain ⟨m2,lE,lK,lW⟩:=hv _ _ e3
          have lP:=Nat.le_trans dI (a0.trans b9.le).n
          refine f7 _ _<|.region<|.q Z (bq (b:=1) Z Z O)<|.q Z (ae Z)<|.nil ?_
          exact ⟨⟨j + 1,D230 :: Ds⟩,yC Z Z Z Z Z Z Z Z,Z,⟨O,(a0.trans b9.le),fd,⟨e3,(b9.mono a0 aS.wf)⟩⟩,O1⟩
    ·
      refine am.exit<|kp _ _<|.region<|.q Z (bq (b:=1) Z Z O)<|.q Z (ae Z)<|.nil ?_
      exact ⟨⟨i + 1,Ds⟩,qk Z Z Z Z Z,Z,⟨O,(a7.trans cC),bO,⟨(by rw [C8,show (aM g rs).length=j by omega];exact hJ_j),(hP_j.mono a7 bu.wf)⟩⟩,O1⟩
  ·
    refine am.exit ?_
    (repeat first | with_reducible refine bz ?_ | with_reducible refine bn ?_);(repeat first | with_reducible refine e8 ?_ | with_reducible refine ej ?_ | with_reducible refine dQ U ?_ | with_reducible refine dR ?_ | with_reducible refine da ?_);obtain ⟨vZ,cZ,gZ,lZ⟩:=hv _ _ hJ_i;refine ⟨Ds,rfl,bM.nd,bM.get,[],fun A2 dv l2 kV=>?_⟩;obtain ⟨z1,z2⟩:=bM.leave hP.le wf (hP_i.mono aR hP.wf) gZ l2 kV;exact ⟨Z,_,Z,(by rw [show bh g rs=sI rs.length (aM g rs) i 0 from by rw [show i=(aM g rs).length by omega,KQ];rfl];exact hclo _ _ _ hJ_i dv O z2),dv,z1⟩

theorem SG (g:Int) (u:Value) (l:List (List UInt8)) (rv:Value) (rs:List be) (A:AH) (hu:bI A 1 u (ei l)) (hr:bI A 3 rv (db rs)):bE Tryz.prog 125 #[.agg #[num (g),u,rv]] A (fun v A1=>∃ b,v=.func (.func 164) #[] #[.pointer (some ⟨b,0,none⟩)]/\A.le A1/\A1.wf/\A1.get b=some (.row true [num g,u,rv] 3)/\A.get b=none):=by
 refine gR Tryz.call125 Tryz.func125 Z Tryz.results125 Tryz.ntmps125 Z (fun wf=>?_);have V:=AH.le.refl A;refine am.seq fun _ h2=>.region<|.l Z (fun _ _ X _=>d8 wf rfl rfl fun A5 b4 h=>?_);have D:=aQ wf (Nat.le_trans V.n h.lo);have a0:=V.trans h.le;refine X _ _<|.q Z (ah Z)<|.nil<|h2 _ _<|.seq fun _ h9=>.region<|.q Z (mc Z Z)<|.q Z (ah Z)<|.nil<|h9 _ _ ?_;refine am.ret ?_;repeat first | with_reducible refine bz ?_ | with_reducible refine bn ?_
 exact aH Z (⟨b4,Z,a0,h.wf,h.get,D⟩)

theorem O7 (g:Int) (u:Value) (l:List (List UInt8)) (rv:Value) (rs:List be) (A:AH) (hg:1<=g/\g<=8) (hn:rs.length<=1000000) (hw:∀ r ∈ rs,0 < r.left.length/\r.left.length<=1000/\r.right.length<=1000) (hmx:(bh g rs).length<=50000) (hL:gy A) (hu:bI A 1 u (ei l)) (hr:bI A 3 rv (db rs)) (hp:Proofs A rs):bE Tryz.prog 88 #[.agg #[num (g),u,rv]] A (fun v A1=>∃ w,v=.tuple #[w,.bool true]/\A.le A1/\A1.wf/\Fresh A A1 w 5 (DA (bh g rs))):=by
  refine enterM (e:=[(0,.agg #[num (g),u,rv])]) (args:=[.agg #[num (g),u,rv]]) Tryz.call88 Tryz.func88 Z Tryz.results88 Tryz.ntmps88 Z Z Z (fun wf=>?_)
  have c4:=AH.le.refl A
  have df_:Vd A A []:=⟨List.Pairwise.nil,fun _ h=>by cases h⟩
  refine am.seq fun K1 h2=>.region<|.l Z (fun _ _ e2 _=>d8 wf rfl rfl fun A5 b4 aV=>?_)
  have ex:=Nat.le_trans c4.n aV.lo
  have bc:=c4.trans aV.le
  refine e2 _ _<|.l Z (fun _ _ e3 _=>cl aV.wf Xm rfl fun A10 b9 a3=>?_)
  have bD:=aQ wf (Nat.le_trans bc.n a3.lo)
  have ey:=Nat.le_trans bc.n a3.lo
  have dD:=a3.le.get _ _ aV.get
  have aP:=bc.trans a3.le
  refine e3 _ _<|.l Z (fun _ _ cK _=>cl a3.wf z4 rfl fun A16 aY X=>?_)
  have ac:=ne_new a3.wf a3.get X.lo
  have b2:=aQ wf (Nat.le_trans aP.n X.lo)
  have e6:=Nat.le_trans aP.n X.lo
  have bS:=X.le.get _ _ dD
  have bT:=X.le.get _ _ a3.get
  have aR:=aP.trans X.le
  refine cK _ _<|.nil<|h2 _ _<|.seq fun K21 dG=>.region<|.l Z (fun _ _ cP _=>cl X.wf Xm rfl fun A25 D a1=>?_)
  have aG:=ne_new X.wf bS a1.lo
  have aI:=ne_new X.wf bT a1.lo
  have aB:=ne_new X.wf X.get a1.lo
  have b3:=aQ wf (Nat.le_trans aR.n a1.lo)
  have e7:=Nat.le_trans aR.n a1.lo
  have b7:=a1.le.get _ _ bS
  have bU:=a1.le.get _ _ bT
  have bV:=a1.le.get _ _ X.get
  have aS:=aR.trans a1.le
  refine cP _ _<|.nil<|dG _ _<|.seq fun K31 dI=>.seq fun K33 dJ=>.region<|.q Z (aq fc eF Z Z b7 Z)<|.l Z (fun _ _ cS _=>au Z (SG ((g)) u l rv rs A25 (hu.le aS) (hr.le aS)) ?_)
  rintro eN A37 ⟨a4,rfl,a7,ai,az,a2⟩
  have dK:=a7.get _ _ b7
  have dL:=a7.get _ _ bU
  have dM:=a7.get _ _ bV
  have aD:=a7.get _ _ a1.get
  have bb:=aS.trans a7
  have hrow:=az
  have hno:=a2
  have bA:b4 ≠ a4:=fun z=>by have q0:=b7;rw [z,a2] at q0;cases q0
  have bB:b9 ≠ a4:=fun z=>by have q0:=bU;rw [z,a2] at q0;cases q0
  have bp:aY ≠ a4:=fun z=>by have q0:=bV;rw [z,a2] at q0;cases q0
  have ay:D ≠ a4:=fun z=>by have q0:=a1.get;rw [z,a2] at q0;cases q0
  refine cS _ _<|.nil<|dJ _ _<|.block ?_
  have V:=cq.full aD ai
  have hLM:=cd (bs:=[some D,blk (.slice none 0 0)]) bb (fun b hb=>by simp only [List.mem_cons,List.not_mem_nil,or_false,Option.some.injEq,blk] at hb;rcases hb with rfl | hb;exact b3;cases hb)
  have bP:=Fresh.nil (A37.hide [some D,blk (.slice none 0 0)]) A37 5
  have ad:=bK (bs:=[some D,blk (.slice none 0 0)]) dK (qL (aG) (n0 (fun q=>by cases q) mF))
  have ag:=bK (bs:=[some D,blk (.slice none 0 0)]) dL (qL (aI) (n0 (fun q=>by cases q) mF))
  have a6:=bK (bs:=[some D,blk (.slice none 0 0)]) dM (qL (aB) (n0 (fun q=>by cases q) mF))
  have a0:=bK (bs:=[some D,blk (.slice none 0 0)]) az (qL (ay.symm) (n0 (fun q=>by cases q) mF))
  generalize hM0:(A37.hide [some D,blk (.slice none 0 0)])=M at V hLM bP ad ag a6 a0
  have hvI:∀ (k:Nat) (B:AH),(M.le B/\∃ v,B.get D=some (.row true [v] 1)/\Fresh M B v 5 (DA ((bh g rs).take k))/\blk v ≠ some D)->∃ v cap,B.get D=some (.row true [v] cap)/\∀ b,blk v=some b->∃ o,B.get b=some o:=fun k B ⟨_,v,g1,f1,_⟩=>⟨v,1,g1,fun b hb=>f1.own.blkget hb⟩
  refine am.rangeOwn (M:=M) D (bh g rs).length (fun k=>[QK ((bh g rs).getD k .zero)]) (fun k B=>(M.le B/\∃ v,B.get D=some (.row true [v] 1)/\Fresh M B v 5 (DA ((bh g rs).take k))/\blk v ≠ some D)) (fun k b6=>[(5,.pointer (some ⟨b6,0,none⟩)),(1,.pointer (some ⟨b4,0,none⟩)),(2,.pointer (some ⟨b9,0,none⟩)),(3,.pointer (some ⟨aY,0,none⟩)),(4,.pointer (some ⟨D,0,none⟩))]) (fun k=>.row true [num (((bh g rs).getD k .zero).i),num (((bh g rs).getD k .zero).j),bf (((bh g rs).getD k .zero).word),bf (((bh g rs).getD k .zero).u),bf (((bh g rs).getD k .zero).v)] 5) Z Tryz.call164 (fun _=>rfl) U (ai _ _ aD) V ?_ hvI ?_ ?_ ?_ ?_ ?_
  · rintro k B B2 ⟨i1,v,g1,f1,n1⟩ ck e5 hk
    exact ⟨⟨Nat.le_trans i1.n e5,fun b o h=>hk b o (.inl (Nat.lt_of_lt_of_le (V.wf b o h) V.le.n)) (i1.get _ _ h)⟩,v,hk _ _ (.inr (.inl rfl)) g1,f1.owk (fun b o hb h=>hk b o (.inr (.inr ⟨v,1,g1,hb⟩)) h),n1⟩
  · exact ⟨V.le,_,aD,bP,fun q=>by cases q⟩
  · intro ea J2 B M4 hnB hleB wfB aF hJI cH aA hyd
    obtain ⟨v,cc,gq,_⟩:=hvI _ _ (hJI 0 B aA)
    have s3:M.le (B.hide [some D,blk v]):=cd (hJI 0 B aA).1 (fun b hb=>by obtain ⟨_,w,g1,f1,_⟩:=hJI 0 B aA;rw [g1] at gq;cases gq;simp only [List.mem_cons,List.not_mem_nil,or_false,Option.some.injEq] at hb;rcases hb with rfl | hb;exact V.ow _ (.inl Z);exact f1.lo b hb.symm)
    exact (Pb D ea J2 g u l rv rs _ B a4 _ _ (cq.full gq wfB) aA (s3.get _ _ a0) ((hL.le hLM).le s3) ((hu.le hLM).le s3) ((hr.le hLM).le s3) ((hp.le hLM).le s3) hg hn hw (fun i C C2 j1 j2 j3 j4=>cH i C C2 j1 j2 j3 j4) (fun i C j1=>hvI i C (hJI i C j1)) (wfB _ _ gq) (fun k C M2=>hyd k C M2)).mono (fun v C h=>⟨h.1,h.2.1,h.2.2.mono (aF.sub gq) aF.wf⟩)
  · intro F k B hF_ hk_
    refine d6.wf fun wfB_=>?_
    have hF:=hF_
    refine d6.region hF (by repeat' with_reducible exact iJ) Y<|.l Z (fun _ _ cV _=>cl wfB_ zB rfl fun A46 dz ar=>?_)
    have b5:=aQ wfB_ (Nat.le_trans (AH.le.refl B).n ar.lo)
    have bl:=Nat.le_trans (AH.le.refl B).n ar.lo
    have di:=(AH.le.refl B).trans ar.le
    refine cV _ _<|.l Z (fun _ _ cX _=>aX (cs:=[num (((bh g rs).getD k .zero).i),num (((bh g rs).getD k .zero).j),bf (((bh g rs).getD k .zero).word),bf (((bh g rs).getD k .zero).u),bf (((bh g rs).getD k .zero).v)]) (c':=[num (((bh g rs).getD k .zero).i),num (((bh g rs).getD k .zero).j),bf (((bh g rs).getD k .zero).word),bf (((bh g rs).getD k .zero).u),bf (((bh g rs).getD k .zero).v)]) ar.wf rfl rfl rfl rfl jE ar.get (Nat.le_of_ble_eq_true rfl) rfl rfl fun A50 aC=>?_)
    have dj:=an di wfB_ b5 aC.n aC.keep
    refine cX _ _<|.nil ?_
    exact ⟨dz,bl,qk Z Z Z Z Z,Z,dj,aC.wf,aC.get⟩
  · rintro F k B b6 M4 hF hk_ ⟨i1,v,g1,f1,n1⟩ wfB hnB aF eL g6 cf eC
    have s3:M.le (B.hide [some D,blk v]):=cd i1 (fun b hb=>by simp only [List.mem_cons,List.not_mem_nil,or_false,Option.some.injEq] at hb;rcases hb with rfl | hb;exact V.ow _ (.inl Z);exact f1.lo b hb.symm)
    have s4:=aF.sub g1
    have leX:=cx B [some D,blk v]
    have wfX:(B.hide [some D,blk v]).wf:=cg wfB
    have noX:(B.hide [some D,blk v]).get D=none:=cn (by simp)
    have fX:Fresh (B.hide [some D,blk v]) B v 5 (DA ((bh g rs).take k)):=f1.hide (by simp)
    have bR:(B.hide [some D,blk v]).get b6=some (.row true [num (((bh g rs).getD k .zero).i),num (((bh g rs).getD k .zero).j),bf (((bh g rs).getD k .zero).word),bf (((bh g rs).getD k .zero).u),bf (((bh g rs).getD k .zero).v)] 5):=bK g6 (qL (fun q=>cf (.inl q)) (n0 (fun q=>cf (.inr ⟨_,_,g1,q⟩)) mF))
    generalize hMX:B.hide [some D,blk v]=MX at s3 s4 leX wfX noX fX bR
    have htk:((bh g rs).take k).length=k:=by rw [List.length_take];omega
    refine d6.block<|.seq fun K53 dO=>.seq fun K55 dS=>.region hF (by repeat' first | with_reducible exact iJ | with_reducible apply pr | with_reducible apply kZ) Y<|.q Z (ak Ql Z Z g1 Z)<|.q Z (bF (n:=((bh g rs).take k).length) Va Z fX.slc O (Gh _))<|.q Z (iY (b:=50000) Z Z)<|.nil<|dS _ _<|.if rfl (fun ec=>?_) (fun ec=>?_)
    ·
      refine d6.seq fun K58 eG=>?_
      exact absurd ‹_› O
    ·
      refine d6.skip<|dO _ _<|.region hF (by repeat' first | with_reducible exact iJ | with_reducible apply kZ) Y<|.q Z (ak Ql Z Z g1 Z)<|.q Z (aq uk jE Z Z (leX.get _ _ bR) Z)<|.l Z (fun _ _ cZ _=>aO (c:=[num (((bh g rs).getD k .zero).i),num (((bh g rs).getD k .zero).j),bf (((bh g rs).getD k .zero).word),bf (((bh g rs).getD k .zero).u),bf (((bh g rs).getD k .zero).v)]) wfB rfl (ax Va jE zB rfl U U rfl) fun A62 eA a8=>?_)
      have e9:=Nat.le_trans leX.n a8.lo
      have bY:=a8.le.get _ _ g1
      have b0:=fX.le a8.le
      have dk:=leX.trans a8.le
      refine cZ _ _<|.l Z (fun _ _ d0 _=>cN (ys:=[num (((bh g rs).getD k .zero).i),num (((bh g rs).getD k .zero).j),bf (((bh g rs).getD k .zero).word),bf (((bh g rs).getD k .zero).u),bf (((bh g rs).getD k .zero).v)]) rfl rfl Va jE Vn zB rfl U Va (fun _ h=>by cases h) b0.own (bQ (n:=1) a8.get Z) rfl rfl (by show (_ + _) * 64<=_;simp only [nF,List.length_cons,List.length_nil];(try simp only [List.length_append,List.length_cons,List.length_nil]);omega) (by simp only [nF,List.length_cons,List.length_nil];(try simp only [List.length_append,List.length_cons,List.length_nil]);omega) fun A69 eQ ap=>?_)
      rw [show ([num (((bh g rs).getD k .zero).i),num (((bh g rs).getD k .zero).j),bf (((bh g rs).getD k .zero).word),bf (((bh g rs).getD k .zero).u),bf (((bh g rs).getD k .zero).v)]:List Value)=DA [⟨((bh g rs).getD k .zero).i,((bh g rs).getD k .zero).j,((bh g rs).getD k .zero).word,((bh g rs).getD k .zero).u,((bh g rs).getD k .zero).v⟩] from rfl,DB] at ap
      obtain ⟨b1,dl⟩:=Fresh.grow b0 dk wfX ap
      have dV:=ap.keep n1 bY
      have bm:=ap.ne n1 a8.wf bY
      refine d0 _ _ ?_
      obtain ⟨ch,c3,bO,eg,_⟩:=b1.own.slice
      subst eg
      refine Ops.l Z (fun _ _ d1 _=>aX (cs:=[.slice ch c3 bO]) (c':=[.slice ch c3 bO]) ap.wf rfl rfl rfl rfl VU dV (Nat.le_of_ble_eq_true rfl) rfl rfl fun A80 a9=>?_)
      have cv:=b1.keep a9.keep bm
      have bd:=an dl wfX noX a9.n a9.keep
      refine d1 _ _<|.nil ?_
      have fe:=cw cv (congrArg DA (fJ (z:=CP.zero) hk_))
      exact ⟨⟨s3.trans bd,_,a9.get,fe.base s3,bm⟩,a9.wf,cq.mono ⟨bd,wfX,fun b hb=>by rcases hb.val a9.get with rfl | q;exact noX;exact fe.lo b q⟩ s4 aF.wf⟩
  · rintro B D0 ⟨i1,v,g1,f1,n1⟩ wfB hnD hnB gD hoD hPM
    have leB:=hLM.trans i1
    have frB:=f1.base hLM
    have hDp:jp D A B [D0]:=jp.push (A:=A) jp.nil aD (by rw [hM0];exact hPM) ai bb.n hnD gD hoD
    have ev:=i1.get _ _ ad
    have bL:=i1.get _ _ ag
    have b8:=i1.get _ _ a6
    have dd:=i1.get _ _ a0
    have ez:=f1.ne V.wf ad
    have bM:=f1.ne V.wf ag
    have br:=f1.ne V.wf a6
    have dw:=f1.ne V.wf a0
    have dv:D0 ≠ b4:=by have:=V.wf _ _ ad;have:=V.le.n;omega
    have av:D0 ≠ b9:=by have:=V.wf _ _ ag;have:=V.le.n;omega
    have ab:D0 ≠ aY:=by have:=V.wf _ _ a6;have:=V.le.n;omega
    have c7:D0 ≠ D:=by have:=ai _ _ aD;omega
    have bv:D0 ≠ a4:=by have:=V.wf _ _ a0;have:=V.le.n;omega
    have nvD:blk v ≠ some D0:=fun q=>hoD (.inr ⟨_,_,g1,q⟩)
    have hlA:A.n<=D0:=Nat.le_trans hLM.n (Nat.le_trans V.le.n hnD)
    refine dI _ _<|.seq fun K84 dW=>.region<|.q Z (ak Ql Z Z g1 Z) ?_
    obtain ⟨bu,ba,aZ,en,_⟩:=frB.own.slice
    subst en
    refine Ops.l Z (fun _ _ d2 _=>aX (cs:=[.slice bu ba aZ]) (c':=[.slice bu ba aZ]) wfB rfl rfl rfl rfl VU bL (Nat.le_of_ble_eq_true rfl) rfl rfl fun A88 a5=>?_)
    have dZ:=a5.keep _ _ ac.symm b8
    have e0:=a5.keep _ _ av gD
    have cA:=frB.keep a5.keep bM
    have dm:=an leB wf bD a5.n a5.keep
    refine d2 _ _<|.l Z (fun _ _ d3 _=>aX (cs:=[.bool (true)]) (c':=[.bool (true)]) a5.wf rfl rfl rfl rfl ms dZ (Nat.le_of_ble_eq_true rfl) rfl rfl fun A98 aa=>?_)
    have cC:=aa.keep _ _ ac a5.get
    have cF:=aa.keep _ _ ab e0
    have bC:=cA.keep aa.keep br
    have aT:=an dm wf b2 aa.n aa.keep
    refine d3 _ _<|.nil<|dW _ _<|.ret ?_
    (repeat first | with_reducible refine bz ?_ | with_reducible refine bn ?_);(repeat first | with_reducible refine e8 ?_ | with_reducible refine ej ?_ | with_reducible refine dQ U ?_ | with_reducible refine dR ?_ | with_reducible refine da ?_);refine ⟨[D0],rfl,(by simp),(fun E hE=>by rw [List.mem_singleton] at hE;subst hE;exact cF),[.slice bu ba aZ,.bool true],fun A2 ck e4 e1=>?_⟩;have hkD:∀ b o,b ≠ D0->A98.get b=some o->A2.get b=some o:=fun b o hb h=>e1 b o (by simpa using hb) h;exact ⟨gr.cell Z (po Ql (hkD _ _ av.symm cC) Z) (gr.cell Z (po uX (hkD _ _ ab.symm aa.get) Z) gr.nil),_,Z,_,Z,⟨by rw [e4];exact aT.n,fun b o h=>hkD b o (by have:=wf _ _ h;omega) (aT.get _ _ h)⟩,ck,(cw bC (congrArg DA (List.take_length))).owk (fun b o hb h=>hkD b o (fun z=>nvD (by rw [hb,z])) h)⟩
end Go.Proofs.YtjppkekmddjcfaaGreatDoor

namespace Go.Proofs.YtjppkekmddjcfaaGreatDoor
open Go Go.RowKit V
set_option maxRecDepth 100000
theorem Ua:d5 Tryz.prog 47 3=some (9,3):=by kernel_rfl
theorem Uc:d5 Tryz.prog 47 4=some (9,4):=by kernel_rfl

theorem SA (g:Int) (u:Value) (l:List (List UInt8)) (rv:Value) (rs:List be) (A:AH) (hs:bW g l rs=true) (hmx:(bh g rs).length<=50000) (hL:gy A) (hu:bI A 1 u (ei l)) (hr:bI A 3 rv (db rs)) (hp:Proofs A rs):bE Tryz.prog 69 #[.agg #[num (g),u,rv]] A (fun v A1=>v=.tuple #[.bool (fP rs (bh g rs)).1,QK (fP rs (bh g rs)).2.1,num (((fP rs (bh g rs)).2.2:Nat):Int)]/\A.le A1/\A1.wf):=by
 refine gR Tryz.call69 Tryz.func69 Z Tryz.results69 Tryz.ntmps69 Z (fun wf=>?_);have gN:=AH.le.refl A;refine am.seq fun _ h2=>.region<|.l Z (fun _ _ gG _=>d8 wf rfl rfl fun A5 b4 cK=>?_);have eN:=gN.trans cK.le;refine gG _ _<|.q Z (ah Z)<|.l Z (fun _ _ gL _=>cl cK.wf zB rfl fun A10 b9 aA=>?_);have aC:=aQ wf (Nat.le_trans eN.n aA.lo);have ez:=aA.le.get _ _ cK.get;have az:=eN.trans aA.le;refine gL _ _<|.q Z (ah Z)<|.nil<|h2 _ _<|.seq fun _ g8=>.region<|.q Z (aq fc eF Z Z ez Z)<|.l Z (fun _ _ ft _=>au Z (O7 ((g)) u l rv rs A10 (pX hs) (sx hs) (Px hs) hmx (hL.le az) (hu.le az) (hr.le az) (hp.le az)) ?_);rintro ha A18 ⟨bc,rfl,b6,gS,bu⟩;have eA:=b6.get _ _ ez;have eC:=b6.get _ _ aA.get;have aS:=az.trans b6;have bS:=bu.base az;have fS:=bu.ne aA.wf aA.get;refine ft _ _<|.q Z (ae Z)<|.q Z (bg Z Z)<|.q Z (bg Z Z)<|.q Z (ah Z)<|.q Z (ah Z)<|.nil<|g8 _ _<|.seq fun _ g9=>.seq fun _ gc=>?_;refine am.region<|.q Z (ae Z)<|.q Z (er Z)<|.nil<|gc _ _<|.cond_false Z<|.skip<|g9 _ _<|.seq fun _ ge=>.region ?_;refine Ops.q Z (aq fc eF Z Z eA Z)<|.l Z (fun _ _ fv _=>au Z (pO ((g)) u l rv rs A18 (sx hs) (wo hs) (hu.le aS) (hr.le aS) (hp.le aS)) ?_);rintro hb A34 ⟨h,b8,rfl,b7,ab,b3,aa,aR⟩;have gf:=b7.get _ _ eC;have bT:=bS.le b7;have fO:=aS.trans b7;have hrow:=b3;have hno:=aa;have hix:=aR;have e9:b4 ≠ h:=fun z=>by have q0:=eA;rw [z,aa] at q0;cases q0
 have ar:b9 ≠ h:=fun z=>by have q0:=eC;rw [z,aa] at q0;cases q0
 have b2:=sc aS aa;have fT:=zP bS.own aa;refine fv _ _<|.q Z (ah Z)<|.nil<|ge _ _<|.seq fun _ gg=>.seq fun _ gl=>.region<|.q Z (ae Z)<|.q Z (bF (n:=(bh ((g)) rs).length) Va Z bT.slc O (Gh _))<|.q Z (ae Z) ?_;refine Ops.nil<|gl _ _<|.block<|.loop (X:=Nat × Value × Value × Value × Value × Value × Value) (fun ⟨i,y0,y5,y6,y7,y8,y9⟩=>[(3,.pointer (some ⟨b9,0,none⟩)),(7,.pointer (some ⟨h,0,none⟩)),(24,bc),(25,num (((bh ((g)) rs).length:Nat):Int)),(26,num ((i:Nat):Int))]) (fun ⟨i,y0,y5,y6,y7,y8,y9⟩ B=>(i<=(bh g rs).length/\fP rs ((bh g rs).drop i)=fP rs (bh g rs))/\A.le B/\Fresh A B bc 5 (DA (bh ((g)) rs))/\B.get h=some (.row true [y0,num ((g)),u,rv,.map (some b8),y5,y6,y7,y8,y9] 10)/\B.get b9=some (.row true [num ((0:Nat):Int),num ((0:Nat):Int),bf ([]),bf ([]),bf ([])] 5)/\V.blk bc ≠ some h/\V.blk bc ≠ some b9/\(A34.hide [some h]).le B) (fun ⟨i,y0,y5,y6,y7,y8,y9⟩=>(bh g rs).length - i) (⟨0,.slice none 0 0,.slice none 0 0,num ((0:Nat):Int),bf ([]),num ((0:Nat):Int),.slice none 0 0⟩) (qk Z Z Z Z Z) (⟨⟨Nat.zero_le _,Z⟩,fO,bT,b3,gf,fT,fS,(cx A34 [some h])⟩) ?_;rintro ⟨i,y0,y5,y6,y7,y8,y9⟩ B46 ⟨⟨hi,hsc⟩,bp,a9,aB,ay,a2,aY,bv⟩;refine am.wf fun aZ=>.seq fun _ gm=>.region<|.q Z (bX Z Z)<|.nil<|gm _ _<|.seq fun _ gp=>.if rfl (fun gP=>?_) (fun gP=>?_)
 ·refine am.skip<|gp _ _<|.seq fun _ gq=>.block<|.seq fun _ gs=>.region ?_;obtain ⟨h3,h6,h0,h9,gZ,h8,h7,g6,gM,g7,eQ,gY⟩:=bI.at (i:=i) a9.slc (by simp only [nF];omega) O;refine Ops.q Z (aE Va jE Z g6 Z gM)<|.q Z (aq uk jE Z Z g7 (eQ.trans (congrArg some (TH O))))<|.l Z (fun _ _ fD _=>cl aZ zB rfl fun A60 h4 a4=>?_);have a5:=ne_new aZ aB a4.lo;have bd:=ne_new aZ ay a4.lo;have fV:=a9.own.ne_new aZ a4.lo;have bV:=aQ wf (Nat.le_trans bp.n a4.lo);have c3:=aQ (cg ab) (Nat.le_trans bv.n a4.lo);have gA:=a4.le.get _ _ aB;have gC:=a4.le.get _ _ ay;have eS:=a9.le a4.le;have fQ:=bp.trans a4.le;have fM:=bv.trans a4.le;refine fD _ _<|.l Z (fun _ _ fE _=>aX (cs:=[num (((bh ((g)) rs).getD i .zero).i),num (((bh ((g)) rs).getD i .zero).j),bf (((bh ((g)) rs).getD i .zero).word),bf (((bh ((g)) rs).getD i .zero).u),bf (((bh ((g)) rs).getD i .zero).v)]) (c':=[num (((bh ((g)) rs).getD i .zero).i),num (((bh ((g)) rs).getD i .zero).j),bf (((bh ((g)) rs).getD i .zero).word),bf (((bh ((g)) rs).getD i .zero).u),bf (((bh ((g)) rs).getD i .zero).v)]) a4.wf rfl rfl rfl rfl jE a4.get (Nat.le_of_ble_eq_true rfl) rfl rfl fun A69 a6=>?_);have gD:=a6.keep _ _ a5 gA;have gE:=a6.keep _ _ bd gC;have eT:=eS.keep a6.keep fV;have fN:=an fM (cg ab) c3 a6.n a6.keep;have fR:=an fQ wf bV a6.n a6.keep;refine fE _ _<|.nil<|gs _ _<|.seq fun _ gF=>.region<|.q Z (ae Z)<|.q Z (aj Ua fp U Z)<|.q Z (ak fW Z Z a6.get Z) ?_;have aT:=cd (bs:=[some h]) fR (um b2 o4);have cv:=cd (bs:=[some h]) fN (um (cn (by simp)) o4);refine Ops.l Z (fun _ _ fI _=>au Z (uN (((bh ((g)) rs).getD i .zero).u) rs l h (((g))) u rv b8 y0 y5 y6 y7 y8 y9 (A69.hide [some h]) A69 (cx A69 [some h]) (cg a6.wf) gD (cn (by simp)) hs (hL.le aT) (hr.le aT) (hp.le aT) (aR.le cv)) ?_);rintro hc A80 ⟨gQ,ec,eg,en,ev,ex,ey,rfl,ap,av,ag,bD,cP⟩;have fq:=bK (bs:=[some h]) gE (qL ar mF);have eG:=ap.get _ _ fq;have fr:=bK (bs:=[some h]) a6.get (qL a5.symm mF);have eL:=ap.get _ _ fr;have bU:=eT.off (kf a2 ke) ap;have eV:=bD.base aT;have cA:=cv.trans ap;have cH:=aT.trans ap;refine fI _ _<|.q Z (ae Z)<|.q Z (bg Z Z)<|.q Z (bg Z Z)<|.l Z (fun _ _ fL _=>cl av C5 rfl fun A97 h5 a1=>?_);have ad:=ne_new av ag a1.lo;have bl:=ne_new av eG a1.lo;have ba:=ne_new av eL a1.lo;have fX:=bU.own.ne_new av a1.lo;have bY:=aQ wf (Nat.le_trans cH.n a1.lo);have c4:=aQ (cg ab) (Nat.le_trans cA.n a1.lo);have eX:=a1.le.get _ _ ag;have eY:=a1.le.get _ _ eG;have eZ:=a1.le.get _ _ eL;have dd:=bU.le a1.le;have di:=eV.le a1.le;have e1:=cH.trans a1.le;have dV:=cA.trans a1.le;refine fL _ _ ?_;obtain ⟨cS,cC,bP,g3,_⟩:=di.own.slice;subst g3;refine Ops.l Z (fun _ _ dG _=>aX (cs:=[bf ((fk (eI rs (((bh ((g)) rs).getD i .zero).u))).word),num (((fk (eI rs (((bh ((g)) rs).getD i .zero).u))).steps:Nat):Int),.slice cS cC bP]) (c':=[bf ((fk (eI rs (((bh ((g)) rs).getD i .zero).u))).word),num (((fk (eI rs (((bh ((g)) rs).getD i .zero).u))).steps:Nat):Int),.slice cS cC bP]) a1.wf rfl rfl rfl rfl ig a1.get (Nat.le_of_ble_eq_true rfl) rfl rfl fun A110 a3=>?_);have f0:=a3.keep _ _ ad eX;have f1:=a3.keep _ _ bl eY;have c7:=a3.keep _ _ ba eZ;have dj:=dd.keep a3.keep fX;have dW:=an dV (cg ab) c4 a3.n a3.keep;have e2:=an e1 wf bY a3.n a3.keep;refine dG _ _<|.q Z (ah Z)<|.nil<|gF _ _<|.seq fun _ f2=>.region<|.q Z (ae Z)<|.q Z (aj Uc fp U Z)<|.q Z (ak fW Z Z c7 Z) ?_;have ai:=cd (bs:=[some h]) e2 (um b2 o4);have bA:=cd (bs:=[some h]) dW (um (cn (by simp)) o4);refine Ops.l Z (fun _ _ dI _=>au Z (uN (((bh ((g)) rs).getD i .zero).v) rs l h (((g))) u rv b8 ec eg en ev ex ey (A110.hide [some h]) A110 (cx A110 [some h]) (cg a3.wf) f0 (cn (by simp)) hs (hL.le ai) (hr.le ai) (hp.le ai) (aR.le bA)) ?_);rintro h1 A123 ⟨g5,cX,cZ,d0,d1,d2,d3,rfl,a7,a8,ac,bm,bO⟩;have dw:=bK (bs:=[some h]) f1 (qL ar mF);have cc:=a7.get _ _ dw;have dz:=bK (bs:=[some h]) c7 (qL a5.symm mF);have cf:=a7.get _ _ dz;have dD:=bK (bs:=[some h]) a3.get (qL ad.symm mF);have ch:=a7.get _ _ dD;have br:=dj.off (kf a2 ke) a7;have dk:=bm.base ai;have bB:=bA.trans a7;have bC:=ai.trans a7;refine dI _ _<|.q Z (ae Z)<|.q Z (bg Z Z)<|.q Z (bg Z Z)<|.l Z (fun _ _ dJ _=>cl a8 C5 rfl fun A145 gX D=>?_);have aV:=ne_new a8 ac D.lo;have bb:=ne_new a8 cc D.lo;have b0:=ne_new a8 cf D.lo;have b1:=ne_new a8 ch D.lo;have ea:=br.own.ne_new a8 D.lo;have bL:=aQ wf (Nat.le_trans bC.n D.lo);have bM:=aQ (cg ab) (Nat.le_trans bB.n D.lo);have f3:=D.le.get _ _ ac;have f4:=D.le.get _ _ cc;have f5:=D.le.get _ _ cf;have f6:=D.le.get _ _ ch;have dl:=br.le D.le;have dm:=dk.le D.le;have e3:=bC.trans D.le;have dZ:=bB.trans D.le;refine dJ _ _ ?_;obtain ⟨cV,cF,bR,g4,_⟩:=dm.own.slice;subst g4;refine Ops.l Z (fun _ _ dK _=>aX (cs:=[bf ((fk (eI rs (((bh ((g)) rs).getD i .zero).v))).word),num (((fk (eI rs (((bh ((g)) rs).getD i .zero).v))).steps:Nat):Int),.slice cV cF bR]) (c':=[bf ((fk (eI rs (((bh ((g)) rs).getD i .zero).v))).word),num (((fk (eI rs (((bh ((g)) rs).getD i .zero).v))).steps:Nat):Int),.slice cV cF bR]) D.wf rfl rfl rfl rfl ig D.get (Nat.le_of_ble_eq_true rfl) rfl rfl fun A161 a0=>?_);have f7:=a0.keep _ _ aV f3;have b5:=a0.keep _ _ bb f4;have f9:=a0.keep _ _ b0 f5;have fd:=a0.keep _ _ b1 f6;have dv:=dl.keep a0.keep ea;have e0:=an dZ (cg ab) bM a0.n a0.keep;have aD:=an e3 wf bL a0.n a0.keep;refine dK _ _<|.q Z (ah Z)<|.nil<|f2 _ _<|.seq fun _ fe=>.seq fun _ ck=>.region<|.q Z (ae Z)<|.q Z (er Z)<|.q Z (ae Z) ?_;refine Ops.partB (t:=46) Z (fun g0=>?_) (fun g0=>?_)
  ·refine Ops.off Z Z Z Z<|.off Z Z Z Z<|.q Z (aJ Z Z)<|.nil<|ck _ _<|.cond_true Z<|.seq fun _ fi=>.region<|.q Z (dA Z (bG UV zB Eo Z))<|.q Z (ah Z) ?_;refine Ops.l Z (fun _ _ dL _=>aX (cs:=[num ((0:Nat):Int),num ((0:Nat):Int),bf ([]),bf ([]),bf ([])]) (c':=[num ((0:Nat):Int),num ((0:Nat):Int),bf ([]),bf ([]),bf ([])]) a0.wf rfl rfl rfl rfl jE b5 (Nat.le_of_ble_eq_true rfl) rfl rfl fun A180 aF=>?_);have e4:=an aD wf aC aF.n aF.keep;refine dL _ _<|.q Z (ah Z)<|.nil<|fi _ _<|.ret ?_;repeat first | with_reducible refine bz ?_ | with_reducible refine bn ?_
   exact aH (fy Z (eP uk jE Z aF.get Z (fy Z go))) (⟨by (rw [Cx O hsc (by first | exact .inl ‹_› | exact .inr ‹_›)];rfl),e4,aF.wf⟩)
  refine Ops.on Z Z<|.q Z (ae Z)<|.on Z Z<|.q Z (er Z)<|.q Z (aU Z Z)<|.nil<|ck _ _<|.ifB Z (fun g1=>?_) (fun g1=>?_)
  ·refine am.seq fun _ fl=>.region<|.q Z (dA Z (bG UV zB Eo Z))<|.q Z (ah Z)<|.l Z (fun _ _ dM _=>aX (cs:=[num ((0:Nat):Int),num ((0:Nat):Int),bf ([]),bf ([]),bf ([])]) (c':=[num ((0:Nat):Int),num ((0:Nat):Int),bf ([]),bf ([]),bf ([])]) a0.wf rfl rfl rfl rfl jE b5 (Nat.le_of_ble_eq_true rfl) rfl rfl fun A194 aG=>?_);have e5:=an aD wf aC aG.n aG.keep;refine dM _ _<|.q Z (ah Z)<|.nil<|fl _ _<|.ret ?_;repeat first | with_reducible refine bz ?_ | with_reducible refine bn ?_
   exact aH (fy Z (eP uk jE Z aG.get Z (fy Z go))) (⟨by (rw [Cx O hsc (by first | exact .inl ‹_› | exact .inr ‹_›)];rfl),e5,aG.wf⟩)
  refine am.skip<|fe _ _<|.seq fun _ fm=>.region<|.q Z (aj nP fp U Z)<|.q Z (ak fW Z Z fd Z)<|.q Z (aj nP fp U Z)<|.q Z (ak fW Z Z a0.get Z)<|.q Z (qX Z Z)<|.nil ?_;refine fm _ _<|.if rfl (fun g2=>?_) (fun g2=>?_)
  ·refine am.seq fun _ fn=>.drawn [0,1,2,3] mixed Y Y Z<|.q Z Z Z (aq uk jE Z Z f9 Z)<|.q Z Z Z (ah Z)<|.l Z Z Z (fun _ _ dO _=>aX (cs:=[num (((bh ((g)) rs).getD i .zero).i),num (((bh ((g)) rs).getD i .zero).j),bf (((bh ((g)) rs).getD i .zero).word),bf (((bh ((g)) rs).getD i .zero).u),bf (((bh ((g)) rs).getD i .zero).v)]) (c':=[num (((bh ((g)) rs).getD i .zero).i),num (((bh ((g)) rs).getD i .zero).j),bf (((bh ((g)) rs).getD i .zero).word),bf (((bh ((g)) rs).getD i .zero).u),bf (((bh ((g)) rs).getD i .zero).v)]) a0.wf rfl rfl rfl rfl jE b5 (Nat.le_of_ble_eq_true rfl) rfl rfl fun A215 aI=>?_);have e6:=an aD wf aC aI.n aI.keep;refine dO _ _ (aW.none Y)<|.q Z Z Z (ah Z)<|.done<|fn _ _<|.ret ?_;repeat first | with_reducible refine bz ?_ | with_reducible refine bn ?_
   exact aH (fy Z (eP uk jE Z aI.get Z (fy Z go))) (⟨by (rw [Pm O hsc ‹_› ‹_› ‹_›];rfl),e6,aI.wf⟩)
  refine am.skip<|gq _ _<|.region<|.q Z (bq (b:=1) Z Z O)<|.q Z (ae Z)<|.nil ?_;exact ⟨⟨i + 1,cX,cZ,d0,d1,d2,d3⟩,qk Z Z Z Z Z,Z,⟨⟨by omega,Kn O hsc ‹_› ‹_› ‹_›⟩,aD,dv,f7,b5,a2,aY,e0⟩,O1⟩
 refine am.exit<|gg _ _<|.seq fun _ fo=>.region<|.q Z (dA Z (bG UV zB Eo Z))<|.q Z (ah Z)<|.l Z (fun _ _ dS _=>aX (cs:=[num ((0:Nat):Int),num ((0:Nat):Int),bf ([]),bf ([]),bf ([])]) (c':=[num ((0:Nat):Int),num ((0:Nat):Int),bf ([]),bf ([]),bf ([])]) aZ rfl rfl rfl rfl jE ay (Nat.le_of_ble_eq_true rfl) rfl rfl fun A228 aP=>?_);have e7:=an bp wf aC aP.n aP.keep;refine dS _ _<|.q Z (ah Z)<|.nil<|fo _ _<|.ret ?_;repeat first | with_reducible refine bz ?_ | with_reducible refine bn ?_
 exact aH (fy Z (eP uk jE Z aP.get Z (fy Z go))) (⟨by (rw [Pn O hsc];rfl),e7,aP.wf⟩)

theorem uL (g:Int) (u:Value) (l:List (List UInt8)) (rv:Value) (rs:List be) (A:AH) (hn:l.length<=9223372036854775807) (hm:rs.length<=9223372036854775807) (hmx:bW g l rs=true->(bh g rs).length<=50000) (hL:gy A) (hu:bI A 1 u (ei l)) (hr:bI A 3 rv (db rs)) (hp:Proofs A rs):bE Tryz.prog 28 #[.agg #[num (g),u,rv]] A (fun v A1=>v=.tuple #[.bool (du g l rs).1,QK (du g l rs).2.1,num (((du g l rs).2.2:Nat):Int)]/\A.le A1/\A1.wf):=by
 refine gR Tryz.call28 Tryz.func28 Z Tryz.results28 Tryz.ntmps28 Z (fun wf=>?_);have aF:=AH.le.refl A;refine am.seq fun _ h2=>.region<|.l Z (fun _ _ aC _=>d8 wf rfl rfl fun A5 b4 a4=>?_);have a9:=aF.trans a4.le;refine aC _ _<|.q Z (ah Z)<|.l Z (fun _ _ aD _=>cl a4.wf zB rfl fun A10 b9 X=>?_);have a2:=aQ wf (Nat.le_trans a9.n X.lo);have a7:=X.le.get _ _ a4.get;have D:=a9.trans X.le;refine aD _ _<|.q Z (ah Z)<|.nil<|h2 _ _<|.seq fun _ ar=>.seq fun _ av=>.region<|.q Z (aq fc eF Z Z a7 Z)<|.l Z (fun _ _ aa _=>au Z (jW ((g)) u l rv rs A10 hn hm (hL.le D) (hu.le D) (hr.le D) (hp.le D)) ?_);rintro aI A20 ⟨rfl,V,a5⟩;have ay:=V.get _ _ a7;have a8:=V.get _ _ X.get;have h:=D.trans V;refine aa _ _<|.q Z (er Z)<|.nil<|av _ _<|.ifB Z (fun aG=>?_) (fun aG=>?_)
 ·refine am.seq fun _ az=>.region<|.q Z (dA Z (bG UV zB Eo Z))<|.q Z (ah Z)<|.l Z (fun _ _ ab _=>aX (cs:=[num ((0:Nat):Int),num ((0:Nat):Int),bf ([]),bf ([]),bf ([])]) (c':=[num ((0:Nat):Int),num ((0:Nat):Int),bf ([]),bf ([]),bf ([])]) a5 rfl rfl rfl rfl jE a8 (Nat.le_of_ble_eq_true rfl) rfl rfl fun A29 a0=>?_);have ag:=an h wf a2 a0.n a0.keep;refine ab _ _<|.q Z (ah Z)<|.nil<|az _ _<|.ret ?_;repeat first | with_reducible refine bz ?_ | with_reducible refine bn ?_
  exact aH (fy Z (eP uk jE Z a0.get Z (fy Z go))) (⟨by (rw [QF ‹_›];rfl),ag,a0.wf⟩)
 refine am.skip<|ar _ _<|.seq fun _ aA=>.region<|.q Z (aq fc eF Z Z ay Z)<|.l Z (fun _ _ ac _=>au Z (SA ((g)) u l rv rs A20 (by simpa using ‹(!bW g l rs)=false›) (hmx (by simpa using ‹(!bW g l rs)=false›)) (hL.le h) (hu.le h) (hr.le h) (hp.le h)) ?_);rintro aP A37 ⟨rfl,a3,a6⟩;have aB:=a3.get _ _ a8;have ai:=h.trans a3;refine ac _ _<|.q Z (bg Z Z)<|.q Z (bg Z Z)<|.q Z (bg Z Z)<|.q Z (ah Z)<|.l Z (fun _ _ ad _=>aX (cs:=[num ((fP rs (bh ((g)) rs)).2.1.i),num ((fP rs (bh ((g)) rs)).2.1.j),bf ((fP rs (bh ((g)) rs)).2.1.word),bf ((fP rs (bh ((g)) rs)).2.1.u),bf ((fP rs (bh ((g)) rs)).2.1.v)]) (c':=[num ((fP rs (bh ((g)) rs)).2.1.i),num ((fP rs (bh ((g)) rs)).2.1.j),bf ((fP rs (bh ((g)) rs)).2.1.word),bf ((fP rs (bh ((g)) rs)).2.1.u),bf ((fP rs (bh ((g)) rs)).2.1.v)]) a6 rfl rfl rfl rfl jE aB (Nat.le_of_ble_eq_true rfl) rfl rfl fun A43 a1=>?_);have ap:=an ai wf a2 a1.n a1.keep;refine ad _ _<|.q Z (ah Z)<|.nil<|aA _ _<|.ret ?_;repeat first | with_reducible refine bz ?_ | with_reducible refine bn ?_
 exact aH (fy Z (eP uk jE Z a1.get Z (fy Z go))) (⟨by (rw [QG ‹_›];rfl),ap,a1.wf⟩)

theorem Si (g:Int) (u:Value) (l:List (List UInt8)) (rv:Value) (rs:List be) (A:AH) (hn:l.length<=9223372036854775807) (hm:rs.length<=9223372036854775807) (hmx:bW g l rs=true->(bh g rs).length<=50000) (hL:gy A) (hu:bI A 1 u (ei l)) (hr:bI A 3 rv (db rs)) (hp:Proofs A rs):bE Tryz.prog 30 #[.agg #[num (g),u,rv]] A (fun v A1=>v=.tuple #[.bool (nz g l rs).1,num (((nz g l rs).2:Nat):Int)]/\A.le A1/\A1.wf):=by
 refine gR Tryz.call30 Tryz.func30 Z Tryz.results30 Tryz.ntmps30 Z (fun wf=>?_);have d2:=AH.le.refl A;refine am.seq fun _ h2=>.region<|.l Z (fun _ _ d0 _=>d8 wf rfl rfl fun A5 b4 b6=>?_);have ab:=d2.trans b6.le;refine d0 _ _<|.q Z (ah Z)<|.q Z (ah Z)<|.nil<|h2 _ _<|.seq fun _ h9=>.region<|.q Z (aq fc eF Z Z b6.get Z)<|.l Z (fun _ _ bB _=>au Z (uL ((g)) u l rv rs A5 hn hm hmx (hL.le ab) (hu.le ab) (hr.le ab) (hp.le ab)) ?_);rintro dL A12 ⟨rfl,ai,ay⟩;have bc:=ai.get _ _ b6.get;have b2:=ab.trans ai;refine bB _ _<|.q Z (ae Z)<|.q Z (bg Z Z)<|.q Z (bg Z Z)<|.q Z (bg Z Z)<|.l Z (fun _ _ bC _=>cl ay zB rfl fun A18 bV a3=>?_);have ac:=ne_new ay bc a3.lo;have aS:=aQ wf (Nat.le_trans b2.n a3.lo);have c4:=a3.le.get _ _ bc;have bS:=b2.trans a3.le;refine bC _ _<|.q Z (ah Z)<|.l Z (fun _ _ bD _=>aX (cs:=[num ((du ((g)) l rs).2.1.i),num ((du ((g)) l rs).2.1.j),bf ((du ((g)) l rs).2.1.word),bf ((du ((g)) l rs).2.1.u),bf ((du ((g)) l rs).2.1.v)]) (c':=[num ((du ((g)) l rs).2.1.i),num ((du ((g)) l rs).2.1.j),bf ((du ((g)) l rs).2.1.word),bf ((du ((g)) l rs).2.1.u),bf ((du ((g)) l rs).2.1.v)]) a3.wf rfl rfl rfl rfl jE a3.get (Nat.le_of_ble_eq_true rfl) rfl rfl fun A23 a5=>?_);have aY:=a5.keep _ _ ac c4;have a2:=an bS wf aS a5.n a5.keep;refine bD _ _<|.q Z (ah Z)<|.nil<|h9 _ _<|.seq fun _ c7=>.seq fun _ cc=>.region<|.q Z (ae Z)<|.q Z (fg (b:=0) Z Z)<|.nil ?_;refine cc _ _<|.if rfl (fun d3=>?_) (fun d3=>?_)
 ·refine am.seq fun _ cf=>.region<|.q Z (ae Z)<|.q Z (ah Z)<|.q Z (ah Z)<|.nil<|cf _ _<|.rt (by exact aH Z (⟨by (rw [Ly ‹_›];rfl),a2,a5.wf⟩))
 refine am.skip<|c7 _ _<|.seq fun _ ch=>.region<|.q Z (aq fc eF Z Z aY Z)<|.l Z (fun _ _ bL _=>au Z (pO ((g)) u l rv rs A23 (sx (sQ ‹_›)) (wo (sQ ‹_›)) (hu.le a2) (hr.le a2) (hp.le a2)) ?_);rintro dM A38 ⟨h,av,rfl,ap,az,a7,a0,a9⟩;have ck:=ap.get _ _ aY;have b3:=a2.trans ap;have hrow:=a7;have hno:=a0;have hix:=a9;have ba:b4 ≠ h:=fun z=>by have q0:=aY;rw [z,a0] at q0;cases q0
 have b8:bV ≠ h:=fun z=>by have q0:=a5.get;rw [z,a0] at q0;cases q0
 have aR:=sc a2 a0;refine bL _ _<|.q Z (ah Z)<|.nil<|ch _ _<|.seq fun _ cv=>.region<|.q Z (ah Z)<|.nil<|cv _ _<|.seq fun _ cA=>?_;refine am.seq fun _ cC=>.region<|.q Z (aj gi ie U Z)<|.q Z (aj ic oU U Z)<|.q Z (ak oL Z Z ck Z)<|.q Z (bF (n:=l.length) mJ Z (hu.le b3) O (eu _))<|.q Z (ae Z)<|.nil<|cC _ _<|.block ?_;refine am.loop (X:=Nat × Bool × Value × Value × Value × Value × Value × Value) (fun ⟨i,t,y0,y5,y6,y7,y8,y9⟩=>[(4,.bool ((du ((g)) l rs).1)),(7,.pointer (some ⟨h,0,none⟩)),(8,.bool (t)),(26,u),(27,num ((l.length:Nat):Int)),(28,num ((i:Nat):Int))]) (fun ⟨i,t,y0,y5,y6,y7,y8,y9⟩ B=>(i<=l.length/\mh rs t (l.drop i)=mh rs true l)/\A.le B/\B.get h=some (.row true [y0,num ((g)),u,rv,.map (some av),y5,y6,y7,y8,y9] 10)/\(A38.hide [some h]).le B) (fun ⟨i,t,y0,y5,y6,y7,y8,y9⟩=>l.length - i) (⟨0,true,.slice none 0 0,.slice none 0 0,num ((0:Nat):Int),bf ([]),num ((0:Nat):Int),.slice none 0 0⟩) (Gr Z Z Z Z Z Z) (⟨⟨Nat.zero_le _,Z⟩,b3,a7,(cx A38 [some h])⟩) ?_;rintro ⟨i,t,y0,y5,y6,y7,y8,y9⟩ B50 ⟨⟨hi,hsc⟩,a8,aa,b9⟩;refine am.wf fun ag=>.seq fun _ cF=>.region<|.q Z (bX Z Z)<|.nil<|cF _ _<|.seq fun _ cH=>.if rfl (fun dd=>?_) (fun dd=>?_)
 ·refine am.skip<|cH _ _<|.seq fun _ bd=>.block<|.seq fun _ cK=>.region ?_;obtain ⟨dz,dG,dw,dK,dv,dJ,dI,bY,d1,c3,dm,bu⟩:=bI.at (i:=i) (hu.le a8) Oj O;refine Ops.q Z (aE mJ fp Z bY Z d1)<|.q Z (ak fW Z Z c3 ((cM bu).trans (fb O)))<|.q Z (ah Z)<|.nil<|cK _ _<|.seq fun _ cP=>.region<|.q Z (ae Z)<|.q Z (ae Z) ?_;have a4:=cd (bs:=[some h]) a8 (um aR o4);have aZ:=cd (bs:=[some h]) b9 (um (cn (by simp)) o4);refine Ops.l Z (fun _ _ bM _=>au Z (uN (l.getD i []) rs l h (((g))) u rv av y0 y5 y6 y7 y8 y9 (B50.hide [some h]) B50 (cx B50 [some h]) (cg ag) aa (cn (by simp)) (sQ ‹_›) (hL.le a4) (hr.le a4) (hp.le a4) (a9.le aZ)) ?_);rintro dO A66 ⟨dl,aB,aC,aD,aF,aG,aI,rfl,ar,aA,a1,aP,b7⟩;have bv:=aP.base a4;have b0:=aZ.trans ar;have b5:=a4.trans ar;refine bM _ _<|.q Z (ae Z)<|.q Z (bg Z Z)<|.q Z (bg Z Z)<|.l Z (fun _ _ bO _=>cl aA C5 rfl fun A75 dD D=>?_);have a6:=ne_new aA a1 D.lo;have aT:=aQ wf (Nat.le_trans b5.n D.lo);have aV:=aQ (cg az) (Nat.le_trans b0.n D.lo);have cS:=D.le.get _ _ a1;have bA:=bv.le D.le;have bT:=b5.trans D.le;have bR:=b0.trans D.le;refine bO _ _ ?_;obtain ⟨br,bp,bb,dk,_⟩:=bA.own.slice;subst dk;refine Ops.l Z (fun _ _ bP _=>aX (cs:=[bf ((fk (eI rs (l.getD i []))).word),num (((fk (eI rs (l.getD i []))).steps:Nat):Int),.slice br bp bb]) (c':=[bf ((fk (eI rs (l.getD i []))).word),num (((fk (eI rs (l.getD i []))).steps:Nat):Int),.slice br bp bb]) D.wf rfl rfl rfl rfl ig D.get (Nat.le_of_ble_eq_true rfl) rfl rfl fun A84 V=>?_);have bl:=V.keep _ _ a6 cS;have b1:=an bR (cg az) aV V.n V.keep;have ad:=an bT wf aT V.n V.keep;refine bP _ _<|.q Z (ah Z)<|.nil<|cP _ _<|.seq fun _ cV=>.seq fun _ cX=>.region<|.q Z (ae Z)<|.q Z (er Z)<|.nil ?_;refine cX _ _<|.ifB Z (fun di=>?_) (fun di=>?_)
  ·refine am.seq fun _ cZ=>.region<|.q Z (ah Z)<|.q Z (ah Z)<|.nil<|cZ _ _<|.rt (by exact aH Z (⟨by (rw [Lz ‹_› (Kj O hsc ‹_›)];rfl),ad,V.wf⟩))
  refine am.skip<|cV _ _<|.region<|.q Z (ae Z)<|.q Z (ae Z)<|.partB (t:=41) Z (fun dj=>?_) (fun dj=>?_)
  ·refine Ops.on Z Z<|.q Z (aj nP fp U Z)<|.on Z Z<|.q Z (ak fW Z Z V.get Z)<|.on Z Z<|.q Z (m8 Z Z)<|.q Z (aJ Z Z)<|.q Z (ah Z)<|.nil<|bd _ _ ?_;refine am.region<|.q Z (bq (b:=1) Z Z O)<|.q Z (ae Z)<|.nil ?_;exact ⟨⟨i + 1,decide ((fk (eI rs (l.getD i []))).word=[]),aB,aC,aD,aF,aG,aI⟩,Gr Z Z Z Z Z Z,Z,⟨⟨by omega,by have:=wj O hsc ‹_›;simp_all⟩,ad,bl,b1⟩,O1⟩
  refine Ops.off Z Z Z Z<|.off Z Z Z Z<|.off Z Z Z Z<|.q Z (aU Z Z)<|.q Z (ah Z)<|.nil<|bd _ _<|.region<|.q Z (bq (b:=1) Z Z O)<|.q Z (ae Z) ?_;refine Ops.nil ?_;exact ⟨⟨i + 1,false,aB,aC,aD,aF,aG,aI⟩,Gr Z Z Z Z Z Z,Z,⟨⟨by omega,by have:=wj O hsc ‹_›;simp_all⟩,ad,bl,b1⟩,O1⟩
 refine am.exit<|cA _ _<|.seq fun _ bm=>.region<|.q Z (ae Z)<|.q Z (ae Z)<|.partB (t:=48) Z (fun bU=>?_) (fun bU=>?_)
 ·refine Ops.on Z Z<|.q Z (ae Z)<|.q Z (aJ Z Z)<|.q Z (ah Z)<|.q Z (ah Z)<|.nil<|bm _ _<|.rt (by exact aH Z (⟨by (rw [zX ‹_› (yd O hsc)];simp_all [dT]),a8,ag⟩))
 refine Ops.off Z Z Z Z<|.q Z (aU Z Z)<|.q Z (ah Z)<|.q Z (ah Z)<|.nil<|bm _ _<|.rt (by exact aH Z (⟨by (rw [zX ‹_› (yd O hsc)];simp_all [dT]),a8,ag⟩))
end Go.Proofs.YtjppkekmddjcfaaGreatDoor

namespace Go.Proofs.YtjppkekmddjcfaaGreatDoor
open Go Go.RowKit V
set_option maxRecDepth 100000
theorem iI:dr Tryz.prog 59=some false:=by kernel_rfl
theorem j7:dr Tryz.prog 60=some false:=by kernel_rfl
theorem lN:dr Tryz.prog 67=some false:=by kernel_rfl
theorem i4:d5 Tryz.prog 119 0=some (60,0):=by kernel_rfl
theorem l5:d5 Tryz.prog 119 1=some (59,1):=by kernel_rfl
theorem Mo:Tryz.prog.info? 4=some Tryz.t4:=by kernel_rfl
theorem Gx:Tryz.prog.info? 67=some Tryz.t67:=by kernel_rfl
theorem iL:c9 Tryz.prog 59=some 1:=by kernel_rfl
theorem i3:c9 Tryz.prog 60=some 1:=by kernel_rfl
theorem fB:c9 Tryz.prog 67=some 1:=by kernel_rfl
theorem lJ:type_of% @Tryz.underlying59:=@Tryz.underlying59
theorem oh:type_of% @Tryz.underlying60:=@Tryz.underlying60

theorem Kb (w:List UInt8) (A:AH) (hL:gy A) (hw:w.length<=1000000):bE Tryz.prog 115 #[bf (w)] A (fun v A1=>A.le A1/\A1.wf/\Fresh A A1 v 1 (cJ (w.map ix))):=by
 refine gR Tryz.call115 Tryz.func115 Z Tryz.results115 Tryz.ntmps115 Z (fun wf=>?_);have ai:=AH.le.refl A;refine am.seq fun _ h2=>.region<|.q Z (ah Z)<|.nil<|h2 _ _<|.seq fun _ h4=>.region<|.q Z (ah Z)<|.nil<|h4 _ _ ?_;refine am.seq fun _ h6=>.seq fun _ h8=>.region<|.q Z (ae Z)<|.q Z (cD u9 Z)<|.q Z (ae Z)<|.nil<|h8 _ _<|.block<|.loop (X:=Nat × List Int × Value) (fun ⟨i,o,s⟩=>[(0,bf (w)),(3,s),(6,num ((w.length:Nat):Int)),(7,num ((i:Nat):Int))]) (fun ⟨i,o,s⟩ B=>(i<=w.length/\o=(w.take i).map ix)/\A.le B/\Fresh A B s 1 (cJ o)) (fun ⟨i,o,s⟩=>w.length - i) (⟨0,[],.slice none 0 0⟩) (mA Z Z Z Z) (⟨⟨Nat.zero_le _,by simp⟩,ai,(Fresh.nil A A 1)⟩) ?_;rintro ⟨i,o,s⟩ B10 ⟨⟨hi,ho⟩,a2,V⟩;refine am.wf fun a3=>?_;have hlo:o.length=i:=by rw [ho];simp;omega
 refine am.seq fun _ aa=>.region<|.q Z (bX Z Z)<|.nil<|aa _ _<|.seq fun _ ab=>.if rfl (fun ap=>?_) (fun ap=>?_)
 ·refine am.skip<|ab _ _<|.seq fun _ ac=>.block<|.seq fun _ ad=>.region<|.q Z (ae Z)<|.q Z (ah Z)<|.nil<|ad _ _ ?_;refine am.region<|.q Z (ae Z)<|.q Z (ae Z)<|.q Z (ae Z)<|.q Z (lD u9 Z Z O)<|.l Z (fun _ _ a5 _=>au Z (sl (w.getD i 0) B10 (hL.le a2)) ?_);rintro ay A23 ⟨rfl,rfl⟩;refine a5 _ _<|.l Z (fun _ _ a6 _=>aO (c:=[num (ix (w.getD i 0))]) a3 rfl (ax em cW z3 rfl U U rfl) fun A27 av D=>?_);have a1:=V.le D.le;have a8:=a2.trans D.le;refine a6 _ _<|.l Z (fun _ _ a7 _=>cN (ys:=[num (ix (w.getD i 0))]) rfl rfl em cW mW z3 rfl U em (fun _ h=>by cases h) a1.own (bQ (n:=1) D.get Z) rfl rfl (by show (_ + _) * 8<=_;simp only [aw,List.length_cons,List.length_nil];(try simp only [List.length_append,List.length_cons,List.length_nil]);omega) O2 fun A33 ar a0=>?_);rw [show ([num (ix (w.getD i 0))]:List Value)=cJ [ix (w.getD i 0)] from rfl,dx] at a0;obtain ⟨a4,a9⟩:=Fresh.grow a1 a8 wf a0;refine a7 _ _<|.q Z (ah Z)<|.nil<|ac _ _<|.region<|.q Z (bq (b:=1) Z Z O)<|.q Z (ae Z)<|.nil ?_;exact ⟨⟨i + 1,o ++ [ix (w.getD i 0)],ar⟩,mA Z Z Z Z,Z,⟨⟨by omega,by rw [ho];exact r8 ix O⟩,a9,a4⟩,O1⟩
 refine am.exit<|h6 _ _<|.seq fun _ ag=>.region<|.q Z (ae Z)<|.q Z (ah Z)<|.nil<|ag _ _<|.rt (by exact aH Z (⟨a2,a3,cw V (congrArg cJ (by rw [ho,List.take_of_length_le O]))⟩))

theorem O8 (k:Nat) (b:Nat) (nv ev:Value) (rows:List Value) (L:List (List Int)) (E:List Bool) (A0 A:AH) (c7:A0.le A) (aI:A0.wf) (hb:A.get b=some (.row true [nv,ev] 2)) (cc:A0.get b=none) (frn:Fresh A0 A nv 1 (eh rows)) (fre:Fresh A0 A ev 1 (ce E)) (nn:blk nv ≠ some b) (ne:blk ev ≠ some b) (sne:bk nv ev) (fm:gW A0 A rows L) (fo:dE rows b) (fsn:aK nv rows) (fse:aK ev rows) (hk:k<=1000/\L.length<=1000000/\E.length<=1000000):bE Tryz.prog 75 #[.pointer (some ⟨b,0,none⟩),num ((k:Nat):Int)] A (fun v A1=>∃ nv2 jI rows2,v=num ((L.length:Nat):Int)/\A0.le A1/\A1.wf/\A1.get b=some (.row true [nv2,jI] 2)/\Fresh A0 A1 nv2 1 (eh rows2)/\Fresh A0 A1 jI 1 (ce (E ++ [false]))/\blk nv2 ≠ some b/\blk jI ≠ some b/\bk nv2 jI/\gW A0 A1 rows2 (L ++ [C0 k])/\dE rows2 b/\aK nv2 rows2/\aK jI rows2):=by
 refine lQ Tryz.call75 Tryz.func75 Z Tryz.results75 Tryz.ntmps75 Z (fun wf=>?_);have hrl:=fm.len;have hkr:(List.replicate k (0:Int)).length=k:=List.length_replicate;refine am.seq fun _ h2=>.region<|.q Z (ah Z)<|.nil<|h2 _ _<|.seq fun _ h4=>.region<|.q Z (ae Z)<|.l Z (fun _ _ e9 _=>mH (n:=k) (k:=k) wf c7 rfl rfl em cW z3 mW rfl (Nat.le_refl _) (by show 8 * _<=_;omega) O fun A7 b6 ar bp=>?_);rw [iw] at bp;have b5:=ne_new wf hb ar.lo;have dD:=fm.ne_new wf ar.lo;have dV:=ar.le.get _ _ hb;have cA:=frn.le ar.le;have cC:=fre.le ar.le;have cf:=fm.le ar.le;have di:=c7.trans ar.le;have dJ:=bk.of_new (n:=k) (c:=k) frn.own wf ar.lo;have dK:=bk.of_new (n:=k) (c:=k) fre.own wf ar.lo;refine e9 _ _<|.q Z (ah Z)<|.nil<|h4 _ _<|.seq fun _ dW=>.seq fun _ dZ=>.region<|.q Z (ae Z)<|.q Z (bF (n:=(List.replicate k (0:Int)).length) em Z bp.slc O (ep _))<|.q Z (ae Z) ?_;refine Ops.nil<|dZ _ _<|.block<|.loop (X:=Nat × List Int × Value) (fun ⟨i,o,r⟩=>[(0,.pointer (some ⟨b,0,none⟩)),(5,r),(10,num (((List.replicate k (0:Int)).length:Nat):Int)),(11,num ((i:Nat):Int))]) (fun ⟨i,o,r⟩ B=>(i<=k/\o=List.replicate i (-1) ++ List.replicate (k - i) 0)/\A0.le B/\Fresh A0 B r 1 (cJ o)/\Fresh A0 B nv 1 (eh rows)/\Fresh A0 B ev 1 (ce E)/\B.get b=some (.row true [nv,ev] 2)/\V.blk r ≠ some b/\V.blk nv ≠ some b/\V.blk ev ≠ some b/\bk r nv/\bk r ev/\bk nv ev/\gW A0 B rows L/\dE rows b/\aK r rows/\aK nv rows/\aK ev rows) (fun ⟨i,o,r⟩=>k - i) (⟨0,List.replicate k 0,.slice (some ⟨b6,0,none⟩) k k⟩) (mA Z Z Z Z) (⟨⟨Nat.zero_le _,by simp⟩,di,bp,cA,cC,dV,(fun q=>by cases q;exact b5 Z),nn,ne,dJ,dK,sne,cf,fo,(aK.new dD),fsn,fse⟩) ?_;rintro ⟨i,o,r⟩ B25 ⟨⟨hi,ho⟩,bv,ag,aF,aD,ap,aa,a9,a4,a8,ac,ad,av,az,a6,a7,ai⟩;refine am.wf fun aC=>?_;have hlo:o.length=k:=by rw [ho];simp;omega
 have hrl:=fm.len;refine am.seq fun _ e0=>.region<|.q Z (bX Z Z)<|.nil<|e0 _ _<|.seq fun _ e1=>.if rfl (fun eg=>?_) (fun eg=>?_)
 ·refine am.skip<|e1 _ _<|.seq fun _ e2=>.block<|.seq fun _ e3=>.region<|.q Z (ae Z)<|.q Z (ah Z)<|.nil<|e3 _ _ ?_;refine am.region<|.q Z (ae Z)<|.q Z (ae Z) ?_;obtain ⟨b7,eS,eQ,ey,eC,aG,c4,dS,eX,ec,eT,ea⟩:=ag.at1 (x:=i) Oa;rw [aw] at c4;refine Ops.q Z (aE em cW Z aG Z (by rw [c4];omega))<|.l Z (fun _ _ d0 _=>aX (off:=i) (c':=ey.set i (num (-1))) aC rfl (by simp) rfl rfl cW dS (by show i + 1<=_;omega) rfl rfl fun A38 ab=>?_);have e4:=ab.keep _ _ (fun q=>aa (by rw [aG];exact congrArg some q.symm)) ap;have cF:=aF.keep ab.keep (a8 b7 (by rw [aG];rfl));have cH:=aD.keep ab.keep (ac b7 (by rw [aG];rfl));have ch:=av.keep ab.keep (fun r hr=>a6 r hr b7 (by rw [aG];rfl));have bb:=ea (num (-1)) A38 ab;rw [iy] at bb;have dj:=an bv aI ec ab.n ab.keep;refine d0 _ _<|.nil<|e2 _ _<|.region<|.q Z (bq (b:=1) Z Z Ov)<|.q Z (ae Z)<|.nil ?_;exact ⟨⟨i + 1,o.set i ((-1)),r⟩,mA Z Z Z Z,Z,⟨⟨by omega,by rw [ho];exact Jc O⟩,dj,bb,cF,cH,e4,aa,a9,a4,a8,ac,ad,ch,az,a6,a7,ai⟩,O1⟩
 refine am.exit<|dW _ _<|.seq fun _ e5=>.region<|.q Z (ae Z)<|.q Z (ae Z)<|.q Z (cL Z)<|.q Z (aj i4 i3 U Z)<|.q Z (ak j7 Z Z ap Z)<|.q Z (ae Z) ?_;obtain ⟨aB,aA,ay,en,_⟩:=ag.own.slice;subst en;refine Ops.l Z (fun _ _ d1 _=>aO (c:=[.slice aB aA ay]) aC rfl (ax oh fB KJ rfl U U rfl) fun A50 eL D=>?_);have dv:=ne_new aC ap D.lo;have dz:=ag.own.ne_new aC D.lo;have dG:=av.ne_new aC D.lo;have c3:=D.le.get _ _ ap;have bc:=ag.le D.le;have bd:=aF.le D.le;have bl:=aD.le D.le;have b9:=av.le D.le;have dk:=bv.trans D.le;refine d1 _ _<|.l Z (fun _ _ d2 _=>cN (ys:=[.slice aB aA ay]) rfl rfl oh fB Gx KJ rfl U oh (fun _ h=>by cases h) bd.own (bQ (n:=1) D.get Z) rfl rfl (by show (_ + _) * 24<=_;simp only [cm,List.length_cons,List.length_nil];(try simp only [List.length_append,List.length_cons,List.length_nil]);omega) Ok fun A64 eV a1=>?_);rw [show ([.slice aB aA ay]:List Value)=eh [Value.slice aB aA ay] from rfl,pC] at a1;obtain ⟨bm,dl⟩:=Fresh.grow bd dk aI a1;have e6:=a1.keep a9 c3;have aP:=a1.ne a9 D.wf c3;have dL:=bk.appd (show bk nv (.slice aB aA ay) from (bk.symm a8)) bc.own D.wf a1;have cK:=bc.appd a1 (bk.symm a8);have bB:=bk.appd (show bk nv ev from ad) bl.own D.wf a1;have cP:=bl.appd a1 ad;have dM:=aK.appd (show aK nv rows from a7) b9 D.wf a1;have ck:=b9.appd a1 (show aK nv rows from a7);have cv:=ck.snoc cK a6;have aR:=az.snoc aa;have eA:=dG.snoc dz;have bC:=ai.snoc (bk.symm ac);have dO:=dM.snoc dL;refine d2 _ _<|.q Z (cL Z)<|.q Z (aj i4 i3 U Z) ?_;obtain ⟨b3,b1,aS,ex,_⟩:=bm.own.slice;subst ex;refine Ops.l Z (fun _ _ d3 _=>aX (cs:=[.slice b3 b1 aS]) (c':=[.slice b3 b1 aS,ev]) a1.wf rfl rfl rfl rfl i3 e6 (Nat.le_of_ble_eq_true rfl) rfl rfl fun A86 a3=>?_);have cS:=cP.keep a3.keep a4;have cV:=bm.keep a3.keep aP;have ba:=cv.keep a3.keep aR;have dm:=an dl aI cc a3.n a3.keep;refine d3 _ _<|.nil<|e5 _ _<|.seq fun _ e7=>.region<|.q Z (ae Z)<|.q Z (ae Z)<|.q Z (cL Z)<|.q Z (aj l5 iL U Z)<|.q Z (ak iI Z Z a3.get Z) ?_;refine Ops.l Z (fun _ _ dd _=>aO (c:=[.bool (false)]) a3.wf rfl (ax lJ ms z4 rfl U U rfl) fun A96 eN a2=>?_);have dw:=ne_new a3.wf a3.get a2.lo;have ez:=ba.ne_new a3.wf a2.lo;have br:=a2.le.get _ _ a3.get;have aV:=cS.le a2.le;have aY:=cV.le a2.le;have aT:=ba.le a2.le;have bS:=dm.trans a2.le;refine dd _ _<|.l Z (fun _ _ bP _=>cN (ys:=[.bool (false)]) rfl rfl lJ ms Mo z4 rfl U lJ (fun _ h=>by cases h) aV.own (bQ (n:=1) a2.get Z) rfl rfl (by show (_ + _) * 1<=_;simp only [bx,List.length_cons,List.length_nil];(try simp only [List.length_append,List.length_cons,List.length_nil]);omega) On fun A107 eG a0=>?_);rw [show ([.bool (false)]:List Value)=ce [false] from rfl,nw] at a0;obtain ⟨aZ,bT⟩:=Fresh.grow aV bS aI a0;have cX:=a0.keep a4 br;have b2:=a0.ne a4 a2.wf br;have bV:=bk.appd (show bk ev (.slice b3 b1 aS) from (bk.symm bB)) aY.own a2.wf a0;have bM:=aY.appd a0 (bk.symm bB);have bY:=aK.appd (show aK ev (rows ++ [Value.slice aB aA ay]) from bC) aT a2.wf a0;have bD:=aT.appd a0 (show aK ev (rows ++ [Value.slice aB aA ay]) from bC);refine bP _ _<|.q Z (cL Z)<|.q Z (aj l5 iL U Z) ?_;obtain ⟨bA,bu,b8,dI,_⟩:=aZ.own.slice;subst dI;refine Ops.l Z (fun _ _ bR _=>aX (cs:=[.slice bA bu b8]) (c':=[.slice b3 b1 aS,.slice bA bu b8]) a0.wf rfl rfl rfl rfl iL cX (Nat.le_of_ble_eq_true rfl) rfl rfl fun A122 a5=>?_);have b0:=bM.keep a5.keep aP;have bO:=aZ.keep a5.keep b2;have bL:=bD.keep a5.keep aR;have bU:=an bT aI cc a5.n a5.keep;refine bR _ _<|.nil<|e7 _ _<|.seq fun _ cZ=>.region<|.q Z (ae Z)<|.q Z (cL Z)<|.q Z (aj i4 i3 U Z)<|.q Z (ak j7 Z Z a5.get Z)<|.q Z (bF (n:=(rows ++ [Value.slice aB aA ay]).length) oh Z b0.slc O (iZ _)) ?_;refine Ops.q Z (ik (b:=1) Z Z Ov)<|.q Z (ah Z)<|.nil<|cZ _ _<|.rt (by exact aH Z (⟨_,_,_,(show num _=num _ from congrArg (fun z:Nat=>num (z:Int)) (by simp [fm.len])),bU,a5.wf,a5.get,b0,bO,aP,b2,(bk.symm bV),mC bL (by rw [ho,show i=k by omega,Nat.sub_self];simp [C0]),aR,dO,bY⟩))

theorem VM (k:Nat) (w:List UInt8) (b:Nat) (nv ev:Value) (rows:List Value) (L:List (List Int)) (E:List Bool) (A0 A:AH) (b8:A0.le A) (bv:A0.wf) (hb:A.get b=some (.row true [nv,ev] 2)) (eg:A0.get b=none) (frn:Fresh A0 A nv 1 (eh rows)) (fre:Fresh A0 A ev 1 (ce E)) (nn:blk nv ≠ some b) (ne:blk ev ≠ some b) (sne:bk nv ev) (fm:gW A0 A rows L) (fo:dE rows b) (fsn:aK nv rows) (fse:aK ev rows) (hL:gy A0) (hk:k<=1000/\L.length<=100000/\w.length<=100000) (hT:CX k L E) (h0:0 < L.length) (hw:∀ c ∈ w,0<=ix c/\ix c < k):bE Tryz.prog 77 #[.pointer (some ⟨b,0,none⟩),num ((k:Nat):Int),bf (w)] A (fun v A1=>∃ nv2 jI rows2,v=.tuple #[]/\A0.le A1/\A1.wf/\A1.get b=some (.row true [nv2,jI] 2)/\Fresh A0 A1 nv2 1 (eh rows2)/\Fresh A0 A1 jI 1 (ce (wK k L E w))/\blk nv2 ≠ some b/\blk jI ≠ some b/\bk nv2 jI/\gW A0 A1 rows2 (wN k L E w)/\dE rows2 b/\aK nv2 rows2/\aK jI rows2):=by
 refine wR Tryz.call77 Tryz.func77 Z Tryz.results77 Tryz.ntmps77 Z (fun wf=>?_);have hwx:∀ x ∈ w.map ix,0<=x/\x < (k:Int):=fun x hx=>by obtain ⟨c,hc,rfl⟩:=List.mem_map.1 hx;exact hw c hc
 have hwl:(w.map ix).length=w.length:=List.length_map _;refine am.seq fun _ h2=>.region<|.q Z (ah Z)<|.nil<|h2 _ _<|.seq fun _ h4=>.seq fun _ h6=>.region<|.q Z (ae Z)<|.l Z (fun _ _ dZ _=>au Z (Kb w A (hL.le b8) O) ?_);rintro v8 A9 ⟨av,eG,ap⟩;have dK:=av.get _ _ hb;have bU:=frn.le av;have bV:=fre.le av;have bR:=fm.le av;have cv:=b8.trans av;have b2:=ap.base b8;have cK:=ap.sep0 frn.own;have cP:=ap.sep0 fre.own;have cS:=aK.fresh fm ap;have cH:=ap.ne wf hb;refine dZ _ _<|.q Z (bF (n:=(w.map ix).length) em Z b2.slc O (ep _))<|.q Z (ae Z)<|.nil<|h6 _ _<|.block<|.loop (X:=Nat × List Bool × Nat × Value × Value × List Value × List (List Int)) (fun ⟨i,E1,s,a7,qK,rw,L1⟩=>[(0,.pointer (some ⟨b,0,none⟩)),(1,num ((k:Nat):Int)),(6,num ((s:Nat):Int)),(11,v8),(12,num (((w.map ix).length:Nat):Int)),(13,num ((i:Nat):Int))]) (fun ⟨i,E1,s,a7,qK,rw,L1⟩ B=>(i<=(w.map ix).length/\n8 k L E ((w.map ix).take i)=(L1,E1,s)/\CX k L1 E1/\s < L1.length/\L1.length<=L.length + i)/\A0.le B/\Fresh A0 B a7 1 (eh rw)/\Fresh A0 B qK 1 (ce E1)/\Fresh A0 B v8 1 (cJ (w.map ix))/\B.get b=some (.row true [a7,qK] 2)/\V.blk a7 ≠ some b/\V.blk qK ≠ some b/\V.blk v8 ≠ some b/\bk a7 qK/\bk a7 v8/\bk qK v8/\gW A0 B rw L1/\dE rw b/\aK a7 rw/\aK qK rw/\aK v8 rw) (fun ⟨i,E1,s,a7,qK,rw,L1⟩=>(w.map ix).length - i) (⟨0,E,0,nv,ev,rows,L⟩) (al.cons Z<|al.cons Z<|al.cons (congrArg (fun z:Int=>some (num z)) (by first | exact vv hok ar (by have:=hxw O;omega) | omega))<|kX Z Z Z) (⟨⟨Nat.zero_le _,Z,hT,h0,by omega⟩,cv,bU,bV,b2,dK,nn,ne,cH,sne,(bk.symm cK),(bk.symm cP),bR,fo,fsn,fse,cS⟩) ?_;rintro ⟨i,E1,s,a7,qK,rw,L1⟩ B22 ⟨⟨hi,hrun,hok,ar,g5⟩,aY,a1,a9,D,a8,ab,a3,h,ac,a5,a6,a4,ad,aa,a2,a0⟩;refine am.wf fun ba=>?_;have hrw:rw.length=L1.length:=by first | exact gW.len ‹_›
 have hxw:=fun q:i < (w.map ix).length=>hwx _ (bi (d:=(0:Int)) q);have hro:=hok.row s ar;have hvo:=fun q:((w.map ix).getD i 0).toNat < k=>hok.val s ((w.map ix).getD i 0).toNat ar q;have hEl:=hok.len;refine am.seq fun _ dL=>.region<|.q Z (bX Z Z)<|.nil<|dL _ _<|.seq fun _ dM=>.if rfl (fun ey=>?_) (fun ey=>?_)
 ·refine am.skip<|dM _ _<|.seq fun _ bm=>.block<|.seq fun _ dO=>.region ?_;obtain ⟨fD,fT,fd,gG,eZ,gl,g6,cZ,e2,dk,eL,bA⟩:=bI.at (i:=i) D.slc Oa O;refine Ops.q Z (aE em cW Z cZ Z e2)<|.q Z (ak eR Z Z dk ((cM bA).trans (cU O)))<|.q Z (ah Z)<|.nil<|dO _ _<|.seq fun _ bp=>.seq fun _ dS=>.region<|.q Z (ae Z)<|.q Z (cL Z) ?_;refine Ops.q Z (aj i4 i3 U Z)<|.q Z (ak j7 Z Z a8 Z)<|.q Z (ae Z) ?_;obtain ⟨fE,fV,fe,gL,f0,gm,g7,d0,e3,dl,eN,bB⟩:=bI.at (i:=s) a1.slc Oi O;refine Ops.q Z (aE oh fB Z d0 Z e3)<|.q Z (ak lN Z Z dl ((cM bB).trans (eH O)))<|.q Z (ae Z) ?_;obtain ⟨fI,fX,fi,gM,f1,gp,g8,d1,e4,dm,eQ,bC⟩:=bI.at (i:=((w.map ix).getD i 0).toNat) (a4.fr s O).slc (by simp only [aw];have:=hxw O;omega) O;refine Ops.q Z (aE em cW Z d1 (i8 (by have:=hxw O;omega)) e4)<|.q Z (ak eR Z Z dm ((cM bC).trans (cU (by have:=hxw O;omega))))<|.q Z (kG Z Z)<|.nil<|dS _ _<|.if rfl (fun ez=>?_) (fun ez=>?_)
  ·refine am.seq fun _ dV=>.region<|.q Z (ae Z)<|.q Z (ae Z) ?_;have aP:=cd (bs:=([some b,blk a7,blk qK] ++ rw.map blk)) aY (DU (um eg (sC a1.lo (sC a9.lo o4))) a4);refine Ops.l Z (fun _ _ cf _=>au Z (O8 k b a7 qK rw L1 E1 (B22.hide ([some b,blk a7,blk qK] ++ rw.map blk)) B22 (cx B22 ([some b,blk a7,blk qK] ++ rw.map blk)) (cg ba) a8 (cn (by simp)) (a1.hide (by simp)) (a9.hide (by simp)) ab a3 ac a4.hideAll ad aa a2 ⟨by omega,by omega,by omega⟩) ?_);rintro h1 A45 ⟨bc,bb,aG,rfl,b0,bd,aF,az,aA,aS,aT,aV,aI,aB,aC,aD⟩;have b9:=aI.sepOff D.own (ma (kf h (jA a5 (jA a6 ke))) a0);have cV:=az.sep D.own (ma (kf h (jA a5 (jA a6 ke))) a0);have cX:=aA.sep D.own (ma (kf h (jA a5 (jA a6 ke))) a0);have bY:=D.off (ma (kf h (jA a5 (jA a6 ke))) a0) b0;have b3:=az.base aP;have c3:=aA.base aP;have ay:=aI.base aP;have cA:=aP.trans b0;have b7:=aI.len;rw [List.length_append,List.length_singleton] at b7;have hgl:((L1 ++ [C0 k]).getD s []).length=k:=by rw [j8 ar];exact hok.row s ar
   have hll:(L1 ++ [C0 k]).length=L1.length + 1:=by simp
   refine cf _ _<|.q Z (ah Z)<|.nil<|dV _ _<|.region<|.q Z (ae Z)<|.q Z (cL Z)<|.q Z (aj i4 i3 U Z)<|.q Z (ak j7 Z Z aF Z)<|.q Z (ae Z) ?_;obtain ⟨fL,g0,fl,gN,f2,gq,g9,d2,e5,dv,eS,bD⟩:=bI.at (i:=s) b3.slc Oi O;refine Ops.q Z (aE oh fB Z d2 Z e5)<|.q Z (ak lN Z Z dv ((cM bD).trans (eH O)))<|.q Z (ae Z)<|.q Z (ae Z) ?_;obtain ⟨b1,gs,fR,eA,f3,aR,e6,dw,h3,en,gY,e0⟩:=ay.at (s:=s) (x:=((w.map ix).getD i 0).toNat) O (by have:=hxw O;omega);refine Ops.q Z (aE em cW Z aR (i8 (by have:=hxw O;omega)) (by rw [e6];have:=hxw O;omega))<|.l Z (fun _ _ ch _=>aX (off:=((w.map ix).getD i 0).toNat) (c':=eA.set (((w.map ix).getD i 0).toNat) (num ((L1.length:Nat):Int))) bd rfl (by simp) rfl rfl cW dw (by show (((w.map ix).getD i 0).toNat) + 1<=_;omega) rfl rfl fun A59 ag=>?_);have br:=ag.keep _ _ (fun q=>d4 aB (s:=s) (by have:=ay.len;omega) (by rw [aR];exact congrArg some q.symm)) aF;have c4:=bY.keep ag.keep (fun q=>d4 b9 (s:=s) (by have:=ay.len;omega) b1 q (by rw [aR];rfl));have b5:=b3.keep ag.keep (fun q=>d4 aC (s:=s) (by have:=ay.len;omega) b1 q (by rw [aR];rfl));have c7:=c3.keep ag.keep (fun q=>d4 aD (s:=s) (by have:=ay.len;omega) b1 q (by rw [aR];rfl));have bS:=e0 (((L1.length:Nat):Int)) A59 ag;have cC:=an cA bv en ag.n ag.keep;refine ch _ _<|.nil ?_;have hgr:((grow k L1 s ((w.map ix).getD i 0).toNat).getD s []).length=k:=(yJ hok ar O).row s (by rw [jw];omega);have hgll:(grow k L1 s ((w.map ix).getD i 0).toNat).length=L1.length + 1:=jw;have fmG:gW A0 A59 aG (grow k L1 s ((w.map ix).getD i 0).toNat):=bS;have hgm:=fmG.len;refine bp _ _<|.region<|.q Z (ae Z)<|.q Z (cL Z)<|.q Z (aj i4 i3 U Z)<|.q Z (ak j7 Z Z br Z)<|.q Z (ae Z) ?_;obtain ⟨fM,g1,fn,gP,f4,gA,gc,d3,e7,dz,eT,bL⟩:=bI.at (i:=s) b5.slc Oi O;refine Ops.q Z (aE oh fB Z d3 Z e7)<|.q Z (ak lN Z Z dz ((cM bL).trans (eH O)))<|.q Z (ae Z) ?_;obtain ⟨fN,g2,fq,gQ,f5,gC,ge,dd,e9,dD,eV,bM⟩:=bI.at (i:=((w.map ix).getD i 0).toNat) (fmG.fr s O).slc (by simp only [aw];have:=hxw O;omega) O;refine Ops.q Z (aE em cW Z dd (i8 (by have:=hxw O;omega)) e9)<|.q Z (ak eR Z Z dD ((cM bM).trans (cU (by have:=hxw O;omega))))<|.q Z (ah Z)<|.nil<|bm _ _<|.region<|.q Z (bq (b:=1) Z Z O)<|.q Z (ae Z)<|.nil ?_;exact ⟨⟨i + 1,E1 ++ [false],L1.length,bc,bb,aG,grow k L1 s ((w.map ix).getD i 0).toNat⟩,al.cons Z<|al.cons Z<|al.cons (congrArg (fun z:Int=>some (num z)) (by first | exact vv hok ar (by have:=hxw O;omega) | omega))<|kX Z Z Z,Z,⟨⟨by omega,Cd O hrun ‹_›,yJ hok ar (by have:=hxw O;omega),by omega,by omega⟩,cC,b5,c7,c4,br,aS,aT,h,aV,cV,cX,fmG,aB,aC,aD,b9⟩,O1⟩
  refine am.skip<|bp _ _<|.region<|.q Z (ae Z)<|.q Z (cL Z)<|.q Z (aj i4 i3 U Z)<|.q Z (ak j7 Z Z a8 Z)<|.q Z (ae Z) ?_;obtain ⟨fO,g3,ft,gS,f6,gD,gf,di,ea,dG,eX,bO⟩:=bI.at (i:=s) a1.slc Oi O;refine Ops.q Z (aE oh fB Z di Z ea)<|.q Z (ak lN Z Z dG ((cM bO).trans (eH O)))<|.q Z (ae Z) ?_;obtain ⟨fQ,g4,fv,gX,f7,gE,gg,dj,ec,dI,eY,bP⟩:=bI.at (i:=((w.map ix).getD i 0).toNat) (a4.fr s O).slc (by simp only [aw];have:=hxw O;omega) O;refine Ops.q Z (aE em cW Z dj (i8 (by have:=hxw O;omega)) ec)<|.q Z (ak eR Z Z dI ((cM bP).trans (cU (by have:=hxw O;omega))))<|.q Z (ah Z)<|.nil<|bm _ _<|.region<|.q Z (bq (b:=1) Z Z O)<|.q Z (ae Z)<|.nil ?_;exact ⟨⟨i + 1,E1,((L1.getD s []).getD ((w.map ix).getD i 0).toNat 0).toNat,a7,qK,rw,L1⟩,al.cons Z<|al.cons Z<|al.cons (congrArg (fun z:Int=>some (num z)) (by first | exact vv hok ar (by have:=hxw O;omega) | omega))<|kX Z Z Z,Z,⟨⟨by omega,Ce O hrun ‹_›,hok,by have:=hvo (by have:=hxw O;omega);omega,by omega⟩,aY,a1,a9,D,a8,ab,a3,h,ac,a5,a6,a4,ad,aa,a2,a0⟩,O1⟩
 refine am.exit<|h4 _ _<|.region<|.q Z (ae Z)<|.q Z (cL Z)<|.q Z (aj l5 iL U Z)<|.q Z (ak iI Z Z a8 Z)<|.q Z (ae Z) ?_;obtain ⟨bl,gF,fS,eC,f9,aZ,bu,dJ,h5,ex,gZ,e1⟩:=a9.at1 (x:=s) Of;rw [bx] at bu;refine Ops.q Z (aE lJ ms Z aZ Z (by rw [bu];omega))<|.l Z (fun _ _ ck _=>aX (off:=s) (c':=eC.set s (.bool (true))) ba rfl (by simp) rfl rfl ms dJ (by show s + 1<=_;omega) rfl rfl fun A73 ai=>?_);have dW:=ai.keep _ _ (fun q=>a3 (by rw [aZ];exact congrArg some q.symm)) a8;have cc:=a1.keep ai.keep ((bk.symm ac) bl (by rw [aZ];rfl));have bT:=a4.keep ai.keep (fun r hr=>a2 r hr bl (by rw [aZ];rfl));have b6:=e1 (.bool (true)) A73 ai;rw [kU] at b6;have cF:=an aY bv ex ai.n ai.keep;refine ck _ _<|.nil ?_;repeat first | with_reducible refine bz ?_ | with_reducible refine bn ?_
 repeat first | with_reducible refine e8 ?_ | with_reducible refine ej ?_ | with_reducible refine dQ U ?_ | with_reducible refine dR ?_ | with_reducible refine da ?_
 exact xM (vs:=[]) Z (⟨_,_,_,Z,cF,ai.wf,dW,cc,cw b6 (congrArg ce (by rw [wK,<- List.take_of_length_le (show (w.map ix).length<=i by omega),hrun])),ab,a3,ac,mC bT (by rw [wN,<- List.take_of_length_le (show (w.map ix).length<=i by omega),hrun]),ad,aa,a2⟩)
end Go.Proofs.YtjppkekmddjcfaaGreatDoor

namespace Go.Proofs.YtjppkekmddjcfaaGreatDoor
open Go Go.RowKit V
set_option maxRecDepth 100000
theorem sY:d5 Tryz.prog 62 0=some (3,0):=by kernel_rfl
theorem vt:d5 Tryz.prog 62 1=some (3,1):=by kernel_rfl
theorem lq:d5 Tryz.prog 62 2=some (59,2):=by kernel_rfl
theorem lr:d5 Tryz.prog 62 3=some (60,3):=by kernel_rfl

theorem OQ (k:Nat) (acc:List Bool) (L:List (List Int)) (av nv:Value) (rows:List Value) (A:AH) (hok:KN k acc L) (hav:bI A 1 av (ce acc)) (hnv:bI A 1 nv (eh rows)) (hrl:rows.length=L.length) (hF:∀ i,i < L.length->bI A 1 (rows.getD i undef) (cJ (L.getD i []))):bE Tryz.prog 116 #[.agg #[num ((k:Nat):Int),num ((0:Nat):Int),av,nv]] A (fun v A1=>v=num ((0:Nat):Int)/\A.le A1/\A1.wf):=by
 refine gR Tryz.call116 Tryz.func116 Z Tryz.results116 Tryz.ntmps116 Z (fun wf=>?_);have b8:=AH.le.refl A;obtain ⟨⟨bY,c3⟩,hal,⟨bU,bV⟩,hrow,hval⟩:=hok;refine am.seq fun _ h2=>.region<|.l Z (fun _ _ b5 _=>d8 wf rfl rfl fun A5 b4 h=>?_);have D:=b8.trans h.le;refine b5 _ _<|.q Z (ah Z)<|.nil<|h2 _ _<|.seq fun _ h9=>.region<|.q Z (aj lq iL U Z)<|.q Z (ak iI Z Z h.get Z)<|.q Z (bF (n:=acc.length) lJ Z (hav.le D) O (fj _))<|.q Z (ah Z) ?_;refine Ops.nil<|h9 _ _<|.seq fun _ ag=>.seq fun _ a1=>.region<|.q Z (aj sY cW U Z)<|.q Z (ak eR Z Z h.get Z)<|.q Z (bX (b:=1) Z Z)<|.q Z (ae Z)<|.part (t:=14) Z (fun b9=>?_) (fun b9=>?_)
 ·refine Ops.off Z Z Z Z<|.off Z Z Z Z<|.off Z Z Z Z<|.q Z (aJ Z Z)<|.q Z (ae Z)<|.off Z Z Z Z<|.off Z Z Z Z<|.q Z (aJ Z Z)<|.q Z (ae Z)<|.off Z Z Z Z ?_;refine Ops.off Z Z Z Z<|.off Z Z Z Z<|.off Z Z Z Z<|.off Z Z Z Z<|.q Z (aJ Z Z)<|.q Z (ae Z)<|.off Z Z Z Z<|.off Z Z Z Z<|.off Z Z Z Z<|.q Z (aJ Z Z) ?_;refine Ops.q Z (ae Z)<|.off Z Z Z Z<|.off Z Z Z Z<|.off Z Z Z Z<|.off Z Z Z Z<|.off Z Z Z Z<|.q Z (aJ Z Z)<|.nil<|a1 _ _<|.cond_true Z ?_;refine am.seq fun _ ai=>.region<|.q Z (ah Z)<|.nil<|ai _ _<|.rt (by exact aH Z (⟨by first | rfl | (exfalso;omega) | (exfalso;have:=hro O;omega) | (exfalso;have:=hva O;simp only [ia] at this;omega),D,h.wf⟩))
 refine Ops.on Z Z<|.q Z (aj sY cW U Z)<|.on Z Z<|.q Z (ak eR Z Z h.get Z)<|.on Z Z<|.q Z (ee (b:=400) Z Z)<|.q Z (aU Z Z)<|.q Z (ae Z)<|.part (t:=19) Z (fun ba=>?_) (fun ba=>?_)
 ·refine Ops.off Z Z Z Z<|.off Z Z Z Z<|.q Z (aJ Z Z)<|.q Z (ae Z)<|.off Z Z Z Z<|.off Z Z Z Z<|.off Z Z Z Z<|.off Z Z Z Z<|.off Z Z Z Z<|.q Z (aJ Z Z) ?_;refine Ops.q Z (ae Z)<|.off Z Z Z Z<|.off Z Z Z Z<|.off Z Z Z Z<|.q Z (aJ Z Z)<|.q Z (ae Z)<|.off Z Z Z Z<|.off Z Z Z Z<|.off Z Z Z Z<|.off Z Z Z Z ?_;refine Ops.off Z Z Z Z<|.q Z (aJ Z Z)<|.nil<|a1 _ _<|.cond_true Z<|.seq fun _ ap=>.region<|.q Z (ah Z)<|.nil<|ap _ _ ?_;refine am.ret ?_;repeat first | with_reducible refine bz ?_ | with_reducible refine bn ?_
  exact aH Z (⟨by first | rfl | (exfalso;omega) | (exfalso;have:=hro O;omega) | (exfalso;have:=hva O;simp only [ia] at this;omega),D,h.wf⟩)
 refine Ops.on Z Z<|.q Z (ae Z)<|.on Z Z<|.q Z (ee (b:=20000) Z Z)<|.q Z (aU Z Z)<|.q Z (ae Z)<|.part (t:=23) Z (fun bb=>?_) (fun bb=>?_)
 ·refine Ops.off Z Z Z Z<|.off Z Z Z Z<|.off Z Z Z Z<|.off Z Z Z Z<|.off Z Z Z Z<|.q Z (aJ Z Z)<|.q Z (ae Z)<|.off Z Z Z Z<|.off Z Z Z Z<|.off Z Z Z Z ?_;refine Ops.q Z (aJ Z Z)<|.q Z (ae Z)<|.off Z Z Z Z<|.off Z Z Z Z<|.off Z Z Z Z<|.off Z Z Z Z<|.off Z Z Z Z<|.q Z (aJ Z Z)<|.nil<|a1 _ _ ?_;refine am.cond_true Z<|.seq fun _ ar=>.region<|.q Z (ah Z)<|.nil<|ar _ _<|.rt (by exact aH Z (⟨by first | rfl | (exfalso;omega) | (exfalso;have:=hro O;omega) | (exfalso;have:=hva O;simp only [ia] at this;omega),D,h.wf⟩))
 refine Ops.on Z Z<|.q Z (aj lr i3 U Z)<|.on Z Z<|.q Z (ak j7 Z Z h.get Z)<|.on Z Z<|.q Z (bF (n:=rows.length) oh Z (hnv.le D) O (iZ _))<|.on Z Z<|.q Z (ae Z)<|.on Z Z<|.q Z (fg Z Z) ?_;refine Ops.q Z (aU Z Z)<|.q Z (ae Z)<|.part (t:=30) Z (fun bc=>?_) (fun bc=>?_)
 ·refine Ops.off Z Z Z Z<|.off Z Z Z Z<|.off Z Z Z Z<|.q Z (aJ Z Z)<|.q Z (ae Z)<|.off Z Z Z Z<|.off Z Z Z Z<|.off Z Z Z Z<|.off Z Z Z Z<|.off Z Z Z Z ?_;refine Ops.q Z (aJ Z Z)<|.nil<|a1 _ _<|.cond_true Z<|.seq fun _ ay=>.region<|.q Z (ah Z)<|.nil<|ay _ _<|.rt (by exact aH Z (⟨by first | rfl | (exfalso;omega) | (exfalso;have:=hro O;omega) | (exfalso;have:=hva O;simp only [ia] at this;omega),D,h.wf⟩))
 refine Ops.on Z Z<|.q Z (aj vt cW U Z)<|.on Z Z<|.q Z (ak eR Z Z h.get Z)<|.on Z Z<|.q Z (bX (a:=0) (b:=0) Z Z)<|.q Z (aU Z Z)<|.q Z (ae Z)<|.part (t:=35) Z (fun bd=>?_) (fun bd=>?_)
 ·refine Ops.off Z Z Z Z<|.off Z Z Z Z<|.off Z Z Z Z<|.off Z Z Z Z<|.off Z Z Z Z<|.q Z (aJ Z Z)<|.nil<|a1 _ _<|.cond_true Z<|.seq fun _ az=>?_;refine am.region<|.q Z (ah Z)<|.nil<|az _ _<|.rt (by exact aH Z (⟨by first | rfl | (exfalso;omega) | (exfalso;have:=hro O;omega) | (exfalso;have:=hva O;simp only [ia] at this;omega),D,h.wf⟩))
 refine Ops.on Z Z<|.q Z (aj vt cW U Z)<|.on Z Z<|.q Z (ak eR Z Z h.get Z)<|.on Z Z<|.q Z (ae Z)<|.on Z Z<|.q Z (VD Z Z)<|.on Z Z<|.q Z (vM (a:=0) Z Z) ?_;refine Ops.q Z (aU Z Z)<|.nil<|a1 _ _<|.if rfl (fun bl=>?_) (fun bl=>?_)
 ·refine am.seq fun _ aA=>.region<|.q Z (ah Z)<|.nil<|aA _ _<|.rt (by exact aH Z (⟨by first | rfl | (exfalso;omega) | (exfalso;have:=hro O;omega) | (exfalso;have:=hva O;simp only [ia] at this;omega),D,h.wf⟩))
 refine am.skip<|ag _ _<|.seq fun _ aB=>.seq fun _ aC=>.region<|.q Z (aj lr i3 U Z)<|.q Z (ak j7 Z Z h.get Z)<|.q Z (bF (n:=rows.length) oh Z (hnv.le D) O (iZ _))<|.q Z (ae Z)<|.nil ?_;refine aC _ _<|.block<|.loop (X:=Nat) (fun i=>[(1,.pointer (some ⟨b4,0,none⟩)),(3,num ((acc.length:Nat):Int)),(43,nv),(44,num ((rows.length:Nat):Int)),(45,num ((i:Nat):Int))]) (fun i B=>(i<=L.length)/\A.le B/\B.get b4=some (.row true [num ((k:Nat):Int),num ((0:Nat):Int),av,nv] 4)) (fun i=>L.length - i) 0 (qk Z Z Z Z Z) (⟨(Nat.zero_le _),D,h.get⟩) ?_;rintro i B37 ⟨hi,V,a2⟩;refine am.wf fun a5=>?_;have hro:=fun q:i < L.length=>hrow i q;refine am.seq fun _ aD=>.region<|.q Z (bX Z Z)<|.nil<|aD _ _<|.seq fun _ aF=>.if rfl (fun bm=>?_) (fun bm=>?_)
 ·refine am.skip<|aF _ _<|.seq fun _ aG=>.block<|.seq fun _ aI=>.region ?_;obtain ⟨bP,bS,bM,ch,bD,cc,c4,aa,b6,ac,bA,a8⟩:=bI.at (i:=i) (hnv.le V) Oi O;refine Ops.q Z (aE oh fB Z aa Z b6)<|.q Z (ak lN Z Z ac ((cM a8).trans (eH O)))<|.q Z (ah Z)<|.nil<|aI _ _<|.seq fun _ aP=>.seq fun _ aR=>.region<|.q Z (ae Z)<|.q Z (bF (n:=((L.getD i [])).length) em Z ((hF i O).le V) O (ep _)) ?_;refine Ops.q Z (aj sY cW U Z)<|.q Z (ak eR Z Z a2 Z)<|.q Z (fg Z Z)<|.nil<|aR _ _<|.if rfl (fun bp=>?_) (fun bp=>?_)
  ·refine am.seq fun _ aS=>.region<|.q Z (ah Z)<|.nil<|aS _ _<|.rt (by exact aH Z (⟨by first | rfl | (exfalso;omega) | (exfalso;have:=hro O;omega) | (exfalso;have:=hva O;simp only [ia] at this;omega),V,a5⟩))
  refine am.skip<|aP _ _<|.seq fun _ aT=>.region<|.q Z (ae Z)<|.q Z (bF (n:=((L.getD i [])).length) em Z ((hF i O).le V) O (ep _))<|.q Z (ae Z)<|.nil<|aT _ _<|.block ?_;refine am.loop (X:=Nat) (fun j=>[(1,.pointer (some ⟨b4,0,none⟩)),(3,num ((acc.length:Nat):Int)),(43,nv),(44,num ((rows.length:Nat):Int)),(45,num ((i:Nat):Int)),(54,rows.getD i undef),(55,num ((((L.getD i [])).length:Nat):Int)),(56,num ((j:Nat):Int))]) (fun j B=>(j<=k/\i < L.length)/\A.le B/\B.get b4=some (.row true [num ((k:Nat):Int),num ((0:Nat):Int),av,nv] 4)) (fun j=>k - j) 0 (yC Z Z Z Z Z Z Z Z) (⟨⟨Nat.zero_le _,by omega⟩,V,a2⟩) ?_;rintro j B59 ⟨⟨hj,a4⟩,a0,a3⟩;refine am.wf fun a6=>?_;have bC:=hrow i a4;have hva:=fun q:j < k=>hval i j a4 q;refine am.seq fun _ aV=>.region<|.q Z (bX Z Z)<|.nil<|aV _ _<|.seq fun _ aY=>.if rfl (fun br=>?_) (fun br=>?_)
  ·refine am.skip<|aY _ _<|.seq fun _ aZ=>.block<|.seq fun _ b0=>.region ?_;obtain ⟨bR,bT,bO,ck,bL,cf,c7,ab,b7,ad,bB,a9⟩:=bI.at (i:=j) ((hF i O).le a0) Oa O;refine Ops.q Z (aE em cW Z ab Z b7)<|.q Z (ak eR Z Z ad ((cM a9).trans (cU O)))<|.q Z (ah Z)<|.nil<|b0 _ _<|.seq fun _ a7=>.region<|.q Z (ae Z)<|.q Z (kG Z Z)<|.q Z (ae Z) ?_;refine Ops.part (t:=62) Z (fun bu=>?_) (fun bu=>?_)
   ·refine Ops.off Z Z Z Z<|.off Z Z Z Z<|.off Z Z Z Z<|.q Z (aJ Z Z)<|.nil<|a7 _ _<|.cond_true Z<|.seq fun _ b1=>.region<|.q Z (ah Z) ?_;refine Ops.nil<|b1 _ _<|.rt (by exact aH Z (⟨by first | rfl | (exfalso;omega) | (exfalso;have:=hro O;omega) | (exfalso;have:=hva O;simp only [ia] at this;omega),a0,a6⟩))
   refine Ops.on Z Z<|.q Z (ae Z)<|.on Z Z<|.q Z (ae Z)<|.on Z Z<|.q Z (lz Z Z)<|.q Z (aU Z Z)<|.nil<|a7 _ _<|.if rfl (fun bv=>?_) (fun bv=>?_)
   ·refine am.seq fun _ b2=>.region<|.q Z (ah Z)<|.nil<|b2 _ _<|.rt (by exact aH Z (⟨by first | rfl | (exfalso;omega) | (exfalso;have:=hro O;omega) | (exfalso;have:=hva O;simp only [ia] at this;omega),a0,a6⟩))
   refine am.skip<|aZ _ _<|.region<|.q Z (bq (b:=1) Z Z O)<|.q Z (ae Z)<|.nil ?_;exact ⟨j + 1,yC Z Z Z Z Z Z Z Z,Z,⟨⟨by omega,a4⟩,a0,a3⟩,O1⟩
  refine am.exit<|aG _ _<|.region<|.q Z (bq (b:=1) Z Z O)<|.q Z (ae Z)<|.nil ?_;exact ⟨i + 1,qk Z Z Z Z Z,Z,⟨O,a0,a3⟩,O1⟩
 refine am.exit<|aB _ _<|.seq fun _ b3=>.region<|.q Z (ah Z)<|.nil<|b3 _ _<|.rt (by exact aH Z (⟨by first | rfl | (exfalso;omega) | (exfalso;have:=hro O;omega) | (exfalso;have:=hva O;simp only [ia] at this;omega),V,a5⟩))

theorem O0 (k:Nat) (acc:List Bool) (L:List (List Int)) (av nv:Value) (rows:List Value) (A:AH) (hok:KN k acc L) (hav:bI A 1 av (ce acc)) (hnv:bI A 1 nv (eh rows)) (hrl:rows.length=L.length) (hF:∀ i,i < L.length->bI A 1 (rows.getD i undef) (cJ (L.getD i []))):bE Tryz.prog 149 #[.agg #[num ((k:Nat):Int),num ((0:Nat):Int),av,nv]] A (fun v A1=>v=num ((0:Nat):Int)/\A.le A1/\A1.wf):=by
 refine gR Tryz.call149 Tryz.func149 Z Tryz.results149 Tryz.ntmps149 Z (fun wf=>?_);have a2:=AH.le.refl A;obtain ⟨⟨a6,a7⟩,hal,⟨a4,a5⟩,hrow,hval⟩:=hok;refine am.seq fun _ h2=>.region<|.l Z (fun _ _ a1 _=>d8 wf rfl rfl fun A5 b4 h=>?_);have D:=a2.trans h.le;refine a1 _ _<|.q Z (ah Z)<|.nil<|h2 _ _<|.seq fun _ h9=>.seq fun _ V=>.region<|.q Z (aj lq iL U Z)<|.q Z (ak iI Z Z h.get Z)<|.q Z (bF (n:=acc.length) lJ Z (hav.le D) O (fj _)) ?_;refine Ops.q Z (iY (b:=0) Z Z)<|.nil<|V _ _<|.if rfl (fun a3=>?_) (fun a3=>?_)
 ·refine am.seq fun _ X=>.region<|.q Z (ah Z)<|.nil<|X _ _<|.rt (by exact aH Z (⟨by first | rfl | (exfalso;omega),D,h.wf⟩))
 refine am.skip<|h9 _ _<|.seq fun _ a0=>.region<|.q Z (aj vt cW U Z)<|.q Z (ak eR Z Z h.get Z)<|.q Z (ah Z)<|.nil<|a0 _ _<|.rt (by exact aH Z (⟨by first | rfl | (exfalso;omega),D,h.wf⟩))

theorem OU (k:Nat) (acc:List Bool) (L:List (List Int)) (av nv:Value) (rows:List Value) (s:Int) (c:Nat) (A:AH) (hok:KN k acc L) (hav:bI A 1 av (ce acc)) (hnv:bI A 1 nv (eh rows)) (hrl:rows.length=L.length) (hF:∀ i,i < L.length->bI A 1 (rows.getD i undef) (cJ (L.getD i []))) (hs:s < L.length) (hc:c < k):bE Tryz.prog 151 #[.agg #[num ((k:Nat):Int),num ((0:Nat):Int),av,nv],num (s),num ((c:Nat):Int)] A (fun v A1=>v=num (if s < 0 then -1 else ia L s.toNat c)/\A.le A1/\A1.wf):=by
 refine wR Tryz.call151 Tryz.func151 Z Tryz.results151 Tryz.ntmps151 Z (fun wf=>?_);have aa:=AH.le.refl A;obtain ⟨⟨aF,aG⟩,hal,⟨aC,aD⟩,hrow,hval⟩:=hok;have hro:=fun q:0<=s=>hrow s.toNat O;refine am.seq fun _ h2=>.region<|.l Z (fun _ _ a7 _=>d8 wf rfl rfl fun A5 b4 D=>?_);have h:=aa.trans D.le;refine a7 _ _<|.q Z (ah Z)<|.nil<|h2 _ _<|.seq fun _ h9=>.seq fun _ a4=>.region<|.q Z (ae Z)<|.q Z (kG Z Z)<|.nil ?_;refine a4 _ _<|.if rfl (fun ab=>?_) (fun ab=>?_)
 ·refine am.seq fun _ a5=>.region<|.q Z (ah Z)<|.nil<|a5 _ _<|.rt (by exact aH Z (⟨by first | (rw [if_pos ‹_›];rfl) | (rw [if_neg ‹_›];rfl),h,D.wf⟩))
 refine am.skip<|h9 _ _<|.seq fun _ a6=>.region<|.q Z (aj lr i3 U Z)<|.q Z (ak j7 Z Z D.get Z)<|.q Z (ae Z) ?_;obtain ⟨ay,aA,ap,aT,ag,aR,aI,a0,a8,a2,ac,V⟩:=bI.at (i:=(s).toNat) (hnv.le h) Oi O;refine Ops.q Z (aE oh fB Z a0 (i8 O) a8)<|.q Z (ak lN Z Z a2 ((cM V).trans (eH O)))<|.q Z (ae Z) ?_;obtain ⟨az,aB,ar,aV,ai,aS,aP,a1,a9,a3,ad,X⟩:=bI.at (i:=c) ((hF ((s).toNat) O).le h) (by simp only [aw];have:=hro O;omega) O;refine Ops.q Z (aE em cW Z a1 Z a9)<|.q Z (ak eR Z Z a3 ((cM X).trans (cU (by have:=hro O;omega))))<|.q Z (ah Z)<|.nil<|a6 _ _<|.rt (by exact aH Z (⟨by first | (rw [if_pos ‹_›];rfl) | (rw [if_neg ‹_›];rfl),h,D.wf⟩))
end Go.Proofs.YtjppkekmddjcfaaGreatDoor

namespace Go.Proofs.YtjppkekmddjcfaaGreatDoor
open Go Go.RowKit
namespace V
inductive OT where
  | done:OT
  | one (i:Nat) (t:OT):OT
  | two (i j:Nat) (t u:OT):OT
def OT.len:OT->Nat
  | .done=>0
  | .one _ t=>t.len + 1
  | .two _ _ t _=>t.len + 1
def lm (ops:Array Oper):Array Bool->OT->Bool
  | listed,.done=>(Region.ready .any ops listed).isEmpty
  | listed,.one i C=>match ops[i]? with
    | none=>false
    | some o =>
      if dq o.op then (Region.ready .any ops listed).contains i && Region.free .any ops listed i && lm ops (listed.setIfInBounds i true) C
      else (Region.ready .any ops listed == [i]) && lm ops (listed.setIfInBounds i true) C
  | listed,.two i j C D=>(Region.ready .any ops listed == [i,j]) && lm ops (listed.setIfInBounds i true) C && lm ops (listed.setIfInBounds j true) D && (C.len == D.len)
section
variable {P:Program} {nt:Nat} {ops:Array Oper} {Q:Exit->Fr->AH->Prop} {f:Fr} {A:AH}
def cG (P:Program) (nt:Nat) (ops:Array Oper) (Q:Exit->Fr->AH->Prop) (listed:Array Bool) (held:List (Nat × eK)) (C:OT) (f:Fr) (A:AH):Prop :=
  lm ops listed C=true->Region.noSelect ops=true->∀ a w,cO nt f a->co A w->dF ops held listed w->kB ops listed ->
    ∀ (A₀:AH) (w₀:World),eD A₀ w₀ A w->eJ P ops (dH nt Q A₀ w₀) (dF ops held) C.len listed a w
theorem cG.quiet {listed:Array Bool} {held:List (Nat × eK)} {i:Nat} {C:OT} {o:Oper} {v:Value} {T:eK} (ho:ops[i]? = some o) (hq:dq o.op=true) (hd:∀ t,o.dst=some t->t < nt)
    (hv:∀ a w,cO nt f a->co A w->fa T w/\YieldsIf P ops (fa T) o v a)
    (h:cG P nt ops Q (listed.setIfInBounds i true) ((i,T) :: held) C ⟨fA f.e o.dst v,f.ds⟩ A):cG P nt ops Q listed held (.one i C) f A:=by
  intro hc hn a w ha hw hh hcl A₀ w₀ hs
  simp only [lm,ho,if_pos hq,Bool.and_eq_true] at hc
  obtain ⟨⟨c1,c2⟩,c3⟩:=hc
  obtain ⟨t1,t2⟩:=hv a w ha hw
  have hr:i ∈ Region.ready .any ops listed:=by simpa using c1
  have hheld:dF ops ((i,T) :: held) listed w:=fun p hp hj=>by
    rcases List.mem_cons.1 hp with rfl | hp
    · exact t1
    · exact hh p hp hj
  have H:=h c3 hn _ w (ha.put o.dst v hd) hw ((je ho hq _ _).2 hheld) (gH hcl hr) A₀ w₀ hs
  have free:=Region.free_spec ho c2
  have H':eJ P ops (dH nt Q A₀ w₀) (dF ops ((i,T) :: held)) (C.len + 1) listed a w :=
    ol (T:=fa T) ho (Region.noSelect_spec hn) (fun c a w g=>tp _ _ c a w g)
      (fun l w' hcl' hun hS=>hS (i,T) (List.mem_cons_self ..) fun j hl ⟨oj,hoj,_⟩=>by
        cases q:lg ops i ops.size j with
        | false=>rfl
        | true =>
          have:=jL hcl' ops.size j oj hoj (hcl' j oj hoj hl) q
          rw [iu hun] at this;cases this)
      (fun l w'=>je ho hq l w') _ listed a w hcl (fun j oj hoj hne hun hno=>free j oj hoj hne hun hno) hr t2 hheld H
  -- less is asked
  have weaken:∀ (fuel:Nat) (l:Array Bool) (a:Act) (w:World),eJ P ops (dH nt Q A₀ w₀) (dF ops ((i,T) :: held)) fuel l a w->eJ P ops (dH nt Q A₀ w₀) (dF ops held) fuel l a w:=by
    intro fuel
    induction fuel with
    | zero=>intro l a w h;exact h
    | succ fuel ih=>intro l a w h;exact ⟨h.1,fun j hj=>wpOp_mono (fun a' w' h'=>⟨fun p hp=>h'.1 p (List.mem_cons_of_mem _ hp),ih _ _ _ h'.2⟩) (h.2 j hj)⟩
  exact weaken _ _ _ _ H'

theorem rp {listed:Array Bool} {held:List (Nat × eK)} {i:Nat} {C:OT} {o:Oper} {a:Act} {w:World} {A₀:AH} {w₀:World} (ho:ops[i]? = some o) (hq:dq o.op=false) (hd:∀ t,o.dst=some t->t < nt) (hwn:∀ a:Act,cO nt f a->Region.wanted o (yielded ops a.tmps)=true)
    (c2:lm ops (listed.setIfInBounds i true) C=true) (hn:Region.noSelect ops=true) (ha:cO nt f a) (hw:co A w) (hcl:kB ops listed) (hs:eD A₀ w₀ A w) (hr:i ∈ Region.ready .any ops listed)
    (h:∀ (K:Value->AH->Prop) (Kp:List PanicEntry->AH->Prop),
      (∀ v A',(∀ w',co A' w'->∀ p ∈ held,lg ops p.1 ops.size i=false->fa p.2 w')->cG P nt ops Q (listed.setIfInBounds i true) (held.filter fun p=>!lg ops p.1 ops.size i) C ⟨fA f.e o.dst v,f.ds⟩ A'->K v A') ->
      (∀ ch A',Q (.panic ch) ⟨[],f.ds⟩ A'->Kp ch A')->ky P f.e A o K Kp) :
    wpOp P ops (dH nt Q A₀ w₀) i (fun a' w'=>dF ops held (listed.setIfInBounds i true) w'/\eJ P ops (dH nt Q A₀ w₀) (dF ops held) C.len (listed.setIfInBounds i true) a' w') a w:=by
  have hlt:i < listed.size:=by
    have:=(mem_ready.1 hr).1
    rcases Nat.lt_or_ge i listed.size with h' | h'
    · exact h'
    · simp [Array.getElem?_eq_none h'] at this
  have hl:(listed.setIfInBounds i true).getD i false=true:=by simp [hlt]
  unfold wpOp
  simp only [ho,hwn a ha,if_true]
  left
  have:=qz (o:=o) (K:=fun v A'=>(∀ w',co A' w'->∀ p ∈ held,lg ops p.1 ops.size i=false->fa p.2 w')/\cG P nt ops Q (listed.setIfInBounds i true) (held.filter fun p=>!lg ops p.1 ops.size i) C ⟨fA f.e o.dst v,f.ds⟩ A')
    (Kp:=fun ch A'=>Q (.panic ch) ⟨[],f.ds⟩ A') ha hw (h _ _ (fun v A' g1 g2=>⟨g1,g2⟩) (fun ch A' g=>g))
  unfold Oper.wp at this ⊢
  have up:∀ r,o.upon P a (jJ A a w o fun v A'=>(∀ w',co A' w'->∀ p ∈ held,lg ops p.1 ops.size i=false->fa p.2 w')/\cG P nt ops Q (listed.setIfInBounds i true) (held.filter fun p=>!lg ops p.1 ops.size i) C ⟨fA f.e o.dst v,f.ds⟩ A') (ib A a w fun ch A'=>Q (.panic ch) ⟨[],f.ds⟩ A') r ->
      o.upon P a (fun a' w'=>dF ops held (listed.setIfInBounds i true) w'/\eJ P ops (dH nt Q A₀ w₀) (dF ops held) C.len (listed.setIfInBounds i true) a' w') (dH nt Q A₀ w₀) r:=by
    have next:∀ a' w',(jJ A a w o fun v A'=>(∀ w',co A' w'->∀ p ∈ held,lg ops p.1 ops.size i=false->fa p.2 w')/\cG P nt ops Q (listed.setIfInBounds i true) (held.filter fun p=>!lg ops p.1 ops.size i) C ⟨fA f.e o.dst v,f.ds⟩ A') a' w' ->
        dF ops held (listed.setIfInBounds i true) w'/\eJ P ops (dH nt Q A₀ w₀) (dF ops held) C.len (listed.setIfInBounds i true) a' w':=by
      rintro a' w' ⟨v,A',rfl,hv',hs',g1,g2⟩
      have hlo:V.loud ops i:=⟨o,ho,hq⟩
      have hh':dF ops held (listed.setIfInBounds i true) w':=fun p hp hj=>g1 w' hv' p hp (hj i hl hlo)
      refine ⟨hh',?_⟩
      have H:=g2 c2 hn _ w' (ha.put o.dst v hd) hv' (fun p hp hj=>hh' p (List.mem_filter.1 hp).1 hj) (gH hcl hr) A₀ w₀ (hs.trans hs')
      refine kx (x:=i) (fun l w hx hS p hp hj=>hS p (List.mem_filter.2 ⟨hp,?_⟩) hj) _ _ _ _ hl H
      simp [hj i hx hlo]
    have pan:∀ x a' w',ib A a w (fun ch A'=>Q (.panic ch) ⟨[],f.ds⟩ A') x a' w'->dH nt Q A₀ w₀ x a' w':=by
      rintro x a' w' ⟨ch,A',rfl,rfl,hv',hs',g⟩
      exact ⟨⟨[],f.ds⟩,A',⟨ha.size,(fun _ _ q=>by cases q),ha.ds⟩,hv',hs.trans hs',g,fun _ _=>rfl⟩
    intro r hr'
    cases r with
    | ok n w' =>
      cases n <;> simp only [Oper.upon] at hr' ⊢ <;> (try exact hr'.elim)
      case value v=>exact next _ _ hr'
      case skip=>exact next _ _ hr'
      case defer d=>exact next _ _ hr'
      case enter f' args =>
        refine hr'.mono fun e w'' he=>?_
        cases e with
        | returned v=>exact next _ _ he
        | panicked ch=>exact pan _ _ _ he
        | outgrown=>obtain ⟨a₁,w₁,ch,A',q,_⟩:=he;cases q
      case row row args=>exact hr'.mono fun v w'' he=>next _ _ he
    | halt x w' =>
      cases x <;> simp only [Oper.upon] at hr' ⊢ <;> (try exact hr'.elim)
      case panic v=>exact pan _ _ _ hr'
  exact up _ this
variable {e:gu} {ds:List Deferred}
theorem cG.done {listed:Array Bool} {held:List (Nat × eK)} (h:Q .normal f A):cG P nt ops Q listed held .done f A:=by
  intro hc _ a w ha hw _ _ A₀ w₀ hs
  simp only [lm,List.isEmpty_iff] at hc
  exact ⟨hc,f,A,ha,hw,hs,h,fun _ q=>by cases q⟩
theorem cG.q {listed:Array Bool} {held:List (Nat × eK)} {k d:Nat} {C:OT} {op:Op} {ty:TypeId} {ps:String} {af:Array Edge} {v:Value} {T:eK} (ho:ops[k]? = some { dst:=some d,op:=op,type:=ty,pos:=ps,after:=af,guard:=none }) (hq:dq op=true) (hd:Nat.blt d nt=true) (hv:aL P e A op=some (v,T))
    (h:cG P nt ops Q (listed.setIfInBounds k true) ((k,T) :: held) C ⟨(d,v) :: e,ds⟩ A):cG P nt ops Q listed held (.one k C) ⟨e,ds⟩ A :=
  cG.quiet (f:=⟨e,ds⟩) (T:=T) (v:=v) ho hq (cQ (d:=some d) hd) (fun a w ha hw=>by
    have key:=fK (P:=P) (f:=(⟨e,ds⟩:Fr)) (o:={ dst:=some d,op:=op,type:=ty,pos:=ps,after:=af,guard:=none }) hv ha hw
    exact ⟨key.1,.inl ⟨by simp [Region.wanted],key.2⟩⟩) h
theorem cG.l {listed:Array Bool} {held:List (Nat × eK)} {i:Nat} {C:OT} {di:Option Nat} {opi:Op} {ti:TypeId} {pi:String} {afi:Array Edge}
    (hoi:ops[i]? = some { dst:=di,op:=opi,type:=ti,pos:=pi,after:=afi,guard:=none }) (hqi:dq opi=false) (hdi:gx nt di=true)
    (hi:∀ (K:Value->AH->Prop) (Kp:List PanicEntry->AH->Prop),(∀ v A',aW ops held i A'->cG P nt ops Q (listed.setIfInBounds i true) (held.filter fun p=>!lg ops p.1 ops.size i) C ⟨fA e di v,ds⟩ A'->K v A') ->
      (∀ ch A',Q (.panic ch) ⟨[],ds⟩ A'->Kp ch A')->ky P e A { dst:=di,op:=opi,type:=ti,pos:=pi,after:=afi,guard:=none } K Kp):cG P nt ops Q listed held (.one i C) ⟨e,ds⟩ A:=by
  intro hc hn a w ha hw hh hcl A₀ w₀ hs
  simp only [lm,hoi,hqi,Bool.false_eq_true,if_false,Bool.and_eq_true,beq_iff_eq] at hc
  obtain ⟨c1,c2⟩:=hc
  simp only [OT.len]
  refine ⟨fun h0=>(by rw [c1] at h0;cases h0),fun k hk=>?_⟩
  have hk':=hk
  rw [c1,List.mem_singleton] at hk'
  subst hk'
  exact rp (C:=C) hoi hqi (cQ hdi) (fun a _=>by simp [Region.wanted]) c2 hn ha hw hcl hs hk hi
theorem cG.both {listed:Array Bool} {held:List (Nat × eK)} {i j:Nat} {C D:OT} {di dj:Option Nat} {opi opj:Op} {ti tj:TypeId} {pi pj:String} {afi afj:Array Edge}
    (hoi:ops[i]? = some { dst:=di,op:=opi,type:=ti,pos:=pi,after:=afi,guard:=none }) (hoj:ops[j]? = some { dst:=dj,op:=opj,type:=tj,pos:=pj,after:=afj,guard:=none }) (hqi:dq opi=false) (hqj:dq opj=false) (hdi:gx nt di=true) (hdj:gx nt dj=true)
    (hi:∀ (K:Value->AH->Prop) (Kp:List PanicEntry->AH->Prop),(∀ v A',aW ops held i A'->cG P nt ops Q (listed.setIfInBounds i true) (held.filter fun p=>!lg ops p.1 ops.size i) C ⟨fA e di v,ds⟩ A'->K v A') ->
      (∀ ch A',Q (.panic ch) ⟨[],ds⟩ A'->Kp ch A')->ky P e A { dst:=di,op:=opi,type:=ti,pos:=pi,after:=afi,guard:=none } K Kp)
    (hj:∀ (K:Value->AH->Prop) (Kp:List PanicEntry->AH->Prop),(∀ v A',aW ops held j A'->cG P nt ops Q (listed.setIfInBounds j true) (held.filter fun p=>!lg ops p.1 ops.size j) D ⟨fA e dj v,ds⟩ A'->K v A') ->
      (∀ ch A',Q (.panic ch) ⟨[],ds⟩ A'->Kp ch A')->ky P e A { dst:=dj,op:=opj,type:=tj,pos:=pj,after:=afj,guard:=none } K Kp):cG P nt ops Q listed held (.two i j C D) ⟨e,ds⟩ A:=by
  intro hc hn a w ha hw hh hcl A₀ w₀ hs
  simp only [lm,Bool.and_eq_true,beq_iff_eq] at hc
  obtain ⟨⟨⟨c1,c2⟩,c3⟩,c4⟩:=hc
  simp only [OT.len]
  refine ⟨fun h0=>(by rw [c1] at h0;cases h0),fun k hk=>?_⟩
  have hk':=hk
  rw [c1] at hk'
  simp only [List.mem_cons,List.not_mem_nil,or_false] at hk'
  rcases hk' with rfl | rfl
  · exact rp (C:=C) hoi hqi (cQ hdi) (fun a _=>by simp [Region.wanted]) c2 hn ha hw hcl hs hk hi
  · rw [c4];exact rp (C:=D) hoj hqj (cQ hdj) (fun a _=>by simp [Region.wanted]) c3 hn ha hw hcl hs hk hj
theorem am.drawnT {id:Nat} (C:OT) (hm:P.follows .mixedOrders=true) (hc:lm ops (Array.replicate ops.size false) C=true) (hn:Region.noSelect ops=true) (hl:C.len=ops.size)
    (h:cG P nt ops Q (Array.replicate ops.size false) [] C f A):am P nt (.region id ops true) Q f A:=by
  intro a w ha hw
  obtain ⟨v1,s1⟩:=jb hw
  refine wp_mono (wp_region_any hm (jZ (Q:=dH nt Q A w) (S:=dF ops []) _ _ _ _ ?_)) (fun _ _ _=>dH.q)
  have key:=h hc hn a _ ha v1 (fun p hp=>by cases hp) (fun j o _ hj=>by
    exfalso
    rcases Nat.lt_or_ge j ops.size with q | q
    · simp [q] at hj
    · simp [q] at hj) A w s1
  rw [hl] at key
  exact key
end
end V
end Go.Proofs.YtjppkekmddjcfaaGreatDoor
