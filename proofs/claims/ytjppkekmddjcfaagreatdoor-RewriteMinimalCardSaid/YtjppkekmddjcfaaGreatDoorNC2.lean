import Derived.Test.YtjppkekmddjcfaaGreatDoorNC1
import Derived.RangeFuncSeq
import Derived.RangeFuncRecord
import Derived.TacticsIn
import Derived.OrdersIn
import Derived.Shelf.SlGeneric
import Derived.Shelf.SlLaysF0
import Derived.Shelf.Lays
import Derived.Ground.SlsfProg
import Derived.Ground.NamesProg
import Derived.Test.YtjppkekmddjcfaaGreatDoorProg
import Derived.Shelf.Strings.Search3
import Derived.Test.YtjppkekmddjcfaaGreatDoorCards
import Derived.Test.YtjppkekmddjcfaaGreatDoorTie
import Derived.WalkKit
import Derived.ProofKit
import Derived.OpenShut
import Derived.Carry
import Derived.SliceStrings
import Derived.ChangeSame
import Derived.ChangeMaps5
import Derived.Deep.DeepHandedRow
import Derived.Deep.DeepLaidRun
import Derived.Lib.LaidTab
import Derived.Shelf.Vars
import Derived.KernelRfl
set_option linter.unusedSectionVars false
set_option linter.unusedVariables false
set_option linter.unusedSimpArgs false
open Go.Proofs.Tryz
namespace Go.Proofs.YtjppkekmddjcfaaGreatDoor
open Go Go.RowKit
namespace V
abbrev FR (l:Nat):Fence:=Fence.wide.inRound l
def zp (F:Fence):Prop:=F=Fence.wide\/∃ l,F=FR l
theorem lD:zp Fence.wide:=.inl Z
theorem sy (l:Nat):zp (FR l):=.inr ⟨l,rfl⟩
def jQ (o:Oper):Bool:=match o.op with | .defer _=>false | _=>true
section
variable {P:Program} {F:Fence} {n:Nat}
theorem ER (hF:zp F) {g:FuncId} {args:Array Value} {w:World} {R:Ending->World->Prop} (h:Calls P g args w R):CallsIn F n P g args w R:=by
  have:=callsIn_wide (n:=n).2 h
  rcases hF with rfl | ⟨l,rfl⟩
  · exact this
  · exact this
theorem MO (hF:zp F) {row:String} {args:Array Value} {w:World} {R:Value->World->Prop} (h:Rows P row args w R):RowsIn F n P row args w R:=fun c cs _=>by
  obtain ⟨v,w',r,s⟩:=h c cs
  have s':=stepsIn_wide.2 s
  rcases hF with rfl | ⟨l,rfl⟩
  · exact ⟨v,w',r,s'⟩
  · exact ⟨v,w',r,s'⟩
theorem tP (hF:zp F) (f:FuncId):F.fn f:=by rcases hF with rfl | ⟨l,rfl⟩ <;> trivial
theorem uN (hF:zp F):F.depth.isSome=true->1<=n:=by rcases hF with rfl | ⟨l,rfl⟩ <;> (intro q;cases q)
theorem op_in (hF:zp F) {o:Oper} {a:Act} {w:World} {K:Act->World->Prop} {Q:Exit->Act->World->Prop} (hd:jQ o=true) (h:o.wp P a w K Q):o.wpIn F n P a w K Q:=by
  have hs:o.semAt F.round a.eval=execOp a.eval o:=Oper.semAt_eq _ _ _ (fun c hc=>by simp [jQ,hc] at hd)
  refine ⟨fun f _=>tP hF f,?_⟩
  rw [hs]
  unfold Oper.wp at h
  generalize (execOp a.eval o).run P w=r at h ⊢
  cases r with
  | ok x w' =>
    cases x <;> simp only [Oper.upon] at h <;> simp only [Oper.uponIn] <;>
      first | exact h | exact h.elim | exact ⟨uN hF,ER hF h⟩ | exact ⟨uN hF,MO hF h⟩
  | halt x w'=>cases x <;> simp only [Oper.upon] at h <;> simp only [Oper.uponIn] <;> exact h
theorem Dn (hF:zp F) {all:Array Oper} {Q:Exit->Act->World->Prop} (hQ:¬ LetsOut Q):∀ (os:List Oper) (a:Act) (w:World),os.all jQ=true->wpList P all Q os a w->wpListIn F n P all Q os a w
  | [],_,_,_,h=>h
  | o :: os,a,w,hd,h=>by
    simp only [List.all_cons,XQ] at hd
    unfold wpList at h
    unfold wpListIn
    split
    · rename_i hw
      rw [XX hw] at h
      rcases h with h | ⟨_,h⟩
      · exact op_in hF hd.1 (Oper.wp_mono (fun a w=>Dn hF hQ os a w hd.2) h)
      · exact absurd h hQ
    · rename_i hw
      rw [Xy hw] at h
      exact ⟨fun f _=>tP hF f,Dn hF hQ os _ w hd.2 h⟩
theorem Ct (hF:zp F) {ops:Array Oper} {Q:Exit->Act->World->Prop} (hQ:¬ LetsOut Q) (hd:ops.toList.all jQ=true):∀ (fuel:Nat) (l:Array Bool) (a:Act) (w:World),wpAny P .any ops Q fuel l a w->wpAnyIn F n P .any ops Q fuel l a w
  | 0,_,_,_,h=>h
  | fuel + 1,l,a,w,h=>⟨h.1,fun i hi=>by
      have h2:=h.2 i hi
      unfold wpOp at h2
      unfold wpOpIn
      split
      · rename_i q;simp only [q] at h2;exact Ct hF hQ hd fuel _ a w h2
      · rename_i o q
        simp only [q] at h2
        have ho:jQ o=true:=Vx.1 hd o (by
          obtain ⟨hlt,e⟩:=Tj.1 q
          rw [<- e];exact Array.getElem_mem_toList hlt)
        split
        · rename_i hw
          rw [XX hw] at h2
          rcases h2 with h2 | ⟨_,h2⟩
          · exact op_in hF ho (Oper.wp_mono (fun a w=>Ct hF hQ hd fuel _ a w) h2)
          · exact absurd h2 hQ
        · rename_i hw
          rw [Xy hw] at h2
          exact ⟨fun f _=>tP hF f,Ct hF hQ hd fuel _ _ w h2⟩⟩
end
def fw (P:Program) (nt:Nat) (F:Fence) (c:Code) (Q:Exit->Fr->AH->Prop) (f:Fr) (A:AH):Prop :=
  ∀ a w,dC nt f a->cD A w->c.wpIn F 0 P (mS nt Q A w) a w
def uL (Q:Exit->Fr->AH->Prop):Prop:=∀ f A,¬ Q .outgrown f A
theorem m9 {K:Fr->AH->Prop} {Q:Exit->Fr->AH->Prop} (h:uL Q):uL (rX K Q):=fun f A=>h f A
theorem kS {i:Nat} {Q:Exit->Fr->AH->Prop} (h:uL Q):uL (oE i Q):=fun f A=>h f A
def yH (R:Fr->AH->Prop):Exit->Fr->AH->Prop
  | .normal,f,A=>R f A
  | _,_,_=>False
theorem kU {R:Fr->AH->Prop}:uL (yH R):=fun _ _ h=>h
theorem Gv {nt:Nat} {Q:Exit->Fr->AH->Prop} (h:uL Q) {A:AH} {w:World}:¬ LetsOut (eM nt Q A w):=fun ⟨_,_,_,_,_,_,_,q,_⟩=>h _ _ q
theorem JT {nt:Nat} {Q:Exit->Fr->AH->Prop} (h:uL Q) {A:AH} {w:World}:¬ LetsOut (mS nt Q A w):=fun ⟨_,_,_,_,_,_,_,q,_⟩=>h _ _ q
section
variable {P:Program} {nt:Nat} {F:Fence} {Q:Exit->Fr->AH->Prop} {f:Fr} {A:AH} {e:im} {ds:List Deferred}
theorem fw.wf {c:Code} (h:A.wf->fw P nt F c Q f A):fw P nt F c Q f A:=fun a w ha hw=>h hw.wf a w ha hw
theorem fw.skip (h:Q .normal f A):fw P nt F .skip Q f A:=fun _ _ ha hw=>wpIn_skip (.self ha hw h fun _ q=>by cases q)
theorem fw.seq {x y:Code} (h:∀ K:Fr->AH->Prop,(∀ f A,fw P nt F y Q f A->K f A)->fw P nt F x (rX K Q) f A):fw P nt F (x.seq y) Q f A:=by
  intro a w ha hw
  refine wpIn_seq (wpIn_mono (h _ (fun _ _ h=>h) a w ha hw) ?_)
  rintro e a' w' ⟨f',A',h1,h2,h3,h4,h5⟩
  cases e with
  | normal=>exact wpIn_mono (h4 a' w' h1 h2) fun x a'' w'' g=>g.step h3
  | _=>exact ⟨f',A',h1,h2,h3,h4,h5⟩
theorem fw.cond {c:Operand} {x y:Code} {t:Bool} (hc:cg f.e c=some (.bool t)) (h1:t=true->fw P nt F x Q f A) (h2:t=false->fw P nt F y Q f A) :
    fw P nt F (.cond c x y) Q f A:=fun a w ha hw =>
  wpIn_cond_split (c9 ha hc) (fun e=>h1 e a w ha hw) (fun e=>h2 e a w ha hw)
theorem fw.cond_false {c:Operand} {x y:Code} (hc:cg f.e c=some (.bool false)) (h1:fw P nt F y Q f A):fw P nt F (.cond c x y) Q f A :=
  fw.cond hc (fun e=>by cases e) (fun _=>h1)
theorem fw.if {c:Operand} {x y:Code} {p:Prop} [Decidable p] (hc:cg e c=some (.bool (decide p))) (h1:p->fw P nt F x Q ⟨e,ds⟩ A) (h2:¬ p->fw P nt F y Q ⟨e,ds⟩ A):fw P nt F (.cond c x y) Q ⟨e,ds⟩ A :=
  fw.cond hc (fun h=>h1 (of_decide_eq_true h)) (fun h=>h2 (of_decide_eq_false h))
theorem fw.block {i:Nat} {c:Code} (h:fw P nt F c (oE i Q) f A):fw P nt F (.block i c) Q f A:=fun a w ha hw=>by
  refine wpIn_block (wpIn_mono (h a w ha hw) ?_)
  rintro e a' w' ⟨f',A',h1,h2,h3,h4,h5⟩
  cases e with
  | exit j =>
    simp only [Exit.inBlock,oE] at h4 ⊢
    split
    · rename_i q;rw [XX q] at h4;exact ⟨f',A',h1,h2,h3,h4,fun _ q=>by cases q⟩
    · rename_i q;rw [Xy q] at h4;exact ⟨f',A',h1,h2,h3,h4,h5⟩
  | _=>exact ⟨f',A',h1,h2,h3,h4,h5⟩
theorem fw.region {id:Nat} {l:List Oper} (hF:zp F) (hQ:uL Q) (hd:l.all jQ=true) (h:Ops P nt l.toArray l Q f A):fw P nt F (.region id l.toArray false) Q f A :=
  fun a w ha hw=>wpIn_region_lit (Dn hF (JT hQ) l a w hd (h a w ha hw A w (.refl _ _)))
theorem fw.drawn {id:Nat} {ops:Array Oper} (C:List Nat) (hF:zp F) (hQ:uL Q) (hd:ops.toList.all jQ=true) (hm:P.follows .mixedOrders=true) (hc:nW ops (Array.replicate ops.size false) C=true) (hn:Region.noSelect ops=true) (hl:C.length=ops.size)
    (h:bn P nt ops Q (Array.replicate ops.size false) [] C f A):fw P nt F (.region id ops true) Q f A:=by
  intro a w ha hw
  obtain ⟨v1,s1⟩:=j5 hw
  refine wpIn_mono (wpIn_region_any hm (Ct hF (Gv hQ) hd _ _ _ _ (lh (Q:=eM nt Q A w) (S:=eH ops []) _ _ _ _ ?_))) (fun _ _ _=>eM.q)
  have key:=h hc hn a _ ha v1 (fun p hp=>by cases hp) (fun j o _ hj=>by
    exfalso
    rcases VY j ops.size with q | q
    · simp [q] at hj
    · simp [q] at hj) A w s1
  rw [hl] at key
  exact key
theorem fw.run {c:Code} (h:fw P nt Fence.wide c Q f A):ak P nt c Q f A:=fun a w ha hw=>wpIn_wide.1 (h a w ha hw)
theorem ak.into {c:Code} (h:ak P nt c Q f A):fw P nt Fence.wide c Q f A:=fun a w ha hw=>wpIn_wide.2 (h a w ha hw)
end
def mU (P:Program) (l:Nat) (args:Array Value) (A:AH) (R:Value->AH->Prop):Prop :=
  ∀ w,cD A w->YieldAt Fence.wide 0 P l args w fun e w'=>∃ A' v,e=.returned v/\cD A' w'/\fx A w A' w'/\R v A'
section
variable {P:Program} {nt:Nat} {all:Array Oper} {Q:Exit->Fr->AH->Prop} {f:Fr} {A:AH} {e:im} {ds:List Deferred} {d t:Nat} {op:Op} {ty:TypeId} {ps:String} {af:Array Edge} {os:List Oper} {v:Value} {T:fC}
end
def mark (D:Nat):Deferred:={ target:=.collected D,args:=#[] }
def D9 (ps:List Nat) (xs:List Value) (e:im):im:=(ps.zip xs).foldl (fun e p=>(p.1,p.2) :: e) e
section
variable {P:Program} {nt:Nat} {Q:Exit->Fr->AH->Prop} {A:AH} {e:im} {ds:List Deferred}
theorem vO:∀ (l:List (Nat × Value)) (e:im) (t:Array Value),(∀ p ∈ l,p.1 < nt)->dC nt ⟨e,[]⟩ { tmps:=t,defers:=[] } ->
    dC nt ⟨l.foldl (fun e p=>(p.1,p.2) :: e) e,[]⟩ { tmps:=l.foldl (fun t p=>t.setIfInBounds p.1 p.2) t,defers:=[] }
  | [],_,_,_,h=>h
  | p :: l,e,t,hp,h=>vO l _ _ (fun q hq=>hp q (VZ _ hq)) (by
      have:=h.put (some p.1) p.2 (fun t q=>by cases q;exact hp p Vy)
      exact this)
theorem nF (P:Program) {w:World} {b:Nat} {x y:Obj} (h:cD A w) (g:A.get b=some (.obj true x)) (hy:∀ c e f,y ≠ .cells c e f):cD (A.set b (.obj true y)) (w.putObj b y)/\fx A w (A.set b (.obj true y)) (w.putObj b y):=by
  obtain ⟨w',r,v1,s1⟩:=kf (P:=P) h g (y:=y) hy
  obtain ⟨g1,g2⟩:=h.obj g
  have:(setObj b y).run P w=.ok () (w.putObj b y):=by simp [setObj,Sem.run,g1,World.putObj]
  rw [r] at this
  have e:w'=w.putObj b y:=by injection this
  rw [<- e];exact ⟨v1,s1⟩
def Jo (P:Program) (rs:List ResultVar) (Q:Ending->AH->Prop):Exit->Fr->AH->Prop
  | .normal,f,A | .ret,f,A=>∃ Ds:List Nat,f.ds=Ds.map mark/\Ds.Nodup/\(∀ D ∈ Ds,A.get D=some (.obj true (.deferred (some [])))) /\
      ∃ vs,∀ A',A'.wf->A'.n=A.n->(∀ b o,b ∉ Ds->A.get b=some o->A'.get b=some o)->iE P f.e A' rs=some vs/\Q (.returned (ej vs)) A'
  | _,_,_=>False
theorem iy.enterM {g:FuncId} {fn:Func} {c:Code} {args:List Value} {Qe:Ending->AH->Prop} (he:f5 P g) (hf:P.funcs[g]? = some fn) (hb:fn.body=some c) (hn:args.length<=fn.ntmps)
    (h:A.wf->ak P fn.ntmps c (Jo P fn.results.toList Qe) ⟨uq args 0,[]⟩ A):iy P g args.toArray A Qe:=by
  refine ⟨he,fun w hw=>callsIn_wide.1 (callsIn_of_wp_marks (F:=Fence.wide) (n:=0) hf hb trivial ?_)⟩
  have ha:dC fn.ntmps ⟨uq args 0,[]⟩ { tmps:=args.toArray ++ Array.replicate (fn.ntmps - args.toArray.size) undef,defers:=[] }:=by
    refine ⟨by simp;omega,fun t v q=>?_,Z⟩
    obtain ⟨_,h2⟩:=xG args 0 t v q
    simp only [Nat.sub_zero] at h2
    have hlt:t < args.length:=(Rx.1 h2).1
    refine ⟨?_,by omega⟩
    simp only [Array.getD_eq_getD_getElem?]
    rw [SV (by simpa using hlt)]
    simp [h2]
  have leave:∀ (Ds:List Nat) (B:AH) (f:Fr) (a:Act) (w':World) (vs:List Value),(∀ t v,cM f.e t=some v->a.tmps.getD t undef=v/\t < fn.ntmps)->a.tmps.size=fn.ntmps->cD B w'->fx A w B w'->Ds.Nodup->(∀ D ∈ Ds,B.get D=some (.obj true (.deferred (some [])))) ->
      (∀ A',A'.wf->A'.n=B.n->(∀ b o,b ∉ Ds->B.get b=some o->A'.get b=some o)->iE P f.e A' fn.results.toList=some vs/\Qe (.returned (ej vs)) A') ->
      LeavesInM Fence.wide 0 P fn a.tmps (fun e w''=>∃ A',cD A' w''/\fx A w A' w''/\Qe e A') (Ds.map mark) .returning w':=by
    intro Ds
    induction Ds with
    | nil =>
      intro B f a w' vs hsl hsz hv hs _ _ hq
      obtain ⟨r1,r2⟩:=hq B hv.wf Z (fun _ _ _ h=>h)
      have:=ke (nt:=fn.ntmps) (f:=⟨f.e,a.defers⟩) (a:=a) ⟨hsz,hsl,rfl⟩ hv r1
      exact ⟨_,this,B,hv,hs,r2⟩
    | cons D Ds ih =>
      intro B f a w' vs hsl hsz hv hs hnd hD hq
      have gD:=hD D Vy
      obtain ⟨q1,_⟩:=hv.obj gD
      obtain ⟨v1,s1⟩:=nF P (y:=.deferred none) hv gD (fun _ _ _ q=>by cases q)
      refine ⟨by simp,.inl ⟨D,_,Z,run_takeDeferred q1,?_⟩⟩
      have hnd':=List.nodup_cons.1 hnd
      refine ih _ f a _ vs hsl hsz v1 (hs.trans s1) hnd'.2 (fun E hE=>?_) (fun A' wf' hn' hk'=>?_)
      · rw [AH.set_get_ne _ _ (by rintro rfl;exact hnd'.1 hE)];exact hD E (VZ _ hE)
      · exact hq A' wf' hn' fun b o hb hgb=>hk' b o (fun q=>hb (VZ _ q)) (by rw [AH.set_get_ne _ _ (by rintro rfl;exact hb Vy)];exact hgb)
  refine wpIn_mono (ak.into (h hw.wf) _ w ha hw) ?_
  rintro x a' w' ⟨f',A',h1,h2,h3,h4,h5⟩
  cases x <;> simp only [Jo] at h4 <;> (try exact h4.elim)
  case normal=>obtain ⟨Ds,e1,e2,e3,vs,e4⟩:=h4;simp only [bodyPostM];rw [h1.ds,e1];exact leave Ds A' f' a' w' vs h1.slot h1.size h2 h3 e2 e3 e4
  case ret=>obtain ⟨Ds,e1,e2,e3,vs,e4⟩:=h4;simp only [bodyPostM];rw [h1.ds,e1];exact leave Ds A' f' a' w' vs h1.slot h1.size h2 h3 e2 e3 e4
theorem enterM {g:FuncId} {fn:Func} {c:Code} {rs:Array ResultVar} {nt:Nat} {args:List Value} {a:Array Value} {e:im} {A:AH} {R:Value->AH->Prop} (he:f5 P g) (hf:P.funcs[g]? = some fn) (hb:fn.body=some c)
    (hr:fn.results=rs) (hnt:fn.ntmps=nt) (ha:args.toArray=a) (hn:Nat.ble args.length nt=true) (hE:uq args 0=e) (h:A.wf->ak P nt c (Jo P rs.toList fun en A'=>∃ v,en=.returned v/\R v A') ⟨e,[]⟩ A):bH P g a A R:=by
  subst hr;subst hnt;subst ha;subst hE
  exact iy.enterM he hf hb (Sv hn) h
theorem ak.loopD {c:Code} {X:Type} (E:X->im) (D:X->List Deferred) (I:X->AH->Prop) (μ:X->Nat) (x₀:X) (hE:aj (E x₀) e) (hD:D x₀=ds) (h₀:I x₀ A)
    (round:∀ x B,I x B->ak P nt c (rX (fun f B'=>∃ y,aj (E y) f.e/\f.ds=D y/\I y B'/\μ y < μ x) Q) ⟨E x,D x⟩ B) :
    ak P nt (.loop c) Q ⟨e,ds⟩ A:=by
  subst hD
  intro a w ha hw b k cs
  have run:∀ m a w₁,(∃ x B,μ x=m/\I x B/\dC nt ⟨E x,D x⟩ a/\cD B w₁/\fx A w B w₁) ->
      ∃ e a' w',mS nt Q A w e a' w'/\Arrives P (lone (b.at a (.code c :: .inLoop c :: k)) cs w₁) b k cs e a' w':=by
    intro m
    induction m using Nat.strongRecOn with
    | _ m ih =>
      rintro a w₁ ⟨x,B,hm,hI,ha₁,hw₁,hs₁⟩
      obtain ⟨e,a₂,w₂,⟨f',A',h1,h2,h3,h4,h5⟩,harr⟩:=round x B hI a w₁ ha₁ hw₁ b (.inLoop c :: k) cs
      cases e with
      | normal =>
        obtain ⟨y,g1,g2,g3,g4⟩:=h4
        obtain ⟨fe,fds⟩:=f'
        simp only at g1 g2
        subst g2
        obtain ⟨e₂,a₃,w₃,hq,harr₂⟩:=ih (μ y) (hm ▸ g4) a₂ w₂ ⟨y,A',rfl,g3,h1.le g1,h2,hs₁.trans h3⟩
        exact ⟨e₂,a₃,w₃,hq,.of_steps (Steps.trans harr (.one step_inLoop)) harr₂⟩
      | exit id=>exact ⟨_,a₂,w₂,⟨f',A',h1,h2,hs₁.trans h3,h4,h5⟩,.pass (x:=.inLoop c) Z (fun _ _=>.inl (by simp)) harr⟩
      | goto l=>exact ⟨_,a₂,w₂,⟨f',A',h1,h2,hs₁.trans h3,h4,h5⟩,.pass (x:=.inLoop c) Z (fun _ _=>.inl (by simp)) harr⟩
      | ret=>exact ⟨_,a₂,w₂,⟨f',A',h1,h2,hs₁.trans h3,h4,h5⟩,.pass (x:=.inLoop c) Z (fun _ _=>.inl (by simp)) harr⟩
      | panic ch=>exact ⟨_,a₂,w₂,⟨f',A',h1,h2,hs₁.trans h3,h4,h5⟩,.pass (x:=.inLoop c) Z (fun _ _=>.inl (by simp)) harr⟩
      | outgrown=>exact ⟨_,a₂,w₂,⟨f',A',h1,h2,hs₁.trans h3,h4,h5⟩,.pass (x:=.inLoop c) Z (fun _ _=>.inl (by simp)) harr⟩
  obtain ⟨e,a',w',hq,harr⟩:=run _ a w ⟨x₀,A,rfl,h₀,ha.le hE,hw,.refl _ _⟩
  exact ⟨e,a',w',hq,.of_steps (.one step_loop) harr⟩
end
end V
namespace V
def AH.hide (A:AH) (bs:List (Option Nat)):AH:=⟨A.n,fun k=>if some k ∈ bs then none else A.get k⟩
section
variable {A B C A0 A1:AH} {bs:List (Option Nat)} {b k n:Nat} {o:fB} {v u:Value} {size:Nat} {xs ys:List Value}
theorem cQ (h:some b ∈ bs):(A.hide bs).get b=none:=XX h
theorem bX (h:A.get k=some o) (hk:some k ∉ bs):(A.hide bs).get k=some o:=by
  show (if some k ∈ bs then none else A.get k)=some o
  rw [Xy hk];exact h
theorem c6 (A:AH) (bs:List (Option Nat)):(A.hide bs).le A:=⟨XV _,fun b o g=>by
  have g:(if some b ∈ bs then none else A.get b)=some o:=g
  split at g
  · cases g
  · exact g⟩
theorem cI (wf:A.wf):(A.hide bs).wf:=fun b o g=>wf b o ((c6 A bs).get b o g)
theorem cz (le:A0.le A) (h:∀ b,some b ∈ bs->A0.get b=none):A0.le (A.hide bs) :=
  ⟨le.n,fun b o g=>bX (le.get b o g) fun q=>by rw [h b q] at g;cases g⟩
theorem mN:some k ∉ ([]:List (Option Nat)):=fun h=>by cases h
theorem qY (h:k ≠ b) (t:some k ∉ bs):some k ∉ some b :: bs:=fun q=>by
  rcases Vz.1 q with q | q
  · exact h (Option.some.inj q)
  · exact t q
theorem pk (h:blk v ≠ some k) (t:some k ∉ bs):some k ∉ blk v :: bs:=fun q=>by
  rcases Vz.1 q with q | q
  · exact h q.symm
  · exact t q
theorem qX:∀ b,some b ∈ ([]:List (Option Nat))->A0.get b=none:=fun _ h=>by cases h
theorem xe (h:A0.get k=none) (t:∀ b,some b ∈ bs->A0.get b=none):∀ b,some b ∈ some k :: bs->A0.get b=none:=fun b q=>by
  rcases Vz.1 q with q | q
  · cases q;exact h
  · exact t b q
theorem uD (h:∀ b,blk v=some b->A0.get b=none) (t:∀ b,some b ∈ bs->A0.get b=none):∀ b,some b ∈ blk v :: bs->A0.get b=none:=fun b q=>by
  rcases Vz.1 q with q | q
  · exact h b q.symm
  · exact t b q
def bx (v u:Value):Prop:=∀ c,blk v=some c->blk u ≠ some c
theorem bx.symm (h:bx v u):bx u v:=fun c hu hv=>h c hv hu
theorem bx.nil:bx (.slice none 0 0) u:=fun c h=>by cases h
theorem Fresh.hide (h:Fresh A0 A v size xs) (hb:blk v ∈ bs):Fresh (A.hide bs) A v size xs:=⟨h.own,fun b q=>cQ (by rw [<- q];exact hb)⟩
def Lj (u:Value) (bs:List (Option Nat)):Prop:=∀ c,blk u=some c->some c ∉ bs
theorem jk:Lj u []:=fun _ _=>mN
theorem jG (h:blk u ≠ some b) (t:Lj u bs):Lj u (some b :: bs):=fun c hc=>qY (fun q=>h (q ▸ hc)) (t c hc)
theorem jH (h:bx v u) (t:Lj u bs):Lj u (blk v :: bs):=fun c hc=>pk (fun q=>h c q hc) (t c hc)
theorem qW.blkget (h:qW A v size xs) (hb:blk v=some b):∃ o,A.get b=some o:=by
  rcases h with ⟨rfl,_⟩ | ⟨b',n,k,r,rcap,rfl,h2,_⟩
  · cases hb
  · cases hb;exact ⟨_,h2⟩
theorem qW.off (h:qW A u size xs) (o:Lj u bs) (le:(A.hide bs).le B):qW B u size xs:=by
  rcases h with h | ⟨b',n,k,r,rcap,rfl,h2,h3⟩
  · exact .inl h
  · exact .inr ⟨b',n,k,r,rcap,Z,le.g (bX h2 (o b' Z)),h3⟩
theorem Fresh.off (h:Fresh A0 A u size xs) (o:Lj u bs) (le:(A.hide bs).le B):Fresh A0 B u size xs:=⟨h.own.off o le,h.lo⟩
theorem Fresh.sep {s2:Nat} (h:Fresh (A.hide bs) B v size xs) (hu:qW A u s2 ys) (o:Lj u bs):bx v u:=fun c hv hc=>by
  obtain ⟨x,hx⟩:=hu.blkget hc
  have:=h.lo c hv
  rw [bX hx (o c hc)] at this;cases this
theorem qW.appd {s2:Nat} {v':Value} {zs:List Value} (h:qW A u size xs) (ap:ot A v s2 zs v' A1) (hs:bx v u):qW A1 u size xs:=by
  rcases h with h | ⟨b',n,k,r,rcap,rfl,h2,h3⟩
  · exact .inl h
  · exact .inr ⟨b',n,k,r,rcap,Z,ap.get _ _ h2 (fun q=>hs b' q Z),h3⟩
theorem Fresh.appd {s2:Nat} {v':Value} {zs:List Value} (h:Fresh A0 A u size xs) (ap:ot A v s2 zs v' A1) (hs:bx v u):Fresh A0 A1 u size xs:=⟨h.own.appd ap hs,h.lo⟩
theorem bx.appd {s2:Nat} {v':Value} {zs:List Value} (h:bx v u) (hu:qW A u size xs) (wf:A.wf) (ap:ot A v s2 zs v' A1):bx v' u:=fun c hc hq=>by
  rcases ap.blk c hc with q | q
  · exact h c q hq
  · obtain ⟨o,ho⟩:=hu.blkget hq
    have:=wf _ _ ho;omega
theorem bx.of_new (h:qW A u size xs) (wf:A.wf) (hb:A.n<=b) {n c:Nat}:bx (.slice (some ⟨b,0,none⟩) n c) u:=fun k hk hq=>by
  cases hk
  obtain ⟨o,ho⟩:=h.blkget hq
  have:b < A.n:=wf _ _ ho
  omega
theorem Fresh.seph (h:Fresh A0 A v size xs) (g:A0.get b=some o):blk v ≠ some b:=fun q=>by rw [h.lo b q] at g;cases g
theorem Fresh.setc {A0 A A1:AH} {b n c i size:Nat} {xs:List Value} {r:List Value} {rcap:Nat} {w:Value} (h:Fresh A0 A (.slice (some ⟨b,0,none⟩) n c) size xs) (g:A.get b=some (.row true r rcap)) (sb:sL A A1 b (.row true (r.set i w) rcap)) :
    Fresh A0 A1 (.slice (some ⟨b,0,none⟩) n c) size (xs.set i w):=by
  refine ⟨?_,h.lo⟩
  rcases h.own with ⟨q,_⟩ | ⟨b',n',k,r',rcap',h1,h2,h3,h4,h5,h6⟩
  · cases q
  · cases h1
    rw [g] at h2;cases h2
    refine .inr ⟨b,n,c,r.set i w,rcap,Z,sb.get,by simpa using h3,?_,h5,h6⟩
    rw [List.take_set,h4]
theorem gk {i:Nat} {K:Fr->AH->Prop} {Q:Exit->Fr->AH->Prop} {f:Fr} {A:AH} (h:Q (.exit i) f A):rX K Q (.exit i) f A:=h
theorem fj {i:Nat} {Q:Exit->Fr->AH->Prop} {f:Fr} {A:AH} (h:Q .normal f A):oE i Q (.exit i) f A:=by show (if i=i then _ else _);rw [XX Z];exact h
theorem eR {i j:Nat} {Q:Exit->Fr->AH->Prop} {f:Fr} {A:AH} (hne:j ≠ i) (h:Q (.exit j) f A):oE i Q (.exit j) f A:=by show (if j=i then _ else _);rw [Xy hne];exact h
theorem eU {i:Nat} {Q:Exit->Fr->AH->Prop} {f:Fr} {A:AH} (h:Q (.exit i) f A):DC Q (.exit i) f A:=h
theorem d4 {Q:Exit->Fr->AH->Prop} {f:Fr} {A:AH} (h:Q .normal f A):DC Q .normal f A:=h
theorem ot.cell {A A1:AH} {s v u:Value} {size:Nat} {xs:List Value} {b off:Nat} (ap:ot A s size xs v A1) (ne:V.blk s ≠ some b) (h:A.cell ⟨b,off,none⟩=some u):A1.cell ⟨b,off,none⟩=some u:=by
  unfold AH.cell at h ⊢
  simp only [Option.isSome_none] at h ⊢
  cases hg:A.get b with
  | none=>rw [hg] at h;cases h
  | some o=>rw [hg] at h;rw [ap.get _ _ hg ne];exact h
def loV:Value->Nat->Nat->Value
  | .slice p n c,size,j=>.slice (if c=j then p else p.map (·.add (j * size))) (n - j) (c - j)
  | v,_,_=>v
theorem bJ.lo {A:AH} {size j:Nat} {v:Value} {xs:List Value} (s:bJ A size v xs) (h0:0 < size) (hj:j * size<=xs.length):bJ A size (loV v size j) (xs.drop (j * size)):=by
  obtain ⟨p,n,c,rfl,h2,h3,h4⟩:=s
  have hjn:j<=n:=by rw [h2] at hj;exact Nat.le_of_mul_le_mul_right hj h0
  refine ⟨_,n - j,c - j,Z,by rw [Tx,h2,Nat.sub_mul],by omega,?_⟩
  rcases h4 with h4 | ⟨b,off,rw,r,rcap,rfl,g2,g3⟩
  · left;omega
  · by_cases q:n=j
    · left;omega
    · right
      refine ⟨b,off + j * size,rw,r,rcap,?_,g2,?_⟩
      · rw [Xy O]
        simp only [RK]
        rw [pG _ _ Z]
      · rw [<- g3,List.drop_take,List.drop_drop,Nat.sub_mul]
theorem yB {P:Program} {e:im} {A:AH} {x lo:Operand} {t el:TypeId} {size j:Nat} {v:Value} {xs:List Value} (hu:P.underlying t=some (.slice el)) (hs:dY P el=some size) (h:cg e x=some v) (s:bJ A size v xs) (hlo:cg e lo=some (num (j:Nat))) (h0:0 < size) (hj:j * size<=xs.length) :
    bk P e A (.slice t x (some lo) none none)=some (loV v size j,[]):=by
  obtain ⟨p,n,c,rfl,h2,h3,h4⟩:=s
  have hjn:j<=n:=by rw [h2] at hj;exact Nat.le_of_mul_le_mul_right hj h0
  simp [bk,cE,h,wa,hu,hs,gu,hlo,loV]
  omega
theorem tn (a:W8) (n:Nat):(ao a).drop n=ao (a.drop n):=by simp [ao,List.map_drop]
end
end V
open V
def cmn:W8->W8->Nat
  | a :: x,b :: y=>if a=b then cmn x y + 1 else 0
  | _,_=>0
def lf (p:Nat->Bool) (b:Nat):Nat:=((List.range b).find? fun n=>!p n).getD b
def bW:W8:=[97,65,98,66,99,67,100,68,101,69,102,70,103,71,104,72]
def ix (c:UInt8):Int:=match bW.findIdx? (· == c) with | some i=>i | none=>-1
theorem Uu {c:UInt8} {k:Nat} (hk:k < 16) (h:∀ j,j < k->bW.getD j 0 ≠ c) (e:bW.getD k 0=c):ix c=k:=by
  have:bW.findIdx? (· == c)=some k:=by
    rw [Rz]
    refine ⟨hk,?_,fun j hj=>?_⟩
    · have:=e;simp [Vq,hk,bW] at this ⊢;exact this
    · have:=h j hj
      have hj':j < bW.length:=Nat.lt_trans hj hk
      rw [Vq,SQ hj',Option.getD_some] at this
      simpa using this
  simp [ix,this]
theorem Za {c:UInt8} (h:∀ j,j < 16->bW.getD j 0 ≠ c):ix c = -1:=by
  have:bW.findIdx? (· == c)=none:=by
    rw [List.findIdx?_eq_none_iff]
    intro x hx
    obtain ⟨j,hj,rfl⟩:=VQ hx
    have:=h j hj
    rw [Vq,SQ hj,Option.getD_some] at this
    simpa using this
  simp [ix,this]
theorem iz {p:UInt8->Prop} (h:∀ n:Fin 256,p (UInt8.ofNat n.1)) (c:UInt8):p c:=by
  have:=h ⟨c.toNat,c.toNat_lt⟩
  simpa using this
theorem dle (a b:Int):decide (b<=a) = !decide (a < b):=by rw [<- decide_not];simp
theorem Jz (r:Nat) (h:r<=127):decide (127 < r)=false:=by simp;omega
theorem u8_ge {c:UInt8} (h:¬ c < 128):128<=c.toNat:=by rw [UInt8.lt_iff_toNat_lt] at h;simpa using h
theorem ix_lt:∀ c:UInt8,-1<=ix c/\ix c < 16:=iz (by decide +kernel)
theorem Ut:∀ c:UInt8,0<=ix c->c.toNat<=127:=iz (by decide +kernel)
theorem Mf:∀ c:UInt8,0<=ix c->0<=ix (c ^^^ 32):=iz (by decide +kernel)
theorem j8 (c:UInt8):c ^^^ 32 ^^^ 32=c:=by rw [UInt8.xor_assoc];simp
def iu (k:Int) (c:UInt8):Bool:=decide (0<=ix c) && decide (ix c < 2 * k)
def inv (w:W8):W8:=(w.map (· ^^^ 32)).reverse
def push (s:W8) (c:UInt8):W8:=if 0 < s.length/\s.getD (s.length - 1) 0=c ^^^ 32 then s.take (s.length - 1) else s ++ [c]
def mC (w:W8):W8:=w.foldl push []
def bG (k:Int) (w:W8):Nat:=if k < 1\/8 < k then 1 else if 100000 < w.length then 2 else if w.all (iu k) then 0 else 4
def oU (w:W8):Bool:=decide (w.length<=100000) && w.all (iu 8)
theorem aaH (w:W8):bG 8 w=0 ↔ oU w=true:=by
  simp only [bG,oU,XQ,Xw]
  rw [Xy O]
  split
  · simp;omega
  · split <;> rename_i h <;> simp [h] <;> omega
theorem GW (s:W8) (c:UInt8):(push s c).length<=s.length + 1:=by
  unfold push;split <;> simp <;> omega
theorem ff:∀ (w s:W8),(w.foldl push s).length<=s.length + w.length
  | [],s=>by simp
  | c :: w,s=>by
    have:=ff w (push s c);have:=GW s c
    simp only [TQ,Xq];omega
theorem J7 (w:W8):(mC w).length<=w.length:=by have:=ff w [];simpa [mC] using this
theorem il (w:W8):(inv w).length=w.length:=by simp [inv]
theorem mJ {w:W8} {i:Nat} (h:i < w.length):w.drop i=w.getD i 0 :: w.drop (i + 1):=by
  rw [Tq h];simp [h]
theorem xZ {l:List W8} {i:Nat} (h:i < l.length):l.drop i=l.getD i [] :: l.drop (i + 1):=by
  rw [Tq h];simp [h]
def cycN (r:W8):Nat:=lf (fun n=>decide (2 * n + 2<=r.length/\r.getD n 0=r.getD (r.length - 1 - n) 0 ^^^ 32)) r.length
def core (w:W8):W8:=((mC w).take ((mC w).length - cycN (mC w))).drop (cycN (mC w))
def conj (w:W8):W8:=(mC w).take (cycN (mC w))
def iK:W8->W8->Int
  | a :: x,b :: y=>if ix a < ix b then -1 else if ix b < ix a then 1 else iK x y
  | _,_=>0
def fc (u v:W8):Int:=if u.length ≠ v.length then (if u.length < v.length then -1 else 1) else iK u v
def eb (w:W8):W8:=if oU w then inv w else []
def cq (w:W8):W8:=if oU w then mC w else []
def wCore (w:W8):W8:=if oU w then core w else []
def dr (u v:W8):Int:=if oU u/\oU v then fc u v else 0
def Yc (q:Nat->Bool) (s:W8):Int:=match s.findIdx? (fun c=>q c.toNat) with | some i=>i | none=>-1
theorem Ae {q:Nat->Bool} {s:W8} {k:Nat} (hk:k < s.length) (h:∀ j,j < k->q (s.getD j 0).toNat=false) (e:q (s.getD k 0).toNat=true):Yc q s=k:=by
  have:s.findIdx? (fun c=>q c.toNat)=some k:=by
    rw [Rz]
    refine ⟨hk,by simpa [hk] using e,fun j hj=>?_⟩
    have:=h j hj
    have hj':j < s.length:=Nat.lt_trans hj hk
    simpa [hj'] using this
  simp [Yc,this]
theorem Ue {q:Nat->Bool} {s:W8} (h:∀ j,j < s.length->q (s.getD j 0).toNat=false):Yc q s = -1:=by
  have:s.findIdx? (fun c=>q c.toNat)=none:=by
    rw [List.findIdx?_eq_none_iff]
    intro x hx
    obtain ⟨j,hj,rfl⟩:=VQ hx
    have:=h j hj
    simpa [hj] using this
  simp [Yc,this]
theorem YQ (q:Nat->Bool) (s:W8):decide (0<=Yc q s)=s.any (fun c=>q c.toNat):=by
  unfold Yc
  cases h:s.findIdx? (fun c=>q c.toNat) with
  | none =>
    rw [List.findIdx?_eq_none_iff] at h
    rw [List.any_eq_false.2 (by simpa using h)];rfl
  | some i =>
    rw [Rz] at h
    obtain ⟨hi,e,_⟩:=h
    rw [List.any_eq_true.2 ⟨_,List.getElem_mem hi,e⟩];simp
theorem wg (k:Int) (w:W8):0<=Yc (fun r=>decide (127 < r) || !iu k (UInt8.ofNat r)) w ↔ w.all (iu k)=false:=by
  have h:=YQ (fun r=>decide (127 < r) || !iu k (UInt8.ofNat r)) w
  have e:(w.any fun c=>decide (127 < c.toNat) || !iu k (UInt8.ofNat c.toNat)) = !w.all (iu k):=by
    rw [List.not_all_eq_any_not]
    congr 1
    funext c
    rw [UInt8.ofNat_toNat]
    by_cases q:iu k c=true
    · have:0<=ix c:=by simp [iu] at q;exact q.1
      have:=Ut c this
      simp [q];omega
    · simp [q]
  rw [e] at h
  constructor
  · intro q;rw [XJ q] at h;simpa using h
  · intro q;rw [q] at h;simpa using h
theorem I7 (w:W8):decide (bG 8 w=0)=oU w:=by
  rw [Qj,Sy];exact aaH w
theorem xo {w o R:W8} {i:Nat} (hi:i < w.length) (h:(w.drop i).foldl push o=R) (hc:0 < o.length/\o.getD (o.length - 1) 0=w.getD i 0 ^^^ 32):(w.drop (i + 1)).foldl push (o.take (o.length - 1))=R:=by
  rw [mJ hi,TQ,push,XX hc] at h;exact h
theorem xp {w o R:W8} {i:Nat} (hi:i < w.length) (h:(w.drop i).foldl push o=R) (hc:¬ (0 < o.length/\o.getD (o.length - 1) 0=w.getD i 0 ^^^ 32)):(w.drop (i + 1)).foldl push (o ++ [w.getD i 0])=R:=by
  rw [mJ hi,TQ,push,Xy hc] at h;exact h
theorem rk {w:W8} {i:Nat} (h:w.length<=i):w.drop i=[]:=Sx h
theorem sg {α:Type} {w:List α} {i:Nat} (h:w.length<=i):w.drop i=[]:=Sx h
theorem vM {l:List W8} {k:Nat} {o o2 R:W8} (hk:k < l.length) (h:(l.drop k).flatten.foldl push o=R) (h2:(l.getD k []).foldl push o=o2):(l.drop (k + 1)).flatten.foldl push o2=R:=by
  rw [xZ hk,List.flatten_cons,SZ,h2] at h;exact h
theorem Oq {l:List W8} {k:Nat} (hk:k < l.length):(l.drop k).flatten.length=(l.getD k []).length + (l.drop (k + 1)).flatten.length:=by
  rw [xZ hk,List.flatten_cons,Xx]
def k8 (w:W8) (k:Nat):W8:=List.replicate (w.length - k) 0 ++ ((w.take k).map (· ^^^ 32)).reverse
theorem wA (w:W8):List.replicate w.length 0=k8 w 0:=by simp [k8]
theorem yE (w:W8) {k:Nat} (h:w.length<=k):k8 w k=inv w:=by
  simp [k8,inv,VX h,Nat.sub_eq_zero_of_le h]
theorem td (w:W8) {k:Nat} (h:k<=w.length):(k8 w k).length=w.length:=by simp [k8];omega
theorem yF (w:W8) {k:Nat} (h:k < w.length):(k8 w k).set (w.length - 1 - k) (w.getD k 0 ^^^ 32)=k8 w (k + 1):=by
  have e:List.replicate (w.length - k) (0:UInt8)=List.replicate (w.length - 1 - k) 0 ++ [0]:=by
    rw [show w.length - k=(w.length - 1 - k) + 1 by omega,List.replicate_succ']
  have t:w.take (k + 1)=w.take k ++ [w.getD k 0]:=by
    rw [List.take_add_one,SQ h];simp [h]
  unfold k8
  rw [e,XY,t,VJ,List.reverse_append,show w.length - (k + 1)=w.length - 1 - k by omega]
  rw [RZ (w.length - 1 - k) _ (by simp)]
  simp
theorem fY {u v:W8} {k:Nat} (hu:k < u.length) (hv:k < v.length):iK (u.drop k) (v.drop k)=if ix (u.getD k 0) < ix (v.getD k 0) then -1 else if ix (v.getD k 0) < ix (u.getD k 0) then 1 else iK (u.drop (k + 1)) (v.drop (k + 1)):=by
  rw [mJ hu,mJ hv,iK]
theorem o7 {u v:W8} {k:Nat} (hu:u.length<=k):iK (u.drop k) (v.drop k)=0:=by
  rw [rk hu];rfl
theorem Lz {u v:W8} (h:¬ ¬ u.length=v.length):fc u v=iK u v:=by unfold fc;rw [Xy h]
def FK {α:Type} (q:α->Bool) (l:List α):Int:=match l.findIdx? q with | some i=>i | none=>-1
theorem Ah {α:Type} {q:α->Bool} {l:List α} {k:Nat} {d:α} (hk:k < l.length) (h:∀ j,j < k->q (l.getD j d)=false) (e:q (l.getD k d)=true):FK q l=k:=by
  have:l.findIdx? q=some k:=by
    rw [Rz]
    refine ⟨hk,by simpa [hk] using e,fun j hj=>?_⟩
    have:=h j hj
    have hj':j < l.length:=Nat.lt_trans hj hk
    simpa [hj'] using this
  simp [FK,this]
theorem FP {α:Type} {q:α->Bool} {l:List α} {d:α} (h:∀ j,j < l.length->q (l.getD j d)=false):FK q l = -1:=by
  have:l.findIdx? q=none:=by
    rw [List.findIdx?_eq_none_iff]
    intro x hx
    obtain ⟨j,hj,rfl⟩:=VQ hx
    have:=h j hj
    simpa [hj] using this
  simp [FK,this]
theorem xg {α:Type} (q:α->Bool) (l:List α):0<=FK q l ↔ l.any q=true:=by
  unfold FK
  cases h:l.findIdx? q with
  | none =>
    rw [List.findIdx?_eq_none_iff] at h
    rw [List.any_eq_false.2 (by simpa using h)];simp
  | some i =>
    rw [Rz] at h
    obtain ⟨hi,e,_⟩:=h
    rw [List.any_eq_true.2 ⟨_,List.getElem_mem hi,e⟩];simp
theorem bj {α:Type} {l:List α} {k:Nat} {d:α} (h:k < l.length):l.getD k d ∈ l:=by simp [h]
def iP (g:Int) (r:W8):Bool:=decide (r=[]) || !decide (bG g r=0) || !decide (mC r=r)
def ee (g:Int) (l:List W8):Nat :=
  if g < 1\/8 < g then 1 else if 60 < l.length\/l.any (fun r=>decide (200 < r.length))=true then 2 else if l.any (iP g)=true then 4 else 0
theorem z8:∀ c:UInt8,97<=c->c < 105->((2 * (c - 97).toNat:Nat):Int)=ix c:=iz (by decide +kernel)
theorem C0:∀ c:UInt8,65<=c->c < 73->((2 * (c - 65).toNat + 1:Nat):Int)=ix c:=iz (by decide +kernel)
theorem C5:∀ c:UInt8,¬ (97<=c/\c < 105)->¬ (65<=c/\c < 73)->ix c = -1:=iz (by decide +kernel)
def Yd (c:UInt8):Nat:=(ix c).toNat
theorem Ux (c:UInt8):Yd c < 16:=by have:=ix_lt c;unfold Yd;omega
theorem Ze:∀ c:UInt8,0<=ix c->bW.getD (Yd c) 0=c:=iz (by decide +kernel)
theorem UO:∀ i:Fin 16,i.1 % 2=0->(97:UInt8) + UInt8.ofNat (i.1 / 2)=bW.getD i.1 0:=by decide +kernel
theorem Zf:∀ i:Fin 16,¬ i.1 % 2=0->(65:UInt8) + UInt8.ofNat (i.1 / 2)=bW.getD i.1 0:=by decide +kernel
theorem ZQ {w:W8}:∀ c ∈ mC w,c ∈ w:=by
  have key:∀ (w s:W8),∀ c ∈ w.foldl push s,c ∈ s\/c ∈ w:=by
    intro w
    induction w with
    | nil=>intro s c h;exact .inl h
    | cons a w ih =>
      intro s c h
      rcases ih _ c h with q | q
      · unfold push at q
        split at q
        · exact .inl (SY q)
        · rcases Vw.1 q with q | q
          · exact .inl q
          · exact .inr (by simp at q;simp [q])
      · exact .inr (VZ _ q)
  intro c h
  rcases key w [] c h with q | q
  · cases q
  · exact q
def uk (w:W8):Prop:=∀ c ∈ w,0<=ix c
theorem xl {w:W8} (h:uk w) {k:Nat} (hk:k < w.length):0<=ix (w.getD k 0):=h _ (bj hk)
theorem Vb {w:W8} (h:oU w=true):uk w:=fun c hc=>by
  simp only [oU,XQ,Vx] at h
  have:=h.2 c hc
  simp [iu] at this;exact this.1
theorem Mu {w:W8} (h:uk w):uk (inv w):=fun c hc=>by
  simp only [inv,List.mem_reverse,Vj] at hc
  obtain ⟨d,hd,rfl⟩:=hc
  exact Mf d (h d hd)
theorem FW {w:W8} {j:Nat} (hj:1<=j) (hw:j<=w.length):((w.drop j).map (· ^^^ 32)).reverse ++ [w.getD (j - 1) 0 ^^^ 32]=((w.drop (j - 1)).map (· ^^^ 32)).reverse:=by
  rw [mJ (w:=w) (i:=j - 1) O,show j - 1 + 1=j by omega]
  simp
theorem jz {a:Int} (h:0<=a):some (num a)=some (num ((a.toNat:Nat):Int)):=by rw [Int.toNat_of_nonneg h]
theorem ix_xor (c:UInt8) (h:0<=ix c):qO .xor .i64 (ix c) 1=some (num ((Yd (c ^^^ 32):Nat):Int)):=by
  have key:∀ k:Fin 16,IntKind.i64.wrap ((BitVec.ofInt 64 (k.1:Int) ^^^ BitVec.ofInt 64 1).toNat:Int)=(k.1 ^^^ 1:Nat):=by decide +kernel
  have h2:∀ c:UInt8,0<=ix c->(Yd c) ^^^ 1=Yd (c ^^^ 32):=iz (by decide +kernel)
  have h3:=key ⟨Yd c,Ux c⟩
  have e:ix c=((Yd c:Nat):Int):=by unfold Yd;omega
  rw [<- h2 c h,<- h3,e]
  rfl
theorem ze {k:Int} {w:W8} {i:Nat} (hk:¬ (k < 1\/8 < k)) (hw:¬ 100000 < w.length) (hi:i < w.length) (h:ix (w.getD i 0) < 0\/2 * k<=ix (w.getD i 0)):bG k w=4:=by
  have:w.all (iu k)=false:=by
    rw [List.all_eq_false]
    exact ⟨_,bj (d:=0) hi,by intro q;simp only [iu,XQ,Xw] at q;omega⟩
  simp [bG,hk,hw,this]
theorem I8 {k:Int} {w:W8} {i:Nat} (hk:¬ (k < 1\/8 < k)) (hw:¬ 100000 < w.length) (hi:w.length<=i) (h:∀ j,j < i->0<=ix (w.getD j 0)/\ix (w.getD j 0) < 2 * k):bG k w=0:=by
  have:w.all (iu k)=true:=by
    rw [Vx]
    intro c hc
    obtain ⟨j,hj,rfl⟩:=VQ hc
    have:=h j O
    simp [hj] at this
    simp [iu];exact this
  simp [bG,hk,hw,this]
def ib (A:AH):Prop:=∃ rw cap,A.get 0=some (.row rw (ao bW) cap)
theorem ib.le {A B:AH} (h:ib A) (le:A.le B):ib B:=by obtain ⟨r,c,h⟩:=h;exact ⟨r,c,le.g h⟩
theorem Zn {l:List W8} {i n:Nat} (hi:l.length<=i) (h:∀ j,j < i->(l.getD j []).length<=n):∀ s ∈ l,s.length<=n:=fun s hs=>by
  obtain ⟨j,hj,rfl⟩:=VQ hs
  have:=h j O
  simpa [hj] using this
theorem R8 {l:List W8} (h:∀ s ∈ l,s.length<=200):¬ l.any (fun r=>decide (200 < r.length))=true:=fun q=>by
  obtain ⟨s,hs,e⟩:=List.any_eq_true.1 q
  have:=h s hs;have:=of_decide_eq_true e;omega
theorem GK {g:Int} {l:List W8} {i:Nat} (h:¬ (g < 1\/8 < g)) (h2:¬ 60 < l.length) (h3:∀ s ∈ l,s.length<=200) (hi:l.length<=i) (hb:∀ j,j < i->iP g (l.getD j [])=false):ee g l=0:=by
  rw [ee,Xy h,Xy (fun q=>q.elim h2 (R8 h3)),Xy]
  intro q
  obtain ⟨s,hs,e⟩:=List.any_eq_true.1 q
  obtain ⟨j,hj,rfl⟩:=VQ hs
  have:=hb j O
  simp [hj,e] at this
theorem Ur {g:Int} {r:W8} (hg:g<=8) (h:bG g r=0):oU r=true:=by
  unfold bG at h
  split at h
  · cases h
  · split at h
    · cases h
    · split at h
      · rename_i h1 h2 h3
        simp only [oU,XQ,Xw,Vx] at h3 ⊢
        refine ⟨by omega,fun c hc=>?_⟩
        have:=h3 c hc
        simp only [iu,XQ,Xw] at this ⊢
        omega
      · cases h
theorem zd {w:W8} (h:oU w=true):cq w=mC w:=by rw [cq,XX h]
theorem dc {g:Int} {l:List W8} (h:ee g l=0):(1<=g/\g<=8)/\l.length<=60/\∀ r ∈ l,r.length<=200/\iP g r=false:=by
  unfold ee at h
  split at h
  · cases h
  · split at h
    · cases h
    · split at h
      · cases h
      · rename_i h1 h2 h3
        refine ⟨by omega,by omega,fun r hr=>⟨?_,?_⟩⟩
        · have:¬ l.any (fun r=>decide (200 < r.length))=true:=fun q=>h2 (.inr q)
          rw [Bool.not_eq_true,List.any_eq_false] at this
          have:=this r hr
          simpa using this
        · rw [Bool.not_eq_true,List.any_eq_false] at h3
          have:=h3 r hr
          simpa using this
theorem wd {g:Int} {r:W8} (h:iP g r=false):r ≠ []/\bG g r=0/\mC r=r:=by
  simpa [iP,and_assoc] using h
theorem o5 {g:Int} {r:W8} (h:¬ bG g r=0):iP g r=true:=by simp [iP,h]
theorem NG {g:Int} {r:W8} (h1:¬ r=[]) (h2:¬ ¬ bG g r=0) (hg:g<=8) (h3:¬ ¬ cq r=r):iP g r=false:=by
  rw [zd (Ur hg (Decidable.not_not.1 h2))] at h3
  simp only [iP,Xv h1,XJ (Decidable.not_not.1 h2),XJ (Decidable.not_not.1 h3)];rfl
theorem KU {x y:W8} (h:(!oU x)=true):dr x y=0:=by rw [dr,Xy];intro q;rw [q.1] at h;cases h
theorem KW {x y:W8} (h:(!oU y)=true):dr x y=0:=by rw [dr,Xy];intro q;rw [q.2] at h;cases h
theorem l5 {x y:W8} (hx:(!oU x)=false) (hy:(!oU y)=false):dr x y=fc x y:=by
  rw [dr,XX ⟨by simpa using hx,by simpa using hy⟩]
def Yk (w:W8) (s:List W8 × Bool) (x:W8):List W8 × Bool :=
  let c:=dr x w
  let d:=s.2 || decide (c=0)
  if 0 < c/\d=false then (s.1 ++ [w] ++ [x],true) else (s.1 ++ [x],d)
def addw (l:List W8) (w:W8):List W8 :=
  let s:=l.foldl (Yk w) ([],false)
  if s.2 then s.1 else s.1 ++ [w]
theorem z7 {α β:Type} {f:β->α->β} {l:List α} {i:Nat} {d:α} {s s' R:β} (hi:i < l.length) (h:(l.drop i).foldl f s=R) (e:f s (l.getD i d)=s'):(l.drop (i + 1)).foldl f s'=R:=by
  rw [Tq hi,TQ] at h
  have:l.getD i d=l[i]:=by simp [hi]
  rw [<- e,this];exact h
def rot (w:W8) (j:Nat):W8:=w.drop j ++ w.take j
def symmOf (c:W8) (a:List W8) (j:Nat):List W8:=addw (addw a (rot c j)) (rot (eb c) j)
def Xl (a:List W8) (r:W8):List W8:=(List.range (wCore r).length).foldl (symmOf (wCore r)) a
def symm (l:List W8):List W8:=l.foldl Xl []
theorem qK (w:W8):(eb w).length<=w.length:=by
  unfold eb;split
  · rw [il];exact XV _
  · simp
theorem nG (w:W8):(cq w).length<=w.length:=by
  unfold cq;split
  · exact J7 w
  · simp
theorem Uv:∀ c:UInt8,0<=ix c->(97<=c/\ix c=((2 * (c - 97).toNat:Nat):Int))\/(65<=c/\¬ 97<=c/\ix c=((2 * (c - 65).toNat + 1:Nat):Int)):=iz (by decide +kernel)
theorem u8_97:∀ c:UInt8,97<=c->(c - 97).toNat < 8->c < 105:=iz (by decide +kernel)
theorem u8_65:∀ c:UInt8,65<=c->(c - 65).toNat < 8->c < 73:=iz (by decide +kernel)
def Rn (g:Int) (c:UInt8):Int:=if iu g c then ix c else -1
theorem OU {g:Int} {c:UInt8} (hg:1<=g/\g<=8) (h1:97<=c) (h2:(((c - 97).toNat:Nat):Int) < g):((2 * (c - 97).toNat:Nat):Int)=Rn g c:=by
  have h:=z8 c h1 (u8_97 c h1 O)
  rw [Rn,XX]
  · exact h
  · simp only [iu,XQ,Xw];omega
theorem Mc {g:Int} {c:UInt8} (hg:1<=g/\g<=8) (h1:65<=c) (h2:(((c - 65).toNat:Nat):Int) < g):((2 * (c - 65).toNat + 1:Nat):Int)=Rn g c:=by
  have h:=C0 c h1 (u8_65 c h1 O)
  rw [Rn,XX]
  · exact h
  · simp only [iu,XQ,Xw];omega
theorem C6 {g:Int} {c:UInt8} (h1:¬ (97<=c/\(((c - 97).toNat:Nat):Int) < g)) (h2:¬ (65<=c/\(((c - 65).toNat:Nat):Int) < g)):Rn g c = -1:=by
  rw [Rn,Xy]
  intro q
  simp only [iu,XQ,Xw] at q
  rcases Uv c q.1 with ⟨h,e⟩ | ⟨h,_,e⟩
  · exact h1 ⟨h,by omega⟩
  · exact h2 ⟨h,by omega⟩
theorem Md {g:Int} {c:UInt8}:Rn g c < 0 ↔ iu g c=false:=by
  unfold Rn
  by_cases h:iu g c=true
  · rw [XX h]
    simp only [iu,XQ,Xw] at h
    constructor
    · omega
    · intro q;simp [iu,h] at q
  · rw [Xy h];simp [Bool.not_eq_true] at h;simp [h]
theorem l8 {g:Int} {w:W8} (hg:1<=g/\g<=8):bG g w=0 ↔ w.length<=100000/\∀ c ∈ w,iu g c=true:=by
  unfold bG
  rw [Xy O]
  split
  · constructor
    · intro q;cases q
    · intro q;omega
  · split <;> rename_i h
    · simp only [Vx] at h
      exact ⟨fun _=>⟨by omega,h⟩,fun _=>rfl⟩
    · constructor
      · intro q;cases q
      · intro q;exact absurd (Vx.2 q.2) h
theorem JG {g:Int} {w:W8} {i:Nat} (hg:1<=g/\g<=8) (hi:i < w.length) (h:Rn g (w.getD i 0) < 0):decide (bG g w=0)=false:=by
  rw [VK,l8 hg]
  intro q
  have:=q.2 _ (bj (d:=0) hi)
  rw [Md] at h;rw [h] at this;cases this
theorem FY {g:Int} {w:W8} {i:Nat} (hg:1<=g/\g<=8) (hi:w.length<=i) (h:∀ j,j < i->¬ Rn g (w.getD j 0) < 0):decide (bG g w=0)=decide (w.length<=100000):=by
  rw [decide_eq_decide,l8 hg]
  refine ⟨fun q=>q.1,fun q=>⟨q,fun c hc=>?_⟩⟩
  obtain ⟨j,hj,rfl⟩:=VQ hc
  have:=h j O
  rw [Md] at this
  simpa [hj] using this
structure bK where
  conj:W8
  rel:Int
  inv:Bool
def bK.zero:bK:=⟨[],0,false⟩
def ri (c:bK):List Value:=[ax c.conj,num c.rel,.bool c.inv]
def co (l:List bK):List Value:=l.flatMap ri
theorem cj (l:List bK):(co l).length=l.length * 3:=by
  induction l with
  | nil=>rfl
  | cons c l ih=>simp only [co,Sw,Xx,Xq] at ih ⊢;rw [ih];simp [ri];omega
theorem dR (l:List bK):(co l).length=l.length * 3:=cj l
theorem oG (a b:List bK):co a ++ co b=co (a ++ b):=by simp [co]
theorem Jx (l:List bK):lG (co l)=true:=by
  simp only [lG,co,Vx,Qv]
  rintro v ⟨c,_,h⟩
  simp only [ri,Vz,Ty,or_false] at h
  rcases h with rfl | rfl | rfl <;> rfl
theorem Fp (l:List bK) (i:Nat):(co l).drop (i * 3)=co (l.drop i):=by
  induction l generalizing i with
  | nil=>simp [co]
  | cons c l ih =>
    cases i with
    | zero=>simp
    | succ i =>
      have:(i + 1) * 3=(ri c).length + i * 3:=by simp [ri];omega
      show (ri c ++ co l).drop ((i + 1) * 3)=_
      rw [this,<- List.drop_drop,RY]
      exact ih i
theorem i3 {l:List bK} {i:Nat} (h:i < l.length):((co l).drop (i * 3)).take 3=ri (l.getD i .zero):=by
  rw [Fp,Tq h]
  have e:l.getD i .zero=l[i]:=by simp [h]
  rw [e]
  show (ri l[i] ++ co (l.drop (i + 1))).take 3=_
  exact List.take_left' Z
theorem inv4:∀ c:UInt8,0<=ix c->(97<=c->c - 97 + 65=c ^^^ 32)/\(¬ 97<=c->c - 65 + 97=c ^^^ 32):=iz (by decide +kernel)
def N0 (l:List W8) (c:bK):W8:=if c.inv then inv (l.getD c.rel.toNat []) else l.getD c.rel.toNat []
def kH (l:List W8) (c:bK):W8:=c.conj ++ N0 l c ++ inv c.conj
def ko (l:List W8) (o:W8) (c:bK):W8:=(kH l c).foldl push o
def lq (l:List W8) (d:List bK):W8:=d.foldl (ko l) []
def jl (g:Int) (l:List W8) (c:bK):Bool:=decide (0<=c.rel) && decide (c.rel < l.length) && decide (bG g c.conj=0)
def dp (d:List bK):Nat:=(d.map fun c=>c.conj.length).sum
def gw (g:Int) (l:List W8) (d:List bK):Bool:=d.all (jl g l) && decide (d.length<=100000) && decide (dp d<=1000000)
def xO (g:Int) (l:List W8) (ws:List W8) (ds:List (List bK)):Nat :=
  if ¬ ee g l=0 then 40 else if ws.all (fun w=>decide (bG g w=0))=false then 41 else if ds.all (gw g l)=false then 42 else 0
def iC (g:Int) (l:List W8) (d:List bK) (w:W8):Nat :=
  if ¬ xO g l [w] [d]=0 then xO g l [w] [d] else if ¬ lq l d=mC w then 5 else 0
theorem kb {g:Int} {l:List W8} {i:Nat} (hi:i < l.length) (h:200 < (l.getD i []).length\/iP g (l.getD i [])=true):¬ ee g l=0:=fun q=>by
  have:=(dc q).2.2 _ (bj (d:=[]) hi)
  rcases h with h | h
  · omega
  · rw [h] at this;cases this.2
theorem tU {g:Int} {l:List W8} {i:Nat} (hg:¬ (g < 1\/8 < g)) (hl:¬ 60 < l.length) (hi:l.length<=i) (h:∀ j,j < i->(l.getD j []).length<=200/\iP g (l.getD j [])=false):ee g l=0 :=
  GK hg hl (Zn hi fun j hj=>(h j hj).1) hi fun j hj=>(h j hj).2
theorem o6 {g:Int} {r:W8} (h:¬ mC r=r):iP g r=true:=by simp [iP,h]
theorem zN {g:Int} {r:W8} (h1:¬ r.length < 1) (h2:¬ ¬ bG g r=0) (h3:¬ ¬ mC r=r):iP g r=false:=by
  have:r ≠ []:=fun q=>by rw [q] at h1;exact h1 (by simp)
  simp only [iP,Xv this,XJ (Decidable.not_not.1 h2),XJ (Decidable.not_not.1 h3)];rfl
theorem kN {g:Int} {r:W8} (h:r.length < 1):iP g r=true:=by
  have:r=[]:=Vv.1 O
  simp [iP,this]
theorem kX {g:Int} {w:W8} (h:¬ ¬ bG g w=0):uk w:=by
  have h:=Decidable.not_not.1 h
  unfold bG at h
  split at h
  · cases h
  · split at h
    · cases h
    · split at h
      · rename_i q
        intro c hc
        have:=Vx.1 q c hc
        simp only [iu,XQ,Xw] at this
        exact this.1
      · cases h
theorem gO {g:Int} {w:W8} (h:bG g w=0):w.length<=100000:=by
  unfold bG at h
  split at h
  · cases h
  · split at h
    · cases h
    · omega
theorem JW {a b:W8} (ha:uk a) (hb:uk b):uk (a ++ b):=fun c hc=>(Vw.1 hc).elim (ha c) (hb c)
theorem tu {d:List bK} {i:Nat} (h:i < d.length):dp (d.drop i)=(d.getD i .zero).conj.length + dp (d.drop (i + 1)):=by
  have e:d.getD i .zero=d[i]:=by simp [h]
  rw [Tq h,e,dp,TJ,List.sum_cons];rfl
theorem hcl_of {d:List bK} (h:dp d<=100000000):∀ c ∈ d,c.conj.length<=9223372036854775807:=fun c hc=>by
  have:c.conj.length<=dp d:=by
    clear h
    induction d with
    | nil=>cases hc
    | cons a d ih =>
      simp only [dp,TJ,List.sum_cons] at ih ⊢
      rcases Vz.1 hc with rfl | hc
      · omega
      · have:=ih hc;omega
  omega
theorem kR {g:Int} {l:List W8} {d:List bK} {i:Nat} (hi:i < d.length) (h:jl g l (d.getD i .zero)=false):gw g l d=false:=by
  have:d.all (jl g l)=false:=List.all_eq_false.2 ⟨_,bj (d:=.zero) hi,by rw [h];decide⟩
  simp [gw,this]
theorem vz {g:Int} {l:List W8} {d:List bK} {i n:Nat} (hi:d.length<=i) (h:∀ j,j < i->jl g l (d.getD j .zero)=true) (hn:n + dp (d.drop i)=dp d):gw g l d=(decide (d.length<=100000) && decide (n<=1000000)):=by
  have:d.all (jl g l)=true:=Vx.2 fun c hc=>by
    obtain ⟨j,hj,rfl⟩:=VQ hc
    have:=h j O
    simpa [hj] using this
  have e:dp d=n:=by rw [Sx hi] at hn;simpa [dp] using hn.symm
  rw [gw,this,Bool.true_and,e]
theorem pm {g:Int} {l:List W8} {c:bK} (h:c.rel < 0):jl g l c=false:=by simp [jl,show ¬ 0<=c.rel by omega]
theorem pn {g:Int} {l:List W8} {c:bK} (h:(l.length:Int)<=c.rel):jl g l c=false:=by simp [jl,show ¬ c.rel < l.length by omega]
theorem po {g:Int} {l:List W8} {c:bK} (h:¬ bG g c.conj=0):jl g l c=false:=by simp [jl,h]
theorem vF {g:Int} {l:List W8} {c:bK} (h1:¬ c.rel < 0) (h2:¬ (l.length:Int)<=c.rel) (h3:¬ ¬ bG g c.conj=0):jl g l c=true:=by
  simp [jl,Decidable.not_not.1 h3];omega
theorem rl {g:Int} {l:List W8} {d:List bK} (h:gw g l d=true):∀ c ∈ d,(0<=c.rel/\c.rel < l.length)/\bG g c.conj=0:=fun c hc=>by
  simp only [gw,XQ,Vx] at h
  have:=h.1.1 c hc
  simpa [jl] using this
theorem m7 {g:Int} {l:List W8} {d:List bK} (h:gw g l d=true):d.length<=100000/\dp d<=1000000:=by
  simp only [gw,XQ,Xw] at h
  exact ⟨h.1.2,h.2⟩
theorem OL (w:W8):inv (inv w)=w:=by
  simp only [inv,List.map_reverse,List.reverse_reverse,RQ]
  have:((fun x:UInt8=>x ^^^ 32) ∘ fun x=>x ^^^ 32)=id:=funext fun x=>j8 x
  rw [this,List.map_id]
theorem rj {l:List bK} {i k:Nat} (h:i < l.length) (hk:k < 3):(co l)[i * 3 + k]? = (ri (l.getD i .zero))[k]?:=by
  rw [<- i3 h,SX hk,RV]
theorem se {l:List bK} {i:Nat} (h:i < l.length):(co l)[i * 3 + 0]? = some (ax (l.getD i .zero).conj):=rj h O
theorem zT {l:List bK} {i:Nat} (h:i < l.length):(co l)[i * 3 + 1]? = some (num (l.getD i .zero).rel):=rj h O
theorem zW {l:List bK} {i:Nat} (h:i < l.length):(co l)[i * 3 + 2]? = some (.bool (l.getD i .zero).inv):=rj h O
theorem VL {g:Int} {l:List W8} {r:Int} (hp:ee g l=0) (h:0<=r/\r < l.length):uk (l.getD r.toNat [])/\(l.getD r.toNat []).length<=200:=by
  have hm:l.getD r.toNat [] ∈ l:=bj O
  have:=(dc hp).2.2 _ hm
  exact ⟨kX (fun q=>q (wd this.2).2.1),this.1⟩
theorem Sh {l:List W8} {o:W8} {c:bK}:(inv c.conj).foldl push ((if c.inv then inv (l.getD c.rel.toNat []) else l.getD c.rel.toNat []).foldl push (c.conj.foldl push o))=ko l o c:=by
  simp only [ko,kH,N0,SZ]
theorem Ln {l:List W8} {o:W8} {c:bK} (hc:c.conj.length<=100000) (hr:(l.getD c.rel.toNat []).length<=200):(ko l o c).length<=o.length + 200200:=by
  have h1:=ff (kH l c) o
  have h2:(N0 l c).length<=200:=by unfold N0;split <;> simp [il] <;> exact hr
  unfold ko
  simp only [kH,Xx,il] at h1 h2
  simp only [kH]
  omega
def Rd (l:List Value):List Value:=l
theorem wI (l:List Value):(Rd l).length=l.length:=rfl
theorem I3 (l:List Value):(Rd l).length=l.length * 1:=(TK _).symm
theorem I0 {l:List Value} {i:Nat} (h:i < l.length):(Rd l)[i]? = some (l.getD i undef):=by simp [Rd,h]
theorem Mw {v:Value} {k:Nat} (h:k < 1):[v].getD k undef=v:=by rw [show k=0 by omega];rfl
theorem SA {g:Int} {l ws:List W8} {ds:List (List bK)} (h:¬ ee g l=0):xO g l ws ds=40:=by rw [xO,XX h]
theorem SC {g:Int} {l ws:List W8} {ds:List (List bK)} {i:Nat} (h:¬ ¬ ee g l=0) (hi:i < ws.length) (hw:¬ bG g (ws.getD i [])=0):xO g l ws ds=41:=by
  rw [xO,Xy h,XX]
  exact List.all_eq_false.2 ⟨_,bj (d:=[]) hi,by rw [Xv hw];decide⟩
theorem all_w {g:Int} {ws:List W8} {i:Nat} (hi:ws.length<=i) (h:∀ j,j < i->bG g (ws.getD j [])=0):¬ ws.all (fun w=>decide (bG g w=0))=false:=by
  rw [Bool.not_eq_false,Vx]
  intro w hw
  obtain ⟨j,hj,rfl⟩:=VQ hw
  have:=h j O
  simpa [hj] using this
theorem SE {g:Int} {l ws:List W8} {d:List bK} {i:Nat} (h:¬ ¬ ee g l=0) (hi:ws.length<=i) (hw:∀ j,j < i->bG g (ws.getD j [])=0) (hd:gw g l d=false):xO g l ws [d]=42:=by
  rw [xO,Xy h,Xy (all_w hi hw),XX (by simp [hd])]
theorem Su {g:Int} {l ws:List W8} {d:List bK} {i:Nat} (h:¬ ¬ ee g l=0) (hi:ws.length<=i) (hw:∀ j,j < i->bG g (ws.getD j [])=0) (hd:gw g l d=true):xO g l ws [d]=0:=by
  rw [xO,Xy h,Xy (all_w hi hw),Xy (by simp [hd])]
theorem je {g:Int} {l ws:List W8} {d:List bK} (h:¬ ¬ xO g l ws [d]=0):ee g l=0/\(∀ w ∈ ws,bG g w=0)/\gw g l d=true:=by
  have h:=Decidable.not_not.1 h
  unfold xO at h
  split at h
  · cases h
  · rename_i h1
    split at h
    · cases h
    · rename_i h2
      split at h
      · cases h
      · rename_i h3
        refine ⟨Decidable.not_not.1 h1,?_,by simpa using h3⟩
        rw [Bool.not_eq_false,Vx] at h2
        intro w hw;simpa using h2 w hw
theorem Oe:∀ c:UInt8,97<=c->c < 105->((2 * (c - 97).toNat:Nat):Int)=ix c:=iz (by decide +kernel)
theorem LH:∀ c:UInt8,65<=c->c < 73->((2 * (c - 65).toNat + 1:Nat):Int)=ix c:=iz (by decide +kernel)
theorem CG:∀ c:UInt8,¬ (97<=c/\c < 105)->¬ (65<=c/\c < 73)->ix c = -1:=iz (by decide +kernel)
section
variable {g:Int} {w:W8} {i:Nat} {c:UInt8}
theorem okc_of (h1:¬ ix c < 0) (h2:¬ 2 * g<=ix c):iu g c=true:=by
  simp only [iu,XQ,Xw];omega
theorem YJ (hg:1<=g/\g<=8) (h:100000 < w.length):decide (bG g w=0)=false:=by
  rw [VK,l8 hg];intro q;omega
theorem LG (hg:1<=g/\g<=8) (hi:i < w.length) (h:iu g (w.getD i 0)=false):decide (bG g w=0)=false:=by
  rw [VK,l8 hg]
  intro q
  have:=q.2 _ (bj (d:=0) hi)
  rw [h] at this;cases this
theorem Te (hg:1<=g/\g<=8) (hi:i < w.length) (h:ix (w.getD i 0) < 0):decide (bG g w=0)=false :=
  LG hg hi (by simp only [iu,Bool.and_eq_false_iff,VK];omega)
theorem Tg (hg:1<=g/\g<=8) (hi:i < w.length) (h:2 * g<=ix (w.getD i 0)):decide (bG g w=0)=false :=
  LG hg hi (by simp only [iu,Bool.and_eq_false_iff,VK];omega)
theorem Th (hg:1<=g/\g<=8) (hl:w.length<=100000) (hi:w.length<=i) (h:∀ j,j < i->iu g (w.getD j 0)=true):decide (bG g w=0)=true:=by
  rw [Sy,l8 hg]
  refine ⟨hl,fun c hc=>?_⟩
  obtain ⟨j,hj,rfl⟩:=VQ hc
  have:=h j O
  simpa [hj] using this
end
def vE (a w:W8) (i:Nat):Prop:=i + w.length<=a.length/\(a.take (i + w.length)).drop i=w
instance (a w:W8) (i:Nat):Decidable (vE a w i):=by unfold vE;infer_instance
def vq (a w:W8) (k:Nat):Int:=match (List.range (a.length + 1)).find? (fun i=>decide (k<=i/\vE a w i)) with | some i=>(i:Int) | none=>-1
theorem yf {p:Nat->Bool}:∀ {n i:Nat},i < n->p i=true->(∀ j,j < i->p j=false)->(List.range n).find? p=some i:=by
  intro n i hi hp hn
  rw [List.find?_range_eq_some]
  exact ⟨hp,VV.2 hi,fun j hj=>by simpa using hn j hj⟩
theorem Ol {a w:W8} {k i:Nat} (hk:k<=i) (hn:∀ j,k<=j->j < i->¬ vE a w j) (h1:i + w.length<=a.length) (h2:(a.take (i + w.length)).drop i=w):vq a w k=i:=by
  unfold vq
  rw [yf (i:=i) O (by simp [hk,vE,h1,h2]) (fun j hj=>by
    rw [VK];rintro ⟨q1,q2⟩;exact hn j q1 hj q2)]
theorem TG {a w:W8} {k i:Nat} (hk:k<=i) (hn:∀ j,k<=j->j < i->¬ vE a w j) (h1:¬ i + w.length<=a.length):vq a w k = -1:=by
  unfold vq
  rw [RW.2]
  intro j hj
  rw [Sy]
  rintro ⟨q1,q2⟩
  exact hn j q1 (by have:=q2.1;omega) q2
theorem Ie {w:W8} {j:Nat} (hj:1<=j) (hw:j<=w.length):(w.drop j).reverse ++ [w.getD (j - 1) 0]=(w.drop (j - 1)).reverse:=by
  rw [mJ (w:=w) (i:=j - 1) O,show j - 1 + 1=j by omega]
  simp
theorem NY {d:List bK} {k n:Nat} (hk:d.length<=k) (h:n + dp (d.drop k)=dp d):dp d=n:=by
  rw [Sx hk] at h
  exact h.symm.trans (by simp [dp])
theorem UJ {l m:List W8} {i:Nat} (hl:l.length=m.length) (hi:l.length<=i) (h:∀ j,j < i->l.getD j []=m.getD j []):l=m:=by
  refine List.ext_getElem hl fun j h1 h2=>?_
  have:=h j O
  simpa [h1,h2] using this
structure an where
  left:W8
  right:W8
  pv:Value
  proof:List bK
def an.zero:an:=⟨[],[],.slice none 0 0,[]⟩
def ky (r:an):List Value:=[ax r.left,ax r.right,r.pv]
def cd (l:List an):List Value:=l.flatMap ky
def Proofs (A:AH) (l:List an):Prop:=∀ r ∈ l,bJ A 3 r.pv (co r.proof)
theorem Proofs.le {A B:AH} {l:List an} (h:Proofs A l) (le:A.le B):Proofs B l:=fun r hr=>(h r hr).le le
theorem bw (l:List an):(cd l).length=l.length * 3:=by
  induction l with
  | nil=>rfl
  | cons c l ih=>simp only [cd,Sw,Xx,Xq] at ih ⊢;rw [ih];simp [ky];omega
theorem cL (l:List an):(cd l).length=l.length * 3:=bw l
theorem mF (a b:List an):cd a ++ cd b=cd (a ++ b):=by simp [cd]
theorem yJ (l:List an) (i:Nat):(cd l).drop (i * 3)=cd (l.drop i):=by
  induction l generalizing i with
  | nil=>simp [cd]
  | cons c l ih =>
    cases i with
    | zero=>simp
    | succ i =>
      have:(i + 1) * 3=(ky c).length + i * 3:=by simp [ky];omega
      show (ky c ++ cd l).drop ((i + 1) * 3)=_
      rw [this,<- List.drop_drop,RY]
      exact ih i
theorem iI {l:List an} {i:Nat} (h:i < l.length):((cd l).drop (i * 3)).take 3=ky (l.getD i .zero):=by
  rw [yJ,Tq h]
  have e:l.getD i .zero=l[i]:=by simp [h]
  rw [e]
  show (ky l[i] ++ cd (l.drop (i + 1))).take 3=_
  exact List.take_left' Z
theorem ue {l:List an} {i k:Nat} (h:i < l.length) (hk:k < 3):(cd l)[i * 3 + k]? = (ky (l.getD i .zero))[k]?:=by
  rw [<- iI h,SX hk,RV]
theorem jK {l:List an} {i:Nat} (h:i < l.length):(cd l)[i * 3 + 0]? = some (ax (l.getD i .zero).left):=ue h O
theorem yK {l:List an} {i:Nat} (h:i < l.length):(cd l)[i * 3 + 1]? = some (ax (l.getD i .zero).right):=ue h O
theorem Ik {l:List an} {i:Nat} (h:i < l.length):(cd l)[i * 3 + 2]? = some (l.getD i .zero).pv:=ue h O
theorem Proofs.get {A:AH} {l:List an} {i:Nat} (hp:Proofs A l) (h:i < l.length):bJ A 3 (l.getD i .zero).pv (co (l.getD i .zero).proof):=hp _ (bj (d:=.zero) h)
def gH (o w:W8):Bool:=decide (w.length<=o.length/\o.drop (o.length - w.length)=w)
def bq (l:List an) (o:W8):Int:=match (List.range l.length).find? (fun i=>gH o (l.getD i .zero).left) with | some i=>(i:Int) | none=>-1
theorem J9 {l:List an} {o:W8} {i:Nat} (hi:i < l.length) (hn:∀ j,j < i->gH o (l.getD j .zero).left=false) (h:gH o (l.getD i .zero).left=true):bq l o=i:=by
  unfold bq;rw [yf hi h hn]
theorem PR {l:List an} {o:W8} {i:Nat} (hi:l.length<=i) (hn:∀ j,j < i->gH o (l.getD j .zero).left=false):bq l o = -1:=by
  unfold bq
  rw [RW.2]
  intro j hj
  rw [hn j (by have:=VV.1 hj;omega)];simp
def sj (l:List an) (w:W8):Bool:=decide (cq w=w) && l.all fun r=>decide (vq w r.left 0 < 0)
theorem FX {l:List an} {w:W8} (h:cq w ≠ w):sj l w=false:=by simp [sj,h]
theorem Uq {l:List an} {w:W8} {i:Nat} (hi:i < l.length) (h:0<=vq w (l.getD i .zero).left 0):sj l w=false:=by
  rw [<- Bool.not_eq_true]
  intro q
  simp only [sj,XQ,Vx,Xw] at q
  have:=q.2 _ (bj (d:=.zero) hi)
  omega
theorem YY {l:List an} {w:W8} {i:Nat} (hi:l.length<=i) (hw:cq w=w) (h:∀ j,j < i->vq w (l.getD j .zero).left 0 < 0):sj l w=true:=by
  simp only [sj,XQ,Vx,Xw]
  refine ⟨hw,fun r hr=>?_⟩
  obtain ⟨j,hj,rfl⟩:=VQ hr
  have:=h j O
  simpa [hj] using this
def jB (g:Int) (w:W8):Bool:=decide (w.length<=1000/\bG g w=0/\cq w=w)
structure um {α:Type} [DecidableEq α] (kd:TypeDesc) (enc:α->Value):Prop where
  basic:rh kd=true
  same:∀ a b,Instr.sameNow kd (enc a) (enc b)=some (decide (a=b))
  bits:∀ a,Instr.sameBits 10000 (enc a) (enc a)=true
theorem Da:um .string ax:={
  basic:=rfl
  same:=fun a c=>by
    simp only [Instr.sameNow]
    congr 1
    have e:(bs a == bs c)=((bs a).data == (bs c).data):=rfl
    rw [e,Qj,QX,Sy]
    constructor
    · intro h
      have:(bs a).data.toList=(bs c).data.toList:=by rw [h]
      exact this
    · intro h;rw [h]
  bits:=fun a=>by
    show (bs a == bs a)=true
    have e:(bs a == bs a)=((bs a).data == (bs a).data):=rfl
    rw [e];simp }
theorem uE:um (.int .u8) ed:={
  basic:=rfl
  same:=fun a c=>by
    simp only [Instr.sameNow,if_true]
    congr 1
    rw [Qj,QX,Sy]
    constructor
    · intro h;exact UInt8.toNat_inj.1 (Int.ofNat_inj.1 h)
    · rintro rfl;rfl
  bits:=fun a=>by simp [Instr.sameBits] }
theorem vA:um (.int .i64) num:={
  basic:=rfl
  same:=fun a c=>by
    simp only [Instr.sameNow,if_true]
    rfl
  bits:=fun a=>by simp [Instr.sameBits] }
section
variable {α:Type} [DecidableEq α] {kd:TypeDesc} {enc:α->Value}
def d9 (enc:α->Value) (es:Array MapEntry) (E:List (α × Value)):Prop:=es.toList.map (fun x=>(x.key,x.val))=E.map fun p=>(enc p.1,p.2)
def lk (E:List (α × Value)) (k:α):Option Value:=(E.find? fun p=>decide (p.1=k)).map (·.2)
def Cd (E:List (α × Value)) (k:α) (v:Value):List (α × Value):=if k ∈ E.map (·.1) then E.map (fun p=>if p.1=k then (p.1,v) else p) else E ++ [(k,v)]
theorem d9.nil:d9 enc #[] []:=rfl
theorem d9.size {es:Array MapEntry} {E:List (α × Value)} (h:d9 enc es E):es.size=E.length:=by
  have:=Xk List.length h;simpa using this
theorem vr (K:um kd enc) (k:α):∀ (l:List MapEntry) (E:List (α × Value)) (n:Nat),l.map (fun x=>(x.key,x.val))=E.map (fun p=>(enc p.1,p.2)) ->
    (∃ i v,Instr.findNow kd (enc k) l n=some (some (n + i,v))/\lk E k=some v/\i < l.length/\(E.map (·.1))[i]? = some k/\(∃ x,l[i]? = some x/\x.key=enc k)/\∀ j,j < i->(E.map (·.1))[j]? ≠ some k)\/(Instr.findNow kd (enc k) l n=some none/\lk E k=none/\k ∉ E.map (·.1)):=by
  intro l
  induction l with
  | nil =>
    intro E n h
    cases E with
    | nil=>right;exact ⟨Z,Z,by simp⟩
    | cons p E=>cases h
  | cons x l ih =>
    intro E n h
    cases E with
    | nil=>cases h
    | cons p E =>
      simp only [TJ,List.cons.injEq,Prod.mk.injEq] at h
      obtain ⟨⟨h1,h2⟩,h3⟩:=h
      by_cases q:k=p.1
      · left
        refine ⟨0,x.val,?_,?_,by simp,by simp [q],⟨x,rfl,by rw [h1,q]⟩,fun j hj=>absurd hj (Nat.not_lt_zero _)⟩
        · simp only [Instr.findNow,h1,K.same,XJ q,Nat.add_zero]
        · simp [lk,q,h2]
      · have q2:¬ p.1=k:=fun e=>q e.symm
        rcases ih E (n + 1) h3 with ⟨i,v,g1,g2,g3,g4,g5,g6⟩ | ⟨g1,g2,g3⟩
        · left
          refine ⟨i + 1,v,?_,?_,by simp;omega,by simpa using g4,by simpa using g5,fun j hj=>?_⟩
          · simp only [Instr.findNow,h1,K.same,Xv q];rw [g1,show n + (i + 1)=n + 1 + i by omega]
          · simpa [lk,q2] using g2
          · cases j with
            | zero=>simpa using q2
            | succ j=>simpa using g6 j O
        · right
          refine ⟨?_,?_,by simpa [q] using g3⟩
          · simp only [Instr.findNow,h1,K.same,Xv q];exact g1
          · simpa [lk,q2] using g2
variable {P:Program} {e:im} {A:AH} {x y z:Operand} {t kt et:TypeId} {ty:TypeId} {ps:String} {af:Array Edge} {dst:Option Nat} {Q:Value->AH->Prop} {Kp:List PanicEntry->AH->Prop} {g:Option (Nat × Bool)} {m clock:Nat} {es:Array MapEntry} {E:List (α × Value)} {k:α} {v zv:Value} {rw:Bool}
theorem r0 (K:um kd enc) (hx:cg e x=some (.map (some m))) (hy:cg e y=some (enc k)) (hu:P.underlying t=some (.map kt et)) (hk:P.underlying kt=some kd) (hz:c5 P et=some zv) (hg:A.get m=some (.obj rw (.map es clock))) (hE:d9 enc es E)
    (h:Q ((lk E k).getD zv) A):ll P e A { dst:=dst,op:=.lookup t x y false,type:=ty,pos:=ps,after:=af,guard:=g } Q Kp:=by
  rcases vr K k es.toList E 0 hE with ⟨i,v,g1,g2,_⟩ | ⟨g1,g2,_⟩
  · rw [g2] at h;exact ⟨_,_,hx,hy,kt,et,kd,zv,es,_,hu,hk,K.basic,hz,.inr ⟨m,rw,clock,Z,hg⟩,g1,h⟩
  · rw [g2] at h;exact ⟨_,_,hx,hy,kt,et,kd,zv,es,_,hu,hk,K.basic,hz,.inr ⟨m,rw,clock,Z,hg⟩,g1,h⟩
theorem zj (K:um kd enc) (hx:cg e x=some (.map (some m))) (hy:cg e y=some (enc k)) (hu:P.underlying t=some (.map kt et)) (hk:P.underlying kt=some kd) (hz:c5 P et=some zv) (hg:A.get m=some (.obj rw (.map es clock))) (hE:d9 enc es E)
    (h1:∀ v,lk E k=some v->Q (.tuple #[v,.bool true]) A) (h2:lk E k=none->Q (.tuple #[zv,.bool false]) A):ll P e A { dst:=dst,op:=.lookup t x y true,type:=ty,pos:=ps,after:=af,guard:=g } Q Kp:=by
  rcases vr K k es.toList E 0 hE with ⟨i,v,g1,g2,_⟩ | ⟨g1,g2,_⟩
  · exact ⟨_,_,hx,hy,kt,et,kd,zv,es,_,hu,hk,K.basic,hz,.inr ⟨m,rw,clock,Z,hg⟩,g1,h1 v g2⟩
  · exact ⟨_,_,hx,hy,kt,et,kd,zv,es,_,hu,hk,K.basic,hz,.inr ⟨m,rw,clock,Z,hg⟩,g1,h2 g2⟩
theorem d9.push (h:d9 enc es E) (k:α) (v:Value) (c:Nat):d9 enc (es.push { key:=enc k,val:=v,born:=c }) (E ++ [(k,v)]):=by
  have h':es.toList.map (fun x=>(x.key,x.val))=_:=h
  simp only [d9,Array.toList_push,VJ,TJ,List.map_nil,h']
theorem JM {β γ:Type} {f:β->γ} {l:List β} {i:Nat} {F:β->β} {G:List γ} (h:l.map f=G):(l.modify i F).map f=match l[i]? with | some x=>G.set i (f (F x)) | none=>G:=by
  subst h
  apply List.ext_getElem?
  intro j
  cases q:l[i]? with
  | none =>
    have hi:l.length<=i:=by simpa using q
    simp only [List.getElem?_map,List.getElem?_modify]
    by_cases e:i=j
    · subst e;simp [q]
    · simp [e]
  | some x =>
    have hi:i < l.length:=(Rx.1 q).1
    simp only [List.getElem?_map,List.getElem?_modify,List.getElem?_set,TX]
    by_cases e:i=j
    · subst e
      have hx:=(Rx.1 q).2
      simp [hi,hx]
    · simp [e]
theorem aau {k:α} {v:Value}:∀ {E:List (α × Value)} {i:Nat},(E.map (·.1))[i]? = some k->(E.map (·.1)).Nodup->(E.map fun p=>(enc p.1,p.2)).set i (enc k,v)=(E.map fun p=>if p.1=k then (p.1,v) else p).map fun p=>(enc p.1,p.2):=by
  intro E
  induction E with
  | nil=>intro i h;simp at h
  | cons p E ih =>
    intro i h hn
    cases i with
    | zero =>
      simp only [TJ,List.getElem?_cons_zero,Option.some.injEq] at h
      subst h
      simp only [TJ,List.set_cons_zero,if_true]
      congr 1
      rw [RQ]
      apply List.map_congr_left
      intro q hq
      have:¬ q.1=p.1:=fun e=>(List.nodup_cons.1 hn).1 (by show p.1 ∈ _;rw [<- e];exact List.mem_map_of_mem hq)
      simp [this]
    | succ i =>
      simp only [TJ,List.getElem?_cons_succ] at h
      have hp:¬ p.1=k:=fun e=>(List.nodup_cons.1 hn).1 (by show p.1 ∈ _;rw [e];exact List.mem_of_getElem? h)
      simp only [TJ,List.set_cons_succ,Xy hp]
      congr 1
      exact ih h (List.nodup_cons.1 hn).2
theorem qw (K:um kd enc) (wf:A.wf) (hx:cg e x=some (.map (some m))) (hy:cg e y=some (enc k)) (hz:cg e z=some v) (hu:P.underlying t=some (.map kt et)) (hk:P.underlying kt=some kd) (hg:A.get m=some (.obj true (.map es clock))) (hE:d9 enc es E) (hn:(E.map (·.1)).Nodup)
    (h:∀ A1 es1 ck,sL A A1 m (.obj true (.map es1 ck))->d9 enc es1 (Cd E k v)->Q undef A1):ll P e A { dst:=dst,op:=.mapUpdate t x y z,type:=ty,pos:=ps,after:=af,guard:=g } Q Kp:=by
  rcases vr K k es.toList E 0 hE with ⟨i,u,g1,g2,g3,g4,⟨w,g5,D⟩,g6⟩ | ⟨g1,g2,g3⟩
  · refine ⟨_,_,_,hx,hy,hz,kt,et,kd,m,es,clock,_,hu,hk,K.basic,Z,hg,g1,⟨w,by simpa using g5,by rw [D];exact K.bits k⟩,h _ _ _ (Xd wf hg _) ?_⟩
    have hm:k ∈ E.map (·.1):=List.mem_of_getElem? g4
    show (es.modify (0 + i) _).toList.map _=_
    rw [Qq,Array.toList_modify,JM (show es.toList.map (fun x=>(x.key,x.val))=_ from hE),g5,Cd,XX hm]
    exact aau g4 hn
  · refine ⟨_,_,_,hx,hy,hz,kt,et,kd,m,es,clock,_,hu,hk,K.basic,Z,hg,g1,h _ _ _ (Xd wf hg _) ?_⟩
    rw [Cd,Xy g3];exact hE.push k v clock
theorem Dp {E:List (α × Value)} {k:α}:lk E k=none ↔ k ∉ E.map (·.1):=by
  simp only [lk,Option.map_eq_none_iff,RW,Xw,Vj,not_exists,not_and]
theorem xq {E:List (α × Value)} {k:α} {v:Value} (h:k ∉ E.map (·.1)):Cd E k v=E ++ [(k,v)]:=Xy h
theorem XD {E:List (α × Value)} {k:α} {v:Value}:(Cd E k v).map (·.1)=if k ∈ E.map (·.1) then E.map (·.1) else E.map (·.1) ++ [k]:=by
  unfold Cd
  split
  · rw [RQ]
    apply List.map_congr_left
    intro p _
    simp only [Function.comp];split <;> rfl
  · simp
theorem Rc {E:List (α × Value)} {k:α} {v:Value} (h:(E.map (·.1)).Nodup):((Cd E k v).map (·.1)).Nodup:=by
  rw [XD]
  split
  · exact h
  · rename_i q;exact Qx.2 ⟨h,by simp,by intro a ha b hb;simp at hb;subst hb;exact fun e=>q (e ▸ ha)⟩
theorem lk_map (k j:α) (v:Value):∀ E:List (α × Value),lk (E.map fun p=>if p.1=k then (p.1,v) else p) j=if j=k/\k ∈ E.map (·.1) then some v else lk E j:=by
  intro E
  induction E with
  | nil=>simp [lk]
  | cons p E ih =>
    have hc:∀ (q:α × Value) (F:List (α × Value)),lk (q :: F) j=if q.1=j then some q.2 else lk F j:=fun q F=>by
      by_cases h:q.1=j <;> simp [lk,h]
    rw [TJ,hc,hc,ih]
    by_cases hp:p.1=k
    · by_cases hj:j=k
      · subst hj;simp [hp]
      · have h1:¬ k=j:=fun q=>hj q.symm
        simp [hp,hj,h1]
    · by_cases hj:j=k
      · subst hj;simp only [hp,if_false,true_and,TJ,Vz,show ¬ j=p.1 from fun q=>hp q.symm,false_or]
      · simp [hp,hj]
theorem lk_upd {E:List (α × Value)} {k j:α} {v:Value}:lk (Cd E k v) j=if j=k then some v else lk E j:=by
  unfold Cd
  split
  · rename_i hm
    rw [lk_map]
    by_cases hj:j=k <;> simp [hj,hm]
  · rename_i hm
    simp only [lk,List.find?_append]
    by_cases hj:j=k
    · subst hj
      have:E.find? (fun p=>decide (p.1=j))=none:=by
        rw [RW];intro p hp;simp only [Xw];exact fun q=>hm (by rw [<- q];exact List.mem_map_of_mem hp)
      simp [this]
    · have h2:¬ k=j:=fun q=>hj q.symm
      simp [hj,h2]
end
def rK (L:List W8):List (W8 × Value):=L.map fun w=>(w,.bool true)
theorem zb (L:List W8):(rK L).map (·.1)=L:=by simp [rK,RQ,Function.comp_def]
theorem Xg (L:List W8) (w:W8):(lk (rK L) w).getD (.bool false)=.bool (decide (w ∈ L)):=by
  induction L with
  | nil=>rfl
  | cons x L ih =>
    simp only [rK,TJ,lk,QJ] at ih ⊢
    by_cases h:x=w
    · subst h;simp
    · have h2:¬ w=x:=fun q=>h q.symm
      simp only [Xv h,Vz,h2,false_or];exact ih
theorem QK {L:List W8} {w:W8} (h:w ∉ L):Cd (rK L) w (.bool true)=rK (L ++ [w]):=by
  rw [xq (by rw [zb];exact h)];simp [rK]
section
variable {P:Program} {e:im} {A:AH} {x y z:Operand} {t kt et:TypeId} {ty:TypeId} {ps:String} {af:Array Edge} {dst:Option Nat} {Q:Value->AH->Prop} {Kp:List PanicEntry->AH->Prop} {g:Option (Nat × Bool)} {m clock:Nat} {es:Array MapEntry} {L:List W8} {w:W8} {v:Value} {rw:Bool}
theorem KX (hx:cg e x=some (.map (some m))) (hy:cg e y=some (ax w)) (hu:P.underlying t=some (.map kt et)) (hk:P.underlying kt=some .string) (hz:c5 P et=some (.bool false)) (hg:A.get m=some (.obj rw (.map es clock))) (hE:d9 ax es (rK L))
    (h:Q (.bool (decide (w ∈ L))) A):ll P e A { dst:=dst,op:=.lookup t x y false,type:=ty,pos:=ps,after:=af,guard:=g } Q Kp :=
  r0 Da hx hy hu hk hz hg hE (by rw [Xg];exact h)
theorem K8 (wf:A.wf) (hx:cg e x=some (.map (some m))) (hy:cg e y=some (ax w)) (hz:cg e z=some (.bool true)) (hu:P.underlying t=some (.map kt et)) (hk:P.underlying kt=some .string) (hg:A.get m=some (.obj true (.map es clock))) (hE:d9 ax es (rK L)) (hL:L.Nodup) (hn:w ∉ L)
    (h:∀ A1 D ck,sL A A1 m (.obj true (.map D ck))->d9 ax D (rK (L ++ [w]))->Q undef A1):ll P e A { dst:=dst,op:=.mapUpdate t x y z,type:=ty,pos:=ps,after:=af,guard:=g } Q Kp :=
  qw Da wf hx hy hz hu hk hg hE (by rw [zb];exact hL) fun A1 D ck h1 h2=>h A1 D ck h1 (by rw [QK hn] at h2;exact h2)
end
theorem bK.ext3 {a b:bK} (h1:a.conj=b.conj) (h2:a.rel=b.rel) (h3:a.inv=b.inv):a=b:=by cases a;cases b;simp_all
instance:DecidableEq bK:=fun a b=>decidable_of_iff (a.conj=b.conj/\a.rel=b.rel/\a.inv=b.inv) ⟨fun h=>bK.ext3 h.1 h.2.1 h.2.2,fun h=>h ▸ ⟨rfl,rfl,rfl⟩⟩
theorem eqCell {P:Program} {t ts ti tb:TypeId} {k:IntKind} {f0 f1 f2:Field} (hu:P.underlying t=some (.struct #[f0,f1,f2])) (hg:(P.stoodInHeld t || P.eqGuardType P.depth t)=false) (h0:f0.type=ts/\f0.offset=0/\f0.name ≠ "_") (h1:f1.type=ti/\f1.offset=1/\f1.name ≠ "_") (h2:f2.type=tb/\f2.offset=2/\f2.name ≠ "_")
    (a9:ef P ts=some false) (ai:ef P ti=some false) (ab:ef P tb=some false) (us:P.underlying ts=some .string) (ui:P.underlying ti=some (.int k)) (ub:P.underlying tb=some .bool) (a b:bK) :
    zY P t (.agg #[ax a.conj,num a.rel,.bool a.inv]) (.agg #[ax b.conj,num b.rel,.bool b.inv])=some (decide (a=b)):=by
  obtain ⟨a1,a2,a3⟩:=h0;obtain ⟨b1,b2,b3⟩:=h1;obtain ⟨c1,c2,c3⟩:=h2
  rw [Bool.or_eq_false_iff] at hg
  simp only [zY,hu,hg.1,hg.2,Bool.false_eq_true,or_self,if_false,TC,a1,a2,a3,b1,b2,b3,c1,c2,c3,rC,a9,ai,ab,eqB,us,ui,ub,Cx,if_true,ne_eq]
  have hd:decide (a=b)=(decide (a.conj=b.conj) && (decide (a.rel=b.rel) && (a.inv == b.inv))):=by
    rw [Qj];simp only [Xw,XQ,QX]
    exact ⟨fun h=>h ▸ ⟨rfl,rfl,rfl⟩,fun h=>bK.ext3 h.1 h.2.1 h.2.2⟩
  rw [hd]
  by_cases q1:a.conj=b.conj <;> by_cases q2:a.rel=b.rel <;> cases h3:a.inv <;> cases h4:b.inv <;> simp [q1,q2,Cx]
theorem sk {α:Type} {l m:List α} {d:α} {i:Nat} (hl:l.length=m.length) (hi:l.length<=i) (h:∀ j,j < i->l.getD j d=m.getD j d):l=m:=by
  refine List.ext_getElem hl fun j h1 h2=>?_
  have:=h j O
  simpa [h1,h2] using this
theorem CY {α:Type} {l m:List α} {d:α} {i:Nat} (h:¬ l.getD i d=m.getD i d):l ≠ m:=fun e=>h (by rw [e])
def io (pf:Bool) (r:an):W8 × W8 × List bK:=(r.left,r.right,if pf then r.proof else [])
def fH (pf:Bool) (rs ss:List an):Bool:=decide (rs.map (io pf)=ss.map (io pf))
theorem uH {β:Type} {f:an->β} {rs:List an} {i:Nat} (hi:i < rs.length):(rs.map f).getD i (f .zero)=f (rs.getD i .zero):=by simp [hi]
theorem Bz {pf:Bool} {rs ss:List an} (h:¬ rs.length=ss.length):fH pf rs ss=false:=by
  rw [fH,VK];intro q;have:=Xk List.length q;simp at this;exact h this
theorem va {pf:Bool} {rs ss:List an} {i:Nat} (hl:rs.length=ss.length) (hi:i < rs.length) (h:¬ io pf (rs.getD i .zero)=io pf (ss.getD i .zero)):fH pf rs ss=false:=by
  rw [fH,VK];intro q
  have:=Xk (fun l=>l.getD i (io pf .zero)) q
  simp only [uH hi,uH (show i < ss.length by omega)] at this
  exact h this
theorem BE {pf:Bool} {rs ss:List an} {i:Nat} (hl:rs.length=ss.length) (hi:rs.length<=i) (h:∀ j,j < i->io pf (rs.getD j .zero)=io pf (ss.getD j .zero)):fH pf rs ss=true:=by
  rw [fH,Sy]
  refine sk (d:=io pf .zero) (i:=i) (by simpa using hl) (by simpa using hi) fun j hj=>?_
  by_cases q:j < rs.length
  · rw [uH q,uH O];exact h j hj
  · simp [q,show ¬ j < ss.length by omega]
section
variable {g:Int} {l:List W8} {rs:List an} {r:an} {i:Nat} {w:W8}
theorem jm {A:AH} {n:Nat} {a b:W8} {v:Value} {xs:List Value} (h:bJ A n v xs):lG [ax a,ax b,v]=true:=by
  obtain ⟨p,k,c,rfl,_⟩:=h;rfl
def xH (g:Int) (w:W8):Bool:=decide (w=[]) || decide (200 < w.length) || !decide (bG g w=0) || !decide (cq w=w)
theorem PD (hg:¬ (g < 1\/8 < g)) (hl:¬ 60 < l.length) (h:¬ 0<=FK (xH g) l):ee g l=0:=by
  rw [xg,Bool.not_eq_true,List.any_eq_false] at h
  refine tU (i:=l.length) hg hl (XV _) fun j hj=>?_
  have:=h _ (bj (d:=[]) hj)
  simp only [xH,Bool.or_eq_true,Xw,Bool.not_eq_true',VK,not_or,Decidable.not_not] at this
  obtain ⟨⟨⟨h1,h2⟩,h3⟩,h4⟩:=this
  exact ⟨by omega,NG h1 (fun q=>q h3) O (fun q=>q h4)⟩
theorem Vt (hg:¬ (g < 1\/8 < g)) (h:0<=FK (xH g) l):¬ ee g l=0:=by
  rw [xg,List.any_eq_true] at h
  obtain ⟨x,hx,hb⟩:=h
  intro q
  have h2:=(dc q).2.2 x hx
  obtain ⟨g1,g2,g3⟩:=wd h2.2
  have:cq x=x:=by rw [zd (Ur O g2),g3]
  simp only [xH,g1,g2,this,decide_false,decide_true,Bool.not_true,Bool.or_false,Bool.false_or,Xw] at hb
  omega
theorem DT (h:g < 1):¬ ee g l=0:=fun q=>by have:=(dc q).1;omega
theorem DU (h:8 < g):¬ ee g l=0:=fun q=>by have:=(dc q).1;omega
theorem DR (h:60 < l.length):¬ ee g l=0:=fun q=>by have:=(dc q).2.1;omega
theorem jp (h:jB g w=true):w.length<=1000:=by simp only [jB,Xw] at h;exact h.1
theorem ii (h:jB g w=true):bG g w=0:=by simp only [jB,Xw] at h;exact h.2.1
theorem Xh (h:jB g w=true):cq w=w:=by simp only [jB,Xw] at h;exact h.2.2
theorem qS {b:Bool} (h:(!b)=false):b=true:=by simpa using h
theorem Pn {b:Bool} (h:(!b)=true):b=false:=by simpa using h
def gK (g:Int) (l:List W8) (r:an):Bool:=jB g r.left && jB g r.right && decide (dr r.right r.left < 0) && decide (iC g l r.proof (r.left ++ eb r.right)=0)
def iZ (rs:List an):List W8:=rs.map (·.left)
def bI (g:Int) (l:List W8) (rs:List an):Bool:=decide (ee g l=0) && decide (rs.length<=2000) && rs.all (gK g l) && decide (iZ rs).Nodup
theorem lH (h:(!jB g r.left)=true):gK g l r=false:=by simp [gK,Pn h]
theorem lI (h:(!jB g r.right)=true):gK g l r=false:=by simp [gK,Pn h]
theorem lJ (h:0<=dr r.right r.left):gK g l r=false:=by simp [gK,show ¬ dr r.right r.left < 0 by omega]
theorem lL (h:¬ iC g l r.proof (r.left ++ eb r.right)=0):gK g l r=false:=by simp [gK,h]
theorem Ii (h1:(!jB g r.left)=false) (h2:(!jB g r.right)=false) (h3:¬ 0<=dr r.right r.left) (h4:¬ ¬ iC g l r.proof (r.left ++ eb r.right)=0):gK g l r=true:=by
  simp [gK,qS h1,qS h2,show dr r.right r.left < 0 by omega,Decidable.not_not.1 h4]
theorem dx (h:gK g l r=true):jB g r.left=true/\jB g r.right=true/\dr r.right r.left < 0/\iC g l r.proof (r.left ++ eb r.right)=0:=by
  simp only [gK,XQ,Xw] at h;exact ⟨h.1.1.1,h.1.1.2,h.1.2,h.2⟩
theorem Nh (h:¬ ee g l=0):bI g l rs=false:=by simp [bI,h]
theorem Ni (h:2000 < rs.length):bI g l rs=false:=by simp [bI,show ¬ rs.length<=2000 by omega]
theorem oo (hi:i < rs.length) (h:gK g l (rs.getD i .zero)=false):bI g l rs=false:=by
  have:rs.all (gK g l)=false:=List.all_eq_false.2 ⟨_,bj (d:=.zero) hi,by rw [h];decide⟩
  simp [bI,this]
theorem Np (hi:i < rs.length) (h:(rs.getD i .zero).left ∈ iZ (rs.take i)):bI g l rs=false:=by
  have:¬ (iZ rs).Nodup:=fun q=>by
    have e:rs.getD i .zero=rs[i]:=by simp [hi]
    have h2:rs=rs.take i ++ rs.drop i:=(VW i rs).symm
    rw [iZ,h2,VJ,Tq hi] at q
    exact (Qx.1 q).2.2 _ h _ (Vy) (by rw [e])
  simp [bI,this]
theorem Nr (hp:¬ ¬ ee g l=0) (hn:¬ 2000 < rs.length) (hi:rs.length<=i) (h:∀ j,j < i->gK g l (rs.getD j .zero)=true) (hd:(iZ (rs.take i)).Nodup):bI g l rs=true:=by
  have:rs.all (gK g l)=true:=Vx.2 fun r hr=>by
    obtain ⟨j,hj,rfl⟩:=VQ hr
    have:=h j O
    simpa [hj] using this
  rw [VX hi] at hd
  simp [bI,this,Decidable.not_not.1 hp,show rs.length<=2000 by omega,hd]
theorem cT (h:bI g l rs=true):ee g l=0/\rs.length<=2000/\(∀ r ∈ rs,gK g l r=true)/\(iZ rs).Nodup:=by
  simp only [bI,XQ,Xw,Vx] at h;exact ⟨h.1.1.1,h.1.1.2,h.1.2,h.2⟩
def Sml (l:List W8) (rs:List an):Prop:=l.length<=100000/\(∀ x ∈ l,x.length<=100000)/\rs.length<=100000/\∀ r ∈ rs,r.left.length<=100000/\r.right.length<=100000/\r.proof.length<=10000000/\dp r.proof<=100000000
def isRed (g:Int) (l:List W8) (rs:List an):Bool:=bI g l rs && rs.all fun r=>sj rs r.right && (sj rs (r.left.take (r.left.length - 1)) && sj rs (r.left.drop 1))
theorem OO (h:bI g l rs=false):isRed g l rs=false:=by rw [isRed,h];rfl
theorem UE {r:an} (h:gK g l r=true):0 < r.left.length:=by
  have:=(dx h).2.2.1
  rcases TV r.left.length with q | q
  · rw [Vv.1 q] at this
    unfold dr at this
    split at this
    · simp only [fc,Xz] at this
      split at this
      · simp at this
      · rename_i q2
        have:r.right=[]:=Vv.1 (by simpa using q2)
        rw [this] at *;simp [iK] at *
    · omega
  · exact q
theorem mO (h:bI g l rs=true) (hr:r ∈ rs):r.left.length<=1000/\r.right.length<=1000/\0 < r.left.length :=
  have q:=(cT h).2.2.1 r hr
  ⟨jp (dx q).1,jp (dx q).2.1,UE q⟩
theorem LD {d:List bK} {c:bK} (h:c ∈ d):c.conj.length<=dp d:=by
  induction d with
  | nil=>cases h
  | cons a d ih =>
    simp only [dp,TJ,List.sum_cons] at ih ⊢
    rcases Vz.1 h with rfl | h
    · omega
    · have:=ih h;omega
theorem yo (hi:i < rs.length):iZ (rs.take (i + 1))=iZ (rs.take i) ++ [(rs.getD i .zero).left]:=by
  have e:rs.getD i .zero=rs[i]:=by simp [hi]
  rw [iZ,iZ,List.take_succ_eq_append_getElem hi,VJ,e];rfl
theorem yn (hi:i < rs.length) (hd:(iZ (rs.take i)).Nodup) (h:(rs.getD i .zero).left ∉ iZ (rs.take i)):(iZ (rs.take (i + 1))).Nodup:=by
  rw [yo hi]
  exact Qx.2 ⟨hd,by simp,by intro a ha b hb;simp at hb;subst hb;exact fun q=>h (q ▸ ha)⟩
theorem UF {k:Nat} (hk:k < i) (hi:i<=rs.length) (h:(rs.getD k .zero).left=w):w ∈ iZ (rs.take i):=by
  rw [<- h,iZ]
  refine List.mem_map_of_mem ?_
  have e:rs.getD k .zero=(rs.take i).getD k .zero:=by simp [SX hk]
  rw [e];exact bj Oi
theorem O5 {n:Nat} (hn:i<=n) (h:∀ k,k < n->(rs.getD k .zero).left ≠ w):w ∉ iZ (rs.take i):=fun q=>by
  obtain ⟨r,hr,e⟩:=Vj.1 q
  obtain ⟨k,hk,rfl⟩:=VQ hr
  have D:k < i/\k < rs.length:=by rw [XZ] at hk;omega
  have:=h k O
  rw [List.getElem_take] at e
  apply this;rw [<- e];simp [D.2]
end
end Go.Proofs.YtjppkekmddjcfaaGreatDoor

namespace Go.Proofs
open Go.Proofs.YtjppkekmddjcfaaGreatDoor
open Go.Shelf
def Tryz.sortR_ren:Go.Shelf.Ren:=⟨fun | 6=>85 | 15=>122 | 14=>121 | 28=>162 | 29=>163 | 20=>154 | 21=>155 | 22=>156 | 23=>157 | 24=>158 | 25=>159 | 26=>160 | 27=>161 | 46=>187 | 47=>188 | 48=>189 | 49=>190 | 50=>191 | 57=>203 | n=>n,fun | 22=>25 | 24=>83 | 25=>131 | 3=>3 | 39=>165 | 0=>0 | 53=>199 | 55=>201 | 4=>4 | 46=>193 | 45=>192 | 50=>127 | 5=>5 | 9=>9 | 66=>223 | 70=>227 | 76=>234 | 77=>235 | n=>n,fun | n=>n⟩
theorem Tryz.sortR:Go.Proofs.SlLaysF0.n6 prog Tryz.sortR_ren:={
  mixed:=by kernel_rfl
  f6:=⟨Tryz.f85.name,by decide,func85.trans (Xk some Y)⟩
  f14:=⟨Tryz.f121.name,by decide,func121.trans (Xk some Y)⟩
  f15:=func122.trans (Xk some Y)
  f20:=⟨Tryz.f154.name,by decide,func154.trans (Xk some Y)⟩
  f21:=⟨Tryz.f155.name,by decide,func155.trans (Xk some Y)⟩
  f22:=⟨Tryz.f156.name,by decide,func156.trans (Xk some Y)⟩
  f23:=⟨Tryz.f157.name,by decide,func157.trans (Xk some Y)⟩
  f24:=⟨Tryz.f158.name,by decide,func158.trans (Xk some Y)⟩
  f25:=⟨Tryz.f159.name,by decide,func159.trans (Xk some Y)⟩
  f26:=⟨Tryz.f160.name,by decide,func160.trans (Xk some Y)⟩
  f27:=⟨Tryz.f161.name,by decide,func161.trans (Xk some Y)⟩
  f28:=func162.trans (Xk some Y)
  f29:=func163.trans (Xk some Y)
  f46:=⟨Tryz.f187.name,by decide,func187.trans (Xk some Y)⟩
  f47:=func188.trans (Xk some Y)
  f48:=func189.trans (Xk some Y)
  f49:=⟨Tryz.f190.name,by decide,func190.trans (Xk some Y)⟩
  f50:=⟨Tryz.f191.name,by decide,func191.trans (Xk some Y)⟩
  f57:=⟨Tryz.f203.name,by decide,func203.trans (Xk some Y)⟩
  t0:=underlying0
  a0:=isAgg0
  z0:=sizeOf0
  v0:=zeroValue0
  t3:=underlying3
  a3:=isAgg3
  z3:=sizeOf3
  v3:=zeroValue3
  t4:=underlying4
  a4:=isAgg4
  z4:=sizeOf4
  v4:=zeroValue4
  t5:=underlying5
  a5:=isAgg5
  z5:=sizeOf5
  v5:=zeroValue5
  t9:=underlying9
  a9:=isAgg9
  z9:=sizeOf9
  v9:=zeroValue9
  t22:=underlying25
  a22:=isAgg25
  z22:=sizeOf25
  v22:=zeroValue25
  t25:=underlying131
  a25:=isAgg131
  z25:=sizeOf131
  v25:=zeroValue131
  t39:=underlying165
  a39:=isAgg165
  z39:=sizeOf165
  v39:=zeroValue165
  t45:=underlying192
  a45:=isAgg192
  z45:=sizeOf192
  v45:=zeroValue192
  t46:=underlying193
  a46:=isAgg193
  z46:=sizeOf193
  v46:=zeroValue193
  t50:=underlying127
  a50:=isAgg127
  z50:=sizeOf127
  v50:=zeroValue127
  t53:=underlying199
  a53:=isAgg199
  z53:=sizeOf199
  v53:=zeroValue199
  t55:=underlying201
  a55:=isAgg201
  z55:=sizeOf201
  v55:=zeroValue201
  t66:=underlying223
  a66:=isAgg223
  z66:=sizeOf223
  v66:=zeroValue223
  t70:=underlying227
  a70:=isAgg227
  z70:=sizeOf227
  v70:=zeroValue227
  t76:=underlying234
  a76:=isAgg234
  z76:=sizeOf234
  v76:=zeroValue234
  t77:=underlying235
  a77:=isAgg235
  z77:=sizeOf235
  v77:=zeroValue235 }
def Tryz.containsS_ren:Go.Shelf.Ren:=⟨fun | 144=>101 | 143=>134 | 219=>177 | 217=>195 | 225=>196 | 224=>197 | 267=>198 | 266=>204 | 314=>205 | n=>n,fun | 9=>9 | 4=>4 | 3=>3 | 5=>5 | 46=>165 | 146=>237 | 51=>199 | n=>n,fun | 1=>1 | n=>n⟩
theorem Tryz.containsS:Go.Proofs.Lays.n144 prog Tryz.containsS_ren:={
  mixed:=by kernel_rfl
  f143:=func134.trans (Xk some Y)
  f144:=func101.trans (Xk some Y)
  f217:=func195.trans (Xk some Y)
  f219:=func177.trans (Xk some Y)
  f224:=func197.trans (Xk some Y)
  f225:=func196.trans (Xk some Y)
  f266:=func204.trans (Xk some Y)
  f267:=func198.trans (Xk some Y)
  f314:=func205.trans (Xk some Y)
  t3:=underlying3
  a3:=isAgg3
  z3:=sizeOf3
  v3:=zeroValue3
  t4:=underlying4
  a4:=isAgg4
  z4:=sizeOf4
  v4:=zeroValue4
  t5:=underlying5
  a5:=isAgg5
  z5:=sizeOf5
  v5:=zeroValue5
  t9:=underlying9
  a9:=isAgg9
  z9:=sizeOf9
  v9:=zeroValue9
  t46:=underlying165
  a46:=isAgg165
  z46:=sizeOf165
  v46:=zeroValue165
  t51:=underlying199
  a51:=isAgg199
  z51:=sizeOf199
  v51:=zeroValue199
  t146:=underlying237
  a146:=isAgg237
  z146:=sizeOf237
  v146:=zeroValue237
  g1:=by kernel_rfl }
end Go.Proofs

namespace Go.Proofs.YtjppkekmddjcfaaGreatDoor
open Go Go.RowKit V
def tl (A:AH):Prop:=∃ rw cap m,A.get 1=some (.row rw [num m] cap)
theorem tl.le {A B:AH} (h:tl A) (le:A.le B):tl B:=by obtain ⟨r,c,m,h⟩:=h;exact ⟨r,c,m,le.g h⟩
theorem U6 {a w:W8} {i:Nat} (hi:i + w.length<=a.length):Lib.occAt a w i=decide (vE a w i):=by
  rw [Lib.occAt_iff_take a w i hi,Qj,QX,Sy,vE]
  have:(a.take (i + w.length)).drop i=(a.drop i).take w.length:=by rw [List.drop_take,show i + w.length - i=w.length by omega]
  rw [this];exact ⟨fun h=>⟨hi,h⟩,fun h=>h.2⟩
theorem CJ {a w:W8}:0<=vq a w 0 ↔ ∃ i,vE a w i:=by
  unfold vq
  split
  · rename_i i h
    have h2:=List.find?_some h
    simp only [XK,true_and,Xw] at h2
    exact ⟨fun _=>⟨i,h2⟩,fun _=>by omega⟩
  · rename_i h
    refine ⟨fun q=>by omega,fun ⟨i,hi⟩=>?_⟩
    have:=RW.1 h i (VV.2 (by have:=hi.1;omega))
    simp [hi] at this
theorem CD (a w:W8):Lib.contains a w=decide (0<=vq a w 0):=by
  rw [Lib.contains,Qj,Sy,Sy,CJ]
  rcases Lib.index_spec a w with ⟨h1,h2⟩ | ⟨i,h1,h2,h3,_⟩
  · rw [h1]
    refine ⟨fun q=>by omega,fun ⟨i,hi⟩=>?_⟩
    have:=h2 i (by have:=hi.1;omega)
    rw [U6 hi.1,VK] at this
    exact absurd hi this
  · rw [h1]
    refine ⟨fun _=>?_,fun _=>by omega⟩
    rcases Lib.occAt_room h3 with q | q
    · exact ⟨i,by rw [U6 q] at h3;simpa using h3⟩
    · subst q;exact ⟨0,by simp [vE]⟩
theorem YX {rs:List an} {w:W8} (h:cq w=w):sj rs w = !decide (0<=FK (fun r:an=>decide (0<=vq w r.left 0)) rs):=by
  have e:decide (0<=FK (fun r:an=>decide (0<=vq w r.left 0)) rs)=rs.any (fun r=>decide (0<=vq w r.left 0)):=by
    rw [Qj,Sy,xg]
  rw [e,sj,XJ h,Bool.true_and,List.not_any_eq_all_not]
  congr 1;funext r
  rw [<- decide_not];congr 1;rw [eq_iff_iff];omega
def rg (rs:List an) (r:an):Bool:=!sj rs r.right || !(sj rs (r.left.take (r.left.length - 1)) && sj rs (r.left.drop 1))
theorem OM {g:Int} {l:List W8} {rs:List an} (h:bI g l rs=true):isRed g l rs = !decide (0<=FK (rg rs) rs):=by
  have e:decide (0<=FK (rg rs) rs)=rs.any (rg rs):=by
    rw [Qj,Sy,xg]
  rw [e,isRed,h,Bool.true_and,List.not_any_eq_all_not]
  congr 1;funext r
  simp [rg]
theorem Ki (a w:W8) (A:AH) (hM:tl A) (ha:a.length < 4294967281):bH prog 101 #[ax a,ax w] A (fun v A1=>v=.bool (decide (0<=vq a w 0))/\A=A1):=by
  obtain ⟨rw,cap,m,hm⟩:=hM
  refine ⟨call101,fun W hW=>?_⟩
  refine (Any.strings_Contains Tryz.containsS (bs a) (bs w) m W (by rw [wU];exact ha) (hW.cell (a:=⟨1,0,none⟩) (by simp [AH.cell,hm]))).mono ?_
  rintro e w' ⟨rfl,rfl⟩
  exact ⟨A,hW,.refl _ _,_,Z,by rw [Cw,Cw,CD],Z⟩
open Go.ChangeShapes Go.WideShapes Go.ChangeAt
set_option maxRecDepth 100000
theorem own:ownKnob prog.godebug=none:=by kernel_rfl
theorem De:laidOutB prog=true:=by kernel_rfl
theorem gTab:prog.globalNamed "cayley/word.letters" = some 0:=by kernel_rfl
theorem TP:(prog.globals[0]?).map (·.type)=some 172:=by kernel_rfl
theorem Yz:prog.cellsOf 172=16:=by kernel_rfl
theorem cells5:prog.cellsOf 5=1:=by kernel_rfl
theorem Js:prog.cellsOf 9=1:=by kernel_rfl
theorem So:prog.cellsOf 3=1:=by kernel_rfl
theorem Yv:prog.cellsOf 22=1:=by kernel_rfl
theorem Lq:prog.cellsOf 24=2:=by kernel_rfl
theorem Yw:prog.cellsOf 25=1:=by kernel_rfl
theorem Yx:prog.cellsOf 27=3:=by kernel_rfl
theorem Yy:prog.cellsOf 35=1:=by kernel_rfl
theorem Lu:prog.cellsOf 83=3:=by kernel_rfl
theorem qf {P:Program} {x:String × DataW Unit} {r:List (String × DataW Unit)} {w:World} (h:laidMet P (x :: r) w):laidMet P r w:=by
  obtain ⟨ps,⟨g,t,cs,fuel,p,q,_,_,_,_,hr,rfl⟩,hn,hc⟩:=h
  exact ⟨q,hr,(Qx.1 hn).2.1,fun b off hm=>hc b off (RJ _ hm)⟩
abbrev F5:List (String × DataW Unit):=[("math/bits.deBruijn32tab",Rows.laid_math_bits_deBruijn32tab),("math/bits.deBruijn64tab",Rows.laid_math_bits_deBruijn64tab),("internal/strconv.uint64pow10",Rows.laid_internal_strconv_uint64pow10),("cayley/word.letters",Rows.laid_cayley_word_letters)]
theorem table {W:World} (h:laidMetH prog F5 W):Lib.TabIs prog W "cayley/word.letters" .u8 (bW.map fun c=>(c.toNat:Int)):=by
  have h0:laidMet prog F5 W:=h
  exact Lib.tabIs_of_head (rest:=[]) gTab TP underlying172 underlying5 cells5 Yz (qf (qf (qf h0)))
def AH.ofWorld (W:World):AH:=⟨W.heap.size,fun b=>match W.heap[b]? with
  | some (.cells cs _ _)=>some (.row false cs.toList cs.size)
  | some o=>some (.obj false o)
  | none=>none⟩
theorem KR (W:World):cD (AH.ofWorld W) W:=by
  refine ⟨rfl,fun b o h=>?_⟩
  simp only [AH.ofWorld] at h
  split at h
  · rename_i cs e fr hb
    cases h
    exact ⟨cs,e,fr,hb,by simp,XV _,fun i hi=>by simp,fun q=>by cases q⟩
  · rename_i x hx hb
    cases h
    exact ⟨hb,fun c e f q=>hx c e f q⟩
  · cases h
theorem Wg (W:World) (b:Nat):(AH.ofWorld W).rw b=false:=by
  unfold AH.rw AH.ofWorld
  simp only
  split
  · rename_i o ho
    split at ho <;> first | (cases ho;rfl) | cases ho
  · rfl
theorem EO {W w':World} {A':AH} (h:fx (AH.ofWorld W) W A' w'):Below W.heap.size W w' :=
  ⟨h.os,h.tape,h.output.1,h.size,fun k hk=>h.kept k hk (Wg W k)⟩
theorem JJ {W:World} (h:Lib.TabIs prog W "cayley/word.letters" .u8 (bW.map fun c=>(c.toNat:Int))):ib (AH.ofWorld W):=by
  unfold Lib.TabIs World.var? at h
  rw [gTab] at h
  simp only [Sz] at h
  split at h
  · rename_i cs e fr hb
    refine ⟨false,cs.size,?_⟩
    have:cs.toList=ao bW:=by
      have:=Xk (Option.map Array.toList) h
      simp only [RK,Option.some.injEq] at this
      rw [this]
      simp [ao]
    simp only [AH.ofWorld,hb,this]
  · cases h
theorem rN (s:ByteArray):Value.string s=ax s.data.toList:=by
  show Value.string s=Value.string ⟨s.data.toList.toArray⟩
  rw [Array.toArray_toList]
theorem Jq {k:FuncId} {args:List Value} {W:World} (h:bH prog k args.toArray (AH.ofWorld W) fun v A1=>v=.bool true/\(AH.ofWorld W).le A1/\A1.wf) :
    Calls prog k args.toArray W fun e w'=>e=.returned (.bool true)/\Below W.heap.size W w':=by
  refine (h.2 W (KR W)).mono ?_
  rintro e w' ⟨A',_,hs,v,rfl,rfl,_⟩
  exact ⟨Z,EO hs⟩
theorem Lx:prog.cellsOf 85=3:=by kernel_rfl
theorem cells4:prog.cellsOf 4=1:=by kernel_rfl
theorem we {α:Type} {Q:Nat->α->Prop}:∀ n:Nat,(∀ i,i < n->∃ z,Q i z)->∃ zs:List α,zs.length=n/\∀ i z,zs[i]? = some z->Q i z
  | 0,_=>⟨[],rfl,fun i z h=>by simp at h⟩
  | n + 1,h=>by
    obtain ⟨zs,h1,h2⟩:=we n fun i hi=>h i O
    obtain ⟨z,hz⟩:=h n O
    refine ⟨zs ++ [z],by simp [h1],fun i y hy=>?_⟩
    by_cases q:i < n
    · exact h2 i y (by rwa [Tv O] at hy)
    · rw [TZ O] at hy
      have:i - zs.length=0:=by
        have:=(Rx.1 hy).1
        simp at this;omega
      rw [this] at hy
      have e:i=n:=by omega
      have:z=y:=by simpa using hy
      rw [e,<- this];exact hz
theorem FB {α:Type} {f:α->List Value} {k:Nat} (hf:∀ z,(f z).length=k):∀ (zs:List α) (i j:Nat) (z:α),zs[i]? = some z->j < k->(zs.flatMap f)[i * k + j]? = (f z)[j]?
  | [],i,j,z,h,_=>by simp at h
  | a :: zs,0,j,z,h,hj=>by
    have:a=z:=by simpa using h
    subst this
    rw [Nat.zero_mul,Qq,Sw,Tv (by rw [hf];exact hj)]
  | a :: zs,i + 1,j,z,h,hj=>by
    have:=FB hf zs i j z (by simpa using h) hj
    rw [Sw,TZ (by rw [hf,SW];omega),hf,<- this]
    congr 1;rw [SW];omega
theorem FC {α:Type} {f:α->List Value} {k:Nat} (hf:∀ z,(f z).length=k) (zs:List α):(zs.flatMap f).length=zs.length * k:=by
  induction zs with
  | nil=>simp
  | cons a zs ih=>rw [Sw,Xx,ih,hf,Xq,SW];omega
theorem NA (a:Addr) (n:Nat):(a.add n).block=a.block:=by unfold Addr.add;split <;> rfl
theorem Yl (a:Addr) (m n:Nat):(a.add m).add n=a.add (m + n):=by
  by_cases hm:m=0
  · subst hm;simp [Addr.add]
  · by_cases hn:n=0
    · subst hn;simp [Addr.add]
    · have:¬ m + n=0:=by omega
      simp [Addr.add,hm,hn,this,Nat.add_assoc]
theorem vG {P:Program} {α:Type} {H:Type} {enc:TypeId × Value->H} {W:World} {base:Nat} {sp:Nat->Bool} {held:Bool} {t e:TypeId} {fuel k:Nat} {cs:List Value} {x:DataW H × List MemPlace} (f:α->List Value) (p:α->Prop) (hf:∀ z,(f z).length=k) (h0:0 < k)
    (ht:P.underlying t=some (.slice e)) (hc:P.cellsOf e=k) (each:∀ (m:Nat) (c:List Value) (y:DataW H × List MemPlace),DataW.trod enc P W base sp held m e c=some y->∃ z,c=f z/\p z) (h:DataW.trod enc P W base sp held fuel t cs=some x) :
    ∃ (zs:List α) (v:Value),cs=[v]/\zs.length<=maxLen/\bJ (AH.ofWorld W) k v (zs.flatMap f)/\∀ z ∈ zs,p z:=by
  rcases DataW.trod_slice ht h with ⟨rfl,_⟩ | ⟨a,len,cap,elems,rest,n,_,rfl,_,hb,hl,hm,hlen,hel,_,_⟩
  · exact ⟨[],_,Z,XK _,⟨none,0,0,Z,by simp,XV _,.inl Z⟩,by simp⟩
  · have key:∀ i,i < len->∃ z,p z/\∀ j,j < k->W.cell? (a.add (i * k + j))=(f z)[j]?:=by
      intro i hi
      have hq:=hel i hi
      have hsome:∃ y,elems[i]? = some y:=⟨elems[i]'O,by simp [show i < elems.length by omega]⟩
      obtain ⟨y,hy⟩:=hsome
      rw [hy,Option.bind_eq_some_iff] at hq
      obtain ⟨c,D,a1⟩:=hq
      obtain ⟨z,rfl,hz⟩:=each n c y a1
      refine ⟨z,hz,fun j hj=>?_⟩
      unfold World.cells? at D
      rw [XX (by rw [NA];exact hb)] at D
      have:=mapM_some_get D j j (by rw [hc];simp [hj])
      rw [hc] at this
      rw [<- this,Yl]
    obtain ⟨zs,a0,V⟩:=we len key
    refine ⟨zs,_,rfl,by omega,⟨some a,len,cap,rfl,by rw [FC hf,a0],hl,?_⟩,fun z hz=>?_⟩
    · by_cases hz:len=0
      · exact .inl hz
      · right
        obtain ⟨blk,off,spot⟩:=a
        obtain ⟨z0,a4⟩:∃ z,zs[0]? = some z:=⟨zs[0]'O,by simp [show 0 < zs.length by omega]⟩
        have X:=(V 0 z0 a4).2 0 h0
        have a2:∃ v,(f z0)[0]? = some v:=⟨(f z0)[0]'(by rw [hf];exact h0),by simp [hf,h0]⟩
        obtain ⟨v0,a3⟩:=a2
        rw [a3] at X
        have hspot:spot=none:=by simpa [Addr.add] using World.cell?_spot X
        subst hspot
        have hcell:∀ i j,i < len->j < k->∃ z,zs[i]? = some z/\∃ cs e fr,W.heap[blk]? = some (.cells cs e fr)/\cs[off + (i * k + j)]? = (f z)[j]?:=fun i j hi hj=>by
          obtain ⟨z,hz⟩:∃ z,zs[i]? = some z:=⟨zs[i]'O,by simp [show i < zs.length by omega]⟩
          refine ⟨z,hz,?_⟩
          have:=(V i z hz).2 j hj
          have hv:(f z)[j]? = some ((f z)[j]'(by rw [hf];exact hj)):=by simp [hf,hj]
          rw [hv] at this ⊢
          rw [add_plain] at this
          simp only [World.cell?] at this
          split at this
          · rename_i cs e fr hb
            exact ⟨cs,e,fr,hb,by simpa using this⟩
          · cases this
        obtain ⟨_,_,cs,e',fr,hb,_⟩:=hcell 0 0 O h0
        refine ⟨blk,off,false,cs.toList,cs.size,Z,by simp [AH.ofWorld,hb],?_⟩
        apply List.ext_getElem?
        intro q
        by_cases hq:q < len * k
        · have hk:q / k < len:=Nat.div_lt_of_lt_mul (by rw [Nat.mul_comm];exact hq)
          have hr:q % k < k:=Nat.mod_lt _ h0
          have e1:q / k * k + q % k=q:=by rw [Nat.mul_comm];exact Nat.div_add_mod q k
          obtain ⟨z,hz,cs',e',fr',hb',h2⟩:=hcell (q / k) (q % k) hk hr
          rw [hb] at hb';cases hb'
          rw [e1] at h2
          have h3:=FB hf zs (q / k) (q % k) z hz hr
          rw [e1] at h3
          rw [SX hq,RV,Array.getElem?_toList,h2,h3]
        · rw [Qk Oi,Qk (by rw [FC hf,a0];omega)]
    · obtain ⟨i,hi,rfl⟩:=VQ hz
      exact (V i _ (by simp [hi])).1
section
variable {H:Type} {enc:TypeId × Value->H} {W:World} {base:Nat} {sp:Nat->Bool} {held:Bool} {fuel:Nat} {x:DataW H × List MemPlace}
theorem IY {c:List Value} (h:c.length=3):∃ a b d,c=[a,b,d]:=by
  match c,h with
  | [a,b,d],_=>exact ⟨a,b,d,Z⟩
theorem Pw {c:List Value} (h:DataW.trod enc prog W base sp held fuel 85 c=some x):∃ z:bK,c=ri z/\z.conj.length<=9223372036854775807:=by
  obtain ⟨xs,n,_,_,hl,hx,hi⟩:=DataW.trod_struct underlying85 h
  rw [Lx] at hl
  obtain ⟨a,b,d,rfl⟩:=IY hl
  have some_at:∀ i,i < 3->∃ y,xs[i]? = some y:=fun i hi=>⟨xs[i]'(by rw [hx];exact hi),by simp [show i < xs.length by rw [hx];exact hi]⟩
  obtain ⟨y0,h0⟩:=some_at 0 U
  obtain ⟨y1,h1⟩:=some_at 1 U
  obtain ⟨y2,h2⟩:=some_at 2 U
  have g0:=hi 0 _ Z
  have g1:=hi 1 _ Z
  have g2:=hi 2 _ Z
  rw [h0] at g0
  rw [h1] at g1
  rw [h2] at g2
  obtain ⟨s,e0,_,hs⟩:=DataW.trod_string underlying9 g0
  obtain ⟨r,e1,_⟩:=DataW.trod_int underlying3 g1
  obtain ⟨v,e2,_⟩:=DataW.trod_bool underlying4 g2
  have e0:List.take (prog.cellsOf 9) (List.drop 0 [a,b,d])=_:=e0
  have e1:List.take (prog.cellsOf 3) (List.drop 1 [a,b,d])=_:=e1
  have e2:List.take (prog.cellsOf 4) (List.drop 2 [a,b,d])=_:=e2
  rw [Js] at e0;rw [So] at e1;rw [cells4] at e2
  have f0:a=.string s:=by simpa using e0
  have f1:b=.int .i64 r:=by simpa using e1
  have f2:d=.bool v:=by simpa using e2
  refine ⟨⟨s.data.toList,r,v⟩,?_,?_⟩
  · rw [f0,f1,f2,rN];rfl
  · unfold maxLen at hs
    show s.data.toList.length<=_
    rw [Qy]
    exact Xj hs U
theorem Px {c:List Value} (h:DataW.trod enc prog W base sp held fuel 83 c=some x):∃ z:an,c=ky z/\bJ (AH.ofWorld W) 3 z.pv (co z.proof):=by
  obtain ⟨xs,n,_,_,hl,hx,hi⟩:=DataW.trod_struct underlying83 h
  rw [Lu] at hl
  obtain ⟨a,b,d,rfl⟩:=IY hl
  have some_at:∀ i,i < 3->∃ y,xs[i]? = some y:=fun i hi=>⟨xs[i]'(by rw [hx];exact hi),by simp [show i < xs.length by rw [hx];exact hi]⟩
  obtain ⟨y0,h0⟩:=some_at 0 U
  obtain ⟨y1,h1⟩:=some_at 1 U
  obtain ⟨y2,h2⟩:=some_at 2 U
  have g0:=hi 0 _ Z
  have g1:=hi 1 _ Z
  have g2:=hi 2 _ Z
  rw [h0] at g0
  rw [h1] at g1
  rw [h2] at g2
  obtain ⟨s,e0,_,_⟩:=DataW.trod_string underlying9 g0
  obtain ⟨r,e1,_,_⟩:=DataW.trod_string underlying9 g1
  obtain ⟨zs,v,e2,_,hs,_⟩:=vG ri (fun z=>z.conj.length<=9223372036854775807) (fun _=>rfl) U underlying35 Lx (fun _ _ _ h=>Pw h) g2
  have e0:List.take (prog.cellsOf 9) (List.drop 0 [a,b,d])=_:=e0
  have e1:List.take (prog.cellsOf 9) (List.drop 1 [a,b,d])=_:=e1
  have e2:List.take (prog.cellsOf 35) (List.drop 2 [a,b,d])=_:=e2
  rw [Js] at e0 e1;rw [Yy] at e2
  have f0:a=.string s:=by simpa using e0
  have f1:b=.string r:=by simpa using e1
  have f2:d=v:=by simpa using e2
  refine ⟨⟨s.data.toList,r.data.toList,v,zs⟩,?_,hs⟩
  rw [f0,f1,f2,rN,rN];rfl
theorem Py {c:List Value} (h:DataW.trod enc prog W base sp held fuel 9 c=some x):∃ z:W8,c=[ax z]/\z.length<=9223372036854775807:=by
  obtain ⟨s,e0,_,hs⟩:=DataW.trod_string underlying9 h
  refine ⟨s.data.toList,by rw [e0,rN],?_⟩
  unfold maxLen at hs
  rw [Qy]
  exact Xj hs U
theorem QW (l:List W8):l.flatMap (fun w=>[ax w])=dN l:=by
  induction l with
  | nil=>rfl
  | cons a l ih=>rw [Sw,ih];rfl
theorem JY {c:List Value} (h:DataW.trod enc prog W base sp held fuel 22 c=some x):∃ (l:List W8) (u:Value),c=[u]/\l.length<=9223372036854775807/\bJ (AH.ofWorld W) 1 u (dN l):=by
  obtain ⟨zs,v,e,hl,hs,_⟩:=vG (fun w:W8=>[ax w]) (fun z=>z.length<=9223372036854775807) (fun _=>rfl) U underlying22 Js (fun _ _ _ h=>Py h) h
  rw [QW] at hs
  unfold maxLen at hl
  exact ⟨zs,v,e,Xj hl U,hs⟩
theorem JX {c:List Value} (h:DataW.trod enc prog W base sp held fuel 25 c=some x):∃ (l:List an) (u:Value),c=[u]/\l.length<=9223372036854775807/\bJ (AH.ofWorld W) 3 u (cd l)/\Proofs (AH.ofWorld W) l:=by
  obtain ⟨zs,v,e,hl,hs,hp⟩:=vG ky (fun z=>bJ (AH.ofWorld W) 3 z.pv (co z.proof)) (fun _=>rfl) U underlying25 Lu (fun _ _ _ h=>Px h) h
  unfold maxLen at hl
  exact ⟨zs,v,e,Xj hl U,hs,hp⟩
end
theorem Ve {b0:Nat} {H:Type} {enc:TypeId × Value->H} {W:World} {v:Value} {d:DataW H} {ps:List MemPlace} (hval:Value.okWide prog W .any b0 27 v) (hd:DataW.Trod enc prog W 0 (fun _=>true) true 27 v d ps) :
    ∃ (g:Int) (u:Value) (l:List W8) (rv:Value) (rs:List an),v=.agg #[.int .i64 g,u,rv]/\l.length<=9223372036854775807/\rs.length<=9223372036854775807/\bJ (AH.ofWorld W) 1 u (dN l)/\bJ (AH.ofWorld W) 3 rv (cd rs)/\Proofs (AH.ofWorld W) rs:=by
  obtain ⟨cs,rfl,hsz⟩:=okWide_struct underlying27 hval
  rw [Yx] at hsz
  obtain ⟨a,b,c,rfl⟩:∃ a b c,cs = #[a,b,c]:=by
    rcases cs with ⟨l⟩
    match l,hsz with
    | [a,b,c],_=>exact ⟨a,b,c,Z⟩
  obtain ⟨fuel,hf⟩:=hd
  obtain ⟨y0,y1,n,_,_,g0,g1⟩:=trod_struct2 underlying27 hf
  obtain ⟨z0,z1,m,_,_,k0,k1⟩:=trod_struct2 underlying24 g0
  obtain ⟨g,e0,_⟩:=DataW.trod_int underlying3 k0
  obtain ⟨l,u,e1,h,X⟩:=JY k1
  obtain ⟨rs,rv,e2,D,a0,V⟩:=JX g1
  have e0:List.take (prog.cellsOf 3) (List.drop 0 (List.take (prog.cellsOf 24) (List.drop 0 [a,b,c])))=_:=e0
  have e1:List.take (prog.cellsOf 22) (List.drop 1 (List.take (prog.cellsOf 24) (List.drop 0 [a,b,c])))=_:=e1
  have e2:List.take (prog.cellsOf 25) (List.drop 2 [a,b,c])=_:=e2
  rw [Lq,So] at e0;rw [Lq,Yv] at e1;rw [Yw] at e2
  have f0:a=.int .i64 g:=by simpa using e0
  have f1:b=u:=by simpa using e1
  have f2:c=rv:=by simpa using e2
  exact ⟨g,u,l,rv,rs,by rw [f0,f1,f2],h,D,X,a0,V⟩
theorem Pc {W:World} (h:W.ShapedOpen prog):tl (AH.ofWorld W):=by
  have h0:((begin prog (fun _ _=>0) default).world.heap[1]?).bind Obj.row? = some (#[.int .i64 0],3):=by kernel_rfl
  obtain ⟨m,hm⟩:=cell_of_shapedOpen_int (g:=1) (t:=3) (zero:=#[.int .i64 0]) h (of_decide_eq_true Y) h0 Z Y Y underlying3
  obtain ⟨cs,hh,hs,_⟩:=h.1 1 #[.int .i64 0] 3 (of_decide_eq_true Y) h0
  obtain ⟨c,rfl⟩:∃ c,cs = #[c]:=by
    rcases cs with ⟨l⟩
    match l,hs with
    | [c],_=>exact ⟨c,Z⟩
  have hc:c=.int .i64 m:=by
    simp only [World.cell?,hh] at hm
    simpa using hm
  subst hc
  exact ⟨false,1,m,by simp [AH.ofWorld,hh]⟩
noncomputable def vB (os:Os):World :=
  let w:=World.holding prog os ⟨#[],#[],[]⟩
  { w with heap:=((((w.heap.modify 0 fun
      | .cells _ t frozen=>.cells (ao bW).toArray t frozen
      | o=>o).modify 2 fun
      | .cells _ t frozen=>.cells #[.int .u64 1,.int .u64 10,.int .u64 100,.int .u64 1000,.int .u64 10000,.int .u64 100000,.int .u64 1000000,.int .u64 10000000,.int .u64 100000000,.int .u64 1000000000,.int .u64 10000000000,.int .u64 100000000000,.int .u64 1000000000000,.int .u64 10000000000000,.int .u64 100000000000000,.int .u64 1000000000000000,.int .u64 10000000000000000,.int .u64 100000000000000000,.int .u64 1000000000000000000,.int .u64 10000000000000000000] t frozen
      | o=>o).modify 3 fun
      | .cells _ t frozen=>.cells (ao [0,1,28,2,29,14,24,3,30,22,20,15,25,17,4,8,31,27,13,23,21,19,16,7,26,12,18,6,11,5,10,9]).toArray t frozen
      | o=>o).modify 4 fun
      | .cells _ t frozen=>.cells (ao [0,1,56,2,57,49,28,3,61,58,42,50,38,29,17,4,62,47,59,36,45,43,51,22,53,39,33,30,24,18,12,5,63,55,48,27,60,41,37,16,46,35,44,21,52,32,23,11,54,26,40,15,34,20,31,10,25,14,19,9,13,8,7,6]).toArray t frozen
      | o=>o) }
theorem mixed:prog.follows .mixedOrders=true:=by kernel_rfl
theorem ag172:ef prog 172=some true:=by kernel_rfl
theorem fA:ef prog 3=some false:=by kernel_rfl
theorem NF:ef prog 5=some false:=by kernel_rfl
theorem eJ:ef prog 9=some false:=by kernel_rfl
theorem tD:prog.info? 5=some Tryz.t5:=by kernel_rfl
theorem sz172:dY prog 172=some 16:=by kernel_rfl
theorem j0:dY prog 5=some 1:=by kernel_rfl
theorem ek:dY prog 9=some 1:=by kernel_rfl
theorem c0:type_of% @underlying102:=@underlying102
theorem u172:type_of% @underlying172:=@underlying172
theorem u21:type_of% @underlying21:=@underlying21
theorem mp:type_of% @underlying22:=@underlying22
theorem u4:type_of% @underlying4:=@underlying4
theorem u5:type_of% @underlying5:=@underlying5
theorem u9:type_of% @underlying9:=@underlying9
theorem z5:c5 prog 5=some (.int .u8 0):=by kernel_rfl
theorem z9:c5 prog 9=some (.string ⟨⟨[]⟩⟩):=by kernel_rfl
theorem M8 (c:UInt8) (A:AH):bH prog 175 #[ed (c)] A (fun v A1=>v=ed (c ^^^ 32)/\A=A1):=by
 refine bi (e:=[(0,ed (c))]) (args:=[ed (c)]) call175 func175 Z results175 ntmps175 Z Z Z (fun wf=>?_);have h:=AH.le.refl A;refine ak.sq fun h2=>.region<|.I Z<|.nil<|h2<|.sq fun h4=>.region<|.J Z<|.p (VG (d:=32) Z Z)<|.I Z ?_;refine Ops.nil<|h4<|.rt (by exact aH Z (⟨Z,Z⟩))
theorem uX (c:UInt8) (A:AH) (hL:ib A):bH prog 98 #[ed (c)] A (fun v A1=>v=num (ix c)/\A=A1):=by
 refine bi (e:=[(0,ed (c))]) (args:=[ed (c)]) call98 func98 Z results98 ntmps98 Z Z Z (fun wf=>?_);have a5:=AH.le.refl A;obtain ⟨rwL,capL,gL⟩:=hL;refine ak.sq fun h2=>.region<|.I Z<|.nil<|h2<|.sq fun h4=>.sq fun h6=>.region<|.p (am ag172 sz172 Z Z (a5.g gL) Z)<|.J Z ?_;refine Ops.nil<|h6<|.block<|.loop (X:=Nat) (fun k=>[(0,ed (c)),(5,.agg #[ed (97),ed (65),ed (98),ed (66),ed (99),ed (67),ed (100),ed (68),ed (101),ed (69),ed (102),ed (70),ed (103),ed (71),ed (104),ed (72)]),(6,num ((k:Nat):Int))]) (fun k B=>(k<=16/\∀ j,j < k->bW.getD j 0 ≠ c)/\A=B) (fun k=>16 - k) 0 (jc Z Z Z) (⟨⟨by omega,fun j h=>by omega⟩,Z⟩) ?_;rintro k B8 ⟨⟨hk,hn⟩,rfl⟩;refine ak.sq fun D=>.region<|.p (ca (b:=16) Z Z)<|.nil<|D<|.sq fun V=>.if rfl (fun a6=>?_) (fun a6=>?_)
 ·refine ak.skip<|V<|.sq fun a0=>.block<|.sq fun a1=>.region<|.J Z<|.p (VC (l:=bW) u172 j0 NF Z Z O Z)<|.I Z<|.I Z ?_;refine Ops.nil<|a1<|.sq fun a2=>.region<|.J Z<|.J Z<|.p (yz Z Z)<|.nil<|a2<|.if rfl (fun a7=>?_) (fun a7=>?_)
  ·refine ak.sq fun a3=>.region<|.J Z<|.I Z<|.nil<|a3<|.rt (by exact aH Z (⟨by rw [Uu O hn Ow];rfl,Z⟩))
  refine ak.skip<|a0<|.region<|.p (bF (b:=1) Z Z O)<|.J Z<|.nil ?_;exact ⟨k + 1,jc Z Z Z,Z,⟨⟨by omega,fun j h=>(XW.1 h).elim (hn j) (fun q=>by subst q;assumption)⟩,Z⟩,O1⟩
 refine ak.exit<|h4<|.sq fun a4=>.region<|.I Z<|.nil<|a4<|.rt (by exact aH Z (⟨by rw [Za (fun j h=>hn j O)];rfl,Z⟩))
theorem WE (r:Nat) (k:Int) (b cap:Nat) (rw:Bool) (A:AH) (hk:1<=k/\k<=8) (hL:ib A) (hb:A.get b=some (.row rw [num k] cap)):bH prog 97 #[.int .i32 ((r:Nat):Int),.pointer (some ⟨b,0,none⟩)] A (fun v A1=>v=.bool (decide (127 < r) || !iu k (UInt8.ofNat r))/\A=A1):=by
 refine bi (e:=[(0,.int .i32 ((r:Nat):Int)),(1,.pointer (some ⟨b,0,none⟩))]) (args:=[.int .i32 ((r:Nat):Int),.pointer (some ⟨b,0,none⟩)]) call97 func97 Z results97 ntmps97 Z Z Z (fun wf=>?_);have h:=AH.le.refl A;refine ak.sq fun h2=>.region<|.I Z<|.nil<|h2<|.sq fun h4=>.drawn [0,1,2,3,4,5,6,7,8,9,10,12,13,11,14,15,16] mixed Y Y Z<|.p Z (aN Z)<|.p Z (eh (b:=127) Z Z)<|.p Z (aN Z) ?_;refine bn.part (t:=6) Z (fun p5=>?_) (fun p5=>?_)
 ·refine bn.qOff Z Z Z Z Z Z<|.qOff Z Z Z Z Z Z<|.lOff Z Z Z Z Z Z<|.qOff Z Z Z Z Z Z<|.p Z (aL Z Z)<|.p Z (aN Z)<|.qOff Z Z Z Z Z Z<|.qOff Z Z Z Z Z Z<|.qOff Z Z Z Z Z Z<|.qOff Z Z Z Z Z Z ?_;refine bn.lOff Z Z Z Z Z Z<|.qOff Z Z Z Z Z Z<|.p Z (aL Z Z)<|.p Z (dB Z)<|.done<|h4<|.rt (by exact aH Z (⟨by simp_all [iu,ej,dle,Jz],Z⟩))
 refine bn.qOn Z Z Z Z Z (aN Z)<|.qOn Z Z Z Z Z (DY u21 u5 Z)<|.lOn Z Z Z Z Z (fun _ _ X _=>aq Z (uX (UInt8.ofNat (r)) A hL) ?_);rintro v7 A8 ⟨rfl,rfl⟩;refine X _ _ (aU.none Y)<|.qOn Z Z Z Z Z (kY Z Z)<|.p Z (bh Z Z)<|.p Z (aN Z)<|.part (t:=12) Z (fun a0=>?_) (fun a0=>?_)
 ·refine bn.qOff Z Z Z Z Z Z<|.qOff Z Z Z Z Z Z<|.qOff Z Z Z Z Z Z<|.qOff Z Z Z Z Z Z<|.lOff Z Z Z Z Z Z<|.qOff Z Z Z Z Z Z<|.p Z (aL Z Z)<|.p Z (dB Z)<|.done<|h4 ?_;refine ak.ret ?_;repeat first | with_reducible refine cR ?_ | with_reducible refine cr ?_
  exact aH Z (⟨by simp_all [iu,ej,dle,Jz],Z⟩)
 refine bn.qOn Z Z Z Z Z (aN Z)<|.qOn Z Z Z Z Z (DY u21 u5 Z) ?_;have D:=de (off:=0) (h.g hb) (show _=some (num (k)) from rfl);refine bn.qOn Z Z Z Z Z (ah fA Z Z (h.g hb) Z)<|.qOn Z Z Z Z Z (ZM Z Z O)<|.lOn Z Z Z Z Z (fun _ _ V _=>aq Z (uX (UInt8.ofNat (r)) A hL) ?_);rintro a1 A14 ⟨rfl,rfl⟩;refine V _ _ (aU.list (L:=[(⟨b,0,none⟩,num (k))]) Y (bz D cm))<|.qOn Z Z Z Z Z (ml Z Z)<|.p Z (bh Z Z)<|.p Z (dB Z)<|.done<|h4<|.rt (by exact aH Z (⟨by simp_all [iu,ej,dle,Jz],Z⟩))
theorem IG (g:Nat) (caps:Array Value) (q:Nat->Bool) (hq:∀ r,128<=r->q r=true) (s:W8) (A:AH) (hs:s.length<=100000) (hf:∀ r B,A.le B->B.wf->bH prog g (#[] ++ #[.int .i32 ((r:Nat):Int)] ++ caps) B (fun v B1=>v=.bool (q r)/\B=B1)):bH prog 176 #[ax (s),.func (.func g) #[] caps,.bool (true)] A (fun v A1=>v=num (Yc q s)/\A.le A1/\A1.wf):=by
 refine bi (e:=[(0,ax (s)),(1,.func (.func g) #[] caps),(2,.bool (true))]) (args:=[ax (s),.func (.func g) #[] caps,.bool (true)]) call176 func176 Z results176 ntmps176 Z Z Z (fun wf=>?_);have aa:=AH.le.refl A;refine ak.sq fun h2=>.region<|.I Z<|.nil<|h2<|.sq fun h4=>.sq fun h6=>.region<|.J Z<|.m (fun aB=>aaM wf rfl u9 fun A9 b8 a3=>?_);have a4:=aX wf (Xj aa.n a3.lo);refine aB<|.nil<|h6<|.block<|.loop (X:=Nat) (fun k=>[(1,.func (.func g) #[] caps),(2,.bool (true)),(10,.pointer (some ⟨b8,0,none⟩))]) (fun k B=>(k<=s.length/\∀ j,j < k->q (s.getD j 0).toNat=false)/\A.le B/\B.get b8=some (.obj true (.stringIter (bs s) (k)))) (fun k=>s.length - k) 0 (jc Z Z Z) (⟨⟨by omega,fun j h=>by omega⟩,(aa.trans a3.le),a3.get⟩) ?_;rintro k B13 ⟨⟨hk,hn⟩,a0,a5⟩;refine ak.wf fun a9=>.sq fun a6=>.region<|.m (fun V=>wnextS a9 Z a5 (fun a8 A18 D=>?_) (fun a8=>?_))
 ·by_cases hc21:s.getD k 0 < 128
  ·rw [Od a8 hc21] at D ⊢;have a1:=al a0 wf a4 D.n D.keep;refine V<|.p (aQ Z Z)<|.nil<|a6<|.sq fun ad=>.cond_true Z<|.skip<|ad<|.block<|.sq fun ag=>?_;refine ak.region<|.p (aQ Z Z)<|.p (aQ Z Z)<|.I Z<|.I Z<|.nil<|ag<|.sq fun ai=>.region<|.J Z ?_;refine Ops.J Z<|.m (fun ab=>qJ Z Z (hf ((s.getD k 0).toNat) A18 a1 D.wf) ?_);rintro aG A31 ⟨rfl,rfl⟩;refine ab<|.J Z<|.p (qbeql u4 Z Z)<|.nil<|ai<|.ifB Z (fun aD=>?_) (fun aD=>?_)
   ·refine ak.sq fun ap=>.region<|.J Z<|.I Z<|.nil<|ap<|.rt (by exact aH Z (⟨by rw [Ae Ow hn (by simpa using ‹(q _ == true)=true›)];rfl,a1,D.wf⟩))
   refine ak.skip ?_;exact ⟨k + 1,jc Z Z Z,Z,⟨(by exact ⟨by omega,fun j h=>(XW.1 h).elim (hn j) (fun z=>by subst z;simpa using ‹(q _ == true)=false›)⟩),a1,D.get⟩,O⟩
  have a7:=Oc a8 hc21;have aC:=Jy (bs s) k;have hqT:=hq _ a7;have a2:=al a0 wf a4 D.n D.keep;refine V<|.p (aQ Z Z)<|.nil<|a6<|.sq fun ar=>.cond_true Z<|.skip<|ar<|.block<|.sq fun av=>?_;refine ak.region<|.p (aQ Z Z)<|.p (aQ Z Z)<|.I Z<|.I Z<|.nil<|av<|.sq fun ay=>.region<|.J Z ?_;refine Ops.J Z<|.m (fun ac=>qJ Z Z (hf ((Utf8.decode (bs s) k).1) A18 a2 D.wf) ?_);rintro aI A45 ⟨rfl,rfl⟩;refine ac<|.J Z<|.p (qbeql u4 Z Z)<|.nil<|ay<|.ifB Z (fun aE=>?_) (fun aE=>?_)
  ·refine ak.sq fun az=>.region<|.J Z<|.I Z<|.nil<|az<|.rt (by exact aH Z (⟨by rw [Ae Ow hn (by exact hq _ (u8_ge ‹_›))];rfl,a2,D.wf⟩))
  refine ak.skip ?_;exact ⟨k + (Utf8.decode (bs s) k).2,jc Z Z Z,Z,⟨(by (exfalso;simp_all)),a2,D.get⟩,(by (exfalso;simp_all))⟩
 refine V<|.p (aQ Z Z)<|.nil<|a6<|.sq fun aF=>.cond_false Z<|.exit<|h4<|.sq fun aA=>.region ?_;refine Ops.I Z<|.nil<|aA<|.rt (by exact aH Z (⟨by rw [Ue (fun j h=>hn j O)];rfl,a0,a9⟩))
theorem Iy (g:Nat) (caps:Array Value) (q:Nat->Bool) (hq:∀ r,128<=r->q r=true) (s:W8) (A:AH) (hs:s.length<=100000) (hf:∀ r B,A.le B->B.wf->bH prog g (#[] ++ #[.int .i32 ((r:Nat):Int)] ++ caps) B (fun v B1=>v=.bool (q r)/\B=B1)):bH prog 132 #[ax (s),.func (.func g) #[] caps] A (fun v A1=>v=num (Yc q s)/\A.le A1/\A1.wf):=by
 refine bi (e:=[(0,ax (s)),(1,.func (.func g) #[] caps)]) (args:=[ax (s),.func (.func g) #[] caps]) call132 func132 Z results132 ntmps132 Z Z Z (fun wf=>?_);have h:=AH.le.refl A;refine ak.sq fun h2=>.region<|.I Z<|.nil<|h2<|.sq fun h4=>.region<|.J Z<|.J Z<|.m (fun X=>aq Z (IG g caps q hq s A hs (fun r B le wf=>hf r B (h.trans le) wf)) ?_);rintro v6 A7 ⟨rfl,D,V⟩;refine X<|.I Z<|.nil<|h4<|.rt (by exact aH Z (⟨Z,(h.trans D),V⟩))
theorem yR (g:Nat) (caps:Array Value) (q:Nat->Bool) (hq:∀ r,128<=r->q r=true) (s:W8) (A:AH) (hs:s.length<=100000) (hf:∀ r B,A.le B->B.wf->bH prog g (#[] ++ #[.int .i32 ((r:Nat):Int)] ++ caps) B (fun v B1=>v=.bool (q r)/\B=B1)):bH prog 96 #[ax (s),.func (.func g) #[] caps] A (fun v A1=>v=.bool (decide (0<=Yc q s))/\A.le A1/\A1.wf):=by
 refine bi (e:=[(0,ax (s)),(1,.func (.func g) #[] caps)]) (args:=[ax (s),.func (.func g) #[] caps]) call96 func96 Z results96 ntmps96 Z Z Z (fun wf=>?_);have h:=AH.le.refl A;refine ak.sq fun h2=>.region<|.I Z<|.nil<|h2<|.sq fun h4=>.region<|.J Z<|.J Z<|.m (fun X=>aq Z (Iy g caps q hq s A hs (fun r B le wf=>hf r B (h.trans le) wf)) ?_);rintro v6 A7 ⟨rfl,D,V⟩;refine X<|.p (ml Z Z)<|.I Z<|.nil<|h4<|.rt (by exact aH Z (⟨Z,(h.trans D),V⟩))
theorem rJ (k:Int) (w:W8) (A:AH) (hL:ib A):bH prog 47 #[num (k),ax (w)] A (fun v A1=>v=num ((bG k w:Nat):Int)/\A.le A1/\A1.wf):=by
 refine bi (e:=[(0,num (k)),(1,ax (w))]) (args:=[num (k),ax (w)]) call47 func47 Z results47 ntmps47 Z Z Z (fun wf=>?_);have ac:=AH.le.refl A;refine ak.sq fun h2=>.region<|.m (fun ab=>d8 wf rfl rfl fun A5 b4 D=>?_);have V:=ac.trans D.le;refine ab<|.I Z<|.nil<|h2<|.sq fun h9=>.block<|.sq fun a2=>.region<|.p (ah fA Z Z D.get Z)<|.p (kY Z Z) ?_;refine Ops.J Z<|.part (t:=8) Z (fun ad=>?_) (fun ad=>?_)
 ·refine Ops.off Z Z Z Z<|.off Z Z Z Z<|.p (aL Z Z)<|.I Z<|.nil<|a2<|.cond_true Z<|.sq fun a4=>.region<|.I Z ?_;refine Ops.nil<|a4<|.rt (by exact aH Z (⟨by (rw [bG,XX O];rfl),V,D.wf⟩))
 refine Ops.on Z Z<|.p (ah fA Z Z D.get Z)<|.on Z Z<|.p (GX Z Z)<|.p (bh Z Z)<|.I Z<|.nil<|a2<|.if rfl (fun ag=>?_) (fun ag=>?_)
 ·refine ak.sq fun a5=>.region<|.I Z<|.nil<|a5<|.rt (by exact aH Z (⟨by (rw [bG,XX O];rfl),V,D.wf⟩))
 refine ak.sq fun a6=>.region<|.J Z<|.p (cN u9 Z)<|.p (eh (b:=100000) Z Z)<|.I Z<|.nil<|a6<|.if rfl (fun ai=>?_) (fun ai=>?_)
 ·refine ak.sq fun a7=>.region<|.I Z<|.nil<|a7<|.rt (by exact aH Z (⟨by (rw [bG,Xy O,XX O];rfl),V,D.wf⟩))
 refine ak.sq fun a8=>.region<|.J Z<|.p (od Z Z)<|.m (fun a3=>aq Z (yR 97 #[.pointer (some ⟨b4,0,none⟩)] (fun r=>decide (127 < r) || !iu (k) (UInt8.ofNat r)) (fun r h=>by simp;omega) w A5 O (fun r B le wf=>WE r (k) b4 _ _ B O ((hL.le V).le le) (le.g D.get))) ?_);rintro ar A27 ⟨rfl,a1,X⟩;have a0:=V.trans a1;refine a3<|.I Z<|.nil<|a8<|.if rfl (fun ap=>?_) (fun ap=>?_)
 ·refine ak.sq fun a9=>.region<|.I Z<|.nil<|a9<|.rt (by exact aH Z (⟨by (rw [bG,Xy O,Xy O,Xy (by rw [(wg k w).1 ‹_›];decide)];rfl),a0,X⟩))
 refine ak.skip<|h9<|.sq fun aa=>.region<|.I Z<|.nil<|aa<|.rt (by exact aH Z (⟨by (rw [bG,Xy O,Xy O,XX (by have:=mt (wg k w).2 ‹_›;simpa using this)];rfl),a0,X⟩))
theorem aak (w:W8) (A:AH) (hL:ib A):bH prog 123 #[ax (w)] A (fun v A1=>v=.bool (oU w)/\A.le A1/\A1.wf):=by
 refine bi (e:=[(0,ax (w))]) (args:=[ax (w)]) call123 func123 Z results123 ntmps123 Z Z Z (fun wf=>?_);have a0:=AH.le.refl A;refine ak.sq fun h2=>.region<|.I Z<|.nil<|h2<|.sq fun h4=>.region<|.J Z<|.m (fun V=>aq Z (rJ ((8:Nat):Int) w A hL) ?_);rintro v6 A7 ⟨rfl,h,D⟩;have X:=a0.trans h;refine V<|.p (gI (b:=0) Z Z)<|.I Z<|.nil<|h4<|.rt (by exact aH Z (⟨by rw [<- I7];rfl,X,D⟩))
theorem QC (w:W8) (A:AH) (hw:w.length<=1000000):bH prog 131 #[ax (w)] A (fun v A1=>v=ax (inv w)/\A.le A1/\A1.wf):=by
 refine bi (e:=[(0,ax (w))]) (args:=[ax (w)]) call131 func131 Z results131 ntmps131 Z Z Z (fun wf=>?_);have a0:=AH.le.refl A;refine ak.sq fun h2=>.region<|.I Z<|.nil<|h2<|.sq fun h4=>.region<|.J Z<|.p (cN u9 Z)<|.m (fun ai=>oO (n:=w.length) (k:=w.length) wf a0 rfl rfl c0 j0 z5 tD rfl (XV _) (by show 1 * _<=_;omega) O fun A7 b6 a1 a7=>?_);have a3:=a1.get;rw [qy] at a3 a7;refine ai<|.I Z<|.nil<|h4<|.sq fun a8=>.sq fun a9=>.region<|.J Z<|.p (cN u9 Z)<|.J Z ?_;refine Ops.nil<|a9<|.block<|.loop (X:=Nat) (fun k=>[(0,ax (w)),(3,.slice (some ⟨b6,0,none⟩) w.length w.length),(9,num ((w.length:Nat):Int)),(10,num ((k:Nat):Int))]) (fun k B=>(k<=w.length)/\A.le B/\B.get b6=some (.row true (ao (k8 w k)) w.length)) (fun k=>w.length - k) 0 (jC Z Z Z Z) (⟨XK _,(a0.trans a1.le),(yI a3 (Xk ao ((by exact wA w))))⟩) ?_;rintro k B17 ⟨hk,V,h⟩;refine ak.wf fun a2=>?_;have hrl:=td w hk;refine ak.sq fun aa=>.region<|.p (ca Z Z)<|.nil<|aa<|.sq fun ab=>.if rfl (fun ap=>?_) (fun ap=>?_)
 ·refine ak.skip<|ab<|.sq fun ac=>.block<|.sq fun ad=>.region<|.J Z<|.I Z<|.nil<|ad ?_;refine ak.region<|.J Z<|.J Z<|.p (cN u9 Z)<|.p (fJ (b:=1) Z Z O)<|.J Z<|.p (fJ Z Z O)<|.J Z<|.J Z<|.p (nP u9 Z Z O) ?_;refine Ops.m (fun a4=>aq Z (M8 (w.getD k 0) B17) ?_);rintro ar A30 ⟨rfl,rfl⟩;refine a4<|.p (au c0 j0 Z Z Z O)<|.m (fun a5=>aW (off:=((w.length - 1) - k)) a2 rfl (by simp) rfl rfl j0 h OK rfl (r8 _ _ _) fun A33 D=>?_);refine a5<|.nil<|ac<|.region<|.p (bF (b:=1) Z Z O)<|.J Z<|.nil ?_;exact ⟨k + 1,jC Z Z Z Z,Z,⟨O,(al V wf (aX wf (Xj a0.n a1.lo)) D.n D.keep),(yI D.get (Xk ao ((by exact yF w O))))⟩,O1⟩
 refine ak.exit<|a8<|.sq fun ag=>.region<|.J Z<|.m (fun a6=>eK (s:=k8 w k) Z c0 u9 u5 (fu (n:=w.length) h On (XV _)) ?_);refine a6<|.I Z<|.nil<|ag<|.rt (by exact aH Z (⟨by rw [yE w O];rfl,V,a2⟩))
theorem WW (u:Value) (l:List W8) (r:W8) (A:AH) (hr:mC l.flatten=r) (hT:l.flatten.length<=1000000) (hn:l.length<=1000000) (hu:bJ A 1 u (dN l)):bH prog 133 #[u] A (fun v A1=>v=ax r/\A.le A1/\A1.wf):=by
 refine bi (e:=[(0,u)]) (args:=[u]) call133 func133 Z results133 ntmps133 Z Z Z (fun wf=>?_);have aa:=AH.le.refl A;refine ak.seq fun _ h2=>.region<|.I Z<|.nil<|h2 _ _<|.seq fun _ h4=>.region<|.I Z<|.nil<|h4 _ _ ?_;refine ak.sq fun h6=>.sq fun h8=>.region<|.J Z<|.p (bE (n:=l.length) mp Z (hu.le aa) O (eP _))<|.J Z<|.nil<|h8<|.block<|.loop (X:=Nat × W8 × Value) (fun ⟨k,o,s⟩=>[(3,s),(8,u),(9,num ((l.length:Nat):Int)),(10,num ((k:Nat):Int))]) (fun ⟨k,o,s⟩ B=>(k<=l.length/\(l.drop k).flatten.foldl push o=r/\o.length + (l.drop k).flatten.length<=1000000)/\A.le B/\Fresh A B s 1 (ao o)) (fun ⟨k,o,s⟩=>l.length - k) (⟨0,[],.slice none 0 0⟩) (jC Z Z Z Z) (⟨⟨XK _,by simpa [mC] using hr,by simpa using hT⟩,aa,(Fresh.nil A A 1)⟩) ?_;rintro ⟨k,o,s⟩ B10 ⟨⟨hk,h1,h2⟩,a6,a1⟩;refine ak.wf fun ay=>?_;have hd:=fun q:k < l.length=>Oq q;refine ak.sq fun aG=>.region<|.p (ca Z Z)<|.nil<|aG<|.sq fun aI=>.if rfl (fun b5=>?_) (fun b5=>?_)
 ·refine ak.skip<|aI<|.sq fun aP=>.block<|.sq fun aR=>.region ?_;obtain ⟨br,bA,bm,bO,bd,bD,bB,aD,b1,aF,bb,ab⟩:=bJ.at (i:=k) (hu.le a6) Oj O;refine Ops.p (au mp ek Z aD Z b1)<|.p (ah eJ Z Z aF ((dt ab).trans (fz O)))<|.I Z<|.nil<|aR<|.sq fun aS=>.region<|.J Z<|.p (cN u9 Z)<|.J Z ?_;refine Ops.nil<|aS<|.block<|.loop (X:=Nat × W8 × Value) (fun ⟨i,o2,s2⟩=>[(3,s2),(5,ax (l.getD k [])),(8,u),(9,num ((l.length:Nat):Int)),(10,num ((k:Nat):Int)),(15,num (((l.getD k []).length:Nat):Int)),(16,num ((i:Nat):Int))]) (fun ⟨i,o2,s2⟩ B=>(i<=(l.getD k []).length/\((l.getD k []).drop i).foldl push o2=(l.getD k []).foldl push o/\o2.length<=o.length + i)/\A.le B/\Fresh A B s2 1 (ao o2)) (fun ⟨i,o2,s2⟩=>(l.getD k []).length - i) (⟨0,o,s⟩) (Jc Z Z Z Z Z Z Z) (⟨⟨XK _,Z,XV _⟩,a6,a1⟩) ?_;rintro ⟨i,o2,s2⟩ B25 ⟨⟨hi,h3,h4⟩,V,D⟩;refine ak.wf fun az=>.sq fun aT=>.region<|.p (ca Z Z)<|.nil<|aT<|.sq fun aV=>.if rfl (fun b6=>?_) (fun b6=>?_)
  ·refine ak.skip<|aV<|.sq fun a9=>.block<|.sq fun aY=>.region<|.J Z<|.I Z<|.nil<|aY ?_;refine ak.sq fun aZ=>.region<|.J Z<|.p (bE (n:=o2.length) c0 Z D.slc O (d6 _))<|.I Z<|.nil<|aZ<|.join (fun f A1=>aj [(34,.bool (decide (0 < o2.length/\o2.getD (o2.length - 1) 0=(l.getD k []).getD i 0 ^^^ 32))),(3,s2),(5,ax (l.getD k [])),(8,u),(9,num ((l.length:Nat):Int)),(10,num ((k:Nat):Int)),(15,num (((l.getD k []).length:Nat):Int)),(16,num ((i:Nat):Int)),(17,.bool (decide (i < (l.getD k []).length))),(18,num ((i:Nat):Int)),(6,num ((i:Nat):Int)),(19,s2),(20,num ((o2.length:Nat):Int)),(7,num ((o2.length:Nat):Int))] f.e/\f.ds=[]/\B25=A1) ?_ ?_
   ·refine ak.drawn [0,1,2,3,4,5,6,7,8,9,10,11,12,13] mixed Y Y Z<|.p Z (aN Z)<|.p Z (eh (b:=0) Z Z)<|.p Z (aN Z)<|.part (t:=23) Z (fun b7=>?_) (fun b7=>?_)
    ·refine bn.qOn Z Z Z Z Z (aN Z)<|.qOn Z Z Z Z Z (aN Z)<|.qOn Z Z Z Z Z (fJ (b:=1) Z Z O) ?_;obtain ⟨aA,a7,bp,bP,bl,bL,bC,aE,b2,a8,bc,a3⟩:=bJ.at (i:=o2.length - 1) D.slc On O;refine bn.qOn Z Z Z Z Z (au c0 j0 Z aE Z b2) ?_;have ad:=de (off:=a7 + (o2.length - 1) * 1) a8 ((dt a3).trans (fF O));refine bn.qOn Z Z Z Z Z (ah NF Z Z a8 ((dt a3).trans (fF O)))<|.qOn Z Z Z Z Z (aN Z)<|.qOn Z Z Z Z Z (aN Z)<|.qOn Z Z Z Z Z (nP u9 Z Z O)<|.lOn Z Z Z Z Z (fun _ _ ag _=>aq Z (M8 ((l.getD k []).getD i 0) B25) ?_);rintro bR A45 ⟨rfl,rfl⟩;refine ag _ _ (aU.list (L:=[(⟨aA,a7 + (o2.length - 1) * 1,none⟩,ed (o2.getD (o2.length - 1) 0))]) Y (bz ad cm))<|.qOn Z Z Z Z Z (yz Z Z)<|.p Z (aL Z Z)<|.done ?_;exact ⟨aj.cons (show some _=some _ from Xk (fun b=>some (Value.bool b)) (show (decide ((o2.getD (o2.length - 1) 0)=(((l.getD k []).getD i 0) ^^^ 32)))=decide (0 < o2.length/\o2.getD (o2.length - 1) 0=(l.getD k []).getD i 0 ^^^ 32) from (by simp only [‹0 < _›,true_and])))<|aj.cons Z<|aj.cons Z<|aj.cons Z<|aj.cons Z<|aj.cons Z<|aj.cons Z<|aj.cons Z<|aj.cons Z<|aj.cons Z<|aj.cons Z<|aj.cons Z<|aj.cons Z<|aj.cons Z<|aj.nil _,Z,Z⟩
    refine bn.qOff Z Z Z Z Z Z<|.qOff Z Z Z Z Z Z<|.qOff Z Z Z Z Z Z<|.qOff Z Z Z Z Z Z<|.qOff Z Z Z Z Z Z<|.qOff Z Z Z Z Z Z<|.qOff Z Z Z Z Z Z<|.qOff Z Z Z Z Z Z<|.lOff Z Z Z Z Z Z<|.qOff Z Z Z Z Z Z ?_;refine bn.p Z (bh Z Z)<|.done ?_;exact ⟨aj.cons (show some _=some _ from Xk (fun b=>some (Value.bool b)) (show (false)=decide (0 < o2.length/\o2.getD (o2.length - 1) 0=(l.getD k []).getD i 0 ^^^ 32) from (by simp only [‹¬ 0 < _›,false_and,decide_false])))<|aj.cons Z<|aj.cons Z<|aj.cons Z<|aj.cons Z<|aj.cons Z<|aj.cons Z<|aj.cons Z<|aj.cons Z<|aj.cons Z<|aj.cons Z<|aj.cons Z<|aj.cons Z<|aj.cons Z<|aj.nil _,Z,Z⟩
   rintro ⟨fe,fd⟩ _ ⟨hE,rfl,rfl⟩;refine ak.forget hE<|.if rfl (fun b8=>?_) (fun b8=>?_)
   ·refine ak.region<|.J Z<|.J Z<|.p (fJ (b:=1) Z Z O) ?_;obtain ⟨aB,bM,aC,b9,b3,bv⟩:=D.nonnil (by intro q;have:=Xk List.length q;simp only [aK,Xz] at this;omega);subst b9;rw [aK,TK] at b3;have a4:=D.take (k:=o2.length - 1) O;rw [TK,iQ] at a4;refine Ops.p (jo c0 j0 Z Z O)<|.I Z<|.nil<|a9<|.region<|.p (bF (b:=1) Z Z O)<|.J Z<|.nil ?_;exact ⟨⟨i + 1,o2.take (o2.length - 1),.slice (some ⟨aB,0,none⟩) (o2.length - 1) aC⟩,Jc Z Z Z Z Z Z Z,Z,⟨⟨by omega,by exact xo Ow h3 ‹_›,by simp only [Xx,XZ,Xq,Xz];omega⟩,V,a4⟩,O1⟩
   refine ak.region<|.J Z<|.J Z<|.J Z<|.p (nP u9 Z Z O)<|.m (fun ai=>bf (c:=[ed ((l.getD k []).getD i 0)]) az rfl (aw c0 j0 z5 rfl U U rfl) fun A52 bu a0=>?_);have a5:=D.le a0.le;refine ai<|.m (fun ap=>ct (ys:=[ed ((l.getD k []).getD i 0)]) rfl rfl c0 j0 tD z5 rfl U c0 (fun _ h=>by cases h) a5.own (bN (n:=1) a0.get Z) rfl rfl (by show (_ + _) * 1<=_;simp only [aK,Xq,Xz];have:=hd Ow;omega) (by simp only [aK,Xq,Xz];have:=hd Ow;omega) fun A58 ba a2=>?_);rw [show ([ed ((l.getD k []).getD i 0)]:List Value)=ao [(l.getD k []).getD i 0] from rfl,eu] at a2;obtain ⟨ac,av⟩:=Fresh.grow a5 (V.trans a0.le) wf a2;refine ap<|.I Z<|.nil<|a9<|.region<|.p (bF (b:=1) Z Z O)<|.J Z<|.nil ?_;exact ⟨⟨i + 1,o2 ++ [(l.getD k []).getD i 0],ba⟩,Jc Z Z Z Z Z Z Z,Z,⟨⟨by omega,by exact xp Ow h3 ‹_›,by simp only [Xx,XZ,Xq,Xz];omega⟩,av,ac⟩,O1⟩
  refine ak.exit<|aP<|.region<|.p (bF (b:=1) Z Z O)<|.J Z<|.nil ?_;exact ⟨⟨k + 1,o2,s2⟩,jC Z Z Z Z,Z,⟨⟨by omega,vM Ow h1 (by rw [rk O] at h3;exact h3.symm),by omega⟩,V,D⟩,O1⟩
 refine ak.exit<|h6<|.sq fun b0=>.region<|.J Z<|.m (fun ar=>eK (s:=o) Z c0 u9 u5 a1.slc ?_);refine ar<|.I Z<|.nil<|b0<|.rt (by exact aH Z (⟨by rw [sg O] at h1;rw [<- h1];rfl,a6,ay⟩))
theorem uZ (w:W8) (A:AH) (hw:w.length<=1000000) (hL:ib A):bH prog 99 #[ax (w)] A (fun v A1=>v=ax (cq w)/\A.le A1/\A1.wf):=by
 refine bi (e:=[(0,ax (w))]) (args:=[ax (w)]) call99 func99 Z results99 ntmps99 Z Z Z (fun wf=>?_);have a8:=AH.le.refl A;refine ak.sq fun h2=>.region<|.I Z<|.nil<|h2<|.sq fun h4=>.sq fun h6=>.region<|.J Z<|.m (fun a7=>aq Z (aak w A hL) ?_);rintro v8 A9 ⟨rfl,X,h⟩;have D:=a8.trans X;refine a7<|.p (eD Z)<|.nil<|h6<|.ifB Z (fun a9=>?_) (fun a9=>?_)
 ·refine ak.sq fun a5=>.region<|.I Z<|.nil<|a5<|.rt (by exact aH Z (⟨by unfold cq;(rw [Xy (by simpa using ‹(!oU w)=true›)];rfl),D,h⟩))
 refine ak.skip<|h4<|.sq fun a6=>.region<|.J Z<|.m (fun a2=>bf (c:=[ax (w)]) h rfl (aw mp ek z9 rfl U U rfl) fun A19 aa V=>?_);refine a2<|.m (fun a3=>aq Z (WW _ ([w]) (mC w) A19 (by simp) Oi (by simp) (fu (n:=1) V.get Z (XV _))) ?_);rintro ab A24 ⟨rfl,a0,a1⟩;have a4:=(D.trans V.le).trans a0;refine a3<|.I Z<|.nil<|a6<|.rt (by exact aH Z (⟨by unfold cq;(rw [XX (by simpa using ‹(!oU w)=false›)];rfl),a4,a1⟩))
theorem PZ (w:W8) (A:AH) (hw:w.length<=1000000) (hL:ib A):bH prog 93 #[ax (w)] A (fun v A1=>v=ax (eb w)/\A.le A1/\A1.wf):=by
 refine bi (e:=[(0,ax (w))]) (args:=[ax (w)]) call93 func93 Z results93 ntmps93 Z Z Z (fun wf=>?_);have a6:=AH.le.refl A;refine ak.sq fun h2=>.region<|.I Z<|.nil<|h2<|.sq fun h4=>.sq fun h6=>.region<|.J Z<|.m (fun a5=>aq Z (aak w A hL) ?_);rintro v8 A9 ⟨rfl,D,X⟩;have h:=a6.trans D;refine a5<|.p (eD Z)<|.nil<|h6<|.ifB Z (fun a7=>?_) (fun a7=>?_)
 ·refine ak.sq fun a3=>.region<|.I Z<|.nil<|a3<|.rt (by exact aH Z (⟨by unfold eb;(rw [Xy (by simpa using ‹(!oU w)=true›)];rfl),h,X⟩))
 refine ak.skip<|h4<|.sq fun a4=>.region<|.J Z<|.m (fun a1=>aq Z (QC w A9 O) ?_);rintro a8 A19 ⟨rfl,V,a0⟩;have a2:=h.trans V;refine a1<|.I Z<|.nil<|a4<|.rt (by exact aH Z (⟨by unfold eb;(rw [XX (by simpa using ‹(!oU w)=false›)];rfl),a2,a0⟩))
theorem Qg (x y:W8) (A:AH) (hx:x.length<=1000000) (hy:y.length<=1000000) (hL:ib A):bH prog 124 #[ax (x),ax (y)] A (fun v A1=>v=num (fc x y)/\A=A1):=by
 refine bi (e:=[(0,ax (x)),(1,ax (y))]) (args:=[ax (x),ax (y)]) call124 func124 Z results124 ntmps124 Z Z Z (fun wf=>?_);have av:=AH.le.refl A;refine ak.sq fun h2=>.region<|.I Z<|.nil<|h2<|.sq fun h4=>.sq fun h6=>.region<|.J Z<|.p (cN u9 Z) ?_;refine Ops.J Z<|.p (cN u9 Z)<|.p (eB Z Z)<|.nil<|h6<|.if rfl (fun p7=>?_) (fun p7=>?_)
 ·refine ak.sq fun h9=>.sq fun V=>.region<|.J Z<|.p (cN u9 Z)<|.J Z<|.p (cN u9 Z)<|.p (ca Z Z)<|.nil<|V ?_;refine ak.if rfl (fun ag=>?_) (fun ag=>?_)
  ·refine ak.sq fun a0=>.region<|.I Z<|.nil<|a0<|.rt (by exact aH Z (⟨by simp_all [ej,fc],Z⟩))
  refine ak.skip<|h9<|.sq fun a1=>.region<|.I Z<|.nil<|a1<|.rt (by exact aH Z (⟨by simp_all [ej,fc],Z⟩))
 refine ak.skip<|h4<|.sq fun a2=>.sq fun a3=>.region<|.J Z<|.p (cN u9 Z)<|.J Z<|.nil<|a3 ?_;refine ak.block<|.loop (X:=Nat) (fun k=>[(0,ax (x)),(1,ax (y)),(19,num ((x.length:Nat):Int)),(20,num ((k:Nat):Int))]) (fun k B=>(k<=x.length/\iK (x.drop k) (y.drop k)=fc x y)/\A=B) (fun k=>x.length - k) 0 (jC Z Z Z Z) (⟨⟨XK _,(Lz ‹_›).symm⟩,Z⟩) ?_;rintro k B22 ⟨⟨hk,hc⟩,rfl⟩;refine ak.sq fun a4=>.region<|.p (ca Z Z)<|.nil<|a4<|.sq fun a5=>.if rfl (fun ai=>?_) (fun ai=>?_)
 ·refine ak.skip<|a5<|.sq fun a6=>.block<|.sq fun a7=>.region<|.J Z<|.I Z<|.nil<|a7 ?_;refine ak.sq fun a8=>.drawn [0,1,2,4,5,6,3,7,8,9] mixed Y Y Z<|.p Z (aN Z)<|.p Z (aN Z)<|.p Z (nP u9 Z Z O)<|.p Z (aN Z)<|.p Z (aN Z)<|.p Z (nP u9 Z Z O)<|.m Z (fun h=>aq Z (uX (x.getD k 0) A hL) ?_);rintro ay A36 ⟨rfl,rfl⟩;refine h (aU.none Y)<|.m Z (fun D=>aq Z (uX (y.getD k 0) A hL) ?_);rintro az A40 ⟨rfl,rfl⟩;refine D (aU.none Y)<|.p Z (dB Z)<|.p Z (dB Z)<|.done<|a8<|.block<|.sq fun a9=>.region<|.J Z<|.J Z ?_;refine Ops.p (kY Z Z)<|.I Z<|.nil<|a9<|.if rfl (fun ap=>?_) (fun ap=>?_)
  ·refine ak.sq fun aa=>.region<|.I Z<|.nil<|aa<|.rt (by exact aH Z (⟨by (rw [fY O O,XX ‹_›] at hc;rw [<- hc];rfl),Z⟩))
  refine ak.sq fun ab=>.region<|.J Z<|.J Z<|.p (GX Z Z)<|.I Z<|.nil<|ab<|.if rfl (fun ar=>?_) (fun ar=>?_)
  ·refine ak.sq fun ac=>.region<|.I Z<|.nil<|ac<|.rt (by exact aH Z (⟨by (rw [fY O O,Xy ‹_›,XX ‹_›] at hc;rw [<- hc];rfl),Z⟩))
  refine ak.skip<|a6<|.region<|.p (bF (b:=1) Z Z O)<|.J Z<|.nil ?_;exact ⟨k + 1,jC Z Z Z Z,Z,⟨⟨by omega,by rw [fY O O,Xy ‹_›,Xy ‹_›] at hc;exact hc⟩,Z⟩,O1⟩
 refine ak.exit<|a2<|.sq fun ad=>.region<|.I Z<|.nil<|ad<|.rt (by exact aH Z (⟨by (rw [o7 O] at hc;rw [<- hc];rfl),Z⟩))
theorem Bj (x y:W8) (A:AH) (hx:x.length<=1000000) (hy:y.length<=1000000) (hL:ib A):bH prog 87 #[ax (x),ax (y)] A (fun v A1=>v=num (dr x y)/\A.le A1/\A1.wf):=by
 refine bi (e:=[(0,ax (x)),(1,ax (y))]) (args:=[ax (x),ax (y)]) call87 func87 Z results87 ntmps87 Z Z Z (fun wf=>?_);have a8:=AH.le.refl A;refine ak.sq fun h2=>.region<|.I Z<|.nil<|h2<|.sq fun h4=>.sq fun h6=>.region<|.J Z<|.m (fun a7=>aq Z (aak x A hL) ?_);rintro v8 A9 ⟨rfl,X,a1⟩;have h:=a8.trans X;refine a7<|.p (eD Z)<|.J Z<|.partB (t:=8) Z (fun a9=>?_) (fun a9=>?_)
 ·refine Ops.off Z Z Z Z<|.off Z Z Z Z<|.off Z Z Z Z<|.p (aL Z Z)<|.nil<|h6<|.cond_true Z<|.sq fun a4=>.region<|.I Z ?_;refine Ops.nil<|a4<|.rt (by exact aH Z (⟨by simp_all [ej,dr],h,a1⟩))
 refine Ops.on Z Z<|.J Z<|.on Z Z<|.m (fun a2=>aq Z (aak y A9 (hL.le h)) ?_);rintro ab A17 ⟨rfl,a0,V⟩;have D:=h.trans a0;refine a2<|.on Z Z<|.p (eD Z)<|.p (bh Z Z)<|.nil<|h6<|.ifB Z (fun aa=>?_) (fun aa=>?_)
 ·refine ak.sq fun a5=>.region<|.I Z<|.nil<|a5<|.rt (by exact aH Z (⟨by simp_all [ej,dr],D,V⟩))
 refine ak.skip<|h4<|.sq fun a6=>.region<|.J Z<|.J Z<|.m (fun a3=>aq Z (Qg x y A17 O O (hL.le D)) ?_);rintro ac A27 ⟨rfl,rfl⟩;refine a3<|.I Z<|.nil<|a6<|.rt (by exact aH Z (⟨by simp_all [ej,dr],D,V⟩))
theorem Ee (g:Nat) (caps:Array Value) (q:W8->Bool) (u:Value) (l:List W8) (A:AH) (hn:l.length<=9223372036854775807) (hu:bJ A 1 u (dN l)) (hf:∀ s,s ∈ l->∀ B,A.le B->B.wf->bH prog g (#[] ++ #[ax s] ++ caps) B (fun v B1=>v=.bool (q s)/\B.le B1/\B1.wf)):bH prog 167 #[u,.func (.func g) #[] caps] A (fun v A1=>v=num (FK q l)/\A.le A1/\A1.wf):=by
 refine bi (e:=[(0,u),(1,.func (.func g) #[] caps)]) (args:=[u,.func (.func g) #[] caps]) call167 func167 Z results167 ntmps167 Z Z Z (fun wf=>?_);have a2:=AH.le.refl A;refine ak.sq fun h2=>.region<|.I Z<|.nil<|h2<|.sq fun h4=>.sq fun h6=>.region<|.J Z<|.p (bE (n:=l.length) mp Z (hu.le a2) O (eP _)) ?_;refine Ops.J Z<|.nil<|h6<|.block<|.loop (X:=Nat) (fun k=>[(0,u),(1,.func (.func g) #[] caps),(7,num ((l.length:Nat):Int)),(8,num ((k:Nat):Int))]) (fun k B=>(k<=l.length/\∀ j,j < k->q (l.getD j [])=false)/\A.le B) (fun k=>l.length - k) 0 (jC Z Z Z Z) (⟨⟨by omega,fun j h=>by omega⟩,a2⟩) ?_;rintro k B8 ⟨⟨hk,hq⟩,D⟩;refine ak.wf fun a3=>.sq fun a8=>.region<|.p (ca Z Z)<|.nil<|a8<|.sq fun a9=>.if rfl (fun ap=>?_) (fun ap=>?_)
 ·refine ak.skip<|a9<|.sq fun aa=>.block<|.sq fun ab=>.region<|.J Z<|.I Z<|.nil<|ab ?_;refine ak.sq fun ac=>.region<|.J Z<|.J Z<|.J Z ?_;obtain ⟨aA,aB,az,aE,ay,aD,aC,a6,ai,a7,av,a4⟩:=bJ.at (i:=k) (hu.le D) Oj O;refine Ops.p (au mp ek Z a6 Z ai)<|.p (ah eJ Z Z a7 ((dt a4).trans (fz O)))<|.m (fun a5=>qJ Z Z (hf _ (bj O) B8 D a3) ?_);rintro aF A24 ⟨rfl,a0,a1⟩;have V:=D.trans a0;refine a5<|.nil<|ac<|.ifB Z (fun ar=>?_) (fun ar=>?_)
  ·refine ak.sq fun ad=>.region<|.J Z<|.I Z<|.nil<|ad<|.rt (by exact aH Z (⟨by rw [Ah (d:=[]) Ow hq ‹_›];rfl,V,a1⟩))
  refine ak.skip<|aa<|.region<|.p (bF (b:=1) Z Z O)<|.J Z<|.nil ?_;exact ⟨k + 1,jC Z Z Z Z,Z,⟨⟨by omega,fun j h=>(XW.1 h).elim (hq j) (fun z=>by subst z;assumption)⟩,V⟩,O1⟩
 refine ak.exit<|h4<|.sq fun ag=>.region<|.I Z<|.nil<|ag<|.rt (by exact aH Z (⟨by rw [FP (d:=[]) (fun j h=>hq j O)];rfl,D,a3⟩))
theorem wN (g:Nat) (caps:Array Value) (q:W8->Bool) (u:Value) (l:List W8) (A:AH) (hn:l.length<=9223372036854775807) (hu:bJ A 1 u (dN l)) (hf:∀ s,s ∈ l->∀ B,A.le B->B.wf->bH prog g (#[] ++ #[ax s] ++ caps) B (fun v B1=>v=.bool (q s)/\B.le B1/\B1.wf)):bH prog 126 #[u,.func (.func g) #[] caps] A (fun v A1=>v=.bool (decide (0<=FK q l))/\A.le A1/\A1.wf):=by
 refine bi (e:=[(0,u),(1,.func (.func g) #[] caps)]) (args:=[u,.func (.func g) #[] caps]) call126 func126 Z results126 ntmps126 Z Z Z (fun wf=>?_);have h:=AH.le.refl A;refine ak.sq fun h2=>.region<|.I Z<|.nil<|h2<|.sq fun h4=>.region<|.J Z<|.J Z<|.m (fun X=>aq Z (Ee g caps q u l A hn (hu.le h) (fun s hs B le wf=>hf s hs B (h.trans le) wf)) ?_);rintro v6 A7 ⟨rfl,D,V⟩;refine X<|.p (ml Z Z)<|.I Z<|.nil<|h4<|.rt (by exact aH Z (⟨Z,(h.trans D),V⟩))
theorem u3:type_of% @underlying3:=@underlying3
theorem uY (c:UInt8) (A:AH):bH prog 67 #[ed (c)] A (fun v A1=>v=num (ix c)/\A=A1):=by
 refine bi (e:=[(0,ed (c))]) (args:=[ed (c)]) call67 func67 Z results67 ntmps67 Z Z Z (fun wf=>?_);have ag:=AH.le.refl A;have ac:=(c - 97).toNat_lt;have ad:=(c - 65).toNat_lt;refine ak.sq fun h2=>.region<|.I Z<|.nil<|h2<|.sq fun h4=>.sq fun h6=>.region<|.J Z<|.p (ta (d:=97) Z Z) ?_;refine Ops.J Z<|.part (t:=5) Z (fun p7=>?_) (fun p7=>?_)
 ·refine Ops.on Z Z<|.J Z<|.on Z Z<|.p (AO (d:=105) Z Z)<|.p (aL Z Z)<|.nil<|h6<|.if rfl (fun p8=>?_) (fun p8=>?_)
  ·refine ak.sq fun a1=>.region<|.J Z<|.p (oe (d:=97) Z Z)<|.p (mj u5 u3 Z)<|.p (qG (a:=2) Z Z O)<|.I Z<|.nil<|a1<|.rt (by exact aH Z (⟨by (rw [<- z8 c ‹_› ‹_›];rfl),Z⟩))
  refine ak.skip<|h4<|.sq fun D=>.sq fun V=>.region<|.J Z<|.p (ta (d:=65) Z Z)<|.J Z<|.part (t:=15) Z (fun a8=>?_) (fun a8=>?_)
  ·refine Ops.on Z Z<|.J Z<|.on Z Z<|.p (AO (d:=73) Z Z)<|.p (aL Z Z)<|.nil<|V<|.if rfl (fun a9=>?_) (fun a9=>?_)
   ·refine ak.sq fun a2=>.region<|.J Z<|.p (oe (d:=65) Z Z)<|.p (mj u5 u3 Z)<|.p (qG (a:=2) Z Z O)<|.p (bF (b:=1) Z Z O)<|.I Z<|.nil<|a2 ?_;refine ak.ret ?_;repeat first | with_reducible refine cR ?_ | with_reducible refine cr ?_
    exact aH Z (⟨by (rw [<- C0 c ‹_› ‹_›];rfl),Z⟩)
   refine ak.skip<|D<|.sq fun a3=>.region<|.I Z<|.nil<|a3<|.rt (by exact aH Z (⟨by (rw [C5 c (fun h=>by simp_all) (fun h=>by simp_all)];rfl),Z⟩))
  refine Ops.off Z Z Z Z<|.off Z Z Z Z<|.p (bh Z Z)<|.nil<|V<|.cond_false Z<|.skip<|D<|.sq fun a4=>.region ?_;refine Ops.I Z<|.nil<|a4<|.rt (by exact aH Z (⟨by (rw [C5 c (fun h=>by simp_all) (fun h=>by simp_all)];rfl),Z⟩))
 refine Ops.off Z Z Z Z<|.off Z Z Z Z<|.p (bh Z Z)<|.nil<|h6<|.cond_false Z<|.skip<|h4<|.sq fun X=>.sq fun a0=>?_;refine ak.region<|.J Z<|.p (ta (d:=65) Z Z)<|.J Z<|.part (t:=15) Z (fun aa=>?_) (fun aa=>?_)
 ·refine Ops.on Z Z<|.J Z<|.on Z Z<|.p (AO (d:=73) Z Z)<|.p (aL Z Z)<|.nil<|a0<|.if rfl (fun ab=>?_) (fun ab=>?_)
  ·refine ak.sq fun a5=>.region<|.J Z<|.p (oe (d:=65) Z Z)<|.p (mj u5 u3 Z)<|.p (qG (a:=2) Z Z O)<|.p (bF (b:=1) Z Z O)<|.I Z<|.nil<|a5 ?_;refine ak.ret ?_;repeat first | with_reducible refine cR ?_ | with_reducible refine cr ?_
   exact aH Z (⟨by (rw [<- C0 c ‹_› ‹_›];rfl),Z⟩)
  refine ak.skip<|X<|.sq fun a6=>.region<|.I Z<|.nil<|a6<|.rt (by exact aH Z (⟨by (rw [C5 c (fun h=>by simp_all) (fun h=>by simp_all)];rfl),Z⟩))
 refine Ops.off Z Z Z Z<|.off Z Z Z Z<|.p (bh Z Z)<|.nil<|a0<|.cond_false Z<|.skip<|X<|.sq fun a7=>.region ?_;refine Ops.I Z<|.nil<|a7<|.rt (by exact aH Z (⟨by (rw [C5 c (fun h=>by simp_all) (fun h=>by simp_all)];rfl),Z⟩))
theorem vR (i:Nat) (A:AH) (hi:i < 16):bH prog 73 #[num ((i:Nat):Int)] A (fun v A1=>v=ed (bW.getD i 0)/\A=A1):=by
 refine bi (e:=[(0,num ((i:Nat):Int))]) (args:=[num ((i:Nat):Int)]) call73 func73 Z results73 ntmps73 Z Z Z (fun wf=>?_);have a3:=AH.le.refl A;refine ak.sq fun h2=>.region<|.I Z<|.nil<|h2<|.sq fun h4=>.sq fun h6=>.region<|.J Z<|.p (ca (b:=0) Z Z) ?_;refine Ops.J Z<|.part (t:=5) Z (fun p7=>?_) (fun p7=>?_)
 ·refine Ops.off Z Z Z Z<|.off Z Z Z Z<|.p (aL Z Z)<|.nil<|h6<|.cond_true Z<|.sq fun h9=>.region<|.I Z<|.nil ?_;refine h9<|.rt (by exact aH Z (⟨by (exfalso;omega),Z⟩))
 refine Ops.on Z Z<|.J Z<|.on Z Z<|.p (yA (b:=16) Z Z)<|.p (bh Z Z)<|.nil<|h6<|.if rfl (fun a1=>?_) (fun a1=>?_)
 ·refine ak.sq fun h=>.region<|.I Z<|.nil<|h<|.rt (by exact aH Z (⟨by (exfalso;omega),Z⟩))
 refine ak.skip<|h4<|.sq fun D=>.sq fun V=>.region<|.J Z<|.p (qremN (b:=2) Z Z O)<|.p (gI (b:=0) Z Z)<|.nil<|V ?_;refine ak.if rfl (fun a2=>?_) (fun a2=>?_)
 ·refine ak.sq fun X=>.region<|.J Z<|.p (qquoN (b:=2) Z Z O)<|.p (DY u3 u5 Z)<|.p (MI (c:=97) Z Z)<|.I Z<|.nil<|X<|.rt (by exact aH Z (⟨by (rw [<- UO ⟨i,hi⟩ Ow];rfl),Z⟩))
 refine ak.skip<|D<|.sq fun a0=>.region<|.J Z<|.p (qquoN (b:=2) Z Z O)<|.p (DY u3 u5 Z)<|.p (MI (c:=65) Z Z)<|.I Z<|.nil ?_;refine a0<|.rt (by exact aH Z (⟨by (rw [<- Zf ⟨i,hi⟩ Ow];rfl),Z⟩))
theorem yV (c:UInt8) (A:AH) (hc:0<=ix c):bH prog 66 #[ed (c)] A (fun v A1=>v=ed (c ^^^ 32)/\A=A1):=by
 refine bi (e:=[(0,ed (c))]) (args:=[ed (c)]) call66 func66 Z results66 ntmps66 Z Z Z (fun wf=>?_);have V:=AH.le.refl A;refine ak.sq fun h2=>.region<|.I Z<|.nil<|h2<|.sq fun h4=>.region<|.J Z<|.m (fun h=>aq Z (uY c A) ?_);rintro v6 A7 ⟨rfl,rfl⟩;refine h<|.p (zA U U Z Z (ix_xor c hc))<|.m (fun D=>aq Z (vR (Yd (c ^^^ 32)) A (Ux _)) ?_);rintro X A11 ⟨rfl,rfl⟩;refine D<|.I Z<|.nil<|h4<|.rt (by exact aH Z (⟨by rw [Ze _ (Mf c hc)];rfl,Z⟩))
theorem IB (k:Int) (w:W8) (A:AH):bH prog 94 #[num (k),ax (w)] A (fun v A1=>v=num ((bG k w:Nat):Int)/\A=A1):=by
 refine bi (e:=[(0,num (k)),(1,ax (w))]) (args:=[num (k),ax (w)]) call94 func94 Z results94 ntmps94 Z Z Z (fun wf=>?_);have av:=AH.le.refl A;refine ak.sq fun h2=>.region<|.I Z<|.nil<|h2<|.sq fun h4=>.sq fun h6=>.region<|.J Z<|.p (kY Z Z) ?_;refine Ops.J Z<|.part (t:=9) Z (fun p7=>?_) (fun p7=>?_)
 ·refine Ops.off Z Z Z Z<|.off Z Z Z Z<|.p (aL Z Z)<|.nil<|h6<|.cond_true Z<|.sq fun h9=>.region<|.I Z<|.nil ?_;refine h9<|.rt (by exact aH Z (⟨by (rw [bG,XX O];rfl),Z⟩))
 refine Ops.on Z Z<|.J Z<|.on Z Z<|.p (GX Z Z)<|.p (bh Z Z)<|.nil<|h6<|.if rfl (fun ad=>?_) (fun ad=>?_)
 ·refine ak.sq fun a0=>.region<|.I Z<|.nil<|a0<|.rt (by exact aH Z (⟨by (rw [bG,XX O];rfl),Z⟩))
 refine ak.skip<|h4<|.sq fun a1=>.sq fun a2=>.region<|.J Z<|.p (cN u9 Z)<|.p (eh (b:=100000) Z Z)<|.nil<|a2 ?_;refine ak.if rfl (fun ag=>?_) (fun ag=>?_)
 ·refine ak.sq fun a3=>.region<|.I Z<|.nil<|a3<|.rt (by exact aH Z (⟨by (rw [bG,Xy O,XX O];rfl),Z⟩))
 refine ak.skip<|a1<|.sq fun a4=>.sq fun a5=>.region<|.I Z<|.nil<|a5<|.block<|.loop (X:=Nat) (fun i=>[(0,num (k)),(1,ax (w)),(5,num ((i:Nat):Int))]) (fun i B=>(i<=w.length/\∀ j,j < i->0<=ix (w.getD j 0)/\ix (w.getD j 0) < 2 * k)/\A=B) (fun i=>w.length - i) 0 (jc Z Z Z) (⟨⟨by omega,fun j h=>by omega⟩,Z⟩) ?_;rintro i B25 ⟨⟨hi,hn⟩,rfl⟩;refine ak.sq fun a6=>.sq fun a7=>.region<|.J Z<|.J Z<|.p (cN u9 Z)<|.p (ca Z Z)<|.nil<|a7<|.if rfl (fun ai=>?_) (fun ai=>?_)
 ·refine ak.skip<|a6<|.sq fun a8=>.block<|.sq fun a9=>.region<|.J Z<|.J Z<|.p (nP u9 Z Z O)<|.m (fun V=>aq Z (uY (w.getD i 0) A) ?_);rintro ay A37 ⟨rfl,rfl⟩;refine V<|.I Z<|.nil<|a9<|.sq fun D=>.region<|.J Z<|.p (kY Z Z)<|.J Z<|.part (t:=28) Z (fun ap=>?_) (fun ap=>?_)
  ·refine Ops.off Z Z Z Z<|.off Z Z Z Z<|.off Z Z Z Z<|.off Z Z Z Z<|.p (aL Z Z)<|.nil<|D<|.cond_true Z<|.sq fun aa=>.region ?_;refine Ops.I Z<|.nil<|aa<|.rt (by exact aH Z (⟨by (rw [ze (i:=i) O O O O];rfl),Z⟩))
  refine Ops.on Z Z<|.J Z<|.on Z Z<|.J Z<|.on Z Z<|.p (ZM Z Z O)<|.on Z Z<|.p (ml Z Z)<|.p (bh Z Z)<|.nil ?_;refine D<|.if rfl (fun ar=>?_) (fun ar=>?_)
  ·refine ak.sq fun ab=>.region<|.I Z<|.nil<|ab<|.rt (by exact aH Z (⟨by (rw [ze (i:=i) O O O O];rfl),Z⟩))
  refine ak.skip<|a8<|.region<|.J Z<|.p (bF (b:=1) Z Z O)<|.I Z<|.nil ?_;exact ⟨i + 1,jc Z Z Z,Z,⟨⟨by omega,fun j h=>(XW.1 h).elim (hn j) (fun z=>by subst z;omega)⟩,Z⟩,O1⟩
 refine ak.exit<|a4<|.sq fun ac=>.region<|.I Z<|.nil<|ac<|.rt (by exact aH Z (⟨by (rw [I8 (i:=i) O O O hn];rfl),Z⟩))
theorem MZ (w:W8) (A:AH):bH prog 65 #[ax (w)] A (fun v A1=>v=.bool (oU w)/\A=A1):=by
 refine bi (e:=[(0,ax (w))]) (args:=[ax (w)]) call65 func65 Z results65 ntmps65 Z Z Z (fun wf=>?_);have D:=AH.le.refl A;refine ak.sq fun h2=>.region<|.I Z<|.nil<|h2<|.sq fun h4=>.region<|.J Z<|.m (fun h=>aq Z (IB ((8:Nat):Int) w A) ?_);rintro v6 A7 ⟨rfl,rfl⟩;refine h<|.p (gI (b:=0) Z Z)<|.I Z<|.nil<|h4<|.rt (by exact aH Z (⟨by rw [<- I7];rfl,Z⟩))
theorem Kj (w:W8) (A:AH) (hw:w.length<=1000000):bH prog 24 #[ax (w)] A (fun v A1=>v=ax (eb w)/\A.le A1/\A1.wf):=by
 refine bi (e:=[(0,ax (w))]) (args:=[ax (w)]) call24 func24 Z results24 ntmps24 Z Z Z (fun wf=>?_);have a4:=AH.le.refl A;refine ak.sq fun h2=>.region<|.I Z<|.nil<|h2<|.sq fun h4=>.sq fun h6=>.region<|.J Z<|.m (fun ay=>aq Z (MZ w A) ?_);rintro v8 A9 ⟨rfl,rfl⟩;refine ay<|.p (eD Z)<|.nil<|h6<|.ifB Z (fun az=>?_) (fun az=>?_)
 ·refine ak.sq fun ab=>.region<|.I Z<|.nil<|ab<|.rt (by exact aH Z (⟨by unfold eb;(rw [Xy (by simpa using ‹(!oU w)=true›)];rfl),a4,wf⟩))
 refine ak.skip<|h4<|.sq fun ac=>.region<|.I Z<|.nil<|ac<|.sq fun ad=>.sq fun ag=>.region ?_;refine Ops.J Z<|.p (cN u9 Z)<|.p (vK Z Z O)<|.I Z<|.nil<|ag<|.block<|.loop (X:=Nat × W8 × Value) (fun ⟨j,o,s⟩=>[(0,ax (w)),(3,s),(4,num ((j:Int) - 1))]) (fun ⟨j,o,s⟩ B=>(j<=w.length/\o=((w.drop j).map (· ^^^ 32)).reverse)/\A.le B/\Fresh A B s 1 (ao o)) (fun ⟨j,o,s⟩=>j) (⟨w.length,[],.slice none 0 0⟩) (aj.cons Z<|aj.cons Z<|aj.cons (Xk (fun z:Int=>some (num z)) O)<|aj.nil _) (⟨⟨XV _,by simp⟩,a4,(Fresh.nil A A 1)⟩) ?_;rintro ⟨j,o,s⟩ B21 ⟨⟨hj,ho⟩,a2,D⟩;refine ak.wf fun a3=>?_;have hlo:o.length=w.length - j:=by rw [ho];simp
 have hk:=Vb (w:=w) (by simpa using ‹(!oU w)=false›);have htn:((j:Int) - 1).toNat=j - 1:=by omega
 refine ak.sq fun ai=>.sq fun ap=>.region<|.J Z<|.p (ml Z Z)<|.nil<|ap<|.if rfl (fun aA=>?_) (fun aA=>?_)
 ·refine ak.skip<|ai<|.sq fun ar=>.block<|.region<|.J Z<|.J Z<|.J Z<|.p (nP u9 Z (jz O) O)<|.m (fun a6=>aq Z (yV (w.getD ((j:Int) - 1).toNat 0) B21 (xl hk O)) ?_);rintro aD A32 ⟨rfl,rfl⟩;refine a6<|.m (fun a7=>bf (c:=[ed ((w.getD ((j:Int) - 1).toNat 0) ^^^ 32)]) a3 rfl (aw c0 j0 z5 rfl U U rfl) fun A36 aC V=>?_);have a1:=D.le V.le;refine a7<|.m (fun a8=>ct (ys:=[ed ((w.getD ((j:Int) - 1).toNat 0) ^^^ 32)]) rfl rfl c0 j0 tD z5 rfl U c0 (fun _ h=>by cases h) a1.own (bN (n:=1) V.get Z) rfl rfl (by show (_ + _) * 1<=_;simp only [aK,Xq,Xz];(try simp only [Xx,Xq,Xz]);omega) Ob fun A42 aB a0=>?_);rw [show ([ed ((w.getD ((j:Int) - 1).toNat 0) ^^^ 32)]:List Value)=ao [(w.getD ((j:Int) - 1).toNat 0) ^^^ 32] from rfl,eu] at a0;obtain ⟨a5,aa⟩:=Fresh.grow a1 (a2.trans V.le) wf a0;refine a8<|.I Z<|.nil<|ar<|.region<|.J Z<|.p (vK Z Z O)<|.I Z<|.nil ?_;exact ⟨⟨j - 1,o ++ [(w.getD ((j:Int) - 1).toNat 0) ^^^ 32],aB⟩,aj.cons Z<|aj.cons Z<|aj.cons (Xk (fun z:Int=>some (num z)) O)<|aj.nil _,Z,⟨⟨by omega,by rw [ho,htn];exact FW O hj⟩,aa,a5⟩,O1⟩
 refine ak.exit<|ad<|.sq fun av=>.region<|.J Z<|.m (fun a9=>eK (s:=o) Z c0 u9 u5 D.slc ?_);refine a9<|.I Z<|.nil<|av<|.rt (by exact aH Z (⟨by unfold eb;(rw [XX (by simpa using ‹(!oU w)=false›),ho,show j=0 by omega];rfl),a2,a3⟩))
theorem vT (w:W8) (A:AH) (hw:w.length<=1000000):bH prog 95 #[ax (w)] A (fun v A1=>v=ax (cq w)/\A.le A1/\A1.wf):=by
 refine bi (e:=[(0,ax (w))]) (args:=[ax (w)]) call95 func95 Z results95 ntmps95 Z Z Z (fun wf=>?_);have a9:=AH.le.refl A;refine ak.sq fun h2=>.region<|.I Z<|.nil<|h2<|.seq fun _ h4=>.sq fun h6=>.region<|.J Z<|.m (fun aP=>aq Z (MZ w A) ?_);rintro v8 A9 ⟨rfl,rfl⟩;refine aP<|.p (eD Z)<|.nil<|h6<|.ifB Z (fun aT=>?_) (fun aT=>?_)
 ·refine ak.sq fun aA=>.region<|.I Z<|.nil<|aA<|.rt (by exact aH Z (⟨by unfold cq;(rw [Xy (by simpa using ‹(!oU w)=true›)];rfl),a9,wf⟩))
 refine ak.skip<|h4 _ _<|.sq fun aB=>.region<|.I Z<|.nil<|aB<|.sq fun aC=>.sq fun aD=>.region ?_;refine Ops.I Z<|.nil<|aD<|.block<|.loop (X:=Nat × W8 × Value) (fun ⟨i,o,s⟩=>[(0,ax (w)),(3,s),(4,num ((i:Nat):Int))]) (fun ⟨i,o,s⟩ B=>(i<=w.length/\(w.drop i).foldl push o=mC w/\o.length<=i)/\A.le B/\Fresh A B s 1 (ao o)) (fun ⟨i,o,s⟩=>w.length - i) (⟨0,[],.slice none 0 0⟩) (jc Z Z Z) (⟨⟨XK _,Z,XV _⟩,a9,(Fresh.nil A A 1)⟩) ?_;rintro ⟨i,o,s⟩ B21 ⟨⟨hi,h3,h4⟩,V,D⟩;refine ak.wf fun a5=>?_;have hk:=Vb (w:=w) (by simpa using ‹(!oU w)=false›);refine ak.sq fun aE=>.sq fun aF=>.region<|.J Z<|.J Z<|.p (cN u9 Z)<|.p (ca Z Z)<|.nil<|aF<|.if rfl (fun aV=>?_) (fun aV=>?_)
 ·refine ak.skip<|aE<|.sq fun a8=>.block<|.sq fun aG=>.region<|.J Z<|.p (bE (n:=o.length) c0 Z D.slc O (d6 _))<|.I Z<|.nil ?_;refine aG<|.join (fun f A1=>aj [(30,.bool (decide (0 < o.length/\o.getD (o.length - 1) 0=w.getD i 0 ^^^ 32))),(0,ax (w)),(3,s),(4,num ((i:Nat):Int)),(9,num ((i:Nat):Int)),(10,ax (w)),(11,num ((w.length:Nat):Int)),(12,.bool (decide (i < w.length))),(15,s),(16,num ((o.length:Nat):Int)),(5,num ((o.length:Nat):Int))] f.e/\f.ds=[]/\B21=A1) ?_ ?_
  ·refine ak.drawn [0,1,2,3,4,5,6,7,8,9,10,11,12,13] mixed Y Y Z<|.p Z (aN Z)<|.p Z (eh (b:=0) Z Z)<|.p Z (aN Z)<|.part (t:=19) Z (fun aY=>?_) (fun aY=>?_)
   ·refine bn.qOn Z Z Z Z Z (aN Z)<|.qOn Z Z Z Z Z (aN Z)<|.qOn Z Z Z Z Z (fJ (b:=1) Z Z O) ?_;obtain ⟨ar,a6,b5,bb,b3,b9,b8,az,aR,a7,b2,a2⟩:=bJ.at (i:=o.length - 1) D.slc On O;refine bn.qOn Z Z Z Z Z (au c0 j0 Z az Z aR) ?_;have ab:=de (off:=a6 + (o.length - 1) * 1) a7 ((dt a2).trans (fF O));refine bn.qOn Z Z Z Z Z (ah NF Z Z a7 ((dt a2).trans (fF O)))<|.qOn Z Z Z Z Z (aN Z)<|.qOn Z Z Z Z Z (aN Z)<|.qOn Z Z Z Z Z (nP u9 Z Z O)<|.lOn Z Z Z Z Z (fun _ _ ac _=>aq Z (yV (w.getD i 0) B21 (xl hk O)) ?_);rintro bc A39 ⟨rfl,rfl⟩;refine ac _ _ (aU.list (L:=[(⟨ar,a6 + (o.length - 1) * 1,none⟩,ed (o.getD (o.length - 1) 0))]) Y (bz ab cm))<|.qOn Z Z Z Z Z (yz Z Z)<|.p Z (aL Z Z)<|.done ?_;exact ⟨aj.cons (show some _=some _ from Xk (fun b=>some (Value.bool b)) (show (decide ((o.getD (o.length - 1) 0)=((w.getD i 0) ^^^ 32)))=decide (0 < o.length/\o.getD (o.length - 1) 0=w.getD i 0 ^^^ 32) from (by simp only [‹0 < _›,true_and])))<|Fy Z Z Z Z Z Z Z Z Z Z,Z,Z⟩
   refine bn.qOff Z Z Z Z Z Z<|.qOff Z Z Z Z Z Z<|.qOff Z Z Z Z Z Z<|.qOff Z Z Z Z Z Z<|.qOff Z Z Z Z Z Z<|.qOff Z Z Z Z Z Z<|.qOff Z Z Z Z Z Z<|.qOff Z Z Z Z Z Z<|.lOff Z Z Z Z Z Z<|.qOff Z Z Z Z Z Z ?_;refine bn.p Z (bh Z Z)<|.done ?_;exact ⟨aj.cons (show some _=some _ from Xk (fun b=>some (Value.bool b)) (show (false)=decide (0 < o.length/\o.getD (o.length - 1) 0=w.getD i 0 ^^^ 32) from (by simp only [‹¬ 0 < _›,false_and,decide_false])))<|Fy Z Z Z Z Z Z Z Z Z Z,Z,Z⟩
  rintro ⟨fe,fd⟩ _ ⟨hE,rfl,rfl⟩;refine ak.forget hE<|.if rfl (fun aZ=>?_) (fun aZ=>?_)
  ·refine ak.region<|.J Z<|.J Z<|.p (fJ (b:=1) Z Z O) ?_;obtain ⟨av,ba,ay,b0,aS,b7⟩:=D.nonnil (by intro q;have:=Xk List.length q;simp only [aK,Xz] at this;omega);subst b0;rw [aK,TK] at aS;have a3:=D.take (k:=o.length - 1) O;rw [TK,iQ] at a3;refine Ops.p (jo c0 j0 Z Z O)<|.I Z<|.nil<|a8<|.region<|.J Z<|.p (bF (b:=1) Z Z O)<|.I Z<|.nil ?_;exact ⟨⟨i + 1,o.take (o.length - 1),.slice (some ⟨av,0,none⟩) (o.length - 1) ay⟩,jc Z Z Z,Z,⟨⟨by omega,by exact xo Ow h3 ‹_›,by simp only [Xx,XZ,Xq,Xz];omega⟩,V,a3⟩,O1⟩
  refine ak.region<|.J Z<|.J Z<|.J Z<|.p (nP u9 Z Z O)<|.m (fun ad=>bf (c:=[ed (w.getD i 0)]) a5 rfl (aw c0 j0 z5 rfl U U rfl) fun A46 b6 a0=>?_);have a4:=D.le a0.le;refine ad<|.m (fun ag=>ct (ys:=[ed (w.getD i 0)]) rfl rfl c0 j0 tD z5 rfl U c0 (fun _ h=>by cases h) a4.own (bN (n:=1) a0.get Z) rfl rfl (by show (_ + _) * 1<=_;simp only [aK,Xq,Xz];(try simp only [Xx,Xq,Xz]);omega) Ob fun A52 b1 a1=>?_);rw [show ([ed (w.getD i 0)]:List Value)=ao [w.getD i 0] from rfl,eu] at a1;obtain ⟨aa,ap⟩:=Fresh.grow a4 (V.trans a0.le) wf a1;refine ag<|.I Z<|.nil<|a8<|.region<|.J Z<|.p (bF (b:=1) Z Z O)<|.I Z<|.nil ?_;exact ⟨⟨i + 1,o ++ [w.getD i 0],b1⟩,jc Z Z Z,Z,⟨⟨by omega,by exact xp Ow h3 ‹_›,by simp only [Xx,XZ,Xq,Xz];omega⟩,ap,aa⟩,O1⟩
 refine ak.exit<|aC<|.sq fun aI=>.region<|.J Z<|.m (fun ai=>eK (s:=o) Z c0 u9 u5 D.slc ?_);refine ai<|.I Z<|.nil<|aI<|.rt (by exact aH Z (⟨by unfold cq;(rw [XX (by simpa using ‹(!oU w)=false›),<- h3,rk O];rfl),V,a5⟩))
theorem yU (x y:W8) (A:AH) (hx:x.length<=1000000) (hy:y.length<=1000000):bH prog 25 #[ax (x),ax (y)] A (fun v A1=>v=num (dr x y)/\A=A1):=by
 refine bi (e:=[(0,ax (x)),(1,ax (y))]) (args:=[ax (x),ax (y)]) call25 func25 Z results25 ntmps25 Z Z Z (fun wf=>?_);have aP:=AH.le.refl A;refine ak.sq fun h2=>.region<|.I Z<|.nil<|h2<|.sq fun h4=>.sq fun h6=>.region<|.J Z<|.m (fun aA=>aq Z (MZ x A) ?_);rintro v8 A9 ⟨rfl,rfl⟩;refine aA<|.p (eD Z)<|.J Z<|.partB (t:=11) Z (fun aB=>?_) (fun aB=>?_)
 ·refine Ops.off Z Z Z Z<|.off Z Z Z Z<|.off Z Z Z Z<|.p (aL Z Z)<|.nil<|h6<|.cond_true Z<|.sq fun a0=>.region<|.I Z ?_;refine Ops.nil<|a0<|.rt (by exact aH Z (⟨by (rw [KU ‹_›];rfl),Z⟩))
 refine Ops.on Z Z<|.J Z<|.on Z Z<|.m (fun h=>aq Z (MZ y A) ?_);rintro aR A16 ⟨rfl,rfl⟩;refine h<|.on Z Z<|.p (eD Z)<|.p (bh Z Z)<|.nil<|h6<|.ifB Z (fun aC=>?_) (fun aC=>?_)
 ·refine ak.sq fun a1=>.region<|.I Z<|.nil<|a1<|.rt (by exact aH Z (⟨by (rw [KW ‹_›];rfl),Z⟩))
 refine ak.skip<|h4<|.sq fun a2=>.sq fun a3=>.region<|.J Z<|.p (cN u9 Z)<|.J Z<|.p (cN u9 Z)<|.p (eB Z Z) ?_;refine Ops.nil<|a3<|.if rfl (fun aD=>?_) (fun aD=>?_)
 ·refine ak.sq fun a4=>.sq fun a5=>.region<|.J Z<|.p (cN u9 Z)<|.J Z<|.p (cN u9 Z)<|.p (ca Z Z)<|.nil<|a5 ?_;refine ak.if rfl (fun aE=>?_) (fun aE=>?_)
  ·refine ak.sq fun a6=>.region<|.I Z<|.nil<|a6<|.rt (by exact aH Z (⟨by (rw [l5 ‹_› ‹_›];first | (rw [o7 O] at hc;rw [<- hc];rfl) | (rw [fY O O,XX ‹_›] at hc;rw [<- hc];rfl) | (rw [fY O O,Xy ‹_›,XX ‹_›] at hc;rw [<- hc];rfl) | (rw [fc,XX ‹¬ x.length=y.length›,XX ‹x.length < y.length›];rfl) | (rw [fc,XX ‹¬ x.length=y.length›,Xy ‹¬ x.length < y.length›];rfl)),Z⟩))
  refine ak.skip<|a4<|.sq fun a7=>.region<|.I Z<|.nil<|a7<|.rt (by exact aH Z (⟨by (rw [l5 ‹_› ‹_›];first | (rw [o7 O] at hc;rw [<- hc];rfl) | (rw [fY O O,XX ‹_›] at hc;rw [<- hc];rfl) | (rw [fY O O,Xy ‹_›,XX ‹_›] at hc;rw [<- hc];rfl) | (rw [fc,XX ‹¬ x.length=y.length›,XX ‹x.length < y.length›];rfl) | (rw [fc,XX ‹¬ x.length=y.length›,Xy ‹¬ x.length < y.length›];rfl)),Z⟩))
 refine ak.skip<|a2<|.sq fun a8=>.sq fun a9=>.region<|.I Z<|.nil<|a9<|.block<|.loop (X:=Nat) (fun k=>[(0,ax (x)),(1,ax (y)),(5,num ((k:Nat):Int))]) (fun k B=>(k<=x.length/\iK (x.drop k) (y.drop k)=fc x y)/\A=B) (fun k=>x.length - k) 0 (jc Z Z Z) (⟨⟨XK _,(Lz ‹_›).symm⟩,Z⟩) ?_;rintro k B40 ⟨⟨hk,hc⟩,rfl⟩;refine ak.sq fun aa=>.sq fun ab=>.region<|.J Z<|.J Z<|.p (cN u9 Z)<|.p (ca Z Z)<|.nil<|ab<|.if rfl (fun aF=>?_) (fun aF=>?_)
 ·refine ak.skip<|aa<|.sq fun ac=>.block<|.sq fun ad=>.region<|.J Z<|.J Z<|.p (nP u9 Z Z O)<|.m (fun D=>aq Z (uY (x.getD k 0) A) ?_);rintro aS A52 ⟨rfl,rfl⟩;refine D<|.I Z<|.nil<|ad<|.sq fun ag=>.region<|.J Z<|.J Z<|.p (nP u9 Z Z O)<|.m (fun V=>aq Z (uY (y.getD k 0) A) ?_);rintro aT A58 ⟨rfl,rfl⟩;refine V<|.I Z<|.nil<|ag<|.sq fun ai=>.sq fun ap=>.region<|.J Z<|.J Z<|.p (kY Z Z) ?_;refine Ops.nil<|ap<|.if rfl (fun aG=>?_) (fun aG=>?_)
  ·refine ak.sq fun ar=>.region<|.I Z<|.nil<|ar<|.rt (by exact aH Z (⟨by (rw [l5 ‹_› ‹_›];first | (rw [o7 O] at hc;rw [<- hc];rfl) | (rw [fY O O,XX ‹_›] at hc;rw [<- hc];rfl) | (rw [fY O O,Xy ‹_›,XX ‹_›] at hc;rw [<- hc];rfl) | (rw [fc,XX ‹¬ x.length=y.length›,XX ‹x.length < y.length›];rfl) | (rw [fc,XX ‹¬ x.length=y.length›,Xy ‹¬ x.length < y.length›];rfl)),Z⟩))
  refine ak.skip<|ai<|.sq fun av=>.region<|.J Z<|.J Z<|.p (GX Z Z)<|.nil<|av<|.if rfl (fun aI=>?_) (fun aI=>?_)
  ·refine ak.sq fun ay=>.region<|.I Z<|.nil<|ay<|.rt (by exact aH Z (⟨by (rw [l5 ‹_› ‹_›];first | (rw [o7 O] at hc;rw [<- hc];rfl) | (rw [fY O O,XX ‹_›] at hc;rw [<- hc];rfl) | (rw [fY O O,Xy ‹_›,XX ‹_›] at hc;rw [<- hc];rfl) | (rw [fc,XX ‹¬ x.length=y.length›,XX ‹x.length < y.length›];rfl) | (rw [fc,XX ‹¬ x.length=y.length›,Xy ‹¬ x.length < y.length›];rfl)),Z⟩))
  refine ak.skip<|ac<|.region<|.J Z<|.p (bF (b:=1) Z Z O)<|.I Z<|.nil ?_;exact ⟨k + 1,jc Z Z Z,Z,⟨⟨by omega,by rw [fY O O,Xy ‹_›,Xy ‹_›] at hc;exact hc⟩,Z⟩,O1⟩
 refine ak.exit<|a8<|.sq fun az=>.region<|.I Z<|.nil<|az<|.rt (by exact aH Z (⟨by (rw [l5 ‹_› ‹_›];first | (rw [o7 O] at hc;rw [<- hc];rfl) | (rw [fY O O,XX ‹_›] at hc;rw [<- hc];rfl) | (rw [fY O O,Xy ‹_›,XX ‹_›] at hc;rw [<- hc];rfl) | (rw [fc,XX ‹¬ x.length=y.length›,XX ‹x.length < y.length›];rfl) | (rw [fc,XX ‹¬ x.length=y.length›,Xy ‹¬ x.length < y.length›];rfl)),Z⟩))
theorem P4 (c:UInt8) (g:Int) (A:AH) (hg:1<=g/\g<=8):bH prog 68 #[ed (c),num (g)] A (fun v A1=>v=num (Rn g c)/\A=A1):=by
 refine bi (e:=[(0,ed (c)),(1,num (g))]) (args:=[ed (c),num (g)]) call68 func68 Z results68 ntmps68 Z Z Z (fun wf=>?_);have ac:=AH.le.refl A;have aa:=(c - 97).toNat_lt;have ab:=(c - 65).toNat_lt;refine ak.sq fun h2=>.region<|.I Z<|.nil<|h2<|.sq fun h4=>.block<|.sq fun h6=>.region<|.J Z ?_;refine Ops.p (ta (d:=97) Z Z)<|.J Z<|.part (t:=8) Z (fun p7=>?_) (fun p7=>?_)
 ·refine Ops.on Z Z<|.J Z<|.on Z Z<|.p (oe (d:=97) Z Z)<|.on Z Z<|.p (mj u5 u3 Z)<|.on Z Z<|.J Z<|.on Z Z<|.p (kY Z Z) ?_;refine Ops.p (aL Z Z)<|.I Z<|.nil<|h6<|.if rfl (fun p8=>?_) (fun p8=>?_)
  ·refine ak.sq fun X=>.region<|.J Z<|.p (oe (d:=97) Z Z)<|.p (mj u5 u3 Z)<|.p (qG (a:=2) Z Z O)<|.I Z<|.nil<|X<|.rt (by exact aH Z (⟨by (rw [<- OU hg ‹_› ‹_›];rfl),Z⟩))
  refine ak.sq fun D=>.region<|.J Z<|.p (ta (d:=65) Z Z)<|.J Z<|.part (t:=22) Z (fun a6=>?_) (fun a6=>?_)
  ·refine Ops.on Z Z<|.J Z<|.on Z Z<|.p (oe (d:=65) Z Z)<|.on Z Z<|.p (mj u5 u3 Z)<|.on Z Z<|.J Z<|.on Z Z<|.p (kY Z Z) ?_;refine Ops.p (aL Z Z)<|.I Z<|.nil<|D<|.if rfl (fun a7=>?_) (fun a7=>?_)
   ·refine ak.sq fun a0=>.region<|.J Z<|.p (oe (d:=65) Z Z)<|.p (mj u5 u3 Z)<|.p (qG (a:=2) Z Z O)<|.p (bF (b:=1) Z Z O)<|.I Z<|.nil<|a0 ?_;refine ak.ret ?_;repeat first | with_reducible refine cR ?_ | with_reducible refine cr ?_
    exact aH Z (⟨by (rw [<- Mc hg ‹_› ‹_›];rfl),Z⟩)
   refine ak.skip<|h4<|.sq fun a1=>.region<|.I Z<|.nil<|a1<|.rt (by exact aH Z (⟨by (rw [C6 (fun h=>by first | exact ‹¬ (97:UInt8)<=c› h.1 | exact ‹¬ (((c - 97).toNat:Nat):Int) < g› h.2) (fun h=>by first | exact ‹¬ (65:UInt8)<=c› h.1 | exact ‹¬ (((c - 65).toNat:Nat):Int) < g› h.2)];rfl),Z⟩))
  refine Ops.off Z Z Z Z<|.off Z Z Z Z<|.off Z Z Z Z<|.off Z Z Z Z<|.off Z Z Z Z<|.p (bh Z Z)<|.I Z<|.nil<|D<|.cond_false Z ?_;refine ak.skip<|h4<|.sq fun a2=>.region<|.I Z<|.nil<|a2<|.rt (by exact aH Z (⟨by (rw [C6 (fun h=>by first | exact ‹¬ (97:UInt8)<=c› h.1 | exact ‹¬ (((c - 97).toNat:Nat):Int) < g› h.2) (fun h=>by first | exact ‹¬ (65:UInt8)<=c› h.1 | exact ‹¬ (((c - 65).toNat:Nat):Int) < g› h.2)];rfl),Z⟩))
 refine Ops.off Z Z Z Z<|.off Z Z Z Z<|.off Z Z Z Z<|.off Z Z Z Z<|.off Z Z Z Z<|.p (bh Z Z)<|.I Z<|.nil<|h6<|.cond_false Z ?_;refine ak.sq fun V=>.region<|.J Z<|.p (ta (d:=65) Z Z)<|.J Z<|.part (t:=22) Z (fun a8=>?_) (fun a8=>?_)
 ·refine Ops.on Z Z<|.J Z<|.on Z Z<|.p (oe (d:=65) Z Z)<|.on Z Z<|.p (mj u5 u3 Z)<|.on Z Z<|.J Z<|.on Z Z<|.p (kY Z Z) ?_;refine Ops.p (aL Z Z)<|.I Z<|.nil<|V<|.if rfl (fun a9=>?_) (fun a9=>?_)
  ·refine ak.sq fun a3=>.region<|.J Z<|.p (oe (d:=65) Z Z)<|.p (mj u5 u3 Z)<|.p (qG (a:=2) Z Z O)<|.p (bF (b:=1) Z Z O)<|.I Z<|.nil<|a3 ?_;refine ak.ret ?_;repeat first | with_reducible refine cR ?_ | with_reducible refine cr ?_
   exact aH Z (⟨by (rw [<- Mc hg ‹_› ‹_›];rfl),Z⟩)
  refine ak.skip<|h4<|.sq fun a4=>.region<|.I Z<|.nil<|a4<|.rt (by exact aH Z (⟨by (rw [C6 (fun h=>by first | exact ‹¬ (97:UInt8)<=c› h.1 | exact ‹¬ (((c - 97).toNat:Nat):Int) < g› h.2) (fun h=>by first | exact ‹¬ (65:UInt8)<=c› h.1 | exact ‹¬ (((c - 65).toNat:Nat):Int) < g› h.2)];rfl),Z⟩))
 refine Ops.off Z Z Z Z<|.off Z Z Z Z<|.off Z Z Z Z<|.off Z Z Z Z<|.off Z Z Z Z<|.p (bh Z Z)<|.I Z<|.nil<|V<|.cond_false Z ?_;refine ak.skip<|h4<|.sq fun a5=>.region<|.I Z<|.nil<|a5<|.rt (by exact aH Z (⟨by (rw [C6 (fun h=>by first | exact ‹¬ (97:UInt8)<=c› h.1 | exact ‹¬ (((c - 97).toNat:Nat):Int) < g› h.2) (fun h=>by first | exact ‹¬ (65:UInt8)<=c› h.1 | exact ‹¬ (((c - 65).toNat:Nat):Int) < g› h.2)];rfl),Z⟩))
theorem qm (w:W8) (g:Int) (A:AH) (hw:w.length<=9223372036854775807) (hg:1<=g/\g<=8):bH prog 27 #[ax (w),num (g)] A (fun v A1=>v=.bool (decide (bG g w=0))/\A=A1):=by
 refine bi (e:=[(0,ax (w)),(1,num (g))]) (args:=[ax (w),num (g)]) call27 func27 Z results27 ntmps27 Z Z Z (fun wf=>?_);have a7:=AH.le.refl A;refine ak.sq fun h2=>.region<|.I Z<|.nil<|h2<|.sq fun h4=>.sq fun h6=>.region<|.I Z<|.nil ?_;refine h6<|.block<|.loop (X:=Nat) (fun i=>[(0,ax (w)),(1,num (g)),(5,num ((i:Nat):Int))]) (fun i B=>(i<=w.length/\∀ j,j < i->¬ Rn g (w.getD j 0) < 0)/\A=B) (fun i=>w.length - i) 0 (jc Z Z Z) (⟨⟨XK _,fun j h=>by omega⟩,Z⟩) ?_;rintro i B8 ⟨⟨hi,hn⟩,rfl⟩;refine ak.sq fun V=>.sq fun a0=>.region<|.J Z<|.J Z<|.p (cN u9 Z)<|.p (ca Z Z)<|.nil<|a0<|.if rfl (fun a5=>?_) (fun a5=>?_)
 ·refine ak.skip<|V<|.sq fun a1=>.block<|.sq fun a2=>.region<|.J Z<|.J Z<|.p (nP u9 Z Z O)<|.J Z ?_;refine Ops.m (fun D=>aq Z (P4 (w.getD i 0) (g) A O) ?_);rintro a8 A20 ⟨rfl,rfl⟩;refine D<|.p (kY Z Z)<|.nil<|a2<|.if rfl (fun a6=>?_) (fun a6=>?_)
  ·refine ak.sq fun a3=>.region<|.I Z<|.nil<|a3<|.rt (by exact aH Z (⟨by (rw [JG hg O ‹_›];rfl),Z⟩))
  refine ak.skip<|a1<|.region<|.J Z<|.p (bF (b:=1) Z Z O)<|.I Z<|.nil ?_;exact ⟨i + 1,jc Z Z Z,Z,⟨⟨by omega,fun j h=>(XW.1 h).elim (hn j) (fun z=>by subst z;assumption)⟩,Z⟩,O1⟩
 refine ak.exit<|h4<|.sq fun a4=>.region<|.J Z<|.p (cN u9 Z)<|.p (rG (b:=100000) Z Z)<|.I Z<|.nil<|a4 ?_;refine ak.ret ?_;repeat first | with_reducible refine cR ?_ | with_reducible refine cr ?_
 exact aH Z (⟨by (rw [FY hg O hn];rfl),Z⟩)
end Go.Proofs.YtjppkekmddjcfaaGreatDoor
