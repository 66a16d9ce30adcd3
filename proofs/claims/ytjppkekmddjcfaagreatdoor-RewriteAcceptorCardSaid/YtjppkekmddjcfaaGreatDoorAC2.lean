import Derived.Test.YtjppkekmddjcfaaGreatDoorAC1
import Derived.RangeFuncSeq
import Derived.RangeFuncRecord
import Derived.TacticsIn
import Derived.OrdersIn
import Derived.Shelf.SlGeneric
import Derived.Shelf.SlLaysF0
import Derived.Shelf.Lays
import Derived.Ground.SlsfProg
import Derived.Ground.NamesProg
import Derived.Test.YtjppkekmddjcfaaGreatDoorProg
import Derived.Shelf.Strings.Search3
import Derived.Test.YtjppkekmddjcfaaGreatDoorCards
import Derived.Test.YtjppkekmddjcfaaGreatDoorTie
import Derived.WalkKit
import Derived.ProofKit
import Derived.OpenShut
import Derived.Carry
import Derived.SliceStrings
import Derived.ChangeSame
import Derived.ChangeMaps5
import Derived.Deep.DeepHandedRow
import Derived.Deep.DeepLaidRun
import Derived.Lib.LaidTab
import Derived.Shelf.Vars
import Derived.KernelRfl
set_option linter.unusedSectionVars false
set_option linter.unusedVariables false
set_option linter.unusedSimpArgs false
open Go.Proofs.Tryz
namespace Go.Proofs.YtjppkekmddjcfaaGreatDoor
open Go Go.RowKit
namespace V
abbrev FR (l:Nat):Fence:=Fence.wide.inRound l
def yo (F:Fence):Prop:=F=Fence.wide\/∃ l,F=FR l
theorem lq:yo Fence.wide:=.inl Z
theorem ry (l:Nat):yo (FR l):=.inr ⟨l,rfl⟩
def jy (o:Oper):Bool:=match o.op with | .defer _=>false | _=>true
section
variable {P:Program} {F:Fence} {n:Nat}
theorem C8 (hF:yo F) {g:FuncId} {args:Array Value} {w:World} {R:Ending->World->Prop} (h:Calls P g args w R):CallsIn F n P g args w R:=by
  have:=callsIn_wide (n:=n).2 h
  rcases hF with rfl | ⟨l,rfl⟩
  · exact this
  · exact this
theorem J6 (hF:yo F) {row:String} {args:Array Value} {w:World} {R:Value->World->Prop} (h:Rows P row args w R):RowsIn F n P row args w R:=fun c cs _=>by
  obtain ⟨v,w',r,s⟩:=h c cs
  have s':=stepsIn_wide.2 s
  rcases hF with rfl | ⟨l,rfl⟩
  · exact ⟨v,w',r,s'⟩
  · exact ⟨v,w',r,s'⟩
theorem sA (hF:yo F) (f:FuncId):F.fn f:=by rcases hF with rfl | ⟨l,rfl⟩ <;> trivial
theorem tG (hF:yo F):F.depth.isSome=true->1<=n:=by rcases hF with rfl | ⟨l,rfl⟩ <;> (intro q;cases q)
theorem Yq (hF:yo F) {o:Oper} {a:Act} {w:World} {K:Act->World->Prop} {Q:Exit->Act->World->Prop} (hd:jy o=true) (h:o.wp P a w K Q):o.wpIn F n P a w K Q:=by
  have hs:o.semAt F.round a.eval=execOp a.eval o:=Oper.semAt_eq _ _ _ (fun c hc=>by simp [jy,hc] at hd)
  refine ⟨fun f _=>sA hF f,?_⟩
  rw [hs]
  unfold Oper.wp at h
  generalize (execOp a.eval o).run P w=r at h ⊢
  cases r with
  | ok x w' =>
    cases x <;> simp only [Oper.upon] at h <;> simp only [Oper.uponIn] <;>
      first | exact h | exact h.elim | exact ⟨tG hF,C8 hF h⟩ | exact ⟨tG hF,J6 hF h⟩
  | halt x w'=>cases x <;> simp only [Oper.upon] at h <;> simp only [Oper.uponIn] <;> exact h
theorem Bx (hF:yo F) {all:Array Oper} {Q:Exit->Act->World->Prop} (hQ:¬ LetsOut Q):∀ (os:List Oper) (a:Act) (w:World),os.all jy=true->wpList P all Q os a w->wpListIn F n P all Q os a w
  | [],_,_,_,h=>h
  | o :: os,a,w,hd,h=>by
    simp only [List.all_cons,XK] at hd
    unfold wpList at h
    unfold wpListIn
    split
    · rename_i hw
      rw [Xw hw] at h
      rcases h with h | ⟨_,h⟩
      · exact Yq hF hd.1 (Oper.wp_mono (fun a w=>Bx hF hQ os a w hd.2) h)
      · exact absurd h hQ
    · rename_i hw
      rw [Xy hw] at h
      exact ⟨fun f _=>sA hF f,Bx hF hQ os _ w hd.2 h⟩
theorem Am (hF:yo F) {ops:Array Oper} {Q:Exit->Act->World->Prop} (hQ:¬ LetsOut Q) (hd:ops.toList.all jy=true):∀ (fuel:Nat) (l:Array Bool) (a:Act) (w:World),wpAny P .any ops Q fuel l a w->wpAnyIn F n P .any ops Q fuel l a w
  | 0,_,_,_,h=>h
  | fuel + 1,l,a,w,h=>⟨h.1,fun i hi=>by
      have h2:=h.2 i hi
      unfold wpOp at h2
      unfold wpOpIn
      split
      · rename_i q;simp only [q] at h2;exact Am hF hQ hd fuel _ a w h2
      · rename_i o q
        simp only [q] at h2
        have ho:jy o=true:=Vx.1 hd o (by
          obtain ⟨hlt,e⟩:=TK.1 q
          rw [<- e];exact Array.getElem_mem_toList hlt)
        split
        · rename_i hw
          rw [Xw hw] at h2
          rcases h2 with h2 | ⟨_,h2⟩
          · exact Yq hF ho (Oper.wp_mono (fun a w=>Am hF hQ hd fuel _ a w) h2)
          · exact absurd h2 hQ
        · rename_i hw
          rw [Xy hw] at h2
          exact ⟨fun f _=>sA hF f,Am hF hQ hd fuel _ _ w h2⟩⟩
end
def fh (P:Program) (nt:Nat) (F:Fence) (c:Code) (Q:Exit->Fr->AH->Prop) (f:Fr) (A:AH):Prop :=
  ∀ a w,de nt f a->cw A w->c.wpIn F 0 P (mL nt Q A w) a w
def tC (Q:Exit->Fr->AH->Prop):Prop:=∀ f A,¬ Q .outgrown f A
theorem mZ {K:Fr->AH->Prop} {Q:Exit->Fr->AH->Prop} (h:tC Q):tC (re K Q):=fun f A=>h f A
theorem kE {i:Nat} {Q:Exit->Fr->AH->Prop} (h:tC Q):tC (nI i Q):=fun f A=>h f A
def xy (R:Fr->AH->Prop):Exit->Fr->AH->Prop
  | .normal,f,A=>R f A
  | _,_,_=>False
theorem kF {R:Fr->AH->Prop}:tC (xy R):=fun _ _ h=>h
theorem D5 {nt:Nat} {Q:Exit->Fr->AH->Prop} (h:tC Q) {A:AH} {w:World}:¬ LetsOut (d9 nt Q A w):=fun ⟨_,_,_,_,_,_,_,q,_⟩=>h _ _ q
theorem Im {nt:Nat} {Q:Exit->Fr->AH->Prop} (h:tC Q) {A:AH} {w:World}:¬ LetsOut (mL nt Q A w):=fun ⟨_,_,_,_,_,_,_,q,_⟩=>h _ _ q
section
variable {P:Program} {nt:Nat} {F:Fence} {Q:Exit->Fr->AH->Prop} {f:Fr} {A:AH} {e:ii} {ds:List Deferred}
theorem fh.wf {c:Code} (h:A.wf->fh P nt F c Q f A):fh P nt F c Q f A:=fun a w ha hw=>h hw.wf a w ha hw
theorem fh.skip (h:Q .normal f A):fh P nt F .skip Q f A:=fun _ _ ha hw=>wpIn_skip (.self ha hw h fun _ q=>by cases q)
theorem fh.seq {x y:Code} (h:∀ K:Fr->AH->Prop,(∀ f A,fh P nt F y Q f A->K f A)->fh P nt F x (re K Q) f A):fh P nt F (x.seq y) Q f A:=by
  intro a w ha hw
  refine wpIn_seq (wpIn_mono (h _ (fun _ _ h=>h) a w ha hw) ?_)
  rintro e a' w' ⟨f',A',h1,h2,h3,h4,h5⟩
  cases e with
  | normal=>exact wpIn_mono (h4 a' w' h1 h2) fun x a'' w'' g=>g.step h3
  | _=>exact ⟨f',A',h1,h2,h3,h4,h5⟩
theorem fh.cond {c:Operand} {x y:Code} {t:Bool} (hc:cd f.e c=some (.bool t)) (h1:t=true->fh P nt F x Q f A) (h2:t=false->fh P nt F y Q f A) :
    fh P nt F (.cond c x y) Q f A:=fun a w ha hw =>
  wpIn_cond_split (cI ha hc) (fun e=>h1 e a w ha hw) (fun e=>h2 e a w ha hw)
theorem fh.cond_false {c:Operand} {x y:Code} (hc:cd f.e c=some (.bool false)) (h1:fh P nt F y Q f A):fh P nt F (.cond c x y) Q f A :=
  fh.cond hc (fun e=>by cases e) (fun _=>h1)
theorem fh.if {c:Operand} {x y:Code} {p:Prop} [Decidable p] (hc:cd e c=some (.bool (decide p))) (h1:p->fh P nt F x Q ⟨e,ds⟩ A) (h2:¬ p->fh P nt F y Q ⟨e,ds⟩ A):fh P nt F (.cond c x y) Q ⟨e,ds⟩ A :=
  fh.cond hc (fun h=>h1 (of_decide_eq_true h)) (fun h=>h2 (of_decide_eq_false h))
theorem fh.block {i:Nat} {c:Code} (h:fh P nt F c (nI i Q) f A):fh P nt F (.block i c) Q f A:=fun a w ha hw=>by
  refine wpIn_block (wpIn_mono (h a w ha hw) ?_)
  rintro e a' w' ⟨f',A',h1,h2,h3,h4,h5⟩
  cases e with
  | exit j =>
    simp only [Exit.inBlock,nI] at h4 ⊢
    split
    · rename_i q;rw [Xw q] at h4;exact ⟨f',A',h1,h2,h3,h4,fun _ q=>by cases q⟩
    · rename_i q;rw [Xy q] at h4;exact ⟨f',A',h1,h2,h3,h4,h5⟩
  | _=>exact ⟨f',A',h1,h2,h3,h4,h5⟩
theorem fh.region {id:Nat} {l:List Oper} (hF:yo F) (hQ:tC Q) (hd:l.all jy=true) (h:Ops P nt l.toArray l Q f A):fh P nt F (.region id l.toArray false) Q f A :=
  fun a w ha hw=>wpIn_region_lit (Bx hF (Im hQ) l a w hd (h a w ha hw A w (.refl _ _)))
theorem fh.drawn {id:Nat} {ops:Array Oper} (C:List Nat) (hF:yo F) (hQ:tC Q) (hd:ops.toList.all jy=true) (hm:P.follows .mixedOrders=true) (hc:ni ops (Array.replicate ops.size false) C=true) (hn:Region.noSelect ops=true) (hl:C.length=ops.size)
    (h:DOps P nt ops Q (Array.replicate ops.size false) [] C f A):fh P nt F (.region id ops true) Q f A:=by
  intro a w ha hw
  obtain ⟨v1,s1⟩:=jF hw
  refine wpIn_mono (wpIn_region_any hm (Am hF (D5 hQ) hd _ _ _ _ (kO (Q:=d9 nt Q A w) (S:=d6 ops []) _ _ _ _ ?_))) (fun _ _ _=>d9.q)
  have key:=h hc hn a _ ha v1 (fun p hp=>by cases hp) (fun j o _ hj=>by
    exfalso
    rcases VW j ops.size with q | q
    · simp [q] at hj
    · simp [q] at hj) A w s1
  rw [hl] at key
  exact key
theorem fh.run {c:Code} (h:fh P nt Fence.wide c Q f A):ak P nt c Q f A:=fun a w ha hw=>wpIn_wide.1 (h a w ha hw)
theorem ak.into {c:Code} (h:ak P nt c Q f A):fh P nt Fence.wide c Q f A:=fun a w ha hw=>wpIn_wide.2 (h a w ha hw)
end
def mN (P:Program) (l:Nat) (args:Array Value) (A:AH) (R:Value->AH->Prop):Prop :=
  ∀ w,cw A w->YieldAt Fence.wide 0 P l args w fun e w'=>∃ A' v,e=.returned v/\cw A' w'/\fz A w A' w'/\R v A'
section
variable {P:Program} {nt:Nat} {all:Array Oper} {Q:Exit->Fr->AH->Prop} {f:Fr} {A:AH} {e:ii} {ds:List Deferred} {d t:Nat} {op:Op} {ty:TypeId} {ps:String} {af:Array Edge} {os:List Oper} {v:Value} {T:fx}
end
def mark (D:Nat):Deferred:={ target:=.collected D,args:=#[] }
def Cj (ps:List Nat) (xs:List Value) (e:ii):ii:=(ps.zip xs).foldl (fun e p=>(p.1,p.2) :: e) e
section
variable {P:Program} {nt:Nat} {Q:Exit->Fr->AH->Prop} {A:AH} {e:ii} {ds:List Deferred}
theorem vd:∀ (l:List (Nat × Value)) (e:ii) (t:Array Value),(∀ p ∈ l,p.1 < nt)->de nt ⟨e,[]⟩ { tmps:=t,defers:=[] } ->
    de nt ⟨l.foldl (fun e p=>(p.1,p.2) :: e) e,[]⟩ { tmps:=l.foldl (fun t p=>t.setIfInBounds p.1 p.2) t,defers:=[] }
  | [],_,_,_,h=>h
  | p :: l,e,t,hp,h=>vd l _ _ (fun q hq=>hp q (VZ _ hq)) (by
      have:=h.put (some p.1) p.2 (fun t q=>by cases q;exact hp p VX)
      exact this)
theorem m9 (P:Program) {w:World} {b:Nat} {x y:Obj} (h:cw A w) (g:A.get b=some (.obj true x)) (hy:∀ c e f,y ≠ .cells c e f):cw (A.set b (.obj true y)) (w.putObj b y)/\fz A w (A.set b (.obj true y)) (w.putObj b y):=by
  obtain ⟨w',r,v1,s1⟩:=jR (P:=P) h g (y:=y) hy
  obtain ⟨g1,g2⟩:=h.obj g
  have:(setObj b y).run P w=.ok () (w.putObj b y):=by simp [setObj,Sem.run,g1,World.putObj]
  rw [r] at this
  have e:w'=w.putObj b y:=by injection this
  rw [<- e];exact ⟨v1,s1⟩
def Gz (P:Program) (rs:List ResultVar) (Q:Ending->AH->Prop):Exit->Fr->AH->Prop
  | .normal,f,A | .ret,f,A=>∃ Ds:List Nat,f.ds=Ds.map mark/\Ds.Nodup/\(∀ D ∈ Ds,A.get D=some (.obj true (.deferred (some [])))) /\
      ∃ vs,∀ A',A'.wf->A'.n=A.n->(∀ b o,b ∉ Ds->A.get b=some o->A'.get b=some o)->iq P f.e A' rs=some vs/\Q (.returned (fZ vs)) A'
  | _,_,_=>False
theorem im.enterM {g:FuncId} {fn:Func} {c:Code} {args:List Value} {Qe:Ending->AH->Prop} (he:gx P g) (hf:P.funcs[g]? = some fn) (hb:fn.body=some c) (hn:args.length<=fn.ntmps)
    (h:A.wf->ak P fn.ntmps c (Gz P fn.results.toList Qe) ⟨s9 args 0,[]⟩ A):im P g args.toArray A Qe:=by
  refine ⟨he,fun w hw=>callsIn_wide.1 (callsIn_of_wp_marks (F:=Fence.wide) (n:=0) hf hb trivial ?_)⟩
  have ha:de fn.ntmps ⟨s9 args 0,[]⟩ { tmps:=args.toArray ++ Array.replicate (fn.ntmps - args.toArray.size) undef,defers:=[] }:=by
    refine ⟨by simp;omega,fun t v q=>?_,Z⟩
    obtain ⟨_,h2⟩:=wE args 0 t v q
    simp only [Nat.sub_zero] at h2
    have hlt:t < args.length:=(Rx.1 h2).1
    refine ⟨?_,by omega⟩
    simp only [Array.getD_eq_getD_getElem?]
    rw [Array.getElem?_append_left (by simpa using hlt)]
    simp [h2]
  have leave:∀ (Ds:List Nat) (B:AH) (f:Fr) (a:Act) (w':World) (vs:List Value),(∀ t v,cA f.e t=some v->a.tmps.getD t undef=v/\t < fn.ntmps)->a.tmps.size=fn.ntmps->cw B w'->fz A w B w'->Ds.Nodup->(∀ D ∈ Ds,B.get D=some (.obj true (.deferred (some [])))) ->
      (∀ A',A'.wf->A'.n=B.n->(∀ b o,b ∉ Ds->B.get b=some o->A'.get b=some o)->iq P f.e A' fn.results.toList=some vs/\Qe (.returned (fZ vs)) A') ->
      LeavesInM Fence.wide 0 P fn a.tmps (fun e w''=>∃ A',cw A' w''/\fz A w A' w''/\Qe e A') (Ds.map mark) .returning w':=by
    intro Ds
    induction Ds with
    | nil =>
      intro B f a w' vs hsl hsz hv hs _ _ hq
      obtain ⟨r1,r2⟩:=hq B hv.wf Z (fun _ _ _ h=>h)
      have:=jO (nt:=fn.ntmps) (f:=⟨f.e,a.defers⟩) (a:=a) ⟨hsz,hsl,rfl⟩ hv r1
      exact ⟨_,this,B,hv,hs,r2⟩
    | cons D Ds ih =>
      intro B f a w' vs hsl hsz hv hs hnd hD hq
      have gD:=hD D VX
      obtain ⟨q1,_⟩:=hv.obj gD
      obtain ⟨v1,s1⟩:=m9 P (y:=.deferred none) hv gD (fun _ _ _ q=>by cases q)
      refine ⟨by simp,.inl ⟨D,_,Z,run_takeDeferred q1,?_⟩⟩
      have hnd':=List.nodup_cons.1 hnd
      refine ih _ f a _ vs hsl hsz v1 (hs.trans s1) hnd'.2 (fun E hE=>?_) (fun A' wf' hn' hk'=>?_)
      · rw [AH.set_get_ne _ _ (by rintro rfl;exact hnd'.1 hE)];exact hD E (VZ _ hE)
      · exact hq A' wf' hn' fun b o hb hgb=>hk' b o (fun q=>hb (VZ _ q)) (by rw [AH.set_get_ne _ _ (by rintro rfl;exact hb VX)];exact hgb)
  refine wpIn_mono (ak.into (h hw.wf) _ w ha hw) ?_
  rintro x a' w' ⟨f',A',h1,h2,h3,h4,h5⟩
  cases x <;> simp only [Gz] at h4 <;> (try exact h4.elim)
  case normal=>obtain ⟨Ds,e1,e2,e3,vs,e4⟩:=h4;simp only [bodyPostM];rw [h1.ds,e1];exact leave Ds A' f' a' w' vs h1.slot h1.size h2 h3 e2 e3 e4
  case ret=>obtain ⟨Ds,e1,e2,e3,vs,e4⟩:=h4;simp only [bodyPostM];rw [h1.ds,e1];exact leave Ds A' f' a' w' vs h1.slot h1.size h2 h3 e2 e3 e4
theorem enterM {g:FuncId} {fn:Func} {c:Code} {rs:Array ResultVar} {nt:Nat} {args:List Value} {a:Array Value} {e:ii} {A:AH} {R:Value->AH->Prop} (he:gx P g) (hf:P.funcs[g]? = some fn) (hb:fn.body=some c)
    (hr:fn.results=rs) (hnt:fn.ntmps=nt) (ha:args.toArray=a) (hn:Nat.ble args.length nt=true) (hE:s9 args 0=e) (h:A.wf->ak P nt c (Gz P rs.toList fun en A'=>∃ v,en=.returned v/\R v A') ⟨e,[]⟩ A):bH P g a A R:=by
  subst hr;subst hnt;subst ha;subst hE
  exact im.enterM he hf hb (Sw hn) h
theorem ak.loopD {c:Code} {X:Type} (E:X->ii) (D:X->List Deferred) (I:X->AH->Prop) (μ:X->Nat) (x₀:X) (hE:am (E x₀) e) (hD:D x₀=ds) (h₀:I x₀ A)
    (round:∀ x B,I x B->ak P nt c (re (fun f B'=>∃ y,am (E y) f.e/\f.ds=D y/\I y B'/\μ y < μ x) Q) ⟨E x,D x⟩ B) :
    ak P nt (.loop c) Q ⟨e,ds⟩ A:=by
  subst hD
  intro a w ha hw b k cs
  have run:∀ m a w₁,(∃ x B,μ x=m/\I x B/\de nt ⟨E x,D x⟩ a/\cw B w₁/\fz A w B w₁) ->
      ∃ e a' w',mL nt Q A w e a' w'/\Arrives P (lone (b.at a (.code c :: .inLoop c :: k)) cs w₁) b k cs e a' w':=by
    intro m
    induction m using Nat.strongRecOn with
    | _ m ih =>
      rintro a w₁ ⟨x,B,hm,hI,ha₁,hw₁,hs₁⟩
      obtain ⟨e,a₂,w₂,⟨f',A',h1,h2,h3,h4,h5⟩,harr⟩:=round x B hI a w₁ ha₁ hw₁ b (.inLoop c :: k) cs
      cases e with
      | normal =>
        obtain ⟨y,g1,g2,g3,g4⟩:=h4
        obtain ⟨fe,fds⟩:=f'
        simp only at g1 g2
        subst g2
        obtain ⟨e₂,a₃,w₃,hq,harr₂⟩:=ih (μ y) (hm ▸ g4) a₂ w₂ ⟨y,A',rfl,g3,h1.le g1,h2,hs₁.trans h3⟩
        exact ⟨e₂,a₃,w₃,hq,.of_steps (Steps.trans harr (.one step_inLoop)) harr₂⟩
      | exit id=>exact ⟨_,a₂,w₂,⟨f',A',h1,h2,hs₁.trans h3,h4,h5⟩,.pass (x:=.inLoop c) Z (fun _ _=>.inl (by simp)) harr⟩
      | goto l=>exact ⟨_,a₂,w₂,⟨f',A',h1,h2,hs₁.trans h3,h4,h5⟩,.pass (x:=.inLoop c) Z (fun _ _=>.inl (by simp)) harr⟩
      | ret=>exact ⟨_,a₂,w₂,⟨f',A',h1,h2,hs₁.trans h3,h4,h5⟩,.pass (x:=.inLoop c) Z (fun _ _=>.inl (by simp)) harr⟩
      | panic ch=>exact ⟨_,a₂,w₂,⟨f',A',h1,h2,hs₁.trans h3,h4,h5⟩,.pass (x:=.inLoop c) Z (fun _ _=>.inl (by simp)) harr⟩
      | outgrown=>exact ⟨_,a₂,w₂,⟨f',A',h1,h2,hs₁.trans h3,h4,h5⟩,.pass (x:=.inLoop c) Z (fun _ _=>.inl (by simp)) harr⟩
  obtain ⟨e,a',w',hq,harr⟩:=run _ a w ⟨x₀,A,rfl,h₀,ha.le hE,hw,.refl _ _⟩
  exact ⟨e,a',w',hq,.of_steps (.one step_loop) harr⟩
end
end V
namespace V
def AH.hide (A:AH) (bs:List (Option Nat)):AH:=⟨A.n,fun k=>if some k ∈ bs then none else A.get k⟩
section
variable {A B C A0 A1:AH} {bs:List (Option Nat)} {b k n:Nat} {o:gv} {v u:Value} {size:Nat} {xs ys:List Value}
theorem cD (h:some b ∈ bs):(A.hide bs).get b=none:=Xw h
theorem ce (h:A.get k=some o) (hk:some k ∉ bs):(A.hide bs).get k=some o:=by
  show (if some k ∈ bs then none else A.get k)=some o
  rw [Xy hk];exact h
theorem cL (A:AH) (bs:List (Option Nat)):(A.hide bs).le A:=⟨XX _,fun b o g=>by
  have g:(if some b ∈ bs then none else A.get b)=some o:=g
  split at g
  · cases g
  · exact g⟩
theorem cx (wf:A.wf):(A.hide bs).wf:=fun b o g=>wf b o ((cL A bs).get b o g)
theorem cy (le:A0.le A) (h:∀ b,some b ∈ bs->A0.get b=none):A0.le (A.hide bs) :=
  ⟨le.n,fun b o g=>ce (le.get b o g) fun q=>by rw [h b q] at g;cases g⟩
theorem nZ:some k ∉ ([]:List (Option Nat)):=fun h=>by cases h
theorem rP (h:k ≠ b) (t:some k ∉ bs):some k ∉ some b :: bs:=fun q=>by
  rcases Vy.1 q with q | q
  · exact h (Option.some.inj q)
  · exact t q
theorem px (h:blk v ≠ some k) (t:some k ∉ bs):some k ∉ blk v :: bs:=fun q=>by
  rcases Vy.1 q with q | q
  · exact h q.symm
  · exact t q
theorem rK:∀ b,some b ∈ ([]:List (Option Nat))->A0.get b=none:=fun _ h=>by cases h
theorem yn (h:A0.get k=none) (t:∀ b,some b ∈ bs->A0.get b=none):∀ b,some b ∈ some k :: bs->A0.get b=none:=fun b q=>by
  rcases Vy.1 q with q | q
  · cases q;exact h
  · exact t b q
theorem uo (h:∀ b,blk v=some b->A0.get b=none) (t:∀ b,some b ∈ bs->A0.get b=none):∀ b,some b ∈ blk v :: bs->A0.get b=none:=fun b q=>by
  rcases Vy.1 q with q | q
  · exact h b q.symm
  · exact t b q
def aL (v u:Value):Prop:=∀ c,blk v=some c->blk u ≠ some c
theorem aL.symm (h:aL v u):aL u v:=fun c hu hv=>h c hv hu
theorem aL.nil:aL (.slice none 0 0) u:=fun c h=>by cases h
theorem Fresh.hide (h:Fresh A0 A v size xs) (hb:blk v ∈ bs):Fresh (A.hide bs) A v size xs:=⟨h.own,fun b q=>cD (by rw [<- q];exact hb)⟩
def NY (u:Value) (bs:List (Option Nat)):Prop:=∀ c,blk u=some c->some c ∉ bs
theorem lm:NY u []:=fun _ _=>nZ
theorem ln (h:blk u ≠ some b) (t:NY u bs):NY u (some b :: bs):=fun c hc=>rP (fun q=>h (q ▸ hc)) (t c hc)
theorem j8 (h:aL v u) (t:NY u bs):NY u (blk v :: bs):=fun c hc=>px (fun q=>h c q hc) (t c hc)
theorem ql.blkget (h:ql A v size xs) (hb:blk v=some b):∃ o,A.get b=some o:=by
  rcases h with ⟨rfl,_⟩ | ⟨b',n,k,r,rcap,rfl,h2,_⟩
  · cases hb
  · cases hb;exact ⟨_,h2⟩
theorem ql.off (h:ql A u size xs) (o:NY u bs) (le:(A.hide bs).le B):ql B u size xs:=by
  rcases h with h | ⟨b',n,k,r,rcap,rfl,h2,h3⟩
  · exact .inl h
  · exact .inr ⟨b',n,k,r,rcap,Z,le.g (ce h2 (o b' Z)),h3⟩
theorem Fresh.off (h:Fresh A0 A u size xs) (o:NY u bs) (le:(A.hide bs).le B):Fresh A0 B u size xs:=⟨h.own.off o le,h.lo⟩
theorem Fresh.sep {s2:Nat} (h:Fresh (A.hide bs) B v size xs) (hu:ql A u s2 ys) (o:NY u bs):aL v u:=fun c hv hc=>by
  obtain ⟨x,hx⟩:=hu.blkget hc
  have:=h.lo c hv
  rw [ce hx (o c hc)] at this;cases this
theorem ql.appd {s2:Nat} {v':Value} {zs:List Value} (h:ql A u size xs) (ap:nA A v s2 zs v' A1) (hs:aL v u):ql A1 u size xs:=by
  rcases h with h | ⟨b',n,k,r,rcap,rfl,h2,h3⟩
  · exact .inl h
  · exact .inr ⟨b',n,k,r,rcap,Z,ap.get _ _ h2 (fun q=>hs b' q Z),h3⟩
theorem Fresh.appd {s2:Nat} {v':Value} {zs:List Value} (h:Fresh A0 A u size xs) (ap:nA A v s2 zs v' A1) (hs:aL v u):Fresh A0 A1 u size xs:=⟨h.own.appd ap hs,h.lo⟩
theorem aL.appd {s2:Nat} {v':Value} {zs:List Value} (h:aL v u) (hu:ql A u size xs) (wf:A.wf) (ap:nA A v s2 zs v' A1):aL v' u:=fun c hc hq=>by
  rcases ap.blk c hc with q | q
  · exact h c q hq
  · obtain ⟨o,ho⟩:=hu.blkget hq
    have:=wf _ _ ho;omega
theorem aL.of_new (h:ql A u size xs) (wf:A.wf) (hb:A.n<=b) {n c:Nat}:aL (.slice (some ⟨b,0,none⟩) n c) u:=fun k hk hq=>by
  cases hk
  obtain ⟨o,ho⟩:=h.blkget hq
  have:b < A.n:=wf _ _ ho
  omega
theorem Fresh.seph (h:Fresh A0 A v size xs) (g:A0.get b=some o):blk v ≠ some b:=fun q=>by rw [h.lo b q] at g;cases g
theorem Fresh.setc {A0 A A1:AH} {b n c i size:Nat} {xs:List Value} {r:List Value} {rcap:Nat} {w:Value} (h:Fresh A0 A (.slice (some ⟨b,0,none⟩) n c) size xs) (g:A.get b=some (.row true r rcap)) (sb:s7 A A1 b (.row true (r.set i w) rcap)) :
    Fresh A0 A1 (.slice (some ⟨b,0,none⟩) n c) size (xs.set i w):=by
  refine ⟨?_,h.lo⟩
  rcases h.own with ⟨q,_⟩ | ⟨b',n',k,r',rcap',h1,h2,h3,h4,h5,h6⟩
  · cases q
  · cases h1
    rw [g] at h2;cases h2
    refine .inr ⟨b,n,c,r.set i w,rcap,Z,sb.get,by simpa using h3,?_,h5,h6⟩
    rw [List.take_set,h4]
theorem f5 {i:Nat} {K:Fr->AH->Prop} {Q:Exit->Fr->AH->Prop} {f:Fr} {A:AH} (h:Q (.exit i) f A):re K Q (.exit i) f A:=h
theorem fc {i:Nat} {Q:Exit->Fr->AH->Prop} {f:Fr} {A:AH} (h:Q .normal f A):nI i Q (.exit i) f A:=by show (if i=i then _ else _);rw [Xw Z];exact h
theorem eh {i j:Nat} {Q:Exit->Fr->AH->Prop} {f:Fr} {A:AH} (hne:j ≠ i) (h:Q (.exit j) f A):nI i Q (.exit j) f A:=by show (if j=i then _ else _);rw [Xy hne];exact h
theorem ei {i:Nat} {Q:Exit->Fr->AH->Prop} {f:Fr} {A:AH} (h:Q (.exit i) f A):BH Q (.exit i) f A:=h
theorem dA {Q:Exit->Fr->AH->Prop} {f:Fr} {A:AH} (h:Q .normal f A):BH Q .normal f A:=h
theorem nA.cell {A A1:AH} {s v u:Value} {size:Nat} {xs:List Value} {b off:Nat} (ap:nA A s size xs v A1) (ne:V.blk s ≠ some b) (h:A.cell ⟨b,off,none⟩=some u):A1.cell ⟨b,off,none⟩=some u:=by
  unfold AH.cell at h ⊢
  simp only [Option.isSome_none] at h ⊢
  cases hg:A.get b with
  | none=>rw [hg] at h;cases h
  | some o=>rw [hg] at h;rw [ap.get _ _ hg ne];exact h
def loV:Value->Nat->Nat->Value
  | .slice p n c,size,j=>.slice (if c=j then p else p.map (·.add (j * size))) (n - j) (c - j)
  | v,_,_=>v
theorem bz.lo {A:AH} {size j:Nat} {v:Value} {xs:List Value} (s:bz A size v xs) (h0:0 < size) (hj:j * size<=xs.length):bz A size (loV v size j) (xs.drop (j * size)):=by
  obtain ⟨p,n,c,rfl,h2,h3,h4⟩:=s
  have hjn:j<=n:=by rw [h2] at hj;exact Nat.le_of_mul_le_mul_right hj h0
  refine ⟨_,n - j,c - j,Z,by rw [RW,h2,Nat.sub_mul],by omega,?_⟩
  rcases h4 with h4 | ⟨b,off,rw,r,rcap,rfl,g2,g3⟩
  · left;omega
  · by_cases q:n=j
    · left;omega
    · right
      refine ⟨b,off + j * size,rw,r,rcap,?_,g2,?_⟩
      · rw [Xy O]
        simp only [Rw]
        rw [o9 _ _ Z]
      · rw [<- g3,List.drop_take,List.drop_drop,Nat.sub_mul]
theorem EI {P:Program} {e:ii} {A:AH} {x lo:Operand} {t el:TypeId} {size j:Nat} {v:Value} {xs:List Value} (hu:P.underlying t=some (.slice el)) (hs:dy P el=some size) (h:cd e x=some v) (s:bz A size v xs) (hlo:cd e lo=some (num (j:Nat))) (h0:0 < size) (hj:j * size<=xs.length) :
    aW P e A (.slice t x (some lo) none none)=some (loV v size j,[]):=by
  obtain ⟨p,n,c,rfl,h2,h3,h4⟩:=s
  have hjn:j<=n:=by rw [h2] at hj;exact Nat.le_of_mul_le_mul_right hj h0
  simp [aW,cq,h,vi,hu,hs,gi,hlo,loV]
  omega
theorem se (a:W8) (n:Nat):(aw a).drop n=aw (a.drop n):=by simp [aw,List.map_drop]
end
end V
open V
def cmn:W8->W8->Nat
  | a :: x,b :: y=>if a=b then cmn x y + 1 else 0
  | _,_=>0
def lf (p:Nat->Bool) (b:Nat):Nat:=((List.range b).find? fun n=>!p n).getD b
def bq:W8:=[97,65,98,66,99,67,100,68,101,69,102,70,103,71,104,72]
def ix (c:UInt8):Int:=match bq.findIdx? (· == c) with | some i=>i | none=>-1
theorem Qg {c:UInt8} {k:Nat} (hk:k < 16) (h:∀ j,j < k->bq.getD j 0 ≠ c) (e:bq.getD k 0=c):ix c=k:=by
  have:bq.findIdx? (· == c)=some k:=by
    rw [Rj]
    refine ⟨hk,?_,fun j hj=>?_⟩
    · have:=e;simp [XJ,hk,bq] at this ⊢;exact this
    · have:=h j hj
      have hj':j < bq.length:=Nat.lt_trans hj hk
      rw [XJ,SW hj',Option.getD_some] at this
      simpa using this
  simp [ix,this]
theorem Vt {c:UInt8} (h:∀ j,j < 16->bq.getD j 0 ≠ c):ix c = -1:=by
  have:bq.findIdx? (· == c)=none:=by
    rw [List.findIdx?_eq_none_iff]
    intro x hx
    obtain ⟨j,hj,rfl⟩:=VQ hx
    have:=h j hj
    rw [XJ,SW hj,Option.getD_some] at this
    simpa using this
  simp [ix,this]
theorem iQ {p:UInt8->Prop} (h:∀ n:Fin 256,p (UInt8.ofNat n.1)) (c:UInt8):p c:=by
  have:=h ⟨c.toNat,c.toNat_lt⟩
  simpa using this
theorem dle (a b:Int):decide (b<=a) = !decide (a < b):=by rw [<- decide_not];simp
theorem GO (r:Nat) (h:r<=127):decide (127 < r)=false:=by simp;omega
theorem u8_ge {c:UInt8} (h:¬ c < 128):128<=c.toNat:=by rw [UInt8.lt_iff_toNat_lt] at h;simpa using h
theorem ix_lt:∀ c:UInt8,-1<=ix c/\ix c < 16:=iQ (by decide +kernel)
theorem Qf:∀ c:UInt8,0<=ix c->c.toNat<=127:=iQ (by decide +kernel)
theorem JL:∀ c:UInt8,0<=ix c->0<=ix (c ^^^ 32):=iQ (by decide +kernel)
theorem uL (c:UInt8):c ^^^ 32 ^^^ 32=c:=by rw [UInt8.xor_assoc];simp
def je (k:Int) (c:UInt8):Bool:=decide (0<=ix c) && decide (ix c < 2 * k)
def inv (w:W8):W8:=(w.map (· ^^^ 32)).reverse
def push (s:W8) (c:UInt8):W8:=if 0 < s.length/\s.getD (s.length - 1) 0=c ^^^ 32 then s.take (s.length - 1) else s ++ [c]
def uq (w:W8):W8:=w.foldl push []
def bZ (k:Int) (w:W8):Nat:=if k < 1\/8 < k then 1 else if 100000 < w.length then 2 else if w.all (je k) then 0 else 4
def rN (w:W8):Bool:=decide (w.length<=100000) && w.all (je 8)
theorem Yc (w:W8):bZ 8 w=0 ↔ rN w=true:=by
  simp only [bZ,rN,XK,Vq]
  rw [Xy O]
  split
  · simp;omega
  · split <;> rename_i h <;> simp [h] <;> omega
theorem ED (s:W8) (c:UInt8):(push s c).length<=s.length + 1:=by
  unfold push;split <;> simp <;> omega
theorem eO:∀ (w s:W8),(w.foldl push s).length<=s.length + w.length
  | [],s=>by simp
  | c :: w,s=>by
    have:=eO w (push s c);have:=ED s c
    simp only [Tj,Xq];omega
theorem IB (w:W8):(uq w).length<=w.length:=by have:=eO w [];simpa [uq] using this
theorem iJ (w:W8):(inv w).length=w.length:=by simp [inv]
theorem mA {w:W8} {i:Nat} (h:i < w.length):w.drop i=w.getD i 0 :: w.drop (i + 1):=by
  rw [Tv h];simp [h]
theorem wT {l:List W8} {i:Nat} (h:i < l.length):l.drop i=l.getD i [] :: l.drop (i + 1):=by
  rw [Tv h];simp [h]
def YM (r:W8):Nat:=lf (fun n=>decide (2 * n + 2<=r.length/\r.getD n 0=r.getD (r.length - 1 - n) 0 ^^^ 32)) r.length
def core (w:W8):W8:=((uq w).take ((uq w).length - YM (uq w))).drop (YM (uq w))
def conj (w:W8):W8:=(uq w).take (YM (uq w))
def yy:W8->W8->Int
  | a :: x,b :: y=>if ix a < ix b then -1 else if ix b < ix a then 1 else yy x y
  | _,_=>0
def nf (u v:W8):Int:=if u.length ≠ v.length then (if u.length < v.length then -1 else 1) else yy u v
def gh (w:W8):W8:=if rN w then inv w else []
def c8 (w:W8):W8:=if rN w then uq w else []
def YC (w:W8):W8:=if rN w then core w else []
def eu (u v:W8):Int:=if rN u/\rN v then nf u v else 0
def Uu (q:Nat->Bool) (s:W8):Int:=match s.findIdx? (fun c=>q c.toNat) with | some i=>i | none=>-1
theorem zg {q:Nat->Bool} {s:W8} {k:Nat} (hk:k < s.length) (h:∀ j,j < k->q (s.getD j 0).toNat=false) (e:q (s.getD k 0).toNat=true):Uu q s=k:=by
  have:s.findIdx? (fun c=>q c.toNat)=some k:=by
    rw [Rj]
    refine ⟨hk,by simpa [hk] using e,fun j hj=>?_⟩
    have:=h j hj
    have hj':j < s.length:=Nat.lt_trans hj hk
    simpa [hj'] using this
  simp [Uu,this]
theorem PT {q:Nat->Bool} {s:W8} (h:∀ j,j < s.length->q (s.getD j 0).toNat=false):Uu q s = -1:=by
  have:s.findIdx? (fun c=>q c.toNat)=none:=by
    rw [List.findIdx?_eq_none_iff]
    intro x hx
    obtain ⟨j,hj,rfl⟩:=VQ hx
    have:=h j hj
    simpa [hj] using this
  simp [Uu,this]
theorem Vl (q:Nat->Bool) (s:W8):decide (0<=Uu q s)=s.any (fun c=>q c.toNat):=by
  unfold Uu
  cases h:s.findIdx? (fun c=>q c.toNat) with
  | none =>
    rw [List.findIdx?_eq_none_iff] at h
    rw [List.any_eq_false.2 (by simpa using h)];rfl
  | some i =>
    rw [Rj] at h
    obtain ⟨hi,e,_⟩:=h
    rw [List.any_eq_true.2 ⟨_,List.getElem_mem hi,e⟩];simp
theorem vo (k:Int) (w:W8):0<=Uu (fun r=>decide (127 < r) || !je k (UInt8.ofNat r)) w ↔ w.all (je k)=false:=by
  have h:=Vl (fun r=>decide (127 < r) || !je k (UInt8.ofNat r)) w
  have e:(w.any fun c=>decide (127 < c.toNat) || !je k (UInt8.ofNat c.toNat)) = !w.all (je k):=by
    rw [List.not_all_eq_any_not]
    congr 1
    funext c
    rw [UInt8.ofNat_toNat]
    by_cases q:je k c=true
    · have:0<=ix c:=by simp [je] at q;exact q.1
      have:=Qf c this
      simp [q];omega
    · simp [q]
  rw [e] at h
  constructor
  · intro q;rw [Vv q] at h;simpa using h
  · intro q;rw [q] at h;simpa using h
theorem F8 (w:W8):decide (bZ 8 w=0)=rN w:=by
  rw [Rz,Sk];exact Yc w
theorem wh {w o R:W8} {i:Nat} (hi:i < w.length) (h:(w.drop i).foldl push o=R) (hc:0 < o.length/\o.getD (o.length - 1) 0=w.getD i 0 ^^^ 32):(w.drop (i + 1)).foldl push (o.take (o.length - 1))=R:=by
  rw [mA hi,Tj,push,Xw hc] at h;exact h
theorem wi {w o R:W8} {i:Nat} (hi:i < w.length) (h:(w.drop i).foldl push o=R) (hc:¬ (0 < o.length/\o.getD (o.length - 1) 0=w.getD i 0 ^^^ 32)):(w.drop (i + 1)).foldl push (o ++ [w.getD i 0])=R:=by
  rw [mA hi,Tj,push,Xy hc] at h;exact h
theorem qz {w:W8} {i:Nat} (h:w.length<=i):w.drop i=[]:=SV h
theorem rm {α:Type} {w:List α} {i:Nat} (h:w.length<=i):w.drop i=[]:=SV h
theorem vc {l:List W8} {k:Nat} {o o2 R:W8} (hk:k < l.length) (h:(l.drop k).flatten.foldl push o=R) (h2:(l.getD k []).foldl push o=o2):(l.drop (k + 1)).flatten.foldl push o2=R:=by
  rw [wT hk,List.flatten_cons,SJ,h2] at h;exact h
theorem Lh {l:List W8} {k:Nat} (hk:k < l.length):(l.drop k).flatten.length=(l.getD k []).length + (l.drop (k + 1)).flatten.length:=by
  rw [wT hk,List.flatten_cons,Xz]
def kI (w:W8) (k:Nat):W8:=List.replicate (w.length - k) 0 ++ ((w.take k).map (· ^^^ 32)).reverse
theorem vw (w:W8):List.replicate w.length 0=kI w 0:=by simp [kI]
theorem xw (w:W8) {k:Nat} (h:w.length<=k):kI w k=inv w:=by
  simp [kI,inv,Vw h,Nat.sub_eq_zero_of_le h]
theorem rY (w:W8) {k:Nat} (h:k<=w.length):(kI w k).length=w.length:=by simp [kI];omega
theorem xx (w:W8) {k:Nat} (h:k < w.length):(kI w k).set (w.length - 1 - k) (w.getD k 0 ^^^ 32)=kI w (k + 1):=by
  have e:List.replicate (w.length - k) (0:UInt8)=List.replicate (w.length - 1 - k) 0 ++ [0]:=by
    rw [show w.length - k=(w.length - 1 - k) + 1 by omega,List.replicate_succ']
  have t:w.take (k + 1)=w.take k ++ [w.getD k 0]:=by
    rw [List.take_add_one,SW h];simp [h]
  unfold kI
  rw [e,Tk,t,VV,List.reverse_append,show w.length - (k + 1)=w.length - 1 - k by omega]
  rw [RK (w.length - 1 - k) _ (by simp)]
  simp
theorem fJ {u v:W8} {k:Nat} (hu:k < u.length) (hv:k < v.length):yy (u.drop k) (v.drop k)=if ix (u.getD k 0) < ix (v.getD k 0) then -1 else if ix (v.getD k 0) < ix (u.getD k 0) then 1 else yy (u.drop (k + 1)) (v.drop (k + 1)):=by
  rw [mA hu,mA hv,yy]
theorem oe {u v:W8} {k:Nat} (hu:u.length<=k):yy (u.drop k) (v.drop k)=0:=by
  rw [qz hu];rfl
theorem Jw {u v:W8} (h:¬ ¬ u.length=v.length):nf u v=yy u v:=by unfold nf;rw [Xy h]
def Dy {α:Type} (q:α->Bool) (l:List α):Int:=match l.findIdx? q with | some i=>i | none=>-1
theorem zh {α:Type} {q:α->Bool} {l:List α} {k:Nat} {d:α} (hk:k < l.length) (h:∀ j,j < k->q (l.getD j d)=false) (e:q (l.getD k d)=true):Dy q l=k:=by
  have:l.findIdx? q=some k:=by
    rw [Rj]
    refine ⟨hk,by simpa [hk] using e,fun j hj=>?_⟩
    have:=h j hj
    have hj':j < l.length:=Nat.lt_trans hj hk
    simpa [hj'] using this
  simp [Dy,this]
theorem DA {α:Type} {q:α->Bool} {l:List α} {d:α} (h:∀ j,j < l.length->q (l.getD j d)=false):Dy q l = -1:=by
  have:l.findIdx? q=none:=by
    rw [List.findIdx?_eq_none_iff]
    intro x hx
    obtain ⟨j,hj,rfl⟩:=VQ hx
    have:=h j hj
    simpa [hj] using this
  simp [Dy,this]
theorem vW {α:Type} (q:α->Bool) (l:List α):0<=Dy q l ↔ l.any q=true:=by
  unfold Dy
  cases h:l.findIdx? q with
  | none =>
    rw [List.findIdx?_eq_none_iff] at h
    rw [List.any_eq_false.2 (by simpa using h)];simp
  | some i =>
    rw [Rj] at h
    obtain ⟨hi,e,_⟩:=h
    rw [List.any_eq_true.2 ⟨_,List.getElem_mem hi,e⟩];simp
theorem aX {α:Type} {l:List α} {k:Nat} {d:α} (h:k < l.length):l.getD k d ∈ l:=by simp [h]
def iE (g:Int) (r:W8):Bool:=decide (r=[]) || !decide (bZ g r=0) || !decide (uq r=r)
def dH (g:Int) (l:List W8):Nat :=
  if g < 1\/8 < g then 1 else if 60 < l.length\/l.any (fun r=>decide (200 < r.length))=true then 2 else if l.any (iE g)=true then 4 else 0
theorem zf:∀ c:UInt8,97<=c->c < 105->((2 * (c - 97).toNat:Nat):Int)=ix c:=iQ (by decide +kernel)
theorem Bh:∀ c:UInt8,65<=c->c < 73->((2 * (c - 65).toNat + 1:Nat):Int)=ix c:=iQ (by decide +kernel)
theorem Bi:∀ c:UInt8,¬ (97<=c/\c < 105)->¬ (65<=c/\c < 73)->ix c = -1:=iQ (by decide +kernel)
def Uv (c:UInt8):Nat:=(ix c).toNat
theorem Qi (c:UInt8):Uv c < 16:=by have:=ix_lt c;unfold Uv;omega
theorem VI:∀ c:UInt8,0<=ix c->bq.getD (Uv c) 0=c:=iQ (by decide +kernel)
theorem QO:∀ i:Fin 16,i.1 % 2=0->(97:UInt8) + UInt8.ofNat (i.1 / 2)=bq.getD i.1 0:=by decide +kernel
theorem VL:∀ i:Fin 16,¬ i.1 % 2=0->(65:UInt8) + UInt8.ofNat (i.1 / 2)=bq.getD i.1 0:=by decide +kernel
def JU (w:W8):Prop:=∀ c ∈ w,0<=ix c
theorem we {w:W8} (h:JU w) {k:Nat} (hk:k < w.length):0<=ix (w.getD k 0):=h _ (aX hk)
theorem Rd {w:W8} (h:rN w=true):JU w:=fun c hc=>by
  simp only [rN,XK,Vx] at h
  have:=h.2 c hc
  simp [je] at this;exact this.1
theorem JV {w:W8} (h:JU w):JU (inv w):=fun c hc=>by
  simp only [inv,List.mem_reverse,Vk] at hc
  obtain ⟨d,hd,rfl⟩:=hc
  exact JL d (h d hd)
theorem DC {w:W8} {j:Nat} (hj:1<=j) (hw:j<=w.length):((w.drop j).map (· ^^^ 32)).reverse ++ [w.getD (j - 1) 0 ^^^ 32]=((w.drop (j - 1)).map (· ^^^ 32)).reverse:=by
  rw [mA (w:=w) (i:=j - 1) O,show j - 1 + 1=j by omega]
  simp
theorem go {a:Int} (h:0<=a):some (num a)=some (num ((a.toNat:Nat):Int)):=by rw [Int.toNat_of_nonneg h]
theorem Zg (c:UInt8) (h:0<=ix c):qf .xor .i64 (ix c) 1=some (num ((Uv (c ^^^ 32):Nat):Int)):=by
  have key:∀ k:Fin 16,IntKind.i64.wrap ((BitVec.ofInt 64 (k.1:Int) ^^^ BitVec.ofInt 64 1).toNat:Int)=(k.1 ^^^ 1:Nat):=by decide +kernel
  have h2:∀ c:UInt8,0<=ix c->(Uv c) ^^^ 1=Uv (c ^^^ 32):=iQ (by decide +kernel)
  have h3:=key ⟨Uv c,Qi c⟩
  have e:ix c=((Uv c:Nat):Int):=by unfold Uv;omega
  rw [<- h2 c h,<- h3,e]
  rfl
theorem yd {k:Int} {w:W8} {i:Nat} (hk:¬ (k < 1\/8 < k)) (hw:¬ 100000 < w.length) (hi:i < w.length) (h:ix (w.getD i 0) < 0\/2 * k<=ix (w.getD i 0)):bZ k w=4:=by
  have:w.all (je k)=false:=by
    rw [List.all_eq_false]
    exact ⟨_,aX (d:=0) hi,by intro q;simp only [je,XK,Vq] at q;omega⟩
  simp [bZ,hk,hw,this]
theorem Ga {k:Int} {w:W8} {i:Nat} (hk:¬ (k < 1\/8 < k)) (hw:¬ 100000 < w.length) (hi:w.length<=i) (h:∀ j,j < i->0<=ix (w.getD j 0)/\ix (w.getD j 0) < 2 * k):bZ k w=0:=by
  have:w.all (je k)=true:=by
    rw [Vx]
    intro c hc
    obtain ⟨j,hj,rfl⟩:=VQ hc
    have:=h j O
    simp [hj] at this
    simp [je];exact this
  simp [bZ,hk,hw,this]
def iB (A:AH):Prop:=∃ rw cap,A.get 0=some (.row rw (aw bq) cap)
theorem iB.le {A B:AH} (h:iB A) (le:A.le B):iB B:=by obtain ⟨r,c,h⟩:=h;exact ⟨r,c,le.g h⟩
theorem VP {l:List W8} {i n:Nat} (hi:l.length<=i) (h:∀ j,j < i->(l.getD j []).length<=n):∀ s ∈ l,s.length<=n:=fun s hs=>by
  obtain ⟨j,hj,rfl⟩:=VQ hs
  have:=h j O
  simpa [hj] using this
theorem OC {l:List W8} (h:∀ s ∈ l,s.length<=200):¬ l.any (fun r=>decide (200 < r.length))=true:=fun q=>by
  obtain ⟨s,hs,e⟩:=List.any_eq_true.1 q
  have:=h s hs;have:=of_decide_eq_true e;omega
theorem Ej {g:Int} {l:List W8} {i:Nat} (h:¬ (g < 1\/8 < g)) (h2:¬ 60 < l.length) (h3:∀ s ∈ l,s.length<=200) (hi:l.length<=i) (hb:∀ j,j < i->iE g (l.getD j [])=false):dH g l=0:=by
  rw [dH,Xy h,Xy (fun q=>q.elim h2 (OC h3)),Xy]
  intro q
  obtain ⟨s,hs,e⟩:=List.any_eq_true.1 q
  obtain ⟨j,hj,rfl⟩:=VQ hs
  have:=hb j O
  simp [hj,e] at this
theorem Qc {g:Int} {r:W8} (hg:g<=8) (h:bZ g r=0):rN r=true:=by
  unfold bZ at h
  split at h
  · cases h
  · split at h
    · cases h
    · split at h
      · rename_i h1 h2 h3
        simp only [rN,XK,Vq,Vx] at h3 ⊢
        refine ⟨by omega,fun c hc=>?_⟩
        have:=h3 c hc
        simp only [je,XK,Vq] at this ⊢
        omega
      · cases h
theorem yc {w:W8} (h:rN w=true):c8 w=uq w:=by rw [c8,Xw h]
theorem dq {g:Int} {l:List W8} (h:dH g l=0):(1<=g/\g<=8)/\l.length<=60/\∀ r ∈ l,r.length<=200/\iE g r=false:=by
  unfold dH at h
  split at h
  · cases h
  · split at h
    · cases h
    · split at h
      · cases h
      · rename_i h1 h2 h3
        refine ⟨by omega,by omega,fun r hr=>⟨?_,?_⟩⟩
        · have:¬ l.any (fun r=>decide (200 < r.length))=true:=fun q=>h2 (.inr q)
          rw [Bool.not_eq_true,List.any_eq_false] at this
          have:=this r hr
          simpa using this
        · rw [Bool.not_eq_true,List.any_eq_false] at h3
          have:=h3 r hr
          simpa using this
theorem vm {g:Int} {r:W8} (h:iE g r=false):r ≠ []/\bZ g r=0/\uq r=r:=by
  simpa [iE,and_assoc] using h
theorem ob {g:Int} {r:W8} (h:¬ bZ g r=0):iE g r=true:=by simp [iE,h]
theorem KH {g:Int} {r:W8} (h1:¬ r=[]) (h2:¬ ¬ bZ g r=0) (hg:g<=8) (h3:¬ ¬ c8 r=r):iE g r=false:=by
  rw [yc (Qc hg (Decidable.not_not.1 h2))] at h3
  simp only [iE,Xv h1,Vv (Decidable.not_not.1 h2),Vv (Decidable.not_not.1 h3)];rfl
theorem Je {x y:W8} (h:(!rN x)=true):eu x y=0:=by rw [eu,Xy];intro q;rw [q.1] at h;cases h
theorem Jf {x y:W8} (h:(!rN y)=true):eu x y=0:=by rw [eu,Xy];intro q;rw [q.2] at h;cases h
theorem l5 {x y:W8} (hx:(!rN x)=false) (hy:(!rN y)=false):eu x y=nf x y:=by
  rw [eu,Xw ⟨by simpa using hx,by simpa using hy⟩]
def UH (w:W8) (s:List W8 × Bool) (x:W8):List W8 × Bool :=
  let c:=eu x w
  let d:=s.2 || decide (c=0)
  if 0 < c/\d=false then (s.1 ++ [w] ++ [x],true) else (s.1 ++ [x],d)
def addw (l:List W8) (w:W8):List W8 :=
  let s:=l.foldl (UH w) ([],false)
  if s.2 then s.1 else s.1 ++ [w]
theorem zc {α β:Type} {f:β->α->β} {l:List α} {i:Nat} {d:α} {s s' R:β} (hi:i < l.length) (h:(l.drop i).foldl f s=R) (e:f s (l.getD i d)=s'):(l.drop (i + 1)).foldl f s'=R:=by
  rw [Tv hi,Tj] at h
  have:l.getD i d=l[i]:=by simp [hi]
  rw [<- e,this];exact h
def rot (w:W8) (j:Nat):W8:=w.drop j ++ w.take j
def ZW (c:W8) (a:List W8) (j:Nat):List W8:=addw (addw a (rot c j)) (rot (gh c) j)
def TP (a:List W8) (r:W8):List W8:=(List.range (YC r).length).foldl (ZW (YC r)) a
def symm (l:List W8):List W8:=l.foldl TP []
theorem pZ (w:W8):(gh w).length<=w.length:=by
  unfold gh;split
  · rw [iJ];exact XX _
  · simp
theorem yb (w:W8):(c8 w).length<=w.length:=by
  unfold c8;split
  · exact IB w
  · simp
theorem Qh:∀ c:UInt8,0<=ix c->(97<=c/\ix c=((2 * (c - 97).toNat:Nat):Int))\/(65<=c/\¬ 97<=c/\ix c=((2 * (c - 65).toNat + 1:Nat):Int)):=iQ (by decide +kernel)
theorem u8_97:∀ c:UInt8,97<=c->(c - 97).toNat < 8->c < 105:=iQ (by decide +kernel)
theorem u8_65:∀ c:UInt8,65<=c->(c - 65).toNat < 8->c < 73:=iQ (by decide +kernel)
def N0 (g:Int) (c:UInt8):Int:=if je g c then ix c else -1
theorem LD {g:Int} {c:UInt8} (hg:1<=g/\g<=8) (h1:97<=c) (h2:(((c - 97).toNat:Nat):Int) < g):((2 * (c - 97).toNat:Nat):Int)=N0 g c:=by
  have h:=zf c h1 (u8_97 c h1 O)
  rw [N0,Xw]
  · exact h
  · simp only [je,XK,Vq];omega
theorem JJ {g:Int} {c:UInt8} (hg:1<=g/\g<=8) (h1:65<=c) (h2:(((c - 65).toNat:Nat):Int) < g):((2 * (c - 65).toNat + 1:Nat):Int)=N0 g c:=by
  have h:=Bh c h1 (u8_65 c h1 O)
  rw [N0,Xw]
  · exact h
  · simp only [je,XK,Vq];omega
theorem Bj {g:Int} {c:UInt8} (h1:¬ (97<=c/\(((c - 97).toNat:Nat):Int) < g)) (h2:¬ (65<=c/\(((c - 65).toNat:Nat):Int) < g)):N0 g c = -1:=by
  rw [N0,Xy]
  intro q
  simp only [je,XK,Vq] at q
  rcases Qh c q.1 with ⟨h,e⟩ | ⟨h,_,e⟩
  · exact h1 ⟨h,by omega⟩
  · exact h2 ⟨h,by omega⟩
theorem JK {g:Int} {c:UInt8}:N0 g c < 0 ↔ je g c=false:=by
  unfold N0
  by_cases h:je g c=true
  · rw [Xw h]
    simp only [je,XK,Vq] at h
    constructor
    · omega
    · intro q;simp [je,h] at q
  · rw [Xy h];simp [Bool.not_eq_true] at h;simp [h]
theorem l8 {g:Int} {w:W8} (hg:1<=g/\g<=8):bZ g w=0 ↔ w.length<=100000/\∀ c ∈ w,je g c=true:=by
  unfold bZ
  rw [Xy O]
  split
  · constructor
    · intro q;cases q
    · intro q;omega
  · split <;> rename_i h
    · simp only [Vx] at h
      exact ⟨fun _=>⟨by omega,h⟩,fun _=>rfl⟩
    · constructor
      · intro q;cases q
      · intro q;exact absurd (Vx.2 q.2) h
theorem GZ {g:Int} {w:W8} {i:Nat} (hg:1<=g/\g<=8) (hi:i < w.length) (h:N0 g (w.getD i 0) < 0):decide (bZ g w=0)=false:=by
  rw [VK,l8 hg]
  intro q
  have:=q.2 _ (aX (d:=0) hi)
  rw [JK] at h;rw [h] at this;cases this
theorem DH {g:Int} {w:W8} {i:Nat} (hg:1<=g/\g<=8) (hi:w.length<=i) (h:∀ j,j < i->¬ N0 g (w.getD j 0) < 0):decide (bZ g w=0)=decide (w.length<=100000):=by
  rw [decide_eq_decide,l8 hg]
  refine ⟨fun q=>q.1,fun q=>⟨q,fun c hc=>?_⟩⟩
  obtain ⟨j,hj,rfl⟩:=VQ hc
  have:=h j O
  rw [JK] at this
  simpa [hj] using this
structure ca where
  conj:W8
  rel:Int
  inv:Bool
def ca.zero:ca:=⟨[],0,false⟩
def qy (c:ca):List Value:=[aM c.conj,num c.rel,.bool c.inv]
def cN (l:List ca):List Value:=l.flatMap qy
theorem ed (l:List ca):(cN l).length=l.length * 3:=by
  induction l with
  | nil=>rfl
  | cons c l ih=>simp only [cN,Sj,Xz,Xq] at ih ⊢;rw [ih];simp [qy];omega
theorem eJ (l:List ca):(cN l).length=l.length * 3:=ed l
theorem yz (a b:List ca):cN a ++ cN b=cN (a ++ b):=by simp [cN]
theorem YN (l:List ca):qi (cN l)=true:=by
  simp only [qi,cN,Vx,List.mem_flatMap]
  rintro v ⟨c,_,h⟩
  simp only [qy,Vy,SQ,or_false] at h
  rcases h with rfl | rfl | rfl <;> rfl
theorem Dh (l:List ca) (i:Nat):(cN l).drop (i * 3)=cN (l.drop i):=by
  induction l generalizing i with
  | nil=>simp [cN]
  | cons c l ih =>
    cases i with
    | zero=>simp
    | succ i =>
      have:(i + 1) * 3=(qy c).length + i * 3:=by simp [qy];omega
      show (qy c ++ cN l).drop ((i + 1) * 3)=_
      rw [this,<- List.drop_drop,List.drop_left]
      exact ih i
theorem jH {l:List ca} {i:Nat} (h:i < l.length):((cN l).drop (i * 3)).take 3=qy (l.getD i .zero):=by
  rw [Dh,Tv h]
  have e:l.getD i .zero=l[i]:=by simp [h]
  rw [e]
  show (qy l[i] ++ cN (l.drop (i + 1))).take 3=_
  exact List.take_left' Z
theorem inv4:∀ c:UInt8,0<=ix c->(97<=c->c - 97 + 65=c ^^^ 32)/\(¬ 97<=c->c - 65 + 97=c ^^^ 32):=iQ (by decide +kernel)
def Pg (l:List W8) (c:ca):W8:=if c.inv then inv (l.getD c.rel.toNat []) else l.getD c.rel.toNat []
def yX (l:List W8) (c:ca):W8:=c.conj ++ Pg l c ++ inv c.conj
def jZ (l:List W8) (o:W8) (c:ca):W8:=(yX l c).foldl push o
def OG (l:List W8) (d:List ca):W8:=d.foldl (jZ l) []
def jm (g:Int) (l:List W8) (c:ca):Bool:=decide (0<=c.rel) && decide (c.rel < l.length) && decide (bZ g c.conj=0)
def dN (d:List ca):Nat:=(d.map fun c=>c.conj.length).sum
def gz (g:Int) (l:List W8) (d:List ca):Bool:=d.all (jm g l) && decide (d.length<=100000) && decide (dN d<=1000000)
def yx (g:Int) (l:List W8) (ws:List W8) (ds:List (List ca)):Nat :=
  if ¬ dH g l=0 then 40 else if ws.all (fun w=>decide (bZ g w=0))=false then 41 else if ds.all (gz g l)=false then 42 else 0
def ka (g:Int) (l:List W8) (d:List ca) (w:W8):Nat :=
  if ¬ yx g l [w] [d]=0 then yx g l [w] [d] else if ¬ OG l d=uq w then 5 else 0
theorem jL {g:Int} {l:List W8} {i:Nat} (hi:i < l.length) (h:200 < (l.getD i []).length\/iE g (l.getD i [])=true):¬ dH g l=0:=fun q=>by
  have:=(dq q).2.2 _ (aX (d:=[]) hi)
  rcases h with h | h
  · omega
  · rw [h] at this;cases this.2
theorem sH {g:Int} {l:List W8} {i:Nat} (hg:¬ (g < 1\/8 < g)) (hl:¬ 60 < l.length) (hi:l.length<=i) (h:∀ j,j < i->(l.getD j []).length<=200/\iE g (l.getD j [])=false):dH g l=0 :=
  Ej hg hl (VP hi fun j hj=>(h j hj).1) hi fun j hj=>(h j hj).2
theorem oc {g:Int} {r:W8} (h:¬ uq r=r):iE g r=true:=by simp [iE,h]
theorem yP {g:Int} {r:W8} (h1:¬ r.length < 1) (h2:¬ ¬ bZ g r=0) (h3:¬ ¬ uq r=r):iE g r=false:=by
  have:r ≠ []:=fun q=>by rw [q] at h1;exact h1 (by simp)
  simp only [iE,Xv this,Vv (Decidable.not_not.1 h2),Vv (Decidable.not_not.1 h3)];rfl
theorem kr {g:Int} {r:W8} (h:r.length < 1):iE g r=true:=by
  have:r=[]:=TX.1 O
  simp [iE,this]
theorem m0 {g:Int} {w:W8} (h:¬ ¬ bZ g w=0):JU w:=by
  have h:=Decidable.not_not.1 h
  unfold bZ at h
  split at h
  · cases h
  · split at h
    · cases h
    · split at h
      · rename_i q
        intro c hc
        have:=Vx.1 q c hc
        simp only [je,XK,Vq] at this
        exact this.1
      · cases h
theorem ig {g:Int} {w:W8} (h:bZ g w=0):w.length<=100000:=by
  unfold bZ at h
  split at h
  · cases h
  · split at h
    · cases h
    · omega
theorem wQ {d:List ca} {i:Nat} (h:i < d.length):dN (d.drop i)=(d.getD i .zero).conj.length + dN (d.drop (i + 1)):=by
  have e:d.getD i .zero=d[i]:=by simp [h]
  rw [Tv h,e,dN,Tz,List.sum_cons];rfl
theorem Za {d:List ca} (h:dN d<=100000000):∀ c ∈ d,c.conj.length<=9223372036854775807:=fun c hc=>by
  have:c.conj.length<=dN d:=by
    clear h
    induction d with
    | nil=>cases hc
    | cons a d ih =>
      simp only [dN,Tz,List.sum_cons] at ih ⊢
      rcases Vy.1 hc with rfl | hc
      · omega
      · have:=ih hc;omega
  omega
theorem kz {g:Int} {l:List W8} {d:List ca} {i:Nat} (hi:i < d.length) (h:jm g l (d.getD i .zero)=false):gz g l d=false:=by
  have:d.all (jm g l)=false:=List.all_eq_false.2 ⟨_,aX (d:=.zero) hi,by rw [h];decide⟩
  simp [gz,this]
theorem uT {g:Int} {l:List W8} {d:List ca} {i n:Nat} (hi:d.length<=i) (h:∀ j,j < i->jm g l (d.getD j .zero)=true) (hn:n + dN (d.drop i)=dN d):gz g l d=(decide (d.length<=100000) && decide (n<=1000000)):=by
  have:d.all (jm g l)=true:=Vx.2 fun c hc=>by
    obtain ⟨j,hj,rfl⟩:=VQ hc
    have:=h j O
    simpa [hj] using this
  have e:dN d=n:=by rw [SV hi] at hn;simpa [dN] using hn.symm
  rw [gz,this,QX,e]
theorem ot {g:Int} {l:List W8} {c:ca} (h:c.rel < 0):jm g l c=false:=by simp [jm,show ¬ 0<=c.rel by omega]
theorem ou {g:Int} {l:List W8} {c:ca} (h:(l.length:Int)<=c.rel):jm g l c=false:=by simp [jm,show ¬ c.rel < l.length by omega]
theorem oA {g:Int} {l:List W8} {c:ca} (h:¬ bZ g c.conj=0):jm g l c=false:=by simp [jm,h]
theorem zt {g:Int} {l:List W8} {c:ca} (h1:¬ c.rel < 0) (h2:¬ (l.length:Int)<=c.rel) (h3:¬ ¬ bZ g c.conj=0):jm g l c=true:=by
  simp [jm,Decidable.not_not.1 h3];omega
theorem vt {g:Int} {l:List W8} {d:List ca} (h:gz g l d=true):∀ c ∈ d,(0<=c.rel/\c.rel < l.length)/\bZ g c.conj=0:=fun c hc=>by
  simp only [gz,XK,Vx] at h
  have:=h.1.1 c hc
  simpa [jm] using this
theorem sm {g:Int} {l:List W8} {d:List ca} (h:gz g l d=true):d.length<=100000/\dN d<=1000000:=by
  simp only [gz,XK,Vq] at h
  exact ⟨h.1.2,h.2⟩
theorem Dk {l:List ca} {i k:Nat} (h:i < l.length) (hk:k < 3):(cN l)[i * 3 + k]? = (qy (l.getD i .zero))[k]?:=by
  rw [<- jH h,SY hk,RY]
theorem KW {l:List ca} {i:Nat} (h:i < l.length):(cN l)[i * 3 + 0]? = some (aM (l.getD i .zero).conj):=Dk h O
theorem RL {g:Int} {l:List W8} {r:Int} (hp:dH g l=0) (h:0<=r/\r < l.length):JU (l.getD r.toNat [])/\(l.getD r.toNat []).length<=200:=by
  have hm:l.getD r.toNat [] ∈ l:=aX O
  have:=(dq hp).2.2 _ hm
  exact ⟨m0 (fun q=>q (vm this.2).2.1),this.1⟩
theorem OE {l:List W8} {o:W8} {c:ca}:(inv c.conj).foldl push ((if c.inv then inv (l.getD c.rel.toNat []) else l.getD c.rel.toNat []).foldl push (c.conj.foldl push o))=jZ l o c:=by
  simp only [jZ,yX,Pg,SJ]
theorem Jq {l:List W8} {o:W8} {c:ca} (hc:c.conj.length<=100000) (hr:(l.getD c.rel.toNat []).length<=200):(jZ l o c).length<=o.length + 200200:=by
  have h1:=eO (yX l c) o
  have h2:(Pg l c).length<=200:=by unfold Pg;split <;> simp [iJ] <;> exact hr
  unfold jZ
  simp only [yX,Xz,iJ] at h1 h2
  simp only [yX]
  omega
def NR (l:List Value):List Value:=l
theorem vB (l:List Value):(NR l).length=l.length:=rfl
theorem FY (l:List Value):(NR l).length=l.length * 1:=(VY _).symm
theorem FX {l:List Value} {i:Nat} (h:i < l.length):(NR l)[i]? = some (l.getD i undef):=by simp [NR,h]
theorem JW {v:Value} {k:Nat} (h:k < 1):[v].getD k undef=v:=by rw [show k=0 by omega];rfl
theorem O0 {g:Int} {l ws:List W8} {ds:List (List ca)} (h:¬ dH g l=0):yx g l ws ds=40:=by rw [yx,Xw h]
theorem O5 {g:Int} {l ws:List W8} {ds:List (List ca)} {i:Nat} (h:¬ ¬ dH g l=0) (hi:i < ws.length) (hw:¬ bZ g (ws.getD i [])=0):yx g l ws ds=41:=by
  rw [yx,Xy h,Xw]
  exact List.all_eq_false.2 ⟨_,aX (d:=[]) hi,by rw [Xv hw];decide⟩
theorem Yl {g:Int} {ws:List W8} {i:Nat} (hi:ws.length<=i) (h:∀ j,j < i->bZ g (ws.getD j [])=0):¬ ws.all (fun w=>decide (bZ g w=0))=false:=by
  rw [Bool.not_eq_false,Vx]
  intro w hw
  obtain ⟨j,hj,rfl⟩:=VQ hw
  have:=h j O
  simpa [hj] using this
theorem O6 {g:Int} {l ws:List W8} {d:List ca} {i:Nat} (h:¬ ¬ dH g l=0) (hi:ws.length<=i) (hw:∀ j,j < i->bZ g (ws.getD j [])=0) (hd:gz g l d=false):yx g l ws [d]=42:=by
  rw [yx,Xy h,Xy (Yl hi hw),Xw (by simp [hd])]
theorem Yn {g:Int} {l ws:List W8} {d:List ca} {i:Nat} (h:¬ ¬ dH g l=0) (hi:ws.length<=i) (hw:∀ j,j < i->bZ g (ws.getD j [])=0) (hd:gz g l d=true):yx g l ws [d]=0:=by
  rw [yx,Xy h,Xy (Yl hi hw),Xy (by simp [hd])]
theorem k5 {g:Int} {l ws:List W8} {d:List ca} (h:¬ ¬ yx g l ws [d]=0):dH g l=0/\(∀ w ∈ ws,bZ g w=0)/\gz g l d=true:=by
  have h:=Decidable.not_not.1 h
  unfold yx at h
  split at h
  · cases h
  · rename_i h1
    split at h
    · cases h
    · rename_i h2
      split at h
      · cases h
      · rename_i h3
        refine ⟨Decidable.not_not.1 h1,?_,by simpa using h3⟩
        rw [Bool.not_eq_false,Vx] at h2
        intro w hw;simpa using h2 w hw
theorem KZ:∀ c:UInt8,97<=c->c < 105->((2 * (c - 97).toNat:Nat):Int)=ix c:=iQ (by decide +kernel)
theorem JA:∀ c:UInt8,65<=c->c < 73->((2 * (c - 65).toNat + 1:Nat):Int)=ix c:=iQ (by decide +kernel)
theorem AL:∀ c:UInt8,¬ (97<=c/\c < 105)->¬ (65<=c/\c < 73)->ix c = -1:=iQ (by decide +kernel)
section
variable {g:Int} {w:W8} {i:Nat} {c:UInt8}
theorem Zo (h1:¬ ix c < 0) (h2:¬ 2 * g<=ix c):je g c=true:=by
  simp only [je,XK,Vq];omega
theorem Ve (hg:1<=g/\g<=8) (h:100000 < w.length):decide (bZ g w=0)=false:=by
  rw [VK,l8 hg];intro q;omega
theorem Jz (hg:1<=g/\g<=8) (hi:i < w.length) (h:je g (w.getD i 0)=false):decide (bZ g w=0)=false:=by
  rw [VK,l8 hg]
  intro q
  have:=q.2 _ (aX (d:=0) hi)
  rw [h] at this;cases this
theorem Pn (hg:1<=g/\g<=8) (hi:i < w.length) (h:ix (w.getD i 0) < 0):decide (bZ g w=0)=false :=
  Jz hg hi (by simp only [je,Bool.and_eq_false_iff,VK];omega)
theorem Po (hg:1<=g/\g<=8) (hi:i < w.length) (h:2 * g<=ix (w.getD i 0)):decide (bZ g w=0)=false :=
  Jz hg hi (by simp only [je,Bool.and_eq_false_iff,VK];omega)
theorem Pq (hg:1<=g/\g<=8) (hl:w.length<=100000) (hi:w.length<=i) (h:∀ j,j < i->je g (w.getD j 0)=true):decide (bZ g w=0)=true:=by
  rw [Sk,l8 hg]
  refine ⟨hl,fun c hc=>?_⟩
  obtain ⟨j,hj,rfl⟩:=VQ hc
  have:=h j O
  simpa [hj] using this
end
def Mh (a w:W8) (i:Nat):Prop:=i + w.length<=a.length/\(a.take (i + w.length)).drop i=w
instance (a w:W8) (i:Nat):Decidable (Mh a w i):=by unfold Mh;infer_instance
def yZ (a w:W8) (k:Nat):Int:=match (List.range (a.length + 1)).find? (fun i=>decide (k<=i/\Mh a w i)) with | some i=>(i:Int) | none=>-1
theorem sj {p:Nat->Bool}:∀ {n i:Nat},i < n->p i=true->(∀ j,j < i->p j=false)->(List.range n).find? p=some i:=by
  intro n i hi hp hn
  rw [List.find?_range_eq_some]
  exact ⟨hp,TY.2 hi,fun j hj=>by simpa using hn j hj⟩
theorem Lg {a w:W8} {k i:Nat} (hk:k<=i) (hn:∀ j,k<=j->j < i->¬ Mh a w j) (h1:i + w.length<=a.length) (h2:(a.take (i + w.length)).drop i=w):yZ a w k=i:=by
  unfold yZ
  rw [sj (i:=i) O (by simp [hk,Mh,h1,h2]) (fun j hj=>by
    rw [VK];rintro ⟨q1,q2⟩;exact hn j q1 hj q2)]
theorem PG {a w:W8} {k i:Nat} (hk:k<=i) (hn:∀ j,k<=j->j < i->¬ Mh a w j) (h1:¬ i + w.length<=a.length):yZ a w k = -1:=by
  unfold yZ
  rw [Qq.2]
  intro j hj
  rw [Sk]
  rintro ⟨q1,q2⟩
  exact hn j q1 (by have:=q2.1;omega) q2
theorem RP {w:W8} {j:Nat} (hj:1<=j) (hw:j<=w.length):(w.drop j).reverse ++ [w.getD (j - 1) 0]=(w.drop (j - 1)).reverse:=by
  rw [mA (w:=w) (i:=j - 1) O,show j - 1 + 1=j by omega]
  simp
def atw (l:List W8) (w:W8):Int:=match (List.range l.length).find? (fun i=>decide (l.getD i []=w)) with | some i=>(i:Int) | none=>-1
theorem uw {l:List W8} {w:W8} {i:Nat} (hi:i < l.length) (hn:∀ j,j < i->l.getD j [] ≠ w) (h:l.getD i []=w):atw l w=i:=by
  unfold atw
  rw [sj hi (by simpa using h) (fun j hj=>by rw [VK];exact hn j hj)]
theorem wG {l:List W8} {w:W8} {i:Nat} (hi:l.length<=i) (hn:∀ j,j < i->l.getD j [] ≠ w):atw l w = -1:=by
  unfold atw
  rw [Qq.2]
  intro j hj
  rw [Sk]
  exact hn j (by have:=TY.1 hj;omega)
structure aQ where
  left:W8
  right:W8
  pv:Value
  proof:List ca
def aQ.zero:aQ:=⟨[],[],.slice none 0 0,[]⟩
def rZ (r:aQ):List Value:=[aM r.left,aM r.right,r.pv]
def dh (l:List aQ):List Value:=l.flatMap rZ
def Proofs (A:AH) (l:List aQ):Prop:=∀ r ∈ l,bz A 3 r.pv (cN r.proof)
theorem Proofs.le {A B:AH} {l:List aQ} (h:Proofs A l) (le:A.le B):Proofs B l:=fun r hr=>(h r hr).le le
theorem da (l:List aQ):(dh l).length=l.length * 3:=by
  induction l with
  | nil=>rfl
  | cons c l ih=>simp only [dh,Sj,Xz,Xq] at ih ⊢;rw [ih];simp [rZ];omega
theorem dt (l:List aQ):(dh l).length=l.length * 3:=da l
theorem IE (l:List aQ) (i:Nat):(dh l).drop (i * 3)=dh (l.drop i):=by
  induction l generalizing i with
  | nil=>simp [dh]
  | cons c l ih =>
    cases i with
    | zero=>simp
    | succ i =>
      have:(i + 1) * 3=(rZ c).length + i * 3:=by simp [rZ];omega
      show (rZ c ++ dh l).drop ((i + 1) * 3)=_
      rw [this,<- List.drop_drop,List.drop_left]
      exact ih i
theorem ju {l:List aQ} {i:Nat} (h:i < l.length):((dh l).drop (i * 3)).take 3=rZ (l.getD i .zero):=by
  rw [IE,Tv h]
  have e:l.getD i .zero=l[i]:=by simp [h]
  rw [e]
  show (rZ l[i] ++ dh (l.drop (i + 1))).take 3=_
  exact List.take_left' Z
theorem xD {l:List aQ} {i k:Nat} (h:i < l.length) (hk:k < 3):(dh l)[i * 3 + k]? = (rZ (l.getD i .zero))[k]?:=by
  rw [<- ju h,SY hk,RY]
theorem oM {l:List aQ} {i:Nat} (h:i < l.length):(dh l)[i * 3 + 0]? = some (aM (l.getD i .zero).left):=xD h O
theorem Sa {l:List aQ} {i:Nat} (h:i < l.length):(dh l)[i * 3 + 1]? = some (aM (l.getD i .zero).right):=xD h O
theorem Proofs.get {A:AH} {l:List aQ} {i:Nat} (hp:Proofs A l) (h:i < l.length):bz A 3 (l.getD i .zero).pv (cN (l.getD i .zero).proof):=hp _ (aX (d:=.zero) h)
def iM (o w:W8):Bool:=decide (w.length<=o.length/\o.drop (o.length - w.length)=w)
def cn (l:List aQ) (o:W8):Int:=match (List.range l.length).find? (fun i=>iM o (l.getD i .zero).left) with | some i=>(i:Int) | none=>-1
theorem IC {l:List aQ} {o:W8} {i:Nat} (hi:i < l.length) (hn:∀ j,j < i->iM o (l.getD j .zero).left=false) (h:iM o (l.getD i .zero).left=true):cn l o=i:=by
  unfold cn;rw [sj hi h hn]
theorem ML {l:List aQ} {o:W8} {i:Nat} (hi:l.length<=i) (hn:∀ j,j < i->iM o (l.getD j .zero).left=false):cn l o = -1:=by
  unfold cn
  rw [Qq.2]
  intro j hj
  rw [hn j (by have:=TY.1 hj;omega)];simp
def nS (l:List aQ) (w:W8):Bool:=decide (c8 w=w) && l.all fun r=>decide (yZ w r.left 0 < 0)
theorem DE {l:List aQ} {w:W8} (h:c8 w ≠ w):nS l w=false:=by simp [nS,h]
theorem PZ {l:List aQ} {w:W8} {i:Nat} (hi:i < l.length) (h:0<=yZ w (l.getD i .zero).left 0):nS l w=false:=by
  rw [<- Bool.not_eq_true]
  intro q
  simp only [nS,XK,Vx,Vq] at q
  have:=q.2 _ (aX (d:=.zero) hi)
  omega
theorem Vp {l:List aQ} {w:W8} {i:Nat} (hi:l.length<=i) (hw:c8 w=w) (h:∀ j,j < i->yZ w (l.getD j .zero).left 0 < 0):nS l w=true:=by
  simp only [nS,XK,Vx,Vq]
  refine ⟨hw,fun r hr=>?_⟩
  obtain ⟨j,hj,rfl⟩:=VQ hr
  have:=h j O
  simpa [hj] using this
def jU (g:Int) (w:W8):Bool:=decide (w.length<=1000/\bZ g w=0/\c8 w=w)
structure sW {α:Type} [DecidableEq α] (kd:TypeDesc) (enc:α->Value):Prop where
  basic:qw kd=true
  same:∀ a b,Instr.sameNow kd (enc a) (enc b)=some (decide (a=b))
  bits:∀ a,Instr.sameBits 10000 (enc a) (enc a)=true
theorem Bn:sW .string aM:={
  basic:=rfl
  same:=fun a c=>by
    simp only [Instr.sameNow]
    congr 1
    have e:(bs a == bs c)=((bs a).data == (bs c).data):=rfl
    rw [e,Rz,Qy,Sk]
    constructor
    · intro h
      have:(bs a).data.toList=(bs c).data.toList:=by rw [h]
      exact this
    · intro h;rw [h]
  bits:=fun a=>by
    show (bs a == bs a)=true
    have e:(bs a == bs a)=((bs a).data == (bs a).data):=rfl
    rw [e];simp }
theorem tp:sW (.int .u8) dT:={
  basic:=rfl
  same:=fun a c=>by
    simp only [Instr.sameNow,if_true]
    congr 1
    rw [Rz,Qy,Sk]
    constructor
    · intro h;exact UInt8.toNat_inj.1 (Int.ofNat_inj.1 h)
    · rintro rfl;rfl
  bits:=fun a=>by simp [Instr.sameBits] }
theorem uU:sW (.int .i64) num:={
  basic:=rfl
  same:=fun a c=>by
    simp only [Instr.sameNow,if_true]
    rfl
  bits:=fun a=>by simp [Instr.sameBits] }
section
variable {α:Type} [DecidableEq α] {kd:TypeDesc} {enc:α->Value}
def dF (enc:α->Value) (es:Array MapEntry) (E:List (α × Value)):Prop:=es.toList.map (fun x=>(x.key,x.val))=E.map fun p=>(enc p.1,p.2)
def lk (E:List (α × Value)) (k:α):Option Value:=(E.find? fun p=>decide (p.1=k)).map (·.2)
def zY (E:List (α × Value)) (k:α) (v:Value):List (α × Value):=if k ∈ E.map (·.1) then E.map (fun p=>if p.1=k then (p.1,v) else p) else E ++ [(k,v)]
theorem dF.nil:dF enc #[] []:=rfl
theorem dF.size {es:Array MapEntry} {E:List (α × Value)} (h:dF enc es E):es.size=E.length:=by
  have:=Xk List.length h;simpa using this
theorem uH (K:sW kd enc) (k:α):∀ (l:List MapEntry) (E:List (α × Value)) (n:Nat),l.map (fun x=>(x.key,x.val))=E.map (fun p=>(enc p.1,p.2)) ->
    (∃ i v,Instr.findNow kd (enc k) l n=some (some (n + i,v))/\lk E k=some v/\i < l.length/\(E.map (·.1))[i]? = some k/\(∃ x,l[i]? = some x/\x.key=enc k)/\∀ j,j < i->(E.map (·.1))[j]? ≠ some k)\/(Instr.findNow kd (enc k) l n=some none/\lk E k=none/\k ∉ E.map (·.1)):=by
  intro l
  induction l with
  | nil =>
    intro E n h
    cases E with
    | nil=>right;exact ⟨Z,Z,by simp⟩
    | cons p E=>cases h
  | cons x l ih =>
    intro E n h
    cases E with
    | nil=>cases h
    | cons p E =>
      simp only [Tz,List.cons.injEq,Prod.mk.injEq] at h
      obtain ⟨⟨h1,h2⟩,h3⟩:=h
      by_cases q:k=p.1
      · left
        refine ⟨0,x.val,?_,?_,by simp,by simp [q],⟨x,rfl,by rw [h1,q]⟩,fun j hj=>absurd hj (Nat.not_lt_zero _)⟩
        · simp only [Instr.findNow,h1,K.same,Vv q,Nat.add_zero]
        · simp [lk,q,h2]
      · have q2:¬ p.1=k:=fun e=>q e.symm
        rcases ih E (n + 1) h3 with ⟨i,v,g1,g2,g3,g4,g5,g6⟩ | ⟨g1,g2,g3⟩
        · left
          refine ⟨i + 1,v,?_,?_,by simp;omega,by simpa using g4,by simpa using g5,fun j hj=>?_⟩
          · simp only [Instr.findNow,h1,K.same,Xv q];rw [g1,show n + (i + 1)=n + 1 + i by omega]
          · simpa [lk,q2] using g2
          · cases j with
            | zero=>simpa using q2
            | succ j=>simpa using g6 j O
        · right
          refine ⟨?_,?_,by simpa [q] using g3⟩
          · simp only [Instr.findNow,h1,K.same,Xv q];exact g1
          · simpa [lk,q2] using g2
variable {P:Program} {e:ii} {A:AH} {x y z:Operand} {t kt et:TypeId} {ty:TypeId} {ps:String} {af:Array Edge} {dst:Option Nat} {Q:Value->AH->Prop} {Kp:List PanicEntry->AH->Prop} {g:Option (Nat × Bool)} {m clock:Nat} {es:Array MapEntry} {E:List (α × Value)} {k:α} {v zv:Value} {rw:Bool}
theorem rh (K:sW kd enc) (hx:cd e x=some (.map (some m))) (hy:cd e y=some (enc k)) (hu:P.underlying t=some (.map kt et)) (hk:P.underlying kt=some kd) (hz:cE P et=some zv) (hg:A.get m=some (.obj rw (.map es clock))) (hE:dF enc es E)
    (h:Q ((lk E k).getD zv) A):kY P e A { dst:=dst,op:=.lookup t x y false,type:=ty,pos:=ps,after:=af,guard:=g } Q Kp:=by
  rcases uH K k es.toList E 0 hE with ⟨i,v,g1,g2,_⟩ | ⟨g1,g2,_⟩
  · rw [g2] at h;exact ⟨_,_,hx,hy,kt,et,kd,zv,es,_,hu,hk,K.basic,hz,.inr ⟨m,rw,clock,Z,hg⟩,g1,h⟩
  · rw [g2] at h;exact ⟨_,_,hx,hy,kt,et,kd,zv,es,_,hu,hk,K.basic,hz,.inr ⟨m,rw,clock,Z,hg⟩,g1,h⟩
theorem yf (K:sW kd enc) (hx:cd e x=some (.map (some m))) (hy:cd e y=some (enc k)) (hu:P.underlying t=some (.map kt et)) (hk:P.underlying kt=some kd) (hz:cE P et=some zv) (hg:A.get m=some (.obj rw (.map es clock))) (hE:dF enc es E)
    (h1:∀ v,lk E k=some v->Q (.tuple #[v,.bool true]) A) (h2:lk E k=none->Q (.tuple #[zv,.bool false]) A):kY P e A { dst:=dst,op:=.lookup t x y true,type:=ty,pos:=ps,after:=af,guard:=g } Q Kp:=by
  rcases uH K k es.toList E 0 hE with ⟨i,v,g1,g2,_⟩ | ⟨g1,g2,_⟩
  · exact ⟨_,_,hx,hy,kt,et,kd,zv,es,_,hu,hk,K.basic,hz,.inr ⟨m,rw,clock,Z,hg⟩,g1,h1 v g2⟩
  · exact ⟨_,_,hx,hy,kt,et,kd,zv,es,_,hu,hk,K.basic,hz,.inr ⟨m,rw,clock,Z,hg⟩,g1,h2 g2⟩
theorem dF.push (h:dF enc es E) (k:α) (v:Value) (c:Nat):dF enc (es.push { key:=enc k,val:=v,born:=c }) (E ++ [(k,v)]):=by
  have h':es.toList.map (fun x=>(x.key,x.val))=_:=h
  simp only [dF,Array.toList_push,VV,Tz,Qv,h']
theorem Ig {β γ:Type} {f:β->γ} {l:List β} {i:Nat} {F:β->β} {G:List γ} (h:l.map f=G):(l.modify i F).map f=match l[i]? with | some x=>G.set i (f (F x)) | none=>G:=by
  subst h
  apply List.ext_getElem?
  intro j
  cases q:l[i]? with
  | none =>
    have hi:l.length<=i:=by simpa using q
    simp only [List.getElem?_map,List.getElem?_modify]
    by_cases e:i=j
    · subst e;simp [q]
    · simp [e]
  | some x =>
    have hi:i < l.length:=(Rx.1 q).1
    simp only [List.getElem?_map,List.getElem?_modify,List.getElem?_set,Tq]
    by_cases e:i=j
    · subst e
      have hx:=(Rx.1 q).2
      simp [hi,hx]
    · simp [e]
theorem XG {k:α} {v:Value}:∀ {E:List (α × Value)} {i:Nat},(E.map (·.1))[i]? = some k->(E.map (·.1)).Nodup->(E.map fun p=>(enc p.1,p.2)).set i (enc k,v)=(E.map fun p=>if p.1=k then (p.1,v) else p).map fun p=>(enc p.1,p.2):=by
  intro E
  induction E with
  | nil=>intro i h;simp at h
  | cons p E ih =>
    intro i h hn
    cases i with
    | zero =>
      simp only [Tz,List.getElem?_cons_zero,Option.some.injEq] at h
      subst h
      simp only [Tz,List.set_cons_zero,if_true]
      congr 1
      rw [List.map_map]
      apply Qk
      intro q hq
      have:¬ q.1=p.1:=fun e=>(List.nodup_cons.1 hn).1 (by show p.1 ∈ _;rw [<- e];exact List.mem_map_of_mem hq)
      simp [this]
    | succ i =>
      simp only [Tz,List.getElem?_cons_succ] at h
      have hp:¬ p.1=k:=fun e=>(List.nodup_cons.1 hn).1 (by show p.1 ∈ _;rw [e];exact List.mem_of_getElem? h)
      simp only [Tz,List.set_cons_succ,Xy hp]
      congr 1
      exact ih h (List.nodup_cons.1 hn).2
theorem pN (K:sW kd enc) (wf:A.wf) (hx:cd e x=some (.map (some m))) (hy:cd e y=some (enc k)) (hz:cd e z=some v) (hu:P.underlying t=some (.map kt et)) (hk:P.underlying kt=some kd) (hg:A.get m=some (.obj true (.map es clock))) (hE:dF enc es E) (hn:(E.map (·.1)).Nodup)
    (h:∀ A1 es1 ck,s7 A A1 m (.obj true (.map es1 ck))->dF enc es1 (zY E k v)->Q undef A1):kY P e A { dst:=dst,op:=.mapUpdate t x y z,type:=ty,pos:=ps,after:=af,guard:=g } Q Kp:=by
  rcases uH K k es.toList E 0 hE with ⟨i,u,g1,g2,g3,g4,⟨w,g5,V⟩,g6⟩ | ⟨g1,g2,g3⟩
  · refine ⟨_,_,_,hx,hy,hz,kt,et,kd,m,es,clock,_,hu,hk,K.basic,Z,hg,g1,⟨w,by simpa using g5,by rw [V];exact K.bits k⟩,h _ _ _ (TG wf hg _) ?_⟩
    have hm:k ∈ E.map (·.1):=List.mem_of_getElem? g4
    show (es.modify (0 + i) _).toList.map _=_
    rw [Sq,Array.toList_modify,Ig (show es.toList.map (fun x=>(x.key,x.val))=_ from hE),g5,zY,Xw hm]
    exact XG g4 hn
  · refine ⟨_,_,_,hx,hy,hz,kt,et,kd,m,es,clock,_,hu,hk,K.basic,Z,hg,g1,h _ _ _ (TG wf hg _) ?_⟩
    rw [zY,Xy g3];exact hE.push k v clock
theorem Bz {E:List (α × Value)} {k:α}:lk E k=none ↔ k ∉ E.map (·.1):=by
  simp only [lk,Option.map_eq_none_iff,Qq,Vq,Vk,not_exists,not_and]
theorem wo {E:List (α × Value)} {k:α} {v:Value} (h:k ∉ E.map (·.1)):zY E k v=E ++ [(k,v)]:=Xy h
theorem Ue {E:List (α × Value)} {k:α} {v:Value}:(zY E k v).map (·.1)=if k ∈ E.map (·.1) then E.map (·.1) else E.map (·.1) ++ [k]:=by
  unfold zY
  split
  · rw [List.map_map]
    apply Qk
    intro p _
    simp only [Function.comp];split <;> rfl
  · simp
theorem NP {E:List (α × Value)} {k:α} {v:Value} (h:(E.map (·.1)).Nodup):((zY E k v).map (·.1)).Nodup:=by
  rw [Ue]
  split
  · exact h
  · rename_i q;exact RX.2 ⟨h,by simp,by intro a ha b hb;simp at hb;subst hb;exact fun e=>q (e ▸ ha)⟩
theorem Zh (k j:α) (v:Value):∀ E:List (α × Value),lk (E.map fun p=>if p.1=k then (p.1,v) else p) j=if j=k/\k ∈ E.map (·.1) then some v else lk E j:=by
  intro E
  induction E with
  | nil=>simp [lk]
  | cons p E ih =>
    have hc:∀ (q:α × Value) (F:List (α × Value)),lk (q :: F) j=if q.1=j then some q.2 else lk F j:=fun q F=>by
      by_cases h:q.1=j <;> simp [lk,h]
    rw [Tz,hc,hc,ih]
    by_cases hp:p.1=k
    · by_cases hj:j=k
      · subst hj;simp [hp]
      · have h1:¬ k=j:=fun q=>hj q.symm
        simp [hp,hj,h1]
    · by_cases hj:j=k
      · subst hj;simp only [hp,if_false,true_and,Tz,Vy,show ¬ j=p.1 from fun q=>hp q.symm,false_or]
      · simp [hp,hj]
theorem Zj {E:List (α × Value)} {k j:α} {v:Value}:lk (zY E k v) j=if j=k then some v else lk E j:=by
  unfold zY
  split
  · rename_i hm
    rw [Zh]
    by_cases hj:j=k <;> simp [hj,hm]
  · rename_i hm
    simp only [lk,List.find?_append]
    by_cases hj:j=k
    · subst hj
      have:E.find? (fun p=>decide (p.1=j))=none:=by
        rw [Qq];intro p hp;simp only [Vq];exact fun q=>hm (by rw [<- q];exact List.mem_map_of_mem hp)
      simp [this]
    · have h2:¬ k=j:=fun q=>hj q.symm
      simp [hj,h2]
end
def qZ (L:List W8):List (W8 × Value):=L.map fun w=>(w,.bool true)
theorem xW (L:List W8):(qZ L).map (·.1)=L:=by simp [qZ,List.map_map,Function.comp_def]
theorem TL (L:List W8) (w:W8):(lk (qZ L) w).getD (.bool false)=.bool (decide (w ∈ L)):=by
  induction L with
  | nil=>rfl
  | cons x L ih =>
    simp only [qZ,Tz,lk,QQ] at ih ⊢
    by_cases h:x=w
    · subst h;simp
    · have h2:¬ w=x:=fun q=>h q.symm
      simp only [Xv h,Vy,h2,false_or];exact ih
theorem Ny {L:List W8} {w:W8} (h:w ∉ L):zY (qZ L) w (.bool true)=qZ (L ++ [w]):=by
  rw [wo (by rw [xW];exact h)];simp [qZ]
section
variable {P:Program} {e:ii} {A:AH} {x y z:Operand} {t kt et:TypeId} {ty:TypeId} {ps:String} {af:Array Edge} {dst:Option Nat} {Q:Value->AH->Prop} {Kp:List PanicEntry->AH->Prop} {g:Option (Nat × Bool)} {m clock:Nat} {es:Array MapEntry} {L:List W8} {w:W8} {v:Value} {rw:Bool}
theorem Jg (hx:cd e x=some (.map (some m))) (hy:cd e y=some (aM w)) (hu:P.underlying t=some (.map kt et)) (hk:P.underlying kt=some .string) (hz:cE P et=some (.bool false)) (hg:A.get m=some (.obj rw (.map es clock))) (hE:dF aM es (qZ L))
    (h:Q (.bool (decide (w ∈ L))) A):kY P e A { dst:=dst,op:=.lookup t x y false,type:=ty,pos:=ps,after:=af,guard:=g } Q Kp :=
  rh Bn hx hy hu hk hz hg hE (by rw [TL];exact h)
theorem Jk (wf:A.wf) (hx:cd e x=some (.map (some m))) (hy:cd e y=some (aM w)) (hz:cd e z=some (.bool true)) (hu:P.underlying t=some (.map kt et)) (hk:P.underlying kt=some .string) (hg:A.get m=some (.obj true (.map es clock))) (hE:dF aM es (qZ L)) (hL:L.Nodup) (hn:w ∉ L)
    (h:∀ A1 V ck,s7 A A1 m (.obj true (.map V ck))->dF aM V (qZ (L ++ [w]))->Q undef A1):kY P e A { dst:=dst,op:=.mapUpdate t x y z,type:=ty,pos:=ps,after:=af,guard:=g } Q Kp :=
  pN Bn wf hx hy hz hu hk hg hE (by rw [xW];exact hL) fun A1 V ck h1 h2=>h A1 V ck h1 (by rw [Ny hn] at h2;exact h2)
end
theorem ca.ext3 {a b:ca} (h1:a.conj=b.conj) (h2:a.rel=b.rel) (h3:a.inv=b.inv):a=b:=by cases a;cases b;simp_all
instance:DecidableEq ca:=fun a b=>decidable_of_iff (a.conj=b.conj/\a.rel=b.rel/\a.inv=b.inv) ⟨fun h=>ca.ext3 h.1 h.2.1 h.2.2,fun h=>h ▸ ⟨rfl,rfl,rfl⟩⟩
theorem YO {P:Program} {t ts ti tb:TypeId} {k:IntKind} {f0 f1 f2:Field} (hu:P.underlying t=some (.struct #[f0,f1,f2])) (hg:(P.stoodInHeld t || P.eqGuardType P.depth t)=false) (h0:f0.type=ts/\f0.offset=0/\f0.name ≠ "_") (h1:f1.type=ti/\f1.offset=1/\f1.name ≠ "_") (h2:f2.type=tb/\f2.offset=2/\f2.name ≠ "_")
    (a9:dM P ts=some false) (ai:dM P ti=some false) (ab:dM P tb=some false) (us:P.underlying ts=some .string) (ui:P.underlying ti=some (.int k)) (ub:P.underlying tb=some .bool) (a b:ca) :
    CN P t (.agg #[aM a.conj,num a.rel,.bool a.inv]) (.agg #[aM b.conj,num b.rel,.bool b.inv])=some (decide (a=b)):=by
  obtain ⟨a1,a2,a3⟩:=h0;obtain ⟨b1,b2,b3⟩:=h1;obtain ⟨c1,c2,c3⟩:=h2
  rw [Bool.or_eq_false_iff] at hg
  simp only [CN,hu,hg.1,hg.2,RV,or_self,if_false,PB,a1,a2,a3,b1,b2,b3,c1,c2,c3,qJ,a9,ai,ab,eqB,us,ui,ub,Ao,if_true,ne_eq]
  have hd:decide (a=b)=(decide (a.conj=b.conj) && (decide (a.rel=b.rel) && (a.inv == b.inv))):=by
    rw [Rz];simp only [Vq,XK,Qy]
    exact ⟨fun h=>h ▸ ⟨rfl,rfl,rfl⟩,fun h=>ca.ext3 h.1 h.2.1 h.2.2⟩
  rw [hd]
  by_cases q1:a.conj=b.conj <;> by_cases q2:a.rel=b.rel <;> cases h3:a.inv <;> cases h4:b.inv <;> simp [q1,q2,Ao]
theorem ro {α:Type} {l m:List α} {d:α} {i:Nat} (hl:l.length=m.length) (hi:l.length<=i) (h:∀ j,j < i->l.getD j d=m.getD j d):l=m:=by
  refine List.ext_getElem hl fun j h1 h2=>?_
  have:=h j O
  simpa [h1,h2] using this
theorem JG {α:Type} {l m:List α} {d:α} {i:Nat} (h:¬ l.getD i d=m.getD i d):l ≠ m:=fun e=>h (by rw [e])
def mO (pf:Bool) (r:aQ):W8 × W8 × List ca:=(r.left,r.right,if pf then r.proof else [])
def jf (pf:Bool) (rs ss:List aQ):Bool:=decide (rs.map (mO pf)=ss.map (mO pf))
theorem tA {β:Type} {f:aQ->β} {rs:List aQ} {i:Nat} (hi:i < rs.length):(rs.map f).getD i (f .zero)=f (rs.getD i .zero):=by simp [hi]
theorem Nr {pf:Bool} {rs ss:List aQ} (h:¬ rs.length=ss.length):jf pf rs ss=false:=by
  rw [jf,VK];intro q;have:=Xk List.length q;simp at this;exact h this
theorem TC {pf:Bool} {rs ss:List aQ} {i:Nat} (hl:rs.length=ss.length) (hi:i < rs.length) (h:¬ mO pf (rs.getD i .zero)=mO pf (ss.getD i .zero)):jf pf rs ss=false:=by
  rw [jf,VK];intro q
  have:=Xk (fun l=>l.getD i (mO pf .zero)) q
  simp only [tA hi,tA (show i < ss.length by omega)] at this
  exact h this
theorem Ns {pf:Bool} {rs ss:List aQ} {i:Nat} (hl:rs.length=ss.length) (hi:rs.length<=i) (h:∀ j,j < i->mO pf (rs.getD j .zero)=mO pf (ss.getD j .zero)):jf pf rs ss=true:=by
  rw [jf,Sk]
  refine ro (d:=mO pf .zero) (i:=i) (by simpa using hl) (by simpa using hi) fun j hj=>?_
  by_cases q:j < rs.length
  · rw [tA q,tA O];exact h j hj
  · simp [q,show ¬ j < ss.length by omega]
section
variable {g:Int} {l:List W8} {rs:List aQ} {r:aQ} {i:Nat} {w:W8}
theorem lr {A:AH} {n:Nat} {a b:W8} {v:Value} {xs:List Value} (h:bz A n v xs):qi [aM a,aM b,v]=true:=by
  obtain ⟨p,k,c,rfl,_⟩:=h;rfl
def wH (g:Int) (w:W8):Bool:=decide (w=[]) || decide (200 < w.length) || !decide (bZ g w=0) || !decide (c8 w=w)
theorem MA (hg:¬ (g < 1\/8 < g)) (hl:¬ 60 < l.length) (h:¬ 0<=Dy (wH g) l):dH g l=0:=by
  rw [vW,Bool.not_eq_true,List.any_eq_false] at h
  refine sH (i:=l.length) hg hl (XX _) fun j hj=>?_
  have:=h _ (aX (d:=[]) hj)
  simp only [wH,Bool.or_eq_true,Vq,Bool.not_eq_true',VK,not_or,Decidable.not_not] at this
  obtain ⟨⟨⟨h1,h2⟩,h3⟩,h4⟩:=this
  exact ⟨by omega,KH h1 (fun q=>q h3) O (fun q=>q h4)⟩
theorem Ru (hg:¬ (g < 1\/8 < g)) (h:0<=Dy (wH g) l):¬ dH g l=0:=by
  rw [vW,List.any_eq_true] at h
  obtain ⟨x,hx,hb⟩:=h
  intro q
  have h2:=(dq q).2.2 x hx
  obtain ⟨g1,g2,g3⟩:=vm h2.2
  have:c8 x=x:=by rw [yc (Qc O g2),g3]
  simp only [wH,g1,g2,this,decide_false,decide_true,Bool.not_true,Bool.or_false,Bool.false_or,Vq] at hb
  omega
theorem BZ (h:g < 1):¬ dH g l=0:=fun q=>by have:=(dq q).1;omega
theorem Ca (h:8 < g):¬ dH g l=0:=fun q=>by have:=(dq q).1;omega
theorem BX (h:60 < l.length):¬ dH g l=0:=fun q=>by have:=(dq q).2.1;omega
theorem lH (h:jU g w=true):w.length<=1000:=by simp only [jU,Vq] at h;exact h.1
theorem FF (h:jU g w=true):bZ g w=0:=by simp only [jU,Vq] at h;exact h.2.1
theorem D7 {b:Bool} (h:(!b)=false):b=true:=by simpa using h
theorem notT {b:Bool} (h:(!b)=true):b=false:=by simpa using h
def gU (g:Int) (l:List W8) (r:aQ):Bool:=jU g r.left && jU g r.right && decide (eu r.right r.left < 0) && decide (ka g l r.proof (r.left ++ gh r.right)=0)
def i8 (rs:List aQ):List W8:=rs.map (·.left)
def bN (g:Int) (l:List W8) (rs:List aQ):Bool:=decide (dH g l=0) && decide (rs.length<=2000) && rs.all (gU g l) && decide (i8 rs).Nodup
theorem ly (h:(!jU g r.left)=true):gU g l r=false:=by simp [gU,notT h]
theorem lz (h:(!jU g r.right)=true):gU g l r=false:=by simp [gU,notT h]
theorem lD (h:0<=eu r.right r.left):gU g l r=false:=by simp [gU,show ¬ eu r.right r.left < 0 by omega]
theorem lG (h:¬ ka g l r.proof (r.left ++ gh r.right)=0):gU g l r=false:=by simp [gU,h]
theorem EU (h1:(!jU g r.left)=false) (h2:(!jU g r.right)=false) (h3:¬ 0<=eu r.right r.left) (h4:¬ ¬ ka g l r.proof (r.left ++ gh r.right)=0):gU g l r=true:=by
  simp [gU,D7 h1,D7 h2,show eu r.right r.left < 0 by omega,Decidable.not_not.1 h4]
theorem jN (h:gU g l r=true):jU g r.left=true/\jU g r.right=true/\eu r.right r.left < 0/\ka g l r.proof (r.left ++ gh r.right)=0:=by
  simp only [gU,XK,Vq] at h;exact ⟨h.1.1.1,h.1.1.2,h.1.2,h.2⟩
theorem Kr (h:¬ dH g l=0):bN g l rs=false:=by simp [bN,h]
theorem Ks (h:2000 < rs.length):bN g l rs=false:=by simp [bN,show ¬ rs.length<=2000 by omega]
theorem nz (hi:i < rs.length) (h:gU g l (rs.getD i .zero)=false):bN g l rs=false:=by
  have:rs.all (gU g l)=false:=List.all_eq_false.2 ⟨_,aX (d:=.zero) hi,by rw [h];decide⟩
  simp [bN,this]
theorem Ku (hi:i < rs.length) (h:(rs.getD i .zero).left ∈ i8 (rs.take i)):bN g l rs=false:=by
  have:¬ (i8 rs).Nodup:=fun q=>by
    have e:rs.getD i .zero=rs[i]:=by simp [hi]
    have h2:rs=rs.take i ++ rs.drop i:=(Rq i rs).symm
    rw [i8,h2,VV,Tv hi] at q
    exact (RX.1 q).2.2 _ h _ (VX) (by rw [e])
  simp [bN,this]
theorem Kw (hp:¬ ¬ dH g l=0) (hn:¬ 2000 < rs.length) (hi:rs.length<=i) (h:∀ j,j < i->gU g l (rs.getD j .zero)=true) (hd:(i8 (rs.take i)).Nodup):bN g l rs=true:=by
  have:rs.all (gU g l)=true:=Vx.2 fun r hr=>by
    obtain ⟨j,hj,rfl⟩:=VQ hr
    have:=h j O
    simpa [hj] using this
  rw [Vw hi] at hd
  simp [bN,this,Decidable.not_not.1 hp,show rs.length<=2000 by omega,hd]
theorem ke (h:bN g l rs=true):dH g l=0/\rs.length<=2000/\(∀ r ∈ rs,gU g l r=true)/\(i8 rs).Nodup:=by
  simp only [bN,XK,Vq,Vx] at h;exact ⟨h.1.1.1,h.1.1.2,h.1.2,h.2⟩
def Sml (l:List W8) (rs:List aQ):Prop:=l.length<=100000/\(∀ x ∈ l,x.length<=100000)/\rs.length<=100000/\∀ r ∈ rs,r.left.length<=100000/\r.right.length<=100000/\r.proof.length<=10000000/\dN r.proof<=100000000
def isRed (g:Int) (l:List W8) (rs:List aQ):Bool:=bN g l rs && rs.all fun r=>nS rs r.right && (nS rs (r.left.take (r.left.length - 1)) && nS rs (r.left.drop 1))
theorem Ly (h:bN g l rs=false):isRed g l rs=false:=by rw [isRed,h];rfl
theorem QE {r:aQ} (h:gU g l r=true):0 < r.left.length:=by
  have:=(jN h).2.2.1
  rcases Sz r.left.length with q | q
  · rw [TX.1 q] at this
    unfold eu at this
    split at this
    · simp only [nf,Xx] at this
      split at this
      · simp at this
      · rename_i q2
        have:r.right=[]:=TX.1 (by simpa using q2)
        rw [this] at *;simp [yy] at *
    · omega
  · exact q
theorem oL (h:bN g l rs=true) (hr:r ∈ rs):r.left.length<=1000/\r.right.length<=1000/\0 < r.left.length :=
  have q:=(ke h).2.2.1 r hr
  ⟨lH (jN q).1,lH (jN q).2.1,QE q⟩
theorem TR (h:(if bN g l rs then 0 else 100)=0):bN g l rs=true:=by
  split at h
  · assumption
  · cases h
theorem ZY (h:¬ (if bN g l rs then 0 else 100)=0):bN g l rs=false:=by
  split at h
  · exact absurd Z h
  · rename_i q;simpa using q
theorem U7 {d:List ca} {c:ca} (h:c ∈ d):c.conj.length<=dN d:=by
  induction d with
  | nil=>cases h
  | cons a d ih =>
    simp only [dN,Tz,List.sum_cons] at ih ⊢
    rcases Vy.1 h with rfl | h
    · omega
    · have:=ih h;omega
theorem xh (hi:i < rs.length):i8 (rs.take (i + 1))=i8 (rs.take i) ++ [(rs.getD i .zero).left]:=by
  have e:rs.getD i .zero=rs[i]:=by simp [hi]
  rw [i8,i8,List.take_succ_eq_append_getElem hi,VV,e];rfl
theorem xg (hi:i < rs.length) (hd:(i8 (rs.take i)).Nodup) (h:(rs.getD i .zero).left ∉ i8 (rs.take i)):(i8 (rs.take (i + 1))).Nodup:=by
  rw [xh hi]
  exact RX.2 ⟨hd,by simp,by intro a ha b hb;simp at hb;subst hb;exact fun q=>h (q ▸ ha)⟩
theorem QF {k:Nat} (hk:k < i) (hi:i<=rs.length) (h:(rs.getD k .zero).left=w):w ∈ i8 (rs.take i):=by
  rw [<- h,i8]
  refine List.mem_map_of_mem ?_
  have e:rs.getD k .zero=(rs.take i).getD k .zero:=by simp [SY hk]
  rw [e];exact aX Or
theorem LR {n:Nat} (hn:i<=n) (h:∀ k,k < n->(rs.getD k .zero).left ≠ w):w ∉ i8 (rs.take i):=fun q=>by
  obtain ⟨r,hr,e⟩:=Vk.1 q
  obtain ⟨k,hk,rfl⟩:=VQ hr
  have V:k < i/\k < rs.length:=by rw [Vz] at hk;omega
  have:=h k O
  rw [List.getElem_take] at e
  apply this;rw [<- e];simp [V.2]
end
end Go.Proofs.YtjppkekmddjcfaaGreatDoor

namespace Go.Proofs
open Go.Proofs.YtjppkekmddjcfaaGreatDoor
open Go.Shelf
def Tryz.containsS_ren:Go.Shelf.Ren:=⟨fun | 144=>101 | 143=>134 | 219=>177 | 217=>195 | 225=>196 | 224=>197 | 267=>198 | 266=>204 | 314=>205 | n=>n,fun | 9=>9 | 4=>4 | 3=>3 | 5=>5 | 46=>165 | 146=>237 | 51=>199 | n=>n,fun | 1=>1 | n=>n⟩
theorem Tryz.containsS:Go.Proofs.Lays.n144 prog Tryz.containsS_ren:={
  mixed:=by kernel_rfl
  f143:=func134.trans (Xk some Y)
  f144:=func101.trans (Xk some Y)
  f217:=func195.trans (Xk some Y)
  f219:=func177.trans (Xk some Y)
  f224:=func197.trans (Xk some Y)
  f225:=func196.trans (Xk some Y)
  f266:=func204.trans (Xk some Y)
  f267:=func198.trans (Xk some Y)
  f314:=func205.trans (Xk some Y)
  t3:=underlying3
  a3:=isAgg3
  z3:=sizeOf3
  v3:=zeroValue3
  t4:=underlying4
  a4:=isAgg4
  z4:=sizeOf4
  v4:=zeroValue4
  t5:=underlying5
  a5:=isAgg5
  z5:=sizeOf5
  v5:=zeroValue5
  t9:=underlying9
  a9:=isAgg9
  z9:=sizeOf9
  v9:=zeroValue9
  t46:=underlying165
  a46:=isAgg165
  z46:=sizeOf165
  v46:=zeroValue165
  t51:=underlying199
  a51:=isAgg199
  z51:=sizeOf199
  v51:=zeroValue199
  t146:=underlying237
  a146:=isAgg237
  z146:=sizeOf237
  v146:=zeroValue237
  g1:=by kernel_rfl }
end Go.Proofs

namespace Go.Proofs.YtjppkekmddjcfaaGreatDoor
open Go Go.RowKit V
def sX (A:AH):Prop:=∃ rw cap m,A.get 1=some (.row rw [num m] cap)
theorem sX.le {A B:AH} (h:sX A) (le:A.le B):sX B:=by obtain ⟨r,c,m,h⟩:=h;exact ⟨r,c,m,le.g h⟩
theorem Rc {a w:W8} {i:Nat} (hi:i + w.length<=a.length):Lib.occAt a w i=decide (Mh a w i):=by
  rw [Lib.occAt_iff_take a w i hi,Rz,Qy,Sk,Mh]
  have:(a.take (i + w.length)).drop i=(a.drop i).take w.length:=by rw [List.drop_take,show i + w.length - i=w.length by omega]
  rw [this];exact ⟨fun h=>⟨hi,h⟩,fun h=>h.2⟩
theorem AO {a w:W8}:0<=yZ a w 0 ↔ ∃ i,Mh a w i:=by
  unfold yZ
  split
  · rename_i i h
    have h2:=List.find?_some h
    simp only [XZ,true_and,Vq] at h2
    exact ⟨fun _=>⟨i,h2⟩,fun _=>by omega⟩
  · rename_i h
    refine ⟨fun q=>by omega,fun ⟨i,hi⟩=>?_⟩
    have:=Qq.1 h i (TY.2 (by have:=hi.1;omega))
    simp [hi] at this
theorem AJ (a w:W8):Lib.contains a w=decide (0<=yZ a w 0):=by
  rw [Lib.contains,Rz,Sk,Sk,AO]
  rcases Lib.index_spec a w with ⟨h1,h2⟩ | ⟨i,h1,h2,h3,_⟩
  · rw [h1]
    refine ⟨fun q=>by omega,fun ⟨i,hi⟩=>?_⟩
    have:=h2 i (by have:=hi.1;omega)
    rw [Rc hi.1,VK] at this
    exact absurd hi this
  · rw [h1]
    refine ⟨fun _=>?_,fun _=>by omega⟩
    rcases Lib.occAt_room h3 with q | q
    · exact ⟨i,by rw [Rc q] at h3;simpa using h3⟩
    · subst q;exact ⟨0,by simp [Mh]⟩
theorem Vo {rs:List aQ} {w:W8} (h:c8 w=w):nS rs w = !decide (0<=Dy (fun r:aQ=>decide (0<=yZ w r.left 0)) rs):=by
  have e:decide (0<=Dy (fun r:aQ=>decide (0<=yZ w r.left 0)) rs)=rs.any (fun r=>decide (0<=yZ w r.left 0)):=by
    rw [Rz,Sk,vW]
  rw [e,nS,Vv h,QX,List.not_any_eq_all_not]
  congr 1;funext r
  rw [<- decide_not];congr 1;rw [eq_iff_iff];omega
def qt (rs:List aQ) (r:aQ):Bool:=!nS rs r.right || !(nS rs (r.left.take (r.left.length - 1)) && nS rs (r.left.drop 1))
theorem Lx {g:Int} {l:List W8} {rs:List aQ} (h:bN g l rs=true):isRed g l rs = !decide (0<=Dy (qt rs) rs):=by
  have e:decide (0<=Dy (qt rs) rs)=rs.any (qt rs):=by
    rw [Rz,Sk,vW]
  rw [e,isRed,h,QX,List.not_any_eq_all_not]
  congr 1;funext r
  simp [qt]
theorem IM (a w:W8) (A:AH) (hM:sX A) (ha:a.length < 4294967281):bH prog 101 #[aM a,aM w] A (fun v A1=>v=.bool (decide (0<=yZ a w 0))/\A=A1):=by
  obtain ⟨rw,cap,m,hm⟩:=hM
  refine ⟨call101,fun W hW=>?_⟩
  refine (Any.strings_Contains Tryz.containsS (bs a) (bs w) m W (by rw [vR];exact ha) (hW.cell (a:=⟨1,0,none⟩) (by simp [AH.cell,hm]))).mono ?_
  rintro e w' ⟨rfl,rfl⟩
  exact ⟨A,hW,.refl _ _,_,Z,by rw [An,An,AJ],Z⟩
open Go.ChangeShapes Go.WideShapes Go.ChangeAt
set_option maxRecDepth 100000
theorem own:ownKnob prog.godebug=none:=by kernel_rfl
theorem JQ:laidOutB prog=true:=by kernel_rfl
theorem gTab:prog.globalNamed "cayley/word.letters" = some 0:=by kernel_rfl
theorem PM:(prog.globals[0]?).map (·.type)=some 172:=by kernel_rfl
theorem UW:prog.cellsOf 172=16:=by kernel_rfl
theorem YK:prog.cellsOf 5=1:=by kernel_rfl
theorem Au:prog.cellsOf 9=1:=by kernel_rfl
theorem OU:prog.cellsOf 3=1:=by kernel_rfl
theorem UR:prog.cellsOf 22=1:=by kernel_rfl
theorem Js:prog.cellsOf 24=2:=by kernel_rfl
theorem UT:prog.cellsOf 25=1:=by kernel_rfl
theorem UU:prog.cellsOf 27=3:=by kernel_rfl
theorem UV:prog.cellsOf 35=1:=by kernel_rfl
theorem Jt:prog.cellsOf 83=3:=by kernel_rfl
theorem pr {P:Program} {x:String × DataW Unit} {r:List (String × DataW Unit)} {w:World} (h:laidMet P (x :: r) w):laidMet P r w:=by
  obtain ⟨ps,⟨g,t,cs,fuel,p,q,_,_,_,_,hr,rfl⟩,hn,hc⟩:=h
  exact ⟨q,hr,(RX.1 hn).2.1,fun b off hm=>hc b off (List.mem_append_right _ hm)⟩
abbrev DN:List (String × DataW Unit):=[("math/bits.deBruijn32tab",Rows.laid_math_bits_deBruijn32tab),("math/bits.deBruijn64tab",Rows.laid_math_bits_deBruijn64tab),("internal/strconv.uint64pow10",Rows.laid_internal_strconv_uint64pow10),("cayley/word.letters",Rows.laid_cayley_word_letters)]
theorem table {W:World} (h:laidMetH prog DN W):Lib.TabIs prog W "cayley/word.letters" .u8 (bq.map fun c=>(c.toNat:Int)):=by
  have h0:laidMet prog DN W:=h
  exact Lib.tabIs_of_head (rest:=[]) gTab PM underlying172 underlying5 YK UW (pr (pr (pr h0)))
def AH.ofWorld (W:World):AH:=⟨W.heap.size,fun b=>match W.heap[b]? with
  | some (.cells cs _ _)=>some (.row false cs.toList cs.size)
  | some o=>some (.obj false o)
  | none=>none⟩
theorem Jc (W:World):cw (AH.ofWorld W) W:=by
  refine ⟨rfl,fun b o h=>?_⟩
  simp only [AH.ofWorld] at h
  split at h
  · rename_i cs e fr hb
    cases h
    exact ⟨cs,e,fr,hb,by simp,XX _,fun i hi=>by simp,fun q=>by cases q⟩
  · rename_i x hx hb
    cases h
    exact ⟨hb,fun c e f q=>hx c e f q⟩
  · cases h
theorem Sl (W:World) (b:Nat):(AH.ofWorld W).rw b=false:=by
  unfold AH.rw AH.ofWorld
  simp only
  split
  · rename_i o ho
    split at ho <;> first | (cases ho;rfl) | cases ho
  · rfl
theorem CZ {W w':World} {A':AH} (h:fz (AH.ofWorld W) W A' w'):Below W.heap.size W w' :=
  ⟨h.os,h.tape,h.output.1,h.size,fun k hk=>h.kept k hk (Sl W k)⟩
theorem Ic {W:World} (h:Lib.TabIs prog W "cayley/word.letters" .u8 (bq.map fun c=>(c.toNat:Int))):iB (AH.ofWorld W):=by
  unfold Lib.TabIs World.var? at h
  rw [gTab] at h
  simp only [Sy] at h
  split at h
  · rename_i cs e fr hb
    refine ⟨false,cs.size,?_⟩
    have:cs.toList=aw bq:=by
      have:=Xk (Option.map Array.toList) h
      simp only [Rw,Option.some.injEq] at this
      rw [this]
      simp [aw]
    simp only [AH.ofWorld,hb,this]
  · cases h
theorem ud (s:ByteArray):Value.string s=aM s.data.toList:=by
  show Value.string s=Value.string ⟨s.data.toList.toArray⟩
  rw [Array.toArray_toList]
theorem GB {k:FuncId} {args:List Value} {W:World} (h:bH prog k args.toArray (AH.ofWorld W) fun v A1=>v=.bool true/\(AH.ofWorld W).le A1/\A1.wf) :
    Calls prog k args.toArray W fun e w'=>e=.returned (.bool true)/\Below W.heap.size W w':=by
  refine (h.2 W (Jc W)).mono ?_
  rintro e w' ⟨A',_,hs,v,rfl,rfl,_⟩
  exact ⟨Z,CZ hs⟩
theorem Ju:prog.cellsOf 85=3:=by kernel_rfl
theorem YJ:prog.cellsOf 4=1:=by kernel_rfl
theorem vn {α:Type} {Q:Nat->α->Prop}:∀ n:Nat,(∀ i,i < n->∃ z,Q i z)->∃ zs:List α,zs.length=n/\∀ i z,zs[i]? = some z->Q i z
  | 0,_=>⟨[],rfl,fun i z h=>by simp at h⟩
  | n + 1,h=>by
    obtain ⟨zs,h1,h2⟩:=vn n fun i hi=>h i O
    obtain ⟨z,hz⟩:=h n O
    refine ⟨zs ++ [z],by simp [h1],fun i y hy=>?_⟩
    by_cases q:i < n
    · exact h2 i y (by rwa [Sx O] at hy)
    · rw [TV O] at hy
      have:i - zs.length=0:=by
        have:=(Rx.1 hy).1
        simp at this;omega
      rw [this] at hy
      have e:i=n:=by omega
      have:z=y:=by simpa using hy
      rw [e,<- this];exact hz
theorem Dr {α:Type} {f:α->List Value} {k:Nat} (hf:∀ z,(f z).length=k):∀ (zs:List α) (i j:Nat) (z:α),zs[i]? = some z->j < k->(zs.flatMap f)[i * k + j]? = (f z)[j]?
  | [],i,j,z,h,_=>by simp at h
  | a :: zs,0,j,z,h,hj=>by
    have:a=z:=by simpa using h
    subst this
    rw [Nat.zero_mul,Sq,Sj,Sx (by rw [hf];exact hj)]
  | a :: zs,i + 1,j,z,h,hj=>by
    have:=Dr hf zs i j z (by simpa using h) hj
    rw [Sj,TV (by rw [hf,Rk];omega),hf,<- this]
    congr 1;rw [Rk];omega
theorem Dt {α:Type} {f:α->List Value} {k:Nat} (hf:∀ z,(f z).length=k) (zs:List α):(zs.flatMap f).length=zs.length * k:=by
  induction zs with
  | nil=>simp
  | cons a zs ih=>rw [Sj,Xz,ih,hf,Xq,Rk];omega
theorem KG (a:Addr) (n:Nat):(a.add n).block=a.block:=by unfold Addr.add;split <;> rfl
theorem UJ (a:Addr) (m n:Nat):(a.add m).add n=a.add (m + n):=by
  by_cases hm:m=0
  · subst hm;simp [Addr.add]
  · by_cases hn:n=0
    · subst hn;simp [Addr.add]
    · have:¬ m + n=0:=by omega
      simp [Addr.add,hm,hn,this,Nat.add_assoc]
theorem rA {P:Program} {α:Type} {H:Type} {enc:TypeId × Value->H} {W:World} {base:Nat} {sp:Nat->Bool} {held:Bool} {t e:TypeId} {fuel k:Nat} {cs:List Value} {x:DataW H × List MemPlace} (f:α->List Value) (p:α->Prop) (hf:∀ z,(f z).length=k) (h0:0 < k)
    (ht:P.underlying t=some (.slice e)) (hc:P.cellsOf e=k) (each:∀ (m:Nat) (c:List Value) (y:DataW H × List MemPlace),DataW.trod enc P W base sp held m e c=some y->∃ z,c=f z/\p z) (h:DataW.trod enc P W base sp held fuel t cs=some x) :
    ∃ (zs:List α) (v:Value),cs=[v]/\zs.length<=maxLen/\bz (AH.ofWorld W) k v (zs.flatMap f)/\∀ z ∈ zs,p z:=by
  rcases DataW.trod_slice ht h with ⟨rfl,_⟩ | ⟨a,len,cap,elems,rest,n,_,rfl,_,hb,hl,hm,hlen,hel,_,_⟩
  · exact ⟨[],_,Z,XZ _,⟨none,0,0,Z,by simp,XX _,.inl Z⟩,by simp⟩
  · have key:∀ i,i < len->∃ z,p z/\∀ j,j < k->W.cell? (a.add (i * k + j))=(f z)[j]?:=by
      intro i hi
      have hq:=hel i hi
      have hsome:∃ y,elems[i]? = some y:=⟨elems[i]'O,by simp [show i < elems.length by omega]⟩
      obtain ⟨y,hy⟩:=hsome
      rw [hy,Option.bind_eq_some_iff] at hq
      obtain ⟨c,V,a2⟩:=hq
      obtain ⟨z,rfl,hz⟩:=each n c y a2
      refine ⟨z,hz,fun j hj=>?_⟩
      unfold World.cells? at V
      rw [Xw (by rw [KG];exact hb)] at V
      have:=mapM_some_get V j j (by rw [hc];simp [hj])
      rw [hc] at this
      rw [<- this,UJ]
    obtain ⟨zs,a1,X⟩:=vn len key
    refine ⟨zs,_,rfl,by omega,⟨some a,len,cap,rfl,by rw [Dt hf,a1],hl,?_⟩,fun z hz=>?_⟩
    · by_cases hz:len=0
      · exact .inl hz
      · right
        obtain ⟨blk,off,spot⟩:=a
        obtain ⟨z0,a5⟩:∃ z,zs[0]? = some z:=⟨zs[0]'O,by simp [show 0 < zs.length by omega]⟩
        have a0:=(X 0 z0 a5).2 0 h0
        have a3:∃ v,(f z0)[0]? = some v:=⟨(f z0)[0]'(by rw [hf];exact h0),by simp [hf,h0]⟩
        obtain ⟨v0,a4⟩:=a3
        rw [a4] at a0
        have hspot:spot=none:=by simpa [Addr.add] using World.cell?_spot a0
        subst hspot
        have hcell:∀ i j,i < len->j < k->∃ z,zs[i]? = some z/\∃ cs e fr,W.heap[blk]? = some (.cells cs e fr)/\cs[off + (i * k + j)]? = (f z)[j]?:=fun i j hi hj=>by
          obtain ⟨z,hz⟩:∃ z,zs[i]? = some z:=⟨zs[i]'O,by simp [show i < zs.length by omega]⟩
          refine ⟨z,hz,?_⟩
          have:=(X i z hz).2 j hj
          have hv:(f z)[j]? = some ((f z)[j]'(by rw [hf];exact hj)):=by simp [hf,hj]
          rw [hv] at this ⊢
          rw [add_plain] at this
          simp only [World.cell?] at this
          split at this
          · rename_i cs e fr hb
            exact ⟨cs,e,fr,hb,by simpa using this⟩
          · cases this
        obtain ⟨_,_,cs,e',fr,hb,_⟩:=hcell 0 0 O h0
        refine ⟨blk,off,false,cs.toList,cs.size,Z,by simp [AH.ofWorld,hb],?_⟩
        apply List.ext_getElem?
        intro q
        by_cases hq:q < len * k
        · have hk:q / k < len:=Nat.div_lt_of_lt_mul (by rw [Nat.mul_comm];exact hq)
          have hr:q % k < k:=Nat.mod_lt _ h0
          have e1:q / k * k + q % k=q:=by rw [Nat.mul_comm];exact Nat.div_add_mod q k
          obtain ⟨z,hz,cs',e',fr',hb',h2⟩:=hcell (q / k) (q % k) hk hr
          rw [hb] at hb';cases hb'
          rw [e1] at h2
          have h3:=Dr hf zs (q / k) (q % k) z hz hr
          rw [e1] at h3
          rw [SY hq,RY,Array.getElem?_toList,h2,h3]
        · rw [RJ Or,RJ (by rw [Dt hf,a1];omega)]
    · obtain ⟨i,hi,rfl⟩:=VQ hz
      exact (X i _ (by simp [hi])).1
section
variable {H:Type} {enc:TypeId × Value->H} {W:World} {base:Nat} {sp:Nat->Bool} {held:Bool} {fuel:Nat} {x:DataW H × List MemPlace}
theorem FP {c:List Value} (h:c.length=3):∃ a b d,c=[a,b,d]:=by
  match c,h with
  | [a,b,d],_=>exact ⟨a,b,d,Z⟩
theorem Mn {c:List Value} (h:DataW.trod enc prog W base sp held fuel 85 c=some x):∃ z:ca,c=qy z/\z.conj.length<=9223372036854775807:=by
  obtain ⟨xs,n,_,_,hl,hx,hi⟩:=DataW.trod_struct underlying85 h
  rw [Ju] at hl
  obtain ⟨a,b,d,rfl⟩:=FP hl
  have some_at:∀ i,i < 3->∃ y,xs[i]? = some y:=fun i hi=>⟨xs[i]'(by rw [hx];exact hi),by simp [show i < xs.length by rw [hx];exact hi]⟩
  obtain ⟨y0,h0⟩:=some_at 0 U
  obtain ⟨y1,h1⟩:=some_at 1 U
  obtain ⟨y2,h2⟩:=some_at 2 U
  have g0:=hi 0 _ Z
  have g1:=hi 1 _ Z
  have g2:=hi 2 _ Z
  rw [h0] at g0
  rw [h1] at g1
  rw [h2] at g2
  obtain ⟨s,e0,_,hs⟩:=DataW.trod_string underlying9 g0
  obtain ⟨r,e1,_⟩:=DataW.trod_int underlying3 g1
  obtain ⟨v,e2,_⟩:=DataW.trod_bool underlying4 g2
  have e0:List.take (prog.cellsOf 9) (List.drop 0 [a,b,d])=_:=e0
  have e1:List.take (prog.cellsOf 3) (List.drop 1 [a,b,d])=_:=e1
  have e2:List.take (prog.cellsOf 4) (List.drop 2 [a,b,d])=_:=e2
  rw [Au] at e0;rw [OU] at e1;rw [YJ] at e2
  have f0:a=.string s:=by simpa using e0
  have f1:b=.int .i64 r:=by simpa using e1
  have f2:d=.bool v:=by simpa using e2
  refine ⟨⟨s.data.toList,r,v⟩,?_,?_⟩
  · rw [f0,f1,f2,ud];rfl
  · unfold maxLen at hs
    show s.data.toList.length<=_
    rw [Array.length_toList]
    exact Xj hs U
theorem Mo {c:List Value} (h:DataW.trod enc prog W base sp held fuel 83 c=some x):∃ z:aQ,c=rZ z/\bz (AH.ofWorld W) 3 z.pv (cN z.proof):=by
  obtain ⟨xs,n,_,_,hl,hx,hi⟩:=DataW.trod_struct underlying83 h
  rw [Jt] at hl
  obtain ⟨a,b,d,rfl⟩:=FP hl
  have some_at:∀ i,i < 3->∃ y,xs[i]? = some y:=fun i hi=>⟨xs[i]'(by rw [hx];exact hi),by simp [show i < xs.length by rw [hx];exact hi]⟩
  obtain ⟨y0,h0⟩:=some_at 0 U
  obtain ⟨y1,h1⟩:=some_at 1 U
  obtain ⟨y2,h2⟩:=some_at 2 U
  have g0:=hi 0 _ Z
  have g1:=hi 1 _ Z
  have g2:=hi 2 _ Z
  rw [h0] at g0
  rw [h1] at g1
  rw [h2] at g2
  obtain ⟨s,e0,_,_⟩:=DataW.trod_string underlying9 g0
  obtain ⟨r,e1,_,_⟩:=DataW.trod_string underlying9 g1
  obtain ⟨zs,v,e2,_,hs,_⟩:=rA qy (fun z=>z.conj.length<=9223372036854775807) (fun _=>rfl) U underlying35 Ju (fun _ _ _ h=>Mn h) g2
  have e0:List.take (prog.cellsOf 9) (List.drop 0 [a,b,d])=_:=e0
  have e1:List.take (prog.cellsOf 9) (List.drop 1 [a,b,d])=_:=e1
  have e2:List.take (prog.cellsOf 35) (List.drop 2 [a,b,d])=_:=e2
  rw [Au] at e0 e1;rw [UV] at e2
  have f0:a=.string s:=by simpa using e0
  have f1:b=.string r:=by simpa using e1
  have f2:d=v:=by simpa using e2
  refine ⟨⟨s.data.toList,r.data.toList,v,zs⟩,?_,hs⟩
  rw [f0,f1,f2,ud,ud];rfl
theorem zu {c:List Value} (h:DataW.trod enc prog W base sp held fuel 9 c=some x):∃ z:W8,c=[aM z]/\z.length<=9223372036854775807:=by
  obtain ⟨s,e0,_,hs⟩:=DataW.trod_string underlying9 h
  refine ⟨s.data.toList,by rw [e0,ud],?_⟩
  unfold maxLen at hs
  rw [Array.length_toList]
  exact Xj hs U
theorem zU (l:List W8):l.flatMap (fun w=>[aM w])=dB l:=by
  induction l with
  | nil=>rfl
  | cons a l ih=>rw [Sj,ih];rfl
theorem Iq {c:List Value} (h:DataW.trod enc prog W base sp held fuel 22 c=some x):∃ (l:List W8) (u:Value),c=[u]/\l.length<=9223372036854775807/\bz (AH.ofWorld W) 1 u (dB l):=by
  obtain ⟨zs,v,e,hl,hs,_⟩:=rA (fun w:W8=>[aM w]) (fun z=>z.length<=9223372036854775807) (fun _=>rfl) U underlying22 Au (fun _ _ _ h=>zu h) h
  rw [zU] at hs
  unfold maxLen at hl
  exact ⟨zs,v,e,Xj hl U,hs⟩
theorem Ip {c:List Value} (h:DataW.trod enc prog W base sp held fuel 25 c=some x):∃ (l:List aQ) (u:Value),c=[u]/\l.length<=9223372036854775807/\bz (AH.ofWorld W) 3 u (dh l)/\Proofs (AH.ofWorld W) l:=by
  obtain ⟨zs,v,e,hl,hs,hp⟩:=rA rZ (fun z=>bz (AH.ofWorld W) 3 z.pv (cN z.proof)) (fun _=>rfl) U underlying25 Jt (fun _ _ _ h=>Mo h) h
  unfold maxLen at hl
  exact ⟨zs,v,e,Xj hl U,hs,hp⟩
end
theorem Re {b0:Nat} {H:Type} {enc:TypeId × Value->H} {W:World} {v:Value} {d:DataW H} {ps:List MemPlace} (hval:Value.okWide prog W .any b0 27 v) (hd:DataW.Trod enc prog W 0 (fun _=>true) true 27 v d ps) :
    ∃ (g:Int) (u:Value) (l:List W8) (rv:Value) (rs:List aQ),v=.agg #[.int .i64 g,u,rv]/\l.length<=9223372036854775807/\rs.length<=9223372036854775807/\bz (AH.ofWorld W) 1 u (dB l)/\bz (AH.ofWorld W) 3 rv (dh rs)/\Proofs (AH.ofWorld W) rs:=by
  obtain ⟨cs,rfl,hsz⟩:=okWide_struct underlying27 hval
  rw [UU] at hsz
  obtain ⟨a,b,c,rfl⟩:∃ a b c,cs = #[a,b,c]:=by
    rcases cs with ⟨l⟩
    match l,hsz with
    | [a,b,c],_=>exact ⟨a,b,c,Z⟩
  obtain ⟨fuel,hf⟩:=hd
  obtain ⟨y0,y1,n,_,_,g0,g1⟩:=trod_struct2 underlying27 hf
  obtain ⟨z0,z1,m,_,_,k0,k1⟩:=trod_struct2 underlying24 g0
  obtain ⟨g,e0,_⟩:=DataW.trod_int underlying3 k0
  obtain ⟨l,u,e1,h,a0⟩:=Iq k1
  obtain ⟨rs,rv,e2,V,a1,X⟩:=Ip g1
  have e0:List.take (prog.cellsOf 3) (List.drop 0 (List.take (prog.cellsOf 24) (List.drop 0 [a,b,c])))=_:=e0
  have e1:List.take (prog.cellsOf 22) (List.drop 1 (List.take (prog.cellsOf 24) (List.drop 0 [a,b,c])))=_:=e1
  have e2:List.take (prog.cellsOf 25) (List.drop 2 [a,b,c])=_:=e2
  rw [Js,OU] at e0;rw [Js,UR] at e1;rw [UT] at e2
  have f0:a=.int .i64 g:=by simpa using e0
  have f1:b=u:=by simpa using e1
  have f2:c=rv:=by simpa using e2
  exact ⟨g,u,l,rv,rs,by rw [f0,f1,f2],h,V,a0,a1,X⟩
theorem L8 {W:World} (h:W.ShapedOpen prog):sX (AH.ofWorld W):=by
  have h0:((begin prog (fun _ _=>0) default).world.heap[1]?).bind Obj.row? = some (#[.int .i64 0],3):=by kernel_rfl
  obtain ⟨m,hm⟩:=cell_of_shapedOpen_int (g:=1) (t:=3) (zero:=#[.int .i64 0]) h (of_decide_eq_true Y) h0 Z Y Y underlying3
  obtain ⟨cs,hh,hs,_⟩:=h.1 1 #[.int .i64 0] 3 (of_decide_eq_true Y) h0
  obtain ⟨c,rfl⟩:∃ c,cs = #[c]:=by
    rcases cs with ⟨l⟩
    match l,hs with
    | [c],_=>exact ⟨c,Z⟩
  have hc:c=.int .i64 m:=by
    simp only [World.cell?,hh] at hm
    simpa using hm
  subst hc
  exact ⟨false,1,m,by simp [AH.ofWorld,hh]⟩
noncomputable def uV (os:Os):World :=
  let w:=World.holding prog os ⟨#[],#[],[]⟩
  { w with heap:=((((w.heap.modify 0 fun
      | .cells _ t frozen=>.cells (aw bq).toArray t frozen
      | o=>o).modify 2 fun
      | .cells _ t frozen=>.cells #[.int .u64 1,.int .u64 10,.int .u64 100,.int .u64 1000,.int .u64 10000,.int .u64 100000,.int .u64 1000000,.int .u64 10000000,.int .u64 100000000,.int .u64 1000000000,.int .u64 10000000000,.int .u64 100000000000,.int .u64 1000000000000,.int .u64 10000000000000,.int .u64 100000000000000,.int .u64 1000000000000000,.int .u64 10000000000000000,.int .u64 100000000000000000,.int .u64 1000000000000000000,.int .u64 10000000000000000000] t frozen
      | o=>o).modify 3 fun
      | .cells _ t frozen=>.cells (aw [0,1,28,2,29,14,24,3,30,22,20,15,25,17,4,8,31,27,13,23,21,19,16,7,26,12,18,6,11,5,10,9]).toArray t frozen
      | o=>o).modify 4 fun
      | .cells _ t frozen=>.cells (aw [0,1,56,2,57,49,28,3,61,58,42,50,38,29,17,4,62,47,59,36,45,43,51,22,53,39,33,30,24,18,12,5,63,55,48,27,60,41,37,16,46,35,44,21,52,32,23,11,54,26,40,15,34,20,31,10,25,14,19,9,13,8,7,6]).toArray t frozen
      | o=>o) }
theorem mixed:prog.follows .mixedOrders=true:=by kernel_rfl
theorem ag172:dM prog 172=some true:=by kernel_rfl
theorem dK:dM prog 3=some false:=by kernel_rfl
theorem OA:dM prog 5=some false:=by kernel_rfl
theorem gK:dM prog 9=some false:=by kernel_rfl
theorem vL:prog.info? 5=some Tryz.t5:=by kernel_rfl
theorem sz172:dy prog 172=some 16:=by kernel_rfl
theorem lQ:dy prog 5=some 1:=by kernel_rfl
theorem fK:dy prog 9=some 1:=by kernel_rfl
theorem db:type_of% @underlying102:=@underlying102
theorem u172:type_of% @underlying172:=@underlying172
theorem u21:type_of% @underlying21:=@underlying21
theorem ko:type_of% @underlying22:=@underlying22
theorem u4:type_of% @underlying4:=@underlying4
theorem u5:type_of% @underlying5:=@underlying5
theorem u9:type_of% @underlying9:=@underlying9
theorem z5:cE prog 5=some (.int .u8 0):=by kernel_rfl
theorem z9:cE prog 9=some (.string ⟨⟨[]⟩⟩):=by kernel_rfl
theorem Kj (c:UInt8) (A:AH):bH prog 175 #[dT (c)] A (fun v A1=>v=dT (c ^^^ 32)/\A=A1):=by
 refine aN (e:=[(0,dT (c))]) (args:=[dT (c)]) call175 func175 Z results175 ntmps175 Z Z Z (fun wf=>?_);have h:=AH.le.refl A;refine ak.sq fun h2=>.region<|.I Z<|.nil<|h2<|.sq fun h4=>.region<|.J Z<|.p (RH (d:=32) Z Z)<|.I Z ?_;refine Ops.nil<|h4<|.rt (by exact aH Z (⟨Z,Z⟩))
theorem tV (c:UInt8) (A:AH) (hL:iB A):bH prog 98 #[dT (c)] A (fun v A1=>v=num (ix c)/\A=A1):=by
 refine aN (e:=[(0,dT (c))]) (args:=[dT (c)]) call98 func98 Z results98 ntmps98 Z Z Z (fun wf=>?_);have a6:=AH.le.refl A;obtain ⟨rwL,capL,gL⟩:=hL;refine ak.sq fun h2=>.region<|.I Z<|.nil<|h2<|.sq fun h4=>.sq fun h6=>.region<|.p (ao ag172 sz172 Z Z (a6.g gL) Z)<|.J Z ?_;refine Ops.nil<|h6<|.block<|.loop (X:=Nat) (fun k=>[(0,dT (c)),(5,.agg #[dT (97),dT (65),dT (98),dT (66),dT (99),dT (67),dT (100),dT (68),dT (101),dT (69),dT (102),dT (70),dT (103),dT (71),dT (104),dT (72)]),(6,num ((k:Nat):Int))]) (fun k B=>(k<=16/\∀ j,j < k->bq.getD j 0 ≠ c)/\A=B) (fun k=>16 - k) 0 (jh Z Z Z) (⟨⟨by omega,fun j h=>by omega⟩,Z⟩) ?_;rintro k B8 ⟨⟨hk,hn⟩,rfl⟩;refine ak.sq fun V=>.region<|.p (bK (b:=16) Z Z)<|.nil<|V<|.sq fun a0=>.if rfl (fun a7=>?_) (fun a7=>?_)
 ·refine ak.skip<|a0<|.sq fun a1=>.block<|.sq fun a2=>.region<|.J Z<|.p (RD (l:=bq) u172 lQ OA Z Z O Z)<|.I Z<|.I Z ?_;refine Ops.nil<|a2<|.sq fun a3=>.region<|.J Z<|.J Z<|.p (zz Z Z)<|.nil<|a3<|.if rfl (fun a8=>?_) (fun a8=>?_)
  ·refine ak.sq fun a4=>.region<|.J Z<|.I Z<|.nil<|a4<|.rt (by exact aH Z (⟨by rw [Qg O hn Oz];rfl,Z⟩))
  refine ak.skip<|a1<|.region<|.p (bk (b:=1) Z Z O)<|.J Z<|.nil ?_;exact ⟨k + 1,jh Z Z Z,Z,⟨⟨by omega,fun j h=>(XV.1 h).elim (hn j) (fun q=>by subst q;assumption)⟩,Z⟩,O1⟩
 refine ak.exit<|h4<|.sq fun a5=>.region<|.I Z<|.nil<|a5<|.rt (by exact aH Z (⟨by rw [Vt (fun j h=>hn j O)];rfl,Z⟩))
theorem SU (r:Nat) (k:Int) (b cap:Nat) (rw:Bool) (A:AH) (hk:1<=k/\k<=8) (hL:iB A) (hb:A.get b=some (.row rw [num k] cap)):bH prog 97 #[.int .i32 ((r:Nat):Int),.pointer (some ⟨b,0,none⟩)] A (fun v A1=>v=.bool (decide (127 < r) || !je k (UInt8.ofNat r))/\A=A1):=by
 refine aN (e:=[(0,.int .i32 ((r:Nat):Int)),(1,.pointer (some ⟨b,0,none⟩))]) (args:=[.int .i32 ((r:Nat):Int),.pointer (some ⟨b,0,none⟩)]) call97 func97 Z results97 ntmps97 Z Z Z (fun wf=>?_);have h:=AH.le.refl A;refine ak.sq fun h2=>.region<|.I Z<|.nil<|h2<|.sq fun h4=>.drawn [0,1,2,3,4,5,6,7,8,9,10,12,13,11,14,15,16] mixed Y Y Z<|.p Z (aK Z)<|.p Z (ej (b:=127) Z Z)<|.p Z (aK Z) ?_;refine DOps.part (t:=6) Z (fun p5=>?_) (fun p5=>?_)
 ·refine DOps.qOff Z Z Z Z Z Z<|.qOff Z Z Z Z Z Z<|.lOff Z Z Z Z Z Z<|.qOff Z Z Z Z Z Z<|.p Z (aJ Z Z)<|.p Z (aK Z)<|.qOff Z Z Z Z Z Z<|.qOff Z Z Z Z Z Z<|.qOff Z Z Z Z Z Z<|.qOff Z Z Z Z Z Z ?_;refine DOps.lOff Z Z Z Z Z Z<|.qOff Z Z Z Z Z Z<|.p Z (aJ Z Z)<|.p Z (d7 Z)<|.done<|h4<|.rt (by exact aH Z (⟨by simp_all [je,fZ,dle,GO],Z⟩))
 refine DOps.qOn Z Z Z Z Z (aK Z)<|.qOn Z Z Z Z Z (Cd u21 u5 Z)<|.lOn Z Z Z Z Z (fun _ _ a0 _=>ax Z (tV (UInt8.ofNat (r)) A hL) ?_);rintro v7 A8 ⟨rfl,rfl⟩;refine a0 _ _ (bg.none Y)<|.qOn Z Z Z Z Z (iU Z Z)<|.p Z (aO Z Z)<|.p Z (aK Z)<|.part (t:=12) Z (fun a1=>?_) (fun a1=>?_)
 ·refine DOps.qOff Z Z Z Z Z Z<|.qOff Z Z Z Z Z Z<|.qOff Z Z Z Z Z Z<|.qOff Z Z Z Z Z Z<|.lOff Z Z Z Z Z Z<|.qOff Z Z Z Z Z Z<|.p Z (aJ Z Z)<|.p Z (d7 Z)<|.done<|h4 ?_;refine ak.ret ?_;repeat first | with_reducible refine cz ?_ | with_reducible refine cj ?_
  exact aH Z (⟨by simp_all [je,fZ,dle,GO],Z⟩)
 refine DOps.qOn Z Z Z Z Z (aK Z)<|.qOn Z Z Z Z Z (Cd u21 u5 Z) ?_;have V:=cR (off:=0) (h.g hb) (show _=some (num (k)) from rfl);refine DOps.qOn Z Z Z Z Z (ah dK Z Z (h.g hb) Z)<|.qOn Z Z Z Z Z (Wu Z Z O)<|.lOn Z Z Z Z Z (fun _ _ X _=>ax Z (tV (UInt8.ofNat (r)) A hL) ?_);rintro a2 A14 ⟨rfl,rfl⟩;refine X _ _ (bg.list (L:=[(⟨b,0,none⟩,num (k))]) Y (bf V bX))<|.qOn Z Z Z Z Z (lu Z Z)<|.p Z (aO Z Z)<|.p Z (d7 Z)<|.done<|h4<|.rt (by exact aH Z (⟨by simp_all [je,fZ,dle,GO],Z⟩))
theorem Fx (g:Nat) (caps:Array Value) (q:Nat->Bool) (hq:∀ r,128<=r->q r=true) (s:W8) (A:AH) (hs:s.length<=100000) (hf:∀ r B,A.le B->B.wf->bH prog g (#[] ++ #[.int .i32 ((r:Nat):Int)] ++ caps) B (fun v B1=>v=.bool (q r)/\B=B1)):bH prog 176 #[aM (s),.func (.func g) #[] caps,.bool (true)] A (fun v A1=>v=num (Uu q s)/\A.le A1/\A1.wf):=by
 refine aN (e:=[(0,aM (s)),(1,.func (.func g) #[] caps),(2,.bool (true))]) (args:=[aM (s),.func (.func g) #[] caps,.bool (true)]) call176 func176 Z results176 ntmps176 Z Z Z (fun wf=>?_);have ab:=AH.le.refl A;refine ak.sq fun h2=>.region<|.I Z<|.nil<|h2<|.sq fun h4=>.sq fun h6=>.region<|.J Z<|.m (fun aC=>Yh wf rfl u9 fun A9 b8 a4=>?_);have a5:=bh wf (Xj ab.n a4.lo);refine aC<|.nil<|h6<|.block<|.loop (X:=Nat) (fun k=>[(1,.func (.func g) #[] caps),(2,.bool (true)),(10,.pointer (some ⟨b8,0,none⟩))]) (fun k B=>(k<=s.length/\∀ j,j < k->q (s.getD j 0).toNat=false)/\A.le B/\B.get b8=some (.obj true (.stringIter (bs s) (k)))) (fun k=>s.length - k) 0 (jh Z Z Z) (⟨⟨by omega,fun j h=>by omega⟩,(ab.trans a4.le),a4.get⟩) ?_;rintro k B13 ⟨⟨hk,hn⟩,a1,a6⟩;refine ak.wf fun aa=>.sq fun a7=>.region<|.m (fun a0=>aab aa Z a6 (fun a9 A18 V=>?_) (fun a9=>?_))
 ·by_cases hc21:s.getD k 0 < 128
  ·rw [KY a9 hc21] at V ⊢;have a2:=an a1 wf a5 V.n V.keep;refine a0<|.p (bj Z Z)<|.nil<|a7<|.sq fun ag=>.cond_true Z<|.skip<|ag<|.block<|.sq fun ai=>?_;refine ak.region<|.p (bj Z Z)<|.p (bj Z Z)<|.I Z<|.I Z<|.nil<|ai<|.sq fun ap=>.region<|.J Z ?_;refine Ops.J Z<|.m (fun ac=>pY Z Z (hf ((s.getD k 0).toNat) A18 a2 V.wf) ?_);rintro aP A31 ⟨rfl,rfl⟩;refine ac<|.J Z<|.p (Yw u4 Z Z)<|.nil<|ap<|.ifB Z (fun aF=>?_) (fun aF=>?_)
   ·refine ak.sq fun ar=>.region<|.J Z<|.I Z<|.nil<|ar<|.rt (by exact aH Z (⟨by rw [zg Oz hn (by simpa using ‹(q _ == true)=true›)];rfl,a2,V.wf⟩))
   refine ak.skip ?_;exact ⟨k + 1,jh Z Z Z,Z,⟨(by exact ⟨by omega,fun j h=>(XV.1 h).elim (hn j) (fun z=>by subst z;simpa using ‹(q _ == true)=false›)⟩),a2,V.get⟩,O⟩
  have a8:=KX a9 hc21;have aD:=GK (bs s) k;have hqT:=hq _ a8;have a3:=an a1 wf a5 V.n V.keep;refine a0<|.p (bj Z Z)<|.nil<|a7<|.sq fun av=>.cond_true Z<|.skip<|av<|.block<|.sq fun ay=>?_;refine ak.region<|.p (bj Z Z)<|.p (bj Z Z)<|.I Z<|.I Z<|.nil<|ay<|.sq fun az=>.region<|.J Z ?_;refine Ops.J Z<|.m (fun ad=>pY Z Z (hf ((Utf8.decode (bs s) k).1) A18 a3 V.wf) ?_);rintro aR A45 ⟨rfl,rfl⟩;refine ad<|.J Z<|.p (Yw u4 Z Z)<|.nil<|az<|.ifB Z (fun aG=>?_) (fun aG=>?_)
  ·refine ak.sq fun aA=>.region<|.J Z<|.I Z<|.nil<|aA<|.rt (by exact aH Z (⟨by rw [zg Oz hn (by exact hq _ (u8_ge ‹_›))];rfl,a3,V.wf⟩))
  refine ak.skip ?_;exact ⟨k + (Utf8.decode (bs s) k).2,jh Z Z Z,Z,⟨(by (exfalso;simp_all)),a3,V.get⟩,(by (exfalso;simp_all))⟩
 refine a0<|.p (bj Z Z)<|.nil<|a7<|.sq fun aI=>.cond_false Z<|.exit<|h4<|.sq fun aB=>.region ?_;refine Ops.I Z<|.nil<|aB<|.rt (by exact aH Z (⟨by rw [PT (fun j h=>hn j O)];rfl,a1,aa⟩))
theorem Fb (g:Nat) (caps:Array Value) (q:Nat->Bool) (hq:∀ r,128<=r->q r=true) (s:W8) (A:AH) (hs:s.length<=100000) (hf:∀ r B,A.le B->B.wf->bH prog g (#[] ++ #[.int .i32 ((r:Nat):Int)] ++ caps) B (fun v B1=>v=.bool (q r)/\B=B1)):bH prog 132 #[aM (s),.func (.func g) #[] caps] A (fun v A1=>v=num (Uu q s)/\A.le A1/\A1.wf):=by
 refine aN (e:=[(0,aM (s)),(1,.func (.func g) #[] caps)]) (args:=[aM (s),.func (.func g) #[] caps]) call132 func132 Z results132 ntmps132 Z Z Z (fun wf=>?_);have h:=AH.le.refl A;refine ak.sq fun h2=>.region<|.I Z<|.nil<|h2<|.sq fun h4=>.region<|.J Z<|.J Z<|.m (fun a0=>ax Z (Fx g caps q hq s A hs (fun r B le wf=>hf r B (h.trans le) wf)) ?_);rintro v6 A7 ⟨rfl,V,X⟩;refine a0<|.I Z<|.nil<|h4<|.rt (by exact aH Z (⟨Z,(h.trans V),X⟩))
theorem xL (g:Nat) (caps:Array Value) (q:Nat->Bool) (hq:∀ r,128<=r->q r=true) (s:W8) (A:AH) (hs:s.length<=100000) (hf:∀ r B,A.le B->B.wf->bH prog g (#[] ++ #[.int .i32 ((r:Nat):Int)] ++ caps) B (fun v B1=>v=.bool (q r)/\B=B1)):bH prog 96 #[aM (s),.func (.func g) #[] caps] A (fun v A1=>v=.bool (decide (0<=Uu q s))/\A.le A1/\A1.wf):=by
 refine aN (e:=[(0,aM (s)),(1,.func (.func g) #[] caps)]) (args:=[aM (s),.func (.func g) #[] caps]) call96 func96 Z results96 ntmps96 Z Z Z (fun wf=>?_);have h:=AH.le.refl A;refine ak.sq fun h2=>.region<|.I Z<|.nil<|h2<|.sq fun h4=>.region<|.J Z<|.J Z<|.m (fun a0=>ax Z (Fb g caps q hq s A hs (fun r B le wf=>hf r B (h.trans le) wf)) ?_);rintro v6 A7 ⟨rfl,V,X⟩;refine a0<|.p (lu Z Z)<|.I Z<|.nil<|h4<|.rt (by exact aH Z (⟨Z,(h.trans V),X⟩))
theorem qX (k:Int) (w:W8) (A:AH) (hL:iB A):bH prog 47 #[num (k),aM (w)] A (fun v A1=>v=num ((bZ k w:Nat):Int)/\A.le A1/\A1.wf):=by
 refine aN (e:=[(0,num (k)),(1,aM (w))]) (args:=[num (k),aM (w)]) call47 func47 Z results47 ntmps47 Z Z Z (fun wf=>?_);have ad:=AH.le.refl A;refine ak.sq fun h2=>.region<|.m (fun ac=>dQ wf rfl rfl fun A5 b4 V=>?_);have X:=ad.trans V.le;refine ac<|.I Z<|.nil<|h2<|.sq fun h9=>.block<|.sq fun a3=>.region<|.p (ah dK Z Z V.get Z)<|.p (iU Z Z) ?_;refine Ops.J Z<|.part (t:=8) Z (fun ag=>?_) (fun ag=>?_)
 ·refine Ops.off Z Z Z Z<|.off Z Z Z Z<|.p (aJ Z Z)<|.I Z<|.nil<|a3<|.cond_true Z<|.sq fun a5=>.region<|.I Z ?_;refine Ops.nil<|a5<|.rt (by exact aH Z (⟨by (rw [bZ,Xw O];rfl),X,V.wf⟩))
 refine Ops.on Z Z<|.p (ah dK Z Z V.get Z)<|.on Z Z<|.p (EF Z Z)<|.p (aO Z Z)<|.I Z<|.nil<|a3<|.if rfl (fun ai=>?_) (fun ai=>?_)
 ·refine ak.sq fun a6=>.region<|.I Z<|.nil<|a6<|.rt (by exact aH Z (⟨by (rw [bZ,Xw O];rfl),X,V.wf⟩))
 refine ak.sq fun a7=>.region<|.J Z<|.p (cM u9 Z)<|.p (ej (b:=100000) Z Z)<|.I Z<|.nil<|a7<|.if rfl (fun ap=>?_) (fun ap=>?_)
 ·refine ak.sq fun a8=>.region<|.I Z<|.nil<|a8<|.rt (by exact aH Z (⟨by (rw [bZ,Xy O,Xw O];rfl),X,V.wf⟩))
 refine ak.sq fun a9=>.region<|.J Z<|.p (nu Z Z)<|.m (fun a4=>ax Z (xL 97 #[.pointer (some ⟨b4,0,none⟩)] (fun r=>decide (127 < r) || !je (k) (UInt8.ofNat r)) (fun r h=>by simp;omega) w A5 O (fun r B le wf=>SU r (k) b4 _ _ B O ((hL.le X).le le) (le.g V.get))) ?_);rintro av A27 ⟨rfl,a2,a0⟩;have a1:=X.trans a2;refine a4<|.I Z<|.nil<|a9<|.if rfl (fun ar=>?_) (fun ar=>?_)
 ·refine ak.sq fun aa=>.region<|.I Z<|.nil<|aa<|.rt (by exact aH Z (⟨by (rw [bZ,Xy O,Xy O,Xy (by rw [(vo k w).1 ‹_›];decide)];rfl),a1,a0⟩))
 refine ak.skip<|h9<|.sq fun ab=>.region<|.I Z<|.nil<|ab<|.rt (by exact aH Z (⟨by (rw [bZ,Xy O,Xy O,Xw (by have:=mt (vo k w).2 ‹_›;simpa using this)];rfl),a1,a0⟩))
theorem Xh (w:W8) (A:AH) (hL:iB A):bH prog 123 #[aM (w)] A (fun v A1=>v=.bool (rN w)/\A.le A1/\A1.wf):=by
 refine aN (e:=[(0,aM (w))]) (args:=[aM (w)]) call123 func123 Z results123 ntmps123 Z Z Z (fun wf=>?_);have a1:=AH.le.refl A;refine ak.sq fun h2=>.region<|.I Z<|.nil<|h2<|.sq fun h4=>.region<|.J Z<|.m (fun X=>ax Z (qX ((8:Nat):Int) w A hL) ?_);rintro v6 A7 ⟨rfl,h,V⟩;have a0:=a1.trans h;refine X<|.p (jM (b:=0) Z Z)<|.I Z<|.nil<|h4<|.rt (by exact aH Z (⟨by rw [<- F8];rfl,a0,V⟩))
theorem Nf (w:W8) (A:AH) (hw:w.length<=1000000):bH prog 131 #[aM (w)] A (fun v A1=>v=aM (inv w)/\A.le A1/\A1.wf):=by
 refine aN (e:=[(0,aM (w))]) (args:=[aM (w)]) call131 func131 Z results131 ntmps131 Z Z Z (fun wf=>?_);have a1:=AH.le.refl A;refine ak.sq fun h2=>.region<|.I Z<|.nil<|h2<|.sq fun h4=>.region<|.J Z<|.p (cM u9 Z)<|.m (fun ap=>jo (n:=w.length) (k:=w.length) wf a1 rfl rfl db lQ z5 vL rfl (XX _) (by show 1 * _<=_;omega) O fun A7 b6 a2 a8=>?_);have a4:=a2.get;rw [pQ] at a4 a8;refine ap<|.I Z<|.nil<|h4<|.sq fun a9=>.sq fun aa=>.region<|.J Z<|.p (cM u9 Z)<|.J Z ?_;refine Ops.nil<|aa<|.block<|.loop (X:=Nat) (fun k=>[(0,aM (w)),(3,.slice (some ⟨b6,0,none⟩) w.length w.length),(9,num ((w.length:Nat):Int)),(10,num ((k:Nat):Int))]) (fun k B=>(k<=w.length)/\A.le B/\B.get b6=some (.row true (aw (kI w k)) w.length)) (fun k=>w.length - k) 0 (mc Z Z Z Z) (⟨XZ _,(a1.trans a2.le),(xz a4 (Xk aw ((by exact vw w))))⟩) ?_;rintro k B17 ⟨hk,a0,h⟩;refine ak.wf fun a3=>?_;have hrl:=rY w hk;refine ak.sq fun ab=>.region<|.p (bK Z Z)<|.nil<|ab<|.sq fun ac=>.if rfl (fun ar=>?_) (fun ar=>?_)
 ·refine ak.skip<|ac<|.sq fun ad=>.block<|.sq fun ag=>.region<|.J Z<|.I Z<|.nil<|ag ?_;refine ak.region<|.J Z<|.J Z<|.p (cM u9 Z)<|.p (iO (b:=1) Z Z O)<|.J Z<|.p (iO Z Z O)<|.J Z<|.J Z<|.p (ng u9 Z Z O) ?_;refine Ops.m (fun a5=>ax Z (Kj (w.getD k 0) B17) ?_);rintro av A30 ⟨rfl,rfl⟩;refine a5<|.p (al db lQ Z Z Z O)<|.m (fun a6=>aU (off:=((w.length - 1) - k)) a3 rfl (by simp) rfl rfl lQ h OR rfl (rl _ _ _) fun A33 V=>?_);refine a6<|.nil<|ad<|.region<|.p (bk (b:=1) Z Z O)<|.J Z<|.nil ?_;exact ⟨k + 1,mc Z Z Z Z,Z,⟨O,(an a0 wf (bh wf (Xj a1.n a2.lo)) V.n V.keep),(xz V.get (Xk aw ((by exact xx w O))))⟩,O1⟩
 refine ak.exit<|a9<|.sq fun ai=>.region<|.J Z<|.m (fun a7=>fb (s:=kI w k) Z db u9 u5 (fg (n:=w.length) h Ox (XX _)) ?_);refine a7<|.I Z<|.nil<|ai<|.rt (by exact aH Z (⟨by rw [xw w O];rfl,a0,a3⟩))
theorem Tp (u:Value) (l:List W8) (r:W8) (A:AH) (hr:uq l.flatten=r) (hT:l.flatten.length<=1000000) (hn:l.length<=1000000) (hu:bz A 1 u (dB l)):bH prog 133 #[u] A (fun v A1=>v=aM r/\A.le A1/\A1.wf):=by
 refine aN (e:=[(0,u)]) (args:=[u]) call133 func133 Z results133 ntmps133 Z Z Z (fun wf=>?_);have ab:=AH.le.refl A;refine ak.seq fun _ h2=>.region<|.I Z<|.nil<|h2 _ _<|.seq fun _ h4=>.region<|.I Z<|.nil<|h4 _ _ ?_;refine ak.sq fun h6=>.sq fun h8=>.region<|.J Z<|.p (bx (n:=l.length) ko Z (hu.le ab) O (dY _))<|.J Z<|.nil<|h8<|.block<|.loop (X:=Nat × W8 × Value) (fun ⟨k,o,s⟩=>[(3,s),(8,u),(9,num ((l.length:Nat):Int)),(10,num ((k:Nat):Int))]) (fun ⟨k,o,s⟩ B=>(k<=l.length/\(l.drop k).flatten.foldl push o=r/\o.length + (l.drop k).flatten.length<=1000000)/\A.le B/\Fresh A B s 1 (aw o)) (fun ⟨k,o,s⟩=>l.length - k) (⟨0,[],.slice none 0 0⟩) (mc Z Z Z Z) (⟨⟨XZ _,by simpa [uq] using hr,by simpa using hT⟩,ab,(Fresh.nil A A 1)⟩) ?_;rintro ⟨k,o,s⟩ B10 ⟨⟨hk,h1,h2⟩,a7,a2⟩;refine ak.wf fun az=>?_;have hd:=fun q:k < l.length=>Lh q;refine ak.sq fun aP=>.region<|.p (bK Z Z)<|.nil<|aP<|.sq fun aR=>.if rfl (fun b7=>?_) (fun b7=>?_)
 ·refine ak.skip<|aR<|.sq fun aS=>.block<|.sq fun aT=>.region ?_;obtain ⟨bv,bC,br,bR,bm,bM,bD,aF,b3,aI,bd,ac⟩:=bz.at (i:=k) (hu.le a7) Ok O;refine Ops.p (al ko fK Z aF Z b3)<|.p (ah gK Z Z aI ((cb ac).trans (dm O)))<|.I Z<|.nil<|aT<|.sq fun aV=>.region<|.J Z<|.p (cM u9 Z)<|.J Z ?_;refine Ops.nil<|aV<|.block<|.loop (X:=Nat × W8 × Value) (fun ⟨i,o2,s2⟩=>[(3,s2),(5,aM (l.getD k [])),(8,u),(9,num ((l.length:Nat):Int)),(10,num ((k:Nat):Int)),(15,num (((l.getD k []).length:Nat):Int)),(16,num ((i:Nat):Int))]) (fun ⟨i,o2,s2⟩ B=>(i<=(l.getD k []).length/\((l.getD k []).drop i).foldl push o2=(l.getD k []).foldl push o/\o2.length<=o.length + i)/\A.le B/\Fresh A B s2 1 (aw o2)) (fun ⟨i,o2,s2⟩=>(l.getD k []).length - i) (⟨0,o,s⟩) (ym Z Z Z Z Z Z Z) (⟨⟨XZ _,Z,XX _⟩,a7,a2⟩) ?_;rintro ⟨i,o2,s2⟩ B25 ⟨⟨hi,h3,h4⟩,a0,V⟩;refine ak.wf fun aA=>.sq fun aY=>.region<|.p (bK Z Z)<|.nil<|aY<|.sq fun aZ=>.if rfl (fun b8=>?_) (fun b8=>?_)
  ·refine ak.skip<|aZ<|.sq fun aa=>.block<|.sq fun b0=>.region<|.J Z<|.I Z<|.nil<|b0 ?_;refine ak.sq fun b1=>.region<|.J Z<|.p (bx (n:=o2.length) db Z V.slc O (fa _))<|.I Z<|.nil<|b1<|.join (fun f A1=>am [(34,.bool (decide (0 < o2.length/\o2.getD (o2.length - 1) 0=(l.getD k []).getD i 0 ^^^ 32))),(3,s2),(5,aM (l.getD k [])),(8,u),(9,num ((l.length:Nat):Int)),(10,num ((k:Nat):Int)),(15,num (((l.getD k []).length:Nat):Int)),(16,num ((i:Nat):Int)),(17,.bool (decide (i < (l.getD k []).length))),(18,num ((i:Nat):Int)),(6,num ((i:Nat):Int)),(19,s2),(20,num ((o2.length:Nat):Int)),(7,num ((o2.length:Nat):Int))] f.e/\f.ds=[]/\B25=A1) ?_ ?_
   ·refine ak.drawn [0,1,2,3,4,5,6,7,8,9,10,11,12,13] mixed Y Y Z<|.p Z (aK Z)<|.p Z (ej (b:=0) Z Z)<|.p Z (aK Z)<|.part (t:=23) Z (fun b9=>?_) (fun b9=>?_)
    ·refine DOps.qOn Z Z Z Z Z (aK Z)<|.qOn Z Z Z Z Z (aK Z)<|.qOn Z Z Z Z Z (iO (b:=1) Z Z O) ?_;obtain ⟨aB,a8,bu,bS,bp,bO,bL,aG,b5,a9,bl,a4⟩:=bz.at (i:=o2.length - 1) V.slc Ox O;refine DOps.qOn Z Z Z Z Z (al db lQ Z aG Z b5) ?_;have ag:=cR (off:=a8 + (o2.length - 1) * 1) a9 ((cb a4).trans (gW O));refine DOps.qOn Z Z Z Z Z (ah OA Z Z a9 ((cb a4).trans (gW O)))<|.qOn Z Z Z Z Z (aK Z)<|.qOn Z Z Z Z Z (aK Z)<|.qOn Z Z Z Z Z (ng u9 Z Z O)<|.lOn Z Z Z Z Z (fun _ _ ai _=>ax Z (Kj ((l.getD k []).getD i 0) B25) ?_);rintro bT A45 ⟨rfl,rfl⟩;refine ai _ _ (bg.list (L:=[(⟨aB,a8 + (o2.length - 1) * 1,none⟩,dT (o2.getD (o2.length - 1) 0))]) Y (bf ag bX))<|.qOn Z Z Z Z Z (zz Z Z)<|.p Z (aJ Z Z)<|.done ?_;exact ⟨am.cons (show some _=some _ from Xk (fun b=>some (Value.bool b)) (show (decide ((o2.getD (o2.length - 1) 0)=(((l.getD k []).getD i 0) ^^^ 32)))=decide (0 < o2.length/\o2.getD (o2.length - 1) 0=(l.getD k []).getD i 0 ^^^ 32) from (by simp only [‹0 < _›,true_and])))<|am.cons Z<|am.cons Z<|am.cons Z<|am.cons Z<|am.cons Z<|am.cons Z<|am.cons Z<|am.cons Z<|am.cons Z<|am.cons Z<|am.cons Z<|am.cons Z<|am.cons Z<|am.nil _,Z,Z⟩
    refine DOps.qOff Z Z Z Z Z Z<|.qOff Z Z Z Z Z Z<|.qOff Z Z Z Z Z Z<|.qOff Z Z Z Z Z Z<|.qOff Z Z Z Z Z Z<|.qOff Z Z Z Z Z Z<|.qOff Z Z Z Z Z Z<|.qOff Z Z Z Z Z Z<|.lOff Z Z Z Z Z Z<|.qOff Z Z Z Z Z Z ?_;refine DOps.p Z (aO Z Z)<|.done ?_;exact ⟨am.cons (show some _=some _ from Xk (fun b=>some (Value.bool b)) (show (false)=decide (0 < o2.length/\o2.getD (o2.length - 1) 0=(l.getD k []).getD i 0 ^^^ 32) from (by simp only [‹¬ 0 < _›,false_and,decide_false])))<|am.cons Z<|am.cons Z<|am.cons Z<|am.cons Z<|am.cons Z<|am.cons Z<|am.cons Z<|am.cons Z<|am.cons Z<|am.cons Z<|am.cons Z<|am.cons Z<|am.cons Z<|am.nil _,Z,Z⟩
   rintro ⟨fe,fd⟩ _ ⟨hE,rfl,rfl⟩;refine ak.forget hE<|.if rfl (fun ba=>?_) (fun ba=>?_)
   ·refine ak.region<|.J Z<|.J Z<|.p (iO (b:=1) Z Z O) ?_;obtain ⟨aC,bP,aD,bb,b6,bB⟩:=V.nonnil (by intro q;have:=Xk List.length q;simp only [be,Xx] at this;omega);subst bb;rw [be,VY] at b6;have a5:=V.take (k:=o2.length - 1) O;rw [VY,ks] at a5;refine Ops.p (m7 db lQ Z Z O)<|.I Z<|.nil<|aa<|.region<|.p (bk (b:=1) Z Z O)<|.J Z<|.nil ?_;exact ⟨⟨i + 1,o2.take (o2.length - 1),.slice (some ⟨aC,0,none⟩) (o2.length - 1) aD⟩,ym Z Z Z Z Z Z Z,Z,⟨⟨by omega,by exact wh Oz h3 ‹_›,by simp only [Xz,Vz,Xq,Xx];omega⟩,a0,a5⟩,O1⟩
   refine ak.region<|.J Z<|.J Z<|.J Z<|.p (ng u9 Z Z O)<|.m (fun ap=>aE (c:=[dT ((l.getD k []).getD i 0)]) aA rfl (aq db lQ z5 rfl U U rfl) fun A52 bA a1=>?_);have a6:=V.le a1.le;refine ap<|.m (fun ar=>cm (ys:=[dT ((l.getD k []).getD i 0)]) rfl rfl db lQ vL z5 rfl U db (fun _ h=>by cases h) a6.own (bG (n:=1) a1.get Z) rfl rfl (by show (_ + _) * 1<=_;simp only [be,Xq,Xx];have:=hd Oz;omega) (by simp only [be,Xq,Xx];have:=hd Oz;omega) fun A58 bc a3=>?_);rw [show ([dT ((l.getD k []).getD i 0)]:List Value)=aw [(l.getD k []).getD i 0] from rfl,fA] at a3;obtain ⟨ad,ay⟩:=Fresh.grow a6 (a0.trans a1.le) wf a3;refine ar<|.I Z<|.nil<|aa<|.region<|.p (bk (b:=1) Z Z O)<|.J Z<|.nil ?_;exact ⟨⟨i + 1,o2 ++ [(l.getD k []).getD i 0],bc⟩,ym Z Z Z Z Z Z Z,Z,⟨⟨by omega,by exact wi Oz h3 ‹_›,by simp only [Xz,Vz,Xq,Xx];omega⟩,ay,ad⟩,O1⟩
  refine ak.exit<|aS<|.region<|.p (bk (b:=1) Z Z O)<|.J Z<|.nil ?_;exact ⟨⟨k + 1,o2,s2⟩,mc Z Z Z Z,Z,⟨⟨by omega,vc Oz h1 (by rw [qz O] at h3;exact h3.symm),by omega⟩,a0,V⟩,O1⟩
 refine ak.exit<|h6<|.sq fun b2=>.region<|.J Z<|.m (fun av=>fb (s:=o) Z db u9 u5 a2.slc ?_);refine av<|.I Z<|.nil<|b2<|.rt (by exact aH Z (⟨by rw [rm O] at h1;rw [<- h1];rfl,a7,az⟩))
theorem tX (w:W8) (A:AH) (hw:w.length<=1000000) (hL:iB A):bH prog 99 #[aM (w)] A (fun v A1=>v=aM (c8 w)/\A.le A1/\A1.wf):=by
 refine aN (e:=[(0,aM (w))]) (args:=[aM (w)]) call99 func99 Z results99 ntmps99 Z Z Z (fun wf=>?_);have a9:=AH.le.refl A;refine ak.sq fun h2=>.region<|.I Z<|.nil<|h2<|.sq fun h4=>.sq fun h6=>.region<|.J Z<|.m (fun a8=>ax Z (Xh w A hL) ?_);rintro v8 A9 ⟨rfl,a0,h⟩;have V:=a9.trans a0;refine a8<|.p (ff Z)<|.nil<|h6<|.ifB Z (fun aa=>?_) (fun aa=>?_)
 ·refine ak.sq fun a6=>.region<|.I Z<|.nil<|a6<|.rt (by exact aH Z (⟨by unfold c8;(rw [Xy (by simpa using ‹(!rN w)=true›)];rfl),V,h⟩))
 refine ak.skip<|h4<|.sq fun a7=>.region<|.J Z<|.m (fun a3=>aE (c:=[aM (w)]) h rfl (aq ko fK z9 rfl U U rfl) fun A19 ab X=>?_);refine a3<|.m (fun a4=>ax Z (Tp _ ([w]) (uq w) A19 (by simp) Or (by simp) (fg (n:=1) X.get Z (XX _))) ?_);rintro ac A24 ⟨rfl,a1,a2⟩;have a5:=(V.trans X.le).trans a1;refine a4<|.I Z<|.nil<|a7<|.rt (by exact aH Z (⟨by unfold c8;(rw [Xw (by simpa using ‹(!rN w)=false›)];rfl),a5,a2⟩))
theorem MS (w:W8) (A:AH) (hw:w.length<=1000000) (hL:iB A):bH prog 93 #[aM (w)] A (fun v A1=>v=aM (gh w)/\A.le A1/\A1.wf):=by
 refine aN (e:=[(0,aM (w))]) (args:=[aM (w)]) call93 func93 Z results93 ntmps93 Z Z Z (fun wf=>?_);have a7:=AH.le.refl A;refine ak.sq fun h2=>.region<|.I Z<|.nil<|h2<|.sq fun h4=>.sq fun h6=>.region<|.J Z<|.m (fun a6=>ax Z (Xh w A hL) ?_);rintro v8 A9 ⟨rfl,V,a0⟩;have h:=a7.trans V;refine a6<|.p (ff Z)<|.nil<|h6<|.ifB Z (fun a8=>?_) (fun a8=>?_)
 ·refine ak.sq fun a4=>.region<|.I Z<|.nil<|a4<|.rt (by exact aH Z (⟨by unfold gh;(rw [Xy (by simpa using ‹(!rN w)=true›)];rfl),h,a0⟩))
 refine ak.skip<|h4<|.sq fun a5=>.region<|.J Z<|.m (fun a2=>ax Z (Nf w A9 O) ?_);rintro a9 A19 ⟨rfl,X,a1⟩;have a3:=h.trans X;refine a2<|.I Z<|.nil<|a5<|.rt (by exact aH Z (⟨by unfold gh;(rw [Xw (by simpa using ‹(!rN w)=false›)];rfl),a3,a1⟩))
theorem MZ (x y:W8) (A:AH) (hx:x.length<=1000000) (hy:y.length<=1000000) (hL:iB A):bH prog 124 #[aM (x),aM (y)] A (fun v A1=>v=num (nf x y)/\A=A1):=by
 refine aN (e:=[(0,aM (x)),(1,aM (y))]) (args:=[aM (x),aM (y)]) call124 func124 Z results124 ntmps124 Z Z Z (fun wf=>?_);have ay:=AH.le.refl A;refine ak.sq fun h2=>.region<|.I Z<|.nil<|h2<|.sq fun h4=>.sq fun h6=>.region<|.J Z<|.p (cM u9 Z) ?_;refine Ops.J Z<|.p (cM u9 Z)<|.p (fy Z Z)<|.nil<|h6<|.if rfl (fun p7=>?_) (fun p7=>?_)
 ·refine ak.sq fun h9=>.sq fun a0=>.region<|.J Z<|.p (cM u9 Z)<|.J Z<|.p (cM u9 Z)<|.p (bK Z Z)<|.nil<|a0 ?_;refine ak.if rfl (fun ai=>?_) (fun ai=>?_)
  ·refine ak.sq fun a1=>.region<|.I Z<|.nil<|a1<|.rt (by exact aH Z (⟨by simp_all [fZ,nf],Z⟩))
  refine ak.skip<|h9<|.sq fun a2=>.region<|.I Z<|.nil<|a2<|.rt (by exact aH Z (⟨by simp_all [fZ,nf],Z⟩))
 refine ak.skip<|h4<|.sq fun a3=>.sq fun a4=>.region<|.J Z<|.p (cM u9 Z)<|.J Z<|.nil<|a4 ?_;refine ak.block<|.loop (X:=Nat) (fun k=>[(0,aM (x)),(1,aM (y)),(19,num ((x.length:Nat):Int)),(20,num ((k:Nat):Int))]) (fun k B=>(k<=x.length/\yy (x.drop k) (y.drop k)=nf x y)/\A=B) (fun k=>x.length - k) 0 (mc Z Z Z Z) (⟨⟨XZ _,(Jw ‹_›).symm⟩,Z⟩) ?_;rintro k B22 ⟨⟨hk,hc⟩,rfl⟩;refine ak.sq fun a5=>.region<|.p (bK Z Z)<|.nil<|a5<|.sq fun a6=>.if rfl (fun ap=>?_) (fun ap=>?_)
 ·refine ak.skip<|a6<|.sq fun a7=>.block<|.sq fun a8=>.region<|.J Z<|.I Z<|.nil<|a8 ?_;refine ak.sq fun a9=>.drawn [0,1,2,4,5,6,3,7,8,9] mixed Y Y Z<|.p Z (aK Z)<|.p Z (aK Z)<|.p Z (ng u9 Z Z O)<|.p Z (aK Z)<|.p Z (aK Z)<|.p Z (ng u9 Z Z O)<|.m Z (fun h=>ax Z (tV (x.getD k 0) A hL) ?_);rintro az A36 ⟨rfl,rfl⟩;refine h (bg.none Y)<|.m Z (fun V=>ax Z (tV (y.getD k 0) A hL) ?_);rintro aA A40 ⟨rfl,rfl⟩;refine V (bg.none Y)<|.p Z (d7 Z)<|.p Z (d7 Z)<|.done<|a9<|.block<|.sq fun aa=>.region<|.J Z<|.J Z ?_;refine Ops.p (iU Z Z)<|.I Z<|.nil<|aa<|.if rfl (fun ar=>?_) (fun ar=>?_)
  ·refine ak.sq fun ab=>.region<|.I Z<|.nil<|ab<|.rt (by exact aH Z (⟨by (rw [fJ O O,Xw ‹_›] at hc;rw [<- hc];rfl),Z⟩))
  refine ak.sq fun ac=>.region<|.J Z<|.J Z<|.p (EF Z Z)<|.I Z<|.nil<|ac<|.if rfl (fun av=>?_) (fun av=>?_)
  ·refine ak.sq fun ad=>.region<|.I Z<|.nil<|ad<|.rt (by exact aH Z (⟨by (rw [fJ O O,Xy ‹_›,Xw ‹_›] at hc;rw [<- hc];rfl),Z⟩))
  refine ak.skip<|a7<|.region<|.p (bk (b:=1) Z Z O)<|.J Z<|.nil ?_;exact ⟨k + 1,mc Z Z Z Z,Z,⟨⟨by omega,by rw [fJ O O,Xy ‹_›,Xy ‹_›] at hc;exact hc⟩,Z⟩,O1⟩
 refine ak.exit<|a3<|.sq fun ag=>.region<|.I Z<|.nil<|ag<|.rt (by exact aH Z (⟨by (rw [oe O] at hc;rw [<- hc];rfl),Z⟩))
theorem MQ (x y:W8) (A:AH) (hx:x.length<=1000000) (hy:y.length<=1000000) (hL:iB A):bH prog 87 #[aM (x),aM (y)] A (fun v A1=>v=num (eu x y)/\A.le A1/\A1.wf):=by
 refine aN (e:=[(0,aM (x)),(1,aM (y))]) (args:=[aM (x),aM (y)]) call87 func87 Z results87 ntmps87 Z Z Z (fun wf=>?_);have a9:=AH.le.refl A;refine ak.sq fun h2=>.region<|.I Z<|.nil<|h2<|.sq fun h4=>.sq fun h6=>.region<|.J Z<|.m (fun a8=>ax Z (Xh x A hL) ?_);rintro v8 A9 ⟨rfl,a0,a2⟩;have h:=a9.trans a0;refine a8<|.p (ff Z)<|.J Z<|.partB (t:=8) Z (fun aa=>?_) (fun aa=>?_)
 ·refine Ops.off Z Z Z Z<|.off Z Z Z Z<|.off Z Z Z Z<|.p (aJ Z Z)<|.nil<|h6<|.cond_true Z<|.sq fun a5=>.region<|.I Z ?_;refine Ops.nil<|a5<|.rt (by exact aH Z (⟨by simp_all [fZ,eu],h,a2⟩))
 refine Ops.on Z Z<|.J Z<|.on Z Z<|.m (fun a3=>ax Z (Xh y A9 (hL.le h)) ?_);rintro ac A17 ⟨rfl,a1,X⟩;have V:=h.trans a1;refine a3<|.on Z Z<|.p (ff Z)<|.p (aO Z Z)<|.nil<|h6<|.ifB Z (fun ab=>?_) (fun ab=>?_)
 ·refine ak.sq fun a6=>.region<|.I Z<|.nil<|a6<|.rt (by exact aH Z (⟨by simp_all [fZ,eu],V,X⟩))
 refine ak.skip<|h4<|.sq fun a7=>.region<|.J Z<|.J Z<|.m (fun a4=>ax Z (MZ x y A17 O O (hL.le V)) ?_);rintro ad A27 ⟨rfl,rfl⟩;refine a4<|.I Z<|.nil<|a7<|.rt (by exact aH Z (⟨by simp_all [fZ,eu],V,X⟩))
theorem Cr (g:Nat) (caps:Array Value) (q:W8->Bool) (u:Value) (l:List W8) (A:AH) (hn:l.length<=9223372036854775807) (hu:bz A 1 u (dB l)) (hf:∀ s,s ∈ l->∀ B,A.le B->B.wf->bH prog g (#[] ++ #[aM s] ++ caps) B (fun v B1=>v=.bool (q s)/\B.le B1/\B1.wf)):bH prog 167 #[u,.func (.func g) #[] caps] A (fun v A1=>v=num (Dy q l)/\A.le A1/\A1.wf):=by
 refine aN (e:=[(0,u),(1,.func (.func g) #[] caps)]) (args:=[u,.func (.func g) #[] caps]) call167 func167 Z results167 ntmps167 Z Z Z (fun wf=>?_);have a3:=AH.le.refl A;refine ak.sq fun h2=>.region<|.I Z<|.nil<|h2<|.sq fun h4=>.sq fun h6=>.region<|.J Z<|.p (bx (n:=l.length) ko Z (hu.le a3) O (dY _)) ?_;refine Ops.J Z<|.nil<|h6<|.block<|.loop (X:=Nat) (fun k=>[(0,u),(1,.func (.func g) #[] caps),(7,num ((l.length:Nat):Int)),(8,num ((k:Nat):Int))]) (fun k B=>(k<=l.length/\∀ j,j < k->q (l.getD j [])=false)/\A.le B) (fun k=>l.length - k) 0 (mc Z Z Z Z) (⟨⟨by omega,fun j h=>by omega⟩,a3⟩) ?_;rintro k B8 ⟨⟨hk,hq⟩,V⟩;refine ak.wf fun a4=>.sq fun a9=>.region<|.p (bK Z Z)<|.nil<|a9<|.sq fun aa=>.if rfl (fun ar=>?_) (fun ar=>?_)
 ·refine ak.skip<|aa<|.sq fun ab=>.block<|.sq fun ac=>.region<|.J Z<|.I Z<|.nil<|ac ?_;refine ak.sq fun ad=>.region<|.J Z<|.J Z<|.J Z ?_;obtain ⟨aB,aC,aA,aG,az,aF,aD,a7,ap,a8,ay,a5⟩:=bz.at (i:=k) (hu.le V) Ok O;refine Ops.p (al ko fK Z a7 Z ap)<|.p (ah gK Z Z a8 ((cb a5).trans (dm O)))<|.m (fun a6=>pY Z Z (hf _ (aX O) B8 V a4) ?_);rintro aI A24 ⟨rfl,a1,a2⟩;have a0:=V.trans a1;refine a6<|.nil<|ad<|.ifB Z (fun av=>?_) (fun av=>?_)
  ·refine ak.sq fun ag=>.region<|.J Z<|.I Z<|.nil<|ag<|.rt (by exact aH Z (⟨by rw [zh (d:=[]) Oz hq ‹_›];rfl,a0,a2⟩))
  refine ak.skip<|ab<|.region<|.p (bk (b:=1) Z Z O)<|.J Z<|.nil ?_;exact ⟨k + 1,mc Z Z Z Z,Z,⟨⟨by omega,fun j h=>(XV.1 h).elim (hq j) (fun z=>by subst z;assumption)⟩,a0⟩,O1⟩
 refine ak.exit<|h4<|.sq fun ai=>.region<|.I Z<|.nil<|ai<|.rt (by exact aH Z (⟨by rw [DA (d:=[]) (fun j h=>hq j O)];rfl,V,a4⟩))
theorem vN (g:Nat) (caps:Array Value) (q:W8->Bool) (u:Value) (l:List W8) (A:AH) (hn:l.length<=9223372036854775807) (hu:bz A 1 u (dB l)) (hf:∀ s,s ∈ l->∀ B,A.le B->B.wf->bH prog g (#[] ++ #[aM s] ++ caps) B (fun v B1=>v=.bool (q s)/\B.le B1/\B1.wf)):bH prog 126 #[u,.func (.func g) #[] caps] A (fun v A1=>v=.bool (decide (0<=Dy q l))/\A.le A1/\A1.wf):=by
 refine aN (e:=[(0,u),(1,.func (.func g) #[] caps)]) (args:=[u,.func (.func g) #[] caps]) call126 func126 Z results126 ntmps126 Z Z Z (fun wf=>?_);have h:=AH.le.refl A;refine ak.sq fun h2=>.region<|.I Z<|.nil<|h2<|.sq fun h4=>.region<|.J Z<|.J Z<|.m (fun a0=>ax Z (Cr g caps q u l A hn (hu.le h) (fun s hs B le wf=>hf s hs B (h.trans le) wf)) ?_);rintro v6 A7 ⟨rfl,V,X⟩;refine a0<|.p (lu Z Z)<|.I Z<|.nil<|h4<|.rt (by exact aH Z (⟨Z,(h.trans V),X⟩))
theorem u3:type_of% @underlying3:=@underlying3
theorem qT (c:UInt8) (A:AH):bH prog 67 #[dT (c)] A (fun v A1=>v=num (ix c)/\A=A1):=by
 refine aN (e:=[(0,dT (c))]) (args:=[dT (c)]) call67 func67 Z results67 ntmps67 Z Z Z (fun wf=>?_);have ai:=AH.le.refl A;have ad:=(c - 97).toNat_lt;have ag:=(c - 65).toNat_lt;refine ak.sq fun h2=>.region<|.I Z<|.nil<|h2<|.sq fun h4=>.sq fun h6=>.region<|.J Z<|.p (rQ (d:=97) Z Z) ?_;refine Ops.J Z<|.part (t:=5) Z (fun p7=>?_) (fun p7=>?_)
 ·refine Ops.on Z Z<|.J Z<|.on Z Z<|.p (zA (d:=105) Z Z)<|.p (aJ Z Z)<|.nil<|h6<|.if rfl (fun p8=>?_) (fun p8=>?_)
  ·refine ak.sq fun a2=>.region<|.J Z<|.p (nx (d:=97) Z Z)<|.p (mg u5 u3 Z)<|.p (oE (a:=2) Z Z O)<|.I Z<|.nil<|a2<|.rt (by exact aH Z (⟨by (rw [<- zf c ‹_› ‹_›];rfl),Z⟩))
  refine ak.skip<|h4<|.sq fun V=>.sq fun X=>.region<|.J Z<|.p (rQ (d:=65) Z Z)<|.J Z<|.part (t:=15) Z (fun a9=>?_) (fun a9=>?_)
  ·refine Ops.on Z Z<|.J Z<|.on Z Z<|.p (zA (d:=73) Z Z)<|.p (aJ Z Z)<|.nil<|X<|.if rfl (fun aa=>?_) (fun aa=>?_)
   ·refine ak.sq fun a3=>.region<|.J Z<|.p (nx (d:=65) Z Z)<|.p (mg u5 u3 Z)<|.p (oE (a:=2) Z Z O)<|.p (bk (b:=1) Z Z O)<|.I Z<|.nil<|a3 ?_;refine ak.ret ?_;repeat first | with_reducible refine cz ?_ | with_reducible refine cj ?_
    exact aH Z (⟨by (rw [<- Bh c ‹_› ‹_›];rfl),Z⟩)
   refine ak.skip<|V<|.sq fun a4=>.region<|.I Z<|.nil<|a4<|.rt (by exact aH Z (⟨by (rw [Bi c (fun h=>by simp_all) (fun h=>by simp_all)];rfl),Z⟩))
  refine Ops.off Z Z Z Z<|.off Z Z Z Z<|.p (aO Z Z)<|.nil<|X<|.cond_false Z<|.skip<|V<|.sq fun a5=>.region ?_;refine Ops.I Z<|.nil<|a5<|.rt (by exact aH Z (⟨by (rw [Bi c (fun h=>by simp_all) (fun h=>by simp_all)];rfl),Z⟩))
 refine Ops.off Z Z Z Z<|.off Z Z Z Z<|.p (aO Z Z)<|.nil<|h6<|.cond_false Z<|.skip<|h4<|.sq fun a0=>.sq fun a1=>?_;refine ak.region<|.J Z<|.p (rQ (d:=65) Z Z)<|.J Z<|.part (t:=15) Z (fun ab=>?_) (fun ab=>?_)
 ·refine Ops.on Z Z<|.J Z<|.on Z Z<|.p (zA (d:=73) Z Z)<|.p (aJ Z Z)<|.nil<|a1<|.if rfl (fun ac=>?_) (fun ac=>?_)
  ·refine ak.sq fun a6=>.region<|.J Z<|.p (nx (d:=65) Z Z)<|.p (mg u5 u3 Z)<|.p (oE (a:=2) Z Z O)<|.p (bk (b:=1) Z Z O)<|.I Z<|.nil<|a6 ?_;refine ak.ret ?_;repeat first | with_reducible refine cz ?_ | with_reducible refine cj ?_
   exact aH Z (⟨by (rw [<- Bh c ‹_› ‹_›];rfl),Z⟩)
  refine ak.skip<|a0<|.sq fun a7=>.region<|.I Z<|.nil<|a7<|.rt (by exact aH Z (⟨by (rw [Bi c (fun h=>by simp_all) (fun h=>by simp_all)];rfl),Z⟩))
 refine Ops.off Z Z Z Z<|.off Z Z Z Z<|.p (aO Z Z)<|.nil<|a1<|.cond_false Z<|.skip<|a0<|.sq fun a8=>.region ?_;refine Ops.I Z<|.nil<|a8<|.rt (by exact aH Z (⟨by (rw [Bi c (fun h=>by simp_all) (fun h=>by simp_all)];rfl),Z⟩))
theorem rC (i:Nat) (A:AH) (hi:i < 16):bH prog 73 #[num ((i:Nat):Int)] A (fun v A1=>v=dT (bq.getD i 0)/\A=A1):=by
 refine aN (e:=[(0,num ((i:Nat):Int))]) (args:=[num ((i:Nat):Int)]) call73 func73 Z results73 ntmps73 Z Z Z (fun wf=>?_);have a4:=AH.le.refl A;refine ak.sq fun h2=>.region<|.I Z<|.nil<|h2<|.sq fun h4=>.sq fun h6=>.region<|.J Z<|.p (bK (b:=0) Z Z) ?_;refine Ops.J Z<|.part (t:=5) Z (fun p7=>?_) (fun p7=>?_)
 ·refine Ops.off Z Z Z Z<|.off Z Z Z Z<|.p (aJ Z Z)<|.nil<|h6<|.cond_true Z<|.sq fun h9=>.region<|.I Z<|.nil ?_;refine h9<|.rt (by exact aH Z (⟨by (exfalso;omega),Z⟩))
 refine Ops.on Z Z<|.J Z<|.on Z Z<|.p (tK (b:=16) Z Z)<|.p (aO Z Z)<|.nil<|h6<|.if rfl (fun a2=>?_) (fun a2=>?_)
 ·refine ak.sq fun h=>.region<|.I Z<|.nil<|h<|.rt (by exact aH Z (⟨by (exfalso;omega),Z⟩))
 refine ak.skip<|h4<|.sq fun V=>.sq fun X=>.region<|.J Z<|.p (qremN (b:=2) Z Z O)<|.p (jM (b:=0) Z Z)<|.nil<|X ?_;refine ak.if rfl (fun a3=>?_) (fun a3=>?_)
 ·refine ak.sq fun a0=>.region<|.J Z<|.p (Yy (b:=2) Z Z O)<|.p (Cd u3 u5 Z)<|.p (J0 (c:=97) Z Z)<|.I Z<|.nil<|a0<|.rt (by exact aH Z (⟨by (rw [<- QO ⟨i,hi⟩ Oz];rfl),Z⟩))
 refine ak.skip<|V<|.sq fun a1=>.region<|.J Z<|.p (Yy (b:=2) Z Z O)<|.p (Cd u3 u5 Z)<|.p (J0 (c:=65) Z Z)<|.I Z<|.nil ?_;refine a1<|.rt (by exact aH Z (⟨by (rw [<- VL ⟨i,hi⟩ Oz];rfl),Z⟩))
theorem Fk (c:UInt8) (A:AH) (hc:0<=ix c):bH prog 66 #[dT (c)] A (fun v A1=>v=dT (c ^^^ 32)/\A=A1):=by
 refine aN (e:=[(0,dT (c))]) (args:=[dT (c)]) call66 func66 Z results66 ntmps66 Z Z Z (fun wf=>?_);have X:=AH.le.refl A;refine ak.sq fun h2=>.region<|.I Z<|.nil<|h2<|.sq fun h4=>.region<|.J Z<|.m (fun h=>ax Z (qT c A) ?_);rintro v6 A7 ⟨rfl,rfl⟩;refine h<|.p (yD U U Z Z (Zg c hc))<|.m (fun V=>ax Z (rC (Uv (c ^^^ 32)) A (Qi _)) ?_);rintro a0 A11 ⟨rfl,rfl⟩;refine V<|.I Z<|.nil<|h4<|.rt (by exact aH Z (⟨by rw [VI _ (JL c hc)];rfl,Z⟩))
theorem Fj (k:Int) (w:W8) (A:AH):bH prog 94 #[num (k),aM (w)] A (fun v A1=>v=num ((bZ k w:Nat):Int)/\A=A1):=by
 refine aN (e:=[(0,num (k)),(1,aM (w))]) (args:=[num (k),aM (w)]) call94 func94 Z results94 ntmps94 Z Z Z (fun wf=>?_);have ay:=AH.le.refl A;refine ak.sq fun h2=>.region<|.I Z<|.nil<|h2<|.sq fun h4=>.sq fun h6=>.region<|.J Z<|.p (iU Z Z) ?_;refine Ops.J Z<|.part (t:=9) Z (fun p7=>?_) (fun p7=>?_)
 ·refine Ops.off Z Z Z Z<|.off Z Z Z Z<|.p (aJ Z Z)<|.nil<|h6<|.cond_true Z<|.sq fun h9=>.region<|.I Z<|.nil ?_;refine h9<|.rt (by exact aH Z (⟨by (rw [bZ,Xw O];rfl),Z⟩))
 refine Ops.on Z Z<|.J Z<|.on Z Z<|.p (EF Z Z)<|.p (aO Z Z)<|.nil<|h6<|.if rfl (fun ag=>?_) (fun ag=>?_)
 ·refine ak.sq fun a1=>.region<|.I Z<|.nil<|a1<|.rt (by exact aH Z (⟨by (rw [bZ,Xw O];rfl),Z⟩))
 refine ak.skip<|h4<|.sq fun a2=>.sq fun a3=>.region<|.J Z<|.p (cM u9 Z)<|.p (ej (b:=100000) Z Z)<|.nil<|a3 ?_;refine ak.if rfl (fun ai=>?_) (fun ai=>?_)
 ·refine ak.sq fun a4=>.region<|.I Z<|.nil<|a4<|.rt (by exact aH Z (⟨by (rw [bZ,Xy O,Xw O];rfl),Z⟩))
 refine ak.skip<|a2<|.sq fun a5=>.sq fun a6=>.region<|.I Z<|.nil<|a6<|.block<|.loop (X:=Nat) (fun i=>[(0,num (k)),(1,aM (w)),(5,num ((i:Nat):Int))]) (fun i B=>(i<=w.length/\∀ j,j < i->0<=ix (w.getD j 0)/\ix (w.getD j 0) < 2 * k)/\A=B) (fun i=>w.length - i) 0 (jh Z Z Z) (⟨⟨by omega,fun j h=>by omega⟩,Z⟩) ?_;rintro i B25 ⟨⟨hi,hn⟩,rfl⟩;refine ak.sq fun a7=>.sq fun a8=>.region<|.J Z<|.J Z<|.p (cM u9 Z)<|.p (bK Z Z)<|.nil<|a8<|.if rfl (fun ap=>?_) (fun ap=>?_)
 ·refine ak.skip<|a7<|.sq fun a9=>.block<|.sq fun aa=>.region<|.J Z<|.J Z<|.p (ng u9 Z Z O)<|.m (fun a0=>ax Z (qT (w.getD i 0) A) ?_);rintro az A37 ⟨rfl,rfl⟩;refine a0<|.I Z<|.nil<|aa<|.sq fun V=>.region<|.J Z<|.p (iU Z Z)<|.J Z<|.part (t:=28) Z (fun ar=>?_) (fun ar=>?_)
  ·refine Ops.off Z Z Z Z<|.off Z Z Z Z<|.off Z Z Z Z<|.off Z Z Z Z<|.p (aJ Z Z)<|.nil<|V<|.cond_true Z<|.sq fun ab=>.region ?_;refine Ops.I Z<|.nil<|ab<|.rt (by exact aH Z (⟨by (rw [yd (i:=i) O O O O];rfl),Z⟩))
  refine Ops.on Z Z<|.J Z<|.on Z Z<|.J Z<|.on Z Z<|.p (Wu Z Z O)<|.on Z Z<|.p (lu Z Z)<|.p (aO Z Z)<|.nil ?_;refine V<|.if rfl (fun av=>?_) (fun av=>?_)
  ·refine ak.sq fun ac=>.region<|.I Z<|.nil<|ac<|.rt (by exact aH Z (⟨by (rw [yd (i:=i) O O O O];rfl),Z⟩))
  refine ak.skip<|a9<|.region<|.J Z<|.p (bk (b:=1) Z Z O)<|.I Z<|.nil ?_;exact ⟨i + 1,jh Z Z Z,Z,⟨⟨by omega,fun j h=>(XV.1 h).elim (hn j) (fun z=>by subst z;omega)⟩,Z⟩,O1⟩
 refine ak.exit<|a5<|.sq fun ad=>.region<|.I Z<|.nil<|ad<|.rt (by exact aH Z (⟨by (rw [Ga (i:=i) O O O hn];rfl),Z⟩))
theorem Kf (w:W8) (A:AH):bH prog 65 #[aM (w)] A (fun v A1=>v=.bool (rN w)/\A=A1):=by
 refine aN (e:=[(0,aM (w))]) (args:=[aM (w)]) call65 func65 Z results65 ntmps65 Z Z Z (fun wf=>?_);have V:=AH.le.refl A;refine ak.sq fun h2=>.region<|.I Z<|.nil<|h2<|.sq fun h4=>.region<|.J Z<|.m (fun h=>ax Z (Fj ((8:Nat):Int) w A) ?_);rintro v6 A7 ⟨rfl,rfl⟩;refine h<|.p (jM (b:=0) Z Z)<|.I Z<|.nil<|h4<|.rt (by exact aH Z (⟨by rw [<- F8];rfl,Z⟩))
theorem IQ (w:W8) (A:AH) (hw:w.length<=1000000):bH prog 24 #[aM (w)] A (fun v A1=>v=aM (gh w)/\A.le A1/\A1.wf):=by
 refine aN (e:=[(0,aM (w))]) (args:=[aM (w)]) call24 func24 Z results24 ntmps24 Z Z Z (fun wf=>?_);have a5:=AH.le.refl A;refine ak.sq fun h2=>.region<|.I Z<|.nil<|h2<|.sq fun h4=>.sq fun h6=>.region<|.J Z<|.m (fun az=>ax Z (Kf w A) ?_);rintro v8 A9 ⟨rfl,rfl⟩;refine az<|.p (ff Z)<|.nil<|h6<|.ifB Z (fun aA=>?_) (fun aA=>?_)
 ·refine ak.sq fun ac=>.region<|.I Z<|.nil<|ac<|.rt (by exact aH Z (⟨by unfold gh;(rw [Xy (by simpa using ‹(!rN w)=true›)];rfl),a5,wf⟩))
 refine ak.skip<|h4<|.sq fun ad=>.region<|.I Z<|.nil<|ad<|.sq fun ag=>.sq fun ai=>.region ?_;refine Ops.J Z<|.p (cM u9 Z)<|.p (tL Z Z O)<|.I Z<|.nil<|ai<|.block<|.loop (X:=Nat × W8 × Value) (fun ⟨j,o,s⟩=>[(0,aM (w)),(3,s),(4,num ((j:Int) - 1))]) (fun ⟨j,o,s⟩ B=>(j<=w.length/\o=((w.drop j).map (· ^^^ 32)).reverse)/\A.le B/\Fresh A B s 1 (aw o)) (fun ⟨j,o,s⟩=>j) (⟨w.length,[],.slice none 0 0⟩) (am.cons Z<|am.cons Z<|am.cons (Xk (fun z:Int=>some (num z)) O)<|am.nil _) (⟨⟨XX _,by simp⟩,a5,(Fresh.nil A A 1)⟩) ?_;rintro ⟨j,o,s⟩ B21 ⟨⟨hj,ho⟩,a3,V⟩;refine ak.wf fun a4=>?_;have hlo:o.length=w.length - j:=by rw [ho];simp
 have hk:=Rd (w:=w) (by simpa using ‹(!rN w)=false›);have htn:((j:Int) - 1).toNat=j - 1:=by omega
 refine ak.sq fun ap=>.sq fun ar=>.region<|.J Z<|.p (lu Z Z)<|.nil<|ar<|.if rfl (fun aB=>?_) (fun aB=>?_)
 ·refine ak.skip<|ap<|.sq fun av=>.block<|.region<|.J Z<|.J Z<|.J Z<|.p (ng u9 Z (go O) O)<|.m (fun a7=>ax Z (Fk (w.getD ((j:Int) - 1).toNat 0) B21 (we hk O)) ?_);rintro aF A32 ⟨rfl,rfl⟩;refine a7<|.m (fun a8=>aE (c:=[dT ((w.getD ((j:Int) - 1).toNat 0) ^^^ 32)]) a4 rfl (aq db lQ z5 rfl U U rfl) fun A36 aD a0=>?_);have a2:=V.le a0.le;refine a8<|.m (fun a9=>cm (ys:=[dT ((w.getD ((j:Int) - 1).toNat 0) ^^^ 32)]) rfl rfl db lQ vL z5 rfl U db (fun _ h=>by cases h) a2.own (bG (n:=1) a0.get Z) rfl rfl (by show (_ + _) * 1<=_;simp only [be,Xq,Xx];(try simp only [Xz,Xq,Xx]);omega) On fun A42 aC a1=>?_);rw [show ([dT ((w.getD ((j:Int) - 1).toNat 0) ^^^ 32)]:List Value)=aw [(w.getD ((j:Int) - 1).toNat 0) ^^^ 32] from rfl,fA] at a1;obtain ⟨a6,ab⟩:=Fresh.grow a2 (a3.trans a0.le) wf a1;refine a9<|.I Z<|.nil<|av<|.region<|.J Z<|.p (tL Z Z O)<|.I Z<|.nil ?_;exact ⟨⟨j - 1,o ++ [(w.getD ((j:Int) - 1).toNat 0) ^^^ 32],aC⟩,am.cons Z<|am.cons Z<|am.cons (Xk (fun z:Int=>some (num z)) O)<|am.nil _,Z,⟨⟨by omega,by rw [ho,htn];exact DC O hj⟩,ab,a6⟩,O1⟩
 refine ak.exit<|ag<|.sq fun ay=>.region<|.J Z<|.m (fun aa=>fb (s:=o) Z db u9 u5 V.slc ?_);refine aa<|.I Z<|.nil<|ay<|.rt (by exact aH Z (⟨by unfold gh;(rw [Xw (by simpa using ‹(!rN w)=false›),ho,show j=0 by omega];rfl),a3,a4⟩))
theorem zM (w:W8) (A:AH) (hw:w.length<=1000000):bH prog 95 #[aM (w)] A (fun v A1=>v=aM (c8 w)/\A.le A1/\A1.wf):=by
 refine aN (e:=[(0,aM (w))]) (args:=[aM (w)]) call95 func95 Z results95 ntmps95 Z Z Z (fun wf=>?_);have aa:=AH.le.refl A;refine ak.sq fun h2=>.region<|.I Z<|.nil<|h2<|.seq fun _ h4=>.sq fun h6=>.region<|.J Z<|.m (fun aS=>ax Z (Kf w A) ?_);rintro v8 A9 ⟨rfl,rfl⟩;refine aS<|.p (ff Z)<|.nil<|h6<|.ifB Z (fun aY=>?_) (fun aY=>?_)
 ·refine ak.sq fun aB=>.region<|.I Z<|.nil<|aB<|.rt (by exact aH Z (⟨by unfold c8;(rw [Xy (by simpa using ‹(!rN w)=true›)];rfl),aa,wf⟩))
 refine ak.skip<|h4 _ _<|.sq fun aC=>.region<|.I Z<|.nil<|aC<|.sq fun aD=>.sq fun aF=>.region ?_;refine Ops.I Z<|.nil<|aF<|.block<|.loop (X:=Nat × W8 × Value) (fun ⟨i,o,s⟩=>[(0,aM (w)),(3,s),(4,num ((i:Nat):Int))]) (fun ⟨i,o,s⟩ B=>(i<=w.length/\(w.drop i).foldl push o=uq w/\o.length<=i)/\A.le B/\Fresh A B s 1 (aw o)) (fun ⟨i,o,s⟩=>w.length - i) (⟨0,[],.slice none 0 0⟩) (jh Z Z Z) (⟨⟨XZ _,Z,XX _⟩,aa,(Fresh.nil A A 1)⟩) ?_;rintro ⟨i,o,s⟩ B21 ⟨⟨hi,h3,h4⟩,a0,V⟩;refine ak.wf fun a6=>?_;have hk:=Rd (w:=w) (by simpa using ‹(!rN w)=false›);refine ak.sq fun aG=>.sq fun aI=>.region<|.J Z<|.J Z<|.p (cM u9 Z)<|.p (bK Z Z)<|.nil<|aI<|.if rfl (fun aZ=>?_) (fun aZ=>?_)
 ·refine ak.skip<|aG<|.sq fun a9=>.block<|.sq fun aP=>.region<|.J Z<|.p (bx (n:=o.length) db Z V.slc O (fa _))<|.I Z<|.nil ?_;refine aP<|.join (fun f A1=>am [(30,.bool (decide (0 < o.length/\o.getD (o.length - 1) 0=w.getD i 0 ^^^ 32))),(0,aM (w)),(3,s),(4,num ((i:Nat):Int)),(9,num ((i:Nat):Int)),(10,aM (w)),(11,num ((w.length:Nat):Int)),(12,.bool (decide (i < w.length))),(15,s),(16,num ((o.length:Nat):Int)),(5,num ((o.length:Nat):Int))] f.e/\f.ds=[]/\B21=A1) ?_ ?_
  ·refine ak.drawn [0,1,2,3,4,5,6,7,8,9,10,11,12,13] mixed Y Y Z<|.p Z (aK Z)<|.p Z (ej (b:=0) Z Z)<|.p Z (aK Z)<|.part (t:=19) Z (fun b0=>?_) (fun b0=>?_)
   ·refine DOps.qOn Z Z Z Z Z (aK Z)<|.qOn Z Z Z Z Z (aK Z)<|.qOn Z Z Z Z Z (iO (b:=1) Z Z O) ?_;obtain ⟨av,a7,b7,bd,b6,bb,ba,aA,aT,a8,b5,a3⟩:=bz.at (i:=o.length - 1) V.slc Ox O;refine DOps.qOn Z Z Z Z Z (al db lQ Z aA Z aT) ?_;have ac:=cR (off:=a7 + (o.length - 1) * 1) a8 ((cb a3).trans (gW O));refine DOps.qOn Z Z Z Z Z (ah OA Z Z a8 ((cb a3).trans (gW O)))<|.qOn Z Z Z Z Z (aK Z)<|.qOn Z Z Z Z Z (aK Z)<|.qOn Z Z Z Z Z (ng u9 Z Z O)<|.lOn Z Z Z Z Z (fun _ _ ad _=>ax Z (Fk (w.getD i 0) B21 (we hk O)) ?_);rintro bl A39 ⟨rfl,rfl⟩;refine ad _ _ (bg.list (L:=[(⟨av,a7 + (o.length - 1) * 1,none⟩,dT (o.getD (o.length - 1) 0))]) Y (bf ac bX))<|.qOn Z Z Z Z Z (zz Z Z)<|.p Z (aJ Z Z)<|.done ?_;exact ⟨am.cons (show some _=some _ from Xk (fun b=>some (Value.bool b)) (show (decide ((o.getD (o.length - 1) 0)=((w.getD i 0) ^^^ 32)))=decide (0 < o.length/\o.getD (o.length - 1) 0=w.getD i 0 ^^^ 32) from (by simp only [‹0 < _›,true_and])))<|si Z Z Z Z Z Z Z Z Z Z,Z,Z⟩
   refine DOps.qOff Z Z Z Z Z Z<|.qOff Z Z Z Z Z Z<|.qOff Z Z Z Z Z Z<|.qOff Z Z Z Z Z Z<|.qOff Z Z Z Z Z Z<|.qOff Z Z Z Z Z Z<|.qOff Z Z Z Z Z Z<|.qOff Z Z Z Z Z Z<|.lOff Z Z Z Z Z Z<|.qOff Z Z Z Z Z Z ?_;refine DOps.p Z (aO Z Z)<|.done ?_;exact ⟨am.cons (show some _=some _ from Xk (fun b=>some (Value.bool b)) (show (false)=decide (0 < o.length/\o.getD (o.length - 1) 0=w.getD i 0 ^^^ 32) from (by simp only [‹¬ 0 < _›,false_and,decide_false])))<|si Z Z Z Z Z Z Z Z Z Z,Z,Z⟩
  rintro ⟨fe,fd⟩ _ ⟨hE,rfl,rfl⟩;refine ak.forget hE<|.if rfl (fun b1=>?_) (fun b1=>?_)
  ·refine ak.region<|.J Z<|.J Z<|.p (iO (b:=1) Z Z O) ?_;obtain ⟨ay,bc,az,b2,aV,b9⟩:=V.nonnil (by intro q;have:=Xk List.length q;simp only [be,Xx] at this;omega);subst b2;rw [be,VY] at aV;have a4:=V.take (k:=o.length - 1) O;rw [VY,ks] at a4;refine Ops.p (m7 db lQ Z Z O)<|.I Z<|.nil<|a9<|.region<|.J Z<|.p (bk (b:=1) Z Z O)<|.I Z<|.nil ?_;exact ⟨⟨i + 1,o.take (o.length - 1),.slice (some ⟨ay,0,none⟩) (o.length - 1) az⟩,jh Z Z Z,Z,⟨⟨by omega,by exact wh Oz h3 ‹_›,by simp only [Xz,Vz,Xq,Xx];omega⟩,a0,a4⟩,O1⟩
  refine ak.region<|.J Z<|.J Z<|.J Z<|.p (ng u9 Z Z O)<|.m (fun ag=>aE (c:=[dT (w.getD i 0)]) a6 rfl (aq db lQ z5 rfl U U rfl) fun A46 b8 a1=>?_);have a5:=V.le a1.le;refine ag<|.m (fun ai=>cm (ys:=[dT (w.getD i 0)]) rfl rfl db lQ vL z5 rfl U db (fun _ h=>by cases h) a5.own (bG (n:=1) a1.get Z) rfl rfl (by show (_ + _) * 1<=_;simp only [be,Xq,Xx];(try simp only [Xz,Xq,Xx]);omega) On fun A52 b3 a2=>?_);rw [show ([dT (w.getD i 0)]:List Value)=aw [w.getD i 0] from rfl,fA] at a2;obtain ⟨ab,ar⟩:=Fresh.grow a5 (a0.trans a1.le) wf a2;refine ai<|.I Z<|.nil<|a9<|.region<|.J Z<|.p (bk (b:=1) Z Z O)<|.I Z<|.nil ?_;exact ⟨⟨i + 1,o ++ [w.getD i 0],b3⟩,jh Z Z Z,Z,⟨⟨by omega,by exact wi Oz h3 ‹_›,by simp only [Xz,Vz,Xq,Xx];omega⟩,ar,ab⟩,O1⟩
 refine ak.exit<|aD<|.sq fun aR=>.region<|.J Z<|.m (fun ap=>fb (s:=o) Z db u9 u5 V.slc ?_);refine ap<|.I Z<|.nil<|aR<|.rt (by exact aH Z (⟨by unfold c8;(rw [Xw (by simpa using ‹(!rN w)=false›),<- h3,qz O];rfl),a0,a6⟩))
theorem IP (x y:W8) (A:AH) (hx:x.length<=1000000) (hy:y.length<=1000000):bH prog 25 #[aM (x),aM (y)] A (fun v A1=>v=num (eu x y)/\A=A1):=by
 refine aN (e:=[(0,aM (x)),(1,aM (y))]) (args:=[aM (x),aM (y)]) call25 func25 Z results25 ntmps25 Z Z Z (fun wf=>?_);have aS:=AH.le.refl A;refine ak.sq fun h2=>.region<|.I Z<|.nil<|h2<|.sq fun h4=>.sq fun h6=>.region<|.J Z<|.m (fun aB=>ax Z (Kf x A) ?_);rintro v8 A9 ⟨rfl,rfl⟩;refine aB<|.p (ff Z)<|.J Z<|.partB (t:=11) Z (fun aC=>?_) (fun aC=>?_)
 ·refine Ops.off Z Z Z Z<|.off Z Z Z Z<|.off Z Z Z Z<|.p (aJ Z Z)<|.nil<|h6<|.cond_true Z<|.sq fun a1=>.region<|.I Z ?_;refine Ops.nil<|a1<|.rt (by exact aH Z (⟨by (rw [Je ‹_›];rfl),Z⟩))
 refine Ops.on Z Z<|.J Z<|.on Z Z<|.m (fun h=>ax Z (Kf y A) ?_);rintro aT A16 ⟨rfl,rfl⟩;refine h<|.on Z Z<|.p (ff Z)<|.p (aO Z Z)<|.nil<|h6<|.ifB Z (fun aD=>?_) (fun aD=>?_)
 ·refine ak.sq fun a2=>.region<|.I Z<|.nil<|a2<|.rt (by exact aH Z (⟨by (rw [Jf ‹_›];rfl),Z⟩))
 refine ak.skip<|h4<|.sq fun a3=>.sq fun a4=>.region<|.J Z<|.p (cM u9 Z)<|.J Z<|.p (cM u9 Z)<|.p (fy Z Z) ?_;refine Ops.nil<|a4<|.if rfl (fun aF=>?_) (fun aF=>?_)
 ·refine ak.sq fun a5=>.sq fun a6=>.region<|.J Z<|.p (cM u9 Z)<|.J Z<|.p (cM u9 Z)<|.p (bK Z Z)<|.nil<|a6 ?_;refine ak.if rfl (fun aG=>?_) (fun aG=>?_)
  ·refine ak.sq fun a7=>.region<|.I Z<|.nil<|a7<|.rt (by exact aH Z (⟨by (rw [l5 ‹_› ‹_›];first | (rw [oe O] at hc;rw [<- hc];rfl) | (rw [fJ O O,Xw ‹_›] at hc;rw [<- hc];rfl) | (rw [fJ O O,Xy ‹_›,Xw ‹_›] at hc;rw [<- hc];rfl) | (rw [nf,Xw ‹¬ x.length=y.length›,Xw ‹x.length < y.length›];rfl) | (rw [nf,Xw ‹¬ x.length=y.length›,Xy ‹¬ x.length < y.length›];rfl)),Z⟩))
  refine ak.skip<|a5<|.sq fun a8=>.region<|.I Z<|.nil<|a8<|.rt (by exact aH Z (⟨by (rw [l5 ‹_› ‹_›];first | (rw [oe O] at hc;rw [<- hc];rfl) | (rw [fJ O O,Xw ‹_›] at hc;rw [<- hc];rfl) | (rw [fJ O O,Xy ‹_›,Xw ‹_›] at hc;rw [<- hc];rfl) | (rw [nf,Xw ‹¬ x.length=y.length›,Xw ‹x.length < y.length›];rfl) | (rw [nf,Xw ‹¬ x.length=y.length›,Xy ‹¬ x.length < y.length›];rfl)),Z⟩))
 refine ak.skip<|a3<|.sq fun a9=>.sq fun aa=>.region<|.I Z<|.nil<|aa<|.block<|.loop (X:=Nat) (fun k=>[(0,aM (x)),(1,aM (y)),(5,num ((k:Nat):Int))]) (fun k B=>(k<=x.length/\yy (x.drop k) (y.drop k)=nf x y)/\A=B) (fun k=>x.length - k) 0 (jh Z Z Z) (⟨⟨XZ _,(Jw ‹_›).symm⟩,Z⟩) ?_;rintro k B40 ⟨⟨hk,hc⟩,rfl⟩;refine ak.sq fun ab=>.sq fun ac=>.region<|.J Z<|.J Z<|.p (cM u9 Z)<|.p (bK Z Z)<|.nil<|ac<|.if rfl (fun aI=>?_) (fun aI=>?_)
 ·refine ak.skip<|ab<|.sq fun ad=>.block<|.sq fun ag=>.region<|.J Z<|.J Z<|.p (ng u9 Z Z O)<|.m (fun V=>ax Z (qT (x.getD k 0) A) ?_);rintro aV A52 ⟨rfl,rfl⟩;refine V<|.I Z<|.nil<|ag<|.sq fun ai=>.region<|.J Z<|.J Z<|.p (ng u9 Z Z O)<|.m (fun a0=>ax Z (qT (y.getD k 0) A) ?_);rintro aY A58 ⟨rfl,rfl⟩;refine a0<|.I Z<|.nil<|ai<|.sq fun ap=>.sq fun ar=>.region<|.J Z<|.J Z<|.p (iU Z Z) ?_;refine Ops.nil<|ar<|.if rfl (fun aP=>?_) (fun aP=>?_)
  ·refine ak.sq fun av=>.region<|.I Z<|.nil<|av<|.rt (by exact aH Z (⟨by (rw [l5 ‹_› ‹_›];first | (rw [oe O] at hc;rw [<- hc];rfl) | (rw [fJ O O,Xw ‹_›] at hc;rw [<- hc];rfl) | (rw [fJ O O,Xy ‹_›,Xw ‹_›] at hc;rw [<- hc];rfl) | (rw [nf,Xw ‹¬ x.length=y.length›,Xw ‹x.length < y.length›];rfl) | (rw [nf,Xw ‹¬ x.length=y.length›,Xy ‹¬ x.length < y.length›];rfl)),Z⟩))
  refine ak.skip<|ap<|.sq fun ay=>.region<|.J Z<|.J Z<|.p (EF Z Z)<|.nil<|ay<|.if rfl (fun aR=>?_) (fun aR=>?_)
  ·refine ak.sq fun az=>.region<|.I Z<|.nil<|az<|.rt (by exact aH Z (⟨by (rw [l5 ‹_› ‹_›];first | (rw [oe O] at hc;rw [<- hc];rfl) | (rw [fJ O O,Xw ‹_›] at hc;rw [<- hc];rfl) | (rw [fJ O O,Xy ‹_›,Xw ‹_›] at hc;rw [<- hc];rfl) | (rw [nf,Xw ‹¬ x.length=y.length›,Xw ‹x.length < y.length›];rfl) | (rw [nf,Xw ‹¬ x.length=y.length›,Xy ‹¬ x.length < y.length›];rfl)),Z⟩))
  refine ak.skip<|ad<|.region<|.J Z<|.p (bk (b:=1) Z Z O)<|.I Z<|.nil ?_;exact ⟨k + 1,jh Z Z Z,Z,⟨⟨by omega,by rw [fJ O O,Xy ‹_›,Xy ‹_›] at hc;exact hc⟩,Z⟩,O1⟩
 refine ak.exit<|a9<|.sq fun aA=>.region<|.I Z<|.nil<|aA<|.rt (by exact aH Z (⟨by (rw [l5 ‹_› ‹_›];first | (rw [oe O] at hc;rw [<- hc];rfl) | (rw [fJ O O,Xw ‹_›] at hc;rw [<- hc];rfl) | (rw [fJ O O,Xy ‹_›,Xw ‹_›] at hc;rw [<- hc];rfl) | (rw [nf,Xw ‹¬ x.length=y.length›,Xw ‹x.length < y.length›];rfl) | (rw [nf,Xw ‹¬ x.length=y.length›,Xy ‹¬ x.length < y.length›];rfl)),Z⟩))
theorem MU (c:UInt8) (g:Int) (A:AH) (hg:1<=g/\g<=8):bH prog 68 #[dT (c),num (g)] A (fun v A1=>v=num (N0 g c)/\A=A1):=by
 refine aN (e:=[(0,dT (c)),(1,num (g))]) (args:=[dT (c),num (g)]) call68 func68 Z results68 ntmps68 Z Z Z (fun wf=>?_);have ad:=AH.le.refl A;have ab:=(c - 97).toNat_lt;have ac:=(c - 65).toNat_lt;refine ak.sq fun h2=>.region<|.I Z<|.nil<|h2<|.sq fun h4=>.block<|.sq fun h6=>.region<|.J Z ?_;refine Ops.p (rQ (d:=97) Z Z)<|.J Z<|.part (t:=8) Z (fun p7=>?_) (fun p7=>?_)
 ·refine Ops.on Z Z<|.J Z<|.on Z Z<|.p (nx (d:=97) Z Z)<|.on Z Z<|.p (mg u5 u3 Z)<|.on Z Z<|.J Z<|.on Z Z<|.p (iU Z Z) ?_;refine Ops.p (aJ Z Z)<|.I Z<|.nil<|h6<|.if rfl (fun p8=>?_) (fun p8=>?_)
  ·refine ak.sq fun a0=>.region<|.J Z<|.p (nx (d:=97) Z Z)<|.p (mg u5 u3 Z)<|.p (oE (a:=2) Z Z O)<|.I Z<|.nil<|a0<|.rt (by exact aH Z (⟨by (rw [<- LD hg ‹_› ‹_›];rfl),Z⟩))
  refine ak.sq fun V=>.region<|.J Z<|.p (rQ (d:=65) Z Z)<|.J Z<|.part (t:=22) Z (fun a7=>?_) (fun a7=>?_)
  ·refine Ops.on Z Z<|.J Z<|.on Z Z<|.p (nx (d:=65) Z Z)<|.on Z Z<|.p (mg u5 u3 Z)<|.on Z Z<|.J Z<|.on Z Z<|.p (iU Z Z) ?_;refine Ops.p (aJ Z Z)<|.I Z<|.nil<|V<|.if rfl (fun a8=>?_) (fun a8=>?_)
   ·refine ak.sq fun a1=>.region<|.J Z<|.p (nx (d:=65) Z Z)<|.p (mg u5 u3 Z)<|.p (oE (a:=2) Z Z O)<|.p (bk (b:=1) Z Z O)<|.I Z<|.nil<|a1 ?_;refine ak.ret ?_;repeat first | with_reducible refine cz ?_ | with_reducible refine cj ?_
    exact aH Z (⟨by (rw [<- JJ hg ‹_› ‹_›];rfl),Z⟩)
   refine ak.skip<|h4<|.sq fun a2=>.region<|.I Z<|.nil<|a2<|.rt (by exact aH Z (⟨by (rw [Bj (fun h=>by first | exact ‹¬ (97:UInt8)<=c› h.1 | exact ‹¬ (((c - 97).toNat:Nat):Int) < g› h.2) (fun h=>by first | exact ‹¬ (65:UInt8)<=c› h.1 | exact ‹¬ (((c - 65).toNat:Nat):Int) < g› h.2)];rfl),Z⟩))
  refine Ops.off Z Z Z Z<|.off Z Z Z Z<|.off Z Z Z Z<|.off Z Z Z Z<|.off Z Z Z Z<|.p (aO Z Z)<|.I Z<|.nil<|V<|.cond_false Z ?_;refine ak.skip<|h4<|.sq fun a3=>.region<|.I Z<|.nil<|a3<|.rt (by exact aH Z (⟨by (rw [Bj (fun h=>by first | exact ‹¬ (97:UInt8)<=c› h.1 | exact ‹¬ (((c - 97).toNat:Nat):Int) < g› h.2) (fun h=>by first | exact ‹¬ (65:UInt8)<=c› h.1 | exact ‹¬ (((c - 65).toNat:Nat):Int) < g› h.2)];rfl),Z⟩))
 refine Ops.off Z Z Z Z<|.off Z Z Z Z<|.off Z Z Z Z<|.off Z Z Z Z<|.off Z Z Z Z<|.p (aO Z Z)<|.I Z<|.nil<|h6<|.cond_false Z ?_;refine ak.sq fun X=>.region<|.J Z<|.p (rQ (d:=65) Z Z)<|.J Z<|.part (t:=22) Z (fun a9=>?_) (fun a9=>?_)
 ·refine Ops.on Z Z<|.J Z<|.on Z Z<|.p (nx (d:=65) Z Z)<|.on Z Z<|.p (mg u5 u3 Z)<|.on Z Z<|.J Z<|.on Z Z<|.p (iU Z Z) ?_;refine Ops.p (aJ Z Z)<|.I Z<|.nil<|X<|.if rfl (fun aa=>?_) (fun aa=>?_)
  ·refine ak.sq fun a4=>.region<|.J Z<|.p (nx (d:=65) Z Z)<|.p (mg u5 u3 Z)<|.p (oE (a:=2) Z Z O)<|.p (bk (b:=1) Z Z O)<|.I Z<|.nil<|a4 ?_;refine ak.ret ?_;repeat first | with_reducible refine cz ?_ | with_reducible refine cj ?_
   exact aH Z (⟨by (rw [<- JJ hg ‹_› ‹_›];rfl),Z⟩)
  refine ak.skip<|h4<|.sq fun a5=>.region<|.I Z<|.nil<|a5<|.rt (by exact aH Z (⟨by (rw [Bj (fun h=>by first | exact ‹¬ (97:UInt8)<=c› h.1 | exact ‹¬ (((c - 97).toNat:Nat):Int) < g› h.2) (fun h=>by first | exact ‹¬ (65:UInt8)<=c› h.1 | exact ‹¬ (((c - 65).toNat:Nat):Int) < g› h.2)];rfl),Z⟩))
 refine Ops.off Z Z Z Z<|.off Z Z Z Z<|.off Z Z Z Z<|.off Z Z Z Z<|.off Z Z Z Z<|.p (aO Z Z)<|.I Z<|.nil<|X<|.cond_false Z ?_;refine ak.skip<|h4<|.sq fun a6=>.region<|.I Z<|.nil<|a6<|.rt (by exact aH Z (⟨by (rw [Bj (fun h=>by first | exact ‹¬ (97:UInt8)<=c› h.1 | exact ‹¬ (((c - 97).toNat:Nat):Int) < g› h.2) (fun h=>by first | exact ‹¬ (65:UInt8)<=c› h.1 | exact ‹¬ (((c - 65).toNat:Nat):Int) < g› h.2)];rfl),Z⟩))
theorem m8 (w:W8) (g:Int) (A:AH) (hw:w.length<=9223372036854775807) (hg:1<=g/\g<=8):bH prog 27 #[aM (w),num (g)] A (fun v A1=>v=.bool (decide (bZ g w=0))/\A=A1):=by
 refine aN (e:=[(0,aM (w)),(1,num (g))]) (args:=[aM (w),num (g)]) call27 func27 Z results27 ntmps27 Z Z Z (fun wf=>?_);have a8:=AH.le.refl A;refine ak.sq fun h2=>.region<|.I Z<|.nil<|h2<|.sq fun h4=>.sq fun h6=>.region<|.I Z<|.nil ?_;refine h6<|.block<|.loop (X:=Nat) (fun i=>[(0,aM (w)),(1,num (g)),(5,num ((i:Nat):Int))]) (fun i B=>(i<=w.length/\∀ j,j < i->¬ N0 g (w.getD j 0) < 0)/\A=B) (fun i=>w.length - i) 0 (jh Z Z Z) (⟨⟨XZ _,fun j h=>by omega⟩,Z⟩) ?_;rintro i B8 ⟨⟨hi,hn⟩,rfl⟩;refine ak.sq fun a0=>.sq fun a1=>.region<|.J Z<|.J Z<|.p (cM u9 Z)<|.p (bK Z Z)<|.nil<|a1<|.if rfl (fun a6=>?_) (fun a6=>?_)
 ·refine ak.skip<|a0<|.sq fun a2=>.block<|.sq fun a3=>.region<|.J Z<|.J Z<|.p (ng u9 Z Z O)<|.J Z ?_;refine Ops.m (fun V=>ax Z (MU (w.getD i 0) (g) A O) ?_);rintro a9 A20 ⟨rfl,rfl⟩;refine V<|.p (iU Z Z)<|.nil<|a3<|.if rfl (fun a7=>?_) (fun a7=>?_)
  ·refine ak.sq fun a4=>.region<|.I Z<|.nil<|a4<|.rt (by exact aH Z (⟨by (rw [GZ hg O ‹_›];rfl),Z⟩))
  refine ak.skip<|a2<|.region<|.J Z<|.p (bk (b:=1) Z Z O)<|.I Z<|.nil ?_;exact ⟨i + 1,jh Z Z Z,Z,⟨⟨by omega,fun j h=>(XV.1 h).elim (hn j) (fun z=>by subst z;assumption)⟩,Z⟩,O1⟩
 refine ak.exit<|h4<|.sq fun a5=>.region<|.J Z<|.p (cM u9 Z)<|.p (oD (b:=100000) Z Z)<|.I Z<|.nil<|a5 ?_;refine ak.ret ?_;repeat first | with_reducible refine cz ?_ | with_reducible refine cj ?_
 exact aH Z (⟨by (rw [DH hg O hn];rfl),Z⟩)
end Go.Proofs.YtjppkekmddjcfaaGreatDoor
