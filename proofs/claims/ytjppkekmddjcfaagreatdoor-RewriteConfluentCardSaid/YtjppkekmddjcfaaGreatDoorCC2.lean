import Derived.Test.YtjppkekmddjcfaaGreatDoorCC1
import Derived.RangeFuncSeq
import Derived.RangeFuncRecord
import Derived.TacticsIn
import Derived.OrdersIn
import Derived.Shelf.SlGeneric
import Derived.Shelf.SlLaysF0
import Derived.Shelf.Lays
import Derived.Ground.SlsfProg
import Derived.Ground.NamesProg
import Derived.Test.YtjppkekmddjcfaaGreatDoorProg
import Derived.Shelf.Strings.Search3
import Derived.Test.YtjppkekmddjcfaaGreatDoorCards
import Derived.Test.YtjppkekmddjcfaaGreatDoorTie
import Derived.WalkKit
import Derived.ProofKit
import Derived.OpenShut
import Derived.Carry
import Derived.SliceStrings
import Derived.ChangeSame
import Derived.ChangeMaps5
import Derived.Deep.DeepHandedRow
import Derived.Deep.DeepLaidRun
import Derived.Lib.LaidTab
import Derived.Shelf.Vars
import Derived.Recover
set_option linter.unusedSectionVars false
set_option linter.unusedVariables false
set_option linter.unusedSimpArgs false
namespace Go.Proofs.YtjppkekmddjcfaaGreatDoor
open Go Go.RowKit
namespace V

abbrev FR (l:Nat):Fence:=Fence.wide.inRound l
def wH (F:Fence):Prop:=F=Fence.wide\/∃ l,F=FR l
theorem kg:wH Fence.wide:=.inl Z
theorem qy (l:Nat):wH (FR l):=.inr ⟨l,rfl⟩
def i6 (o:Oper):Bool:=match o.op with | .defer _=>false | _=>true

section
variable {P:Program} {F:Fence} {n:Nat}
theorem zR (hF:wH F) {g:FuncId} {args:Array Value} {w:World} {R:Ending->World->Prop} (h:Calls P g args w R):CallsIn F n P g args w R:=by
  have:=callsIn_wide (n:=n).2 h
  rcases hF with rfl | ⟨l,rfl⟩
  · exact this
  · exact this
theorem GZ (hF:wH F) {row:String} {args:Array Value} {w:World} {R:Value->World->Prop} (h:Rows P row args w R):RowsIn F n P row args w R:=fun c cs _=>by
  obtain ⟨v,w',r,s⟩:=h c cs
  have s':=stepsIn_wide.2 s
  rcases hF with rfl | ⟨l,rfl⟩
  · exact ⟨v,w',r,s'⟩
  · exact ⟨v,w',r,s'⟩
theorem ru (hF:wH F) (f:FuncId):F.fn f:=by rcases hF with rfl | ⟨l,rfl⟩ <;> trivial
theorem se (hF:wH F):F.depth.isSome=true->1<=n:=by rcases hF with rfl | ⟨l,rfl⟩ <;> (intro q;cases q)
theorem Tv (hF:wH F) {o:Oper} {a:Act} {w:World} {K:Act->World->Prop} {Q:Exit->Act->World->Prop} (hd:i6 o=true) (h:o.wp P a w K Q):o.wpIn F n P a w K Q:=by
  have hs:o.semAt F.round a.eval=execOp a.eval o:=Oper.semAt_eq _ _ _ (fun c hc=>by simp [i6,hc] at hd)
  refine ⟨fun f _=>ru hF f,?_⟩
  rw [hs]
  unfold Oper.wp at h
  generalize (execOp a.eval o).run P w=r at h ⊢
  cases r with
  | ok x w' =>
    cases x <;> simp only [Oper.upon] at h <;> simp only [Oper.uponIn] <;>
      first | exact h | exact h.elim | exact ⟨se hF,zR hF h⟩ | exact ⟨se hF,GZ hF h⟩
  | halt x w'=>cases x <;> simp only [Oper.upon] at h <;> simp only [Oper.uponIn] <;> exact h

theorem yR (hF:wH F) {all:Array Oper} {Q:Exit->Act->World->Prop} (hQ:¬ LetsOut Q):∀ (os:List Oper) (a:Act) (w:World),os.all i6=true->wpList P all Q os a w->wpListIn F n P all Q os a w
  | [],_,_,_,h=>h
  | o :: os,a,w,hd,h=>by
    simp only [List.all_cons,Bool.and_eq_true] at hd
    unfold wpList at h
    unfold wpListIn
    split
    · rename_i hw
      rw [if_pos hw] at h
      rcases h with h | ⟨_,h⟩
      · exact Tv hF hd.1 (Oper.wp_mono (fun a w=>yR hF hQ os a w hd.2) h)
      · exact absurd h hQ
    · rename_i hw
      rw [if_neg hw] at h
      exact ⟨fun f _=>ru hF f,yR hF hQ os _ w hd.2 h⟩

theorem yq (hF:wH F) {ops:Array Oper} {Q:Exit->Act->World->Prop} (hQ:¬ LetsOut Q) (hd:ops.toList.all i6=true):∀ (fuel:Nat) (l:Array Bool) (a:Act) (w:World),wpAny P .any ops Q fuel l a w->wpAnyIn F n P .any ops Q fuel l a w
  | 0,_,_,_,h=>h
  | fuel + 1,l,a,w,h=>⟨h.1,fun i hi=>by
      have h2:=h.2 i hi
      unfold wpOp at h2
      unfold wpOpIn
      split
      · rename_i q;simp only [q] at h2;exact yq hF hQ hd fuel _ a w h2
      · rename_i o q
        simp only [q] at h2
        have ho:i6 o=true:=List.all_eq_true.1 hd o (by
          obtain ⟨hlt,e⟩:=Array.getElem?_eq_some_iff.1 q
          rw [<- e];exact Array.getElem_mem_toList hlt)
        split
        · rename_i hw
          rw [if_pos hw] at h2
          rcases h2 with h2 | ⟨_,h2⟩
          · exact Tv hF ho (Oper.wp_mono (fun a w=>yq hF hQ hd fuel _ a w) h2)
          · exact absurd h2 hQ
        · rename_i hw
          rw [if_neg hw] at h2
          exact ⟨fun f _=>ru hF f,yq hF hQ hd fuel _ _ w h2⟩⟩
end

def d6 (P:Program) (nt:Nat) (F:Fence) (c:Code) (Q:Exit->Fr->AH->Prop) (f:Fr) (A:AH):Prop :=
  ∀ a w,cO nt f a->co A w->c.wpIn F 0 P (k8 nt Q A w) a w
def sa (Q:Exit->Fr->AH->Prop):Prop:=∀ f A,¬ Q .outgrown f A
theorem pr {K:Fr->AH->Prop} {Q:Exit->Fr->AH->Prop} (h:sa Q):sa (rg K Q):=fun f A=>h f A
theorem kZ {i:Nat} {Q:Exit->Fr->AH->Prop} (h:sa Q):sa (my i Q):=fun f A=>h f A
def vR (R:Fr->AH->Prop):Exit->Fr->AH->Prop
  | .normal,f,A=>R f A
  | _,_,_=>False
theorem iJ {R:Fr->AH->Prop}:sa (vR R):=fun _ _ h=>h
theorem Bj {nt:Nat} {Q:Exit->Fr->AH->Prop} (h:sa Q) {A:AH} {w:World}:¬ LetsOut (dH nt Q A w):=fun ⟨_,_,_,_,_,_,_,q,_⟩=>h _ _ q
theorem Eh {nt:Nat} {Q:Exit->Fr->AH->Prop} (h:sa Q) {A:AH} {w:World}:¬ LetsOut (k8 nt Q A w):=fun ⟨_,_,_,_,_,_,_,q,_⟩=>h _ _ q

section
variable {P:Program} {nt:Nat} {F:Fence} {Q:Exit->Fr->AH->Prop} {f:Fr} {A:AH} {e:gu} {ds:List Deferred}
theorem d6.wf {c:Code} (h:A.wf->d6 P nt F c Q f A):d6 P nt F c Q f A:=fun a w ha hw=>h hw.wf a w ha hw
theorem d6.skip (h:Q .normal f A):d6 P nt F .skip Q f A:=fun _ _ ha hw=>wpIn_skip (.self ha hw h fun _ q=>by cases q)
theorem d6.seq {x y:Code} (h:∀ K:Fr->AH->Prop,(∀ f A,d6 P nt F y Q f A->K f A)->d6 P nt F x (rg K Q) f A):d6 P nt F (x.seq y) Q f A:=by
  intro a w ha hw
  refine wpIn_seq (wpIn_mono (h _ (fun _ _ h=>h) a w ha hw) ?_)
  rintro e a' w' ⟨f',A',h1,h2,h3,h4,h5⟩
  cases e with
  | normal=>exact wpIn_mono (h4 a' w' h1 h2) fun x a'' w'' g=>g.step h3
  | _=>exact ⟨f',A',h1,h2,h3,h4,h5⟩
theorem d6.cond {c:Operand} {x y:Code} {t:Bool} (hc:bN f.e c=some (.bool t)) (h1:t=true->d6 P nt F x Q f A) (h2:t=false->d6 P nt F y Q f A) :
    d6 P nt F (.cond c x y) Q f A:=fun a w ha hw =>
  wpIn_cond_split (cB ha hc) (fun e=>h1 e a w ha hw) (fun e=>h2 e a w ha hw)
theorem d6.cond_false {c:Operand} {x y:Code} (hc:bN f.e c=some (.bool false)) (h1:d6 P nt F y Q f A):d6 P nt F (.cond c x y) Q f A :=
  d6.cond hc (fun e=>by cases e) (fun _=>h1)
theorem d6.if {c:Operand} {x y:Code} {p:Prop} [Decidable p] (hc:bN e c=some (.bool (decide p))) (h1:p->d6 P nt F x Q ⟨e,ds⟩ A) (h2:¬ p->d6 P nt F y Q ⟨e,ds⟩ A):d6 P nt F (.cond c x y) Q ⟨e,ds⟩ A :=
  d6.cond hc (fun h=>h1 (of_decide_eq_true h)) (fun h=>h2 (of_decide_eq_false h))
theorem d6.block {i:Nat} {c:Code} (h:d6 P nt F c (my i Q) f A):d6 P nt F (.block i c) Q f A:=fun a w ha hw=>by
  refine wpIn_block (wpIn_mono (h a w ha hw) ?_)
  rintro e a' w' ⟨f',A',h1,h2,h3,h4,h5⟩
  cases e with
  | exit j =>
    simp only [Exit.inBlock,my] at h4 ⊢
    split
    · rename_i q;rw [if_pos q] at h4;exact ⟨f',A',h1,h2,h3,h4,fun _ q=>by cases q⟩
    · rename_i q;rw [if_neg q] at h4;exact ⟨f',A',h1,h2,h3,h4,h5⟩
  | _=>exact ⟨f',A',h1,h2,h3,h4,h5⟩
theorem d6.region {id:Nat} {l:List Oper} (hF:wH F) (hQ:sa Q) (hd:l.all i6=true) (h:Ops P nt l.toArray l Q f A):d6 P nt F (.region id l.toArray false) Q f A :=
  fun a w ha hw=>wpIn_region_lit (yR hF (Eh hQ) l a w hd (h a w ha hw A w (.refl _ _)))
theorem d6.drawn {id:Nat} {ops:Array Oper} (C:List Nat) (hF:wH F) (hQ:sa Q) (hd:ops.toList.all i6=true) (hm:P.follows .mixedOrders=true) (hc:lS ops (Array.replicate ops.size false) C=true) (hn:Region.noSelect ops=true) (hl:C.length=ops.size)
    (h:bj P nt ops Q (Array.replicate ops.size false) [] C f A):d6 P nt F (.region id ops true) Q f A:=by
  intro a w ha hw
  obtain ⟨v1,s1⟩:=jb hw
  refine wpIn_mono (wpIn_region_any hm (yq hF (Bj hQ) hd _ _ _ _ (jZ (Q:=dH nt Q A w) (S:=dF ops []) _ _ _ _ ?_))) (fun _ _ _=>dH.q)
  have key:=h hc hn a _ ha v1 (fun p hp=>by cases hp) (fun j o _ hj=>by
    exfalso
    rcases Nat.lt_or_ge j ops.size with q | q
    · simp [q] at hj
    · simp [q] at hj) A w s1
  rw [hl] at key
  exact key
theorem d6.run {c:Code} (h:d6 P nt Fence.wide c Q f A):am P nt c Q f A:=fun a w ha hw=>wpIn_wide.1 (h a w ha hw)
theorem am.into {c:Code} (h:am P nt c Q f A):d6 P nt Fence.wide c Q f A:=fun a w ha hw=>wpIn_wide.2 (h a w ha hw)
end

def ld (P:Program) (l:Nat) (args:Array Value) (A:AH) (R:Value->AH->Prop):Prop :=
  ∀ w,co A w->YieldAt Fence.wide 0 P l args w fun e w'=>∃ A' v,e=.returned v/\co A' w'/\eD A w A' w'/\R v A'
section
variable {P:Program} {nt:Nat} {all:Array Oper} {Q:Exit->Fr->AH->Prop} {f:Fr} {A:AH} {e:gu} {ds:List Deferred} {d t:Nat} {op:Op} {ty:TypeId} {ps:String} {af:Array Edge} {os:List Oper} {v:Value} {T:eK}
end

def mark (D:Nat):Deferred:={ target:=.collected D,args:=#[] }
def zm (ps:List Nat) (xs:List Value) (e:gu):gu:=(ps.zip xs).foldl (fun e p=>(p.1,p.2) :: e) e
section
variable {P:Program} {nt:Nat} {Q:Exit->Fr->AH->Prop} {A:AH} {e:gu} {ds:List Deferred}
theorem tx:∀ (l:List (Nat × Value)) (e:gu) (t:Array Value),(∀ p ∈ l,p.1 < nt)->cO nt ⟨e,[]⟩ { tmps:=t,defers:=[] } ->
    cO nt ⟨l.foldl (fun e p=>(p.1,p.2) :: e) e,[]⟩ { tmps:=l.foldl (fun t p=>t.setIfInBounds p.1 p.2) t,defers:=[] }
  | [],_,_,_,h=>h
  | p :: l,e,t,hp,h=>tx l _ _ (fun q hq=>hp q (List.mem_cons_of_mem _ hq)) (by
      have:=h.put (some p.1) p.2 (fun t q=>by cases q;exact hp p List.mem_cons_self)
      exact this)
theorem lL (P:Program) {w:World} {b:Nat} {x y:Obj} (h:co A w) (g:A.get b=some (.obj true x)) (hy:∀ c e f,y ≠ .cells c e f):co (A.set b (.obj true y)) (w.putObj b y)/\eD A w (A.set b (.obj true y)) (w.putObj b y):=by
  obtain ⟨w',r,v1,s1⟩:=jj (P:=P) h g (y:=y) hy
  obtain ⟨g1,g2⟩:=h.obj g
  have:(setObj b y).run P w=.ok () (w.putObj b y):=by simp [setObj,Sem.run,g1,World.putObj]
  rw [r] at this
  have e:w'=w.putObj b y:=by injection this
  rw [<- e];exact ⟨v1,s1⟩
def Df (P:Program) (rs:List ResultVar) (Q:Ending->AH->Prop):Exit->Fr->AH->Prop
  | .normal,f,A | .ret,f,A=>∃ Ds:List Nat,f.ds=Ds.map mark/\Ds.Nodup/\(∀ D ∈ Ds,A.get D=some (.obj true (.deferred (some [])))) /\
      ∃ vs,∀ A',A'.wf->A'.n=A.n->(∀ b o,b ∉ Ds->A.get b=some o->A'.get b=some o)->gr P f.e A' rs=some vs/\Q (.returned (dT vs)) A'
  | _,_,_=>False

theorem ga.enterM {g:FuncId} {fn:Func} {c:Code} {args:List Value} {Qe:Ending->AH->Prop} (he:fu P g) (hf:P.funcs[g]? = some fn) (hb:fn.body=some c) (hn:args.length<=fn.ntmps)
    (h:A.wf->am P fn.ntmps c (Df P fn.results.toList Qe) ⟨rL args 0,[]⟩ A):ga P g args.toArray A Qe:=by
  refine ⟨he,fun w hw=>callsIn_wide.1 (callsIn_of_wp_marks (F:=Fence.wide) (n:=0) hf hb trivial ?_)⟩
  have ha:cO fn.ntmps ⟨rL args 0,[]⟩ { tmps:=args.toArray ++ Array.replicate (fn.ntmps - args.toArray.size) undef,defers:=[] }:=by
    refine ⟨by simp;omega,fun t v q=>?_,Z⟩
    obtain ⟨_,h2⟩:=uZ args 0 t v q
    simp only [Nat.sub_zero] at h2
    have hlt:t < args.length:=(List.getElem?_eq_some_iff.1 h2).1
    refine ⟨?_,by omega⟩
    simp only [Array.getD_eq_getD_getElem?]
    rw [Array.getElem?_append_left (by simpa using hlt)]
    simp [h2]
  have leave:∀ (Ds:List Nat) (B:AH) (f:Fr) (a:Act) (w':World) (vs:List Value),(∀ t v,ct f.e t=some v->a.tmps.getD t undef=v/\t < fn.ntmps)->a.tmps.size=fn.ntmps->co B w'->eD A w B w'->Ds.Nodup->(∀ D ∈ Ds,B.get D=some (.obj true (.deferred (some [])))) ->
      (∀ A',A'.wf->A'.n=B.n->(∀ b o,b ∉ Ds->B.get b=some o->A'.get b=some o)->gr P f.e A' fn.results.toList=some vs/\Qe (.returned (dT vs)) A') ->
      LeavesInM Fence.wide 0 P fn a.tmps (fun e w''=>∃ A',co A' w''/\eD A w A' w''/\Qe e A') (Ds.map mark) .returning w':=by
    intro Ds
    induction Ds with
    | nil =>
      intro B f a w' vs hsl hsz hv hs _ _ hq
      obtain ⟨r1,r2⟩:=hq B hv.wf Z (fun _ _ _ h=>h)
      have:=jh (nt:=fn.ntmps) (f:=⟨f.e,a.defers⟩) (a:=a) ⟨hsz,hsl,rfl⟩ hv r1
      exact ⟨_,this,B,hv,hs,r2⟩
    | cons D Ds ih =>
      intro B f a w' vs hsl hsz hv hs hnd hD hq
      have gD:=hD D List.mem_cons_self
      obtain ⟨q1,_⟩:=hv.obj gD
      obtain ⟨v1,s1⟩:=lL P (y:=.deferred none) hv gD (fun _ _ _ q=>by cases q)
      refine ⟨by simp,.inl ⟨D,_,Z,run_takeDeferred q1,?_⟩⟩
      have hnd':=List.nodup_cons.1 hnd
      refine ih _ f a _ vs hsl hsz v1 (hs.trans s1) hnd'.2 (fun E hE=>?_) (fun A' wf' hn' hk'=>?_)
      · rw [AH.set_get_ne _ _ (by rintro rfl;exact hnd'.1 hE)];exact hD E (List.mem_cons_of_mem _ hE)
      · exact hq A' wf' hn' fun b o hb hgb=>hk' b o (fun q=>hb (List.mem_cons_of_mem _ q)) (by rw [AH.set_get_ne _ _ (by rintro rfl;exact hb List.mem_cons_self)];exact hgb)
  refine wpIn_mono (am.into (h hw.wf) _ w ha hw) ?_
  rintro x a' w' ⟨f',A',h1,h2,h3,h4,h5⟩
  cases x <;> simp only [Df] at h4 <;> (try exact h4.elim)
  case normal=>obtain ⟨Ds,e1,e2,e3,vs,e4⟩:=h4;simp only [bodyPostM];rw [h1.ds,e1];exact leave Ds A' f' a' w' vs h1.slot h1.size h2 h3 e2 e3 e4
  case ret=>obtain ⟨Ds,e1,e2,e3,vs,e4⟩:=h4;simp only [bodyPostM];rw [h1.ds,e1];exact leave Ds A' f' a' w' vs h1.slot h1.size h2 h3 e2 e3 e4
theorem enterM {g:FuncId} {fn:Func} {c:Code} {rs:Array ResultVar} {nt:Nat} {args:List Value} {a:Array Value} {e:gu} {A:AH} {R:Value->AH->Prop} (he:fu P g) (hf:P.funcs[g]? = some fn) (hb:fn.body=some c)
    (hr:fn.results=rs) (hnt:fn.ntmps=nt) (ha:args.toArray=a) (hn:Nat.ble args.length nt=true) (hE:rL args 0=e) (h:A.wf->am P nt c (Df P rs.toList fun en A'=>∃ v,en=.returned v/\R v A') ⟨e,[]⟩ A):bE P g a A R:=by
  subst hr;subst hnt;subst ha;subst hE
  exact ga.enterM he hf hb (Nat.le_of_ble_eq_true hn) h
theorem am.loopD {c:Code} {X:Type} (E:X->gu) (D:X->List Deferred) (I:X->AH->Prop) (μ:X->Nat) (x₀:X) (hE:al (E x₀) e) (hD:D x₀=ds) (h₀:I x₀ A)
    (round:∀ x B,I x B->am P nt c (rg (fun f B'=>∃ y,al (E y) f.e/\f.ds=D y/\I y B'/\μ y < μ x) Q) ⟨E x,D x⟩ B) :
    am P nt (.loop c) Q ⟨e,ds⟩ A:=by
  subst hD
  intro a w ha hw b k cs
  have run:∀ m a w₁,(∃ x B,μ x=m/\I x B/\cO nt ⟨E x,D x⟩ a/\co B w₁/\eD A w B w₁) ->
      ∃ e a' w',k8 nt Q A w e a' w'/\Arrives P (lone (b.at a (.code c :: .inLoop c :: k)) cs w₁) b k cs e a' w':=by
    intro m
    induction m using Nat.strongRecOn with
    | _ m ih =>
      rintro a w₁ ⟨x,B,hm,hI,ha₁,hw₁,hs₁⟩
      obtain ⟨e,a₂,w₂,⟨f',A',h1,h2,h3,h4,h5⟩,harr⟩:=round x B hI a w₁ ha₁ hw₁ b (.inLoop c :: k) cs
      cases e with
      | normal =>
        obtain ⟨y,g1,g2,g3,g4⟩:=h4
        obtain ⟨fe,fds⟩:=f'
        simp only at g1 g2
        subst g2
        obtain ⟨e₂,a₃,w₃,hq,harr₂⟩:=ih (μ y) (hm ▸ g4) a₂ w₂ ⟨y,A',rfl,g3,h1.le g1,h2,hs₁.trans h3⟩
        exact ⟨e₂,a₃,w₃,hq,.of_steps (Steps.trans harr (.one step_inLoop)) harr₂⟩
      | exit id=>exact ⟨_,a₂,w₂,⟨f',A',h1,h2,hs₁.trans h3,h4,h5⟩,.pass (x:=.inLoop c) Z (fun _ _=>.inl (by simp)) harr⟩
      | goto l=>exact ⟨_,a₂,w₂,⟨f',A',h1,h2,hs₁.trans h3,h4,h5⟩,.pass (x:=.inLoop c) Z (fun _ _=>.inl (by simp)) harr⟩
      | ret=>exact ⟨_,a₂,w₂,⟨f',A',h1,h2,hs₁.trans h3,h4,h5⟩,.pass (x:=.inLoop c) Z (fun _ _=>.inl (by simp)) harr⟩
      | panic ch=>exact ⟨_,a₂,w₂,⟨f',A',h1,h2,hs₁.trans h3,h4,h5⟩,.pass (x:=.inLoop c) Z (fun _ _=>.inl (by simp)) harr⟩
      | outgrown=>exact ⟨_,a₂,w₂,⟨f',A',h1,h2,hs₁.trans h3,h4,h5⟩,.pass (x:=.inLoop c) Z (fun _ _=>.inl (by simp)) harr⟩
  obtain ⟨e,a',w',hq,harr⟩:=run _ a w ⟨x₀,A,rfl,h₀,ha.le hE,hw,.refl _ _⟩
  exact ⟨e,a',w',hq,.of_steps (.one step_loop) harr⟩
end
end V
end Go.Proofs.YtjppkekmddjcfaaGreatDoor

namespace Go.Proofs.YtjppkekmddjcfaaGreatDoor
open Go Go.RowKit
namespace V

def AH.hide (A:AH) (bs:List (Option Nat)):AH:=⟨A.n,fun k=>if some k ∈ bs then none else A.get k⟩
section
variable {A B C A0 A1:AH} {bs:List (Option Nat)} {b k n:Nat} {o:fC} {v u:Value} {size:Nat} {xs ys:List Value}
theorem cn (h:some b ∈ bs):(A.hide bs).get b=none:=if_pos h
theorem bK (h:A.get k=some o) (hk:some k ∉ bs):(A.hide bs).get k=some o:=by
  show (if some k ∈ bs then none else A.get k)=some o
  rw [if_neg hk];exact h
theorem cx (A:AH) (bs:List (Option Nat)):(A.hide bs).le A:=⟨Nat.le_refl _,fun b o g=>by
  have g:(if some b ∈ bs then none else A.get b)=some o:=g
  split at g
  · cases g
  · exact g⟩
theorem cg (wf:A.wf):(A.hide bs).wf:=fun b o g=>wf b o ((cx A bs).get b o g)
theorem cd (le:A0.le A) (h:∀ b,some b ∈ bs->A0.get b=none):A0.le (A.hide bs) :=
  ⟨le.n,fun b o g=>bK (le.get b o g) fun q=>by rw [h b q] at g;cases g⟩
theorem mF:some k ∉ ([]:List (Option Nat)):=fun h=>by cases h
theorem qL (h:k ≠ b) (t:some k ∉ bs):some k ∉ some b :: bs:=fun q=>by
  rcases List.mem_cons.1 q with q | q
  · exact h (Option.some.inj q)
  · exact t q
theorem n0 (h:blk v ≠ some k) (t:some k ∉ bs):some k ∉ blk v :: bs:=fun q=>by
  rcases List.mem_cons.1 q with q | q
  · exact h q.symm
  · exact t q
theorem o4:∀ b,some b ∈ ([]:List (Option Nat))->A0.get b=none:=fun _ h=>by cases h
theorem um (h:A0.get k=none) (t:∀ b,some b ∈ bs->A0.get b=none):∀ b,some b ∈ some k :: bs->A0.get b=none:=fun b q=>by
  rcases List.mem_cons.1 q with q | q
  · cases q;exact h
  · exact t b q
theorem sC (h:∀ b,blk v=some b->A0.get b=none) (t:∀ b,some b ∈ bs->A0.get b=none):∀ b,some b ∈ blk v :: bs->A0.get b=none:=fun b q=>by
  rcases List.mem_cons.1 q with q | q
  · exact h b q.symm
  · exact t b q
def bk (v u:Value):Prop:=∀ c,blk v=some c->blk u ≠ some c
theorem bk.symm (h:bk v u):bk u v:=fun c hu hv=>h c hv hu
theorem bk.nil:bk (.slice none 0 0) u:=fun c h=>by cases h
theorem Fresh.hide (h:Fresh A0 A v size xs) (hb:blk v ∈ bs):Fresh (A.hide bs) A v size xs:=⟨h.own,fun b q=>cn (by rw [<- q];exact hb)⟩
def KH (u:Value) (bs:List (Option Nat)):Prop:=∀ c,blk u=some c->some c ∉ bs
theorem ke:KH u []:=fun _ _=>mF
theorem kf (h:blk u ≠ some b) (t:KH u bs):KH u (some b :: bs):=fun c hc=>qL (fun q=>h (q ▸ hc)) (t c hc)
theorem jA (h:bk v u) (t:KH u bs):KH u (blk v :: bs):=fun c hc=>n0 (fun q=>h c q hc) (t c hc)
theorem o0.blkget (h:o0 A v size xs) (hb:blk v=some b):∃ o,A.get b=some o:=by
  rcases h with ⟨rfl,_⟩ | ⟨b',n,k,r,rcap,rfl,h2,_⟩
  · cases hb
  · cases hb;exact ⟨_,h2⟩
theorem o0.off (h:o0 A u size xs) (o:KH u bs) (le:(A.hide bs).le B):o0 B u size xs:=by
  rcases h with h | ⟨b',n,k,r,rcap,rfl,h2,h3⟩
  · exact .inl h
  · exact .inr ⟨b',n,k,r,rcap,Z,le.get _ _ (bK h2 (o b' Z)),h3⟩
theorem Fresh.off (h:Fresh A0 A u size xs) (o:KH u bs) (le:(A.hide bs).le B):Fresh A0 B u size xs:=⟨h.own.off o le,h.lo⟩
theorem Fresh.sep {s2:Nat} (h:Fresh (A.hide bs) B v size xs) (hu:o0 A u s2 ys) (o:KH u bs):bk v u:=fun c hv hc=>by
  obtain ⟨x,hx⟩:=hu.blkget hc
  have:=h.lo c hv
  rw [bK hx (o c hc)] at this;cases this
theorem o0.appd {s2:Nat} {v':Value} {zs:List Value} (h:o0 A u size xs) (ap:mu A v s2 zs v' A1) (hs:bk v u):o0 A1 u size xs:=by
  rcases h with h | ⟨b',n,k,r,rcap,rfl,h2,h3⟩
  · exact .inl h
  · exact .inr ⟨b',n,k,r,rcap,Z,ap.get _ _ h2 (fun q=>hs b' q Z),h3⟩
theorem Fresh.appd {s2:Nat} {v':Value} {zs:List Value} (h:Fresh A0 A u size xs) (ap:mu A v s2 zs v' A1) (hs:bk v u):Fresh A0 A1 u size xs:=⟨h.own.appd ap hs,h.lo⟩
theorem bk.appd {s2:Nat} {v':Value} {zs:List Value} (h:bk v u) (hu:o0 A u size xs) (wf:A.wf) (ap:mu A v s2 zs v' A1):bk v' u:=fun c hc hq=>by
  rcases ap.blk c hc with q | q
  · exact h c q hq
  · obtain ⟨o,ho⟩:=hu.blkget hq
    have:=wf _ _ ho;omega
theorem bk.of_new (h:o0 A u size xs) (wf:A.wf) (hb:A.n<=b) {n c:Nat}:bk (.slice (some ⟨b,0,none⟩) n c) u:=fun k hk hq=>by
  cases hk
  obtain ⟨o,ho⟩:=h.blkget hq
  have:b < A.n:=wf _ _ ho
  omega
theorem Fresh.seph (h:Fresh A0 A v size xs) (g:A0.get b=some o):blk v ≠ some b:=fun q=>by rw [h.lo b q] at g;cases g
theorem Fresh.setc {A0 A A1:AH} {b n c i size:Nat} {xs:List Value} {r:List Value} {rcap:Nat} {w:Value} (h:Fresh A0 A (.slice (some ⟨b,0,none⟩) n c) size xs) (g:A.get b=some (.row true r rcap)) (sb:uj A A1 b (.row true (r.set i w) rcap)) :
    Fresh A0 A1 (.slice (some ⟨b,0,none⟩) n c) size (xs.set i w):=by
  refine ⟨?_,h.lo⟩
  rcases h.own with ⟨q,_⟩ | ⟨b',n',k,r',rcap',h1,h2,h3,h4,h5,h6⟩
  · cases q
  · cases h1
    rw [g] at h2;cases h2
    refine .inr ⟨b,n,c,r.set i w,rcap,Z,sb.get,by simpa using h3,?_,h5,h6⟩
    rw [List.take_set,h4]
theorem e8 {i:Nat} {K:Fr->AH->Prop} {Q:Exit->Fr->AH->Prop} {f:Fr} {A:AH} (h:Q (.exit i) f A):rg K Q (.exit i) f A:=h
theorem ej {i:Nat} {Q:Exit->Fr->AH->Prop} {f:Fr} {A:AH} (h:Q .normal f A):my i Q (.exit i) f A:=by show (if i=i then _ else _);rw [if_pos Z];exact h
theorem dQ {i j:Nat} {Q:Exit->Fr->AH->Prop} {f:Fr} {A:AH} (hne:j ≠ i) (h:Q (.exit j) f A):my i Q (.exit j) f A:=by show (if j=i then _ else _);rw [if_neg hne];exact h
theorem dR {i:Nat} {Q:Exit->Fr->AH->Prop} {f:Fr} {A:AH} (h:Q (.exit i) f A):yY Q (.exit i) f A:=h
theorem da {Q:Exit->Fr->AH->Prop} {f:Fr} {A:AH} (h:Q .normal f A):yY Q .normal f A:=h
theorem mu.cell {A A1:AH} {s v u:Value} {size:Nat} {xs:List Value} {b off:Nat} (ap:mu A s size xs v A1) (ne:V.blk s ≠ some b) (h:A.cell ⟨b,off,none⟩=some u):A1.cell ⟨b,off,none⟩=some u:=by
  unfold AH.cell at h ⊢
  simp only [Option.isSome_none] at h ⊢
  cases hg:A.get b with
  | none=>rw [hg] at h;cases h
  | some o=>rw [hg] at h;rw [ap.get _ _ hg ne];exact h
def Wu:Value->Nat->Nat->Value
  | .slice p n c,size,j=>.slice (if c=j then p else p.map (·.add (j * size))) (n - j) (c - j)
  | v,_,_=>v
theorem bI.lo {A:AH} {size j:Nat} {v:Value} {xs:List Value} (s:bI A size v xs) (h0:0 < size) (hj:j * size<=xs.length):bI A size (Wu v size j) (xs.drop (j * size)):=by
  obtain ⟨p,n,c,rfl,h2,h3,h4⟩:=s
  have hjn:j<=n:=by rw [h2] at hj;exact Nat.le_of_mul_le_mul_right hj h0
  refine ⟨_,n - j,c - j,Z,by rw [List.length_drop,h2,Nat.sub_mul],by omega,?_⟩
  rcases h4 with h4 | ⟨b,off,rw,r,rcap,rfl,g2,g3⟩
  · left;omega
  · by_cases q:n=j
    · left;omega
    · right
      refine ⟨b,off + j * size,rw,r,rcap,?_,g2,?_⟩
      · rw [if_neg O]
        simp only [Option.map_some]
        rw [nu _ _ Z]
      · rw [<- g3,List.drop_take,List.drop_drop,Nat.sub_mul]
theorem NF {P:Program} {e:gu} {A:AH} {x lo:Operand} {t el:TypeId} {size j:Nat} {v:Value} {xs:List Value} (hu:P.underlying t=some (.slice el)) (hs:c9 P el=some size) (h:bN e x=some v) (s:bI A size v xs) (hlo:bN e lo=some (num (j:Nat))) (h0:0 < size) (hj:j * size<=xs.length) :
    aL P e A (.slice t x (some lo) none none)=some (Wu v size j,[]):=by
  obtain ⟨p,n,c,rfl,h2,h3,h4⟩:=s
  have hjn:j<=n:=by rw [h2] at hj;exact Nat.le_of_mul_le_mul_right hj h0
  simp [aL,cj,h,tE,hu,hs,ff,hlo,Wu]
  omega
theorem vb (a:List UInt8) (n:Nat):(ao a).drop n=ao (a.drop n):=by simp [ao,List.map_drop]
end
end V
end Go.Proofs.YtjppkekmddjcfaaGreatDoor

namespace Go.Proofs.YtjppkekmddjcfaaGreatDoor
open Go V

def Xo:List UInt8->List UInt8->Nat
  | a :: x,b :: y=>if a=b then Xo x y + 1 else 0
  | _,_=>0
def lf (p:Nat->Bool) (b:Nat):Nat:=((List.range b).find? fun n=>!p n).getD b
def bZ:List UInt8:=[97,65,98,66,99,67,100,68,101,69,102,70,103,71,104,72]
def ix (c:UInt8):Int:=match bZ.findIdx? (· == c) with | some i=>i | none=>-1
theorem Mu {c:UInt8} {k:Nat} (hk:k < 16) (h:∀ j,j < k->bZ.getD j 0 ≠ c) (e:bZ.getD k 0=c):ix c=k:=by
  have:bZ.findIdx? (· == c)=some k:=by
    rw [List.findIdx?_eq_some_iff_getElem]
    refine ⟨hk,?_,fun j hj=>?_⟩
    · have:=e;simp [List.getD_eq_getElem?_getD,hk,bZ] at this ⊢;exact this
    · have:=h j hj
      have hj':j < bZ.length:=Nat.lt_trans hj hk
      rw [List.getD_eq_getElem?_getD,List.getElem?_eq_getElem hj',Option.getD_some] at this
      simpa using this
  simp [ix,this]
theorem Rg {c:UInt8} (h:∀ j,j < 16->bZ.getD j 0 ≠ c):ix c = -1:=by
  have:bZ.findIdx? (· == c)=none:=by
    rw [List.findIdx?_eq_none_iff]
    intro x hx
    obtain ⟨j,hj,rfl⟩:=List.getElem_of_mem hx
    have:=h j hj
    rw [List.getD_eq_getElem?_getD,List.getElem?_eq_getElem hj,Option.getD_some] at this
    simpa using this
  simp [ix,this]
theorem gz {p:UInt8->Prop} (h:∀ n:Fin 256,p (UInt8.ofNat n.1)) (c:UInt8):p c:=by
  have:=h ⟨c.toNat,c.toNat_lt⟩
  simpa using this
theorem Wr (a b:Int):decide (b<=a) = !decide (a < b):=by rw [<- decide_not];simp
theorem DF (r:Nat) (h:r<=127):decide (127 < r)=false:=by simp;omega
theorem Wg {c:UInt8} (h:¬ c < 128):128<=c.toNat:=by rw [UInt8.lt_iff_toNat_lt] at h;simpa using h
theorem Vr:∀ c:UInt8,-1<=ix c/\ix c < 16:=gz (by decide +kernel)
theorem Ms:∀ c:UInt8,0<=ix c->c.toNat<=127:=gz (by decide +kernel)
theorem GB:∀ c:UInt8,0<=ix c->0<=ix (c ^^^ 32):=gz (by decide +kernel)
theorem jS (c:UInt8):c ^^^ 32 ^^^ 32=c:=by rw [UInt8.xor_assoc];simp
def gv (k:Int) (c:UInt8):Bool:=decide (0<=ix c) && decide (ix c < 2 * k)
def inv (w:List UInt8):List UInt8:=(w.map (· ^^^ 32)).reverse
def push (s:List UInt8) (c:UInt8):List UInt8:=if 0 < s.length/\s.getD (s.length - 1) 0=c ^^^ 32 then s.take (s.length - 1) else s ++ [c]
def lM (w:List UInt8):List UInt8:=w.foldl push []
def bH (k:Int) (w:List UInt8):Nat:=if k < 1\/8 < k then 1 else if 100000 < w.length then 2 else if w.all (gv k) then 0 else 4
def qm (w:List UInt8):Bool:=decide (w.length<=100000) && w.all (gv 8)
theorem S7 (w:List UInt8):bH 8 w=0 ↔ qm w=true:=by
  simp only [bH,qm,Bool.and_eq_true,decide_eq_true_eq]
  rw [if_neg O]
  split
  · simp;omega
  · split <;> rename_i h <;> simp [h] <;> omega
theorem BJ (s:List UInt8) (c:UInt8):(push s c).length<=s.length + 1:=by
  unfold push;split <;> simp <;> omega
theorem ed:∀ (w s:List UInt8),(w.foldl push s).length<=s.length + w.length
  | [],s=>by simp
  | c :: w,s=>by
    have:=ed w (push s c);have:=BJ s c
    simp only [List.foldl_cons,List.length_cons];omega
theorem Er (w:List UInt8):(lM w).length<=w.length:=by have:=ed w [];simpa [lM] using this
theorem gI (w:List UInt8):(inv w).length=w.length:=by simp [inv]
theorem kW {w:List UInt8} {i:Nat} (h:i < w.length):w.drop i=w.getD i 0 :: w.drop (i + 1):=by
  rw [List.drop_eq_getElem_cons h];simp [h]
theorem vm {l:List (List UInt8)} {i:Nat} (h:i < l.length):l.drop i=l.getD i [] :: l.drop (i + 1):=by
  rw [List.drop_eq_getElem_cons h];simp [h]
def TK (r:List UInt8):Nat:=lf (fun n=>decide (2 * n + 2<=r.length/\r.getD n 0=r.getD (r.length - 1 - n) 0 ^^^ 32)) r.length
def Wq (w:List UInt8):List UInt8:=((lM w).take ((lM w).length - TK (lM w))).drop (TK (lM w))
def conj (w:List UInt8):List UInt8:=(lM w).take (TK (lM w))
def ip:List UInt8->List UInt8->Int
  | a :: x,b :: y=>if ix a < ix b then -1 else if ix b < ix a then 1 else ip x y
  | _,_=>0
def fw (u v:List UInt8):Int:=if u.length ≠ v.length then (if u.length < v.length then -1 else 1) else ip u v
def dY (w:List UInt8):List UInt8:=if qm w then inv w else []
def cE (w:List UInt8):List UInt8:=if qm w then lM w else []
def TC (w:List UInt8):List UInt8:=if qm w then Wq w else []
def dB (u v:List UInt8):Int:=if qm u/\qm v then fw u v else 0
def PZ (q:Nat->Bool) (s:List UInt8):Int:=match s.findIdx? (fun c=>q c.toNat) with | some i=>i | none=>-1
theorem xp {q:Nat->Bool} {s:List UInt8} {k:Nat} (hk:k < s.length) (h:∀ j,j < k->q (s.getD j 0).toNat=false) (e:q (s.getD k 0).toNat=true):PZ q s=k:=by
  have:s.findIdx? (fun c=>q c.toNat)=some k:=by
    rw [List.findIdx?_eq_some_iff_getElem]
    refine ⟨hk,by simpa [hk] using e,fun j hj=>?_⟩
    have:=h j hj
    have hj':j < s.length:=Nat.lt_trans hj hk
    simpa [hj'] using this
  simp [PZ,this]
theorem Mi {q:Nat->Bool} {s:List UInt8} (h:∀ j,j < s.length->q (s.getD j 0).toNat=false):PZ q s = -1:=by
  have:s.findIdx? (fun c=>q c.toNat)=none:=by
    rw [List.findIdx?_eq_none_iff]
    intro x hx
    obtain ⟨j,hj,rfl⟩:=List.getElem_of_mem hx
    have:=h j hj
    simpa [hj] using this
  simp [PZ,this]
theorem QY (q:Nat->Bool) (s:List UInt8):decide (0<=PZ q s)=s.any (fun c=>q c.toNat):=by
  unfold PZ
  cases h:s.findIdx? (fun c=>q c.toNat) with
  | none =>
    rw [List.findIdx?_eq_none_iff] at h
    rw [List.any_eq_false.2 (by simpa using h)];rfl
  | some i =>
    rw [List.findIdx?_eq_some_iff_getElem] at h
    obtain ⟨hi,e,_⟩:=h
    rw [List.any_eq_true.2 ⟨_,List.getElem_mem hi,e⟩];simp
theorem tL (k:Int) (w:List UInt8):0<=PZ (fun r=>decide (127 < r) || !gv k (UInt8.ofNat r)) w ↔ w.all (gv k)=false:=by
  have h:=QY (fun r=>decide (127 < r) || !gv k (UInt8.ofNat r)) w
  have e:(w.any fun c=>decide (127 < c.toNat) || !gv k (UInt8.ofNat c.toNat)) = !w.all (gv k):=by
    rw [List.not_all_eq_any_not]
    congr 1
    funext c
    rw [UInt8.ofNat_toNat]
    by_cases q:gv k c=true
    · have:0<=ix c:=by simp [gv] at q;exact q.1
      have:=Ms c this
      simp [q];omega
    · simp [q]
  rw [e] at h
  constructor
  · intro q;rw [decide_eq_true q] at h;simpa using h
  · intro q;rw [q] at h;simpa using h
theorem CQ (w:List UInt8):decide (bH 8 w=0)=qm w:=by
  rw [Bool.eq_iff_iff,decide_eq_true_iff];exact S7 w
theorem uJ {w o R:List UInt8} {i:Nat} (hi:i < w.length) (h:(w.drop i).foldl push o=R) (hc:0 < o.length/\o.getD (o.length - 1) 0=w.getD i 0 ^^^ 32):(w.drop (i + 1)).foldl push (o.take (o.length - 1))=R:=by
  rw [kW hi,List.foldl_cons,push,if_pos hc] at h;exact h
theorem uK {w o R:List UInt8} {i:Nat} (hi:i < w.length) (h:(w.drop i).foldl push o=R) (hc:¬ (0 < o.length/\o.getD (o.length - 1) 0=w.getD i 0 ^^^ 32)):(w.drop (i + 1)).foldl push (o ++ [w.getD i 0])=R:=by
  rw [kW hi,List.foldl_cons,push,if_neg hc] at h;exact h
theorem pd {w:List UInt8} {i:Nat} (h:w.length<=i):w.drop i=[]:=List.drop_eq_nil_of_le h
theorem qj {α:Type} {w:List α} {i:Nat} (h:w.length<=i):w.drop i=[]:=List.drop_eq_nil_of_le h
theorem tv {l:List (List UInt8)} {k:Nat} {o o2 R:List UInt8} (hk:k < l.length) (h:(l.drop k).flatten.foldl push o=R) (h2:(l.getD k []).foldl push o=o2):(l.drop (k + 1)).flatten.foldl push o2=R:=by
  rw [vm hk,List.flatten_cons,List.foldl_append,h2] at h;exact h
theorem Jd {l:List (List UInt8)} {k:Nat} (hk:k < l.length):(l.drop k).flatten.length=(l.getD k []).length + (l.drop (k + 1)).flatten.length:=by
  rw [vm hk,List.flatten_cons,List.length_append]
def jU (w:List UInt8) (k:Nat):List UInt8:=List.replicate (w.length - k) 0 ++ ((w.take k).map (· ^^^ 32)).reverse
theorem ua (w:List UInt8):List.replicate w.length 0=jU w 0:=by simp [jU]
theorem vP (w:List UInt8) {k:Nat} (h:w.length<=k):jU w k=inv w:=by
  simp [jU,inv,List.take_of_length_le h,Nat.sub_eq_zero_of_le h]
theorem qY (w:List UInt8) {k:Nat} (h:k<=w.length):(jU w k).length=w.length:=by simp [jU];omega
theorem vQ (w:List UInt8) {k:Nat} (h:k < w.length):(jU w k).set (w.length - 1 - k) (w.getD k 0 ^^^ 32)=jU w (k + 1):=by
  have e:List.replicate (w.length - k) (0:UInt8)=List.replicate (w.length - 1 - k) 0 ++ [0]:=by
    rw [show w.length - k=(w.length - 1 - k) + 1 by omega,List.replicate_succ']
  have t:w.take (k + 1)=w.take k ++ [w.getD k 0]:=by
    rw [List.take_add_one,List.getElem?_eq_getElem h];simp [h]
  unfold jU
  rw [e,List.append_assoc,t,List.map_append,List.reverse_append,show w.length - (k + 1)=w.length - 1 - k by omega]
  rw [List.set_append_right (w.length - 1 - k) _ (by simp)]
  simp
theorem eO {u v:List UInt8} {k:Nat} (hu:k < u.length) (hv:k < v.length):ip (u.drop k) (v.drop k)=if ix (u.getD k 0) < ix (v.getD k 0) then -1 else if ix (v.getD k 0) < ix (u.getD k 0) then 1 else ip (u.drop (k + 1)) (v.drop (k + 1)):=by
  rw [kW hu,kW hv,ip]
theorem mR {u v:List UInt8} {k:Nat} (hu:u.length<=k):ip (u.drop k) (v.drop k)=0:=by
  rw [pd hu];rfl
theorem Gb {u v:List UInt8} (h:¬ ¬ u.length=v.length):fw u v=ip u v:=by unfold fw;rw [if_neg h]
def AE {α:Type} (q:α->Bool) (l:List α):Int:=match l.findIdx? q with | some i=>i | none=>-1
theorem xq {α:Type} {q:α->Bool} {l:List α} {k:Nat} {d:α} (hk:k < l.length) (h:∀ j,j < k->q (l.getD j d)=false) (e:q (l.getD k d)=true):AE q l=k:=by
  have:l.findIdx? q=some k:=by
    rw [List.findIdx?_eq_some_iff_getElem]
    refine ⟨hk,by simpa [hk] using e,fun j hj=>?_⟩
    have:=h j hj
    have hj':j < l.length:=Nat.lt_trans hj hk
    simpa [hj'] using this
  simp [AE,this]
theorem AJ {α:Type} {q:α->Bool} {l:List α} {d:α} (h:∀ j,j < l.length->q (l.getD j d)=false):AE q l = -1:=by
  have:l.findIdx? q=none:=by
    rw [List.findIdx?_eq_none_iff]
    intro x hx
    obtain ⟨j,hj,rfl⟩:=List.getElem_of_mem hx
    have:=h j hj
    simpa [hj] using this
  simp [AE,this]
theorem uE {α:Type} (q:α->Bool) (l:List α):0<=AE q l ↔ l.any q=true:=by
  unfold AE
  cases h:l.findIdx? q with
  | none =>
    rw [List.findIdx?_eq_none_iff] at h
    rw [List.any_eq_false.2 (by simpa using h)];simp
  | some i =>
    rw [List.findIdx?_eq_some_iff_getElem] at h
    obtain ⟨hi,e,_⟩:=h
    rw [List.any_eq_true.2 ⟨_,List.getElem_mem hi,e⟩];simp
theorem bi {α:Type} {l:List α} {k:Nat} {d:α} (h:k < l.length):l.getD k d ∈ l:=by simp [h]
def gB (g:Int) (r:List UInt8):Bool:=decide (r=[]) || !decide (bH g r=0) || !decide (lM r=r)
def df (g:Int) (l:List (List UInt8)):Nat :=
  if g < 1\/8 < g then 1 else if 60 < l.length\/l.any (fun r=>decide (200 < r.length))=true then 2 else if l.any (gB g)=true then 4 else 0
theorem xo:∀ c:UInt8,97<=c->c < 105->((2 * (c - 97).toNat:Nat):Int)=ix c:=gz (by decide +kernel)
theorem yK:∀ c:UInt8,65<=c->c < 73->((2 * (c - 65).toNat + 1:Nat):Int)=ix c:=gz (by decide +kernel)
theorem yL:∀ c:UInt8,¬ (97<=c/\c < 105)->¬ (65<=c/\c < 73)->ix c = -1:=gz (by decide +kernel)
def P3 (c:UInt8):Nat:=(ix c).toNat
theorem My (c:UInt8):P3 c < 16:=by have:=Vr c;unfold P3;omega
theorem Rl:∀ c:UInt8,0<=ix c->bZ.getD (P3 c) 0=c:=gz (by decide +kernel)
theorem MO:∀ i:Fin 16,i.1 % 2=0->(97:UInt8) + UInt8.ofNat (i.1 / 2)=bZ.getD i.1 0:=by decide +kernel
theorem Rm:∀ i:Fin 16,¬ i.1 % 2=0->(65:UInt8) + UInt8.ofNat (i.1 / 2)=bZ.getD i.1 0:=by decide +kernel
theorem R5 {w:List UInt8}:∀ c ∈ lM w,c ∈ w:=by
  have key:∀ (w s:List UInt8),∀ c ∈ w.foldl push s,c ∈ s\/c ∈ w:=by
    intro w
    induction w with
    | nil=>intro s c h;exact .inl h
    | cons a w ih =>
      intro s c h
      rcases ih _ c h with q | q
      · unfold push at q
        split at q
        · exact .inl (List.mem_of_mem_take q)
        · rcases List.mem_append.1 q with q | q
          · exact .inl q
          · exact .inr (by simp at q;simp [q])
      · exact .inr (List.mem_cons_of_mem _ q)
  intro c h
  rcases key w [] c h with q | q
  · cases q
  · exact q
def CZ (w:List UInt8):Prop:=∀ c ∈ w,0<=ix c
theorem uG {w:List UInt8} (h:CZ w) {k:Nat} (hk:k < w.length):0<=ix (w.getD k 0):=h _ (bi hk)
theorem M7 {w:List UInt8} (h:qm w=true):CZ w:=fun c hc=>by
  simp only [qm,Bool.and_eq_true,List.all_eq_true] at h
  have:=h.2 c hc
  simp [gv] at this;exact this.1
theorem GR {w:List UInt8} (h:CZ w):CZ (inv w):=fun c hc=>by
  simp only [inv,List.mem_reverse,List.mem_map] at hc
  obtain ⟨d,hd,rfl⟩:=hc
  exact GB d (h d hd)
theorem AN {w:List UInt8} {j:Nat} (hj:1<=j) (hw:j<=w.length):((w.drop j).map (· ^^^ 32)).reverse ++ [w.getD (j - 1) 0 ^^^ 32]=((w.drop (j - 1)).map (· ^^^ 32)).reverse:=by
  rw [kW (w:=w) (i:=j - 1) O,show j - 1 + 1=j by omega]
  simp
theorem i8 {a:Int} (h:0<=a):some (num a)=some (num ((a.toNat:Nat):Int)):=by rw [Int.toNat_of_nonneg h]
theorem Uf (c:UInt8) (h:0<=ix c):ph .xor .i64 (ix c) 1=some (num ((P3 (c ^^^ 32):Nat):Int)):=by
  have key:∀ k:Fin 16,IntKind.i64.wrap ((BitVec.ofInt 64 (k.1:Int) ^^^ BitVec.ofInt 64 1).toNat:Int)=(k.1 ^^^ 1:Nat):=by decide +kernel
  have h2:∀ c:UInt8,0<=ix c->(P3 c) ^^^ 1=P3 (c ^^^ 32):=gz (by decide +kernel)
  have h3:=key ⟨P3 c,My c⟩
  have e:ix c=((P3 c:Nat):Int):=by unfold P3;omega
  rw [<- h2 c h,<- h3,e]
  rfl
theorem wt {k:Int} {w:List UInt8} {i:Nat} (hk:¬ (k < 1\/8 < k)) (hw:¬ 100000 < w.length) (hi:i < w.length) (h:ix (w.getD i 0) < 0\/2 * k<=ix (w.getD i 0)):bH k w=4:=by
  have:w.all (gv k)=false:=by
    rw [List.all_eq_false]
    exact ⟨_,bi (d:=0) hi,by intro q;simp only [gv,Bool.and_eq_true,decide_eq_true_eq] at q;omega⟩
  simp [bH,hk,hw,this]
theorem CT {k:Int} {w:List UInt8} {i:Nat} (hk:¬ (k < 1\/8 < k)) (hw:¬ 100000 < w.length) (hi:w.length<=i) (h:∀ j,j < i->0<=ix (w.getD j 0)/\ix (w.getD j 0) < 2 * k):bH k w=0:=by
  have:w.all (gv k)=true:=by
    rw [List.all_eq_true]
    intro c hc
    obtain ⟨j,hj,rfl⟩:=List.getElem_of_mem hc
    have:=h j O
    simp [hj] at this
    simp [gv];exact this
  simp [bH,hk,hw,this]
def gy (A:AH):Prop:=∃ rw cap,A.get 0=some (.row rw (ao bZ) cap)
theorem gy.le {A B:AH} (h:gy A) (le:A.le B):gy B:=by obtain ⟨r,c,h⟩:=h;exact ⟨r,c,le.get _ _ h⟩
end Go.Proofs.YtjppkekmddjcfaaGreatDoor

namespace Go.Proofs.YtjppkekmddjcfaaGreatDoor
open Go V

theorem Ru {l:List (List UInt8)} {i n:Nat} (hi:l.length<=i) (h:∀ j,j < i->(l.getD j []).length<=n):∀ s ∈ l,s.length<=n:=fun s hs=>by
  obtain ⟨j,hj,rfl⟩:=List.getElem_of_mem hs
  have:=h j O
  simpa [hj] using this
theorem Lh {l:List (List UInt8)} (h:∀ s ∈ l,s.length<=200):¬ l.any (fun r=>decide (200 < r.length))=true:=fun q=>by
  obtain ⟨s,hs,e⟩:=List.any_eq_true.1 q
  have:=h s hs;have:=of_decide_eq_true e;omega
theorem BE {g:Int} {l:List (List UInt8)} {i:Nat} (h:¬ (g < 1\/8 < g)) (h2:¬ 60 < l.length) (h3:∀ s ∈ l,s.length<=200) (hi:l.length<=i) (hb:∀ j,j < i->gB g (l.getD j [])=false):df g l=0:=by
  rw [df,if_neg h,if_neg (fun q=>q.elim h2 (Lh h3)),if_neg]
  intro q
  obtain ⟨s,hs,e⟩:=List.any_eq_true.1 q
  obtain ⟨j,hj,rfl⟩:=List.getElem_of_mem hs
  have:=hb j O
  simp [hj,e] at this
theorem Mr {g:Int} {r:List UInt8} (hg:g<=8) (h:bH g r=0):qm r=true:=by
  unfold bH at h
  split at h
  · cases h
  · split at h
    · cases h
    · split at h
      · rename_i h1 h2 h3
        simp only [qm,Bool.and_eq_true,decide_eq_true_eq,List.all_eq_true] at h3 ⊢
        refine ⟨by omega,fun c hc=>?_⟩
        have:=h3 c hc
        simp only [gv,Bool.and_eq_true,decide_eq_true_eq] at this ⊢
        omega
      · cases h
theorem wr {w:List UInt8} (h:qm w=true):cE w=lM w:=by rw [cE,if_pos h]

theorem c0 {g:Int} {l:List (List UInt8)} (h:df g l=0):(1<=g/\g<=8)/\l.length<=60/\∀ r ∈ l,r.length<=200/\gB g r=false:=by
  unfold df at h
  split at h
  · cases h
  · split at h
    · cases h
    · split at h
      · cases h
      · rename_i h1 h2 h3
        refine ⟨by omega,by omega,fun r hr=>⟨?_,?_⟩⟩
        · have:¬ l.any (fun r=>decide (200 < r.length))=true:=fun q=>h2 (.inr q)
          rw [Bool.not_eq_true,List.any_eq_false] at this
          have:=this r hr
          simpa using this
        · rw [Bool.not_eq_true,List.any_eq_false] at h3
          have:=h3 r hr
          simpa using this
theorem tG {g:Int} {r:List UInt8} (h:gB g r=false):r ≠ []/\bH g r=0/\lM r=r:=by
  simpa [gB,and_assoc] using h
theorem mP {g:Int} {r:List UInt8} (h:¬ bH g r=0):gB g r=true:=by simp [gB,h]
theorem IL {g:Int} {r:List UInt8} (h1:¬ r=[]) (h2:¬ ¬ bH g r=0) (hg:g<=8) (h3:¬ ¬ cE r=r):gB g r=false:=by
  rw [wr (Mr hg (Decidable.not_not.1 h2))] at h3
  simp only [gB,decide_eq_false h1,decide_eq_true (Decidable.not_not.1 h2),decide_eq_true (Decidable.not_not.1 h3)];rfl
theorem Fw {x y:List UInt8} (h:(!qm x)=true):dB x y=0:=by rw [dB,if_neg];intro q;rw [q.1] at h;cases h
theorem Fx {x y:List UInt8} (h:(!qm y)=true):dB x y=0:=by rw [dB,if_neg];intro q;rw [q.2] at h;cases h
theorem ku {x y:List UInt8} (hx:(!qm x)=false) (hy:(!qm y)=false):dB x y=fw x y:=by
  rw [dB,if_pos ⟨by simpa using hx,by simpa using hy⟩]
def Qj (w:List UInt8) (s:List (List UInt8) × Bool) (x:List UInt8):List (List UInt8) × Bool :=
  let c:=dB x w
  let d:=s.2 || decide (c=0)
  if 0 < c/\d=false then (s.1 ++ [w] ++ [x],true) else (s.1 ++ [x],d)
def Ve (l:List (List UInt8)) (w:List UInt8):List (List UInt8) :=
  let s:=l.foldl (Qj w) ([],false)
  if s.2 then s.1 else s.1 ++ [w]
theorem xk {α β:Type} {f:β->α->β} {l:List α} {i:Nat} {d:α} {s s' R:β} (hi:i < l.length) (h:(l.drop i).foldl f s=R) (e:f s (l.getD i d)=s'):(l.drop (i + 1)).foldl f s'=R:=by
  rw [List.drop_eq_getElem_cons hi,List.foldl_cons] at h
  have:l.getD i d=l[i]:=by simp [hi]
  rw [<- e,this];exact h
def Xh (w:List UInt8) (j:Nat):List UInt8:=w.drop j ++ w.take j
def UT (c:List UInt8) (a:List (List UInt8)) (j:Nat):List (List UInt8):=Ve (Ve a (Xh c j)) (Xh (dY c) j)
def Pu (a:List (List UInt8)) (r:List UInt8):List (List UInt8):=(List.range (TC r).length).foldl (UT (TC r)) a
def symm (l:List (List UInt8)):List (List UInt8):=l.foldl Pu []
theorem oH (w:List UInt8):(dY w).length<=w.length:=by
  unfold dY;split
  · rw [gI];exact Nat.le_refl _
  · simp
theorem qe (w:List UInt8):(cE w).length<=w.length:=by
  unfold cE;split
  · exact Er w
  · simp
theorem Mw:∀ c:UInt8,0<=ix c->(97<=c/\ix c=((2 * (c - 97).toNat:Nat):Int))\/(65<=c/\¬ 97<=c/\ix c=((2 * (c - 65).toNat + 1:Nat):Int)):=gz (by decide +kernel)
theorem We:∀ c:UInt8,97<=c->(c - 97).toNat < 8->c < 105:=gz (by decide +kernel)
theorem Wb:∀ c:UInt8,65<=c->(c - 65).toNat < 8->c < 73:=gz (by decide +kernel)
def KI (g:Int) (c:UInt8):Int:=if gv g c then ix c else -1
theorem Jp {g:Int} {c:UInt8} (hg:1<=g/\g<=8) (h1:97<=c) (h2:(((c - 97).toNat:Nat):Int) < g):((2 * (c - 97).toNat:Nat):Int)=KI g c:=by
  have h:=xo c h1 (We c h1 O)
  rw [KI,if_pos]
  · exact h
  · simp only [gv,Bool.and_eq_true,decide_eq_true_eq];omega
theorem Gz {g:Int} {c:UInt8} (hg:1<=g/\g<=8) (h1:65<=c) (h2:(((c - 65).toNat:Nat):Int) < g):((2 * (c - 65).toNat + 1:Nat):Int)=KI g c:=by
  have h:=yK c h1 (Wb c h1 O)
  rw [KI,if_pos]
  · exact h
  · simp only [gv,Bool.and_eq_true,decide_eq_true_eq];omega
theorem yM {g:Int} {c:UInt8} (h1:¬ (97<=c/\(((c - 97).toNat:Nat):Int) < g)) (h2:¬ (65<=c/\(((c - 65).toNat:Nat):Int) < g)):KI g c = -1:=by
  rw [KI,if_neg]
  intro q
  simp only [gv,Bool.and_eq_true,decide_eq_true_eq] at q
  rcases Mw c q.1 with ⟨h,e⟩ | ⟨h,_,e⟩
  · exact h1 ⟨h,by omega⟩
  · exact h2 ⟨h,by omega⟩
theorem GA {g:Int} {c:UInt8}:KI g c < 0 ↔ gv g c=false:=by
  unfold KI
  by_cases h:gv g c=true
  · rw [if_pos h]
    simp only [gv,Bool.and_eq_true,decide_eq_true_eq] at h
    constructor
    · omega
    · intro q;simp [gv,h] at q
  · rw [if_neg h];simp [Bool.not_eq_true] at h;simp [h]
theorem kw {g:Int} {w:List UInt8} (hg:1<=g/\g<=8):bH g w=0 ↔ w.length<=100000/\∀ c ∈ w,gv g c=true:=by
  unfold bH
  rw [if_neg O]
  split
  · constructor
    · intro q;cases q
    · intro q;omega
  · split <;> rename_i h
    · simp only [List.all_eq_true] at h
      exact ⟨fun _=>⟨by omega,h⟩,fun _=>rfl⟩
    · constructor
      · intro q;cases q
      · intro q;exact absurd (List.all_eq_true.2 q.2) h
theorem DX {g:Int} {w:List UInt8} {i:Nat} (hg:1<=g/\g<=8) (hi:i < w.length) (h:KI g (w.getD i 0) < 0):decide (bH g w=0)=false:=by
  rw [decide_eq_false_iff_not,kw hg]
  intro q
  have:=q.2 _ (bi (d:=0) hi)
  rw [GA] at h;rw [h] at this;cases this
theorem AO {g:Int} {w:List UInt8} {i:Nat} (hg:1<=g/\g<=8) (hi:w.length<=i) (h:∀ j,j < i->¬ KI g (w.getD j 0) < 0):decide (bH g w=0)=decide (w.length<=100000):=by
  rw [decide_eq_decide,kw hg]
  refine ⟨fun q=>q.1,fun q=>⟨q,fun c hc=>?_⟩⟩
  obtain ⟨j,hj,rfl⟩:=List.getElem_of_mem hc
  have:=h j O
  rw [GA] at this
  simpa [hj] using this

end Go.Proofs.YtjppkekmddjcfaaGreatDoor

namespace Go.Proofs.YtjppkekmddjcfaaGreatDoor
open Go V

structure bJ where
  conj:List UInt8
  rel:Int
  inv:Bool
def bJ.zero:bJ:=⟨[],0,false⟩
def pc (c:bJ):List Value:=[bf c.conj,num c.rel,.bool c.inv]
def cy (l:List bJ):List Value:=l.flatMap pc
theorem dN (l:List bJ):(cy l).length=l.length * 3:=by
  induction l with
  | nil=>rfl
  | cons c l ih=>simp only [cy,List.flatMap_cons,List.length_append,List.length_cons] at ih ⊢;rw [ih];simp [pc];omega
theorem d9 (l:List bJ):(cy l).length=l.length * 3:=dN l
theorem wQ (a b:List bJ):cy a ++ cy b=cy (a ++ b):=by simp [cy]
theorem TL (l:List bJ):qM (cy l)=true:=by
  simp only [qM,cy,List.all_eq_true,List.mem_flatMap]
  rintro v ⟨c,_,h⟩
  simp only [pc,List.mem_cons,List.not_mem_nil,or_false] at h
  rcases h with rfl | rfl | rfl <;> rfl
theorem z8 (l:List bJ) (i:Nat):(cy l).drop (i * 3)=cy (l.drop i):=by
  induction l generalizing i with
  | nil=>simp [cy]
  | cons c l ih =>
    cases i with
    | zero=>simp
    | succ i =>
      have:(i + 1) * 3=(pc c).length + i * 3:=by simp [pc];omega
      show (pc c ++ cy l).drop ((i + 1) * 3)=_
      rw [this,<- List.drop_drop,List.drop_left]
      exact ih i
theorem jd {l:List bJ} {i:Nat} (h:i < l.length):((cy l).drop (i * 3)).take 3=pc (l.getD i .zero):=by
  rw [z8,List.drop_eq_getElem_cons h]
  have e:l.getD i .zero=l[i]:=by simp [h]
  rw [e]
  show (pc l[i] ++ cy (l.drop (i + 1))).take 3=_
  exact List.take_left' Z
theorem Vp:∀ c:UInt8,0<=ix c->(97<=c->c - 97 + 65=c ^^^ 32)/\(¬ 97<=c->c - 65 + 97=c ^^^ 32):=gz (by decide +kernel)
def I3 (l:List (List UInt8)) (c:bJ):List UInt8:=if c.inv then inv (l.getD c.rel.toNat []) else l.getD c.rel.toNat []
def jK (l:List (List UInt8)) (c:bJ):List UInt8:=c.conj ++ I3 l c ++ inv c.conj
def jt (l:List (List UInt8)) (o:List UInt8) (c:bJ):List UInt8:=(jK l c).foldl push o
def mz (l:List (List UInt8)) (d:List bJ):List UInt8:=d.foldl (jt l) []
def iB (g:Int) (l:List (List UInt8)) (c:bJ):Bool:=decide (0<=c.rel) && decide (c.rel < l.length) && decide (bH g c.conj=0)
def dn (d:List bJ):Nat:=(d.map fun c=>c.conj.length).sum
def fx (g:Int) (l:List (List UInt8)) (d:List bJ):Bool:=d.all (iB g l) && decide (d.length<=100000) && decide (dn d<=1000000)
def wG (g:Int) (l:List (List UInt8)) (ws:List (List UInt8)) (ds:List (List bJ)):Nat :=
  if ¬ df g l=0 then 40 else if ws.all (fun w=>decide (bH g w=0))=false then 41 else if ds.all (fx g l)=false then 42 else 0
def i9 (g:Int) (l:List (List UInt8)) (d:List bJ) (w:List UInt8):Nat :=
  if ¬ wG g l [w] [d]=0 then wG g l [w] [d] else if ¬ mz l d=lM w then 5 else 0
theorem jg {g:Int} {l:List (List UInt8)} {i:Nat} (hi:i < l.length) (h:200 < (l.getD i []).length\/gB g (l.getD i [])=true):¬ df g l=0:=fun q=>by
  have:=(c0 q).2.2 _ (bi (d:=[]) hi)
  rcases h with h | h
  · omega
  · rw [h] at this;cases this.2
theorem ry {g:Int} {l:List (List UInt8)} {i:Nat} (hg:¬ (g < 1\/8 < g)) (hl:¬ 60 < l.length) (hi:l.length<=i) (h:∀ j,j < i->(l.getD j []).length<=200/\gB g (l.getD j [])=false):df g l=0 :=
  BE hg hl (Ru hi fun j hj=>(h j hj).1) hi fun j hj=>(h j hj).2
theorem mQ {g:Int} {r:List UInt8} (h:¬ lM r=r):gB g r=true:=by simp [gB,h]
theorem xe {g:Int} {r:List UInt8} (h1:¬ r.length < 1) (h2:¬ ¬ bH g r=0) (h3:¬ ¬ lM r=r):gB g r=false:=by
  have:r ≠ []:=fun q=>by rw [q] at h1;exact h1 (by simp)
  simp only [gB,decide_eq_false this,decide_eq_true (Decidable.not_not.1 h2),decide_eq_true (Decidable.not_not.1 h3)];rfl
theorem jM {g:Int} {r:List UInt8} (h:r.length < 1):gB g r=true:=by
  have:r=[]:=List.length_eq_zero_iff.1 O
  simp [gB,this]
theorem ly {g:Int} {w:List UInt8} (h:¬ ¬ bH g w=0):CZ w:=by
  have h:=Decidable.not_not.1 h
  unfold bH at h
  split at h
  · cases h
  · split at h
    · cases h
    · split at h
      · rename_i q
        intro c hc
        have:=List.all_eq_true.1 q c hc
        simp only [gv,Bool.and_eq_true,decide_eq_true_eq] at this
        exact this.1
      · cases h
theorem gK {g:Int} {w:List UInt8} (h:bH g w=0):w.length<=100000:=by
  unfold bH at h
  split at h
  · cases h
  · split at h
    · cases h
    · omega
theorem vj {d:List bJ} {i:Nat} (h:i < d.length):dn (d.drop i)=(d.getD i .zero).conj.length + dn (d.drop (i + 1)):=by
  have e:d.getD i .zero=d[i]:=by simp [h]
  rw [List.drop_eq_getElem_cons h,e,dn,List.map_cons,List.sum_cons];rfl
theorem Ud {d:List bJ} (h:dn d<=100000000):∀ c ∈ d,c.conj.length<=9223372036854775807:=fun c hc=>by
  have:c.conj.length<=dn d:=by
    clear h
    induction d with
    | nil=>cases hc
    | cons a d ih =>
      simp only [dn,List.map_cons,List.sum_cons] at ih ⊢
      rcases List.mem_cons.1 hc with rfl | hc
      · omega
      · have:=ih hc;omega
  omega
theorem jT {g:Int} {l:List (List UInt8)} {d:List bJ} {i:Nat} (hi:i < d.length) (h:iB g l (d.getD i .zero)=false):fx g l d=false:=by
  have:d.all (iB g l)=false:=List.all_eq_false.2 ⟨_,bi (d:=.zero) hi,by rw [h];decide⟩
  simp [fx,this]
theorem te {g:Int} {l:List (List UInt8)} {d:List bJ} {i n:Nat} (hi:d.length<=i) (h:∀ j,j < i->iB g l (d.getD j .zero)=true) (hn:n + dn (d.drop i)=dn d):fx g l d=(decide (d.length<=100000) && decide (n<=1000000)):=by
  have:d.all (iB g l)=true:=List.all_eq_true.2 fun c hc=>by
    obtain ⟨j,hj,rfl⟩:=List.getElem_of_mem hc
    have:=h j O
    simpa [hj] using this
  have e:dn d=n:=by rw [List.drop_eq_nil_of_le hi] at hn;simpa [dn] using hn.symm
  rw [fx,this,Bool.true_and,e]
theorem m0 {g:Int} {l:List (List UInt8)} {c:bJ} (h:c.rel < 0):iB g l c=false:=by simp [iB,show ¬ 0<=c.rel by omega]
theorem m4 {g:Int} {l:List (List UInt8)} {c:bJ} (h:(l.length:Int)<=c.rel):iB g l c=false:=by simp [iB,show ¬ c.rel < l.length by omega]
theorem m5 {g:Int} {l:List (List UInt8)} {c:bJ} (h:¬ bH g c.conj=0):iB g l c=false:=by simp [iB,h]
theorem tn {g:Int} {l:List (List UInt8)} {c:bJ} (h1:¬ c.rel < 0) (h2:¬ (l.length:Int)<=c.rel) (h3:¬ ¬ bH g c.conj=0):iB g l c=true:=by
  simp [iB,Decidable.not_not.1 h3];omega
theorem pk {g:Int} {l:List (List UInt8)} {d:List bJ} (h:fx g l d=true):∀ c ∈ d,(0<=c.rel/\c.rel < l.length)/\bH g c.conj=0:=fun c hc=>by
  simp only [fx,Bool.and_eq_true,List.all_eq_true] at h
  have:=h.1.1 c hc
  simpa [iB] using this
theorem rm {g:Int} {l:List (List UInt8)} {d:List bJ} (h:fx g l d=true):d.length<=100000/\dn d<=1000000:=by
  simp only [fx,Bool.and_eq_true,decide_eq_true_eq] at h
  exact ⟨h.1.2,h.2⟩
theorem Jk (w:List UInt8):inv (inv w)=w:=by
  simp only [inv,List.map_reverse,List.reverse_reverse,List.map_map]
  have:((fun x:UInt8=>x ^^^ 32) ∘ fun x=>x ^^^ 32)=id:=funext fun x=>jS x
  rw [this,List.map_id]
theorem Ae {l:List bJ} {i k:Nat} (h:i < l.length) (hk:k < 3):(cy l)[i * 3 + k]? = (pc (l.getD i .zero))[k]?:=by
  rw [<- jd h,List.getElem?_take_of_lt hk,List.getElem?_drop]
theorem I6 {l:List bJ} {i:Nat} (h:i < l.length):(cy l)[i * 3 + 0]? = some (bf (l.getD i .zero).conj):=Ae h O
theorem NS {g:Int} {l:List (List UInt8)} {r:Int} (hp:df g l=0) (h:0<=r/\r < l.length):CZ (l.getD r.toNat [])/\(l.getD r.toNat []).length<=200:=by
  have hm:l.getD r.toNat [] ∈ l:=bi O
  have:=(c0 hp).2.2 _ hm
  exact ⟨ly (fun q=>q (tG this.2).2.1),this.1⟩
theorem Lj {l:List (List UInt8)} {o:List UInt8} {c:bJ}:(inv c.conj).foldl push ((if c.inv then inv (l.getD c.rel.toNat []) else l.getD c.rel.toNat []).foldl push (c.conj.foldl push o))=jt l o c:=by
  simp only [jt,jK,I3,List.foldl_append]
theorem FU {l:List (List UInt8)} {o:List UInt8} {c:bJ} (hc:c.conj.length<=100000) (hr:(l.getD c.rel.toNat []).length<=200):(jt l o c).length<=o.length + 200200:=by
  have h1:=ed (jK l c) o
  have h2:(I3 l c).length<=200:=by unfold I3;split <;> simp [gI] <;> exact hr
  unfold jt
  simp only [jK,List.length_append,gI] at h1 h2
  simp only [jK]
  omega
def Kz (l:List Value):List Value:=l
theorem uf (l:List Value):(Kz l).length=l.length:=rfl
theorem CM (l:List Value):(Kz l).length=l.length * 1:=(Nat.mul_one _).symm
theorem CJ {l:List Value} {i:Nat} (h:i < l.length):(Kz l)[i]? = some (l.getD i undef):=by simp [Kz,h]
theorem GT {v:Value} {k:Nat} (h:k < 1):[v].getD k undef=v:=by rw [show k=0 by omega];rfl
theorem Ln {g:Int} {l ws:List (List UInt8)} {ds:List (List bJ)} (h:¬ df g l=0):wG g l ws ds=40:=by rw [wG,if_pos h]
theorem Lq {g:Int} {l ws:List (List UInt8)} {ds:List (List bJ)} {i:Nat} (h:¬ ¬ df g l=0) (hi:i < ws.length) (hw:¬ bH g (ws.getD i [])=0):wG g l ws ds=41:=by
  rw [wG,if_neg h,if_pos]
  exact List.all_eq_false.2 ⟨_,bi (d:=[]) hi,by rw [decide_eq_false hw];decide⟩
theorem Tl {g:Int} {ws:List (List UInt8)} {i:Nat} (hi:ws.length<=i) (h:∀ j,j < i->bH g (ws.getD j [])=0):¬ ws.all (fun w=>decide (bH g w=0))=false:=by
  rw [Bool.not_eq_false,List.all_eq_true]
  intro w hw
  obtain ⟨j,hj,rfl⟩:=List.getElem_of_mem hw
  have:=h j O
  simpa [hj] using this
theorem Lr {g:Int} {l ws:List (List UInt8)} {d:List bJ} {i:Nat} (h:¬ ¬ df g l=0) (hi:ws.length<=i) (hw:∀ j,j < i->bH g (ws.getD j [])=0) (hd:fx g l d=false):wG g l ws [d]=42:=by
  rw [wG,if_neg h,if_neg (Tl hi hw),if_pos (by simp [hd])]
theorem Tn {g:Int} {l ws:List (List UInt8)} {d:List bJ} {i:Nat} (h:¬ ¬ df g l=0) (hi:ws.length<=i) (hw:∀ j,j < i->bH g (ws.getD j [])=0) (hd:fx g l d=true):wG g l ws [d]=0:=by
  rw [wG,if_neg h,if_neg (Tl hi hw),if_neg (by simp [hd])]
theorem ju {g:Int} {l ws:List (List UInt8)} {d:List bJ} (h:¬ ¬ wG g l ws [d]=0):df g l=0/\(∀ w ∈ ws,bH g w=0)/\fx g l d=true:=by
  have h:=Decidable.not_not.1 h
  unfold wG at h
  split at h
  · cases h
  · rename_i h1
    split at h
    · cases h
    · rename_i h2
      split at h
      · cases h
      · rename_i h3
        refine ⟨Decidable.not_not.1 h1,?_,by simpa using h3⟩
        rw [Bool.not_eq_false,List.all_eq_true] at h2
        intro w hw;simpa using h2 w hw
end Go.Proofs.YtjppkekmddjcfaaGreatDoor

namespace Go.Proofs.YtjppkekmddjcfaaGreatDoor
open Go Go.RowKit V
theorem I9:∀ c:UInt8,97<=c->c < 105->((2 * (c - 97).toNat:Nat):Int)=ix c:=gz (by decide +kernel)
theorem Gk:∀ c:UInt8,65<=c->c < 73->((2 * (c - 65).toNat + 1:Nat):Int)=ix c:=gz (by decide +kernel)
theorem yB:∀ c:UInt8,¬ (97<=c/\c < 105)->¬ (65<=c/\c < 73)->ix c = -1:=gz (by decide +kernel)
section
variable {g:Int} {w:List UInt8} {i:Nat} {c:UInt8}
theorem Uo (h1:¬ ix c < 0) (h2:¬ 2 * g<=ix c):gv g c=true:=by
  simp only [gv,Bool.and_eq_true,decide_eq_true_eq];omega
theorem QO (hg:1<=g/\g<=8) (h:100000 < w.length):decide (bH g w=0)=false:=by
  rw [decide_eq_false_iff_not,kw hg];intro q;omega
theorem Gj (hg:1<=g/\g<=8) (hi:i < w.length) (h:gv g (w.getD i 0)=false):decide (bH g w=0)=false:=by
  rw [decide_eq_false_iff_not,kw hg]
  intro q
  have:=q.2 _ (bi (d:=0) hi)
  rw [h] at this;cases this
theorem LI (hg:1<=g/\g<=8) (hi:i < w.length) (h:ix (w.getD i 0) < 0):decide (bH g w=0)=false :=
  Gj hg hi (by simp only [gv,Bool.and_eq_false_iff,decide_eq_false_iff_not];omega)
theorem LJ (hg:1<=g/\g<=8) (hi:i < w.length) (h:2 * g<=ix (w.getD i 0)):decide (bH g w=0)=false :=
  Gj hg hi (by simp only [gv,Bool.and_eq_false_iff,decide_eq_false_iff_not];omega)
theorem LL (hg:1<=g/\g<=8) (hl:w.length<=100000) (hi:w.length<=i) (h:∀ j,j < i->gv g (w.getD j 0)=true):decide (bH g w=0)=true:=by
  rw [decide_eq_true_iff,kw hg]
  refine ⟨hl,fun c hc=>?_⟩
  obtain ⟨j,hj,rfl⟩:=List.getElem_of_mem hc
  have:=h j O
  simpa [hj] using this
end
def GO (a w:List UInt8) (i:Nat):Prop:=i + w.length<=a.length/\(a.take (i + w.length)).drop i=w
instance (a w:List UInt8) (i:Nat):Decidable (GO a w i):=by unfold GO;infer_instance
def PY (a w:List UInt8) (k:Nat):Int:=match (List.range (a.length + 1)).find? (fun i=>decide (k<=i/\GO a w i)) with | some i=>(i:Int) | none=>-1
theorem NY {w:List UInt8} {j:Nat} (hj:1<=j) (hw:j<=w.length):(w.drop j).reverse ++ [w.getD (j - 1) 0]=(w.drop (j - 1)).reverse:=by
  rw [kW (w:=w) (i:=j - 1) O,show j - 1 + 1=j by omega]
  simp
end Go.Proofs.YtjppkekmddjcfaaGreatDoor

namespace Go.Proofs.YtjppkekmddjcfaaGreatDoor
open Go Go.RowKit V
structure be where
  left:List UInt8
  right:List UInt8
  pv:Value
  proof:List bJ
def be.zero:be:=⟨[],[],.slice none 0 0,[]⟩
def qZ (r:be):List Value:=[bf r.left,bf r.right,r.pv]
def db (l:List be):List Value:=l.flatMap qZ
def Proofs (A:AH) (l:List be):Prop:=∀ r ∈ l,bI A 3 r.pv (cy r.proof)
theorem Proofs.le {A B:AH} {l:List be} (h:Proofs A l) (le:A.le B):Proofs B l:=fun r hr=>(h r hr).le le
theorem de (l:List be):(db l).length=l.length * 3:=by
  induction l with
  | nil=>rfl
  | cons c l ih=>simp only [db,List.flatMap_cons,List.length_append,List.length_cons] at ih ⊢;rw [ih];simp [qZ];omega
theorem dp (l:List be):(db l).length=l.length * 3:=de l
theorem Eu (l:List be) (i:Nat):(db l).drop (i * 3)=db (l.drop i):=by
  induction l generalizing i with
  | nil=>simp [db]
  | cons c l ih =>
    cases i with
    | zero=>simp
    | succ i =>
      have:(i + 1) * 3=(qZ c).length + i * 3:=by simp [qZ];omega
      show (qZ c ++ db l).drop ((i + 1) * 3)=_
      rw [this,<- List.drop_drop,List.drop_left]
      exact ih i
theorem iC {l:List be} {i:Nat} (h:i < l.length):((db l).drop (i * 3)).take 3=qZ (l.getD i .zero):=by
  rw [Eu,List.drop_eq_getElem_cons h]
  have e:l.getD i .zero=l[i]:=by simp [h]
  rw [e]
  show (qZ l[i] ++ db (l.drop (i + 1))).take 3=_
  exact List.take_left' Z
theorem Ew {l:List be} {i k:Nat} (h:i < l.length) (hk:k < 3):(db l)[i * 3 + k]? = (qZ (l.getD i .zero))[k]?:=by
  rw [<- iC h,List.getElem?_take_of_lt hk,List.getElem?_drop]
theorem vU {l:List be} {i:Nat} (h:i < l.length):(db l)[i * 3 + 0]? = some (bf (l.getD i .zero).left):=Ew h O
theorem Proofs.get {A:AH} {l:List be} {i:Nat} (hp:Proofs A l) (h:i < l.length):bI A 3 (l.getD i .zero).pv (cy (l.getD i .zero).proof):=hp _ (bi (d:=.zero) h)
def gb (o w:List UInt8):Bool:=decide (w.length<=o.length/\o.drop (o.length - w.length)=w)
def ci (l:List be) (o:List UInt8):Int:=match (List.range l.length).find? (fun i=>gb o (l.getD i .zero).left) with | some i=>(i:Int) | none=>-1
def CY (l:List be) (w:List UInt8):Bool:=decide (cE w=w) && l.all fun r=>decide (PY w r.left 0 < 0)
theorem Mq {l:List be} {w:List UInt8} (h:cE w ≠ w):CY l w=false:=by simp [CY,h]
def jl (g:Int) (w:List UInt8):Bool:=decide (w.length<=1000/\bH g w=0/\cE w=w)
end Go.Proofs.YtjppkekmddjcfaaGreatDoor

namespace Go.Proofs.YtjppkekmddjcfaaGreatDoor
open Go Go.RowKit V
structure rJ {α:Type} [DecidableEq α] (kd:TypeDesc) (enc:α->Value):Prop where
  basic:pb kd=true
  same:∀ a b,Instr.sameNow kd (enc a) (enc b)=some (decide (a=b))
  bits:∀ a,Instr.sameBits 10000 (enc a) (enc a)=true
theorem yN:rJ .string bf:={
  basic:=rfl
  same:=fun a c=>by
    simp only [Instr.sameNow]
    congr 1
    have e:(bs a == bs c)=((bs a).data == (bs c).data):=rfl
    rw [e,Bool.eq_iff_iff,beq_iff_eq,decide_eq_true_iff]
    constructor
    · intro h
      have:(bs a).data.toList=(bs c).data.toList:=by rw [h]
      exact this
    · intro h;rw [h]
  bits:=fun a=>by
    show (bs a == bs a)=true
    have e:(bs a == bs a)=((bs a).data == (bs a).data):=rfl
    rw [e];simp }
theorem rY:rJ (.int .u8) ek:={
  basic:=rfl
  same:=fun a c=>by
    simp only [Instr.sameNow,if_true]
    congr 1
    rw [Bool.eq_iff_iff,beq_iff_eq,decide_eq_true_iff]
    constructor
    · intro h;exact UInt8.toNat_inj.1 (Int.ofNat_inj.1 h)
    · rintro rfl;rfl
  bits:=fun a=>by simp [Instr.sameBits] }
theorem tf:rJ (.int .i64) num:={
  basic:=rfl
  same:=fun a c=>by
    simp only [Instr.sameNow,if_true]
    rfl
  bits:=fun a=>by simp [Instr.sameBits] }
section
variable {α:Type} [DecidableEq α] {kd:TypeDesc} {enc:α->Value}
def dh (enc:α->Value) (es:Array MapEntry) (E:List (α × Value)):Prop:=es.toList.map (fun x=>(x.key,x.val))=E.map fun p=>(enc p.1,p.2)
def lk (E:List (α × Value)) (k:α):Option Value:=(E.find? fun p=>decide (p.1=k)).map (·.2)
def yj (E:List (α × Value)) (k:α) (v:Value):List (α × Value):=if k ∈ E.map (·.1) then E.map (fun p=>if p.1=k then (p.1,v) else p) else E ++ [(k,v)]
theorem dh.nil:dh enc #[] []:=rfl
theorem dh.size {es:Array MapEntry} {E:List (α × Value)} (h:dh enc es E):es.size=E.length:=by
  have:=congrArg List.length h;simpa using this
theorem sW (K:rJ kd enc) (k:α):∀ (l:List MapEntry) (E:List (α × Value)) (n:Nat),l.map (fun x=>(x.key,x.val))=E.map (fun p=>(enc p.1,p.2)) ->
    (∃ i v,Instr.findNow kd (enc k) l n=some (some (n + i,v))/\lk E k=some v/\i < l.length/\(E.map (·.1))[i]? = some k/\(∃ x,l[i]? = some x/\x.key=enc k)/\∀ j,j < i->(E.map (·.1))[j]? ≠ some k)\/(Instr.findNow kd (enc k) l n=some none/\lk E k=none/\k ∉ E.map (·.1)):=by
  intro l
  induction l with
  | nil =>
    intro E n h
    cases E with
    | nil=>right;exact ⟨Z,Z,by simp⟩
    | cons p E=>cases h
  | cons x l ih =>
    intro E n h
    cases E with
    | nil=>cases h
    | cons p E =>
      simp only [List.map_cons,List.cons.injEq,Prod.mk.injEq] at h
      obtain ⟨⟨h1,h2⟩,h3⟩:=h
      by_cases q:k=p.1
      · left
        refine ⟨0,x.val,?_,?_,by simp,by simp [q],⟨x,rfl,by rw [h1,q]⟩,fun j hj=>absurd hj (Nat.not_lt_zero _)⟩
        · simp only [Instr.findNow,h1,K.same,decide_eq_true q,Nat.add_zero]
        · simp [lk,q,h2]
      · have q2:¬ p.1=k:=fun e=>q e.symm
        rcases ih E (n + 1) h3 with ⟨i,v,g1,g2,g3,g4,g5,g6⟩ | ⟨g1,g2,g3⟩
        · left
          refine ⟨i + 1,v,?_,?_,by simp;omega,by simpa using g4,by simpa using g5,fun j hj=>?_⟩
          · simp only [Instr.findNow,h1,K.same,decide_eq_false q];rw [g1,show n + (i + 1)=n + 1 + i by omega]
          · simpa [lk,q2] using g2
          · cases j with
            | zero=>simpa using q2
            | succ j=>simpa using g6 j O
        · right
          refine ⟨?_,?_,by simpa [q] using g3⟩
          · simp only [Instr.findNow,h1,K.same,decide_eq_false q];exact g1
          · simpa [lk,q2] using g2
variable {P:Program} {e:gu} {A:AH} {x y z:Operand} {t kt et:TypeId} {ty:TypeId} {ps:String} {af:Array Edge} {dst:Option Nat} {Q:Value->AH->Prop} {Kp:List PanicEntry->AH->Prop} {g:Option (Nat × Bool)} {m clock:Nat} {es:Array MapEntry} {E:List (α × Value)} {k:α} {v zv:Value} {rw:Bool}
theorem qf (K:rJ kd enc) (hx:bN e x=some (.map (some m))) (hy:bN e y=some (enc k)) (hu:P.underlying t=some (.map kt et)) (hk:P.underlying kt=some kd) (hz:cu P et=some zv) (hg:A.get m=some (.obj rw (.map es clock))) (hE:dh enc es E)
    (h:Q ((lk E k).getD zv) A):ky P e A { dst:=dst,op:=.lookup t x y false,type:=ty,pos:=ps,after:=af,guard:=g } Q Kp:=by
  rcases sW K k es.toList E 0 hE with ⟨i,v,g1,g2,_⟩ | ⟨g1,g2,_⟩
  · rw [g2] at h;exact ⟨_,_,hx,hy,kt,et,kd,zv,es,_,hu,hk,K.basic,hz,.inr ⟨m,rw,clock,Z,hg⟩,g1,h⟩
  · rw [g2] at h;exact ⟨_,_,hx,hy,kt,et,kd,zv,es,_,hu,hk,K.basic,hz,.inr ⟨m,rw,clock,Z,hg⟩,g1,h⟩
theorem wx (K:rJ kd enc) (hx:bN e x=some (.map (some m))) (hy:bN e y=some (enc k)) (hu:P.underlying t=some (.map kt et)) (hk:P.underlying kt=some kd) (hz:cu P et=some zv) (hg:A.get m=some (.obj rw (.map es clock))) (hE:dh enc es E)
    (h1:∀ v,lk E k=some v->Q (.tuple #[v,.bool true]) A) (h2:lk E k=none->Q (.tuple #[zv,.bool false]) A):ky P e A { dst:=dst,op:=.lookup t x y true,type:=ty,pos:=ps,after:=af,guard:=g } Q Kp:=by
  rcases sW K k es.toList E 0 hE with ⟨i,v,g1,g2,_⟩ | ⟨g1,g2,_⟩
  · exact ⟨_,_,hx,hy,kt,et,kd,zv,es,_,hu,hk,K.basic,hz,.inr ⟨m,rw,clock,Z,hg⟩,g1,h1 v g2⟩
  · exact ⟨_,_,hx,hy,kt,et,kd,zv,es,_,hu,hk,K.basic,hz,.inr ⟨m,rw,clock,Z,hg⟩,g1,h2 g2⟩
theorem dh.push (h:dh enc es E) (k:α) (v:Value) (c:Nat):dh enc (es.push { key:=enc k,val:=v,born:=c }) (E ++ [(k,v)]):=by
  have h':es.toList.map (fun x=>(x.key,x.val))=_:=h
  simp only [dh,Array.toList_push,List.map_append,List.map_cons,List.map_nil,h']
theorem D8 {β γ:Type} {f:β->γ} {l:List β} {i:Nat} {F:β->β} {G:List γ} (h:l.map f=G):(l.modify i F).map f=match l[i]? with | some x=>G.set i (f (F x)) | none=>G:=by
  subst h
  apply List.ext_getElem?
  intro j
  cases q:l[i]? with
  | none =>
    have hi:l.length<=i:=by simpa using q
    simp only [List.getElem?_map,List.getElem?_modify]
    by_cases e:i=j
    · subst e;simp [q]
    · simp [e]
  | some x =>
    have hi:i < l.length:=(List.getElem?_eq_some_iff.1 q).1
    simp only [List.getElem?_map,List.getElem?_modify,List.getElem?_set,List.length_map]
    by_cases e:i=j
    · subst e
      have hx:=(List.getElem?_eq_some_iff.1 q).2
      simp [hi,hx]
    · simp [e]
theorem SL {k:α} {v:Value}:∀ {E:List (α × Value)} {i:Nat},(E.map (·.1))[i]? = some k->(E.map (·.1)).Nodup->(E.map fun p=>(enc p.1,p.2)).set i (enc k,v)=(E.map fun p=>if p.1=k then (p.1,v) else p).map fun p=>(enc p.1,p.2):=by
  intro E
  induction E with
  | nil=>intro i h;simp at h
  | cons p E ih =>
    intro i h hn
    cases i with
    | zero =>
      simp only [List.map_cons,List.getElem?_cons_zero,Option.some.injEq] at h
      subst h
      simp only [List.map_cons,List.set_cons_zero,if_true]
      congr 1
      rw [List.map_map]
      apply List.map_congr_left
      intro q hq
      have:¬ q.1=p.1:=fun e=>(List.nodup_cons.1 hn).1 (by show p.1 ∈ _;rw [<- e];exact List.mem_map_of_mem hq)
      simp [this]
    | succ i =>
      simp only [List.map_cons,List.getElem?_cons_succ] at h
      have hp:¬ p.1=k:=fun e=>(List.nodup_cons.1 hn).1 (by show p.1 ∈ _;rw [e];exact List.mem_of_getElem? h)
      simp only [List.map_cons,List.set_cons_succ,if_neg hp]
      congr 1
      exact ih h (List.nodup_cons.1 hn).2
theorem om (K:rJ kd enc) (wf:A.wf) (hx:bN e x=some (.map (some m))) (hy:bN e y=some (enc k)) (hz:bN e z=some v) (hu:P.underlying t=some (.map kt et)) (hk:P.underlying kt=some kd) (hg:A.get m=some (.obj true (.map es clock))) (hE:dh enc es E) (hn:(E.map (·.1)).Nodup)
    (h:∀ A1 es1 ck,uj A A1 m (.obj true (.map es1 ck))->dh enc es1 (yj E k v)->Q undef A1):ky P e A { dst:=dst,op:=.mapUpdate t x y z,type:=ty,pos:=ps,after:=af,guard:=g } Q Kp:=by
  rcases sW K k es.toList E 0 hE with ⟨i,u,g1,g2,g3,g4,⟨w,g5,D⟩,g6⟩ | ⟨g1,g2,g3⟩
  · refine ⟨_,_,_,hx,hy,hz,kt,et,kd,m,es,clock,_,hu,hk,K.basic,Z,hg,g1,⟨w,by simpa using g5,by rw [D];exact K.bits k⟩,h _ _ _ (Po wf hg _) ?_⟩
    have hm:k ∈ E.map (·.1):=List.mem_of_getElem? g4
    show (es.modify (0 + i) _).toList.map _=_
    rw [Nat.zero_add,Array.toList_modify,D8 (show es.toList.map (fun x=>(x.key,x.val))=_ from hE),g5,yj,if_pos hm]
    exact SL g4 hn
  · refine ⟨_,_,_,hx,hy,hz,kt,et,kd,m,es,clock,_,hu,hk,K.basic,Z,hg,g1,h _ _ _ (Po wf hg _) ?_⟩
    rw [yj,if_neg g3];exact hE.push k v clock
theorem yU {E:List (α × Value)} {k:α}:lk E k=none ↔ k ∉ E.map (·.1):=by
  simp only [lk,Option.map_eq_none_iff,List.find?_eq_none,decide_eq_true_eq,List.mem_map,not_exists,not_and]
theorem uO {E:List (α × Value)} {k:α} {v:Value} (h:k ∉ E.map (·.1)):yj E k v=E ++ [(k,v)]:=if_neg h
theorem PG {E:List (α × Value)} {k:α} {v:Value}:(yj E k v).map (·.1)=if k ∈ E.map (·.1) then E.map (·.1) else E.map (·.1) ++ [k]:=by
  unfold yj
  split
  · rw [List.map_map]
    apply List.map_congr_left
    intro p _
    simp only [Function.comp];split <;> rfl
  · simp
theorem Ky {E:List (α × Value)} {k:α} {v:Value} (h:(E.map (·.1)).Nodup):((yj E k v).map (·.1)).Nodup:=by
  rw [PG]
  split
  · exact h
  · rename_i q;exact List.nodup_append.2 ⟨h,by simp,by intro a ha b hb;simp at hb;subst hb;exact fun e=>q (e ▸ ha)⟩
theorem Uh (k j:α) (v:Value):∀ E:List (α × Value),lk (E.map fun p=>if p.1=k then (p.1,v) else p) j=if j=k/\k ∈ E.map (·.1) then some v else lk E j:=by
  intro E
  induction E with
  | nil=>simp [lk]
  | cons p E ih =>
    have hc:∀ (q:α × Value) (F:List (α × Value)),lk (q :: F) j=if q.1=j then some q.2 else lk F j:=fun q F=>by
      by_cases h:q.1=j <;> simp [lk,h]
    rw [List.map_cons,hc,hc,ih]
    by_cases hp:p.1=k
    · by_cases hj:j=k
      · subst hj;simp [hp]
      · have h1:¬ k=j:=fun q=>hj q.symm
        simp [hp,hj,h1]
    · by_cases hj:j=k
      · subst hj;simp only [hp,if_false,true_and,List.map_cons,List.mem_cons,show ¬ j=p.1 from fun q=>hp q.symm,false_or]
      · simp [hp,hj]
theorem Uj {E:List (α × Value)} {k j:α} {v:Value}:lk (yj E k v) j=if j=k then some v else lk E j:=by
  unfold yj
  split
  · rename_i hm
    rw [Uh]
    by_cases hj:j=k <;> simp [hj,hm]
  · rename_i hm
    simp only [lk,List.find?_append]
    by_cases hj:j=k
    · subst hj
      have:E.find? (fun p=>decide (p.1=j))=none:=by
        rw [List.find?_eq_none];intro p hp;simp only [decide_eq_true_eq];exact fun q=>hm (by rw [<- q];exact List.mem_map_of_mem hp)
      simp [this]
    · have h2:¬ k=j:=fun q=>hj q.symm
      simp [hj,h2]
end
def pR (L:List (List UInt8)):List (List UInt8 × Value):=L.map fun w=>(w,.bool true)
theorem wk (L:List (List UInt8)):(pR L).map (·.1)=L:=by simp [pR,List.map_map,Function.comp_def]
theorem Pr (L:List (List UInt8)) (w:List UInt8):(lk (pR L) w).getD (.bool false)=.bool (decide (w ∈ L)):=by
  induction L with
  | nil=>rfl
  | cons x L ih =>
    simp only [pR,List.map_cons,lk,List.find?_cons] at ih ⊢
    by_cases h:x=w
    · subst h;simp
    · have h2:¬ w=x:=fun q=>h q.symm
      simp only [decide_eq_false h,List.mem_cons,h2,false_or];exact ih
theorem Kr {L:List (List UInt8)} {w:List UInt8} (h:w ∉ L):yj (pR L) w (.bool true)=pR (L ++ [w]):=by
  rw [uO (by rw [wk];exact h)];simp [pR]
end Go.Proofs.YtjppkekmddjcfaaGreatDoor

namespace Go.Proofs.YtjppkekmddjcfaaGreatDoor
open Go Go.RowKit V
section
variable {P:Program} {e:gu} {A:AH} {x y z:Operand} {t kt et:TypeId} {ty:TypeId} {ps:String} {af:Array Edge} {dst:Option Nat} {Q:Value->AH->Prop} {Kp:List PanicEntry->AH->Prop} {g:Option (Nat × Bool)} {m clock:Nat} {es:Array MapEntry} {L:List (List UInt8)} {w:List UInt8} {v:Value} {rw:Bool}
theorem Fy (hx:bN e x=some (.map (some m))) (hy:bN e y=some (bf w)) (hu:P.underlying t=some (.map kt et)) (hk:P.underlying kt=some .string) (hz:cu P et=some (.bool false)) (hg:A.get m=some (.obj rw (.map es clock))) (hE:dh bf es (pR L))
    (h:Q (.bool (decide (w ∈ L))) A):ky P e A { dst:=dst,op:=.lookup t x y false,type:=ty,pos:=ps,after:=af,guard:=g } Q Kp :=
  qf yN hx hy hu hk hz hg hE (by rw [Pr];exact h)
theorem FB (wf:A.wf) (hx:bN e x=some (.map (some m))) (hy:bN e y=some (bf w)) (hz:bN e z=some (.bool true)) (hu:P.underlying t=some (.map kt et)) (hk:P.underlying kt=some .string) (hg:A.get m=some (.obj true (.map es clock))) (hE:dh bf es (pR L)) (hL:L.Nodup) (hn:w ∉ L)
    (h:∀ A1 D ck,uj A A1 m (.obj true (.map D ck))->dh bf D (pR (L ++ [w]))->Q undef A1):ky P e A { dst:=dst,op:=.mapUpdate t x y z,type:=ty,pos:=ps,after:=af,guard:=g } Q Kp :=
  om yN wf hx hy hz hu hk hg hE (by rw [wk];exact hL) fun A1 D ck h1 h2=>h A1 D ck h1 (by rw [Kr hn] at h2;exact h2)
end
theorem bJ.ext3 {a b:bJ} (h1:a.conj=b.conj) (h2:a.rel=b.rel) (h3:a.inv=b.inv):a=b:=by cases a;cases b;simp_all
instance:DecidableEq bJ:=fun a b=>decidable_of_iff (a.conj=b.conj/\a.rel=b.rel/\a.inv=b.inv) ⟨fun h=>bJ.ext3 h.1 h.2.1 h.2.2,fun h=>h ▸ ⟨rfl,rfl,rfl⟩⟩
theorem TM {P:Program} {t ts ti tb:TypeId} {k:IntKind} {f0 f1 f2:Field} (hu:P.underlying t=some (.struct #[f0,f1,f2])) (hg:(P.stoodInHeld t || P.eqGuardType P.depth t)=false) (h0:f0.type=ts/\f0.offset=0/\f0.name ≠ "_") (h1:f1.type=ti/\f1.offset=1/\f1.name ≠ "_") (h2:f2.type=tb/\f2.offset=2/\f2.name ≠ "_")
    (a9:dr P ts=some false) (ai:dr P ti=some false) (ab:dr P tb=some false) (us:P.underlying ts=some .string) (ui:P.underlying ti=some (.int k)) (ub:P.underlying tb=some .bool) (a b:bJ) :
    zE P t (.agg #[bf a.conj,num a.rel,.bool a.inv]) (.agg #[bf b.conj,num b.rel,.bool b.inv])=some (decide (a=b)):=by
  obtain ⟨a1,a2,a3⟩:=h0;obtain ⟨b1,b2,b3⟩:=h1;obtain ⟨c1,c2,c3⟩:=h2
  rw [Bool.or_eq_false_iff] at hg
  simp only [zE,hu,hg.1,hg.2,Bool.false_eq_true,or_self,if_false,LX,a1,a2,a3,b1,b2,b3,c1,c2,c3,pw,a9,ai,ab,Wh,us,ui,ub,yu,if_true,ne_eq]
  have hd:decide (a=b)=(decide (a.conj=b.conj) && (decide (a.rel=b.rel) && (a.inv == b.inv))):=by
    rw [Bool.eq_iff_iff];simp only [decide_eq_true_eq,Bool.and_eq_true,beq_iff_eq]
    exact ⟨fun h=>h ▸ ⟨rfl,rfl,rfl⟩,fun h=>bJ.ext3 h.1 h.2.1 h.2.2⟩
  rw [hd]
  by_cases q1:a.conj=b.conj <;> by_cases q2:a.rel=b.rel <;> cases h3:a.inv <;> cases h4:b.inv <;> simp [q1,q2,yu]
theorem tl {α:Type} {l m:List α} {d:α} {i:Nat} (hl:l.length=m.length) (hi:l.length<=i) (h:∀ j,j < i->l.getD j d=m.getD j d):l=m:=by
  refine List.ext_getElem hl fun j h1 h2=>?_
  have:=h j O
  simpa [h1,h2] using this
theorem Gv {α:Type} {l m:List α} {d:α} {i:Nat} (h:¬ l.getD i d=m.getD i d):l ≠ m:=fun e=>h (by rw [e])
def lh (pf:Bool) (r:be):List UInt8 × List UInt8 × List bJ:=(r.left,r.right,if pf then r.proof else [])
def iK (pf:Bool) (rs ss:List be):Bool:=decide (rs.map (lh pf)=ss.map (lh pf))
theorem r5 {β:Type} {f:be->β} {rs:List be} {i:Nat} (hi:i < rs.length):(rs.map f).getD i (f .zero)=f (rs.getD i .zero):=by simp [hi]
theorem Kh {pf:Bool} {rs ss:List be} (h:¬ rs.length=ss.length):iK pf rs ss=false:=by
  rw [iK,decide_eq_false_iff_not];intro q;have:=congrArg List.length q;simp at this;exact h this
theorem Pk {pf:Bool} {rs ss:List be} {i:Nat} (hl:rs.length=ss.length) (hi:i < rs.length) (h:¬ lh pf (rs.getD i .zero)=lh pf (ss.getD i .zero)):iK pf rs ss=false:=by
  rw [iK,decide_eq_false_iff_not];intro q
  have:=congrArg (fun l=>l.getD i (lh pf .zero)) q
  simp only [r5 hi,r5 (show i < ss.length by omega)] at this
  exact h this
theorem Ki {pf:Bool} {rs ss:List be} {i:Nat} (hl:rs.length=ss.length) (hi:rs.length<=i) (h:∀ j,j < i->lh pf (rs.getD j .zero)=lh pf (ss.getD j .zero)):iK pf rs ss=true:=by
  rw [iK,decide_eq_true_iff]
  refine tl (d:=lh pf .zero) (i:=i) (by simpa using hl) (by simpa using hi) fun j hj=>?_
  by_cases q:j < rs.length
  · rw [r5 q,r5 O];exact h j hj
  · simp [q,show ¬ j < ss.length by omega]
section
variable {g:Int} {l:List (List UInt8)} {rs:List be} {r:be} {i:Nat} {w:List UInt8}
theorem jB {A:AH} {n:Nat} {a b:List UInt8} {v:Value} {xs:List Value} (h:bI A n v xs):qM [bf a,bf b,v]=true:=by
  obtain ⟨p,k,c,rfl,_⟩:=h;rfl
def u6 (g:Int) (w:List UInt8):Bool:=decide (w=[]) || decide (200 < w.length) || !decide (bH g w=0) || !decide (cE w=w)
theorem JK (hg:¬ (g < 1\/8 < g)) (hl:¬ 60 < l.length) (h:¬ 0<=AE (u6 g) l):df g l=0:=by
  rw [uE,Bool.not_eq_true,List.any_eq_false] at h
  refine ry (i:=l.length) hg hl (Nat.le_refl _) fun j hj=>?_
  have:=h _ (bi (d:=[]) hj)
  simp only [u6,Bool.or_eq_true,decide_eq_true_eq,Bool.not_eq_true',decide_eq_false_iff_not,not_or,Decidable.not_not] at this
  obtain ⟨⟨⟨h1,h2⟩,h3⟩,h4⟩:=this
  exact ⟨by omega,IL h1 (fun q=>q h3) O (fun q=>q h4)⟩
theorem Ns (hg:¬ (g < 1\/8 < g)) (h:0<=AE (u6 g) l):¬ df g l=0:=by
  rw [uE,List.any_eq_true] at h
  obtain ⟨x,hx,hb⟩:=h
  intro q
  have h2:=(c0 q).2.2 x hx
  obtain ⟨g1,g2,g3⟩:=tG h2.2
  have:cE x=x:=by rw [wr (Mr O g2),g3]
  simp only [u6,g1,g2,this,decide_false,decide_true,Bool.not_true,Bool.or_false,Bool.false_or,decide_eq_true_eq] at hb
  omega
theorem zd (h:g < 1):¬ df g l=0:=fun q=>by have:=(c0 q).1;omega
theorem ze (h:8 < g):¬ df g l=0:=fun q=>by have:=(c0 q).1;omega
theorem zc (h:60 < l.length):¬ df g l=0:=fun q=>by have:=(c0 q).2.1;omega
theorem ko (h:jl g w=true):w.length<=1000:=by simp only [jl,decide_eq_true_eq] at h;exact h.1
theorem nh (h:jl g w=true):bH g w=0:=by simp only [jl,decide_eq_true_eq] at h;exact h.2.1
theorem kO {b:Bool} (h:(!b)=false):b=true:=by simpa using h
theorem Vu {b:Bool} (h:(!b)=true):b=false:=by simpa using h
def fG (g:Int) (l:List (List UInt8)) (r:be):Bool:=jl g r.left && jl g r.right && decide (dB r.right r.left < 0) && decide (i9 g l r.proof (r.left ++ dY r.right)=0)
def iA (rs:List be):List (List UInt8):=rs.map (·.left)
def bW (g:Int) (l:List (List UInt8)) (rs:List be):Bool:=decide (df g l=0) && decide (rs.length<=2000) && rs.all (fG g l) && decide (iA rs).Nodup
theorem kh (h:(!jl g r.left)=true):fG g l r=false:=by simp [fG,Vu h]
theorem ki (h:(!jl g r.right)=true):fG g l r=false:=by simp [fG,Vu h]
theorem kj (h:0<=dB r.right r.left):fG g l r=false:=by simp [fG,show ¬ dB r.right r.left < 0 by omega]
theorem kn (h:¬ i9 g l r.proof (r.left ++ dY r.right)=0):fG g l r=false:=by simp [fG,h]
theorem Cb (h1:(!jl g r.left)=false) (h2:(!jl g r.right)=false) (h3:¬ 0<=dB r.right r.left) (h4:¬ ¬ i9 g l r.proof (r.left ++ dY r.right)=0):fG g l r=true:=by
  simp [fG,kO h1,kO h2,show dB r.right r.left < 0 by omega,Decidable.not_not.1 h4]
theorem fh (h:fG g l r=true):jl g r.left=true/\jl g r.right=true/\dB r.right r.left < 0/\i9 g l r.proof (r.left ++ dY r.right)=0:=by
  simp only [fG,Bool.and_eq_true,decide_eq_true_eq] at h;exact ⟨h.1.1.1,h.1.1.2,h.1.2,h.2⟩
theorem Iu (h:¬ df g l=0):bW g l rs=false:=by simp [bW,h]
theorem Iw (h:2000 < rs.length):bW g l rs=false:=by simp [bW,show ¬ rs.length<=2000 by omega]
theorem mr (hi:i < rs.length) (h:fG g l (rs.getD i .zero)=false):bW g l rs=false:=by
  have:rs.all (fG g l)=false:=List.all_eq_false.2 ⟨_,bi (d:=.zero) hi,by rw [h];decide⟩
  simp [bW,this]
theorem Iy (hi:i < rs.length) (h:(rs.getD i .zero).left ∈ iA (rs.take i)):bW g l rs=false:=by
  have:¬ (iA rs).Nodup:=fun q=>by
    have e:rs.getD i .zero=rs[i]:=by simp [hi]
    have h2:rs=rs.take i ++ rs.drop i:=(List.take_append_drop i rs).symm
    rw [iA,h2,List.map_append,List.drop_eq_getElem_cons hi] at q
    exact (List.nodup_append.1 q).2.2 _ h _ (List.mem_cons_self) (by rw [e])
  simp [bW,this]
theorem Iz (hp:¬ ¬ df g l=0) (hn:¬ 2000 < rs.length) (hi:rs.length<=i) (h:∀ j,j < i->fG g l (rs.getD j .zero)=true) (hd:(iA (rs.take i)).Nodup):bW g l rs=true:=by
  have:rs.all (fG g l)=true:=List.all_eq_true.2 fun r hr=>by
    obtain ⟨j,hj,rfl⟩:=List.getElem_of_mem hr
    have:=h j O
    simpa [hj] using this
  rw [List.take_of_length_le hi] at hd
  simp [bW,this,Decidable.not_not.1 hp,show rs.length<=2000 by omega,hd]
theorem gV (h:bW g l rs=true):df g l=0/\rs.length<=2000/\(∀ r ∈ rs,fG g l r=true)/\(iA rs).Nodup:=by
  simp only [bW,Bool.and_eq_true,decide_eq_true_eq,List.all_eq_true] at h;exact ⟨h.1.1.1,h.1.1.2,h.1.2,h.2⟩
def Xb (l:List (List UInt8)) (rs:List be):Prop:=l.length<=100000/\(∀ x ∈ l,x.length<=100000)/\rs.length<=100000/\∀ r ∈ rs,r.left.length<=100000/\r.right.length<=100000/\r.proof.length<=10000000/\dn r.proof<=100000000
def isRed (g:Int) (l:List (List UInt8)) (rs:List be):Bool:=bW g l rs && rs.all fun r=>CY rs r.right && (CY rs (r.left.take (r.left.length - 1)) && CY rs (r.left.drop 1))
theorem Jm (h:bW g l rs=false):isRed g l rs=false:=by rw [isRed,h];rfl
theorem MD {r:be} (h:fG g l r=true):0 < r.left.length:=by
  have:=(fh h).2.2.1
  rcases Nat.eq_zero_or_pos r.left.length with q | q
  · rw [List.length_eq_zero_iff.1 q] at this
    unfold dB at this
    split at this
    · simp only [fw,List.length_nil] at this
      split at this
      · simp at this
      · rename_i q2
        have:r.right=[]:=List.length_eq_zero_iff.1 (by simpa using q2)
        rw [this] at *;simp [ip] at *
    · omega
  · exact q
theorem na (h:bW g l rs=true) (hr:r ∈ rs):r.left.length<=1000/\r.right.length<=1000/\0 < r.left.length :=
  have q:=(gV h).2.2.1 r hr
  ⟨ko (fh q).1,ko (fh q).2.1,MD q⟩
theorem QI {d:List bJ} {c:bJ} (h:c ∈ d):c.conj.length<=dn d:=by
  induction d with
  | nil=>cases h
  | cons a d ih =>
    simp only [dn,List.map_cons,List.sum_cons] at ih ⊢
    rcases List.mem_cons.1 h with rfl | h
    · omega
    · have:=ih h;omega
theorem vD (hi:i < rs.length):iA (rs.take (i + 1))=iA (rs.take i) ++ [(rs.getD i .zero).left]:=by
  have e:rs.getD i .zero=rs[i]:=by simp [hi]
  rw [iA,iA,List.take_succ_eq_append_getElem hi,List.map_append,e];rfl
theorem vB (hi:i < rs.length) (hd:(iA (rs.take i)).Nodup) (h:(rs.getD i .zero).left ∉ iA (rs.take i)):(iA (rs.take (i + 1))).Nodup:=by
  rw [vD hi]
  exact List.nodup_append.2 ⟨hd,by simp,by intro a ha b hb;simp at hb;subst hb;exact fun q=>h (q ▸ ha)⟩
theorem MF {k:Nat} (hk:k < i) (hi:i<=rs.length) (h:(rs.getD k .zero).left=w):w ∈ iA (rs.take i):=by
  rw [<- h,iA]
  refine List.mem_map_of_mem ?_
  have e:rs.getD k .zero=(rs.take i).getD k .zero:=by simp [List.getElem?_take_of_lt hk]
  rw [e];exact bi Or
theorem Jr {n:Nat} (hn:i<=n) (h:∀ k,k < n->(rs.getD k .zero).left ≠ w):w ∉ iA (rs.take i):=fun q=>by
  obtain ⟨r,hr,e⟩:=List.mem_map.1 q
  obtain ⟨k,hk,rfl⟩:=List.getElem_of_mem hr
  have D:k < i/\k < rs.length:=by rw [List.length_take] at hk;omega
  have:=h k O
  rw [List.getElem_take] at e
  apply this;rw [<- e];simp [D.2]
end
end Go.Proofs.YtjppkekmddjcfaaGreatDoor

namespace Go.Proofs
open Go.Proofs.YtjppkekmddjcfaaGreatDoor
open Go.Shelf
def Tryz.containsS_ren:Go.Shelf.Ren:=⟨fun | 144=>101 | 143=>134 | 219=>177 | 217=>195 | 225=>196 | 224=>197 | 267=>198 | 266=>204 | 314=>205 | n=>n,fun | 9=>9 | 4=>4 | 3=>3 | 5=>5 | 46=>165 | 146=>237 | 51=>199 | n=>n,fun | 1=>1 | n=>n⟩
theorem Tryz.containsS:Go.Proofs.Lays.n144 Tryz.prog Tryz.containsS_ren:={
  mixed:=by kernel_rfl
  f143:=Tryz.func134.trans (congrArg some Y)
  f144:=Tryz.func101.trans (congrArg some Y)
  f217:=Tryz.func195.trans (congrArg some Y)
  f219:=Tryz.func177.trans (congrArg some Y)
  f224:=Tryz.func197.trans (congrArg some Y)
  f225:=Tryz.func196.trans (congrArg some Y)
  f266:=Tryz.func204.trans (congrArg some Y)
  f267:=Tryz.func198.trans (congrArg some Y)
  f314:=Tryz.func205.trans (congrArg some Y)
  t3:=Tryz.underlying3
  a3:=Tryz.isAgg3
  z3:=Tryz.sizeOf3
  v3:=Tryz.zeroValue3
  t4:=Tryz.underlying4
  a4:=Tryz.isAgg4
  z4:=Tryz.sizeOf4
  v4:=Tryz.zeroValue4
  t5:=Tryz.underlying5
  a5:=Tryz.isAgg5
  z5:=Tryz.sizeOf5
  v5:=Tryz.zeroValue5
  t9:=Tryz.underlying9
  a9:=Tryz.isAgg9
  z9:=Tryz.sizeOf9
  v9:=Tryz.zeroValue9
  t46:=Tryz.underlying165
  a46:=Tryz.isAgg165
  z46:=Tryz.sizeOf165
  v46:=Tryz.zeroValue165
  t51:=Tryz.underlying199
  a51:=Tryz.isAgg199
  z51:=Tryz.sizeOf199
  v51:=Tryz.zeroValue199
  t146:=Tryz.underlying237
  a146:=Tryz.isAgg237
  z146:=Tryz.sizeOf237
  v146:=Tryz.zeroValue237
  g1:=by kernel_rfl }
end Go.Proofs

namespace Go.Proofs.YtjppkekmddjcfaaGreatDoor
open Go Go.RowKit V
def rK (A:AH):Prop:=∃ rw cap m,A.get 1=some (.row rw [num m] cap)
theorem rK.le {A B:AH} (h:rK A) (le:A.le B):rK B:=by obtain ⟨r,c,m,h⟩:=h;exact ⟨r,c,m,le.get _ _ h⟩
theorem MZ {a w:List UInt8} {i:Nat} (hi:i + w.length<=a.length):Lib.occAt a w i=decide (GO a w i):=by
  rw [Lib.occAt_iff_take a w i hi,Bool.eq_iff_iff,beq_iff_eq,decide_eq_true_iff,GO]
  have:(a.take (i + w.length)).drop i=(a.drop i).take w.length:=by rw [List.drop_take,show i + w.length - i=w.length by omega]
  rw [this];exact ⟨fun h=>⟨hi,h⟩,fun h=>h.2⟩
theorem QS {a w:List UInt8}:0<=PY a w 0 ↔ ∃ i,GO a w i:=by
  unfold PY
  split
  · rename_i i h
    have h2:=List.find?_some h
    simp only [Nat.zero_le,true_and,decide_eq_true_eq] at h2
    exact ⟨fun _=>⟨i,h2⟩,fun _=>by omega⟩
  · rename_i h
    refine ⟨fun q=>by omega,fun ⟨i,hi⟩=>?_⟩
    have:=List.find?_eq_none.1 h i (List.mem_range.2 (by have:=hi.1;omega))
    simp [hi] at this
theorem yz (a w:List UInt8):Lib.contains a w=decide (0<=PY a w 0):=by
  rw [Lib.contains,Bool.eq_iff_iff,decide_eq_true_iff,decide_eq_true_iff,QS]
  rcases Lib.index_spec a w with ⟨h1,h2⟩ | ⟨i,h1,h2,h3,_⟩
  · rw [h1]
    refine ⟨fun q=>by omega,fun ⟨i,hi⟩=>?_⟩
    have:=h2 i (by have:=hi.1;omega)
    rw [MZ hi.1,decide_eq_false_iff_not] at this
    exact absurd hi this
  · rw [h1]
    refine ⟨fun _=>?_,fun _=>by omega⟩
    rcases Lib.occAt_room h3 with q | q
    · exact ⟨i,by rw [MZ q] at h3;simpa using h3⟩
    · subst q;exact ⟨0,by simp [GO]⟩
theorem Re {rs:List be} {w:List UInt8} (h:cE w=w):CY rs w = !decide (0<=AE (fun r:be=>decide (0<=PY w r.left 0)) rs):=by
  have e:decide (0<=AE (fun r:be=>decide (0<=PY w r.left 0)) rs)=rs.any (fun r=>decide (0<=PY w r.left 0)):=by
    rw [Bool.eq_iff_iff,decide_eq_true_iff,uE]
  rw [e,CY,decide_eq_true h,Bool.true_and,List.not_any_eq_all_not]
  congr 1;funext r
  rw [<- decide_not];congr 1;rw [eq_iff_iff];omega
def o9 (rs:List be) (r:be):Bool:=!CY rs r.right || !(CY rs (r.left.take (r.left.length - 1)) && CY rs (r.left.drop 1))
theorem Jl {g:Int} {l:List (List UInt8)} {rs:List be} (h:bW g l rs=true):isRed g l rs = !decide (0<=AE (o9 rs) rs):=by
  have e:decide (0<=AE (o9 rs) rs)=rs.any (o9 rs):=by
    rw [Bool.eq_iff_iff,decide_eq_true_iff,uE]
  rw [e,isRed,h,Bool.true_and,List.not_any_eq_all_not]
  congr 1;funext r
  simp [o9]
theorem EH (a w:List UInt8) (A:AH) (hM:rK A) (ha:a.length < 4294967281):bE Tryz.prog 101 #[bf a,bf w] A (fun v A1=>v=.bool (decide (0<=PY a w 0))/\A=A1):=by
  obtain ⟨rw,cap,m,hm⟩:=hM
  refine ⟨Tryz.call101,fun W hW=>?_⟩
  refine (Any.strings_Contains Tryz.containsS (bs a) (bs w) m W (by rw [uw];exact ha) (hW.cell (a:=⟨1,0,none⟩) (by simp [AH.cell,hm]))).mono ?_
  rintro e w' ⟨rfl,rfl⟩
  exact ⟨A,hW,.refl _ _,_,Z,by rw [yr,yr,yz],Z⟩
end Go.Proofs.YtjppkekmddjcfaaGreatDoor

namespace Go.Proofs.YtjppkekmddjcfaaGreatDoor
open Go Go.ChangeShapes Go.WideShapes Go.ChangeAt Go.RowKit V
set_option maxRecDepth 100000

theorem own:ownKnob Tryz.prog.godebug=none:=by kernel_rfl
theorem yP:laidOutB Tryz.prog=true:=by kernel_rfl
theorem Vm:Tryz.prog.globalNamed "cayley/word.letters" = some 0:=by kernel_rfl
theorem Md:(Tryz.prog.globals[0]?).map (·.type)=some 172:=by kernel_rfl
theorem QC:Tryz.prog.cellsOf 172=16:=by kernel_rfl
theorem TF:Tryz.prog.cellsOf 5=1:=by kernel_rfl
theorem Dr:Tryz.prog.cellsOf 9=1:=by kernel_rfl
theorem Dq:Tryz.prog.cellsOf 3=1:=by kernel_rfl
theorem Qw:Tryz.prog.cellsOf 22=1:=by kernel_rfl
theorem FW:Tryz.prog.cellsOf 24=2:=by kernel_rfl
theorem Qx:Tryz.prog.cellsOf 25=1:=by kernel_rfl
theorem Qy:Tryz.prog.cellsOf 27=3:=by kernel_rfl
theorem Qz:Tryz.prog.cellsOf 35=1:=by kernel_rfl
theorem FY:Tryz.prog.cellsOf 83=3:=by kernel_rfl
theorem nW {P:Program} {x:String × DataW Unit} {r:List (String × DataW Unit)} {w:World} (h:laidMet P (x :: r) w):laidMet P r w:=by
  obtain ⟨ps,⟨g,t,cs,fuel,p,q,_,_,_,_,hr,rfl⟩,hn,hc⟩:=h
  exact ⟨q,hr,(List.nodup_append.1 hn).2.1,fun b off hm=>hc b off (List.mem_append_right _ hm)⟩
abbrev AQ:List (String × DataW Unit):=[("math/bits.deBruijn32tab",Rows.laid_math_bits_deBruijn32tab),("math/bits.deBruijn64tab",Rows.laid_math_bits_deBruijn64tab),("internal/strconv.uint64pow10",Rows.laid_internal_strconv_uint64pow10),("cayley/word.letters",Rows.laid_cayley_word_letters)]
theorem VV {W:World} (h:laidMetH Tryz.prog AQ W):Lib.TabIs Tryz.prog W "cayley/word.letters" .u8 (bZ.map fun c=>(c.toNat:Int)):=by
  have h0:laidMet Tryz.prog AQ W:=h
  exact Lib.tabIs_of_head (rest:=[]) Vm Md Tryz.underlying172 Tryz.underlying5 TF QC (nW (nW (nW h0)))

def AH.ofWorld (W:World):AH:=⟨W.heap.size,fun b=>match W.heap[b]? with
  | some (.cells cs _ _)=>some (.row false cs.toList cs.size)
  | some o=>some (.obj false o)
  | none=>none⟩
theorem Fp (W:World):co (AH.ofWorld W) W:=by
  refine ⟨rfl,fun b o h=>?_⟩
  simp only [AH.ofWorld] at h
  split at h
  · rename_i cs e fr hb
    cases h
    exact ⟨cs,e,fr,hb,by simp,Nat.le_refl _,fun i hi=>by simp,fun q=>by cases q⟩
  · rename_i x hx hb
    cases h
    exact ⟨hb,fun c e f q=>hx c e f q⟩
  · cases h
theorem Ol (W:World) (b:Nat):(AH.ofWorld W).rw b=false:=by
  unfold AH.rw AH.ofWorld
  simp only
  split
  · rename_i o ho
    split at ho <;> first | (cases ho;rfl) | cases ho
  · rfl
theorem zO {W w':World} {A':AH} (h:eD (AH.ofWorld W) W A' w'):Below W.heap.size W w' :=
  ⟨h.os,h.tape,h.output.1,h.size,fun k hk=>h.kept k hk (Ol W k)⟩
theorem D5 {W:World} (h:Lib.TabIs Tryz.prog W "cayley/word.letters" .u8 (bZ.map fun c=>(c.toNat:Int))):gy (AH.ofWorld W):=by
  unfold Lib.TabIs World.var? at h
  rw [Vm] at h
  simp only [Option.bind_some] at h
  split at h
  · rename_i cs e fr hb
    refine ⟨false,cs.size,?_⟩
    have:cs.toList=ao bZ:=by
      have:=congrArg (Option.map Array.toList) h
      simp only [Option.map_some,Option.some.injEq] at this
      rw [this]
      simp [ao]
    simp only [AH.ofWorld,hb,this]
  · cases h
theorem pW (s:ByteArray):Value.string s=bf s.data.toList:=by
  show Value.string s=Value.string ⟨s.data.toList.toArray⟩
  rw [Array.toArray_toList]
theorem Dn {k:FuncId} {args:List Value} {W:World} (h:bE Tryz.prog k args.toArray (AH.ofWorld W) fun v A1=>v=.bool true/\(AH.ofWorld W).le A1/\A1.wf) :
    Calls Tryz.prog k args.toArray W fun e w'=>e=.returned (.bool true)/\Below W.heap.size W w':=by
  refine (h.2 W (Fp W)).mono ?_
  rintro e w' ⟨A',_,hs,v,rfl,rfl,_⟩
  exact ⟨Z,zO hs⟩
theorem FZ:Tryz.prog.cellsOf 85=3:=by kernel_rfl
theorem TE:Tryz.prog.cellsOf 4=1:=by kernel_rfl
theorem tK {α:Type} {Q:Nat->α->Prop}:∀ n:Nat,(∀ i,i < n->∃ z,Q i z)->∃ zs:List α,zs.length=n/\∀ i z,zs[i]? = some z->Q i z
  | 0,_=>⟨[],rfl,fun i z h=>by simp at h⟩
  | n + 1,h=>by
    obtain ⟨zs,h1,h2⟩:=tK n fun i hi=>h i O
    obtain ⟨z,hz⟩:=h n O
    refine ⟨zs ++ [z],by simp [h1],fun i y hy=>?_⟩
    by_cases q:i < n
    · exact h2 i y (by rwa [List.getElem?_append_left O] at hy)
    · rw [List.getElem?_append_right O] at hy
      have:i - zs.length=0:=by
        have:=(List.getElem?_eq_some_iff.1 hy).1
        simp at this;omega
      rw [this] at hy
      have e:i=n:=by omega
      have:z=y:=by simpa using hy
      rw [e,<- this];exact hz
theorem Ao {α:Type} {f:α->List Value} {k:Nat} (hf:∀ z,(f z).length=k):∀ (zs:List α) (i j:Nat) (z:α),zs[i]? = some z->j < k->(zs.flatMap f)[i * k + j]? = (f z)[j]?
  | [],i,j,z,h,_=>by simp at h
  | a :: zs,0,j,z,h,hj=>by
    have:a=z:=by simpa using h
    subst this
    rw [Nat.zero_mul,Nat.zero_add,List.flatMap_cons,List.getElem?_append_left (by rw [hf];exact hj)]
  | a :: zs,i + 1,j,z,h,hj=>by
    have:=Ao hf zs i j z (by simpa using h) hj
    rw [List.flatMap_cons,List.getElem?_append_right (by rw [hf,Nat.add_mul];omega),hf,<- this]
    congr 1;rw [Nat.add_mul];omega
theorem Aq {α:Type} {f:α->List Value} {k:Nat} (hf:∀ z,(f z).length=k) (zs:List α):(zs.flatMap f).length=zs.length * k:=by
  induction zs with
  | nil=>simp
  | cons a zs ih=>rw [List.flatMap_cons,List.length_append,ih,hf,List.length_cons,Nat.add_mul];omega

theorem IK (a:Addr) (n:Nat):(a.add n).block=a.block:=by unfold Addr.add;split <;> rfl
theorem Qk (a:Addr) (m n:Nat):(a.add m).add n=a.add (m + n):=by
  by_cases hm:m=0
  · subst hm;simp [Addr.add]
  · by_cases hn:n=0
    · subst hn;simp [Addr.add]
    · have:¬ m + n=0:=by omega
      simp [Addr.add,hm,hn,this,Nat.add_assoc]
theorem qC {P:Program} {α:Type} {H:Type} {enc:TypeId × Value->H} {W:World} {base:Nat} {sp:Nat->Bool} {held:Bool} {t e:TypeId} {fuel k:Nat} {cs:List Value} {x:DataW H × List MemPlace} (f:α->List Value) (p:α->Prop) (hf:∀ z,(f z).length=k) (h0:0 < k)
    (ht:P.underlying t=some (.slice e)) (hc:P.cellsOf e=k) (each:∀ (m:Nat) (c:List Value) (y:DataW H × List MemPlace),DataW.trod enc P W base sp held m e c=some y->∃ z,c=f z/\p z) (h:DataW.trod enc P W base sp held fuel t cs=some x) :
    ∃ (zs:List α) (v:Value),cs=[v]/\zs.length<=maxLen/\bI (AH.ofWorld W) k v (zs.flatMap f)/\∀ z ∈ zs,p z:=by
  rcases DataW.trod_slice ht h with ⟨rfl,_⟩ | ⟨a,len,cap,elems,rest,n,_,rfl,_,hb,hl,hm,hlen,hel,_,_⟩
  · exact ⟨[],_,Z,Nat.zero_le _,⟨none,0,0,Z,by simp,Nat.le_refl _,.inl Z⟩,by simp⟩
  · have key:∀ i,i < len->∃ z,p z/\∀ j,j < k->W.cell? (a.add (i * k + j))=(f z)[j]?:=by
      intro i hi
      have hq:=hel i hi
      have hsome:∃ y,elems[i]? = some y:=⟨elems[i]'O,by simp [show i < elems.length by omega]⟩
      obtain ⟨y,hy⟩:=hsome
      rw [hy,Option.bind_eq_some_iff] at hq
      obtain ⟨c,D,a1⟩:=hq
      obtain ⟨z,rfl,hz⟩:=each n c y a1
      refine ⟨z,hz,fun j hj=>?_⟩
      unfold World.cells? at D
      rw [if_pos (by rw [IK];exact hb)] at D
      have:=mapM_some_get D j j (by rw [hc];simp [hj])
      rw [hc] at this
      rw [<- this,Qk]
    obtain ⟨zs,a0,V⟩:=tK len key
    refine ⟨zs,_,rfl,by omega,⟨some a,len,cap,rfl,by rw [Aq hf,a0],hl,?_⟩,fun z hz=>?_⟩
    · by_cases hz:len=0
      · exact .inl hz
      · right
        obtain ⟨blk,off,spot⟩:=a
        obtain ⟨z0,a4⟩:∃ z,zs[0]? = some z:=⟨zs[0]'O,by simp [show 0 < zs.length by omega]⟩
        have X:=(V 0 z0 a4).2 0 h0
        have a2:∃ v,(f z0)[0]? = some v:=⟨(f z0)[0]'(by rw [hf];exact h0),by simp [hf,h0]⟩
        obtain ⟨v0,a3⟩:=a2
        rw [a3] at X
        have hspot:spot=none:=by simpa [Addr.add] using World.cell?_spot X
        subst hspot
        have hcell:∀ i j,i < len->j < k->∃ z,zs[i]? = some z/\∃ cs e fr,W.heap[blk]? = some (.cells cs e fr)/\cs[off + (i * k + j)]? = (f z)[j]?:=fun i j hi hj=>by
          obtain ⟨z,hz⟩:∃ z,zs[i]? = some z:=⟨zs[i]'O,by simp [show i < zs.length by omega]⟩
          refine ⟨z,hz,?_⟩
          have:=(V i z hz).2 j hj
          have hv:(f z)[j]? = some ((f z)[j]'(by rw [hf];exact hj)):=by simp [hf,hj]
          rw [hv] at this ⊢
          rw [add_plain] at this
          simp only [World.cell?] at this
          split at this
          · rename_i cs e fr hb
            exact ⟨cs,e,fr,hb,by simpa using this⟩
          · cases this
        obtain ⟨_,_,cs,e',fr,hb,_⟩:=hcell 0 0 O h0
        refine ⟨blk,off,false,cs.toList,cs.size,Z,by simp [AH.ofWorld,hb],?_⟩
        apply List.ext_getElem?
        intro q
        by_cases hq:q < len * k
        · have hk:q / k < len:=Nat.div_lt_of_lt_mul (by rw [Nat.mul_comm];exact hq)
          have hr:q % k < k:=Nat.mod_lt _ h0
          have e1:q / k * k + q % k=q:=by rw [Nat.mul_comm];exact Nat.div_add_mod q k
          obtain ⟨z,hz,cs',e',fr',hb',h2⟩:=hcell (q / k) (q % k) hk hr
          rw [hb] at hb';cases hb'
          rw [e1] at h2
          have h3:=Ao hf zs (q / k) (q % k) z hz hr
          rw [e1] at h3
          rw [List.getElem?_take_of_lt hq,List.getElem?_drop,Array.getElem?_toList,h2,h3]
        · rw [List.getElem?_eq_none Or,List.getElem?_eq_none (by rw [Aq hf,a0];omega)]
    · obtain ⟨i,hi,rfl⟩:=List.getElem_of_mem hz
      exact (V i _ (by simp [hi])).1

section
variable {H:Type} {enc:TypeId × Value->H} {W:World} {base:Nat} {sp:Nat->Bool} {held:Bool} {fuel:Nat} {x:DataW H × List MemPlace}
theorem CE {c:List Value} (h:c.length=3):∃ a b d,c=[a,b,d]:=by
  match c,h with
  | [a,b,d],_=>exact ⟨a,b,d,Z⟩
theorem JD {c:List Value} (h:DataW.trod enc Tryz.prog W base sp held fuel 85 c=some x):∃ z:bJ,c=pc z/\z.conj.length<=9223372036854775807:=by
  obtain ⟨xs,n,_,_,hl,hx,hi⟩:=DataW.trod_struct Tryz.underlying85 h
  rw [FZ] at hl
  obtain ⟨a,b,d,rfl⟩:=CE hl
  have some_at:∀ i,i < 3->∃ y,xs[i]? = some y:=fun i hi=>⟨xs[i]'(by rw [hx];exact hi),by simp [show i < xs.length by rw [hx];exact hi]⟩
  obtain ⟨y0,h0⟩:=some_at 0 U
  obtain ⟨y1,h1⟩:=some_at 1 U
  obtain ⟨y2,h2⟩:=some_at 2 U
  have g0:=hi 0 _ Z
  have g1:=hi 1 _ Z
  have g2:=hi 2 _ Z
  rw [h0] at g0
  rw [h1] at g1
  rw [h2] at g2
  obtain ⟨s,e0,_,hs⟩:=DataW.trod_string Tryz.underlying9 g0
  obtain ⟨r,e1,_⟩:=DataW.trod_int Tryz.underlying3 g1
  obtain ⟨v,e2,_⟩:=DataW.trod_bool Tryz.underlying4 g2
  have e0:List.take (Tryz.prog.cellsOf 9) (List.drop 0 [a,b,d])=_:=e0
  have e1:List.take (Tryz.prog.cellsOf 3) (List.drop 1 [a,b,d])=_:=e1
  have e2:List.take (Tryz.prog.cellsOf 4) (List.drop 2 [a,b,d])=_:=e2
  rw [Dr] at e0;rw [Dq] at e1;rw [TE] at e2
  have f0:a=.string s:=by simpa using e0
  have f1:b=.int .i64 r:=by simpa using e1
  have f2:d=.bool v:=by simpa using e2
  refine ⟨⟨s.data.toList,r,v⟩,?_,?_⟩
  · rw [f0,f1,f2,pW];rfl
  · unfold maxLen at hs
    show s.data.toList.length<=_
    rw [Array.length_toList]
    exact Nat.le_trans hs U
theorem JF {c:List Value} (h:DataW.trod enc Tryz.prog W base sp held fuel 83 c=some x):∃ z:be,c=qZ z/\bI (AH.ofWorld W) 3 z.pv (cy z.proof):=by
  obtain ⟨xs,n,_,_,hl,hx,hi⟩:=DataW.trod_struct Tryz.underlying83 h
  rw [FY] at hl
  obtain ⟨a,b,d,rfl⟩:=CE hl
  have some_at:∀ i,i < 3->∃ y,xs[i]? = some y:=fun i hi=>⟨xs[i]'(by rw [hx];exact hi),by simp [show i < xs.length by rw [hx];exact hi]⟩
  obtain ⟨y0,h0⟩:=some_at 0 U
  obtain ⟨y1,h1⟩:=some_at 1 U
  obtain ⟨y2,h2⟩:=some_at 2 U
  have g0:=hi 0 _ Z
  have g1:=hi 1 _ Z
  have g2:=hi 2 _ Z
  rw [h0] at g0
  rw [h1] at g1
  rw [h2] at g2
  obtain ⟨s,e0,_,_⟩:=DataW.trod_string Tryz.underlying9 g0
  obtain ⟨r,e1,_,_⟩:=DataW.trod_string Tryz.underlying9 g1
  obtain ⟨zs,v,e2,_,hs,_⟩:=qC pc (fun z=>z.conj.length<=9223372036854775807) (fun _=>rfl) U Tryz.underlying35 FZ (fun _ _ _ h=>JD h) g2
  have e0:List.take (Tryz.prog.cellsOf 9) (List.drop 0 [a,b,d])=_:=e0
  have e1:List.take (Tryz.prog.cellsOf 9) (List.drop 1 [a,b,d])=_:=e1
  have e2:List.take (Tryz.prog.cellsOf 35) (List.drop 2 [a,b,d])=_:=e2
  rw [Dr] at e0 e1;rw [Qz] at e2
  have f0:a=.string s:=by simpa using e0
  have f1:b=.string r:=by simpa using e1
  have f2:d=v:=by simpa using e2
  refine ⟨⟨s.data.toList,r.data.toList,v,zs⟩,?_,hs⟩
  rw [f0,f1,f2,pW,pW];rfl
theorem JG {c:List Value} (h:DataW.trod enc Tryz.prog W base sp held fuel 9 c=some x):∃ z:List UInt8,c=[bf z]/\z.length<=9223372036854775807:=by
  obtain ⟨s,e0,_,hs⟩:=DataW.trod_string Tryz.underlying9 h
  refine ⟨s.data.toList,by rw [e0,pW],?_⟩
  unfold maxLen at hs
  rw [Array.length_toList]
  exact Nat.le_trans hs U
theorem Kx (l:List (List UInt8)):l.flatMap (fun w=>[bf w])=ei l:=by
  induction l with
  | nil=>rfl
  | cons a l ih=>rw [List.flatMap_cons,ih];rfl
theorem Ek {c:List Value} (h:DataW.trod enc Tryz.prog W base sp held fuel 22 c=some x):∃ (l:List (List UInt8)) (u:Value),c=[u]/\l.length<=9223372036854775807/\bI (AH.ofWorld W) 1 u (ei l):=by
  obtain ⟨zs,v,e,hl,hs,_⟩:=qC (fun w:List UInt8=>[bf w]) (fun z=>z.length<=9223372036854775807) (fun _=>rfl) U Tryz.underlying22 Dr (fun _ _ _ h=>JG h) h
  rw [Kx] at hs
  unfold maxLen at hl
  exact ⟨zs,v,e,Nat.le_trans hl U,hs⟩
theorem Ej {c:List Value} (h:DataW.trod enc Tryz.prog W base sp held fuel 25 c=some x):∃ (l:List be) (u:Value),c=[u]/\l.length<=9223372036854775807/\bI (AH.ofWorld W) 3 u (db l)/\Proofs (AH.ofWorld W) l:=by
  obtain ⟨zs,v,e,hl,hs,hp⟩:=qC qZ (fun z=>bI (AH.ofWorld W) 3 z.pv (cy z.proof)) (fun _=>rfl) U Tryz.underlying25 FY (fun _ _ _ h=>JF h) h
  unfold maxLen at hl
  exact ⟨zs,v,e,Nat.le_trans hl U,hs,hp⟩
end
theorem M8 {b0:Nat} {H:Type} {enc:TypeId × Value->H} {W:World} {v:Value} {d:DataW H} {ps:List MemPlace} (hval:Value.okWide Tryz.prog W .any b0 27 v) (hd:DataW.Trod enc Tryz.prog W 0 (fun _=>true) true 27 v d ps) :
    ∃ (g:Int) (u:Value) (l:List (List UInt8)) (rv:Value) (rs:List be),v=.agg #[.int .i64 g,u,rv]/\l.length<=9223372036854775807/\rs.length<=9223372036854775807/\bI (AH.ofWorld W) 1 u (ei l)/\bI (AH.ofWorld W) 3 rv (db rs)/\Proofs (AH.ofWorld W) rs:=by
  obtain ⟨cs,rfl,hsz⟩:=okWide_struct Tryz.underlying27 hval
  rw [Qy] at hsz
  obtain ⟨a,b,c,rfl⟩:∃ a b c,cs = #[a,b,c]:=by
    rcases cs with ⟨l⟩
    match l,hsz with
    | [a,b,c],_=>exact ⟨a,b,c,Z⟩
  obtain ⟨fuel,hf⟩:=hd
  obtain ⟨y0,y1,n,_,_,g0,g1⟩:=trod_struct2 Tryz.underlying27 hf
  obtain ⟨z0,z1,m,_,_,k0,k1⟩:=trod_struct2 Tryz.underlying24 g0
  obtain ⟨g,e0,_⟩:=DataW.trod_int Tryz.underlying3 k0
  obtain ⟨l,u,e1,h,X⟩:=Ek k1
  obtain ⟨rs,rv,e2,D,a0,V⟩:=Ej g1
  have e0:List.take (Tryz.prog.cellsOf 3) (List.drop 0 (List.take (Tryz.prog.cellsOf 24) (List.drop 0 [a,b,c])))=_:=e0
  have e1:List.take (Tryz.prog.cellsOf 22) (List.drop 1 (List.take (Tryz.prog.cellsOf 24) (List.drop 0 [a,b,c])))=_:=e1
  have e2:List.take (Tryz.prog.cellsOf 25) (List.drop 2 [a,b,c])=_:=e2
  rw [FW,Dq] at e0;rw [FW,Qw] at e1;rw [Qx] at e2
  have f0:a=.int .i64 g:=by simpa using e0
  have f1:b=u:=by simpa using e1
  have f2:c=rv:=by simpa using e2
  exact ⟨g,u,l,rv,rs,by rw [f0,f1,f2],h,D,X,a0,V⟩
theorem Jw {W:World} (h:W.ShapedOpen Tryz.prog):rK (AH.ofWorld W):=by
  have h0:((begin Tryz.prog (fun _ _=>0) default).world.heap[1]?).bind Obj.row? = some (#[.int .i64 0],3):=by kernel_rfl
  obtain ⟨m,hm⟩:=cell_of_shapedOpen_int (g:=1) (t:=3) (zero:=#[.int .i64 0]) h (of_decide_eq_true Y) h0 Z Y Y Tryz.underlying3
  obtain ⟨cs,hh,hs,_⟩:=h.1 1 #[.int .i64 0] 3 (of_decide_eq_true Y) h0
  obtain ⟨c,rfl⟩:∃ c,cs = #[c]:=by
    rcases cs with ⟨l⟩
    match l,hs with
    | [c],_=>exact ⟨c,Z⟩
  have hc:c=.int .i64 m:=by
    simp only [World.cell?,hh] at hm
    simpa using hm
  subst hc
  exact ⟨false,1,m,by simp [AH.ofWorld,hh]⟩
noncomputable def tg (os:Os):World :=
  let w:=World.holding Tryz.prog os ⟨#[],#[],[]⟩
  { w with heap:=((((w.heap.modify 0 fun
      | .cells _ t frozen=>.cells (ao bZ).toArray t frozen
      | o=>o).modify 2 fun
      | .cells _ t frozen=>.cells #[.int .u64 1,.int .u64 10,.int .u64 100,.int .u64 1000,.int .u64 10000,.int .u64 100000,.int .u64 1000000,.int .u64 10000000,.int .u64 100000000,.int .u64 1000000000,.int .u64 10000000000,.int .u64 100000000000,.int .u64 1000000000000,.int .u64 10000000000000,.int .u64 100000000000000,.int .u64 1000000000000000,.int .u64 10000000000000000,.int .u64 100000000000000000,.int .u64 1000000000000000000,.int .u64 10000000000000000000] t frozen
      | o=>o).modify 3 fun
      | .cells _ t frozen=>.cells (ao [0,1,28,2,29,14,24,3,30,22,20,15,25,17,4,8,31,27,13,23,21,19,16,7,26,12,18,6,11,5,10,9]).toArray t frozen
      | o=>o).modify 4 fun
      | .cells _ t frozen=>.cells (ao [0,1,56,2,57,49,28,3,61,58,42,50,38,29,17,4,62,47,59,36,45,43,51,22,53,39,33,30,24,18,12,5,63,55,48,27,60,41,37,16,46,35,44,21,52,32,23,11,54,26,40,15,34,20,31,10,25,14,19,9,13,8,7,6]).toArray t frozen
      | o=>o) }
end Go.Proofs.YtjppkekmddjcfaaGreatDoor

namespace Go.Proofs.YtjppkekmddjcfaaGreatDoor
open Go Go.RowKit V
theorem V.Fresh.sep0 {A B:AH} {v u:Value} {size s2:Nat} {xs ys:List Value} (h:Fresh A B v size xs) (hu:o0 A u s2 ys):bk v u:=fun c hv hc=>by
  obtain ⟨x,hx⟩:=hu.blkget hc
  have:=h.lo c hv
  rw [hx] at this;cases this
def P4 (p:List UInt8) (d:List bJ):Bool:=d.all fun c=>decide (p.length + c.conj.length<=100000)
def pq (p:List UInt8) (c:bJ):bJ:=⟨cE (p ++ c.conj),c.rel,c.inv⟩
def mZ (p:List UInt8) (d:List bJ):List bJ:=if P4 p d then d.map (pq p) else []
theorem Un {p:List UInt8} {d:List bJ} {i:Nat} (hi:i < d.length) (h:100000 < p.length + (d.getD i .zero).conj.length):P4 p d=false :=
  List.all_eq_false.2 ⟨_,bi (d:=.zero) hi,by simp only [decide_eq_true_eq];omega⟩
theorem Ry {p:List UInt8} {d:List bJ} {i:Nat} (hi:d.length<=i) (h:∀ j,j < i->p.length + (d.getD j .zero).conj.length<=100000):P4 p d=true :=
  List.all_eq_true.2 fun c hc=>by
    obtain ⟨j,hj,rfl⟩:=List.getElem_of_mem hc
    have:=h j O
    simpa [hj] using this
theorem Ed {p:List UInt8} {d o:List bJ} {i:Nat} (hi:i < d.length) (h:o=(d.take i).map (pq p)):o ++ [⟨cE (p ++ (d.getD i .zero).conj),(d.getD i .zero).rel,(d.getD i .zero).inv⟩]=(d.take (i + 1)).map (pq p):=by
  have e:d.getD i .zero=d[i]:=by simp [hi]
  rw [h,List.take_succ_eq_append_getElem hi,List.map_append,e];rfl
theorem Jy {p:List UInt8} {d o:List bJ} {i:Nat} (hi:d.length<=i) (h:o=(d.take i).map (pq p)) (hk:P4 p d=true):o=mZ p d:=by
  rw [h,mZ,if_pos hk,List.take_of_length_le hi]
theorem Bg (p:List UInt8) (d:List bJ):(mZ p d).length<=d.length:=by unfold mZ;split <;> simp
theorem MR {p:List UInt8} {d:List bJ} (h:P4 p d=true):(mZ p d).length=d.length:=by rw [mZ,if_pos h];simp
theorem nA (a b:List bJ):dn (a ++ b)=dn a + dn b:=by simp [dn]
theorem vi (c:bJ) (d:List bJ):dn (c :: d)=c.conj.length + dn d:=by simp [dn]
structure FJ where
  word:List UInt8
  steps:Nat
  disk:List bJ
def FJ.zero:FJ:=⟨[],0,[]⟩
structure C9 where
  rest:List UInt8
  stack:List UInt8
  steps:Nat
  disk:List bJ
  sum:Nat
abbrev jo (q:List UInt8):UInt8:=q.getD (q.length - 1) 0
abbrev oC (q:List UInt8):List UInt8:=q.take (q.length - 1)
abbrev vy (k q:List UInt8):Prop:=0 < k.length/\jo k=jo q ^^^ 32
abbrev p4 (rs:List be) (k:List UInt8):be:=rs.getD (ci rs k).toNat .zero
abbrev vl (rs:List be) (k:List UInt8):List UInt8:=k.take (k.length - (p4 rs k).left.length)
abbrev Bi (rs:List be) (k:List UInt8):List bJ:=mZ (vl rs k) (p4 rs k).proof
def fits (rs:List be) (k:List UInt8) (n:Nat) (d:List bJ) (m:Nat):Prop :=
  P4 (vl rs k) (p4 rs k).proof=true/\n + 1<=20000/\d.length + (p4 rs k).proof.length<=100000/\m + dn (Bi rs k)<=1000000
instance (rs:List be) (k:List UInt8) (n:Nat) (d:List bJ) (m:Nat):Decidable (fits rs k n d m):=by unfold fits;infer_instance
def rc (rs:List be) (s:C9):Option C9 :=
  if vy s.stack s.rest then some ⟨oC s.rest,oC s.stack,s.steps,s.disk,s.sum⟩
  else if ci rs (s.stack ++ [jo s.rest]) < 0 then some ⟨oC s.rest,s.stack ++ [jo s.rest],s.steps,s.disk,s.sum⟩
  else if fits rs (s.stack ++ [jo s.rest]) s.steps s.disk s.sum then
    some ⟨oC s.rest ++ (p4 rs (s.stack ++ [jo s.rest])).right.reverse,vl rs (s.stack ++ [jo s.rest]),s.steps + 1,s.disk ++ Bi rs (s.stack ++ [jo s.rest]),s.sum + dn (Bi rs (s.stack ++ [jo s.rest]))⟩
  else none
def gU (rs:List be):Nat->C9->Option C9
  | 0,_=>none
  | f + 1,s=>if s.rest=[] then some s else match rc rs s with | none=>none | some s'=>gU rs f s'
def xl:Nat:=2001000000
def start (w:List UInt8):C9:=⟨w.reverse,[],0,[],0⟩
def jV (rs:List be) (w:List UInt8):Option FJ:=(gU rs xl (start w)).map fun s=>⟨s.stack,s.steps,s.disk⟩
section
variable {rs:List be} {f n m:Nat} {q k:List UInt8} {d:List bJ} {R:Option C9}
theorem zn (hf:0 < f) (hq:q.length=0) (h:gU rs f ⟨q,k,n,d,m⟩=R):R=some ⟨q,k,n,d,m⟩:=by
  obtain ⟨f,rfl⟩:∃ g,f=g + 1:=⟨f - 1,by omega⟩
  rw [<- h,gU,if_pos (List.length_eq_zero_iff.1 hq)]
theorem zp (hf:0 < f) (hq:0 < q.length) (h:gU rs f ⟨q,k,n,d,m⟩=R) {s:C9} (e:rc rs ⟨q,k,n,d,m⟩=some s):gU rs (f - 1) s=R:=by
  obtain ⟨f,rfl⟩:∃ g,f=g + 1:=⟨f - 1,by omega⟩
  rw [<- h,gU,if_neg (fun z=>by rw [show q=[] from z] at hq;exact absurd hq (by simp)),e];rfl
theorem Sc (hf:0 < f) (hq:0 < q.length) (h:gU rs f ⟨q,k,n,d,m⟩=R) (hc:vy k q):gU rs (f - 1) ⟨oC q,oC k,n,d,m⟩=R :=
  zp hf hq h (by rw [rc,if_pos hc])
theorem Oe (hf:0 < f) (hq:0 < q.length) (h:gU rs f ⟨q,k,n,d,m⟩=R) (hc:¬ vy k q) (hr:ci rs (k ++ [jo q]) < 0):gU rs (f - 1) ⟨oC q,k ++ [jo q],n,d,m⟩=R :=
  zp hf hq h (by rw [rc,if_neg hc,if_pos hr])
theorem Oh (hf:0 < f) (hq:0 < q.length) (h:gU rs f ⟨q,k,n,d,m⟩=R) (hc:¬ vy k q) (hr:¬ ci rs (k ++ [jo q]) < 0) (hx:fits rs (k ++ [jo q]) n d m) :
    gU rs (f - 1) ⟨oC q ++ (p4 rs (k ++ [jo q])).right.reverse,vl rs (k ++ [jo q]),n + 1,d ++ Bi rs (k ++ [jo q]),m + dn (Bi rs (k ++ [jo q]))⟩=R :=
  zp hf hq h (by rw [rc,if_neg hc,if_neg hr,if_pos hx])
theorem Od (hf:0 < f) (hq:0 < q.length) (h:gU rs f ⟨q,k,n,d,m⟩=R) (hc:¬ vy k q) (hr:¬ ci rs (k ++ [jo q]) < 0) (hx:¬ fits rs (k ++ [jo q]) n d m):R=none:=by
  obtain ⟨f,rfl⟩:∃ g,f=g + 1:=⟨f - 1,by omega⟩
  rw [<- h,gU,if_neg (fun z=>by rw [show q=[] from z] at hq;exact absurd hq (by simp)),rc,if_neg hc,if_neg hr,if_neg hx]
theorem mg {o:List UInt8} (h:¬ ci rs o < 0):(ci rs o).toNat < rs.length/\gb o (p4 rs o).left=true/\ci rs o=((ci rs o).toNat:Nat):=by
  unfold p4
  unfold ci at h ⊢
  split at h
  · rename_i i hi
    have h1:=List.mem_range.1 (List.mem_of_find?_eq_some hi)
    have h2:=List.find?_some hi
    exact ⟨by simpa using h1,by simpa using h2,by simp⟩
  · exact absurd O h
theorem LR {o w:List UInt8} (h:gb o w=true):w.length<=o.length:=by simp only [gb,decide_eq_true_eq] at h;exact h.1
theorem Lu {u v:List UInt8} (h:fw u v < 0):u.length<=v.length:=by
  unfold fw at h
  split at h
  · split at h <;> omega
  · omega
theorem NZ {g:Int} {l:List (List UInt8)} {r:be} (h:fG g l r=true):r.right.length<=r.left.length:=by
  have:=(fh h).2.2.1
  unfold dB at this
  split at this
  · exact Lu this
  · omega
theorem tX {g:Int} {w:List UInt8} (h:jl g w=true):CZ w:=ly (fun q=>q (nh h))
theorem lI {g:Int} {l:List (List UInt8)} {r:be} (hs:bW g l rs=true) (hr:r ∈ rs):r.right.length<=r.left.length/\r.left.length<=1000/\r.proof.length<=100000/\dn r.proof<=1000000/\CZ r.right/\CZ r.left:=by
  have h:=(gV hs).2.2.1 r hr
  have h2:=fh h
  have h3:i9 g l r.proof (r.left ++ dY r.right)=0:=h2.2.2.2
  unfold i9 at h3
  split at h3
  · exact absurd h3 ‹_›
  · rename_i hc
    have:=rm (ju hc).2.2
    exact ⟨NZ h,ko h2.1,this.1,this.2,tX h2.2.1,tX h2.1⟩
theorem vF {o:List UInt8} (h:¬ ci rs o < 0):p4 rs o ∈ rs:=bi (mg h).1
theorem N5 {g:Int} {l:List (List UInt8)} {o:List UInt8} (hs:bW g l rs=true) (h:¬ ci rs o < 0):(ci rs o).toNat < rs.length/\(rs.getD (ci rs o).toNat .zero).left.length<=o.length/\(rs.getD (ci rs o).toNat .zero).right.length<=(rs.getD (ci rs o).toNat .zero).left.length/\(rs.getD (ci rs o).toNat .zero).left.length<=1000/\(rs.getD (ci rs o).toNat .zero).proof.length<=100000/\dn (rs.getD (ci rs o).toNat .zero).proof<=1000000/\0<=ci rs o:=by
  have h1:=mg h
  have h2:=lI hs (vF h)
  exact ⟨h1.1,LR h1.2.1,h2.1,h2.2.1,h2.2.2.1,h2.2.2.2.1,by omega⟩
theorem MU (q r:List UInt8) (hq:0 < q.length):(q.take (q.length - 1) ++ r.reverse).length=q.length - 1 + r.length:=by simp
theorem MS {q k K r:List UInt8} {W n:Nat} (h:q.length + k.length<=W) (hK:K.length=k.length + 1) (hr:r.length<=n) (hn:n<=K.length) (hq:0 < q.length):(q.take (q.length - 1) ++ r.reverse).length + (K.take (K.length - n)).length<=W:=by
  rw [MU q r hq,List.length_take];omega
theorem Rq {q r:List UInt8} {n f:Nat} (hf:(20000 - n) * 100001 + q.length < f) (hn:n + 1<=20000) (hr:r.length<=1000) (hq:0 < q.length):(20000 - (n + 1)) * 100001 + (q.take (q.length - 1) ++ r.reverse).length < f - 1:=by
  rw [MU q r hq]
  obtain ⟨e,he⟩:∃ e,20000 - n=e + 1:=⟨20000 - n - 1,by omega⟩
  have h2:20000 - (n + 1)=e:=by omega
  rw [h2];rw [he,Nat.add_mul,Nat.one_mul] at hf
  generalize e * 100001=z at *
  have:z + (q.length - 1 + r.length) + 1 < f:=by
    refine Nat.lt_of_le_of_lt ?_ hf
    have:q.length - 1 + r.length + 1<=100001 + q.length:=by omega
    omega
  omega
def VJ (s:C9):FJ:=⟨s.stack,s.steps,s.disk⟩
def fk (o:Option FJ):FJ:=o.getD .zero
theorem tA {w:List UInt8} {s:C9} (h:gU rs xl (start w)=some s):jV rs w=some (VJ s):=by rw [jV,h];rfl
theorem JO {w:List UInt8} (h:gU rs xl (start w)=none):jV rs w=none:=by rw [jV,h];rfl
def rC (g:Int) (rs:List be) (w:List UInt8):Option FJ:=if bH g w=0/\w.length<=20000 then jV rs w else none
def lH (g:Int) (rs:List be) (w:List UInt8):Nat:=if ¬ bH g w=0 then 4 else if (rC g rs w).isSome then 0 else 2
def wV (g:Int) (rs:List be) (w:List UInt8):FJ:=fk (rC g rs w)
variable {g:Int} {w:List UInt8}
theorem NR (h:¬ bH g w=0):wV g rs w=.zero/\lH g rs w=4:=by simp [wV,rC,lH,h,fk]
theorem Uu (h:¬ ¬ bH g w=0) (hl:20000 < w.length):wV g rs w=.zero/\lH g rs w=2:=by
  have:=Decidable.not_not.1 h
  simp [wV,rC,lH,this,fk,show ¬ w.length<=20000 by omega]
theorem NP (h:¬ ¬ bH g w=0) (hl:¬ 20000 < w.length):wV g rs w=fk (jV rs w)/\lH g rs w=if (jV rs w).isSome then 0 else 2:=by
  have:=Decidable.not_not.1 h
  simp [wV,rC,lH,this,show w.length<=20000 by omega]
def il (g:Int) (l:List (List UInt8)) (rs:List be) (w:List UInt8):FJ:=if bW g l rs then wV g rs w else .zero
def iG (g:Int) (l:List (List UInt8)) (rs:List be) (w:List UInt8):Nat:=if bW g l rs then lH g rs w else 100
theorem Pw {l:List (List UInt8)} (h:bW g l rs=false):il g l rs w=.zero/\iG g l rs w=100:=by simp [il,iG,h]
theorem og {l:List (List UInt8)} (h:bW g l rs=true):il g l rs w=wV g rs w/\iG g l rs w=lH g rs w:=by simp [il,iG,h]
theorem si {o:Option FJ} (h:(!o.isSome)=true):o=none:=by cases o <;> simp_all
theorem pD {o:Option FJ} (h:(!o.isSome)=false):o=some (fk o):=by cases o <;> simp_all [fk]
end
end Go.Proofs.YtjppkekmddjcfaaGreatDoor

namespace Go.Proofs.YtjppkekmddjcfaaGreatDoor
open Go Go.RowKit V
namespace Fr
def NC (w:List UInt8):Prop:=∀ i,i + 1 < w.length->w.getD (i + 1) 0 ≠ w.getD i 0 ^^^ 32
theorem kY {a b:List UInt8} {i:Nat} (h:i < a.length):(a ++ b).getD i 0=a.getD i 0:=by
  rw [List.getD_eq_getElem?_getD,List.getElem?_append_left h,<- List.getD_eq_getElem?_getD]
theorem ls {a b:List UInt8} {i:Nat} (h:a.length<=i):(a ++ b).getD i 0=b.getD (i - a.length) 0:=by
  rw [List.getD_eq_getElem?_getD,List.getElem?_append_right h,<- List.getD_eq_getElem?_getD]
theorem tc {a:List UInt8} {i n:Nat} (h:i < n):(a.take n).getD i 0=a.getD i 0:=by
  rw [List.getD_eq_getElem?_getD,List.getElem?_take_of_lt h,<- List.getD_eq_getElem?_getD]
theorem NC.left {a b:List UInt8} (h:NC (a ++ b)):NC a:=fun i hi=>by
  have:=h i (by rw [List.length_append];omega)
  rwa [kY O,kY O] at this
theorem NC.take {a:List UInt8} (h:NC a) (n:Nat):NC (a.take n):=NC.left (b:=a.drop n) (by rw [List.take_append_drop];exact h)
theorem NC.fold:∀ (w s:List UInt8),NC (s ++ w)->w.foldl push s=s ++ w
  | [],s,_=>by simp
  | c :: w,s,h=>by
    have hp:push s c=s ++ [c]:=by
      unfold push
      rw [if_neg]
      rintro ⟨q1,q2⟩
      have:=h (s.length - 1) Or
      rw [show s.length - 1 + 1=s.length by omega,ls (Nat.le_refl _),kY O,q2,jS] at this
      simp at this
    rw [List.foldl_cons,hp,NC.fold w (s ++ [c]) (by simpa using h)]
    simp
theorem NC.isRed {w:List UInt8} (h:NC w):lM w=w:=NC.fold w [] (by simpa using h)
theorem NC.pushC {s:List UInt8} (h:NC s) (c:UInt8):NC (push s c):=by
  unfold push
  split
  · exact h.take _
  · rename_i q
    intro i hi
    simp only [List.length_append,List.length_cons,List.length_nil] at hi
    by_cases e:i + 1 < s.length
    · rw [kY e,kY O];exact h i e
    · have e2:i + 1=s.length:=by omega
      rw [ls O,kY O,show i + 1 - s.length=0 by omega]
      have e3:i=s.length - 1:=by omega
      intro r
      refine q ⟨by omega,?_⟩
      rw [<- e3]
      have r:c=s.getD i 0 ^^^ 32:=r
      rw [r,jS]
theorem NC.ofFold:∀ (w s:List UInt8),NC s->NC (w.foldl push s)
  | [],_,h=>h
  | c :: w,s,h=>NC.ofFold w _ (h.pushC c)
theorem NC.ofRed (w:List UInt8):NC (lM w):=NC.ofFold w [] fun i hi=>by simp at hi
theorem tF {s:List UInt8} {i:Nat} (h:i < s.length):s.take i ++ [s.getD i 0]=s.take (i + 1):=by
  rw [List.take_add_one,List.getElem?_eq_getElem h];simp [h]

theorem xI {s:List UInt8} (h:NC s) (c:UInt8):push (push s (c ^^^ 32)) c=s:=by
  by_cases q:0 < s.length/\s.getD (s.length - 1) 0=c ^^^ 32 ^^^ 32
  · have e:push s (c ^^^ 32)=s.take (s.length - 1):=by rw [push,if_pos q]
    rw [e]
    obtain ⟨q1,q2⟩:=q
    rw [jS] at q2
    have hne:¬ (0 < (s.take (s.length - 1)).length/\(s.take (s.length - 1)).getD ((s.take (s.length - 1)).length - 1) 0=c ^^^ 32):=by
      rintro ⟨r1,r2⟩
      rw [List.length_take] at r1 r2
      rw [tc O] at r2
      have:=h (s.length - 2) O
      rw [show s.length - 2 + 1=s.length - 1 by omega,q2] at this
      rw [show min (s.length - 1) s.length - 1=s.length - 2 by omega] at r2
      rw [r2,jS] at this
      exact this Z
    rw [push,if_neg hne,<- q2]
    have:=tF (s:=s) (i:=s.length - 1) O
    rw [this,show s.length - 1 + 1=s.length by omega,List.take_length]
  · have e:push s (c ^^^ 32)=s ++ [c ^^^ 32]:=by rw [push,if_neg q]
    rw [e,push,if_pos ⟨by simp,by rw [List.length_append,ls (by simp)];simp⟩]
    simp
theorem JL {s:List UInt8} (h:NC s) (c:UInt8):push (push s c) (c ^^^ 32)=s:=by
  have:=xI h (c ^^^ 32)
  rwa [jS] at this
theorem Mp (c:UInt8) (y:List UInt8):inv (c :: y)=inv y ++ [c ^^^ 32]:=by simp [inv]
theorem Rd (a b:List UInt8):inv (a ++ b)=inv b ++ inv a:=by simp [inv]
theorem Aw:∀ (x s:List UInt8),NC s->(inv x).foldl push (x.foldl push s)=s
  | [],s,_=>rfl
  | c :: y,s,h=>by
    rw [Mp,List.foldl_append,show (c :: y).foldl push s=y.foldl push (push s c) from rfl,Aw y _ (h.pushC c)]
    exact JL h c
theorem vu (s:List UInt8) (hs:NC s):∀ (b t:List UInt8),NC t->(b.foldl push t).foldl push s=b.foldl push (t.foldl push s)
  | [],_,_=>rfl
  | c :: b,t,ht=>by
    rw [List.foldl_cons,List.foldl_cons,vu s hs b _ (ht.pushC c)]
    congr 1
    by_cases q:0 < t.length/\t.getD (t.length - 1) 0=c ^^^ 32
    · have e:push t c=t.take (t.length - 1):=by rw [push,if_pos q]
      have e2:t=t.take (t.length - 1) ++ [c ^^^ 32]:=by
        have:=tF (s:=t) (i:=t.length - 1) O
        rw [q.2,show t.length - 1 + 1=t.length by omega,List.take_length] at this
        exact this.symm
      rw [e]
      conv=>rhs;rw [e2,List.foldl_append]
      exact (xI (NC.ofFold _ _ hs) c).symm
    · have e:push t c=t ++ [c]:=by rw [push,if_neg q]
      rw [e,List.foldl_append];rfl
theorem Ee:NC []:=fun i hi=>by simp at hi
theorem R0 (a:List UInt8):lM (lM a)=lM a:=(NC.ofRed a).isRed
def E (a b:List UInt8):Prop:=lM a=lM b
theorem E.rf (a:List UInt8):E a a:=rfl
theorem E.of {a b:List UInt8} (h:a=b):E a b:=by rw [h];rfl
theorem E.sm {a b:List UInt8} (h:E a b):E b a:=Eq.symm h
theorem E.tr {a b c:List UInt8} (h:E a b) (k:E b c):E a c:=Eq.trans h k
theorem E.ofRed (a:List UInt8):E (lM a) a:=R0 a
theorem GY (a b:List UInt8):lM (a ++ b)=b.foldl push (lM a):=by simp [lM]
theorem BX (a b:List UInt8):lM (a ++ b)=(lM b).foldl push (lM a):=by
  rw [GY]
  exact (vu (lM a) (NC.ofRed a) b [] Ee).symm
theorem E.app {a a' b b':List UInt8} (h:E a a') (k:E b b'):E (a ++ b) (a' ++ b'):=by
  unfold E at h k ⊢
  rw [BX,BX,h,k]
theorem E.cancel (x:List UInt8):E (x ++ inv x) []:=by
  show lM (x ++ inv x)=lM []
  rw [GY]
  exact Aw x [] Ee
theorem E.cancel2 (x:List UInt8):E (inv x ++ x) []:=by
  have:=E.cancel (inv x)
  rwa [Jk] at this
theorem E.mid (a x b:List UInt8):E (a ++ x ++ inv x ++ b) (a ++ b):=by
  have:=((E.rf a).app (E.cancel x)).app (E.rf b)
  simpa only [List.append_assoc,List.nil_append] using this
theorem E.mid2 (a x b:List UInt8):E (a ++ inv x ++ x ++ b) (a ++ b):=by
  have:=((E.rf a).app (E.cancel2 x)).app (E.rf b)
  simpa only [List.append_assoc,List.nil_append] using this
theorem E.ofInv {a b:List UInt8} (h:E a b):E (inv a) (inv b):=by
  have h1:E (inv a ++ b ++ inv b) (inv a):=by
    have:=E.mid (inv a) b []
    simpa only [List.append_nil] using this
  have h2:E (inv a ++ b ++ inv b) (inv a ++ a ++ inv b):=((E.rf _).app h.sm).app (E.rf _)
  have h3:E (inv a ++ a ++ inv b) (inv b):=by
    have:=E.mid2 [] a (inv b)
    simpa only [List.nil_append] using this
  exact h1.sm.tr (h2.tr h3)

theorem JC (g:Int) {c:UInt8} (h:gv g c=true):gv g (c ^^^ 32)=true:=by
  have key:∀ c:UInt8,0<=ix c->0<=ix (c ^^^ 32)/\ix (c ^^^ 32) / 2=ix c / 2:=gz (by decide +kernel)
  simp only [gv,Bool.and_eq_true,decide_eq_true_eq] at h ⊢
  have:=key c h.1
  omega
theorem uu {g:Int} {a b:List UInt8} (h:b.all (gv g)=true) (hs:∀ c ∈ a,c ∈ b):a.all (gv g)=true:=by
  rw [List.all_eq_true] at h ⊢
  exact fun c hc=>h c (hs c hc)
theorem Lg {g:Int} {a:List UInt8} (h:a.all (gv g)=true):(cE a).all (gv g)=true:=by
  unfold cE;split
  · exact uu h R5
  · rfl
theorem qg {g:Int} {a b:List UInt8} (ha:a.all (gv g)=true) (hb:b.all (gv g)=true):(a ++ b).all (gv g)=true:=by
  rw [List.all_append,ha,hb];rfl
theorem all_wcheck {g:Int} {w:List UInt8} (h:bH g w=0):(1<=g/\g<=8)/\w.length<=100000/\w.all (gv g)=true:=by
  unfold bH at h
  split at h
  · cases h
  · split at h
    · cases h
    · split at h
      · rename_i h1 h2 h3;exact ⟨by omega,by omega,h3⟩
      · cases h
theorem wcheck_all {g:Int} {w:List UInt8} (hg:1<=g/\g<=8) (hl:w.length<=100000) (h:w.all (gv g)=true):bH g w=0:=by
  unfold bH
  rw [if_neg O,if_neg O,if_pos h]
theorem va (l:List (List UInt8)) (d:List bJ):mz l d=lM (d.flatMap (jK l)):=by
  unfold mz lM
  rw [List.foldl_flatMap];rfl
end Fr
end Go.Proofs.YtjppkekmddjcfaaGreatDoor

namespace Go.Proofs.YtjppkekmddjcfaaGreatDoor
open Go Go.RowKit V Fr
namespace Fr
theorem ny {u v:List UInt8}:fw u v<=0 ↔ u.length < v.length\/(u.length=v.length/\ip u v<=0):=by
  unfold fw
  by_cases h:u.length=v.length
  · simp [h]
  · by_cases h2:u.length < v.length
    · simp [h,h2]
    · simp [h,h2]
theorem sO:∀ a:List UInt8,ip a a=0
  | []=>by unfold ip;rfl
  | c :: a=>by unfold ip;rw [if_neg O,if_neg O];exact sO a
theorem sL:∀ a u v:List UInt8,ip (a ++ u) (a ++ v)=ip u v
  | [],_,_=>rfl
  | c :: a,u,v=>by
    show ip (c :: (a ++ u)) (c :: (a ++ v))=_
    rw [ip,if_neg O,if_neg O];exact sL a u v
theorem rj:∀ u v b:List UInt8,u.length=v.length->ip (u ++ b) (v ++ b)=ip u v
  | [],[],b,_=>by simp only [List.nil_append];rw [sO];unfold ip;rfl
  | [],_ :: _,_,h=>by simp at h
  | _ :: _,[],_,h=>by simp at h
  | x :: u,y :: v,b,h=>by
    show ip (x :: (u ++ b)) (y :: (v ++ b))=_
    rw [ip,ip,rj u v b (by simpa using h)]
theorem vg:∀ a b c:List UInt8,a.length=b.length->b.length=c.length->ip a b<=0->ip b c<=0->ip a c<=0
  | [],b,c,_,_,_,_=>by unfold ip;simp
  | x :: a,[],c,h,_,_,_=>by simp at h
  | x :: a,y :: b,[],_,h,_,_=>by simp at h
  | x :: a,y :: b,z :: c,h1,h2,k1,k2=>by
    rw [ip] at k1 k2 ⊢
    by_cases q1:ix x < ix z
    · rw [if_pos q1];decide
    · rw [if_neg q1]
      by_cases q2:ix x < ix y
      · rw [if_neg (show ¬ ix y < ix z by omega),if_pos (show ix z < ix y by omega)] at k2
        exact absurd k2 U
      · rw [if_neg q2] at k1
        by_cases q3:ix y < ix x
        · rw [if_pos q3] at k1;exact absurd k1 U
        · rw [if_neg q3] at k1
          by_cases q4:ix z < ix y
          · rw [if_neg O,if_pos q4] at k2;exact absurd k2 U
          · rw [if_neg O,if_neg q4] at k2
            rw [if_neg O]
            exact vg a b c (by simpa using h1) (by simpa using h2) k1 k2
theorem vh {a b c:List UInt8} (h:fw a b<=0) (k:fw b c<=0):fw a c<=0:=by
  rw [ny] at h k ⊢
  rcases h with h | ⟨h,h'⟩
  · rcases k with k | ⟨k,_⟩
    · left;omega
    · left;omega
  · rcases k with k | ⟨k,k'⟩
    · left;omega
    · exact .inr ⟨by omega,vg a b c h k h' k'⟩
theorem Ls {r l:List UInt8} (h:fw r l < 0) (a b:List UInt8):fw (a ++ r ++ b) (a ++ l ++ b)<=0:=by
  rcases ny.1 (show fw r l<=0 by omega) with q | ⟨q,q'⟩
  · exact ny.2 (.inl Oz)
  · refine ny.2 (.inr ⟨by simp only [List.length_append];omega,?_⟩)
    rw [rj _ _ _ Oz,sL];exact q'
theorem Du {a b:List UInt8} (h:a.length < b.length):fw a b<=0:=ny.2 (.inl h)
theorem IZ (a:List UInt8):fw a a<=0:=ny.2 (.inr ⟨rfl,by rw [sO];omega⟩)
theorem Wv {g:Int} (hg:g<=8) {w:List UInt8} (h:w.all (gv g)=true):w.all (gv 8)=true:=by
  rw [List.all_eq_true] at h ⊢
  intro c hc
  have:=h c hc
  simp only [gv,Bool.and_eq_true,decide_eq_true_eq] at this ⊢
  omega
theorem Gy {g:Int} (hg:g<=8) {w:List UInt8} (hl:w.length<=100000) (h:w.all (gv g)=true):qm w=true:=by
  simp only [qm,Bool.and_eq_true,decide_eq_true_eq]
  exact ⟨hl,Wv hg h⟩
theorem JP {rs:List be} {o:List UInt8} (h:ci rs o < 0):∀ r ∈ rs,gb o r.left=false:=fun r hr=>by
  unfold ci at h
  split at h
  · omega
  · rename_i q
    obtain ⟨i,hi,rfl⟩:=List.getElem_of_mem hr
    have:=List.find?_eq_none.1 q i (List.mem_range.2 hi)
    simpa [hi] using this
theorem M0 {a w:List UInt8} {i:Nat} (h:GO a w i) (e:i + w.length=a.length):gb a w=true:=by
  obtain ⟨h1,h2⟩:=h
  rw [e,List.take_length] at h2
  simp only [gb,decide_eq_true_eq]
  exact ⟨by omega,by rw [show a.length - w.length=i by omega];exact h2⟩
theorem Bx {a w:List UInt8} {i n:Nat} (h:GO (a.take n) w i):GO a w i:=by
  obtain ⟨h1,h2⟩:=h
  rw [List.length_take] at h1
  refine ⟨by omega,?_⟩
  rw [List.take_take,Nat.min_eq_left O] at h2;exact h2
theorem M5 {k w:List UInt8} {c:UInt8} {i:Nat} (h:GO (k ++ [c]) w i):GO k w i\/gb (k ++ [c]) w=true:=by
  by_cases q:i + w.length=(k ++ [c]).length
  · exact .inr (M0 h q)
  · left
    obtain ⟨h1,h2⟩:=h
    rw [List.length_append,List.length_singleton] at h1 q
    refine ⟨by omega,?_⟩
    rw [List.take_append_of_le_length O] at h2;exact h2
theorem Ro {k:List UInt8} {c:UInt8} (h:NC k) (hc:¬ (0 < k.length/\k.getD (k.length - 1) 0=c ^^^ 32)):NC (k ++ [c]):=by
  have:=h.pushC c
  rwa [push,if_neg hc] at this
theorem ve {g:Int} (l:List (List UInt8)) (p:List UInt8):∀ ds:List bJ,(∀ c ∈ ds,qm (p ++ c.conj)=true)->E ((ds.map (pq p)).flatMap (jK l)) (p ++ ds.flatMap (jK l) ++ inv p)
  | [],_=>by
    have:=(E.cancel p).sm
    simpa using this
  | c :: ds,hw=>by
    rw [List.map_cons,List.flatMap_cons,List.flatMap_cons]
    have h1:E (jK l (pq p c)) (p ++ jK l c ++ inv p):=by
      have hj:E (cE (p ++ c.conj)) (p ++ c.conj):=by rw [cE,if_pos (hw c List.mem_cons_self)];exact E.ofRed _
      have hji:=hj.ofInv
      rw [Rd] at hji
      have e:jK l (pq p c)=cE (p ++ c.conj) ++ I3 l c ++ inv (cE (p ++ c.conj)):=rfl
      rw [e]
      refine ((hj.app (E.rf _)).app hji).tr (E.of ?_)
      simp only [jK,List.append_assoc]
    have h2:=ve (g:=g) l p ds fun c hc=>hw c (List.mem_cons_of_mem _ hc)
    refine (h1.app h2).tr ?_
    have:=E.mid2 (p ++ jK l c) p (ds.flatMap (jK l) ++ inv p)
    refine E.tr (E.of ?_) (this.tr (E.of ?_))
    · simp only [List.append_assoc]
    · simp only [List.append_assoc]
theorem IP (l:List (List UInt8)) (p:List UInt8) (d ds:List bJ) (hw:∀ c ∈ ds,qm (p ++ c.conj)=true):E (mz l (d ++ ds.map (pq p))) (mz l d ++ p ++ mz l ds ++ inv p):=by
  rw [va,va,va,List.flatMap_append]
  refine (E.ofRed _).tr ?_
  have h:=ve (g:=0) l p ds hw
  refine ((E.ofRed (d.flatMap (jK l))).sm.app h).tr ?_
  have:=(((E.rf (lM (d.flatMap (jK l)) ++ p)).app (E.ofRed (ds.flatMap (jK l))).sm).app (E.rf (inv p)))
  refine E.tr (E.of ?_) this
  simp only [List.append_assoc]
structure qH (g:Int) (l:List (List UInt8)) (rs:List be) (w:List UInt8) (s:C9):Prop where
  eq:E (mz l s.disk ++ (s.stack ++ s.rest.reverse)) w
  qa:s.rest.all (gv g)=true
  ka:s.stack.all (gv g)=true
  nc:NC s.stack
  ir:∀ r ∈ rs,∀ i,¬ GO s.stack r.left i
  dk:∀ c ∈ s.disk,iB g l c=true
  dl:s.disk.length<=100000
  dm:dn s.disk=s.sum/\s.sum<=1000000
  le:fw (s.stack ++ s.rest.reverse) w<=0
theorem qH.len {g:Int} {l:List (List UInt8)} {rs:List be} {w:List UInt8} {s:C9} (h:qH g l rs w s):s.stack.length + s.rest.length<=w.length:=by
  rcases ny.1 h.le with q | ⟨q,_⟩ <;> simp only [List.length_append,List.length_reverse] at q <;> omega
theorem rn {q:List UInt8} (h:q ≠ []):q=oC q ++ [jo q]:=by
  have h0:0 < q.length:=List.length_pos_iff.2 h
  have:=tF (s:=q) (i:=q.length - 1) O
  rw [show q.length - 1 + 1=q.length by omega,List.take_length] at this
  exact this.symm
theorem xO {q:List UInt8} (h:q ≠ []):q.reverse=jo q :: (oC q).reverse:=by
  conv=>lhs;rw [rn h]
  simp
theorem qH.step {g:Int} {l:List (List UInt8)} {rs:List be} {w:List UInt8} (hs:bW g l rs=true) (hw:w.length<=20000) {s s':C9} (h:qH g l rs w s) (hq:s.rest ≠ []) (e:rc rs s=some s'):qH g l rs w s':=by
  obtain ⟨q,k,n,d,m⟩:=s
  simp only at hq
  have hlen:=h.len
  obtain ⟨eq,qa,ka,nc,ir,dk,dl,dm,le⟩:=h
  simp only at eq qa ka nc ir dk dl dm le hlen
  have hg:=(c0 (gV hs).1).1
  have hql:0 < q.length:=List.length_pos_iff.2 hq
  rw [xO hq] at eq le
  have qp:(oC q).all (gv g)=true:=uu qa fun c hc=>List.mem_of_mem_take hc
  have qt:gv g (jo q)=true:=List.all_eq_true.1 qa _ (bi O)
  unfold rc at e
  simp only at e
  by_cases hc:vy k q
  · rw [if_pos hc] at e
    cases e
    have hk:k ≠ []:=fun z=>by rw [z] at hc;exact absurd hc.1 (by simp)
    have e2:k ++ jo q :: (oC q).reverse=oC k ++ [jo q ^^^ 32] ++ inv [jo q ^^^ 32] ++ (oC q).reverse:=by
      conv=>lhs;rw [rn hk,hc.2]
      simp [inv,jS]
    refine ⟨?_,qp,uu ka fun c hc=>List.mem_of_mem_take hc,nc.take _,fun r hr i hi=>ir r hr i (Bx hi),dk,dl,dm,?_⟩
    · refine E.tr ?_ eq
      rw [e2]
      have:=(E.mid (mz l d ++ oC k) [jo q ^^^ 32] (oC q).reverse).sm
      refine E.tr (E.of ?_) (this.tr (E.of ?_)) <;> simp only [List.append_assoc]
    · refine vh (Du ?_) le
      simp only [List.length_append,List.length_cons,List.length_reverse,List.length_take];omega
  · rw [if_neg hc] at e
    by_cases hr:ci rs (k ++ [jo q]) < 0
    · rw [if_pos hr] at e
      cases e
      refine ⟨by simpa using eq,qp,?_,Ro nc hc,fun r hm i hi=>?_,dk,dl,dm,by simpa using le⟩
      · rw [List.all_append,ka,Bool.true_and];show (gv g (jo q) && true)=true;rw [qt];rfl
      · rcases M5 hi with h1 | h1
        · exact ir r hm i h1
        · rw [JP hr r hm] at h1;cases h1
    · rw [if_neg hr] at e
      split at e
      · rename_i hx
        cases e
        have hK:(k ++ [jo q]).all (gv g)=true:=by rw [List.all_append,ka,Bool.true_and];show (gv g (jo q) && true)=true;rw [qt];rfl
        have hsp:=mg hr
        have hm:=vF hr
        obtain ⟨x1,x2,x3,x4⟩:=hx
        have hR:=fh ((gV hs).2.2.1 _ hm)
        have hfx:=lI hs hm
        generalize hU:p4 rs (k ++ [jo q])=U at *
        have hC:vl rs (k ++ [jo q])=(k ++ [jo q]).take ((k ++ [jo q]).length - U.left.length):=by unfold vl;rw [hU]
        have hN:Bi rs (k ++ [jo q])=mZ (vl rs (k ++ [jo q])) U.proof:=by unfold Bi;rw [hU]
        generalize vl rs (k ++ [jo q])=C at *
        generalize Bi rs (k ++ [jo q])=D at *
        have hend:=hsp.2.1
        simp only [gb,decide_eq_true_eq] at hend
        have hsplit:k ++ [jo q]=C ++ U.left:=by
          rw [hC];conv=>lhs;rw [<- List.take_append_drop ((k ++ [jo q]).length - U.left.length) (k ++ [jo q])]
          rw [hend.2]
        have hcw:fw U.right U.left < 0:=by
          have:=hR.2.2.1
          unfold dB at this
          split at this
          · exact this
          · omega
        have a0:0 < U.left.length:=by
          rcases Nat.eq_zero_or_pos U.left.length with z | z
          · exfalso
            have z2:=List.length_eq_zero_iff.1 z
            have z3:U.right=[]:=List.length_eq_zero_iff.1 (by have:=hfx.1;omega)
            rw [z2,z3] at hcw
            simp [fw,ip] at hcw
          · exact z
        have hCk:C=k.take ((k ++ [jo q]).length - U.left.length):=by
          rw [hC,List.take_append_of_le_length Or]
        have aS:=all_wcheck (nh hR.1)
        have aR:=all_wcheck (nh hR.2.1)
        have cA:C.all (gv g)=true:=by rw [hCk];exact uu ka fun c hc=>List.mem_of_mem_take hc
        have hpv:=hR.2.2.2
        unfold i9 at hpv
        have hck:¬ ¬ wG g l [U.left ++ dY U.right] [U.proof]=0:=fun z=>by rw [if_pos z] at hpv;exact z hpv
        rw [if_neg hck] at hpv
        have hbd:mz l U.proof=lM (U.left ++ dY U.right):=by
          by_cases z:¬ mz l U.proof=lM (U.left ++ dY U.right)
          · rw [if_pos z] at hpv;cases hpv
          · exact Decidable.not_not.1 z
        rw [dY,if_pos (Gy hg.2 aR.2.1 aR.2.2)] at hbd
        have hdk:=(ju hck).2.2
        have hcell:=pk hdk
        have okm:∀ c ∈ U.proof,C.length + c.conj.length<=100000:=fun c hc=>by
          have:=List.all_eq_true.1 x1 c hc
          simpa using this
        have V:∀ c ∈ U.proof,(C ++ c.conj).all (gv g)=true:=fun c hc=>qg cA (all_wcheck (hcell c hc).2).2.2
        have hisw:∀ c ∈ U.proof,qm (C ++ c.conj)=true:=fun c hc=>Gy hg.2 (by rw [List.length_append];exact okm c hc) (V c hc)
        rw [hN,mZ,if_pos x1] at x4 ⊢
        refine ⟨?_,?_,cA,by rw [hCk];exact nc.take _,fun r X i hi=>ir r X i (Bx (by rw [<- hCk];exact hi)),?_,?_,?_,?_⟩
        · refine E.tr ?_ eq
          have e3:(oC q ++ U.right.reverse).reverse=U.right ++ (oC q).reverse:=by simp
          have e4:k ++ jo q :: (oC q).reverse=C ++ U.left ++ (oC q).reverse:=by rw [<- hsplit];simp
          show E (mz l (d ++ U.proof.map (pq C)) ++ (C ++ (oC q ++ U.right.reverse).reverse)) _
          rw [e3,e4]
          have hb:E (mz l (d ++ U.proof.map (pq C))) (mz l d ++ C ++ (U.left ++ inv U.right) ++ inv C):=by
            refine (IP l C d U.proof hisw).tr ?_
            rw [hbd]
            exact (((E.rf _).app (E.ofRed _)).app (E.rf _))
          refine (hb.app (E.rf _)).tr ?_
          have h1:=E.mid2 (mz l d ++ C ++ (U.left ++ inv U.right)) C (U.right ++ (oC q).reverse)
          have h2:=E.mid2 (mz l d ++ C ++ U.left) U.right (oC q).reverse
          refine E.tr (E.of ?_) (h1.tr (E.tr (E.of ?_) (h2.tr (E.of ?_)))) <;> simp only [List.append_assoc]
        · exact qg qp (by rw [List.all_reverse];exact aR.2.2)
        · intro c hc
          rcases List.mem_append.1 hc with hc | hc
          · exact dk c hc
          · obtain ⟨x,hx,rfl⟩:=List.mem_map.1 hc
            have h3:=qe (C ++ x.conj)
            rw [List.length_append] at h3
            exact tn (by have:=(hcell x hx).1.1;show ¬ x.rel < 0;omega) (by have:=(hcell x hx).1.2;show ¬ (l.length:Int)<=x.rel;omega)
              (fun z=>z (wcheck_all hg (by have:=okm x hx;show (cE (C ++ x.conj)).length<=100000;omega) (Lg (V x hx))))
        · simpa using x3
        · exact ⟨by rw [nA,dm.1],x4⟩
        · refine vh ?_ le
          have e3:C ++ (oC q ++ U.right.reverse).reverse=C ++ U.right ++ (oC q).reverse:=by simp
          have e4:k ++ jo q :: (oC q).reverse=C ++ U.left ++ (oC q).reverse:=by rw [<- hsplit];simp
          rw [e4]
          show fw (C ++ (oC q ++ U.right.reverse).reverse) _<=0
          rw [e3]
          exact Ls hcw _ _
      · cases e
theorem qH.run {g:Int} {l:List (List UInt8)} {rs:List be} {w:List UInt8} (hs:bW g l rs=true) (hw:w.length<=20000):∀ (f:Nat) {s s':C9},qH g l rs w s->gU rs f s=some s'->qH g l rs w s'/\s'.rest=[]
  | 0,s,s',h,e=>by simp [gU] at e
  | f + 1,s,s',h,e=>by
    rw [gU] at e
    by_cases q:s.rest=[]
    · rw [if_pos q] at e;cases e;exact ⟨h,q⟩
    · rw [if_neg q] at e
      split at e
      · cases e
      · rename_i s2 e2
        exact qH.run hs hw f (h.step hs hw q e2) e
theorem qH.start {g:Int} {l:List (List UInt8)} {rs:List be} {w:List UInt8} (hs:bW g l rs=true) (hw:bH g w=0):qH g l rs w (start w) :=
  ⟨by show E (mz l [] ++ ([] ++ w.reverse.reverse)) w;simp [mz];exact E.rf _,by show w.reverse.all (gv g)=true;rw [List.all_reverse];exact (all_wcheck hw).2.2,rfl,Ee,
   fun r hr i hi=>by
     have hR:=fh ((gV hs).2.2.1 r hr)
     have h1:=hi.1
     have z:i + r.left.length<=0:=h1
     have z2:r.left=[]:=List.length_eq_zero_iff.1 O
     have hcw:=hR.2.2.1
     have hfx:=(lI hs hr).1
     have z3:r.right=[]:=List.length_eq_zero_iff.1 (by rw [z2] at hfx;simpa using hfx)
     rw [z2,z3] at hcw
     simp [dB,fw,ip] at hcw,
   (fun c hc=>absurd hc List.not_mem_nil),(by show ([]:List bJ).length<=_;simp),⟨rfl,by show (0:Nat)<=_;omega⟩,by show fw ([] ++ w.reverse.reverse) w<=0;simpa using IZ w⟩
end Fr
end Go.Proofs.YtjppkekmddjcfaaGreatDoor

namespace Go.Proofs.YtjppkekmddjcfaaGreatDoor
open Go Go.RowKit
namespace V

end V
end Go.Proofs.YtjppkekmddjcfaaGreatDoor

namespace Go.Proofs.YtjppkekmddjcfaaGreatDoor
open Go Go.RowKit
namespace V
section
variable {A B C:AH} {b:Nat} {v v':Value} {size:Nat} {xs ys:List Value}
def Vd (A0 A:AH) (Ds:List Nat):Prop:=Ds.Nodup/\∀ D ∈ Ds,A.get D=some (.obj true (.deferred (some [])))/\A0.get D=none
end
end V
end Go.Proofs.YtjppkekmddjcfaaGreatDoor

namespace Go.Proofs.YtjppkekmddjcfaaGreatDoor
open Go Go.RowKit
namespace V
def vd (ops:Array Oper):Array Bool->List Nat->Nat->Nat->List Nat->List Nat->Bool
  | listed,[],i,j,C,D=>(Region.ready .any ops listed == [i,j]) && lS ops (listed.setIfInBounds i true) C && lS ops (listed.setIfInBounds j true) D && (C.length == D.length)
  | listed,q :: Cq,i,j,C,D=>match ops[q]? with
    | none=>false
    | some o=>dq o.op && (Region.ready .any ops listed).contains q && Region.free .any ops listed q && vd ops (listed.setIfInBounds q true) Cq i j C D
section
variable {P:Program} {nt:Nat} {ops:Array Oper} {Q:Exit->Fr->AH->Prop} {f:Fr} {A:AH}
def oo (P:Program) (nt:Nat) (ops:Array Oper) (Q:Exit->Fr->AH->Prop) (listed:Array Bool) (held:List (Nat × eK)) (Cq:List Nat) (i j:Nat) (C D:List Nat) (f:Fr) (A:AH):Prop :=
  vd ops listed Cq i j C D=true->Region.noSelect ops=true->∀ a w,cO nt f a->co A w->dF ops held listed w->kB ops listed ->
    ∀ (A₀:AH) (w₀:World),eD A₀ w₀ A w->eJ P ops (dH nt Q A₀ w₀) (dF ops held) (Cq.length + (C.length + 1)) listed a w
theorem oo.quiet {listed:Array Bool} {held:List (Nat × eK)} {q i j:Nat} {Cq C D:List Nat} {o:Oper} {v:Value} {T:eK} (ho:ops[q]? = some o) (hq:dq o.op=true) (hd:∀ t,o.dst=some t->t < nt)
    (hv:∀ a w,cO nt f a->co A w->fa T w/\YieldsIf P ops (fa T) o v a)
    (h:oo P nt ops Q (listed.setIfInBounds q true) ((q,T) :: held) Cq i j C D ⟨fA f.e o.dst v,f.ds⟩ A):oo P nt ops Q listed held (q :: Cq) i j C D f A:=by
  intro hc hn a w ha hw hh hcl A₀ w₀ hs
  simp only [vd,ho,Bool.and_eq_true] at hc
  obtain ⟨⟨⟨_,c1⟩,c2⟩,c3⟩:=hc
  obtain ⟨t1,t2⟩:=hv a w ha hw
  have hr:q ∈ Region.ready .any ops listed:=by simpa using c1
  have hheld:dF ops ((q,T) :: held) listed w:=fun p hp hj=>by
    rcases List.mem_cons.1 hp with rfl | hp
    · exact t1
    · exact hh p hp hj
  have H:=h c3 hn _ w (ha.put o.dst v hd) hw ((je ho hq _ _).2 hheld) (gH hcl hr) A₀ w₀ hs
  have free:=Region.free_spec ho c2
  have H':eJ P ops (dH nt Q A₀ w₀) (dF ops ((q,T) :: held)) (Cq.length + (C.length + 1) + 1) listed a w :=
    ol (T:=fa T) ho (Region.noSelect_spec hn) (fun c a w g=>tp _ _ c a w g)
      (fun l w' hcl' hun hS=>hS (q,T) (List.mem_cons_self ..) fun j hl ⟨oj,hoj,_⟩=>by
        cases e:lg ops q ops.size j with
        | false=>rfl
        | true =>
          have:=jL hcl' ops.size j oj hoj (hcl' j oj hoj hl) e
          rw [iu hun] at this;cases this)
      (fun l w'=>je ho hq l w') _ listed a w hcl (fun j oj hoj hne hun hno=>free j oj hoj hne hun hno) hr t2 hheld H
  have weaken:∀ (fuel:Nat) (l:Array Bool) (a:Act) (w:World),eJ P ops (dH nt Q A₀ w₀) (dF ops ((q,T) :: held)) fuel l a w->eJ P ops (dH nt Q A₀ w₀) (dF ops held) fuel l a w:=by
    intro fuel
    induction fuel with
    | zero=>intro l a w h;exact h
    | succ fuel ih=>intro l a w h;exact ⟨h.1,fun j hj=>wpOp_mono (fun a' w' h'=>⟨fun p hp=>h'.1 p (List.mem_cons_of_mem _ hp),ih _ _ _ h'.2⟩) (h.2 j hj)⟩
  rw [List.length_cons,Nat.add_right_comm]
  exact weaken _ _ _ _ H'
theorem xC {listed:Array Bool} {held:List (Nat × eK)} {i:Nat} {C:List Nat} {o:Oper} {a:Act} {w:World} {A₀:AH} {w₀:World} (ho:ops[i]? = some o) (hq:dq o.op=false) (hd:∀ t,o.dst=some t->t < nt) (hwn:∀ a:Act,cO nt f a->Region.wanted o (yielded ops a.tmps)=true)
    (c2:lS ops (listed.setIfInBounds i true) C=true) (hn:Region.noSelect ops=true) (ha:cO nt f a) (hw:co A w) (hcl:kB ops listed) (hs:eD A₀ w₀ A w) (hr:i ∈ Region.ready .any ops listed)
    (h:∀ (K:Value->AH->Prop) (Kp:List PanicEntry->AH->Prop),
      (∀ v A',(∀ w',co A' w'->∀ p ∈ held,lg ops p.1 ops.size i=false->fa p.2 w')->bj P nt ops Q (listed.setIfInBounds i true) (held.filter fun p=>!lg ops p.1 ops.size i) C ⟨fA f.e o.dst v,f.ds⟩ A'->K v A') ->
      (∀ ch A',Q (.panic ch) ⟨[],f.ds⟩ A'->Kp ch A')->ky P f.e A o K Kp) :
    wpOp P ops (dH nt Q A₀ w₀) i (fun a' w'=>dF ops held (listed.setIfInBounds i true) w'/\eJ P ops (dH nt Q A₀ w₀) (dF ops held) C.length (listed.setIfInBounds i true) a' w') a w:=by
  have hlt:i < listed.size:=by
    have:=(mem_ready.1 hr).1
    rcases Nat.lt_or_ge i listed.size with h' | h'
    · exact h'
    · simp [Array.getElem?_eq_none h'] at this
  have hl:(listed.setIfInBounds i true).getD i false=true:=by simp [hlt]
  unfold wpOp
  simp only [ho,hwn a ha,if_true]
  left
  have:=qz (o:=o) (K:=fun v A'=>(∀ w',co A' w'->∀ p ∈ held,lg ops p.1 ops.size i=false->fa p.2 w')/\bj P nt ops Q (listed.setIfInBounds i true) (held.filter fun p=>!lg ops p.1 ops.size i) C ⟨fA f.e o.dst v,f.ds⟩ A')
    (Kp:=fun ch A'=>Q (.panic ch) ⟨[],f.ds⟩ A') ha hw (h _ _ (fun v A' g1 g2=>⟨g1,g2⟩) (fun ch A' g=>g))
  unfold Oper.wp at this ⊢
  have up:∀ r,o.upon P a (jJ A a w o fun v A'=>(∀ w',co A' w'->∀ p ∈ held,lg ops p.1 ops.size i=false->fa p.2 w')/\bj P nt ops Q (listed.setIfInBounds i true) (held.filter fun p=>!lg ops p.1 ops.size i) C ⟨fA f.e o.dst v,f.ds⟩ A') (ib A a w fun ch A'=>Q (.panic ch) ⟨[],f.ds⟩ A') r ->
      o.upon P a (fun a' w'=>dF ops held (listed.setIfInBounds i true) w'/\eJ P ops (dH nt Q A₀ w₀) (dF ops held) C.length (listed.setIfInBounds i true) a' w') (dH nt Q A₀ w₀) r:=by
    have next:∀ a' w',(jJ A a w o fun v A'=>(∀ w',co A' w'->∀ p ∈ held,lg ops p.1 ops.size i=false->fa p.2 w')/\bj P nt ops Q (listed.setIfInBounds i true) (held.filter fun p=>!lg ops p.1 ops.size i) C ⟨fA f.e o.dst v,f.ds⟩ A') a' w' ->
        dF ops held (listed.setIfInBounds i true) w'/\eJ P ops (dH nt Q A₀ w₀) (dF ops held) C.length (listed.setIfInBounds i true) a' w':=by
      rintro a' w' ⟨v,A',rfl,hv',hs',g1,g2⟩
      have hlo:V.loud ops i:=⟨o,ho,hq⟩
      have hh':dF ops held (listed.setIfInBounds i true) w':=fun p hp hj=>g1 w' hv' p hp (hj i hl hlo)
      refine ⟨hh',?_⟩
      have H:=g2 c2 hn _ w' (ha.put o.dst v hd) hv' (fun p hp hj=>hh' p (List.mem_filter.1 hp).1 hj) (gH hcl hr) A₀ w₀ (hs.trans hs')
      refine kx (x:=i) (fun l w hx hS p hp hj=>hS p (List.mem_filter.2 ⟨hp,?_⟩) hj) _ _ _ _ hl H
      simp [hj i hx hlo]
    have pan:∀ x a' w',ib A a w (fun ch A'=>Q (.panic ch) ⟨[],f.ds⟩ A') x a' w'->dH nt Q A₀ w₀ x a' w':=by
      rintro x a' w' ⟨ch,A',rfl,rfl,hv',hs',g⟩
      exact ⟨⟨[],f.ds⟩,A',⟨ha.size,(fun _ _ q=>by cases q),ha.ds⟩,hv',hs.trans hs',g,fun _ _=>rfl⟩
    intro r hr'
    cases r with
    | ok n w' =>
      cases n <;> simp only [Oper.upon] at hr' ⊢ <;> (try exact hr'.elim)
      case value v=>exact next _ _ hr'
      case skip=>exact next _ _ hr'
      case defer d=>exact next _ _ hr'
      case enter f' args =>
        refine hr'.mono fun e w'' he=>?_
        cases e with
        | returned v=>exact next _ _ he
        | panicked ch=>exact pan _ _ _ he
        | outgrown=>obtain ⟨a₁,w₁,ch,A',q,_⟩:=he;cases q
      case row row args=>exact hr'.mono fun v w'' he=>next _ _ he
    | halt x w' =>
      cases x <;> simp only [Oper.upon] at hr' ⊢ <;> (try exact hr'.elim)
      case panic v=>exact pan _ _ _ hr'
  exact up _ this
variable {e:gu} {ds:List Deferred}
theorem oo.q {listed:Array Bool} {held:List (Nat × eK)} {i j k d:Nat} {Cq C D:List Nat} {op:Op} {ty:TypeId} {ps:String} {af:Array Edge} {v:Value} {T:eK} (ho:ops[k]? = some { dst:=some d,op:=op,type:=ty,pos:=ps,after:=af,guard:=none }) (hq:dq op=true) (hd:Nat.blt d nt=true) (hv:aL P e A op=some (v,T))
    (h:oo P nt ops Q (listed.setIfInBounds k true) ((k,T) :: held) Cq i j C D ⟨(d,v) :: e,ds⟩ A):oo P nt ops Q listed held (k :: Cq) i j C D ⟨e,ds⟩ A :=
  oo.quiet (f:=⟨e,ds⟩) (T:=T) (v:=v) ho hq (cQ (d:=some d) hd) (fun a w ha hw=>by
    have key:=fK (P:=P) (f:=(⟨e,ds⟩:Fr)) (o:={ dst:=some d,op:=op,type:=ty,pos:=ps,after:=af,guard:=none }) hv ha hw
    exact ⟨key.1,.inl ⟨by simp [Region.wanted],key.2⟩⟩) h
theorem oo.both {listed:Array Bool} {held:List (Nat × eK)} {i j:Nat} {C D:List Nat} {di dj:Option Nat} {opi opj:Op} {ti tj:TypeId} {pi pj:String} {afi afj:Array Edge}
    (hoi:ops[i]? = some { dst:=di,op:=opi,type:=ti,pos:=pi,after:=afi,guard:=none }) (hoj:ops[j]? = some { dst:=dj,op:=opj,type:=tj,pos:=pj,after:=afj,guard:=none }) (hqi:dq opi=false) (hqj:dq opj=false) (hdi:gx nt di=true) (hdj:gx nt dj=true)
    (hi:∀ (K:Value->AH->Prop) (Kp:List PanicEntry->AH->Prop),(∀ v A',aW ops held i A'->bj P nt ops Q (listed.setIfInBounds i true) (held.filter fun p=>!lg ops p.1 ops.size i) C ⟨fA e di v,ds⟩ A'->K v A') ->
      (∀ ch A',Q (.panic ch) ⟨[],ds⟩ A'->Kp ch A')->ky P e A { dst:=di,op:=opi,type:=ti,pos:=pi,after:=afi,guard:=none } K Kp)
    (hj:∀ (K:Value->AH->Prop) (Kp:List PanicEntry->AH->Prop),(∀ v A',aW ops held j A'->bj P nt ops Q (listed.setIfInBounds j true) (held.filter fun p=>!lg ops p.1 ops.size j) D ⟨fA e dj v,ds⟩ A'->K v A') ->
      (∀ ch A',Q (.panic ch) ⟨[],ds⟩ A'->Kp ch A')->ky P e A { dst:=dj,op:=opj,type:=tj,pos:=pj,after:=afj,guard:=none } K Kp):oo P nt ops Q listed held [] i j C D ⟨e,ds⟩ A:=by
  intro hc hn a w ha hw hh hcl A₀ w₀ hs
  simp only [vd,Bool.and_eq_true,beq_iff_eq] at hc
  obtain ⟨⟨⟨c1,c2⟩,c3⟩,c4⟩:=hc
  rw [List.length_nil,Nat.zero_add]
  refine ⟨fun h0=>(by rw [c1] at h0;cases h0),fun k hk=>?_⟩
  have hk':=hk
  rw [c1] at hk'
  simp only [List.mem_cons,List.not_mem_nil,or_false] at hk'
  rcases hk' with rfl | rfl
  · exact xC (C:=C) hoi hqi (cQ hdi) (fun a _=>by simp [Region.wanted]) c2 hn ha hw hcl hs hk hi
  · rw [c4];exact xC (C:=D) hoj hqj (cQ hdj) (fun a _=>by simp [Region.wanted]) c3 hn ha hw hcl hs hk hj
theorem am.drawnP {id:Nat} (Cq:List Nat) (i j:Nat) (C D:List Nat) (hm:P.follows .mixedOrders=true) (hc:vd ops (Array.replicate ops.size false) Cq i j C D=true) (hn:Region.noSelect ops=true) (hl:Cq.length + (C.length + 1)=ops.size)
    (h:oo P nt ops Q (Array.replicate ops.size false) [] Cq i j C D f A):am P nt (.region id ops true) Q f A:=by
  intro a w ha hw
  obtain ⟨v1,s1⟩:=jb hw
  refine wp_mono (wp_region_any hm (jZ (Q:=dH nt Q A w) (S:=dF ops []) _ _ _ _ ?_)) (fun _ _ _=>dH.q)
  have key:=h hc hn a _ ha v1 (fun p hp=>by cases hp) (fun j o _ hj=>by
    exfalso
    rcases Nat.lt_or_ge j ops.size with q | q
    · simp [q] at hj
    · simp [q] at hj) A w s1
  rw [hl] at key
  exact key
end
end V
end Go.Proofs.YtjppkekmddjcfaaGreatDoor

namespace Go.Proofs.YtjppkekmddjcfaaGreatDoor
open Go Go.RowKit
namespace V
section
variable {P:Program} {nt:Nat} {A:AH}

def j5 (P:Program) (g:FuncId) (args:Array Value) (u:FrameMode) (A:AH) (Q:Ending->FrameMode->AH->Prop):Prop :=
  ∀ w,co A w->CallsD P g args u w fun e u' w'=>∃ A',co A' w'/\eD A w A' w'/\Q e u' A'

theorem j5.mono {g:FuncId} {args:Array Value} {u:FrameMode} {Q Q':Ending->FrameMode->AH->Prop} (h:j5 P g args u A Q)
    (k:∀ e u' A',Q e u' A'->Q' e u' A'):j5 P g args u A Q' :=
  fun w hw=>(h w hw).mono fun _ _ _ ⟨A',v,s,q⟩=>⟨A',v,s,k _ _ _ q⟩

def lR (P:Program) (rs:List ResultVar) (e:gu) (Q:Ending->AH->Prop):List Deferred->FrameMode->AH->Prop
  | [],.returning,A=>∃ vs,gr P e A rs=some vs/\Q (.returned (dT vs)) A
  | [],.panicking ch,A=>Q (.panicked ch) A
  | [],.run,_=>False
  | d :: ds,u,A=>u ≠ .run/\∃ fv cap g args,d.target=.fn fv cap/\(∀ w,(invoke d.target d.args).run P w=.ok (.enter g args) w) /\
      j5 P g args u A fun
        | .returned _,u',A'=>lR P rs e Q ds (settle u') A'
        | .panicked ch,u',A'=>lR P rs e Q ds (raised u' ch) A'
        | .outgrown,_,_=>False

theorem yQ {fn:Func} {e:gu} {a:Act} {Q:Ending->AH->Prop} {A₀:AH} {w₀:World} (hsz:a.tmps.size=nt) (hsl:∀ t v,ct e t=some v->a.tmps.getD t undef=v/\t < nt) :
    ∀ (ds:List Deferred) (u:FrameMode) (A:AH) (w:World),co A w->eD A₀ w₀ A w->lR P fn.results.toList e Q ds u A ->
      Leaves P fn a.tmps (fun en w'=>∃ A',co A' w'/\eD A₀ w₀ A' w'/\Q en A') ds u w:=by
  intro ds
  induction ds with
  | nil =>
    intro u A w hv hs h
    cases u with
    | run=>exact h.elim
    | returning =>
      obtain ⟨vs,hr,hq⟩:=h
      exact ⟨_,jh (nt:=nt) (f:=⟨e,a.defers⟩) (a:=a) ⟨hsz,hsl,Z⟩ hv hr,A,hv,hs,hq⟩
    | panicking ch=>exact ⟨A,hv,hs,h⟩
  | cons d ds ih =>
    intro u A w hv hs h
    obtain ⟨hu,fv,cap,g,args,ht,hi,hc⟩:=h
    refine ⟨hu,fv,cap,g,args,ht,hi w,(hc w hv).mono ?_⟩
    rintro en u' w' ⟨A',hv',hs',hq⟩
    cases en with
    | returned v=>exact ih _ A' w' hv' (hs.trans hs') hq
    | panicked ch=>exact ih _ A' w' hv' (hs.trans hs') hq
    | outgrown=>exact hq.elim

def De (P:Program) (rs:List ResultVar) (Q:Ending->AH->Prop):Exit->Fr->AH->Prop
  | .normal,f,A | .ret,f,A=>lR P rs f.e Q f.ds .returning A
  | .panic ch,f,A=>lR P rs f.e Q f.ds (.panicking ch) A
  | _,_,_=>False

theorem KX {args:List Value} (hn:args.length<=nt):cO nt ⟨rL args 0,[]⟩ { tmps:=args.toArray ++ Array.replicate (nt - args.toArray.size) undef,defers:=[] }:=by
  refine ⟨by simp;omega,fun t v q=>?_,Z⟩
  obtain ⟨_,h2⟩:=uZ args 0 t v q
  simp only [Nat.sub_zero] at h2
  have hlt:t < args.length:=(List.getElem?_eq_some_iff.1 h2).1
  refine ⟨?_,by omega⟩
  simp only [Array.getD_eq_getD_getElem?]
  rw [Array.getElem?_append_left (by simpa using hlt)]
  simp [h2]

theorem ga.enterD {g:FuncId} {fn:Func} {c:Code} {args:List Value} {Qe:Ending->AH->Prop} (he:fu P g) (hf:P.funcs[g]? = some fn) (hb:fn.body=some c) (hn:args.length<=fn.ntmps)
    (h:A.wf->am P fn.ntmps c (De P fn.results.toList Qe) ⟨rL args 0,[]⟩ A):ga P g args.toArray A Qe:=by
  refine ⟨he,fun w hw=>calls_of_wp_defers hf hb ?_⟩
  refine wp_mono (h hw.wf _ w (KX hn) hw) ?_
  rintro x a' w' ⟨f',A',h1,h2,h3,h4,h5⟩
  cases x <;> simp only [De] at h4 <;> (try exact h4.elim)
  case normal=>simp only [bodyPostD];rw [h1.ds];exact yQ h1.size h1.slot _ _ _ _ h2 h3 h4
  case ret=>simp only [bodyPostD];rw [h1.ds];exact yQ h1.size h1.slot _ _ _ _ h2 h3 h4
  case panic ch=>simp only [bodyPostD];rw [h1.ds];exact yQ h1.size h1.slot _ _ _ _ h2 h3 h4

def Tg (nt:Nat) (Q:Exit->FrameMode->Fr->AH->Prop) (A:AH) (w:World) (c₀:Frame) (cs:List Frame):Exit->Act->List Frame->World->Prop :=
  fun x a' cs' w'=>∃ u' f' A',cs'={ c₀ with mode:=u' } :: cs/\cO nt f' a'/\co A' w'/\eD A w A' w'/\Q x u' f' A'

def ri (P:Program) (nt:Nat) (c:Code) (Q:Exit->FrameMode->Fr->AH->Prop) (u:FrameMode) (f:Fr) (A:AH):Prop :=
  ∀ a w (c₀:Frame) cs,c₀.mode=u->cO nt f a->co A w->c.wpS P (Tg nt Q A w c₀ cs) a (c₀ :: cs) w

def sH (P:Program) (nt:Nat) (all:Array Oper) (l:List Nat) (Q:Exit->FrameMode->Fr->AH->Prop) (u:FrameMode) (f:Fr) (A:AH):Prop :=
  ∀ a w (c₀:Frame) cs,c₀.mode=u->cO nt f a->co A w->∀ (A₀:AH) (w₀:World),eD A₀ w₀ A w->wpOpsS P all (Tg nt Q A₀ w₀ c₀ cs) l a (c₀ :: cs) w

variable {Q:Exit->FrameMode->Fr->AH->Prop} {u:FrameMode} {f:Fr} {all:Array Oper} {l:List Nat} {e:gu} {ds:List Deferred}

theorem wA {c:Code} {R R':Exit->Act->List Frame->World->Prop} {a:Act} {cs:List Frame} {w:World} (h:c.wpS P R a cs w) (k:∀ x a cs w,R x a cs w->R' x a cs w):c.wpS P R' a cs w :=
  fun b kk hb hr=>let ⟨x,a',cs',w',q,r⟩:=h b kk hb hr;⟨x,a',cs',w',k _ _ _ _ q,r⟩

theorem ri.of_run {c:Code} (h:am P nt c (fun x f A=>Q x u f A) f A):ri P nt c Q u f A:=by
  intro a w c₀ cs hu ha hw
  refine wpS_of_wp (wp_mono (h a w ha hw) ?_)
  rintro x a' w' ⟨f',A',h1,h2,h3,h4,_⟩
  exact ⟨u,f',A',by subst hu;rfl,h1,h2,h3,h4⟩

def VW (K:FrameMode->Fr->AH->Prop) (Q:Exit->FrameMode->Fr->AH->Prop):Exit->FrameMode->Fr->AH->Prop
  | .normal,u,f,A=>K u f A
  | x,u,f,A=>Q x u f A

theorem ri.seq {x y:Code} (h:ri P nt x (VW (fun u f A=>ri P nt y Q u f A) Q) u f A):ri P nt (x.seq y) Q u f A:=by
  intro a w c₀ cs hu ha hw
  refine wpS_seq (wA (h a w c₀ cs hu ha hw) ?_)
  rintro e a' cs' w' ⟨u',f',A',rfl,h1,h2,h3,h4⟩
  cases e with
  | normal =>
    refine wA (h4 a' w' { c₀ with mode:=u' } cs Z h1 h2) ?_
    rintro x a'' cs'' w'' ⟨u2,f2,A2,rfl,g1,g2,g3,g4⟩
    exact ⟨u2,f2,A2,Z,g1,g2,h3.trans g3,g4⟩
  | _=>exact ⟨u',f',A',Z,h1,h2,h3,h4⟩

theorem ri.region {id:Nat} {ops:Array Oper} (hl:List.range ops.size=l) (h:sH P nt ops l Q u f A):ri P nt (.region id ops false) Q u f A:=by
  intro a w c₀ cs hu ha hw
  refine wpS_region ?_
  rw [hl]
  exact h a w c₀ cs hu ha hw A w (.refl _ _)

theorem sH.nil (h:Q .normal u f A):sH P nt all [] Q u f A:=by
  intro a w c₀ cs hu ha hw A₀ w₀ hs
  exact ⟨u,f,A,by subst hu;rfl,ha,hw,hs,h⟩

theorem sH.recover {i:Nat} {o:Oper} {d:Nat} {v:Value} {older:List PanicEntry} (ho:all[i]? = some o) (hg:o.guard=none) (hd:o.dst=some d) (hdn:d < nt)
    (hr:∀ ρ w,(execOp ρ o).run P w=.ok .recover w)
    (h:sH P nt all l Q (.panicking ({ v:=v,recovered:=true } :: older)) ⟨(d,v) :: e,ds⟩ A) :
    sH P nt all (i :: l) Q (.panicking ({ v:=v,recovered:=false } :: older)) ⟨e,ds⟩ A:=by
  intro a w c₀ cs hu ha hw A₀ w₀ hs
  simp only [wpOpsS,ho]
  rw [if_pos (by simp [Region.wanted,hg]),hr]
  simp only [recoverD,hu]
  have:=h (a.put o.dst v) w { c₀ with mode:=.panicking ({ v:=v,recovered:=true } :: older) } cs Z (by have:=ha.put o.dst v (by rw [hd];rintro t ⟨⟩;exact hdn);rw [hd] at this ⊢;exact this) hw A₀ w₀ hs
  exact this

theorem sH.recoverNil {i:Nat} {o:Oper} {d:Nat} (ho:all[i]? = some o) (hg:o.guard=none) (hd:o.dst=some d) (hdn:d < nt)
    (hr:∀ ρ w,(execOp ρ o).run P w=.ok .recover w)
    (h:sH P nt all l Q .returning ⟨(d,.nilIface) :: e,ds⟩ A) :
    sH P nt all (i :: l) Q .returning ⟨e,ds⟩ A:=by
  intro a w c₀ cs hu ha hw A₀ w₀ hs
  simp only [wpOpsS,ho]
  rw [if_pos (by simp [Region.wanted,hg]),hr]
  simp only [recoverD,hu]
  have:=h (a.put o.dst .nilIface) w c₀ cs hu (by have:=ha.put o.dst .nilIface (by rw [hd];rintro t ⟨⟩;exact hdn);rw [hd] at this ⊢;exact this) hw A₀ w₀ hs
  exact this

def Ll (P:Program) (rs:List ResultVar) (R:Ending->FrameMode->AH->Prop):Exit->FrameMode->Fr->AH->Prop
  | .normal,u,f,A | .ret,u,f,A=>f.ds=[]/\∃ vs,gr P f.e A rs=some vs/\R (.returned (dT vs)) u A
  | .panic ch,u,f,A=>f.ds=[]/\R (.panicked ch) u A
  | _,_,_,_=>False

theorem j5.enter {g:FuncId} {fn:Func} {c:Code} {args:List Value} {R:Ending->FrameMode->AH->Prop} (hf:P.funcs[g]? = some fn) (hb:fn.body=some c) (hn:args.length<=fn.ntmps)
    (h:A.wf->ri P fn.ntmps c (Ll P fn.results.toList R) u ⟨rL args 0,[]⟩ A):j5 P g args.toArray u A R:=by
  intro w hw
  refine callsD_of_wpS hf hb fun c₀ cs hu=>?_
  refine wA (h hw.wf _ w c₀ cs hu (KX hn) hw) ?_
  rintro x a' cs' w' ⟨u',f',A',rfl,h1,h2,h3,h4⟩
  cases x <;> simp only [Ll] at h4 <;> (try exact h4.elim)
  case normal=>obtain ⟨q,vs,hr,hq⟩:=h4;exact ⟨h1.ds.trans q,u',Z,_,jh h1 h2 hr,A',h2,h3,hq⟩
  case ret=>obtain ⟨q,vs,hr,hq⟩:=h4;exact ⟨h1.ds.trans q,u',Z,_,jh h1 h2 hr,A',h2,h3,hq⟩
  case panic ch=>exact ⟨h1.ds.trans h4.1,u',Z,A',h2,h3,h4.2⟩
end
theorem ED {P:Program} {t x:TypeId} {fs:Array Field} {v:Value} {w:World} (hu:P.underlying t=some (.struct fs)):(Instr.typeAssert (.iface t v) x t true).run P w=.ok (.tuple #[v,.bool true]) w:=by
  have h1:(underlying t).run P w=.ok (.struct fs) w:=by simp [underlying,go_sem,hu]
  simp [Instr.typeAssert,go_sem,h1]

section
variable {P:Program} {nt:Nat} {A:AH} {Q:Exit->Fr->AH->Prop} {all:Array Oper} {os:List Oper} {e:gu} {ds:List Deferred} {o:Oper}

theorem Ops.raise {v:Value} (hg:o.guard=none) (hr:∀ a:Act,cO nt ⟨e,ds⟩ a->∀ w,co A w->(execOp a.eval o).run P w=.halt (.panic v) w) (h:Q (.panic [{ v:=v,recovered:=false }]) ⟨e,ds⟩ A) :
    Ops P nt all (o :: os) Q ⟨e,ds⟩ A:=by
  intro a w ha hw A₀ w₀ hs
  unfold wpList
  rw [if_pos (by simp [Region.wanted,hg])]
  left
  unfold Oper.wp
  rw [hr a ha w hw]
  exact ⟨⟨e,ds⟩,A,ha,hw,hs,h,fun _ _=>trivial⟩

theorem Ops.val {v:Value} (hg:o.guard=none) (hd:gx nt o.dst=true) (hr:∀ a:Act,cO nt ⟨e,ds⟩ a->∀ w,co A w->(execOp a.eval o).run P w=.ok (.value v) w) (h:Ops P nt all os Q ⟨fA e o.dst v,ds⟩ A) :
    Ops P nt all (o :: os) Q ⟨e,ds⟩ A:=by
  intro a w ha hw A₀ w₀ hs
  unfold wpList
  rw [if_pos (by simp [Region.wanted,hg])]
  left
  unfold Oper.wp
  rw [hr a ha w hw]
  exact h _ w (ha.put o.dst v (cQ hd)) hw A₀ w₀ hs

theorem Ops.defer {d:Deferred} (hg:o.guard=none) (hd:o.dst=none) (hr:∀ a:Act,cO nt ⟨e,ds⟩ a->∀ w,co A w->(execOp a.eval o).run P w=.ok (.defer d) w) (h:Ops P nt all os Q ⟨e,d :: ds⟩ A) :
    Ops P nt all (o :: os) Q ⟨e,ds⟩ A:=by
  intro a w ha hw A₀ w₀ hs
  unfold wpList
  rw [if_pos (by simp [Region.wanted,hg])]
  left
  unfold Oper.wp
  rw [hr a ha w hw]
  simp only [Oper.upon,hd]
  exact h ({ a with defers:=d :: a.defers }:Act) w ⟨ha.size,ha.slot,by have:=ha.ds;simp only at this ⊢;rw [this]⟩ hw A₀ w₀ hs

def ym (P:Program) (g:FuncId) (args:Array Value) (A:AH) (R:Value->AH->Prop) (Rp:List PanicEntry->AH->Prop):Prop:=ga P g args A (Aj R Rp)
theorem ym.ret {g:FuncId} {args:Array Value} {R:Value->AH->Prop} (h:ym P g args A R (fun _ _=>False)):bE P g args A R :=
  ga.mono h fun en A' q=>by
    cases en with
    | returned v=>exact ⟨v,Z,q⟩
    | panicked ch=>exact q.elim
    | outgrown=>exact q.elim
variable {K:Value->AH->Prop} {Kp:List PanicEntry->AH->Prop} {g:Option (Nat × Bool)} {dst:Option Nat} {ty:TypeId} {ps:String} {af:Array Edge}
theorem PH {gg:FuncId} {vs:List Value} {R:Value->AH->Prop} {Rp:List PanicEntry->AH->Prop} {aa:Array Operand} {tt:Array TypeId} (ha:jq (bN e) aa.toList=some vs)
    (hc:ym P gg vs.toArray A R Rp) (h:∀ v A',R v A'->K v A') (hp:∀ ch A',Rp ch A'->Kp ch A'):ky P e A { dst:=dst,op:=.call { callee:=.value (.func gg),args:=aa,argTypes:=tt },type:=ty,pos:=ps,after:=af,guard:=g } K Kp:=by
  simp only [ky,vc,bN,ha]
  refine ga.mono (Q:=Aj R Rp) (by unfold ym at hc;simpa using hc) fun en A' q=>?_
  cases en with
  | returned v=>exact h _ _ q
  | panicked ch=>exact hp _ _ q
  | outgrown=>exact q.elim
theorem LS {gg:FuncId} {fn:Func} {c:Code} {rs:Array ResultVar} {args:List Value} {a:Array Value} {R:Value->AH->Prop} {Rp:List PanicEntry->AH->Prop} (he:fu P gg) (hf:P.funcs[gg]? = some fn) (hb:fn.body=some c)
    (hr:fn.results=rs) (hnt:fn.ntmps=nt) (ha:args.toArray=a) (hn:Nat.ble args.length nt=true) (hE:rL args 0=e) (h:A.wf->am P nt c (jc P rs.toList (Aj R Rp)) ⟨e,[]⟩ A):ym P gg a A R Rp:=by
  subst hr;subst hnt;subst ha;subst hE
  exact ga.enter he hf hb (Nat.le_of_ble_eq_true hn) h

theorem enterD {gg:FuncId} {fn:Func} {c:Code} {rs:Array ResultVar} {args:List Value} {a:Array Value} {R:Value->AH->Prop} {Rp:List PanicEntry->AH->Prop} (he:fu P gg) (hf:P.funcs[gg]? = some fn) (hb:fn.body=some c)
    (hr:fn.results=rs) (hnt:fn.ntmps=nt) (ha:args.toArray=a) (hn:Nat.ble args.length nt=true) (hE:rL args 0=e) (h:A.wf->am P nt c (De P rs.toList (Aj R Rp)) ⟨e,[]⟩ A):ym P gg a A R Rp:=by
  subst hr;subst hnt;subst ha;subst hE
  exact ga.enterD he hf hb (Nat.le_of_ble_eq_true hn) h
end
section
variable {P:Program} {A:AH} {e:gu} {r:List ResultVar} {vs:List Value} {v:Value} {t:TypeId} {a b off cap n:Nat} {rw:Bool} {c cs:List Value}
theorem gr.nil:gr P e A []=some []:=rfl
theorem gr.cell {p:Addr} (hx:ct e a=some (.pointer (some p))) (hv:j9 P A t (.pointer (some p))=some v) (hr:gr P e A r=some vs):gr P e A (.cell a t :: r)=some (v :: vs):=by
  simp only [gr,hx,hr,hv];rfl
theorem po (ha:dr P t=some false) (hg:A.get b=some (.row rw c cap)) (hc:c[off]? = some v):j9 P A t (.pointer (some ⟨b,off,none⟩))=some v:=by
  simp only [j9,ha];simp [AH.cell,hg,hc]
theorem pn (ha:dr P t=some true) (hs:c9 P t=some n) (hg:A.get b=some (.row rw c cap)) (hc:jP c off n=some cs):j9 P A t (.pointer (some ⟨b,off,none⟩))=some (.agg cs.toArray):=by
  simp only [j9,ha,hs,Option.bind_some];simp [AH.cellsAt,hg,hc]
end
end V
end Go.Proofs.YtjppkekmddjcfaaGreatDoor

namespace Go.Proofs.YtjppkekmddjcfaaGreatDoor
open Go Go.RowKit
namespace V
section
variable {P:Program} {nt:Nat} {A:AH} {Q:Exit->Fr->AH->Prop} {all:Array Oper} {os:List Oper} {e:gu} {ds:List Deferred} {o:Oper} {x:Operand} {v:Value} {dst:Option Nat} {ty:TypeId} {ps:String} {af:Array Edge} {t:TypeId} {fs:Array Field}
theorem Ops.iface (hu:P.underlying t=some (.struct fs)) (hx:bN e x=some v) (hd:gx nt dst=true) (h:Ops P nt all os Q ⟨fA e dst (.iface t v),ds⟩ A) :
    Ops P nt all ({ dst:=dst,op:=.makeInterface t x,type:=ty,pos:=ps,after:=af,guard:=none } :: os) Q ⟨e,ds⟩ A :=
  Ops.val Z hd (fun a ha w hw=>by
    have h5:=cB ha hx
    simp only [execOp,h5,Instr.makeInterface,Sem.run_bind,ca hu,Result.andThen_ok];rfl) h
theorem Ops.panicI (hx:bN e x=some (.iface t v)) (h:Q (.panic [{ v:=.iface t v,recovered:=false }]) ⟨e,ds⟩ A) :
    Ops P nt all ({ dst:=dst,op:=.panic x,type:=ty,pos:=ps,after:=af,guard:=none } :: os) Q ⟨e,ds⟩ A :=
  Ops.raise Z (fun a ha w hw=>by
    have h5:=cB ha hx
    simp only [execOp,h5,Instr.panic,Sem.run_bind];rfl) h
theorem kr {K:Fr->AH->Prop} {f:Fr} {ch:List PanicEntry} (h:Q (.panic ch) f A):rg K Q (.panic ch) f A:=h
theorem js {i:Nat} {f:Fr} {ch:List PanicEntry} (h:Q (.panic ch) f A):my i Q (.panic ch) f A:=h
theorem iW {f:Fr} {ch:List PanicEntry} (h:Q (.panic ch) f A):yY Q (.panic ch) f A:=h
variable {rs:List ResultVar} {R:Value->AH->Prop} {Rp:List PanicEntry->AH->Prop} {vs:List Value}
theorem WK (hr:gr P e A rs=some vs) (h:R (dT vs) A):jc P rs (Aj R Rp) .ret ⟨e,[]⟩ A:=⟨rfl,vs,hr,h⟩
theorem VK (hr:gr P e A rs=some vs) (h:R (dT vs) A):jc P rs (Aj R Rp) .normal ⟨e,[]⟩ A:=⟨rfl,vs,hr,h⟩
theorem Na {ch:List PanicEntry} (h:Rp ch A):jc P rs (Aj R Rp) (.panic ch) ⟨e,[]⟩ A:=⟨rfl,h⟩
end
end V
end Go.Proofs.YtjppkekmddjcfaaGreatDoor

namespace Go.Proofs.YtjppkekmddjcfaaGreatDoor
open Go Go.RowKit V
def cJ (l:List Int):List Value:=l.map fun i=>num i
theorem aw (l:List Int):(cJ l).length=l.length:=by simp [cJ]
theorem ep (l:List Int):(cJ l).length=l.length * 1:=by simp [cJ]
theorem cU {l:List Int} {i:Nat} (h:i < l.length):(cJ l)[i]? = some (num (l.getD i 0)):=by simp [cJ,h]
theorem dx (a b:List Int):cJ a ++ cJ b=cJ (a ++ b):=by simp [cJ]
theorem iy (a:List Int) (n:Nat) (c:Int):(cJ a).set n (num c)=cJ (a.set n c):=by simp [cJ,List.map_set]
theorem iw (n:Nat):List.replicate n (num 0)=cJ (List.replicate n 0):=by simp [cJ]
def ce (l:List Bool):List Value:=l.map fun b=>.bool b
theorem bx (l:List Bool):(ce l).length=l.length:=by simp [ce]
theorem fj (l:List Bool):(ce l).length=l.length * 1:=by simp [ce]
theorem ef {l:List Bool} {i:Nat} (h:i < l.length):(ce l)[i]? = some (.bool (l.getD i false)):=by simp [ce,h]
theorem nw (a b:List Bool):ce a ++ ce b=ce (a ++ b):=by simp [ce]
theorem kU (a:List Bool) (n:Nat) (c:Bool):(ce a).set n (.bool c)=ce (a.set n c):=by simp [ce,List.map_set]
theorem oq (n:Nat):List.replicate n (.bool false)=ce (List.replicate n false):=by simp [ce]
def th (r:be):UInt8:=r.left.getD (r.left.length - 1) 0
def gw (rs:List be) (c:UInt8):List Int:=((List.range rs.length).filter fun i=>decide (th (rs.getD i .zero)=c)).map fun (i:Nat)=>(i:Int)
def o5 (A:AH) (m:Nat) (rs:List be):Prop:=∃ rw es ck,∃ E:List (UInt8 × Value),A.get m=some (.obj rw (.map es ck))/\dh ek es E/\∀ c,bI A 1 ((lk E c).getD (.slice none 0 0)) (cJ (gw rs c))
theorem o5.le {A B:AH} {m:Nat} {rs:List be} (h:o5 A m rs) (le:A.le B):o5 B m rs:=by
  obtain ⟨rw,es,ck,E,h1,h2,h3⟩:=h
  exact ⟨rw,es,ck,E,le.get _ _ h1,h2,fun c=>(h3 c).le le⟩
theorem Mg {rs:List be} {c:UInt8} {j:Nat} (hj:j < (gw rs c).length):∃ i:Nat,(gw rs c).getD j 0=i/\i < rs.length:=by
  have h:=bi (d:=0) hj
  generalize (gw rs c).getD j 0=z at h
  simp only [gw,List.mem_map,List.mem_filter,List.mem_range] at h
  obtain ⟨i,⟨h1,h2⟩,rfl⟩:=h
  exact ⟨i,Z,h1⟩
theorem QX {rs:List be} {c:UInt8} {j:Nat} (hj:j < (gw rs c).length):0<=(gw rs c).getD j 0/\((gw rs c).getD j 0).toNat < rs.length/\(gw rs c).getD j 0=(((gw rs c).getD j 0).toNat:Nat):=by
  obtain ⟨i,h1,h2⟩:=Mg hj
  rw [h1];exact ⟨by omega,by simpa using h2,by simp⟩
theorem Ax (rs:List be) (c:UInt8):(gw rs c).length<=rs.length:=by
  simp only [gw,List.length_map]
  exact Nat.le_trans (List.length_filter_le _ _) (by simp)
theorem LQ {k w:List UInt8} (h:¬ (0:Int)<=(k.length:Int) - (w.length:Int)):gb k w=false:=by
  simp only [gb,decide_eq_false_iff_not];intro q;omega
theorem LN {k w:List UInt8} (h:(0:Int)<=(k.length:Int) - (w.length:Int)):gb k w=decide (k.drop ((k.length:Int) - (w.length:Int)).toNat=w):=by
  rw [gb,show ((k.length:Int) - (w.length:Int)).toNat=k.length - w.length by omega]
  congr 1;rw [eq_iff_iff];exact ⟨fun q=>q.2,fun q=>⟨by omega,q⟩⟩
theorem Ja {o w:List UInt8} (h:gb o w=true) (hw:0 < w.length):w.getD (w.length - 1) 0=o.getD (o.length - 1) 0:=by
  simp only [gb,decide_eq_true_eq] at h
  obtain ⟨h1,h2⟩:=h
  have h3:w.getD (w.length - 1) 0=(o.drop (o.length - w.length)).getD (w.length - 1) 0:=by rw [h2]
  rw [h3]
  simp only [List.getD_eq_getElem?_getD,List.getElem?_drop]
  congr 2;omega
theorem An {p q:Nat->Bool} {l:List Nat} (h:∀ x ∈ l,q x=true->p x=true):(l.filter p).find? q=l.find? q:=by
  induction l with
  | nil=>rfl
  | cons x l ih =>
    have ih:=ih fun y hy=>h y (List.mem_cons_of_mem _ hy)
    by_cases hp:p x=true
    · rw [List.filter_cons_of_pos hp,List.find?_cons,List.find?_cons,ih]
    · have hq:q x=false:=by
        cases e:q x with
        | false=>rfl
        | true=>exact absurd (h x List.mem_cons_self e) hp
      rw [List.filter_cons_of_neg hp,ih,List.find?_cons,hq]
theorem uc {rs:List be} {o:List UInt8} (h0:∀ r ∈ rs,0 < r.left.length) :
    ci rs o=match (gw rs (o.getD (o.length - 1) 0)).find? (fun i=>gb o (rs.getD i.toNat .zero).left) with | some i=>i | none=>-1:=by
  unfold ci gw
  rw [List.find?_map]
  have e:((fun i:Int=>gb o (rs.getD i.toNat .zero).left) ∘ fun (i:Nat)=>(i:Int))=fun i:Nat=>gb o (rs.getD i .zero).left:=by funext i;simp
  rw [e,An (p:=fun i=>decide (th (rs.getD i .zero)=o.getD (o.length - 1) 0)) fun x hx hq=>by
    rw [decide_eq_true_iff]
    exact Ja hq (h0 _ (bi (d:=.zero) (List.mem_range.1 hx)))]
  cases (List.range rs.length).find? fun i=>gb o (rs.getD i .zero).left <;> rfl
theorem gd {α:Type} {l:List α} {j:Nat} {d:α} (h:j < l.length):l.getD j d=l[j]:=by simp [h]
theorem Jh {rs:List be} {o:List UInt8} {j i:Nat} (h0:∀ r ∈ rs,0 < r.left.length) (hj:j < (gw rs (o.getD (o.length - 1) 0)).length) (hi:(gw rs (o.getD (o.length - 1) 0)).getD j 0=i) (hn:∀ k,k < j->gb o (rs.getD ((gw rs (o.getD (o.length - 1) 0)).getD k 0).toNat .zero).left=false) (h:gb o (rs.getD i .zero).left=true):ci rs o=i:=by
  rw [uc h0]
  generalize gw rs (o.getD (o.length - 1) 0)=L at *
  have hf:L.find? (fun i=>gb o (rs.getD i.toNat .zero).left)=some (i:Int):=by
    rw [List.find?_eq_some_iff_getElem]
    refine ⟨by simpa using h,j,hj,by rw [<- gd hj];exact hi,fun k hk=>?_⟩
    have:=hn k hk
    rw [gd (show k < L.length by omega)] at this
    rw [this];rfl
  rw [hf]
theorem Mf {rs:List be} {o:List UInt8} {j:Nat} (h0:∀ r ∈ rs,0 < r.left.length) (hj:(gw rs (o.getD (o.length - 1) 0)).length<=j) (hn:∀ k,k < j->gb o (rs.getD ((gw rs (o.getD (o.length - 1) 0)).getD k 0).toNat .zero).left=false):ci rs o = -1:=by
  rw [uc h0]
  generalize gw rs (o.getD (o.length - 1) 0)=L at *
  have hf:L.find? (fun i=>gb o (rs.getD i.toNat .zero).left)=none:=by
    rw [List.find?_eq_none]
    intro x hx
    obtain ⟨k,hk,rfl⟩:=List.getElem_of_mem hx
    have:=hn k O
    rw [gd hk] at this
    rw [this];decide
  rw [hf]
def DN (x:be) (k:List UInt8) (n:Nat) (d:List bJ) (m:Nat):Prop :=
  P4 (k.take (k.length - x.left.length)) x.proof=true/\n + 1<=20000/\d.length + x.proof.length<=100000/\m + dn (mZ (k.take (k.length - x.left.length)) x.proof)<=1000000
def pre (p:List UInt8) (P:List bJ) (j:Nat):List bJ:=(P.take j).map (pq p)
theorem RU {p:List UInt8} {P:List bJ} {j:Nat} (h:j<=P.length):(pre p P j).length=j:=by simp [pre];omega
theorem BH {p:List UInt8} {P:List bJ} {j:Nat} (h:j < P.length):pre p P (j + 1)=pre p P j ++ [⟨cE (p ++ (P.getD j .zero).conj),(P.getD j .zero).rel,(P.getD j .zero).inv⟩]:=(Ed h Z).symm
theorem BG {p:List UInt8} {P:List bJ} {j:Nat} (h:j < P.length):dn (pre p P (j + 1))=dn (pre p P j) + (cE (p ++ (P.getD j .zero).conj)).length:=by
  rw [BH h,nA,vi];rfl
theorem zb {p:List UInt8} {P:List bJ} {j:Nat} (hj:P.length<=j) (h:∀ i,i < j->p.length + (P.getD i .zero).conj.length<=100000):pre p P j=mZ p P/\P4 p P=true:=by
  have hk:=Ry hj h
  exact ⟨Jy hj Z hk,hk⟩
theorem Ur {p:List UInt8} {P:List bJ} (j:Nat) (h:P4 p P=true):dn (pre p P j)<=dn (mZ p P):=by
  rw [mZ,if_pos h,pre,<- List.take_append_drop j P,List.map_append,nA,List.take_append_drop]
  exact Nat.le_add_right _ _
theorem TP {x:be} {k:List UInt8} {n m:Nat} {d:List bJ} (h:20000 < n + 1):¬ DN x k n d m:=fun q=>by have:=q.2.1;omega
theorem TQ {x:be} {k:List UInt8} {n m:Nat} {d:List bJ} (h:100000 < d.length + x.proof.length):¬ DN x k n d m:=fun q=>by have:=q.2.2.1;omega
theorem TU {x:be} {k:List UInt8} {n m j:Nat} {d:List bJ} (hj:j < x.proof.length) (h:100000 < (k.take (k.length - x.left.length)).length + (x.proof.getD j .zero).conj.length):¬ DN x k n d m:=fun q=>by
  have:=q.1;rw [Un hj h] at this;cases this
theorem TV {x:be} {k:List UInt8} {n m j:Nat} {d:List bJ} (h:1000000 < m + dn (pre (k.take (k.length - x.left.length)) x.proof j)):¬ DN x k n d m:=fun q=>by
  have:=Ur j q.1;have:=q.2.2.2;omega
theorem TX {x:be} {k:List UInt8} {n m j:Nat} {d:List bJ} (h1:¬ 20000 < n + 1) (h2:¬ 100000 < d.length + x.proof.length) (hj:x.proof.length<=j) (h:∀ i,i < j->(k.take (k.length - x.left.length)).length + (x.proof.getD i .zero).conj.length<=100000) (hm:m + dn (pre (k.take (k.length - x.left.length)) x.proof j)<=1000000):DN x k n d m:=by
  have:=zb hj h
  exact ⟨this.2,by omega,by omega,by rw [<- this.1];exact hm⟩
end Go.Proofs.YtjppkekmddjcfaaGreatDoor

namespace Go.Proofs.YtjppkekmddjcfaaGreatDoor
open Go Go.RowKit V
abbrev Tm (E:List (UInt8 × Value)) (c:UInt8):Value:=(lk E c).getD (.slice none 0 0)
structure nr (A0 A:AH) (E:List (UInt8 × Value)) (rs:List be) (i:Nat) (bs:List Nat):Prop where
  nd:(E.map (·.1)).Nodup
  fr:∀ c,Fresh A0 A (Tm E c) 1 (cJ (gw (rs.take i) c))
  ne:∀ c,∀ b ∈ bs,blk (Tm E c) ≠ some b
  sp:∀ c d,c ≠ d->bk (Tm E c) (Tm E d)
section
variable {A0 A A2 A3 A4:AH} {E:List (UInt8 × Value)} {rs:List be} {i m b:Nat} {bs:List Nat} {c d:UInt8} {v:Value} {o:fC}
theorem Mh (c:UInt8):gw [] c=[]:=by simp [gw]
theorem nr.nil:nr A0 A [] rs 0 bs:=⟨by simp,fun c=>by rw [List.take_zero,Mh];exact Fresh.nil _ _ _,fun c b _ q=>(by cases q),fun _ _ _=>bk.nil⟩
theorem tc {rs:List be} {i j:Nat} (h:j < i):(rs.take i).getD j .zero=rs.getD j .zero:=by
  simp [List.getD_eq_getElem?_getD,List.getElem?_take,h]
theorem Ji (hi:i < rs.length) (d:UInt8):gw (rs.take (i + 1)) d=if th (rs.getD i .zero)=d then gw (rs.take i) d ++ [(i:Int)] else gw (rs.take i) d:=by
  have e:∀ k,k<=rs.length->gw (rs.take k) d=((List.range k).filter fun i=>decide (th (rs.getD i .zero)=d)).map fun (i:Nat)=>(i:Int):=fun k hk=>by
    unfold gw
    rw [List.length_take,Nat.min_eq_left hk]
    congr 1
    apply List.filter_congr
    intro j hj
    rw [tc (List.mem_range.1 hj)]
  rw [e _ O,e _ O,List.range_succ,List.filter_append,List.map_append]
  by_cases h:th (rs.getD i .zero)=d
  · rw [if_pos h,List.filter_cons,decide_eq_true h];rfl
  · simp only [if_neg h,List.filter_cons,List.filter_nil,decide_eq_false h];simp
theorem uv (d:UInt8):Tm (yj E c v) d=if d=c then v else Tm E d:=by
  show (lk (yj E c v) d).getD _=_
  rw [Uj]
  split <;> rfl
theorem nr.step (h:nr A0 A E rs i bs) (le:A.le A2) (D:A2.wf) (ap:mu A2 (Tm E c) 1 (cJ (gw (rs.take i) c ++ [(i:Int)])) v A3) (fr:Fresh A0 A3 v 1 (cJ (gw (rs.take i) c ++ [(i:Int)]))) (sb:uj A3 A4 m o) (hm:m ∈ bs)
    (hne:∀ b ∈ bs,blk v ≠ some b) (hi:i < rs.length) (hc:th (rs.getD i .zero)=c):nr A0 A4 (yj E c v) rs (i + 1) bs:=by
  have hs:∀ d,d ≠ c->bk v (Tm E d):=fun d hd=>bk.appd (h.sp c d hd.symm) ((h.fr d).own.le le) D ap
  refine ⟨Ky h.nd,fun d=>?_,fun d b hb=>?_,fun d e hde=>?_⟩
  · rw [uv,Ji hi,hc]
    by_cases hd:d=c
    · subst hd;rw [if_pos Z,if_pos Z];exact fr.keep sb.keep (hne m hm)
    · rw [if_neg hd,if_neg (fun q=>hd q.symm)]
      exact (((h.fr d).le le).appd ap (h.sp c d (fun q=>hd q.symm))).keep sb.keep (h.ne d m hm)
  · rw [uv];split
    · exact hne b hb
    · exact h.ne d b hb
  · rw [uv,uv]
    by_cases hd:d=c
    · subst hd;rw [if_pos Z,if_neg (fun q=>hde q.symm)];exact hs e (fun q=>hde q.symm)
    · rw [if_neg hd]
      by_cases he:e=c
      · subst he;rw [if_pos Z];exact (hs d hd).symm
      · rw [if_neg he];exact h.sp d e hde
theorem nr.map {rw:Bool} {es:Array MapEntry} {ck:Nat} (h:nr A0 A E rs i bs) (hi:rs.length<=i) (g:A.get m=some (.obj rw (.map es ck))) (hE:dh ek es E) (hb:b ∈ bs) (hm:m ≠ b):o5 (A.hide [some b]) m rs:=by
  refine ⟨rw,es,ck,E,bK g (qL hm mF),hE,fun c=>?_⟩
  have:=((h.fr c).off (bs:=[some b]) (kf (h.ne c b hb) ke) (AH.le.refl _)).slc
  rwa [List.take_of_length_le hi] at this
theorem Vt {p:Nat->Prop} {a b:Nat} (ha:p a) (hb:p b):∀ c ∈ [a,b],p c:=fun c hc=>by
  simp only [List.mem_cons,List.not_mem_nil,or_false] at hc
  rcases hc with rfl | rfl
  · exact ha
  · exact hb
theorem zP {v:Value} {n:Nat} {l:List Value} (h:o0 A v n l) (g:A.get b=none):blk v ≠ some b:=fun q=>by
  obtain ⟨o,ho⟩:=h.blkget q;rw [g] at ho;cases ho
theorem sc (le:A.le A2) (h:A2.get b=none):A.get b=none:=by
  cases q:A.get b with
  | none=>rfl
  | some o=>rw [le.get b o q] at h;cases h
theorem Jq {v:Value} {n:Nat} {l:List Value} (le:A.le A2) (h:Fresh A2 A3 v n l):∀ b,blk v=some b->A.get b=none:=fun b hb=>sc le (h.lo b hb)
theorem GI {s v:Value} {n:Nat} {l:List Value} (le:A.le A2) (wf:A.wf) (ap:mu A2 s n l v A3) (h:∀ b,blk s=some b->A.get b=none):∀ b,blk v=some b->A.get b=none:=fun b hb =>
  (ap.blk b hb).elim (fun q=>h b q) fun q=>aQ wf (Nat.le_trans le.n q)
theorem GH {s v:Value} {n:Nat} {l:List Value} (le:A.le A2) (wf:A.wf) (ap:mu A2 s n l v A3) (h:∀ b,blk s=some b->A.get b=none):A.le A3 :=
  ⟨Nat.le_trans le.n ap.n,fun b o g=>ap.get b o (le.get b o g) fun q=>by rw [h b q] at g;cases g⟩
theorem xm {bs:List (Option Nat)} (le:A.le A2):(A.hide bs).le (A2.hide bs):=cd ((cx A bs).trans le) fun b q=>cn q
end
def eI (rs:List be) (w:List UInt8):Option FJ:=if 20000 < w.length then none else jV rs w
section
variable {g:Int} {l:List (List UInt8)} {rs:List be} {w:List UInt8}
theorem BW (h:bH g w=0):rC g rs w=eI rs w:=by
  unfold rC eI
  by_cases q:w.length<=20000
  · rw [if_pos ⟨h,q⟩,if_neg O]
  · rw [if_neg (fun z=>q z.2),if_pos O]
theorem Fb (h:(!bW g l rs)=true):il g l rs w=.zero/\iG g l rs w=100:=Pw (by simpa using h)
theorem Fc (h:(!bW g l rs)=false) (h2:¬ bH g w=0):il g l rs w=.zero/\iG g l rs w=4:=by
  rw [(og (by simpa using h)).1,(og (by simpa using h)).2];exact NR h2
theorem Ff (h:(!bW g l rs)=false) (h2:¬ ¬ bH g w=0) (q:(!(eI rs w).isSome)=true):il g l rs w=.zero/\iG g l rs w=2:=by
  have h2:=Decidable.not_not.1 h2
  rw [(og (by simpa using h)).1,(og (by simpa using h)).2,wV,lH,BW h2,si q]
  simp [h2,fk]
theorem Fg (h:(!bW g l rs)=false) (h2:¬ ¬ bH g w=0) (q:(!(eI rs w).isSome)=false):il g l rs w=fk (eI rs w)/\iG g l rs w=0:=by
  have h2:=Decidable.not_not.1 h2
  rw [(og (by simpa using h)).1,(og (by simpa using h)).2,wV,lH,BW h2]
  simp_all
theorem wo (hs:bW g l rs=true):∀ r ∈ rs,0 < r.left.length/\r.left.length<=1000000:=fun r hr=>by have:=na hs hr;omega
theorem sx (hs:bW g l rs=true):rs.length<=1000000:=by have:=(gV hs).2.1;omega
end
end Go.Proofs.YtjppkekmddjcfaaGreatDoor

namespace Go.Proofs.YtjppkekmddjcfaaGreatDoor
open Go Go.RowKit
namespace V
section
variable {P:Program} {F:Fence} {nt n:Nat} {A:AH}
theorem PU (hF:wH F) {l:Nat} {args:Array Value} {R:Value->AH->Prop} (hc:ld P l args A R) {w:World} (hw:co A w) :
    YieldAt F 0 P l args w fun e w'=>∃ A' v,e=.returned v/\co A' w'/\eD A w A' w'/\R v A':=by
  rcases hF with rfl | ⟨l,rfl⟩
  · exact hc w hw
  · exact hc w hw
theorem PW (hF:wH F) {fo:Operand} {aa:Array Operand} {tt:Array TypeId} {dst:Option Nat} {ty:TypeId} {ps:String} {af:Array Edge} {g:Option (Nat × Bool)} {l:Nat} {vs:List Value} {R:Value->AH->Prop} {a:Act} {w:World}
    (hf:a.eval fo=.func (.yield l) #[] #[]) (ha:aa.map a.eval=vs.toArray) (hc:ld P l vs.toArray A R) (hw:co A w) {next:Act->World->Prop} {Q:Exit->Act->World->Prop}
    (h:∀ v A' w',co A' w'->eD A w A' w'->R v A'->next (a.put dst v) w') :
    ({ dst:=dst,op:=.call { callee:=.value fo,args:=aa,argTypes:=tt },type:=ty,pos:=ps,after:=af,guard:=g }:Oper).wpIn F 0 P a w next Q:=by
  obtain ⟨fn,tmps,assign,body,hy,hr⟩:=PU hF hc hw
  have hx:(execOp a.eval { dst:=dst,op:=.call { callee:=.value fo,args:=aa,argTypes:=tt },type:=ty,pos:=ps,after:=af,guard:=g }).run P w=.ok (.round l fn tmps assign body) w:=by
    simp [execOp,resolve,hf,ha,Deferred.ofValue,invoke,hy]
  refine ⟨fun f _=>ru hF f,?_⟩
  rw [Oper.semAt_eq _ _ _ (fun c q=>by cases q),hx]
  refine ⟨se hF,RoundIn.mono hr ?_⟩
  rintro en w' ⟨A',v,rfl,hv,hst,hR⟩
  exact h v A' w' hv hst hR

theorem nx {t el:TypeId} {len m:Nat} {z:Value} {l:List (Nat × Value)} {c:List Value} (hu:P.underlying t=some (.array len el)) (hz:cu P t=some z) (hs:c9 P el=some m)
    (hf:ou (fun i=>some (i * m,m)) z.cells.toList l=some c):ll P t l=some (.agg c.toArray):=by simp [ll,hu,hz,hs,hf]
theorem gT {e:gu} {x y:Operand} {t el:TypeId} {b off n len i:Nat} {k:IntKind} (hu:P.underlying t=some (.array len el)) (hs:c9 P el=some n) (h:bN e x=some (.pointer (some ⟨b,off,none⟩))) (h':bN e y=some (.int k (i:Nat))) (hi:i < len) :
    aL P e A (.indexAddr t x y)=some (.pointer (some ⟨b,off + i * n,none⟩),[]):=by rw [JM hu hs h h' hi,nu _ _ Z]
theorem FC:∀ a:Fin 16,Qo .xor .i64 ((a.1:Nat):Int) ((1:Nat):Int)=some (num ((a.1 ^^^ 1:Nat):Int)):=fun a=>by
  have key:∀ a:Fin 16,IntKind.i64.wrap ((BitVec.ofInt 64 ((a.1:Nat):Int) ^^^ BitVec.ofInt 64 ((1:Nat):Int)).toNat:Int)=((a.1 ^^^ 1:Nat):Int):=by decide
  show some (Value.int .i64 (IntKind.i64.wrap ((BitVec.ofInt 64 ((a.1:Nat):Int) ^^^ BitVec.ofInt 64 ((1:Nat):Int)).toNat:Int)))=_
  rw [key]
theorem VI {e:gu} {x y:Operand} {t t':TypeId} {a:Nat} (h:bN e x=some (num (a:Nat))) (h':bN e y=some (num (1:Nat))) (ha:a < 16):aL P e A (.binOp .xor t x y t')=some (num ((a ^^^ 1:Nat):Int),[]) :=
  zg U U h h' (FC ⟨a,ha⟩)
def jG (P:Program) (nt:Nat) (F:Fence) (all:Array Oper) (os:List Oper) (Q:Exit->Fr->AH->Prop) (f:Fr) (A:AH):Prop :=
  ∀ a w,cO nt f a->co A w->∀ (A₀:AH) (w₀:World),eD A₀ w₀ A w->wpListIn F 0 P all (k8 nt Q A₀ w₀) os a w
section
variable {all:Array Oper} {Q:Exit->Fr->AH->Prop} {f:Fr} {e:gu} {ds:List Deferred} {d t:Nat} {op:Op} {ty:TypeId} {ps:String} {af:Array Edge} {os:List Oper} {v:Value} {T:eK}
theorem jG.nil (h:Q .normal f A):jG P nt F all [] Q f A:=fun _ _ ha hw _ _ hs=>⟨f,A,ha,hw,hs,h,fun _ q=>by cases q⟩
theorem jG.q (hF:wH F) (hn:i6 { dst:=some d,op:=op,type:=ty,pos:=ps,after:=af,guard:=none }=true) (hd:Nat.blt d nt=true) (hv:aL P e A op=some (v,T)) (h:jG P nt F all os Q ⟨(d,v) :: e,ds⟩ A) :
    jG P nt F all ({ dst:=some d,op:=op,type:=ty,pos:=ps,after:=af,guard:=none } :: os) Q ⟨e,ds⟩ A:=by
  intro a w ha hw A₀ w₀ hs
  have:=fK (o:={ dst:=some d,op:=op,type:=ty,pos:=ps,after:=af,guard:=none }) hv ha hw
  unfold wpListIn
  rw [if_pos (by simp [Region.wanted])]
  refine ⟨fun f _=>ru hF f,?_⟩
  rw [Oper.semAt_eq _ _ _ (fun c hc=>by simp only at hc;subst hc;cases hn),this.2 w this.1]
  exact h _ w (ha.put (some d) v (cQ hd)) hw A₀ w₀ hs
theorem jG.y (hF:wH F) {fo:Operand} {l:Nat} {vs:List Value} {R:Value->AH->Prop} {aa:Array Operand} {tt:Array TypeId} (hd:Nat.blt d nt=true) (hf:bN e fo=some (.func (.yield l) #[] #[])) (ha:jq (bN e) aa.toList=some vs)
    (hc:ld P l vs.toArray A R) (h:∀ v A',R v A'->jG P nt F all os Q ⟨(d,v) :: e,ds⟩ A') :
    jG P nt F all ({ dst:=some d,op:=.call { callee:=.value fo,args:=aa,argTypes:=tt },type:=ty,pos:=ps,after:=af,guard:=none } :: os) Q ⟨e,ds⟩ A:=by
  intro a w hact hw A₀ w₀ hs
  unfold wpListIn
  rw [if_pos (by simp [Region.wanted])]
  have hev:∀ x v,bN e x=some v->a.eval x=v:=fun x v g=>cB hact g
  have hargs:aa.map a.eval=vs.toArray:=by apply Array.ext';simp [o8 hev _ _ ha]
  exact PW hF (hev _ _ hf) hargs hc hw fun v A' w' hv hst hR=>h v A' hR _ w' (hact.put (some d) v (cQ hd)) hv A₀ w₀ (hs.trans hst)
theorem d6.regionJ {id:Nat} {l:List Oper} (h:jG P nt F l.toArray l Q f A):d6 P nt F (.region id l.toArray false) Q f A :=
  fun a w ha hw=>wpIn_region_lit (h a w ha hw A w (.refl _ _))
theorem am.regionJ {id:Nat} {l:List Oper} (h:jG P nt Fence.wide l.toArray l Q f A):am P nt (.region id l.toArray false) Q f A:=d6.run (d6.regionJ h)
end

theorem Uq (hF:wH F) {o:Oper} {a:Act} {w:World} {K:Act->World->Prop} {Q Q':Exit->Act->World->Prop} (hd:i6 o=true) (hp:∀ ch a w,Q (.panic ch) a w->Q' (.panic ch) a w) (hl:¬ LetsOut Q) (h:o.wp P a w K Q):o.wpIn F n P a w K Q':=by
  have hs:o.semAt F.round a.eval=execOp a.eval o:=Oper.semAt_eq _ _ _ (fun c hc=>by simp [i6,hc] at hd)
  refine ⟨fun f _=>ru hF f,?_⟩
  rw [hs]
  unfold Oper.wp at h
  generalize (execOp a.eval o).run P w=r at h ⊢
  cases r with
  | ok x w' =>
    cases x <;> simp only [Oper.upon] at h <;> simp only [Oper.uponIn] <;>
      first
      | exact h
      | exact h.elim
      | exact ⟨se hF,zR hF (h.mono fun e w'' he=>by
          cases e with
          | returned v=>exact he
          | panicked ch=>exact hp _ _ _ he
          | outgrown=>exact absurd he hl)⟩
      | exact ⟨se hF,GZ hF h⟩
  | halt x w'=>cases x <;> simp only [Oper.upon] at h <;> simp only [Oper.uponIn] <;> exact hp _ _ _ h
theorem xL {ops:Array Oper} {y:Nat} {o o':Oper} (hy:ops[y]? = some o) (he:o'.after=o.after) (listed:Array Bool):Region.ready .any (ops.setIfInBounds y o') listed=Region.ready .any ops listed:=by
  unfold Region.ready
  rw [Array.size_setIfInBounds]
  apply List.filter_congr
  intro i hi
  congr 1
  by_cases q:y=i
  · subst q
    have hlt:=(Array.getElem?_eq_some_iff.1 hy).1
    have e1:ops[y]=o:=(Array.getElem?_eq_some_iff.1 hy).2
    simp [hlt,he,e1]
  · rw [Array.getElem?_setIfInBounds_ne q]
def sy (ops:Array Oper) (y z:Nat):Bool :=
  Nat.blt y ops.size && Nat.blt z ops.size && !(y == z) && (List.range ops.size).all (fun j=>j == y || j == z || lg ops j ops.size y) && lg ops y ops.size z &&
  (List.range ops.size).all (fun j=>match ops[j]? with | none=>false | some o=>o.after.all fun e=>Nat.blt e.on j) && ops.toList.all (fun o=>i6 o && (match o.guard with | none=>true | _=>false))
theorem CO {o:Oper} (h:(match o.guard with | none=>true | _=>false)=true) (l:Nat->Value):o.guard=none:=by
  cases q:o.guard with
  | none=>rfl
  | some x=>rw [q] at h;cases h
theorem QW {l:Array Bool} {i:Nat} (h:l.getD i true=false):i < l.size:=by
  rcases Nat.lt_or_ge i l.size with q | q
  · exact q
  · simp [q] at h
theorem Nu {a:Act} {d:Nat} {v:Value} (h:d < a.tmps.size):(a.put (some d) v).eval (.tmp d)=v:=by simp [Act.eval,Act.put,h]
theorem Vi (hF:wH F) {ops:Array Oper} {y z d dz:Nat} {fo:Operand} {aa:Array Operand} {tt:Array TypeId} {ty tz tz':TypeId} {ps psz:String} {af afz:Array Edge} {l:Nat} {Qp Q:Exit->Act->World->Prop} {oy oz oy' oz':Oper}
    (ey:oy={ dst:=some d,op:=.call { callee:=.value fo,args:=aa,argTypes:=tt },type:=ty,pos:=ps,after:=af,guard:=none })
    (ez:oz={ dst:=some dz,op:=.unOp .not tz (.tmp d),type:=tz',pos:=psz,after:=afz,guard:=none })
    (ey':oy'={ oy with op:=.move (.const (.bool true)) }) (ez':oz'={ oz with op:=.move (.const (.bool false)) })
    (hy:ops[y]? = some oy) (hz:ops[z]? = some oz) (hw:sy ops y z=true) (hl:¬ LetsOut Qp) (hp:∀ ch a w,¬ Qp (.panic ch) a w)
    (hQ:∀ (a:Act) w,Qp .normal ((a.put (some d) (.bool true)).put (some dz) (.bool false)) w->d < a.tmps.size/\∃ (A:AH) (vs:List Value) (R:Value->AH->Prop),co A w/\a.eval fo=.func (.yield l) #[] #[]/\aa.map a.eval=vs.toArray/\ld P l vs.toArray A R /\
      (∀ v A' w',R v A'->co A' w'->eD A w A' w'->v=.bool true/\Q .normal ((a.put (some d) (.bool true)).put (some dz) (.bool false)) w')) :
    ∀ (fuel:Nat) (listed:Array Bool) (a:Act) (w:World),kB ops listed->listed.size=ops.size->listed.getD y true=false ->
      wpAny P .any ((ops.setIfInBounds y oy').setIfInBounds z oz') Qp fuel listed a w->wpAnyIn F 0 P .any ops Q fuel listed a w:=by
  simp only [sy,Bool.and_eq_true,Bool.not_eq_true',List.all_eq_true,List.mem_range,Bool.or_eq_true,beq_iff_eq,beq_eq_false_iff_ne,ne_eq] at hw
  obtain ⟨⟨⟨⟨⟨⟨w1,w2⟩,w3⟩,w4⟩,w5⟩,w6⟩,w7⟩:=hw
  have w1:y < ops.size:=Nat.le_of_ble_eq_true w1
  have w2:z < ops.size:=Nat.le_of_ble_eq_true w2
  have ay:oy'.after=oy.after:=by rw [ey']
  have az:oz'.after=oz.after:=by rw [ez']
  generalize hops:(ops.setIfInBounds y oy').setIfInBounds z oz'=ops'
  have hr:∀ listed,Region.ready .any ops' listed=Region.ready .any ops listed:=fun listed=>by
    have e1:=xL (ops:=ops.setIfInBounds y oy') (y:=z) (o:=oz) (o':=oz') (by rw [Array.getElem?_setIfInBounds_ne w3];exact hz) az listed
    rw [<- hops,e1,xL hy ay]
  have hy':ops'[y]? = some oy':=by
    rw [<- hops,Array.getElem?_setIfInBounds_ne (fun q=>w3 q.symm)];simp [w1]
  have hz':ops'[z]? = some oz':=by
    rw [<- hops];simp [w2]
  have ho:∀ i,i ≠ y->i ≠ z->ops'[i]? = ops[i]?:=fun i h1 h2=>by
    rw [<- hops,Array.getElem?_setIfInBounds_ne (fun q=>h2 q.symm),Array.getElem?_setIfInBounds_ne (fun q=>h1 q.symm)]
  have a1:∀ i o,ops[i]? = some o->i6 o=true/\o.guard=none:=fun i o hi=>by
    have hlt:=(Array.getElem?_eq_some_iff.1 hi).1
    have he:=(Array.getElem?_eq_some_iff.1 hi).2
    have:=w7 o (by rw [<- he];exact Array.getElem_mem_toList hlt)
    exact ⟨this.1,CO this.2 (fun _=>undef)⟩
  have back:∀ (i:Nat) (o:Oper),ops[i]? = some o->∀ e ∈ o.after,e.on < i:=fun i o hi e he=>by
    have hlt:=(Array.getElem?_eq_some_iff.1 hi).1
    have:=w6 i hlt
    rw [hi] at this
    exact Nat.le_of_ble_eq_true (Array.all_eq_true'.1 this e he)
  have some_ready:∀ (listed:Array Bool),listed.size=ops.size->∀ m,listed.getD m true=false->Region.ready .any ops listed ≠ []:=fun listed hsz=>by
    intro m
    induction m using Nat.strongRecOn with
    | _ m ih =>
      intro hm h0
      have hlt:m < ops.size:=by rw [<- hsz];exact QW hm
      have hom:ops[m]? = some ops[m]:=by simp [hlt]
      by_cases q:∀ e ∈ ops[m].after,Region.binds .any e=true->listed.getD e.on false=true
      · have:m ∈ Region.ready .any ops listed:=mem_ready.2 ⟨hm,_,hom,q⟩
        rw [h0] at this;cases this
      · obtain ⟨e,he,hbe,hle⟩:∃ e,e ∈ ops[m].after/\Region.binds .any e=true/\¬ listed.getD e.on false=true:=Classical.byContradiction fun n=>q fun e he hb=>Classical.byContradiction fun z=>n ⟨e,he,hb,z⟩
        have V:=back m _ hom e he
        refine ih e.on V ?_ h0
        have:listed.getD e.on false=false:=by simpa using hle
        have h3:e.on < listed.size:=by omega
        simpa [h3] using this
  intro fuel
  induction fuel with
  | zero =>
    intro listed a w hcl hsz hun h
    have h0:=h.1
    rw [hr] at h0
    exact absurd h0 (some_ready listed hsz y hun)
  | succ fuel ih =>
    intro listed a w hcl hsz hun h
    refine ⟨fun h0=>absurd h0 (some_ready listed hsz y hun),fun i hi=>?_⟩
    obtain ⟨hiun,oi,hoi,hall⟩:=mem_ready.1 hi
    have h1:=h.2 i (by rw [hr];exact hi)
    unfold wpOp at h1
    unfold wpOpIn
    by_cases hiy:i=y
    · subst hiy
      rw [hy] at hoi;cases hoi
      have others:∀ j,j < ops.size->j ≠ i->j ≠ z->listed.getD j false=true:=fun j hj h1 h2=>by
        rcases w4 j hj with (q | q) | q
        · exact absurd q h1
        · exact absurd q h2
        · exact jL hcl _ _ _ hy hall q
      have hznl:listed.getD z true=false:=by
        cases q:listed.getD z true with
        | false=>rfl
        | true =>
          have a0:listed.getD z false=true:=by rw [<- q];simp [hsz,w2]
          have:=jL hcl _ _ _ hz (hcl z _ hz a0) w5
          rw [iu hun] at this;cases this
      have a2:(listed.setIfInBounds i true).size=ops.size:=by simpa using hsz
      have X:(listed.setIfInBounds i true).getD z true=false:=by rw [getD_set_ne true w3];exact hznl
      have D:∀ j,j < ops.size->j ≠ z->(listed.setIfInBounds i true).getD j false=true:=fun j hj h2=>by
        by_cases q:j=i
        · subst q;simp [hsz,w1]
        · exact getD_set_true (others j hj q h2)
      have zready:z ∈ Region.ready .any ops (listed.setIfInBounds i true):=mem_ready.2 ⟨X,_,hz,fun e he _=>D _ (Nat.lt_trans (back z _ hz e he) w2) (by have:=back z _ hz e he;omega)⟩
      have only:∀ j,j ∈ Region.ready .any ops (listed.setIfInBounds i true)->j=z:=fun j hj=>by
        obtain ⟨q1,oj,q2,_⟩:=mem_ready.1 hj
        refine Classical.byContradiction fun q=>?_
        have:=D j (Array.getElem?_eq_some_iff.1 q2).1 q
        rw [iu q1] at this;cases this
      have done:Region.ready .any ops ((listed.setIfInBounds i true).setIfInBounds z true)=[]:=by
        refine List.eq_nil_iff_forall_not_mem.2 fun j hj=>?_
        obtain ⟨q1,oj,q2,_⟩:=mem_ready.1 hj
        have hlt:=(Array.getElem?_eq_some_iff.1 q2).1
        have:((listed.setIfInBounds i true).setIfInBounds z true).getD j false=true:=by
          by_cases q:j=z
          · subst q;simp [hsz,w2]
          · exact getD_set_true (D j hlt q)
        rw [iu q1] at this;cases this
      have wy':∀ l,Region.wanted oy' l=true:=fun l=>by rw [ey',ey];rfl
      have wz':∀ l,Region.wanted oz' l=true:=fun l=>by rw [ez',ez];rfl
      have wy:∀ l,Region.wanted oy l=true:=fun l=>by rw [ey];rfl
      have wz:∀ l,Region.wanted oz l=true:=fun l=>by rw [ez];rfl
      simp only [hy',wy',if_true] at h1
      have h2:wpAny P .any ops' Qp fuel (listed.setIfInBounds i true) (a.put (some d) (.bool true)) w:=by
        rcases h1 with h1 | ⟨_,h1⟩
        · rw [ey',ey] at h1;exact h1
        · exact absurd h1 hl
      cases fuel with
      | zero=>exfalso;have:=h2.1;rw [hr] at this;rw [this] at zready;cases zready
      | succ f =>
        have h3:=h2.2 z (by rw [hr];exact zready)
        unfold wpOp at h3
        simp only [hz',wz',if_true] at h3
        have h4:wpAny P .any ops' Qp f ((listed.setIfInBounds i true).setIfInBounds z true) ((a.put (some d) (.bool true)).put (some dz) (.bool false)) w:=by
          rcases h3 with h3 | ⟨_,h3⟩
          · rw [ez',ez] at h3;exact h3
          · exact absurd h3 hl
        have h5:Qp .normal ((a.put (some d) (.bool true)).put (some dz) (.bool false)) w:=by
          cases f with
          | zero=>exact h4.2
          | succ f=>exact h4.1 (by rw [hr];exact done)
        obtain ⟨hd,A,vs,R,hv,hfo,haa,hya,hK⟩:=hQ a w h5
        simp only [hy,wy,if_true]
        rw [ey]
        refine PW hF hfo haa hya hv fun v A' w' hv' hst hR=>?_
        obtain ⟨rfl,hq⟩:=hK v A' w' hR hv' hst
        refine ⟨fun q=>(by rw [q] at zready;cases zready),fun j hj=>?_⟩
        have:=only j hj
        subst this
        unfold wpOpIn
        simp only [hz,wz,if_true]
        rw [ez]
        have hx:(execOp (a.put (some d) (.bool true)).eval { dst:=some dz,op:=.unOp .not tz (.tmp d),type:=tz',pos:=psz,after:=afz,guard:=none }).run P w'=.ok (.value (.bool false)) w':=by
          have:=Nu (v:=.bool true) hd
          simp [execOp,this,Op.unary]
        refine ⟨fun f _=>ru hF f,?_⟩
        rw [Oper.semAt_eq _ _ _ (fun c q=>by cases q),hx]
        show wpAnyIn F 0 P .any ops Q f _ _ w'
        cases f with
        | zero=>exact ⟨done,hq⟩
        | succ f=>exact ⟨fun _=>hq,fun k hk=>by rw [done] at hk;cases hk⟩
    · have hiz:i ≠ z:=by
        rintro rfl
        have:=jL hcl _ _ _ hz (by rw [hz] at hoi;cases hoi;exact hall) w5
        rw [iu hun] at this;cases this
      obtain ⟨g1,g2⟩:=a1 i oi hoi
      have hwt:∀ l,Region.wanted oi l=true:=fun l=>by simp [Region.wanted,g2]
      rw [ho i hiy hiz] at h1
      simp only [hoi,hwt,if_true] at h1 ⊢
      have h2:oi.wp P a w (wpAny P .any ops' Qp fuel (listed.setIfInBounds i true)) Qp:=by
        rcases h1 with h1 | ⟨_,h1⟩
        · exact h1
        · exact absurd h1 hl
      refine Uq hF g1 (fun ch a w q=>absurd q (hp ch a w)) hl (Oper.wp_mono (fun a' w' h3=>?_) h2)
      exact ih _ _ _ (gH hcl hi) (by simpa using hsz) (by rw [getD_set_ne true hiy];exact hun) h3

def JB (d dz:Nat):Operand->Bool
  | .tmp t=>!(t == d) && !(t == dz)
  | _=>true
theorem xG {d dz:Nat} {x:Operand} (h:JB d dz x=true):x ≠ .tmp d/\x ≠ .tmp dz:=by
  constructor <;> (rintro rfl;simp [JB] at h)
theorem d6.drawnYield {Q:Exit->Fr->AH->Prop} {e:gu} {ds:List Deferred} {id:Nat} {ops:Array Oper} (C:List Nat) (y z:Nat) {d dz:Nat} {fo:Operand} {aa:Array Operand} {tt:Array TypeId} {ty tz tz':TypeId} {ps psz:String} {af afz:Array Edge} {l:Nat} {oy oz:Oper} {vs:List Value} {R:Value->AH->Prop}
    (hF:wH F) (hy:ops[y]? = some oy) (hz:ops[z]? = some oz)
    (ey:oy={ dst:=some d,op:=.call { callee:=.value fo,args:=aa,argTypes:=tt },type:=ty,pos:=ps,after:=af,guard:=none })
    (ez:oz={ dst:=some dz,op:=.unOp .not tz (.tmp d),type:=tz',pos:=psz,after:=afz,guard:=none })
    (hw:sy ops y z=true) (hfd:(JB d dz fo && aa.toList.all (JB d dz))=true) (hdn:Nat.blt d nt=true) (hm:P.follows .mixedOrders=true)
    (hc:lS ((ops.setIfInBounds y { oy with op:=.move (.const (.bool true)) }).setIfInBounds z { oz with op:=.move (.const (.bool false)) }) (Array.replicate ops.size false) C=true) (hn:Region.noSelect ((ops.setIfInBounds y { oy with op:=.move (.const (.bool true)) }).setIfInBounds z { oz with op:=.move (.const (.bool false)) })=true) (hl:C.length=ops.size)
    (hya:ld P l vs.toArray A R)
    (h:bj P nt ((ops.setIfInBounds y { oy with op:=.move (.const (.bool true)) }).setIfInBounds z { oz with op:=.move (.const (.bool false)) })
      (fun x f A'=>x=.normal/\A'=A/\bN f.e fo=some (.func (.yield l) #[] #[])/\jq (bN f.e) aa.toList=some vs/\∀ v A2,R v A2->v=.bool true/\Q .normal f A2) (Array.replicate ops.size false) [] C ⟨e,ds⟩ A):d6 P nt F (.region id ops true) Q ⟨e,ds⟩ A:=by
  intro a w ha a0
  simp only [Bool.and_eq_true,List.all_eq_true] at hfd
  obtain ⟨D,V⟩:=hfd
  have D:=xG D
  obtain ⟨v1,s1⟩:=jb a0
  have hsz:((ops.setIfInBounds y { oy with op:=.move (.const (.bool true)) }).setIfInBounds z { oz with op:=.move (.const (.bool false)) }).size=ops.size:=by simp
  have emp:∀ (os:Array Oper),os.size=ops.size->kB os (Array.replicate ops.size false):=fun os hos j o _ hj=>by
    exfalso
    rcases Nat.lt_or_ge j ops.size with q | q
    · simp [q] at hj
    · simp [q] at hj
  have key:=h hc hn a _ ha v1 (fun p hp=>by cases hp) (emp _ hsz) A w s1
  rw [hl] at key
  have key:=jZ _ _ _ _ key
  refine wpIn_mono (wpIn_region_any hm (Vi (l:=l) (Q:=dH nt Q A w) hF ey ez rfl rfl hy hz hw ?_ ?_ ?_ _ _ _ _ (emp _ rfl) (by simp) ?_ key)) (fun _ _ _=>dH.q)
  · rintro ⟨a,w,f',A',_,_,_,q,_⟩;exact absurd q.1 (by simp)
  · rintro ch a w ⟨f',A',_,_,_,q,_⟩;exact absurd q.1 (by simp)
  · rintro a2 w2 ⟨f',A',g1,g2,g3,⟨_,rfl,g5,g6,g7⟩,_⟩
    have a1:a2.tmps.size=nt:=by have:=g1.size;simpa [Act.put] using this
    have hd:=Nat.le_of_ble_eq_true hdn
    have hev:∀ x v,x ≠ .tmp d->x ≠ .tmp dz->bN f'.e x=some v->a2.eval x=v:=fun x v n1 n2 g=>by
      have h5:=cB g1 g
      cases x with
      | tmp t =>
        have t1:t ≠ d:=fun q=>n1 (by rw [q])
        have t2:t ≠ dz:=fun q=>n2 (by rw [q])
        rw [<- h5]
        simp only [Act.eval,Act.put,Array.getD_eq_getD_getElem?]
        rw [Array.getElem?_setIfInBounds_ne (Ne.symm t2),Array.getElem?_setIfInBounds_ne (Ne.symm t1)]
      | _=>exact h5
    refine ⟨by omega,A',vs,R,g2,hev _ _ D.1 D.2 g5,?_,hya,?_⟩
    · apply Array.ext'
      simp only [Array.toList_map]
      have key:∀ (l:List Operand) (us:List Value),(∀ x ∈ l,x ≠ .tmp d/\x ≠ .tmp dz)->jq (bN f'.e) l=some us->l.map a2.eval=us:=by
        intro l
        induction l with
        | nil=>intro us _ h;simp [jq] at h;simp [h]
        | cons x l ih =>
          intro us hx h
          simp only [jq] at h
          split at h
          · rename_i v us' h1 h2
            cases h
            have:=hx x List.mem_cons_self
            simp [hev _ _ this.1 this.2 h1,ih _ (fun y hy=>hx y (List.mem_cons_of_mem _ hy)) h2]
          · cases h
      exact key _ _ (fun x hx=>xG (V x hx)) g6
    · intro v A2 w' hR X hst
      obtain ⟨r1,r2⟩:=g7 v A2 hR
      exact ⟨r1,f',A2,g1,X,g3.trans hst,r2,fun _ q=>by cases q⟩
  · have:y < ops.size:=(Array.getElem?_eq_some_iff.1 hy).1
    simp [this]
theorem am.drawnYield {Q:Exit->Fr->AH->Prop} {e:gu} {ds:List Deferred} {id:Nat} {ops:Array Oper} (C:List Nat) (y z:Nat) {d dz:Nat} {fo:Operand} {aa:Array Operand} {tt:Array TypeId} {ty tz tz':TypeId} {ps psz:String} {af afz:Array Edge} {l:Nat} {oy oz:Oper} {vs:List Value} {R:Value->AH->Prop}
    (hy:ops[y]? = some oy) (hz:ops[z]? = some oz)
    (ey:oy={ dst:=some d,op:=.call { callee:=.value fo,args:=aa,argTypes:=tt },type:=ty,pos:=ps,after:=af,guard:=none })
    (ez:oz={ dst:=some dz,op:=.unOp .not tz (.tmp d),type:=tz',pos:=psz,after:=afz,guard:=none })
    (hw:sy ops y z=true) (hfd:(JB d dz fo && aa.toList.all (JB d dz))=true) (hdn:Nat.blt d nt=true) (hm:P.follows .mixedOrders=true)
    (hc:lS ((ops.setIfInBounds y { oy with op:=.move (.const (.bool true)) }).setIfInBounds z { oz with op:=.move (.const (.bool false)) }) (Array.replicate ops.size false) C=true) (hn:Region.noSelect ((ops.setIfInBounds y { oy with op:=.move (.const (.bool true)) }).setIfInBounds z { oz with op:=.move (.const (.bool false)) })=true) (hl:C.length=ops.size)
    (hya:ld P l vs.toArray A R)
    (h:bj P nt ((ops.setIfInBounds y { oy with op:=.move (.const (.bool true)) }).setIfInBounds z { oz with op:=.move (.const (.bool false)) })
      (fun x f A'=>x=.normal/\A'=A/\bN f.e fo=some (.func (.yield l) #[] #[])/\jq (bN f.e) aa.toList=some vs/\∀ v A2,R v A2->v=.bool true/\Q .normal f A2) (Array.replicate ops.size false) [] C ⟨e,ds⟩ A):am P nt (.region id ops true) Q ⟨e,ds⟩ A :=
  d6.run (d6.drawnYield C y z kg hy hz ey ez hw hfd hdn hm hc hn hl hya h)
end
end V
end Go.Proofs.YtjppkekmddjcfaaGreatDoor
