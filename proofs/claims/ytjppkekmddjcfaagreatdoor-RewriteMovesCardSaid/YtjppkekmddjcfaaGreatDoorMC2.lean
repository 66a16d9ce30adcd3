import Derived.Test.YtjppkekmddjcfaaGreatDoorMC1
import Derived.RangeFuncSeq
import Derived.RangeFuncRecord
import Derived.TacticsIn
import Derived.OrdersIn
import Derived.Shelf.SlGeneric
import Derived.Shelf.SlLaysF0
import Derived.Shelf.Lays
import Derived.Ground.SlsfProg
import Derived.Ground.NamesProg
import Derived.Test.YtjppkekmddjcfaaGreatDoorProg
import Derived.Shelf.Strings.Search3
import Derived.Test.YtjppkekmddjcfaaGreatDoorCards
import Derived.Test.YtjppkekmddjcfaaGreatDoorTie
import Derived.WalkKit
import Derived.ProofKit
import Derived.OpenShut
import Derived.Carry
import Derived.SliceStrings
import Derived.ChangeSame
import Derived.ChangeMaps5
import Derived.Deep.DeepHandedRow
import Derived.Deep.DeepLaidRun
import Derived.Lib.LaidTab
import Derived.Shelf.Vars
import Derived.KernelRfl
set_option linter.unusedSectionVars false
set_option linter.unusedVariables false
set_option linter.unusedSimpArgs false
namespace Go.Proofs.YtjppkekmddjcfaaGreatDoor
open Go Go.RowKit
namespace V

abbrev FR (l:Nat):Fence:=Fence.wide.inRound l
def xk (F:Fence):Prop:=F=Fence.wide\/∃ l,F=FR l
theorem ku:xk Fence.wide:=.inl Z
theorem qL (l:Nat):xk (FR l):=.inr ⟨l,rfl⟩
def i9 (o:Oper):Bool:=match o.op with | .defer _=>false | _=>true

section
variable {P:Program} {F:Fence} {n:Nat}
theorem AJ (hF:xk F) {g:FuncId} {args:Array Value} {w:World} {R:Ending->World->Prop} (h:Calls P g args w R):CallsIn F n P g args w R:=by
  have:=callsIn_wide (n:=n).2 h
  rcases hF with rfl | ⟨l,rfl⟩
  · exact this
  · exact this
theorem I3 (hF:xk F) {row:String} {args:Array Value} {w:World} {R:Value->World->Prop} (h:Rows P row args w R):RowsIn F n P row args w R:=fun c cs _=>by
  obtain ⟨v,w',r,s⟩:=h c cs
  have s':=stepsIn_wide.2 s
  rcases hF with rfl | ⟨l,rfl⟩
  · exact ⟨v,w',r,s'⟩
  · exact ⟨v,w',r,s'⟩
theorem rI (hF:xk F) (f:FuncId):F.fn f:=by rcases hF with rfl | ⟨l,rfl⟩ <;> trivial
theorem sC (hF:xk F):F.depth.isSome=true->1<=n:=by rcases hF with rfl | ⟨l,rfl⟩ <;> (intro q;cases q)
theorem UM (hF:xk F) {o:Oper} {a:Act} {w:World} {K:Act->World->Prop} {Q:Exit->Act->World->Prop} (hd:i9 o=true) (h:o.wp P a w K Q):o.wpIn F n P a w K Q:=by
  have hs:o.semAt F.round a.eval=execOp a.eval o:=Oper.semAt_eq _ _ _ (fun c hc=>by simp [i9,hc] at hd)
  refine ⟨fun f _=>rI hF f,?_⟩
  rw [hs]
  unfold Oper.wp at h
  generalize (execOp a.eval o).run P w=r at h ⊢
  cases r with
  | ok x w' =>
    cases x <;> simp only [Oper.upon] at h <;> simp only [Oper.uponIn] <;>
      first | exact h | exact h.elim | exact ⟨sC hF,AJ hF h⟩ | exact ⟨sC hF,I3 hF h⟩
  | halt x w'=>cases x <;> simp only [Oper.upon] at h <;> simp only [Oper.uponIn] <;> exact h

theorem zq (hF:xk F) {all:Array Oper} {Q:Exit->Act->World->Prop} (hQ:¬ LetsOut Q):∀ (os:List Oper) (a:Act) (w:World),os.all i9=true->wpList P all Q os a w->wpListIn F n P all Q os a w
  | [],_,_,_,h=>h
  | o :: os,a,w,hd,h=>by
    simp only [List.all_cons,Bool.and_eq_true] at hd
    unfold wpList at h
    unfold wpListIn
    split
    · rename_i hw
      rw [if_pos hw] at h
      rcases h with h | ⟨_,h⟩
      · exact UM hF hd.1 (Oper.wp_mono (fun a w=>zq hF hQ os a w hd.2) h)
      · exact absurd h hQ
    · rename_i hw
      rw [if_neg hw] at h
      exact ⟨fun f _=>rI hF f,zq hF hQ os _ w hd.2 h⟩

theorem yN (hF:xk F) {ops:Array Oper} {Q:Exit->Act->World->Prop} (hQ:¬ LetsOut Q) (hd:ops.toList.all i9=true):∀ (fuel:Nat) (l:Array Bool) (a:Act) (w:World),wpAny P .any ops Q fuel l a w->wpAnyIn F n P .any ops Q fuel l a w
  | 0,_,_,_,h=>h
  | fuel + 1,l,a,w,h=>⟨h.1,fun i hi=>by
      have h2:=h.2 i hi
      unfold wpOp at h2
      unfold wpOpIn
      split
      · rename_i q;simp only [q] at h2;exact yN hF hQ hd fuel _ a w h2
      · rename_i o q
        simp only [q] at h2
        have ho:i9 o=true:=List.all_eq_true.1 hd o (by
          obtain ⟨hlt,e⟩:=Array.getElem?_eq_some_iff.1 q
          rw [<- e];exact Array.getElem_mem_toList hlt)
        split
        · rename_i hw
          rw [if_pos hw] at h2
          rcases h2 with h2 | ⟨_,h2⟩
          · exact UM hF ho (Oper.wp_mono (fun a w=>yN hF hQ hd fuel _ a w) h2)
          · exact absurd h2 hQ
        · rename_i hw
          rw [if_neg hw] at h2
          exact ⟨fun f _=>rI hF f,yN hF hQ hd fuel _ _ w h2⟩⟩
end

def eh (P:Program) (nt:Nat) (F:Fence) (c:Code) (Q:Exit->Fr->AH->Prop) (f:Fr) (A:AH):Prop :=
  ∀ a w,cU nt f a->co A w->c.wpIn F 0 P (lr nt Q A w) a w
def sx (Q:Exit->Fr->AH->Prop):Prop:=∀ f A,¬ Q .outgrown f A
theorem pU {K:Fr->AH->Prop} {Q:Exit->Fr->AH->Prop} (h:sx Q):sx (rq K Q):=fun f A=>h f A
theorem ln {i:Nat} {Q:Exit->Fr->AH->Prop} (h:sx Q):sx (mZ i Q):=fun f A=>h f A
def wv (R:Fr->AH->Prop):Exit->Fr->AH->Prop
  | .normal,f,A=>R f A
  | _,_,_=>False
theorem iK {R:Fr->AH->Prop}:sx (wv R):=fun _ _ h=>h
theorem Cm {nt:Nat} {Q:Exit->Fr->AH->Prop} (h:sx Q) {A:AH} {w:World}:¬ LetsOut (dR nt Q A w):=fun ⟨_,_,_,_,_,_,_,q,_⟩=>h _ _ q
theorem Fj {nt:Nat} {Q:Exit->Fr->AH->Prop} (h:sx Q) {A:AH} {w:World}:¬ LetsOut (lr nt Q A w):=fun ⟨_,_,_,_,_,_,_,q,_⟩=>h _ _ q

section
variable {P:Program} {nt:Nat} {F:Fence} {Q:Exit->Fr->AH->Prop} {f:Fr} {A:AH} {e:gI} {ds:List Deferred}
theorem eh.wf {c:Code} (h:A.wf->eh P nt F c Q f A):eh P nt F c Q f A:=fun a w ha hw=>h hw.wf a w ha hw
theorem eh.skip (h:Q .normal f A):eh P nt F .skip Q f A:=fun _ _ ha hw=>wpIn_skip (.self ha hw h fun _ q=>by cases q)
theorem eh.seq {x y:Code} (h:∀ K:Fr->AH->Prop,(∀ f A,eh P nt F y Q f A->K f A)->eh P nt F x (rq K Q) f A):eh P nt F (x.seq y) Q f A:=by
  intro a w ha hw
  refine wpIn_seq (wpIn_mono (h _ (fun _ _ h=>h) a w ha hw) ?_)
  rintro e a' w' ⟨f',A',h1,h2,h3,h4,h5⟩
  cases e with
  | normal=>exact wpIn_mono (h4 a' w' h1 h2) fun x a'' w'' g=>g.step h3
  | _=>exact ⟨f',A',h1,h2,h3,h4,h5⟩
theorem eh.cond {c:Operand} {x y:Code} {t:Bool} (hc:bQ f.e c=some (.bool t)) (h1:t=true->eh P nt F x Q f A) (h2:t=false->eh P nt F y Q f A) :
    eh P nt F (.cond c x y) Q f A:=fun a w ha hw =>
  wpIn_cond_split (cI ha hc) (fun e=>h1 e a w ha hw) (fun e=>h2 e a w ha hw)
theorem eh.cond_false {c:Operand} {x y:Code} (hc:bQ f.e c=some (.bool false)) (h1:eh P nt F y Q f A):eh P nt F (.cond c x y) Q f A :=
  eh.cond hc (fun e=>by cases e) (fun _=>h1)
theorem eh.if {c:Operand} {x y:Code} {p:Prop} [Decidable p] (hc:bQ e c=some (.bool (decide p))) (h1:p->eh P nt F x Q ⟨e,ds⟩ A) (h2:¬ p->eh P nt F y Q ⟨e,ds⟩ A):eh P nt F (.cond c x y) Q ⟨e,ds⟩ A :=
  eh.cond hc (fun h=>h1 (of_decide_eq_true h)) (fun h=>h2 (of_decide_eq_false h))
theorem eh.block {i:Nat} {c:Code} (h:eh P nt F c (mZ i Q) f A):eh P nt F (.block i c) Q f A:=fun a w ha hw=>by
  refine wpIn_block (wpIn_mono (h a w ha hw) ?_)
  rintro e a' w' ⟨f',A',h1,h2,h3,h4,h5⟩
  cases e with
  | exit j =>
    simp only [Exit.inBlock,mZ] at h4 ⊢
    split
    · rename_i q;rw [if_pos q] at h4;exact ⟨f',A',h1,h2,h3,h4,fun _ q=>by cases q⟩
    · rename_i q;rw [if_neg q] at h4;exact ⟨f',A',h1,h2,h3,h4,h5⟩
  | _=>exact ⟨f',A',h1,h2,h3,h4,h5⟩
theorem eh.region {id:Nat} {l:List Oper} (hF:xk F) (hQ:sx Q) (hd:l.all i9=true) (h:Ops P nt l.toArray l Q f A):eh P nt F (.region id l.toArray false) Q f A :=
  fun a w ha hw=>wpIn_region_lit (zq hF (Fj hQ) l a w hd (h a w ha hw A w (.refl _ _)))
theorem eh.drawn {id:Nat} {ops:Array Oper} (C:List Nat) (hF:xk F) (hQ:sx Q) (hd:ops.toList.all i9=true) (hm:P.follows .mixedOrders=true) (hc:mq ops (Array.replicate ops.size false) C=true) (hn:Region.noSelect ops=true) (hl:C.length=ops.size)
    (h:bk P nt ops Q (Array.replicate ops.size false) [] C f A):eh P nt F (.region id ops true) Q f A:=by
  intro a w ha hw
  obtain ⟨v1,s1⟩:=jf hw
  refine wpIn_mono (wpIn_region_any hm (yN hF (Cm hQ) hd _ _ _ _ (j9 (Q:=dR nt Q A w) (S:=dQ ops []) _ _ _ _ ?_))) (fun _ _ _=>dR.q)
  have key:=h hc hn a _ ha v1 (fun p hp=>by cases hp) (fun j o _ hj=>by
    exfalso
    rcases Nat.lt_or_ge j ops.size with q | q
    · simp [q] at hj
    · simp [q] at hj) A w s1
  rw [hl] at key
  exact key
theorem eh.run {c:Code} (h:eh P nt Fence.wide c Q f A):al P nt c Q f A:=fun a w ha hw=>wpIn_wide.1 (h a w ha hw)
theorem al.into {c:Code} (h:al P nt c Q f A):eh P nt Fence.wide c Q f A:=fun a w ha hw=>wpIn_wide.2 (h a w ha hw)
end

def ls (P:Program) (l:Nat) (args:Array Value) (A:AH) (R:Value->AH->Prop):Prop :=
  ∀ w,co A w->YieldAt Fence.wide 0 P l args w fun e w'=>∃ A' v,e=.returned v/\co A' w'/\eH A w A' w'/\R v A'
section
variable {P:Program} {nt:Nat} {all:Array Oper} {Q:Exit->Fr->AH->Prop} {f:Fr} {A:AH} {e:gI} {ds:List Deferred} {d t:Nat} {op:Op} {ty:TypeId} {ps:String} {af:Array Edge} {os:List Oper} {v:Value} {T:fH}
end

def mark (D:Nat):Deferred:={ target:=.collected D,args:=#[] }
def zK (ps:List Nat) (xs:List Value) (e:gI):gI:=(ps.zip xs).foldl (fun e p=>(p.1,p.2) :: e) e
section
variable {P:Program} {nt:Nat} {Q:Exit->Fr->AH->Prop} {A:AH} {e:gI} {ds:List Deferred}
theorem tX:∀ (l:List (Nat × Value)) (e:gI) (t:Array Value),(∀ p ∈ l,p.1 < nt)->cU nt ⟨e,[]⟩ { tmps:=t,defers:=[] } ->
    cU nt ⟨l.foldl (fun e p=>(p.1,p.2) :: e) e,[]⟩ { tmps:=l.foldl (fun t p=>t.setIfInBounds p.1 p.2) t,defers:=[] }
  | [],_,_,_,h=>h
  | p :: l,e,t,hp,h=>tX l _ _ (fun q hq=>hp q (List.mem_cons_of_mem _ hq)) (by
      have:=h.put (some p.1) p.2 (fun t q=>by cases q;exact hp p List.mem_cons_self)
      exact this)
theorem md (P:Program) {w:World} {b:Nat} {x y:Obj} (h:co A w) (g:A.get b=some (.obj true x)) (hy:∀ c e f,y ≠ .cells c e f):co (A.set b (.obj true y)) (w.putObj b y)/\eH A w (A.set b (.obj true y)) (w.putObj b y):=by
  obtain ⟨w',r,v1,s1⟩:=jp (P:=P) h g (y:=y) hy
  obtain ⟨g1,g2⟩:=h.obj g
  have:(setObj b y).run P w=.ok () (w.putObj b y):=by simp [setObj,Sem.run,g1,World.putObj]
  rw [r] at this
  have e:w'=w.putObj b y:=by injection this
  rw [<- e];exact ⟨v1,s1⟩
def D9 (P:Program) (rs:List ResultVar) (Q:Ending->AH->Prop):Exit->Fr->AH->Prop
  | .normal,f,A | .ret,f,A=>∃ Ds:List Nat,f.ds=Ds.map mark/\Ds.Nodup/\(∀ D ∈ Ds,A.get D=some (.obj true (.deferred (some [])))) /\
      ∃ vs,∀ A',A'.wf->A'.n=A.n->(∀ b o,b ∉ Ds->A.get b=some o->A'.get b=some o)->gB P f.e A' rs=some vs/\Q (.returned (dX vs)) A'
  | _,_,_=>False

theorem gt.enterM {g:FuncId} {fn:Func} {c:Code} {args:List Value} {Qe:Ending->AH->Prop} (he:fx P g) (hf:P.funcs[g]? = some fn) (hb:fn.body=some c) (hn:args.length<=fn.ntmps)
    (h:A.wf->al P fn.ntmps c (D9 P fn.results.toList Qe) ⟨rZ args 0,[]⟩ A):gt P g args.toArray A Qe:=by
  refine ⟨he,fun w hw=>callsIn_wide.1 (callsIn_of_wp_marks (F:=Fence.wide) (n:=0) hf hb trivial ?_)⟩
  have ha:cU fn.ntmps ⟨rZ args 0,[]⟩ { tmps:=args.toArray ++ Array.replicate (fn.ntmps - args.toArray.size) undef,defers:=[] }:=by
    refine ⟨by simp;omega,fun t v q=>?_,Z⟩
    obtain ⟨_,h2⟩:=vp args 0 t v q
    simp only [Nat.sub_zero] at h2
    have hlt:t < args.length:=(List.getElem?_eq_some_iff.1 h2).1
    refine ⟨?_,by omega⟩
    simp only [Array.getD_eq_getD_getElem?]
    rw [Array.getElem?_append_left (by simpa using hlt)]
    simp [h2]
  have leave:∀ (Ds:List Nat) (B:AH) (f:Fr) (a:Act) (w':World) (vs:List Value),(∀ t v,cu f.e t=some v->a.tmps.getD t undef=v/\t < fn.ntmps)->a.tmps.size=fn.ntmps->co B w'->eH A w B w'->Ds.Nodup->(∀ D ∈ Ds,B.get D=some (.obj true (.deferred (some [])))) ->
      (∀ A',A'.wf->A'.n=B.n->(∀ b o,b ∉ Ds->B.get b=some o->A'.get b=some o)->gB P f.e A' fn.results.toList=some vs/\Qe (.returned (dX vs)) A') ->
      LeavesInM Fence.wide 0 P fn a.tmps (fun e w''=>∃ A',co A' w''/\eH A w A' w''/\Qe e A') (Ds.map mark) .returning w':=by
    intro Ds
    induction Ds with
    | nil =>
      intro B f a w' vs hsl hsz hv hs _ _ hq
      obtain ⟨r1,r2⟩:=hq B hv.wf Z (fun _ _ _ h=>h)
      have:=jm (nt:=fn.ntmps) (f:=⟨f.e,a.defers⟩) (a:=a) ⟨hsz,hsl,rfl⟩ hv r1
      exact ⟨_,this,B,hv,hs,r2⟩
    | cons D Ds ih =>
      intro B f a w' vs hsl hsz hv hs hnd hD hq
      have gD:=hD D List.mem_cons_self
      obtain ⟨q1,_⟩:=hv.obj gD
      obtain ⟨v1,s1⟩:=md P (y:=.deferred none) hv gD (fun _ _ _ q=>by cases q)
      refine ⟨by simp,.inl ⟨D,_,Z,run_takeDeferred q1,?_⟩⟩
      have hnd':=List.nodup_cons.1 hnd
      refine ih _ f a _ vs hsl hsz v1 (hs.trans s1) hnd'.2 (fun E hE=>?_) (fun A' wf' hn' hk'=>?_)
      · rw [AH.set_get_ne _ _ (by rintro rfl;exact hnd'.1 hE)];exact hD E (List.mem_cons_of_mem _ hE)
      · exact hq A' wf' hn' fun b o hb hgb=>hk' b o (fun q=>hb (List.mem_cons_of_mem _ q)) (by rw [AH.set_get_ne _ _ (by rintro rfl;exact hb List.mem_cons_self)];exact hgb)
  refine wpIn_mono (al.into (h hw.wf) _ w ha hw) ?_
  rintro x a' w' ⟨f',A',h1,h2,h3,h4,h5⟩
  cases x <;> simp only [D9] at h4 <;> (try exact h4.elim)
  case normal=>obtain ⟨Ds,e1,e2,e3,vs,e4⟩:=h4;simp only [bodyPostM];rw [h1.ds,e1];exact leave Ds A' f' a' w' vs h1.slot h1.size h2 h3 e2 e3 e4
  case ret=>obtain ⟨Ds,e1,e2,e3,vs,e4⟩:=h4;simp only [bodyPostM];rw [h1.ds,e1];exact leave Ds A' f' a' w' vs h1.slot h1.size h2 h3 e2 e3 e4
theorem enterM {g:FuncId} {fn:Func} {c:Code} {rs:Array ResultVar} {nt:Nat} {args:List Value} {a:Array Value} {e:gI} {A:AH} {R:Value->AH->Prop} (he:fx P g) (hf:P.funcs[g]? = some fn) (hb:fn.body=some c)
    (hr:fn.results=rs) (hnt:fn.ntmps=nt) (ha:args.toArray=a) (hn:Nat.ble args.length nt=true) (hE:rZ args 0=e) (h:A.wf->al P nt c (D9 P rs.toList fun en A'=>∃ v,en=.returned v/\R v A') ⟨e,[]⟩ A):bz P g a A R:=by
  subst hr;subst hnt;subst ha;subst hE
  exact gt.enterM he hf hb (Nat.le_of_ble_eq_true hn) h
theorem al.loopD {c:Code} {X:Type} (E:X->gI) (D:X->List Deferred) (I:X->AH->Prop) (μ:X->Nat) (x₀:X) (hE:am (E x₀) e) (hD:D x₀=ds) (h₀:I x₀ A)
    (round:∀ x B,I x B->al P nt c (rq (fun f B'=>∃ y,am (E y) f.e/\f.ds=D y/\I y B'/\μ y < μ x) Q) ⟨E x,D x⟩ B) :
    al P nt (.loop c) Q ⟨e,ds⟩ A:=by
  subst hD
  intro a w ha hw b k cs
  have run:∀ m a w₁,(∃ x B,μ x=m/\I x B/\cU nt ⟨E x,D x⟩ a/\co B w₁/\eH A w B w₁) ->
      ∃ e a' w',lr nt Q A w e a' w'/\Arrives P (lone (b.at a (.code c :: .inLoop c :: k)) cs w₁) b k cs e a' w':=by
    intro m
    induction m using Nat.strongRecOn with
    | _ m ih =>
      rintro a w₁ ⟨x,B,hm,hI,ha₁,hw₁,hs₁⟩
      obtain ⟨e,a₂,w₂,⟨f',A',h1,h2,h3,h4,h5⟩,harr⟩:=round x B hI a w₁ ha₁ hw₁ b (.inLoop c :: k) cs
      cases e with
      | normal =>
        obtain ⟨y,g1,g2,g3,g4⟩:=h4
        obtain ⟨fe,fds⟩:=f'
        simp only at g1 g2
        subst g2
        obtain ⟨e₂,a₃,w₃,hq,harr₂⟩:=ih (μ y) (hm ▸ g4) a₂ w₂ ⟨y,A',rfl,g3,h1.le g1,h2,hs₁.trans h3⟩
        exact ⟨e₂,a₃,w₃,hq,.of_steps (Steps.trans harr (.one step_inLoop)) harr₂⟩
      | exit id=>exact ⟨_,a₂,w₂,⟨f',A',h1,h2,hs₁.trans h3,h4,h5⟩,.pass (x:=.inLoop c) Z (fun _ _=>.inl (by simp)) harr⟩
      | goto l=>exact ⟨_,a₂,w₂,⟨f',A',h1,h2,hs₁.trans h3,h4,h5⟩,.pass (x:=.inLoop c) Z (fun _ _=>.inl (by simp)) harr⟩
      | ret=>exact ⟨_,a₂,w₂,⟨f',A',h1,h2,hs₁.trans h3,h4,h5⟩,.pass (x:=.inLoop c) Z (fun _ _=>.inl (by simp)) harr⟩
      | panic ch=>exact ⟨_,a₂,w₂,⟨f',A',h1,h2,hs₁.trans h3,h4,h5⟩,.pass (x:=.inLoop c) Z (fun _ _=>.inl (by simp)) harr⟩
      | outgrown=>exact ⟨_,a₂,w₂,⟨f',A',h1,h2,hs₁.trans h3,h4,h5⟩,.pass (x:=.inLoop c) Z (fun _ _=>.inl (by simp)) harr⟩
  obtain ⟨e,a',w',hq,harr⟩:=run _ a w ⟨x₀,A,rfl,h₀,ha.le hE,hw,.refl _ _⟩
  exact ⟨e,a',w',hq,.of_steps (.one step_loop) harr⟩
end
end V
end Go.Proofs.YtjppkekmddjcfaaGreatDoor

namespace Go.Proofs.YtjppkekmddjcfaaGreatDoor
open Go Go.RowKit
namespace V

def AH.hide (A:AH) (bs:List (Option Nat)):AH:=⟨A.n,fun k=>if some k ∈ bs then none else A.get k⟩
section
variable {A B C A0 A1:AH} {bs:List (Option Nat)} {b k n:Nat} {o:fG} {v u:Value} {size:Nat} {xs ys:List Value}
theorem cn (h:some b ∈ bs):(A.hide bs).get b=none:=if_pos h
theorem bN (h:A.get k=some o) (hk:some k ∉ bs):(A.hide bs).get k=some o:=by
  show (if some k ∈ bs then none else A.get k)=some o
  rw [if_neg hk];exact h
theorem cz (A:AH) (bs:List (Option Nat)):(A.hide bs).le A:=⟨Nat.le_refl _,fun b o g=>by
  have g:(if some b ∈ bs then none else A.get b)=some o:=g
  split at g
  · cases g
  · exact g⟩
theorem cg (wf:A.wf):(A.hide bs).wf:=fun b o g=>wf b o ((cz A bs).get b o g)
theorem cd (le:A0.le A) (h:∀ b,some b ∈ bs->A0.get b=none):A0.le (A.hide bs) :=
  ⟨le.n,fun b o g=>bN (le.get b o g) fun q=>by rw [h b q] at g;cases g⟩
theorem m7:some k ∉ ([]:List (Option Nat)):=fun h=>by cases h
theorem rd (h:k ≠ b) (t:some k ∉ bs):some k ∉ some b :: bs:=fun q=>by
  rcases List.mem_cons.1 q with q | q
  · exact h (Option.some.inj q)
  · exact t q
theorem oD (h:blk v ≠ some k) (t:some k ∉ bs):some k ∉ blk v :: bs:=fun q=>by
  rcases List.mem_cons.1 q with q | q
  · exact h q.symm
  · exact t q
theorem px:∀ b,some b ∈ ([]:List (Option Nat))->A0.get b=none:=fun _ h=>by cases h
theorem uD (h:A0.get k=none) (t:∀ b,some b ∈ bs->A0.get b=none):∀ b,some b ∈ some k :: bs->A0.get b=none:=fun b q=>by
  rcases List.mem_cons.1 q with q | q
  · cases q;exact h
  · exact t b q
theorem s8 (h:∀ b,blk v=some b->A0.get b=none) (t:∀ b,some b ∈ bs->A0.get b=none):∀ b,some b ∈ blk v :: bs->A0.get b=none:=fun b q=>by
  rcases List.mem_cons.1 q with q | q
  · exact h b q.symm
  · exact t b q
def bn (v u:Value):Prop:=∀ c,blk v=some c->blk u ≠ some c
theorem bn.symm (h:bn v u):bn u v:=fun c hu hv=>h c hv hu
theorem bn.nil:bn (.slice none 0 0) u:=fun c h=>by cases h
theorem Fresh.hide (h:Fresh A0 A v size xs) (hb:blk v ∈ bs):Fresh (A.hide bs) A v size xs:=⟨h.own,fun b q=>cn (by rw [<- q];exact hb)⟩
def LR (u:Value) (bs:List (Option Nat)):Prop:=∀ c,blk u=some c->some c ∉ bs
theorem kr:LR u []:=fun _ _=>m7
theorem ks (h:blk u ≠ some b) (t:LR u bs):LR u (some b :: bs):=fun c hc=>rd (fun q=>h (q ▸ hc)) (t c hc)
theorem jF (h:bn v u) (t:LR u bs):LR u (blk v :: bs):=fun c hc=>oD (fun q=>h c q hc) (t c hc)
theorem pu.blkget (h:pu A v size xs) (hb:blk v=some b):∃ o,A.get b=some o:=by
  rcases h with ⟨rfl,_⟩ | ⟨b',n,k,r,rcap,rfl,h2,_⟩
  · cases hb
  · cases hb;exact ⟨_,h2⟩
theorem pu.off (h:pu A u size xs) (o:LR u bs) (le:(A.hide bs).le B):pu B u size xs:=by
  rcases h with h | ⟨b',n,k,r,rcap,rfl,h2,h3⟩
  · exact .inl h
  · exact .inr ⟨b',n,k,r,rcap,Z,le.get _ _ (bN h2 (o b' Z)),h3⟩
theorem Fresh.off (h:Fresh A0 A u size xs) (o:LR u bs) (le:(A.hide bs).le B):Fresh A0 B u size xs:=⟨h.own.off o le,h.lo⟩
theorem Fresh.sep {s2:Nat} (h:Fresh (A.hide bs) B v size xs) (hu:pu A u s2 ys) (o:LR u bs):bn v u:=fun c hv hc=>by
  obtain ⟨x,hx⟩:=hu.blkget hc
  have:=h.lo c hv
  rw [bN hx (o c hc)] at this;cases this
theorem pu.appd {s2:Nat} {v':Value} {zs:List Value} (h:pu A u size xs) (ap:mW A v s2 zs v' A1) (hs:bn v u):pu A1 u size xs:=by
  rcases h with h | ⟨b',n,k,r,rcap,rfl,h2,h3⟩
  · exact .inl h
  · exact .inr ⟨b',n,k,r,rcap,Z,ap.get _ _ h2 (fun q=>hs b' q Z),h3⟩
theorem Fresh.appd {s2:Nat} {v':Value} {zs:List Value} (h:Fresh A0 A u size xs) (ap:mW A v s2 zs v' A1) (hs:bn v u):Fresh A0 A1 u size xs:=⟨h.own.appd ap hs,h.lo⟩
theorem bn.appd {s2:Nat} {v':Value} {zs:List Value} (h:bn v u) (hu:pu A u size xs) (wf:A.wf) (ap:mW A v s2 zs v' A1):bn v' u:=fun c hc hq=>by
  rcases ap.blk c hc with q | q
  · exact h c q hq
  · obtain ⟨o,ho⟩:=hu.blkget hq
    have:=wf _ _ ho;omega
theorem bn.of_new (h:pu A u size xs) (wf:A.wf) (hb:A.n<=b) {n c:Nat}:bn (.slice (some ⟨b,0,none⟩) n c) u:=fun k hk hq=>by
  cases hk
  obtain ⟨o,ho⟩:=h.blkget hq
  have:b < A.n:=wf _ _ ho
  omega
theorem Fresh.seph (h:Fresh A0 A v size xs) (g:A0.get b=some o):blk v ≠ some b:=fun q=>by rw [h.lo b q] at g;cases g
theorem Fresh.setc {A0 A A1:AH} {b n c i size:Nat} {xs:List Value} {r:List Value} {rcap:Nat} {w:Value} (h:Fresh A0 A (.slice (some ⟨b,0,none⟩) n c) size xs) (g:A.get b=some (.row true r rcap)) (sb:uy A A1 b (.row true (r.set i w) rcap)) :
    Fresh A0 A1 (.slice (some ⟨b,0,none⟩) n c) size (xs.set i w):=by
  refine ⟨?_,h.lo⟩
  rcases h.own with ⟨q,_⟩ | ⟨b',n',k,r',rcap',h1,h2,h3,h4,h5,h6⟩
  · cases q
  · cases h1
    rw [g] at h2;cases h2
    refine .inr ⟨b,n,c,r.set i w,rcap,Z,sb.get,by simpa using h3,?_,h5,h6⟩
    rw [List.take_set,h4]
theorem fc {i:Nat} {K:Fr->AH->Prop} {Q:Exit->Fr->AH->Prop} {f:Fr} {A:AH} (h:Q (.exit i) f A):rq K Q (.exit i) f A:=h
theorem eu {i:Nat} {Q:Exit->Fr->AH->Prop} {f:Fr} {A:AH} (h:Q .normal f A):mZ i Q (.exit i) f A:=by show (if i=i then _ else _);rw [if_pos Z];exact h
theorem dY {i j:Nat} {Q:Exit->Fr->AH->Prop} {f:Fr} {A:AH} (hne:j ≠ i) (h:Q (.exit j) f A):mZ i Q (.exit j) f A:=by show (if j=i then _ else _);rw [if_neg hne];exact h
theorem d4 {i:Nat} {Q:Exit->Fr->AH->Prop} {f:Fr} {A:AH} (h:Q (.exit i) f A):zx Q (.exit i) f A:=h
theorem db {Q:Exit->Fr->AH->Prop} {f:Fr} {A:AH} (h:Q .normal f A):zx Q .normal f A:=h
theorem mW.cell {A A1:AH} {s v u:Value} {size:Nat} {xs:List Value} {b off:Nat} (ap:mW A s size xs v A1) (ne:V.blk s ≠ some b) (h:A.cell ⟨b,off,none⟩=some u):A1.cell ⟨b,off,none⟩=some u:=by
  unfold AH.cell at h ⊢
  simp only [Option.isSome_none] at h ⊢
  cases hg:A.get b with
  | none=>rw [hg] at h;cases h
  | some o=>rw [hg] at h;rw [ap.get _ _ hg ne];exact h
def XG:Value->Nat->Nat->Value
  | .slice p n c,size,j=>.slice (if c=j then p else p.map (·.add (j * size))) (n - j) (c - j)
  | v,_,_=>v
theorem bI.lo {A:AH} {size j:Nat} {v:Value} {xs:List Value} (s:bI A size v xs) (h0:0 < size) (hj:j * size<=xs.length):bI A size (XG v size j) (xs.drop (j * size)):=by
  obtain ⟨p,n,c,rfl,h2,h3,h4⟩:=s
  have hjn:j<=n:=by rw [h2] at hj;exact Nat.le_of_mul_le_mul_right hj h0
  refine ⟨_,n - j,c - j,Z,by rw [List.length_drop,h2,Nat.sub_mul],by omega,?_⟩
  rcases h4 with h4 | ⟨b,off,rw,r,rcap,rfl,g2,g3⟩
  · left;omega
  · by_cases q:n=j
    · left;omega
    · right
      refine ⟨b,off + j * size,rw,r,rcap,?_,g2,?_⟩
      · rw [if_neg O]
        simp only [Option.map_some]
        rw [nZ _ _ Z]
      · rw [<- g3,List.drop_take,List.drop_drop,Nat.sub_mul]
theorem Pk {P:Program} {e:gI} {A:AH} {x lo:Operand} {t el:TypeId} {size j:Nat} {v:Value} {xs:List Value} (hu:P.underlying t=some (.slice el)) (hs:da P el=some size) (h:bQ e x=some v) (s:bI A size v xs) (hlo:bQ e lo=some (num (j:Nat))) (h0:0 < size) (hj:j * size<=xs.length) :
    aN P e A (.slice t x (some lo) none none)=some (XG v size j,[]):=by
  obtain ⟨p,n,c,rfl,h2,h3,h4⟩:=s
  have hjn:j<=n:=by rw [h2] at hj;exact Nat.le_of_mul_le_mul_right hj h0
  simp [aN,cj,h,ue,hu,hs,fj,hlo,XG]
  omega
theorem vu (a:List UInt8) (n:Nat):(aq a).drop n=aq (a.drop n):=by simp [aq,List.map_drop]
end
end V
end Go.Proofs.YtjppkekmddjcfaaGreatDoor

namespace Go.Proofs.YtjppkekmddjcfaaGreatDoor
open Go V

def Yx:List UInt8->List UInt8->Nat
  | a :: x,b :: y=>if a=b then Yx x y + 1 else 0
  | _,_=>0
def lf (p:Nat->Bool) (b:Nat):Nat:=((List.range b).find? fun n=>!p n).getD b
def bJ:List UInt8:=[97,65,98,66,99,67,100,68,101,69,102,70,103,71,104,72]
def ix (c:UInt8):Int:=match bJ.findIdx? (· == c) with | some i=>i | none=>-1
theorem NR {c:UInt8} {k:Nat} (hk:k < 16) (h:∀ j,j < k->bJ.getD j 0 ≠ c) (e:bJ.getD k 0=c):ix c=k:=by
  have:bJ.findIdx? (· == c)=some k:=by
    rw [List.findIdx?_eq_some_iff_getElem]
    refine ⟨hk,?_,fun j hj=>?_⟩
    · have:=e;simp [List.getD_eq_getElem?_getD,hk,bJ] at this ⊢;exact this
    · have:=h j hj
      have hj':j < bJ.length:=Nat.lt_trans hj hk
      rw [List.getD_eq_getElem?_getD,List.getElem?_eq_getElem hj',Option.getD_some] at this
      simpa using this
  simp [ix,this]
theorem SC {c:UInt8} (h:∀ j,j < 16->bJ.getD j 0 ≠ c):ix c = -1:=by
  have:bJ.findIdx? (· == c)=none:=by
    rw [List.findIdx?_eq_none_iff]
    intro x hx
    obtain ⟨j,hj,rfl⟩:=List.getElem_of_mem hx
    have:=h j hj
    rw [List.getD_eq_getElem?_getD,List.getElem?_eq_getElem hj,Option.getD_some] at this
    simpa using this
  simp [ix,this]
theorem gR {p:UInt8->Prop} (h:∀ n:Fin 256,p (UInt8.ofNat n.1)) (c:UInt8):p c:=by
  have:=h ⟨c.toNat,c.toNat_lt⟩
  simpa using this
theorem XE (a b:Int):decide (b<=a) = !decide (a < b):=by rw [<- decide_not];simp
theorem ED (r:Nat) (h:r<=127):decide (127 < r)=false:=by simp;omega
theorem Xu {c:UInt8} (h:¬ c < 128):128<=c.toNat:=by rw [UInt8.lt_iff_toNat_lt] at h;simpa using h
theorem Wx:∀ c:UInt8,-1<=ix c/\ix c < 16:=gR (by decide +kernel)
theorem NP:∀ c:UInt8,0<=ix c->c.toNat<=127:=gR (by decide +kernel)
theorem IE:∀ c:UInt8,0<=ix c->0<=ix (c ^^^ 32):=gR (by decide +kernel)
theorem ji (c:UInt8):c ^^^ 32 ^^^ 32=c:=by rw [UInt8.xor_assoc];simp
def e8 (k:Int) (c:UInt8):Bool:=decide (0<=ix c) && decide (ix c < 2 * k)
def inv (w:List UInt8):List UInt8:=(w.map (· ^^^ 32)).reverse
def push (s:List UInt8) (c:UInt8):List UInt8:=if 0 < s.length/\s.getD (s.length - 1) 0=c ^^^ 32 then s.take (s.length - 1) else s ++ [c]
def mg (w:List UInt8):List UInt8:=w.foldl push []
def bq (k:Int) (w:List UInt8):Nat:=if k < 1\/8 < k then 1 else if 100000 < w.length then 2 else if w.all (e8 k) then 0 else 4
def qF (w:List UInt8):Bool:=decide (w.length<=100000) && w.all (e8 8)
theorem Uw (w:List UInt8):bq 8 w=0 ↔ qF w=true:=by
  simp only [bq,qF,Bool.and_eq_true,decide_eq_true_eq]
  rw [if_neg O]
  split
  · simp;omega
  · split <;> rename_i h <;> simp [h] <;> omega
theorem CD (s:List UInt8) (c:UInt8):(push s c).length<=s.length + 1:=by
  unfold push;split <;> simp <;> omega
theorem em:∀ (w s:List UInt8),(w.foldl push s).length<=s.length + w.length
  | [],s=>by simp
  | c :: w,s=>by
    have:=em w (push s c);have:=CD s c
    simp only [List.foldl_cons,List.length_cons];omega
theorem Fz (w:List UInt8):(mg w).length<=w.length:=by have:=em w [];simpa [mg] using this
theorem fA (w:List UInt8):(inv w).length=w.length:=by simp [inv]
theorem lj {w:List UInt8} {i:Nat} (h:i < w.length):w.drop i=w.getD i 0 :: w.drop (i + 1):=by
  rw [List.drop_eq_getElem_cons h];simp [h]
theorem vI {l:List (List UInt8)} {i:Nat} (h:i < l.length):l.drop i=l.getD i [] :: l.drop (i + 1):=by
  rw [List.drop_eq_getElem_cons h];simp [h]
def UW (r:List UInt8):Nat:=lf (fun n=>decide (2 * n + 2<=r.length/\r.getD n 0=r.getD (r.length - 1 - n) 0 ^^^ 32)) r.length
def XD (w:List UInt8):List UInt8:=((mg w).take ((mg w).length - UW (mg w))).drop (UW (mg w))
def conj (w:List UInt8):List UInt8:=(mg w).take (UW (mg w))
def ip:List UInt8->List UInt8->Int
  | a :: x,b :: y=>if ix a < ix b then -1 else if ix b < ix a then 1 else ip x y
  | _,_=>0
def fy (u v:List UInt8):Int:=if u.length ≠ v.length then (if u.length < v.length then -1 else 1) else ip u v
def ed (w:List UInt8):List UInt8:=if qF w then inv w else []
def cJ (w:List UInt8):List UInt8:=if qF w then mg w else []
def UQ (w:List UInt8):List UInt8:=if qF w then XD w else []
def dy (u v:List UInt8):Int:=if qF u/\qF v then fy u v else 0
def Ru (q:Nat->Bool) (s:List UInt8):Int:=match s.findIdx? (fun c=>q c.toNat) with | some i=>i | none=>-1
theorem xU {q:Nat->Bool} {s:List UInt8} {k:Nat} (hk:k < s.length) (h:∀ j,j < k->q (s.getD j 0).toNat=false) (e:q (s.getD k 0).toNat=true):Ru q s=k:=by
  have:s.findIdx? (fun c=>q c.toNat)=some k:=by
    rw [List.findIdx?_eq_some_iff_getElem]
    refine ⟨hk,by simpa [hk] using e,fun j hj=>?_⟩
    have:=h j hj
    have hj':j < s.length:=Nat.lt_trans hj hk
    simpa [hj'] using this
  simp [Ru,this]
theorem Ny {q:Nat->Bool} {s:List UInt8} (h:∀ j,j < s.length->q (s.getD j 0).toNat=false):Ru q s = -1:=by
  have:s.findIdx? (fun c=>q c.toNat)=none:=by
    rw [List.findIdx?_eq_none_iff]
    intro x hx
    obtain ⟨j,hj,rfl⟩:=List.getElem_of_mem hx
    have:=h j hj
    simpa [hj] using this
  simp [Ru,this]
theorem Su (q:Nat->Bool) (s:List UInt8):decide (0<=Ru q s)=s.any (fun c=>q c.toNat):=by
  unfold Ru
  cases h:s.findIdx? (fun c=>q c.toNat) with
  | none =>
    rw [List.findIdx?_eq_none_iff] at h
    rw [List.any_eq_false.2 (by simpa using h)];rfl
  | some i =>
    rw [List.findIdx?_eq_some_iff_getElem] at h
    obtain ⟨hi,e,_⟩:=h
    rw [List.any_eq_true.2 ⟨_,List.getElem_mem hi,e⟩];simp
theorem uj (k:Int) (w:List UInt8):0<=Ru (fun r=>decide (127 < r) || !e8 k (UInt8.ofNat r)) w ↔ w.all (e8 k)=false:=by
  have h:=Su (fun r=>decide (127 < r) || !e8 k (UInt8.ofNat r)) w
  have e:(w.any fun c=>decide (127 < c.toNat) || !e8 k (UInt8.ofNat c.toNat)) = !w.all (e8 k):=by
    rw [List.not_all_eq_any_not]
    congr 1
    funext c
    rw [UInt8.ofNat_toNat]
    by_cases q:e8 k c=true
    · have:0<=ix c:=by simp [e8] at q;exact q.1
      have:=NP c this
      simp [q];omega
    · simp [q]
  rw [e] at h
  constructor
  · intro q;rw [decide_eq_true q] at h;simpa using h
  · intro q;rw [q] at h;simpa using h
theorem DE (w:List UInt8):decide (bq 8 w=0)=qF w:=by
  rw [Bool.eq_iff_iff,decide_eq_true_iff];exact Uw w
theorem va {w o R:List UInt8} {i:Nat} (hi:i < w.length) (h:(w.drop i).foldl push o=R) (hc:0 < o.length/\o.getD (o.length - 1) 0=w.getD i 0 ^^^ 32):(w.drop (i + 1)).foldl push (o.take (o.length - 1))=R:=by
  rw [lj hi,List.foldl_cons,push,if_pos hc] at h;exact h
theorem vb {w o R:List UInt8} {i:Nat} (hi:i < w.length) (h:(w.drop i).foldl push o=R) (hc:¬ (0 < o.length/\o.getD (o.length - 1) 0=w.getD i 0 ^^^ 32)):(w.drop (i + 1)).foldl push (o ++ [w.getD i 0])=R:=by
  rw [lj hi,List.foldl_cons,push,if_neg hc] at h;exact h
theorem pK {w:List UInt8} {i:Nat} (h:w.length<=i):w.drop i=[]:=List.drop_eq_nil_of_le h
theorem qC {α:Type} {w:List α} {i:Nat} (h:w.length<=i):w.drop i=[]:=List.drop_eq_nil_of_le h
theorem tV {l:List (List UInt8)} {k:Nat} {o o2 R:List UInt8} (hk:k < l.length) (h:(l.drop k).flatten.foldl push o=R) (h2:(l.getD k []).foldl push o=o2):(l.drop (k + 1)).flatten.foldl push o2=R:=by
  rw [vI hk,List.flatten_cons,List.foldl_append,h2] at h;exact h
theorem JP {l:List (List UInt8)} {k:Nat} (hk:k < l.length):(l.drop k).flatten.length=(l.getD k []).length + (l.drop (k + 1)).flatten.length:=by
  rw [vI hk,List.flatten_cons,List.length_append]
def j5 (w:List UInt8) (k:Nat):List UInt8:=List.replicate (w.length - k) 0 ++ ((w.take k).map (· ^^^ 32)).reverse
theorem ut (w:List UInt8):List.replicate w.length 0=j5 w 0:=by simp [j5]
theorem wt (w:List UInt8) {k:Nat} (h:w.length<=k):j5 w k=inv w:=by
  simp [j5,inv,List.take_of_length_le h,Nat.sub_eq_zero_of_le h]
theorem rl (w:List UInt8) {k:Nat} (h:k<=w.length):(j5 w k).length=w.length:=by simp [j5];omega
theorem wu (w:List UInt8) {k:Nat} (h:k < w.length):(j5 w k).set (w.length - 1 - k) (w.getD k 0 ^^^ 32)=j5 w (k + 1):=by
  have e:List.replicate (w.length - k) (0:UInt8)=List.replicate (w.length - 1 - k) 0 ++ [0]:=by
    rw [show w.length - k=(w.length - 1 - k) + 1 by omega,List.replicate_succ']
  have t:w.take (k + 1)=w.take k ++ [w.getD k 0]:=by
    rw [List.take_add_one,List.getElem?_eq_getElem h];simp [h]
  unfold j5
  rw [e,List.append_assoc,t,List.map_append,List.reverse_append,show w.length - (k + 1)=w.length - 1 - k by omega]
  rw [List.set_append_right (w.length - 1 - k) _ (by simp)]
  simp
theorem eW {u v:List UInt8} {k:Nat} (hu:k < u.length) (hv:k < v.length):ip (u.drop k) (v.drop k)=if ix (u.getD k 0) < ix (v.getD k 0) then -1 else if ix (v.getD k 0) < ix (u.getD k 0) then 1 else ip (u.drop (k + 1)) (v.drop (k + 1)):=by
  rw [lj hu,lj hv,ip]
theorem np {u v:List UInt8} {k:Nat} (hu:u.length<=k):ip (u.drop k) (v.drop k)=0:=by
  rw [pK hu];rfl
theorem Ie {u v:List UInt8} (h:¬ ¬ u.length=v.length):fy u v=ip u v:=by unfold fy;rw [if_neg h]
def BJ {α:Type} (q:α->Bool) (l:List α):Int:=match l.findIdx? q with | some i=>i | none=>-1
theorem xW {α:Type} {q:α->Bool} {l:List α} {k:Nat} {d:α} (hk:k < l.length) (h:∀ j,j < k->q (l.getD j d)=false) (e:q (l.getD k d)=true):BJ q l=k:=by
  have:l.findIdx? q=some k:=by
    rw [List.findIdx?_eq_some_iff_getElem]
    refine ⟨hk,by simpa [hk] using e,fun j hj=>?_⟩
    have:=h j hj
    have hj':j < l.length:=Nat.lt_trans hj hk
    simpa [hj'] using this
  simp [BJ,this]
theorem BK {α:Type} {q:α->Bool} {l:List α} {d:α} (h:∀ j,j < l.length->q (l.getD j d)=false):BJ q l = -1:=by
  have:l.findIdx? q=none:=by
    rw [List.findIdx?_eq_none_iff]
    intro x hx
    obtain ⟨j,hj,rfl⟩:=List.getElem_of_mem hx
    have:=h j hj
    simpa [hj] using this
  simp [BJ,this]
theorem uZ {α:Type} (q:α->Bool) (l:List α):0<=BJ q l ↔ l.any q=true:=by
  unfold BJ
  cases h:l.findIdx? q with
  | none =>
    rw [List.findIdx?_eq_none_iff] at h
    rw [List.any_eq_false.2 (by simpa using h)];simp
  | some i =>
    rw [List.findIdx?_eq_some_iff_getElem] at h
    obtain ⟨hi,e,_⟩:=h
    rw [List.any_eq_true.2 ⟨_,List.getElem_mem hi,e⟩];simp
theorem bi {α:Type} {l:List α} {k:Nat} {d:α} (h:k < l.length):l.getD k d ∈ l:=by simp [h]
def gT (g:Int) (r:List UInt8):Bool:=decide (r=[]) || !decide (bq g r=0) || !decide (mg r=r)
def cB (g:Int) (l:List (List UInt8)):Nat :=
  if g < 1\/8 < g then 1 else if 60 < l.length\/l.any (fun r=>decide (200 < r.length))=true then 2 else if l.any (gT g)=true then 4 else 0
theorem xQ:∀ c:UInt8,97<=c->c < 105->((2 * (c - 97).toNat:Nat):Int)=ix c:=gR (by decide +kernel)
theorem zj:∀ c:UInt8,65<=c->c < 73->((2 * (c - 65).toNat + 1:Nat):Int)=ix c:=gR (by decide +kernel)
theorem zk:∀ c:UInt8,¬ (97<=c/\c < 105)->¬ (65<=c/\c < 73)->ix c = -1:=gR (by decide +kernel)
def Rx (c:UInt8):Nat:=(ix c).toNat
theorem NU (c:UInt8):Rx c < 16:=by have:=Wx c;unfold Rx;omega
theorem SJ:∀ c:UInt8,0<=ix c->bJ.getD (Rx c) 0=c:=gR (by decide +kernel)
theorem Og:∀ i:Fin 16,i.1 % 2=0->(97:UInt8) + UInt8.ofNat (i.1 / 2)=bJ.getD i.1 0:=by decide +kernel
theorem SK:∀ i:Fin 16,¬ i.1 % 2=0->(65:UInt8) + UInt8.ofNat (i.1 / 2)=bJ.getD i.1 0:=by decide +kernel
theorem Tx {w:List UInt8}:∀ c ∈ mg w,c ∈ w:=by
  have key:∀ (w s:List UInt8),∀ c ∈ w.foldl push s,c ∈ s\/c ∈ w:=by
    intro w
    induction w with
    | nil=>intro s c h;exact .inl h
    | cons a w ih =>
      intro s c h
      rcases ih _ c h with q | q
      · unfold push at q
        split at q
        · exact .inl (List.mem_of_mem_take q)
        · rcases List.mem_append.1 q with q | q
          · exact .inl q
          · exact .inr (by simp at q;simp [q])
      · exact .inr (List.mem_cons_of_mem _ q)
  intro c h
  rcases key w [] c h with q | q
  · cases q
  · exact q
def IL (w:List UInt8):Prop:=∀ c ∈ w,0<=ix c
theorem sD {w:List UInt8} (h:IL w) {k:Nat} (hk:k < w.length):0<=ix (w.getD k 0):=h _ (bi hk)
theorem OL {w:List UInt8} (h:qF w=true):IL w:=fun c hc=>by
  simp only [qF,Bool.and_eq_true,List.all_eq_true] at h
  have:=h.2 c hc
  simp [e8] at this;exact this.1
theorem IM {w:List UInt8} (h:IL w):IL (inv w):=fun c hc=>by
  simp only [inv,List.mem_reverse,List.mem_map] at hc
  obtain ⟨d,hd,rfl⟩:=hc
  exact IE d (h d hd)
theorem BQ {w:List UInt8} {j:Nat} (hj:1<=j) (hw:j<=w.length):((w.drop j).map (· ^^^ 32)).reverse ++ [w.getD (j - 1) 0 ^^^ 32]=((w.drop (j - 1)).map (· ^^^ 32)).reverse:=by
  rw [lj (w:=w) (i:=j - 1) O,show j - 1 + 1=j by omega]
  simp
theorem eR {a:Int} (h:0<=a):some (num a)=some (num ((a.toNat:Nat):Int)):=by rw [Int.toNat_of_nonneg h]
theorem Vh (c:UInt8) (h:0<=ix c):pq .xor .i64 (ix c) 1=some (num ((Rx (c ^^^ 32):Nat):Int)):=by
  have key:∀ k:Fin 16,IntKind.i64.wrap ((BitVec.ofInt 64 (k.1:Int) ^^^ BitVec.ofInt 64 1).toNat:Int)=(k.1 ^^^ 1:Nat):=by decide +kernel
  have h2:∀ c:UInt8,0<=ix c->(Rx c) ^^^ 1=Rx (c ^^^ 32):=gR (by decide +kernel)
  have h3:=key ⟨Rx c,NU c⟩
  have e:ix c=((Rx c:Nat):Int):=by unfold Rx;omega
  rw [<- h2 c h,<- h3,e]
  rfl
theorem w8 {k:Int} {w:List UInt8} {i:Nat} (hk:¬ (k < 1\/8 < k)) (hw:¬ 100000 < w.length) (hi:i < w.length) (h:ix (w.getD i 0) < 0\/2 * k<=ix (w.getD i 0)):bq k w=4:=by
  have:w.all (e8 k)=false:=by
    rw [List.all_eq_false]
    exact ⟨_,bi (d:=0) hi,by intro q;simp only [e8,Bool.and_eq_true,decide_eq_true_eq] at q;omega⟩
  simp [bq,hk,hw,this]
theorem DF {k:Int} {w:List UInt8} {i:Nat} (hk:¬ (k < 1\/8 < k)) (hw:¬ 100000 < w.length) (hi:w.length<=i) (h:∀ j,j < i->0<=ix (w.getD j 0)/\ix (w.getD j 0) < 2 * k):bq k w=0:=by
  have:w.all (e8 k)=true:=by
    rw [List.all_eq_true]
    intro c hc
    obtain ⟨j,hj,rfl⟩:=List.getElem_of_mem hc
    have:=h j O
    simp [hj] at this
    simp [e8];exact this
  simp [bq,hk,hw,this]
def gO (A:AH):Prop:=∃ rw cap,A.get 0=some (.row rw (aq bJ) cap)
theorem gO.le {A B:AH} (h:gO A) (le:A.le B):gO B:=by obtain ⟨r,c,h⟩:=h;exact ⟨r,c,le.get _ _ h⟩
end Go.Proofs.YtjppkekmddjcfaaGreatDoor

namespace Go.Proofs.YtjppkekmddjcfaaGreatDoor
open Go V

theorem SW {l:List (List UInt8)} {i n:Nat} (hi:l.length<=i) (h:∀ j,j < i->(l.getD j []).length<=n):∀ s ∈ l,s.length<=n:=fun s hs=>by
  obtain ⟨j,hj,rfl⟩:=List.getElem_of_mem hs
  have:=h j O
  simpa [hj] using this
theorem Mu {l:List (List UInt8)} (h:∀ s ∈ l,s.length<=200):¬ l.any (fun r=>decide (200 < r.length))=true:=fun q=>by
  obtain ⟨s,hs,e⟩:=List.any_eq_true.1 q
  have:=h s hs;have:=of_decide_eq_true e;omega
theorem Cy {g:Int} {l:List (List UInt8)} {i:Nat} (h:¬ (g < 1\/8 < g)) (h2:¬ 60 < l.length) (h3:∀ s ∈ l,s.length<=200) (hi:l.length<=i) (hb:∀ j,j < i->gT g (l.getD j [])=false):cB g l=0:=by
  rw [cB,if_neg h,if_neg (fun q=>q.elim h2 (Mu h3)),if_neg]
  intro q
  obtain ⟨s,hs,e⟩:=List.any_eq_true.1 q
  obtain ⟨j,hj,rfl⟩:=List.getElem_of_mem hs
  have:=hb j O
  simp [hj,e] at this
theorem NI {g:Int} {r:List UInt8} (hg:g<=8) (h:bq g r=0):qF r=true:=by
  unfold bq at h
  split at h
  · cases h
  · split at h
    · cases h
    · split at h
      · rename_i h1 h2 h3
        simp only [qF,Bool.and_eq_true,decide_eq_true_eq,List.all_eq_true] at h3 ⊢
        refine ⟨by omega,fun c hc=>?_⟩
        have:=h3 c hc
        simp only [e8,Bool.and_eq_true,decide_eq_true_eq] at this ⊢
        omega
      · cases h
theorem wX {w:List UInt8} (h:qF w=true):cJ w=mg w:=by rw [cJ,if_pos h]

theorem ct {g:Int} {l:List (List UInt8)} (h:cB g l=0):(1<=g/\g<=8)/\l.length<=60/\∀ r ∈ l,r.length<=200/\gT g r=false:=by
  unfold cB at h
  split at h
  · cases h
  · split at h
    · cases h
    · split at h
      · cases h
      · rename_i h1 h2 h3
        refine ⟨by omega,by omega,fun r hr=>⟨?_,?_⟩⟩
        · have:¬ l.any (fun r=>decide (200 < r.length))=true:=fun q=>h2 (.inr q)
          rw [Bool.not_eq_true,List.any_eq_false] at this
          have:=this r hr
          simpa using this
        · rw [Bool.not_eq_true,List.any_eq_false] at h3
          have:=h3 r hr
          simpa using this
theorem mp {g:Int} {r:List UInt8} (h:gT g r=false):r ≠ []/\bq g r=0/\mg r=r:=by
  simpa [gT,and_assoc] using h
theorem nh {g:Int} {r:List UInt8} (h:¬ bq g r=0):gT g r=true:=by simp [gT,h]
theorem Ju {g:Int} {r:List UInt8} (h1:¬ r=[]) (h2:¬ ¬ bq g r=0) (hg:g<=8) (h3:¬ ¬ cJ r=r):gT g r=false:=by
  rw [wX (NI hg (Decidable.not_not.1 h2))] at h3
  simp only [gT,decide_eq_false h1,decide_eq_true (Decidable.not_not.1 h2),decide_eq_true (Decidable.not_not.1 h3)];rfl
theorem Gz {x y:List UInt8} (h:(!qF x)=true):dy x y=0:=by rw [dy,if_neg];intro q;rw [q.1] at h;cases h
theorem GA {x y:List UInt8} (h:(!qF y)=true):dy x y=0:=by rw [dy,if_neg];intro q;rw [q.2] at h;cases h
theorem kI {x y:List UInt8} (hx:(!qF x)=false) (hy:(!qF y)=false):dy x y=fy x y:=by
  rw [dy,if_pos ⟨by simpa using hx,by simpa using hy⟩]
def RH (w:List UInt8) (s:List (List UInt8) × Bool) (x:List UInt8):List (List UInt8) × Bool :=
  let c:=dy x w
  let d:=s.2 || decide (c=0)
  if 0 < c/\d=false then (s.1 ++ [w] ++ [x],true) else (s.1 ++ [x],d)
def We (l:List (List UInt8)) (w:List UInt8):List (List UInt8) :=
  let s:=l.foldl (RH w) ([],false)
  if s.2 then s.1 else s.1 ++ [w]
theorem xM {α β:Type} {f:β->α->β} {l:List α} {i:Nat} {d:α} {s s' R:β} (hi:i < l.length) (h:(l.drop i).foldl f s=R) (e:f s (l.getD i d)=s'):(l.drop (i + 1)).foldl f s'=R:=by
  rw [List.drop_eq_getElem_cons hi,List.foldl_cons] at h
  have:l.getD i d=l[i]:=by simp [hi]
  rw [<- e,this];exact h
def Yq (w:List UInt8) (j:Nat):List UInt8:=w.drop j ++ w.take j
def VP (c:List UInt8) (a:List (List UInt8)) (j:Nat):List (List UInt8):=We (We a (Yq c j)) (Yq (ed c) j)
def QI (a:List (List UInt8)) (r:List UInt8):List (List UInt8):=(List.range (UQ r).length).foldl (VP (UQ r)) a
def symm (l:List (List UInt8)):List (List UInt8):=l.foldl QI []
theorem pn (w:List UInt8):(ed w).length<=w.length:=by
  unfold ed;split
  · rw [fA];exact Nat.le_refl _
  · simp
theorem qw (w:List UInt8):(cJ w).length<=w.length:=by
  unfold cJ;split
  · exact Fz w
  · simp
theorem NS:∀ c:UInt8,0<=ix c->(97<=c/\ix c=((2 * (c - 97).toNat:Nat):Int))\/(65<=c/\¬ 97<=c/\ix c=((2 * (c - 65).toNat + 1:Nat):Int)):=gR (by decide +kernel)
theorem Xq:∀ c:UInt8,97<=c->(c - 97).toNat < 8->c < 105:=gR (by decide +kernel)
theorem Xp:∀ c:UInt8,65<=c->(c - 65).toNat < 8->c < 73:=gR (by decide +kernel)
def LS (g:Int) (c:UInt8):Int:=if e8 g c then ix c else -1
theorem JZ {g:Int} {c:UInt8} (hg:1<=g/\g<=8) (h1:97<=c) (h2:(((c - 97).toNat:Nat):Int) < g):((2 * (c - 97).toNat:Nat):Int)=LS g c:=by
  have h:=xQ c h1 (Xq c h1 O)
  rw [LS,if_pos]
  · exact h
  · simp only [e8,Bool.and_eq_true,decide_eq_true_eq];omega
theorem IB {g:Int} {c:UInt8} (hg:1<=g/\g<=8) (h1:65<=c) (h2:(((c - 65).toNat:Nat):Int) < g):((2 * (c - 65).toNat + 1:Nat):Int)=LS g c:=by
  have h:=zj c h1 (Xp c h1 O)
  rw [LS,if_pos]
  · exact h
  · simp only [e8,Bool.and_eq_true,decide_eq_true_eq];omega
theorem zl {g:Int} {c:UInt8} (h1:¬ (97<=c/\(((c - 97).toNat:Nat):Int) < g)) (h2:¬ (65<=c/\(((c - 65).toNat:Nat):Int) < g)):LS g c = -1:=by
  rw [LS,if_neg]
  intro q
  simp only [e8,Bool.and_eq_true,decide_eq_true_eq] at q
  rcases NS c q.1 with ⟨h,e⟩ | ⟨h,_,e⟩
  · exact h1 ⟨h,by omega⟩
  · exact h2 ⟨h,by omega⟩
theorem IC {g:Int} {c:UInt8}:LS g c < 0 ↔ e8 g c=false:=by
  unfold LS
  by_cases h:e8 g c=true
  · rw [if_pos h]
    simp only [e8,Bool.and_eq_true,decide_eq_true_eq] at h
    constructor
    · omega
    · intro q;simp [e8,h] at q
  · rw [if_neg h];simp [Bool.not_eq_true] at h;simp [h]
theorem kJ {g:Int} {w:List UInt8} (hg:1<=g/\g<=8):bq g w=0 ↔ w.length<=100000/\∀ c ∈ w,e8 g c=true:=by
  unfold bq
  rw [if_neg O]
  split
  · constructor
    · intro q;cases q
    · intro q;omega
  · split <;> rename_i h
    · simp only [List.all_eq_true] at h
      exact ⟨fun _=>⟨by omega,h⟩,fun _=>rfl⟩
    · constructor
      · intro q;cases q
      · intro q;exact absurd (List.all_eq_true.2 q.2) h
theorem EO {g:Int} {w:List UInt8} {i:Nat} (hg:1<=g/\g<=8) (hi:i < w.length) (h:LS g (w.getD i 0) < 0):decide (bq g w=0)=false:=by
  rw [decide_eq_false_iff_not,kJ hg]
  intro q
  have:=q.2 _ (bi (d:=0) hi)
  rw [IC] at h;rw [h] at this;cases this
theorem BW {g:Int} {w:List UInt8} {i:Nat} (hg:1<=g/\g<=8) (hi:w.length<=i) (h:∀ j,j < i->¬ LS g (w.getD j 0) < 0):decide (bq g w=0)=decide (w.length<=100000):=by
  rw [decide_eq_decide,kJ hg]
  refine ⟨fun q=>q.1,fun q=>⟨q,fun c hc=>?_⟩⟩
  obtain ⟨j,hj,rfl⟩:=List.getElem_of_mem hc
  have:=h j O
  rw [IC] at this
  simpa [hj] using this

end Go.Proofs.YtjppkekmddjcfaaGreatDoor

namespace Go.Proofs.YtjppkekmddjcfaaGreatDoor
open Go V

structure bK where
  conj:List UInt8
  rel:Int
  inv:Bool
def bK.zero:bK:=⟨[],0,false⟩
def pH (c:bK):List Value:=[bg c.conj,num c.rel,.bool c.inv]
def cE (l:List bK):List Value:=l.flatMap pH
theorem dT (l:List bK):(cE l).length=l.length * 3:=by
  induction l with
  | nil=>rfl
  | cons c l ih=>simp only [cE,List.flatMap_cons,List.length_append,List.length_cons] at ih ⊢;rw [ih];simp [pH];omega
theorem ek (l:List bK):(cE l).length=l.length * 3:=dT l
theorem xq (a b:List bK):cE a ++ cE b=cE (a ++ b):=by simp [cE]
theorem UX (l:List bK):re (cE l)=true:=by
  simp only [re,cE,List.all_eq_true,List.mem_flatMap]
  rintro v ⟨c,_,h⟩
  simp only [pH,List.mem_cons,List.not_mem_nil,or_false] at h
  rcases h with rfl | rfl | rfl <;> rfl
theorem Bf (l:List bK) (i:Nat):(cE l).drop (i * 3)=cE (l.drop i):=by
  induction l generalizing i with
  | nil=>simp [cE]
  | cons c l ih =>
    cases i with
    | zero=>simp
    | succ i =>
      have:(i + 1) * 3=(pH c).length + i * 3:=by simp [pH];omega
      show (pH c ++ cE l).drop ((i + 1) * 3)=_
      rw [this,<- List.drop_drop,List.drop_left]
      exact ih i
theorem jh {l:List bK} {i:Nat} (h:i < l.length):((cE l).drop (i * 3)).take 3=pH (l.getD i .zero):=by
  rw [Bf,List.drop_eq_getElem_cons h]
  have e:l.getD i .zero=l[i]:=by simp [h]
  rw [e]
  show (pH l[i] ++ cE (l.drop (i + 1))).take 3=_
  exact List.take_left' Z
theorem Wv:∀ c:UInt8,0<=ix c->(97<=c->c - 97 + 65=c ^^^ 32)/\(¬ 97<=c->c - 65 + 97=c ^^^ 32):=gR (by decide +kernel)
def JE (l:List (List UInt8)) (c:bK):List UInt8:=if c.inv then inv (l.getD c.rel.toNat []) else l.getD c.rel.toNat []
def jR (l:List (List UInt8)) (c:bK):List UInt8:=c.conj ++ JE l c ++ inv c.conj
def jy (l:List (List UInt8)) (o:List UInt8) (c:bK):List UInt8:=(jR l c).foldl push o
def m0 (l:List (List UInt8)) (d:List bK):List UInt8:=d.foldl (jy l) []
def iB (g:Int) (l:List (List UInt8)) (c:bK):Bool:=decide (0<=c.rel) && decide (c.rel < l.length) && decide (bq g c.conj=0)
def dp (d:List bK):Nat:=(d.map fun c=>c.conj.length).sum
def fB (g:Int) (l:List (List UInt8)) (d:List bK):Bool:=d.all (iB g l) && decide (d.length<=100000) && decide (dp d<=1000000)
def uA (g:Int) (l:List (List UInt8)) (ws:List (List UInt8)) (ds:List (List bK)):Nat :=
  if ¬ cB g l=0 then 40 else if ws.all (fun w=>decide (bq g w=0))=false then 41 else if ds.all (fB g l)=false then 42 else 0
def jc (g:Int) (l:List (List UInt8)) (d:List bK) (w:List UInt8):Nat :=
  if ¬ uA g l [w] [d]=0 then uA g l [w] [d] else if ¬ m0 l d=mg w then 5 else 0
theorem jl {g:Int} {l:List (List UInt8)} {i:Nat} (hi:i < l.length) (h:200 < (l.getD i []).length\/gT g (l.getD i [])=true):¬ cB g l=0:=fun q=>by
  have:=(ct q).2.2 _ (bi (d:=[]) hi)
  rcases h with h | h
  · omega
  · rw [h] at this;cases this.2
theorem rK {g:Int} {l:List (List UInt8)} {i:Nat} (hg:¬ (g < 1\/8 < g)) (hl:¬ 60 < l.length) (hi:l.length<=i) (h:∀ j,j < i->(l.getD j []).length<=200/\gT g (l.getD j [])=false):cB g l=0 :=
  Cy hg hl (SW hi fun j hj=>(h j hj).1) hi fun j hj=>(h j hj).2
theorem ni {g:Int} {r:List UInt8} (h:¬ mg r=r):gT g r=true:=by simp [gT,h]
theorem xH {g:Int} {r:List UInt8} (h1:¬ r.length < 1) (h2:¬ ¬ bq g r=0) (h3:¬ ¬ mg r=r):gT g r=false:=by
  have:r ≠ []:=fun q=>by rw [q] at h1;exact h1 (by simp)
  simp only [gT,decide_eq_false this,decide_eq_true (Decidable.not_not.1 h2),decide_eq_true (Decidable.not_not.1 h3)];rfl
theorem jU {g:Int} {r:List UInt8} (h:r.length < 1):gT g r=true:=by
  have:r=[]:=List.length_eq_zero_iff.1 O
  simp [gT,this]
theorem j0 {g:Int} {w:List UInt8} (h:¬ ¬ bq g w=0):IL w:=by
  have h:=Decidable.not_not.1 h
  unfold bq at h
  split at h
  · cases h
  · split at h
    · cases h
    · split at h
      · rename_i q
        intro c hc
        have:=List.all_eq_true.1 q c hc
        simp only [e8,Bool.and_eq_true,decide_eq_true_eq] at this
        exact this.1
      · cases h
theorem ff {g:Int} {w:List UInt8} (h:bq g w=0):w.length<=100000:=by
  unfold bq at h
  split at h
  · cases h
  · split at h
    · cases h
    · omega
theorem vF {d:List bK} {i:Nat} (h:i < d.length):dp (d.drop i)=(d.getD i .zero).conj.length + dp (d.drop (i + 1)):=by
  have e:d.getD i .zero=d[i]:=by simp [h]
  rw [List.drop_eq_getElem_cons h,e,dp,List.map_cons,List.sum_cons];rfl
theorem Vf {d:List bK} (h:dp d<=100000000):∀ c ∈ d,c.conj.length<=9223372036854775807:=fun c hc=>by
  have:c.conj.length<=dp d:=by
    clear h
    induction d with
    | nil=>cases hc
    | cons a d ih =>
      simp only [dp,List.map_cons,List.sum_cons] at ih ⊢
      rcases List.mem_cons.1 hc with rfl | hc
      · omega
      · have:=ih hc;omega
  omega
theorem jZ {g:Int} {l:List (List UInt8)} {d:List bK} {i:Nat} (hi:i < d.length) (h:iB g l (d.getD i .zero)=false):fB g l d=false:=by
  have:d.all (iB g l)=false:=List.all_eq_false.2 ⟨_,bi (d:=.zero) hi,by rw [h];decide⟩
  simp [fB,this]
theorem tC {g:Int} {l:List (List UInt8)} {d:List bK} {i n:Nat} (hi:d.length<=i) (h:∀ j,j < i->iB g l (d.getD j .zero)=true) (hn:n + dp (d.drop i)=dp d):fB g l d=(decide (d.length<=100000) && decide (n<=1000000)):=by
  have:d.all (iB g l)=true:=List.all_eq_true.2 fun c hc=>by
    obtain ⟨j,hj,rfl⟩:=List.getElem_of_mem hc
    have:=h j O
    simpa [hj] using this
  have e:dp d=n:=by rw [List.drop_eq_nil_of_le hi] at hn;simpa [dp] using hn.symm
  rw [fB,this,Bool.true_and,e]
theorem ny {g:Int} {l:List (List UInt8)} {c:bK} (h:c.rel < 0):iB g l c=false:=by simp [iB,show ¬ 0<=c.rel by omega]
theorem nz {g:Int} {l:List (List UInt8)} {c:bK} (h:(l.length:Int)<=c.rel):iB g l c=false:=by simp [iB,show ¬ c.rel < l.length by omega]
theorem nA {g:Int} {l:List (List UInt8)} {c:bK} (h:¬ bq g c.conj=0):iB g l c=false:=by simp [iB,h]
theorem tL {g:Int} {l:List (List UInt8)} {c:bK} (h1:¬ c.rel < 0) (h2:¬ (l.length:Int)<=c.rel) (h3:¬ ¬ bq g c.conj=0):iB g l c=true:=by
  simp [iB,Decidable.not_not.1 h3];omega
theorem pN {g:Int} {l:List (List UInt8)} {d:List bK} (h:fB g l d=true):∀ c ∈ d,(0<=c.rel/\c.rel < l.length)/\bq g c.conj=0:=fun c hc=>by
  simp only [fB,Bool.and_eq_true,List.all_eq_true] at h
  have:=h.1.1 c hc
  simpa [iB] using this
theorem rz {g:Int} {l:List (List UInt8)} {d:List bK} (h:fB g l d=true):d.length<=100000/\dp d<=1000000:=by
  simp only [fB,Bool.and_eq_true,decide_eq_true_eq] at h
  exact ⟨h.1.2,h.2⟩
theorem JV (w:List UInt8):inv (inv w)=w:=by
  simp only [inv,List.map_reverse,List.reverse_reverse,List.map_map]
  have:((fun x:UInt8=>x ^^^ 32) ∘ fun x=>x ^^^ 32)=id:=funext fun x=>ji x
  rw [this,List.map_id]
theorem Bg {l:List bK} {i k:Nat} (h:i < l.length) (hk:k < 3):(cE l)[i * 3 + k]? = (pH (l.getD i .zero))[k]?:=by
  rw [<- jh h,List.getElem?_take_of_lt hk,List.getElem?_drop]
theorem JH {l:List bK} {i:Nat} (h:i < l.length):(cE l)[i * 3 + 0]? = some (bg (l.getD i .zero).conj):=Bg h O
theorem zJ {g:Int} {l:List (List UInt8)} {r:Int} (hp:cB g l=0) (h:0<=r/\r < l.length):IL (l.getD r.toNat [])/\(l.getD r.toNat []).length<=200:=by
  have hm:l.getD r.toNat [] ∈ l:=bi O
  have:=(ct hp).2.2 _ hm
  exact ⟨j0 (fun q=>q (mp this.2).2.1),this.1⟩
theorem My {l:List (List UInt8)} {o:List UInt8} {c:bK}:(inv c.conj).foldl push ((if c.inv then inv (l.getD c.rel.toNat []) else l.getD c.rel.toNat []).foldl push (c.conj.foldl push o))=jy l o c:=by
  simp only [jy,jR,JE,List.foldl_append]
theorem GX {l:List (List UInt8)} {o:List UInt8} {c:bK} (hc:c.conj.length<=100000) (hr:(l.getD c.rel.toNat []).length<=200):(jy l o c).length<=o.length + 200200:=by
  have h1:=em (jR l c) o
  have h2:(JE l c).length<=200:=by unfold JE;split <;> simp [fA] <;> exact hr
  unfold jy
  simp only [jR,List.length_append,fA] at h1 h2
  simp only [jR]
  omega
def LI (l:List Value):List Value:=l
theorem ux (l:List Value):(LI l).length=l.length:=rfl
theorem DA (l:List Value):(LI l).length=l.length * 1:=(Nat.mul_one _).symm
theorem Dy {l:List Value} {i:Nat} (h:i < l.length):(LI l)[i]? = some (l.getD i undef):=by simp [LI,h]
theorem IP {v:Value} {k:Nat} (h:k < 1):[v].getD k undef=v:=by rw [show k=0 by omega];rfl
theorem vy {g:Int} {l ws:List (List UInt8)} {ds:List (List bK)} (h:¬ cB g l=0):uA g l ws ds=40:=by rw [uA,if_pos h]
theorem vz {g:Int} {l ws:List (List UInt8)} {ds:List (List bK)} {i:Nat} (h:¬ ¬ cB g l=0) (hi:i < ws.length) (hw:¬ bq g (ws.getD i [])=0):uA g l ws ds=41:=by
  rw [uA,if_neg h,if_pos]
  exact List.all_eq_false.2 ⟨_,bi (d:=[]) hi,by rw [decide_eq_false hw];decide⟩
theorem Mp {g:Int} {ws:List (List UInt8)} {i:Nat} (hi:ws.length<=i) (h:∀ j,j < i->bq g (ws.getD j [])=0):¬ ws.all (fun w=>decide (bq g w=0))=false:=by
  rw [Bool.not_eq_false,List.all_eq_true]
  intro w hw
  obtain ⟨j,hj,rfl⟩:=List.getElem_of_mem hw
  have:=h j O
  simpa [hj] using this
theorem MF {g:Int} {l ws:List (List UInt8)} {d:List bK} {i:Nat} (h:¬ ¬ cB g l=0) (hi:ws.length<=i) (hw:∀ j,j < i->bq g (ws.getD j [])=0) (hd:fB g l d=false):uA g l ws [d]=42:=by
  rw [uA,if_neg h,if_neg (Mp hi hw),if_pos (by simp [hd])]
theorem UK {g:Int} {l ws:List (List UInt8)} {d:List bK} {i:Nat} (h:¬ ¬ cB g l=0) (hi:ws.length<=i) (hw:∀ j,j < i->bq g (ws.getD j [])=0) (hd:fB g l d=true):uA g l ws [d]=0:=by
  rw [uA,if_neg h,if_neg (Mp hi hw),if_neg (by simp [hd])]
theorem jz {g:Int} {l ws:List (List UInt8)} {d:List bK} (h:¬ ¬ uA g l ws [d]=0):cB g l=0/\(∀ w ∈ ws,bq g w=0)/\fB g l d=true:=by
  have h:=Decidable.not_not.1 h
  unfold uA at h
  split at h
  · cases h
  · rename_i h1
    split at h
    · cases h
    · rename_i h2
      split at h
      · cases h
      · rename_i h3
        refine ⟨Decidable.not_not.1 h1,?_,by simpa using h3⟩
        rw [Bool.not_eq_false,List.all_eq_true] at h2
        intro w hw;simpa using h2 w hw
structure pz where
  kind:Int
  at_:Int
  letter:Int
  rel:Int
  shift:Int
  inv:Bool
def pz.zero:pz:=⟨0,0,0,0,0,false⟩
def sw (c:pz):List Value:=[num c.kind,num c.at_,num c.letter,num c.rel,num c.shift,.bool c.inv]
def lN (l:List pz):List Value:=l.flatMap sw
theorem rj (l:List pz):(lN l).length=l.length * 6:=by
  induction l with
  | nil=>rfl
  | cons c l ih=>simp only [lN,List.flatMap_cons,List.length_append,List.length_cons] at ih ⊢;rw [ih];simp [sw];omega
theorem rG (l:List pz):(lN l).length=l.length * 6:=rj l
theorem Ce (l:List pz) (i:Nat):(lN l).drop (i * 6)=lN (l.drop i):=by
  induction l generalizing i with
  | nil=>simp [lN]
  | cons c l ih =>
    cases i with
    | zero=>simp
    | succ i =>
      have:(i + 1) * 6=(sw c).length + i * 6:=by simp [sw];omega
      show (sw c ++ lN l).drop ((i + 1) * 6)=_
      rw [this,<- List.drop_drop,List.drop_left]
      exact ih i
theorem Ke {l:List pz} {i:Nat} (h:i < l.length):((lN l).drop (i * 6)).take 6=sw (l.getD i .zero):=by
  rw [Ce,List.drop_eq_getElem_cons h]
  have e:l.getD i .zero=l[i]:=by simp [h]
  rw [e]
  show (sw l[i] ++ lN (l.drop (i + 1))).take 6=_
  exact List.take_left' Z
end Go.Proofs.YtjppkekmddjcfaaGreatDoor

namespace Go.Proofs.YtjppkekmddjcfaaGreatDoor
open Go Go.RowKit V
theorem JK:∀ c:UInt8,97<=c->c < 105->((2 * (c - 97).toNat:Nat):Int)=ix c:=gR (by decide +kernel)
theorem Ik:∀ c:UInt8,65<=c->c < 73->((2 * (c - 65).toNat + 1:Nat):Int)=ix c:=gR (by decide +kernel)
theorem yY:∀ c:UInt8,¬ (97<=c/\c < 105)->¬ (65<=c/\c < 73)->ix c = -1:=gR (by decide +kernel)
section
variable {g:Int} {w:List UInt8} {i:Nat} {c:UInt8}
theorem Vo (h1:¬ ix c < 0) (h2:¬ 2 * g<=ix c):e8 g c=true:=by
  simp only [e8,Bool.and_eq_true,decide_eq_true_eq];omega
theorem Si (hg:1<=g/\g<=8) (h:100000 < w.length):decide (bq g w=0)=false:=by
  rw [decide_eq_false_iff_not,kJ hg];intro q;omega
theorem Ij (hg:1<=g/\g<=8) (hi:i < w.length) (h:e8 g (w.getD i 0)=false):decide (bq g w=0)=false:=by
  rw [decide_eq_false_iff_not,kJ hg]
  intro q
  have:=q.2 _ (bi (d:=0) hi)
  rw [h] at this;cases this
theorem MU (hg:1<=g/\g<=8) (hi:i < w.length) (h:ix (w.getD i 0) < 0):decide (bq g w=0)=false :=
  Ij hg hi (by simp only [e8,Bool.and_eq_false_iff,decide_eq_false_iff_not];omega)
theorem MW (hg:1<=g/\g<=8) (hi:i < w.length) (h:2 * g<=ix (w.getD i 0)):decide (bq g w=0)=false :=
  Ij hg hi (by simp only [e8,Bool.and_eq_false_iff,decide_eq_false_iff_not];omega)
theorem MY (hg:1<=g/\g<=8) (hl:w.length<=100000) (hi:w.length<=i) (h:∀ j,j < i->e8 g (w.getD j 0)=true):decide (bq g w=0)=true:=by
  rw [decide_eq_true_iff,kJ hg]
  refine ⟨hl,fun c hc=>?_⟩
  obtain ⟨j,hj,rfl⟩:=List.getElem_of_mem hc
  have:=h j O
  simpa [hj] using this
end
def Kj (a w:List UInt8) (i:Nat):Prop:=i + w.length<=a.length/\(a.take (i + w.length)).drop i=w
instance (a w:List UInt8) (i:Nat):Decidable (Kj a w i):=by unfold Kj;infer_instance
def Rq (a w:List UInt8) (k:Nat):Int:=match (List.range (a.length + 1)).find? (fun i=>decide (k<=i/\Kj a w i)) with | some i=>(i:Int) | none=>-1
theorem Px {w:List UInt8} {j:Nat} (hj:1<=j) (hw:j<=w.length):(w.drop j).reverse ++ [w.getD (j - 1) 0]=(w.drop (j - 1)).reverse:=by
  rw [lj (w:=w) (i:=j - 1) O,show j - 1 + 1=j by omega]
  simp
end Go.Proofs.YtjppkekmddjcfaaGreatDoor

namespace Go.Proofs.YtjppkekmddjcfaaGreatDoor
open Go Go.RowKit V
structure bf where
  left:List UInt8
  right:List UInt8
  pv:Value
  proof:List bK
def bf.zero:bf:=⟨[],[],.slice none 0 0,[]⟩
def rm (r:bf):List Value:=[bg r.left,bg r.right,r.pv]
def dc (l:List bf):List Value:=l.flatMap rm
def Proofs (A:AH) (l:List bf):Prop:=∀ r ∈ l,bI A 3 r.pv (cE r.proof)
theorem Proofs.le {A B:AH} {l:List bf} (h:Proofs A l) (le:A.le B):Proofs B l:=fun r hr=>(h r hr).le le
theorem dF (l:List bf):(dc l).length=l.length * 3:=by
  induction l with
  | nil=>rfl
  | cons c l ih=>simp only [dc,List.flatMap_cons,List.length_append,List.length_cons] at ih ⊢;rw [ih];simp [rm];omega
theorem dE (l:List bf):(dc l).length=l.length * 3:=dF l
theorem FB (l:List bf) (i:Nat):(dc l).drop (i * 3)=dc (l.drop i):=by
  induction l generalizing i with
  | nil=>simp [dc]
  | cons c l ih =>
    cases i with
    | zero=>simp
    | succ i =>
      have:(i + 1) * 3=(rm c).length + i * 3:=by simp [rm];omega
      show (rm c ++ dc l).drop ((i + 1) * 3)=_
      rw [this,<- List.drop_drop,List.drop_left]
      exact ih i
theorem i4 {l:List bf} {i:Nat} (h:i < l.length):((dc l).drop (i * 3)).take 3=rm (l.getD i .zero):=by
  rw [FB,List.drop_eq_getElem_cons h]
  have e:l.getD i .zero=l[i]:=by simp [h]
  rw [e]
  show (rm l[i] ++ dc (l.drop (i + 1))).take 3=_
  exact List.take_left' Z
theorem FC {l:List bf} {i k:Nat} (h:i < l.length) (hk:k < 3):(dc l)[i * 3 + k]? = (rm (l.getD i .zero))[k]?:=by
  rw [<- i4 h,List.getElem?_take_of_lt hk,List.getElem?_drop]
theorem wx {l:List bf} {i:Nat} (h:i < l.length):(dc l)[i * 3 + 0]? = some (bg (l.getD i .zero).left):=FC h O
theorem Proofs.get {A:AH} {l:List bf} {i:Nat} (hp:Proofs A l) (h:i < l.length):bI A 3 (l.getD i .zero).pv (cE (l.getD i .zero).proof):=hp _ (bi (d:=.zero) h)
def gv (o w:List UInt8):Bool:=decide (w.length<=o.length/\o.drop (o.length - w.length)=w)
def ci (l:List bf) (o:List UInt8):Int:=match (List.range l.length).find? (fun i=>gv o (l.getD i .zero).left) with | some i=>(i:Int) | none=>-1
def DQ (l:List bf) (w:List UInt8):Bool:=decide (cJ w=w) && l.all fun r=>decide (Rq w r.left 0 < 0)
theorem NH {l:List bf} {w:List UInt8} (h:cJ w ≠ w):DQ l w=false:=by simp [DQ,h]
def jr (g:Int) (w:List UInt8):Bool:=decide (w.length<=1000/\bq g w=0/\cJ w=w)
end Go.Proofs.YtjppkekmddjcfaaGreatDoor

namespace Go.Proofs.YtjppkekmddjcfaaGreatDoor
open Go Go.RowKit V
structure rU {α:Type} [DecidableEq α] (kd:TypeDesc) (enc:α->Value):Prop where
  basic:pG kd=true
  same:∀ a b,Instr.sameNow kd (enc a) (enc b)=some (decide (a=b))
  bits:∀ a,Instr.sameBits 10000 (enc a) (enc a)=true
theorem zm:rU .string bg:={
  basic:=rfl
  same:=fun a c=>by
    simp only [Instr.sameNow]
    congr 1
    have e:(bs a == bs c)=((bs a).data == (bs c).data):=rfl
    rw [e,Bool.eq_iff_iff,beq_iff_eq,decide_eq_true_iff]
    constructor
    · intro h
      have:(bs a).data.toList=(bs c).data.toList:=by rw [h]
      exact this
    · intro h;rw [h]
  bits:=fun a=>by
    show (bs a == bs a)=true
    have e:(bs a == bs a)=((bs a).data == (bs a).data):=rfl
    rw [e];simp }
theorem sk:rU (.int .u8) ej:={
  basic:=rfl
  same:=fun a c=>by
    simp only [Instr.sameNow,if_true]
    congr 1
    rw [Bool.eq_iff_iff,beq_iff_eq,decide_eq_true_iff]
    constructor
    · intro h;exact UInt8.toNat_inj.1 (Int.ofNat_inj.1 h)
    · rintro rfl;rfl
  bits:=fun a=>by simp [Instr.sameBits] }
theorem tD:rU (.int .i64) num:={
  basic:=rfl
  same:=fun a c=>by
    simp only [Instr.sameNow,if_true]
    rfl
  bits:=fun a=>by simp [Instr.sameBits] }
section
variable {α:Type} [DecidableEq α] {kd:TypeDesc} {enc:α->Value}
def dh (enc:α->Value) (es:Array MapEntry) (E:List (α × Value)):Prop:=es.toList.map (fun x=>(x.key,x.val))=E.map fun p=>(enc p.1,p.2)
def lk (E:List (α × Value)) (k:α):Option Value:=(E.find? fun p=>decide (p.1=k)).map (·.2)
def yF (E:List (α × Value)) (k:α) (v:Value):List (α × Value):=if k ∈ E.map (·.1) then E.map (fun p=>if p.1=k then (p.1,v) else p) else E ++ [(k,v)]
theorem dh.nil:dh enc #[] []:=rfl
theorem dh.size {es:Array MapEntry} {E:List (α × Value)} (h:dh enc es E):es.size=E.length:=by
  have:=congrArg List.length h;simpa using this
theorem tl (K:rU kd enc) (k:α):∀ (l:List MapEntry) (E:List (α × Value)) (n:Nat),l.map (fun x=>(x.key,x.val))=E.map (fun p=>(enc p.1,p.2)) ->
    (∃ i v,Instr.findNow kd (enc k) l n=some (some (n + i,v))/\lk E k=some v/\i < l.length/\(E.map (·.1))[i]? = some k/\(∃ x,l[i]? = some x/\x.key=enc k)/\∀ j,j < i->(E.map (·.1))[j]? ≠ some k)\/(Instr.findNow kd (enc k) l n=some none/\lk E k=none/\k ∉ E.map (·.1)):=by
  intro l
  induction l with
  | nil =>
    intro E n h
    cases E with
    | nil=>right;exact ⟨Z,Z,by simp⟩
    | cons p E=>cases h
  | cons x l ih =>
    intro E n h
    cases E with
    | nil=>cases h
    | cons p E =>
      simp only [List.map_cons,List.cons.injEq,Prod.mk.injEq] at h
      obtain ⟨⟨h1,h2⟩,h3⟩:=h
      by_cases q:k=p.1
      · left
        refine ⟨0,x.val,?_,?_,by simp,by simp [q],⟨x,rfl,by rw [h1,q]⟩,fun j hj=>absurd hj (Nat.not_lt_zero _)⟩
        · simp only [Instr.findNow,h1,K.same,decide_eq_true q,Nat.add_zero]
        · simp [lk,q,h2]
      · have q2:¬ p.1=k:=fun e=>q e.symm
        rcases ih E (n + 1) h3 with ⟨i,v,g1,g2,g3,g4,g5,g6⟩ | ⟨g1,g2,g3⟩
        · left
          refine ⟨i + 1,v,?_,?_,by simp;omega,by simpa using g4,by simpa using g5,fun j hj=>?_⟩
          · simp only [Instr.findNow,h1,K.same,decide_eq_false q];rw [g1,show n + (i + 1)=n + 1 + i by omega]
          · simpa [lk,q2] using g2
          · cases j with
            | zero=>simpa using q2
            | succ j=>simpa using g6 j O
        · right
          refine ⟨?_,?_,by simpa [q] using g3⟩
          · simp only [Instr.findNow,h1,K.same,decide_eq_false q];exact g1
          · simpa [lk,q2] using g2
variable {P:Program} {e:gI} {A:AH} {x y z:Operand} {t kt et:TypeId} {ty:TypeId} {ps:String} {af:Array Edge} {dst:Option Nat} {Q:Value->AH->Prop} {Kp:List PanicEntry->AH->Prop} {g:Option (Nat × Bool)} {m clock:Nat} {es:Array MapEntry} {E:List (α × Value)} {k:α} {v zv:Value} {rw:Bool}
theorem qx (K:rU kd enc) (hx:bQ e x=some (.map (some m))) (hy:bQ e y=some (enc k)) (hu:P.underlying t=some (.map kt et)) (hk:P.underlying kt=some kd) (hz:cx P et=some zv) (hg:A.get m=some (.obj rw (.map es clock))) (hE:dh enc es E)
    (h:Q ((lk E k).getD zv) A):kO P e A { dst:=dst,op:=.lookup t x y false,type:=ty,pos:=ps,after:=af,guard:=g } Q Kp:=by
  rcases tl K k es.toList E 0 hE with ⟨i,v,g1,g2,_⟩ | ⟨g1,g2,_⟩
  · rw [g2] at h;exact ⟨_,_,hx,hy,kt,et,kd,zv,es,_,hu,hk,K.basic,hz,.inr ⟨m,rw,clock,Z,hg⟩,g1,h⟩
  · rw [g2] at h;exact ⟨_,_,hx,hy,kt,et,kd,zv,es,_,hu,hk,K.basic,hz,.inr ⟨m,rw,clock,Z,hg⟩,g1,h⟩
theorem xd (K:rU kd enc) (hx:bQ e x=some (.map (some m))) (hy:bQ e y=some (enc k)) (hu:P.underlying t=some (.map kt et)) (hk:P.underlying kt=some kd) (hz:cx P et=some zv) (hg:A.get m=some (.obj rw (.map es clock))) (hE:dh enc es E)
    (h1:∀ v,lk E k=some v->Q (.tuple #[v,.bool true]) A) (h2:lk E k=none->Q (.tuple #[zv,.bool false]) A):kO P e A { dst:=dst,op:=.lookup t x y true,type:=ty,pos:=ps,after:=af,guard:=g } Q Kp:=by
  rcases tl K k es.toList E 0 hE with ⟨i,v,g1,g2,_⟩ | ⟨g1,g2,_⟩
  · exact ⟨_,_,hx,hy,kt,et,kd,zv,es,_,hu,hk,K.basic,hz,.inr ⟨m,rw,clock,Z,hg⟩,g1,h1 v g2⟩
  · exact ⟨_,_,hx,hy,kt,et,kd,zv,es,_,hu,hk,K.basic,hz,.inr ⟨m,rw,clock,Z,hg⟩,g1,h2 g2⟩
theorem dh.push (h:dh enc es E) (k:α) (v:Value) (c:Nat):dh enc (es.push { key:=enc k,val:=v,born:=c }) (E ++ [(k,v)]):=by
  have h':es.toList.map (fun x=>(x.key,x.val))=_:=h
  simp only [dh,Array.toList_push,List.map_append,List.map_cons,List.map_nil,h']
theorem Fa {β γ:Type} {f:β->γ} {l:List β} {i:Nat} {F:β->β} {G:List γ} (h:l.map f=G):(l.modify i F).map f=match l[i]? with | some x=>G.set i (f (F x)) | none=>G:=by
  subst h
  apply List.ext_getElem?
  intro j
  cases q:l[i]? with
  | none =>
    have hi:l.length<=i:=by simpa using q
    simp only [List.getElem?_map,List.getElem?_modify]
    by_cases e:i=j
    · subst e;simp [q]
    · simp [e]
  | some x =>
    have hi:i < l.length:=(List.getElem?_eq_some_iff.1 q).1
    simp only [List.getElem?_map,List.getElem?_modify,List.getElem?_set,List.length_map]
    by_cases e:i=j
    · subst e
      have hx:=(List.getElem?_eq_some_iff.1 q).2
      simp [hi,hx]
    · simp [e]
theorem Un {k:α} {v:Value}:∀ {E:List (α × Value)} {i:Nat},(E.map (·.1))[i]? = some k->(E.map (·.1)).Nodup->(E.map fun p=>(enc p.1,p.2)).set i (enc k,v)=(E.map fun p=>if p.1=k then (p.1,v) else p).map fun p=>(enc p.1,p.2):=by
  intro E
  induction E with
  | nil=>intro i h;simp at h
  | cons p E ih =>
    intro i h hn
    cases i with
    | zero =>
      simp only [List.map_cons,List.getElem?_cons_zero,Option.some.injEq] at h
      subst h
      simp only [List.map_cons,List.set_cons_zero,if_true]
      congr 1
      rw [List.map_map]
      apply List.map_congr_left
      intro q hq
      have:¬ q.1=p.1:=fun e=>(List.nodup_cons.1 hn).1 (by show p.1 ∈ _;rw [<- e];exact List.mem_map_of_mem hq)
      simp [this]
    | succ i =>
      simp only [List.map_cons,List.getElem?_cons_succ] at h
      have hp:¬ p.1=k:=fun e=>(List.nodup_cons.1 hn).1 (by show p.1 ∈ _;rw [e];exact List.mem_of_getElem? h)
      simp only [List.map_cons,List.set_cons_succ,if_neg hp]
      congr 1
      exact ih h (List.nodup_cons.1 hn).2
theorem o4 (K:rU kd enc) (wf:A.wf) (hx:bQ e x=some (.map (some m))) (hy:bQ e y=some (enc k)) (hz:bQ e z=some v) (hu:P.underlying t=some (.map kt et)) (hk:P.underlying kt=some kd) (hg:A.get m=some (.obj true (.map es clock))) (hE:dh enc es E) (hn:(E.map (·.1)).Nodup)
    (h:∀ A1 es1 ck,uy A A1 m (.obj true (.map es1 ck))->dh enc es1 (yF E k v)->Q undef A1):kO P e A { dst:=dst,op:=.mapUpdate t x y z,type:=ty,pos:=ps,after:=af,guard:=g } Q Kp:=by
  rcases tl K k es.toList E 0 hE with ⟨i,u,g1,g2,g3,g4,⟨w,g5,D⟩,g6⟩ | ⟨g1,g2,g3⟩
  · refine ⟨_,_,_,hx,hy,hz,kt,et,kd,m,es,clock,_,hu,hk,K.basic,Z,hg,g1,⟨w,by simpa using g5,by rw [D];exact K.bits k⟩,h _ _ _ (QF wf hg _) ?_⟩
    have hm:k ∈ E.map (·.1):=List.mem_of_getElem? g4
    show (es.modify (0 + i) _).toList.map _=_
    rw [Nat.zero_add,Array.toList_modify,Fa (show es.toList.map (fun x=>(x.key,x.val))=_ from hE),g5,yF,if_pos hm]
    exact Un g4 hn
  · refine ⟨_,_,_,hx,hy,hz,kt,et,kd,m,es,clock,_,hu,hk,K.basic,Z,hg,g1,h _ _ _ (QF wf hg _) ?_⟩
    rw [yF,if_neg g3];exact hE.push k v clock
theorem zr {E:List (α × Value)} {k:α}:lk E k=none ↔ k ∉ E.map (·.1):=by
  simp only [lk,Option.map_eq_none_iff,List.find?_eq_none,decide_eq_true_eq,List.mem_map,not_exists,not_and]
theorem vg {E:List (α × Value)} {k:α} {v:Value} (h:k ∉ E.map (·.1)):yF E k v=E ++ [(k,v)]:=if_neg h
theorem Rc {E:List (α × Value)} {k:α} {v:Value}:(yF E k v).map (·.1)=if k ∈ E.map (·.1) then E.map (·.1) else E.map (·.1) ++ [k]:=by
  unfold yF
  split
  · rw [List.map_map]
    apply List.map_congr_left
    intro p _
    simp only [Function.comp];split <;> rfl
  · simp
theorem LH {E:List (α × Value)} {k:α} {v:Value} (h:(E.map (·.1)).Nodup):((yF E k v).map (·.1)).Nodup:=by
  rw [Rc]
  split
  · exact h
  · rename_i q;exact List.nodup_append.2 ⟨h,by simp,by intro a ha b hb;simp at hb;subst hb;exact fun e=>q (e ▸ ha)⟩
theorem Vi (k j:α) (v:Value):∀ E:List (α × Value),lk (E.map fun p=>if p.1=k then (p.1,v) else p) j=if j=k/\k ∈ E.map (·.1) then some v else lk E j:=by
  intro E
  induction E with
  | nil=>simp [lk]
  | cons p E ih =>
    have hc:∀ (q:α × Value) (F:List (α × Value)),lk (q :: F) j=if q.1=j then some q.2 else lk F j:=fun q F=>by
      by_cases h:q.1=j <;> simp [lk,h]
    rw [List.map_cons,hc,hc,ih]
    by_cases hp:p.1=k
    · by_cases hj:j=k
      · subst hj;simp [hp]
      · have h1:¬ k=j:=fun q=>hj q.symm
        simp [hp,hj,h1]
    · by_cases hj:j=k
      · subst hj;simp only [hp,if_false,true_and,List.map_cons,List.mem_cons,show ¬ j=p.1 from fun q=>hp q.symm,false_or]
      · simp [hp,hj]
theorem Vj {E:List (α × Value)} {k j:α} {v:Value}:lk (yF E k v) j=if j=k then some v else lk E j:=by
  unfold yF
  split
  · rename_i hm
    rw [Vi]
    by_cases hj:j=k <;> simp [hj,hm]
  · rename_i hm
    simp only [lk,List.find?_append]
    by_cases hj:j=k
    · subst hj
      have:E.find? (fun p=>decide (p.1=j))=none:=by
        rw [List.find?_eq_none];intro p hp;simp only [decide_eq_true_eq];exact fun q=>hm (by rw [<- q];exact List.mem_map_of_mem hp)
      simp [this]
    · have h2:¬ k=j:=fun q=>hj q.symm
      simp [hj,h2]
end
def qh (L:List (List UInt8)):List (List UInt8 × Value):=L.map fun w=>(w,.bool true)
theorem wT (L:List (List UInt8)):(qh L).map (·.1)=L:=by simp [qh,List.map_map,Function.comp_def]
theorem QH (L:List (List UInt8)) (w:List UInt8):(lk (qh L) w).getD (.bool false)=.bool (decide (w ∈ L)):=by
  induction L with
  | nil=>rfl
  | cons x L ih =>
    simp only [qh,List.map_cons,lk,List.find?_cons] at ih ⊢
    by_cases h:x=w
    · subst h;simp
    · have h2:¬ w=x:=fun q=>h q.symm
      simp only [decide_eq_false h,List.mem_cons,h2,false_or];exact ih
theorem Ls {L:List (List UInt8)} {w:List UInt8} (h:w ∉ L):yF (qh L) w (.bool true)=qh (L ++ [w]):=by
  rw [vg (by rw [wT];exact h)];simp [qh]
end Go.Proofs.YtjppkekmddjcfaaGreatDoor

namespace Go.Proofs.YtjppkekmddjcfaaGreatDoor
open Go Go.RowKit V
section
variable {P:Program} {e:gI} {A:AH} {x y z:Operand} {t kt et:TypeId} {ty:TypeId} {ps:String} {af:Array Edge} {dst:Option Nat} {Q:Value->AH->Prop} {Kp:List PanicEntry->AH->Prop} {g:Option (Nat × Bool)} {m clock:Nat} {es:Array MapEntry} {L:List (List UInt8)} {w:List UInt8} {v:Value} {rw:Bool}
theorem GB (hx:bQ e x=some (.map (some m))) (hy:bQ e y=some (bg w)) (hu:P.underlying t=some (.map kt et)) (hk:P.underlying kt=some .string) (hz:cx P et=some (.bool false)) (hg:A.get m=some (.obj rw (.map es clock))) (hE:dh bg es (qh L))
    (h:Q (.bool (decide (w ∈ L))) A):kO P e A { dst:=dst,op:=.lookup t x y false,type:=ty,pos:=ps,after:=af,guard:=g } Q Kp :=
  qx zm hx hy hu hk hz hg hE (by rw [QH];exact h)
theorem GJ (wf:A.wf) (hx:bQ e x=some (.map (some m))) (hy:bQ e y=some (bg w)) (hz:bQ e z=some (.bool true)) (hu:P.underlying t=some (.map kt et)) (hk:P.underlying kt=some .string) (hg:A.get m=some (.obj true (.map es clock))) (hE:dh bg es (qh L)) (hL:L.Nodup) (hn:w ∉ L)
    (h:∀ A1 D ck,uy A A1 m (.obj true (.map D ck))->dh bg D (qh (L ++ [w]))->Q undef A1):kO P e A { dst:=dst,op:=.mapUpdate t x y z,type:=ty,pos:=ps,after:=af,guard:=g } Q Kp :=
  o4 zm wf hx hy hz hu hk hg hE (by rw [wT];exact hL) fun A1 D ck h1 h2=>h A1 D ck h1 (by rw [Ls hn] at h2;exact h2)
end
theorem bK.ext3 {a b:bK} (h1:a.conj=b.conj) (h2:a.rel=b.rel) (h3:a.inv=b.inv):a=b:=by cases a;cases b;simp_all
instance:DecidableEq bK:=fun a b=>decidable_of_iff (a.conj=b.conj/\a.rel=b.rel/\a.inv=b.inv) ⟨fun h=>bK.ext3 h.1 h.2.1 h.2.2,fun h=>h ▸ ⟨rfl,rfl,rfl⟩⟩
theorem UY {P:Program} {t ts ti tb:TypeId} {k:IntKind} {f0 f1 f2:Field} (hu:P.underlying t=some (.struct #[f0,f1,f2])) (hg:(P.stoodInHeld t || P.eqGuardType P.depth t)=false) (h0:f0.type=ts/\f0.offset=0/\f0.name ≠ "_") (h1:f1.type=ti/\f1.offset=1/\f1.name ≠ "_") (h2:f2.type=tb/\f2.offset=2/\f2.name ≠ "_")
    (a9:dn P ts=some false) (ai:dn P ti=some false) (ab:dn P tb=some false) (us:P.underlying ts=some .string) (ui:P.underlying ti=some (.int k)) (ub:P.underlying tb=some .bool) (a b:bK) :
    z8 P t (.agg #[bg a.conj,num a.rel,.bool a.inv]) (.agg #[bg b.conj,num b.rel,.bool b.inv])=some (decide (a=b)):=by
  obtain ⟨a1,a2,a3⟩:=h0;obtain ⟨b1,b2,b3⟩:=h1;obtain ⟨c1,c2,c3⟩:=h2
  rw [Bool.or_eq_false_iff] at hg
  simp only [z8,hu,hg.1,hg.2,Bool.false_eq_true,or_self,if_false,Na,a1,a2,a3,b1,b2,b3,c1,c2,c3,pY,a9,ai,ab,Xw,us,ui,ub,yP,if_true,ne_eq]
  have hd:decide (a=b)=(decide (a.conj=b.conj) && (decide (a.rel=b.rel) && (a.inv == b.inv))):=by
    rw [Bool.eq_iff_iff];simp only [decide_eq_true_eq,Bool.and_eq_true,beq_iff_eq]
    exact ⟨fun h=>h ▸ ⟨rfl,rfl,rfl⟩,fun h=>bK.ext3 h.1 h.2.1 h.2.2⟩
  rw [hd]
  by_cases q1:a.conj=b.conj <;> by_cases q2:a.rel=b.rel <;> cases h3:a.inv <;> cases h4:b.inv <;> simp [q1,q2,yP]
theorem tH {α:Type} {l m:List α} {d:α} {i:Nat} (hl:l.length=m.length) (hi:l.length<=i) (h:∀ j,j < i->l.getD j d=m.getD j d):l=m:=by
  refine List.ext_getElem hl fun j h1 h2=>?_
  have:=h j O
  simpa [h1,h2] using this
theorem Iu {α:Type} {l m:List α} {d:α} {i:Nat} (h:¬ l.getD i d=m.getD i d):l ≠ m:=fun e=>h (by rw [e])
def lx (pf:Bool) (r:bf):List UInt8 × List UInt8 × List bK:=(r.left,r.right,if pf then r.proof else [])
def iL (pf:Bool) (rs ss:List bf):Bool:=decide (rs.map (lx pf)=ss.map (lx pf))
theorem sq {β:Type} {f:bf->β} {rs:List bf} {i:Nat} (hi:i < rs.length):(rs.map f).getD i (f .zero)=f (rs.getD i .zero):=by simp [hi]
theorem Ll {pf:Bool} {rs ss:List bf} (h:¬ rs.length=ss.length):iL pf rs ss=false:=by
  rw [iL,decide_eq_false_iff_not];intro q;have:=congrArg List.length q;simp at this;exact h this
theorem Qz {pf:Bool} {rs ss:List bf} {i:Nat} (hl:rs.length=ss.length) (hi:i < rs.length) (h:¬ lx pf (rs.getD i .zero)=lx pf (ss.getD i .zero)):iL pf rs ss=false:=by
  rw [iL,decide_eq_false_iff_not];intro q
  have:=congrArg (fun l=>l.getD i (lx pf .zero)) q
  simp only [sq hi,sq (show i < ss.length by omega)] at this
  exact h this
theorem Lm {pf:Bool} {rs ss:List bf} {i:Nat} (hl:rs.length=ss.length) (hi:rs.length<=i) (h:∀ j,j < i->lx pf (rs.getD j .zero)=lx pf (ss.getD j .zero)):iL pf rs ss=true:=by
  rw [iL,decide_eq_true_iff]
  refine tH (d:=lx pf .zero) (i:=i) (by simpa using hl) (by simpa using hi) fun j hj=>?_
  by_cases q:j < rs.length
  · rw [sq q,sq O];exact h j hj
  · simp [q,show ¬ j < ss.length by omega]
section
variable {g:Int} {l:List (List UInt8)} {rs:List bf} {r:bf} {i:Nat} {w:List UInt8}
theorem kw {A:AH} {n:Nat} {a b:List UInt8} {v:Value} {xs:List Value} (h:bI A n v xs):re [bg a,bg b,v]=true:=by
  obtain ⟨p,k,c,rfl,_⟩:=h;rfl
def vq (g:Int) (w:List UInt8):Bool:=decide (w=[]) || decide (200 < w.length) || !decide (bq g w=0) || !decide (cJ w=w)
theorem Kz (hg:¬ (g < 1\/8 < g)) (hl:¬ 60 < l.length) (h:¬ 0<=BJ (vq g) l):cB g l=0:=by
  rw [uZ,Bool.not_eq_true,List.any_eq_false] at h
  refine rK (i:=l.length) hg hl (Nat.le_refl _) fun j hj=>?_
  have:=h _ (bi (d:=[]) hj)
  simp only [vq,Bool.or_eq_true,decide_eq_true_eq,Bool.not_eq_true',decide_eq_false_iff_not,not_or,Decidable.not_not] at this
  obtain ⟨⟨⟨h1,h2⟩,h3⟩,h4⟩:=this
  exact ⟨by omega,Ju h1 (fun q=>q h3) O (fun q=>q h4)⟩
theorem O8 (hg:¬ (g < 1\/8 < g)) (h:0<=BJ (vq g) l):¬ cB g l=0:=by
  rw [uZ,List.any_eq_true] at h
  obtain ⟨x,hx,hb⟩:=h
  intro q
  have h2:=(ct q).2.2 x hx
  obtain ⟨g1,g2,g3⟩:=mp h2.2
  have:cJ x=x:=by rw [wX (NI O g2),g3]
  simp only [vq,g1,g2,this,decide_false,decide_true,Bool.not_true,Bool.or_false,Bool.false_or,decide_eq_true_eq] at hb
  omega
theorem zC (h:g < 1):¬ cB g l=0:=fun q=>by have:=(ct q).1;omega
theorem zD (h:8 < g):¬ cB g l=0:=fun q=>by have:=(ct q).1;omega
theorem zB (h:60 < l.length):¬ cB g l=0:=fun q=>by have:=(ct q).2.1;omega
theorem kE (h:jr g w=true):w.length<=1000:=by simp only [jr,decide_eq_true_eq] at h;exact h.1
theorem nS (h:jr g w=true):bq g w=0:=by simp only [jr,decide_eq_true_eq] at h;exact h.2.1
theorem kq {b:Bool} (h:(!b)=false):b=true:=by simpa using h
theorem WB {b:Bool} (h:(!b)=true):b=false:=by simpa using h
def fY (g:Int) (l:List (List UInt8)) (r:bf):Bool:=jr g r.left && jr g r.right && decide (dy r.right r.left < 0) && decide (jc g l r.proof (r.left ++ ed r.right)=0)
def iA (rs:List bf):List (List UInt8):=rs.map (·.left)
def bZ (g:Int) (l:List (List UInt8)) (rs:List bf):Bool:=decide (cB g l=0) && decide (rs.length<=2000) && rs.all (fY g l) && decide (iA rs).Nodup
theorem kx (h:(!jr g r.left)=true):fY g l r=false:=by simp [fY,WB h]
theorem ky (h:(!jr g r.right)=true):fY g l r=false:=by simp [fY,WB h]
theorem kz (h:0<=dy r.right r.left):fY g l r=false:=by simp [fY,show ¬ dy r.right r.left < 0 by omega]
theorem kB (h:¬ jc g l r.proof (r.left ++ ed r.right)=0):fY g l r=false:=by simp [fY,h]
theorem CQ (h1:(!jr g r.left)=false) (h2:(!jr g r.right)=false) (h3:¬ 0<=dy r.right r.left) (h4:¬ ¬ jc g l r.proof (r.left ++ ed r.right)=0):fY g l r=true:=by
  simp [fY,kq h1,kq h2,show dy r.right r.left < 0 by omega,Decidable.not_not.1 h4]
theorem fk (h:fY g l r=true):jr g r.left=true/\jr g r.right=true/\dy r.right r.left < 0/\jc g l r.proof (r.left ++ ed r.right)=0:=by
  simp only [fY,Bool.and_eq_true,decide_eq_true_eq] at h;exact ⟨h.1.1.1,h.1.1.2,h.1.2,h.2⟩
theorem Jh (h:¬ cB g l=0):bZ g l rs=false:=by simp [bZ,h]
theorem Ji (h:2000 < rs.length):bZ g l rs=false:=by simp [bZ,show ¬ rs.length<=2000 by omega]
theorem mU (hi:i < rs.length) (h:fY g l (rs.getD i .zero)=false):bZ g l rs=false:=by
  have:rs.all (fY g l)=false:=List.all_eq_false.2 ⟨_,bi (d:=.zero) hi,by rw [h];decide⟩
  simp [bZ,this]
theorem Jj (hi:i < rs.length) (h:(rs.getD i .zero).left ∈ iA (rs.take i)):bZ g l rs=false:=by
  have:¬ (iA rs).Nodup:=fun q=>by
    have e:rs.getD i .zero=rs[i]:=by simp [hi]
    have h2:rs=rs.take i ++ rs.drop i:=(List.take_append_drop i rs).symm
    rw [iA,h2,List.map_append,List.drop_eq_getElem_cons hi] at q
    exact (List.nodup_append.1 q).2.2 _ h _ (List.mem_cons_self) (by rw [e])
  simp [bZ,this]
theorem Jk (hp:¬ ¬ cB g l=0) (hn:¬ 2000 < rs.length) (hi:rs.length<=i) (h:∀ j,j < i->fY g l (rs.getD j .zero)=true) (hd:(iA (rs.take i)).Nodup):bZ g l rs=true:=by
  have:rs.all (fY g l)=true:=List.all_eq_true.2 fun r hr=>by
    obtain ⟨j,hj,rfl⟩:=List.getElem_of_mem hr
    have:=h j O
    simpa [hj] using this
  rw [List.take_of_length_le hi] at hd
  simp [bZ,this,Decidable.not_not.1 hp,show rs.length<=2000 by omega,hd]
theorem gh (h:bZ g l rs=true):cB g l=0/\rs.length<=2000/\(∀ r ∈ rs,fY g l r=true)/\(iA rs).Nodup:=by
  simp only [bZ,Bool.and_eq_true,decide_eq_true_eq,List.all_eq_true] at h;exact ⟨h.1.1.1,h.1.1.2,h.1.2,h.2⟩
def Yl (l:List (List UInt8)) (rs:List bf):Prop:=l.length<=100000/\(∀ x ∈ l,x.length<=100000)/\rs.length<=100000/\∀ r ∈ rs,r.left.length<=100000/\r.right.length<=100000/\r.proof.length<=10000000/\dp r.proof<=100000000
def isRed (g:Int) (l:List (List UInt8)) (rs:List bf):Bool:=bZ g l rs && rs.all fun r=>DQ rs r.right && (DQ rs (r.left.take (r.left.length - 1)) && DQ rs (r.left.drop 1))
theorem JX (h:bZ g l rs=false):isRed g l rs=false:=by rw [isRed,h];rfl
theorem NZ {r:bf} (h:fY g l r=true):0 < r.left.length:=by
  have:=(fk h).2.2.1
  rcases Nat.eq_zero_or_pos r.left.length with q | q
  · rw [List.length_eq_zero_iff.1 q] at this
    unfold dy at this
    split at this
    · simp only [fy,List.length_nil] at this
      split at this
      · simp at this
      · rename_i q2
        have:r.right=[]:=List.length_eq_zero_iff.1 (by simpa using q2)
        rw [this] at *;simp [ip] at *
    · omega
  · exact q
theorem nI (h:bZ g l rs=true) (hr:r ∈ rs):r.left.length<=1000/\r.right.length<=1000/\0 < r.left.length :=
  have q:=(gh h).2.2.1 r hr
  ⟨kE (fk q).1,kE (fk q).2.1,NZ q⟩
theorem Sc {d:List bK} {c:bK} (h:c ∈ d):c.conj.length<=dp d:=by
  induction d with
  | nil=>cases h
  | cons a d ih =>
    simp only [dp,List.map_cons,List.sum_cons] at ih ⊢
    rcases List.mem_cons.1 h with rfl | h
    · omega
    · have:=ih h;omega
theorem we (hi:i < rs.length):iA (rs.take (i + 1))=iA (rs.take i) ++ [(rs.getD i .zero).left]:=by
  have e:rs.getD i .zero=rs[i]:=by simp [hi]
  rw [iA,iA,List.take_succ_eq_append_getElem hi,List.map_append,e];rfl
theorem wd (hi:i < rs.length) (hd:(iA (rs.take i)).Nodup) (h:(rs.getD i .zero).left ∉ iA (rs.take i)):(iA (rs.take (i + 1))).Nodup:=by
  rw [we hi]
  exact List.nodup_append.2 ⟨hd,by simp,by intro a ha b hb;simp at hb;subst hb;exact fun q=>h (q ▸ ha)⟩
theorem N0 {k:Nat} (hk:k < i) (hi:i<=rs.length) (h:(rs.getD k .zero).left=w):w ∈ iA (rs.take i):=by
  rw [<- h,iA]
  refine List.mem_map_of_mem ?_
  have e:rs.getD k .zero=(rs.take i).getD k .zero:=by simp [List.getElem?_take_of_lt hk]
  rw [e];exact bi Ow
theorem J5 {n:Nat} (hn:i<=n) (h:∀ k,k < n->(rs.getD k .zero).left ≠ w):w ∉ iA (rs.take i):=fun q=>by
  obtain ⟨r,hr,e⟩:=List.mem_map.1 q
  obtain ⟨k,hk,rfl⟩:=List.getElem_of_mem hr
  have D:k < i/\k < rs.length:=by rw [List.length_take] at hk;omega
  have:=h k O
  rw [List.getElem_take] at e
  apply this;rw [<- e];simp [D.2]
end
end Go.Proofs.YtjppkekmddjcfaaGreatDoor

namespace Go.Proofs
open Go.Proofs.YtjppkekmddjcfaaGreatDoor
open Go.Shelf
def Tryz.containsS_ren:Go.Shelf.Ren:=⟨fun | 144=>101 | 143=>134 | 219=>177 | 217=>195 | 225=>196 | 224=>197 | 267=>198 | 266=>204 | 314=>205 | n=>n,fun | 9=>9 | 4=>4 | 3=>3 | 5=>5 | 46=>165 | 146=>237 | 51=>199 | n=>n,fun | 1=>1 | n=>n⟩
theorem Tryz.containsS:Go.Proofs.Lays.n144 Tryz.prog Tryz.containsS_ren:={
  mixed:=by kernel_rfl
  f143:=Tryz.func134.trans (congrArg some Y)
  f144:=Tryz.func101.trans (congrArg some Y)
  f217:=Tryz.func195.trans (congrArg some Y)
  f219:=Tryz.func177.trans (congrArg some Y)
  f224:=Tryz.func197.trans (congrArg some Y)
  f225:=Tryz.func196.trans (congrArg some Y)
  f266:=Tryz.func204.trans (congrArg some Y)
  f267:=Tryz.func198.trans (congrArg some Y)
  f314:=Tryz.func205.trans (congrArg some Y)
  t3:=Tryz.underlying3
  a3:=Tryz.isAgg3
  z3:=Tryz.sizeOf3
  v3:=Tryz.zeroValue3
  t4:=Tryz.underlying4
  a4:=Tryz.isAgg4
  z4:=Tryz.sizeOf4
  v4:=Tryz.zeroValue4
  t5:=Tryz.underlying5
  a5:=Tryz.isAgg5
  z5:=Tryz.sizeOf5
  v5:=Tryz.zeroValue5
  t9:=Tryz.underlying9
  a9:=Tryz.isAgg9
  z9:=Tryz.sizeOf9
  v9:=Tryz.zeroValue9
  t46:=Tryz.underlying165
  a46:=Tryz.isAgg165
  z46:=Tryz.sizeOf165
  v46:=Tryz.zeroValue165
  t51:=Tryz.underlying199
  a51:=Tryz.isAgg199
  z51:=Tryz.sizeOf199
  v51:=Tryz.zeroValue199
  t146:=Tryz.underlying237
  a146:=Tryz.isAgg237
  z146:=Tryz.sizeOf237
  v146:=Tryz.zeroValue237
  g1:=by kernel_rfl }
end Go.Proofs

namespace Go.Proofs.YtjppkekmddjcfaaGreatDoor
open Go Go.RowKit V
def rX (A:AH):Prop:=∃ rw cap m,A.get 1=some (.row rw [num m] cap)
theorem rX.le {A B:AH} (h:rX A) (le:A.le B):rX B:=by obtain ⟨r,c,m,h⟩:=h;exact ⟨r,c,m,le.get _ _ h⟩
theorem OE {a w:List UInt8} {i:Nat} (hi:i + w.length<=a.length):Lib.occAt a w i=decide (Kj a w i):=by
  rw [Lib.occAt_iff_take a w i hi,Bool.eq_iff_iff,beq_iff_eq,decide_eq_true_iff,Kj]
  have:(a.take (i + w.length)).drop i=(a.drop i).take w.length:=by rw [List.drop_take,show i + w.length - i=w.length by omega]
  rw [this];exact ⟨fun h=>⟨hi,h⟩,fun h=>h.2⟩
theorem Sk {a w:List UInt8}:0<=Rq a w 0 ↔ ∃ i,Kj a w i:=by
  unfold Rq
  split
  · rename_i i h
    have h2:=List.find?_some h
    simp only [Nat.zero_le,true_and,decide_eq_true_eq] at h2
    exact ⟨fun _=>⟨i,h2⟩,fun _=>by omega⟩
  · rename_i h
    refine ⟨fun q=>by omega,fun ⟨i,hi⟩=>?_⟩
    have:=List.find?_eq_none.1 h i (List.mem_range.2 (by have:=hi.1;omega))
    simp [hi] at this
theorem yW (a w:List UInt8):Lib.contains a w=decide (0<=Rq a w 0):=by
  rw [Lib.contains,Bool.eq_iff_iff,decide_eq_true_iff,decide_eq_true_iff,Sk]
  rcases Lib.index_spec a w with ⟨h1,h2⟩ | ⟨i,h1,h2,h3,_⟩
  · rw [h1]
    refine ⟨fun q=>by omega,fun ⟨i,hi⟩=>?_⟩
    have:=h2 i (by have:=hi.1;omega)
    rw [OE hi.1,decide_eq_false_iff_not] at this
    exact absurd hi this
  · rw [h1]
    refine ⟨fun _=>?_,fun _=>by omega⟩
    rcases Lib.occAt_room h3 with q | q
    · exact ⟨i,by rw [OE q] at h3;simpa using h3⟩
    · subst q;exact ⟨0,by simp [Kj]⟩
theorem SA {rs:List bf} {w:List UInt8} (h:cJ w=w):DQ rs w = !decide (0<=BJ (fun r:bf=>decide (0<=Rq w r.left 0)) rs):=by
  have e:decide (0<=BJ (fun r:bf=>decide (0<=Rq w r.left 0)) rs)=rs.any (fun r=>decide (0<=Rq w r.left 0)):=by
    rw [Bool.eq_iff_iff,decide_eq_true_iff,uZ]
  rw [e,DQ,decide_eq_true h,Bool.true_and,List.not_any_eq_all_not]
  congr 1;funext r
  rw [<- decide_not];congr 1;rw [eq_iff_iff];omega
def pD (rs:List bf) (r:bf):Bool:=!DQ rs r.right || !(DQ rs (r.left.take (r.left.length - 1)) && DQ rs (r.left.drop 1))
theorem JW {g:Int} {l:List (List UInt8)} {rs:List bf} (h:bZ g l rs=true):isRed g l rs = !decide (0<=BJ (pD rs) rs):=by
  have e:decide (0<=BJ (pD rs) rs)=rs.any (pD rs):=by
    rw [Bool.eq_iff_iff,decide_eq_true_iff,uZ]
  rw [e,isRed,h,Bool.true_and,List.not_any_eq_all_not]
  congr 1;funext r
  simp [pD]
theorem FK (a w:List UInt8) (A:AH) (hM:rX A) (ha:a.length < 4294967281):bz Tryz.prog 101 #[bg a,bg w] A (fun v A1=>v=.bool (decide (0<=Rq a w 0))/\A=A1):=by
  obtain ⟨rw,cap,m,hm⟩:=hM
  refine ⟨Tryz.call101,fun W hW=>?_⟩
  refine (Any.strings_Contains Tryz.containsS (bs a) (bs w) m W (by rw [uQ];exact ha) (hW.cell (a:=⟨1,0,none⟩) (by simp [AH.cell,hm]))).mono ?_
  rintro e w' ⟨rfl,rfl⟩
  exact ⟨A,hW,.refl _ _,_,Z,by rw [yO,yO,yW],Z⟩
end Go.Proofs.YtjppkekmddjcfaaGreatDoor

namespace Go.Proofs.YtjppkekmddjcfaaGreatDoor
open Go Go.ChangeShapes Go.WideShapes Go.ChangeAt Go.RowKit V
set_option maxRecDepth 100000

theorem own:ownKnob Tryz.prog.godebug=none:=by kernel_rfl
theorem zo:laidOutB Tryz.prog=true:=by kernel_rfl
theorem Wq:Tryz.prog.globalNamed "cayley/word.letters" = some 0:=by kernel_rfl
theorem Ns:(Tryz.prog.globals[0]?).map (·.type)=some 172:=by kernel_rfl
theorem RY:Tryz.prog.cellsOf 172=16:=by kernel_rfl
theorem UT:Tryz.prog.cellsOf 5=1:=by kernel_rfl
theorem Eh:Tryz.prog.cellsOf 9=1:=by kernel_rfl
theorem Ef:Tryz.prog.cellsOf 3=1:=by kernel_rfl
theorem RP:Tryz.prog.cellsOf 22=1:=by kernel_rfl
theorem GY:Tryz.prog.cellsOf 24=2:=by kernel_rfl
theorem RQ:Tryz.prog.cellsOf 25=1:=by kernel_rfl
theorem RU:Tryz.prog.cellsOf 27=3:=by kernel_rfl
theorem RX:Tryz.prog.cellsOf 35=1:=by kernel_rfl
theorem GZ:Tryz.prog.cellsOf 83=3:=by kernel_rfl
theorem oq {P:Program} {x:String × DataW Unit} {r:List (String × DataW Unit)} {w:World} (h:laidMet P (x :: r) w):laidMet P r w:=by
  obtain ⟨ps,⟨g,t,cs,fuel,p,q,_,_,_,_,hr,rfl⟩,hn,hc⟩:=h
  exact ⟨q,hr,(List.nodup_append.1 hn).2.1,fun b off hm=>hc b off (List.mem_append_right _ hm)⟩
abbrev BX:List (String × DataW Unit):=[("math/bits.deBruijn32tab",Rows.laid_math_bits_deBruijn32tab),("math/bits.deBruijn64tab",Rows.laid_math_bits_deBruijn64tab),("internal/strconv.uint64pow10",Rows.laid_internal_strconv_uint64pow10),("cayley/word.letters",Rows.laid_cayley_word_letters)]
theorem Xi {W:World} (h:laidMetH Tryz.prog BX W):Lib.TabIs Tryz.prog W "cayley/word.letters" .u8 (bJ.map fun c=>(c.toNat:Int)):=by
  have h0:laidMet Tryz.prog BX W:=h
  exact Lib.tabIs_of_head (rest:=[]) Wq Ns Tryz.underlying172 Tryz.underlying5 UT RY (oq (oq (oq h0)))

def AH.ofWorld (W:World):AH:=⟨W.heap.size,fun b=>match W.heap[b]? with
  | some (.cells cs _ _)=>some (.row false cs.toList cs.size)
  | some o=>some (.obj false o)
  | none=>none⟩
theorem Gx (W:World):co (AH.ofWorld W) W:=by
  refine ⟨rfl,fun b o h=>?_⟩
  simp only [AH.ofWorld] at h
  split at h
  · rename_i cs e fr hb
    cases h
    exact ⟨cs,e,fr,hb,by simp,Nat.le_refl _,fun i hi=>by simp,fun q=>by cases q⟩
  · rename_i x hx hb
    cases h
    exact ⟨hb,fun c e f q=>hx c e f q⟩
  · cases h
theorem PN (W:World) (b:Nat):(AH.ofWorld W).rw b=false:=by
  unfold AH.rw AH.ofWorld
  simp only
  split
  · rename_i o ho
    split at ho <;> first | (cases ho;rfl) | cases ho
  · rfl
theorem Aw {W w':World} {A':AH} (h:eH (AH.ofWorld W) W A' w'):Below W.heap.size W w' :=
  ⟨h.os,h.tape,h.output.1,h.size,fun k hk=>h.kept k hk (PN W k)⟩
theorem EU {W:World} (h:Lib.TabIs Tryz.prog W "cayley/word.letters" .u8 (bJ.map fun c=>(c.toNat:Int))):gO (AH.ofWorld W):=by
  unfold Lib.TabIs World.var? at h
  rw [Wq] at h
  simp only [Option.bind_some] at h
  split at h
  · rename_i cs e fr hb
    refine ⟨false,cs.size,?_⟩
    have:cs.toList=aq bJ:=by
      have:=congrArg (Option.map Array.toList) h
      simp only [Option.map_some,Option.some.injEq] at this
      rw [this]
      simp [aq]
    simp only [AH.ofWorld,hb,this]
  · cases h
theorem qk (s:ByteArray):Value.string s=bg s.data.toList:=by
  show Value.string s=Value.string ⟨s.data.toList.toArray⟩
  rw [Array.toArray_toList]
theorem Ed {k:FuncId} {args:List Value} {W:World} (h:bz Tryz.prog k args.toArray (AH.ofWorld W) fun v A1=>v=.bool true/\(AH.ofWorld W).le A1/\A1.wf) :
    Calls Tryz.prog k args.toArray W fun e w'=>e=.returned (.bool true)/\Below W.heap.size W w':=by
  refine (h.2 W (Gx W)).mono ?_
  rintro e w' ⟨A',_,hs,v,rfl,rfl,_⟩
  exact ⟨Z,Aw hs⟩
theorem Ia:Tryz.prog.cellsOf 85=3:=by kernel_rfl
theorem MD:Tryz.prog.cellsOf 4=1:=by kernel_rfl
theorem uh {α:Type} {Q:Nat->α->Prop}:∀ n:Nat,(∀ i,i < n->∃ z,Q i z)->∃ zs:List α,zs.length=n/\∀ i z,zs[i]? = some z->Q i z
  | 0,_=>⟨[],rfl,fun i z h=>by simp at h⟩
  | n + 1,h=>by
    obtain ⟨zs,h1,h2⟩:=uh n fun i hi=>h i O
    obtain ⟨z,hz⟩:=h n O
    refine ⟨zs ++ [z],by simp [h1],fun i y hy=>?_⟩
    by_cases q:i < n
    · exact h2 i y (by rwa [List.getElem?_append_left O] at hy)
    · rw [List.getElem?_append_right O] at hy
      have:i - zs.length=0:=by
        have:=(List.getElem?_eq_some_iff.1 hy).1
        simp at this;omega
      rw [this] at hy
      have e:i=n:=by omega
      have:z=y:=by simpa using hy
      rw [e,<- this];exact hz
theorem Bx {α:Type} {f:α->List Value} {k:Nat} (hf:∀ z,(f z).length=k):∀ (zs:List α) (i j:Nat) (z:α),zs[i]? = some z->j < k->(zs.flatMap f)[i * k + j]? = (f z)[j]?
  | [],i,j,z,h,_=>by simp at h
  | a :: zs,0,j,z,h,hj=>by
    have:a=z:=by simpa using h
    subst this
    rw [Nat.zero_mul,Nat.zero_add,List.flatMap_cons,List.getElem?_append_left (by rw [hf];exact hj)]
  | a :: zs,i + 1,j,z,h,hj=>by
    have:=Bx hf zs i j z (by simpa using h) hj
    rw [List.flatMap_cons,List.getElem?_append_right (by rw [hf,Nat.add_mul];omega),hf,<- this]
    congr 1;rw [Nat.add_mul];omega
theorem Bz {α:Type} {f:α->List Value} {k:Nat} (hf:∀ z,(f z).length=k) (zs:List α):(zs.flatMap f).length=zs.length * k:=by
  induction zs with
  | nil=>simp
  | cons a zs ih=>rw [List.flatMap_cons,List.length_append,ih,hf,List.length_cons,Nat.add_mul];omega

theorem Jt (a:Addr) (n:Nat):(a.add n).block=a.block:=by unfold Addr.add;split <;> rfl
theorem RI (a:Addr) (m n:Nat):(a.add m).add n=a.add (m + n):=by
  by_cases hm:m=0
  · subst hm;simp [Addr.add]
  · by_cases hn:n=0
    · subst hn;simp [Addr.add]
    · have:¬ m + n=0:=by omega
      simp [Addr.add,hm,hn,this,Nat.add_assoc]
theorem qO {P:Program} {α:Type} {H:Type} {enc:TypeId × Value->H} {W:World} {base:Nat} {sp:Nat->Bool} {held:Bool} {t e:TypeId} {fuel k:Nat} {cs:List Value} {x:DataW H × List MemPlace} (f:α->List Value) (p:α->Prop) (hf:∀ z,(f z).length=k) (h0:0 < k)
    (ht:P.underlying t=some (.slice e)) (hc:P.cellsOf e=k) (each:∀ (m:Nat) (c:List Value) (y:DataW H × List MemPlace),DataW.trod enc P W base sp held m e c=some y->∃ z,c=f z/\p z) (h:DataW.trod enc P W base sp held fuel t cs=some x) :
    ∃ (zs:List α) (v:Value),cs=[v]/\zs.length<=maxLen/\bI (AH.ofWorld W) k v (zs.flatMap f)/\∀ z ∈ zs,p z:=by
  rcases DataW.trod_slice ht h with ⟨rfl,_⟩ | ⟨a,len,cap,elems,rest,n,_,rfl,_,hb,hl,hm,hlen,hel,_,_⟩
  · exact ⟨[],_,Z,Nat.zero_le _,⟨none,0,0,Z,by simp,Nat.le_refl _,.inl Z⟩,by simp⟩
  · have key:∀ i,i < len->∃ z,p z/\∀ j,j < k->W.cell? (a.add (i * k + j))=(f z)[j]?:=by
      intro i hi
      have hq:=hel i hi
      have hsome:∃ y,elems[i]? = some y:=⟨elems[i]'O,by simp [show i < elems.length by omega]⟩
      obtain ⟨y,hy⟩:=hsome
      rw [hy,Option.bind_eq_some_iff] at hq
      obtain ⟨c,D,a1⟩:=hq
      obtain ⟨z,rfl,hz⟩:=each n c y a1
      refine ⟨z,hz,fun j hj=>?_⟩
      unfold World.cells? at D
      rw [if_pos (by rw [Jt];exact hb)] at D
      have:=mapM_some_get D j j (by rw [hc];simp [hj])
      rw [hc] at this
      rw [<- this,RI]
    obtain ⟨zs,a0,V⟩:=uh len key
    refine ⟨zs,_,rfl,by omega,⟨some a,len,cap,rfl,by rw [Bz hf,a0],hl,?_⟩,fun z hz=>?_⟩
    · by_cases hz:len=0
      · exact .inl hz
      · right
        obtain ⟨blk,off,spot⟩:=a
        obtain ⟨z0,a4⟩:∃ z,zs[0]? = some z:=⟨zs[0]'O,by simp [show 0 < zs.length by omega]⟩
        have X:=(V 0 z0 a4).2 0 h0
        have a2:∃ v,(f z0)[0]? = some v:=⟨(f z0)[0]'(by rw [hf];exact h0),by simp [hf,h0]⟩
        obtain ⟨v0,a3⟩:=a2
        rw [a3] at X
        have hspot:spot=none:=by simpa [Addr.add] using World.cell?_spot X
        subst hspot
        have hcell:∀ i j,i < len->j < k->∃ z,zs[i]? = some z/\∃ cs e fr,W.heap[blk]? = some (.cells cs e fr)/\cs[off + (i * k + j)]? = (f z)[j]?:=fun i j hi hj=>by
          obtain ⟨z,hz⟩:∃ z,zs[i]? = some z:=⟨zs[i]'O,by simp [show i < zs.length by omega]⟩
          refine ⟨z,hz,?_⟩
          have:=(V i z hz).2 j hj
          have hv:(f z)[j]? = some ((f z)[j]'(by rw [hf];exact hj)):=by simp [hf,hj]
          rw [hv] at this ⊢
          rw [add_plain] at this
          simp only [World.cell?] at this
          split at this
          · rename_i cs e fr hb
            exact ⟨cs,e,fr,hb,by simpa using this⟩
          · cases this
        obtain ⟨_,_,cs,e',fr,hb,_⟩:=hcell 0 0 O h0
        refine ⟨blk,off,false,cs.toList,cs.size,Z,by simp [AH.ofWorld,hb],?_⟩
        apply List.ext_getElem?
        intro q
        by_cases hq:q < len * k
        · have hk:q / k < len:=Nat.div_lt_of_lt_mul (by rw [Nat.mul_comm];exact hq)
          have hr:q % k < k:=Nat.mod_lt _ h0
          have e1:q / k * k + q % k=q:=by rw [Nat.mul_comm];exact Nat.div_add_mod q k
          obtain ⟨z,hz,cs',e',fr',hb',h2⟩:=hcell (q / k) (q % k) hk hr
          rw [hb] at hb';cases hb'
          rw [e1] at h2
          have h3:=Bx hf zs (q / k) (q % k) z hz hr
          rw [e1] at h3
          rw [List.getElem?_take_of_lt hq,List.getElem?_drop,Array.getElem?_toList,h2,h3]
        · rw [List.getElem?_eq_none Ow,List.getElem?_eq_none (by rw [Bz hf,a0];omega)]
    · obtain ⟨i,hi,rfl⟩:=List.getElem_of_mem hz
      exact (V i _ (by simp [hi])).1

section
variable {H:Type} {enc:TypeId × Value->H} {W:World} {base:Nat} {sp:Nat->Bool} {held:Bool} {fuel:Nat} {x:DataW H × List MemPlace}
theorem Du {c:List Value} (h:c.length=3):∃ a b d,c=[a,b,d]:=by
  match c,h with
  | [a,b,d],_=>exact ⟨a,b,d,Z⟩
theorem Kq {c:List Value} (h:DataW.trod enc Tryz.prog W base sp held fuel 85 c=some x):∃ z:bK,c=pH z/\z.conj.length<=9223372036854775807:=by
  obtain ⟨xs,n,_,_,hl,hx,hi⟩:=DataW.trod_struct Tryz.underlying85 h
  rw [Ia] at hl
  obtain ⟨a,b,d,rfl⟩:=Du hl
  have some_at:∀ i,i < 3->∃ y,xs[i]? = some y:=fun i hi=>⟨xs[i]'(by rw [hx];exact hi),by simp [show i < xs.length by rw [hx];exact hi]⟩
  obtain ⟨y0,h0⟩:=some_at 0 U
  obtain ⟨y1,h1⟩:=some_at 1 U
  obtain ⟨y2,h2⟩:=some_at 2 U
  have g0:=hi 0 _ Z
  have g1:=hi 1 _ Z
  have g2:=hi 2 _ Z
  rw [h0] at g0
  rw [h1] at g1
  rw [h2] at g2
  obtain ⟨s,e0,_,hs⟩:=DataW.trod_string Tryz.underlying9 g0
  obtain ⟨r,e1,_⟩:=DataW.trod_int Tryz.underlying3 g1
  obtain ⟨v,e2,_⟩:=DataW.trod_bool Tryz.underlying4 g2
  have e0:List.take (Tryz.prog.cellsOf 9) (List.drop 0 [a,b,d])=_:=e0
  have e1:List.take (Tryz.prog.cellsOf 3) (List.drop 1 [a,b,d])=_:=e1
  have e2:List.take (Tryz.prog.cellsOf 4) (List.drop 2 [a,b,d])=_:=e2
  rw [Eh] at e0;rw [Ef] at e1;rw [MD] at e2
  have f0:a=.string s:=by simpa using e0
  have f1:b=.int .i64 r:=by simpa using e1
  have f2:d=.bool v:=by simpa using e2
  refine ⟨⟨s.data.toList,r,v⟩,?_,?_⟩
  · rw [f0,f1,f2,qk];rfl
  · unfold maxLen at hs
    show s.data.toList.length<=_
    rw [Array.length_toList]
    exact Nat.le_trans hs U
theorem Ks {c:List Value} (h:DataW.trod enc Tryz.prog W base sp held fuel 83 c=some x):∃ z:bf,c=rm z/\bI (AH.ofWorld W) 3 z.pv (cE z.proof):=by
  obtain ⟨xs,n,_,_,hl,hx,hi⟩:=DataW.trod_struct Tryz.underlying83 h
  rw [GZ] at hl
  obtain ⟨a,b,d,rfl⟩:=Du hl
  have some_at:∀ i,i < 3->∃ y,xs[i]? = some y:=fun i hi=>⟨xs[i]'(by rw [hx];exact hi),by simp [show i < xs.length by rw [hx];exact hi]⟩
  obtain ⟨y0,h0⟩:=some_at 0 U
  obtain ⟨y1,h1⟩:=some_at 1 U
  obtain ⟨y2,h2⟩:=some_at 2 U
  have g0:=hi 0 _ Z
  have g1:=hi 1 _ Z
  have g2:=hi 2 _ Z
  rw [h0] at g0
  rw [h1] at g1
  rw [h2] at g2
  obtain ⟨s,e0,_,_⟩:=DataW.trod_string Tryz.underlying9 g0
  obtain ⟨r,e1,_,_⟩:=DataW.trod_string Tryz.underlying9 g1
  obtain ⟨zs,v,e2,_,hs,_⟩:=qO pH (fun z=>z.conj.length<=9223372036854775807) (fun _=>rfl) U Tryz.underlying35 Ia (fun _ _ _ h=>Kq h) g2
  have e0:List.take (Tryz.prog.cellsOf 9) (List.drop 0 [a,b,d])=_:=e0
  have e1:List.take (Tryz.prog.cellsOf 9) (List.drop 1 [a,b,d])=_:=e1
  have e2:List.take (Tryz.prog.cellsOf 35) (List.drop 2 [a,b,d])=_:=e2
  rw [Eh] at e0 e1;rw [RX] at e2
  have f0:a=.string s:=by simpa using e0
  have f1:b=.string r:=by simpa using e1
  have f2:d=v:=by simpa using e2
  refine ⟨⟨s.data.toList,r.data.toList,v,zs⟩,?_,hs⟩
  rw [f0,f1,f2,qk,qk];rfl
theorem Ku {c:List Value} (h:DataW.trod enc Tryz.prog W base sp held fuel 9 c=some x):∃ z:List UInt8,c=[bg z]/\z.length<=9223372036854775807:=by
  obtain ⟨s,e0,_,hs⟩:=DataW.trod_string Tryz.underlying9 h
  refine ⟨s.data.toList,by rw [e0,qk],?_⟩
  unfold maxLen at hs
  rw [Array.length_toList]
  exact Nat.le_trans hs U
theorem LD (l:List (List UInt8)):l.flatMap (fun w=>[bg w])=d6 l:=by
  induction l with
  | nil=>rfl
  | cons a l ih=>rw [List.flatMap_cons,ih];rfl
theorem Fu {c:List Value} (h:DataW.trod enc Tryz.prog W base sp held fuel 22 c=some x):∃ (l:List (List UInt8)) (u:Value),c=[u]/\l.length<=9223372036854775807/\bI (AH.ofWorld W) 1 u (d6 l):=by
  obtain ⟨zs,v,e,hl,hs,_⟩:=qO (fun w:List UInt8=>[bg w]) (fun z=>z.length<=9223372036854775807) (fun _=>rfl) U Tryz.underlying22 Eh (fun _ _ _ h=>Ku h) h
  rw [LD] at hs
  unfold maxLen at hl
  exact ⟨zs,v,e,Nat.le_trans hl U,hs⟩
theorem Fp {c:List Value} (h:DataW.trod enc Tryz.prog W base sp held fuel 25 c=some x):∃ (l:List bf) (u:Value),c=[u]/\l.length<=9223372036854775807/\bI (AH.ofWorld W) 3 u (dc l)/\Proofs (AH.ofWorld W) l:=by
  obtain ⟨zs,v,e,hl,hs,hp⟩:=qO rm (fun z=>bI (AH.ofWorld W) 3 z.pv (cE z.proof)) (fun _=>rfl) U Tryz.underlying25 GZ (fun _ _ _ h=>Ks h) h
  unfold maxLen at hl
  exact ⟨zs,v,e,Nat.le_trans hl U,hs,hp⟩
end
theorem OM {b0:Nat} {H:Type} {enc:TypeId × Value->H} {W:World} {v:Value} {d:DataW H} {ps:List MemPlace} (hval:Value.okWide Tryz.prog W .any b0 27 v) (hd:DataW.Trod enc Tryz.prog W 0 (fun _=>true) true 27 v d ps) :
    ∃ (g:Int) (u:Value) (l:List (List UInt8)) (rv:Value) (rs:List bf),v=.agg #[.int .i64 g,u,rv]/\l.length<=9223372036854775807/\rs.length<=9223372036854775807/\bI (AH.ofWorld W) 1 u (d6 l)/\bI (AH.ofWorld W) 3 rv (dc rs)/\Proofs (AH.ofWorld W) rs:=by
  obtain ⟨cs,rfl,hsz⟩:=okWide_struct Tryz.underlying27 hval
  rw [RU] at hsz
  obtain ⟨a,b,c,rfl⟩:∃ a b c,cs = #[a,b,c]:=by
    rcases cs with ⟨l⟩
    match l,hsz with
    | [a,b,c],_=>exact ⟨a,b,c,Z⟩
  obtain ⟨fuel,hf⟩:=hd
  obtain ⟨y0,y1,n,_,_,g0,g1⟩:=trod_struct2 Tryz.underlying27 hf
  obtain ⟨z0,z1,m,_,_,k0,k1⟩:=trod_struct2 Tryz.underlying24 g0
  obtain ⟨g,e0,_⟩:=DataW.trod_int Tryz.underlying3 k0
  obtain ⟨l,u,e1,h,X⟩:=Fu k1
  obtain ⟨rs,rv,e2,D,a0,V⟩:=Fp g1
  have e0:List.take (Tryz.prog.cellsOf 3) (List.drop 0 (List.take (Tryz.prog.cellsOf 24) (List.drop 0 [a,b,c])))=_:=e0
  have e1:List.take (Tryz.prog.cellsOf 22) (List.drop 1 (List.take (Tryz.prog.cellsOf 24) (List.drop 0 [a,b,c])))=_:=e1
  have e2:List.take (Tryz.prog.cellsOf 25) (List.drop 2 [a,b,c])=_:=e2
  rw [GY,Ef] at e0;rw [GY,RP] at e1;rw [RQ] at e2
  have f0:a=.int .i64 g:=by simpa using e0
  have f1:b=u:=by simpa using e1
  have f2:c=rv:=by simpa using e2
  exact ⟨g,u,l,rv,rs,by rw [f0,f1,f2],h,D,X,a0,V⟩
theorem Kb {W:World} (h:W.ShapedOpen Tryz.prog):rX (AH.ofWorld W):=by
  have h0:((begin Tryz.prog (fun _ _=>0) default).world.heap[1]?).bind Obj.row? = some (#[.int .i64 0],3):=by kernel_rfl
  obtain ⟨m,hm⟩:=cell_of_shapedOpen_int (g:=1) (t:=3) (zero:=#[.int .i64 0]) h (of_decide_eq_true Y) h0 Z Y Y Tryz.underlying3
  obtain ⟨cs,hh,hs,_⟩:=h.1 1 #[.int .i64 0] 3 (of_decide_eq_true Y) h0
  obtain ⟨c,rfl⟩:∃ c,cs = #[c]:=by
    rcases cs with ⟨l⟩
    match l,hs with
    | [c],_=>exact ⟨c,Z⟩
  have hc:c=.int .i64 m:=by
    simp only [World.cell?,hh] at hm
    simpa using hm
  subst hc
  exact ⟨false,1,m,by simp [AH.ofWorld,hh]⟩
noncomputable def tE (os:Os):World :=
  let w:=World.holding Tryz.prog os ⟨#[],#[],[]⟩
  { w with heap:=((((w.heap.modify 0 fun
      | .cells _ t frozen=>.cells (aq bJ).toArray t frozen
      | o=>o).modify 2 fun
      | .cells _ t frozen=>.cells #[.int .u64 1,.int .u64 10,.int .u64 100,.int .u64 1000,.int .u64 10000,.int .u64 100000,.int .u64 1000000,.int .u64 10000000,.int .u64 100000000,.int .u64 1000000000,.int .u64 10000000000,.int .u64 100000000000,.int .u64 1000000000000,.int .u64 10000000000000,.int .u64 100000000000000,.int .u64 1000000000000000,.int .u64 10000000000000000,.int .u64 100000000000000000,.int .u64 1000000000000000000,.int .u64 10000000000000000000] t frozen
      | o=>o).modify 3 fun
      | .cells _ t frozen=>.cells (aq [0,1,28,2,29,14,24,3,30,22,20,15,25,17,4,8,31,27,13,23,21,19,16,7,26,12,18,6,11,5,10,9]).toArray t frozen
      | o=>o).modify 4 fun
      | .cells _ t frozen=>.cells (aq [0,1,56,2,57,49,28,3,61,58,42,50,38,29,17,4,62,47,59,36,45,43,51,22,53,39,33,30,24,18,12,5,63,55,48,27,60,41,37,16,46,35,44,21,52,32,23,11,54,26,40,15,34,20,31,10,25,14,19,9,13,8,7,6]).toArray t frozen
      | o=>o) }
end Go.Proofs.YtjppkekmddjcfaaGreatDoor

namespace Go.Proofs.YtjppkekmddjcfaaGreatDoor
open Go Go.ChangeShapes Go.WideShapes Go.ChangeAt Go.RowKit V
set_option maxRecDepth 100000
theorem AL:Tryz.prog.cellsOf 107=6:=by kernel_rfl
section
variable {H:Type} {enc:TypeId × Value->H} {W:World} {base:Nat} {sp:Nat->Bool} {held:Bool} {fuel:Nat} {x:DataW H × List MemPlace}
theorem VN {c:List Value} (h:c.length=6):∃ a b d e f g,c=[a,b,d,e,f,g]:=by
  match c,h with
  | [a,b,d,e,f,g],_=>exact ⟨a,b,d,e,f,g,Z⟩
theorem Kr {c:List Value} (h:DataW.trod enc Tryz.prog W base sp held fuel 107 c=some x):∃ z:pz,c=sw z/\True:=by
  obtain ⟨xs,n,_,_,hl,hx,hi⟩:=DataW.trod_struct Tryz.underlying107 h
  rw [AL] at hl
  obtain ⟨a,b,c',d,e,f,rfl⟩:=VN hl
  have some_at:∀ i,i < 6->∃ y,xs[i]? = some y:=fun i hi=>⟨xs[i]'(by rw [hx];exact hi),by simp [show i < xs.length by rw [hx];exact hi]⟩
  obtain ⟨y0,h0⟩:=some_at 0 U
  obtain ⟨y1,h1⟩:=some_at 1 U
  obtain ⟨y2,h2⟩:=some_at 2 U
  obtain ⟨y3,h3⟩:=some_at 3 U
  obtain ⟨y4,h4⟩:=some_at 4 U
  obtain ⟨y5,h5⟩:=some_at 5 U
  have g0:=hi 0 _ Z
  have g1:=hi 1 _ Z
  have g2:=hi 2 _ Z
  have g3:=hi 3 _ Z
  have g4:=hi 4 _ Z
  have g5:=hi 5 _ Z
  rw [h0] at g0
  rw [h1] at g1
  rw [h2] at g2
  rw [h3] at g3
  rw [h4] at g4
  rw [h5] at g5
  obtain ⟨r0,e0,_⟩:=DataW.trod_int Tryz.underlying3 g0
  obtain ⟨r1,e1,_⟩:=DataW.trod_int Tryz.underlying3 g1
  obtain ⟨r2,e2,_⟩:=DataW.trod_int Tryz.underlying3 g2
  obtain ⟨r3,e3,_⟩:=DataW.trod_int Tryz.underlying3 g3
  obtain ⟨r4,e4,_⟩:=DataW.trod_int Tryz.underlying3 g4
  obtain ⟨v,e5,_⟩:=DataW.trod_bool Tryz.underlying4 g5
  have e0:List.take (Tryz.prog.cellsOf 3) (List.drop 0 [a,b,c',d,e,f])=_:=e0
  have e1:List.take (Tryz.prog.cellsOf 3) (List.drop 1 [a,b,c',d,e,f])=_:=e1
  have e2:List.take (Tryz.prog.cellsOf 3) (List.drop 2 [a,b,c',d,e,f])=_:=e2
  have e3:List.take (Tryz.prog.cellsOf 3) (List.drop 3 [a,b,c',d,e,f])=_:=e3
  have e4:List.take (Tryz.prog.cellsOf 3) (List.drop 4 [a,b,c',d,e,f])=_:=e4
  have e5:List.take (Tryz.prog.cellsOf 4) (List.drop 5 [a,b,c',d,e,f])=_:=e5
  rw [Ef] at e0 e1 e2 e3 e4;rw [MD] at e5
  have f0:a=.int .i64 r0:=by simpa using e0
  have f1:b=.int .i64 r1:=by simpa using e1
  have f2:c'=.int .i64 r2:=by simpa using e2
  have f3:d=.int .i64 r3:=by simpa using e3
  have f4:e=.int .i64 r4:=by simpa using e4
  have f5:f=.bool v:=by simpa using e5
  exact ⟨⟨r0,r1,r2,r3,r4,v⟩,by rw [f0,f1,f2,f3,f4,f5];rfl,trivial⟩
end
end Go.Proofs.YtjppkekmddjcfaaGreatDoor

namespace Go.Proofs.YtjppkekmddjcfaaGreatDoor
open Go Go.RowKit V
set_option maxRecDepth 100000
theorem mixed:Tryz.prog.follows .mixedOrders=true:=by kernel_rfl
theorem Wh:dn Tryz.prog 172=some true:=by kernel_rfl
theorem df:dn Tryz.prog 3=some false:=by kernel_rfl
theorem Mo:dn Tryz.prog 5=some false:=by kernel_rfl
theorem gu:dn Tryz.prog 9=some false:=by kernel_rfl
theorem uE:Tryz.prog.info? 5=some Tryz.t5:=by kernel_rfl
theorem Xe:da Tryz.prog 172=some 16:=by kernel_rfl
theorem kf:da Tryz.prog 5=some 1:=by kernel_rfl
theorem fU:da Tryz.prog 9=some 1:=by kernel_rfl
theorem cT:type_of% @Tryz.underlying102:=@Tryz.underlying102
theorem Xl:type_of% @Tryz.underlying172:=@Tryz.underlying172
theorem Yr:type_of% @Tryz.underlying21:=@Tryz.underlying21
theorem mh:type_of% @Tryz.underlying22:=@Tryz.underlying22
theorem u4:type_of% @Tryz.underlying4:=@Tryz.underlying4
theorem u5:type_of% @Tryz.underlying5:=@Tryz.underlying5
theorem u9:type_of% @Tryz.underlying9:=@Tryz.underlying9
theorem z5:cx Tryz.prog 5=some (.int .u8 0):=by kernel_rfl
theorem z9:cx Tryz.prog 9=some (.string ⟨⟨[]⟩⟩):=by kernel_rfl

theorem Jd (c:UInt8) (A:AH):bz Tryz.prog 175 #[ej (c)] A (fun v A1=>v=ej (c ^^^ 32)/\A=A1):=by
 refine ic Tryz.call175 Tryz.func175 Z Tryz.results175 Tryz.ntmps175 Z (fun wf=>?_);have h:=AH.le.refl A;refine al.seq fun _ h2=>.region<|.q Z (ae Z)<|.nil<|h2 _ _<|.seq fun _ h4=>.region<|.q Z (ah Z)<|.q Z (Pn (d:=32) Z Z)<|.q Z (ae Z) ?_;refine Ops.nil<|h4 _ _<|.rt (by exact aE Z (⟨Z,Z⟩))

theorem sL (c:UInt8) (A:AH) (hL:gO A):bz Tryz.prog 98 #[ej (c)] A (fun v A1=>v=num (ix c)/\A=A1):=by
 refine ic Tryz.call98 Tryz.func98 Z Tryz.results98 Tryz.ntmps98 Z (fun wf=>?_);have a5:=AH.le.refl A;obtain ⟨rwL,capL,gL⟩:=hL;refine al.seq fun _ h2=>.region<|.q Z (ae Z)<|.nil<|h2 _ _<|.seq fun _ h4=>.seq fun _ h6=>.region<|.q Z (an Wh Xe Z Z (a5.get _ _ gL) Z)<|.q Z (ah Z) ?_;refine Ops.nil<|h6 _ _<|.block<|.loop (X:=Nat) (fun k=>[(0,ej (c)),(5,.agg #[ej (97),ej (65),ej (98),ej (66),ej (99),ej (67),ej (100),ej (68),ej (101),ej (69),ej (102),ej (70),ej (103),ej (71),ej (104),ej (72)]),(6,num ((k:Nat):Int))]) (fun k B=>(k<=16/\∀ j,j < k->bJ.getD j 0 ≠ c)/\A=B) (fun k=>16 - k) 0 (ll Z Z Z) (⟨⟨by omega,fun j h=>by omega⟩,Z⟩) ?_;rintro k B8 ⟨⟨hk,hn⟩,rfl⟩;refine al.seq fun _ D=>.region<|.q Z (bX (b:=16) Z Z)<|.nil<|D _ _<|.seq fun _ V=>.if rfl (fun a6=>?_) (fun a6=>?_)
 ·refine al.skip<|V _ _<|.seq fun _ a0=>.block<|.seq fun _ a1=>.region<|.q Z (ah Z)<|.q Z (Pd (l:=bJ) Xl kf Mo Z Z O Z)<|.q Z (ae Z)<|.q Z (ae Z) ?_;refine Ops.nil<|a1 _ _<|.seq fun _ a2=>.region<|.q Z (ah Z)<|.q Z (ah Z)<|.q Z (yi Z Z)<|.nil<|a2 _ _<|.if rfl (fun a7=>?_) (fun a7=>?_)
  ·refine al.seq fun _ a3=>.region<|.q Z (ah Z)<|.q Z (ae Z)<|.nil<|a3 _ _<|.rt (by exact aE Z (⟨by rw [NR O hn Oj];rfl,Z⟩))
  refine al.skip<|a0 _ _<|.region<|.q Z (bE (b:=1) Z Z O)<|.q Z (ah Z)<|.nil ?_;exact ⟨k + 1,ll Z Z Z,Z,⟨⟨by omega,fun j h=>(Nat.lt_succ_iff_lt_or_eq.1 h).elim (hn j) (fun q=>by subst q;assumption)⟩,Z⟩,O1⟩
 refine al.exit<|h4 _ _<|.seq fun _ a4=>.region<|.q Z (ae Z)<|.nil<|a4 _ _<|.rt (by exact aE Z (⟨by rw [SC (fun j h=>hn j O)];rfl,Z⟩))

theorem P4 (r:Nat) (k:Int) (b cap:Nat) (rw:Bool) (A:AH) (hk:1<=k/\k<=8) (hL:gO A) (hb:A.get b=some (.row rw [num k] cap)):bz Tryz.prog 97 #[.int .i32 ((r:Nat):Int),.pointer (some ⟨b,0,none⟩)] A (fun v A1=>v=.bool (decide (127 < r) || !e8 k (UInt8.ofNat r))/\A=A1):=by
 refine mf Tryz.call97 Tryz.func97 Z Tryz.results97 Tryz.ntmps97 Z (fun wf=>?_);have h:=AH.le.refl A;refine al.seq fun _ h2=>.region<|.q Z (ae Z)<|.nil<|h2 _ _<|.seq fun _ h4=>.drawn [0,1,2,3,4,5,6,7,8,9,10,12,13,11,14,15,16] mixed Y Y Z<|.q Z Z Z (ah Z)<|.q Z Z Z (d8 (b:=127) Z Z)<|.q Z Z Z (ah Z) ?_;refine bk.part (t:=6) Z (fun p5=>?_) (fun p5=>?_)
 ·refine bk.qOff Z Z Z Z Z Z<|.qOff Z Z Z Z Z Z<|.lOff Z Z Z Z Z Z<|.qOff Z Z Z Z Z Z<|.q Z Z Z (aJ Z Z)<|.q Z Z Z (ah Z)<|.qOff Z Z Z Z Z Z<|.qOff Z Z Z Z Z Z<|.qOff Z Z Z Z Z Z<|.qOff Z Z Z Z Z Z ?_;refine bk.lOff Z Z Z Z Z Z<|.qOff Z Z Z Z Z Z<|.q Z Z Z (aJ Z Z)<|.q Z Z Z (ae Z)<|.done<|h4 _ _<|.rt (by exact aE Z (⟨by simp_all [e8,dX,XE,ED],Z⟩))
 refine bk.qOn Z Z Z Z Z (ah Z)<|.qOn Z Z Z Z Z (tQ Yr u5 Z)<|.lOn Z Z Z Z Z (fun _ _ X _=>au Z (sL (UInt8.ofNat (r)) A hL) ?_);rintro v7 A8 ⟨rfl,rfl⟩;refine X _ _ (aX.none Y)<|.qOn Z Z Z Z Z (jd Z Z)<|.q Z Z Z (aL Z Z)<|.q Z Z Z (ah Z)<|.part (t:=12) Z (fun a0=>?_) (fun a0=>?_)
 ·refine bk.qOff Z Z Z Z Z Z<|.qOff Z Z Z Z Z Z<|.qOff Z Z Z Z Z Z<|.qOff Z Z Z Z Z Z<|.lOff Z Z Z Z Z Z<|.qOff Z Z Z Z Z Z<|.q Z Z Z (aJ Z Z)<|.q Z Z Z (ae Z)<|.done<|h4 _ _ ?_;refine al.ret ?_;repeat first | with_reducible refine bw ?_ | with_reducible refine bj ?_
  exact aE Z (⟨by simp_all [e8,dX,XE,ED],Z⟩)
 refine bk.qOn Z Z Z Z Z (ah Z)<|.qOn Z Z Z Z Z (tQ Yr u5 Z) ?_;have D:=c5 (off:=0) (h.get _ _ hb) (show _=some (num (k)) from rfl);refine bk.qOn Z Z Z Z Z (ak df Z Z (h.get _ _ hb) Z)<|.qOn Z Z Z Z Z (Ph Z Z O)<|.lOn Z Z Z Z Z (fun _ _ V _=>au Z (sL (UInt8.ofNat (r)) A hL) ?_);rintro a1 A14 ⟨rfl,rfl⟩;refine V _ _ (aX.list (L:=[(⟨b,0,none⟩,num (k))]) Y (bx D cO))<|.qOn Z Z Z Z Z (k8 Z Z)<|.q Z Z Z (aL Z Z)<|.q Z Z Z (ae Z)<|.done<|h4 _ _<|.rt (by exact aE Z (⟨by simp_all [e8,dX,XE,ED],Z⟩))

theorem Da (g:Nat) (caps:Array Value) (q:Nat->Bool) (hq:∀ r,128<=r->q r=true) (s:List UInt8) (A:AH) (hs:s.length<=100000) (hf:∀ r B,A.le B->B.wf->bz Tryz.prog g (#[] ++ #[.int .i32 ((r:Nat):Int)] ++ caps) B (fun v B1=>v=.bool (q r)/\B=B1)):bz Tryz.prog 176 #[bg (s),.func (.func g) #[] caps,.bool (true)] A (fun v A1=>v=num (Ru q s)/\A.le A1/\A1.wf):=by
 refine uC Tryz.call176 Tryz.func176 Z Tryz.results176 Tryz.ntmps176 Z (fun wf=>?_);have aa:=AH.le.refl A;refine al.seq fun _ h2=>.region<|.q Z (ae Z)<|.nil<|h2 _ _<|.seq fun _ h4=>.seq fun _ h6=>.region<|.q Z (ah Z)<|.l Z (fun _ _ aC _=>UC wf rfl u9 fun A9 b8 a3=>?_);have a4:=aW wf (Nat.le_trans aa.n a3.lo);have ad:=aa.trans a3.le;refine aC _ _<|.nil<|h6 _ _<|.block<|.loop (X:=Nat) (fun k=>[(1,.func (.func g) #[] caps),(2,.bool (true)),(10,.pointer (some ⟨b8,0,none⟩))]) (fun k B=>(k<=s.length/\∀ j,j < k->q (s.getD j 0).toNat=false)/\A.le B/\B.get b8=some (.obj true (.stringIter (bs s) (k)))) (fun k=>s.length - k) 0 (ll Z Z Z) (⟨⟨by omega,fun j h=>by omega⟩,ad,a3.get⟩) ?_;rintro k B13 ⟨⟨hk,hn⟩,a0,a5⟩;refine al.wf fun a9=>.seq fun _ a6=>.region<|.l Z (fun _ _ V _=>VV a9 Z a5 (fun a8 A18 D=>?_) (fun a8=>?_))
 ·by_cases hc21:s.getD k 0 < 128
  ·rw [JJ a8 hc21] at D ⊢;have a1:=ao a0 wf a4 D.n D.keep;refine V _ _<|.q Z (aQ Z Z)<|.nil<|a6 _ _<|.seq fun _ ag=>.cond_true Z<|.skip<|ag _ _<|.block<|.seq fun _ ai=>?_;refine al.region<|.q Z (aQ Z Z)<|.q Z (aQ Z Z)<|.q Z (ae Z)<|.q Z (ae Z)<|.nil<|ai _ _<|.seq fun _ ap=>.region<|.q Z (ah Z) ?_;refine Ops.q Z (ah Z)<|.l Z (fun _ _ ab _=>pm Z Z (hf ((s.getD k 0).toNat) A18 a1 D.wf) ?_);rintro aP A31 ⟨rfl,rfl⟩;refine ab _ _<|.q Z (ah Z)<|.q Z (UN u4 Z Z)<|.nil<|ap _ _<|.ifB Z (fun aF=>?_) (fun aF=>?_)
   ·refine al.seq fun _ ar=>.region<|.q Z (ah Z)<|.q Z (ae Z)<|.nil<|ar _ _<|.rt (by exact aE Z (⟨by rw [xU Oj hn (by simpa using ‹(q _ == true)=true›)];rfl,a1,D.wf⟩))
   refine al.skip ?_;exact ⟨k + 1,ll Z Z Z,Z,⟨(by exact ⟨by omega,fun j h=>(Nat.lt_succ_iff_lt_or_eq.1 h).elim (hn j) (fun z=>by subst z;simpa using ‹(q _ == true)=false›)⟩),a1,D.get⟩,O⟩
  have a7:=JI a8 hc21;have aD:=EB (bs s) k;have hqT:=hq _ a7;have a2:=ao a0 wf a4 D.n D.keep;refine V _ _<|.q Z (aQ Z Z)<|.nil<|a6 _ _<|.seq fun _ av=>.cond_true Z<|.skip<|av _ _<|.block<|.seq fun _ ay=>?_;refine al.region<|.q Z (aQ Z Z)<|.q Z (aQ Z Z)<|.q Z (ae Z)<|.q Z (ae Z)<|.nil<|ay _ _<|.seq fun _ az=>.region<|.q Z (ah Z) ?_;refine Ops.q Z (ah Z)<|.l Z (fun _ _ ac _=>pm Z Z (hf ((Utf8.decode (bs s) k).1) A18 a2 D.wf) ?_);rintro aR A45 ⟨rfl,rfl⟩;refine ac _ _<|.q Z (ah Z)<|.q Z (UN u4 Z Z)<|.nil<|az _ _<|.ifB Z (fun aG=>?_) (fun aG=>?_)
  ·refine al.seq fun _ aA=>.region<|.q Z (ah Z)<|.q Z (ae Z)<|.nil<|aA _ _<|.rt (by exact aE Z (⟨by rw [xU Oj hn (by exact hq _ (Xu ‹_›))];rfl,a2,D.wf⟩))
  refine al.skip ?_;exact ⟨k + (Utf8.decode (bs s) k).2,ll Z Z Z,Z,⟨(by (exfalso;simp_all)),a2,D.get⟩,(by (exfalso;simp_all))⟩
 refine V _ _<|.q Z (aQ Z Z)<|.nil<|a6 _ _<|.seq fun _ aI=>.cond_false Z<|.exit<|h4 _ _<|.seq fun _ aB=>.region ?_;refine Ops.q Z (ae Z)<|.nil<|aB _ _<|.rt (by exact aE Z (⟨by rw [Ny (fun j h=>hn j O)];rfl,a0,a9⟩))

theorem CX (g:Nat) (caps:Array Value) (q:Nat->Bool) (hq:∀ r,128<=r->q r=true) (s:List UInt8) (A:AH) (hs:s.length<=100000) (hf:∀ r B,A.le B->B.wf->bz Tryz.prog g (#[] ++ #[.int .i32 ((r:Nat):Int)] ++ caps) B (fun v B1=>v=.bool (q r)/\B=B1)):bz Tryz.prog 132 #[bg (s),.func (.func g) #[] caps] A (fun v A1=>v=num (Ru q s)/\A.le A1/\A1.wf):=by
 refine mf Tryz.call132 Tryz.func132 Z Tryz.results132 Tryz.ntmps132 Z (fun wf=>?_);have h:=AH.le.refl A;refine al.seq fun _ h2=>.region<|.q Z (ae Z)<|.nil<|h2 _ _<|.seq fun _ h4=>.region<|.q Z (ah Z)<|.q Z (ah Z)<|.l Z (fun _ _ X _=>au Z (Da g caps q hq s A hs (fun r B le wf=>hf r B (h.trans le) wf)) ?_);rintro v6 A7 ⟨rfl,D,V⟩;have a0:=h.trans D;refine X _ _<|.q Z (ae Z)<|.nil<|h4 _ _<|.rt (by exact aE Z (⟨Z,a0,V⟩))

theorem wH (g:Nat) (caps:Array Value) (q:Nat->Bool) (hq:∀ r,128<=r->q r=true) (s:List UInt8) (A:AH) (hs:s.length<=100000) (hf:∀ r B,A.le B->B.wf->bz Tryz.prog g (#[] ++ #[.int .i32 ((r:Nat):Int)] ++ caps) B (fun v B1=>v=.bool (q r)/\B=B1)):bz Tryz.prog 96 #[bg (s),.func (.func g) #[] caps] A (fun v A1=>v=.bool (decide (0<=Ru q s))/\A.le A1/\A1.wf):=by
 refine mf Tryz.call96 Tryz.func96 Z Tryz.results96 Tryz.ntmps96 Z (fun wf=>?_);have h:=AH.le.refl A;refine al.seq fun _ h2=>.region<|.q Z (ae Z)<|.nil<|h2 _ _<|.seq fun _ h4=>.region<|.q Z (ah Z)<|.q Z (ah Z)<|.l Z (fun _ _ X _=>au Z (CX g caps q hq s A hs (fun r B le wf=>hf r B (h.trans le) wf)) ?_);rintro v6 A7 ⟨rfl,D,V⟩;have a0:=h.trans D;refine X _ _<|.q Z (k8 Z Z)<|.q Z (ae Z)<|.nil<|h4 _ _<|.rt (by exact aE Z (⟨Z,a0,V⟩))

theorem qg (k:Int) (w:List UInt8) (A:AH) (hL:gO A):bz Tryz.prog 47 #[num (k),bg (w)] A (fun v A1=>v=num ((bq k w:Nat):Int)/\A.le A1/\A1.wf):=by
 refine mf Tryz.call47 Tryz.func47 Z Tryz.results47 Tryz.ntmps47 Z (fun wf=>?_);have ac:=AH.le.refl A;refine al.seq fun _ h2=>.region<|.l Z (fun _ _ ab _=>dP wf rfl rfl fun A5 b4 D=>?_);have V:=ac.trans D.le;refine ab _ _<|.q Z (ae Z)<|.nil<|h2 _ _<|.seq fun _ h9=>.block<|.seq fun _ a2=>.region<|.q Z (ak df Z Z D.get Z)<|.q Z (jd Z Z) ?_;refine Ops.q Z (ah Z)<|.part (t:=8) Z (fun ad=>?_) (fun ad=>?_)
 ·refine Ops.off Z Z Z Z<|.off Z Z Z Z<|.q Z (aJ Z Z)<|.q Z (ae Z)<|.nil<|a2 _ _<|.cond_true Z<|.seq fun _ a4=>.region<|.q Z (ae Z) ?_;refine Ops.nil<|a4 _ _<|.rt (by exact aE Z (⟨by (rw [bq,if_pos O];rfl),V,D.wf⟩))
 refine Ops.on Z Z<|.q Z (ak df Z Z D.get Z)<|.on Z Z<|.q Z (uG Z Z)<|.q Z (aL Z Z)<|.q Z (ae Z)<|.nil<|a2 _ _<|.if rfl (fun ag=>?_) (fun ag=>?_)
 ·refine al.seq fun _ a5=>.region<|.q Z (ae Z)<|.nil<|a5 _ _<|.rt (by exact aE Z (⟨by (rw [bq,if_pos O];rfl),V,D.wf⟩))
 refine al.seq fun _ a6=>.region<|.q Z (ah Z)<|.q Z (cw u9 Z)<|.q Z (d8 (b:=100000) Z Z)<|.q Z (ae Z)<|.nil<|a6 _ _<|.if rfl (fun ai=>?_) (fun ai=>?_)
 ·refine al.seq fun _ a7=>.region<|.q Z (ae Z)<|.nil<|a7 _ _<|.rt (by exact aE Z (⟨by (rw [bq,if_neg O,if_pos O];rfl),V,D.wf⟩))
 refine al.seq fun _ a8=>.region<|.q Z (ah Z)<|.q Z (mD Z Z)<|.l Z (fun _ _ a3 _=>au Z (wH 97 #[.pointer (some ⟨b4,0,none⟩)] (fun r=>decide (127 < r) || !e8 (k) (UInt8.ofNat r)) (fun r h=>by simp;omega) w A5 O (fun r B le wf=>P4 r (k) b4 _ _ B O ((hL.le V).le le) (le.get _ _ D.get))) ?_);rintro ar A27 ⟨rfl,a1,X⟩;have a0:=V.trans a1;refine a3 _ _<|.q Z (ae Z)<|.nil<|a8 _ _<|.if rfl (fun ap=>?_) (fun ap=>?_)
 ·refine al.seq fun _ a9=>.region<|.q Z (ae Z)<|.nil<|a9 _ _<|.rt (by exact aE Z (⟨by (rw [bq,if_neg O,if_neg O,if_neg (by rw [(uj k w).1 ‹_›];decide)];rfl),a0,X⟩))
 refine al.skip<|h9 _ _<|.seq fun _ aa=>.region<|.q Z (ae Z)<|.nil<|aa _ _<|.rt (by exact aE Z (⟨by (rw [bq,if_neg O,if_neg O,if_pos (by have:=mt (uj k w).2 ‹_›;simpa using this)];rfl),a0,X⟩))

theorem Ud (w:List UInt8) (A:AH) (hL:gO A):bz Tryz.prog 123 #[bg (w)] A (fun v A1=>v=.bool (qF w)/\A.le A1/\A1.wf):=by
 refine ic Tryz.call123 Tryz.func123 Z Tryz.results123 Tryz.ntmps123 Z (fun wf=>?_);have a0:=AH.le.refl A;refine al.seq fun _ h2=>.region<|.q Z (ae Z)<|.nil<|h2 _ _<|.seq fun _ h4=>.region<|.q Z (ah Z)<|.l Z (fun _ _ V _=>au Z (qg ((8:Nat):Int) w A hL) ?_);rintro v6 A7 ⟨rfl,h,D⟩;have X:=a0.trans h;refine V _ _<|.q Z (iC (b:=0) Z Z)<|.q Z (ae Z)<|.nil<|h4 _ _<|.rt (by exact aE Z (⟨by rw [<- DE];rfl,X,D⟩))

theorem Li (w:List UInt8) (A:AH) (hw:w.length<=1000000):bz Tryz.prog 131 #[bg (w)] A (fun v A1=>v=bg (inv w)/\A.le A1/\A1.wf):=by
 refine ic Tryz.call131 Tryz.func131 Z Tryz.results131 Tryz.ntmps131 Z (fun wf=>?_);have a0:=AH.le.refl A;refine al.seq fun _ h2=>.region<|.q Z (ae Z)<|.nil<|h2 _ _<|.seq fun _ h4=>.region<|.q Z (ah Z)<|.q Z (cw u9 Z)<|.l Z (fun _ _ av _=>m9 (n:=w.length) (k:=w.length) wf a0 rfl rfl cT kf z5 uE rfl (Nat.le_refl _) (by show 1 * _<=_;omega) O fun A7 b6 a1 aa=>?_);have a4:=a1.get;rw [o7] at a4 aa;have a3:=aW wf (Nat.le_trans a0.n a1.lo);have a8:=a0.trans a1.le;refine av _ _<|.q Z (ae Z)<|.nil<|h4 _ _<|.seq fun _ ab=>.seq fun _ ac=>.region<|.q Z (ah Z)<|.q Z (cw u9 Z)<|.q Z (ah Z) ?_;refine Ops.nil<|ac _ _<|.block<|.loop (X:=Nat) (fun k=>[(0,bg (w)),(3,.slice (some ⟨b6,0,none⟩) w.length w.length),(9,num ((w.length:Nat):Int)),(10,num ((k:Nat):Int))]) (fun k B=>(k<=w.length)/\A.le B/\B.get b6=some (.row true (aq (j5 w k)) w.length)) (fun k=>w.length - k) 0 (mw Z Z Z Z) (⟨Nat.zero_le _,a8,(ww a4 (congrArg aq ((by exact ut w))))⟩) ?_;rintro k B17 ⟨hk,V,h⟩;refine al.wf fun a2=>?_;have hrl:=rl w hk;refine al.seq fun _ ad=>.region<|.q Z (bX Z Z)<|.nil<|ad _ _<|.seq fun _ ag=>.if rfl (fun ay=>?_) (fun ay=>?_)
 ·refine al.skip<|ag _ _<|.seq fun _ ai=>.block<|.seq fun _ ap=>.region<|.q Z (ah Z)<|.q Z (ae Z)<|.nil<|ap _ _ ?_;refine al.region<|.q Z (ah Z)<|.q Z (ah Z)<|.q Z (cw u9 Z)<|.q Z (il (b:=1) Z Z O)<|.q Z (ah Z)<|.q Z (il Z Z O)<|.q Z (ah Z)<|.q Z (ah Z)<|.q Z (lR u9 Z Z O) ?_;refine Ops.l Z (fun _ _ a5 _=>au Z (Jd (w.getD k 0) B17) ?_);rintro az A30 ⟨rfl,rfl⟩;refine a5 _ _<|.q Z (aH cT kf Z Z Z O)<|.l Z (fun _ _ a6 _=>be (off:=((w.length - 1) - k)) a2 rfl (by simp) rfl rfl kf h OF rfl (qy _ _ _) fun A33 D=>?_);have a9:=ao V wf a3 D.n D.keep;refine a6 _ _<|.nil<|ai _ _<|.region<|.q Z (bE (b:=1) Z Z O)<|.q Z (ah Z)<|.nil ?_;exact ⟨k + 1,mw Z Z Z Z,Z,⟨O,a9,(ww D.get (congrArg aq ((by exact wu w O))))⟩,O1⟩
 refine al.exit<|ab _ _<|.seq fun _ ar=>.region<|.q Z (ah Z)<|.l Z (fun _ _ a7 _=>ee (s:=j5 w k) Z cT u9 u5 (d5 (n:=w.length) h Oy (Nat.le_refl _)) ?_);refine a7 _ _<|.q Z (ae Z)<|.nil<|ar _ _<|.rt (by exact aE Z (⟨by rw [wt w O];rfl,V,a2⟩))

theorem Qs (u:Value) (l:List (List UInt8)) (r:List UInt8) (A:AH) (hr:mg l.flatten=r) (hT:l.flatten.length<=1000000) (hn:l.length<=1000000) (hu:bI A 1 u (d6 l)):bz Tryz.prog 133 #[u] A (fun v A1=>v=bg r/\A.le A1/\A1.wf):=by
 refine ic Tryz.call133 Tryz.func133 Z Tryz.results133 Tryz.ntmps133 Z (fun wf=>?_);have aa:=AH.le.refl A;refine al.seq fun _ h2=>.region<|.q Z (ae Z)<|.nil<|h2 _ _<|.seq fun _ h4=>.region<|.q Z (ae Z)<|.nil<|h4 _ _ ?_;refine al.seq fun _ h6=>.seq fun _ h8=>.region<|.q Z (ah Z)<|.q Z (bF (n:=l.length) mh Z (hu.le aa) O (eb _))<|.q Z (ah Z)<|.nil<|h8 _ _<|.block<|.loop (X:=Nat × List UInt8 × Value) (fun ⟨k,o,s⟩=>[(3,s),(8,u),(9,num ((l.length:Nat):Int)),(10,num ((k:Nat):Int))]) (fun ⟨k,o,s⟩ B=>(k<=l.length/\(l.drop k).flatten.foldl push o=r/\o.length + (l.drop k).flatten.length<=1000000)/\A.le B/\Fresh A B s 1 (aq o)) (fun ⟨k,o,s⟩=>l.length - k) (⟨0,[],.slice none 0 0⟩) (mw Z Z Z Z) (⟨⟨Nat.zero_le _,by simpa [mg] using hr,by simpa using hT⟩,aa,(Fresh.nil A A 1)⟩) ?_;rintro ⟨k,o,s⟩ B10 ⟨⟨hk,h1,h2⟩,a6,a1⟩;refine al.wf fun az=>?_;have hd:=fun q:k < l.length=>JP q;refine al.seq fun _ aP=>.region<|.q Z (bX Z Z)<|.nil<|aP _ _<|.seq fun _ aR=>.if rfl (fun b7=>?_) (fun b7=>?_)
 ·refine al.skip<|aR _ _<|.seq fun _ aS=>.block<|.seq fun _ aT=>.region ?_;obtain ⟨bv,bC,br,bR,bm,bM,bD,aF,b3,aI,bd,ab⟩:=bI.at (i:=k) (hu.le a6) Ok O;refine Ops.q Z (aH mh fU Z aF Z b3)<|.q Z (ak gu Z Z aI ((cQ ab).trans (eM O)))<|.q Z (ae Z)<|.nil<|aT _ _<|.seq fun _ aV=>.region<|.q Z (ah Z)<|.q Z (cw u9 Z)<|.q Z (ah Z) ?_;refine Ops.nil<|aV _ _<|.block<|.loop (X:=Nat × List UInt8 × Value) (fun ⟨i,o2,s2⟩=>[(3,s2),(5,bg (l.getD k [])),(8,u),(9,num ((l.length:Nat):Int)),(10,num ((k:Nat):Int)),(15,num (((l.getD k []).length:Nat):Int)),(16,num ((i:Nat):Int))]) (fun ⟨i,o2,s2⟩ B=>(i<=(l.getD k []).length/\((l.getD k []).drop i).foldl push o2=(l.getD k []).foldl push o/\o2.length<=o.length + i)/\A.le B/\Fresh A B s2 1 (aq o2)) (fun ⟨i,o2,s2⟩=>(l.getD k []).length - i) (⟨0,o,s⟩) (Im Z Z Z Z Z Z Z) (⟨⟨Nat.zero_le _,Z,Nat.le_refl _⟩,a6,a1⟩) ?_;rintro ⟨i,o2,s2⟩ B25 ⟨⟨hi,h3,h4⟩,V,D⟩;refine al.wf fun aA=>.seq fun _ aY=>.region<|.q Z (bX Z Z)<|.nil<|aY _ _<|.seq fun _ aZ=>.if rfl (fun b8=>?_) (fun b8=>?_)
  ·refine al.skip<|aZ _ _<|.seq fun _ a9=>.block<|.seq fun _ b0=>.region<|.q Z (ah Z)<|.q Z (ae Z)<|.nil<|b0 _ _ ?_;refine al.seq fun _ b1=>.region<|.q Z (ah Z)<|.q Z (bF (n:=o2.length) cT Z D.slc O (eU _))<|.q Z (ae Z)<|.nil<|b1 _ _<|.join (fun f A1=>am [(34,.bool (decide (0 < o2.length/\o2.getD (o2.length - 1) 0=(l.getD k []).getD i 0 ^^^ 32))),(3,s2),(5,bg (l.getD k [])),(8,u),(9,num ((l.length:Nat):Int)),(10,num ((k:Nat):Int)),(15,num (((l.getD k []).length:Nat):Int)),(16,num ((i:Nat):Int)),(17,.bool (decide (i < (l.getD k []).length))),(18,num ((i:Nat):Int)),(6,num ((i:Nat):Int)),(19,s2),(20,num ((o2.length:Nat):Int)),(7,num ((o2.length:Nat):Int))] f.e/\f.ds=[]/\B25=A1) ?_ ?_
   ·refine al.drawn [0,1,2,3,4,5,6,7,8,9,10,11,12,13] mixed Y Y Z<|.q Z Z Z (ah Z)<|.q Z Z Z (d8 (b:=0) Z Z)<|.q Z Z Z (ah Z)<|.part (t:=23) Z (fun b9=>?_) (fun b9=>?_)
    ·refine bk.qOn Z Z Z Z Z (ah Z)<|.qOn Z Z Z Z Z (ah Z)<|.qOn Z Z Z Z Z (il (b:=1) Z Z O) ?_;obtain ⟨aB,a7,bu,bS,bp,bO,bL,aG,b5,a8,bl,a3⟩:=bI.at (i:=o2.length - 1) D.slc Oy O;refine bk.qOn Z Z Z Z Z (aH cT kf Z aG Z b5) ?_;have ad:=c5 (off:=a7 + (o2.length - 1) * 1) a8 ((cQ a3).trans (fZ O));refine bk.qOn Z Z Z Z Z (ak Mo Z Z a8 ((cQ a3).trans (fZ O)))<|.qOn Z Z Z Z Z (ah Z)<|.qOn Z Z Z Z Z (ah Z)<|.qOn Z Z Z Z Z (lR u9 Z Z O)<|.lOn Z Z Z Z Z (fun _ _ ag _=>au Z (Jd ((l.getD k []).getD i 0) B25) ?_);rintro bT A45 ⟨rfl,rfl⟩;refine ag _ _ (aX.list (L:=[(⟨aB,a7 + (o2.length - 1) * 1,none⟩,ej (o2.getD (o2.length - 1) 0))]) Y (bx ad cO))<|.qOn Z Z Z Z Z (yi Z Z)<|.q Z Z Z (aJ Z Z)<|.done ?_;exact ⟨am.cons (show some _=some _ from congrArg (fun b=>some (Value.bool b)) (show (decide ((o2.getD (o2.length - 1) 0)=(((l.getD k []).getD i 0) ^^^ 32)))=decide (0 < o2.length/\o2.getD (o2.length - 1) 0=(l.getD k []).getD i 0 ^^^ 32) from (by simp only [‹0 < _›,true_and])))<|am.cons Z<|am.cons Z<|am.cons Z<|am.cons Z<|am.cons Z<|am.cons Z<|am.cons Z<|am.cons Z<|am.cons Z<|am.cons Z<|am.cons Z<|am.cons Z<|am.cons Z<|am.nil _,Z,Z⟩
    refine bk.qOff Z Z Z Z Z Z<|.qOff Z Z Z Z Z Z<|.qOff Z Z Z Z Z Z<|.qOff Z Z Z Z Z Z<|.qOff Z Z Z Z Z Z<|.qOff Z Z Z Z Z Z<|.qOff Z Z Z Z Z Z<|.qOff Z Z Z Z Z Z<|.lOff Z Z Z Z Z Z<|.qOff Z Z Z Z Z Z ?_;refine bk.q Z Z Z (aL Z Z)<|.done ?_;exact ⟨am.cons (show some _=some _ from congrArg (fun b=>some (Value.bool b)) (show (false)=decide (0 < o2.length/\o2.getD (o2.length - 1) 0=(l.getD k []).getD i 0 ^^^ 32) from (by simp only [‹¬ 0 < _›,false_and,decide_false])))<|am.cons Z<|am.cons Z<|am.cons Z<|am.cons Z<|am.cons Z<|am.cons Z<|am.cons Z<|am.cons Z<|am.cons Z<|am.cons Z<|am.cons Z<|am.cons Z<|am.cons Z<|am.nil _,Z,Z⟩
   rintro ⟨fe,fd⟩ _ ⟨hE,rfl,rfl⟩;refine al.forget hE<|.if rfl (fun ba=>?_) (fun ba=>?_)
   ·refine al.region<|.q Z (ah Z)<|.q Z (ah Z)<|.q Z (il (b:=1) Z Z O) ?_;obtain ⟨aC,bP,aD,bb,b6,bB⟩:=D.nonnil (by intro q;have:=congrArg List.length q;simp only [aU,List.length_nil] at this;omega);subst bb;rw [aU,Nat.mul_one] at b6;have a4:=D.take (k:=o2.length - 1) O;rw [Nat.mul_one,jV] at a4;refine Ops.q Z (lS cT kf Z Z O)<|.q Z (ae Z)<|.nil<|a9 _ _<|.region<|.q Z (bE (b:=1) Z Z O)<|.q Z (ah Z)<|.nil ?_;exact ⟨⟨i + 1,o2.take (o2.length - 1),.slice (some ⟨aC,0,none⟩) (o2.length - 1) aD⟩,Im Z Z Z Z Z Z Z,Z,⟨⟨by omega,by exact va Oj h3 ‹_›,by simp only [List.length_append,List.length_take,List.length_cons,List.length_nil];omega⟩,V,a4⟩,O1⟩
   refine al.region<|.q Z (ah Z)<|.q Z (ah Z)<|.q Z (ah Z)<|.q Z (lR u9 Z Z O)<|.l Z (fun _ _ ai _=>aM (c:=[ej ((l.getD k []).getD i 0)]) aA rfl (aw cT kf z5 rfl U U rfl) fun A52 bA a0=>?_);have a5:=D.le a0.le;have av:=V.trans a0.le;refine ai _ _<|.l Z (fun _ _ ap _=>cR (ys:=[ej ((l.getD k []).getD i 0)]) rfl rfl cT kf uE z5 rfl U cT (fun _ h=>by cases h) a5.own (bW (n:=1) a0.get Z) rfl rfl (by show (_ + _) * 1<=_;simp only [aU,List.length_cons,List.length_nil];have:=hd Oj;omega) (by simp only [aU,List.length_cons,List.length_nil];have:=hd Oj;omega) fun A58 bc a2=>?_);rw [show ([ej ((l.getD k []).getD i 0)]:List Value)=aq [(l.getD k []).getD i 0] from rfl,eI] at a2;obtain ⟨ac,ay⟩:=Fresh.grow a5 av wf a2;refine ap _ _<|.q Z (ae Z)<|.nil<|a9 _ _<|.region<|.q Z (bE (b:=1) Z Z O)<|.q Z (ah Z)<|.nil ?_;exact ⟨⟨i + 1,o2 ++ [(l.getD k []).getD i 0],bc⟩,Im Z Z Z Z Z Z Z,Z,⟨⟨by omega,by exact vb Oj h3 ‹_›,by simp only [List.length_append,List.length_take,List.length_cons,List.length_nil];omega⟩,ay,ac⟩,O1⟩
  refine al.exit<|aS _ _<|.region<|.q Z (bE (b:=1) Z Z O)<|.q Z (ah Z)<|.nil ?_;exact ⟨⟨k + 1,o2,s2⟩,mw Z Z Z Z,Z,⟨⟨by omega,tV Oj h1 (by rw [pK O] at h3;exact h3.symm),by omega⟩,V,D⟩,O1⟩
 refine al.exit<|h6 _ _<|.seq fun _ b2=>.region<|.q Z (ah Z)<|.l Z (fun _ _ ar _=>ee (s:=o) Z cT u9 u5 a1.slc ?_);refine ar _ _<|.q Z (ae Z)<|.nil<|b2 _ _<|.rt (by exact aE Z (⟨by rw [qC O] at h1;rw [<- h1];rfl,a6,az⟩))

theorem sQ (w:List UInt8) (A:AH) (hw:w.length<=1000000) (hL:gO A):bz Tryz.prog 99 #[bg (w)] A (fun v A1=>v=bg (cJ w)/\A.le A1/\A1.wf):=by
 refine ic Tryz.call99 Tryz.func99 Z Tryz.results99 Tryz.ntmps99 Z (fun wf=>?_);have a9:=AH.le.refl A;refine al.seq fun _ h2=>.region<|.q Z (ae Z)<|.nil<|h2 _ _<|.seq fun _ h4=>.seq fun _ h6=>.region<|.q Z (ah Z)<|.l Z (fun _ _ a8 _=>au Z (Ud w A hL) ?_);rintro v8 A9 ⟨rfl,X,h⟩;have D:=a9.trans X;refine a8 _ _<|.q Z (eo Z)<|.nil<|h6 _ _<|.ifB Z (fun aa=>?_) (fun aa=>?_)
 ·refine al.seq fun _ a6=>.region<|.q Z (ae Z)<|.nil<|a6 _ _<|.rt (by exact aE Z (⟨by unfold cJ;(rw [if_neg (by simpa using ‹(!qF w)=true›)];rfl),D,h⟩))
 refine al.skip<|h4 _ _<|.seq fun _ a7=>.region<|.q Z (ah Z)<|.l Z (fun _ _ a2 _=>aM (c:=[bg (w)]) h rfl (aw mh fU z9 rfl U U rfl) fun A19 ab V=>?_);have a4:=D.trans V.le;refine a2 _ _<|.l Z (fun _ _ a3 _=>au Z (Qs _ ([w]) (mg w) A19 (by simp) Ow (by simp) (d5 (n:=1) V.get Z (Nat.le_refl _))) ?_);rintro ac A24 ⟨rfl,a0,a1⟩;have a5:=a4.trans a0;refine a3 _ _<|.q Z (ae Z)<|.nil<|a7 _ _<|.rt (by exact aE Z (⟨by unfold cJ;(rw [if_pos (by simpa using ‹(!qF w)=false›)];rfl),a5,a1⟩))

theorem KQ (w:List UInt8) (A:AH) (hw:w.length<=1000000) (hL:gO A):bz Tryz.prog 93 #[bg (w)] A (fun v A1=>v=bg (ed w)/\A.le A1/\A1.wf):=by
 refine ic Tryz.call93 Tryz.func93 Z Tryz.results93 Tryz.ntmps93 Z (fun wf=>?_);have a6:=AH.le.refl A;refine al.seq fun _ h2=>.region<|.q Z (ae Z)<|.nil<|h2 _ _<|.seq fun _ h4=>.seq fun _ h6=>.region<|.q Z (ah Z)<|.l Z (fun _ _ a5 _=>au Z (Ud w A hL) ?_);rintro v8 A9 ⟨rfl,D,X⟩;have h:=a6.trans D;refine a5 _ _<|.q Z (eo Z)<|.nil<|h6 _ _<|.ifB Z (fun a7=>?_) (fun a7=>?_)
 ·refine al.seq fun _ a3=>.region<|.q Z (ae Z)<|.nil<|a3 _ _<|.rt (by exact aE Z (⟨by unfold ed;(rw [if_neg (by simpa using ‹(!qF w)=true›)];rfl),h,X⟩))
 refine al.skip<|h4 _ _<|.seq fun _ a4=>.region<|.q Z (ah Z)<|.l Z (fun _ _ a1 _=>au Z (Li w A9 O) ?_);rintro a8 A19 ⟨rfl,V,a0⟩;have a2:=h.trans V;refine a1 _ _<|.q Z (ae Z)<|.nil<|a4 _ _<|.rt (by exact aE Z (⟨by unfold ed;(rw [if_pos (by simpa using ‹(!qF w)=false›)];rfl),a2,a0⟩))

theorem KX (x y:List UInt8) (A:AH) (hx:x.length<=1000000) (hy:y.length<=1000000) (hL:gO A):bz Tryz.prog 124 #[bg (x),bg (y)] A (fun v A1=>v=num (fy x y)/\A=A1):=by
 refine mf Tryz.call124 Tryz.func124 Z Tryz.results124 Tryz.ntmps124 Z (fun wf=>?_);have av:=AH.le.refl A;refine al.seq fun _ h2=>.region<|.q Z (ae Z)<|.nil<|h2 _ _<|.seq fun _ h4=>.seq fun _ h6=>.region<|.q Z (ah Z)<|.q Z (cw u9 Z) ?_;refine Ops.q Z (ah Z)<|.q Z (cw u9 Z)<|.q Z (fh Z Z)<|.nil<|h6 _ _<|.if rfl (fun p7=>?_) (fun p7=>?_)
 ·refine al.seq fun _ h9=>.seq fun _ V=>.region<|.q Z (ah Z)<|.q Z (cw u9 Z)<|.q Z (ah Z)<|.q Z (cw u9 Z)<|.q Z (bX Z Z)<|.nil<|V _ _ ?_;refine al.if rfl (fun ag=>?_) (fun ag=>?_)
  ·refine al.seq fun _ a0=>.region<|.q Z (ae Z)<|.nil<|a0 _ _<|.rt (by exact aE Z (⟨by simp_all [dX,fy],Z⟩))
  refine al.skip<|h9 _ _<|.seq fun _ a1=>.region<|.q Z (ae Z)<|.nil<|a1 _ _<|.rt (by exact aE Z (⟨by simp_all [dX,fy],Z⟩))
 refine al.skip<|h4 _ _<|.seq fun _ a2=>.seq fun _ a3=>.region<|.q Z (ah Z)<|.q Z (cw u9 Z)<|.q Z (ah Z)<|.nil<|a3 _ _ ?_;refine al.block<|.loop (X:=Nat) (fun k=>[(0,bg (x)),(1,bg (y)),(19,num ((x.length:Nat):Int)),(20,num ((k:Nat):Int))]) (fun k B=>(k<=x.length/\ip (x.drop k) (y.drop k)=fy x y)/\A=B) (fun k=>x.length - k) 0 (mw Z Z Z Z) (⟨⟨Nat.zero_le _,(Ie ‹_›).symm⟩,Z⟩) ?_;rintro k B22 ⟨⟨hk,hc⟩,rfl⟩;refine al.seq fun _ a4=>.region<|.q Z (bX Z Z)<|.nil<|a4 _ _<|.seq fun _ a5=>.if rfl (fun ai=>?_) (fun ai=>?_)
 ·refine al.skip<|a5 _ _<|.seq fun _ a6=>.block<|.seq fun _ a7=>.region<|.q Z (ah Z)<|.q Z (ae Z)<|.nil<|a7 _ _ ?_;refine al.seq fun _ a8=>.drawn [0,1,2,4,5,6,3,7,8,9] mixed Y Y Z<|.q Z Z Z (ah Z)<|.q Z Z Z (ah Z)<|.q Z Z Z (lR u9 Z Z O)<|.q Z Z Z (ah Z)<|.q Z Z Z (ah Z)<|.q Z Z Z (lR u9 Z Z O)<|.l Z Z Z (fun _ _ h _=>au Z (sL (x.getD k 0) A hL) ?_);rintro ay A36 ⟨rfl,rfl⟩;refine h _ _ (aX.none Y)<|.l Z Z Z (fun _ _ D _=>au Z (sL (y.getD k 0) A hL) ?_);rintro az A40 ⟨rfl,rfl⟩;refine D _ _ (aX.none Y)<|.q Z Z Z (ae Z)<|.q Z Z Z (ae Z)<|.done<|a8 _ _<|.block<|.seq fun _ a9=>.region<|.q Z (ah Z)<|.q Z (ah Z) ?_;refine Ops.q Z (jd Z Z)<|.q Z (ae Z)<|.nil<|a9 _ _<|.if rfl (fun ap=>?_) (fun ap=>?_)
  ·refine al.seq fun _ aa=>.region<|.q Z (ae Z)<|.nil<|aa _ _<|.rt (by exact aE Z (⟨by (rw [eW O O,if_pos ‹_›] at hc;rw [<- hc];rfl),Z⟩))
  refine al.seq fun _ ab=>.region<|.q Z (ah Z)<|.q Z (ah Z)<|.q Z (uG Z Z)<|.q Z (ae Z)<|.nil<|ab _ _<|.if rfl (fun ar=>?_) (fun ar=>?_)
  ·refine al.seq fun _ ac=>.region<|.q Z (ae Z)<|.nil<|ac _ _<|.rt (by exact aE Z (⟨by (rw [eW O O,if_neg ‹_›,if_pos ‹_›] at hc;rw [<- hc];rfl),Z⟩))
  refine al.skip<|a6 _ _<|.region<|.q Z (bE (b:=1) Z Z O)<|.q Z (ah Z)<|.nil ?_;exact ⟨k + 1,mw Z Z Z Z,Z,⟨⟨by omega,by rw [eW O O,if_neg ‹_›,if_neg ‹_›] at hc;exact hc⟩,Z⟩,O1⟩
 refine al.exit<|a2 _ _<|.seq fun _ ad=>.region<|.q Z (ae Z)<|.nil<|ad _ _<|.rt (by exact aE Z (⟨by (rw [np O] at hc;rw [<- hc];rfl),Z⟩))

theorem KN (x y:List UInt8) (A:AH) (hx:x.length<=1000000) (hy:y.length<=1000000) (hL:gO A):bz Tryz.prog 87 #[bg (x),bg (y)] A (fun v A1=>v=num (dy x y)/\A.le A1/\A1.wf):=by
 refine mf Tryz.call87 Tryz.func87 Z Tryz.results87 Tryz.ntmps87 Z (fun wf=>?_);have a8:=AH.le.refl A;refine al.seq fun _ h2=>.region<|.q Z (ae Z)<|.nil<|h2 _ _<|.seq fun _ h4=>.seq fun _ h6=>.region<|.q Z (ah Z)<|.l Z (fun _ _ a7 _=>au Z (Ud x A hL) ?_);rintro v8 A9 ⟨rfl,X,a1⟩;have h:=a8.trans X;refine a7 _ _<|.q Z (eo Z)<|.q Z (ah Z)<|.partB (t:=8) Z (fun a9=>?_) (fun a9=>?_)
 ·refine Ops.off Z Z Z Z<|.off Z Z Z Z<|.off Z Z Z Z<|.q Z (aJ Z Z)<|.nil<|h6 _ _<|.cond_true Z<|.seq fun _ a4=>.region<|.q Z (ae Z) ?_;refine Ops.nil<|a4 _ _<|.rt (by exact aE Z (⟨by simp_all [dX,dy],h,a1⟩))
 refine Ops.on Z Z<|.q Z (ah Z)<|.on Z Z<|.l Z (fun _ _ a2 _=>au Z (Ud y A9 (hL.le h)) ?_);rintro ab A17 ⟨rfl,a0,V⟩;have D:=h.trans a0;refine a2 _ _<|.on Z Z<|.q Z (eo Z)<|.q Z (aL Z Z)<|.nil<|h6 _ _<|.ifB Z (fun aa=>?_) (fun aa=>?_)
 ·refine al.seq fun _ a5=>.region<|.q Z (ae Z)<|.nil<|a5 _ _<|.rt (by exact aE Z (⟨by simp_all [dX,dy],D,V⟩))
 refine al.skip<|h4 _ _<|.seq fun _ a6=>.region<|.q Z (ah Z)<|.q Z (ah Z)<|.l Z (fun _ _ a3 _=>au Z (KX x y A17 O O (hL.le D)) ?_);rintro ac A27 ⟨rfl,rfl⟩;refine a3 _ _<|.q Z (ae Z)<|.nil<|a6 _ _<|.rt (by exact aE Z (⟨by simp_all [dX,dy],D,V⟩))
end Go.Proofs.YtjppkekmddjcfaaGreatDoor

namespace Go.Proofs.YtjppkekmddjcfaaGreatDoor
open Go Go.RowKit V
set_option maxRecDepth 100000


theorem zP (g:Nat) (caps:Array Value) (q:List UInt8->Bool) (u:Value) (l:List (List UInt8)) (A:AH) (hn:l.length<=9223372036854775807) (hu:bI A 1 u (d6 l)) (hf:∀ s,s ∈ l->∀ B,A.le B->B.wf->bz Tryz.prog g (#[] ++ #[bg s] ++ caps) B (fun v B1=>v=.bool (q s)/\B.le B1/\B1.wf)):bz Tryz.prog 167 #[u,.func (.func g) #[] caps] A (fun v A1=>v=num (BJ q l)/\A.le A1/\A1.wf):=by
 refine mf Tryz.call167 Tryz.func167 Z Tryz.results167 Tryz.ntmps167 Z (fun wf=>?_);have a2:=AH.le.refl A;refine al.seq fun _ h2=>.region<|.q Z (ae Z)<|.nil<|h2 _ _<|.seq fun _ h4=>.seq fun _ h6=>.region<|.q Z (ah Z)<|.q Z (bF (n:=l.length) mh Z (hu.le a2) O (eb _)) ?_;refine Ops.q Z (ah Z)<|.nil<|h6 _ _<|.block<|.loop (X:=Nat) (fun k=>[(0,u),(1,.func (.func g) #[] caps),(7,num ((l.length:Nat):Int)),(8,num ((k:Nat):Int))]) (fun k B=>(k<=l.length/\∀ j,j < k->q (l.getD j [])=false)/\A.le B) (fun k=>l.length - k) 0 (mw Z Z Z Z) (⟨⟨by omega,fun j h=>by omega⟩,a2⟩) ?_;rintro k B8 ⟨⟨hk,hq⟩,D⟩;refine al.wf fun a3=>.seq fun _ a8=>.region<|.q Z (bX Z Z)<|.nil<|a8 _ _<|.seq fun _ a9=>.if rfl (fun ap=>?_) (fun ap=>?_)
 ·refine al.skip<|a9 _ _<|.seq fun _ aa=>.block<|.seq fun _ ab=>.region<|.q Z (ah Z)<|.q Z (ae Z)<|.nil<|ab _ _ ?_;refine al.seq fun _ ac=>.region<|.q Z (ah Z)<|.q Z (ah Z)<|.q Z (ah Z) ?_;obtain ⟨aA,aB,az,aF,ay,aD,aC,a6,ai,a7,av,a4⟩:=bI.at (i:=k) (hu.le D) Ok O;refine Ops.q Z (aH mh fU Z a6 Z ai)<|.q Z (ak gu Z Z a7 ((cQ a4).trans (eM O)))<|.l Z (fun _ _ a5 _=>pm Z Z (hf _ (bi O) B8 D a3) ?_);rintro aG A24 ⟨rfl,a0,a1⟩;have V:=D.trans a0;refine a5 _ _<|.nil<|ac _ _<|.ifB Z (fun ar=>?_) (fun ar=>?_)
  ·refine al.seq fun _ ad=>.region<|.q Z (ah Z)<|.q Z (ae Z)<|.nil<|ad _ _<|.rt (by exact aE Z (⟨by rw [xW (d:=[]) Oj hq ‹_›];rfl,V,a1⟩))
  refine al.skip<|aa _ _<|.region<|.q Z (bE (b:=1) Z Z O)<|.q Z (ah Z)<|.nil ?_;exact ⟨k + 1,mw Z Z Z Z,Z,⟨⟨by omega,fun j h=>(Nat.lt_succ_iff_lt_or_eq.1 h).elim (hq j) (fun z=>by subst z;assumption)⟩,V⟩,O1⟩
 refine al.exit<|h4 _ _<|.seq fun _ ag=>.region<|.q Z (ae Z)<|.nil<|ag _ _<|.rt (by exact aE Z (⟨by rw [BK (d:=[]) (fun j h=>hq j O)];rfl,D,a3⟩))

theorem uJ (g:Nat) (caps:Array Value) (q:List UInt8->Bool) (u:Value) (l:List (List UInt8)) (A:AH) (hn:l.length<=9223372036854775807) (hu:bI A 1 u (d6 l)) (hf:∀ s,s ∈ l->∀ B,A.le B->B.wf->bz Tryz.prog g (#[] ++ #[bg s] ++ caps) B (fun v B1=>v=.bool (q s)/\B.le B1/\B1.wf)):bz Tryz.prog 126 #[u,.func (.func g) #[] caps] A (fun v A1=>v=.bool (decide (0<=BJ q l))/\A.le A1/\A1.wf):=by
 refine mf Tryz.call126 Tryz.func126 Z Tryz.results126 Tryz.ntmps126 Z (fun wf=>?_);have h:=AH.le.refl A;refine al.seq fun _ h2=>.region<|.q Z (ae Z)<|.nil<|h2 _ _<|.seq fun _ h4=>.region<|.q Z (ah Z)<|.q Z (ah Z)<|.l Z (fun _ _ X _=>au Z (zP g caps q u l A hn (hu.le h) (fun s hs B le wf=>hf s hs B (h.trans le) wf)) ?_);rintro v6 A7 ⟨rfl,D,V⟩;have a0:=h.trans D;refine X _ _<|.q Z (k8 Z Z)<|.q Z (ae Z)<|.nil<|h4 _ _<|.rt (by exact aE Z (⟨Z,a0,V⟩))
end Go.Proofs.YtjppkekmddjcfaaGreatDoor

namespace Go.Proofs.YtjppkekmddjcfaaGreatDoor
open Go Go.RowKit V
set_option maxRecDepth 100000
theorem u3:type_of% @Tryz.underlying3:=@Tryz.underlying3

theorem sO (c:UInt8) (A:AH):bz Tryz.prog 67 #[ej (c)] A (fun v A1=>v=num (ix c)/\A=A1):=by
 refine ic Tryz.call67 Tryz.func67 Z Tryz.results67 Tryz.ntmps67 Z (fun wf=>?_);have ag:=AH.le.refl A;have ac:=(c - 97).toNat_lt;have ad:=(c - 65).toNat_lt;refine al.seq fun _ h2=>.region<|.q Z (ae Z)<|.nil<|h2 _ _<|.seq fun _ h4=>.seq fun _ h6=>.region<|.q Z (ah Z)<|.q Z (rk (d:=97) Z Z) ?_;refine Ops.q Z (ah Z)<|.part (t:=5) Z (fun p7=>?_) (fun p7=>?_)
 ·refine Ops.on Z Z<|.q Z (ah Z)<|.on Z Z<|.q Z (yj (d:=105) Z Z)<|.q Z (aJ Z Z)<|.nil<|h6 _ _<|.if rfl (fun p8=>?_) (fun p8=>?_)
  ·refine al.seq fun _ a1=>.region<|.q Z (ah Z)<|.q Z (mF (d:=97) Z Z)<|.q Z (kW u5 u3 Z)<|.q Z (p4 (a:=2) Z Z O)<|.q Z (ae Z)<|.nil<|a1 _ _<|.rt (by exact aE Z (⟨by (rw [<- xQ c ‹_› ‹_›];rfl),Z⟩))
  refine al.skip<|h4 _ _<|.seq fun _ D=>.seq fun _ V=>.region<|.q Z (ah Z)<|.q Z (rk (d:=65) Z Z)<|.q Z (ah Z)<|.part (t:=15) Z (fun a8=>?_) (fun a8=>?_)
  ·refine Ops.on Z Z<|.q Z (ah Z)<|.on Z Z<|.q Z (yj (d:=73) Z Z)<|.q Z (aJ Z Z)<|.nil<|V _ _<|.if rfl (fun a9=>?_) (fun a9=>?_)
   ·refine al.seq fun _ a2=>.region<|.q Z (ah Z)<|.q Z (mF (d:=65) Z Z)<|.q Z (kW u5 u3 Z)<|.q Z (p4 (a:=2) Z Z O)<|.q Z (bE (b:=1) Z Z O)<|.q Z (ae Z)<|.nil<|a2 _ _ ?_;refine al.ret ?_;repeat first | with_reducible refine bw ?_ | with_reducible refine bj ?_
    exact aE Z (⟨by (rw [<- zj c ‹_› ‹_›];rfl),Z⟩)
   refine al.skip<|D _ _<|.seq fun _ a3=>.region<|.q Z (ae Z)<|.nil<|a3 _ _<|.rt (by exact aE Z (⟨by (rw [zk c (fun h=>by simp_all) (fun h=>by simp_all)];rfl),Z⟩))
  refine Ops.off Z Z Z Z<|.off Z Z Z Z<|.q Z (aL Z Z)<|.nil<|V _ _<|.cond_false Z<|.skip<|D _ _<|.seq fun _ a4=>.region ?_;refine Ops.q Z (ae Z)<|.nil<|a4 _ _<|.rt (by exact aE Z (⟨by (rw [zk c (fun h=>by simp_all) (fun h=>by simp_all)];rfl),Z⟩))
 refine Ops.off Z Z Z Z<|.off Z Z Z Z<|.q Z (aL Z Z)<|.nil<|h6 _ _<|.cond_false Z<|.skip<|h4 _ _<|.seq fun _ X=>.seq fun _ a0=>?_;refine al.region<|.q Z (ah Z)<|.q Z (rk (d:=65) Z Z)<|.q Z (ah Z)<|.part (t:=15) Z (fun aa=>?_) (fun aa=>?_)
 ·refine Ops.on Z Z<|.q Z (ah Z)<|.on Z Z<|.q Z (yj (d:=73) Z Z)<|.q Z (aJ Z Z)<|.nil<|a0 _ _<|.if rfl (fun ab=>?_) (fun ab=>?_)
  ·refine al.seq fun _ a5=>.region<|.q Z (ah Z)<|.q Z (mF (d:=65) Z Z)<|.q Z (kW u5 u3 Z)<|.q Z (p4 (a:=2) Z Z O)<|.q Z (bE (b:=1) Z Z O)<|.q Z (ae Z)<|.nil<|a5 _ _ ?_;refine al.ret ?_;repeat first | with_reducible refine bw ?_ | with_reducible refine bj ?_
   exact aE Z (⟨by (rw [<- zj c ‹_› ‹_›];rfl),Z⟩)
  refine al.skip<|X _ _<|.seq fun _ a6=>.region<|.q Z (ae Z)<|.nil<|a6 _ _<|.rt (by exact aE Z (⟨by (rw [zk c (fun h=>by simp_all) (fun h=>by simp_all)];rfl),Z⟩))
 refine Ops.off Z Z Z Z<|.off Z Z Z Z<|.q Z (aL Z Z)<|.nil<|a0 _ _<|.cond_false Z<|.skip<|X _ _<|.seq fun _ a7=>.region ?_;refine Ops.q Z (ae Z)<|.nil<|a7 _ _<|.rt (by exact aE Z (⟨by (rw [zk c (fun h=>by simp_all) (fun h=>by simp_all)];rfl),Z⟩))

theorem KS (i:Nat) (A:AH) (hi:i < 16):bz Tryz.prog 73 #[num ((i:Nat):Int)] A (fun v A1=>v=ej (bJ.getD i 0)/\A=A1):=by
 refine ic Tryz.call73 Tryz.func73 Z Tryz.results73 Tryz.ntmps73 Z (fun wf=>?_);have a3:=AH.le.refl A;refine al.seq fun _ h2=>.region<|.q Z (ae Z)<|.nil<|h2 _ _<|.seq fun _ h4=>.seq fun _ h6=>.region<|.q Z (ah Z)<|.q Z (bX (b:=0) Z Z) ?_;refine Ops.q Z (ah Z)<|.part (t:=5) Z (fun p7=>?_) (fun p7=>?_)
 ·refine Ops.off Z Z Z Z<|.off Z Z Z Z<|.q Z (aJ Z Z)<|.nil<|h6 _ _<|.cond_true Z<|.seq fun _ h9=>.region<|.q Z (ae Z)<|.nil ?_;refine h9 _ _<|.rt (by exact aE Z (⟨by (exfalso;omega),Z⟩))
 refine Ops.on Z Z<|.q Z (ah Z)<|.on Z Z<|.q Z (wq (b:=16) Z Z)<|.q Z (aL Z Z)<|.nil<|h6 _ _<|.if rfl (fun a1=>?_) (fun a1=>?_)
 ·refine al.seq fun _ h=>.region<|.q Z (ae Z)<|.nil<|h _ _<|.rt (by exact aE Z (⟨by (exfalso;omega),Z⟩))
 refine al.skip<|h4 _ _<|.seq fun _ D=>.seq fun _ V=>.region<|.q Z (ah Z)<|.q Z (UO (b:=2) Z Z O)<|.q Z (iC (b:=0) Z Z)<|.nil<|V _ _ ?_;refine al.if rfl (fun a2=>?_) (fun a2=>?_)
 ·refine al.seq fun _ X=>.region<|.q Z (ah Z)<|.q Z (IZ (b:=2) Z Z O)<|.q Z (tQ u3 u5 Z)<|.q Z (IY (c:=97) Z Z)<|.q Z (ae Z)<|.nil<|X _ _<|.rt (by exact aE Z (⟨by (rw [<- Og ⟨i,hi⟩ Oj];rfl),Z⟩))
 refine al.skip<|D _ _<|.seq fun _ a0=>.region<|.q Z (ah Z)<|.q Z (IZ (b:=2) Z Z O)<|.q Z (tQ u3 u5 Z)<|.q Z (IY (c:=65) Z Z)<|.q Z (ae Z)<|.nil ?_;refine a0 _ _<|.rt (by exact aE Z (⟨by (rw [<- SK ⟨i,hi⟩ Oj];rfl),Z⟩))

theorem C5 (c:UInt8) (A:AH) (hc:0<=ix c):bz Tryz.prog 66 #[ej (c)] A (fun v A1=>v=ej (c ^^^ 32)/\A=A1):=by
 refine ic Tryz.call66 Tryz.func66 Z Tryz.results66 Tryz.ntmps66 Z (fun wf=>?_);have V:=AH.le.refl A;refine al.seq fun _ h2=>.region<|.q Z (ae Z)<|.nil<|h2 _ _<|.seq fun _ h4=>.region<|.q Z (ah Z)<|.l Z (fun _ _ h _=>au Z (sO c A) ?_);rintro v6 A7 ⟨rfl,rfl⟩;refine h _ _<|.q Z (xw U U Z Z (Vh c hc))<|.l Z (fun _ _ D _=>au Z (KS (Rx (c ^^^ 32)) A (NU _)) ?_);rintro X A11 ⟨rfl,rfl⟩;refine D _ _<|.q Z (ae Z)<|.nil<|h4 _ _<|.rt (by exact aE Z (⟨by rw [SJ _ (IE c hc)];rfl,Z⟩))

theorem C0 (k:Int) (w:List UInt8) (A:AH):bz Tryz.prog 94 #[num (k),bg (w)] A (fun v A1=>v=num ((bq k w:Nat):Int)/\A=A1):=by
 refine mf Tryz.call94 Tryz.func94 Z Tryz.results94 Tryz.ntmps94 Z (fun wf=>?_);have av:=AH.le.refl A;refine al.seq fun _ h2=>.region<|.q Z (ae Z)<|.nil<|h2 _ _<|.seq fun _ h4=>.seq fun _ h6=>.region<|.q Z (ah Z)<|.q Z (jd Z Z) ?_;refine Ops.q Z (ah Z)<|.part (t:=9) Z (fun p7=>?_) (fun p7=>?_)
 ·refine Ops.off Z Z Z Z<|.off Z Z Z Z<|.q Z (aJ Z Z)<|.nil<|h6 _ _<|.cond_true Z<|.seq fun _ h9=>.region<|.q Z (ae Z)<|.nil ?_;refine h9 _ _<|.rt (by exact aE Z (⟨by (rw [bq,if_pos O];rfl),Z⟩))
 refine Ops.on Z Z<|.q Z (ah Z)<|.on Z Z<|.q Z (uG Z Z)<|.q Z (aL Z Z)<|.nil<|h6 _ _<|.if rfl (fun ad=>?_) (fun ad=>?_)
 ·refine al.seq fun _ a0=>.region<|.q Z (ae Z)<|.nil<|a0 _ _<|.rt (by exact aE Z (⟨by (rw [bq,if_pos O];rfl),Z⟩))
 refine al.skip<|h4 _ _<|.seq fun _ a1=>.seq fun _ a2=>.region<|.q Z (ah Z)<|.q Z (cw u9 Z)<|.q Z (d8 (b:=100000) Z Z)<|.nil<|a2 _ _ ?_;refine al.if rfl (fun ag=>?_) (fun ag=>?_)
 ·refine al.seq fun _ a3=>.region<|.q Z (ae Z)<|.nil<|a3 _ _<|.rt (by exact aE Z (⟨by (rw [bq,if_neg O,if_pos O];rfl),Z⟩))
 refine al.skip<|a1 _ _<|.seq fun _ a4=>.seq fun _ a5=>.region<|.q Z (ae Z)<|.nil<|a5 _ _<|.block<|.loop (X:=Nat) (fun i=>[(0,num (k)),(1,bg (w)),(5,num ((i:Nat):Int))]) (fun i B=>(i<=w.length/\∀ j,j < i->0<=ix (w.getD j 0)/\ix (w.getD j 0) < 2 * k)/\A=B) (fun i=>w.length - i) 0 (ll Z Z Z) (⟨⟨by omega,fun j h=>by omega⟩,Z⟩) ?_;rintro i B25 ⟨⟨hi,hn⟩,rfl⟩;refine al.seq fun _ a6=>.seq fun _ a7=>.region<|.q Z (ah Z)<|.q Z (ah Z)<|.q Z (cw u9 Z)<|.q Z (bX Z Z)<|.nil<|a7 _ _<|.if rfl (fun ai=>?_) (fun ai=>?_)
 ·refine al.skip<|a6 _ _<|.seq fun _ a8=>.block<|.seq fun _ a9=>.region<|.q Z (ah Z)<|.q Z (ah Z)<|.q Z (lR u9 Z Z O)<|.l Z (fun _ _ V _=>au Z (sO (w.getD i 0) A) ?_);rintro ay A37 ⟨rfl,rfl⟩;refine V _ _<|.q Z (ae Z)<|.nil<|a9 _ _<|.seq fun _ D=>.region<|.q Z (ah Z)<|.q Z (jd Z Z)<|.q Z (ah Z)<|.part (t:=28) Z (fun ap=>?_) (fun ap=>?_)
  ·refine Ops.off Z Z Z Z<|.off Z Z Z Z<|.off Z Z Z Z<|.off Z Z Z Z<|.q Z (aJ Z Z)<|.nil<|D _ _<|.cond_true Z<|.seq fun _ aa=>.region ?_;refine Ops.q Z (ae Z)<|.nil<|aa _ _<|.rt (by exact aE Z (⟨by (rw [w8 (i:=i) O O O O];rfl),Z⟩))
  refine Ops.on Z Z<|.q Z (ah Z)<|.on Z Z<|.q Z (ah Z)<|.on Z Z<|.q Z (Ph Z Z O)<|.on Z Z<|.q Z (k8 Z Z)<|.q Z (aL Z Z)<|.nil ?_;refine D _ _<|.if rfl (fun ar=>?_) (fun ar=>?_)
  ·refine al.seq fun _ ab=>.region<|.q Z (ae Z)<|.nil<|ab _ _<|.rt (by exact aE Z (⟨by (rw [w8 (i:=i) O O O O];rfl),Z⟩))
  refine al.skip<|a8 _ _<|.region<|.q Z (ah Z)<|.q Z (bE (b:=1) Z Z O)<|.q Z (ae Z)<|.nil ?_;exact ⟨i + 1,ll Z Z Z,Z,⟨⟨by omega,fun j h=>(Nat.lt_succ_iff_lt_or_eq.1 h).elim (hn j) (fun z=>by subst z;omega)⟩,Z⟩,O1⟩
 refine al.exit<|a4 _ _<|.seq fun _ ac=>.region<|.q Z (ae Z)<|.nil<|ac _ _<|.rt (by exact aE Z (⟨by (rw [DF (i:=i) O O O hn];rfl),Z⟩))

theorem Ja (w:List UInt8) (A:AH):bz Tryz.prog 65 #[bg (w)] A (fun v A1=>v=.bool (qF w)/\A=A1):=by
 refine ic Tryz.call65 Tryz.func65 Z Tryz.results65 Tryz.ntmps65 Z (fun wf=>?_);have D:=AH.le.refl A;refine al.seq fun _ h2=>.region<|.q Z (ae Z)<|.nil<|h2 _ _<|.seq fun _ h4=>.region<|.q Z (ah Z)<|.l Z (fun _ _ h _=>au Z (C0 ((8:Nat):Int) w A) ?_);rintro v6 A7 ⟨rfl,rfl⟩;refine h _ _<|.q Z (iC (b:=0) Z Z)<|.q Z (ae Z)<|.nil<|h4 _ _<|.rt (by exact aE Z (⟨by rw [<- DE];rfl,Z⟩))

theorem FU (w:List UInt8) (A:AH) (hw:w.length<=1000000):bz Tryz.prog 24 #[bg (w)] A (fun v A1=>v=bg (ed w)/\A.le A1/\A1.wf):=by
 refine ic Tryz.call24 Tryz.func24 Z Tryz.results24 Tryz.ntmps24 Z (fun wf=>?_);have a4:=AH.le.refl A;refine al.seq fun _ h2=>.region<|.q Z (ae Z)<|.nil<|h2 _ _<|.seq fun _ h4=>.seq fun _ h6=>.region<|.q Z (ah Z)<|.l Z (fun _ _ az _=>au Z (Ja w A) ?_);rintro v8 A9 ⟨rfl,rfl⟩;refine az _ _<|.q Z (eo Z)<|.nil<|h6 _ _<|.ifB Z (fun aA=>?_) (fun aA=>?_)
 ·refine al.seq fun _ ac=>.region<|.q Z (ae Z)<|.nil<|ac _ _<|.rt (by exact aE Z (⟨by unfold ed;(rw [if_neg (by simpa using ‹(!qF w)=true›)];rfl),a4,wf⟩))
 refine al.skip<|h4 _ _<|.seq fun _ ad=>.region<|.q Z (ae Z)<|.nil<|ad _ _<|.seq fun _ ag=>.seq fun _ ai=>.region ?_;refine Ops.q Z (ah Z)<|.q Z (cw u9 Z)<|.q Z (uH Z Z O)<|.q Z (ae Z)<|.nil<|ai _ _<|.block<|.loop (X:=Nat × List UInt8 × Value) (fun ⟨j,o,s⟩=>[(0,bg (w)),(3,s),(4,num ((j:Int) - 1))]) (fun ⟨j,o,s⟩ B=>(j<=w.length/\o=((w.drop j).map (· ^^^ 32)).reverse)/\A.le B/\Fresh A B s 1 (aq o)) (fun ⟨j,o,s⟩=>j) (⟨w.length,[],.slice none 0 0⟩) (am.cons Z<|am.cons Z<|am.cons (congrArg (fun z:Int=>some (num z)) O)<|am.nil _) (⟨⟨Nat.le_refl _,by simp⟩,a4,(Fresh.nil A A 1)⟩) ?_;rintro ⟨j,o,s⟩ B21 ⟨⟨hj,ho⟩,a2,D⟩;refine al.wf fun a3=>?_;have hlo:o.length=w.length - j:=by rw [ho];simp
 have hk:=OL (w:=w) (by simpa using ‹(!qF w)=false›);have htn:((j:Int) - 1).toNat=j - 1:=by omega
 refine al.seq fun _ ap=>.seq fun _ ar=>.region<|.q Z (ah Z)<|.q Z (k8 Z Z)<|.nil<|ar _ _<|.if rfl (fun aB=>?_) (fun aB=>?_)
 ·refine al.skip<|ap _ _<|.seq fun _ av=>.block<|.region<|.q Z (ah Z)<|.q Z (ah Z)<|.q Z (ah Z)<|.q Z (lR u9 Z (eR O) O)<|.l Z (fun _ _ a6 _=>au Z (C5 (w.getD ((j:Int) - 1).toNat 0) B21 (sD hk O)) ?_);rintro aF A32 ⟨rfl,rfl⟩;refine a6 _ _<|.l Z (fun _ _ a7 _=>aM (c:=[ej ((w.getD ((j:Int) - 1).toNat 0) ^^^ 32)]) a3 rfl (aw cT kf z5 rfl U U rfl) fun A36 aD V=>?_);have a1:=D.le V.le;have aa:=a2.trans V.le;refine a7 _ _<|.l Z (fun _ _ a8 _=>cR (ys:=[ej ((w.getD ((j:Int) - 1).toNat 0) ^^^ 32)]) rfl rfl cT kf uE z5 rfl U cT (fun _ h=>by cases h) a1.own (bW (n:=1) V.get Z) rfl rfl (by show (_ + _) * 1<=_;simp only [aU,List.length_cons,List.length_nil];(try simp only [List.length_append,List.length_cons,List.length_nil]);omega) O3 fun A42 aC a0=>?_);rw [show ([ej ((w.getD ((j:Int) - 1).toNat 0) ^^^ 32)]:List Value)=aq [(w.getD ((j:Int) - 1).toNat 0) ^^^ 32] from rfl,eI] at a0;obtain ⟨a5,ab⟩:=Fresh.grow a1 aa wf a0;refine a8 _ _<|.q Z (ae Z)<|.nil<|av _ _<|.region<|.q Z (ah Z)<|.q Z (uH Z Z O)<|.q Z (ae Z)<|.nil ?_;exact ⟨⟨j - 1,o ++ [(w.getD ((j:Int) - 1).toNat 0) ^^^ 32],aC⟩,am.cons Z<|am.cons Z<|am.cons (congrArg (fun z:Int=>some (num z)) O)<|am.nil _,Z,⟨⟨by omega,by rw [ho,htn];exact BQ O hj⟩,ab,a5⟩,O1⟩
 refine al.exit<|ag _ _<|.seq fun _ ay=>.region<|.q Z (ah Z)<|.l Z (fun _ _ a9 _=>ee (s:=o) Z cT u9 u5 D.slc ?_);refine a9 _ _<|.q Z (ae Z)<|.nil<|ay _ _<|.rt (by exact aE Z (⟨by unfold ed;(rw [if_pos (by simpa using ‹(!qF w)=false›),ho,show j=0 by omega];rfl),a2,a3⟩))

theorem KU (w:List UInt8) (A:AH) (hw:w.length<=1000000):bz Tryz.prog 95 #[bg (w)] A (fun v A1=>v=bg (cJ w)/\A.le A1/\A1.wf):=by
 refine ic Tryz.call95 Tryz.func95 Z Tryz.results95 Tryz.ntmps95 Z (fun wf=>?_);have a9:=AH.le.refl A;refine al.seq fun _ h2=>.region<|.q Z (ae Z)<|.nil<|h2 _ _<|.seq fun _ h4=>.seq fun _ h6=>.region<|.q Z (ah Z)<|.l Z (fun _ _ aS _=>au Z (Ja w A) ?_);rintro v8 A9 ⟨rfl,rfl⟩;refine aS _ _<|.q Z (eo Z)<|.nil<|h6 _ _<|.ifB Z (fun aY=>?_) (fun aY=>?_)
 ·refine al.seq fun _ aB=>.region<|.q Z (ae Z)<|.nil<|aB _ _<|.rt (by exact aE Z (⟨by unfold cJ;(rw [if_neg (by simpa using ‹(!qF w)=true›)];rfl),a9,wf⟩))
 refine al.skip<|h4 _ _<|.seq fun _ aC=>.region<|.q Z (ae Z)<|.nil<|aC _ _<|.seq fun _ aD=>.seq fun _ aF=>.region ?_;refine Ops.q Z (ae Z)<|.nil<|aF _ _<|.block<|.loop (X:=Nat × List UInt8 × Value) (fun ⟨i,o,s⟩=>[(0,bg (w)),(3,s),(4,num ((i:Nat):Int))]) (fun ⟨i,o,s⟩ B=>(i<=w.length/\(w.drop i).foldl push o=mg w/\o.length<=i)/\A.le B/\Fresh A B s 1 (aq o)) (fun ⟨i,o,s⟩=>w.length - i) (⟨0,[],.slice none 0 0⟩) (ll Z Z Z) (⟨⟨Nat.zero_le _,Z,Nat.le_refl _⟩,a9,(Fresh.nil A A 1)⟩) ?_;rintro ⟨i,o,s⟩ B21 ⟨⟨hi,h3,h4⟩,V,D⟩;refine al.wf fun a5=>?_;have hk:=OL (w:=w) (by simpa using ‹(!qF w)=false›);refine al.seq fun _ aG=>.seq fun _ aI=>.region<|.q Z (ah Z)<|.q Z (ah Z)<|.q Z (cw u9 Z)<|.q Z (bX Z Z)<|.nil<|aI _ _<|.if rfl (fun aZ=>?_) (fun aZ=>?_)
 ·refine al.skip<|aG _ _<|.seq fun _ a8=>.block<|.seq fun _ aP=>.region<|.q Z (ah Z)<|.q Z (bF (n:=o.length) cT Z D.slc O (eU _))<|.q Z (ae Z)<|.nil ?_;refine aP _ _<|.join (fun f A1=>am [(30,.bool (decide (0 < o.length/\o.getD (o.length - 1) 0=w.getD i 0 ^^^ 32))),(0,bg (w)),(3,s),(4,num ((i:Nat):Int)),(9,num ((i:Nat):Int)),(10,bg (w)),(11,num ((w.length:Nat):Int)),(12,.bool (decide (i < w.length))),(15,s),(16,num ((o.length:Nat):Int)),(5,num ((o.length:Nat):Int))] f.e/\f.ds=[]/\B21=A1) ?_ ?_
  ·refine al.drawn [0,1,2,3,4,5,6,7,8,9,10,11,12,13] mixed Y Y Z<|.q Z Z Z (ah Z)<|.q Z Z Z (d8 (b:=0) Z Z)<|.q Z Z Z (ah Z)<|.part (t:=19) Z (fun b0=>?_) (fun b0=>?_)
   ·refine bk.qOn Z Z Z Z Z (ah Z)<|.qOn Z Z Z Z Z (ah Z)<|.qOn Z Z Z Z Z (il (b:=1) Z Z O) ?_;obtain ⟨av,a6,b7,bd,b6,bb,ba,aA,aT,a7,b5,a2⟩:=bI.at (i:=o.length - 1) D.slc Oy O;refine bk.qOn Z Z Z Z Z (aH cT kf Z aA Z aT) ?_;have ab:=c5 (off:=a6 + (o.length - 1) * 1) a7 ((cQ a2).trans (fZ O));refine bk.qOn Z Z Z Z Z (ak Mo Z Z a7 ((cQ a2).trans (fZ O)))<|.qOn Z Z Z Z Z (ah Z)<|.qOn Z Z Z Z Z (ah Z)<|.qOn Z Z Z Z Z (lR u9 Z Z O)<|.lOn Z Z Z Z Z (fun _ _ ac _=>au Z (C5 (w.getD i 0) B21 (sD hk O)) ?_);rintro bl A39 ⟨rfl,rfl⟩;refine ac _ _ (aX.list (L:=[(⟨av,a6 + (o.length - 1) * 1,none⟩,ej (o.getD (o.length - 1) 0))]) Y (bx ab cO))<|.qOn Z Z Z Z Z (yi Z Z)<|.q Z Z Z (aJ Z Z)<|.done ?_;exact ⟨am.cons (show some _=some _ from congrArg (fun b=>some (Value.bool b)) (show (decide ((o.getD (o.length - 1) 0)=((w.getD i 0) ^^^ 32)))=decide (0 < o.length/\o.getD (o.length - 1) 0=w.getD i 0 ^^^ 32) from (by simp only [‹0 < _›,true_and])))<|Bn Z Z Z Z Z Z Z Z Z Z,Z,Z⟩
   refine bk.qOff Z Z Z Z Z Z<|.qOff Z Z Z Z Z Z<|.qOff Z Z Z Z Z Z<|.qOff Z Z Z Z Z Z<|.qOff Z Z Z Z Z Z<|.qOff Z Z Z Z Z Z<|.qOff Z Z Z Z Z Z<|.qOff Z Z Z Z Z Z<|.lOff Z Z Z Z Z Z<|.qOff Z Z Z Z Z Z ?_;refine bk.q Z Z Z (aL Z Z)<|.done ?_;exact ⟨am.cons (show some _=some _ from congrArg (fun b=>some (Value.bool b)) (show (false)=decide (0 < o.length/\o.getD (o.length - 1) 0=w.getD i 0 ^^^ 32) from (by simp only [‹¬ 0 < _›,false_and,decide_false])))<|Bn Z Z Z Z Z Z Z Z Z Z,Z,Z⟩
  rintro ⟨fe,fd⟩ _ ⟨hE,rfl,rfl⟩;refine al.forget hE<|.if rfl (fun b1=>?_) (fun b1=>?_)
  ·refine al.region<|.q Z (ah Z)<|.q Z (ah Z)<|.q Z (il (b:=1) Z Z O) ?_;obtain ⟨ay,bc,az,b2,aV,b9⟩:=D.nonnil (by intro q;have:=congrArg List.length q;simp only [aU,List.length_nil] at this;omega);subst b2;rw [aU,Nat.mul_one] at aV;have a3:=D.take (k:=o.length - 1) O;rw [Nat.mul_one,jV] at a3;refine Ops.q Z (lS cT kf Z Z O)<|.q Z (ae Z)<|.nil<|a8 _ _<|.region<|.q Z (ah Z)<|.q Z (bE (b:=1) Z Z O)<|.q Z (ae Z)<|.nil ?_;exact ⟨⟨i + 1,o.take (o.length - 1),.slice (some ⟨ay,0,none⟩) (o.length - 1) az⟩,ll Z Z Z,Z,⟨⟨by omega,by exact va Oj h3 ‹_›,by simp only [List.length_append,List.length_take,List.length_cons,List.length_nil];omega⟩,V,a3⟩,O1⟩
  refine al.region<|.q Z (ah Z)<|.q Z (ah Z)<|.q Z (ah Z)<|.q Z (lR u9 Z Z O)<|.l Z (fun _ _ ad _=>aM (c:=[ej (w.getD i 0)]) a5 rfl (aw cT kf z5 rfl U U rfl) fun A46 b8 a0=>?_);have a4:=D.le a0.le;have ap:=V.trans a0.le;refine ad _ _<|.l Z (fun _ _ ag _=>cR (ys:=[ej (w.getD i 0)]) rfl rfl cT kf uE z5 rfl U cT (fun _ h=>by cases h) a4.own (bW (n:=1) a0.get Z) rfl rfl (by show (_ + _) * 1<=_;simp only [aU,List.length_cons,List.length_nil];(try simp only [List.length_append,List.length_cons,List.length_nil]);omega) O3 fun A52 b3 a1=>?_);rw [show ([ej (w.getD i 0)]:List Value)=aq [w.getD i 0] from rfl,eI] at a1;obtain ⟨aa,ar⟩:=Fresh.grow a4 ap wf a1;refine ag _ _<|.q Z (ae Z)<|.nil<|a8 _ _<|.region<|.q Z (ah Z)<|.q Z (bE (b:=1) Z Z O)<|.q Z (ae Z)<|.nil ?_;exact ⟨⟨i + 1,o ++ [w.getD i 0],b3⟩,ll Z Z Z,Z,⟨⟨by omega,by exact vb Oj h3 ‹_›,by simp only [List.length_append,List.length_take,List.length_cons,List.length_nil];omega⟩,ar,aa⟩,O1⟩
 refine al.exit<|aD _ _<|.seq fun _ aR=>.region<|.q Z (ah Z)<|.l Z (fun _ _ ai _=>ee (s:=o) Z cT u9 u5 D.slc ?_);refine ai _ _<|.q Z (ae Z)<|.nil<|aR _ _<|.rt (by exact aE Z (⟨by unfold cJ;(rw [if_pos (by simpa using ‹(!qF w)=false›),<- h3,pK O];rfl),V,a5⟩))
end Go.Proofs.YtjppkekmddjcfaaGreatDoor

namespace Go.Proofs.YtjppkekmddjcfaaGreatDoor
open Go Go.RowKit V
set_option maxRecDepth 100000


theorem FP (x y:List UInt8) (A:AH) (hx:x.length<=1000000) (hy:y.length<=1000000):bz Tryz.prog 25 #[bg (x),bg (y)] A (fun v A1=>v=num (dy x y)/\A=A1):=by
 refine mf Tryz.call25 Tryz.func25 Z Tryz.results25 Tryz.ntmps25 Z (fun wf=>?_);have aR:=AH.le.refl A;refine al.seq fun _ h2=>.region<|.q Z (ae Z)<|.nil<|h2 _ _<|.seq fun _ h4=>.seq fun _ h6=>.region<|.q Z (ah Z)<|.l Z (fun _ _ aA _=>au Z (Ja x A) ?_);rintro v8 A9 ⟨rfl,rfl⟩;refine aA _ _<|.q Z (eo Z)<|.q Z (ah Z)<|.partB (t:=11) Z (fun aB=>?_) (fun aB=>?_)
 ·refine Ops.off Z Z Z Z<|.off Z Z Z Z<|.off Z Z Z Z<|.q Z (aJ Z Z)<|.nil<|h6 _ _<|.cond_true Z<|.seq fun _ a0=>.region<|.q Z (ae Z) ?_;refine Ops.nil<|a0 _ _<|.rt (by exact aE Z (⟨by (rw [Gz ‹_›];rfl),Z⟩))
 refine Ops.on Z Z<|.q Z (ah Z)<|.on Z Z<|.l Z (fun _ _ h _=>au Z (Ja y A) ?_);rintro aS A16 ⟨rfl,rfl⟩;refine h _ _<|.on Z Z<|.q Z (eo Z)<|.q Z (aL Z Z)<|.nil<|h6 _ _<|.ifB Z (fun aC=>?_) (fun aC=>?_)
 ·refine al.seq fun _ a1=>.region<|.q Z (ae Z)<|.nil<|a1 _ _<|.rt (by exact aE Z (⟨by (rw [GA ‹_›];rfl),Z⟩))
 refine al.skip<|h4 _ _<|.seq fun _ a2=>.seq fun _ a3=>.region<|.q Z (ah Z)<|.q Z (cw u9 Z)<|.q Z (ah Z)<|.q Z (cw u9 Z)<|.q Z (fh Z Z) ?_;refine Ops.nil<|a3 _ _<|.if rfl (fun aD=>?_) (fun aD=>?_)
 ·refine al.seq fun _ a4=>.seq fun _ a5=>.region<|.q Z (ah Z)<|.q Z (cw u9 Z)<|.q Z (ah Z)<|.q Z (cw u9 Z)<|.q Z (bX Z Z)<|.nil<|a5 _ _ ?_;refine al.if rfl (fun aF=>?_) (fun aF=>?_)
  ·refine al.seq fun _ a6=>.region<|.q Z (ae Z)<|.nil<|a6 _ _<|.rt (by exact aE Z (⟨by (rw [kI ‹_› ‹_›];first | (rw [np O] at hc;rw [<- hc];rfl) | (rw [eW O O,if_pos ‹_›] at hc;rw [<- hc];rfl) | (rw [eW O O,if_neg ‹_›,if_pos ‹_›] at hc;rw [<- hc];rfl) | (rw [fy,if_pos ‹¬ x.length=y.length›,if_pos ‹x.length < y.length›];rfl) | (rw [fy,if_pos ‹¬ x.length=y.length›,if_neg ‹¬ x.length < y.length›];rfl)),Z⟩))
  refine al.skip<|a4 _ _<|.seq fun _ a7=>.region<|.q Z (ae Z)<|.nil<|a7 _ _<|.rt (by exact aE Z (⟨by (rw [kI ‹_› ‹_›];first | (rw [np O] at hc;rw [<- hc];rfl) | (rw [eW O O,if_pos ‹_›] at hc;rw [<- hc];rfl) | (rw [eW O O,if_neg ‹_›,if_pos ‹_›] at hc;rw [<- hc];rfl) | (rw [fy,if_pos ‹¬ x.length=y.length›,if_pos ‹x.length < y.length›];rfl) | (rw [fy,if_pos ‹¬ x.length=y.length›,if_neg ‹¬ x.length < y.length›];rfl)),Z⟩))
 refine al.skip<|a2 _ _<|.seq fun _ a8=>.seq fun _ a9=>.region<|.q Z (ae Z)<|.nil<|a9 _ _<|.block<|.loop (X:=Nat) (fun k=>[(0,bg (x)),(1,bg (y)),(5,num ((k:Nat):Int))]) (fun k B=>(k<=x.length/\ip (x.drop k) (y.drop k)=fy x y)/\A=B) (fun k=>x.length - k) 0 (ll Z Z Z) (⟨⟨Nat.zero_le _,(Ie ‹_›).symm⟩,Z⟩) ?_;rintro k B40 ⟨⟨hk,hc⟩,rfl⟩;refine al.seq fun _ aa=>.seq fun _ ab=>.region<|.q Z (ah Z)<|.q Z (ah Z)<|.q Z (cw u9 Z)<|.q Z (bX Z Z)<|.nil<|ab _ _<|.if rfl (fun aG=>?_) (fun aG=>?_)
 ·refine al.skip<|aa _ _<|.seq fun _ ac=>.block<|.seq fun _ ad=>.region<|.q Z (ah Z)<|.q Z (ah Z)<|.q Z (lR u9 Z Z O)<|.l Z (fun _ _ D _=>au Z (sO (x.getD k 0) A) ?_);rintro aT A52 ⟨rfl,rfl⟩;refine D _ _<|.q Z (ae Z)<|.nil<|ad _ _<|.seq fun _ ag=>.region<|.q Z (ah Z)<|.q Z (ah Z)<|.q Z (lR u9 Z Z O)<|.l Z (fun _ _ V _=>au Z (sO (y.getD k 0) A) ?_);rintro aV A58 ⟨rfl,rfl⟩;refine V _ _<|.q Z (ae Z)<|.nil<|ag _ _<|.seq fun _ ai=>.seq fun _ ap=>.region<|.q Z (ah Z)<|.q Z (ah Z)<|.q Z (jd Z Z) ?_;refine Ops.nil<|ap _ _<|.if rfl (fun aI=>?_) (fun aI=>?_)
  ·refine al.seq fun _ ar=>.region<|.q Z (ae Z)<|.nil<|ar _ _<|.rt (by exact aE Z (⟨by (rw [kI ‹_› ‹_›];first | (rw [np O] at hc;rw [<- hc];rfl) | (rw [eW O O,if_pos ‹_›] at hc;rw [<- hc];rfl) | (rw [eW O O,if_neg ‹_›,if_pos ‹_›] at hc;rw [<- hc];rfl) | (rw [fy,if_pos ‹¬ x.length=y.length›,if_pos ‹x.length < y.length›];rfl) | (rw [fy,if_pos ‹¬ x.length=y.length›,if_neg ‹¬ x.length < y.length›];rfl)),Z⟩))
  refine al.skip<|ai _ _<|.seq fun _ av=>.region<|.q Z (ah Z)<|.q Z (ah Z)<|.q Z (uG Z Z)<|.nil<|av _ _<|.if rfl (fun aP=>?_) (fun aP=>?_)
  ·refine al.seq fun _ ay=>.region<|.q Z (ae Z)<|.nil<|ay _ _<|.rt (by exact aE Z (⟨by (rw [kI ‹_› ‹_›];first | (rw [np O] at hc;rw [<- hc];rfl) | (rw [eW O O,if_pos ‹_›] at hc;rw [<- hc];rfl) | (rw [eW O O,if_neg ‹_›,if_pos ‹_›] at hc;rw [<- hc];rfl) | (rw [fy,if_pos ‹¬ x.length=y.length›,if_pos ‹x.length < y.length›];rfl) | (rw [fy,if_pos ‹¬ x.length=y.length›,if_neg ‹¬ x.length < y.length›];rfl)),Z⟩))
  refine al.skip<|ac _ _<|.region<|.q Z (ah Z)<|.q Z (bE (b:=1) Z Z O)<|.q Z (ae Z)<|.nil ?_;exact ⟨k + 1,ll Z Z Z,Z,⟨⟨by omega,by rw [eW O O,if_neg ‹_›,if_neg ‹_›] at hc;exact hc⟩,Z⟩,O1⟩
 refine al.exit<|a8 _ _<|.seq fun _ az=>.region<|.q Z (ae Z)<|.nil<|az _ _<|.rt (by exact aE Z (⟨by (rw [kI ‹_› ‹_›];first | (rw [np O] at hc;rw [<- hc];rfl) | (rw [eW O O,if_pos ‹_›] at hc;rw [<- hc];rfl) | (rw [eW O O,if_neg ‹_›,if_pos ‹_›] at hc;rw [<- hc];rfl) | (rw [fy,if_pos ‹¬ x.length=y.length›,if_pos ‹x.length < y.length›];rfl) | (rw [fy,if_pos ‹¬ x.length=y.length›,if_neg ‹¬ x.length < y.length›];rfl)),Z⟩))
end Go.Proofs.YtjppkekmddjcfaaGreatDoor

namespace Go.Proofs.YtjppkekmddjcfaaGreatDoor
open Go Go.RowKit V
set_option maxRecDepth 100000


theorem KR (c:UInt8) (g:Int) (A:AH) (hg:1<=g/\g<=8):bz Tryz.prog 68 #[ej (c),num (g)] A (fun v A1=>v=num (LS g c)/\A=A1):=by
 refine mf Tryz.call68 Tryz.func68 Z Tryz.results68 Tryz.ntmps68 Z (fun wf=>?_);have ac:=AH.le.refl A;have aa:=(c - 97).toNat_lt;have ab:=(c - 65).toNat_lt;refine al.seq fun _ h2=>.region<|.q Z (ae Z)<|.nil<|h2 _ _<|.seq fun _ h4=>.block<|.seq fun _ h6=>.region<|.q Z (ah Z) ?_;refine Ops.q Z (rk (d:=97) Z Z)<|.q Z (ah Z)<|.part (t:=8) Z (fun p7=>?_) (fun p7=>?_)
 ·refine Ops.on Z Z<|.q Z (ah Z)<|.on Z Z<|.q Z (mF (d:=97) Z Z)<|.on Z Z<|.q Z (kW u5 u3 Z)<|.on Z Z<|.q Z (ah Z)<|.on Z Z<|.q Z (jd Z Z) ?_;refine Ops.q Z (aJ Z Z)<|.q Z (ae Z)<|.nil<|h6 _ _<|.if rfl (fun p8=>?_) (fun p8=>?_)
  ·refine al.seq fun _ X=>.region<|.q Z (ah Z)<|.q Z (mF (d:=97) Z Z)<|.q Z (kW u5 u3 Z)<|.q Z (p4 (a:=2) Z Z O)<|.q Z (ae Z)<|.nil<|X _ _<|.rt (by exact aE Z (⟨by (rw [<- JZ hg ‹_› ‹_›];rfl),Z⟩))
  refine al.seq fun _ D=>.region<|.q Z (ah Z)<|.q Z (rk (d:=65) Z Z)<|.q Z (ah Z)<|.part (t:=22) Z (fun a6=>?_) (fun a6=>?_)
  ·refine Ops.on Z Z<|.q Z (ah Z)<|.on Z Z<|.q Z (mF (d:=65) Z Z)<|.on Z Z<|.q Z (kW u5 u3 Z)<|.on Z Z<|.q Z (ah Z)<|.on Z Z<|.q Z (jd Z Z) ?_;refine Ops.q Z (aJ Z Z)<|.q Z (ae Z)<|.nil<|D _ _<|.if rfl (fun a7=>?_) (fun a7=>?_)
   ·refine al.seq fun _ a0=>.region<|.q Z (ah Z)<|.q Z (mF (d:=65) Z Z)<|.q Z (kW u5 u3 Z)<|.q Z (p4 (a:=2) Z Z O)<|.q Z (bE (b:=1) Z Z O)<|.q Z (ae Z)<|.nil<|a0 _ _ ?_;refine al.ret ?_;repeat first | with_reducible refine bw ?_ | with_reducible refine bj ?_
    exact aE Z (⟨by (rw [<- IB hg ‹_› ‹_›];rfl),Z⟩)
   refine al.skip<|h4 _ _<|.seq fun _ a1=>.region<|.q Z (ae Z)<|.nil<|a1 _ _<|.rt (by exact aE Z (⟨by (rw [zl (fun h=>by first | exact ‹¬ (97:UInt8)<=c› h.1 | exact ‹¬ (((c - 97).toNat:Nat):Int) < g› h.2) (fun h=>by first | exact ‹¬ (65:UInt8)<=c› h.1 | exact ‹¬ (((c - 65).toNat:Nat):Int) < g› h.2)];rfl),Z⟩))
  refine Ops.off Z Z Z Z<|.off Z Z Z Z<|.off Z Z Z Z<|.off Z Z Z Z<|.off Z Z Z Z<|.q Z (aL Z Z)<|.q Z (ae Z)<|.nil<|D _ _<|.cond_false Z ?_;refine al.skip<|h4 _ _<|.seq fun _ a2=>.region<|.q Z (ae Z)<|.nil<|a2 _ _<|.rt (by exact aE Z (⟨by (rw [zl (fun h=>by first | exact ‹¬ (97:UInt8)<=c› h.1 | exact ‹¬ (((c - 97).toNat:Nat):Int) < g› h.2) (fun h=>by first | exact ‹¬ (65:UInt8)<=c› h.1 | exact ‹¬ (((c - 65).toNat:Nat):Int) < g› h.2)];rfl),Z⟩))
 refine Ops.off Z Z Z Z<|.off Z Z Z Z<|.off Z Z Z Z<|.off Z Z Z Z<|.off Z Z Z Z<|.q Z (aL Z Z)<|.q Z (ae Z)<|.nil<|h6 _ _<|.cond_false Z ?_;refine al.seq fun _ V=>.region<|.q Z (ah Z)<|.q Z (rk (d:=65) Z Z)<|.q Z (ah Z)<|.part (t:=22) Z (fun a8=>?_) (fun a8=>?_)
 ·refine Ops.on Z Z<|.q Z (ah Z)<|.on Z Z<|.q Z (mF (d:=65) Z Z)<|.on Z Z<|.q Z (kW u5 u3 Z)<|.on Z Z<|.q Z (ah Z)<|.on Z Z<|.q Z (jd Z Z) ?_;refine Ops.q Z (aJ Z Z)<|.q Z (ae Z)<|.nil<|V _ _<|.if rfl (fun a9=>?_) (fun a9=>?_)
  ·refine al.seq fun _ a3=>.region<|.q Z (ah Z)<|.q Z (mF (d:=65) Z Z)<|.q Z (kW u5 u3 Z)<|.q Z (p4 (a:=2) Z Z O)<|.q Z (bE (b:=1) Z Z O)<|.q Z (ae Z)<|.nil<|a3 _ _ ?_;refine al.ret ?_;repeat first | with_reducible refine bw ?_ | with_reducible refine bj ?_
   exact aE Z (⟨by (rw [<- IB hg ‹_› ‹_›];rfl),Z⟩)
  refine al.skip<|h4 _ _<|.seq fun _ a4=>.region<|.q Z (ae Z)<|.nil<|a4 _ _<|.rt (by exact aE Z (⟨by (rw [zl (fun h=>by first | exact ‹¬ (97:UInt8)<=c› h.1 | exact ‹¬ (((c - 97).toNat:Nat):Int) < g› h.2) (fun h=>by first | exact ‹¬ (65:UInt8)<=c› h.1 | exact ‹¬ (((c - 65).toNat:Nat):Int) < g› h.2)];rfl),Z⟩))
 refine Ops.off Z Z Z Z<|.off Z Z Z Z<|.off Z Z Z Z<|.off Z Z Z Z<|.off Z Z Z Z<|.q Z (aL Z Z)<|.q Z (ae Z)<|.nil<|V _ _<|.cond_false Z ?_;refine al.skip<|h4 _ _<|.seq fun _ a5=>.region<|.q Z (ae Z)<|.nil<|a5 _ _<|.rt (by exact aE Z (⟨by (rw [zl (fun h=>by first | exact ‹¬ (97:UInt8)<=c› h.1 | exact ‹¬ (((c - 97).toNat:Nat):Int) < g› h.2) (fun h=>by first | exact ‹¬ (65:UInt8)<=c› h.1 | exact ‹¬ (((c - 65).toNat:Nat):Int) < g› h.2)];rfl),Z⟩))

theorem l8 (w:List UInt8) (g:Int) (A:AH) (hw:w.length<=9223372036854775807) (hg:1<=g/\g<=8):bz Tryz.prog 27 #[bg (w),num (g)] A (fun v A1=>v=.bool (decide (bq g w=0))/\A=A1):=by
 refine mf Tryz.call27 Tryz.func27 Z Tryz.results27 Tryz.ntmps27 Z (fun wf=>?_);have a7:=AH.le.refl A;refine al.seq fun _ h2=>.region<|.q Z (ae Z)<|.nil<|h2 _ _<|.seq fun _ h4=>.seq fun _ h6=>.region<|.q Z (ae Z)<|.nil ?_;refine h6 _ _<|.block<|.loop (X:=Nat) (fun i=>[(0,bg (w)),(1,num (g)),(5,num ((i:Nat):Int))]) (fun i B=>(i<=w.length/\∀ j,j < i->¬ LS g (w.getD j 0) < 0)/\A=B) (fun i=>w.length - i) 0 (ll Z Z Z) (⟨⟨Nat.zero_le _,fun j h=>by omega⟩,Z⟩) ?_;rintro i B8 ⟨⟨hi,hn⟩,rfl⟩;refine al.seq fun _ V=>.seq fun _ a0=>.region<|.q Z (ah Z)<|.q Z (ah Z)<|.q Z (cw u9 Z)<|.q Z (bX Z Z)<|.nil<|a0 _ _<|.if rfl (fun a5=>?_) (fun a5=>?_)
 ·refine al.skip<|V _ _<|.seq fun _ a1=>.block<|.seq fun _ a2=>.region<|.q Z (ah Z)<|.q Z (ah Z)<|.q Z (lR u9 Z Z O)<|.q Z (ah Z) ?_;refine Ops.l Z (fun _ _ D _=>au Z (KR (w.getD i 0) (g) A O) ?_);rintro a8 A20 ⟨rfl,rfl⟩;refine D _ _<|.q Z (jd Z Z)<|.nil<|a2 _ _<|.if rfl (fun a6=>?_) (fun a6=>?_)
  ·refine al.seq fun _ a3=>.region<|.q Z (ae Z)<|.nil<|a3 _ _<|.rt (by exact aE Z (⟨by (rw [EO hg O ‹_›];rfl),Z⟩))
  refine al.skip<|a1 _ _<|.region<|.q Z (ah Z)<|.q Z (bE (b:=1) Z Z O)<|.q Z (ae Z)<|.nil ?_;exact ⟨i + 1,ll Z Z Z,Z,⟨⟨by omega,fun j h=>(Nat.lt_succ_iff_lt_or_eq.1 h).elim (hn j) (fun z=>by subst z;assumption)⟩,Z⟩,O1⟩
 refine al.exit<|h4 _ _<|.seq fun _ a4=>.region<|.q Z (ah Z)<|.q Z (cw u9 Z)<|.q Z (sH (b:=100000) Z Z)<|.q Z (ae Z)<|.nil<|a4 _ _ ?_;refine al.ret ?_;repeat first | with_reducible refine bw ?_ | with_reducible refine bj ?_
 exact aE Z (⟨by (rw [BW hg O hn];rfl),Z⟩)
end Go.Proofs.YtjppkekmddjcfaaGreatDoor
