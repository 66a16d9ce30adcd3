import Derived.Test.YtjppkekmddjcfaaGreatDoorRC1
import Derived.RangeFuncSeq
import Derived.RangeFuncRecord
import Derived.TacticsIn
import Derived.OrdersIn
import Derived.Shelf.SlGeneric
import Derived.Shelf.SlLaysF0
import Derived.Shelf.Lays
import Derived.Ground.SlsfProg
import Derived.Ground.NamesProg
import Derived.Test.YtjppkekmddjcfaaGreatDoorProg
import Derived.Shelf.Strings.Search3
import Derived.Test.YtjppkekmddjcfaaGreatDoorCards
import Derived.Test.YtjppkekmddjcfaaGreatDoorTie
import Derived.WalkKit
import Derived.ProofKit
import Derived.OpenShut
import Derived.Carry
import Derived.SliceStrings
import Derived.ChangeSame
import Derived.ChangeMaps5
import Derived.Deep.DeepHandedRow
import Derived.Deep.DeepLaidRun
import Derived.Lib.LaidTab
import Derived.Shelf.Vars
import Derived.KernelRfl
set_option linter.unusedSectionVars false
set_option linter.unusedVariables false
set_option linter.unusedSimpArgs false
namespace Go.Proofs.YtjppkekmddjcfaaGreatDoor
open Go Go.RowKit
namespace V

abbrev FR (l:Nat):Fence:=Fence.wide.inRound l
def wG (F:Fence):Prop:=F=Fence.wide\/∃ l,F=FR l
theorem ks:wG Fence.wide:=.inl Z
theorem qj (l:Nat):wG (FR l):=.inr ⟨l,rfl⟩
def jb (o:Oper):Bool:=match o.op with | .defer _=>false | _=>true

section
variable {P:Program} {F:Fence} {n:Nat}
theorem zR (hF:wG F) {g:FuncId} {args:Array Value} {w:World} {R:Ending->World->Prop} (h:Calls P g args w R):CallsIn F n P g args w R:=by
  have:=callsIn_wide (n:=n).2 h
  rcases hF with rfl | ⟨l,rfl⟩
  · exact this
  · exact this
theorem Gz (hF:wG F) {row:String} {args:Array Value} {w:World} {R:Value->World->Prop} (h:Rows P row args w R):RowsIn F n P row args w R:=fun c cs _=>by
  obtain ⟨v,w',r,s⟩:=h c cs
  have s':=stepsIn_wide.2 s
  rcases hF with rfl | ⟨l,rfl⟩
  · exact ⟨v,w',r,s'⟩
  · exact ⟨v,w',r,s'⟩
theorem rj (hF:wG F) (f:FuncId):F.fn f:=by rcases hF with rfl | ⟨l,rfl⟩ <;> trivial
theorem r0 (hF:wG F):F.depth.isSome=true->1<=n:=by rcases hF with rfl | ⟨l,rfl⟩ <;> (intro q;cases q)
theorem Sa (hF:wG F) {o:Oper} {a:Act} {w:World} {K:Act->World->Prop} {Q:Exit->Act->World->Prop} (hd:jb o=true) (h:o.wp P a w K Q):o.wpIn F n P a w K Q:=by
  have hs:o.semAt F.round a.eval=execOp a.eval o:=Oper.semAt_eq _ _ _ (fun c hc=>by simp [jb,hc] at hd)
  refine ⟨fun f _=>rj hF f,?_⟩
  rw [hs]
  unfold Oper.wp at h
  generalize (execOp a.eval o).run P w=r at h ⊢
  cases r with
  | ok x w' =>
    cases x <;> simp only [Oper.upon] at h <;> simp only [Oper.uponIn] <;>
      first | exact h | exact h.elim | exact ⟨r0 hF,zR hF h⟩ | exact ⟨r0 hF,Gz hF h⟩
  | halt x w'=>cases x <;> simp only [Oper.upon] at h <;> simp only [Oper.uponIn] <;> exact h

theorem yR (hF:wG F) {all:Array Oper} {Q:Exit->Act->World->Prop} (hQ:¬ LetsOut Q):∀ (os:List Oper) (a:Act) (w:World),os.all jb=true->wpList P all Q os a w->wpListIn F n P all Q os a w
  | [],_,_,_,h=>h
  | o :: os,a,w,hd,h=>by
    simp only [List.all_cons,Bool.and_eq_true] at hd
    unfold wpList at h
    unfold wpListIn
    split
    · rename_i hw
      rw [if_pos hw] at h
      rcases h with h | ⟨_,h⟩
      · exact Sa hF hd.1 (Oper.wp_mono (fun a w=>yR hF hQ os a w hd.2) h)
      · exact absurd h hQ
    · rename_i hw
      rw [if_neg hw] at h
      exact ⟨fun f _=>rj hF f,yR hF hQ os _ w hd.2 h⟩

theorem yr (hF:wG F) {ops:Array Oper} {Q:Exit->Act->World->Prop} (hQ:¬ LetsOut Q) (hd:ops.toList.all jb=true):∀ (fuel:Nat) (l:Array Bool) (a:Act) (w:World),wpAny P .any ops Q fuel l a w->wpAnyIn F n P .any ops Q fuel l a w
  | 0,_,_,_,h=>h
  | fuel + 1,l,a,w,h=>⟨h.1,fun i hi=>by
      have h2:=h.2 i hi
      unfold wpOp at h2
      unfold wpOpIn
      split
      · rename_i q;simp only [q] at h2;exact yr hF hQ hd fuel _ a w h2
      · rename_i o q
        simp only [q] at h2
        have ho:jb o=true:=List.all_eq_true.1 hd o (by
          obtain ⟨hlt,e⟩:=Array.getElem?_eq_some_iff.1 q
          rw [<- e];exact Array.getElem_mem_toList hlt)
        split
        · rename_i hw
          rw [if_pos hw] at h2
          rcases h2 with h2 | ⟨_,h2⟩
          · exact Sa hF ho (Oper.wp_mono (fun a w=>yr hF hQ hd fuel _ a w) h2)
          · exact absurd h2 hQ
        · rename_i hw
          rw [if_neg hw] at h2
          exact ⟨fun f _=>rj hF f,yr hF hQ hd fuel _ _ w h2⟩⟩
end

def ef (P:Program) (nt:Nat) (F:Fence) (c:Code) (Q:Exit->Fr->AH->Prop) (f:Fr) (A:AH):Prop :=
  ∀ a w,cW nt f a->cu A w->c.wpIn F 0 P (lq nt Q A w) a w
def rX (Q:Exit->Fr->AH->Prop):Prop:=∀ f A,¬ Q .outgrown f A
theorem pm {K:Fr->AH->Prop} {Q:Exit->Fr->AH->Prop} (h:rX Q):rX (qQ K Q):=fun f A=>h f A
theorem lj {i:Nat} {Q:Exit->Fr->AH->Prop} (h:rX Q):rX (mD i Q):=fun f A=>h f A
def vO (R:Fr->AH->Prop):Exit->Fr->AH->Prop
  | .normal,f,A=>R f A
  | _,_,_=>False
theorem iG {R:Fr->AH->Prop}:rX (vO R):=fun _ _ h=>h
theorem Bi {nt:Nat} {Q:Exit->Fr->AH->Prop} (h:rX Q) {A:AH} {w:World}:¬ LetsOut (dU nt Q A w):=fun ⟨_,_,_,_,_,_,_,q,_⟩=>h _ _ q
theorem DT {nt:Nat} {Q:Exit->Fr->AH->Prop} (h:rX Q) {A:AH} {w:World}:¬ LetsOut (lq nt Q A w):=fun ⟨_,_,_,_,_,_,_,q,_⟩=>h _ _ q

section
variable {P:Program} {nt:Nat} {F:Fence} {Q:Exit->Fr->AH->Prop} {f:Fr} {A:AH} {e:gx} {ds:List Deferred}
theorem ef.wf {c:Code} (h:A.wf->ef P nt F c Q f A):ef P nt F c Q f A:=fun a w ha hw=>h hw.wf a w ha hw
theorem ef.skip (h:Q .normal f A):ef P nt F .skip Q f A:=fun _ _ ha hw=>wpIn_skip (.self ha hw h fun _ q=>by cases q)
theorem ef.seq {x y:Code} (h:∀ K:Fr->AH->Prop,(∀ f A,ef P nt F y Q f A->K f A)->ef P nt F x (qQ K Q) f A):ef P nt F (x.seq y) Q f A:=by
  intro a w ha hw
  refine wpIn_seq (wpIn_mono (h _ (fun _ _ h=>h) a w ha hw) ?_)
  rintro e a' w' ⟨f',A',h1,h2,h3,h4,h5⟩
  cases e with
  | normal=>exact wpIn_mono (h4 a' w' h1 h2) fun x a'' w'' g=>g.step h3
  | _=>exact ⟨f',A',h1,h2,h3,h4,h5⟩
theorem ef.cond {c:Operand} {x y:Code} {t:Bool} (hc:bX f.e c=some (.bool t)) (h1:t=true->ef P nt F x Q f A) (h2:t=false->ef P nt F y Q f A) :
    ef P nt F (.cond c x y) Q f A:=fun a w ha hw =>
  wpIn_cond_split (cL ha hc) (fun e=>h1 e a w ha hw) (fun e=>h2 e a w ha hw)
theorem ef.cond_false {c:Operand} {x y:Code} (hc:bX f.e c=some (.bool false)) (h1:ef P nt F y Q f A):ef P nt F (.cond c x y) Q f A :=
  ef.cond hc (fun e=>by cases e) (fun _=>h1)
theorem ef.if {c:Operand} {x y:Code} {p:Prop} [Decidable p] (hc:bX e c=some (.bool (decide p))) (h1:p->ef P nt F x Q ⟨e,ds⟩ A) (h2:¬ p->ef P nt F y Q ⟨e,ds⟩ A):ef P nt F (.cond c x y) Q ⟨e,ds⟩ A :=
  ef.cond hc (fun h=>h1 (of_decide_eq_true h)) (fun h=>h2 (of_decide_eq_false h))
theorem ef.block {i:Nat} {c:Code} (h:ef P nt F c (mD i Q) f A):ef P nt F (.block i c) Q f A:=fun a w ha hw=>by
  refine wpIn_block (wpIn_mono (h a w ha hw) ?_)
  rintro e a' w' ⟨f',A',h1,h2,h3,h4,h5⟩
  cases e with
  | exit j =>
    simp only [Exit.inBlock,mD] at h4 ⊢
    split
    · rename_i q;rw [if_pos q] at h4;exact ⟨f',A',h1,h2,h3,h4,fun _ q=>by cases q⟩
    · rename_i q;rw [if_neg q] at h4;exact ⟨f',A',h1,h2,h3,h4,h5⟩
  | _=>exact ⟨f',A',h1,h2,h3,h4,h5⟩
theorem ef.region {id:Nat} {l:List Oper} (hF:wG F) (hQ:rX Q) (hd:l.all jb=true) (h:Ops P nt l.toArray l Q f A):ef P nt F (.region id l.toArray false) Q f A :=
  fun a w ha hw=>wpIn_region_lit (yR hF (DT hQ) l a w hd (h a w ha hw A w (.refl _ _)))
theorem ef.drawn {id:Nat} {ops:Array Oper} (C:List Nat) (hF:wG F) (hQ:rX Q) (hd:ops.toList.all jb=true) (hm:P.follows .mixedOrders=true) (hc:mf ops (Array.replicate ops.size false) C=true) (hn:Region.noSelect ops=true) (hl:C.length=ops.size)
    (h:bj P nt ops Q (Array.replicate ops.size false) [] C f A):ef P nt F (.region id ops true) Q f A:=by
  intro a w ha hw
  obtain ⟨v1,s1⟩:=jj hw
  refine wpIn_mono (wpIn_region_any hm (yr hF (Bi hQ) hd _ _ _ _ (kb (Q:=dU nt Q A w) (S:=dN ops []) _ _ _ _ ?_))) (fun _ _ _=>dU.q)
  have key:=h hc hn a _ ha v1 (fun p hp=>by cases hp) (fun j o _ hj=>by
    exfalso
    rcases Nat.lt_or_ge j ops.size with q | q
    · simp [q] at hj
    · simp [q] at hj) A w s1
  rw [hl] at key
  exact key
theorem ef.run {c:Code} (h:ef P nt Fence.wide c Q f A):am P nt c Q f A:=fun a w ha hw=>wpIn_wide.1 (h a w ha hw)
theorem am.into {c:Code} (h:am P nt c Q f A):ef P nt Fence.wide c Q f A:=fun a w ha hw=>wpIn_wide.2 (h a w ha hw)
end

def lr (P:Program) (l:Nat) (args:Array Value) (A:AH) (R:Value->AH->Prop):Prop :=
  ∀ w,cu A w->YieldAt Fence.wide 0 P l args w fun e w'=>∃ A' v,e=.returned v/\cu A' w'/\eJ A w A' w'/\R v A'
section
variable {P:Program} {nt:Nat} {all:Array Oper} {Q:Exit->Fr->AH->Prop} {f:Fr} {A:AH} {e:gx} {ds:List Deferred} {d t:Nat} {op:Op} {ty:TypeId} {ps:String} {af:Array Edge} {os:List Oper} {v:Value} {T:eK}
end

def mark (D:Nat):Deferred:={ target:=.collected D,args:=#[] }
def zm (ps:List Nat) (xs:List Value) (e:gx):gx:=(ps.zip xs).foldl (fun e p=>(p.1,p.2) :: e) e
section
variable {P:Program} {nt:Nat} {Q:Exit->Fr->AH->Prop} {A:AH} {e:gx} {ds:List Deferred}
theorem tp:∀ (l:List (Nat × Value)) (e:gx) (t:Array Value),(∀ p ∈ l,p.1 < nt)->cW nt ⟨e,[]⟩ { tmps:=t,defers:=[] } ->
    cW nt ⟨l.foldl (fun e p=>(p.1,p.2) :: e) e,[]⟩ { tmps:=l.foldl (fun t p=>t.setIfInBounds p.1 p.2) t,defers:=[] }
  | [],_,_,_,h=>h
  | p :: l,e,t,hp,h=>tp l _ _ (fun q hq=>hp q (List.mem_cons_of_mem _ hq)) (by
      have:=h.put (some p.1) p.2 (fun t q=>by cases q;exact hp p List.mem_cons_self)
      exact this)
theorem lU (P:Program) {w:World} {b:Nat} {x y:Obj} (h:cu A w) (g:A.get b=some (.obj true x)) (hy:∀ c e f,y ≠ .cells c e f):cu (A.set b (.obj true y)) (w.putObj b y)/\eJ A w (A.set b (.obj true y)) (w.putObj b y):=by
  obtain ⟨w',r,v1,s1⟩:=jq (P:=P) h g (y:=y) hy
  obtain ⟨g1,g2⟩:=h.obj g
  have:(setObj b y).run P w=.ok () (w.putObj b y):=by simp [setObj,Sem.run,g1,World.putObj]
  rw [r] at this
  have e:w'=w.putObj b y:=by injection this
  rw [<- e];exact ⟨v1,s1⟩
def C9 (P:Program) (rs:List ResultVar) (Q:Ending->AH->Prop):Exit->Fr->AH->Prop
  | .normal,f,A | .ret,f,A=>∃ Ds:List Nat,f.ds=Ds.map mark/\Ds.Nodup/\(∀ D ∈ Ds,A.get D=some (.obj true (.deferred (some [])))) /\
      ∃ vs,∀ A',A'.wf->A'.n=A.n->(∀ b o,b ∉ Ds->A.get b=some o->A'.get b=some o)->gv P f.e A' rs=some vs/\Q (.returned (eE vs)) A'
  | _,_,_=>False

theorem go.enterM {g:FuncId} {fn:Func} {c:Code} {args:List Value} {Qe:Ending->AH->Prop} (he:fy P g) (hf:P.funcs[g]? = some fn) (hb:fn.body=some c) (hn:args.length<=fn.ntmps)
    (h:A.wf->am P fn.ntmps c (C9 P fn.results.toList Qe) ⟨rC args 0,[]⟩ A):go P g args.toArray A Qe:=by
  refine ⟨he,fun w hw=>callsIn_wide.1 (callsIn_of_wp_marks (F:=Fence.wide) (n:=0) hf hb trivial ?_)⟩
  have ha:cW fn.ntmps ⟨rC args 0,[]⟩ { tmps:=args.toArray ++ Array.replicate (fn.ntmps - args.toArray.size) undef,defers:=[] }:=by
    refine ⟨by simp;omega,fun t v q=>?_,Z⟩
    obtain ⟨_,h2⟩:=uY args 0 t v q
    simp only [Nat.sub_zero] at h2
    have hlt:t < args.length:=(List.getElem?_eq_some_iff.1 h2).1
    refine ⟨?_,by omega⟩
    simp only [Array.getD_eq_getD_getElem?]
    rw [Array.getElem?_append_left (by simpa using hlt)]
    simp [h2]
  have leave:∀ (Ds:List Nat) (B:AH) (f:Fr) (a:Act) (w':World) (vs:List Value),(∀ t v,ct f.e t=some v->a.tmps.getD t undef=v/\t < fn.ntmps)->a.tmps.size=fn.ntmps->cu B w'->eJ A w B w'->Ds.Nodup->(∀ D ∈ Ds,B.get D=some (.obj true (.deferred (some [])))) ->
      (∀ A',A'.wf->A'.n=B.n->(∀ b o,b ∉ Ds->B.get b=some o->A'.get b=some o)->gv P f.e A' fn.results.toList=some vs/\Qe (.returned (eE vs)) A') ->
      LeavesInM Fence.wide 0 P fn a.tmps (fun e w''=>∃ A',cu A' w''/\eJ A w A' w''/\Qe e A') (Ds.map mark) .returning w':=by
    intro Ds
    induction Ds with
    | nil =>
      intro B f a w' vs hsl hsz hv hs _ _ hq
      obtain ⟨r1,r2⟩:=hq B hv.wf Z (fun _ _ _ h=>h)
      have:=jo (nt:=fn.ntmps) (f:=⟨f.e,a.defers⟩) (a:=a) ⟨hsz,hsl,rfl⟩ hv r1
      exact ⟨_,this,B,hv,hs,r2⟩
    | cons D Ds ih =>
      intro B f a w' vs hsl hsz hv hs hnd hD hq
      have gD:=hD D List.mem_cons_self
      obtain ⟨q1,_⟩:=hv.obj gD
      obtain ⟨v1,s1⟩:=lU P (y:=.deferred none) hv gD (fun _ _ _ q=>by cases q)
      refine ⟨by simp,.inl ⟨D,_,Z,run_takeDeferred q1,?_⟩⟩
      have hnd':=List.nodup_cons.1 hnd
      refine ih _ f a _ vs hsl hsz v1 (hs.trans s1) hnd'.2 (fun E hE=>?_) (fun A' wf' hn' hk'=>?_)
      · rw [AH.set_get_ne _ _ (by rintro rfl;exact hnd'.1 hE)];exact hD E (List.mem_cons_of_mem _ hE)
      · exact hq A' wf' hn' fun b o hb hgb=>hk' b o (fun q=>hb (List.mem_cons_of_mem _ q)) (by rw [AH.set_get_ne _ _ (by rintro rfl;exact hb List.mem_cons_self)];exact hgb)
  refine wpIn_mono (am.into (h hw.wf) _ w ha hw) ?_
  rintro x a' w' ⟨f',A',h1,h2,h3,h4,h5⟩
  cases x <;> simp only [C9] at h4 <;> (try exact h4.elim)
  case normal=>obtain ⟨Ds,e1,e2,e3,vs,e4⟩:=h4;simp only [bodyPostM];rw [h1.ds,e1];exact leave Ds A' f' a' w' vs h1.slot h1.size h2 h3 e2 e3 e4
  case ret=>obtain ⟨Ds,e1,e2,e3,vs,e4⟩:=h4;simp only [bodyPostM];rw [h1.ds,e1];exact leave Ds A' f' a' w' vs h1.slot h1.size h2 h3 e2 e3 e4
theorem enterM {g:FuncId} {fn:Func} {c:Code} {rs:Array ResultVar} {nt:Nat} {args:List Value} {a:Array Value} {e:gx} {A:AH} {R:Value->AH->Prop} (he:fy P g) (hf:P.funcs[g]? = some fn) (hb:fn.body=some c)
    (hr:fn.results=rs) (hnt:fn.ntmps=nt) (ha:args.toArray=a) (hn:Nat.ble args.length nt=true) (hE:rC args 0=e) (h:A.wf->am P nt c (C9 P rs.toList fun en A'=>∃ v,en=.returned v/\R v A') ⟨e,[]⟩ A):bH P g a A R:=by
  subst hr;subst hnt;subst ha;subst hE
  exact go.enterM he hf hb (Nat.le_of_ble_eq_true hn) h
theorem am.loopD {c:Code} {X:Type} (E:X->gx) (D:X->List Deferred) (I:X->AH->Prop) (μ:X->Nat) (x₀:X) (hE:al (E x₀) e) (hD:D x₀=ds) (h₀:I x₀ A)
    (round:∀ x B,I x B->am P nt c (qQ (fun f B'=>∃ y,al (E y) f.e/\f.ds=D y/\I y B'/\μ y < μ x) Q) ⟨E x,D x⟩ B) :
    am P nt (.loop c) Q ⟨e,ds⟩ A:=by
  subst hD
  intro a w ha hw b k cs
  have run:∀ m a w₁,(∃ x B,μ x=m/\I x B/\cW nt ⟨E x,D x⟩ a/\cu B w₁/\eJ A w B w₁) ->
      ∃ e a' w',lq nt Q A w e a' w'/\Arrives P (lone (b.at a (.code c :: .inLoop c :: k)) cs w₁) b k cs e a' w':=by
    intro m
    induction m using Nat.strongRecOn with
    | _ m ih =>
      rintro a w₁ ⟨x,B,hm,hI,ha₁,hw₁,hs₁⟩
      obtain ⟨e,a₂,w₂,⟨f',A',h1,h2,h3,h4,h5⟩,harr⟩:=round x B hI a w₁ ha₁ hw₁ b (.inLoop c :: k) cs
      cases e with
      | normal =>
        obtain ⟨y,g1,g2,g3,g4⟩:=h4
        obtain ⟨fe,fds⟩:=f'
        simp only at g1 g2
        subst g2
        obtain ⟨e₂,a₃,w₃,hq,harr₂⟩:=ih (μ y) (hm ▸ g4) a₂ w₂ ⟨y,A',rfl,g3,h1.le g1,h2,hs₁.trans h3⟩
        exact ⟨e₂,a₃,w₃,hq,.of_steps (Steps.trans harr (.one step_inLoop)) harr₂⟩
      | exit id=>exact ⟨_,a₂,w₂,⟨f',A',h1,h2,hs₁.trans h3,h4,h5⟩,.pass (x:=.inLoop c) Z (fun _ _=>.inl (by simp)) harr⟩
      | goto l=>exact ⟨_,a₂,w₂,⟨f',A',h1,h2,hs₁.trans h3,h4,h5⟩,.pass (x:=.inLoop c) Z (fun _ _=>.inl (by simp)) harr⟩
      | ret=>exact ⟨_,a₂,w₂,⟨f',A',h1,h2,hs₁.trans h3,h4,h5⟩,.pass (x:=.inLoop c) Z (fun _ _=>.inl (by simp)) harr⟩
      | panic ch=>exact ⟨_,a₂,w₂,⟨f',A',h1,h2,hs₁.trans h3,h4,h5⟩,.pass (x:=.inLoop c) Z (fun _ _=>.inl (by simp)) harr⟩
      | outgrown=>exact ⟨_,a₂,w₂,⟨f',A',h1,h2,hs₁.trans h3,h4,h5⟩,.pass (x:=.inLoop c) Z (fun _ _=>.inl (by simp)) harr⟩
  obtain ⟨e,a',w',hq,harr⟩:=run _ a w ⟨x₀,A,rfl,h₀,ha.le hE,hw,.refl _ _⟩
  exact ⟨e,a',w',hq,.of_steps (.one step_loop) harr⟩
end
end V
end Go.Proofs.YtjppkekmddjcfaaGreatDoor

namespace Go.Proofs.YtjppkekmddjcfaaGreatDoor
open Go Go.RowKit
namespace V

def AH.hide (A:AH) (bs:List (Option Nat)):AH:=⟨A.n,fun k=>if some k ∈ bs then none else A.get k⟩
section
variable {A B C A0 A1:AH} {bs:List (Option Nat)} {b k n:Nat} {o:fK} {v u:Value} {size:Nat} {xs ys:List Value}
theorem cr (h:some b ∈ bs):(A.hide bs).get b=none:=if_pos h
theorem bQ (h:A.get k=some o) (hk:some k ∉ bs):(A.hide bs).get k=some o:=by
  show (if some k ∈ bs then none else A.get k)=some o
  rw [if_neg hk];exact h
theorem cE (A:AH) (bs:List (Option Nat)):(A.hide bs).le A:=⟨Nat.le_refl _,fun b o g=>by
  have g:(if some b ∈ bs then none else A.get b)=some o:=g
  split at g
  · cases g
  · exact g⟩
theorem cm (wf:A.wf):(A.hide bs).wf:=fun b o g=>wf b o ((cE A bs).get b o g)
theorem ci (le:A0.le A) (h:∀ b,some b ∈ bs->A0.get b=none):A0.le (A.hide bs) :=
  ⟨le.n,fun b o g=>bQ (le.get b o g) fun q=>by rw [h b q] at g;cases g⟩
theorem mI:some k ∉ ([]:List (Option Nat)):=fun h=>by cases h
theorem qz (h:k ≠ b) (t:some k ∉ bs):some k ∉ some b :: bs:=fun q=>by
  rcases List.mem_cons.1 q with q | q
  · exact h (Option.some.inj q)
  · exact t q
theorem nY (h:blk v ≠ some k) (t:some k ∉ bs):some k ∉ blk v :: bs:=fun q=>by
  rcases List.mem_cons.1 q with q | q
  · exact h q.symm
  · exact t q
theorem oT:∀ b,some b ∈ ([]:List (Option Nat))->A0.get b=none:=fun _ h=>by cases h
theorem uk (h:A0.get k=none) (t:∀ b,some b ∈ bs->A0.get b=none):∀ b,some b ∈ some k :: bs->A0.get b=none:=fun b q=>by
  rcases List.mem_cons.1 q with q | q
  · cases q;exact h
  · exact t b q
theorem sA (h:∀ b,blk v=some b->A0.get b=none) (t:∀ b,some b ∈ bs->A0.get b=none):∀ b,some b ∈ blk v :: bs->A0.get b=none:=fun b q=>by
  rcases List.mem_cons.1 q with q | q
  · exact h b q.symm
  · exact t b q
def bq (v u:Value):Prop:=∀ c,blk v=some c->blk u ≠ some c
theorem bq.symm (h:bq v u):bq u v:=fun c hu hv=>h c hv hu
theorem bq.nil:bq (.slice none 0 0) u:=fun c h=>by cases h
theorem Fresh.hide (h:Fresh A0 A v size xs) (hb:blk v ∈ bs):Fresh (A.hide bs) A v size xs:=⟨h.own,fun b q=>cr (by rw [<- q];exact hb)⟩
def Kr (u:Value) (bs:List (Option Nat)):Prop:=∀ c,blk u=some c->some c ∉ bs
theorem kq:Kr u []:=fun _ _=>mI
theorem kr (h:blk u ≠ some b) (t:Kr u bs):Kr u (some b :: bs):=fun c hc=>qz (fun q=>h (q ▸ hc)) (t c hc)
theorem jD (h:bq v u) (t:Kr u bs):Kr u (blk v :: bs):=fun c hc=>nY (fun q=>h c q hc) (t c hc)
theorem oO.blkget (h:oO A v size xs) (hb:blk v=some b):∃ o,A.get b=some o:=by
  rcases h with ⟨rfl,_⟩ | ⟨b',n,k,r,rcap,rfl,h2,_⟩
  · cases hb
  · cases hb;exact ⟨_,h2⟩
theorem oO.off (h:oO A u size xs) (o:Kr u bs) (le:(A.hide bs).le B):oO B u size xs:=by
  rcases h with h | ⟨b',n,k,r,rcap,rfl,h2,h3⟩
  · exact .inl h
  · exact .inr ⟨b',n,k,r,rcap,Z,le.get _ _ (bQ h2 (o b' Z)),h3⟩
theorem Fresh.off (h:Fresh A0 A u size xs) (o:Kr u bs) (le:(A.hide bs).le B):Fresh A0 B u size xs:=⟨h.own.off o le,h.lo⟩
theorem Fresh.sep {s2:Nat} (h:Fresh (A.hide bs) B v size xs) (hu:oO A u s2 ys) (o:Kr u bs):bq v u:=fun c hv hc=>by
  obtain ⟨x,hx⟩:=hu.blkget hc
  have:=h.lo c hv
  rw [bQ hx (o c hc)] at this;cases this
theorem oO.appd {s2:Nat} {v':Value} {zs:List Value} (h:oO A u size xs) (ap:mA A v s2 zs v' A1) (hs:bq v u):oO A1 u size xs:=by
  rcases h with h | ⟨b',n,k,r,rcap,rfl,h2,h3⟩
  · exact .inl h
  · exact .inr ⟨b',n,k,r,rcap,Z,ap.get _ _ h2 (fun q=>hs b' q Z),h3⟩
theorem Fresh.appd {s2:Nat} {v':Value} {zs:List Value} (h:Fresh A0 A u size xs) (ap:mA A v s2 zs v' A1) (hs:bq v u):Fresh A0 A1 u size xs:=⟨h.own.appd ap hs,h.lo⟩
theorem bq.appd {s2:Nat} {v':Value} {zs:List Value} (h:bq v u) (hu:oO A u size xs) (wf:A.wf) (ap:mA A v s2 zs v' A1):bq v' u:=fun c hc hq=>by
  rcases ap.blk c hc with q | q
  · exact h c q hq
  · obtain ⟨o,ho⟩:=hu.blkget hq
    have:=wf _ _ ho;omega
theorem bq.of_new (h:oO A u size xs) (wf:A.wf) (hb:A.n<=b) {n c:Nat}:bq (.slice (some ⟨b,0,none⟩) n c) u:=fun k hk hq=>by
  cases hk
  obtain ⟨o,ho⟩:=h.blkget hq
  have:b < A.n:=wf _ _ ho
  omega
theorem Fresh.seph (h:Fresh A0 A v size xs) (g:A0.get b=some o):blk v ≠ some b:=fun q=>by rw [h.lo b q] at g;cases g
theorem Fresh.setc {A0 A A1:AH} {b n c i size:Nat} {xs:List Value} {r:List Value} {rcap:Nat} {w:Value} (h:Fresh A0 A (.slice (some ⟨b,0,none⟩) n c) size xs) (g:A.get b=some (.row true r rcap)) (sb:ug A A1 b (.row true (r.set i w) rcap)) :
    Fresh A0 A1 (.slice (some ⟨b,0,none⟩) n c) size (xs.set i w):=by
  refine ⟨?_,h.lo⟩
  rcases h.own with ⟨q,_⟩ | ⟨b',n',k,r',rcap',h1,h2,h3,h4,h5,h6⟩
  · cases q
  · cases h1
    rw [g] at h2;cases h2
    refine .inr ⟨b,n,c,r.set i w,rcap,Z,sb.get,by simpa using h3,?_,h5,h6⟩
    rw [List.take_set,h4]
theorem fb {i:Nat} {K:Fr->AH->Prop} {Q:Exit->Fr->AH->Prop} {f:Fr} {A:AH} (h:Q (.exit i) f A):qQ K Q (.exit i) f A:=h
theorem eo {i:Nat} {Q:Exit->Fr->AH->Prop} {f:Fr} {A:AH} (h:Q .normal f A):mD i Q (.exit i) f A:=by show (if i=i then _ else _);rw [if_pos Z];exact h
theorem dY {i j:Nat} {Q:Exit->Fr->AH->Prop} {f:Fr} {A:AH} (hne:j ≠ i) (h:Q (.exit j) f A):mD i Q (.exit j) f A:=by show (if j=i then _ else _);rw [if_neg hne];exact h
theorem d4 {i:Nat} {Q:Exit->Fr->AH->Prop} {f:Fr} {A:AH} (h:Q (.exit i) f A):yY Q (.exit i) f A:=h
theorem dn {Q:Exit->Fr->AH->Prop} {f:Fr} {A:AH} (h:Q .normal f A):yY Q .normal f A:=h
theorem mA.cell {A A1:AH} {s v u:Value} {size:Nat} {xs:List Value} {b off:Nat} (ap:mA A s size xs v A1) (ne:V.blk s ≠ some b) (h:A.cell ⟨b,off,none⟩=some u):A1.cell ⟨b,off,none⟩=some u:=by
  unfold AH.cell at h ⊢
  simp only [Option.isSome_none] at h ⊢
  cases hg:A.get b with
  | none=>rw [hg] at h;cases h
  | some o=>rw [hg] at h;rw [ap.get _ _ hg ne];exact h
def Vh:Value->Nat->Nat->Value
  | .slice p n c,size,j=>.slice (if c=j then p else p.map (·.add (j * size))) (n - j) (c - j)
  | v,_,_=>v
theorem bK.lo {A:AH} {size j:Nat} {v:Value} {xs:List Value} (s:bK A size v xs) (h0:0 < size) (hj:j * size<=xs.length):bK A size (Vh v size j) (xs.drop (j * size)):=by
  obtain ⟨p,n,c,rfl,h2,h3,h4⟩:=s
  have hjn:j<=n:=by rw [h2] at hj;exact Nat.le_of_mul_le_mul_right hj h0
  refine ⟨_,n - j,c - j,Z,by rw [List.length_drop,h2,Nat.sub_mul],by omega,?_⟩
  rcases h4 with h4 | ⟨b,off,rw,r,rcap,rfl,g2,g3⟩
  · left;omega
  · by_cases q:n=j
    · left;omega
    · right
      refine ⟨b,off + j * size,rw,r,rcap,?_,g2,?_⟩
      · rw [if_neg O]
        simp only [Option.map_some]
        rw [nr _ _ Z]
      · rw [<- g3,List.drop_take,List.drop_drop,Nat.sub_mul]
theorem BK {P:Program} {e:gx} {A:AH} {x lo:Operand} {t el:TypeId} {size j:Nat} {v:Value} {xs:List Value} (hu:P.underlying t=some (.slice el)) (hs:dp P el=some size) (h:bX e x=some v) (s:bK A size v xs) (hlo:bX e lo=some (num (j:Nat))) (h0:0 < size) (hj:j * size<=xs.length) :
    aO P e A (.slice t x (some lo) none none)=some (Vh v size j,[]):=by
  obtain ⟨p,n,c,rfl,h2,h3,h4⟩:=s
  have hjn:j<=n:=by rw [h2] at hj;exact Nat.le_of_mul_le_mul_right hj h0
  simp [aO,co,h,tA,hu,hs,fk,hlo,Vh]
  omega
theorem qY (a:List UInt8) (n:Nat):(ao a).drop n=ao (a.drop n):=by simp [ao,List.map_drop]
end
end V
end Go.Proofs.YtjppkekmddjcfaaGreatDoor

namespace Go.Proofs.YtjppkekmddjcfaaGreatDoor
open Go V

def VR:List UInt8->List UInt8->Nat
  | a :: x,b :: y=>if a=b then VR x y + 1 else 0
  | _,_=>0
def lf (p:Nat->Bool) (b:Nat):Nat:=((List.range b).find? fun n=>!p n).getD b
def cI:List UInt8:=[97,65,98,66,99,67,100,68,101,69,102,70,103,71,104,72]
def ix (c:UInt8):Int:=match cI.findIdx? (· == c) with | some i=>i | none=>-1
theorem Ma {c:UInt8} {k:Nat} (hk:k < 16) (h:∀ j,j < k->cI.getD j 0 ≠ c) (e:cI.getD k 0=c):ix c=k:=by
  have:cI.findIdx? (· == c)=some k:=by
    rw [List.findIdx?_eq_some_iff_getElem]
    refine ⟨hk,?_,fun j hj=>?_⟩
    · have:=e;simp [List.getD_eq_getElem?_getD,hk,cI] at this ⊢;exact this
    · have:=h j hj
      have hj':j < cI.length:=Nat.lt_trans hj hk
      rw [List.getD_eq_getElem?_getD,List.getElem?_eq_getElem hj',Option.getD_some] at this
      simpa using this
  simp [ix,this]
theorem Qh {c:UInt8} (h:∀ j,j < 16->cI.getD j 0 ≠ c):ix c = -1:=by
  have:cI.findIdx? (· == c)=none:=by
    rw [List.findIdx?_eq_none_iff]
    intro x hx
    obtain ⟨j,hj,rfl⟩:=List.getElem_of_mem hx
    have:=h j hj
    rw [List.getD_eq_getElem?_getD,List.getElem?_eq_getElem hj,Option.getD_some] at this
    simpa using this
  simp [ix,this]
theorem iM {p:UInt8->Prop} (h:∀ n:Fin 256,p (UInt8.ofNat n.1)) (c:UInt8):p c:=by
  have:=h ⟨c.toNat,c.toNat_lt⟩
  simpa using this
theorem Vg (a b:Int):decide (b<=a) = !decide (a < b):=by rw [<- decide_not];simp
theorem Dr (r:Nat) (h:r<=127):decide (127 < r)=false:=by simp;omega
theorem U7 {c:UInt8} (h:¬ c < 128):128<=c.toNat:=by rw [UInt8.lt_iff_toNat_lt] at h;simpa using h
theorem Um:∀ c:UInt8,-1<=ix c/\ix c < 16:=iM (by decide +kernel)
theorem L8:∀ c:UInt8,0<=ix c->c.toNat<=127:=iM (by decide +kernel)
theorem F5:∀ c:UInt8,0<=ix c->0<=ix (c ^^^ 32):=iM (by decide +kernel)
theorem jZ (c:UInt8):c ^^^ 32 ^^^ 32=c:=by rw [UInt8.xor_assoc];simp
def iU (k:Int) (c:UInt8):Bool:=decide (0<=ix c) && decide (ix c < 2 * k)
def inv (w:List UInt8):List UInt8:=(w.map (· ^^^ 32)).reverse
def push (s:List UInt8) (c:UInt8):List UInt8:=if 0 < s.length/\s.getD (s.length - 1) 0=c ^^^ 32 then s.take (s.length - 1) else s ++ [c]
def ll (w:List UInt8):List UInt8:=w.foldl push []
def bG (k:Int) (w:List UInt8):Nat:=if k < 1\/8 < k then 1 else if 100000 < w.length then 2 else if w.all (iU k) then 0 else 4
def p4 (w:List UInt8):Bool:=decide (w.length<=100000) && w.all (iU 8)
theorem RK (w:List UInt8):bG 8 w=0 ↔ p4 w=true:=by
  simp only [bG,p4,Bool.and_eq_true,decide_eq_true_eq]
  rw [if_neg O]
  split
  · simp;omega
  · split <;> rename_i h <;> simp [h] <;> omega
theorem BG (s:List UInt8) (c:UInt8):(push s c).length<=s.length + 1:=by
  unfold push;split <;> simp <;> omega
theorem ej:∀ (w s:List UInt8),(w.foldl push s).length<=s.length + w.length
  | [],s=>by simp
  | c :: w,s=>by
    have:=ej w (push s c);have:=BG s c
    simp only [List.foldl_cons,List.length_cons];omega
theorem D8 (w:List UInt8):(ll w).length<=w.length:=by have:=ej w [];simpa [ll] using this
theorem fA (w:List UInt8):(inv w).length=w.length:=by simp [inv]
theorem lh {w:List UInt8} {i:Nat} (h:i < w.length):w.drop i=w.getD i 0 :: w.drop (i + 1):=by
  rw [List.drop_eq_getElem_cons h];simp [h]
theorem vi {l:List (List UInt8)} {i:Nat} (h:i < l.length):l.drop i=l.getD i [] :: l.drop (i + 1):=by
  rw [List.drop_eq_getElem_cons h];simp [h]
def Sl (r:List UInt8):Nat:=lf (fun n=>decide (2 * n + 2<=r.length/\r.getD n 0=r.getD (r.length - 1 - n) 0 ^^^ 32)) r.length
def Vf (w:List UInt8):List UInt8:=((ll w).take ((ll w).length - Sl (ll w))).drop (Sl (ll w))
def conj (w:List UInt8):List UInt8:=(ll w).take (Sl (ll w))
def je:List UInt8->List UInt8->Int
  | a :: x,b :: y=>if ix a < ix b then -1 else if ix b < ix a then 1 else je x y
  | _,_=>0
def gT (u v:List UInt8):Int:=if u.length ≠ v.length then (if u.length < v.length then -1 else 1) else je u v
def c0 (w:List UInt8):List UInt8:=if p4 w then inv w else []
def cn (w:List UInt8):List UInt8:=if p4 w then ll w else []
def Se (w:List UInt8):List UInt8:=if p4 w then Vf w else []
def da (u v:List UInt8):Int:=if p4 u/\p4 v then gT u v else 0
def Pg (q:Nat->Bool) (s:List UInt8):Int:=match s.findIdx? (fun c=>q c.toNat) with | some i=>i | none=>-1
theorem xu {q:Nat->Bool} {s:List UInt8} {k:Nat} (hk:k < s.length) (h:∀ j,j < k->q (s.getD j 0).toNat=false) (e:q (s.getD k 0).toNat=true):Pg q s=k:=by
  have:s.findIdx? (fun c=>q c.toNat)=some k:=by
    rw [List.findIdx?_eq_some_iff_getElem]
    refine ⟨hk,by simpa [hk] using e,fun j hj=>?_⟩
    have:=h j hj
    have hj':j < s.length:=Nat.lt_trans hj hk
    simpa [hj'] using this
  simp [Pg,this]
theorem LQ {q:Nat->Bool} {s:List UInt8} (h:∀ j,j < s.length->q (s.getD j 0).toNat=false):Pg q s = -1:=by
  have:s.findIdx? (fun c=>q c.toNat)=none:=by
    rw [List.findIdx?_eq_none_iff]
    intro x hx
    obtain ⟨j,hj,rfl⟩:=List.getElem_of_mem hx
    have:=h j hj
    simpa [hj] using this
  simp [Pg,this]
theorem PZ (q:Nat->Bool) (s:List UInt8):decide (0<=Pg q s)=s.any (fun c=>q c.toNat):=by
  unfold Pg
  cases h:s.findIdx? (fun c=>q c.toNat) with
  | none =>
    rw [List.findIdx?_eq_none_iff] at h
    rw [List.any_eq_false.2 (by simpa using h)];rfl
  | some i =>
    rw [List.findIdx?_eq_some_iff_getElem] at h
    obtain ⟨hi,e,_⟩:=h
    rw [List.any_eq_true.2 ⟨_,List.getElem_mem hi,e⟩];simp
theorem tF (k:Int) (w:List UInt8):0<=Pg (fun r=>decide (127 < r) || !iU k (UInt8.ofNat r)) w ↔ w.all (iU k)=false:=by
  have h:=PZ (fun r=>decide (127 < r) || !iU k (UInt8.ofNat r)) w
  have e:(w.any fun c=>decide (127 < c.toNat) || !iU k (UInt8.ofNat c.toNat)) = !w.all (iU k):=by
    rw [List.not_all_eq_any_not]
    congr 1
    funext c
    rw [UInt8.ofNat_toNat]
    by_cases q:iU k c=true
    · have:0<=ix c:=by simp [iU] at q;exact q.1
      have:=L8 c this
      simp [q];omega
    · simp [q]
  rw [e] at h
  constructor
  · intro q;rw [decide_eq_true q] at h;simpa using h
  · intro q;rw [q] at h;simpa using h
theorem CR (w:List UInt8):decide (bG 8 w=0)=p4 w:=by
  rw [Bool.eq_iff_iff,decide_eq_true_iff];exact RK w
theorem uK {w o R:List UInt8} {i:Nat} (hi:i < w.length) (h:(w.drop i).foldl push o=R) (hc:0 < o.length/\o.getD (o.length - 1) 0=w.getD i 0 ^^^ 32):(w.drop (i + 1)).foldl push (o.take (o.length - 1))=R:=by
  rw [lh hi,List.foldl_cons,push,if_pos hc] at h;exact h
theorem uL {w o R:List UInt8} {i:Nat} (hi:i < w.length) (h:(w.drop i).foldl push o=R) (hc:¬ (0 < o.length/\o.getD (o.length - 1) 0=w.getD i 0 ^^^ 32)):(w.drop (i + 1)).foldl push (o ++ [w.getD i 0])=R:=by
  rw [lh hi,List.foldl_cons,push,if_neg hc] at h;exact h
theorem o9 {w:List UInt8} {i:Nat} (h:w.length<=i):w.drop i=[]:=List.drop_eq_nil_of_le h
theorem pY {α:Type} {w:List α} {i:Nat} (h:w.length<=i):w.drop i=[]:=List.drop_eq_nil_of_le h
theorem tn {l:List (List UInt8)} {k:Nat} {o o2 R:List UInt8} (hk:k < l.length) (h:(l.drop k).flatten.foldl push o=R) (h2:(l.getD k []).foldl push o=o2):(l.drop (k + 1)).flatten.foldl push o2=R:=by
  rw [vi hk,List.flatten_cons,List.foldl_append,h2] at h;exact h
theorem IZ {l:List (List UInt8)} {k:Nat} (hk:k < l.length):(l.drop k).flatten.length=(l.getD k []).length + (l.drop (k + 1)).flatten.length:=by
  rw [vi hk,List.flatten_cons,List.length_append]
def j7 (w:List UInt8) (k:Nat):List UInt8:=List.replicate (w.length - k) 0 ++ ((w.take k).map (· ^^^ 32)).reverse
theorem ua (w:List UInt8):List.replicate w.length 0=j7 w 0:=by simp [j7]
theorem vM (w:List UInt8) {k:Nat} (h:w.length<=k):j7 w k=inv w:=by
  simp [j7,inv,List.take_of_length_le h,Nat.sub_eq_zero_of_le h]
theorem qJ (w:List UInt8) {k:Nat} (h:k<=w.length):(j7 w k).length=w.length:=by simp [j7];omega
theorem vN (w:List UInt8) {k:Nat} (h:k < w.length):(j7 w k).set (w.length - 1 - k) (w.getD k 0 ^^^ 32)=j7 w (k + 1):=by
  have e:List.replicate (w.length - k) (0:UInt8)=List.replicate (w.length - 1 - k) 0 ++ [0]:=by
    rw [show w.length - k=(w.length - 1 - k) + 1 by omega,List.replicate_succ']
  have t:w.take (k + 1)=w.take k ++ [w.getD k 0]:=by
    rw [List.take_add_one,List.getElem?_eq_getElem h];simp [h]
  unfold j7
  rw [e,List.append_assoc,t,List.map_append,List.reverse_append,show w.length - (k + 1)=w.length - 1 - k by omega]
  rw [List.set_append_right (w.length - 1 - k) _ (by simp)]
  simp
theorem e8 {u v:List UInt8} {k:Nat} (hu:k < u.length) (hv:k < v.length):je (u.drop k) (v.drop k)=if ix (u.getD k 0) < ix (v.getD k 0) then -1 else if ix (v.getD k 0) < ix (u.getD k 0) then 1 else je (u.drop (k + 1)) (v.drop (k + 1)):=by
  rw [lh hu,lh hv,je]
theorem mU {u v:List UInt8} {k:Nat} (hu:u.length<=k):je (u.drop k) (v.drop k)=0:=by
  rw [o9 hu];rfl
theorem FA {u v:List UInt8} (h:¬ ¬ u.length=v.length):gT u v=je u v:=by unfold gT;rw [if_neg h]
def AJ {α:Type} (q:α->Bool) (l:List α):Int:=match l.findIdx? q with | some i=>i | none=>-1
theorem xw {α:Type} {q:α->Bool} {l:List α} {k:Nat} {d:α} (hk:k < l.length) (h:∀ j,j < k->q (l.getD j d)=false) (e:q (l.getD k d)=true):AJ q l=k:=by
  have:l.findIdx? q=some k:=by
    rw [List.findIdx?_eq_some_iff_getElem]
    refine ⟨hk,by simpa [hk] using e,fun j hj=>?_⟩
    have:=h j hj
    have hj':j < l.length:=Nat.lt_trans hj hk
    simpa [hj'] using this
  simp [AJ,this]
theorem AK {α:Type} {q:α->Bool} {l:List α} {d:α} (h:∀ j,j < l.length->q (l.getD j d)=false):AJ q l = -1:=by
  have:l.findIdx? q=none:=by
    rw [List.findIdx?_eq_none_iff]
    intro x hx
    obtain ⟨j,hj,rfl⟩:=List.getElem_of_mem hx
    have:=h j hj
    simpa [hj] using this
  simp [AJ,this]
theorem uD {α:Type} (q:α->Bool) (l:List α):0<=AJ q l ↔ l.any q=true:=by
  unfold AJ
  cases h:l.findIdx? q with
  | none =>
    rw [List.findIdx?_eq_none_iff] at h
    rw [List.any_eq_false.2 (by simpa using h)];simp
  | some i =>
    rw [List.findIdx?_eq_some_iff_getElem] at h
    obtain ⟨hi,e,_⟩:=h
    rw [List.any_eq_true.2 ⟨_,List.getElem_mem hi,e⟩];simp
theorem bw {α:Type} {l:List α} {k:Nat} {d:α} (h:k < l.length):l.getD k d ∈ l:=by simp [h]
def gK (g:Int) (r:List UInt8):Bool:=decide (r=[]) || !decide (bG g r=0) || !decide (ll r=r)
def dt (g:Int) (l:List (List UInt8)):Nat :=
  if g < 1\/8 < g then 1 else if 60 < l.length\/l.any (fun r=>decide (200 < r.length))=true then 2 else if l.any (gK g)=true then 4 else 0
theorem xq:∀ c:UInt8,97<=c->c < 105->((2 * (c - 97).toNat:Nat):Int)=ix c:=iM (by decide +kernel)
theorem yL:∀ c:UInt8,65<=c->c < 73->((2 * (c - 65).toNat + 1:Nat):Int)=ix c:=iM (by decide +kernel)
theorem yM:∀ c:UInt8,¬ (97<=c/\c < 105)->¬ (65<=c/\c < 73)->ix c = -1:=iM (by decide +kernel)
def Ph (c:UInt8):Nat:=(ix c).toNat
theorem Md (c:UInt8):Ph c < 16:=by have:=Um c;unfold Ph;omega
theorem Qk:∀ c:UInt8,0<=ix c->cI.getD (Ph c) 0=c:=iM (by decide +kernel)
theorem Mr:∀ i:Fin 16,i.1 % 2=0->(97:UInt8) + UInt8.ofNat (i.1 / 2)=cI.getD i.1 0:=by decide +kernel
theorem Ql:∀ i:Fin 16,¬ i.1 % 2=0->(65:UInt8) + UInt8.ofNat (i.1 / 2)=cI.getD i.1 0:=by decide +kernel
theorem QX {w:List UInt8}:∀ c ∈ ll w,c ∈ w:=by
  have key:∀ (w s:List UInt8),∀ c ∈ w.foldl push s,c ∈ s\/c ∈ w:=by
    intro w
    induction w with
    | nil=>intro s c h;exact .inl h
    | cons a w ih =>
      intro s c h
      rcases ih _ c h with q | q
      · unfold push at q
        split at q
        · exact .inl (List.mem_of_mem_take q)
        · rcases List.mem_append.1 q with q | q
          · exact .inl q
          · exact .inr (by simp at q;simp [q])
      · exact .inr (List.mem_cons_of_mem _ q)
  intro c h
  rcases key w [] c h with q | q
  · cases q
  · exact q
def tQ (w:List UInt8):Prop:=∀ c ∈ w,0<=ix c
theorem uH {w:List UInt8} (h:tQ w) {k:Nat} (hk:k < w.length):0<=ix (w.getD k 0):=h _ (bw hk)
theorem MF {w:List UInt8} (h:p4 w=true):tQ w:=fun c hc=>by
  simp only [p4,Bool.and_eq_true,List.all_eq_true] at h
  have:=h.2 c hc
  simp [iU] at this;exact this.1
theorem Gj {w:List UInt8} (h:tQ w):tQ (inv w):=fun c hc=>by
  simp only [inv,List.mem_reverse,List.mem_map] at hc
  obtain ⟨d,hd,rfl⟩:=hc
  exact F5 d (h d hd)
theorem AL {w:List UInt8} {j:Nat} (hj:1<=j) (hw:j<=w.length):((w.drop j).map (· ^^^ 32)).reverse ++ [w.getD (j - 1) 0 ^^^ 32]=((w.drop (j - 1)).map (· ^^^ 32)).reverse:=by
  rw [lh (w:=w) (i:=j - 1) O,show j - 1 + 1=j by omega]
  simp
theorem iQ {a:Int} (h:0<=a):some (num a)=some (num ((a.toNat:Nat):Int)):=by rw [Int.toNat_of_nonneg h]
theorem SI (c:UInt8) (h:0<=ix c):pc .xor .i64 (ix c) 1=some (num ((Ph (c ^^^ 32):Nat):Int)):=by
  have key:∀ k:Fin 16,IntKind.i64.wrap ((BitVec.ofInt 64 (k.1:Int) ^^^ BitVec.ofInt 64 1).toNat:Int)=(k.1 ^^^ 1:Nat):=by decide +kernel
  have h2:∀ c:UInt8,0<=ix c->(Ph c) ^^^ 1=Ph (c ^^^ 32):=iM (by decide +kernel)
  have h3:=key ⟨Ph c,Md c⟩
  have e:ix c=((Ph c:Nat):Int):=by unfold Ph;omega
  rw [<- h2 c h,<- h3,e]
  rfl
theorem wt {k:Int} {w:List UInt8} {i:Nat} (hk:¬ (k < 1\/8 < k)) (hw:¬ 100000 < w.length) (hi:i < w.length) (h:ix (w.getD i 0) < 0\/2 * k<=ix (w.getD i 0)):bG k w=4:=by
  have:w.all (iU k)=false:=by
    rw [List.all_eq_false]
    exact ⟨_,bw (d:=0) hi,by intro q;simp only [iU,Bool.and_eq_true,decide_eq_true_eq] at q;omega⟩
  simp [bG,hk,hw,this]
theorem CT {k:Int} {w:List UInt8} {i:Nat} (hk:¬ (k < 1\/8 < k)) (hw:¬ 100000 < w.length) (hi:w.length<=i) (h:∀ j,j < i->0<=ix (w.getD j 0)/\ix (w.getD j 0) < 2 * k):bG k w=0:=by
  have:w.all (iU k)=true:=by
    rw [List.all_eq_true]
    intro c hc
    obtain ⟨j,hj,rfl⟩:=List.getElem_of_mem hc
    have:=h j O
    simp [hj] at this
    simp [iU];exact this
  simp [bG,hk,hw,this]
def gJ (A:AH):Prop:=∃ rw cap,A.get 0=some (.row rw (ao cI) cap)
theorem gJ.le {A B:AH} (h:gJ A) (le:A.le B):gJ B:=by obtain ⟨r,c,h⟩:=h;exact ⟨r,c,le.get _ _ h⟩
end Go.Proofs.YtjppkekmddjcfaaGreatDoor

namespace Go.Proofs.YtjppkekmddjcfaaGreatDoor
open Go V

theorem Qs {l:List (List UInt8)} {i n:Nat} (hi:l.length<=i) (h:∀ j,j < i->(l.getD j []).length<=n):∀ s ∈ l,s.length<=n:=fun s hs=>by
  obtain ⟨j,hj,rfl⟩:=List.getElem_of_mem hs
  have:=h j O
  simpa [hj] using this
theorem KQ {l:List (List UInt8)} (h:∀ s ∈ l,s.length<=200):¬ l.any (fun r=>decide (200 < r.length))=true:=fun q=>by
  obtain ⟨s,hs,e⟩:=List.any_eq_true.1 q
  have:=h s hs;have:=of_decide_eq_true e;omega
theorem Bx {g:Int} {l:List (List UInt8)} {i:Nat} (h:¬ (g < 1\/8 < g)) (h2:¬ 60 < l.length) (h3:∀ s ∈ l,s.length<=200) (hi:l.length<=i) (hb:∀ j,j < i->gK g (l.getD j [])=false):dt g l=0:=by
  rw [dt,if_neg h,if_neg (fun q=>q.elim h2 (KQ h3)),if_neg]
  intro q
  obtain ⟨s,hs,e⟩:=List.any_eq_true.1 q
  obtain ⟨j,hj,rfl⟩:=List.getElem_of_mem hs
  have:=hb j O
  simp [hj,e] at this
theorem L5 {g:Int} {r:List UInt8} (hg:g<=8) (h:bG g r=0):p4 r=true:=by
  unfold bG at h
  split at h
  · cases h
  · split at h
    · cases h
    · split at h
      · rename_i h1 h2 h3
        simp only [p4,Bool.and_eq_true,decide_eq_true_eq,List.all_eq_true] at h3 ⊢
        refine ⟨by omega,fun c hc=>?_⟩
        have:=h3 c hc
        simp only [iU,Bool.and_eq_true,decide_eq_true_eq] at this ⊢
        omega
      · cases h
theorem wr {w:List UInt8} (h:p4 w=true):cn w=ll w:=by rw [cn,if_pos h]

theorem cR {g:Int} {l:List (List UInt8)} (h:dt g l=0):(1<=g/\g<=8)/\l.length<=60/\∀ r ∈ l,r.length<=200/\gK g r=false:=by
  unfold dt at h
  split at h
  · cases h
  · split at h
    · cases h
    · split at h
      · cases h
      · rename_i h1 h2 h3
        refine ⟨by omega,by omega,fun r hr=>⟨?_,?_⟩⟩
        · have:¬ l.any (fun r=>decide (200 < r.length))=true:=fun q=>h2 (.inr q)
          rw [Bool.not_eq_true,List.any_eq_false] at this
          have:=this r hr
          simpa using this
        · rw [Bool.not_eq_true,List.any_eq_false] at h3
          have:=h3 r hr
          simpa using this
theorem tD {g:Int} {r:List UInt8} (h:gK g r=false):r ≠ []/\bG g r=0/\ll r=r:=by
  simpa [gK,and_assoc] using h
theorem mR {g:Int} {r:List UInt8} (h:¬ bG g r=0):gK g r=true:=by simp [gK,h]
theorem Iu {g:Int} {r:List UInt8} (h1:¬ r=[]) (h2:¬ ¬ bG g r=0) (hg:g<=8) (h3:¬ ¬ cn r=r):gK g r=false:=by
  rw [wr (L5 hg (Decidable.not_not.1 h2))] at h3
  simp only [gK,decide_eq_false h1,decide_eq_true (Decidable.not_not.1 h2),decide_eq_true (Decidable.not_not.1 h3)];rfl
theorem EU {x y:List UInt8} (h:(!p4 x)=true):da x y=0:=by rw [da,if_neg];intro q;rw [q.1] at h;cases h
theorem EW {x y:List UInt8} (h:(!p4 y)=true):da x y=0:=by rw [da,if_neg];intro q;rw [q.2] at h;cases h
theorem kI {x y:List UInt8} (hx:(!p4 x)=false) (hy:(!p4 y)=false):da x y=gT x y:=by
  rw [da,if_pos ⟨by simpa using hx,by simpa using hy⟩]
def Pr (w:List UInt8) (s:List (List UInt8) × Bool) (x:List UInt8):List (List UInt8) × Bool :=
  let c:=da x w
  let d:=s.2 || decide (c=0)
  if 0 < c/\d=false then (s.1 ++ [w] ++ [x],true) else (s.1 ++ [x],d)
def Ua (l:List (List UInt8)) (w:List UInt8):List (List UInt8) :=
  let s:=l.foldl (Pr w) ([],false)
  if s.2 then s.1 else s.1 ++ [w]
theorem xo {α β:Type} {f:β->α->β} {l:List α} {i:Nat} {d:α} {s s' R:β} (hi:i < l.length) (h:(l.drop i).foldl f s=R) (e:f s (l.getD i d)=s'):(l.drop (i + 1)).foldl f s'=R:=by
  rw [List.drop_eq_getElem_cons hi,List.foldl_cons] at h
  have:l.getD i d=l[i]:=by simp [hi]
  rw [<- e,this];exact h
def VN (w:List UInt8) (j:Nat):List UInt8:=w.drop j ++ w.take j
def TF (c:List UInt8) (a:List (List UInt8)) (j:Nat):List (List UInt8):=Ua (Ua a (VN c j)) (VN (c0 c) j)
def OD (a:List (List UInt8)) (r:List UInt8):List (List UInt8):=(List.range (Se r).length).foldl (TF (Se r)) a
def symm (l:List (List UInt8)):List (List UInt8):=l.foldl OD []
theorem oC (w:List UInt8):(c0 w).length<=w.length:=by
  unfold c0;split
  · rw [fA];exact Nat.le_refl _
  · simp
theorem l5 (w:List UInt8):(cn w).length<=w.length:=by
  unfold cn;split
  · exact D8 w
  · simp
theorem Mc:∀ c:UInt8,0<=ix c->(97<=c/\ix c=((2 * (c - 97).toNat:Nat):Int))\/(65<=c/\¬ 97<=c/\ix c=((2 * (c - 65).toNat + 1:Nat):Int)):=iM (by decide +kernel)
theorem U6:∀ c:UInt8,97<=c->(c - 97).toNat < 8->c < 105:=iM (by decide +kernel)
theorem UZ:∀ c:UInt8,65<=c->(c - 65).toNat < 8->c < 73:=iM (by decide +kernel)
def Ks (g:Int) (c:UInt8):Int:=if iU g c then ix c else -1
theorem Jb {g:Int} {c:UInt8} (hg:1<=g/\g<=8) (h1:97<=c) (h2:(((c - 97).toNat:Nat):Int) < g):((2 * (c - 97).toNat:Nat):Int)=Ks g c:=by
  have h:=xq c h1 (U6 c h1 O)
  rw [Ks,if_pos]
  · exact h
  · simp only [iU,Bool.and_eq_true,decide_eq_true_eq];omega
theorem FY {g:Int} {c:UInt8} (hg:1<=g/\g<=8) (h1:65<=c) (h2:(((c - 65).toNat:Nat):Int) < g):((2 * (c - 65).toNat + 1:Nat):Int)=Ks g c:=by
  have h:=yL c h1 (UZ c h1 O)
  rw [Ks,if_pos]
  · exact h
  · simp only [iU,Bool.and_eq_true,decide_eq_true_eq];omega
theorem yN {g:Int} {c:UInt8} (h1:¬ (97<=c/\(((c - 97).toNat:Nat):Int) < g)) (h2:¬ (65<=c/\(((c - 65).toNat:Nat):Int) < g)):Ks g c = -1:=by
  rw [Ks,if_neg]
  intro q
  simp only [iU,Bool.and_eq_true,decide_eq_true_eq] at q
  rcases Mc c q.1 with ⟨h,e⟩ | ⟨h,_,e⟩
  · exact h1 ⟨h,by omega⟩
  · exact h2 ⟨h,by omega⟩
theorem FZ {g:Int} {c:UInt8}:Ks g c < 0 ↔ iU g c=false:=by
  unfold Ks
  by_cases h:iU g c=true
  · rw [if_pos h]
    simp only [iU,Bool.and_eq_true,decide_eq_true_eq] at h
    constructor
    · omega
    · intro q;simp [iU,h] at q
  · rw [if_neg h];simp [Bool.not_eq_true] at h;simp [h]
theorem kJ {g:Int} {w:List UInt8} (hg:1<=g/\g<=8):bG g w=0 ↔ w.length<=100000/\∀ c ∈ w,iU g c=true:=by
  unfold bG
  rw [if_neg O]
  split
  · constructor
    · intro q;cases q
    · intro q;omega
  · split <;> rename_i h
    · simp only [List.all_eq_true] at h
      exact ⟨fun _=>⟨by omega,h⟩,fun _=>rfl⟩
    · constructor
      · intro q;cases q
      · intro q;exact absurd (List.all_eq_true.2 q.2) h
theorem DC {g:Int} {w:List UInt8} {i:Nat} (hg:1<=g/\g<=8) (hi:i < w.length) (h:Ks g (w.getD i 0) < 0):decide (bG g w=0)=false:=by
  rw [decide_eq_false_iff_not,kJ hg]
  intro q
  have:=q.2 _ (bw (d:=0) hi)
  rw [FZ] at h;rw [h] at this;cases this
theorem AN {g:Int} {w:List UInt8} {i:Nat} (hg:1<=g/\g<=8) (hi:w.length<=i) (h:∀ j,j < i->¬ Ks g (w.getD j 0) < 0):decide (bG g w=0)=decide (w.length<=100000):=by
  rw [decide_eq_decide,kJ hg]
  refine ⟨fun q=>q.1,fun q=>⟨q,fun c hc=>?_⟩⟩
  obtain ⟨j,hj,rfl⟩:=List.getElem_of_mem hc
  have:=h j O
  rw [FZ] at this
  simpa [hj] using this

end Go.Proofs.YtjppkekmddjcfaaGreatDoor

namespace Go.Proofs.YtjppkekmddjcfaaGreatDoor
open Go V

structure bI where
  conj:List UInt8
  rel:Int
  inv:Bool
def bI.zero:bI:=⟨[],0,false⟩
def o7 (c:bI):List Value:=[aX c.conj,num c.rel,.bool c.inv]
def cb (l:List bI):List Value:=l.flatMap o7
theorem ca (l:List bI):(cb l).length=l.length * 3:=by
  induction l with
  | nil=>rfl
  | cons c l ih=>simp only [cb,List.flatMap_cons,List.length_append,List.length_cons] at ih ⊢;rw [ih];simp [o7];omega
theorem c6 (l:List bI):(cb l).length=l.length * 3:=ca l
theorem mF (a b:List bI):cb a ++ cb b=cb (a ++ b):=by simp [cb]
theorem Dp (l:List bI):qC (cb l)=true:=by
  simp only [qC,cb,List.all_eq_true,List.mem_flatMap]
  rintro v ⟨c,_,h⟩
  simp only [o7,List.mem_cons,List.not_mem_nil,or_false] at h
  rcases h with rfl | rfl | rfl <;> rfl
theorem Ah (l:List bI) (i:Nat):(cb l).drop (i * 3)=cb (l.drop i):=by
  induction l generalizing i with
  | nil=>simp [cb]
  | cons c l ih =>
    cases i with
    | zero=>simp
    | succ i =>
      have:(i + 1) * 3=(o7 c).length + i * 3:=by simp [o7];omega
      show (o7 c ++ cb l).drop ((i + 1) * 3)=_
      rw [this,<- List.drop_drop,List.drop_left]
      exact ih i
theorem ic {l:List bI} {i:Nat} (h:i < l.length):((cb l).drop (i * 3)).take 3=o7 (l.getD i .zero):=by
  rw [Ah,List.drop_eq_getElem_cons h]
  have e:l.getD i .zero=l[i]:=by simp [h]
  rw [e]
  show (o7 l[i] ++ cb (l.drop (i + 1))).take 3=_
  exact List.take_left' Z
theorem Ul:∀ c:UInt8,0<=ix c->(97<=c->c - 97 + 65=c ^^^ 32)/\(¬ 97<=c->c - 65 + 97=c ^^^ 32):=iM (by decide +kernel)
def II (l:List (List UInt8)) (c:bI):List UInt8:=if c.inv then inv (l.getD c.rel.toNat []) else l.getD c.rel.toNat []
def jO (l:List (List UInt8)) (c:bI):List UInt8:=c.conj ++ II l c ++ inv c.conj
def jx (l:List (List UInt8)) (o:List UInt8) (c:bI):List UInt8:=(jO l c).foldl push o
def ki (l:List (List UInt8)) (d:List bI):List UInt8:=d.foldl (jx l) []
def iA (g:Int) (l:List (List UInt8)) (c:bI):Bool:=decide (0<=c.rel) && decide (c.rel < l.length) && decide (bG g c.conj=0)
def cz (d:List bI):Nat:=(d.map fun c=>c.conj.length).sum
def fp (g:Int) (l:List (List UInt8)) (d:List bI):Bool:=d.all (iA g l) && decide (d.length<=100000) && decide (cz d<=1000000)
def vc (g:Int) (l:List (List UInt8)) (ws:List (List UInt8)) (ds:List (List bI)):Nat :=
  if ¬ dt g l=0 then 40 else if ws.all (fun w=>decide (bG g w=0))=false then 41 else if ds.all (fp g l)=false then 42 else 0
def gu (g:Int) (l:List (List UInt8)) (d:List bI) (w:List UInt8):Nat :=
  if ¬ vc g l [w] [d]=0 then vc g l [w] [d] else if ¬ ki l d=ll w then 5 else 0
theorem jn {g:Int} {l:List (List UInt8)} {i:Nat} (hi:i < l.length) (h:200 < (l.getD i []).length\/gK g (l.getD i [])=true):¬ dt g l=0:=fun q=>by
  have:=(cR q).2.2 _ (bw (d:=[]) hi)
  rcases h with h | h
  · omega
  · rw [h] at this;cases this.2
theorem rm {g:Int} {l:List (List UInt8)} {i:Nat} (hg:¬ (g < 1\/8 < g)) (hl:¬ 60 < l.length) (hi:l.length<=i) (h:∀ j,j < i->(l.getD j []).length<=200/\gK g (l.getD j [])=false):dt g l=0 :=
  Bx hg hl (Qs hi fun j hj=>(h j hj).1) hi fun j hj=>(h j hj).2
theorem mS {g:Int} {r:List UInt8} (h:¬ ll r=r):gK g r=true:=by simp [gK,h]
theorem xd {g:Int} {r:List UInt8} (h1:¬ r.length < 1) (h2:¬ ¬ bG g r=0) (h3:¬ ¬ ll r=r):gK g r=false:=by
  have:r ≠ []:=fun q=>by rw [q] at h1;exact h1 (by simp)
  simp only [gK,decide_eq_false this,decide_eq_true (Decidable.not_not.1 h2),decide_eq_true (Decidable.not_not.1 h3)];rfl
theorem jT {g:Int} {r:List UInt8} (h:r.length < 1):gK g r=true:=by
  have:r=[]:=List.length_eq_zero_iff.1 O
  simp [gK,this]
theorem j5 {g:Int} {w:List UInt8} (h:¬ ¬ bG g w=0):tQ w:=by
  have h:=Decidable.not_not.1 h
  unfold bG at h
  split at h
  · cases h
  · split at h
    · cases h
    · split at h
      · rename_i q
        intro c hc
        have:=List.all_eq_true.1 q c hc
        simp only [iU,Bool.and_eq_true,decide_eq_true_eq] at this
        exact this.1
      · cases h
theorem gi {g:Int} {w:List UInt8} (h:bG g w=0):w.length<=100000:=by
  unfold bG at h
  split at h
  · cases h
  · split at h
    · cases h
    · omega
theorem DX {a b:List UInt8} (ha:tQ a) (hb:tQ b):tQ (a ++ b):=fun c hc=>(List.mem_append.1 hc).elim (ha c) (hb c)
theorem ra {d:List bI} {i:Nat} (h:i < d.length):cz (d.drop i)=(d.getD i .zero).conj.length + cz (d.drop (i + 1)):=by
  have e:d.getD i .zero=d[i]:=by simp [h]
  rw [List.drop_eq_getElem_cons h,e,cz,List.map_cons,List.sum_cons];rfl
theorem SE {d:List bI} (h:cz d<=100000000):∀ c ∈ d,c.conj.length<=9223372036854775807:=fun c hc=>by
  have:c.conj.length<=cz d:=by
    clear h
    induction d with
    | nil=>cases hc
    | cons a d ih =>
      simp only [cz,List.map_cons,List.sum_cons] at ih ⊢
      rcases List.mem_cons.1 hc with rfl | hc
      · omega
      · have:=ih hc;omega
  omega
theorem j0 {g:Int} {l:List (List UInt8)} {d:List bI} {i:Nat} (hi:i < d.length) (h:iA g l (d.getD i .zero)=false):fp g l d=false:=by
  have:d.all (iA g l)=false:=List.all_eq_false.2 ⟨_,bw (d:=.zero) hi,by rw [h];decide⟩
  simp [fp,this]
theorem ta {g:Int} {l:List (List UInt8)} {d:List bI} {i n:Nat} (hi:d.length<=i) (h:∀ j,j < i->iA g l (d.getD j .zero)=true) (hn:n + cz (d.drop i)=cz d):fp g l d=(decide (d.length<=100000) && decide (n<=1000000)):=by
  have:d.all (iA g l)=true:=List.all_eq_true.2 fun c hc=>by
    obtain ⟨j,hj,rfl⟩:=List.getElem_of_mem hc
    have:=h j O
    simpa [hj] using this
  have e:cz d=n:=by rw [List.drop_eq_nil_of_le hi] at hn;simpa [cz] using hn.symm
  rw [fp,this,Bool.true_and,e]
theorem m4 {g:Int} {l:List (List UInt8)} {c:bI} (h:c.rel < 0):iA g l c=false:=by simp [iA,show ¬ 0<=c.rel by omega]
theorem m5 {g:Int} {l:List (List UInt8)} {c:bI} (h:(l.length:Int)<=c.rel):iA g l c=false:=by simp [iA,show ¬ c.rel < l.length by omega]
theorem m7 {g:Int} {l:List (List UInt8)} {c:bI} (h:¬ bG g c.conj=0):iA g l c=false:=by simp [iA,h]
theorem tg {g:Int} {l:List (List UInt8)} {c:bI} (h1:¬ c.rel < 0) (h2:¬ (l.length:Int)<=c.rel) (h3:¬ ¬ bG g c.conj=0):iA g l c=true:=by
  simp [iA,Decidable.not_not.1 h3];omega
theorem pd {g:Int} {l:List (List UInt8)} {d:List bI} (h:fp g l d=true):∀ c ∈ d,(0<=c.rel/\c.rel < l.length)/\bG g c.conj=0:=fun c hc=>by
  simp only [fp,Bool.and_eq_true,List.all_eq_true] at h
  have:=h.1.1 c hc
  simpa [iA] using this
theorem nR {g:Int} {l:List (List UInt8)} {d:List bI} (h:fp g l d=true):d.length<=100000/\cz d<=1000000:=by
  simp only [fp,Bool.and_eq_true,decide_eq_true_eq] at h
  exact ⟨h.1.2,h.2⟩
theorem I7 (w:List UInt8):inv (inv w)=w:=by
  simp only [inv,List.map_reverse,List.reverse_reverse,List.map_map]
  have:((fun x:UInt8=>x ^^^ 32) ∘ fun x=>x ^^^ 32)=id:=funext fun x=>jZ x
  rw [this,List.map_id]
theorem o8 {l:List bI} {i k:Nat} (h:i < l.length) (hk:k < 3):(cb l)[i * 3 + k]? = (o7 (l.getD i .zero))[k]?:=by
  rw [<- ic h,List.getElem?_take_of_lt hk,List.getElem?_drop]
theorem pX {l:List bI} {i:Nat} (h:i < l.length):(cb l)[i * 3 + 0]? = some (aX (l.getD i .zero).conj):=o8 h O
theorem xj {l:List bI} {i:Nat} (h:i < l.length):(cb l)[i * 3 + 1]? = some (num (l.getD i .zero).rel):=o8 h O
theorem xk {l:List bI} {i:Nat} (h:i < l.length):(cb l)[i * 3 + 2]? = some (.bool (l.getD i .zero).inv):=o8 h O
theorem Nf {g:Int} {l:List (List UInt8)} {r:Int} (hp:dt g l=0) (h:0<=r/\r < l.length):tQ (l.getD r.toNat [])/\(l.getD r.toNat []).length<=200:=by
  have hm:l.getD r.toNat [] ∈ l:=bw O
  have:=(cR hp).2.2 _ hm
  exact ⟨j5 (fun q=>q (tD this.2).2.1),this.1⟩
theorem KS {l:List (List UInt8)} {o:List UInt8} {c:bI}:(inv c.conj).foldl push ((if c.inv then inv (l.getD c.rel.toNat []) else l.getD c.rel.toNat []).foldl push (c.conj.foldl push o))=jx l o c:=by
  simp only [jx,jO,II,List.foldl_append]
theorem Fu {l:List (List UInt8)} {o:List UInt8} {c:bI} (hc:c.conj.length<=100000) (hr:(l.getD c.rel.toNat []).length<=200):(jx l o c).length<=o.length + 200200:=by
  have h1:=ej (jO l c) o
  have h2:(II l c).length<=200:=by unfold II;split <;> simp [fA] <;> exact hr
  unfold jx
  simp only [jO,List.length_append,fA] at h1 h2
  simp only [jO]
  omega
def Kg (l:List Value):List Value:=l
theorem uf (l:List Value):(Kg l).length=l.length:=rfl
theorem CN (l:List Value):(Kg l).length=l.length * 1:=(Nat.mul_one _).symm
theorem CM {l:List Value} {i:Nat} (h:i < l.length):(Kg l)[i]? = some (l.getD i undef):=by simp [Kg,h]
theorem Gk {v:Value} {k:Nat} (h:k < 1):[v].getD k undef=v:=by rw [show k=0 by omega];rfl
theorem KZ {g:Int} {l ws:List (List UInt8)} {ds:List (List bI)} (h:¬ dt g l=0):vc g l ws ds=40:=by rw [vc,if_pos h]
theorem K8 {g:Int} {l ws:List (List UInt8)} {ds:List (List bI)} {i:Nat} (h:¬ ¬ dt g l=0) (hi:i < ws.length) (hw:¬ bG g (ws.getD i [])=0):vc g l ws ds=41:=by
  rw [vc,if_neg h,if_pos]
  exact List.all_eq_false.2 ⟨_,bw (d:=[]) hi,by rw [decide_eq_false hw];decide⟩
theorem RZ {g:Int} {ws:List (List UInt8)} {i:Nat} (hi:ws.length<=i) (h:∀ j,j < i->bG g (ws.getD j [])=0):¬ ws.all (fun w=>decide (bG g w=0))=false:=by
  rw [Bool.not_eq_false,List.all_eq_true]
  intro w hw
  obtain ⟨j,hj,rfl⟩:=List.getElem_of_mem hw
  have:=h j O
  simpa [hj] using this
theorem La {g:Int} {l ws:List (List UInt8)} {d:List bI} {i:Nat} (h:¬ ¬ dt g l=0) (hi:ws.length<=i) (hw:∀ j,j < i->bG g (ws.getD j [])=0) (hd:fp g l d=false):vc g l ws [d]=42:=by
  rw [vc,if_neg h,if_neg (RZ hi hw),if_pos (by simp [hd])]
theorem KY {g:Int} {l ws:List (List UInt8)} {d:List bI} {i:Nat} (h:¬ ¬ dt g l=0) (hi:ws.length<=i) (hw:∀ j,j < i->bG g (ws.getD j [])=0) (hd:fp g l d=true):vc g l ws [d]=0:=by
  rw [vc,if_neg h,if_neg (RZ hi hw),if_neg (by simp [hd])]
theorem iY {g:Int} {l ws:List (List UInt8)} {d:List bI} (h:¬ ¬ vc g l ws [d]=0):dt g l=0/\(∀ w ∈ ws,bG g w=0)/\fp g l d=true:=by
  have h:=Decidable.not_not.1 h
  unfold vc at h
  split at h
  · cases h
  · rename_i h1
    split at h
    · cases h
    · rename_i h2
      split at h
      · cases h
      · rename_i h3
        refine ⟨Decidable.not_not.1 h1,?_,by simpa using h3⟩
        rw [Bool.not_eq_false,List.all_eq_true] at h2
        intro w hw;simpa using h2 w hw
end Go.Proofs.YtjppkekmddjcfaaGreatDoor

namespace Go.Proofs.YtjppkekmddjcfaaGreatDoor
open Go Go.RowKit V
theorem IP:∀ c:UInt8,97<=c->c < 105->((2 * (c - 97).toNat:Nat):Int)=ix c:=iM (by decide +kernel)
theorem FH:∀ c:UInt8,65<=c->c < 73->((2 * (c - 65).toNat + 1:Nat):Int)=ix c:=iM (by decide +kernel)
theorem yB:∀ c:UInt8,¬ (97<=c/\c < 105)->¬ (65<=c/\c < 73)->ix c = -1:=iM (by decide +kernel)
section
variable {g:Int} {w:List UInt8} {i:Nat} {c:UInt8}
theorem SQ (h1:¬ ix c < 0) (h2:¬ 2 * g<=ix c):iU g c=true:=by
  simp only [iU,Bool.and_eq_true,decide_eq_true_eq];omega
theorem PU (hg:1<=g/\g<=8) (h:100000 < w.length):decide (bG g w=0)=false:=by
  rw [decide_eq_false_iff_not,kJ hg];intro q;omega
theorem FG (hg:1<=g/\g<=8) (hi:i < w.length) (h:iU g (w.getD i 0)=false):decide (bG g w=0)=false:=by
  rw [decide_eq_false_iff_not,kJ hg]
  intro q
  have:=q.2 _ (bw (d:=0) hi)
  rw [h] at this;cases this
theorem Lm (hg:1<=g/\g<=8) (hi:i < w.length) (h:ix (w.getD i 0) < 0):decide (bG g w=0)=false :=
  FG hg hi (by simp only [iU,Bool.and_eq_false_iff,decide_eq_false_iff_not];omega)
theorem Ln (hg:1<=g/\g<=8) (hi:i < w.length) (h:2 * g<=ix (w.getD i 0)):decide (bG g w=0)=false :=
  FG hg hi (by simp only [iU,Bool.and_eq_false_iff,decide_eq_false_iff_not];omega)
theorem Lq (hg:1<=g/\g<=8) (hl:w.length<=100000) (hi:w.length<=i) (h:∀ j,j < i->iU g (w.getD j 0)=true):decide (bG g w=0)=true:=by
  rw [decide_eq_true_iff,kJ hg]
  refine ⟨hl,fun c hc=>?_⟩
  obtain ⟨j,hj,rfl⟩:=List.getElem_of_mem hc
  have:=h j O
  simpa [hj] using this
end
def zF (a w:List UInt8) (i:Nat):Prop:=i + w.length<=a.length/\(a.take (i + w.length)).drop i=w
instance (a w:List UInt8) (i:Nat):Decidable (zF a w i):=by unfold zF;infer_instance
def yE (a w:List UInt8) (k:Nat):Int:=match (List.range (a.length + 1)).find? (fun i=>decide (k<=i/\zF a w i)) with | some i=>(i:Int) | none=>-1
theorem vo {p:Nat->Bool}:∀ {n i:Nat},i < n->p i=true->(∀ j,j < i->p j=false)->(List.range n).find? p=some i:=by
  intro n i hi hp hn
  rw [List.find?_range_eq_some]
  exact ⟨hp,List.mem_range.2 hi,fun j hj=>by simpa using hn j hj⟩
theorem IW {a w:List UInt8} {k i:Nat} (hk:k<=i) (hn:∀ j,k<=j->j < i->¬ zF a w j) (h1:i + w.length<=a.length) (h2:(a.take (i + w.length)).drop i=w):yE a w k=i:=by
  unfold yE
  rw [vo (i:=i) O (by simp [hk,zF,h1,h2]) (fun j hj=>by
    rw [decide_eq_false_iff_not];rintro ⟨q1,q2⟩;exact hn j q1 hj q2)]
theorem LD {a w:List UInt8} {k i:Nat} (hk:k<=i) (hn:∀ j,k<=j->j < i->¬ zF a w j) (h1:¬ i + w.length<=a.length):yE a w k = -1:=by
  unfold yE
  rw [List.find?_eq_none.2]
  intro j hj
  rw [decide_eq_true_iff]
  rintro ⟨q1,q2⟩
  exact hn j q1 (by have:=q2.1;omega) q2
theorem Ca {w:List UInt8} {j:Nat} (hj:1<=j) (hw:j<=w.length):(w.drop j).reverse ++ [w.getD (j - 1) 0]=(w.drop (j - 1)).reverse:=by
  rw [lh (w:=w) (i:=j - 1) O,show j - 1 + 1=j by omega]
  simp
theorem IE {d:List bI} {k n:Nat} (hk:d.length<=k) (h:n + cz (d.drop k)=cz d):cz d=n:=by
  rw [List.drop_eq_nil_of_le hk] at h
  exact h.symm.trans (by simp [cz])
end Go.Proofs.YtjppkekmddjcfaaGreatDoor

namespace Go.Proofs.YtjppkekmddjcfaaGreatDoor
open Go Go.RowKit V
structure bf where
  left:List UInt8
  right:List UInt8
  pv:Value
  proof:List bI
def bf.zero:bf:=⟨[],[],.slice none 0 0,[]⟩
def qK (r:bf):List Value:=[aX r.left,aX r.right,r.pv]
def c9 (l:List bf):List Value:=l.flatMap qK
def Proofs (A:AH) (l:List bf):Prop:=∀ r ∈ l,bK A 3 r.pv (cb r.proof)
theorem Proofs.le {A B:AH} {l:List bf} (h:Proofs A l) (le:A.le B):Proofs B l:=fun r hr=>(h r hr).le le
theorem dg (l:List bf):(c9 l).length=l.length * 3:=by
  induction l with
  | nil=>rfl
  | cons c l ih=>simp only [c9,List.flatMap_cons,List.length_append,List.length_cons] at ih ⊢;rw [ih];simp [qK];omega
theorem dR (l:List bf):(c9 l).length=l.length * 3:=dg l
theorem Eb (l:List bf) (i:Nat):(c9 l).drop (i * 3)=c9 (l.drop i):=by
  induction l generalizing i with
  | nil=>simp [c9]
  | cons c l ih =>
    cases i with
    | zero=>simp
    | succ i =>
      have:(i + 1) * 3=(qK c).length + i * 3:=by simp [qK];omega
      show (qK c ++ c9 l).drop ((i + 1) * 3)=_
      rw [this,<- List.drop_drop,List.drop_left]
      exact ih i
theorem iB {l:List bf} {i:Nat} (h:i < l.length):((c9 l).drop (i * 3)).take 3=qK (l.getD i .zero):=by
  rw [Eb,List.drop_eq_getElem_cons h]
  have e:l.getD i .zero=l[i]:=by simp [h]
  rw [e]
  show (qK l[i] ++ c9 (l.drop (i + 1))).take 3=_
  exact List.take_left' Z
theorem Ed {l:List bf} {i k:Nat} (h:i < l.length) (hk:k < 3):(c9 l)[i * 3 + k]? = (qK (l.getD i .zero))[k]?:=by
  rw [<- iB h,List.getElem?_take_of_lt hk,List.getElem?_drop]
theorem sd {l:List bf} {i:Nat} (h:i < l.length):(c9 l)[i * 3 + 0]? = some (aX (l.getD i .zero).left):=Ed h O
theorem Proofs.get {A:AH} {l:List bf} {i:Nat} (hp:Proofs A l) (h:i < l.length):bK A 3 (l.getD i .zero).pv (cb (l.getD i .zero).proof):=hp _ (bw (d:=.zero) h)
def fH (o w:List UInt8):Bool:=decide (w.length<=o.length/\o.drop (o.length - w.length)=w)
def aK (l:List bf) (o:List UInt8):Int:=match (List.range l.length).find? (fun i=>fH o (l.getD i .zero).left) with | some i=>(i:Int) | none=>-1
theorem D9 {l:List bf} {o:List UInt8} {i:Nat} (hi:i < l.length) (hn:∀ j,j < i->fH o (l.getD j .zero).left=false) (h:fH o (l.getD i .zero).left=true):aK l o=i:=by
  unfold aK;rw [vo hi h hn]
theorem JA {l:List bf} {o:List UInt8} {i:Nat} (hi:l.length<=i) (hn:∀ j,j < i->fH o (l.getD j .zero).left=false):aK l o = -1:=by
  unfold aK
  rw [List.find?_eq_none.2]
  intro j hj
  rw [hn j (by have:=List.mem_range.1 hj;omega)];simp
def s9 (l:List bf) (w:List UInt8):Bool:=decide (cn w=w) && l.all fun r=>decide (yE w r.left 0 < 0)
theorem AM {l:List bf} {w:List UInt8} (h:cn w ≠ w):s9 l w=false:=by simp [s9,h]
theorem LZ {l:List bf} {w:List UInt8} {i:Nat} (hi:i < l.length) (h:0<=yE w (l.getD i .zero).left 0):s9 l w=false:=by
  rw [<- Bool.not_eq_true]
  intro q
  simp only [s9,Bool.and_eq_true,List.all_eq_true,decide_eq_true_eq] at q
  have:=q.2 _ (bw (d:=.zero) hi)
  omega
theorem Qg {l:List bf} {w:List UInt8} {i:Nat} (hi:l.length<=i) (hw:cn w=w) (h:∀ j,j < i->yE w (l.getD j .zero).left 0 < 0):s9 l w=true:=by
  simp only [s9,Bool.and_eq_true,List.all_eq_true,decide_eq_true_eq]
  refine ⟨hw,fun r hr=>?_⟩
  obtain ⟨j,hj,rfl⟩:=List.getElem_of_mem hr
  have:=h j O
  simpa [hj] using this
def js (g:Int) (w:List UInt8):Bool:=decide (w.length<=1000/\bG g w=0/\cn w=w)
end Go.Proofs.YtjppkekmddjcfaaGreatDoor

namespace Go.Proofs.YtjppkekmddjcfaaGreatDoor
open Go Go.RowKit V
structure rA {α:Type} [DecidableEq α] (kd:TypeDesc) (enc:α->Value):Prop where
  basic:o6 kd=true
  same:∀ a b,Instr.sameNow kd (enc a) (enc b)=some (decide (a=b))
  bits:∀ a,Instr.sameBits 10000 (enc a) (enc a)=true
theorem yO:rA .string aX:={
  basic:=rfl
  same:=fun a c=>by
    simp only [Instr.sameNow]
    congr 1
    have e:(bs a == bs c)=((bs a).data == (bs c).data):=rfl
    rw [e,Bool.eq_iff_iff,beq_iff_eq,decide_eq_true_iff]
    constructor
    · intro h
      have:(bs a).data.toList=(bs c).data.toList:=by rw [h]
      exact this
    · intro h;rw [h]
  bits:=fun a=>by
    show (bs a == bs a)=true
    have e:(bs a == bs a)=((bs a).data == (bs a).data):=rfl
    rw [e];simp }
theorem rN:rA (.int .u8) d8:={
  basic:=rfl
  same:=fun a c=>by
    simp only [Instr.sameNow,if_true]
    congr 1
    rw [Bool.eq_iff_iff,beq_iff_eq,decide_eq_true_iff]
    constructor
    · intro h;exact UInt8.toNat_inj.1 (Int.ofNat_inj.1 h)
    · rintro rfl;rfl
  bits:=fun a=>by simp [Instr.sameBits] }
theorem tc:rA (.int .i64) num:={
  basic:=rfl
  same:=fun a c=>by
    simp only [Instr.sameNow,if_true]
    rfl
  bits:=fun a=>by simp [Instr.sameBits] }
section
variable {α:Type} [DecidableEq α] {kd:TypeDesc} {enc:α->Value}
def du (enc:α->Value) (es:Array MapEntry) (E:List (α × Value)):Prop:=es.toList.map (fun x=>(x.key,x.val))=E.map fun p=>(enc p.1,p.2)
def lk (E:List (α × Value)) (k:α):Option Value:=(E.find? fun p=>decide (p.1=k)).map (·.2)
def yi (E:List (α × Value)) (k:α) (v:Value):List (α × Value):=if k ∈ E.map (·.1) then E.map (fun p=>if p.1=k then (p.1,v) else p) else E ++ [(k,v)]
theorem du.nil:du enc #[] []:=rfl
theorem du.size {es:Array MapEntry} {E:List (α × Value)} (h:du enc es E):es.size=E.length:=by
  have:=congrArg List.length h;simpa using this
theorem sQ (K:rA kd enc) (k:α):∀ (l:List MapEntry) (E:List (α × Value)) (n:Nat),l.map (fun x=>(x.key,x.val))=E.map (fun p=>(enc p.1,p.2)) ->
    (∃ i v,Instr.findNow kd (enc k) l n=some (some (n + i,v))/\lk E k=some v/\i < l.length/\(E.map (·.1))[i]? = some k/\(∃ x,l[i]? = some x/\x.key=enc k)/\∀ j,j < i->(E.map (·.1))[j]? ≠ some k)\/(Instr.findNow kd (enc k) l n=some none/\lk E k=none/\k ∉ E.map (·.1)):=by
  intro l
  induction l with
  | nil =>
    intro E n h
    cases E with
    | nil=>right;exact ⟨Z,Z,by simp⟩
    | cons p E=>cases h
  | cons x l ih =>
    intro E n h
    cases E with
    | nil=>cases h
    | cons p E =>
      simp only [List.map_cons,List.cons.injEq,Prod.mk.injEq] at h
      obtain ⟨⟨h1,h2⟩,h3⟩:=h
      by_cases q:k=p.1
      · left
        refine ⟨0,x.val,?_,?_,by simp,by simp [q],⟨x,rfl,by rw [h1,q]⟩,fun j hj=>absurd hj (Nat.not_lt_zero _)⟩
        · simp only [Instr.findNow,h1,K.same,decide_eq_true q,Nat.add_zero]
        · simp [lk,q,h2]
      · have q2:¬ p.1=k:=fun e=>q e.symm
        rcases ih E (n + 1) h3 with ⟨i,v,g1,g2,g3,g4,g5,g6⟩ | ⟨g1,g2,g3⟩
        · left
          refine ⟨i + 1,v,?_,?_,by simp;omega,by simpa using g4,by simpa using g5,fun j hj=>?_⟩
          · simp only [Instr.findNow,h1,K.same,decide_eq_false q];rw [g1,show n + (i + 1)=n + 1 + i by omega]
          · simpa [lk,q2] using g2
          · cases j with
            | zero=>simpa using q2
            | succ j=>simpa using g6 j O
        · right
          refine ⟨?_,?_,by simpa [q] using g3⟩
          · simp only [Instr.findNow,h1,K.same,decide_eq_false q];exact g1
          · simpa [lk,q2] using g2
variable {P:Program} {e:gx} {A:AH} {x y z:Operand} {t kt et:TypeId} {ty:TypeId} {ps:String} {af:Array Edge} {dst:Option Nat} {Q:Value->AH->Prop} {Kp:List PanicEntry->AH->Prop} {g:Option (Nat × Bool)} {m clock:Nat} {es:Array MapEntry} {E:List (α × Value)} {k:α} {v zv:Value} {rw:Bool}
theorem pT (K:rA kd enc) (hx:bX e x=some (.map (some m))) (hy:bX e y=some (enc k)) (hu:P.underlying t=some (.map kt et)) (hk:P.underlying kt=some kd) (hz:cD P et=some zv) (hg:A.get m=some (.obj rw (.map es clock))) (hE:du enc es E)
    (h:Q ((lk E k).getD zv) A):kO P e A { dst:=dst,op:=.lookup t x y false,type:=ty,pos:=ps,after:=af,guard:=g } Q Kp:=by
  rcases sQ K k es.toList E 0 hE with ⟨i,v,g1,g2,_⟩ | ⟨g1,g2,_⟩
  · rw [g2] at h;exact ⟨_,_,hx,hy,kt,et,kd,zv,es,_,hu,hk,K.basic,hz,.inr ⟨m,rw,clock,Z,hg⟩,g1,h⟩
  · rw [g2] at h;exact ⟨_,_,hx,hy,kt,et,kd,zv,es,_,hu,hk,K.basic,hz,.inr ⟨m,rw,clock,Z,hg⟩,g1,h⟩
theorem wx (K:rA kd enc) (hx:bX e x=some (.map (some m))) (hy:bX e y=some (enc k)) (hu:P.underlying t=some (.map kt et)) (hk:P.underlying kt=some kd) (hz:cD P et=some zv) (hg:A.get m=some (.obj rw (.map es clock))) (hE:du enc es E)
    (h1:∀ v,lk E k=some v->Q (.tuple #[v,.bool true]) A) (h2:lk E k=none->Q (.tuple #[zv,.bool false]) A):kO P e A { dst:=dst,op:=.lookup t x y true,type:=ty,pos:=ps,after:=af,guard:=g } Q Kp:=by
  rcases sQ K k es.toList E 0 hE with ⟨i,v,g1,g2,_⟩ | ⟨g1,g2,_⟩
  · exact ⟨_,_,hx,hy,kt,et,kd,zv,es,_,hu,hk,K.basic,hz,.inr ⟨m,rw,clock,Z,hg⟩,g1,h1 v g2⟩
  · exact ⟨_,_,hx,hy,kt,et,kd,zv,es,_,hu,hk,K.basic,hz,.inr ⟨m,rw,clock,Z,hg⟩,g1,h2 g2⟩
theorem du.push (h:du enc es E) (k:α) (v:Value) (c:Nat):du enc (es.push { key:=enc k,val:=v,born:=c }) (E ++ [(k,v)]):=by
  have h':es.toList.map (fun x=>(x.key,x.val))=_:=h
  simp only [du,Array.toList_push,List.map_append,List.map_cons,List.map_nil,h']
theorem DH {β γ:Type} {f:β->γ} {l:List β} {i:Nat} {F:β->β} {G:List γ} (h:l.map f=G):(l.modify i F).map f=match l[i]? with | some x=>G.set i (f (F x)) | none=>G:=by
  subst h
  apply List.ext_getElem?
  intro j
  cases q:l[i]? with
  | none =>
    have hi:l.length<=i:=by simpa using q
    simp only [List.getElem?_map,List.getElem?_modify]
    by_cases e:i=j
    · subst e;simp [q]
    · simp [e]
  | some x =>
    have hi:i < l.length:=(List.getElem?_eq_some_iff.1 q).1
    simp only [List.getElem?_map,List.getElem?_modify,List.getElem?_set,List.length_map]
    by_cases e:i=j
    · subst e
      have hx:=(List.getElem?_eq_some_iff.1 q).2
      simp [hi,hx]
    · simp [e]
theorem RD {k:α} {v:Value}:∀ {E:List (α × Value)} {i:Nat},(E.map (·.1))[i]? = some k->(E.map (·.1)).Nodup->(E.map fun p=>(enc p.1,p.2)).set i (enc k,v)=(E.map fun p=>if p.1=k then (p.1,v) else p).map fun p=>(enc p.1,p.2):=by
  intro E
  induction E with
  | nil=>intro i h;simp at h
  | cons p E ih =>
    intro i h hn
    cases i with
    | zero =>
      simp only [List.map_cons,List.getElem?_cons_zero,Option.some.injEq] at h
      subst h
      simp only [List.map_cons,List.set_cons_zero,if_true]
      congr 1
      rw [List.map_map]
      apply List.map_congr_left
      intro q hq
      have:¬ q.1=p.1:=fun e=>(List.nodup_cons.1 hn).1 (by show p.1 ∈ _;rw [<- e];exact List.mem_map_of_mem hq)
      simp [this]
    | succ i =>
      simp only [List.map_cons,List.getElem?_cons_succ] at h
      have hp:¬ p.1=k:=fun e=>(List.nodup_cons.1 hn).1 (by show p.1 ∈ _;rw [e];exact List.mem_of_getElem? h)
      simp only [List.map_cons,List.set_cons_succ,if_neg hp]
      congr 1
      exact ih h (List.nodup_cons.1 hn).2
theorem oh (K:rA kd enc) (wf:A.wf) (hx:bX e x=some (.map (some m))) (hy:bX e y=some (enc k)) (hz:bX e z=some v) (hu:P.underlying t=some (.map kt et)) (hk:P.underlying kt=some kd) (hg:A.get m=some (.obj true (.map es clock))) (hE:du enc es E) (hn:(E.map (·.1)).Nodup)
    (h:∀ A1 es1 ck,ug A A1 m (.obj true (.map es1 ck))->du enc es1 (yi E k v)->Q undef A1):kO P e A { dst:=dst,op:=.mapUpdate t x y z,type:=ty,pos:=ps,after:=af,guard:=g } Q Kp:=by
  rcases sQ K k es.toList E 0 hE with ⟨i,u,g1,g2,g3,g4,⟨w,g5,D⟩,g6⟩ | ⟨g1,g2,g3⟩
  · refine ⟨_,_,_,hx,hy,hz,kt,et,kd,m,es,clock,_,hu,hk,K.basic,Z,hg,g1,⟨w,by simpa using g5,by rw [D];exact K.bits k⟩,h _ _ _ (OA wf hg _) ?_⟩
    have hm:k ∈ E.map (·.1):=List.mem_of_getElem? g4
    show (es.modify (0 + i) _).toList.map _=_
    rw [Nat.zero_add,Array.toList_modify,DH (show es.toList.map (fun x=>(x.key,x.val))=_ from hE),g5,yi,if_pos hm]
    exact RD g4 hn
  · refine ⟨_,_,_,hx,hy,hz,kt,et,kd,m,es,clock,_,hu,hk,K.basic,Z,hg,g1,h _ _ _ (OA wf hg _) ?_⟩
    rw [yi,if_neg g3];exact hE.push k v clock
theorem yU {E:List (α × Value)} {k:α}:lk E k=none ↔ k ∉ E.map (·.1):=by
  simp only [lk,Option.map_eq_none_iff,List.find?_eq_none,decide_eq_true_eq,List.mem_map,not_exists,not_and]
theorem uO {E:List (α × Value)} {k:α} {v:Value} (h:k ∉ E.map (·.1)):yi E k v=E ++ [(k,v)]:=if_neg h
theorem OQ {E:List (α × Value)} {k:α} {v:Value}:(yi E k v).map (·.1)=if k ∈ E.map (·.1) then E.map (·.1) else E.map (·.1) ++ [k]:=by
  unfold yi
  split
  · rw [List.map_map]
    apply List.map_congr_left
    intro p _
    simp only [Function.comp];split <;> rfl
  · simp
theorem Kf {E:List (α × Value)} {k:α} {v:Value} (h:(E.map (·.1)).Nodup):((yi E k v).map (·.1)).Nodup:=by
  rw [OQ]
  split
  · exact h
  · rename_i q;exact List.nodup_append.2 ⟨h,by simp,by intro a ha b hb;simp at hb;subst hb;exact fun e=>q (e ▸ ha)⟩
theorem SJ (k j:α) (v:Value):∀ E:List (α × Value),lk (E.map fun p=>if p.1=k then (p.1,v) else p) j=if j=k/\k ∈ E.map (·.1) then some v else lk E j:=by
  intro E
  induction E with
  | nil=>simp [lk]
  | cons p E ih =>
    have hc:∀ (q:α × Value) (F:List (α × Value)),lk (q :: F) j=if q.1=j then some q.2 else lk F j:=fun q F=>by
      by_cases h:q.1=j <;> simp [lk,h]
    rw [List.map_cons,hc,hc,ih]
    by_cases hp:p.1=k
    · by_cases hj:j=k
      · subst hj;simp [hp]
      · have h1:¬ k=j:=fun q=>hj q.symm
        simp [hp,hj,h1]
    · by_cases hj:j=k
      · subst hj;simp only [hp,if_false,true_and,List.map_cons,List.mem_cons,show ¬ j=p.1 from fun q=>hp q.symm,false_or]
      · simp [hp,hj]
theorem SK {E:List (α × Value)} {k j:α} {v:Value}:lk (yi E k v) j=if j=k then some v else lk E j:=by
  unfold yi
  split
  · rename_i hm
    rw [SJ]
    by_cases hj:j=k <;> simp [hj,hm]
  · rename_i hm
    simp only [lk,List.find?_append]
    by_cases hj:j=k
    · subst hj
      have:E.find? (fun p=>decide (p.1=j))=none:=by
        rw [List.find?_eq_none];intro p hp;simp only [decide_eq_true_eq];exact fun q=>hm (by rw [<- q];exact List.mem_map_of_mem hp)
      simp [this]
    · have h2:¬ k=j:=fun q=>hj q.symm
      simp [hj,h2]
end
def pK (L:List (List UInt8)):List (List UInt8 × Value):=L.map fun w=>(w,.bool true)
theorem wk (L:List (List UInt8)):(pK L).map (·.1)=L:=by simp [pK,List.map_map,Function.comp_def]
theorem OC (L:List (List UInt8)) (w:List UInt8):(lk (pK L) w).getD (.bool false)=.bool (decide (w ∈ L)):=by
  induction L with
  | nil=>rfl
  | cons x L ih =>
    simp only [pK,List.map_cons,lk,List.find?_cons] at ih ⊢
    by_cases h:x=w
    · subst h;simp
    · have h2:¬ w=x:=fun q=>h q.symm
      simp only [decide_eq_false h,List.mem_cons,h2,false_or];exact ih
theorem J5 {L:List (List UInt8)} {w:List UInt8} (h:w ∉ L):yi (pK L) w (.bool true)=pK (L ++ [w]):=by
  rw [uO (by rw [wk];exact h)];simp [pK]
end Go.Proofs.YtjppkekmddjcfaaGreatDoor

namespace Go.Proofs.YtjppkekmddjcfaaGreatDoor
open Go Go.RowKit V
section
variable {P:Program} {e:gx} {A:AH} {x y z:Operand} {t kt et:TypeId} {ty:TypeId} {ps:String} {af:Array Edge} {dst:Option Nat} {Q:Value->AH->Prop} {Kp:List PanicEntry->AH->Prop} {g:Option (Nat × Bool)} {m clock:Nat} {es:Array MapEntry} {L:List (List UInt8)} {w:List UInt8} {v:Value} {rw:Bool}
theorem E8 (hx:bX e x=some (.map (some m))) (hy:bX e y=some (aX w)) (hu:P.underlying t=some (.map kt et)) (hk:P.underlying kt=some .string) (hz:cD P et=some (.bool false)) (hg:A.get m=some (.obj rw (.map es clock))) (hE:du aX es (pK L))
    (h:Q (.bool (decide (w ∈ L))) A):kO P e A { dst:=dst,op:=.lookup t x y false,type:=ty,pos:=ps,after:=af,guard:=g } Q Kp :=
  pT yO hx hy hu hk hz hg hE (by rw [OC];exact h)
theorem Fc (wf:A.wf) (hx:bX e x=some (.map (some m))) (hy:bX e y=some (aX w)) (hz:bX e z=some (.bool true)) (hu:P.underlying t=some (.map kt et)) (hk:P.underlying kt=some .string) (hg:A.get m=some (.obj true (.map es clock))) (hE:du aX es (pK L)) (hL:L.Nodup) (hn:w ∉ L)
    (h:∀ A1 D ck,ug A A1 m (.obj true (.map D ck))->du aX D (pK (L ++ [w]))->Q undef A1):kO P e A { dst:=dst,op:=.mapUpdate t x y z,type:=ty,pos:=ps,after:=af,guard:=g } Q Kp :=
  oh yO wf hx hy hz hu hk hg hE (by rw [wk];exact hL) fun A1 D ck h1 h2=>h A1 D ck h1 (by rw [J5 hn] at h2;exact h2)
end
theorem bI.ext3 {a b:bI} (h1:a.conj=b.conj) (h2:a.rel=b.rel) (h3:a.inv=b.inv):a=b:=by cases a;cases b;simp_all
instance:DecidableEq bI:=fun a b=>decidable_of_iff (a.conj=b.conj/\a.rel=b.rel/\a.inv=b.inv) ⟨fun h=>bI.ext3 h.1 h.2.1 h.2.2,fun h=>h ▸ ⟨rfl,rfl,rfl⟩⟩
theorem So {P:Program} {t ts ti tb:TypeId} {k:IntKind} {f0 f1 f2:Field} (hu:P.underlying t=some (.struct #[f0,f1,f2])) (hg:(P.stoodInHeld t || P.eqGuardType P.depth t)=false) (h0:f0.type=ts/\f0.offset=0/\f0.name ≠ "_") (h1:f1.type=ti/\f1.offset=1/\f1.name ≠ "_") (h2:f2.type=tb/\f2.offset=2/\f2.name ≠ "_")
    (a9:dx P ts=some false) (ai:dx P ti=some false) (ab:dx P tb=some false) (us:P.underlying ts=some .string) (ui:P.underlying ti=some (.int k)) (ub:P.underlying tb=some .bool) (a b:bI) :
    zD P t (.agg #[aX a.conj,num a.rel,.bool a.inv]) (.agg #[aX b.conj,num b.rel,.bool b.inv])=some (decide (a=b)):=by
  obtain ⟨a1,a2,a3⟩:=h0;obtain ⟨b1,b2,b3⟩:=h1;obtain ⟨c1,c2,c3⟩:=h2
  rw [Bool.or_eq_false_iff] at hg
  simp only [zD,hu,hg.1,hg.2,Bool.false_eq_true,or_self,if_false,Lz,a1,a2,a3,b1,b2,b3,c1,c2,c3,pt,a9,ai,ab,Vb,us,ui,ub,yv,if_true,ne_eq]
  have hd:decide (a=b)=(decide (a.conj=b.conj) && (decide (a.rel=b.rel) && (a.inv == b.inv))):=by
    rw [Bool.eq_iff_iff];simp only [decide_eq_true_eq,Bool.and_eq_true,beq_iff_eq]
    exact ⟨fun h=>h ▸ ⟨rfl,rfl,rfl⟩,fun h=>bI.ext3 h.1 h.2.1 h.2.2⟩
  rw [hd]
  by_cases q1:a.conj=b.conj <;> by_cases q2:a.rel=b.rel <;> cases h3:a.inv <;> cases h4:b.inv <;> simp [q1,q2,yv]
theorem qe {α:Type} {l m:List α} {d:α} {i:Nat} (hl:l.length=m.length) (hi:l.length<=i) (h:∀ j,j < i->l.getD j d=m.getD j d):l=m:=by
  refine List.ext_getElem hl fun j h1 h2=>?_
  have:=h j O
  simpa [h1,h2] using this
theorem yJ {α:Type} {l m:List α} {d:α} {i:Nat} (h:¬ l.getD i d=m.getD i d):l ≠ m:=fun e=>h (by rw [e])
def lu (pf:Bool) (r:bf):List UInt8 × List UInt8 × List bI:=(r.left,r.right,if pf then r.proof else [])
def iJ (pf:Bool) (rs ss:List bf):Bool:=decide (rs.map (lu pf)=ss.map (lu pf))
theorem rQ {β:Type} {f:bf->β} {rs:List bf} {i:Nat} (hi:i < rs.length):(rs.map f).getD i (f .zero)=f (rs.getD i .zero):=by simp [hi]
theorem JW {pf:Bool} {rs ss:List bf} (h:¬ rs.length=ss.length):iJ pf rs ss=false:=by
  rw [iJ,decide_eq_false_iff_not];intro q;have:=congrArg List.length q;simp at this;exact h this
theorem Oq {pf:Bool} {rs ss:List bf} {i:Nat} (hl:rs.length=ss.length) (hi:i < rs.length) (h:¬ lu pf (rs.getD i .zero)=lu pf (ss.getD i .zero)):iJ pf rs ss=false:=by
  rw [iJ,decide_eq_false_iff_not];intro q
  have:=congrArg (fun l=>l.getD i (lu pf .zero)) q
  simp only [rQ hi,rQ (show i < ss.length by omega)] at this
  exact h this
theorem JX {pf:Bool} {rs ss:List bf} {i:Nat} (hl:rs.length=ss.length) (hi:rs.length<=i) (h:∀ j,j < i->lu pf (rs.getD j .zero)=lu pf (ss.getD j .zero)):iJ pf rs ss=true:=by
  rw [iJ,decide_eq_true_iff]
  refine qe (d:=lu pf .zero) (i:=i) (by simpa using hl) (by simpa using hi) fun j hj=>?_
  by_cases q:j < rs.length
  · rw [rQ q,rQ O];exact h j hj
  · simp [q,show ¬ j < ss.length by omega]
section
variable {g:Int} {l:List (List UInt8)} {rs:List bf} {r:bf} {i:Nat} {w:List UInt8}
theorem jE {A:AH} {n:Nat} {a b:List UInt8} {v:Value} {xs:List Value} (h:bK A n v xs):qC [aX a,aX b,v]=true:=by
  obtain ⟨p,k,c,rfl,_⟩:=h;rfl
def uZ (g:Int) (w:List UInt8):Bool:=decide (w=[]) || decide (200 < w.length) || !decide (bG g w=0) || !decide (cn w=w)
theorem Ju (hg:¬ (g < 1\/8 < g)) (hl:¬ 60 < l.length) (h:¬ 0<=AJ (uZ g) l):dt g l=0:=by
  rw [uD,Bool.not_eq_true,List.any_eq_false] at h
  refine rm (i:=l.length) hg hl (Nat.le_refl _) fun j hj=>?_
  have:=h _ (bw (d:=[]) hj)
  simp only [uZ,Bool.or_eq_true,decide_eq_true_eq,Bool.not_eq_true',decide_eq_false_iff_not,not_or,Decidable.not_not] at this
  obtain ⟨⟨⟨h1,h2⟩,h3⟩,h4⟩:=this
  exact ⟨by omega,Iu h1 (fun q=>q h3) O (fun q=>q h4)⟩
theorem MS (hg:¬ (g < 1\/8 < g)) (h:0<=AJ (uZ g) l):¬ dt g l=0:=by
  rw [uD,List.any_eq_true] at h
  obtain ⟨x,hx,hb⟩:=h
  intro q
  have h2:=(cR q).2.2 x hx
  obtain ⟨g1,g2,g3⟩:=tD h2.2
  have:cn x=x:=by rw [wr (L5 O g2),g3]
  simp only [uZ,g1,g2,this,decide_false,decide_true,Bool.not_true,Bool.or_false,Bool.false_or,decide_eq_true_eq] at hb
  omega
theorem ze (h:g < 1):¬ dt g l=0:=fun q=>by have:=(cR q).1;omega
theorem zf (h:8 < g):¬ dt g l=0:=fun q=>by have:=(cR q).1;omega
theorem zd (h:60 < l.length):¬ dt g l=0:=fun q=>by have:=(cR q).2.1;omega
theorem kB (h:js g w=true):w.length<=1000:=by simp only [js,decide_eq_true_eq] at h;exact h.1
theorem so (h:js g w=true):bG g w=0:=by simp only [js,decide_eq_true_eq] at h;exact h.2.1
theorem pq {b:Bool} (h:(!b)=false):b=true:=by simpa using h
theorem wU {b:Bool} (h:(!b)=true):b=false:=by simpa using h
def fZ (g:Int) (l:List (List UInt8)) (r:bf):Bool:=js g r.left && js g r.right && decide (da r.right r.left < 0) && decide (gu g l r.proof (r.left ++ c0 r.right)=0)
def iz (rs:List bf):List (List UInt8):=rs.map (·.left)
def cj (g:Int) (l:List (List UInt8)) (rs:List bf):Bool:=decide (dt g l=0) && decide (rs.length<=2000) && rs.all (fZ g l) && decide (iz rs).Nodup
theorem kw (h:(!js g r.left)=true):fZ g l r=false:=by simp [fZ,wU h]
theorem kx (h:(!js g r.right)=true):fZ g l r=false:=by simp [fZ,wU h]
theorem ky (h:0<=da r.right r.left):fZ g l r=false:=by simp [fZ,show ¬ da r.right r.left < 0 by omega]
theorem kz (h:¬ gu g l r.proof (r.left ++ c0 r.right)=0):fZ g l r=false:=by simp [fZ,h]
theorem Cb (h1:(!js g r.left)=false) (h2:(!js g r.right)=false) (h3:¬ 0<=da r.right r.left) (h4:¬ ¬ gu g l r.proof (r.left ++ c0 r.right)=0):fZ g l r=true:=by
  simp [fZ,pq h1,pq h2,show da r.right r.left < 0 by omega,Decidable.not_not.1 h4]
theorem gB (h:fZ g l r=true):js g r.left=true/\js g r.right=true/\da r.right r.left < 0/\gu g l r.proof (r.left ++ c0 r.right)=0:=by
  simp only [fZ,Bool.and_eq_true,decide_eq_true_eq] at h;exact ⟨h.1.1.1,h.1.1.2,h.1.2,h.2⟩
theorem GX (h:¬ dt g l=0):cj g l rs=false:=by simp [cj,h]
theorem GY (h:2000 < rs.length):cj g l rs=false:=by simp [cj,show ¬ rs.length<=2000 by omega]
theorem my (hi:i < rs.length) (h:fZ g l (rs.getD i .zero)=false):cj g l rs=false:=by
  have:rs.all (fZ g l)=false:=List.all_eq_false.2 ⟨_,bw (d:=.zero) hi,by rw [h];decide⟩
  simp [cj,this]
theorem GZ (hi:i < rs.length) (h:(rs.getD i .zero).left ∈ iz (rs.take i)):cj g l rs=false:=by
  have:¬ (iz rs).Nodup:=fun q=>by
    have e:rs.getD i .zero=rs[i]:=by simp [hi]
    have h2:rs=rs.take i ++ rs.drop i:=(List.take_append_drop i rs).symm
    rw [iz,h2,List.map_append,List.drop_eq_getElem_cons hi] at q
    exact (List.nodup_append.1 q).2.2 _ h _ (List.mem_cons_self) (by rw [e])
  simp [cj,this]
theorem Ia (hp:¬ ¬ dt g l=0) (hn:¬ 2000 < rs.length) (hi:rs.length<=i) (h:∀ j,j < i->fZ g l (rs.getD j .zero)=true) (hd:(iz (rs.take i)).Nodup):cj g l rs=true:=by
  have:rs.all (fZ g l)=true:=List.all_eq_true.2 fun r hr=>by
    obtain ⟨j,hj,rfl⟩:=List.getElem_of_mem hr
    have:=h j O
    simpa [hj] using this
  rw [List.take_of_length_le hi] at hd
  simp [cj,this,Decidable.not_not.1 hp,show rs.length<=2000 by omega,hd]
theorem fB (h:cj g l rs=true):dt g l=0/\rs.length<=2000/\(∀ r ∈ rs,fZ g l r=true)/\(iz rs).Nodup:=by
  simp only [cj,Bool.and_eq_true,decide_eq_true_eq,List.all_eq_true] at h;exact ⟨h.1.1.1,h.1.1.2,h.1.2,h.2⟩
def Va (l:List (List UInt8)) (rs:List bf):Prop:=l.length<=100000/\(∀ x ∈ l,x.length<=100000)/\rs.length<=100000/\∀ r ∈ rs,r.left.length<=100000/\r.right.length<=100000/\r.proof.length<=10000000/\cz r.proof<=100000000
def isRed (g:Int) (l:List (List UInt8)) (rs:List bf):Bool:=cj g l rs && rs.all fun r=>s9 rs r.right && (s9 rs (r.left.take (r.left.length - 1)) && s9 rs (r.left.drop 1))
theorem I9 (h:cj g l rs=false):isRed g l rs=false:=by rw [isRed,h];rfl
theorem Mi {r:bf} (h:fZ g l r=true):0 < r.left.length:=by
  have:=(gB h).2.2.1
  rcases Nat.eq_zero_or_pos r.left.length with q | q
  · rw [List.length_eq_zero_iff.1 q] at this
    unfold da at this
    split at this
    · simp only [gT,List.length_nil] at this
      split at this
      · simp at this
      · rename_i q2
        have:r.right=[]:=List.length_eq_zero_iff.1 (by simpa using q2)
        rw [this] at *;simp [je] at *
    · omega
  · exact q
theorem lm (h:cj g l rs=true) (hr:r ∈ rs):r.left.length<=1000/\r.right.length<=1000/\0 < r.left.length :=
  have q:=(fB h).2.2.1 r hr
  ⟨kB (gB q).1,kB (gB q).2.1,Mi q⟩
theorem qO (h:(if cj g l rs then 0 else 100)=0):cj g l rs=true:=by
  split at h
  · assumption
  · cases h
theorem ru (h:¬ (if cj g l rs then 0 else 100)=0):cj g l rs=false:=by
  split at h
  · exact absurd Z h
  · rename_i q;simpa using q
theorem FB {d:List bI} {c:bI} (h:c ∈ d):c.conj.length<=cz d:=by
  induction d with
  | nil=>cases h
  | cons a d ih =>
    simp only [cz,List.map_cons,List.sum_cons] at ih ⊢
    rcases List.mem_cons.1 h with rfl | h
    · omega
    · have:=ih h;omega
theorem vz (hi:i < rs.length):iz (rs.take (i + 1))=iz (rs.take i) ++ [(rs.getD i .zero).left]:=by
  have e:rs.getD i .zero=rs[i]:=by simp [hi]
  rw [iz,iz,List.take_succ_eq_append_getElem hi,List.map_append,e];rfl
theorem vy (hi:i < rs.length) (hd:(iz (rs.take i)).Nodup) (h:(rs.getD i .zero).left ∉ iz (rs.take i)):(iz (rs.take (i + 1))).Nodup:=by
  rw [vz hi]
  exact List.nodup_append.2 ⟨hd,by simp,by intro a ha b hb;simp at hb;subst hb;exact fun q=>h (q ▸ ha)⟩
theorem Mj {k:Nat} (hk:k < i) (hi:i<=rs.length) (h:(rs.getD k .zero).left=w):w ∈ iz (rs.take i):=by
  rw [<- h,iz]
  refine List.mem_map_of_mem ?_
  have e:rs.getD k .zero=(rs.take i).getD k .zero:=by simp [List.getElem?_take_of_lt hk]
  rw [e];exact bw Oz
theorem Jd {n:Nat} (hn:i<=n) (h:∀ k,k < n->(rs.getD k .zero).left ≠ w):w ∉ iz (rs.take i):=fun q=>by
  obtain ⟨r,hr,e⟩:=List.mem_map.1 q
  obtain ⟨k,hk,rfl⟩:=List.getElem_of_mem hr
  have D:k < i/\k < rs.length:=by rw [List.length_take] at hk;omega
  have:=h k O
  rw [List.getElem_take] at e
  apply this;rw [<- e];simp [D.2]
end
end Go.Proofs.YtjppkekmddjcfaaGreatDoor

namespace Go.Proofs
open Go.Proofs.YtjppkekmddjcfaaGreatDoor
open Go.Shelf
def Tryz.containsS_ren:Go.Shelf.Ren:=⟨fun | 144=>101 | 143=>134 | 219=>177 | 217=>195 | 225=>196 | 224=>197 | 267=>198 | 266=>204 | 314=>205 | n=>n,fun | 9=>9 | 4=>4 | 3=>3 | 5=>5 | 46=>165 | 146=>237 | 51=>199 | n=>n,fun | 1=>1 | n=>n⟩
theorem Tryz.containsS:Go.Proofs.Lays.n144 Tryz.prog Tryz.containsS_ren:={
  mixed:=by kernel_rfl
  f143:=Tryz.func134.trans (congrArg some Y)
  f144:=Tryz.func101.trans (congrArg some Y)
  f217:=Tryz.func195.trans (congrArg some Y)
  f219:=Tryz.func177.trans (congrArg some Y)
  f224:=Tryz.func197.trans (congrArg some Y)
  f225:=Tryz.func196.trans (congrArg some Y)
  f266:=Tryz.func204.trans (congrArg some Y)
  f267:=Tryz.func198.trans (congrArg some Y)
  f314:=Tryz.func205.trans (congrArg some Y)
  t3:=Tryz.underlying3
  a3:=Tryz.isAgg3
  z3:=Tryz.sizeOf3
  v3:=Tryz.zeroValue3
  t4:=Tryz.underlying4
  a4:=Tryz.isAgg4
  z4:=Tryz.sizeOf4
  v4:=Tryz.zeroValue4
  t5:=Tryz.underlying5
  a5:=Tryz.isAgg5
  z5:=Tryz.sizeOf5
  v5:=Tryz.zeroValue5
  t9:=Tryz.underlying9
  a9:=Tryz.isAgg9
  z9:=Tryz.sizeOf9
  v9:=Tryz.zeroValue9
  t46:=Tryz.underlying165
  a46:=Tryz.isAgg165
  z46:=Tryz.sizeOf165
  v46:=Tryz.zeroValue165
  t51:=Tryz.underlying199
  a51:=Tryz.isAgg199
  z51:=Tryz.sizeOf199
  v51:=Tryz.zeroValue199
  t146:=Tryz.underlying237
  a146:=Tryz.isAgg237
  z146:=Tryz.sizeOf237
  v146:=Tryz.zeroValue237
  g1:=by kernel_rfl }
end Go.Proofs

namespace Go.Proofs.YtjppkekmddjcfaaGreatDoor
open Go Go.RowKit V
def rB (A:AH):Prop:=∃ rw cap m,A.get 1=some (.row rw [num m] cap)
theorem rB.le {A B:AH} (h:rB A) (le:A.le B):rB B:=by obtain ⟨r,c,m,h⟩:=h;exact ⟨r,c,m,le.get _ _ h⟩
theorem MA {a w:List UInt8} {i:Nat} (hi:i + w.length<=a.length):Lib.occAt a w i=decide (zF a w i):=by
  rw [Lib.occAt_iff_take a w i hi,Bool.eq_iff_iff,beq_iff_eq,decide_eq_true_iff,zF]
  have:(a.take (i + w.length)).drop i=(a.drop i).take w.length:=by rw [List.drop_take,show i + w.length - i=w.length by omega]
  rw [this];exact ⟨fun h=>⟨hi,h⟩,fun h=>h.2⟩
theorem FK {a w:List UInt8}:0<=yE a w 0 ↔ ∃ i,zF a w i:=by
  unfold yE
  split
  · rename_i i h
    have h2:=List.find?_some h
    simp only [Nat.zero_le,true_and,decide_eq_true_eq] at h2
    exact ⟨fun _=>⟨i,h2⟩,fun _=>by omega⟩
  · rename_i h
    refine ⟨fun q=>by omega,fun ⟨i,hi⟩=>?_⟩
    have:=List.find?_eq_none.1 h i (List.mem_range.2 (by have:=hi.1;omega))
    simp [hi] at this
theorem yz (a w:List UInt8):Lib.contains a w=decide (0<=yE a w 0):=by
  rw [Lib.contains,Bool.eq_iff_iff,decide_eq_true_iff,decide_eq_true_iff,FK]
  rcases Lib.index_spec a w with ⟨h1,h2⟩ | ⟨i,h1,h2,h3,_⟩
  · rw [h1]
    refine ⟨fun q=>by omega,fun ⟨i,hi⟩=>?_⟩
    have:=h2 i (by have:=hi.1;omega)
    rw [MA hi.1,decide_eq_false_iff_not] at this
    exact absurd hi this
  · rw [h1]
    refine ⟨fun _=>?_,fun _=>by omega⟩
    rcases Lib.occAt_room h3 with q | q
    · exact ⟨i,by rw [MA q] at h3;simpa using h3⟩
    · subst q;exact ⟨0,by simp [zF]⟩
theorem Qf {rs:List bf} {w:List UInt8} (h:cn w=w):s9 rs w = !decide (0<=AJ (fun r:bf=>decide (0<=yE w r.left 0)) rs):=by
  have e:decide (0<=AJ (fun r:bf=>decide (0<=yE w r.left 0)) rs)=rs.any (fun r=>decide (0<=yE w r.left 0)):=by
    rw [Bool.eq_iff_iff,decide_eq_true_iff,uD]
  rw [e,s9,decide_eq_true h,Bool.true_and,List.not_any_eq_all_not]
  congr 1;funext r
  rw [<- decide_not];congr 1;rw [eq_iff_iff];omega
def o5 (rs:List bf) (r:bf):Bool:=!s9 rs r.right || !(s9 rs (r.left.take (r.left.length - 1)) && s9 rs (r.left.drop 1))
theorem I8 {g:Int} {l:List (List UInt8)} {rs:List bf} (h:cj g l rs=true):isRed g l rs = !decide (0<=AJ (o5 rs) rs):=by
  have e:decide (0<=AJ (o5 rs) rs)=rs.any (o5 rs):=by
    rw [Bool.eq_iff_iff,decide_eq_true_iff,uD]
  rw [e,isRed,h,Bool.true_and,List.not_any_eq_all_not]
  congr 1;funext r
  simp [o5]
theorem Ej (a w:List UInt8) (A:AH) (hM:rB A) (ha:a.length < 4294967281):bH Tryz.prog 101 #[aX a,aX w] A (fun v A1=>v=.bool (decide (0<=yE a w 0))/\A=A1):=by
  obtain ⟨rw,cap,m,hm⟩:=hM
  refine ⟨Tryz.call101,fun W hW=>?_⟩
  refine (Any.strings_Contains Tryz.containsS (bs a) (bs w) m W (by rw [uw];exact ha) (hW.cell (a:=⟨1,0,none⟩) (by simp [AH.cell,hm]))).mono ?_
  rintro e w' ⟨rfl,rfl⟩
  exact ⟨A,hW,.refl _ _,_,Z,by rw [yu,yu,yz],Z⟩
end Go.Proofs.YtjppkekmddjcfaaGreatDoor

namespace Go.Proofs.YtjppkekmddjcfaaGreatDoor
open Go Go.ChangeShapes Go.WideShapes Go.ChangeAt Go.RowKit V
set_option maxRecDepth 100000

theorem own:ownKnob Tryz.prog.godebug=none:=by kernel_rfl
theorem Gb:laidOutB Tryz.prog=true:=by kernel_rfl
theorem Uj:Tryz.prog.globalNamed "cayley/word.letters" = some 0:=by kernel_rfl
theorem LJ:(Tryz.prog.globals[0]?).map (·.type)=some 172:=by kernel_rfl
theorem PH:Tryz.prog.cellsOf 172=16:=by kernel_rfl
theorem Sj:Tryz.prog.cellsOf 5=1:=by kernel_rfl
theorem De:Tryz.prog.cellsOf 9=1:=by kernel_rfl
theorem KX:Tryz.prog.cellsOf 3=1:=by kernel_rfl
theorem PB:Tryz.prog.cellsOf 22=1:=by kernel_rfl
theorem Fw:Tryz.prog.cellsOf 24=2:=by kernel_rfl
theorem PC:Tryz.prog.cellsOf 25=1:=by kernel_rfl
theorem PD:Tryz.prog.cellsOf 27=3:=by kernel_rfl
theorem PG:Tryz.prog.cellsOf 35=1:=by kernel_rfl
theorem Fx:Tryz.prog.cellsOf 83=3:=by kernel_rfl
theorem nS {P:Program} {x:String × DataW Unit} {r:List (String × DataW Unit)} {w:World} (h:laidMet P (x :: r) w):laidMet P r w:=by
  obtain ⟨ps,⟨g,t,cs,fuel,p,q,_,_,_,_,hr,rfl⟩,hn,hc⟩:=h
  exact ⟨q,hr,(List.nodup_append.1 hn).2.1,fun b off hm=>hc b off (List.mem_append_right _ hm)⟩
abbrev AO:List (String × DataW Unit):=[("math/bits.deBruijn32tab",Rows.laid_math_bits_deBruijn32tab),("math/bits.deBruijn64tab",Rows.laid_math_bits_deBruijn64tab),("internal/strconv.uint64pow10",Rows.laid_internal_strconv_uint64pow10),("cayley/word.letters",Rows.laid_cayley_word_letters)]
theorem UT {W:World} (h:laidMetH Tryz.prog AO W):Lib.TabIs Tryz.prog W "cayley/word.letters" .u8 (cI.map fun c=>(c.toNat:Int)):=by
  have h0:laidMet Tryz.prog AO W:=h
  exact Lib.tabIs_of_head (rest:=[]) Uj LJ Tryz.underlying172 Tryz.underlying5 Sj PH (nS (nS (nS h0)))

def AH.ofWorld (W:World):AH:=⟨W.heap.size,fun b=>match W.heap[b]? with
  | some (.cells cs _ _)=>some (.row false cs.toList cs.size)
  | some o=>some (.obj false o)
  | none=>none⟩
theorem EP (W:World):cu (AH.ofWorld W) W:=by
  refine ⟨rfl,fun b o h=>?_⟩
  simp only [AH.ofWorld] at h
  split at h
  · rename_i cs e fr hb
    cases h
    exact ⟨cs,e,fr,hb,by simp,Nat.le_refl _,fun i hi=>by simp,fun q=>by cases q⟩
  · rename_i x hx hb
    cases h
    exact ⟨hb,fun c e f q=>hx c e f q⟩
  · cases h
theorem Nu (W:World) (b:Nat):(AH.ofWorld W).rw b=false:=by
  unfold AH.rw AH.ofWorld
  simp only
  split
  · rename_i o ho
    split at ho <;> first | (cases ho;rfl) | cases ho
  · rfl
theorem zO {W w':World} {A':AH} (h:eJ (AH.ofWorld W) W A' w'):Below W.heap.size W w' :=
  ⟨h.os,h.tape,h.output.1,h.size,fun k hk=>h.kept k hk (Nu W k)⟩
theorem DG {W:World} (h:Lib.TabIs Tryz.prog W "cayley/word.letters" .u8 (cI.map fun c=>(c.toNat:Int))):gJ (AH.ofWorld W):=by
  unfold Lib.TabIs World.var? at h
  rw [Uj] at h
  simp only [Option.bind_some] at h
  split at h
  · rename_i cs e fr hb
    refine ⟨false,cs.size,?_⟩
    have:cs.toList=ao cI:=by
      have:=congrArg (Option.map Array.toList) h
      simp only [Option.map_some,Option.some.injEq] at this
      rw [this]
      simp [ao]
    simp only [AH.ofWorld,hb,this]
  · cases h
theorem pO (s:ByteArray):Value.string s=aX s.data.toList:=by
  show Value.string s=Value.string ⟨s.data.toList.toArray⟩
  rw [Array.toArray_toList]
theorem Db {k:FuncId} {args:List Value} {W:World} (h:bH Tryz.prog k args.toArray (AH.ofWorld W) fun v A1=>v=.bool true/\(AH.ofWorld W).le A1/\A1.wf) :
    Calls Tryz.prog k args.toArray W fun e w'=>e=.returned (.bool true)/\Below W.heap.size W w':=by
  refine (h.2 W (EP W)).mono ?_
  rintro e w' ⟨A',_,hs,v,rfl,rfl,_⟩
  exact ⟨Z,zO hs⟩
theorem Fy:Tryz.prog.cellsOf 85=3:=by kernel_rfl
theorem Si:Tryz.prog.cellsOf 4=1:=by kernel_rfl
theorem tE {α:Type} {Q:Nat->α->Prop}:∀ n:Nat,(∀ i,i < n->∃ z,Q i z)->∃ zs:List α,zs.length=n/\∀ i z,zs[i]? = some z->Q i z
  | 0,_=>⟨[],rfl,fun i z h=>by simp at h⟩
  | n + 1,h=>by
    obtain ⟨zs,h1,h2⟩:=tE n fun i hi=>h i O
    obtain ⟨z,hz⟩:=h n O
    refine ⟨zs ++ [z],by simp [h1],fun i y hy=>?_⟩
    by_cases q:i < n
    · exact h2 i y (by rwa [List.getElem?_append_left O] at hy)
    · rw [List.getElem?_append_right O] at hy
      have:i - zs.length=0:=by
        have:=(List.getElem?_eq_some_iff.1 hy).1
        simp at this;omega
      rw [this] at hy
      have e:i=n:=by omega
      have:z=y:=by simpa using hy
      rw [e,<- this];exact hz
theorem Aq {α:Type} {f:α->List Value} {k:Nat} (hf:∀ z,(f z).length=k):∀ (zs:List α) (i j:Nat) (z:α),zs[i]? = some z->j < k->(zs.flatMap f)[i * k + j]? = (f z)[j]?
  | [],i,j,z,h,_=>by simp at h
  | a :: zs,0,j,z,h,hj=>by
    have:a=z:=by simpa using h
    subst this
    rw [Nat.zero_mul,Nat.zero_add,List.flatMap_cons,List.getElem?_append_left (by rw [hf];exact hj)]
  | a :: zs,i + 1,j,z,h,hj=>by
    have:=Aq hf zs i j z (by simpa using h) hj
    rw [List.flatMap_cons,List.getElem?_append_right (by rw [hf,Nat.add_mul];omega),hf,<- this]
    congr 1;rw [Nat.add_mul];omega
theorem Au {α:Type} {f:α->List Value} {k:Nat} (hf:∀ z,(f z).length=k) (zs:List α):(zs.flatMap f).length=zs.length * k:=by
  induction zs with
  | nil=>simp
  | cons a zs ih=>rw [List.flatMap_cons,List.length_append,ih,hf,List.length_cons,Nat.add_mul];omega

theorem Ip (a:Addr) (n:Nat):(a.add n).block=a.block:=by unfold Addr.add;split <;> rfl
theorem Pt (a:Addr) (m n:Nat):(a.add m).add n=a.add (m + n):=by
  by_cases hm:m=0
  · subst hm;simp [Addr.add]
  · by_cases hn:n=0
    · subst hn;simp [Addr.add]
    · have:¬ m + n=0:=by omega
      simp [Addr.add,hm,hn,this,Nat.add_assoc]
theorem th {P:Program} {α:Type} {H:Type} {enc:TypeId × Value->H} {W:World} {base:Nat} {sp:Nat->Bool} {held:Bool} {t e:TypeId} {fuel k:Nat} {cs:List Value} {x:DataW H × List MemPlace} (f:α->List Value) (p:α->Prop) (hf:∀ z,(f z).length=k) (h0:0 < k)
    (ht:P.underlying t=some (.slice e)) (hc:P.cellsOf e=k) (each:∀ (m:Nat) (c:List Value) (y:DataW H × List MemPlace),DataW.trod enc P W base sp held m e c=some y->∃ z,c=f z/\p z) (h:DataW.trod enc P W base sp held fuel t cs=some x) :
    ∃ (zs:List α) (v:Value),cs=[v]/\zs.length<=maxLen/\bK (AH.ofWorld W) k v (zs.flatMap f)/\∀ z ∈ zs,p z:=by
  rcases DataW.trod_slice ht h with ⟨rfl,_⟩ | ⟨a,len,cap,elems,rest,n,_,rfl,_,hb,hl,hm,hlen,hel,_,_⟩
  · exact ⟨[],_,Z,Nat.zero_le _,⟨none,0,0,Z,by simp,Nat.le_refl _,.inl Z⟩,by simp⟩
  · have key:∀ i,i < len->∃ z,p z/\∀ j,j < k->W.cell? (a.add (i * k + j))=(f z)[j]?:=by
      intro i hi
      have hq:=hel i hi
      have hsome:∃ y,elems[i]? = some y:=⟨elems[i]'O,by simp [show i < elems.length by omega]⟩
      obtain ⟨y,hy⟩:=hsome
      rw [hy,Option.bind_eq_some_iff] at hq
      obtain ⟨c,D,a1⟩:=hq
      obtain ⟨z,rfl,hz⟩:=each n c y a1
      refine ⟨z,hz,fun j hj=>?_⟩
      unfold World.cells? at D
      rw [if_pos (by rw [Ip];exact hb)] at D
      have:=mapM_some_get D j j (by rw [hc];simp [hj])
      rw [hc] at this
      rw [<- this,Pt]
    obtain ⟨zs,a0,V⟩:=tE len key
    refine ⟨zs,_,rfl,by omega,⟨some a,len,cap,rfl,by rw [Au hf,a0],hl,?_⟩,fun z hz=>?_⟩
    · by_cases hz:len=0
      · exact .inl hz
      · right
        obtain ⟨blk,off,spot⟩:=a
        obtain ⟨z0,a4⟩:∃ z,zs[0]? = some z:=⟨zs[0]'O,by simp [show 0 < zs.length by omega]⟩
        have X:=(V 0 z0 a4).2 0 h0
        have a2:∃ v,(f z0)[0]? = some v:=⟨(f z0)[0]'(by rw [hf];exact h0),by simp [hf,h0]⟩
        obtain ⟨v0,a3⟩:=a2
        rw [a3] at X
        have hspot:spot=none:=by simpa [Addr.add] using World.cell?_spot X
        subst hspot
        have hcell:∀ i j,i < len->j < k->∃ z,zs[i]? = some z/\∃ cs e fr,W.heap[blk]? = some (.cells cs e fr)/\cs[off + (i * k + j)]? = (f z)[j]?:=fun i j hi hj=>by
          obtain ⟨z,hz⟩:∃ z,zs[i]? = some z:=⟨zs[i]'O,by simp [show i < zs.length by omega]⟩
          refine ⟨z,hz,?_⟩
          have:=(V i z hz).2 j hj
          have hv:(f z)[j]? = some ((f z)[j]'(by rw [hf];exact hj)):=by simp [hf,hj]
          rw [hv] at this ⊢
          rw [add_plain] at this
          simp only [World.cell?] at this
          split at this
          · rename_i cs e fr hb
            exact ⟨cs,e,fr,hb,by simpa using this⟩
          · cases this
        obtain ⟨_,_,cs,e',fr,hb,_⟩:=hcell 0 0 O h0
        refine ⟨blk,off,false,cs.toList,cs.size,Z,by simp [AH.ofWorld,hb],?_⟩
        apply List.ext_getElem?
        intro q
        by_cases hq:q < len * k
        · have hk:q / k < len:=Nat.div_lt_of_lt_mul (by rw [Nat.mul_comm];exact hq)
          have hr:q % k < k:=Nat.mod_lt _ h0
          have e1:q / k * k + q % k=q:=by rw [Nat.mul_comm];exact Nat.div_add_mod q k
          obtain ⟨z,hz,cs',e',fr',hb',h2⟩:=hcell (q / k) (q % k) hk hr
          rw [hb] at hb';cases hb'
          rw [e1] at h2
          have h3:=Aq hf zs (q / k) (q % k) z hz hr
          rw [e1] at h3
          rw [List.getElem?_take_of_lt hq,List.getElem?_drop,Array.getElem?_toList,h2,h3]
        · rw [List.getElem?_eq_none Oz,List.getElem?_eq_none (by rw [Au hf,a0];omega)]
    · obtain ⟨i,hi,rfl⟩:=List.getElem_of_mem hz
      exact (V i _ (by simp [hi])).1

section
variable {H:Type} {enc:TypeId × Value->H} {W:World} {base:Nat} {sp:Nat->Bool} {held:Bool} {fuel:Nat} {x:DataW H × List MemPlace}
theorem CI {c:List Value} (h:c.length=3):∃ a b d,c=[a,b,d]:=by
  match c,h with
  | [a,b,d],_=>exact ⟨a,b,d,Z⟩
theorem Jo {c:List Value} (h:DataW.trod enc Tryz.prog W base sp held fuel 85 c=some x):∃ z:bI,c=o7 z/\z.conj.length<=9223372036854775807:=by
  obtain ⟨xs,n,_,_,hl,hx,hi⟩:=DataW.trod_struct Tryz.underlying85 h
  rw [Fy] at hl
  obtain ⟨a,b,d,rfl⟩:=CI hl
  have some_at:∀ i,i < 3->∃ y,xs[i]? = some y:=fun i hi=>⟨xs[i]'(by rw [hx];exact hi),by simp [show i < xs.length by rw [hx];exact hi]⟩
  obtain ⟨y0,h0⟩:=some_at 0 U
  obtain ⟨y1,h1⟩:=some_at 1 U
  obtain ⟨y2,h2⟩:=some_at 2 U
  have g0:=hi 0 _ Z
  have g1:=hi 1 _ Z
  have g2:=hi 2 _ Z
  rw [h0] at g0
  rw [h1] at g1
  rw [h2] at g2
  obtain ⟨s,e0,_,hs⟩:=DataW.trod_string Tryz.underlying9 g0
  obtain ⟨r,e1,_⟩:=DataW.trod_int Tryz.underlying3 g1
  obtain ⟨v,e2,_⟩:=DataW.trod_bool Tryz.underlying4 g2
  have e0:List.take (Tryz.prog.cellsOf 9) (List.drop 0 [a,b,d])=_:=e0
  have e1:List.take (Tryz.prog.cellsOf 3) (List.drop 1 [a,b,d])=_:=e1
  have e2:List.take (Tryz.prog.cellsOf 4) (List.drop 2 [a,b,d])=_:=e2
  rw [De] at e0;rw [KX] at e1;rw [Si] at e2
  have f0:a=.string s:=by simpa using e0
  have f1:b=.int .i64 r:=by simpa using e1
  have f2:d=.bool v:=by simpa using e2
  refine ⟨⟨s.data.toList,r,v⟩,?_,?_⟩
  · rw [f0,f1,f2,pO];rfl
  · unfold maxLen at hs
    show s.data.toList.length<=_
    rw [Array.length_toList]
    exact Nat.le_trans hs U
theorem Jp {c:List Value} (h:DataW.trod enc Tryz.prog W base sp held fuel 83 c=some x):∃ z:bf,c=qK z/\bK (AH.ofWorld W) 3 z.pv (cb z.proof):=by
  obtain ⟨xs,n,_,_,hl,hx,hi⟩:=DataW.trod_struct Tryz.underlying83 h
  rw [Fx] at hl
  obtain ⟨a,b,d,rfl⟩:=CI hl
  have some_at:∀ i,i < 3->∃ y,xs[i]? = some y:=fun i hi=>⟨xs[i]'(by rw [hx];exact hi),by simp [show i < xs.length by rw [hx];exact hi]⟩
  obtain ⟨y0,h0⟩:=some_at 0 U
  obtain ⟨y1,h1⟩:=some_at 1 U
  obtain ⟨y2,h2⟩:=some_at 2 U
  have g0:=hi 0 _ Z
  have g1:=hi 1 _ Z
  have g2:=hi 2 _ Z
  rw [h0] at g0
  rw [h1] at g1
  rw [h2] at g2
  obtain ⟨s,e0,_,_⟩:=DataW.trod_string Tryz.underlying9 g0
  obtain ⟨r,e1,_,_⟩:=DataW.trod_string Tryz.underlying9 g1
  obtain ⟨zs,v,e2,_,hs,_⟩:=th o7 (fun z=>z.conj.length<=9223372036854775807) (fun _=>rfl) U Tryz.underlying35 Fy (fun _ _ _ h=>Jo h) g2
  have e0:List.take (Tryz.prog.cellsOf 9) (List.drop 0 [a,b,d])=_:=e0
  have e1:List.take (Tryz.prog.cellsOf 9) (List.drop 1 [a,b,d])=_:=e1
  have e2:List.take (Tryz.prog.cellsOf 35) (List.drop 2 [a,b,d])=_:=e2
  rw [De] at e0 e1;rw [PG] at e2
  have f0:a=.string s:=by simpa using e0
  have f1:b=.string r:=by simpa using e1
  have f2:d=v:=by simpa using e2
  refine ⟨⟨s.data.toList,r.data.toList,v,zs⟩,?_,hs⟩
  rw [f0,f1,f2,pO,pO];rfl
theorem Jq {c:List Value} (h:DataW.trod enc Tryz.prog W base sp held fuel 9 c=some x):∃ z:List UInt8,c=[aX z]/\z.length<=9223372036854775807:=by
  obtain ⟨s,e0,_,hs⟩:=DataW.trod_string Tryz.underlying9 h
  refine ⟨s.data.toList,by rw [e0,pO],?_⟩
  unfold maxLen at hs
  rw [Array.length_toList]
  exact Nat.le_trans hs U
theorem J9 (l:List (List UInt8)):l.flatMap (fun w=>[aX w])=d5 l:=by
  induction l with
  | nil=>rfl
  | cons a l ih=>rw [List.flatMap_cons,ih];rfl
theorem D4 {c:List Value} (h:DataW.trod enc Tryz.prog W base sp held fuel 22 c=some x):∃ (l:List (List UInt8)) (u:Value),c=[u]/\l.length<=9223372036854775807/\bK (AH.ofWorld W) 1 u (d5 l):=by
  obtain ⟨zs,v,e,hl,hs,_⟩:=th (fun w:List UInt8=>[aX w]) (fun z=>z.length<=9223372036854775807) (fun _=>rfl) U Tryz.underlying22 De (fun _ _ _ h=>Jq h) h
  rw [J9] at hs
  unfold maxLen at hl
  exact ⟨zs,v,e,Nat.le_trans hl U,hs⟩
theorem DY {c:List Value} (h:DataW.trod enc Tryz.prog W base sp held fuel 25 c=some x):∃ (l:List bf) (u:Value),c=[u]/\l.length<=9223372036854775807/\bK (AH.ofWorld W) 3 u (c9 l)/\Proofs (AH.ofWorld W) l:=by
  obtain ⟨zs,v,e,hl,hs,hp⟩:=th qK (fun z=>bK (AH.ofWorld W) 3 z.pv (cb z.proof)) (fun _=>rfl) U Tryz.underlying25 Fx (fun _ _ _ h=>Jp h) h
  unfold maxLen at hl
  exact ⟨zs,v,e,Nat.le_trans hl U,hs,hp⟩
end
theorem MH {b0:Nat} {H:Type} {enc:TypeId × Value->H} {W:World} {v:Value} {d:DataW H} {ps:List MemPlace} (hval:Value.okWide Tryz.prog W .any b0 27 v) (hd:DataW.Trod enc Tryz.prog W 0 (fun _=>true) true 27 v d ps) :
    ∃ (g:Int) (u:Value) (l:List (List UInt8)) (rv:Value) (rs:List bf),v=.agg #[.int .i64 g,u,rv]/\l.length<=9223372036854775807/\rs.length<=9223372036854775807/\bK (AH.ofWorld W) 1 u (d5 l)/\bK (AH.ofWorld W) 3 rv (c9 rs)/\Proofs (AH.ofWorld W) rs:=by
  obtain ⟨cs,rfl,hsz⟩:=okWide_struct Tryz.underlying27 hval
  rw [PD] at hsz
  obtain ⟨a,b,c,rfl⟩:∃ a b c,cs = #[a,b,c]:=by
    rcases cs with ⟨l⟩
    match l,hsz with
    | [a,b,c],_=>exact ⟨a,b,c,Z⟩
  obtain ⟨fuel,hf⟩:=hd
  obtain ⟨y0,y1,n,_,_,g0,g1⟩:=trod_struct2 Tryz.underlying27 hf
  obtain ⟨z0,z1,m,_,_,k0,k1⟩:=trod_struct2 Tryz.underlying24 g0
  obtain ⟨g,e0,_⟩:=DataW.trod_int Tryz.underlying3 k0
  obtain ⟨l,u,e1,h,X⟩:=D4 k1
  obtain ⟨rs,rv,e2,D,a0,V⟩:=DY g1
  have e0:List.take (Tryz.prog.cellsOf 3) (List.drop 0 (List.take (Tryz.prog.cellsOf 24) (List.drop 0 [a,b,c])))=_:=e0
  have e1:List.take (Tryz.prog.cellsOf 22) (List.drop 1 (List.take (Tryz.prog.cellsOf 24) (List.drop 0 [a,b,c])))=_:=e1
  have e2:List.take (Tryz.prog.cellsOf 25) (List.drop 2 [a,b,c])=_:=e2
  rw [Fw,KX] at e0;rw [Fw,PB] at e1;rw [PC] at e2
  have f0:a=.int .i64 g:=by simpa using e0
  have f1:b=u:=by simpa using e1
  have f2:c=rv:=by simpa using e2
  exact ⟨g,u,l,rv,rs,by rw [f0,f1,f2],h,D,X,a0,V⟩
theorem Ji {W:World} (h:W.ShapedOpen Tryz.prog):rB (AH.ofWorld W):=by
  have h0:((begin Tryz.prog (fun _ _=>0) default).world.heap[1]?).bind Obj.row? = some (#[.int .i64 0],3):=by kernel_rfl
  obtain ⟨m,hm⟩:=cell_of_shapedOpen_int (g:=1) (t:=3) (zero:=#[.int .i64 0]) h (of_decide_eq_true Y) h0 Z Y Y Tryz.underlying3
  obtain ⟨cs,hh,hs,_⟩:=h.1 1 #[.int .i64 0] 3 (of_decide_eq_true Y) h0
  obtain ⟨c,rfl⟩:∃ c,cs = #[c]:=by
    rcases cs with ⟨l⟩
    match l,hs with
    | [c],_=>exact ⟨c,Z⟩
  have hc:c=.int .i64 m:=by
    simp only [World.cell?,hh] at hm
    simpa using hm
  subst hc
  exact ⟨false,1,m,by simp [AH.ofWorld,hh]⟩
noncomputable def td (os:Os):World :=
  let w:=World.holding Tryz.prog os ⟨#[],#[],[]⟩
  { w with heap:=((((w.heap.modify 0 fun
      | .cells _ t frozen=>.cells (ao cI).toArray t frozen
      | o=>o).modify 2 fun
      | .cells _ t frozen=>.cells #[.int .u64 1,.int .u64 10,.int .u64 100,.int .u64 1000,.int .u64 10000,.int .u64 100000,.int .u64 1000000,.int .u64 10000000,.int .u64 100000000,.int .u64 1000000000,.int .u64 10000000000,.int .u64 100000000000,.int .u64 1000000000000,.int .u64 10000000000000,.int .u64 100000000000000,.int .u64 1000000000000000,.int .u64 10000000000000000,.int .u64 100000000000000000,.int .u64 1000000000000000000,.int .u64 10000000000000000000] t frozen
      | o=>o).modify 3 fun
      | .cells _ t frozen=>.cells (ao [0,1,28,2,29,14,24,3,30,22,20,15,25,17,4,8,31,27,13,23,21,19,16,7,26,12,18,6,11,5,10,9]).toArray t frozen
      | o=>o).modify 4 fun
      | .cells _ t frozen=>.cells (ao [0,1,56,2,57,49,28,3,61,58,42,50,38,29,17,4,62,47,59,36,45,43,51,22,53,39,33,30,24,18,12,5,63,55,48,27,60,41,37,16,46,35,44,21,52,32,23,11,54,26,40,15,34,20,31,10,25,14,19,9,13,8,7,6]).toArray t frozen
      | o=>o) }
end Go.Proofs.YtjppkekmddjcfaaGreatDoor

namespace Go.Proofs.YtjppkekmddjcfaaGreatDoor
open Go Go.RowKit V
set_option maxRecDepth 100000
theorem mixed:Tryz.prog.follows .mixedOrders=true:=by kernel_rfl
theorem Ud:dx Tryz.prog 172=some true:=by kernel_rfl
theorem eM:dx Tryz.prog 3=some false:=by kernel_rfl
theorem Iq:dx Tryz.prog 5=some false:=by kernel_rfl
theorem fP:dx Tryz.prog 9=some false:=by kernel_rfl
theorem rd:Tryz.prog.info? 5=some Tryz.t5:=by kernel_rfl
theorem UO:dp Tryz.prog 172=some 16:=by kernel_rfl
theorem ji:dp Tryz.prog 5=some 1:=by kernel_rfl
theorem fc:dp Tryz.prog 9=some 1:=by kernel_rfl
theorem cy:type_of% @Tryz.underlying102:=@Tryz.underlying102
theorem UW:type_of% @Tryz.underlying172:=@Tryz.underlying172
theorem VO:type_of% @Tryz.underlying21:=@Tryz.underlying21
theorem mO:type_of% @Tryz.underlying22:=@Tryz.underlying22
theorem u4:type_of% @Tryz.underlying4:=@Tryz.underlying4
theorem u5:type_of% @Tryz.underlying5:=@Tryz.underlying5
theorem u9:type_of% @Tryz.underlying9:=@Tryz.underlying9
theorem z5:cD Tryz.prog 5=some (.int .u8 0):=by kernel_rfl
theorem z9:cD Tryz.prog 9=some (.string ⟨⟨[]⟩⟩):=by kernel_rfl

theorem GU (c:UInt8) (A:AH):bH Tryz.prog 175 #[d8 (c)] A (fun v A1=>v=d8 (c ^^^ 32)/\A=A1):=by
 refine ia Tryz.call175 Tryz.func175 Z Tryz.results175 Tryz.ntmps175 Z (fun wf=>?_);have h:=AH.le.refl A;refine am.seq fun _ h2=>.region<|.q Z (ae Z)<|.nil<|h2 _ _<|.seq fun _ h4=>.region<|.q Z (ah Z)<|.q Z (M8 (d:=32) Z Z)<|.q Z (ae Z) ?_;refine Ops.nil<|h4 _ _<|.rt (by exact aJ Z (⟨Z,Z⟩))

theorem si (c:UInt8) (A:AH) (hL:gJ A):bH Tryz.prog 98 #[d8 (c)] A (fun v A1=>v=num (ix c)/\A=A1):=by
 refine ia Tryz.call98 Tryz.func98 Z Tryz.results98 Tryz.ntmps98 Z (fun wf=>?_);have a5:=AH.le.refl A;obtain ⟨rwL,capL,gL⟩:=hL;refine am.seq fun _ h2=>.region<|.q Z (ae Z)<|.nil<|h2 _ _<|.seq fun _ h4=>.seq fun _ h6=>.region<|.q Z (aq Ud UO Z Z (a5.get _ _ gL) Z)<|.q Z (ah Z) ?_;refine Ops.nil<|h6 _ _<|.block<|.loop (X:=Nat) (fun k=>[(0,d8 (c)),(5,.agg #[d8 (97),d8 (65),d8 (98),d8 (66),d8 (99),d8 (67),d8 (100),d8 (68),d8 (101),d8 (69),d8 (102),d8 (70),d8 (103),d8 (71),d8 (104),d8 (72)]),(6,num ((k:Nat):Int))]) (fun k B=>(k<=16/\∀ j,j < k->cI.getD j 0 ≠ c)/\A=B) (fun k=>16 - k) 0 (jQ Z Z Z) (⟨⟨by omega,fun j h=>by omega⟩,Z⟩) ?_;rintro k B8 ⟨⟨hk,hn⟩,rfl⟩;refine am.seq fun _ D=>.region<|.q Z (cd (b:=16) Z Z)<|.nil<|D _ _<|.seq fun _ V=>.if rfl (fun a6=>?_) (fun a6=>?_)
 ·refine am.skip<|V _ _<|.seq fun _ a0=>.block<|.seq fun _ a1=>.region<|.q Z (ah Z)<|.q Z (MZ (l:=cI) UW ji Iq Z Z O Z)<|.q Z (ae Z)<|.q Z (ae Z) ?_;refine Ops.nil<|a1 _ _<|.seq fun _ a2=>.region<|.q Z (ah Z)<|.q Z (ah Z)<|.q Z (vJ Z Z)<|.nil<|a2 _ _<|.if rfl (fun a7=>?_) (fun a7=>?_)
  ·refine am.seq fun _ a3=>.region<|.q Z (ah Z)<|.q Z (ae Z)<|.nil<|a3 _ _<|.rt (by exact aJ Z (⟨by rw [Ma O hn OF];rfl,Z⟩))
  refine am.skip<|a0 _ _<|.region<|.q Z (bE (b:=1) Z Z O)<|.q Z (ah Z)<|.nil ?_;exact ⟨k + 1,jQ Z Z Z,Z,⟨⟨by omega,fun j h=>(Nat.lt_succ_iff_lt_or_eq.1 h).elim (hn j) (fun q=>by subst q;assumption)⟩,Z⟩,O1⟩
 refine am.exit<|h4 _ _<|.seq fun _ a4=>.region<|.q Z (ae Z)<|.nil<|a4 _ _<|.rt (by exact aJ Z (⟨by rw [Qh (fun j h=>hn j O)];rfl,Z⟩))

theorem NS (r:Nat) (k:Int) (b cap:Nat) (rw:Bool) (A:AH) (hk:1<=k/\k<=8) (hL:gJ A) (hb:A.get b=some (.row rw [num k] cap)):bH Tryz.prog 97 #[.int .i32 ((r:Nat):Int),.pointer (some ⟨b,0,none⟩)] A (fun v A1=>v=.bool (decide (127 < r) || !iU k (UInt8.ofNat r))/\A=A1):=by
 refine jP Tryz.call97 Tryz.func97 Z Tryz.results97 Tryz.ntmps97 Z (fun wf=>?_);have h:=AH.le.refl A;refine am.seq fun _ h2=>.region<|.q Z (ae Z)<|.nil<|h2 _ _<|.seq fun _ h4=>.drawn [0,1,2,3,4,5,6,7,8,9,10,12,13,11,14,15,16] mixed Y Y Z<|.q Z Z Z (ah Z)<|.q Z Z Z (dP (b:=127) Z Z)<|.q Z Z Z (ah Z) ?_;refine bj.part (t:=6) Z (fun p5=>?_) (fun p5=>?_)
 ·refine bj.qOff Z Z Z Z Z Z<|.qOff Z Z Z Z Z Z<|.lOff Z Z Z Z Z Z<|.qOff Z Z Z Z Z Z<|.q Z Z Z (aM Z Z)<|.q Z Z Z (ah Z)<|.qOff Z Z Z Z Z Z<|.qOff Z Z Z Z Z Z<|.qOff Z Z Z Z Z Z<|.qOff Z Z Z Z Z Z ?_;refine bj.lOff Z Z Z Z Z Z<|.qOff Z Z Z Z Z Z<|.q Z Z Z (aM Z Z)<|.q Z Z Z (ae Z)<|.done<|h4 _ _<|.rt (by exact aJ Z (⟨by simp_all [iU,eE,Vg,Dr],Z⟩))
 refine bj.qOn Z Z Z Z Z (ah Z)<|.qOn Z Z Z Z Z (zg VO u5 Z)<|.lOn Z Z Z Z Z (fun _ _ X _=>au Z (si (UInt8.ofNat (r)) A hL) ?_);rintro v7 A8 ⟨rfl,rfl⟩;refine X _ _ (be.none Y)<|.qOn Z Z Z Z Z (k8 Z Z)<|.q Z Z Z (aW Z Z)<|.q Z Z Z (ah Z)<|.part (t:=12) Z (fun a0=>?_) (fun a0=>?_)
 ·refine bj.qOff Z Z Z Z Z Z<|.qOff Z Z Z Z Z Z<|.qOff Z Z Z Z Z Z<|.qOff Z Z Z Z Z Z<|.lOff Z Z Z Z Z Z<|.qOff Z Z Z Z Z Z<|.q Z Z Z (aM Z Z)<|.q Z Z Z (ae Z)<|.done<|h4 _ _ ?_;refine am.ret ?_;repeat first | with_reducible refine bz ?_ | with_reducible refine bi ?_
  exact aJ Z (⟨by simp_all [iU,eE,Vg,Dr],Z⟩)
 refine bj.qOn Z Z Z Z Z (ah Z)<|.qOn Z Z Z Z Z (zg VO u5 Z) ?_;have D:=cG (off:=0) (h.get _ _ hb) (show _=some (num (k)) from rfl);refine bj.qOn Z Z Z Z Z (ak eM Z Z (h.get _ _ hb) Z)<|.qOn Z Z Z Z Z (QS Z Z O)<|.lOn Z Z Z Z Z (fun _ _ V _=>au Z (si (UInt8.ofNat (r)) A hL) ?_);rintro a1 A14 ⟨rfl,rfl⟩;refine V _ _ (be.list (L:=[(⟨b,0,none⟩,num (k))]) Y (bg D bZ))<|.qOn Z Z Z Z Z (lM Z Z)<|.q Z Z Z (aW Z Z)<|.q Z Z Z (ae Z)<|.done<|h4 _ _<|.rt (by exact aJ Z (⟨by simp_all [iU,eE,Vg,Dr],Z⟩))

theorem Cx (g:Nat) (caps:Array Value) (q:Nat->Bool) (hq:∀ r,128<=r->q r=true) (s:List UInt8) (A:AH) (hs:s.length<=100000) (hf:∀ r B,A.le B->B.wf->bH Tryz.prog g (#[] ++ #[.int .i32 ((r:Nat):Int)] ++ caps) B (fun v B1=>v=.bool (q r)/\B=B1)):bH Tryz.prog 176 #[aX (s),.func (.func g) #[] caps,.bool (true)] A (fun v A1=>v=num (Pg q s)/\A.le A1/\A1.wf):=by
 refine wQ Tryz.call176 Tryz.func176 Z Tryz.results176 Tryz.ntmps176 Z (fun wf=>?_);have aa:=AH.le.refl A;refine am.seq fun _ h2=>.region<|.q Z (ae Z)<|.nil<|h2 _ _<|.seq fun _ h4=>.seq fun _ h6=>.region<|.q Z (ah Z)<|.l Z (fun _ _ aC _=>RP wf rfl u9 fun A9 b8 a3=>?_);have a4:=aU wf (Nat.le_trans aa.n a3.lo);have ad:=aa.trans a3.le;refine aC _ _<|.nil<|h6 _ _<|.block<|.loop (X:=Nat) (fun k=>[(1,.func (.func g) #[] caps),(2,.bool (true)),(10,.pointer (some ⟨b8,0,none⟩))]) (fun k B=>(k<=s.length/\∀ j,j < k->q (s.getD j 0).toNat=false)/\A.le B/\B.get b8=some (.obj true (.stringIter (bs s) (k)))) (fun k=>s.length - k) 0 (jQ Z Z Z) (⟨⟨by omega,fun j h=>by omega⟩,ad,a3.get⟩) ?_;rintro k B13 ⟨⟨hk,hn⟩,a0,a5⟩;refine am.wf fun a9=>.seq fun _ a6=>.region<|.l Z (fun _ _ V _=>TM a9 Z a5 (fun a8 A18 D=>?_) (fun a8=>?_))
 ·by_cases hc21:s.getD k 0 < 128
  ·rw [IM a8 hc21] at D ⊢;have a1:=an a0 wf a4 D.n D.keep;refine V _ _<|.q Z (bh Z Z)<|.nil<|a6 _ _<|.seq fun _ ag=>.cond_true Z<|.skip<|ag _ _<|.block<|.seq fun _ ai=>?_;refine am.region<|.q Z (bh Z Z)<|.q Z (bh Z Z)<|.q Z (ae Z)<|.q Z (ae Z)<|.nil<|ai _ _<|.seq fun _ ap=>.region<|.q Z (ah Z) ?_;refine Ops.q Z (ah Z)<|.l Z (fun _ _ ab _=>oB Z Z (hf ((s.getD k 0).toNat) A18 a1 D.wf) ?_);rintro aP A31 ⟨rfl,rfl⟩;refine ab _ _<|.q Z (ah Z)<|.q Z (Sc u4 Z Z)<|.nil<|ap _ _<|.ifB Z (fun aF=>?_) (fun aF=>?_)
   ·refine am.seq fun _ ar=>.region<|.q Z (ah Z)<|.q Z (ae Z)<|.nil<|ar _ _<|.rt (by exact aJ Z (⟨by rw [xu OF hn (by simpa using ‹(q _ == true)=true›)];rfl,a1,D.wf⟩))
   refine am.skip ?_;exact ⟨k + 1,jQ Z Z Z,Z,⟨(by exact ⟨by omega,fun j h=>(Nat.lt_succ_iff_lt_or_eq.1 h).elim (hn j) (fun z=>by subst z;simpa using ‹(q _ == true)=false›)⟩),a1,D.get⟩,O⟩
  have a7:=IL a8 hc21;have aD:=Dq (bs s) k;have hqT:=hq _ a7;have a2:=an a0 wf a4 D.n D.keep;refine V _ _<|.q Z (bh Z Z)<|.nil<|a6 _ _<|.seq fun _ av=>.cond_true Z<|.skip<|av _ _<|.block<|.seq fun _ ay=>?_;refine am.region<|.q Z (bh Z Z)<|.q Z (bh Z Z)<|.q Z (ae Z)<|.q Z (ae Z)<|.nil<|ay _ _<|.seq fun _ az=>.region<|.q Z (ah Z) ?_;refine Ops.q Z (ah Z)<|.l Z (fun _ _ ac _=>oB Z Z (hf ((Utf8.decode (bs s) k).1) A18 a2 D.wf) ?_);rintro aR A45 ⟨rfl,rfl⟩;refine ac _ _<|.q Z (ah Z)<|.q Z (Sc u4 Z Z)<|.nil<|az _ _<|.ifB Z (fun aG=>?_) (fun aG=>?_)
  ·refine am.seq fun _ aA=>.region<|.q Z (ah Z)<|.q Z (ae Z)<|.nil<|aA _ _<|.rt (by exact aJ Z (⟨by rw [xu OF hn (by exact hq _ (U7 ‹_›))];rfl,a2,D.wf⟩))
  refine am.skip ?_;exact ⟨k + (Utf8.decode (bs s) k).2,jQ Z Z Z,Z,⟨(by (exfalso;simp_all)),a2,D.get⟩,(by (exfalso;simp_all))⟩
 refine V _ _<|.q Z (bh Z Z)<|.nil<|a6 _ _<|.seq fun _ aI=>.cond_false Z<|.exit<|h4 _ _<|.seq fun _ aB=>.region ?_;refine Ops.q Z (ae Z)<|.nil<|aB _ _<|.rt (by exact aJ Z (⟨by rw [LQ (fun j h=>hn j O)];rfl,a0,a9⟩))

theorem Cl (g:Nat) (caps:Array Value) (q:Nat->Bool) (hq:∀ r,128<=r->q r=true) (s:List UInt8) (A:AH) (hs:s.length<=100000) (hf:∀ r B,A.le B->B.wf->bH Tryz.prog g (#[] ++ #[.int .i32 ((r:Nat):Int)] ++ caps) B (fun v B1=>v=.bool (q r)/\B=B1)):bH Tryz.prog 132 #[aX (s),.func (.func g) #[] caps] A (fun v A1=>v=num (Pg q s)/\A.le A1/\A1.wf):=by
 refine jP Tryz.call132 Tryz.func132 Z Tryz.results132 Tryz.ntmps132 Z (fun wf=>?_);have h:=AH.le.refl A;refine am.seq fun _ h2=>.region<|.q Z (ae Z)<|.nil<|h2 _ _<|.seq fun _ h4=>.region<|.q Z (ah Z)<|.q Z (ah Z)<|.l Z (fun _ _ X _=>au Z (Cx g caps q hq s A hs (fun r B le wf=>hf r B (h.trans le) wf)) ?_);rintro v6 A7 ⟨rfl,D,V⟩;have a0:=h.trans D;refine X _ _<|.q Z (ae Z)<|.nil<|h4 _ _<|.rt (by exact aJ Z (⟨Z,a0,V⟩))

theorem vW (g:Nat) (caps:Array Value) (q:Nat->Bool) (hq:∀ r,128<=r->q r=true) (s:List UInt8) (A:AH) (hs:s.length<=100000) (hf:∀ r B,A.le B->B.wf->bH Tryz.prog g (#[] ++ #[.int .i32 ((r:Nat):Int)] ++ caps) B (fun v B1=>v=.bool (q r)/\B=B1)):bH Tryz.prog 96 #[aX (s),.func (.func g) #[] caps] A (fun v A1=>v=.bool (decide (0<=Pg q s))/\A.le A1/\A1.wf):=by
 refine jP Tryz.call96 Tryz.func96 Z Tryz.results96 Tryz.ntmps96 Z (fun wf=>?_);have h:=AH.le.refl A;refine am.seq fun _ h2=>.region<|.q Z (ae Z)<|.nil<|h2 _ _<|.seq fun _ h4=>.region<|.q Z (ah Z)<|.q Z (ah Z)<|.l Z (fun _ _ X _=>au Z (Cl g caps q hq s A hs (fun r B le wf=>hf r B (h.trans le) wf)) ?_);rintro v6 A7 ⟨rfl,D,V⟩;have a0:=h.trans D;refine X _ _<|.q Z (lM Z Z)<|.q Z (ae Z)<|.nil<|h4 _ _<|.rt (by exact aJ Z (⟨Z,a0,V⟩))

theorem pH (k:Int) (w:List UInt8) (A:AH) (hL:gJ A):bH Tryz.prog 47 #[num (k),aX (w)] A (fun v A1=>v=num ((bG k w:Nat):Int)/\A.le A1/\A1.wf):=by
 refine jP Tryz.call47 Tryz.func47 Z Tryz.results47 Tryz.ntmps47 Z (fun wf=>?_);have ac:=AH.le.refl A;refine am.seq fun _ h2=>.region<|.l Z (fun _ _ ab _=>dQ wf rfl rfl fun A5 b4 D=>?_);have V:=ac.trans D.le;refine ab _ _<|.q Z (ae Z)<|.nil<|h2 _ _<|.seq fun _ h9=>.block<|.seq fun _ a2=>.region<|.q Z (ak eM Z Z D.get Z)<|.q Z (k8 Z Z) ?_;refine Ops.q Z (ah Z)<|.part (t:=8) Z (fun ad=>?_) (fun ad=>?_)
 ·refine Ops.off Z Z Z Z<|.off Z Z Z Z<|.q Z (aM Z Z)<|.q Z (ae Z)<|.nil<|a2 _ _<|.cond_true Z<|.seq fun _ a4=>.region<|.q Z (ae Z) ?_;refine Ops.nil<|a4 _ _<|.rt (by exact aJ Z (⟨by (rw [bG,if_pos O];rfl),V,D.wf⟩))
 refine Ops.on Z Z<|.q Z (ak eM Z Z D.get Z)<|.on Z Z<|.q Z (BH Z Z)<|.q Z (aW Z Z)<|.q Z (ae Z)<|.nil<|a2 _ _<|.if rfl (fun ag=>?_) (fun ag=>?_)
 ·refine am.seq fun _ a5=>.region<|.q Z (ae Z)<|.nil<|a5 _ _<|.rt (by exact aJ Z (⟨by (rw [bG,if_pos O];rfl),V,D.wf⟩))
 refine am.seq fun _ a6=>.region<|.q Z (ah Z)<|.q Z (cB u9 Z)<|.q Z (dP (b:=100000) Z Z)<|.q Z (ae Z)<|.nil<|a6 _ _<|.if rfl (fun ai=>?_) (fun ai=>?_)
 ·refine am.seq fun _ a7=>.region<|.q Z (ae Z)<|.nil<|a7 _ _<|.rt (by exact aJ Z (⟨by (rw [bG,if_neg O,if_pos O];rfl),V,D.wf⟩))
 refine am.seq fun _ a8=>.region<|.q Z (ah Z)<|.q Z (ml Z Z)<|.l Z (fun _ _ a3 _=>au Z (vW 97 #[.pointer (some ⟨b4,0,none⟩)] (fun r=>decide (127 < r) || !iU (k) (UInt8.ofNat r)) (fun r h=>by simp;omega) w A5 O (fun r B le wf=>NS r (k) b4 _ _ B O ((hL.le V).le le) (le.get _ _ D.get))) ?_);rintro ar A27 ⟨rfl,a1,X⟩;have a0:=V.trans a1;refine a3 _ _<|.q Z (ae Z)<|.nil<|a8 _ _<|.if rfl (fun ap=>?_) (fun ap=>?_)
 ·refine am.seq fun _ a9=>.region<|.q Z (ae Z)<|.nil<|a9 _ _<|.rt (by exact aJ Z (⟨by (rw [bG,if_neg O,if_neg O,if_neg (by rw [(tF k w).1 ‹_›];decide)];rfl),a0,X⟩))
 refine am.skip<|h9 _ _<|.seq fun _ aa=>.region<|.q Z (ae Z)<|.nil<|aa _ _<|.rt (by exact aJ Z (⟨by (rw [bG,if_neg O,if_neg O,if_pos (by have:=mt (tF k w).2 ‹_›;simpa using this)];rfl),a0,X⟩))

theorem Rq (w:List UInt8) (A:AH) (hL:gJ A):bH Tryz.prog 123 #[aX (w)] A (fun v A1=>v=.bool (p4 w)/\A.le A1/\A1.wf):=by
 refine ia Tryz.call123 Tryz.func123 Z Tryz.results123 Tryz.ntmps123 Z (fun wf=>?_);have a0:=AH.le.refl A;refine am.seq fun _ h2=>.region<|.q Z (ae Z)<|.nil<|h2 _ _<|.seq fun _ h4=>.region<|.q Z (ah Z)<|.l Z (fun _ _ V _=>au Z (pH ((8:Nat):Int) w A hL) ?_);rintro v6 A7 ⟨rfl,h,D⟩;have X:=a0.trans h;refine V _ _<|.q Z (ku (b:=0) Z Z)<|.q Z (ae Z)<|.nil<|h4 _ _<|.rt (by exact aJ Z (⟨by rw [<- CR];rfl,X,D⟩))

theorem JS (w:List UInt8) (A:AH) (hw:w.length<=1000000):bH Tryz.prog 131 #[aX (w)] A (fun v A1=>v=aX (inv w)/\A.le A1/\A1.wf):=by
 refine ia Tryz.call131 Tryz.func131 Z Tryz.results131 Tryz.ntmps131 Z (fun wf=>?_);have a0:=AH.le.refl A;refine am.seq fun _ h2=>.region<|.q Z (ae Z)<|.nil<|h2 _ _<|.seq fun _ h4=>.region<|.q Z (ah Z)<|.q Z (cB u9 Z)<|.l Z (fun _ _ av _=>mL (n:=w.length) (k:=w.length) wf a0 rfl rfl cy ji z5 rd rfl (Nat.le_refl _) (by show 1 * _<=_;omega) O fun A7 b6 a1 aa=>?_);have a4:=a1.get;rw [oo] at a4 aa;have a3:=aU wf (Nat.le_trans a0.n a1.lo);have a8:=a0.trans a1.le;refine av _ _<|.q Z (ae Z)<|.nil<|h4 _ _<|.seq fun _ ab=>.seq fun _ ac=>.region<|.q Z (ah Z)<|.q Z (cB u9 Z)<|.q Z (ah Z) ?_;refine Ops.nil<|ac _ _<|.block<|.loop (X:=Nat) (fun k=>[(0,aX (w)),(3,.slice (some ⟨b6,0,none⟩) w.length w.length),(9,num ((w.length:Nat):Int)),(10,num ((k:Nat):Int))]) (fun k B=>(k<=w.length)/\A.le B/\B.get b6=some (.row true (ao (j7 w k)) w.length)) (fun k=>w.length - k) 0 (lD Z Z Z Z) (⟨Nat.zero_le _,a8,(vP a4 (congrArg ao ((by exact ua w))))⟩) ?_;rintro k B17 ⟨hk,V,h⟩;refine am.wf fun a2=>?_;have hrl:=qJ w hk;refine am.seq fun _ ad=>.region<|.q Z (cd Z Z)<|.nil<|ad _ _<|.seq fun _ ag=>.if rfl (fun ay=>?_) (fun ay=>?_)
 ·refine am.skip<|ag _ _<|.seq fun _ ai=>.block<|.seq fun _ ap=>.region<|.q Z (ah Z)<|.q Z (ae Z)<|.nil<|ap _ _ ?_;refine am.region<|.q Z (ah Z)<|.q Z (ah Z)<|.q Z (cB u9 Z)<|.q Z (fJ (b:=1) Z Z O)<|.q Z (ah Z)<|.q Z (fJ Z Z O)<|.q Z (ah Z)<|.q Z (ah Z)<|.q Z (ma u9 Z Z O) ?_;refine Ops.l Z (fun _ _ a5 _=>au Z (GU (w.getD k 0) B17) ?_);rintro az A30 ⟨rfl,rfl⟩;refine a5 _ _<|.q Z (ax cy ji Z Z Z O)<|.l Z (fun _ _ a6 _=>aQ (off:=((w.length - 1) - k)) a2 rfl (by simp) rfl rfl ji h OK rfl (pW _ _ _) fun A33 D=>?_);have a9:=an V wf a3 D.n D.keep;refine a6 _ _<|.nil<|ai _ _<|.region<|.q Z (bE (b:=1) Z Z O)<|.q Z (ah Z)<|.nil ?_;exact ⟨k + 1,lD Z Z Z Z,Z,⟨O,a9,(vP D.get (congrArg ao ((by exact vN w O))))⟩,O1⟩
 refine am.exit<|ab _ _<|.seq fun _ ar=>.region<|.q Z (ah Z)<|.l Z (fun _ _ a7 _=>dT (s:=j7 w k) Z cy u9 u5 (eB (n:=w.length) h On (Nat.le_refl _)) ?_);refine a7 _ _<|.q Z (ae Z)<|.nil<|ar _ _<|.rt (by exact aJ Z (⟨by rw [vM w O];rfl,V,a2⟩))

theorem Og (u:Value) (l:List (List UInt8)) (r:List UInt8) (A:AH) (hr:ll l.flatten=r) (hT:l.flatten.length<=1000000) (hn:l.length<=1000000) (hu:bK A 1 u (d5 l)):bH Tryz.prog 133 #[u] A (fun v A1=>v=aX r/\A.le A1/\A1.wf):=by
 refine ia Tryz.call133 Tryz.func133 Z Tryz.results133 Tryz.ntmps133 Z (fun wf=>?_);have aa:=AH.le.refl A;refine am.seq fun _ h2=>.region<|.q Z (ae Z)<|.nil<|h2 _ _<|.seq fun _ h4=>.region<|.q Z (ae Z)<|.nil<|h4 _ _ ?_;refine am.seq fun _ h6=>.seq fun _ h8=>.region<|.q Z (ah Z)<|.q Z (bF (n:=l.length) mO Z (hu.le aa) O (eF _))<|.q Z (ah Z)<|.nil<|h8 _ _<|.block<|.loop (X:=Nat × List UInt8 × Value) (fun ⟨k,o,s⟩=>[(3,s),(8,u),(9,num ((l.length:Nat):Int)),(10,num ((k:Nat):Int))]) (fun ⟨k,o,s⟩ B=>(k<=l.length/\(l.drop k).flatten.foldl push o=r/\o.length + (l.drop k).flatten.length<=1000000)/\A.le B/\Fresh A B s 1 (ao o)) (fun ⟨k,o,s⟩=>l.length - k) (⟨0,[],.slice none 0 0⟩) (lD Z Z Z Z) (⟨⟨Nat.zero_le _,by simpa [ll] using hr,by simpa using hT⟩,aa,(Fresh.nil A A 1)⟩) ?_;rintro ⟨k,o,s⟩ B10 ⟨⟨hk,h1,h2⟩,a6,a1⟩;refine am.wf fun az=>?_;have hd:=fun q:k < l.length=>IZ q;refine am.seq fun _ aP=>.region<|.q Z (cd Z Z)<|.nil<|aP _ _<|.seq fun _ aR=>.if rfl (fun b7=>?_) (fun b7=>?_)
 ·refine am.skip<|aR _ _<|.seq fun _ aS=>.block<|.seq fun _ aT=>.region ?_;obtain ⟨bv,bC,br,bR,bm,bM,bD,aF,b3,aI,bd,ab⟩:=bK.at (i:=k) (hu.le a6) Or O;refine Ops.q Z (ax mO fc Z aF Z b3)<|.q Z (ak fP Z Z aI ((cT ab).trans (fj O)))<|.q Z (ae Z)<|.nil<|aT _ _<|.seq fun _ aV=>.region<|.q Z (ah Z)<|.q Z (cB u9 Z)<|.q Z (ah Z) ?_;refine Ops.nil<|aV _ _<|.block<|.loop (X:=Nat × List UInt8 × Value) (fun ⟨i,o2,s2⟩=>[(3,s2),(5,aX (l.getD k [])),(8,u),(9,num ((l.length:Nat):Int)),(10,num ((k:Nat):Int)),(15,num (((l.getD k []).length:Nat):Int)),(16,num ((i:Nat):Int))]) (fun ⟨i,o2,s2⟩ B=>(i<=(l.getD k []).length/\((l.getD k []).drop i).foldl push o2=(l.getD k []).foldl push o/\o2.length<=o.length + i)/\A.le B/\Fresh A B s2 1 (ao o2)) (fun ⟨i,o2,s2⟩=>(l.getD k []).length - i) (⟨0,o,s⟩) (FJ Z Z Z Z Z Z Z) (⟨⟨Nat.zero_le _,Z,Nat.le_refl _⟩,a6,a1⟩) ?_;rintro ⟨i,o2,s2⟩ B25 ⟨⟨hi,h3,h4⟩,V,D⟩;refine am.wf fun aA=>.seq fun _ aY=>.region<|.q Z (cd Z Z)<|.nil<|aY _ _<|.seq fun _ aZ=>.if rfl (fun b8=>?_) (fun b8=>?_)
  ·refine am.skip<|aZ _ _<|.seq fun _ a9=>.block<|.seq fun _ b0=>.region<|.q Z (ah Z)<|.q Z (ae Z)<|.nil<|b0 _ _ ?_;refine am.seq fun _ b1=>.region<|.q Z (ah Z)<|.q Z (bF (n:=o2.length) cy Z D.slc O (dq _))<|.q Z (ae Z)<|.nil<|b1 _ _<|.join (fun f A1=>al [(34,.bool (decide (0 < o2.length/\o2.getD (o2.length - 1) 0=(l.getD k []).getD i 0 ^^^ 32))),(3,s2),(5,aX (l.getD k [])),(8,u),(9,num ((l.length:Nat):Int)),(10,num ((k:Nat):Int)),(15,num (((l.getD k []).length:Nat):Int)),(16,num ((i:Nat):Int)),(17,.bool (decide (i < (l.getD k []).length))),(18,num ((i:Nat):Int)),(6,num ((i:Nat):Int)),(19,s2),(20,num ((o2.length:Nat):Int)),(7,num ((o2.length:Nat):Int))] f.e/\f.ds=[]/\B25=A1) ?_ ?_
   ·refine am.drawn [0,1,2,3,4,5,6,7,8,9,10,11,12,13] mixed Y Y Z<|.q Z Z Z (ah Z)<|.q Z Z Z (dP (b:=0) Z Z)<|.q Z Z Z (ah Z)<|.part (t:=23) Z (fun b9=>?_) (fun b9=>?_)
    ·refine bj.qOn Z Z Z Z Z (ah Z)<|.qOn Z Z Z Z Z (ah Z)<|.qOn Z Z Z Z Z (fJ (b:=1) Z Z O) ?_;obtain ⟨aB,a7,bu,bS,bp,bO,bL,aG,b5,a8,bl,a3⟩:=bK.at (i:=o2.length - 1) D.slc On O;refine bj.qOn Z Z Z Z Z (ax cy ji Z aG Z b5) ?_;have ad:=cG (off:=a7 + (o2.length - 1) * 1) a8 ((cT a3).trans (eH O));refine bj.qOn Z Z Z Z Z (ak Iq Z Z a8 ((cT a3).trans (eH O)))<|.qOn Z Z Z Z Z (ah Z)<|.qOn Z Z Z Z Z (ah Z)<|.qOn Z Z Z Z Z (ma u9 Z Z O)<|.lOn Z Z Z Z Z (fun _ _ ag _=>au Z (GU ((l.getD k []).getD i 0) B25) ?_);rintro bT A45 ⟨rfl,rfl⟩;refine ag _ _ (be.list (L:=[(⟨aB,a7 + (o2.length - 1) * 1,none⟩,d8 (o2.getD (o2.length - 1) 0))]) Y (bg ad bZ))<|.qOn Z Z Z Z Z (vJ Z Z)<|.q Z Z Z (aM Z Z)<|.done ?_;exact ⟨al.cons (show some _=some _ from congrArg (fun b=>some (Value.bool b)) (show (decide ((o2.getD (o2.length - 1) 0)=(((l.getD k []).getD i 0) ^^^ 32)))=decide (0 < o2.length/\o2.getD (o2.length - 1) 0=(l.getD k []).getD i 0 ^^^ 32) from (by simp only [‹0 < _›,true_and])))<|al.cons Z<|al.cons Z<|al.cons Z<|al.cons Z<|al.cons Z<|al.cons Z<|al.cons Z<|al.cons Z<|al.cons Z<|al.cons Z<|al.cons Z<|al.cons Z<|al.cons Z<|al.nil _,Z,Z⟩
    refine bj.qOff Z Z Z Z Z Z<|.qOff Z Z Z Z Z Z<|.qOff Z Z Z Z Z Z<|.qOff Z Z Z Z Z Z<|.qOff Z Z Z Z Z Z<|.qOff Z Z Z Z Z Z<|.qOff Z Z Z Z Z Z<|.qOff Z Z Z Z Z Z<|.lOff Z Z Z Z Z Z<|.qOff Z Z Z Z Z Z ?_;refine bj.q Z Z Z (aW Z Z)<|.done ?_;exact ⟨al.cons (show some _=some _ from congrArg (fun b=>some (Value.bool b)) (show (false)=decide (0 < o2.length/\o2.getD (o2.length - 1) 0=(l.getD k []).getD i 0 ^^^ 32) from (by simp only [‹¬ 0 < _›,false_and,decide_false])))<|al.cons Z<|al.cons Z<|al.cons Z<|al.cons Z<|al.cons Z<|al.cons Z<|al.cons Z<|al.cons Z<|al.cons Z<|al.cons Z<|al.cons Z<|al.cons Z<|al.cons Z<|al.nil _,Z,Z⟩
   rintro ⟨fe,fd⟩ _ ⟨hE,rfl,rfl⟩;refine am.forget hE<|.if rfl (fun ba=>?_) (fun ba=>?_)
   ·refine am.region<|.q Z (ah Z)<|.q Z (ah Z)<|.q Z (fJ (b:=1) Z Z O) ?_;obtain ⟨aC,bP,aD,bb,b6,bB⟩:=D.nonnil (by intro q;have:=congrArg List.length q;simp only [aH,List.length_nil] at this;omega);subst bb;rw [aH,Nat.mul_one] at b6;have a4:=D.take (k:=o2.length - 1) O;rw [Nat.mul_one,gO] at a4;refine Ops.q Z (i5 cy ji Z Z O)<|.q Z (ae Z)<|.nil<|a9 _ _<|.region<|.q Z (bE (b:=1) Z Z O)<|.q Z (ah Z)<|.nil ?_;exact ⟨⟨i + 1,o2.take (o2.length - 1),.slice (some ⟨aC,0,none⟩) (o2.length - 1) aD⟩,FJ Z Z Z Z Z Z Z,Z,⟨⟨by omega,by exact uK OF h3 ‹_›,by simp only [List.length_append,List.length_take,List.length_cons,List.length_nil];omega⟩,V,a4⟩,O1⟩
   refine am.region<|.q Z (ah Z)<|.q Z (ah Z)<|.q Z (ah Z)<|.q Z (ma u9 Z Z O)<|.l Z (fun _ _ ai _=>aN (c:=[d8 ((l.getD k []).getD i 0)]) aA rfl (aw cy ji z5 rfl U U rfl) fun A52 bA a0=>?_);have a5:=D.le a0.le;have av:=V.trans a0.le;refine ai _ _<|.l Z (fun _ _ ap _=>cF (ys:=[d8 ((l.getD k []).getD i 0)]) rfl rfl cy ji rd z5 rfl U cy (fun _ h=>by cases h) a5.own (bN (n:=1) a0.get Z) rfl rfl (by show (_ + _) * 1<=_;simp only [aH,List.length_cons,List.length_nil];have:=hd OF;omega) (by simp only [aH,List.length_cons,List.length_nil];have:=hd OF;omega) fun A58 bc a2=>?_);rw [show ([d8 ((l.getD k []).getD i 0)]:List Value)=ao [(l.getD k []).getD i 0] from rfl,dE] at a2;obtain ⟨ac,ay⟩:=Fresh.grow a5 av wf a2;refine ap _ _<|.q Z (ae Z)<|.nil<|a9 _ _<|.region<|.q Z (bE (b:=1) Z Z O)<|.q Z (ah Z)<|.nil ?_;exact ⟨⟨i + 1,o2 ++ [(l.getD k []).getD i 0],bc⟩,FJ Z Z Z Z Z Z Z,Z,⟨⟨by omega,by exact uL OF h3 ‹_›,by simp only [List.length_append,List.length_take,List.length_cons,List.length_nil];omega⟩,ay,ac⟩,O1⟩
  refine am.exit<|aS _ _<|.region<|.q Z (bE (b:=1) Z Z O)<|.q Z (ah Z)<|.nil ?_;exact ⟨⟨k + 1,o2,s2⟩,lD Z Z Z Z,Z,⟨⟨by omega,tn OF h1 (by rw [o9 O] at h3;exact h3.symm),by omega⟩,V,D⟩,O1⟩
 refine am.exit<|h6 _ _<|.seq fun _ b2=>.region<|.q Z (ah Z)<|.l Z (fun _ _ ar _=>dT (s:=o) Z cy u9 u5 a1.slc ?_);refine ar _ _<|.q Z (ae Z)<|.nil<|b2 _ _<|.rt (by exact aJ Z (⟨by rw [pY O] at h1;rw [<- h1];rfl,a6,az⟩))

theorem sk (w:List UInt8) (A:AH) (hw:w.length<=1000000) (hL:gJ A):bH Tryz.prog 99 #[aX (w)] A (fun v A1=>v=aX (cn w)/\A.le A1/\A1.wf):=by
 refine ia Tryz.call99 Tryz.func99 Z Tryz.results99 Tryz.ntmps99 Z (fun wf=>?_);have a9:=AH.le.refl A;refine am.seq fun _ h2=>.region<|.q Z (ae Z)<|.nil<|h2 _ _<|.seq fun _ h4=>.seq fun _ h6=>.region<|.q Z (ah Z)<|.l Z (fun _ _ a8 _=>au Z (Rq w A hL) ?_);rintro v8 A9 ⟨rfl,X,h⟩;have D:=a9.trans X;refine a8 _ _<|.q Z (eu Z)<|.nil<|h6 _ _<|.ifB Z (fun aa=>?_) (fun aa=>?_)
 ·refine am.seq fun _ a6=>.region<|.q Z (ae Z)<|.nil<|a6 _ _<|.rt (by exact aJ Z (⟨by unfold cn;(rw [if_neg (by simpa using ‹(!p4 w)=true›)];rfl),D,h⟩))
 refine am.skip<|h4 _ _<|.seq fun _ a7=>.region<|.q Z (ah Z)<|.l Z (fun _ _ a2 _=>aN (c:=[aX (w)]) h rfl (aw mO fc z9 rfl U U rfl) fun A19 ab V=>?_);have a4:=D.trans V.le;refine a2 _ _<|.l Z (fun _ _ a3 _=>au Z (Og _ ([w]) (ll w) A19 (by simp) Oz (by simp) (eB (n:=1) V.get Z (Nat.le_refl _))) ?_);rintro ac A24 ⟨rfl,a0,a1⟩;have a5:=a4.trans a0;refine a3 _ _<|.q Z (ae Z)<|.nil<|a7 _ _<|.rt (by exact aJ Z (⟨by unfold cn;(rw [if_pos (by simpa using ‹(!p4 w)=false›)];rfl),a5,a1⟩))

theorem JG (w:List UInt8) (A:AH) (hw:w.length<=1000000) (hL:gJ A):bH Tryz.prog 93 #[aX (w)] A (fun v A1=>v=aX (c0 w)/\A.le A1/\A1.wf):=by
 refine ia Tryz.call93 Tryz.func93 Z Tryz.results93 Tryz.ntmps93 Z (fun wf=>?_);have a6:=AH.le.refl A;refine am.seq fun _ h2=>.region<|.q Z (ae Z)<|.nil<|h2 _ _<|.seq fun _ h4=>.seq fun _ h6=>.region<|.q Z (ah Z)<|.l Z (fun _ _ a5 _=>au Z (Rq w A hL) ?_);rintro v8 A9 ⟨rfl,D,X⟩;have h:=a6.trans D;refine a5 _ _<|.q Z (eu Z)<|.nil<|h6 _ _<|.ifB Z (fun a7=>?_) (fun a7=>?_)
 ·refine am.seq fun _ a3=>.region<|.q Z (ae Z)<|.nil<|a3 _ _<|.rt (by exact aJ Z (⟨by unfold c0;(rw [if_neg (by simpa using ‹(!p4 w)=true›)];rfl),h,X⟩))
 refine am.skip<|h4 _ _<|.seq fun _ a4=>.region<|.q Z (ah Z)<|.l Z (fun _ _ a1 _=>au Z (JS w A9 O) ?_);rintro a8 A19 ⟨rfl,V,a0⟩;have a2:=h.trans V;refine a1 _ _<|.q Z (ae Z)<|.nil<|a4 _ _<|.rt (by exact aJ Z (⟨by unfold c0;(rw [if_pos (by simpa using ‹(!p4 w)=false›)];rfl),a2,a0⟩))

theorem JL (x y:List UInt8) (A:AH) (hx:x.length<=1000000) (hy:y.length<=1000000) (hL:gJ A):bH Tryz.prog 124 #[aX (x),aX (y)] A (fun v A1=>v=num (gT x y)/\A=A1):=by
 refine jP Tryz.call124 Tryz.func124 Z Tryz.results124 Tryz.ntmps124 Z (fun wf=>?_);have av:=AH.le.refl A;refine am.seq fun _ h2=>.region<|.q Z (ae Z)<|.nil<|h2 _ _<|.seq fun _ h4=>.seq fun _ h6=>.region<|.q Z (ah Z)<|.q Z (cB u9 Z) ?_;refine Ops.q Z (ah Z)<|.q Z (cB u9 Z)<|.q Z (fh Z Z)<|.nil<|h6 _ _<|.if rfl (fun p7=>?_) (fun p7=>?_)
 ·refine am.seq fun _ h9=>.seq fun _ V=>.region<|.q Z (ah Z)<|.q Z (cB u9 Z)<|.q Z (ah Z)<|.q Z (cB u9 Z)<|.q Z (cd Z Z)<|.nil<|V _ _ ?_;refine am.if rfl (fun ag=>?_) (fun ag=>?_)
  ·refine am.seq fun _ a0=>.region<|.q Z (ae Z)<|.nil<|a0 _ _<|.rt (by exact aJ Z (⟨by simp_all [eE,gT],Z⟩))
  refine am.skip<|h9 _ _<|.seq fun _ a1=>.region<|.q Z (ae Z)<|.nil<|a1 _ _<|.rt (by exact aJ Z (⟨by simp_all [eE,gT],Z⟩))
 refine am.skip<|h4 _ _<|.seq fun _ a2=>.seq fun _ a3=>.region<|.q Z (ah Z)<|.q Z (cB u9 Z)<|.q Z (ah Z)<|.nil<|a3 _ _ ?_;refine am.block<|.loop (X:=Nat) (fun k=>[(0,aX (x)),(1,aX (y)),(19,num ((x.length:Nat):Int)),(20,num ((k:Nat):Int))]) (fun k B=>(k<=x.length/\je (x.drop k) (y.drop k)=gT x y)/\A=B) (fun k=>x.length - k) 0 (lD Z Z Z Z) (⟨⟨Nat.zero_le _,(FA ‹_›).symm⟩,Z⟩) ?_;rintro k B22 ⟨⟨hk,hc⟩,rfl⟩;refine am.seq fun _ a4=>.region<|.q Z (cd Z Z)<|.nil<|a4 _ _<|.seq fun _ a5=>.if rfl (fun ai=>?_) (fun ai=>?_)
 ·refine am.skip<|a5 _ _<|.seq fun _ a6=>.block<|.seq fun _ a7=>.region<|.q Z (ah Z)<|.q Z (ae Z)<|.nil<|a7 _ _ ?_;refine am.seq fun _ a8=>.drawn [0,1,2,4,5,6,3,7,8,9] mixed Y Y Z<|.q Z Z Z (ah Z)<|.q Z Z Z (ah Z)<|.q Z Z Z (ma u9 Z Z O)<|.q Z Z Z (ah Z)<|.q Z Z Z (ah Z)<|.q Z Z Z (ma u9 Z Z O)<|.l Z Z Z (fun _ _ h _=>au Z (si (x.getD k 0) A hL) ?_);rintro ay A36 ⟨rfl,rfl⟩;refine h _ _ (be.none Y)<|.l Z Z Z (fun _ _ D _=>au Z (si (y.getD k 0) A hL) ?_);rintro az A40 ⟨rfl,rfl⟩;refine D _ _ (be.none Y)<|.q Z Z Z (ae Z)<|.q Z Z Z (ae Z)<|.done<|a8 _ _<|.block<|.seq fun _ a9=>.region<|.q Z (ah Z)<|.q Z (ah Z) ?_;refine Ops.q Z (k8 Z Z)<|.q Z (ae Z)<|.nil<|a9 _ _<|.if rfl (fun ap=>?_) (fun ap=>?_)
  ·refine am.seq fun _ aa=>.region<|.q Z (ae Z)<|.nil<|aa _ _<|.rt (by exact aJ Z (⟨by (rw [e8 O O,if_pos ‹_›] at hc;rw [<- hc];rfl),Z⟩))
  refine am.seq fun _ ab=>.region<|.q Z (ah Z)<|.q Z (ah Z)<|.q Z (BH Z Z)<|.q Z (ae Z)<|.nil<|ab _ _<|.if rfl (fun ar=>?_) (fun ar=>?_)
  ·refine am.seq fun _ ac=>.region<|.q Z (ae Z)<|.nil<|ac _ _<|.rt (by exact aJ Z (⟨by (rw [e8 O O,if_neg ‹_›,if_pos ‹_›] at hc;rw [<- hc];rfl),Z⟩))
  refine am.skip<|a6 _ _<|.region<|.q Z (bE (b:=1) Z Z O)<|.q Z (ah Z)<|.nil ?_;exact ⟨k + 1,lD Z Z Z Z,Z,⟨⟨by omega,by rw [e8 O O,if_neg ‹_›,if_neg ‹_›] at hc;exact hc⟩,Z⟩,O1⟩
 refine am.exit<|a2 _ _<|.seq fun _ ad=>.region<|.q Z (ae Z)<|.nil<|ad _ _<|.rt (by exact aJ Z (⟨by (rw [mU O] at hc;rw [<- hc];rfl),Z⟩))

theorem JE (x y:List UInt8) (A:AH) (hx:x.length<=1000000) (hy:y.length<=1000000) (hL:gJ A):bH Tryz.prog 87 #[aX (x),aX (y)] A (fun v A1=>v=num (da x y)/\A.le A1/\A1.wf):=by
 refine jP Tryz.call87 Tryz.func87 Z Tryz.results87 Tryz.ntmps87 Z (fun wf=>?_);have a8:=AH.le.refl A;refine am.seq fun _ h2=>.region<|.q Z (ae Z)<|.nil<|h2 _ _<|.seq fun _ h4=>.seq fun _ h6=>.region<|.q Z (ah Z)<|.l Z (fun _ _ a7 _=>au Z (Rq x A hL) ?_);rintro v8 A9 ⟨rfl,X,a1⟩;have h:=a8.trans X;refine a7 _ _<|.q Z (eu Z)<|.q Z (ah Z)<|.partB (t:=8) Z (fun a9=>?_) (fun a9=>?_)
 ·refine Ops.off Z Z Z Z<|.off Z Z Z Z<|.off Z Z Z Z<|.q Z (aM Z Z)<|.nil<|h6 _ _<|.cond_true Z<|.seq fun _ a4=>.region<|.q Z (ae Z) ?_;refine Ops.nil<|a4 _ _<|.rt (by exact aJ Z (⟨by simp_all [eE,da],h,a1⟩))
 refine Ops.on Z Z<|.q Z (ah Z)<|.on Z Z<|.l Z (fun _ _ a2 _=>au Z (Rq y A9 (hL.le h)) ?_);rintro ab A17 ⟨rfl,a0,V⟩;have D:=h.trans a0;refine a2 _ _<|.on Z Z<|.q Z (eu Z)<|.q Z (aW Z Z)<|.nil<|h6 _ _<|.ifB Z (fun aa=>?_) (fun aa=>?_)
 ·refine am.seq fun _ a5=>.region<|.q Z (ae Z)<|.nil<|a5 _ _<|.rt (by exact aJ Z (⟨by simp_all [eE,da],D,V⟩))
 refine am.skip<|h4 _ _<|.seq fun _ a6=>.region<|.q Z (ah Z)<|.q Z (ah Z)<|.l Z (fun _ _ a3 _=>au Z (JL x y A17 O O (hL.le D)) ?_);rintro ac A27 ⟨rfl,rfl⟩;refine a3 _ _<|.q Z (ae Z)<|.nil<|a6 _ _<|.rt (by exact aJ Z (⟨by simp_all [eE,da],D,V⟩))
end Go.Proofs.YtjppkekmddjcfaaGreatDoor

namespace Go.Proofs.YtjppkekmddjcfaaGreatDoor
open Go Go.RowKit V
set_option maxRecDepth 100000


theorem zq (g:Nat) (caps:Array Value) (q:List UInt8->Bool) (u:Value) (l:List (List UInt8)) (A:AH) (hn:l.length<=9223372036854775807) (hu:bK A 1 u (d5 l)) (hf:∀ s,s ∈ l->∀ B,A.le B->B.wf->bH Tryz.prog g (#[] ++ #[aX s] ++ caps) B (fun v B1=>v=.bool (q s)/\B.le B1/\B1.wf)):bH Tryz.prog 167 #[u,.func (.func g) #[] caps] A (fun v A1=>v=num (AJ q l)/\A.le A1/\A1.wf):=by
 refine jP Tryz.call167 Tryz.func167 Z Tryz.results167 Tryz.ntmps167 Z (fun wf=>?_);have a2:=AH.le.refl A;refine am.seq fun _ h2=>.region<|.q Z (ae Z)<|.nil<|h2 _ _<|.seq fun _ h4=>.seq fun _ h6=>.region<|.q Z (ah Z)<|.q Z (bF (n:=l.length) mO Z (hu.le a2) O (eF _)) ?_;refine Ops.q Z (ah Z)<|.nil<|h6 _ _<|.block<|.loop (X:=Nat) (fun k=>[(0,u),(1,.func (.func g) #[] caps),(7,num ((l.length:Nat):Int)),(8,num ((k:Nat):Int))]) (fun k B=>(k<=l.length/\∀ j,j < k->q (l.getD j [])=false)/\A.le B) (fun k=>l.length - k) 0 (lD Z Z Z Z) (⟨⟨by omega,fun j h=>by omega⟩,a2⟩) ?_;rintro k B8 ⟨⟨hk,hq⟩,D⟩;refine am.wf fun a3=>.seq fun _ a8=>.region<|.q Z (cd Z Z)<|.nil<|a8 _ _<|.seq fun _ a9=>.if rfl (fun ap=>?_) (fun ap=>?_)
 ·refine am.skip<|a9 _ _<|.seq fun _ aa=>.block<|.seq fun _ ab=>.region<|.q Z (ah Z)<|.q Z (ae Z)<|.nil<|ab _ _ ?_;refine am.seq fun _ ac=>.region<|.q Z (ah Z)<|.q Z (ah Z)<|.q Z (ah Z) ?_;obtain ⟨aA,aB,az,aF,ay,aD,aC,a6,ai,a7,av,a4⟩:=bK.at (i:=k) (hu.le D) Or O;refine Ops.q Z (ax mO fc Z a6 Z ai)<|.q Z (ak fP Z Z a7 ((cT a4).trans (fj O)))<|.l Z (fun _ _ a5 _=>oB Z Z (hf _ (bw O) B8 D a3) ?_);rintro aG A24 ⟨rfl,a0,a1⟩;have V:=D.trans a0;refine a5 _ _<|.nil<|ac _ _<|.ifB Z (fun ar=>?_) (fun ar=>?_)
  ·refine am.seq fun _ ad=>.region<|.q Z (ah Z)<|.q Z (ae Z)<|.nil<|ad _ _<|.rt (by exact aJ Z (⟨by rw [xw (d:=[]) OF hq ‹_›];rfl,V,a1⟩))
  refine am.skip<|aa _ _<|.region<|.q Z (bE (b:=1) Z Z O)<|.q Z (ah Z)<|.nil ?_;exact ⟨k + 1,lD Z Z Z Z,Z,⟨⟨by omega,fun j h=>(Nat.lt_succ_iff_lt_or_eq.1 h).elim (hq j) (fun z=>by subst z;assumption)⟩,V⟩,O1⟩
 refine am.exit<|h4 _ _<|.seq fun _ ag=>.region<|.q Z (ae Z)<|.nil<|ag _ _<|.rt (by exact aJ Z (⟨by rw [AK (d:=[]) (fun j h=>hq j O)];rfl,D,a3⟩))

theorem uo (g:Nat) (caps:Array Value) (q:List UInt8->Bool) (u:Value) (l:List (List UInt8)) (A:AH) (hn:l.length<=9223372036854775807) (hu:bK A 1 u (d5 l)) (hf:∀ s,s ∈ l->∀ B,A.le B->B.wf->bH Tryz.prog g (#[] ++ #[aX s] ++ caps) B (fun v B1=>v=.bool (q s)/\B.le B1/\B1.wf)):bH Tryz.prog 126 #[u,.func (.func g) #[] caps] A (fun v A1=>v=.bool (decide (0<=AJ q l))/\A.le A1/\A1.wf):=by
 refine jP Tryz.call126 Tryz.func126 Z Tryz.results126 Tryz.ntmps126 Z (fun wf=>?_);have h:=AH.le.refl A;refine am.seq fun _ h2=>.region<|.q Z (ae Z)<|.nil<|h2 _ _<|.seq fun _ h4=>.region<|.q Z (ah Z)<|.q Z (ah Z)<|.l Z (fun _ _ X _=>au Z (zq g caps q u l A hn (hu.le h) (fun s hs B le wf=>hf s hs B (h.trans le) wf)) ?_);rintro v6 A7 ⟨rfl,D,V⟩;have a0:=h.trans D;refine X _ _<|.q Z (lM Z Z)<|.q Z (ae Z)<|.nil<|h4 _ _<|.rt (by exact aJ Z (⟨Z,a0,V⟩))
end Go.Proofs.YtjppkekmddjcfaaGreatDoor

namespace Go.Proofs.YtjppkekmddjcfaaGreatDoor
open Go Go.RowKit V
set_option maxRecDepth 100000
theorem u3:type_of% @Tryz.underlying3:=@Tryz.underlying3

theorem sj (c:UInt8) (A:AH):bH Tryz.prog 67 #[d8 (c)] A (fun v A1=>v=num (ix c)/\A=A1):=by
 refine ia Tryz.call67 Tryz.func67 Z Tryz.results67 Tryz.ntmps67 Z (fun wf=>?_);have ag:=AH.le.refl A;have ac:=(c - 97).toNat_lt;have ad:=(c - 65).toNat_lt;refine am.seq fun _ h2=>.region<|.q Z (ae Z)<|.nil<|h2 _ _<|.seq fun _ h4=>.seq fun _ h6=>.region<|.q Z (ah Z)<|.q Z (qG (d:=97) Z Z) ?_;refine Ops.q Z (ah Z)<|.part (t:=5) Z (fun p7=>?_) (fun p7=>?_)
 ·refine Ops.on Z Z<|.q Z (ah Z)<|.on Z Z<|.q Z (xO (d:=105) Z Z)<|.q Z (aM Z Z)<|.nil<|h6 _ _<|.if rfl (fun p8=>?_) (fun p8=>?_)
  ·refine am.seq fun _ a1=>.region<|.q Z (ah Z)<|.q Z (mo (d:=97) Z Z)<|.q Z (kU u5 u3 Z)<|.q Z (px (a:=2) Z Z O)<|.q Z (ae Z)<|.nil<|a1 _ _<|.rt (by exact aJ Z (⟨by (rw [<- xq c ‹_› ‹_›];rfl),Z⟩))
  refine am.skip<|h4 _ _<|.seq fun _ D=>.seq fun _ V=>.region<|.q Z (ah Z)<|.q Z (qG (d:=65) Z Z)<|.q Z (ah Z)<|.part (t:=15) Z (fun a8=>?_) (fun a8=>?_)
  ·refine Ops.on Z Z<|.q Z (ah Z)<|.on Z Z<|.q Z (xO (d:=73) Z Z)<|.q Z (aM Z Z)<|.nil<|V _ _<|.if rfl (fun a9=>?_) (fun a9=>?_)
   ·refine am.seq fun _ a2=>.region<|.q Z (ah Z)<|.q Z (mo (d:=65) Z Z)<|.q Z (kU u5 u3 Z)<|.q Z (px (a:=2) Z Z O)<|.q Z (bE (b:=1) Z Z O)<|.q Z (ae Z)<|.nil<|a2 _ _ ?_;refine am.ret ?_;repeat first | with_reducible refine bz ?_ | with_reducible refine bi ?_
    exact aJ Z (⟨by (rw [<- yL c ‹_› ‹_›];rfl),Z⟩)
   refine am.skip<|D _ _<|.seq fun _ a3=>.region<|.q Z (ae Z)<|.nil<|a3 _ _<|.rt (by exact aJ Z (⟨by (rw [yM c (fun h=>by simp_all) (fun h=>by simp_all)];rfl),Z⟩))
  refine Ops.off Z Z Z Z<|.off Z Z Z Z<|.q Z (aW Z Z)<|.nil<|V _ _<|.cond_false Z<|.skip<|D _ _<|.seq fun _ a4=>.region ?_;refine Ops.q Z (ae Z)<|.nil<|a4 _ _<|.rt (by exact aJ Z (⟨by (rw [yM c (fun h=>by simp_all) (fun h=>by simp_all)];rfl),Z⟩))
 refine Ops.off Z Z Z Z<|.off Z Z Z Z<|.q Z (aW Z Z)<|.nil<|h6 _ _<|.cond_false Z<|.skip<|h4 _ _<|.seq fun _ X=>.seq fun _ a0=>?_;refine am.region<|.q Z (ah Z)<|.q Z (qG (d:=65) Z Z)<|.q Z (ah Z)<|.part (t:=15) Z (fun aa=>?_) (fun aa=>?_)
 ·refine Ops.on Z Z<|.q Z (ah Z)<|.on Z Z<|.q Z (xO (d:=73) Z Z)<|.q Z (aM Z Z)<|.nil<|a0 _ _<|.if rfl (fun ab=>?_) (fun ab=>?_)
  ·refine am.seq fun _ a5=>.region<|.q Z (ah Z)<|.q Z (mo (d:=65) Z Z)<|.q Z (kU u5 u3 Z)<|.q Z (px (a:=2) Z Z O)<|.q Z (bE (b:=1) Z Z O)<|.q Z (ae Z)<|.nil<|a5 _ _ ?_;refine am.ret ?_;repeat first | with_reducible refine bz ?_ | with_reducible refine bi ?_
   exact aJ Z (⟨by (rw [<- yL c ‹_› ‹_›];rfl),Z⟩)
  refine am.skip<|X _ _<|.seq fun _ a6=>.region<|.q Z (ae Z)<|.nil<|a6 _ _<|.rt (by exact aJ Z (⟨by (rw [yM c (fun h=>by simp_all) (fun h=>by simp_all)];rfl),Z⟩))
 refine Ops.off Z Z Z Z<|.off Z Z Z Z<|.q Z (aW Z Z)<|.nil<|a0 _ _<|.cond_false Z<|.skip<|X _ _<|.seq fun _ a7=>.region ?_;refine Ops.q Z (ae Z)<|.nil<|a7 _ _<|.rt (by exact aJ Z (⟨by (rw [yM c (fun h=>by simp_all) (fun h=>by simp_all)];rfl),Z⟩))

theorem JI (i:Nat) (A:AH) (hi:i < 16):bH Tryz.prog 73 #[num ((i:Nat):Int)] A (fun v A1=>v=d8 (cI.getD i 0)/\A=A1):=by
 refine ia Tryz.call73 Tryz.func73 Z Tryz.results73 Tryz.ntmps73 Z (fun wf=>?_);have a3:=AH.le.refl A;refine am.seq fun _ h2=>.region<|.q Z (ae Z)<|.nil<|h2 _ _<|.seq fun _ h4=>.seq fun _ h6=>.region<|.q Z (ah Z)<|.q Z (cd (b:=0) Z Z) ?_;refine Ops.q Z (ah Z)<|.part (t:=5) Z (fun p7=>?_) (fun p7=>?_)
 ·refine Ops.off Z Z Z Z<|.off Z Z Z Z<|.q Z (aM Z Z)<|.nil<|h6 _ _<|.cond_true Z<|.seq fun _ h9=>.region<|.q Z (ae Z)<|.nil ?_;refine h9 _ _<|.rt (by exact aJ Z (⟨by (exfalso;omega),Z⟩))
 refine Ops.on Z Z<|.q Z (ah Z)<|.on Z Z<|.q Z (vK (b:=16) Z Z)<|.q Z (aW Z Z)<|.nil<|h6 _ _<|.if rfl (fun a1=>?_) (fun a1=>?_)
 ·refine am.seq fun _ h=>.region<|.q Z (ae Z)<|.nil<|h _ _<|.rt (by exact aJ Z (⟨by (exfalso;omega),Z⟩))
 refine am.skip<|h4 _ _<|.seq fun _ D=>.seq fun _ V=>.region<|.q Z (ah Z)<|.q Z (UD (b:=2) Z Z O)<|.q Z (ku (b:=0) Z Z)<|.nil<|V _ _ ?_;refine am.if rfl (fun a2=>?_) (fun a2=>?_)
 ·refine am.seq fun _ X=>.region<|.q Z (ah Z)<|.q Z (Sd (b:=2) Z Z O)<|.q Z (zg u3 u5 Z)<|.q Z (Gv (c:=97) Z Z)<|.q Z (ae Z)<|.nil<|X _ _<|.rt (by exact aJ Z (⟨by (rw [<- Mr ⟨i,hi⟩ OF];rfl),Z⟩))
 refine am.skip<|D _ _<|.seq fun _ a0=>.region<|.q Z (ah Z)<|.q Z (Sd (b:=2) Z Z O)<|.q Z (zg u3 u5 Z)<|.q Z (Gv (c:=65) Z Z)<|.q Z (ae Z)<|.nil ?_;refine a0 _ _<|.rt (by exact aJ Z (⟨by (rw [<- Ql ⟨i,hi⟩ OF];rfl),Z⟩))

theorem we (c:UInt8) (A:AH) (hc:0<=ix c):bH Tryz.prog 66 #[d8 (c)] A (fun v A1=>v=d8 (c ^^^ 32)/\A=A1):=by
 refine ia Tryz.call66 Tryz.func66 Z Tryz.results66 Tryz.ntmps66 Z (fun wf=>?_);have V:=AH.le.refl A;refine am.seq fun _ h2=>.region<|.q Z (ae Z)<|.nil<|h2 _ _<|.seq fun _ h4=>.region<|.q Z (ah Z)<|.l Z (fun _ _ h _=>au Z (sj c A) ?_);rintro v6 A7 ⟨rfl,rfl⟩;refine h _ _<|.q Z (zh U U Z Z (SI c hc))<|.l Z (fun _ _ D _=>au Z (JI (Ph (c ^^^ 32)) A (Md _)) ?_);rintro X A11 ⟨rfl,rfl⟩;refine D _ _<|.q Z (ae Z)<|.nil<|h4 _ _<|.rt (by exact aJ Z (⟨by rw [Qk _ (F5 c hc)];rfl,Z⟩))

theorem Ct (k:Int) (w:List UInt8) (A:AH):bH Tryz.prog 94 #[num (k),aX (w)] A (fun v A1=>v=num ((bG k w:Nat):Int)/\A=A1):=by
 refine jP Tryz.call94 Tryz.func94 Z Tryz.results94 Tryz.ntmps94 Z (fun wf=>?_);have av:=AH.le.refl A;refine am.seq fun _ h2=>.region<|.q Z (ae Z)<|.nil<|h2 _ _<|.seq fun _ h4=>.seq fun _ h6=>.region<|.q Z (ah Z)<|.q Z (k8 Z Z) ?_;refine Ops.q Z (ah Z)<|.part (t:=9) Z (fun p7=>?_) (fun p7=>?_)
 ·refine Ops.off Z Z Z Z<|.off Z Z Z Z<|.q Z (aM Z Z)<|.nil<|h6 _ _<|.cond_true Z<|.seq fun _ h9=>.region<|.q Z (ae Z)<|.nil ?_;refine h9 _ _<|.rt (by exact aJ Z (⟨by (rw [bG,if_pos O];rfl),Z⟩))
 refine Ops.on Z Z<|.q Z (ah Z)<|.on Z Z<|.q Z (BH Z Z)<|.q Z (aW Z Z)<|.nil<|h6 _ _<|.if rfl (fun ad=>?_) (fun ad=>?_)
 ·refine am.seq fun _ a0=>.region<|.q Z (ae Z)<|.nil<|a0 _ _<|.rt (by exact aJ Z (⟨by (rw [bG,if_pos O];rfl),Z⟩))
 refine am.skip<|h4 _ _<|.seq fun _ a1=>.seq fun _ a2=>.region<|.q Z (ah Z)<|.q Z (cB u9 Z)<|.q Z (dP (b:=100000) Z Z)<|.nil<|a2 _ _ ?_;refine am.if rfl (fun ag=>?_) (fun ag=>?_)
 ·refine am.seq fun _ a3=>.region<|.q Z (ae Z)<|.nil<|a3 _ _<|.rt (by exact aJ Z (⟨by (rw [bG,if_neg O,if_pos O];rfl),Z⟩))
 refine am.skip<|a1 _ _<|.seq fun _ a4=>.seq fun _ a5=>.region<|.q Z (ae Z)<|.nil<|a5 _ _<|.block<|.loop (X:=Nat) (fun i=>[(0,num (k)),(1,aX (w)),(5,num ((i:Nat):Int))]) (fun i B=>(i<=w.length/\∀ j,j < i->0<=ix (w.getD j 0)/\ix (w.getD j 0) < 2 * k)/\A=B) (fun i=>w.length - i) 0 (jQ Z Z Z) (⟨⟨by omega,fun j h=>by omega⟩,Z⟩) ?_;rintro i B25 ⟨⟨hi,hn⟩,rfl⟩;refine am.seq fun _ a6=>.seq fun _ a7=>.region<|.q Z (ah Z)<|.q Z (ah Z)<|.q Z (cB u9 Z)<|.q Z (cd Z Z)<|.nil<|a7 _ _<|.if rfl (fun ai=>?_) (fun ai=>?_)
 ·refine am.skip<|a6 _ _<|.seq fun _ a8=>.block<|.seq fun _ a9=>.region<|.q Z (ah Z)<|.q Z (ah Z)<|.q Z (ma u9 Z Z O)<|.l Z (fun _ _ V _=>au Z (sj (w.getD i 0) A) ?_);rintro ay A37 ⟨rfl,rfl⟩;refine V _ _<|.q Z (ae Z)<|.nil<|a9 _ _<|.seq fun _ D=>.region<|.q Z (ah Z)<|.q Z (k8 Z Z)<|.q Z (ah Z)<|.part (t:=28) Z (fun ap=>?_) (fun ap=>?_)
  ·refine Ops.off Z Z Z Z<|.off Z Z Z Z<|.off Z Z Z Z<|.off Z Z Z Z<|.q Z (aM Z Z)<|.nil<|D _ _<|.cond_true Z<|.seq fun _ aa=>.region ?_;refine Ops.q Z (ae Z)<|.nil<|aa _ _<|.rt (by exact aJ Z (⟨by (rw [wt (i:=i) O O O O];rfl),Z⟩))
  refine Ops.on Z Z<|.q Z (ah Z)<|.on Z Z<|.q Z (ah Z)<|.on Z Z<|.q Z (QS Z Z O)<|.on Z Z<|.q Z (lM Z Z)<|.q Z (aW Z Z)<|.nil ?_;refine D _ _<|.if rfl (fun ar=>?_) (fun ar=>?_)
  ·refine am.seq fun _ ab=>.region<|.q Z (ae Z)<|.nil<|ab _ _<|.rt (by exact aJ Z (⟨by (rw [wt (i:=i) O O O O];rfl),Z⟩))
  refine am.skip<|a8 _ _<|.region<|.q Z (ah Z)<|.q Z (bE (b:=1) Z Z O)<|.q Z (ae Z)<|.nil ?_;exact ⟨i + 1,jQ Z Z Z,Z,⟨⟨by omega,fun j h=>(Nat.lt_succ_iff_lt_or_eq.1 h).elim (hn j) (fun z=>by subst z;omega)⟩,Z⟩,O1⟩
 refine am.exit<|a4 _ _<|.seq fun _ ac=>.region<|.q Z (ae Z)<|.nil<|ac _ _<|.rt (by exact aJ Z (⟨by (rw [CT (i:=i) O O O hn];rfl),Z⟩))

theorem GO (w:List UInt8) (A:AH):bH Tryz.prog 65 #[aX (w)] A (fun v A1=>v=.bool (p4 w)/\A=A1):=by
 refine ia Tryz.call65 Tryz.func65 Z Tryz.results65 Tryz.ntmps65 Z (fun wf=>?_);have D:=AH.le.refl A;refine am.seq fun _ h2=>.region<|.q Z (ae Z)<|.nil<|h2 _ _<|.seq fun _ h4=>.region<|.q Z (ah Z)<|.l Z (fun _ _ h _=>au Z (Ct ((8:Nat):Int) w A) ?_);rintro v6 A7 ⟨rfl,rfl⟩;refine h _ _<|.q Z (ku (b:=0) Z Z)<|.q Z (ae Z)<|.nil<|h4 _ _<|.rt (by exact aJ Z (⟨by rw [<- CR];rfl,Z⟩))

theorem wb (w:List UInt8) (A:AH) (hw:w.length<=1000000):bH Tryz.prog 24 #[aX (w)] A (fun v A1=>v=aX (c0 w)/\A.le A1/\A1.wf):=by
 refine ia Tryz.call24 Tryz.func24 Z Tryz.results24 Tryz.ntmps24 Z (fun wf=>?_);have a4:=AH.le.refl A;refine am.seq fun _ h2=>.region<|.q Z (ae Z)<|.nil<|h2 _ _<|.seq fun _ h4=>.seq fun _ h6=>.region<|.q Z (ah Z)<|.l Z (fun _ _ az _=>au Z (GO w A) ?_);rintro v8 A9 ⟨rfl,rfl⟩;refine az _ _<|.q Z (eu Z)<|.nil<|h6 _ _<|.ifB Z (fun aA=>?_) (fun aA=>?_)
 ·refine am.seq fun _ ac=>.region<|.q Z (ae Z)<|.nil<|ac _ _<|.rt (by exact aJ Z (⟨by unfold c0;(rw [if_neg (by simpa using ‹(!p4 w)=true›)];rfl),a4,wf⟩))
 refine am.skip<|h4 _ _<|.seq fun _ ad=>.region<|.q Z (ae Z)<|.nil<|ad _ _<|.seq fun _ ag=>.seq fun _ ai=>.region ?_;refine Ops.q Z (ah Z)<|.q Z (cB u9 Z)<|.q Z (un Z Z O)<|.q Z (ae Z)<|.nil<|ai _ _<|.block<|.loop (X:=Nat × List UInt8 × Value) (fun ⟨j,o,s⟩=>[(0,aX (w)),(3,s),(4,num ((j:Int) - 1))]) (fun ⟨j,o,s⟩ B=>(j<=w.length/\o=((w.drop j).map (· ^^^ 32)).reverse)/\A.le B/\Fresh A B s 1 (ao o)) (fun ⟨j,o,s⟩=>j) (⟨w.length,[],.slice none 0 0⟩) (al.cons Z<|al.cons Z<|al.cons (congrArg (fun z:Int=>some (num z)) O)<|al.nil _) (⟨⟨Nat.le_refl _,by simp⟩,a4,(Fresh.nil A A 1)⟩) ?_;rintro ⟨j,o,s⟩ B21 ⟨⟨hj,ho⟩,a2,D⟩;refine am.wf fun a3=>?_;have hlo:o.length=w.length - j:=by rw [ho];simp
 have hk:=MF (w:=w) (by simpa using ‹(!p4 w)=false›);have htn:((j:Int) - 1).toNat=j - 1:=by omega
 refine am.seq fun _ ap=>.seq fun _ ar=>.region<|.q Z (ah Z)<|.q Z (lM Z Z)<|.nil<|ar _ _<|.if rfl (fun aB=>?_) (fun aB=>?_)
 ·refine am.skip<|ap _ _<|.seq fun _ av=>.block<|.region<|.q Z (ah Z)<|.q Z (ah Z)<|.q Z (ah Z)<|.q Z (ma u9 Z (iQ O) O)<|.l Z (fun _ _ a6 _=>au Z (we (w.getD ((j:Int) - 1).toNat 0) B21 (uH hk O)) ?_);rintro aF A32 ⟨rfl,rfl⟩;refine a6 _ _<|.l Z (fun _ _ a7 _=>aN (c:=[d8 ((w.getD ((j:Int) - 1).toNat 0) ^^^ 32)]) a3 rfl (aw cy ji z5 rfl U U rfl) fun A36 aD V=>?_);have a1:=D.le V.le;have aa:=a2.trans V.le;refine a7 _ _<|.l Z (fun _ _ a8 _=>cF (ys:=[d8 ((w.getD ((j:Int) - 1).toNat 0) ^^^ 32)]) rfl rfl cy ji rd z5 rfl U cy (fun _ h=>by cases h) a1.own (bN (n:=1) V.get Z) rfl rfl (by show (_ + _) * 1<=_;simp only [aH,List.length_cons,List.length_nil];(try simp only [List.length_append,List.length_cons,List.length_nil]);omega) O3 fun A42 aC a0=>?_);rw [show ([d8 ((w.getD ((j:Int) - 1).toNat 0) ^^^ 32)]:List Value)=ao [(w.getD ((j:Int) - 1).toNat 0) ^^^ 32] from rfl,dE] at a0;obtain ⟨a5,ab⟩:=Fresh.grow a1 aa wf a0;refine a8 _ _<|.q Z (ae Z)<|.nil<|av _ _<|.region<|.q Z (ah Z)<|.q Z (un Z Z O)<|.q Z (ae Z)<|.nil ?_;exact ⟨⟨j - 1,o ++ [(w.getD ((j:Int) - 1).toNat 0) ^^^ 32],aC⟩,al.cons Z<|al.cons Z<|al.cons (congrArg (fun z:Int=>some (num z)) O)<|al.nil _,Z,⟨⟨by omega,by rw [ho,htn];exact AL O hj⟩,ab,a5⟩,O1⟩
 refine am.exit<|ag _ _<|.seq fun _ ay=>.region<|.q Z (ah Z)<|.l Z (fun _ _ a9 _=>dT (s:=o) Z cy u9 u5 D.slc ?_);refine a9 _ _<|.q Z (ae Z)<|.nil<|ay _ _<|.rt (by exact aJ Z (⟨by unfold c0;(rw [if_pos (by simpa using ‹(!p4 w)=false›),ho,show j=0 by omega];rfl),a2,a3⟩))

theorem tq (w:List UInt8) (A:AH) (hw:w.length<=1000000):bH Tryz.prog 95 #[aX (w)] A (fun v A1=>v=aX (cn w)/\A.le A1/\A1.wf):=by
 refine ia Tryz.call95 Tryz.func95 Z Tryz.results95 Tryz.ntmps95 Z (fun wf=>?_);have a9:=AH.le.refl A;refine am.seq fun _ h2=>.region<|.q Z (ae Z)<|.nil<|h2 _ _<|.seq fun _ h4=>.seq fun _ h6=>.region<|.q Z (ah Z)<|.l Z (fun _ _ aS _=>au Z (GO w A) ?_);rintro v8 A9 ⟨rfl,rfl⟩;refine aS _ _<|.q Z (eu Z)<|.nil<|h6 _ _<|.ifB Z (fun aY=>?_) (fun aY=>?_)
 ·refine am.seq fun _ aB=>.region<|.q Z (ae Z)<|.nil<|aB _ _<|.rt (by exact aJ Z (⟨by unfold cn;(rw [if_neg (by simpa using ‹(!p4 w)=true›)];rfl),a9,wf⟩))
 refine am.skip<|h4 _ _<|.seq fun _ aC=>.region<|.q Z (ae Z)<|.nil<|aC _ _<|.seq fun _ aD=>.seq fun _ aF=>.region ?_;refine Ops.q Z (ae Z)<|.nil<|aF _ _<|.block<|.loop (X:=Nat × List UInt8 × Value) (fun ⟨i,o,s⟩=>[(0,aX (w)),(3,s),(4,num ((i:Nat):Int))]) (fun ⟨i,o,s⟩ B=>(i<=w.length/\(w.drop i).foldl push o=ll w/\o.length<=i)/\A.le B/\Fresh A B s 1 (ao o)) (fun ⟨i,o,s⟩=>w.length - i) (⟨0,[],.slice none 0 0⟩) (jQ Z Z Z) (⟨⟨Nat.zero_le _,Z,Nat.le_refl _⟩,a9,(Fresh.nil A A 1)⟩) ?_;rintro ⟨i,o,s⟩ B21 ⟨⟨hi,h3,h4⟩,V,D⟩;refine am.wf fun a5=>?_;have hk:=MF (w:=w) (by simpa using ‹(!p4 w)=false›);refine am.seq fun _ aG=>.seq fun _ aI=>.region<|.q Z (ah Z)<|.q Z (ah Z)<|.q Z (cB u9 Z)<|.q Z (cd Z Z)<|.nil<|aI _ _<|.if rfl (fun aZ=>?_) (fun aZ=>?_)
 ·refine am.skip<|aG _ _<|.seq fun _ a8=>.block<|.seq fun _ aP=>.region<|.q Z (ah Z)<|.q Z (bF (n:=o.length) cy Z D.slc O (dq _))<|.q Z (ae Z)<|.nil ?_;refine aP _ _<|.join (fun f A1=>al [(30,.bool (decide (0 < o.length/\o.getD (o.length - 1) 0=w.getD i 0 ^^^ 32))),(0,aX (w)),(3,s),(4,num ((i:Nat):Int)),(9,num ((i:Nat):Int)),(10,aX (w)),(11,num ((w.length:Nat):Int)),(12,.bool (decide (i < w.length))),(15,s),(16,num ((o.length:Nat):Int)),(5,num ((o.length:Nat):Int))] f.e/\f.ds=[]/\B21=A1) ?_ ?_
  ·refine am.drawn [0,1,2,3,4,5,6,7,8,9,10,11,12,13] mixed Y Y Z<|.q Z Z Z (ah Z)<|.q Z Z Z (dP (b:=0) Z Z)<|.q Z Z Z (ah Z)<|.part (t:=19) Z (fun b0=>?_) (fun b0=>?_)
   ·refine bj.qOn Z Z Z Z Z (ah Z)<|.qOn Z Z Z Z Z (ah Z)<|.qOn Z Z Z Z Z (fJ (b:=1) Z Z O) ?_;obtain ⟨av,a6,b7,bd,b6,bb,ba,aA,aT,a7,b5,a2⟩:=bK.at (i:=o.length - 1) D.slc On O;refine bj.qOn Z Z Z Z Z (ax cy ji Z aA Z aT) ?_;have ab:=cG (off:=a6 + (o.length - 1) * 1) a7 ((cT a2).trans (eH O));refine bj.qOn Z Z Z Z Z (ak Iq Z Z a7 ((cT a2).trans (eH O)))<|.qOn Z Z Z Z Z (ah Z)<|.qOn Z Z Z Z Z (ah Z)<|.qOn Z Z Z Z Z (ma u9 Z Z O)<|.lOn Z Z Z Z Z (fun _ _ ac _=>au Z (we (w.getD i 0) B21 (uH hk O)) ?_);rintro bl A39 ⟨rfl,rfl⟩;refine ac _ _ (be.list (L:=[(⟨av,a6 + (o.length - 1) * 1,none⟩,d8 (o.getD (o.length - 1) 0))]) Y (bg ab bZ))<|.qOn Z Z Z Z Z (vJ Z Z)<|.q Z Z Z (aM Z Z)<|.done ?_;exact ⟨al.cons (show some _=some _ from congrArg (fun b=>some (Value.bool b)) (show (decide ((o.getD (o.length - 1) 0)=((w.getD i 0) ^^^ 32)))=decide (0 < o.length/\o.getD (o.length - 1) 0=w.getD i 0 ^^^ 32) from (by simp only [‹0 < _›,true_and])))<|Am Z Z Z Z Z Z Z Z Z Z,Z,Z⟩
   refine bj.qOff Z Z Z Z Z Z<|.qOff Z Z Z Z Z Z<|.qOff Z Z Z Z Z Z<|.qOff Z Z Z Z Z Z<|.qOff Z Z Z Z Z Z<|.qOff Z Z Z Z Z Z<|.qOff Z Z Z Z Z Z<|.qOff Z Z Z Z Z Z<|.lOff Z Z Z Z Z Z<|.qOff Z Z Z Z Z Z ?_;refine bj.q Z Z Z (aW Z Z)<|.done ?_;exact ⟨al.cons (show some _=some _ from congrArg (fun b=>some (Value.bool b)) (show (false)=decide (0 < o.length/\o.getD (o.length - 1) 0=w.getD i 0 ^^^ 32) from (by simp only [‹¬ 0 < _›,false_and,decide_false])))<|Am Z Z Z Z Z Z Z Z Z Z,Z,Z⟩
  rintro ⟨fe,fd⟩ _ ⟨hE,rfl,rfl⟩;refine am.forget hE<|.if rfl (fun b1=>?_) (fun b1=>?_)
  ·refine am.region<|.q Z (ah Z)<|.q Z (ah Z)<|.q Z (fJ (b:=1) Z Z O) ?_;obtain ⟨ay,bc,az,b2,aV,b9⟩:=D.nonnil (by intro q;have:=congrArg List.length q;simp only [aH,List.length_nil] at this;omega);subst b2;rw [aH,Nat.mul_one] at aV;have a3:=D.take (k:=o.length - 1) O;rw [Nat.mul_one,gO] at a3;refine Ops.q Z (i5 cy ji Z Z O)<|.q Z (ae Z)<|.nil<|a8 _ _<|.region<|.q Z (ah Z)<|.q Z (bE (b:=1) Z Z O)<|.q Z (ae Z)<|.nil ?_;exact ⟨⟨i + 1,o.take (o.length - 1),.slice (some ⟨ay,0,none⟩) (o.length - 1) az⟩,jQ Z Z Z,Z,⟨⟨by omega,by exact uK OF h3 ‹_›,by simp only [List.length_append,List.length_take,List.length_cons,List.length_nil];omega⟩,V,a3⟩,O1⟩
  refine am.region<|.q Z (ah Z)<|.q Z (ah Z)<|.q Z (ah Z)<|.q Z (ma u9 Z Z O)<|.l Z (fun _ _ ad _=>aN (c:=[d8 (w.getD i 0)]) a5 rfl (aw cy ji z5 rfl U U rfl) fun A46 b8 a0=>?_);have a4:=D.le a0.le;have ap:=V.trans a0.le;refine ad _ _<|.l Z (fun _ _ ag _=>cF (ys:=[d8 (w.getD i 0)]) rfl rfl cy ji rd z5 rfl U cy (fun _ h=>by cases h) a4.own (bN (n:=1) a0.get Z) rfl rfl (by show (_ + _) * 1<=_;simp only [aH,List.length_cons,List.length_nil];(try simp only [List.length_append,List.length_cons,List.length_nil]);omega) O3 fun A52 b3 a1=>?_);rw [show ([d8 (w.getD i 0)]:List Value)=ao [w.getD i 0] from rfl,dE] at a1;obtain ⟨aa,ar⟩:=Fresh.grow a4 ap wf a1;refine ag _ _<|.q Z (ae Z)<|.nil<|a8 _ _<|.region<|.q Z (ah Z)<|.q Z (bE (b:=1) Z Z O)<|.q Z (ae Z)<|.nil ?_;exact ⟨⟨i + 1,o ++ [w.getD i 0],b3⟩,jQ Z Z Z,Z,⟨⟨by omega,by exact uL OF h3 ‹_›,by simp only [List.length_append,List.length_take,List.length_cons,List.length_nil];omega⟩,ar,aa⟩,O1⟩
 refine am.exit<|aD _ _<|.seq fun _ aR=>.region<|.q Z (ah Z)<|.l Z (fun _ _ ai _=>dT (s:=o) Z cy u9 u5 D.slc ?_);refine ai _ _<|.q Z (ae Z)<|.nil<|aR _ _<|.rt (by exact aJ Z (⟨by unfold cn;(rw [if_pos (by simpa using ‹(!p4 w)=false›),<- h3,o9 O];rfl),V,a5⟩))
end Go.Proofs.YtjppkekmddjcfaaGreatDoor

namespace Go.Proofs.YtjppkekmddjcfaaGreatDoor
open Go Go.RowKit V
set_option maxRecDepth 100000


theorem wa (x y:List UInt8) (A:AH) (hx:x.length<=1000000) (hy:y.length<=1000000):bH Tryz.prog 25 #[aX (x),aX (y)] A (fun v A1=>v=num (da x y)/\A=A1):=by
 refine jP Tryz.call25 Tryz.func25 Z Tryz.results25 Tryz.ntmps25 Z (fun wf=>?_);have aR:=AH.le.refl A;refine am.seq fun _ h2=>.region<|.q Z (ae Z)<|.nil<|h2 _ _<|.seq fun _ h4=>.seq fun _ h6=>.region<|.q Z (ah Z)<|.l Z (fun _ _ aA _=>au Z (GO x A) ?_);rintro v8 A9 ⟨rfl,rfl⟩;refine aA _ _<|.q Z (eu Z)<|.q Z (ah Z)<|.partB (t:=11) Z (fun aB=>?_) (fun aB=>?_)
 ·refine Ops.off Z Z Z Z<|.off Z Z Z Z<|.off Z Z Z Z<|.q Z (aM Z Z)<|.nil<|h6 _ _<|.cond_true Z<|.seq fun _ a0=>.region<|.q Z (ae Z) ?_;refine Ops.nil<|a0 _ _<|.rt (by exact aJ Z (⟨by (rw [EU ‹_›];rfl),Z⟩))
 refine Ops.on Z Z<|.q Z (ah Z)<|.on Z Z<|.l Z (fun _ _ h _=>au Z (GO y A) ?_);rintro aS A16 ⟨rfl,rfl⟩;refine h _ _<|.on Z Z<|.q Z (eu Z)<|.q Z (aW Z Z)<|.nil<|h6 _ _<|.ifB Z (fun aC=>?_) (fun aC=>?_)
 ·refine am.seq fun _ a1=>.region<|.q Z (ae Z)<|.nil<|a1 _ _<|.rt (by exact aJ Z (⟨by (rw [EW ‹_›];rfl),Z⟩))
 refine am.skip<|h4 _ _<|.seq fun _ a2=>.seq fun _ a3=>.region<|.q Z (ah Z)<|.q Z (cB u9 Z)<|.q Z (ah Z)<|.q Z (cB u9 Z)<|.q Z (fh Z Z) ?_;refine Ops.nil<|a3 _ _<|.if rfl (fun aD=>?_) (fun aD=>?_)
 ·refine am.seq fun _ a4=>.seq fun _ a5=>.region<|.q Z (ah Z)<|.q Z (cB u9 Z)<|.q Z (ah Z)<|.q Z (cB u9 Z)<|.q Z (cd Z Z)<|.nil<|a5 _ _ ?_;refine am.if rfl (fun aF=>?_) (fun aF=>?_)
  ·refine am.seq fun _ a6=>.region<|.q Z (ae Z)<|.nil<|a6 _ _<|.rt (by exact aJ Z (⟨by (rw [kI ‹_› ‹_›];first | (rw [mU O] at hc;rw [<- hc];rfl) | (rw [e8 O O,if_pos ‹_›] at hc;rw [<- hc];rfl) | (rw [e8 O O,if_neg ‹_›,if_pos ‹_›] at hc;rw [<- hc];rfl) | (rw [gT,if_pos ‹¬ x.length=y.length›,if_pos ‹x.length < y.length›];rfl) | (rw [gT,if_pos ‹¬ x.length=y.length›,if_neg ‹¬ x.length < y.length›];rfl)),Z⟩))
  refine am.skip<|a4 _ _<|.seq fun _ a7=>.region<|.q Z (ae Z)<|.nil<|a7 _ _<|.rt (by exact aJ Z (⟨by (rw [kI ‹_› ‹_›];first | (rw [mU O] at hc;rw [<- hc];rfl) | (rw [e8 O O,if_pos ‹_›] at hc;rw [<- hc];rfl) | (rw [e8 O O,if_neg ‹_›,if_pos ‹_›] at hc;rw [<- hc];rfl) | (rw [gT,if_pos ‹¬ x.length=y.length›,if_pos ‹x.length < y.length›];rfl) | (rw [gT,if_pos ‹¬ x.length=y.length›,if_neg ‹¬ x.length < y.length›];rfl)),Z⟩))
 refine am.skip<|a2 _ _<|.seq fun _ a8=>.seq fun _ a9=>.region<|.q Z (ae Z)<|.nil<|a9 _ _<|.block<|.loop (X:=Nat) (fun k=>[(0,aX (x)),(1,aX (y)),(5,num ((k:Nat):Int))]) (fun k B=>(k<=x.length/\je (x.drop k) (y.drop k)=gT x y)/\A=B) (fun k=>x.length - k) 0 (jQ Z Z Z) (⟨⟨Nat.zero_le _,(FA ‹_›).symm⟩,Z⟩) ?_;rintro k B40 ⟨⟨hk,hc⟩,rfl⟩;refine am.seq fun _ aa=>.seq fun _ ab=>.region<|.q Z (ah Z)<|.q Z (ah Z)<|.q Z (cB u9 Z)<|.q Z (cd Z Z)<|.nil<|ab _ _<|.if rfl (fun aG=>?_) (fun aG=>?_)
 ·refine am.skip<|aa _ _<|.seq fun _ ac=>.block<|.seq fun _ ad=>.region<|.q Z (ah Z)<|.q Z (ah Z)<|.q Z (ma u9 Z Z O)<|.l Z (fun _ _ D _=>au Z (sj (x.getD k 0) A) ?_);rintro aT A52 ⟨rfl,rfl⟩;refine D _ _<|.q Z (ae Z)<|.nil<|ad _ _<|.seq fun _ ag=>.region<|.q Z (ah Z)<|.q Z (ah Z)<|.q Z (ma u9 Z Z O)<|.l Z (fun _ _ V _=>au Z (sj (y.getD k 0) A) ?_);rintro aV A58 ⟨rfl,rfl⟩;refine V _ _<|.q Z (ae Z)<|.nil<|ag _ _<|.seq fun _ ai=>.seq fun _ ap=>.region<|.q Z (ah Z)<|.q Z (ah Z)<|.q Z (k8 Z Z) ?_;refine Ops.nil<|ap _ _<|.if rfl (fun aI=>?_) (fun aI=>?_)
  ·refine am.seq fun _ ar=>.region<|.q Z (ae Z)<|.nil<|ar _ _<|.rt (by exact aJ Z (⟨by (rw [kI ‹_› ‹_›];first | (rw [mU O] at hc;rw [<- hc];rfl) | (rw [e8 O O,if_pos ‹_›] at hc;rw [<- hc];rfl) | (rw [e8 O O,if_neg ‹_›,if_pos ‹_›] at hc;rw [<- hc];rfl) | (rw [gT,if_pos ‹¬ x.length=y.length›,if_pos ‹x.length < y.length›];rfl) | (rw [gT,if_pos ‹¬ x.length=y.length›,if_neg ‹¬ x.length < y.length›];rfl)),Z⟩))
  refine am.skip<|ai _ _<|.seq fun _ av=>.region<|.q Z (ah Z)<|.q Z (ah Z)<|.q Z (BH Z Z)<|.nil<|av _ _<|.if rfl (fun aP=>?_) (fun aP=>?_)
  ·refine am.seq fun _ ay=>.region<|.q Z (ae Z)<|.nil<|ay _ _<|.rt (by exact aJ Z (⟨by (rw [kI ‹_› ‹_›];first | (rw [mU O] at hc;rw [<- hc];rfl) | (rw [e8 O O,if_pos ‹_›] at hc;rw [<- hc];rfl) | (rw [e8 O O,if_neg ‹_›,if_pos ‹_›] at hc;rw [<- hc];rfl) | (rw [gT,if_pos ‹¬ x.length=y.length›,if_pos ‹x.length < y.length›];rfl) | (rw [gT,if_pos ‹¬ x.length=y.length›,if_neg ‹¬ x.length < y.length›];rfl)),Z⟩))
  refine am.skip<|ac _ _<|.region<|.q Z (ah Z)<|.q Z (bE (b:=1) Z Z O)<|.q Z (ae Z)<|.nil ?_;exact ⟨k + 1,jQ Z Z Z,Z,⟨⟨by omega,by rw [e8 O O,if_neg ‹_›,if_neg ‹_›] at hc;exact hc⟩,Z⟩,O1⟩
 refine am.exit<|a8 _ _<|.seq fun _ az=>.region<|.q Z (ae Z)<|.nil<|az _ _<|.rt (by exact aJ Z (⟨by (rw [kI ‹_› ‹_›];first | (rw [mU O] at hc;rw [<- hc];rfl) | (rw [e8 O O,if_pos ‹_›] at hc;rw [<- hc];rfl) | (rw [e8 O O,if_neg ‹_›,if_pos ‹_›] at hc;rw [<- hc];rfl) | (rw [gT,if_pos ‹¬ x.length=y.length›,if_pos ‹x.length < y.length›];rfl) | (rw [gT,if_pos ‹¬ x.length=y.length›,if_neg ‹¬ x.length < y.length›];rfl)),Z⟩))
end Go.Proofs.YtjppkekmddjcfaaGreatDoor

namespace Go.Proofs.YtjppkekmddjcfaaGreatDoor
open Go Go.RowKit V
set_option maxRecDepth 100000


theorem JH (c:UInt8) (g:Int) (A:AH) (hg:1<=g/\g<=8):bH Tryz.prog 68 #[d8 (c),num (g)] A (fun v A1=>v=num (Ks g c)/\A=A1):=by
 refine jP Tryz.call68 Tryz.func68 Z Tryz.results68 Tryz.ntmps68 Z (fun wf=>?_);have ac:=AH.le.refl A;have aa:=(c - 97).toNat_lt;have ab:=(c - 65).toNat_lt;refine am.seq fun _ h2=>.region<|.q Z (ae Z)<|.nil<|h2 _ _<|.seq fun _ h4=>.block<|.seq fun _ h6=>.region<|.q Z (ah Z) ?_;refine Ops.q Z (qG (d:=97) Z Z)<|.q Z (ah Z)<|.part (t:=8) Z (fun p7=>?_) (fun p7=>?_)
 ·refine Ops.on Z Z<|.q Z (ah Z)<|.on Z Z<|.q Z (mo (d:=97) Z Z)<|.on Z Z<|.q Z (kU u5 u3 Z)<|.on Z Z<|.q Z (ah Z)<|.on Z Z<|.q Z (k8 Z Z) ?_;refine Ops.q Z (aM Z Z)<|.q Z (ae Z)<|.nil<|h6 _ _<|.if rfl (fun p8=>?_) (fun p8=>?_)
  ·refine am.seq fun _ X=>.region<|.q Z (ah Z)<|.q Z (mo (d:=97) Z Z)<|.q Z (kU u5 u3 Z)<|.q Z (px (a:=2) Z Z O)<|.q Z (ae Z)<|.nil<|X _ _<|.rt (by exact aJ Z (⟨by (rw [<- Jb hg ‹_› ‹_›];rfl),Z⟩))
  refine am.seq fun _ D=>.region<|.q Z (ah Z)<|.q Z (qG (d:=65) Z Z)<|.q Z (ah Z)<|.part (t:=22) Z (fun a6=>?_) (fun a6=>?_)
  ·refine Ops.on Z Z<|.q Z (ah Z)<|.on Z Z<|.q Z (mo (d:=65) Z Z)<|.on Z Z<|.q Z (kU u5 u3 Z)<|.on Z Z<|.q Z (ah Z)<|.on Z Z<|.q Z (k8 Z Z) ?_;refine Ops.q Z (aM Z Z)<|.q Z (ae Z)<|.nil<|D _ _<|.if rfl (fun a7=>?_) (fun a7=>?_)
   ·refine am.seq fun _ a0=>.region<|.q Z (ah Z)<|.q Z (mo (d:=65) Z Z)<|.q Z (kU u5 u3 Z)<|.q Z (px (a:=2) Z Z O)<|.q Z (bE (b:=1) Z Z O)<|.q Z (ae Z)<|.nil<|a0 _ _ ?_;refine am.ret ?_;repeat first | with_reducible refine bz ?_ | with_reducible refine bi ?_
    exact aJ Z (⟨by (rw [<- FY hg ‹_› ‹_›];rfl),Z⟩)
   refine am.skip<|h4 _ _<|.seq fun _ a1=>.region<|.q Z (ae Z)<|.nil<|a1 _ _<|.rt (by exact aJ Z (⟨by (rw [yN (fun h=>by first | exact ‹¬ (97:UInt8)<=c› h.1 | exact ‹¬ (((c - 97).toNat:Nat):Int) < g› h.2) (fun h=>by first | exact ‹¬ (65:UInt8)<=c› h.1 | exact ‹¬ (((c - 65).toNat:Nat):Int) < g› h.2)];rfl),Z⟩))
  refine Ops.off Z Z Z Z<|.off Z Z Z Z<|.off Z Z Z Z<|.off Z Z Z Z<|.off Z Z Z Z<|.q Z (aW Z Z)<|.q Z (ae Z)<|.nil<|D _ _<|.cond_false Z ?_;refine am.skip<|h4 _ _<|.seq fun _ a2=>.region<|.q Z (ae Z)<|.nil<|a2 _ _<|.rt (by exact aJ Z (⟨by (rw [yN (fun h=>by first | exact ‹¬ (97:UInt8)<=c› h.1 | exact ‹¬ (((c - 97).toNat:Nat):Int) < g› h.2) (fun h=>by first | exact ‹¬ (65:UInt8)<=c› h.1 | exact ‹¬ (((c - 65).toNat:Nat):Int) < g› h.2)];rfl),Z⟩))
 refine Ops.off Z Z Z Z<|.off Z Z Z Z<|.off Z Z Z Z<|.off Z Z Z Z<|.off Z Z Z Z<|.q Z (aW Z Z)<|.q Z (ae Z)<|.nil<|h6 _ _<|.cond_false Z ?_;refine am.seq fun _ V=>.region<|.q Z (ah Z)<|.q Z (qG (d:=65) Z Z)<|.q Z (ah Z)<|.part (t:=22) Z (fun a8=>?_) (fun a8=>?_)
 ·refine Ops.on Z Z<|.q Z (ah Z)<|.on Z Z<|.q Z (mo (d:=65) Z Z)<|.on Z Z<|.q Z (kU u5 u3 Z)<|.on Z Z<|.q Z (ah Z)<|.on Z Z<|.q Z (k8 Z Z) ?_;refine Ops.q Z (aM Z Z)<|.q Z (ae Z)<|.nil<|V _ _<|.if rfl (fun a9=>?_) (fun a9=>?_)
  ·refine am.seq fun _ a3=>.region<|.q Z (ah Z)<|.q Z (mo (d:=65) Z Z)<|.q Z (kU u5 u3 Z)<|.q Z (px (a:=2) Z Z O)<|.q Z (bE (b:=1) Z Z O)<|.q Z (ae Z)<|.nil<|a3 _ _ ?_;refine am.ret ?_;repeat first | with_reducible refine bz ?_ | with_reducible refine bi ?_
   exact aJ Z (⟨by (rw [<- FY hg ‹_› ‹_›];rfl),Z⟩)
  refine am.skip<|h4 _ _<|.seq fun _ a4=>.region<|.q Z (ae Z)<|.nil<|a4 _ _<|.rt (by exact aJ Z (⟨by (rw [yN (fun h=>by first | exact ‹¬ (97:UInt8)<=c› h.1 | exact ‹¬ (((c - 97).toNat:Nat):Int) < g› h.2) (fun h=>by first | exact ‹¬ (65:UInt8)<=c› h.1 | exact ‹¬ (((c - 65).toNat:Nat):Int) < g› h.2)];rfl),Z⟩))
 refine Ops.off Z Z Z Z<|.off Z Z Z Z<|.off Z Z Z Z<|.off Z Z Z Z<|.off Z Z Z Z<|.q Z (aW Z Z)<|.q Z (ae Z)<|.nil<|V _ _<|.cond_false Z ?_;refine am.skip<|h4 _ _<|.seq fun _ a5=>.region<|.q Z (ae Z)<|.nil<|a5 _ _<|.rt (by exact aJ Z (⟨by (rw [yN (fun h=>by first | exact ‹¬ (97:UInt8)<=c› h.1 | exact ‹¬ (((c - 97).toNat:Nat):Int) < g› h.2) (fun h=>by first | exact ‹¬ (65:UInt8)<=c› h.1 | exact ‹¬ (((c - 65).toNat:Nat):Int) < g› h.2)];rfl),Z⟩))

theorem lQ (w:List UInt8) (g:Int) (A:AH) (hw:w.length<=9223372036854775807) (hg:1<=g/\g<=8):bH Tryz.prog 27 #[aX (w),num (g)] A (fun v A1=>v=.bool (decide (bG g w=0))/\A=A1):=by
 refine jP Tryz.call27 Tryz.func27 Z Tryz.results27 Tryz.ntmps27 Z (fun wf=>?_);have a7:=AH.le.refl A;refine am.seq fun _ h2=>.region<|.q Z (ae Z)<|.nil<|h2 _ _<|.seq fun _ h4=>.seq fun _ h6=>.region<|.q Z (ae Z)<|.nil ?_;refine h6 _ _<|.block<|.loop (X:=Nat) (fun i=>[(0,aX (w)),(1,num (g)),(5,num ((i:Nat):Int))]) (fun i B=>(i<=w.length/\∀ j,j < i->¬ Ks g (w.getD j 0) < 0)/\A=B) (fun i=>w.length - i) 0 (jQ Z Z Z) (⟨⟨Nat.zero_le _,fun j h=>by omega⟩,Z⟩) ?_;rintro i B8 ⟨⟨hi,hn⟩,rfl⟩;refine am.seq fun _ V=>.seq fun _ a0=>.region<|.q Z (ah Z)<|.q Z (ah Z)<|.q Z (cB u9 Z)<|.q Z (cd Z Z)<|.nil<|a0 _ _<|.if rfl (fun a5=>?_) (fun a5=>?_)
 ·refine am.skip<|V _ _<|.seq fun _ a1=>.block<|.seq fun _ a2=>.region<|.q Z (ah Z)<|.q Z (ah Z)<|.q Z (ma u9 Z Z O)<|.q Z (ah Z) ?_;refine Ops.l Z (fun _ _ D _=>au Z (JH (w.getD i 0) (g) A O) ?_);rintro a8 A20 ⟨rfl,rfl⟩;refine D _ _<|.q Z (k8 Z Z)<|.nil<|a2 _ _<|.if rfl (fun a6=>?_) (fun a6=>?_)
  ·refine am.seq fun _ a3=>.region<|.q Z (ae Z)<|.nil<|a3 _ _<|.rt (by exact aJ Z (⟨by (rw [DC hg O ‹_›];rfl),Z⟩))
  refine am.skip<|a1 _ _<|.region<|.q Z (ah Z)<|.q Z (bE (b:=1) Z Z O)<|.q Z (ae Z)<|.nil ?_;exact ⟨i + 1,jQ Z Z Z,Z,⟨⟨by omega,fun j h=>(Nat.lt_succ_iff_lt_or_eq.1 h).elim (hn j) (fun z=>by subst z;assumption)⟩,Z⟩,O1⟩
 refine am.exit<|h4 _ _<|.seq fun _ a4=>.region<|.q Z (ah Z)<|.q Z (cB u9 Z)<|.q Z (qH (b:=100000) Z Z)<|.q Z (ae Z)<|.nil<|a4 _ _ ?_;refine am.ret ?_;repeat first | with_reducible refine bz ?_ | with_reducible refine bi ?_
 exact aJ Z (⟨by (rw [AN hg O hn];rfl),Z⟩)
end Go.Proofs.YtjppkekmddjcfaaGreatDoor
