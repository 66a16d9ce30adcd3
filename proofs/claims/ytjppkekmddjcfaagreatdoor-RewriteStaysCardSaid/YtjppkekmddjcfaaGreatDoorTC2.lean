import Derived.Test.YtjppkekmddjcfaaGreatDoorTC1
import Derived.RangeFuncSeq
import Derived.RangeFuncRecord
import Derived.TacticsIn
import Derived.OrdersIn
import Derived.Shelf.SlGeneric
import Derived.Shelf.SlLaysF0
import Derived.Shelf.Lays
import Derived.Ground.SlsfProg
import Derived.Ground.NamesProg
import Derived.Test.YtjppkekmddjcfaaGreatDoorProg
import Derived.Shelf.Strings.Search3
import Derived.Test.YtjppkekmddjcfaaGreatDoorCards
import Derived.Test.YtjppkekmddjcfaaGreatDoorTie
import Derived.WalkKit
import Derived.ProofKit
import Derived.OpenShut
import Derived.Carry
import Derived.SliceStrings
import Derived.ChangeSame
import Derived.ChangeMaps5
import Derived.Deep.DeepHandedRow
import Derived.Deep.DeepLaidRun
import Derived.Lib.LaidTab
import Derived.Shelf.Vars
import Derived.KernelRfl
set_option linter.unusedSectionVars false
set_option linter.unusedVariables false
set_option linter.unusedSimpArgs false
namespace Go.Proofs.YtjppkekmddjcfaaGreatDoor
open Go Go.RowKit
namespace V

abbrev FR (l:Nat):Fence:=Fence.wide.inRound l
def vo (F:Fence):Prop:=F=Fence.wide\/∃ l,F=FR l
theorem jT:vo Fence.wide:=.inl Z
theorem pg (l:Nat):vo (FR l):=.inr ⟨l,rfl⟩
def iW (o:Oper):Bool:=match o.op with | .defer _=>false | _=>true

section
variable {P:Program} {F:Fence} {n:Nat}
theorem yA (hF:vo F) {g:FuncId} {args:Array Value} {w:World} {R:Ending->World->Prop} (h:Calls P g args w R):CallsIn F n P g args w R:=by
  have:=callsIn_wide (n:=n).2 h
  rcases hF with rfl | ⟨l,rfl⟩
  · exact this
  · exact this
theorem Ek (hF:vo F) {row:String} {args:Array Value} {w:World} {R:Value->World->Prop} (h:Rows P row args w R):RowsIn F n P row args w R:=fun c cs _=>by
  obtain ⟨v,w',r,s⟩:=h c cs
  have s':=stepsIn_wide.2 s
  rcases hF with rfl | ⟨l,rfl⟩
  · exact ⟨v,w',r,s'⟩
  · exact ⟨v,w',r,s'⟩
theorem pW (hF:vo F) (f:FuncId):F.fn f:=by rcases hF with rfl | ⟨l,rfl⟩ <;> trivial
theorem qK (hF:vo F):F.depth.isSome=true->1<=n:=by rcases hF with rfl | ⟨l,rfl⟩ <;> (intro q;cases q)
theorem Qt (hF:vo F) {o:Oper} {a:Act} {w:World} {K:Act->World->Prop} {Q:Exit->Act->World->Prop} (hd:iW o=true) (h:o.wp P a w K Q):o.wpIn F n P a w K Q:=by
  have hs:o.semAt F.round a.eval=execOp a.eval o:=Oper.semAt_eq _ _ _ (fun c hc=>by simp [iW,hc] at hd)
  refine ⟨fun f _=>pW hF f,?_⟩
  rw [hs]
  unfold Oper.wp at h
  generalize (execOp a.eval o).run P w=r at h ⊢
  cases r with
  | ok x w' =>
    cases x <;> simp only [Oper.upon] at h <;> simp only [Oper.uponIn] <;>
      first | exact h | exact h.elim | exact ⟨qK hF,yA hF h⟩ | exact ⟨qK hF,Ek hF h⟩
  | halt x w'=>cases x <;> simp only [Oper.upon] at h <;> simp only [Oper.uponIn] <;> exact h

theorem xu (hF:vo F) {all:Array Oper} {Q:Exit->Act->World->Prop} (hQ:¬ LetsOut Q):∀ (os:List Oper) (a:Act) (w:World),os.all iW=true->wpList P all Q os a w->wpListIn F n P all Q os a w
  | [],_,_,_,h=>h
  | o :: os,a,w,hd,h=>by
    simp only [List.all_cons,Bool.and_eq_true] at hd
    unfold wpList at h
    unfold wpListIn
    split
    · rename_i hw
      rw [if_pos hw] at h
      rcases h with h | ⟨_,h⟩
      · exact Qt hF hd.1 (Oper.wp_mono (fun a w=>xu hF hQ os a w hd.2) h)
      · exact absurd h hQ
    · rename_i hw
      rw [if_neg hw] at h
      exact ⟨fun f _=>pW hF f,xu hF hQ os _ w hd.2 h⟩

theorem wT (hF:vo F) {ops:Array Oper} {Q:Exit->Act->World->Prop} (hQ:¬ LetsOut Q) (hd:ops.toList.all iW=true):∀ (fuel:Nat) (l:Array Bool) (a:Act) (w:World),wpAny P .any ops Q fuel l a w->wpAnyIn F n P .any ops Q fuel l a w
  | 0,_,_,_,h=>h
  | fuel + 1,l,a,w,h=>⟨h.1,fun i hi=>by
      have h2:=h.2 i hi
      unfold wpOp at h2
      unfold wpOpIn
      split
      · rename_i q;simp only [q] at h2;exact wT hF hQ hd fuel _ a w h2
      · rename_i o q
        simp only [q] at h2
        have ho:iW o=true:=List.all_eq_true.1 hd o (by
          obtain ⟨hlt,e⟩:=Array.getElem?_eq_some_iff.1 q
          rw [<- e];exact Array.getElem_mem_toList hlt)
        split
        · rename_i hw
          rw [if_pos hw] at h2
          rcases h2 with h2 | ⟨_,h2⟩
          · exact Qt hF ho (Oper.wp_mono (fun a w=>wT hF hQ hd fuel _ a w) h2)
          · exact absurd h2 hQ
        · rename_i hw
          rw [if_neg hw] at h2
          exact ⟨fun f _=>pW hF f,wT hF hQ hd fuel _ _ w h2⟩⟩
end

def ed (P:Program) (nt:Nat) (F:Fence) (c:Code) (Q:Exit->Fr->AH->Prop) (f:Fr) (A:AH):Prop :=
  ∀ a w,db nt f a->ct A w->c.wpIn F 0 P (ky nt Q A w) a w
def qI (Q:Exit->Fr->AH->Prop):Prop:=∀ f A,¬ Q .outgrown f A
theorem oe {K:Fr->AH->Prop} {Q:Exit->Fr->AH->Prop} (h:qI Q):qI (pG K Q):=fun f A=>h f A
theorem ku {i:Nat} {Q:Exit->Fr->AH->Prop} (h:qI Q):qI (lA i Q):=fun f A=>h f A
def uH (R:Fr->AH->Prop):Exit->Fr->AH->Prop
  | .normal,f,A=>R f A
  | _,_,_=>False
theorem iz {R:Fr->AH->Prop}:qI (uH R):=fun _ _ h=>h
theorem zq {nt:Nat} {Q:Exit->Fr->AH->Prop} (h:qI Q) {A:AH} {w:World}:¬ LetsOut (dT nt Q A w):=fun ⟨_,_,_,_,_,_,_,q,_⟩=>h _ _ q
theorem Cr {nt:Nat} {Q:Exit->Fr->AH->Prop} (h:qI Q) {A:AH} {w:World}:¬ LetsOut (ky nt Q A w):=fun ⟨_,_,_,_,_,_,_,q,_⟩=>h _ _ q

section
variable {P:Program} {nt:Nat} {F:Fence} {Q:Exit->Fr->AH->Prop} {f:Fr} {A:AH} {e:gv} {ds:List Deferred}
theorem ed.wf {c:Code} (h:A.wf->ed P nt F c Q f A):ed P nt F c Q f A:=fun a w ha hw=>h hw.wf a w ha hw
theorem ed.skip (h:Q .normal f A):ed P nt F .skip Q f A:=fun _ _ ha hw=>wpIn_skip (.self ha hw h fun _ q=>by cases q)
theorem ed.seq {x y:Code} (h:∀ K:Fr->AH->Prop,(∀ f A,ed P nt F y Q f A->K f A)->ed P nt F x (pG K Q) f A):ed P nt F (x.seq y) Q f A:=by
  intro a w ha hw
  refine wpIn_seq (wpIn_mono (h _ (fun _ _ h=>h) a w ha hw) ?_)
  rintro e a' w' ⟨f',A',h1,h2,h3,h4,h5⟩
  cases e with
  | normal=>exact wpIn_mono (h4 a' w' h1 h2) fun x a'' w'' g=>g.step h3
  | _=>exact ⟨f',A',h1,h2,h3,h4,h5⟩
theorem ed.cond {c:Operand} {x y:Code} {t:Bool} (hc:bZ f.e c=some (.bool t)) (h1:t=true->ed P nt F x Q f A) (h2:t=false->ed P nt F y Q f A) :
    ed P nt F (.cond c x y) Q f A:=fun a w ha hw =>
  wpIn_cond_split (c0 ha hc) (fun e=>h1 e a w ha hw) (fun e=>h2 e a w ha hw)
theorem ed.cond_false {c:Operand} {x y:Code} (hc:bZ f.e c=some (.bool false)) (h1:ed P nt F y Q f A):ed P nt F (.cond c x y) Q f A :=
  ed.cond hc (fun e=>by cases e) (fun _=>h1)
theorem ed.if {c:Operand} {x y:Code} {p:Prop} [Decidable p] (hc:bZ e c=some (.bool (decide p))) (h1:p->ed P nt F x Q ⟨e,ds⟩ A) (h2:¬ p->ed P nt F y Q ⟨e,ds⟩ A):ed P nt F (.cond c x y) Q ⟨e,ds⟩ A :=
  ed.cond hc (fun h=>h1 (of_decide_eq_true h)) (fun h=>h2 (of_decide_eq_false h))
theorem ed.block {i:Nat} {c:Code} (h:ed P nt F c (lA i Q) f A):ed P nt F (.block i c) Q f A:=fun a w ha hw=>by
  refine wpIn_block (wpIn_mono (h a w ha hw) ?_)
  rintro e a' w' ⟨f',A',h1,h2,h3,h4,h5⟩
  cases e with
  | exit j =>
    simp only [Exit.inBlock,lA] at h4 ⊢
    split
    · rename_i q;rw [if_pos q] at h4;exact ⟨f',A',h1,h2,h3,h4,fun _ q=>by cases q⟩
    · rename_i q;rw [if_neg q] at h4;exact ⟨f',A',h1,h2,h3,h4,h5⟩
  | _=>exact ⟨f',A',h1,h2,h3,h4,h5⟩
theorem ed.region {id:Nat} {l:List Oper} (hF:vo F) (hQ:qI Q) (hd:l.all iW=true) (h:Ops P nt l.toArray l Q f A):ed P nt F (.region id l.toArray false) Q f A :=
  fun a w ha hw=>wpIn_region_lit (xu hF (Cr hQ) l a w hd (h a w ha hw A w (.refl _ _)))
theorem ed.drawn {id:Nat} {ops:Array Oper} (C:List Nat) (hF:vo F) (hQ:qI Q) (hd:ops.toList.all iW=true) (hm:P.follows .mixedOrders=true) (hc:kZ ops (Array.replicate ops.size false) C=true) (hn:Region.noSelect ops=true) (hl:C.length=ops.size)
    (h:bj P nt ops Q (Array.replicate ops.size false) [] C f A):ed P nt F (.region id ops true) Q f A:=by
  intro a w ha hw
  obtain ⟨v1,s1⟩:=i5 hw
  refine wpIn_mono (wpIn_region_any hm (wT hF (zq hQ) hd _ _ _ _ (jI (Q:=dT nt Q A w) (S:=dQ ops []) _ _ _ _ ?_))) (fun _ _ _=>dT.q)
  have key:=h hc hn a _ ha v1 (fun p hp=>by cases hp) (fun j o _ hj=>by
    exfalso
    rcases Nat.lt_or_ge j ops.size with q | q
    · simp [q] at hj
    · simp [q] at hj) A w s1
  rw [hl] at key
  exact key
theorem ed.run {c:Code} (h:ed P nt Fence.wide c Q f A):ao P nt c Q f A:=fun a w ha hw=>wpIn_wide.1 (h a w ha hw)
theorem ao.into {c:Code} (h:ao P nt c Q f A):ed P nt Fence.wide c Q f A:=fun a w ha hw=>wpIn_wide.2 (h a w ha hw)
end

def kz (P:Program) (l:Nat) (args:Array Value) (A:AH) (R:Value->AH->Prop):Prop :=
  ∀ w,ct A w->YieldAt Fence.wide 0 P l args w fun e w'=>∃ A' v,e=.returned v/\ct A' w'/\eu A w A' w'/\R v A'
section
variable {P:Program} {nt:Nat} {all:Array Oper} {Q:Exit->Fr->AH->Prop} {f:Fr} {A:AH} {e:gv} {ds:List Deferred} {d t:Nat} {op:Op} {ty:TypeId} {ps:String} {af:Array Edge} {os:List Oper} {v:Value} {T:fh}
end

def mark (D:Nat):Deferred:={ target:=.collected D,args:=#[] }
def xQ (ps:List Nat) (xs:List Value) (e:gv):gv:=(ps.zip xs).foldl (fun e p=>(p.1,p.2) :: e) e
section
variable {P:Program} {nt:Nat} {Q:Exit->Fr->AH->Prop} {A:AH} {e:gv} {ds:List Deferred}
theorem rY:∀ (l:List (Nat × Value)) (e:gv) (t:Array Value),(∀ p ∈ l,p.1 < nt)->db nt ⟨e,[]⟩ { tmps:=t,defers:=[] } ->
    db nt ⟨l.foldl (fun e p=>(p.1,p.2) :: e) e,[]⟩ { tmps:=l.foldl (fun t p=>t.setIfInBounds p.1 p.2) t,defers:=[] }
  | [],_,_,_,h=>h
  | p :: l,e,t,hp,h=>rY l _ _ (fun q hq=>hp q (List.mem_cons_of_mem _ hq)) (by
      have:=h.put (some p.1) p.2 (fun t q=>by cases q;exact hp p List.mem_cons_self)
      exact this)
theorem kS (P:Program) {w:World} {b:Nat} {x y:Obj} (h:ct A w) (g:A.get b=some (.obj true x)) (hy:∀ c e f,y ≠ .cells c e f):ct (A.set b (.obj true y)) (w.putObj b y)/\eu A w (A.set b (.obj true y)) (w.putObj b y):=by
  obtain ⟨w',r,v1,s1⟩:=jg (P:=P) h g (y:=y) hy
  obtain ⟨g1,g2⟩:=h.obj g
  have:(setObj b y).run P w=.ok () (w.putObj b y):=by simp [setObj,Sem.run,g1,World.putObj]
  rw [r] at this
  have e:w'=w.putObj b y:=by injection this
  rw [<- e];exact ⟨v1,s1⟩
def Bh (P:Program) (rs:List ResultVar) (Q:Ending->AH->Prop):Exit->Fr->AH->Prop
  | .normal,f,A | .ret,f,A=>∃ Ds:List Nat,f.ds=Ds.map mark/\Ds.Nodup/\(∀ D ∈ Ds,A.get D=some (.obj true (.deferred (some [])))) /\
      ∃ vs,∀ A',A'.wf->A'.n=A.n->(∀ b o,b ∉ Ds->A.get b=some o->A'.get b=some o)->gt P f.e A' rs=some vs/\Q (.returned (fg vs)) A'
  | _,_,_=>False

theorem gi.enterM {g:FuncId} {fn:Func} {c:Code} {args:List Value} {Qe:Ending->AH->Prop} (he:eU P g) (hf:P.funcs[g]? = some fn) (hb:fn.body=some c) (hn:args.length<=fn.ntmps)
    (h:A.wf->ao P fn.ntmps c (Bh P fn.results.toList Qe) ⟨qi args 0,[]⟩ A):gi P g args.toArray A Qe:=by
  refine ⟨he,fun w hw=>callsIn_wide.1 (callsIn_of_wp_marks (F:=Fence.wide) (n:=0) hf hb trivial ?_)⟩
  have ha:db fn.ntmps ⟨qi args 0,[]⟩ { tmps:=args.toArray ++ Array.replicate (fn.ntmps - args.toArray.size) undef,defers:=[] }:=by
    refine ⟨by simp;omega,fun t v q=>?_,Z⟩
    obtain ⟨_,h2⟩:=tC args 0 t v q
    simp only [Nat.sub_zero] at h2
    have hlt:t < args.length:=(List.getElem?_eq_some_iff.1 h2).1
    refine ⟨?_,by omega⟩
    simp only [Array.getD_eq_getD_getElem?]
    rw [Array.getElem?_append_left (by simpa using hlt)]
    simp [h2]
  have leave:∀ (Ds:List Nat) (B:AH) (f:Fr) (a:Act) (w':World) (vs:List Value),(∀ t v,cz f.e t=some v->a.tmps.getD t undef=v/\t < fn.ntmps)->a.tmps.size=fn.ntmps->ct B w'->eu A w B w'->Ds.Nodup->(∀ D ∈ Ds,B.get D=some (.obj true (.deferred (some [])))) ->
      (∀ A',A'.wf->A'.n=B.n->(∀ b o,b ∉ Ds->B.get b=some o->A'.get b=some o)->gt P f.e A' fn.results.toList=some vs/\Qe (.returned (fg vs)) A') ->
      LeavesInM Fence.wide 0 P fn a.tmps (fun e w''=>∃ A',ct A' w''/\eu A w A' w''/\Qe e A') (Ds.map mark) .returning w':=by
    intro Ds
    induction Ds with
    | nil =>
      intro B f a w' vs hsl hsz hv hs _ _ hq
      obtain ⟨r1,r2⟩:=hq B hv.wf Z (fun _ _ _ h=>h)
      have:=jd (nt:=fn.ntmps) (f:=⟨f.e,a.defers⟩) (a:=a) ⟨hsz,hsl,rfl⟩ hv r1
      exact ⟨_,this,B,hv,hs,r2⟩
    | cons D Ds ih =>
      intro B f a w' vs hsl hsz hv hs hnd hD hq
      have gD:=hD D List.mem_cons_self
      obtain ⟨q1,_⟩:=hv.obj gD
      obtain ⟨v1,s1⟩:=kS P (y:=.deferred none) hv gD (fun _ _ _ q=>by cases q)
      refine ⟨by simp,.inl ⟨D,_,Z,run_takeDeferred q1,?_⟩⟩
      have hnd':=List.nodup_cons.1 hnd
      refine ih _ f a _ vs hsl hsz v1 (hs.trans s1) hnd'.2 (fun E hE=>?_) (fun A' wf' hn' hk'=>?_)
      · rw [AH.set_get_ne _ _ (by rintro rfl;exact hnd'.1 hE)];exact hD E (List.mem_cons_of_mem _ hE)
      · exact hq A' wf' hn' fun b o hb hgb=>hk' b o (fun q=>hb (List.mem_cons_of_mem _ q)) (by rw [AH.set_get_ne _ _ (by rintro rfl;exact hb List.mem_cons_self)];exact hgb)
  refine wpIn_mono (ao.into (h hw.wf) _ w ha hw) ?_
  rintro x a' w' ⟨f',A',h1,h2,h3,h4,h5⟩
  cases x <;> simp only [Bh] at h4 <;> (try exact h4.elim)
  case normal=>obtain ⟨Ds,e1,e2,e3,vs,e4⟩:=h4;simp only [bodyPostM];rw [h1.ds,e1];exact leave Ds A' f' a' w' vs h1.slot h1.size h2 h3 e2 e3 e4
  case ret=>obtain ⟨Ds,e1,e2,e3,vs,e4⟩:=h4;simp only [bodyPostM];rw [h1.ds,e1];exact leave Ds A' f' a' w' vs h1.slot h1.size h2 h3 e2 e3 e4
theorem enterM {g:FuncId} {fn:Func} {c:Code} {rs:Array ResultVar} {nt:Nat} {args:List Value} {a:Array Value} {e:gv} {A:AH} {R:Value->AH->Prop} (he:eU P g) (hf:P.funcs[g]? = some fn) (hb:fn.body=some c)
    (hr:fn.results=rs) (hnt:fn.ntmps=nt) (ha:args.toArray=a) (hn:Nat.ble args.length nt=true) (hE:qi args 0=e) (h:A.wf->ao P nt c (Bh P rs.toList fun en A'=>∃ v,en=.returned v/\R v A') ⟨e,[]⟩ A):bG P g a A R:=by
  subst hr;subst hnt;subst ha;subst hE
  exact gi.enterM he hf hb (Nat.le_of_ble_eq_true hn) h
theorem ao.loopD {c:Code} {X:Type} (E:X->gv) (D:X->List Deferred) (I:X->AH->Prop) (μ:X->Nat) (x₀:X) (hE:an (E x₀) e) (hD:D x₀=ds) (h₀:I x₀ A)
    (round:∀ x B,I x B->ao P nt c (pG (fun f B'=>∃ y,an (E y) f.e/\f.ds=D y/\I y B'/\μ y < μ x) Q) ⟨E x,D x⟩ B) :
    ao P nt (.loop c) Q ⟨e,ds⟩ A:=by
  subst hD
  intro a w ha hw b k cs
  have run:∀ m a w₁,(∃ x B,μ x=m/\I x B/\db nt ⟨E x,D x⟩ a/\ct B w₁/\eu A w B w₁) ->
      ∃ e a' w',ky nt Q A w e a' w'/\Arrives P (lone (b.at a (.code c :: .inLoop c :: k)) cs w₁) b k cs e a' w':=by
    intro m
    induction m using Nat.strongRecOn with
    | _ m ih =>
      rintro a w₁ ⟨x,B,hm,hI,ha₁,hw₁,hs₁⟩
      obtain ⟨e,a₂,w₂,⟨f',A',h1,h2,h3,h4,h5⟩,harr⟩:=round x B hI a w₁ ha₁ hw₁ b (.inLoop c :: k) cs
      cases e with
      | normal =>
        obtain ⟨y,g1,g2,g3,g4⟩:=h4
        obtain ⟨fe,fds⟩:=f'
        simp only at g1 g2
        subst g2
        obtain ⟨e₂,a₃,w₃,hq,harr₂⟩:=ih (μ y) (hm ▸ g4) a₂ w₂ ⟨y,A',rfl,g3,h1.le g1,h2,hs₁.trans h3⟩
        exact ⟨e₂,a₃,w₃,hq,.of_steps (Steps.trans harr (.one step_inLoop)) harr₂⟩
      | exit id=>exact ⟨_,a₂,w₂,⟨f',A',h1,h2,hs₁.trans h3,h4,h5⟩,.pass (x:=.inLoop c) Z (fun _ _=>.inl (by simp)) harr⟩
      | goto l=>exact ⟨_,a₂,w₂,⟨f',A',h1,h2,hs₁.trans h3,h4,h5⟩,.pass (x:=.inLoop c) Z (fun _ _=>.inl (by simp)) harr⟩
      | ret=>exact ⟨_,a₂,w₂,⟨f',A',h1,h2,hs₁.trans h3,h4,h5⟩,.pass (x:=.inLoop c) Z (fun _ _=>.inl (by simp)) harr⟩
      | panic ch=>exact ⟨_,a₂,w₂,⟨f',A',h1,h2,hs₁.trans h3,h4,h5⟩,.pass (x:=.inLoop c) Z (fun _ _=>.inl (by simp)) harr⟩
      | outgrown=>exact ⟨_,a₂,w₂,⟨f',A',h1,h2,hs₁.trans h3,h4,h5⟩,.pass (x:=.inLoop c) Z (fun _ _=>.inl (by simp)) harr⟩
  obtain ⟨e,a',w',hq,harr⟩:=run _ a w ⟨x₀,A,rfl,h₀,ha.le hE,hw,.refl _ _⟩
  exact ⟨e,a',w',hq,.of_steps (.one step_loop) harr⟩
end
end V
end Go.Proofs.YtjppkekmddjcfaaGreatDoor

namespace Go.Proofs.YtjppkekmddjcfaaGreatDoor
open Go Go.RowKit
namespace V

def AH.hide (A:AH) (bs:List (Option Nat)):AH:=⟨A.n,fun k=>if some k ∈ bs then none else A.get k⟩
section
variable {A B C A0 A1:AH} {bs:List (Option Nat)} {b k n:Nat} {o:eM} {v u:Value} {size:Nat} {xs ys:List Value}
theorem cn (h:some b ∈ bs):(A.hide bs).get b=none:=if_pos h
theorem bF (h:A.get k=some o) (hk:some k ∉ bs):(A.hide bs).get k=some o:=by
  show (if some k ∈ bs then none else A.get k)=some o
  rw [if_neg hk];exact h
theorem cM (A:AH) (bs:List (Option Nat)):(A.hide bs).le A:=⟨Nat.le_refl _,fun b o g=>by
  have g:(if some b ∈ bs then none else A.get b)=some o:=g
  split at g
  · cases g
  · exact g⟩
theorem cr (wf:A.wf):(A.hide bs).wf:=fun b o g=>wf b o ((cM A bs).get b o g)
theorem cg (le:A0.le A) (h:∀ b,some b ∈ bs->A0.get b=none):A0.le (A.hide bs) :=
  ⟨le.n,fun b o g=>bF (le.get b o g) fun q=>by rw [h b q] at g;cases g⟩
theorem ka:some k ∉ ([]:List (Option Nat)):=fun h=>by cases h
theorem lQ (h:k ≠ b) (t:some k ∉ bs):some k ∉ some b :: bs:=fun q=>by
  rcases List.mem_cons.1 q with q | q
  · exact h (Option.some.inj q)
  · exact t q
theorem ng (h:blk v ≠ some k) (t:some k ∉ bs):some k ∉ blk v :: bs:=fun q=>by
  rcases List.mem_cons.1 q with q | q
  · exact h q.symm
  · exact t q
theorem nf:∀ b,some b ∈ ([]:List (Option Nat))->A0.get b=none:=fun _ h=>by cases h
theorem qz (h:A0.get k=none) (t:∀ b,some b ∈ bs->A0.get b=none):∀ b,some b ∈ some k :: bs->A0.get b=none:=fun b q=>by
  rcases List.mem_cons.1 q with q | q
  · cases q;exact h
  · exact t b q
theorem sj (h:∀ b,blk v=some b->A0.get b=none) (t:∀ b,some b ∈ bs->A0.get b=none):∀ b,some b ∈ blk v :: bs->A0.get b=none:=fun b q=>by
  rcases List.mem_cons.1 q with q | q
  · exact h b q.symm
  · exact t b q
def bh (v u:Value):Prop:=∀ c,blk v=some c->blk u ≠ some c
theorem bh.symm (h:bh v u):bh u v:=fun c hu hv=>h c hv hu
theorem bh.nil:bh (.slice none 0 0) u:=fun c h=>by cases h
theorem Fresh.hide (h:Fresh A0 A v size xs) (hb:blk v ∈ bs):Fresh (A.hide bs) A v size xs:=⟨h.own,fun b q=>cn (by rw [<- q];exact hb)⟩
def Dy (u:Value) (bs:List (Option Nat)):Prop:=∀ c,blk u=some c->some c ∉ bs
theorem fW:Dy u []:=fun _ _=>ka
theorem gJ (h:blk u ≠ some b) (t:Dy u bs):Dy u (some b :: bs):=fun c hc=>lQ (fun q=>h (q ▸ hc)) (t c hc)
theorem iq (h:bh v u) (t:Dy u bs):Dy u (blk v :: bs):=fun c hc=>ng (fun q=>h c q hc) (t c hc)
theorem nP.blkget (h:nP A v size xs) (hb:blk v=some b):∃ o,A.get b=some o:=by
  rcases h with ⟨rfl,_⟩ | ⟨b',n,k,r,rcap,rfl,h2,_⟩
  · cases hb
  · cases hb;exact ⟨_,h2⟩
theorem nP.off (h:nP A u size xs) (o:Dy u bs) (le:(A.hide bs).le B):nP B u size xs:=by
  rcases h with h | ⟨b',n,k,r,rcap,rfl,h2,h3⟩
  · exact .inl h
  · exact .inr ⟨b',n,k,r,rcap,Z,le.get _ _ (bF h2 (o b' Z)),h3⟩
theorem Fresh.off (h:Fresh A0 A u size xs) (o:Dy u bs) (le:(A.hide bs).le B):Fresh A0 B u size xs:=⟨h.own.off o le,h.lo⟩
theorem Fresh.sep {s2:Nat} (h:Fresh (A.hide bs) B v size xs) (hu:nP A u s2 ys) (o:Dy u bs):bh v u:=fun c hv hc=>by
  obtain ⟨x,hx⟩:=hu.blkget hc
  have:=h.lo c hv
  rw [bF hx (o c hc)] at this;cases this
theorem nP.appd {s2:Nat} {v':Value} {zs:List Value} (h:nP A u size xs) (ap:lu A v s2 zs v' A1) (hs:bh v u):nP A1 u size xs:=by
  rcases h with h | ⟨b',n,k,r,rcap,rfl,h2,h3⟩
  · exact .inl h
  · exact .inr ⟨b',n,k,r,rcap,Z,ap.get _ _ h2 (fun q=>hs b' q Z),h3⟩
theorem Fresh.appd {s2:Nat} {v':Value} {zs:List Value} (h:Fresh A0 A u size xs) (ap:lu A v s2 zs v' A1) (hs:bh v u):Fresh A0 A1 u size xs:=⟨h.own.appd ap hs,h.lo⟩
theorem bh.appd {s2:Nat} {v':Value} {zs:List Value} (h:bh v u) (hu:nP A u size xs) (wf:A.wf) (ap:lu A v s2 zs v' A1):bh v' u:=fun c hc hq=>by
  rcases ap.blk c hc with q | q
  · exact h c q hq
  · obtain ⟨o,ho⟩:=hu.blkget hq
    have:=wf _ _ ho;omega
theorem bh.of_new (h:nP A u size xs) (wf:A.wf) (hb:A.n<=b) {n c:Nat}:bh (.slice (some ⟨b,0,none⟩) n c) u:=fun k hk hq=>by
  cases hk
  obtain ⟨o,ho⟩:=h.blkget hq
  have:b < A.n:=wf _ _ ho
  omega
theorem Fresh.seph (h:Fresh A0 A v size xs) (g:A0.get b=some o):blk v ≠ some b:=fun q=>by rw [h.lo b q] at g;cases g
theorem Fresh.setc {A0 A A1:AH} {b n c i size:Nat} {xs:List Value} {r:List Value} {rcap:Nat} {w:Value} (h:Fresh A0 A (.slice (some ⟨b,0,none⟩) n c) size xs) (g:A.get b=some (.row true r rcap)) (sb:sE A A1 b (.row true (r.set i w) rcap)) :
    Fresh A0 A1 (.slice (some ⟨b,0,none⟩) n c) size (xs.set i w):=by
  refine ⟨?_,h.lo⟩
  rcases h.own with ⟨q,_⟩ | ⟨b',n',k,r',rcap',h1,h2,h3,h4,h5,h6⟩
  · cases q
  · cases h1
    rw [g] at h2;cases h2
    refine .inr ⟨b,n,c,r.set i w,rcap,Z,sb.get,by simpa using h3,?_,h5,h6⟩
    rw [List.take_set,h4]
theorem fa {i:Nat} {K:Fr->AH->Prop} {Q:Exit->Fr->AH->Prop} {f:Fr} {A:AH} (h:Q (.exit i) f A):pG K Q (.exit i) f A:=h
theorem ep {i:Nat} {Q:Exit->Fr->AH->Prop} {f:Fr} {A:AH} (h:Q .normal f A):lA i Q (.exit i) f A:=by show (if i=i then _ else _);rw [if_pos Z];exact h
theorem dX {i j:Nat} {Q:Exit->Fr->AH->Prop} {f:Fr} {A:AH} (hne:j ≠ i) (h:Q (.exit j) f A):lA i Q (.exit j) f A:=by show (if j=i then _ else _);rw [if_neg hne];exact h
theorem dY {i:Nat} {Q:Exit->Fr->AH->Prop} {f:Fr} {A:AH} (h:Q (.exit i) f A):xD Q (.exit i) f A:=h
theorem dt {Q:Exit->Fr->AH->Prop} {f:Fr} {A:AH} (h:Q .normal f A):xD Q .normal f A:=h
theorem lu.cell {A A1:AH} {s v u:Value} {size:Nat} {xs:List Value} {b off:Nat} (ap:lu A s size xs v A1) (ne:V.blk s ≠ some b) (h:A.cell ⟨b,off,none⟩=some u):A1.cell ⟨b,off,none⟩=some u:=by
  unfold AH.cell at h ⊢
  simp only [Option.isSome_none] at h ⊢
  cases hg:A.get b with
  | none=>rw [hg] at h;cases h
  | some o=>rw [hg] at h;rw [ap.get _ _ hg ne];exact h
def TN:Value->Nat->Nat->Value
  | .slice p n c,size,j=>.slice (if c=j then p else p.map (·.add (j * size))) (n - j) (c - j)
  | v,_,_=>v
theorem bJ.lo {A:AH} {size j:Nat} {v:Value} {xs:List Value} (s:bJ A size v xs) (h0:0 < size) (hj:j * size<=xs.length):bJ A size (TN v size j) (xs.drop (j * size)):=by
  obtain ⟨p,n,c,rfl,h2,h3,h4⟩:=s
  have hjn:j<=n:=by rw [h2] at hj;exact Nat.le_of_mul_le_mul_right hj h0
  refine ⟨_,n - j,c - j,Z,by rw [List.length_drop,h2,Nat.sub_mul],by omega,?_⟩
  rcases h4 with h4 | ⟨b,off,rw,r,rcap,rfl,g2,g3⟩
  · left;omega
  · by_cases q:n=j
    · left;omega
    · right
      refine ⟨b,off + j * size,rw,r,rcap,?_,g2,?_⟩
      · rw [if_neg O]
        simp only [Option.map_some]
        rw [my _ _ Z]
      · rw [<- g3,List.drop_take,List.drop_drop,Nat.sub_mul]
theorem KR {P:Program} {e:gv} {A:AH} {x lo:Operand} {t el:TypeId} {size j:Nat} {v:Value} {xs:List Value} (hu:P.underlying t=some (.slice el)) (hs:du P el=some size) (h:bZ e x=some v) (s:bJ A size v xs) (hlo:bZ e lo=some (num (j:Nat))) (h0:0 < size) (hj:j * size<=xs.length) :
    aQ P e A (.slice t x (some lo) none none)=some (TN v size j,[]):=by
  obtain ⟨p,n,c,rfl,h2,h3,h4⟩:=s
  have hjn:j<=n:=by rw [h2] at hj;exact Nat.le_of_mul_le_mul_right hj h0
  simp [aQ,cE,h,r8,hu,hs,fc,hlo,TN]
  omega
theorem tH (a:List UInt8) (n:Nat):(aw a).drop n=aw (a.drop n):=by simp [aw,List.map_drop]
end
end V
end Go.Proofs.YtjppkekmddjcfaaGreatDoor

namespace Go.Proofs.YtjppkekmddjcfaaGreatDoor
open Go V

def UA:List UInt8->List UInt8->Nat
  | a :: x,b :: y=>if a=b then UA x y + 1 else 0
  | _,_=>0
def lf (p:Nat->Bool) (b:Nat):Nat:=((List.range b).find? fun n=>!p n).getD b
def c5:List UInt8:=[97,65,98,66,99,67,100,68,101,69,102,70,103,71,104,72]
def ix (c:UInt8):Int:=match c5.findIdx? (· == c) with | some i=>i | none=>-1
theorem JS {c:UInt8} {k:Nat} (hk:k < 16) (h:∀ j,j < k->c5.getD j 0 ≠ c) (e:c5.getD k 0=c):ix c=k:=by
  have:c5.findIdx? (· == c)=some k:=by
    rw [List.findIdx?_eq_some_iff_getElem]
    refine ⟨hk,?_,fun j hj=>?_⟩
    · have:=e;simp [List.getD_eq_getElem?_getD,hk,c5] at this ⊢;exact this
    · have:=h j hj
      have hj':j < c5.length:=Nat.lt_trans hj hk
      rw [List.getD_eq_getElem?_getD,List.getElem?_eq_getElem hj',Option.getD_some] at this
      simpa using this
  simp [ix,this]
theorem Oe {c:UInt8} (h:∀ j,j < 16->c5.getD j 0 ≠ c):ix c = -1:=by
  have:c5.findIdx? (· == c)=none:=by
    rw [List.findIdx?_eq_none_iff]
    intro x hx
    obtain ⟨j,hj,rfl⟩:=List.getElem_of_mem hx
    have:=h j hj
    rw [List.getD_eq_getElem?_getD,List.getElem?_eq_getElem hj,Option.getD_some] at this
    simpa using this
  simp [ix,this]
theorem rx {p:UInt8->Prop} (h:∀ n:Fin 256,p (UInt8.ofNat n.1)) (c:UInt8):p c:=by
  have:=h ⟨c.toNat,c.toNat_lt⟩
  simpa using this
theorem TM (a b:Int):decide (b<=a) = !decide (a < b):=by rw [<- decide_not];simp
theorem BH (r:Nat) (h:r<=127):decide (127 < r)=false:=by simp;omega
theorem Tx {c:UInt8} (h:¬ c < 128):128<=c.toNat:=by rw [UInt8.lt_iff_toNat_lt] at h;simpa using h
theorem JR:∀ c:UInt8,0<=ix c->c.toNat<=127:=rx (by decide +kernel)
theorem FP (c:UInt8):c ^^^ 32 ^^^ 32=c:=by rw [UInt8.xor_assoc];simp
def qe (k:Int) (c:UInt8):Bool:=decide (0<=ix c) && decide (ix c < 2 * k)
def inv (w:List UInt8):List UInt8:=(w.map (· ^^^ 32)).reverse
def push (s:List UInt8) (c:UInt8):List UInt8:=if 0 < s.length/\s.getD (s.length - 1) 0=c ^^^ 32 then s.take (s.length - 1) else s ++ [c]
def th (w:List UInt8):List UInt8:=w.foldl push []
def co (k:Int) (w:List UInt8):Nat:=if k < 1\/8 < k then 1 else if 100000 < w.length then 2 else if w.all (qe k) then 0 else 4
def vn (w:List UInt8):Bool:=decide (w.length<=100000) && w.all (qe 8)
theorem P3 (w:List UInt8):co 8 w=0 ↔ vn w=true:=by
  simp only [co,vn,Bool.and_eq_true,decide_eq_true_eq]
  rw [if_neg O]
  split
  · simp;omega
  · split <;> rename_i h <;> simp [h] <;> omega
theorem zC (s:List UInt8) (c:UInt8):(push s c).length<=s.length + 1:=by
  unfold push;split <;> simp <;> omega
theorem fU:∀ (w s:List UInt8),(w.foldl push s).length<=s.length + w.length
  | [],s=>by simp
  | c :: w,s=>by
    have:=fU w (push s c);have:=zC s c
    simp only [List.foldl_cons,List.length_cons];omega
theorem CG (w:List UInt8):(th w).length<=w.length:=by have:=fU w [];simpa [th] using this
theorem iZ (w:List UInt8):(inv w).length=w.length:=by simp [inv]
theorem ma {w:List UInt8} {i:Nat} (h:i < w.length):w.drop i=w.getD i 0 :: w.drop (i + 1):=by
  rw [List.drop_eq_getElem_cons h];simp [h]
theorem tR {l:List (List UInt8)} {i:Nat} (h:i < l.length):l.drop i=l.getD i [] :: l.drop (i + 1):=by
  rw [List.drop_eq_getElem_cons h];simp [h]
def QO (r:List UInt8):Nat:=lf (fun n=>decide (2 * n + 2<=r.length/\r.getD n 0=r.getD (r.length - 1 - n) 0 ^^^ 32)) r.length
def TL (w:List UInt8):List UInt8:=((th w).take ((th w).length - QO (th w))).drop (QO (th w))
def conj (w:List UInt8):List UInt8:=(th w).take (QO (th w))
def nx:List UInt8->List UInt8->Int
  | a :: x,b :: y=>if ix a < ix b then -1 else if ix b < ix a then 1 else nx x y
  | _,_=>0
def nZ (u v:List UInt8):Int:=if u.length ≠ v.length then (if u.length < v.length then -1 else 1) else nx u v
def gO (w:List UInt8):List UInt8:=if vn w then inv w else []
def dy (w:List UInt8):List UInt8:=if vn w then th w else []
def Qz (w:List UInt8):List UInt8:=if vn w then TL w else []
def fx (u v:List UInt8):Int:=if vn u/\vn v then nZ u v else 0
def MO (q:Nat->Bool) (s:List UInt8):Int:=match s.findIdx? (fun c=>q c.toNat) with | some i=>i | none=>-1
theorem vP {q:Nat->Bool} {s:List UInt8} {k:Nat} (hk:k < s.length) (h:∀ j,j < k->q (s.getD j 0).toNat=false) (e:q (s.getD k 0).toNat=true):MO q s=k:=by
  have:s.findIdx? (fun c=>q c.toNat)=some k:=by
    rw [List.findIdx?_eq_some_iff_getElem]
    refine ⟨hk,by simpa [hk] using e,fun j hj=>?_⟩
    have:=h j hj
    have hj':j < s.length:=Nat.lt_trans hj hk
    simpa [hj'] using this
  simp [MO,this]
theorem JL {q:Nat->Bool} {s:List UInt8} (h:∀ j,j < s.length->q (s.getD j 0).toNat=false):MO q s = -1:=by
  have:s.findIdx? (fun c=>q c.toNat)=none:=by
    rw [List.findIdx?_eq_none_iff]
    intro x hx
    obtain ⟨j,hj,rfl⟩:=List.getElem_of_mem hx
    have:=h j hj
    simpa [hj] using this
  simp [MO,this]
theorem N5 (q:Nat->Bool) (s:List UInt8):decide (0<=MO q s)=s.any (fun c=>q c.toNat):=by
  unfold MO
  cases h:s.findIdx? (fun c=>q c.toNat) with
  | none =>
    rw [List.findIdx?_eq_none_iff] at h
    rw [List.any_eq_false.2 (by simpa using h)];rfl
  | some i =>
    rw [List.findIdx?_eq_some_iff_getElem] at h
    obtain ⟨hi,e,_⟩:=h
    rw [List.any_eq_true.2 ⟨_,List.getElem_mem hi,e⟩];simp
theorem se (k:Int) (w:List UInt8):0<=MO (fun r=>decide (127 < r) || !qe k (UInt8.ofNat r)) w ↔ w.all (qe k)=false:=by
  have h:=N5 (fun r=>decide (127 < r) || !qe k (UInt8.ofNat r)) w
  have e:(w.any fun c=>decide (127 < c.toNat) || !qe k (UInt8.ofNat c.toNat)) = !w.all (qe k):=by
    rw [List.not_all_eq_any_not]
    congr 1
    funext c
    rw [UInt8.ofNat_toNat]
    by_cases q:qe k c=true
    · have:0<=ix c:=by simp [qe] at q;exact q.1
      have:=JR c this
      simp [q];omega
    · simp [q]
  rw [e] at h
  constructor
  · intro q;rw [decide_eq_true q] at h;simpa using h
  · intro q;rw [q] at h;simpa using h
theorem Mz (w:List UInt8):decide (co 8 w=0)=vn w:=by
  rw [Bool.eq_iff_iff,decide_eq_true_iff];exact P3 w
theorem Ef {w o R:List UInt8} {i:Nat} (hi:i < w.length) (h:(w.drop i).foldl push o=R) (hc:0 < o.length/\o.getD (o.length - 1) 0=w.getD i 0 ^^^ 32):(w.drop (i + 1)).foldl push (o.take (o.length - 1))=R:=by
  rw [ma hi,List.foldl_cons,push,if_pos hc] at h;exact h
theorem Eh {w o R:List UInt8} {i:Nat} (hi:i < w.length) (h:(w.drop i).foldl push o=R) (hc:¬ (0 < o.length/\o.getD (o.length - 1) 0=w.getD i 0 ^^^ 32)):(w.drop (i + 1)).foldl push (o ++ [w.getD i 0])=R:=by
  rw [ma hi,List.foldl_cons,push,if_neg hc] at h;exact h
theorem tU {w:List UInt8} {i:Nat} (h:w.length<=i):w.drop i=[]:=List.drop_eq_nil_of_le h
theorem rz {α:Type} {w:List α} {i:Nat} (h:w.length<=i):w.drop i=[]:=List.drop_eq_nil_of_le h
theorem rX {l:List (List UInt8)} {k:Nat} {o o2 R:List UInt8} (hk:k < l.length) (h:(l.drop k).flatten.foldl push o=R) (h2:(l.getD k []).foldl push o=o2):(l.drop (k + 1)).flatten.foldl push o2=R:=by
  rw [tR hk,List.flatten_cons,List.foldl_append,h2] at h;exact h
theorem FK {l:List (List UInt8)} {k:Nat} (hk:k < l.length):(l.drop k).flatten.length=(l.getD k []).length + (l.drop (k + 1)).flatten.length:=by
  rw [tR hk,List.flatten_cons,List.length_append]
def jE (w:List UInt8) (k:Nat):List UInt8:=List.replicate (w.length - k) 0 ++ ((w.take k).map (· ^^^ 32)).reverse
theorem sw (w:List UInt8):List.replicate w.length 0=jE w 0:=by simp [jE]
theorem uF (w:List UInt8) {k:Nat} (h:w.length<=k):jE w k=inv w:=by
  simp [jE,inv,List.take_of_length_le h,Nat.sub_eq_zero_of_le h]
theorem pC (w:List UInt8) {k:Nat} (h:k<=w.length):(jE w k).length=w.length:=by simp [jE];omega
theorem uG (w:List UInt8) {k:Nat} (h:k < w.length):(jE w k).set (w.length - 1 - k) (w.getD k 0 ^^^ 32)=jE w (k + 1):=by
  have e:List.replicate (w.length - k) (0:UInt8)=List.replicate (w.length - 1 - k) 0 ++ [0]:=by
    rw [show w.length - k=(w.length - 1 - k) + 1 by omega,List.replicate_succ']
  have t:w.take (k + 1)=w.take k ++ [w.getD k 0]:=by
    rw [List.take_add_one,List.getElem?_eq_getElem h];simp [h]
  unfold jE
  rw [e,List.append_assoc,t,List.map_append,List.reverse_append,show w.length - (k + 1)=w.length - 1 - k by omega]
  rw [List.set_append_right (w.length - 1 - k) _ (by simp)]
  simp
theorem ry {u v:List UInt8} {k:Nat} (hu:k < u.length) (hv:k < v.length):nx (u.drop k) (v.drop k)=if ix (u.getD k 0) < ix (v.getD k 0) then -1 else if ix (v.getD k 0) < ix (u.getD k 0) then 1 else nx (u.drop (k + 1)) (v.drop (k + 1)):=by
  rw [ma hu,ma hv,nx]
theorem Jk {u v:List UInt8} {k:Nat} (hu:u.length<=k):nx (u.drop k) (v.drop k)=0:=by
  rw [tU hu];rfl
theorem Nx {u v:List UInt8} (h:¬ ¬ u.length=v.length):nZ u v=nx u v:=by unfold nZ;rw [if_neg h]
def za {α:Type} (q:α->Bool) (l:List α):Int:=match l.findIdx? q with | some i=>i | none=>-1
theorem vQ {α:Type} {q:α->Bool} {l:List α} {k:Nat} {d:α} (hk:k < l.length) (h:∀ j,j < k->q (l.getD j d)=false) (e:q (l.getD k d)=true):za q l=k:=by
  have:l.findIdx? q=some k:=by
    rw [List.findIdx?_eq_some_iff_getElem]
    refine ⟨hk,by simpa [hk] using e,fun j hj=>?_⟩
    have:=h j hj
    have hj':j < l.length:=Nat.lt_trans hj hk
    simpa [hj'] using this
  simp [za,this]
theorem zb {α:Type} {q:α->Bool} {l:List α} {d:α} (h:∀ j,j < l.length->q (l.getD j d)=false):za q l = -1:=by
  have:l.findIdx? q=none:=by
    rw [List.findIdx?_eq_none_iff]
    intro x hx
    obtain ⟨j,hj,rfl⟩:=List.getElem_of_mem hx
    have:=h j hj
    simpa [hj] using this
  simp [za,this]
theorem ta {α:Type} (q:α->Bool) (l:List α):0<=za q l ↔ l.any q=true:=by
  unfold za
  cases h:l.findIdx? q with
  | none =>
    rw [List.findIdx?_eq_none_iff] at h
    rw [List.any_eq_false.2 (by simpa using h)];simp
  | some i =>
    rw [List.findIdx?_eq_some_iff_getElem] at h
    obtain ⟨hi,e,_⟩:=h
    rw [List.any_eq_true.2 ⟨_,List.getElem_mem hi,e⟩];simp
theorem bx {α:Type} {l:List α} {k:Nat} {d:α} (h:k < l.length):l.getD k d ∈ l:=by simp [h]
def gW (g:Int) (r:List UInt8):Bool:=decide (r=[]) || !decide (co g r=0) || !decide (th r=r)
def d9 (g:Int) (l:List (List UInt8)):Nat :=
  if g < 1\/8 < g then 1 else if 60 < l.length\/l.any (fun r=>decide (200 < r.length))=true then 2 else if l.any (gW g)=true then 4 else 0
def SJ (w:List UInt8):Prop:=∀ c ∈ w,0<=ix c
theorem jr {a:Int} (h:0<=a):some (num a)=some (num ((a.toNat:Nat):Int)):=by rw [Int.toNat_of_nonneg h]
def eF (A:AH):Prop:=∃ rw cap,A.get 0=some (.row rw (aw c5) cap)
theorem eF.le {A B:AH} (h:eF A) (le:A.le B):eF B:=by obtain ⟨r,c,h⟩:=h;exact ⟨r,c,le.get _ _ h⟩
end Go.Proofs.YtjppkekmddjcfaaGreatDoor

namespace Go.Proofs.YtjppkekmddjcfaaGreatDoor
open Go V

theorem Ot {l:List (List UInt8)} {i n:Nat} (hi:l.length<=i) (h:∀ j,j < i->(l.getD j []).length<=n):∀ s ∈ l,s.length<=n:=fun s hs=>by
  obtain ⟨j,hj,rfl⟩:=List.getElem_of_mem hs
  have:=h j O
  simpa [hj] using this
theorem Je {l:List (List UInt8)} (h:∀ s ∈ l,s.length<=200):¬ l.any (fun r=>decide (200 < r.length))=true:=fun q=>by
  obtain ⟨s,hs,e⟩:=List.any_eq_true.1 q
  have:=h s hs;have:=of_decide_eq_true e;omega
theorem zy {g:Int} {l:List (List UInt8)} {i:Nat} (h:¬ (g < 1\/8 < g)) (h2:¬ 60 < l.length) (h3:∀ s ∈ l,s.length<=200) (hi:l.length<=i) (hb:∀ j,j < i->gW g (l.getD j [])=false):d9 g l=0:=by
  rw [d9,if_neg h,if_neg (fun q=>q.elim h2 (Je h3)),if_neg]
  intro q
  obtain ⟨s,hs,e⟩:=List.any_eq_true.1 q
  obtain ⟨j,hj,rfl⟩:=List.getElem_of_mem hs
  have:=hb j O
  simp [hj,e] at this
theorem JQ {g:Int} {r:List UInt8} (hg:g<=8) (h:co g r=0):vn r=true:=by
  unfold co at h
  split at h
  · cases h
  · split at h
    · cases h
    · split at h
      · rename_i h1 h2 h3
        simp only [vn,Bool.and_eq_true,decide_eq_true_eq,List.all_eq_true] at h3 ⊢
        refine ⟨by omega,fun c hc=>?_⟩
        have:=h3 c hc
        simp only [qe,Bool.and_eq_true,decide_eq_true_eq] at this ⊢
        omega
      · cases h
theorem vc {w:List UInt8} (h:vn w=true):dy w=th w:=by rw [dy,if_pos h]

theorem d5 {g:Int} {l:List (List UInt8)} (h:d9 g l=0):(1<=g/\g<=8)/\l.length<=60/\∀ r ∈ l,r.length<=200/\gW g r=false:=by
  unfold d9 at h
  split at h
  · cases h
  · split at h
    · cases h
    · split at h
      · cases h
      · rename_i h1 h2 h3
        refine ⟨by omega,by omega,fun r hr=>⟨?_,?_⟩⟩
        · have:¬ l.any (fun r=>decide (200 < r.length))=true:=fun q=>h2 (.inr q)
          rw [Bool.not_eq_true,List.any_eq_false] at this
          have:=this r hr
          simpa using this
        · rw [Bool.not_eq_true,List.any_eq_false] at h3
          have:=h3 r hr
          simpa using this
theorem sc {g:Int} {r:List UInt8} (h:gW g r=false):r ≠ []/\co g r=0/\th r=r:=by
  simpa [gW,and_assoc] using h
theorem tE {g:Int} {r:List UInt8} (h:¬ co g r=0):gW g r=true:=by simp [gW,h]
theorem Fg {g:Int} {r:List UInt8} (h1:¬ r=[]) (h2:¬ ¬ co g r=0) (hg:g<=8) (h3:¬ ¬ dy r=r):gW g r=false:=by
  rw [vc (JQ hg (Decidable.not_not.1 h2))] at h3
  simp only [gW,decide_eq_false h1,decide_eq_true (Decidable.not_not.1 h2),decide_eq_true (Decidable.not_not.1 h3)];rfl
def M0 (w:List UInt8) (s:List (List UInt8) × Bool) (x:List UInt8):List (List UInt8) × Bool :=
  let c:=fx x w
  let d:=s.2 || decide (c=0)
  if 0 < c/\d=false then (s.1 ++ [w] ++ [x],true) else (s.1 ++ [x],d)
def So (l:List (List UInt8)) (w:List UInt8):List (List UInt8) :=
  let s:=l.foldl (M0 w) ([],false)
  if s.2 then s.1 else s.1 ++ [w]
theorem FX {α β:Type} {f:β->α->β} {l:List α} {i:Nat} {d:α} {s s' R:β} (hi:i < l.length) (h:(l.drop i).foldl f s=R) (e:f s (l.getD i d)=s'):(l.drop (i + 1)).foldl f s'=R:=by
  rw [List.drop_eq_getElem_cons hi,List.foldl_cons] at h
  have:l.getD i d=l[i]:=by simp [hi]
  rw [<- e,this];exact h
def Uw (w:List UInt8) (j:Nat):List UInt8:=w.drop j ++ w.take j
def RX (c:List UInt8) (a:List (List UInt8)) (j:Nat):List (List UInt8):=So (So a (Uw c j)) (Uw (gO c) j)
def Mi (a:List (List UInt8)) (r:List UInt8):List (List UInt8):=(List.range (Qz r).length).foldl (RX (Qz r)) a
def symm (l:List (List UInt8)):List (List UInt8):=l.foldl Mi []
theorem sM (w:List UInt8):(gO w).length<=w.length:=by
  unfold gO;split
  · rw [iZ];exact Nat.le_refl _
  · simp
theorem vb (w:List UInt8):(dy w).length<=w.length:=by
  unfold dy;split
  · exact CG w
  · simp
theorem oU {g:Int} {w:List UInt8} (hg:1<=g/\g<=8):co g w=0 ↔ w.length<=100000/\∀ c ∈ w,qe g c=true:=by
  unfold co
  rw [if_neg O]
  split
  · constructor
    · intro q;cases q
    · intro q;omega
  · split <;> rename_i h
    · simp only [List.all_eq_true] at h
      exact ⟨fun _=>⟨by omega,h⟩,fun _=>rfl⟩
    · constructor
      · intro q;cases q
      · intro q;exact absurd (List.all_eq_true.2 q.2) h
end Go.Proofs.YtjppkekmddjcfaaGreatDoor

namespace Go.Proofs.YtjppkekmddjcfaaGreatDoor
open Go V

structure bX where
  conj:List UInt8
  rel:Int
  inv:Bool
def bX.zero:bX:=⟨[],0,false⟩
def n0 (c:bX):List Value:=[aX c.conj,num c.rel,.bool c.inv]
def cN (l:List bX):List Value:=l.flatMap n0
theorem ce (l:List bX):(cN l).length=l.length * 3:=by
  induction l with
  | nil=>rfl
  | cons c l ih=>simp only [cN,List.flatMap_cons,List.length_append,List.length_cons] at ih ⊢;rw [ih];simp [n0];omega
theorem ee (l:List bX):(cN l).length=l.length * 3:=ce l
theorem jL (a b:List bX):cN a ++ cN b=cN (a ++ b):=by simp [cN]
theorem pM (l:List bX):nF (cN l)=true:=by
  simp only [nF,cN,List.all_eq_true,List.mem_flatMap]
  rintro v ⟨c,_,h⟩
  simp only [n0,List.mem_cons,List.not_mem_nil,or_false] at h
  rcases h with rfl | rfl | rfl <;> rfl
theorem yL (l:List bX) (i:Nat):(cN l).drop (i * 3)=cN (l.drop i):=by
  induction l generalizing i with
  | nil=>simp [cN]
  | cons c l ih =>
    cases i with
    | zero=>simp
    | succ i =>
      have:(i + 1) * 3=(n0 c).length + i * 3:=by simp [n0];omega
      show (n0 c ++ cN l).drop ((i + 1) * 3)=_
      rw [this,<- List.drop_drop,List.drop_left]
      exact ih i
theorem i8 {l:List bX} {i:Nat} (h:i < l.length):((cN l).drop (i * 3)).take 3=n0 (l.getD i .zero):=by
  rw [yL,List.drop_eq_getElem_cons h]
  have e:l.getD i .zero=l[i]:=by simp [h]
  rw [e]
  show (n0 l[i] ++ cN (l.drop (i + 1))).take 3=_
  exact List.take_left' Z
def NH (l:List (List UInt8)) (c:bX):List UInt8:=if c.inv then inv (l.getD c.rel.toNat []) else l.getD c.rel.toNat []
def yK (l:List (List UInt8)) (c:bX):List UInt8:=c.conj ++ NH l c ++ inv c.conj
def mA (l:List (List UInt8)) (o:List UInt8) (c:bX):List UInt8:=(yK l c).foldl push o
def QF (l:List (List UInt8)) (d:List bX):List UInt8:=d.foldl (mA l) []
def i0 (g:Int) (l:List (List UInt8)) (c:bX):Bool:=decide (0<=c.rel) && decide (c.rel < l.length) && decide (co g c.conj=0)
def ew (d:List bX):Nat:=(d.map fun c=>c.conj.length).sum
def ib (g:Int) (l:List (List UInt8)) (d:List bX):Bool:=d.all (i0 g l) && decide (d.length<=100000) && decide (ew d<=1000000)
def AL (g:Int) (l:List (List UInt8)) (ws:List (List UInt8)) (ds:List (List bX)):Nat :=
  if ¬ d9 g l=0 then 40 else if ws.all (fun w=>decide (co g w=0))=false then 41 else if ds.all (ib g l)=false then 42 else 0
def lH (g:Int) (l:List (List UInt8)) (d:List bX) (w:List UInt8):Nat :=
  if ¬ AL g l [w] [d]=0 then AL g l [w] [d] else if ¬ QF l d=th w then 5 else 0
theorem pk {g:Int} {l:List (List UInt8)} {i:Nat} (hi:i < l.length) (h:200 < (l.getD i []).length\/gW g (l.getD i [])=true):¬ d9 g l=0:=fun q=>by
  have:=(d5 q).2.2 _ (bx (d:=[]) hi)
  rcases h with h | h
  · omega
  · rw [h] at this;cases this.2
theorem uw {g:Int} {l:List (List UInt8)} {i:Nat} (hg:¬ (g < 1\/8 < g)) (hl:¬ 60 < l.length) (hi:l.length<=i) (h:∀ j,j < i->(l.getD j []).length<=200/\gW g (l.getD j [])=false):d9 g l=0 :=
  zy hg hl (Ot hi fun j hj=>(h j hj).1) hi fun j hj=>(h j hj).2
theorem tF {g:Int} {r:List UInt8} (h:¬ th r=r):gW g r=true:=by simp [gW,h]
theorem Ff {g:Int} {r:List UInt8} (h1:¬ r.length < 1) (h2:¬ ¬ co g r=0) (h3:¬ ¬ th r=r):gW g r=false:=by
  have:r ≠ []:=fun q=>by rw [q] at h1;exact h1 (by simp)
  simp only [gW,decide_eq_false this,decide_eq_true (Decidable.not_not.1 h2),decide_eq_true (Decidable.not_not.1 h3)];rfl
theorem pK {g:Int} {r:List UInt8} (h:r.length < 1):gW g r=true:=by
  have:r=[]:=List.length_eq_zero_iff.1 O
  simp [gW,this]
theorem uu {g:Int} {w:List UInt8} (h:¬ ¬ co g w=0):SJ w:=by
  have h:=Decidable.not_not.1 h
  unfold co at h
  split at h
  · cases h
  · split at h
    · cases h
    · split at h
      · rename_i q
        intro c hc
        have:=List.all_eq_true.1 q c hc
        simp only [qe,Bool.and_eq_true,decide_eq_true_eq] at this
        exact this.1
      · cases h
theorem kU {g:Int} {w:List UInt8} (h:co g w=0):w.length<=100000:=by
  unfold co at h
  split at h
  · cases h
  · split at h
    · cases h
    · omega
theorem Bx {d:List bX} {i:Nat} (h:i < d.length):ew (d.drop i)=(d.getD i .zero).conj.length + ew (d.drop (i + 1)):=by
  have e:d.getD i .zero=d[i]:=by simp [h]
  rw [List.drop_eq_getElem_cons h,e,ew,List.map_cons,List.sum_cons];rfl
theorem pO {g:Int} {l:List (List UInt8)} {d:List bX} {i:Nat} (hi:i < d.length) (h:i0 g l (d.getD i .zero)=false):ib g l d=false:=by
  have:d.all (i0 g l)=false:=List.all_eq_false.2 ⟨_,bx (d:=.zero) hi,by rw [h];decide⟩
  simp [ib,this]
theorem Ga {g:Int} {l:List (List UInt8)} {d:List bX} {i n:Nat} (hi:d.length<=i) (h:∀ j,j < i->i0 g l (d.getD j .zero)=true) (hn:n + ew (d.drop i)=ew d):ib g l d=(decide (d.length<=100000) && decide (n<=1000000)):=by
  have:d.all (i0 g l)=true:=List.all_eq_true.2 fun c hc=>by
    obtain ⟨j,hj,rfl⟩:=List.getElem_of_mem hc
    have:=h j O
    simpa [hj] using this
  have e:ew d=n:=by rw [List.drop_eq_nil_of_le hi] at hn;simpa [ew] using hn.symm
  rw [ib,this,Bool.true_and,e]
theorem uq {g:Int} {l:List (List UInt8)} {c:bX} (h:c.rel < 0):i0 g l c=false:=by simp [i0,show ¬ 0<=c.rel by omega]
theorem ur {g:Int} {l:List (List UInt8)} {c:bX} (h:(l.length:Int)<=c.rel):i0 g l c=false:=by simp [i0,show ¬ c.rel < l.length by omega]
theorem ut {g:Int} {l:List (List UInt8)} {c:bX} (h:¬ co g c.conj=0):i0 g l c=false:=by simp [i0,h]
theorem GB {g:Int} {l:List (List UInt8)} {c:bX} (h1:¬ c.rel < 0) (h2:¬ (l.length:Int)<=c.rel) (h3:¬ ¬ co g c.conj=0):i0 g l c=true:=by
  simp [i0,Decidable.not_not.1 h3];omega
theorem zf {g:Int} {l:List (List UInt8)} {d:List bX} (h:ib g l d=true):∀ c ∈ d,(0<=c.rel/\c.rel < l.length)/\co g c.conj=0:=fun c hc=>by
  simp only [ib,Bool.and_eq_true,List.all_eq_true] at h
  have:=h.1.1 c hc
  simpa [i0] using this
theorem uk {g:Int} {l:List (List UInt8)} {d:List bX} (h:ib g l d=true):d.length<=100000/\ew d<=1000000:=by
  simp only [ib,Bool.and_eq_true,decide_eq_true_eq] at h
  exact ⟨h.1.2,h.2⟩
theorem yM {l:List bX} {i k:Nat} (h:i < l.length) (hk:k < 3):(cN l)[i * 3 + k]? = (n0 (l.getD i .zero))[k]?:=by
  rw [<- i8 h,List.getElem?_take_of_lt hk,List.getElem?_drop]
theorem FA {l:List bX} {i:Nat} (h:i < l.length):(cN l)[i * 3 + 0]? = some (aX (l.getD i .zero).conj):=yM h O
theorem Ry {g:Int} {l:List (List UInt8)} {r:Int} (hp:d9 g l=0) (h:0<=r/\r < l.length):SJ (l.getD r.toNat [])/\(l.getD r.toNat []).length<=200:=by
  have hm:l.getD r.toNat [] ∈ l:=bx O
  have:=(d5 hp).2.2 _ hm
  exact ⟨uu (fun q=>q (sc this.2).2.1),this.1⟩
theorem Nc {l:List (List UInt8)} {o:List UInt8} {c:bX} (hc:c.conj.length<=100000) (hr:(l.getD c.rel.toNat []).length<=200):(mA l o c).length<=o.length + 200200:=by
  have h1:=fU (yK l c) o
  have h2:(NH l c).length<=200:=by unfold NH;split <;> simp [iZ] <;> exact hr
  unfold mA
  simp only [yK,List.length_append,iZ] at h1 h2
  simp only [yK]
  omega
def Mr (l:List Value):List Value:=l
theorem Au (l:List Value):(Mr l).length=l.length:=rfl
theorem Mu (l:List Value):(Mr l).length=l.length * 1:=(Nat.mul_one _).symm
theorem Ms {l:List Value} {i:Nat} (h:i < l.length):(Mr l)[i]? = some (l.getD i undef):=by simp [Mr,h]
theorem OC {v:Value} {k:Nat} (h:k < 1):[v].getD k undef=v:=by rw [show k=0 by omega];rfl
theorem QI {g:Int} {l ws:List (List UInt8)} {ds:List (List bX)} (h:¬ d9 g l=0):AL g l ws ds=40:=by rw [AL,if_pos h]
theorem QJ {g:Int} {l ws:List (List UInt8)} {ds:List (List bX)} {i:Nat} (h:¬ ¬ d9 g l=0) (hi:i < ws.length) (hw:¬ co g (ws.getD i [])=0):AL g l ws ds=41:=by
  rw [AL,if_neg h,if_pos]
  exact List.all_eq_false.2 ⟨_,bx (d:=[]) hi,by rw [decide_eq_false hw];decide⟩
theorem Qm {g:Int} {ws:List (List UInt8)} {i:Nat} (hi:ws.length<=i) (h:∀ j,j < i->co g (ws.getD j [])=0):¬ ws.all (fun w=>decide (co g w=0))=false:=by
  rw [Bool.not_eq_false,List.all_eq_true]
  intro w hw
  obtain ⟨j,hj,rfl⟩:=List.getElem_of_mem hw
  have:=h j O
  simpa [hj] using this
theorem QK {g:Int} {l ws:List (List UInt8)} {d:List bX} {i:Nat} (h:¬ ¬ d9 g l=0) (hi:ws.length<=i) (hw:∀ j,j < i->co g (ws.getD j [])=0) (hd:ib g l d=false):AL g l ws [d]=42:=by
  rw [AL,if_neg h,if_neg (Qm hi hw),if_pos (by simp [hd])]
theorem SD {g:Int} {l ws:List (List UInt8)} {d:List bX} {i:Nat} (h:¬ ¬ d9 g l=0) (hi:ws.length<=i) (hw:∀ j,j < i->co g (ws.getD j [])=0) (hd:ib g l d=true):AL g l ws [d]=0:=by
  rw [AL,if_neg h,if_neg (Qm hi hw),if_neg (by simp [hd])]
theorem qm {g:Int} {l ws:List (List UInt8)} {d:List bX} (h:¬ ¬ AL g l ws [d]=0):d9 g l=0/\(∀ w ∈ ws,co g w=0)/\ib g l d=true:=by
  have h:=Decidable.not_not.1 h
  unfold AL at h
  split at h
  · cases h
  · rename_i h1
    split at h
    · cases h
    · rename_i h2
      split at h
      · cases h
      · rename_i h3
        refine ⟨Decidable.not_not.1 h1,?_,by simpa using h3⟩
        rw [Bool.not_eq_false,List.all_eq_true] at h2
        intro w hw;simpa using h2 w hw
end Go.Proofs.YtjppkekmddjcfaaGreatDoor

namespace Go.Proofs.YtjppkekmddjcfaaGreatDoor
open Go Go.RowKit V
theorem FF:∀ c:UInt8,97<=c->c < 105->((2 * (c - 97).toNat:Nat):Int)=ix c:=rx (by decide +kernel)
theorem DQ:∀ c:UInt8,65<=c->c < 73->((2 * (c - 65).toNat + 1:Nat):Int)=ix c:=rx (by decide +kernel)
theorem xc:∀ c:UInt8,¬ (97<=c/\c < 105)->¬ (65<=c/\c < 73)->ix c = -1:=rx (by decide +kernel)
section
variable {g:Int} {w:List UInt8} {i:Nat} {c:UInt8}
theorem Rm (h1:¬ ix c < 0) (h2:¬ 2 * g<=ix c):qe g c=true:=by
  simp only [qe,Bool.and_eq_true,decide_eq_true_eq];omega
theorem NS (hg:1<=g/\g<=8) (h:100000 < w.length):decide (co g w=0)=false:=by
  rw [decide_eq_false_iff_not,oU hg];intro q;omega
theorem DP (hg:1<=g/\g<=8) (hi:i < w.length) (h:qe g (w.getD i 0)=false):decide (co g w=0)=false:=by
  rw [decide_eq_false_iff_not,oU hg]
  intro q
  have:=q.2 _ (bx (d:=0) hi)
  rw [h] at this;cases this
theorem Jr (hg:1<=g/\g<=8) (hi:i < w.length) (h:ix (w.getD i 0) < 0):decide (co g w=0)=false :=
  DP hg hi (by simp only [qe,Bool.and_eq_false_iff,decide_eq_false_iff_not];omega)
theorem Js (hg:1<=g/\g<=8) (hi:i < w.length) (h:2 * g<=ix (w.getD i 0)):decide (co g w=0)=false :=
  DP hg hi (by simp only [qe,Bool.and_eq_false_iff,decide_eq_false_iff_not];omega)
theorem Jt (hg:1<=g/\g<=8) (hl:w.length<=100000) (hi:w.length<=i) (h:∀ j,j < i->qe g (w.getD j 0)=true):decide (co g w=0)=true:=by
  rw [decide_eq_true_iff,oU hg]
  refine ⟨hl,fun c hc=>?_⟩
  obtain ⟨j,hj,rfl⟩:=List.getElem_of_mem hc
  have:=h j O
  simpa [hj] using this
end
def Rj (a w:List UInt8) (i:Nat):Prop:=i + w.length<=a.length/\(a.take (i + w.length)).drop i=w
instance (a w:List UInt8) (i:Nat):Decidable (Rj a w i):=by unfold Rj;infer_instance
def MN (a w:List UInt8) (k:Nat):Int:=match (List.range (a.length + 1)).find? (fun i=>decide (k<=i/\Rj a w i)) with | some i=>(i:Int) | none=>-1
theorem La {w:List UInt8} {j:Nat} (hj:1<=j) (hw:j<=w.length):(w.drop j).reverse ++ [w.getD (j - 1) 0]=(w.drop (j - 1)).reverse:=by
  rw [ma (w:=w) (i:=j - 1) O,show j - 1 + 1=j by omega]
  simp
theorem JY {l m:List (List UInt8)} {i:Nat} (hl:l.length=m.length) (hi:l.length<=i) (h:∀ j,j < i->l.getD j []=m.getD j []):l=m:=by
  refine List.ext_getElem hl fun j h1 h2=>?_
  have:=h j O
  simpa [h1,h2] using this
end Go.Proofs.YtjppkekmddjcfaaGreatDoor

namespace Go.Proofs.YtjppkekmddjcfaaGreatDoor
open Go Go.RowKit V
structure au where
  left:List UInt8
  right:List UInt8
  pv:Value
  proof:List bX
def au.zero:au:=⟨[],[],.slice none 0 0,[]⟩
def ml (r:au):List Value:=[aX r.left,aX r.right,r.pv]
def ci (l:List au):List Value:=l.flatMap ml
def Proofs (A:AH) (l:List au):Prop:=∀ r ∈ l,bJ A 3 r.pv (cN r.proof)
theorem Proofs.le {A B:AH} {l:List au} (h:Proofs A l) (le:A.le B):Proofs B l:=fun r hr=>(h r hr).le le
theorem bK (l:List au):(ci l).length=l.length * 3:=by
  induction l with
  | nil=>rfl
  | cons c l ih=>simp only [ci,List.flatMap_cons,List.length_append,List.length_cons] at ih ⊢;rw [ih];simp [ml];omega
theorem dm (l:List au):(ci l).length=l.length * 3:=bK l
theorem ju (a b:List au):ci a ++ ci b=ci (a ++ b):=by simp [ci]
theorem CI (l:List au) (i:Nat):(ci l).drop (i * 3)=ci (l.drop i):=by
  induction l generalizing i with
  | nil=>simp [ci]
  | cons c l ih =>
    cases i with
    | zero=>simp
    | succ i =>
      have:(i + 1) * 3=(ml c).length + i * 3:=by simp [ml];omega
      show (ml c ++ ci l).drop ((i + 1) * 3)=_
      rw [this,<- List.drop_drop,List.drop_left]
      exact ih i
theorem fZ {l:List au} {i:Nat} (h:i < l.length):((ci l).drop (i * 3)).take 3=ml (l.getD i .zero):=by
  rw [CI,List.drop_eq_getElem_cons h]
  have e:l.getD i .zero=l[i]:=by simp [h]
  rw [e]
  show (ml l[i] ++ ci (l.drop (i + 1))).take 3=_
  exact List.take_left' Z
theorem pZ {l:List au} {i k:Nat} (h:i < l.length) (hk:k < 3):(ci l)[i * 3 + k]? = (ml (l.getD i .zero))[k]?:=by
  rw [<- fZ h,List.getElem?_take_of_lt hk,List.getElem?_drop]
theorem uL {l:List au} {i:Nat} (h:i < l.length):(ci l)[i * 3 + 0]? = some (aX (l.getD i .zero).left):=pZ h O
theorem zL {l:List au} {i:Nat} (h:i < l.length):(ci l)[i * 3 + 1]? = some (aX (l.getD i .zero).right):=pZ h O
theorem zM {l:List au} {i:Nat} (h:i < l.length):(ci l)[i * 3 + 2]? = some (l.getD i .zero).pv:=pZ h O
theorem Proofs.get {A:AH} {l:List au} {i:Nat} (hp:Proofs A l) (h:i < l.length):bJ A 3 (l.getD i .zero).pv (cN (l.getD i .zero).proof):=hp _ (bx (d:=.zero) h)
def iI (o w:List UInt8):Bool:=decide (w.length<=o.length/\o.drop (o.length - w.length)=w)
def cG (l:List au) (o:List UInt8):Int:=match (List.range l.length).find? (fun i=>iI o (l.getD i .zero).left) with | some i=>(i:Int) | none=>-1
def ym (l:List au) (w:List UInt8):Bool:=decide (dy w=w) && l.all fun r=>decide (MN w r.left 0 < 0)
theorem JP {l:List au} {w:List UInt8} (h:dy w ≠ w):ym l w=false:=by simp [ym,h]
def jV (g:Int) (w:List UInt8):Bool:=decide (w.length<=1000/\co g w=0/\dy w=w)
end Go.Proofs.YtjppkekmddjcfaaGreatDoor

namespace Go.Proofs.YtjppkekmddjcfaaGreatDoor
open Go Go.RowKit V
structure qh {α:Type} [DecidableEq α] (kd:TypeDesc) (enc:α->Value):Prop where
  basic:nY kd=true
  same:∀ a b,Instr.sameNow kd (enc a) (enc b)=some (decide (a=b))
  bits:∀ a,Instr.sameBits 10000 (enc a) (enc a)=true
theorem xo:qh .string aX:={
  basic:=rfl
  same:=fun a c=>by
    simp only [Instr.sameNow]
    congr 1
    have e:(bs a == bs c)=((bs a).data == (bs c).data):=rfl
    rw [e,Bool.eq_iff_iff,beq_iff_eq,decide_eq_true_iff]
    constructor
    · intro h
      have:(bs a).data.toList=(bs c).data.toList:=by rw [h]
      exact this
    · intro h;rw [h]
  bits:=fun a=>by
    show (bs a == bs a)=true
    have e:(bs a == bs a)=((bs a).data == (bs a).data):=rfl
    rw [e];simp }
theorem qE:qh (.int .u8) fA:={
  basic:=rfl
  same:=fun a c=>by
    simp only [Instr.sameNow,if_true]
    congr 1
    rw [Bool.eq_iff_iff,beq_iff_eq,decide_eq_true_iff]
    constructor
    · intro h;exact UInt8.toNat_inj.1 (Int.ofNat_inj.1 h)
    · rintro rfl;rfl
  bits:=fun a=>by simp [Instr.sameBits] }
theorem rJ:qh (.int .i64) num:={
  basic:=rfl
  same:=fun a c=>by
    simp only [Instr.sameNow,if_true]
    rfl
  bits:=fun a=>by simp [Instr.sameBits] }
section
variable {α:Type} [DecidableEq α] {kd:TypeDesc} {enc:α->Value}
def dC (enc:α->Value) (es:Array MapEntry) (E:List (α × Value)):Prop:=es.toList.map (fun x=>(x.key,x.val))=E.map fun p=>(enc p.1,p.2)
def lk (E:List (α × Value)) (k:α):Option Value:=(E.find? fun p=>decide (p.1=k)).map (·.2)
def wI (E:List (α × Value)) (k:α) (v:Value):List (α × Value):=if k ∈ E.map (·.1) then E.map (fun p=>if p.1=k then (p.1,v) else p) else E ++ [(k,v)]
theorem dC.nil:dC enc #[] []:=rfl
theorem dC.size {es:Array MapEntry} {E:List (α × Value)} (h:dC enc es E):es.size=E.length:=by
  have:=congrArg List.length h;simpa using this
theorem rB (K:qh kd enc) (k:α):∀ (l:List MapEntry) (E:List (α × Value)) (n:Nat),l.map (fun x=>(x.key,x.val))=E.map (fun p=>(enc p.1,p.2)) ->
    (∃ i v,Instr.findNow kd (enc k) l n=some (some (n + i,v))/\lk E k=some v/\i < l.length/\(E.map (·.1))[i]? = some k/\(∃ x,l[i]? = some x/\x.key=enc k)/\∀ j,j < i->(E.map (·.1))[j]? ≠ some k)\/(Instr.findNow kd (enc k) l n=some none/\lk E k=none/\k ∉ E.map (·.1)):=by
  intro l
  induction l with
  | nil =>
    intro E n h
    cases E with
    | nil=>right;exact ⟨Z,Z,by simp⟩
    | cons p E=>cases h
  | cons x l ih =>
    intro E n h
    cases E with
    | nil=>cases h
    | cons p E =>
      simp only [List.map_cons,List.cons.injEq,Prod.mk.injEq] at h
      obtain ⟨⟨h1,h2⟩,h3⟩:=h
      by_cases q:k=p.1
      · left
        refine ⟨0,x.val,?_,?_,by simp,by simp [q],⟨x,rfl,by rw [h1,q]⟩,fun j hj=>absurd hj (Nat.not_lt_zero _)⟩
        · simp only [Instr.findNow,h1,K.same,decide_eq_true q,Nat.add_zero]
        · simp [lk,q,h2]
      · have q2:¬ p.1=k:=fun e=>q e.symm
        rcases ih E (n + 1) h3 with ⟨i,v,g1,g2,g3,g4,g5,g6⟩ | ⟨g1,g2,g3⟩
        · left
          refine ⟨i + 1,v,?_,?_,by simp;omega,by simpa using g4,by simpa using g5,fun j hj=>?_⟩
          · simp only [Instr.findNow,h1,K.same,decide_eq_false q];rw [g1,show n + (i + 1)=n + 1 + i by omega]
          · simpa [lk,q2] using g2
          · cases j with
            | zero=>simpa using q2
            | succ j=>simpa using g6 j O
        · right
          refine ⟨?_,?_,by simpa [q] using g3⟩
          · simp only [Instr.findNow,h1,K.same,decide_eq_false q];exact g1
          · simpa [lk,q2] using g2
variable {P:Program} {e:gv} {A:AH} {x y z:Operand} {t kt et:TypeId} {ty:TypeId} {ps:String} {af:Array Edge} {dst:Option Nat} {Q:Value->AH->Prop} {Kp:List PanicEntry->AH->Prop} {g:Option (Nat × Bool)} {m clock:Nat} {es:Array MapEntry} {E:List (α × Value)} {k:α} {v zv:Value} {rw:Bool}
theorem o0 (K:qh kd enc) (hx:bZ e x=some (.map (some m))) (hy:bZ e y=some (enc k)) (hu:P.underlying t=some (.map kt et)) (hk:P.underlying kt=some kd) (hz:cO P et=some zv) (hg:A.get m=some (.obj rw (.map es clock))) (hE:dC enc es E)
    (h:Q ((lk E k).getD zv) A):j6 P e A { dst:=dst,op:=.lookup t x y false,type:=ty,pos:=ps,after:=af,guard:=g } Q Kp:=by
  rcases rB K k es.toList E 0 hE with ⟨i,v,g1,g2,_⟩ | ⟨g1,g2,_⟩
  · rw [g2] at h;exact ⟨_,_,hx,hy,kt,et,kd,zv,es,_,hu,hk,K.basic,hz,.inr ⟨m,rw,clock,Z,hg⟩,g1,h⟩
  · rw [g2] at h;exact ⟨_,_,hx,hy,kt,et,kd,zv,es,_,hu,hk,K.basic,hz,.inr ⟨m,rw,clock,Z,hg⟩,g1,h⟩
theorem vg (K:qh kd enc) (hx:bZ e x=some (.map (some m))) (hy:bZ e y=some (enc k)) (hu:P.underlying t=some (.map kt et)) (hk:P.underlying kt=some kd) (hz:cO P et=some zv) (hg:A.get m=some (.obj rw (.map es clock))) (hE:dC enc es E)
    (h1:∀ v,lk E k=some v->Q (.tuple #[v,.bool true]) A) (h2:lk E k=none->Q (.tuple #[zv,.bool false]) A):j6 P e A { dst:=dst,op:=.lookup t x y true,type:=ty,pos:=ps,after:=af,guard:=g } Q Kp:=by
  rcases rB K k es.toList E 0 hE with ⟨i,v,g1,g2,_⟩ | ⟨g1,g2,_⟩
  · exact ⟨_,_,hx,hy,kt,et,kd,zv,es,_,hu,hk,K.basic,hz,.inr ⟨m,rw,clock,Z,hg⟩,g1,h1 v g2⟩
  · exact ⟨_,_,hx,hy,kt,et,kd,zv,es,_,hu,hk,K.basic,hz,.inr ⟨m,rw,clock,Z,hg⟩,g1,h2 g2⟩
theorem dC.push (h:dC enc es E) (k:α) (v:Value) (c:Nat):dC enc (es.push { key:=enc k,val:=v,born:=c }) (E ++ [(k,v)]):=by
  have h':es.toList.map (fun x=>(x.key,x.val))=_:=h
  simp only [dC,Array.toList_push,List.map_append,List.map_cons,List.map_nil,h']
theorem Cj {β γ:Type} {f:β->γ} {l:List β} {i:Nat} {F:β->β} {G:List γ} (h:l.map f=G):(l.modify i F).map f=match l[i]? with | some x=>G.set i (f (F x)) | none=>G:=by
  subst h
  apply List.ext_getElem?
  intro j
  cases q:l[i]? with
  | none =>
    have hi:l.length<=i:=by simpa using q
    simp only [List.getElem?_map,List.getElem?_modify]
    by_cases e:i=j
    · subst e;simp [q]
    · simp [e]
  | some x =>
    have hi:i < l.length:=(List.getElem?_eq_some_iff.1 q).1
    simp only [List.getElem?_map,List.getElem?_modify,List.getElem?_set,List.length_map]
    by_cases e:i=j
    · subst e
      have hx:=(List.getElem?_eq_some_iff.1 q).2
      simp [hi,hx]
    · simp [e]
theorem PM {k:α} {v:Value}:∀ {E:List (α × Value)} {i:Nat},(E.map (·.1))[i]? = some k->(E.map (·.1)).Nodup->(E.map fun p=>(enc p.1,p.2)).set i (enc k,v)=(E.map fun p=>if p.1=k then (p.1,v) else p).map fun p=>(enc p.1,p.2):=by
  intro E
  induction E with
  | nil=>intro i h;simp at h
  | cons p E ih =>
    intro i h hn
    cases i with
    | zero =>
      simp only [List.map_cons,List.getElem?_cons_zero,Option.some.injEq] at h
      subst h
      simp only [List.map_cons,List.set_cons_zero,if_true]
      congr 1
      rw [List.map_map]
      apply List.map_congr_left
      intro q hq
      have:¬ q.1=p.1:=fun e=>(List.nodup_cons.1 hn).1 (by show p.1 ∈ _;rw [<- e];exact List.mem_map_of_mem hq)
      simp [this]
    | succ i =>
      simp only [List.map_cons,List.getElem?_cons_succ] at h
      have hp:¬ p.1=k:=fun e=>(List.nodup_cons.1 hn).1 (by show p.1 ∈ _;rw [e];exact List.mem_of_getElem? h)
      simp only [List.map_cons,List.set_cons_succ,if_neg hp]
      congr 1
      exact ih h (List.nodup_cons.1 hn).2
theorem m8 (K:qh kd enc) (wf:A.wf) (hx:bZ e x=some (.map (some m))) (hy:bZ e y=some (enc k)) (hz:bZ e z=some v) (hu:P.underlying t=some (.map kt et)) (hk:P.underlying kt=some kd) (hg:A.get m=some (.obj true (.map es clock))) (hE:dC enc es E) (hn:(E.map (·.1)).Nodup)
    (h:∀ A1 es1 ck,sE A A1 m (.obj true (.map es1 ck))->dC enc es1 (wI E k v)->Q undef A1):j6 P e A { dst:=dst,op:=.mapUpdate t x y z,type:=ty,pos:=ps,after:=af,guard:=g } Q Kp:=by
  rcases rB K k es.toList E 0 hE with ⟨i,u,g1,g2,g3,g4,⟨w,g5,D⟩,g6⟩ | ⟨g1,g2,g3⟩
  · refine ⟨_,_,_,hx,hy,hz,kt,et,kd,m,es,clock,_,hu,hk,K.basic,Z,hg,g1,⟨w,by simpa using g5,by rw [D];exact K.bits k⟩,h _ _ _ (Md wf hg _) ?_⟩
    have hm:k ∈ E.map (·.1):=List.mem_of_getElem? g4
    show (es.modify (0 + i) _).toList.map _=_
    rw [Nat.zero_add,Array.toList_modify,Cj (show es.toList.map (fun x=>(x.key,x.val))=_ from hE),g5,wI,if_pos hm]
    exact PM g4 hn
  · refine ⟨_,_,_,hx,hy,hz,kt,et,kd,m,es,clock,_,hu,hk,K.basic,Z,hg,g1,h _ _ _ (Md wf hg _) ?_⟩
    rw [wI,if_neg g3];exact hE.push k v clock
theorem xw {E:List (α × Value)} {k:α}:lk E k=none ↔ k ∉ E.map (·.1):=by
  simp only [lk,Option.map_eq_none_iff,List.find?_eq_none,decide_eq_true_eq,List.mem_map,not_exists,not_and]
theorem tm {E:List (α × Value)} {k:α} {v:Value} (h:k ∉ E.map (·.1)):wI E k v=E ++ [(k,v)]:=if_neg h
theorem Mq {E:List (α × Value)} {k:α} {v:Value}:(wI E k v).map (·.1)=if k ∈ E.map (·.1) then E.map (·.1) else E.map (·.1) ++ [k]:=by
  unfold wI
  split
  · rw [List.map_map]
    apply List.map_congr_left
    intro p _
    simp only [Function.comp];split <;> rfl
  · simp
theorem IP {E:List (α × Value)} {k:α} {v:Value} (h:(E.map (·.1)).Nodup):((wI E k v).map (·.1)).Nodup:=by
  rw [Mq]
  split
  · exact h
  · rename_i q;exact List.nodup_append.2 ⟨h,by simp,by intro a ha b hb;simp at hb;subst hb;exact fun e=>q (e ▸ ha)⟩
theorem Rf (k j:α) (v:Value):∀ E:List (α × Value),lk (E.map fun p=>if p.1=k then (p.1,v) else p) j=if j=k/\k ∈ E.map (·.1) then some v else lk E j:=by
  intro E
  induction E with
  | nil=>simp [lk]
  | cons p E ih =>
    have hc:∀ (q:α × Value) (F:List (α × Value)),lk (q :: F) j=if q.1=j then some q.2 else lk F j:=fun q F=>by
      by_cases h:q.1=j <;> simp [lk,h]
    rw [List.map_cons,hc,hc,ih]
    by_cases hp:p.1=k
    · by_cases hj:j=k
      · subst hj;simp [hp]
      · have h1:¬ k=j:=fun q=>hj q.symm
        simp [hp,hj,h1]
    · by_cases hj:j=k
      · subst hj;simp only [hp,if_false,true_and,List.map_cons,List.mem_cons,show ¬ j=p.1 from fun q=>hp q.symm,false_or]
      · simp [hp,hj]
theorem Rg {E:List (α × Value)} {k j:α} {v:Value}:lk (wI E k v) j=if j=k then some v else lk E j:=by
  unfold wI
  split
  · rename_i hm
    rw [Rf]
    by_cases hj:j=k <;> simp [hj,hm]
  · rename_i hm
    simp only [lk,List.find?_append]
    by_cases hj:j=k
    · subst hj
      have:E.find? (fun p=>decide (p.1=j))=none:=by
        rw [List.find?_eq_none];intro p hp;simp only [decide_eq_true_eq];exact fun q=>hm (by rw [<- q];exact List.mem_map_of_mem hp)
      simp [this]
    · have h2:¬ k=j:=fun q=>hj q.symm
      simp [hj,h2]
end
def oE (L:List (List UInt8)):List (List UInt8 × Value):=L.map fun w=>(w,.bool true)
theorem uZ (L:List (List UInt8)):(oE L).map (·.1)=L:=by simp [oE,List.map_map,Function.comp_def]
theorem Mg (L:List (List UInt8)) (w:List UInt8):(lk (oE L) w).getD (.bool false)=.bool (decide (w ∈ L)):=by
  induction L with
  | nil=>rfl
  | cons x L ih =>
    simp only [oE,List.map_cons,lk,List.find?_cons] at ih ⊢
    by_cases h:x=w
    · subst h;simp
    · have h2:¬ w=x:=fun q=>h q.symm
      simp only [decide_eq_false h,List.mem_cons,h2,false_or];exact ih
theorem II {L:List (List UInt8)} {w:List UInt8} (h:w ∉ L):wI (oE L) w (.bool true)=oE (L ++ [w]):=by
  rw [tm (by rw [uZ];exact h)];simp [oE]
end Go.Proofs.YtjppkekmddjcfaaGreatDoor

namespace Go.Proofs.YtjppkekmddjcfaaGreatDoor
open Go Go.RowKit V
section
variable {P:Program} {e:gv} {A:AH} {x y z:Operand} {t kt et:TypeId} {ty:TypeId} {ps:String} {af:Array Edge} {dst:Option Nat} {Q:Value->AH->Prop} {Kp:List PanicEntry->AH->Prop} {g:Option (Nat × Bool)} {m clock:Nat} {es:Array MapEntry} {L:List (List UInt8)} {w:List UInt8} {v:Value} {rw:Bool}
theorem Dn (hx:bZ e x=some (.map (some m))) (hy:bZ e y=some (aX w)) (hu:P.underlying t=some (.map kt et)) (hk:P.underlying kt=some .string) (hz:cO P et=some (.bool false)) (hg:A.get m=some (.obj rw (.map es clock))) (hE:dC aX es (oE L))
    (h:Q (.bool (decide (w ∈ L))) A):j6 P e A { dst:=dst,op:=.lookup t x y false,type:=ty,pos:=ps,after:=af,guard:=g } Q Kp :=
  o0 xo hx hy hu hk hz hg hE (by rw [Mg];exact h)
theorem Dr (wf:A.wf) (hx:bZ e x=some (.map (some m))) (hy:bZ e y=some (aX w)) (hz:bZ e z=some (.bool true)) (hu:P.underlying t=some (.map kt et)) (hk:P.underlying kt=some .string) (hg:A.get m=some (.obj true (.map es clock))) (hE:dC aX es (oE L)) (hL:L.Nodup) (hn:w ∉ L)
    (h:∀ A1 D ck,sE A A1 m (.obj true (.map D ck))->dC aX D (oE (L ++ [w]))->Q undef A1):j6 P e A { dst:=dst,op:=.mapUpdate t x y z,type:=ty,pos:=ps,after:=af,guard:=g } Q Kp :=
  m8 xo wf hx hy hz hu hk hg hE (by rw [uZ];exact hL) fun A1 D ck h1 h2=>h A1 D ck h1 (by rw [II hn] at h2;exact h2)
end
theorem bX.ext3 {a b:bX} (h1:a.conj=b.conj) (h2:a.rel=b.rel) (h3:a.inv=b.inv):a=b:=by cases a;cases b;simp_all
instance:DecidableEq bX:=fun a b=>decidable_of_iff (a.conj=b.conj/\a.rel=b.rel/\a.inv=b.inv) ⟨fun h=>bX.ext3 h.1 h.2.1 h.2.2,fun h=>h ▸ ⟨rfl,rfl,rfl⟩⟩
theorem QQ {P:Program} {t ts ti tb:TypeId} {k:IntKind} {f0 f1 f2:Field} (hu:P.underlying t=some (.struct #[f0,f1,f2])) (hg:(P.stoodInHeld t || P.eqGuardType P.depth t)=false) (h0:f0.type=ts/\f0.offset=0/\f0.name ≠ "_") (h1:f1.type=ti/\f1.offset=1/\f1.name ≠ "_") (h2:f2.type=tb/\f2.offset=2/\f2.name ≠ "_")
    (a9:dF P ts=some false) (ai:dF P ti=some false) (ab:dF P tb=some false) (us:P.underlying ts=some .string) (ui:P.underlying ti=some (.int k)) (ub:P.underlying tb=some .bool) (a b:bX) :
    vJ P t (.agg #[aX a.conj,num a.rel,.bool a.inv]) (.agg #[aX b.conj,num b.rel,.bool b.inv])=some (decide (a=b)):=by
  obtain ⟨a1,a2,a3⟩:=h0;obtain ⟨b1,b2,b3⟩:=h1;obtain ⟨c1,c2,c3⟩:=h2
  rw [Bool.or_eq_false_iff] at hg
  simp only [vJ,hu,hg.1,hg.2,Bool.false_eq_true,or_self,if_false,JA,a1,a2,a3,b1,b2,b3,c1,c2,c3,ol,a9,ai,ab,TH,us,ui,ub,wV,if_true,ne_eq]
  have hd:decide (a=b)=(decide (a.conj=b.conj) && (decide (a.rel=b.rel) && (a.inv == b.inv))):=by
    rw [Bool.eq_iff_iff];simp only [decide_eq_true_eq,Bool.and_eq_true,beq_iff_eq]
    exact ⟨fun h=>h ▸ ⟨rfl,rfl,rfl⟩,fun h=>bX.ext3 h.1 h.2.1 h.2.2⟩
  rw [hd]
  by_cases q1:a.conj=b.conj <;> by_cases q2:a.rel=b.rel <;> cases h3:a.inv <;> cases h4:b.inv <;> simp [q1,q2,wV]
theorem o8 {α:Type} {l m:List α} {d:α} {i:Nat} (hl:l.length=m.length) (hi:l.length<=i) (h:∀ j,j < i->l.getD j d=m.getD j d):l=m:=by
  refine List.ext_getElem hl fun j h1 h2=>?_
  have:=h j O
  simpa [h1,h2] using this
theorem xl {α:Type} {l m:List α} {d:α} {i:Nat} (h:¬ l.getD i d=m.getD i d):l ≠ m:=fun e=>h (by rw [e])
def dA (pf:Bool) (r:au):List UInt8 × List UInt8 × List bX:=(r.left,r.right,if pf then r.proof else [])
def eP (pf:Bool) (rs ss:List au):Bool:=decide (rs.map (dA pf)=ss.map (dA pf))
theorem qH {β:Type} {f:au->β} {rs:List au} {i:Nat} (hi:i < rs.length):(rs.map f).getD i (f .zero)=f (rs.getD i .zero):=by simp [hi]
theorem wB {pf:Bool} {rs ss:List au} (h:¬ rs.length=ss.length):eP pf rs ss=false:=by
  rw [eP,decide_eq_false_iff_not];intro q;have:=congrArg List.length q;simp at this;exact h this
theorem re {pf:Bool} {rs ss:List au} {i:Nat} (hl:rs.length=ss.length) (hi:i < rs.length) (h:¬ dA pf (rs.getD i .zero)=dA pf (ss.getD i .zero)):eP pf rs ss=false:=by
  rw [eP,decide_eq_false_iff_not];intro q
  have:=congrArg (fun l=>l.getD i (dA pf .zero)) q
  simp only [qH hi,qH (show i < ss.length by omega)] at this
  exact h this
theorem wD {pf:Bool} {rs ss:List au} {i:Nat} (hl:rs.length=ss.length) (hi:rs.length<=i) (h:∀ j,j < i->dA pf (rs.getD j .zero)=dA pf (ss.getD j .zero)):eP pf rs ss=true:=by
  rw [eP,decide_eq_true_iff]
  refine o8 (d:=dA pf .zero) (i:=i) (by simpa using hl) (by simpa using hi) fun j hj=>?_
  by_cases q:j < rs.length
  · rw [qH q,qH O];exact h j hj
  · simp [q,show ¬ j < ss.length by omega]
section
variable {g:Int} {l:List (List UInt8)} {rs:List au} {r:au} {i:Nat} {w:List UInt8}
theorem gK {A:AH} {n:Nat} {a b:List UInt8} {v:Value} {xs:List Value} (h:bJ A n v xs):nF [aX a,aX b,v]=true:=by
  obtain ⟨p,k,c,rfl,_⟩:=h;rfl
def tD (g:Int) (w:List UInt8):Bool:=decide (w=[]) || decide (200 < w.length) || !decide (co g w=0) || !decide (dy w=w)
theorem GX (hg:¬ (g < 1\/8 < g)) (hl:¬ 60 < l.length) (h:¬ 0<=za (tD g) l):d9 g l=0:=by
  rw [ta,Bool.not_eq_true,List.any_eq_false] at h
  refine uw (i:=l.length) hg hl (Nat.le_refl _) fun j hj=>?_
  have:=h _ (bx (d:=[]) hj)
  simp only [tD,Bool.or_eq_true,decide_eq_true_eq,Bool.not_eq_true',decide_eq_false_iff_not,not_or,Decidable.not_not] at this
  obtain ⟨⟨⟨h1,h2⟩,h3⟩,h4⟩:=this
  exact ⟨by omega,Fg h1 (fun q=>q h3) O (fun q=>q h4)⟩
theorem KA (hg:¬ (g < 1\/8 < g)) (h:0<=za (tD g) l):¬ d9 g l=0:=by
  rw [ta,List.any_eq_true] at h
  obtain ⟨x,hx,hb⟩:=h
  intro q
  have h2:=(d5 q).2.2 x hx
  obtain ⟨g1,g2,g3⟩:=sc h2.2
  have:dy x=x:=by rw [vc (JQ O g2),g3]
  simp only [tD,g1,g2,this,decide_false,decide_true,Bool.not_true,Bool.or_false,Bool.false_or,decide_eq_true_eq] at hb
  omega
theorem xJ (h:g < 1):¬ d9 g l=0:=fun q=>by have:=(d5 q).1;omega
theorem xK (h:8 < g):¬ d9 g l=0:=fun q=>by have:=(d5 q).1;omega
theorem xI (h:60 < l.length):¬ d9 g l=0:=fun q=>by have:=(d5 q).2.1;omega
theorem jW (h:jV g w=true):w.length<=1000:=by simp only [jV,decide_eq_true_eq] at h;exact h.1
theorem rf (h:jV g w=true):co g w=0:=by simp only [jV,decide_eq_true_eq] at h;exact h.2.1
theorem Mh (h:jV g w=true):dy w=w:=by simp only [jV,decide_eq_true_eq] at h;exact h.2.2
theorem sK {b:Bool} (h:(!b)=false):b=true:=by simpa using h
theorem Ou {b:Bool} (h:(!b)=true):b=false:=by simpa using h
def gb (g:Int) (l:List (List UInt8)) (r:au):Bool:=jV g r.left && jV g r.right && decide (fx r.right r.left < 0) && decide (lH g l r.proof (r.left ++ gO r.right)=0)
def jB (rs:List au):List (List UInt8):=rs.map (·.left)
def cx (g:Int) (l:List (List UInt8)) (rs:List au):Bool:=decide (d9 g l=0) && decide (rs.length<=2000) && rs.all (gb g l) && decide (jB rs).Nodup
theorem qS (h:(!jV g r.left)=true):gb g l r=false:=by simp [gb,Ou h]
theorem qT (h:(!jV g r.right)=true):gb g l r=false:=by simp [gb,Ou h]
theorem qW (h:0<=fx r.right r.left):gb g l r=false:=by simp [gb,show ¬ fx r.right r.left < 0 by omega]
theorem qX (h:¬ lH g l r.proof (r.left ++ gO r.right)=0):gb g l r=false:=by simp [gb,h]
theorem Lg (h1:(!jV g r.left)=false) (h2:(!jV g r.right)=false) (h3:¬ 0<=fx r.right r.left) (h4:¬ ¬ lH g l r.proof (r.left ++ gO r.right)=0):gb g l r=true:=by
  simp [gb,sK h1,sK h2,show fx r.right r.left < 0 by omega,Decidable.not_not.1 h4]
theorem gx (h:gb g l r=true):jV g r.left=true/\jV g r.right=true/\fx r.right r.left < 0/\lH g l r.proof (r.left ++ gO r.right)=0:=by
  simp only [gb,Bool.and_eq_true,decide_eq_true_eq] at h;exact ⟨h.1.1.1,h.1.1.2,h.1.2,h.2⟩
theorem PR (h:¬ d9 g l=0):cx g l rs=false:=by simp [cx,h]
theorem PT (h:2000 < rs.length):cx g l rs=false:=by simp [cx,show ¬ rs.length<=2000 by omega]
theorem tl (hi:i < rs.length) (h:gb g l (rs.getD i .zero)=false):cx g l rs=false:=by
  have:rs.all (gb g l)=false:=List.all_eq_false.2 ⟨_,bx (d:=.zero) hi,by rw [h];decide⟩
  simp [cx,this]
theorem PW (hi:i < rs.length) (h:(rs.getD i .zero).left ∈ jB (rs.take i)):cx g l rs=false:=by
  have:¬ (jB rs).Nodup:=fun q=>by
    have e:rs.getD i .zero=rs[i]:=by simp [hi]
    have h2:rs=rs.take i ++ rs.drop i:=(List.take_append_drop i rs).symm
    rw [jB,h2,List.map_append,List.drop_eq_getElem_cons hi] at q
    exact (List.nodup_append.1 q).2.2 _ h _ (List.mem_cons_self) (by rw [e])
  simp [cx,this]
theorem PX (hp:¬ ¬ d9 g l=0) (hn:¬ 2000 < rs.length) (hi:rs.length<=i) (h:∀ j,j < i->gb g l (rs.getD j .zero)=true) (hd:(jB (rs.take i)).Nodup):cx g l rs=true:=by
  have:rs.all (gb g l)=true:=List.all_eq_true.2 fun r hr=>by
    obtain ⟨j,hj,rfl⟩:=List.getElem_of_mem hr
    have:=h j O
    simpa [hj] using this
  rw [List.take_of_length_le hi] at hd
  simp [cx,this,Decidable.not_not.1 hp,show rs.length<=2000 by omega,hd]
theorem ir (h:cx g l rs=true):d9 g l=0/\rs.length<=2000/\(∀ r ∈ rs,gb g l r=true)/\(jB rs).Nodup:=by
  simp only [cx,Bool.and_eq_true,decide_eq_true_eq,List.all_eq_true] at h;exact ⟨h.1.1.1,h.1.1.2,h.1.2,h.2⟩
def vR (g:Int) (l:List (List UInt8)) (rs:List au):Bool:=cx g l rs && rs.all fun r=>ym rs r.right && (ym rs (r.left.take (r.left.length - 1)) && ym rs (r.left.drop 1))
theorem Gh (h:cx g l rs=false):vR g l rs=false:=by rw [vR,h];rfl
theorem JW {r:au} (h:gb g l r=true):0 < r.left.length:=by
  have:=(gx h).2.2.1
  rcases Nat.eq_zero_or_pos r.left.length with q | q
  · rw [List.length_eq_zero_iff.1 q] at this
    unfold fx at this
    split at this
    · simp only [nZ,List.length_nil] at this
      split at this
      · simp at this
      · rename_i q2
        have:r.right=[]:=List.length_eq_zero_iff.1 (by simpa using q2)
        rw [this] at *;simp [nx] at *
    · omega
  · exact q
theorem mo (h:cx g l rs=true) (hr:r ∈ rs):r.left.length<=1000/\r.right.length<=1000/\0 < r.left.length :=
  have q:=(ir h).2.2.1 r hr
  ⟨jW (gx q).1,jW (gx q).2.1,JW q⟩
theorem NA {d:List bX} {c:bX} (h:c ∈ d):c.conj.length<=ew d:=by
  induction d with
  | nil=>cases h
  | cons a d ih =>
    simp only [ew,List.map_cons,List.sum_cons] at ih ⊢
    rcases List.mem_cons.1 h with rfl | h
    · omega
    · have:=ih h;omega
theorem un (hi:i < rs.length):jB (rs.take (i + 1))=jB (rs.take i) ++ [(rs.getD i .zero).left]:=by
  have e:rs.getD i .zero=rs[i]:=by simp [hi]
  rw [jB,jB,List.take_succ_eq_append_getElem hi,List.map_append,e];rfl
theorem Cd (hi:i < rs.length) (hd:(jB (rs.take i)).Nodup) (h:(rs.getD i .zero).left ∉ jB (rs.take i)):(jB (rs.take (i + 1))).Nodup:=by
  rw [un hi]
  exact List.nodup_append.2 ⟨hd,by simp,by intro a ha b hb;simp at hb;subst hb;exact fun q=>h (q ▸ ha)⟩
end
end Go.Proofs.YtjppkekmddjcfaaGreatDoor

namespace Go.Proofs
open Go.Proofs.YtjppkekmddjcfaaGreatDoor
open Go.Shelf
def Tryz.sortR_ren:Go.Shelf.Ren:=⟨fun | 6=>85 | 15=>122 | 14=>121 | 28=>162 | 29=>163 | 20=>154 | 21=>155 | 22=>156 | 23=>157 | 24=>158 | 25=>159 | 26=>160 | 27=>161 | 46=>187 | 47=>188 | 48=>189 | 49=>190 | 50=>191 | 57=>203 | n=>n,fun | 22=>25 | 24=>83 | 25=>131 | 3=>3 | 39=>165 | 0=>0 | 53=>199 | 55=>201 | 4=>4 | 46=>193 | 45=>192 | 50=>127 | 5=>5 | 9=>9 | 66=>223 | 70=>227 | 76=>234 | 77=>235 | n=>n,fun | n=>n⟩
theorem Tryz.sortR:Go.Proofs.SlLaysF0.n6 Tryz.prog Tryz.sortR_ren:={
  mixed:=by kernel_rfl
  f6:=⟨Tryz.f85.name,by decide,Tryz.func85.trans (congrArg some Y)⟩
  f14:=⟨Tryz.f121.name,by decide,Tryz.func121.trans (congrArg some Y)⟩
  f15:=Tryz.func122.trans (congrArg some Y)
  f20:=⟨Tryz.f154.name,by decide,Tryz.func154.trans (congrArg some Y)⟩
  f21:=⟨Tryz.f155.name,by decide,Tryz.func155.trans (congrArg some Y)⟩
  f22:=⟨Tryz.f156.name,by decide,Tryz.func156.trans (congrArg some Y)⟩
  f23:=⟨Tryz.f157.name,by decide,Tryz.func157.trans (congrArg some Y)⟩
  f24:=⟨Tryz.f158.name,by decide,Tryz.func158.trans (congrArg some Y)⟩
  f25:=⟨Tryz.f159.name,by decide,Tryz.func159.trans (congrArg some Y)⟩
  f26:=⟨Tryz.f160.name,by decide,Tryz.func160.trans (congrArg some Y)⟩
  f27:=⟨Tryz.f161.name,by decide,Tryz.func161.trans (congrArg some Y)⟩
  f28:=Tryz.func162.trans (congrArg some Y)
  f29:=Tryz.func163.trans (congrArg some Y)
  f46:=⟨Tryz.f187.name,by decide,Tryz.func187.trans (congrArg some Y)⟩
  f47:=Tryz.func188.trans (congrArg some Y)
  f48:=Tryz.func189.trans (congrArg some Y)
  f49:=⟨Tryz.f190.name,by decide,Tryz.func190.trans (congrArg some Y)⟩
  f50:=⟨Tryz.f191.name,by decide,Tryz.func191.trans (congrArg some Y)⟩
  f57:=⟨Tryz.f203.name,by decide,Tryz.func203.trans (congrArg some Y)⟩
  t0:=Tryz.underlying0
  a0:=Tryz.isAgg0
  z0:=Tryz.sizeOf0
  v0:=Tryz.zeroValue0
  t3:=Tryz.underlying3
  a3:=Tryz.isAgg3
  z3:=Tryz.sizeOf3
  v3:=Tryz.zeroValue3
  t4:=Tryz.underlying4
  a4:=Tryz.isAgg4
  z4:=Tryz.sizeOf4
  v4:=Tryz.zeroValue4
  t5:=Tryz.underlying5
  a5:=Tryz.isAgg5
  z5:=Tryz.sizeOf5
  v5:=Tryz.zeroValue5
  t9:=Tryz.underlying9
  a9:=Tryz.isAgg9
  z9:=Tryz.sizeOf9
  v9:=Tryz.zeroValue9
  t22:=Tryz.underlying25
  a22:=Tryz.isAgg25
  z22:=Tryz.sizeOf25
  v22:=Tryz.zeroValue25
  t25:=Tryz.underlying131
  a25:=Tryz.isAgg131
  z25:=Tryz.sizeOf131
  v25:=Tryz.zeroValue131
  t39:=Tryz.underlying165
  a39:=Tryz.isAgg165
  z39:=Tryz.sizeOf165
  v39:=Tryz.zeroValue165
  t45:=Tryz.underlying192
  a45:=Tryz.isAgg192
  z45:=Tryz.sizeOf192
  v45:=Tryz.zeroValue192
  t46:=Tryz.underlying193
  a46:=Tryz.isAgg193
  z46:=Tryz.sizeOf193
  v46:=Tryz.zeroValue193
  t50:=Tryz.underlying127
  a50:=Tryz.isAgg127
  z50:=Tryz.sizeOf127
  v50:=Tryz.zeroValue127
  t53:=Tryz.underlying199
  a53:=Tryz.isAgg199
  z53:=Tryz.sizeOf199
  v53:=Tryz.zeroValue199
  t55:=Tryz.underlying201
  a55:=Tryz.isAgg201
  z55:=Tryz.sizeOf201
  v55:=Tryz.zeroValue201
  t66:=Tryz.underlying223
  a66:=Tryz.isAgg223
  z66:=Tryz.sizeOf223
  v66:=Tryz.zeroValue223
  t70:=Tryz.underlying227
  a70:=Tryz.isAgg227
  z70:=Tryz.sizeOf227
  v70:=Tryz.zeroValue227
  t76:=Tryz.underlying234
  a76:=Tryz.isAgg234
  z76:=Tryz.sizeOf234
  v76:=Tryz.zeroValue234
  t77:=Tryz.underlying235
  a77:=Tryz.isAgg235
  z77:=Tryz.sizeOf235
  v77:=Tryz.zeroValue235 }
def Tryz.containsS_ren:Go.Shelf.Ren:=⟨fun | 144=>101 | 143=>134 | 219=>177 | 217=>195 | 225=>196 | 224=>197 | 267=>198 | 266=>204 | 314=>205 | n=>n,fun | 9=>9 | 4=>4 | 3=>3 | 5=>5 | 46=>165 | 146=>237 | 51=>199 | n=>n,fun | 1=>1 | n=>n⟩
theorem Tryz.containsS:Go.Proofs.Lays.n144 Tryz.prog Tryz.containsS_ren:={
  mixed:=by kernel_rfl
  f143:=Tryz.func134.trans (congrArg some Y)
  f144:=Tryz.func101.trans (congrArg some Y)
  f217:=Tryz.func195.trans (congrArg some Y)
  f219:=Tryz.func177.trans (congrArg some Y)
  f224:=Tryz.func197.trans (congrArg some Y)
  f225:=Tryz.func196.trans (congrArg some Y)
  f266:=Tryz.func204.trans (congrArg some Y)
  f267:=Tryz.func198.trans (congrArg some Y)
  f314:=Tryz.func205.trans (congrArg some Y)
  t3:=Tryz.underlying3
  a3:=Tryz.isAgg3
  z3:=Tryz.sizeOf3
  v3:=Tryz.zeroValue3
  t4:=Tryz.underlying4
  a4:=Tryz.isAgg4
  z4:=Tryz.sizeOf4
  v4:=Tryz.zeroValue4
  t5:=Tryz.underlying5
  a5:=Tryz.isAgg5
  z5:=Tryz.sizeOf5
  v5:=Tryz.zeroValue5
  t9:=Tryz.underlying9
  a9:=Tryz.isAgg9
  z9:=Tryz.sizeOf9
  v9:=Tryz.zeroValue9
  t46:=Tryz.underlying165
  a46:=Tryz.isAgg165
  z46:=Tryz.sizeOf165
  v46:=Tryz.zeroValue165
  t51:=Tryz.underlying199
  a51:=Tryz.isAgg199
  z51:=Tryz.sizeOf199
  v51:=Tryz.zeroValue199
  t146:=Tryz.underlying237
  a146:=Tryz.isAgg237
  z146:=Tryz.sizeOf237
  v146:=Tryz.zeroValue237
  g1:=by kernel_rfl }
end Go.Proofs

namespace Go.Proofs.YtjppkekmddjcfaaGreatDoor
open Go Go.RowKit V
def nr (A:AH):Prop:=∃ rw cap m,A.get 1=some (.row rw [num m] cap)
theorem nr.le {A B:AH} (h:nr A) (le:A.le B):nr B:=by obtain ⟨r,c,m,h⟩:=h;exact ⟨r,c,m,le.get _ _ h⟩
theorem Kj {a w:List UInt8} {i:Nat} (hi:i + w.length<=a.length):Lib.occAt a w i=decide (Rj a w i):=by
  rw [Lib.occAt_iff_take a w i hi,Bool.eq_iff_iff,beq_iff_eq,decide_eq_true_iff,Rj]
  have:(a.take (i + w.length)).drop i=(a.drop i).take w.length:=by rw [List.drop_take,show i + w.length - i=w.length by omega]
  rw [this];exact ⟨fun h=>⟨hi,h⟩,fun h=>h.2⟩
theorem NY {a w:List UInt8}:0<=MN a w 0 ↔ ∃ i,Rj a w i:=by
  unfold MN
  split
  · rename_i i h
    have h2:=List.find?_some h
    simp only [Nat.zero_le,true_and,decide_eq_true_eq] at h2
    exact ⟨fun _=>⟨i,h2⟩,fun _=>by omega⟩
  · rename_i h
    refine ⟨fun q=>by omega,fun ⟨i,hi⟩=>?_⟩
    have:=List.find?_eq_none.1 h i (List.mem_range.2 (by have:=hi.1;omega))
    simp [hi] at this
theorem w9 (a w:List UInt8):Lib.contains a w=decide (0<=MN a w 0):=by
  rw [Lib.contains,Bool.eq_iff_iff,decide_eq_true_iff,decide_eq_true_iff,NY]
  rcases Lib.index_spec a w with ⟨h1,h2⟩ | ⟨i,h1,h2,h3,_⟩
  · rw [h1]
    refine ⟨fun q=>by omega,fun ⟨i,hi⟩=>?_⟩
    have:=h2 i (by have:=hi.1;omega)
    rw [Kj hi.1,decide_eq_false_iff_not] at this
    exact absurd hi this
  · rw [h1]
    refine ⟨fun _=>?_,fun _=>by omega⟩
    rcases Lib.occAt_room h3 with q | q
    · exact ⟨i,by rw [Kj q] at h3;simpa using h3⟩
    · subst q;exact ⟨0,by simp [Rj]⟩
theorem Oc {rs:List au} {w:List UInt8} (h:dy w=w):ym rs w = !decide (0<=za (fun r:au=>decide (0<=MN w r.left 0)) rs):=by
  have e:decide (0<=za (fun r:au=>decide (0<=MN w r.left 0)) rs)=rs.any (fun r=>decide (0<=MN w r.left 0)):=by
    rw [Bool.eq_iff_iff,decide_eq_true_iff,ta]
  rw [e,ym,decide_eq_true h,Bool.true_and,List.not_any_eq_all_not]
  congr 1;funext r
  rw [<- decide_not];congr 1;rw [eq_iff_iff];omega
def nX (rs:List au) (r:au):Bool:=!ym rs r.right || !(ym rs (r.left.take (r.left.length - 1)) && ym rs (r.left.drop 1))
theorem Gb {g:Int} {l:List (List UInt8)} {rs:List au} (h:cx g l rs=true):vR g l rs = !decide (0<=za (nX rs) rs):=by
  have e:decide (0<=za (nX rs) rs)=rs.any (nX rs):=by
    rw [Bool.eq_iff_iff,decide_eq_true_iff,ta]
  rw [e,vR,h,Bool.true_and,List.not_any_eq_all_not]
  congr 1;funext r
  simp [nX]
theorem CQ (a w:List UInt8) (A:AH) (hM:nr A) (ha:a.length < 4294967281):bG Tryz.prog 101 #[aX a,aX w] A (fun v A1=>v=.bool (decide (0<=MN a w 0))/\A=A1):=by
  obtain ⟨rw,cap,m,hm⟩:=hM
  refine ⟨Tryz.call101,fun W hW=>?_⟩
  refine (Any.strings_Contains Tryz.containsS (bs a) (bs w) m W (by rw [sW];exact ha) (hW.cell (a:=⟨1,0,none⟩) (by simp [AH.cell,hm]))).mono ?_
  rintro e w' ⟨rfl,rfl⟩
  exact ⟨A,hW,.refl _ _,_,Z,by rw [wU,wU,w9],Z⟩
end Go.Proofs.YtjppkekmddjcfaaGreatDoor

namespace Go.Proofs.YtjppkekmddjcfaaGreatDoor
open Go Go.ChangeShapes Go.WideShapes Go.ChangeAt Go.RowKit V
set_option maxRecDepth 100000

theorem own:ownKnob Tryz.prog.godebug=none:=by kernel_rfl
theorem D7:laidOutB Tryz.prog=true:=by kernel_rfl
theorem SG:Tryz.prog.globalNamed "cayley/word.letters" = some 0:=by kernel_rfl
theorem JG:(Tryz.prog.globals[0]?).map (·.type)=some 172:=by kernel_rfl
theorem Ns:Tryz.prog.cellsOf 172=16:=by kernel_rfl
theorem QH:Tryz.prog.cellsOf 5=1:=by kernel_rfl
theorem Bq:Tryz.prog.cellsOf 9=1:=by kernel_rfl
theorem Ji:Tryz.prog.cellsOf 3=1:=by kernel_rfl
theorem Nh:Tryz.prog.cellsOf 22=1:=by kernel_rfl
theorem DC:Tryz.prog.cellsOf 24=2:=by kernel_rfl
theorem Ni:Tryz.prog.cellsOf 25=1:=by kernel_rfl
theorem Np:Tryz.prog.cellsOf 27=3:=by kernel_rfl
theorem Nr:Tryz.prog.cellsOf 35=1:=by kernel_rfl
theorem DE:Tryz.prog.cellsOf 83=3:=by kernel_rfl
theorem mQ {P:Program} {x:String × DataW Unit} {r:List (String × DataW Unit)} {w:World} (h:laidMet P (x :: r) w):laidMet P r w:=by
  obtain ⟨ps,⟨g,t,cs,fuel,p,q,_,_,_,_,hr,rfl⟩,hn,hc⟩:=h
  exact ⟨q,hr,(List.nodup_append.1 hn).2.1,fun b off hm=>hc b off (List.mem_append_right _ hm)⟩
abbrev zg:List (String × DataW Unit):=[("math/bits.deBruijn32tab",Rows.laid_math_bits_deBruijn32tab),("math/bits.deBruijn64tab",Rows.laid_math_bits_deBruijn64tab),("internal/strconv.uint64pow10",Rows.laid_internal_strconv_uint64pow10),("cayley/word.letters",Rows.laid_cayley_word_letters)]
theorem Tn {W:World} (h:laidMetH Tryz.prog zg W):Lib.TabIs Tryz.prog W "cayley/word.letters" .u8 (c5.map fun c=>(c.toNat:Int)):=by
  have h0:laidMet Tryz.prog zg W:=h
  exact Lib.tabIs_of_head (rest:=[]) SG JG Tryz.underlying172 Tryz.underlying5 QH Ns (mQ (mQ (mQ h0)))

def AH.ofWorld (W:World):AH:=⟨W.heap.size,fun b=>match W.heap[b]? with
  | some (.cells cs _ _)=>some (.row false cs.toList cs.size)
  | some o=>some (.obj false o)
  | none=>none⟩
theorem Dl (W:World):ct (AH.ofWorld W) W:=by
  refine ⟨rfl,fun b o h=>?_⟩
  simp only [AH.ofWorld] at h
  split at h
  · rename_i cs e fr hb
    cases h
    exact ⟨cs,e,fr,hb,by simp,Nat.le_refl _,fun i hi=>by simp,fun q=>by cases q⟩
  · rename_i x hx hb
    cases h
    exact ⟨hb,fun c e f q=>hx c e f q⟩
  · cases h
theorem Lq (W:World) (b:Nat):(AH.ofWorld W).rw b=false:=by
  unfold AH.rw AH.ofWorld
  simp only
  split
  · rename_i o ho
    split at ho <;> first | (cases ho;rfl) | cases ho
  · rfl
theorem yx {W w':World} {A':AH} (h:eu (AH.ofWorld W) W A' w'):Below W.heap.size W w' :=
  ⟨h.os,h.tape,h.output.1,h.size,fun k hk=>h.kept k hk (Lq W k)⟩
theorem Ci {W:World} (h:Lib.TabIs Tryz.prog W "cayley/word.letters" .u8 (c5.map fun c=>(c.toNat:Int))):eF (AH.ofWorld W):=by
  unfold Lib.TabIs World.var? at h
  rw [SG] at h
  simp only [Option.bind_some] at h
  split at h
  · rename_i cs e fr hb
    refine ⟨false,cs.size,?_⟩
    have:cs.toList=aw c5:=by
      have:=congrArg (Option.map Array.toList) h
      simp only [Option.map_some,Option.some.injEq] at this
      rw [this]
      simp [aw]
    simp only [AH.ofWorld,hb,this]
  · cases h
theorem oH (s:ByteArray):Value.string s=aX s.data.toList:=by
  show Value.string s=Value.string ⟨s.data.toList.toArray⟩
  rw [Array.toArray_toList]
theorem Bj {k:FuncId} {args:List Value} {W:World} (h:bG Tryz.prog k args.toArray (AH.ofWorld W) fun v A1=>v=.bool true/\(AH.ofWorld W).le A1/\A1.wf) :
    Calls Tryz.prog k args.toArray W fun e w'=>e=.returned (.bool true)/\Below W.heap.size W w':=by
  refine (h.2 W (Dl W)).mono ?_
  rintro e w' ⟨A',_,hs,v,rfl,rfl,_⟩
  exact ⟨Z,yx hs⟩
theorem DF:Tryz.prog.cellsOf 85=3:=by kernel_rfl
theorem QG:Tryz.prog.cellsOf 4=1:=by kernel_rfl
theorem sd {α:Type} {Q:Nat->α->Prop}:∀ n:Nat,(∀ i,i < n->∃ z,Q i z)->∃ zs:List α,zs.length=n/\∀ i z,zs[i]? = some z->Q i z
  | 0,_=>⟨[],rfl,fun i z h=>by simp at h⟩
  | n + 1,h=>by
    obtain ⟨zs,h1,h2⟩:=sd n fun i hi=>h i O
    obtain ⟨z,hz⟩:=h n O
    refine ⟨zs ++ [z],by simp [h1],fun i y hy=>?_⟩
    by_cases q:i < n
    · exact h2 i y (by rwa [List.getElem?_append_left O] at hy)
    · rw [List.getElem?_append_right O] at hy
      have:i - zs.length=0:=by
        have:=(List.getElem?_eq_some_iff.1 hy).1
        simp at this;omega
      rw [this] at hy
      have e:i=n:=by omega
      have:z=y:=by simpa using hy
      rw [e,<- this];exact hz
theorem yV {α:Type} {f:α->List Value} {k:Nat} (hf:∀ z,(f z).length=k):∀ (zs:List α) (i j:Nat) (z:α),zs[i]? = some z->j < k->(zs.flatMap f)[i * k + j]? = (f z)[j]?
  | [],i,j,z,h,_=>by simp at h
  | a :: zs,0,j,z,h,hj=>by
    have:a=z:=by simpa using h
    subst this
    rw [Nat.zero_mul,Nat.zero_add,List.flatMap_cons,List.getElem?_append_left (by rw [hf];exact hj)]
  | a :: zs,i + 1,j,z,h,hj=>by
    have:=yV hf zs i j z (by simpa using h) hj
    rw [List.flatMap_cons,List.getElem?_append_right (by rw [hf,Nat.add_mul];omega),hf,<- this]
    congr 1;rw [Nat.add_mul];omega
theorem yW {α:Type} {f:α->List Value} {k:Nat} (hf:∀ z,(f z).length=k) (zs:List α):(zs.flatMap f).length=zs.length * k:=by
  induction zs with
  | nil=>simp
  | cons a zs ih=>rw [List.flatMap_cons,List.length_append,ih,hf,List.length_cons,Nat.add_mul];omega

theorem Fc (a:Addr) (n:Nat):(a.add n).block=a.block:=by unfold Addr.add;split <;> rfl
theorem M5 (a:Addr) (m n:Nat):(a.add m).add n=a.add (m + n):=by
  by_cases hm:m=0
  · subst hm;simp [Addr.add]
  · by_cases hn:n=0
    · subst hn;simp [Addr.add]
    · have:¬ m + n=0:=by omega
      simp [Addr.add,hm,hn,this,Nat.add_assoc]
theorem rN {P:Program} {α:Type} {H:Type} {enc:TypeId × Value->H} {W:World} {base:Nat} {sp:Nat->Bool} {held:Bool} {t e:TypeId} {fuel k:Nat} {cs:List Value} {x:DataW H × List MemPlace} (f:α->List Value) (p:α->Prop) (hf:∀ z,(f z).length=k) (h0:0 < k)
    (ht:P.underlying t=some (.slice e)) (hc:P.cellsOf e=k) (each:∀ (m:Nat) (c:List Value) (y:DataW H × List MemPlace),DataW.trod enc P W base sp held m e c=some y->∃ z,c=f z/\p z) (h:DataW.trod enc P W base sp held fuel t cs=some x) :
    ∃ (zs:List α) (v:Value),cs=[v]/\zs.length<=maxLen/\bJ (AH.ofWorld W) k v (zs.flatMap f)/\∀ z ∈ zs,p z:=by
  rcases DataW.trod_slice ht h with ⟨rfl,_⟩ | ⟨a,len,cap,elems,rest,n,_,rfl,_,hb,hl,hm,hlen,hel,_,_⟩
  · exact ⟨[],_,Z,Nat.zero_le _,⟨none,0,0,Z,by simp,Nat.le_refl _,.inl Z⟩,by simp⟩
  · have key:∀ i,i < len->∃ z,p z/\∀ j,j < k->W.cell? (a.add (i * k + j))=(f z)[j]?:=by
      intro i hi
      have hq:=hel i hi
      have hsome:∃ y,elems[i]? = some y:=⟨elems[i]'O,by simp [show i < elems.length by omega]⟩
      obtain ⟨y,hy⟩:=hsome
      rw [hy,Option.bind_eq_some_iff] at hq
      obtain ⟨c,D,a1⟩:=hq
      obtain ⟨z,rfl,hz⟩:=each n c y a1
      refine ⟨z,hz,fun j hj=>?_⟩
      unfold World.cells? at D
      rw [if_pos (by rw [Fc];exact hb)] at D
      have:=mapM_some_get D j j (by rw [hc];simp [hj])
      rw [hc] at this
      rw [<- this,M5]
    obtain ⟨zs,a0,V⟩:=sd len key
    refine ⟨zs,_,rfl,by omega,⟨some a,len,cap,rfl,by rw [yW hf,a0],hl,?_⟩,fun z hz=>?_⟩
    · by_cases hz:len=0
      · exact .inl hz
      · right
        obtain ⟨blk,off,spot⟩:=a
        obtain ⟨z0,a4⟩:∃ z,zs[0]? = some z:=⟨zs[0]'O,by simp [show 0 < zs.length by omega]⟩
        have X:=(V 0 z0 a4).2 0 h0
        have a2:∃ v,(f z0)[0]? = some v:=⟨(f z0)[0]'(by rw [hf];exact h0),by simp [hf,h0]⟩
        obtain ⟨v0,a3⟩:=a2
        rw [a3] at X
        have hspot:spot=none:=by simpa [Addr.add] using World.cell?_spot X
        subst hspot
        have hcell:∀ i j,i < len->j < k->∃ z,zs[i]? = some z/\∃ cs e fr,W.heap[blk]? = some (.cells cs e fr)/\cs[off + (i * k + j)]? = (f z)[j]?:=fun i j hi hj=>by
          obtain ⟨z,hz⟩:∃ z,zs[i]? = some z:=⟨zs[i]'O,by simp [show i < zs.length by omega]⟩
          refine ⟨z,hz,?_⟩
          have:=(V i z hz).2 j hj
          have hv:(f z)[j]? = some ((f z)[j]'(by rw [hf];exact hj)):=by simp [hf,hj]
          rw [hv] at this ⊢
          rw [add_plain] at this
          simp only [World.cell?] at this
          split at this
          · rename_i cs e fr hb
            exact ⟨cs,e,fr,hb,by simpa using this⟩
          · cases this
        obtain ⟨_,_,cs,e',fr,hb,_⟩:=hcell 0 0 O h0
        refine ⟨blk,off,false,cs.toList,cs.size,Z,by simp [AH.ofWorld,hb],?_⟩
        apply List.ext_getElem?
        intro q
        by_cases hq:q < len * k
        · have hk:q / k < len:=Nat.div_lt_of_lt_mul (by rw [Nat.mul_comm];exact hq)
          have hr:q % k < k:=Nat.mod_lt _ h0
          have e1:q / k * k + q % k=q:=by rw [Nat.mul_comm];exact Nat.div_add_mod q k
          obtain ⟨z,hz,cs',e',fr',hb',h2⟩:=hcell (q / k) (q % k) hk hr
          rw [hb] at hb';cases hb'
          rw [e1] at h2
          have h3:=yV hf zs (q / k) (q % k) z hz hr
          rw [e1] at h3
          rw [List.getElem?_take_of_lt hq,List.getElem?_drop,Array.getElem?_toList,h2,h3]
        · rw [List.getElem?_eq_none Ox,List.getElem?_eq_none (by rw [yW hf,a0];omega)]
    · obtain ⟨i,hi,rfl⟩:=List.getElem_of_mem hz
      exact (V i _ (by simp [hi])).1

section
variable {H:Type} {enc:TypeId × Value->H} {W:World} {base:Nat} {sp:Nat->Bool} {held:Bool} {fuel:Nat} {x:DataW H × List MemPlace}
theorem Ao {c:List Value} (h:c.length=3):∃ a b d,c=[a,b,d]:=by
  match c,h with
  | [a,b,d],_=>exact ⟨a,b,d,Z⟩
theorem GJ {c:List Value} (h:DataW.trod enc Tryz.prog W base sp held fuel 85 c=some x):∃ z:bX,c=n0 z/\z.conj.length<=9223372036854775807:=by
  obtain ⟨xs,n,_,_,hl,hx,hi⟩:=DataW.trod_struct Tryz.underlying85 h
  rw [DF] at hl
  obtain ⟨a,b,d,rfl⟩:=Ao hl
  have some_at:∀ i,i < 3->∃ y,xs[i]? = some y:=fun i hi=>⟨xs[i]'(by rw [hx];exact hi),by simp [show i < xs.length by rw [hx];exact hi]⟩
  obtain ⟨y0,h0⟩:=some_at 0 U
  obtain ⟨y1,h1⟩:=some_at 1 U
  obtain ⟨y2,h2⟩:=some_at 2 U
  have g0:=hi 0 _ Z
  have g1:=hi 1 _ Z
  have g2:=hi 2 _ Z
  rw [h0] at g0
  rw [h1] at g1
  rw [h2] at g2
  obtain ⟨s,e0,_,hs⟩:=DataW.trod_string Tryz.underlying9 g0
  obtain ⟨r,e1,_⟩:=DataW.trod_int Tryz.underlying3 g1
  obtain ⟨v,e2,_⟩:=DataW.trod_bool Tryz.underlying4 g2
  have e0:List.take (Tryz.prog.cellsOf 9) (List.drop 0 [a,b,d])=_:=e0
  have e1:List.take (Tryz.prog.cellsOf 3) (List.drop 1 [a,b,d])=_:=e1
  have e2:List.take (Tryz.prog.cellsOf 4) (List.drop 2 [a,b,d])=_:=e2
  rw [Bq] at e0;rw [Ji] at e1;rw [QG] at e2
  have f0:a=.string s:=by simpa using e0
  have f1:b=.int .i64 r:=by simpa using e1
  have f2:d=.bool v:=by simpa using e2
  refine ⟨⟨s.data.toList,r,v⟩,?_,?_⟩
  · rw [f0,f1,f2,oH];rfl
  · unfold maxLen at hs
    show s.data.toList.length<=_
    rw [Array.length_toList]
    exact Nat.le_trans hs U
theorem GK {c:List Value} (h:DataW.trod enc Tryz.prog W base sp held fuel 83 c=some x):∃ z:au,c=ml z/\bJ (AH.ofWorld W) 3 z.pv (cN z.proof):=by
  obtain ⟨xs,n,_,_,hl,hx,hi⟩:=DataW.trod_struct Tryz.underlying83 h
  rw [DE] at hl
  obtain ⟨a,b,d,rfl⟩:=Ao hl
  have some_at:∀ i,i < 3->∃ y,xs[i]? = some y:=fun i hi=>⟨xs[i]'(by rw [hx];exact hi),by simp [show i < xs.length by rw [hx];exact hi]⟩
  obtain ⟨y0,h0⟩:=some_at 0 U
  obtain ⟨y1,h1⟩:=some_at 1 U
  obtain ⟨y2,h2⟩:=some_at 2 U
  have g0:=hi 0 _ Z
  have g1:=hi 1 _ Z
  have g2:=hi 2 _ Z
  rw [h0] at g0
  rw [h1] at g1
  rw [h2] at g2
  obtain ⟨s,e0,_,_⟩:=DataW.trod_string Tryz.underlying9 g0
  obtain ⟨r,e1,_,_⟩:=DataW.trod_string Tryz.underlying9 g1
  obtain ⟨zs,v,e2,_,hs,_⟩:=rN n0 (fun z=>z.conj.length<=9223372036854775807) (fun _=>rfl) U Tryz.underlying35 DF (fun _ _ _ h=>GJ h) g2
  have e0:List.take (Tryz.prog.cellsOf 9) (List.drop 0 [a,b,d])=_:=e0
  have e1:List.take (Tryz.prog.cellsOf 9) (List.drop 1 [a,b,d])=_:=e1
  have e2:List.take (Tryz.prog.cellsOf 35) (List.drop 2 [a,b,d])=_:=e2
  rw [Bq] at e0 e1;rw [Nr] at e2
  have f0:a=.string s:=by simpa using e0
  have f1:b=.string r:=by simpa using e1
  have f2:d=v:=by simpa using e2
  refine ⟨⟨s.data.toList,r.data.toList,v,zs⟩,?_,hs⟩
  rw [f0,f1,f2,oH,oH];rfl
theorem GO {c:List Value} (h:DataW.trod enc Tryz.prog W base sp held fuel 9 c=some x):∃ z:List UInt8,c=[aX z]/\z.length<=9223372036854775807:=by
  obtain ⟨s,e0,_,hs⟩:=DataW.trod_string Tryz.underlying9 h
  refine ⟨s.data.toList,by rw [e0,oH],?_⟩
  unfold maxLen at hs
  rw [Array.length_toList]
  exact Nat.le_trans hs U
theorem IM (l:List (List UInt8)):l.flatMap (fun w=>[aX w])=dc l:=by
  induction l with
  | nil=>rfl
  | cons a l ih=>rw [List.flatMap_cons,ih];rfl
theorem Cx {c:List Value} (h:DataW.trod enc Tryz.prog W base sp held fuel 22 c=some x):∃ (l:List (List UInt8)) (u:Value),c=[u]/\l.length<=9223372036854775807/\bJ (AH.ofWorld W) 1 u (dc l):=by
  obtain ⟨zs,v,e,hl,hs,_⟩:=rN (fun w:List UInt8=>[aX w]) (fun z=>z.length<=9223372036854775807) (fun _=>rfl) U Tryz.underlying22 Bq (fun _ _ _ h=>GO h) h
  rw [IM] at hs
  unfold maxLen at hl
  exact ⟨zs,v,e,Nat.le_trans hl U,hs⟩
theorem Cw {c:List Value} (h:DataW.trod enc Tryz.prog W base sp held fuel 25 c=some x):∃ (l:List au) (u:Value),c=[u]/\l.length<=9223372036854775807/\bJ (AH.ofWorld W) 3 u (ci l)/\Proofs (AH.ofWorld W) l:=by
  obtain ⟨zs,v,e,hl,hs,hp⟩:=rN ml (fun z=>bJ (AH.ofWorld W) 3 z.pv (cN z.proof)) (fun _=>rfl) U Tryz.underlying25 DE (fun _ _ _ h=>GK h) h
  unfold maxLen at hl
  exact ⟨zs,v,e,Nat.le_trans hl U,hs,hp⟩
end
theorem Kn {b0:Nat} {H:Type} {enc:TypeId × Value->H} {W:World} {v:Value} {d:DataW H} {ps:List MemPlace} (hval:Value.okWide Tryz.prog W .any b0 27 v) (hd:DataW.Trod enc Tryz.prog W 0 (fun _=>true) true 27 v d ps) :
    ∃ (g:Int) (u:Value) (l:List (List UInt8)) (rv:Value) (rs:List au),v=.agg #[.int .i64 g,u,rv]/\l.length<=9223372036854775807/\rs.length<=9223372036854775807/\bJ (AH.ofWorld W) 1 u (dc l)/\bJ (AH.ofWorld W) 3 rv (ci rs)/\Proofs (AH.ofWorld W) rs:=by
  obtain ⟨cs,rfl,hsz⟩:=okWide_struct Tryz.underlying27 hval
  rw [Np] at hsz
  obtain ⟨a,b,c,rfl⟩:∃ a b c,cs = #[a,b,c]:=by
    rcases cs with ⟨l⟩
    match l,hsz with
    | [a,b,c],_=>exact ⟨a,b,c,Z⟩
  obtain ⟨fuel,hf⟩:=hd
  obtain ⟨y0,y1,n,_,_,g0,g1⟩:=trod_struct2 Tryz.underlying27 hf
  obtain ⟨z0,z1,m,_,_,k0,k1⟩:=trod_struct2 Tryz.underlying24 g0
  obtain ⟨g,e0,_⟩:=DataW.trod_int Tryz.underlying3 k0
  obtain ⟨l,u,e1,h,X⟩:=Cx k1
  obtain ⟨rs,rv,e2,D,a0,V⟩:=Cw g1
  have e0:List.take (Tryz.prog.cellsOf 3) (List.drop 0 (List.take (Tryz.prog.cellsOf 24) (List.drop 0 [a,b,c])))=_:=e0
  have e1:List.take (Tryz.prog.cellsOf 22) (List.drop 1 (List.take (Tryz.prog.cellsOf 24) (List.drop 0 [a,b,c])))=_:=e1
  have e2:List.take (Tryz.prog.cellsOf 25) (List.drop 2 [a,b,c])=_:=e2
  rw [DC,Ji] at e0;rw [DC,Nh] at e1;rw [Ni] at e2
  have f0:a=.int .i64 g:=by simpa using e0
  have f1:b=u:=by simpa using e1
  have f2:c=rv:=by simpa using e2
  exact ⟨g,u,l,rv,rs,by rw [f0,f1,f2],h,D,X,a0,V⟩
theorem Gv {W:World} (h:W.ShapedOpen Tryz.prog):nr (AH.ofWorld W):=by
  have h0:((begin Tryz.prog (fun _ _=>0) default).world.heap[1]?).bind Obj.row? = some (#[.int .i64 0],3):=by kernel_rfl
  obtain ⟨m,hm⟩:=cell_of_shapedOpen_int (g:=1) (t:=3) (zero:=#[.int .i64 0]) h (of_decide_eq_true Y) h0 Z Y Y Tryz.underlying3
  obtain ⟨cs,hh,hs,_⟩:=h.1 1 #[.int .i64 0] 3 (of_decide_eq_true Y) h0
  obtain ⟨c,rfl⟩:∃ c,cs = #[c]:=by
    rcases cs with ⟨l⟩
    match l,hs with
    | [c],_=>exact ⟨c,Z⟩
  have hc:c=.int .i64 m:=by
    simp only [World.cell?,hh] at hm
    simpa using hm
  subst hc
  exact ⟨false,1,m,by simp [AH.ofWorld,hh]⟩
noncomputable def rK (os:Os):World :=
  let w:=World.holding Tryz.prog os ⟨#[],#[],[]⟩
  { w with heap:=((((w.heap.modify 0 fun
      | .cells _ t frozen=>.cells (aw c5).toArray t frozen
      | o=>o).modify 2 fun
      | .cells _ t frozen=>.cells #[.int .u64 1,.int .u64 10,.int .u64 100,.int .u64 1000,.int .u64 10000,.int .u64 100000,.int .u64 1000000,.int .u64 10000000,.int .u64 100000000,.int .u64 1000000000,.int .u64 10000000000,.int .u64 100000000000,.int .u64 1000000000000,.int .u64 10000000000000,.int .u64 100000000000000,.int .u64 1000000000000000,.int .u64 10000000000000000,.int .u64 100000000000000000,.int .u64 1000000000000000000,.int .u64 10000000000000000000] t frozen
      | o=>o).modify 3 fun
      | .cells _ t frozen=>.cells (aw [0,1,28,2,29,14,24,3,30,22,20,15,25,17,4,8,31,27,13,23,21,19,16,7,26,12,18,6,11,5,10,9]).toArray t frozen
      | o=>o).modify 4 fun
      | .cells _ t frozen=>.cells (aw [0,1,56,2,57,49,28,3,61,58,42,50,38,29,17,4,62,47,59,36,45,43,51,22,53,39,33,30,24,18,12,5,63,55,48,27,60,41,37,16,46,35,44,21,52,32,23,11,54,26,40,15,34,20,31,10,25,14,19,9,13,8,7,6]).toArray t frozen
      | o=>o) }
end Go.Proofs.YtjppkekmddjcfaaGreatDoor

namespace Go.Proofs.YtjppkekmddjcfaaGreatDoor
open Go Go.RowKit V
set_option maxRecDepth 100000
theorem mixed:Tryz.prog.follows .mixedOrders=true:=by kernel_rfl
theorem Su:dF Tryz.prog 172=some true:=by kernel_rfl
theorem fj:dF Tryz.prog 3=some false:=by kernel_rfl
theorem M7:dF Tryz.prog 5=some false:=by kernel_rfl
theorem gz:dF Tryz.prog 9=some false:=by kernel_rfl
theorem zc:Tryz.prog.info? 5=some Tryz.t5:=by kernel_rfl
theorem Tk:du Tryz.prog 172=some 16:=by kernel_rfl
theorem nI:du Tryz.prog 5=some 1:=by kernel_rfl
theorem fz:du Tryz.prog 9=some 1:=by kernel_rfl
theorem eo:type_of% @Tryz.underlying102:=@Tryz.underlying102
theorem Tr:type_of% @Tryz.underlying172:=@Tryz.underlying172
theorem Ux:type_of% @Tryz.underlying21:=@Tryz.underlying21
theorem kh:type_of% @Tryz.underlying22:=@Tryz.underlying22
theorem u4:type_of% @Tryz.underlying4:=@Tryz.underlying4
theorem u5:type_of% @Tryz.underlying5:=@Tryz.underlying5
theorem u9:type_of% @Tryz.underlying9:=@Tryz.underlying9
theorem z5:cO Tryz.prog 5=some (.int .u8 0):=by kernel_rfl
theorem z9:cO Tryz.prog 9=some (.string ⟨⟨[]⟩⟩):=by kernel_rfl

theorem EI (c:UInt8) (A:AH):bG Tryz.prog 175 #[fA (c)] A (fun v A1=>v=fA (c ^^^ 32)/\A=A1):=by
 refine iy Tryz.call175 Tryz.func175 Z Tryz.results175 Tryz.ntmps175 Z (fun wf=>?_);have h:=AH.le.refl A;refine ao.seq fun _ h2=>.region<|.q Z (ah Z)<|.nil<|h2 _ _<|.seq fun _ h4=>.region<|.q Z (ae Z)<|.q Z (KW (d:=32) Z Z)<|.q Z (ah Z) ?_;refine Ops.nil<|h4 _ _<|.rt (by exact be Z (⟨Z,Z⟩))

theorem rb (c:UInt8) (A:AH) (hL:eF A):bG Tryz.prog 98 #[fA (c)] A (fun v A1=>v=num (ix c)/\A=A1):=by
 refine iy Tryz.call98 Tryz.func98 Z Tryz.results98 Tryz.ntmps98 Z (fun wf=>?_);have a5:=AH.le.refl A;obtain ⟨rwL,capL,gL⟩:=hL;refine ao.seq fun _ h2=>.region<|.q Z (ah Z)<|.nil<|h2 _ _<|.seq fun _ h4=>.seq fun _ h6=>.region<|.q Z (am Su Tk Z Z (a5.get _ _ gL) Z)<|.q Z (ae Z) ?_;refine Ops.nil<|h6 _ _<|.block<|.loop (X:=Nat) (fun k=>[(0,fA (c)),(5,.agg #[fA (97),fA (65),fA (98),fA (66),fA (99),fA (67),fA (100),fA (68),fA (101),fA (69),fA (102),fA (70),fA (103),fA (71),fA (104),fA (72)]),(6,num ((k:Nat):Int))]) (fun k B=>(k<=16/\∀ j,j < k->c5.getD j 0 ≠ c)/\A=B) (fun k=>16 - k) 0 (nR Z Z Z) (⟨⟨by omega,fun j h=>by omega⟩,Z⟩) ?_;rintro k B8 ⟨⟨hk,hn⟩,rfl⟩;refine ao.seq fun _ D=>.region<|.q Z (cA (b:=16) Z Z)<|.nil<|D _ _<|.seq fun _ V=>.if rfl (fun a6=>?_) (fun a6=>?_)
 ·refine ao.skip<|V _ _<|.seq fun _ a0=>.block<|.seq fun _ a1=>.region<|.q Z (ae Z)<|.q Z (KJ (l:=c5) Tr nI M7 Z Z O Z)<|.q Z (ah Z)<|.q Z (ah Z) ?_;refine Ops.nil<|a1 _ _<|.seq fun _ a2=>.region<|.q Z (ae Z)<|.q Z (ae Z)<|.q Z (Ei Z Z)<|.nil<|a2 _ _<|.if rfl (fun a7=>?_) (fun a7=>?_)
  ·refine ao.seq fun _ a3=>.region<|.q Z (ae Z)<|.q Z (ah Z)<|.nil<|a3 _ _<|.rt (by exact be Z (⟨by rw [JS O hn OK];rfl,Z⟩))
  refine ao.skip<|a0 _ _<|.region<|.q Z (bN (b:=1) Z Z O)<|.q Z (ae Z)<|.nil ?_;exact ⟨k + 1,nR Z Z Z,Z,⟨⟨by omega,fun j h=>(Nat.lt_succ_iff_lt_or_eq.1 h).elim (hn j) (fun q=>by subst q;assumption)⟩,Z⟩,O1⟩
 refine ao.exit<|h4 _ _<|.seq fun _ a4=>.region<|.q Z (ah Z)<|.nil<|a4 _ _<|.rt (by exact be Z (⟨by rw [Oe (fun j h=>hn j O)];rfl,Z⟩))

theorem LG (r:Nat) (k:Int) (b cap:Nat) (rw:Bool) (A:AH) (hk:1<=k/\k<=8) (hL:eF A) (hb:A.get b=some (.row rw [num k] cap)):bG Tryz.prog 97 #[.int .i32 ((r:Nat):Int),.pointer (some ⟨b,0,none⟩)] A (fun v A1=>v=.bool (decide (127 < r) || !qe k (UInt8.ofNat r))/\A=A1):=by
 refine lN Tryz.call97 Tryz.func97 Z Tryz.results97 Tryz.ntmps97 Z (fun wf=>?_);have h:=AH.le.refl A;refine ao.seq fun _ h2=>.region<|.q Z (ah Z)<|.nil<|h2 _ _<|.seq fun _ h4=>.drawn [0,1,2,3,4,5,6,7,8,9,10,12,13,11,14,15,16] mixed Y Y Z<|.q Z Z Z (ae Z)<|.q Z Z Z (fu (b:=127) Z Z)<|.q Z Z Z (ae Z) ?_;refine bj.part (t:=6) Z (fun p5=>?_) (fun p5=>?_)
 ·refine bj.qOff Z Z Z Z Z Z<|.qOff Z Z Z Z Z Z<|.lOff Z Z Z Z Z Z<|.qOff Z Z Z Z Z Z<|.q Z Z Z (bi Z Z)<|.q Z Z Z (ae Z)<|.qOff Z Z Z Z Z Z<|.qOff Z Z Z Z Z Z<|.qOff Z Z Z Z Z Z<|.qOff Z Z Z Z Z Z ?_;refine bj.lOff Z Z Z Z Z Z<|.qOff Z Z Z Z Z Z<|.q Z Z Z (bi Z Z)<|.q Z Z Z (ah Z)<|.done<|h4 _ _<|.rt (by exact be Z (⟨by simp_all [qe,fg,TM,BH],Z⟩))
 refine bj.qOn Z Z Z Z Z (ae Z)<|.qOn Z Z Z Z Z (KE Ux u5 Z)<|.lOn Z Z Z Z Z (fun _ _ X _=>aK Z (rb (UInt8.ofNat (r)) A hL) ?_);rintro v7 A8 ⟨rfl,rfl⟩;refine X _ _ (aO.none Y)<|.qOn Z Z Z Z Z (qO Z Z)<|.q Z Z Z (bw Z Z)<|.q Z Z Z (ae Z)<|.part (t:=12) Z (fun a0=>?_) (fun a0=>?_)
 ·refine bj.qOff Z Z Z Z Z Z<|.qOff Z Z Z Z Z Z<|.qOff Z Z Z Z Z Z<|.qOff Z Z Z Z Z Z<|.lOff Z Z Z Z Z Z<|.qOff Z Z Z Z Z Z<|.q Z Z Z (bi Z Z)<|.q Z Z Z (ah Z)<|.done<|h4 _ _ ?_;refine ao.ret ?_;repeat first | with_reducible refine bE ?_ | with_reducible refine bk ?_
  exact be Z (⟨by simp_all [qe,fg,TM,BH],Z⟩)
 refine bj.qOn Z Z Z Z Z (ae Z)<|.qOn Z Z Z Z Z (KE Ux u5 Z) ?_;have D:=dL (off:=0) (h.get _ _ hb) (show _=some (num (k)) from rfl);refine bj.qOn Z Z Z Z Z (ak fj Z Z (h.get _ _ hb) Z)<|.qOn Z Z Z Z Z (Ru Z Z O)<|.lOn Z Z Z Z Z (fun _ _ V _=>aK Z (rb (UInt8.ofNat (r)) A hL) ?_);rintro a1 A14 ⟨rfl,rfl⟩;refine V _ _ (aO.list (L:=[(⟨b,0,none⟩,num (k))]) Y (bq D cL))<|.qOn Z Z Z Z Z (pz Z Z)<|.q Z Z Z (bw Z Z)<|.q Z Z Z (ah Z)<|.done<|h4 _ _<|.rt (by exact be Z (⟨by simp_all [qe,fg,TM,BH],Z⟩))

theorem zZ (g:Nat) (caps:Array Value) (q:Nat->Bool) (hq:∀ r,128<=r->q r=true) (s:List UInt8) (A:AH) (hs:s.length<=100000) (hf:∀ r B,A.le B->B.wf->bG Tryz.prog g (#[] ++ #[.int .i32 ((r:Nat):Int)] ++ caps) B (fun v B1=>v=.bool (q r)/\B=B1)):bG Tryz.prog 176 #[aX (s),.func (.func g) #[] caps,.bool (true)] A (fun v A1=>v=num (MO q s)/\A.le A1/\A1.wf):=by
 refine yl Tryz.call176 Tryz.func176 Z Tryz.results176 Tryz.ntmps176 Z (fun wf=>?_);have aa:=AH.le.refl A;refine ao.seq fun _ h2=>.region<|.q Z (ah Z)<|.nil<|h2 _ _<|.seq fun _ h4=>.seq fun _ h6=>.region<|.q Z (ae Z)<|.l Z (fun _ _ aC _=>Qh wf rfl u9 fun A9 b8 a3=>?_);have a4:=aL wf (Nat.le_trans aa.n a3.lo);have ad:=aa.trans a3.le;refine aC _ _<|.nil<|h6 _ _<|.block<|.loop (X:=Nat) (fun k=>[(1,.func (.func g) #[] caps),(2,.bool (true)),(10,.pointer (some ⟨b8,0,none⟩))]) (fun k B=>(k<=s.length/\∀ j,j < k->q (s.getD j 0).toNat=false)/\A.le B/\B.get b8=some (.obj true (.stringIter (bs s) (k)))) (fun k=>s.length - k) 0 (nR Z Z Z) (⟨⟨by omega,fun j h=>by omega⟩,ad,a3.get⟩) ?_;rintro k B13 ⟨⟨hk,hn⟩,a0,a5⟩;refine ao.wf fun a9=>.seq fun _ a6=>.region<|.l Z (fun _ _ V _=>Sa a9 Z a5 (fun a8 A18 D=>?_) (fun a8=>?_))
 ·by_cases hc21:s.getD k 0 < 128
  ·rw [FC a8 hc21] at D ⊢;have a1:=al a0 wf a4 D.n D.keep;refine V _ _<|.q Z (bf Z Z)<|.nil<|a6 _ _<|.seq fun _ ag=>.cond_true Z<|.skip<|ag _ _<|.block<|.seq fun _ ai=>?_;refine ao.region<|.q Z (bf Z Z)<|.q Z (bf Z Z)<|.q Z (ah Z)<|.q Z (ah Z)<|.nil<|ai _ _<|.seq fun _ ap=>.region<|.q Z (ae Z) ?_;refine Ops.q Z (ae Z)<|.l Z (fun _ _ ab _=>np Z Z (hf ((s.getD k 0).toNat) A18 a1 D.wf) ?_);rintro aI A31 ⟨rfl,rfl⟩;refine ab _ _<|.q Z (ae Z)<|.q Z (Qx u4 Z Z)<|.nil<|ap _ _<|.ifB Z (fun aE=>?_) (fun aE=>?_)
   ·refine ao.seq fun _ ar=>.region<|.q Z (ae Z)<|.q Z (ah Z)<|.nil<|ar _ _<|.rt (by exact be Z (⟨by rw [vP OK hn (by simpa using ‹(q _ == true)=true›)];rfl,a1,D.wf⟩))
   refine ao.skip ?_;exact ⟨k + 1,nR Z Z Z,Z,⟨(by exact ⟨by omega,fun j h=>(Nat.lt_succ_iff_lt_or_eq.1 h).elim (hn j) (fun z=>by subst z;simpa using ‹(q _ == true)=false›)⟩),a1,D.get⟩,O⟩
  have a7:=FB a8 hc21;have aD:=BG (bs s) k;have hqT:=hq _ a7;have a2:=al a0 wf a4 D.n D.keep;refine V _ _<|.q Z (bf Z Z)<|.nil<|a6 _ _<|.seq fun _ av=>.cond_true Z<|.skip<|av _ _<|.block<|.seq fun _ ay=>?_;refine ao.region<|.q Z (bf Z Z)<|.q Z (bf Z Z)<|.q Z (ah Z)<|.q Z (ah Z)<|.nil<|ay _ _<|.seq fun _ az=>.region<|.q Z (ae Z) ?_;refine Ops.q Z (ae Z)<|.l Z (fun _ _ ac _=>np Z Z (hf ((Utf8.decode (bs s) k).1) A18 a2 D.wf) ?_);rintro aP A45 ⟨rfl,rfl⟩;refine ac _ _<|.q Z (ae Z)<|.q Z (Qx u4 Z Z)<|.nil<|az _ _<|.ifB Z (fun aF=>?_) (fun aF=>?_)
  ·refine ao.seq fun _ aA=>.region<|.q Z (ae Z)<|.q Z (ah Z)<|.nil<|aA _ _<|.rt (by exact be Z (⟨by rw [vP OK hn (by exact hq _ (Tx ‹_›))];rfl,a2,D.wf⟩))
  refine ao.skip ?_;exact ⟨k + (Utf8.decode (bs s) k).2,nR Z Z Z,Z,⟨(by (exfalso;simp_all)),a2,D.get⟩,(by (exfalso;simp_all))⟩
 refine V _ _<|.q Z (bf Z Z)<|.nil<|a6 _ _<|.seq fun _ aG=>.cond_false Z<|.exit<|h4 _ _<|.seq fun _ aB=>.region ?_;refine Ops.q Z (ah Z)<|.nil<|aB _ _<|.rt (by exact be Z (⟨by rw [JL (fun j h=>hn j O)];rfl,a0,a9⟩))

theorem zR (g:Nat) (caps:Array Value) (q:Nat->Bool) (hq:∀ r,128<=r->q r=true) (s:List UInt8) (A:AH) (hs:s.length<=100000) (hf:∀ r B,A.le B->B.wf->bG Tryz.prog g (#[] ++ #[.int .i32 ((r:Nat):Int)] ++ caps) B (fun v B1=>v=.bool (q r)/\B=B1)):bG Tryz.prog 132 #[aX (s),.func (.func g) #[] caps] A (fun v A1=>v=num (MO q s)/\A.le A1/\A1.wf):=by
 refine lN Tryz.call132 Tryz.func132 Z Tryz.results132 Tryz.ntmps132 Z (fun wf=>?_);have h:=AH.le.refl A;refine ao.seq fun _ h2=>.region<|.q Z (ah Z)<|.nil<|h2 _ _<|.seq fun _ h4=>.region<|.q Z (ae Z)<|.q Z (ae Z)<|.l Z (fun _ _ X _=>aK Z (zZ g caps q hq s A hs (fun r B le wf=>hf r B (h.trans le) wf)) ?_);rintro v6 A7 ⟨rfl,D,V⟩;have a0:=h.trans D;refine X _ _<|.q Z (ah Z)<|.nil<|h4 _ _<|.rt (by exact be Z (⟨Z,a0,V⟩))

theorem uT (g:Nat) (caps:Array Value) (q:Nat->Bool) (hq:∀ r,128<=r->q r=true) (s:List UInt8) (A:AH) (hs:s.length<=100000) (hf:∀ r B,A.le B->B.wf->bG Tryz.prog g (#[] ++ #[.int .i32 ((r:Nat):Int)] ++ caps) B (fun v B1=>v=.bool (q r)/\B=B1)):bG Tryz.prog 96 #[aX (s),.func (.func g) #[] caps] A (fun v A1=>v=.bool (decide (0<=MO q s))/\A.le A1/\A1.wf):=by
 refine lN Tryz.call96 Tryz.func96 Z Tryz.results96 Tryz.ntmps96 Z (fun wf=>?_);have h:=AH.le.refl A;refine ao.seq fun _ h2=>.region<|.q Z (ah Z)<|.nil<|h2 _ _<|.seq fun _ h4=>.region<|.q Z (ae Z)<|.q Z (ae Z)<|.l Z (fun _ _ X _=>aK Z (zR g caps q hq s A hs (fun r B le wf=>hf r B (h.trans le) wf)) ?_);rintro v6 A7 ⟨rfl,D,V⟩;have a0:=h.trans D;refine X _ _<|.q Z (pz Z Z)<|.q Z (ah Z)<|.nil<|h4 _ _<|.rt (by exact be Z (⟨Z,a0,V⟩))

theorem oD (k:Int) (w:List UInt8) (A:AH) (hL:eF A):bG Tryz.prog 47 #[num (k),aX (w)] A (fun v A1=>v=num ((co k w:Nat):Int)/\A.le A1/\A1.wf):=by
 refine lN Tryz.call47 Tryz.func47 Z Tryz.results47 Tryz.ntmps47 Z (fun wf=>?_);have ac:=AH.le.refl A;refine ao.seq fun _ h2=>.region<|.l Z (fun _ _ ab _=>ej wf rfl rfl fun A5 b4 D=>?_);have V:=ac.trans D.le;refine ab _ _<|.q Z (ah Z)<|.nil<|h2 _ _<|.seq fun _ h9=>.block<|.seq fun _ a2=>.region<|.q Z (ak fj Z Z D.get Z)<|.q Z (qO Z Z) ?_;refine Ops.q Z (ae Z)<|.part (t:=8) Z (fun ad=>?_) (fun ad=>?_)
 ·refine Ops.off Z Z Z Z<|.off Z Z Z Z<|.q Z (bi Z Z)<|.q Z (ah Z)<|.nil<|a2 _ _<|.cond_true Z<|.seq fun _ a4=>.region<|.q Z (ah Z) ?_;refine Ops.nil<|a4 _ _<|.rt (by exact be Z (⟨by (rw [co,if_pos O];rfl),V,D.wf⟩))
 refine Ops.on Z Z<|.q Z (ak fj Z Z D.get Z)<|.on Z Z<|.q Z (KI Z Z)<|.q Z (bw Z Z)<|.q Z (ah Z)<|.nil<|a2 _ _<|.if rfl (fun ag=>?_) (fun ag=>?_)
 ·refine ao.seq fun _ a5=>.region<|.q Z (ah Z)<|.nil<|a5 _ _<|.rt (by exact be Z (⟨by (rw [co,if_pos O];rfl),V,D.wf⟩))
 refine ao.seq fun _ a6=>.region<|.q Z (ae Z)<|.q Z (d6 u9 Z)<|.q Z (fu (b:=100000) Z Z)<|.q Z (ah Z)<|.nil<|a6 _ _<|.if rfl (fun ai=>?_) (fun ai=>?_)
 ·refine ao.seq fun _ a7=>.region<|.q Z (ah Z)<|.nil<|a7 _ _<|.rt (by exact be Z (⟨by (rw [co,if_neg O,if_pos O];rfl),V,D.wf⟩))
 refine ao.seq fun _ a8=>.region<|.q Z (ae Z)<|.q Z (lg Z Z)<|.l Z (fun _ _ a3 _=>aK Z (uT 97 #[.pointer (some ⟨b4,0,none⟩)] (fun r=>decide (127 < r) || !qe (k) (UInt8.ofNat r)) (fun r h=>by simp;omega) w A5 O (fun r B le wf=>LG r (k) b4 _ _ B O ((hL.le V).le le) (le.get _ _ D.get))) ?_);rintro ar A27 ⟨rfl,a1,X⟩;have a0:=V.trans a1;refine a3 _ _<|.q Z (ah Z)<|.nil<|a8 _ _<|.if rfl (fun ap=>?_) (fun ap=>?_)
 ·refine ao.seq fun _ a9=>.region<|.q Z (ah Z)<|.nil<|a9 _ _<|.rt (by exact be Z (⟨by (rw [co,if_neg O,if_neg O,if_neg (by rw [(se k w).1 ‹_›];decide)];rfl),a0,X⟩))
 refine ao.skip<|h9 _ _<|.seq fun _ aa=>.region<|.q Z (ah Z)<|.nil<|aa _ _<|.rt (by exact be Z (⟨by (rw [co,if_neg O,if_neg O,if_pos (by have:=mt (se k w).2 ‹_›;simpa using this)];rfl),a0,X⟩))

theorem Pz (w:List UInt8) (A:AH) (hL:eF A):bG Tryz.prog 123 #[aX (w)] A (fun v A1=>v=.bool (vn w)/\A.le A1/\A1.wf):=by
 refine iy Tryz.call123 Tryz.func123 Z Tryz.results123 Tryz.ntmps123 Z (fun wf=>?_);have a0:=AH.le.refl A;refine ao.seq fun _ h2=>.region<|.q Z (ah Z)<|.nil<|h2 _ _<|.seq fun _ h4=>.region<|.q Z (ae Z)<|.l Z (fun _ _ V _=>aK Z (oD ((8:Nat):Int) w A hL) ?_);rintro v6 A7 ⟨rfl,h,D⟩;have X:=a0.trans h;refine V _ _<|.q Z (oq (b:=0) Z Z)<|.q Z (ah Z)<|.nil<|h4 _ _<|.rt (by exact be Z (⟨by rw [<- Mz];rfl,X,D⟩))

theorem IA (w:List UInt8) (A:AH) (hw:w.length<=1000000):bG Tryz.prog 131 #[aX (w)] A (fun v A1=>v=aX (inv w)/\A.le A1/\A1.wf):=by
 refine iy Tryz.call131 Tryz.func131 Z Tryz.results131 Tryz.ntmps131 Z (fun wf=>?_);have a0:=AH.le.refl A;refine ao.seq fun _ h2=>.region<|.q Z (ah Z)<|.nil<|h2 _ _<|.seq fun _ h4=>.region<|.q Z (ae Z)<|.q Z (d6 u9 Z)<|.l Z (fun _ _ av _=>lL (n:=w.length) (k:=w.length) wf a0 rfl rfl eo nI z5 zc rfl (Nat.le_refl _) (by show 1 * _<=_;omega) O fun A7 b6 a1 aa=>?_);have a4:=a1.get;rw [na] at a4 aa;have a3:=aL wf (Nat.le_trans a0.n a1.lo);have a8:=a0.trans a1.le;refine av _ _<|.q Z (ah Z)<|.nil<|h4 _ _<|.seq fun _ ab=>.seq fun _ ac=>.region<|.q Z (ae Z)<|.q Z (d6 u9 Z)<|.q Z (ae Z) ?_;refine Ops.nil<|ac _ _<|.block<|.loop (X:=Nat) (fun k=>[(0,aX (w)),(3,.slice (some ⟨b6,0,none⟩) w.length w.length),(9,num ((w.length:Nat):Int)),(10,num ((k:Nat):Int))]) (fun k B=>(k<=w.length)/\A.le B/\B.get b6=some (.row true (aw (jE w k)) w.length)) (fun k=>w.length - k) 0 (ks Z Z Z Z) (⟨Nat.zero_le _,a8,(uJ a4 (congrArg aw ((by exact sw w))))⟩) ?_;rintro k B17 ⟨hk,V,h⟩;refine ao.wf fun a2=>?_;have hrl:=pC w hk;refine ao.seq fun _ ad=>.region<|.q Z (cA Z Z)<|.nil<|ad _ _<|.seq fun _ ag=>.if rfl (fun ay=>?_) (fun ay=>?_)
 ·refine ao.skip<|ag _ _<|.seq fun _ ai=>.block<|.seq fun _ ap=>.region<|.q Z (ae Z)<|.q Z (ah Z)<|.nil<|ap _ _ ?_;refine ao.region<|.q Z (ae Z)<|.q Z (ae Z)<|.q Z (d6 u9 Z)<|.q Z (jc (b:=1) Z Z O)<|.q Z (ae Z)<|.q Z (jc Z Z O)<|.q Z (ae Z)<|.q Z (ae Z)<|.q Z (uC u9 Z Z O) ?_;refine Ops.l Z (fun _ _ a5 _=>aK Z (EI (w.getD k 0) B17) ?_);rintro az A30 ⟨rfl,rfl⟩;refine a5 _ _<|.q Z (aJ eo nI Z Z Z O)<|.l Z (fun _ _ a6 _=>aM (off:=((w.length - 1) - k)) a2 rfl (by simp) rfl rfl nI h OI rfl (o4 _ _ _) fun A33 D=>?_);have a9:=al V wf a3 D.n D.keep;refine a6 _ _<|.nil<|ai _ _<|.region<|.q Z (bN (b:=1) Z Z O)<|.q Z (ae Z)<|.nil ?_;exact ⟨k + 1,ks Z Z Z Z,Z,⟨O,a9,(uJ D.get (congrArg aw ((by exact uG w O))))⟩,O1⟩
 refine ao.exit<|ab _ _<|.seq fun _ ar=>.region<|.q Z (ae Z)<|.l Z (fun _ _ a7 _=>gU (s:=jE w k) Z eo u9 u5 (eR (n:=w.length) h Oz (Nat.le_refl _)) ?_);refine a7 _ _<|.q Z (ah Z)<|.nil<|ar _ _<|.rt (by exact be Z (⟨by rw [uF w O];rfl,V,a2⟩))

theorem LY (u:Value) (l:List (List UInt8)) (r:List UInt8) (A:AH) (hr:th l.flatten=r) (hT:l.flatten.length<=1000000) (hn:l.length<=1000000) (hu:bJ A 1 u (dc l)):bG Tryz.prog 133 #[u] A (fun v A1=>v=aX r/\A.le A1/\A1.wf):=by
 refine iy Tryz.call133 Tryz.func133 Z Tryz.results133 Tryz.ntmps133 Z (fun wf=>?_);have aa:=AH.le.refl A;refine ao.seq fun _ h2=>.region<|.q Z (ah Z)<|.nil<|h2 _ _<|.seq fun _ h4=>.region<|.q Z (ah Z)<|.nil<|h4 _ _ ?_;refine ao.seq fun _ h6=>.seq fun _ h8=>.region<|.q Z (ae Z)<|.q Z (bH (n:=l.length) kh Z (hu.le aa) O (eJ _))<|.q Z (ae Z)<|.nil<|h8 _ _<|.block<|.loop (X:=Nat × List UInt8 × Value) (fun ⟨k,o,s⟩=>[(3,s),(8,u),(9,num ((l.length:Nat):Int)),(10,num ((k:Nat):Int))]) (fun ⟨k,o,s⟩ B=>(k<=l.length/\(l.drop k).flatten.foldl push o=r/\o.length + (l.drop k).flatten.length<=1000000)/\A.le B/\Fresh A B s 1 (aw o)) (fun ⟨k,o,s⟩=>l.length - k) (⟨0,[],.slice none 0 0⟩) (ks Z Z Z Z) (⟨⟨Nat.zero_le _,by simpa [th] using hr,by simpa using hT⟩,aa,(Fresh.nil A A 1)⟩) ?_;rintro ⟨k,o,s⟩ B10 ⟨⟨hk,h1,h2⟩,a6,a1⟩;refine ao.wf fun az=>?_;have hd:=fun q:k < l.length=>FK q;refine ao.seq fun _ aI=>.region<|.q Z (cA Z Z)<|.nil<|aI _ _<|.seq fun _ aP=>.if rfl (fun b6=>?_) (fun b6=>?_)
 ·refine ao.skip<|aP _ _<|.seq fun _ aR=>.block<|.seq fun _ aS=>.region ?_;obtain ⟨bu,bB,bp,bP,bl,bL,bC,aE,b2,aG,bc,ab⟩:=bJ.at (i:=k) (hu.le a6) Ow O;refine Ops.q Z (aJ kh fz Z aE Z b2)<|.q Z (ak gz Z Z aG ((dh ab).trans (f5 O)))<|.q Z (ah Z)<|.nil<|aS _ _<|.seq fun _ aT=>.region<|.q Z (ae Z)<|.q Z (d6 u9 Z)<|.q Z (ae Z) ?_;refine Ops.nil<|aT _ _<|.block<|.loop (X:=Nat × List UInt8 × Value) (fun ⟨i,o2,s2⟩=>[(3,s2),(5,aX (l.getD k [])),(8,u),(9,num ((l.length:Nat):Int)),(10,num ((k:Nat):Int)),(15,num (((l.getD k []).length:Nat):Int)),(16,num ((i:Nat):Int))]) (fun ⟨i,o2,s2⟩ B=>(i<=(l.getD k []).length/\((l.getD k []).drop i).foldl push o2=(l.getD k []).foldl push o/\o2.length<=o.length + i)/\A.le B/\Fresh A B s2 1 (aw o2)) (fun ⟨i,o2,s2⟩=>(l.getD k []).length - i) (⟨0,o,s⟩) (vK Z Z Z Z Z Z Z) (⟨⟨Nat.zero_le _,Z,Nat.le_refl _⟩,a6,a1⟩) ?_;rintro ⟨i,o2,s2⟩ B25 ⟨⟨hi,h3,h4⟩,V,D⟩;refine ao.wf fun aA=>.seq fun _ aV=>.region<|.q Z (cA Z Z)<|.nil<|aV _ _<|.seq fun _ aY=>.if rfl (fun b7=>?_) (fun b7=>?_)
  ·refine ao.skip<|aY _ _<|.seq fun _ a9=>.block<|.seq fun _ aZ=>.region<|.q Z (ae Z)<|.q Z (ah Z)<|.nil<|aZ _ _ ?_;refine ao.seq fun _ b0=>.region<|.q Z (ae Z)<|.q Z (bH (n:=o2.length) eo Z D.slc O (fJ _))<|.q Z (ah Z)<|.nil<|b0 _ _<|.join (fun f A1=>an [(34,.bool (decide (0 < o2.length/\o2.getD (o2.length - 1) 0=(l.getD k []).getD i 0 ^^^ 32))),(3,s2),(5,aX (l.getD k [])),(8,u),(9,num ((l.length:Nat):Int)),(10,num ((k:Nat):Int)),(15,num (((l.getD k []).length:Nat):Int)),(16,num ((i:Nat):Int)),(17,.bool (decide (i < (l.getD k []).length))),(18,num ((i:Nat):Int)),(6,num ((i:Nat):Int)),(19,s2),(20,num ((o2.length:Nat):Int)),(7,num ((o2.length:Nat):Int))] f.e/\f.ds=[]/\B25=A1) ?_ ?_
   ·refine ao.drawn [0,1,2,3,4,5,6,7,8,9,10,11,12,13] mixed Y Y Z<|.q Z Z Z (ae Z)<|.q Z Z Z (fu (b:=0) Z Z)<|.q Z Z Z (ae Z)<|.part (t:=23) Z (fun b8=>?_) (fun b8=>?_)
    ·refine bj.qOn Z Z Z Z Z (ae Z)<|.qOn Z Z Z Z Z (ae Z)<|.qOn Z Z Z Z Z (jc (b:=1) Z Z O) ?_;obtain ⟨aB,a7,br,bR,bm,bM,bD,aF,b3,a8,bd,a3⟩:=bJ.at (i:=o2.length - 1) D.slc Oz O;refine bj.qOn Z Z Z Z Z (aJ eo nI Z aF Z b3) ?_;have ad:=dL (off:=a7 + (o2.length - 1) * 1) a8 ((dh a3).trans (i7 O));refine bj.qOn Z Z Z Z Z (ak M7 Z Z a8 ((dh a3).trans (i7 O)))<|.qOn Z Z Z Z Z (ae Z)<|.qOn Z Z Z Z Z (ae Z)<|.qOn Z Z Z Z Z (uC u9 Z Z O)<|.lOn Z Z Z Z Z (fun _ _ ag _=>aK Z (EI ((l.getD k []).getD i 0) B25) ?_);rintro bS A45 ⟨rfl,rfl⟩;refine ag _ _ (aO.list (L:=[(⟨aB,a7 + (o2.length - 1) * 1,none⟩,fA (o2.getD (o2.length - 1) 0))]) Y (bq ad cL))<|.qOn Z Z Z Z Z (Ei Z Z)<|.q Z Z Z (bi Z Z)<|.done ?_;exact ⟨an.cons (show some _=some _ from congrArg (fun b=>some (Value.bool b)) (show (decide ((o2.getD (o2.length - 1) 0)=(((l.getD k []).getD i 0) ^^^ 32)))=decide (0 < o2.length/\o2.getD (o2.length - 1) 0=(l.getD k []).getD i 0 ^^^ 32) from (by simp only [‹0 < _›,true_and])))<|an.cons Z<|an.cons Z<|an.cons Z<|an.cons Z<|an.cons Z<|an.cons Z<|an.cons Z<|an.cons Z<|an.cons Z<|an.cons Z<|an.cons Z<|an.cons Z<|an.cons Z<|an.nil _,Z,Z⟩
    refine bj.qOff Z Z Z Z Z Z<|.qOff Z Z Z Z Z Z<|.qOff Z Z Z Z Z Z<|.qOff Z Z Z Z Z Z<|.qOff Z Z Z Z Z Z<|.qOff Z Z Z Z Z Z<|.qOff Z Z Z Z Z Z<|.qOff Z Z Z Z Z Z<|.lOff Z Z Z Z Z Z<|.qOff Z Z Z Z Z Z ?_;refine bj.q Z Z Z (bw Z Z)<|.done ?_;exact ⟨an.cons (show some _=some _ from congrArg (fun b=>some (Value.bool b)) (show (false)=decide (0 < o2.length/\o2.getD (o2.length - 1) 0=(l.getD k []).getD i 0 ^^^ 32) from (by simp only [‹¬ 0 < _›,false_and,decide_false])))<|an.cons Z<|an.cons Z<|an.cons Z<|an.cons Z<|an.cons Z<|an.cons Z<|an.cons Z<|an.cons Z<|an.cons Z<|an.cons Z<|an.cons Z<|an.cons Z<|an.cons Z<|an.nil _,Z,Z⟩
   rintro ⟨fe,fd⟩ _ ⟨hE,rfl,rfl⟩;refine ao.forget hE<|.if rfl (fun b9=>?_) (fun b9=>?_)
   ·refine ao.region<|.q Z (ae Z)<|.q Z (ae Z)<|.q Z (jc (b:=1) Z Z O) ?_;obtain ⟨aC,bO,aD,ba,b5,bA⟩:=D.nonnil (by intro q;have:=congrArg List.length q;simp only [bn,List.length_nil] at this;omega);subst ba;rw [bn,Nat.mul_one] at b5;have a4:=D.take (k:=o2.length - 1) O;rw [Nat.mul_one,mF] at a4;refine Ops.q Z (ou eo nI Z Z O)<|.q Z (ah Z)<|.nil<|a9 _ _<|.region<|.q Z (bN (b:=1) Z Z O)<|.q Z (ae Z)<|.nil ?_;exact ⟨⟨i + 1,o2.take (o2.length - 1),.slice (some ⟨aC,0,none⟩) (o2.length - 1) aD⟩,vK Z Z Z Z Z Z Z,Z,⟨⟨by omega,by exact Ef OK h3 ‹_›,by simp only [List.length_append,List.length_take,List.length_cons,List.length_nil];omega⟩,V,a4⟩,O1⟩
   refine ao.region<|.q Z (ae Z)<|.q Z (ae Z)<|.q Z (ae Z)<|.q Z (uC u9 Z Z O)<|.l Z (fun _ _ ai _=>aN (c:=[fA ((l.getD k []).getD i 0)]) aA rfl (ax eo nI z5 rfl U U rfl) fun A52 bv a0=>?_);have a5:=D.le a0.le;have av:=V.trans a0.le;refine ai _ _<|.l Z (fun _ _ ap _=>cJ (ys:=[fA ((l.getD k []).getD i 0)]) rfl rfl eo nI zc z5 rfl U eo (fun _ h=>by cases h) a5.own (bW (n:=1) a0.get Z) rfl rfl (by show (_ + _) * 1<=_;simp only [bn,List.length_cons,List.length_nil];have:=hd OK;omega) (by simp only [bn,List.length_cons,List.length_nil];have:=hd OK;omega) fun A58 bb a2=>?_);rw [show ([fA ((l.getD k []).getD i 0)]:List Value)=aw [(l.getD k []).getD i 0] from rfl,iw] at a2;obtain ⟨ac,ay⟩:=Fresh.grow a5 av wf a2;refine ap _ _<|.q Z (ah Z)<|.nil<|a9 _ _<|.region<|.q Z (bN (b:=1) Z Z O)<|.q Z (ae Z)<|.nil ?_;exact ⟨⟨i + 1,o2 ++ [(l.getD k []).getD i 0],bb⟩,vK Z Z Z Z Z Z Z,Z,⟨⟨by omega,by exact Eh OK h3 ‹_›,by simp only [List.length_append,List.length_take,List.length_cons,List.length_nil];omega⟩,ay,ac⟩,O1⟩
  refine ao.exit<|aR _ _<|.region<|.q Z (bN (b:=1) Z Z O)<|.q Z (ae Z)<|.nil ?_;exact ⟨⟨k + 1,o2,s2⟩,ks Z Z Z Z,Z,⟨⟨by omega,rX OK h1 (by rw [tU O] at h3;exact h3.symm),by omega⟩,V,D⟩,O1⟩
 refine ao.exit<|h6 _ _<|.seq fun _ b1=>.region<|.q Z (ae Z)<|.l Z (fun _ _ ar _=>gU (s:=o) Z eo u9 u5 a1.slc ?_);refine ar _ _<|.q Z (ah Z)<|.nil<|b1 _ _<|.rt (by exact be Z (⟨by rw [rz O] at h1;rw [<- h1];rfl,a6,az⟩))

theorem rc (w:List UInt8) (A:AH) (hw:w.length<=1000000) (hL:eF A):bG Tryz.prog 99 #[aX (w)] A (fun v A1=>v=aX (dy w)/\A.le A1/\A1.wf):=by
 refine iy Tryz.call99 Tryz.func99 Z Tryz.results99 Tryz.ntmps99 Z (fun wf=>?_);have a9:=AH.le.refl A;refine ao.seq fun _ h2=>.region<|.q Z (ah Z)<|.nil<|h2 _ _<|.seq fun _ h4=>.seq fun _ h6=>.region<|.q Z (ae Z)<|.l Z (fun _ _ a8 _=>aK Z (Pz w A hL) ?_);rintro v8 A9 ⟨rfl,X,h⟩;have D:=a9.trans X;refine a8 _ _<|.q Z (eE Z)<|.nil<|h6 _ _<|.ifB Z (fun aa=>?_) (fun aa=>?_)
 ·refine ao.seq fun _ a6=>.region<|.q Z (ah Z)<|.nil<|a6 _ _<|.rt (by exact be Z (⟨by unfold dy;(rw [if_neg (by simpa using ‹(!vn w)=true›)];rfl),D,h⟩))
 refine ao.skip<|h4 _ _<|.seq fun _ a7=>.region<|.q Z (ae Z)<|.l Z (fun _ _ a2 _=>aN (c:=[aX (w)]) h rfl (ax kh fz z9 rfl U U rfl) fun A19 ab V=>?_);have a4:=D.trans V.le;refine a2 _ _<|.l Z (fun _ _ a3 _=>aK Z (LY _ ([w]) (th w) A19 (by simp) Ox (by simp) (eR (n:=1) V.get Z (Nat.le_refl _))) ?_);rintro ac A24 ⟨rfl,a0,a1⟩;have a5:=a4.trans a0;refine a3 _ _<|.q Z (ah Z)<|.nil<|a7 _ _<|.rt (by exact be Z (⟨by unfold dy;(rw [if_pos (by simpa using ‹(!vn w)=false›)];rfl),a5,a1⟩))

theorem Ik (w:List UInt8) (A:AH) (hw:w.length<=1000000) (hL:eF A):bG Tryz.prog 93 #[aX (w)] A (fun v A1=>v=aX (gO w)/\A.le A1/\A1.wf):=by
 refine iy Tryz.call93 Tryz.func93 Z Tryz.results93 Tryz.ntmps93 Z (fun wf=>?_);have a6:=AH.le.refl A;refine ao.seq fun _ h2=>.region<|.q Z (ah Z)<|.nil<|h2 _ _<|.seq fun _ h4=>.seq fun _ h6=>.region<|.q Z (ae Z)<|.l Z (fun _ _ a5 _=>aK Z (Pz w A hL) ?_);rintro v8 A9 ⟨rfl,D,X⟩;have h:=a6.trans D;refine a5 _ _<|.q Z (eE Z)<|.nil<|h6 _ _<|.ifB Z (fun a7=>?_) (fun a7=>?_)
 ·refine ao.seq fun _ a3=>.region<|.q Z (ah Z)<|.nil<|a3 _ _<|.rt (by exact be Z (⟨by unfold gO;(rw [if_neg (by simpa using ‹(!vn w)=true›)];rfl),h,X⟩))
 refine ao.skip<|h4 _ _<|.seq fun _ a4=>.region<|.q Z (ae Z)<|.l Z (fun _ _ a1 _=>aK Z (IA w A9 O) ?_);rintro a8 A19 ⟨rfl,V,a0⟩;have a2:=h.trans V;refine a1 _ _<|.q Z (ah Z)<|.nil<|a4 _ _<|.rt (by exact be Z (⟨by unfold gO;(rw [if_pos (by simpa using ‹(!vn w)=false›)];rfl),a2,a0⟩))

theorem Ip (x y:List UInt8) (A:AH) (hx:x.length<=1000000) (hy:y.length<=1000000) (hL:eF A):bG Tryz.prog 124 #[aX (x),aX (y)] A (fun v A1=>v=num (nZ x y)/\A=A1):=by
 refine lN Tryz.call124 Tryz.func124 Z Tryz.results124 Tryz.ntmps124 Z (fun wf=>?_);have av:=AH.le.refl A;refine ao.seq fun _ h2=>.region<|.q Z (ah Z)<|.nil<|h2 _ _<|.seq fun _ h4=>.seq fun _ h6=>.region<|.q Z (ae Z)<|.q Z (d6 u9 Z) ?_;refine Ops.q Z (ae Z)<|.q Z (d6 u9 Z)<|.q Z (fF Z Z)<|.nil<|h6 _ _<|.if rfl (fun p7=>?_) (fun p7=>?_)
 ·refine ao.seq fun _ h9=>.seq fun _ V=>.region<|.q Z (ae Z)<|.q Z (d6 u9 Z)<|.q Z (ae Z)<|.q Z (d6 u9 Z)<|.q Z (cA Z Z)<|.nil<|V _ _ ?_;refine ao.if rfl (fun ag=>?_) (fun ag=>?_)
  ·refine ao.seq fun _ a0=>.region<|.q Z (ah Z)<|.nil<|a0 _ _<|.rt (by exact be Z (⟨by simp_all [fg,nZ],Z⟩))
  refine ao.skip<|h9 _ _<|.seq fun _ a1=>.region<|.q Z (ah Z)<|.nil<|a1 _ _<|.rt (by exact be Z (⟨by simp_all [fg,nZ],Z⟩))
 refine ao.skip<|h4 _ _<|.seq fun _ a2=>.seq fun _ a3=>.region<|.q Z (ae Z)<|.q Z (d6 u9 Z)<|.q Z (ae Z)<|.nil<|a3 _ _ ?_;refine ao.block<|.loop (X:=Nat) (fun k=>[(0,aX (x)),(1,aX (y)),(19,num ((x.length:Nat):Int)),(20,num ((k:Nat):Int))]) (fun k B=>(k<=x.length/\nx (x.drop k) (y.drop k)=nZ x y)/\A=B) (fun k=>x.length - k) 0 (ks Z Z Z Z) (⟨⟨Nat.zero_le _,(Nx ‹_›).symm⟩,Z⟩) ?_;rintro k B22 ⟨⟨hk,hc⟩,rfl⟩;refine ao.seq fun _ a4=>.region<|.q Z (cA Z Z)<|.nil<|a4 _ _<|.seq fun _ a5=>.if rfl (fun ai=>?_) (fun ai=>?_)
 ·refine ao.skip<|a5 _ _<|.seq fun _ a6=>.block<|.seq fun _ a7=>.region<|.q Z (ae Z)<|.q Z (ah Z)<|.nil<|a7 _ _ ?_;refine ao.seq fun _ a8=>.drawn [0,1,2,4,5,6,3,7,8,9] mixed Y Y Z<|.q Z Z Z (ae Z)<|.q Z Z Z (ae Z)<|.q Z Z Z (uC u9 Z Z O)<|.q Z Z Z (ae Z)<|.q Z Z Z (ae Z)<|.q Z Z Z (uC u9 Z Z O)<|.l Z Z Z (fun _ _ h _=>aK Z (rb (x.getD k 0) A hL) ?_);rintro ay A36 ⟨rfl,rfl⟩;refine h _ _ (aO.none Y)<|.l Z Z Z (fun _ _ D _=>aK Z (rb (y.getD k 0) A hL) ?_);rintro az A40 ⟨rfl,rfl⟩;refine D _ _ (aO.none Y)<|.q Z Z Z (ah Z)<|.q Z Z Z (ah Z)<|.done<|a8 _ _<|.block<|.seq fun _ a9=>.region<|.q Z (ae Z)<|.q Z (ae Z) ?_;refine Ops.q Z (qO Z Z)<|.q Z (ah Z)<|.nil<|a9 _ _<|.if rfl (fun ap=>?_) (fun ap=>?_)
  ·refine ao.seq fun _ aa=>.region<|.q Z (ah Z)<|.nil<|aa _ _<|.rt (by exact be Z (⟨by (rw [ry O O,if_pos ‹_›] at hc;rw [<- hc];rfl),Z⟩))
  refine ao.seq fun _ ab=>.region<|.q Z (ae Z)<|.q Z (ae Z)<|.q Z (KI Z Z)<|.q Z (ah Z)<|.nil<|ab _ _<|.if rfl (fun ar=>?_) (fun ar=>?_)
  ·refine ao.seq fun _ ac=>.region<|.q Z (ah Z)<|.nil<|ac _ _<|.rt (by exact be Z (⟨by (rw [ry O O,if_neg ‹_›,if_pos ‹_›] at hc;rw [<- hc];rfl),Z⟩))
  refine ao.skip<|a6 _ _<|.region<|.q Z (bN (b:=1) Z Z O)<|.q Z (ae Z)<|.nil ?_;exact ⟨k + 1,ks Z Z Z Z,Z,⟨⟨by omega,by rw [ry O O,if_neg ‹_›,if_neg ‹_›] at hc;exact hc⟩,Z⟩,O1⟩
 refine ao.exit<|a2 _ _<|.seq fun _ ad=>.region<|.q Z (ah Z)<|.nil<|ad _ _<|.rt (by exact be Z (⟨by (rw [Jk O] at hc;rw [<- hc];rfl),Z⟩))

theorem ww (x y:List UInt8) (A:AH) (hx:x.length<=1000000) (hy:y.length<=1000000) (hL:eF A):bG Tryz.prog 87 #[aX (x),aX (y)] A (fun v A1=>v=num (fx x y)/\A.le A1/\A1.wf):=by
 refine lN Tryz.call87 Tryz.func87 Z Tryz.results87 Tryz.ntmps87 Z (fun wf=>?_);have a8:=AH.le.refl A;refine ao.seq fun _ h2=>.region<|.q Z (ah Z)<|.nil<|h2 _ _<|.seq fun _ h4=>.seq fun _ h6=>.region<|.q Z (ae Z)<|.l Z (fun _ _ a7 _=>aK Z (Pz x A hL) ?_);rintro v8 A9 ⟨rfl,X,a1⟩;have h:=a8.trans X;refine a7 _ _<|.q Z (eE Z)<|.q Z (ae Z)<|.partB (t:=8) Z (fun a9=>?_) (fun a9=>?_)
 ·refine Ops.off Z Z Z Z<|.off Z Z Z Z<|.off Z Z Z Z<|.q Z (bi Z Z)<|.nil<|h6 _ _<|.cond_true Z<|.seq fun _ a4=>.region<|.q Z (ah Z) ?_;refine Ops.nil<|a4 _ _<|.rt (by exact be Z (⟨by simp_all [fg,fx],h,a1⟩))
 refine Ops.on Z Z<|.q Z (ae Z)<|.on Z Z<|.l Z (fun _ _ a2 _=>aK Z (Pz y A9 (hL.le h)) ?_);rintro ab A17 ⟨rfl,a0,V⟩;have D:=h.trans a0;refine a2 _ _<|.on Z Z<|.q Z (eE Z)<|.q Z (bw Z Z)<|.nil<|h6 _ _<|.ifB Z (fun aa=>?_) (fun aa=>?_)
 ·refine ao.seq fun _ a5=>.region<|.q Z (ah Z)<|.nil<|a5 _ _<|.rt (by exact be Z (⟨by simp_all [fg,fx],D,V⟩))
 refine ao.skip<|h4 _ _<|.seq fun _ a6=>.region<|.q Z (ae Z)<|.q Z (ae Z)<|.l Z (fun _ _ a3 _=>aK Z (Ip x y A17 O O (hL.le D)) ?_);rintro ac A27 ⟨rfl,rfl⟩;refine a3 _ _<|.q Z (ah Z)<|.nil<|a6 _ _<|.rt (by exact be Z (⟨by simp_all [fg,fx],D,V⟩))
end Go.Proofs.YtjppkekmddjcfaaGreatDoor

namespace Go.Proofs.YtjppkekmddjcfaaGreatDoor
open Go Go.RowKit V
set_option maxRecDepth 100000


theorem xY (g:Nat) (caps:Array Value) (q:List UInt8->Bool) (u:Value) (l:List (List UInt8)) (A:AH) (hn:l.length<=9223372036854775807) (hu:bJ A 1 u (dc l)) (hf:∀ s,s ∈ l->∀ B,A.le B->B.wf->bG Tryz.prog g (#[] ++ #[aX s] ++ caps) B (fun v B1=>v=.bool (q s)/\B.le B1/\B1.wf)):bG Tryz.prog 167 #[u,.func (.func g) #[] caps] A (fun v A1=>v=num (za q l)/\A.le A1/\A1.wf):=by
 refine lN Tryz.call167 Tryz.func167 Z Tryz.results167 Tryz.ntmps167 Z (fun wf=>?_);have a2:=AH.le.refl A;refine ao.seq fun _ h2=>.region<|.q Z (ah Z)<|.nil<|h2 _ _<|.seq fun _ h4=>.seq fun _ h6=>.region<|.q Z (ae Z)<|.q Z (bH (n:=l.length) kh Z (hu.le a2) O (eJ _)) ?_;refine Ops.q Z (ae Z)<|.nil<|h6 _ _<|.block<|.loop (X:=Nat) (fun k=>[(0,u),(1,.func (.func g) #[] caps),(7,num ((l.length:Nat):Int)),(8,num ((k:Nat):Int))]) (fun k B=>(k<=l.length/\∀ j,j < k->q (l.getD j [])=false)/\A.le B) (fun k=>l.length - k) 0 (ks Z Z Z Z) (⟨⟨by omega,fun j h=>by omega⟩,a2⟩) ?_;rintro k B8 ⟨⟨hk,hq⟩,D⟩;refine ao.wf fun a3=>.seq fun _ a8=>.region<|.q Z (cA Z Z)<|.nil<|a8 _ _<|.seq fun _ a9=>.if rfl (fun ap=>?_) (fun ap=>?_)
 ·refine ao.skip<|a9 _ _<|.seq fun _ aa=>.block<|.seq fun _ ab=>.region<|.q Z (ae Z)<|.q Z (ah Z)<|.nil<|ab _ _ ?_;refine ao.seq fun _ ac=>.region<|.q Z (ae Z)<|.q Z (ae Z)<|.q Z (ae Z) ?_;obtain ⟨aA,aB,az,aE,ay,aD,aC,a6,ai,a7,av,a4⟩:=bJ.at (i:=k) (hu.le D) Ow O;refine Ops.q Z (aJ kh fz Z a6 Z ai)<|.q Z (ak gz Z Z a7 ((dh a4).trans (f5 O)))<|.l Z (fun _ _ a5 _=>np Z Z (hf _ (bx O) B8 D a3) ?_);rintro aF A24 ⟨rfl,a0,a1⟩;have V:=D.trans a0;refine a5 _ _<|.nil<|ac _ _<|.ifB Z (fun ar=>?_) (fun ar=>?_)
  ·refine ao.seq fun _ ad=>.region<|.q Z (ae Z)<|.q Z (ah Z)<|.nil<|ad _ _<|.rt (by exact be Z (⟨by rw [vQ (d:=[]) OK hq ‹_›];rfl,V,a1⟩))
  refine ao.skip<|aa _ _<|.region<|.q Z (bN (b:=1) Z Z O)<|.q Z (ae Z)<|.nil ?_;exact ⟨k + 1,ks Z Z Z Z,Z,⟨⟨by omega,fun j h=>(Nat.lt_succ_iff_lt_or_eq.1 h).elim (hq j) (fun z=>by subst z;assumption)⟩,V⟩,O1⟩
 refine ao.exit<|h4 _ _<|.seq fun _ ag=>.region<|.q Z (ah Z)<|.nil<|ag _ _<|.rt (by exact be Z (⟨by rw [zb (d:=[]) (fun j h=>hq j O)];rfl,D,a3⟩))

theorem sL (g:Nat) (caps:Array Value) (q:List UInt8->Bool) (u:Value) (l:List (List UInt8)) (A:AH) (hn:l.length<=9223372036854775807) (hu:bJ A 1 u (dc l)) (hf:∀ s,s ∈ l->∀ B,A.le B->B.wf->bG Tryz.prog g (#[] ++ #[aX s] ++ caps) B (fun v B1=>v=.bool (q s)/\B.le B1/\B1.wf)):bG Tryz.prog 126 #[u,.func (.func g) #[] caps] A (fun v A1=>v=.bool (decide (0<=za q l))/\A.le A1/\A1.wf):=by
 refine lN Tryz.call126 Tryz.func126 Z Tryz.results126 Tryz.ntmps126 Z (fun wf=>?_);have h:=AH.le.refl A;refine ao.seq fun _ h2=>.region<|.q Z (ah Z)<|.nil<|h2 _ _<|.seq fun _ h4=>.region<|.q Z (ae Z)<|.q Z (ae Z)<|.l Z (fun _ _ X _=>aK Z (xY g caps q u l A hn (hu.le h) (fun s hs B le wf=>hf s hs B (h.trans le) wf)) ?_);rintro v6 A7 ⟨rfl,D,V⟩;have a0:=h.trans D;refine X _ _<|.q Z (pz Z Z)<|.q Z (ah Z)<|.nil<|h4 _ _<|.rt (by exact be Z (⟨Z,a0,V⟩))
end Go.Proofs.YtjppkekmddjcfaaGreatDoor

namespace Go.Proofs.YtjppkekmddjcfaaGreatDoor
open Go Go.RowKit V
set_option maxRecDepth 100000
theorem u3:type_of% @Tryz.underlying3:=@Tryz.underlying3

end Go.Proofs.YtjppkekmddjcfaaGreatDoor

namespace Go.Proofs.YtjppkekmddjcfaaGreatDoor
open Go Go.RowKit V
set_option maxRecDepth 100000


end Go.Proofs.YtjppkekmddjcfaaGreatDoor

namespace Go.Proofs.YtjppkekmddjcfaaGreatDoor
open Go Go.RowKit V
set_option maxRecDepth 100000


end Go.Proofs.YtjppkekmddjcfaaGreatDoor

namespace Go.Proofs.YtjppkekmddjcfaaGreatDoor
open Go Go.RowKit V
set_option maxRecDepth 100000
theorem lU:dF Tryz.prog 22=some false:=by kernel_rfl
theorem sG:dF Tryz.prog 24=some true:=by kernel_rfl
theorem ns:dF Tryz.prog 35=some false:=by kernel_rfl
theorem vm:dF Tryz.prog 4=some false:=by kernel_rfl
theorem yw:dF Tryz.prog 85=some true:=by kernel_rfl
theorem ia:eb Tryz.prog 24 0=some (3,0):=by kernel_rfl
theorem go:eb Tryz.prog 24 1=some (22,1):=by kernel_rfl
theorem mN:eb Tryz.prog 85 0=some (9,0):=by kernel_rfl
theorem BQ:eb Tryz.prog 85 1=some (3,1):=by kernel_rfl
theorem Rd:eb Tryz.prog 85 2=some (4,2):=by kernel_rfl
theorem ms:du Tryz.prog 22=some 1:=by kernel_rfl
theorem iA:du Tryz.prog 24=some 2:=by kernel_rfl
theorem dx:du Tryz.prog 3=some 1:=by kernel_rfl
theorem jG:du Tryz.prog 35=some 1:=by kernel_rfl
theorem lJ:du Tryz.prog 4=some 1:=by kernel_rfl
theorem jz:du Tryz.prog 85=some 3:=by kernel_rfl
theorem oO:type_of% @Tryz.underlying35:=@Tryz.underlying35
theorem Uf:type_of% @Tryz.underlying99:=@Tryz.underlying99
theorem UG:cO Tryz.prog 35=some (.slice none 0 0):=by kernel_rfl
theorem IW:cO Tryz.prog 85=some (.agg #[.string ⟨⟨[]⟩⟩,.int .i64 0,.bool false]):=by kernel_rfl

end Go.Proofs.YtjppkekmddjcfaaGreatDoor

namespace Go.Proofs.YtjppkekmddjcfaaGreatDoor
open Go Go.RowKit V
set_option maxRecDepth 100000


theorem zY (c:UInt8) (A:AH):bG Tryz.prog 194 #[fA (c)] A (fun v A1=>v=fA (c ^^^ 32)/\A=A1):=by
 refine iy Tryz.call194 Tryz.func194 Z Tryz.results194 Tryz.ntmps194 Z (fun wf=>?_);have h:=AH.le.refl A;refine ao.seq fun _ h2=>.region<|.q Z (ah Z)<|.nil<|h2 _ _<|.seq fun _ h4=>.region<|.q Z (ae Z)<|.q Z (KW (d:=32) Z Z)<|.q Z (ah Z) ?_;refine Ops.nil<|h4 _ _<|.rt (by exact be Z (⟨Z,Z⟩))

theorem zX (a c:UInt8) (A:AH):bG Tryz.prog 174 #[fA (a),fA (c)] A (fun v A1=>v=.bool (decide (a=c ^^^ 32))/\A=A1):=by
 refine lN Tryz.call174 Tryz.func174 Z Tryz.results174 Tryz.ntmps174 Z (fun wf=>?_);have D:=AH.le.refl A;refine ao.seq fun _ h2=>.region<|.q Z (ah Z)<|.nil<|h2 _ _<|.seq fun _ h4=>.region<|.q Z (ae Z)<|.q Z (ae Z)<|.l Z (fun _ _ h _=>aK Z (zY c A) ?_);rintro v6 A7 ⟨rfl,rfl⟩;refine h _ _<|.q Z (Ei Z Z)<|.q Z (ah Z)<|.nil<|h4 _ _<|.rt (by exact be Z (⟨Z,Z⟩))

theorem uW (w:List UInt8) (A:AH) (hw:w.length<=1000000):bG Tryz.prog 172 #[aX (w)] A (fun v A1=>v=aX (inv w)/\A.le A1/\A1.wf):=by
 refine iy Tryz.call172 Tryz.func172 Z Tryz.results172 Tryz.ntmps172 Z (fun wf=>?_);have a0:=AH.le.refl A;refine ao.seq fun _ h2=>.region<|.q Z (ah Z)<|.nil<|h2 _ _<|.seq fun _ h4=>.region<|.q Z (ae Z)<|.q Z (d6 u9 Z)<|.l Z (fun _ _ av _=>lL (n:=w.length) (k:=w.length) wf a0 rfl rfl eo nI z5 zc rfl (Nat.le_refl _) (by show 1 * _<=_;omega) O fun A7 b6 a1 aa=>?_);have a4:=a1.get;rw [na] at a4 aa;have a3:=aL wf (Nat.le_trans a0.n a1.lo);have a8:=a0.trans a1.le;refine av _ _<|.q Z (ah Z)<|.nil<|h4 _ _<|.seq fun _ ab=>.seq fun _ ac=>.region<|.q Z (ae Z)<|.q Z (d6 u9 Z)<|.q Z (ae Z) ?_;refine Ops.nil<|ac _ _<|.block<|.loop (X:=Nat) (fun k=>[(0,aX (w)),(3,.slice (some ⟨b6,0,none⟩) w.length w.length),(9,num ((w.length:Nat):Int)),(10,num ((k:Nat):Int))]) (fun k B=>(k<=w.length)/\A.le B/\B.get b6=some (.row true (aw (jE w k)) w.length)) (fun k=>w.length - k) 0 (ks Z Z Z Z) (⟨Nat.zero_le _,a8,(uJ a4 (congrArg aw ((by exact sw w))))⟩) ?_;rintro k B17 ⟨hk,V,h⟩;refine ao.wf fun a2=>?_;have hrl:=pC w hk;refine ao.seq fun _ ad=>.region<|.q Z (cA Z Z)<|.nil<|ad _ _<|.seq fun _ ag=>.if rfl (fun ay=>?_) (fun ay=>?_)
 ·refine ao.skip<|ag _ _<|.seq fun _ ai=>.block<|.seq fun _ ap=>.region<|.q Z (ae Z)<|.q Z (ah Z)<|.nil<|ap _ _ ?_;refine ao.region<|.q Z (ae Z)<|.q Z (ae Z)<|.q Z (d6 u9 Z)<|.q Z (jc (b:=1) Z Z O)<|.q Z (ae Z)<|.q Z (jc Z Z O)<|.q Z (ae Z)<|.q Z (ae Z)<|.q Z (uC u9 Z Z O) ?_;refine Ops.l Z (fun _ _ a5 _=>aK Z (zY (w.getD k 0) B17) ?_);rintro az A30 ⟨rfl,rfl⟩;refine a5 _ _<|.q Z (aJ eo nI Z Z Z O)<|.l Z (fun _ _ a6 _=>aM (off:=((w.length - 1) - k)) a2 rfl (by simp) rfl rfl nI h OI rfl (o4 _ _ _) fun A33 D=>?_);have a9:=al V wf a3 D.n D.keep;refine a6 _ _<|.nil<|ai _ _<|.region<|.q Z (bN (b:=1) Z Z O)<|.q Z (ae Z)<|.nil ?_;exact ⟨k + 1,ks Z Z Z Z,Z,⟨O,a9,(uJ D.get (congrArg aw ((by exact uG w O))))⟩,O1⟩
 refine ao.exit<|ab _ _<|.seq fun _ ar=>.region<|.q Z (ae Z)<|.l Z (fun _ _ a7 _=>gU (s:=jE w k) Z eo u9 u5 (eR (n:=w.length) h Oz (Nat.le_refl _)) ?_);refine a7 _ _<|.q Z (ah Z)<|.nil<|ar _ _<|.rt (by exact be Z (⟨by rw [uF w O];rfl,V,a2⟩))

theorem LH (c:UInt8) (A:AH):bG Tryz.prog 193 #[fA (c)] A (fun v A1=>v=num (ix c)/\A=A1):=by
 refine iy Tryz.call193 Tryz.func193 Z Tryz.results193 Tryz.ntmps193 Z (fun wf=>?_);have ac:=AH.le.refl A;have aa:=(c - 97).toNat_lt;have ab:=(c - 65).toNat_lt;refine ao.seq fun _ h2=>.region<|.q Z (ah Z)<|.nil<|h2 _ _<|.seq fun _ h4=>.block<|.seq fun _ h6=>.region<|.q Z (ae Z) ?_;refine Ops.q Z (KH (d:=97) Z Z)<|.q Z (ae Z)<|.part (t:=6) Z (fun p7=>?_) (fun p7=>?_)
 ·refine Ops.on Z Z<|.q Z (ae Z)<|.on Z Z<|.q Z (KQ (d:=105) Z Z)<|.q Z (bi Z Z)<|.q Z (ah Z)<|.nil<|h6 _ _<|.if rfl (fun p8=>?_) (fun p8=>?_)
  ·refine ao.seq fun _ X=>.region<|.q Z (ae Z)<|.q Z (KS (d:=97) Z Z)<|.q Z (CA u5 u3 Z)<|.q Z (zD (a:=2) Z Z O)<|.q Z (ah Z)<|.nil<|X _ _<|.rt (by exact be Z (⟨by (rw [<- FF c ‹_› ‹_›];rfl),Z⟩))
  refine ao.seq fun _ D=>.region<|.q Z (ae Z)<|.q Z (KH (d:=65) Z Z)<|.q Z (ae Z)<|.part (t:=17) Z (fun a6=>?_) (fun a6=>?_)
  ·refine Ops.on Z Z<|.q Z (ae Z)<|.on Z Z<|.q Z (KQ (d:=73) Z Z)<|.q Z (bi Z Z)<|.q Z (ah Z)<|.nil<|D _ _<|.if rfl (fun a7=>?_) (fun a7=>?_)
   ·refine ao.seq fun _ a0=>.region<|.q Z (ae Z)<|.q Z (KS (d:=65) Z Z)<|.q Z (CA u5 u3 Z)<|.q Z (zD (a:=2) Z Z O)<|.q Z (bN (b:=1) Z Z O)<|.q Z (ah Z)<|.nil<|a0 _ _ ?_;refine ao.ret ?_;repeat first | with_reducible refine bE ?_ | with_reducible refine bk ?_
    exact be Z (⟨by (rw [<- DQ c ‹_› ‹_›];rfl),Z⟩)
   refine ao.skip<|h4 _ _<|.seq fun _ a1=>.region<|.q Z (ah Z)<|.nil<|a1 _ _<|.rt (by exact be Z (⟨by (rw [xc c (fun h=>by first | exact ‹¬ (97:UInt8)<=c› h.1 | exact ‹¬ c < (105:UInt8)› h.2) (fun h=>by first | exact ‹¬ (65:UInt8)<=c› h.1 | exact ‹¬ c < (73:UInt8)› h.2)];rfl),Z⟩))
  refine Ops.off Z Z Z Z<|.off Z Z Z Z<|.q Z (bw Z Z)<|.q Z (ah Z)<|.nil<|D _ _<|.cond_false Z<|.skip<|h4 _ _<|.seq fun _ a2=>?_;refine ao.region<|.q Z (ah Z)<|.nil<|a2 _ _<|.rt (by exact be Z (⟨by (rw [xc c (fun h=>by first | exact ‹¬ (97:UInt8)<=c› h.1 | exact ‹¬ c < (105:UInt8)› h.2) (fun h=>by first | exact ‹¬ (65:UInt8)<=c› h.1 | exact ‹¬ c < (73:UInt8)› h.2)];rfl),Z⟩))
 refine Ops.off Z Z Z Z<|.off Z Z Z Z<|.q Z (bw Z Z)<|.q Z (ah Z)<|.nil<|h6 _ _<|.cond_false Z<|.seq fun _ V=>.region<|.q Z (ae Z) ?_;refine Ops.q Z (KH (d:=65) Z Z)<|.q Z (ae Z)<|.part (t:=17) Z (fun a8=>?_) (fun a8=>?_)
 ·refine Ops.on Z Z<|.q Z (ae Z)<|.on Z Z<|.q Z (KQ (d:=73) Z Z)<|.q Z (bi Z Z)<|.q Z (ah Z)<|.nil<|V _ _<|.if rfl (fun a9=>?_) (fun a9=>?_)
  ·refine ao.seq fun _ a3=>.region<|.q Z (ae Z)<|.q Z (KS (d:=65) Z Z)<|.q Z (CA u5 u3 Z)<|.q Z (zD (a:=2) Z Z O)<|.q Z (bN (b:=1) Z Z O)<|.q Z (ah Z)<|.nil<|a3 _ _ ?_;refine ao.ret ?_;repeat first | with_reducible refine bE ?_ | with_reducible refine bk ?_
   exact be Z (⟨by (rw [<- DQ c ‹_› ‹_›];rfl),Z⟩)
  refine ao.skip<|h4 _ _<|.seq fun _ a4=>.region<|.q Z (ah Z)<|.nil<|a4 _ _<|.rt (by exact be Z (⟨by (rw [xc c (fun h=>by first | exact ‹¬ (97:UInt8)<=c› h.1 | exact ‹¬ c < (105:UInt8)› h.2) (fun h=>by first | exact ‹¬ (65:UInt8)<=c› h.1 | exact ‹¬ c < (73:UInt8)› h.2)];rfl),Z⟩))
 refine Ops.off Z Z Z Z<|.off Z Z Z Z<|.q Z (bw Z Z)<|.q Z (ah Z)<|.nil<|V _ _<|.cond_false Z<|.skip<|h4 _ _<|.seq fun _ a5=>?_;refine ao.region<|.q Z (ah Z)<|.nil<|a5 _ _<|.rt (by exact be Z (⟨by (rw [xc c (fun h=>by first | exact ‹¬ (97:UInt8)<=c› h.1 | exact ‹¬ c < (105:UInt8)› h.2) (fun h=>by first | exact ‹¬ (65:UInt8)<=c› h.1 | exact ‹¬ c < (73:UInt8)› h.2)];rfl),Z⟩))

theorem RP (g:Int) (u:Value) (l:List (List UInt8)) (rel:Int) (iv:Bool) (A:AH) (hr:0<=rel/\rel < (l.length:Int)) (hok:(l.getD rel.toNat []).length<=200) (hu:bJ A 1 u (dc l)):bG Tryz.prog 171 #[.agg #[num (g),u],num (rel),.bool (iv)] A (fun v A1=>v=aX (if iv then inv (l.getD rel.toNat []) else l.getD rel.toNat [])/\A.le A1/\A1.wf):=by
 refine yl Tryz.call171 Tryz.func171 Z Tryz.results171 Tryz.ntmps171 Z (fun wf=>?_);have ag:=AH.le.refl A;obtain ⟨r,rfl⟩:∃ r:Nat,rel=r:=⟨rel.toNat,by omega⟩;rw [Int.toNat_natCast] at hok;refine ao.seq fun _ h2=>.region<|.l Z (fun _ _ ab _=>ej wf rfl rfl fun A5 b4 D=>?_);have h:=ag.trans D.le;refine ab _ _<|.q Z (ah Z)<|.nil<|h2 _ _<|.seq fun _ h9=>.seq fun _ a8=>.region<|.q Z (ae Z)<|.nil<|a8 _ _ ?_;refine ao.ifB Z (fun ai=>?_) (fun ai=>?_)
 ·refine ao.seq fun _ a9=>.region<|.q Z (aj go ms U Z)<|.q Z (ak lU Z Z D.get Z)<|.q Z (ae Z) ?_;obtain ⟨aB,aD,az,aR,av,aI,aF,a4,ac,a6,ap,a0⟩:=bJ.at (i:=r) (hu.le h) Ow O;refine Ops.q Z (aJ kh fz Z a4 Z ac)<|.q Z (ak gz Z Z a6 ((dh a0).trans (f5 O)))<|.l Z (fun _ _ a2 _=>aK Z (uW (l.getD r []) A5 O) ?_);rintro aT A18 ⟨rfl,V,X⟩;have a3:=h.trans V;refine a2 _ _<|.q Z (ah Z)<|.nil<|a9 _ _<|.rt (by exact be Z (⟨by (rw [show iv=true from ‹_›];rfl),a3,X⟩))
 refine ao.skip<|h9 _ _<|.seq fun _ aa=>.region<|.q Z (aj go ms U Z)<|.q Z (ak lU Z Z D.get Z)<|.q Z (ae Z) ?_;obtain ⟨aC,aE,aA,aS,ay,aP,aG,a5,ad,a7,ar,a1⟩:=bJ.at (i:=r) (hu.le h) Ow O;refine Ops.q Z (aJ kh fz Z a5 Z ad)<|.q Z (ak gz Z Z a7 ((dh a1).trans (f5 O)))<|.q Z (ah Z)<|.nil<|aa _ _<|.rt (by exact be Z (⟨by (rw [show iv=false from ‹_›];rfl),h,D.wf⟩))

theorem r0 (g:Int) (u:Value) (l:List (List UInt8)) (w:List UInt8) (A:AH) (hg:1<=g/\g<=8) (hu:bJ A 1 u (dc l)):bG Tryz.prog 169 #[.agg #[num (g),u],aX (w)] A (fun v A1=>v=.bool (decide (co g w=0))/\A.le A1/\A1.wf):=by
 refine lN Tryz.call169 Tryz.func169 Z Tryz.results169 Tryz.ntmps169 Z (fun wf=>?_);have aE:=AH.le.refl A;refine ao.seq fun _ h2=>.region<|.l Z (fun _ _ aD _=>ej wf rfl rfl fun A5 b4 a3=>?_);have a7:=aE.trans a3.le;refine aD _ _<|.q Z (ah Z)<|.nil<|h2 _ _<|.seq fun _ h9=>.seq fun _ ab=>.region<|.q Z (ae Z)<|.q Z (d6 u9 Z)<|.q Z (fu (b:=100000) Z Z) ?_;refine Ops.nil<|ab _ _<|.if rfl (fun aF=>?_) (fun aF=>?_)
 ·refine ao.seq fun _ ac=>.region<|.q Z (ah Z)<|.nil<|ac _ _<|.rt (by exact be Z (⟨by (rw [NS hg O];rfl),a7,a3.wf⟩))
 refine ao.skip<|h9 _ _<|.seq fun _ ad=>.seq fun _ ag=>.region<|.q Z (ae Z)<|.l Z (fun _ _ a8 _=>vk (s:=w) a3.wf rfl u9 eo u5 O fun A21 a5 a4 a1 aR=>?_);have ai:=a1.le.get _ _ a3.get;have aa:=a7.trans a1.le;refine a8 _ _<|.q Z (qlen eo Z)<|.q Z (ae Z)<|.nil<|ag _ _<|.block<|.loop (X:=Nat) (fun i=>[(2,.pointer (some ⟨b4,0,none⟩)),(12,.slice (some ⟨a5,0,none⟩) w.length a4),(13,num ((w.length:Nat):Int)),(14,num ((i:Nat):Int))]) (fun i B=>(i<=w.length/\∀ j,j < i->qe g (w.getD j 0)=true)/\A.le B/\B.get b4=some (.row true [num (g),u] 2)/\B.get a5=some (.row true (aw w) a4)) (fun i=>w.length - i) 0 (ks Z Z Z Z) (⟨⟨Nat.zero_le _,fun j h=>by omega⟩,aa,ai,a1.get⟩) ?_;rintro i B28 ⟨⟨hi,hn⟩,a0,V,D⟩;refine ao.wf fun a2=>.seq fun _ ap=>.region<|.q Z (cA Z Z)<|.nil<|ap _ _<|.seq fun _ ar=>.if rfl (fun aG=>?_) (fun aG=>?_)
 ·refine ao.skip<|ar _ _<|.seq fun _ av=>.block<|.seq fun _ ay=>.region<|.q Z (aJ eo nI Z Z Z O)<|.q Z (ak M7 Z Z D (by rw [show 0 + i * 1=i by omega];exact i7 O))<|.q Z (ah Z)<|.nil ?_;refine ay _ _<|.seq fun _ az=>.region<|.q Z (ae Z)<|.l Z (fun _ _ a9 _=>aK Z (LH (w.getD i 0) B28) ?_);rintro aS A43 ⟨rfl,rfl⟩;refine a9 _ _<|.q Z (ah Z)<|.nil<|az _ _<|.seq fun _ a6=>.region<|.q Z (ae Z)<|.q Z (qO Z Z)<|.q Z (ae Z)<|.part (t:=22) Z (fun aI=>?_) (fun aI=>?_)
  ·refine Ops.off Z Z Z Z<|.off Z Z Z Z<|.off Z Z Z Z<|.off Z Z Z Z<|.off Z Z Z Z<|.q Z (bi Z Z)<|.nil<|a6 _ _<|.cond_true Z<|.seq fun _ aA=>?_;refine ao.region<|.q Z (ah Z)<|.nil<|aA _ _<|.rt (by exact be Z (⟨by (rw [Jr hg O ‹_›];rfl),a0,a2⟩))
  refine Ops.on Z Z<|.q Z (ae Z)<|.on Z Z<|.q Z (aj ia dx U Z)<|.on Z Z<|.q Z (ak fj Z Z V Z)<|.on Z Z<|.q Z (Ru Z Z O)<|.on Z Z<|.q Z (pz Z Z) ?_;refine Ops.q Z (bw Z Z)<|.nil<|a6 _ _<|.if rfl (fun aP=>?_) (fun aP=>?_)
  ·refine ao.seq fun _ aB=>.region<|.q Z (ah Z)<|.nil<|aB _ _<|.rt (by exact be Z (⟨by (rw [Js hg O ‹_›];rfl),a0,a2⟩))
  refine ao.skip<|av _ _<|.region<|.q Z (bN (b:=1) Z Z O)<|.q Z (ae Z)<|.nil ?_;exact ⟨i + 1,ks Z Z Z Z,Z,⟨⟨by omega,fun j h=>(Nat.lt_succ_iff_lt_or_eq.1 h).elim (hn j) (fun z=>by subst z;exact Rm ‹_› ‹_›)⟩,a0,V,D⟩,O1⟩
 refine ao.exit<|ad _ _<|.seq fun _ aC=>.region<|.q Z (ah Z)<|.nil<|aC _ _<|.rt (by exact be Z (⟨by (rw [Jt hg O O hn];rfl),a0,a2⟩))
end Go.Proofs.YtjppkekmddjcfaaGreatDoor

namespace Go.Proofs.YtjppkekmddjcfaaGreatDoor
open Go Go.RowKit V
set_option maxRecDepth 100000


theorem CT (g1:Int) (u1:Value) (l1:List (List UInt8)) (g2:Int) (u2:Value) (l2:List (List UInt8)) (A:AH) (hn:l1.length<=1000000) (hm:l2.length<=1000000) (a4:bJ A 1 u1 (dc l1)) (a8:bJ A 1 u2 (dc l2)):bG Tryz.prog 39 #[.agg #[num (g1),u1],.agg #[num (g2),u2]] A (fun v A1=>v=.bool (decide (g1=g2/\l1=l2))/\A.le A1/\A1.wf):=by
 refine lN Tryz.call39 Tryz.func39 Z Tryz.results39 Tryz.ntmps39 Z (fun wf=>?_);have aS:=AH.le.refl A;refine ao.seq fun _ h2=>.region<|.l Z (fun _ _ aF _=>ej wf rfl rfl fun A5 b4 a5=>?_);have aR:=aS.trans a5.le;refine aF _ _<|.l Z (fun _ _ aG _=>ej a5.wf rfl rfl fun A10 b9 D=>?_);have a3:=D.le.get _ _ a5.get;have a1:=aR.trans D.le;refine aG _ _<|.q Z (ah Z)<|.nil<|h2 _ _<|.seq fun _ ai=>.seq fun _ a7=>.region<|.q Z (aj ia dx U Z)<|.q Z (ak fj Z Z a3 Z)<|.q Z (aj ia dx U Z) ?_;refine Ops.q Z (ak fj Z Z D.get Z)<|.q Z (GZ Z Z)<|.q Z (ae Z)<|.part (t:=11) Z (fun aT=>?_) (fun aT=>?_)
 ·refine Ops.off Z Z Z Z<|.off Z Z Z Z<|.off Z Z Z Z<|.off Z Z Z Z<|.off Z Z Z Z<|.off Z Z Z Z<|.off Z Z Z Z<|.q Z (bi Z Z)<|.nil<|a7 _ _ ?_;refine ao.cond_true Z<|.seq fun _ ap=>.region<|.q Z (ah Z)<|.nil<|ap _ _<|.rt (by exact be Z (⟨by (rw [decide_eq_false (fun q=>by have:=q.1;omega)];rfl),a1,D.wf⟩))
 refine Ops.on Z Z<|.q Z (aj go ms U Z)<|.on Z Z<|.q Z (ak lU Z Z a3 Z)<|.on Z Z<|.q Z (bH (n:=l1.length) kh Z (a4.le a1) O (eJ _))<|.on Z Z<|.q Z (aj go ms U Z)<|.on Z Z<|.q Z (ak lU Z Z D.get Z) ?_;refine Ops.on Z Z<|.q Z (bH (n:=l2.length) kh Z (a8.le a1) O (eJ _))<|.on Z Z<|.q Z (fF Z Z)<|.q Z (bw Z Z)<|.nil<|a7 _ _<|.if rfl (fun aV=>?_) (fun aV=>?_)
 ·refine ao.seq fun _ ar=>.region<|.q Z (ah Z)<|.nil<|ar _ _<|.rt (by exact be Z (⟨by (rw [decide_eq_false (fun q=>by have:=congrArg List.length q.2;omega)];rfl),a1,D.wf⟩))
 refine ao.skip<|ai _ _<|.seq fun _ av=>.seq fun _ ay=>.region<|.q Z (ah Z)<|.nil<|ay _ _<|.block<|.loop (X:=Nat) (fun i=>[(2,.pointer (some ⟨b4,0,none⟩)),(3,.pointer (some ⟨b9,0,none⟩)),(5,num ((i:Nat):Int))]) (fun i B=>(i<=l1.length/\l1.length=l2.length/\g1=g2/\∀ j,j < i->l1.getD j []=l2.getD j [])/\A.le B/\B.get b4=some (.row true [num (g1),u1] 2)/\B.get b9=some (.row true [num (g2),u2] 2)) (fun i=>l1.length - i) 0 (nR Z Z Z) (⟨⟨Nat.zero_le _,by omega,by omega,fun j h=>by omega⟩,a1,a3,D.get⟩) ?_;rintro i B29 ⟨⟨hi,hl,hg,hb⟩,a0,V,a2⟩;refine ao.wf fun a6=>.seq fun _ az=>.seq fun _ aA=>.region<|.q Z (ae Z)<|.q Z (aj go ms U Z)<|.q Z (ak lU Z Z V Z)<|.q Z (bH (n:=l1.length) kh Z (a4.le a0) O (eJ _))<|.q Z (cA Z Z)<|.nil ?_;refine aA _ _<|.if rfl (fun aY=>?_) (fun aY=>?_)
 ·refine ao.skip<|az _ _<|.seq fun _ aB=>.block<|.seq fun _ aC=>.drawn [0,1,2,3,4,5,6,7,8,9,10] mixed Y Y Z<|.q Z Z Z (aj go ms U Z)<|.q Z Z Z (ak lU Z Z V Z)<|.q Z Z Z (ae Z) ?_;obtain ⟨b7,ba,b5,bp,b2,bl,bc,ab,aI,ad,b0,a9⟩:=bJ.at (i:=i) (a4.le a0) Ow O;refine bj.q Z Z Z (aJ kh fz Z ab Z aI)<|.q Z Z Z (ak gz Z Z ad ((dh a9).trans (f5 O)))<|.q Z Z Z (aj go ms U Z)<|.q Z Z Z (ak lU Z Z a2 Z)<|.q Z Z Z (ae Z) ?_;obtain ⟨b8,bb,b6,br,b3,bm,bd,ac,aP,ag,b1,aa⟩:=bJ.at (i:=i) (a8.le a0) Ow O;refine bj.q Z Z Z (aJ kh fz Z ac Z aP)<|.q Z Z Z (ak gz Z Z ag ((dh aa).trans (f5 O)))<|.q Z Z Z (oA Z Z)<|.done<|aC _ _<|.if rfl (fun aZ=>?_) (fun aZ=>?_)
  ·refine ao.seq fun _ aD=>.region<|.q Z (ah Z)<|.nil<|aD _ _<|.rt (by exact be Z (⟨by (rw [decide_eq_false (fun q=>by have q2:=q.2;subst q2;exact absurd Z ‹_›)];rfl),a0,a6⟩))
  refine ao.skip<|aB _ _<|.region<|.q Z (ae Z)<|.q Z (bN (b:=1) Z Z O)<|.q Z (ah Z)<|.nil ?_;exact ⟨i + 1,nR Z Z Z,Z,⟨⟨by omega,hl,hg,fun j h=>(Nat.lt_succ_iff_lt_or_eq.1 h).elim (hb j) (fun z=>by subst z;exact Decidable.not_not.1 ‹_›)⟩,a0,V,a2⟩,O1⟩
 refine ao.exit<|av _ _<|.seq fun _ aE=>.region<|.q Z (ah Z)<|.nil<|aE _ _<|.rt (by exact be Z (⟨by (rw [decide_eq_true ⟨hg,JY hl O hb⟩];rfl),a0,a6⟩))
end Go.Proofs.YtjppkekmddjcfaaGreatDoor

namespace Go.Proofs.YtjppkekmddjcfaaGreatDoor
open Go Go.RowKit V
set_option maxRecDepth 100000
theorem ii:dF Tryz.prog 25=some false:=by kernel_rfl
theorem dn:dF Tryz.prog 27=some true:=by kernel_rfl
theorem fH:eb Tryz.prog 27 0=some (24,0):=by kernel_rfl
theorem de:eb Tryz.prog 27 1=some (25,2):=by kernel_rfl
theorem eW:eb Tryz.prog 83 0=some (9,0):=by kernel_rfl
theorem fw:du Tryz.prog 25=some 1:=by kernel_rfl
theorem cT:du Tryz.prog 27=some 3:=by kernel_rfl
theorem d8:du Tryz.prog 83=some 3:=by kernel_rfl
theorem jw:type_of% @Tryz.underlying25:=@Tryz.underlying25

end Go.Proofs.YtjppkekmddjcfaaGreatDoor
