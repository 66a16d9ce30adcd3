import Derived.Calls
import Derived.Scope
import Derived.OrdersHeld
import Derived.Below
import Derived.Tactics
import Derived.Laws.Strings
import Derived.Laws.BytesString
import Derived.Lib.ConvBytes
import Derived.IntWalk
set_option linter.unusedSectionVars false
set_option linter.unusedVariables false
set_option linter.unusedSimpArgs false
namespace Go.Proofs.YtjppkekmddjcfaaGreatDoor
abbrev W8:=List UInt8
section
theorem Xq:type_of% @List.length_cons:=@List.length_cons
theorem Xx:type_of% @List.length_append:=@List.length_append
theorem Xz:type_of% @List.length_nil:=@List.length_nil
theorem Xj:type_of% @Nat.le_trans:=@Nat.le_trans
theorem Xk:type_of% @congrArg:=@congrArg
theorem Xv:type_of% @decide_eq_false:=@decide_eq_false
theorem Xw:type_of% @decide_eq_true_eq:=@decide_eq_true_eq
theorem Xy:type_of% @if_neg:=@if_neg
theorem XQ:type_of% @Bool.and_eq_true:=@Bool.and_eq_true
theorem XX:type_of% @if_pos:=@if_pos
theorem XZ:type_of% @List.length_take:=@List.length_take
theorem XJ:type_of% @decide_eq_true:=@decide_eq_true
theorem XK:type_of% @Nat.zero_le:=@Nat.zero_le
theorem XV:type_of% @Nat.le_refl:=@Nat.le_refl
theorem XW:type_of% @Nat.lt_succ_iff_lt_or_eq:=@Nat.lt_succ_iff_lt_or_eq
theorem XY:type_of% @List.append_assoc:=@List.append_assoc
theorem Vq:type_of% @List.getD_eq_getElem?_getD:=@List.getD_eq_getElem?_getD
theorem Vx:type_of% @List.all_eq_true:=@List.all_eq_true
theorem Vz:type_of% @List.mem_cons:=@List.mem_cons
theorem Vj:type_of% @List.mem_map:=@List.mem_map
theorem Vk:type_of% @List.mem_singleton:=@List.mem_singleton
theorem Vv:type_of% @List.length_eq_zero_iff:=@List.length_eq_zero_iff
theorem Vw:type_of% @List.mem_append:=@List.mem_append
theorem Vy:type_of% @List.mem_cons_self:=@List.mem_cons_self
theorem VQ:type_of% @List.getElem_of_mem:=@List.getElem_of_mem
theorem VX:type_of% @List.take_of_length_le:=@List.take_of_length_le
theorem VZ:type_of% @List.mem_cons_of_mem:=@List.mem_cons_of_mem
theorem VJ:type_of% @List.map_append:=@List.map_append
theorem VK:type_of% @decide_eq_false_iff_not:=@decide_eq_false_iff_not
theorem VV:type_of% @List.mem_range:=@List.mem_range
theorem VW:type_of% @List.take_append_drop:=@List.take_append_drop
theorem VY:type_of% @Nat.lt_or_ge:=@Nat.lt_or_ge
theorem Tq:type_of% @List.drop_eq_getElem_cons:=@List.drop_eq_getElem_cons
theorem Tx:type_of% @List.length_drop:=@List.length_drop
theorem Tz:type_of% @Array.getElem?_setIfInBounds_ne:=@Array.getElem?_setIfInBounds_ne
theorem Tj:type_of% @Array.getElem?_eq_some_iff:=@Array.getElem?_eq_some_iff
theorem Tk:type_of% @List.idxOf_lt_length_iff:=@List.idxOf_lt_length_iff
theorem Tv:type_of% @List.getElem?_append_left:=@List.getElem?_append_left
theorem Tw:type_of% @List.length_singleton:=@List.length_singleton
theorem Ty:type_of% @List.not_mem_nil:=@List.not_mem_nil
theorem TQ:type_of% @List.foldl_cons:=@List.foldl_cons
theorem TX:type_of% @List.length_map:=@List.length_map
theorem TZ:type_of% @List.getElem?_append_right:=@List.getElem?_append_right
theorem TJ:type_of% @List.map_cons:=@List.map_cons
theorem TK:type_of% @Nat.mul_one:=@Nat.mul_one
theorem TV:type_of% @Nat.eq_zero_or_pos:=@Nat.eq_zero_or_pos
theorem TY:type_of% @Nat.mul_le_mul_right:=@Nat.mul_le_mul_right
theorem Sq:type_of% @List.mem_filter:=@List.mem_filter
theorem Sx:type_of% @List.drop_eq_nil_of_le:=@List.drop_eq_nil_of_le
theorem Sz:type_of% @Option.bind_some:=@Option.bind_some
theorem Sj:type_of% @List.prefix_refl:=@List.prefix_refl
theorem Sk:type_of% @List.append_nil:=@List.append_nil
theorem Sv:type_of% @Nat.le_of_ble_eq_true:=@Nat.le_of_ble_eq_true
theorem Sw:type_of% @List.flatMap_cons:=@List.flatMap_cons
theorem Sy:type_of% @decide_eq_true_iff:=@decide_eq_true_iff
theorem SQ:type_of% @List.getElem?_eq_getElem:=@List.getElem?_eq_getElem
theorem SX:type_of% @List.getElem?_take_of_lt:=@List.getElem?_take_of_lt
theorem SZ:type_of% @List.foldl_append:=@List.foldl_append
theorem SJ:type_of% @List.range_succ:=@List.range_succ
theorem SK:type_of% @List.length_set:=@List.length_set
theorem SV:type_of% @Array.getElem?_append_left:=@Array.getElem?_append_left
theorem SW:type_of% @Nat.add_mul:=@Nat.add_mul
theorem SY:type_of% @List.mem_of_mem_take:=@List.mem_of_mem_take
theorem Rq:type_of% @List.nil_append:=@List.nil_append
theorem Rx:type_of% @List.getElem?_eq_some_iff:=@List.getElem?_eq_some_iff
theorem Rz:type_of% @List.findIdx?_eq_some_iff_getElem:=@List.findIdx?_eq_some_iff_getElem
theorem Rj:type_of% @List.take_length:=@List.take_length
theorem Rk:type_of% @List.length_replicate:=@List.length_replicate
theorem Rv:type_of% @Nat.lt_of_lt_of_le:=@Nat.lt_of_lt_of_le
theorem Rw:type_of% @List.prefix_append:=@List.prefix_append
theorem Ry:type_of% @Array.getElem?_eq_none:=@Array.getElem?_eq_none
theorem RQ:type_of% @List.map_map:=@List.map_map
theorem RX:type_of% @Int.toNat_natCast:=@Int.toNat_natCast
theorem RZ:type_of% @List.set_append_right:=@List.set_append_right
theorem RJ:type_of% @List.mem_append_right:=@List.mem_append_right
theorem RK:type_of% @Option.map_some:=@Option.map_some
theorem RV:type_of% @List.getElem?_drop:=@List.getElem?_drop
theorem RW:type_of% @List.find?_eq_none:=@List.find?_eq_none
theorem RY:type_of% @List.drop_left:=@List.drop_left
theorem Qq:type_of% @Nat.zero_add:=@Nat.zero_add
theorem Qx:type_of% @List.nodup_append:=@List.nodup_append
theorem Qz:type_of% @List.pairwise_map:=@List.pairwise_map
theorem Qj:type_of% @Bool.eq_iff_iff:=@Bool.eq_iff_iff
theorem Qk:type_of% @List.getElem?_eq_none:=@List.getElem?_eq_none
theorem Qv:type_of% @List.mem_flatMap:=@List.mem_flatMap
theorem Qw:type_of% @List.getElem_idxOf:=@List.getElem_idxOf
theorem Qy:type_of% @Array.length_toList:=@Array.length_toList
theorem QQ:type_of% @List.length_reverse:=@List.length_reverse
theorem QX:type_of% @beq_iff_eq:=@beq_iff_eq
theorem QZ:type_of% @Nat.min_eq_left:=@Nat.min_eq_left
theorem QJ:type_of% @List.find?_cons:=@List.find?_cons
end
open Go Go.RowKit
theorem Z {α:Sort _} {a:α}:a=a:=rfl
theorem O {p:Prop} (h:p:=by omega):p:=h
theorem U {p:Prop} (h:p:=by decide):p:=h
theorem Y {p:Prop} (h:p:=by kernel_rfl):p:=h
theorem O1 {p:Prop} (h:p:=by (try dsimp only);omega):p:=h
theorem O2 {p:Prop} (h:p:=by simp only [aJ,Xq,Xz];(try simp only [Xx,Xq,Xz]);omega):p:=h
theorem O3 {p:Prop} (h:p:=by simp only [bw];omega):p:=h
theorem Oa {p:Prop} (h:p:=by simp only [aJ];omega):p:=h
theorem Ob {p:Prop} (h:p:=by simp only [aK,Xq,Xz];(try simp only [Xx,Xq,Xz]);omega):p:=h
theorem Of {p:Prop} (h:p:=by simp only [bQ];omega):p:=h
theorem Oi {p:Prop} (h:p:=by simp;omega):p:=h
theorem Oj {p:Prop} (h:p:=by simp only [cO];omega):p:=h
theorem Ok {p:Prop} (h:p:=by simp only [cJ];omega):p:=h
theorem On {p:Prop} (h:p:=by simp only [aK];omega):p:=h
theorem Or {p:Prop} (h:p:=by simp only [cj];omega):p:=h
theorem Ov {p:Prop} (h:p:=by (try simp only [Xx,Tx,XZ]);omega):p:=h
theorem Ow {p:Prop} (h:p:=by assumption):p:=h
theorem Ox {p:Prop} (h:p:=by first | omega | (simp only [Xq,Xz];omega)):p:=h
theorem Oy {p:Prop} (h:p:=by (try simp only [Xx,Xq,Xz]);omega):p:=h
theorem Oz {p:Prop} (h:p:=by simp only [aJ];(try simp only [SK]);omega):p:=h
theorem OA {p:Prop} (h:p:=by simp only [er];omega):p:=h
theorem OB {p:Prop} (h:p:=by simp only [e8,Xq,Xz];(try simp only [Xx,Xq,Xz]);omega):p:=h
theorem OF {p:Prop} (h:p:=by simp only [cJ,Xq,Xz];(try simp only [Xx,Xq,Xz]);omega):p:=h
theorem OI {p:Prop} (h:p:=by simp only [bQ,Xq,Xz];(try simp only [Xx,Xq,Xz]);omega):p:=h
theorem OJ {p:Prop} (h:p:=by simp only [Xx];omega):p:=h
theorem OK {p:Prop} (h:p:=by simp only [aK,Xq,Xz];omega):p:=h
theorem ON {p:Prop} (h:p:=by simp only [aK] <;> omega):p:=h
theorem OP {p:Prop} (h:p:=by simp only [bw] <;> omega):p:=h
theorem OR {p:Prop} (h:p:=by simp only [e8];omega):p:=h
namespace V
inductive fB where
  | row (rw:Bool) (c:List Value) (cap:Nat)
  | obj (rw:Bool) (o:Obj)
def fB.rw:fB->Bool
  | .row b _ _=>b
  | .obj b _=>b
structure AH where
  n:Nat
  get:Nat->Option fB
def AH.rw (A:AH) (b:Nat):Bool:=match A.get b with | some o=>o.rw | none=>false
def AH.wf (A:AH):Prop:=∀ b o,A.get b=some o->b < A.n
def AH.new (A:AH) (o:fB):AH:=⟨A.n + 1,fun b=>if b=A.n then some o else A.get b⟩
def AH.set (A:AH) (b:Nat) (o:fB):AH:=⟨A.n,fun k=>if k=b then some o else A.get k⟩
def AH.kill (A:AH) (b:Nat):AH:=⟨A.n,fun k=>if k=b then none else A.get k⟩
def AH.grow (A:AH) (n:Nat):AH:=⟨n,A.get⟩
structure AH.le (A A':AH):Prop where
  n:A.n<=A'.n
  get:∀ b o,A.get b=some o->A'.get b=some o
theorem AH.le.g {A B:AH} (h:A.le B) {b:Nat} {o:fB} (k:A.get b=some o):B.get b=some o:=h.get _ _ k
theorem G {a b:Nat} (h:Nat.ble a b=true:=by exact Z):a<=b:=Sv h
theorem AH.le.refl (A:AH):A.le A:=⟨XV _,fun _ _ h=>h⟩
theorem AH.le.trans {A B C:AH} (h:A.le B) (k:B.le C):A.le C:=⟨Xj h.n k.n,fun b o g=>k.get b o (h.get b o g)⟩
@[simp] theorem AH.new_n (A:AH) (o:fB):(A.new o).n=A.n + 1:=rfl
@[simp] theorem AH.set_n (A:AH) (b:Nat) (o:fB):(A.set b o).n=A.n:=rfl
@[simp] theorem AH.kill_n (A:AH) (b:Nat):(A.kill b).n=A.n:=rfl
@[simp] theorem AH.grow_n (A:AH) (n:Nat):(A.grow n).n=n:=rfl
theorem AH.new_get (A:AH) (o:fB) (b:Nat):(A.new o).get b=if b=A.n then some o else A.get b:=rfl
theorem AH.set_get (A:AH) (k:Nat) (o:fB) (b:Nat):(A.set k o).get b=if b=k then some o else A.get b:=rfl
@[simp] theorem AH.grow_get (A:AH) (n:Nat) (b:Nat):(A.grow n).get b=A.get b:=rfl
@[simp] theorem AH.new_get_same (A:AH) (o:fB):(A.new o).get A.n=some o:=XX Z
@[simp] theorem AH.set_get_same (A:AH) (b:Nat) (o:fB):(A.set b o).get b=some o:=XX Z
theorem AH.new_get_ne (A:AH) (o:fB) {b:Nat} (h:b ≠ A.n):(A.new o).get b=A.get b:=Xy h
theorem AH.set_get_ne (A:AH) (o:fB) {b k:Nat} (h:b ≠ k):(A.set k o).get b=A.get b:=Xy h
theorem AH.le_new {A B:AH} (h:A.le B) (hwf:A.wf) (o:fB):A.le (B.new o) :=
  ⟨Nat.le_succ_of_le h.n,fun b x g=>by rw [AH.new_get_ne];exact h.get b x g;have:=hwf b x g;have:=h.n;omega⟩
theorem AH.wf_new {A:AH} (h:A.wf) (o:fB):(A.new o).wf:=fun b x g=>by
  simp only [AH.new_get,AH.new_n] at *
  split at g
  · omega
  · exact Nat.lt_succ_of_lt (h b x g)
theorem AH.wf_set {A:AH} (h:A.wf) {k:Nat} (hk:k < A.n) (o:fB):(A.set k o).wf:=fun b x g=>by
  simp only [AH.set_get,AH.set_n] at *
  split at g
  · omega
  · exact h b x g
def fB.fits:fB->Option Obj->Prop
  | .row rw c cap,o=>∃ cs elem fr,o=some (.cells cs elem fr)/\c.length<=cap/\cap<=cs.size/\(∀ i,i < c.length->cs[i]? = c[i]?)/\(rw=true->∀ i,i < cap->¬ (fr.1<=i/\i < fr.2))
  | .obj _ x,o=>o=some x/\∀ c e f,x ≠ .cells c e f
structure cD (A:AH) (w:World):Prop where
  size:w.heap.size=A.n
  fits:∀ b o,A.get b=some o->o.fits w.heap[b]?
theorem fB.fits.some {o:fB} {x:Option Obj} (h:o.fits x):∃ y,x=some y:=by
  cases o with
  | row rw c cap=>obtain ⟨cs,e,f,h,_⟩:=h;exact ⟨_,h⟩
  | obj rw x=>exact ⟨_,h.1⟩
theorem cD.wf {A:AH} {w:World} (h:cD A w):A.wf:=fun b o g=>by
  obtain ⟨y,hy⟩:=(h.fits b o g).some
  rw [<- h.size]
  rcases VY b w.heap.size with q | q
  · exact q
  · rw [Ry q] at hy;cases hy
structure fx (A:AH) (w:World) (A':AH) (w':World):Prop where
  os:w'.os=w.os
  tape:w'.tape=w.tape
  output:w'.output=w.output/\w.drawn<=w'.drawn
  size:w.heap.size<=w'.heap.size
  kept:∀ b,b < w.heap.size->A.rw b=false->w'.heap[b]? = w.heap[b]?
  rw:∀ b,A'.rw b=true->A.rw b=true\/w.heap.size<=b
theorem fx.refl (A:AH) (w:World):fx A w A w:=⟨rfl,rfl,⟨rfl,XV _⟩,XV _,fun _ _ _=>rfl,fun _ h=>.inl h⟩
theorem fx.trans {A B C:AH} {a b c:World} (h:fx A a B b) (k:fx B b C c):fx A a C c:={
  os:=k.os.trans h.os
  tape:=k.tape.trans h.tape
  output:=⟨k.output.1.trans h.output.1,Xj h.output.2 k.output.2⟩
  size:=Xj h.size k.size
  kept:=fun i hi hr=>by
    have hb:B.rw i=false:=by
      cases e:B.rw i with
      | false=>rfl
      | true => rcases h.rw i e with q | q
                · rw [hr] at q;cases q
                · omega
    rw [k.kept i (Rv hi h.size) hb,h.kept i hi hr]
  rw:=fun i hi=>by
    rcases k.rw i hi with q | q
    · exact h.rw i q
    · exact .inr (Xj h.size q) }
abbrev im:=List (Nat × Value)
def cM:im->Nat->Option Value
  | [],_=>none
  | (t,v) :: e,k=>match Nat.beq k t with
    | true=>some v
    | false=>cM e k
theorem vy (t:Nat) (v:Value) (e:im) (k:Nat):cM ((t,v) :: e) k=if k=t then some v else cM e k:=by
  simp only [cM]
  cases h:Nat.beq k t
  · rw [Xy (fun q=>by rw [q] at h;simp at h)]
  · rw [XX (Nat.eq_of_beq_eq_true h)]
structure Fr where
  e:im
  ds:List Deferred
def gj (e:im) (d:Option Nat) (v:Value):im:=match d with | some t=>(t,v) :: e | none=>e
structure dC (nt:Nat) (f:Fr) (a:Act):Prop where
  size:a.tmps.size=nt
  slot:∀ t v,cM f.e t=some v->a.tmps.getD t undef=v/\t < nt
  ds:a.defers=f.ds
theorem dC.put {nt:Nat} {f:Fr} {a:Act} (h:dC nt f a) (d:Option Nat) (v:Value) (hd:∀ t,d=some t->t < nt) :
    dC nt ⟨gj f.e d v,f.ds⟩ (a.put d v):=by
  cases d with
  | none=>exact h
  | some t =>
    have ht:=hd t Z
    have hs:=h.size
    refine ⟨by simp [Act.put,hs],fun k u g=>?_,by simp [Act.put,h.ds]⟩
    simp only [gj,vy] at g
    split at g
    · rename_i e;subst e
      simp only [Option.some.injEq] at g;subst g
      exact ⟨by simp [Act.put,hs,ht],ht⟩
    · rename_i e
      obtain ⟨g1,g2⟩:=h.slot k u g
      exact ⟨by simp only [Act.put];rw [<- g1];simp [Tz (Ne.symm e)],g2⟩
def aj (e e':im):Prop:=∀ t v,cM e t=some v->cM e' t=some v
theorem aj.nil (e':im):aj [] e':=fun _ _ h=>by cases h
theorem aj.cons {e e':im} {t:Nat} {v:Value} (h:cM e' t=some v) (k:aj e e'):aj ((t,v) :: e) e':=fun j u g=>by
  simp only [vy] at g
  split at g
  · rename_i q;subst q;rw [h];exact g
  · exact k j u g
theorem dC.le {nt:Nat} {e e':im} {ds:List Deferred} {a:Act} (h:dC nt ⟨e',ds⟩ a) (k:aj e e'):dC nt ⟨e,ds⟩ a :=
  ⟨h.size,fun t v g=>h.slot t v (k t v g),h.ds⟩
def cg (e:im):Operand->Option Value
  | .tmp t=>cM e t
  | .const v=>some v
  | .global g=>some (.pointer (some ⟨g,0,none⟩))
  | .func f=>some (.func (.func f) #[] #[])
theorem c9 {nt:Nat} {f:Fr} {a:Act} (h:dC nt f a) {x:Operand} {v:Value} (g:cg f.e x=some v):a.eval x=v:=by
  cases x with
  | tmp t=>exact (h.slot t v g).1
  | const v=>simpa [cg,Act.eval] using g
  | global g'=>simpa [cg,Act.eval] using g
  | func f'=>simpa [cg,Act.eval] using g
def mS (nt:Nat) (Q:Exit->Fr->AH->Prop) (A:AH) (w:World):Exit->Act->World->Prop :=
  fun x a' w'=>∃ f' A',dC nt f' a'/\cD A' w'/\fx A w A' w'/\Q x f' A'/\(∀ ch,x=.panic ch->True)
def eM (nt:Nat) (Q:Exit->Fr->AH->Prop) (A:AH) (w:World):Exit->Act->World->Prop :=
  fun x a' w'=>∃ f' A',dC nt f' a'/\cD A' w'/\fx A w A' w'/\Q x f' A'/\(∀ ch,x=.panic ch->f'.e=[])
theorem eM.q {nt:Nat} {Q:Exit->Fr->AH->Prop} {A:AH} {w:World} {x:Exit} {a':Act} {w':World} (h:eM nt Q A w x a' w'):mS nt Q A w x a' w' :=
  let ⟨f',A',h1,h2,h3,h4,_⟩:=h;⟨f',A',h1,h2,h3,h4,fun _ _=>trivial⟩
theorem mS.step {nt:Nat} {Q:Exit->Fr->AH->Prop} {A B:AH} {w w₁:World} (s:fx A w B w₁) {x:Exit} {a':Act} {w':World} (h:mS nt Q B w₁ x a' w'):mS nt Q A w x a' w' :=
  let ⟨f',A',h1,h2,h3,h4,h5⟩:=h;⟨f',A',h1,h2,s.trans h3,h4,h5⟩
def ak (P:Program) (nt:Nat) (c:Code) (Q:Exit->Fr->AH->Prop) (f:Fr) (A:AH):Prop :=
  ∀ a w,dC nt f a->cD A w->c.wp P (mS nt Q A w) a w
def f5 (P:Program) (g:FuncId):Prop:=∀ args w,(callFunc g args).run P w=.ok (.enter g args) w
def iy (P:Program) (g:FuncId) (args:Array Value) (A:AH) (Q:Ending->AH->Prop):Prop :=
  f5 P g/\∀ w,cD A w->Calls P g args w fun e w'=>∃ A',cD A' w'/\fx A w A' w'/\Q e A'
theorem iy.mono {P:Program} {g:FuncId} {args:Array Value} {A:AH} {Q Q':Ending->AH->Prop} (h:iy P g args A Q)
    (k:∀ e A',Q e A'->Q' e A'):iy P g args A Q' :=
  ⟨h.1,fun w hw=>(h.2 w hw).mono fun e _ ⟨A',v,s,q⟩=>⟨A',v,s,k e A' q⟩⟩
section
variable {P:Program} {nt:Nat} {Q:Exit->Fr->AH->Prop} {f:Fr} {A:AH}
theorem mS.self {x:Exit} {a:Act} {w:World} (ha:dC nt f a) (hw:cD A w) (h:Q x f A) (hx:∀ ch,x ≠ .panic ch):mS nt Q A w x a w :=
  ⟨f,A,ha,hw,.refl _ _,h,fun ch e=>absurd e (hx ch)⟩
theorem ak.mono {c:Code} {Q':Exit->Fr->AH->Prop} (h:ak P nt c Q f A) (k:∀ x f A,Q x f A->Q' x f A):ak P nt c Q' f A :=
  fun a w ha hw=>wp_mono (h a w ha hw) fun _ _ _ ⟨f',A',h1,h2,h3,h4,h5⟩=>⟨f',A',h1,h2,h3,k _ _ _ h4,h5⟩
theorem ak.wf {c:Code} (h:A.wf->ak P nt c Q f A):ak P nt c Q f A:=fun a w ha hw=>h hw.wf a w ha hw
theorem ak.forget {c:Code} {e':im} {e:im} {ds:List Deferred} (k:aj e e') (h:ak P nt c Q ⟨e,ds⟩ A):ak P nt c Q ⟨e',ds⟩ A :=
  fun a w ha hw=>h a w (ha.le k) hw
theorem ak.skip (h:Q .normal f A):ak P nt .skip Q f A:=fun _ _ ha hw=>wp_skip (.self ha hw h fun _ q=>by cases q)
theorem ak.exit {i:Nat} (h:Q (.exit i) f A):ak P nt (.exit i) Q f A:=fun _ _ ha hw=>wp_exit (.self ha hw h fun _ q=>by cases q)
theorem ak.ret (h:Q .ret f A):ak P nt .ret Q f A:=fun _ _ ha hw=>wp_ret (.self ha hw h fun _ q=>by cases q)
def rX (K:Fr->AH->Prop) (Q:Exit->Fr->AH->Prop):Exit->Fr->AH->Prop
  | .normal,f,A=>K f A
  | x,f,A=>Q x f A
theorem ak.seq {x y:Code} (h:∀ K:Fr->AH->Prop,(∀ f A,ak P nt y Q f A->K f A)->ak P nt x (rX K Q) f A):ak P nt (x.seq y) Q f A:=by
  intro a w ha hw
  refine wp_seq (wp_mono (h _ (fun _ _ h=>h) a w ha hw) ?_)
  rintro e a' w' ⟨f',A',h1,h2,h3,h4,h5⟩
  cases e with
  | normal=>exact wp_mono (h4 a' w' h1 h2) fun x a'' w'' g=>g.step h3
  | _=>exact ⟨f',A',h1,h2,h3,h4,h5⟩
theorem ak.sq {x y:Code} (h:∀ {K:Fr->AH->Prop},(∀ {f A},ak P nt y Q f A->K f A)->ak P nt x (rX K Q) f A):ak P nt (x.seq y) Q f A:=ak.seq fun _ k=>h fun {f A} z=>k f A z
theorem ak.cond {c:Operand} {x y:Code} {t:Bool} (hc:cg f.e c=some (.bool t)) (h1:t=true->ak P nt x Q f A) (h2:t=false->ak P nt y Q f A) :
    ak P nt (.cond c x y) Q f A:=fun a w ha hw =>
  wp_cond_split (c9 ha hc) (fun e=>h1 e a w ha hw) (fun e=>h2 e a w ha hw)
theorem ak.cond_true {c:Operand} {x y:Code} (hc:cg f.e c=some (.bool true)) (h1:ak P nt x Q f A):ak P nt (.cond c x y) Q f A :=
  ak.cond hc (fun _=>h1) (fun e=>by cases e)
theorem ak.cond_false {c:Operand} {x y:Code} (hc:cg f.e c=some (.bool false)) (h1:ak P nt y Q f A):ak P nt (.cond c x y) Q f A :=
  ak.cond hc (fun e=>by cases e) (fun _=>h1)
def oE (i:Nat) (Q:Exit->Fr->AH->Prop):Exit->Fr->AH->Prop
  | .exit j,f,A=>if j=i then Q .normal f A else Q (.exit j) f A
  | x,f,A=>Q x f A
theorem ak.block {i:Nat} {c:Code} (h:ak P nt c (oE i Q) f A):ak P nt (.block i c) Q f A:=fun a w ha hw=>by
  refine wp_block (wp_mono (h a w ha hw) ?_)
  rintro e a' w' ⟨f',A',h1,h2,h3,h4,h5⟩
  cases e with
  | exit j =>
    simp only [Exit.inBlock,oE] at h4 ⊢
    split
    · rename_i q;rw [XX q] at h4;exact ⟨f',A',h1,h2,h3,h4,fun _ q=>by cases q⟩
    · rename_i q;rw [Xy q] at h4;exact ⟨f',A',h1,h2,h3,h4,h5⟩
  | _=>exact ⟨f',A',h1,h2,h3,h4,h5⟩
def DC (Q:Exit->Fr->AH->Prop):Exit->Fr->AH->Prop
  | .goto _,_,_=>False
  | x,f,A=>Q x f A
theorem ak.loop {c:Code} {X:Type} (E:X->im) (I:X->AH->Prop) (μ:X->Nat) (x₀:X) {e:im} {ds:List Deferred} (hE:aj (E x₀) e) (h₀:I x₀ A)
    (round:∀ x B,I x B->ak P nt c (rX (fun f B'=>∃ y,aj (E y) f.e/\f.ds=ds/\I y B'/\μ y < μ x) Q) ⟨E x,ds⟩ B) :
    ak P nt (.loop c) Q ⟨e,ds⟩ A:=by
  intro a w ha hw b k cs
  have run:∀ m a w₁,(∃ x B,μ x=m/\I x B/\dC nt ⟨E x,ds⟩ a/\cD B w₁/\fx A w B w₁) ->
      ∃ e a' w',mS nt Q A w e a' w'/\Arrives P (lone (b.at a (.code c :: .inLoop c :: k)) cs w₁) b k cs e a' w':=by
    intro m
    induction m using Nat.strongRecOn with
    | _ m ih =>
      rintro a w₁ ⟨x,B,hm,hI,ha₁,hw₁,hs₁⟩
      obtain ⟨e,a₂,w₂,⟨f',A',h1,h2,h3,h4,h5⟩,harr⟩:=round x B hI a w₁ ha₁ hw₁ b (.inLoop c :: k) cs
      cases e with
      | normal =>
        obtain ⟨y,g1,g2,g3,g4⟩:=h4
        obtain ⟨fe,fds⟩:=f'
        simp only at g1 g2
        subst g2
        obtain ⟨e₂,a₃,w₃,hq,harr₂⟩:=ih (μ y) (hm ▸ g4) a₂ w₂ ⟨y,A',rfl,g3,h1.le g1,h2,hs₁.trans h3⟩
        exact ⟨e₂,a₃,w₃,hq,.of_steps (Steps.trans harr (.one step_inLoop)) harr₂⟩
      | exit id=>exact ⟨_,a₂,w₂,⟨f',A',h1,h2,hs₁.trans h3,h4,h5⟩,.pass (x:=.inLoop c) Z (fun _ _=>.inl (by simp)) harr⟩
      | goto l=>exact ⟨_,a₂,w₂,⟨f',A',h1,h2,hs₁.trans h3,h4,h5⟩,.pass (x:=.inLoop c) Z (fun _ _=>.inl (by simp)) harr⟩
      | ret=>exact ⟨_,a₂,w₂,⟨f',A',h1,h2,hs₁.trans h3,h4,h5⟩,.pass (x:=.inLoop c) Z (fun _ _=>.inl (by simp)) harr⟩
      | panic ch=>exact ⟨_,a₂,w₂,⟨f',A',h1,h2,hs₁.trans h3,h4,h5⟩,.pass (x:=.inLoop c) Z (fun _ _=>.inl (by simp)) harr⟩
      | outgrown=>exact ⟨_,a₂,w₂,⟨f',A',h1,h2,hs₁.trans h3,h4,h5⟩,.pass (x:=.inLoop c) Z (fun _ _=>.inl (by simp)) harr⟩
  obtain ⟨e,a',w',hq,harr⟩:=run _ a w ⟨x₀,A,rfl,h₀,ha.le hE,hw,.refl _ _⟩
  exact ⟨e,a',w',hq,.of_steps (.one step_loop) harr⟩
end
end V
namespace V
def Yp (op:BinOp) (k:IntKind) (x y:Int):Option Value :=
  let a:=BitVec.ofInt k.bits x
  let b:=BitVec.ofInt k.bits y
  match op with
  | .and=>some (.int k (k.wrap (a &&& b).toNat))
  | .or=>some (.int k (k.wrap (a ||| b).toNat))
  | .xor=>some (.int k (k.wrap (a ^^^ b).toNat))
  | .andNot=>some (.int k (k.wrap (a &&& ~~~b).toNat))
  | _=>none
def qO (op:BinOp) (k:IntKind) (a b:Int):Option Value :=
  match op with
  | .add=>some (.int k (k.wrap (a + b)))
  | .sub=>some (.int k (k.wrap (a - b)))
  | .mul=>some (.int k (k.wrap (a * b)))
  | .quo=>if b=0 then none else some (.int k (k.wrap (a.tdiv b)))
  | .rem=>if b=0 then none else some (.int k (a.tmod b))
  | .eql=>some (.bool (decide (a=b)))
  | .neq=>some (.bool (!decide (a=b)))
  | .lss=>some (.bool (decide (a < b)))
  | .leq=>some (.bool (decide (a<=b)))
  | .gtr=>some (.bool (decide (b < a)))
  | .geq=>some (.bool (decide (b<=a)))
  | .and | .or | .xor | .andNot=>Yp op k a b
  | _=>none
def Kx (op:BinOp) (k:IntKind) (a b:Int):Option Value :=
  if b < 0 then none else
  match op with
  | .shl=>some (.int k (k.wrap (a * 2 ^ (min b.toNat k.bits))))
  | .shr=>some (.int k (a.fdiv (2 ^ (min b.toNat k.bits))))
  | _=>none
def QS (op:BinOp) (a b:ByteArray):Option Value :=
  match op with
  | .add=>if a.size + b.size < 2 ^ 63 then some (.string (a ++ b)) else none
  | .eql=>some (.bool (decide (a=b)))
  | .neq=>some (.bool (!decide (a=b)))
  | .lss=>some (.bool (Op.bytesLess a.data.toList b.data.toList))
  | .leq=>some (.bool (Op.bytesLess a.data.toList b.data.toList || decide (a=b)))
  | .gtr=>some (.bool (!(Op.bytesLess a.data.toList b.data.toList || decide (a=b))))
  | .geq=>some (.bool (!Op.bytesLess a.data.toList b.data.toList))
  | _=>none
def ef (P:Program) (t:TypeId):Option Bool :=
  (P.underlying t).map fun | .struct _ | .array _ _=>true | _=>false
def dY (P:Program) (t:TypeId):Option Nat:=(P.info? t).map (·.size)
def c5 (P:Program) (t:TypeId):Option Value:=(P.info? t).bind (·.zero)
def rC (P:Program) (t:TypeId) (cs:Array Value) (off:Nat):Option Value :=
  match ef P t with
  | some true=>(dY P t).map fun n=>.agg (cs.extract off (off + n))
  | some false=>cs[off]?
  | none=>none
def eqB (P:Program) (t:TypeId) (x y:Value):Option Bool :=
  match P.underlying t,x,y with
  | some (.int _),.int k a,.int k' b=>if k=k' then some (decide (a=b)) else none
  | some .string,.string a,.string b=>some (decide (a=b))
  | some .bool,.bool a,.bool b=>some (a == b)
  | _,_,_=>none
def TC (P:Program):List Field->Array Value->Array Value->Option Bool
  | [],_,_=>some true
  | f :: fs,xs,ys=>if f.name = "_" then none else
    match rC P f.type xs f.offset,rC P f.type ys f.offset with
    | some x,some y =>
      match eqB P f.type x y with
      | some true=>TC P fs xs ys
      | some false=>some false
      | none=>none
    | _,_=>none
def zY (P:Program) (t:TypeId) (x y:Value):Option Bool :=
  match P.underlying t,x,y with
  | some .bool,.bool a,.bool b=>some (a == b)
  | some (.pointer _),.pointer none,.pointer b=>some b.isNone
  | some (.pointer _),.pointer (some _),.pointer none=>some false
  | some (.slice _),.slice none _ _,.slice b _ _=>some b.isNone
  | some (.slice _),.slice (some _) _ _,.slice none _ _=>some false
  | some (.map _ _),.map none,.map b=>some b.isNone
  | some (.map _ _),.map (some _),.map none=>some false
  | some (.func _ _ _),.nilFunc,.nilFunc=>some true
  | some (.func _ _ _),.nilFunc,.func _ _ _=>some false
  | some (.func _ _ _),.func _ _ _,.nilFunc=>some false
  | some (.struct fs),.agg xs,.agg ys=>if P.stoodInHeld t=true\/P.eqGuardType P.depth t=true then none else TC P fs.toList xs ys
  | _,_,_=>none
def mW (P:Program) (op:BinOp) (t:TypeId) (x y:Value):Option Value :=
  match x,y with
  | .int k a,.int k' b =>
    match op with
    | .shl | .shr=>Kx op k a b
    | _=>if k=k' then qO op k a b else none
  | .string a,.string b=>QS op a b
  | x,y =>
    match op with
    | .eql=>(zY P t x y).map Value.bool
    | .neq=>(zY P t x y).map fun b=>Value.bool (!b)
    | _=>none
def unV (op:UnOp) (x:Value):Option Value :=
  match op,x with
  | .not,.bool b=>some (.bool !b)
  | .neg,.int k n=>some (.int k (k.wrap (0 - n)))
  | _,_=>none
def Fh (P:Program) (src dst:TypeId) (x:Value):Option Value :=
  match P.underlying src,P.underlying dst,x with
  | some (.int _),some (.int k),.int _ n=>some (.int k (k.wrap n))
  | some .string,some .string,.string s=>some (.string s)
  | _,_,_=>none
def eO (P:Program) (s:TypeId) (i:Nat):Option (TypeId × Nat) :=
  match P.underlying s with
  | some (.struct fs)=>(fs[i]?).map fun f=>(f.type,f.offset)
  | _=>none
def p4 (P:Program) (s:TypeId) (x:Value) (i:Nat):Option Value :=
  match x,eO P s i with
  | .pointer (some a),some (t,off)=>(dY P t).bind fun n=>if n=0 then none else some (.pointer (some (a.add off)))
  | _,_=>none
def JA (P:Program) (s:TypeId) (x:Value) (i:Nat):Option Value :=
  match x,eO P s i with
  | .agg cs,some (t,off)=>rC P t cs off
  | _,_=>none
def m5 (P:Program) (t:TypeId) (x i:Value):Option Value :=
  match P.underlying t,x,i with
  | some (.slice e),.slice (some a) len _,.int _ i=>(dY P e).bind fun n=>if 0<=i/\i < len then some (.pointer (some (a.add (i.toNat * n)))) else none
  | some (.array len e),.pointer (some a),.int _ i=>(dY P e).bind fun n=>if 0<=i/\i < len then some (.pointer (some (a.add (i.toNat * n)))) else none
  | _,_,_=>none
def yi (P:Program) (t:TypeId) (x i:Value):Option Value :=
  match P.underlying t,x,i with
  | some .string,.string s,.int _ i=>if 0<=i/\i < s.size then (s.data[i.toNat]?).map fun b=>.int .u8 b.toNat else none
  | some (.array len e),.agg cs,.int _ i=>(dY P e).bind fun n=>if 0<=i/\i < len then rC P e cs (i.toNat * n) else none
  | _,_,_=>none
def ux (x:Value) (i:Nat):Option Value :=
  match x with
  | .tuple vs=>vs[i]?
  | _=>none
def gu (x:Option (Option Value)) (d:Nat):Option Int :=
  match x with
  | none=>some d
  | some (some (.int _ i))=>some i
  | _=>none
def wa (P:Program) (t:TypeId) (x:Value) (lo hi:Option (Option Value)):Option Value :=
  match P.underlying t,x with
  | some .string,.string s =>
    (gu hi s.size).bind fun h=>(gu lo 0).bind fun l =>
      if 0<=l/\l<=h/\h<=s.size then some (.string (s.extract l.toNat h.toNat)) else none
  | some (.slice e),.slice a len cap =>
    (dY P e).bind fun n=>(gu hi len).bind fun h=>(gu lo 0).bind fun l =>
      if 0<=l/\l<=h/\h<=cap/\len<=cap then some (.slice (if cap=l.toNat then a else a.map (·.add (l.toNat * n))) (h.toNat - l.toNat) (cap - l.toNat)) else none
  | _,_=>none
def ki (ev:Operand->Option Value):List Operand->Option (List Value)
  | []=>some []
  | x :: xs=>match ev x,ki ev xs with
    | some v,some vs=>some (v :: vs)
    | _,_=>none
def cE (P:Program) (ev:Operand->Option Value):Op->Option Value
  | .move x | .assign x=>ev x
  | .pick c a b=>match ev c with
    | some (.bool true)=>ev a
    | some (.bool false)=>ev b
    | _=>none
  | .nilCheck x=>match ev x with
    | some (.pointer (some a))=>some (.pointer (some a))
    | some (.func (.func f) u c)=>some (.func (.func f) u c)
    | _=>none
  | .binOp op t x y _=>match ev x,ev y with
    | some a,some b=>mW P op t a b
    | _,_=>none
  | .unOp op _ x=>(ev x).bind (unV op)
  | .convert s d x=>(ev x).bind (Fh P s d)
  | .makeFunc fn first captured=>match ki ev first.toList,ki ev captured.toList with
    | some u,some c=>some (.func fn u.toArray c.toArray)
    | _,_=>none
  | .fieldAddr s x i=>(ev x).bind fun v=>p4 P s v i
  | .field s x i=>(ev x).bind fun v=>JA P s v i
  | .indexAddr t x i=>match ev x,ev i with
    | some a,some b=>m5 P t a b
    | _,_=>none
  | .index t x i=>match ev x,ev i with
    | some a,some b=>yi P t a b
    | _,_=>none
  | .extract x i=>(ev x).bind fun v=>ux v i
  | .slice t x lo hi none=>(ev x).bind fun v=>wa P t v (lo.map ev) (hi.map ev)
  | _=>none
section
variable {P:Program} {w:World}
theorem mP {t:TypeId} {b:Bool} (h:ef P t=some b):(isAgg t).run P w=.ok b w:=by
  unfold ef at h
  cases hu:P.underlying t with
  | none=>rw [hu] at h;cases h
  | some d=>rw [hu] at h;cases d <;> simp_all [isAgg,underlying]
theorem fb {t:TypeId} {n:Nat} (h:dY P t=some n):(sizeOf t).run P w=.ok n w:=by
  unfold dY at h
  cases hu:P.info? t with
  | none=>rw [hu] at h;cases h
  | some d=>rw [hu] at h;simp_all [sizeOf,typeInfo]
theorem iW {t:TypeId} {v:Value} (h:c5 P t=some v):(zeroValue t).run P w=.ok v w:=by
  unfold c5 at h
  cases hu:P.info? t with
  | none=>rw [hu] at h;cases h
  | some d =>
    rw [hu] at h
    simp only [Sz] at h
    simp [zeroValue,typeInfo,hu,h]
theorem cn {t:TypeId} {d:TypeDesc} (h:P.underlying t=some d):(underlying t).run P w=.ok d w:=by simp [underlying,h]
theorem pt {t:TypeId} {cs:Array Value} {off:Nat} {v:Value} (h:rC P t cs off=some v):(part t cs off).run P w=.ok v w:=by
  unfold rC at h
  cases ha:ef P t with
  | none=>rw [ha] at h;cases h
  | some b =>
    rw [ha] at h
    cases b with
    | true =>
      cases hs:dY P t with
      | none=>simp [hs] at h
      | some n=>simp [hs] at h;simp [part,mP ha,fb hs,h]
    | false=>simp only at h;simp [part,mP ha,h]
theorem aaC (a b:ByteArray):(a.toList == b.toList)=decide (a=b):=by
  rw [ByteArray.toList_eq,ByteArray.toList_eq]
  by_cases q:a=b
  · subst q;simp
  · have:a.data.toList ≠ b.data.toList:=fun e=>q (by cases a;cases b;simp at e;simp [e])
    rw [Xv q]
    exact beq_eq_false_iff_ne.2 this
theorem ZX {op:BinOp} {a b:ByteArray} {v:Value} (h:QS op a b=some v):(Op.stringOp op a b).run P w=.ok v w:=by
  have e:=aaC a b
  cases op <;> simp only [QS] at h <;> (try (cases h;done))
  case add =>
    split at h
    · cases h
      have hm:¬ (((a.size + b.size:Nat):Int) > IntKind.i64.max):=by
        have:IntKind.i64.max=9223372036854775807:=by decide
        omega
      simp only [Op.stringOp]
      rw [Xy hm]
      rfl
    · cases h
  all_goals (cases h;simp only [Op.stringOp,e];simp [ByteArray.toList_eq])
theorem ZW {op:BinOp} {k:IntKind} {a b:Int} {t:TypeId} {v:Value} (hs:op ≠ .shl) (hr:op ≠ .shr) (h:qO op k a b=some v) :
    (binOp op t (.int k a) (.int k b)).run P w=.ok v w:=by
  cases op <;> simp only [qO] at h <;> (try (cases h;done)) <;> (try exact absurd Z hs) <;> (try exact absurd Z hr)
  case quo=>split at h <;> cases h;simp [binOp,Op.intDiv, *]
  case rem=>split at h <;> cases h;simp [binOp,Op.intDiv, *]
  case and=>cases h;simp [binOp,Op.intBits]
  case or=>cases h;simp [binOp,Op.intBits]
  case xor=>cases h;simp [binOp,Op.intBits]
  case andNot=>cases h;simp [binOp,Op.intBits]
  all_goals (cases h;simp [binOp,Op.intArith,Op.intCmp])
  all_goals rfl
theorem Bi {op:BinOp} {k k':IntKind} {a b:Int} {t:TypeId} {v:Value} (h:Kx op k a b=some v) :
    (binOp op t (.int k a) (.int k' b)).run P w=.ok v w:=by
  unfold Kx at h
  split at h
  · cases h
  · cases op <;> simp only at h <;> cases h <;> simp [binOp,Op.shift, *]
theorem MR {t:TypeId} {x y:Value} {b:Bool} {d:Nat} (h:eqB P t x y=some b):(Op.equalIn (d + 1) t x y).run P w=.ok b w:=by
  unfold eqB at h
  split at h
  · rename_i hu
    split at h
    · rename_i hk;cases h;simp only [Op.equalIn,Sem.run_bind,cn hu,Result.andThen_ok,hk,if_true];rfl
    · cases h
  · rename_i a b hu;cases h;simp only [Op.equalIn,Sem.run_bind,cn hu,Result.andThen_ok,show (a == b)=decide (a=b) from by
      have e:(a == b)=(a.data == b.data):=rfl
      rw [e,Qj,QX,Sy]
      exact ⟨fun h=>by cases a;cases b;simp only at h;rw [h],fun h=>h ▸ rfl⟩];rfl
  · rename_i hu;cases h;simp only [Op.equalIn,Sem.run_bind,cn hu,Result.andThen_ok];rfl
  · cases h
theorem Wb {d:Nat} {xs ys:Array Value} (k:Option Bool × Unit->Sem Bool) (k0:(k (none,())).run P w=.ok true w) (k1:(k (some false,())).run P w=.ok false w):∀ (fs:List Field) (b:Bool),TC P fs xs ys=some b ->
    ((forIn (m := Sem) fs ((none, ()) : Option Bool × Unit) fun f r =>
          if f.name ≠ "_" then do
            let x <- part f.type xs f.offset
            let y <- part f.type ys f.offset
            let q <- Op.equalIn (d + 1) f.type x y
            if !q then pure (ForInStep.done (some false,())) else pure (ForInStep.yield (none,()))
          else pure (ForInStep.yield (none,()))) >>= k).run P w=.ok b w:=by
  intro fs
  induction fs with
  | nil=>intro b h;cases h;simpa using k0
  | cons f fs ih =>
    intro b h
    unfold TC at h
    split at h
    · cases h
    · rename_i hn
      split at h
      · rename_i x y hx hy
        rw [List.forIn_cons]
        simp only [ne_eq,hn,not_false_eq_true,if_true,Sem.run_bind,pt hx,pt hy,Result.andThen_ok]
        split at h
        · rename_i he
          have:=ih b h
          simp only [Sem.run_bind] at this
          simpa [MR (d:=d) he] using this
        · rename_i he
          cases h
          simpa [MR (d:=d) he] using k1
        · cases h
      · cases h
theorem MS {t:TypeId} {x y:Value} {b:Bool} (h:zY P t x y=some b):(Op.equal t x y).run P w=.ok b w:=by
  have e:Op.equal t x y=Op.equalIn (9999 + 1) t x y:=rfl
  rw [e]
  obtain ⟨d,hd⟩:∃ d,9999=d + 1:=⟨9998,rfl⟩
  generalize 9999=n at hd
  unfold zY at h
  split at h
  case h_11 fs xs ys hu =>
    split at h
    · cases h
    · rename_i hg
      have h1:P.stoodInHeld t=false:=by
        cases q:P.stoodInHeld t with
        | true=>exact absurd (.inl q) hg
        | false=>rfl
      subst hd
      rw [Op.equalIn]
      simp only [Sem.run_bind,cn hu,Result.andThen_ok]
      rw [show Sem.run P program w=.ok P w from rfl]
      simp only [Result.andThen_ok,h1]
      rw [Xy (by simp),<- Array.forIn_toList]
      exact Wb _ Z Z fs.toList b h
  all_goals first | (cases h;done) | (rename_i hu;cases h;simp only [Op.equalIn,Sem.run_bind,cn hu,Result.andThen_ok];rfl)
theorem ZT {op:BinOp} {t:TypeId} {x y:Value} {ox oy:Operand} {v:Value} (h:mW P op t x y=some v) :
    (do eqGuard op t ox oy x y;binOp op t x y:Sem Value).run P w=.ok v w:=by
  unfold mW at h
  split at h
  · rename_i k a k' b
    have hg:(eqGuard op t ox oy (.int k a) (.int k' b)).run P w=.ok () w:=by cases op <;> simp [eqGuard]
    simp only [Sem.run_bind,hg,Result.andThen_ok]
    split at h
    · exact Bi h
    · exact Bi h
    · split at h
      · rename_i h1 h2 hk;subst hk;exact ZW h1 h2 h
      · cases h
  · rename_i a b
    have hg:(eqGuard op t ox oy (.string a) (.string b)).run P w=.ok () w:=by cases op <;> simp [eqGuard]
    simp only [Sem.run_bind,hg,Result.andThen_ok]
    have:binOp op t (.string a) (.string b)=Op.stringOp op a b:=by cases op <;> rfl
    rw [this];exact ZX h
  · rename_i hx hy
    have hg:∀ b,zY P t x y=some b->(eqGuard op t ox oy x y).run P w=.ok () w:=fun b hb=>by
      unfold zY at hb
      split at hb
      case h_11 =>
        split at hb
        · cases hb
        · rename_i hq
          have h2:P.eqGuardType P.depth t=false:=by
            cases q:P.eqGuardType P.depth t with
            | true=>exact absurd (.inr q) hq
            | false=>rfl
          cases op <;> simp [eqGuard,h2]
      all_goals first | (cases hb;done) | (cases op <;> simp [eqGuard])
    have hbe:∀ b,zY P t x y=some b->binOp .eql t x y=(do pure (.bool (<- Op.equal t x y)))/\binOp .neq t x y=(do pure (.bool (!(<- Op.equal t x y)))):=fun b hb=>by
      unfold zY at hb
      split at hb <;> first | (cases hb;done) | exact ⟨Z,Z⟩
    cases op <;> simp only at h <;> (try (cases h;done))
    · cases he:zY P t x y with
      | none=>rw [he] at h;cases h
      | some b=>rw [he] at h;cases h;simp [hg b he,(hbe b he).1,MS he]
    · cases he:zY P t x y with
      | none=>rw [he] at h;cases h
      | some b=>rw [he] at h;cases h;simp [hg b he,(hbe b he).2,MS he]
end
end V
namespace V
section
variable {P:Program} {w:World}
theorem zC {s:TypeId} {x v:Value} {i:Nat} (h:p4 P s x i=some v):(Instr.fieldAt s x i).run P w=.ok v w:=by
  unfold p4 at h
  split at h
  · rename_i a t off hf
    unfold eO at hf
    cases hu:P.underlying s with
    | none=>simp [hu] at hf
    | some d =>
      rw [hu] at hf
      cases d <;> simp only at hf <;> (try (cases hf;done))
      rename_i fs
      cases hg:fs[i]? with
      | none=>simp [hg] at hf
      | some fd =>
        simp only [hg,RK,Option.some.injEq,Prod.mk.injEq] at hf
        obtain ⟨rfl,rfl⟩:=hf
        cases hs:dY P fd.type with
        | none=>simp [hs] at h
        | some n =>
          simp only [hs,Sz] at h
          split at h
          · cases h
          · rename_i hn
            cases h
            simp [Instr.fieldAt,cn hu,hg,Instr.sureAddr,fieldPlace,fb hs,hn]
  · cases h
theorem PT {s:TypeId} {x v:Value} {i:Nat} (h:JA P s x i=some v):(Instr.field s x i).run P w=.ok v w:=by
  unfold JA at h
  split at h
  · rename_i cs t off hf
    unfold eO at hf
    cases hu:P.underlying s with
    | none=>simp [hu] at hf
    | some d =>
      rw [hu] at hf
      cases d <;> simp only at hf <;> (try (cases hf;done))
      rename_i fs
      cases hg:fs[i]? with
      | none=>simp [hg] at hf
      | some fd =>
        simp only [hg,RK,Option.some.injEq,Prod.mk.injEq] at hf
        obtain ⟨rfl,rfl⟩:=hf
        simp [Instr.field,cn hu,hg,asAgg,pt h]
  · cases h
theorem zD {t:TypeId} {x i v:Value} (h:m5 P t x i=some v):(Instr.indexAt t x i).run P w=.ok v w:=by
  unfold m5 at h
  split at h
  · rename_i e a len cap k i hu
    cases hs:dY P e with
    | none=>simp [hs] at h
    | some n =>
      simp only [hs,Sz] at h
      split at h
      · rename_i hi;cases h;simp [Instr.indexAt,asIntOf,cn hu,hi,fb hs]
      · cases h
  · rename_i len e a k i hu
    cases hs:dY P e with
    | none=>simp [hs] at h
    | some n =>
      simp only [hs,Sz] at h
      split at h
      · rename_i hi;cases h;simp [Instr.indexAt,asIntOf,cn hu,hi,fb hs,Instr.sureAddr]
      · cases h
  · cases h
theorem PW {t:TypeId} {x i v:Value} (h:yi P t x i=some v):(Instr.index t x i).run P w=.ok v w:=by
  unfold yi at h
  split at h
  · rename_i s k i hu
    split at h
    · rename_i hi
      cases hb:s.data[i.toNat]? with
      | none=>simp [hb] at h
      | some b =>
        rw [hb] at h;simp only [RK,Option.some.injEq] at h;subst h
        have hb':s[i.toNat]? = some b:=by
          have hlt:i.toNat < s.data.size:=(Tj.1 hb).1
          have e1:s.data[i.toNat]? = some s.data[i.toNat]:=Array.getElem?_eq_getElem hlt
          rw [e1] at hb
          have hlt':i.toNat < s.size:=hlt
          rw [getElem?_pos s i.toNat hlt']
          exact hb
        simp [Instr.index,asIntOf,cn hu,hi.1,hb']
    · cases h
  · rename_i len e cs k i hu
    cases hs:dY P e with
    | none=>simp [hs] at h
    | some n =>
      simp only [hs,Sz] at h
      split at h
      · rename_i hi;simp [Instr.index,asIntOf,cn hu,hi,fb hs,pt h]
      · cases h
  · cases h
theorem Ip {x v:Value} {i:Nat} (h:ux x i=some v):(Instr.extract x i).run P w=.ok v w:=by
  unfold ux at h
  split at h
  · simp [Instr.extract,h]
  · cases h
theorem sE {k:IntKind} {i:Int} {y:Nat} {code:BoundsCode} (h:0<=i/\i<=y):(Instr.sliceBound (.int k i) y code).run P w=.ok i.toNat w:=by
  simp [Instr.sliceBound,asIntOf,h]
theorem uf {isS:Bool} {len cap:Nat} {lo hi:Option (Option Value)} {lo' hi':Option Value} {l h:Int} (hlo:∀ v,lo=some v->∃ u,v=some u/\lo'=some u) (D:lo=none->lo'=none)
    (hhi:∀ v,hi=some v->∃ u,v=some u/\hi'=some u) (V:hi=none->hi'=none)
    (h1:gu hi len=some h) (h2:gu lo 0=some l) (g1:0<=l) (g2:l<=h) (g3:h<=cap) :
    (Instr.sliceBounds isS len cap lo' hi' none).run P w=.ok (l.toNat,h.toNat,cap) w:=by
  unfold gu at h1 h2
  unfold Instr.sliceBounds
  cases hi with
  | none =>
    rw [V Z];simp only [Option.some.injEq] at h1;subst h1
    cases lo with
    | none=>rw [D Z];simp only [Option.some.injEq] at h2;subst h2;simp
    | some v =>
      obtain ⟨u,rfl,rfl⟩:=hlo v Z
      cases u <;> simp only at h2 <;> (try (cases h2;done))
      cases h2
      have hb:0<=l/\l<=((len:Nat):Int):=⟨g1,g2⟩
      simp [sE hb]
  | some v =>
    obtain ⟨u,rfl,rfl⟩:=hhi v Z
    cases u <;> simp only at h1 <;> (try (cases h1;done))
    cases h1
    have hb:0<=h/\h<=((cap:Nat):Int):=⟨by omega,g3⟩
    cases lo with
    | none=>rw [D Z];simp only [Option.some.injEq] at h2;subst h2;simp [sE hb]
    | some v =>
      obtain ⟨u,rfl,rfl⟩:=hlo v Z
      cases u <;> simp only at h2 <;> (try (cases h2;done))
      cases h2
      have X:0<=l/\l<=((h.toNat:Nat):Int):=⟨g1,by omega⟩
      simp [sE hb,sE X]
theorem PX {t:TypeId} {x v:Value} {lo hi:Option (Option Value)} {lo' hi':Option Value} (hlo:∀ v,lo=some v->∀ u,v=some u->lo'=some u) (V:lo=none->lo'=none)
    (hhi:∀ v,hi=some v->∀ u,v=some u->hi'=some u) (D:hi=none->hi'=none) (h:wa P t x lo hi=some v) :
    (Instr.sliceAt t x lo' hi' none).run P w=.ok v w:=by
  have hb:∀ (q:Option (Option Value)) (q':Option Value) d i,(∀ v,q=some v->∀ u,v=some u->q'=some u)->gu q d=some i->∀ v,q=some v->∃ u,v=some u/\q'=some u:=by
    rintro q q' d i hq hbq v rfl
    cases v with
    | none=>simp [gu] at hbq
    | some u=>exact ⟨u,Z,hq _ Z _ Z⟩
  unfold wa at h
  split at h
  · rename_i s hu
    cases h1:gu hi s.size with
    | none=>simp [h1] at h
    | some hh =>
      cases h2:gu lo 0 with
      | none=>simp [h1,h2] at h
      | some l =>
        simp only [h1,h2,Sz] at h
        split at h
        · rename_i g;cases h
          simp [Instr.sliceAt,cn hu,Instr.slice,uf (hb _ _ _ _ hlo h2) V (hb _ _ _ _ hhi h1) D h1 h2 g.1 g.2.1 g.2.2]
        · cases h
  · rename_i e a len cap hu
    cases hs:dY P e with
    | none=>simp [hs] at h
    | some n =>
      cases h1:gu hi len with
      | none=>simp [hs,h1] at h
      | some hh =>
        cases h2:gu lo 0 with
        | none=>simp [hs,h1,h2] at h
        | some l =>
          simp only [hs,h1,h2,Sz] at h
          split at h
          · rename_i g;cases h
            simp [Instr.sliceAt,cn hu,Instr.slice,fb hs,uf (hb _ _ _ _ hlo h2) V (hb _ _ _ _ hhi h1) D h1 h2 g.1 g.2.1 g.2.2.1]
          · cases h
  · cases h
theorem re {ev:Operand->Option Value} {ρ:Operand->Value} (hev:∀ x v,ev x=some v->ρ x=v) :
    ∀ (l:List Operand) (vs:List Value),ki ev l=some vs->l.map ρ=vs:=by
  intro l
  induction l with
  | nil=>intro vs h;simp [ki] at h;simp [h]
  | cons x xs ih =>
    intro vs h
    simp only [ki] at h
    split at h
    · rename_i v us h1 h2;cases h;simp [hev x v h1,ih us h2]
    · cases h
theorem run_pure {ev:Operand->Option Value} {ρ:Operand->Value} (hev:∀ x v,ev x=some v->ρ x=v) {o:Oper} {v:Value} (h:cE P ev o.op=some v) :
    (execOp ρ o).run P w=.ok (.value v) w:=by
  obtain ⟨dst,op,type,pos,after,guard⟩:=o
  simp only at h
  cases op <;> simp only [cE] at h <;> (try (cases h;done))
  case move x=>simp [execOp,hev x v h]
  case assign x=>simp [execOp,hev x v h]
  case pick c a b =>
    split at h
    · rename_i hc;simp [execOp,hev _ _ hc,asBool,hev a v h]
    · rename_i hc;simp [execOp,hev _ _ hc,asBool,hev b v h]
    · cases h
  case nilCheck x =>
    split at h
    · rename_i hc;cases h;simp [execOp,hev _ _ hc]
    · rename_i hc;cases h;simp [execOp,hev _ _ hc]
    · cases h
  case fieldAddr s x i =>
    cases hx:ev x with
    | none=>simp [hx] at h
    | some u=>rw [hx] at h;simp [execOp,hev _ _ hx,zC (w:=w) h]
  case field s x i =>
    cases hx:ev x with
    | none=>simp [hx] at h
    | some u=>rw [hx] at h;simp [execOp,hev _ _ hx,PT (w:=w) h]
  case indexAddr t x i =>
    split at h
    · rename_i h1 h2;simp [execOp,hev _ _ h1,hev _ _ h2,zD (w:=w) h]
    · cases h
  case index t x i =>
    split at h
    · rename_i h1 h2;simp [execOp,hev _ _ h1,hev _ _ h2,PW (w:=w) h]
    · cases h
  case extract x i =>
    cases hx:ev x with
    | none=>simp [hx] at h
    | some u=>rw [hx] at h;simp [execOp,hev _ _ hx,Ip (w:=w) h]
  case unOp op t x =>
    cases hx:ev x with
    | none=>simp [hx] at h
    | some u =>
      rw [hx] at h
      simp only [Sz,unV] at h
      split at h <;> first | (cases h;done) | (cases h;simp [execOp,hev _ _ hx,Op.unary,Op.intArith])
  case convert s d x =>
    cases hx:ev x with
    | none=>simp [hx] at h
    | some u =>
      rw [hx] at h
      simp only [Sz,Fh] at h
      split at h
      · rename_i k1 k2 k3 n h1 h2;cases h;simp [execOp,hev _ _ hx,convert,cn h1,cn h2,Conv.intToInt]
      · rename_i h1 h2;cases h;simp [execOp,hev _ _ hx,convert,cn h1,cn h2]
      · cases h
  case makeFunc fn first captured =>
    split at h
    · rename_i u c h1 h2
      cases h
      have e1:first.map ρ=u.toArray:=by apply Array.ext';simp [re hev _ _ h1]
      have e2:captured.map ρ=c.toArray:=by apply Array.ext';simp [re hev _ _ h2]
      simp [execOp,Instr.makeFunc,e1,e2]
    · cases h
  case slice t x lo hi mx =>
    cases mx with
    | some m=>cases h
    | none =>
      simp only at h
      cases hx:ev x with
      | none=>simp [hx] at h
      | some u =>
        rw [hx] at h
        have q:∀ (y:Option Operand),(∀ v,y.map ev=some v->∀ u,v=some u->y.map ρ=some u)/\(y.map ev=none->y.map ρ=none):=fun y=>by
          cases y with
          | none=>simp
          | some z=>simp only [RK,Option.some.injEq,reduceCtorEq,false_imp_iff,and_true];rintro v rfl u hu;exact hev _ _ hu
        have:=PX (P:=P) (w:=w) (q lo).1 (q lo).2 (q hi).1 (q hi).2 h
        simp [execOp,hev _ _ hx,this]
  case binOp op t x y yt =>
    split at h
    · rename_i h1 h2
      have:=ZT (w:=w) (ox:=x) (oy:=y) h
      simp only [execOp,hev _ _ h1,hev _ _ h2,Sem.run_bind,this,Result.andThen_ok];rfl
    · cases h
end
end V
namespace V
def AH.cell (A:AH) (a:Addr):Option Value :=
  if a.spot.isSome then none else match A.get a.block with
    | some (.row _ c _)=>c[a.off]?
    | _=>none
def kO (c:List Value) (off n:Nat):Option (List Value):=if off + n<=c.length then some ((c.drop off).take n) else none
def AH.cellsAt (A:AH) (a:Addr) (n:Nat):Option (List Value) :=
  if a.spot.isSome then none else match A.get a.block with
    | some (.row _ c _)=>kO c a.off n
    | _=>none
def jW:List Value->Nat->List Value->List Value
  | c,_,[]=>c
  | c,i,v :: vs=>jW (c.set i v) (i + 1) vs
@[simp] theorem wG (c:List Value) (i:Nat) (vs:List Value):(jW c i vs).length=c.length:=by
  induction vs generalizing c i with
  | nil=>rfl
  | cons v vs ih=>simp [jW,ih]
def ly (P:Program) (A:AH) (t:TypeId) (x:Value):Option Value :=
  match x with
  | .pointer (some a) =>
    match ef P t with
    | some true=>(dY P t).bind fun n=>(A.cellsAt a n).map fun cs=>.agg cs.toArray
    | some false=>A.cell a
    | none=>none
  | _=>none
def lG (vs:List Value):Bool:=vs.all Value.oneCell'
def Eo (P:Program) (A:AH) (t:TypeId) (x v:Value):Option AH :=
  match x with
  | .pointer (some a) =>
    if a.spot.isSome then none else
    match A.get a.block with
    | some (.row true c cap)=>if dY P t=some v.cells.size/\a.off + v.cells.size<=c.length/\lG v.cells.toList then some (A.set a.block (.row true (jW c a.off v.cells.toList) cap)) else none
    | _=>none
  | _=>none
section
variable {P:Program} {w:World} {A:AH}
theorem cD.row {rw:Bool} {c:List Value} {cap b:Nat} (h:cD A w) (g:A.get b=some (.row rw c cap)) :
    ∃ cs elem fr,w.heap[b]? = some (.cells cs elem fr)/\c.length<=cap/\cap<=cs.size/\(∀ i,i < c.length->cs[i]? = c[i]?)/\(rw=true->∀ i,i < cap->¬ (fr.1<=i/\i < fr.2)):=h.fits b _ g
theorem cD.cell {a:Addr} {v:Value} (h:cD A w) (g:A.cell a=some v):w.cell? a=some v:=by
  unfold AH.cell at g
  split at g
  · cases g
  · rename_i hs
    split at g
    · rename_i rw c cap hb
      obtain ⟨cs,e,fr,h1,_,h2,h3,_⟩:=h.row hb
      have hlt:a.off < c.length:=(Rx.1 g).1
      simp [World.cell?,h1,hs,h3 _ hlt,g]
    · cases g
theorem pG (a:Addr) (i:Nat) (h:a.spot.isSome=false):a.add i=⟨a.block,a.off + i,none⟩:=by
  cases a with
  | mk b o s =>
    cases s with
    | some _=>cases h
    | none=>unfold Addr.add;split <;> simp_all
theorem uT {a:Addr} {c:List Value} {rw:Bool} {cap:Nat} (h:cD A w) (hs:a.spot.isSome=false) (g:A.get a.block=some (.row rw c cap)) :
    ∀ (n i:Nat) (acc:Array Value),a.off + i + n<=c.length->(loadCellsFrom a i n acc).run P w=.ok (acc ++ ((c.drop (a.off + i)).take n).toArray) w:=by
  intro n
  induction n with
  | zero=>intro i acc _;simp [loadCellsFrom]
  | succ n ih =>
    intro i acc hn
    have hlt:a.off + i < c.length:=by omega
    have hc:w.cell? (a.add i)=some c[a.off + i]:=h.cell (by rw [pG a i hs];simp [AH.cell,g,SQ hlt])
    simp only [loadCellsFrom,Sem.run_bind,run_load,hc,Result.andThen_ok]
    rw [ih (i + 1) _ O]
    congr 1
    rw [Tq hlt]
    simp [Nat.add_assoc]
theorem jL {a:Addr} {n:Nat} {cs:List Value} (h:cD A w) (g:A.cellsAt a n=some cs):(loadCells a n).run P w=.ok cs.toArray w:=by
  unfold AH.cellsAt at g
  split at g
  · cases g
  · rename_i hs
    split at g
    · rename_i rw c cap hb
      unfold kO at g
      split at g
      · cases g
        rw [loadCells,uT h (by simpa using hs) hb n 0 #[] O]
        simp
      · cases g
    · cases g
theorem Bh {t:TypeId} {x v:Value} (h:cD A w) (g:ly P A t x=some v):(Instr.loadAt t x).run P w=.ok v w:=by
  unfold ly at g
  split at g
  · rename_i a
    cases ha:ef P t with
    | none=>simp [ha] at g
    | some b =>
      cases b with
      | true =>
        cases hs:dY P t with
        | none=>simp [ha,hs] at g
        | some n =>
          cases hc:A.cellsAt a n with
          | none=>simp [ha,hs,hc] at g
          | some cs=>simp [ha,hs,hc] at g;subst g;simp [Instr.loadAt,Instr.sureAddr,loadVar,mP ha,fb hs,jL h hc]
      | false=>simp only [ha] at g;simp [Instr.loadAt,Instr.sureAddr,loadVar,mP ha,h.cell g]
  · cases g
theorem fx.row {b:Nat} {c c':List Value} {cap cap':Nat} {w':World} (g:A.get b=some (.row true c cap)) (os:w'.os=w.os) (tape:w'.tape=w.tape) (output:w'.output=w.output/\w.drawn<=w'.drawn) (size:w'.heap.size=w.heap.size)
    (kept:∀ k,k ≠ b->w'.heap[k]? = w.heap[k]?):fx A w (A.set b (.row true c' cap')) w':={
  os:=os
  tape:=tape
  output:=output
  size:=Nat.le_of_eq size.symm
  kept:=fun k _ hr=>kept k (by rintro rfl;simp [AH.rw,g,fB.rw] at hr)
  rw:=fun k hk=>by
    left
    simp only [AH.rw,AH.set_get] at hk ⊢
    split at hk
    · rename_i x hx
      split at hx
      · rename_i e;subst e;simp [g,fB.rw]
      · simp [hx,hk]
    · cases hk }
theorem cD.setRow {b:Nat} {o:fB} {w':World} (h:cD A w) (size:w'.heap.size=w.heap.size) (kept:∀ k,k ≠ b->w'.heap[k]? = w.heap[k]?)
    (fits:o.fits w'.heap[b]?):cD (A.set b o) w':={
  size:=by rw [size,h.size];rfl
  fits:=fun k o hk=>by
    simp only [AH.set_get] at hk
    split at hk
    · rename_i e;subst e;cases hk;exact fits
    · rename_i e;rw [kept k e];exact h.fits k o hk }
theorem uU {b:Nat} {e:TypeId} {fr:Nat × Nat}:∀ (vs:List Value) (cs:Array Value) (a:Addr) (i:Nat) (w:World),w.heap[b]? = some (.cells cs e fr)->a.block=b->a.spot.isSome=false->lG vs=true ->
    a.off + i + vs.length<=cs.size->(∀ k,a.off + i<=k->k < a.off + i + vs.length->¬ (fr.1<=k/\k < fr.2)) ->
    ∃ w' cs',(storeCells a vs i).run P w=.ok () w'/\w'.heap[b]? = some (.cells cs' e fr)/\cs'.size=cs.size/\(∀ k,cs'[k]? = if a.off + i<=k/\k < a.off + i + vs.length then vs[k - (a.off + i)]? else cs[k]?) /\
      w'.os=w.os/\w'.tape=w.tape/\(w'.output=w.output/\w.drawn<=w'.drawn)/\w'.heap.size=w.heap.size/\(∀ k,k ≠ b->w'.heap[k]? = w.heap[k]?):=by
  intro vs
  induction vs with
  | nil =>
    intro cs a i w h _ _ _ _ _
    refine ⟨w,cs,by simp [storeCells],h,rfl,fun k=>?_,rfl,rfl,⟨rfl,XV _⟩,rfl,fun _ _=>rfl⟩
    rw [Xy (by simp only [Xz];omega)]
  | cons v vs ih =>
    intro cs a i w h hb hs ho hl hf
    simp only [lG,List.all_cons,XQ] at ho
    simp only [Xq] at hl hf
    have hlt:a.off + i < cs.size:=by omega
    have hadd:a.add i=⟨b,a.off + i,none⟩:=by rw [pG a i hs,hb]
    have h1:(w.setCell ⟨b,a.off + i,none⟩ v).heap[b]? = some (.cells (cs.setIfInBounds (a.off + i) v) e fr):=by
      simp only [World.setCell];rw [Array.getElem?_modify];simp [h]
    obtain ⟨w',cs',r,g1,g2,g3,g4,g5,g6,g7,g8⟩:=ih (cs.setIfInBounds (a.off + i) v) a (i + 1) _ h1 hb hs ho.2 Oi (fun k D V=>hf k O O)
    refine ⟨w',cs',?_,g1,by simpa using g2,fun k=>?_,g4,g5,g6,by rw [g7];simp [World.setCell],fun k hk=>by rw [g8 k hk];exact Below.heap_setCell _ _ _ _ hk⟩
    · have hc:w.cell? ⟨b,a.off + i,none⟩=some cs[a.off + i]:=by simp [World.cell?,h,hlt]
      have hz:w.frozen? ⟨b,a.off + i,none⟩=false:=by
        have:=hf (a.off + i) O O
        obtain ⟨f1,f2⟩:=fr
        simp only [World.frozen?,h]
        simp only at this
        simp only [Bool.and_eq_false_iff,VK]
        omega
      simp only [storeCells,Sem.run_bind,hadd]
      rw [run_store P w _ v _ ho.1]
      simp [hc,hz,r]
    · rw [g3 k]
      simp only [Xq]
      by_cases q:a.off + i=k
      · subst q
        rw [Xy O,XX O]
        simp [hlt]
      · by_cases q2:a.off + i < k/\k < a.off + i + (vs.length + 1)
        · rw [XX O,XX O]
          have:k - (a.off + i)=(k - (a.off + (i + 1))) + 1:=by omega
          rw [this,List.getElem?_cons_succ]
        · rw [Xy O,Xy O,Tz q]
theorem Xe (c:List Value) (i:Nat) (vs:List Value) (h:i + vs.length<=c.length) (k:Nat):(jW c i vs)[k]? = if i<=k/\k < i + vs.length then vs[k - i]? else c[k]?:=by
  induction vs generalizing c i with
  | nil=>rw [Xy (by simp only [Xz];omega)];rfl
  | cons v vs ih =>
    simp only [Xq] at h
    simp only [jW,Xq]
    rw [ih _ _ Oi]
    by_cases q:i=k
    · subst q;rw [Xy O,XX O,List.getElem?_set_self O];simp
    · by_cases q2:i < k/\k < i + (vs.length + 1)
      · rw [XX O,XX O]
        have:k - i=(k - (i + 1)) + 1:=by omega
        rw [this,List.getElem?_cons_succ]
      · rw [Xy O,Xy O];simp [q]
theorem Kh {t:TypeId} {x v:Value} {A':AH} (h:cD A w) (g:Eo P A t x v=some A') :
    ∃ w',(Instr.storeAt t x v).run P w=.ok () w'/\cD A' w'/\fx A w A' w':=by
  unfold Eo at g
  split at g
  · rename_i a
    split at g
    · cases g
    · rename_i hs
      split at g
      · rename_i c cap hb
        split at g
        · rename_i q
          cases g
          obtain ⟨cs,e,fr,h1,h0,h2,h3,h4⟩:=h.row hb
          obtain ⟨q1,q2,q3⟩:=q
          have D:a.off + v.cells.toList.length<=c.length:=by simpa using q2
          obtain ⟨w',cs',r,g1,g2,g3,g4,g5,g6,g7,g8⟩:=uU (P:=P) v.cells.toList cs a 0 w h1 Z (by simpa using hs) q3 O (fun k _ hk=>h4 Z k O)
          refine ⟨w',?_,h.setRow g7 g8 ⟨cs',e,fr,g1,by simpa using h0,by omega,fun i hi=>?_,h4⟩,fx.row hb g4 g5 g6 g7 g8⟩
          · simp [Instr.storeAt,Instr.sureAddr,storeVar,fb q1,r]
          · rw [wG] at hi
            rw [g3 i,Xe _ _ _ D,Nat.add_zero]
            split
            · rfl
            · exact h3 i hi
        · cases g
      · cases g
  · cases g
theorem kB {o:fB} {x:Obj} (h:cD A w) (f:o.fits (some x)) :
    cD (A.new o) { w with heap:=w.heap.push x }/\fx A w (A.new o) { w with heap:=w.heap.push x }:=by
  refine ⟨⟨by simp [h.size],fun b y hy=>?_⟩,⟨rfl,rfl,⟨rfl,XV _⟩,by simp,fun b hb _=>by simp [Array.getElem?_push,Nat.ne_of_lt hb],fun b hb=>?_⟩⟩
  · simp only [AH.new_get] at hy
    split at hy
    · rename_i e;cases hy;subst e;rw [<- h.size];simpa using f
    · have:=h.wf b y hy
      have hne:b ≠ w.heap.size:=by rw [h.size];omega
      simp only [Array.getElem?_push,hne,if_false]
      exact h.fits b y hy
  · simp only [AH.rw,AH.new_get] at hb ⊢
    split at hb
    · rename_i y hy
      split at hy
      · rename_i e;right;rw [h.size];omega
      · left;simp [hy,hb]
    · cases hb
theorem lU {c:Array Value} {elem:TypeId} (h:cD A w) :
    cD (A.new (.row true c.toList c.size)) { w with heap:=w.heap.push (.cells c elem) }/\fx A w (A.new (.row true c.toList c.size)) { w with heap:=w.heap.push (.cells c elem) } :=
  kB h ⟨c,elem,(0,0),rfl,by simp,XV _,fun i _=>by simp,fun _ i _=>by simp⟩
theorem j5 (h:cD A w):cD A { w with drawn:=w.drawn + 1 }/\fx A w A { w with drawn:=w.drawn + 1 } :=
  ⟨⟨h.size,h.fits⟩,⟨rfl,rfl,⟨rfl,Nat.le_succ _⟩,XV _,fun _ _ _=>rfl,fun _ h=>.inl h⟩⟩
end
end V
namespace V
def qW (A:AH) (v:Value) (size:Nat) (xs:List Value):Prop :=
  (v=.slice none 0 0/\xs=[]) \/
  ∃ b n k r rcap,v=.slice (some ⟨b,0,none⟩) n k/\A.get b=some (.row true r rcap)/\xs.length=n * size/\r.take (n * size)=xs/\n<=k/\k * size<=rcap
def blk:Value->Option Nat
  | .slice (some a) _ _=>some a.block
  | _=>none
structure ot (A:AH) (s:Value) (size:Nat) (xs:List Value) (v:Value) (A':AH):Prop where
  wf:A'.wf
  own:qW A' v size xs
  n:A.n<=A'.n
  get:∀ b o,A.get b=some o->blk s ≠ some b->A'.get b=some o
  blk:∀ b,blk v=some b->blk s=some b\/A.n<=b
def listOf (A:AH) (size:Nat):Value->Option (Nat × List Value)
  | .slice (some a) n _=>if n * size=0 then some (n,[]) else (A.cellsAt a (n * size)).map fun l=>(n,l)
  | .slice none 0 _=>some (0,[])
  | .string s=>if size=1 then some (s.size,s.data.toList.map fun b=>.int .u8 b.toNat) else none
  | _=>none
theorem OD (m:Nat):∀ r c,256<=c->c<=2 * m->Builtin.growBy m r c<=2 * m:=by
  intro r
  induction r with
  | zero=>intro c _ h;exact h
  | succ r ih =>
    intro c h1 h2
    simp only [Builtin.growBy]
    split
    · exact h2
    · exact ih _ O O
theorem wK (m k:Nat) (h:k < m):Builtin.nextslicecap m k<=2 * m:=by
  unfold Builtin.nextslicecap
  split
  · omega
  · split
    · omega
    · exact OD _ _ _ O O
section
variable {P:Program} {w:World} {A:AH}
theorem yP {size n:Nat} {x:Value} {ys:List Value} (h:cD A w) (g:listOf A size x=some (n,ys)) :
    (Builtin.lenOf x).run P w=.ok n w/\(Builtin.firstCells size n x).run P w=.ok ys.toArray w:=by
  unfold listOf at g
  split at g
  · rename_i a m k
    split at g
    · rename_i h0
      simp at g;obtain ⟨rfl,rfl⟩:=g
      refine ⟨Z,?_⟩
      simp only [Builtin.firstCells,h0,loadCells,loadCellsFrom];rfl
    · cases hc:A.cellsAt a (m * size) with
      | none=>simp [hc] at g
      | some l=>simp [hc] at g;obtain ⟨rfl,rfl⟩:=g;simp [Builtin.lenOf,Builtin.firstCells,jL h hc]
  · simp at g;obtain ⟨rfl,rfl⟩:=g;simp [Builtin.lenOf,Builtin.firstCells]
  · rename_i s
    split at g
    · simp at g;obtain ⟨rfl,rfl⟩:=g
      have:s.extract 0 s.size=s:=by simp
      simp only [Builtin.lenOf,Builtin.firstCells,this]
      refine ⟨Z,?_⟩
      have e:s.data.map (fun b=>Value.int .u8 (b.toNat:Int))=(List.map (fun b:UInt8=>Value.int .u8 (b.toNat:Int)) s.data.toList).toArray:=by
        apply Array.ext';simp
      rw [<- e];rfl
    · cases g
  · cases g
theorem zn (z:Array Value) (n:Nat):(Builtin.zeroCells z n).size=n * z.size:=by simp [Builtin.zeroCells]
theorem Ke {st xt:TypeId} {elem t:TypeId} {size bytes n sLen sCap:Nat} {base:Option Addr} {x z:Value} {d:TypeDesc} {i:TypeInfo} {xs ys:List Value}
    (h:cD A w) (hu:P.underlying st=some (.slice elem)) (hsz:dY P elem=some size) (hi:P.info? elem=some i) (hby:i.bytes=bytes) (hz:c5 P elem=some z) (hzs:z.cells.size=size)
    (hxt:P.underlying xt=some d) (hd:∀ k,d ≠ .int k) (own:qW A (.slice base sLen sCap) size xs) (hx:listOf A size x=some (n,ys)) (hy:ys.length=n * size) (ho:lG ys=true)
    (hlen:(sLen + n) * bytes<=2 ^ 47) (hlen':sLen + n < 2 ^ 63) :
    ∃ v w' A',(Builtin.append_ #[st,xt] t #[.slice base sLen sCap,x]).run P w=.ok v w'/\cD A' w'/\fx A w A' w'/\ot A (.slice base sLen sCap) size (xs ++ ys) v A':=by
  obtain ⟨r1,r2⟩:=yP (P:=P) h hx
  have hnz:(match d with | .int _=>true | _=>false)=false:=by
    cases d <;> first | rfl | exact absurd Z (hd _)
  have hold:(Builtin.firstCells size sLen (.slice base sLen sCap)).run P w=.ok xs.toArray w:=by
    rcases own with ⟨hv,rfl⟩ | ⟨b,n',k,r,rcap,hv,hg,hl,hr,hk,hc⟩
    · cases hv;simp [Builtin.firstCells]
    · cases hv
      have:A.cellsAt ⟨b,0,none⟩ (sLen * size)=some xs:=by
        have:sLen * size<=r.length:=by rw [<- hr] at hl;simp at hl;omega
        simp [AH.cellsAt,hg,kO,this,hr]
      simp [Builtin.firstCells,jL h this]
  unfold Builtin.append_
  by_cases hfit:sLen + n<=sCap
  · -- in place
    rcases own with ⟨hv,rfl⟩ | ⟨b,n',k,r₀,rcap,hv,hg,hl,hr,hk,hc⟩
    · cases hv
      have hn:n=0:=by omega
      subst hn
      have:ys=[]:=Vv.1 (by simpa using hy)
      subst this
      refine ⟨.slice none 0 0,w,A,?_,h,.refl _ _,⟨h.wf,.inl ⟨rfl,rfl⟩,XV _,fun _ _ hb _=>hb,fun _ hb=>by cases hb⟩⟩
      simp [cn hu,fb hsz,cn hxt,hnz,r1,r2]
    · cases hv
      obtain ⟨cs,e,fr,h1,h0,h2,h3,h4⟩:=h.row hg
      have hsz':(sLen + n) * size<=rcap:=Xj (TY _ hfit) hc
      have hadd:(⟨b,0,none⟩:Addr).add (sLen * size)=⟨b,sLen * size,none⟩:=by rw [pG _ _ Z];simp
      have hmul:(sLen + n) * size=sLen * size + n * size:=SW _ _ _
      obtain ⟨w',cs',r,g1,g2,g3,g4,g5,g6,g7,g8⟩:=uU (P:=P) ys cs ⟨b,sLen * size,none⟩ 0 w h1 Z Z ho (by simp only;omega) (fun k _ hk=>h4 Z k (by simp only at hk;omega))
      have hxl:xs.length=sLen * size:=hl
      have hrl:sLen * size<=r₀.length:=by rw [<- hr] at hl;simp at hl;omega
      refine ⟨.slice (some ⟨b,0,none⟩) (sLen + n) sCap,w',A.set b (.row true (xs ++ ys) rcap),?_,h.setRow g7 g8 ⟨cs',e,fr,g1,by simp;omega,by omega,fun i hi=>?_,h4⟩,fx.row hg g4 g5 g6 g7 g8,
        ⟨AH.wf_set h.wf (h.wf _ _ hg) _,.inr ⟨b,sLen + n,sCap,xs ++ ys,rcap,Z,AH.set_get_same _ _ _,by simp;omega,by rw [VX Oi],hfit,hc⟩,XV _,fun k o hk hne=>by rw [AH.set_get_ne];exact hk;rintro rfl;exact hne rfl,fun k hk=>.inl hk⟩⟩
      · simp [cn hu,fb hsz,cn hxt,hnz,r1,r2,hfit,hadd,r]
      · simp only [Xx] at hi
        rw [g3 i]
        simp only [Nat.add_zero]
        by_cases q:sLen * size<=i
        · rw [XX O,TZ O,hxl]
        · rw [Xy O,Tv O,<- hr,SX O]
          exact h3 i O
  · -- a new row
    have hcap:=wK (sLen + n) sCap O
    have X:¬ (Builtin.nextslicecap (sLen + n) sCap * i.bytes > 2 ^ 48):=by
      have:=TY i.bytes hcap
      rw [hby] at this ⊢
      have:2 * (sLen + n) * bytes=2 * ((sLen + n) * bytes):=Nat.mul_assoc _ _ _
      omega
    have a1:¬ ((((sLen + n:Nat):Int) > IntKind.i64.max)/\(False\/i.bytes=0)):=by
      have:IntKind.i64.max=9223372036854775807:=by decide
      rintro ⟨q,_⟩;omega
    generalize hq:Question.cut (.appendCap (sLen + n) sCap elem) (w.tape w.drawn (.appendCap (sLen + n) sCap elem))=newCap
    have hnc:sLen + n<=newCap:=by rw [<- hq];simp only [Question.cut];omega
    obtain ⟨v1,s1⟩:cD A w.drew/\fx A w A w.drew:=j5 h
    obtain ⟨v2,s2⟩:cD _ (w.drew.alloc (.cells (xs.toArray ++ (ys.toArray ++ Builtin.zeroCells z.cells (newCap - (sLen + n)))) elem))/\fx A w.drew _ (w.drew.alloc (.cells (xs.toArray ++ (ys.toArray ++ Builtin.zeroCells z.cells (newCap - (sLen + n)))) elem)) :=
      lU (c:=xs.toArray ++ (ys.toArray ++ Builtin.zeroCells z.cells (newCap - (sLen + n)))) (elem:=elem) v1
    have hold':(Builtin.firstCells size sLen (.slice base sLen sCap)).run P w.drew=.ok xs.toArray w.drew:=by
      rcases own with ⟨hv,rfl⟩ | ⟨b,n',k,r,rcap,hv,hg,hl,hr,hk,hc⟩
      · cases hv;simp [Builtin.firstCells]
      · cases hv
        have:A.cellsAt ⟨b,0,none⟩ (sLen * size)=some xs:=by
          have:sLen * size<=r.length:=by rw [<- hr] at hl;simp at hl;omega
          simp [AH.cellsAt,hg,kO,this,hr]
        simp [Builtin.firstCells,jL v1 this]
    have a0:=(yP (P:=P) v1 hx).2
    have D:¬ (281474976710656 < Builtin.nextslicecap (sLen + n) sCap * i.bytes):=by simpa using X
    have V:¬ (9223372036854775807 < (sLen:Int) + (n:Int)/\i.bytes=0):=by rintro ⟨q,_⟩;omega
    have hxl:xs.length=sLen * size:=by
      rcases own with ⟨hv,rfl⟩ | ⟨b,n',k,r,rcap,hv,hg,hl,hr,hk,hc⟩
      · cases hv;simp
      · cases hv;exact hl
    refine ⟨.slice (some ⟨w.heap.size,0,none⟩) (sLen + n) newCap,_,_,?_,v2,s1.trans s2,⟨v2.wf,.inr ⟨w.heap.size,sLen + n,newCap,(xs.toArray ++ (ys.toArray ++ Builtin.zeroCells z.cells (newCap - (sLen + n)))).toList,(xs.toArray ++ (ys.toArray ++ Builtin.zeroCells z.cells (newCap - (sLen + n)))).size,rfl,?_,?_,?_,hnc,?_⟩,Nat.le_succ _,fun k o hk _=>?_,fun k hk=>?_⟩⟩
    · simp [cn hu,fb hsz,cn hxt,hnz,r1,hfit,typeInfo,hi,Question.forced,iW hz,newRow]
      rw [Xy V,Xy D,hold']
      simp only [Result.andThen_ok]
      rw [a0]
      simp [hq]
    · rw [h.size];exact AH.new_get_same _ _
    · simp [hxl,hy,SW]
    · simp only [Array.toList_append,<- XY]
      rw [List.take_append_of_le_length (by simp [hxl,hy,SW])]
      rw [VX (by simp [hxl,hy,SW])]
    · simp only [Array.size_append,zn,hzs]
      simp only [List.size_toArray,hxl,hy]
      rw [<- Nat.add_assoc,<- SW,<- SW]
      exact TY _ O
    · rw [AH.new_get_ne];exact hk;have:=h.wf k o hk;omega
    · simp only [blk,Option.some.injEq] at hk;right;rw [<- hk,h.size];exact XV _
def ao (s:W8):List Value:=s.map fun b=>.int .u8 b.toNat
theorem JD (s:W8) (acc:ByteArray) :
    (s.map fun b=>(b.toNat:Int)).foldl (fun r n=>r.push (UInt8.ofNat n.toNat)) acc=⟨acc.data ++ s.toArray⟩:=by
  induction s generalizing acc with
  | nil=>simp
  | cons b s ih =>
    simp only [TJ,TQ]
    rw [ih]
    cases acc
    simp [ByteArray.push]
theorem yN {x:Value} {n:Nat} {s:W8} (h:cD A w) (hx:listOf A 1 x=some (n,ao s)) (hns:∀ t,x ≠ .string t):(Conv.bytesToString x).run P w=.ok (.string ⟨s.toArray⟩) w:=by
  unfold listOf at hx
  split at hx
  · rename_i a m k
    obtain ⟨hc,rfl⟩:(loadCells a m).run P w=.ok (ao s).toArray w/\m=n:=by
      split at hx
      · rename_i h0
        have D:m=0:=by omega
        simp only [Option.some.injEq,Prod.mk.injEq] at hx
        obtain ⟨rfl,hs⟩:=hx
        rw [<- hs,D]
        exact ⟨Z,Z⟩
      · cases hc:A.cellsAt a (m * 1) with
        | none=>rw [hc] at hx;cases hx
        | some l =>
          rw [hc] at hx
          simp only [RK,Option.some.injEq,Prod.mk.injEq] at hx
          obtain ⟨rfl,rfl⟩:=hx
          rw [TK] at hc
          exact ⟨jL (P:=P) h hc,Z⟩
    · have e:ao s=(s.map fun b=>(b.toNat:Int)).map (Value.int .u8):=by simp [ao]
      have:=hc
      rw [e] at this
      rw [Go.run_bytesToString w a m k _ this,JD]
      simp [ByteArray.empty,ByteArray.emptyWithCapacity]
      rfl
  · simp at hx
    obtain ⟨rfl,hs⟩:=hx
    cases s with
    | nil=>simp [Conv.bytesToString];rfl
    | cons _ _=>cases hs
  · exact absurd Z (hns _)
  · cases hx
theorem yQ {src dst e:TypeId} {s:ByteArray} {u:TypeDesc} (h:cD A w) (hs:P.underlying src=some u) (hd:P.underlying dst=some (.slice e)) (he:P.underlying e=some (.int .u8)) (hlen:s.size < 2 ^ 63) :
    ∃ k w',(convert src dst (.string s)).run P w=.ok (.slice (some ⟨A.n,0,none⟩) s.size k) w'/\cD (A.new (.row true (ao s.data.toList) k)) w'/\fx A w (A.new (.row true (ao s.data.toList) k)) w'/\s.size<=k:=by
  have hk:s.size<=grownCap w s.size 0 e:=by unfold grownCap;simp only [Question.cut];omega
  have hsz:(Lib.bytesCells w e s).size=grownCap w s.size 0 e:=by
    have:s.data.size=s.size:=rfl
    simp [Lib.bytesCells,this];omega
  have hos:(Lib.bytesWorld w e s).os=w.os/\(Lib.bytesWorld w e s).tape=w.tape/\((Lib.bytesWorld w e s).output=w.output/\w.drawn<=(Lib.bytesWorld w e s).drawn):=⟨rfl,rfl,rfl,by show w.drawn<=w.drawn + 1;omega⟩
  refine ⟨_,_,by rw [<- h.size];exact Lib.run_convert_string_bytes w src dst e s hs hd he,⟨by rw [Lib.bytesWorld_size,h.size];rfl,fun b o hb=>?_⟩,⟨hos.1,hos.2.1,hos.2.2,by rw [Lib.bytesWorld_size];omega,fun b hb _=>Lib.bytesWorld_at_old w e s b hb,fun b hb=>?_⟩,hk⟩
  · simp only [AH.new_get] at hb
    split at hb
    · rename_i q;subst q;cases hb
      rw [<- h.size,Lib.bytesWorld_at_new]
      refine ⟨_,_,_,rfl,?_,Nat.le_of_eq hsz.symm,fun i hi=>?_,fun _ i hi=>by simp only [hsz];omega⟩
      · simpa [ao] using hk
      · simp only [ao,TX] at hi
        have hi':i < s.data.size:=by simpa using hi
        simp only [Lib.bytesCells,ao]
        rw [SV (by simpa using hi')]
        simp
    · have:=h.wf b o hb
      rw [Lib.bytesWorld_at_old w e s b (by rw [h.size];exact this)]
      exact h.fits b o hb
  · simp only [AH.rw,AH.new_get] at hb ⊢
    split at hb
    · rename_i y hy
      split at hy
      · right;rw [h.size];omega
      · left;simp [hy,hb]
    · cases hb
end
end V
namespace V
def oM (e:im):List (Nat × Operand)->Option (List (Nat × Value))
  | []=>some []
  | (i,x) :: r=>match cg e x,oM e r with
    | some v,some vs=>some ((i,v) :: vs)
    | _,_=>none
def rD (P:Program):List Field->Option (List (Nat × Nat))
  | []=>some []
  | f :: r=>match dY P f.type,rD P r with
    | some n,some l=>some ((f.offset,n) :: l)
    | _,_=>none
def qC (place:Nat->Option (Nat × Nat)):List Value->List (Nat × Value)->Option (List Value)
  | c,[]=>some c
  | c,(i,v) :: r=>match place i with
    | none=>none
    | some (off,n)=>if v.cells.size=n/\off + n<=c.length then qC place (jW c off v.cells.toList) r else none
def dQ (P:Program) (t:TypeId):Option (List (Nat × Nat)) :=
  match P.underlying t with
  | some (.struct fs)=>rD P fs.toList
  | _=>none
def mY (P:Program) (t:TypeId) (ps:List (Nat × Value)):Option Value :=
  match P.underlying t,c5 P t with
  | some (.struct _),some z=>(dQ P t).bind fun l=>(qC (fun i=>l[i]?) z.cells.toList ps).map fun c=>.agg c.toArray
  | some (.array _ e),some z=>(dY P e).bind fun n=>(qC (fun i=>some (i * n,n)) z.cells.toList ps).map fun c=>.agg c.toArray
  | _,_=>none
def mD (z:List Value):Nat->List Value
  | 0=>[]
  | n + 1=>z ++ mD z n
def jd (P:Program) (t:TypeId) (len:Nat) (ps:List (Nat × Value)):Option (List Value) :=
  match P.underlying t with
  | some (.slice e)=>(dY P e).bind fun n=>(c5 P e).bind fun z =>
    if z.cells.size=n/\0 < n/\len * n<=2 ^ 24 then qC (fun i=>some (i * n,n)) (mD z.cells.toList len) ps else none
  | _=>none
def Gr:Value->Option Nat
  | .int .i64 n=>if 0<=n/\n < 9223372036854775808 then some n.toNat else none
  | _=>none
def qi (P:Program) (t:TypeId) (l c:Value):Option (Nat × Nat × List Value) :=
  match P.underlying t,Gr l,Gr c with
  | some (.slice e),some l,some c=>(dY P e).bind fun n=>(c5 P e).bind fun z=>(P.info? e).bind fun i =>
    if z.cells.size=n/\0 < n/\l<=c/\i.bytes * c<=281474976710656 then some (l,c,mD z.cells.toList c) else none
  | _,_,_=>none
def RE (P:Program) (A:AH) (st xt:TypeId) (s x:Value) (K:Value->AH->Prop):Prop :=
  ∃ elem size n z d i xs ys,P.underlying st=some (.slice elem)/\dY P elem=some size/\P.info? elem=some i/\c5 P elem=some z/\z.cells.size=size/\P.underlying xt=some d/\(∀ k,d ≠ .int k) /\
    (∃ base l c,s=.slice base l c/\(l + n) * i.bytes<=2 ^ 47/\l + n < 2 ^ 63)/\qW A s size xs/\listOf A size x=some (n,ys)/\ys.length=n * size/\lG ys=true /\
    ∀ v A',ot A s size (xs ++ ys) v A'->K v A'
def uG (P:Program) (A:AH) (t:TypeId) (x:Value):Option Value :=
  match P.underlying t,x with
  | some .string,.string s=>some (.int .i64 s.size)
  | some (.slice _),.slice _ n _=>some (.int .i64 n)
  | some (.map _ _),.map none=>some (.int .i64 0)
  | some (.map _ _),.map (some b)=>match A.get b with
    | some (.obj _ (.map es _))=>some (.int .i64 es.size)
    | _=>none
  | _,_=>none
def JP (k:IntKind) (x:Int):List Value->Option Int
  | []=>some x
  | .int k' y :: r=>if k=k' then JP k (if y > x then y else x) r else none
  | _=>none
def Pd (k:IntKind) (x:Int):List Value->Option Int
  | []=>some x
  | .int k' y :: r=>if k=k' then Pd k (if y < x then y else x) r else none
  | _=>none
def EP (P:Program) (A:AH) (b:Builtin) (ts:List TypeId) (args:List Value) (K:Value->AH->Prop):Prop :=
  match b,ts,args with
  | .len,[t],[x]=>∃ v,uG P A t x=some v/\K v A
  | .append,[st,xt],[s,x]=>RE P A st xt s x K
  | .max,_,.int k x :: r=>∃ v,JP k x r=some v/\K (.int k v) A
  | .min,_,.int k x :: r=>∃ v,Pd k x r=some v/\K (.int k v) A
  | _,_,_=>False
def Fw (K:Value->AH->Prop) (Kp:List PanicEntry->AH->Prop):Ending->AH->Prop
  | .returned v,A=>K v A
  | .panicked ch,A=>Kp ch A
  | .outgrown,_=>False
def xK (P:Program) (e:im) (A:AH) (c:Call) (K:Value->AH->Prop) (Kp:List PanicEntry->AH->Prop):Prop :=
  match c.callee with
  | .value f=>match cg e f,ki (cg e) c.args.toList with
    | some (.func (.func g) first captured),some args=>iy P g (first ++ args.toArray ++ captured) A (Fw K Kp)
    | _,_=>False
  | .builtin b=>match ki (cg e) c.args.toList with
    | some args=>EP P A b c.argTypes.toList args K
    | none=>False
  | .invoke _ _=>False
def OQ (P:Program) (e:TypeId):Bool:=match P.underlying e with | some (.int .u8)=>true | _=>false
def xX (P:Program) (A:AH) (src dst:TypeId) (x:Value) (K:Value->AH->Prop):Prop :=
  match P.underlying src,P.underlying dst,x with
  | some .string,some (.slice el),.string s=>OQ P el=true/\s.size < 2 ^ 63/\∀ k,s.size<=k->K (.slice (some ⟨A.n,0,none⟩) s.size k) (A.new (.row true (ao s.data.toList) k))
  | some (.slice el),some .string,.slice a n c=>OQ P el=true/\∃ l,listOf A 1 (.slice a n c)=some (n,ao l)/\K (.string ⟨l.toArray⟩) A
  | _,_,_=>∃ v,Fh P src dst x=some v/\K v A
def rh:TypeDesc->Bool
  | .int _ | .string | .bool=>true
  | _=>false
def D5 (P:Program) (A:AH) (t:TypeId) (v:Value) (K:Value->AH->Prop):Prop :=
  match P.underlying t,v with
  | some .string,.string s=>K (.pointer (some ⟨A.n,0,none⟩)) (A.new (.obj true (.stringIter s 0)))
  | some (.map _ _),.map none=>K (.pointer (some ⟨A.n,0,none⟩)) (A.new (.obj true (.mapIter none 0 #[] 0)))
  | some (.map _ _),.map (some m)=>∃ rw es clock,A.get m=some (.obj rw (.map es clock))/\K (.pointer (some ⟨A.n,0,none⟩)) (A.new (.obj true (.mapIter (some m) clock #[] clock)))
  | _,_=>False
def jj (es:Array MapEntry) (seen:Array Nat):Array MapEntry:=es.filter fun e=>!seen.contains e.born
def nextV (A:AH) (v:Value) (isS:Bool) (K:Value->AH->Prop):Prop :=
  ∃ b,v=.pointer (some ⟨b,0,none⟩) /\
    ((isS=true/\∃ s pos,A.get b=some (.obj true (.stringIter s pos)) /\
        (pos < s.size->K (.tuple #[.bool true,.int .i64 pos,.int .i32 (Utf8.decode s pos).1]) (A.set b (.obj true (.stringIter s (pos + (Utf8.decode s pos).2))))) /\
        (¬ pos < s.size->K (.tuple #[.bool false]) A)) \/
     (isS=false/\∃ since seen last,A.get b=some (.obj true (.mapIter none since seen last))/\K (.tuple #[.bool false]) A) \/
     (isS=false/\∃ m since seen last rw es clock,A.get b=some (.obj true (.mapIter (some m) since seen last))/\A.get m=some (.obj rw (.map es clock))/\m ≠ b/\(∀ x ∈ es,x.born < since)/\(seen.isEmpty=true\/es.isEmpty=true\/¬ (es.all fun x=>decide (x.born >= last))=true) /\
        (∀ x,x ∈ jj es seen->K (.tuple #[.bool true,x.key,x.val]) (A.set b (.obj true (.mapIter (some m) since (seen.push x.born) clock)))) /\
        (jj es seen = #[]->K (.tuple #[.bool false]) A)))
def TA (A:AH) (v:Value) (K:Value->AH->Prop):Prop :=
  ∃ b m since seen last rw es x,v=.pointer (some ⟨b,0,none⟩)/\A.get b=some (.obj true (.mapIter (some m) since seen last))/\A.get m=some (.obj rw (.map es last))/\m ≠ b /\
    seen.back? = some x.born/\es.find? (fun y=>y.born == x.born)=some x/\K (.tuple #[x.key,x.val]) A
def Mj (P:Program) (A:AH) (t:TypeId) (mv kv:Value) (ok:Bool) (K:Value->AH->Prop):Prop :=
  ∃ kt et kd z es r,P.underlying t=some (.map kt et)/\P.underlying kt=some kd/\rh kd=true/\c5 P et=some z /\
    ((mv=.map none/\es = #[])\/∃ m rw clock,mv=.map (some m)/\A.get m=some (.obj rw (.map es clock))) /\
    Instr.findNow kd kv es.toList 0=some r /\
    K (let p:=match r with | some (_,v)=>(v,true) | none=>(z,false);if ok then .tuple #[p.1,.bool p.2] else p.1) A
def EB (P:Program) (A:AH) (t:TypeId) (mv kv v:Value) (K:Value->AH->Prop):Prop :=
  ∃ kt et kd m es clock r,P.underlying t=some (.map kt et)/\P.underlying kt=some kd/\rh kd=true/\mv=.map (some m)/\A.get m=some (.obj true (.map es clock)) /\
    Instr.findNow kd kv es.toList 0=some r /\
    (match r with
     | some (i,_)=>(∃ x,es[i]? = some x/\Instr.sameBits 10000 x.key kv=true)/\K undef (A.set m (.obj true (.map (es.modify i fun y=>{ y with key:=kv,val:=v }) clock)))
     | none=>K undef (A.set m (.obj true (.map (es.push { key:=kv,val:=v,born:=clock }) (clock + 1)))))
def ll (P:Program) (e:im) (A:AH) (o:Oper) (K:Value->AH->Prop) (Kp:List PanicEntry->AH->Prop):Prop :=
  match o.op with
  | .alloc t=>∃ z,c5 P t=some z/\K (.pointer (some ⟨A.n,0,none⟩)) (A.new (.row true z.cells.toList z.cells.size))
  | .box _ x=>∃ v,cg e x=some v/\K (.pointer (some ⟨A.n,0,none⟩)) (A.new (.row true v.cells.toList v.cells.size))
  | .load t x=>∃ u v,cg e x=some u/\ly P A t u=some v/\K v A
  | .store t x y=>∃ u v A',cg e x=some u/\cg e y=some v/\Eo P A t u v=some A'/\K undef A'
  | .build t ps=>∃ l v,oM e ps.toList=some l/\mY P t l=some v/\K v A
  | .buildSlice t n ps=>∃ l c,oM e ps.toList=some l/\jd P t n l=some c/\K (.slice (some ⟨A.n,0,none⟩) n n) (A.new (.row true c c.length))
  | .convert s d x=>∃ v,cg e x=some v/\xX P A s d v K
  | .makeSlice t l c=>∃ u v n k cs,cg e l=some u/\cg e c=some v/\qi P t u v=some (n,k,cs)/\K (.slice (some ⟨A.n,0,none⟩) n k) (A.new (.row true cs cs.length))
  | .makeMap _ none=>K (.map (some A.n)) (A.new (.obj true (.map #[] 0)))
  | .call c=>xK P e A c K Kp
  | .range t x=>∃ v,cg e x=some v/\D5 P A t v K
  | .next x b=>∃ v,cg e x=some v/\nextV A v b K
  | .entry x=>∃ v,cg e x=some v/\TA A v K
  | .lookup t x y b=>∃ u v,cg e x=some u/\cg e y=some v/\Mj P A t u v b K
  | .mapUpdate t x y z=>∃ u k v,cg e x=some u/\cg e y=some k/\cg e z=some v/\EB P A t u k v K
  | .insert t x y z=>∃ u k v,cg e x=some u/\cg e y=some k/\cg e z=some v/\EB P A t u k v K
  | .move x=>∃ v,cE P (cg e) (.move x)=some v/\K v A
  | .assign x=>∃ v,cE P (cg e) (.assign x)=some v/\K v A
  | .pick a b c=>∃ v,cE P (cg e) (.pick a b c)=some v/\K v A
  | .nilCheck x=>∃ v,cE P (cg e) (.nilCheck x)=some v/\K v A
  | .binOp a b c d f=>∃ v,cE P (cg e) (.binOp a b c d f)=some v/\K v A
  | .unOp a b c=>∃ v,cE P (cg e) (.unOp a b c)=some v/\K v A
  | .makeFunc a b c=>∃ v,cE P (cg e) (.makeFunc a b c)=some v/\K v A
  | .fieldAddr a b c=>∃ v,cE P (cg e) (.fieldAddr a b c)=some v/\K v A
  | .field a b c=>∃ v,cE P (cg e) (.field a b c)=some v/\K v A
  | .indexAddr a b c=>∃ v,cE P (cg e) (.indexAddr a b c)=some v/\K v A
  | .index a b c=>∃ v,cE P (cg e) (.index a b c)=some v/\K v A
  | .extract a b=>∃ v,cE P (cg e) (.extract a b)=some v/\K v A
  | .slice a b c d none=>∃ v,cE P (cg e) (.slice a b c d none)=some v/\K v A
  | _=>False
section
variable {P:Program} {w:World} {A:AH}
theorem tQ {e:im} {ρ:Operand->Value} (hev:∀ x v,cg e x=some v->ρ x=v):∀ (l:List (Nat × Operand)) (vs:List (Nat × Value)),oM e l=some vs->l.map (fun p=>(p.1,ρ p.2))=vs:=by
  intro l
  induction l with
  | nil=>intro vs h;simp [oM] at h;simp [h]
  | cons p r ih =>
    obtain ⟨i,x⟩:=p
    intro vs h
    simp only [oM] at h
    split at h
    · rename_i v us h1 h2;cases h;simp [hev x v h1,ih us h2]
    · cases h
theorem QI (c:List Value) (off:Nat) (vs:List Value) :
    ((vs.toArray.zipIdx.foldl (fun (cs:Array Value) (p:Value × Nat)=>cs.setIfInBounds (off + p.2) p.1) c.toArray))=(jW c off vs).toArray:=by
  rw [<- Array.foldl_toList,Array.toList_zipIdx]
  simp only
  have key:∀ (vs:List Value) (c:List Value) (i:Nat),(vs.zipIdx i).foldl (fun (cs:Array Value) (p:Value × Nat)=>cs.setIfInBounds (off + p.2) p.1) c.toArray=(jW c (off + i) vs).toArray:=by
    intro vs
    induction vs with
    | nil=>intro c i;simp [jW]
    | cons v vs ih =>
      intro c i
      simp only [List.zipIdx_cons,TQ,jW]
      rw [show c.toArray.setIfInBounds (off + i) v=(c.set (off + i) v).toArray by simp]
      exact ih (c.set (off + i) v) (i + 1)
  exact key vs c 0
theorem CN {place:Nat->Option (Nat × Nat)}:∀ (ps:List (Nat × Value)) (c r:List Value),qC place c ps=some r->Instr.fill place c.toArray ps=some r.toArray:=by
  intro ps
  induction ps with
  | nil=>intro c r h;simp [qC] at h;simp [Instr.fill,h]
  | cons p ps ih =>
    obtain ⟨i,v⟩:=p
    intro c r h
    simp only [qC] at h
    cases hp:place i with
    | none=>simp [hp] at h
    | some q =>
      obtain ⟨off,n⟩:=q
      simp only [hp] at h
      split at h
      · rename_i hq
        have e:=QI c off v.cells.toList
        simp only [Array.toArray_toList] at e
        have hn:¬ ((v.cells.size ≠ n || off + v.cells.size > c.toArray.size)=true):=by simp [hq.1,hq.2]
        simp only [Instr.fill,hp]
        rw [Xy hn]
        have:=ih _ _ h
        rw [<- e] at this
        exact this
      · cases h
theorem PB {fs:List Field}:∀ {l:List (Nat × Nat)},rD P fs=some l->(fs.mapM fun f=>(do pure (f.offset,<- sizeOf f.type):Sem (Nat × Nat))).run P w=.ok l w:=by
  induction fs with
  | nil=>intro l h;simp [rD] at h;simp [h]
  | cons f fs ih =>
    intro l h
    simp only [rD] at h
    split at h
    · rename_i n r h1 h2;cases h
      simp only [List.mapM_cons,Sem.run_bind,fb h1,Result.andThen_ok,Sem.run_pure,ih h2]
    · cases h
theorem Ic (z:List Value) (n:Nat):(mD z n).length=n * z.length:=by
  induction n with
  | zero=>simp [mD]
  | succ n ih=>simp [mD,ih,SW,Nat.add_comm]
theorem VM (z:List Value) (n i:Nat) (h:i < n * z.length):(mD z n)[i]? = z[i % z.length]?:=by
  induction n generalizing i with
  | zero=>simp at h
  | succ n ih =>
    simp only [mD]
    by_cases q:i < z.length
    · rw [Tv q,Nat.mod_eq_of_lt q]
    · rw [TZ O,ih (i - z.length) (by rw [SW] at h;omega)]
      rw [<- Nat.mod_eq_sub_mod O]
theorem VO {z:Array Value} {n k:Nat} (h:z.size=n) (hn:0 < n):((Array.range (k * n)).map (z[· % z.size]!))=(mD z.toList k).toArray:=by
  apply Array.ext'
  apply List.ext_getElem?
  intro i
  by_cases q:i < k * n
  · have hz:i % z.size < z.size:=Nat.mod_lt _ O
    have:=VM z.toList k i (by simpa [h] using q)
    rw [show ((mD z.toList k).toArray.toList)=mD z.toList k from rfl,this]
    simp [q,hz,SQ,getElem!_pos]
  · rw [Qk Oi,Qk (by simp [Ic,h];omega)]
end
end V
namespace V
section
variable {P:Program} {w:World} {A:AH}
def kF (A:AH) (a:Act) (w:World) (o:Oper) (K:Value->AH->Prop):Act->World->Prop :=
  fun a' w'=>∃ v A',a'=a.put o.dst v/\cD A' w'/\fx A w A' w'/\K v A'
def i5 (A:AH) (a:Act) (w:World) (Kp:List PanicEntry->AH->Prop):Exit->Act->World->Prop :=
  fun x a' w'=>∃ ch A',x=.panic ch/\a'=a/\cD A' w'/\fx A w A' w'/\Kp ch A'
variable {K:Value->AH->Prop} {Kp:List PanicEntry->AH->Prop} {o:Oper} {a:Act}
theorem dX {v:Value} {w':World} {A':AH} (r:(execOp a.eval o).run P w=.ok (.value v) w') (hv:cD A' w') (hs:fx A w A' w') (hk:K v A') :
    o.wp P a w (kF A a w o K) (i5 A a w Kp):=by
  unfold Oper.wp;rw [r];exact ⟨v,A',Z,hv,hs,hk⟩
theorem zl {w':World} {A':AH} (r:(execOp a.eval o).run P w=.ok .skip w') (hv:cD A' w') (hs:fx A w A' w') (hk:K undef A') :
    o.wp P a w (kF A a w o K) (i5 A a w Kp):=by
  unfold Oper.wp;rw [r];exact ⟨undef,A',Z,hv,hs,hk⟩
theorem d7 {b:Nat} {x:Obj} (h:w.heap[b]? = some x) (hx:∀ c e f,x ≠ .cells c e f):(getObj b).run P w=.ok x w:=by
  simp only [getObj,Sem.run,h]
theorem Eb {t ty:TypeId} {x v:Value} (h:cD A w) (g:uG P A t x=some v):(Builtin.len_ #[t] ty #[x]).run P w=.ok v w:=by
  unfold uG at g
  split at g
  · rename_i s hu;cases g;simp [Builtin.len_,cn hu,goInt]
  · rename_i u b n c hu;cases g;simp [Builtin.len_,cn hu,goInt]
  · rename_i u1 u2 hu;cases g;simp [Builtin.len_,cn hu,goInt]
  · rename_i u1 u2 b hu
    split at g
    · rename_i rw es ck hb
      cases g
      have:=h.fits b _ hb
      simp only [fB.fits] at this
      simp [Builtin.len_,cn hu,goInt,d7 this.1 this.2]
    · cases g
  · cases g
theorem MU {k:IntKind}:∀ (r:List Value) (x v:Int),JP k x r=some v->(r.foldlM Builtin.max2 (.int k x)).run P w=.ok (.int k v) w:=by
  intro r
  induction r with
  | nil=>intro x v h;cases h;rfl
  | cons y r ih =>
    intro x v h
    cases y <;> simp only [JP] at h <;> (try (cases h;done))
    split at h
    · rename_i k' y hk;subst hk;simp only [List.foldlM_cons,Builtin.max2,Sem.run_bind,Sem.run_pure,Result.andThen_ok];exact ih _ _ h
    · cases h
theorem MW {k:IntKind}:∀ (r:List Value) (x v:Int),Pd k x r=some v->(r.foldlM Builtin.min2 (.int k x)).run P w=.ok (.int k v) w:=by
  intro r
  induction r with
  | nil=>intro x v h;cases h;rfl
  | cons y r ih =>
    intro x v h
    cases y <;> simp only [Pd] at h <;> (try (cases h;done))
    split at h
    · rename_i k' y hk;subst hk;simp only [List.foldlM_cons,Builtin.min2,Sem.run_bind,Sem.run_pure,Result.andThen_ok];exact ih _ _ h
    · cases h
theorem aaJ {nt:Nat} {f:Fr} {c:Call} (ha:dC nt f a) (hw:cD A w) (ho:o.op=.call c) (h:xK P f.e A c K Kp) :
    o.wp P a w (kF A a w o K) (i5 A a w Kp):=by
  have hev:∀ x v,cg f.e x=some v->a.eval x=v:=fun x v g=>c9 ha g
  obtain ⟨callee,args,argTypes⟩:=c
  have hargs:∀ vs,ki (cg f.e) args.toList=some vs->args.map a.eval=vs.toArray:=fun vs g=>by
    apply Array.ext';simp [re hev _ _ g]
  unfold xK at h
  cases callee with
  | invoke _ _=>exact h.elim
  | value fo =>
    simp only at h
    split at h
    · rename_i g first captured vs h1 h2
      have r:(execOp a.eval o).run P w=.ok (.enter g (first ++ vs.toArray ++ captured)) w:=by
        obtain ⟨dst,op,type,pos,after,guard⟩:=o
        simp only at ho;subst ho
        simp [execOp,resolve,hev _ _ h1,hargs _ h2,Deferred.ofValue,invoke,h.1 _ w]
      unfold Oper.wp;rw [r]
      refine (h.2 w hw).mono ?_
      rintro e w' ⟨A',hv,hs,hk⟩
      cases e with
      | returned v=>exact ⟨v,A',Z,hv,hs,hk⟩
      | panicked ch=>exact ⟨ch,A',Z,Z,hv,hs,hk⟩
      | outgrown=>exact hk.elim
    · exact h.elim
  | builtin b =>
    simp only at h
    split at h
    · rename_i vs h2
      obtain ⟨cs,r⟩:∃ cs,(execOp a.eval o).run P w=(builtin b argTypes o.type cs vs.toArray).run P w:=by
        obtain ⟨dst,op,type,pos,after,guard⟩:=o
        simp only at ho;subst ho
        simp only [execOp,resolve,hargs _ h2,invoke,Sem.run_bind,Sem.run_pure,Result.andThen_ok]
        exact ⟨_,Z⟩
      unfold EP at h
      split at h
      · rename_i t x ht
        obtain ⟨v,g,hk⟩:=h
        have ht':argTypes = #[t]:=by apply Array.ext';simpa using ht
        subst ht'
        exact dX (by rw [r];simp [builtin,Eb hw g]) hw (.refl _ _) hk
      · rename_i st xt s x ht
        obtain ⟨elem,size,n,z,d,i,xs,ys,q1,q2,q3,q4,q5,q6,q7,⟨base,l,c,rfl,q8,q9⟩,D,V,X,a0,hk⟩:=h
        have ht':argTypes = #[st,xt]:=by apply Array.ext';simpa using ht
        subst ht'
        obtain ⟨v,w',A',g1,g2,g3,g4⟩:=Ke (t:=o.type) hw q1 q2 q3 Z q4 q5 q6 q7 D V X a0 q8 q9
        exact dX (by rw [r];simp only [builtin,Sem.run_bind,g1,Result.andThen_ok];rfl) g2 g3 (hk v A' g4)
      · rename_i k x rr
        obtain ⟨v,g,hk⟩:=h
        exact dX (by rw [r];simp only [builtin,Builtin.max_,Sem.run_bind,MU rr x v g,Result.andThen_ok];rfl) hw (.refl _ _) hk
      · rename_i k x rr
        obtain ⟨v,g,hk⟩:=h
        exact dX (by rw [r];simp only [builtin,Builtin.min_,Sem.run_bind,MW rr x v g,Result.andThen_ok];rfl) hw (.refl _ _) hk
      · exact h.elim
    · exact h.elim
theorem Bf {t:TypeId} {l:List (Nat × Value)} {ps:Array (Nat × Value)} {v:Value} (hps:ps.toList=l) (g:mY P t l=some v):(Instr.build t ps).run P w=.ok v w:=by
  unfold mY at g
  split at g
  · rename_i fs z hu hz
    cases hl:dQ P t with
    | none=>simp [hl] at g
    | some pl =>
      cases hf:qC (fun i=>pl[i]?) z.cells.toList l with
      | none=>simp [hl,hf] at g
      | some r =>
        simp [hl,hf] at g;subst g
        simp only [dQ,hu] at hl
        have h1:=CN _ _ _ hf
        have h2:(fs.mapM fun f=>(do pure (f.offset,<- sizeOf f.type):Sem (Nat × Nat))).run P w=.ok pl.toArray w:=by
          rw [Array.mapM_eq_mapM_toList]
          simp only [Sem.run_map,PB (w:=w) hl,Result.andThen_ok]
        simp only [Instr.build,Sem.run_bind,iW hz,Result.andThen_ok,cn hu,h2,hps]
        have h3:Instr.fill (fun x=>pl.toArray[x]?) z.cells l=some r.toArray:=by simpa using h1
        simp only [h3];rfl
  · rename_i len e z hu hz
    cases hs:dY P e with
    | none=>simp [hs] at g
    | some n =>
      cases hf:qC (fun i=>some (i * n,n)) z.cells.toList l with
      | none=>simp [hs,hf] at g
      | some r =>
        simp [hs,hf] at g;subst g
        have h1:=CN _ _ _ hf
        simp only [Instr.build,Sem.run_bind,iW hz,Result.andThen_ok,cn hu,fb hs,hps]
        have h3:Instr.fill (fun i=>some (i * n,n)) z.cells l=some r.toArray:=by simpa using h1
        simp only [h3];rfl
  · cases g
theorem yM {t:TypeId} {len:Nat} {l:List (Nat × Value)} {ps:Array (Nat × Value)} {c:List Value} (h:cD A w) (hps:ps.toList=l) (g:jd P t len l=some c) :
    ∃ w',(Instr.buildSlice t len ps).run P w=.ok (.slice (some ⟨A.n,0,none⟩) len len) w'/\cD (A.new (.row true c c.length)) w'/\fx A w (A.new (.row true c c.length)) w':=by
  unfold jd at g
  split at g
  · rename_i e hu
    cases hs:dY P e with
    | none=>simp [hs] at g
    | some n =>
      cases hz:c5 P e with
      | none=>simp [hs,hz] at g
      | some z =>
        simp only [hs,hz,Sz] at g
        split at g
        · rename_i q
          have h1:=CN _ _ _ g
          have hr:=VO (k:=len) q.1 q.2.1
          obtain ⟨v1,s1⟩:=lU (c:=c.toArray) (elem:=e) h
          refine ⟨{ w with heap:=w.heap.push (.cells c.toArray e) },?_,by simpa using v1,by simpa using s1⟩
          have hn:¬ (len * n > 2 ^ 24):=by omega
          simp only [Instr.buildSlice,Sem.run_bind,cn hu,Result.andThen_ok,fb hs]
          rw [Xy hn]
          by_cases q0:len * n=0
          · have D:len=0:=by rcases Nat.mul_eq_zero.1 q0 with q | q;exact q;omega
            have he:(Array.map (fun x=>(#[]:Array Value)[x % (#[]:Array Value).size]!) (Array.range (len * n)))=(mD z.cells.toList len).toArray:=by subst D;simp [mD]
            rw [XX q0]
            simp only [Sem.run_bind,Sem.run_pure,Result.andThen_ok,hps,he,h1,newRow,run_newObj]
            rw [h.size]
          · rw [Xy q0]
            simp only [Sem.run_bind,Sem.run_pure,Result.andThen_ok,iW hz,hr,hps,h1,newRow,run_newObj]
            rw [h.size]
        · cases g
  · cases g
theorem zF {t:TypeId} {l c:Value} {n k:Nat} {cs:List Value} (h:cD A w) (g:qi P t l c=some (n,k,cs)) :
    ∃ w',(Instr.makeSlice t l c).run P w=.ok (.slice (some ⟨A.n,0,none⟩) n k) w'/\cD (A.new (.row true cs cs.length)) w'/\fx A w (A.new (.row true cs cs.length)) w':=by
  have hnat:∀ (v:Value) m,Gr v=some m->∃ i:Int,v=.int .i64 i/\0<=i/\i < 9223372036854775808/\m=i.toNat:=fun v m hv=>by
    unfold Gr at hv
    split at hv
    · split at hv
      · rename_i i q;cases hv;exact ⟨i,Z,q.1,q.2,Z⟩
      · cases hv
    · cases hv
  unfold qi at g
  split at g
  · rename_i e l' c' hu hl hc
    obtain ⟨l₀,rfl,g1,g2,rfl⟩:=hnat _ _ hl
    obtain ⟨c₀,rfl,g3,g4,rfl⟩:=hnat _ _ hc
    cases hs:dY P e with
    | none=>simp [hs] at g
    | some m =>
      cases hz:c5 P e with
      | none=>simp [hs,hz] at g
      | some z =>
        cases hi:P.info? e with
        | none=>simp [hs,hz,hi] at g
        | some i =>
          simp only [hs,hz,hi,Sz] at g
          split at g
          · rename_i q
            simp only [Option.some.injEq,Prod.mk.injEq] at g
            obtain ⟨rfl,rfl,rfl⟩:=g
            obtain ⟨q1,q2,q3,q4⟩:=q
            have D:∀ x:Int,0<=x->x < 9223372036854775808->IntKind.i64.wrap x=x:=fun x h0 h1=>IntWalk.i64_in x O
            have hr:=VO (k:=c₀.toNat) q1 q2
            obtain ⟨v1,s1⟩:=lU (c:=(mD z.cells.toList c₀.toNat).toArray) (elem:=e) h
            refine ⟨_,?_,by simpa using v1,by simpa using s1⟩
            have hbig:(c₀:Int)=(c₀.toNat:Int):=by omega
            have a0:¬ ((281474976710656:Int) < (i.bytes:Int) * c₀):=by
              rw [hbig,<- Int.natCast_mul]
              have:((i.bytes * c₀.toNat:Nat):Int)<=((281474976710656:Nat):Int):=Int.ofNat_le.2 q4
              exact Int.not_lt.2 this
            have hcond:(((decide (c₀ < 0) || decide ((281474976710656:Int) < (i.bytes:Int) * c₀)) || decide (l₀ < 0)) || decide (l₀ > c₀))=false:=by
              simp only [Bool.or_eq_false_iff,VK]
              exact ⟨⟨⟨by omega,a0⟩,by omega⟩,by omega⟩
            have hti:(typeInfo e).run P w=.ok i w:=by simp [typeInfo,hi]
            have V:∀ q:Int,(asInt (.int .i64 q)).run P w=.ok q w:=fun q=>rfl
            simp only [Instr.makeSlice,Sem.run_bind,cn hu,Result.andThen_ok,V,hti]
            rw [D l₀ g1 g2,D c₀ g3 g4]
            rw [Xy (by simpa using hcond)]
            by_cases q0:c₀.toNat * m=0
            · have X:c₀.toNat=0:=by rcases Nat.mul_eq_zero.1 q0 with q | q;exact q;omega
              have he:(Array.map (fun x=>(#[]:Array Value)[x % (#[]:Array Value).size]!) (Array.range (c₀.toNat * m)))=(mD z.cells.toList c₀.toNat).toArray:=by rw [X];simp [mD]
              simp only [Sem.run_bind,run_askRoom,Result.andThen_ok,fb hs]
              rw [XX q0]
              simp only [Sem.run_bind,Sem.run_pure,Result.andThen_ok,he,newRow,run_newObj]
              rw [h.size];rfl
            · simp only [Sem.run_bind,run_askRoom,Result.andThen_ok,fb hs]
              rw [Xy q0]
              simp only [Sem.run_bind,Sem.run_pure,Result.andThen_ok,iW hz,hr,newRow,run_newObj]
              rw [h.size];rfl
          · cases g
  · cases g
theorem aaK {nt:Nat} {f:Fr} {sr d:TypeId} {x:Operand} {u:Value} (ha:dC nt f a) (hw:cD A w) (ho:o.op=.convert sr d x) (hu:cg f.e x=some u) (h:xX P A sr d u K) :
    o.wp P a w (kF A a w o K) (i5 A a w Kp):=by
  have he:=c9 ha hu
  have hr:(execOp a.eval o).run P w=((convert sr d u).run P w).andThen fun v w'=>.ok (.value v) w':=by
    obtain ⟨dst,op,type,pos,after,guard⟩:=o
    simp only at ho;subst ho
    simp only [execOp,he,Sem.run_bind];rfl
  unfold xX at h
  split at h
  · rename_i el s h1 h2
    obtain ⟨g1,g2,hk⟩:=h
    have he:P.underlying el=some (.int .u8):=by
      unfold OQ at g1;split at g1
      · assumption
      · cases g1
    obtain ⟨k,w',r,hv,hs,hle⟩:=yQ hw h1 h2 he g2
    exact dX (by rw [hr,r];rfl) hv hs (hk k hle)
  · rename_i el b n c h1 h2
    obtain ⟨g1,l,g2,hk⟩:=h
    have he:P.underlying el=some (.int .u8):=by
      unfold OQ at g1;split at g1
      · assumption
      · cases g1
    have r:=yN (P:=P) hw g2 (fun _ q=>by cases q)
    exact dX (by rw [hr,run_convert_bytes_string w sr d el b n c h1 he h2,r];rfl) hw (.refl _ _) hk
  · obtain ⟨v,g,hk⟩:=h
    exact dX (run_pure (ev:=cg f.e) (fun x v g=>c9 ha g) (by rw [ho];simp only [cE,hu,Sz,g])) hw (.refl _ _) hk
theorem cD.obj {b:Nat} {rw:Bool} {x:Obj} (h:cD A w) (g:A.get b=some (.obj rw x)):w.heap[b]? = some x/\∀ c e f,x ≠ .cells c e f:=h.fits b _ g
theorem kf {b:Nat} {x y:Obj} (h:cD A w) (g:A.get b=some (.obj true x)) (hy:∀ c e f,y ≠ .cells c e f) :
    ∃ w',(setObj b y).run P w=.ok () w'/\cD (A.set b (.obj true y)) w'/\fx A w (A.set b (.obj true y)) w':=by
  obtain ⟨h1,h2⟩:=h.obj g
  have hb:b < w.heap.size:=(Tj.1 h1).1
  refine ⟨{ w with heap:=w.heap.setIfInBounds b y },?_,h.setRow (by simp) (fun k hk=>by simp [Tz (Ne.symm hk)]) ⟨by simp [hb],hy⟩,⟨rfl,rfl,⟨rfl,XV _⟩,by simp,fun k _ hr=>?_,fun k hk=>?_⟩⟩
  · simp only [setObj,Sem.run,h1]
  · have:k ≠ b:=by rintro rfl;simp [AH.rw,g,fB.rw] at hr
    simp [Tz (Ne.symm this)]
  · left
    simp only [AH.rw,AH.set_get] at hk ⊢
    split at hk
    · rename_i o ho
      split at ho
      · rename_i e;subst e;simp [g,fB.rw]
      · simp [ho,hk]
    · cases hk
theorem XO {nt:Nat} {f:Fr} {t:TypeId} {x:Operand} {v:Value} (ha:dC nt f a) (hw:cD A w) (ho:o.op=.range t x) (hx:cg f.e x=some v) (h:D5 P A t v K) :
    o.wp P a w (kF A a w o K) (i5 A a w Kp):=by
  have he:=c9 ha hx
  have hr:(execOp a.eval o).run P w=((Instr.range t v).run P w).andThen fun v w'=>.ok (.value v) w':=by
    obtain ⟨dst,op,type,pos,after,guard⟩:=o
    simp only at ho;subst ho
    simp only [execOp,he,Sem.run_bind];rfl
  unfold D5 at h
  split at h
  · rename_i s hu
    obtain ⟨v1,s1⟩:=kB (o:=.obj true (.stringIter s 0)) (x:=.stringIter s 0) hw ⟨rfl,fun _ _ _ q=>by cases q⟩
    refine dX (w':={ w with heap:=w.heap.push (.stringIter s 0) }) ?_ v1 s1 h
    rw [hr];simp only [Instr.range,Sem.run_bind,cn hu,Result.andThen_ok,Sem.run_pure,run_newObj,hw.size]
  · rename_i u1 u2 hu
    obtain ⟨v1,s1⟩:=kB (o:=.obj true (.mapIter none 0 #[] 0)) (x:=.mapIter none 0 #[] 0) hw ⟨rfl,fun _ _ _ q=>by cases q⟩
    refine dX (w':={ w with heap:=w.heap.push (.mapIter none 0 #[] 0) }) ?_ v1 s1 h
    rw [hr];simp only [Instr.range,Sem.run_bind,cn hu,Result.andThen_ok,Sem.run_pure,run_newObj,hw.size]
  · rename_i u1 u2 m hu
    obtain ⟨rw',es,clock,g,hk⟩:=h
    obtain ⟨g1,g2⟩:=hw.obj g
    obtain ⟨v1,s1⟩:=kB (o:=.obj true (.mapIter (some m) clock #[] clock)) (x:=.mapIter (some m) clock #[] clock) hw ⟨rfl,fun _ _ _ q=>by cases q⟩
    refine dX (w':={ w with heap:=w.heap.push (.mapIter (some m) clock #[] clock) }) ?_ v1 s1 hk
    rw [hr];simp only [Instr.range,Sem.run_bind,cn hu,Result.andThen_ok,d7 g1 g2,Sem.run_pure,run_newObj,hw.size]
  · exact h.elim
theorem aaL {nt:Nat} {f:Fr} {b:Bool} {x:Operand} {v:Value} (ha:dC nt f a) (hw:cD A w) (ho:o.op=.next x b) (hx:cg f.e x=some v) (h:nextV A v b K) :
    o.wp P a w (kF A a w o K) (i5 A a w Kp):=by
  have he:=c9 ha hx
  have hr:(execOp a.eval o).run P w=((Instr.next v b o.type).run P w).andThen fun v w'=>.ok (.value v) w':=by
    obtain ⟨dst,op,type,pos,after,guard⟩:=o
    simp only at ho;subst ho
    simp only [execOp,he,Sem.run_bind];rfl
  obtain ⟨k,rfl,h⟩:=h
  rcases h with ⟨rfl,s,pos,g,h1,h2⟩ | ⟨rfl,since,seen,last,g,h1⟩ | ⟨rfl,m,since,seen,last,rw',es,clock,g,gm,hmb,hborn,hcl,h1,h2⟩
  · obtain ⟨g1,g2⟩:=hw.obj g
    by_cases hp:pos < s.size
    · obtain ⟨w',r,v1,s1⟩:=kf (P:=P) hw g (y:=.stringIter s (pos + (Utf8.decode s pos).2)) (fun _ _ _ q=>by cases q)
      refine dX ?_ v1 s1 (h1 hp)
      rw [hr]
      simp only [Instr.next,Sem.run_bind,d7 g1 g2,Result.andThen_ok,hp,if_true,r,Sem.run_pure,goInt]
    · refine dX ?_ hw (.refl _ _) (h2 hp)
      rw [hr]
      simp only [Instr.next,Sem.run_bind,d7 g1 g2,Result.andThen_ok,hp,if_false,Sem.run_pure]
  · obtain ⟨g1,g2⟩:=hw.obj g
    refine dX ?_ hw (.refl _ _) h1
    rw [hr]
    simp only [Instr.next,Sem.run_bind,d7 g1 g2,Result.andThen_ok,Sem.run_pure]
  · obtain ⟨g1,g2⟩:=hw.obj g
    obtain ⟨g3,g4⟩:=hw.obj gm
    have hold:(es.filter fun e=>!seen.contains e.born).filter (fun e=>decide (e.born < since))=jj es seen:=by
      unfold jj
      apply Array.ext'
      simp only [Array.toList_filter]
      rw [List.filter_eq_self]
      intro y hy
      have:=(Sq.1 hy).1
      simpa using hborn y (by simpa using this)
    have hnew:(es.filter fun e=>!seen.contains e.born).filter (fun e=>decide (e.born >= since)) = #[]:=by
      apply Array.ext'
      simp only [Array.toList_filter]
      rw [List.filter_eq_nil_iff]
      intro y hy
      have:=(Sq.1 hy).1
      have:=hborn y (by simpa using this)
      simp;omega
    have hguard:(!seen.isEmpty && !es.isEmpty && es.all fun x=>decide (x.born >= last))=false:=by
      rcases hcl with q | q | q
      · simp [q]
      · simp [q]
      · cases q2:(es.all fun x=>decide (x.born >= last)) with
        | false=>simp
        | true=>exact absurd q2 q
    by_cases hl:jj es seen = #[]
    · refine dX ?_ hw (.refl _ _) (h2 hl)
      rw [hr]
      simp only [Instr.next,Sem.run_bind,d7 g1 g2,d7 g3 g4,Result.andThen_ok,hguard,hold,hnew,hl]
      simp [Question.forced]
    · have hne:(jj es seen).isEmpty=false:=by
        cases q:(jj es seen).isEmpty with
        | false=>rfl
        | true=>exact absurd (Array.isEmpty_iff.1 q) hl
      have hpos:0 < (jj es seen).size:=by
        rcases TV (jj es seen).size with q | q
        · exact absurd (Array.size_eq_zero_iff.1 q) hl
        · exact q
      -- whichever entry is picked
      have pick:∀ (n:Nat) (w₁:World),n < (jj es seen).size->cD A w₁->fx A w A w₁ ->
          ∃ x w',x ∈ jj es seen/\(jj es seen)[n]? = some x/\(setObj k (.mapIter (some m) since (seen.push x.born) clock)).run P w₁=.ok () w'/\cD (A.set k (.obj true (.mapIter (some m) since (seen.push x.born) clock))) w'/\fx A w (A.set k (.obj true (.mapIter (some m) since (seen.push x.born) clock))) w':=by
        intro n w₁ hn hv₁ hs₁
        obtain ⟨w',r,v1,s1⟩:=kf (P:=P) hv₁ g (y:=.mapIter (some m) since (seen.push (jj es seen)[n].born) clock) (fun _ _ _ q=>by cases q)
        exact ⟨(jj es seen)[n],w',Array.getElem_mem hn,by simp [hn],r,v1,hs₁.trans s1⟩
      obtain ⟨v0,s0⟩:=j5 hw
      by_cases hf:(Question.mapNext (jj es seen).size).forced=true
      · obtain ⟨y,w',hy,hyn,r,v1,s1⟩:=pick 0 w hpos hw (.refl _ _)
        refine dX ?_ v1 s1 (h1 y hy)
        rw [hr]
        simp only [Instr.next,Sem.run_bind,d7 g1 g2,d7 g3 g4,Result.andThen_ok,hguard,hold,hnew,hne]
        simp [hf,hyn,r]
      · obtain ⟨y,w',hy,hyn,r,v1,s1⟩:=pick (Question.cut (.mapNext (jj es seen).size) (w.tape w.drawn (.mapNext (jj es seen).size))) w.drew (by simp only [Question.cut];exact Nat.mod_lt _ hpos) v0 s0
        refine dX ?_ v1 s1 (h1 y hy)
        rw [hr]
        simp only [Instr.next,Sem.run_bind,d7 g1 g2,d7 g3 g4,Result.andThen_ok,hguard,hold,hnew,hne]
        simp [hf,hyn,r]
theorem XM {nt:Nat} {f:Fr} {x:Operand} {v:Value} (ha:dC nt f a) (hw:cD A w) (ho:o.op=.entry x) (hx:cg f.e x=some v) (h:TA A v K) :
    o.wp P a w (kF A a w o K) (i5 A a w Kp):=by
  have he:=c9 ha hx
  obtain ⟨b,m,since,seen,last,rw',es,y,rfl,g,gm,hmb,hs,hf,hk⟩:=h
  obtain ⟨g1,g2⟩:=hw.obj g
  obtain ⟨g3,g4⟩:=hw.obj gm
  refine dX ?_ hw (.refl _ _) hk
  obtain ⟨dst,op,type,pos,after,guard⟩:=o
  simp only at ho;subst ho
  simp only [execOp,he,Instr.entry,Sem.run_bind,d7 g1 g2,d7 g3 g4,Result.andThen_ok,hs,hf]
  simp
theorem mG {t:TypeId} {kd:TypeDesc} {v:Value} {b:Bool} (hu:P.underlying t=some kd) (hb:rh kd=true):(Instr.checkKey b 10000 t v).run P w=.ok () w:=by
  have e:Instr.checkKey b 10000 t v=Instr.checkKey b (9999 + 1) t v:=rfl
  rw [e]
  generalize 9999=d
  unfold Instr.checkKey
  cases kd <;> simp only [rh] at hb <;> (try (cases hb;done)) <;> cases v <;> simp only [Sem.run_bind,cn hu,Result.andThen_ok] <;> rfl
theorem Rg {nt:Nat} {f:Fr} {t:TypeId} {b:Bool} {x y:Operand} {u v:Value} (ha:dC nt f a) (hw:cD A w) (ho:o.op=.lookup t x y b) (hx:cg f.e x=some u) (hy:cg f.e y=some v) (h:Mj P A t u v b K) :
    o.wp P a w (kF A a w o K) (i5 A a w Kp):=by
  have he:=c9 ha hx
  have he':=c9 ha hy
  obtain ⟨kt,et,kd,z,es,r,q1,q2,q3,q4,q5,q6,hk⟩:=h
  refine dX ?_ hw (.refl _ _) hk
  obtain ⟨dst,op,type,pos,after,guard⟩:=o
  simp only at ho;subst ho
  have hfind:(Instr.findKey kt v es.toList).run P w=.ok r w:=by
    simp only [Instr.findKey,Sem.run_bind,cn q2,Result.andThen_ok,q6];rfl
  have key:(Instr.lookup t u v b).run P w=.ok (let p:=match r with | some (_,v)=>(v,true) | none=>(z,false);if b then .tuple #[p.1,.bool p.2] else p.1) w:=by
    unfold Instr.lookup
    rcases q5 with ⟨rfl,rfl⟩ | ⟨m,rw',clock,rfl,g⟩
    · simp only [Sem.run_bind,cn q1,Result.andThen_ok,Sem.run_pure,mG q2 q3,hfind]
      cases r with
      | none=>simp only [Sem.run_bind,iW q4,Result.andThen_ok,Sem.run_pure]
      | some p=>obtain ⟨i,v'⟩:=p;simp only [Sem.run_bind,Sem.run_pure,Result.andThen_ok]
    · obtain ⟨g1,g2⟩:=hw.obj g
      simp only [Sem.run_bind,cn q1,Result.andThen_ok,d7 g1 g2,Sem.run_pure,mG q2 q3,hfind]
      cases r with
      | none=>simp only [Sem.run_bind,iW q4,Result.andThen_ok,Sem.run_pure]
      | some p=>obtain ⟨i,v'⟩:=p;simp only [Sem.run_bind,Sem.run_pure,Result.andThen_ok]
  simp only [execOp,he,he',Sem.run_bind,key,Result.andThen_ok];rfl
theorem Ce {nt:Nat} {f:Fr} {t:TypeId} {x y z:Operand} {u k v:Value} (ha:dC nt f a) (hw:cD A w) (ho:o.op=.mapUpdate t x y z\/o.op=.insert t x y z) (hx:cg f.e x=some u) (hy:cg f.e y=some k) (hz:cg f.e z=some v) (h:EB P A t u k v K) :
    o.wp P a w (kF A a w o K) (i5 A a w Kp):=by
  have he:=c9 ha hx
  have he':=c9 ha hy
  have D:=c9 ha hz
  have hr:(execOp a.eval o).run P w=((Instr.mapUpdate t u k v).run P w).andThen fun _ w'=>.ok .skip w':=by
    obtain ⟨dst,op,type,pos,after,guard⟩:=o
    rcases ho with ho | ho <;> (simp only at ho;subst ho;simp only [execOp,he,he',D,Sem.run_bind];rfl)
  obtain ⟨kt,et,kd,m,es,clock,r,q1,q2,q3,rfl,g,q6,hk⟩:=h
  obtain ⟨g1,g2⟩:=hw.obj g
  have hfind:(Instr.findKey kt k es.toList).run P w=.ok r w:=by
    simp only [Instr.findKey,Sem.run_bind,cn q2,Result.andThen_ok,q6];rfl
  cases r with
  | none =>
    obtain ⟨w',r,v1,s1⟩:=kf (P:=P) hw g (y:=.map (es.push { key:=k,val:=v,born:=clock }) (clock + 1)) (fun _ _ _ q=>by cases q)
    refine zl ?_ v1 s1 hk
    rw [hr]
    simp only [Instr.mapUpdate,Sem.run_bind,cn q1,Result.andThen_ok,d7 g1 g2,mG q2 q3,hfind,r]
  | some p =>
    obtain ⟨i,v'⟩:=p
    obtain ⟨⟨x',hx',hsb⟩,hk⟩:=hk
    obtain ⟨w',r,v1,s1⟩:=kf (P:=P) hw g (y:=.map (es.modify i fun y=>{ y with key:=k,val:=v }) clock) (fun _ _ _ q=>by cases q)
    refine zl ?_ v1 s1 hk
    rw [hr]
    simp only [Instr.mapUpdate,Sem.run_bind,cn q1,Result.andThen_ok,d7 g1 g2,mG q2 q3,hfind,hx',RK,Option.getD_some,Instr.keyThatStays,hsb,if_true,Sem.run_pure,r]
theorem sA {nt:Nat} {f:Fr} (ha:dC nt f a) (hw:cD A w) (h:ll P f.e A o K Kp) :
    o.wp P a w (kF A a w o K) (i5 A a w Kp):=by
  have hev:∀ x v,cg f.e x=some v->a.eval x=v:=fun x v g=>c9 ha g
  have pure:(∃ v,cE P (cg f.e) o.op=some v/\K v A)->o.wp P a w (kF A a w o K) (i5 A a w Kp):=fun ⟨v,g,hk⟩ =>
    dX (run_pure hev g) hw (.refl _ _) hk
  obtain ⟨dst,op,type,pos,after,guard⟩:=o
  cases op <;> simp only [ll] at h <;> (try exact h.elim) <;> (try exact pure h)
  case alloc t =>
    obtain ⟨z,hz,hk⟩:=h
    obtain ⟨v1,s1⟩:=lU (c:=z.cells) (elem:=t) hw
    refine dX (w':={ w with heap:=w.heap.push (.cells z.cells t) }) ?_ v1 s1 hk
    simp only [execOp,Instr.alloc,Sem.run_bind,iW hz,Result.andThen_ok,newVar,newRow,run_newObj,Sem.run_pure,hw.size]
  case box t x =>
    obtain ⟨v,hx,hk⟩:=h
    obtain ⟨v1,s1⟩:=lU (c:=v.cells) (elem:=t) hw
    refine dX (w':={ w with heap:=w.heap.push (.cells v.cells t) }) ?_ v1 s1 hk
    simp only [execOp,Instr.box,hev _ _ hx,Sem.run_bind,Result.andThen_ok,newVar,newRow,run_newObj,Sem.run_pure,hw.size]
  case load t x =>
    obtain ⟨u,v,hx,hl,hk⟩:=h
    exact dX (by simp only [execOp,hev _ _ hx,Sem.run_bind,Bh hw hl,Result.andThen_ok];rfl) hw (.refl _ _) hk
  case store t x y =>
    obtain ⟨u,v,A',hx,hy,hl,hk⟩:=h
    obtain ⟨w',r,g1,g2⟩:=Kh (P:=P) hw hl
    exact zl (by simp only [execOp,hev _ _ hx,hev _ _ hy,Sem.run_bind,r,Result.andThen_ok];rfl) g1 g2 hk
  case build t ps =>
    obtain ⟨l,v,hl,hb,hk⟩:=h
    exact dX (by simp only [execOp,Sem.run_bind,Bf (ps:=ps.map fun (i,x)=>(i,a.eval x)) (by simpa using tQ hev _ _ hl) hb,Result.andThen_ok];rfl) hw (.refl _ _) hk
  case buildSlice t n ps =>
    obtain ⟨l,c,hl,hb,hk⟩:=h
    obtain ⟨w',r,g1,g2⟩:=yM (ps:=ps.map fun (i,x)=>(i,a.eval x)) hw (by simpa using tQ hev _ _ hl) hb
    exact dX (by simp only [execOp,Sem.run_bind,r,Result.andThen_ok];rfl) g1 g2 hk
  case convert s d x =>
    obtain ⟨v,hx,hc⟩:=h
    exact aaK ha hw Z hx hc
  case makeMap t r =>
    cases r with
    | some _=>exact h.elim
    | none =>
      obtain ⟨v1,s1⟩:=kB (o:=.obj true (.map #[] 0)) (x:=.map #[] 0) hw ⟨rfl,fun _ _ _ q=>by cases q⟩
      refine dX (w':={ w with heap:=w.heap.push (.map #[] 0) }) ?_ v1 s1 h
      simp [execOp,Instr.makeMap,hw.size]
  case makeSlice t l c =>
    obtain ⟨u,v,n,k,cs,hu,hv,hm,hk⟩:=h
    obtain ⟨w',r,g1,g2⟩:=zF (P:=P) hw hm
    exact dX (by simp only [execOp,hev _ _ hu,hev _ _ hv,Sem.run_bind,r,Result.andThen_ok];rfl) g1 g2 hk
  case slice t x lo hi mx =>
    cases mx with
    | some _=>exact h.elim
    | none=>exact pure h
  case call c=>exact aaJ ha hw Z h
  case range t x=>obtain ⟨v,hx,h⟩:=h;exact XO ha hw Z hx h
  case next x b=>obtain ⟨v,hx,h⟩:=h;exact aaL ha hw Z hx h
  case entry x=>obtain ⟨v,hx,h⟩:=h;exact XM ha hw Z hx h
  case lookup t x y b=>obtain ⟨u,v,hx,hy,h⟩:=h;exact Rg ha hw Z hx hy h
  case mapUpdate t x y z=>obtain ⟨u,k,v,hx,hy,hz,h⟩:=h;exact Ce ha hw (.inl Z) hx hy hz h
  case insert t x y z=>obtain ⟨u,k,v,hx,hy,hz,h⟩:=h;exact Ce ha hw (.inr Z) hx hy hz h
end
end V
namespace V
section
variable {P:Program} {ops:Array Oper} {Q:Exit->Act->World->Prop}
def fW (P:Program) (ops:Array Oper) (Q:Exit->Act->World->Prop) (S:Array Bool->World->Prop):Nat->Array Bool->Act->World->Prop
  | 0,listed,a,w=>Region.ready .any ops listed=[]/\Q .normal a w
  | fuel + 1,listed,a,w =>
    (Region.ready .any ops listed=[]->Q .normal a w) /\
    ∀ i ∈ Region.ready .any ops listed,wpOp P ops Q i (fun a' w'=>S (listed.setIfInBounds i true) w'/\fW P ops Q S fuel (listed.setIfInBounds i true) a' w') a w
theorem lh {S:Array Bool->World->Prop}:∀ (fuel:Nat) (listed:Array Bool) (a:Act) (w:World),fW P ops Q S fuel listed a w->wpAny P .any ops Q fuel listed a w
  | 0,_,_,_,h=>h
  | fuel + 1,_,_,_,h=>⟨h.1,fun i hi=>wpOp_mono (fun a' w' h'=>lh fuel _ a' w' h'.2) (h.2 i hi)⟩
theorem mc {S S':Array Bool->World->Prop} {x:Nat} (hS:∀ l w,l.getD x false=true->S l w->S' l w):∀ (fuel:Nat) (listed:Array Bool) (a:Act) (w:World),listed.getD x false=true->fW P ops Q S fuel listed a w->fW P ops Q S' fuel listed a w
  | 0,_,_,_,_,h=>h
  | fuel + 1,_,_,_,hx,h=>⟨h.1,fun i hi=>wpOp_mono (fun a' w' h'=>⟨hS _ w' (getD_set_true hx) h'.1,mc hS fuel _ a' w' (getD_set_true hx) h'.2⟩) (h.2 i hi)⟩
def ms (ops:Array Oper) (i:Nat):Nat->Nat->Bool
  | 0,_=>false
  | n + 1,j=>match ops[j]? with
    | none=>false
    | some o=>o.after.any fun e=>Region.binds .any e && (e.on == i || ms ops i n e.on)
def md (ops:Array Oper) (listed:Array Bool):Prop :=
  ∀ j o,ops[j]? = some o->listed.getD j false=true->∀ e ∈ o.after,Region.binds .any e=true->listed.getD e.on false=true
theorem kJ {listed:Array Bool} (hc:md ops listed) {i:Nat}:∀ (n j:Nat) (o:Oper),ops[j]? = some o->(∀ e ∈ o.after,Region.binds .any e=true->listed.getD e.on false=true)->ms ops i n j=true->listed.getD i false=true:=by
  intro n
  induction n with
  | zero=>intro j o _ _ h;cases h
  | succ n ih =>
    intro j o ho hall h
    simp only [ms,ho] at h
    obtain ⟨e,he,h⟩:=Array.any_eq_true'.1 h
    simp only [XQ,Bool.or_eq_true,QX] at h
    obtain ⟨hb,h⟩:=h
    rcases h with rfl | h
    · exact hall e he hb
    · cases hk:ops[e.on]? with
      | none=>cases n <;> simp [ms,hk] at h
      | some ok=>exact ih e.on ok hk (hc e.on ok hk (hall e he hb)) h
theorem iU {listed:Array Bool} (hc:md ops listed) {i:Nat} (hr:i ∈ Region.ready .any ops listed):md ops (listed.setIfInBounds i true):=by
  intro j o ho hj e he hb
  obtain ⟨_,oi,hoi,hall⟩:=mem_ready.1 hr
  by_cases q:i=j
  · subst q;rw [hoi] at ho;cases ho;exact getD_set_true (hall e he hb)
  · rw [getD_set_ne false q] at hj;exact getD_set_true (hc j o ho hj e he hb)
theorem jg {listed:Array Bool} {i:Nat} (h:listed.getD i true=false):listed.getD i false=false:=by
  rcases VY i listed.size with h' | h'
  · simp [h'] at h ⊢;exact h
  · simp [Ry h'] at h
theorem qs {S:Array Bool->World->Prop} {T:World->Prop} {i:Nat} {oi:Oper} {v:Value} (hi:ops[i]? = some oi) (hsel:∀ (j:Nat) (o:Oper) cs b,ops[j]? = some o->o.op ≠ .select cs b)
    (hQ:∀ c a w,Q (.panic c) (a.put oi.dst v) w->Q (.panic c) a w) (hST:∀ l w,md ops l->l.getD i true=false->S l w->T w) (hSi:∀ l w,S (l.setIfInBounds i true) w ↔ S l w) :
    ∀ (fuel:Nat) (listed:Array Bool) (a:Act) (w:World),md ops listed ->
      (∀ j oj,ops[j]? = some oj->j ≠ i->listed.getD j true=false->(∀ e ∈ oj.after,Region.binds .any e=true->e.on ≠ i)->oi.apart ops oj=true) ->
      i ∈ Region.ready .any ops listed->YieldsIf P ops T oi v a->S listed w ->
      fW P ops Q S fuel (listed.setIfInBounds i true) (a.put oi.dst v) w->fW P ops Q S (fuel + 1) listed a w:=by
  intro fuel
  induction fuel with
  | zero =>
    intro listed a w hcl _ hr hy hS H
    refine ⟨fun h=>(by rw [h] at hr;cases hr),fun j hj=>?_⟩
    by_cases hji:j=i
    · subst hji;exact hy.wpOp hi (hST _ _ hcl (mem_ready.1 hr).1 hS) ⟨(hSi _ _).2 hS,H⟩
    · have:=ready_mono hj hji
      rw [H.1] at this
      cases this
  | succ fuel ih =>
    intro listed a w hcl hfree hr hy hS H
    refine ⟨fun h=>(by rw [h] at hr;cases hr),fun j hj=>?_⟩
    by_cases hji:j=i
    · subst hji;exact hy.wpOp hi (hST _ _ hcl (mem_ready.1 hr).1 hS) ⟨(hSi _ _).2 hS,H⟩
    · have h1:=H.2 j (ready_mono hj hji)
      obtain ⟨hjun,oj,hoj,hall⟩:=mem_ready.1 hj
      have hnot:∀ e ∈ oj.after,Region.binds .any e=true->e.on ≠ i:=fun e he hb heq=>by
        have h1:=hall e he hb
        have h0:=(mem_ready.1 hr).1
        rw [heq] at h1
        rw [jg h0] at h1;cases h1
      have h2:=wpOp_putIf (S:=T) hoj (hfree j oj hoj hji hjun hnot) (fun cs b=>hsel i oi cs b hi) (fun cs b=>hsel j oj cs b hoj) hQ hy h1
      have hfree':∀ k ok,ops[k]? = some ok->k ≠ i->(listed.setIfInBounds j true).getD k true=false ->
          (∀ e ∈ ok.after,Region.binds .any e=true->e.on ≠ i)->oi.apart ops ok=true:=fun k ok hk hki hun hno=>by
        refine hfree k ok hk hki ?_ hno
        by_cases hjk:j=k
        · subst hjk;exact hjun
        · rw [getD_set_ne true hjk] at hun;exact hun
      refine wpOp_mono (fun a' w' h3=>?_) h2
      have hS':S (listed.setIfInBounds j true) w':=by
        have:=h3.2.1
        rw [Array.setIfInBounds_comm _ _ (Ne.symm hji),hSi] at this
        exact this
      refine ⟨hS',ih (listed.setIfInBounds j true) a' w' (iU hcl hj) hfree' (ready_mono hr (Ne.symm hji)) h3.1 hS' ?_⟩
      rw [Array.setIfInBounds_comm _ _ hji]
      exact h3.2.2
end
abbrev fC:=List (Addr × Value)
def gt (T:fC) (w:World):Prop:=∀ p ∈ T,w.cell? p.1=some p.2
def dF:Op->Bool
  | .move _ | .assign _ | .pick .. | .nilCheck _ | .binOp .. | .unOp .. | .makeFunc .. | .fieldAddr .. | .field .. | .indexAddr .. | .index .. | .extract .. | .load .. | .slice _ _ _ _ none=>true
  | .convert ..=>true
  | .build ..=>true
  | .call { callee:=.builtin .len,.. }=>true
  | .call { callee:=.builtin .max,.. }=>true
  | .call { callee:=.builtin .min,.. }=>true
  | _=>false
def nW (ops:Array Oper):Array Bool->List Nat->Bool
  | listed,[]=>(Region.ready .any ops listed).isEmpty
  | listed,i :: C=>match ops[i]? with
    | none=>false
    | some o =>
      if dF o.op then (Region.ready .any ops listed).contains i && Region.free .any ops listed i && nW ops (listed.setIfInBounds i true) C
      else (Region.ready .any ops listed == [i]) && nW ops (listed.setIfInBounds i true) C
def loud (ops:Array Oper) (j:Nat):Prop:=∃ o,ops[j]? = some o/\dF o.op=false
def eH (ops:Array Oper) (held:List (Nat × fC)) (l:Array Bool) (w:World):Prop :=
  ∀ p ∈ held,(∀ j,l.getD j false=true->loud ops j->ms ops p.1 ops.size j=false)->gt p.2 w
section
variable {P:Program} {nt:Nat} {ops:Array Oper} {Q:Exit->Fr->AH->Prop} {f:Fr} {A:AH}
def bn (P:Program) (nt:Nat) (ops:Array Oper) (Q:Exit->Fr->AH->Prop) (listed:Array Bool) (held:List (Nat × fC)) (C:List Nat) (f:Fr) (A:AH):Prop :=
  nW ops listed C=true->Region.noSelect ops=true->∀ a w,dC nt f a->cD A w->eH ops held listed w->md ops listed ->
    ∀ (A₀:AH) (w₀:World),fx A₀ w₀ A w->fW P ops (eM nt Q A₀ w₀) (eH ops held) C.length listed a w
theorem j9 {held:List (Nat × fC)} {i:Nat} {o:Oper} (ho:ops[i]? = some o) (hq:dF o.op=true) (l:Array Bool) (w:World) :
    eH ops held (l.setIfInBounds i true) w ↔ eH ops held l w:=by
  have key:∀ j,loud ops j->(l.setIfInBounds i true).getD j false=l.getD j false:=fun j ⟨o',h1,h2⟩=>by
    have:i ≠ j:=by rintro rfl;rw [ho] at h1;cases h1;rw [hq] at h2;cases h2
    exact getD_set_ne false this
  constructor
  · intro h p hp hj;exact h p hp fun j hl hlo=>hj j (by rw [key j hlo] at hl;exact hl) hlo
  · intro h p hp hj;exact h p hp fun j hl hlo=>hj j (by rw [key j hlo];exact hl) hlo
theorem vH {A₀:AH} {w₀:World} (d:Option Nat) (v:Value) (c:List PanicEntry) (a:Act) (w:World) (h:eM nt Q A₀ w₀ (.panic c) (a.put d v) w):eM nt Q A₀ w₀ (.panic c) a w:=by
  obtain ⟨f',A',g1,g2,g3,g4,g5⟩:=h
  obtain ⟨fe,fds⟩:=f'
  have:fe=[]:=g5 c Z
  subst this
  refine ⟨⟨[],fds⟩,A',⟨?_,(fun _ _ q=>by cases q),?_⟩,g2,g3,g4,fun _ _=>rfl⟩
  · have:=g1.size;cases d <;> simp [Act.put] at this <;> exact this
  · have:=g1.ds;cases d <;> simp [Act.put] at this <;> exact this
theorem bn.quiet {listed:Array Bool} {held:List (Nat × fC)} {i:Nat} {C:List Nat} {o:Oper} {v:Value} {T:fC} (ho:ops[i]? = some o) (hq:dF o.op=true) (hd:∀ t,o.dst=some t->t < nt)
    (hv:∀ a w,dC nt f a->cD A w->gt T w/\YieldsIf P ops (gt T) o v a)
    (h:bn P nt ops Q (listed.setIfInBounds i true) ((i,T) :: held) C ⟨gj f.e o.dst v,f.ds⟩ A):bn P nt ops Q listed held (i :: C) f A:=by
  intro hc hn a w ha hw hh hcl A₀ w₀ hs
  simp only [nW,ho,XX hq,XQ] at hc
  obtain ⟨⟨c1,c2⟩,c3⟩:=hc
  obtain ⟨t1,t2⟩:=hv a w ha hw
  have hr:i ∈ Region.ready .any ops listed:=by simpa using c1
  have hheld:eH ops ((i,T) :: held) listed w:=fun p hp hj=>by
    rcases Vz.1 hp with rfl | hp
    · exact t1
    · exact hh p hp hj
  have H:=h c3 hn _ w (ha.put o.dst v hd) hw ((j9 ho hq _ _).2 hheld) (iU hcl hr) A₀ w₀ hs
  have free:=Region.free_spec ho c2
  have H':fW P ops (eM nt Q A₀ w₀) (eH ops ((i,T) :: held)) (C.length + 1) listed a w :=
    qs (T:=gt T) ho (Region.noSelect_spec hn) (fun c a w g=>vH _ _ c a w g)
      (fun l w' hcl' hun hS=>hS (i,T) (Vy ..) fun j hl ⟨oj,hoj,_⟩=>by
        cases q:ms ops i ops.size j with
        | false=>rfl
        | true =>
          have:=kJ hcl' ops.size j oj hoj (hcl' j oj hoj hl) q
          rw [jg hun] at this;cases this)
      (fun l w'=>j9 ho hq l w') _ listed a w hcl (fun j oj hoj hne hun hno=>free j oj hoj hne hun hno) hr t2 hheld H
  -- less is asked
  have weaken:∀ (fuel:Nat) (l:Array Bool) (a:Act) (w:World),fW P ops (eM nt Q A₀ w₀) (eH ops ((i,T) :: held)) fuel l a w->fW P ops (eM nt Q A₀ w₀) (eH ops held) fuel l a w:=by
    intro fuel
    induction fuel with
    | zero=>intro l a w h;exact h
    | succ fuel ih=>intro l a w h;exact ⟨h.1,fun j hj=>wpOp_mono (fun a' w' h'=>⟨fun p hp=>h'.1 p (VZ _ hp),ih _ _ _ h'.2⟩) (h.2 j hj)⟩
  exact weaken _ _ _ _ H'
theorem bn.loudOff {listed:Array Bool} {held:List (Nat × fC)} {i:Nat} {C:List Nat} {o:Oper} (ho:ops[i]? = some o) (hq:dF o.op=false) (hd:∀ t,o.dst=some t->t < nt) (hwn:∀ a:Act,dC nt f a->Region.wanted o (yielded ops a.tmps)=false)
    (h:bn P nt ops Q (listed.setIfInBounds i true) (held.filter fun p=>!ms ops p.1 ops.size i) C ⟨gj f.e o.dst undef,f.ds⟩ A):bn P nt ops Q listed held (i :: C) f A:=by
  intro hc hn a w ha hw hh hcl A₀ w₀ hs
  simp only [nW,ho,hq,Bool.false_eq_true,if_false,XQ,QX] at hc
  obtain ⟨c1,c2⟩:=hc
  have hr:i ∈ Region.ready .any ops listed:=by rw [c1];simp
  have hlt:i < listed.size:=by
    have:=(mem_ready.1 hr).1
    rcases VY i listed.size with h' | h'
    · exact h'
    · simp [Ry h'] at this
  have hl:(listed.setIfInBounds i true).getD i false=true:=by simp [hlt]
  simp only [Xq]
  refine ⟨fun h0=>(by rw [c1] at h0;cases h0),fun j hj=>?_⟩
  rw [c1,Vk] at hj
  subst hj
  unfold wpOp
  simp only [ho,hwn a ha,Bool.false_eq_true,if_false]
  have hh':eH ops held (listed.setIfInBounds j true) w:=fun p hp hj=>hh p hp fun k hk hlo=>hj k (getD_set_true hk) hlo
  refine ⟨hh',?_⟩
  have hlo:V.loud ops j:=⟨o,ho,hq⟩
  have H:=h c2 hn _ w (ha.put o.dst undef hd) hw (fun p hp hj=>hh' p (Sq.1 hp).1 hj) (iU hcl hr) A₀ w₀ hs
  refine mc (x:=j) (fun l w hx hS p hp hj=>hS p (Sq.2 ⟨hp,?_⟩) hj) _ _ _ _ hl H
  simp [hj j hx hlo]
theorem bn.loud {listed:Array Bool} {held:List (Nat × fC)} {i:Nat} {C:List Nat} {o:Oper} (ho:ops[i]? = some o) (hq:dF o.op=false) (hd:∀ t,o.dst=some t->t < nt) (hwn:∀ a:Act,dC nt f a->Region.wanted o (yielded ops a.tmps)=true)
    (h:∀ (K:Value->AH->Prop) (Kp:List PanicEntry->AH->Prop),
      (∀ v A',(∀ w',cD A' w'->∀ p ∈ held,ms ops p.1 ops.size i=false->gt p.2 w')->bn P nt ops Q (listed.setIfInBounds i true) (held.filter fun p=>!ms ops p.1 ops.size i) C ⟨gj f.e o.dst v,f.ds⟩ A'->K v A') ->
      (∀ ch A',Q (.panic ch) ⟨[],f.ds⟩ A'->Kp ch A')->ll P f.e A o K Kp):bn P nt ops Q listed held (i :: C) f A:=by
  intro hc hn a w ha hw hh hcl A₀ w₀ hs
  simp only [nW,ho,hq,Bool.false_eq_true,if_false,XQ,QX] at hc
  obtain ⟨c1,c2⟩:=hc
  have hr:i ∈ Region.ready .any ops listed:=by rw [c1];simp
  have hlt:i < listed.size:=by
    have:=(mem_ready.1 hr).1
    rcases VY i listed.size with h' | h'
    · exact h'
    · simp [Ry h'] at this
  have hl:(listed.setIfInBounds i true).getD i false=true:=by simp [hlt]
  simp only [Xq]
  refine ⟨fun h0=>(by rw [c1] at h0;cases h0),fun j hj=>?_⟩
  rw [c1,Vk] at hj
  subst hj
  unfold wpOp
  simp only [ho,hwn a ha,if_true]
  left
  have:=sA (o:=o) (K:=fun v A'=>(∀ w',cD A' w'->∀ p ∈ held,ms ops p.1 ops.size j=false->gt p.2 w')/\bn P nt ops Q (listed.setIfInBounds j true) (held.filter fun p=>!ms ops p.1 ops.size j) C ⟨gj f.e o.dst v,f.ds⟩ A')
    (Kp:=fun ch A'=>Q (.panic ch) ⟨[],f.ds⟩ A') ha hw (h _ _ (fun v A' g1 g2=>⟨g1,g2⟩) (fun ch A' g=>g))
  unfold Oper.wp at this ⊢
  have up:∀ r,o.upon P a (kF A a w o fun v A'=>(∀ w',cD A' w'->∀ p ∈ held,ms ops p.1 ops.size j=false->gt p.2 w')/\bn P nt ops Q (listed.setIfInBounds j true) (held.filter fun p=>!ms ops p.1 ops.size j) C ⟨gj f.e o.dst v,f.ds⟩ A') (i5 A a w fun ch A'=>Q (.panic ch) ⟨[],f.ds⟩ A') r ->
      o.upon P a (fun a' w'=>eH ops held (listed.setIfInBounds j true) w'/\fW P ops (eM nt Q A₀ w₀) (eH ops held) C.length (listed.setIfInBounds j true) a' w') (eM nt Q A₀ w₀) r:=by
    have next:∀ a' w',(kF A a w o fun v A'=>(∀ w',cD A' w'->∀ p ∈ held,ms ops p.1 ops.size j=false->gt p.2 w')/\bn P nt ops Q (listed.setIfInBounds j true) (held.filter fun p=>!ms ops p.1 ops.size j) C ⟨gj f.e o.dst v,f.ds⟩ A') a' w' ->
        eH ops held (listed.setIfInBounds j true) w'/\fW P ops (eM nt Q A₀ w₀) (eH ops held) C.length (listed.setIfInBounds j true) a' w':=by
      rintro a' w' ⟨v,A',rfl,hv',hs',g1,g2⟩
      have hlo:V.loud ops j:=⟨o,ho,hq⟩
      have hh':eH ops held (listed.setIfInBounds j true) w':=fun p hp hj=>g1 w' hv' p hp (hj j hl hlo)
      refine ⟨hh',?_⟩
      have H:=g2 c2 hn _ w' (ha.put o.dst v hd) hv' (fun p hp hj=>hh' p (Sq.1 hp).1 hj) (iU hcl hr) A₀ w₀ (hs.trans hs')
      refine mc (x:=j) (fun l w hx hS p hp hj=>hS p (Sq.2 ⟨hp,?_⟩) hj) _ _ _ _ hl H
      simp [hj j hx hlo]
    have pan:∀ x a' w',i5 A a w (fun ch A'=>Q (.panic ch) ⟨[],f.ds⟩ A') x a' w'->eM nt Q A₀ w₀ x a' w':=by
      rintro x a' w' ⟨ch,A',rfl,rfl,hv',hs',g⟩
      exact ⟨⟨[],f.ds⟩,A',⟨ha.size,(fun _ _ q=>by cases q),ha.ds⟩,hv',hs.trans hs',g,fun _ _=>rfl⟩
    intro r hr'
    cases r with
    | ok n w' =>
      cases n <;> simp only [Oper.upon] at hr' ⊢ <;> (try exact hr'.elim)
      case value v=>exact next _ _ hr'
      case skip=>exact next _ _ hr'
      case defer d=>exact next _ _ hr'
      case enter f' args =>
        refine hr'.mono fun e w'' he=>?_
        cases e with
        | returned v=>exact next _ _ he
        | panicked ch=>exact pan _ _ _ he
        | outgrown=>obtain ⟨a₁,w₁,ch,A',q,_⟩:=he;cases q
      case row row args=>exact hr'.mono fun v w'' he=>next _ _ he
    | halt x w' =>
      cases x <;> simp only [Oper.upon] at hr' ⊢ <;> (try exact hr'.elim)
      case panic v=>exact pan _ _ _ hr'
  exact up _ this
theorem bn.done {listed:Array Bool} {held:List (Nat × fC)} (h:Q .normal f A):bn P nt ops Q listed held [] f A:=by
  intro hc _ a w ha hw _ _ A₀ w₀ hs
  simp only [nW,List.isEmpty_iff] at hc
  exact ⟨hc,f,A,ha,hw,hs,h,fun _ q=>by cases q⟩
theorem ak.drawn {id:Nat} (C:List Nat) (hm:P.follows .mixedOrders=true) (hc:nW ops (Array.replicate ops.size false) C=true) (hn:Region.noSelect ops=true) (hl:C.length=ops.size)
    (h:bn P nt ops Q (Array.replicate ops.size false) [] C f A):ak P nt (.region id ops true) Q f A:=by
  intro a w ha hw
  obtain ⟨v1,s1⟩:=j5 hw
  refine wp_mono (wp_region_any hm (lh (Q:=eM nt Q A w) (S:=eH ops []) _ _ _ _ ?_)) (fun _ _ _=>eM.q)
  have key:=h hc hn a _ ha v1 (fun p hp=>by cases hp) (fun j o _ hj=>by
    exfalso
    rcases VY j ops.size with q | q
    · simp [q] at hj
    · simp [q] at hj) A w s1
  rw [hl] at key
  exact key
end
end V
namespace V
section
variable {P:Program} {nt:Nat} {all ops:Array Oper} {Q:Exit->Fr->AH->Prop} {f:Fr} {A:AH}
def Ops (P:Program) (nt:Nat) (all:Array Oper) (os:List Oper) (Q:Exit->Fr->AH->Prop) (f:Fr) (A:AH):Prop :=
  ∀ a w,dC nt f a->cD A w->∀ (A₀:AH) (w₀:World),fx A₀ w₀ A w->wpList P all (mS nt Q A₀ w₀) os a w
theorem Ops.nil (h:Q .normal f A):Ops P nt all [] Q f A:=fun _ _ ha hw _ _ hs=>⟨f,A,ha,hw,hs,h,fun _ q=>by cases q⟩
def gB (nt:Nat):Option Nat->Bool
  | none=>true
  | some t=>Nat.blt t nt
theorem dq {d:Option Nat} (h:gB nt d=true):∀ t,d=some t->t < nt:=by
  rintro t rfl;simpa [gB,Nat.blt_eq] using h
theorem Ops.run {o:Oper} {os:List Oper} (hw:∀ a:Act,dC nt f a->Region.wanted o (yielded all a.tmps)=true) (hd:gB nt o.dst=true)
    (h:∀ (K:Value->AH->Prop) (Kp:List PanicEntry->AH->Prop),(∀ v A',Ops P nt all os Q ⟨gj f.e o.dst v,f.ds⟩ A'->K v A')->(∀ ch A',Q (.panic ch) f A'->Kp ch A')->ll P f.e A o K Kp) :
    Ops P nt all (o :: os) Q f A:=by
  intro a w ha hv A₀ w₀ hs
  have:=sA (o:=o) ha hv (h (fun v A'=>Ops P nt all os Q ⟨gj f.e o.dst v,f.ds⟩ A') (fun ch A'=>Q (.panic ch) f A') (fun _ _ g=>g) (fun _ _ g=>g))
  unfold wpList
  rw [XX (hw a ha)]
  left
  unfold Oper.wp at this ⊢
  generalize (execOp a.eval o).run P w=r at this ⊢
  have next:∀ a' w',kF A a w o (fun v A'=>Ops P nt all os Q ⟨gj f.e o.dst v,f.ds⟩ A') a' w'->wpList P all (mS nt Q A₀ w₀) os a' w':=by
    rintro a' w' ⟨v,A',rfl,hv',hs',g⟩
    exact g _ w' (ha.put o.dst v (dq hd)) hv' A₀ w₀ (hs.trans hs')
  have pan:∀ x a' w',i5 A a w (fun ch A'=>Q (.panic ch) f A') x a' w'->mS nt Q A₀ w₀ x a' w':=by
    rintro x a' w' ⟨ch,A',rfl,rfl,hv',hs',g⟩
    exact ⟨f,A',ha,hv',hs.trans hs',g,fun _ _=>trivial⟩
  cases r with
  | ok n w' =>
    cases n <;> simp only [Oper.upon] at this ⊢ <;> (try exact this.elim)
    case value v=>exact next _ _ this
    case skip=>exact next _ _ this
    case defer d=>exact next _ _ this
    case enter f' args =>
      refine this.mono fun e w'' he=>?_
      cases e with
      | returned v=>exact next _ _ he
      | panicked ch=>exact pan _ _ _ he
      | outgrown=>obtain ⟨a₁,w₁,ch,A',q,_⟩:=he;cases q
    case row row args=>exact this.mono fun v w'' he=>next _ _ he
  | halt x w' =>
    cases x <;> simp only [Oper.upon] at this ⊢ <;> (try exact this.elim)
    case panic v=>exact pan _ _ _ this
theorem Ops.cons {o:Oper} {os:List Oper} (hg:o.guard=none) (hd:gB nt o.dst=true)
    (h:∀ (K:Value->AH->Prop) (Kp:List PanicEntry->AH->Prop),(∀ v A',Ops P nt all os Q ⟨gj f.e o.dst v,f.ds⟩ A'->K v A')->(∀ ch A',Q (.panic ch) f A'->Kp ch A')->ll P f.e A o K Kp) :
    Ops P nt all (o :: os) Q f A:=Ops.run (fun a _=>by simp [Region.wanted,hg]) hd h
def gr (all:Array Oper) (j:Nat):Option Nat:=(all[j]?).bind (·.dst)
theorem li {a:Act} {j t:Nat} {b:Bool} (ha:dC nt f a) (ht:gr all j=some t) (hv:cM f.e t=some (.bool b)):yielded all a.tmps j=some b:=by
  unfold gr at ht
  obtain ⟨h1,h2⟩:=ha.slot t _ hv
  have hs:=ha.size
  unfold yielded
  rw [ht]
  have:a.tmps[t]? = some (.bool b):=by
    have hlt:t < a.tmps.size:=by omega
    simp [Array.getElem?_eq_getElem hlt] at h1 ⊢
    exact h1
  simp [this]
theorem r5 {a:Act} {j t:Nat} {v:Value} (ha:dC nt f a) (ht:gr all j=some t) (hv:cM f.e t=some v) (hb:∀ b,v ≠ .bool b):yielded all a.tmps j=none:=by
  unfold gr at ht
  obtain ⟨h1,h2⟩:=ha.slot t _ hv
  have hs:=ha.size
  unfold yielded
  rw [ht]
  have:a.tmps[t]? = some v:=by
    have hlt:t < a.tmps.size:=by omega
    simp [Array.getElem?_eq_getElem hlt] at h1 ⊢
    exact h1
  simp only [Sz,this]
  cases v <;> first | rfl | exact absurd Z (hb _)
theorem ak.region {id:Nat} {l:List Oper} (h:Ops P nt l.toArray l Q f A):ak P nt (.region id l.toArray false) Q f A :=
  fun a w ha hw=>wp_region_lit (h a w ha hw A w (.refl _ _))
def jy (a:Addr):Nat->List Value->fC
  | _,[]=>[]
  | i,v :: vs=>(a.add i,v) :: jy a (i + 1) vs
theorem Cz {a:Addr} {w:World}:∀ (vs:List Value) (i:Nat),gt (jy a i vs) w->∀ acc:Array Value,(loadCellsFrom a i vs.length acc).run P w=.ok (acc ++ vs.toArray) w:=by
  intro vs
  induction vs with
  | nil=>intro i _ acc;simp [loadCellsFrom]
  | cons v vs ih =>
    intro i h acc
    have h1:w.cell? (a.add i)=some v:=h (a.add i,v) (by simp [jy])
    simp only [Xq,loadCellsFrom,Sem.run_bind,run_load,h1,Result.andThen_ok]
    rw [ih (i + 1) (fun p hp=>h p (by simp [jy,hp])) (acc.push v)]
    simp
theorem zz {a:Addr} {w:World} {rw:Bool} {c:List Value} {cap:Nat} (hv:cD A w) (hs:a.spot.isSome=false) (g:A.get a.block=some (.row rw c cap)) :
    ∀ (n i:Nat),a.off + i + n<=c.length->gt (jy a i ((c.drop (a.off + i)).take n)) w:=by
  intro n
  induction n with
  | zero=>intro i _ p hp;simp [jy] at hp
  | succ n ih =>
    intro i hn p hp
    have hlt:a.off + i < c.length:=by omega
    rw [Tq hlt,List.take_succ_cons] at hp
    simp only [jy,Vz] at hp
    rcases hp with rfl | hp
    · exact hv.cell (by rw [pG a i hs];simp [AH.cell,g,SQ hlt])
    · exact ih (i + 1) O p (by simpa [Nat.add_assoc] using hp)
def cellsOf (P:Program) (t:TypeId) (v:Value):List Value :=
  match ef P t,v with
  | some true,.agg cs=>cs.toList
  | _,v=>[v]
theorem O8 {t:TypeId} {a:Addr} {v:Value} {w:World} (hv:cD A w) (g:ly P A t (.pointer (some a))=some v) :
    gt (jy a 0 (cellsOf P t v)) w/\∀ w',gt (jy a 0 (cellsOf P t v)) w'->(Instr.loadAt t (.pointer (some a))).run P w'=.ok v w':=by
  simp only [ly] at g
  cases ha:ef P t with
  | none=>simp [ha] at g
  | some b =>
    cases b with
    | true =>
      cases hs:dY P t with
      | none=>simp [ha,hs] at g
      | some n =>
        cases hc:A.cellsAt a n with
        | none=>simp [ha,hs,hc] at g
        | some cs =>
          simp [ha,hs,hc] at g;subst g
          have hcs:cellsOf P t (.agg cs.toArray)=cs:=by simp [cellsOf,ha]
          rw [hcs]
          have hlen:cs.length=n/\gt (jy a 0 cs) w:=by
            unfold AH.cellsAt at hc
            split at hc
            · cases hc
            · rename_i hsp
              split at hc
              · rename_i rw' c cap hb
                unfold kO at hc
                split at hc
                · cases hc
                  refine ⟨by simp;omega,?_⟩
                  have:=zz hv (by simpa using hsp) hb n 0 O
                  simpa using this
                · cases hc
              · cases hc
          refine ⟨hlen.2,fun w' hw'=>?_⟩
          have:=Cz (P:=P) cs 0 hw' #[]
          rw [hlen.1] at this
          simp [Instr.loadAt,Instr.sureAddr,loadVar,mP ha,fb hs,loadCells,this]
    | false =>
      simp only [ha] at g
      have hcs:cellsOf P t v=[v]:=by unfold cellsOf;rw [ha]
      rw [hcs]
      have h0:a.add 0=a:=by simp [Addr.add]
      refine ⟨fun p hp=>?_,fun w' hw'=>?_⟩
      · simp only [jy,Vk] at hp;subst hp;rw [h0];exact hv.cell g
      · have:=hw' (a.add 0,v) (by simp [jy])
        rw [h0] at this
        simp [Instr.loadAt,Instr.sureAddr,loadVar,mP ha,this]
def bk (P:Program) (e:im) (A:AH):Op->Option (Value × fC)
  | .load t x=>match cg e x with
    | some (.pointer (some a))=>(ly P A t (.pointer (some a))).map fun v=>(v,jy a 0 (cellsOf P t v))
    | _=>none
  | .call { callee:=.builtin .len,args,argTypes }=>match ki (cg e) args.toList,argTypes.toList with
    | some [.string s],[t]=>(uG P A t (.string s)).map fun v=>(v,[])
    | some [.slice a n c],[t]=>(uG P A t (.slice a n c)).map fun v=>(v,[])
    | _,_=>none
  | .call { callee:=.builtin .max,args,.. }=>match ki (cg e) args.toList with
    | some (.int k x :: r)=>(JP k x r).map fun v=>(.int k v,[])
    | _=>none
  | .call { callee:=.builtin .min,args,.. }=>match ki (cg e) args.toList with
    | some (.int k x :: r)=>(Pd k x r).map fun v=>(.int k v,[])
    | _=>none
  | .build t ps=>match oM e ps.toList with
    | some l=>(mY P t l).map fun v=>(v,[])
    | none=>none
  | op=>(cE P (cg e) op).map fun v=>(v,[])
theorem ig {o:Oper} {v:Value} {T:fC} (h:bk P f.e A o.op=some (v,T)) {a:Act} {w:World} (ha:dC nt f a) (hw:cD A w) :
    gt T w/\∀ w',gt T w'->(execOp a.eval o).run P w'=.ok (.value v) w':=by
  have hev:∀ x v,cg f.e x=some v->a.eval x=v:=fun x v g=>c9 ha g
  have none:gt [] w:=fun p hp=>by cases hp
  have pure:∀ {op},op=o.op->(cE P (cg f.e) op).map (fun v=>(v,([]:fC)))=some (v,T)->gt T w/\∀ w',gt T w'->(execOp a.eval o).run P w'=.ok (.value v) w':=by
    rintro op rfl g
    cases hp:cE P (cg f.e) o.op with
    | none=>simp [hp] at g
    | some u=>simp [hp] at g;obtain ⟨rfl,rfl⟩:=g;exact ⟨none,fun w' _=>run_pure hev hp⟩
  have hargs:∀ (args:Array Operand) vs,ki (cg f.e) args.toList=some vs->args.map a.eval=vs.toArray:=fun args vs g=>by
    apply Array.ext';simp [re hev _ _ g]
  obtain ⟨dst,op,type,pos,after,guard⟩:=o
  cases op <;> first | exact pure Z h | skip
  case load t x =>
    simp only [bk] at h
    split at h
    · rename_i b hx
      cases hl:ly P A t (.pointer (some b)) with
      | none=>simp [hl] at h
      | some u =>
        simp [hl] at h;obtain ⟨rfl,rfl⟩:=h
        obtain ⟨h1,h2⟩:=O8 hw hl
        exact ⟨h1,fun w' hT=>by simp only [execOp,hev _ _ hx,Sem.run_bind,h2 w' hT,Result.andThen_ok];rfl⟩
    · cases h
  case build t ps =>
    simp only [bk] at h
    split at h
    · rename_i l hl
      cases hb:mY P t l with
      | none=>simp [hb] at h
      | some u =>
        simp [hb] at h;obtain ⟨rfl,rfl⟩:=h
        exact ⟨none,fun w' _=>by simp only [execOp,Sem.run_bind,Bf (ps:=ps.map fun (i,x)=>(i,a.eval x)) (by simpa using tQ hev _ _ hl) hb,Result.andThen_ok];rfl⟩
    · cases h
  case call c =>
    obtain ⟨callee,args,argTypes⟩:=c
    cases callee with
    | value _=>exact pure Z h
    | invoke _ _=>exact pure Z h
    | builtin b =>
      cases b <;> first | exact pure Z h | skip
      case len =>
        simp only [bk] at h
        split at h
        · rename_i s t h1 h2
          have ht:argTypes = #[t]:=by apply Array.ext';simpa using h2
          subst ht
          cases hl:uG P A t (.string s) with
          | none=>simp [hl] at h
          | some u=>simp [hl] at h;obtain ⟨rfl,rfl⟩:=h;exact ⟨none,fun w' _=>by
              have:uG P ⟨w'.heap.size,fun _=>Option.none⟩ t (.string s)=some u:=by
                unfold uG at hl ⊢;split at hl <;> simp_all
              have:=Eb (P:=P) (ty:=type) (A:=⟨w'.heap.size,fun _=>Option.none⟩) (w:=w') ⟨rfl,fun _ _ q=>by cases q⟩ this
              simp [execOp,resolve,hargs _ _ h1,invoke,builtin,this]⟩
        · rename_i b n c t h1 h2
          have ht:argTypes = #[t]:=by apply Array.ext';simpa using h2
          subst ht
          cases hl:uG P A t (.slice b n c) with
          | none=>simp [hl] at h
          | some u=>simp [hl] at h;obtain ⟨rfl,rfl⟩:=h;exact ⟨none,fun w' _=>by
              have:uG P ⟨w'.heap.size,fun _=>Option.none⟩ t (.slice b n c)=some u:=by
                unfold uG at hl ⊢;split at hl <;> simp_all
              have:=Eb (P:=P) (ty:=type) (A:=⟨w'.heap.size,fun _=>Option.none⟩) (w:=w') ⟨rfl,fun _ _ q=>by cases q⟩ this
              simp [execOp,resolve,hargs _ _ h1,invoke,builtin,this]⟩
        · cases h
      case max =>
        simp only [bk] at h
        split at h
        · rename_i k x r h1
          cases hl:JP k x r with
          | none=>simp [hl] at h
          | some u=>simp [hl] at h;obtain ⟨rfl,rfl⟩:=h;exact ⟨none,fun w' _=>by simp [execOp,resolve,hargs _ _ h1,invoke,builtin,Builtin.max_,MU r x u hl]⟩
        · cases h
      case min =>
        simp only [bk] at h
        split at h
        · rename_i k x r h1
          cases hl:Pd k x r with
          | none=>simp [hl] at h
          | some u=>simp [hl] at h;obtain ⟨rfl,rfl⟩:=h;exact ⟨none,fun w' _=>by simp [execOp,resolve,hargs _ _ h1,invoke,builtin,Builtin.min_,MW r x u hl]⟩
        · cases h
theorem bn.take {listed:Array Bool} {held:List (Nat × fC)} {i:Nat} {C:List Nat} {o:Oper} {v:Value} {T:fC} (ho:ops[i]? = some o) (hq:dF o.op=true) (hd:gB nt o.dst=true) (hg:o.guard=none)
    (hv:bk P f.e A o.op=some (v,T))
    (h:bn P nt ops Q (listed.setIfInBounds i true) ((i,T) :: held) C ⟨gj f.e o.dst v,f.ds⟩ A):bn P nt ops Q listed held (i :: C) f A :=
  bn.quiet ho hq (dq hd) (fun _ _ ha hw=>⟨(ig hv ha hw).1,.inl ⟨by simp [Region.wanted,hg],(ig hv ha hw).2⟩⟩) h
theorem bn.takeOn {listed:Array Bool} {held:List (Nat × fC)} {i j t:Nat} {want:Bool} {C:List Nat} {o:Oper} {v:Value} {T:fC} (ho:ops[i]? = some o) (hq:dF o.op=true) (hd:gB nt o.dst=true) (hg:o.guard=some (j,want))
    (ht:gr ops j=some t) (hb:cM f.e t=some (.bool want)) (hv:bk P f.e A o.op=some (v,T))
    (h:bn P nt ops Q (listed.setIfInBounds i true) ((i,T) :: held) C ⟨gj f.e o.dst v,f.ds⟩ A):bn P nt ops Q listed held (i :: C) f A :=
  bn.quiet ho hq (dq hd) (fun _ _ ha hw=>⟨(ig hv ha hw).1,.inl ⟨by simp [Region.wanted,hg,li ha ht hb],(ig hv ha hw).2⟩⟩) h
theorem bn.takeOff {listed:Array Bool} {held:List (Nat × fC)} {i j t:Nat} {want b:Bool} {C:List Nat} {o:Oper} (ho:ops[i]? = some o) (hq:dF o.op=true) (hd:gB nt o.dst=true) (hg:o.guard=some (j,want))
    (ht:gr ops j=some t) (hb:cM f.e t=some (.bool b)) (hne:b = !want)
    (h:bn P nt ops Q (listed.setIfInBounds i true) ((i,[]) :: held) C ⟨gj f.e o.dst undef,f.ds⟩ A):bn P nt ops Q listed held (i :: C) f A :=
  bn.quiet ho hq (dq hd) (fun _ _ ha _=>⟨(fun p hp=>by cases hp),.inr ⟨by simp [Region.wanted,hg,li ha ht hb,hne],rfl⟩⟩) h
theorem bn.takeUndef {listed:Array Bool} {held:List (Nat × fC)} {i j t:Nat} {want:Bool} {C:List Nat} {o:Oper} (ho:ops[i]? = some o) (hq:dF o.op=true) (hd:gB nt o.dst=true) (hg:o.guard=some (j,want))
    (ht:gr ops j=some t) (hb:cM f.e t=some undef)
    (h:bn P nt ops Q (listed.setIfInBounds i true) ((i,[]) :: held) C ⟨gj f.e o.dst undef,f.ds⟩ A):bn P nt ops Q listed held (i :: C) f A :=
  bn.quiet ho hq (dq hd) (fun _ _ ha _=>⟨(fun p hp=>by cases hp),.inr ⟨by simp [Region.wanted,hg,r5 ha ht hb (fun _ q=>by cases q)],rfl⟩⟩) h
def uq:List Value->Nat->im
  | [],_=>[]
  | v :: vs,i=>(i,v) :: uq vs (i + 1)
theorem xG:∀ (vs:List Value) (i t:Nat) (v:Value),cM (uq vs i) t=some v->i<=t/\vs[t - i]? = some v:=by
  intro vs
  induction vs with
  | nil=>intro i t v h;cases h
  | cons u vs ih =>
    intro i t v h
    simp only [uq,vy] at h
    split at h
    · rename_i q;subst q;cases h;exact ⟨XV _,by simp⟩
    · obtain ⟨h1,h2⟩:=ih _ _ _ h
      refine ⟨by omega,?_⟩
      rw [show t - i=(t - (i + 1)) + 1 by omega]
      simpa using h2
def iE (P:Program) (e:im) (A:AH):List ResultVar->Option (List Value)
  | []=>some []
  | .tmp t :: r=>match cM e t,iE P e A r with
    | some v,some vs=>some (v :: vs)
    | _,_=>none
  | .cell a t :: r=>match cM e a,iE P e A r with
    | some (.pointer (some x)),some vs=>(ly P A t (.pointer (some x))).map fun v=>v :: vs
    | _,_=>none
def ej:List Value->Value
  | [v]=>v
  | vs=>.tuple vs.toArray
theorem ke {fn:Func} {a:Act} {w:World} {vs:List Value} (ha:dC nt f a) (hw:cD A w) (h:iE P f.e A fn.results.toList=some vs):(results fn a.tmps).run P w=.ok (ej vs) w:=by
  have key:∀ (l:List ResultVar) (vs:List Value),iE P f.e A l=some vs->Sem.run P (l.mapM (fun (r:ResultVar)=>(match r with | .tmp t=>Pure.pure (a.tmps.getD t undef) | .cell x t=>do loadVar t (<- asAddr (a.tmps.getD x undef)):Sem Value))) w=Result.ok vs w:=by
    intro l
    induction l with
    | nil=>intro vs h;simp [iE] at h;simp [h]
    | cons r l ih =>
      intro vs h
      cases r with
      | tmp t =>
        simp only [iE] at h
        split at h
        · rename_i v us h1 h2;cases h
          simp only [List.mapM_cons,Sem.run_bind,Sem.run_pure,Result.andThen_ok,ih _ h2,(ha.slot t v h1).1]
        · cases h
      | cell x t =>
        simp only [iE] at h
        split at h
        · rename_i ad us h1 h2
          cases hl:ly P A t (.pointer (some ad)) with
          | none=>simp [hl] at h
          | some v =>
            simp [hl] at h;subst h
            have:=Bh (P:=P) hw hl
            simp only [Instr.loadAt,Instr.sureAddr,Sem.run_bind,Sem.run_pure,Result.andThen_ok] at this
            have hA:asAddr (a.tmps.getD x undef)=Pure.pure ad:=by rw [(ha.slot x _ h1).1];rfl
            simp only [List.mapM_cons,Sem.run_bind,Sem.run_pure,Result.andThen_ok,ih _ h2,hA,this]
        · cases h
  have k:=key _ _ h
  unfold results
  rw [Array.mapM_eq_mapM_toList]
  simp only [Sem.run_bind,Sem.run_map]
  erw [k]
  simp only [Result.andThen_ok,Sem.run_pure]
  congr 1
  match vs with
  | []=>rfl
  | [v]=>rfl
  | u :: v :: r=>rfl
def j7 (P:Program) (rs:List ResultVar) (Q:Ending->AH->Prop):Exit->Fr->AH->Prop
  | .normal,f,A | .ret,f,A=>f.ds=[]/\∃ vs,iE P f.e A rs=some vs/\Q (.returned (ej vs)) A
  | .panic ch,f,A=>f.ds=[]/\Q (.panicked ch) A
  | _,_,_=>False
theorem iy.enter {g:FuncId} {fn:Func} {c:Code} {args:List Value} {Qe:Ending->AH->Prop} (he:f5 P g) (hf:P.funcs[g]? = some fn) (hb:fn.body=some c) (hn:args.length<=fn.ntmps)
    (h:A.wf->ak P fn.ntmps c (j7 P fn.results.toList Qe) ⟨uq args 0,[]⟩ A):iy P g args.toArray A Qe:=by
  refine ⟨he,fun w hw=>calls_of_wp hf hb ?_⟩
  have ha:dC fn.ntmps ⟨uq args 0,[]⟩ { tmps:=args.toArray ++ Array.replicate (fn.ntmps - args.toArray.size) undef,defers:=[] }:=by
    refine ⟨by simp;omega,fun t v q=>?_,Z⟩
    obtain ⟨_,h2⟩:=xG args 0 t v q
    simp only [Nat.sub_zero] at h2
    have hlt:t < args.length:=(Rx.1 h2).1
    refine ⟨?_,by omega⟩
    simp only [Array.getD_eq_getD_getElem?]
    rw [SV (by simpa using hlt)]
    simp [h2]
  refine wp_mono (h hw.wf _ w ha hw) ?_
  rintro x a' w' ⟨f',A',h1,h2,h3,h4,h5⟩
  cases x <;> simp only [j7] at h4 <;> (try exact h4.elim)
  case normal=>obtain ⟨q,vs,hr,hq⟩:=h4;exact ⟨h1.ds.trans q,_,ke h1 h2 hr,A',h2,h3,hq⟩
  case ret=>obtain ⟨q,vs,hr,hq⟩:=h4;exact ⟨h1.ds.trans q,_,ke h1 h2 hr,A',h2,h3,hq⟩
  case panic ch=>exact ⟨h1.ds.trans h4.1,A',h2,h3,h4.2⟩
end
end V
namespace V
def bs (l:W8):ByteArray:=⟨⟨l⟩⟩
abbrev ax (l:W8):Value:=.string (bs l)
abbrev num (n:Int):Value:=.int .i64 n
abbrev ed (b:UInt8):Value:=.int .u8 b.toNat
theorem wU (l:W8):(bs l).size=l.length:=rfl
theorem Cw (l:W8):(bs l).data.toList=l:=rfl
theorem NP (a b:W8):bs a ++ bs b=bs (a ++ b):=by
  have:(bs a ++ bs b).data=(bs a).data ++ (bs b).data:=by simp
  cases h:bs a ++ bs b with
  | mk d=>rw [h] at this;simp only at this;subst this;simp [bs]
theorem Cx {a b:W8}:bs a=bs b ↔ a=b:=by
  constructor
  · intro h;have:=Xk (fun s:ByteArray=>s.data.toList) h;simpa [Cw] using this
  · rintro rfl;rfl
theorem Jp (l:W8) (i j:Nat):(bs l).extract i j=bs ((l.take j).drop i):=by
  have:((bs l).extract i j).data=(bs l).data.extract i j:=by simp
  cases h:(bs l).extract i j with
  | mk d =>
    rw [h] at this;simp only at this;subst this
    simp only [bs,ByteArray.mk.injEq]
    apply Array.ext'
    simp [List.drop_take]
section
variable {P:Program} {e:im} {A:AH} {x y z:Operand} {t t':TypeId} {v:Value} {a b:Int}
theorem aN (h:cg e x=some v):bk P e A (.move x)=some (v,[]):=by simp [bk,cE,h]
theorem dB (h:cg e x=some v):bk P e A (.assign x)=some (v,[]):=by simp [bk,cE,h]
theorem aL (h:cg e x=some (.bool true)) (hy:cg e y=some v):bk P e A (.pick x y z)=some (v,[]):=by simp [bk,cE,h,hy]
theorem bh (h:cg e x=some (.bool false)) (hz:cg e z=some v):bk P e A (.pick x y z)=some (v,[]):=by simp [bk,cE,h,hz]
theorem du {p:Addr} (h:cg e x=some (.pointer (some p))):bk P e A (.nilCheck x)=some (.pointer (some p),[]):=by simp [bk,cE,h]
theorem LM {n:Int} (h:-9223372036854775808<=n/\n<=9223372036854775807):IntKind.i64.wrap n=n:=IntWalk.i64_in n h
theorem qadd (h:cg e x=some (num a)) (h':cg e y=some (num b)) (hr:-9223372036854775808<=a + b/\a + b<=9223372036854775807) :
    bk P e A (.binOp .add t x y t')=some (num (a + b),[]):=by simp [bk,cE,h,h',mW,qO,LM hr]
theorem qaddW (h:cg e x=some (num a)) (h':cg e y=some (num b)):bk P e A (.binOp .add t x y t')=some (num (IntKind.i64.wrap (a + b)),[]):=by simp [bk,cE,h,h',mW,qO]
theorem vK (h:cg e x=some (num a)) (h':cg e y=some (num b)) (hr:-9223372036854775808<=a - b/\a - b<=9223372036854775807) :
    bk P e A (.binOp .sub t x y t')=some (num (a - b),[]):=by simp [bk,cE,h,h',mW,qO,LM hr]
theorem ZM (h:cg e x=some (num a)) (h':cg e y=some (num b)) (hr:-9223372036854775808<=a * b/\a * b<=9223372036854775807) :
    bk P e A (.binOp .mul t x y t')=some (num (a * b),[]):=by simp [bk,cE,h,h',mW,qO,LM hr]
theorem qquo (h:cg e x=some (num a)) (h':cg e y=some (num b)) (hr:0<=a/\a<=9223372036854775807/\1<=b) :
    bk P e A (.binOp .quo t x y t')=some (num (a / b),[]):=by
  have hb:¬ b=0:=by omega
  simp [bk,cE,h,h',mW,qO,hb,IntWalk.i64_quo a b hr]
theorem qrem (h:cg e x=some (num a)) (h':cg e y=some (num b)) (hr:0<=a/\1<=b) :
    bk P e A (.binOp .rem t x y t')=some (num (a % b),[]):=by
  have hb:¬ b=0:=by omega
  simp [bk,cE,h,h',mW,qO,hb,IntWalk.rem_in a b hr.1]
theorem zA {k:IntKind} {op:BinOp} (hs:op ≠ .shl) (hr:op ≠ .shr) (h:cg e x=some (.int k a)) (h':cg e y=some (.int k b)) (hv:qO op k a b=some v) :
    bk P e A (.binOp op t x y t')=some (v,[]):=by
  cases op <;> first | exact absurd Z hs | exact absurd Z hr | simp [bk,cE,h,h',mW,hv]
section
variable {k:IntKind}
theorem ZK (h:cg e x=some (.int k a)) (h':cg e y=some (.int k b)):bk P e A (.binOp .eql t x y t')=some (.bool (decide (a=b)),[]):=by simp [bk,cE,h,h',mW,qO]
theorem PK (h:cg e x=some (.int k a)) (h':cg e y=some (.int k b)):bk P e A (.binOp .neq t x y t')=some (.bool (decide (¬ a=b)),[]):=by simp [bk,cE,h,h',mW,qO]
theorem kY (h:cg e x=some (.int k a)) (h':cg e y=some (.int k b)):bk P e A (.binOp .lss t x y t')=some (.bool (decide (a < b)),[]):=by simp [bk,cE,h,h',mW,qO]
theorem qleq (h:cg e x=some (.int k a)) (h':cg e y=some (.int k b)):bk P e A (.binOp .leq t x y t')=some (.bool (decide (a<=b)),[]):=by simp [bk,cE,h,h',mW,qO]
theorem GX (h:cg e x=some (.int k a)) (h':cg e y=some (.int k b)):bk P e A (.binOp .gtr t x y t')=some (.bool (decide (b < a)),[]):=by simp [bk,cE,h,h',mW,qO]
theorem ml (h:cg e x=some (.int k a)) (h':cg e y=some (.int k b)):bk P e A (.binOp .geq t x y t')=some (.bool (decide (b<=a)),[]):=by simp [bk,cE,h,h',mW,qO]
end
section
variable {s r:W8}
theorem nf (h:cg e x=some (ax s)) (h':cg e y=some (ax r)) (hr:s.length + r.length < 9223372036854775808):bk P e A (.binOp .add t x y t')=some (ax (s ++ r),[]):=by
  have:(bs s).size + (bs r).size < 2 ^ 63:=hr
  simp [bk,cE,h,h',mW,QS,this,NP]
theorem ng (h:cg e x=some (ax s)) (h':cg e y=some (ax r)):bk P e A (.binOp .eql t x y t')=some (.bool (decide (s=r)),[]):=by simp [bk,cE,h,h',mW,QS,Cx]
theorem nh (h:cg e x=some (ax s)) (h':cg e y=some (ax r)):bk P e A (.binOp .neq t x y t')=some (.bool (decide (¬ s=r)),[]):=by simp [bk,cE,h,h',mW,QS,Cx]
theorem ZN {k:IntKind} {n:Nat} (hu:P.underlying t=some .string) (h:cg e x=some (ax s)) (h':cg e y=some (.int k n)) (hn:n < s.length):bk P e A (.index t x y)=some (ed s[n],[]):=by
  simp [bk,cE,h,h',yi,hu,bs,hn]
  exact hn
theorem cN (hu:P.underlying t=some .string) (h:cg e x=some (ax s)):bk P e A (.call { callee:=.builtin .len,args:=#[x],argTypes:=#[t] })=some (num s.length,[]):=by
  simp [bk,ki,h,uG,hu,wU]
theorem D4 {lo hi:Option Operand} {i j:Nat} (hu:P.underlying t=some .string) (h:cg e x=some (ax s)) (hi':gu (hi.map (cg e)) s.length=some (j:Int)) (hlo:gu (lo.map (cg e)) 0=some (i:Int)) (hij:i<=j) (hj:j<=s.length) :
    bk P e A (.slice t x lo hi none)=some (ax ((s.take j).drop i),[]):=by
  have h1:(0:Int)<=i/\(i:Int)<=j/\(j:Int)<=((bs s).size:Nat):=⟨by omega,by omega,by rw [wU];omega⟩
  have hi'':gu (hi.map (cg e)) (bs s).size=some (j:Int):=hi'
  simp [bk,cE,h,wa,hu,hi'',hlo,hij,Jp]
  rw [wU];omega
end
theorem qbeql {p q:Bool} (hu:P.underlying t=some .bool) (h:cg e x=some (.bool p)) (h':cg e y=some (.bool q)):bk P e A (.binOp .eql t x y t')=some (.bool (p == q),[]):=by simp [bk,cE,h,h',mW,zY,hu]
theorem qbneq {p q:Bool} (hu:P.underlying t=some .bool) (h:cg e x=some (.bool p)) (h':cg e y=some (.bool q)):bk P e A (.binOp .neq t x y t')=some (.bool (!(p == q)),[]):=by simp [bk,cE,h,h',mW,zY,hu]
theorem qeqv {u v:Value} {q:Bool} (h:cg e x=some u) (h':cg e y=some v) (hu:∀ k n,u ≠ .int k n) (hu':∀ s,u ≠ .string s) (hv:zY P t u v=some q):bk P e A (.binOp .eql t x y t')=some (.bool q,[]):=by
  simp only [bk,cE,h,h']
  cases u <;> first | exact absurd Z (hu _ _) | exact absurd Z (hu' _) | simp [mW,hv]
theorem qnev {u v:Value} {q:Bool} (h:cg e x=some u) (h':cg e y=some v) (hu:∀ k n,u ≠ .int k n) (hu':∀ s,u ≠ .string s) (hv:zY P t u v=some q):bk P e A (.binOp .neq t x y t')=some (.bool (!q),[]):=by
  simp only [bk,cE,h,h']
  cases u <;> first | exact absurd Z (hu _ _) | exact absurd Z (hu' _) | simp [mW,hv]
theorem eD {p:Bool} (h:cg e x=some (.bool p)):bk P e A (.unOp .not t x)=some (.bool (!p),[]):=by simp [bk,cE,h,unV]
theorem qconv {k k' k₀:IntKind} (hs:P.underlying t=some (.int k₀)) (hd:P.underlying t'=some (.int k)) (h:cg e x=some (.int k' a)):bk P e A (.convert t t' x)=some (.int k (k.wrap a),[]):=by simp [bk,cE,h,Fh,hs,hd]
theorem VA {k k' k₀:IntKind} (hs:P.underlying t=some (.int k₀)) (hd:P.underlying t'=some (.int k)) (h:cg e x=some (.int k' a)) (hr:k.wrap a=a):bk P e A (.convert t t' x)=some (.int k a,[]):=by simp [bk,cE,h,Fh,hs,hd,hr]
theorem od {fn:Fn} {first captured:Array Operand} {us cs:List Value} (h1:ki (cg e) first.toList=some us) (h2:ki (cg e) captured.toList=some cs):bk P e A (.makeFunc fn first captured)=some (.func fn us.toArray cs.toArray,[]):=by simp [bk,cE,h1,h2]
theorem ae {p:Addr} {i off n:Nat} {ft:TypeId} (hf:eO P t i=some (ft,off)) (hs:dY P ft=some n) (hn:n ≠ 0) (h:cg e x=some (.pointer (some p))):bk P e A (.fieldAddr t x i)=some (.pointer (some (p.add off)),[]):=by
  simp [bk,cE,h,p4,hf,hs,hn]
theorem J6 {p:Addr} {el:TypeId} {n len cap i:Nat} {k:IntKind} (hu:P.underlying t=some (.slice el)) (hs:dY P el=some n) (h:cg e x=some (.slice (some p) len cap)) (h':cg e y=some (.int k i)) (hi:i < len) :
    bk P e A (.indexAddr t x y)=some (.pointer (some (p.add (i * n))),[]):=by
  simp [bk,cE,h,h',m5,hu,hs,hi]
theorem PH {p:Addr} {el:TypeId} {n len i:Nat} {k:IntKind} (hu:P.underlying t=some (.array len el)) (hs:dY P el=some n) (h:cg e x=some (.pointer (some p))) (h':cg e y=some (.int k i)) (hi:i < len) :
    bk P e A (.indexAddr t x y)=some (.pointer (some (p.add (i * n))),[]):=by
  simp [bk,cE,h,h',m5,hu,hs,hi]
theorem ZL {cs:Array Value} {el:TypeId} {n len i:Nat} {k:IntKind} (hu:P.underlying t=some (.array len el)) (hs:dY P el=some n) (h:cg e x=some (.agg cs)) (h':cg e y=some (.int k i)) (hi:i < len) (hp:rC P el cs (i * n)=some v) :
    bk P e A (.index t x y)=some (v,[]):=by
  simp [bk,cE,h,h',yi,hu,hs,hi,hp]
theorem aQ {vs:Array Value} {i:Nat} (h:cg e x=some (.tuple vs)) (hv:vs[i]? = some v):bk P e A (.extract x i)=some (v,[]):=by simp [bk,cE,h,ux,hv]
theorem qlen {p:Option Addr} {n c:Nat} {el:TypeId} (hu:P.underlying t=some (.slice el)) (h:cg e x=some (.slice p n c)):bk P e A (.call { callee:=.builtin .len,args:=#[x],argTypes:=#[t] })=some (num n,[]):=by
  simp [bk,ki,h,uG,hu]
theorem qmax {ts:Array TypeId} (h:cg e x=some (num a)) (h':cg e y=some (num b)):bk P e A (.call { callee:=.builtin .max,args:=#[x,y],argTypes:=ts })=some (num (if b > a then b else a),[]):=by
  simp [bk,ki,h,h',JP]
theorem qload {p:Addr} (ha:ef P t=some false) (h:cg e x=some (.pointer (some p))) (hv:A.cell p=some v):bk P e A (.load t x)=some (v,[(p.add 0,v)]):=by
  have hc:cellsOf P t v=[v]:=by unfold cellsOf;rw [ha]
  simp [bk,h,ly,ha,hv,hc,jy]
theorem VD {p:Addr} {n:Nat} {cs:List Value} (ha:ef P t=some true) (hs:dY P t=some n) (h:cg e x=some (.pointer (some p))) (hv:A.cellsAt p n=some cs):bk P e A (.load t x)=some (.agg cs.toArray,jy p 0 cs):=by
  have hc:cellsOf P t (.agg cs.toArray)=cs:=by simp [cellsOf,ha]
  simp [bk,h,ly,ha,hs,hv,hc]
end
end V
namespace V
def bH (P:Program) (g:FuncId) (args:Array Value) (A:AH) (R:Value->AH->Prop):Prop :=
  iy P g args A fun e A'=>∃ v,e=.returned v/\R v A'
theorem bH.mono {P:Program} {g:FuncId} {args:Array Value} {A:AH} {R R':Value->AH->Prop} (h:bH P g args A R) (k:∀ v A',R v A'->R' v A'):bH P g args A R' :=
  iy.mono h fun _ _ ⟨v,e,r⟩=>⟨v,e,k v _ r⟩
theorem bg {P:Program} {t:TypeId} {fs:Array Field} {z:Value} {pl:List (Nat × Nat)} {l:List (Nat × Value)} {c:List Value} (hu:P.underlying t=some (.struct fs)) (hz:c5 P t=some z) (hp:dQ P t=some pl)
    (hf:qC (fun i=>pl[i]?) z.cells.toList l=some c):mY P t l=some (.agg c.toArray):=by simp [mY,hu,hz,hp,hf]
section
variable {P:Program} {nt:Nat} {all ops:Array Oper} {Q:Exit->Fr->AH->Prop} {e:im} {ds:List Deferred} {A A':AH} {os:List Oper}
  {d t:Nat} {op:Op} {ty:TypeId} {ps:String} {af:Array Edge} {j:Nat} {want:Bool} {v u:Value} {T:fC} {dst:Option Nat}
theorem cx {tt:TypeId} {pp:Array (Nat × Operand)} {l:List (Nat × Value)} (hl:oM e pp.toList=some l) (hb:mY P tt l=some v):bk P e A (.build tt pp)=some (v,[]):=by
  simp [bk,hl,hb]
theorem Ops.q (hd:Nat.blt d nt=true) (hv:bk P e A op=some (v,T)) (h:Ops P nt all os Q ⟨(d,v) :: e,ds⟩ A) :
    Ops P nt all ({ dst:=some d,op:=op,type:=ty,pos:=ps,after:=af,guard:=none } :: os) Q ⟨e,ds⟩ A:=by
  intro a w ha hw A₀ w₀ hs
  have:=ig (o:={ dst:=some d,op:=op,type:=ty,pos:=ps,after:=af,guard:=none }) hv ha hw
  unfold wpList
  rw [XX (by simp [Region.wanted])]
  left
  unfold Oper.wp;rw [this.2 w this.1]
  exact h _ w (ha.put (some d) v (dq hd)) hw A₀ w₀ hs
theorem Ops.p (hv:bk P e A op=some (v,T)) (h:Ops P nt all os Q ⟨(d,v) :: e,ds⟩ A) (hd:Nat.blt d nt=true:=by exact Z) :
    Ops P nt all ({ dst:=some d,op:=op,type:=ty,pos:=ps,after:=af,guard:=none } :: os) Q ⟨e,ds⟩ A:=Ops.q hd hv h
theorem Ops.J {P:Program} {nt d:Nat} {all:Array Oper} {os:List Oper} {Q:Exit->Fr->AH->Prop} {e:im} {ds:List Deferred} {A:AH} {x:Operand} {ty:TypeId} {ps:String} {af:Array Edge} {v:Value} (hv:cg e x=some v) (h:Ops P nt all os Q ⟨(d,v) :: e,ds⟩ A) (hd:Nat.blt d nt=true:=by exact Z) :
    Ops P nt all ({ dst:=some d,op:=.move x,type:=ty,pos:=ps,after:=af,guard:=none } :: os) Q ⟨e,ds⟩ A:=Ops.q hd (aN hv) h
theorem Ops.I {P:Program} {nt d:Nat} {all:Array Oper} {os:List Oper} {Q:Exit->Fr->AH->Prop} {e:im} {ds:List Deferred} {A:AH} {x:Operand} {ty:TypeId} {ps:String} {af:Array Edge} {v:Value} (hv:cg e x=some v) (h:Ops P nt all os Q ⟨(d,v) :: e,ds⟩ A) (hd:Nat.blt d nt=true:=by exact Z) :
    Ops P nt all ({ dst:=some d,op:=.assign x,type:=ty,pos:=ps,after:=af,guard:=none } :: os) Q ⟨e,ds⟩ A:=Ops.q hd (dB hv) h
theorem Ops.on (ht:gr all j=some t) (hb:cM e t=some (.bool want)) (h:Ops P nt all ({ dst:=dst,op:=op,type:=ty,pos:=ps,after:=af,guard:=none } :: os) Q ⟨e,ds⟩ A) :
    Ops P nt all ({ dst:=dst,op:=op,type:=ty,pos:=ps,after:=af,guard:=some (j,want) } :: os) Q ⟨e,ds⟩ A:=by
  intro a w ha hw A₀ w₀ hs
  have:=h a w ha hw A₀ w₀ hs
  unfold wpList at this ⊢
  rw [XX (by simp [Region.wanted])] at this
  rw [XX (by simp [Region.wanted,li ha ht hb])]
  exact this
theorem Ops.off {b:Bool} (ht:gr all j=some t) (hb:cM e t=some (.bool b)) (hne:b = !want) (hd:gB nt dst=true) (h:Ops P nt all os Q ⟨gj e dst undef,ds⟩ A) :
    Ops P nt all ({ dst:=dst,op:=op,type:=ty,pos:=ps,after:=af,guard:=some (j,want) } :: os) Q ⟨e,ds⟩ A:=by
  intro a w ha hw A₀ w₀ hs
  unfold wpList
  rw [Xy (by simp [Region.wanted,li ha ht hb,hne])]
  exact h _ w (ha.put dst undef (dq hd)) hw A₀ w₀ hs
theorem Ops.und (ht:gr all j=some t) (hb:cM e t=some undef) (hd:gB nt dst=true) (h:Ops P nt all os Q ⟨gj e dst undef,ds⟩ A) :
    Ops P nt all ({ dst:=dst,op:=op,type:=ty,pos:=ps,after:=af,guard:=some (j,want) } :: os) Q ⟨e,ds⟩ A:=by
  intro a w ha hw A₀ w₀ hs
  unfold wpList
  rw [Xy (by simp [Region.wanted,r5 ha ht hb (fun _ q=>by cases q)])]
  exact h _ w (ha.put dst undef (dq hd)) hw A₀ w₀ hs
theorem n0 (h:cM e t=some v):aj ((t,v) :: e) e:=aj.cons h fun _ _ g=>g
theorem Ops.forget {e':im} (k:aj e' e) (h:Ops P nt all os Q ⟨e',ds⟩ A):Ops P nt all os Q ⟨e,ds⟩ A:=fun a w ha hw A₀ w₀ hs=>h a w (ha.le k) hw A₀ w₀ hs
theorem bn.forget {e':im} {l:Array Bool} {hl:List (Nat × fC)} {C:List Nat} (k:aj e' e) (h:bn P nt ops Q l hl C ⟨e',ds⟩ A):bn P nt ops Q l hl C ⟨e,ds⟩ A :=
  fun hc hn a w ha hw=>h hc hn a w (ha.le k) hw
theorem Ops.part {p:Prop} [Decidable p] (hb:cM e t=some (.bool (decide p))) (h1:p->Ops P nt all os Q ⟨(t,.bool true) :: e,ds⟩ A) (h2:¬ p->Ops P nt all os Q ⟨(t,.bool false) :: e,ds⟩ A):Ops P nt all os Q ⟨e,ds⟩ A:=by
  by_cases hp:p
  · exact (h1 hp).forget (n0 (by rw [hb,XJ hp]))
  · exact (h2 hp).forget (n0 (by rw [hb,Xv hp]))
theorem Ops.partB {b:Bool} (hb:cM e t=some (.bool b)) (h1:b=true->Ops P nt all os Q ⟨(t,.bool true) :: e,ds⟩ A) (h2:b=false->Ops P nt all os Q ⟨(t,.bool false) :: e,ds⟩ A):Ops P nt all os Q ⟨e,ds⟩ A:=by
  cases b
  · exact (h2 Z).forget (n0 hb)
  · exact (h1 Z).forget (n0 hb)
theorem Ops.l (hd:gB nt dst=true) (h:∀ (K:Value->AH->Prop) (Kp:List PanicEntry->AH->Prop),(∀ v A',Ops P nt all os Q ⟨gj e dst v,ds⟩ A'->K v A')->(∀ ch A',Q (.panic ch) ⟨e,ds⟩ A'->Kp ch A')->ll P e A { dst:=dst,op:=op,type:=ty,pos:=ps,after:=af,guard:=none } K Kp) :
    Ops P nt all ({ dst:=dst,op:=op,type:=ty,pos:=ps,after:=af,guard:=none } :: os) Q ⟨e,ds⟩ A:=Ops.cons Z hd h
theorem Ops.m (h:∀ {K:Value->AH->Prop} {Kp:List PanicEntry->AH->Prop},(∀ {v A'},Ops P nt all os Q ⟨gj e dst v,ds⟩ A'->K v A')->ll P e A { dst:=dst,op:=op,type:=ty,pos:=ps,after:=af,guard:=none } K Kp) (hd:gB nt dst=true:=by exact Z) :
    Ops P nt all ({ dst:=dst,op:=op,type:=ty,pos:=ps,after:=af,guard:=none } :: os) Q ⟨e,ds⟩ A:=Ops.l hd fun _ _ k _=>h fun {v A'} z=>k v A' z
variable {K:Value->AH->Prop} {Kp:List PanicEntry->AH->Prop} {g:Option (Nat × Bool)}
theorem ED {tt:TypeId} {cs:List Value} {z:Value} (hz:c5 P tt=some z) (hc:z.cells=cs.toArray) (h:K (.pointer (some ⟨A.n,0,none⟩)) (A.new (.row true cs cs.length))) :
    ll P e A { dst:=dst,op:=.alloc tt,type:=ty,pos:=ps,after:=af,guard:=g } K Kp:=⟨z,hz,by rw [hc];exact h⟩
theorem vbox {tt:TypeId} {x:Operand} {cs:List Value} (hx:cg e x=some v) (hc:v.cells=cs.toArray) (h:K (.pointer (some ⟨A.n,0,none⟩)) (A.new (.row true cs cs.length))) :
    ll P e A { dst:=dst,op:=.box tt x,type:=ty,pos:=ps,after:=af,guard:=g } K Kp:=⟨v,hx,by rw [hc];exact h⟩
theorem rZ {tt:TypeId} {x y:Operand} {p:Addr} {cs c:List Value} {cap:Nat} (hx:cg e x=some (.pointer (some p))) (hy:cg e y=some v) (hc:v.cells=cs.toArray) (hs:dY P tt=some cs.length) (hsp:p.spot.isSome=false)
    (hg:A.get p.block=some (.row true c cap)) (hl:p.off + cs.length<=c.length) (ho:lG cs=true) (h:K undef (A.set p.block (.row true (jW c p.off cs) cap))) :
    ll P e A { dst:=dst,op:=.store tt x y,type:=ty,pos:=ps,after:=af,guard:=g } K Kp :=
  ⟨_,v,_,hx,hy,by simp [Eo,hsp,hg,hc,hs,hl,ho],h⟩
theorem I4 {tt:TypeId} {n:Nat} {pp:Array (Nat × Operand)} {l:List (Nat × Value)} {c:List Value} (hl:oM e pp.toList=some l) (hb:jd P tt n l=some c)
    (h:K (.slice (some ⟨A.n,0,none⟩) n n) (A.new (.row true c c.length))):ll P e A { dst:=dst,op:=.buildSlice tt n pp,type:=ty,pos:=ps,after:=af,guard:=g } K Kp:=⟨l,c,hl,hb,h⟩
theorem aw {tt el:TypeId} {n k:Nat} {z:Value} {l:List (Nat × Value)} {c:List Value} (hu:P.underlying tt=some (.slice el)) (hs:dY P el=some k) (hz:c5 P el=some z) (hk:z.cells.size=k) (h0:0 < k) (hn:n * k<=2 ^ 24)
    (hf:qC (fun i=>some (i * k,k)) (mD z.cells.toList n) l=some c):jd P tt n l=some c:=by
  simp only [jd,hu,hs,hz,Sz];rw [XX ⟨hk,h0,hn⟩,hf]
theorem KS {tt el:TypeId} {x y:Operand} {n k s:Nat} {z:Value} {i:TypeInfo} (hx:cg e x=some (num n)) (hy:cg e y=some (num k)) (hu:P.underlying tt=some (.slice el)) (hs:dY P el=some s) (hz:c5 P el=some z) (hi:P.info? el=some i)
    (hzs:z.cells.size=s) (h0:0 < s) (hnk:n<=k) (hb:i.bytes * k<=281474976710656) (hk:k < 9223372036854775808)
    (h:K (.slice (some ⟨A.n,0,none⟩) n k) (A.new (.row true (mD z.cells.toList k) (mD z.cells.toList k).length))):ll P e A { dst:=dst,op:=.makeSlice tt x y,type:=ty,pos:=ps,after:=af,guard:=g } K Kp:=by
  have h1:Gr (num n)=some n:=by simp only [Gr];rw [XX O];simp
  have h2:Gr (num k)=some k:=by simp only [Gr];rw [XX O];simp
  refine ⟨_,_,n,k,mD z.cells.toList k,hx,hy,?_,h⟩
  simp only [qi,hu,h1,h2,hs,hz,hi,Sz]
  rw [XX ⟨hzs,h0,hnk,hb⟩]
theorem qJ {fo:Operand} {gg:FuncId} {first captured:Array Value} {vs:List Value} {R:Value->AH->Prop} {aa:Array Operand} {tt:Array TypeId} (hf:cg e fo=some (.func (.func gg) first captured)) (ha:ki (cg e) aa.toList=some vs)
    (hc:bH P gg (first ++ vs.toArray ++ captured) A R) (h:∀ v A',R v A'->K v A'):ll P e A { dst:=dst,op:=.call { callee:=.value fo,args:=aa,argTypes:=tt },type:=ty,pos:=ps,after:=af,guard:=g } K Kp:=by
  simp only [ll,xK,hf,ha]
  exact iy.mono hc fun en A' ⟨v,q,r⟩=>by subst q;exact h v A' r
theorem aq {gg:FuncId} {vs:List Value} {R:Value->AH->Prop} {aa:Array Operand} {tt:Array TypeId} (ha:ki (cg e) aa.toList=some vs)
    (hc:bH P gg vs.toArray A R) (h:∀ v A',R v A'->K v A'):ll P e A { dst:=dst,op:=.call { callee:=.value (.func gg),args:=aa,argTypes:=tt },type:=ty,pos:=ps,after:=af,guard:=g } K Kp :=
  qJ Z ha (by simpa using hc) h
theorem aaG {x y:Operand} {st xt el:TypeId} {size n l c:Nat} {base:Option Addr} {z xv:Value} {dd:TypeDesc} {i:TypeInfo} {xs ys:List Value} (hx:cg e x=some (.slice base l c)) (hy:cg e y=some xv)
    (hu:P.underlying st=some (.slice el)) (hs:dY P el=some size) (hi:P.info? el=some i) (hz:c5 P el=some z) (hzs:z.cells.size=size) (hxt:P.underlying xt=some dd) (hd:∀ k,dd ≠ .int k)
    (hb:(l + n) * i.bytes<=2 ^ 47) (hb':l + n < 2 ^ 63) (own:qW A (.slice base l c) size xs) (hl:listOf A size xv=some (n,ys)) (hys:ys.length=n * size) (ho:lG ys=true)
    (h:∀ v A',ot A (.slice base l c) size (xs ++ ys) v A'->K v A'):ll P e A { dst:=dst,op:=.call { callee:=.builtin .append,args:=#[x,y],argTypes:=#[st,xt] },type:=ty,pos:=ps,after:=af,guard:=g } K Kp:=by
  simp only [ll,xK,ki,hx,hy]
  exact ⟨el,size,n,z,dd,i,xs,ys,hu,hs,hi,hz,hzs,hxt,hd,⟨base,l,c,Z,hb,hb'⟩,own,hl,hys,ho,h⟩
theorem XG {sr dd el:TypeId} {x:Operand} {s:W8} (hx:cg e x=some (ax s)) (hs:P.underlying sr=some .string) (hd:P.underlying dd=some (.slice el)) (hu:P.underlying el=some (.int .u8)) (hl:s.length < 2 ^ 63)
    (h:∀ k,s.length<=k->K (.slice (some ⟨A.n,0,none⟩) s.length k) (A.new (.row true (ao s) k))):ll P e A { dst:=dst,op:=.convert sr dd x,type:=ty,pos:=ps,after:=af,guard:=g } K Kp :=
  ⟨_,hx,by simp only [xX,hs,hd];exact ⟨by simp [OQ,hu],hl,h⟩⟩
theorem Re {sr dd el:TypeId} {x:Operand} {s:W8} {b:Option Addr} {n c:Nat} (hx:cg e x=some (.slice b n c)) (hs:P.underlying sr=some (.slice el)) (hd:P.underlying dd=some .string) (hu:P.underlying el=some (.int .u8))
    (hl:listOf A 1 (.slice b n c)=some (n,ao s)) (h:K (ax s) A):ll P e A { dst:=dst,op:=.convert sr dd x,type:=ty,pos:=ps,after:=af,guard:=g } K Kp :=
  ⟨_,hx,by simp only [xX,hs,hd];exact ⟨by simp [OQ,hu],s,hl,h⟩⟩
variable {listed:Array Bool} {held:List (Nat × fC)} {i:Nat} {C:List Nat}
theorem bn.q (ho:ops[i]? = some { dst:=some d,op:=op,type:=ty,pos:=ps,after:=af,guard:=none }) (hq:dF op=true) (hd:Nat.blt d nt=true) (hv:bk P e A op=some (v,T))
    (h:bn P nt ops Q (listed.setIfInBounds i true) ((i,T) :: held) C ⟨(d,v) :: e,ds⟩ A):bn P nt ops Q listed held (i :: C) ⟨e,ds⟩ A :=
  bn.take ho hq hd Z hv h
theorem bn.p (ho:ops[i]? = some { dst:=some d,op:=op,type:=ty,pos:=ps,after:=af,guard:=none }) (hv:bk P e A op=some (v,T))
    (h:bn P nt ops Q (listed.setIfInBounds i true) ((i,T) :: held) C ⟨(d,v) :: e,ds⟩ A) (hq:dF op=true:=by exact Z) (hd:Nat.blt d nt=true:=by exact Z):bn P nt ops Q listed held (i :: C) ⟨e,ds⟩ A:=bn.q ho hq hd hv h
theorem bn.qOn (ho:ops[i]? = some { dst:=some d,op:=op,type:=ty,pos:=ps,after:=af,guard:=some (j,want) }) (hq:dF op=true) (hd:Nat.blt d nt=true) (ht:gr ops j=some t) (hb:cM e t=some (.bool want)) (hv:bk P e A op=some (v,T))
    (h:bn P nt ops Q (listed.setIfInBounds i true) ((i,T) :: held) C ⟨(d,v) :: e,ds⟩ A):bn P nt ops Q listed held (i :: C) ⟨e,ds⟩ A :=
  bn.takeOn ho hq hd Z ht hb hv h
theorem bn.qOff {b:Bool} (ho:ops[i]? = some { dst:=some d,op:=op,type:=ty,pos:=ps,after:=af,guard:=some (j,want) }) (hq:dF op=true) (hd:Nat.blt d nt=true) (ht:gr ops j=some t) (hb:cM e t=some (.bool b)) (hne:b = !want)
    (h:bn P nt ops Q (listed.setIfInBounds i true) ((i,[]) :: held) C ⟨(d,undef) :: e,ds⟩ A):bn P nt ops Q listed held (i :: C) ⟨e,ds⟩ A :=
  bn.takeOff ho hq hd Z ht hb hne h
theorem bn.qUnd (ho:ops[i]? = some { dst:=some d,op:=op,type:=ty,pos:=ps,after:=af,guard:=some (j,want) }) (hq:dF op=true) (hd:Nat.blt d nt=true) (ht:gr ops j=some t) (hb:cM e t=some undef)
    (h:bn P nt ops Q (listed.setIfInBounds i true) ((i,[]) :: held) C ⟨(d,undef) :: e,ds⟩ A):bn P nt ops Q listed held (i :: C) ⟨e,ds⟩ A :=
  bn.takeUndef ho hq hd Z ht hb h
theorem bn.part {p:Prop} [Decidable p] (hb:cM e t=some (.bool (decide p))) (h1:p->bn P nt ops Q listed held C ⟨(t,.bool true) :: e,ds⟩ A) (h2:¬ p->bn P nt ops Q listed held C ⟨(t,.bool false) :: e,ds⟩ A):bn P nt ops Q listed held C ⟨e,ds⟩ A:=by
  by_cases hp:p
  · exact (h1 hp).forget (n0 (by rw [hb,XJ hp]))
  · exact (h2 hp).forget (n0 (by rw [hb,Xv hp]))
theorem bn.partB {b:Bool} (hb:cM e t=some (.bool b)) (h1:b=true->bn P nt ops Q listed held C ⟨(t,.bool true) :: e,ds⟩ A) (h2:b=false->bn P nt ops Q listed held C ⟨(t,.bool false) :: e,ds⟩ A):bn P nt ops Q listed held C ⟨e,ds⟩ A:=by
  cases b
  · exact (h2 Z).forget (n0 hb)
  · exact (h1 Z).forget (n0 hb)
def aU (ops:Array Oper) (held:List (Nat × fC)) (i:Nat) (A':AH):Prop:=∀ w',cD A' w'->∀ p ∈ held,ms ops p.1 ops.size i=false->gt p.2 w'
theorem bn.l (ho:ops[i]? = some { dst:=dst,op:=op,type:=ty,pos:=ps,after:=af,guard:=none }) (hq:dF op=false) (hd:gB nt dst=true)
    (h:∀ (K:Value->AH->Prop) (Kp:List PanicEntry->AH->Prop),(∀ v A',aU ops held i A'->bn P nt ops Q (listed.setIfInBounds i true) (held.filter fun p=>!ms ops p.1 ops.size i) C ⟨gj e dst v,ds⟩ A'->K v A') ->
      (∀ ch A',Q (.panic ch) ⟨[],ds⟩ A'->Kp ch A')->ll P e A { dst:=dst,op:=op,type:=ty,pos:=ps,after:=af,guard:=none } K Kp):bn P nt ops Q listed held (i :: C) ⟨e,ds⟩ A :=
  bn.loud ho hq (dq hd) (fun a _=>by simp [Region.wanted]) h
theorem bn.m (ho:ops[i]? = some { dst:=dst,op:=op,type:=ty,pos:=ps,after:=af,guard:=none })
    (h:∀ {K:Value->AH->Prop} {Kp:List PanicEntry->AH->Prop},(∀ {v A'},aU ops held i A'->bn P nt ops Q (listed.setIfInBounds i true) (held.filter fun p=>!ms ops p.1 ops.size i) C ⟨gj e dst v,ds⟩ A'->K v A')->ll P e A { dst:=dst,op:=op,type:=ty,pos:=ps,after:=af,guard:=none } K Kp) (hq:dF op=false:=by exact Z) (hd:gB nt dst=true:=by exact Z):bn P nt ops Q listed held (i :: C) ⟨e,ds⟩ A:=bn.l ho hq hd fun _ _ k _=>h fun {v A'} z y=>k v A' z y
theorem bn.lOn (ho:ops[i]? = some { dst:=dst,op:=op,type:=ty,pos:=ps,after:=af,guard:=some (j,want) }) (hq:dF op=false) (hd:gB nt dst=true) (ht:gr ops j=some t) (hb:cM e t=some (.bool want))
    (h:∀ (K:Value->AH->Prop) (Kp:List PanicEntry->AH->Prop),(∀ v A',aU ops held i A'->bn P nt ops Q (listed.setIfInBounds i true) (held.filter fun p=>!ms ops p.1 ops.size i) C ⟨gj e dst v,ds⟩ A'->K v A') ->
      (∀ ch A',Q (.panic ch) ⟨[],ds⟩ A'->Kp ch A')->ll P e A { dst:=dst,op:=op,type:=ty,pos:=ps,after:=af,guard:=some (j,want) } K Kp):bn P nt ops Q listed held (i :: C) ⟨e,ds⟩ A :=
  bn.loud ho hq (dq hd) (fun a ha=>by simp [Region.wanted,li ha ht hb]) h
theorem bn.lOff {b:Bool} (ho:ops[i]? = some { dst:=dst,op:=op,type:=ty,pos:=ps,after:=af,guard:=some (j,want) }) (hq:dF op=false) (hd:gB nt dst=true) (ht:gr ops j=some t) (hb:cM e t=some (.bool b)) (hne:b = !want)
    (h:bn P nt ops Q (listed.setIfInBounds i true) (held.filter fun p=>!ms ops p.1 ops.size i) C ⟨gj e dst undef,ds⟩ A):bn P nt ops Q listed held (i :: C) ⟨e,ds⟩ A :=
  bn.loudOff ho hq (dq hd) (fun a ha=>by simp [Region.wanted,li ha ht hb,hne]) h
theorem bn.lUnd (ho:ops[i]? = some { dst:=dst,op:=op,type:=ty,pos:=ps,after:=af,guard:=some (j,want) }) (hq:dF op=false) (hd:gB nt dst=true) (ht:gr ops j=some t) (hb:cM e t=some undef)
    (h:bn P nt ops Q (listed.setIfInBounds i true) (held.filter fun p=>!ms ops p.1 ops.size i) C ⟨gj e dst undef,ds⟩ A):bn P nt ops Q listed held (i :: C) ⟨e,ds⟩ A :=
  bn.loudOff ho hq (dq hd) (fun a ha=>by simp [Region.wanted,r5 ha ht hb (fun _ q=>by cases q)]) h
theorem aU.none {A':AH} (h:(held.all fun p=>p.2.isEmpty || ms ops p.1 ops.size i)=true):aU ops held i A':=fun w' _ p hp ha=>by
  have:=Vx.1 h p hp
  rw [ha,Bool.or_false,List.isEmpty_iff] at this
  rw [this];exact fun q hq=>by cases hq
theorem aU.of {A':AH} (h:∀ p ∈ held,ms ops p.1 ops.size i=false->∀ q ∈ p.2,A'.cell q.1=some q.2):aU ops held i A':=fun w' hw p hp ha q hq=>hw.cell (h p hp ha q hq)
theorem ak.if {c:Operand} {x y:Code} {p:Prop} [Decidable p] (hc:cg e c=some (.bool (decide p))) (h1:p->ak P nt x Q ⟨e,ds⟩ A) (h2:¬ p->ak P nt y Q ⟨e,ds⟩ A):ak P nt (.cond c x y) Q ⟨e,ds⟩ A :=
  ak.cond hc (fun h=>h1 (of_decide_eq_true h)) (fun h=>h2 (of_decide_eq_false h))
theorem ak.ifB {c:Operand} {x y:Code} {b:Bool} (hc:cg e c=some (.bool b)) (h1:b=true->ak P nt x Q ⟨e,ds⟩ A) (h2:b=false->ak P nt y Q ⟨e,ds⟩ A):ak P nt (.cond c x y) Q ⟨e,ds⟩ A:=ak.cond hc h1 h2
theorem ak.join {x y:Code} (J:Fr->AH->Prop) (h1:ak P nt x (rX J Q) ⟨e,ds⟩ A) (h2:∀ f A',J f A'->ak P nt y Q f A'):ak P nt (x.seq y) Q ⟨e,ds⟩ A :=
  ak.seq fun _ hK=>h1.mono fun x f A' h=>by cases x <;> first | exact hK _ _ (h2 _ _ h) | exact h
end
end V
namespace V
section
variable {A A1 A0:AH} {b b':Nat} {o:fB}
theorem ne_new (wf:A.wf) (h:A.get b=some o) (hn:A.n<=b'):b ≠ b':=by have:=wf b o h;omega
theorem aX (D:A0.wf) (h:A0.n<=b):A0.get b=none:=by
  cases q:A0.get b with
  | none=>rfl
  | some o=>have:=D b o q;omega
theorem al (le:A0.le A) (h:A0.wf) (hb:A0.get b=none) (hn:A1.n=A.n) (k:∀ b' o,b' ≠ b->A.get b'=some o->A1.get b'=some o):A0.le A1 :=
  ⟨by rw [hn];exact le.n,fun c x g=>k c x (by rintro rfl;rw [hb] at g;cases g) (le.get c x g)⟩
theorem qW.le {v:Value} {s:Nat} {xs:List Value} (h:qW A v s xs) (le:A.le A1):qW A1 v s xs:=by
  rcases h with h | ⟨b,n,k,r,rcap,h1,h2,h3⟩
  · exact .inl h
  · exact .inr ⟨b,n,k,r,rcap,h1,le.g h2,h3⟩
theorem qW.keep {v:Value} {s:Nat} {xs:List Value} (h:qW A v s xs) (k:∀ b' o,b' ≠ b->A.get b'=some o->A1.get b'=some o) (hb:blk v ≠ some b):qW A1 v s xs:=by
  rcases h with h | ⟨b2,n,kk,r,rcap,h1,h2,h3⟩
  · exact .inl h
  · exact .inr ⟨b2,n,kk,r,rcap,h1,k _ _ (by rintro rfl;rw [h1] at hb;exact hb Z) h2,h3⟩
end
section
variable {P:Program} {nt:Nat} {e:im} {A:AH} {d t:Nat} {op:Op} {ty:TypeId} {ps:String} {af:Array Edge} {v u:Value} {dst:Option Nat} {K:Value->AH->Prop} {Kp:List PanicEntry->AH->Prop} {g:Option (Nat × Bool)}
structure Cm (A A1:AH) (b:Nat) (o:fB):Prop where
  wf:A1.wf
  le:A.le A1
  get:A1.get b=some o
  lo:A.n<=b
  hi:b < A1.n
  n:A1.n=A.n + 1
theorem JR (wf:A.wf) (o:fB):Cm A (A.new o) A.n o:=⟨AH.wf_new wf o,AH.le_new (.refl A) wf o,AH.new_get_same _ _,XV _,Nat.lt_succ_self _,rfl⟩
structure sL (A A1:AH) (b:Nat) (o:fB):Prop where
  wf:A1.wf
  n:A1.n=A.n
  get:A1.get b=some o
  keep:∀ b' o',b' ≠ b->A.get b'=some o'->A1.get b'=some o'
theorem sL.k {A A1:AH} {b c:Nat} {o u:fB} (s:sL A A1 b o) (n:c ≠ b) (h:A.get c=some u):A1.get c=some u:=s.keep _ _ n h
theorem Xd {o':fB} {b:Nat} (wf:A.wf) (h:A.get b=some o') (o:fB):sL A (A.set b o) b o:=⟨AH.wf_set wf (wf _ _ h) o,rfl,AH.set_get_same _ _ _,fun _ _ hne h=>by rw [AH.set_get_ne _ _ hne];exact h⟩
theorem bZ {tt:TypeId} {cs:List Value} {z:Value} (wf:A.wf) (hz:c5 P tt=some z) (hc:z.cells=cs.toArray) (h:∀ A1 b,Cm A A1 b (.row true cs cs.length)->K (.pointer (some ⟨b,0,none⟩)) A1) :
    ll P e A { dst:=dst,op:=.alloc tt,type:=ty,pos:=ps,after:=af,guard:=g } K Kp:=ED hz hc (h _ _ (JR wf _))
theorem d8 {tt:TypeId} {x:Operand} {cs:List Value} (wf:A.wf) (hx:cg e x=some v) (hc:v.cells=cs.toArray) (h:∀ A1 b,Cm A A1 b (.row true cs cs.length)->K (.pointer (some ⟨b,0,none⟩)) A1) :
    ll P e A { dst:=dst,op:=.box tt x,type:=ty,pos:=ps,after:=af,guard:=g } K Kp:=vbox hx hc (h _ _ (JR wf _))
theorem bf {tt:TypeId} {n:Nat} {pp:Array (Nat × Operand)} {l:List (Nat × Value)} {c:List Value} (wf:A.wf) (hl:oM e pp.toList=some l) (hb:jd P tt n l=some c)
    (h:∀ A1 b,Cm A A1 b (.row true c c.length)->K (.slice (some ⟨b,0,none⟩) n n) A1):ll P e A { dst:=dst,op:=.buildSlice tt n pp,type:=ty,pos:=ps,after:=af,guard:=g } K Kp:=I4 hl hb (h _ _ (JR wf _))
theorem pC {tt:TypeId} (wf:A.wf) (h:∀ A1 b,Cm A A1 b (.obj true (.map #[] 0))->K (.map (some b)) A1):ll P e A { dst:=dst,op:=.makeMap tt none,type:=ty,pos:=ps,after:=af,guard:=g } K Kp:=h _ _ (JR wf _)
theorem aW {tt:TypeId} {x y:Operand} {p:Addr} {b off:Nat} {cs c c':List Value} {cap:Nat} (wf:A.wf) (hx:cg e x=some (.pointer (some p))) (hp:p=⟨b,off,none⟩) (hy:cg e y=some v) (hc:v.cells=cs.toArray) (hs:dY P tt=some cs.length)
    (hg:A.get b=some (.row true c cap)) (hl:off + cs.length<=c.length) (ho:lG cs=true) (hc':jW c off cs=c') (h:∀ A1,sL A A1 b (.row true c' cap)->K undef A1) :
    ll P e A { dst:=dst,op:=.store tt x y,type:=ty,pos:=ps,after:=af,guard:=g } K Kp:=by
  subst hp;subst hc'
  exact rZ hx hy hc hs Z hg hl ho (h _ (Xd wf hg _))
theorem KY {tt el:TypeId} {x y:Operand} {n k s:Nat} {z:Value} {i:TypeInfo} (wf:A.wf) (hx:cg e x=some (num n)) (hy:cg e y=some (num k)) (hu:P.underlying tt=some (.slice el)) (hs:dY P el=some s) (hz:c5 P el=some z) (hi:P.info? el=some i)
    (hzs:z.cells.size=s) (h0:0 < s) (hnk:n<=k) (hb:i.bytes * k<=281474976710656) (hk:k < 9223372036854775808)
    (h:∀ A1 b,Cm A A1 b (.row true (mD z.cells.toList k) (mD z.cells.toList k).length)->K (.slice (some ⟨b,0,none⟩) n k) A1):ll P e A { dst:=dst,op:=.makeSlice tt x y,type:=ty,pos:=ps,after:=af,guard:=g } K Kp :=
  KS hx hy hu hs hz hi hzs h0 hnk hb hk (h _ _ (JR wf _))
theorem zm {sr dd el:TypeId} {x:Operand} {s:W8} (wf:A.wf) (hx:cg e x=some (ax s)) (hs:P.underlying sr=some .string) (hd:P.underlying dd=some (.slice el)) (hu:P.underlying el=some (.int .u8)) (hl:s.length < 2 ^ 63)
    (h:∀ A1 b k,Cm A A1 b (.row true (ao s) k)->s.length<=k->K (.slice (some ⟨b,0,none⟩) s.length k) A1):ll P e A { dst:=dst,op:=.convert sr dd x,type:=ty,pos:=ps,after:=af,guard:=g } K Kp :=
  XG hx hs hd hu hl fun k hk=>h _ _ k (JR wf _) hk
theorem qW.slice {v:Value} {s:Nat} {xs:List Value} (h:qW A v s xs):∃ base l c,v=.slice base l c/\l * s=xs.length:=by
  rcases h with ⟨rfl,rfl⟩ | ⟨b,n,k,r,rcap,rfl,_,h3,_⟩
  · exact ⟨_,_,_,Z,by simp⟩
  · exact ⟨_,_,_,Z,h3.symm⟩
theorem ct {x y:Operand} {st xt el:TypeId} {size n:Nat} {z s xv:Value} {dd:TypeDesc} {i:TypeInfo} {xs ys:List Value} (hx:cg e x=some s) (hy:cg e y=some xv)
    (hu:P.underlying st=some (.slice el)) (hs:dY P el=some size) (hi:P.info? el=some i) (hz:c5 P el=some z) (hzs:z.cells.size=size) (h0:0 < size) (hxt:P.underlying xt=some dd) (hd:∀ k,dd ≠ .int k)
    (own:qW A s size xs) (hl:listOf A size xv=some (n,ys)) (hys:ys.length=n * size) (ho:lG ys=true) (hb:(xs.length + ys.length) * i.bytes<=2 ^ 47) (hb':xs.length + ys.length < 2 ^ 63)
    (h:∀ A1 v,ot A s size (xs ++ ys) v A1->K v A1):ll P e A { dst:=dst,op:=.call { callee:=.builtin .append,args:=#[x,y],argTypes:=#[st,xt] },type:=ty,pos:=ps,after:=af,guard:=g } K Kp:=by
  obtain ⟨base,l,c,rfl,hll⟩:=own.slice
  have hle:l + n<=xs.length + ys.length:=by
    have h1:l<=l * size:=Nat.le_mul_of_pos_right _ h0
    have h2:n<=n * size:=Nat.le_mul_of_pos_right _ h0
    omega
  exact aaG hx hy hu hs hi hz hzs hxt hd (Xj (TY _ hle) hb) O own hl hys ho fun v A1 ha=>h A1 v ha
end
section
variable {P:Program} {e:im} {A:AH} {x y:Operand} {t t':TypeId} {v:Value} {a b:Nat} {c d:UInt8}
theorem bF (h:cg e x=some (num (a:Nat))) (h':cg e y=some (num (b:Nat))) (hr:a + b<=9223372036854775807):bk P e A (.binOp .add t x y t')=some (num ((a + b:Nat):Int),[]):=by
  rw [qadd h h' O];simp
theorem fJ (h:cg e x=some (num (a:Nat))) (h':cg e y=some (num (b:Nat))) (hr:b<=a/\a<=9223372036854775807):bk P e A (.binOp .sub t x y t')=some (num ((a - b:Nat):Int),[]):=by
  rw [vK h h' O];simp;omega
theorem qG (h:cg e x=some (num (a:Nat))) (h':cg e y=some (num (b:Nat))) (hr:a * b<=9223372036854775807):bk P e A (.binOp .mul t x y t')=some (num ((a * b:Nat):Int),[]):=by
  have:((a * b:Nat):Int)=(a:Int) * b:=Int.natCast_mul a b
  rw [ZM h h' (by rw [<- this];omega)];simp
theorem qquoN (h:cg e x=some (num (a:Nat))) (h':cg e y=some (num (b:Nat))) (hr:1<=b/\a<=9223372036854775807):bk P e A (.binOp .quo t x y t')=some (num ((a / b:Nat):Int),[]):=by
  rw [qquo h h' O];simp
theorem qremN (h:cg e x=some (num (a:Nat))) (h':cg e y=some (num (b:Nat))) (hr:1<=b):bk P e A (.binOp .rem t x y t')=some (num ((a % b:Nat):Int),[]):=by
  rw [qrem h h' O];simp
section
variable {k:IntKind}
theorem gI (h:cg e x=some (.int k (a:Nat))) (h':cg e y=some (.int k (b:Nat))):bk P e A (.binOp .eql t x y t')=some (.bool (decide (a=b)),[]):=by
  rw [ZK h h'];simp only [Int.natCast_inj]
theorem eB (h:cg e x=some (.int k (a:Nat))) (h':cg e y=some (.int k (b:Nat))):bk P e A (.binOp .neq t x y t')=some (.bool (decide (¬ a=b)),[]):=by
  rw [PK h h'];simp only [Int.natCast_inj]
theorem ca (h:cg e x=some (.int k (a:Nat))) (h':cg e y=some (.int k (b:Nat))):bk P e A (.binOp .lss t x y t')=some (.bool (decide (a < b)),[]):=by
  rw [kY h h'];simp only [Int.ofNat_lt]
theorem rG (h:cg e x=some (.int k (a:Nat))) (h':cg e y=some (.int k (b:Nat))):bk P e A (.binOp .leq t x y t')=some (.bool (decide (a<=b)),[]):=by
  rw [qleq h h'];simp only [Int.ofNat_le]
theorem eh (h:cg e x=some (.int k (a:Nat))) (h':cg e y=some (.int k (b:Nat))):bk P e A (.binOp .gtr t x y t')=some (.bool (decide (b < a)),[]):=by
  rw [GX h h'];simp only [Int.ofNat_lt]
theorem yA (h:cg e x=some (.int k (a:Nat))) (h':cg e y=some (.int k (b:Nat))):bk P e A (.binOp .geq t x y t')=some (.bool (decide (b<=a)),[]):=by
  rw [ml h h'];simp only [Int.ofNat_le]
end
theorem u8_inj:(c.toNat:Int)=(d.toNat:Int) ↔ c=d:=by rw [Int.natCast_inj];exact UInt8.toNat_inj
theorem yz (h:cg e x=some (ed c)) (h':cg e y=some (ed d)):bk P e A (.binOp .eql t x y t')=some (.bool (decide (c=d)),[]):=by rw [ZK h h'];simp only [u8_inj]
theorem AO (h:cg e x=some (ed c)) (h':cg e y=some (ed d)):bk P e A (.binOp .lss t x y t')=some (.bool (decide (c < d)),[]):=by rw [kY h h'];simp only [Int.ofNat_lt,UInt8.lt_iff_toNat_lt]
theorem qleqB (h:cg e x=some (ed c)) (h':cg e y=some (ed d)):bk P e A (.binOp .leq t x y t')=some (.bool (decide (c<=d)),[]):=by rw [qleq h h'];simp only [Int.ofNat_le,UInt8.le_iff_toNat_le]
theorem ta (h:cg e x=some (ed c)) (h':cg e y=some (ed d)):bk P e A (.binOp .geq t x y t')=some (.bool (decide (d<=c)),[]):=by rw [ml h h'];simp only [Int.ofNat_le,UInt8.le_iff_toNat_le]
theorem u8_xor (c d:UInt8):Yp .xor .u8 c.toNat d.toNat=some (ed (c ^^^ d)):=by
  have h1:∀ c:UInt8,BitVec.ofInt 8 (c.toNat:Int)=c.toBitVec:=fun c=>by
    rw [BitVec.ofInt_natCast]
    show BitVec.ofNat 8 c.toBitVec.toNat=_
    simp
  show some (Value.int .u8 (IntKind.u8.wrap ((BitVec.ofInt 8 (c.toNat:Int) ^^^ BitVec.ofInt 8 (d.toNat:Int)).toNat:Int)))=_
  rw [h1,h1]
  have h3:((c.toBitVec ^^^ d.toBitVec).toNat:Int)=((c ^^^ d).toNat:Int):=rfl
  rw [h3,IntWalk.u8_in _ (by have:=(c ^^^ d).toNat_lt;omega)]
theorem VG (h:cg e x=some (ed c)) (h':cg e y=some (ed d)):bk P e A (.binOp .xor t x y t')=some (ed (c ^^^ d),[]) :=
  zA U U h h' (u8_xor c d)
theorem oe (h:cg e x=some (ed c)) (h':cg e y=some (ed d)):bk P e A (.binOp .sub t x y t')=some (ed (c - d),[]):=by
  refine zA U U h h' ?_
  refine Xk (fun z=>some (Value.int .u8 z)) ?_
  rw [IntKind.wrap_u8,UInt8.toNat_sub]
  have:=c.toNat_lt;have:=d.toNat_lt
  omega
theorem MI (h:cg e x=some (ed c)) (h':cg e y=some (ed d)):bk P e A (.binOp .add t x y t')=some (ed (c + d),[]):=by
  refine zA U U h h' ?_
  refine Xk (fun z=>some (Value.int .u8 z)) ?_
  rw [IntKind.wrap_u8,UInt8.toNat_add]
  omega
theorem mj {k₀:IntKind} (hs:P.underlying t=some (.int k₀)) (hd:P.underlying t'=some (.int .i64)) (h:cg e x=some (ed c)):bk P e A (.convert t t' x)=some (num ((c.toNat:Nat):Int),[]) :=
  VA hs hd h (IntWalk.i64_in _ (by have:=c.toNat_lt;omega))
theorem DY {k k₀:IntKind} (hs:P.underlying t=some (.int k₀)) (hd:P.underlying t'=some (.int .u8)) (h:cg e x=some (.int k (a:Nat))):bk P e A (.convert t t' x)=some (ed (UInt8.ofNat a),[]):=by
  rw [qconv hs hd h]
  refine Xk (fun z=>some (Value.int .u8 z,[])) ?_
  rw [IntKind.wrap_u8]
  simp
theorem qmaxN {ts:Array TypeId} (h:cg e x=some (num (a:Nat))) (h':cg e y=some (num (b:Nat))):bk P e A (.call { callee:=.builtin .max,args:=#[x,y],argTypes:=ts })=some (num ((max a b:Nat):Int),[]):=by
  rw [qmax h h'];simp only [Nat.max_def,gt_iff_lt,Int.ofNat_lt];congr 2;split <;> split <;> simp <;> omega
section
variable {s r:W8} {i j:Nat}
theorem nP {k:IntKind} (hu:P.underlying t=some .string) (h:cg e x=some (ax s)) (h':cg e y=some (.int k (i:Nat))) (hn:i < s.length):bk P e A (.index t x y)=some (ed (s.getD i 0),[]):=by
  rw [ZN hu h h' hn];simp [hn]
theorem qsl {lo hi:Operand} (hu:P.underlying t=some .string) (h:cg e x=some (ax s)) (hlo:cg e lo=some (num (i:Nat))) (hhi:cg e hi=some (num (j:Nat))) (hij:i<=j/\j<=s.length):bk P e A (.slice t x (some lo) (some hi) none)=some (ax ((s.take j).drop i),[]) :=
  D4 hu h (by simp [gu,hhi]) (by simp [gu,hlo]) hij.1 hij.2
theorem tc {lo:Operand} (hu:P.underlying t=some .string) (h:cg e x=some (ax s)) (hlo:cg e lo=some (num (i:Nat))) (hij:i<=s.length):bk P e A (.slice t x (some lo) none none)=some (ax (s.drop i),[]):=by
  rw [D4 (j:=s.length) hu h (by simp [gu]) (by simp [gu,hlo]) hij (XV _)];simp
theorem wx {hi:Operand} (hu:P.underlying t=some .string) (h:cg e x=some (ax s)) (hhi:cg e hi=some (num (j:Nat))) (hij:j<=s.length):bk P e A (.slice t x none (some hi) none)=some (ax (s.take j),[]):=by
  rw [D4 (i:=0) hu h (by simp [gu,hhi]) (by simp [gu]) (XK _) hij];simp
end
theorem ah {p:Addr} {b off cap:Nat} {rw:Bool} {c:List Value} (ha:ef P t=some false) (h:cg e x=some (.pointer (some p))) (hp:p=⟨b,off,none⟩) (hg:A.get b=some (.row rw c cap)) (hc:c[off]? = some v) :
    bk P e A (.load t x)=some (v,[(⟨b,off,none⟩,v)]):=by
  subst hp
  have:A.cell ⟨b,off,none⟩=some v:=by simp [AH.cell,hg,hc]
  rw [qload ha h this]
  simp [Addr.add]
theorem am {p:Addr} {b off cap n:Nat} {rw:Bool} {c cs:List Value} (ha:ef P t=some true) (hs:dY P t=some n) (h:cg e x=some (.pointer (some p))) (hp:p=⟨b,off,none⟩) (hg:A.get b=some (.row rw c cap)) (hc:kO c off n=some cs) :
    bk P e A (.load t x)=some (.agg cs.toArray,jy ⟨b,off,none⟩ 0 cs):=by
  subst hp
  exact VD ha hs h (by simp [AH.cellsAt,hg,hc])
def bJ (A:AH) (size:Nat) (v:Value) (xs:List Value):Prop :=
  ∃ p n c,v=.slice p n c/\xs.length=n * size/\n<=c/\(n=0\/∃ b off rw r rcap,p=some ⟨b,off,none⟩/\A.get b=some (.row rw r rcap)/\(r.drop off).take (n * size)=xs)
theorem bJ.le {A1:AH} {size:Nat} {v:Value} {xs:List Value} (h:bJ A size v xs) (le:A.le A1):bJ A1 size v xs:=by
  obtain ⟨p,n,c,h1,h2,h3,h4⟩:=h
  refine ⟨p,n,c,h1,h2,h3,h4.imp id ?_⟩
  rintro ⟨b,off,rw,r,rcap,g1,g2,g3⟩
  exact ⟨b,off,rw,r,rcap,g1,le.g g2,g3⟩
theorem qW.slc {size:Nat} {v:Value} {xs:List Value} (h:qW A v size xs):bJ A size v xs:=by
  rcases h with ⟨rfl,rfl⟩ | ⟨b,n,k,r,rcap,h1,h2,h3,h4,h5,h6⟩
  · exact ⟨none,0,0,Z,by simp,XV _,.inl Z⟩
  · exact ⟨_,n,k,h1,h3,h5,.inr ⟨b,0,true,r,rcap,Z,h2,by simpa using h4⟩⟩
theorem bE {el:TypeId} {size n:Nat} {xs:List Value} (hu:P.underlying t=some (.slice el)) (h:cg e x=some v) (s:bJ A size v xs) (h0:0 < size) (hn:xs.length=n * size):bk P e A (.call { callee:=.builtin .len,args:=#[x],argTypes:=#[t] })=some (num (n:Nat),[]):=by
  obtain ⟨p,m,c,rfl,h2,_⟩:=s
  have:m=n:=Nat.eq_of_mul_eq_mul_right h0 (h2.symm.trans hn)
  subst this
  exact qlen hu h
theorem bJ.at {size i:Nat} {v:Value} {xs:List Value} (s:bJ A size v xs) (hi:(i + 1) * size<=xs.length) (h0:0 < size):∃ b off rw r rcap n c,v=.slice (some ⟨b,off,none⟩) n c/\i < n/\A.get b=some (.row rw r rcap)/\kO r (off + i * size) size=some ((xs.drop (i * size)).take size)/\(∀ j,j < size->r[off + i * size + j]? = xs[i * size + j]?):=by
  obtain ⟨p,n,c,rfl,h2,h3,h4⟩:=s
  have hin:i < n:=by
    rw [h2] at hi
    exact Nat.lt_of_succ_le (Nat.le_of_mul_le_mul_right hi h0)
  have hmul:(i + 1) * size=i * size + size:=by rw [SW,Nat.one_mul]
  rcases h4 with h4 | ⟨b,off,rw,r,rcap,rfl,g2,g3⟩
  · omega
  · have hlen:off + n * size<=r.length:=by
      have:=Xk List.length g3
      rw [XZ,Tx] at this
      have:0 < n * size:=Nat.mul_pos O h0
      omega
    have hle:i * size + size<=n * size:=by rw [h2] at hi;omega
    refine ⟨b,off,rw,r,rcap,n,c,rfl,hin,g2,?_,fun j hj=>?_⟩
    · unfold kO
      rw [XX O,<- g3]
      congr 1
      rw [List.drop_take,List.take_take,List.drop_drop]
      congr 1
      omega
    · rw [<- g3,SX O,RV]
      congr 1
      omega
theorem au {el:TypeId} {b off n c i m:Nat} {k:IntKind} (hu:P.underlying t=some (.slice el)) (hs:dY P el=some m) (h:cg e x=some v) (hv:v=.slice (some ⟨b,off,none⟩) n c) (h':cg e y=some (.int k (i:Nat))) (hi:i < n) :
    bk P e A (.indexAddr t x y)=some (.pointer (some ⟨b,off + i * m,none⟩),[]):=by
  subst hv
  rw [J6 hu hs h h' hi,pG _ _ Z]
end
structure Fresh (A0 A:AH) (v:Value) (size:Nat) (xs:List Value):Prop where
  own:qW A v size xs
  lo:∀ b,blk v=some b->A0.get b=none
section
variable {A0 A A1:AH} {v v':Value} {size:Nat} {xs ys:List Value}
theorem Fresh.nil (A0 A:AH) (size:Nat):Fresh A0 A (.slice none 0 0) size []:=⟨.inl ⟨rfl,rfl⟩,fun _ h=>by cases h⟩
theorem Fresh.le (h:Fresh A0 A v size xs) (le:A.le A1):Fresh A0 A1 v size xs:=⟨h.own.le le,h.lo⟩
theorem Fresh.ne {b:Nat} {o:fB} (h:Fresh A0 A v size xs) (D:A0.wf) (g:A0.get b=some o):blk v ≠ some b:=fun q=>by rw [h.lo b q] at g;cases g
theorem Fresh.slc (h:Fresh A0 A v size xs):bJ A size v xs:=h.own.slc
theorem qW.take {n k:Nat} {p:Option Addr} {c:Nat} (h:qW A (.slice p n c) size xs) (hk:k<=n):qW A (.slice p k c) size (xs.take (k * size)):=by
  rcases h with ⟨h1,rfl⟩ | ⟨b,n',k',r,rcap,h1,h2,h3,h4,h5,h6⟩
  · cases h1;have:k=0:=by omega
    subst this;exact .inl ⟨Z,by simp⟩
  · cases h1
    have hm:=TY size hk
    refine .inr ⟨b,k,c,r,rcap,Z,h2,by rw [XZ];omega,?_,by omega,h6⟩
    rw [<- h4,List.take_take,QZ hm]
theorem Fresh.take {n k:Nat} {p:Option Addr} {c:Nat} (h:Fresh A0 A (.slice p n c) size xs) (hk:k<=n):Fresh A0 A (.slice p k c) size (xs.take (k * size)) :=
  ⟨h.own.take hk,fun b hb=>h.lo b (by cases p <;> exact hb)⟩
theorem Fresh.nonnil (h:Fresh A0 A v size xs) (hx:xs ≠ []):∃ b n c,v=.slice (some ⟨b,0,none⟩) n c/\n * size=xs.length/\n<=c:=by
  rcases h.own with ⟨_,rfl⟩ | ⟨b,n,k,r,rcap,h1,h2,h3,h4,h5,h6⟩
  · exact absurd Z hx
  · exact ⟨b,n,k,h1,h3.symm,h5⟩
theorem bN {b n c:Nat} {rw:Bool} {r ys:List Value} {cap:Nat} (h:A.get b=some (.row rw r cap)) (hr:kO r 0 (n * size)=some ys):listOf A size (.slice (some ⟨b,0,none⟩) n c)=some (n,ys):=by
  simp only [listOf,AH.cellsAt,h,hr]
  split
  · rename_i q;rw [q] at hr;simp [kO] at hr;rw [hr]
  · rfl
theorem bJ.listOf {n:Nat} (s:bJ A size v xs) (hn:xs.length=n * size) (h0:0 < size):listOf A size v=some (n,xs):=by
  obtain ⟨p,m,c,rfl,h2,_,h4⟩:=s
  have:m=n:=Nat.eq_of_mul_eq_mul_right h0 (h2.symm.trans hn)
  subst this
  rcases h4 with rfl | ⟨b,off,rw,r,rcap,rfl,g2,g3⟩
  · have:xs=[]:=Vv.1 (by rw [h2];simp)
    subst this
    cases p with
    | none=>rfl
    | some a=>simp [V.listOf]
  · have hlen:m * size<=(r.drop off).length:=by
      have:=Xk List.length g3
      rw [XZ] at this;omega
    rw [Tx] at hlen
    by_cases hm:m * size=0
    · have:xs=[]:=Vv.1 (by rw [h2];exact hm)
      subst this;simp [V.listOf,hm]
    · have:off + m * size<=r.length:=by omega
      simp [V.listOf,AH.cellsAt,g2,kO,hm,this,g3]
end
theorem Fresh.row {A0 A:AH} {b n c:Nat} {xs:List Value} {size:Nat} (h:Fresh A0 A (.slice (some ⟨b,0,none⟩) n c) size xs):∃ r rcap,A.get b=some (.row true r rcap)/\r.take (n * size)=xs/\xs.length=n * size:=by
  rcases h.own with ⟨q,_⟩ | ⟨b',n',k,r',rcap',h1,h2,h3,h4,h5,h6⟩
  · cases q
  · cases h1;exact ⟨r',rcap',h2,h4,h3⟩
def dN (l:List W8):List Value:=l.map ax
theorem cO (l:List W8):(dN l).length=l.length:=by simp [dN]
theorem fz {l:List W8} {i:Nat} (h:i < l.length):(dN l)[i]? = some (ax (l.getD i [])):=by simp [dN,h]
theorem aK (l:W8):(ao l).length=l.length:=by simp [ao]
theorem fF {l:W8} {i:Nat} (h:i < l.length):(ao l)[i]? = some (ed (l.getD i 0)):=by simp [ao,h]
theorem eu (a b:W8):ao a ++ ao b=ao (a ++ b):=by simp [ao]
theorem iQ (a:W8) (n:Nat):(ao a).take n=ao (a.take n):=by simp [ao,List.map_take]
theorem r8 (a:W8) (n:Nat) (c:UInt8):(ao a).set n (ed c)=ao (a.set n c):=by simp [ao,List.map_set]
theorem zO (l:W8):lG (ao l)=true:=by simp [lG,ao,Value.oneCell']
theorem Xi (l:List W8):lG (dN l)=true:=by simp [lG,dN,Value.oneCell']
section
variable {P:Program} {e:im} {A A0 A1:AH} {x y:Operand} {t t':TypeId} {v v' u:Value} {size:Nat} {xs ys:List Value}
theorem jo {p:Option Addr} {el:TypeId} {n len cap j:Nat} {hi:Operand} (hu:P.underlying t=some (.slice el)) (hs:dY P el=some n) (h:cg e x=some (.slice p len cap)) (hhi:cg e hi=some (num (j:Nat))) (hj:j<=len/\len<=cap) :
    bk P e A (.slice t x none (some hi) none)=some (.slice p j cap,[]):=by
  have h1:(0:Int)<=0/\(0:Int)<=j/\(j:Int)<=cap/\len<=cap:=⟨by omega,by omega,by omega,hj.2⟩
  have h2:∀ q:Addr,q.add 0=q:=fun q=>by simp [Addr.add]
  simp [bk,cE,h,wa,hu,hs,gu,hhi]
  refine ⟨by omega,?_⟩
  cases p <;> simp [h2]
theorem qW.ne_new {b:Nat} (h:qW A v size xs) (wf:A.wf) (hb:A.n<=b):blk v ≠ some b:=by
  rcases h with ⟨rfl,_⟩ | ⟨b',n,k,r,rcap,rfl,h2,_⟩
  · intro q;cases q
  · intro q;simp only [V.blk,Option.some.injEq] at q;subst q;have:=wf _ _ h2;omega
theorem ot.ne {b:Nat} {o:fB} (ap:ot A v size xs v' A1) (h:V.blk v ≠ some b) (wf:A.wf) (g:A.get b=some o):V.blk v' ≠ some b:=fun q=>by
  rcases ap.blk b q with q | q
  · exact h q
  · have:=wf _ _ g;omega
theorem ot.keep {b:Nat} {o:fB} (ap:ot A v size xs v' A1) (h:V.blk v ≠ some b) (g:A.get b=some o):A1.get b=some o:=ap.get b o g h
theorem Fresh.keep {b:Nat} (h:Fresh A0 A v size xs) (k:∀ b' o,b' ≠ b->A.get b'=some o->A1.get b'=some o) (hb:blk v ≠ some b):Fresh A0 A1 v size xs:=⟨h.own.keep k hb,h.lo⟩
theorem eK {sr dd el:TypeId} {s:W8} {K:Value->AH->Prop} {Kp:List PanicEntry->AH->Prop} {g:Option (Nat × Bool)} {dst:Option Nat} {ty:TypeId} {ps:String} {af:Array Edge} (hx:cg e x=some v) (hs:P.underlying sr=some (.slice el)) (hd:P.underlying dd=some .string) (hu:P.underlying el=some (.int .u8))
    (hl:bJ A 1 v (ao s)) (h:K (ax s) A):ll P e A { dst:=dst,op:=.convert sr dd x,type:=ty,pos:=ps,after:=af,guard:=g } K Kp:=by
  have h2:=hl.listOf (n:=s.length) (by simp [ao]) O
  obtain ⟨p,m,c,rfl,h3,_⟩:=hl
  have:m=s.length:=by simpa [ao] using h3.symm
  subst this
  exact Re hx hs hd hu h2 h
theorem VN (z:Value) (n:Nat):mD [z] n=List.replicate n z:=by
  induction n with
  | zero=>rfl
  | succ n ih=>simp [mD,ih,List.replicate_succ]
theorem oO {tt el:TypeId} {n k:Nat} {z:Value} {i:TypeInfo} {K:Value->AH->Prop} {Kp:List PanicEntry->AH->Prop} {g:Option (Nat × Bool)} {dst:Option Nat} {ty:TypeId} {ps:String} {af:Array Edge} (wf:A.wf) (le:A0.le A) (hx:cg e x=some (num (n:Nat))) (hy:cg e y=some (num (k:Nat))) (hu:P.underlying tt=some (.slice el)) (hs:dY P el=some 1) (hz:c5 P el=some z) (hi:P.info? el=some i)
    (hzs:z.cells = #[z]) (hnk:n<=k) (hb:i.bytes * k<=281474976710656) (hk:k < 9223372036854775808)
    (h:∀ A1 b,Cm A A1 b (.row true (List.replicate k z) k)->Fresh A0 A1 (.slice (some ⟨b,0,none⟩) n k) 1 (List.replicate n z)->K (.slice (some ⟨b,0,none⟩) n k) A1):ll P e A { dst:=dst,op:=.makeSlice tt x y,type:=ty,pos:=ps,after:=af,guard:=g } K Kp:=by
  refine KY wf hx hy hu hs hz hi (by rw [hzs];rfl) O hnk hb hk fun A1 b nb=>?_
  have e1:z.cells.toList=[z]:=by rw [hzs]
  rw [e1,VN,Rk] at nb
  refine h A1 b nb ⟨.inr ⟨b,n,k,_,_,rfl,nb.get,by simp,?_,hnk,by omega⟩,fun b' hb'=>?_⟩
  · rw [List.take_replicate];congr 1;omega
  · cases hb'
    cases q:A0.get b with
    | none=>rfl
    | some o=>have:=le.g q;have:=wf _ _ this;have:=nb.lo;omega
theorem qy (n:Nat):List.replicate n (.int .u8 0)=ao (List.replicate n 0):=by simp [ao]
theorem VC {l:W8} {i len:Nat} {el:TypeId} {k:IntKind} (hu:P.underlying t=some (.array len el)) (hs:dY P el=some 1) (ha:ef P el=some false) (h:cg e x=some (.agg (ao l).toArray)) (h':cg e y=some (.int k (i:Nat))) (hi:i < len) (hl:l.length=len) :
    bk P e A (.index t x y)=some (ed (l.getD i 0),[]):=by
  refine ZL hu hs h h' hi ?_
  have:i < l.length:=by omega
  simp [rC,ha,ao,this]
end
theorem bi {P:Program} {g:FuncId} {fn:Func} {c:Code} {rs:Array ResultVar} {nt:Nat} {args:List Value} {a:Array Value} {e:im} {A:AH} {R:Value->AH->Prop} (he:f5 P g) (hf:P.funcs[g]? = some fn) (hb:fn.body=some c)
    (hr:fn.results=rs) (hnt:fn.ntmps=nt) (ha:args.toArray=a) (hn:Nat.ble args.length nt=true) (hE:uq args 0=e) (h:A.wf->ak P nt c (j7 P rs.toList fun en A'=>∃ v,en=.returned v/\R v A') ⟨e,[]⟩ A):bH P g a A R:=by
  subst hr;subst hnt;subst ha;subst hE
  exact iy.enter he hf hb (Sv hn) h
theorem aH {P:Program} {rs:List ResultVar} {R:Value->AH->Prop} {e:im} {A:AH} {vs:List Value} (hr:iE P e A rs=some vs) (h:R (ej vs) A):j7 P rs (fun en A'=>∃ v,en=.returned v/\R v A') .ret ⟨e,[]⟩ A :=
  ⟨rfl,vs,hr,_,rfl,h⟩
theorem AU {P:Program} {rs:List ResultVar} {R:Value->AH->Prop} {e:im} {A:AH} {vs:List Value} (hr:iE P e A rs=some vs) (h:R (ej vs) A):j7 P rs (fun en A'=>∃ v,en=.returned v/\R v A') .normal ⟨e,[]⟩ A :=
  ⟨rfl,vs,hr,_,rfl,h⟩
theorem kI {P:Program} {e:im} {A:AH} {x:Operand} {t:TypeId} {p:Prop} [Decidable p] (h:cg e x=some (.bool (decide p))):bk P e A (.unOp .not t x)=some (.bool (decide (¬ p)),[]):=by
  rw [eD h];simp
theorem dt {r xs:List Value} {o:Nat} {i:Nat} (h:∀ j,j < 1->r[o + i * 1 + j]? = xs[i * 1 + j]?):r[o + i * 1]? = xs[i]?:=by
  have:=h 0 O;simpa using this
end V
namespace V
def pend (ops:Array Oper) (held:List (Nat × fC)) (i:Nat):fC:=(held.filter fun p=>!ms ops p.1 ops.size i).flatMap (·.2)
theorem aU.list {ops:Array Oper} {held:List (Nat × fC)} {i:Nat} {A:AH} {L:fC} (h:pend ops held i=L) (hL:∀ q ∈ L,A.cell q.1=some q.2):aU ops held i A :=
  aU.of fun p hp ha q hq=>hL q (by rw [<- h];exact Qv.2 ⟨p,Sq.2 ⟨hp,by simp [ha]⟩,hq⟩)
theorem cl {A B:AH} {a:Addr} {v:Value} (le:A.le B) (h:A.cell a=some v):B.cell a=some v:=by
  unfold AH.cell at h ⊢
  split at h
  · cases h
  · rename_i hs
    rw [Xy hs]
    cases hg:A.get a.block with
    | none=>simp [hg] at h
    | some o=>rw [le.g hg];simpa only [hg] using h
theorem cm {A:AH}:∀ q ∈ ([]:fC),A.cell q.1=some q.2:=fun _ h=>by cases h
theorem bz {A:AH} {a:Addr} {v:Value} {L:fC} (h:A.cell a=some v) (t:∀ q ∈ L,A.cell q.1=some q.2):∀ q ∈ (a,v) :: L,A.cell q.1=some q.2:=fun q hq=>by
  rcases Vz.1 hq with rfl | hq
  · exact h
  · exact t q hq
theorem de {A:AH} {b off cap:Nat} {rw:Bool} {c:List Value} {v:Value} (hg:A.get b=some (.row rw c cap)) (hc:c[off]? = some v):A.cell ⟨b,off,none⟩=some v:=by simp [AH.cell,hg,hc]
theorem cR {K:Fr->AH->Prop} {Q:Exit->Fr->AH->Prop} {f:Fr} {A:AH} (h:Q .ret f A):rX K Q .ret f A:=h
theorem cr {i:Nat} {Q:Exit->Fr->AH->Prop} {f:Fr} {A:AH} (h:Q .ret f A):oE i Q .ret f A:=h
class Co (Q:Exit->Fr->AH->Prop) (f:Fr) (A:AH) (R:outParam Prop):Prop where
  of:R->Q .ret f A
instance (priority:=low) Co.base {Q:Exit->Fr->AH->Prop} {f:Fr} {A:AH}:Co Q f A (Q .ret f A):=⟨id⟩
instance Co.then {K:Fr->AH->Prop} {Q:Exit->Fr->AH->Prop} {f:Fr} {A:AH} {R:Prop} [i:Co Q f A R]:Co (rX K Q) f A R:=⟨fun h=>i.of h⟩
instance Co.block {j:Nat} {Q:Exit->Fr->AH->Prop} {f:Fr} {A:AH} {R:Prop} [i:Co Q f A R]:Co (oE j Q) f A R:=⟨fun h=>i.of h⟩
theorem ak.rt {P:Program} {nt:Nat} {Q:Exit->Fr->AH->Prop} {f:Fr} {A:AH} {R:Prop} [i:Co Q f A R] (h:R):ak P nt .ret Q f A:=ak.ret (i.of h)
theorem sX {e:im} {t0:Nat} {v0:Value} (h0:cM e t0=some v0):aj [(t0,v0)] e:=aj.cons h0<|aj.nil _
theorem kE {e:im} {t0 t1:Nat} {v0 v1:Value} (h0:cM e t0=some v0) (h1:cM e t1=some v1):aj [(t0,v0),(t1,v1)] e:=aj.cons h0<|aj.cons h1<|aj.nil _
theorem jc {e:im} {t0 t1 t2:Nat} {v0 v1 v2:Value} (h0:cM e t0=some v0) (h1:cM e t1=some v1) (h2:cM e t2=some v2):aj [(t0,v0),(t1,v1),(t2,v2)] e:=aj.cons h0<|aj.cons h1<|aj.cons h2<|aj.nil _
theorem jC {e:im} {t0 t1 t2 t3:Nat} {v0 v1 v2 v3:Value} (h0:cM e t0=some v0) (h1:cM e t1=some v1) (h2:cM e t2=some v2) (h3:cM e t3=some v3):aj [(t0,v0),(t1,v1),(t2,v2),(t3,v3)] e:=aj.cons h0<|aj.cons h1<|aj.cons h2<|aj.cons h3<|aj.nil _
theorem sY {e:im} {t0 t1 t2 t3 t4:Nat} {v0 v1 v2 v3 v4:Value} (h0:cM e t0=some v0) (h1:cM e t1=some v1) (h2:cM e t2=some v2) (h3:cM e t3=some v3) (h4:cM e t4=some v4):aj [(t0,v0),(t1,v1),(t2,v2),(t3,v3),(t4,v4)] e:=aj.cons h0<|aj.cons h1<|aj.cons h2<|aj.cons h3<|aj.cons h4<|aj.nil _
theorem ya {e:im} {t0 t1 t2 t3 t4 t5:Nat} {v0 v1 v2 v3 v4 v5:Value} (h0:cM e t0=some v0) (h1:cM e t1=some v1) (h2:cM e t2=some v2) (h3:cM e t3=some v3) (h4:cM e t4=some v4) (h5:cM e t5=some v5):aj [(t0,v0),(t1,v1),(t2,v2),(t3,v3),(t4,v4),(t5,v5)] e:=aj.cons h0<|aj.cons h1<|aj.cons h2<|aj.cons h3<|aj.cons h4<|aj.cons h5<|aj.nil _
theorem Jc {e:im} {t0 t1 t2 t3 t4 t5 t6:Nat} {v0 v1 v2 v3 v4 v5 v6:Value} (h0:cM e t0=some v0) (h1:cM e t1=some v1) (h2:cM e t2=some v2) (h3:cM e t3=some v3) (h4:cM e t4=some v4) (h5:cM e t5=some v5) (h6:cM e t6=some v6):aj [(t0,v0),(t1,v1),(t2,v2),(t3,v3),(t4,v4),(t5,v5),(t6,v6)] e:=aj.cons h0<|aj.cons h1<|aj.cons h2<|aj.cons h3<|aj.cons h4<|aj.cons h5<|aj.cons h6<|aj.nil _
theorem zZ {e:im} {t0 t1 t2 t3 t4 t5 t6 t7:Nat} {v0 v1 v2 v3 v4 v5 v6 v7:Value} (h0:cM e t0=some v0) (h1:cM e t1=some v1) (h2:cM e t2=some v2) (h3:cM e t3=some v3) (h4:cM e t4=some v4) (h5:cM e t5=some v5) (h6:cM e t6=some v6) (h7:cM e t7=some v7):aj [(t0,v0),(t1,v1),(t2,v2),(t3,v3),(t4,v4),(t5,v5),(t6,v6),(t7,v7)] e:=aj.cons h0<|aj.cons h1<|aj.cons h2<|aj.cons h3<|aj.cons h4<|aj.cons h5<|aj.cons h6<|aj.cons h7<|aj.nil _
theorem ev9 {e:im} {t0 t1 t2 t3 t4 t5 t6 t7 t8:Nat} {v0 v1 v2 v3 v4 v5 v6 v7 v8:Value} (h0:cM e t0=some v0) (h1:cM e t1=some v1) (h2:cM e t2=some v2) (h3:cM e t3=some v3) (h4:cM e t4=some v4) (h5:cM e t5=some v5) (h6:cM e t6=some v6) (h7:cM e t7=some v7) (h8:cM e t8=some v8):aj [(t0,v0),(t1,v1),(t2,v2),(t3,v3),(t4,v4),(t5,v5),(t6,v6),(t7,v7),(t8,v8)] e:=aj.cons h0<|aj.cons h1<|aj.cons h2<|aj.cons h3<|aj.cons h4<|aj.cons h5<|aj.cons h6<|aj.cons h7<|aj.cons h8<|aj.nil _
theorem Fy {e:im} {t0 t1 t2 t3 t4 t5 t6 t7 t8 t9:Nat} {v0 v1 v2 v3 v4 v5 v6 v7 v8 v9:Value} (h0:cM e t0=some v0) (h1:cM e t1=some v1) (h2:cM e t2=some v2) (h3:cM e t3=some v3) (h4:cM e t4=some v4) (h5:cM e t5=some v5) (h6:cM e t6=some v6) (h7:cM e t7=some v7) (h8:cM e t8=some v8) (h9:cM e t9=some v9):aj [(t0,v0),(t1,v1),(t2,v2),(t3,v3),(t4,v4),(t5,v5),(t6,v6),(t7,v7),(t8,v8),(t9,v9)] e:=aj.cons h0<|aj.cons h1<|aj.cons h2<|aj.cons h3<|aj.cons h4<|aj.cons h5<|aj.cons h6<|aj.cons h7<|aj.cons h8<|aj.cons h9<|aj.nil _
theorem vo {e:im} {t0 t1 t2 t3 t4 t5 t6 t7 t8 t9 h:Nat} {v0 v1 v2 v3 v4 v5 v6 v7 v8 v9 D:Value} (h0:cM e t0=some v0) (h1:cM e t1=some v1) (h2:cM e t2=some v2) (h3:cM e t3=some v3) (h4:cM e t4=some v4) (h5:cM e t5=some v5) (h6:cM e t6=some v6) (h7:cM e t7=some v7) (h8:cM e t8=some v8) (h9:cM e t9=some v9) (V:cM e h=some D):aj [(t0,v0),(t1,v1),(t2,v2),(t3,v3),(t4,v4),(t5,v5),(t6,v6),(t7,v7),(t8,v8),(t9,v9),(h,D)] e:=aj.cons h0<|aj.cons h1<|aj.cons h2<|aj.cons h3<|aj.cons h4<|aj.cons h5<|aj.cons h6<|aj.cons h7<|aj.cons h8<|aj.cons h9<|aj.cons V<|aj.nil _
theorem ev12 {e:im} {t0 t1 t2 t3 t4 t5 t6 t7 t8 t9 h D:Nat} {v0 v1 v2 v3 v4 v5 v6 v7 v8 v9 V X:Value} (h0:cM e t0=some v0) (h1:cM e t1=some v1) (h2:cM e t2=some v2) (h3:cM e t3=some v3) (h4:cM e t4=some v4) (h5:cM e t5=some v5) (h6:cM e t6=some v6) (h7:cM e t7=some v7) (h8:cM e t8=some v8) (h9:cM e t9=some v9) (a0:cM e h=some V) (a1:cM e D=some X):aj [(t0,v0),(t1,v1),(t2,v2),(t3,v3),(t4,v4),(t5,v5),(t6,v6),(t7,v7),(t8,v8),(t9,v9),(h,V),(D,X)] e:=aj.cons h0<|aj.cons h1<|aj.cons h2<|aj.cons h3<|aj.cons h4<|aj.cons h5<|aj.cons h6<|aj.cons h7<|aj.cons h8<|aj.cons h9<|aj.cons a0<|aj.cons a1<|aj.nil _
theorem en0 {P:Program} {g:FuncId} {fn:Func} {c:Code} {rs:Array ResultVar} {nt:Nat} {A:AH} {R:Value->AH->Prop} (he:f5 P g) (hf:P.funcs[g]? = some fn) (hb:fn.body=some c) (hr:fn.results=rs) (hnt:fn.ntmps=nt) (hn:Nat.ble 0 nt=true) (h:A.wf->ak P nt c (j7 P rs.toList fun en A'=>∃ v,en=.returned v/\R v A') ⟨[],[]⟩ A):bH P g #[] A R:=bi (args:=[]) he hf hb hr hnt Z hn Z h
theorem vn {P:Program} {g:FuncId} {fn:Func} {c:Code} {rs:Array ResultVar} {nt:Nat} {a0:Value} {A:AH} {R:Value->AH->Prop} (he:f5 P g) (hf:P.funcs[g]? = some fn) (hb:fn.body=some c) (hr:fn.results=rs) (hnt:fn.ntmps=nt) (hn:Nat.ble 1 nt=true) (h:A.wf->ak P nt c (j7 P rs.toList fun en A'=>∃ v,en=.returned v/\R v A') ⟨[(0,a0)],[]⟩ A):bH P g #[a0] A R:=bi (args:=[a0]) he hf hb hr hnt Z hn Z h
theorem en2 {P:Program} {g:FuncId} {fn:Func} {c:Code} {rs:Array ResultVar} {nt:Nat} {a0 a1:Value} {A:AH} {R:Value->AH->Prop} (he:f5 P g) (hf:P.funcs[g]? = some fn) (hb:fn.body=some c) (hr:fn.results=rs) (hnt:fn.ntmps=nt) (hn:Nat.ble 2 nt=true) (h:A.wf->ak P nt c (j7 P rs.toList fun en A'=>∃ v,en=.returned v/\R v A') ⟨[(0,a0),(1,a1)],[]⟩ A):bH P g #[a0,a1] A R:=bi (args:=[a0,a1]) he hf hb hr hnt Z hn Z h
theorem en3 {P:Program} {g:FuncId} {fn:Func} {c:Code} {rs:Array ResultVar} {nt:Nat} {a0 a1 a2:Value} {A:AH} {R:Value->AH->Prop} (he:f5 P g) (hf:P.funcs[g]? = some fn) (hb:fn.body=some c) (hr:fn.results=rs) (hnt:fn.ntmps=nt) (hn:Nat.ble 3 nt=true) (h:A.wf->ak P nt c (j7 P rs.toList fun en A'=>∃ v,en=.returned v/\R v A') ⟨[(0,a0),(1,a1),(2,a2)],[]⟩ A):bH P g #[a0,a1,a2] A R:=bi (args:=[a0,a1,a2]) he hf hb hr hnt Z hn Z h
theorem en4 {P:Program} {g:FuncId} {fn:Func} {c:Code} {rs:Array ResultVar} {nt:Nat} {a0 a1 a2 a3:Value} {A:AH} {R:Value->AH->Prop} (he:f5 P g) (hf:P.funcs[g]? = some fn) (hb:fn.body=some c) (hr:fn.results=rs) (hnt:fn.ntmps=nt) (hn:Nat.ble 4 nt=true) (h:A.wf->ak P nt c (j7 P rs.toList fun en A'=>∃ v,en=.returned v/\R v A') ⟨[(0,a0),(1,a1),(2,a2),(3,a3)],[]⟩ A):bH P g #[a0,a1,a2,a3] A R:=bi (args:=[a0,a1,a2,a3]) he hf hb hr hnt Z hn Z h
theorem en5 {P:Program} {g:FuncId} {fn:Func} {c:Code} {rs:Array ResultVar} {nt:Nat} {a0 a1 a2 a3 a4:Value} {A:AH} {R:Value->AH->Prop} (he:f5 P g) (hf:P.funcs[g]? = some fn) (hb:fn.body=some c) (hr:fn.results=rs) (hnt:fn.ntmps=nt) (hn:Nat.ble 5 nt=true) (h:A.wf->ak P nt c (j7 P rs.toList fun en A'=>∃ v,en=.returned v/\R v A') ⟨[(0,a0),(1,a1),(2,a2),(3,a3),(4,a4)],[]⟩ A):bH P g #[a0,a1,a2,a3,a4] A R:=bi (args:=[a0,a1,a2,a3,a4]) he hf hb hr hnt Z hn Z h
theorem en6 {P:Program} {g:FuncId} {fn:Func} {c:Code} {rs:Array ResultVar} {nt:Nat} {a0 a1 a2 a3 a4 a5:Value} {A:AH} {R:Value->AH->Prop} (he:f5 P g) (hf:P.funcs[g]? = some fn) (hb:fn.body=some c) (hr:fn.results=rs) (hnt:fn.ntmps=nt) (hn:Nat.ble 6 nt=true) (h:A.wf->ak P nt c (j7 P rs.toList fun en A'=>∃ v,en=.returned v/\R v A') ⟨[(0,a0),(1,a1),(2,a2),(3,a3),(4,a4),(5,a5)],[]⟩ A):bH P g #[a0,a1,a2,a3,a4,a5] A R:=bi (args:=[a0,a1,a2,a3,a4,a5]) he hf hb hr hnt Z hn Z h
theorem en7 {P:Program} {g:FuncId} {fn:Func} {c:Code} {rs:Array ResultVar} {nt:Nat} {a0 a1 a2 a3 a4 a5 a6:Value} {A:AH} {R:Value->AH->Prop} (he:f5 P g) (hf:P.funcs[g]? = some fn) (hb:fn.body=some c) (hr:fn.results=rs) (hnt:fn.ntmps=nt) (hn:Nat.ble 7 nt=true) (h:A.wf->ak P nt c (j7 P rs.toList fun en A'=>∃ v,en=.returned v/\R v A') ⟨[(0,a0),(1,a1),(2,a2),(3,a3),(4,a4),(5,a5),(6,a6)],[]⟩ A):bH P g #[a0,a1,a2,a3,a4,a5,a6] A R:=bi (args:=[a0,a1,a2,a3,a4,a5,a6]) he hf hb hr hnt Z hn Z h
theorem en8 {P:Program} {g:FuncId} {fn:Func} {c:Code} {rs:Array ResultVar} {nt:Nat} {a0 a1 a2 a3 a4 a5 a6 a7:Value} {A:AH} {R:Value->AH->Prop} (he:f5 P g) (hf:P.funcs[g]? = some fn) (hb:fn.body=some c) (hr:fn.results=rs) (hnt:fn.ntmps=nt) (hn:Nat.ble 8 nt=true) (h:A.wf->ak P nt c (j7 P rs.toList fun en A'=>∃ v,en=.returned v/\R v A') ⟨[(0,a0),(1,a1),(2,a2),(3,a3),(4,a4),(5,a5),(6,a6),(7,a7)],[]⟩ A):bH P g #[a0,a1,a2,a3,a4,a5,a6,a7] A R:=bi (args:=[a0,a1,a2,a3,a4,a5,a6,a7]) he hf hb hr hnt Z hn Z h
theorem en9 {P:Program} {g:FuncId} {fn:Func} {c:Code} {rs:Array ResultVar} {nt:Nat} {a0 a1 a2 a3 a4 a5 a6 a7 a8:Value} {A:AH} {R:Value->AH->Prop} (he:f5 P g) (hf:P.funcs[g]? = some fn) (hb:fn.body=some c) (hr:fn.results=rs) (hnt:fn.ntmps=nt) (hn:Nat.ble 9 nt=true) (h:A.wf->ak P nt c (j7 P rs.toList fun en A'=>∃ v,en=.returned v/\R v A') ⟨[(0,a0),(1,a1),(2,a2),(3,a3),(4,a4),(5,a5),(6,a6),(7,a7),(8,a8)],[]⟩ A):bH P g #[a0,a1,a2,a3,a4,a5,a6,a7,a8] A R:=bi (args:=[a0,a1,a2,a3,a4,a5,a6,a7,a8]) he hf hb hr hnt Z hn Z h
theorem en10 {P:Program} {g:FuncId} {fn:Func} {c:Code} {rs:Array ResultVar} {nt:Nat} {a0 a1 a2 a3 a4 a5 a6 a7 a8 a9:Value} {A:AH} {R:Value->AH->Prop} (he:f5 P g) (hf:P.funcs[g]? = some fn) (hb:fn.body=some c) (hr:fn.results=rs) (hnt:fn.ntmps=nt) (hn:Nat.ble 10 nt=true) (h:A.wf->ak P nt c (j7 P rs.toList fun en A'=>∃ v,en=.returned v/\R v A') ⟨[(0,a0),(1,a1),(2,a2),(3,a3),(4,a4),(5,a5),(6,a6),(7,a7),(8,a8),(9,a9)],[]⟩ A):bH P g #[a0,a1,a2,a3,a4,a5,a6,a7,a8,a9] A R:=bi (args:=[a0,a1,a2,a3,a4,a5,a6,a7,a8,a9]) he hf hb hr hnt Z hn Z h
theorem Od {l:W8} {i:Nat} (h:i < l.length) (hc:l.getD i 0 < 128):Utf8.decode (bs l) i=((l.getD i 0).toNat,1):=by
  have e:(bs l).get! i=l.getD i 0:=by
    show (bs l).data[i]! = _
    simp [bs,h]
  have:(l.getD i 0).toNat < 128:=by simpa [UInt8.lt_iff_toNat_lt] using hc
  simp only [Utf8.decode,Nat.add_zero,e]
  rw [XX this]
theorem Oc {l:W8} {i:Nat} (h:i < l.length) (hc:¬ l.getD i 0 < 128):128<=(Utf8.decode (bs l) i).1:=by
  have e:(bs l).get! i=l.getD i 0:=by
    show (bs l).data[i]! = _
    simp [bs,h]
  have:¬ (l.getD i 0).toNat < 128:=by simpa [UInt8.lt_iff_toNat_lt] using hc
  simp only [Utf8.decode,Nat.add_zero,e]
  rw [Xy this]
  repeat' split
  all_goals simp_all [Utf8.runeError,Utf8.valid]
  all_goals omega
theorem Jy (s:ByteArray) (pos:Nat):(Utf8.decode s pos).1<=1114111:=by
  have hb:∀ k,(s.get! (pos + k)).toNat < 256:=fun k=>(s.get! (pos + k)).toNat_lt
  have h0:=hb 0;have h1:=hb 1;have h2:=hb 2;have h3:=hb 3
  simp only [Utf8.decode]
  repeat' split
  all_goals simp_all [Utf8.runeError,Utf8.valid]
  all_goals omega
section
variable {P:Program} {e:im} {A:AH} {x y:Operand} {t t':TypeId} {v:Value} {ty:TypeId} {ps:String} {af:Array Edge} {dst:Option Nat} {K:Value->AH->Prop} {Kp:List PanicEntry->AH->Prop} {g:Option (Nat × Bool)}
theorem aaM {s:W8} (wf:A.wf) (hx:cg e x=some (ax s)) (hu:P.underlying t=some .string) (h:∀ A1 b,Cm A A1 b (.obj true (.stringIter (bs s) 0))->K (.pointer (some ⟨b,0,none⟩)) A1) :
    ll P e A { dst:=dst,op:=.range t x,type:=ty,pos:=ps,after:=af,guard:=g } K Kp :=
  ⟨_,hx,by simp only [D5,hu];exact h _ _ (JR wf _)⟩
theorem wnextS {s:W8} {pos b:Nat} (wf:A.wf) (hx:cg e x=some (.pointer (some ⟨b,0,none⟩))) (hg:A.get b=some (.obj true (.stringIter (bs s) pos)))
    (h1:pos < s.length->∀ A1,sL A A1 b (.obj true (.stringIter (bs s) (pos + (Utf8.decode (bs s) pos).2)))->K (.tuple #[.bool true,num (pos:Nat),.int .i32 ((Utf8.decode (bs s) pos).1:Nat)]) A1)
    (h2:¬ pos < s.length->K (.tuple #[.bool false]) A):ll P e A { dst:=dst,op:=.next x true,type:=ty,pos:=ps,after:=af,guard:=g } K Kp :=
  ⟨_,hx,b,rfl,.inl ⟨rfl,bs s,pos,hg,fun h=>h1 h _ (Xd wf hg _),fun h=>h2 h⟩⟩
end
theorem d6 (l:W8):(ao l).length=l.length * 1:=by rw [aK,TK]
theorem eP (l:List W8):(dN l).length=l.length * 1:=by rw [cO,TK]
theorem Fresh.base {A0 A B:AH} {v:Value} {n:Nat} {l:List Value} (h:Fresh A B v n l) (le:A0.le A):Fresh A0 B v n l:=⟨h.own,fun b hb=>by
  have:=h.lo b hb
  cases q:A0.get b with
  | none=>rfl
  | some o=>rw [le.g q] at this;cases this⟩
section
variable {P:Program} {e:im} {A:AH} {x:Operand} {t:TypeId} {v:Value} {r:List ResultVar} {vs:List Value}
theorem d5:iE P e A []=some []:=rfl
theorem dA {k:Nat} (he:cM e k=some v) (h:iE P e A r=some vs):iE P e A (.tmp k :: r)=some (v :: vs):=by simp [iE,he,h]
theorem df {a b n cap:Nat} {rw:Bool} {c:List Value} (ha:ef P t=some true) (hs:dY P t=some n) (he:cM e a=some (.pointer (some ⟨b,0,none⟩))) (hg:A.get b=some (.row rw c cap)) (hc:c.length=n) (h:iE P e A r=some vs):iE P e A (.cell a t :: r)=some (.agg c.toArray :: vs):=by
  have:A.cellsAt ⟨b,0,none⟩ n=some c:=by simp [AH.cellsAt,hg,kO,hc];exact VX O
  simp [iE,he,h,ly,ha,hs,this]
end
theorem IU (a b:List W8):dN a ++ dN b=dN (a ++ b):=by simp [dN]
theorem Fresh.lit {A0 A:AH} {b n size cap:Nat} {c:List Value} (g:A.get b=some (.row true c cap)) (ge:A0.get b=none) (hc:c.length=n * size) (hcap:n * size<=cap):Fresh A0 A (.slice (some ⟨b,0,none⟩) n n) size c :=
  ⟨.inr ⟨b,n,n,c,cap,rfl,g,hc,VX O,XV _,hcap⟩,fun b' h=>by cases h;exact ge⟩
theorem Fresh.grow {A0 A A1:AH} {v v':Value} {size:Nat} {xs ys:List Value} (h:Fresh A0 A v size xs) (le:A0.le A) (D:A0.wf) (ap:ot A v size ys v' A1):Fresh A0 A1 v' size ys/\A0.le A1 :=
  ⟨⟨ap.own,fun b hb=>(ap.blk b hb).elim (h.lo b) fun q=>aX D (Xj le.n q)⟩,⟨Xj le.n ap.n,fun b o g=>ap.get b o (le.get b o g) fun q=>by rw [h.lo b q] at g;cases g⟩⟩
theorem fu {A:AH} {b n size cap cp:Nat} {rw:Bool} {c:List Value} (h:A.get b=some (.row rw c cap)) (hn:c.length=n * size) (hc:n<=cp):bJ A size (.slice (some ⟨b,0,none⟩) n cp) c :=
  ⟨_,n,cp,rfl,hn,hc,.inr ⟨b,0,rw,c,cap,rfl,h,by rw [List.drop_zero,VX O]⟩⟩
theorem yI {A:AH} {b cap:Nat} {rw:Bool} {l l':List Value} (h:A.get b=some (.row rw l cap)) (e:l=l'):A.get b=some (.row rw l' cap):=e ▸ h
theorem ce {A0 A:AH} {v:Value} {n:Nat} {l l':List Value} (h:Fresh A0 A v n l) (e:l=l'):Fresh A0 A v n l':=e ▸ h
end V
end Go.Proofs.YtjppkekmddjcfaaGreatDoor
