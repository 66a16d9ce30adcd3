import Derived.Calls
import Derived.Scope
import Derived.OrdersHeld
import Derived.Below
import Derived.Tactics
import Derived.Laws.Strings
import Derived.Laws.BytesString
import Derived.Lib.ConvBytes
import Derived.IntWalk
set_option linter.unusedSectionVars false
set_option linter.unusedVariables false
set_option linter.unusedSimpArgs false
namespace Go.Proofs.YtjppkekmddjcfaaGreatDoor
abbrev W8:=List UInt8
section
theorem Xq:type_of% @List.length_cons:=@List.length_cons
theorem Xx:type_of% @List.length_nil:=@List.length_nil
theorem Xz:type_of% @List.length_append:=@List.length_append
theorem Xj:type_of% @Nat.le_trans:=@Nat.le_trans
theorem Xk:type_of% @congrArg:=@congrArg
theorem Xv:type_of% @decide_eq_false:=@decide_eq_false
theorem Xw:type_of% @if_pos:=@if_pos
theorem Xy:type_of% @if_neg:=@if_neg
theorem XQ:type_of% @List.length_set:=@List.length_set
theorem XX:type_of% @Nat.le_refl:=@Nat.le_refl
theorem XZ:type_of% @Nat.zero_le:=@Nat.zero_le
theorem XJ:type_of% @List.getD_eq_getElem?_getD:=@List.getD_eq_getElem?_getD
theorem XK:type_of% @Bool.and_eq_true:=@Bool.and_eq_true
theorem XV:type_of% @Nat.lt_succ_iff_lt_or_eq:=@Nat.lt_succ_iff_lt_or_eq
theorem XW:type_of% @List.mem_singleton:=@List.mem_singleton
theorem XY:type_of% @Int.toNat_natCast:=@Int.toNat_natCast
theorem Vq:type_of% @decide_eq_true_eq:=@decide_eq_true_eq
theorem Vx:type_of% @List.all_eq_true:=@List.all_eq_true
theorem Vz:type_of% @List.length_take:=@List.length_take
theorem Vj:type_of% @List.idxOf_lt_length_iff:=@List.idxOf_lt_length_iff
theorem Vk:type_of% @List.mem_map:=@List.mem_map
theorem Vv:type_of% @decide_eq_true:=@decide_eq_true
theorem Vw:type_of% @List.take_of_length_le:=@List.take_of_length_le
theorem Vy:type_of% @List.mem_cons:=@List.mem_cons
theorem VQ:type_of% @List.getElem_of_mem:=@List.getElem_of_mem
theorem VX:type_of% @List.mem_cons_self:=@List.mem_cons_self
theorem VZ:type_of% @List.mem_cons_of_mem:=@List.mem_cons_of_mem
theorem VJ:type_of% @List.mem_append:=@List.mem_append
theorem VK:type_of% @decide_eq_false_iff_not:=@decide_eq_false_iff_not
theorem VV:type_of% @List.map_append:=@List.map_append
theorem VW:type_of% @Nat.lt_or_ge:=@Nat.lt_or_ge
theorem VY:type_of% @Nat.mul_one:=@Nat.mul_one
theorem Tq:type_of% @List.length_map:=@List.length_map
theorem Tx:type_of% @List.prefix_refl:=@List.prefix_refl
theorem Tz:type_of% @List.map_cons:=@List.map_cons
theorem Tj:type_of% @List.foldl_cons:=@List.foldl_cons
theorem Tk:type_of% @List.append_assoc:=@List.append_assoc
theorem Tv:type_of% @List.drop_eq_getElem_cons:=@List.drop_eq_getElem_cons
theorem Tw:type_of% @Array.getElem?_setIfInBounds_ne:=@Array.getElem?_setIfInBounds_ne
theorem Ty:type_of% @List.range_succ:=@List.range_succ
theorem TQ:type_of% @List.length_singleton:=@List.length_singleton
theorem TX:type_of% @List.length_eq_zero_iff:=@List.length_eq_zero_iff
theorem TZ:type_of% @List.getElem_idxOf:=@List.getElem_idxOf
theorem TJ:type_of% @List.length_replicate:=@List.length_replicate
theorem TK:type_of% @Array.getElem?_eq_some_iff:=@Array.getElem?_eq_some_iff
theorem TV:type_of% @List.getElem?_append_right:=@List.getElem?_append_right
theorem TY:type_of% @List.mem_range:=@List.mem_range
theorem Sq:type_of% @Nat.zero_add:=@Nat.zero_add
theorem Sx:type_of% @List.getElem?_append_left:=@List.getElem?_append_left
theorem Sz:type_of% @Nat.eq_zero_or_pos:=@Nat.eq_zero_or_pos
theorem Sj:type_of% @List.flatMap_cons:=@List.flatMap_cons
theorem Sk:type_of% @decide_eq_true_iff:=@decide_eq_true_iff
theorem Sv:type_of% @List.set_set:=@List.set_set
theorem Sw:type_of% @Nat.le_of_ble_eq_true:=@Nat.le_of_ble_eq_true
theorem Sy:type_of% @Option.bind_some:=@Option.bind_some
theorem SQ:type_of% @List.not_mem_nil:=@List.not_mem_nil
theorem SX:type_of% @Nat.lt_of_lt_of_le:=@Nat.lt_of_lt_of_le
theorem SZ:type_of% @List.prefix_append:=@List.prefix_append
theorem SJ:type_of% @List.foldl_append:=@List.foldl_append
theorem SK:type_of% @List.mem_filter:=@List.mem_filter
theorem SV:type_of% @List.drop_eq_nil_of_le:=@List.drop_eq_nil_of_le
theorem SW:type_of% @List.getElem?_eq_getElem:=@List.getElem?_eq_getElem
theorem SY:type_of% @List.getElem?_take_of_lt:=@List.getElem?_take_of_lt
theorem Rq:type_of% @List.take_append_drop:=@List.take_append_drop
theorem Rx:type_of% @List.getElem?_eq_some_iff:=@List.getElem?_eq_some_iff
theorem Rz:type_of% @Bool.eq_iff_iff:=@Bool.eq_iff_iff
theorem Rj:type_of% @List.findIdx?_eq_some_iff_getElem:=@List.findIdx?_eq_some_iff_getElem
theorem Rk:type_of% @Nat.add_mul:=@Nat.add_mul
theorem Rv:type_of% @List.nodup_iff_pairwise_ne:=@List.nodup_iff_pairwise_ne
theorem Rw:type_of% @Option.map_some:=@Option.map_some
theorem Ry:type_of% @List.take_length:=@List.take_length
theorem RQ:type_of% @Array.getElem?_eq_none:=@Array.getElem?_eq_none
theorem RX:type_of% @List.nodup_append:=@List.nodup_append
theorem RZ:type_of% @List.pairwise_map:=@List.pairwise_map
theorem RJ:type_of% @List.getElem?_eq_none:=@List.getElem?_eq_none
theorem RK:type_of% @List.set_append_right:=@List.set_append_right
theorem RV:type_of% @Bool.false_eq_true:=@Bool.false_eq_true
theorem RW:type_of% @List.length_drop:=@List.length_drop
theorem RY:type_of% @List.getElem?_drop:=@List.getElem?_drop
theorem Qq:type_of% @List.find?_eq_none:=@List.find?_eq_none
theorem Qx:type_of% @Nat.sub_self:=@Nat.sub_self
theorem Qz:type_of% @List.length_range:=@List.length_range
theorem Qj:type_of% @List.append_nil:=@List.append_nil
theorem Qk:type_of% @List.map_congr_left:=@List.map_congr_left
theorem Qv:type_of% @List.map_nil:=@List.map_nil
theorem Qw:type_of% @List.append_inj':=@List.append_inj'
theorem Qy:type_of% @beq_iff_eq:=@beq_iff_eq
theorem QQ:type_of% @List.find?_cons:=@List.find?_cons
theorem QX:type_of% @Bool.true_and:=@Bool.true_and
end
open Go Go.RowKit
theorem Z {α:Sort _} {a:α}:a=a:=rfl
theorem O {p:Prop} (h:p:=by omega):p:=h
theorem U {p:Prop} (h:p:=by decide):p:=h
theorem Y {p:Prop} (h:p:=by kernel_rfl):p:=h
theorem O1 {p:Prop} (h:p:=by (try dsimp only);omega):p:=h
theorem O2 {p:Prop} (h:p:=by simp only [aj];omega):p:=h
theorem O3 {p:Prop} (h:p:=by simp only [aj,Xq,Xx];(try simp only [Xz,Xq,Xx]);omega):p:=h
theorem O4 {p:Prop} (h:p:=by simp only [aj];(try simp only [XQ]);omega):p:=h
theorem Of {p:Prop} (h:p:=by simp only [bw];omega):p:=h
theorem Oi {p:Prop} (h:p:=by (try simp only [Xz,Xq,Xx]);omega):p:=h
theorem Oj {p:Prop} (h:p:=by simp only [bi];omega):p:=h
theorem Ok {p:Prop} (h:p:=by simp only [cr];omega):p:=h
theorem On {p:Prop} (h:p:=by simp only [be,Xq,Xx];(try simp only [Xz,Xq,Xx]);omega):p:=h
theorem Or {p:Prop} (h:p:=by simp;omega):p:=h
theorem Ov {p:Prop} (h:p:=by simp only [Sq,VY]):p:=h
theorem Ow {p:Prop} (h:p:=by simp only [da];omega):p:=h
theorem Ox {p:Prop} (h:p:=by simp only [be];omega):p:=h
theorem Oy {p:Prop} (h:p:=by simp only [bi,Xq,Xx];(try simp only [Xz,Xq,Xx]);omega):p:=h
theorem Oz {p:Prop} (h:p:=by assumption):p:=h
theorem OF {p:Prop} (h:p:=by simp only [bw,Xq,Xx];(try simp only [Xz,Xq,Xx]);omega):p:=h
theorem OI {p:Prop} (h:p:=by first | omega | (simp only [Xq,Xx];omega)):p:=h
theorem OJ {p:Prop} (h:p:=by simp only [ed];omega):p:=h
theorem OK {p:Prop} (h:p:=by (try simp only [Xz,RW,Vz]);omega):p:=h
theorem ON {p:Prop} (h:p:=by simp only [bw];(try simp only [XQ]);omega):p:=h
theorem OP {p:Prop} (h:p:=by simp only [dR];omega):p:=h
theorem OR {p:Prop} (h:p:=by simp only [be,Xq,Xx];omega):p:=h
namespace V
inductive gv where
  | row (rw:Bool) (c:List Value) (cap:Nat)
  | obj (rw:Bool) (o:Obj)
def gv.rw:gv->Bool
  | .row b _ _=>b
  | .obj b _=>b
structure AH where
  n:Nat
  get:Nat->Option gv
def AH.rw (A:AH) (b:Nat):Bool:=match A.get b with | some o=>o.rw | none=>false
def AH.wf (A:AH):Prop:=∀ b o,A.get b=some o->b < A.n
def AH.new (A:AH) (o:gv):AH:=⟨A.n + 1,fun b=>if b=A.n then some o else A.get b⟩
def AH.set (A:AH) (b:Nat) (o:gv):AH:=⟨A.n,fun k=>if k=b then some o else A.get k⟩
def AH.kill (A:AH) (b:Nat):AH:=⟨A.n,fun k=>if k=b then none else A.get k⟩
def AH.grow (A:AH) (n:Nat):AH:=⟨n,A.get⟩
structure AH.le (A A':AH):Prop where
  n:A.n<=A'.n
  get:∀ b o,A.get b=some o->A'.get b=some o
theorem AH.le.g {A B:AH} (h:A.le B) {b:Nat} {o:gv} (k:A.get b=some o):B.get b=some o:=h.get _ _ k
theorem G {a b:Nat} (h:Nat.ble a b=true:=by exact Z):a<=b:=Sw h
theorem AH.le.refl (A:AH):A.le A:=⟨XX _,fun _ _ h=>h⟩
theorem AH.le.trans {A B C:AH} (h:A.le B) (k:B.le C):A.le C:=⟨Xj h.n k.n,fun b o g=>k.get b o (h.get b o g)⟩
@[simp] theorem AH.new_n (A:AH) (o:gv):(A.new o).n=A.n + 1:=rfl
@[simp] theorem AH.set_n (A:AH) (b:Nat) (o:gv):(A.set b o).n=A.n:=rfl
@[simp] theorem AH.kill_n (A:AH) (b:Nat):(A.kill b).n=A.n:=rfl
@[simp] theorem AH.grow_n (A:AH) (n:Nat):(A.grow n).n=n:=rfl
theorem AH.new_get (A:AH) (o:gv) (b:Nat):(A.new o).get b=if b=A.n then some o else A.get b:=rfl
theorem AH.set_get (A:AH) (k:Nat) (o:gv) (b:Nat):(A.set k o).get b=if b=k then some o else A.get b:=rfl
@[simp] theorem AH.grow_get (A:AH) (n:Nat) (b:Nat):(A.grow n).get b=A.get b:=rfl
@[simp] theorem AH.new_get_same (A:AH) (o:gv):(A.new o).get A.n=some o:=Xw Z
@[simp] theorem AH.set_get_same (A:AH) (b:Nat) (o:gv):(A.set b o).get b=some o:=Xw Z
theorem AH.new_get_ne (A:AH) (o:gv) {b:Nat} (h:b ≠ A.n):(A.new o).get b=A.get b:=Xy h
theorem AH.set_get_ne (A:AH) (o:gv) {b k:Nat} (h:b ≠ k):(A.set k o).get b=A.get b:=Xy h
theorem AH.le_new {A B:AH} (h:A.le B) (hwf:A.wf) (o:gv):A.le (B.new o) :=
  ⟨Nat.le_succ_of_le h.n,fun b x g=>by rw [AH.new_get_ne];exact h.get b x g;have:=hwf b x g;have:=h.n;omega⟩
theorem AH.wf_new {A:AH} (h:A.wf) (o:gv):(A.new o).wf:=fun b x g=>by
  simp only [AH.new_get,AH.new_n] at *
  split at g
  · omega
  · exact Nat.lt_succ_of_lt (h b x g)
theorem AH.wf_set {A:AH} (h:A.wf) {k:Nat} (hk:k < A.n) (o:gv):(A.set k o).wf:=fun b x g=>by
  simp only [AH.set_get,AH.set_n] at *
  split at g
  · omega
  · exact h b x g
def gv.fits:gv->Option Obj->Prop
  | .row rw c cap,o=>∃ cs elem fr,o=some (.cells cs elem fr)/\c.length<=cap/\cap<=cs.size/\(∀ i,i < c.length->cs[i]? = c[i]?)/\(rw=true->∀ i,i < cap->¬ (fr.1<=i/\i < fr.2))
  | .obj _ x,o=>o=some x/\∀ c e f,x ≠ .cells c e f
structure cw (A:AH) (w:World):Prop where
  size:w.heap.size=A.n
  fits:∀ b o,A.get b=some o->o.fits w.heap[b]?
theorem gv.fits.some {o:gv} {x:Option Obj} (h:o.fits x):∃ y,x=some y:=by
  cases o with
  | row rw c cap=>obtain ⟨cs,e,f,h,_⟩:=h;exact ⟨_,h⟩
  | obj rw x=>exact ⟨_,h.1⟩
theorem cw.wf {A:AH} {w:World} (h:cw A w):A.wf:=fun b o g=>by
  obtain ⟨y,hy⟩:=(h.fits b o g).some
  rw [<- h.size]
  rcases VW b w.heap.size with q | q
  · exact q
  · rw [RQ q] at hy;cases hy
structure fz (A:AH) (w:World) (A':AH) (w':World):Prop where
  os:w'.os=w.os
  tape:w'.tape=w.tape
  output:w'.output=w.output/\w.drawn<=w'.drawn
  size:w.heap.size<=w'.heap.size
  kept:∀ b,b < w.heap.size->A.rw b=false->w'.heap[b]? = w.heap[b]?
  rw:∀ b,A'.rw b=true->A.rw b=true\/w.heap.size<=b
theorem fz.refl (A:AH) (w:World):fz A w A w:=⟨rfl,rfl,⟨rfl,XX _⟩,XX _,fun _ _ _=>rfl,fun _ h=>.inl h⟩
theorem fz.trans {A B C:AH} {a b c:World} (h:fz A a B b) (k:fz B b C c):fz A a C c:={
  os:=k.os.trans h.os
  tape:=k.tape.trans h.tape
  output:=⟨k.output.1.trans h.output.1,Xj h.output.2 k.output.2⟩
  size:=Xj h.size k.size
  kept:=fun i hi hr=>by
    have hb:B.rw i=false:=by
      cases e:B.rw i with
      | false=>rfl
      | true => rcases h.rw i e with q | q
                · rw [hr] at q;cases q
                · omega
    rw [k.kept i (SX hi h.size) hb,h.kept i hi hr]
  rw:=fun i hi=>by
    rcases k.rw i hi with q | q
    · exact h.rw i q
    · exact .inr (Xj h.size q) }
abbrev ii:=List (Nat × Value)
def cA:ii->Nat->Option Value
  | [],_=>none
  | (t,v) :: e,k=>match Nat.beq k t with
    | true=>some v
    | false=>cA e k
theorem uR (t:Nat) (v:Value) (e:ii) (k:Nat):cA ((t,v) :: e) k=if k=t then some v else cA e k:=by
  simp only [cA]
  cases h:Nat.beq k t
  · rw [Xy (fun q=>by rw [q] at h;simp at h)]
  · rw [Xw (Nat.eq_of_beq_eq_true h)]
structure Fr where
  e:ii
  ds:List Deferred
def gw (e:ii) (d:Option Nat) (v:Value):ii:=match d with | some t=>(t,v) :: e | none=>e
structure de (nt:Nat) (f:Fr) (a:Act):Prop where
  size:a.tmps.size=nt
  slot:∀ t v,cA f.e t=some v->a.tmps.getD t undef=v/\t < nt
  ds:a.defers=f.ds
theorem de.put {nt:Nat} {f:Fr} {a:Act} (h:de nt f a) (d:Option Nat) (v:Value) (hd:∀ t,d=some t->t < nt) :
    de nt ⟨gw f.e d v,f.ds⟩ (a.put d v):=by
  cases d with
  | none=>exact h
  | some t =>
    have ht:=hd t Z
    have hs:=h.size
    refine ⟨by simp [Act.put,hs],fun k u g=>?_,by simp [Act.put,h.ds]⟩
    simp only [gw,uR] at g
    split at g
    · rename_i e;subst e
      simp only [Option.some.injEq] at g;subst g
      exact ⟨by simp [Act.put,hs,ht],ht⟩
    · rename_i e
      obtain ⟨g1,g2⟩:=h.slot k u g
      exact ⟨by simp only [Act.put];rw [<- g1];simp [Tw (Ne.symm e)],g2⟩
def am (e e':ii):Prop:=∀ t v,cA e t=some v->cA e' t=some v
theorem am.nil (e':ii):am [] e':=fun _ _ h=>by cases h
theorem am.cons {e e':ii} {t:Nat} {v:Value} (h:cA e' t=some v) (k:am e e'):am ((t,v) :: e) e':=fun j u g=>by
  simp only [uR] at g
  split at g
  · rename_i q;subst q;rw [h];exact g
  · exact k j u g
theorem de.le {nt:Nat} {e e':ii} {ds:List Deferred} {a:Act} (h:de nt ⟨e',ds⟩ a) (k:am e e'):de nt ⟨e,ds⟩ a :=
  ⟨h.size,fun t v g=>h.slot t v (k t v g),h.ds⟩
def cd (e:ii):Operand->Option Value
  | .tmp t=>cA e t
  | .const v=>some v
  | .global g=>some (.pointer (some ⟨g,0,none⟩))
  | .func f=>some (.func (.func f) #[] #[])
theorem cI {nt:Nat} {f:Fr} {a:Act} (h:de nt f a) {x:Operand} {v:Value} (g:cd f.e x=some v):a.eval x=v:=by
  cases x with
  | tmp t=>exact (h.slot t v g).1
  | const v=>simpa [cd,Act.eval] using g
  | global g'=>simpa [cd,Act.eval] using g
  | func f'=>simpa [cd,Act.eval] using g
def mL (nt:Nat) (Q:Exit->Fr->AH->Prop) (A:AH) (w:World):Exit->Act->World->Prop :=
  fun x a' w'=>∃ f' A',de nt f' a'/\cw A' w'/\fz A w A' w'/\Q x f' A'/\(∀ ch,x=.panic ch->True)
def d9 (nt:Nat) (Q:Exit->Fr->AH->Prop) (A:AH) (w:World):Exit->Act->World->Prop :=
  fun x a' w'=>∃ f' A',de nt f' a'/\cw A' w'/\fz A w A' w'/\Q x f' A'/\(∀ ch,x=.panic ch->f'.e=[])
theorem d9.q {nt:Nat} {Q:Exit->Fr->AH->Prop} {A:AH} {w:World} {x:Exit} {a':Act} {w':World} (h:d9 nt Q A w x a' w'):mL nt Q A w x a' w' :=
  let ⟨f',A',h1,h2,h3,h4,_⟩:=h;⟨f',A',h1,h2,h3,h4,fun _ _=>trivial⟩
theorem mL.step {nt:Nat} {Q:Exit->Fr->AH->Prop} {A B:AH} {w w₁:World} (s:fz A w B w₁) {x:Exit} {a':Act} {w':World} (h:mL nt Q B w₁ x a' w'):mL nt Q A w x a' w' :=
  let ⟨f',A',h1,h2,h3,h4,h5⟩:=h;⟨f',A',h1,h2,s.trans h3,h4,h5⟩
def ak (P:Program) (nt:Nat) (c:Code) (Q:Exit->Fr->AH->Prop) (f:Fr) (A:AH):Prop :=
  ∀ a w,de nt f a->cw A w->c.wp P (mL nt Q A w) a w
def gx (P:Program) (g:FuncId):Prop:=∀ args w,(callFunc g args).run P w=.ok (.enter g args) w
def im (P:Program) (g:FuncId) (args:Array Value) (A:AH) (Q:Ending->AH->Prop):Prop :=
  gx P g/\∀ w,cw A w->Calls P g args w fun e w'=>∃ A',cw A' w'/\fz A w A' w'/\Q e A'
theorem im.mono {P:Program} {g:FuncId} {args:Array Value} {A:AH} {Q Q':Ending->AH->Prop} (h:im P g args A Q)
    (k:∀ e A',Q e A'->Q' e A'):im P g args A Q' :=
  ⟨h.1,fun w hw=>(h.2 w hw).mono fun e _ ⟨A',v,s,q⟩=>⟨A',v,s,k e A' q⟩⟩
section
variable {P:Program} {nt:Nat} {Q:Exit->Fr->AH->Prop} {f:Fr} {A:AH}
theorem mL.self {x:Exit} {a:Act} {w:World} (ha:de nt f a) (hw:cw A w) (h:Q x f A) (hx:∀ ch,x ≠ .panic ch):mL nt Q A w x a w :=
  ⟨f,A,ha,hw,.refl _ _,h,fun ch e=>absurd e (hx ch)⟩
theorem ak.mono {c:Code} {Q':Exit->Fr->AH->Prop} (h:ak P nt c Q f A) (k:∀ x f A,Q x f A->Q' x f A):ak P nt c Q' f A :=
  fun a w ha hw=>wp_mono (h a w ha hw) fun _ _ _ ⟨f',A',h1,h2,h3,h4,h5⟩=>⟨f',A',h1,h2,h3,k _ _ _ h4,h5⟩
theorem ak.wf {c:Code} (h:A.wf->ak P nt c Q f A):ak P nt c Q f A:=fun a w ha hw=>h hw.wf a w ha hw
theorem ak.forget {c:Code} {e':ii} {e:ii} {ds:List Deferred} (k:am e e') (h:ak P nt c Q ⟨e,ds⟩ A):ak P nt c Q ⟨e',ds⟩ A :=
  fun a w ha hw=>h a w (ha.le k) hw
theorem ak.skip (h:Q .normal f A):ak P nt .skip Q f A:=fun _ _ ha hw=>wp_skip (.self ha hw h fun _ q=>by cases q)
theorem ak.exit {i:Nat} (h:Q (.exit i) f A):ak P nt (.exit i) Q f A:=fun _ _ ha hw=>wp_exit (.self ha hw h fun _ q=>by cases q)
theorem ak.ret (h:Q .ret f A):ak P nt .ret Q f A:=fun _ _ ha hw=>wp_ret (.self ha hw h fun _ q=>by cases q)
def re (K:Fr->AH->Prop) (Q:Exit->Fr->AH->Prop):Exit->Fr->AH->Prop
  | .normal,f,A=>K f A
  | x,f,A=>Q x f A
theorem ak.seq {x y:Code} (h:∀ K:Fr->AH->Prop,(∀ f A,ak P nt y Q f A->K f A)->ak P nt x (re K Q) f A):ak P nt (x.seq y) Q f A:=by
  intro a w ha hw
  refine wp_seq (wp_mono (h _ (fun _ _ h=>h) a w ha hw) ?_)
  rintro e a' w' ⟨f',A',h1,h2,h3,h4,h5⟩
  cases e with
  | normal=>exact wp_mono (h4 a' w' h1 h2) fun x a'' w'' g=>g.step h3
  | _=>exact ⟨f',A',h1,h2,h3,h4,h5⟩
theorem ak.sq {x y:Code} (h:∀ {K:Fr->AH->Prop},(∀ {f A},ak P nt y Q f A->K f A)->ak P nt x (re K Q) f A):ak P nt (x.seq y) Q f A:=ak.seq fun _ k=>h fun {f A} z=>k f A z
theorem ak.cond {c:Operand} {x y:Code} {t:Bool} (hc:cd f.e c=some (.bool t)) (h1:t=true->ak P nt x Q f A) (h2:t=false->ak P nt y Q f A) :
    ak P nt (.cond c x y) Q f A:=fun a w ha hw =>
  wp_cond_split (cI ha hc) (fun e=>h1 e a w ha hw) (fun e=>h2 e a w ha hw)
theorem ak.cond_true {c:Operand} {x y:Code} (hc:cd f.e c=some (.bool true)) (h1:ak P nt x Q f A):ak P nt (.cond c x y) Q f A :=
  ak.cond hc (fun _=>h1) (fun e=>by cases e)
theorem ak.cond_false {c:Operand} {x y:Code} (hc:cd f.e c=some (.bool false)) (h1:ak P nt y Q f A):ak P nt (.cond c x y) Q f A :=
  ak.cond hc (fun e=>by cases e) (fun _=>h1)
def nI (i:Nat) (Q:Exit->Fr->AH->Prop):Exit->Fr->AH->Prop
  | .exit j,f,A=>if j=i then Q .normal f A else Q (.exit j) f A
  | x,f,A=>Q x f A
theorem ak.block {i:Nat} {c:Code} (h:ak P nt c (nI i Q) f A):ak P nt (.block i c) Q f A:=fun a w ha hw=>by
  refine wp_block (wp_mono (h a w ha hw) ?_)
  rintro e a' w' ⟨f',A',h1,h2,h3,h4,h5⟩
  cases e with
  | exit j =>
    simp only [Exit.inBlock,nI] at h4 ⊢
    split
    · rename_i q;rw [Xw q] at h4;exact ⟨f',A',h1,h2,h3,h4,fun _ q=>by cases q⟩
    · rename_i q;rw [Xy q] at h4;exact ⟨f',A',h1,h2,h3,h4,h5⟩
  | _=>exact ⟨f',A',h1,h2,h3,h4,h5⟩
def BH (Q:Exit->Fr->AH->Prop):Exit->Fr->AH->Prop
  | .goto _,_,_=>False
  | x,f,A=>Q x f A
theorem ak.loop {c:Code} {X:Type} (E:X->ii) (I:X->AH->Prop) (μ:X->Nat) (x₀:X) {e:ii} {ds:List Deferred} (hE:am (E x₀) e) (h₀:I x₀ A)
    (round:∀ x B,I x B->ak P nt c (re (fun f B'=>∃ y,am (E y) f.e/\f.ds=ds/\I y B'/\μ y < μ x) Q) ⟨E x,ds⟩ B) :
    ak P nt (.loop c) Q ⟨e,ds⟩ A:=by
  intro a w ha hw b k cs
  have run:∀ m a w₁,(∃ x B,μ x=m/\I x B/\de nt ⟨E x,ds⟩ a/\cw B w₁/\fz A w B w₁) ->
      ∃ e a' w',mL nt Q A w e a' w'/\Arrives P (lone (b.at a (.code c :: .inLoop c :: k)) cs w₁) b k cs e a' w':=by
    intro m
    induction m using Nat.strongRecOn with
    | _ m ih =>
      rintro a w₁ ⟨x,B,hm,hI,ha₁,hw₁,hs₁⟩
      obtain ⟨e,a₂,w₂,⟨f',A',h1,h2,h3,h4,h5⟩,harr⟩:=round x B hI a w₁ ha₁ hw₁ b (.inLoop c :: k) cs
      cases e with
      | normal =>
        obtain ⟨y,g1,g2,g3,g4⟩:=h4
        obtain ⟨fe,fds⟩:=f'
        simp only at g1 g2
        subst g2
        obtain ⟨e₂,a₃,w₃,hq,harr₂⟩:=ih (μ y) (hm ▸ g4) a₂ w₂ ⟨y,A',rfl,g3,h1.le g1,h2,hs₁.trans h3⟩
        exact ⟨e₂,a₃,w₃,hq,.of_steps (Steps.trans harr (.one step_inLoop)) harr₂⟩
      | exit id=>exact ⟨_,a₂,w₂,⟨f',A',h1,h2,hs₁.trans h3,h4,h5⟩,.pass (x:=.inLoop c) Z (fun _ _=>.inl (by simp)) harr⟩
      | goto l=>exact ⟨_,a₂,w₂,⟨f',A',h1,h2,hs₁.trans h3,h4,h5⟩,.pass (x:=.inLoop c) Z (fun _ _=>.inl (by simp)) harr⟩
      | ret=>exact ⟨_,a₂,w₂,⟨f',A',h1,h2,hs₁.trans h3,h4,h5⟩,.pass (x:=.inLoop c) Z (fun _ _=>.inl (by simp)) harr⟩
      | panic ch=>exact ⟨_,a₂,w₂,⟨f',A',h1,h2,hs₁.trans h3,h4,h5⟩,.pass (x:=.inLoop c) Z (fun _ _=>.inl (by simp)) harr⟩
      | outgrown=>exact ⟨_,a₂,w₂,⟨f',A',h1,h2,hs₁.trans h3,h4,h5⟩,.pass (x:=.inLoop c) Z (fun _ _=>.inl (by simp)) harr⟩
  obtain ⟨e,a',w',hq,harr⟩:=run _ a w ⟨x₀,A,rfl,h₀,ha.le hE,hw,.refl _ _⟩
  exact ⟨e,a',w',hq,.of_steps (.one step_loop) harr⟩
end
end V
namespace V
def UM (op:BinOp) (k:IntKind) (x y:Int):Option Value :=
  let a:=BitVec.ofInt k.bits x
  let b:=BitVec.ofInt k.bits y
  match op with
  | .and=>some (.int k (k.wrap (a &&& b).toNat))
  | .or=>some (.int k (k.wrap (a ||| b).toNat))
  | .xor=>some (.int k (k.wrap (a ^^^ b).toNat))
  | .andNot=>some (.int k (k.wrap (a &&& ~~~b).toNat))
  | _=>none
def qf (op:BinOp) (k:IntKind) (a b:Int):Option Value :=
  match op with
  | .add=>some (.int k (k.wrap (a + b)))
  | .sub=>some (.int k (k.wrap (a - b)))
  | .mul=>some (.int k (k.wrap (a * b)))
  | .quo=>if b=0 then none else some (.int k (k.wrap (a.tdiv b)))
  | .rem=>if b=0 then none else some (.int k (a.tmod b))
  | .eql=>some (.bool (decide (a=b)))
  | .neq=>some (.bool (!decide (a=b)))
  | .lss=>some (.bool (decide (a < b)))
  | .leq=>some (.bool (decide (a<=b)))
  | .gtr=>some (.bool (decide (b < a)))
  | .geq=>some (.bool (decide (b<=a)))
  | .and | .or | .xor | .andNot=>UM op k a b
  | _=>none
def I0 (op:BinOp) (k:IntKind) (a b:Int):Option Value :=
  if b < 0 then none else
  match op with
  | .shl=>some (.int k (k.wrap (a * 2 ^ (min b.toNat k.bits))))
  | .shr=>some (.int k (a.fdiv (2 ^ (min b.toNat k.bits))))
  | _=>none
def NH (op:BinOp) (a b:ByteArray):Option Value :=
  match op with
  | .add=>if a.size + b.size < 2 ^ 63 then some (.string (a ++ b)) else none
  | .eql=>some (.bool (decide (a=b)))
  | .neq=>some (.bool (!decide (a=b)))
  | .lss=>some (.bool (Op.bytesLess a.data.toList b.data.toList))
  | .leq=>some (.bool (Op.bytesLess a.data.toList b.data.toList || decide (a=b)))
  | .gtr=>some (.bool (!(Op.bytesLess a.data.toList b.data.toList || decide (a=b))))
  | .geq=>some (.bool (!Op.bytesLess a.data.toList b.data.toList))
  | _=>none
def dM (P:Program) (t:TypeId):Option Bool :=
  (P.underlying t).map fun | .struct _ | .array _ _=>true | _=>false
def dy (P:Program) (t:TypeId):Option Nat:=(P.info? t).map (·.size)
def cE (P:Program) (t:TypeId):Option Value:=(P.info? t).bind (·.zero)
def qJ (P:Program) (t:TypeId) (cs:Array Value) (off:Nat):Option Value :=
  match dM P t with
  | some true=>(dy P t).map fun n=>.agg (cs.extract off (off + n))
  | some false=>cs[off]?
  | none=>none
def eqB (P:Program) (t:TypeId) (x y:Value):Option Bool :=
  match P.underlying t,x,y with
  | some (.int _),.int k a,.int k' b=>if k=k' then some (decide (a=b)) else none
  | some .string,.string a,.string b=>some (decide (a=b))
  | some .bool,.bool a,.bool b=>some (a == b)
  | _,_,_=>none
def PB (P:Program):List Field->Array Value->Array Value->Option Bool
  | [],_,_=>some true
  | f :: fs,xs,ys=>if f.name = "_" then none else
    match qJ P f.type xs f.offset,qJ P f.type ys f.offset with
    | some x,some y =>
      match eqB P f.type x y with
      | some true=>PB P fs xs ys
      | some false=>some false
      | none=>none
    | _,_=>none
def CN (P:Program) (t:TypeId) (x y:Value):Option Bool :=
  match P.underlying t,x,y with
  | some .bool,.bool a,.bool b=>some (a == b)
  | some (.pointer _),.pointer none,.pointer b=>some b.isNone
  | some (.pointer _),.pointer (some _),.pointer none=>some false
  | some (.slice _),.slice none _ _,.slice b _ _=>some b.isNone
  | some (.slice _),.slice (some _) _ _,.slice none _ _=>some false
  | some (.map _ _),.map none,.map b=>some b.isNone
  | some (.map _ _),.map (some _),.map none=>some false
  | some (.func _ _ _),.nilFunc,.nilFunc=>some true
  | some (.func _ _ _),.nilFunc,.func _ _ _=>some false
  | some (.func _ _ _),.func _ _ _,.nilFunc=>some false
  | some (.struct fs),.agg xs,.agg ys=>if P.stoodInHeld t=true\/P.eqGuardType P.depth t=true then none else PB P fs.toList xs ys
  | _,_,_=>none
def mP (P:Program) (op:BinOp) (t:TypeId) (x y:Value):Option Value :=
  match x,y with
  | .int k a,.int k' b =>
    match op with
    | .shl | .shr=>I0 op k a b
    | _=>if k=k' then qf op k a b else none
  | .string a,.string b=>NH op a b
  | x,y =>
    match op with
    | .eql=>(CN P t x y).map Value.bool
    | .neq=>(CN P t x y).map fun b=>Value.bool (!b)
    | _=>none
def unV (op:UnOp) (x:Value):Option Value :=
  match op,x with
  | .not,.bool b=>some (.bool !b)
  | .neg,.int k n=>some (.int k (k.wrap (0 - n)))
  | _,_=>none
def Dc (P:Program) (src dst:TypeId) (x:Value):Option Value :=
  match P.underlying src,P.underlying dst,x with
  | some (.int _),some (.int k),.int _ n=>some (.int k (k.wrap n))
  | some .string,some .string,.string s=>some (.string s)
  | _,_,_=>none
def eo (P:Program) (s:TypeId) (i:Nat):Option (TypeId × Nat) :=
  match P.underlying s with
  | some (.struct fs)=>(fs[i]?).map fun f=>(f.type,f.offset)
  | _=>none
def pk (P:Program) (s:TypeId) (x:Value) (i:Nat):Option Value :=
  match x,eo P s i with
  | .pointer (some a),some (t,off)=>(dy P t).bind fun n=>if n=0 then none else some (.pointer (some (a.add off)))
  | _,_=>none
def GR (P:Program) (s:TypeId) (x:Value) (i:Nat):Option Value :=
  match x,eo P s i with
  | .agg cs,some (t,off)=>qJ P t cs off
  | _,_=>none
def mU (P:Program) (t:TypeId) (x i:Value):Option Value :=
  match P.underlying t,x,i with
  | some (.slice e),.slice (some a) len _,.int _ i=>(dy P e).bind fun n=>if 0<=i/\i < len then some (.pointer (some (a.add (i.toNat * n)))) else none
  | some (.array len e),.pointer (some a),.int _ i=>(dy P e).bind fun n=>if 0<=i/\i < len then some (.pointer (some (a.add (i.toNat * n)))) else none
  | _,_,_=>none
def w9 (P:Program) (t:TypeId) (x i:Value):Option Value :=
  match P.underlying t,x,i with
  | some .string,.string s,.int _ i=>if 0<=i/\i < s.size then (s.data[i.toNat]?).map fun b=>.int .u8 b.toNat else none
  | some (.array len e),.agg cs,.int _ i=>(dy P e).bind fun n=>if 0<=i/\i < len then qJ P e cs (i.toNat * n) else none
  | _,_,_=>none
def tg (x:Value) (i:Nat):Option Value :=
  match x with
  | .tuple vs=>vs[i]?
  | _=>none
def gi (x:Option (Option Value)) (d:Nat):Option Int :=
  match x with
  | none=>some d
  | some (some (.int _ i))=>some i
  | _=>none
def vi (P:Program) (t:TypeId) (x:Value) (lo hi:Option (Option Value)):Option Value :=
  match P.underlying t,x with
  | some .string,.string s =>
    (gi hi s.size).bind fun h=>(gi lo 0).bind fun l =>
      if 0<=l/\l<=h/\h<=s.size then some (.string (s.extract l.toNat h.toNat)) else none
  | some (.slice e),.slice a len cap =>
    (dy P e).bind fun n=>(gi hi len).bind fun h=>(gi lo 0).bind fun l =>
      if 0<=l/\l<=h/\h<=cap/\len<=cap then some (.slice (if cap=l.toNat then a else a.map (·.add (l.toNat * n))) (h.toNat - l.toNat) (cap - l.toNat)) else none
  | _,_=>none
def jV (ev:Operand->Option Value):List Operand->Option (List Value)
  | []=>some []
  | x :: xs=>match ev x,jV ev xs with
    | some v,some vs=>some (v :: vs)
    | _,_=>none
def cq (P:Program) (ev:Operand->Option Value):Op->Option Value
  | .move x | .assign x=>ev x
  | .pick c a b=>match ev c with
    | some (.bool true)=>ev a
    | some (.bool false)=>ev b
    | _=>none
  | .nilCheck x=>match ev x with
    | some (.pointer (some a))=>some (.pointer (some a))
    | some (.func (.func f) u c)=>some (.func (.func f) u c)
    | _=>none
  | .binOp op t x y _=>match ev x,ev y with
    | some a,some b=>mP P op t a b
    | _,_=>none
  | .unOp op _ x=>(ev x).bind (unV op)
  | .convert s d x=>(ev x).bind (Dc P s d)
  | .makeFunc fn first captured=>match jV ev first.toList,jV ev captured.toList with
    | some u,some c=>some (.func fn u.toArray c.toArray)
    | _,_=>none
  | .fieldAddr s x i=>(ev x).bind fun v=>pk P s v i
  | .field s x i=>(ev x).bind fun v=>GR P s v i
  | .indexAddr t x i=>match ev x,ev i with
    | some a,some b=>mU P t a b
    | _,_=>none
  | .index t x i=>match ev x,ev i with
    | some a,some b=>w9 P t a b
    | _,_=>none
  | .extract x i=>(ev x).bind fun v=>tg v i
  | .slice t x lo hi none=>(ev x).bind fun v=>vi P t v (lo.map ev) (hi.map ev)
  | _=>none
section
variable {P:Program} {w:World}
theorem mH {t:TypeId} {b:Bool} (h:dM P t=some b):(isAgg t).run P w=.ok b w:=by
  unfold dM at h
  cases hu:P.underlying t with
  | none=>rw [hu] at h;cases h
  | some d=>rw [hu] at h;cases d <;> simp_all [isAgg,underlying]
theorem ep {t:TypeId} {n:Nat} (h:dy P t=some n):(sizeOf t).run P w=.ok n w:=by
  unfold dy at h
  cases hu:P.info? t with
  | none=>rw [hu] at h;cases h
  | some d=>rw [hu] at h;simp_all [sizeOf,typeInfo]
theorem iK {t:TypeId} {v:Value} (h:cE P t=some v):(zeroValue t).run P w=.ok v w:=by
  unfold cE at h
  cases hu:P.info? t with
  | none=>rw [hu] at h;cases h
  | some d =>
    rw [hu] at h
    simp only [Sy] at h
    simp [zeroValue,typeInfo,hu,h]
theorem cg {t:TypeId} {d:TypeDesc} (h:P.underlying t=some d):(underlying t).run P w=.ok d w:=by simp [underlying,h]
theorem oO {t:TypeId} {cs:Array Value} {off:Nat} {v:Value} (h:qJ P t cs off=some v):(part t cs off).run P w=.ok v w:=by
  unfold qJ at h
  cases ha:dM P t with
  | none=>rw [ha] at h;cases h
  | some b =>
    rw [ha] at h
    cases b with
    | true =>
      cases hs:dy P t with
      | none=>simp [hs] at h
      | some n=>simp [hs] at h;simp [part,mH ha,ep hs,h]
    | false=>simp only at h;simp [part,mH ha,h]
theorem XP (a b:ByteArray):(a.toList == b.toList)=decide (a=b):=by
  rw [ByteArray.toList_eq,ByteArray.toList_eq]
  by_cases q:a=b
  · subst q;simp
  · have:a.data.toList ≠ b.data.toList:=fun e=>q (by cases a;cases b;simp at e;simp [e])
    rw [Xv q]
    exact beq_eq_false_iff_ne.2 this
theorem WK {op:BinOp} {a b:ByteArray} {v:Value} (h:NH op a b=some v):(Op.stringOp op a b).run P w=.ok v w:=by
  have e:=XP a b
  cases op <;> simp only [NH] at h <;> (try (cases h;done))
  case add =>
    split at h
    · cases h
      have hm:¬ (((a.size + b.size:Nat):Int) > IntKind.i64.max):=by
        have:IntKind.i64.max=9223372036854775807:=by decide
        omega
      simp only [Op.stringOp]
      rw [Xy hm]
      rfl
    · cases h
  all_goals (cases h;simp only [Op.stringOp,e];simp [ByteArray.toList_eq])
theorem WJ {op:BinOp} {k:IntKind} {a b:Int} {t:TypeId} {v:Value} (hs:op ≠ .shl) (hr:op ≠ .shr) (h:qf op k a b=some v) :
    (binOp op t (.int k a) (.int k b)).run P w=.ok v w:=by
  cases op <;> simp only [qf] at h <;> (try (cases h;done)) <;> (try exact absurd Z hs) <;> (try exact absurd Z hr)
  case quo=>split at h <;> cases h;simp [binOp,Op.intDiv, *]
  case rem=>split at h <;> cases h;simp [binOp,Op.intDiv, *]
  case and=>cases h;simp [binOp,Op.intBits]
  case or=>cases h;simp [binOp,Op.intBits]
  case xor=>cases h;simp [binOp,Op.intBits]
  case andNot=>cases h;simp [binOp,Op.intBits]
  all_goals (cases h;simp [binOp,Op.intArith,Op.intCmp])
  all_goals rfl
theorem zK {op:BinOp} {k k':IntKind} {a b:Int} {t:TypeId} {v:Value} (h:I0 op k a b=some v) :
    (binOp op t (.int k a) (.int k' b)).run P w=.ok v w:=by
  unfold I0 at h
  split at h
  · cases h
  · cases op <;> simp only at h <;> cases h <;> simp [binOp,Op.shift, *]
theorem J7 {t:TypeId} {x y:Value} {b:Bool} {d:Nat} (h:eqB P t x y=some b):(Op.equalIn (d + 1) t x y).run P w=.ok b w:=by
  unfold eqB at h
  split at h
  · rename_i hu
    split at h
    · rename_i hk;cases h;simp only [Op.equalIn,Sem.run_bind,cg hu,Result.andThen_ok,hk,if_true];rfl
    · cases h
  · rename_i a b hu;cases h;simp only [Op.equalIn,Sem.run_bind,cg hu,Result.andThen_ok,show (a == b)=decide (a=b) from by
      have e:(a == b)=(a.data == b.data):=rfl
      rw [e,Rz,Qy,Sk]
      exact ⟨fun h=>by cases a;cases b;simp only at h;rw [h],fun h=>h ▸ rfl⟩];rfl
  · rename_i hu;cases h;simp only [Op.equalIn,Sem.run_bind,cg hu,Result.andThen_ok];rfl
  · cases h
theorem Se {d:Nat} {xs ys:Array Value} (k:Option Bool × Unit->Sem Bool) (k0:(k (none,())).run P w=.ok true w) (k1:(k (some false,())).run P w=.ok false w):∀ (fs:List Field) (b:Bool),PB P fs xs ys=some b ->
    ((forIn (m := Sem) fs ((none, ()) : Option Bool × Unit) fun f r =>
          if f.name ≠ "_" then do
            let x <- part f.type xs f.offset
            let y <- part f.type ys f.offset
            let q <- Op.equalIn (d + 1) f.type x y
            if !q then pure (ForInStep.done (some false,())) else pure (ForInStep.yield (none,()))
          else pure (ForInStep.yield (none,()))) >>= k).run P w=.ok b w:=by
  intro fs
  induction fs with
  | nil=>intro b h;cases h;simpa using k0
  | cons f fs ih =>
    intro b h
    unfold PB at h
    split at h
    · cases h
    · rename_i hn
      split at h
      · rename_i x y hx hy
        rw [List.forIn_cons]
        simp only [ne_eq,hn,not_false_eq_true,if_true,Sem.run_bind,oO hx,oO hy,Result.andThen_ok]
        split at h
        · rename_i he
          have:=ih b h
          simp only [Sem.run_bind] at this
          simpa [J7 (d:=d) he] using this
        · rename_i he
          cases h
          simpa [J7 (d:=d) he] using k1
        · cases h
      · cases h
theorem J8 {t:TypeId} {x y:Value} {b:Bool} (h:CN P t x y=some b):(Op.equal t x y).run P w=.ok b w:=by
  have e:Op.equal t x y=Op.equalIn (9999 + 1) t x y:=rfl
  rw [e]
  obtain ⟨d,hd⟩:∃ d,9999=d + 1:=⟨9998,rfl⟩
  generalize 9999=n at hd
  unfold CN at h
  split at h
  case h_11 fs xs ys hu =>
    split at h
    · cases h
    · rename_i hg
      have h1:P.stoodInHeld t=false:=by
        cases q:P.stoodInHeld t with
        | true=>exact absurd (.inl q) hg
        | false=>rfl
      subst hd
      rw [Op.equalIn]
      simp only [Sem.run_bind,cg hu,Result.andThen_ok]
      rw [show Sem.run P program w=.ok P w from rfl]
      simp only [Result.andThen_ok,h1]
      rw [Xy (by simp),<- Array.forIn_toList]
      exact Se _ Z Z fs.toList b h
  all_goals first | (cases h;done) | (rename_i hu;cases h;simp only [Op.equalIn,Sem.run_bind,cg hu,Result.andThen_ok];rfl)
theorem WH {op:BinOp} {t:TypeId} {x y:Value} {ox oy:Operand} {v:Value} (h:mP P op t x y=some v) :
    (do eqGuard op t ox oy x y;binOp op t x y:Sem Value).run P w=.ok v w:=by
  unfold mP at h
  split at h
  · rename_i k a k' b
    have hg:(eqGuard op t ox oy (.int k a) (.int k' b)).run P w=.ok () w:=by cases op <;> simp [eqGuard]
    simp only [Sem.run_bind,hg,Result.andThen_ok]
    split at h
    · exact zK h
    · exact zK h
    · split at h
      · rename_i h1 h2 hk;subst hk;exact WJ h1 h2 h
      · cases h
  · rename_i a b
    have hg:(eqGuard op t ox oy (.string a) (.string b)).run P w=.ok () w:=by cases op <;> simp [eqGuard]
    simp only [Sem.run_bind,hg,Result.andThen_ok]
    have:binOp op t (.string a) (.string b)=Op.stringOp op a b:=by cases op <;> rfl
    rw [this];exact WK h
  · rename_i hx hy
    have hg:∀ b,CN P t x y=some b->(eqGuard op t ox oy x y).run P w=.ok () w:=fun b hb=>by
      unfold CN at hb
      split at hb
      case h_11 =>
        split at hb
        · cases hb
        · rename_i hq
          have h2:P.eqGuardType P.depth t=false:=by
            cases q:P.eqGuardType P.depth t with
            | true=>exact absurd (.inr q) hq
            | false=>rfl
          cases op <;> simp [eqGuard,h2]
      all_goals first | (cases hb;done) | (cases op <;> simp [eqGuard])
    have hbe:∀ b,CN P t x y=some b->binOp .eql t x y=(do pure (.bool (<- Op.equal t x y)))/\binOp .neq t x y=(do pure (.bool (!(<- Op.equal t x y)))):=fun b hb=>by
      unfold CN at hb
      split at hb <;> first | (cases hb;done) | exact ⟨Z,Z⟩
    cases op <;> simp only at h <;> (try (cases h;done))
    · cases he:CN P t x y with
      | none=>rw [he] at h;cases h
      | some b=>rw [he] at h;cases h;simp [hg b he,(hbe b he).1,J8 he]
    · cases he:CN P t x y with
      | none=>rw [he] at h;cases h
      | some b=>rw [he] at h;cases h;simp [hg b he,(hbe b he).2,J8 he]
end
end V
namespace V
section
variable {P:Program} {w:World}
theorem yF {s:TypeId} {x v:Value} {i:Nat} (h:pk P s x i=some v):(Instr.fieldAt s x i).run P w=.ok v w:=by
  unfold pk at h
  split at h
  · rename_i a t off hf
    unfold eo at hf
    cases hu:P.underlying s with
    | none=>simp [hu] at hf
    | some d =>
      rw [hu] at hf
      cases d <;> simp only at hf <;> (try (cases hf;done))
      rename_i fs
      cases hg:fs[i]? with
      | none=>simp [hg] at hf
      | some fd =>
        simp only [hg,Rw,Option.some.injEq,Prod.mk.injEq] at hf
        obtain ⟨rfl,rfl⟩:=hf
        cases hs:dy P fd.type with
        | none=>simp [hs] at h
        | some n =>
          simp only [hs,Sy] at h
          split at h
          · cases h
          · rename_i hn
            cases h
            simp [Instr.fieldAt,cg hu,hg,Instr.sureAddr,fieldPlace,ep hs,hn]
  · cases h
theorem MN {s:TypeId} {x v:Value} {i:Nat} (h:GR P s x i=some v):(Instr.field s x i).run P w=.ok v w:=by
  unfold GR at h
  split at h
  · rename_i cs t off hf
    unfold eo at hf
    cases hu:P.underlying s with
    | none=>simp [hu] at hf
    | some d =>
      rw [hu] at hf
      cases d <;> simp only at hf <;> (try (cases hf;done))
      rename_i fs
      cases hg:fs[i]? with
      | none=>simp [hg] at hf
      | some fd =>
        simp only [hg,Rw,Option.some.injEq,Prod.mk.injEq] at hf
        obtain ⟨rfl,rfl⟩:=hf
        simp [Instr.field,cg hu,hg,asAgg,oO h]
  · cases h
theorem yG {t:TypeId} {x i v:Value} (h:mU P t x i=some v):(Instr.indexAt t x i).run P w=.ok v w:=by
  unfold mU at h
  split at h
  · rename_i e a len cap k i hu
    cases hs:dy P e with
    | none=>simp [hs] at h
    | some n =>
      simp only [hs,Sy] at h
      split at h
      · rename_i hi;cases h;simp [Instr.indexAt,asIntOf,cg hu,hi,ep hs]
      · cases h
  · rename_i len e a k i hu
    cases hs:dy P e with
    | none=>simp [hs] at h
    | some n =>
      simp only [hs,Sy] at h
      split at h
      · rename_i hi;cases h;simp [Instr.indexAt,asIntOf,cg hu,hi,ep hs,Instr.sureAddr]
      · cases h
  · cases h
theorem MO {t:TypeId} {x i v:Value} (h:w9 P t x i=some v):(Instr.index t x i).run P w=.ok v w:=by
  unfold w9 at h
  split at h
  · rename_i s k i hu
    split at h
    · rename_i hi
      cases hb:s.data[i.toNat]? with
      | none=>simp [hb] at h
      | some b =>
        rw [hb] at h;simp only [Rw,Option.some.injEq] at h;subst h
        have hb':s[i.toNat]? = some b:=by
          have hlt:i.toNat < s.data.size:=(TK.1 hb).1
          have e1:s.data[i.toNat]? = some s.data[i.toNat]:=Array.getElem?_eq_getElem hlt
          rw [e1] at hb
          have hlt':i.toNat < s.size:=hlt
          rw [getElem?_pos s i.toNat hlt']
          exact hb
        simp [Instr.index,asIntOf,cg hu,hi.1,hb']
    · cases h
  · rename_i len e cs k i hu
    cases hs:dy P e with
    | none=>simp [hs] at h
    | some n =>
      simp only [hs,Sy] at h
      split at h
      · rename_i hi;simp [Instr.index,asIntOf,cg hu,hi,ep hs,oO h]
      · cases h
  · cases h
theorem Fa {x v:Value} {i:Nat} (h:tg x i=some v):(Instr.extract x i).run P w=.ok v w:=by
  unfold tg at h
  split at h
  · simp [Instr.extract,h]
  · cases h
theorem rB {k:IntKind} {i:Int} {y:Nat} {code:BoundsCode} (h:0<=i/\i<=y):(Instr.sliceBound (.int k i) y code).run P w=.ok i.toNat w:=by
  simp [Instr.sliceBound,asIntOf,h]
theorem sK {isS:Bool} {len cap:Nat} {lo hi:Option (Option Value)} {lo' hi':Option Value} {l h:Int} (hlo:∀ v,lo=some v->∃ u,v=some u/\lo'=some u) (V:lo=none->lo'=none)
    (hhi:∀ v,hi=some v->∃ u,v=some u/\hi'=some u) (X:hi=none->hi'=none)
    (h1:gi hi len=some h) (h2:gi lo 0=some l) (g1:0<=l) (g2:l<=h) (g3:h<=cap) :
    (Instr.sliceBounds isS len cap lo' hi' none).run P w=.ok (l.toNat,h.toNat,cap) w:=by
  unfold gi at h1 h2
  unfold Instr.sliceBounds
  cases hi with
  | none =>
    rw [X Z];simp only [Option.some.injEq] at h1;subst h1
    cases lo with
    | none=>rw [V Z];simp only [Option.some.injEq] at h2;subst h2;simp
    | some v =>
      obtain ⟨u,rfl,rfl⟩:=hlo v Z
      cases u <;> simp only at h2 <;> (try (cases h2;done))
      cases h2
      have hb:0<=l/\l<=((len:Nat):Int):=⟨g1,g2⟩
      simp [rB hb]
  | some v =>
    obtain ⟨u,rfl,rfl⟩:=hhi v Z
    cases u <;> simp only at h1 <;> (try (cases h1;done))
    cases h1
    have hb:0<=h/\h<=((cap:Nat):Int):=⟨by omega,g3⟩
    cases lo with
    | none=>rw [V Z];simp only [Option.some.injEq] at h2;subst h2;simp [rB hb]
    | some v =>
      obtain ⟨u,rfl,rfl⟩:=hlo v Z
      cases u <;> simp only at h2 <;> (try (cases h2;done))
      cases h2
      have a0:0<=l/\l<=((h.toNat:Nat):Int):=⟨g1,by omega⟩
      simp [rB hb,rB a0]
theorem MP {t:TypeId} {x v:Value} {lo hi:Option (Option Value)} {lo' hi':Option Value} (hlo:∀ v,lo=some v->∀ u,v=some u->lo'=some u) (X:lo=none->lo'=none)
    (hhi:∀ v,hi=some v->∀ u,v=some u->hi'=some u) (V:hi=none->hi'=none) (h:vi P t x lo hi=some v) :
    (Instr.sliceAt t x lo' hi' none).run P w=.ok v w:=by
  have hb:∀ (q:Option (Option Value)) (q':Option Value) d i,(∀ v,q=some v->∀ u,v=some u->q'=some u)->gi q d=some i->∀ v,q=some v->∃ u,v=some u/\q'=some u:=by
    rintro q q' d i hq hbq v rfl
    cases v with
    | none=>simp [gi] at hbq
    | some u=>exact ⟨u,Z,hq _ Z _ Z⟩
  unfold vi at h
  split at h
  · rename_i s hu
    cases h1:gi hi s.size with
    | none=>simp [h1] at h
    | some hh =>
      cases h2:gi lo 0 with
      | none=>simp [h1,h2] at h
      | some l =>
        simp only [h1,h2,Sy] at h
        split at h
        · rename_i g;cases h
          simp [Instr.sliceAt,cg hu,Instr.slice,sK (hb _ _ _ _ hlo h2) X (hb _ _ _ _ hhi h1) V h1 h2 g.1 g.2.1 g.2.2]
        · cases h
  · rename_i e a len cap hu
    cases hs:dy P e with
    | none=>simp [hs] at h
    | some n =>
      cases h1:gi hi len with
      | none=>simp [hs,h1] at h
      | some hh =>
        cases h2:gi lo 0 with
        | none=>simp [hs,h1,h2] at h
        | some l =>
          simp only [hs,h1,h2,Sy] at h
          split at h
          · rename_i g;cases h
            simp [Instr.sliceAt,cg hu,Instr.slice,ep hs,sK (hb _ _ _ _ hlo h2) X (hb _ _ _ _ hhi h1) V h1 h2 g.1 g.2.1 g.2.2.1]
          · cases h
  · cases h
theorem qs {ev:Operand->Option Value} {ρ:Operand->Value} (hev:∀ x v,ev x=some v->ρ x=v) :
    ∀ (l:List Operand) (vs:List Value),jV ev l=some vs->l.map ρ=vs:=by
  intro l
  induction l with
  | nil=>intro vs h;simp [jV] at h;simp [h]
  | cons x xs ih =>
    intro vs h
    simp only [jV] at h
    split at h
    · rename_i v us h1 h2;cases h;simp [hev x v h1,ih us h2]
    · cases h
theorem run_pure {ev:Operand->Option Value} {ρ:Operand->Value} (hev:∀ x v,ev x=some v->ρ x=v) {o:Oper} {v:Value} (h:cq P ev o.op=some v) :
    (execOp ρ o).run P w=.ok (.value v) w:=by
  obtain ⟨dst,op,type,pos,after,guard⟩:=o
  simp only at h
  cases op <;> simp only [cq] at h <;> (try (cases h;done))
  case move x=>simp [execOp,hev x v h]
  case assign x=>simp [execOp,hev x v h]
  case pick c a b =>
    split at h
    · rename_i hc;simp [execOp,hev _ _ hc,asBool,hev a v h]
    · rename_i hc;simp [execOp,hev _ _ hc,asBool,hev b v h]
    · cases h
  case nilCheck x =>
    split at h
    · rename_i hc;cases h;simp [execOp,hev _ _ hc]
    · rename_i hc;cases h;simp [execOp,hev _ _ hc]
    · cases h
  case fieldAddr s x i =>
    cases hx:ev x with
    | none=>simp [hx] at h
    | some u=>rw [hx] at h;simp [execOp,hev _ _ hx,yF (w:=w) h]
  case field s x i =>
    cases hx:ev x with
    | none=>simp [hx] at h
    | some u=>rw [hx] at h;simp [execOp,hev _ _ hx,MN (w:=w) h]
  case indexAddr t x i =>
    split at h
    · rename_i h1 h2;simp [execOp,hev _ _ h1,hev _ _ h2,yG (w:=w) h]
    · cases h
  case index t x i =>
    split at h
    · rename_i h1 h2;simp [execOp,hev _ _ h1,hev _ _ h2,MO (w:=w) h]
    · cases h
  case extract x i =>
    cases hx:ev x with
    | none=>simp [hx] at h
    | some u=>rw [hx] at h;simp [execOp,hev _ _ hx,Fa (w:=w) h]
  case unOp op t x =>
    cases hx:ev x with
    | none=>simp [hx] at h
    | some u =>
      rw [hx] at h
      simp only [Sy,unV] at h
      split at h <;> first | (cases h;done) | (cases h;simp [execOp,hev _ _ hx,Op.unary,Op.intArith])
  case convert s d x =>
    cases hx:ev x with
    | none=>simp [hx] at h
    | some u =>
      rw [hx] at h
      simp only [Sy,Dc] at h
      split at h
      · rename_i k1 k2 k3 n h1 h2;cases h;simp [execOp,hev _ _ hx,convert,cg h1,cg h2,Conv.intToInt]
      · rename_i h1 h2;cases h;simp [execOp,hev _ _ hx,convert,cg h1,cg h2]
      · cases h
  case makeFunc fn first captured =>
    split at h
    · rename_i u c h1 h2
      cases h
      have e1:first.map ρ=u.toArray:=by apply Array.ext';simp [qs hev _ _ h1]
      have e2:captured.map ρ=c.toArray:=by apply Array.ext';simp [qs hev _ _ h2]
      simp [execOp,Instr.makeFunc,e1,e2]
    · cases h
  case slice t x lo hi mx =>
    cases mx with
    | some m=>cases h
    | none =>
      simp only at h
      cases hx:ev x with
      | none=>simp [hx] at h
      | some u =>
        rw [hx] at h
        have q:∀ (y:Option Operand),(∀ v,y.map ev=some v->∀ u,v=some u->y.map ρ=some u)/\(y.map ev=none->y.map ρ=none):=fun y=>by
          cases y with
          | none=>simp
          | some z=>simp only [Rw,Option.some.injEq,reduceCtorEq,false_imp_iff,and_true];rintro v rfl u hu;exact hev _ _ hu
        have:=MP (P:=P) (w:=w) (q lo).1 (q lo).2 (q hi).1 (q hi).2 h
        simp [execOp,hev _ _ hx,this]
  case binOp op t x y yt =>
    split at h
    · rename_i h1 h2
      have:=WH (w:=w) (ox:=x) (oy:=y) h
      simp only [execOp,hev _ _ h1,hev _ _ h2,Sem.run_bind,this,Result.andThen_ok];rfl
    · cases h
end
end V
namespace V
def AH.cell (A:AH) (a:Addr):Option Value :=
  if a.spot.isSome then none else match A.get a.block with
    | some (.row _ c _)=>c[a.off]?
    | _=>none
def ku (c:List Value) (off n:Nat):Option (List Value):=if off + n<=c.length then some ((c.drop off).take n) else none
def AH.cellsAt (A:AH) (a:Addr) (n:Nat):Option (List Value) :=
  if a.spot.isSome then none else match A.get a.block with
    | some (.row _ c _)=>ku c a.off n
    | _=>none
def qj:List Value->Nat->List Value->List Value
  | c,_,[]=>c
  | c,i,v :: vs=>qj (c.set i v) (i + 1) vs
@[simp] theorem FC (c:List Value) (i:Nat) (vs:List Value):(qj c i vs).length=c.length:=by
  induction vs generalizing c i with
  | nil=>rfl
  | cons v vs ih=>simp [qj,ih]
def ld (P:Program) (A:AH) (t:TypeId) (x:Value):Option Value :=
  match x with
  | .pointer (some a) =>
    match dM P t with
    | some true=>(dy P t).bind fun n=>(A.cellsAt a n).map fun cs=>.agg cs.toArray
    | some false=>A.cell a
    | none=>none
  | _=>none
def qi (vs:List Value):Bool:=vs.all Value.oneCell'
def CA (P:Program) (A:AH) (t:TypeId) (x v:Value):Option AH :=
  match x with
  | .pointer (some a) =>
    if a.spot.isSome then none else
    match A.get a.block with
    | some (.row true c cap)=>if dy P t=some v.cells.size/\a.off + v.cells.size<=c.length/\qi v.cells.toList then some (A.set a.block (.row true (qj c a.off v.cells.toList) cap)) else none
    | _=>none
  | _=>none
section
variable {P:Program} {w:World} {A:AH}
theorem cw.row {rw:Bool} {c:List Value} {cap b:Nat} (h:cw A w) (g:A.get b=some (.row rw c cap)) :
    ∃ cs elem fr,w.heap[b]? = some (.cells cs elem fr)/\c.length<=cap/\cap<=cs.size/\(∀ i,i < c.length->cs[i]? = c[i]?)/\(rw=true->∀ i,i < cap->¬ (fr.1<=i/\i < fr.2)):=h.fits b _ g
theorem cw.cell {a:Addr} {v:Value} (h:cw A w) (g:A.cell a=some v):w.cell? a=some v:=by
  unfold AH.cell at g
  split at g
  · cases g
  · rename_i hs
    split at g
    · rename_i rw c cap hb
      obtain ⟨cs,e,fr,h1,_,h2,h3,_⟩:=h.row hb
      have hlt:a.off < c.length:=(Rx.1 g).1
      simp [World.cell?,h1,hs,h3 _ hlt,g]
    · cases g
theorem o9 (a:Addr) (i:Nat) (h:a.spot.isSome=false):a.add i=⟨a.block,a.off + i,none⟩:=by
  cases a with
  | mk b o s =>
    cases s with
    | some _=>cases h
    | none=>unfold Addr.add;split <;> simp_all
theorem tR {a:Addr} {c:List Value} {rw:Bool} {cap:Nat} (h:cw A w) (hs:a.spot.isSome=false) (g:A.get a.block=some (.row rw c cap)) :
    ∀ (n i:Nat) (acc:Array Value),a.off + i + n<=c.length->(loadCellsFrom a i n acc).run P w=.ok (acc ++ ((c.drop (a.off + i)).take n).toArray) w:=by
  intro n
  induction n with
  | zero=>intro i acc _;simp [loadCellsFrom]
  | succ n ih =>
    intro i acc hn
    have hlt:a.off + i < c.length:=by omega
    have hc:w.cell? (a.add i)=some c[a.off + i]:=h.cell (by rw [o9 a i hs];simp [AH.cell,g,SW hlt])
    simp only [loadCellsFrom,Sem.run_bind,run_load,hc,Result.andThen_ok]
    rw [ih (i + 1) _ O]
    congr 1
    rw [Tv hlt]
    simp [Nat.add_assoc]
theorem jv {a:Addr} {n:Nat} {cs:List Value} (h:cw A w) (g:A.cellsAt a n=some cs):(loadCells a n).run P w=.ok cs.toArray w:=by
  unfold AH.cellsAt at g
  split at g
  · cases g
  · rename_i hs
    split at g
    · rename_i rw c cap hb
      unfold ku at g
      split at g
      · cases g
        rw [loadCells,tR h (by simpa using hs) hb n 0 #[] O]
        simp
      · cases g
    · cases g
theorem zJ {t:TypeId} {x v:Value} (h:cw A w) (g:ld P A t x=some v):(Instr.loadAt t x).run P w=.ok v w:=by
  unfold ld at g
  split at g
  · rename_i a
    cases ha:dM P t with
    | none=>simp [ha] at g
    | some b =>
      cases b with
      | true =>
        cases hs:dy P t with
        | none=>simp [ha,hs] at g
        | some n =>
          cases hc:A.cellsAt a n with
          | none=>simp [ha,hs,hc] at g
          | some cs=>simp [ha,hs,hc] at g;subst g;simp [Instr.loadAt,Instr.sureAddr,loadVar,mH ha,ep hs,jv h hc]
      | false=>simp only [ha] at g;simp [Instr.loadAt,Instr.sureAddr,loadVar,mH ha,h.cell g]
  · cases g
theorem fz.row {b:Nat} {c c':List Value} {cap cap':Nat} {w':World} (g:A.get b=some (.row true c cap)) (os:w'.os=w.os) (tape:w'.tape=w.tape) (output:w'.output=w.output/\w.drawn<=w'.drawn) (size:w'.heap.size=w.heap.size)
    (kept:∀ k,k ≠ b->w'.heap[k]? = w.heap[k]?):fz A w (A.set b (.row true c' cap')) w':={
  os:=os
  tape:=tape
  output:=output
  size:=Nat.le_of_eq size.symm
  kept:=fun k _ hr=>kept k (by rintro rfl;simp [AH.rw,g,gv.rw] at hr)
  rw:=fun k hk=>by
    left
    simp only [AH.rw,AH.set_get] at hk ⊢
    split at hk
    · rename_i x hx
      split at hx
      · rename_i e;subst e;simp [g,gv.rw]
      · simp [hx,hk]
    · cases hk }
theorem cw.setRow {b:Nat} {o:gv} {w':World} (h:cw A w) (size:w'.heap.size=w.heap.size) (kept:∀ k,k ≠ b->w'.heap[k]? = w.heap[k]?)
    (fits:o.fits w'.heap[b]?):cw (A.set b o) w':={
  size:=by rw [size,h.size];rfl
  fits:=fun k o hk=>by
    simp only [AH.set_get] at hk
    split at hk
    · rename_i e;subst e;cases hk;exact fits
    · rename_i e;rw [kept k e];exact h.fits k o hk }
theorem tU {b:Nat} {e:TypeId} {fr:Nat × Nat}:∀ (vs:List Value) (cs:Array Value) (a:Addr) (i:Nat) (w:World),w.heap[b]? = some (.cells cs e fr)->a.block=b->a.spot.isSome=false->qi vs=true ->
    a.off + i + vs.length<=cs.size->(∀ k,a.off + i<=k->k < a.off + i + vs.length->¬ (fr.1<=k/\k < fr.2)) ->
    ∃ w' cs',(storeCells a vs i).run P w=.ok () w'/\w'.heap[b]? = some (.cells cs' e fr)/\cs'.size=cs.size/\(∀ k,cs'[k]? = if a.off + i<=k/\k < a.off + i + vs.length then vs[k - (a.off + i)]? else cs[k]?) /\
      w'.os=w.os/\w'.tape=w.tape/\(w'.output=w.output/\w.drawn<=w'.drawn)/\w'.heap.size=w.heap.size/\(∀ k,k ≠ b->w'.heap[k]? = w.heap[k]?):=by
  intro vs
  induction vs with
  | nil =>
    intro cs a i w h _ _ _ _ _
    refine ⟨w,cs,by simp [storeCells],h,rfl,fun k=>?_,rfl,rfl,⟨rfl,XX _⟩,rfl,fun _ _=>rfl⟩
    rw [Xy (by simp only [Xx];omega)]
  | cons v vs ih =>
    intro cs a i w h hb hs ho hl hf
    simp only [qi,List.all_cons,XK] at ho
    simp only [Xq] at hl hf
    have hlt:a.off + i < cs.size:=by omega
    have hadd:a.add i=⟨b,a.off + i,none⟩:=by rw [o9 a i hs,hb]
    have h1:(w.setCell ⟨b,a.off + i,none⟩ v).heap[b]? = some (.cells (cs.setIfInBounds (a.off + i) v) e fr):=by
      simp only [World.setCell];rw [Array.getElem?_modify];simp [h]
    obtain ⟨w',cs',r,g1,g2,g3,g4,g5,g6,g7,g8⟩:=ih (cs.setIfInBounds (a.off + i) v) a (i + 1) _ h1 hb hs ho.2 Or (fun k V X=>hf k O O)
    refine ⟨w',cs',?_,g1,by simpa using g2,fun k=>?_,g4,g5,g6,by rw [g7];simp [World.setCell],fun k hk=>by rw [g8 k hk];exact Below.heap_setCell _ _ _ _ hk⟩
    · have hc:w.cell? ⟨b,a.off + i,none⟩=some cs[a.off + i]:=by simp [World.cell?,h,hlt]
      have hz:w.frozen? ⟨b,a.off + i,none⟩=false:=by
        have:=hf (a.off + i) O O
        obtain ⟨f1,f2⟩:=fr
        simp only [World.frozen?,h]
        simp only at this
        simp only [Bool.and_eq_false_iff,VK]
        omega
      simp only [storeCells,Sem.run_bind,hadd]
      rw [run_store P w _ v _ ho.1]
      simp [hc,hz,r]
    · rw [g3 k]
      simp only [Xq]
      by_cases q:a.off + i=k
      · subst q
        rw [Xy O,Xw O]
        simp [hlt]
      · by_cases q2:a.off + i < k/\k < a.off + i + (vs.length + 1)
        · rw [Xw O,Xw O]
          have:k - (a.off + i)=(k - (a.off + (i + 1))) + 1:=by omega
          rw [this,List.getElem?_cons_succ]
        · rw [Xy O,Xy O,Tw q]
theorem TH (c:List Value) (i:Nat) (vs:List Value) (h:i + vs.length<=c.length) (k:Nat):(qj c i vs)[k]? = if i<=k/\k < i + vs.length then vs[k - i]? else c[k]?:=by
  induction vs generalizing c i with
  | nil=>rw [Xy (by simp only [Xx];omega)];rfl
  | cons v vs ih =>
    simp only [Xq] at h
    simp only [qj,Xq]
    rw [ih _ _ Or]
    by_cases q:i=k
    · subst q;rw [Xy O,Xw O,List.getElem?_set_self O];simp
    · by_cases q2:i < k/\k < i + (vs.length + 1)
      · rw [Xw O,Xw O]
        have:k - i=(k - (i + 1)) + 1:=by omega
        rw [this,List.getElem?_cons_succ]
      · rw [Xy O,Xy O];simp [q]
theorem IK {t:TypeId} {x v:Value} {A':AH} (h:cw A w) (g:CA P A t x v=some A') :
    ∃ w',(Instr.storeAt t x v).run P w=.ok () w'/\cw A' w'/\fz A w A' w':=by
  unfold CA at g
  split at g
  · rename_i a
    split at g
    · cases g
    · rename_i hs
      split at g
      · rename_i c cap hb
        split at g
        · rename_i q
          cases g
          obtain ⟨cs,e,fr,h1,h0,h2,h3,h4⟩:=h.row hb
          obtain ⟨q1,q2,q3⟩:=q
          have V:a.off + v.cells.toList.length<=c.length:=by simpa using q2
          obtain ⟨w',cs',r,g1,g2,g3,g4,g5,g6,g7,g8⟩:=tU (P:=P) v.cells.toList cs a 0 w h1 Z (by simpa using hs) q3 O (fun k _ hk=>h4 Z k O)
          refine ⟨w',?_,h.setRow g7 g8 ⟨cs',e,fr,g1,by simpa using h0,by omega,fun i hi=>?_,h4⟩,fz.row hb g4 g5 g6 g7 g8⟩
          · simp [Instr.storeAt,Instr.sureAddr,storeVar,ep q1,r]
          · rw [FC] at hi
            rw [g3 i,TH _ _ _ V,Nat.add_zero]
            split
            · rfl
            · exact h3 i hi
        · cases g
      · cases g
  · cases g
theorem kf {o:gv} {x:Obj} (h:cw A w) (f:o.fits (some x)) :
    cw (A.new o) { w with heap:=w.heap.push x }/\fz A w (A.new o) { w with heap:=w.heap.push x }:=by
  refine ⟨⟨by simp [h.size],fun b y hy=>?_⟩,⟨rfl,rfl,⟨rfl,XX _⟩,by simp,fun b hb _=>by simp [Array.getElem?_push,Nat.ne_of_lt hb],fun b hb=>?_⟩⟩
  · simp only [AH.new_get] at hy
    split at hy
    · rename_i e;cases hy;subst e;rw [<- h.size];simpa using f
    · have:=h.wf b y hy
      have hne:b ≠ w.heap.size:=by rw [h.size];omega
      simp only [Array.getElem?_push,hne,if_false]
      exact h.fits b y hy
  · simp only [AH.rw,AH.new_get] at hb ⊢
    split at hb
    · rename_i y hy
      split at hy
      · rename_i e;right;rw [h.size];omega
      · left;simp [hy,hb]
    · cases hb
theorem lU {c:Array Value} {elem:TypeId} (h:cw A w) :
    cw (A.new (.row true c.toList c.size)) { w with heap:=w.heap.push (.cells c elem) }/\fz A w (A.new (.row true c.toList c.size)) { w with heap:=w.heap.push (.cells c elem) } :=
  kf h ⟨c,elem,(0,0),rfl,by simp,XX _,fun i _=>by simp,fun _ i _=>by simp⟩
theorem jF (h:cw A w):cw A { w with drawn:=w.drawn + 1 }/\fz A w A { w with drawn:=w.drawn + 1 } :=
  ⟨⟨h.size,h.fits⟩,⟨rfl,rfl,⟨rfl,Nat.le_succ _⟩,XX _,fun _ _ _=>rfl,fun _ h=>.inl h⟩⟩
end
end V
namespace V
def ql (A:AH) (v:Value) (size:Nat) (xs:List Value):Prop :=
  (v=.slice none 0 0/\xs=[]) \/
  ∃ b n k r rcap,v=.slice (some ⟨b,0,none⟩) n k/\A.get b=some (.row true r rcap)/\xs.length=n * size/\r.take (n * size)=xs/\n<=k/\k * size<=rcap
def blk:Value->Option Nat
  | .slice (some a) _ _=>some a.block
  | _=>none
structure nA (A:AH) (s:Value) (size:Nat) (xs:List Value) (v:Value) (A':AH):Prop where
  wf:A'.wf
  own:ql A' v size xs
  n:A.n<=A'.n
  get:∀ b o,A.get b=some o->blk s ≠ some b->A'.get b=some o
  blk:∀ b,blk v=some b->blk s=some b\/A.n<=b
def listOf (A:AH) (size:Nat):Value->Option (Nat × List Value)
  | .slice (some a) n _=>if n * size=0 then some (n,[]) else (A.cellsAt a (n * size)).map fun l=>(n,l)
  | .slice none 0 _=>some (0,[])
  | .string s=>if size=1 then some (s.size,s.data.toList.map fun b=>.int .u8 b.toNat) else none
  | _=>none
theorem Ll (m:Nat):∀ r c,256<=c->c<=2 * m->Builtin.growBy m r c<=2 * m:=by
  intro r
  induction r with
  | zero=>intro c _ h;exact h
  | succ r ih =>
    intro c h1 h2
    simp only [Builtin.growBy]
    split
    · exact h2
    · exact ih _ O O
theorem vM (m k:Nat) (h:k < m):Builtin.nextslicecap m k<=2 * m:=by
  unfold Builtin.nextslicecap
  split
  · omega
  · split
    · omega
    · exact Ll _ _ _ O O
section
variable {P:Program} {w:World} {A:AH}
theorem xI {size n:Nat} {x:Value} {ys:List Value} (h:cw A w) (g:listOf A size x=some (n,ys)) :
    (Builtin.lenOf x).run P w=.ok n w/\(Builtin.firstCells size n x).run P w=.ok ys.toArray w:=by
  unfold listOf at g
  split at g
  · rename_i a m k
    split at g
    · rename_i h0
      simp at g;obtain ⟨rfl,rfl⟩:=g
      refine ⟨Z,?_⟩
      simp only [Builtin.firstCells,h0,loadCells,loadCellsFrom];rfl
    · cases hc:A.cellsAt a (m * size) with
      | none=>simp [hc] at g
      | some l=>simp [hc] at g;obtain ⟨rfl,rfl⟩:=g;simp [Builtin.lenOf,Builtin.firstCells,jv h hc]
  · simp at g;obtain ⟨rfl,rfl⟩:=g;simp [Builtin.lenOf,Builtin.firstCells]
  · rename_i s
    split at g
    · simp at g;obtain ⟨rfl,rfl⟩:=g
      have:s.extract 0 s.size=s:=by simp
      simp only [Builtin.lenOf,Builtin.firstCells,this]
      refine ⟨Z,?_⟩
      have e:s.data.map (fun b=>Value.int .u8 (b.toNat:Int))=(List.map (fun b:UInt8=>Value.int .u8 (b.toNat:Int)) s.data.toList).toArray:=by
        apply Array.ext';simp
      rw [<- e];rfl
    · cases g
  · cases g
theorem yl (z:Array Value) (n:Nat):(Builtin.zeroCells z n).size=n * z.size:=by simp [Builtin.zeroCells]
theorem IG {st xt:TypeId} {elem t:TypeId} {size bytes n sLen sCap:Nat} {base:Option Addr} {x z:Value} {d:TypeDesc} {i:TypeInfo} {xs ys:List Value}
    (h:cw A w) (hu:P.underlying st=some (.slice elem)) (hsz:dy P elem=some size) (hi:P.info? elem=some i) (hby:i.bytes=bytes) (hz:cE P elem=some z) (hzs:z.cells.size=size)
    (hxt:P.underlying xt=some d) (hd:∀ k,d ≠ .int k) (own:ql A (.slice base sLen sCap) size xs) (hx:listOf A size x=some (n,ys)) (hy:ys.length=n * size) (ho:qi ys=true)
    (hlen:(sLen + n) * bytes<=2 ^ 47) (hlen':sLen + n < 2 ^ 63) :
    ∃ v w' A',(Builtin.append_ #[st,xt] t #[.slice base sLen sCap,x]).run P w=.ok v w'/\cw A' w'/\fz A w A' w'/\nA A (.slice base sLen sCap) size (xs ++ ys) v A':=by
  obtain ⟨r1,r2⟩:=xI (P:=P) h hx
  have hnz:(match d with | .int _=>true | _=>false)=false:=by
    cases d <;> first | rfl | exact absurd Z (hd _)
  have hold:(Builtin.firstCells size sLen (.slice base sLen sCap)).run P w=.ok xs.toArray w:=by
    rcases own with ⟨hv,rfl⟩ | ⟨b,n',k,r,rcap,hv,hg,hl,hr,hk,hc⟩
    · cases hv;simp [Builtin.firstCells]
    · cases hv
      have:A.cellsAt ⟨b,0,none⟩ (sLen * size)=some xs:=by
        have:sLen * size<=r.length:=by rw [<- hr] at hl;simp at hl;omega
        simp [AH.cellsAt,hg,ku,this,hr]
      simp [Builtin.firstCells,jv h this]
  unfold Builtin.append_
  by_cases hfit:sLen + n<=sCap
  · -- in place
    rcases own with ⟨hv,rfl⟩ | ⟨b,n',k,r₀,rcap,hv,hg,hl,hr,hk,hc⟩
    · cases hv
      have hn:n=0:=by omega
      subst hn
      have:ys=[]:=TX.1 (by simpa using hy)
      subst this
      refine ⟨.slice none 0 0,w,A,?_,h,.refl _ _,⟨h.wf,.inl ⟨rfl,rfl⟩,XX _,fun _ _ hb _=>hb,fun _ hb=>by cases hb⟩⟩
      simp [cg hu,ep hsz,cg hxt,hnz,r1,r2]
    · cases hv
      obtain ⟨cs,e,fr,h1,h0,h2,h3,h4⟩:=h.row hg
      have hsz':(sLen + n) * size<=rcap:=Xj (Nat.mul_le_mul_right _ hfit) hc
      have hadd:(⟨b,0,none⟩:Addr).add (sLen * size)=⟨b,sLen * size,none⟩:=by rw [o9 _ _ Z];simp
      have hmul:(sLen + n) * size=sLen * size + n * size:=Rk _ _ _
      obtain ⟨w',cs',r,g1,g2,g3,g4,g5,g6,g7,g8⟩:=tU (P:=P) ys cs ⟨b,sLen * size,none⟩ 0 w h1 Z Z ho (by simp only;omega) (fun k _ hk=>h4 Z k (by simp only at hk;omega))
      have hxl:xs.length=sLen * size:=hl
      have hrl:sLen * size<=r₀.length:=by rw [<- hr] at hl;simp at hl;omega
      refine ⟨.slice (some ⟨b,0,none⟩) (sLen + n) sCap,w',A.set b (.row true (xs ++ ys) rcap),?_,h.setRow g7 g8 ⟨cs',e,fr,g1,by simp;omega,by omega,fun i hi=>?_,h4⟩,fz.row hg g4 g5 g6 g7 g8,
        ⟨AH.wf_set h.wf (h.wf _ _ hg) _,.inr ⟨b,sLen + n,sCap,xs ++ ys,rcap,Z,AH.set_get_same _ _ _,by simp;omega,by rw [Vw Or],hfit,hc⟩,XX _,fun k o hk hne=>by rw [AH.set_get_ne];exact hk;rintro rfl;exact hne rfl,fun k hk=>.inl hk⟩⟩
      · simp [cg hu,ep hsz,cg hxt,hnz,r1,r2,hfit,hadd,r]
      · simp only [Xz] at hi
        rw [g3 i]
        simp only [Nat.add_zero]
        by_cases q:sLen * size<=i
        · rw [Xw O,TV O,hxl]
        · rw [Xy O,Sx O,<- hr,SY O]
          exact h3 i O
  · -- a new row
    have hcap:=vM (sLen + n) sCap O
    have a0:¬ (Builtin.nextslicecap (sLen + n) sCap * i.bytes > 2 ^ 48):=by
      have:=Nat.mul_le_mul_right i.bytes hcap
      rw [hby] at this ⊢
      have:2 * (sLen + n) * bytes=2 * ((sLen + n) * bytes):=Nat.mul_assoc _ _ _
      omega
    have a2:¬ ((((sLen + n:Nat):Int) > IntKind.i64.max)/\(False\/i.bytes=0)):=by
      have:IntKind.i64.max=9223372036854775807:=by decide
      rintro ⟨q,_⟩;omega
    generalize hq:Question.cut (.appendCap (sLen + n) sCap elem) (w.tape w.drawn (.appendCap (sLen + n) sCap elem))=newCap
    have hnc:sLen + n<=newCap:=by rw [<- hq];simp only [Question.cut];omega
    obtain ⟨v1,s1⟩:cw A w.drew/\fz A w A w.drew:=jF h
    obtain ⟨v2,s2⟩:cw _ (w.drew.alloc (.cells (xs.toArray ++ (ys.toArray ++ Builtin.zeroCells z.cells (newCap - (sLen + n)))) elem))/\fz A w.drew _ (w.drew.alloc (.cells (xs.toArray ++ (ys.toArray ++ Builtin.zeroCells z.cells (newCap - (sLen + n)))) elem)) :=
      lU (c:=xs.toArray ++ (ys.toArray ++ Builtin.zeroCells z.cells (newCap - (sLen + n)))) (elem:=elem) v1
    have hold':(Builtin.firstCells size sLen (.slice base sLen sCap)).run P w.drew=.ok xs.toArray w.drew:=by
      rcases own with ⟨hv,rfl⟩ | ⟨b,n',k,r,rcap,hv,hg,hl,hr,hk,hc⟩
      · cases hv;simp [Builtin.firstCells]
      · cases hv
        have:A.cellsAt ⟨b,0,none⟩ (sLen * size)=some xs:=by
          have:sLen * size<=r.length:=by rw [<- hr] at hl;simp at hl;omega
          simp [AH.cellsAt,hg,ku,this,hr]
        simp [Builtin.firstCells,jv v1 this]
    have a1:=(xI (P:=P) v1 hx).2
    have V:¬ (281474976710656 < Builtin.nextslicecap (sLen + n) sCap * i.bytes):=by simpa using a0
    have X:¬ (9223372036854775807 < (sLen:Int) + (n:Int)/\i.bytes=0):=by rintro ⟨q,_⟩;omega
    have hxl:xs.length=sLen * size:=by
      rcases own with ⟨hv,rfl⟩ | ⟨b,n',k,r,rcap,hv,hg,hl,hr,hk,hc⟩
      · cases hv;simp
      · cases hv;exact hl
    refine ⟨.slice (some ⟨w.heap.size,0,none⟩) (sLen + n) newCap,_,_,?_,v2,s1.trans s2,⟨v2.wf,.inr ⟨w.heap.size,sLen + n,newCap,(xs.toArray ++ (ys.toArray ++ Builtin.zeroCells z.cells (newCap - (sLen + n)))).toList,(xs.toArray ++ (ys.toArray ++ Builtin.zeroCells z.cells (newCap - (sLen + n)))).size,rfl,?_,?_,?_,hnc,?_⟩,Nat.le_succ _,fun k o hk _=>?_,fun k hk=>?_⟩⟩
    · simp [cg hu,ep hsz,cg hxt,hnz,r1,hfit,typeInfo,hi,Question.forced,iK hz,newRow]
      rw [Xy X,Xy V,hold']
      simp only [Result.andThen_ok]
      rw [a1]
      simp [hq]
    · rw [h.size];exact AH.new_get_same _ _
    · simp [hxl,hy,Rk]
    · simp only [Array.toList_append,<- Tk]
      rw [List.take_append_of_le_length (by simp [hxl,hy,Rk])]
      rw [Vw (by simp [hxl,hy,Rk])]
    · simp only [Array.size_append,yl,hzs]
      simp only [List.size_toArray,hxl,hy]
      rw [<- Nat.add_assoc,<- Rk,<- Rk]
      exact Nat.mul_le_mul_right _ O
    · rw [AH.new_get_ne];exact hk;have:=h.wf k o hk;omega
    · simp only [blk,Option.some.injEq] at hk;right;rw [<- hk,h.size];exact XX _
def aw (s:W8):List Value:=s.map fun b=>.int .u8 b.toNat
theorem GV (s:W8) (acc:ByteArray) :
    (s.map fun b=>(b.toNat:Int)).foldl (fun r n=>r.push (UInt8.ofNat n.toNat)) acc=⟨acc.data ++ s.toArray⟩:=by
  induction s generalizing acc with
  | nil=>simp
  | cons b s ih =>
    simp only [Tz,Tj]
    rw [ih]
    cases acc
    simp [ByteArray.push]
theorem xG {x:Value} {n:Nat} {s:W8} (h:cw A w) (hx:listOf A 1 x=some (n,aw s)) (hns:∀ t,x ≠ .string t):(Conv.bytesToString x).run P w=.ok (.string ⟨s.toArray⟩) w:=by
  unfold listOf at hx
  split at hx
  · rename_i a m k
    obtain ⟨hc,rfl⟩:(loadCells a m).run P w=.ok (aw s).toArray w/\m=n:=by
      split at hx
      · rename_i h0
        have V:m=0:=by omega
        simp only [Option.some.injEq,Prod.mk.injEq] at hx
        obtain ⟨rfl,hs⟩:=hx
        rw [<- hs,V]
        exact ⟨Z,Z⟩
      · cases hc:A.cellsAt a (m * 1) with
        | none=>rw [hc] at hx;cases hx
        | some l =>
          rw [hc] at hx
          simp only [Rw,Option.some.injEq,Prod.mk.injEq] at hx
          obtain ⟨rfl,rfl⟩:=hx
          rw [VY] at hc
          exact ⟨jv (P:=P) h hc,Z⟩
    · have e:aw s=(s.map fun b=>(b.toNat:Int)).map (Value.int .u8):=by simp [aw]
      have:=hc
      rw [e] at this
      rw [Go.run_bytesToString w a m k _ this,GV]
      simp [ByteArray.empty,ByteArray.emptyWithCapacity]
      rfl
  · simp at hx
    obtain ⟨rfl,hs⟩:=hx
    cases s with
    | nil=>simp [Conv.bytesToString];rfl
    | cons _ _=>cases hs
  · exact absurd Z (hns _)
  · cases hx
theorem xJ {src dst e:TypeId} {s:ByteArray} {u:TypeDesc} (h:cw A w) (hs:P.underlying src=some u) (hd:P.underlying dst=some (.slice e)) (he:P.underlying e=some (.int .u8)) (hlen:s.size < 2 ^ 63) :
    ∃ k w',(convert src dst (.string s)).run P w=.ok (.slice (some ⟨A.n,0,none⟩) s.size k) w'/\cw (A.new (.row true (aw s.data.toList) k)) w'/\fz A w (A.new (.row true (aw s.data.toList) k)) w'/\s.size<=k:=by
  have hk:s.size<=grownCap w s.size 0 e:=by unfold grownCap;simp only [Question.cut];omega
  have hsz:(Lib.bytesCells w e s).size=grownCap w s.size 0 e:=by
    have:s.data.size=s.size:=rfl
    simp [Lib.bytesCells,this];omega
  have hos:(Lib.bytesWorld w e s).os=w.os/\(Lib.bytesWorld w e s).tape=w.tape/\((Lib.bytesWorld w e s).output=w.output/\w.drawn<=(Lib.bytesWorld w e s).drawn):=⟨rfl,rfl,rfl,by show w.drawn<=w.drawn + 1;omega⟩
  refine ⟨_,_,by rw [<- h.size];exact Lib.run_convert_string_bytes w src dst e s hs hd he,⟨by rw [Lib.bytesWorld_size,h.size];rfl,fun b o hb=>?_⟩,⟨hos.1,hos.2.1,hos.2.2,by rw [Lib.bytesWorld_size];omega,fun b hb _=>Lib.bytesWorld_at_old w e s b hb,fun b hb=>?_⟩,hk⟩
  · simp only [AH.new_get] at hb
    split at hb
    · rename_i q;subst q;cases hb
      rw [<- h.size,Lib.bytesWorld_at_new]
      refine ⟨_,_,_,rfl,?_,Nat.le_of_eq hsz.symm,fun i hi=>?_,fun _ i hi=>by simp only [hsz];omega⟩
      · simpa [aw] using hk
      · simp only [aw,Tq] at hi
        have hi':i < s.data.size:=by simpa using hi
        simp only [Lib.bytesCells,aw]
        rw [Array.getElem?_append_left (by simpa using hi')]
        simp
    · have:=h.wf b o hb
      rw [Lib.bytesWorld_at_old w e s b (by rw [h.size];exact this)]
      exact h.fits b o hb
  · simp only [AH.rw,AH.new_get] at hb ⊢
    split at hb
    · rename_i y hy
      split at hy
      · right;rw [h.size];omega
      · left;simp [hy,hb]
    · cases hb
end
end V
namespace V
def nW (e:ii):List (Nat × Operand)->Option (List (Nat × Value))
  | []=>some []
  | (i,x) :: r=>match cd e x,nW e r with
    | some v,some vs=>some ((i,v) :: vs)
    | _,_=>none
def qK (P:Program):List Field->Option (List (Nat × Nat))
  | []=>some []
  | f :: r=>match dy P f.type,qK P r with
    | some n,some l=>some ((f.offset,n) :: l)
    | _,_=>none
def pR (place:Nat->Option (Nat × Nat)):List Value->List (Nat × Value)->Option (List Value)
  | c,[]=>some c
  | c,(i,v) :: r=>match place i with
    | none=>none
    | some (off,n)=>if v.cells.size=n/\off + n<=c.length then pR place (qj c off v.cells.toList) r else none
def dk (P:Program) (t:TypeId):Option (List (Nat × Nat)) :=
  match P.underlying t with
  | some (.struct fs)=>qK P fs.toList
  | _=>none
def mQ (P:Program) (t:TypeId) (ps:List (Nat × Value)):Option Value :=
  match P.underlying t,cE P t with
  | some (.struct _),some z=>(dk P t).bind fun l=>(pR (fun i=>l[i]?) z.cells.toList ps).map fun c=>.agg c.toArray
  | some (.array _ e),some z=>(dy P e).bind fun n=>(pR (fun i=>some (i * n,n)) z.cells.toList ps).map fun c=>.agg c.toArray
  | _,_=>none
def mr (z:List Value):Nat->List Value
  | 0=>[]
  | n + 1=>z ++ mr z n
def i3 (P:Program) (t:TypeId) (len:Nat) (ps:List (Nat × Value)):Option (List Value) :=
  match P.underlying t with
  | some (.slice e)=>(dy P e).bind fun n=>(cE P e).bind fun z =>
    if z.cells.size=n/\0 < n/\len * n<=2 ^ 24 then pR (fun i=>some (i * n,n)) (mr z.cells.toList len) ps else none
  | _=>none
def D4:Value->Option Nat
  | .int .i64 n=>if 0<=n/\n < 9223372036854775808 then some n.toNat else none
  | _=>none
def pu (P:Program) (t:TypeId) (l c:Value):Option (Nat × Nat × List Value) :=
  match P.underlying t,D4 l,D4 c with
  | some (.slice e),some l,some c=>(dy P e).bind fun n=>(cE P e).bind fun z=>(P.info? e).bind fun i =>
    if z.cells.size=n/\0 < n/\l<=c/\i.bytes * c<=281474976710656 then some (l,c,mr z.cells.toList c) else none
  | _,_,_=>none
def N5 (P:Program) (A:AH) (st xt:TypeId) (s x:Value) (K:Value->AH->Prop):Prop :=
  ∃ elem size n z d i xs ys,P.underlying st=some (.slice elem)/\dy P elem=some size/\P.info? elem=some i/\cE P elem=some z/\z.cells.size=size/\P.underlying xt=some d/\(∀ k,d ≠ .int k) /\
    (∃ base l c,s=.slice base l c/\(l + n) * i.bytes<=2 ^ 47/\l + n < 2 ^ 63)/\ql A s size xs/\listOf A size x=some (n,ys)/\ys.length=n * size/\qi ys=true /\
    ∀ v A',nA A s size (xs ++ ys) v A'->K v A'
def tr (P:Program) (A:AH) (t:TypeId) (x:Value):Option Value :=
  match P.underlying t,x with
  | some .string,.string s=>some (.int .i64 s.size)
  | some (.slice _),.slice _ n _=>some (.int .i64 n)
  | some (.map _ _),.map none=>some (.int .i64 0)
  | some (.map _ _),.map (some b)=>match A.get b with
    | some (.obj _ (.map es _))=>some (.int .i64 es.size)
    | _=>none
  | _,_=>none
def Ij (k:IntKind) (x:Int):List Value->Option Int
  | []=>some x
  | .int k' y :: r=>if k=k' then Ij k (if y > x then y else x) r else none
  | _=>none
def Ma (k:IntKind) (x:Int):List Value->Option Int
  | []=>some x
  | .int k' y :: r=>if k=k' then Ma k (if y < x then y else x) r else none
  | _=>none
def C6 (P:Program) (A:AH) (b:Builtin) (ts:List TypeId) (args:List Value) (K:Value->AH->Prop):Prop :=
  match b,ts,args with
  | .len,[t],[x]=>∃ v,tr P A t x=some v/\K v A
  | .append,[st,xt],[s,x]=>N5 P A st xt s x K
  | .max,_,.int k x :: r=>∃ v,Ij k x r=some v/\K (.int k v) A
  | .min,_,.int k x :: r=>∃ v,Ma k x r=some v/\K (.int k v) A
  | _,_,_=>False
def Dm (K:Value->AH->Prop) (Kp:List PanicEntry->AH->Prop):Ending->AH->Prop
  | .returned v,A=>K v A
  | .panicked ch,A=>Kp ch A
  | .outgrown,_=>False
def wI (P:Program) (e:ii) (A:AH) (c:Call) (K:Value->AH->Prop) (Kp:List PanicEntry->AH->Prop):Prop :=
  match c.callee with
  | .value f=>match cd e f,jV (cd e) c.args.toList with
    | some (.func (.func g) first captured),some args=>im P g (first ++ args.toArray ++ captured) A (Dm K Kp)
    | _,_=>False
  | .builtin b=>match jV (cd e) c.args.toList with
    | some args=>C6 P A b c.argTypes.toList args K
    | none=>False
  | .invoke _ _=>False
def Lz (P:Program) (e:TypeId):Bool:=match P.underlying e with | some (.int .u8)=>true | _=>false
def wR (P:Program) (A:AH) (src dst:TypeId) (x:Value) (K:Value->AH->Prop):Prop :=
  match P.underlying src,P.underlying dst,x with
  | some .string,some (.slice el),.string s=>Lz P el=true/\s.size < 2 ^ 63/\∀ k,s.size<=k->K (.slice (some ⟨A.n,0,none⟩) s.size k) (A.new (.row true (aw s.data.toList) k))
  | some (.slice el),some .string,.slice a n c=>Lz P el=true/\∃ l,listOf A 1 (.slice a n c)=some (n,aw l)/\K (.string ⟨l.toArray⟩) A
  | _,_,_=>∃ v,Dc P src dst x=some v/\K v A
def qw:TypeDesc->Bool
  | .int _ | .string | .bool=>true
  | _=>false
def Ci (P:Program) (A:AH) (t:TypeId) (v:Value) (K:Value->AH->Prop):Prop :=
  match P.underlying t,v with
  | some .string,.string s=>K (.pointer (some ⟨A.n,0,none⟩)) (A.new (.obj true (.stringIter s 0)))
  | some (.map _ _),.map none=>K (.pointer (some ⟨A.n,0,none⟩)) (A.new (.obj true (.mapIter none 0 #[] 0)))
  | some (.map _ _),.map (some m)=>∃ rw es clock,A.get m=some (.obj rw (.map es clock))/\K (.pointer (some ⟨A.n,0,none⟩)) (A.new (.obj true (.mapIter (some m) clock #[] clock)))
  | _,_=>False
def i7 (es:Array MapEntry) (seen:Array Nat):Array MapEntry:=es.filter fun e=>!seen.contains e.born
def Yp (A:AH) (v:Value) (isS:Bool) (K:Value->AH->Prop):Prop :=
  ∃ b,v=.pointer (some ⟨b,0,none⟩) /\
    ((isS=true/\∃ s pos,A.get b=some (.obj true (.stringIter s pos)) /\
        (pos < s.size->K (.tuple #[.bool true,.int .i64 pos,.int .i32 (Utf8.decode s pos).1]) (A.set b (.obj true (.stringIter s (pos + (Utf8.decode s pos).2))))) /\
        (¬ pos < s.size->K (.tuple #[.bool false]) A)) \/
     (isS=false/\∃ since seen last,A.get b=some (.obj true (.mapIter none since seen last))/\K (.tuple #[.bool false]) A) \/
     (isS=false/\∃ m since seen last rw es clock,A.get b=some (.obj true (.mapIter (some m) since seen last))/\A.get m=some (.obj rw (.map es clock))/\m ≠ b/\(∀ x ∈ es,x.born < since)/\(seen.isEmpty=true\/es.isEmpty=true\/¬ (es.all fun x=>decide (x.born >= last))=true) /\
        (∀ x,x ∈ i7 es seen->K (.tuple #[.bool true,x.key,x.val]) (A.set b (.obj true (.mapIter (some m) since (seen.push x.born) clock)))) /\
        (i7 es seen = #[]->K (.tuple #[.bool false]) A)))
def Pz (A:AH) (v:Value) (K:Value->AH->Prop):Prop :=
  ∃ b m since seen last rw es x,v=.pointer (some ⟨b,0,none⟩)/\A.get b=some (.obj true (.mapIter (some m) since seen last))/\A.get m=some (.obj rw (.map es last))/\m ≠ b /\
    seen.back? = some x.born/\es.find? (fun y=>y.born == x.born)=some x/\K (.tuple #[x.key,x.val]) A
def JS (P:Program) (A:AH) (t:TypeId) (mv kv:Value) (ok:Bool) (K:Value->AH->Prop):Prop :=
  ∃ kt et kd z es r,P.underlying t=some (.map kt et)/\P.underlying kt=some kd/\qw kd=true/\cE P et=some z /\
    ((mv=.map none/\es = #[])\/∃ m rw clock,mv=.map (some m)/\A.get m=some (.obj rw (.map es clock))) /\
    Instr.findNow kd kv es.toList 0=some r /\
    K (let p:=match r with | some (_,v)=>(v,true) | none=>(z,false);if ok then .tuple #[p.1,.bool p.2] else p.1) A
def CF (P:Program) (A:AH) (t:TypeId) (mv kv v:Value) (K:Value->AH->Prop):Prop :=
  ∃ kt et kd m es clock r,P.underlying t=some (.map kt et)/\P.underlying kt=some kd/\qw kd=true/\mv=.map (some m)/\A.get m=some (.obj true (.map es clock)) /\
    Instr.findNow kd kv es.toList 0=some r /\
    (match r with
     | some (i,_)=>(∃ x,es[i]? = some x/\Instr.sameBits 10000 x.key kv=true)/\K undef (A.set m (.obj true (.map (es.modify i fun y=>{ y with key:=kv,val:=v }) clock)))
     | none=>K undef (A.set m (.obj true (.map (es.push { key:=kv,val:=v,born:=clock }) (clock + 1)))))
def kY (P:Program) (e:ii) (A:AH) (o:Oper) (K:Value->AH->Prop) (Kp:List PanicEntry->AH->Prop):Prop :=
  match o.op with
  | .alloc t=>∃ z,cE P t=some z/\K (.pointer (some ⟨A.n,0,none⟩)) (A.new (.row true z.cells.toList z.cells.size))
  | .box _ x=>∃ v,cd e x=some v/\K (.pointer (some ⟨A.n,0,none⟩)) (A.new (.row true v.cells.toList v.cells.size))
  | .load t x=>∃ u v,cd e x=some u/\ld P A t u=some v/\K v A
  | .store t x y=>∃ u v A',cd e x=some u/\cd e y=some v/\CA P A t u v=some A'/\K undef A'
  | .build t ps=>∃ l v,nW e ps.toList=some l/\mQ P t l=some v/\K v A
  | .buildSlice t n ps=>∃ l c,nW e ps.toList=some l/\i3 P t n l=some c/\K (.slice (some ⟨A.n,0,none⟩) n n) (A.new (.row true c c.length))
  | .convert s d x=>∃ v,cd e x=some v/\wR P A s d v K
  | .makeSlice t l c=>∃ u v n k cs,cd e l=some u/\cd e c=some v/\pu P t u v=some (n,k,cs)/\K (.slice (some ⟨A.n,0,none⟩) n k) (A.new (.row true cs cs.length))
  | .makeMap _ none=>K (.map (some A.n)) (A.new (.obj true (.map #[] 0)))
  | .call c=>wI P e A c K Kp
  | .range t x=>∃ v,cd e x=some v/\Ci P A t v K
  | .next x b=>∃ v,cd e x=some v/\Yp A v b K
  | .entry x=>∃ v,cd e x=some v/\Pz A v K
  | .lookup t x y b=>∃ u v,cd e x=some u/\cd e y=some v/\JS P A t u v b K
  | .mapUpdate t x y z=>∃ u k v,cd e x=some u/\cd e y=some k/\cd e z=some v/\CF P A t u k v K
  | .insert t x y z=>∃ u k v,cd e x=some u/\cd e y=some k/\cd e z=some v/\CF P A t u k v K
  | .move x=>∃ v,cq P (cd e) (.move x)=some v/\K v A
  | .assign x=>∃ v,cq P (cd e) (.assign x)=some v/\K v A
  | .pick a b c=>∃ v,cq P (cd e) (.pick a b c)=some v/\K v A
  | .nilCheck x=>∃ v,cq P (cd e) (.nilCheck x)=some v/\K v A
  | .binOp a b c d f=>∃ v,cq P (cd e) (.binOp a b c d f)=some v/\K v A
  | .unOp a b c=>∃ v,cq P (cd e) (.unOp a b c)=some v/\K v A
  | .makeFunc a b c=>∃ v,cq P (cd e) (.makeFunc a b c)=some v/\K v A
  | .fieldAddr a b c=>∃ v,cq P (cd e) (.fieldAddr a b c)=some v/\K v A
  | .field a b c=>∃ v,cq P (cd e) (.field a b c)=some v/\K v A
  | .indexAddr a b c=>∃ v,cq P (cd e) (.indexAddr a b c)=some v/\K v A
  | .index a b c=>∃ v,cq P (cd e) (.index a b c)=some v/\K v A
  | .extract a b=>∃ v,cq P (cd e) (.extract a b)=some v/\K v A
  | .slice a b c d none=>∃ v,cq P (cd e) (.slice a b c d none)=some v/\K v A
  | _=>False
section
variable {P:Program} {w:World} {A:AH}
theorem sG {e:ii} {ρ:Operand->Value} (hev:∀ x v,cd e x=some v->ρ x=v):∀ (l:List (Nat × Operand)) (vs:List (Nat × Value)),nW e l=some vs->l.map (fun p=>(p.1,ρ p.2))=vs:=by
  intro l
  induction l with
  | nil=>intro vs h;simp [nW] at h;simp [h]
  | cons p r ih =>
    obtain ⟨i,x⟩:=p
    intro vs h
    simp only [nW] at h
    split at h
    · rename_i v us h1 h2;cases h;simp [hev x v h1,ih us h2]
    · cases h
theorem Nx (c:List Value) (off:Nat) (vs:List Value) :
    ((vs.toArray.zipIdx.foldl (fun (cs:Array Value) (p:Value × Nat)=>cs.setIfInBounds (off + p.2) p.1) c.toArray))=(qj c off vs).toArray:=by
  rw [<- Array.foldl_toList,Array.toList_zipIdx]
  simp only
  have key:∀ (vs:List Value) (c:List Value) (i:Nat),(vs.zipIdx i).foldl (fun (cs:Array Value) (p:Value × Nat)=>cs.setIfInBounds (off + p.2) p.1) c.toArray=(qj c (off + i) vs).toArray:=by
    intro vs
    induction vs with
    | nil=>intro c i;simp [qj]
    | cons v vs ih =>
      intro c i
      simp only [List.zipIdx_cons,Tj,qj]
      rw [show c.toArray.setIfInBounds (off + i) v=(c.set (off + i) v).toArray by simp]
      exact ih (c.set (off + i) v) (i + 1)
  exact key vs c 0
theorem AQ {place:Nat->Option (Nat × Nat)}:∀ (ps:List (Nat × Value)) (c r:List Value),pR place c ps=some r->Instr.fill place c.toArray ps=some r.toArray:=by
  intro ps
  induction ps with
  | nil=>intro c r h;simp [pR] at h;simp [Instr.fill,h]
  | cons p ps ih =>
    obtain ⟨i,v⟩:=p
    intro c r h
    simp only [pR] at h
    cases hp:place i with
    | none=>simp [hp] at h
    | some q =>
      obtain ⟨off,n⟩:=q
      simp only [hp] at h
      split at h
      · rename_i hq
        have e:=Nx c off v.cells.toList
        simp only [Array.toArray_toList] at e
        have hn:¬ ((v.cells.size ≠ n || off + v.cells.size > c.toArray.size)=true):=by simp [hq.1,hq.2]
        simp only [Instr.fill,hp]
        rw [Xy hn]
        have:=ih _ _ h
        rw [<- e] at this
        exact this
      · cases h
theorem Mq {fs:List Field}:∀ {l:List (Nat × Nat)},qK P fs=some l->(fs.mapM fun f=>(do pure (f.offset,<- sizeOf f.type):Sem (Nat × Nat))).run P w=.ok l w:=by
  induction fs with
  | nil=>intro l h;simp [qK] at h;simp [h]
  | cons f fs ih =>
    intro l h
    simp only [qK] at h
    split at h
    · rename_i n r h1 h2;cases h
      simp only [List.mapM_cons,Sem.run_bind,ep h1,Result.andThen_ok,Sem.run_pure,ih h2]
    · cases h
theorem EO (z:List Value) (n:Nat):(mr z n).length=n * z.length:=by
  induction n with
  | zero=>simp [mr]
  | succ n ih=>simp [mr,ih,Rk,Nat.add_comm]
theorem RM (z:List Value) (n i:Nat) (h:i < n * z.length):(mr z n)[i]? = z[i % z.length]?:=by
  induction n generalizing i with
  | zero=>simp at h
  | succ n ih =>
    simp only [mr]
    by_cases q:i < z.length
    · rw [Sx q,Nat.mod_eq_of_lt q]
    · rw [TV O,ih (i - z.length) (by rw [Rk] at h;omega)]
      rw [<- Nat.mod_eq_sub_mod O]
theorem RO {z:Array Value} {n k:Nat} (h:z.size=n) (hn:0 < n):((Array.range (k * n)).map (z[· % z.size]!))=(mr z.toList k).toArray:=by
  apply Array.ext'
  apply List.ext_getElem?
  intro i
  by_cases q:i < k * n
  · have hz:i % z.size < z.size:=Nat.mod_lt _ O
    have:=RM z.toList k i (by simpa [h] using q)
    rw [show ((mr z.toList k).toArray.toList)=mr z.toList k from rfl,this]
    simp [q,hz,SW,getElem!_pos]
  · rw [RJ Or,RJ (by simp [EO,h];omega)]
end
end V
namespace V
section
variable {P:Program} {w:World} {A:AH}
def ki (A:AH) (a:Act) (w:World) (o:Oper) (K:Value->AH->Prop):Act->World->Prop :=
  fun a' w'=>∃ v A',a'=a.put o.dst v/\cw A' w'/\fz A w A' w'/\K v A'
def iP (A:AH) (a:Act) (w:World) (Kp:List PanicEntry->AH->Prop):Exit->Act->World->Prop :=
  fun x a' w'=>∃ ch A',x=.panic ch/\a'=a/\cw A' w'/\fz A w A' w'/\Kp ch A'
variable {K:Value->AH->Prop} {Kp:List PanicEntry->AH->Prop} {o:Oper} {a:Act}
theorem dr {v:Value} {w':World} {A':AH} (r:(execOp a.eval o).run P w=.ok (.value v) w') (hv:cw A' w') (hs:fz A w A' w') (hk:K v A') :
    o.wp P a w (ki A a w o K) (iP A a w Kp):=by
  unfold Oper.wp;rw [r];exact ⟨v,A',Z,hv,hs,hk⟩
theorem yh {w':World} {A':AH} (r:(execOp a.eval o).run P w=.ok .skip w') (hv:cw A' w') (hs:fz A w A' w') (hk:K undef A') :
    o.wp P a w (ki A a w o K) (iP A a w Kp):=by
  unfold Oper.wp;rw [r];exact ⟨undef,A',Z,hv,hs,hk⟩
theorem dE {b:Nat} {x:Obj} (h:w.heap[b]? = some x) (hx:∀ c e f,x ≠ .cells c e f):(getObj b).run P w=.ok x w:=by
  simp only [getObj,Sem.run,h]
theorem Cm {t ty:TypeId} {x v:Value} (h:cw A w) (g:tr P A t x=some v):(Builtin.len_ #[t] ty #[x]).run P w=.ok v w:=by
  unfold tr at g
  split at g
  · rename_i s hu;cases g;simp [Builtin.len_,cg hu,goInt]
  · rename_i u b n c hu;cases g;simp [Builtin.len_,cg hu,goInt]
  · rename_i u1 u2 hu;cases g;simp [Builtin.len_,cg hu,goInt]
  · rename_i u1 u2 b hu
    split at g
    · rename_i rw es ck hb
      cases g
      have:=h.fits b _ hb
      simp only [gv.fits] at this
      simp [Builtin.len_,cg hu,goInt,dE this.1 this.2]
    · cases g
  · cases g
theorem J9 {k:IntKind}:∀ (r:List Value) (x v:Int),Ij k x r=some v->(r.foldlM Builtin.max2 (.int k x)).run P w=.ok (.int k v) w:=by
  intro r
  induction r with
  | nil=>intro x v h;cases h;rfl
  | cons y r ih =>
    intro x v h
    cases y <;> simp only [Ij] at h <;> (try (cases h;done))
    split at h
    · rename_i k' y hk;subst hk;simp only [List.foldlM_cons,Builtin.max2,Sem.run_bind,Sem.run_pure,Result.andThen_ok];exact ih _ _ h
    · cases h
theorem Ka {k:IntKind}:∀ (r:List Value) (x v:Int),Ma k x r=some v->(r.foldlM Builtin.min2 (.int k x)).run P w=.ok (.int k v) w:=by
  intro r
  induction r with
  | nil=>intro x v h;cases h;rfl
  | cons y r ih =>
    intro x v h
    cases y <;> simp only [Ma] at h <;> (try (cases h;done))
    split at h
    · rename_i k' y hk;subst hk;simp only [List.foldlM_cons,Builtin.min2,Sem.run_bind,Sem.run_pure,Result.andThen_ok];exact ih _ _ h
    · cases h
theorem Ye {nt:Nat} {f:Fr} {c:Call} (ha:de nt f a) (hw:cw A w) (ho:o.op=.call c) (h:wI P f.e A c K Kp) :
    o.wp P a w (ki A a w o K) (iP A a w Kp):=by
  have hev:∀ x v,cd f.e x=some v->a.eval x=v:=fun x v g=>cI ha g
  obtain ⟨callee,args,argTypes⟩:=c
  have hargs:∀ vs,jV (cd f.e) args.toList=some vs->args.map a.eval=vs.toArray:=fun vs g=>by
    apply Array.ext';simp [qs hev _ _ g]
  unfold wI at h
  cases callee with
  | invoke _ _=>exact h.elim
  | value fo =>
    simp only at h
    split at h
    · rename_i g first captured vs h1 h2
      have r:(execOp a.eval o).run P w=.ok (.enter g (first ++ vs.toArray ++ captured)) w:=by
        obtain ⟨dst,op,type,pos,after,guard⟩:=o
        simp only at ho;subst ho
        simp [execOp,resolve,hev _ _ h1,hargs _ h2,Deferred.ofValue,invoke,h.1 _ w]
      unfold Oper.wp;rw [r]
      refine (h.2 w hw).mono ?_
      rintro e w' ⟨A',hv,hs,hk⟩
      cases e with
      | returned v=>exact ⟨v,A',Z,hv,hs,hk⟩
      | panicked ch=>exact ⟨ch,A',Z,Z,hv,hs,hk⟩
      | outgrown=>exact hk.elim
    · exact h.elim
  | builtin b =>
    simp only at h
    split at h
    · rename_i vs h2
      obtain ⟨cs,r⟩:∃ cs,(execOp a.eval o).run P w=(builtin b argTypes o.type cs vs.toArray).run P w:=by
        obtain ⟨dst,op,type,pos,after,guard⟩:=o
        simp only at ho;subst ho
        simp only [execOp,resolve,hargs _ h2,invoke,Sem.run_bind,Sem.run_pure,Result.andThen_ok]
        exact ⟨_,Z⟩
      unfold C6 at h
      split at h
      · rename_i t x ht
        obtain ⟨v,g,hk⟩:=h
        have ht':argTypes = #[t]:=by apply Array.ext';simpa using ht
        subst ht'
        exact dr (by rw [r];simp [builtin,Cm hw g]) hw (.refl _ _) hk
      · rename_i st xt s x ht
        obtain ⟨elem,size,n,z,d,i,xs,ys,q1,q2,q3,q4,q5,q6,q7,⟨base,l,c,rfl,q8,q9⟩,V,X,a0,a1,hk⟩:=h
        have ht':argTypes = #[st,xt]:=by apply Array.ext';simpa using ht
        subst ht'
        obtain ⟨v,w',A',g1,g2,g3,g4⟩:=IG (t:=o.type) hw q1 q2 q3 Z q4 q5 q6 q7 V X a0 a1 q8 q9
        exact dr (by rw [r];simp only [builtin,Sem.run_bind,g1,Result.andThen_ok];rfl) g2 g3 (hk v A' g4)
      · rename_i k x rr
        obtain ⟨v,g,hk⟩:=h
        exact dr (by rw [r];simp only [builtin,Builtin.max_,Sem.run_bind,J9 rr x v g,Result.andThen_ok];rfl) hw (.refl _ _) hk
      · rename_i k x rr
        obtain ⟨v,g,hk⟩:=h
        exact dr (by rw [r];simp only [builtin,Builtin.min_,Sem.run_bind,Ka rr x v g,Result.andThen_ok];rfl) hw (.refl _ _) hk
      · exact h.elim
    · exact h.elim
theorem zG {t:TypeId} {l:List (Nat × Value)} {ps:Array (Nat × Value)} {v:Value} (hps:ps.toList=l) (g:mQ P t l=some v):(Instr.build t ps).run P w=.ok v w:=by
  unfold mQ at g
  split at g
  · rename_i fs z hu hz
    cases hl:dk P t with
    | none=>simp [hl] at g
    | some pl =>
      cases hf:pR (fun i=>pl[i]?) z.cells.toList l with
      | none=>simp [hl,hf] at g
      | some r =>
        simp [hl,hf] at g;subst g
        simp only [dk,hu] at hl
        have h1:=AQ _ _ _ hf
        have h2:(fs.mapM fun f=>(do pure (f.offset,<- sizeOf f.type):Sem (Nat × Nat))).run P w=.ok pl.toArray w:=by
          rw [Array.mapM_eq_mapM_toList]
          simp only [Sem.run_map,Mq (w:=w) hl,Result.andThen_ok]
        simp only [Instr.build,Sem.run_bind,iK hz,Result.andThen_ok,cg hu,h2,hps]
        have h3:Instr.fill (fun x=>pl.toArray[x]?) z.cells l=some r.toArray:=by simpa using h1
        simp only [h3];rfl
  · rename_i len e z hu hz
    cases hs:dy P e with
    | none=>simp [hs] at g
    | some n =>
      cases hf:pR (fun i=>some (i * n,n)) z.cells.toList l with
      | none=>simp [hs,hf] at g
      | some r =>
        simp [hs,hf] at g;subst g
        have h1:=AQ _ _ _ hf
        simp only [Instr.build,Sem.run_bind,iK hz,Result.andThen_ok,cg hu,ep hs,hps]
        have h3:Instr.fill (fun i=>some (i * n,n)) z.cells l=some r.toArray:=by simpa using h1
        simp only [h3];rfl
  · cases g
theorem xE {t:TypeId} {len:Nat} {l:List (Nat × Value)} {ps:Array (Nat × Value)} {c:List Value} (h:cw A w) (hps:ps.toList=l) (g:i3 P t len l=some c) :
    ∃ w',(Instr.buildSlice t len ps).run P w=.ok (.slice (some ⟨A.n,0,none⟩) len len) w'/\cw (A.new (.row true c c.length)) w'/\fz A w (A.new (.row true c c.length)) w':=by
  unfold i3 at g
  split at g
  · rename_i e hu
    cases hs:dy P e with
    | none=>simp [hs] at g
    | some n =>
      cases hz:cE P e with
      | none=>simp [hs,hz] at g
      | some z =>
        simp only [hs,hz,Sy] at g
        split at g
        · rename_i q
          have h1:=AQ _ _ _ g
          have hr:=RO (k:=len) q.1 q.2.1
          obtain ⟨v1,s1⟩:=lU (c:=c.toArray) (elem:=e) h
          refine ⟨{ w with heap:=w.heap.push (.cells c.toArray e) },?_,by simpa using v1,by simpa using s1⟩
          have hn:¬ (len * n > 2 ^ 24):=by omega
          simp only [Instr.buildSlice,Sem.run_bind,cg hu,Result.andThen_ok,ep hs]
          rw [Xy hn]
          by_cases q0:len * n=0
          · have V:len=0:=by rcases Nat.mul_eq_zero.1 q0 with q | q;exact q;omega
            have he:(Array.map (fun x=>(#[]:Array Value)[x % (#[]:Array Value).size]!) (Array.range (len * n)))=(mr z.cells.toList len).toArray:=by subst V;simp [mr]
            rw [Xw q0]
            simp only [Sem.run_bind,Sem.run_pure,Result.andThen_ok,hps,he,h1,newRow,run_newObj]
            rw [h.size]
          · rw [Xy q0]
            simp only [Sem.run_bind,Sem.run_pure,Result.andThen_ok,iK hz,hr,hps,h1,newRow,run_newObj]
            rw [h.size]
        · cases g
  · cases g
theorem yH {t:TypeId} {l c:Value} {n k:Nat} {cs:List Value} (h:cw A w) (g:pu P t l c=some (n,k,cs)) :
    ∃ w',(Instr.makeSlice t l c).run P w=.ok (.slice (some ⟨A.n,0,none⟩) n k) w'/\cw (A.new (.row true cs cs.length)) w'/\fz A w (A.new (.row true cs cs.length)) w':=by
  have hnat:∀ (v:Value) m,D4 v=some m->∃ i:Int,v=.int .i64 i/\0<=i/\i < 9223372036854775808/\m=i.toNat:=fun v m hv=>by
    unfold D4 at hv
    split at hv
    · split at hv
      · rename_i i q;cases hv;exact ⟨i,Z,q.1,q.2,Z⟩
      · cases hv
    · cases hv
  unfold pu at g
  split at g
  · rename_i e l' c' hu hl hc
    obtain ⟨l₀,rfl,g1,g2,rfl⟩:=hnat _ _ hl
    obtain ⟨c₀,rfl,g3,g4,rfl⟩:=hnat _ _ hc
    cases hs:dy P e with
    | none=>simp [hs] at g
    | some m =>
      cases hz:cE P e with
      | none=>simp [hs,hz] at g
      | some z =>
        cases hi:P.info? e with
        | none=>simp [hs,hz,hi] at g
        | some i =>
          simp only [hs,hz,hi,Sy] at g
          split at g
          · rename_i q
            simp only [Option.some.injEq,Prod.mk.injEq] at g
            obtain ⟨rfl,rfl,rfl⟩:=g
            obtain ⟨q1,q2,q3,q4⟩:=q
            have V:∀ x:Int,0<=x->x < 9223372036854775808->IntKind.i64.wrap x=x:=fun x h0 h1=>IntWalk.i64_in x O
            have hr:=RO (k:=c₀.toNat) q1 q2
            obtain ⟨v1,s1⟩:=lU (c:=(mr z.cells.toList c₀.toNat).toArray) (elem:=e) h
            refine ⟨_,?_,by simpa using v1,by simpa using s1⟩
            have hbig:(c₀:Int)=(c₀.toNat:Int):=by omega
            have a1:¬ ((281474976710656:Int) < (i.bytes:Int) * c₀):=by
              rw [hbig,<- Int.natCast_mul]
              have:((i.bytes * c₀.toNat:Nat):Int)<=((281474976710656:Nat):Int):=Int.ofNat_le.2 q4
              exact Int.not_lt.2 this
            have hcond:(((decide (c₀ < 0) || decide ((281474976710656:Int) < (i.bytes:Int) * c₀)) || decide (l₀ < 0)) || decide (l₀ > c₀))=false:=by
              simp only [Bool.or_eq_false_iff,VK]
              exact ⟨⟨⟨by omega,a1⟩,by omega⟩,by omega⟩
            have hti:(typeInfo e).run P w=.ok i w:=by simp [typeInfo,hi]
            have X:∀ q:Int,(asInt (.int .i64 q)).run P w=.ok q w:=fun q=>rfl
            simp only [Instr.makeSlice,Sem.run_bind,cg hu,Result.andThen_ok,X,hti]
            rw [V l₀ g1 g2,V c₀ g3 g4]
            rw [Xy (by simpa using hcond)]
            by_cases q0:c₀.toNat * m=0
            · have a0:c₀.toNat=0:=by rcases Nat.mul_eq_zero.1 q0 with q | q;exact q;omega
              have he:(Array.map (fun x=>(#[]:Array Value)[x % (#[]:Array Value).size]!) (Array.range (c₀.toNat * m)))=(mr z.cells.toList c₀.toNat).toArray:=by rw [a0];simp [mr]
              simp only [Sem.run_bind,run_askRoom,Result.andThen_ok,ep hs]
              rw [Xw q0]
              simp only [Sem.run_bind,Sem.run_pure,Result.andThen_ok,he,newRow,run_newObj]
              rw [h.size];rfl
            · simp only [Sem.run_bind,run_askRoom,Result.andThen_ok,ep hs]
              rw [Xy q0]
              simp only [Sem.run_bind,Sem.run_pure,Result.andThen_ok,iK hz,hr,newRow,run_newObj]
              rw [h.size];rfl
          · cases g
  · cases g
theorem Yf {nt:Nat} {f:Fr} {sr d:TypeId} {x:Operand} {u:Value} (ha:de nt f a) (hw:cw A w) (ho:o.op=.convert sr d x) (hu:cd f.e x=some u) (h:wR P A sr d u K) :
    o.wp P a w (ki A a w o K) (iP A a w Kp):=by
  have he:=cI ha hu
  have hr:(execOp a.eval o).run P w=((convert sr d u).run P w).andThen fun v w'=>.ok (.value v) w':=by
    obtain ⟨dst,op,type,pos,after,guard⟩:=o
    simp only at ho;subst ho
    simp only [execOp,he,Sem.run_bind];rfl
  unfold wR at h
  split at h
  · rename_i el s h1 h2
    obtain ⟨g1,g2,hk⟩:=h
    have he:P.underlying el=some (.int .u8):=by
      unfold Lz at g1;split at g1
      · assumption
      · cases g1
    obtain ⟨k,w',r,hv,hs,hle⟩:=xJ hw h1 h2 he g2
    exact dr (by rw [hr,r];rfl) hv hs (hk k hle)
  · rename_i el b n c h1 h2
    obtain ⟨g1,l,g2,hk⟩:=h
    have he:P.underlying el=some (.int .u8):=by
      unfold Lz at g1;split at g1
      · assumption
      · cases g1
    have r:=xG (P:=P) hw g2 (fun _ q=>by cases q)
    exact dr (by rw [hr,run_convert_bytes_string w sr d el b n c h1 he h2,r];rfl) hw (.refl _ _) hk
  · obtain ⟨v,g,hk⟩:=h
    exact dr (run_pure (ev:=cd f.e) (fun x v g=>cI ha g) (by rw [ho];simp only [cq,hu,Sy,g])) hw (.refl _ _) hk
theorem cw.obj {b:Nat} {rw:Bool} {x:Obj} (h:cw A w) (g:A.get b=some (.obj rw x)):w.heap[b]? = some x/\∀ c e f,x ≠ .cells c e f:=h.fits b _ g
theorem jR {b:Nat} {x y:Obj} (h:cw A w) (g:A.get b=some (.obj true x)) (hy:∀ c e f,y ≠ .cells c e f) :
    ∃ w',(setObj b y).run P w=.ok () w'/\cw (A.set b (.obj true y)) w'/\fz A w (A.set b (.obj true y)) w':=by
  obtain ⟨h1,h2⟩:=h.obj g
  have hb:b < w.heap.size:=(TK.1 h1).1
  refine ⟨{ w with heap:=w.heap.setIfInBounds b y },?_,h.setRow (by simp) (fun k hk=>by simp [Tw (Ne.symm hk)]) ⟨by simp [hb],hy⟩,⟨rfl,rfl,⟨rfl,XX _⟩,by simp,fun k _ hr=>?_,fun k hk=>?_⟩⟩
  · simp only [setObj,Sem.run,h1]
  · have:k ≠ b:=by rintro rfl;simp [AH.rw,g,gv.rw] at hr
    simp [Tw (Ne.symm this)]
  · left
    simp only [AH.rw,AH.set_get] at hk ⊢
    split at hk
    · rename_i o ho
      split at ho
      · rename_i e;subst e;simp [g,gv.rw]
      · simp [ho,hk]
    · cases hk
theorem Ul {nt:Nat} {f:Fr} {t:TypeId} {x:Operand} {v:Value} (ha:de nt f a) (hw:cw A w) (ho:o.op=.range t x) (hx:cd f.e x=some v) (h:Ci P A t v K) :
    o.wp P a w (ki A a w o K) (iP A a w Kp):=by
  have he:=cI ha hx
  have hr:(execOp a.eval o).run P w=((Instr.range t v).run P w).andThen fun v w'=>.ok (.value v) w':=by
    obtain ⟨dst,op,type,pos,after,guard⟩:=o
    simp only at ho;subst ho
    simp only [execOp,he,Sem.run_bind];rfl
  unfold Ci at h
  split at h
  · rename_i s hu
    obtain ⟨v1,s1⟩:=kf (o:=.obj true (.stringIter s 0)) (x:=.stringIter s 0) hw ⟨rfl,fun _ _ _ q=>by cases q⟩
    refine dr (w':={ w with heap:=w.heap.push (.stringIter s 0) }) ?_ v1 s1 h
    rw [hr];simp only [Instr.range,Sem.run_bind,cg hu,Result.andThen_ok,Sem.run_pure,run_newObj,hw.size]
  · rename_i u1 u2 hu
    obtain ⟨v1,s1⟩:=kf (o:=.obj true (.mapIter none 0 #[] 0)) (x:=.mapIter none 0 #[] 0) hw ⟨rfl,fun _ _ _ q=>by cases q⟩
    refine dr (w':={ w with heap:=w.heap.push (.mapIter none 0 #[] 0) }) ?_ v1 s1 h
    rw [hr];simp only [Instr.range,Sem.run_bind,cg hu,Result.andThen_ok,Sem.run_pure,run_newObj,hw.size]
  · rename_i u1 u2 m hu
    obtain ⟨rw',es,clock,g,hk⟩:=h
    obtain ⟨g1,g2⟩:=hw.obj g
    obtain ⟨v1,s1⟩:=kf (o:=.obj true (.mapIter (some m) clock #[] clock)) (x:=.mapIter (some m) clock #[] clock) hw ⟨rfl,fun _ _ _ q=>by cases q⟩
    refine dr (w':={ w with heap:=w.heap.push (.mapIter (some m) clock #[] clock) }) ?_ v1 s1 hk
    rw [hr];simp only [Instr.range,Sem.run_bind,cg hu,Result.andThen_ok,dE g1 g2,Sem.run_pure,run_newObj,hw.size]
  · exact h.elim
theorem Yg {nt:Nat} {f:Fr} {b:Bool} {x:Operand} {v:Value} (ha:de nt f a) (hw:cw A w) (ho:o.op=.next x b) (hx:cd f.e x=some v) (h:Yp A v b K) :
    o.wp P a w (ki A a w o K) (iP A a w Kp):=by
  have he:=cI ha hx
  have hr:(execOp a.eval o).run P w=((Instr.next v b o.type).run P w).andThen fun v w'=>.ok (.value v) w':=by
    obtain ⟨dst,op,type,pos,after,guard⟩:=o
    simp only at ho;subst ho
    simp only [execOp,he,Sem.run_bind];rfl
  obtain ⟨k,rfl,h⟩:=h
  rcases h with ⟨rfl,s,pos,g,h1,h2⟩ | ⟨rfl,since,seen,last,g,h1⟩ | ⟨rfl,m,since,seen,last,rw',es,clock,g,gm,hmb,hborn,hcl,h1,h2⟩
  · obtain ⟨g1,g2⟩:=hw.obj g
    by_cases hp:pos < s.size
    · obtain ⟨w',r,v1,s1⟩:=jR (P:=P) hw g (y:=.stringIter s (pos + (Utf8.decode s pos).2)) (fun _ _ _ q=>by cases q)
      refine dr ?_ v1 s1 (h1 hp)
      rw [hr]
      simp only [Instr.next,Sem.run_bind,dE g1 g2,Result.andThen_ok,hp,if_true,r,Sem.run_pure,goInt]
    · refine dr ?_ hw (.refl _ _) (h2 hp)
      rw [hr]
      simp only [Instr.next,Sem.run_bind,dE g1 g2,Result.andThen_ok,hp,if_false,Sem.run_pure]
  · obtain ⟨g1,g2⟩:=hw.obj g
    refine dr ?_ hw (.refl _ _) h1
    rw [hr]
    simp only [Instr.next,Sem.run_bind,dE g1 g2,Result.andThen_ok,Sem.run_pure]
  · obtain ⟨g1,g2⟩:=hw.obj g
    obtain ⟨g3,g4⟩:=hw.obj gm
    have hold:(es.filter fun e=>!seen.contains e.born).filter (fun e=>decide (e.born < since))=i7 es seen:=by
      unfold i7
      apply Array.ext'
      simp only [Array.toList_filter]
      rw [List.filter_eq_self]
      intro y hy
      have:=(SK.1 hy).1
      simpa using hborn y (by simpa using this)
    have hnew:(es.filter fun e=>!seen.contains e.born).filter (fun e=>decide (e.born >= since)) = #[]:=by
      apply Array.ext'
      simp only [Array.toList_filter]
      rw [List.filter_eq_nil_iff]
      intro y hy
      have:=(SK.1 hy).1
      have:=hborn y (by simpa using this)
      simp;omega
    have hguard:(!seen.isEmpty && !es.isEmpty && es.all fun x=>decide (x.born >= last))=false:=by
      rcases hcl with q | q | q
      · simp [q]
      · simp [q]
      · cases q2:(es.all fun x=>decide (x.born >= last)) with
        | false=>simp
        | true=>exact absurd q2 q
    by_cases hl:i7 es seen = #[]
    · refine dr ?_ hw (.refl _ _) (h2 hl)
      rw [hr]
      simp only [Instr.next,Sem.run_bind,dE g1 g2,dE g3 g4,Result.andThen_ok,hguard,hold,hnew,hl]
      simp [Question.forced]
    · have hne:(i7 es seen).isEmpty=false:=by
        cases q:(i7 es seen).isEmpty with
        | false=>rfl
        | true=>exact absurd (Array.isEmpty_iff.1 q) hl
      have hpos:0 < (i7 es seen).size:=by
        rcases Sz (i7 es seen).size with q | q
        · exact absurd (Array.size_eq_zero_iff.1 q) hl
        · exact q
      -- whichever entry is picked
      have pick:∀ (n:Nat) (w₁:World),n < (i7 es seen).size->cw A w₁->fz A w A w₁ ->
          ∃ x w',x ∈ i7 es seen/\(i7 es seen)[n]? = some x/\(setObj k (.mapIter (some m) since (seen.push x.born) clock)).run P w₁=.ok () w'/\cw (A.set k (.obj true (.mapIter (some m) since (seen.push x.born) clock))) w'/\fz A w (A.set k (.obj true (.mapIter (some m) since (seen.push x.born) clock))) w':=by
        intro n w₁ hn hv₁ hs₁
        obtain ⟨w',r,v1,s1⟩:=jR (P:=P) hv₁ g (y:=.mapIter (some m) since (seen.push (i7 es seen)[n].born) clock) (fun _ _ _ q=>by cases q)
        exact ⟨(i7 es seen)[n],w',Array.getElem_mem hn,by simp [hn],r,v1,hs₁.trans s1⟩
      obtain ⟨v0,s0⟩:=jF hw
      by_cases hf:(Question.mapNext (i7 es seen).size).forced=true
      · obtain ⟨y,w',hy,hyn,r,v1,s1⟩:=pick 0 w hpos hw (.refl _ _)
        refine dr ?_ v1 s1 (h1 y hy)
        rw [hr]
        simp only [Instr.next,Sem.run_bind,dE g1 g2,dE g3 g4,Result.andThen_ok,hguard,hold,hnew,hne]
        simp [hf,hyn,r]
      · obtain ⟨y,w',hy,hyn,r,v1,s1⟩:=pick (Question.cut (.mapNext (i7 es seen).size) (w.tape w.drawn (.mapNext (i7 es seen).size))) w.drew (by simp only [Question.cut];exact Nat.mod_lt _ hpos) v0 s0
        refine dr ?_ v1 s1 (h1 y hy)
        rw [hr]
        simp only [Instr.next,Sem.run_bind,dE g1 g2,dE g3 g4,Result.andThen_ok,hguard,hold,hnew,hne]
        simp [hf,hyn,r]
theorem Uk {nt:Nat} {f:Fr} {x:Operand} {v:Value} (ha:de nt f a) (hw:cw A w) (ho:o.op=.entry x) (hx:cd f.e x=some v) (h:Pz A v K) :
    o.wp P a w (ki A a w o K) (iP A a w Kp):=by
  have he:=cI ha hx
  obtain ⟨b,m,since,seen,last,rw',es,y,rfl,g,gm,hmb,hs,hf,hk⟩:=h
  obtain ⟨g1,g2⟩:=hw.obj g
  obtain ⟨g3,g4⟩:=hw.obj gm
  refine dr ?_ hw (.refl _ _) hk
  obtain ⟨dst,op,type,pos,after,guard⟩:=o
  simp only at ho;subst ho
  simp only [execOp,he,Instr.entry,Sem.run_bind,dE g1 g2,dE g3 g4,Result.andThen_ok,hs,hf]
  simp
theorem ms {t:TypeId} {kd:TypeDesc} {v:Value} {b:Bool} (hu:P.underlying t=some kd) (hb:qw kd=true):(Instr.checkKey b 10000 t v).run P w=.ok () w:=by
  have e:Instr.checkKey b 10000 t v=Instr.checkKey b (9999 + 1) t v:=rfl
  rw [e]
  generalize 9999=d
  unfold Instr.checkKey
  cases kd <;> simp only [qw] at hb <;> (try (cases hb;done)) <;> cases v <;> simp only [Sem.run_bind,cg hu,Result.andThen_ok] <;> rfl
theorem NU {nt:Nat} {f:Fr} {t:TypeId} {b:Bool} {x y:Operand} {u v:Value} (ha:de nt f a) (hw:cw A w) (ho:o.op=.lookup t x y b) (hx:cd f.e x=some u) (hy:cd f.e y=some v) (h:JS P A t u v b K) :
    o.wp P a w (ki A a w o K) (iP A a w Kp):=by
  have he:=cI ha hx
  have he':=cI ha hy
  obtain ⟨kt,et,kd,z,es,r,q1,q2,q3,q4,q5,q6,hk⟩:=h
  refine dr ?_ hw (.refl _ _) hk
  obtain ⟨dst,op,type,pos,after,guard⟩:=o
  simp only at ho;subst ho
  have hfind:(Instr.findKey kt v es.toList).run P w=.ok r w:=by
    simp only [Instr.findKey,Sem.run_bind,cg q2,Result.andThen_ok,q6];rfl
  have key:(Instr.lookup t u v b).run P w=.ok (let p:=match r with | some (_,v)=>(v,true) | none=>(z,false);if b then .tuple #[p.1,.bool p.2] else p.1) w:=by
    unfold Instr.lookup
    rcases q5 with ⟨rfl,rfl⟩ | ⟨m,rw',clock,rfl,g⟩
    · simp only [Sem.run_bind,cg q1,Result.andThen_ok,Sem.run_pure,ms q2 q3,hfind]
      cases r with
      | none=>simp only [Sem.run_bind,iK q4,Result.andThen_ok,Sem.run_pure]
      | some p=>obtain ⟨i,v'⟩:=p;simp only [Sem.run_bind,Sem.run_pure,Result.andThen_ok]
    · obtain ⟨g1,g2⟩:=hw.obj g
      simp only [Sem.run_bind,cg q1,Result.andThen_ok,dE g1 g2,Sem.run_pure,ms q2 q3,hfind]
      cases r with
      | none=>simp only [Sem.run_bind,iK q4,Result.andThen_ok,Sem.run_pure]
      | some p=>obtain ⟨i,v'⟩:=p;simp only [Sem.run_bind,Sem.run_pure,Result.andThen_ok]
  simp only [execOp,he,he',Sem.run_bind,key,Result.andThen_ok];rfl
theorem zZ {nt:Nat} {f:Fr} {t:TypeId} {x y z:Operand} {u k v:Value} (ha:de nt f a) (hw:cw A w) (ho:o.op=.mapUpdate t x y z\/o.op=.insert t x y z) (hx:cd f.e x=some u) (hy:cd f.e y=some k) (hz:cd f.e z=some v) (h:CF P A t u k v K) :
    o.wp P a w (ki A a w o K) (iP A a w Kp):=by
  have he:=cI ha hx
  have he':=cI ha hy
  have V:=cI ha hz
  have hr:(execOp a.eval o).run P w=((Instr.mapUpdate t u k v).run P w).andThen fun _ w'=>.ok .skip w':=by
    obtain ⟨dst,op,type,pos,after,guard⟩:=o
    rcases ho with ho | ho <;> (simp only at ho;subst ho;simp only [execOp,he,he',V,Sem.run_bind];rfl)
  obtain ⟨kt,et,kd,m,es,clock,r,q1,q2,q3,rfl,g,q6,hk⟩:=h
  obtain ⟨g1,g2⟩:=hw.obj g
  have hfind:(Instr.findKey kt k es.toList).run P w=.ok r w:=by
    simp only [Instr.findKey,Sem.run_bind,cg q2,Result.andThen_ok,q6];rfl
  cases r with
  | none =>
    obtain ⟨w',r,v1,s1⟩:=jR (P:=P) hw g (y:=.map (es.push { key:=k,val:=v,born:=clock }) (clock + 1)) (fun _ _ _ q=>by cases q)
    refine yh ?_ v1 s1 hk
    rw [hr]
    simp only [Instr.mapUpdate,Sem.run_bind,cg q1,Result.andThen_ok,dE g1 g2,ms q2 q3,hfind,r]
  | some p =>
    obtain ⟨i,v'⟩:=p
    obtain ⟨⟨x',hx',hsb⟩,hk⟩:=hk
    obtain ⟨w',r,v1,s1⟩:=jR (P:=P) hw g (y:=.map (es.modify i fun y=>{ y with key:=k,val:=v }) clock) (fun _ _ _ q=>by cases q)
    refine yh ?_ v1 s1 hk
    rw [hr]
    simp only [Instr.mapUpdate,Sem.run_bind,cg q1,Result.andThen_ok,dE g1 g2,ms q2 q3,hfind,hx',Rw,Option.getD_some,Instr.keyThatStays,hsb,if_true,Sem.run_pure,r]
theorem rz {nt:Nat} {f:Fr} (ha:de nt f a) (hw:cw A w) (h:kY P f.e A o K Kp) :
    o.wp P a w (ki A a w o K) (iP A a w Kp):=by
  have hev:∀ x v,cd f.e x=some v->a.eval x=v:=fun x v g=>cI ha g
  have pure:(∃ v,cq P (cd f.e) o.op=some v/\K v A)->o.wp P a w (ki A a w o K) (iP A a w Kp):=fun ⟨v,g,hk⟩ =>
    dr (run_pure hev g) hw (.refl _ _) hk
  obtain ⟨dst,op,type,pos,after,guard⟩:=o
  cases op <;> simp only [kY] at h <;> (try exact h.elim) <;> (try exact pure h)
  case alloc t =>
    obtain ⟨z,hz,hk⟩:=h
    obtain ⟨v1,s1⟩:=lU (c:=z.cells) (elem:=t) hw
    refine dr (w':={ w with heap:=w.heap.push (.cells z.cells t) }) ?_ v1 s1 hk
    simp only [execOp,Instr.alloc,Sem.run_bind,iK hz,Result.andThen_ok,newVar,newRow,run_newObj,Sem.run_pure,hw.size]
  case box t x =>
    obtain ⟨v,hx,hk⟩:=h
    obtain ⟨v1,s1⟩:=lU (c:=v.cells) (elem:=t) hw
    refine dr (w':={ w with heap:=w.heap.push (.cells v.cells t) }) ?_ v1 s1 hk
    simp only [execOp,Instr.box,hev _ _ hx,Sem.run_bind,Result.andThen_ok,newVar,newRow,run_newObj,Sem.run_pure,hw.size]
  case load t x =>
    obtain ⟨u,v,hx,hl,hk⟩:=h
    exact dr (by simp only [execOp,hev _ _ hx,Sem.run_bind,zJ hw hl,Result.andThen_ok];rfl) hw (.refl _ _) hk
  case store t x y =>
    obtain ⟨u,v,A',hx,hy,hl,hk⟩:=h
    obtain ⟨w',r,g1,g2⟩:=IK (P:=P) hw hl
    exact yh (by simp only [execOp,hev _ _ hx,hev _ _ hy,Sem.run_bind,r,Result.andThen_ok];rfl) g1 g2 hk
  case build t ps =>
    obtain ⟨l,v,hl,hb,hk⟩:=h
    exact dr (by simp only [execOp,Sem.run_bind,zG (ps:=ps.map fun (i,x)=>(i,a.eval x)) (by simpa using sG hev _ _ hl) hb,Result.andThen_ok];rfl) hw (.refl _ _) hk
  case buildSlice t n ps =>
    obtain ⟨l,c,hl,hb,hk⟩:=h
    obtain ⟨w',r,g1,g2⟩:=xE (ps:=ps.map fun (i,x)=>(i,a.eval x)) hw (by simpa using sG hev _ _ hl) hb
    exact dr (by simp only [execOp,Sem.run_bind,r,Result.andThen_ok];rfl) g1 g2 hk
  case convert s d x =>
    obtain ⟨v,hx,hc⟩:=h
    exact Yf ha hw Z hx hc
  case makeMap t r =>
    cases r with
    | some _=>exact h.elim
    | none =>
      obtain ⟨v1,s1⟩:=kf (o:=.obj true (.map #[] 0)) (x:=.map #[] 0) hw ⟨rfl,fun _ _ _ q=>by cases q⟩
      refine dr (w':={ w with heap:=w.heap.push (.map #[] 0) }) ?_ v1 s1 h
      simp [execOp,Instr.makeMap,hw.size]
  case makeSlice t l c =>
    obtain ⟨u,v,n,k,cs,hu,hv,hm,hk⟩:=h
    obtain ⟨w',r,g1,g2⟩:=yH (P:=P) hw hm
    exact dr (by simp only [execOp,hev _ _ hu,hev _ _ hv,Sem.run_bind,r,Result.andThen_ok];rfl) g1 g2 hk
  case slice t x lo hi mx =>
    cases mx with
    | some _=>exact h.elim
    | none=>exact pure h
  case call c=>exact Ye ha hw Z h
  case range t x=>obtain ⟨v,hx,h⟩:=h;exact Ul ha hw Z hx h
  case next x b=>obtain ⟨v,hx,h⟩:=h;exact Yg ha hw Z hx h
  case entry x=>obtain ⟨v,hx,h⟩:=h;exact Uk ha hw Z hx h
  case lookup t x y b=>obtain ⟨u,v,hx,hy,h⟩:=h;exact NU ha hw Z hx hy h
  case mapUpdate t x y z=>obtain ⟨u,k,v,hx,hy,hz,h⟩:=h;exact zZ ha hw (.inl Z) hx hy hz h
  case insert t x y z=>obtain ⟨u,k,v,hx,hy,hz,h⟩:=h;exact zZ ha hw (.inr Z) hx hy hz h
end
end V
namespace V
section
variable {P:Program} {ops:Array Oper} {Q:Exit->Act->World->Prop}
def fF (P:Program) (ops:Array Oper) (Q:Exit->Act->World->Prop) (S:Array Bool->World->Prop):Nat->Array Bool->Act->World->Prop
  | 0,listed,a,w=>Region.ready .any ops listed=[]/\Q .normal a w
  | fuel + 1,listed,a,w =>
    (Region.ready .any ops listed=[]->Q .normal a w) /\
    ∀ i ∈ Region.ready .any ops listed,wpOp P ops Q i (fun a' w'=>S (listed.setIfInBounds i true) w'/\fF P ops Q S fuel (listed.setIfInBounds i true) a' w') a w
theorem kO {S:Array Bool->World->Prop}:∀ (fuel:Nat) (listed:Array Bool) (a:Act) (w:World),fF P ops Q S fuel listed a w->wpAny P .any ops Q fuel listed a w
  | 0,_,_,_,h=>h
  | fuel + 1,_,_,_,h=>⟨h.1,fun i hi=>wpOp_mono (fun a' w' h'=>kO fuel _ a' w' h'.2) (h.2 i hi)⟩
theorem ma {S S':Array Bool->World->Prop} {x:Nat} (hS:∀ l w,l.getD x false=true->S l w->S' l w):∀ (fuel:Nat) (listed:Array Bool) (a:Act) (w:World),listed.getD x false=true->fF P ops Q S fuel listed a w->fF P ops Q S' fuel listed a w
  | 0,_,_,_,_,h=>h
  | fuel + 1,_,_,_,hx,h=>⟨h.1,fun i hi=>wpOp_mono (fun a' w' h'=>⟨hS _ w' (getD_set_true hx) h'.1,ma hS fuel _ a' w' (getD_set_true hx) h'.2⟩) (h.2 i hi)⟩
def mw (ops:Array Oper) (i:Nat):Nat->Nat->Bool
  | 0,_=>false
  | n + 1,j=>match ops[j]? with
    | none=>false
    | some o=>o.after.any fun e=>Region.binds .any e && (e.on == i || mw ops i n e.on)
def md (ops:Array Oper) (listed:Array Bool):Prop :=
  ∀ j o,ops[j]? = some o->listed.getD j false=true->∀ e ∈ o.after,Region.binds .any e=true->listed.getD e.on false=true
theorem kq {listed:Array Bool} (hc:md ops listed) {i:Nat}:∀ (n j:Nat) (o:Oper),ops[j]? = some o->(∀ e ∈ o.after,Region.binds .any e=true->listed.getD e.on false=true)->mw ops i n j=true->listed.getD i false=true:=by
  intro n
  induction n with
  | zero=>intro j o _ _ h;cases h
  | succ n ih =>
    intro j o ho hall h
    simp only [mw,ho] at h
    obtain ⟨e,he,h⟩:=Array.any_eq_true'.1 h
    simp only [XK,Bool.or_eq_true,Qy] at h
    obtain ⟨hb,h⟩:=h
    rcases h with rfl | h
    · exact hall e he hb
    · cases hk:ops[e.on]? with
      | none=>cases n <;> simp [mw,hk] at h
      | some ok=>exact ih e.on ok hk (hc e.on ok hk (hall e he hb)) h
theorem iG {listed:Array Bool} (hc:md ops listed) {i:Nat} (hr:i ∈ Region.ready .any ops listed):md ops (listed.setIfInBounds i true):=by
  intro j o ho hj e he hb
  obtain ⟨_,oi,hoi,hall⟩:=mem_ready.1 hr
  by_cases q:i=j
  · subst q;rw [hoi] at ho;cases ho;exact getD_set_true (hall e he hb)
  · rw [getD_set_ne false q] at hj;exact getD_set_true (hc j o ho hj e he hb)
theorem i6 {listed:Array Bool} {i:Nat} (h:listed.getD i true=false):listed.getD i false=false:=by
  rcases VW i listed.size with h' | h'
  · simp [h'] at h ⊢;exact h
  · simp [RQ h'] at h
theorem pM {S:Array Bool->World->Prop} {T:World->Prop} {i:Nat} {oi:Oper} {v:Value} (hi:ops[i]? = some oi) (hsel:∀ (j:Nat) (o:Oper) cs b,ops[j]? = some o->o.op ≠ .select cs b)
    (hQ:∀ c a w,Q (.panic c) (a.put oi.dst v) w->Q (.panic c) a w) (hST:∀ l w,md ops l->l.getD i true=false->S l w->T w) (hSi:∀ l w,S (l.setIfInBounds i true) w ↔ S l w) :
    ∀ (fuel:Nat) (listed:Array Bool) (a:Act) (w:World),md ops listed ->
      (∀ j oj,ops[j]? = some oj->j ≠ i->listed.getD j true=false->(∀ e ∈ oj.after,Region.binds .any e=true->e.on ≠ i)->oi.apart ops oj=true) ->
      i ∈ Region.ready .any ops listed->YieldsIf P ops T oi v a->S listed w ->
      fF P ops Q S fuel (listed.setIfInBounds i true) (a.put oi.dst v) w->fF P ops Q S (fuel + 1) listed a w:=by
  intro fuel
  induction fuel with
  | zero =>
    intro listed a w hcl _ hr hy hS H
    refine ⟨fun h=>(by rw [h] at hr;cases hr),fun j hj=>?_⟩
    by_cases hji:j=i
    · subst hji;exact hy.wpOp hi (hST _ _ hcl (mem_ready.1 hr).1 hS) ⟨(hSi _ _).2 hS,H⟩
    · have:=ready_mono hj hji
      rw [H.1] at this
      cases this
  | succ fuel ih =>
    intro listed a w hcl hfree hr hy hS H
    refine ⟨fun h=>(by rw [h] at hr;cases hr),fun j hj=>?_⟩
    by_cases hji:j=i
    · subst hji;exact hy.wpOp hi (hST _ _ hcl (mem_ready.1 hr).1 hS) ⟨(hSi _ _).2 hS,H⟩
    · have h1:=H.2 j (ready_mono hj hji)
      obtain ⟨hjun,oj,hoj,hall⟩:=mem_ready.1 hj
      have hnot:∀ e ∈ oj.after,Region.binds .any e=true->e.on ≠ i:=fun e he hb heq=>by
        have h1:=hall e he hb
        have h0:=(mem_ready.1 hr).1
        rw [heq] at h1
        rw [i6 h0] at h1;cases h1
      have h2:=wpOp_putIf (S:=T) hoj (hfree j oj hoj hji hjun hnot) (fun cs b=>hsel i oi cs b hi) (fun cs b=>hsel j oj cs b hoj) hQ hy h1
      have hfree':∀ k ok,ops[k]? = some ok->k ≠ i->(listed.setIfInBounds j true).getD k true=false ->
          (∀ e ∈ ok.after,Region.binds .any e=true->e.on ≠ i)->oi.apart ops ok=true:=fun k ok hk hki hun hno=>by
        refine hfree k ok hk hki ?_ hno
        by_cases hjk:j=k
        · subst hjk;exact hjun
        · rw [getD_set_ne true hjk] at hun;exact hun
      refine wpOp_mono (fun a' w' h3=>?_) h2
      have hS':S (listed.setIfInBounds j true) w':=by
        have:=h3.2.1
        rw [Array.setIfInBounds_comm _ _ (Ne.symm hji),hSi] at this
        exact this
      refine ⟨hS',ih (listed.setIfInBounds j true) a' w' (iG hcl hj) hfree' (ready_mono hr (Ne.symm hji)) h3.1 hS' ?_⟩
      rw [Array.setIfInBounds_comm _ _ hji]
      exact h3.2.2
end
abbrev fx:=List (Addr × Value)
def f8 (T:fx) (w:World):Prop:=∀ p ∈ T,w.cell? p.1=some p.2
def du:Op->Bool
  | .move _ | .assign _ | .pick .. | .nilCheck _ | .binOp .. | .unOp .. | .makeFunc .. | .fieldAddr .. | .field .. | .indexAddr .. | .index .. | .extract .. | .load .. | .slice _ _ _ _ none=>true
  | .convert ..=>true
  | .build ..=>true
  | .call { callee:=.builtin .len,.. }=>true
  | .call { callee:=.builtin .max,.. }=>true
  | .call { callee:=.builtin .min,.. }=>true
  | _=>false
def ni (ops:Array Oper):Array Bool->List Nat->Bool
  | listed,[]=>(Region.ready .any ops listed).isEmpty
  | listed,i :: C=>match ops[i]? with
    | none=>false
    | some o =>
      if du o.op then (Region.ready .any ops listed).contains i && Region.free .any ops listed i && ni ops (listed.setIfInBounds i true) C
      else (Region.ready .any ops listed == [i]) && ni ops (listed.setIfInBounds i true) C
def loud (ops:Array Oper) (j:Nat):Prop:=∃ o,ops[j]? = some o/\du o.op=false
def d6 (ops:Array Oper) (held:List (Nat × fx)) (l:Array Bool) (w:World):Prop :=
  ∀ p ∈ held,(∀ j,l.getD j false=true->loud ops j->mw ops p.1 ops.size j=false)->f8 p.2 w
section
variable {P:Program} {nt:Nat} {ops:Array Oper} {Q:Exit->Fr->AH->Prop} {f:Fr} {A:AH}
def DOps (P:Program) (nt:Nat) (ops:Array Oper) (Q:Exit->Fr->AH->Prop) (listed:Array Bool) (held:List (Nat × fx)) (C:List Nat) (f:Fr) (A:AH):Prop :=
  ni ops listed C=true->Region.noSelect ops=true->∀ a w,de nt f a->cw A w->d6 ops held listed w->md ops listed ->
    ∀ (A₀:AH) (w₀:World),fz A₀ w₀ A w->fF P ops (d9 nt Q A₀ w₀) (d6 ops held) C.length listed a w
theorem jI {held:List (Nat × fx)} {i:Nat} {o:Oper} (ho:ops[i]? = some o) (hq:du o.op=true) (l:Array Bool) (w:World) :
    d6 ops held (l.setIfInBounds i true) w ↔ d6 ops held l w:=by
  have key:∀ j,loud ops j->(l.setIfInBounds i true).getD j false=l.getD j false:=fun j ⟨o',h1,h2⟩=>by
    have:i ≠ j:=by rintro rfl;rw [ho] at h1;cases h1;rw [hq] at h2;cases h2
    exact getD_set_ne false this
  constructor
  · intro h p hp hj;exact h p hp fun j hl hlo=>hj j (by rw [key j hlo] at hl;exact hl) hlo
  · intro h p hp hj;exact h p hp fun j hl hlo=>hj j (by rw [key j hlo];exact hl) hlo
theorem u7 {A₀:AH} {w₀:World} (d:Option Nat) (v:Value) (c:List PanicEntry) (a:Act) (w:World) (h:d9 nt Q A₀ w₀ (.panic c) (a.put d v) w):d9 nt Q A₀ w₀ (.panic c) a w:=by
  obtain ⟨f',A',g1,g2,g3,g4,g5⟩:=h
  obtain ⟨fe,fds⟩:=f'
  have:fe=[]:=g5 c Z
  subst this
  refine ⟨⟨[],fds⟩,A',⟨?_,(fun _ _ q=>by cases q),?_⟩,g2,g3,g4,fun _ _=>rfl⟩
  · have:=g1.size;cases d <;> simp [Act.put] at this <;> exact this
  · have:=g1.ds;cases d <;> simp [Act.put] at this <;> exact this
theorem DOps.quiet {listed:Array Bool} {held:List (Nat × fx)} {i:Nat} {C:List Nat} {o:Oper} {v:Value} {T:fx} (ho:ops[i]? = some o) (hq:du o.op=true) (hd:∀ t,o.dst=some t->t < nt)
    (hv:∀ a w,de nt f a->cw A w->f8 T w/\YieldsIf P ops (f8 T) o v a)
    (h:DOps P nt ops Q (listed.setIfInBounds i true) ((i,T) :: held) C ⟨gw f.e o.dst v,f.ds⟩ A):DOps P nt ops Q listed held (i :: C) f A:=by
  intro hc hn a w ha hw hh hcl A₀ w₀ hs
  simp only [ni,ho,Xw hq,XK] at hc
  obtain ⟨⟨c1,c2⟩,c3⟩:=hc
  obtain ⟨t1,t2⟩:=hv a w ha hw
  have hr:i ∈ Region.ready .any ops listed:=by simpa using c1
  have hheld:d6 ops ((i,T) :: held) listed w:=fun p hp hj=>by
    rcases Vy.1 hp with rfl | hp
    · exact t1
    · exact hh p hp hj
  have H:=h c3 hn _ w (ha.put o.dst v hd) hw ((jI ho hq _ _).2 hheld) (iG hcl hr) A₀ w₀ hs
  have free:=Region.free_spec ho c2
  have H':fF P ops (d9 nt Q A₀ w₀) (d6 ops ((i,T) :: held)) (C.length + 1) listed a w :=
    pM (T:=f8 T) ho (Region.noSelect_spec hn) (fun c a w g=>u7 _ _ c a w g)
      (fun l w' hcl' hun hS=>hS (i,T) (VX ..) fun j hl ⟨oj,hoj,_⟩=>by
        cases q:mw ops i ops.size j with
        | false=>rfl
        | true =>
          have:=kq hcl' ops.size j oj hoj (hcl' j oj hoj hl) q
          rw [i6 hun] at this;cases this)
      (fun l w'=>jI ho hq l w') _ listed a w hcl (fun j oj hoj hne hun hno=>free j oj hoj hne hun hno) hr t2 hheld H
  -- less is asked
  have weaken:∀ (fuel:Nat) (l:Array Bool) (a:Act) (w:World),fF P ops (d9 nt Q A₀ w₀) (d6 ops ((i,T) :: held)) fuel l a w->fF P ops (d9 nt Q A₀ w₀) (d6 ops held) fuel l a w:=by
    intro fuel
    induction fuel with
    | zero=>intro l a w h;exact h
    | succ fuel ih=>intro l a w h;exact ⟨h.1,fun j hj=>wpOp_mono (fun a' w' h'=>⟨fun p hp=>h'.1 p (VZ _ hp),ih _ _ _ h'.2⟩) (h.2 j hj)⟩
  exact weaken _ _ _ _ H'
theorem DOps.loudOff {listed:Array Bool} {held:List (Nat × fx)} {i:Nat} {C:List Nat} {o:Oper} (ho:ops[i]? = some o) (hq:du o.op=false) (hd:∀ t,o.dst=some t->t < nt) (hwn:∀ a:Act,de nt f a->Region.wanted o (yielded ops a.tmps)=false)
    (h:DOps P nt ops Q (listed.setIfInBounds i true) (held.filter fun p=>!mw ops p.1 ops.size i) C ⟨gw f.e o.dst undef,f.ds⟩ A):DOps P nt ops Q listed held (i :: C) f A:=by
  intro hc hn a w ha hw hh hcl A₀ w₀ hs
  simp only [ni,ho,hq,RV,if_false,XK,Qy] at hc
  obtain ⟨c1,c2⟩:=hc
  have hr:i ∈ Region.ready .any ops listed:=by rw [c1];simp
  have hlt:i < listed.size:=by
    have:=(mem_ready.1 hr).1
    rcases VW i listed.size with h' | h'
    · exact h'
    · simp [RQ h'] at this
  have hl:(listed.setIfInBounds i true).getD i false=true:=by simp [hlt]
  simp only [Xq]
  refine ⟨fun h0=>(by rw [c1] at h0;cases h0),fun j hj=>?_⟩
  rw [c1,XW] at hj
  subst hj
  unfold wpOp
  simp only [ho,hwn a ha,RV,if_false]
  have hh':d6 ops held (listed.setIfInBounds j true) w:=fun p hp hj=>hh p hp fun k hk hlo=>hj k (getD_set_true hk) hlo
  refine ⟨hh',?_⟩
  have hlo:V.loud ops j:=⟨o,ho,hq⟩
  have H:=h c2 hn _ w (ha.put o.dst undef hd) hw (fun p hp hj=>hh' p (SK.1 hp).1 hj) (iG hcl hr) A₀ w₀ hs
  refine ma (x:=j) (fun l w hx hS p hp hj=>hS p (SK.2 ⟨hp,?_⟩) hj) _ _ _ _ hl H
  simp [hj j hx hlo]
theorem DOps.loud {listed:Array Bool} {held:List (Nat × fx)} {i:Nat} {C:List Nat} {o:Oper} (ho:ops[i]? = some o) (hq:du o.op=false) (hd:∀ t,o.dst=some t->t < nt) (hwn:∀ a:Act,de nt f a->Region.wanted o (yielded ops a.tmps)=true)
    (h:∀ (K:Value->AH->Prop) (Kp:List PanicEntry->AH->Prop),
      (∀ v A',(∀ w',cw A' w'->∀ p ∈ held,mw ops p.1 ops.size i=false->f8 p.2 w')->DOps P nt ops Q (listed.setIfInBounds i true) (held.filter fun p=>!mw ops p.1 ops.size i) C ⟨gw f.e o.dst v,f.ds⟩ A'->K v A') ->
      (∀ ch A',Q (.panic ch) ⟨[],f.ds⟩ A'->Kp ch A')->kY P f.e A o K Kp):DOps P nt ops Q listed held (i :: C) f A:=by
  intro hc hn a w ha hw hh hcl A₀ w₀ hs
  simp only [ni,ho,hq,RV,if_false,XK,Qy] at hc
  obtain ⟨c1,c2⟩:=hc
  have hr:i ∈ Region.ready .any ops listed:=by rw [c1];simp
  have hlt:i < listed.size:=by
    have:=(mem_ready.1 hr).1
    rcases VW i listed.size with h' | h'
    · exact h'
    · simp [RQ h'] at this
  have hl:(listed.setIfInBounds i true).getD i false=true:=by simp [hlt]
  simp only [Xq]
  refine ⟨fun h0=>(by rw [c1] at h0;cases h0),fun j hj=>?_⟩
  rw [c1,XW] at hj
  subst hj
  unfold wpOp
  simp only [ho,hwn a ha,if_true]
  left
  have:=rz (o:=o) (K:=fun v A'=>(∀ w',cw A' w'->∀ p ∈ held,mw ops p.1 ops.size j=false->f8 p.2 w')/\DOps P nt ops Q (listed.setIfInBounds j true) (held.filter fun p=>!mw ops p.1 ops.size j) C ⟨gw f.e o.dst v,f.ds⟩ A')
    (Kp:=fun ch A'=>Q (.panic ch) ⟨[],f.ds⟩ A') ha hw (h _ _ (fun v A' g1 g2=>⟨g1,g2⟩) (fun ch A' g=>g))
  unfold Oper.wp at this ⊢
  have up:∀ r,o.upon P a (ki A a w o fun v A'=>(∀ w',cw A' w'->∀ p ∈ held,mw ops p.1 ops.size j=false->f8 p.2 w')/\DOps P nt ops Q (listed.setIfInBounds j true) (held.filter fun p=>!mw ops p.1 ops.size j) C ⟨gw f.e o.dst v,f.ds⟩ A') (iP A a w fun ch A'=>Q (.panic ch) ⟨[],f.ds⟩ A') r ->
      o.upon P a (fun a' w'=>d6 ops held (listed.setIfInBounds j true) w'/\fF P ops (d9 nt Q A₀ w₀) (d6 ops held) C.length (listed.setIfInBounds j true) a' w') (d9 nt Q A₀ w₀) r:=by
    have next:∀ a' w',(ki A a w o fun v A'=>(∀ w',cw A' w'->∀ p ∈ held,mw ops p.1 ops.size j=false->f8 p.2 w')/\DOps P nt ops Q (listed.setIfInBounds j true) (held.filter fun p=>!mw ops p.1 ops.size j) C ⟨gw f.e o.dst v,f.ds⟩ A') a' w' ->
        d6 ops held (listed.setIfInBounds j true) w'/\fF P ops (d9 nt Q A₀ w₀) (d6 ops held) C.length (listed.setIfInBounds j true) a' w':=by
      rintro a' w' ⟨v,A',rfl,hv',hs',g1,g2⟩
      have hlo:V.loud ops j:=⟨o,ho,hq⟩
      have hh':d6 ops held (listed.setIfInBounds j true) w':=fun p hp hj=>g1 w' hv' p hp (hj j hl hlo)
      refine ⟨hh',?_⟩
      have H:=g2 c2 hn _ w' (ha.put o.dst v hd) hv' (fun p hp hj=>hh' p (SK.1 hp).1 hj) (iG hcl hr) A₀ w₀ (hs.trans hs')
      refine ma (x:=j) (fun l w hx hS p hp hj=>hS p (SK.2 ⟨hp,?_⟩) hj) _ _ _ _ hl H
      simp [hj j hx hlo]
    have pan:∀ x a' w',iP A a w (fun ch A'=>Q (.panic ch) ⟨[],f.ds⟩ A') x a' w'->d9 nt Q A₀ w₀ x a' w':=by
      rintro x a' w' ⟨ch,A',rfl,rfl,hv',hs',g⟩
      exact ⟨⟨[],f.ds⟩,A',⟨ha.size,(fun _ _ q=>by cases q),ha.ds⟩,hv',hs.trans hs',g,fun _ _=>rfl⟩
    intro r hr'
    cases r with
    | ok n w' =>
      cases n <;> simp only [Oper.upon] at hr' ⊢ <;> (try exact hr'.elim)
      case value v=>exact next _ _ hr'
      case skip=>exact next _ _ hr'
      case defer d=>exact next _ _ hr'
      case enter f' args =>
        refine hr'.mono fun e w'' he=>?_
        cases e with
        | returned v=>exact next _ _ he
        | panicked ch=>exact pan _ _ _ he
        | outgrown=>obtain ⟨a₁,w₁,ch,A',q,_⟩:=he;cases q
      case row row args=>exact hr'.mono fun v w'' he=>next _ _ he
    | halt x w' =>
      cases x <;> simp only [Oper.upon] at hr' ⊢ <;> (try exact hr'.elim)
      case panic v=>exact pan _ _ _ hr'
  exact up _ this
theorem DOps.done {listed:Array Bool} {held:List (Nat × fx)} (h:Q .normal f A):DOps P nt ops Q listed held [] f A:=by
  intro hc _ a w ha hw _ _ A₀ w₀ hs
  simp only [ni,List.isEmpty_iff] at hc
  exact ⟨hc,f,A,ha,hw,hs,h,fun _ q=>by cases q⟩
theorem ak.drawn {id:Nat} (C:List Nat) (hm:P.follows .mixedOrders=true) (hc:ni ops (Array.replicate ops.size false) C=true) (hn:Region.noSelect ops=true) (hl:C.length=ops.size)
    (h:DOps P nt ops Q (Array.replicate ops.size false) [] C f A):ak P nt (.region id ops true) Q f A:=by
  intro a w ha hw
  obtain ⟨v1,s1⟩:=jF hw
  refine wp_mono (wp_region_any hm (kO (Q:=d9 nt Q A w) (S:=d6 ops []) _ _ _ _ ?_)) (fun _ _ _=>d9.q)
  have key:=h hc hn a _ ha v1 (fun p hp=>by cases hp) (fun j o _ hj=>by
    exfalso
    rcases VW j ops.size with q | q
    · simp [q] at hj
    · simp [q] at hj) A w s1
  rw [hl] at key
  exact key
end
end V
namespace V
section
variable {P:Program} {nt:Nat} {all ops:Array Oper} {Q:Exit->Fr->AH->Prop} {f:Fr} {A:AH}
def Ops (P:Program) (nt:Nat) (all:Array Oper) (os:List Oper) (Q:Exit->Fr->AH->Prop) (f:Fr) (A:AH):Prop :=
  ∀ a w,de nt f a->cw A w->∀ (A₀:AH) (w₀:World),fz A₀ w₀ A w->wpList P all (mL nt Q A₀ w₀) os a w
theorem Ops.nil (h:Q .normal f A):Ops P nt all [] Q f A:=fun _ _ ha hw _ _ hs=>⟨f,A,ha,hw,hs,h,fun _ q=>by cases q⟩
def ij (nt:Nat):Option Nat->Bool
  | none=>true
  | some t=>Nat.blt t nt
theorem dc {d:Option Nat} (h:ij nt d=true):∀ t,d=some t->t < nt:=by
  rintro t rfl;simpa [ij,Nat.blt_eq] using h
theorem Ops.run {o:Oper} {os:List Oper} (hw:∀ a:Act,de nt f a->Region.wanted o (yielded all a.tmps)=true) (hd:ij nt o.dst=true)
    (h:∀ (K:Value->AH->Prop) (Kp:List PanicEntry->AH->Prop),(∀ v A',Ops P nt all os Q ⟨gw f.e o.dst v,f.ds⟩ A'->K v A')->(∀ ch A',Q (.panic ch) f A'->Kp ch A')->kY P f.e A o K Kp) :
    Ops P nt all (o :: os) Q f A:=by
  intro a w ha hv A₀ w₀ hs
  have:=rz (o:=o) ha hv (h (fun v A'=>Ops P nt all os Q ⟨gw f.e o.dst v,f.ds⟩ A') (fun ch A'=>Q (.panic ch) f A') (fun _ _ g=>g) (fun _ _ g=>g))
  unfold wpList
  rw [Xw (hw a ha)]
  left
  unfold Oper.wp at this ⊢
  generalize (execOp a.eval o).run P w=r at this ⊢
  have next:∀ a' w',ki A a w o (fun v A'=>Ops P nt all os Q ⟨gw f.e o.dst v,f.ds⟩ A') a' w'->wpList P all (mL nt Q A₀ w₀) os a' w':=by
    rintro a' w' ⟨v,A',rfl,hv',hs',g⟩
    exact g _ w' (ha.put o.dst v (dc hd)) hv' A₀ w₀ (hs.trans hs')
  have pan:∀ x a' w',iP A a w (fun ch A'=>Q (.panic ch) f A') x a' w'->mL nt Q A₀ w₀ x a' w':=by
    rintro x a' w' ⟨ch,A',rfl,rfl,hv',hs',g⟩
    exact ⟨f,A',ha,hv',hs.trans hs',g,fun _ _=>trivial⟩
  cases r with
  | ok n w' =>
    cases n <;> simp only [Oper.upon] at this ⊢ <;> (try exact this.elim)
    case value v=>exact next _ _ this
    case skip=>exact next _ _ this
    case defer d=>exact next _ _ this
    case enter f' args =>
      refine this.mono fun e w'' he=>?_
      cases e with
      | returned v=>exact next _ _ he
      | panicked ch=>exact pan _ _ _ he
      | outgrown=>obtain ⟨a₁,w₁,ch,A',q,_⟩:=he;cases q
    case row row args=>exact this.mono fun v w'' he=>next _ _ he
  | halt x w' =>
    cases x <;> simp only [Oper.upon] at this ⊢ <;> (try exact this.elim)
    case panic v=>exact pan _ _ _ this
theorem Ops.cons {o:Oper} {os:List Oper} (hg:o.guard=none) (hd:ij nt o.dst=true)
    (h:∀ (K:Value->AH->Prop) (Kp:List PanicEntry->AH->Prop),(∀ v A',Ops P nt all os Q ⟨gw f.e o.dst v,f.ds⟩ A'->K v A')->(∀ ch A',Q (.panic ch) f A'->Kp ch A')->kY P f.e A o K Kp) :
    Ops P nt all (o :: os) Q f A:=Ops.run (fun a _=>by simp [Region.wanted,hg]) hd h
def jp (all:Array Oper) (j:Nat):Option Nat:=(all[j]?).bind (·.dst)
theorem kQ {a:Act} {j t:Nat} {b:Bool} (ha:de nt f a) (ht:jp all j=some t) (hv:cA f.e t=some (.bool b)):yielded all a.tmps j=some b:=by
  unfold jp at ht
  obtain ⟨h1,h2⟩:=ha.slot t _ hv
  have hs:=ha.size
  unfold yielded
  rw [ht]
  have:a.tmps[t]? = some (.bool b):=by
    have hlt:t < a.tmps.size:=by omega
    simp [Array.getElem?_eq_getElem hlt] at h1 ⊢
    exact h1
  simp [this]
theorem ak.region {id:Nat} {l:List Oper} (h:Ops P nt l.toArray l Q f A):ak P nt (.region id l.toArray false) Q f A :=
  fun a w ha hw=>wp_region_lit (h a w ha hw A w (.refl _ _))
def jl (a:Addr):Nat->List Value->fx
  | _,[]=>[]
  | i,v :: vs=>(a.add i,v) :: jl a (i + 1) vs
theorem Aq {a:Addr} {w:World}:∀ (vs:List Value) (i:Nat),f8 (jl a i vs) w->∀ acc:Array Value,(loadCellsFrom a i vs.length acc).run P w=.ok (acc ++ vs.toArray) w:=by
  intro vs
  induction vs with
  | nil=>intro i _ acc;simp [loadCellsFrom]
  | cons v vs ih =>
    intro i h acc
    have h1:w.cell? (a.add i)=some v:=h (a.add i,v) (by simp [jl])
    simp only [Xq,loadCellsFrom,Sem.run_bind,run_load,h1,Result.andThen_ok]
    rw [ih (i + 1) (fun p hp=>h p (by simp [jl,hp])) (acc.push v)]
    simp
theorem yB {a:Addr} {w:World} {rw:Bool} {c:List Value} {cap:Nat} (hv:cw A w) (hs:a.spot.isSome=false) (g:A.get a.block=some (.row rw c cap)) :
    ∀ (n i:Nat),a.off + i + n<=c.length->f8 (jl a i ((c.drop (a.off + i)).take n)) w:=by
  intro n
  induction n with
  | zero=>intro i _ p hp;simp [jl] at hp
  | succ n ih =>
    intro i hn p hp
    have hlt:a.off + i < c.length:=by omega
    rw [Tv hlt,List.take_succ_cons] at hp
    simp only [jl,Vy] at hp
    rcases hp with rfl | hp
    · exact hv.cell (by rw [o9 a i hs];simp [AH.cell,g,SW hlt])
    · exact ih (i + 1) O p (by simpa [Nat.add_assoc] using hp)
def cellsOf (P:Program) (t:TypeId) (v:Value):List Value :=
  match dM P t,v with
  | some true,.agg cs=>cs.toList
  | _,v=>[v]
theorem LY {t:TypeId} {a:Addr} {v:Value} {w:World} (hv:cw A w) (g:ld P A t (.pointer (some a))=some v) :
    f8 (jl a 0 (cellsOf P t v)) w/\∀ w',f8 (jl a 0 (cellsOf P t v)) w'->(Instr.loadAt t (.pointer (some a))).run P w'=.ok v w':=by
  simp only [ld] at g
  cases ha:dM P t with
  | none=>simp [ha] at g
  | some b =>
    cases b with
    | true =>
      cases hs:dy P t with
      | none=>simp [ha,hs] at g
      | some n =>
        cases hc:A.cellsAt a n with
        | none=>simp [ha,hs,hc] at g
        | some cs =>
          simp [ha,hs,hc] at g;subst g
          have hcs:cellsOf P t (.agg cs.toArray)=cs:=by simp [cellsOf,ha]
          rw [hcs]
          have hlen:cs.length=n/\f8 (jl a 0 cs) w:=by
            unfold AH.cellsAt at hc
            split at hc
            · cases hc
            · rename_i hsp
              split at hc
              · rename_i rw' c cap hb
                unfold ku at hc
                split at hc
                · cases hc
                  refine ⟨by simp;omega,?_⟩
                  have:=yB hv (by simpa using hsp) hb n 0 O
                  simpa using this
                · cases hc
              · cases hc
          refine ⟨hlen.2,fun w' hw'=>?_⟩
          have:=Aq (P:=P) cs 0 hw' #[]
          rw [hlen.1] at this
          simp [Instr.loadAt,Instr.sureAddr,loadVar,mH ha,ep hs,loadCells,this]
    | false =>
      simp only [ha] at g
      have hcs:cellsOf P t v=[v]:=by unfold cellsOf;rw [ha]
      rw [hcs]
      have h0:a.add 0=a:=by simp [Addr.add]
      refine ⟨fun p hp=>?_,fun w' hw'=>?_⟩
      · simp only [jl,XW] at hp;subst hp;rw [h0];exact hv.cell g
      · have:=hw' (a.add 0,v) (by simp [jl])
        rw [h0] at this
        simp [Instr.loadAt,Instr.sureAddr,loadVar,mH ha,this]
def aW (P:Program) (e:ii) (A:AH):Op->Option (Value × fx)
  | .load t x=>match cd e x with
    | some (.pointer (some a))=>(ld P A t (.pointer (some a))).map fun v=>(v,jl a 0 (cellsOf P t v))
    | _=>none
  | .call { callee:=.builtin .len,args,argTypes }=>match jV (cd e) args.toList,argTypes.toList with
    | some [.string s],[t]=>(tr P A t (.string s)).map fun v=>(v,[])
    | some [.slice a n c],[t]=>(tr P A t (.slice a n c)).map fun v=>(v,[])
    | _,_=>none
  | .call { callee:=.builtin .max,args,.. }=>match jV (cd e) args.toList with
    | some (.int k x :: r)=>(Ij k x r).map fun v=>(.int k v,[])
    | _=>none
  | .call { callee:=.builtin .min,args,.. }=>match jV (cd e) args.toList with
    | some (.int k x :: r)=>(Ma k x r).map fun v=>(.int k v,[])
    | _=>none
  | .build t ps=>match nW e ps.toList with
    | some l=>(mQ P t l).map fun v=>(v,[])
    | none=>none
  | op=>(cq P (cd e) op).map fun v=>(v,[])
theorem ib {o:Oper} {v:Value} {T:fx} (h:aW P f.e A o.op=some (v,T)) {a:Act} {w:World} (ha:de nt f a) (hw:cw A w) :
    f8 T w/\∀ w',f8 T w'->(execOp a.eval o).run P w'=.ok (.value v) w':=by
  have hev:∀ x v,cd f.e x=some v->a.eval x=v:=fun x v g=>cI ha g
  have none:f8 [] w:=fun p hp=>by cases hp
  have pure:∀ {op},op=o.op->(cq P (cd f.e) op).map (fun v=>(v,([]:fx)))=some (v,T)->f8 T w/\∀ w',f8 T w'->(execOp a.eval o).run P w'=.ok (.value v) w':=by
    rintro op rfl g
    cases hp:cq P (cd f.e) o.op with
    | none=>simp [hp] at g
    | some u=>simp [hp] at g;obtain ⟨rfl,rfl⟩:=g;exact ⟨none,fun w' _=>run_pure hev hp⟩
  have hargs:∀ (args:Array Operand) vs,jV (cd f.e) args.toList=some vs->args.map a.eval=vs.toArray:=fun args vs g=>by
    apply Array.ext';simp [qs hev _ _ g]
  obtain ⟨dst,op,type,pos,after,guard⟩:=o
  cases op <;> first | exact pure Z h | skip
  case load t x =>
    simp only [aW] at h
    split at h
    · rename_i b hx
      cases hl:ld P A t (.pointer (some b)) with
      | none=>simp [hl] at h
      | some u =>
        simp [hl] at h;obtain ⟨rfl,rfl⟩:=h
        obtain ⟨h1,h2⟩:=LY hw hl
        exact ⟨h1,fun w' hT=>by simp only [execOp,hev _ _ hx,Sem.run_bind,h2 w' hT,Result.andThen_ok];rfl⟩
    · cases h
  case build t ps =>
    simp only [aW] at h
    split at h
    · rename_i l hl
      cases hb:mQ P t l with
      | none=>simp [hb] at h
      | some u =>
        simp [hb] at h;obtain ⟨rfl,rfl⟩:=h
        exact ⟨none,fun w' _=>by simp only [execOp,Sem.run_bind,zG (ps:=ps.map fun (i,x)=>(i,a.eval x)) (by simpa using sG hev _ _ hl) hb,Result.andThen_ok];rfl⟩
    · cases h
  case call c =>
    obtain ⟨callee,args,argTypes⟩:=c
    cases callee with
    | value _=>exact pure Z h
    | invoke _ _=>exact pure Z h
    | builtin b =>
      cases b <;> first | exact pure Z h | skip
      case len =>
        simp only [aW] at h
        split at h
        · rename_i s t h1 h2
          have ht:argTypes = #[t]:=by apply Array.ext';simpa using h2
          subst ht
          cases hl:tr P A t (.string s) with
          | none=>simp [hl] at h
          | some u=>simp [hl] at h;obtain ⟨rfl,rfl⟩:=h;exact ⟨none,fun w' _=>by
              have:tr P ⟨w'.heap.size,fun _=>Option.none⟩ t (.string s)=some u:=by
                unfold tr at hl ⊢;split at hl <;> simp_all
              have:=Cm (P:=P) (ty:=type) (A:=⟨w'.heap.size,fun _=>Option.none⟩) (w:=w') ⟨rfl,fun _ _ q=>by cases q⟩ this
              simp [execOp,resolve,hargs _ _ h1,invoke,builtin,this]⟩
        · rename_i b n c t h1 h2
          have ht:argTypes = #[t]:=by apply Array.ext';simpa using h2
          subst ht
          cases hl:tr P A t (.slice b n c) with
          | none=>simp [hl] at h
          | some u=>simp [hl] at h;obtain ⟨rfl,rfl⟩:=h;exact ⟨none,fun w' _=>by
              have:tr P ⟨w'.heap.size,fun _=>Option.none⟩ t (.slice b n c)=some u:=by
                unfold tr at hl ⊢;split at hl <;> simp_all
              have:=Cm (P:=P) (ty:=type) (A:=⟨w'.heap.size,fun _=>Option.none⟩) (w:=w') ⟨rfl,fun _ _ q=>by cases q⟩ this
              simp [execOp,resolve,hargs _ _ h1,invoke,builtin,this]⟩
        · cases h
      case max =>
        simp only [aW] at h
        split at h
        · rename_i k x r h1
          cases hl:Ij k x r with
          | none=>simp [hl] at h
          | some u=>simp [hl] at h;obtain ⟨rfl,rfl⟩:=h;exact ⟨none,fun w' _=>by simp [execOp,resolve,hargs _ _ h1,invoke,builtin,Builtin.max_,J9 r x u hl]⟩
        · cases h
      case min =>
        simp only [aW] at h
        split at h
        · rename_i k x r h1
          cases hl:Ma k x r with
          | none=>simp [hl] at h
          | some u=>simp [hl] at h;obtain ⟨rfl,rfl⟩:=h;exact ⟨none,fun w' _=>by simp [execOp,resolve,hargs _ _ h1,invoke,builtin,Builtin.min_,Ka r x u hl]⟩
        · cases h
theorem DOps.take {listed:Array Bool} {held:List (Nat × fx)} {i:Nat} {C:List Nat} {o:Oper} {v:Value} {T:fx} (ho:ops[i]? = some o) (hq:du o.op=true) (hd:ij nt o.dst=true) (hg:o.guard=none)
    (hv:aW P f.e A o.op=some (v,T))
    (h:DOps P nt ops Q (listed.setIfInBounds i true) ((i,T) :: held) C ⟨gw f.e o.dst v,f.ds⟩ A):DOps P nt ops Q listed held (i :: C) f A :=
  DOps.quiet ho hq (dc hd) (fun _ _ ha hw=>⟨(ib hv ha hw).1,.inl ⟨by simp [Region.wanted,hg],(ib hv ha hw).2⟩⟩) h
theorem DOps.takeOn {listed:Array Bool} {held:List (Nat × fx)} {i j t:Nat} {want:Bool} {C:List Nat} {o:Oper} {v:Value} {T:fx} (ho:ops[i]? = some o) (hq:du o.op=true) (hd:ij nt o.dst=true) (hg:o.guard=some (j,want))
    (ht:jp ops j=some t) (hb:cA f.e t=some (.bool want)) (hv:aW P f.e A o.op=some (v,T))
    (h:DOps P nt ops Q (listed.setIfInBounds i true) ((i,T) :: held) C ⟨gw f.e o.dst v,f.ds⟩ A):DOps P nt ops Q listed held (i :: C) f A :=
  DOps.quiet ho hq (dc hd) (fun _ _ ha hw=>⟨(ib hv ha hw).1,.inl ⟨by simp [Region.wanted,hg,kQ ha ht hb],(ib hv ha hw).2⟩⟩) h
theorem DOps.takeOff {listed:Array Bool} {held:List (Nat × fx)} {i j t:Nat} {want b:Bool} {C:List Nat} {o:Oper} (ho:ops[i]? = some o) (hq:du o.op=true) (hd:ij nt o.dst=true) (hg:o.guard=some (j,want))
    (ht:jp ops j=some t) (hb:cA f.e t=some (.bool b)) (hne:b = !want)
    (h:DOps P nt ops Q (listed.setIfInBounds i true) ((i,[]) :: held) C ⟨gw f.e o.dst undef,f.ds⟩ A):DOps P nt ops Q listed held (i :: C) f A :=
  DOps.quiet ho hq (dc hd) (fun _ _ ha _=>⟨(fun p hp=>by cases hp),.inr ⟨by simp [Region.wanted,hg,kQ ha ht hb,hne],rfl⟩⟩) h
def s9:List Value->Nat->ii
  | [],_=>[]
  | v :: vs,i=>(i,v) :: s9 vs (i + 1)
theorem wE:∀ (vs:List Value) (i t:Nat) (v:Value),cA (s9 vs i) t=some v->i<=t/\vs[t - i]? = some v:=by
  intro vs
  induction vs with
  | nil=>intro i t v h;cases h
  | cons u vs ih =>
    intro i t v h
    simp only [s9,uR] at h
    split at h
    · rename_i q;subst q;cases h;exact ⟨XX _,by simp⟩
    · obtain ⟨h1,h2⟩:=ih _ _ _ h
      refine ⟨by omega,?_⟩
      rw [show t - i=(t - (i + 1)) + 1 by omega]
      simpa using h2
def iq (P:Program) (e:ii) (A:AH):List ResultVar->Option (List Value)
  | []=>some []
  | .tmp t :: r=>match cA e t,iq P e A r with
    | some v,some vs=>some (v :: vs)
    | _,_=>none
  | .cell a t :: r=>match cA e a,iq P e A r with
    | some (.pointer (some x)),some vs=>(ld P A t (.pointer (some x))).map fun v=>v :: vs
    | _,_=>none
def fZ:List Value->Value
  | [v]=>v
  | vs=>.tuple vs.toArray
theorem jO {fn:Func} {a:Act} {w:World} {vs:List Value} (ha:de nt f a) (hw:cw A w) (h:iq P f.e A fn.results.toList=some vs):(results fn a.tmps).run P w=.ok (fZ vs) w:=by
  have key:∀ (l:List ResultVar) (vs:List Value),iq P f.e A l=some vs->Sem.run P (l.mapM (fun (r:ResultVar)=>(match r with | .tmp t=>Pure.pure (a.tmps.getD t undef) | .cell x t=>do loadVar t (<- asAddr (a.tmps.getD x undef)):Sem Value))) w=Result.ok vs w:=by
    intro l
    induction l with
    | nil=>intro vs h;simp [iq] at h;simp [h]
    | cons r l ih =>
      intro vs h
      cases r with
      | tmp t =>
        simp only [iq] at h
        split at h
        · rename_i v us h1 h2;cases h
          simp only [List.mapM_cons,Sem.run_bind,Sem.run_pure,Result.andThen_ok,ih _ h2,(ha.slot t v h1).1]
        · cases h
      | cell x t =>
        simp only [iq] at h
        split at h
        · rename_i ad us h1 h2
          cases hl:ld P A t (.pointer (some ad)) with
          | none=>simp [hl] at h
          | some v =>
            simp [hl] at h;subst h
            have:=zJ (P:=P) hw hl
            simp only [Instr.loadAt,Instr.sureAddr,Sem.run_bind,Sem.run_pure,Result.andThen_ok] at this
            have hA:asAddr (a.tmps.getD x undef)=Pure.pure ad:=by rw [(ha.slot x _ h1).1];rfl
            simp only [List.mapM_cons,Sem.run_bind,Sem.run_pure,Result.andThen_ok,ih _ h2,hA,this]
        · cases h
  have k:=key _ _ h
  unfold results
  rw [Array.mapM_eq_mapM_toList]
  simp only [Sem.run_bind,Sem.run_map]
  erw [k]
  simp only [Result.andThen_ok,Sem.run_pure]
  congr 1
  match vs with
  | []=>rfl
  | [v]=>rfl
  | u :: v :: r=>rfl
def jG (P:Program) (rs:List ResultVar) (Q:Ending->AH->Prop):Exit->Fr->AH->Prop
  | .normal,f,A | .ret,f,A=>f.ds=[]/\∃ vs,iq P f.e A rs=some vs/\Q (.returned (fZ vs)) A
  | .panic ch,f,A=>f.ds=[]/\Q (.panicked ch) A
  | _,_,_=>False
theorem im.enter {g:FuncId} {fn:Func} {c:Code} {args:List Value} {Qe:Ending->AH->Prop} (he:gx P g) (hf:P.funcs[g]? = some fn) (hb:fn.body=some c) (hn:args.length<=fn.ntmps)
    (h:A.wf->ak P fn.ntmps c (jG P fn.results.toList Qe) ⟨s9 args 0,[]⟩ A):im P g args.toArray A Qe:=by
  refine ⟨he,fun w hw=>calls_of_wp hf hb ?_⟩
  have ha:de fn.ntmps ⟨s9 args 0,[]⟩ { tmps:=args.toArray ++ Array.replicate (fn.ntmps - args.toArray.size) undef,defers:=[] }:=by
    refine ⟨by simp;omega,fun t v q=>?_,Z⟩
    obtain ⟨_,h2⟩:=wE args 0 t v q
    simp only [Nat.sub_zero] at h2
    have hlt:t < args.length:=(Rx.1 h2).1
    refine ⟨?_,by omega⟩
    simp only [Array.getD_eq_getD_getElem?]
    rw [Array.getElem?_append_left (by simpa using hlt)]
    simp [h2]
  refine wp_mono (h hw.wf _ w ha hw) ?_
  rintro x a' w' ⟨f',A',h1,h2,h3,h4,h5⟩
  cases x <;> simp only [jG] at h4 <;> (try exact h4.elim)
  case normal=>obtain ⟨q,vs,hr,hq⟩:=h4;exact ⟨h1.ds.trans q,_,jO h1 h2 hr,A',h2,h3,hq⟩
  case ret=>obtain ⟨q,vs,hr,hq⟩:=h4;exact ⟨h1.ds.trans q,_,jO h1 h2 hr,A',h2,h3,hq⟩
  case panic ch=>exact ⟨h1.ds.trans h4.1,A',h2,h3,h4.2⟩
end
end V
namespace V
def bs (l:W8):ByteArray:=⟨⟨l⟩⟩
abbrev aM (l:W8):Value:=.string (bs l)
abbrev num (n:Int):Value:=.int .i64 n
abbrev dT (b:UInt8):Value:=.int .u8 b.toNat
theorem vR (l:W8):(bs l).size=l.length:=rfl
theorem An (l:W8):(bs l).data.toList=l:=rfl
theorem KN (a b:W8):bs a ++ bs b=bs (a ++ b):=by
  have:(bs a ++ bs b).data=(bs a).data ++ (bs b).data:=by simp
  cases h:bs a ++ bs b with
  | mk d=>rw [h] at this;simp only at this;subst this;simp [bs]
theorem Ao {a b:W8}:bs a=bs b ↔ a=b:=by
  constructor
  · intro h;have:=Xk (fun s:ByteArray=>s.data.toList) h;simpa [An] using this
  · rintro rfl;rfl
theorem GA (l:W8) (i j:Nat):(bs l).extract i j=bs ((l.take j).drop i):=by
  have:((bs l).extract i j).data=(bs l).data.extract i j:=by simp
  cases h:(bs l).extract i j with
  | mk d =>
    rw [h] at this;simp only at this;subst this
    simp only [bs,ByteArray.mk.injEq]
    apply Array.ext'
    simp [List.drop_take]
section
variable {P:Program} {e:ii} {A:AH} {x y z:Operand} {t t':TypeId} {v:Value} {a b:Int}
theorem aK (h:cd e x=some v):aW P e A (.move x)=some (v,[]):=by simp [aW,cq,h]
theorem d7 (h:cd e x=some v):aW P e A (.assign x)=some (v,[]):=by simp [aW,cq,h]
theorem aJ (h:cd e x=some (.bool true)) (hy:cd e y=some v):aW P e A (.pick x y z)=some (v,[]):=by simp [aW,cq,h,hy]
theorem aO (h:cd e x=some (.bool false)) (hz:cd e z=some v):aW P e A (.pick x y z)=some (v,[]):=by simp [aW,cq,h,hz]
theorem cW {p:Addr} (h:cd e x=some (.pointer (some p))):aW P e A (.nilCheck x)=some (.pointer (some p),[]):=by simp [aW,cq,h]
theorem JH {n:Int} (h:-9223372036854775808<=n/\n<=9223372036854775807):IntKind.i64.wrap n=n:=IntWalk.i64_in n h
theorem qadd (h:cd e x=some (num a)) (h':cd e y=some (num b)) (hr:-9223372036854775808<=a + b/\a + b<=9223372036854775807) :
    aW P e A (.binOp .add t x y t')=some (num (a + b),[]):=by simp [aW,cq,h,h',mP,qf,JH hr]
theorem qaddW (h:cd e x=some (num a)) (h':cd e y=some (num b)):aW P e A (.binOp .add t x y t')=some (num (IntKind.i64.wrap (a + b)),[]):=by simp [aW,cq,h,h',mP,qf]
theorem tL (h:cd e x=some (num a)) (h':cd e y=some (num b)) (hr:-9223372036854775808<=a - b/\a - b<=9223372036854775807) :
    aW P e A (.binOp .sub t x y t')=some (num (a - b),[]):=by simp [aW,cq,h,h',mP,qf,JH hr]
theorem Wu (h:cd e x=some (num a)) (h':cd e y=some (num b)) (hr:-9223372036854775808<=a * b/\a * b<=9223372036854775807) :
    aW P e A (.binOp .mul t x y t')=some (num (a * b),[]):=by simp [aW,cq,h,h',mP,qf,JH hr]
theorem qquo (h:cd e x=some (num a)) (h':cd e y=some (num b)) (hr:0<=a/\a<=9223372036854775807/\1<=b) :
    aW P e A (.binOp .quo t x y t')=some (num (a / b),[]):=by
  have hb:¬ b=0:=by omega
  simp [aW,cq,h,h',mP,qf,hb,IntWalk.i64_quo a b hr]
theorem qrem (h:cd e x=some (num a)) (h':cd e y=some (num b)) (hr:0<=a/\1<=b) :
    aW P e A (.binOp .rem t x y t')=some (num (a % b),[]):=by
  have hb:¬ b=0:=by omega
  simp [aW,cq,h,h',mP,qf,hb,IntWalk.rem_in a b hr.1]
theorem yD {k:IntKind} {op:BinOp} (hs:op ≠ .shl) (hr:op ≠ .shr) (h:cd e x=some (.int k a)) (h':cd e y=some (.int k b)) (hv:qf op k a b=some v) :
    aW P e A (.binOp op t x y t')=some (v,[]):=by
  cases op <;> first | exact absurd Z hs | exact absurd Z hr | simp [aW,cq,h,h',mP,hv]
section
variable {k:IntKind}
theorem Zr (h:cd e x=some (.int k a)) (h':cd e y=some (.int k b)):aW P e A (.binOp .eql t x y t')=some (.bool (decide (a=b)),[]):=by simp [aW,cq,h,h',mP,qf]
theorem MD (h:cd e x=some (.int k a)) (h':cd e y=some (.int k b)):aW P e A (.binOp .neq t x y t')=some (.bool (decide (¬ a=b)),[]):=by simp [aW,cq,h,h',mP,qf]
theorem iU (h:cd e x=some (.int k a)) (h':cd e y=some (.int k b)):aW P e A (.binOp .lss t x y t')=some (.bool (decide (a < b)),[]):=by simp [aW,cq,h,h',mP,qf]
theorem qleq (h:cd e x=some (.int k a)) (h':cd e y=some (.int k b)):aW P e A (.binOp .leq t x y t')=some (.bool (decide (a<=b)),[]):=by simp [aW,cq,h,h',mP,qf]
theorem EF (h:cd e x=some (.int k a)) (h':cd e y=some (.int k b)):aW P e A (.binOp .gtr t x y t')=some (.bool (decide (b < a)),[]):=by simp [aW,cq,h,h',mP,qf]
theorem lu (h:cd e x=some (.int k a)) (h':cd e y=some (.int k b)):aW P e A (.binOp .geq t x y t')=some (.bool (decide (b<=a)),[]):=by simp [aW,cq,h,h',mP,qf]
end
section
variable {s r:W8}
theorem rU (h:cd e x=some (aM s)) (h':cd e y=some (aM r)) (hr:s.length + r.length < 9223372036854775808):aW P e A (.binOp .add t x y t')=some (aM (s ++ r),[]):=by
  have:(bs s).size + (bs r).size < 2 ^ 63:=hr
  simp [aW,cq,h,h',mP,NH,this,KN]
theorem nw (h:cd e x=some (aM s)) (h':cd e y=some (aM r)):aW P e A (.binOp .eql t x y t')=some (.bool (decide (s=r)),[]):=by simp [aW,cq,h,h',mP,NH,Ao]
theorem qO (h:cd e x=some (aM s)) (h':cd e y=some (aM r)):aW P e A (.binOp .neq t x y t')=some (.bool (decide (¬ s=r)),[]):=by simp [aW,cq,h,h',mP,NH,Ao]
theorem Ww {k:IntKind} {n:Nat} (hu:P.underlying t=some .string) (h:cd e x=some (aM s)) (h':cd e y=some (.int k n)) (hn:n < s.length):aW P e A (.index t x y)=some (dT s[n],[]):=by
  simp [aW,cq,h,h',w9,hu,bs,hn]
  exact hn
theorem cM (hu:P.underlying t=some .string) (h:cd e x=some (aM s)):aW P e A (.call { callee:=.builtin .len,args:=#[x],argTypes:=#[t] })=some (num s.length,[]):=by
  simp [aW,jV,h,tr,hu,vR]
theorem Ce {lo hi:Option Operand} {i j:Nat} (hu:P.underlying t=some .string) (h:cd e x=some (aM s)) (hi':gi (hi.map (cd e)) s.length=some (j:Int)) (hlo:gi (lo.map (cd e)) 0=some (i:Int)) (hij:i<=j) (hj:j<=s.length) :
    aW P e A (.slice t x lo hi none)=some (aM ((s.take j).drop i),[]):=by
  have h1:(0:Int)<=i/\(i:Int)<=j/\(j:Int)<=((bs s).size:Nat):=⟨by omega,by omega,by rw [vR];omega⟩
  have hi'':gi (hi.map (cd e)) (bs s).size=some (j:Int):=hi'
  simp [aW,cq,h,vi,hu,hi'',hlo,hij,GA]
  rw [vR];omega
end
theorem Yw {p q:Bool} (hu:P.underlying t=some .bool) (h:cd e x=some (.bool p)) (h':cd e y=some (.bool q)):aW P e A (.binOp .eql t x y t')=some (.bool (p == q),[]):=by simp [aW,cq,h,h',mP,CN,hu]
theorem Yx {p q:Bool} (hu:P.underlying t=some .bool) (h:cd e x=some (.bool p)) (h':cd e y=some (.bool q)):aW P e A (.binOp .neq t x y t')=some (.bool (!(p == q)),[]):=by simp [aW,cq,h,h',mP,CN,hu]
theorem qeqv {u v:Value} {q:Bool} (h:cd e x=some u) (h':cd e y=some v) (hu:∀ k n,u ≠ .int k n) (hu':∀ s,u ≠ .string s) (hv:CN P t u v=some q):aW P e A (.binOp .eql t x y t')=some (.bool q,[]):=by
  simp only [aW,cq,h,h']
  cases u <;> first | exact absurd Z (hu _ _) | exact absurd Z (hu' _) | simp [mP,hv]
theorem qnev {u v:Value} {q:Bool} (h:cd e x=some u) (h':cd e y=some v) (hu:∀ k n,u ≠ .int k n) (hu':∀ s,u ≠ .string s) (hv:CN P t u v=some q):aW P e A (.binOp .neq t x y t')=some (.bool (!q),[]):=by
  simp only [aW,cq,h,h']
  cases u <;> first | exact absurd Z (hu _ _) | exact absurd Z (hu' _) | simp [mP,hv]
theorem ff {p:Bool} (h:cd e x=some (.bool p)):aW P e A (.unOp .not t x)=some (.bool (!p),[]):=by simp [aW,cq,h,unV]
theorem qconv {k k' k₀:IntKind} (hs:P.underlying t=some (.int k₀)) (hd:P.underlying t'=some (.int k)) (h:cd e x=some (.int k' a)):aW P e A (.convert t t' x)=some (.int k (k.wrap a),[]):=by simp [aW,cq,h,Dc,hs,hd]
theorem RB {k k' k₀:IntKind} (hs:P.underlying t=some (.int k₀)) (hd:P.underlying t'=some (.int k)) (h:cd e x=some (.int k' a)) (hr:k.wrap a=a):aW P e A (.convert t t' x)=some (.int k a,[]):=by simp [aW,cq,h,Dc,hs,hd,hr]
theorem nu {fn:Fn} {first captured:Array Operand} {us cs:List Value} (h1:jV (cd e) first.toList=some us) (h2:jV (cd e) captured.toList=some cs):aW P e A (.makeFunc fn first captured)=some (.func fn us.toArray cs.toArray,[]):=by simp [aW,cq,h1,h2]
theorem ae {p:Addr} {i off n:Nat} {ft:TypeId} (hf:eo P t i=some (ft,off)) (hs:dy P ft=some n) (hn:n ≠ 0) (h:cd e x=some (.pointer (some p))):aW P e A (.fieldAddr t x i)=some (.pointer (some (p.add off)),[]):=by
  simp [aW,cq,h,pk,hf,hs,hn]
theorem IA {p:Addr} {el:TypeId} {n len cap i:Nat} {k:IntKind} (hu:P.underlying t=some (.slice el)) (hs:dy P el=some n) (h:cd e x=some (.slice (some p) len cap)) (h':cd e y=some (.int k i)) (hi:i < len) :
    aW P e A (.indexAddr t x y)=some (.pointer (some (p.add (i * n))),[]):=by
  simp [aW,cq,h,h',mU,hu,hs,hi]
theorem MC {p:Addr} {el:TypeId} {n len i:Nat} {k:IntKind} (hu:P.underlying t=some (.array len el)) (hs:dy P el=some n) (h:cd e x=some (.pointer (some p))) (h':cd e y=some (.int k i)) (hi:i < len) :
    aW P e A (.indexAddr t x y)=some (.pointer (some (p.add (i * n))),[]):=by
  simp [aW,cq,h,h',mU,hu,hs,hi]
theorem Wt {cs:Array Value} {el:TypeId} {n len i:Nat} {k:IntKind} (hu:P.underlying t=some (.array len el)) (hs:dy P el=some n) (h:cd e x=some (.agg cs)) (h':cd e y=some (.int k i)) (hi:i < len) (hp:qJ P el cs (i * n)=some v) :
    aW P e A (.index t x y)=some (v,[]):=by
  simp [aW,cq,h,h',w9,hu,hs,hi,hp]
theorem bj {vs:Array Value} {i:Nat} (h:cd e x=some (.tuple vs)) (hv:vs[i]? = some v):aW P e A (.extract x i)=some (v,[]):=by simp [aW,cq,h,tg,hv]
theorem qlen {p:Option Addr} {n c:Nat} {el:TypeId} (hu:P.underlying t=some (.slice el)) (h:cd e x=some (.slice p n c)):aW P e A (.call { callee:=.builtin .len,args:=#[x],argTypes:=#[t] })=some (num n,[]):=by
  simp [aW,jV,h,tr,hu]
theorem qmax {ts:Array TypeId} (h:cd e x=some (num a)) (h':cd e y=some (num b)):aW P e A (.call { callee:=.builtin .max,args:=#[x,y],argTypes:=ts })=some (num (if b > a then b else a),[]):=by
  simp [aW,jV,h,h',Ij]
theorem qload {p:Addr} (ha:dM P t=some false) (h:cd e x=some (.pointer (some p))) (hv:A.cell p=some v):aW P e A (.load t x)=some (v,[(p.add 0,v)]):=by
  have hc:cellsOf P t v=[v]:=by unfold cellsOf;rw [ha]
  simp [aW,h,ld,ha,hv,hc,jl]
theorem RE {p:Addr} {n:Nat} {cs:List Value} (ha:dM P t=some true) (hs:dy P t=some n) (h:cd e x=some (.pointer (some p))) (hv:A.cellsAt p n=some cs):aW P e A (.load t x)=some (.agg cs.toArray,jl p 0 cs):=by
  have hc:cellsOf P t (.agg cs.toArray)=cs:=by simp [cellsOf,ha]
  simp [aW,h,ld,ha,hs,hv,hc]
end
end V
namespace V
def bH (P:Program) (g:FuncId) (args:Array Value) (A:AH) (R:Value->AH->Prop):Prop :=
  im P g args A fun e A'=>∃ v,e=.returned v/\R v A'
theorem bH.mono {P:Program} {g:FuncId} {args:Array Value} {A:AH} {R R':Value->AH->Prop} (h:bH P g args A R) (k:∀ v A',R v A'->R' v A'):bH P g args A R' :=
  im.mono h fun _ _ ⟨v,e,r⟩=>⟨v,e,k v _ r⟩
theorem bE {P:Program} {t:TypeId} {fs:Array Field} {z:Value} {pl:List (Nat × Nat)} {l:List (Nat × Value)} {c:List Value} (hu:P.underlying t=some (.struct fs)) (hz:cE P t=some z) (hp:dk P t=some pl)
    (hf:pR (fun i=>pl[i]?) z.cells.toList l=some c):mQ P t l=some (.agg c.toArray):=by simp [mQ,hu,hz,hp,hf]
section
variable {P:Program} {nt:Nat} {all ops:Array Oper} {Q:Exit->Fr->AH->Prop} {e:ii} {ds:List Deferred} {A A':AH} {os:List Oper}
  {d t:Nat} {op:Op} {ty:TypeId} {ps:String} {af:Array Edge} {j:Nat} {want:Bool} {v u:Value} {T:fx} {dst:Option Nat}
theorem dn {tt:TypeId} {pp:Array (Nat × Operand)} {l:List (Nat × Value)} (hl:nW e pp.toList=some l) (hb:mQ P tt l=some v):aW P e A (.build tt pp)=some (v,[]):=by
  simp [aW,hl,hb]
theorem Ops.q (hd:Nat.blt d nt=true) (hv:aW P e A op=some (v,T)) (h:Ops P nt all os Q ⟨(d,v) :: e,ds⟩ A) :
    Ops P nt all ({ dst:=some d,op:=op,type:=ty,pos:=ps,after:=af,guard:=none } :: os) Q ⟨e,ds⟩ A:=by
  intro a w ha hw A₀ w₀ hs
  have:=ib (o:={ dst:=some d,op:=op,type:=ty,pos:=ps,after:=af,guard:=none }) hv ha hw
  unfold wpList
  rw [Xw (by simp [Region.wanted])]
  left
  unfold Oper.wp;rw [this.2 w this.1]
  exact h _ w (ha.put (some d) v (dc hd)) hw A₀ w₀ hs
theorem Ops.p (hv:aW P e A op=some (v,T)) (h:Ops P nt all os Q ⟨(d,v) :: e,ds⟩ A) (hd:Nat.blt d nt=true:=by exact Z) :
    Ops P nt all ({ dst:=some d,op:=op,type:=ty,pos:=ps,after:=af,guard:=none } :: os) Q ⟨e,ds⟩ A:=Ops.q hd hv h
theorem Ops.J {P:Program} {nt d:Nat} {all:Array Oper} {os:List Oper} {Q:Exit->Fr->AH->Prop} {e:ii} {ds:List Deferred} {A:AH} {x:Operand} {ty:TypeId} {ps:String} {af:Array Edge} {v:Value} (hv:cd e x=some v) (h:Ops P nt all os Q ⟨(d,v) :: e,ds⟩ A) (hd:Nat.blt d nt=true:=by exact Z) :
    Ops P nt all ({ dst:=some d,op:=.move x,type:=ty,pos:=ps,after:=af,guard:=none } :: os) Q ⟨e,ds⟩ A:=Ops.q hd (aK hv) h
theorem Ops.I {P:Program} {nt d:Nat} {all:Array Oper} {os:List Oper} {Q:Exit->Fr->AH->Prop} {e:ii} {ds:List Deferred} {A:AH} {x:Operand} {ty:TypeId} {ps:String} {af:Array Edge} {v:Value} (hv:cd e x=some v) (h:Ops P nt all os Q ⟨(d,v) :: e,ds⟩ A) (hd:Nat.blt d nt=true:=by exact Z) :
    Ops P nt all ({ dst:=some d,op:=.assign x,type:=ty,pos:=ps,after:=af,guard:=none } :: os) Q ⟨e,ds⟩ A:=Ops.q hd (d7 hv) h
theorem Ops.on (ht:jp all j=some t) (hb:cA e t=some (.bool want)) (h:Ops P nt all ({ dst:=dst,op:=op,type:=ty,pos:=ps,after:=af,guard:=none } :: os) Q ⟨e,ds⟩ A) :
    Ops P nt all ({ dst:=dst,op:=op,type:=ty,pos:=ps,after:=af,guard:=some (j,want) } :: os) Q ⟨e,ds⟩ A:=by
  intro a w ha hw A₀ w₀ hs
  have:=h a w ha hw A₀ w₀ hs
  unfold wpList at this ⊢
  rw [Xw (by simp [Region.wanted])] at this
  rw [Xw (by simp [Region.wanted,kQ ha ht hb])]
  exact this
theorem Ops.off {b:Bool} (ht:jp all j=some t) (hb:cA e t=some (.bool b)) (hne:b = !want) (hd:ij nt dst=true) (h:Ops P nt all os Q ⟨gw e dst undef,ds⟩ A) :
    Ops P nt all ({ dst:=dst,op:=op,type:=ty,pos:=ps,after:=af,guard:=some (j,want) } :: os) Q ⟨e,ds⟩ A:=by
  intro a w ha hw A₀ w₀ hs
  unfold wpList
  rw [Xy (by simp [Region.wanted,kQ ha ht hb,hne])]
  exact h _ w (ha.put dst undef (dc hd)) hw A₀ w₀ hs
theorem nr (h:cA e t=some v):am ((t,v) :: e) e:=am.cons h fun _ _ g=>g
theorem Ops.forget {e':ii} (k:am e' e) (h:Ops P nt all os Q ⟨e',ds⟩ A):Ops P nt all os Q ⟨e,ds⟩ A:=fun a w ha hw A₀ w₀ hs=>h a w (ha.le k) hw A₀ w₀ hs
theorem DOps.forget {e':ii} {l:Array Bool} {hl:List (Nat × fx)} {C:List Nat} (k:am e' e) (h:DOps P nt ops Q l hl C ⟨e',ds⟩ A):DOps P nt ops Q l hl C ⟨e,ds⟩ A :=
  fun hc hn a w ha hw=>h hc hn a w (ha.le k) hw
theorem Ops.part {p:Prop} [Decidable p] (hb:cA e t=some (.bool (decide p))) (h1:p->Ops P nt all os Q ⟨(t,.bool true) :: e,ds⟩ A) (h2:¬ p->Ops P nt all os Q ⟨(t,.bool false) :: e,ds⟩ A):Ops P nt all os Q ⟨e,ds⟩ A:=by
  by_cases hp:p
  · exact (h1 hp).forget (nr (by rw [hb,Vv hp]))
  · exact (h2 hp).forget (nr (by rw [hb,Xv hp]))
theorem Ops.partB {b:Bool} (hb:cA e t=some (.bool b)) (h1:b=true->Ops P nt all os Q ⟨(t,.bool true) :: e,ds⟩ A) (h2:b=false->Ops P nt all os Q ⟨(t,.bool false) :: e,ds⟩ A):Ops P nt all os Q ⟨e,ds⟩ A:=by
  cases b
  · exact (h2 Z).forget (nr hb)
  · exact (h1 Z).forget (nr hb)
theorem Ops.l (hd:ij nt dst=true) (h:∀ (K:Value->AH->Prop) (Kp:List PanicEntry->AH->Prop),(∀ v A',Ops P nt all os Q ⟨gw e dst v,ds⟩ A'->K v A')->(∀ ch A',Q (.panic ch) ⟨e,ds⟩ A'->Kp ch A')->kY P e A { dst:=dst,op:=op,type:=ty,pos:=ps,after:=af,guard:=none } K Kp) :
    Ops P nt all ({ dst:=dst,op:=op,type:=ty,pos:=ps,after:=af,guard:=none } :: os) Q ⟨e,ds⟩ A:=Ops.cons Z hd h
theorem Ops.m (h:∀ {K:Value->AH->Prop} {Kp:List PanicEntry->AH->Prop},(∀ {v A'},Ops P nt all os Q ⟨gw e dst v,ds⟩ A'->K v A')->kY P e A { dst:=dst,op:=op,type:=ty,pos:=ps,after:=af,guard:=none } K Kp) (hd:ij nt dst=true:=by exact Z) :
    Ops P nt all ({ dst:=dst,op:=op,type:=ty,pos:=ps,after:=af,guard:=none } :: os) Q ⟨e,ds⟩ A:=Ops.l hd fun _ _ k _=>h fun {v A'} z=>k v A' z
variable {K:Value->AH->Prop} {Kp:List PanicEntry->AH->Prop} {g:Option (Nat × Bool)}
theorem CG {tt:TypeId} {cs:List Value} {z:Value} (hz:cE P tt=some z) (hc:z.cells=cs.toArray) (h:K (.pointer (some ⟨A.n,0,none⟩)) (A.new (.row true cs cs.length))) :
    kY P e A { dst:=dst,op:=.alloc tt,type:=ty,pos:=ps,after:=af,guard:=g } K Kp:=⟨z,hz,by rw [hc];exact h⟩
theorem vbox {tt:TypeId} {x:Operand} {cs:List Value} (hx:cd e x=some v) (hc:v.cells=cs.toArray) (h:K (.pointer (some ⟨A.n,0,none⟩)) (A.new (.row true cs cs.length))) :
    kY P e A { dst:=dst,op:=.box tt x,type:=ty,pos:=ps,after:=af,guard:=g } K Kp:=⟨v,hx,by rw [hc];exact h⟩
theorem rf {tt:TypeId} {x y:Operand} {p:Addr} {cs c:List Value} {cap:Nat} (hx:cd e x=some (.pointer (some p))) (hy:cd e y=some v) (hc:v.cells=cs.toArray) (hs:dy P tt=some cs.length) (hsp:p.spot.isSome=false)
    (hg:A.get p.block=some (.row true c cap)) (hl:p.off + cs.length<=c.length) (ho:qi cs=true) (h:K undef (A.set p.block (.row true (qj c p.off cs) cap))) :
    kY P e A { dst:=dst,op:=.store tt x y,type:=ty,pos:=ps,after:=af,guard:=g } K Kp :=
  ⟨_,v,_,hx,hy,by simp [CA,hsp,hg,hc,hs,hl,ho],h⟩
theorem FZ {tt:TypeId} {n:Nat} {pp:Array (Nat × Operand)} {l:List (Nat × Value)} {c:List Value} (hl:nW e pp.toList=some l) (hb:i3 P tt n l=some c)
    (h:K (.slice (some ⟨A.n,0,none⟩) n n) (A.new (.row true c c.length))):kY P e A { dst:=dst,op:=.buildSlice tt n pp,type:=ty,pos:=ps,after:=af,guard:=g } K Kp:=⟨l,c,hl,hb,h⟩
theorem aq {tt el:TypeId} {n k:Nat} {z:Value} {l:List (Nat × Value)} {c:List Value} (hu:P.underlying tt=some (.slice el)) (hs:dy P el=some k) (hz:cE P el=some z) (hk:z.cells.size=k) (h0:0 < k) (hn:n * k<=2 ^ 24)
    (hf:pR (fun i=>some (i * k,k)) (mr z.cells.toList n) l=some c):i3 P tt n l=some c:=by
  simp only [i3,hu,hs,hz,Sy];rw [Xw ⟨hk,h0,hn⟩,hf]
theorem Jd {tt el:TypeId} {x y:Operand} {n k s:Nat} {z:Value} {i:TypeInfo} (hx:cd e x=some (num n)) (hy:cd e y=some (num k)) (hu:P.underlying tt=some (.slice el)) (hs:dy P el=some s) (hz:cE P el=some z) (hi:P.info? el=some i)
    (hzs:z.cells.size=s) (h0:0 < s) (hnk:n<=k) (hb:i.bytes * k<=281474976710656) (hk:k < 9223372036854775808)
    (h:K (.slice (some ⟨A.n,0,none⟩) n k) (A.new (.row true (mr z.cells.toList k) (mr z.cells.toList k).length))):kY P e A { dst:=dst,op:=.makeSlice tt x y,type:=ty,pos:=ps,after:=af,guard:=g } K Kp:=by
  have h1:D4 (num n)=some n:=by simp only [D4];rw [Xw O];simp
  have h2:D4 (num k)=some k:=by simp only [D4];rw [Xw O];simp
  refine ⟨_,_,n,k,mr z.cells.toList k,hx,hy,?_,h⟩
  simp only [pu,hu,h1,h2,hs,hz,hi,Sy]
  rw [Xw ⟨hzs,h0,hnk,hb⟩]
theorem pY {fo:Operand} {gg:FuncId} {first captured:Array Value} {vs:List Value} {R:Value->AH->Prop} {aa:Array Operand} {tt:Array TypeId} (hf:cd e fo=some (.func (.func gg) first captured)) (ha:jV (cd e) aa.toList=some vs)
    (hc:bH P gg (first ++ vs.toArray ++ captured) A R) (h:∀ v A',R v A'->K v A'):kY P e A { dst:=dst,op:=.call { callee:=.value fo,args:=aa,argTypes:=tt },type:=ty,pos:=ps,after:=af,guard:=g } K Kp:=by
  simp only [kY,wI,hf,ha]
  exact im.mono hc fun en A' ⟨v,q,r⟩=>by subst q;exact h v A' r
theorem ax {gg:FuncId} {vs:List Value} {R:Value->AH->Prop} {aa:Array Operand} {tt:Array TypeId} (ha:jV (cd e) aa.toList=some vs)
    (hc:bH P gg vs.toArray A R) (h:∀ v A',R v A'->K v A'):kY P e A { dst:=dst,op:=.call { callee:=.value (.func gg),args:=aa,argTypes:=tt },type:=ty,pos:=ps,after:=af,guard:=g } K Kp :=
  pY Z ha (by simpa using hc) h
theorem Yb {x y:Operand} {st xt el:TypeId} {size n l c:Nat} {base:Option Addr} {z xv:Value} {dd:TypeDesc} {i:TypeInfo} {xs ys:List Value} (hx:cd e x=some (.slice base l c)) (hy:cd e y=some xv)
    (hu:P.underlying st=some (.slice el)) (hs:dy P el=some size) (hi:P.info? el=some i) (hz:cE P el=some z) (hzs:z.cells.size=size) (hxt:P.underlying xt=some dd) (hd:∀ k,dd ≠ .int k)
    (hb:(l + n) * i.bytes<=2 ^ 47) (hb':l + n < 2 ^ 63) (own:ql A (.slice base l c) size xs) (hl:listOf A size xv=some (n,ys)) (hys:ys.length=n * size) (ho:qi ys=true)
    (h:∀ v A',nA A (.slice base l c) size (xs ++ ys) v A'->K v A'):kY P e A { dst:=dst,op:=.call { callee:=.builtin .append,args:=#[x,y],argTypes:=#[st,xt] },type:=ty,pos:=ps,after:=af,guard:=g } K Kp:=by
  simp only [kY,wI,jV,hx,hy]
  exact ⟨el,size,n,z,dd,i,xs,ys,hu,hs,hi,hz,hzs,hxt,hd,⟨base,l,c,Z,hb,hb'⟩,own,hl,hys,ho,h⟩
theorem Ug {sr dd el:TypeId} {x:Operand} {s:W8} (hx:cd e x=some (aM s)) (hs:P.underlying sr=some .string) (hd:P.underlying dd=some (.slice el)) (hu:P.underlying el=some (.int .u8)) (hl:s.length < 2 ^ 63)
    (h:∀ k,s.length<=k->K (.slice (some ⟨A.n,0,none⟩) s.length k) (A.new (.row true (aw s) k))):kY P e A { dst:=dst,op:=.convert sr dd x,type:=ty,pos:=ps,after:=af,guard:=g } K Kp :=
  ⟨_,hx,by simp only [wR,hs,hd];exact ⟨by simp [Lz,hu],hl,h⟩⟩
theorem NS {sr dd el:TypeId} {x:Operand} {s:W8} {b:Option Addr} {n c:Nat} (hx:cd e x=some (.slice b n c)) (hs:P.underlying sr=some (.slice el)) (hd:P.underlying dd=some .string) (hu:P.underlying el=some (.int .u8))
    (hl:listOf A 1 (.slice b n c)=some (n,aw s)) (h:K (aM s) A):kY P e A { dst:=dst,op:=.convert sr dd x,type:=ty,pos:=ps,after:=af,guard:=g } K Kp :=
  ⟨_,hx,by simp only [wR,hs,hd];exact ⟨by simp [Lz,hu],s,hl,h⟩⟩
variable {listed:Array Bool} {held:List (Nat × fx)} {i:Nat} {C:List Nat}
theorem DOps.q (ho:ops[i]? = some { dst:=some d,op:=op,type:=ty,pos:=ps,after:=af,guard:=none }) (hq:du op=true) (hd:Nat.blt d nt=true) (hv:aW P e A op=some (v,T))
    (h:DOps P nt ops Q (listed.setIfInBounds i true) ((i,T) :: held) C ⟨(d,v) :: e,ds⟩ A):DOps P nt ops Q listed held (i :: C) ⟨e,ds⟩ A :=
  DOps.take ho hq hd Z hv h
theorem DOps.p (ho:ops[i]? = some { dst:=some d,op:=op,type:=ty,pos:=ps,after:=af,guard:=none }) (hv:aW P e A op=some (v,T))
    (h:DOps P nt ops Q (listed.setIfInBounds i true) ((i,T) :: held) C ⟨(d,v) :: e,ds⟩ A) (hq:du op=true:=by exact Z) (hd:Nat.blt d nt=true:=by exact Z):DOps P nt ops Q listed held (i :: C) ⟨e,ds⟩ A:=DOps.q ho hq hd hv h
theorem DOps.qOn (ho:ops[i]? = some { dst:=some d,op:=op,type:=ty,pos:=ps,after:=af,guard:=some (j,want) }) (hq:du op=true) (hd:Nat.blt d nt=true) (ht:jp ops j=some t) (hb:cA e t=some (.bool want)) (hv:aW P e A op=some (v,T))
    (h:DOps P nt ops Q (listed.setIfInBounds i true) ((i,T) :: held) C ⟨(d,v) :: e,ds⟩ A):DOps P nt ops Q listed held (i :: C) ⟨e,ds⟩ A :=
  DOps.takeOn ho hq hd Z ht hb hv h
theorem DOps.qOff {b:Bool} (ho:ops[i]? = some { dst:=some d,op:=op,type:=ty,pos:=ps,after:=af,guard:=some (j,want) }) (hq:du op=true) (hd:Nat.blt d nt=true) (ht:jp ops j=some t) (hb:cA e t=some (.bool b)) (hne:b = !want)
    (h:DOps P nt ops Q (listed.setIfInBounds i true) ((i,[]) :: held) C ⟨(d,undef) :: e,ds⟩ A):DOps P nt ops Q listed held (i :: C) ⟨e,ds⟩ A :=
  DOps.takeOff ho hq hd Z ht hb hne h
theorem DOps.part {p:Prop} [Decidable p] (hb:cA e t=some (.bool (decide p))) (h1:p->DOps P nt ops Q listed held C ⟨(t,.bool true) :: e,ds⟩ A) (h2:¬ p->DOps P nt ops Q listed held C ⟨(t,.bool false) :: e,ds⟩ A):DOps P nt ops Q listed held C ⟨e,ds⟩ A:=by
  by_cases hp:p
  · exact (h1 hp).forget (nr (by rw [hb,Vv hp]))
  · exact (h2 hp).forget (nr (by rw [hb,Xv hp]))
theorem DOps.partB {b:Bool} (hb:cA e t=some (.bool b)) (h1:b=true->DOps P nt ops Q listed held C ⟨(t,.bool true) :: e,ds⟩ A) (h2:b=false->DOps P nt ops Q listed held C ⟨(t,.bool false) :: e,ds⟩ A):DOps P nt ops Q listed held C ⟨e,ds⟩ A:=by
  cases b
  · exact (h2 Z).forget (nr hb)
  · exact (h1 Z).forget (nr hb)
def bg (ops:Array Oper) (held:List (Nat × fx)) (i:Nat) (A':AH):Prop:=∀ w',cw A' w'->∀ p ∈ held,mw ops p.1 ops.size i=false->f8 p.2 w'
theorem DOps.l (ho:ops[i]? = some { dst:=dst,op:=op,type:=ty,pos:=ps,after:=af,guard:=none }) (hq:du op=false) (hd:ij nt dst=true)
    (h:∀ (K:Value->AH->Prop) (Kp:List PanicEntry->AH->Prop),(∀ v A',bg ops held i A'->DOps P nt ops Q (listed.setIfInBounds i true) (held.filter fun p=>!mw ops p.1 ops.size i) C ⟨gw e dst v,ds⟩ A'->K v A') ->
      (∀ ch A',Q (.panic ch) ⟨[],ds⟩ A'->Kp ch A')->kY P e A { dst:=dst,op:=op,type:=ty,pos:=ps,after:=af,guard:=none } K Kp):DOps P nt ops Q listed held (i :: C) ⟨e,ds⟩ A :=
  DOps.loud ho hq (dc hd) (fun a _=>by simp [Region.wanted]) h
theorem DOps.m (ho:ops[i]? = some { dst:=dst,op:=op,type:=ty,pos:=ps,after:=af,guard:=none })
    (h:∀ {K:Value->AH->Prop} {Kp:List PanicEntry->AH->Prop},(∀ {v A'},bg ops held i A'->DOps P nt ops Q (listed.setIfInBounds i true) (held.filter fun p=>!mw ops p.1 ops.size i) C ⟨gw e dst v,ds⟩ A'->K v A')->kY P e A { dst:=dst,op:=op,type:=ty,pos:=ps,after:=af,guard:=none } K Kp) (hq:du op=false:=by exact Z) (hd:ij nt dst=true:=by exact Z):DOps P nt ops Q listed held (i :: C) ⟨e,ds⟩ A:=DOps.l ho hq hd fun _ _ k _=>h fun {v A'} z y=>k v A' z y
theorem DOps.lOn (ho:ops[i]? = some { dst:=dst,op:=op,type:=ty,pos:=ps,after:=af,guard:=some (j,want) }) (hq:du op=false) (hd:ij nt dst=true) (ht:jp ops j=some t) (hb:cA e t=some (.bool want))
    (h:∀ (K:Value->AH->Prop) (Kp:List PanicEntry->AH->Prop),(∀ v A',bg ops held i A'->DOps P nt ops Q (listed.setIfInBounds i true) (held.filter fun p=>!mw ops p.1 ops.size i) C ⟨gw e dst v,ds⟩ A'->K v A') ->
      (∀ ch A',Q (.panic ch) ⟨[],ds⟩ A'->Kp ch A')->kY P e A { dst:=dst,op:=op,type:=ty,pos:=ps,after:=af,guard:=some (j,want) } K Kp):DOps P nt ops Q listed held (i :: C) ⟨e,ds⟩ A :=
  DOps.loud ho hq (dc hd) (fun a ha=>by simp [Region.wanted,kQ ha ht hb]) h
theorem DOps.lOff {b:Bool} (ho:ops[i]? = some { dst:=dst,op:=op,type:=ty,pos:=ps,after:=af,guard:=some (j,want) }) (hq:du op=false) (hd:ij nt dst=true) (ht:jp ops j=some t) (hb:cA e t=some (.bool b)) (hne:b = !want)
    (h:DOps P nt ops Q (listed.setIfInBounds i true) (held.filter fun p=>!mw ops p.1 ops.size i) C ⟨gw e dst undef,ds⟩ A):DOps P nt ops Q listed held (i :: C) ⟨e,ds⟩ A :=
  DOps.loudOff ho hq (dc hd) (fun a ha=>by simp [Region.wanted,kQ ha ht hb,hne]) h
theorem bg.none {A':AH} (h:(held.all fun p=>p.2.isEmpty || mw ops p.1 ops.size i)=true):bg ops held i A':=fun w' _ p hp ha=>by
  have:=Vx.1 h p hp
  rw [ha,Bool.or_false,List.isEmpty_iff] at this
  rw [this];exact fun q hq=>by cases hq
theorem bg.of {A':AH} (h:∀ p ∈ held,mw ops p.1 ops.size i=false->∀ q ∈ p.2,A'.cell q.1=some q.2):bg ops held i A':=fun w' hw p hp ha q hq=>hw.cell (h p hp ha q hq)
theorem ak.if {c:Operand} {x y:Code} {p:Prop} [Decidable p] (hc:cd e c=some (.bool (decide p))) (h1:p->ak P nt x Q ⟨e,ds⟩ A) (h2:¬ p->ak P nt y Q ⟨e,ds⟩ A):ak P nt (.cond c x y) Q ⟨e,ds⟩ A :=
  ak.cond hc (fun h=>h1 (of_decide_eq_true h)) (fun h=>h2 (of_decide_eq_false h))
theorem ak.ifB {c:Operand} {x y:Code} {b:Bool} (hc:cd e c=some (.bool b)) (h1:b=true->ak P nt x Q ⟨e,ds⟩ A) (h2:b=false->ak P nt y Q ⟨e,ds⟩ A):ak P nt (.cond c x y) Q ⟨e,ds⟩ A:=ak.cond hc h1 h2
theorem ak.join {x y:Code} (J:Fr->AH->Prop) (h1:ak P nt x (re J Q) ⟨e,ds⟩ A) (h2:∀ f A',J f A'->ak P nt y Q f A'):ak P nt (x.seq y) Q ⟨e,ds⟩ A :=
  ak.seq fun _ hK=>h1.mono fun x f A' h=>by cases x <;> first | exact hK _ _ (h2 _ _ h) | exact h
end
end V
namespace V
section
variable {A A1 A0:AH} {b b':Nat} {o:gv}
theorem ne_new (wf:A.wf) (h:A.get b=some o) (hn:A.n<=b'):b ≠ b':=by have:=wf b o h;omega
theorem bh (V:A0.wf) (h:A0.n<=b):A0.get b=none:=by
  cases q:A0.get b with
  | none=>rfl
  | some o=>have:=V b o q;omega
theorem an (le:A0.le A) (h:A0.wf) (hb:A0.get b=none) (hn:A1.n=A.n) (k:∀ b' o,b' ≠ b->A.get b'=some o->A1.get b'=some o):A0.le A1 :=
  ⟨by rw [hn];exact le.n,fun c x g=>k c x (by rintro rfl;rw [hb] at g;cases g) (le.get c x g)⟩
theorem ql.le {v:Value} {s:Nat} {xs:List Value} (h:ql A v s xs) (le:A.le A1):ql A1 v s xs:=by
  rcases h with h | ⟨b,n,k,r,rcap,h1,h2,h3⟩
  · exact .inl h
  · exact .inr ⟨b,n,k,r,rcap,h1,le.g h2,h3⟩
theorem ql.keep {v:Value} {s:Nat} {xs:List Value} (h:ql A v s xs) (k:∀ b' o,b' ≠ b->A.get b'=some o->A1.get b'=some o) (hb:blk v ≠ some b):ql A1 v s xs:=by
  rcases h with h | ⟨b2,n,kk,r,rcap,h1,h2,h3⟩
  · exact .inl h
  · exact .inr ⟨b2,n,kk,r,rcap,h1,k _ _ (by rintro rfl;rw [h1] at hb;exact hb Z) h2,h3⟩
end
section
variable {P:Program} {nt:Nat} {e:ii} {A:AH} {d t:Nat} {op:Op} {ty:TypeId} {ps:String} {af:Array Edge} {v u:Value} {dst:Option Nat} {K:Value->AH->Prop} {Kp:List PanicEntry->AH->Prop} {g:Option (Nat × Bool)}
structure z8 (A A1:AH) (b:Nat) (o:gv):Prop where
  wf:A1.wf
  le:A.le A1
  get:A1.get b=some o
  lo:A.n<=b
  hi:b < A1.n
  n:A1.n=A.n + 1
theorem Il (wf:A.wf) (o:gv):z8 A (A.new o) A.n o:=⟨AH.wf_new wf o,AH.le_new (.refl A) wf o,AH.new_get_same _ _,XX _,Nat.lt_succ_self _,rfl⟩
structure s7 (A A1:AH) (b:Nat) (o:gv):Prop where
  wf:A1.wf
  n:A1.n=A.n
  get:A1.get b=some o
  keep:∀ b' o',b' ≠ b->A.get b'=some o'->A1.get b'=some o'
theorem s7.k {A A1:AH} {b c:Nat} {o u:gv} (s:s7 A A1 b o) (n:c ≠ b) (h:A.get c=some u):A1.get c=some u:=s.keep _ _ n h
theorem TG {o':gv} {b:Nat} (wf:A.wf) (h:A.get b=some o') (o:gv):s7 A (A.set b o) b o:=⟨AH.wf_set wf (wf _ _ h) o,rfl,AH.set_get_same _ _ _,fun _ _ hne h=>by rw [AH.set_get_ne _ _ hne];exact h⟩
theorem co {tt:TypeId} {cs:List Value} {z:Value} (wf:A.wf) (hz:cE P tt=some z) (hc:z.cells=cs.toArray) (h:∀ A1 b,z8 A A1 b (.row true cs cs.length)->K (.pointer (some ⟨b,0,none⟩)) A1) :
    kY P e A { dst:=dst,op:=.alloc tt,type:=ty,pos:=ps,after:=af,guard:=g } K Kp:=CG hz hc (h _ _ (Il wf _))
theorem dQ {tt:TypeId} {x:Operand} {cs:List Value} (wf:A.wf) (hx:cd e x=some v) (hc:v.cells=cs.toArray) (h:∀ A1 b,z8 A A1 b (.row true cs cs.length)->K (.pointer (some ⟨b,0,none⟩)) A1) :
    kY P e A { dst:=dst,op:=.box tt x,type:=ty,pos:=ps,after:=af,guard:=g } K Kp:=vbox hx hc (h _ _ (Il wf _))
theorem aE {tt:TypeId} {n:Nat} {pp:Array (Nat × Operand)} {l:List (Nat × Value)} {c:List Value} (wf:A.wf) (hl:nW e pp.toList=some l) (hb:i3 P tt n l=some c)
    (h:∀ A1 b,z8 A A1 b (.row true c c.length)->K (.slice (some ⟨b,0,none⟩) n n) A1):kY P e A { dst:=dst,op:=.buildSlice tt n pp,type:=ty,pos:=ps,after:=af,guard:=g } K Kp:=FZ hl hb (h _ _ (Il wf _))
theorem o5 {tt:TypeId} (wf:A.wf) (h:∀ A1 b,z8 A A1 b (.obj true (.map #[] 0))->K (.map (some b)) A1):kY P e A { dst:=dst,op:=.makeMap tt none,type:=ty,pos:=ps,after:=af,guard:=g } K Kp:=h _ _ (Il wf _)
theorem aU {tt:TypeId} {x y:Operand} {p:Addr} {b off:Nat} {cs c c':List Value} {cap:Nat} (wf:A.wf) (hx:cd e x=some (.pointer (some p))) (hp:p=⟨b,off,none⟩) (hy:cd e y=some v) (hc:v.cells=cs.toArray) (hs:dy P tt=some cs.length)
    (hg:A.get b=some (.row true c cap)) (hl:off + cs.length<=c.length) (ho:qi cs=true) (hc':qj c off cs=c') (h:∀ A1,s7 A A1 b (.row true c' cap)->K undef A1) :
    kY P e A { dst:=dst,op:=.store tt x y,type:=ty,pos:=ps,after:=af,guard:=g } K Kp:=by
  subst hp;subst hc'
  exact rf hx hy hc hs Z hg hl ho (h _ (TG wf hg _))
theorem Jh {tt el:TypeId} {x y:Operand} {n k s:Nat} {z:Value} {i:TypeInfo} (wf:A.wf) (hx:cd e x=some (num n)) (hy:cd e y=some (num k)) (hu:P.underlying tt=some (.slice el)) (hs:dy P el=some s) (hz:cE P el=some z) (hi:P.info? el=some i)
    (hzs:z.cells.size=s) (h0:0 < s) (hnk:n<=k) (hb:i.bytes * k<=281474976710656) (hk:k < 9223372036854775808)
    (h:∀ A1 b,z8 A A1 b (.row true (mr z.cells.toList k) (mr z.cells.toList k).length)->K (.slice (some ⟨b,0,none⟩) n k) A1):kY P e A { dst:=dst,op:=.makeSlice tt x y,type:=ty,pos:=ps,after:=af,guard:=g } K Kp :=
  Jd hx hy hu hs hz hi hzs h0 hnk hb hk (h _ _ (Il wf _))
theorem yk {sr dd el:TypeId} {x:Operand} {s:W8} (wf:A.wf) (hx:cd e x=some (aM s)) (hs:P.underlying sr=some .string) (hd:P.underlying dd=some (.slice el)) (hu:P.underlying el=some (.int .u8)) (hl:s.length < 2 ^ 63)
    (h:∀ A1 b k,z8 A A1 b (.row true (aw s) k)->s.length<=k->K (.slice (some ⟨b,0,none⟩) s.length k) A1):kY P e A { dst:=dst,op:=.convert sr dd x,type:=ty,pos:=ps,after:=af,guard:=g } K Kp :=
  Ug hx hs hd hu hl fun k hk=>h _ _ k (Il wf _) hk
theorem ql.slice {v:Value} {s:Nat} {xs:List Value} (h:ql A v s xs):∃ base l c,v=.slice base l c/\l * s=xs.length:=by
  rcases h with ⟨rfl,rfl⟩ | ⟨b,n,k,r,rcap,rfl,_,h3,_⟩
  · exact ⟨_,_,_,Z,by simp⟩
  · exact ⟨_,_,_,Z,h3.symm⟩
theorem cm {x y:Operand} {st xt el:TypeId} {size n:Nat} {z s xv:Value} {dd:TypeDesc} {i:TypeInfo} {xs ys:List Value} (hx:cd e x=some s) (hy:cd e y=some xv)
    (hu:P.underlying st=some (.slice el)) (hs:dy P el=some size) (hi:P.info? el=some i) (hz:cE P el=some z) (hzs:z.cells.size=size) (h0:0 < size) (hxt:P.underlying xt=some dd) (hd:∀ k,dd ≠ .int k)
    (own:ql A s size xs) (hl:listOf A size xv=some (n,ys)) (hys:ys.length=n * size) (ho:qi ys=true) (hb:(xs.length + ys.length) * i.bytes<=2 ^ 47) (hb':xs.length + ys.length < 2 ^ 63)
    (h:∀ A1 v,nA A s size (xs ++ ys) v A1->K v A1):kY P e A { dst:=dst,op:=.call { callee:=.builtin .append,args:=#[x,y],argTypes:=#[st,xt] },type:=ty,pos:=ps,after:=af,guard:=g } K Kp:=by
  obtain ⟨base,l,c,rfl,hll⟩:=own.slice
  have hle:l + n<=xs.length + ys.length:=by
    have h1:l<=l * size:=Nat.le_mul_of_pos_right _ h0
    have h2:n<=n * size:=Nat.le_mul_of_pos_right _ h0
    omega
  exact Yb hx hy hu hs hi hz hzs hxt hd (Xj (Nat.mul_le_mul_right _ hle) hb) O own hl hys ho fun v A1 ha=>h A1 v ha
end
section
variable {P:Program} {e:ii} {A:AH} {x y:Operand} {t t':TypeId} {v:Value} {a b:Nat} {c d:UInt8}
theorem bk (h:cd e x=some (num (a:Nat))) (h':cd e y=some (num (b:Nat))) (hr:a + b<=9223372036854775807):aW P e A (.binOp .add t x y t')=some (num ((a + b:Nat):Int),[]):=by
  rw [qadd h h' O];simp
theorem iO (h:cd e x=some (num (a:Nat))) (h':cd e y=some (num (b:Nat))) (hr:b<=a/\a<=9223372036854775807):aW P e A (.binOp .sub t x y t')=some (num ((a - b:Nat):Int),[]):=by
  rw [tL h h' O];simp;omega
theorem oE (h:cd e x=some (num (a:Nat))) (h':cd e y=some (num (b:Nat))) (hr:a * b<=9223372036854775807):aW P e A (.binOp .mul t x y t')=some (num ((a * b:Nat):Int),[]):=by
  have:((a * b:Nat):Int)=(a:Int) * b:=Int.natCast_mul a b
  rw [Wu h h' (by rw [<- this];omega)];simp
theorem Yy (h:cd e x=some (num (a:Nat))) (h':cd e y=some (num (b:Nat))) (hr:1<=b/\a<=9223372036854775807):aW P e A (.binOp .quo t x y t')=some (num ((a / b:Nat):Int),[]):=by
  rw [qquo h h' O];simp
theorem qremN (h:cd e x=some (num (a:Nat))) (h':cd e y=some (num (b:Nat))) (hr:1<=b):aW P e A (.binOp .rem t x y t')=some (num ((a % b:Nat):Int),[]):=by
  rw [qrem h h' O];simp
section
variable {k:IntKind}
theorem jM (h:cd e x=some (.int k (a:Nat))) (h':cd e y=some (.int k (b:Nat))):aW P e A (.binOp .eql t x y t')=some (.bool (decide (a=b)),[]):=by
  rw [Zr h h'];simp only [Int.natCast_inj]
theorem fy (h:cd e x=some (.int k (a:Nat))) (h':cd e y=some (.int k (b:Nat))):aW P e A (.binOp .neq t x y t')=some (.bool (decide (¬ a=b)),[]):=by
  rw [MD h h'];simp only [Int.natCast_inj]
theorem bK (h:cd e x=some (.int k (a:Nat))) (h':cd e y=some (.int k (b:Nat))):aW P e A (.binOp .lss t x y t')=some (.bool (decide (a < b)),[]):=by
  rw [iU h h'];simp only [Int.ofNat_lt]
theorem oD (h:cd e x=some (.int k (a:Nat))) (h':cd e y=some (.int k (b:Nat))):aW P e A (.binOp .leq t x y t')=some (.bool (decide (a<=b)),[]):=by
  rw [qleq h h'];simp only [Int.ofNat_le]
theorem ej (h:cd e x=some (.int k (a:Nat))) (h':cd e y=some (.int k (b:Nat))):aW P e A (.binOp .gtr t x y t')=some (.bool (decide (b < a)),[]):=by
  rw [EF h h'];simp only [Int.ofNat_lt]
theorem tK (h:cd e x=some (.int k (a:Nat))) (h':cd e y=some (.int k (b:Nat))):aW P e A (.binOp .geq t x y t')=some (.bool (decide (b<=a)),[]):=by
  rw [lu h h'];simp only [Int.ofNat_le]
end
theorem Z8:(c.toNat:Int)=(d.toNat:Int) ↔ c=d:=by rw [Int.natCast_inj];exact UInt8.toNat_inj
theorem zz (h:cd e x=some (dT c)) (h':cd e y=some (dT d)):aW P e A (.binOp .eql t x y t')=some (.bool (decide (c=d)),[]):=by rw [Zr h h'];simp only [Z8]
theorem zA (h:cd e x=some (dT c)) (h':cd e y=some (dT d)):aW P e A (.binOp .lss t x y t')=some (.bool (decide (c < d)),[]):=by rw [iU h h'];simp only [Int.ofNat_lt,UInt8.lt_iff_toNat_lt]
theorem qleqB (h:cd e x=some (dT c)) (h':cd e y=some (dT d)):aW P e A (.binOp .leq t x y t')=some (.bool (decide (c<=d)),[]):=by rw [qleq h h'];simp only [Int.ofNat_le,UInt8.le_iff_toNat_le]
theorem rQ (h:cd e x=some (dT c)) (h':cd e y=some (dT d)):aW P e A (.binOp .geq t x y t')=some (.bool (decide (d<=c)),[]):=by rw [lu h h'];simp only [Int.ofNat_le,UInt8.le_iff_toNat_le]
theorem aaa (c d:UInt8):UM .xor .u8 c.toNat d.toNat=some (dT (c ^^^ d)):=by
  have h1:∀ c:UInt8,BitVec.ofInt 8 (c.toNat:Int)=c.toBitVec:=fun c=>by
    rw [BitVec.ofInt_natCast]
    show BitVec.ofNat 8 c.toBitVec.toNat=_
    simp
  show some (Value.int .u8 (IntKind.u8.wrap ((BitVec.ofInt 8 (c.toNat:Int) ^^^ BitVec.ofInt 8 (d.toNat:Int)).toNat:Int)))=_
  rw [h1,h1]
  have h3:((c.toBitVec ^^^ d.toBitVec).toNat:Int)=((c ^^^ d).toNat:Int):=rfl
  rw [h3,IntWalk.u8_in _ (by have:=(c ^^^ d).toNat_lt;omega)]
theorem RH (h:cd e x=some (dT c)) (h':cd e y=some (dT d)):aW P e A (.binOp .xor t x y t')=some (dT (c ^^^ d),[]) :=
  yD U U h h' (aaa c d)
theorem nx (h:cd e x=some (dT c)) (h':cd e y=some (dT d)):aW P e A (.binOp .sub t x y t')=some (dT (c - d),[]):=by
  refine yD U U h h' ?_
  refine Xk (fun z=>some (Value.int .u8 z)) ?_
  rw [IntKind.wrap_u8,UInt8.toNat_sub]
  have:=c.toNat_lt;have:=d.toNat_lt
  omega
theorem J0 (h:cd e x=some (dT c)) (h':cd e y=some (dT d)):aW P e A (.binOp .add t x y t')=some (dT (c + d),[]):=by
  refine yD U U h h' ?_
  refine Xk (fun z=>some (Value.int .u8 z)) ?_
  rw [IntKind.wrap_u8,UInt8.toNat_add]
  omega
theorem mg {k₀:IntKind} (hs:P.underlying t=some (.int k₀)) (hd:P.underlying t'=some (.int .i64)) (h:cd e x=some (dT c)):aW P e A (.convert t t' x)=some (num ((c.toNat:Nat):Int),[]) :=
  RB hs hd h (IntWalk.i64_in _ (by have:=c.toNat_lt;omega))
theorem Cd {k k₀:IntKind} (hs:P.underlying t=some (.int k₀)) (hd:P.underlying t'=some (.int .u8)) (h:cd e x=some (.int k (a:Nat))):aW P e A (.convert t t' x)=some (dT (UInt8.ofNat a),[]):=by
  rw [qconv hs hd h]
  refine Xk (fun z=>some (Value.int .u8 z,[])) ?_
  rw [IntKind.wrap_u8]
  simp
theorem qmaxN {ts:Array TypeId} (h:cd e x=some (num (a:Nat))) (h':cd e y=some (num (b:Nat))):aW P e A (.call { callee:=.builtin .max,args:=#[x,y],argTypes:=ts })=some (num ((max a b:Nat):Int),[]):=by
  rw [qmax h h'];simp only [Nat.max_def,gt_iff_lt,Int.ofNat_lt];congr 2;split <;> split <;> simp <;> omega
section
variable {s r:W8} {i j:Nat}
theorem ng {k:IntKind} (hu:P.underlying t=some .string) (h:cd e x=some (aM s)) (h':cd e y=some (.int k (i:Nat))) (hn:i < s.length):aW P e A (.index t x y)=some (dT (s.getD i 0),[]):=by
  rw [Ww hu h h' hn];simp [hn]
theorem qsl {lo hi:Operand} (hu:P.underlying t=some .string) (h:cd e x=some (aM s)) (hlo:cd e lo=some (num (i:Nat))) (hhi:cd e hi=some (num (j:Nat))) (hij:i<=j/\j<=s.length):aW P e A (.slice t x (some lo) (some hi) none)=some (aM ((s.take j).drop i),[]) :=
  Ce hu h (by simp [gi,hhi]) (by simp [gi,hlo]) hij.1 hij.2
theorem zB {lo:Operand} (hu:P.underlying t=some .string) (h:cd e x=some (aM s)) (hlo:cd e lo=some (num (i:Nat))) (hij:i<=s.length):aW P e A (.slice t x (some lo) none none)=some (aM (s.drop i),[]):=by
  rw [Ce (j:=s.length) hu h (by simp [gi]) (by simp [gi,hlo]) hij (XX _)];simp
theorem EH {hi:Operand} (hu:P.underlying t=some .string) (h:cd e x=some (aM s)) (hhi:cd e hi=some (num (j:Nat))) (hij:j<=s.length):aW P e A (.slice t x none (some hi) none)=some (aM (s.take j),[]):=by
  rw [Ce (i:=0) hu h (by simp [gi,hhi]) (by simp [gi]) (XZ _) hij];simp
end
theorem ah {p:Addr} {b off cap:Nat} {rw:Bool} {c:List Value} (ha:dM P t=some false) (h:cd e x=some (.pointer (some p))) (hp:p=⟨b,off,none⟩) (hg:A.get b=some (.row rw c cap)) (hc:c[off]? = some v) :
    aW P e A (.load t x)=some (v,[(⟨b,off,none⟩,v)]):=by
  subst hp
  have:A.cell ⟨b,off,none⟩=some v:=by simp [AH.cell,hg,hc]
  rw [qload ha h this]
  simp [Addr.add]
theorem ao {p:Addr} {b off cap n:Nat} {rw:Bool} {c cs:List Value} (ha:dM P t=some true) (hs:dy P t=some n) (h:cd e x=some (.pointer (some p))) (hp:p=⟨b,off,none⟩) (hg:A.get b=some (.row rw c cap)) (hc:ku c off n=some cs) :
    aW P e A (.load t x)=some (.agg cs.toArray,jl ⟨b,off,none⟩ 0 cs):=by
  subst hp
  exact RE ha hs h (by simp [AH.cellsAt,hg,hc])
def bz (A:AH) (size:Nat) (v:Value) (xs:List Value):Prop :=
  ∃ p n c,v=.slice p n c/\xs.length=n * size/\n<=c/\(n=0\/∃ b off rw r rcap,p=some ⟨b,off,none⟩/\A.get b=some (.row rw r rcap)/\(r.drop off).take (n * size)=xs)
theorem bz.le {A1:AH} {size:Nat} {v:Value} {xs:List Value} (h:bz A size v xs) (le:A.le A1):bz A1 size v xs:=by
  obtain ⟨p,n,c,h1,h2,h3,h4⟩:=h
  refine ⟨p,n,c,h1,h2,h3,h4.imp id ?_⟩
  rintro ⟨b,off,rw,r,rcap,g1,g2,g3⟩
  exact ⟨b,off,rw,r,rcap,g1,le.g g2,g3⟩
theorem ql.slc {size:Nat} {v:Value} {xs:List Value} (h:ql A v size xs):bz A size v xs:=by
  rcases h with ⟨rfl,rfl⟩ | ⟨b,n,k,r,rcap,h1,h2,h3,h4,h5,h6⟩
  · exact ⟨none,0,0,Z,by simp,XX _,.inl Z⟩
  · exact ⟨_,n,k,h1,h3,h5,.inr ⟨b,0,true,r,rcap,Z,h2,by simpa using h4⟩⟩
theorem bx {el:TypeId} {size n:Nat} {xs:List Value} (hu:P.underlying t=some (.slice el)) (h:cd e x=some v) (s:bz A size v xs) (h0:0 < size) (hn:xs.length=n * size):aW P e A (.call { callee:=.builtin .len,args:=#[x],argTypes:=#[t] })=some (num (n:Nat),[]):=by
  obtain ⟨p,m,c,rfl,h2,_⟩:=s
  have:m=n:=Nat.eq_of_mul_eq_mul_right h0 (h2.symm.trans hn)
  subst this
  exact qlen hu h
theorem bz.at {size i:Nat} {v:Value} {xs:List Value} (s:bz A size v xs) (hi:(i + 1) * size<=xs.length) (h0:0 < size):∃ b off rw r rcap n c,v=.slice (some ⟨b,off,none⟩) n c/\i < n/\A.get b=some (.row rw r rcap)/\ku r (off + i * size) size=some ((xs.drop (i * size)).take size)/\(∀ j,j < size->r[off + i * size + j]? = xs[i * size + j]?):=by
  obtain ⟨p,n,c,rfl,h2,h3,h4⟩:=s
  have hin:i < n:=by
    rw [h2] at hi
    exact Nat.lt_of_succ_le (Nat.le_of_mul_le_mul_right hi h0)
  have hmul:(i + 1) * size=i * size + size:=by rw [Rk,Nat.one_mul]
  rcases h4 with h4 | ⟨b,off,rw,r,rcap,rfl,g2,g3⟩
  · omega
  · have hlen:off + n * size<=r.length:=by
      have:=Xk List.length g3
      rw [Vz,RW] at this
      have:0 < n * size:=Nat.mul_pos O h0
      omega
    have hle:i * size + size<=n * size:=by rw [h2] at hi;omega
    refine ⟨b,off,rw,r,rcap,n,c,rfl,hin,g2,?_,fun j hj=>?_⟩
    · unfold ku
      rw [Xw O,<- g3]
      congr 1
      rw [List.drop_take,List.take_take,List.drop_drop]
      congr 1
      omega
    · rw [<- g3,SY O,RY]
      congr 1
      omega
theorem al {el:TypeId} {b off n c i m:Nat} {k:IntKind} (hu:P.underlying t=some (.slice el)) (hs:dy P el=some m) (h:cd e x=some v) (hv:v=.slice (some ⟨b,off,none⟩) n c) (h':cd e y=some (.int k (i:Nat))) (hi:i < n) :
    aW P e A (.indexAddr t x y)=some (.pointer (some ⟨b,off + i * m,none⟩),[]):=by
  subst hv
  rw [IA hu hs h h' hi,o9 _ _ Z]
end
structure Fresh (A0 A:AH) (v:Value) (size:Nat) (xs:List Value):Prop where
  own:ql A v size xs
  lo:∀ b,blk v=some b->A0.get b=none
section
variable {A0 A A1:AH} {v v':Value} {size:Nat} {xs ys:List Value}
theorem Fresh.nil (A0 A:AH) (size:Nat):Fresh A0 A (.slice none 0 0) size []:=⟨.inl ⟨rfl,rfl⟩,fun _ h=>by cases h⟩
theorem Fresh.le (h:Fresh A0 A v size xs) (le:A.le A1):Fresh A0 A1 v size xs:=⟨h.own.le le,h.lo⟩
theorem Fresh.ne {b:Nat} {o:gv} (h:Fresh A0 A v size xs) (V:A0.wf) (g:A0.get b=some o):blk v ≠ some b:=fun q=>by rw [h.lo b q] at g;cases g
theorem Fresh.slc (h:Fresh A0 A v size xs):bz A size v xs:=h.own.slc
theorem ql.take {n k:Nat} {p:Option Addr} {c:Nat} (h:ql A (.slice p n c) size xs) (hk:k<=n):ql A (.slice p k c) size (xs.take (k * size)):=by
  rcases h with ⟨h1,rfl⟩ | ⟨b,n',k',r,rcap,h1,h2,h3,h4,h5,h6⟩
  · cases h1;have:k=0:=by omega
    subst this;exact .inl ⟨Z,by simp⟩
  · cases h1
    have hm:=Nat.mul_le_mul_right size hk
    refine .inr ⟨b,k,c,r,rcap,Z,h2,by rw [Vz];omega,?_,by omega,h6⟩
    rw [<- h4,List.take_take,Nat.min_eq_left hm]
theorem Fresh.take {n k:Nat} {p:Option Addr} {c:Nat} (h:Fresh A0 A (.slice p n c) size xs) (hk:k<=n):Fresh A0 A (.slice p k c) size (xs.take (k * size)) :=
  ⟨h.own.take hk,fun b hb=>h.lo b (by cases p <;> exact hb)⟩
theorem Fresh.nonnil (h:Fresh A0 A v size xs) (hx:xs ≠ []):∃ b n c,v=.slice (some ⟨b,0,none⟩) n c/\n * size=xs.length/\n<=c:=by
  rcases h.own with ⟨_,rfl⟩ | ⟨b,n,k,r,rcap,h1,h2,h3,h4,h5,h6⟩
  · exact absurd Z hx
  · exact ⟨b,n,k,h1,h3.symm,h5⟩
theorem bG {b n c:Nat} {rw:Bool} {r ys:List Value} {cap:Nat} (h:A.get b=some (.row rw r cap)) (hr:ku r 0 (n * size)=some ys):listOf A size (.slice (some ⟨b,0,none⟩) n c)=some (n,ys):=by
  simp only [listOf,AH.cellsAt,h,hr]
  split
  · rename_i q;rw [q] at hr;simp [ku] at hr;rw [hr]
  · rfl
theorem bz.listOf {n:Nat} (s:bz A size v xs) (hn:xs.length=n * size) (h0:0 < size):listOf A size v=some (n,xs):=by
  obtain ⟨p,m,c,rfl,h2,_,h4⟩:=s
  have:m=n:=Nat.eq_of_mul_eq_mul_right h0 (h2.symm.trans hn)
  subst this
  rcases h4 with rfl | ⟨b,off,rw,r,rcap,rfl,g2,g3⟩
  · have:xs=[]:=TX.1 (by rw [h2];simp)
    subst this
    cases p with
    | none=>rfl
    | some a=>simp [V.listOf]
  · have hlen:m * size<=(r.drop off).length:=by
      have:=Xk List.length g3
      rw [Vz] at this;omega
    rw [RW] at hlen
    by_cases hm:m * size=0
    · have:xs=[]:=TX.1 (by rw [h2];exact hm)
      subst this;simp [V.listOf,hm]
    · have:off + m * size<=r.length:=by omega
      simp [V.listOf,AH.cellsAt,g2,ku,hm,this,g3]
end
theorem Fresh.row {A0 A:AH} {b n c:Nat} {xs:List Value} {size:Nat} (h:Fresh A0 A (.slice (some ⟨b,0,none⟩) n c) size xs):∃ r rcap,A.get b=some (.row true r rcap)/\r.take (n * size)=xs/\xs.length=n * size:=by
  rcases h.own with ⟨q,_⟩ | ⟨b',n',k,r',rcap',h1,h2,h3,h4,h5,h6⟩
  · cases q
  · cases h1;exact ⟨r',rcap',h2,h4,h3⟩
def dB (l:List W8):List Value:=l.map aM
theorem cr (l:List W8):(dB l).length=l.length:=by simp [dB]
theorem dm {l:List W8} {i:Nat} (h:i < l.length):(dB l)[i]? = some (aM (l.getD i [])):=by simp [dB,h]
theorem be (l:W8):(aw l).length=l.length:=by simp [aw]
theorem gW {l:W8} {i:Nat} (h:i < l.length):(aw l)[i]? = some (dT (l.getD i 0)):=by simp [aw,h]
theorem fA (a b:W8):aw a ++ aw b=aw (a ++ b):=by simp [aw]
theorem ks (a:W8) (n:Nat):(aw a).take n=aw (a.take n):=by simp [aw,List.map_take]
theorem rl (a:W8) (n:Nat) (c:UInt8):(aw a).set n (dT c)=aw (a.set n c):=by simp [aw,List.map_set]
theorem KO (l:W8):qi (aw l)=true:=by simp [qi,aw,Value.oneCell']
section
variable {P:Program} {e:ii} {A A0 A1:AH} {x y:Operand} {t t':TypeId} {v v' u:Value} {size:Nat} {xs ys:List Value}
theorem m7 {p:Option Addr} {el:TypeId} {n len cap j:Nat} {hi:Operand} (hu:P.underlying t=some (.slice el)) (hs:dy P el=some n) (h:cd e x=some (.slice p len cap)) (hhi:cd e hi=some (num (j:Nat))) (hj:j<=len/\len<=cap) :
    aW P e A (.slice t x none (some hi) none)=some (.slice p j cap,[]):=by
  have h1:(0:Int)<=0/\(0:Int)<=j/\(j:Int)<=cap/\len<=cap:=⟨by omega,by omega,by omega,hj.2⟩
  have h2:∀ q:Addr,q.add 0=q:=fun q=>by simp [Addr.add]
  simp [aW,cq,h,vi,hu,hs,gi,hhi]
  refine ⟨by omega,?_⟩
  cases p <;> simp [h2]
theorem ql.ne_new {b:Nat} (h:ql A v size xs) (wf:A.wf) (hb:A.n<=b):blk v ≠ some b:=by
  rcases h with ⟨rfl,_⟩ | ⟨b',n,k,r,rcap,rfl,h2,_⟩
  · intro q;cases q
  · intro q;simp only [V.blk,Option.some.injEq] at q;subst q;have:=wf _ _ h2;omega
theorem nA.ne {b:Nat} {o:gv} (ap:nA A v size xs v' A1) (h:V.blk v ≠ some b) (wf:A.wf) (g:A.get b=some o):V.blk v' ≠ some b:=fun q=>by
  rcases ap.blk b q with q | q
  · exact h q
  · have:=wf _ _ g;omega
theorem nA.keep {b:Nat} {o:gv} (ap:nA A v size xs v' A1) (h:V.blk v ≠ some b) (g:A.get b=some o):A1.get b=some o:=ap.get b o g h
theorem Fresh.keep {b:Nat} (h:Fresh A0 A v size xs) (k:∀ b' o,b' ≠ b->A.get b'=some o->A1.get b'=some o) (hb:blk v ≠ some b):Fresh A0 A1 v size xs:=⟨h.own.keep k hb,h.lo⟩
theorem fb {sr dd el:TypeId} {s:W8} {K:Value->AH->Prop} {Kp:List PanicEntry->AH->Prop} {g:Option (Nat × Bool)} {dst:Option Nat} {ty:TypeId} {ps:String} {af:Array Edge} (hx:cd e x=some v) (hs:P.underlying sr=some (.slice el)) (hd:P.underlying dd=some .string) (hu:P.underlying el=some (.int .u8))
    (hl:bz A 1 v (aw s)) (h:K (aM s) A):kY P e A { dst:=dst,op:=.convert sr dd x,type:=ty,pos:=ps,after:=af,guard:=g } K Kp:=by
  have h2:=hl.listOf (n:=s.length) (by simp [aw]) O
  obtain ⟨p,m,c,rfl,h3,_⟩:=hl
  have:m=s.length:=by simpa [aw] using h3.symm
  subst this
  exact NS hx hs hd hu h2 h
theorem RN (z:Value) (n:Nat):mr [z] n=List.replicate n z:=by
  induction n with
  | zero=>rfl
  | succ n ih=>simp [mr,ih,List.replicate_succ]
theorem jo {tt el:TypeId} {n k:Nat} {z:Value} {i:TypeInfo} {K:Value->AH->Prop} {Kp:List PanicEntry->AH->Prop} {g:Option (Nat × Bool)} {dst:Option Nat} {ty:TypeId} {ps:String} {af:Array Edge} (wf:A.wf) (le:A0.le A) (hx:cd e x=some (num (n:Nat))) (hy:cd e y=some (num (k:Nat))) (hu:P.underlying tt=some (.slice el)) (hs:dy P el=some 1) (hz:cE P el=some z) (hi:P.info? el=some i)
    (hzs:z.cells = #[z]) (hnk:n<=k) (hb:i.bytes * k<=281474976710656) (hk:k < 9223372036854775808)
    (h:∀ A1 b,z8 A A1 b (.row true (List.replicate k z) k)->Fresh A0 A1 (.slice (some ⟨b,0,none⟩) n k) 1 (List.replicate n z)->K (.slice (some ⟨b,0,none⟩) n k) A1):kY P e A { dst:=dst,op:=.makeSlice tt x y,type:=ty,pos:=ps,after:=af,guard:=g } K Kp:=by
  refine Jh wf hx hy hu hs hz hi (by rw [hzs];rfl) O hnk hb hk fun A1 b nb=>?_
  have e1:z.cells.toList=[z]:=by rw [hzs]
  rw [e1,RN,TJ] at nb
  refine h A1 b nb ⟨.inr ⟨b,n,k,_,_,rfl,nb.get,by simp,?_,hnk,by omega⟩,fun b' hb'=>?_⟩
  · rw [List.take_replicate];congr 1;omega
  · cases hb'
    cases q:A0.get b with
    | none=>rfl
    | some o=>have:=le.g q;have:=wf _ _ this;have:=nb.lo;omega
theorem pQ (n:Nat):List.replicate n (.int .u8 0)=aw (List.replicate n 0):=by simp [aw]
theorem RD {l:W8} {i len:Nat} {el:TypeId} {k:IntKind} (hu:P.underlying t=some (.array len el)) (hs:dy P el=some 1) (ha:dM P el=some false) (h:cd e x=some (.agg (aw l).toArray)) (h':cd e y=some (.int k (i:Nat))) (hi:i < len) (hl:l.length=len) :
    aW P e A (.index t x y)=some (dT (l.getD i 0),[]):=by
  refine Wt hu hs h h' hi ?_
  have:i < l.length:=by omega
  simp [qJ,ha,aw,this]
end
theorem aN {P:Program} {g:FuncId} {fn:Func} {c:Code} {rs:Array ResultVar} {nt:Nat} {args:List Value} {a:Array Value} {e:ii} {A:AH} {R:Value->AH->Prop} (he:gx P g) (hf:P.funcs[g]? = some fn) (hb:fn.body=some c)
    (hr:fn.results=rs) (hnt:fn.ntmps=nt) (ha:args.toArray=a) (hn:Nat.ble args.length nt=true) (hE:s9 args 0=e) (h:A.wf->ak P nt c (jG P rs.toList fun en A'=>∃ v,en=.returned v/\R v A') ⟨e,[]⟩ A):bH P g a A R:=by
  subst hr;subst hnt;subst ha;subst hE
  exact im.enter he hf hb (Sw hn) h
theorem aH {P:Program} {rs:List ResultVar} {R:Value->AH->Prop} {e:ii} {A:AH} {vs:List Value} (hr:iq P e A rs=some vs) (h:R (fZ vs) A):jG P rs (fun en A'=>∃ v,en=.returned v/\R v A') .ret ⟨e,[]⟩ A :=
  ⟨rfl,vs,hr,_,rfl,h⟩
theorem zD {P:Program} {rs:List ResultVar} {R:Value->AH->Prop} {e:ii} {A:AH} {vs:List Value} (hr:iq P e A rs=some vs) (h:R (fZ vs) A):jG P rs (fun en A'=>∃ v,en=.returned v/\R v A') .normal ⟨e,[]⟩ A :=
  ⟨rfl,vs,hr,_,rfl,h⟩
theorem m5 {P:Program} {e:ii} {A:AH} {x:Operand} {t:TypeId} {p:Prop} [Decidable p] (h:cd e x=some (.bool (decide p))):aW P e A (.unOp .not t x)=some (.bool (decide (¬ p)),[]):=by
  rw [ff h];simp
theorem cb {r xs:List Value} {o:Nat} {i:Nat} (h:∀ j,j < 1->r[o + i * 1 + j]? = xs[i * 1 + j]?):r[o + i * 1]? = xs[i]?:=by
  have:=h 0 O;simpa using this
end V
namespace V
def pend (ops:Array Oper) (held:List (Nat × fx)) (i:Nat):fx:=(held.filter fun p=>!mw ops p.1 ops.size i).flatMap (·.2)
theorem bg.list {ops:Array Oper} {held:List (Nat × fx)} {i:Nat} {A:AH} {L:fx} (h:pend ops held i=L) (hL:∀ q ∈ L,A.cell q.1=some q.2):bg ops held i A :=
  bg.of fun p hp ha q hq=>hL q (by rw [<- h];exact List.mem_flatMap.2 ⟨p,SK.2 ⟨hp,by simp [ha]⟩,hq⟩)
theorem bI {A B:AH} {a:Addr} {v:Value} (le:A.le B) (h:A.cell a=some v):B.cell a=some v:=by
  unfold AH.cell at h ⊢
  split at h
  · cases h
  · rename_i hs
    rw [Xy hs]
    cases hg:A.get a.block with
    | none=>simp [hg] at h
    | some o=>rw [le.g hg];simpa only [hg] using h
theorem bX {A:AH}:∀ q ∈ ([]:fx),A.cell q.1=some q.2:=fun _ h=>by cases h
theorem bf {A:AH} {a:Addr} {v:Value} {L:fx} (h:A.cell a=some v) (t:∀ q ∈ L,A.cell q.1=some q.2):∀ q ∈ (a,v) :: L,A.cell q.1=some q.2:=fun q hq=>by
  rcases Vy.1 hq with rfl | hq
  · exact h
  · exact t q hq
theorem cR {A:AH} {b off cap:Nat} {rw:Bool} {c:List Value} {v:Value} (hg:A.get b=some (.row rw c cap)) (hc:c[off]? = some v):A.cell ⟨b,off,none⟩=some v:=by simp [AH.cell,hg,hc]
theorem cz {K:Fr->AH->Prop} {Q:Exit->Fr->AH->Prop} {f:Fr} {A:AH} (h:Q .ret f A):re K Q .ret f A:=h
theorem cj {i:Nat} {Q:Exit->Fr->AH->Prop} {f:Fr} {A:AH} (h:Q .ret f A):nI i Q .ret f A:=h
class Ae (Q:Exit->Fr->AH->Prop) (f:Fr) (A:AH) (R:outParam Prop):Prop where
  of:R->Q .ret f A
instance (priority:=low) Ae.base {Q:Exit->Fr->AH->Prop} {f:Fr} {A:AH}:Ae Q f A (Q .ret f A):=⟨id⟩
instance Ae.then {K:Fr->AH->Prop} {Q:Exit->Fr->AH->Prop} {f:Fr} {A:AH} {R:Prop} [i:Ae Q f A R]:Ae (re K Q) f A R:=⟨fun h=>i.of h⟩
instance Ae.block {j:Nat} {Q:Exit->Fr->AH->Prop} {f:Fr} {A:AH} {R:Prop} [i:Ae Q f A R]:Ae (nI j Q) f A R:=⟨fun h=>i.of h⟩
theorem ak.rt {P:Program} {nt:Nat} {Q:Exit->Fr->AH->Prop} {f:Fr} {A:AH} {R:Prop} [i:Ae Q f A R] (h:R):ak P nt .ret Q f A:=ak.ret (i.of h)
theorem rH {e:ii} {t0:Nat} {v0:Value} (h0:cA e t0=some v0):am [(t0,v0)] e:=am.cons h0<|am.nil _
theorem kg {e:ii} {t0 t1:Nat} {v0 v1:Value} (h0:cA e t0=some v0) (h1:cA e t1=some v1):am [(t0,v0),(t1,v1)] e:=am.cons h0<|am.cons h1<|am.nil _
theorem jh {e:ii} {t0 t1 t2:Nat} {v0 v1 v2:Value} (h0:cA e t0=some v0) (h1:cA e t1=some v1) (h2:cA e t2=some v2):am [(t0,v0),(t1,v1),(t2,v2)] e:=am.cons h0<|am.cons h1<|am.cons h2<|am.nil _
theorem mc {e:ii} {t0 t1 t2 t3:Nat} {v0 v1 v2 v3:Value} (h0:cA e t0=some v0) (h1:cA e t1=some v1) (h2:cA e t2=some v2) (h3:cA e t3=some v3):am [(t0,v0),(t1,v1),(t2,v2),(t3,v3)] e:=am.cons h0<|am.cons h1<|am.cons h2<|am.cons h3<|am.nil _
theorem nR {e:ii} {t0 t1 t2 t3 t4:Nat} {v0 v1 v2 v3 v4:Value} (h0:cA e t0=some v0) (h1:cA e t1=some v1) (h2:cA e t2=some v2) (h3:cA e t3=some v3) (h4:cA e t4=some v4):am [(t0,v0),(t1,v1),(t2,v2),(t3,v3),(t4,v4)] e:=am.cons h0<|am.cons h1<|am.cons h2<|am.cons h3<|am.cons h4<|am.nil _
theorem yA {e:ii} {t0 t1 t2 t3 t4 t5:Nat} {v0 v1 v2 v3 v4 v5:Value} (h0:cA e t0=some v0) (h1:cA e t1=some v1) (h2:cA e t2=some v2) (h3:cA e t3=some v3) (h4:cA e t4=some v4) (h5:cA e t5=some v5):am [(t0,v0),(t1,v1),(t2,v2),(t3,v3),(t4,v4),(t5,v5)] e:=am.cons h0<|am.cons h1<|am.cons h2<|am.cons h3<|am.cons h4<|am.cons h5<|am.nil _
theorem ym {e:ii} {t0 t1 t2 t3 t4 t5 t6:Nat} {v0 v1 v2 v3 v4 v5 v6:Value} (h0:cA e t0=some v0) (h1:cA e t1=some v1) (h2:cA e t2=some v2) (h3:cA e t3=some v3) (h4:cA e t4=some v4) (h5:cA e t5=some v5) (h6:cA e t6=some v6):am [(t0,v0),(t1,v1),(t2,v2),(t3,v3),(t4,v4),(t5,v5),(t6,v6)] e:=am.cons h0<|am.cons h1<|am.cons h2<|am.cons h3<|am.cons h4<|am.cons h5<|am.cons h6<|am.nil _
theorem un {e:ii} {t0 t1 t2 t3 t4 t5 t6 t7:Nat} {v0 v1 v2 v3 v4 v5 v6 v7:Value} (h0:cA e t0=some v0) (h1:cA e t1=some v1) (h2:cA e t2=some v2) (h3:cA e t3=some v3) (h4:cA e t4=some v4) (h5:cA e t5=some v5) (h6:cA e t6=some v6) (h7:cA e t7=some v7):am [(t0,v0),(t1,v1),(t2,v2),(t3,v3),(t4,v4),(t5,v5),(t6,v6),(t7,v7)] e:=am.cons h0<|am.cons h1<|am.cons h2<|am.cons h3<|am.cons h4<|am.cons h5<|am.cons h6<|am.cons h7<|am.nil _
theorem Ut {e:ii} {t0 t1 t2 t3 t4 t5 t6 t7 t8:Nat} {v0 v1 v2 v3 v4 v5 v6 v7 v8:Value} (h0:cA e t0=some v0) (h1:cA e t1=some v1) (h2:cA e t2=some v2) (h3:cA e t3=some v3) (h4:cA e t4=some v4) (h5:cA e t5=some v5) (h6:cA e t6=some v6) (h7:cA e t7=some v7) (h8:cA e t8=some v8):am [(t0,v0),(t1,v1),(t2,v2),(t3,v3),(t4,v4),(t5,v5),(t6,v6),(t7,v7),(t8,v8)] e:=am.cons h0<|am.cons h1<|am.cons h2<|am.cons h3<|am.cons h4<|am.cons h5<|am.cons h6<|am.cons h7<|am.cons h8<|am.nil _
theorem si {e:ii} {t0 t1 t2 t3 t4 t5 t6 t7 t8 t9:Nat} {v0 v1 v2 v3 v4 v5 v6 v7 v8 v9:Value} (h0:cA e t0=some v0) (h1:cA e t1=some v1) (h2:cA e t2=some v2) (h3:cA e t3=some v3) (h4:cA e t4=some v4) (h5:cA e t5=some v5) (h6:cA e t6=some v6) (h7:cA e t7=some v7) (h8:cA e t8=some v8) (h9:cA e t9=some v9):am [(t0,v0),(t1,v1),(t2,v2),(t3,v3),(t4,v4),(t5,v5),(t6,v6),(t7,v7),(t8,v8),(t9,v9)] e:=am.cons h0<|am.cons h1<|am.cons h2<|am.cons h3<|am.cons h4<|am.cons h5<|am.cons h6<|am.cons h7<|am.cons h8<|am.cons h9<|am.nil _
theorem uF {e:ii} {t0 t1 t2 t3 t4 t5 t6 t7 t8 t9 h:Nat} {v0 v1 v2 v3 v4 v5 v6 v7 v8 v9 V:Value} (h0:cA e t0=some v0) (h1:cA e t1=some v1) (h2:cA e t2=some v2) (h3:cA e t3=some v3) (h4:cA e t4=some v4) (h5:cA e t5=some v5) (h6:cA e t6=some v6) (h7:cA e t7=some v7) (h8:cA e t8=some v8) (h9:cA e t9=some v9) (X:cA e h=some V):am [(t0,v0),(t1,v1),(t2,v2),(t3,v3),(t4,v4),(t5,v5),(t6,v6),(t7,v7),(t8,v8),(t9,v9),(h,V)] e:=am.cons h0<|am.cons h1<|am.cons h2<|am.cons h3<|am.cons h4<|am.cons h5<|am.cons h6<|am.cons h7<|am.cons h8<|am.cons h9<|am.cons X<|am.nil _
theorem ev12 {e:ii} {t0 t1 t2 t3 t4 t5 t6 t7 t8 t9 h V:Nat} {v0 v1 v2 v3 v4 v5 v6 v7 v8 v9 X a0:Value} (h0:cA e t0=some v0) (h1:cA e t1=some v1) (h2:cA e t2=some v2) (h3:cA e t3=some v3) (h4:cA e t4=some v4) (h5:cA e t5=some v5) (h6:cA e t6=some v6) (h7:cA e t7=some v7) (h8:cA e t8=some v8) (h9:cA e t9=some v9) (a1:cA e h=some X) (a2:cA e V=some a0):am [(t0,v0),(t1,v1),(t2,v2),(t3,v3),(t4,v4),(t5,v5),(t6,v6),(t7,v7),(t8,v8),(t9,v9),(h,X),(V,a0)] e:=am.cons h0<|am.cons h1<|am.cons h2<|am.cons h3<|am.cons h4<|am.cons h5<|am.cons h6<|am.cons h7<|am.cons h8<|am.cons h9<|am.cons a1<|am.cons a2<|am.nil _
theorem en0 {P:Program} {g:FuncId} {fn:Func} {c:Code} {rs:Array ResultVar} {nt:Nat} {A:AH} {R:Value->AH->Prop} (he:gx P g) (hf:P.funcs[g]? = some fn) (hb:fn.body=some c) (hr:fn.results=rs) (hnt:fn.ntmps=nt) (hn:Nat.ble 0 nt=true) (h:A.wf->ak P nt c (jG P rs.toList fun en A'=>∃ v,en=.returned v/\R v A') ⟨[],[]⟩ A):bH P g #[] A R:=aN (args:=[]) he hf hb hr hnt Z hn Z h
theorem uE {P:Program} {g:FuncId} {fn:Func} {c:Code} {rs:Array ResultVar} {nt:Nat} {a0:Value} {A:AH} {R:Value->AH->Prop} (he:gx P g) (hf:P.funcs[g]? = some fn) (hb:fn.body=some c) (hr:fn.results=rs) (hnt:fn.ntmps=nt) (hn:Nat.ble 1 nt=true) (h:A.wf->ak P nt c (jG P rs.toList fun en A'=>∃ v,en=.returned v/\R v A') ⟨[(0,a0)],[]⟩ A):bH P g #[a0] A R:=aN (args:=[a0]) he hf hb hr hnt Z hn Z h
theorem en2 {P:Program} {g:FuncId} {fn:Func} {c:Code} {rs:Array ResultVar} {nt:Nat} {a0 a1:Value} {A:AH} {R:Value->AH->Prop} (he:gx P g) (hf:P.funcs[g]? = some fn) (hb:fn.body=some c) (hr:fn.results=rs) (hnt:fn.ntmps=nt) (hn:Nat.ble 2 nt=true) (h:A.wf->ak P nt c (jG P rs.toList fun en A'=>∃ v,en=.returned v/\R v A') ⟨[(0,a0),(1,a1)],[]⟩ A):bH P g #[a0,a1] A R:=aN (args:=[a0,a1]) he hf hb hr hnt Z hn Z h
theorem en3 {P:Program} {g:FuncId} {fn:Func} {c:Code} {rs:Array ResultVar} {nt:Nat} {a0 a1 a2:Value} {A:AH} {R:Value->AH->Prop} (he:gx P g) (hf:P.funcs[g]? = some fn) (hb:fn.body=some c) (hr:fn.results=rs) (hnt:fn.ntmps=nt) (hn:Nat.ble 3 nt=true) (h:A.wf->ak P nt c (jG P rs.toList fun en A'=>∃ v,en=.returned v/\R v A') ⟨[(0,a0),(1,a1),(2,a2)],[]⟩ A):bH P g #[a0,a1,a2] A R:=aN (args:=[a0,a1,a2]) he hf hb hr hnt Z hn Z h
theorem en4 {P:Program} {g:FuncId} {fn:Func} {c:Code} {rs:Array ResultVar} {nt:Nat} {a0 a1 a2 a3:Value} {A:AH} {R:Value->AH->Prop} (he:gx P g) (hf:P.funcs[g]? = some fn) (hb:fn.body=some c) (hr:fn.results=rs) (hnt:fn.ntmps=nt) (hn:Nat.ble 4 nt=true) (h:A.wf->ak P nt c (jG P rs.toList fun en A'=>∃ v,en=.returned v/\R v A') ⟨[(0,a0),(1,a1),(2,a2),(3,a3)],[]⟩ A):bH P g #[a0,a1,a2,a3] A R:=aN (args:=[a0,a1,a2,a3]) he hf hb hr hnt Z hn Z h
theorem en5 {P:Program} {g:FuncId} {fn:Func} {c:Code} {rs:Array ResultVar} {nt:Nat} {a0 a1 a2 a3 a4:Value} {A:AH} {R:Value->AH->Prop} (he:gx P g) (hf:P.funcs[g]? = some fn) (hb:fn.body=some c) (hr:fn.results=rs) (hnt:fn.ntmps=nt) (hn:Nat.ble 5 nt=true) (h:A.wf->ak P nt c (jG P rs.toList fun en A'=>∃ v,en=.returned v/\R v A') ⟨[(0,a0),(1,a1),(2,a2),(3,a3),(4,a4)],[]⟩ A):bH P g #[a0,a1,a2,a3,a4] A R:=aN (args:=[a0,a1,a2,a3,a4]) he hf hb hr hnt Z hn Z h
theorem en6 {P:Program} {g:FuncId} {fn:Func} {c:Code} {rs:Array ResultVar} {nt:Nat} {a0 a1 a2 a3 a4 a5:Value} {A:AH} {R:Value->AH->Prop} (he:gx P g) (hf:P.funcs[g]? = some fn) (hb:fn.body=some c) (hr:fn.results=rs) (hnt:fn.ntmps=nt) (hn:Nat.ble 6 nt=true) (h:A.wf->ak P nt c (jG P rs.toList fun en A'=>∃ v,en=.returned v/\R v A') ⟨[(0,a0),(1,a1),(2,a2),(3,a3),(4,a4),(5,a5)],[]⟩ A):bH P g #[a0,a1,a2,a3,a4,a5] A R:=aN (args:=[a0,a1,a2,a3,a4,a5]) he hf hb hr hnt Z hn Z h
theorem en7 {P:Program} {g:FuncId} {fn:Func} {c:Code} {rs:Array ResultVar} {nt:Nat} {a0 a1 a2 a3 a4 a5 a6:Value} {A:AH} {R:Value->AH->Prop} (he:gx P g) (hf:P.funcs[g]? = some fn) (hb:fn.body=some c) (hr:fn.results=rs) (hnt:fn.ntmps=nt) (hn:Nat.ble 7 nt=true) (h:A.wf->ak P nt c (jG P rs.toList fun en A'=>∃ v,en=.returned v/\R v A') ⟨[(0,a0),(1,a1),(2,a2),(3,a3),(4,a4),(5,a5),(6,a6)],[]⟩ A):bH P g #[a0,a1,a2,a3,a4,a5,a6] A R:=aN (args:=[a0,a1,a2,a3,a4,a5,a6]) he hf hb hr hnt Z hn Z h
theorem en8 {P:Program} {g:FuncId} {fn:Func} {c:Code} {rs:Array ResultVar} {nt:Nat} {a0 a1 a2 a3 a4 a5 a6 a7:Value} {A:AH} {R:Value->AH->Prop} (he:gx P g) (hf:P.funcs[g]? = some fn) (hb:fn.body=some c) (hr:fn.results=rs) (hnt:fn.ntmps=nt) (hn:Nat.ble 8 nt=true) (h:A.wf->ak P nt c (jG P rs.toList fun en A'=>∃ v,en=.returned v/\R v A') ⟨[(0,a0),(1,a1),(2,a2),(3,a3),(4,a4),(5,a5),(6,a6),(7,a7)],[]⟩ A):bH P g #[a0,a1,a2,a3,a4,a5,a6,a7] A R:=aN (args:=[a0,a1,a2,a3,a4,a5,a6,a7]) he hf hb hr hnt Z hn Z h
theorem en9 {P:Program} {g:FuncId} {fn:Func} {c:Code} {rs:Array ResultVar} {nt:Nat} {a0 a1 a2 a3 a4 a5 a6 a7 a8:Value} {A:AH} {R:Value->AH->Prop} (he:gx P g) (hf:P.funcs[g]? = some fn) (hb:fn.body=some c) (hr:fn.results=rs) (hnt:fn.ntmps=nt) (hn:Nat.ble 9 nt=true) (h:A.wf->ak P nt c (jG P rs.toList fun en A'=>∃ v,en=.returned v/\R v A') ⟨[(0,a0),(1,a1),(2,a2),(3,a3),(4,a4),(5,a5),(6,a6),(7,a7),(8,a8)],[]⟩ A):bH P g #[a0,a1,a2,a3,a4,a5,a6,a7,a8] A R:=aN (args:=[a0,a1,a2,a3,a4,a5,a6,a7,a8]) he hf hb hr hnt Z hn Z h
theorem en10 {P:Program} {g:FuncId} {fn:Func} {c:Code} {rs:Array ResultVar} {nt:Nat} {a0 a1 a2 a3 a4 a5 a6 a7 a8 a9:Value} {A:AH} {R:Value->AH->Prop} (he:gx P g) (hf:P.funcs[g]? = some fn) (hb:fn.body=some c) (hr:fn.results=rs) (hnt:fn.ntmps=nt) (hn:Nat.ble 10 nt=true) (h:A.wf->ak P nt c (jG P rs.toList fun en A'=>∃ v,en=.returned v/\R v A') ⟨[(0,a0),(1,a1),(2,a2),(3,a3),(4,a4),(5,a5),(6,a6),(7,a7),(8,a8),(9,a9)],[]⟩ A):bH P g #[a0,a1,a2,a3,a4,a5,a6,a7,a8,a9] A R:=aN (args:=[a0,a1,a2,a3,a4,a5,a6,a7,a8,a9]) he hf hb hr hnt Z hn Z h
theorem KY {l:W8} {i:Nat} (h:i < l.length) (hc:l.getD i 0 < 128):Utf8.decode (bs l) i=((l.getD i 0).toNat,1):=by
  have e:(bs l).get! i=l.getD i 0:=by
    show (bs l).data[i]! = _
    simp [bs,h]
  have:(l.getD i 0).toNat < 128:=by simpa [UInt8.lt_iff_toNat_lt] using hc
  simp only [Utf8.decode,Nat.add_zero,e]
  rw [Xw this]
theorem KX {l:W8} {i:Nat} (h:i < l.length) (hc:¬ l.getD i 0 < 128):128<=(Utf8.decode (bs l) i).1:=by
  have e:(bs l).get! i=l.getD i 0:=by
    show (bs l).data[i]! = _
    simp [bs,h]
  have:¬ (l.getD i 0).toNat < 128:=by simpa [UInt8.lt_iff_toNat_lt] using hc
  simp only [Utf8.decode,Nat.add_zero,e]
  rw [Xy this]
  repeat' split
  all_goals simp_all [Utf8.runeError,Utf8.valid]
  all_goals omega
theorem GK (s:ByteArray) (pos:Nat):(Utf8.decode s pos).1<=1114111:=by
  have hb:∀ k,(s.get! (pos + k)).toNat < 256:=fun k=>(s.get! (pos + k)).toNat_lt
  have h0:=hb 0;have h1:=hb 1;have h2:=hb 2;have h3:=hb 3
  simp only [Utf8.decode]
  repeat' split
  all_goals simp_all [Utf8.runeError,Utf8.valid]
  all_goals omega
section
variable {P:Program} {e:ii} {A:AH} {x y:Operand} {t t':TypeId} {v:Value} {ty:TypeId} {ps:String} {af:Array Edge} {dst:Option Nat} {K:Value->AH->Prop} {Kp:List PanicEntry->AH->Prop} {g:Option (Nat × Bool)}
theorem Yh {s:W8} (wf:A.wf) (hx:cd e x=some (aM s)) (hu:P.underlying t=some .string) (h:∀ A1 b,z8 A A1 b (.obj true (.stringIter (bs s) 0))->K (.pointer (some ⟨b,0,none⟩)) A1) :
    kY P e A { dst:=dst,op:=.range t x,type:=ty,pos:=ps,after:=af,guard:=g } K Kp :=
  ⟨_,hx,by simp only [Ci,hu];exact h _ _ (Il wf _)⟩
theorem aab {s:W8} {pos b:Nat} (wf:A.wf) (hx:cd e x=some (.pointer (some ⟨b,0,none⟩))) (hg:A.get b=some (.obj true (.stringIter (bs s) pos)))
    (h1:pos < s.length->∀ A1,s7 A A1 b (.obj true (.stringIter (bs s) (pos + (Utf8.decode (bs s) pos).2)))->K (.tuple #[.bool true,num (pos:Nat),.int .i32 ((Utf8.decode (bs s) pos).1:Nat)]) A1)
    (h2:¬ pos < s.length->K (.tuple #[.bool false]) A):kY P e A { dst:=dst,op:=.next x true,type:=ty,pos:=ps,after:=af,guard:=g } K Kp :=
  ⟨_,hx,b,rfl,.inl ⟨rfl,bs s,pos,hg,fun h=>h1 h _ (TG wf hg _),fun h=>h2 h⟩⟩
end
theorem fa (l:W8):(aw l).length=l.length * 1:=by rw [be,VY]
theorem dY (l:List W8):(dB l).length=l.length * 1:=by rw [cr,VY]
theorem Fresh.base {A0 A B:AH} {v:Value} {n:Nat} {l:List Value} (h:Fresh A B v n l) (le:A0.le A):Fresh A0 B v n l:=⟨h.own,fun b hb=>by
  have:=h.lo b hb
  cases q:A0.get b with
  | none=>rfl
  | some o=>rw [le.g q] at this;cases this⟩
section
variable {P:Program} {e:ii} {A:AH} {x:Operand} {t:TypeId} {v:Value} {r:List ResultVar} {vs:List Value}
theorem gB:iq P e A []=some []:=rfl
theorem fB {k:Nat} (he:cA e k=some v) (h:iq P e A r=some vs):iq P e A (.tmp k :: r)=some (v :: vs):=by simp [iq,he,h]
theorem e8 {a b n cap:Nat} {rw:Bool} {c:List Value} (ha:dM P t=some true) (hs:dy P t=some n) (he:cA e a=some (.pointer (some ⟨b,0,none⟩))) (hg:A.get b=some (.row rw c cap)) (hc:c.length=n) (h:iq P e A r=some vs):iq P e A (.cell a t :: r)=some (.agg c.toArray :: vs):=by
  have:A.cellsAt ⟨b,0,none⟩ n=some c:=by simp [AH.cellsAt,hg,ku,hc];exact Vw O
  simp [iq,he,h,ld,ha,hs,this]
end
theorem FJ (a b:List W8):dB a ++ dB b=dB (a ++ b):=by simp [dB]
theorem Fresh.lit {A0 A:AH} {b n size cap:Nat} {c:List Value} (g:A.get b=some (.row true c cap)) (ge:A0.get b=none) (hc:c.length=n * size) (hcap:n * size<=cap):Fresh A0 A (.slice (some ⟨b,0,none⟩) n n) size c :=
  ⟨.inr ⟨b,n,n,c,cap,rfl,g,hc,Vw O,XX _,hcap⟩,fun b' h=>by cases h;exact ge⟩
theorem Fresh.grow {A0 A A1:AH} {v v':Value} {size:Nat} {xs ys:List Value} (h:Fresh A0 A v size xs) (le:A0.le A) (V:A0.wf) (ap:nA A v size ys v' A1):Fresh A0 A1 v' size ys/\A0.le A1 :=
  ⟨⟨ap.own,fun b hb=>(ap.blk b hb).elim (h.lo b) fun q=>bh V (Xj le.n q)⟩,⟨Xj le.n ap.n,fun b o g=>ap.get b o (le.get b o g) fun q=>by rw [h.lo b q] at g;cases g⟩⟩
theorem fg {A:AH} {b n size cap cp:Nat} {rw:Bool} {c:List Value} (h:A.get b=some (.row rw c cap)) (hn:c.length=n * size) (hc:n<=cp):bz A size (.slice (some ⟨b,0,none⟩) n cp) c :=
  ⟨_,n,cp,rfl,hn,hc,.inr ⟨b,0,rw,c,cap,rfl,h,by rw [List.drop_zero,Vw O]⟩⟩
theorem xz {A:AH} {b cap:Nat} {rw:Bool} {l l':List Value} (h:A.get b=some (.row rw l cap)) (e:l=l'):A.get b=some (.row rw l' cap):=e ▸ h
theorem ci {A0 A:AH} {v:Value} {n:Nat} {l l':List Value} (h:Fresh A0 A v n l) (e:l=l'):Fresh A0 A v n l':=e ▸ h
end V
end Go.Proofs.YtjppkekmddjcfaaGreatDoor
