import Derived.Test.YtjppkekmddjcfaaGreatDoorCC3
import Derived.Test.YtjppkekmddjcfaaGreatDoorCC2
import Derived.Test.YtjppkekmddjcfaaGreatDoorProg
import Derived.KernelRfl
set_option linter.unusedSectionVars false
set_option linter.unusedVariables false
set_option linter.unusedSimpArgs false
namespace Go.Proofs.YtjppkekmddjcfaaGreatDoor
open Go Go.RowKit V Fr
namespace CR
inductive St (L:List (Wd × Wd)):Wd->Wd->Prop
  | mk (a b:Wd) (s:Wd × Wd) (h:s ∈ L):St L (a ++ s.1 ++ b) (a ++ s.2 ++ b)
inductive Rt (L:List (Wd × Wd)):Wd->Wd->Prop
  | rf (w:Wd):Rt L w w
  | hd {x y z:Wd} (h:St L x y) (k:Rt L y z):Rt L x z
inductive Cv (L:List (Wd × Wd)):Wd->Wd->Prop
  | of {x y:Wd} (h:Rt L x y):Cv L x y
  | sm {x y:Wd} (h:Cv L x y):Cv L y x
  | tr {x y z:Wd} (h:Cv L x y) (k:Cv L y z):Cv L x z
def Jn (L:List (Wd × Wd)) (x y:Wd):Prop:=∃ z,Rt L x z/\Rt L y z
section
variable {L:List (Wd × Wd)} {x y z:Wd}
theorem Rt.tr (h:Rt L x y) (k:Rt L y z):Rt L x z:=by
  induction h with
  | rf=>exact k
  | hd s _ ih=>exact .hd s (ih k)
theorem Rt.one (h:St L x y):Rt L x y:=.hd h (.rf _)
theorem St.ctx (h:St L x y) (a b:Wd):St L (a ++ x ++ b) (a ++ y ++ b):=by
  cases h with
  | mk p q s hs =>
    have:=St.mk (L:=L) (a ++ p) (q ++ b) s hs
    simpa only [List.append_assoc] using this
theorem Rt.ctx (h:Rt L x y) (a b:Wd):Rt L (a ++ x ++ b) (a ++ y ++ b):=by
  induction h with
  | rf=>exact .rf _
  | hd s _ ih=>exact .hd (s.ctx a b) ih
theorem Jn.sm (h:Jn L x y):Jn L y x:=let ⟨z,h1,h2⟩:=h;⟨z,h2,h1⟩
theorem Jn.ctx (h:Jn L x y) (a b:Wd):Jn L (a ++ x ++ b) (a ++ y ++ b):=let ⟨z,h1,h2⟩:=h;⟨_,h1.ctx a b,h2.ctx a b⟩
theorem Jn.rf (x:Wd):Jn L x x:=⟨x,.rf x,.rf x⟩
theorem Um {m:Wd->Nat} (hm:∀ x y,St L x y->m y < m x) (lc:∀ x y z,St L x y->St L x z->Jn L y z):∀ (n:Nat) (x y z:Wd),m x < n->Rt L x y->Rt L x z->Jn L y z:=by
  intro n
  induction n with
  | zero=>intro x y z h;exact absurd h (Nat.not_lt_zero _)
  | succ n ih =>
    intro x y z h hy hz
    cases hy with
    | rf=>exact ⟨z,hz,.rf z⟩
    | hd s1 r1 =>
      cases hz with
      | rf=>exact ⟨y,.rf y,.hd s1 r1⟩
      | hd s2 r2 =>
        rename_i y1 z1
        obtain ⟨u,D,V⟩:=lc _ _ _ s1 s2
        obtain ⟨v1,a1,a2⟩:=ih y1 y u (by have:=hm _ _ s1;omega) r1 D
        obtain ⟨v2,b1,b2⟩:=ih z1 v1 z (by have:=hm _ _ s2;omega) (V.tr a2) r2
        exact ⟨v2,a1.tr b1,b2⟩
theorem Cv.jn (cf:∀ x y z,Rt L x y->Rt L x z->Jn L y z) (h:Cv L x y):Jn L x y:=by
  induction h with
  | of h=>exact ⟨_,h,.rf _⟩
  | sm _ ih=>exact ih.sm
  | tr _ _ ih1 ih2 =>
    obtain ⟨u,h1,h2⟩:=ih1
    obtain ⟨v,k1,k2⟩:=ih2
    obtain ⟨t,t1,t2⟩:=cf _ _ _ h2 k1
    exact ⟨t,h1.tr t1,k2.tr t2⟩
def dg (c:UInt8):Nat:=(ix c + 2).toNat
theorem Vl (c:UInt8):1<=dg c/\dg c<=17:=(show ∀ c:UInt8,1<=dg c/\dg c<=17 from gz (by decide +kernel)) c
theorem Vq (c:UInt8):-1<=ix c:=(show ∀ c:UInt8,-1<=ix c from gz (by decide +kernel)) c
def code:Wd->Nat
  | []=>0
  | c :: w=>dg c * 18 ^ w.length + code w
theorem yy:∀ w:Wd,code w < 18 ^ w.length
  | []=>by decide
  | c :: w=>by
    have h1:=yy w
    have h2:=Nat.mul_le_mul_right (18 ^ w.length) (Vl c).2
    rw [code,List.length_cons,Nat.pow_succ]
    omega
theorem Dx {u v:Wd} (h:u.length < v.length):code u < code v:=by
  cases v with
  | nil=>exact absurd h (Nat.not_lt_zero _)
  | cons c v =>
    rw [List.length_cons] at h
    have h1:=yy u
    have h2:=Nat.pow_le_pow_right (n:=18) U (show u.length<=v.length by omega)
    have h3:=Nat.mul_le_mul_right (18 ^ v.length) (Vl c).1
    rw [code]
    omega
theorem zW:∀ u v:Wd,u.length=v.length->ip u v < 0->code u < code v
  | [],v,_,h=>by unfold ip at h;cases v <;> simp at h
  | _ :: _,[],h,_=>by simp at h
  | a :: u,b :: v,h,k=>by
    have hl:u.length=v.length:=by simpa using h
    rw [ip] at k
    rw [code,code,hl]
    by_cases q1:ix a < ix b
    · have h1:=yy u
      rw [hl] at h1
      have h2:dg a + 1<=dg b:=by have:=Vq a;have:=Vq b;unfold dg;omega
      have h3:=Nat.mul_le_mul_right (18 ^ v.length) h2
      rw [Nat.add_mul] at h3
      omega
    · rw [if_neg q1] at k
      by_cases q2:ix b < ix a
      · rw [if_pos q2] at k;omega
      · rw [if_neg q2] at k
        have:=zW u v hl k
        have e:dg a=dg b:=by unfold dg;omega
        rw [e];omega
theorem qi {u v:Wd}:fw u v < 0 ↔ u.length < v.length\/(u.length=v.length/\ip u v < 0):=by
  unfold fw
  by_cases h:u.length=v.length
  · simp [h]
  · by_cases h2:u.length < v.length
    · simp [h,h2]
    · simp [h,h2]
theorem Lx {u v:Wd} (h:fw u v < 0):code u < code v:=by
  rcases qi.1 h with q | ⟨q,q'⟩
  · exact Dx q
  · exact zW u v q q'
theorem Dt {r l:Wd} (h:fw r l < 0) (a b:Wd):fw (a ++ r ++ b) (a ++ l ++ b) < 0:=by
  rcases qi.1 h with q | ⟨q,q'⟩
  · exact qi.2 (.inl Oz)
  · refine qi.2 (.inr ⟨by simp only [List.length_append];omega,?_⟩)
    rw [rj _ _ _ Oz,sL];exact q'
theorem St.down (hL:∀ s ∈ L,fw s.2 s.1 < 0) (h:St L x y):code y < code x:=by
  cases h with | mk a b s hs=>exact Lx (Dt (hL s hs) a b)
theorem pre {a a' x y:Wd} (h:a ++ x=a' ++ y) (hl:a.length<=a'.length):∃ p,a'=a ++ p/\x=p ++ y:=by
  rcases List.append_eq_append_iff.1 h with ⟨p,h1,h2⟩ | ⟨p,h1,h2⟩
  · exact ⟨p,h1,h2⟩
  · have:p=[]:=List.length_eq_zero_iff.1 (by have:=congrArg List.length h1;rw [List.length_append] at this;omega)
    subst this
    exact ⟨[],by simpa using h1.symm,by simpa using h2.symm⟩
theorem Bz {n i j:Nat} {c:CP} (hi:i < L.length) (hj:j < L.length) (h:¬ (n<=i/\n<=j)) (hc:c ∈ d7 L i j):∃ c' ∈ jC n L,c'.u=c.u/\c'.v=c.v:=by
  refine ⟨Wi (nm n i) (nm n j) c,?_,Z,Z⟩
  simp only [jC,Ca,List.mem_flatMap,List.mem_range]
  refine ⟨i,hi,j,hj,?_⟩
  rw [tH,if_neg h]
  exact List.mem_map.2 ⟨c,hc,Z⟩
def FH (s t:Wd × Wd):Prop:=∃ c d c' d',s=([c,d],[])/\t=([c',d'],[])/\(d=c'->d'=c)
variable {n:Nat}
theorem GJ (hP:∀ c ∈ jC n L,Jn L c.u c.v) (hF:∀ i j,i < L.length->j < L.length->n<=i/\n<=j->FH (L.getD i ([],[])) (L.getD j ([],[])))
    {i j:Nat} (hi:i < L.length) (hj:j < L.length) {a b a' b':Wd} (hl:a.length<=a'.length) (e:a ++ (L.getD i ([],[])).1 ++ b=a' ++ (L.getD j ([],[])).1 ++ b') :
    Jn L (a ++ (L.getD i ([],[])).2 ++ b) (a' ++ (L.getD j ([],[])).2 ++ b'):=by
  have hmi:L.getD i ([],[]) ∈ L:=bi hi
  have hmj:L.getD j ([],[]) ∈ L:=bi hj
  have hFF:=hF i j hi hj
  have hmem:=fun (h:¬ (n<=i/\n<=j)) c (hc:c ∈ d7 L i j)=>Bz hi hj h hc
  have V:=fun (h:¬ (n<=j/\n<=i)) c (hc:c ∈ d7 L j i)=>Bz hj hi h hc
  have hraw:d7 L i j=li (i:Int) (j:Int) (decide (i=j)) (L.getD i ([],[])) (L.getD j ([],[])):=rfl
  have X:d7 L j i=li (j:Int) (i:Int) (decide (j=i)) (L.getD j ([],[])) (L.getD i ([],[])):=rfl
  have hsame:i=j->L.getD i ([],[])=L.getD j ([],[]):=fun q=>by rw [q]
  generalize L.getD i ([],[])=s at *
  generalize L.getD j ([],[])=t at *
  generalize d7 L i j=RB at *
  generalize d7 L j i=RB2 at *
  obtain ⟨u,u'⟩:=s
  obtain ⟨v,v'⟩:=t
  simp only at *
  rw [List.append_assoc,List.append_assoc] at e
  obtain ⟨p,rfl,e2⟩:=pre e hl
  by_cases h1:u.length<=p.length
  · -- apart
    obtain ⟨q,rfl,rfl⟩:=pre e2 h1
    refine ⟨a ++ u' ++ q ++ v' ++ b',?_,?_⟩
    · have:=Rt.one (St.mk (L:=L) (a ++ u' ++ q) b' _ hmj)
      simpa only [List.append_assoc] using this
    · have:=Rt.one (St.mk (L:=L) a (q ++ v' ++ b') _ hmi)
      simpa only [List.append_assoc] using this
  · obtain ⟨r,rfl,e3⟩:=pre e2.symm O
    by_cases h2:v.length<=r.length
    · -- the second one within the first
      obtain ⟨q,rfl,rfl⟩:=pre e3 h2
      by_cases hij:i=j
      · have:=hsame hij
        simp only [Prod.mk.injEq] at this
        obtain ⟨z1,z2⟩:=this
        have hz:=congrArg List.length z1
        simp only [List.length_append] at hz
        have hp:p=[]:=List.length_eq_zero_iff.1 O
        have hq:q=[]:=List.length_eq_zero_iff.1 O
        subst hp;subst hq;subst z2
        simp only [List.append_nil,List.nil_append]
        exact Jn.rf _
      · by_cases hf:n<=i/\n<=j
        · obtain ⟨c,d,c',d',z1,z2,_⟩:=hFF hf
          simp only [Prod.mk.injEq] at z1 z2
          obtain ⟨z1,rfl⟩:=z1
          obtain ⟨rfl,rfl⟩:=z2
          have hz:=congrArg List.length z1
          simp only [List.length_append,List.length_cons,List.length_nil] at hz
          have hp:p=[]:=List.length_eq_zero_iff.1 O
          have hq:q=[]:=List.length_eq_zero_iff.1 O
          subst hp;subst hq
          simp only [List.append_nil,List.nil_append]
          exact Jn.rf _
        · have hc:c2 (i:Int) (j:Int) (p ++ (v ++ q),u') (v,v') p.length ∈ RB:=by
            rw [hraw,li,if_neg (by simpa using hij)]
            refine List.mem_append_right _ (List.mem_map.2 ⟨p.length,List.mem_filter.2 ⟨List.mem_range.2 Oz,?_⟩,Z⟩)
            simp only [p2,Bool.and_eq_true,decide_eq_true_eq]
            refine ⟨by simp only [List.length_append];omega,?_⟩
            rw [List.take_length_add_append,List.drop_left,List.take_left]
          obtain ⟨c',hm,hu,hv⟩:=hmem hf _ hc
          have hJ:=hP c' hm
          rw [hu,hv] at hJ
          have D:=hJ.ctx a b
          have e5:(p ++ (v ++ q)).drop (p.length + v.length)=q:=by
            rw [<- List.append_assoc,<- List.length_append,List.drop_left]
          simp only [List.take_left,e5] at D
          simpa only [List.append_assoc] using D
    · -- they overlap
      obtain ⟨q,rfl,e6⟩:=pre e3.symm O
      subst e6
      have hr:0 < r.length:=by simp only [List.length_append] at h1;omega
      have hq:0 < q.length:=by simp only [List.length_append] at h2;omega
      by_cases hf:n<=i/\n<=j
      · obtain ⟨c,d,c',d',z1,z2,z3⟩:=hFF hf
        simp only [Prod.mk.injEq] at z1 z2
        obtain ⟨z1,rfl⟩:=z1
        obtain ⟨z2,rfl⟩:=z2
        have a0:=congrArg List.length z1
        have a1:=congrArg List.length z2
        simp only [List.length_append,List.length_cons,List.length_nil] at a0 a1
        rcases Nat.lt_or_ge 1 r.length with k | k
        · exact absurd a1 O
        · obtain ⟨x,rfl⟩:=List.length_eq_one_iff.1 (show r.length=1 by omega)
          obtain ⟨y,rfl⟩:=List.length_eq_one_iff.1 (show q.length=1 by omega)
          obtain ⟨w,rfl⟩:=List.length_eq_one_iff.1 (show p.length=1 by simp only [List.length_cons,List.length_nil] at a0;omega)
          simp only [List.cons_append,List.nil_append,List.cons.injEq,and_true] at z1 z2
          obtain ⟨rfl,rfl⟩:=z1
          obtain ⟨rfl,rfl⟩:=z2
          have:=z3 Z
          subst this
          simp only [List.append_nil,List.append_assoc]
          exact Jn.rf _
      · rcases Nat.eq_zero_or_pos p.length with hp | hp
        · have hp:=List.length_eq_zero_iff.1 hp
          subst hp
          have hij:¬ j=i:=fun q2=>by
            have:=hsame q2.symm
            simp only [Prod.mk.injEq] at this
            have:=congrArg List.length this.1
            simp only [List.nil_append,List.length_append] at this;omega
          have hc:c2 (j:Int) (i:Int) (r ++ q,v') ([] ++ r,u') 0 ∈ RB2:=by
            rw [X,li,if_neg (by simpa using hij)]
            refine List.mem_append_right _ (List.mem_map.2 ⟨0,List.mem_filter.2 ⟨List.mem_range.2 O,?_⟩,Z⟩)
            simp [p2]
          obtain ⟨c',hm,hu,hv⟩:=V (fun h=>hf ⟨h.2,h.1⟩) _ hc
          have hJ:=hP c' hm
          rw [hu,hv] at hJ
          have D:=hJ.sm.ctx a b'
          simp only [List.nil_append,Nat.zero_add,List.drop_left,List.take_zero] at D
          simpa only [List.append_nil,List.append_assoc] using D
        · have hc:c1 (i:Int) (j:Int) (p ++ r,u') (r ++ q,v') p.length ∈ RB:=by
            rw [hraw,li]
            refine List.mem_append_left _ (List.mem_map.2 ⟨p.length,List.mem_filter.2 ⟨List.mem_range.2 Oz,?_⟩,Z⟩)
            simp only [p1,Bool.and_eq_true,decide_eq_true_eq,List.length_append,Nat.add_sub_cancel_left,List.drop_left,List.take_left,and_true]
            exact ⟨by omega,by omega⟩
          obtain ⟨c',hm,hu,hv⟩:=hmem hf _ hc
          have hJ:=hP c' hm
          rw [hu,hv] at hJ
          have D:=hJ.ctx a b'
          simp only [List.length_append,Nat.add_sub_cancel_left,List.drop_left,List.take_left] at D
          simpa only [List.append_assoc] using D
theorem D7 (hP:∀ c ∈ jC n L,Jn L c.u c.v) (hF:∀ i j,i < L.length->j < L.length->n<=i/\n<=j->FH (L.getD i ([],[])) (L.getD j ([],[]))):∀ x y z,St L x y->St L x z->Jn L y z:=by
  intro x y z h k
  generalize hx:x=x' at k
  cases h with
  | mk a b s hs =>
    cases k with
    | mk a' b' t ht =>
      obtain ⟨i,hi,rfl⟩:=List.getElem_of_mem hs
      obtain ⟨j,hj,rfl⟩:=List.getElem_of_mem ht
      have e1:L[i]=L.getD i ([],[]):=by simp [hi]
      have e2:L[j]=L.getD j ([],[]):=by simp [hj]
      rw [e1,e2] at hx ⊢
      rcases Nat.le_total a.length a'.length with q | q
      · exact GJ hP hF hi hj q hx
      · exact (GJ hP hF hj hi q hx.symm).sm
theorem TG (hP:∀ c ∈ jC n L,Jn L c.u c.v) (hF:∀ i j,i < L.length->j < L.length->n<=i/\n<=j->FH (L.getD i ([],[])) (L.getD j ([],[]))) (hL:∀ s ∈ L,fw s.2 s.1 < 0) (h:Cv L x y):Jn L x y :=
  h.jn fun a b c h1 h2=>Um (m:=code) (fun _ _ s=>s.down hL) (D7 hP hF) _ a b c (Nat.lt_succ_self _) h1 h2
theorem Rt.stuck (hx:∀ y,¬ St L x y) (h:Rt L x y):x=y:=by
  cases h with
  | rf=>rfl
  | hd s _=>exact absurd s (hx _)
end
end CR
end Go.Proofs.YtjppkekmddjcfaaGreatDoor

namespace Go.Proofs.YtjppkekmddjcfaaGreatDoor
open Go Go.RowKit V Fr
namespace CR
variable {g:Int} {l:List Wd} {rs:List be} {w v x y:Wd}
theorem Ri:∀ c:UInt8,0<=ix c->bZ.getD (ix c).toNat 0=c/\bZ.getD ((ix c).toNat ^^^ 1) 0=c ^^^ 32/\((ix c).toNat ^^^ 1) ^^^ 1=(ix c).toNat/\((ix c).toNat ^^^ 1) / 2=(ix c).toNat / 2:=gz (by decide +kernel)
theorem free_in {c:UInt8} (h:gv g c=true):([c ^^^ 32,c],([]:Wd)) ∈ aM g rs:=by
  simp only [gv,Bool.and_eq_true,decide_eq_true_eq] at h
  obtain ⟨k1,k2,k3,k4⟩:=Ri c h.1
  refine List.mem_append_right _ (List.mem_map.2 ⟨(ix c).toNat ^^^ 1,List.mem_range.2 O,?_⟩)
  rw [Tq,k2,k3,k1]
theorem Tp:∀ x:Fin 16,bZ.getD (x.1 ^^^ 1) 0=bZ.getD x.1 0 ^^^ 32:=by decide
theorem Rh:∀ x y:Fin 16,bZ.getD (x.1 ^^^ 1) 0=bZ.getD y.1 0->bZ.getD (y.1 ^^^ 1) 0=bZ.getD x.1 0:=by decide
theorem Ug:∀ x:Fin 16,ix (bZ.getD x.1 0)=x.1:=by decide
theorem rule_in {r:be} (h:r ∈ rs):(r.left,r.right) ∈ aM g rs:=List.mem_append_left _ (List.mem_map.2 ⟨r,h,rfl⟩)
theorem in_cases {s:Wd × Wd} (h:s ∈ aM g rs):(∃ r ∈ rs,s=(r.left,r.right))\/∃ x,x < 2 * g.toNat/\s=(Tq x,[]):=by
  rcases List.mem_append.1 h with h | h
  · obtain ⟨r,hr,rfl⟩:=List.mem_map.1 h;exact .inl ⟨r,hr,Z⟩
  · obtain ⟨x,hx,rfl⟩:=List.mem_map.1 h;exact .inr ⟨x,List.mem_range.1 hx,Z⟩
theorem CA (i:Nat) (hi:i < (aM g rs).length) (h:rs.length<=i):(aM g rs).getD i ([],[])=(Tq (i - rs.length),[])/\i - rs.length < 2 * g.toNat:=by
  rw [oe] at hi
  refine ⟨?_,by omega⟩
  unfold aM
  rw [List.getD_eq_getElem?_getD,List.getElem?_append_right (by simpa using h)]
  simp [show i - rs.length < 2 * g.toNat by omega]
theorem DR (hg:g<=8) (i j:Nat) (hi:i < (aM g rs).length) (hj:j < (aM g rs).length) (h:rs.length<=i/\rs.length<=j):FH ((aM g rs).getD i ([],[])) ((aM g rs).getD j ([],[])):=by
  obtain ⟨e1,b1⟩:=CA i hi h.1
  obtain ⟨e2,b2⟩:=CA j hj h.2
  rw [e1,e2]
  exact ⟨_,_,_,_,Z,Z,Rh ⟨i - rs.length,by omega⟩ ⟨j - rs.length,by omega⟩⟩
theorem N0 (hs:bW g l rs=true) {r:be} (hr:r ∈ rs):fw r.right r.left < 0:=by
  have:=(fh ((gV hs).2.2.1 r hr)).2.2.1
  unfold dB at this
  split at this
  · exact this
  · omega
theorem yh (hs:bW g l rs=true):∀ s ∈ aM g rs,fw s.2 s.1 < 0:=fun s h=>by
  rcases in_cases h with ⟨r,hr,rfl⟩ | ⟨x,_,rfl⟩
  · exact N0 hs hr
  · exact qi.2 (.inl (by show 0 < 2;decide))
theorem wn (hs:bW g l rs=true):∀ s ∈ aM g rs,s.1.all (gv g)=true/\s.2.all (gv g)=true:=fun s h=>by
  have hg:=pX hs
  rcases in_cases h with ⟨r,hr,rfl⟩ | ⟨x,hx,rfl⟩
  · have:=fh ((gV hs).2.2.1 r hr)
    exact ⟨(all_wcheck (nh this.1)).2.2,(all_wcheck (nh this.2.1)).2.2⟩
  · have h1:=Ug ⟨x,by omega⟩
    have h0:gv g (bZ.getD x 0)=true:=by
      simp only [gv,Bool.and_eq_true,decide_eq_true_eq];simp only at h1;omega
    have h2:=JC g h0
    rw [<- Tp ⟨x,by omega⟩] at h2
    refine ⟨?_,Z⟩
    show (gv g (bZ.getD x 0) && (gv g (bZ.getD (x ^^^ 1) 0) && true))=true
    rw [h0,h2];rfl
theorem St.ok (hs:bW g l rs=true) (h:St (aM g rs) x y) (hx:x.all (gv g)=true):y.all (gv g)=true:=by
  cases h with
  | mk a b s hm =>
    simp only [List.all_append,Bool.and_eq_true] at hx ⊢
    exact ⟨⟨hx.1.1,(wn hs s hm).2⟩,hx.2⟩
theorem St.len (hs:bW g l rs=true) (h:St (aM g rs) x y):y.length<=x.length:=by
  cases h with
  | mk a b s hm =>
    have:s.2.length<=s.1.length:=by
      rcases qi.1 (yh hs s hm) with q | ⟨q,_⟩ <;> omega
    simp only [List.length_append];omega
theorem Rt.ok (hs:bW g l rs=true) (h:Rt (aM g rs) x y) (hx:x.all (gv g)=true):y.all (gv g)=true/\y.length<=x.length:=by
  induction h with
  | rf=>exact ⟨hx,Nat.le_refl _⟩
  | hd s _ ih=>have:=ih (s.ok hs hx);have:=s.len hs;exact ⟨this |> fun _=>(ih (s.ok hs hx)).1,by omega⟩
theorem SU (hs:bW g l rs=true) {s s':C9} (h:qH g l rs w s) (hq:s.rest ≠ []) (e:rc rs s=some s'):Rt (aM g rs) (s.stack ++ s.rest.reverse) (s'.stack ++ s'.rest.reverse):=by
  obtain ⟨q,k,n,d,m⟩:=s
  simp only at hq
  have qa:=h.qa
  simp only at qa
  have hql:0 < q.length:=List.length_pos_iff.2 hq
  have qt:gv g (jo q)=true:=List.all_eq_true.1 qa _ (bi O)
  simp only
  rw [xO hq]
  unfold rc at e
  simp only at e
  by_cases hc:vy k q
  · rw [if_pos hc] at e
    cases e
    have hk:k ≠ []:=fun z=>by rw [z] at hc;exact absurd hc.1 (by simp)
    have e2:k ++ jo q :: (oC q).reverse=oC k ++ [jo q ^^^ 32,jo q] ++ (oC q).reverse:=by
      conv=>lhs;rw [rn hk,hc.2]
      simp
    rw [e2]
    have:=Rt.one (St.mk (L:=aM g rs) (oC k) (oC q).reverse _ (free_in qt))
    simpa only [List.append_nil] using this
  · rw [if_neg hc] at e
    by_cases hr:ci rs (k ++ [jo q]) < 0
    · rw [if_pos hr] at e
      cases e
      simp only [List.append_assoc,List.singleton_append]
      exact .rf _
    · rw [if_neg hr] at e
      split at e
      · cases e
        have hsp:=mg hr
        have hm:=vF hr
        generalize hU:p4 rs (k ++ [jo q])=U at *
        have hC:vl rs (k ++ [jo q])=(k ++ [jo q]).take ((k ++ [jo q]).length - U.left.length):=by unfold vl;rw [hU]
        generalize vl rs (k ++ [jo q])=C at *
        have hend:=hsp.2.1
        simp only [gb,decide_eq_true_eq] at hend
        have hsplit:k ++ [jo q]=C ++ U.left:=by
          rw [hC];conv=>lhs;rw [<- List.take_append_drop ((k ++ [jo q]).length - U.left.length) (k ++ [jo q])]
          rw [hend.2]
        have e3:(oC q ++ U.right.reverse).reverse=U.right ++ (oC q).reverse:=by simp
        have e4:k ++ jo q :: (oC q).reverse=C ++ U.left ++ (oC q).reverse:=by rw [<- hsplit];simp
        simp only
        rw [e3,e4,<- List.append_assoc]
        exact Rt.one (St.mk (L:=aM g rs) C (oC q).reverse _ (rule_in hm))
      · cases e
theorem Og (hs:bW g l rs=true) (hw:w.length<=20000):∀ (f:Nat) {s s':C9},qH g l rs w s->gU rs f s=some s'->Rt (aM g rs) (s.stack ++ s.rest.reverse) (s'.stack ++ s'.rest.reverse)
  | 0,s,s',h,e=>by simp [gU] at e
  | f + 1,s,s',h,e=>by
    rw [gU] at e
    by_cases q:s.rest=[]
    · rw [if_pos q] at e;cases e;exact .rf _
    · rw [if_neg q] at e
      split at e
      · cases e
      · rename_i s2 e2
        exact (SU hs h q e2).tr (Og hs hw f (h.step hs hw q e2) e)
theorem zl (hs:bW g l rs=true) (hw:bH g w=0) (hl:w.length<=20000) {R:FJ} (h:jV rs w=some R):Rt (aM g rs) w R.word/\∀ y,¬ St (aM g rs) R.word y:=by
  unfold jV at h
  obtain ⟨s,hr,rfl⟩:=Option.map_eq_some_iff.1 h
  obtain ⟨hi,hn⟩:=qH.run hs hl _ (qH.start hs hw) hr
  have h1:=Og hs hl _ (qH.start hs hw) hr
  rw [hn] at h1
  refine ⟨by simpa [start] using h1,fun y hy=>?_⟩
  simp only at hy
  generalize hz:s.stack=z at hy
  cases hy with
  | mk a b t ht =>
    rcases in_cases ht with ⟨r,hr,rfl⟩ | ⟨x,hx,rfl⟩
    · refine hi.ir r hr a.length ?_
      rw [hz]
      refine ⟨by simp only [List.length_append];omega,?_⟩
      rw [List.append_assoc,List.take_length_add_append,List.drop_left,List.take_left]
    · have hg:=pX hs
      have:=hi.nc a.length (by rw [hz];simp only [List.length_append,Tq,List.length_cons,List.length_nil];omega)
      rw [hz] at this
      apply this
      have f1:=Tp ⟨x,by omega⟩
      simp only at f1
      simp only [Tq,List.append_assoc]
      rw [ls (a:=a) O,ls (a:=a) O,show a.length + 1 - a.length=1 by omega,Nat.sub_self]
      exact f1
theorem ye:∀ {P:List CP},(fP rs P).1=true->∀ c ∈ P,∃ a b,eI rs c.u=some a/\eI rs c.v=some b/\a.word=b.word
  | [],_,c,hc=>by cases hc
  | p :: t,h,c,hc=>by
    rw [fP] at h
    split at h
    · rename_i a b h1 h2
      split at h
      · rename_i q
        rcases List.mem_cons.1 hc with rfl | hc
        · exact ⟨a,b,h1,h2,q⟩
        · exact ye h c hc
      · cases h
    · cases h
theorem zM {α:Type} {p:α->Bool} {w:List α} (n:Nat) (h:w.all p=true):(w.drop n).all p=true:=by
  rw [List.all_eq_true] at h ⊢;exact fun c hc=>h c (List.mem_of_mem_drop hc)
theorem zN {α:Type} {p:α->Bool} {w:List α} (n:Nat) (h:w.all p=true):(w.take n).all p=true:=by
  rw [List.all_eq_true] at h ⊢;exact fun c hc=>h c (List.mem_of_mem_take hc)
theorem RE (hs:bW g l rs=true) {c:CP} (h:c ∈ bh g rs):c.u.all (gv g)=true/\c.v.all (gv g)=true:=by
  simp only [bh,jC,Ca,List.mem_flatMap,List.mem_range] at h
  obtain ⟨i,hi,j,hj,h⟩:=h
  have h1:=wn hs _ (bi (d:=([],[])) hi)
  have h2:=wn hs _ (bi (d:=([],[])) hj)
  unfold tH at h
  split at h
  · cases h
  · obtain ⟨c,hc,rfl⟩:=List.mem_map.1 h
    simp only [Wi]
    unfold d7 li at hc
    generalize (aM g rs).getD i ([],[])=s at *
    generalize (aM g rs).getD j ([],[])=t at *
    rcases List.mem_append.1 hc with hc | hc
    · obtain ⟨k,_,rfl⟩:=List.mem_map.1 hc
      exact ⟨qg h1.2 (zM _ h2.1),qg (zN _ h1.1) h2.2⟩
    · split at hc
      · cases hc
      · obtain ⟨k,_,rfl⟩:=List.mem_map.1 hc
        exact ⟨h1.2,qg (qg (zN _ h1.1) h2.2) (zM _ h1.1)⟩
theorem CG {R:FJ} (h:eI rs w=some R):w.length<=20000/\jV rs w=some R:=by
  unfold eI at h
  split at h
  · cases h
  · exact ⟨by omega,h⟩
theorem Dy (hs:bW g l rs=true) (h:(du g l rs).1=true):∀ c ∈ bh g rs,Jn (aM g rs) c.u c.v:=fun c hc=>by
  rw [du,if_pos hs] at h
  obtain ⟨a,b,ha,hb,hab⟩:=ye h c hc
  obtain ⟨la,ra⟩:=CG ha
  obtain ⟨lb,rb⟩:=CG hb
  obtain ⟨oa,ob⟩:=RE hs hc
  have hg:=pX hs
  have h1:=(zl hs (wcheck_all hg O oa) la ra).1
  have h2:=(zl hs (wcheck_all hg O ob) lb rb).1
  rw [<- hab] at h2
  exact ⟨_,h1,h2⟩
theorem QH (hs:bW g l rs=true) (h:(du g l rs).1=true) (hc:Cv (aM g rs) w v):Jn (aM g rs) w v :=
  TG (n:=rs.length) (Dy hs h) (fun i j hi hj q=>DR (pX hs).2 i j hi hj q) (yh hs) hc
theorem conf_word (hs:bW g l rs=true) (h:(du g l rs).1=true) (hc:Cv (aM g rs) w v) (hw:iG g l rs w=0) (hv:iG g l rs v=0):(il g l rs w).word=(il g l rs v).word:=by
  obtain ⟨_,w1,w2,w3⟩:=yi hw
  obtain ⟨_,v1,v2,v3⟩:=yi hv
  obtain ⟨a1,a2⟩:=zl hs w1 w2 w3
  obtain ⟨b1,b2⟩:=zl hs v1 v2 v3
  have:Cv (aM g rs) (il g l rs w).word (il g l rs v).word:=(Cv.of a1).sm.tr (hc.tr (.of b1))
  obtain ⟨z,z1,z2⟩:=QH hs h this
  rw [z1.stuck a2,z2.stuck b2]
end CR
end Go.Proofs.YtjppkekmddjcfaaGreatDoor

namespace Go.Proofs.YtjppkekmddjcfaaGreatDoor
open Go Go.RowKit V Fr
def Jj (s:Int × Int):List Value:=[num s.1,num s.2]
def AK (l:List (Int × Int)):List Value:=l.flatMap Jj
theorem nU (l:List (Int × Int)):(AK l).length=l.length * 2:=rk (f:=Jj) (n:=2) (fun _=>rfl) l
theorem xu (l:List (Int × Int)):(AK l).length=l.length * 2:=nU l
theorem AL {l:List (Int × Int)} {i:Nat} (h:i < l.length):(AK l)[i * 2 + 0]? = some (num (l.getD i (0,0)).1):=uC (f:=Jj) (n:=2) (fun _=>rfl) h U
theorem AM {l:List (Int × Int)} {i:Nat} (h:i < l.length):(AK l)[i * 2 + 1]? = some (num (l.getD i (0,0)).2):=uC (f:=Jj) (n:=2) (fun _=>rfl) h U
def mD (rs:List be):Bool:=decide (rs.length<=14) && rs.all fun r=>decide (r.left.length<=14)
section
variable {rs:List be} {i:Nat}
theorem vE (hi:i < rs.length) (h:14 < (rs.getD i .zero).left.length):mD rs=false:=by
  rw [mD,show (rs.all fun r=>decide (r.left.length<=14))=false from List.all_eq_false.2 ⟨_,bi (d:=.zero) hi,by simp only [decide_eq_true_eq];omega⟩,Bool.and_false]
theorem tk (hi:i<=rs.length) (h:rs.length<=i\/15<=i) (hc:∀ k,k < i->(rs.getD k .zero).left.length<=14):mD rs=decide (rs.length<=14):=by
  rcases h with h | h
  · rw [mD,show (rs.all fun r=>decide (r.left.length<=14))=true from List.all_eq_true.2 fun r hr=>by
      obtain ⟨k,hk,rfl⟩:=List.getElem_of_mem hr
      have:=hc k O
      rw [gd hk] at this;simpa using this,Bool.and_true]
  · rw [mD,decide_eq_false O];rfl
theorem D6 (h:mD rs=true):rs.length<=14/\∀ r ∈ rs,r.left.length<=14:=by
  simp only [mD,Bool.and_eq_true,decide_eq_true_eq,List.all_eq_true] at h;exact h
theorem yI {α:Type} {f:Nat->List α} {B:Nat}:∀ k,(∀ i,i < k->(f i).length<=B)->((List.range k).flatMap f).length<=k * B
  | 0,_=>by simp
  | k + 1,h=>by
    rw [List.range_succ,List.flatMap_append,List.length_append,Nat.succ_mul]
    have h1:=yI k fun i hi=>h i O
    have h2:=h k O
    simp only [List.flatMap_cons,List.flatMap_nil,List.append_nil]
    omega
theorem Qm {I J:Int} {same:Bool} {a b:Wd × Wd}:(li I J same a b).length<=2 * a.1.length + 1:=by
  have h1:(sD I J a b a.1.length).length<=a.1.length:=by
    simp only [sD,List.length_map];exact Nat.le_trans (List.length_filter_le _ _) (by simp)
  have h2:(vw I J a b (a.1.length + 1)).length<=a.1.length + 1:=by
    simp only [vw,List.length_map];exact Nat.le_trans (List.length_filter_le _ _) (by simp)
  unfold li
  rw [List.length_append]
  split
  · simp only [List.length_nil];omega
  · omega
theorem AU {g:Int} (hg:1<=g/\g<=8) (h:mD rs=true):(bh g rs).length<=50000:=by
  obtain ⟨h1,h2⟩:=D6 h
  have hL:∀ s ∈ aM g rs,s.1.length<=14:=fun s hs=>by
    rcases CR.in_cases hs with ⟨r,hr,rfl⟩ | ⟨x,_,rfl⟩
    · exact h2 r hr
    · show 2<=14;decide
  have hn:(aM g rs).length<=30:=by rw [oe];omega
  refine Nat.le_trans (yI (B:=30 * 29) _ fun i hi=>?_) (Nat.le_trans (Nat.mul_le_mul_right _ hn) U)
  refine Nat.le_trans (yI (B:=29) _ fun j hj=>?_) (Nat.mul_le_mul_right _ hn)
  unfold tH
  split
  · simp
  · rw [List.length_map]
    refine Nat.le_trans Qm ?_
    have:=hL _ (bi (d:=([],[])) hi)
    omega
def mf (rs:List be) (w:Wd) (a b:Int):Wd :=
  if a < 0\/(w.length:Int)<=a then w
  else if 0<=b/\b < rs.length then
    if GO w (rs.getD b.toNat .zero).left a.toNat then w.take a.toNat ++ (rs.getD b.toNat .zero).right ++ w.drop (a.toNat + (rs.getD b.toNat .zero).left.length) else w
  else if a.toNat + 1 < w.length/\w.getD a.toNat 0=w.getD (a.toNat + 1) 0 ^^^ 32 then w.take a.toNat ++ w.drop (a.toNat + 2) else w
variable {w:Wd} {a b:Int} {m j:Nat}
theorem pG (h:a < 0\/(w.length:Int)<=a):mf rs w a b=w:=by rw [mf,if_pos h]
theorem pH (hm:m < w.length) (hj:j < rs.length) (h1:m + (rs.getD j .zero).left.length<=w.length) (h2:(w.take (m + (rs.getD j .zero).left.length)).drop m=(rs.getD j .zero).left) :
    mf rs w m j=w.take m ++ (rs.getD j .zero).right ++ w.drop (m + (rs.getD j .zero).left.length):=by
  rw [mf,if_neg O,if_pos O,if_pos];rfl
  exact ⟨h1,h2⟩
theorem pK (hm:m < w.length) (hj:j < rs.length) (h:¬ (m + (rs.getD j .zero).left.length<=w.length/\(w.take (m + (rs.getD j .zero).left.length)).drop m=(rs.getD j .zero).left)):mf rs w m j=w:=by
  rw [mf,if_neg O,if_pos O];exact if_neg h
theorem pM (hm:m < w.length) (hj:¬ (0<=b/\b < rs.length)) (h1:m + 1 < w.length) (h2:w.getD m 0=w.getD (m + 1) 0 ^^^ 32):mf rs w m b=w.take m ++ w.drop (m + 2):=by
  rw [mf,if_neg O,if_neg hj,if_pos];rfl
  exact ⟨h1,h2⟩
theorem pN (hm:m < w.length) (hj:¬ (0<=b/\b < rs.length)) (h:¬ (m + 1 < w.length/\w.getD m 0=w.getD (m + 1) 0 ^^^ 32)):mf rs w m b=w:=by
  rw [mf,if_neg O,if_neg hj];exact if_neg h
end
theorem Pt {w:Wd} {m n:Nat} (h:m + n<=w.length):w=w.take m ++ (w.take (m + n)).drop m ++ w.drop (m + n):=by
  conv=>lhs;rw [<- List.take_append_drop (m + n) w]
  congr 1
  have:=List.take_append_drop m (w.take (m + n))
  rw [List.take_take,Nat.min_eq_left O] at this
  exact this.symm
theorem LM {w:Wd} {m:Nat} (h:m + 1 < w.length):(w.take (m + 2)).drop m=[w.getD m 0,w.getD (m + 1) 0]:=by
  rw [List.drop_eq_getElem_cons Or,List.drop_eq_getElem_cons Or,List.drop_eq_nil_of_le Or]
  simp [show m < w.length by omega,h]
theorem R8 {g:Int} {rs:List be} {w:Wd} (hw:w.all (gv g)=true) (a b:Int):CR.Rt (aM g rs) w (mf rs w a b):=by
  unfold mf
  split
  · exact .rf _
  · rename_i ha
    split
    · rename_i hb
      split
      · rename_i ho
        have e:=Pt ho.1
        rw [ho.2] at e
        conv=>arg 2;rw [e]
        exact CR.Rt.one (CR.St.mk (L:=aM g rs) _ _ _ (CR.rule_in (bi (d:=be.zero) O)))
      · exact .rf _
    · split
      · rename_i ho
        have e:=Pt (w:=w) (m:=a.toNat) (n:=2) O
        rw [LM ho.1,ho.2] at e
        conv=>arg 2;rw [e]
        have:=CR.Rt.one (CR.St.mk (L:=aM g rs) (w.take a.toNat) (w.drop (a.toNat + 2)) _ (CR.free_in (rs:=rs) (List.all_eq_true.1 hw _ (bi (d:=0) ho.1))))
        simpa only [List.append_nil] using this
      · exact .rf _
theorem F8 {g:Int} {l:List Wd} {rs:List be} (h:¬ ¬ ((if bW g l rs then 0 else 100:Nat)=0)):bW g l rs=true:=by
  cases q:bW g l rs with
  | true=>rfl
  | false=>rw [q] at h;exact absurd (Decidable.not_not.1 h) U
theorem Rz {g:Int} {w:Wd} (h:w.all (gv g)=true):CZ w:=fun c hc=>by
  have:=List.all_eq_true.1 h c hc
  simp only [gv,Bool.and_eq_true,decide_eq_true_eq] at this;exact this.1
theorem LD {g:Int} {l:List Wd} {rs:List be} (hs:bW g l rs=true):(du g l rs).2.2=0\/(du g l rs).2.2=2:=by
  rw [du,if_pos hs]
  generalize bh g rs=P
  induction P with
  | nil=>exact .inl Z
  | cons p t ih =>
    rw [fP]
    split
    · split
      · exact ih
      · exact .inl Z
    · exact .inr Z
theorem Iq {g:Int} {l:List Wd} {rs:List be} {w:Wd} (hs:bW g l rs=true) (hw:bH g w=0):iG g l rs w=0\/iG g l rs w=2:=by
  rw [(og hs).2,lH,if_neg O]
  split
  · exact .inl Z
  · exact .inr Z
end Go.Proofs.YtjppkekmddjcfaaGreatDoor

namespace Go.Proofs.YtjppkekmddjcfaaGreatDoor
open Go Go.ChangeShapes Go.WideShapes Go.ChangeAt Go.RowKit V
set_option maxRecDepth 100000
theorem FX:Tryz.prog.cellsOf 51=2:=by kernel_rfl
section
variable {H:Type} {enc:TypeId × Value->H} {W:World} {base:Nat} {sp:Nat->Bool} {held:Bool} {fuel:Nat} {x:DataW H × List MemPlace}
theorem JE {c:List Value} (h:DataW.trod enc Tryz.prog W base sp held fuel 51 c=some x):∃ z:Int × Int,c=Jj z/\True:=by
  obtain ⟨xs,n,_,_,hl,hx,hi⟩:=DataW.trod_array Tryz.underlying51 h
  rw [FX] at hl
  obtain ⟨a,b,rfl⟩:∃ a b,c=[a,b]:=by
    match c,hl with
    | [a,b],_=>exact ⟨a,b,Z⟩
  have some_at:∀ i,i < 2->∃ y,xs[i]? = some y:=fun i hi=>⟨xs[i]'(by rw [hx];exact hi),by simp [show i < xs.length by rw [hx];exact hi]⟩
  obtain ⟨y0,h0⟩:=some_at 0 U
  obtain ⟨y1,h1⟩:=some_at 1 U
  have g0:=hi 0 U
  have g1:=hi 1 U
  rw [h0] at g0
  rw [h1] at g1
  obtain ⟨r,e0,_⟩:=DataW.trod_int Tryz.underlying3 g0
  obtain ⟨s,e1,_⟩:=DataW.trod_int Tryz.underlying3 g1
  rw [Dq] at e0 e1
  have f0:a=.int .i64 r:=by simpa using e0
  have f1:b=.int .i64 s:=by simpa using e1
  exact ⟨(r,s),by rw [f0,f1];rfl,trivial⟩
end
end Go.Proofs.YtjppkekmddjcfaaGreatDoor

namespace Go.Proofs.YtjppkekmddjcfaaGreatDoor
open Go Go.RowKit V
set_option maxRecDepth 100000
theorem mixed:Tryz.prog.follows .mixedOrders=true:=by kernel_rfl
theorem Vg:dr Tryz.prog 172=some true:=by kernel_rfl
theorem eR:dr Tryz.prog 3=some false:=by kernel_rfl
theorem Ld:dr Tryz.prog 5=some false:=by kernel_rfl
theorem fW:dr Tryz.prog 9=some false:=by kernel_rfl
theorem un:Tryz.prog.info? 5=some Tryz.t5:=by kernel_rfl
theorem VQ:c9 Tryz.prog 172=some 16:=by kernel_rfl
theorem kz:c9 Tryz.prog 5=some 1:=by kernel_rfl
theorem fp:c9 Tryz.prog 9=some 1:=by kernel_rfl
theorem cT:type_of% @Tryz.underlying102:=@Tryz.underlying102
theorem VY:type_of% @Tryz.underlying172:=@Tryz.underlying172
theorem Xi:type_of% @Tryz.underlying21:=@Tryz.underlying21
theorem mJ:type_of% @Tryz.underlying22:=@Tryz.underlying22
theorem u4:type_of% @Tryz.underlying4:=@Tryz.underlying4
theorem u5:type_of% @Tryz.underlying5:=@Tryz.underlying5
theorem u9:type_of% @Tryz.underlying9:=@Tryz.underlying9
theorem z5:cu Tryz.prog 5=some (.int .u8 0):=by kernel_rfl
theorem z9:cu Tryz.prog 9=some (.string ⟨⟨[]⟩⟩):=by kernel_rfl

theorem Il (c:UInt8) (A:AH):bE Tryz.prog 175 #[ek (c)] A (fun v A1=>v=ek (c ^^^ 32)/\A=A1):=by
 refine gR Tryz.call175 Tryz.func175 Z Tryz.results175 Tryz.ntmps175 Z (fun wf=>?_);have h:=AH.le.refl A;refine am.seq fun _ h2=>.region<|.q Z (ah Z)<|.nil<|h2 _ _<|.seq fun _ h4=>.region<|.q Z (ae Z)<|.q Z (NH (d:=32) Z Z)<|.q Z (ah Z) ?_;refine Ops.nil<|h4 _ _<|.rt (by exact aH Z (⟨Z,Z⟩))

theorem sl (c:UInt8) (A:AH) (hL:gy A):bE Tryz.prog 98 #[ek (c)] A (fun v A1=>v=num (ix c)/\A=A1):=by
 refine gR Tryz.call98 Tryz.func98 Z Tryz.results98 Tryz.ntmps98 Z (fun wf=>?_);have a5:=AH.le.refl A;obtain ⟨rwL,capL,gL⟩:=hL;refine am.seq fun _ h2=>.region<|.q Z (ah Z)<|.nil<|h2 _ _<|.seq fun _ h4=>.seq fun _ h6=>.region<|.q Z (aq Vg VQ Z Z (a5.get _ _ gL) Z)<|.q Z (ae Z) ?_;refine Ops.nil<|h6 _ _<|.block<|.loop (X:=Nat) (fun k=>[(0,ek (c)),(5,.agg #[ek (97),ek (65),ek (98),ek (66),ek (99),ek (67),ek (100),ek (68),ek (101),ek (69),ek (102),ek (70),ek (103),ek (71),ek (104),ek (72)]),(6,num ((k:Nat):Int))]) (fun k B=>(k<=16/\∀ j,j < k->bZ.getD j 0 ≠ c)/\A=B) (fun k=>16 - k) 0 (kX Z Z Z) (⟨⟨by omega,fun j h=>by omega⟩,Z⟩) ?_;rintro k B8 ⟨⟨hk,hn⟩,rfl⟩;refine am.seq fun _ D=>.region<|.q Z (bX (b:=16) Z Z)<|.nil<|D _ _<|.seq fun _ V=>.if rfl (fun a6=>?_) (fun a6=>?_)
 ·refine am.skip<|V _ _<|.seq fun _ a0=>.block<|.seq fun _ a1=>.region<|.q Z (ae Z)<|.q Z (Ny (l:=bZ) VY kz Ld Z Z O Z)<|.q Z (ah Z)<|.q Z (ah Z) ?_;refine Ops.nil<|a1 _ _<|.seq fun _ a2=>.region<|.q Z (ae Z)<|.q Z (ae Z)<|.q Z (vL Z Z)<|.nil<|a2 _ _<|.if rfl (fun a7=>?_) (fun a7=>?_)
  ·refine am.seq fun _ a3=>.region<|.q Z (ae Z)<|.q Z (ah Z)<|.nil<|a3 _ _<|.rt (by exact aH Z (⟨by rw [Mu O hn Ow];rfl,Z⟩))
  refine am.skip<|a0 _ _<|.region<|.q Z (bq (b:=1) Z Z O)<|.q Z (ae Z)<|.nil ?_;exact ⟨k + 1,kX Z Z Z,Z,⟨⟨by omega,fun j h=>(Nat.lt_succ_iff_lt_or_eq.1 h).elim (hn j) (fun q=>by subst q;assumption)⟩,Z⟩,O1⟩
 refine am.exit<|h4 _ _<|.seq fun _ a4=>.region<|.q Z (ah Z)<|.nil<|a4 _ _<|.rt (by exact aH Z (⟨by rw [Rg (fun j h=>hn j O)];rfl,Z⟩))

theorem OL (r:Nat) (k:Int) (b cap:Nat) (rw:Bool) (A:AH) (hk:1<=k/\k<=8) (hL:gy A) (hb:A.get b=some (.row rw [num k] cap)):bE Tryz.prog 97 #[.int .i32 ((r:Nat):Int),.pointer (some ⟨b,0,none⟩)] A (fun v A1=>v=.bool (decide (127 < r) || !gv k (UInt8.ofNat r))/\A=A1):=by
 refine lQ Tryz.call97 Tryz.func97 Z Tryz.results97 Tryz.ntmps97 Z (fun wf=>?_);have h:=AH.le.refl A;refine am.seq fun _ h2=>.region<|.q Z (ah Z)<|.nil<|h2 _ _<|.seq fun _ h4=>.drawn [0,1,2,3,4,5,6,7,8,9,10,12,13,11,14,15,16] mixed Y Y Z<|.q Z Z Z (ae Z)<|.q Z Z Z (ee (b:=127) Z Z)<|.q Z Z Z (ae Z) ?_;refine bj.part (t:=6) Z (fun p5=>?_) (fun p5=>?_)
 ·refine bj.qOff Z Z Z Z Z Z<|.qOff Z Z Z Z Z Z<|.lOff Z Z Z Z Z Z<|.qOff Z Z Z Z Z Z<|.q Z Z Z (aJ Z Z)<|.q Z Z Z (ae Z)<|.qOff Z Z Z Z Z Z<|.qOff Z Z Z Z Z Z<|.qOff Z Z Z Z Z Z<|.qOff Z Z Z Z Z Z ?_;refine bj.lOff Z Z Z Z Z Z<|.qOff Z Z Z Z Z Z<|.q Z Z Z (aJ Z Z)<|.q Z Z Z (ah Z)<|.done<|h4 _ _<|.rt (by exact aH Z (⟨by simp_all [gv,dT,Wr,DF],Z⟩))
 refine bj.qOn Z Z Z Z Z (ae Z)<|.qOn Z Z Z Z Z (zf Xi u5 Z)<|.lOn Z Z Z Z Z (fun _ _ X _=>au Z (sl (UInt8.ofNat (r)) A hL) ?_);rintro v7 A8 ⟨rfl,rfl⟩;refine X _ _ (aW.none Y)<|.qOn Z Z Z Z Z (kG Z Z)<|.q Z Z Z (aU Z Z)<|.q Z Z Z (ae Z)<|.part (t:=12) Z (fun a0=>?_) (fun a0=>?_)
 ·refine bj.qOff Z Z Z Z Z Z<|.qOff Z Z Z Z Z Z<|.qOff Z Z Z Z Z Z<|.qOff Z Z Z Z Z Z<|.lOff Z Z Z Z Z Z<|.qOff Z Z Z Z Z Z<|.q Z Z Z (aJ Z Z)<|.q Z Z Z (ah Z)<|.done<|h4 _ _ ?_;refine am.ret ?_;repeat first | with_reducible refine bz ?_ | with_reducible refine bn ?_
  exact aH Z (⟨by simp_all [gv,dT,Wr,DF],Z⟩)
 refine bj.qOn Z Z Z Z Z (ae Z)<|.qOn Z Z Z Z Z (zf Xi u5 Z) ?_;have D:=cR (off:=0) (h.get _ _ hb) (show _=some (num (k)) from rfl);refine bj.qOn Z Z Z Z Z (ak eR Z Z (h.get _ _ hb) Z)<|.qOn Z Z Z Z Z (RY Z Z O)<|.lOn Z Z Z Z Z (fun _ _ V _=>au Z (sl (UInt8.ofNat (r)) A hL) ?_);rintro a1 A14 ⟨rfl,rfl⟩;refine V _ _ (aW.list (L:=[(⟨b,0,none⟩,num (k))]) Y (bw D cI))<|.qOn Z Z Z Z Z (lz Z Z)<|.q Z Z Z (aU Z Z)<|.q Z Z Z (ah Z)<|.done<|h4 _ _<|.rt (by exact aH Z (⟨by simp_all [gv,dT,Wr,DF],Z⟩))

theorem Ct (g:Nat) (caps:Array Value) (q:Nat->Bool) (hq:∀ r,128<=r->q r=true) (s:List UInt8) (A:AH) (hs:s.length<=100000) (hf:∀ r B,A.le B->B.wf->bE Tryz.prog g (#[] ++ #[.int .i32 ((r:Nat):Int)] ++ caps) B (fun v B1=>v=.bool (q r)/\B=B1)):bE Tryz.prog 176 #[bf (s),.func (.func g) #[] caps,.bool (true)] A (fun v A1=>v=num (PZ q s)/\A.le A1/\A1.wf):=by
 refine wR Tryz.call176 Tryz.func176 Z Tryz.results176 Tryz.ntmps176 Z (fun wf=>?_);have aa:=AH.le.refl A;refine am.seq fun _ h2=>.region<|.q Z (ah Z)<|.nil<|h2 _ _<|.seq fun _ h4=>.seq fun _ h6=>.region<|.q Z (ae Z)<|.l Z (fun _ _ aC _=>Td wf rfl u9 fun A9 b8 a3=>?_);have a4:=aQ wf (Nat.le_trans aa.n a3.lo);have ad:=aa.trans a3.le;refine aC _ _<|.nil<|h6 _ _<|.block<|.loop (X:=Nat) (fun k=>[(1,.func (.func g) #[] caps),(2,.bool (true)),(10,.pointer (some ⟨b8,0,none⟩))]) (fun k B=>(k<=s.length/\∀ j,j < k->q (s.getD j 0).toNat=false)/\A.le B/\B.get b8=some (.obj true (.stringIter (bs s) (k)))) (fun k=>s.length - k) 0 (kX Z Z Z) (⟨⟨by omega,fun j h=>by omega⟩,ad,a3.get⟩) ?_;rintro k B13 ⟨⟨hk,hn⟩,a0,a5⟩;refine am.wf fun a9=>.seq fun _ a6=>.region<|.l Z (fun _ _ V _=>UY a9 Z a5 (fun a8 A18 D=>?_) (fun a8=>?_))
 ·by_cases hc21:s.getD k 0 < 128
  ·rw [I8 a8 hc21] at D ⊢;have a1:=an a0 wf a4 D.n D.keep;refine V _ _<|.q Z (bg Z Z)<|.nil<|a6 _ _<|.seq fun _ ag=>.cond_true Z<|.skip<|ag _ _<|.block<|.seq fun _ ai=>?_;refine am.region<|.q Z (bg Z Z)<|.q Z (bg Z Z)<|.q Z (ah Z)<|.q Z (ah Z)<|.nil<|ai _ _<|.seq fun _ ap=>.region<|.q Z (ae Z) ?_;refine Ops.q Z (ae Z)<|.l Z (fun _ _ ab _=>oG Z Z (hf ((s.getD k 0).toNat) A18 a1 D.wf) ?_);rintro aP A31 ⟨rfl,rfl⟩;refine ab _ _<|.q Z (ae Z)<|.q Z (Tx u4 Z Z)<|.nil<|ap _ _<|.ifB Z (fun aF=>?_) (fun aF=>?_)
   ·refine am.seq fun _ ar=>.region<|.q Z (ae Z)<|.q Z (ah Z)<|.nil<|ar _ _<|.rt (by exact aH Z (⟨by rw [xp Ow hn (by simpa using ‹(q _ == true)=true›)];rfl,a1,D.wf⟩))
   refine am.skip ?_;exact ⟨k + 1,kX Z Z Z,Z,⟨(by exact ⟨by omega,fun j h=>(Nat.lt_succ_iff_lt_or_eq.1 h).elim (hn j) (fun z=>by subst z;simpa using ‹(q _ == true)=false›)⟩),a1,D.get⟩,O⟩
  have a7:=I7 a8 hc21;have aD:=DE (bs s) k;have hqT:=hq _ a7;have a2:=an a0 wf a4 D.n D.keep;refine V _ _<|.q Z (bg Z Z)<|.nil<|a6 _ _<|.seq fun _ av=>.cond_true Z<|.skip<|av _ _<|.block<|.seq fun _ ay=>?_;refine am.region<|.q Z (bg Z Z)<|.q Z (bg Z Z)<|.q Z (ah Z)<|.q Z (ah Z)<|.nil<|ay _ _<|.seq fun _ az=>.region<|.q Z (ae Z) ?_;refine Ops.q Z (ae Z)<|.l Z (fun _ _ ac _=>oG Z Z (hf ((Utf8.decode (bs s) k).1) A18 a2 D.wf) ?_);rintro aR A45 ⟨rfl,rfl⟩;refine ac _ _<|.q Z (ae Z)<|.q Z (Tx u4 Z Z)<|.nil<|az _ _<|.ifB Z (fun aG=>?_) (fun aG=>?_)
  ·refine am.seq fun _ aA=>.region<|.q Z (ae Z)<|.q Z (ah Z)<|.nil<|aA _ _<|.rt (by exact aH Z (⟨by rw [xp Ow hn (by exact hq _ (Wg ‹_›))];rfl,a2,D.wf⟩))
  refine am.skip ?_;exact ⟨k + (Utf8.decode (bs s) k).2,kX Z Z Z,Z,⟨(by (exfalso;simp_all)),a2,D.get⟩,(by (exfalso;simp_all))⟩
 refine V _ _<|.q Z (bg Z Z)<|.nil<|a6 _ _<|.seq fun _ aI=>.cond_false Z<|.exit<|h4 _ _<|.seq fun _ aB=>.region ?_;refine Ops.q Z (ah Z)<|.nil<|aB _ _<|.rt (by exact aH Z (⟨by rw [Mi (fun j h=>hn j O)];rfl,a0,a9⟩))

theorem Ci (g:Nat) (caps:Array Value) (q:Nat->Bool) (hq:∀ r,128<=r->q r=true) (s:List UInt8) (A:AH) (hs:s.length<=100000) (hf:∀ r B,A.le B->B.wf->bE Tryz.prog g (#[] ++ #[.int .i32 ((r:Nat):Int)] ++ caps) B (fun v B1=>v=.bool (q r)/\B=B1)):bE Tryz.prog 132 #[bf (s),.func (.func g) #[] caps] A (fun v A1=>v=num (PZ q s)/\A.le A1/\A1.wf):=by
 refine lQ Tryz.call132 Tryz.func132 Z Tryz.results132 Tryz.ntmps132 Z (fun wf=>?_);have h:=AH.le.refl A;refine am.seq fun _ h2=>.region<|.q Z (ah Z)<|.nil<|h2 _ _<|.seq fun _ h4=>.region<|.q Z (ae Z)<|.q Z (ae Z)<|.l Z (fun _ _ X _=>au Z (Ct g caps q hq s A hs (fun r B le wf=>hf r B (h.trans le) wf)) ?_);rintro v6 A7 ⟨rfl,D,V⟩;have a0:=h.trans D;refine X _ _<|.q Z (ah Z)<|.nil<|h4 _ _<|.rt (by exact aH Z (⟨Z,a0,V⟩))

theorem we (g:Nat) (caps:Array Value) (q:Nat->Bool) (hq:∀ r,128<=r->q r=true) (s:List UInt8) (A:AH) (hs:s.length<=100000) (hf:∀ r B,A.le B->B.wf->bE Tryz.prog g (#[] ++ #[.int .i32 ((r:Nat):Int)] ++ caps) B (fun v B1=>v=.bool (q r)/\B=B1)):bE Tryz.prog 96 #[bf (s),.func (.func g) #[] caps] A (fun v A1=>v=.bool (decide (0<=PZ q s))/\A.le A1/\A1.wf):=by
 refine lQ Tryz.call96 Tryz.func96 Z Tryz.results96 Tryz.ntmps96 Z (fun wf=>?_);have h:=AH.le.refl A;refine am.seq fun _ h2=>.region<|.q Z (ah Z)<|.nil<|h2 _ _<|.seq fun _ h4=>.region<|.q Z (ae Z)<|.q Z (ae Z)<|.l Z (fun _ _ X _=>au Z (Ci g caps q hq s A hs (fun r B le wf=>hf r B (h.trans le) wf)) ?_);rintro v6 A7 ⟨rfl,D,V⟩;have a0:=h.trans D;refine X _ _<|.q Z (lz Z Z)<|.q Z (ah Z)<|.nil<|h4 _ _<|.rt (by exact aH Z (⟨Z,a0,V⟩))

theorem pQ (k:Int) (w:List UInt8) (A:AH) (hL:gy A):bE Tryz.prog 47 #[num (k),bf (w)] A (fun v A1=>v=num ((bH k w:Nat):Int)/\A.le A1/\A1.wf):=by
 refine lQ Tryz.call47 Tryz.func47 Z Tryz.results47 Tryz.ntmps47 Z (fun wf=>?_);have ac:=AH.le.refl A;refine am.seq fun _ h2=>.region<|.l Z (fun _ _ ab _=>d8 wf rfl rfl fun A5 b4 D=>?_);have V:=ac.trans D.le;refine ab _ _<|.q Z (ah Z)<|.nil<|h2 _ _<|.seq fun _ h9=>.block<|.seq fun _ a2=>.region<|.q Z (ak eR Z Z D.get Z)<|.q Z (kG Z Z) ?_;refine Ops.q Z (ae Z)<|.part (t:=8) Z (fun ad=>?_) (fun ad=>?_)
 ·refine Ops.off Z Z Z Z<|.off Z Z Z Z<|.q Z (aJ Z Z)<|.q Z (ah Z)<|.nil<|a2 _ _<|.cond_true Z<|.seq fun _ a4=>.region<|.q Z (ah Z) ?_;refine Ops.nil<|a4 _ _<|.rt (by exact aH Z (⟨by (rw [bH,if_pos O];rfl),V,D.wf⟩))
 refine Ops.on Z Z<|.q Z (ak eR Z Z D.get Z)<|.on Z Z<|.q Z (BK Z Z)<|.q Z (aU Z Z)<|.q Z (ah Z)<|.nil<|a2 _ _<|.if rfl (fun ag=>?_) (fun ag=>?_)
 ·refine am.seq fun _ a5=>.region<|.q Z (ah Z)<|.nil<|a5 _ _<|.rt (by exact aH Z (⟨by (rw [bH,if_pos O];rfl),V,D.wf⟩))
 refine am.seq fun _ a6=>.region<|.q Z (ae Z)<|.q Z (cD u9 Z)<|.q Z (ee (b:=100000) Z Z)<|.q Z (ah Z)<|.nil<|a6 _ _<|.if rfl (fun ai=>?_) (fun ai=>?_)
 ·refine am.seq fun _ a7=>.region<|.q Z (ah Z)<|.nil<|a7 _ _<|.rt (by exact aH Z (⟨by (rw [bH,if_neg O,if_pos O];rfl),V,D.wf⟩))
 refine am.seq fun _ a8=>.region<|.q Z (ae Z)<|.q Z (mc Z Z)<|.l Z (fun _ _ a3 _=>au Z (we 97 #[.pointer (some ⟨b4,0,none⟩)] (fun r=>decide (127 < r) || !gv (k) (UInt8.ofNat r)) (fun r h=>by simp;omega) w A5 O (fun r B le wf=>OL r (k) b4 _ _ B O ((hL.le V).le le) (le.get _ _ D.get))) ?_);rintro ar A27 ⟨rfl,a1,X⟩;have a0:=V.trans a1;refine a3 _ _<|.q Z (ah Z)<|.nil<|a8 _ _<|.if rfl (fun ap=>?_) (fun ap=>?_)
 ·refine am.seq fun _ a9=>.region<|.q Z (ah Z)<|.nil<|a9 _ _<|.rt (by exact aH Z (⟨by (rw [bH,if_neg O,if_neg O,if_neg (by rw [(tL k w).1 ‹_›];decide)];rfl),a0,X⟩))
 refine am.skip<|h9 _ _<|.seq fun _ aa=>.region<|.q Z (ah Z)<|.nil<|aa _ _<|.rt (by exact aH Z (⟨by (rw [bH,if_neg O,if_neg O,if_pos (by have:=mt (tL k w).2 ‹_›;simpa using this)];rfl),a0,X⟩))

theorem SC (w:List UInt8) (A:AH) (hL:gy A):bE Tryz.prog 123 #[bf (w)] A (fun v A1=>v=.bool (qm w)/\A.le A1/\A1.wf):=by
 refine gR Tryz.call123 Tryz.func123 Z Tryz.results123 Tryz.ntmps123 Z (fun wf=>?_);have a0:=AH.le.refl A;refine am.seq fun _ h2=>.region<|.q Z (ah Z)<|.nil<|h2 _ _<|.seq fun _ h4=>.region<|.q Z (ae Z)<|.l Z (fun _ _ V _=>au Z (pQ ((8:Nat):Int) w A hL) ?_);rintro v6 A7 ⟨rfl,h,D⟩;have X:=a0.trans h;refine V _ _<|.q Z (iY (b:=0) Z Z)<|.q Z (ah Z)<|.nil<|h4 _ _<|.rt (by exact aH Z (⟨by rw [<- CQ];rfl,X,D⟩))

theorem Ke (w:List UInt8) (A:AH) (hw:w.length<=1000000):bE Tryz.prog 131 #[bf (w)] A (fun v A1=>v=bf (inv w)/\A.le A1/\A1.wf):=by
 refine gR Tryz.call131 Tryz.func131 Z Tryz.results131 Tryz.ntmps131 Z (fun wf=>?_);have a0:=AH.le.refl A;refine am.seq fun _ h2=>.region<|.q Z (ah Z)<|.nil<|h2 _ _<|.seq fun _ h4=>.region<|.q Z (ae Z)<|.q Z (cD u9 Z)<|.l Z (fun _ _ av _=>mH (n:=w.length) (k:=w.length) wf a0 rfl rfl cT kz z5 un rfl (Nat.le_refl _) (by show 1 * _<=_;omega) O fun A7 b6 a1 aa=>?_);have a4:=a1.get;rw [ot] at a4 aa;have a3:=aQ wf (Nat.le_trans a0.n a1.lo);have a8:=a0.trans a1.le;refine av _ _<|.q Z (ah Z)<|.nil<|h4 _ _<|.seq fun _ ab=>.seq fun _ ac=>.region<|.q Z (ae Z)<|.q Z (cD u9 Z)<|.q Z (ae Z) ?_;refine Ops.nil<|ac _ _<|.block<|.loop (X:=Nat) (fun k=>[(0,bf (w)),(3,.slice (some ⟨b6,0,none⟩) w.length w.length),(9,num ((w.length:Nat):Int)),(10,num ((k:Nat):Int))]) (fun k B=>(k<=w.length)/\A.le B/\B.get b6=some (.row true (ao (jU w k)) w.length)) (fun k=>w.length - k) 0 (mA Z Z Z Z) (⟨Nat.zero_le _,a8,(vT a4 (congrArg ao ((by exact ua w))))⟩) ?_;rintro k B17 ⟨hk,V,h⟩;refine am.wf fun a2=>?_;have hrl:=qY w hk;refine am.seq fun _ ad=>.region<|.q Z (bX Z Z)<|.nil<|ad _ _<|.seq fun _ ag=>.if rfl (fun ay=>?_) (fun ay=>?_)
 ·refine am.skip<|ag _ _<|.seq fun _ ai=>.block<|.seq fun _ ap=>.region<|.q Z (ae Z)<|.q Z (ah Z)<|.nil<|ap _ _ ?_;refine am.region<|.q Z (ae Z)<|.q Z (ae Z)<|.q Z (cD u9 Z)<|.q Z (ik (b:=1) Z Z O)<|.q Z (ae Z)<|.q Z (ik Z Z O)<|.q Z (ae Z)<|.q Z (ae Z)<|.q Z (lD u9 Z Z O) ?_;refine Ops.l Z (fun _ _ a5 _=>au Z (Il (w.getD k 0) B17) ?_);rintro az A30 ⟨rfl,rfl⟩;refine a5 _ _<|.q Z (aE cT kz Z Z Z O)<|.l Z (fun _ _ a6 _=>aX (off:=((w.length - 1) - k)) a2 rfl (by simp) rfl rfl kz h OB rfl (qh _ _ _) fun A33 D=>?_);have a9:=an V wf a3 D.n D.keep;refine a6 _ _<|.nil<|ai _ _<|.region<|.q Z (bq (b:=1) Z Z O)<|.q Z (ae Z)<|.nil ?_;exact ⟨k + 1,mA Z Z Z Z,Z,⟨O,a9,(vT D.get (congrArg ao ((by exact vQ w O))))⟩,O1⟩
 refine am.exit<|ab _ _<|.seq fun _ ar=>.region<|.q Z (ae Z)<|.l Z (fun _ _ a7 _=>eB (s:=jU w k) Z cT u9 u5 (eo (n:=w.length) h Ox (Nat.le_refl _)) ?_);refine a7 _ _<|.q Z (ah Z)<|.nil<|ar _ _<|.rt (by exact aH Z (⟨by rw [vP w O];rfl,V,a2⟩))

theorem Pc (u:Value) (l:List (List UInt8)) (r:List UInt8) (A:AH) (hr:lM l.flatten=r) (hT:l.flatten.length<=1000000) (hn:l.length<=1000000) (hu:bI A 1 u (ei l)):bE Tryz.prog 133 #[u] A (fun v A1=>v=bf r/\A.le A1/\A1.wf):=by
 refine gR Tryz.call133 Tryz.func133 Z Tryz.results133 Tryz.ntmps133 Z (fun wf=>?_);have aa:=AH.le.refl A;refine am.seq fun _ h2=>.region<|.q Z (ah Z)<|.nil<|h2 _ _<|.seq fun _ h4=>.region<|.q Z (ah Z)<|.nil<|h4 _ _ ?_;refine am.seq fun _ h6=>.seq fun _ h8=>.region<|.q Z (ae Z)<|.q Z (bF (n:=l.length) mJ Z (hu.le aa) O (eu _))<|.q Z (ae Z)<|.nil<|h8 _ _<|.block<|.loop (X:=Nat × List UInt8 × Value) (fun ⟨k,o,s⟩=>[(3,s),(8,u),(9,num ((l.length:Nat):Int)),(10,num ((k:Nat):Int))]) (fun ⟨k,o,s⟩ B=>(k<=l.length/\(l.drop k).flatten.foldl push o=r/\o.length + (l.drop k).flatten.length<=1000000)/\A.le B/\Fresh A B s 1 (ao o)) (fun ⟨k,o,s⟩=>l.length - k) (⟨0,[],.slice none 0 0⟩) (mA Z Z Z Z) (⟨⟨Nat.zero_le _,by simpa [lM] using hr,by simpa using hT⟩,aa,(Fresh.nil A A 1)⟩) ?_;rintro ⟨k,o,s⟩ B10 ⟨⟨hk,h1,h2⟩,a6,a1⟩;refine am.wf fun az=>?_;have hd:=fun q:k < l.length=>Jd q;refine am.seq fun _ aP=>.region<|.q Z (bX Z Z)<|.nil<|aP _ _<|.seq fun _ aR=>.if rfl (fun b7=>?_) (fun b7=>?_)
 ·refine am.skip<|aR _ _<|.seq fun _ aS=>.block<|.seq fun _ aT=>.region ?_;obtain ⟨bv,bC,br,bR,bm,bM,bD,aF,b3,aI,bd,ab⟩:=bI.at (i:=k) (hu.le a6) Oj O;refine Ops.q Z (aE mJ fp Z aF Z b3)<|.q Z (ak fW Z Z aI ((cM ab).trans (fb O)))<|.q Z (ah Z)<|.nil<|aT _ _<|.seq fun _ aV=>.region<|.q Z (ae Z)<|.q Z (cD u9 Z)<|.q Z (ae Z) ?_;refine Ops.nil<|aV _ _<|.block<|.loop (X:=Nat × List UInt8 × Value) (fun ⟨i,o2,s2⟩=>[(3,s2),(5,bf (l.getD k [])),(8,u),(9,num ((l.length:Nat):Int)),(10,num ((k:Nat):Int)),(15,num (((l.getD k []).length:Nat):Int)),(16,num ((i:Nat):Int))]) (fun ⟨i,o2,s2⟩ B=>(i<=(l.getD k []).length/\((l.getD k []).drop i).foldl push o2=(l.getD k []).foldl push o/\o2.length<=o.length + i)/\A.le B/\Fresh A B s2 1 (ao o2)) (fun ⟨i,o2,s2⟩=>(l.getD k []).length - i) (⟨0,o,s⟩) (Gt Z Z Z Z Z Z Z) (⟨⟨Nat.zero_le _,Z,Nat.le_refl _⟩,a6,a1⟩) ?_;rintro ⟨i,o2,s2⟩ B25 ⟨⟨hi,h3,h4⟩,V,D⟩;refine am.wf fun aA=>.seq fun _ aY=>.region<|.q Z (bX Z Z)<|.nil<|aY _ _<|.seq fun _ aZ=>.if rfl (fun b8=>?_) (fun b8=>?_)
  ·refine am.skip<|aZ _ _<|.seq fun _ a9=>.block<|.seq fun _ b0=>.region<|.q Z (ae Z)<|.q Z (ah Z)<|.nil<|b0 _ _ ?_;refine am.seq fun _ b1=>.region<|.q Z (ae Z)<|.q Z (bF (n:=o2.length) cT Z D.slc O (eM _))<|.q Z (ah Z)<|.nil<|b1 _ _<|.join (fun f A1=>al [(34,.bool (decide (0 < o2.length/\o2.getD (o2.length - 1) 0=(l.getD k []).getD i 0 ^^^ 32))),(3,s2),(5,bf (l.getD k [])),(8,u),(9,num ((l.length:Nat):Int)),(10,num ((k:Nat):Int)),(15,num (((l.getD k []).length:Nat):Int)),(16,num ((i:Nat):Int)),(17,.bool (decide (i < (l.getD k []).length))),(18,num ((i:Nat):Int)),(6,num ((i:Nat):Int)),(19,s2),(20,num ((o2.length:Nat):Int)),(7,num ((o2.length:Nat):Int))] f.e/\f.ds=[]/\B25=A1) ?_ ?_
   ·refine am.drawn [0,1,2,3,4,5,6,7,8,9,10,11,12,13] mixed Y Y Z<|.q Z Z Z (ae Z)<|.q Z Z Z (ee (b:=0) Z Z)<|.q Z Z Z (ae Z)<|.part (t:=23) Z (fun b9=>?_) (fun b9=>?_)
    ·refine bj.qOn Z Z Z Z Z (ae Z)<|.qOn Z Z Z Z Z (ae Z)<|.qOn Z Z Z Z Z (ik (b:=1) Z Z O) ?_;obtain ⟨aB,a7,bu,bS,bp,bO,bL,aG,b5,a8,bl,a3⟩:=bI.at (i:=o2.length - 1) D.slc Ox O;refine bj.qOn Z Z Z Z Z (aE cT kz Z aG Z b5) ?_;have ad:=cR (off:=a7 + (o2.length - 1) * 1) a8 ((cM a3).trans (fH O));refine bj.qOn Z Z Z Z Z (ak Ld Z Z a8 ((cM a3).trans (fH O)))<|.qOn Z Z Z Z Z (ae Z)<|.qOn Z Z Z Z Z (ae Z)<|.qOn Z Z Z Z Z (lD u9 Z Z O)<|.lOn Z Z Z Z Z (fun _ _ ag _=>au Z (Il ((l.getD k []).getD i 0) B25) ?_);rintro bT A45 ⟨rfl,rfl⟩;refine ag _ _ (aW.list (L:=[(⟨aB,a7 + (o2.length - 1) * 1,none⟩,ek (o2.getD (o2.length - 1) 0))]) Y (bw ad cI))<|.qOn Z Z Z Z Z (vL Z Z)<|.q Z Z Z (aJ Z Z)<|.done ?_;exact ⟨al.cons (show some _=some _ from congrArg (fun b=>some (Value.bool b)) (show (decide ((o2.getD (o2.length - 1) 0)=(((l.getD k []).getD i 0) ^^^ 32)))=decide (0 < o2.length/\o2.getD (o2.length - 1) 0=(l.getD k []).getD i 0 ^^^ 32) from (by simp only [‹0 < _›,true_and])))<|al.cons Z<|al.cons Z<|al.cons Z<|al.cons Z<|al.cons Z<|al.cons Z<|al.cons Z<|al.cons Z<|al.cons Z<|al.cons Z<|al.cons Z<|al.cons Z<|al.cons Z<|al.nil _,Z,Z⟩
    refine bj.qOff Z Z Z Z Z Z<|.qOff Z Z Z Z Z Z<|.qOff Z Z Z Z Z Z<|.qOff Z Z Z Z Z Z<|.qOff Z Z Z Z Z Z<|.qOff Z Z Z Z Z Z<|.qOff Z Z Z Z Z Z<|.qOff Z Z Z Z Z Z<|.lOff Z Z Z Z Z Z<|.qOff Z Z Z Z Z Z ?_;refine bj.q Z Z Z (aU Z Z)<|.done ?_;exact ⟨al.cons (show some _=some _ from congrArg (fun b=>some (Value.bool b)) (show (false)=decide (0 < o2.length/\o2.getD (o2.length - 1) 0=(l.getD k []).getD i 0 ^^^ 32) from (by simp only [‹¬ 0 < _›,false_and,decide_false])))<|al.cons Z<|al.cons Z<|al.cons Z<|al.cons Z<|al.cons Z<|al.cons Z<|al.cons Z<|al.cons Z<|al.cons Z<|al.cons Z<|al.cons Z<|al.cons Z<|al.cons Z<|al.nil _,Z,Z⟩
   rintro ⟨fe,fd⟩ _ ⟨hE,rfl,rfl⟩;refine am.forget hE<|.if rfl (fun ba=>?_) (fun ba=>?_)
   ·refine am.region<|.q Z (ae Z)<|.q Z (ae Z)<|.q Z (ik (b:=1) Z Z O) ?_;obtain ⟨aC,bP,aD,bb,b6,bB⟩:=D.nonnil (by intro q;have:=congrArg List.length q;simp only [aN,List.length_nil] at this;omega);subst bb;rw [aN,Nat.mul_one] at b6;have a4:=D.take (k:=o2.length - 1) O;rw [Nat.mul_one,jO] at a4;refine Ops.q Z (lG cT kz Z Z O)<|.q Z (ah Z)<|.nil<|a9 _ _<|.region<|.q Z (bq (b:=1) Z Z O)<|.q Z (ae Z)<|.nil ?_;exact ⟨⟨i + 1,o2.take (o2.length - 1),.slice (some ⟨aC,0,none⟩) (o2.length - 1) aD⟩,Gt Z Z Z Z Z Z Z,Z,⟨⟨by omega,by exact uJ Ow h3 ‹_›,by simp only [List.length_append,List.length_take,List.length_cons,List.length_nil];omega⟩,V,a4⟩,O1⟩
   refine am.region<|.q Z (ae Z)<|.q Z (ae Z)<|.q Z (ae Z)<|.q Z (lD u9 Z Z O)<|.l Z (fun _ _ ai _=>aO (c:=[ek ((l.getD k []).getD i 0)]) aA rfl (ax cT kz z5 rfl U U rfl) fun A52 bA a0=>?_);have a5:=D.le a0.le;have av:=V.trans a0.le;refine ai _ _<|.l Z (fun _ _ ap _=>cN (ys:=[ek ((l.getD k []).getD i 0)]) rfl rfl cT kz un z5 rfl U cT (fun _ h=>by cases h) a5.own (bQ (n:=1) a0.get Z) rfl rfl (by show (_ + _) * 1<=_;simp only [aN,List.length_cons,List.length_nil];have:=hd Ow;omega) (by simp only [aN,List.length_cons,List.length_nil];have:=hd Ow;omega) fun A58 bc a2=>?_);rw [show ([ek ((l.getD k []).getD i 0)]:List Value)=ao [(l.getD k []).getD i 0] from rfl,eE] at a2;obtain ⟨ac,ay⟩:=Fresh.grow a5 av wf a2;refine ap _ _<|.q Z (ah Z)<|.nil<|a9 _ _<|.region<|.q Z (bq (b:=1) Z Z O)<|.q Z (ae Z)<|.nil ?_;exact ⟨⟨i + 1,o2 ++ [(l.getD k []).getD i 0],bc⟩,Gt Z Z Z Z Z Z Z,Z,⟨⟨by omega,by exact uK Ow h3 ‹_›,by simp only [List.length_append,List.length_take,List.length_cons,List.length_nil];omega⟩,ay,ac⟩,O1⟩
  refine am.exit<|aS _ _<|.region<|.q Z (bq (b:=1) Z Z O)<|.q Z (ae Z)<|.nil ?_;exact ⟨⟨k + 1,o2,s2⟩,mA Z Z Z Z,Z,⟨⟨by omega,tv Ow h1 (by rw [pd O] at h3;exact h3.symm),by omega⟩,V,D⟩,O1⟩
 refine am.exit<|h6 _ _<|.seq fun _ b2=>.region<|.q Z (ae Z)<|.l Z (fun _ _ ar _=>eB (s:=o) Z cT u9 u5 a1.slc ?_);refine ar _ _<|.q Z (ah Z)<|.nil<|b2 _ _<|.rt (by exact aH Z (⟨by rw [qj O] at h1;rw [<- h1];rfl,a6,az⟩))

theorem sq (w:List UInt8) (A:AH) (hw:w.length<=1000000) (hL:gy A):bE Tryz.prog 99 #[bf (w)] A (fun v A1=>v=bf (cE w)/\A.le A1/\A1.wf):=by
 refine gR Tryz.call99 Tryz.func99 Z Tryz.results99 Tryz.ntmps99 Z (fun wf=>?_);have a9:=AH.le.refl A;refine am.seq fun _ h2=>.region<|.q Z (ah Z)<|.nil<|h2 _ _<|.seq fun _ h4=>.seq fun _ h6=>.region<|.q Z (ae Z)<|.l Z (fun _ _ a8 _=>au Z (SC w A hL) ?_);rintro v8 A9 ⟨rfl,X,h⟩;have D:=a9.trans X;refine a8 _ _<|.q Z (er Z)<|.nil<|h6 _ _<|.ifB Z (fun aa=>?_) (fun aa=>?_)
 ·refine am.seq fun _ a6=>.region<|.q Z (ah Z)<|.nil<|a6 _ _<|.rt (by exact aH Z (⟨by unfold cE;(rw [if_neg (by simpa using ‹(!qm w)=true›)];rfl),D,h⟩))
 refine am.skip<|h4 _ _<|.seq fun _ a7=>.region<|.q Z (ae Z)<|.l Z (fun _ _ a2 _=>aO (c:=[bf (w)]) h rfl (ax mJ fp z9 rfl U U rfl) fun A19 ab V=>?_);have a4:=D.trans V.le;refine a2 _ _<|.l Z (fun _ _ a3 _=>au Z (Pc _ ([w]) (lM w) A19 (by simp) Or (by simp) (eo (n:=1) V.get Z (Nat.le_refl _))) ?_);rintro ac A24 ⟨rfl,a0,a1⟩;have a5:=a4.trans a0;refine a3 _ _<|.q Z (ah Z)<|.nil<|a7 _ _<|.rt (by exact aH Z (⟨by unfold cE;(rw [if_pos (by simpa using ‹(!qm w)=false›)];rfl),a5,a1⟩))

theorem JV (w:List UInt8) (A:AH) (hw:w.length<=1000000) (hL:gy A):bE Tryz.prog 93 #[bf (w)] A (fun v A1=>v=bf (dY w)/\A.le A1/\A1.wf):=by
 refine gR Tryz.call93 Tryz.func93 Z Tryz.results93 Tryz.ntmps93 Z (fun wf=>?_);have a6:=AH.le.refl A;refine am.seq fun _ h2=>.region<|.q Z (ah Z)<|.nil<|h2 _ _<|.seq fun _ h4=>.seq fun _ h6=>.region<|.q Z (ae Z)<|.l Z (fun _ _ a5 _=>au Z (SC w A hL) ?_);rintro v8 A9 ⟨rfl,D,X⟩;have h:=a6.trans D;refine a5 _ _<|.q Z (er Z)<|.nil<|h6 _ _<|.ifB Z (fun a7=>?_) (fun a7=>?_)
 ·refine am.seq fun _ a3=>.region<|.q Z (ah Z)<|.nil<|a3 _ _<|.rt (by exact aH Z (⟨by unfold dY;(rw [if_neg (by simpa using ‹(!qm w)=true›)];rfl),h,X⟩))
 refine am.skip<|h4 _ _<|.seq fun _ a4=>.region<|.q Z (ae Z)<|.l Z (fun _ _ a1 _=>au Z (Ke w A9 O) ?_);rintro a8 A19 ⟨rfl,V,a0⟩;have a2:=h.trans V;refine a1 _ _<|.q Z (ah Z)<|.nil<|a4 _ _<|.rt (by exact aH Z (⟨by unfold dY;(rw [if_pos (by simpa using ‹(!qm w)=false›)];rfl),a2,a0⟩))

theorem J0 (x y:List UInt8) (A:AH) (hx:x.length<=1000000) (hy:y.length<=1000000) (hL:gy A):bE Tryz.prog 124 #[bf (x),bf (y)] A (fun v A1=>v=num (fw x y)/\A=A1):=by
 refine lQ Tryz.call124 Tryz.func124 Z Tryz.results124 Tryz.ntmps124 Z (fun wf=>?_);have av:=AH.le.refl A;refine am.seq fun _ h2=>.region<|.q Z (ah Z)<|.nil<|h2 _ _<|.seq fun _ h4=>.seq fun _ h6=>.region<|.q Z (ae Z)<|.q Z (cD u9 Z) ?_;refine Ops.q Z (ae Z)<|.q Z (cD u9 Z)<|.q Z (fg Z Z)<|.nil<|h6 _ _<|.if rfl (fun p7=>?_) (fun p7=>?_)
 ·refine am.seq fun _ h9=>.seq fun _ V=>.region<|.q Z (ae Z)<|.q Z (cD u9 Z)<|.q Z (ae Z)<|.q Z (cD u9 Z)<|.q Z (bX Z Z)<|.nil<|V _ _ ?_;refine am.if rfl (fun ag=>?_) (fun ag=>?_)
  ·refine am.seq fun _ a0=>.region<|.q Z (ah Z)<|.nil<|a0 _ _<|.rt (by exact aH Z (⟨by simp_all [dT,fw],Z⟩))
  refine am.skip<|h9 _ _<|.seq fun _ a1=>.region<|.q Z (ah Z)<|.nil<|a1 _ _<|.rt (by exact aH Z (⟨by simp_all [dT,fw],Z⟩))
 refine am.skip<|h4 _ _<|.seq fun _ a2=>.seq fun _ a3=>.region<|.q Z (ae Z)<|.q Z (cD u9 Z)<|.q Z (ae Z)<|.nil<|a3 _ _ ?_;refine am.block<|.loop (X:=Nat) (fun k=>[(0,bf (x)),(1,bf (y)),(19,num ((x.length:Nat):Int)),(20,num ((k:Nat):Int))]) (fun k B=>(k<=x.length/\ip (x.drop k) (y.drop k)=fw x y)/\A=B) (fun k=>x.length - k) 0 (mA Z Z Z Z) (⟨⟨Nat.zero_le _,(Gb ‹_›).symm⟩,Z⟩) ?_;rintro k B22 ⟨⟨hk,hc⟩,rfl⟩;refine am.seq fun _ a4=>.region<|.q Z (bX Z Z)<|.nil<|a4 _ _<|.seq fun _ a5=>.if rfl (fun ai=>?_) (fun ai=>?_)
 ·refine am.skip<|a5 _ _<|.seq fun _ a6=>.block<|.seq fun _ a7=>.region<|.q Z (ae Z)<|.q Z (ah Z)<|.nil<|a7 _ _ ?_;refine am.seq fun _ a8=>.drawn [0,1,2,4,5,6,3,7,8,9] mixed Y Y Z<|.q Z Z Z (ae Z)<|.q Z Z Z (ae Z)<|.q Z Z Z (lD u9 Z Z O)<|.q Z Z Z (ae Z)<|.q Z Z Z (ae Z)<|.q Z Z Z (lD u9 Z Z O)<|.l Z Z Z (fun _ _ h _=>au Z (sl (x.getD k 0) A hL) ?_);rintro ay A36 ⟨rfl,rfl⟩;refine h _ _ (aW.none Y)<|.l Z Z Z (fun _ _ D _=>au Z (sl (y.getD k 0) A hL) ?_);rintro az A40 ⟨rfl,rfl⟩;refine D _ _ (aW.none Y)<|.q Z Z Z (ah Z)<|.q Z Z Z (ah Z)<|.done<|a8 _ _<|.block<|.seq fun _ a9=>.region<|.q Z (ae Z)<|.q Z (ae Z) ?_;refine Ops.q Z (kG Z Z)<|.q Z (ah Z)<|.nil<|a9 _ _<|.if rfl (fun ap=>?_) (fun ap=>?_)
  ·refine am.seq fun _ aa=>.region<|.q Z (ah Z)<|.nil<|aa _ _<|.rt (by exact aH Z (⟨by (rw [eO O O,if_pos ‹_›] at hc;rw [<- hc];rfl),Z⟩))
  refine am.seq fun _ ab=>.region<|.q Z (ae Z)<|.q Z (ae Z)<|.q Z (BK Z Z)<|.q Z (ah Z)<|.nil<|ab _ _<|.if rfl (fun ar=>?_) (fun ar=>?_)
  ·refine am.seq fun _ ac=>.region<|.q Z (ah Z)<|.nil<|ac _ _<|.rt (by exact aH Z (⟨by (rw [eO O O,if_neg ‹_›,if_pos ‹_›] at hc;rw [<- hc];rfl),Z⟩))
  refine am.skip<|a6 _ _<|.region<|.q Z (bq (b:=1) Z Z O)<|.q Z (ae Z)<|.nil ?_;exact ⟨k + 1,mA Z Z Z Z,Z,⟨⟨by omega,by rw [eO O O,if_neg ‹_›,if_neg ‹_›] at hc;exact hc⟩,Z⟩,O1⟩
 refine am.exit<|a2 _ _<|.seq fun _ ad=>.region<|.q Z (ah Z)<|.nil<|ad _ _<|.rt (by exact aH Z (⟨by (rw [mR O] at hc;rw [<- hc];rfl),Z⟩))

theorem JT (x y:List UInt8) (A:AH) (hx:x.length<=1000000) (hy:y.length<=1000000) (hL:gy A):bE Tryz.prog 87 #[bf (x),bf (y)] A (fun v A1=>v=num (dB x y)/\A.le A1/\A1.wf):=by
 refine lQ Tryz.call87 Tryz.func87 Z Tryz.results87 Tryz.ntmps87 Z (fun wf=>?_);have a8:=AH.le.refl A;refine am.seq fun _ h2=>.region<|.q Z (ah Z)<|.nil<|h2 _ _<|.seq fun _ h4=>.seq fun _ h6=>.region<|.q Z (ae Z)<|.l Z (fun _ _ a7 _=>au Z (SC x A hL) ?_);rintro v8 A9 ⟨rfl,X,a1⟩;have h:=a8.trans X;refine a7 _ _<|.q Z (er Z)<|.q Z (ae Z)<|.partB (t:=8) Z (fun a9=>?_) (fun a9=>?_)
 ·refine Ops.off Z Z Z Z<|.off Z Z Z Z<|.off Z Z Z Z<|.q Z (aJ Z Z)<|.nil<|h6 _ _<|.cond_true Z<|.seq fun _ a4=>.region<|.q Z (ah Z) ?_;refine Ops.nil<|a4 _ _<|.rt (by exact aH Z (⟨by simp_all [dT,dB],h,a1⟩))
 refine Ops.on Z Z<|.q Z (ae Z)<|.on Z Z<|.l Z (fun _ _ a2 _=>au Z (SC y A9 (hL.le h)) ?_);rintro ab A17 ⟨rfl,a0,V⟩;have D:=h.trans a0;refine a2 _ _<|.on Z Z<|.q Z (er Z)<|.q Z (aU Z Z)<|.nil<|h6 _ _<|.ifB Z (fun aa=>?_) (fun aa=>?_)
 ·refine am.seq fun _ a5=>.region<|.q Z (ah Z)<|.nil<|a5 _ _<|.rt (by exact aH Z (⟨by simp_all [dT,dB],D,V⟩))
 refine am.skip<|h4 _ _<|.seq fun _ a6=>.region<|.q Z (ae Z)<|.q Z (ae Z)<|.l Z (fun _ _ a3 _=>au Z (J0 x y A17 O O (hL.le D)) ?_);rintro ac A27 ⟨rfl,rfl⟩;refine a3 _ _<|.q Z (ah Z)<|.nil<|a6 _ _<|.rt (by exact aH Z (⟨by simp_all [dT,dB],D,V⟩))
end Go.Proofs.YtjppkekmddjcfaaGreatDoor

namespace Go.Proofs.YtjppkekmddjcfaaGreatDoor
open Go Go.RowKit V
set_option maxRecDepth 100000


theorem zq (g:Nat) (caps:Array Value) (q:List UInt8->Bool) (u:Value) (l:List (List UInt8)) (A:AH) (hn:l.length<=9223372036854775807) (hu:bI A 1 u (ei l)) (hf:∀ s,s ∈ l->∀ B,A.le B->B.wf->bE Tryz.prog g (#[] ++ #[bf s] ++ caps) B (fun v B1=>v=.bool (q s)/\B.le B1/\B1.wf)):bE Tryz.prog 167 #[u,.func (.func g) #[] caps] A (fun v A1=>v=num (AE q l)/\A.le A1/\A1.wf):=by
 refine lQ Tryz.call167 Tryz.func167 Z Tryz.results167 Tryz.ntmps167 Z (fun wf=>?_);have a2:=AH.le.refl A;refine am.seq fun _ h2=>.region<|.q Z (ah Z)<|.nil<|h2 _ _<|.seq fun _ h4=>.seq fun _ h6=>.region<|.q Z (ae Z)<|.q Z (bF (n:=l.length) mJ Z (hu.le a2) O (eu _)) ?_;refine Ops.q Z (ae Z)<|.nil<|h6 _ _<|.block<|.loop (X:=Nat) (fun k=>[(0,u),(1,.func (.func g) #[] caps),(7,num ((l.length:Nat):Int)),(8,num ((k:Nat):Int))]) (fun k B=>(k<=l.length/\∀ j,j < k->q (l.getD j [])=false)/\A.le B) (fun k=>l.length - k) 0 (mA Z Z Z Z) (⟨⟨by omega,fun j h=>by omega⟩,a2⟩) ?_;rintro k B8 ⟨⟨hk,hq⟩,D⟩;refine am.wf fun a3=>.seq fun _ a8=>.region<|.q Z (bX Z Z)<|.nil<|a8 _ _<|.seq fun _ a9=>.if rfl (fun ap=>?_) (fun ap=>?_)
 ·refine am.skip<|a9 _ _<|.seq fun _ aa=>.block<|.seq fun _ ab=>.region<|.q Z (ae Z)<|.q Z (ah Z)<|.nil<|ab _ _ ?_;refine am.seq fun _ ac=>.region<|.q Z (ae Z)<|.q Z (ae Z)<|.q Z (ae Z) ?_;obtain ⟨aA,aB,az,aF,ay,aD,aC,a6,ai,a7,av,a4⟩:=bI.at (i:=k) (hu.le D) Oj O;refine Ops.q Z (aE mJ fp Z a6 Z ai)<|.q Z (ak fW Z Z a7 ((cM a4).trans (fb O)))<|.l Z (fun _ _ a5 _=>oG Z Z (hf _ (bi O) B8 D a3) ?_);rintro aG A24 ⟨rfl,a0,a1⟩;have V:=D.trans a0;refine a5 _ _<|.nil<|ac _ _<|.ifB Z (fun ar=>?_) (fun ar=>?_)
  ·refine am.seq fun _ ad=>.region<|.q Z (ae Z)<|.q Z (ah Z)<|.nil<|ad _ _<|.rt (by exact aH Z (⟨by rw [xq (d:=[]) Ow hq ‹_›];rfl,V,a1⟩))
  refine am.skip<|aa _ _<|.region<|.q Z (bq (b:=1) Z Z O)<|.q Z (ae Z)<|.nil ?_;exact ⟨k + 1,mA Z Z Z Z,Z,⟨⟨by omega,fun j h=>(Nat.lt_succ_iff_lt_or_eq.1 h).elim (hq j) (fun z=>by subst z;assumption)⟩,V⟩,O1⟩
 refine am.exit<|h4 _ _<|.seq fun _ ag=>.region<|.q Z (ah Z)<|.nil<|ag _ _<|.rt (by exact aH Z (⟨by rw [AJ (d:=[]) (fun j h=>hq j O)];rfl,D,a3⟩))

theorem uq (g:Nat) (caps:Array Value) (q:List UInt8->Bool) (u:Value) (l:List (List UInt8)) (A:AH) (hn:l.length<=9223372036854775807) (hu:bI A 1 u (ei l)) (hf:∀ s,s ∈ l->∀ B,A.le B->B.wf->bE Tryz.prog g (#[] ++ #[bf s] ++ caps) B (fun v B1=>v=.bool (q s)/\B.le B1/\B1.wf)):bE Tryz.prog 126 #[u,.func (.func g) #[] caps] A (fun v A1=>v=.bool (decide (0<=AE q l))/\A.le A1/\A1.wf):=by
 refine lQ Tryz.call126 Tryz.func126 Z Tryz.results126 Tryz.ntmps126 Z (fun wf=>?_);have h:=AH.le.refl A;refine am.seq fun _ h2=>.region<|.q Z (ah Z)<|.nil<|h2 _ _<|.seq fun _ h4=>.region<|.q Z (ae Z)<|.q Z (ae Z)<|.l Z (fun _ _ X _=>au Z (zq g caps q u l A hn (hu.le h) (fun s hs B le wf=>hf s hs B (h.trans le) wf)) ?_);rintro v6 A7 ⟨rfl,D,V⟩;have a0:=h.trans D;refine X _ _<|.q Z (lz Z Z)<|.q Z (ah Z)<|.nil<|h4 _ _<|.rt (by exact aH Z (⟨Z,a0,V⟩))
end Go.Proofs.YtjppkekmddjcfaaGreatDoor

namespace Go.Proofs.YtjppkekmddjcfaaGreatDoor
open Go Go.RowKit V
set_option maxRecDepth 100000
theorem u3:type_of% @Tryz.underlying3:=@Tryz.underlying3

theorem so (c:UInt8) (A:AH):bE Tryz.prog 67 #[ek (c)] A (fun v A1=>v=num (ix c)/\A=A1):=by
 refine gR Tryz.call67 Tryz.func67 Z Tryz.results67 Tryz.ntmps67 Z (fun wf=>?_);have ag:=AH.le.refl A;have ac:=(c - 97).toNat_lt;have ad:=(c - 65).toNat_lt;refine am.seq fun _ h2=>.region<|.q Z (ah Z)<|.nil<|h2 _ _<|.seq fun _ h4=>.seq fun _ h6=>.region<|.q Z (ae Z)<|.q Z (qS (d:=97) Z Z) ?_;refine Ops.q Z (ae Z)<|.part (t:=5) Z (fun p7=>?_) (fun p7=>?_)
 ·refine Ops.on Z Z<|.q Z (ae Z)<|.on Z Z<|.q Z (xJ (d:=105) Z Z)<|.q Z (aJ Z Z)<|.nil<|h6 _ _<|.if rfl (fun p8=>?_) (fun p8=>?_)
  ·refine am.seq fun _ a1=>.region<|.q Z (ae Z)<|.q Z (md (d:=97) Z Z)<|.q Z (kF u5 u3 Z)<|.q Z (pz (a:=2) Z Z O)<|.q Z (ah Z)<|.nil<|a1 _ _<|.rt (by exact aH Z (⟨by (rw [<- xo c ‹_› ‹_›];rfl),Z⟩))
  refine am.skip<|h4 _ _<|.seq fun _ D=>.seq fun _ V=>.region<|.q Z (ae Z)<|.q Z (qS (d:=65) Z Z)<|.q Z (ae Z)<|.part (t:=15) Z (fun a8=>?_) (fun a8=>?_)
  ·refine Ops.on Z Z<|.q Z (ae Z)<|.on Z Z<|.q Z (xJ (d:=73) Z Z)<|.q Z (aJ Z Z)<|.nil<|V _ _<|.if rfl (fun a9=>?_) (fun a9=>?_)
   ·refine am.seq fun _ a2=>.region<|.q Z (ae Z)<|.q Z (md (d:=65) Z Z)<|.q Z (kF u5 u3 Z)<|.q Z (pz (a:=2) Z Z O)<|.q Z (bq (b:=1) Z Z O)<|.q Z (ah Z)<|.nil<|a2 _ _ ?_;refine am.ret ?_;repeat first | with_reducible refine bz ?_ | with_reducible refine bn ?_
    exact aH Z (⟨by (rw [<- yK c ‹_› ‹_›];rfl),Z⟩)
   refine am.skip<|D _ _<|.seq fun _ a3=>.region<|.q Z (ah Z)<|.nil<|a3 _ _<|.rt (by exact aH Z (⟨by (rw [yL c (fun h=>by simp_all) (fun h=>by simp_all)];rfl),Z⟩))
  refine Ops.off Z Z Z Z<|.off Z Z Z Z<|.q Z (aU Z Z)<|.nil<|V _ _<|.cond_false Z<|.skip<|D _ _<|.seq fun _ a4=>.region ?_;refine Ops.q Z (ah Z)<|.nil<|a4 _ _<|.rt (by exact aH Z (⟨by (rw [yL c (fun h=>by simp_all) (fun h=>by simp_all)];rfl),Z⟩))
 refine Ops.off Z Z Z Z<|.off Z Z Z Z<|.q Z (aU Z Z)<|.nil<|h6 _ _<|.cond_false Z<|.skip<|h4 _ _<|.seq fun _ X=>.seq fun _ a0=>?_;refine am.region<|.q Z (ae Z)<|.q Z (qS (d:=65) Z Z)<|.q Z (ae Z)<|.part (t:=15) Z (fun aa=>?_) (fun aa=>?_)
 ·refine Ops.on Z Z<|.q Z (ae Z)<|.on Z Z<|.q Z (xJ (d:=73) Z Z)<|.q Z (aJ Z Z)<|.nil<|a0 _ _<|.if rfl (fun ab=>?_) (fun ab=>?_)
  ·refine am.seq fun _ a5=>.region<|.q Z (ae Z)<|.q Z (md (d:=65) Z Z)<|.q Z (kF u5 u3 Z)<|.q Z (pz (a:=2) Z Z O)<|.q Z (bq (b:=1) Z Z O)<|.q Z (ah Z)<|.nil<|a5 _ _ ?_;refine am.ret ?_;repeat first | with_reducible refine bz ?_ | with_reducible refine bn ?_
   exact aH Z (⟨by (rw [<- yK c ‹_› ‹_›];rfl),Z⟩)
  refine am.skip<|X _ _<|.seq fun _ a6=>.region<|.q Z (ah Z)<|.nil<|a6 _ _<|.rt (by exact aH Z (⟨by (rw [yL c (fun h=>by simp_all) (fun h=>by simp_all)];rfl),Z⟩))
 refine Ops.off Z Z Z Z<|.off Z Z Z Z<|.q Z (aU Z Z)<|.nil<|a0 _ _<|.cond_false Z<|.skip<|X _ _<|.seq fun _ a7=>.region ?_;refine Ops.q Z (ah Z)<|.nil<|a7 _ _<|.rt (by exact aH Z (⟨by (rw [yL c (fun h=>by simp_all) (fun h=>by simp_all)];rfl),Z⟩))

theorem JX (i:Nat) (A:AH) (hi:i < 16):bE Tryz.prog 73 #[num ((i:Nat):Int)] A (fun v A1=>v=ek (bZ.getD i 0)/\A=A1):=by
 refine gR Tryz.call73 Tryz.func73 Z Tryz.results73 Tryz.ntmps73 Z (fun wf=>?_);have a3:=AH.le.refl A;refine am.seq fun _ h2=>.region<|.q Z (ah Z)<|.nil<|h2 _ _<|.seq fun _ h4=>.seq fun _ h6=>.region<|.q Z (ae Z)<|.q Z (bX (b:=0) Z Z) ?_;refine Ops.q Z (ae Z)<|.part (t:=5) Z (fun p7=>?_) (fun p7=>?_)
 ·refine Ops.off Z Z Z Z<|.off Z Z Z Z<|.q Z (aJ Z Z)<|.nil<|h6 _ _<|.cond_true Z<|.seq fun _ h9=>.region<|.q Z (ah Z)<|.nil ?_;refine h9 _ _<|.rt (by exact aH Z (⟨by (exfalso;omega),Z⟩))
 refine Ops.on Z Z<|.q Z (ae Z)<|.on Z Z<|.q Z (vM (b:=16) Z Z)<|.q Z (aU Z Z)<|.nil<|h6 _ _<|.if rfl (fun a1=>?_) (fun a1=>?_)
 ·refine am.seq fun _ h=>.region<|.q Z (ah Z)<|.nil<|h _ _<|.rt (by exact aH Z (⟨by (exfalso;omega),Z⟩))
 refine am.skip<|h4 _ _<|.seq fun _ D=>.seq fun _ V=>.region<|.q Z (ae Z)<|.q Z (VG (b:=2) Z Z O)<|.q Z (iY (b:=0) Z Z)<|.nil<|V _ _ ?_;refine am.if rfl (fun a2=>?_) (fun a2=>?_)
 ·refine am.seq fun _ X=>.region<|.q Z (ae Z)<|.q Z (TA (b:=2) Z Z O)<|.q Z (zf u3 u5 Z)<|.q Z (GX (c:=97) Z Z)<|.q Z (ah Z)<|.nil<|X _ _<|.rt (by exact aH Z (⟨by (rw [<- MO ⟨i,hi⟩ Ow];rfl),Z⟩))
 refine am.skip<|D _ _<|.seq fun _ a0=>.region<|.q Z (ae Z)<|.q Z (TA (b:=2) Z Z O)<|.q Z (zf u3 u5 Z)<|.q Z (GX (c:=65) Z Z)<|.q Z (ah Z)<|.nil ?_;refine a0 _ _<|.rt (by exact aH Z (⟨by (rw [<- Rm ⟨i,hi⟩ Ow];rfl),Z⟩))

theorem wg (c:UInt8) (A:AH) (hc:0<=ix c):bE Tryz.prog 66 #[ek (c)] A (fun v A1=>v=ek (c ^^^ 32)/\A=A1):=by
 refine gR Tryz.call66 Tryz.func66 Z Tryz.results66 Tryz.ntmps66 Z (fun wf=>?_);have V:=AH.le.refl A;refine am.seq fun _ h2=>.region<|.q Z (ah Z)<|.nil<|h2 _ _<|.seq fun _ h4=>.region<|.q Z (ae Z)<|.l Z (fun _ _ h _=>au Z (so c A) ?_);rintro v6 A7 ⟨rfl,rfl⟩;refine h _ _<|.q Z (zg U U Z Z (Uf c hc))<|.l Z (fun _ _ D _=>au Z (JX (P3 (c ^^^ 32)) A (My _)) ?_);rintro X A11 ⟨rfl,rfl⟩;refine D _ _<|.q Z (ah Z)<|.nil<|h4 _ _<|.rt (by exact aH Z (⟨by rw [Rl _ (GB c hc)];rfl,Z⟩))

theorem Cn (k:Int) (w:List UInt8) (A:AH):bE Tryz.prog 94 #[num (k),bf (w)] A (fun v A1=>v=num ((bH k w:Nat):Int)/\A=A1):=by
 refine lQ Tryz.call94 Tryz.func94 Z Tryz.results94 Tryz.ntmps94 Z (fun wf=>?_);have av:=AH.le.refl A;refine am.seq fun _ h2=>.region<|.q Z (ah Z)<|.nil<|h2 _ _<|.seq fun _ h4=>.seq fun _ h6=>.region<|.q Z (ae Z)<|.q Z (kG Z Z) ?_;refine Ops.q Z (ae Z)<|.part (t:=9) Z (fun p7=>?_) (fun p7=>?_)
 ·refine Ops.off Z Z Z Z<|.off Z Z Z Z<|.q Z (aJ Z Z)<|.nil<|h6 _ _<|.cond_true Z<|.seq fun _ h9=>.region<|.q Z (ah Z)<|.nil ?_;refine h9 _ _<|.rt (by exact aH Z (⟨by (rw [bH,if_pos O];rfl),Z⟩))
 refine Ops.on Z Z<|.q Z (ae Z)<|.on Z Z<|.q Z (BK Z Z)<|.q Z (aU Z Z)<|.nil<|h6 _ _<|.if rfl (fun ad=>?_) (fun ad=>?_)
 ·refine am.seq fun _ a0=>.region<|.q Z (ah Z)<|.nil<|a0 _ _<|.rt (by exact aH Z (⟨by (rw [bH,if_pos O];rfl),Z⟩))
 refine am.skip<|h4 _ _<|.seq fun _ a1=>.seq fun _ a2=>.region<|.q Z (ae Z)<|.q Z (cD u9 Z)<|.q Z (ee (b:=100000) Z Z)<|.nil<|a2 _ _ ?_;refine am.if rfl (fun ag=>?_) (fun ag=>?_)
 ·refine am.seq fun _ a3=>.region<|.q Z (ah Z)<|.nil<|a3 _ _<|.rt (by exact aH Z (⟨by (rw [bH,if_neg O,if_pos O];rfl),Z⟩))
 refine am.skip<|a1 _ _<|.seq fun _ a4=>.seq fun _ a5=>.region<|.q Z (ah Z)<|.nil<|a5 _ _<|.block<|.loop (X:=Nat) (fun i=>[(0,num (k)),(1,bf (w)),(5,num ((i:Nat):Int))]) (fun i B=>(i<=w.length/\∀ j,j < i->0<=ix (w.getD j 0)/\ix (w.getD j 0) < 2 * k)/\A=B) (fun i=>w.length - i) 0 (kX Z Z Z) (⟨⟨by omega,fun j h=>by omega⟩,Z⟩) ?_;rintro i B25 ⟨⟨hi,hn⟩,rfl⟩;refine am.seq fun _ a6=>.seq fun _ a7=>.region<|.q Z (ae Z)<|.q Z (ae Z)<|.q Z (cD u9 Z)<|.q Z (bX Z Z)<|.nil<|a7 _ _<|.if rfl (fun ai=>?_) (fun ai=>?_)
 ·refine am.skip<|a6 _ _<|.seq fun _ a8=>.block<|.seq fun _ a9=>.region<|.q Z (ae Z)<|.q Z (ae Z)<|.q Z (lD u9 Z Z O)<|.l Z (fun _ _ V _=>au Z (so (w.getD i 0) A) ?_);rintro ay A37 ⟨rfl,rfl⟩;refine V _ _<|.q Z (ah Z)<|.nil<|a9 _ _<|.seq fun _ D=>.region<|.q Z (ae Z)<|.q Z (kG Z Z)<|.q Z (ae Z)<|.part (t:=28) Z (fun ap=>?_) (fun ap=>?_)
  ·refine Ops.off Z Z Z Z<|.off Z Z Z Z<|.off Z Z Z Z<|.off Z Z Z Z<|.q Z (aJ Z Z)<|.nil<|D _ _<|.cond_true Z<|.seq fun _ aa=>.region ?_;refine Ops.q Z (ah Z)<|.nil<|aa _ _<|.rt (by exact aH Z (⟨by (rw [wt (i:=i) O O O O];rfl),Z⟩))
  refine Ops.on Z Z<|.q Z (ae Z)<|.on Z Z<|.q Z (ae Z)<|.on Z Z<|.q Z (RY Z Z O)<|.on Z Z<|.q Z (lz Z Z)<|.q Z (aU Z Z)<|.nil ?_;refine D _ _<|.if rfl (fun ar=>?_) (fun ar=>?_)
  ·refine am.seq fun _ ab=>.region<|.q Z (ah Z)<|.nil<|ab _ _<|.rt (by exact aH Z (⟨by (rw [wt (i:=i) O O O O];rfl),Z⟩))
  refine am.skip<|a8 _ _<|.region<|.q Z (ae Z)<|.q Z (bq (b:=1) Z Z O)<|.q Z (ah Z)<|.nil ?_;exact ⟨i + 1,kX Z Z Z,Z,⟨⟨by omega,fun j h=>(Nat.lt_succ_iff_lt_or_eq.1 h).elim (hn j) (fun z=>by subst z;omega)⟩,Z⟩,O1⟩
 refine am.exit<|a4 _ _<|.seq fun _ ac=>.region<|.q Z (ah Z)<|.nil<|ac _ _<|.rt (by exact aH Z (⟨by (rw [CT (i:=i) O O O hn];rfl),Z⟩))

theorem Ii (w:List UInt8) (A:AH):bE Tryz.prog 65 #[bf (w)] A (fun v A1=>v=.bool (qm w)/\A=A1):=by
 refine gR Tryz.call65 Tryz.func65 Z Tryz.results65 Tryz.ntmps65 Z (fun wf=>?_);have D:=AH.le.refl A;refine am.seq fun _ h2=>.region<|.q Z (ah Z)<|.nil<|h2 _ _<|.seq fun _ h4=>.region<|.q Z (ae Z)<|.l Z (fun _ _ h _=>au Z (Cn ((8:Nat):Int) w A) ?_);rintro v6 A7 ⟨rfl,rfl⟩;refine h _ _<|.q Z (iY (b:=0) Z Z)<|.q Z (ah Z)<|.nil<|h4 _ _<|.rt (by exact aH Z (⟨by rw [<- CQ];rfl,Z⟩))

theorem EJ (w:List UInt8) (A:AH) (hw:w.length<=1000000):bE Tryz.prog 24 #[bf (w)] A (fun v A1=>v=bf (dY w)/\A.le A1/\A1.wf):=by
 refine gR Tryz.call24 Tryz.func24 Z Tryz.results24 Tryz.ntmps24 Z (fun wf=>?_);have a4:=AH.le.refl A;refine am.seq fun _ h2=>.region<|.q Z (ah Z)<|.nil<|h2 _ _<|.seq fun _ h4=>.seq fun _ h6=>.region<|.q Z (ae Z)<|.l Z (fun _ _ az _=>au Z (Ii w A) ?_);rintro v8 A9 ⟨rfl,rfl⟩;refine az _ _<|.q Z (er Z)<|.nil<|h6 _ _<|.ifB Z (fun aA=>?_) (fun aA=>?_)
 ·refine am.seq fun _ ac=>.region<|.q Z (ah Z)<|.nil<|ac _ _<|.rt (by exact aH Z (⟨by unfold dY;(rw [if_neg (by simpa using ‹(!qm w)=true›)];rfl),a4,wf⟩))
 refine am.skip<|h4 _ _<|.seq fun _ ad=>.region<|.q Z (ah Z)<|.nil<|ad _ _<|.seq fun _ ag=>.seq fun _ ai=>.region ?_;refine Ops.q Z (ae Z)<|.q Z (cD u9 Z)<|.q Z (wU Z Z O)<|.q Z (ah Z)<|.nil<|ai _ _<|.block<|.loop (X:=Nat × List UInt8 × Value) (fun ⟨j,o,s⟩=>[(0,bf (w)),(3,s),(4,num ((j:Int) - 1))]) (fun ⟨j,o,s⟩ B=>(j<=w.length/\o=((w.drop j).map (· ^^^ 32)).reverse)/\A.le B/\Fresh A B s 1 (ao o)) (fun ⟨j,o,s⟩=>j) (⟨w.length,[],.slice none 0 0⟩) (al.cons Z<|al.cons Z<|al.cons (congrArg (fun z:Int=>some (num z)) O)<|al.nil _) (⟨⟨Nat.le_refl _,by simp⟩,a4,(Fresh.nil A A 1)⟩) ?_;rintro ⟨j,o,s⟩ B21 ⟨⟨hj,ho⟩,a2,D⟩;refine am.wf fun a3=>?_;have hlo:o.length=w.length - j:=by rw [ho];simp
 have hk:=M7 (w:=w) (by simpa using ‹(!qm w)=false›);have htn:((j:Int) - 1).toNat=j - 1:=by omega
 refine am.seq fun _ ap=>.seq fun _ ar=>.region<|.q Z (ae Z)<|.q Z (lz Z Z)<|.nil<|ar _ _<|.if rfl (fun aB=>?_) (fun aB=>?_)
 ·refine am.skip<|ap _ _<|.seq fun _ av=>.block<|.region<|.q Z (ae Z)<|.q Z (ae Z)<|.q Z (ae Z)<|.q Z (lD u9 Z (i8 O) O)<|.l Z (fun _ _ a6 _=>au Z (wg (w.getD ((j:Int) - 1).toNat 0) B21 (uG hk O)) ?_);rintro aF A32 ⟨rfl,rfl⟩;refine a6 _ _<|.l Z (fun _ _ a7 _=>aO (c:=[ek ((w.getD ((j:Int) - 1).toNat 0) ^^^ 32)]) a3 rfl (ax cT kz z5 rfl U U rfl) fun A36 aD V=>?_);have a1:=D.le V.le;have aa:=a2.trans V.le;refine a7 _ _<|.l Z (fun _ _ a8 _=>cN (ys:=[ek ((w.getD ((j:Int) - 1).toNat 0) ^^^ 32)]) rfl rfl cT kz un z5 rfl U cT (fun _ h=>by cases h) a1.own (bQ (n:=1) V.get Z) rfl rfl (by show (_ + _) * 1<=_;simp only [aN,List.length_cons,List.length_nil];(try simp only [List.length_append,List.length_cons,List.length_nil]);omega) O3 fun A42 aC a0=>?_);rw [show ([ek ((w.getD ((j:Int) - 1).toNat 0) ^^^ 32)]:List Value)=ao [(w.getD ((j:Int) - 1).toNat 0) ^^^ 32] from rfl,eE] at a0;obtain ⟨a5,ab⟩:=Fresh.grow a1 aa wf a0;refine a8 _ _<|.q Z (ah Z)<|.nil<|av _ _<|.region<|.q Z (ae Z)<|.q Z (wU Z Z O)<|.q Z (ah Z)<|.nil ?_;exact ⟨⟨j - 1,o ++ [(w.getD ((j:Int) - 1).toNat 0) ^^^ 32],aC⟩,al.cons Z<|al.cons Z<|al.cons (congrArg (fun z:Int=>some (num z)) O)<|al.nil _,Z,⟨⟨by omega,by rw [ho,htn];exact AN O hj⟩,ab,a5⟩,O1⟩
 refine am.exit<|ag _ _<|.seq fun _ ay=>.region<|.q Z (ae Z)<|.l Z (fun _ _ a9 _=>eB (s:=o) Z cT u9 u5 D.slc ?_);refine a9 _ _<|.q Z (ah Z)<|.nil<|ay _ _<|.rt (by exact aH Z (⟨by unfold dY;(rw [if_pos (by simpa using ‹(!qm w)=false›),ho,show j=0 by omega];rfl),a2,a3⟩))

theorem JY (w:List UInt8) (A:AH) (hw:w.length<=1000000):bE Tryz.prog 95 #[bf (w)] A (fun v A1=>v=bf (cE w)/\A.le A1/\A1.wf):=by
 refine gR Tryz.call95 Tryz.func95 Z Tryz.results95 Tryz.ntmps95 Z (fun wf=>?_);have a9:=AH.le.refl A;refine am.seq fun _ h2=>.region<|.q Z (ah Z)<|.nil<|h2 _ _<|.seq fun _ h4=>.seq fun _ h6=>.region<|.q Z (ae Z)<|.l Z (fun _ _ aS _=>au Z (Ii w A) ?_);rintro v8 A9 ⟨rfl,rfl⟩;refine aS _ _<|.q Z (er Z)<|.nil<|h6 _ _<|.ifB Z (fun aY=>?_) (fun aY=>?_)
 ·refine am.seq fun _ aB=>.region<|.q Z (ah Z)<|.nil<|aB _ _<|.rt (by exact aH Z (⟨by unfold cE;(rw [if_neg (by simpa using ‹(!qm w)=true›)];rfl),a9,wf⟩))
 refine am.skip<|h4 _ _<|.seq fun _ aC=>.region<|.q Z (ah Z)<|.nil<|aC _ _<|.seq fun _ aD=>.seq fun _ aF=>.region ?_;refine Ops.q Z (ah Z)<|.nil<|aF _ _<|.block<|.loop (X:=Nat × List UInt8 × Value) (fun ⟨i,o,s⟩=>[(0,bf (w)),(3,s),(4,num ((i:Nat):Int))]) (fun ⟨i,o,s⟩ B=>(i<=w.length/\(w.drop i).foldl push o=lM w/\o.length<=i)/\A.le B/\Fresh A B s 1 (ao o)) (fun ⟨i,o,s⟩=>w.length - i) (⟨0,[],.slice none 0 0⟩) (kX Z Z Z) (⟨⟨Nat.zero_le _,Z,Nat.le_refl _⟩,a9,(Fresh.nil A A 1)⟩) ?_;rintro ⟨i,o,s⟩ B21 ⟨⟨hi,h3,h4⟩,V,D⟩;refine am.wf fun a5=>?_;have hk:=M7 (w:=w) (by simpa using ‹(!qm w)=false›);refine am.seq fun _ aG=>.seq fun _ aI=>.region<|.q Z (ae Z)<|.q Z (ae Z)<|.q Z (cD u9 Z)<|.q Z (bX Z Z)<|.nil<|aI _ _<|.if rfl (fun aZ=>?_) (fun aZ=>?_)
 ·refine am.skip<|aG _ _<|.seq fun _ a8=>.block<|.seq fun _ aP=>.region<|.q Z (ae Z)<|.q Z (bF (n:=o.length) cT Z D.slc O (eM _))<|.q Z (ah Z)<|.nil ?_;refine aP _ _<|.join (fun f A1=>al [(30,.bool (decide (0 < o.length/\o.getD (o.length - 1) 0=w.getD i 0 ^^^ 32))),(0,bf (w)),(3,s),(4,num ((i:Nat):Int)),(9,num ((i:Nat):Int)),(10,bf (w)),(11,num ((w.length:Nat):Int)),(12,.bool (decide (i < w.length))),(15,s),(16,num ((o.length:Nat):Int)),(5,num ((o.length:Nat):Int))] f.e/\f.ds=[]/\B21=A1) ?_ ?_
  ·refine am.drawn [0,1,2,3,4,5,6,7,8,9,10,11,12,13] mixed Y Y Z<|.q Z Z Z (ae Z)<|.q Z Z Z (ee (b:=0) Z Z)<|.q Z Z Z (ae Z)<|.part (t:=19) Z (fun b0=>?_) (fun b0=>?_)
   ·refine bj.qOn Z Z Z Z Z (ae Z)<|.qOn Z Z Z Z Z (ae Z)<|.qOn Z Z Z Z Z (ik (b:=1) Z Z O) ?_;obtain ⟨av,a6,b7,bd,b6,bb,ba,aA,aT,a7,b5,a2⟩:=bI.at (i:=o.length - 1) D.slc Ox O;refine bj.qOn Z Z Z Z Z (aE cT kz Z aA Z aT) ?_;have ab:=cR (off:=a6 + (o.length - 1) * 1) a7 ((cM a2).trans (fH O));refine bj.qOn Z Z Z Z Z (ak Ld Z Z a7 ((cM a2).trans (fH O)))<|.qOn Z Z Z Z Z (ae Z)<|.qOn Z Z Z Z Z (ae Z)<|.qOn Z Z Z Z Z (lD u9 Z Z O)<|.lOn Z Z Z Z Z (fun _ _ ac _=>au Z (wg (w.getD i 0) B21 (uG hk O)) ?_);rintro bl A39 ⟨rfl,rfl⟩;refine ac _ _ (aW.list (L:=[(⟨av,a6 + (o.length - 1) * 1,none⟩,ek (o.getD (o.length - 1) 0))]) Y (bw ab cI))<|.qOn Z Z Z Z Z (vL Z Z)<|.q Z Z Z (aJ Z Z)<|.done ?_;exact ⟨al.cons (show some _=some _ from congrArg (fun b=>some (Value.bool b)) (show (decide ((o.getD (o.length - 1) 0)=((w.getD i 0) ^^^ 32)))=decide (0 < o.length/\o.getD (o.length - 1) 0=w.getD i 0 ^^^ 32) from (by simp only [‹0 < _›,true_and])))<|Al Z Z Z Z Z Z Z Z Z Z,Z,Z⟩
   refine bj.qOff Z Z Z Z Z Z<|.qOff Z Z Z Z Z Z<|.qOff Z Z Z Z Z Z<|.qOff Z Z Z Z Z Z<|.qOff Z Z Z Z Z Z<|.qOff Z Z Z Z Z Z<|.qOff Z Z Z Z Z Z<|.qOff Z Z Z Z Z Z<|.lOff Z Z Z Z Z Z<|.qOff Z Z Z Z Z Z ?_;refine bj.q Z Z Z (aU Z Z)<|.done ?_;exact ⟨al.cons (show some _=some _ from congrArg (fun b=>some (Value.bool b)) (show (false)=decide (0 < o.length/\o.getD (o.length - 1) 0=w.getD i 0 ^^^ 32) from (by simp only [‹¬ 0 < _›,false_and,decide_false])))<|Al Z Z Z Z Z Z Z Z Z Z,Z,Z⟩
  rintro ⟨fe,fd⟩ _ ⟨hE,rfl,rfl⟩;refine am.forget hE<|.if rfl (fun b1=>?_) (fun b1=>?_)
  ·refine am.region<|.q Z (ae Z)<|.q Z (ae Z)<|.q Z (ik (b:=1) Z Z O) ?_;obtain ⟨ay,bc,az,b2,aV,b9⟩:=D.nonnil (by intro q;have:=congrArg List.length q;simp only [aN,List.length_nil] at this;omega);subst b2;rw [aN,Nat.mul_one] at aV;have a3:=D.take (k:=o.length - 1) O;rw [Nat.mul_one,jO] at a3;refine Ops.q Z (lG cT kz Z Z O)<|.q Z (ah Z)<|.nil<|a8 _ _<|.region<|.q Z (ae Z)<|.q Z (bq (b:=1) Z Z O)<|.q Z (ah Z)<|.nil ?_;exact ⟨⟨i + 1,o.take (o.length - 1),.slice (some ⟨ay,0,none⟩) (o.length - 1) az⟩,kX Z Z Z,Z,⟨⟨by omega,by exact uJ Ow h3 ‹_›,by simp only [List.length_append,List.length_take,List.length_cons,List.length_nil];omega⟩,V,a3⟩,O1⟩
  refine am.region<|.q Z (ae Z)<|.q Z (ae Z)<|.q Z (ae Z)<|.q Z (lD u9 Z Z O)<|.l Z (fun _ _ ad _=>aO (c:=[ek (w.getD i 0)]) a5 rfl (ax cT kz z5 rfl U U rfl) fun A46 b8 a0=>?_);have a4:=D.le a0.le;have ap:=V.trans a0.le;refine ad _ _<|.l Z (fun _ _ ag _=>cN (ys:=[ek (w.getD i 0)]) rfl rfl cT kz un z5 rfl U cT (fun _ h=>by cases h) a4.own (bQ (n:=1) a0.get Z) rfl rfl (by show (_ + _) * 1<=_;simp only [aN,List.length_cons,List.length_nil];(try simp only [List.length_append,List.length_cons,List.length_nil]);omega) O3 fun A52 b3 a1=>?_);rw [show ([ek (w.getD i 0)]:List Value)=ao [w.getD i 0] from rfl,eE] at a1;obtain ⟨aa,ar⟩:=Fresh.grow a4 ap wf a1;refine ag _ _<|.q Z (ah Z)<|.nil<|a8 _ _<|.region<|.q Z (ae Z)<|.q Z (bq (b:=1) Z Z O)<|.q Z (ah Z)<|.nil ?_;exact ⟨⟨i + 1,o ++ [w.getD i 0],b3⟩,kX Z Z Z,Z,⟨⟨by omega,by exact uK Ow h3 ‹_›,by simp only [List.length_append,List.length_take,List.length_cons,List.length_nil];omega⟩,ar,aa⟩,O1⟩
 refine am.exit<|aD _ _<|.seq fun _ aR=>.region<|.q Z (ae Z)<|.l Z (fun _ _ ai _=>eB (s:=o) Z cT u9 u5 D.slc ?_);refine ai _ _<|.q Z (ah Z)<|.nil<|aR _ _<|.rt (by exact aH Z (⟨by unfold cE;(rw [if_pos (by simpa using ‹(!qm w)=false›),<- h3,pd O];rfl),V,a5⟩))
end Go.Proofs.YtjppkekmddjcfaaGreatDoor

namespace Go.Proofs.YtjppkekmddjcfaaGreatDoor
open Go Go.RowKit V
set_option maxRecDepth 100000


theorem EI (x y:List UInt8) (A:AH) (hx:x.length<=1000000) (hy:y.length<=1000000):bE Tryz.prog 25 #[bf (x),bf (y)] A (fun v A1=>v=num (dB x y)/\A=A1):=by
 refine lQ Tryz.call25 Tryz.func25 Z Tryz.results25 Tryz.ntmps25 Z (fun wf=>?_);have aR:=AH.le.refl A;refine am.seq fun _ h2=>.region<|.q Z (ah Z)<|.nil<|h2 _ _<|.seq fun _ h4=>.seq fun _ h6=>.region<|.q Z (ae Z)<|.l Z (fun _ _ aA _=>au Z (Ii x A) ?_);rintro v8 A9 ⟨rfl,rfl⟩;refine aA _ _<|.q Z (er Z)<|.q Z (ae Z)<|.partB (t:=11) Z (fun aB=>?_) (fun aB=>?_)
 ·refine Ops.off Z Z Z Z<|.off Z Z Z Z<|.off Z Z Z Z<|.q Z (aJ Z Z)<|.nil<|h6 _ _<|.cond_true Z<|.seq fun _ a0=>.region<|.q Z (ah Z) ?_;refine Ops.nil<|a0 _ _<|.rt (by exact aH Z (⟨by (rw [Fw ‹_›];rfl),Z⟩))
 refine Ops.on Z Z<|.q Z (ae Z)<|.on Z Z<|.l Z (fun _ _ h _=>au Z (Ii y A) ?_);rintro aS A16 ⟨rfl,rfl⟩;refine h _ _<|.on Z Z<|.q Z (er Z)<|.q Z (aU Z Z)<|.nil<|h6 _ _<|.ifB Z (fun aC=>?_) (fun aC=>?_)
 ·refine am.seq fun _ a1=>.region<|.q Z (ah Z)<|.nil<|a1 _ _<|.rt (by exact aH Z (⟨by (rw [Fx ‹_›];rfl),Z⟩))
 refine am.skip<|h4 _ _<|.seq fun _ a2=>.seq fun _ a3=>.region<|.q Z (ae Z)<|.q Z (cD u9 Z)<|.q Z (ae Z)<|.q Z (cD u9 Z)<|.q Z (fg Z Z) ?_;refine Ops.nil<|a3 _ _<|.if rfl (fun aD=>?_) (fun aD=>?_)
 ·refine am.seq fun _ a4=>.seq fun _ a5=>.region<|.q Z (ae Z)<|.q Z (cD u9 Z)<|.q Z (ae Z)<|.q Z (cD u9 Z)<|.q Z (bX Z Z)<|.nil<|a5 _ _ ?_;refine am.if rfl (fun aF=>?_) (fun aF=>?_)
  ·refine am.seq fun _ a6=>.region<|.q Z (ah Z)<|.nil<|a6 _ _<|.rt (by exact aH Z (⟨by (rw [ku ‹_› ‹_›];first | (rw [mR O] at hc;rw [<- hc];rfl) | (rw [eO O O,if_pos ‹_›] at hc;rw [<- hc];rfl) | (rw [eO O O,if_neg ‹_›,if_pos ‹_›] at hc;rw [<- hc];rfl) | (rw [fw,if_pos ‹¬ x.length=y.length›,if_pos ‹x.length < y.length›];rfl) | (rw [fw,if_pos ‹¬ x.length=y.length›,if_neg ‹¬ x.length < y.length›];rfl)),Z⟩))
  refine am.skip<|a4 _ _<|.seq fun _ a7=>.region<|.q Z (ah Z)<|.nil<|a7 _ _<|.rt (by exact aH Z (⟨by (rw [ku ‹_› ‹_›];first | (rw [mR O] at hc;rw [<- hc];rfl) | (rw [eO O O,if_pos ‹_›] at hc;rw [<- hc];rfl) | (rw [eO O O,if_neg ‹_›,if_pos ‹_›] at hc;rw [<- hc];rfl) | (rw [fw,if_pos ‹¬ x.length=y.length›,if_pos ‹x.length < y.length›];rfl) | (rw [fw,if_pos ‹¬ x.length=y.length›,if_neg ‹¬ x.length < y.length›];rfl)),Z⟩))
 refine am.skip<|a2 _ _<|.seq fun _ a8=>.seq fun _ a9=>.region<|.q Z (ah Z)<|.nil<|a9 _ _<|.block<|.loop (X:=Nat) (fun k=>[(0,bf (x)),(1,bf (y)),(5,num ((k:Nat):Int))]) (fun k B=>(k<=x.length/\ip (x.drop k) (y.drop k)=fw x y)/\A=B) (fun k=>x.length - k) 0 (kX Z Z Z) (⟨⟨Nat.zero_le _,(Gb ‹_›).symm⟩,Z⟩) ?_;rintro k B40 ⟨⟨hk,hc⟩,rfl⟩;refine am.seq fun _ aa=>.seq fun _ ab=>.region<|.q Z (ae Z)<|.q Z (ae Z)<|.q Z (cD u9 Z)<|.q Z (bX Z Z)<|.nil<|ab _ _<|.if rfl (fun aG=>?_) (fun aG=>?_)
 ·refine am.skip<|aa _ _<|.seq fun _ ac=>.block<|.seq fun _ ad=>.region<|.q Z (ae Z)<|.q Z (ae Z)<|.q Z (lD u9 Z Z O)<|.l Z (fun _ _ D _=>au Z (so (x.getD k 0) A) ?_);rintro aT A52 ⟨rfl,rfl⟩;refine D _ _<|.q Z (ah Z)<|.nil<|ad _ _<|.seq fun _ ag=>.region<|.q Z (ae Z)<|.q Z (ae Z)<|.q Z (lD u9 Z Z O)<|.l Z (fun _ _ V _=>au Z (so (y.getD k 0) A) ?_);rintro aV A58 ⟨rfl,rfl⟩;refine V _ _<|.q Z (ah Z)<|.nil<|ag _ _<|.seq fun _ ai=>.seq fun _ ap=>.region<|.q Z (ae Z)<|.q Z (ae Z)<|.q Z (kG Z Z) ?_;refine Ops.nil<|ap _ _<|.if rfl (fun aI=>?_) (fun aI=>?_)
  ·refine am.seq fun _ ar=>.region<|.q Z (ah Z)<|.nil<|ar _ _<|.rt (by exact aH Z (⟨by (rw [ku ‹_› ‹_›];first | (rw [mR O] at hc;rw [<- hc];rfl) | (rw [eO O O,if_pos ‹_›] at hc;rw [<- hc];rfl) | (rw [eO O O,if_neg ‹_›,if_pos ‹_›] at hc;rw [<- hc];rfl) | (rw [fw,if_pos ‹¬ x.length=y.length›,if_pos ‹x.length < y.length›];rfl) | (rw [fw,if_pos ‹¬ x.length=y.length›,if_neg ‹¬ x.length < y.length›];rfl)),Z⟩))
  refine am.skip<|ai _ _<|.seq fun _ av=>.region<|.q Z (ae Z)<|.q Z (ae Z)<|.q Z (BK Z Z)<|.nil<|av _ _<|.if rfl (fun aP=>?_) (fun aP=>?_)
  ·refine am.seq fun _ ay=>.region<|.q Z (ah Z)<|.nil<|ay _ _<|.rt (by exact aH Z (⟨by (rw [ku ‹_› ‹_›];first | (rw [mR O] at hc;rw [<- hc];rfl) | (rw [eO O O,if_pos ‹_›] at hc;rw [<- hc];rfl) | (rw [eO O O,if_neg ‹_›,if_pos ‹_›] at hc;rw [<- hc];rfl) | (rw [fw,if_pos ‹¬ x.length=y.length›,if_pos ‹x.length < y.length›];rfl) | (rw [fw,if_pos ‹¬ x.length=y.length›,if_neg ‹¬ x.length < y.length›];rfl)),Z⟩))
  refine am.skip<|ac _ _<|.region<|.q Z (ae Z)<|.q Z (bq (b:=1) Z Z O)<|.q Z (ah Z)<|.nil ?_;exact ⟨k + 1,kX Z Z Z,Z,⟨⟨by omega,by rw [eO O O,if_neg ‹_›,if_neg ‹_›] at hc;exact hc⟩,Z⟩,O1⟩
 refine am.exit<|a8 _ _<|.seq fun _ az=>.region<|.q Z (ah Z)<|.nil<|az _ _<|.rt (by exact aH Z (⟨by (rw [ku ‹_› ‹_›];first | (rw [mR O] at hc;rw [<- hc];rfl) | (rw [eO O O,if_pos ‹_›] at hc;rw [<- hc];rfl) | (rw [eO O O,if_neg ‹_›,if_pos ‹_›] at hc;rw [<- hc];rfl) | (rw [fw,if_pos ‹¬ x.length=y.length›,if_pos ‹x.length < y.length›];rfl) | (rw [fw,if_pos ‹¬ x.length=y.length›,if_neg ‹¬ x.length < y.length›];rfl)),Z⟩))
end Go.Proofs.YtjppkekmddjcfaaGreatDoor

namespace Go.Proofs.YtjppkekmddjcfaaGreatDoor
open Go Go.RowKit V
set_option maxRecDepth 100000


theorem JW (c:UInt8) (g:Int) (A:AH) (hg:1<=g/\g<=8):bE Tryz.prog 68 #[ek (c),num (g)] A (fun v A1=>v=num (KI g c)/\A=A1):=by
 refine lQ Tryz.call68 Tryz.func68 Z Tryz.results68 Tryz.ntmps68 Z (fun wf=>?_);have ac:=AH.le.refl A;have aa:=(c - 97).toNat_lt;have ab:=(c - 65).toNat_lt;refine am.seq fun _ h2=>.region<|.q Z (ah Z)<|.nil<|h2 _ _<|.seq fun _ h4=>.block<|.seq fun _ h6=>.region<|.q Z (ae Z) ?_;refine Ops.q Z (qS (d:=97) Z Z)<|.q Z (ae Z)<|.part (t:=8) Z (fun p7=>?_) (fun p7=>?_)
 ·refine Ops.on Z Z<|.q Z (ae Z)<|.on Z Z<|.q Z (md (d:=97) Z Z)<|.on Z Z<|.q Z (kF u5 u3 Z)<|.on Z Z<|.q Z (ae Z)<|.on Z Z<|.q Z (kG Z Z) ?_;refine Ops.q Z (aJ Z Z)<|.q Z (ah Z)<|.nil<|h6 _ _<|.if rfl (fun p8=>?_) (fun p8=>?_)
  ·refine am.seq fun _ X=>.region<|.q Z (ae Z)<|.q Z (md (d:=97) Z Z)<|.q Z (kF u5 u3 Z)<|.q Z (pz (a:=2) Z Z O)<|.q Z (ah Z)<|.nil<|X _ _<|.rt (by exact aH Z (⟨by (rw [<- Jp hg ‹_› ‹_›];rfl),Z⟩))
  refine am.seq fun _ D=>.region<|.q Z (ae Z)<|.q Z (qS (d:=65) Z Z)<|.q Z (ae Z)<|.part (t:=22) Z (fun a6=>?_) (fun a6=>?_)
  ·refine Ops.on Z Z<|.q Z (ae Z)<|.on Z Z<|.q Z (md (d:=65) Z Z)<|.on Z Z<|.q Z (kF u5 u3 Z)<|.on Z Z<|.q Z (ae Z)<|.on Z Z<|.q Z (kG Z Z) ?_;refine Ops.q Z (aJ Z Z)<|.q Z (ah Z)<|.nil<|D _ _<|.if rfl (fun a7=>?_) (fun a7=>?_)
   ·refine am.seq fun _ a0=>.region<|.q Z (ae Z)<|.q Z (md (d:=65) Z Z)<|.q Z (kF u5 u3 Z)<|.q Z (pz (a:=2) Z Z O)<|.q Z (bq (b:=1) Z Z O)<|.q Z (ah Z)<|.nil<|a0 _ _ ?_;refine am.ret ?_;repeat first | with_reducible refine bz ?_ | with_reducible refine bn ?_
    exact aH Z (⟨by (rw [<- Gz hg ‹_› ‹_›];rfl),Z⟩)
   refine am.skip<|h4 _ _<|.seq fun _ a1=>.region<|.q Z (ah Z)<|.nil<|a1 _ _<|.rt (by exact aH Z (⟨by (rw [yM (fun h=>by first | exact ‹¬ (97:UInt8)<=c› h.1 | exact ‹¬ (((c - 97).toNat:Nat):Int) < g› h.2) (fun h=>by first | exact ‹¬ (65:UInt8)<=c› h.1 | exact ‹¬ (((c - 65).toNat:Nat):Int) < g› h.2)];rfl),Z⟩))
  refine Ops.off Z Z Z Z<|.off Z Z Z Z<|.off Z Z Z Z<|.off Z Z Z Z<|.off Z Z Z Z<|.q Z (aU Z Z)<|.q Z (ah Z)<|.nil<|D _ _<|.cond_false Z ?_;refine am.skip<|h4 _ _<|.seq fun _ a2=>.region<|.q Z (ah Z)<|.nil<|a2 _ _<|.rt (by exact aH Z (⟨by (rw [yM (fun h=>by first | exact ‹¬ (97:UInt8)<=c› h.1 | exact ‹¬ (((c - 97).toNat:Nat):Int) < g› h.2) (fun h=>by first | exact ‹¬ (65:UInt8)<=c› h.1 | exact ‹¬ (((c - 65).toNat:Nat):Int) < g› h.2)];rfl),Z⟩))
 refine Ops.off Z Z Z Z<|.off Z Z Z Z<|.off Z Z Z Z<|.off Z Z Z Z<|.off Z Z Z Z<|.q Z (aU Z Z)<|.q Z (ah Z)<|.nil<|h6 _ _<|.cond_false Z ?_;refine am.seq fun _ V=>.region<|.q Z (ae Z)<|.q Z (qS (d:=65) Z Z)<|.q Z (ae Z)<|.part (t:=22) Z (fun a8=>?_) (fun a8=>?_)
 ·refine Ops.on Z Z<|.q Z (ae Z)<|.on Z Z<|.q Z (md (d:=65) Z Z)<|.on Z Z<|.q Z (kF u5 u3 Z)<|.on Z Z<|.q Z (ae Z)<|.on Z Z<|.q Z (kG Z Z) ?_;refine Ops.q Z (aJ Z Z)<|.q Z (ah Z)<|.nil<|V _ _<|.if rfl (fun a9=>?_) (fun a9=>?_)
  ·refine am.seq fun _ a3=>.region<|.q Z (ae Z)<|.q Z (md (d:=65) Z Z)<|.q Z (kF u5 u3 Z)<|.q Z (pz (a:=2) Z Z O)<|.q Z (bq (b:=1) Z Z O)<|.q Z (ah Z)<|.nil<|a3 _ _ ?_;refine am.ret ?_;repeat first | with_reducible refine bz ?_ | with_reducible refine bn ?_
   exact aH Z (⟨by (rw [<- Gz hg ‹_› ‹_›];rfl),Z⟩)
  refine am.skip<|h4 _ _<|.seq fun _ a4=>.region<|.q Z (ah Z)<|.nil<|a4 _ _<|.rt (by exact aH Z (⟨by (rw [yM (fun h=>by first | exact ‹¬ (97:UInt8)<=c› h.1 | exact ‹¬ (((c - 97).toNat:Nat):Int) < g› h.2) (fun h=>by first | exact ‹¬ (65:UInt8)<=c› h.1 | exact ‹¬ (((c - 65).toNat:Nat):Int) < g› h.2)];rfl),Z⟩))
 refine Ops.off Z Z Z Z<|.off Z Z Z Z<|.off Z Z Z Z<|.off Z Z Z Z<|.off Z Z Z Z<|.q Z (aU Z Z)<|.q Z (ah Z)<|.nil<|V _ _<|.cond_false Z ?_;refine am.skip<|h4 _ _<|.seq fun _ a5=>.region<|.q Z (ah Z)<|.nil<|a5 _ _<|.rt (by exact aH Z (⟨by (rw [yM (fun h=>by first | exact ‹¬ (97:UInt8)<=c› h.1 | exact ‹¬ (((c - 97).toNat:Nat):Int) < g› h.2) (fun h=>by first | exact ‹¬ (65:UInt8)<=c› h.1 | exact ‹¬ (((c - 65).toNat:Nat):Int) < g› h.2)];rfl),Z⟩))

theorem oc (w:List UInt8) (g:Int) (A:AH) (hw:w.length<=9223372036854775807) (hg:1<=g/\g<=8):bE Tryz.prog 27 #[bf (w),num (g)] A (fun v A1=>v=.bool (decide (bH g w=0))/\A=A1):=by
 refine lQ Tryz.call27 Tryz.func27 Z Tryz.results27 Tryz.ntmps27 Z (fun wf=>?_);have a7:=AH.le.refl A;refine am.seq fun _ h2=>.region<|.q Z (ah Z)<|.nil<|h2 _ _<|.seq fun _ h4=>.seq fun _ h6=>.region<|.q Z (ah Z)<|.nil ?_;refine h6 _ _<|.block<|.loop (X:=Nat) (fun i=>[(0,bf (w)),(1,num (g)),(5,num ((i:Nat):Int))]) (fun i B=>(i<=w.length/\∀ j,j < i->¬ KI g (w.getD j 0) < 0)/\A=B) (fun i=>w.length - i) 0 (kX Z Z Z) (⟨⟨Nat.zero_le _,fun j h=>by omega⟩,Z⟩) ?_;rintro i B8 ⟨⟨hi,hn⟩,rfl⟩;refine am.seq fun _ V=>.seq fun _ a0=>.region<|.q Z (ae Z)<|.q Z (ae Z)<|.q Z (cD u9 Z)<|.q Z (bX Z Z)<|.nil<|a0 _ _<|.if rfl (fun a5=>?_) (fun a5=>?_)
 ·refine am.skip<|V _ _<|.seq fun _ a1=>.block<|.seq fun _ a2=>.region<|.q Z (ae Z)<|.q Z (ae Z)<|.q Z (lD u9 Z Z O)<|.q Z (ae Z) ?_;refine Ops.l Z (fun _ _ D _=>au Z (JW (w.getD i 0) (g) A O) ?_);rintro a8 A20 ⟨rfl,rfl⟩;refine D _ _<|.q Z (kG Z Z)<|.nil<|a2 _ _<|.if rfl (fun a6=>?_) (fun a6=>?_)
  ·refine am.seq fun _ a3=>.region<|.q Z (ah Z)<|.nil<|a3 _ _<|.rt (by exact aH Z (⟨by (rw [DX hg O ‹_›];rfl),Z⟩))
  refine am.skip<|a1 _ _<|.region<|.q Z (ae Z)<|.q Z (bq (b:=1) Z Z O)<|.q Z (ah Z)<|.nil ?_;exact ⟨i + 1,kX Z Z Z,Z,⟨⟨by omega,fun j h=>(Nat.lt_succ_iff_lt_or_eq.1 h).elim (hn j) (fun z=>by subst z;assumption)⟩,Z⟩,O1⟩
 refine am.exit<|h4 _ _<|.seq fun _ a4=>.region<|.q Z (ae Z)<|.q Z (cD u9 Z)<|.q Z (qW (b:=100000) Z Z)<|.q Z (ah Z)<|.nil<|a4 _ _ ?_;refine am.ret ?_;repeat first | with_reducible refine bz ?_ | with_reducible refine bn ?_
 exact aH Z (⟨by (rw [AO hg O hn];rfl),Z⟩)
end Go.Proofs.YtjppkekmddjcfaaGreatDoor

namespace Go.Proofs.YtjppkekmddjcfaaGreatDoor
open Go Go.RowKit V
set_option maxRecDepth 100000
theorem oL:dr Tryz.prog 22=some false:=by kernel_rfl
theorem o7:dr Tryz.prog 24=some true:=by kernel_rfl
theorem sK:dr Tryz.prog 35=some false:=by kernel_rfl
theorem uX:dr Tryz.prog 4=some false:=by kernel_rfl
theorem zL:dr Tryz.prog 85=some true:=by kernel_rfl
theorem fY:d5 Tryz.prog 24 0=some (3,0):=by kernel_rfl
theorem ic:d5 Tryz.prog 24 1=some (22,1):=by kernel_rfl
theorem jR:d5 Tryz.prog 85 0=some (9,0):=by kernel_rfl
theorem s7:d5 Tryz.prog 85 1=some (3,1):=by kernel_rfl
theorem Ma:d5 Tryz.prog 85 2=some (4,2):=by kernel_rfl
theorem oU:c9 Tryz.prog 22=some 1:=by kernel_rfl
theorem ie:c9 Tryz.prog 24=some 2:=by kernel_rfl
theorem cW:c9 Tryz.prog 3=some 1:=by kernel_rfl
theorem pY:c9 Tryz.prog 35=some 1:=by kernel_rfl
theorem ms:c9 Tryz.prog 4=some 1:=by kernel_rfl
theorem kS:c9 Tryz.prog 85=some 3:=by kernel_rfl
theorem ue:type_of% @Tryz.underlying35:=@Tryz.underlying35
theorem Vb:type_of% @Tryz.underlying99:=@Tryz.underlying99
theorem Xl:cu Tryz.prog 35=some (.slice none 0 0):=by kernel_rfl
theorem Tf:cu Tryz.prog 85=some (.agg #[.string ⟨⟨[]⟩⟩,.int .i64 0,.bool false]):=by kernel_rfl

theorem O4 (c:UInt8) (A:AH) (hc:0<=ix c):bE Tryz.prog 143 #[ek (c)] A (fun v A1=>v=ek (c ^^^ 32)/\A=A1):=by
 refine gR Tryz.call143 Tryz.func143 Z Tryz.results143 Tryz.ntmps143 Z (fun wf=>?_);have D:=AH.le.refl A;refine am.seq fun _ h2=>.region<|.q Z (ah Z)<|.nil<|h2 _ _<|.seq fun _ h4=>.seq fun _ h6=>.region<|.q Z (ae Z)<|.q Z (qS (d:=97) Z Z) ?_;refine Ops.nil<|h6 _ _<|.if rfl (fun p7=>?_) (fun p7=>?_)
 ·refine am.seq fun _ h9=>.region<|.q Z (ae Z)<|.q Z (md (d:=97) Z Z)<|.q Z (GX (d:=65) Z Z)<|.q Z (ah Z)<|.nil<|h9 _ _<|.rt (by exact aH Z (⟨by (rw [<- (Vp c hc).1 ‹_›];rfl),Z⟩))
 refine am.skip<|h4 _ _<|.seq fun _ h=>.region<|.q Z (ae Z)<|.q Z (md (d:=65) Z Z)<|.q Z (GX (d:=97) Z Z)<|.q Z (ah Z)<|.nil<|h _ _ ?_;refine am.ret ?_;repeat first | with_reducible refine bz ?_ | with_reducible refine bn ?_
 exact aH Z (⟨by (rw [<- (Vp c hc).2 ‹_›];rfl),Z⟩)

theorem od (u:Value) (o w:List UInt8) (A0 A:AH) (aG:A0.le A) (aY:A0.wf) (hu:Fresh A0 A u 1 (ao o)) (hw:CZ w) (hwl:w.length<=1000000) (hol:o.length<=100000000000):bE Tryz.prog 108 #[u,bf (w)] A (fun v A1=>A0.le A1/\A1.wf/\Fresh A0 A1 v 1 (ao (w.foldl push o))):=by
 refine lQ Tryz.call108 Tryz.func108 Z Tryz.results108 Tryz.ntmps108 Z (fun wf=>?_);refine am.seq fun _ h2=>.region<|.q Z (ah Z)<|.nil<|h2 _ _<|.seq fun _ h4=>.seq fun _ h6=>.region<|.q Z (ah Z)<|.nil ?_;refine h6 _ _<|.block<|.loop (X:=Nat × List UInt8 × Value) (fun ⟨i,x,s⟩=>[(0,s),(1,bf (w)),(5,num ((i:Nat):Int))]) (fun ⟨i,x,s⟩ B=>(i<=w.length/\(w.drop i).foldl push x=w.foldl push o/\x.length<=o.length + i)/\A0.le B/\Fresh A0 B s 1 (ao x)) (fun ⟨i,x,s⟩=>w.length - i) (⟨0,o,u⟩) (kX Z Z Z) (⟨⟨Nat.zero_le _,Z,Nat.le_refl _⟩,aG,hu⟩) ?_;rintro ⟨i,x,s⟩ B8 ⟨⟨hi,a0,b5⟩,a5,D⟩;refine am.wf fun a9=>.seq fun _ aA=>.seq fun _ aB=>.region<|.q Z (ae Z)<|.q Z (ae Z)<|.q Z (cD u9 Z)<|.q Z (bX Z Z)<|.nil<|aB _ _ ?_;refine am.if rfl (fun aP=>?_) (fun aP=>?_)
 ·refine am.skip<|aA _ _<|.seq fun _ a8=>.block<|.seq fun _ aC=>.region<|.q Z (ae Z)<|.q Z (bF (n:=x.length) cT Z D.slc O (eM _))<|.q Z (ah Z)<|.nil ?_;refine aC _ _<|.join (fun f A1=>al [(28,.bool (decide (0 < x.length/\x.getD (x.length - 1) 0=w.getD i 0 ^^^ 32))),(0,s),(1,bf (w)),(5,num ((i:Nat):Int)),(7,num ((i:Nat):Int)),(8,bf (w)),(9,num ((w.length:Nat):Int)),(10,.bool (decide (i < w.length))),(13,s),(14,num ((x.length:Nat):Int)),(6,num ((x.length:Nat):Int))] f.e/\f.ds=[]/\B8=A1) ?_ ?_
  ·refine am.drawn [0,1,2,3,4,5,6,7,8,9,10,11,12,13] mixed Y Y Z<|.q Z Z Z (ae Z)<|.q Z Z Z (ee (b:=0) Z Z)<|.q Z Z Z (ae Z)<|.part (t:=17) Z (fun aR=>?_) (fun aR=>?_)
   ·refine bj.qOn Z Z Z Z Z (ae Z)<|.qOn Z Z Z Z Z (ae Z)<|.qOn Z Z Z Z Z (ik (b:=1) Z Z O) ?_;obtain ⟨ar,a6,b1,b9,b0,b7,b6,az,aF,a7,aZ,a2⟩:=bI.at (i:=x.length - 1) D.slc Ox O;refine bj.qOn Z Z Z Z Z (aE cT kz Z az Z aF) ?_;have ab:=cR (off:=a6 + (x.length - 1) * 1) a7 ((cM a2).trans (fH O));refine bj.qOn Z Z Z Z Z (ak Ld Z Z a7 ((cM a2).trans (fH O)))<|.qOn Z Z Z Z Z (ae Z)<|.qOn Z Z Z Z Z (ae Z)<|.qOn Z Z Z Z Z (lD u9 Z Z O)<|.lOn Z Z Z Z Z (fun _ _ ac _=>au Z (O4 (w.getD i 0) B8 (uG hw O)) ?_);rintro ba A26 ⟨rfl,rfl⟩;refine ac _ _ (aW.list (L:=[(⟨ar,a6 + (x.length - 1) * 1,none⟩,ek (x.getD (x.length - 1) 0))]) Y (bw ab cI))<|.qOn Z Z Z Z Z (vL Z Z)<|.q Z Z Z (aJ Z Z)<|.done ?_;exact ⟨al.cons (show some _=some _ from congrArg (fun b=>some (Value.bool b)) (show (decide ((x.getD (x.length - 1) 0)=((w.getD i 0) ^^^ 32)))=decide (0 < x.length/\x.getD (x.length - 1) 0=w.getD i 0 ^^^ 32) from (by simp only [‹0 < _›,true_and])))<|Al Z Z Z Z Z Z Z Z Z Z,Z,Z⟩
   refine bj.qOff Z Z Z Z Z Z<|.qOff Z Z Z Z Z Z<|.qOff Z Z Z Z Z Z<|.qOff Z Z Z Z Z Z<|.qOff Z Z Z Z Z Z<|.qOff Z Z Z Z Z Z<|.qOff Z Z Z Z Z Z<|.qOff Z Z Z Z Z Z<|.lOff Z Z Z Z Z Z<|.qOff Z Z Z Z Z Z ?_;refine bj.q Z Z Z (aU Z Z)<|.done ?_;exact ⟨al.cons (show some _=some _ from congrArg (fun b=>some (Value.bool b)) (show (false)=decide (0 < x.length/\x.getD (x.length - 1) 0=w.getD i 0 ^^^ 32) from (by simp only [‹¬ 0 < _›,false_and,decide_false])))<|Al Z Z Z Z Z Z Z Z Z Z,Z,Z⟩
  rintro ⟨fe,fd⟩ _ ⟨hE,rfl,rfl⟩;refine am.forget hE<|.if rfl (fun aS=>?_) (fun aS=>?_)
  ·refine am.region<|.q Z (ae Z)<|.q Z (ae Z)<|.q Z (ik (b:=1) Z Z O) ?_;obtain ⟨av,b8,ay,aT,aI,b3⟩:=D.nonnil (by intro q;have:=congrArg List.length q;simp only [aN,List.length_nil] at this;omega);subst aT;rw [aN,Nat.mul_one] at aI;have a3:=D.take (k:=x.length - 1) O;rw [Nat.mul_one,jO] at a3;refine Ops.q Z (lG cT kz Z Z O)<|.q Z (ah Z)<|.nil<|a8 _ _<|.region<|.q Z (ae Z)<|.q Z (bq (b:=1) Z Z O)<|.q Z (ah Z)<|.nil ?_;exact ⟨⟨i + 1,x.take (x.length - 1),.slice (some ⟨av,0,none⟩) (x.length - 1) ay⟩,kX Z Z Z,Z,⟨⟨by omega,by exact uJ Ow a0 ‹_›,by simp only [List.length_append,List.length_take,List.length_cons,List.length_nil];omega⟩,a5,a3⟩,O1⟩
  refine am.region<|.q Z (ae Z)<|.q Z (ae Z)<|.q Z (ae Z)<|.q Z (lD u9 Z Z O)<|.l Z (fun _ _ ad _=>aO (c:=[ek (w.getD i 0)]) a9 rfl (ax cT kz z5 rfl U U rfl) fun A33 b2 V=>?_);have a4:=D.le V.le;have ai:=a5.trans V.le;refine ad _ _<|.l Z (fun _ _ ag _=>cN (ys:=[ek (w.getD i 0)]) rfl rfl cT kz un z5 rfl U cT (fun _ h=>by cases h) a4.own (bQ (n:=1) V.get Z) rfl rfl (by show (_ + _) * 1<=_;simp only [aN,List.length_cons,List.length_nil];(try simp only [List.length_append,List.length_cons,List.length_nil]);omega) O3 fun A39 aV a1=>?_);rw [show ([ek (w.getD i 0)]:List Value)=ao [w.getD i 0] from rfl,eE] at a1;obtain ⟨aa,ap⟩:=Fresh.grow a4 ai aY a1;refine ag _ _<|.q Z (ah Z)<|.nil<|a8 _ _<|.region<|.q Z (ae Z)<|.q Z (bq (b:=1) Z Z O)<|.q Z (ah Z)<|.nil ?_;exact ⟨⟨i + 1,x ++ [w.getD i 0],aV⟩,kX Z Z Z,Z,⟨⟨by omega,by exact uK Ow a0 ‹_›,by simp only [List.length_append,List.length_take,List.length_cons,List.length_nil];omega⟩,ap,aa⟩,O1⟩
 refine am.exit<|h4 _ _<|.seq fun _ aD=>.region<|.q Z (ae Z)<|.q Z (ah Z)<|.nil<|aD _ _<|.rt (by exact aH Z (⟨a5,a9,cw D (congrArg ao (by rw [pd O] at a0;exact a0))⟩))

theorem xZ (w:List UInt8) (A:AH) (hw:CZ w) (hwl:w.length<=1000000):bE Tryz.prog 64 #[bf (w)] A (fun v A1=>v=bf (lM w)/\A.le A1/\A1.wf):=by
 refine gR Tryz.call64 Tryz.func64 Z Tryz.results64 Tryz.ntmps64 Z (fun wf=>?_);have a3:=AH.le.refl A;refine am.seq fun _ h2=>.region<|.q Z (ah Z)<|.nil<|h2 _ _<|.seq fun _ h4=>.region<|.l Z (fun _ _ a8 _=>aO (c:=[]) wf rfl (ax cT kz z5 rfl U U rfl) fun A7 b6 h=>?_);have a0:=aQ wf (Nat.le_trans a3.n h.lo);have a9:=a3.trans h.le;refine a8 _ _<|.q Z (ae Z) ?_;have V:Fresh A A7 (.slice (some ⟨b6,0,none⟩) 0 0) 1 (ao []):=Fresh.lit h.get a0 Z (Nat.le_of_ble_eq_true Z);have X:=cd (bs:=[blk (.slice (some ⟨b6,0,none⟩) 0 0)]) a9 (sC V.lo o4);refine Ops.l Z (fun _ _ a5 _=>au Z (od (.slice (some ⟨b6,0,none⟩) 0 0) ([]) w (A7.hide [blk (.slice (some ⟨b6,0,none⟩) 0 0)]) A7 (cx A7 [blk (.slice (some ⟨b6,0,none⟩) 0 0)]) (cg h.wf) (V.hide (by simp)) hw hwl (by simp)) ?_);rintro aa A14 ⟨a1,a2,D⟩;have a4:=D.base X;have a7:=X.trans a1;refine a5 _ _<|.l Z (fun _ _ a6 _=>eB (s:=w.foldl push ([])) Z cT u9 u5 a4.slc ?_);refine a6 _ _<|.q Z (ah Z)<|.nil<|h4 _ _<|.rt (by exact aH Z (⟨Z,a7,a2⟩))

theorem xY (w:List UInt8) (A:AH) (hw:CZ w) (hwl:w.length<=1000000):bE Tryz.prog 110 #[bf (w)] A (fun v A1=>v=bf (inv w)/\A.le A1/\A1.wf):=by
 refine gR Tryz.call110 Tryz.func110 Z Tryz.results110 Tryz.ntmps110 Z (fun wf=>?_);have a6:=AH.le.refl A;refine am.seq fun _ h2=>.region<|.q Z (ah Z)<|.nil<|h2 _ _<|.seq fun _ h4=>.region<|.l Z (fun _ _ aA _=>aO (c:=[]) wf rfl (ax cT kz z5 rfl U U rfl) fun A7 b6 a3=>?_);have a5:=aQ wf (Nat.le_trans a6.n a3.lo);have aB:=a6.trans a3.le;refine aA _ _<|.q Z (ah Z)<|.nil<|h4 _ _<|.seq fun _ ai=>.seq fun _ ap=>.region<|.q Z (ae Z)<|.q Z (cD u9 Z)<|.q Z (wU Z Z O) ?_;refine Ops.q Z (ah Z)<|.nil<|ap _ _<|.block ?_;have a7:Fresh A A7 (.slice (some ⟨b6,0,none⟩) 0 0) 1 (ao []):=Fresh.lit a3.get a5 Z (Nat.le_of_ble_eq_true Z);refine am.loop (X:=Nat × List UInt8 × Value) (fun ⟨j,o,s⟩=>[(0,bf (w)),(3,s),(4,num ((j:Int) - 1))]) (fun ⟨j,o,s⟩ B=>(j<=w.length/\o=((w.drop j).map (· ^^^ 32)).reverse)/\A.le B/\Fresh A B s 1 (ao o)) (fun ⟨j,o,s⟩=>j) (⟨w.length,[],.slice (some ⟨b6,0,none⟩) 0 0⟩) (al.cons Z<|al.cons Z<|al.cons (congrArg (fun z:Int=>some (num z)) O)<|al.nil _) (⟨⟨Nat.le_refl _,by simp⟩,aB,a7⟩) ?_;rintro ⟨j,o,s⟩ B17 ⟨⟨hj,ho⟩,a2,D⟩;refine am.wf fun a4=>?_;have hlo:o.length=w.length - j:=by rw [ho];simp
 have htn:((j:Int) - 1).toNat=j - 1:=by omega
 refine am.seq fun _ ar=>.seq fun _ av=>.region<|.q Z (ae Z)<|.q Z (lz Z Z)<|.nil<|av _ _<|.if rfl (fun aC=>?_) (fun aC=>?_)
 ·refine am.skip<|ar _ _<|.seq fun _ ay=>.block<|.region<|.q Z (ae Z)<|.q Z (ae Z)<|.q Z (ae Z)<|.q Z (lD u9 Z (i8 O) O)<|.l Z (fun _ _ a9 _=>au Z (O4 (w.getD ((j:Int) - 1).toNat 0) B17 (uG hw O)) ?_);rintro aG A28 ⟨rfl,rfl⟩;refine a9 _ _<|.l Z (fun _ _ aa _=>aO (c:=[ek ((w.getD ((j:Int) - 1).toNat 0) ^^^ 32)]) a4 rfl (ax cT kz z5 rfl U U rfl) fun A32 aF V=>?_);have a1:=D.le V.le;have ad:=a2.trans V.le;refine aa _ _<|.l Z (fun _ _ ab _=>cN (ys:=[ek ((w.getD ((j:Int) - 1).toNat 0) ^^^ 32)]) rfl rfl cT kz un z5 rfl U cT (fun _ h=>by cases h) a1.own (bQ (n:=1) V.get Z) rfl rfl (by show (_ + _) * 1<=_;simp only [aN,List.length_cons,List.length_nil];(try simp only [List.length_append,List.length_cons,List.length_nil]);omega) O3 fun A38 aD a0=>?_);rw [show ([ek ((w.getD ((j:Int) - 1).toNat 0) ^^^ 32)]:List Value)=ao [(w.getD ((j:Int) - 1).toNat 0) ^^^ 32] from rfl,eE] at a0;obtain ⟨a8,ag⟩:=Fresh.grow a1 ad wf a0;refine ab _ _<|.q Z (ah Z)<|.nil<|ay _ _<|.region<|.q Z (ae Z)<|.q Z (wU Z Z O)<|.q Z (ah Z)<|.nil ?_;exact ⟨⟨j - 1,o ++ [(w.getD ((j:Int) - 1).toNat 0) ^^^ 32],aD⟩,al.cons Z<|al.cons Z<|al.cons (congrArg (fun z:Int=>some (num z)) O)<|al.nil _,Z,⟨⟨by omega,by rw [ho,htn];exact AN O hj⟩,ag,a8⟩,O1⟩
 refine am.exit<|ai _ _<|.seq fun _ az=>.region<|.q Z (ae Z)<|.l Z (fun _ _ ac _=>eB (s:=o) Z cT u9 u5 D.slc ?_);refine ac _ _<|.q Z (ah Z)<|.nil<|az _ _<|.rt (by exact aH Z (⟨by rw [ho,show j=0 by omega];rfl,a2,a4⟩))

theorem Kg (g:Int) (u:Value) (l:List (List UInt8)) (rel:Int) (iv:Bool) (A:AH) (hr:0<=rel/\rel < (l.length:Int)) (hok:CZ (l.getD rel.toNat [])/\(l.getD rel.toNat []).length<=200) (hu:bI A 1 u (ei l)):bE Tryz.prog 109 #[.agg #[num (g),u],num (rel),.bool (iv)] A (fun v A1=>v=bf (if iv then inv (l.getD rel.toNat []) else l.getD rel.toNat [])/\A.le A1/\A1.wf):=by
 refine wR Tryz.call109 Tryz.func109 Z Tryz.results109 Tryz.ntmps109 Z (fun wf=>?_);have ag:=AH.le.refl A;obtain ⟨r,rfl⟩:∃ r:Nat,rel=r:=⟨rel.toNat,by omega⟩;rw [Int.toNat_natCast] at hok;refine am.seq fun _ h2=>.region<|.l Z (fun _ _ ab _=>d8 wf rfl rfl fun A5 b4 D=>?_);have h:=ag.trans D.le;refine ab _ _<|.q Z (ah Z)<|.nil<|h2 _ _<|.seq fun _ h9=>.seq fun _ a8=>.region<|.q Z (ae Z)<|.nil<|a8 _ _ ?_;refine am.ifB Z (fun ai=>?_) (fun ai=>?_)
 ·refine am.seq fun _ a9=>.region<|.q Z (aj ic oU U Z)<|.q Z (ak oL Z Z D.get Z)<|.q Z (ae Z) ?_;obtain ⟨aB,aD,az,aS,av,aP,aG,a4,ac,a6,ap,a0⟩:=bI.at (i:=r) (hu.le h) Oj O;refine Ops.q Z (aE mJ fp Z a4 Z ac)<|.q Z (ak fW Z Z a6 ((cM a0).trans (fb O)))<|.l Z (fun _ _ a2 _=>au Z (xY (l.getD r []) A5 hok.1 (by have:=hok.2;omega)) ?_);rintro aV A18 ⟨rfl,V,X⟩;have a3:=h.trans V;refine a2 _ _<|.q Z (ah Z)<|.nil<|a9 _ _<|.rt (by exact aH Z (⟨by (rw [show iv=true from ‹_›];rfl),a3,X⟩))
 refine am.skip<|h9 _ _<|.seq fun _ aa=>.region<|.q Z (aj ic oU U Z)<|.q Z (ak oL Z Z D.get Z)<|.q Z (ae Z) ?_;obtain ⟨aC,aF,aA,aT,ay,aR,aI,a5,ad,a7,ar,a1⟩:=bI.at (i:=r) (hu.le h) Oj O;refine Ops.q Z (aE mJ fp Z a5 Z ad)<|.q Z (ak fW Z Z a7 ((cM a1).trans (fb O)))<|.q Z (ah Z)<|.nil<|aa _ _<|.rt (by exact aH Z (⟨by (rw [show iv=false from ‹_›];rfl),h,D.wf⟩))

theorem Om (g:Int) (u:Value) (l:List (List UInt8)) (dv:Value) (d:List bJ) (A:AH) (hp:df g l=0) (hd:fx g l d=true) (hu:bI A 1 u (ei l)) (hv:bI A 3 dv (cy d)):bE Tryz.prog 63 #[.agg #[num (g),u],dv] A (fun v A1=>v=bf (mz l d)/\A.le A1/\A1.wf):=by
 refine lQ Tryz.call63 Tryz.func63 Z Tryz.results63 Tryz.ntmps63 Z (fun wf=>?_);have d2:=AH.le.refl A;have hdl:=(rm hd).1;refine am.seq fun _ h2=>.region<|.l Z (fun _ _ d0 _=>d8 wf rfl rfl fun A5 b4 ad=>?_);have b9:=d2.trans ad.le;refine d0 _ _<|.q Z (ah Z)<|.nil<|h2 _ _<|.seq fun _ h9=>.region<|.l Z (fun _ _ bu _=>aO (c:=[]) ad.wf rfl (ax cT kz z5 rfl U U rfl) fun A12 b7 a3=>?_);have ag:=ne_new ad.wf ad.get a3.lo;have aC:=aQ wf (Nat.le_trans b9.n a3.lo);have c7:=a3.le.get _ _ ad.get;have aR:=b9.trans a3.le;refine bu _ _<|.q Z (ah Z)<|.nil<|h9 _ _<|.seq fun _ cc=>.seq fun _ cf=>.region<|.q Z (ae Z)<|.q Z (bF (n:=d.length) ue Z (hv.le aR) O (d9 _))<|.q Z (ae Z) ?_;refine Ops.nil<|cf _ _<|.block ?_;have bb:Fresh A A12 (.slice (some ⟨b7,0,none⟩) 0 0) 1 (ao []):=Fresh.lit a3.get aC Z (Nat.le_of_ble_eq_true Z);refine am.loop (X:=Nat × List UInt8 × Value) (fun ⟨k,o,s⟩=>[(2,.pointer (some ⟨b4,0,none⟩)),(5,s),(9,dv),(10,num ((d.length:Nat):Int)),(11,num ((k:Nat):Int))]) (fun ⟨k,o,s⟩ B=>(k<=d.length/\(d.drop k).foldl (jt l) o=mz l d/\o.length<=200200 * k)/\A.le B/\Fresh A B s 1 (ao o)/\B.get b4=some (.row true [num (g),u] 2)/\V.blk s ≠ some b4) (fun ⟨k,o,s⟩=>d.length - k) (⟨0,[],.slice (some ⟨b7,0,none⟩) 0 0⟩) (qk Z Z Z Z Z) (⟨⟨Nat.zero_le _,rfl,Nat.zero_le _⟩,aR,(cw bb (congrArg ao ((by rfl)))),c7,(fun q=>by cases q;exact ag Z)⟩) ?_;rintro ⟨k,o,s⟩ B23 ⟨⟨hk,hf,ho⟩,a8,a2,a6,ap⟩;refine am.wf fun ac=>?_;have hz:=fun q:k < d.length=>pk hd _ (bi (d:=.zero) q);have hzl:=fun q:k < d.length=>gK (hz q).2;have hzo:=fun q:k < d.length=>ly (fun r=>r (hz q).2);have hre:=fun q:k < d.length=>NS hp (hz q).1;have dI:=ed (d.getD k .zero).conj o;have dJ:=ed (if (d.getD k .zero).inv then inv (l.getD (d.getD k .zero).rel.toNat []) else l.getD (d.getD k .zero).rel.toNat []) ((d.getD k .zero).conj.foldl push o);have hrl:k < d.length->(if (d.getD k .zero).inv then inv (l.getD (d.getD k .zero).rel.toNat []) else l.getD (d.getD k .zero).rel.toNat []).length<=200:=fun q=>by have:=(hre q).2;split <;> first | (rw [gI];exact this) | exact this
 have hro:k < d.length->CZ (if (d.getD k .zero).inv then inv (l.getD (d.getD k .zero).rel.toNat []) else l.getD (d.getD k .zero).rel.toNat []):=fun q=>by have:=(hre q).1;split <;> first | exact GR this | exact this
 refine am.seq fun _ ch=>.region<|.q Z (bX Z Z)<|.nil<|ch _ _<|.seq fun _ ck=>.if rfl (fun d3=>?_) (fun d3=>?_)
 ·refine am.skip<|ck _ _<|.seq fun _ cv=>.block<|.seq fun _ cA=>.region ?_;obtain ⟨dz,dG,dw,dM,dm,dL,dK,c3,d1,c4,ba,dl⟩:=bI.at (i:=k) (hv.le a8) OF O;refine Ops.q Z (aE ue kS Z c3 Z d1)<|.q Z (aq zL kS Z Z c4 (ba.trans (congrArg some (jd O))))<|.l Z (fun _ _ bv _=>cl ac Tf rfl fun A37 dD h=>?_);have ai:=ne_new ac a6 h.lo;have aZ:=a2.own.ne_new ac h.lo;have aD:=aQ wf (Nat.le_trans a8.n h.lo);have cC:=h.le.get _ _ a6;have bc:=a2.le h.le;have bO:=a8.trans h.le;refine bv _ _<|.l Z (fun _ _ bA _=>aX (cs:=[bf ((d.getD k .zero).conj),num ((d.getD k .zero).rel),.bool ((d.getD k .zero).inv)]) (c':=[bf ((d.getD k .zero).conj),num ((d.getD k .zero).rel),.bool ((d.getD k .zero).inv)]) h.wf rfl rfl rfl rfl kS h.get (Nat.le_of_ble_eq_true rfl) rfl rfl fun A44 D=>?_);have cF:=D.keep _ _ ai cC;have az:=bc.keep D.keep aZ;have bP:=an bO wf aD D.n D.keep;refine bA _ _<|.nil<|cA _ _<|.seq fun _ cH=>.region<|.q Z (ae Z)<|.q Z (aj jR fp U Z)<|.q Z (ak fW Z Z D.get Z) ?_;have aS:=cd (bs:=[blk s]) bP (sC az.lo o4);refine Ops.l Z (fun _ _ bB _=>au Z (od s o ((d.getD k .zero).conj) (A44.hide [blk s]) A44 (cx A44 [blk s]) (cg D.wf) (az.hide (by simp)) (hzo O) (by have:=hzl O;have:=hrl O;(try rw [gI]);omega) (by have:=hzl O;have:=hrl O;omega)) ?_);rintro a7 A53 ⟨a9,di,a0⟩;have aG:=bK (bs:=[blk s]) cF (n0 ap mF);have b8:=a9.get _ _ aG;have aI:=bK (bs:=[blk s]) D.get (n0 aZ mF);have aF:=a9.get _ _ aI;have bd:=a0.base aS;have bU:=a0.seph aG;have bV:=a0.seph aI;have aT:=aS.trans a9;refine bB _ _<|.q Z (ah Z)<|.nil<|cH _ _<|.seq fun _ cK=>.region<|.q Z (ae Z)<|.q Z (aq o7 ie Z Z b8 Z)<|.q Z (aj s7 cW U Z)<|.q Z (ak eR Z Z aF Z) ?_;refine Ops.q Z (aj Ma ms U Z)<|.q Z (ak uX Z Z aF Z)<|.l Z (fun _ _ bC _=>au Z (Kg ((g)) u l (((d.getD k .zero).rel)) ((d.getD k .zero).inv) A53 (hz O).1 (hre O) (hu.le aT)) ?_);rintro dO A68 ⟨rfl,a1,b5⟩;have cP:=a1.get _ _ b8;have cS:=a1.get _ _ aF;have aA:=bd.le a1;have bR:=aT.trans a1;refine bC _ _ ?_;have aV:=cd (bs:=[blk a7]) bR (sC aA.lo o4);refine Ops.l Z (fun _ _ bD _=>au Z (od a7 (((d.getD k .zero).conj).foldl push o) (if (d.getD k .zero).inv then inv (l.getD (((d.getD k .zero).rel)).toNat []) else l.getD (((d.getD k .zero).rel)).toNat []) (A68.hide [blk a7]) A68 (cx A68 [blk a7]) (cg b5) (aA.hide (by simp)) (hro O) (by have:=hzl O;have:=hrl O;(try rw [gI]);omega) (by have:=hzl O;have:=hrl O;omega)) ?_);rintro ar A76 ⟨aa,dj,a4⟩;have aP:=bK (bs:=[blk a7]) cP (n0 bU mF);have cV:=aa.get _ _ aP;have br:=bK (bs:=[blk a7]) cS (n0 bV mF);have cX:=aa.get _ _ br;have bl:=a4.base aV;have bY:=a4.seph aP;have bS:=aV.trans aa;refine bD _ _<|.q Z (ah Z)<|.nil<|cK _ _<|.region<|.q Z (ae Z)<|.q Z (aj jR fp U Z)<|.q Z (ak fW Z Z cX Z)<|.l Z (fun _ _ bL _=>au Z (xY ((d.getD k .zero).conj) A76 (hzo O) (by have:=hzl O;omega)) ?_);rintro dS A89 ⟨rfl,ab,b6⟩;have cZ:=ab.get _ _ cV;have aB:=bl.le ab;have bT:=bS.trans ab;refine bL _ _ ?_;have aY:=cd (bs:=[blk ar]) bT (sC aB.lo o4);refine Ops.l Z (fun _ _ bM _=>au Z (od ar ((if (d.getD k .zero).inv then inv (l.getD (((d.getD k .zero).rel)).toNat []) else l.getD (((d.getD k .zero).rel)).toNat []).foldl push (((d.getD k .zero).conj).foldl push o)) (inv ((d.getD k .zero).conj)) (A89.hide [blk ar]) A89 (cx A89 [blk ar]) (cg b6) (aB.hide (by simp)) (GR (hzo O)) (by have:=hzl O;have:=hrl O;(try rw [gI]);omega) (by have:=hzl O;have:=hrl O;omega)) ?_);rintro dd A97 ⟨ay,dk,a5⟩;have av:=bK (bs:=[blk ar]) cZ (n0 bY mF);have bm:=ay.get _ _ av;have b0:=a5.base aY;have b3:=a5.seph av;have b2:=aY.trans ay;refine bM _ _<|.q Z (ah Z)<|.nil<|cv _ _<|.region<|.q Z (bq (b:=1) Z Z O)<|.q Z (ae Z)<|.nil ?_;exact ⟨⟨k + 1,jt l o (d.getD k .zero),dd⟩,qk Z Z Z Z Z,Z,⟨⟨by omega,xk (d:=.zero) O hf Z,by have:=FU (l:=l) (o:=o) (hzl O) (hre O).2;omega⟩,b2,(cw b0 (congrArg ao ((by exact Lj)))),bm,b3⟩,O1⟩
 refine am.exit<|cc _ _<|.seq fun _ bp=>.region<|.q Z (ae Z)<|.l Z (fun _ _ b1 _=>eB (s:=o) Z cT u9 u5 a2.slc ?_);refine b1 _ _<|.q Z (ah Z)<|.nil<|bp _ _<|.rt (by exact aH Z (⟨by rw [qj O] at hf;rw [<- hf];rfl,a8,ac⟩))

theorem Cj (g:Int) (u:Value) (l:List (List UInt8)) (A:AH) (hn:l.length<=100000000) (hll:∀ x ∈ l,x.length<=100000000) (hu:bI A 1 u (ei l)):bE Tryz.prog 45 #[.agg #[num (g),u]] A (fun v A1=>v=.bool (decide (df g l=0))/\A.le A1/\A1.wf):=by
 refine gR Tryz.call45 Tryz.func45 Z Tryz.results45 Tryz.ntmps45 Z (fun wf=>?_);have aS:=AH.le.refl A;refine am.seq fun _ h2=>.region<|.l Z (fun _ _ aP _=>d8 wf rfl rfl fun A5 b4 D=>?_);have a1:=aS.trans D.le;refine aP _ _<|.q Z (ah Z)<|.nil<|h2 _ _<|.seq fun _ h9=>.seq fun _ a5=>.region<|.q Z (aj fY cW U Z)<|.q Z (ak eR Z Z D.get Z)<|.q Z (kG Z Z) ?_;refine Ops.q Z (ae Z)<|.part (t:=8) Z (fun aT=>?_) (fun aT=>?_)
 ·refine Ops.off Z Z Z Z<|.off Z Z Z Z<|.off Z Z Z Z<|.q Z (aJ Z Z)<|.q Z (ae Z)<|.off Z Z Z Z<|.off Z Z Z Z<|.off Z Z Z Z<|.off Z Z Z Z<|.q Z (aJ Z Z) ?_;refine Ops.nil<|a5 _ _<|.cond_true Z<|.seq fun _ ad=>.region<|.q Z (ah Z)<|.nil<|ad _ _<|.rt (by exact aH Z (⟨by rw [decide_eq_false (by (exact fun q=>by have:=(c0 q).1;omega))];rfl,a1,D.wf⟩))
 refine Ops.on Z Z<|.q Z (aj fY cW U Z)<|.on Z Z<|.q Z (ak eR Z Z D.get Z)<|.on Z Z<|.q Z (BK Z Z)<|.q Z (aU Z Z)<|.q Z (ae Z)<|.part (t:=13) Z (fun aV=>?_) (fun aV=>?_)
 ·refine Ops.off Z Z Z Z<|.off Z Z Z Z<|.off Z Z Z Z<|.off Z Z Z Z<|.q Z (aJ Z Z)<|.nil<|a5 _ _<|.cond_true Z<|.seq fun _ ag=>.region ?_;refine Ops.q Z (ah Z)<|.nil<|ag _ _<|.rt (by exact aH Z (⟨by rw [decide_eq_false (by (exact fun q=>by have:=(c0 q).1;omega))];rfl,a1,D.wf⟩))
 refine Ops.on Z Z<|.q Z (aj ic oU U Z)<|.on Z Z<|.q Z (ak oL Z Z D.get Z)<|.on Z Z<|.q Z (bF (n:=l.length) mJ Z (hu.le a1) O (eu _))<|.on Z Z<|.q Z (ee (b:=60) Z Z)<|.q Z (aU Z Z)<|.nil ?_;refine a5 _ _<|.if rfl (fun aY=>?_) (fun aY=>?_)
 ·refine am.seq fun _ ai=>.region<|.q Z (ah Z)<|.nil<|ai _ _<|.rt (by exact aH Z (⟨by rw [decide_eq_false (by (exact fun q=>by have:=(c0 q).2.1;omega))];rfl,a1,D.wf⟩))
 refine am.skip<|h9 _ _<|.seq fun _ ap=>.seq fun _ ar=>.region<|.q Z (aj ic oU U Z)<|.q Z (ak oL Z Z D.get Z)<|.q Z (bF (n:=l.length) mJ Z (hu.le a1) O (eu _))<|.q Z (ae Z)<|.nil ?_;refine ar _ _<|.block<|.loop (X:=Nat) (fun k=>[(1,.pointer (some ⟨b4,0,none⟩)),(20,u),(21,num ((l.length:Nat):Int)),(22,num ((k:Nat):Int))]) (fun k B=>(k<=l.length/\∀ j,j < k->(l.getD j []).length<=200/\gB g (l.getD j [])=false)/\A.le B/\B.get b4=some (.row true [num (g),u] 2)) (fun k=>l.length - k) 0 (mA Z Z Z Z) (⟨⟨Nat.zero_le _,fun j h=>by omega⟩,a1,D.get⟩) ?_;rintro k B26 ⟨⟨hk,hb⟩,V,a0⟩;refine am.wf fun a2=>?_;have hlk:k < l.length->(l.getD k []).length<=100000000:=fun q=>hll _ (bi q);refine am.seq fun _ av=>.region<|.q Z (bX Z Z)<|.nil<|av _ _<|.seq fun _ ay=>.if rfl (fun aZ=>?_) (fun aZ=>?_)
 ·refine am.skip<|ay _ _<|.seq fun _ az=>.block<|.seq fun _ aA=>.region ?_;obtain ⟨U7,b8,b7,bb,b6,ba,b9,ab,aR,ac,b5,a8⟩:=bI.at (i:=k) (hu.le V) Oj O;refine Ops.q Z (aE mJ fp Z ab Z aR)<|.q Z (ak fW Z Z ac ((cM a8).trans (fb O)))<|.q Z (ah Z)<|.nil<|aA _ _<|.seq fun _ a3=>.region<|.q Z (ae Z)<|.q Z (cD u9 Z)<|.q Z (bX (b:=1) Z Z) ?_;refine Ops.q Z (ae Z)<|.part (t:=29) Z (fun b0=>?_) (fun b0=>?_)
  ·refine Ops.off Z Z Z Z<|.off Z Z Z Z<|.off Z Z Z Z<|.q Z (aJ Z Z)<|.q Z (ae Z)<|.off Z Z Z Z<|.off Z Z Z Z<|.off Z Z Z Z<|.off Z Z Z Z<|.off Z Z Z Z ?_;refine Ops.q Z (aJ Z Z)<|.q Z (ae Z)<|.off Z Z Z Z<|.off Z Z Z Z<|.off Z Z Z Z<|.off Z Z Z Z<|.q Z (aJ Z Z)<|.nil<|a3 _ _<|.cond_true Z ?_;refine am.seq fun _ aB=>.region<|.q Z (ah Z)<|.nil<|aB _ _<|.rt (by exact aH Z (⟨by rw [decide_eq_false (by exact jg (i:=k) O (.inr (by first | exact jM O | exact mP ‹_› | exact mQ ‹_›)))];rfl,V,a2⟩))
  refine Ops.on Z Z<|.q Z (ae Z)<|.on Z Z<|.q Z (cD u9 Z)<|.on Z Z<|.q Z (ee (b:=200) Z Z)<|.q Z (aU Z Z)<|.q Z (ae Z)<|.part (t:=34) Z (fun b1=>?_) (fun b1=>?_)
  ·refine Ops.off Z Z Z Z<|.off Z Z Z Z<|.off Z Z Z Z<|.off Z Z Z Z<|.off Z Z Z Z<|.q Z (aJ Z Z)<|.q Z (ae Z)<|.off Z Z Z Z<|.off Z Z Z Z<|.off Z Z Z Z ?_;refine Ops.off Z Z Z Z<|.q Z (aJ Z Z)<|.nil<|a3 _ _<|.cond_true Z<|.seq fun _ aC=>.region<|.q Z (ah Z)<|.nil<|aC _ _ ?_;refine am.ret ?_;repeat first | with_reducible refine bz ?_ | with_reducible refine bn ?_
   exact aH Z (⟨by rw [decide_eq_false (by exact jg (i:=k) O (.inl O))];rfl,V,a2⟩)
  refine Ops.on Z Z<|.q Z (ae Z)<|.on Z Z<|.q Z (aj fY cW U Z)<|.on Z Z<|.q Z (ak eR Z Z a0 Z)<|.on Z Z<|.l Z (fun _ _ a9 _=>au Z (oc (l.getD k []) ((g)) B26 (by have:=hlk O;omega) O) ?_);rintro bc A48 ⟨rfl,rfl⟩;refine a9 _ _<|.on Z Z<|.q Z (kI Z)<|.q Z (aU Z Z)<|.q Z (ae Z)<|.part (t:=41) Z (fun b2=>?_) (fun b2=>?_)
  ·refine Ops.off Z Z Z Z<|.off Z Z Z Z<|.off Z Z Z Z<|.off Z Z Z Z<|.q Z (aJ Z Z)<|.nil<|a3 _ _<|.cond_true Z<|.seq fun _ aD=>.region ?_;refine Ops.q Z (ah Z)<|.nil<|aD _ _<|.rt (by exact aH Z (⟨by rw [decide_eq_false (by exact jg (i:=k) O (.inr (by first | exact jM O | exact mP ‹_› | exact mQ ‹_›)))];rfl,V,a2⟩))
  refine Ops.on Z Z<|.q Z (ae Z)<|.on Z Z<|.l Z (fun _ _ aa _=>au Z (xZ (l.getD k []) B26 (ly ‹_›) O) ?_);rintro bd A55 ⟨rfl,a4,a7⟩;have aF:=a4.get _ _ a0;have a6:=V.trans a4;refine aa _ _<|.on Z Z<|.q Z (ae Z)<|.on Z Z<|.q Z (qX Z Z)<|.q Z (aU Z Z)<|.nil<|a3 _ _<|.if rfl (fun b3=>?_) (fun b3=>?_)
  ·refine am.seq fun _ aG=>.region<|.q Z (ah Z)<|.nil<|aG _ _<|.rt (by exact aH Z (⟨by rw [decide_eq_false (by exact jg (i:=k) O (.inr (by first | exact jM O | exact mP ‹_› | exact mQ ‹_›)))];rfl,a6,a7⟩))
  refine am.skip<|az _ _<|.region<|.q Z (bq (b:=1) Z Z O)<|.q Z (ae Z)<|.nil ?_;exact ⟨k + 1,mA Z Z Z Z,Z,⟨⟨by omega,fun j h=>(Nat.lt_succ_iff_lt_or_eq.1 h).elim (hb j) (fun z=>by subst z;exact ⟨by omega,xe O ‹_› ‹_›⟩)⟩,a6,aF⟩,O1⟩
 refine am.exit<|ap _ _<|.seq fun _ aI=>.region<|.q Z (ah Z)<|.nil<|aI _ _<|.rt (by exact aH Z (⟨by rw [decide_eq_true (ry (i:=k) O O O hb)];rfl,V,a2⟩))

theorem OD (g:Int) (u:Value) (l:List (List UInt8)) (dv:Value) (d:List bJ) (A:AH) (hg:1<=g/\g<=8) (hn:l.length<=100000000) (hdn:d.length<=100000000) (hcl:∀ c ∈ d,c.conj.length<=9223372036854775807) (hu:bI A 1 u (ei l)) (hv:bI A 3 dv (cy d)):bE Tryz.prog 107 #[.agg #[num (g),u],dv] A (fun v A1=>v=.bool (fx g l d)/\A.le A1/\A1.wf):=by
 refine lQ Tryz.call107 Tryz.func107 Z Tryz.results107 Tryz.ntmps107 Z (fun wf=>?_);have aT:=AH.le.refl A;refine am.seq fun _ h2=>.region<|.l Z (fun _ _ aR _=>d8 wf rfl rfl fun A5 b4 aa=>?_);have a9:=aT.trans aa.le;refine aR _ _<|.q Z (ah Z)<|.nil<|h2 _ _<|.seq fun _ h9=>.region<|.q Z (ah Z)<|.nil<|h9 _ _<|.seq fun _ av=>?_;refine am.seq fun _ ay=>.region<|.q Z (ae Z)<|.q Z (bF (n:=d.length) ue Z (hv.le a9) O (d9 _))<|.q Z (ae Z)<|.nil<|ay _ _<|.block<|.loop (X:=Nat × Nat) (fun ⟨k,n⟩=>[(1,dv),(2,.pointer (some ⟨b4,0,none⟩)),(5,num ((n:Nat):Int)),(8,dv),(9,num ((d.length:Nat):Int)),(10,num ((k:Nat):Int))]) (fun ⟨k,n⟩ B=>(k<=d.length/\n + dn (d.drop k)=dn d/\n<=100000 * k/\∀ j,j < k->iB g l (d.getD j .zero)=true)/\A.le B/\B.get b4=some (.row true [num (g),u] 2)) (fun ⟨k,n⟩=>d.length - k) (⟨0,0⟩) (al.cons Z<|al.cons Z<|al.cons (by rfl)<|kX Z Z Z) (⟨⟨Nat.zero_le _,Nat.zero_add _,Nat.zero_le _,fun j h=>by omega⟩,a9,aa.get⟩) ?_;rintro ⟨k,n⟩ B15 ⟨⟨hk,hc,hnk,hb⟩,V,a2⟩;refine am.wf fun a3=>?_;have hcd:=fun q:k < d.length=>vj q;have hck:=fun q:k < d.length=>hcl _ (bi (d:=.zero) q);refine am.seq fun _ az=>.region<|.q Z (bX Z Z)<|.nil<|az _ _<|.seq fun _ aA=>.if rfl (fun aV=>?_) (fun aV=>?_)
 ·refine am.skip<|aA _ _<|.seq fun _ aB=>.block<|.seq fun _ aC=>.region ?_;obtain ⟨b6,b8,b5,bb,b3,ba,b9,ap,aS,ar,ab,b2⟩:=bI.at (i:=k) (hv.le V) OF O;refine Ops.q Z (aE ue kS Z ap Z aS)<|.q Z (aq zL kS Z Z ar (ab.trans (congrArg some (jd O))))<|.l Z (fun _ _ ac _=>cl a3 Tf rfl fun A29 b7 a0=>?_);have a4:=ne_new a3 a2 a0.lo;have a5:=aQ wf (Nat.le_trans V.n a0.lo);have aD:=a0.le.get _ _ a2;have ai:=V.trans a0.le;refine ac _ _<|.l Z (fun _ _ ad _=>aX (cs:=[bf ((d.getD k .zero).conj),num ((d.getD k .zero).rel),.bool ((d.getD k .zero).inv)]) (c':=[bf ((d.getD k .zero).conj),num ((d.getD k .zero).rel),.bool ((d.getD k .zero).inv)]) a0.wf rfl rfl rfl rfl kS a0.get (Nat.le_of_ble_eq_true rfl) rfl rfl fun A34 D=>?_);have a6:=D.keep _ _ a4 aD;have a1:=an ai wf a5 D.n D.keep;refine ad _ _<|.nil<|aC _ _<|.seq fun _ aF=>.region<|.q Z (ae Z)<|.q Z (aj jR fp U Z)<|.q Z (ak fW Z Z D.get Z)<|.q Z (cD u9 Z)<|.q Z (Vy Z Z) ?_;refine Ops.q Z (ah Z)<|.nil<|aF _ _<|.seq fun _ a7=>.region<|.q Z (aj s7 cW U Z)<|.q Z (ak eR Z Z D.get Z)<|.q Z (kG Z Z)<|.q Z (ae Z)<|.part (t:=22) Z (fun aY=>?_) (fun aY=>?_)
  ·refine Ops.off Z Z Z Z<|.off Z Z Z Z<|.off Z Z Z Z<|.off Z Z Z Z<|.off Z Z Z Z<|.off Z Z Z Z<|.q Z (aJ Z Z)<|.q Z (ae Z)<|.off Z Z Z Z<|.off Z Z Z Z ?_;refine Ops.off Z Z Z Z<|.off Z Z Z Z<|.off Z Z Z Z<|.off Z Z Z Z<|.q Z (aJ Z Z)<|.nil<|a7 _ _<|.cond_true Z<|.seq fun _ aG=>.region ?_;refine Ops.q Z (ah Z)<|.nil<|aG _ _<|.rt (by exact aH Z (⟨by (rw [jT (i:=k) O (by first | exact m0 ‹_› | exact m4 ‹_› | exact m5 ‹_›)];rfl),a1,D.wf⟩))
  refine Ops.on Z Z<|.q Z (aj s7 cW U Z)<|.on Z Z<|.q Z (ak eR Z Z D.get Z)<|.on Z Z<|.q Z (aj ic oU U Z)<|.on Z Z<|.q Z (ak oL Z Z a6 Z)<|.on Z Z<|.q Z (bF (n:=l.length) mJ Z (hu.le a1) O (eu _)) ?_;refine Ops.on Z Z<|.q Z (lz Z Z)<|.q Z (aU Z Z)<|.q Z (ae Z)<|.part (t:=30) Z (fun aZ=>?_) (fun aZ=>?_)
  ·refine Ops.off Z Z Z Z<|.off Z Z Z Z<|.off Z Z Z Z<|.off Z Z Z Z<|.off Z Z Z Z<|.off Z Z Z Z<|.q Z (aJ Z Z)<|.nil<|a7 _ _<|.cond_true Z ?_;refine am.seq fun _ aI=>.region<|.q Z (ah Z)<|.nil<|aI _ _<|.rt (by exact aH Z (⟨by (rw [jT (i:=k) O (by first | exact m0 ‹_› | exact m4 ‹_› | exact m5 ‹_›)];rfl),a1,D.wf⟩))
  refine Ops.on Z Z<|.q Z (aj jR fp U Z)<|.on Z Z<|.q Z (ak fW Z Z D.get Z)<|.on Z Z<|.q Z (aj fY cW U Z)<|.on Z Z<|.q Z (ak eR Z Z a6 Z)<|.on Z Z<|.l Z (fun _ _ ag _=>au Z (oc ((d.getD k .zero).conj) ((g)) A34 (hck O) hg) ?_);rintro bc A50 ⟨rfl,rfl⟩;refine ag _ _<|.on Z Z<|.q Z (kI Z)<|.q Z (aU Z Z)<|.nil<|a7 _ _<|.if rfl (fun b0=>?_) (fun b0=>?_)
  ·refine am.seq fun _ aP=>.region<|.q Z (ah Z)<|.nil<|aP _ _<|.rt (by exact aH Z (⟨by (rw [jT (i:=k) O (by first | exact m0 ‹_› | exact m4 ‹_› | exact m5 ‹_›)];rfl),a1,D.wf⟩))
  refine am.skip<|aB _ _<|.region<|.q Z (bq (b:=1) Z Z O)<|.q Z (ae Z)<|.nil ?_;exact ⟨⟨k + 1,n + (d.getD k .zero).conj.length⟩,al.cons Z<|al.cons Z<|al.cons (by exact congrArg (fun z:Int=>some (num z)) (by have:=gK (Decidable.not_not.1 ‹¬ ¬ bH g (d.getD k .zero).conj=0›);exact (Gw O).trans O))<|kX Z Z Z,Z,⟨⟨by omega,by have:=hcd O;omega,by have:=gK (Decidable.not_not.1 ‹¬ ¬ bH g (d.getD k .zero).conj=0›);omega,fun j h=>(Nat.lt_succ_iff_lt_or_eq.1 h).elim (hb j) (fun z=>by subst z;exact tn ‹_› ‹_› ‹_›)⟩,a1,a6⟩,O1⟩
 refine am.exit<|av _ _<|.seq fun _ a8=>.region<|.q Z (ae Z)<|.q Z (bF (n:=d.length) ue Z (hv.le V) O (d9 _))<|.q Z (qW (b:=100000) Z Z)<|.q Z (ae Z)<|.part (t:=42) Z (fun b1=>?_) (fun b1=>?_)
 ·refine Ops.on Z Z<|.q Z (ae Z)<|.on Z Z<|.q Z (qW (b:=1000000) Z Z)<|.q Z (aJ Z Z)<|.q Z (ah Z)<|.nil<|a8 _ _<|.rt (by exact aH Z (⟨by (rw [te (i:=k) (n:=n) O hb hc];simp_all [dT] <;> omega),V,a3⟩))
 refine Ops.off Z Z Z Z<|.off Z Z Z Z<|.q Z (aU Z Z)<|.q Z (ah Z)<|.nil<|a8 _ _<|.rt (by exact aH Z (⟨by (rw [te (i:=k) (n:=n) O hb hc];simp_all [dT] <;> omega),V,a3⟩))

theorem EK (g:Int) (u:Value) (l:List (List UInt8)) (wsv:Value) (ws:List (List UInt8)) (dsv dv:Value) (d:List bJ) (A:AH) (hn:l.length<=100000000) (hll:∀ x ∈ l,x.length<=100000000) (hwn:ws.length<=100000000) (hwl:∀ x ∈ ws,x.length<=100000000) (hdn:d.length<=100000000) (hcl:∀ c ∈ d,c.conj.length<=9223372036854775807) (hu:bI A 1 u (ei l)) (hws:bI A 1 wsv (ei ws)) (hds:bI A 1 dsv (Kz [dv])) (hv:bI A 3 dv (cy d)):bE Tryz.prog 62 #[.agg #[num (g),u],wsv,dsv] A (fun v A1=>v=num ((wG g l ws [d]:Nat):Int)/\A.le A1/\A1.wf):=by
 refine wR Tryz.call62 Tryz.func62 Z Tryz.results62 Tryz.ntmps62 Z (fun wf=>?_);have b8:=AH.le.refl A;have bp:([dv]:List Value).length=1:=rfl;refine am.seq fun _ h2=>.region<|.l Z (fun _ _ b5 _=>d8 wf rfl rfl fun A5 b4 a5=>?_);have a8:=b8.trans a5.le;refine b5 _ _<|.q Z (ah Z)<|.nil<|h2 _ _<|.seq fun _ h9=>.seq fun _ ay=>.region<|.q Z (aq o7 ie Z Z a5.get Z)<|.l Z (fun _ _ ab _=>au Z (Cj ((g)) u l A5 hn hll (hu.le a8)) ?_);rintro bU A14 ⟨rfl,a1,a3⟩;have a7:=a1.get _ _ a5.get;have D:=a8.trans a1;refine ab _ _<|.q Z (kI Z)<|.nil<|ay _ _<|.if rfl (fun b9=>?_) (fun b9=>?_)
 ·refine am.seq fun _ az=>.region<|.q Z (ah Z)<|.nil<|az _ _<|.rt (by exact aH Z (⟨by (rw [Ln ‹_›];rfl),D,a3⟩))
 refine am.skip<|h9 _ _<|.seq fun _ aA=>.seq fun _ aB=>.region<|.q Z (ae Z)<|.q Z (bF (n:=ws.length) mJ Z (hws.le D) O (eu _))<|.q Z (ae Z)<|.nil<|aB _ _ ?_;refine am.block<|.loop (X:=Nat) (fun i=>[(2,dsv),(3,.pointer (some ⟨b4,0,none⟩)),(14,wsv),(15,num ((ws.length:Nat):Int)),(16,num ((i:Nat):Int))]) (fun i B=>(i<=ws.length/\∀ j,j < i->bH g (ws.getD j [])=0)/\A14=B) (fun i=>ws.length - i) 0 (qk Z Z Z Z Z) (⟨⟨Nat.zero_le _,fun j h=>by omega⟩,Z⟩) ?_;rintro i B26 ⟨⟨hi,hw⟩,rfl⟩;have hg:=(c0 (Decidable.not_not.1 ‹¬ ¬ df g l=0›)).1;have hwk:i < ws.length->(ws.getD i []).length<=100000000:=fun q=>hwl _ (bi q);refine am.seq fun _ aC=>.region<|.q Z (bX Z Z)<|.nil<|aC _ _<|.seq fun _ aD=>.if rfl (fun ba=>?_) (fun ba=>?_)
 ·refine am.skip<|aD _ _<|.seq fun _ aF=>.block<|.seq fun _ aG=>.region ?_;obtain ⟨bB,bD,bv,bS,br,bP,bM,ai,b6,ar,bl,a9⟩:=bI.at (i:=i) (hws.le D) Oj O;refine Ops.q Z (aE mJ fp Z ai Z b6)<|.q Z (ak fW Z Z ar ((cM a9).trans (fb O)))<|.q Z (ah Z)<|.nil<|aG _ _<|.seq fun _ aI=>.region<|.q Z (ae Z)<|.q Z (aj fY cW U Z)<|.q Z (ak eR Z Z a7 Z) ?_;refine Ops.l Z (fun _ _ ac _=>au Z (oc (ws.getD i []) ((g)) A14 (by have:=hwk O;omega) hg) ?_);rintro bV A41 ⟨rfl,rfl⟩;refine ac _ _<|.q Z (kI Z)<|.nil<|aI _ _<|.if rfl (fun bb=>?_) (fun bb=>?_)
  ·refine am.seq fun _ aP=>.region<|.q Z (ah Z)<|.nil<|aP _ _<|.rt (by exact aH Z (⟨by (rw [Lq (i:=i) ‹¬ ¬ df g l=0› O ‹_›];rfl),D,a3⟩))
  refine am.skip<|aF _ _<|.region<|.q Z (bq (b:=1) Z Z O)<|.q Z (ae Z)<|.nil ?_;exact ⟨i + 1,qk Z Z Z Z Z,Z,⟨⟨by omega,fun j h=>(Nat.lt_succ_iff_lt_or_eq.1 h).elim (hw j) (fun z=>by subst z;exact Decidable.not_not.1 ‹_›)⟩,Z⟩,O1⟩
 refine am.exit<|aA _ _<|.seq fun _ aR=>.seq fun _ aS=>.region<|.q Z (ae Z)<|.q Z (bF (n:=([dv]).length) Vb Z (hds.le D) O (CM _))<|.q Z (ae Z)<|.nil<|aS _ _ ?_;refine am.block<|.loop (X:=Nat) (fun k=>[(3,.pointer (some ⟨b4,0,none⟩)),(26,dsv),(27,num ((([dv]).length:Nat):Int)),(28,num ((k:Nat):Int))]) (fun k B=>(k<=1/\(0 < k->fx g l d=true))/\A.le B/\B.get b4=some (.row true [num (g),u] 2)) (fun k=>1 - k) 0 (mA Z Z Z Z) (⟨⟨Nat.zero_le _,fun h=>by omega⟩,D,a7⟩) ?_;rintro k B51 ⟨⟨hk,hd⟩,V,a0⟩;refine am.wf fun ag=>.seq fun _ aT=>.region<|.q Z (bX Z Z)<|.nil<|aT _ _<|.seq fun _ aV=>.if rfl (fun bc=>?_) (fun bc=>?_)
 ·refine am.skip<|aV _ _<|.seq fun _ aY=>.block<|.seq fun _ aZ=>.region ?_;obtain ⟨bC,bL,bA,bT,bu,bR,bO,ap,b7,av,bm,aa⟩:=bI.at (i:=k) (hds.le V) (by simp only [uf];omega) O;refine Ops.q Z (aE Vb pY Z ap Z b7)<|.q Z (ak sK Z Z av (((cM aa).trans (CJ O)).trans (congrArg some (GT (by have:([dv]:List Value).length=1:=rfl;omega)))))<|.q Z (ah Z)<|.nil<|aZ _ _<|.seq fun _ b0=>.region<|.q Z (aq o7 ie Z Z a0 Z)<|.q Z (ae Z)<|.l Z (fun _ _ ad _=>au Z (OD ((g)) u l dv d B51 hg hn hdn hcl (hu.le V) (hv.le V)) ?_);rintro bY A67 ⟨rfl,a2,a6⟩;have b1:=a2.get _ _ a0;have a4:=V.trans a2;refine ad _ _<|.q Z (er Z)<|.nil<|b0 _ _<|.ifB Z (fun bd=>?_) (fun bd=>?_)
  ·refine am.seq fun _ b2=>.region<|.q Z (ah Z)<|.nil<|b2 _ _<|.rt (by exact aH Z (⟨by (rw [Lr (i:=i) ‹¬ ¬ df g l=0› O hw (by simpa using ‹(!fx g l d)=true›)];rfl),a4,a6⟩))
  refine am.skip<|aY _ _<|.region<|.q Z (bq (b:=1) Z Z O)<|.q Z (ae Z)<|.nil ?_;exact ⟨k + 1,mA Z Z Z Z,Z,⟨⟨by omega,fun _=>by simpa using ‹(!fx g l d)=false›⟩,a4,b1⟩,O1⟩
 refine am.exit<|aR _ _<|.seq fun _ b3=>.region<|.q Z (ah Z)<|.nil<|b3 _ _<|.rt (by exact aH Z (⟨by (rw [Tn (i:=i) ‹¬ ¬ df g l=0› O hw (hd O)];rfl),V,ag⟩))

theorem OG (g:Int) (u:Value) (l:List (List UInt8)) (dv:Value) (d:List bJ) (w:List UInt8) (A:AH) (hn:l.length<=100000000) (hll:∀ x ∈ l,x.length<=100000000) (hw:w.length<=100000000) (hdn:d.length<=100000000) (hcn:dn d<=100000000) (hu:bI A 1 u (ei l)) (hv:bI A 3 dv (cy d)):bE Tryz.prog 23 #[.agg #[num (g),u],dv,bf (w)] A (fun v A1=>v=num ((i9 g l d w:Nat):Int)/\A.le A1/\A1.wf):=by
 refine wR Tryz.call23 Tryz.func23 Z Tryz.results23 Tryz.ntmps23 Z (fun wf=>?_);have aV:=AH.le.refl A;refine am.seq fun _ h2=>.region<|.l Z (fun _ _ aS _=>d8 wf rfl rfl fun A5 b4 a1=>?_);have aT:=aV.trans a1.le;refine aS _ _<|.q Z (ah Z)<|.nil<|h2 _ _<|.seq fun _ h9=>.seq fun _ ay=>.region<|.q Z (aq o7 ie Z Z a1.get Z)<|.q Z (ae Z)<|.l Z (fun _ _ ab _=>aO (c:=[bf (w)]) a1.wf rfl (ax mJ fp z9 rfl U U rfl) fun A14 ar D=>?_);have az:=D.le.get _ _ a1.get;have a5:=aT.trans D.le;refine ab _ _<|.q Z (ae Z) ?_;obtain ⟨a7,a4,a3,b0,_⟩:=(hv.le a5);subst b0;refine Ops.l Z (fun _ _ ac _=>aO (c:=[.slice a7 a4 a3]) D.wf rfl (ax Vb pY Xl rfl U U rfl) fun A20 av V=>?_);have aA:=V.le.get _ _ az;have aB:=V.le.get _ _ D.get;have X:=a5.trans V.le;refine ac _ _<|.l Z (fun _ _ ad _=>au Z (EK ((g)) u l (.slice (some ⟨ar,0,none⟩) 1 1) ([w]) (.slice (some ⟨av,0,none⟩) 1 1) (.slice a7 a4 a3) d A20 hn hll (by simp) (by simpa using hw) hdn (Ud hcn) (hu.le X) (eo (n:=1) aB Z (Nat.le_refl _)) (eo (n:=1) V.get Z (Nat.le_refl _)) (hv.le X)) ?_);rintro b2 A28 ⟨rfl,a0,aa⟩;have aC:=a0.get _ _ aA;have h:=X.trans a0;refine ad _ _<|.q Z (ah Z)<|.nil<|ay _ _<|.seq fun _ aD=>.region<|.q Z (ae Z)<|.q Z (fg (b:=0) Z Z)<|.nil<|aD _ _ ?_;refine am.if rfl (fun aY=>?_) (fun aY=>?_)
 ·refine am.seq fun _ aF=>.region<|.q Z (ae Z)<|.q Z (ah Z)<|.nil<|aF _ _<|.rt (by exact aH Z (⟨by (rw [i9,if_pos ‹_›];rfl),h,aa⟩))
 refine am.skip<|h9 _ _<|.seq fun _ aG=>.seq fun _ aI=>.region<|.q Z (aq o7 ie Z Z aC Z)<|.q Z (ae Z)<|.l Z (fun _ _ ag _=>au Z (Om ((g)) u l (.slice a7 a4 a3) d A28 (ju ‹¬ ¬ wG g l [w] [d]=0›).1 (ju ‹¬ ¬ wG g l [w] [d]=0›).2.2 (hu.le h) (hv.le h)) ?_);rintro b3 A45 ⟨rfl,a8,b1⟩;have ap:=h.trans a8;refine ag _ _<|.q Z (ae Z)<|.l Z (fun _ _ ai _=>au Z (xZ w A45 (ly (fun q=>q ((ju ‹¬ ¬ wG g l [w] [d]=0›).2.1 w (by simp)))) (by have:=gK ((ju ‹¬ ¬ wG g l [w] [d]=0›).2.1 w (by simp));omega)) ?_);rintro b5 A53 ⟨rfl,a9,a2⟩;have a6:=ap.trans a9;refine ai _ _<|.q Z (qX Z Z)<|.nil<|aI _ _<|.if rfl (fun aZ=>?_) (fun aZ=>?_)
 ·refine am.seq fun _ aP=>.region<|.q Z (ah Z)<|.nil<|aP _ _<|.rt (by exact aH Z (⟨by (rw [i9,if_neg ‹_›,if_pos ‹_›];rfl),a6,a2⟩))
 refine am.skip<|aG _ _<|.seq fun _ aR=>.region<|.q Z (ah Z)<|.nil<|aR _ _<|.rt (by exact aH Z (⟨by (rw [i9,if_neg ‹_›,if_neg ‹_›];rfl),a6,a2⟩))
end Go.Proofs.YtjppkekmddjcfaaGreatDoor

namespace Go.Proofs.YtjppkekmddjcfaaGreatDoor
open Go Go.RowKit V
set_option maxRecDepth 100000


theorem Cr (c:UInt8) (A:AH):bE Tryz.prog 194 #[ek (c)] A (fun v A1=>v=ek (c ^^^ 32)/\A=A1):=by
 refine gR Tryz.call194 Tryz.func194 Z Tryz.results194 Tryz.ntmps194 Z (fun wf=>?_);have h:=AH.le.refl A;refine am.seq fun _ h2=>.region<|.q Z (ah Z)<|.nil<|h2 _ _<|.seq fun _ h4=>.region<|.q Z (ae Z)<|.q Z (NH (d:=32) Z Z)<|.q Z (ah Z) ?_;refine Ops.nil<|h4 _ _<|.rt (by exact aH Z (⟨Z,Z⟩))

theorem Co (a c:UInt8) (A:AH):bE Tryz.prog 174 #[ek (a),ek (c)] A (fun v A1=>v=.bool (decide (a=c ^^^ 32))/\A=A1):=by
 refine lQ Tryz.call174 Tryz.func174 Z Tryz.results174 Tryz.ntmps174 Z (fun wf=>?_);have D:=AH.le.refl A;refine am.seq fun _ h2=>.region<|.q Z (ah Z)<|.nil<|h2 _ _<|.seq fun _ h4=>.region<|.q Z (ae Z)<|.q Z (ae Z)<|.l Z (fun _ _ h _=>au Z (Cr c A) ?_);rintro v6 A7 ⟨rfl,rfl⟩;refine h _ _<|.q Z (vL Z Z)<|.q Z (ah Z)<|.nil<|h4 _ _<|.rt (by exact aH Z (⟨Z,Z⟩))

theorem wi (w:List UInt8) (A:AH) (hw:w.length<=1000000):bE Tryz.prog 172 #[bf (w)] A (fun v A1=>v=bf (inv w)/\A.le A1/\A1.wf):=by
 refine gR Tryz.call172 Tryz.func172 Z Tryz.results172 Tryz.ntmps172 Z (fun wf=>?_);have a0:=AH.le.refl A;refine am.seq fun _ h2=>.region<|.q Z (ah Z)<|.nil<|h2 _ _<|.seq fun _ h4=>.region<|.q Z (ae Z)<|.q Z (cD u9 Z)<|.l Z (fun _ _ av _=>mH (n:=w.length) (k:=w.length) wf a0 rfl rfl cT kz z5 un rfl (Nat.le_refl _) (by show 1 * _<=_;omega) O fun A7 b6 a1 aa=>?_);have a4:=a1.get;rw [ot] at a4 aa;have a3:=aQ wf (Nat.le_trans a0.n a1.lo);have a8:=a0.trans a1.le;refine av _ _<|.q Z (ah Z)<|.nil<|h4 _ _<|.seq fun _ ab=>.seq fun _ ac=>.region<|.q Z (ae Z)<|.q Z (cD u9 Z)<|.q Z (ae Z) ?_;refine Ops.nil<|ac _ _<|.block<|.loop (X:=Nat) (fun k=>[(0,bf (w)),(3,.slice (some ⟨b6,0,none⟩) w.length w.length),(9,num ((w.length:Nat):Int)),(10,num ((k:Nat):Int))]) (fun k B=>(k<=w.length)/\A.le B/\B.get b6=some (.row true (ao (jU w k)) w.length)) (fun k=>w.length - k) 0 (mA Z Z Z Z) (⟨Nat.zero_le _,a8,(vT a4 (congrArg ao ((by exact ua w))))⟩) ?_;rintro k B17 ⟨hk,V,h⟩;refine am.wf fun a2=>?_;have hrl:=qY w hk;refine am.seq fun _ ad=>.region<|.q Z (bX Z Z)<|.nil<|ad _ _<|.seq fun _ ag=>.if rfl (fun ay=>?_) (fun ay=>?_)
 ·refine am.skip<|ag _ _<|.seq fun _ ai=>.block<|.seq fun _ ap=>.region<|.q Z (ae Z)<|.q Z (ah Z)<|.nil<|ap _ _ ?_;refine am.region<|.q Z (ae Z)<|.q Z (ae Z)<|.q Z (cD u9 Z)<|.q Z (ik (b:=1) Z Z O)<|.q Z (ae Z)<|.q Z (ik Z Z O)<|.q Z (ae Z)<|.q Z (ae Z)<|.q Z (lD u9 Z Z O) ?_;refine Ops.l Z (fun _ _ a5 _=>au Z (Cr (w.getD k 0) B17) ?_);rintro az A30 ⟨rfl,rfl⟩;refine a5 _ _<|.q Z (aE cT kz Z Z Z O)<|.l Z (fun _ _ a6 _=>aX (off:=((w.length - 1) - k)) a2 rfl (by simp) rfl rfl kz h OB rfl (qh _ _ _) fun A33 D=>?_);have a9:=an V wf a3 D.n D.keep;refine a6 _ _<|.nil<|ai _ _<|.region<|.q Z (bq (b:=1) Z Z O)<|.q Z (ae Z)<|.nil ?_;exact ⟨k + 1,mA Z Z Z Z,Z,⟨O,a9,(vT D.get (congrArg ao ((by exact vQ w O))))⟩,O1⟩
 refine am.exit<|ab _ _<|.seq fun _ ar=>.region<|.q Z (ae Z)<|.l Z (fun _ _ a7 _=>eB (s:=jU w k) Z cT u9 u5 (eo (n:=w.length) h Ox (Nat.le_refl _)) ?_);refine a7 _ _<|.q Z (ah Z)<|.nil<|ar _ _<|.rt (by exact aH Z (⟨by rw [vP w O];rfl,V,a2⟩))

theorem OM (c:UInt8) (A:AH):bE Tryz.prog 193 #[ek (c)] A (fun v A1=>v=num (ix c)/\A=A1):=by
 refine gR Tryz.call193 Tryz.func193 Z Tryz.results193 Tryz.ntmps193 Z (fun wf=>?_);have ac:=AH.le.refl A;have aa:=(c - 97).toNat_lt;have ab:=(c - 65).toNat_lt;refine am.seq fun _ h2=>.region<|.q Z (ah Z)<|.nil<|h2 _ _<|.seq fun _ h4=>.block<|.seq fun _ h6=>.region<|.q Z (ae Z) ?_;refine Ops.q Z (qS (d:=97) Z Z)<|.q Z (ae Z)<|.part (t:=6) Z (fun p7=>?_) (fun p7=>?_)
 ·refine Ops.on Z Z<|.q Z (ae Z)<|.on Z Z<|.q Z (xJ (d:=105) Z Z)<|.q Z (aJ Z Z)<|.q Z (ah Z)<|.nil<|h6 _ _<|.if rfl (fun p8=>?_) (fun p8=>?_)
  ·refine am.seq fun _ X=>.region<|.q Z (ae Z)<|.q Z (md (d:=97) Z Z)<|.q Z (kF u5 u3 Z)<|.q Z (pz (a:=2) Z Z O)<|.q Z (ah Z)<|.nil<|X _ _<|.rt (by exact aH Z (⟨by (rw [<- I9 c ‹_› ‹_›];rfl),Z⟩))
  refine am.seq fun _ D=>.region<|.q Z (ae Z)<|.q Z (qS (d:=65) Z Z)<|.q Z (ae Z)<|.part (t:=17) Z (fun a6=>?_) (fun a6=>?_)
  ·refine Ops.on Z Z<|.q Z (ae Z)<|.on Z Z<|.q Z (xJ (d:=73) Z Z)<|.q Z (aJ Z Z)<|.q Z (ah Z)<|.nil<|D _ _<|.if rfl (fun a7=>?_) (fun a7=>?_)
   ·refine am.seq fun _ a0=>.region<|.q Z (ae Z)<|.q Z (md (d:=65) Z Z)<|.q Z (kF u5 u3 Z)<|.q Z (pz (a:=2) Z Z O)<|.q Z (bq (b:=1) Z Z O)<|.q Z (ah Z)<|.nil<|a0 _ _ ?_;refine am.ret ?_;repeat first | with_reducible refine bz ?_ | with_reducible refine bn ?_
    exact aH Z (⟨by (rw [<- Gk c ‹_› ‹_›];rfl),Z⟩)
   refine am.skip<|h4 _ _<|.seq fun _ a1=>.region<|.q Z (ah Z)<|.nil<|a1 _ _<|.rt (by exact aH Z (⟨by (rw [yB c (fun h=>by first | exact ‹¬ (97:UInt8)<=c› h.1 | exact ‹¬ c < (105:UInt8)› h.2) (fun h=>by first | exact ‹¬ (65:UInt8)<=c› h.1 | exact ‹¬ c < (73:UInt8)› h.2)];rfl),Z⟩))
  refine Ops.off Z Z Z Z<|.off Z Z Z Z<|.q Z (aU Z Z)<|.q Z (ah Z)<|.nil<|D _ _<|.cond_false Z<|.skip<|h4 _ _<|.seq fun _ a2=>?_;refine am.region<|.q Z (ah Z)<|.nil<|a2 _ _<|.rt (by exact aH Z (⟨by (rw [yB c (fun h=>by first | exact ‹¬ (97:UInt8)<=c› h.1 | exact ‹¬ c < (105:UInt8)› h.2) (fun h=>by first | exact ‹¬ (65:UInt8)<=c› h.1 | exact ‹¬ c < (73:UInt8)› h.2)];rfl),Z⟩))
 refine Ops.off Z Z Z Z<|.off Z Z Z Z<|.q Z (aU Z Z)<|.q Z (ah Z)<|.nil<|h6 _ _<|.cond_false Z<|.seq fun _ V=>.region<|.q Z (ae Z) ?_;refine Ops.q Z (qS (d:=65) Z Z)<|.q Z (ae Z)<|.part (t:=17) Z (fun a8=>?_) (fun a8=>?_)
 ·refine Ops.on Z Z<|.q Z (ae Z)<|.on Z Z<|.q Z (xJ (d:=73) Z Z)<|.q Z (aJ Z Z)<|.q Z (ah Z)<|.nil<|V _ _<|.if rfl (fun a9=>?_) (fun a9=>?_)
  ·refine am.seq fun _ a3=>.region<|.q Z (ae Z)<|.q Z (md (d:=65) Z Z)<|.q Z (kF u5 u3 Z)<|.q Z (pz (a:=2) Z Z O)<|.q Z (bq (b:=1) Z Z O)<|.q Z (ah Z)<|.nil<|a3 _ _ ?_;refine am.ret ?_;repeat first | with_reducible refine bz ?_ | with_reducible refine bn ?_
   exact aH Z (⟨by (rw [<- Gk c ‹_› ‹_›];rfl),Z⟩)
  refine am.skip<|h4 _ _<|.seq fun _ a4=>.region<|.q Z (ah Z)<|.nil<|a4 _ _<|.rt (by exact aH Z (⟨by (rw [yB c (fun h=>by first | exact ‹¬ (97:UInt8)<=c› h.1 | exact ‹¬ c < (105:UInt8)› h.2) (fun h=>by first | exact ‹¬ (65:UInt8)<=c› h.1 | exact ‹¬ c < (73:UInt8)› h.2)];rfl),Z⟩))
 refine Ops.off Z Z Z Z<|.off Z Z Z Z<|.q Z (aU Z Z)<|.q Z (ah Z)<|.nil<|V _ _<|.cond_false Z<|.skip<|h4 _ _<|.seq fun _ a5=>?_;refine am.region<|.q Z (ah Z)<|.nil<|a5 _ _<|.rt (by exact aH Z (⟨by (rw [yB c (fun h=>by first | exact ‹¬ (97:UInt8)<=c› h.1 | exact ‹¬ c < (105:UInt8)› h.2) (fun h=>by first | exact ‹¬ (65:UInt8)<=c› h.1 | exact ‹¬ c < (73:UInt8)› h.2)];rfl),Z⟩))

theorem UO (g:Int) (u:Value) (l:List (List UInt8)) (rel:Int) (iv:Bool) (A:AH) (hr:0<=rel/\rel < (l.length:Int)) (hok:(l.getD rel.toNat []).length<=200) (hu:bI A 1 u (ei l)):bE Tryz.prog 171 #[.agg #[num (g),u],num (rel),.bool (iv)] A (fun v A1=>v=bf (if iv then inv (l.getD rel.toNat []) else l.getD rel.toNat [])/\A.le A1/\A1.wf):=by
 refine wR Tryz.call171 Tryz.func171 Z Tryz.results171 Tryz.ntmps171 Z (fun wf=>?_);have ag:=AH.le.refl A;obtain ⟨r,rfl⟩:∃ r:Nat,rel=r:=⟨rel.toNat,by omega⟩;rw [Int.toNat_natCast] at hok;refine am.seq fun _ h2=>.region<|.l Z (fun _ _ ab _=>d8 wf rfl rfl fun A5 b4 D=>?_);have h:=ag.trans D.le;refine ab _ _<|.q Z (ah Z)<|.nil<|h2 _ _<|.seq fun _ h9=>.seq fun _ a8=>.region<|.q Z (ae Z)<|.nil<|a8 _ _ ?_;refine am.ifB Z (fun ai=>?_) (fun ai=>?_)
 ·refine am.seq fun _ a9=>.region<|.q Z (aj ic oU U Z)<|.q Z (ak oL Z Z D.get Z)<|.q Z (ae Z) ?_;obtain ⟨aB,aD,az,aS,av,aP,aG,a4,ac,a6,ap,a0⟩:=bI.at (i:=r) (hu.le h) Oj O;refine Ops.q Z (aE mJ fp Z a4 Z ac)<|.q Z (ak fW Z Z a6 ((cM a0).trans (fb O)))<|.l Z (fun _ _ a2 _=>au Z (wi (l.getD r []) A5 O) ?_);rintro aV A18 ⟨rfl,V,X⟩;have a3:=h.trans V;refine a2 _ _<|.q Z (ah Z)<|.nil<|a9 _ _<|.rt (by exact aH Z (⟨by (rw [show iv=true from ‹_›];rfl),a3,X⟩))
 refine am.skip<|h9 _ _<|.seq fun _ aa=>.region<|.q Z (aj ic oU U Z)<|.q Z (ak oL Z Z D.get Z)<|.q Z (ae Z) ?_;obtain ⟨aC,aF,aA,aT,ay,aR,aI,a5,ad,a7,ar,a1⟩:=bI.at (i:=r) (hu.le h) Oj O;refine Ops.q Z (aE mJ fp Z a5 Z ad)<|.q Z (ak fW Z Z a7 ((cM a1).trans (fb O)))<|.q Z (ah Z)<|.nil<|aa _ _<|.rt (by exact aH Z (⟨by (rw [show iv=false from ‹_›];rfl),h,D.wf⟩))

theorem tC (g:Int) (u:Value) (l:List (List UInt8)) (w:List UInt8) (A:AH) (hg:1<=g/\g<=8) (hu:bI A 1 u (ei l)):bE Tryz.prog 169 #[.agg #[num (g),u],bf (w)] A (fun v A1=>v=.bool (decide (bH g w=0))/\A.le A1/\A1.wf):=by
 refine lQ Tryz.call169 Tryz.func169 Z Tryz.results169 Tryz.ntmps169 Z (fun wf=>?_);have aF:=AH.le.refl A;refine am.seq fun _ h2=>.region<|.l Z (fun _ _ aD _=>d8 wf rfl rfl fun A5 b4 a3=>?_);have a7:=aF.trans a3.le;refine aD _ _<|.q Z (ah Z)<|.nil<|h2 _ _<|.seq fun _ h9=>.seq fun _ ab=>.region<|.q Z (ae Z)<|.q Z (cD u9 Z)<|.q Z (ee (b:=100000) Z Z) ?_;refine Ops.nil<|ab _ _<|.if rfl (fun aG=>?_) (fun aG=>?_)
 ·refine am.seq fun _ ac=>.region<|.q Z (ah Z)<|.nil<|ac _ _<|.rt (by exact aH Z (⟨by (rw [QO hg O];rfl),a7,a3.wf⟩))
 refine am.skip<|h9 _ _<|.seq fun _ ad=>.seq fun _ ag=>.region<|.q Z (ae Z)<|.l Z (fun _ _ a8 _=>wD (s:=w) a3.wf rfl u9 cT u5 O fun A21 a5 a4 a1 aS=>?_);have ai:=a1.le.get _ _ a3.get;have aa:=a7.trans a1.le;refine a8 _ _<|.q Z (qlen cT Z)<|.q Z (ae Z)<|.nil<|ag _ _<|.block<|.loop (X:=Nat) (fun i=>[(2,.pointer (some ⟨b4,0,none⟩)),(12,.slice (some ⟨a5,0,none⟩) w.length a4),(13,num ((w.length:Nat):Int)),(14,num ((i:Nat):Int))]) (fun i B=>(i<=w.length/\∀ j,j < i->gv g (w.getD j 0)=true)/\A.le B/\B.get b4=some (.row true [num (g),u] 2)/\B.get a5=some (.row true (ao w) a4)) (fun i=>w.length - i) 0 (mA Z Z Z Z) (⟨⟨Nat.zero_le _,fun j h=>by omega⟩,aa,ai,a1.get⟩) ?_;rintro i B28 ⟨⟨hi,hn⟩,a0,V,D⟩;refine am.wf fun a2=>.seq fun _ ap=>.region<|.q Z (bX Z Z)<|.nil<|ap _ _<|.seq fun _ ar=>.if rfl (fun aI=>?_) (fun aI=>?_)
 ·refine am.skip<|ar _ _<|.seq fun _ av=>.block<|.seq fun _ ay=>.region<|.q Z (aE cT kz Z Z Z O)<|.q Z (ak Ld Z Z D (by rw [show 0 + i * 1=i by omega];exact fH O))<|.q Z (ah Z)<|.nil ?_;refine ay _ _<|.seq fun _ az=>.region<|.q Z (ae Z)<|.l Z (fun _ _ a9 _=>au Z (OM (w.getD i 0) B28) ?_);rintro aT A43 ⟨rfl,rfl⟩;refine a9 _ _<|.q Z (ah Z)<|.nil<|az _ _<|.seq fun _ a6=>.region<|.q Z (ae Z)<|.q Z (kG Z Z)<|.q Z (ae Z)<|.part (t:=22) Z (fun aP=>?_) (fun aP=>?_)
  ·refine Ops.off Z Z Z Z<|.off Z Z Z Z<|.off Z Z Z Z<|.off Z Z Z Z<|.off Z Z Z Z<|.q Z (aJ Z Z)<|.nil<|a6 _ _<|.cond_true Z<|.seq fun _ aA=>?_;refine am.region<|.q Z (ah Z)<|.nil<|aA _ _<|.rt (by exact aH Z (⟨by (rw [LI hg O ‹_›];rfl),a0,a2⟩))
  refine Ops.on Z Z<|.q Z (ae Z)<|.on Z Z<|.q Z (aj fY cW U Z)<|.on Z Z<|.q Z (ak eR Z Z V Z)<|.on Z Z<|.q Z (RY Z Z O)<|.on Z Z<|.q Z (lz Z Z) ?_;refine Ops.q Z (aU Z Z)<|.nil<|a6 _ _<|.if rfl (fun aR=>?_) (fun aR=>?_)
  ·refine am.seq fun _ aB=>.region<|.q Z (ah Z)<|.nil<|aB _ _<|.rt (by exact aH Z (⟨by (rw [LJ hg O ‹_›];rfl),a0,a2⟩))
  refine am.skip<|av _ _<|.region<|.q Z (bq (b:=1) Z Z O)<|.q Z (ae Z)<|.nil ?_;exact ⟨i + 1,mA Z Z Z Z,Z,⟨⟨by omega,fun j h=>(Nat.lt_succ_iff_lt_or_eq.1 h).elim (hn j) (fun z=>by subst z;exact Uo ‹_› ‹_›)⟩,a0,V,D⟩,O1⟩
 refine am.exit<|ad _ _<|.seq fun _ aC=>.region<|.q Z (ah Z)<|.nil<|aC _ _<|.rt (by exact aH Z (⟨by (rw [LL hg O O hn];rfl),a0,a2⟩))
end Go.Proofs.YtjppkekmddjcfaaGreatDoor

namespace Go.Proofs.YtjppkekmddjcfaaGreatDoor
open Go Go.RowKit V
set_option maxRecDepth 100000


end Go.Proofs.YtjppkekmddjcfaaGreatDoor

namespace Go.Proofs.YtjppkekmddjcfaaGreatDoor
open Go Go.RowKit V
set_option maxRecDepth 100000
theorem jH:dr Tryz.prog 25=some false:=by kernel_rfl
theorem fc:dr Tryz.prog 27=some true:=by kernel_rfl
theorem gi:d5 Tryz.prog 27 0=some (24,0):=by kernel_rfl
theorem eb:d5 Tryz.prog 27 1=some (25,2):=by kernel_rfl
theorem eU:d5 Tryz.prog 83 0=some (9,0):=by kernel_rfl
theorem jm:c9 Tryz.prog 25=some 1:=by kernel_rfl
theorem eF:c9 Tryz.prog 27=some 3:=by kernel_rfl
theorem im:c9 Tryz.prog 83=some 3:=by kernel_rfl
theorem p3:type_of% @Tryz.underlying25:=@Tryz.underlying25

theorem ya (g:Int) (u:Value) (l:List (List UInt8)) (rv:Value) (rs:List be) (w:List UInt8) (A:AH) (hw:w.length<=1000000) (hu:bI A 1 u (ei l)) (hr:bI A 3 rv (db rs)):bE Tryz.prog 46 #[.agg #[num (g),u,rv],bf (w)] A (fun v A1=>v=.bool (jl g w)/\A.le A1/\A1.wf):=by
 refine lQ Tryz.call46 Tryz.func46 Z Tryz.results46 Tryz.ntmps46 Z (fun wf=>?_);have a4:=AH.le.refl A;refine am.seq fun _ h2=>.region<|.l Z (fun _ _ a3 _=>d8 wf rfl rfl fun A5 b4 h=>?_);have D:=a4.trans h.le;refine a3 _ _<|.q Z (ah Z)<|.nil<|h2 _ _<|.seq fun _ h9=>.region<|.q Z (ae Z)<|.q Z (cD u9 Z)<|.q Z (qW (b:=1000) Z Z)<|.q Z (ae Z) ?_;refine Ops.part (t:=8) Z (fun a5=>?_) (fun a5=>?_)
 ·refine Ops.on Z Z<|.q Z (aj gi ie U Z)<|.on Z Z<|.q Z (aj fY cW U Z)<|.on Z Z<|.q Z (ak eR Z Z h.get Z)<|.on Z Z<|.q Z (ae Z)<|.on Z Z<|.l Z (fun _ _ a0 _=>au Z (Cn (g) w A5) ?_);rintro a7 A13 ⟨rfl,rfl⟩;refine a0 _ _<|.on Z Z<|.q Z (iY (b:=0) Z Z)<|.q Z (aJ Z Z)<|.q Z (ae Z)<|.part (t:=16) Z (fun a6=>?_) (fun a6=>?_)
  ·refine Ops.on Z Z<|.q Z (ae Z)<|.on Z Z<|.l Z (fun _ _ a1 _=>au Z (JY w A5 O) ?_);rintro a8 A18 ⟨rfl,V,X⟩;have a2:=D.trans V;refine a1 _ _<|.on Z Z<|.q Z (ae Z)<|.on Z Z<|.q Z (m8 Z Z)<|.q Z (aJ Z Z)<|.q Z (ah Z)<|.nil<|h9 _ _<|.rt (by exact aH Z (⟨by simp_all [dT,jl],a2,X⟩))
  refine Ops.off Z Z Z Z<|.off Z Z Z Z<|.off Z Z Z Z<|.off Z Z Z Z<|.q Z (aU Z Z)<|.q Z (ah Z)<|.nil<|h9 _ _<|.rt (by exact aH Z (⟨by (rw [show jl g w=false from by simp only [jl,decide_eq_false_iff_not];rintro ⟨q1,q2,q3⟩;first | omega | exact absurd q3 ‹_› | exact absurd q2 ‹_›];rfl),D,h.wf⟩))
 refine Ops.off Z Z Z Z<|.off Z Z Z Z<|.off Z Z Z Z<|.off Z Z Z Z<|.off Z Z Z Z<|.off Z Z Z Z<|.q Z (aU Z Z)<|.q Z (ae Z)<|.off Z Z Z Z<|.off Z Z Z Z ?_;refine Ops.off Z Z Z Z<|.off Z Z Z Z<|.q Z (aU Z Z)<|.q Z (ah Z)<|.nil<|h9 _ _<|.rt (by exact aH Z (⟨by (rw [show jl g w=false from by simp only [jl,decide_eq_false_iff_not];rintro ⟨q1,q2,q3⟩;first | omega | exact absurd q3 ‹_› | exact absurd q2 ‹_›];rfl),D,h.wf⟩))
end Go.Proofs.YtjppkekmddjcfaaGreatDoor
