import Derived.Test.YtjppkekmddjcfaaGreatDoorMC5
set_option linter.unusedSectionVars false
set_option linter.unusedVariables false
set_option linter.unusedSimpArgs false
namespace Go.Proofs.YtjppkekmddjcfaaGreatDoor
open Go Go.RowKit V
def uq (W:List (List Nat)):List Nat->List Nat
  | []=>[]
  | a :: t=>if a :: t ∈ W then a :: t else uq W t
def RC (W:List (List Nat)):Prop:=[] ∈ W/\∀ u x,u ++ [x] ∈ W->u ∈ W
section
variable {W S:List (List Nat)} {u w t:List Nat} {a x:Nat}
theorem zt (h:RC W):uq W w ∈ W:=by
  induction w with
  | nil=>exact h.1
  | cons a t ih=>unfold uq;split <;> assumption
theorem qH:uq W w <:+ w:=by
  induction w with
  | nil=>exact List.suffix_refl _
  | cons a t ih =>
    unfold uq;split
    · exact List.suffix_refl _
    · exact ih.trans (List.suffix_cons _ _)
theorem Vl (h:w ∈ W):uq W w=w:=by
  cases w with
  | nil=>rfl
  | cons a t=>rw [uq,if_pos h]
theorem sW (h:u <:+ a :: t):u=a :: t\/u <:+ t:=by
  rcases List.suffix_cons_iff.1 h with h | h
  · exact .inl h
  · exact .inr h
theorem u6 (hu:u ∈ W) (h:u <:+ w):u <:+ uq W w:=by
  induction w with
  | nil=>exact h
  | cons a t ih =>
    unfold uq;split
    · exact h
    · rename_i q
      rcases sW h with z | z
      · exact absurd (z ▸ hu) q
      · exact ih z
theorem zW {u v:List Nat} (h:u <:+ v) (h':v <:+ u):u=v:=h.eq_of_length (Nat.le_antisymm h.length_le h'.length_le)
theorem Cb (hp:RC W):uq W (w ++ [x])=uq W (uq W w ++ [x]):=by
  refine zW ?_ ?_
  · refine u6 (zt hp) ?_
    have h1:uq W (w ++ [x]) <:+ w ++ [x]:=qH
    have h2:uq W (w ++ [x]) ∈ W:=zt hp
    rcases List.eq_nil_or_concat (uq W (w ++ [x])) with q | ⟨u,y,q⟩
    · rw [q];exact List.nil_suffix
    · rw [List.concat_eq_append] at q
      rw [q] at h1 h2 ⊢
      obtain ⟨r,hr⟩:=h1
      rw [<- List.append_assoc] at hr
      obtain ⟨e1,e2⟩:=List.append_inj' hr Z
      have hu:=u6 (hp.2 u y h2) (⟨r,e1⟩:u <:+ w)
      obtain ⟨r',hr'⟩:=hu
      exact ⟨r',by rw [<- List.append_assoc,hr',e2]⟩
  · refine u6 (zt hp) ((qH).trans ?_)
    obtain ⟨r,hr⟩:=(qH:uq W w <:+ w)
    exact ⟨r,by rw [<- List.append_assoc,hr]⟩
end
theorem TW.prec {k:Nat} {L:List (List Int)} {W:List (List Nat)} (h:TW k L W):RC W:=by
  refine ⟨h.zero ▸ mY h.pos,fun u x hu=>?_⟩
  obtain ⟨m,hm,e⟩:=Ol hu
  rcases Nat.eq_zero_or_pos m with q | q
  · subst q;rw [h.zero] at e;simp at e
  · obtain ⟨n,y,h1,h2,h3⟩:=h.pre m q hm
    rw [h3] at e
    exact (List.append_inj' e Z).1 ▸ mY h1
structure BS where
  L:List (List Int)
  E:List Bool
  F:List Int
  Q:List Int
abbrev kX (b:BS) (n x:Nat):Int:=if n=0 then 0 else ig b.L (b.F.getD n 0).toNat x
def vr (n:Nat) (b:BS) (x:Nat):BS :=
  if ig b.L n x < 0 then { b with L:=b.L.set n ((b.L.getD n []).set x (kX b n x)) }
  else ⟨b.L,b.E.set (ig b.L n x).toNat (b.E.getD (ig b.L n x).toNat false || b.E.getD (kX b n x).toNat false),b.F.set (ig b.L n x).toNat (kX b n x),b.Q ++ [ig b.L n x]⟩
abbrev qn (b:BS) (a:Nat):Nat:=(b.Q.getD a 0).toNat
structure BI (k:Nat) (L0:List (List Int)) (W S:List (List Nat)) (b:BS) (i j:Nat):Prop where
  len:b.L.length=W.length/\b.E.length=W.length/\b.F.length=W.length
  row:∀ s,s < W.length->(b.L.getD s []).length=k
  q0:0 < b.Q.length/\b.Q.getD 0 0=0
  qr:∀ a,a < b.Q.length->0<=b.Q.getD a 0/\b.Q.getD a 0 < W.length
  qd:∀ a c,a < b.Q.length->c < b.Q.length->qn b a=qn b c->a=c
  srt:∀ a c,a<=c->c < b.Q.length->(W.getD (qn b a) []).length<=(W.getD (qn b c) []).length
  same:∀ n x,n < W.length->x < k->(∀ a,a < b.Q.length->qn b a=n->i < a\/a=i/\j<=x)->ig b.L n x=ig L0 n x
  done:∀ a x,a < b.Q.length->x < k->(a < i\/a=i/\x < j)->0<=ig b.L (qn b a) x/\ig b.L (qn b a) x < W.length/\W.getD (ig b.L (qn b a) x).toNat []=uq W (W.getD (qn b a) [] ++ [x])
  ch:∀ a x,a < b.Q.length->x < k->(a < i\/a=i/\x < j)->W.getD (qn b a) [] ++ [x] ∈ W->∃ c,c < b.Q.length/\W.getD (qn b c) []=W.getD (qn b a) [] ++ [x]
  pa:∀ c,0 < c->c < b.Q.length->∃ a x,a < b.Q.length/\x < k/\(a < i\/a=i/\x < j)/\W.getD (qn b c) []=W.getD (qn b a) [] ++ [x]
  fl:∀ c,0 < c->c < b.Q.length->0<=b.F.getD (qn b c) 0/\b.F.getD (qn b c) 0 < W.length/\W.getD (b.F.getD (qn b c) 0).toNat []=uq W ((W.getD (qn b c) []).drop 1)
  eq:∀ c,c < b.Q.length->(b.E.getD (qn b c) false=true ↔ ∃ u ∈ S,u <:+ W.getD (qn b c) [])
  en:∀ m,m < W.length->(∀ c,c < b.Q.length->qn b c ≠ m)->(b.E.getD m false=true ↔ W.getD m [] ∈ S)
section
variable {k i j:Nat} {L0:List (List Int)} {E0:List Bool} {W S:List (List Nat)} {b:BS}
theorem BI.before (h:BI k L0 W S b i j) (t:TW k L0 W) (hi:i < b.Q.length):∀ n p,p < W.length->(W.getD p []).length=n->n < (W.getD (qn b i) []).length->∃ a,a < i/\qn b a=p:=by
  intro n
  induction n with
  | zero =>
    intro p hp hl hn
    have e:p=0:=t.nd p 0 hp t.pos (by rw [t.zero];exact List.length_eq_zero_iff.1 hl)
    subst e
    have q0:qn b 0=0:=by unfold qn;rw [h.q0.2];rfl
    refine ⟨0,?_,q0⟩
    rcases Nat.eq_zero_or_pos i with q | q
    · subst q;rw [q0,t.zero] at hn;simp at hn
    · exact q
  | succ n ih =>
    intro p hp hl hn
    have D:0 < p:=by
      rcases Nat.eq_zero_or_pos p with q | q
      · subst q;rw [t.zero] at hl;simp at hl
      · exact q
    obtain ⟨m,x,h1,h2,h3⟩:=t.pre p D hp
    have hml:(W.getD m []).length=n:=by rw [h3] at hl;simpa using hl
    obtain ⟨a,ha,ea⟩:=ih m h1 hml O
    obtain ⟨c,hc,ec⟩:=h.ch a x O h2 (.inl ha) (by rw [ea,<- h3];exact mY hp)
    have ecp:qn b c=p:=t.nd _ _ (by have:=h.qr c hc;unfold qn;omega) hp (by rw [ec,ea,h3])
    refine ⟨c,?_,ecp⟩
    refine Classical.byContradiction fun q=>?_
    have:=h.srt i c O hc
    rw [ecp] at this;omega
theorem BI.qlt (h:BI k L0 W S b i j) {a:Nat} (ha:a < b.Q.length):qn b a < W.length:=by have:=h.qr a ha;unfold qn;omega
theorem BI.to (h:BI k L0 W S b i j) (t:TW k L0 W) (hi:i < b.Q.length) (hj:j < k):0<=kX b (qn b i) j/\kX b (qn b i) j < W.length/\W.getD (kX b (qn b i) j).toNat []=uq W ((W.getD (qn b i) [] ++ [j]).drop 1) /\
    ∃ c,c < b.Q.length/\qn b c=(kX b (qn b i) j).toNat:=by
  have hq:=h.qlt hi
  by_cases hz:qn b i=0
  · rw [kX,if_pos hz,hz,t.zero]
    have q0:qn b 0=0:=by unfold qn;rw [h.q0.2];rfl
    exact ⟨Int.le_refl _,by have:=t.pos;omega,by show W.getD 0 []=_;rw [t.zero];rfl,0,h.q0.1,q0⟩
  · rw [kX,if_neg hz]
    have X:0 < i:=by
      rcases Nat.eq_zero_or_pos i with q | q
      · subst q;exact absurd (by unfold qn;rw [h.q0.2];rfl) hz
      · exact q
    obtain ⟨f1,f2,f3⟩:=h.fl i X hi
    generalize hw:W.getD (qn b i) []=w at *
    obtain ⟨a0,w0,rfl⟩:∃ a0 w0,w=a0 :: w0:=by
      cases w with
      | nil=>exact absurd (t.nd _ 0 hq t.pos (by rw [hw,t.zero])) hz
      | cons a0 w0=>exact ⟨a0,w0,Z⟩
    simp only [List.drop_one,List.tail_cons,List.cons_append] at f3 ⊢
    have hsh:(W.getD (b.F.getD (qn b i) 0).toNat []).length < (W.getD (qn b i) []).length:=by
      rw [f3,hw];have:=(qH:uq W w0 <:+ w0).length_le;simp;omega
    obtain ⟨c,hc,ec⟩:=h.before t hi _ _ O Z hsh
    have hd:=h.done c j O hj (.inl hc)
    rw [ec] at hd
    refine ⟨hd.1,hd.2.1,by rw [hd.2.2,f3,<- Cb t.prec],?_⟩
    -- it has been met,as its word is not longer than the node's
    have a1:(W.getD (ig b.L (b.F.getD (qn b i) 0).toNat j).toNat []).length<=(W.getD (qn b i) []).length:=by
      rw [hd.2.2,f3,<- Cb t.prec]
      have:=(qH:uq W (w0 ++ [j]) <:+ w0 ++ [j]).length_le
      rw [hw];simp at this ⊢;omega
    generalize hr:(ig b.L (b.F.getD (qn b i) 0).toNat j).toNat=r at *
    have hrW:r < W.length:=by omega
    rcases Nat.lt_or_ge (W.getD r []).length (W.getD (qn b i) []).length with q | q
    · obtain ⟨c,hc,ec⟩:=h.before t hi _ r hrW Z q
      exact ⟨c,by omega,ec⟩
    · rcases Nat.eq_zero_or_pos r with z | z
      · subst z
        have q0:qn b 0=0:=by unfold qn;rw [h.q0.2];rfl
        exact ⟨0,h.q0.1,q0⟩
      · obtain ⟨m,x,h1,h2,h3⟩:=t.pre r z hrW
        have hm:(W.getD m []).length < (W.getD (qn b i) []).length:=by rw [h3,List.length_append,List.length_singleton] at a1;omega
        obtain ⟨c,hc,ec⟩:=h.before t hi _ m h1 Z hm
        obtain ⟨d,D,V⟩:=h.ch c x O h2 (.inl hc) (by rw [ec,<- h3];exact mY hrW)
        exact ⟨d,D,t.nd _ _ (h.qlt D) hrW (by rw [V,ec,h3])⟩
theorem VM {L:List (List Int)} {n x m y:Nat} {v:Int} (hn:n < L.length) (hx:x < (L.getD n []).length):ig (L.set n ((L.getD n []).set x v)) m y=if m=n/\y=x then v else ig L m y:=by
  unfold ig
  rw [d7 hn]
  by_cases h:m=n
  · subst h
    rw [if_pos Z,d7 hx]
    by_cases h2:y=x <;> simp [h2]
  · simp [h]
theorem BI.step (h:BI k L0 W S b i j) (t:TW k L0 W) (hs:∀ w ∈ S,w ∈ W) (hne:[] ∉ S) (hi:i < b.Q.length) (hj:j < k):BI k L0 W S (vr (qn b i) b j) i (j + 1):=by
  have hq:=h.qlt hi
  obtain ⟨t1,t2,t3,t4⟩:=h.to t hi hj
  have hsame:ig b.L (qn b i) j=ig L0 (qn b i) j:=h.same _ _ hq hj fun a ha ea=>by
    have:=h.qd a i ha hi ea;exact .inr ⟨this,by omega⟩
  have V:∀ a,a < b.Q.length->qn b a=qn b i->a=i:=fun a ha ea=>h.qd a i ha hi ea
  unfold vr
  split
  · -- the letter leads nowhere yet
    rename_i hneg
    have hno:=t.no (qn b i) j hq hj (by rw [<- hsame];exact hneg)
    have hval:W.getD (kX b (qn b i) j).toNat []=uq W (W.getD (qn b i) [] ++ [j]):=by
      rw [t3]
      cases hw:W.getD (qn b i) [] ++ [j] with
      | nil=>simp at hw
      | cons a0 w0=>rw [hw] at hno;rw [uq,if_neg hno];rfl
    have hent:∀ m y,ig (b.L.set (qn b i) ((b.L.getD (qn b i) []).set j (kX b (qn b i) j))) m y=if m=qn b i/\y=j then kX b (qn b i) j else ig b.L m y:=fun m y=>VM (by rw [h.len.1];exact hq) (by rw [h.row _ hq];exact hj)
    refine ⟨⟨by simp [h.len.1],h.len.2⟩,fun s hs'=>?_,h.q0,h.qr,h.qd,h.srt,fun n x hn hx hc=>?_,fun a x ha hx hc=>?_,fun a x ha hx hc hm=>?_,fun c D hc=>?_,h.fl,h.eq,h.en⟩
    · show ((b.L.set _ _).getD s []).length=k
      rw [d7 (by rw [h.len.1];exact hq)]
      split
      · rw [List.length_set];exact h.row _ hq
      · exact h.row s hs'
    · show ig (b.L.set _ _) n x=_
      rw [hent,if_neg]
      · exact h.same n x hn hx fun a ha ea=>by rcases hc a ha ea with q | q;exact .inl q;exact .inr ⟨q.1,by omega⟩
      · rintro ⟨rfl,rfl⟩
        rcases hc i hi rfl with q | q <;> omega
    · show 0<=ig (b.L.set _ _) (qn b a) x/\_
      have e:ig (b.L.set (qn b i) ((b.L.getD (qn b i) []).set j (kX b (qn b i) j))) (qn b a) x=if qn b a=qn b i/\x=j then kX b (qn b i) j else ig b.L (qn b a) x:=hent _ _
      show 0<=ig (b.L.set (qn b i) ((b.L.getD (qn b i) []).set j (kX b (qn b i) j))) (qn b a) x/\ig (b.L.set (qn b i) ((b.L.getD (qn b i) []).set j (kX b (qn b i) j))) (qn b a) x < W.length/\W.getD (ig (b.L.set (qn b i) ((b.L.getD (qn b i) []).set j (kX b (qn b i) j))) (qn b a) x).toNat []=_
      rw [e]
      by_cases q:qn b a=qn b i/\x=j
      · rw [if_pos q,q.1,q.2];exact ⟨t1,t2,hval⟩
      · rw [if_neg q]
        exact h.done a x ha hx (by
          rcases hc with c | c
          · exact .inl c
          · exact .inr ⟨c.1,by have:¬ x=j:=fun z=>q ⟨by rw [c.1],z⟩;omega⟩)
    · rcases hc with c | c
      · exact h.ch a x ha hx (.inl c) hm
      · by_cases z:x=j
        · obtain ⟨rfl,_⟩:=c;subst z;exact absurd hm hno
        · exact h.ch a x ha hx (.inr ⟨c.1,by omega⟩) hm
    · obtain ⟨a,x,h1,h2,h3,h4⟩:=h.pa c D hc
      exact ⟨a,x,h1,h2,by rcases h3 with c | c;exact .inl c;exact .inr ⟨c.1,by omega⟩,h4⟩
  · -- a node that is met now
    rename_i hpos
    obtain ⟨m1,m2⟩:=t.is (qn b i) j hq hj (by rw [<- hsame];omega)
    rw [<- hsame] at m1 m2
    generalize hm:ig b.L (qn b i) j=z at *
    obtain ⟨m,rfl⟩:∃ m:Nat,z=m:=⟨z.toNat,by omega⟩
    rw [Int.toNat_natCast] at m1 m2 ⊢
    have fresh:∀ c,c < b.Q.length->qn b c ≠ m:=fun c hc ec=>by
      rcases Nat.eq_zero_or_pos c with q | q
      · subst q
        have q0:qn b 0=0:=by unfold qn;rw [h.q0.2];rfl
        rw [q0] at ec;rw [<- ec,t.zero] at m2;simp at m2
      · obtain ⟨a,x,h1,h2,h3,h4⟩:=h.pa c q hc
        rw [ec,m2] at h4
        obtain ⟨e1,e2⟩:=List.append_inj' h4 Z
        have ea:=V a h1 (t.nd _ _ (h.qlt h1) hq e1.symm)
        have ex:x=j:=by simpa using e2.symm
        rcases h3 with c | c <;> omega
    have g1:∀ a,a < b.Q.length->(b.Q ++ [(m:Int)]).getD a 0=b.Q.getD a 0:=fun a ha=>kj ha
    have g2:(b.Q ++ [(m:Int)]).getD b.Q.length 0=m:=by simp
    have n1:∀ a,a < b.Q.length->((b.Q ++ [(m:Int)]).getD a 0).toNat=qn b a:=fun a ha=>by rw [g1 a ha]
    have n2:((b.Q ++ [(m:Int)]).getD b.Q.length 0).toNat=m:=by rw [g2];rfl
    have lw:(W.getD m []).length=(W.getD (qn b i) []).length + 1:=by rw [m2];simp
    have js:∀ c,c < b.Q.length->(W.getD (qn b c) []).length<=(W.getD (qn b i) []).length + 1:=fun c hc=>by
      rcases Nat.eq_zero_or_pos c with q | q
      · subst q
        have q0:qn b 0=0:=by unfold qn;rw [h.q0.2];rfl
        rw [q0,t.zero];simp
      · obtain ⟨a,x,h1,h2,h3,h4⟩:=h.pa c q hc
        rw [h4,List.length_append,List.length_singleton]
        have:=h.srt a i (by rcases h3 with c | c <;> omega) hi
        omega
    have lt:∀ {a},a < (b.Q ++ [(m:Int)]).length->a < b.Q.length\/a=b.Q.length:=fun {a} ha=>by simp at ha;omega
    refine ⟨⟨h.len.1,by simp [h.len.2.1],by simp [h.len.2.2]⟩,h.row,⟨by simp,by show (b.Q ++ [(m:Int)]).getD 0 0=0;rw [g1 0 h.q0.1];exact h.q0.2⟩,fun a ha=>?_,fun a c ha hc ec=>?_,fun a c hac hc=>?_,fun n x hn hx hc=>?_,fun a x ha hx hc=>?_,fun a x ha hx hc hm'=>?_,fun c D hc=>?_,fun c D hc=>?_,fun c hc=>?_,fun p hp hc=>?_⟩
    · show 0<=(b.Q ++ [(m:Int)]).getD a 0/\(b.Q ++ [(m:Int)]).getD a 0 < W.length
      rcases lt ha with q | q
      · rw [g1 a q];exact h.qr a q
      · rw [q,g2];omega
    · have ec:((b.Q ++ [(m:Int)]).getD a 0).toNat=((b.Q ++ [(m:Int)]).getD c 0).toNat:=ec
      rcases lt ha with q | q
      · rcases lt hc with q2 | q2
        · rw [n1 a q,n1 c q2] at ec;exact h.qd a c q q2 ec
        · rw [n1 a q,q2,n2] at ec;exact absurd ec (fresh a q)
      · rcases lt hc with q2 | q2
        · rw [n1 c q2,q,n2] at ec;exact absurd ec.symm (fresh c q2)
        · omega
    · show (W.getD ((b.Q ++ [(m:Int)]).getD a 0).toNat []).length<=(W.getD ((b.Q ++ [(m:Int)]).getD c 0).toNat []).length
      rcases lt hc with q2 | q2
      · rw [n1 a O,n1 c q2];exact h.srt a c hac q2
      · rw [q2,n2]
        rcases Nat.lt_or_ge a b.Q.length with q | q
        · rw [n1 a q,lw];exact js a q
        · rw [show a=b.Q.length by omega,n2];exact Nat.le_refl _
    · refine h.same n x hn hx fun a ha ea=>?_
      have:=hc a Ow (by show ((b.Q ++ [(m:Int)]).getD a 0).toNat=n;rw [n1 a ha];exact ea)
      rcases this with q | q
      · exact .inl q
      · exact .inr ⟨q.1,by omega⟩
    · show 0<=ig b.L ((b.Q ++ [(m:Int)]).getD a 0).toNat x/\ig b.L ((b.Q ++ [(m:Int)]).getD a 0).toNat x < W.length/\W.getD (ig b.L ((b.Q ++ [(m:Int)]).getD a 0).toNat x).toNat []=uq W (W.getD ((b.Q ++ [(m:Int)]).getD a 0).toNat [] ++ [x])
      have hal:a < b.Q.length:=by omega
      rw [n1 a hal]
      by_cases q:a=i/\x=j
      · obtain ⟨rfl,rfl⟩:=q
        rw [hm,Int.toNat_natCast,m2,<- m2,Vl (mY m1)]
        exact ⟨by omega,by omega,Z⟩
      · exact h.done a x hal hx (by
          rcases hc with c | c
          · exact .inl c
          · exact .inr ⟨c.1,by have:¬ x=j:=fun z=>q ⟨c.1,z⟩;omega⟩)
    · show ∃ c,c < (b.Q ++ [(m:Int)]).length/\W.getD ((b.Q ++ [(m:Int)]).getD c 0).toNat []=W.getD ((b.Q ++ [(m:Int)]).getD a 0).toNat [] ++ [x]
      have hal:a < b.Q.length:=by omega
      have hm':W.getD ((b.Q ++ [(m:Int)]).getD a 0).toNat [] ++ [x] ∈ W:=hm'
      rw [n1 a hal] at hm' ⊢
      by_cases q:a=i/\x=j
      · obtain ⟨rfl,rfl⟩:=q
        exact ⟨b.Q.length,by simp,by rw [n2];exact m2⟩
      · obtain ⟨c,c1,c2⟩:=h.ch a x hal hx (by
          rcases hc with c | c
          · exact .inl c
          · exact .inr ⟨c.1,by have:¬ x=j:=fun z=>q ⟨c.1,z⟩;omega⟩) hm'
        exact ⟨c,by simp;omega,by rw [n1 c c1];exact c2⟩
    · show ∃ a x,a < (b.Q ++ [(m:Int)]).length/\x < k/\(a < i\/a=i/\x < j + 1)/\W.getD ((b.Q ++ [(m:Int)]).getD c 0).toNat []=W.getD ((b.Q ++ [(m:Int)]).getD a 0).toNat [] ++ [x]
      rcases lt hc with q | q
      · obtain ⟨a,x,h1,h2,h3,h4⟩:=h.pa c D q
        exact ⟨a,x,by simp;omega,h2,by rcases h3 with c | c;exact .inl c;exact .inr ⟨c.1,by omega⟩,by rw [n1 c q,n1 a h1];exact h4⟩
      · exact ⟨i,j,by simp;omega,hj,.inr ⟨Z,by omega⟩,by rw [q,n2,n1 i hi];exact m2⟩
    · show 0<=(b.F.set m (kX b (qn b i) j)).getD ((b.Q ++ [(m:Int)]).getD c 0).toNat 0/\(b.F.set m (kX b (qn b i) j)).getD ((b.Q ++ [(m:Int)]).getD c 0).toNat 0 < W.length/\W.getD ((b.F.set m (kX b (qn b i) j)).getD ((b.Q ++ [(m:Int)]).getD c 0).toNat 0).toNat []=uq W ((W.getD ((b.Q ++ [(m:Int)]).getD c 0).toNat []).drop 1)
      rw [d7 (by rw [h.len.2.2];exact m1)]
      rcases lt hc with q | q
      · rw [n1 c q,if_neg (fresh c q)];exact h.fl c D q
      · rw [q,n2,if_pos Z,m2];exact ⟨t1,t2,t3⟩
    · show (b.E.set m (b.E.getD m false || b.E.getD (kX b (qn b i) j).toNat false)).getD ((b.Q ++ [(m:Int)]).getD c 0).toNat false=true ↔ ∃ u ∈ S,u <:+ W.getD ((b.Q ++ [(m:Int)]).getD c 0).toNat []
      rw [d7 (by rw [h.len.2.1];exact m1)]
      rcases lt hc with q | q
      · rw [n1 c q,if_neg (fresh c q)];exact h.eq c q
      · rw [q,n2,if_pos Z,Bool.or_eq_true,h.en m m1 fresh]
        obtain ⟨d,d1,d2⟩:=t4
        rw [<- d2,h.eq d d1,d2,t3,<- m2]
        constructor
        · rintro (z | ⟨u,u1,u2⟩)
          · exact ⟨_,z,List.suffix_refl _⟩
          · exact ⟨u,u1,u2.trans (qH.trans (List.drop_suffix _ _))⟩
        · rintro ⟨u,u1,u2⟩
          cases hw:W.getD m [] with
          | nil=>rw [hw] at lw;simp at lw
          | cons a0 w0 =>
            rw [hw] at u2
            rcases sW u2 with z | z
            · exact .inl (z ▸ u1)
            · exact .inr ⟨u,u1,u6 (hs u u1) z⟩
    · show (b.E.set m (b.E.getD m false || b.E.getD (kX b (qn b i) j).toNat false)).getD p false=true ↔ _
      have hpm:p ≠ m:=fun z=>hc b.Q.length (by simp) (by show ((b.Q ++ [(m:Int)]).getD b.Q.length 0).toNat=p;rw [n2,z])
      rw [d7 (by rw [h.len.2.1];exact m1),if_neg hpm]
      exact h.en p hp fun c hc'=>by have:=hc c Ow;intro z;exact this (by show ((b.Q ++ [(m:Int)]).getD c 0).toNat=p;rw [n1 c hc'];exact z)
theorem BI.start (h:UG k L0 E0 W S) (hne:[] ∉ S):BI k L0 W S ⟨L0,E0,List.replicate W.length 0,[0]⟩ 0 0:=by
  have hl:=h.tw.len
  have q0:∀ a,a < ([0]:List Int).length->a=0:=fun a ha=>by simpa using ha
  refine ⟨⟨hl.symm,by rw [hl];exact h.ok.len,List.length_replicate⟩,fun s hs=>h.ok.row s O,⟨Nat.zero_lt_one,rfl⟩,fun a ha=>?_,fun a c ha hc _=>?_,fun a c hac hc=>?_,fun n x hn hx _=>rfl,fun a x ha hx hc=>?_,fun a x ha hx hc=>?_,fun c D hc=>?_,fun c D hc=>?_,fun c hc=>?_,fun m hm _=>h.ends m hm⟩
  · rw [q0 a ha];exact ⟨Int.le_refl _,by have:=h.tw.pos;show (0:Int) < W.length;omega⟩
  · rw [q0 a ha,q0 c hc]
  · rw [q0 c hc,q0 a (by have:=q0 c hc;show a < 1;omega)];exact Nat.le_refl _
  · omega
  · omega
  · exact absurd (q0 c hc) O
  · exact absurd (q0 c hc) O
  · rw [q0 c hc]
    show E0.getD 0 false=true ↔ ∃ u ∈ S,u <:+ W.getD 0 []
    rw [h.ends 0 h.tw.pos,h.tw.zero]
    exact ⟨fun z=>absurd z hne,fun ⟨u,u1,u2⟩=>absurd ((List.suffix_nil.1 u2) ▸ u1) hne⟩
theorem BI.next (h:BI k L0 W S b i k) (hi:i < b.Q.length):BI k L0 W S b (i + 1) 0:=by
  have e:∀ {a x},x < k->(a < i + 1\/a=i + 1/\x < 0)->(a < i\/a=i/\x < k):=fun {a x} hx hc=>by omega
  exact ⟨h.len,h.row,h.q0,h.qr,h.qd,h.srt,fun n x hn hx hc=>h.same n x hn hx fun a ha ea=>by have:=hc a ha ea;omega,fun a x ha hx hc=>h.done a x ha hx (e hx hc),fun a x ha hx hc=>h.ch a x ha hx (e hx hc),
    fun c D hc=>by obtain ⟨a,x,h1,h2,h3,h4⟩:=h.pa c D hc;exact ⟨a,x,h1,h2,by omega,h4⟩,h.fl,h.eq,h.en⟩
theorem pW:∀ (n:Nat) (l:List Nat),l.Nodup->(∀ x ∈ l,x < n)->l.length<=n
  | 0,l,_,h=>by
    cases l with
    | nil=>exact Nat.le_refl _
    | cons a l=>exact absurd (h a List.mem_cons_self) O
  | n + 1,l,hn,h=>by
    have h1:=pW n (l.erase n) (hn.erase n) (fun x hx=>by
      have h2:=h x (List.mem_of_mem_erase hx)
      have h3:x ≠ n:=by rintro rfl;exact hn.not_mem_erase hx
      omega)
    by_cases hm:n ∈ l
    · rw [List.length_erase_of_mem hm] at h1;omega
    · rw [List.erase_of_not_mem hm] at h1;omega
theorem qJ {l:List Nat} {n:Nat} (h1:l.Nodup) (h2:∀ x ∈ l,x < n):l.length<=n:=pW _ _ h1 h2
theorem BI.qlen (h:BI k L0 W S b i j):b.Q.length<=W.length:=by
  have:=qJ (l:=(List.range b.Q.length).map (qn b)) (n:=W.length) ?_ ?_
  · simpa using this
  · rw [List.nodup_iff_pairwise_ne,List.pairwise_map]
    exact List.Pairwise.imp_of_mem (fun {a c} ha hc hac e=>hac (h.qd a c (List.mem_range.1 ha) (List.mem_range.1 hc) e)) List.nodup_range
  · intro x hx
    obtain ⟨a,ha,rfl⟩:=List.mem_map.1 hx
    exact h.qlt (List.mem_range.1 ha)
theorem BI.all (h:BI k L0 W S b i 0) (t:TW k L0 W) (hi:b.Q.length<=i):∀ n p,p < W.length->(W.getD p []).length=n->∃ a,a < b.Q.length/\qn b a=p:=by
  intro n
  induction n with
  | zero =>
    intro p hp hl
    have e:p=0:=t.nd p 0 hp t.pos (by rw [t.zero];exact List.length_eq_zero_iff.1 hl)
    subst e
    exact ⟨0,h.q0.1,by unfold qn;rw [h.q0.2];rfl⟩
  | succ n ih =>
    intro p hp hl
    have D:0 < p:=by
      rcases Nat.eq_zero_or_pos p with q | q
      · subst q;rw [t.zero] at hl;simp at hl
      · exact q
    obtain ⟨m,x,h1,h2,h3⟩:=t.pre p D hp
    obtain ⟨a,ha,ea⟩:=ih m h1 (by rw [h3] at hl;simpa using hl)
    obtain ⟨c,hc,ec⟩:=h.ch a x ha h2 (.inl O) (by rw [ea,<- h3];exact mY hp)
    exact ⟨c,hc,t.nd _ _ (h.qlt hc) hp (by rw [ec,ea,h3])⟩
structure Wa (k:Nat) (L:List (List Int)) (E:List Bool) (W S:List (List Nat)):Prop where
  len:L.length=W.length/\E.length=W.length
  row:∀ s,s < W.length->(L.getD s []).length=k
  pos:0 < W.length
  zero:W.getD 0 []=[]
  nd:∀ a b,a < W.length->b < W.length->W.getD a []=W.getD b []->a=b
  prec:RC W
  sub:∀ w ∈ S,w ∈ W
  to:∀ n x,n < W.length->x < k->0<=ig L n x/\ig L n x < W.length/\W.getD (ig L n x).toNat []=uq W (W.getD n [] ++ [x])
  ends:∀ n,n < W.length->(E.getD n false=true ↔ ∃ u ∈ S,u <:+ W.getD n [])
theorem BI.aho (h:BI k L0 W S b i 0) (t:TW k L0 W) (hs:∀ w ∈ S,w ∈ W) (hi:b.Q.length<=i):Wa k b.L b.E W S :=
  ⟨⟨h.len.1,h.len.2.1⟩,h.row,t.pos,t.zero,t.nd,t.prec,hs,fun n x hn hx=>by
    obtain ⟨a,ha,rfl⟩:=h.all t hi _ n hn Z
    exact h.done a x ha hx (.inl O),fun n hn=>by
    obtain ⟨a,ha,rfl⟩:=h.all t hi _ n hn Z
    exact h.eq a ha⟩
end
structure LY (k:Nat) (acc:List Bool) (L:List (List Int)):Prop where
  sym:1<=k/\k<=400
  len:acc.length=L.length
  num:0 < L.length/\L.length<=20000
  row:∀ s,s < L.length->(L.getD s []).length=k
  val:∀ s x,s < L.length->x < k->-1<=ig L s x/\ig L s x < L.length
end Go.Proofs.YtjppkekmddjcfaaGreatDoor

namespace Go.Proofs.YtjppkekmddjcfaaGreatDoor
open Go Go.RowKit V
set_option maxRecDepth 100000
theorem tn:dB Tryz.prog 62 0=some (3,0):=by kernel_rfl
theorem vO:dB Tryz.prog 62 1=some (3,1):=by kernel_rfl
theorem lI:dB Tryz.prog 62 2=some (59,2):=by kernel_rfl
theorem lJ:dB Tryz.prog 62 3=some (60,3):=by kernel_rfl

theorem Qg (k:Nat) (acc:List Bool) (L:List (List Int)) (av nv:Value) (rows:List Value) (A:AH) (hok:LY k acc L) (hav:bI A 1 av (ce acc)) (hnv:bI A 1 nv (er rows)) (hrl:rows.length=L.length) (hF:∀ i,i < L.length->bI A 1 (rows.getD i undef) (cN (L.getD i []))):bz Tryz.prog 116 #[.agg #[num ((k:Nat):Int),num ((0:Nat):Int),av,nv]] A (fun v A1=>v=num ((0:Nat):Int)/\A.le A1/\A1.wf):=by
 refine ic Tryz.call116 Tryz.func116 Z Tryz.results116 Tryz.ntmps116 Z (fun wf=>?_);have b8:=AH.le.refl A;obtain ⟨⟨bY,c3⟩,hal,⟨bU,bV⟩,hrow,hval⟩:=hok;refine al.seq fun _ h2=>.region<|.l Z (fun _ _ b5 _=>dP wf rfl rfl fun A5 b4 h=>?_);have D:=b8.trans h.le;refine b5 _ _<|.q Z (ae Z)<|.nil<|h2 _ _<|.seq fun _ h9=>.region<|.q Z (aj lI iM U Z)<|.q Z (ak iI Z Z h.get Z)<|.q Z (bF (n:=acc.length) mc Z (hav.le D) O (fu _))<|.q Z (ae Z) ?_;refine Ops.nil<|h9 _ _<|.seq fun _ ag=>.seq fun _ a1=>.region<|.q Z (aj tn cD U Z)<|.q Z (ak df Z Z h.get Z)<|.q Z (bX (b:=1) Z Z)<|.q Z (ah Z)<|.part (t:=14) Z (fun b9=>?_) (fun b9=>?_)
 ·refine Ops.off Z Z Z Z<|.off Z Z Z Z<|.off Z Z Z Z<|.q Z (aJ Z Z)<|.q Z (ah Z)<|.off Z Z Z Z<|.off Z Z Z Z<|.q Z (aJ Z Z)<|.q Z (ah Z)<|.off Z Z Z Z ?_;refine Ops.off Z Z Z Z<|.off Z Z Z Z<|.off Z Z Z Z<|.off Z Z Z Z<|.q Z (aJ Z Z)<|.q Z (ah Z)<|.off Z Z Z Z<|.off Z Z Z Z<|.off Z Z Z Z<|.q Z (aJ Z Z) ?_;refine Ops.q Z (ah Z)<|.off Z Z Z Z<|.off Z Z Z Z<|.off Z Z Z Z<|.off Z Z Z Z<|.off Z Z Z Z<|.q Z (aJ Z Z)<|.nil<|a1 _ _<|.cond_true Z ?_;refine al.seq fun _ ai=>.region<|.q Z (ae Z)<|.nil<|ai _ _<|.rt (by exact aE Z (⟨by first | rfl | (exfalso;omega) | (exfalso;have:=hro O;omega) | (exfalso;have:=hva O;simp only [ig] at this;omega),D,h.wf⟩))
 refine Ops.on Z Z<|.q Z (aj tn cD U Z)<|.on Z Z<|.q Z (ak df Z Z h.get Z)<|.on Z Z<|.q Z (d8 (b:=400) Z Z)<|.q Z (aL Z Z)<|.q Z (ah Z)<|.part (t:=19) Z (fun ba=>?_) (fun ba=>?_)
 ·refine Ops.off Z Z Z Z<|.off Z Z Z Z<|.q Z (aJ Z Z)<|.q Z (ah Z)<|.off Z Z Z Z<|.off Z Z Z Z<|.off Z Z Z Z<|.off Z Z Z Z<|.off Z Z Z Z<|.q Z (aJ Z Z) ?_;refine Ops.q Z (ah Z)<|.off Z Z Z Z<|.off Z Z Z Z<|.off Z Z Z Z<|.q Z (aJ Z Z)<|.q Z (ah Z)<|.off Z Z Z Z<|.off Z Z Z Z<|.off Z Z Z Z<|.off Z Z Z Z ?_;refine Ops.off Z Z Z Z<|.q Z (aJ Z Z)<|.nil<|a1 _ _<|.cond_true Z<|.seq fun _ ap=>.region<|.q Z (ae Z)<|.nil<|ap _ _ ?_;refine al.ret ?_;repeat first | with_reducible refine bw ?_ | with_reducible refine bj ?_
  exact aE Z (⟨by first | rfl | (exfalso;omega) | (exfalso;have:=hro O;omega) | (exfalso;have:=hva O;simp only [ig] at this;omega),D,h.wf⟩)
 refine Ops.on Z Z<|.q Z (ah Z)<|.on Z Z<|.q Z (d8 (b:=20000) Z Z)<|.q Z (aL Z Z)<|.q Z (ah Z)<|.part (t:=23) Z (fun bb=>?_) (fun bb=>?_)
 ·refine Ops.off Z Z Z Z<|.off Z Z Z Z<|.off Z Z Z Z<|.off Z Z Z Z<|.off Z Z Z Z<|.q Z (aJ Z Z)<|.q Z (ah Z)<|.off Z Z Z Z<|.off Z Z Z Z<|.off Z Z Z Z ?_;refine Ops.q Z (aJ Z Z)<|.q Z (ah Z)<|.off Z Z Z Z<|.off Z Z Z Z<|.off Z Z Z Z<|.off Z Z Z Z<|.off Z Z Z Z<|.q Z (aJ Z Z)<|.nil<|a1 _ _ ?_;refine al.cond_true Z<|.seq fun _ ar=>.region<|.q Z (ae Z)<|.nil<|ar _ _<|.rt (by exact aE Z (⟨by first | rfl | (exfalso;omega) | (exfalso;have:=hro O;omega) | (exfalso;have:=hva O;simp only [ig] at this;omega),D,h.wf⟩))
 refine Ops.on Z Z<|.q Z (aj lJ i6 U Z)<|.on Z Z<|.q Z (ak ki Z Z h.get Z)<|.on Z Z<|.q Z (bF (n:=rows.length) oT Z (hnv.le D) O (i3 _))<|.on Z Z<|.q Z (ah Z)<|.on Z Z<|.q Z (fh Z Z) ?_;refine Ops.q Z (aL Z Z)<|.q Z (ah Z)<|.part (t:=30) Z (fun bc=>?_) (fun bc=>?_)
 ·refine Ops.off Z Z Z Z<|.off Z Z Z Z<|.off Z Z Z Z<|.q Z (aJ Z Z)<|.q Z (ah Z)<|.off Z Z Z Z<|.off Z Z Z Z<|.off Z Z Z Z<|.off Z Z Z Z<|.off Z Z Z Z ?_;refine Ops.q Z (aJ Z Z)<|.nil<|a1 _ _<|.cond_true Z<|.seq fun _ ay=>.region<|.q Z (ae Z)<|.nil<|ay _ _<|.rt (by exact aE Z (⟨by first | rfl | (exfalso;omega) | (exfalso;have:=hro O;omega) | (exfalso;have:=hva O;simp only [ig] at this;omega),D,h.wf⟩))
 refine Ops.on Z Z<|.q Z (aj vO cD U Z)<|.on Z Z<|.q Z (ak df Z Z h.get Z)<|.on Z Z<|.q Z (bX (a:=0) (b:=0) Z Z)<|.q Z (aL Z Z)<|.q Z (ah Z)<|.part (t:=35) Z (fun bd=>?_) (fun bd=>?_)
 ·refine Ops.off Z Z Z Z<|.off Z Z Z Z<|.off Z Z Z Z<|.off Z Z Z Z<|.off Z Z Z Z<|.q Z (aJ Z Z)<|.nil<|a1 _ _<|.cond_true Z<|.seq fun _ az=>?_;refine al.region<|.q Z (ae Z)<|.nil<|az _ _<|.rt (by exact aE Z (⟨by first | rfl | (exfalso;omega) | (exfalso;have:=hro O;omega) | (exfalso;have:=hva O;simp only [ig] at this;omega),D,h.wf⟩))
 refine Ops.on Z Z<|.q Z (aj vO cD U Z)<|.on Z Z<|.q Z (ak df Z Z h.get Z)<|.on Z Z<|.q Z (ah Z)<|.on Z Z<|.q Z (WO Z Z)<|.on Z Z<|.q Z (wq (a:=0) Z Z) ?_;refine Ops.q Z (aL Z Z)<|.nil<|a1 _ _<|.if rfl (fun bl=>?_) (fun bl=>?_)
 ·refine al.seq fun _ aA=>.region<|.q Z (ae Z)<|.nil<|aA _ _<|.rt (by exact aE Z (⟨by first | rfl | (exfalso;omega) | (exfalso;have:=hro O;omega) | (exfalso;have:=hva O;simp only [ig] at this;omega),D,h.wf⟩))
 refine al.skip<|ag _ _<|.seq fun _ aB=>.seq fun _ aC=>.region<|.q Z (aj lJ i6 U Z)<|.q Z (ak ki Z Z h.get Z)<|.q Z (bF (n:=rows.length) oT Z (hnv.le D) O (i3 _))<|.q Z (ah Z)<|.nil ?_;refine aC _ _<|.block<|.loop (X:=Nat) (fun i=>[(1,.pointer (some ⟨b4,0,none⟩)),(3,num ((acc.length:Nat):Int)),(43,nv),(44,num ((rows.length:Nat):Int)),(45,num ((i:Nat):Int))]) (fun i B=>(i<=L.length)/\A.le B/\B.get b4=some (.row true [num ((k:Nat):Int),num ((0:Nat):Int),av,nv] 4)) (fun i=>L.length - i) 0 (pw Z Z Z Z Z) (⟨(Nat.zero_le _),D,h.get⟩) ?_;rintro i B37 ⟨hi,V,a2⟩;refine al.wf fun a5=>?_;have hro:=fun q:i < L.length=>hrow i q;refine al.seq fun _ aD=>.region<|.q Z (bX Z Z)<|.nil<|aD _ _<|.seq fun _ aF=>.if rfl (fun bm=>?_) (fun bm=>?_)
 ·refine al.skip<|aF _ _<|.seq fun _ aG=>.block<|.seq fun _ aI=>.region ?_;obtain ⟨bP,bS,bM,ch,bD,cc,c4,aa,b6,ac,bA,a8⟩:=bI.at (i:=i) (hnv.le V) On O;refine Ops.q Z (aH oT fP Z aa Z b6)<|.q Z (ak mj Z Z ac ((cQ a8).trans (eK O)))<|.q Z (ae Z)<|.nil<|aI _ _<|.seq fun _ aP=>.seq fun _ aR=>.region<|.q Z (ah Z)<|.q Z (bF (n:=((L.getD i [])).length) eB Z ((hF i O).le V) O (eD _)) ?_;refine Ops.q Z (aj tn cD U Z)<|.q Z (ak df Z Z a2 Z)<|.q Z (fh Z Z)<|.nil<|aR _ _<|.if rfl (fun bp=>?_) (fun bp=>?_)
  ·refine al.seq fun _ aS=>.region<|.q Z (ae Z)<|.nil<|aS _ _<|.rt (by exact aE Z (⟨by first | rfl | (exfalso;omega) | (exfalso;have:=hro O;omega) | (exfalso;have:=hva O;simp only [ig] at this;omega),V,a5⟩))
  refine al.skip<|aP _ _<|.seq fun _ aT=>.region<|.q Z (ah Z)<|.q Z (bF (n:=((L.getD i [])).length) eB Z ((hF i O).le V) O (eD _))<|.q Z (ah Z)<|.nil<|aT _ _<|.block ?_;refine al.loop (X:=Nat) (fun j=>[(1,.pointer (some ⟨b4,0,none⟩)),(3,num ((acc.length:Nat):Int)),(43,nv),(44,num ((rows.length:Nat):Int)),(45,num ((i:Nat):Int)),(54,rows.getD i undef),(55,num ((((L.getD i [])).length:Nat):Int)),(56,num ((j:Nat):Int))]) (fun j B=>(j<=k/\i < L.length)/\A.le B/\B.get b4=some (.row true [num ((k:Nat):Int),num ((0:Nat):Int),av,nv] 4)) (fun j=>k - j) 0 (yZ Z Z Z Z Z Z Z Z) (⟨⟨Nat.zero_le _,by omega⟩,V,a2⟩) ?_;rintro j B59 ⟨⟨hj,a4⟩,a0,a3⟩;refine al.wf fun a6=>?_;have bC:=hrow i a4;have hva:=fun q:j < k=>hval i j a4 q;refine al.seq fun _ aV=>.region<|.q Z (bX Z Z)<|.nil<|aV _ _<|.seq fun _ aY=>.if rfl (fun br=>?_) (fun br=>?_)
  ·refine al.skip<|aY _ _<|.seq fun _ aZ=>.block<|.seq fun _ b0=>.region ?_;obtain ⟨bR,bT,bO,ck,bL,cf,c7,ab,b7,ad,bB,a9⟩:=bI.at (i:=j) ((hF i O).le a0) Of O;refine Ops.q Z (aH eB cD Z ab Z b7)<|.q Z (ak df Z Z ad ((cQ a9).trans (c6 O)))<|.q Z (ae Z)<|.nil<|b0 _ _<|.seq fun _ a7=>.region<|.q Z (ah Z)<|.q Z (jd Z Z)<|.q Z (ah Z) ?_;refine Ops.part (t:=62) Z (fun bu=>?_) (fun bu=>?_)
   ·refine Ops.off Z Z Z Z<|.off Z Z Z Z<|.off Z Z Z Z<|.q Z (aJ Z Z)<|.nil<|a7 _ _<|.cond_true Z<|.seq fun _ b1=>.region<|.q Z (ae Z) ?_;refine Ops.nil<|b1 _ _<|.rt (by exact aE Z (⟨by first | rfl | (exfalso;omega) | (exfalso;have:=hro O;omega) | (exfalso;have:=hva O;simp only [ig] at this;omega),a0,a6⟩))
   refine Ops.on Z Z<|.q Z (ah Z)<|.on Z Z<|.q Z (ah Z)<|.on Z Z<|.q Z (k8 Z Z)<|.q Z (aL Z Z)<|.nil<|a7 _ _<|.if rfl (fun bv=>?_) (fun bv=>?_)
   ·refine al.seq fun _ b2=>.region<|.q Z (ae Z)<|.nil<|b2 _ _<|.rt (by exact aE Z (⟨by first | rfl | (exfalso;omega) | (exfalso;have:=hro O;omega) | (exfalso;have:=hva O;simp only [ig] at this;omega),a0,a6⟩))
   refine al.skip<|aZ _ _<|.region<|.q Z (bE (b:=1) Z Z O)<|.q Z (ah Z)<|.nil ?_;exact ⟨j + 1,yZ Z Z Z Z Z Z Z Z,Z,⟨⟨by omega,a4⟩,a0,a3⟩,O1⟩
  refine al.exit<|aG _ _<|.region<|.q Z (bE (b:=1) Z Z O)<|.q Z (ah Z)<|.nil ?_;exact ⟨i + 1,pw Z Z Z Z Z,Z,⟨O,a0,a3⟩,O1⟩
 refine al.exit<|aB _ _<|.seq fun _ b3=>.region<|.q Z (ae Z)<|.nil<|b3 _ _<|.rt (by exact aE Z (⟨by first | rfl | (exfalso;omega) | (exfalso;have:=hro O;omega) | (exfalso;have:=hva O;simp only [ig] at this;omega),V,a5⟩))

theorem Qi (k:Nat) (acc:List Bool) (L:List (List Int)) (av nv:Value) (rows:List Value) (A:AH) (hok:LY k acc L) (hav:bI A 1 av (ce acc)) (hnv:bI A 1 nv (er rows)) (hrl:rows.length=L.length) (hF:∀ i,i < L.length->bI A 1 (rows.getD i undef) (cN (L.getD i []))):bz Tryz.prog 149 #[.agg #[num ((k:Nat):Int),num ((0:Nat):Int),av,nv]] A (fun v A1=>v=num ((0:Nat):Int)/\A.le A1/\A1.wf):=by
 refine ic Tryz.call149 Tryz.func149 Z Tryz.results149 Tryz.ntmps149 Z (fun wf=>?_);have a2:=AH.le.refl A;obtain ⟨⟨a6,a7⟩,hal,⟨a4,a5⟩,hrow,hval⟩:=hok;refine al.seq fun _ h2=>.region<|.l Z (fun _ _ a1 _=>dP wf rfl rfl fun A5 b4 h=>?_);have D:=a2.trans h.le;refine a1 _ _<|.q Z (ae Z)<|.nil<|h2 _ _<|.seq fun _ h9=>.seq fun _ V=>.region<|.q Z (aj lI iM U Z)<|.q Z (ak iI Z Z h.get Z)<|.q Z (bF (n:=acc.length) mc Z (hav.le D) O (fu _)) ?_;refine Ops.q Z (iC (b:=0) Z Z)<|.nil<|V _ _<|.if rfl (fun a3=>?_) (fun a3=>?_)
 ·refine al.seq fun _ X=>.region<|.q Z (ae Z)<|.nil<|X _ _<|.rt (by exact aE Z (⟨by first | rfl | (exfalso;omega),D,h.wf⟩))
 refine al.skip<|h9 _ _<|.seq fun _ a0=>.region<|.q Z (aj vO cD U Z)<|.q Z (ak df Z Z h.get Z)<|.q Z (ae Z)<|.nil<|a0 _ _<|.rt (by exact aE Z (⟨by first | rfl | (exfalso;omega),D,h.wf⟩))

theorem Qh (k:Nat) (acc:List Bool) (L:List (List Int)) (av nv:Value) (rows:List Value) (s:Int) (c:Nat) (A:AH) (hok:LY k acc L) (hav:bI A 1 av (ce acc)) (hnv:bI A 1 nv (er rows)) (hrl:rows.length=L.length) (hF:∀ i,i < L.length->bI A 1 (rows.getD i undef) (cN (L.getD i []))) (hs:s < L.length) (hc:c < k):bz Tryz.prog 151 #[.agg #[num ((k:Nat):Int),num ((0:Nat):Int),av,nv],num (s),num ((c:Nat):Int)] A (fun v A1=>v=num (if s < 0 then -1 else ig L s.toNat c)/\A.le A1/\A1.wf):=by
 refine uC Tryz.call151 Tryz.func151 Z Tryz.results151 Tryz.ntmps151 Z (fun wf=>?_);have aa:=AH.le.refl A;obtain ⟨⟨aF,aG⟩,hal,⟨aC,aD⟩,hrow,hval⟩:=hok;have hro:=fun q:0<=s=>hrow s.toNat O;refine al.seq fun _ h2=>.region<|.l Z (fun _ _ a7 _=>dP wf rfl rfl fun A5 b4 D=>?_);have h:=aa.trans D.le;refine a7 _ _<|.q Z (ae Z)<|.nil<|h2 _ _<|.seq fun _ h9=>.seq fun _ a4=>.region<|.q Z (ah Z)<|.q Z (jd Z Z)<|.nil ?_;refine a4 _ _<|.if rfl (fun ab=>?_) (fun ab=>?_)
 ·refine al.seq fun _ a5=>.region<|.q Z (ae Z)<|.nil<|a5 _ _<|.rt (by exact aE Z (⟨by first | (rw [if_pos ‹_›];rfl) | (rw [if_neg ‹_›];rfl),h,D.wf⟩))
 refine al.skip<|h9 _ _<|.seq fun _ a6=>.region<|.q Z (aj lJ i6 U Z)<|.q Z (ak ki Z Z D.get Z)<|.q Z (ah Z) ?_;obtain ⟨ay,aA,ap,aT,ag,aR,aI,a0,a8,a2,ac,V⟩:=bI.at (i:=(s).toNat) (hnv.le h) On O;refine Ops.q Z (aH oT fP Z a0 (eR O) a8)<|.q Z (ak mj Z Z a2 ((cQ V).trans (eK O)))<|.q Z (ah Z) ?_;obtain ⟨az,aB,ar,aV,ai,aS,aP,a1,a9,a3,ad,X⟩:=bI.at (i:=c) ((hF ((s).toNat) O).le h) (by simp only [ax];have:=hro O;omega) O;refine Ops.q Z (aH eB cD Z a1 Z a9)<|.q Z (ak df Z Z a3 ((cQ X).trans (c6 (by have:=hro O;omega))))<|.q Z (ae Z)<|.nil<|a6 _ _<|.rt (by exact aE Z (⟨by first | (rw [if_pos ‹_›];rfl) | (rw [if_neg ‹_›];rfl),h,D.wf⟩))
end Go.Proofs.YtjppkekmddjcfaaGreatDoor

namespace Go.Proofs.YtjppkekmddjcfaaGreatDoor
open Go Go.RowKit V
def wW (k:Nat) (ws:List Wd):List (List Int) × List Bool:=ws.foldl (fun t w=>(xo k t.1 t.2 w,xm k t.1 t.2 w)) ([DR k],[false])
def Wn (k:Nat) (b:BS) (i:Nat):BS:=(List.range k).foldl (vr (qn b i)) b
def Wk (k:Nat):Nat->Nat->BS->BS
  | 0,_,b=>b
  | f + 1,i,b=>if i < b.Q.length then Wk k f (i + 1) (Wn k b i) else b
def D6 (k:Nat) (ws:List Wd):BS:=Wk k ((wW k ws).1.length + 1) 0 ⟨(wW k ws).1,(wW k ws).2,List.replicate (wW k ws).1.length 0,[0]⟩
def eE (E:List Bool) (r:List Int):List Int:=r.map fun m=>if E.getD m.toNat false then -1 else m
def RD (k:Nat) (ws:List Wd):List Bool:=(D6 k ws).E.map fun e=>!e
def RE (k:Nat) (ws:List Wd):List (List Int):=(D6 k ws).L.map (eE (D6 k ws).E)
def gw (step:Int->Nat->Option Int) (q:Int) (st:List Int × List Int) (c:Nat):List Int × List Int :=
  match step q c with
  | none=>(st.1 ++ [-1],st.2)
  | some t=>if t ∈ st.2 then (st.1 ++ [(st.2.idxOf t:Int)],st.2) else (st.1 ++ [(st.2.length:Int)],st.2 ++ [t])
def Ng (k:Nat) (step:Int->Nat->Option Int) (q:Int) (Q:List Int):List Int × List Int:=(List.range k).foldl (gw step q) ([],Q)
def fW (k:Nat) (step:Int->Nat->Option Int):Nat->Nat->List Int->List (List Int)->List Int × List (List Int)
  | 0,_,Q,R=>(Q,R)
  | f + 1,i,Q,R=>if i < Q.length then fW k step f (i + 1) (Ng k step (Q.getD i 0) Q).2 (R ++ [(Ng k step (Q.getD i 0) Q).1]) else (Q,R)
def oo (L:List (List Int)) (s:Int) (c:Nat):Option Int:=some (if s < 0 then -1 else ig L s.toNat c)
def ib (k:Nat) (L:List (List Int)):List Int × List (List Int):=fW k (oo L) (L.length + 2) 0 [0] []
def xb (k:Nat) (acc:List Bool) (L:List (List Int)):List Bool:=(ib k L).1.map fun s=>decide (0<=s) && acc.getD s.toNat false
def pB (B:List (List Int)) (s m:Int):List (List Int):=if 0<=m then B.set m.toNat (B.getD m.toNat [] ++ [s]) else B
def jw (N:List (List Int)) (B:List (List Int)) (s:Nat):List (List Int):=(N.getD s []).foldl (fun B m=>pB B s m) B
def dr (N:List (List Int)):List (List Int):=(List.range N.length).foldl (jw N) (List.replicate N.length [])
def iY (Q:List Int) (p:Int):List Int:=if p ∈ Q then Q else Q ++ [p]
def jD (B:List (List Int)):Nat->Nat->List Int->List Int
  | 0,_,Q=>Q
  | f + 1,i,Q=>if i < Q.length then jD B f (i + 1) ((B.getD (Q.getD i 0).toNat []).foldl iY Q) else Q
def qY (acc:List Bool) (i:Nat):List Int:=((List.range i).filter fun s=>acc.getD s false).map fun (s:Nat)=>(s:Int)
def gr (acc:List Bool) (N:List (List Int)):List Int:=jD (dr N) (N.length + 1) 0 (qY acc acc.length)
def iW (acc:List Bool) (N:List (List Int)):List Bool:=(List.range acc.length).map fun (s:Nat)=>decide ((s:Int) ∈ gr acc N)
end Go.Proofs.YtjppkekmddjcfaaGreatDoor

namespace Go.Proofs.YtjppkekmddjcfaaGreatDoor
open Go Go.RowKit V
def IW (Q:List Int):List (Int × Value):=Q.zipIdx.map fun p=>(p.1,num ((p.2:Nat):Int))
theorem wn (Q:List Int):(IW Q).map (·.1)=Q:=by
  simp [IW,List.map_map,Function.comp_def]
theorem O6 (Q:List Int) (t:Int):IW (Q ++ [t])=IW Q ++ [(t,num ((Q.length:Nat):Int))]:=by simp [IW,List.zipIdx_append]
theorem Ky {Q:List Int} {t:Int} (h:t ∉ Q):lk (IW Q) t=none:=zr.2 (by rw [wn];exact h)
theorem SG:∀ (Q:List Int) (n:Nat) (t:Int),t ∈ Q->lk ((Q.zipIdx n).map fun p=>(p.1,num ((p.2:Nat):Int))) t=some (num (((n + Q.idxOf t:Nat)):Int)):=by
  intro Q
  induction Q with
  | nil=>intro n t h;cases h
  | cons a Q ih =>
    intro n t h
    by_cases q:a=t
    · subst q;simp [lk]
    · have h2:t ∈ Q:=by rcases List.mem_cons.1 h with z | z;exact absurd z.symm q;exact z
      have:=ih (n + 1) t h2
      simp only [List.zipIdx_cons,List.map_cons]
      rw [List.idxOf_cons,beq_eq_false_iff_ne.2 q,cond_false]
      simp only [lk,List.find?_cons,decide_eq_false q] at this ⊢
      rw [this]
      congr 3;omega
theorem O5 {Q:List Int} {t:Int} (h:t ∈ Q):lk (IW Q) t=some (num ((Q.idxOf t:Nat):Int)):=by
  have:=SG Q 0 t h
  rwa [Nat.zero_add] at this
theorem Tn {Q:List Int} {t:Int} (h:t ∉ Q):yF (IW Q) t (num ((Q.length:Nat):Int))=IW (Q ++ [t]):=by
  rw [vg (by rw [wn];exact h),O6]
section
variable {α:Type} [DecidableEq α] {kd:TypeDesc} {enc:α->Value} {P:Program} {e:gI} {A:AH} {x y z:Operand} {t kt et:TypeId} {ty:TypeId} {ps:String} {af:Array Edge} {dst:Option Nat} {Q:Value->AH->Prop} {Kp:List PanicEntry->AH->Prop} {g:Option (Nat × Bool)} {m clock:Nat} {es:Array MapEntry} {E:List (α × Value)} {k:α} {v:Value}
theorem Ux (K:rU kd enc) (wf:A.wf) (hx:bQ e x=some (.map (some m))) (hy:bQ e y=some (enc k)) (hz:bQ e z=some v) (hu:P.underlying t=some (.map kt et)) (hk:P.underlying kt=some kd) (hg:A.get m=some (.obj true (.map es clock))) (hE:dh enc es E) (hn:(E.map (·.1)).Nodup)
    (h:∀ A1 es1 ck,uy A A1 m (.obj true (.map es1 ck))->dh enc es1 (yF E k v)->Q undef A1):kO P e A { dst:=dst,op:=.insert t x y z,type:=ty,pos:=ps,after:=af,guard:=g } Q Kp :=
  o4 (dst:=dst) (ty:=ty) (ps:=ps) (af:=af) (g:=g) (Kp:=Kp) K wf hx hy hz hu hk hg hE hn h
end
theorem lQ {b:Nat}:dH [] b:=fun _ h=>by cases h
theorem Ri {P:Program} {e:gI} {A:AH} {x y:Operand} {t kt et:TypeId} {ty:TypeId} {ps:String} {af:Array Edge} {dst:Option Nat} {Q:Value->AH->Prop} {Kp:List PanicEntry->AH->Prop} {g:Option (Nat × Bool)} {m clock:Nat} {es:Array MapEntry} {rw:Bool} {L:List Int} {k:Int}
    (hx:bQ e x=some (.map (some m))) (hy:bQ e y=some (num k)) (hu:P.underlying t=some (.map kt et)) (hk:P.underlying kt=some (.int .i64)) (hz:cx P et=some (num 0)) (hg:A.get m=some (.obj rw (.map es clock))) (hE:dh num es (IW L))
    (h1:k ∈ L->Q (.tuple #[num ((L.idxOf k:Nat):Int),.bool true]) A) (h2:k ∉ L->Q (.tuple #[num 0,.bool false]) A):kO P e A { dst:=dst,op:=.lookup t x y true,type:=ty,pos:=ps,after:=af,guard:=g } Q Kp:=by
  refine xd tD hx hy hu hk hz hg hE (fun v hv=>?_) (fun hn=>?_)
  · by_cases q:k ∈ L
    · rw [O5 q] at hv;cases hv;exact h1 q
    · rw [Ky q] at hv;cases hv
  · exact h2 fun q=>by rw [O5 q] at hn;cases hn
theorem Cn {o:Option Int} (h:(!o.isSome)=true):o=none:=by cases o <;> simp_all
theorem kF {o:Option Int} (h:(!o.isSome)=false):o=some (o.getD 0):=by cases o <;> simp_all
theorem pX {Q:List Int} {t:Int} (h:Q.Nodup) (ht:t ∉ Q):(Q ++ [t]).Nodup:=List.nodup_append.2 ⟨h,by simp,by intro a ha b hb;simp at hb;subst hb;exact fun e=>ht (e ▸ ha)⟩
theorem qI {Q:List Int} {t:Int} {D:Int->Prop} (h:∀ q ∈ Q,D q) (ht:D t):∀ q ∈ Q ++ [t],D q:=fun q hq=>by
  rcases List.mem_append.1 hq with z | z
  · exact h q z
  · rw [List.mem_singleton] at z;subst z;exact ht
theorem wo {Q Q1:List Int} (h:Q <+: Q1) {i:Nat} (hi:i < Q.length):Q1.getD i 0=Q.getD i 0:=by obtain ⟨t,rfl⟩:=h;exact kj hi
theorem O7 {Q Q1:List Int} (h:Q <+: Q1) {i:Nat} (hi:i<=Q.length):Q1.take i=Q.take i:=by obtain ⟨t,rfl⟩:=h;rw [List.take_append_of_le_length hi]
theorem ry {N:Nat} {Q:List Int} (hn:Q.Nodup) (hQ:∀ q ∈ Q,-1<=q/\q < (N:Int)):Q.length<=N + 1:=by
  have:=pW (N + 1) (Q.map fun q=>(q + 1).toNat) ?_ ?_
  · simpa using this
  · rw [List.nodup_iff_pairwise_ne,List.pairwise_map]
    exact List.Pairwise.imp_of_mem (fun {a b} ha hb hab e=>hab (by have:=hQ a ha;have:=hQ b hb;omega)) hn
  · intro x hx
    obtain ⟨q,hq,rfl⟩:=List.mem_map.1 hx
    have:=hQ q hq;omega
section
variable {k c:Nat} {step:Int->Nat->Option Int} {q:Int} {Q Q1 r:List Int}
def JM (step:Int->Nat->Option Int) (q:Int) (Q:List Int) (c:Nat):List Int × List Int:=(List.range c).foldl (gw step q) ([],Q)
theorem vL:JM step q Q (c + 1)=gw step q (JM step q Q c) c:=by simp [JM,List.range_succ]
theorem Nf (h:JM step q Q c=(r,Q1)) (hs:step q c=none):JM step q Q (c + 1)=(r ++ [-1],Q1):=by rw [vL,h,gw,hs]
theorem Sj {t:Int} (h:JM step q Q c=(r,Q1)) (hs:step q c=some t) (ht:t ∈ Q1):JM step q Q (c + 1)=(r ++ [(Q1.idxOf t:Int)],Q1):=by
  rw [vL,h,gw,hs];simp only;rw [if_pos ht]
theorem za {t:Int} (h:JM step q Q c=(r,Q1)) (hs:step q c=some t) (ht:t ∉ Q1):JM step q Q (c + 1)=(r ++ [(Q1.length:Int)],Q1 ++ [t]):=by
  rw [vL,h,gw,hs];simp only;rw [if_neg ht]
theorem zb {r:List Int} {k:Nat} {v:Int} (h:r.length < k):(r ++ List.replicate (k - r.length) 0).set r.length v=(r ++ [v]) ++ List.replicate (k - (r.length + 1)) 0:=by
  rw [List.set_append_right _ _ (Nat.le_refl _),Nat.sub_self,show k - r.length=(k - (r.length + 1)) + 1 by omega,List.replicate_succ,List.set_cons_zero]
  simp
theorem sd {r:List Int} {k:Nat} {v w:Int} (h:r.length < k):((r ++ List.replicate (k - r.length) 0).set r.length v).set r.length w=(r ++ [w]) ++ List.replicate (k - (r.length + 1)) 0:=by
  rw [List.set_set];exact zb h
end
theorem vK {k f i:Nat} {step:Int->Nat->Option Int} {Q:List Int} {R:List (List Int)} (hf:0 < f) (hi:Q.length<=i):fW k step f i Q R=(Q,R):=by
  obtain ⟨f,rfl⟩:∃ g,f=g + 1:=⟨f - 1,by omega⟩
  rw [fW,if_neg O]
theorem Bq {k f i:Nat} {step:Int->Nat->Option Int} {Q:List Int} {R:List (List Int)} {X:List Int × List (List Int)} (hf:0 < f) (hi:i < Q.length) (h:fW k step f i Q R=X) {r Q1:List Int} (e:JM step (Q.getD i 0) Q k=(r,Q1)):fW k step (f - 1) (i + 1) Q1 (R ++ [r])=X:=by
  obtain ⟨f,rfl⟩:∃ g,f=g + 1:=⟨f - 1,by omega⟩
  rw [<- h,fW,if_pos hi]
  show _=fW k step f (i + 1) (JM step (Q.getD i 0) Q k).2 (R ++ [(JM step (Q.getD i 0) Q k).1])
  rw [e];rfl
end Go.Proofs.YtjppkekmddjcfaaGreatDoor

namespace Go.Proofs.YtjppkekmddjcfaaGreatDoor
open Go Go.RowKit
namespace V
inductive OT where
  | done:OT
  | one (i:Nat) (t:OT):OT
  | two (i j:Nat) (t u:OT):OT
def OT.len:OT->Nat
  | .done=>0
  | .one _ t=>t.len + 1
  | .two _ _ t _=>t.len + 1
def lG (ops:Array Oper):Array Bool->OT->Bool
  | listed,.done=>(Region.ready .any ops listed).isEmpty
  | listed,.one i C=>match ops[i]? with
    | none=>false
    | some o =>
      if dq o.op then (Region.ready .any ops listed).contains i && Region.free .any ops listed i && lG ops (listed.setIfInBounds i true) C
      else (Region.ready .any ops listed == [i]) && lG ops (listed.setIfInBounds i true) C
  | listed,.two i j C D=>(Region.ready .any ops listed == [i,j]) && lG ops (listed.setIfInBounds i true) C && lG ops (listed.setIfInBounds j true) D && (C.len == D.len)
section
variable {P:Program} {nt:Nat} {ops:Array Oper} {Q:Exit->Fr->AH->Prop} {f:Fr} {A:AH}
def cL (P:Program) (nt:Nat) (ops:Array Oper) (Q:Exit->Fr->AH->Prop) (listed:Array Bool) (held:List (Nat × fH)) (C:OT) (f:Fr) (A:AH):Prop :=
  lG ops listed C=true->Region.noSelect ops=true->∀ a w,cU nt f a->co A w->dQ ops held listed w->kQ ops listed ->
    ∀ (A₀:AH) (w₀:World),eH A₀ w₀ A w->eP P ops (dR nt Q A₀ w₀) (dQ ops held) C.len listed a w
theorem cL.quiet {listed:Array Bool} {held:List (Nat × fH)} {i:Nat} {C:OT} {o:Oper} {v:Value} {T:fH} (ho:ops[i]? = some o) (hq:dq o.op=true) (hd:∀ t,o.dst=some t->t < nt)
    (hv:∀ a w,cU nt f a->co A w->fg T w/\YieldsIf P ops (fg T) o v a)
    (h:cL P nt ops Q (listed.setIfInBounds i true) ((i,T) :: held) C ⟨fJ f.e o.dst v,f.ds⟩ A):cL P nt ops Q listed held (.one i C) f A:=by
  intro hc hn a w ha hw hh hcl A₀ w₀ hs
  simp only [lG,ho,if_pos hq,Bool.and_eq_true] at hc
  obtain ⟨⟨c1,c2⟩,c3⟩:=hc
  obtain ⟨t1,t2⟩:=hv a w ha hw
  have hr:i ∈ Region.ready .any ops listed:=by simpa using c1
  have hheld:dQ ops ((i,T) :: held) listed w:=fun p hp hj=>by
    rcases List.mem_cons.1 hp with rfl | hp
    · exact t1
    · exact hh p hp hj
  have H:=h c3 hn _ w (ha.put o.dst v hd) hw ((jj ho hq _ _).2 hheld) (gU hcl hr) A₀ w₀ hs
  have free:=Region.free_spec ho c2
  have H':eP P ops (dR nt Q A₀ w₀) (dQ ops ((i,T) :: held)) (C.len + 1) listed a w :=
    o0 (T:=fg T) ho (Region.noSelect_spec hn) (fun c a w g=>tN _ _ c a w g)
      (fun l w' hcl' hun hS=>hS (i,T) (List.mem_cons_self ..) fun j hl ⟨oj,hoj,_⟩=>by
        cases q:lu ops i ops.size j with
        | false=>rfl
        | true =>
          have:=jT hcl' ops.size j oj hoj (hcl' j oj hoj hl) q
          rw [iu hun] at this;cases this)
      (fun l w'=>jj ho hq l w') _ listed a w hcl (fun j oj hoj hne hun hno=>free j oj hoj hne hun hno) hr t2 hheld H
  -- less is asked
  have weaken:∀ (fuel:Nat) (l:Array Bool) (a:Act) (w:World),eP P ops (dR nt Q A₀ w₀) (dQ ops ((i,T) :: held)) fuel l a w->eP P ops (dR nt Q A₀ w₀) (dQ ops held) fuel l a w:=by
    intro fuel
    induction fuel with
    | zero=>intro l a w h;exact h
    | succ fuel ih=>intro l a w h;exact ⟨h.1,fun j hj=>wpOp_mono (fun a' w' h'=>⟨fun p hp=>h'.1 p (List.mem_cons_of_mem _ hp),ih _ _ _ h'.2⟩) (h.2 j hj)⟩
  exact weaken _ _ _ _ H'

theorem rE {listed:Array Bool} {held:List (Nat × fH)} {i:Nat} {C:OT} {o:Oper} {a:Act} {w:World} {A₀:AH} {w₀:World} (ho:ops[i]? = some o) (hq:dq o.op=false) (hd:∀ t,o.dst=some t->t < nt) (hwn:∀ a:Act,cU nt f a->Region.wanted o (yielded ops a.tmps)=true)
    (c2:lG ops (listed.setIfInBounds i true) C=true) (hn:Region.noSelect ops=true) (ha:cU nt f a) (hw:co A w) (hcl:kQ ops listed) (hs:eH A₀ w₀ A w) (hr:i ∈ Region.ready .any ops listed)
    (h:∀ (K:Value->AH->Prop) (Kp:List PanicEntry->AH->Prop),
      (∀ v A',(∀ w',co A' w'->∀ p ∈ held,lu ops p.1 ops.size i=false->fg p.2 w')->cL P nt ops Q (listed.setIfInBounds i true) (held.filter fun p=>!lu ops p.1 ops.size i) C ⟨fJ f.e o.dst v,f.ds⟩ A'->K v A') ->
      (∀ ch A',Q (.panic ch) ⟨[],f.ds⟩ A'->Kp ch A')->kO P f.e A o K Kp) :
    wpOp P ops (dR nt Q A₀ w₀) i (fun a' w'=>dQ ops held (listed.setIfInBounds i true) w'/\eP P ops (dR nt Q A₀ w₀) (dQ ops held) C.len (listed.setIfInBounds i true) a' w') a w:=by
  have hlt:i < listed.size:=by
    have:=(mem_ready.1 hr).1
    rcases Nat.lt_or_ge i listed.size with h' | h'
    · exact h'
    · simp [Array.getElem?_eq_none h'] at this
  have hl:(listed.setIfInBounds i true).getD i false=true:=by simp [hlt]
  unfold wpOp
  simp only [ho,hwn a ha,if_true]
  left
  have:=qM (o:=o) (K:=fun v A'=>(∀ w',co A' w'->∀ p ∈ held,lu ops p.1 ops.size i=false->fg p.2 w')/\cL P nt ops Q (listed.setIfInBounds i true) (held.filter fun p=>!lu ops p.1 ops.size i) C ⟨fJ f.e o.dst v,f.ds⟩ A')
    (Kp:=fun ch A'=>Q (.panic ch) ⟨[],f.ds⟩ A') ha hw (h _ _ (fun v A' g1 g2=>⟨g1,g2⟩) (fun ch A' g=>g))
  unfold Oper.wp at this ⊢
  have up:∀ r,o.upon P a (jQ A a w o fun v A'=>(∀ w',co A' w'->∀ p ∈ held,lu ops p.1 ops.size i=false->fg p.2 w')/\cL P nt ops Q (listed.setIfInBounds i true) (held.filter fun p=>!lu ops p.1 ops.size i) C ⟨fJ f.e o.dst v,f.ds⟩ A') (ii A a w fun ch A'=>Q (.panic ch) ⟨[],f.ds⟩ A') r ->
      o.upon P a (fun a' w'=>dQ ops held (listed.setIfInBounds i true) w'/\eP P ops (dR nt Q A₀ w₀) (dQ ops held) C.len (listed.setIfInBounds i true) a' w') (dR nt Q A₀ w₀) r:=by
    have next:∀ a' w',(jQ A a w o fun v A'=>(∀ w',co A' w'->∀ p ∈ held,lu ops p.1 ops.size i=false->fg p.2 w')/\cL P nt ops Q (listed.setIfInBounds i true) (held.filter fun p=>!lu ops p.1 ops.size i) C ⟨fJ f.e o.dst v,f.ds⟩ A') a' w' ->
        dQ ops held (listed.setIfInBounds i true) w'/\eP P ops (dR nt Q A₀ w₀) (dQ ops held) C.len (listed.setIfInBounds i true) a' w':=by
      rintro a' w' ⟨v,A',rfl,hv',hs',g1,g2⟩
      have hlo:V.loud ops i:=⟨o,ho,hq⟩
      have hh':dQ ops held (listed.setIfInBounds i true) w':=fun p hp hj=>g1 w' hv' p hp (hj i hl hlo)
      refine ⟨hh',?_⟩
      have H:=g2 c2 hn _ w' (ha.put o.dst v hd) hv' (fun p hp hj=>hh' p (List.mem_filter.1 hp).1 hj) (gU hcl hr) A₀ w₀ (hs.trans hs')
      refine kN (x:=i) (fun l w hx hS p hp hj=>hS p (List.mem_filter.2 ⟨hp,?_⟩) hj) _ _ _ _ hl H
      simp [hj i hx hlo]
    have pan:∀ x a' w',ii A a w (fun ch A'=>Q (.panic ch) ⟨[],f.ds⟩ A') x a' w'->dR nt Q A₀ w₀ x a' w':=by
      rintro x a' w' ⟨ch,A',rfl,rfl,hv',hs',g⟩
      exact ⟨⟨[],f.ds⟩,A',⟨ha.size,(fun _ _ q=>by cases q),ha.ds⟩,hv',hs.trans hs',g,fun _ _=>rfl⟩
    intro r hr'
    cases r with
    | ok n w' =>
      cases n <;> simp only [Oper.upon] at hr' ⊢ <;> (try exact hr'.elim)
      case value v=>exact next _ _ hr'
      case skip=>exact next _ _ hr'
      case defer d=>exact next _ _ hr'
      case enter f' args =>
        refine hr'.mono fun e w'' he=>?_
        cases e with
        | returned v=>exact next _ _ he
        | panicked ch=>exact pan _ _ _ he
        | outgrown=>obtain ⟨a₁,w₁,ch,A',q,_⟩:=he;cases q
      case row row args=>exact hr'.mono fun v w'' he=>next _ _ he
    | halt x w' =>
      cases x <;> simp only [Oper.upon] at hr' ⊢ <;> (try exact hr'.elim)
      case panic v=>exact pan _ _ _ hr'
  exact up _ this
variable {e:gI} {ds:List Deferred}
theorem cL.done {listed:Array Bool} {held:List (Nat × fH)} (h:Q .normal f A):cL P nt ops Q listed held .done f A:=by
  intro hc _ a w ha hw _ _ A₀ w₀ hs
  simp only [lG,List.isEmpty_iff] at hc
  exact ⟨hc,f,A,ha,hw,hs,h,fun _ q=>by cases q⟩
theorem cL.q {listed:Array Bool} {held:List (Nat × fH)} {k d:Nat} {C:OT} {op:Op} {ty:TypeId} {ps:String} {af:Array Edge} {v:Value} {T:fH} (ho:ops[k]? = some { dst:=some d,op:=op,type:=ty,pos:=ps,after:=af,guard:=none }) (hq:dq op=true) (hd:Nat.blt d nt=true) (hv:aN P e A op=some (v,T))
    (h:cL P nt ops Q (listed.setIfInBounds k true) ((k,T) :: held) C ⟨(d,v) :: e,ds⟩ A):cL P nt ops Q listed held (.one k C) ⟨e,ds⟩ A :=
  cL.quiet (f:=⟨e,ds⟩) (T:=T) (v:=v) ho hq (cW (d:=some d) hd) (fun a w ha hw=>by
    have key:=ga (P:=P) (f:=(⟨e,ds⟩:Fr)) (o:={ dst:=some d,op:=op,type:=ty,pos:=ps,after:=af,guard:=none }) hv ha hw
    exact ⟨key.1,.inl ⟨by simp [Region.wanted],key.2⟩⟩) h
theorem cL.l {listed:Array Bool} {held:List (Nat × fH)} {i:Nat} {C:OT} {di:Option Nat} {opi:Op} {ti:TypeId} {pi:String} {afi:Array Edge}
    (hoi:ops[i]? = some { dst:=di,op:=opi,type:=ti,pos:=pi,after:=afi,guard:=none }) (hqi:dq opi=false) (hdi:gK nt di=true)
    (hi:∀ (K:Value->AH->Prop) (Kp:List PanicEntry->AH->Prop),(∀ v A',aX ops held i A'->cL P nt ops Q (listed.setIfInBounds i true) (held.filter fun p=>!lu ops p.1 ops.size i) C ⟨fJ e di v,ds⟩ A'->K v A') ->
      (∀ ch A',Q (.panic ch) ⟨[],ds⟩ A'->Kp ch A')->kO P e A { dst:=di,op:=opi,type:=ti,pos:=pi,after:=afi,guard:=none } K Kp):cL P nt ops Q listed held (.one i C) ⟨e,ds⟩ A:=by
  intro hc hn a w ha hw hh hcl A₀ w₀ hs
  simp only [lG,hoi,hqi,Bool.false_eq_true,if_false,Bool.and_eq_true,beq_iff_eq] at hc
  obtain ⟨c1,c2⟩:=hc
  simp only [OT.len]
  refine ⟨fun h0=>(by rw [c1] at h0;cases h0),fun k hk=>?_⟩
  have hk':=hk
  rw [c1,List.mem_singleton] at hk'
  subst hk'
  exact rE (C:=C) hoi hqi (cW hdi) (fun a _=>by simp [Region.wanted]) c2 hn ha hw hcl hs hk hi
theorem cL.both {listed:Array Bool} {held:List (Nat × fH)} {i j:Nat} {C D:OT} {di dj:Option Nat} {opi opj:Op} {ti tj:TypeId} {pi pj:String} {afi afj:Array Edge}
    (hoi:ops[i]? = some { dst:=di,op:=opi,type:=ti,pos:=pi,after:=afi,guard:=none }) (hoj:ops[j]? = some { dst:=dj,op:=opj,type:=tj,pos:=pj,after:=afj,guard:=none }) (hqi:dq opi=false) (hqj:dq opj=false) (hdi:gK nt di=true) (hdj:gK nt dj=true)
    (hi:∀ (K:Value->AH->Prop) (Kp:List PanicEntry->AH->Prop),(∀ v A',aX ops held i A'->cL P nt ops Q (listed.setIfInBounds i true) (held.filter fun p=>!lu ops p.1 ops.size i) C ⟨fJ e di v,ds⟩ A'->K v A') ->
      (∀ ch A',Q (.panic ch) ⟨[],ds⟩ A'->Kp ch A')->kO P e A { dst:=di,op:=opi,type:=ti,pos:=pi,after:=afi,guard:=none } K Kp)
    (hj:∀ (K:Value->AH->Prop) (Kp:List PanicEntry->AH->Prop),(∀ v A',aX ops held j A'->cL P nt ops Q (listed.setIfInBounds j true) (held.filter fun p=>!lu ops p.1 ops.size j) D ⟨fJ e dj v,ds⟩ A'->K v A') ->
      (∀ ch A',Q (.panic ch) ⟨[],ds⟩ A'->Kp ch A')->kO P e A { dst:=dj,op:=opj,type:=tj,pos:=pj,after:=afj,guard:=none } K Kp):cL P nt ops Q listed held (.two i j C D) ⟨e,ds⟩ A:=by
  intro hc hn a w ha hw hh hcl A₀ w₀ hs
  simp only [lG,Bool.and_eq_true,beq_iff_eq] at hc
  obtain ⟨⟨⟨c1,c2⟩,c3⟩,c4⟩:=hc
  simp only [OT.len]
  refine ⟨fun h0=>(by rw [c1] at h0;cases h0),fun k hk=>?_⟩
  have hk':=hk
  rw [c1] at hk'
  simp only [List.mem_cons,List.not_mem_nil,or_false] at hk'
  rcases hk' with rfl | rfl
  · exact rE (C:=C) hoi hqi (cW hdi) (fun a _=>by simp [Region.wanted]) c2 hn ha hw hcl hs hk hi
  · rw [c4];exact rE (C:=D) hoj hqj (cW hdj) (fun a _=>by simp [Region.wanted]) c3 hn ha hw hcl hs hk hj
theorem al.drawnT {id:Nat} (C:OT) (hm:P.follows .mixedOrders=true) (hc:lG ops (Array.replicate ops.size false) C=true) (hn:Region.noSelect ops=true) (hl:C.len=ops.size)
    (h:cL P nt ops Q (Array.replicate ops.size false) [] C f A):al P nt (.region id ops true) Q f A:=by
  intro a w ha hw
  obtain ⟨v1,s1⟩:=jf hw
  refine wp_mono (wp_region_any hm (j9 (Q:=dR nt Q A w) (S:=dQ ops []) _ _ _ _ ?_)) (fun _ _ _=>dR.q)
  have key:=h hc hn a _ ha v1 (fun p hp=>by cases hp) (fun j o _ hj=>by
    exfalso
    rcases Nat.lt_or_ge j ops.size with q | q
    · simp [q] at hj
    · simp [q] at hj) A w s1
  rw [hl] at key
  exact key
end
end V
end Go.Proofs.YtjppkekmddjcfaaGreatDoor

namespace Go.Proofs.YtjppkekmddjcfaaGreatDoor
open Go Go.RowKit V
set_option maxRecDepth 100000
theorem jA:dB Tryz.prog 213 1=some (59,1):=by kernel_rfl
theorem qE:dB Tryz.prog 213 2=some (60,2):=by kernel_rfl
theorem sh:dB Tryz.prog 213 3=some (67,3):=by kernel_rfl
theorem si:dB Tryz.prog 213 4=some (67,4):=by kernel_rfl
theorem WG:c9 Tryz.prog 213=some [(0,1),(1,1),(2,1),(3,1),(4,1)]:=by kernel_rfl
theorem Ya:type_of% @Tryz.underlying213:=@Tryz.underlying213
theorem Gw:type_of% @Tryz.underlying222:=@Tryz.underlying222
theorem Yi:cx Tryz.prog 213=some (.agg #[.int .i64 0,.slice none 0 0,.slice none 0 0,.slice none 0 0,.slice none 0 0]):=by kernel_rfl

theorem yy (k most bd F0:Nat) (s0:Int) (g1 g2:Nat) (eV eX:Array Value) (step:Int->Nat->Option Int) (accf:Int->Bool) (D:Int->Prop) (A:AH) (hk:k<=1000) (hm:bd<=most/\most<=1000000/\bd < F0) (G7:D s0) (hDs:∀ q c t,D q->c < k->step q c=some t->D t) (hfin:∀ Q:List Int,Q.Nodup->(∀ q ∈ Q,D q)->Q.length<=bd) (DM:∀ (q:Int) (c:Nat) B,D q->c < k->A.le B->B.wf->bz Tryz.prog g1 (#[num q,num (c:Int)] ++ eV) B (fun v C=>v=.tuple #[num ((step q c).getD 0),.bool (step q c).isSome]/\B.le C/\C.wf)) (DO:∀ (q:Int) B,D q->A.le B->B.wf->bz Tryz.prog g2 (#[num q] ++ eX) B (fun v C=>v=.bool (accf q)/\B.le C/\C.wf)):bz Tryz.prog 148 #[num ((k:Nat):Int),num ((most:Nat):Int),num (s0),.func (.func g1) #[] eV,.func (.func g2) #[] eX] A (fun v A1=>∃ b av nv fv bv rows,v=.tuple #[.pointer (some ⟨b,0,none⟩),.bool true]/\A.le A1/\A1.wf/\A1.get b=some (.row true [num (k:Int),av,nv,fv,bv] 5)/\A.get b=none/\Fresh A A1 av 1 (ce ((fW k step F0 0 [s0] []).1.map accf))/\Fresh A A1 nv 1 (er rows)/\kY A A1 rows (fW k step F0 0 [s0] []).2/\blk av ≠ some b/\blk nv ≠ some b/\dH rows b/\bn av nv/\aK av rows/\aK nv rows):=by
 refine Yo Tryz.call148 Tryz.func148 Z Tryz.results148 Tryz.ntmps148 Z (fun wf=>?_);have B5:=AH.le.refl A;refine al.seq fun _ h2=>.region<|.q Z (ae Z)<|.q Z (ae Z)<|.nil<|h2 _ _<|.seq fun _ h4=>.region<|.q Z (ah Z)<|.q Z (dx Z (bH Ya Yi WG Z)) ?_;refine Ops.l Z (fun _ _ G8 _=>dP wf rfl rfl fun A7 b6 fI=>?_);have cv:=aW wf (Nat.le_trans B5.n fI.lo);have B4:=B5.trans fI.le;refine G8 _ _<|.q Z (ae Z)<|.nil<|h4 _ _<|.seq fun _ Fo=>.region<|.l Z (fun _ _ DS _=>nW fI.wf fun A14 cS eC=>?_);have aA:=ne_new fI.wf fI.get eC.lo;have h8:=aW wf (Nat.le_trans B4.n eC.lo);have Fq:=eC.le.get _ _ fI.get;have Eq:=B4.trans eC.le;refine DS _ _<|.q Z (ah Z)<|.l Z (fun _ _ DV _=>Ux tD (E:=[]) eC.wf rfl rfl rfl Gw u3 eC.get dh.nil List.nodup_nil fun A19 mV B7 dK Ex=>?_);have AV:=dK.keep _ _ aA Fq;have nT:=ao Eq wf h8 dK.n dK.keep;have E7:dh num mV (IW [s0]):=Ex;refine DV _ _<|.q Z (ah Z)<|.q Z (ae Z)<|.nil<|Fo _ _<|.seq fun _ Fs=>.region<|.q Z (ah Z)<|.l Z (fun _ _ DW _=>aM (c:=[num (s0)]) dK.wf rfl (aw eB cD z3 rfl U U rfl) fun A30 AT d0=>?_);have dG:=ne_new dK.wf AV d0.lo;have gM:=ne_new dK.wf dK.get d0.lo;have mX:=aW wf (Nat.le_trans nT.n d0.lo);have AY:=d0.le.get _ _ AV;have AZ:=d0.le.get _ _ dK.get;have nV:=nT.trans d0.le;refine DW _ _<|.q Z (ae Z)<|.nil<|Fs _ _<|.seq fun _ Ft=>.region<|.q Z (ah Z)<|.q Z (ah Z)<|.l Z (fun _ _ DZ _=>aM (c:=[num (-1)]) d0.wf rfl (aw eB cD z3 rfl U U rfl) fun A39 h7 cf=>?_);have dI:=ne_new d0.wf AY cf.lo;have gN:=ne_new d0.wf AZ cf.lo;have gQ:=ne_new d0.wf d0.get cf.lo;have n1:=aW wf (Nat.le_trans nV.n cf.lo);have B0:=cf.le.get _ _ AY;have B2:=cf.le.get _ _ AZ;have B3:=cf.le.get _ _ d0.get;have o1:=nV.trans cf.le;refine DZ _ _<|.l Z (fun _ _ E2 _=>aM (c:=[num (-1)]) cf.wf rfl (aw eB cD z3 rfl U U rfl) fun A47 hI d1=>?_);have dJ:=ne_new cf.wf B0 d1.lo;have gP:=ne_new cf.wf B2 d1.lo;have gS:=ne_new cf.wf B3 d1.lo;have gX:=ne_new cf.wf cf.get d1.lo;have n2:=aW wf (Nat.le_trans o1.n d1.lo);have Fv:=d1.le.get _ _ B0;have FD:=d1.le.get _ _ B2;have FE:=d1.le.get _ _ B3;have FI:=d1.le.get _ _ cf.get;have Es:=o1.trans d1.le;refine E2 _ _<|.q Z (cM Z)<|.q Z (aj sh fP U Z)<|.l Z (fun _ _ E3 _=>be (cs:=[.slice (some ⟨h7,0,none⟩) 1 1]) (c':=[num ((k:Nat):Int),.slice none 0 0,.slice none 0 0,.slice (some ⟨h7,0,none⟩) 1 1,.slice none 0 0]) d1.wf rfl rfl rfl rfl fP Fv (Nat.le_of_ble_eq_true rfl) rfl rfl fun A55 dL=>?_);have FL:=dL.keep _ _ aA.symm FD;have FM:=dL.keep _ _ dG.symm FE;have FN:=dL.keep _ _ dI.symm FI;have FO:=dL.keep _ _ dJ.symm d1.get;have Et:=ao Es wf cv dL.n dL.keep;refine E3 _ _<|.q Z (cM Z)<|.q Z (aj si fP U Z)<|.l Z (fun _ _ E4 _=>be (cs:=[.slice (some ⟨hI,0,none⟩) 1 1]) (c':=[num ((k:Nat):Int),.slice none 0 0,.slice none 0 0,.slice (some ⟨h7,0,none⟩) 1 1,.slice (some ⟨hI,0,none⟩) 1 1]) dL.wf rfl rfl rfl rfl fP dL.get (Nat.le_of_ble_eq_true rfl) rfl rfl fun A63 e2=>?_);have FQ:=e2.keep _ _ aA.symm FL;have FS:=e2.keep _ _ dG.symm FM;have FT:=e2.keep _ _ dI.symm FN;have FV:=e2.keep _ _ dJ.symm FO;have Ev:=ao Et wf cv e2.n e2.keep;refine E4 _ _<|.nil<|Ft _ _<|.seq fun _ G0=>.seq fun _ G1=>.region<|.q Z (ae Z)<|.nil<|G1 _ _<|.block ?_;have Bb:Fresh A A63 (.slice (some ⟨h7,0,none⟩) 1 1) 1 (cN [-1]):=Fresh.lit FT n1 Z (Nat.le_of_ble_eq_true Z);have Bc:Fresh A A63 (.slice (some ⟨hI,0,none⟩) 1 1) 1 (cN [-1]):=Fresh.lit FV n2 Z (Nat.le_of_ble_eq_true Z);have Bd:Fresh A A63 (.slice (some ⟨AT,0,none⟩) 1 1) 1 (cN [s0]):=Fresh.lit FS mX Z (Nat.le_of_ble_eq_true Z);have Ba:kY A A63 [] []:=kY.nil;refine al.loop (X:=Nat × List Int × List Bool × List Int × List Int × Array MapEntry × Nat × Nat × Value × Value × Value × Value × Value × List Value × List (List Int)) (fun ⟨i,Q,ac,fi,bl,es,ck,f,qv,av,nv,fv,bv,rw,R⟩=>[(0,num ((k:Nat):Int)),(1,num ((most:Nat):Int)),(3,.func (.func g1) #[] eV),(4,.func (.func g2) #[] eX),(12,.pointer (some ⟨b6,0,none⟩)),(13,.map (some cS)),(14,qv),(15,num ((i:Nat):Int))]) (fun ⟨i,Q,ac,fi,bl,es,ck,f,qv,av,nv,fv,bv,rw,R⟩ B=>(i<=Q.length/\ac=(Q.take i).map accf/\Q.Nodup/\(∀ q ∈ Q,D q)/\dh num es (IW Q)/\fW k step f i Q R=(fW k step F0 0 [s0] [])/\f + i=F0/\fi.length=Q.length/\bl.length=Q.length/\R.length=i)/\A.le B/\Fresh A B qv 1 (cN Q)/\Fresh A B av 1 (ce ac)/\Fresh A B nv 1 (er rw)/\Fresh A B fv 1 (cN fi)/\Fresh A B bv 1 (cN bl)/\B.get cS=some (.obj true (.map es ck))/\B.get b6=some (.row true [num ((k:Nat):Int),av,nv,fv,bv] 5)/\V.blk qv ≠ some cS/\V.blk av ≠ some cS/\V.blk nv ≠ some cS/\V.blk fv ≠ some cS/\V.blk bv ≠ some cS/\V.blk qv ≠ some b6/\V.blk av ≠ some b6/\V.blk nv ≠ some b6/\V.blk fv ≠ some b6/\V.blk bv ≠ some b6/\bn qv av/\bn qv nv/\bn qv fv/\bn qv bv/\bn av nv/\bn av fv/\bn av bv/\bn nv fv/\bn nv bv/\bn fv bv/\kY A B rw R/\dH rw cS/\dH rw b6/\aK qv rw/\aK av rw/\aK nv rw/\aK fv rw/\aK bv rw) (fun ⟨i,Q,ac,fi,bl,es,ck,f,qv,av,nv,fv,bv,rw,R⟩=>F0 - i) (⟨0,[s0],[],[-1],[-1],mV,B7,F0,.slice (some ⟨AT,0,none⟩) 1 1,.slice none 0 0,.slice none 0 0,.slice (some ⟨h7,0,none⟩) 1 1,.slice (some ⟨hI,0,none⟩) 1 1,[],[]⟩) (yZ Z Z Z Z Z Z Z Z) (⟨⟨Nat.zero_le _,rfl,by simp,fun q hq=>by rw [List.mem_singleton] at hq;subst hq;exact G7,E7,rfl,by omega,rfl,rfl,rfl⟩,Ev,Bd,(Fresh.nil A A63 1),(Fresh.nil A A63 1),Bb,Bc,FQ,e2.get,(fun q=>by cases q;exact gM rfl),(fun q=>by cases q),(fun q=>by cases q),(fun q=>by cases q;exact gN rfl),(fun q=>by cases q;exact gP rfl),(fun q=>by cases q;exact dG rfl),(fun q=>by cases q),(fun q=>by cases q),(fun q=>by cases q;exact dI rfl),(fun q=>by cases q;exact dJ rfl),(bn.symm bn.nil),(bn.symm bn.nil),(fun c hc hq=>by cases hc;cases hq;exact gQ rfl),(fun c hc hq=>by cases hc;cases hq;exact gS rfl),bn.nil,bn.nil,bn.nil,bn.nil,bn.nil,(fun c hc hq=>by cases hc;cases hq;exact gX Z),Ba,lQ,lQ,aK.empty,aK.nil,aK.nil,aK.empty,aK.empty⟩) ?_;rintro ⟨i,Q,ac,fi,bl,es,ck,f,qv,av,nv,fv,bv,rw,R⟩ B81 ⟨⟨hi,hac,hnd,hDQ,hme,hex,hf,hfi,hbl,hRl⟩,hx,ex,ft,fD,mT,mS,hs,dM,fr,dZ,fq,fo,fn,e7,dw,dz,e6,e5,f9,hC,hD,hE,e3,fd,fe,hF,hG,hH,fE,fl,dm,ge,dv,e4,gf,gg⟩;refine al.wf fun o2=>?_;have hrw:rw.length=R.length:=by first | exact kY.len ‹_›
 have hlQ:=hfin Q hnd hDQ;have hla:ac.length=i:=by rw [hac,List.length_map,List.length_take];omega
 have hDi:=fun q:i < Q.length=>hDQ _ (bi (d:=(0:Int)) q);refine al.seq fun _ G2=>.seq fun _ G3=>.region<|.q Z (ah Z)<|.q Z (ah Z)<|.q Z (bF (n:=Q.length) eB Z ex.slc O (eD _))<|.q Z (bX Z Z)<|.nil<|G3 _ _<|.if rfl (fun Gc=>?_) (fun Gc=>?_)
 ·refine al.skip<|G2 _ _<|.seq fun _ G4=>.block<|.seq fun _ G5=>.drawn [0,1,2,3,4,5,6,7,8,9,10,11,12,13,14,15] mixed Y Y Z<|.q Z Z Z (ah Z)<|.q Z Z Z (ah Z)<|.q Z Z Z (cM Z)<|.q Z Z Z (aj jA iM U Z) ?_;have DL:=c5 (off:=1) dM (show _=some (av) from rfl);refine bk.q Z Z Z (ak iI Z Z dM Z)<|.q Z Z Z (ah Z)<|.q Z Z Z (ah Z)<|.q Z Z Z (ah Z) ?_;obtain ⟨HD,HE,Hm,HH,Hl,HG,HF,Fm,G9,Fn,H9,B8⟩:=bI.at (i:=i) ex.slc Of O;refine bk.q Z Z Z (aH eB cD Z Fm Z G9)<|.q Z Z Z (ak df Z Z Fn ((cQ B8).trans (c6 O)))<|.l Z Z Z (fun _ _ E5 _=>pm Z Z (DO (Q.getD i 0) B81 (hDi O) hx o2) ?_);rintro HI A97 ⟨rfl,cK,mR⟩;have G6:=cK.get _ _ hs;have Bs:=cK.get _ _ dM;have oR:=ex.le cK;have oS:=ft.le cK;have oV:=fD.le cK;have oW:=mT.le cK;have oX:=mS.le cK;have hJ:=fE.le cK;have lV:=cr cK DL;have w2:=hx.trans cK;refine E5 _ _ (aX.list (L:=[(⟨b6,1,none⟩,av)]) Y (bx lV cO))<|.l Z Z Z (fun _ _ tO _=>aM (c:=[.bool (accf (Q.getD i 0))]) mR rfl (aw mc mn z4 rfl U U rfl) fun A112 GM b8=>?_);have Gf:=hJ.ne_new mR b8.lo;have n3:=b8.le.get _ _ G6;have n4:=b8.le.get _ _ Bs;have hW:=oR.le b8.le;have hX:=oS.le b8.le;have hY:=oV.le b8.le;have hZ:=oW.le b8.le;have i1:=oX.le b8.le;have hK:=hJ.le b8.le;have tt:=cr b8.le lV;have w3:=w2.trans b8.le;refine tO _ _ (aX.list (L:=[(⟨b6,1,none⟩,av)]) Y (bx tt cO))<|.l Z Z Z (fun _ _ tR _=>cR (ys:=[.bool (accf (Q.getD i 0))]) rfl rfl mc mn NF z4 rfl U mc (fun _ h=>by cases h) hX.own (bW (n:=1) b8.get Z) rfl rfl (by show (_ + _) * 1<=_;simp only [bG,List.length_cons,List.length_nil];(try simp only [List.length_append,List.length_cons,List.length_nil]);omega) Ov fun A131 Hs bm=>?_);rw [show ([.bool (accf (Q.getD i 0))]:List Value)=ce [accf (Q.getD i 0)] from rfl,n5] at bm;obtain ⟨i2,w4⟩:=Fresh.grow hX w3 wf bm;have Bt:=bm.keep dZ n3;have xa:=bm.ne dZ b8.wf n3;have Bu:=bm.keep dw n4;have mr:=bm.ne dw b8.wf n4;have y1:=bn.appd (show bn av qv from (bn.symm f9)) hW.own b8.wf bm;have oY:=hW.appd bm (bn.symm f9);have y2:=bn.appd (show bn av nv from e3) hY.own b8.wf bm;have oZ:=hY.appd bm e3;have y3:=bn.appd (show bn av fv from fd) hZ.own b8.wf bm;have p0:=hZ.appd bm fd;have y4:=bn.appd (show bn av bv from fe) i1.own b8.wf bm;have p5:=i1.appd bm fe;have y5:=aK.appd (show aK av rw from dv) hK b8.wf bm;have oa:=hK.appd bm (show aK av rw from dv);refine tR _ _ (aX.none Y)<|.q Z Z Z (cM Z)<|.q Z Z Z (aj jA iM U Z) ?_;obtain ⟨aG,aF,aD,ES,_⟩:=i2.own.slice;subst ES;refine bk.l Z Z Z (fun _ _ tS _=>be (cs:=[.slice aG aF aD]) (c':=[num ((k:Nat):Int),.slice aG aF aD,nv,fv,bv]) bm.wf rfl rfl rfl rfl iM Bu (Nat.le_of_ble_eq_true rfl) rfl rfl fun A155 b1=>?_);have n6:=b1.keep _ _ aA.symm Bt;have ih:=oY.keep b1.keep e7;have ir:=oZ.keep b1.keep dz;have it:=p0.keep b1.keep e6;have iv:=p5.keep b1.keep e5;have iD:=i2.keep b1.keep mr;have hL:=oa.keep b1.keep dm;have mb:=ao w4 wf cv b1.n b1.keep;refine tS _ _ (aX.none Y)<|.done<|G5 _ _<|.seq fun _ Bv=>.region<|.q Z (ah Z)<|.l Z (fun _ _ tT _=>m9 (n:=k) (k:=k) b1.wf mb rfl rfl eB cD z3 nu rfl (Nat.le_refl _) (by show 8 * _<=_;omega) O fun A169 B6 bp iF=>?_);rw [iw] at iF;have fm:=ne_new b1.wf n6 bp.lo;have gY:=ne_new b1.wf b1.get bp.lo;have xT:=hL.ne_new b1.wf bp.lo;have By:=bp.le.get _ _ n6;have BA:=bp.le.get _ _ b1.get;have p6:=ih.le bp.le;have p7:=ir.le bp.le;have p8:=it.le bp.le;have p9:=iv.le bp.le;have pa:=iD.le bp.le;have ob:=hL.le bp.le;have w5:=mb.trans bp.le;have y6:=bn.of_new (n:=k) (c:=k) ih.own b1.wf bp.lo;have y7:=bn.of_new (n:=k) (c:=k) ir.own b1.wf bp.lo;have y8:=bn.of_new (n:=k) (c:=k) it.own b1.wf bp.lo;have y9:=bn.of_new (n:=k) (c:=k) iv.own b1.wf bp.lo;have yt:=bn.of_new (n:=k) (c:=k) iD.own b1.wf bp.lo;refine tT _ _<|.q Z (ae Z)<|.nil<|Bv _ _<|.seq fun _ BB=>.seq fun _ BC=>.region<|.q Z (ah Z)<|.q Z (ah Z)<|.nil ?_;refine BC _ _<|.block<|.loop (X:=Nat × List Int × List Int × List Int × List Int × List Int × Array MapEntry × Nat × Value × Value × Value × Value) (fun ⟨c,r,o,Q1,fi,bl,es,ck,rv,bM,ab,a2⟩=>[(0,num ((k:Nat):Int)),(1,num ((most:Nat):Int)),(3,.func (.func g1) #[] eV),(4,.func (.func g2) #[] eX),(12,.pointer (some ⟨b6,0,none⟩)),(13,.map (some cS)),(14,bM),(15,num ((i:Nat):Int)),(16,rv),(61,num ((k:Nat):Int)),(62,num ((c:Nat):Int))]) (fun ⟨c,r,o,Q1,fi,bl,es,ck,rv,bM,ab,a2⟩ B=>(c<=k/\JM step (Q.getD i 0) Q c=(r,Q1)/\r.length=c/\o=r ++ List.replicate (k - c) 0/\Q1.Nodup/\(∀ q ∈ Q1,D q)/\dh num es (IW Q1)/\fi.length=Q1.length/\bl.length=Q1.length/\Q <+: Q1)/\A.le B/\Fresh A B rv 1 (cN o)/\Fresh A B bM 1 (cN Q1)/\Fresh A B ab 1 (cN fi)/\Fresh A B a2 1 (cN bl)/\Fresh A B nv 1 (er rw)/\Fresh A B (.slice aG aF aD) 1 (ce (ac ++ [accf (Q.getD i 0)]))/\B.get cS=some (.obj true (.map es ck))/\B.get b6=some (.row true [num ((k:Nat):Int),.slice aG aF aD,nv,ab,a2] 5)/\V.blk rv ≠ some cS/\V.blk bM ≠ some cS/\V.blk ab ≠ some cS/\V.blk a2 ≠ some cS/\V.blk nv ≠ some cS/\V.blk (.slice aG aF aD) ≠ some cS/\V.blk rv ≠ some b6/\V.blk bM ≠ some b6/\V.blk ab ≠ some b6/\V.blk a2 ≠ some b6/\V.blk nv ≠ some b6/\V.blk (.slice aG aF aD) ≠ some b6/\bn rv bM/\bn rv ab/\bn rv a2/\bn rv nv/\bn rv (.slice aG aF aD)/\bn bM ab/\bn bM a2/\bn bM nv/\bn bM (.slice aG aF aD)/\bn ab a2/\bn ab nv/\bn ab (.slice aG aF aD)/\bn a2 nv/\bn a2 (.slice aG aF aD)/\bn nv (.slice aG aF aD)/\kY A B rw R/\dH rw cS/\dH rw b6/\aK rv rw/\aK bM rw/\aK ab rw/\aK a2 rw/\aK nv rw/\aK (.slice aG aF aD) rw) (fun ⟨c,r,o,Q1,fi,bl,es,ck,rv,bM,ab,a2⟩=>k - c) (⟨0,[],List.replicate k 0,Q,fi,bl,es,ck,.slice (some ⟨B6,0,none⟩) k k,qv,fv,bv⟩) (vJ Z Z Z Z Z Z Z Z Z Z Z) (⟨⟨Nat.zero_le _,rfl,rfl,by simp,hnd,hDQ,hme,hfi,hbl,List.prefix_refl _⟩,w5,iF,p6,p8,p9,p7,pa,By,BA,(fun q=>by cases q;exact fm rfl),fr,fo,fn,fq,xa,(fun q=>by cases q;exact gY Z),e7,e6,e5,dz,mr,y6,y8,y9,y7,yt,hD,hE,hC,(bn.symm y1),hH,(bn.symm hF),(bn.symm y3),(bn.symm hG),(bn.symm y4),(bn.symm y2),ob,fl,dm,(aK.new xT),ge,gf,gg,e4,y5⟩) ?_;rintro ⟨c,r,o,Q1,fi,bl,es,ck,rv,bM,ab,a2⟩ B197 ⟨⟨hc,hexp,hrl,ho,ez,f5,f6,hp,hn,hpre⟩,me,dl,eS,eQ,eN,eL,dW,eT,e1,a5,bc,aa,a9,aB,az,a0,bD,a3,ai,a4,a1,bO,aV,aY,aC,aZ,cV,cX,ch,cZ,bu,b9,bA,ba,bB,bP,e0,bb,a8,ag,bS,aP,aR,bC,bL⟩;refine al.wf fun f3=>?_;have hlo:o.length=k:=by rw [ho];simp;omega
  have Hc:=hfin Q1 ez f5;have hpl:=hpre.length_le;have hgi:=wo hpre (show i < Q.length by omega);have nK:D (Q1.getD i 0):=by rw [hgi];exact hDi O
  refine al.seq fun _ BD=>.region<|.q Z (bX Z Z)<|.nil<|BD _ _<|.seq fun _ BL=>.if rfl (fun EL=>?_) (fun EL=>?_)
  ·refine al.skip<|BL _ _<|.seq fun _ f4=>.block<|.seq fun _ BM=>.region<|.q Z (ah Z)<|.q Z (ae Z)<|.nil<|BM _ _ ?_;refine al.seq fun _ BP=>.region<|.q Z (ah Z)<|.q Z (ah Z) ?_;obtain ⟨e9,He,H4,F5,Gs,d3,nL,Bk,Hy,Ey,Hn,E9⟩:=dl.at1 (x:=c) Of;rw [ax] at nL;refine Ops.q Z (aH eB cD Z d3 Z (by rw [nL];omega))<|.l Z (fun _ _ tW _=>be (off:=c) (c':=F5.set c (num (-1))) f3 rfl (by simp) rfl rfl cD Bk (by show c + 1<=_;omega) rfl rfl fun A212 bU=>?_);have BR:=bU.keep _ _ (fun q=>a5 (by rw [d3];exact congrArg some q.symm)) eT;have BT:=bU.keep _ _ (fun q=>a0 (by rw [d3];exact congrArg some q.symm)) e1;have iH:=eS.keep bU.keep (bO e9 (by rw [d3];rfl));have pe:=eQ.keep bU.keep (aV e9 (by rw [d3];rfl));have pf:=eN.keep bU.keep (aY e9 (by rw [d3];rfl));have pi:=eL.keep bU.keep (aC e9 (by rw [d3];rfl));have pj:=dW.keep bU.keep (aZ e9 (by rw [d3];rfl));have oi:=e0.keep bU.keep (fun r hr=>ag r hr e9 (by rw [d3];rfl));have iN:=E9 (num (-1)) A212 bU;rw [iy] at iN;have mi:=ao me wf Ey bU.n bU.keep;refine tW _ _<|.nil<|BP _ _<|.seq fun _ BU=>.region<|.q Z (ah Z)<|.q Z (ah Z)<|.q Z (ah Z) ?_;obtain ⟨GN,Ha,GL,Hk,GC,Hf,Hd,B9,En,Bl,Gd,o3⟩:=bI.at (i:=i) iH.slc Of O;refine Ops.q Z (aH eB cD Z B9 Z En)<|.q Z (ak df Z Z Bl ((cQ o3).trans (c6 O)))<|.q Z (ah Z)<|.l Z (fun _ _ tY _=>pm Z Z (DM (Q1.getD i 0) c A212 nK O mi bU.wf) ?_);rintro Ht A229 ⟨rfl,bT,h9⟩;have g8:=bT.get _ _ BR;have hg:=bT.get _ _ BT;have fR:=iN.le bT;have f1:=iH.le bT;have fS:=pe.le bT;have fT:=pf.le bT;have fV:=pi.le bT;have fX:=pj.le bT;have fQ:=oi.le bT;have gs:=mi.trans bT;refine tY _ _<|.q Z (ah Z)<|.q Z (aQ Z Z)<|.q Z (aQ Z Z)<|.q Z (ae Z)<|.q Z (ae Z)<|.nil<|BU _ _<|.seq fun _ BV=>.seq fun _ BY=>?_;refine al.region<|.q Z (ah Z)<|.q Z (eo Z)<|.nil<|BY _ _<|.ifB Z (fun EN=>?_) (fun EN=>?_)
   ·refine al.exit<|f4 _ _<|.region<|.q Z (bE (b:=1) Z Z O)<|.q Z (ah Z)<|.nil ?_;exact ⟨⟨c + 1,r ++ [(-1)],o.set c ((-1)),Q1,fi,bl,es,ck,rv,bM,ab,a2⟩,vJ Z Z Z Z Z Z Z Z Z Z Z,Z,⟨⟨by omega,Nf hexp (by rw [<- hgi];exact Cn ‹_›),by simp;omega,by rw [ho,<- hrl];exact zb O,ez,f5,f6,hp,hn,hpre⟩,gs,fR,f1,fS,fT,fV,fX,g8,hg,a5,bc,aa,a9,aB,az,a0,bD,a3,ai,a4,a1,bO,aV,aY,aC,aZ,cV,cX,ch,cZ,bu,b9,bA,ba,bB,bP,fQ,bb,a8,ag,bS,aP,aR,bC,bL⟩,O1⟩
   refine al.skip<|BV _ _<|.seq fun _ n7=>.region<|.q Z (ah Z)<|.q Z (ah Z)<|.l Z (fun _ _ ma _=>Ri Z Z Gw u3 z3 g8 f6 (fun Ge=>?_) (fun w1=>?_))
   ·refine ma _ _<|.q Z (ah Z)<|.q Z (aQ Z Z)<|.q Z (aQ Z Z)<|.q Z (ae Z)<|.q Z (ae Z)<|.nil<|n7 _ _<|.seq fun _ C1=>.seq fun _ C2=>?_;refine al.region<|.q Z (ah Z)<|.q Z (eo Z)<|.nil<|C2 _ _<|.cond_false Z<|.skip<|C1 _ _<|.region<|.q Z (ah Z) ?_;refine Ops.q Z (ah Z)<|.q Z (ah Z) ?_;obtain ⟨ea,Hg,H5,F6,GD,dd,nM,Bm,Hz,Ez,Ho,Ea⟩:=fR.at1 (x:=c) OB;rw [ax] at nM;refine Ops.q Z (aH eB cD Z dd Z (by rw [nM];(try simp only [List.length_set]);omega))<|.l Z (fun _ _ tZ _=>be (off:=c) (c':=F6.set c (num ((Q1.idxOf ((step (Q1.getD i 0) c).getD 0):Nat):Int))) h9 rfl (by simp) rfl rfl cD Bm (by show c + 1<=_;omega) rfl rfl fun A257 cA=>?_);have C3:=cA.keep _ _ (fun q=>a5 (by rw [dd];exact congrArg some q.symm)) g8;have C4:=cA.keep _ _ (fun q=>a0 (by rw [dd];exact congrArg some q.symm)) hg;have pl:=f1.keep cA.keep (bO ea (by rw [dd];rfl));have pp:=fS.keep cA.keep (aV ea (by rw [dd];rfl));have pv:=fT.keep cA.keep (aY ea (by rw [dd];rfl));have pA:=fV.keep cA.keep (aC ea (by rw [dd];rfl));have pE:=fX.keep cA.keep (aZ ea (by rw [dd];rfl));have oj:=fQ.keep cA.keep (fun r hr=>ag r hr ea (by rw [dd];rfl));have iR:=Ea (num ((Q1.idxOf ((step (Q1.getD i 0) c).getD 0):Nat):Int)) A257 cA;rw [iy] at iR;have w6:=ao gs wf Ez cA.n cA.keep;refine tZ _ _<|.nil<|f4 _ _<|.region<|.q Z (bE (b:=1) Z Z O)<|.q Z (ah Z)<|.nil ?_;exact ⟨⟨c + 1,r ++ [(Q1.idxOf ((step (Q1.getD i 0) c).getD 0):Int)],(o.set c ((-1))).set c (((Q1.idxOf ((step (Q1.getD i 0) c).getD 0):Nat):Int)),Q1,fi,bl,es,ck,rv,bM,ab,a2⟩,vJ Z Z Z Z Z Z Z Z Z Z Z,Z,⟨⟨by omega,Sj hexp (by rw [<- hgi];exact kF ‹_›) ‹_›,by simp;omega,by rw [ho,<- hrl];exact sd O,ez,f5,f6,hp,hn,hpre⟩,w6,iR,pl,pp,pv,pA,pE,C3,C4,a5,bc,aa,a9,aB,az,a0,bD,a3,ai,a4,a1,bO,aV,aY,aC,aZ,cV,cX,ch,cZ,bu,b9,bA,ba,bB,bP,oj,bb,a8,ag,bS,aP,aR,bC,bL⟩,O1⟩
   have gl:=pX ez w1;have g9:=qI f5 (hDs _ _ _ nK O (kF ‹(!(step (Q1.getD i 0) c).isSome)=false›));have E6:=hfin _ gl g9;rw [List.length_append,List.length_singleton] at E6;refine ma _ _<|.q Z (ah Z)<|.q Z (aQ Z Z)<|.q Z (aQ Z Z)<|.q Z (ae Z)<|.q Z (ae Z)<|.nil<|n7 _ _<|.seq fun _ hh=>.seq fun _ C7=>?_;refine al.region<|.q Z (ah Z)<|.q Z (eo Z)<|.nil<|C7 _ _<|.cond_true Z<|.seq fun _ Cc=>.region<|.q Z (ah Z)<|.q Z (bF (n:=Q1.length) eB Z f1.slc O (eD _)) ?_;refine Ops.q Z (ae Z)<|.nil<|Cc _ _<|.seq fun _ Cf=>.seq fun _ Ch=>.region<|.q Z (ah Z)<|.q Z (ah Z)<|.q Z (wq Z Z)<|.nil ?_;refine Ch _ _<|.if rfl (fun EQ=>?_) (fun EQ=>?_)
   ·refine al.seq fun _ Hb=>?_;exfalso;omega
   refine al.skip<|Cf _ _<|.seq fun _ Ck=>.region<|.q Z (ah Z)<|.q Z (ah Z)<|.q Z (ah Z)<|.l Z (fun _ _ u0 _=>o4 tD h9 rfl rfl rfl Gw u3 g8 f6 (by rw [wn];exact ez) fun A285 eY fO bR x9=>?_);have Cp:=bR.keep _ _ aA hg;have pF:=fR.keep bR.keep a5;have pI:=f1.keep bR.keep bc;have pJ:=fS.keep bR.keep aa;have pL:=fT.keep bR.keep a9;have pP:=fV.keep bR.keep aB;have pS:=fX.keep bR.keep az;have hM:=fQ.keep bR.keep bb;have w7:=ao gs wf h8 bR.n bR.keep;have f7:dh num eY (IW (Q1 ++ [((step (Q1.getD i 0) c).getD 0)])):=by rw [<- Tn ‹_›];exact x9
   refine u0 _ _<|.nil<|Ck _ _<|.seq fun _ Cq=>.region<|.q Z (ah Z)<|.q Z (ah Z)<|.l Z (fun _ _ u1 _=>aM (c:=[num ((step (Q1.getD i 0) c).getD 0)]) bR.wf rfl (aw eB cD z3 rfl U U rfl) fun A304 GP b0=>?_);have Gg:=hM.ne_new bR.wf b0.lo;have n9:=b0.le.get _ _ bR.get;have nb:=b0.le.get _ _ Cp;have iS:=pF.le b0.le;have iT:=pI.le b0.le;have iV:=pJ.le b0.le;have iX:=pL.le b0.le;have j1:=pP.le b0.le;have j2:=pS.le b0.le;have hN:=hM.le b0.le;have wc:=w7.trans b0.le;refine u1 _ _<|.l Z (fun _ _ u8 _=>cR (ys:=[num ((step (Q1.getD i 0) c).getD 0)]) rfl rfl eB cD nu z3 rfl U eB (fun _ h=>by cases h) iT.own (bW (n:=1) b0.get Z) rfl rfl (by show (_ + _) * 8<=_;simp only [ax,List.length_cons,List.length_nil];(try simp only [List.length_append,List.length_cons,List.length_nil]);omega) O2 fun A324 dD ar=>?_);rw [show ([num ((step (Q1.getD i 0) c).getD 0)]:List Value)=cN [(step (Q1.getD i 0) c).getD 0] from rfl,dt] at ar;obtain ⟨j3,ml⟩:=Fresh.grow iT wc wf ar;have nc:=ar.keep bc n9;have gA:=ar.ne bc b0.wf n9;have ey:=ar.keep bD nb;have d2:=ar.ne bD b0.wf nb;have dO:=bn.appd (show bn bM rv from (bn.symm bO)) iS.own b0.wf ar;have j4:=iS.appd ar (bn.symm bO);have dS:=bn.appd (show bn bM ab from cV) iV.own b0.wf ar;have g0:=iV.appd ar cV;have dV:=bn.appd (show bn bM a2 from cX) iX.own b0.wf ar;have jn:=iX.appd ar cX;have h3:=bn.appd (show bn bM nv from ch) j1.own b0.wf ar;have jN:=j1.appd ar ch;have h5:=bn.appd (show bn bM (.slice aG aF aD) from cZ) j2.own b0.wf ar;have jX:=j2.appd ar cZ;have h6:=aK.appd (show aK bM rw from bS) hN b0.wf ar;have eZ:=hN.appd ar (show aK bM rw from bS);refine u8 _ _<|.q Z (ae Z)<|.nil<|Cq _ _<|.drawnT (.one 0 (.one 1 (.one 2 (.one 3 (.one 4 (.one 5 (.one 6 (.one 9 (.one 10 (.one 11 (.one 12 (.one 13 (.two 7 14 (.two 8 14 (.one 14 (.one 15 (.one 16 (.one 17 (.one 18 (.one 19 (.one 20 (.one 21 (.done))))))))) (.one 8 (.one 15 (.one 16 (.one 17 (.one 18 (.one 19 (.one 20 (.one 21 (.done)))))))))) (.one 7 (.one 8 (.one 15 (.one 16 (.one 17 (.one 18 (.one 19 (.one 20 (.one 21 (.done))))))))))))))))))))))) mixed Y Y Z ?_;refine cL.q Z Z Z (ah Z) ?_;refine cL.q Z Z Z (ah Z) ?_;refine cL.q Z Z Z (ah Z) ?_;refine cL.q Z Z Z (cM Z) ?_;refine cL.q Z Z Z (aj sh fP U Z) ?_;have lW:=c5 (off:=3) ey (show _=some (ab) from rfl);refine cL.q Z Z Z (ak mj Z Z ey Z) ?_;refine cL.q Z Z Z (ah Z) ?_;refine cL.q Z Z Z (ah Z) ?_;refine cL.q Z Z Z (cM Z) ?_;refine cL.q Z Z Z (aj si fP U Z) ?_;have lX:=c5 (off:=4) ey (show _=some (a2) from rfl);refine cL.q Z Z Z (ak mj Z Z ey Z) ?_;refine cL.q Z Z Z (ah Z) ?_;refine cL.both Z Z Z Z Z Z ?_ ?_
   ·refine fun _ _ ub _=>aM (c:=[num ((i:Nat):Int)]) ar.wf rfl (aw eB cD z3 rfl U U rfl) fun A351 GQ ad=>?_;have Gl:=eZ.ne_new ar.wf ad.lo;have hj:=ad.le.get _ _ nc;have hl:=ad.le.get _ _ ey;have g3:=j4.le ad.le;have f2:=g0.le ad.le;have g4:=jn.le ad.le;have g5:=jN.le ad.le;have g6:=jX.le ad.le;have g7:=j3.le ad.le;have f0:=eZ.le ad.le;have lY:=cr ad.le lW;have gc:=cr ad.le lX;have mm:=ml.trans ad.le;refine ub _ _ (aX.list (L:=[(⟨b6,4,none⟩,a2),(⟨b6,3,none⟩,ab)]) Y (bx gc (bx lY cO))) ?_;refine cL.both Z Z Z Z Z Z ?_ ?_
    ·refine fun _ _ ui _=>cR (ys:=[num ((i:Nat):Int)]) rfl rfl eB cD nu z3 rfl U eB (fun _ h=>by cases h) f2.own (bW (n:=1) ad.get Z) rfl rfl (by show (_ + _) * 8<=_;simp only [ax,List.length_cons,List.length_nil];(try simp only [List.length_append,List.length_cons,List.length_nil]);omega) O2 fun A373 Fe aI=>?_;rw [show ([num ((i:Nat):Int)]:List Value)=cN [((i:Nat):Int)] from rfl,dt] at aI;obtain ⟨pV,wl⟩:=Fresh.grow f2 mm wf aI;have Cs:=aI.keep aa hj;have xf:=aI.ne aa ad.wf hj;have CC:=aI.keep a3 hl;have gC:=aI.ne a3 ad.wf hl;have mv:=bn.appd (show bn ab rv from (bn.symm aV)) g3.own ad.wf aI;have q0:=g3.appd aI (bn.symm aV);have mx:=bn.appd (show bn ab a2 from bu) g4.own ad.wf aI;have q1:=g4.appd aI bu;have yS:=bn.appd (show bn ab nv from b9) g5.own ad.wf aI;have q2:=g5.appd aI b9;have yT:=bn.appd (show bn ab (.slice aG aF aD) from bA) g6.own ad.wf aI;have q3:=g6.appd aI bA;have z0:=bn.appd (show bn ab dD from (bn.symm dS)) g7.own ad.wf aI;have q4:=g7.appd aI (bn.symm dS);have z1:=aK.appd (show aK ab rw from aP) f0 ad.wf aI;have hO:=f0.appd aI (show aK ab rw from aP);have lZ:=aI.cell a3 gc;refine ui _ _ (aX.list (L:=[(⟨b6,4,none⟩,a2)]) Y (bx lZ cO)) ?_;refine cL.l Z Z Z (fun _ _ up _=>aM (c:=[num ((c:Nat):Int)]) aI.wf rfl (aw eB cD z3 rfl U U rfl) fun A400 GS aS=>?_);have Gm:=hO.ne_new aI.wf aS.lo;have nd:=aS.le.get _ _ Cs;have nj:=aS.le.get _ _ CC;have k0:=q0.le aS.le;have k1:=q1.le aS.le;have k2:=q2.le aS.le;have k3:=q3.le aS.le;have k4:=q4.le aS.le;have k6:=pV.le aS.le;have hP:=hO.le aS.le;have tw:=cr aS.le lZ;have wm:=wl.trans aS.le;refine up _ _ (aX.list (L:=[(⟨b6,4,none⟩,a2)]) Y (bx tw cO)) ?_;refine cL.l Z Z Z (fun _ _ us _=>cR (ys:=[num ((c:Nat):Int)]) rfl rfl eB cD nu z3 rfl U eB (fun _ h=>by cases h) k1.own (bW (n:=1) aS.get Z) rfl rfl (by show (_ + _) * 8<=_;simp only [ax,List.length_cons,List.length_nil];(try simp only [List.length_append,List.length_cons,List.length_nil]);omega) O2 fun A421 Hu b2=>?_);rw [show ([num ((c:Nat):Int)]:List Value)=cN [((c:Nat):Int)] from rfl,dt] at b2;obtain ⟨q5,wp⟩:=Fresh.grow k1 wm wf b2;have CF:=b2.keep a9 nd;have xn:=b2.ne a9 aS.wf nd;have CH:=b2.keep ai nj;have gD:=b2.ne ai aS.wf nj;have mA:=bn.appd (show bn a2 rv from (bn.symm aY)) k0.own aS.wf b2;have q6:=k0.appd b2 (bn.symm aY);have z2:=bn.appd (show bn a2 nv from ba) k2.own aS.wf b2;have q7:=k2.appd b2 ba;have zi:=bn.appd (show bn a2 (.slice aG aF aD) from bB) k3.own aS.wf b2;have q8:=k3.appd b2 bB;have zs:=bn.appd (show bn a2 dD from (bn.symm dV)) k4.own aS.wf b2;have q9:=k4.appd b2 (bn.symm dV);have zI:=bn.appd (show bn a2 Fe from (bn.symm mx)) k6.own aS.wf b2;have k7:=k6.appd b2 (bn.symm mx);have zS:=aK.appd (show aK a2 rw from aR) hP aS.wf b2;have ok:=hP.appd b2 (show aK a2 rw from aR);refine us _ _ (aX.none Y) ?_;refine cL.q Z Z Z (cM Z) ?_;refine cL.q Z Z Z (aj sh fP U Z) ?_;obtain ⟨gZ,gm,fL,ET,_⟩:=k7.own.slice;subst ET;refine cL.l Z Z Z (fun _ _ uB _=>be (cs:=[.slice gZ gm fL]) (c':=[num ((k:Nat):Int),.slice aG aF aD,nv,.slice gZ gm fL,a2]) b2.wf rfl rfl rfl rfl fP CH (Nat.le_of_ble_eq_true rfl) rfl rfl fun A447 bV=>?_);have CK:=bV.keep _ _ aA.symm CF;have qa:=q6.keep bV.keep a0;have qb:=q7.keep bV.keep a4;have qd:=q8.keep bV.keep a1;have qp:=q9.keep bV.keep d2;have qr:=k7.keep bV.keep gC;have k9:=q5.keep bV.keep gD;have ov:=ok.keep bV.keep a8;have wy:=ao wp wf cv bV.n bV.keep;refine uB _ _ (aX.none Y) ?_;refine cL.q Z Z Z (cM Z) ?_;refine cL.q Z Z Z (aj si fP U Z) ?_;obtain ⟨hy,ht,ha,EV,_⟩:=k9.own.slice;subst EV;refine cL.l Z Z Z (fun _ _ uI _=>be (cs:=[.slice hy ht ha]) (c':=[num ((k:Nat):Int),.slice aG aF aD,nv,.slice gZ gm fL,.slice hy ht ha]) bV.wf rfl rfl rfl rfl fP bV.get (Nat.le_of_ble_eq_true rfl) rfl rfl fun A460 bY=>?_);have CL:=bY.keep _ _ aA.symm CK;have qt:=qa.keep bY.keep a0;have qu:=qb.keep bY.keep a4;have qA:=qd.keep bY.keep a1;have qB:=qp.keep bY.keep d2;have qD:=qr.keep bY.keep gC;have qN:=k9.keep bY.keep gD;have ow:=ov.keep bY.keep a8;have wz:=ao wy wf cv bY.n bY.keep;refine uI _ _ (aX.none Y) ?_;refine cL.done ?_;refine hh _ _<|.region<|.q Z (ah Z)<|.q Z (ah Z)<|.q Z (ah Z) ?_;obtain ⟨ec,Hh,H6,F7,GE,di,nN,Bo,HA,EA,Hp,Ec⟩:=qt.at1 (x:=c) OB;rw [ax] at nN;refine Ops.q Z (aH eB cD Z di Z (by rw [nN];(try simp only [List.length_set]);omega))<|.l Z (fun _ _ uP _=>be (off:=c) (c':=F7.set c (num ((Q1.length:Nat):Int))) bY.wf rfl (by simp) rfl rfl cD Bo (by show c + 1<=_;omega) rfl rfl fun A473 cC=>?_);have CR:=cC.keep _ _ (fun q=>a5 (by rw [di];exact congrArg some q.symm)) CL;have CS:=cC.keep _ _ (fun q=>a0 (by rw [di];exact congrArg some q.symm)) bY.get;have qP:=qu.keep cC.keep (aC ec (by rw [di];rfl));have qR:=qA.keep cC.keep (aZ ec (by rw [di];rfl));have qT:=qB.keep cC.keep ((bn.symm dO) ec (by rw [di];rfl));have qU:=qD.keep cC.keep ((bn.symm mv) ec (by rw [di];rfl));have qV:=qN.keep cC.keep ((bn.symm mA) ec (by rw [di];rfl));have ox:=ow.keep cC.keep (fun r hr=>ag r hr ec (by rw [di];rfl));have ka:=Ec (num ((Q1.length:Nat):Int)) A473 cC;rw [iy] at ka;have wC:=ao wz wf EA cC.n cC.keep;refine uP _ _<|.nil<|f4 _ _<|.region<|.q Z (bE (b:=1) Z Z O)<|.q Z (ah Z)<|.nil ?_;exact ⟨⟨c + 1,r ++ [(Q1.length:Int)],(o.set c ((-1))).set c (((Q1.length:Nat):Int)),Q1 ++ [(step (Q1.getD i 0) c).getD 0],fi ++ [((i:Nat):Int)],bl ++ [((c:Nat):Int)],eY,fO,rv,dD,.slice gZ gm fL,.slice hy ht ha⟩,vJ Z Z Z Z Z Z Z Z Z Z Z,Z,⟨⟨by omega,za hexp (by rw [<- hgi];exact kF ‹_›) ‹_›,by simp;omega,by rw [ho,<- hrl];exact sd O,gl,g9,f7,by simp;omega,by simp;omega,hpre.trans (List.prefix_append _ _)⟩,wC,ka,qT,qU,qV,qP,qR,CR,CS,a5,gA,xf,xn,aB,az,a0,d2,gC,gD,a4,a1,(bn.symm dO),(bn.symm mv),(bn.symm mA),aC,aZ,(bn.symm z0),(bn.symm zs),h3,h5,(bn.symm zI),yS,yT,z2,zi,bP,ox,bb,a8,ag,h6,z1,zS,bC,bL⟩,O1⟩
    refine fun _ _ uS _=>aM (c:=[num ((c:Nat):Int)]) ad.wf rfl (aw eB cD z3 rfl U U rfl) fun A487 H0 ap=>?_;have xN:=f2.own.ne_new ad.wf ap.lo;have Gn:=f0.ne_new ad.wf ap.lo;have nk:=ap.le.get _ _ hj;have nl:=ap.le.get _ _ hl;have CV:=ap.le.get _ _ ad.get;have kc:=g3.le ap.le;have kl:=f2.le ap.le;have km:=g4.le ap.le;have kp:=g5.le ap.le;have kv:=g6.le ap.le;have kA:=g7.le ap.le;have hQ:=f0.le ap.le;have tz:=cr ap.le lY;have m1:=cr ap.le gc;have wF:=mm.trans ap.le;refine uS _ _ (aX.list (L:=[(⟨b6,4,none⟩,a2),(⟨b6,3,none⟩,ab)]) Y (bx m1 (bx tz cO))) ?_;refine cL.l Z Z Z (fun _ _ v0 _=>cR (ys:=[num ((i:Nat):Int)]) rfl rfl eB cD nu z3 rfl U eB (fun _ h=>by cases h) kl.own (bW (n:=1) CV Z) rfl rfl (by show (_ + _) * 8<=_;simp only [ax,List.length_cons,List.length_nil];(try simp only [List.length_append,List.length_cons,List.length_nil]);omega) O2 fun A510 Fi a6=>?_);rw [show ([num ((i:Nat):Int)]:List Value)=cN [((i:Nat):Int)] from rfl,dt] at a6;obtain ⟨kC,wL⟩:=Fresh.grow kl wF wf a6;have nn:=a6.keep aa nk;have xr:=a6.ne aa ap.wf nk;have nq:=a6.keep a3 nl;have gE:=a6.ne a3 ap.wf nl;have D0:=a6.keep xN ap.get;have mB:=bn.appd (show bn ab rv from (bn.symm aV)) kc.own ap.wf a6;have kD:=kc.appd a6 (bn.symm aV);have mE:=bn.appd (show bn ab a2 from bu) km.own ap.wf a6;have kK:=km.appd a6 bu;have zV:=bn.appd (show bn ab nv from b9) kp.own ap.wf a6;have kL:=kp.appd a6 b9;have A5:=bn.appd (show bn ab (.slice aG aF aD) from bA) kv.own ap.wf a6;have kM:=kv.appd a6 bA;have A6:=bn.appd (show bn ab dD from (bn.symm dS)) kA.own ap.wf a6;have kP:=kA.appd a6 (bn.symm dS);have A8:=aK.appd (show aK ab rw from aP) hQ ap.wf a6;have hR:=hQ.appd a6 (show aK ab rw from aP);have tB:=a6.cell a3 m1;refine v0 _ _ (aX.list (L:=[(⟨b6,4,none⟩,a2)]) Y (bx tB cO)) ?_;refine cL.l Z Z Z (fun _ _ v1 _=>cR (ys:=[num ((c:Nat):Int)]) rfl rfl eB cD nu z3 rfl U eB (fun _ h=>by cases h) kK.own (bW (n:=1) D0 Z) rfl rfl (by show (_ + _) * 8<=_;simp only [ax,List.length_cons,List.length_nil];(try simp only [List.length_append,List.length_cons,List.length_nil]);omega) O2 fun A538 Hv b3=>?_);rw [show ([num ((c:Nat):Int)]:List Value)=cN [((c:Nat):Int)] from rfl,dt] at b3;obtain ⟨r0,wM⟩:=Fresh.grow kK wL wf b3;have D1:=b3.keep a9 nn;have xt:=b3.ne a9 a6.wf nn;have D2:=b3.keep ai nq;have gF:=b3.ne ai a6.wf nq;have mI:=bn.appd (show bn a2 rv from (bn.symm aY)) kD.own a6.wf b3;have r1:=kD.appd b3 (bn.symm aY);have A9:=bn.appd (show bn a2 nv from ba) kL.own a6.wf b3;have r2:=kL.appd b3 ba;have Aa:=bn.appd (show bn a2 (.slice aG aF aD) from bB) kM.own a6.wf b3;have r3:=kM.appd b3 bB;have Ab:=bn.appd (show bn a2 dD from (bn.symm dV)) kP.own a6.wf b3;have r4:=kP.appd b3 (bn.symm dV);have Ac:=bn.appd (show bn a2 Fi from (bn.symm mE)) kC.own a6.wf b3;have kT:=kC.appd b3 (bn.symm mE);have Ad:=aK.appd (show aK a2 rw from aR) hR a6.wf b3;have oy:=hR.appd b3 (show aK a2 rw from aR);refine v1 _ _ (aX.none Y) ?_;refine cL.q Z Z Z (cM Z) ?_;refine cL.q Z Z Z (aj sh fP U Z) ?_;obtain ⟨h0,gp,fM,EX,_⟩:=kT.own.slice;subst EX;refine cL.l Z Z Z (fun _ _ v2 _=>be (cs:=[.slice h0 gp fM]) (c':=[num ((k:Nat):Int),.slice aG aF aD,nv,.slice h0 gp fM,a2]) b3.wf rfl rfl rfl rfl fP D2 (Nat.le_of_ble_eq_true rfl) rfl rfl fun A564 c3=>?_);have D3:=c3.keep _ _ aA.symm D1;have r6:=r1.keep c3.keep a0;have r7:=r2.keep c3.keep a4;have r9:=r3.keep c3.keep a1;have ra:=r4.keep c3.keep d2;have rb:=kT.keep c3.keep gE;have kV:=r0.keep c3.keep gF;have oz:=oy.keep c3.keep a8;have wP:=ao wM wf cv c3.n c3.keep;refine v2 _ _ (aX.none Y) ?_;refine cL.q Z Z Z (cM Z) ?_;refine cL.q Z Z Z (aj si fP U Z) ?_;obtain ⟨hz,hu,hb,EY,_⟩:=kV.own.slice;subst EY;refine cL.l Z Z Z (fun _ _ v3 _=>be (cs:=[.slice hz hu hb]) (c':=[num ((k:Nat):Int),.slice aG aF aD,nv,.slice h0 gp fM,.slice hz hu hb]) c3.wf rfl rfl rfl rfl fP c3.get (Nat.le_of_ble_eq_true rfl) rfl rfl fun A577 c4=>?_);have Dd:=c4.keep _ _ aA.symm D3;have rf:=r6.keep c4.keep a0;have rr:=r7.keep c4.keep a4;have rA:=r9.keep c4.keep a1;have rB:=ra.keep c4.keep d2;have rF:=rb.keep c4.keep gE;have rR:=kV.keep c4.keep gF;have oA:=oz.keep c4.keep a8;have wS:=ao wP wf cv c4.n c4.keep;refine v3 _ _ (aX.none Y) ?_;refine cL.done ?_;refine hh _ _<|.region<|.q Z (ah Z)<|.q Z (ah Z)<|.q Z (ah Z) ?_;obtain ⟨eg,Hi,H7,F9,GF,dj,nO,Bp,HB,EC,Hq,Eg⟩:=rf.at1 (x:=c) OB;rw [ax] at nO;refine Ops.q Z (aH eB cD Z dj Z (by rw [nO];(try simp only [List.length_set]);omega))<|.l Z (fun _ _ v4 _=>be (off:=c) (c':=F9.set c (num ((Q1.length:Nat):Int))) c4.wf rfl (by simp) rfl rfl cD Bp (by show c + 1<=_;omega) rfl rfl fun A590 cF=>?_);have Dg:=cF.keep _ _ (fun q=>a5 (by rw [dj];exact congrArg some q.symm)) Dd;have Di:=cF.keep _ _ (fun q=>a0 (by rw [dj];exact congrArg some q.symm)) c4.get;have rS:=rr.keep cF.keep (aC eg (by rw [dj];rfl));have rT:=rA.keep cF.keep (aZ eg (by rw [dj];rfl));have rV:=rB.keep cF.keep ((bn.symm dO) eg (by rw [dj];rfl));have rW:=rF.keep cF.keep ((bn.symm mB) eg (by rw [dj];rfl));have s1:=rR.keep cF.keep ((bn.symm mI) eg (by rw [dj];rfl));have oB:=oA.keep cF.keep (fun r hr=>ag r hr eg (by rw [dj];rfl));have l0:=Eg (num ((Q1.length:Nat):Int)) A590 cF;rw [iy] at l0;have wY:=ao wS wf EC cF.n cF.keep;refine v4 _ _<|.nil<|f4 _ _<|.region<|.q Z (bE (b:=1) Z Z O)<|.q Z (ah Z)<|.nil ?_;exact ⟨⟨c + 1,r ++ [(Q1.length:Int)],(o.set c ((-1))).set c (((Q1.length:Nat):Int)),Q1 ++ [(step (Q1.getD i 0) c).getD 0],fi ++ [((i:Nat):Int)],bl ++ [((c:Nat):Int)],eY,fO,rv,dD,.slice h0 gp fM,.slice hz hu hb⟩,vJ Z Z Z Z Z Z Z Z Z Z Z,Z,⟨⟨by omega,za hexp (by rw [<- hgi];exact kF ‹_›) ‹_›,by simp;omega,by rw [ho,<- hrl];exact sd O,gl,g9,f7,by simp;omega,by simp;omega,hpre.trans (List.prefix_append _ _)⟩,wY,l0,rV,rW,s1,rS,rT,Dg,Di,a5,gA,xr,xt,aB,az,a0,d2,gE,gF,a4,a1,(bn.symm dO),(bn.symm mB),(bn.symm mI),aC,aZ,(bn.symm A6),(bn.symm Ab),h3,h5,(bn.symm Ac),zV,A5,A9,Aa,bP,oB,bb,a8,ag,h6,A8,Ad,bC,bL⟩,O1⟩
   refine fun _ _ v5 _=>aM (c:=[num ((c:Nat):Int)]) ar.wf rfl (aw eB cD z3 rfl U U rfl) fun A604 H1 br=>?_;have xR:=g0.own.ne_new ar.wf br.lo;have Go:=eZ.ne_new ar.wf br.lo;have Dj:=br.le.get _ _ nc;have Dk:=br.le.get _ _ ey;have s2:=j4.le br.le;have s3:=g0.le br.le;have s4:=jn.le br.le;have s5:=jN.le br.le;have s6:=jX.le br.le;have sb:=j3.le br.le;have hS:=eZ.le br.le;have m2:=cr br.le lW;have m3:=cr br.le lX;have wZ:=ml.trans br.le;refine v5 _ _ (aX.list (L:=[(⟨b6,4,none⟩,a2),(⟨b6,3,none⟩,ab)]) Y (bx m3 (bx m2 cO))) ?_;refine cL.l Z Z Z (fun _ _ v6 _=>aM (c:=[num ((i:Nat):Int)]) br.wf rfl (aw eB cD z3 rfl U U rfl) fun A627 H2 ay=>?_);have Gp:=hS.ne_new br.wf ay.lo;have nB:=ay.le.get _ _ Dj;have nC:=ay.le.get _ _ Dk;have Dl:=ay.le.get _ _ br.get;have l1:=s2.le ay.le;have l2:=s3.le ay.le;have l3:=s4.le ay.le;have l4:=s5.le ay.le;have l6:=s6.le ay.le;have l7:=sb.le ay.le;have hT:=hS.le ay.le;have tI:=cr ay.le m2;have m6:=cr ay.le m3;have x0:=wZ.trans ay.le;refine v6 _ _ (aX.list (L:=[(⟨b6,4,none⟩,a2),(⟨b6,3,none⟩,ab)]) Y (bx m6 (bx tI cO))) ?_;refine cL.l Z Z Z (fun _ _ v7 _=>cR (ys:=[num ((i:Nat):Int)]) rfl rfl eB cD nu z3 rfl U eB (fun _ h=>by cases h) l2.own (bW (n:=1) ay.get Z) rfl rfl (by show (_ + _) * 8<=_;simp only [ax,List.length_cons,List.length_nil];(try simp only [List.length_append,List.length_cons,List.length_nil]);omega) O2 fun A650 Fl a7=>?_);rw [show ([num ((i:Nat):Int)]:List Value)=cN [((i:Nat):Int)] from rfl,dt] at a7;obtain ⟨l9,x1⟩:=Fresh.grow l2 x0 wf a7;have nD:=a7.keep aa nB;have xv:=a7.ne aa ay.wf nB;have nE:=a7.keep a3 nC;have gG:=a7.ne a3 ay.wf nC;have Dm:=a7.keep xR Dl;have mK:=bn.appd (show bn ab rv from (bn.symm aV)) l1.own ay.wf a7;have la:=l1.appd a7 (bn.symm aV);have mL:=bn.appd (show bn ab a2 from bu) l3.own ay.wf a7;have lb:=l3.appd a7 bu;have Af:=bn.appd (show bn ab nv from b9) l4.own ay.wf a7;have lc:=l4.appd a7 b9;have Ag:=bn.appd (show bn ab (.slice aG aF aD) from bA) l6.own ay.wf a7;have lp:=l6.appd a7 bA;have Ai:=bn.appd (show bn ab dD from (bn.symm dS)) l7.own ay.wf a7;have lt:=l7.appd a7 (bn.symm dS);have Ap:=aK.appd (show aK ab rw from aP) hT ay.wf a7;have hU:=hT.appd a7 (show aK ab rw from aP);have tJ:=a7.cell a3 m6;refine v7 _ _ (aX.list (L:=[(⟨b6,4,none⟩,a2)]) Y (bx tJ cO)) ?_;refine cL.l Z Z Z (fun _ _ v8 _=>cR (ys:=[num ((c:Nat):Int)]) rfl rfl eB cD nu z3 rfl U eB (fun _ h=>by cases h) lb.own (bW (n:=1) Dm Z) rfl rfl (by show (_ + _) * 8<=_;simp only [ax,List.length_cons,List.length_nil];(try simp only [List.length_append,List.length_cons,List.length_nil]);omega) O2 fun A678 Hw b5=>?_);rw [show ([num ((c:Nat):Int)]:List Value)=cN [((c:Nat):Int)] from rfl,dt] at b5;obtain ⟨sf,x2⟩:=Fresh.grow lb x1 wf b5;have Do:=b5.keep a9 nD;have xA:=b5.ne a9 a7.wf nD;have Ds:=b5.keep ai nE;have gL:=b5.ne ai a7.wf nE;have mM:=bn.appd (show bn a2 rv from (bn.symm aY)) la.own a7.wf b5;have sm:=la.appd b5 (bn.symm aY);have Ar:=bn.appd (show bn a2 nv from ba) lc.own a7.wf b5;have sr:=lc.appd b5 ba;have As:=bn.appd (show bn a2 (.slice aG aF aD) from bB) lp.own a7.wf b5;have ss:=lp.appd b5 bB;have At:=bn.appd (show bn a2 dD from (bn.symm dV)) lt.own a7.wf b5;have sv:=lt.appd b5 (bn.symm dV);have Av:=bn.appd (show bn a2 Fl from (bn.symm mL)) l9.own a7.wf b5;have lw:=l9.appd b5 (bn.symm mL);have Ay:=aK.appd (show aK a2 rw from aR) hU a7.wf b5;have oF:=hU.appd b5 (show aK a2 rw from aR);refine v8 _ _ (aX.none Y) ?_;refine cL.q Z Z Z (cM Z) ?_;refine cL.q Z Z Z (aj sh fP U Z) ?_;obtain ⟨h1,gq,fN,EZ,_⟩:=lw.own.slice;subst EZ;refine cL.l Z Z Z (fun _ _ v9 _=>be (cs:=[.slice h1 gq fN]) (c':=[num ((k:Nat):Int),.slice aG aF aD,nv,.slice h1 gq fN,a2]) b5.wf rfl rfl rfl rfl fP Ds (Nat.le_of_ble_eq_true rfl) rfl rfl fun A704 c7=>?_);have Dv:=c7.keep _ _ aA.symm Do;have sz:=sm.keep c7.keep a0;have sB:=sr.keep c7.keep a4;have sF:=ss.keep c7.keep a1;have sM:=sv.keep c7.keep d2;have sN:=lw.keep c7.keep gG;have lA:=sf.keep c7.keep gL;have oI:=oF.keep c7.keep a8;have x3:=ao x2 wf cv c7.n c7.keep;refine v9 _ _ (aX.none Y) ?_;refine cL.q Z Z Z (cM Z) ?_;refine cL.q Z Z Z (aj si fP U Z) ?_;obtain ⟨hA,hv,hd,F2,_⟩:=lA.own.slice;subst F2;refine cL.l Z Z Z (fun _ _ vC _=>be (cs:=[.slice hA hv hd]) (c':=[num ((k:Nat):Int),.slice aG aF aD,nv,.slice h1 gq fN,.slice hA hv hd]) c7.wf rfl rfl rfl rfl fP c7.get (Nat.le_of_ble_eq_true rfl) rfl rfl fun A717 cc=>?_);have Dw:=cc.keep _ _ aA.symm Dv;have sP:=sz.keep cc.keep a0;have sR:=sB.keep cc.keep a4;have sS:=sF.keep cc.keep a1;have sT:=sM.keep cc.keep d2;have sV:=sN.keep cc.keep gG;have sZ:=lA.keep cc.keep gL;have oJ:=oI.keep cc.keep a8;have x4:=ao x3 wf cv cc.n cc.keep;refine vC _ _ (aX.none Y) ?_;refine cL.done ?_;refine hh _ _<|.region<|.q Z (ah Z)<|.q Z (ah Z)<|.q Z (ah Z) ?_;obtain ⟨en,Hj,H8,Fd,GG,dk,nQ,Br,HC,EG,Hr,El⟩:=sP.at1 (x:=c) OB;rw [ax] at nQ;refine Ops.q Z (aH eB cD Z dk Z (by rw [nQ];(try simp only [List.length_set]);omega))<|.l Z (fun _ _ vS _=>be (off:=c) (c':=Fd.set c (num ((Q1.length:Nat):Int))) cc.wf rfl (by simp) rfl rfl cD Br (by show c + 1<=_;omega) rfl rfl fun A730 cH=>?_);have Dz:=cH.keep _ _ (fun q=>a5 (by rw [dk];exact congrArg some q.symm)) Dw;have DD:=cH.keep _ _ (fun q=>a0 (by rw [dk];exact congrArg some q.symm)) cc.get;have t0:=sR.keep cH.keep (aC en (by rw [dk];rfl));have t1:=sS.keep cH.keep (aZ en (by rw [dk];rfl));have t2:=sT.keep cH.keep ((bn.symm dO) en (by rw [dk];rfl));have t3:=sV.keep cH.keep ((bn.symm mK) en (by rw [dk];rfl));have t4:=sZ.keep cH.keep ((bn.symm mM) en (by rw [dk];rfl));have oK:=oJ.keep cH.keep (fun r hr=>ag r hr en (by rw [dk];rfl));have lB:=El (num ((Q1.length:Nat):Int)) A730 cH;rw [iy] at lB;have x5:=ao x4 wf EG cH.n cH.keep;refine vS _ _<|.nil<|f4 _ _<|.region<|.q Z (bE (b:=1) Z Z O)<|.q Z (ah Z)<|.nil ?_;exact ⟨⟨c + 1,r ++ [(Q1.length:Int)],(o.set c ((-1))).set c (((Q1.length:Nat):Int)),Q1 ++ [(step (Q1.getD i 0) c).getD 0],fi ++ [((i:Nat):Int)],bl ++ [((c:Nat):Int)],eY,fO,rv,dD,.slice h1 gq fN,.slice hA hv hd⟩,vJ Z Z Z Z Z Z Z Z Z Z Z,Z,⟨⟨by omega,za hexp (by rw [<- hgi];exact kF ‹_›) ‹_›,by simp;omega,by rw [ho,<- hrl];exact sd O,gl,g9,f7,by simp;omega,by simp;omega,hpre.trans (List.prefix_append _ _)⟩,x5,lB,t2,t3,t4,t0,t1,Dz,DD,a5,gA,xv,xA,aB,az,a0,d2,gG,gL,a4,a1,(bn.symm dO),(bn.symm mK),(bn.symm mM),aC,aZ,(bn.symm Ai),(bn.symm At),h3,h5,(bn.symm Av),Af,Ag,Ar,As,bP,oK,bb,a8,ag,h6,Ap,Ay,bC,bL⟩,O1⟩
  refine al.exit<|BB _ _<|.region<|.q Z (ah Z)<|.q Z (ah Z)<|.q Z (cM Z)<|.q Z (aj qE i6 U Z)<|.q Z (ak ki Z Z e1 Z)<|.q Z (ah Z) ?_;obtain ⟨eG,eA,ev,F3,_⟩:=dl.own.slice;subst F3;refine Ops.l Z (fun _ _ vX _=>aM (c:=[.slice eG eA ev]) f3 rfl (aw oT fP LX rfl U U rfl) fun A744 H3 aT=>?_);have xS:=dl.own.ne_new f3 aT.lo;have xV:=e0.ne_new f3 aT.lo;have nH:=aT.le.get _ _ eT;have nJ:=aT.le.get _ _ e1;have lC:=dl.le aT.le;have lE:=eS.le aT.le;have lF:=eQ.le aT.le;have lK:=eN.le aT.le;have lO:=eL.le aT.le;have lP:=dW.le aT.le;have hV:=e0.le aT.le;have x6:=me.trans aT.le;refine vX _ _<|.l Z (fun _ _ vZ _=>cR (ys:=[.slice eG eA ev]) rfl rfl oT fP Iy LX rfl U oT (fun _ h=>by cases h) lO.own (bW (n:=1) aT.get Z) rfl rfl (by show (_ + _) * 24<=_;simp only [cl,List.length_cons,List.length_nil];(try simp only [List.length_append,List.length_cons,List.length_nil]);omega) Or fun A765 Hx b7=>?_);rw [show ([.slice eG eA ev]:List Value)=er [Value.slice eG eA ev] from rfl,qc] at b7;obtain ⟨lT,x7⟩:=Fresh.grow lO x6 wf b7;have DG:=b7.keep aB nH;have xF:=b7.ne aB aT.wf nH;have DI:=b7.keep a4 nJ;have ms:=b7.ne a4 aT.wf nJ;have Az:=bn.appd (show bn nv (.slice eG eA ev) from (bn.symm aC)) lC.own aT.wf b7;have t5:=lC.appd b7 (bn.symm aC);have AA:=bn.appd (show bn nv bM from (bn.symm ch)) lE.own aT.wf b7;have t6:=lE.appd b7 (bn.symm ch);have AB:=bn.appd (show bn nv ab from (bn.symm b9)) lF.own aT.wf b7;have t7:=lF.appd b7 (bn.symm b9);have AC:=bn.appd (show bn nv a2 from (bn.symm ba)) lK.own aT.wf b7;have t8:=lK.appd b7 (bn.symm ba);have AD:=bn.appd (show bn nv (.slice aG aF aD) from bP) lP.own aT.wf b7;have t9:=lP.appd b7 bP;have AF:=aK.appd (show aK nv rw from bC) hV aT.wf b7;have oN:=hV.appd b7 (show aK nv rw from bC);have oP:=oN.snoc t5 ag;have y0:=bb.snoc a5;have mt:=a8.snoc a0;have Gq:=xV.snoc xS;have AG:=bS.snoc (bn.symm bO);have AI:=aP.snoc (bn.symm aV);have AP:=aR.snoc (bn.symm aY);have AR:=bL.snoc (bn.symm aZ);have AS:=AF.snoc Az;refine vZ _ _<|.q Z (cM Z)<|.q Z (aj qE i6 U Z) ?_;obtain ⟨hB,hw,he,F4,_⟩:=lT.own.slice;subst F4;refine Ops.l Z (fun _ _ w0 _=>be (cs:=[.slice hB hw he]) (c':=[num ((k:Nat):Int),.slice aG aF aD,.slice hB hw he,ab,a2]) b7.wf rfl rfl rfl rfl i6 DI (Nat.le_of_ble_eq_true rfl) rfl rfl fun A799 cP=>?_);have DJ:=cP.keep _ _ aA.symm DG;have tb:=t6.keep cP.keep bD;have ti:=t7.keep cP.keep a3;have tj:=t8.keep cP.keep ai;have tr:=t9.keep cP.keep a1;have ts:=lT.keep cP.keep ms;have oQ:=oP.keep cP.keep mt;have x8:=ao x7 wf cv cP.n cP.keep;refine w0 _ _<|.nil ?_;have fmR:=m4 oQ (show R ++ [o]=R ++ [r] from by rw [ho,show k - c=0 by omega];simp);refine G4 _ _<|.region<|.q Z (ah Z)<|.q Z (bE (b:=1) Z Z O)<|.q Z (ae Z)<|.nil ?_;exact ⟨⟨i + 1,Q1,ac ++ [accf (Q.getD i 0)],fi,bl,es,ck,f - 1,bM,.slice aG aF aD,.slice hB hw he,ab,a2,rw ++ [Value.slice eG eA ev],R ++ [r]⟩,yZ Z Z Z Z Z Z Z Z,Z,⟨⟨by omega,by rw [hac,O7 hpre (show i + 1<=Q.length by omega)];exact su (z:=(0:Int)) accf O,ez,f5,f6,Bq O O hex (by rw [<- show c=k by omega];exact hexp),by omega,hp,hn,by simp;omega⟩,x8,tb,tr,ts,ti,tj,DJ,cP.get,bc,az,xF,aa,a9,bD,a1,ms,a3,ai,cZ,(bn.symm AA),cV,cX,(bn.symm AD),(bn.symm bA),(bn.symm bB),AB,AC,bu,fmR,y0,mt,AG,AR,AS,AI,AP⟩,O1⟩
 refine al.exit<|G0 _ _<|.seq fun _ DK=>.region<|.q Z (ah Z)<|.q Z (ae Z)<|.q Z (ae Z)<|.nil<|DK _ _<|.rt (by exact aE Z (⟨b6,_,_,_,_,_,Z,hx,o2,dM,cv,cy ft (congrArg ce (by rw [hac,List.take_of_length_le O,<- hex,vK O O])),fD,m4 fE (by rw [<- hex,vK O O]),dw,dz,dm,e3,dv,e4⟩))
end Go.Proofs.YtjppkekmddjcfaaGreatDoor

namespace Go.Proofs.YtjppkekmddjcfaaGreatDoor
open Go Go.RowKit V
set_option maxRecDepth 100000
theorem qZ:dn Tryz.prog 62=some true:=by kernel_rfl
theorem j8:da Tryz.prog 62=some 4:=by kernel_rfl

theorem Qx (s:Int) (c:Nat) (b cap:Nat) (rw:Bool) (k:Nat) (acc:List Bool) (L:List (List Int)) (av nv:Value) (rows:List Value) (A:AH) (hb:A.get b=some (.row rw [num (k:Int),num ((0:Nat):Int),av,nv] cap)) (hok:LY k acc L) (hav:bI A 1 av (ce acc)) (hnv:bI A 1 nv (er rows)) (hrl:rows.length=L.length) (hF:∀ i,i < L.length->bI A 1 (rows.getD i undef) (cN (L.getD i []))) (hs:s < L.length) (hc:c < k):bz Tryz.prog 150 #[num (s),num ((c:Nat):Int),.pointer (some ⟨b,0,none⟩)] A (fun v A1=>v=.tuple #[num ((oo L s c).getD 0),.bool (oo L s c).isSome]/\A.le A1/\A1.wf):=by
 refine uC Tryz.call150 Tryz.func150 Z Tryz.results150 Tryz.ntmps150 Z (fun wf=>?_);have h:=AH.le.refl A;refine al.seq fun _ h2=>.region<|.q Z (ae Z)<|.q Z (ae Z)<|.nil<|h2 _ _<|.seq fun _ h4=>.region<|.q Z (an qZ j8 Z Z (h.get _ _ hb) Z)<|.q Z (ah Z) ?_;refine Ops.q Z (ah Z)<|.l Z (fun _ _ X _=>au Z (Qh k acc L av nv rows s c A hok (hav.le h) (hnv.le h) hrl (fun i hi=>(hF i hi).le h) O O) ?_);rintro v6 A7 ⟨rfl,D,V⟩;have a0:=h.trans D;refine X _ _<|.q Z (ae Z)<|.q Z (ae Z)<|.nil<|h4 _ _<|.rt (by exact aE Z (⟨Z,a0,V⟩))

theorem Qy (s:Int) (b cap:Nat) (rw:Bool) (k:Nat) (acc:List Bool) (L:List (List Int)) (av nv:Value) (rows:List Value) (A:AH) (hb:A.get b=some (.row rw [num (k:Int),num ((0:Nat):Int),av,nv] cap)) (hok:LY k acc L) (hav:bI A 1 av (ce acc)) (hnv:bI A 1 nv (er rows)) (hrl:rows.length=L.length) (hF:∀ i,i < L.length->bI A 1 (rows.getD i undef) (cN (L.getD i []))) (hs:s < L.length):bz Tryz.prog 152 #[num (s),.pointer (some ⟨b,0,none⟩)] A (fun v A1=>v=.bool (decide (0<=s) && acc.getD s.toNat false)/\A.le A1/\A1.wf):=by
 refine mf Tryz.call152 Tryz.func152 Z Tryz.results152 Tryz.ntmps152 Z (fun wf=>?_);have h:=AH.le.refl A;obtain ⟨⟨a1,a2⟩,hal,⟨X,a0⟩,hrow,hval⟩:=hok;refine al.seq fun _ h2=>.region<|.q Z (ae Z)<|.nil<|h2 _ _<|.seq fun _ h4=>.region<|.q Z (ah Z)<|.q Z (k8 Z Z)<|.q Z (ah Z) ?_;refine Ops.part (t:=6) Z (fun p5=>?_) (fun p5=>?_)
 ·refine Ops.on Z Z<|.q Z (aj lI iM U Z)<|.on Z Z<|.q Z (ak iI Z Z (h.get _ _ hb) Z)<|.on Z Z<|.q Z (ah Z)<|.on Z Z ?_;obtain ⟨b6,f6,a4,r6,a3,n6,k6,e6,l6,g6,V,D⟩:=bI.at (i:=(s).toNat) (hav.le h) Oi O;refine Ops.q Z (aH mc mn Z e6 (eR O) l6)<|.on Z Z<|.q Z (ak uM Z Z g6 ((cQ D).trans (ep O)))<|.q Z (aJ Z Z)<|.q Z (ae Z)<|.nil<|h4 _ _<|.rt (by exact aE Z (⟨by first | (rw [decide_eq_true O];rfl) | (rw [decide_eq_false O];rfl) | simp_all [dX],h,wf⟩))
 refine Ops.off Z Z Z Z<|.off Z Z Z Z<|.off Z Z Z Z<|.off Z Z Z Z<|.off Z Z Z Z<|.q Z (aL Z Z)<|.q Z (ae Z)<|.nil<|h4 _ _<|.rt (by exact aE Z (⟨by first | (rw [decide_eq_true O];rfl) | (rw [decide_eq_false O];rfl) | simp_all [dX],h,wf⟩))

theorem Um (k:Nat) (acc:List Bool) (L:List (List Int)) (av nv:Value) (rows:List Value) (A:AH) (hok:LY k acc L) (hav:bI A 1 av (ce acc)) (hnv:bI A 1 nv (er rows)) (hrl:rows.length=L.length) (hF:∀ i,i < L.length->bI A 1 (rows.getD i undef) (cN (L.getD i []))):bz Tryz.prog 118 #[.agg #[num ((k:Nat):Int),num ((0:Nat):Int),av,nv]] A (fun v A1=>∃ b av2 nv2 fv bv rows2,v=.pointer (some ⟨b,0,none⟩)/\A.le A1/\A1.wf/\A1.get b=some (.row true [num (k:Int),av2,nv2,fv,bv] 5)/\A.get b=none/\Fresh A A1 av2 1 (ce (xb k acc L))/\Fresh A A1 nv2 1 (er rows2)/\kY A A1 rows2 (ib k L).2/\blk av2 ≠ some b/\blk nv2 ≠ some b/\dH rows2 b/\bn av2 nv2/\aK av2 rows2/\aK nv2 rows2):=by
 refine ic Tryz.call118 Tryz.func118 Z Tryz.results118 Tryz.ntmps118 Z (fun wf=>?_);have aP:=AH.le.refl A;have a0:=hok;obtain ⟨⟨b0,b1⟩,hal,⟨aY,aZ⟩,hrow,hval⟩:=hok;refine al.seq fun _ h2=>.region<|.l Z (fun _ _ aI _=>dP wf rfl rfl fun A5 b4 V=>?_);have X:=aP.trans V.le;refine aI _ _<|.q Z (ae Z)<|.nil<|h2 _ _<|.seq fun _ h9=>.drawn [0,1,2,3,4,5,6,8,9,7,10,11,12,13,14,15] mixed Y Y Z<|.q Z Z Z (aj tn cD U Z) ?_;have ai:=c5 (off:=0) V.get (show _=some (num ((k:Nat):Int)) from rfl);refine bk.q Z Z Z (ak df Z Z V.get Z)<|.q Z Z Z (aj lI iM U Z) ?_;have ap:=c5 (off:=2) V.get (show _=some (av) from rfl);refine bk.q Z Z Z (ak iI Z Z V.get Z)<|.q Z Z Z (bF (n:=acc.length) mc Z (hav.le X) O (fu _))<|.q Z Z Z (bE (b:=2) Z Z O)<|.q Z Z Z (an qZ j8 Z Z V.get Z)<|.q Z Z Z (mD Z Z)<|.q Z Z Z (mD Z Z)<|.l Z Z Z (fun _ _ az _=>au Z (Qi k acc L av nv rows A5 a0 (hav.le X) (hnv.le X) hrl (fun i hi=>(hF i hi).le X)) ?_);rintro b2 A18 ⟨rfl,D,aV⟩;have ag:=D.get _ _ V.get;have ar:=cr D ai;have ay:=cr D ap;have h:=X.trans D;refine az _ _ (aX.list (L:=[(⟨b4,2,none⟩,av),(⟨b4,0,none⟩,num ((k:Nat):Int))]) Y (bx ay (bx ar cO)))<|.l Z Z Z (fun _ _ aA _=>au Z (yy k (acc.length + 2) (L.length + 1) (L.length + 2) (((0:Nat):Int)) 150 152 #[.pointer (some ⟨b4,0,none⟩)] #[.pointer (some ⟨b4,0,none⟩)] (oo L) (fun s=>decide (0<=s) && acc.getD s.toNat false) (fun q=>-1<=q/\q < (L.length:Int)) A18 O ⟨by omega,by omega,by omega⟩ ⟨by omega,by omega⟩ (fun q c t hq hc hs=>by simp only [oo,Option.some.injEq] at hs;subst hs;split;exact ⟨by omega,by omega⟩;have:=hval q.toNat c O hc;exact ⟨by omega,by omega⟩) (fun Q hn hQ=>ry hn hQ) (fun q c B hq hc le wfB=>Qx q c b4 _ _ k acc L av nv rows B (le.get _ _ ag) a0 (hav.le (h.trans le)) (hnv.le (h.trans le)) hrl (fun i hi=>(hF i hi).le (h.trans le)) O hc) (fun q B hq le wfB=>Qy q b4 _ _ k acc L av nv rows B (le.get _ _ ag) a0 (hav.le (h.trans le)) (hnv.le (h.trans le)) hrl (fun i hi=>(hF i hi).le (h.trans le)) O)) ?_);rintro b3 A30 ⟨aT,aC,aR,aF,aD,aS,rfl,ac,ad,a4,a3,a1,a5,a2,a6,a7,a8,a9,aa,ab⟩;have aB:=h.trans ac;have xr:=a4;have xn:=a3;have xa:=a1;have xv:=a5;have xf:=a2;have y1:=a6;have y2:=a7;have y3:=a8;have y4:=a9;have y5:=aa;have y6:=ab;refine aA _ _ (aX.none Y)<|.q Z Z Z (ah Z)<|.q Z Z Z (aQ Z Z)<|.q Z Z Z (aQ Z Z)<|.q Z Z Z (ae Z)<|.q Z Z Z (ae Z)<|.done<|h9 _ _<|.seq fun _ aG=>.region ?_;refine Ops.q Z (ah Z)<|.q Z (ae Z)<|.nil<|aG _ _<|.rt (by exact aE Z (⟨_,_,_,_,_,_,Z,aB,ad,a4,sy h a3,a1.base h,a5.base h,a2.base h,a6,a7,a8,a9,aa,ab⟩))
end Go.Proofs.YtjppkekmddjcfaaGreatDoor

namespace Go.Proofs.YtjppkekmddjcfaaGreatDoor
open Go Go.RowKit V
def ri (ws:List Wd):Nat:=(ws.map List.length).sum
theorem EP (a:List Wd) (w:Wd):ri (a ++ [w])=ri a + w.length:=by simp [ri]
theorem ER (ws:List Wd) (i:Nat):ri (ws.take i)<=ri ws:=by
  unfold ri
  conv=>rhs;rw [<- List.take_append_drop i ws]
  rw [List.map_append,List.sum_append];omega
structure TI (k:Nat) (ws:List Wd) (i:Nat) (L:List (List Int)) (E:List Bool):Prop where
  run:wW k (ws.take i)=(L,E)
  tri:∃ W,UG k L E W ((ws.take i).map Gi)
  num:L.length<=1 + ri (ws.take i)
section
variable {k i:Nat} {ws:List Wd} {L L0:List (List Int)} {E E0:List Bool} {W S:List (List Nat)} {d:Int}
theorem TI.start:TI k ws 0 ([] ++ [DR k]) ([] ++ [false]) :=
  ⟨rfl,⟨[[]],⟨DP.start k,TW.start,(fun w h=>by cases h),fun m hm=>by
    obtain rfl:m=0:=by simp at hm;omega
    exact ⟨fun h=>by simp at h,fun h=>by cases h⟩⟩⟩,by simp⟩
theorem TI.ok (h:TI k ws i L E):DP k L E/\0 < L.length:=by
  obtain ⟨W,hT⟩:=h.tri
  exact ⟨hT.ok,by have:=hT.tw.pos;have:=hT.tw.len;omega⟩
theorem TI.len (h:TI k ws i L E):E.length=L.length:=h.ok.1.len
theorem TI.next (h:TI k ws i L E) (hi:i < ws.length) (hw:∀ c ∈ ws.getD i [],0<=ix c/\ix c < k):TI k ws (i + 1) (xo k L E (ws.getD i [])) (xm k L E (ws.getD i [])):=by
  obtain ⟨W,hT⟩:=h.tri
  obtain ⟨W1,h1,h2⟩:=hT.add hw
  have e:ws.take (i + 1)=ws.take i ++ [ws.getD i []]:=(f8 (z:=[]) hi).symm
  refine ⟨?_,⟨W1,?_⟩,?_⟩
  · have hr:=h.run
    rw [e,wW,List.foldl_append]
    show (fun t w=>(xo k t.1 t.2 w,xm k t.1 t.2 w)) (wW k (ws.take i)) (ws.getD i [])=_
    rw [hr]
  · rw [e,List.map_append];exact h1
  · rw [e,EP];have:=h.num;omega
theorem TI.bound (h:TI k ws i L E):L.length<=1 + ri ws:=Nat.le_trans h.num (by have:=ER ws i;omega)
end
structure BO (k:Nat) (L0:List (List Int)) (W S:List (List Nat)) (R:BS) (i:Nat) (L:List (List Int)) (E:List Bool) (F Q:List Int):Prop where
  tw:TW k L0 W
  sub:∀ w ∈ S,w ∈ W
  ne:[] ∉ S
  inv:BI k L0 W S ⟨L,E,F,Q⟩ i 0
  fin:∃ f,f + i=W.length + 1/\Wk k f i ⟨L,E,F,Q⟩=R
structure BN (k:Nat) (L0:List (List Int)) (W S:List (List Nat)) (R:BS) (i:Nat) (L:List (List Int)) (E:List Bool) (F Q:List Int) (x:Nat) (L1:List (List Int)) (E1:List Bool) (F1 Q1:List Int):Prop where
  out:BO k L0 W S R i L E F Q
  lt:i < Q.length
  inv:BI k L0 W S ⟨L1,E1,F1,Q1⟩ i x
  run:(List.range x).foldl (vr (Q.getD i 0).toNat) ⟨L,E,F,Q⟩=⟨L1,E1,F1,Q1⟩
  pre:Q <+: Q1
section
variable {k i x:Nat} {L L1 L0:List (List Int)} {E E0 E1:List Bool} {F Q F1 Q1:List Int} {W S:List (List Nat)} {R:BS} {ws:List Wd} {d:Int}
abbrev xl (L1:List (List Int)) (E1:List Bool) (F1 Q1:List Int) (n x:Nat):Int:=kX ⟨L1,E1,F1,Q1⟩ n x
theorem BO.start {ws:List Wd} (h:TI k ws ws.length L E) (hne:∀ w ∈ ws,w ≠ []):∃ W,BO k L W (ws.map Gi) (D6 k ws) 0 L E (List.replicate L.length 0) [0]:=by
  obtain ⟨W,hT⟩:=h.tri
  have e:ws.take ws.length=ws:=List.take_length
  rw [e] at hT
  have hr:=h.run
  rw [e] at hr
  have hl:=hT.tw.len
  have hn:([]:List Nat) ∉ ws.map Gi:=fun q=>by
    obtain ⟨w,hw,q⟩:=List.mem_map.1 q
    exact hne w hw (List.map_eq_nil_iff.1 q)
  refine ⟨W,hT.tw,hT.sub,hn,by rw [<- hl];exact BI.start hT hn,W.length + 1,Z,?_⟩
  rw [D6,hr,hl]
theorem BO.lens (h:BO k L0 W S R i L E F Q):L.length=W.length/\E.length=W.length/\F.length=W.length/\Q.length<=W.length/\L0.length=W.length:=⟨h.inv.len.1,h.inv.len.2.1,h.inv.len.2.2,h.inv.qlen,h.tw.len.symm⟩
theorem BO.at (h:BO k L0 W S R i L E F Q) (hi:i < Q.length):0<=Q.getD i 0/\(Q.getD i 0).toNat < W.length/\(L.getD (Q.getD i 0).toNat []).length=k:=by
  have h1:0<=Q.getD i 0/\Q.getD i 0 < W.length:=h.inv.qr i hi
  have h2:=h.inv.row (Q.getD i 0).toNat O
  exact ⟨h1.1,by omega,h2⟩
theorem BN.start (h:BO k L0 W S R i L E F Q) (hi:i < Q.length):BN k L0 W S R i L E F Q 0 L E F Q:=⟨h,hi,h.inv,rfl,List.prefix_refl _⟩
theorem BN.q (h:BN k L0 W S R i L E F Q x L1 E1 F1 Q1):Q1.getD i 0=Q.getD i 0/\i < Q1.length:=⟨wo h.pre h.lt,Nat.lt_of_lt_of_le h.lt h.pre.length_le⟩
theorem BN.lens (h:BN k L0 W S R i L E F Q x L1 E1 F1 Q1):L1.length=W.length/\E1.length=W.length/\F1.length=W.length/\Q1.length<=W.length/\L0.length=W.length:=⟨h.inv.len.1,h.inv.len.2.1,h.inv.len.2.2,h.inv.qlen,h.out.tw.len.symm⟩
theorem BN.facts (h:BN k L0 W S R i L E F Q x L1 E1 F1 Q1):0<=Q.getD i 0/\(Q.getD i 0).toNat < W.length/\(L1.getD (Q.getD i 0).toNat []).length=k:=by
  have h1:=h.out.at h.lt
  exact ⟨h1.1,h1.2.1,h.inv.row _ h1.2.1⟩
theorem BN.fail (h:BN k L0 W S R i L E F Q x L1 E1 F1 Q1) (hn:Q.getD i 0 ≠ 0):0<=F1.getD (Q.getD i 0).toNat 0/\(F1.getD (Q.getD i 0).toNat 0).toNat < W.length/\(L1.getD (F1.getD (Q.getD i 0).toNat 0).toNat []).length=k:=by
  have hq:=h.q
  have D:0 < i:=by
    rcases Nat.eq_zero_or_pos i with q | q
    · subst q;have h0:Q1.getD 0 0=0:=h.inv.q0.2;rw [hq.1] at h0;exact absurd h0 hn
    · exact q
  have h1:0<=F1.getD (Q1.getD i 0).toNat 0/\F1.getD (Q1.getD i 0).toNat 0 < W.length:=(fun z=>⟨z.1,z.2.1⟩) (h.inv.fl i D hq.2)
  rw [hq.1] at h1
  exact ⟨h1.1,by omega,h.inv.row _ O⟩
theorem BN.to (h:BN k L0 W S R i L E F Q x L1 E1 F1 Q1) (hx:x < k):0<=xl L1 E1 F1 Q1 (Q.getD i 0).toNat x/\(xl L1 E1 F1 Q1 (Q.getD i 0).toNat x).toNat < W.length:=by
  have hq:=h.q
  have h1:0<=xl L1 E1 F1 Q1 (Q1.getD i 0).toNat x/\xl L1 E1 F1 Q1 (Q1.getD i 0).toNat x < W.length:=(fun z=>⟨z.1,z.2.1⟩) (h.inv.to h.out.tw hq.2 hx)
  rw [hq.1] at h1
  omega
theorem BN.met (h:BN k L0 W S R i L E F Q x L1 E1 F1 Q1) (hx:x < k) (hm:0<=(L1.getD (Q.getD i 0).toNat []).getD x 0):((L1.getD (Q.getD i 0).toNat []).getD x 0).toNat < W.length:=by
  have hq:=h.q
  have hf:=h.facts
  have e:ig L1 (Q.getD i 0).toNat x=ig L0 (Q.getD i 0).toNat x:=h.inv.same _ x hf.2.1 hx fun a ha ea=>by
    have e2:qn ⟨L1,E1,F1,Q1⟩ a=qn ⟨L1,E1,F1,Q1⟩ i:=by rw [ea];show _=(Q1.getD i 0).toNat;rw [hq.1]
    exact .inr ⟨h.inv.qd a i ha hq.2 e2,Nat.le_refl _⟩
  have:=h.out.tw.is (Q.getD i 0).toNat x hf.2.1 hx (by rw [<- e];exact hm)
  rw [<- e] at this
  exact this.1
theorem Jl {n:Int} (h:¬ n=0) (h0:0<=n):num ((L1.getD (F1.getD n.toNat 0).toNat []).getD x 0)=num (xl L1 E1 F1 Q1 n.toNat x):=by
  show _=num (kX _ _ _);rw [kX,if_neg O]
theorem QM {n:Int} (h:¬ ¬ n=0):num ((0:Nat):Int)=num (xl L1 E1 F1 Q1 n.toNat x):=by
  have:=Decidable.not_not.1 h;subst this;rfl
theorem BN.step (h:BN k L0 W S R i L E F Q x L1 E1 F1 Q1) (hx:x < k) {L2:List (List Int)} {E2:List Bool} {F2 Q2:List Int} (e:vr (Q.getD i 0).toNat ⟨L1,E1,F1,Q1⟩ x=⟨L2,E2,F2,Q2⟩) (hp:Q1 <+: Q2):BN k L0 W S R i L E F Q (x + 1) L2 E2 F2 Q2:=by
  have hq:=h.q
  refine ⟨h.out,h.lt,?_,?_,h.pre.trans hp⟩
  · have:=h.inv.step h.out.tw h.out.sub h.out.ne hq.2 hx
    rw [show qn ⟨L1,E1,F1,Q1⟩ i=(Q.getD i 0).toNat by show (Q1.getD i 0).toNat=_;rw [hq.1],e] at this
    exact this
  · rw [List.range_succ,List.foldl_append,h.run];exact e
theorem BN.neg (h:BN k L0 W S R i L E F Q x L1 E1 F1 Q1) (hx:x < k) (hm:(L1.getD (Q.getD i 0).toNat []).getD x 0 < 0):BN k L0 W S R i L E F Q (x + 1) (L1.set (Q.getD i 0).toNat ((L1.getD (Q.getD i 0).toNat []).set x (xl L1 E1 F1 Q1 (Q.getD i 0).toNat x))) E1 F1 Q1 :=
  h.step hx (by rw [vr,if_pos hm]) (List.prefix_refl _)
theorem BN.pos (h:BN k L0 W S R i L E F Q x L1 E1 F1 Q1) (hx:x < k) (hm:¬ (L1.getD (Q.getD i 0).toNat []).getD x 0 < 0) {c:Bool} (hc:c=(E1.getD ((L1.getD (Q.getD i 0).toNat []).getD x 0).toNat false || E1.getD (xl L1 E1 F1 Q1 (Q.getD i 0).toNat x).toNat false)) :
    BN k L0 W S R i L E F Q (x + 1) L1 (E1.set ((L1.getD (Q.getD i 0).toNat []).getD x 0).toNat c) (F1.set ((L1.getD (Q.getD i 0).toNat []).getD x 0).toNat (xl L1 E1 F1 Q1 (Q.getD i 0).toNat x)) (Q1 ++ [(L1.getD (Q.getD i 0).toNat []).getD x 0]):=by
  subst hc
  exact h.step hx (by rw [vr,if_neg hm]) (List.prefix_append _ _)
theorem BO.next (h:BN k L0 W S R i L E F Q x L1 E1 F1 Q1) (hx:x=k):BO k L0 W S R (i + 1) L1 E1 F1 Q1:=by
  subst hx
  have hq:=h.q
  obtain ⟨f,hf,e⟩:=h.out.fin
  have hl:=h.out.inv.qlen
  have hlt:=h.lt
  have D:Q.length<=W.length:=hl
  obtain ⟨f,rfl⟩:∃ g,f=g + 1:=⟨f - 1,by omega⟩
  refine ⟨h.out.tw,h.out.sub,h.out.ne,h.inv.next hq.2,f,by omega,?_⟩
  rw [Wk,if_pos (by exact hlt)] at e
  have e2:Wn x ⟨L,E,F,Q⟩ i=⟨L1,E1,F1,Q1⟩:=h.run
  rw [e2] at e;exact e
theorem BO.fin' (h:BO k L0 W S R i L E F Q) (hi:Q.length<=i):R=⟨L,E,F,Q⟩/\Wa k L E W S:=by
  obtain ⟨f,hf,e⟩:=h.fin
  have hl:=h.inv.qlen
  refine ⟨?_,h.inv.aho h.tw h.sub hi⟩
  rw [<- e]
  cases f with
  | zero=>rfl
  | succ f=>rw [Wk,if_neg (by show ¬ i < Q.length;omega)]
def po (E:List Bool) (r:List Int) (x:Nat):List Int:=eE E (r.take x) ++ r.drop x
def nr (E:List Bool) (L:List (List Int)) (s x:Nat):List (List Int):=(L.take s).map (eE E) ++ (match L.drop s with | []=>[] | r :: t=>po E r x :: t)
theorem og (E:List Bool) (r:List Int):(eE E r).length=r.length:=by simp [eE]
theorem Be {r:List Int}:(po E r x).length=r.length:=by simp [po,eE];omega
theorem xJ {r:List Int}:po E r 0=r:=by simp [po,eE]
theorem MQ {r:List Int} (h:r.length<=x):po E r x=eE E r:=by simp [po,List.take_of_length_le h,List.drop_eq_nil_of_le h]
theorem Sg {r:List Int} {y:Nat} (hx:x<=y) (hy:y < r.length):(po E r x).getD y 0=r.getD y 0:=by
  simp only [po,List.getD_eq_getElem?_getD]
  rw [List.getElem?_append_right (by rw [og,List.length_take];omega),List.getElem?_drop,og,List.length_take]
  congr 2;omega
theorem xI {r:List Int} (hx:x < r.length):po E r (x + 1)=if E.getD (r.getD x 0).toNat false then (po E r x).set x (-1) else po E r x:=by
  have e1:r.take (x + 1)=r.take x ++ [r.getD x 0]:=(f8 (z:=0) hx).symm
  have e2:r.drop x=r.getD x 0 :: r.drop (x + 1):=uk hx
  have hl:(eE E (r.take x)).length=x:=by rw [og,List.length_take];omega
  have e3:eE E (r.take x ++ [r.getD x 0])=eE E (r.take x) ++ [if E.getD (r.getD x 0).toNat false then -1 else r.getD x 0]:=by simp only [eE,List.map_append,List.map_cons,List.map_nil]
  have e4:po E r x=eE E (r.take x) ++ r.getD x 0 :: r.drop (x + 1):=by rw [<- e2];rfl
  have e5:po E r (x + 1)=eE E (r.take x) ++ (if E.getD (r.getD x 0).toNat false then -1 else r.getD x 0) :: r.drop (x + 1):=by
    show eE E (r.take (x + 1)) ++ r.drop (x + 1)=_
    rw [e1,e3,List.append_assoc];rfl
  rw [e5,e4]
  split
  · rw [List.set_append_right _ _ O,hl,Nat.sub_self,List.set_cons_zero]
  · rfl
theorem ns {s:Nat} (h:s < L.length):L.drop s=L.getD s [] :: L.drop (s + 1):=uk h
theorem AW {s:Nat}:(nr E L s x).length=L.length:=by
  unfold nr
  rcases Nat.lt_or_ge s L.length with h | h
  · rw [ns h];simp;omega
  · rw [List.drop_eq_nil_of_le h];simp;omega
theorem Ew:nr E L 0 0=L:=by
  cases L with
  | nil=>rfl
  | cons r t=>show [] ++ po E r 0 :: t=_;rw [xJ];rfl
theorem sa {s:Nat} (h:s < L.length):(nr E L s x).getD s []=po E (L.getD s []) x:=by
  unfold nr;rw [ns h]
  have hl:((L.take s).map (eE E)).length=s:=by simp;omega
  simp only [List.getD_eq_getElem?_getD]
  rw [List.getElem?_append_right O,hl,Nat.sub_self];rfl
theorem AX {s:Nat} (h:s < L.length) (hx:x < (L.getD s []).length) (he:E.getD ((L.getD s []).getD x 0).toNat false=true):(nr E L s x).set s (((nr E L s x).getD s []).set x (-1))=nr E L s (x + 1):=by
  rw [sa h]
  unfold nr;rw [ns h]
  have hl:((L.take s).map (eE E)).length=s:=by simp;omega
  rw [List.set_append_right _ _ O,hl,Nat.sub_self]
  show _ ++ _ :: _=_ ++ _ :: _
  rw [xI hx,if_pos he]
theorem Ii {s:Nat} (h:s < L.length) (hx:x < (L.getD s []).length) (he:E.getD ((L.getD s []).getD x 0).toNat false=false):nr E L s x=nr E L s (x + 1):=by
  unfold nr;rw [ns h]
  show _ ++ _ :: _=_ ++ _ :: _
  rw [xI hx,he];rfl
theorem JG {s:Nat} (h:s < L.length) (hx:(L.getD s []).length<=x):nr E L s x=nr E L (s + 1) 0:=by
  unfold nr
  rw [ns h,<- f8 (z:=[]) h,List.map_append]
  show _ ++ po E _ x :: _=_
  rw [MQ hx,List.append_assoc]
  congr 1
  show _=[eE E (L.getD s [])] ++ _
  rw [List.singleton_append];congr 1
  cases L.drop (s + 1) with
  | nil=>rfl
  | cons r t=>show _=po E r 0 :: t;rw [xJ]
theorem MP {s:Nat} (h:L.length<=s):nr E L s x=L.map (eE E):=by
  unfold nr
  rw [List.drop_eq_nil_of_le h,List.take_of_length_le h];simp
theorem JF {s:Nat} (h:s < L.length) (hx:x < (L.getD s []).length):((nr E L s x).getD s []).getD x 0=(L.getD s []).getD x 0:=by
  rw [sa h,Sg (Nat.le_refl _) hx]
end
end Go.Proofs.YtjppkekmddjcfaaGreatDoor

namespace Go.Proofs.YtjppkekmddjcfaaGreatDoor
open Go Go.RowKit V
def yX:List UInt8:=[48,49,50,51,52,53,54,55,56,57,97,98,99,100,101,102,103,104,105,106,107,108,109,110,111,112,113,114,115,116,117,118,119,120,121,122]
def tu:Nat->Nat->List UInt8
  | 0,_=>[]
  | f + 1,n=>if n < 36 then [yX.getD n 0] else tu f (n / 36) ++ [yX.getD (n % 36) 0]
def iq (n:Nat):List UInt8:=tu 13 n
theorem BE:∀ (f n:Nat),(tu f n).length<=f
  | 0,_=>Nat.le_refl _
  | f + 1,n=>by
    unfold tu;split
    · simp
    · have:=BE f (n / 36);simp;omega
theorem tq (n:Nat):(iq n).length<=13:=BE 13 n
def Jm (c:UInt8):Nat:=yX.idxOf c
theorem uU:∀ d,d < 36->Jm (yX.getD d 0)=d/\yX.getD d 0 ≠ 32/\yX.getD d 0 ≠ 45:=by decide
theorem uX:∀ (f n:Nat),∀ c ∈ tu f n,c ≠ 32/\c ≠ 45
  | 0,_,_,h=>by cases h
  | f + 1,n,c,h=>by
    unfold tu at h;split at h
    · rename_i q;rw [List.mem_singleton] at h;subst h;exact (uU n q).2
    · rcases List.mem_append.1 h with q | q
      · exact uX f _ c q
      · rw [List.mem_singleton] at q;subst q;exact (uU _ (Nat.mod_lt _ U)).2
def Jo (l:List UInt8):Nat:=l.foldl (fun a c=>a * 36 + Jm c) 0
theorem rP:∀ (f n:Nat),n < 36 ^ f->Jo (tu f n)=n
  | 0,n,h=>by simp at h;subst h;rfl
  | f + 1,n,h=>by
    unfold tu;split
    · rename_i q;show 0 * 36 + Jm _=n;rw [(uU n q).1];omega
    · have:=rP f (n / 36) (by rw [Nat.pow_succ] at h;exact Nat.div_lt_of_lt_mul O)
      rw [Jo,List.foldl_append]
      show Jo (tu f (n / 36)) * 36 + Jm _=n
      rw [this,(uU _ (Nat.mod_lt _ U)).1];omega
theorem JQ {a b:Nat} (ha:a < 1000000) (hb:b < 1000000) (h:iq a=iq b):a=b:=by
  have h1:=rP 13 a (Nat.lt_of_lt_of_le ha U)
  have h2:=rP 13 b (Nat.lt_of_lt_of_le hb U)
  rw [<- h1,<- h2];exact congrArg Jo h
structure vh (n m i:Nat) (l:List UInt8):Prop where
  len:l.length=65
  eq:∃ f,f + 52=i/\0 < f/\f<=13/\iq n=tu f m ++ l.drop i/\m < 36 ^ f
  le:m<=n
section
variable {n m i f:Nat} {l:List UInt8}
theorem vh.start (hn:n<=1000000):vh n n 65 (List.replicate 65 0):=⟨by simp,⟨13,rfl,by decide,by decide,by simp [iq],Nat.lt_of_le_of_lt hn U⟩,Nat.le_refl _⟩
theorem vh.idx (h:vh n m i l):53<=i/\i<=65:=by obtain ⟨f,h1,h2,h3,_⟩:=h.eq;omega
theorem Bh {l:List UInt8} {j:Nat} {c:UInt8} (h:j < l.length):(l.set j c).drop j=c :: l.drop (j + 1):=by
  rw [List.drop_eq_getElem_cons (by simpa using h),List.drop_set_of_lt O]
  simp
theorem vh.next (h:vh n m i l) (hm:36<=m):vh n (m / 36) (i - 1) (l.set (i - 1) (yX.getD (m - m / 36 * 36) 0))/\54<=i:=by
  obtain ⟨f,h1,h2,h3,h4,h5⟩:=h.eq
  have hf:2<=f:=by
    rcases Nat.lt_or_ge f 2 with q | q
    · obtain rfl:f=1:=by omega
      omega
    · exact q
  obtain ⟨f,rfl⟩:∃ g,f=g + 1:=⟨f - 1,by omega⟩
  refine ⟨⟨by simpa using h.len,⟨f,by omega,by omega,by omega,?_,by rw [Nat.pow_succ] at h5;exact Nat.div_lt_of_lt_mul O⟩,Nat.le_trans (Nat.div_le_self _ _) h.le⟩,by omega⟩
  rw [h4,tu,if_neg O,Bh (by rw [h.len];omega),show i - 1 + 1=i by omega,List.append_assoc]
  rw [show m - m / 36 * 36=m % 36 by omega];rfl
theorem vh.last (h:vh n m i l) (hm:m < 36):(l.set (i - 1) (yX.getD m 0)).drop (i - 1)=iq n:=by
  obtain ⟨f,h1,h2,h3,h4,h5⟩:=h.eq
  obtain ⟨f,rfl⟩:∃ g,f=g + 1:=⟨f - 1,by omega⟩
  rw [h4,tu,if_pos hm,Bh (by rw [h.len];omega),show i - 1 + 1=i by omega];rfl
end
abbrev xD (n:Nat):Value:=.int .u64 (n:Int)
section
variable {P:Program} {e:gI} {A:AH} {x y:Operand} {t t':TypeId} {a b:Nat}
theorem GI {n:Int} (h:0<=n/\n<=18446744073709551615):IntKind.u64.wrap n=n:=IntWalk.u64_in n h
theorem Pc {k k₀:IntKind} (hs:P.underlying t=some (.int k₀)) (hd:P.underlying t'=some (.int .u64)) (h:bQ e x=some (.int k (a:Nat))) (hr:a<=18446744073709551615):aN P e A (.convert t t' x)=some (xD a,[]) :=
  Pb hs hd h (GI O)
theorem WU (h:bQ e x=some (xD a)) (h':bQ e y=some (xD b)) (hr:b<=a/\a<=18446744073709551615):aN P e A (.binOp .sub t x y t')=some (xD (a - b),[]):=by
  refine xw U U h h' ?_
  refine congrArg (fun z=>some (Value.int .u64 z)) ?_
  rw [GI O];omega
theorem WQ (h:bQ e x=some (xD a)) (h':bQ e y=some (xD b)) (hr:a * b<=18446744073709551615):aN P e A (.binOp .mul t x y t')=some (xD (a * b),[]):=by
  refine xw U U h h' ?_
  refine congrArg (fun z=>some (Value.int .u64 z)) ?_
  have:((a * b:Nat):Int)=(a:Int) * b:=Int.natCast_mul a b
  rw [GI (by rw [<- this];omega)];simp
theorem WT (h:bQ e x=some (xD a)) (h':bQ e y=some (xD b)) (hr:1<=b/\a<=18446744073709551615):aN P e A (.binOp .quo t x y t')=some (xD (a / b),[]):=by
  refine xw U U h h' ?_
  show (if (b:Int)=0 then none else _)=_
  rw [if_neg O]
  refine congrArg (fun z=>some (Value.int .u64 z)) ?_
  rw [IntWalk.u64_quo _ _ O];simp
end
section
variable {P:Program} {nt:Nat} {all:Array Oper} {os:List Oper} {Q:Exit->Fr->AH->Prop} {e:gI} {ds:List Deferred} {A:AH} {x lo:Operand} {t el:TypeId} {ty:TypeId} {ps:String} {af:Array Edge} {dst:Option Nat} {b n j:Nat}
theorem V.Ops.sliceArr (hd:gK nt dst=true) (hu:P.underlying t=some (.array n el)) (hs:da P el=some 1) (hx:bQ e x=some (.pointer (some ⟨b,0,none⟩))) (hlo:bQ e lo=some (num (j:Nat))) (hj:j < n)
    (h:Ops P nt all os Q ⟨fJ e dst (.slice (some ⟨b,j,none⟩) (n - j) (n - j)),ds⟩ A):Ops P nt all ({ dst:=dst,op:=.slice t x (some lo) none none,type:=ty,pos:=ps,after:=af,guard:=none } :: os) Q ⟨e,ds⟩ A:=by
  refine Ops.val Z hd (fun a ha w hw=>?_) h
  have h1:=cI ha hx
  have h2:=cI ha hlo
  simp only [execOp,h1,Option.map_some,h2,Option.map_none]
  have hb:=rN (P:=P) (w:=w) (isS:=false) (len:=n) (cap:=n) (lo:=some (some (num (j:Nat)))) (hi:=none) (lo':=some (num (j:Nat))) (hi':=none) (l:=(j:Int)) (h:=(n:Int)) (fun v q=>by cases q;exact ⟨_,rfl,rfl⟩) (fun q=>by cases q) (fun v q=>by cases q) (fun _=>rfl) Z Z O O O
  have hne:n ≠ j:=by omega
  simp [Instr.sliceAt,ca hu,hb,d9 hs,Instr.sureAddr,Addr.add,hne]
  intro z;omega
end
theorem Wi:RM .and .i64 ((36:Nat):Int) ((35:Nat):Int)=some (num ((32:Nat):Int)):=by
  have key:IntKind.i64.wrap ((BitVec.ofInt 64 ((36:Nat):Int) &&& BitVec.ofInt 64 ((35:Nat):Int)).toNat:Int)=((32:Nat):Int):=by decide
  show some (Value.int .i64 (IntKind.i64.wrap ((BitVec.ofInt 64 ((36:Nat):Int) &&& BitVec.ofInt 64 ((35:Nat):Int)).toNat:Int)))=_
  rw [key]
theorem Uo {A:AH} {b cap j:Nat} {rw:Bool} {c:List Value} (h:A.get b=some (.row rw c cap)) (hj:j<=c.length):bI A 1 (.slice (some ⟨b,j,none⟩) (c.length - j) (c.length - j)) (c.drop j) :=
  ⟨_,_,_,rfl,by simp,Nat.le_refl _,.inr ⟨b,j,rw,c,cap,rfl,h,by rw [Nat.mul_one,List.take_of_length_le (by simp)]⟩⟩
end Go.Proofs.YtjppkekmddjcfaaGreatDoor

namespace Go.Proofs.YtjppkekmddjcfaaGreatDoor
open Go Go.RowKit V
set_option maxRecDepth 100000
theorem u2:type_of% @Tryz.underlying2:=@Tryz.underlying2
theorem Xm:type_of% @Tryz.underlying201:=@Tryz.underlying201
theorem VQ:type_of% @Tryz.underlying246:=@Tryz.underlying246
theorem Yk:cx Tryz.prog 246=some (.agg #[.int .u8 0,.int .u8 0,.int .u8 0,.int .u8 0,.int .u8 0,.int .u8 0,.int .u8 0,.int .u8 0,.int .u8 0,.int .u8 0,.int .u8 0,.int .u8 0,.int .u8 0,.int .u8 0,.int .u8 0,.int .u8 0,.int .u8 0,.int .u8 0,.int .u8 0,.int .u8 0,.int .u8 0,.int .u8 0,.int .u8 0,.int .u8 0,.int .u8 0,.int .u8 0,.int .u8 0,.int .u8 0,.int .u8 0,.int .u8 0,.int .u8 0,.int .u8 0,.int .u8 0,.int .u8 0,.int .u8 0,.int .u8 0,.int .u8 0,.int .u8 0,.int .u8 0,.int .u8 0,.int .u8 0,.int .u8 0,.int .u8 0,.int .u8 0,.int .u8 0,.int .u8 0,.int .u8 0,.int .u8 0,.int .u8 0,.int .u8 0,.int .u8 0,.int .u8 0,.int .u8 0,.int .u8 0,.int .u8 0,.int .u8 0,.int .u8 0,.int .u8 0,.int .u8 0,.int .u8 0,.int .u8 0,.int .u8 0,.int .u8 0,.int .u8 0,.int .u8 0]):=by kernel_rfl

theorem VI (A:AH):bz Tryz.prog 213 #[num ((36:Nat):Int)] A (fun v A1=>v=.bool false/\A=A1):=by
 refine ic Tryz.call213 Tryz.func213 Z Tryz.results213 Tryz.ntmps213 Z (fun wf=>?_);have h:=AH.le.refl A;refine al.seq fun _ h2=>.region<|.q Z (ae Z)<|.nil<|h2 _ _<|.seq fun _ h4=>.region<|.q Z (ah Z)<|.q Z (ah Z)<|.q Z (il (a:=36) (b:=1) Z Z O) ?_;refine Ops.q Z (xw U U Z Z Wi)<|.q Z (((iC (a:=32) (b:=0) Z Z).trans (congrArg (fun z=>some (Value.bool z,[])) (decide_eq_false U))))<|.q Z (ae Z)<|.nil<|h4 _ _<|.rt (by exact aE Z (⟨Z,Z⟩))

theorem Lg (u:Value) (o:List UInt8) (n:Nat) (A0 A:AH) (ac:A0.le A) (a7:A0.wf) (hu:Fresh A0 A u 1 (aq o)) (ho:o.length<=100000000000) (hn:n<=1000000):bz Tryz.prog 210 #[u,.int .u64 ((n:Nat):Int),num ((36:Nat):Int),.bool (false),.bool (true)] A (fun v A1=>∃ w,v=.tuple #[w,bg []]/\A0.le A1/\A1.wf/\Fresh A0 A1 w 1 (aq (o ++ iq n))):=by
 refine Yo Tryz.call210 Tryz.func210 Z Tryz.results210 Tryz.ntmps210 Z (fun wf=>?_);refine al.seq fun _ h2=>.region<|.q Z (ae Z)<|.q Z (ae Z)<|.nil<|h2 _ _<|.seq fun _ h4=>.seq fun _ h6=>.region<|.q Z (ah Z) ?_;refine Ops.q Z (((bX (a:=36) (b:=2) Z Z).trans (congrArg (fun z=>some (Value.bool z,[])) (decide_eq_false U))))<|.q Z (ah Z)<|.on Z Z<|.q Z (ah Z)<|.on Z Z<|.q Z (((iC (a:=36) (b:=10) Z Z).trans (congrArg (fun z=>some (Value.bool z,[])) (decide_eq_false U))))<|.q Z (aL Z Z)<|.q Z (ah Z)<|.on Z Z<|.q Z (ah Z) ?_;refine Ops.on Z Z<|.q Z (((d8 (a:=36) (b:=36) Z Z).trans (congrArg (fun z=>some (Value.bool z,[])) (decide_eq_false U))))<|.q Z (aL Z Z)<|.nil<|h6 _ _<|.cond_false Z<|.skip<|h4 _ _<|.seq fun _ h8=>.region ?_;refine Ops.l Z (fun _ _ b8 _=>cm (cs:=aq (List.replicate 65 0)) wf Yk rfl fun A11 a8 a1=>?_);have aD:=hu.own.ne_new wf a1.lo;have a5:=aW a7 (Nat.le_trans ac.n a1.lo);have ad:=hu.le a1.le;have az:=ac.trans a1.le;refine b8 _ _<|.nil<|h8 _ _<|.seq fun _ aF=>.region<|.q Z (ae Z)<|.nil<|aF _ _<|.seq fun _ aG=>.seq fun _ aI=>?_;refine al.region<|.q Z (ah Z)<|.nil<|aI _ _<|.cond_false Z<|.skip<|aG _ _<|.seq fun _ aP=>.seq fun _ aR=>.region ?_;refine Ops.q Z (ah Z)<|.l Z (fun _ _ ap _=>au Z (VI A11) ?_);rintro bb A28 ⟨rfl,rfl⟩;refine ap _ _<|.nil<|aR _ _<|.cond_false Z<|.seq fun _ aS=>.region<|.q Z (ah Z)<|.q Z (Pc u3 Xm Z O)<|.q Z (ae Z)<|.nil ?_;refine aS _ _<|.seq fun _ aT=>.block<|.loop (X:=Nat × Nat × List UInt8) (fun ⟨m,i,l⟩=>[(0,u),(1,.int .u64 ((m:Nat):Int)),(3,.bool (false)),(4,.bool (true)),(10,.slice none 0 0),(11,bg ([])),(12,.pointer (some ⟨a8,0,none⟩)),(13,num ((i:Nat):Int)),(17,.int .u64 ((36:Nat):Int))]) (fun ⟨m,i,l⟩ B=>(vh n m i l)/\A0.le B/\Fresh A0 B u 1 (aq o)/\B.get a8=some (.row true (aq l) 65)/\V.blk u ≠ some a8) (fun ⟨m,i,l⟩=>m) (⟨n,65,List.replicate 65 0⟩) (UZ Z Z Z Z Z Z Z Z Z) (⟨vh.start hn,az,ad,a1.get,aD⟩) ?_;rintro ⟨m,i,l⟩ B35 ⟨hfm,aa,a4,a0,D⟩;refine al.wf fun ab=>?_;have hix:=hfm.idx;have hll:=hfm.len;have hmn:=hfm.le;have hnx:=fun q:36<=m=>hfm.next q;refine al.seq fun _ aV=>.seq fun _ aY=>.region<|.q Z (ah Z)<|.q Z (ah Z)<|.q Z (wq (b:=36) Z Z)<|.nil<|aY _ _<|.if rfl (fun b9=>?_) (fun b9=>?_)
 ·refine al.skip<|aV _ _<|.block<|.seq fun _ aZ=>.region<|.q Z (ah Z)<|.q Z (il (b:=1) Z Z (by (try have:=(hnx O).2);omega))<|.q Z (ae Z)<|.nil<|aZ _ _ ?_;refine al.seq fun _ b0=>.region<|.q Z (ah Z)<|.q Z (ah Z)<|.q Z (WT (b:=36) Z Z (by (try have:=(hnx O).2);omega))<|.q Z (ae Z)<|.nil<|b0 _ _<|.seq fun _ b1=>.region ?_;refine Ops.q Z (ah Z)<|.q Z (ah Z)<|.q Z (ah Z)<|.q Z (ah Z)<|.q Z (WQ (b:=36) Z Z (by (try have:=(hnx O).2);omega))<|.q Z (WU Z Z (by (try have:=(hnx O).2);omega))<|.q Z (lR u9 Z Z (by simp only [List.length_cons,List.length_nil];omega))<|.q Z (i0 (i:=i - 1) VQ kf Z Z O)<|.l Z (fun _ _ ar _=>be (off:=(i - 1)) ab rfl (by simp) rfl rfl kf a0 OF rfl (qy _ _ _) fun A49 a2=>?_);have ag:=a4.keep a2.keep D;have aA:=ao aa a7 a5 a2.n a2.keep;refine ar _ _<|.nil<|b1 _ _<|.region<|.q Z (ah Z)<|.q Z (ae Z)<|.nil ?_;exact ⟨⟨m / 36,i - 1,l.set ((i - 1)) (([48,49,50,51,52,53,54,55,56,57,97,98,99,100,101,102,103,104,105,106,107,108,109,110,111,112,113,114,115,116,117,118,119,120,121,122]).getD (m - ((m / 36) * 36)) 0)⟩,UZ Z Z Z Z Z Z Z Z Z,Z,⟨(hnx ‹_›).1,aA,ag,a2.get,D⟩,O1⟩
 refine al.exit<|aT _ _<|.seq fun _ b2=>.region<|.q Z (ah Z)<|.q Z (il (b:=1) Z Z (by (try have:=(hnx O).2);omega))<|.q Z (ae Z)<|.nil<|b2 _ _<|.region ?_;refine Ops.q Z (ah Z)<|.q Z (ah Z)<|.q Z (lR u9 Z Z (by simp only [List.length_cons,List.length_nil];omega))<|.q Z (i0 (i:=i - 1) VQ kf Z Z O)<|.l Z (fun _ _ av _=>be (off:=(i - 1)) ab rfl (by simp) rfl rfl kf a0 OF rfl (qy _ _ _) fun A56 a3=>?_);have a9:=a4.keep a3.keep D;have aB:=ao aa a7 a5 a3.n a3.keep;refine av _ _<|.nil<|aP _ _<|.seq fun _ b3=>.seq fun _ b5=>.region<|.q Z (ah Z)<|.nil<|b5 _ _<|.cond_false Z ?_;refine al.skip<|b3 _ _<|.seq fun _ ba=>.seq fun _ b6=>.region<|.q Z (ah Z)<|.nil<|b6 _ _<|.cond_true Z<|.seq fun _ b7=>?_;have hlast:=hfm.last O;unfold yX at hlast;have hfl:=tq n;refine al.region<|.q Z (ah Z)<|.q Z (ah Z)<|.sliceArr (j:=i - 1) Y VQ kf Z Z O ?_;have hsa:=Uo (j:=i - 1) a3.get (by simp only [aU,List.length_set];omega);simp only [aU,List.length_set,hfm.len,vu] at hsa;rw [hlast] at hsa;refine Ops.l Z (fun _ _ ay _=>cR rfl rfl cT kf uE z5 rfl U cT (fun _ h=>by cases h) a9.own (hsa.listOf (n:=(iq n).length) (by simp only [aU] <;> omega) O) (by simp only [aU] <;> omega) (Jy _) (by show (_ + _) * 1<=_;simp only [aU,List.length_cons,List.length_nil];(try simp only [List.length_append,List.length_cons,List.length_nil]);omega) O3 fun A71 bc a6=>?_);rw [eI] at a6;obtain ⟨ai,aC⟩:=Fresh.grow a9 aB a7 a6;refine ay _ _<|.q Z (ae Z)<|.nil<|b7 _ _<|.rt (by exact aE Z (⟨_,Z,aC,a6.wf,ai⟩))

theorem Vv (u:Value) (o:List UInt8) (n:Nat) (A0 A:AH) (a4:A0.le A) (a6:A0.wf) (hu:Fresh A0 A u 1 (aq o)) (ho:o.length<=100000000000) (hn:n<=1000000):bz Tryz.prog 206 #[u,.int .u64 ((n:Nat):Int),num ((36:Nat):Int)] A (fun v A1=>A0.le A1/\A1.wf/\Fresh A0 A1 v 1 (aq (o ++ iq n))):=by
 refine uC Tryz.call206 Tryz.func206 Z Tryz.results206 Tryz.ntmps206 Z (fun wf=>?_);refine al.seq fun _ h2=>.region<|.q Z (ae Z)<|.nil<|h2 _ _<|.seq fun _ h4=>.seq fun _ h6=>.region<|.q Z (ah Z)<|.q Z (((iC (a:=36) (b:=10) Z Z).trans (congrArg (fun z=>some (Value.bool z,[])) (decide_eq_false U)))) ?_;refine Ops.nil<|h6 _ _<|.cond_false Z<|.skip<|h4 _ _<|.seq fun _ h8=>.region<|.q Z (ah Z)<|.q Z (ah Z)<|.q Z (ah Z) ?_;have V:=cd (bs:=[blk u]) a4 (s8 hu.lo px);refine Ops.l Z (fun _ _ a3 _=>au Z (Lg u o n (A.hide [blk u]) A (cz A [blk u]) (cg wf) (hu.hide (by simp)) ho hn) ?_);rintro a5 A11 ⟨h,rfl,X,h,D⟩;have a0:=D.base V;have a1:=V.trans X;refine a3 _ _<|.q Z (ah Z)<|.q Z (aQ Z Z)<|.q Z (aQ Z Z)<|.q Z (ae Z)<|.nil<|h8 _ _<|.seq fun _ a2=>.region<|.q Z (ah Z) ?_;refine Ops.q Z (ae Z)<|.nil<|a2 _ _<|.rt (by exact aE Z (⟨a1,h,a0⟩))

theorem TG (u:Value) (o:List UInt8) (n:Nat) (A0 A:AH) (a4:A0.le A) (a7:A0.wf) (hu:Fresh A0 A u 1 (aq o)) (ho:o.length<=100000000000) (hn:n<=1000000):bz Tryz.prog 202 #[u,num ((n:Nat):Int),num ((36:Nat):Int)] A (fun v A1=>A0.le A1/\A1.wf/\Fresh A0 A1 v 1 (aq (o ++ iq n))):=by
 refine uC Tryz.call202 Tryz.func202 Z Tryz.results202 Tryz.ntmps202 Z (fun wf=>?_);refine al.seq fun _ h2=>.region<|.q Z (ae Z)<|.nil<|h2 _ _<|.seq fun _ h4=>.region<|.q Z (ah Z)<|.q Z (Pc u2 Xm Z O)<|.q Z (ae Z) ?_;refine Ops.nil<|h4 _ _<|.seq fun _ h6=>.seq fun _ h8=>.region<|.q Z (ah Z)<|.q Z (bX (b:=0) Z Z)<|.nil<|h8 _ _<|.if rfl (fun p9=>?_) (fun p9=>?_)
 ·refine al.seq fun _ a5=>?_;exact absurd ‹n < 0› O
 refine al.skip<|h6 _ _<|.seq fun _ a3=>.region<|.q Z (ah Z)<|.q Z (ah Z)<|.q Z (ah Z) ?_;have D:=cd (bs:=[blk u]) a4 (s8 hu.lo px);refine Ops.l Z (fun _ _ a1 _=>au Z (Vv u o n (A.hide [blk u]) A (cz A [blk u]) (cg wf) (hu.hide (by simp)) ho hn) ?_);rintro a6 A16 ⟨V,X,h⟩;have a0:=h.base D;have a2:=D.trans V;refine a1 _ _<|.q Z (ae Z)<|.nil<|a3 _ _<|.rt (by exact aE Z (⟨a2,X,a0⟩))

theorem Vu (u:Value) (o:List UInt8) (n:Nat) (A0 A:AH) (a3:A0.le A) (a4:A0.wf) (hu:Fresh A0 A u 1 (aq o)) (ho:o.length<=100000000000) (hn:n<=1000000):bz Tryz.prog 184 #[u,num ((n:Nat):Int),num ((36:Nat):Int)] A (fun v A1=>A0.le A1/\A1.wf/\Fresh A0 A1 v 1 (aq (o ++ iq n))):=by
 refine uC Tryz.call184 Tryz.func184 Z Tryz.results184 Tryz.ntmps184 Z (fun wf=>?_);refine al.seq fun _ h2=>.region<|.q Z (ae Z)<|.nil<|h2 _ _<|.seq fun _ h4=>.region<|.q Z (ah Z)<|.q Z (ah Z)<|.q Z (ah Z) ?_;have D:=cd (bs:=[blk u]) a3 (s8 hu.lo px);refine Ops.l Z (fun _ _ a2 _=>au Z (TG u o n (A.hide [blk u]) A (cz A [blk u]) (cg wf) (hu.hide (by simp)) ho hn) ?_);rintro v6 A7 ⟨a0,a1,h⟩;have V:=h.base D;have X:=D.trans a0;refine a2 _ _<|.q Z (ae Z)<|.nil<|h4 _ _<|.rt (by exact aE Z (⟨X,a1,V⟩))
end Go.Proofs.YtjppkekmddjcfaaGreatDoor

namespace Go.Proofs.YtjppkekmddjcfaaGreatDoor
open Go Go.RowKit V
structure DU (k:Nat) (acc:List Bool) (N:List (List Int)):Prop where
  sym:1<=k/\k<=400
  len:acc.length=N.length
  num:N.length<=30000
  row:∀ s,s < N.length->(N.getD s []).length=k
  val:∀ s x,s < N.length->x < k->-1<=ig N s x/\ig N s x < N.length
section
variable {N B B1:List (List Int)} {s j n:Nat} {m:Int} {row:List Int}
theorem wr (n:Nat) (v:Value):List.replicate n v=er (List.replicate n v):=rfl
theorem vm {s:Int}:(pB B s m).length=B.length:=by unfold pB;split <;> simp
theorem Mh {s:Int} (h:0<=m):pB B s m=B.set m.toNat (B.getD m.toNat [] ++ [s]):=if_pos h
theorem RG {s:Int} (h:¬ 0<=m):pB B s m=B:=if_neg h
theorem vl {s:Int} {c:Nat} (h:∀ t,(B.getD t []).length<=c) (hm:0<=m->m.toNat < B.length):∀ t,((pB B s m).getD t []).length<=c + 1:=fun t=>by
  unfold pB;split
  · rename_i q
    rw [d7 (hm q)]
    split
    · have:=h m.toNat;rw [List.length_append,List.length_singleton];omega
    · have:=h t;omega
  · have:=h t;omega
structure LQ (N:List (List Int)) (s:Nat) (B:List (List Int)):Prop where
  run:(List.range s).foldl (jw N) (List.replicate N.length [])=B
  len:B.length=N.length
  bound:∀ t,(B.getD t []).length<=1000 * s
structure GR (N:List (List Int)) (s:Nat) (B:List (List Int)) (j:Nat) (B1:List (List Int)):Prop where
  out:LQ N s B
  run:((N.getD s []).take j).foldl (fun B m=>pB B s m) B=B1
  len:B1.length=N.length
  bound:∀ t,(B1.getD t []).length<=1000 * s + j
theorem LQ.start:LQ N 0 (List.replicate N.length []):=⟨rfl,by simp,fun t=>by
  by_cases h:t < N.length <;> simp [List.getD_eq_getElem?_getD,h]⟩
theorem GR.start (h:LQ N s B):GR N s B 0 B:=⟨h,rfl,h.len,h.bound⟩
theorem GR.step (h:GR N s B j B1) (hj:j < (N.getD s []).length) (hm:0<=(N.getD s []).getD j 0->((N.getD s []).getD j 0).toNat < N.length):GR N s B (j + 1) (pB B1 s ((N.getD s []).getD j 0)) :=
  ⟨h.out,by rw [<- f8 (z:=0) hj,List.foldl_append,h.run];rfl,by rw [vm];exact h.len,vl h.bound fun q=>by rw [h.len];exact hm q⟩
theorem GR.yes (h:GR N s B j B1) (hj:j < (N.getD s []).length) (hm:0<=(N.getD s []).getD j 0->((N.getD s []).getD j 0).toNat < N.length) (q:0<=(N.getD s []).getD j 0):GR N s B (j + 1) (B1.set ((N.getD s []).getD j 0).toNat (B1.getD ((N.getD s []).getD j 0).toNat [] ++ [(s:Int)])):=by
  have:=h.step hj hm;rwa [Mh q] at this
theorem GR.no (h:GR N s B j B1) (hj:j < (N.getD s []).length) (hm:0<=(N.getD s []).getD j 0->((N.getD s []).getD j 0).toNat < N.length) (q:¬ 0<=(N.getD s []).getD j 0):GR N s B (j + 1) B1:=by
  have:=h.step hj hm;rwa [RG q] at this
theorem LQ.next (h:GR N s B j B1) (hj:(N.getD s []).length=j) (hk:j<=1000):LQ N (s + 1) B1 :=
  ⟨by rw [List.range_succ,List.foldl_append,h.out.run];show jw N B s=B1;rw [jw,<- h.run,<- hj,List.take_length],h.len,fun t=>by have:=h.bound t;omega⟩
theorem LQ.fin (h:LQ N s B) (hs:s=N.length):B=dr N:=by subst hs;exact h.run.symm
theorem Oh {s p:Int} {t:Nat}:p ∈ (pB B s m).getD t [] ↔ p ∈ B.getD t []\/(0<=m/\m.toNat=t/\t < B.length/\p=s):=by
  unfold pB;split
  · rename_i q
    by_cases hm:m.toNat < B.length
    · rw [d7 hm]
      split
      · rename_i e;subst e
        rw [List.mem_append,List.mem_singleton]
        exact ⟨fun h=>h.imp id fun z=>⟨q,rfl,hm,z⟩,fun h=>h.imp id fun z=>z.2.2.2⟩
      · rename_i e
        exact ⟨.inl,fun h=>h.elim id fun z=>absurd z.2.1.symm e⟩
    · rw [List.set_eq_of_length_le O]
      exact ⟨.inl,fun h=>h.elim id fun z=>absurd z.2.2.1 O⟩
  · exact ⟨.inl,fun h=>h.elim id fun z=>absurd z.1 ‹_›⟩
theorem tv {s:Int}:∀ (row:List Int) (B:List (List Int)),(row.foldl (fun B m=>pB B s m) B).length=B.length
  | [],_=>rfl
  | a :: row,B=>by rw [List.foldl_cons,tv row];exact vm
theorem yd {s p:Int} {t:Nat}:∀ (row:List Int) (B:List (List Int)),p ∈ (row.foldl (fun B m=>pB B s m) B).getD t [] ↔ p ∈ B.getD t []\/((t:Int) ∈ row/\t < B.length/\p=s)
  | [],B=>by simp
  | a :: row,B=>by
    rw [List.foldl_cons,yd row,Oh,vm,List.mem_cons]
    constructor
    · rintro ((h | ⟨h1,h2,h3,h4⟩) | ⟨h1,h2,h3⟩)
      · exact .inl h
      · exact .inr ⟨.inl O,h3,h4⟩
      · exact .inr ⟨.inr h1,h2,h3⟩
    · rintro (h | ⟨h1 | h1,h2,h3⟩)
      · exact .inl (.inl h)
      · exact .inl (.inr ⟨by omega,by omega,h2,h3⟩)
      · exact .inr ⟨h1,h2,h3⟩
theorem ye {p:Int} {t:Nat}:∀ (L:List Nat) (B:List (List Int)),p ∈ (L.foldl (jw N) B).getD t [] ↔ p ∈ B.getD t []\/(t < B.length/\∃ s ∈ L,p=(s:Int)/\(t:Int) ∈ N.getD s [])
  | [],B=>by simp
  | a :: L,B=>by
    rw [List.foldl_cons,ye L,jw,yd,tv]
    constructor
    · rintro ((h | ⟨h1,h2,h3⟩) | ⟨h1,s,h2,h3⟩)
      · exact .inl h
      · exact .inr ⟨h2,a,List.mem_cons_self,h3,h1⟩
      · exact .inr ⟨h1,s,List.mem_cons_of_mem _ h2,h3⟩
    · rintro (h | ⟨h1,s,h2,h3,h4⟩)
      · exact .inl (.inl h)
      · rcases List.mem_cons.1 h2 with rfl | h2
        · exact .inl (.inr ⟨h4,h1,h3⟩)
        · exact .inr ⟨h1,s,h2,h3,h4⟩
theorem Cg {p:Int} {t:Nat}:p ∈ (dr N).getD t [] ↔ t < N.length/\∃ s,s < N.length/\p=(s:Int)/\(t:Int) ∈ N.getD s []:=by
  rw [dr,ye]
  have e:(List.replicate N.length ([]:List Int)).getD t []=[]:=by by_cases h:t < N.length <;> simp [List.getD_eq_getElem?_getD,h]
  rw [e];simp
theorem r5:(dr N).length=N.length:=by
  have:∀ (L:List Nat) (B:List (List Int)),(L.foldl (jw N) B).length=B.length:=by
    intro L
    induction L with
    | nil=>intro B;rfl
    | cons a L ih=>intro B;rw [List.foldl_cons,ih,jw,tv]
  rw [dr,this];simp
theorem Ao {s m:Int} {c:Nat} (h:∀ t,(B.getD t []).length<=c):∀ t,((pB B s m).getD t []).length<=c + 1:=fun t=>by
  by_cases hm:m.toNat < B.length
  · exact vl h (fun _=>hm) t
  · have:=h t
    unfold pB;split
    · rw [List.set_eq_of_length_le O];omega
    · omega
theorem um {s:Int}:∀ (row:List Int) (B:List (List Int)) (c:Nat),(∀ t,(B.getD t []).length<=c)->∀ t,((row.foldl (fun B m=>pB B s m) B).getD t []).length<=c + row.length
  | [],B,c,h=>h
  | a :: row,B,c,h=>fun t=>by
    have:=um (s:=s) row (pB B s a) (c + 1) (Ao h) t
    rw [List.foldl_cons,List.length_cons];omega
theorem un {k:Nat} (hk:∀ s,(N.getD s []).length<=k):∀ (L:List Nat) (B:List (List Int)) (c:Nat),(∀ t,(B.getD t []).length<=c)->∀ t,((L.foldl (jw N) B).getD t []).length<=c + k * L.length
  | [],B,c,h=>fun t=>by have:=h t;simpa using this
  | a :: L,B,c,h=>fun t=>by
    have h1:=un hk L (jw N B a) (c + k) (fun t=>by have:=um (s:=(a:Int)) (N.getD a []) B c h t;have:=hk a;unfold jw;omega) t
    rw [List.foldl_cons,List.length_cons,Nat.mul_succ];omega
theorem D7 {k:Nat} (hk:∀ s,(N.getD s []).length<=k) (t:Nat):((dr N).getD t []).length<=k * N.length:=by
  have:=un hk (List.range N.length) (List.replicate N.length []) 0 (fun t=>by by_cases h:t < N.length <;> simp [List.getD_eq_getElem?_getD,h]) t
  rw [List.length_range] at this;unfold dr;omega
theorem DU.rows {k:Nat} {acc:List Bool} (h:DU k acc N) (s:Nat):(N.getD s []).length<=400:=by
  by_cases q:s < N.length
  · have:=h.row s q;have:=h.sym;omega
  · simp [List.getD_eq_getElem?_getD,q]
theorem DU.back {k:Nat} {acc:List Bool} (h:DU k acc N) (t:Nat):((dr N).getD t []).length<=12000000:=by
  have:=D7 h.rows t;have:=h.num;omega
structure nf (n:Nat) (sn:List Bool) (Q:List Int):Prop where
  len:sn.length=n
  nd:Q.Nodup
  rng:∀ q ∈ Q,0<=q/\q < n
  is:∀ p,p < n->sn.getD p false=decide ((p:Int) ∈ Q)
variable {sn:List Bool} {Q Q1:List Int} {acc:List Bool} {i:Nat}
theorem nf.nil:nf n (List.replicate n false) []:=⟨by simp,List.nodup_nil,(fun _ h=>by cases h),fun p hp=>by simp [hp]⟩
theorem nf.add (h:nf n sn Q) {p:Int} (hp:0<=p/\p < n) (hn:p ∉ Q):nf n (sn.set p.toNat true) (Q ++ [p]) :=
  ⟨by simpa using h.len,pX h.nd hn,qI h.rng hp,fun q hq=>by
    rw [d7 (by rw [h.len];omega)]
    split
    · rename_i e;subst e;simp;exact .inr O
    · rename_i e
      rw [h.is q hq]
      congr 1
      rw [List.mem_append,List.mem_singleton,eq_iff_iff]
      exact ⟨.inl,fun z=>z.elim id fun z=>absurd O e⟩⟩
theorem nf.qlen (h:nf n sn Q):Q.length<=n:=by
  have:=qJ (l:=Q.map Int.toNat) (n:=n) ?_ ?_
  · simpa using this
  · rw [List.nodup_iff_pairwise_ne,List.pairwise_map]
    exact List.Pairwise.imp_of_mem (fun {a c} ha hc hac e=>hac (by have:=h.rng a ha;have:=h.rng c hc;omega)) h.nd
  · intro x hx
    obtain ⟨a,ha,rfl⟩:=List.mem_map.1 hx
    have:=h.rng a ha;omega
theorem xE:qY acc (i + 1)=qY acc i ++ (if acc.getD i false then [(i:Int)] else []):=by
  rw [qY,List.range_succ,List.filter_append,List.map_append]
  congr 1
  by_cases h:acc.getD i false=true
  · rw [if_pos h,List.filter_cons,if_pos h];rfl
  · rw [if_neg h,List.filter_cons,if_neg h];rfl
theorem An (h:Q=qY acc i) (q:acc.getD i false=true):Q ++ [(i:Int)]=qY acc (i + 1):=by rw [h,xE,if_pos q]
theorem GV (h:Q=qY acc i) (q:acc.getD i false=false):Q=qY acc (i + 1):=by rw [h,xE,q];simp
theorem vk {q:Int}:q ∈ qY acc i ↔ ∃ s,s < i/\acc.getD s false=true/\q=(s:Int):=by
  simp only [qY,List.mem_map,List.mem_filter,List.mem_range]
  exact ⟨fun ⟨s,⟨h1,h2⟩,h3⟩=>⟨s,h1,h2,h3.symm⟩,fun ⟨s,h1,h2,h3⟩=>⟨s,⟨h1,h2⟩,h3.symm⟩⟩
theorem Am:(i:Int) ∉ qY acc i:=fun h=>by obtain ⟨s,h1,_,h3⟩:=vk.1 h;omega
structure z6 (acc:List Bool) (N:List (List Int)) (i:Nat) (sn:List Bool) (Q:List Int):Prop where
  seen:nf N.length sn Q
  le:i<=Q.length
  fin:∃ f,f + i=N.length + 1/\jD (dr N) f i Q=gr acc N
structure z7 (acc:List Bool) (N:List (List Int)) (i:Nat) (sn:List Bool) (Q:List Int) (j:Nat) (sn1:List Bool) (Q1:List Int):Prop where
  out:z6 acc N i sn Q
  lt:i < Q.length
  seen:nf N.length sn1 Q1
  run:(((dr N).getD (Q.getD i 0).toNat []).take j).foldl iY Q=Q1
variable {sn1:List Bool}
theorem z6.start (h:nf N.length sn (qY acc acc.length)):z6 acc N 0 sn (qY acc acc.length):=⟨h,Nat.zero_le _,_,rfl,rfl⟩
theorem pO:∀ (P Q:List Int),Q <+: P.foldl iY Q
  | [],Q=>List.prefix_refl _
  | p :: P,Q=>by
    rw [List.foldl_cons]
    refine List.IsPrefix.trans ?_ (pO P (iY Q p))
    unfold iY;split
    · exact List.prefix_refl _
    · exact List.prefix_append _ _
theorem ou {B:List (List Int)}:∀ (f i:Nat) (Q:List Int),Q <+: jD B f i Q
  | 0,_,_=>List.prefix_refl _
  | f + 1,i,Q=>by
    unfold jD;split
    · exact (pO _ _).trans (ou f _ _)
    · exact List.prefix_refl _
theorem z6.pre (h:z6 acc N i sn Q):Q <+: gr acc N:=by obtain ⟨f,_,e⟩:=h.fin;rw [<- e];exact ou _ _ _
theorem z6.get (h:z6 acc N i sn Q) (hi:i < Q.length):(gr acc N).getD i 0=Q.getD i 0/\i < (gr acc N).length:=⟨wo h.pre hi,Nat.lt_of_lt_of_le hi h.pre.length_le⟩
theorem z6.at (h:z6 acc N i sn Q) (hi:i < Q.length):0<=Q.getD i 0/\(Q.getD i 0).toNat < N.length:=by have:=h.seen.rng _ (bi (d:=(0:Int)) hi);omega
theorem z7.start (h:z6 acc N i sn Q) (hi:i < Q.length):z7 acc N i sn Q 0 sn Q:=⟨h,hi,h.seen,rfl⟩
theorem z7.rng (hj:j < ((dr N).getD (Q.getD i 0).toNat []).length):0<=((dr N).getD (Q.getD i 0).toNat []).getD j 0/\(((dr N).getD (Q.getD i 0).toNat []).getD j 0).toNat < N.length:=by
  obtain ⟨_,s,h2,h3,_⟩:=Cg.1 (bi (d:=(0:Int)) hj)
  rw [h3];exact ⟨by omega,by simpa using h2⟩
theorem z7.next (h:z7 acc N i sn Q j sn1 Q1) (hj:j < ((dr N).getD (Q.getD i 0).toNat []).length) {Q2:List Int} {D:List Bool} (hs:nf N.length D Q2) (e:iY Q1 (((dr N).getD (Q.getD i 0).toNat []).getD j 0)=Q2):z7 acc N i sn Q (j + 1) D Q2 :=
  ⟨h.out,h.lt,hs,by rw [<- f8 (z:=(0:Int)) hj,List.foldl_append,h.run];exact e⟩
theorem z7.old (h:z7 acc N i sn Q j sn1 Q1) (hj:j < ((dr N).getD (Q.getD i 0).toNat []).length) (q:(!sn1.getD (((dr N).getD (Q.getD i 0).toNat []).getD j 0).toNat false)=false):z7 acc N i sn Q (j + 1) sn1 Q1:=by
  have hr:=z7.rng hj
  refine h.next hj h.seen ?_
  rw [h.seen.is _ hr.2] at q
  rw [iY,if_pos]
  simp only [Bool.not_eq_false',decide_eq_true_eq] at q
  rwa [show ((((dr N).getD (Q.getD i 0).toNat []).getD j 0).toNat:Int)=((dr N).getD (Q.getD i 0).toNat []).getD j 0 by omega] at q
theorem z7.new (h:z7 acc N i sn Q j sn1 Q1) (hj:j < ((dr N).getD (Q.getD i 0).toNat []).length) (q:(!sn1.getD (((dr N).getD (Q.getD i 0).toNat []).getD j 0).toNat false)=true):z7 acc N i sn Q (j + 1) (sn1.set (((dr N).getD (Q.getD i 0).toNat []).getD j 0).toNat true) (Q1 ++ [((dr N).getD (Q.getD i 0).toNat []).getD j 0]):=by
  have hr:=z7.rng hj
  rw [h.seen.is _ hr.2] at q
  simp only [Bool.not_eq_true',decide_eq_false_iff_not] at q
  rw [show ((((dr N).getD (Q.getD i 0).toNat []).getD j 0).toNat:Int)=((dr N).getD (Q.getD i 0).toNat []).getD j 0 by omega] at q
  exact h.next hj (h.seen.add O q) (by rw [iY,if_neg q])
theorem z6.next (h:z7 acc N i sn Q j sn1 Q1) (hj:((dr N).getD (Q.getD i 0).toNat []).length=j):z6 acc N (i + 1) sn1 Q1:=by
  obtain ⟨f,hf,e⟩:=h.out.fin
  have h1:=h.out.seen.qlen
  have h2:=h.lt
  obtain ⟨f,rfl⟩:∃ g,f=g + 1:=⟨f - 1,by omega⟩
  have hr:=h.run
  rw [<- hj,List.take_length] at hr
  have hp:Q <+: Q1:=by rw [<- hr];exact pO _ _
  refine ⟨h.seen,by have:=hp.length_le;omega,f,by omega,?_⟩
  rw [<- e,jD,if_pos h2,hr]
theorem z6.end (h:z6 acc N i sn Q) (hi:Q.length<=i):Q=gr acc N/\i=(gr acc N).length:=by
  obtain ⟨f,hf,e⟩:=h.fin
  have h1:=h.seen.qlen
  have h2:=h.le
  have e2:Q=gr acc N:=by
    rw [<- e]
    cases f with
    | zero=>rfl
    | succ f=>rw [jD,if_neg O]
  exact ⟨e2,by rw [<- e2];omega⟩
end
def jq (A B:AH) (bo:Nat) (v:Value):Prop:=∀ b,blk v=some b->A.n<=b/\¬ na bo B b
section
variable {A B C E M:AH} {bo b:Nat} {v u vY:Value} {cY:Nat} {n:Nat} {xs:List Value}
theorem jq.off (h:jq A C bo v) (g:C.get bo=some (.row true [vY] cY)):LR v [some bo,blk vY]:=fun c hc=>by
  have:=(h c hc).2
  refine rd (fun q=>this (.inl q)) (oD (fun q=>this (.inr ⟨_,_,g,q⟩)) m7)
theorem jq.ne (h:jq A C bo v):blk v ≠ some bo:=fun q=>(h bo q).2 (.inl Z)
theorem jq.yield (h:jq A C bo v) (fr:pu C v n xs) (g:C.get bo=some (.row true [vY] cY)) (hR:cq bo (C.hide [some bo,blk vY]) E):jq A E bo v:=fun b hb=>⟨(h b hb).1,fun z=>by
  obtain ⟨o,ho⟩:=fr.blkget hb
  have:=hR.ow b z
  rw [bN ho (h.off g b hb)] at this;cases this⟩
theorem jq.nm (hs:jq A C bo v) (hq:jq A C bo u) (h:b < A.n\/na bo C b):some b ∉ [blk v,blk u]:=by
  refine oD (fun z=>?_) (oD (fun z=>?_) m7)
  · have:=hs b z;rcases h with h | h;omega;exact this.2 h
  · have:=hq b z;rcases h with h | h;omega;exact this.2 h
theorem jq.next {v':Value} (hs:jq A C bo v) (hq:jq A C bo u) (g:C.get bo=some (.row true [vY] cY)) (l:∀ b,blk vY=some b->∃ o,C.get b=some o) (gE:E.get bo=some (.row true [vY] cY))
    (nj:∀ b,blk v'=some b->(C.hide [blk v,blk u]).get b=none) (lo:∀ b,blk v'=some b->A.n<=b):jq A E bo v':=fun b hb=>⟨lo b hb,fun z=>by
  have z2:na bo C b:=z.same (by rw [gE,g])
  have hex:∃ o,C.get b=some o:=by
    rcases z2.val g with rfl | q
    · exact ⟨_,g⟩
    · exact l b q
  obtain ⟨o,ho⟩:=hex
  have:=nj b hb
  rw [bN ho (jq.nm hs hq (.inr z2))] at this;cases this⟩
theorem jq.start (g:C.get bo=some (.row true [vY] cY)) (l:∀ b,blk vY=some b->∃ o,A.get b=some o) (gA:A.get bo=some (.row true [vY] cY)) (nj:∀ b,blk v=some b->A.get b=none) (lo:∀ b,blk v=some b->A.n<=b):jq A C bo v:=fun b hb=>⟨lo b hb,fun z=>by
  rcases z.val g with rfl | q
  · have:=nj _ hb;rw [gA] at this;cases this
  · obtain ⟨o,ho⟩:=l b q;have:=nj _ hb;rw [ho] at this;cases this⟩
theorem cq.keep (h:cq bo M C) (le:M.le E) (g:C.get bo=some (.row true [vY] cY)) (gE:E.get bo=some (.row true [vY] cY)):cq bo M E:=⟨le,h.wf,fun b hb=>h.ow b (hb.same (by rw [gE,g]))⟩
theorem Od {s:Value} (h:∀ b,blk s=some b->A.n<=b) (ap:mW C s n xs v E) (hn:A.n<=C.n):∀ b,blk v=some b->A.n<=b:=fun b hb=>(ap.blk b hb).elim (h b) fun q=>Nat.le_trans hn q
theorem Vk:∀ b,blk (.slice none 0 0)=some b->A.n<=b:=fun _ q=>by cases q
end
end Go.Proofs.YtjppkekmddjcfaaGreatDoor
