import Derived.Test.YtjppkekmddjcfaaGreatDoorBD6
import Derived.Test.YtjppkekmddjcfaaGreatDoorBD5
set_option linter.unusedSectionVars false
set_option linter.unusedVariables false
set_option linter.unusedSimpArgs false
namespace Go.Proofs.YtjppkekmddjcfaaGreatDoor
open Go Go.RowKit V
structure Ak (k:Nat) (acc:List Bool) (N:List (List Int)):Prop where
  sym:1<=k/\k<=400
  len:acc.length=N.length
  num:N.length<=30000
  row:∀ s,s < N.length->(N.getD s []).length=k
  val:∀ s x,s < N.length->x < k->-1<=gB N s x/\gB N s x < N.length
section
variable {N B B1:List (List Int)} {s j n:Nat} {m:Int} {row:List Int}
theorem tR (n:Nat) (v:Value):List.replicate n v=d6 (List.replicate n v):=rfl
theorem sX {s:Int}:(ny B s m).length=B.length:=by unfold ny;split <;> simp
theorem IE {s:Int} (h:0<=m):ny B s m=B.set m.toNat (B.getD m.toNat [] ++ [s]):=if_pos h
theorem Mu {s:Int} (h:¬ 0<=m):ny B s m=B:=if_neg h
theorem sW {s:Int} {c:Nat} (h:∀ t,(B.getD t []).length<=c) (hm:0<=m->m.toNat < B.length):∀ t,((ny B s m).getD t []).length<=c + 1:=fun t=>by
  unfold ny;split
  · rename_i q
    rw [dM (hm q)]
    split
    · have:=h m.toNat;rw [List.length_append,List.length_singleton];omega
    · have:=h t;omega
  · have:=h t;omega
structure Ik (N:List (List Int)) (s:Nat) (B:List (List Int)):Prop where
  run:(List.range s).foldl (i5 N) (List.replicate N.length [])=B
  len:B.length=N.length
  bound:∀ t,(B.getD t []).length<=1000 * s
structure CX (N:List (List Int)) (s:Nat) (B:List (List Int)) (j:Nat) (B1:List (List Int)):Prop where
  out:Ik N s B
  run:((N.getD s []).take j).foldl (fun B m=>ny B s m) B=B1
  len:B1.length=N.length
  bound:∀ t,(B1.getD t []).length<=1000 * s + j
theorem Ik.start:Ik N 0 (List.replicate N.length []):=⟨rfl,by simp,fun t=>by
  by_cases h:t < N.length <;> simp [List.getD_eq_getElem?_getD,h]⟩
theorem CX.start (h:Ik N s B):CX N s B 0 B:=⟨h,rfl,h.len,h.bound⟩
theorem CX.step (h:CX N s B j B1) (hj:j < (N.getD s []).length) (hm:0<=(N.getD s []).getD j 0->((N.getD s []).getD j 0).toNat < N.length):CX N s B (j + 1) (ny B1 s ((N.getD s []).getD j 0)) :=
  ⟨h.out,by rw [<- fz (z:=0) hj,List.foldl_append,h.run];rfl,by rw [sX];exact h.len,sW h.bound fun q=>by rw [h.len];exact hm q⟩
theorem CX.yes (h:CX N s B j B1) (hj:j < (N.getD s []).length) (hm:0<=(N.getD s []).getD j 0->((N.getD s []).getD j 0).toNat < N.length) (q:0<=(N.getD s []).getD j 0):CX N s B (j + 1) (B1.set ((N.getD s []).getD j 0).toNat (B1.getD ((N.getD s []).getD j 0).toNat [] ++ [(s:Int)])):=by
  have:=h.step hj hm;rwa [IE q] at this
theorem CX.no (h:CX N s B j B1) (hj:j < (N.getD s []).length) (hm:0<=(N.getD s []).getD j 0->((N.getD s []).getD j 0).toNat < N.length) (q:¬ 0<=(N.getD s []).getD j 0):CX N s B (j + 1) B1:=by
  have:=h.step hj hm;rwa [Mu q] at this
theorem Ik.next (h:CX N s B j B1) (hj:(N.getD s []).length=j) (hk:j<=1000):Ik N (s + 1) B1 :=
  ⟨by rw [List.range_succ,List.foldl_append,h.out.run];show i5 N B s=B1;rw [i5,<- h.run,<- hj,List.take_length],h.len,fun t=>by have:=h.bound t;omega⟩
theorem Ik.fin (h:Ik N s B) (hs:s=N.length):B=dl N:=by subst hs;exact h.run.symm
theorem JO {s p:Int} {t:Nat}:p ∈ (ny B s m).getD t [] ↔ p ∈ B.getD t []\/(0<=m/\m.toNat=t/\t < B.length/\p=s):=by
  unfold ny;split
  · rename_i q
    by_cases hm:m.toNat < B.length
    · rw [dM hm]
      split
      · rename_i e;subst e
        rw [List.mem_append,List.mem_singleton]
        exact ⟨fun h=>h.imp id fun z=>⟨q,rfl,hm,z⟩,fun h=>h.imp id fun z=>z.2.2.2⟩
      · rename_i e
        exact ⟨.inl,fun h=>h.elim id fun z=>absurd z.2.1.symm e⟩
    · rw [List.set_eq_of_length_le O]
      exact ⟨.inl,fun h=>h.elim id fun z=>absurd z.2.2.1 O⟩
  · exact ⟨.inl,fun h=>h.elim id fun z=>absurd z.1 ‹_›⟩
theorem rh {s:Int}:∀ (row:List Int) (B:List (List Int)),(row.foldl (fun B m=>ny B s m) B).length=B.length
  | [],_=>rfl
  | a :: row,B=>by rw [List.foldl_cons,rh row];exact sX
theorem vA {s p:Int} {t:Nat}:∀ (row:List Int) (B:List (List Int)),p ∈ (row.foldl (fun B m=>ny B s m) B).getD t [] ↔ p ∈ B.getD t []\/((t:Int) ∈ row/\t < B.length/\p=s)
  | [],B=>by simp
  | a :: row,B=>by
    rw [List.foldl_cons,vA row,JO,sX,List.mem_cons]
    constructor
    · rintro ((h | ⟨h1,h2,h3,h4⟩) | ⟨h1,h2,h3⟩)
      · exact .inl h
      · exact .inr ⟨.inl O,h3,h4⟩
      · exact .inr ⟨.inr h1,h2,h3⟩
    · rintro (h | ⟨h1 | h1,h2,h3⟩)
      · exact .inl (.inl h)
      · exact .inl (.inr ⟨by omega,by omega,h2,h3⟩)
      · exact .inr ⟨h1,h2,h3⟩
theorem vB {p:Int} {t:Nat}:∀ (L:List Nat) (B:List (List Int)),p ∈ (L.foldl (i5 N) B).getD t [] ↔ p ∈ B.getD t []\/(t < B.length/\∃ s ∈ L,p=(s:Int)/\(t:Int) ∈ N.getD s [])
  | [],B=>by simp
  | a :: L,B=>by
    rw [List.foldl_cons,vB L,i5,vA,rh]
    constructor
    · rintro ((h | ⟨h1,h2,h3⟩) | ⟨h1,s,h2,h3⟩)
      · exact .inl h
      · exact .inr ⟨h2,a,List.mem_cons_self,h3,h1⟩
      · exact .inr ⟨h1,s,List.mem_cons_of_mem _ h2,h3⟩
    · rintro (h | ⟨h1,s,h2,h3,h4⟩)
      · exact .inl (.inl h)
      · rcases List.mem_cons.1 h2 with rfl | h2
        · exact .inl (.inr ⟨h4,h1,h3⟩)
        · exact .inr ⟨h1,s,h2,h3,h4⟩
theorem yW {p:Int} {t:Nat}:p ∈ (dl N).getD t [] ↔ t < N.length/\∃ s,s < N.length/\p=(s:Int)/\(t:Int) ∈ N.getD s []:=by
  rw [dl,vB]
  have e:(List.replicate N.length ([]:List Int)).getD t []=[]:=by by_cases h:t < N.length <;> simp [List.getD_eq_getElem?_getD,h]
  rw [e];simp
theorem pY:(dl N).length=N.length:=by
  have:∀ (L:List Nat) (B:List (List Int)),(L.foldl (i5 N) B).length=B.length:=by
    intro L
    induction L with
    | nil=>intro B;rfl
    | cons a L ih=>intro B;rw [List.foldl_cons,ih,i5,rh]
  rw [dl,this];simp
theorem yi {s m:Int} {c:Nat} (h:∀ t,(B.getD t []).length<=c):∀ t,((ny B s m).getD t []).length<=c + 1:=fun t=>by
  by_cases hm:m.toNat < B.length
  · exact sW h (fun _=>hm) t
  · have:=h t
    unfold ny;split
    · rw [List.set_eq_of_length_le O];omega
    · omega
theorem rL {s:Int}:∀ (row:List Int) (B:List (List Int)) (c:Nat),(∀ t,(B.getD t []).length<=c)->∀ t,((row.foldl (fun B m=>ny B s m) B).getD t []).length<=c + row.length
  | [],B,c,h=>h
  | a :: row,B,c,h=>fun t=>by
    have:=rL (s:=s) row (ny B s a) (c + 1) (yi h) t
    rw [List.foldl_cons,List.length_cons];omega
theorem rM {k:Nat} (hk:∀ s,(N.getD s []).length<=k):∀ (L:List Nat) (B:List (List Int)) (c:Nat),(∀ t,(B.getD t []).length<=c)->∀ t,((L.foldl (i5 N) B).getD t []).length<=c + k * L.length
  | [],B,c,h=>fun t=>by have:=h t;simpa using this
  | a :: L,B,c,h=>fun t=>by
    have h1:=rM hk L (i5 N B a) (c + k) (fun t=>by have:=rL (s:=(a:Int)) (N.getD a []) B c h t;have:=hk a;unfold i5;omega) t
    rw [List.foldl_cons,List.length_cons,Nat.mul_succ];omega
theorem Ao {k:Nat} (hk:∀ s,(N.getD s []).length<=k) (t:Nat):((dl N).getD t []).length<=k * N.length:=by
  have:=rM hk (List.range N.length) (List.replicate N.length []) 0 (fun t=>by by_cases h:t < N.length <;> simp [List.getD_eq_getElem?_getD,h]) t
  rw [List.length_range] at this;unfold dl;omega
theorem Ak.rows {k:Nat} {acc:List Bool} (h:Ak k acc N) (s:Nat):(N.getD s []).length<=400:=by
  by_cases q:s < N.length
  · have:=h.row s q;have:=h.sym;omega
  · simp [List.getD_eq_getElem?_getD,q]
theorem Ak.back {k:Nat} {acc:List Bool} (h:Ak k acc N) (t:Nat):((dl N).getD t []).length<=12000000:=by
  have:=Ao h.rows t;have:=h.num;omega
structure lS (n:Nat) (sn:List Bool) (Q:List Int):Prop where
  len:sn.length=n
  nd:Q.Nodup
  rng:∀ q ∈ Q,0<=q/\q < n
  is:∀ p,p < n->sn.getD p false=decide ((p:Int) ∈ Q)
variable {sn:List Bool} {Q Q1:List Int} {acc:List Bool} {i:Nat}
theorem lS.nil:lS n (List.replicate n false) []:=⟨by simp,List.nodup_nil,(fun _ h=>by cases h),fun p hp=>by simp [hp]⟩
theorem lS.add (h:lS n sn Q) {p:Int} (hp:0<=p/\p < n) (hn:p ∉ Q):lS n (sn.set p.toNat true) (Q ++ [p]) :=
  ⟨by simpa using h.len,n0 h.nd hn,oL h.rng hp,fun q hq=>by
    rw [dM (by rw [h.len];omega)]
    split
    · rename_i e;subst e;simp;exact .inr O
    · rename_i e
      rw [h.is q hq]
      congr 1
      rw [List.mem_append,List.mem_singleton,eq_iff_iff]
      exact ⟨.inl,fun z=>z.elim id fun z=>absurd O e⟩⟩
theorem lS.qlen (h:lS n sn Q):Q.length<=n:=by
  have:=oM (l:=Q.map Int.toNat) (n:=n) ?_ ?_
  · simpa using this
  · rw [List.nodup_iff_pairwise_ne,List.pairwise_map]
    exact List.Pairwise.imp_of_mem (fun {a c} ha hc hac e=>hac (by have:=h.rng a ha;have:=h.rng c hc;omega)) h.nd
  · intro x hx
    obtain ⟨a,ha,rfl⟩:=List.mem_map.1 hx
    have:=h.rng a ha;omega
theorem ve:o6 acc (i + 1)=o6 acc i ++ (if acc.getD i false then [(i:Int)] else []):=by
  rw [o6,List.range_succ,List.filter_append,List.map_append]
  congr 1
  by_cases h:acc.getD i false=true
  · rw [if_pos h,List.filter_cons,if_pos h];rfl
  · rw [if_neg h,List.filter_cons,if_neg h];rfl
theorem yh (h:Q=o6 acc i) (q:acc.getD i false=true):Q ++ [(i:Int)]=o6 acc (i + 1):=by rw [h,ve,if_pos q]
theorem CY (h:Q=o6 acc i) (q:acc.getD i false=false):Q=o6 acc (i + 1):=by rw [h,ve,q];simp
theorem sU {q:Int}:q ∈ o6 acc i ↔ ∃ s,s < i/\acc.getD s false=true/\q=(s:Int):=by
  simp only [o6,List.mem_map,List.mem_filter,List.mem_range]
  exact ⟨fun ⟨s,⟨h1,h2⟩,h3⟩=>⟨s,h1,h2,h3.symm⟩,fun ⟨s,h1,h2,h3⟩=>⟨s,⟨h1,h2⟩,h3.symm⟩⟩
theorem yg:(i:Int) ∉ o6 acc i:=fun h=>by obtain ⟨s,h1,_,h3⟩:=sU.1 h;omega
structure xY (acc:List Bool) (N:List (List Int)) (i:Nat) (sn:List Bool) (Q:List Int):Prop where
  seen:lS N.length sn Q
  le:i<=Q.length
  fin:∃ f,f + i=N.length + 1/\jb (dl N) f i Q=fH acc N
structure xZ (acc:List Bool) (N:List (List Int)) (i:Nat) (sn:List Bool) (Q:List Int) (j:Nat) (sn1:List Bool) (Q1:List Int):Prop where
  out:xY acc N i sn Q
  lt:i < Q.length
  seen:lS N.length sn1 Q1
  run:(((dl N).getD (Q.getD i 0).toNat []).take j).foldl io Q=Q1
variable {sn1:List Bool}
theorem xY.start (h:lS N.length sn (o6 acc acc.length)):xY acc N 0 sn (o6 acc acc.length):=⟨h,Nat.zero_le _,_,rfl,rfl⟩
theorem nU:∀ (P Q:List Int),Q <+: P.foldl io Q
  | [],Q=>List.prefix_refl _
  | p :: P,Q=>by
    rw [List.foldl_cons]
    refine List.IsPrefix.trans ?_ (nU P (io Q p))
    unfold io;split
    · exact List.prefix_refl _
    · exact List.prefix_append _ _
theorem mO {B:List (List Int)}:∀ (f i:Nat) (Q:List Int),Q <+: jb B f i Q
  | 0,_,_=>List.prefix_refl _
  | f + 1,i,Q=>by
    unfold jb;split
    · exact (nU _ _).trans (mO f _ _)
    · exact List.prefix_refl _
theorem xY.pre (h:xY acc N i sn Q):Q <+: fH acc N:=by obtain ⟨f,_,e⟩:=h.fin;rw [<- e];exact mO _ _ _
theorem xY.get (h:xY acc N i sn Q) (hi:i < Q.length):(fH acc N).getD i 0=Q.getD i 0/\i < (fH acc N).length:=⟨tP h.pre hi,Nat.lt_of_lt_of_le hi h.pre.length_le⟩
theorem xY.at (h:xY acc N i sn Q) (hi:i < Q.length):0<=Q.getD i 0/\(Q.getD i 0).toNat < N.length:=by have:=h.seen.rng _ (bq (d:=(0:Int)) hi);omega
theorem xZ.start (h:xY acc N i sn Q) (hi:i < Q.length):xZ acc N i sn Q 0 sn Q:=⟨h,hi,h.seen,rfl⟩
theorem xZ.rng (hj:j < ((dl N).getD (Q.getD i 0).toNat []).length):0<=((dl N).getD (Q.getD i 0).toNat []).getD j 0/\(((dl N).getD (Q.getD i 0).toNat []).getD j 0).toNat < N.length:=by
  obtain ⟨_,s,h2,h3,_⟩:=yW.1 (bq (d:=(0:Int)) hj)
  rw [h3];exact ⟨by omega,by simpa using h2⟩
theorem xZ.next (h:xZ acc N i sn Q j sn1 Q1) (hj:j < ((dl N).getD (Q.getD i 0).toNat []).length) {Q2:List Int} {D:List Bool} (hs:lS N.length D Q2) (e:io Q1 (((dl N).getD (Q.getD i 0).toNat []).getD j 0)=Q2):xZ acc N i sn Q (j + 1) D Q2 :=
  ⟨h.out,h.lt,hs,by rw [<- fz (z:=(0:Int)) hj,List.foldl_append,h.run];exact e⟩
theorem xZ.old (h:xZ acc N i sn Q j sn1 Q1) (hj:j < ((dl N).getD (Q.getD i 0).toNat []).length) (q:(!sn1.getD (((dl N).getD (Q.getD i 0).toNat []).getD j 0).toNat false)=false):xZ acc N i sn Q (j + 1) sn1 Q1:=by
  have hr:=xZ.rng hj
  refine h.next hj h.seen ?_
  rw [h.seen.is _ hr.2] at q
  rw [io,if_pos]
  simp only [Bool.not_eq_false',decide_eq_true_eq] at q
  rwa [show ((((dl N).getD (Q.getD i 0).toNat []).getD j 0).toNat:Int)=((dl N).getD (Q.getD i 0).toNat []).getD j 0 by omega] at q
theorem xZ.new (h:xZ acc N i sn Q j sn1 Q1) (hj:j < ((dl N).getD (Q.getD i 0).toNat []).length) (q:(!sn1.getD (((dl N).getD (Q.getD i 0).toNat []).getD j 0).toNat false)=true):xZ acc N i sn Q (j + 1) (sn1.set (((dl N).getD (Q.getD i 0).toNat []).getD j 0).toNat true) (Q1 ++ [((dl N).getD (Q.getD i 0).toNat []).getD j 0]):=by
  have hr:=xZ.rng hj
  rw [h.seen.is _ hr.2] at q
  simp only [Bool.not_eq_true',decide_eq_false_iff_not] at q
  rw [show ((((dl N).getD (Q.getD i 0).toNat []).getD j 0).toNat:Int)=((dl N).getD (Q.getD i 0).toNat []).getD j 0 by omega] at q
  exact h.next hj (h.seen.add O q) (by rw [io,if_neg q])
theorem xY.next (h:xZ acc N i sn Q j sn1 Q1) (hj:((dl N).getD (Q.getD i 0).toNat []).length=j):xY acc N (i + 1) sn1 Q1:=by
  obtain ⟨f,hf,e⟩:=h.out.fin
  have h1:=h.out.seen.qlen
  have h2:=h.lt
  obtain ⟨f,rfl⟩:∃ g,f=g + 1:=⟨f - 1,by omega⟩
  have hr:=h.run
  rw [<- hj,List.take_length] at hr
  have hp:Q <+: Q1:=by rw [<- hr];exact nU _ _
  refine ⟨h.seen,by have:=hp.length_le;omega,f,by omega,?_⟩
  rw [<- e,jb,if_pos h2,hr]
theorem xY.end (h:xY acc N i sn Q) (hi:Q.length<=i):Q=fH acc N/\i=(fH acc N).length:=by
  obtain ⟨f,hf,e⟩:=h.fin
  have h1:=h.seen.qlen
  have h2:=h.le
  have e2:Q=fH acc N:=by
    rw [<- e]
    cases f with
    | zero=>rfl
    | succ f=>rw [jb,if_neg O]
  exact ⟨e2,by rw [<- e2];omega⟩
end
def iZ (A B:AH) (bo:Nat) (v:Value):Prop:=∀ b,blk v=some b->A.n<=b/\¬ lR bo B b
section
variable {A B C E M:AH} {bo b:Nat} {v u vY:Value} {cY:Nat} {n:Nat} {xs:List Value}
theorem iZ.off (h:iZ A C bo v) (g:C.get bo=some (.row true [vY] cY)):Il v [some bo,blk vY]:=fun c hc=>by
  have:=(h c hc).2
  refine o9 (fun q=>this (.inl q)) (mQ (fun q=>this (.inr ⟨_,_,g,q⟩)) lJ)
theorem iZ.ne (h:iZ A C bo v):blk v ≠ some bo:=fun q=>(h bo q).2 (.inl Z)
theorem iZ.yield (h:iZ A C bo v) (fr:nu C v n xs) (g:C.get bo=some (.row true [vY] cY)) (hR:ct bo (C.hide [some bo,blk vY]) E):iZ A E bo v:=fun b hb=>⟨(h b hb).1,fun z=>by
  obtain ⟨o,ho⟩:=fr.blkget hb
  have:=hR.ow b z
  rw [bW ho (h.off g b hb)] at this;cases this⟩
theorem iZ.nm (hs:iZ A C bo v) (hq:iZ A C bo u) (h:b < A.n\/lR bo C b):some b ∉ [blk v,blk u]:=by
  refine mQ (fun z=>?_) (mQ (fun z=>?_) lJ)
  · have:=hs b z;rcases h with h | h;omega;exact this.2 h
  · have:=hq b z;rcases h with h | h;omega;exact this.2 h
theorem iZ.next {v':Value} (hs:iZ A C bo v) (hq:iZ A C bo u) (g:C.get bo=some (.row true [vY] cY)) (l:∀ b,blk vY=some b->∃ o,C.get b=some o) (gE:E.get bo=some (.row true [vY] cY))
    (nj:∀ b,blk v'=some b->(C.hide [blk v,blk u]).get b=none) (lo:∀ b,blk v'=some b->A.n<=b):iZ A E bo v':=fun b hb=>⟨lo b hb,fun z=>by
  have z2:lR bo C b:=z.same (by rw [gE,g])
  have hex:∃ o,C.get b=some o:=by
    rcases z2.val g with rfl | q
    · exact ⟨_,g⟩
    · exact l b q
  obtain ⟨o,ho⟩:=hex
  have:=nj b hb
  rw [bW ho (iZ.nm hs hq (.inr z2))] at this;cases this⟩
theorem iZ.start (g:C.get bo=some (.row true [vY] cY)) (l:∀ b,blk vY=some b->∃ o,A.get b=some o) (gA:A.get bo=some (.row true [vY] cY)) (nj:∀ b,blk v=some b->A.get b=none) (lo:∀ b,blk v=some b->A.n<=b):iZ A C bo v:=fun b hb=>⟨lo b hb,fun z=>by
  rcases z.val g with rfl | q
  · have:=nj _ hb;rw [gA] at this;cases this
  · obtain ⟨o,ho⟩:=l b q;have:=nj _ hb;rw [ho] at this;cases this⟩
theorem ct.keep (h:ct bo M C) (le:M.le E) (g:C.get bo=some (.row true [vY] cY)) (gE:E.get bo=some (.row true [vY] cY)):ct bo M E:=⟨le,h.wf,fun b hb=>h.ow b (hb.same (by rw [gE,g]))⟩
theorem JL {s:Value} (h:∀ b,blk s=some b->A.n<=b) (ap:lD C s n xs v E) (hn:A.n<=C.n):∀ b,blk v=some b->A.n<=b:=fun b hb=>(ap.blk b hb).elim (h b) fun q=>Nat.le_trans hn q
theorem Qc:∀ b,blk (.slice none 0 0)=some b->A.n<=b:=fun _ q=>by cases q
end
end Go.Proofs.YtjppkekmddjcfaaGreatDoor

namespace Go.Proofs.YtjppkekmddjcfaaGreatDoor
open Go Go.RowKit V
set_option maxRecDepth 100000
theorem lU:dk Tryz.prog 160=some false:=by kernel_rfl

theorem Qw (b:Nat) (rwb:Bool) (capb k:Nat) (av nv fv bv:Value) (acc:List Bool) (N:List (List Int)) (rows:List Value) (A:AH) (hok:Ak k acc N) (hb:A.get b=some (.row rwb [num (k:Int),av,nv,fv,bv] capb)) (hav:bH A 1 av (cg acc)) (hnv:bH A 1 nv (d6 rows)) (hrl:rows.length=N.length) (hF:∀ i,i < N.length->bH A 1 (rows.getD i undef) (cI (N.getD i []))):bF Tryz.prog 200 #[.pointer (some ⟨b,0,none⟩)] A (fun v A1=>∃ rows2,A.le A1/\A1.wf/\Fresh A A1 v 1 (d6 rows2)/\gy A A1 rows2 (dl N)/\aM v rows2):=by
 refine gw Tryz.call200 Tryz.func200 Z Tryz.results200 Tryz.ntmps200 Z (fun wf=>?_);have ac:=AH.le.refl A;obtain ⟨⟨dO,dS⟩,hal,hnl,hrow,hval⟩:=hok;refine an.seq fun _ h2=>.region<|.q Z (ae Z)<|.nil<|h2 _ _<|.seq fun _ h4=>.region<|.q Z (ah Z)<|.q Z (cJ Z)<|.q Z (aj i8 ie U Z) ?_;refine Ops.q Z (ak ib Z Z (ac.get _ _ hb) Z)<|.q Z (bE (n:=acc.length) kW Z (hav.le ac) O (eP _))<|.l Z (fun _ _ bS _=>lQ (n:=acc.length) (k:=acc.length) wf ac rfl rfl mZ fj Iq Dn rfl (Nat.le_refl _) (by show 24 * _<=_;omega) O fun A7 b6 c3 aC=>?_);rw [tR] at aC;have ab:=ac.trans c3.le;have aR:gy A A7 (List.replicate acc.length (Value.slice none 0 0)) (List.replicate acc.length []):=gy.nils;refine bS _ _<|.q Z (ae Z)<|.nil<|h4 _ _<|.seq fun _ bp=>.seq fun _ br=>.region<|.q Z (ah Z)<|.q Z (cJ Z)<|.q Z (aj oD iy U Z) ?_;refine Ops.q Z (ak jC Z Z (ab.get _ _ hb) Z)<|.q Z (bE (n:=rows.length) mZ Z (hnv.le ab) O (ir _))<|.q Z (ah Z)<|.nil<|br _ _<|.block<|.loop (X:=Nat × Value × List Value × List (List Int)) (fun ⟨s,ov,R,Bk⟩=>[(3,ov),(17,nv),(18,num ((rows.length:Nat):Int)),(19,num ((s:Nat):Int))]) (fun ⟨s,ov,R,Bk⟩ B=>(s<=N.length/\Ik N s Bk)/\A.le B/\Fresh A B ov 1 (d6 R)/\gy A B R Bk/\aM ov R) (fun ⟨s,ov,R,Bk⟩=>N.length - s) (⟨0,.slice (some ⟨b6,0,none⟩) acc.length acc.length,List.replicate acc.length (Value.slice none 0 0),List.replicate acc.length []⟩) (kq Z Z Z Z) (⟨⟨Nat.zero_le _,by first | exact Ik.start | (rw [hal];exact Ik.start)⟩,ab,aC,aR,zM⟩) ?_;rintro ⟨s,ov,R,Bk⟩ B17 ⟨⟨hs,hbk⟩,a8,a7,a5,a1⟩;refine an.wf fun b7=>?_;have hro:=fun q:s < N.length=>hrow s q;have hva:=fun x (q:s < N.length) (z:x < k)=>hval s x q z;refine an.seq fun _ bu=>.region<|.q Z (ca Z Z)<|.nil<|bu _ _<|.seq fun _ bA=>.if rfl (fun c7=>?_) (fun c7=>?_)
 ·refine an.skip<|bA _ _<|.seq fun _ bB=>.block<|.seq fun _ bC=>.region<|.q Z (ah Z) ?_;obtain ⟨di,dD,d2,e4,cX,e0,dV,b9,bU,bc,cC,aG⟩:=bH.at (i:=s) (hnv.le a8) On O;refine Ops.q Z (aE mZ fj Z b9 Z bU)<|.q Z (ak kY Z Z bc ((cN aG).trans (eo O)))<|.q Z (ae Z)<|.q Z (ae Z)<|.nil<|bC _ _<|.seq fun _ bD=>.region<|.q Z (ah Z)<|.q Z (bE (n:=((N.getD s [])).length) d9 Z ((hF s O).le a8) O (ee _)) ?_;refine Ops.q Z (ah Z)<|.nil<|bD _ _<|.block<|.loop (X:=Nat × Value × List Value × List (List Int)) (fun ⟨j,a3,R1,Bk1⟩=>[(3,a3),(4,num ((s:Nat):Int)),(17,nv),(18,num ((rows.length:Nat):Int)),(19,num ((s:Nat):Int)),(24,rows.getD s undef),(25,num ((((N.getD s [])).length:Nat):Int)),(26,num ((j:Nat):Int))]) (fun ⟨j,a3,R1,Bk1⟩ B=>(j<=k/\CX N s Bk j Bk1)/\A.le B/\Fresh A B a3 1 (d6 R1)/\gy A B R1 Bk1/\aM a3 R1) (fun ⟨j,a3,R1,Bk1⟩=>k - j) (⟨0,ov,R,Bk⟩) (wJ Z Z Z Z Z Z Z Z) (⟨⟨Nat.zero_le _,CX.start hbk⟩,a8,a7,a5,a1⟩) ?_;rintro ⟨j,a3,R1,Bk1⟩ B32 ⟨⟨hj,hbj⟩,a9,a0,V,D⟩;refine an.wf fun aA=>?_;have cS:R1.length=Bk1.length:=by first | exact gy.len ‹_›
  have cP:=hbj.len;have hvj:=fun z:j < k=>hva j O z;simp only [gB] at hvj;have hbd:=hbj.bound ((N.getD s []).getD j 0).toNat;refine an.seq fun _ bL=>.region<|.q Z (ca Z Z)<|.nil<|bL _ _<|.seq fun _ bM=>.if rfl (fun cc=>?_) (fun cc=>?_)
  ·refine an.skip<|bM _ _<|.seq fun _ aD=>.block<|.seq fun _ bO=>.region ?_;obtain ⟨dj,dI,d3,e5,cZ,e1,dW,ba,bV,bd,cH,aI⟩:=bH.at (i:=j) ((hF s O).le a9) Of O;refine Ops.q Z (aE d9 c0 Z ba Z bV)<|.q Z (ak eB Z Z bd ((cN aI).trans (cW O)))<|.q Z (ae Z)<|.nil<|bO _ _<|.seq fun _ bP=>.region<|.q Z (ah Z)<|.q Z (k8 Z Z)<|.nil ?_;refine bP _ _<|.if rfl (fun ch=>?_) (fun ch=>?_)
   ·refine an.region<|.q Z (ah Z)<|.q Z (ah Z)<|.q Z (ah Z)<|.q Z (ah Z) ?_;obtain ⟨dv,dJ,dd,e6,d0,e2,dZ,bb,bY,bl,cK,aP⟩:=bH.at (i:=(((N.getD s [])).getD j 0).toNat) a0.slc On O;refine Ops.q Z (aE mZ fj Z bb (iJ O) bY)<|.q Z (ak kY Z Z bl ((cN aP).trans (eo O)))<|.q Z (ah Z)<|.l Z (fun _ _ aY _=>aQ (c:=[num ((s:Nat):Int)]) aA rfl (aJ d9 c0 z3 rfl U U rfl) fun A50 dw a2=>?_);have cV:=V.ne_new aA a2.lo;have ag:=a0.le a2.le;have a6:=V.le a2.le;have b1:=a9.trans a2.le;refine aY _ _<|.l Z (fun _ _ aZ _=>cQ (ys:=[num ((s:Nat):Int)]) rfl rfl d9 c0 mf z3 rfl U d9 (fun _ h=>by cases h) (a6.fr ((((N.getD s [])).getD j 0).toNat) O).own (bZ (n:=1) a2.get Z) rfl rfl (by show (_ + _) * 8<=_;simp only [aH,List.length_cons,List.length_nil];(try simp only [List.length_append,List.length_cons,List.length_nil]);omega) O2 fun A58 e9 a4=>?_);rw [show ([num ((s:Nat):Int)]:List Value)=cI [((s:Nat):Int)] from rfl,dp] at a4;obtain ⟨ai,b2⟩:=Fresh.grow (a6.fr ((((N.getD s [])).getD j 0).toNat) O) b1 wf a4;have b5:=bw.appd (dQ D (s:=(((N.getD s [])).getD j 0).toNat) (by have:=a6.len;omega)).symm ag.own a2.wf a4;have aV:=ag.appd a4 (dQ D (s:=(((N.getD s [])).getD j 0).toNat) (by have:=a6.len;omega)).symm;have az:=Ct (s:=(((N.getD s [])).getD j 0).toNat) D b5.symm;have aS:=a6.appRow a2.wf O a4 ai;obtain ⟨ay,ar,ad,ck,_⟩:=ai.own.slice;subst ck;refine aZ _ _ ?_;obtain ⟨b8,e3,dz,cv,d1,aB,aF,bm,ea,c4,e7,bT⟩:=aV.at1 (x:=(((N.getD s [])).getD j 0).toNat) On;rw [cm] at aF;refine Ops.q Z (aE mZ fj Z aB (iJ O) (by rw [aF];omega))<|.l Z (fun _ _ b0 _=>bh (off:=(((N.getD s [])).getD j 0).toNat) (c':=cv.set ((((N.getD s [])).getD j 0).toNat) (.slice ay ar ad)) a4.wf rfl (by simp) rfl rfl fj bm (by show ((((N.getD s [])).getD j 0).toNat) + 1<=_;omega) rfl rfl fun A72 aa=>?_);have aT:=aS.keep aa.keep (fun r hr=>az r hr b8 (by rw [aB];rfl));have ap:=bT (.slice ay ar ad) A72 aa;rw [Kr] at ap;have b3:=aw b2 wf c4 aa.n aa.keep;refine b0 _ _<|.nil<|aD _ _<|.region<|.q Z (bz (b:=1) Z Z O)<|.q Z (ah Z)<|.nil ?_;exact ⟨⟨j + 1,a3,R1.set ((((N.getD s [])).getD j 0).toNat) (Value.slice ay ar ad),Bk1.set ((((N.getD s [])).getD j 0).toNat) (((Bk1.getD ((((N.getD s [])).getD j 0).toNat) [])) ++ [((s:Nat):Int)])⟩,wJ Z Z Z Z Z Z Z Z,Z,⟨⟨by omega,by first | exact hbj.yes O O ‹_› | exact hbj.no O O ‹_›⟩,b3,ap,aT,az⟩,O1⟩
   refine an.skip<|aD _ _<|.region<|.q Z (bz (b:=1) Z Z O)<|.q Z (ah Z)<|.nil ?_;exact ⟨⟨j + 1,a3,R1,Bk1⟩,wJ Z Z Z Z Z Z Z Z,Z,⟨⟨by omega,by first | exact hbj.yes O O ‹_› | exact hbj.no O O ‹_›⟩,a9,a0,V,D⟩,O1⟩
  refine an.exit<|bB _ _<|.region<|.q Z (bz (b:=1) Z Z O)<|.q Z (ah Z)<|.nil ?_;exact ⟨⟨s + 1,a3,R1,Bk1⟩,kq Z Z Z Z,Z,⟨⟨by omega,Ik.next hbj O O⟩,a9,a0,V,D⟩,O1⟩
 refine an.exit<|bp _ _<|.seq fun _ bR=>.region<|.q Z (ah Z)<|.q Z (ae Z)<|.nil<|bR _ _<|.rt (by exact aK Z (⟨_,a8,b7,a7,lI a5 (hbk.fin O),a1⟩))

theorem QH (b:Nat) (A:AH):bF Tryz.prog 180 #[.pointer (some ⟨b,0,none⟩)] A (fun v A1=>∃ b1,v=.func (.func 199) #[] #[.pointer (some ⟨b1,0,none⟩)]/\A.le A1/\A1.wf/\A1.get b1=some (.row true [.pointer (some ⟨b,0,none⟩)] 1)/\A.get b1=none):=by
 refine gw Tryz.call180 Tryz.func180 Z Tryz.results180 Tryz.ntmps180 Z (fun wf=>?_);have V:=AH.le.refl A;refine an.seq fun _ h2=>.region<|.l Z (fun _ _ X _=>dy wf rfl rfl fun A5 b4 h=>?_);have D:=aX wf (Nat.le_trans V.n h.lo);have a0:=V.trans h.le;refine X _ _<|.q Z (ae Z)<|.nil<|h2 _ _<|.seq fun _ h9=>.region<|.q Z (ll Z Z)<|.q Z (ae Z)<|.nil<|h9 _ _ ?_;refine an.ret ?_;repeat first | with_reducible refine bJ ?_ | with_reducible refine bx ?_
 exact aK Z (⟨b4,Z,a0,h.wf,h.get,D⟩)

theorem OE (D lp:Nat) (J:Nat->AH->Prop) (b:Nat) (rwb:Bool) (capb k:Nat) (av nv fv bv:Value) (acc:List Bool) (N:List (List Int)) (rows:List Value) (M A:AH) (b1 k1:Nat) (w1:Bool) (hP:ct D M A) (eL:J 0 A) (cP:M.get b1=some (.row w1 [.pointer (some ⟨b,0,none⟩)] k1)) (hok:Ak k acc N) (hb:M.get b=some (.row rwb [num (k:Int),av,nv,fv,bv] capb)) (hav:bH M 1 av (cg acc)) (hnv:bH M 1 nv (d6 rows)) (hrl:rows.length=N.length) (hF:∀ i,i < N.length->bH M 1 (rows.getD i undef) (cI (N.getD i []))) (hclo:∀ i C C2,J i C->C2.wf->C.n<=C2.n->(∀ b o,(b < A.n\/lR D C b)->C.get b=some o->C2.get b=some o)->J i C2) (hv:∀ i C,J i C->∃ v cap,C.get D=some (.row true [v] cap)/\∀ b,blk v=some b->∃ o,C.get b=some o) (hy:∀ k C M2,k < (fH acc N).length->C.wf->J k C->ct D M2 C->kx Tryz.prog lp #[num ((fH acc N).getD k 0)] C (fun v C2=>v=.bool true/\J (k + 1) C2/\C2.wf/\ct D M2 C2)):bF Tryz.prog 199 #[.func (.yield lp) #[] #[],.pointer (some ⟨b1,0,none⟩)] A (fun v A1=>J (fH acc N).length A1/\A1.wf/\ct D M A1):=by
 refine jE Tryz.call199 Tryz.func199 Z Tryz.results199 Tryz.ntmps199 Z (fun wf=>?_);have b5:=hP.le;have dz:=hok;obtain ⟨⟨kv,kC⟩,hal,hnl,hrow,hval⟩:=hok;obtain ⟨vX,cX,gX,lX⟩:=hv _ _ eL;have hf:=AH.le.refl A;have hbl:=pY (N:=N);refine an.seq fun _ h2=>.region<|.q Z (ak lU Z Z (b5.get _ _ cP) Z)<|.l Z (fun _ _ hd _=>ax Z (Qw b _ _ k av nv fv bv acc N rows A dz (b5.get _ _ hb) (hav.le b5) (hnv.le b5) hrl (fun i hi=>(hF i hi).le b5)) ?_);rintro v4 A5 ⟨bc,dV,bL,bM,bl,gg⟩;have hm:=b5.trans dV;have bY:=hf.trans dV;have xr:=bM;have xf:=bl;have xs:=gg;have gZ:=bY.get _ _ gX;have aT:M.le (A5.hide [some D,blk vX]):=ce hm (fun b hb=>by simp only [List.mem_cons,List.not_mem_nil,or_false,Option.some.injEq] at hb;rcases hb with rfl | hb;exact hP.ow _ (.inl Z);exact hP.ow _ (.inr ⟨_,_,gX,hb.symm⟩));have hbk:bH (A5.hide [some D,blk vX]) 1 v4 (d6 bc):=pK bM gX lX (fun b h=>bM.lo b h);have hFK:∀ i,i < N.length->bH (A5.hide [some D,blk vX]) 1 (bc.getD i undef) (cI ((dl N).getD i [])):=fun i hi=>pK (bl.fr i (by rw [pY];exact hi)) gX lX (fun b h=>(bl.fr i (by rw [pY];exact hi)).lo b h);have hrb:bc.length=N.length:=by rw [bl.len,pY]
 have aP:=cz A5 [some D,blk vX];have br:=ci (bs:=[some D,blk vX]) bL;have dv:(A5.hide [some D,blk vX]).get D=none:=cn (by simp);have dw:∀ b,blk vX=some b->(A5.hide [some D,blk vX]).get b=none:=fun b h=>cn (by simp [h]);have bT:A.n<=(A5.hide [some D,blk vX]).n:=bY.n;generalize hM1:A5.hide [some D,blk vX]=M1 at aT hbk hFK aP br dv dw bT;refine hd _ _<|.q Z (ae Z)<|.nil<|h2 _ _<|.seq fun _ gF=>.region<|.q Z (ak lU Z Z (aP.get _ _ (aT.get _ _ cP)) Z)<|.q Z (cJ Z)<|.q Z (aj i8 ie U Z)<|.q Z (ak ib Z Z (aP.get _ _ (aT.get _ _ hb)) Z) ?_;refine Ops.q Z (bE (n:=acc.length) kW Z ((hav.le aT).le aP) O (eP _))<|.l Z (fun _ _ fL _=>lQ (n:=acc.length) (k:=acc.length) bL aP rfl rfl kW lA z4 Jv rfl (Nat.le_refl _) (by show 1 * _<=_;omega) O fun A13 gp aV ck=>?_);rw [m7] at ck;have bb:=ne_new bL gZ aV.lo;have cS:=aX wf (Nat.le_trans bY.n aV.lo);have dW:=Nat.le_trans aP.n aV.lo;have gG:=aV.le.get _ _ gZ;have b9:=aP.trans aV.le;have fS:=bY.trans aV.le;refine fL _ _<|.q Z (ae Z)<|.nil<|gF _ _<|.seq fun _ gL=>.region<|.q Z (ae Z)<|.nil<|gL _ _<|.seq fun _ gM=>?_;refine an.seq fun _ gN=>.region<|.q Z (ak lU Z Z (b9.get _ _ (aT.get _ _ cP)) Z)<|.q Z (cJ Z)<|.q Z (aj i8 ie U Z)<|.q Z (ak ib Z Z (b9.get _ _ (aT.get _ _ hb)) Z)<|.q Z (bE (n:=acc.length) kW Z ((hav.le aT).le b9) O (eP _))<|.q Z (ah Z)<|.nil<|gN _ _ ?_;refine an.block<|.loop (X:=Nat × List Bool × List Int × Value × Value) (fun ⟨s,sn,Q,sv,qv⟩=>[(0,.func (.yield lp) #[] #[]),(3,v4),(4,sv),(5,qv),(22,av),(23,num ((acc.length:Nat):Int)),(24,num ((s:Nat):Int))]) (fun ⟨s,sn,Q,sv,qv⟩ B=>(s<=acc.length/\lS N.length sn Q/\Q=o6 acc s)/\M1.le B/\Fresh M1 B sv 1 (cg sn)/\Fresh M1 B qv 1 (cI Q)/\B.get D=some (.row true [vX] cX)/\V.blk sv ≠ some D/\V.blk qv ≠ some D/\bw sv qv/\A.le B/\(∀ b,V.blk sv=some b->A.get b=none)/\(∀ b,V.blk qv=some b->A.get b=none)/\((∀ b,blk sv=some b->A.n<=b)/\(∀ b,blk qv=some b->A.n<=b))) (fun ⟨s,sn,Q,sv,qv⟩=>acc.length - s) (⟨0,List.replicate acc.length false,[],.slice (some ⟨gp,0,none⟩) acc.length acc.length,.slice none 0 0⟩) (Dh Z Z Z Z Z Z Z) (⟨⟨Nat.zero_le _,by rw [hal];exact lS.nil,rfl⟩,b9,ck,(Fresh.nil M1 A13 1),gG,(fun q=>by cases q;exact bb rfl),(fun q=>by cases q),(bw.symm bw.nil),fS,(fun b q=>by cases q;exact cS),(fun _ q=>by cases q),⟨(fun b q=>by cases q;exact Nat.le_trans bT dW),Qc⟩⟩) ?_;rintro ⟨s,sn,Q,sv,qv⟩ B26 ⟨⟨hs,hse,hQ⟩,ba,aI,aG,aa,ap,ai,ab,aZ,aB,aA,los,loq⟩;refine an.wf fun bd=>?_;have hsl:=hse.len;have hql:=hse.qlen;have dj:=hse.add (p:=(s:Int));refine an.seq fun _ gP=>.region<|.q Z (ca Z Z)<|.nil<|gP _ _<|.seq fun _ gQ=>.if rfl (fun hp=>?_) (fun hp=>?_)
 ·refine an.skip<|gQ _ _<|.seq fun _ eC=>.block<|.seq fun _ gS=>.region<|.q Z (ah Z) ?_;obtain ⟨Pz,km,k4,kT,k0,kL,kD,gq,hk,gA,hU,eX⟩:=bH.at (i:=s) ((hav.le aT).le ba) Oi O;refine Ops.q Z (aE kW lA Z gq Z hk)<|.q Z (ak sY Z Z gA ((cN eX).trans (dY O)))<|.q Z (ae Z)<|.q Z (ae Z)<|.nil<|gS _ _<|.seq fun _ h0=>.region<|.q Z (ah Z)<|.nil ?_;refine h0 _ _<|.ifB Z (fun hq=>?_) (fun hq=>?_)
  ·refine an.seq fun _ h1=>.region<|.q Z (ah Z)<|.q Z (ah Z) ?_;obtain ⟨eA,kM,kl,ht,k2,bO,eS,gC,l2,ho,l0,hh⟩:=aI.at1 (x:=s) Oi;rw [bG] at eS;refine Ops.q Z (aE kW lA Z bO Z (by rw [eS];omega))<|.l Z (fun _ _ fM _=>bh (off:=s) (c':=ht.set s (.bool (true))) bd rfl (by simp) rfl rfl lA gC (by show s + 1<=_;omega) rfl rfl fun A45 aF=>?_);have h3:=aF.keep _ _ (fun q=>ap (by rw [bO];exact congrArg some q.symm)) aa;have f3:=aG.keep aF.keep (ab eA (by rw [bO];rfl));have cv:=hh (.bool (true)) A45 aF;rw [kn] at cv;have dD:=aw aZ wf (aB eA (by rw [bO];rfl)) aF.n aF.keep;have dO:=aw ba br ho aF.n aF.keep;refine fM _ _<|.nil<|h1 _ _<|.region<|.q Z (ah Z)<|.q Z (ah Z)<|.l Z (fun _ _ fN _=>aQ (c:=[num ((s:Nat):Int)]) aF.wf rfl (aJ d9 c0 z3 rfl U U rfl) fun A54 kc ag=>?_);have gE:=aX wf (Nat.le_trans dD.n ag.lo);have hn:=Nat.le_trans dO.n ag.lo;have eG:=ag.le.get _ _ h3;have cC:=cv.le ag.le;have cH:=f3.le ag.le;have dS:=dO.trans ag.le;have dI:=dD.trans ag.le;refine fN _ _<|.l Z (fun _ _ fO _=>cQ (ys:=[num ((s:Nat):Int)]) rfl rfl d9 c0 mf z3 rfl U d9 (fun _ h=>by cases h) cH.own (bZ (n:=1) ag.get Z) rfl rfl (by show (_ + _) * 8<=_;simp only [aH,List.length_cons,List.length_nil];(try simp only [List.length_append,List.length_cons,List.length_nil]);omega) O2 fun A64 hu ay=>?_);rw [show ([num ((s:Nat):Int)]:List Value)=cI [((s:Nat):Int)] from rfl,dp] at ay;obtain ⟨f4,g3⟩:=Fresh.grow cH dS br ay;have h4:=ay.keep ai eG;have g5:=ay.ne ai ag.wf eG;have ge:=bw.appd (show bw qv sv from (bw.symm ab)) cC.own ag.wf ay;have f6:=cC.appd ay (bw.symm ab);have g4:=JL loq ay (Nat.le_trans bT dS.n);have fT:=Dt dI wf ay aA;have g6:=Du dI wf ay aA;refine fO _ _<|.q Z (ae Z)<|.nil<|eC _ _<|.region<|.q Z (bz (b:=1) Z Z O)<|.q Z (ah Z)<|.nil ?_;exact ⟨⟨s + 1,sn.set s true,Q ++ [((s:Nat):Int)],sv,hu⟩,Dh Z Z Z Z Z Z Z,Z,⟨⟨by omega,by first | exact hse | exact dj O (by rw [hQ];exact yg),by first | exact yh hQ ‹_› | exact CY hQ ‹_›⟩,g3,f6,f4,h4,ap,g5,(bw.symm ge),fT,aB,g6,⟨los,g4⟩⟩,O1⟩
  refine an.skip<|eC _ _<|.region<|.q Z (bz (b:=1) Z Z O)<|.q Z (ah Z)<|.nil ?_;exact ⟨⟨s + 1,sn,Q,sv,qv⟩,Dh Z Z Z Z Z Z Z,Z,⟨⟨by omega,by first | exact hse | exact dj O (by rw [hQ];exact yg),by first | exact yh hQ ‹_› | exact CY hQ ‹_›⟩,ba,aI,aG,aa,ap,ai,ab,aZ,aB,aA,⟨los,loq⟩⟩,O1⟩
 refine an.exit<|gM _ _<|.seq fun _ h5=>.region<|.q Z (ae Z)<|.nil<|h5 _ _<|.block ?_;have fI:=hclo _ _ _ eL bd aZ.n (fun b o _ h=>aZ.get b o h);have oS:iZ A B26 D sv:=iZ.start aa lX gX aB los;have oQ:iZ A B26 D qv:=iZ.start aa lX gX aA loq;have b6:M1.le (B26.hide [some D,blk vX,blk sv,blk qv]):=ce ba (sh dv (qS dw (qS aI.lo (qS aG.lo nw))));have frS:Fresh (B26.hide [some D,blk vX,blk sv,blk qv]) B26 sv 1 (cg sn):=aI.hide (by simp);have frQ:Fresh (B26.hide [some D,blk vX,blk sv,blk qv]) B26 qv 1 (cI Q):=aG.hide (by simp);have eQ:ct D (B26.hide [some D,blk vX,blk sv,blk qv]) B26:=⟨cz _ _,ci bd,fun b hb=>cn (by rcases hb.val aa with rfl | q;simp;simp [q])⟩;have di:=cz B26 [some D,blk vX,blk sv,blk qv];have bu:=ci (bs:=[some D,blk vX,blk sv,blk qv]) bd;have hseQ:Q=o6 acc acc.length:=by rw [hQ,show s=acc.length by omega]
 have fQ:xY acc N 0 sn Q:=by subst hseQ;exact xY.start hse
 generalize hM2:(B26.hide [some D,blk vX,blk sv,blk qv])=M2 at b6 frS frQ eQ di bu;refine an.loop (X:=Nat × List Bool × List Int × Value × Value) (fun ⟨i,b3,Q1,a6,a5⟩=>[(0,.func (.yield lp) #[] #[]),(3,v4),(4,a6),(5,a5),(8,num ((i:Nat):Int))]) (fun ⟨i,b3,Q1,a6,a5⟩ B=>(xY acc N i b3 Q1)/\M2.le B/\Fresh M2 B a6 1 (cg b3)/\Fresh M2 B a5 1 (cI Q1)/\bw a6 a5/\(J i B/\ct D M2 B/\iZ A B D a6/\iZ A B D a5)) (fun ⟨i,b3,Q1,a6,a5⟩=>N.length + 1 - i) (⟨0,sn,Q,sv,qv⟩) (pd Z Z Z Z Z) (⟨fQ,di,frS,frQ,ab,⟨fI,eQ,oS,oQ⟩⟩) ?_;rintro ⟨i,b3,Q1,a6,a5⟩ B81 ⟨hlv,iN,b0,az,bC,d1,d3,eV,eT⟩;refine an.wf fun bD=>?_;have ih:=hlv.seen.len;have i1:=hlv.seen.qlen;have hil:=hlv.le;have hat:=fun q:i < Q1.length=>hlv.at q;have hget:=fun q:i < Q1.length=>hlv.get q;have hbb:=dz.back (Q1.getD i 0).toNat;refine an.seq fun _ h6=>.seq fun _ h7=>.region<|.q Z (ah Z)<|.q Z (ah Z)<|.q Z (bE (n:=Q1.length) d9 Z az.slc O (ee _))<|.q Z (ca Z Z)<|.nil<|h7 _ _<|.if rfl (fun hr=>?_) (fun hr=>?_)
 ·refine an.skip<|h6 _ _<|.seq fun _ h8=>.block<|.seq fun _ h9=>.seq fun _ ha=>?_;obtain ⟨vY,cY,gY,lY⟩:=hv _ _ d1;have hyy:=hy i B81 _ (hget O).2 bD d1 (ct.full gY bD);rw [(hget O).1] at hyy;refine an.regionJ ?_;refine jj.q jK Z Z (ah Z) ?_;refine jj.q jK Z Z (ah Z) ?_;refine jj.q jK Z Z (ah Z) ?_;obtain ⟨kk,kp,k6,kV,k3,kP,kK,gs,hl,gD,hV,eY⟩:=bH.at (i:=i) az.slc Of O;refine jj.q jK Z Z (aE d9 c0 Z gs Z hl) ?_;refine jj.q jK Z Z (ak eB Z Z gD ((cN eY).trans (cW O))) ?_;refine jj.y jK rfl rfl rfl (hyy) fun l1 A95 fR=>?_;obtain ⟨rfl,eN,hw,b2⟩:=fR;obtain ⟨vZ,cZ,gZ,lZ⟩:=hv _ _ eN;have b8:=b2.mono (d3.sub gY) d3.wf;have f7:=b0.off (iZ.off eV gY) b2.le;have cK:=az.off (iZ.off eT gY) b2.le;have bp:=iZ.yield eV b0.own gY b2;have bm:=iZ.yield eT az.own gY b2;have hg:=cz A95 [blk a6,blk a5];have c3:=ci (bs:=[blk a6,blk a5]) hw;have njS:∀ b,blk a6=some b->(A95.hide [blk a6,blk a5]).get b=none:=fun b h=>cn (by simp [h]);have njQ:∀ b,blk a5=some b->(A95.hide [blk a6,blk a5]).get b=none:=fun b h=>cn (by simp [h]);have he:A.n<=M2.n:=Nat.le_trans bT b6.n;refine jj.q jK Z Z (eb Z) ?_;refine jj.nil ?_;refine ha _ _<|.cond_false Z<|.skip<|h9 _ _<|.seq fun _ hc=>.region<|.q Z (ah Z)<|.q Z (ah Z)<|.q Z (ah Z) ?_;obtain ⟨hM,hW,hI,j2,hC,iS,iv,eZ,fX,f9,hx,e1⟩:=bH.at (i:=i) cK.slc Of O;refine Ops.q Z (aE d9 c0 Z eZ Z fX)<|.q Z (ak eB Z Z f9 ((cN e1).trans (cW O))) ?_;obtain ⟨hN,hX,hJ,j3,hD,iT,iD,f0,g0,fd,hz,e2⟩:=bH.at (i:=(Q1.getD i 0).toNat) ((hbk.le b6).le b8.le) (by simp only [cm];have:=hat O;omega) O;refine Ops.q Z (aE mZ fj Z f0 (iJ (by have:=hat O;omega)) g0)<|.q Z (ak kY Z Z fd ((cN e2).trans (eo (by have:=hat O;omega))))<|.q Z (bE (n:=((((dl N)).getD ((Q1.getD i 0).toNat) [])).length) d9 Z (((fun i hi=>(hFK i hi).le b6) ((Q1.getD i 0).toNat) (by have:=hat O;omega)).le b8.le) O (ee _))<|.q Z (ah Z)<|.nil<|hc _ _<|.block<|.loop (X:=Nat × List Bool × List Int × Value × Value) (fun ⟨j,aY,Q2,ar,aC⟩=>[(0,.func (.yield lp) #[] #[]),(3,v4),(4,ar),(5,aC),(8,num ((i:Nat):Int)),(57,bc.getD ((Q1.getD i 0).toNat) undef),(58,num ((((((dl N)).getD ((Q1.getD i 0).toNat) [])).length:Nat):Int)),(59,num ((j:Nat):Int))]) (fun ⟨j,aY,Q2,ar,aC⟩ B=>(j<=((dl N).getD (Q1.getD i 0).toNat []).length/\xZ acc N i b3 Q1 j aY Q2)/\M2.le B/\Fresh M2 B ar 1 (cg aY)/\Fresh M2 B aC 1 (cI Q2)/\B.get D=some (.row true [vZ] cZ)/\V.blk ar ≠ some D/\V.blk aC ≠ some D/\bw ar aC/\(A95.hide [blk a6,blk a5]).le B/\(∀ b,V.blk ar=some b->(A95.hide [blk a6,blk a5]).get b=none)/\(∀ b,V.blk aC=some b->(A95.hide [blk a6,blk a5]).get b=none)/\((∀ b,blk ar=some b->A.n<=b)/\(∀ b,blk aC=some b->A.n<=b))) (fun ⟨j,aY,Q2,ar,aC⟩=>((dl N).getD (Q1.getD i 0).toNat []).length - j) (⟨0,b3,Q1,a6,a5⟩) (wJ Z Z Z Z Z Z Z Z) (⟨⟨Nat.zero_le _,xZ.start hlv O⟩,b8.le,f7,cK,gZ,bp.ne,bm.ne,bC,hg,njS,njQ,⟨(fun b q=>(bp b q).1),(fun b q=>(bm b q).1)⟩⟩) ?_;rintro ⟨j,aY,Q2,ar,aC⟩ B103 ⟨⟨hj,hlj⟩,aS,ac,aD,a1,a4,a3,a2,aR,a9,a8,bB,bA⟩;refine an.wf fun cc=>?_;have it:=hlj.seen.len;have i2:=hlj.seen.qlen;have hrg:=fun q:j < ((dl N).getD (Q1.getD i 0).toNat []).length=>xZ.rng q;refine an.seq fun _ fm=>.region<|.q Z (ca Z Z)<|.nil<|fm _ _<|.seq fun _ fn=>.if rfl (fun g8=>?_) (fun g8=>?_)
  ·refine an.skip<|fn _ _<|.seq fun _ cV=>.block<|.seq fun _ fo=>.region ?_;obtain ⟨hO,hY,hK,j4,hE,iV,iF,f1,g1,fe,hA,e3⟩:=bH.at (i:=j) (((fun i hi=>(hFK i hi).le b6) ((Q1.getD i 0).toNat) (by have:=hat O;omega)).le aS) Of O;refine Ops.q Z (aE d9 c0 Z f1 Z g1)<|.q Z (ak eB Z Z fe ((cN e3).trans (cW O)))<|.q Z (ae Z)<|.nil<|fo _ _<|.seq fun _ fq=>.region<|.q Z (ah Z)<|.q Z (ah Z) ?_;obtain ⟨hR,hZ,hL,jX,hG,iX,iH,f2,g2,fi,hB,e4⟩:=bH.at (i:=(((((dl N)).getD ((Q1.getD i 0).toNat) [])).getD j 0).toNat) ac.slc Oi O;refine Ops.q Z (aE kW lA Z f2 (iJ O) g2)<|.q Z (ak sY Z Z fi ((cN e4).trans (dY O)))<|.q Z (eb Z)<|.nil<|fq _ _<|.ifB Z (fun g9=>?_) (fun g9=>?_)
   ·refine an.seq fun _ ft=>.region<|.q Z (ah Z)<|.q Z (ah Z) ?_;obtain ⟨ch,j1,hT,gc,hH,b7,dJ,fl,k9,g7,k7,fV⟩:=ac.at1 (x:=(((((dl N)).getD ((Q1.getD i 0).toNat) [])).getD j 0).toNat) Oi;rw [bG] at dJ;refine Ops.q Z (aE kW lA Z b7 (iJ O) (by rw [dJ];omega))<|.l Z (fun _ _ e9 _=>bh (off:=(((((dl N)).getD ((Q1.getD i 0).toNat) [])).getD j 0).toNat) (c':=gc.set ((((((dl N)).getD ((Q1.getD i 0).toNat) [])).getD j 0).toNat) (.bool (true))) cc rfl (by simp) rfl rfl lA fl (by show ((((((dl N)).getD ((Q1.getD i 0).toNat) [])).getD j 0).toNat) + 1<=_;omega) rfl rfl fun A123 ad=>?_);have fD:=ad.keep _ _ (fun q=>a4 (by rw [b7];exact congrArg some q.symm)) a1;have e5:=aD.keep ad.keep (a2 ch (by rw [b7];rfl));have bP:=fV (.bool (true)) A123 ad;rw [kn] at bP;have bU:=aw aR c3 (a9 ch (by rw [b7];rfl)) ad.n ad.keep;have c4:=aw aS bu g7 ad.n ad.keep;refine e9 _ _<|.nil<|ft _ _<|.region<|.q Z (ah Z)<|.q Z (ah Z)<|.l Z (fun _ _ ea _=>aQ (c:=[num (((((dl N)).getD ((Q1.getD i 0).toNat) [])).getD j 0)]) ad.wf rfl (aJ d9 c0 z3 rfl U U rfl) fun A132 hS a0=>?_);have gl:=aX c3 (Nat.le_trans bU.n a0.lo);have gm:=Nat.le_trans c4.n a0.lo;have d0:=a0.le.get _ _ fD;have bR:=bP.le a0.le;have bS:=e5.le a0.le;have c7:=c4.trans a0.le;have bV:=bU.trans a0.le;refine ea _ _<|.l Z (fun _ _ ec _=>cQ (ys:=[num (((((dl N)).getD ((Q1.getD i 0).toNat) [])).getD j 0)]) rfl rfl d9 c0 mf z3 rfl U d9 (fun _ h=>by cases h) bS.own (bZ (n:=1) a0.get Z) rfl rfl (by show (_ + _) * 8<=_;simp only [aH,List.length_cons,List.length_nil];(try simp only [List.length_append,List.length_cons,List.length_nil]);omega) O2 fun A142 gf a7=>?_);rw [show ([num (((((dl N)).getD ((Q1.getD i 0).toNat) [])).getD j 0)]:List Value)=cI [((((dl N)).getD ((Q1.getD i 0).toNat) [])).getD j 0] from rfl,dp] at a7;obtain ⟨e6,en⟩:=Fresh.grow bS c7 bu a7;have fE:=a7.keep a3 d0;have ex:=a7.ne a3 a0.wf d0;have ez:=bw.appd (show bw aC ar from (bw.symm a2)) bR.own a0.wf a7;have e7:=bR.appd a7 (bw.symm a2);have ev:=JL bA a7 (Nat.le_trans he c7.n);have eg:=Dt bV c3 a7 a8;have ey:=Du bV c3 a7 a8;refine ec _ _<|.q Z (ae Z)<|.nil<|cV _ _<|.region<|.q Z (bz (b:=1) Z Z O)<|.q Z (ah Z)<|.nil ?_;exact ⟨⟨j + 1,aY.set ((((((dl N)).getD ((Q1.getD i 0).toNat) [])).getD j 0).toNat) true,Q2 ++ [((((dl N)).getD ((Q1.getD i 0).toNat) [])).getD j 0],ar,gf⟩,wJ Z Z Z Z Z Z Z Z,Z,⟨⟨by omega,by first | exact hlj.new O ‹_› | exact hlj.old O ‹_›⟩,en,e7,e6,fE,a4,ex,(bw.symm ez),eg,a9,ey,⟨bB,ev⟩⟩,O1⟩
   refine an.skip<|cV _ _<|.region<|.q Z (bz (b:=1) Z Z O)<|.q Z (ah Z)<|.nil ?_;exact ⟨⟨j + 1,aY,Q2,ar,aC⟩,wJ Z Z Z Z Z Z Z Z,Z,⟨⟨by omega,by first | exact hlj.new O ‹_› | exact hlj.old O ‹_›⟩,aS,ac,aD,a1,a4,a3,a2,aR,a9,a8,⟨bB,bA⟩⟩,O1⟩
  refine an.exit<|h8 _ _<|.region<|.q Z (ah Z)<|.q Z (bz (b:=1) Z Z O)<|.q Z (ae Z)<|.nil ?_;have d2:=hclo _ _ _ eN cc aR.n (fun b o hb h=>aR.get b o (bW h (iZ.nm bp bm hb)));have dd:=ct.keep b8 aS gZ a1;have e0:=iZ.next bp bm gZ lZ a1 a9 bB;have dZ:=iZ.next bp bm gZ lZ a1 a8 bA;exact ⟨⟨i + 1,aY,Q2,ar,aC⟩,pd Z Z Z Z Z,Z,⟨xY.next hlj O,aS,ac,aD,a2,⟨d2,dd,e0,dZ⟩⟩,O1⟩
 refine an.exit ?_;repeat first | with_reducible refine bJ ?_ | with_reducible refine bx ?_
 repeat first | with_reducible refine eF ?_ | with_reducible refine d7 ?_ | with_reducible refine dH U ?_ | with_reducible refine dK ?_ | with_reducible refine db ?_
 exact vK (vs:=[]) Z (⟨by rw [<- (hlv.end O).2];exact d1,bD,d3.mono (aT.trans b6) hP.wf⟩)
end Go.Proofs.YtjppkekmddjcfaaGreatDoor

namespace Go.Proofs.YtjppkekmddjcfaaGreatDoor
open Go Go.RowKit V
abbrev iG (p:Bool × Bool):Value:=.agg #[.bool p.1,.bool p.2]
section
variable {P:Program} {w:World} {kt bt:TypeId} {p q:Bool × Bool}
structure IB (P:Program) (kt bt:TypeId):Prop where
  arr:P.underlying kt=some (.array 2 bt)
  bool:P.underlying bt=some .bool
  sz:dc P bt=some 1
  ag:dk P bt=some false
theorem CE (h:IB P kt bt):(part bt #[.bool p.1,.bool p.2] 0).run P w=.ok (.bool p.1) w:=mq (by rw [n8,h.ag];rfl)
theorem CF (h:IB P kt bt):(part bt #[.bool p.1,.bool p.2] 1).run P w=.ok (.bool p.2) w:=mq (by rw [n8,h.ag];rfl)
theorem uj (h:IB P kt bt) (b:Bool):(Instr.checkKey b 10000 kt (iG p)).run P w=.ok () w:=by
  have e:Instr.checkKey b 10000 kt (iG p)=Instr.checkKey b (9998 + 1 + 1) kt (iG p):=rfl
  rw [e]
  generalize 9998=d
  have hb:∀ v,(Instr.checkKey b (d + 1) bt (.bool v)).run P w=.ok () w:=fun v=>by
    unfold Instr.checkKey
    simp only [Sem.run_bind,cb h.bool,Result.andThen_ok];rfl
  rw [Instr.checkKey]
  simp [Sem.run_bind,cb h.arr,Result.andThen_ok,Std.Legacy.Range.forIn_eq_forIn_range',List.range',dN h.sz,hb]
  rw [CE h];simp [hb]
  rw [CF h];simp [hb]
theorem Cd (h:IB P kt bt):(Op.equal kt (iG p) (iG q)).run P w=.ok (decide (p=q)) w:=by
  have e:Op.equal kt (iG p) (iG q)=Op.equalIn (9998 + 1 + 1) kt (iG p) (iG q):=rfl
  rw [e]
  generalize 9998=d
  have hb:∀ u v,(Op.equalIn (d + 1) bt (.bool u) (.bool v)).run P w=.ok (u == v) w:=fun u v=>by
    simp only [Op.equalIn,Sem.run_bind,cb h.bool,Result.andThen_ok];rfl
  rw [Op.equalIn]
  simp [Sem.run_bind,cb h.arr,Result.andThen_ok,Std.Legacy.Range.forIn_eq_forIn_range',List.range',dN h.sz,hb]
  rw [CE h];simp
  rw [CE h];simp [hb]
  obtain ⟨p1,p2⟩:=p
  obtain ⟨q1,q2⟩:=q
  by_cases h1:p1=q1
  · subst h1
    simp
    rw [CF (p:=(p1,p2)) h];simp
    rw [CF (p:=(p1,q2)) h];simp [hb]
    by_cases h2:p2=q2
    · subst h2;simp
    · simp [h2]
  · simp [h1]
theorem KB (h:IB P kt bt) (k:Bool × Bool):∀ (l:List MapEntry) (E:List ((Bool × Bool) × Value)) (n:Nat),l.map (fun x=>(x.key,x.val))=E.map (fun p=>(iG p.1,p.2)) ->
    ∃ r,(Instr.findAsking kt (iG k) l n).run P w=.ok r w/\r.map (·.2)=lk E k:=by
  intro l
  induction l with
  | nil =>
    intro E n hE
    cases E with
    | nil=>exact ⟨none,Z,Z⟩
    | cons p E=>cases hE
  | cons x l ih =>
    intro E n hE
    cases E with
    | nil=>cases hE
    | cons p E =>
      simp only [List.map_cons,List.cons.injEq,Prod.mk.injEq] at hE
      obtain ⟨⟨h1,h2⟩,h3⟩:=hE
      rw [Instr.findAsking]
      simp only [Sem.run_bind,h1,Cd h,Result.andThen_ok]
      by_cases q:k=p.1
      · rw [decide_eq_true q]
        exact ⟨some (n,x.val),Z,by simp [lk,q,h2]⟩
      · rw [decide_eq_false q]
        obtain ⟨r,g1,g2⟩:=ih E (n + 1) h3
        exact ⟨r,g1,by rw [g2];simp [lk,show ¬ p.1=k from fun e=>q e.symm]⟩
theorem vO (h:IB P kt bt) (k:Bool × Bool) {es:Array MapEntry} {E:List ((Bool × Bool) × Value)} (hE:dh iG es E):∃ r,(Instr.findKey kt (iG k) es.toList).run P w=.ok r w/\r.map (·.2)=lk E k:=by
  obtain ⟨r,g1,g2⟩:=KB (w:=w) h k es.toList E 0 hE
  unfold Instr.findKey
  simp only [Sem.run_bind,cb h.arr,Result.andThen_ok]
  cases hl:es.toList with
  | nil =>
    refine ⟨none,Z,?_⟩
    have hE':es.toList.map (fun x=>(x.key,x.val))=E.map fun p=>(iG p.1,p.2):=hE
    rw [hl] at hE'
    cases E with
    | nil=>rfl
    | cons p E=>cases hE'
  | cons x l =>
    rw [hl] at g1
    refine ⟨r,?_,g2⟩
    have:Instr.findNow (.array 2 bt) (iG k) (x :: l) 0=none:=by
      unfold Instr.findNow
      have:Instr.sameNow (.array 2 bt) (iG k) x.key=none:=by unfold Instr.sameNow;rfl
      rw [this]
    rw [this];exact g1
end
section
variable {P:Program} {nt:Nat} {all:Array Oper} {os:List Oper} {Q:Exit->Fr->AH->Prop} {e:ga} {ds:List Deferred} {A:AH} {x y z:Operand} {t kt et bt:TypeId} {ty:TypeId} {ps:String} {af:Array Edge} {dst:Option Nat} {m clock:Nat} {es:Array MapEntry} {rw:Bool} {E:List ((Bool × Bool) × Value)} {k:Bool × Bool} {v zv:Value}
theorem V.Ops.look2 (hd:fP nt dst=true) (hx:bX e x=some (.map (some m))) (hy:bX e y=some (iG k)) (hu:P.underlying t=some (.map kt et)) (hk:IB P kt bt) (hz:cx P et=some zv) (hg:A.get m=some (.obj rw (.map es clock))) (hE:dh iG es E)
    (h1:∀ v,lk E k=some v->Ops P nt all os Q ⟨fc e dst (.tuple #[v,.bool true]),ds⟩ A) (h2:lk E k=none->Ops P nt all os Q ⟨fc e dst (.tuple #[zv,.bool false]),ds⟩ A) :
    Ops P nt all ({ dst:=dst,op:=.lookup t x y true,type:=ty,pos:=ps,after:=af,guard:=none } :: os) Q ⟨e,ds⟩ A:=by
  have key:∀ (u:Value × Bool),u=(match lk E k with | some v=>(v,true) | none=>(zv,false))->∀ a:Act,cT nt ⟨e,ds⟩ a->∀ w,cq A w->(execOp a.eval { dst:=dst,op:=.lookup t x y true,type:=ty,pos:=ps,after:=af,guard:=none }).run P w=.ok (.value (.tuple #[u.1,.bool u.2])) w:=by
    rintro u rfl a ha w hw
    have g1:=cE ha hx
    have g2:=cE ha hy
    obtain ⟨o1,o2⟩:=hw.obj hg
    obtain ⟨r,f1,f2⟩:=vO (w:=w) hk k hE
    simp only [execOp,g1,g2,Instr.lookup,Sem.run_bind,cb hu,Result.andThen_ok,df o1 o2,Sem.run_pure,uj hk,f1]
    cases r with
    | none =>
      simp only [Option.map_none] at f2
      rw [<- f2]
      simp only [Sem.run_bind,gu hz,Result.andThen_ok,Sem.run_pure,if_true]
    | some r =>
      simp only [Option.map_some] at f2
      rw [<- f2]
      simp only [Sem.run_bind,Result.andThen_ok,Sem.run_pure,if_true]
  cases hl:lk E k with
  | none=>exact Ops.val Z hd (key (zv,false) (by rw [hl])) (h2 hl)
  | some v=>exact Ops.val Z hd (key (v,true) (by rw [hl])) (h1 v hl)
theorem V.Ops.skipW {o:Oper} {A':AH} (hg:o.guard=none) (hd:fP nt o.dst=true) (hr:∀ a:Act,cT nt ⟨e,ds⟩ a->∀ w,cq A w->∃ w',(execOp a.eval o).run P w=.ok .skip w'/\cq A' w'/\ej A w A' w') (h:Ops P nt all os Q ⟨fc e o.dst undef,ds⟩ A') :
    Ops P nt all (o :: os) Q ⟨e,ds⟩ A:=by
  intro a w ha hw A₀ w₀ hs
  unfold wpList
  rw [if_pos (by simp [Region.wanted,hg])]
  left
  unfold Oper.wp
  obtain ⟨w',r,v1,s1⟩:=hr a ha w hw
  rw [r]
  exact h _ w' (ha.put o.dst undef (cM hd)) v1 A₀ w₀ (hs.trans s1)
theorem V.Ops.new2 (hd:fP nt dst=true) (wf:A.wf) (hx:bX e x=some (.map (some m))) (hy:bX e y=some (iG k)) (hz:bX e z=some v) (hu:P.underlying t=some (.map kt et)) (hk:IB P kt bt) (hg:A.get m=some (.obj true (.map es clock))) (hE:dh iG es E) (hn:lk E k=none)
    (h:∀ A1 es1 ck,se A A1 m (.obj true (.map es1 ck))->dh iG es1 (E ++ [(k,v)])->Ops P nt all os Q ⟨fc e dst undef,ds⟩ A1) :
    Ops P nt all ({ dst:=dst,op:=.mapUpdate t x y z,type:=ty,pos:=ps,after:=af,guard:=none } :: os) Q ⟨e,ds⟩ A:=by
  refine Ops.skipW (A':=A.set m (.obj true (.map (es.push { key:=iG k,val:=v,born:=clock }) (clock + 1)))) Z hd (fun a ha w hw=>?_) (h _ _ _ (LG wf hg _) (hE.push k v clock))
  have g1:=cE ha hx
  have g2:=cE ha hy
  have g3:=cE ha hz
  obtain ⟨o1,o2⟩:=hw.obj hg
  obtain ⟨r,f1,f2⟩:=vO (w:=w) hk k hE
  rw [hn] at f2
  obtain rfl:r=none:=by cases r with | none=>rfl | some r=>cases f2
  obtain ⟨w',r,v1,s1⟩:=iY (P:=P) hw hg (y:=.map (es.push { key:=iG k,val:=v,born:=clock }) (clock + 1)) (fun _ _ _ q=>by cases q)
  refine ⟨w',?_,v1,s1⟩
  simp only [execOp,g1,g2,g3,Sem.run_bind,Instr.mapUpdate,cb hu,Result.andThen_ok,df o1 o2,uj hk,f1,r]
  rfl
end
end Go.Proofs.YtjppkekmddjcfaaGreatDoor

namespace Go.Proofs.YtjppkekmddjcfaaGreatDoor
open Go Go.RowKit V
section
variable {K:Type} [DecidableEq K]
def ml (Q:List K):List (K × Value):=Q.zipIdx.map fun p=>(p.1,num ((p.2:Nat):Int))
theorem rq (Q:List K):(ml Q).map (·.1)=Q:=by
  simp [ml,List.map_map,Function.comp_def]
theorem vF (Q:List K) (t:K):ml (Q ++ [t])=ml Q ++ [(t,num ((Q.length:Nat):Int))]:=by simp [ml,List.zipIdx_append]
theorem zg (Q:List K):(ml Q).length=Q.length:=by simp [ml]
theorem xm {Q:List K} {t:K} (h:t ∉ Q):lk (ml Q) t=none:=xe.2 (by rw [rq];exact h)
theorem JK:∀ (Q:List K) (n:Nat) (t:K),t ∈ Q->lk ((Q.zipIdx n).map fun p=>(p.1,num ((p.2:Nat):Int))) t=some (num (((n + Q.idxOf t:Nat)):Int)):=by
  intro Q
  induction Q with
  | nil=>intro n t h;cases h
  | cons a Q ih =>
    intro n t h
    by_cases q:a=t
    · subst q;simp [lk]
    · have h2:t ∈ Q:=by rcases List.mem_cons.1 h with z | z;exact absurd z.symm q;exact z
      have:=ih (n + 1) t h2
      simp only [List.zipIdx_cons,List.map_cons]
      rw [List.idxOf_cons,beq_eq_false_iff_ne.2 q,cond_false]
      simp only [lk,List.find?_cons,decide_eq_false q] at this ⊢
      rw [this]
      congr 3;omega
theorem sH {Q:List K} {t:K} (h:t ∈ Q):lk (ml Q) t=some (num ((Q.idxOf t:Nat):Int)):=by
  have:=JK Q 0 t h
  rwa [Nat.zero_add] at this
theorem J8 {Q:List K} {t:K} (h:t ∉ Q):wj (ml Q) t (num ((Q.length:Nat):Int))=ml (Q ++ [t]):=by
  rw [sM (by rw [rq];exact h),vF]
def mR (st:List Int × List K) (x:K):List Int × List K:=if x ∈ st.2 then (st.1 ++ [(st.2.idxOf x:Int)],st.2) else (st.1 ++ [(st.2.length:Int)],st.2 ++ [x])
def cd (l:List K):List Int × List K:=l.foldl mR ([],[])
theorem oO (l:List K) (x:K):cd (l ++ [x])=mR (cd l) x:=by simp [cd]
theorem fW (l:List K):(cd l).2.Nodup/\(∀ x,x ∈ (cd l).2 ↔ x ∈ l)/\(cd l).1=l.map (fun x=>((cd l).2.idxOf x:Int)):=by
  suffices h:∀ (l m:List K),cd m=(m.map (fun x=>((cd m).2.idxOf x:Int)),(cd m).2)->(cd m).2.Nodup->(∀ x,x ∈ (cd m).2 ↔ x ∈ m) ->
      (cd (m ++ l)).2.Nodup/\(∀ x,x ∈ (cd (m ++ l)).2 ↔ x ∈ m ++ l)/\(cd (m ++ l)).1=(m ++ l).map (fun x=>((cd (m ++ l)).2.idxOf x:Int)) by
    have:=h l [] Z List.nodup_nil (fun x=>Iff.rfl)
    simpa using this
  intro l
  induction l with
  | nil=>intro m h1 h2 h3;rw [List.append_nil];exact ⟨h2,h3,congrArg (·.1) h1⟩
  | cons a l ih =>
    intro m h1 h2 h3
    have e:m ++ a :: l=(m ++ [a]) ++ l:=by simp
    rw [e]
    have es:cd (m ++ [a])=mR (cd m) a:=oO m a
    by_cases q:a ∈ (cd m).2
    · have e2:mR (cd m) a=((cd m).1 ++ [((cd m).2.idxOf a:Int)],(cd m).2):=if_pos q
      refine ih (m ++ [a]) ?_ ?_ ?_
      · rw [es,e2];simp only [List.map_append,List.map_cons,List.map_nil]
        rw [show (cd m).1=m.map (fun x=>((cd m).2.idxOf x:Int)) from congrArg (·.1) h1]
      · rw [es,e2];exact h2
      · intro x;rw [es,e2,List.mem_append,List.mem_singleton]
        show x ∈ (cd m).2 ↔ _
        rw [h3 x]
        exact ⟨.inl,fun z=>z.elim id fun z=>by subst z;exact (h3 x).1 q⟩
    · have e2:mR (cd m) a=((cd m).1 ++ [((cd m).2.length:Int)],(cd m).2 ++ [a]):=if_neg q
      refine ih (m ++ [a]) ?_ ?_ ?_
      · rw [es,e2];simp only [List.map_append,List.map_cons,List.map_nil]
        have hm:(cd m).1=m.map (fun x=>((cd m).2.idxOf x:Int)):=congrArg (·.1) h1
        congr 1
        rw [hm]
        congr 1
        · apply List.map_congr_left
          intro x hx
          rw [List.idxOf_append,if_pos ((h3 x).2 hx)]
        · rw [List.idxOf_append,if_neg q];simp
      · rw [es,e2];exact List.nodup_append.2 ⟨h2,by simp,by intro x hx y hy;simp at hy;subst hy;exact fun z=>q (z ▸ hx)⟩
      · intro x;rw [es,e2,List.mem_append,List.mem_append,List.mem_singleton]
        show _\/_ ↔ _
        rw [h3 x]
theorem JV (l:List K):(cd l).1.length=l.length:=by rw [(fW l).2.2];simp
theorem tK {l:List K} {n:Nat} (h1:l.Nodup) (f:K->Nat) (hf:∀ a ∈ l,∀ b ∈ l,f a=f b->a=b) (hb:∀ a ∈ l,f a < n):l.length<=n:=by
  have:=oM (l:=l.map f) (n:=n) ?_ ?_
  · simpa using this
  · rw [List.nodup_iff_pairwise_ne,List.pairwise_map]
    exact List.Pairwise.imp_of_mem (fun {a c} ha hc hac e=>hac (hf a ha c hc e)) h1
  · intro x hx
    obtain ⟨a,ha,rfl⟩:=List.mem_map.1 hx
    exact hb a ha
theorem Nx (l:List K):(cd l).2.length<=l.length :=
  tK (fW l).1 (fun a=>l.idxOf a) (fun a ha b hb e=>by
    have h1:=((fW l).2.1 a).1 ha
    have h2:=((fW l).2.1 b).1 hb
    have e1:=List.getElem_idxOf (List.idxOf_lt_length_iff.2 h1)
    have e2:=List.getElem_idxOf (List.idxOf_lt_length_iff.2 h2)
    rw [<- e1,<- e2];congr 1) fun a ha=>List.idxOf_lt_length_iff.2 (((fW l).2.1 a).1 ha)
theorem qs (l:List K) {i:Nat} {d:K} (hi:i < l.length):(cd l).1.getD i 0=((cd l).2.idxOf (l.getD i d):Int)/\l.getD i d ∈ (cd l).2:=by
  refine ⟨?_,((fW l).2.1 _).2 (bq hi)⟩
  rw [(fW l).2.2]
  simp [List.getD_eq_getElem?_getD,hi]
theorem JW (l:List K):∀ c ∈ (cd l).1,0<=c/\c < (cd l).2.length:=fun c hc=>by
  rw [(fW l).2.2] at hc
  obtain ⟨x,hx,rfl⟩:=List.mem_map.1 hc
  have:=List.idxOf_lt_length_iff.2 (((fW l).2.1 x).2 hx)
  omega
theorem xl (l:List K) {i j:Nat} {d:K} (hi:i < l.length) (hj:j < l.length):(cd l).1.getD i 0=(cd l).1.getD j 0 ↔ l.getD i d=l.getD j d:=by
  have h1:=qs l (d:=d) hi
  have h2:=qs l (d:=d) hj
  rw [h1.1,h2.1]
  constructor
  · intro h
    have e1:=List.getElem_idxOf (List.idxOf_lt_length_iff.2 h1.2)
    have e2:=List.getElem_idxOf (List.idxOf_lt_length_iff.2 h2.2)
    rw [<- e1,<- e2];congr 1;omega
  · intro h;rw [h]
end
theorem BF {K L:Type} [DecidableEq K] [DecidableEq L] (l:List K) (m:List L) (d:K) (d2:L) (hl:l.length=m.length) (h:∀ i j,i < m.length->j < m.length->m.getD i d2=m.getD j d2->l.getD i d=l.getD j d):(cd l).2.length<=(cd m).2.length :=
  tK (fW l).1 (fun a=>(cd m).2.idxOf (m.getD (l.idxOf a) d2)) (fun a ha b hb e=>by
    have h1:=List.idxOf_lt_length_iff.2 (((fW l).2.1 a).1 ha)
    have h2:=List.idxOf_lt_length_iff.2 (((fW l).2.1 b).1 hb)
    have m1:=qs m (d:=d2) (i:=l.idxOf a) O
    have m2:=qs m (d:=d2) (i:=l.idxOf b) O
    have e1:=List.getElem_idxOf h1
    have e2:=List.getElem_idxOf h2
    have:=h _ _ O O ((xl m (d:=d2) (i:=l.idxOf a) (j:=l.idxOf b) O O).1 (by rw [m1.1,m2.1];exact congrArg Int.ofNat e))
    rw [gd h1,gd h2] at this
    rw [<- e1,<- e2];exact this) fun a ha=>by
    have h1:=List.idxOf_lt_length_iff.2 (((fW l).2.1 a).1 ha)
    exact List.idxOf_lt_length_iff.2 (qs m (d:=d2) (i:=l.idxOf a) O).2
def lg (n:Nat) (key:List Int->Nat->Wd):Nat->Nat->List Int->List Int
  | 0,_,cls=>cls
  | f + 1,count,cls=>if (cd ((List.range n).map (key cls))).2.length=count then (cd ((List.range n).map (key cls))).1 else lg n key f (cd ((List.range n).map (key cls))).2.length (cd ((List.range n).map (key cls))).1
def yp (n:Nat) (st:Nat->Bool × Bool) (key:List Int->Nat->Wd):List Int:=lg n key (n + 2) (cd ((List.range n).map st)).2.length (cd ((List.range n).map st)).1
def j7 (lv:List Bool) (m:Int):Bool:=decide (0<=m) && lv.getD m.toNat false
def tF (lv:List Bool) (cls:List Int) (m:Int):Wd:=32 :: (if j7 lv m then gO (cls.getD m.toNat 0).toNat else [])
def np (lv:List Bool) (N:List (List Int)) (cls:List Int) (i:Nat):Wd:=if lv.getD i false then gO (cls.getD i 0).toNat ++ (N.getD i []).flatMap (tF lv cls) else [45]
def QO (acc lv:List Bool) (i:Nat):Bool × Bool:=(lv.getD i false,acc.getD i false)
def wE (acc lv:List Bool) (N:List (List Int)):List Int:=yp N.length (QO acc lv) (np lv N)
def jc (cls:List Int) (c:Int):Nat:=cls.idxOf c
def jf (lv:List Bool) (N:List (List Int)) (cls:List Int) (c:Int) (x:Nat):Option Int :=
  if j7 lv (gB N (jc cls c) x) then some (cls.getD (gB N (jc cls c) x).toNat 0) else none
def AE (k:Nat) (acc:List Bool) (N:List (List Int)):List Int × List (List Int):=fu k (jf (im acc N) N (wE acc (im acc N) N)) (N.length + 1) 0 [(wE acc (im acc N) N).getD 0 0] []
def wB (k:Nat) (acc:List Bool) (N:List (List Int)):List Bool × List (List Int) :=
  if (im acc N).getD 0 false then ((AE k acc N).1.map fun c=>acc.getD (jc (wE acc (im acc N) N) c) false,(AE k acc N).2) else ([],[])
def MC (k:Nat) (acc:List Bool) (L:List (List Int)):List Bool × List (List Int):=wB k (uD k acc L) (gv k L).2
end Go.Proofs.YtjppkekmddjcfaaGreatDoor

namespace Go.Proofs.YtjppkekmddjcfaaGreatDoor
open Go Go.RowKit V
section
variable {K:Type} [DecidableEq K]
def ii (Q:List K) (k:K):Nat:=if k ∈ Q then Q.idxOf k else Q.length
def ja (Q:List K) (k:K):List K:=if k ∈ Q then Q else Q ++ [k]
theorem zc {Q:List K} {k:K} (h:k ∈ Q):ii Q k=Q.idxOf k:=if_pos h
theorem zd {Q:List K} {k:K} (h:k ∉ Q):ii Q k=Q.length:=if_neg h
theorem vw {Q:List K} {k:K} (h:k ∈ Q):ja Q k=Q:=if_pos h
theorem vx {Q:List K} {k:K} (h:k ∉ Q):ja Q k=Q ++ [k]:=if_neg h
end
section
variable {α:Type} [DecidableEq α] {enc:α->Value} {P:Program} {e:ga} {A:AH} {x:Operand} {t kt et:TypeId} {ty:TypeId} {ps:String} {af:Array Edge} {dst:Option Nat} {K:Value->AH->Prop} {Kp:List PanicEntry->AH->Prop} {g:Option (Nat × Bool)} {m clock:Nat} {es:Array MapEntry} {rw:Bool} {Q:List α}
theorem qQ (hx:bX e x=some (.map (some m))) (hu:P.underlying t=some (.map kt et)) (hg:A.get m=some (.obj rw (.map es clock))) (hE:dh enc es (ml Q)) (h:K (num ((Q.length:Nat):Int)) A) :
    j5 P e A { dst:=dst,op:=.call { callee:=.builtin .len,args:=#[x],argTypes:=#[t] },type:=ty,pos:=ps,after:=af,guard:=g } K Kp:=by
  simp only [j5,td,i4,hx]
  refine ⟨num ((Q.length:Nat):Int),?_,h⟩
  simp only [qk,hu,hg]
  rw [hE.size,zg]
theorem L8 {kd:TypeDesc} {y:Operand} {k:α} (Ko:pU kd enc) (hx:bX e x=some (.map (some m))) (hy:bX e y=some (enc k)) (hu:P.underlying t=some (.map kt et)) (hk:P.underlying kt=some kd) (hz:cx P et=some (num 0)) (hg:A.get m=some (.obj rw (.map es clock))) (hE:dh enc es (ml Q))
    (h1:k ∈ Q->K (.tuple #[num ((ii Q k:Nat):Int),.bool true]) A) (h2:k ∉ Q->K (.tuple #[num 0,.bool false]) A):j5 P e A { dst:=dst,op:=.lookup t x y true,type:=ty,pos:=ps,after:=af,guard:=g } K Kp:=by
  refine uF Ko hx hy hu hk hz hg hE (fun v hv=>?_) (fun hn=>?_)
  · by_cases q:k ∈ Q
    · rw [sH q,<- zc q] at hv;cases hv;exact h1 q
    · rw [xm q] at hv;cases hv
  · exact h2 fun q=>by rw [sH q] at hn;cases hn
end
section
variable {P:Program} {nt:Nat} {all:Array Oper} {os:List Oper} {Q:Exit->Fr->AH->Prop} {e:ga} {ds:List Deferred} {A:AH} {x y z:Operand} {t kt et bt:TypeId} {ty:TypeId} {ps:String} {af:Array Edge} {dst:Option Nat} {m clock:Nat} {es:Array MapEntry} {rw:Bool} {L:List (Bool × Bool)} {k:Bool × Bool}
theorem V.Ops.look2G (hd:fP nt dst=true) (hx:bX e x=some (.map (some m))) (hy:bX e y=some (iG k)) (hu:P.underlying t=some (.map kt et)) (hk:IB P kt bt) (hz:cx P et=some (num 0)) (hg:A.get m=some (.obj rw (.map es clock))) (hE:dh iG es (ml L))
    (h1:k ∈ L->Ops P nt all os Q ⟨fc e dst (.tuple #[num ((ii L k:Nat):Int),.bool true]),ds⟩ A) (h2:k ∉ L->Ops P nt all os Q ⟨fc e dst (.tuple #[num 0,.bool false]),ds⟩ A) :
    Ops P nt all ({ dst:=dst,op:=.lookup t x y true,type:=ty,pos:=ps,after:=af,guard:=none } :: os) Q ⟨e,ds⟩ A:=by
  refine Ops.look2 hd hx hy hu hk hz hg hE (fun v hv=>?_) (fun hn=>?_)
  · by_cases q:k ∈ L
    · rw [sH q,<- zc q] at hv;cases hv;exact h1 q
    · rw [xm q] at hv;cases hv
  · exact h2 fun q=>by rw [sH q] at hn;cases hn
theorem V.Ops.new2G (hd:fP nt dst=true) (wf:A.wf) (hx:bX e x=some (.map (some m))) (hy:bX e y=some (iG k)) (hz:bX e z=some (num ((L.length:Nat):Int))) (hu:P.underlying t=some (.map kt et)) (hk:IB P kt bt) (hg:A.get m=some (.obj true (.map es clock))) (hE:dh iG es (ml L)) (hn:k ∉ L)
    (h:∀ A1 D ck,se A A1 m (.obj true (.map D ck))->dh iG D (ml (L ++ [k]))->Ops P nt all os Q ⟨fc e dst undef,ds⟩ A1) :
    Ops P nt all ({ dst:=dst,op:=.mapUpdate t x y z,type:=ty,pos:=ps,after:=af,guard:=none } :: os) Q ⟨e,ds⟩ A :=
  Ops.new2 hd wf hx hy hz hu hk hg hE (xm hn) fun A1 D ck sb me=>h A1 D ck sb (by rw [vF];exact me)
end
section
variable {K:Type} [DecidableEq K]
theorem w9 {Q:List K} {k:K} (h:Q.Nodup):(ja Q k).Nodup:=by
  unfold ja;split
  · exact h
  · rename_i q;exact List.nodup_append.2 ⟨h,by simp,by intro a ha b hb;simp at hb;subst hb;exact fun e=>q (e ▸ ha)⟩
theorem pC (st:List Int × List K) (x:K):mR st x=(st.1 ++ [(ii st.2 x:Int)],ja st.2 x):=by
  unfold mR ii ja;split <;> rfl
structure my (n:Nat) (f:Nat->K) (i:Nat) (o:List Int) (Q:List K):Prop where
  run:∃ r,cd ((List.range i).map f)=(r,Q)/\r.length=i/\o=r ++ List.replicate (n - i) 0
  nd:Q.Nodup
  le:Q.length<=i
variable {n i:Nat} {f:Nat->K} {o:List Int} {Q:List K}
theorem my.start:my n f 0 (List.replicate n 0) []:=⟨⟨[],rfl,rfl,by simp⟩,List.nodup_nil,Nat.le_refl _⟩
theorem my.len (h:my n f i o Q) (hi:i<=n):o.length=n:=by obtain ⟨r,_,h2,h3⟩:=h.run;rw [h3];simp;omega
theorem my.next (h:my n f i o Q) (hi:i < n):my n f (i + 1) (o.set i (ii Q (f i):Int)) (ja Q (f i)):=by
  obtain ⟨r,h1,h2,h3⟩:=h.run
  refine ⟨⟨r ++ [(ii Q (f i):Int)],?_,by simp [h2],?_⟩,w9 h.nd,?_⟩
  · rw [List.range_succ,List.map_append,List.map_cons,List.map_nil,oO,h1,pC]
  · rw [h3,<- h2];exact wN O
  · have:=h.le;unfold ja;split
    · omega
    · simp;omega
theorem my.old (h:my n f i o Q) (hi:i < n) (q:f i ∈ Q):my n f (i + 1) (o.set i (ii Q (f i):Int)) Q:=by
  have:=h.next hi;rwa [vw q] at this
theorem my.new (h:my n f i o Q) (hi:i < n) (q:f i ∉ Q):my n f (i + 1) (o.set i (Q.length:Int)) (Q ++ [f i]):=by
  have:=h.next hi;rwa [zd q,vx q] at this
theorem my.fin (h:my n f i o Q) (hi:i=n):cd ((List.range n).map f)=(o,Q):=by
  subst hi
  obtain ⟨r,h1,h2,h3⟩:=h.run
  rw [h1,h3];simp
end
structure pT (n:Nat) (st:Nat->Bool × Bool) (key:List Int->Nat->Wd) (count:Nat) (cls:List Int):Prop where
  len:cls.length=n
  rng:∀ c ∈ cls,0<=c/\c < n
  dis:∃ l:List Int,l.length=n/\cd l=(cls,(cd l).2)/\(cd l).2.length=count
  cnt:count<=n
  fin:∃ f,n + 2<=f + count/\lg n key f count cls=yp n st key
theorem FH {K:Type} [DecidableEq K] (l:List K):(cd (cd l).1).2.length=(cd l).2.length/\(cd (cd l).1).1=(cd l).1:=by
  suffices h:∀ (m:List K),(cd (cd m).1).2=(List.range (cd m).2.length).map (fun (i:Nat)=>(i:Int))/\(cd (cd m).1).1=(cd m).1 by
    have:=h l;exact ⟨by rw [this.1];simp,this.2⟩
  suffices h:∀ (l m:List K),((cd (cd m).1).2=(List.range (cd m).2.length).map (fun (i:Nat)=>(i:Int))/\(cd (cd m).1).1=(cd m).1)->((cd (cd (m ++ l)).1).2=(List.range (cd (m ++ l)).2.length).map (fun (i:Nat)=>(i:Int))/\(cd (cd (m ++ l)).1).1=(cd (m ++ l)).1) by
    intro m;have:=h m [] ⟨rfl,rfl⟩;simpa using this
  intro l
  induction l with
  | nil=>intro m h;rw [List.append_nil];exact h
  | cons a l ih =>
    intro m h
    rw [show m ++ a :: l=(m ++ [a]) ++ l by simp]
    refine ih _ ?_
    rw [oO,pC]
    show (cd ((cd m).1 ++ [_])).2=_/\(cd ((cd m).1 ++ [_])).1=_
    rw [oO,pC]
    simp only
    rw [h.1,h.2]
    by_cases q:a ∈ (cd m).2
    · have hi:=List.idxOf_lt_length_iff.2 q
      have hm:((cd m).2.idxOf a:Int) ∈ (List.range (cd m).2.length).map (fun (i:Nat)=>(i:Int)):=List.mem_map.2 ⟨_,List.mem_range.2 hi,rfl⟩
      have e1:ii (cd m).2 a=(cd m).2.idxOf a:=if_pos q
      have e2:ja (cd m).2 a=(cd m).2:=if_pos q
      have e3:ja ((List.range (cd m).2.length).map (fun (i:Nat)=>(i:Int))) ((cd m).2.idxOf a:Int)=(List.range (cd m).2.length).map (fun (i:Nat)=>(i:Int)):=if_pos hm
      have e4:ii ((List.range (cd m).2.length).map (fun (i:Nat)=>(i:Int))) ((cd m).2.idxOf a:Int)=(cd m).2.idxOf a:=by
        rw [ii,if_pos hm]
        have:=List.getElem_idxOf (List.idxOf_lt_length_iff.2 hm)
        simp only [List.getElem_map,List.getElem_range] at this
        omega
      rw [e1,e2,e3,e4];exact ⟨Z,Z⟩
    · have e1:ii (cd m).2 a=(cd m).2.length:=if_neg q
      have e2:ja (cd m).2 a=(cd m).2 ++ [a]:=if_neg q
      have hm:¬ ((cd m).2.length:Int) ∈ (List.range (cd m).2.length).map (fun (i:Nat)=>(i:Int)):=fun z=>by
        obtain ⟨i,h1,h2⟩:=List.mem_map.1 z
        have:=List.mem_range.1 h1;omega
      rw [e1,e2]
      have e3:ja ((List.range (cd m).2.length).map (fun (i:Nat)=>(i:Int))) ((cd m).2.length:Int)=(List.range (cd m).2.length).map (fun (i:Nat)=>(i:Int)) ++ [((cd m).2.length:Int)]:=if_neg hm
      have e4:ii ((List.range (cd m).2.length).map (fun (i:Nat)=>(i:Int))) ((cd m).2.length:Int)=(cd m).2.length:=by rw [ii,if_neg hm];simp
      rw [e3,e4]
      refine ⟨?_,Z⟩
      rw [List.length_append,List.length_singleton,List.range_succ,List.map_append];rfl
section
variable {n count:Nat} {st:Nat->Bool × Bool} {key:List Int->Nat->Wd} {cls o:List Int} {Q:List Wd} {Q2:List (Bool × Bool)}
theorem pT.of {K:Type} [DecidableEq K] {l:List K} {cls:List Int} {Q:List K} (hl:l.length=n) (h:cd l=(cls,Q)):cls.length=n/\(∀ c ∈ cls,0<=c/\c < (n:Int))/\(∃ l:List Int,l.length=n/\cd l=(cls,(cd l).2)/\(cd l).2.length=Q.length)/\Q.length<=n:=by
  have h1:=JV l
  have h2:=JW l
  have h3:=Nx l
  have h4:=FH l
  rw [h] at h1 h2 h3 h4
  simp only at h1 h2 h3 h4
  exact ⟨by omega,fun c hc=>by have:=h2 c hc;omega,⟨cls,by omega,Prod.ext h4.2 rfl,h4.1⟩,by omega⟩
theorem pT.start (h:cd ((List.range n).map st)=(cls,Q2)):pT n st key Q2.length cls:=by
  obtain ⟨h1,h2,h3,h4⟩:=pT.of (n:=n) (by simp) h
  exact ⟨h1,h2,h3,h4,n + 2,by omega,by rw [yp,h]⟩
theorem pT.stop (h:pT n st key count cls) (e:cd ((List.range n).map (key cls))=(o,Q)) (hq:Q.length=count):o=yp n st key:=by
  obtain ⟨f,hf,g⟩:=h.fin
  have:=h.cnt
  obtain ⟨f,rfl⟩:∃ g,f=g + 1:=⟨f - 1,by omega⟩
  rw [lg,e] at g
  simp only at g
  rw [if_pos hq] at g;exact g
theorem pT.next (h:pT n st key count cls) (hinj:∀ i j,i < n->j < n->key cls i=key cls j->cls.getD i 0=cls.getD j 0) (e:cd ((List.range n).map (key cls))=(o,Q)) (hq:¬ Q.length=count):pT n st key Q.length o/\count < Q.length:=by
  obtain ⟨f,hf,g⟩:=h.fin
  have hc:=h.cnt
  obtain ⟨f,rfl⟩:∃ g,f=g + 1:=⟨f - 1,by omega⟩
  obtain ⟨h1,h2,h3,h4⟩:=pT.of (n:=n) (by simp) e
  have hle:count<=Q.length:=by
    obtain ⟨l,l1,l2,l3⟩:=h.dis
    have:=BF l ((List.range n).map (key cls)) 0 [] (by simp [l1]) fun i j hi hj q=>by
      rw [List.length_map,List.length_range] at hi hj
      have e1:∀ i,i < n->((List.range n).map (key cls)).getD i []=key cls i:=fun i hi=>by simp [List.getD_eq_getElem?_getD,hi]
      rw [e1 i hi,e1 j hj] at q
      have:=hinj i j hi hj q
      have e2:cls=(cd l).1:=by rw [l2]
      rw [e2] at this
      exact (xl l (d:=(0:Int)) O O).1 this
    rw [l3,e] at this;exact this
  rw [lg,e] at g
  simp only at g
  rw [if_neg hq] at g
  exact ⟨⟨h1,h2,h3,h4,f,by omega,g⟩,by omega⟩
end
end Go.Proofs.YtjppkekmddjcfaaGreatDoor

namespace Go.Proofs.YtjppkekmddjcfaaGreatDoor
open Go Go.RowKit V
set_option maxRecDepth 100000
theorem II:dk Tryz.prog 218=some true:=by kernel_rfl
theorem zR:dc Tryz.prog 218=some 2:=by kernel_rfl
theorem LU:type_of% @Tryz.underlying231:=@Tryz.underlying231
theorem O4:type_of% @Tryz.underlying233:=@Tryz.underlying233
theorem Rb:cx Tryz.prog 218=some (.agg #[.bool false,.bool false]):=by kernel_rfl

theorem Ls (b:Nat) (es:Array MapEntry) (ck:Nat) (Q:List Wd) (k:Wd) (A0 A:AH) (a0:A0.le A) (ac:A0.wf) (hb:A.get b=some (.obj true (.map es ck))) (ab:A0.get b=none) (hme:dh bi es (ml Q)) (hnd:Q.Nodup):bF Tryz.prog 201 #[.map (some b),bi (k)] A (fun v A1=>∃ es2 ck2,v=num ((ii Q k:Nat):Int)/\A0.le A1/\A1.wf/\A1.get b=some (.obj true (.map es2 ck2))/\dh bi es2 (ml (ja Q k))):=by
 refine jE Tryz.call201 Tryz.func201 Z Tryz.results201 Tryz.ntmps201 Z (fun wf=>?_);refine an.seq fun _ h2=>.region<|.q Z (ae Z)<|.nil<|h2 _ _<|.seq fun _ h4=>.region<|.q Z (ah Z)<|.q Z (ah Z)<|.l Z (fun _ _ X _=>L8 (Q:=Q) (k:=k) w8 Z Z LU u9 z3 hb hme (fun aa=>?_) (fun D=>?_))
 ·refine X _ _<|.q Z (ah Z)<|.q Z (bk Z Z)<|.q Z (bk Z Z)<|.q Z (ae Z)<|.q Z (ae Z)<|.nil<|h4 _ _<|.seq fun _ h9=>.seq fun _ a4=>?_;refine an.region<|.q Z (ah Z)<|.q Z (eb Z)<|.nil<|a4 _ _<|.cond_false Z<|.skip<|h9 _ _<|.seq fun _ a5=>.region ?_;refine Ops.q Z (ah Z)<|.q Z (ae Z)<|.nil<|a5 _ _<|.rt (by exact aK Z (⟨_,_,Z,a0,wf,hb,by rw [vw aa];exact hme⟩))
 refine X _ _<|.q Z (ah Z)<|.q Z (bk Z Z)<|.q Z (bk Z Z)<|.q Z (ae Z)<|.q Z (ae Z)<|.nil<|h4 _ _<|.seq fun _ a6=>.seq fun _ a7=>?_;refine an.region<|.q Z (ah Z)<|.q Z (eb Z)<|.nil<|a7 _ _<|.cond_true Z<|.seq fun _ a8=>.region<|.q Z (ah Z)<|.l Z (fun _ _ a1 _=>qQ (Q:=Q) Z LU hb hme ?_);refine a1 _ _<|.q Z (ae Z)<|.nil<|a8 _ _<|.region<|.q Z (ah Z)<|.q Z (ah Z)<|.q Z (ah Z)<|.l Z (fun _ _ a2 _=>m4 (k:=k) w8 wf rfl rfl rfl LU u9 hb hme (by rw [rq];exact hnd) fun A22 ag ad h V=>?_);have a3:=aw a0 ac ab h.n h.keep;rw [J8 D] at V;refine a2 _ _<|.nil<|a6 _ _<|.seq fun _ a9=>.region<|.q Z (ah Z)<|.q Z (ae Z)<|.nil<|a9 _ _<|.rt (by exact aK Z (⟨_,_,by rw [zd D];rfl,a3,h.wf,h.get,by rw [vx D];exact V⟩))

theorem LR:IB Tryz.prog 218 4:=⟨Tryz.underlying218,Tryz.underlying4,by kernel_rfl,by kernel_rfl⟩

theorem Gy (n g1 g2:Nat) (aB a8:Array Value) (sf:Nat->Bool × Bool) (key:List Int->Nat->Wd) (A:AH) (hn:n<=100000) (ez:∀ i B,i < n->A.le B->B.wf->bF Tryz.prog g1 (#[num ((i:Nat):Int)] ++ aB) B (fun v C=>v=iG (sf i)/\B.le C/\C.wf)) (eA:∀ (cls:List Int) (cv:Value) (i:Nat) B,bH B 1 cv (cI cls)->cls.length=n->(∀ c ∈ cls,0<=c/\c < (n:Int))->i < n->A.le B->B.wf->bF Tryz.prog g2 (#[cv,num ((i:Nat):Int)] ++ a8) B (fun v C=>v=bi (key cls i)/\B.le C/\C.wf)) (R:List Int->Prop) (fS:R (cd ((List.range n).map sf)).1) (fT:∀ cls:List Int,cls.length=n->R cls->R (cd ((List.range n).map (key cls))).1) (hinj:∀ cls:List Int,cls.length=n->(∀ c ∈ cls,0<=c/\c < (n:Int))->R cls->∀ i j,i < n->j < n->key cls i=key cls j->cls.getD i 0=cls.getD j 0):bF Tryz.prog 181 #[num ((n:Nat):Int),.func (.func g1) #[] aB,.func (.func g2) #[] a8] A (fun v A1=>A.le A1/\A1.wf/\Fresh A A1 v 1 (cI (yp n sf key))):=by
 refine tm Tryz.call181 Tryz.func181 Z Tryz.results181 Tryz.ntmps181 Z (fun wf=>?_);have dD:=AH.le.refl A;refine an.seq fun _ h2=>.region<|.q Z (ae Z)<|.nil<|h2 _ _<|.seq fun _ h4=>.region<|.q Z (ae Z)<|.nil<|h4 _ _ ?_;refine an.seq fun _ h6=>.region<|.q Z (ah Z)<|.l Z (fun _ _ fV _=>lQ (n:=n) (k:=n) wf dD rfl rfl d9 c0 z3 mf rfl (Nat.le_refl _) (by show 8 * _<=_;omega) O fun A9 b8 aZ aT=>?_);rw [gT] at aT;have bB:=dD.trans aZ.le;refine fV _ _<|.q Z (ae Z)<|.nil<|h6 _ _<|.seq fun _ fn=>.region<|.l Z (fun _ _ eC _=>mu aZ.wf fun A17 ba av=>?_);have f4:=aT.own.ne_new aZ.wf av.lo;have br:=aX wf (Nat.le_trans bB.n av.lo);have dV:=aT.le av.le;have eY:=bB.trans av.le;refine eC _ _<|.q Z (ae Z)<|.nil<|fn _ _<|.seq fun _ fo=>.seq fun _ fq=>.region<|.q Z (ah Z)<|.q Z (ah Z)<|.nil ?_;refine fq _ _<|.block<|.loop (X:=Nat × List Int × List (Bool × Bool) × Array MapEntry × Nat × Value) (fun ⟨i,o,Q,es,ck,cv⟩=>[(0,num ((n:Nat):Int)),(1,.func (.func g1) #[] aB),(2,.func (.func g2) #[] a8),(7,.func (.func 201) #[] #[]),(8,cv),(9,.map (some ba)),(21,num ((n:Nat):Int)),(22,num ((i:Nat):Int))]) (fun ⟨i,o,Q,es,ck,cv⟩ B=>(i<=n/\my n sf i o Q/\dh iG es (ml Q))/\A.le B/\Fresh A B cv 1 (cI o)/\B.get ba=some (.obj true (.map es ck))/\V.blk cv ≠ some ba) (fun ⟨i,o,Q,es,ck,cv⟩=>n - i) (⟨0,List.replicate n 0,[],#[],0,.slice (some ⟨b8,0,none⟩) n n⟩) (wJ Z Z Z Z Z Z Z Z) (⟨⟨Nat.zero_le _,my.start,dh.nil⟩,eY,dV,av.get,f4⟩) ?_;rintro ⟨i,o,Q,es,ck,cv⟩ B27 ⟨⟨hi,hnu,hme⟩,aY,aA,ap,h⟩;refine an.wf fun fi=>?_;have hol:=hnu.len hi;have hql:=hnu.le;refine an.seq fun _ fr=>.region<|.q Z (ca Z Z)<|.nil<|fr _ _<|.seq fun _ ft=>.if rfl (fun g5=>?_) (fun g5=>?_)
 ·refine an.skip<|ft _ _<|.seq fun _ di=>.block<|.seq fun _ fv=>.region<|.q Z (ah Z)<|.q Z (ae Z)<|.nil<|fv _ _ ?_;refine an.seq fun _ fD=>.region<|.q Z (ah Z)<|.q Z (ah Z)<|.l Z (fun _ _ eG _=>ng Z Z (ez i B27 O aY fi) ?_);rintro gQ A42 ⟨rfl,aF,aR⟩;have dj:=aF.get _ _ ap;have bd:=aA.le aF;have bC:=aY.trans aF;refine eG _ _<|.l Z (fun _ _ eL _=>cu aR Rb rfl fun A49 gA a4=>?_);have aG:=ne_new aR dj a4.lo;have f6:=bd.own.ne_new aR a4.lo;have bu:=aX wf (Nat.le_trans bC.n a4.lo);have fE:=a4.le.get _ _ dj;have dW:=bd.le a4.le;have eZ:=bC.trans a4.le;refine eL _ _<|.l Z (fun _ _ eN _=>bh (cs:=[.bool ((sf i).1),.bool ((sf i).2)]) (c':=[.bool ((sf i).1),.bool ((sf i).2)]) a4.wf rfl rfl rfl rfl zR a4.get (Nat.le_of_ble_eq_true rfl) rfl rfl fun A56 a5=>?_);have b2:=a5.keep _ _ aG fE;have bl:=dW.keep a5.keep f6;have bD:=aw eZ wf bu a5.n a5.keep;refine eN _ _<|.nil<|fD _ _<|.seq fun _ dv=>.region<|.q Z (ah Z)<|.q Z (aq II zR Z Z a5.get Z)<|.look2G (L:=Q) (k:=sf i) Z Z Z O4 LR z3 b2 hme (fun eV=>?_) (fun bv=>?_)
  ·refine Ops.q Z (ah Z)<|.q Z (bk Z Z)<|.q Z (bk Z Z)<|.q Z (ae Z)<|.q Z (ae Z)<|.nil<|dv _ _<|.seq fun _ fI=>.seq fun _ fL=>.region ?_;refine Ops.q Z (ah Z)<|.q Z (eb Z)<|.nil<|fL _ _<|.cond_false Z<|.skip<|fI _ _<|.region<|.q Z (ah Z)<|.q Z (ah Z) ?_;refine Ops.q Z (ah Z) ?_;obtain ⟨gC,gL,gE,g6,gg,d3,dw,fl,gS,g3,gN,fX⟩:=bl.at1 (x:=i) Of;rw [aH] at dw;refine Ops.q Z (aE d9 c0 Z d3 Z (by rw [dw];omega))<|.l Z (fun _ _ eQ _=>bh (off:=i) (c':=g6.set i (num ((ii Q (sf i):Nat):Int))) a5.wf rfl (by simp) rfl rfl c0 fl (by show i + 1<=_;omega) rfl rfl fun A71 aI=>?_);have fM:=aI.keep _ _ (fun q=>h (by rw [d3];exact congrArg some q.symm)) b2;have bm:=fX (num ((ii Q (sf i):Nat):Int)) A71 aI;rw [gU] at bm;have f0:=aw bD wf g3 aI.n aI.keep;refine eQ _ _<|.nil<|di _ _<|.region<|.q Z (bz (b:=1) Z Z O)<|.q Z (ah Z)<|.nil ?_;exact ⟨⟨i + 1,o.set i (((ii Q (sf i):Nat):Int)),Q,es,ck,cv⟩,wJ Z Z Z Z Z Z Z Z,Z,⟨⟨by omega,hnu.old O eV,hme⟩,f0,bm,fM,h⟩,O1⟩
  refine Ops.q Z (ah Z)<|.q Z (bk Z Z)<|.q Z (bk Z Z)<|.q Z (ae Z)<|.q Z (ae Z)<|.nil<|dv _ _<|.seq fun _ fN=>.seq fun _ fO=>.region ?_;refine Ops.q Z (ah Z)<|.q Z (eb Z)<|.nil<|fO _ _<|.cond_true Z<|.seq fun _ fQ=>.region<|.q Z (ah Z)<|.l Z (fun _ _ eS _=>qQ (Q:=Q) Z O4 b2 hme ?_);refine eS _ _<|.q Z (ae Z)<|.nil<|fQ _ _<|.region<|.q Z (ah Z)<|.q Z (aq II zR Z Z a5.get Z)<|.q Z (ah Z)<|.new2G (L:=Q) (k:=sf i) rfl a5.wf rfl rfl rfl O4 LR b2 hme bv fun A84 dS dO ay f3=>?_;have dZ:=bl.keep ay.keep h;have f1:=aw bD wf br ay.n ay.keep;refine Ops.nil<|fN _ _<|.region<|.q Z (ah Z)<|.q Z (ah Z)<|.q Z (ah Z) ?_;obtain ⟨gD,gM,gF,g7,gl,dd,dz,fm,gX,g4,gP,g0⟩:=dZ.at1 (x:=i) Of;rw [aH] at dz;refine Ops.q Z (aE d9 c0 Z dd Z (by rw [dz];omega))<|.l Z (fun _ _ eT _=>bh (off:=i) (c':=g7.set i (num ((Q.length:Nat):Int))) ay.wf rfl (by simp) rfl rfl c0 fm (by show i + 1<=_;omega) rfl rfl fun A94 aP=>?_);have fR:=aP.keep _ _ (fun q=>h (by rw [dd];exact congrArg some q.symm)) ay.get;have bp:=g0 (num ((Q.length:Nat):Int)) A94 aP;rw [gU] at bp;have f2:=aw f1 wf g4 aP.n aP.keep;refine eT _ _<|.nil<|di _ _<|.region<|.q Z (bz (b:=1) Z Z O)<|.q Z (ah Z)<|.nil ?_;exact ⟨⟨i + 1,o.set i (((Q.length:Nat):Int)),Q ++ [sf i],dS,dO,cv⟩,wJ Z Z Z Z Z Z Z Z,Z,⟨⟨by omega,hnu.new O bv,f3⟩,f2,bp,fR,h⟩,O1⟩
 refine an.exit<|fo _ _<|.seq fun _ e1=>.region<|.q Z (ah Z)<|.l Z (fun _ _ c3 _=>qQ (Q:=Q) Z O4 ap hme ?_);refine c3 _ _<|.q Z (ae Z)<|.nil<|e1 _ _<|.block ?_;have hnf:=hnu.fin O;have gG:=hnu.le;refine an.loop (X:=Nat × List Int × Value) (fun ⟨cnt,cls,kv⟩=>[(0,num ((n:Nat):Int)),(2,.func (.func g2) #[] a8),(7,.func (.func 201) #[] #[]),(8,kv),(14,num ((cnt:Nat):Int))]) (fun ⟨cnt,cls,kv⟩ B=>(pT n sf key cnt cls/\R cls)/\A.le B/\Fresh A B kv 1 (cI cls)) (fun ⟨cnt,cls,kv⟩=>n - cnt) (⟨Q.length,o,cv⟩) (pd Z Z Z Z Z) (⟨⟨pT.start hnf,by have:=fS;rw [hnf] at this;exact this⟩,aY,aA⟩) ?_;rintro ⟨cnt,cls,kv⟩ B104 ⟨⟨hcl,hRc⟩,b3,ag⟩;refine an.wf fun b6=>?_;have hcll:=hcl.len;have hclc:=hcl.cnt;refine an.block<|.seq fun _ e2=>.region<|.q Z (ah Z)<|.l Z (fun _ _ c4 _=>lQ (n:=n) (k:=n) b6 b3 rfl rfl d9 c0 z3 mf rfl (Nat.le_refl _) (by show 8 * _<=_;omega) O fun A110 dI a6 aC=>?_);rw [gT] at aC;have b0:=ag.le a6.le;have b5:=b3.trans a6.le;have d2:=bw.of_new (n:=n) (c:=n) ag.own b6 a6.lo;refine c4 _ _<|.q Z (ae Z)<|.nil<|e2 _ _<|.seq fun _ e3=>.region<|.l Z (fun _ _ c7 _=>mu a6.wf fun A121 a3 a2=>?_);have d0:=b0.own.ne_new a6.wf a2.lo;have d1:=aC.own.ne_new a6.wf a2.lo;have b9:=aX wf (Nat.le_trans b5.n a2.lo);have bP:=b0.le a2.le;have bR:=aC.le a2.le;have cP:=b5.trans a2.le;refine c7 _ _<|.q Z (ae Z)<|.nil<|e3 _ _<|.seq fun _ e4=>.seq fun _ e5=>.region<|.q Z (ah Z)<|.q Z (ah Z)<|.nil ?_;refine e5 _ _<|.block<|.loop (X:=Nat × List Int × List Wd × Array MapEntry × Nat × Value) (fun ⟨j,o3,Q3,es,ck,nv⟩=>[(0,num ((n:Nat):Int)),(2,.func (.func g2) #[] a8),(7,.func (.func 201) #[] #[]),(8,kv),(14,num ((cnt:Nat):Int)),(15,nv),(16,.map (some a3)),(51,num ((n:Nat):Int)),(52,num ((j:Nat):Int))]) (fun ⟨j,o3,Q3,es,ck,nv⟩ B=>(j<=n/\my n (key cls) j o3 Q3/\dh bi es (ml Q3))/\A.le B/\Fresh A B nv 1 (cI o3)/\Fresh A B kv 1 (cI cls)/\B.get a3=some (.obj true (.map es ck))/\V.blk nv ≠ some a3/\V.blk kv ≠ some a3/\bw nv kv) (fun ⟨j,o3,Q3,es,ck,nv⟩=>n - j) (⟨0,List.replicate n 0,[],#[],0,.slice (some ⟨dI,0,none⟩) n n⟩) (PM Z Z Z Z Z Z Z Z Z) (⟨⟨Nat.zero_le _,my.start,dh.nil⟩,cP,bR,bP,a2.get,d1,d0,d2⟩) ?_;rintro ⟨j,o3,Q3,es,ck,nv⟩ B133 ⟨⟨hj,ai,aV⟩,ad,a7,ab,a1,D,a0,ac⟩;refine an.wf fun b7=>?_;have gc:=ai.len hj;have ge:=ai.le;refine an.seq fun _ e6=>.region<|.q Z (ca Z Z)<|.nil<|e6 _ _<|.seq fun _ e7=>.if rfl (fun f9=>?_) (fun f9=>?_)
 ·refine an.skip<|e7 _ _<|.seq fun _ e9=>.block<|.seq fun _ ea=>.region<|.q Z (ah Z)<|.q Z (ae Z)<|.nil<|ea _ _ ?_;refine an.region<|.q Z (ah Z)<|.q Z (ah Z)<|.q Z (ah Z)<|.q Z (ah Z)<|.q Z (ah Z)<|.q Z (ah Z)<|.q Z (ah Z)<|.l Z (fun _ _ cc _=>ng Z Z (eA cls kv j B133 ab.slc hcll hcl.rng O ad b7) ?_);rintro gp A146 ⟨rfl,a9,bM⟩;have ec:=a9.get _ _ a1;have bS:=a7.le a9;have bT:=ab.le a9;have cS:=ad.trans a9;refine cc _ _ ?_;have cV:=ce (bs:=[some a3]) cS (sh b9 nw);refine Ops.l Z (fun _ _ ch _=>ng Z Z (Ls a3 es ck Q3 (key cls j) (A146.hide [some a3]) A146 (cz A146 [some a3]) (ci bM) ec (cn (by simp)) aV ai.nd) ?_);rintro gq A154 ⟨bc,bb,rfl,ar,bO,az,bL⟩;have bU:=bS.off (jJ D jI) ar;have bV:=bT.off (jJ a0 jI) ar;have cX:=cV.trans ar;refine ch _ _ ?_;obtain ⟨dJ,gf,g9,fe,g8,aS,bA,e0,gs,f7,gm,eX⟩:=bU.at1 (x:=j) Of;rw [aH] at bA;refine Ops.q Z (aE d9 c0 Z aS Z (by rw [bA];omega))<|.l Z (fun _ _ cC _=>bh (off:=j) (c':=fe.set j (num ((ii Q3 (key cls j):Nat):Int))) bO rfl (by simp) rfl rfl c0 e0 (by show j + 1<=_;omega) rfl rfl fun A162 aa=>?_);have eg:=aa.keep _ _ (fun q=>D (by rw [aS];exact congrArg some q.symm)) az;have bY:=bV.keep aa.keep (ac dJ (by rw [aS];rfl));have b1:=eX (num ((ii Q3 (key cls j):Nat):Int)) A162 aa;rw [gU] at b1;have cZ:=aw cX wf f7 aa.n aa.keep;refine cC _ _<|.nil<|e9 _ _<|.region<|.q Z (bz (b:=1) Z Z O)<|.q Z (ah Z)<|.nil ?_;exact ⟨⟨j + 1,o3.set j (((ii Q3 (key cls j):Nat):Int)),ja Q3 (key cls j),bc,bb,nv⟩,PM Z Z Z Z Z Z Z Z Z,Z,⟨⟨by omega,ai.next O,bL⟩,cZ,b1,bY,eg,D,a0,ac⟩,O1⟩
 refine an.exit<|e4 _ _<|.seq fun _ en=>.region<|.q Z (ah Z)<|.q Z (ae Z)<|.nil<|en _ _<|.seq fun _ ev=>.seq fun _ ex=>?_;have aD:=ai.fin O;refine an.region<|.q Z (ah Z)<|.l Z (fun _ _ cH _=>qQ (Q:=Q3) Z LU a1 aV ?_);refine cH _ _<|.q Z (ah Z)<|.q Z (kb Z Z)<|.nil<|ex _ _<|.if rfl (fun fd=>?_) (fun fd=>?_)
 ·refine an.seq fun _ ey=>.region<|.q Z (ah Z)<|.q Z (ae Z)<|.nil<|ey _ _<|.rt (by exact aK Z (⟨ad,b7,cy a7 (congrArg cI (hcl.stop aD ‹_›))⟩))
 refine an.skip<|ev _ _<|.region<|.q Z (ah Z)<|.l Z (fun _ _ cK _=>qQ (Q:=Q3) Z LU a1 aV ?_);refine cK _ _<|.q Z (ae Z)<|.nil ?_;exact ⟨⟨Q3.length,o3,nv⟩,pd Z Z Z Z Z,Z,⟨⟨(hcl.next (fun i j hi hj=>hinj cls hcll hcl.rng hRc i j hi hj) aD ‹_›).1,by have:=fT cls hcll hRc;rw [aD] at this;exact this⟩,ad,a7⟩,(by have:=(hcl.next (fun i j hi hj=>hinj cls hcll hcl.rng hRc i j hi hj) aD ‹_›).2;(try dsimp only);omega)⟩
end Go.Proofs.YtjppkekmddjcfaaGreatDoor

namespace Go.Proofs.YtjppkekmddjcfaaGreatDoor
open Go Go.RowKit
namespace V
section
variable {P:Program} {nt:Nat} {Q:Exit->Fr->AH->Prop} {A M:AH} {e:ga} {ds:List Deferred}
theorem an.rangeOwnP {g:Operand} {gf:Nat} {lb:Array Value} {ps:Array Tmp} {assign body:Code} (b4 n:Nat) (xs:Nat->List Value) (I:Nat->AH->Prop) (e1:Nat->ga)
    (hg:bX e g=some (.func (.func gf) #[] lb)) (eg:eU P gf) (hps:∀ i,(xs i).length=ps.size) (hpn:∀ p ∈ ps.toList,p < nt) (a3:b4 < A.n) (hM:ct b4 M A)
    (hI:∀ i B B',I i B->B'.wf->B.n<=B'.n->(∀ b o,(b < A.n\/lR b4 B b)->B.get b=some o->B'.get b=some o)->I i B')
    (hv:∀ i B,I i B->∃ v cap,B.get b4=some (.row true [v] cap)/\∀ b,blk v=some b->∃ o,B.get b=some o) (h0:I 0 A)
    (hiter:∀ l (J:Nat->AH->Prop) B M,B.n=A.n + 2->A.le B->B.wf->ct b4 M B->(∀ i C,J i C->I i C) ->
      (∀ i C C',J i C->C'.wf->C.n<=C'.n->(∀ b o,(b < B.n\/lR b4 C b)->C.get b=some o->C'.get b=some o)->J i C')->J 0 B ->
      (∀ i C M',i < n->C.wf->J i C->ct b4 M' C->kx P l (xs i).toArray C (fun v C'=>v=.bool true/\J (i + 1) C'/\C'.wf/\ct b4 M' C')) ->
      bF P gf (#[.func (.yield l) #[] #[]] ++ lb) B (fun _ C=>J n C/\C.wf/\ct b4 M C))
    (hassign:∀ F i B,uL F->i < n->dU P nt F assign (uc fun f C=>ao (e1 i) f.e/\f.ds=[]/\B.le C/\C.wf) ⟨xC ps.toList (xs i) e,[]⟩ B)
    (hbody:∀ F i B M',uL F->i < n->I i B->B.wf->A.n<=B.n->ct b4 M' B->dU P nt F body (uc fun _ C=>I (i + 1) C/\C.wf/\ct b4 M' C) ⟨e1 i,[]⟩ B)
    (hK:∀ B D,I n B->B.wf->A.n<=D->A.n<=B.n->B.get D=some (.obj true (.deferred (some [])))->¬ lR b4 B D->ct b4 M B->Q .normal ⟨e,mark D :: ds⟩ B) :
    an P nt (.rangeFunc g ps assign body) Q ⟨e,ds⟩ A:=by
  intro a w ha hw
  refine wpIn_wide.1 (wpIn_rangeFunc (n:=0) ?_)
  intro fn _
  rw [show Fence.wide.round=none from rfl]
  obtain ⟨rec,hrec⟩:∃ rec:LoopState->Option Code->Loop,rec=fun st pe=>{ state:=st,pending:=pe,fn,tmps:=a.tmps,params:=ps,assign,body,defers:=w.heap.size }:=⟨_,rfl⟩
  have hsz:w.heap.size=A.n:=hw.size
  have wfA:=hw.wf
  have hA:∀ b,lR b4 A b->b < A.n:=fun b hb=>by
    obtain ⟨v,cap,g1,g2⟩:=hv 0 A h0
    rcases hb.val g1 with rfl | q
    · exact a3
    · obtain ⟨o,ho⟩:=g2 b q;exact wfA _ _ ho
  obtain ⟨v1,s1⟩:=ji (o:=.obj true (.deferred (some []))) (x:=.deferred (some [])) hw ⟨rfl,fun _ _ _ q=>by cases q⟩
  obtain ⟨v2,s2⟩:=ji (o:=.obj true (.loop (rec .ready none))) (x:=.loop (rec .ready none)) v1 ⟨rfl,fun _ _ _ q=>by cases q⟩
  have hgl:((A.new (.obj true (.deferred (some [])))).new (.obj true (.loop (rec .ready none)))).get (A.n + 1)=some (.obj true (.loop (rec .ready none))):=AH.new_get_same _ _
  have hgd:((A.new (.obj true (.deferred (some [])))).new (.obj true (.loop (rec .ready none)))).get A.n=some (.obj true (.deferred (some []))):=by
    rw [AH.new_get_ne _ _ (by simp)];exact AH.new_get_same _ _
  have hkeep:∀ b,b < A.n->((A.new (.obj true (.deferred (some [])))).new (.obj true (.loop (rec .ready none)))).get b=A.get b:=fun b hb=>by
    rw [AH.new_get_ne _ _ Oz,AH.new_get_ne _ _ O]
  have hleA:A.le ((A.new (.obj true (.deferred (some [])))).new (.obj true (.loop (rec .ready none)))):=AH.le_new (AH.le_new (AH.le.refl A) wfA _) wfA _
  have hnB:((A.new (.obj true (.deferred (some [])))).new (.obj true (.loop (rec .ready none)))).n=A.n + 2:=rfl
  generalize ((A.new (.obj true (.deferred (some [])))).new (.obj true (.loop (rec .ready none))))=B0 at *
  have ac:I 0 B0:=hI 0 A _ h0 v2.wf O fun b o hb hgb=>by rw [hkeep b (wfA _ _ hgb)];exact hgb
  have a9:∀ b,lR b4 B0 b->b < A.n:=fun b hb=>hA b (hb.same (hkeep b4 a3))
  have hgev:a.eval g=.func (.func gf) #[] lb:=cE ha hg
  -- what is kept of the loop's own blocks
  have nl:b4 ≠ A.n + 1:=by omega
  refine ⟨w.heap.size + 1,[mark w.heap.size],(w.alloc (.deferred (some []))).alloc (.loop (rec .ready none)),{ target:=.fn (.func gf) lb,args:=#[.func (.yield (w.heap.size + 1)) #[] #[]] },(w.alloc (.deferred (some []))).alloc (.loop (rec .ready none)),gf,
    #[.func (.yield (w.heap.size + 1)) #[] #[]] ++ lb,(w.alloc (.deferred (some []))).alloc (.loop (rec .ready none)),?_,?_,fun _ _=>trivial,?_,fun q=>(by cases q),?_⟩
  · rw [hrec];exact run_enterLoop_outer _ _ _ _ _
  · simp only [resolve,hgev]
    simp [go_sem]
  · have eg':=eg
    unfold eU at eg'
    simp [invoke,go_sem,eg']
  · rw [hsz]
    have ag:ct b4 M B0:=⟨hM.le.trans hleA,hM.wf,fun b hb=>hM.ow b (hb.same (hkeep b4 a3))⟩
    have hcall:=hiter (A.n + 1) (fun i C=>I i C/\C.get (A.n + 1)=some (.obj true (.loop (rec .ready none)))/\C.get A.n=some (.obj true (.deferred (some [])))/\¬ lR b4 C (A.n + 1)/\¬ lR b4 C A.n) B0 M hnB hleA v2.wf ag (fun i C h=>h.1)
      (fun i C C' h wf hn hk=>?_) ⟨ac,hgl,hgd,fun q=>by have:=a9 _ q;omega,fun q=>by have:=a9 _ q;omega⟩ ?_
    · refine (callsIn_wide.2 (hcall.2 _ v2)).mono ?_
      rintro en w' ⟨A',hv',hs',v,rfl,⟨⟨hIn,hgl',hgd',X,a0⟩,hwf',hM'⟩⟩
      obtain ⟨q1,_⟩:=hv'.obj hgl'
      obtain ⟨v3,s3⟩:=kX P (y:=.loop { rec .ready none with state:=.exhausted }) hv' hgl' (fun _ _ _ q=>by cases q)
      refine ⟨none,w'.putObj (A.n + 1) (.loop { rec .ready none with state:=.exhausted }),by
        have h7:=run_endLoop (P:=P) q1 (by rw [hrec];simp)
        have h8:(rec .ready none).pending=none:=by rw [hrec]
        exact h7.trans (congrArg (fun j=>Result.ok j _) h8),?_⟩
      have hl':=hwf' _ _ hgl'
      refine ⟨⟨e,mark A.n :: ds⟩,_,⟨ha.size,ha.slot,by show [mark _] ++ a.defers=_;rw [ha.ds];rfl⟩,v3,((s1.trans s2).trans hs').trans s3,?_,fun _ q=>by cases q⟩
      have hset:∀ b,b ≠ A.n + 1->(A'.set (A.n + 1) (.obj true (.loop { rec .ready none with state:=.exhausted }))).get b=A'.get b:=fun b hb=>AH.set_get_ne _ _ hb
      refine hK _ A.n (hI n A' _ hIn v3.wf (Nat.le_refl _) fun b o hb hgb=>?_) v3.wf (Nat.le_refl _) Oz ?_ ?_ ⟨⟨hM'.le.n,fun b o hb=>?_⟩,hM'.wf,fun b hb=>hM'.ow b (hb.same (hset b4 nl))⟩
      · rw [hset];exact hgb
        rintro rfl
        rcases hb with hb | hb
        · omega
        · exact X hb
      · rw [hset _ O];exact hgd'
      · exact fun q=>a0 (q.same (hset b4 nl))
      · have h1:=hM.le.get b o hb
        have h2:=wfA _ _ h1
        rw [hset _ O];exact hM'.le.get b o hb
    · obtain ⟨hIC,g1,g2,X,a0⟩:=h
      obtain ⟨v,cap,hr,_⟩:=hv i C hIC
      have e4:C'.get b4=C.get b4:=by rw [hr];exact hk b4 _ (.inr (.inl Z)) hr
      exact ⟨hI i C C' hIC wf hn (fun b o hb hgb=>hk b o (hb.imp (fun q=>by omega) id) hgb),hk _ _ (.inl O) g1,hk _ _ (.inl O) g2,fun q=>X (q.same e4),fun q=>a0 (q.same e4)⟩
    · rintro i C M' hi hwfC ⟨hIC,hgl',hgd',X,a0⟩ hMC w' hv'
      obtain ⟨q1,_⟩:=hv'.obj hgl'
      have hy:=run_yield (P:=P) (args:=(xs i).toArray) q1 (by rw [hrec];simpa using hps i)
      refine ⟨fn,_,assign,body,(by rw [hrec] at hy;exact hy),roundIn_of_wpIn trivial ?_⟩
      have hact:cT nt ⟨xC ps.toList (xs i) e,[]⟩ { tmps:=(ps.zip (xs i).toArray).foldl (fun t p=>t.setIfInBounds p.1 p.2) a.tmps,defers:=[] }:=by
        have:=rz (nt:=nt) (ps.toList.zip (xs i)) e a.tmps (fun p hp=>hpn _ (List.of_mem_zip hp).1) ⟨ha.size,ha.slot,rfl⟩
        rw [<- Array.foldl_toList,Array.toList_zip]
        exact this
      have ap:=hassign (FR (A.n + 1)) i C (oT _) hi _ w' hact hv'
      refine wpIn_mono ap ?_
      rintro x a1 w1 ⟨f1,C1,h1,h2,h3,h4,h5⟩
      cases x <;> (try exact h4.elim)
      obtain ⟨hE,hds,hleC,ar⟩:=h4
      obtain ⟨fe,fds⟩:=f1
      simp only at hE hds
      subst hds
      obtain ⟨vC,capC,gC,lC⟩:=hv i C hIC
      have owC:∀ b,lR b4 C b->b < C.n:=fun b hb=>by
        rcases hb.val gC with rfl | q
        · exact hwfC _ _ gC
        · obtain ⟨o,ho⟩:=lC b q;exact hwfC _ _ ho
      have ab:C1.get b4=C.get b4:=by rw [gC];exact hleC.get _ _ gC
      have a4:=hleC.get _ _ hgl'
      have aa:=hleC.get _ _ hgd'
      obtain ⟨q2,_⟩:=h2.obj a4
      obtain ⟨v4,s4⟩:=kX P (y:=.loop { rec .ready none with state:=.busy }) h2 a4 (fun _ _ _ q=>by cases q)
      refine ⟨_,run_beginRound q2 (by rw [hrec]),?_⟩
      have hl':=hwfC _ _ hgl'
      have hd':=hwfC _ _ hgd'
      have hnC:=hleC.n
      have hset:∀ b,b ≠ A.n + 1->(C1.set (A.n + 1) (.obj true (.loop { rec .ready none with state:=.busy }))).get b=C1.get b:=fun b hb=>AH.set_get_ne _ _ hb
      have hsetl:(C1.set (A.n + 1) (.obj true (.loop { rec .ready none with state:=.busy }))).get (A.n + 1)=some (.obj true (.loop { rec .ready none with state:=.busy })):=AH.set_get_same _ _ _
      have hsetn:(C1.set (A.n + 1) (.obj true (.loop { rec .ready none with state:=.busy }))).n=C1.n:=rfl
      generalize C1.set (A.n + 1) (.obj true (.loop { rec .ready none with state:=.busy }))=B1 at *
      have hIB:I i B1:=hI i C _ hIC v4.wf O fun b o hb hgb=>by
        rw [hset];exact hleC.get _ _ hgb
        rintro rfl
        rcases hb with hb | hb
        · omega
        · exact X hb
      have ai:∀ b,lR b4 B1 b->lR b4 C b:=fun b hb=>(hb.same (hset b4 nl)).same ab
      have hMs:ct b4 ⟨C.n,fun b=>if b=A.n + 1 then some (.obj true (.loop { rec .ready none with state:=.busy })) else if b=A.n then some (.obj true (.deferred (some []))) else M'.get b⟩ B1:=by
        refine ⟨⟨by show C.n<=B1.n;omega,fun b o hb=>?_⟩,fun b o hb=>?_,fun b hb=>?_⟩
        · simp only at hb
          split at hb
          · rename_i q;subst q;rw [hsetl];exact hb
          · rename_i q
            rw [hset b q]
            split at hb
            · rename_i q2;subst q2;rw [aa];exact hb
            · exact hleC.get _ _ (hMC.le.get b o hb)
        · simp only at hb
          split at hb
          · show b < C.n;omega
          · split at hb
            · show b < C.n;omega
            · exact hwfC b o (hMC.le.get b o hb)
        · have h6:=ai b hb
          simp only
          rw [if_neg (fun q:b=A.n + 1=>X (q ▸ h6)),if_neg (fun q:b=A.n=>a0 (q ▸ h6))]
          exact hMC.ow b h6
      have hb:=hbody (FR (A.n + 1)) i B1 _ (oT _) hi hIB v4.wf O hMs
      refine wpIn_mono (hb _ _ (cT.le h1 hE) v4) ?_
      rintro x a2 w2 ⟨f2,A2,g1,g2,g3,g4,g5⟩
      cases x <;> (try exact g4.elim)
      obtain ⟨ad,av,V⟩:=g4
      have a7:A2.get (A.n + 1)=some (.obj true (.loop { rec .ready none with state:=.busy })):=V.le.get _ _ (if_pos Z)
      have a6:A2.get A.n=some (.obj true (.deferred (some []))):=V.le.get _ _ (by simp [show ¬ A.n=A.n + 1 by omega])
      have a5:¬ lR b4 A2 (A.n + 1):=fun q=>by have:=V.ow _ q;simp only [if_true] at this;cases this
      have a8:¬ lR b4 A2 A.n:=fun q=>by have:=V.ow _ q;simp [show ¬ A.n=A.n + 1 by omega] at this
      obtain ⟨q3,_⟩:=g2.obj a7
      obtain ⟨v5,s5⟩:=kX P (y:=.loop { ({ rec .ready none with state:=.busy }:Loop) with state:=.ready,pending:=none }) g2 a7 (fun _ _ _ q=>by cases q)
      refine ⟨_,_,run_endRound (P:=P) none q3,_,_,Z,v5,((h3.trans s4).trans g3).trans s5,Z,⟨?_,?_,?_,?_,?_⟩,v5.wf,?_⟩
      · exact hI (i + 1) A2 _ ad v5.wf (Nat.le_refl _) fun b o hb hgb=>by
          rw [AH.set_get_ne];exact hgb
          rintro rfl
          rcases hb with hb | hb
          · omega
          · exact a5 hb
      · rw [AH.set_get_same,hrec]
      · rw [AH.set_get_ne _ _ O];exact a6
      · exact fun q=>a5 (q.same (AH.set_get_ne _ _ nl))
      · exact fun q=>a8 (q.same (AH.set_get_ne _ _ nl))
      · refine ⟨⟨Nat.le_trans hMC.le.n (by have:=V.le.n;exact this),fun b o hb=>?_⟩,hMC.wf,fun b hb=>?_⟩
        · by_cases q:b=A.n + 1
          · subst q
            have h6:=hMC.le.get _ _ hb
            rw [hgl'] at h6
            rw [AH.set_get_same,<- h6,hrec]
          · rw [AH.set_get_ne _ _ q]
            by_cases q2:b=A.n
            · subst q2;rw [a6,<- hMC.le.get _ _ hb,hgd']
            · exact V.le.get b o (by simp only;rw [if_neg q,if_neg q2];exact hb)
        · have h6:lR b4 A2 b:=hb.same (AH.set_get_ne _ _ nl)
          have h7:=V.ow b h6
          simp only at h7
          rw [if_neg (fun q:b=A.n + 1=>a5 (q ▸ h6)),if_neg (fun q:b=A.n=>a8 (q ▸ h6))] at h7
          exact h7
end
end V
end Go.Proofs.YtjppkekmddjcfaaGreatDoor

namespace Go.Proofs.YtjppkekmddjcfaaGreatDoor
open Go Go.RowKit V
section
variable {lv:List Bool} {N:List (List Int)} {cls:List Int} {i j n:Nat} {o:Wd} {m:Int}
def qj (lv:List Bool) (N:List (List Int)) (cls:List Int) (i j:Nat):Wd:=gO (cls.getD i 0).toNat ++ ((N.getD i []).take j).flatMap (tF lv cls)
theorem vv (hj:j < (N.getD i []).length):qj lv N cls i (j + 1)=qj lv N cls i j ++ tF lv cls ((N.getD i []).getD j 0):=by
  rw [qj,<- fz (z:=(0:Int)) hj,List.flatMap_append,<- List.append_assoc]
  simp [qj]
theorem oE (h:o=qj lv N cls i j) (hj:j < (N.getD i []).length) (q:j7 lv ((N.getD i []).getD j 0)=false):o ++ [32]=qj lv N cls i (j + 1):=by
  rw [vv hj,tF,q,h];simp
theorem tE (h:o=qj lv N cls i j) (hj:j < (N.getD i []).length) (q:j7 lv ((N.getD i []).getD j 0)=true):o ++ [32] ++ gO (cls.getD ((N.getD i []).getD j 0).toNat 0).toNat=qj lv N cls i (j + 1):=by
  rw [vv hj,tF,q,h,List.append_assoc];simp
theorem mN (h:¬ 0<=m):j7 lv m=false:=by rw [j7,decide_eq_false h];rfl
theorem rn (h:m < 0):j7 lv m=false:=mN O
theorem eE (h:0<=m):j7 lv m=lv.getD m.toNat false:=by rw [j7,decide_eq_true h];rfl
theorem JE:(tF lv cls m).length<=14:=by
  unfold tF;split
  · have:=rf (cls.getD m.toNat 0).toNat;rw [List.length_cons];omega
  · simp
theorem JD:(qj lv N cls i j).length<=13 + 14 * j:=by
  have h1:=rf (cls.getD i 0).toNat
  have h2:∀ l:List Int,(l.flatMap (tF lv cls)).length<=14 * l.length:=by
    intro l
    induction l with
    | nil=>simp
    | cons a l ih=>have:=JE (lv:=lv) (cls:=cls) (m:=a);rw [List.flatMap_cons,List.length_append,List.length_cons];omega
  have h3:=h2 ((N.getD i []).take j)
  have:((N.getD i []).take j).length<=j:=List.length_take_le _ _
  rw [qj,List.length_append];omega
theorem iP (h:lv.getD i false=false):np lv N cls i=[45]:=by rw [np,h];rfl
theorem vu (h:lv.getD i false=true) (hj:(N.getD i []).length=j):np lv N cls i=qj lv N cls i j:=by
  rw [np,if_pos h,qj,<- hj,List.take_length]
theorem E8 (n:Nat):gO n ≠ []:=by
  unfold gO rg
  split
  · simp
  · simp
theorem OU {a b x y:Wd} (ha:∀ c ∈ a,c ≠ 32) (hb:∀ c ∈ b,c ≠ 32) (hx:x=[]\/∃ t,x=32 :: t) (hy:y=[]\/∃ t,y=32 :: t) (e:a ++ x=b ++ y):a=b/\x=y:=by
  induction a generalizing b with
  | nil =>
    cases b with
    | nil=>exact ⟨Z,e⟩
    | cons c b =>
      rcases hx with rfl | ⟨t,rfl⟩
      · simp at e
      · simp only [List.nil_append,List.cons_append,List.cons.injEq] at e
        exact absurd e.1.symm (hb c List.mem_cons_self)
  | cons c a ih =>
    cases b with
    | nil =>
      rcases hy with rfl | ⟨t,rfl⟩
      · simp at e
      · simp only [List.nil_append,List.cons_append,List.cons.injEq] at e
        exact absurd e.1 (ha c List.mem_cons_self)
    | cons d b =>
      simp only [List.cons_append,List.cons.injEq] at e
      obtain ⟨h1,h2⟩:=ih (fun c hc=>ha c (List.mem_cons_of_mem _ hc)) (fun c hc=>hb c (List.mem_cons_of_mem _ hc)) e.2
      exact ⟨by rw [e.1,h1],h2⟩
theorem vl (l:List Int):l.flatMap (tF lv cls)=[]\/∃ t,l.flatMap (tF lv cls)=32 :: t:=by
  cases l with
  | nil=>exact .inl Z
  | cons a l=>right;rw [List.flatMap_cons,tF];exact ⟨_,Z⟩
theorem JC (hcl:cls.length=n) (hcr:∀ c ∈ cls,0<=c/\c < (n:Int)) (hn:n<=100000) (hd:∀ i j,i < n->j < n->lv.getD i false=false->lv.getD j false=false->cls.getD i 0=cls.getD j 0) (i j:Nat) (hi:i < n) (hj:j < n) (h:np lv N cls i=np lv N cls j):cls.getD i 0=cls.getD j 0:=by
  have hm:∀ i,(∃ t,gO (cls.getD i 0).toNat ++ t=[45])->False:=fun i ⟨t,z⟩=>by
    have h1:=sA 13 (cls.getD i 0).toNat
    cases hf:gO (cls.getD i 0).toNat with
    | nil=>exact E8 _ hf
    | cons c l =>
      rw [hf] at z
      simp only [List.cons_append,List.cons.injEq] at z
      exact (h1 c (by show c ∈ gO _;rw [hf];exact List.mem_cons_self)).2 z.1
  cases hli:lv.getD i false with
  | false =>
    cases hlj:lv.getD j false with
    | false=>exact hd i j hi hj hli hlj
    | true=>rw [iP hli,np,if_pos hlj] at h;exact absurd ⟨_,h.symm⟩ (hm j)
  | true =>
    cases hlj:lv.getD j false with
    | false=>rw [iP hlj,np,if_pos hli] at h;exact absurd ⟨_,h⟩ (hm i)
    | true =>
      rw [np,np,if_pos hli,if_pos hlj] at h
      have h1:=hcr _ (bq (d:=(0:Int)) (show i < cls.length by omega))
      have h2:=hcr _ (bq (d:=(0:Int)) (show j < cls.length by omega))
      have:=(OU (fun c hc=>(sA 13 _ c hc).1) (fun c hc=>(sA 13 _ c hc).1) (vl _) (vl _) h).1
      have:=EW O O this
      omega
def ye (lv:List Bool) (n:Nat) (cls:List Int):Prop:=∀ i j,i < n->j < n->lv.getD i false=false->lv.getD j false=false->cls.getD i 0=cls.getD j 0
theorem zp {K:Type} (f:Nat->K) (d:K) (hi:i < n):((List.range n).map f).getD i d=f i:=by simp [List.getD_eq_getElem?_getD,hi]
theorem vk {K:Type} [DecidableEq K] (f:Nat->K) (d:K) (h:∀ i j,i < n->j < n->lv.getD i false=false->lv.getD j false=false->f i=f j):ye lv n (cd ((List.range n).map f)).1:=fun i j hi hj h1 h2 =>
  (xl _ (d:=d) (by simpa using hi) (by simpa using hj)).2 (by rw [zp f d hi,zp f d hj];exact h i j hi hj h1 h2)
end
section
variable {n k:Nat} {lv:List Bool} {N:List (List Int)} {cls:List Int} {c m:Int} {x i:Nat}
theorem tf (key:List Int->Nat->Wd):∀ (f count:Nat) (cls:List Int),cls.length=n->(∀ c ∈ cls,0<=c/\c < (n:Int))->(lg n key f count cls).length=n/\∀ c ∈ lg n key f count cls,0<=c/\c < (n:Int)
  | 0,_,cls,h1,h2=>⟨h1,h2⟩
  | f + 1,count,cls,h1,h2=>by
    obtain ⟨g1,g2,_,_⟩:=pT.of (n:=n) (l:=(List.range n).map (key cls)) (cls:=(cd ((List.range n).map (key cls))).1) (Q:=(cd ((List.range n).map (key cls))).2) (by simp) Z
    unfold lg;split
    · exact ⟨g1,g2⟩
    · exact tf key f _ _ g1 g2
theorem ML (st:Nat->Bool × Bool) (key:List Int->Nat->Wd):(yp n st key).length=n/\∀ c ∈ yp n st key,0<=c/\c < (n:Int):=by
  obtain ⟨g1,g2,_,_⟩:=pT.of (n:=n) (l:=(List.range n).map st) (cls:=(cd ((List.range n).map st)).1) (Q:=(cd ((List.range n).map st)).2) (by simp) Z
  exact tf key _ _ _ g1 g2
theorem C9 {acc:List Bool}:(wE acc lv N).length=N.length/\∀ c ∈ wE acc lv N,0<=c/\c < (N.length:Int):=ML _ _
theorem xh (h:c ∈ cls):jc cls c < cls.length:=List.idxOf_lt_length_iff.2 h
theorem ru (h:j7 lv ((N.getD (jc cls c) []).getD x 0)=false):jf lv N cls c x=none:=by
  rw [jf,show gB N (jc cls c) x=(N.getD (jc cls c) []).getD x 0 from rfl,h];rfl
theorem xz (h:j7 lv ((N.getD (jc cls c) []).getD x 0)=true):jf lv N cls c x=some (cls.getD ((N.getD (jc cls c) []).getD x 0).toNat 0):=by
  rw [jf,show gB N (jc cls c) x=(N.getD (jc cls c) []).getD x 0 from rfl,if_pos h]
structure o5 (cls:List Int) (i:Nat) (E:List (Int × Value)):Prop where
  nd:(E.map (·.1)).Nodup
  is:∀ c,lk E c=if c ∈ cls.take i then some (num ((jc cls c:Nat):Int)) else none
variable {E:List (Int × Value)}
theorem o5.start:o5 cls 0 []:=⟨List.nodup_nil,fun c=>by simp [lk]⟩
theorem o5.in_ (h:o5 cls i E) {v:Value} (q:lk E c=some v):c ∈ cls.take i:=by
  rw [h.is] at q;split at q
  · assumption
  · cases q
theorem o5.no_ (h:o5 cls i E) (q:lk E c=none):c ∉ cls.take i:=fun z=>by rw [h.is,if_pos z] at q;cases q
theorem ot (hi:i < cls.length):c ∈ cls.take (i + 1) ↔ c ∈ cls.take i\/c=cls.getD i 0:=by
  rw [<- fz (z:=(0:Int)) hi,List.mem_append,List.mem_singleton]
theorem o5.old (h:o5 cls i E) (hi:i < cls.length) (q:cls.getD i 0 ∈ cls.take i):o5 cls (i + 1) E:=⟨h.nd,fun c=>by
  rw [h.is]
  by_cases z:c ∈ cls.take i
  · rw [if_pos z,if_pos ((ot hi).2 (.inl z))]
  · rw [if_neg z,if_neg fun w=>((ot hi).1 w).elim z fun e=>z (e ▸ q)]⟩
theorem o5.new (h:o5 cls i E) (hi:i < cls.length) (q:cls.getD i 0 ∉ cls.take i):o5 cls (i + 1) (wj E (cls.getD i 0) (num ((i:Nat):Int))):=by
  have hk:lk E (cls.getD i 0)=none:=by rw [h.is,if_neg q]
  have hn:cls.getD i 0 ∉ E.map (·.1):=xe.1 hk
  rw [sM hn]
  have hm:jc cls (cls.getD i 0)=i:=by
    have e:cls=cls.take i ++ cls.drop i:=(List.take_append_drop i cls).symm
    have e2:cls.drop i=cls.getD i 0 :: cls.drop (i + 1):=rJ hi
    rw [jc]
    conv=>lhs;arg 2;rw [e]
    rw [List.idxOf_append,if_neg q,e2,List.idxOf_cons_self,List.length_take];omega
  refine ⟨?_,fun c=>?_⟩
  · rw [List.map_append,List.map_cons,List.map_nil]
    exact List.nodup_append.2 ⟨h.nd,by simp,by intro a ha b hb;rw [List.mem_singleton] at hb;subst hb;intro e;rw [show a=cls.getD i 0 from e] at ha;exact hn ha⟩
  · by_cases z:c=cls.getD i 0
    · subst z
      rw [if_pos ((ot hi).2 (.inr Z)),hm]
      simp only [lk,List.find?_append]
      have:E.find? (fun p=>decide (p.1=cls.getD i 0))=none:=by
        cases w:E.find? (fun p=>decide (p.1=cls.getD i 0)) with
        | none=>rfl
        | some p=>simp only [lk,w] at hk;cases hk
      rw [this];simp
    · have e1:lk (E ++ [(cls.getD i 0,num ((i:Nat):Int))]) c=lk E c:=by
        simp only [lk,List.find?_append,List.find?_cons,decide_eq_false (show ¬ cls.getD i 0=c from fun e=>z e.symm),List.find?_nil,Option.or_none]
      rw [e1,h.is]
      by_cases w:c ∈ cls.take i
      · rw [if_pos w,if_pos ((ot hi).2 (.inl w))]
      · rw [if_neg w,if_neg fun v=>((ot hi).1 v).elim w z]
def qT (A:AH) (bp:Nat) (cls:List Int):Prop:=∃ w cap mm w2 es ck,∃ E:List (Int × Value),A.get bp=some (.row w [.map (some mm)] cap)/\A.get mm=some (.obj w2 (.map es ck))/\dh num es E/\∀ c ∈ cls,lk E c=some (num ((jc cls c:Nat):Int))
theorem qT.le {A B:AH} {bp:Nat} (h:qT A bp cls) (le:A.le B):qT B bp cls:=by
  obtain ⟨w,cap,mm,w2,es,ck,E,h1,h2,h3,h4⟩:=h
  exact ⟨w,cap,mm,w2,es,ck,E,le.get _ _ h1,le.get _ _ h2,h3,h4⟩
theorem o5.all (h:o5 cls i E) (hi:cls.length<=i):∀ c ∈ cls,lk E c=some (num ((jc cls c:Nat):Int)):=fun c hc=>by
  rw [h.is,List.take_of_length_le hi,if_pos hc]
theorem z8 {P:Program} {e:ga} {A:AH} {x y:Operand} {t kt et:TypeId} {ty:TypeId} {ps:String} {af:Array Edge} {dst:Option Nat} {Q:Value->AH->Prop} {Kp:List PanicEntry->AH->Prop} {g:Option (Nat × Bool)} {m clock:Nat} {es:Array MapEntry} {E:List (Int × Value)} {k:Int} {v zv:Value} {rw:Bool}
    (hx:bX e x=some (.map (some m))) (hy:bX e y=some (num k)) (hu:P.underlying t=some (.map kt et)) (hk:P.underlying kt=some (.int .i64)) (hz:cx P et=some zv) (hg:A.get m=some (.obj rw (.map es clock))) (hE:dh num es E) (hv:lk E k=some v)
    (h:Q v A):j5 P e A { dst:=dst,op:=.lookup t x y false,type:=ty,pos:=ps,after:=af,guard:=g } Q Kp:=oA rk hx hy hu hk hz hg hE (by rw [hv];exact h)
def jH (l:List Bool) (Q:List Int):List Bool:=Q.foldl (fun l s=>l.set s.toNat true) l
theorem mg:∀ (Q:List Int) (l:List Bool),(jH l Q).length=l.length
  | [],_=>rfl
  | q :: Q,l=>by rw [jH,List.foldl_cons];exact (mg Q _).trans (by simp)
theorem Bq (l:List Bool) (Q:List Int) (q:Int):jH l (Q ++ [q])=(jH l Q).set q.toNat true:=by simp [jH]
theorem yV:∀ (Q:List Int) (l:List Bool),(∀ q ∈ Q,0<=q/\q < (l.length:Int))->∀ i,i < l.length->(jH l Q).getD i false=(l.getD i false || decide ((i:Int) ∈ Q))
  | [],l,_,i,hi=>by simp [jH]
  | q :: Q,l,h,i,hi=>by
    have hq:=h q List.mem_cons_self
    rw [jH,List.foldl_cons]
    show (jH (l.set q.toNat true) Q).getD i false=_
    rw [yV Q _ (fun p hp=>by rw [List.length_set];exact h p (List.mem_cons_of_mem _ hp)) i (by simpa using hi),dM O]
    by_cases e:i=q.toNat
    · rw [if_pos e,decide_eq_true (show (i:Int) ∈ q :: Q from by rw [List.mem_cons];left;omega)];simp
    · rw [if_neg e];congr 1
      rw [decide_eq_decide,List.mem_cons]
      exact ⟨.inr,fun z=>z.elim (fun z=>absurd O e) id⟩
end
theorem yR {acc:List Bool} {N:List (List Int)} (hal:acc.length=N.length):∀ q ∈ fH acc N,0<=q/\q < (N.length:Int):=by
  suffices h:∀ (f i:Nat) (Q:List Int),(∀ q ∈ Q,0<=q/\q < (N.length:Int))->∀ q ∈ jb (dl N) f i Q,0<=q/\q < (N.length:Int) by
    exact h _ _ _ fun q hq=>by obtain ⟨s,h1,_,h3⟩:=sU.1 hq;omega
  intro f
  induction f with
  | zero=>intro i Q h;exact h
  | succ f ih =>
    intro i Q h
    unfold jb;split
    · refine ih _ _ ?_
      have:∀ (P Q:List Int),(∀ p ∈ P,0<=p/\p < (N.length:Int))->(∀ q ∈ Q,0<=q/\q < (N.length:Int))->∀ q ∈ P.foldl io Q,0<=q/\q < (N.length:Int):=by
        intro P
        induction P with
        | nil=>intro Q _ h;exact h
        | cons p P ih =>
          intro Q hP hQ
          rw [List.foldl_cons]
          refine ih _ (fun x hx=>hP x (List.mem_cons_of_mem _ hx)) ?_
          unfold io;split
          · exact hQ
          · exact oL hQ (hP p List.mem_cons_self)
      refine this _ _ (fun p hp=>?_) h
      obtain ⟨_,s,h2,h3,_⟩:=yW.1 hp
      omega
    · exact h
theorem Fy {acc:List Bool} {N:List (List Int)} (hal:acc.length=N.length):jH (List.replicate acc.length false) (fH acc N)=im acc N:=by
  apply List.ext_getElem
  · rw [mg];simp [im]
  · intro i h1 h2
    rw [mg,List.length_replicate] at h1
    have:=yV (fH acc N) (List.replicate acc.length false) (fun q hq=>by have:=yR hal q hq;simp;omega) i (by simpa using h1)
    rw [gd (by rw [mg];simpa using h1)] at this
    rw [this]
    simp [im,h1]
theorem Fw {acc:List Bool} {N:List (List Int)}:(im acc N).length=acc.length:=by simp [im]
theorem Fz {l:List Bool} {Q:List Int} {k:Nat} (hk:k < Q.length):(jH l (Q.take k)).set (Q.getD k 0).toNat true=jH l (Q.take (k + 1)):=by
  rw [<- fz (z:=(0:Int)) hk,Bq]
theorem tr {k:Nat} {step:Int->Nat->Option Int} {D:Int->Prop} (hDs:∀ q c t,D q->c < k->step q c=some t->D t) {q:Int} (hq:D q):∀ (l:List Nat) (r:List Int × List Int),(∀ c ∈ l,c < k)->r.2.Nodup->(∀ q ∈ r.2,D q)->(l.foldl (fU step q) r).2.Nodup/\∀ q' ∈ (l.foldl (fU step q) r).2,D q'
  | [],r,_,h1,h2=>⟨h1,h2⟩
  | c :: l,r,hl,h1,h2=>by
    rw [List.foldl_cons]
    refine tr hDs hq l _ (fun c hc=>hl c (List.mem_cons_of_mem _ hc)) ?_ ?_
    · unfold fU;split
      · exact h1
      · split
        · exact h1
        · exact n0 h1 ‹_›
    · unfold fU;split
      · exact h2
      · split
        · exact h2
        · exact oL h2 (hDs q c _ hq (hl c List.mem_cons_self) ‹_›)
theorem ra {k:Nat} {step:Int->Nat->Option Int} {D:Int->Prop} (hDs:∀ q c t,D q->c < k->step q c=some t->D t):∀ (f i:Nat) (Q:List Int) (R:List (List Int)),Q.Nodup->(∀ q ∈ Q,D q)->(fu k step f i Q R).1.Nodup/\∀ q ∈ (fu k step f i Q R).1,D q
  | 0,_,_,_,h1,h2=>⟨h1,h2⟩
  | f + 1,i,Q,R,h1,h2=>by
    unfold fu;split
    · rename_i hi
      obtain ⟨g1,g2⟩:=tr hDs (h2 _ (bq (d:=(0:Int)) hi)) (List.range k) ([],Q) (fun c hc=>List.mem_range.1 hc) h1 h2
      exact ra hDs f _ _ _ g1 g2
    · exact ⟨h1,h2⟩
theorem rN {N:Nat} {Q:List Int} (hn:Q.Nodup) (hQ:∀ q ∈ Q,0<=q/\q < (N:Int)):Q.length<=N:=by
  have:=oM (l:=Q.map Int.toNat) (n:=N) ?_ ?_
  · simpa using this
  · rw [List.nodup_iff_pairwise_ne,List.pairwise_map]
    exact List.Pairwise.imp_of_mem (fun {a c} ha hc hac e=>hac (by have:=hQ a ha;have:=hQ c hc;omega)) hn
  · intro x hx
    obtain ⟨a,ha,rfl⟩:=List.mem_map.1 hx
    have:=hQ a ha;omega
theorem Kn {k:Nat} {acc:List Bool} {N:List (List Int)} {lv:List Bool} {cls:List Int} (hok:Ak k acc N) (hcl:cls.length=N.length) (q:Int) (c:Nat) (t:Int) (hq:q ∈ cls) (hc:c < k) (h:jf lv N cls q c=some t):t ∈ cls:=by
  have hm:=xh hq
  have hv:=hok.val (jc cls q) c O hc
  unfold jf at h;split at h
  · rename_i hl
    cases h
    have:0<=gB N (jc cls q) c:=by
      rw [j7] at hl
      simp only [Bool.and_eq_true,decide_eq_true_eq] at hl;exact hl.1
    exact bq O
  · cases h
theorem IR {k:Nat} {acc:List Bool} {N:List (List Int)} (hok:Ak k acc N) (hN:0 < N.length):(AE k acc N).1.length<=N.length:=by
  have hc:=C9 (lv:=im acc N) (N:=N) (acc:=acc)
  obtain ⟨g1,g2⟩:=ra (D:=fun q=>q ∈ wE acc (im acc N) N) (fun q c t=>Kn (lv:=im acc N) hok hc.1 q c t) (N.length + 1) 0 [(wE acc (im acc N) N).getD 0 0] [] (by simp) (fun q hq=>by
    rw [List.mem_singleton] at hq;subst hq;exact bq (by rw [hc.1];exact hN))
  exact rN g1 fun q hq=>hc.2 q (g2 q hq)
theorem sw {k:Nat} {acc:List Bool} {N:List (List Int)} (h:(im acc N).getD 0 false=false):wB k acc N=([],[]):=by rw [wB,h];rfl
theorem yn {k:Nat} {acc:List Bool} {N:List (List Int)} (h:(im acc N).getD 0 false=true):wB k acc N=((AE k acc N).1.map fun c=>acc.getD (jc (wE acc (im acc N) N) c) false,(AE k acc N).2):=by rw [wB,if_pos h]
theorem vy {l:List Bool} (h:l.length=0):l.getD 0 false=false:=by rw [List.length_eq_zero_iff.1 h];rfl
theorem MD {N:List (List Int)} {n:Nat} (hn:n<=100000) (lv:List Bool) (cls:List Int) (h1:cls.length=n) (h2:∀ c ∈ cls,0<=c/\c < (n:Int)) (h3:ye lv n cls) (i j:Nat) (hi:i < n) (hj:j < n) (h:np lv N cls i=np lv N cls j):cls.getD i 0=cls.getD j 0 :=
  JC h1 h2 hn h3 i j hi hj h
theorem Ew {acc:List Bool} {n:Nat} (lv:List Bool) (hl:∀ i,i < n->lv.getD i false=false->acc.getD i false=false):ye lv n (cd ((List.range n).map (QO acc lv))).1 :=
  vk (QO acc lv) (false,false) fun i j hi hj h1 h2=>by simp only [QO];rw [h1,h2,hl i hi h1,hl j hj h2]
theorem EB {N:List (List Int)} {n:Nat} (lv:List Bool) (cls:List Int):ye lv n (cd ((List.range n).map (np lv N cls))).1 :=
  vk (np lv N cls) [] fun i j hi hj h1 h2=>by rw [iP h1,iP h2]
theorem JJ {acc:List Bool} {N:List (List Int)} (i:Nat) (hi:i < acc.length) (h:(im acc N).getD i false=false):acc.getD i false=false:=by
  cases q:acc.getD i false with
  | false=>rfl
  | true =>
    have h1:(i:Int) ∈ fH acc N:=(mO (B:=dl N) (N.length + 1) 0 (o6 acc acc.length)).subset (sU.2 ⟨i,hi,q,rfl⟩)
    simp [im,hi,h1] at h
end Go.Proofs.YtjppkekmddjcfaaGreatDoor

namespace Go.Proofs.YtjppkekmddjcfaaGreatDoor
open Go Go.RowKit V
set_option maxRecDepth 100000
set_option maxHeartbeats 4000000
theorem CZ:dk Tryz.prog 222=some false:=by kernel_rfl
theorem wR:dT Tryz.prog 213 0=some (3,0):=by kernel_rfl
theorem J6:da Tryz.prog 62=some [(0,1),(1,1),(2,1),(3,1)]:=by kernel_rfl
theorem R5:dc Tryz.prog 222=some 1:=by kernel_rfl
theorem SX:type_of% @Tryz.underlying218:=@Tryz.underlying218
theorem Sh:type_of% @Tryz.underlying62:=@Tryz.underlying62
theorem Tc:cx Tryz.prog 222=some (.map none):=by kernel_rfl
theorem TG:cx Tryz.prog 59=some (.slice none 0 0):=by kernel_rfl
theorem Ii:cx Tryz.prog 62=some (.agg #[.int .i64 0,.int .i64 0,.slice none 0 0,.slice none 0 0]):=by kernel_rfl

theorem DP (u:Value) (o:List UInt8) (m:Int) (A0 A:AH) (h:A0.le A) (D:A0.wf) (hu:Fresh A0 A u 1 (au o)) (ho:o.length<=100000000000) (hm:0<=m/\m<=1000000):bF Tryz.prog 184 #[u,num m,num ((36:Nat):Int)] A (fun v A1=>A0.le A1/\A1.wf/\Fresh A0 A1 v 1 (au (o ++ gO m.toNat))):=by
 obtain ⟨n,rfl⟩:∃ n:Nat,m=n:=⟨m.toNat,by omega⟩;exact Qo u o n A0 A h D hu ho O

theorem Qx (i:Nat) (bl bm kl km:Nat) (wl wm:Bool) (lv:Value) (live:List Bool) (b:Nat) (rwb:Bool) (capb k:Nat) (av nv fv bv:Value) (acc:List Bool) (N:List (List Int)) (rows:List Value) (A:AH) (gl:A.get bl=some (.row wl [lv] kl)) (gm:A.get bm=some (.row wm [.pointer (some ⟨b,0,none⟩)] km)) (hlv:bH A 1 lv (cg live)) (hll:live.length=N.length) (hok:Ak k acc N) (hb:A.get b=some (.row rwb [num (k:Int),av,nv,fv,bv] capb)) (hav:bH A 1 av (cg acc)) (hnv:bH A 1 nv (d6 rows)) (hrl:rows.length=N.length) (hF:∀ i,i < N.length->bH A 1 (rows.getD i undef) (cI (N.getD i []))) (hi:i < N.length):bF Tryz.prog 182 #[num ((i:Nat):Int),.pointer (some ⟨bl,0,none⟩),.pointer (some ⟨bm,0,none⟩)] A (fun v A1=>v=iG (QO acc live i)/\A.le A1/\A1.wf):=by
 refine tm Tryz.call182 Tryz.func182 Z Tryz.results182 Tryz.ntmps182 Z (fun wf=>?_);have a0:=AH.le.refl A;obtain ⟨⟨aC,aD⟩,hal,hnl,hrow,hval⟩:=hok;refine an.seq fun _ h2=>.region<|.l Z (fun _ _ a9 _=>cu wf Rb rfl fun A5 b4 V=>?_);have X:=aX wf (Nat.le_trans a0.n V.lo);have h:=a0.trans V.le;refine a9 _ _<|.nil<|h2 _ _<|.seq fun _ h9=>.drawn [0,1,2,3,4,5,6,7,8,9,10,11,12] mixed Y Y Z<|.q Z Z Z (ak ib Z Z (h.get _ _ gl) Z)<|.q Z Z Z (ah Z) ?_;obtain ⟨ay,aA,ap,aR,ag,aI,aF,a5,aa,a7,ac,a1⟩:=bH.at (i:=i) (hlv.le h) Oi O;refine be.q Z Z Z (aE kW lA Z a5 Z aa)<|.q Z Z Z (ak sY Z Z a7 ((cN a1).trans (dY O)))<|.q Z Z Z (ak lU Z Z (h.get _ _ gm) Z)<|.q Z Z Z (cJ Z)<|.q Z Z Z (aj i8 ie U Z)<|.q Z Z Z (ak ib Z Z (h.get _ _ hb) Z)<|.q Z Z Z (ah Z) ?_;obtain ⟨az,aB,ar,aS,ai,aP,aG,a6,ab,a8,ad,a2⟩:=bH.at (i:=i) (hav.le h) Oi O;refine be.q Z Z Z (aE kW lA Z a6 Z ab)<|.q Z Z Z (ak sY Z Z a8 ((cN a2).trans (dY O)))<|.q Z Z Z (dr Z (mD SX Rb lA Z))<|.l Z Z Z (fun _ _ a3 _=>bh (cs:=[.bool (live.getD i false),.bool (acc.getD i false)]) (c':=[.bool (live.getD i false),.bool (acc.getD i false)]) V.wf rfl rfl rfl rfl zR V.get (Nat.le_of_ble_eq_true rfl) rfl rfl fun A18 D=>?_);have a4:=aw h wf X D.n D.keep;refine a3 _ _ (aU.none Y)<|.done<|h9 _ _<|.ret ?_;repeat first | with_reducible refine bJ ?_ | with_reducible refine bx ?_
 exact aK (ew II zR Z D.get Z fY) (⟨Z,a4,D.wf⟩)

theorem Qy (i:Nat) (cls:List Int) (cv:Value) (bl bm kl km:Nat) (wl wm:Bool) (lv:Value) (live:List Bool) (b:Nat) (rwb:Bool) (capb k:Nat) (av nv fv bv:Value) (acc:List Bool) (N:List (List Int)) (rows:List Value) (A:AH) (gl:A.get bl=some (.row wl [lv] kl)) (gm:A.get bm=some (.row wm [.pointer (some ⟨b,0,none⟩)] km)) (hlv:bH A 1 lv (cg live)) (hll:live.length=N.length) (hok:Ak k acc N) (hb:A.get b=some (.row rwb [num (k:Int),av,nv,fv,bv] capb)) (hav:bH A 1 av (cg acc)) (hnv:bH A 1 nv (d6 rows)) (hrl:rows.length=N.length) (hF:∀ i,i < N.length->bH A 1 (rows.getD i undef) (cI (N.getD i []))) (hi:i < N.length) (hcv:bH A 1 cv (cI cls)) (hcl:cls.length=N.length) (hcr:∀ c ∈ cls,0<=c/\c < (N.length:Int))  : bF Tryz.prog 183 #[cv,num ((i:Nat):Int),.pointer (some ⟨bl,0,none⟩),.pointer (some ⟨bm,0,none⟩)] A (fun v A1=>v=bi (np live N cls i)/\A.le A1/\A1.wf):=by
 refine Tf Tryz.call183 Tryz.func183 Z Tryz.results183 Tryz.ntmps183 Z (fun wf=>?_);have a3:=AH.le.refl A;obtain ⟨⟨dO,dS⟩,hal,hnl,hrow,hval⟩:=hok;have hri:=hrow i hi;have hci:=hcr _ (bq (d:=(0:Int)) (show i < cls.length by omega));refine an.seq fun _ h2=>.region<|.q Z (ae Z)<|.nil<|h2 _ _<|.seq fun _ h4=>.seq fun _ h6=>.region<|.q Z (ak ib Z Z (a3.get _ _ gl) Z)<|.q Z (ah Z) ?_;obtain ⟨b7,f7,ex,r7,ev,n7,k7,e7,l7,g7,dv,aV⟩:=bH.at (i:=i) (hlv.le a3) Oi O;refine Ops.q Z (aE kW lA Z e7 Z l7)<|.q Z (ak sY Z Z g7 ((cN aV).trans (dY O)))<|.q Z (eb Z)<|.nil<|h6 _ _<|.ifB Z (fun p8=>?_) (fun p8=>?_)
 ·refine an.seq fun _ ba=>.region<|.q Z (ae Z)<|.nil<|ba _ _<|.rt (by exact aK Z (⟨by first | (rw [iP ‹_›];rfl) | (rw [iP (by simpa using ‹(!live.getD i false)=true›)];rfl) | (rw [vu (by simpa using ‹(!live.getD i false)=false›) (show (N.getD i []).length=j by omega),<- ho];rfl),a3,wf⟩))
 refine an.skip<|h4 _ _<|.seq fun _ bb=>.region<|.q Z (ah Z)<|.q Z (ah Z) ?_;obtain ⟨d1,dw,cS,e9,ck,e2,dV,aY,bC,b3,c3,ar⟩:=bH.at (i:=i) (hcv.le a3) Of O;refine Ops.q Z (aE d9 c0 Z aY Z bC)<|.q Z (ak eB Z Z b3 ((cN ar).trans (cW O))) ?_;have ab:=ce (bs:=[blk (.slice none 0 0)]) a3 (qS (Fresh.nil A A 1).lo nw);refine Ops.l Z (fun _ _ aF _=>ax Z (DP (.slice none 0 0) ([]) (cls.getD i 0) (A.hide [blk (.slice none 0 0)]) A (cz A [blk (.slice none 0 0)]) (ci wf) ((Fresh.nil A A 1).hide (by simp)) Oy (by (try have:=hcm (by have:=hva O;omega));omega)) ?_);rintro bT A17 ⟨ag,bV,a7⟩;have aC:=a7.base ab;have V:=ab.trans ag;refine aF _ _<|.q Z (ae Z)<|.nil<|bb _ _<|.seq fun _ bc=>.seq fun _ bd=>.region<|.q Z (ak lU Z Z (V.get _ _ gm) Z)<|.q Z (cJ Z)<|.q Z (aj oD iy U Z) ?_;refine Ops.q Z (ak jC Z Z (V.get _ _ hb) Z)<|.q Z (ah Z) ?_;obtain ⟨d2,dz,cV,ea,cC,e3,dW,aZ,bD,b5,c4,ay⟩:=bH.at (i:=i) (hnv.le V) On O;refine Ops.q Z (aE mZ fj Z aZ Z bD)<|.q Z (ak kY Z Z b5 ((cN ay).trans (eo O)))<|.q Z (bE (n:=((N.getD i [])).length) d9 Z ((hF i O).le V) O (ee _))<|.q Z (ah Z)<|.nil<|bd _ _<|.block<|.loop (X:=Nat × List UInt8 × Value) (fun ⟨j,o,kv⟩=>[(0,cv),(2,.pointer (some ⟨bl,0,none⟩)),(7,kv),(26,rows.getD i undef),(27,num ((((N.getD i [])).length:Nat):Int)),(28,num ((j:Nat):Int))]) (fun ⟨j,o,kv⟩ B=>(j<=k/\o=qj live N cls i j)/\A.le B/\Fresh A B kv 1 (au o)) (fun ⟨j,o,kv⟩=>k - j) (⟨0,([]) ++ gO (cls.getD i 0).toNat,bT⟩) (Dg Z Z Z Z Z Z) (⟨⟨Nat.zero_le _,by simp [qj]⟩,V,aC⟩) ?_;rintro ⟨j,o,kv⟩ B28 ⟨⟨hj,ho⟩,a5,a0⟩;refine an.wf fun ad=>?_;have hlo:o.length<=13 + 14 * j:=by rw [ho];exact JD
 have hva:=fun q:j < k=>hval i j hi q;simp only [gB] at hva;have hcm:=fun q:((N.getD i []).getD j 0).toNat < cls.length=>hcr _ (bq (d:=(0:Int)) q);refine an.seq fun _ bp=>.region<|.q Z (ca Z Z)<|.nil<|bp _ _<|.seq fun _ br=>.if rfl (fun bP=>?_) (fun bP=>?_)
 ·refine an.skip<|br _ _<|.seq fun _ aa=>.block<|.seq fun _ bu=>.region ?_;obtain ⟨d3,dD,cX,ec,cH,e4,dZ,b0,bL,b6,c7,az⟩:=bH.at (i:=j) ((hF i O).le a5) Of O;refine Ops.q Z (aE d9 c0 Z b0 Z bL)<|.q Z (ak eB Z Z b6 ((cN az).trans (cW O)))<|.q Z (ae Z)<|.nil<|bu _ _<|.seq fun _ bA=>.region<|.q Z (ah Z)<|.l Z (fun _ _ aG _=>aQ (c:=[d8 (32)]) ad rfl (aJ cR jU z5 rfl U U rfl) fun A44 dd a6=>?_);have a9:=a0.le a6.le;have aS:=a5.trans a6.le;refine aG _ _<|.l Z (fun _ _ aI _=>cQ (ys:=[d8 (32)]) rfl rfl cR jU si z5 rfl U cR (fun _ h=>by cases h) a9.own (bZ (n:=1) a6.get Z) rfl rfl (by show (_ + _) * 1<=_;simp only [aN,List.length_cons,List.length_nil];(try simp only [List.length_append,List.length_cons,List.length_nil]);omega) O3 fun A50 a1 a4=>?_);rw [show ([d8 (32)]:List Value)=au [32] from rfl,ek] at a4;obtain ⟨a2,D⟩:=Fresh.grow a9 aS wf a4;refine aI _ _<|.q Z (ae Z)<|.nil<|bA _ _<|.seq fun _ ap=>.region<|.q Z (ah Z)<|.q Z (k8 Z Z)<|.q Z (ah Z)<|.part (t:=37) Z (fun bR=>?_) (fun bR=>?_)
  ·refine Ops.on Z Z<|.q Z (ak ib Z Z (D.get _ _ gl) Z)<|.on Z Z<|.q Z (ah Z)<|.on Z Z ?_;obtain ⟨di,dI,cZ,eg,cK,e5,e0,b1,bM,b8,cc,aA⟩:=bH.at (i:=(((N.getD i [])).getD j 0).toNat) (hlv.le D) (by simp only [bG];have:=hva O;omega) O;refine Ops.q Z (aE kW lA Z b1 (iJ (by have:=hva O;omega)) bM)<|.on Z Z<|.q Z (ak sY Z Z b8 ((cN aA).trans (dY (by have:=hva O;omega))))<|.q Z (aL Z Z)<|.nil<|ap _ _<|.ifB Z (fun bS=>?_) (fun bS=>?_)
   ·refine an.region<|.q Z (ah Z)<|.q Z (ah Z)<|.q Z (ah Z) ?_;obtain ⟨dj,dJ,d0,en,cP,e6,e1,b2,bO,b9,ch,aB⟩:=bH.at (i:=(((N.getD i [])).getD j 0).toNat) (hcv.le D) (by simp only [aH];have:=hva O;omega) O;refine Ops.q Z (aE d9 c0 Z b2 (iJ (by have:=hva O;omega)) bO)<|.q Z (ak eB Z Z b9 ((cN aB).trans (cW (by have:=hva O;omega)))) ?_;have ac:=ce (bs:=[blk a1]) D (qS a2.lo nw);refine Ops.l Z (fun _ _ aP _=>ax Z (DP a1 (o ++ [32]) (cls.getD ((((N.getD i [])).getD j 0).toNat) 0) (A50.hide [blk a1]) A50 (cz A50 [blk a1]) (ci a4.wf) (a2.hide (by simp)) Oy (by (try have:=hcm (by have:=hva O;omega));omega)) ?_);rintro bU A65 ⟨ai,bY,a8⟩;have aD:=a8.base ac;have aT:=ac.trans ai;refine aP _ _<|.q Z (ae Z)<|.nil<|aa _ _<|.region<|.q Z (bz (b:=1) Z Z O)<|.q Z (ah Z)<|.nil ?_;exact ⟨⟨j + 1,(o ++ [32]) ++ gO (cls.getD ((((N.getD i [])).getD j 0).toNat) 0).toNat,bU⟩,Dg Z Z Z Z Z Z,Z,⟨⟨by omega,by first | exact tE ho O (by rw [eE ‹_›];assumption) | exact oE ho O (by rw [eE ‹_›];assumption) | exact oE ho O (mN ‹_›)⟩,aT,aD⟩,O1⟩
   refine an.skip<|aa _ _<|.region<|.q Z (bz (b:=1) Z Z O)<|.q Z (ah Z)<|.nil ?_;exact ⟨⟨j + 1,o ++ [32],a1⟩,Dg Z Z Z Z Z Z,Z,⟨⟨by omega,by first | exact tE ho O (by rw [eE ‹_›];assumption) | exact oE ho O (by rw [eE ‹_›];assumption) | exact oE ho O (mN ‹_›)⟩,D,a2⟩,O1⟩
  refine Ops.off Z Z Z Z<|.off Z Z Z Z<|.off Z Z Z Z<|.off Z Z Z Z<|.q Z (aW Z Z)<|.nil<|ap _ _<|.cond_false Z<|.skip<|aa _ _ ?_;refine an.region<|.q Z (bz (b:=1) Z Z O)<|.q Z (ah Z)<|.nil ?_;exact ⟨⟨j + 1,o ++ [32],a1⟩,Dg Z Z Z Z Z Z,Z,⟨⟨by omega,by first | exact tE ho O (by rw [eE ‹_›];assumption) | exact oE ho O (by rw [eE ‹_›];assumption) | exact oE ho O (mN ‹_›)⟩,D,a2⟩,O1⟩
 refine an.exit<|bc _ _<|.seq fun _ bB=>.region<|.q Z (ah Z)<|.l Z (fun _ _ aR _=>d5 (s:=o) Z cR u9 u5 a0.slc ?_);refine aR _ _<|.q Z (ae Z)<|.nil<|bB _ _<|.rt (by exact aK Z (⟨by first | (rw [iP ‹_›];rfl) | (rw [iP (by simpa using ‹(!live.getD i false)=true›)];rfl) | (rw [vu (by simpa using ‹(!live.getD i false)=false›) (show (N.getD i []).length=j by omega),<- ho];rfl),a5,ad⟩))

theorem Qz (c:Int) (x:Nat) (bp bc kc:Nat) (wc:Bool) (cv:Value) (cls:List Int) (bl bm kl km:Nat) (wl wm:Bool) (lv:Value) (live:List Bool) (b:Nat) (rwb:Bool) (capb k:Nat) (av nv fv bv:Value) (acc:List Bool) (N:List (List Int)) (rows:List Value) (A:AH) (gl:A.get bl=some (.row wl [lv] kl)) (gm:A.get bm=some (.row wm [.pointer (some ⟨b,0,none⟩)] km)) (hlv:bH A 1 lv (cg live)) (hll:live.length=N.length) (hok:Ak k acc N) (hb:A.get b=some (.row rwb [num (k:Int),av,nv,fv,bv] capb)) (hav:bH A 1 av (cg acc)) (hnv:bH A 1 nv (d6 rows)) (hrl:rows.length=N.length) (hF:∀ i,i < N.length->bH A 1 (rows.getD i undef) (cI (N.getD i [])))(hmp:qT A bp cls) (gc:A.get bc=some (.row wc [cv] kc)) (hcv:bH A 1 cv (cI cls)) (hcl:cls.length=N.length) (hc:c ∈ cls) (hx:x < k):bF Tryz.prog 185 #[num (c),num ((x:Nat):Int),.pointer (some ⟨bm,0,none⟩),.pointer (some ⟨bp,0,none⟩),.pointer (some ⟨bl,0,none⟩),.pointer (some ⟨bc,0,none⟩)] A (fun v A1=>v=.tuple #[num ((jf live N cls c x).getD 0),.bool (jf live N cls c x).isSome]/\A.le A1/\A1.wf):=by
 refine TA Tryz.call185 Tryz.func185 Z Tryz.results185 Tryz.ntmps185 Z (fun wf=>?_);have h:=AH.le.refl A;obtain ⟨⟨b2,b3⟩,hal,hnl,hrow,hval⟩:=hok;obtain ⟨wp,kp,mm,w2,es,ck,E,gp,gmm,hME,hMM⟩:=hmp;have hmf:=xh hc;have hrm:=hrow (jc cls c) O;have hvm:=hval (jc cls c) x O hx;simp only [gB] at hvm;refine an.seq fun _ h2=>.region<|.q Z (ae Z)<|.q Z (ae Z)<|.nil<|h2 _ _<|.seq fun _ h4=>.drawn [0,1,2,3,4,5,9,6,7,8,10,11,12] mixed Y Y Z ?_;have ac:=bQ (off:=0) (h.get _ _ gm) (show _=some (.pointer (some ⟨b,0,none⟩)) from rfl);refine be.q Z Z Z (ak lU Z Z (h.get _ _ gm) Z)<|.q Z Z Z (cJ Z)<|.q Z Z Z (aj oD iy U Z) ?_;have ad:=bQ (off:=2) (h.get _ _ hb) (show _=some (nv) from rfl);refine be.q Z Z Z (ak jC Z Z (h.get _ _ hb) Z)<|.q Z Z Z (ak CZ Z Z (h.get _ _ gp) Z)<|.q Z Z Z (ah Z)<|.q Z Z Z (ah Z)<|.l Z Z Z (fun _ _ ag _=>z8 Z Z CG u3 z3 (h.get _ _ gmm) hME (hMM _ hc) ?_);refine ag _ _ (aU.list (L:=[(⟨b,2,none⟩,nv),(⟨bm,0,none⟩,.pointer (some ⟨b,0,none⟩))]) Y (al ad (al ac bf))) ?_;obtain ⟨b9,f9,bB,r9,bA,n9,k9,e9,l9,g9,aY,a1⟩:=bH.at (i:=jc cls c) (hnv.le h) On O;refine be.q Z Z Z (aE mZ fj Z e9 Z l9)<|.q Z Z Z (ak kY Z Z g9 ((cN a1).trans (eo O))) ?_;obtain ⟨aS,aZ,aI,bd,aD,b8,b5,a2,ai,a5,aA,V⟩:=bH.at (i:=x) ((hF (jc cls c) O).le h) Of O;refine be.q Z Z Z (aE d9 c0 Z a2 Z ai)<|.q Z Z Z (ak eB Z Z a5 ((cN V).trans (cW O)))<|.q Z Z Z (ae Z)<|.done<|h4 _ _<|.seq fun _ a8=>.seq fun _ D=>.region<|.q Z (ah Z)<|.q Z (kO Z Z) ?_;refine Ops.q Z (ah Z)<|.part (t:=25) Z (fun ay=>?_) (fun ay=>?_)
 ·refine Ops.off Z Z Z Z<|.off Z Z Z Z<|.off Z Z Z Z<|.off Z Z Z Z<|.off Z Z Z Z<|.q Z (aL Z Z)<|.nil<|D _ _<|.cond_true Z<|.seq fun _ a9=>?_;refine an.region<|.q Z (ae Z)<|.q Z (ae Z)<|.nil<|a9 _ _<|.rt (by exact aK Z (⟨by first | (rw [ru (rn ‹_›)];rfl) | (rw [ru (by rw [eE O];simpa using ‹(!live.getD _ false)=true›)];rfl) | (rw [xz (by rw [eE O];simpa using ‹(!live.getD _ false)=false›)];rfl),h,wf⟩))
 refine Ops.on Z Z<|.q Z (ak ib Z Z (h.get _ _ gl) Z)<|.on Z Z<|.q Z (ah Z)<|.on Z Z ?_;obtain ⟨aT,b0,aP,br,aF,ba,b6,a3,ap,a6,aB,X⟩:=bH.at (i:=(((N.getD (jc cls c) [])).getD x 0).toNat) (hlv.le h) Oi O;refine Ops.q Z (aE kW lA Z a3 (iJ O) ap)<|.on Z Z<|.q Z (ak sY Z Z a6 ((cN X).trans (dY O)))<|.on Z Z<|.q Z (eb Z)<|.q Z (aW Z Z)<|.nil<|D _ _<|.ifB Z (fun az=>?_) (fun az=>?_)
 ·refine an.seq fun _ aa=>.region<|.q Z (ae Z)<|.q Z (ae Z)<|.nil<|aa _ _<|.rt (by exact aK Z (⟨by first | (rw [ru (rn ‹_›)];rfl) | (rw [ru (by rw [eE O];simpa using ‹(!live.getD _ false)=true›)];rfl) | (rw [xz (by rw [eE O];simpa using ‹(!live.getD _ false)=false›)];rfl),h,wf⟩))
 refine an.skip<|a8 _ _<|.seq fun _ ab=>.region<|.q Z (ak kY Z Z (h.get _ _ gc) Z)<|.q Z (ah Z) ?_;obtain ⟨aV,b1,aR,bu,aG,bb,b7,a4,ar,a7,aC,a0⟩:=bH.at (i:=(((N.getD (jc cls c) [])).getD x 0).toNat) (hcv.le h) Of O;refine Ops.q Z (aE d9 c0 Z a4 (iJ O) ar)<|.q Z (ak eB Z Z a7 ((cN a0).trans (cW O)))<|.q Z (ae Z)<|.q Z (ae Z)<|.nil<|ab _ _<|.rt (by exact aK Z (⟨by first | (rw [ru (rn ‹_›)];rfl) | (rw [ru (by rw [eE O];simpa using ‹(!live.getD _ false)=true›)];rfl) | (rw [xz (by rw [eE O];simpa using ‹(!live.getD _ false)=false›)];rfl),h,wf⟩))

theorem QC (c:Int) (bp bm km:Nat) (wm:Bool) (cls:List Int) (b:Nat) (rwb:Bool) (capb k:Nat) (av nv fv bv:Value) (acc:List Bool) (N:List (List Int)) (rows:List Value) (A:AH) (gm:A.get bm=some (.row wm [.pointer (some ⟨b,0,none⟩)] km)) (hok:Ak k acc N) (hb:A.get b=some (.row rwb [num (k:Int),av,nv,fv,bv] capb)) (hav:bH A 1 av (cg acc)) (hnv:bH A 1 nv (d6 rows)) (hrl:rows.length=N.length) (hF:∀ i,i < N.length->bH A 1 (rows.getD i undef) (cI (N.getD i []))) (hmp:qT A bp cls) (hcl:cls.length=N.length) (hc:c ∈ cls):bF Tryz.prog 186 #[num (c),.pointer (some ⟨bm,0,none⟩),.pointer (some ⟨bp,0,none⟩)] A (fun v A1=>v=.bool (acc.getD (jc cls c) false)/\A.le A1/\A1.wf):=by
 refine tm Tryz.call186 Tryz.func186 Z Tryz.results186 Tryz.ntmps186 Z (fun wf=>?_);have h:=AH.le.refl A;obtain ⟨⟨a2,a3⟩,hal,hnl,hrow,hval⟩:=hok;obtain ⟨wp,kp,mm,w2,es,ck,E,gp,gmm,hME,hMM⟩:=hmp;have hmf:=xh hc;refine an.seq fun _ h2=>.region<|.q Z (ae Z)<|.nil<|h2 _ _<|.seq fun _ h4=>.drawn [0,1,2,3,4,5,6,7,8,9] mixed Y Y Z ?_;have V:=bQ (off:=0) (h.get _ _ gm) (show _=some (.pointer (some ⟨b,0,none⟩)) from rfl);refine be.q Z Z Z (ak lU Z Z (h.get _ _ gm) Z)<|.q Z Z Z (cJ Z)<|.q Z Z Z (aj i8 ie U Z) ?_;have X:=bQ (off:=1) (h.get _ _ hb) (show _=some (av) from rfl);refine be.q Z Z Z (ak ib Z Z (h.get _ _ hb) Z)<|.q Z Z Z (ak CZ Z Z (h.get _ _ gp) Z)<|.q Z Z Z (ah Z)<|.l Z Z Z (fun _ _ a0 _=>z8 Z Z CG u3 z3 (h.get _ _ gmm) hME (hMM _ hc) ?_);refine a0 _ _ (aU.list (L:=[(⟨b,1,none⟩,av),(⟨bm,0,none⟩,.pointer (some ⟨b,0,none⟩))]) Y (al X (al V bf))) ?_;obtain ⟨b9,f9,a5,r9,a4,n9,k9,e9,l9,g9,a1,D⟩:=bH.at (i:=jc cls c) (hav.le h) Oi O;refine be.q Z Z Z (aE kW lA Z e9 Z l9)<|.q Z Z Z (ak sY Z Z g9 ((cN D).trans (dY O)))<|.q Z Z Z (ae Z)<|.done<|h4 _ _<|.rt (by exact aK Z (⟨Z,h,wf⟩))

theorem OB (b:Nat) (rwb:Bool) (capb k:Nat) (av nv fv bv:Value) (acc:List Bool) (N:List (List Int)) (rows:List Value) (A:AH) (hok:Ak k acc N) (hN:N.length<=20000) (hb:A.get b=some (.row rwb [num (k:Int),av,nv,fv,bv] capb)) (hav:bH A 1 av (cg acc)) (hnv:bH A 1 nv (d6 rows)) (hrl:rows.length=N.length) (hF:∀ i,i < N.length->bH A 1 (rows.getD i undef) (cI (N.getD i []))):bF Tryz.prog 147 #[.pointer (some ⟨b,0,none⟩)] A (fun v A1=>∃ av2 nv2 rows2,v=.tuple #[.agg #[num (k:Int),num ((0:Nat):Int),av2,nv2],.bool true]/\A.le A1/\A1.wf/\Fresh A A1 av2 1 (cg (wB k acc N).1)/\Fresh A A1 nv2 1 (d6 rows2)/\gy A A1 rows2 (wB k acc N).2/\bw av2 nv2/\aM av2 rows2/\aM nv2 rows2):=by
  refine enterM (e:=[(0,.pointer (some ⟨b,0,none⟩))]) (args:=[.pointer (some ⟨b,0,none⟩)]) Tryz.call147 Tryz.func147 Z Tryz.results147 Tryz.ntmps147 Z Z Z (fun wf=>?_)
  have kD:=AH.le.refl A
  have df_:Rf A A []:=⟨List.Pairwise.nil,fun _ h=>by cases h⟩
  have bU:=hok
  obtain ⟨⟨r9,dO⟩,hal,hnl,hrow,hval⟩:=hok
  refine an.seq fun K1 h2=>.region<|.l Z (fun _ _ p8 _=>dy wf rfl rfl fun A5 b4 fO=>?_)
  have pL:=Nat.le_trans kD.n fO.lo
  have ha:=kD.trans fO.le
  refine p8 _ _<|.l Z (fun _ _ p9 _=>cu fO.wf Ii rfl fun A10 b9 bu=>?_)
  have dW:=aX wf (Nat.le_trans ha.n bu.lo)
  have pP:=Nat.le_trans ha.n bu.lo
  have gs:=bu.le.get _ _ fO.get
  have e2:=ha.trans bu.le
  refine p9 _ _<|.q Z (ae Z)<|.nil<|h2 _ _<|.seq fun K14 oK=>.region<|.q Z (ak lU Z Z gs Z)<|.q Z (cJ Z)<|.q Z (aj wR c0 U Z)<|.q Z (ak eB Z Z (e2.get _ _ hb) Z) ?_
  refine Ops.q Z (dr Z (bI Sh Ii J6 Z))<|.l Z (fun _ _ nj _=>cu bu.wf Ii rfl fun A18 cC bA=>?_)
  have eG:=ne_new bu.wf gs bA.lo
  have eL:=ne_new bu.wf bu.get bA.lo
  have gg:=aX wf (Nat.le_trans e2.n bA.lo)
  have pi:=Nat.le_trans e2.n bA.lo
  have oN:=bA.le.get _ _ gs
  have oP:=bA.le.get _ _ bu.get
  have nJ:=e2.trans bA.le
  refine nj _ _<|.l Z (fun _ _ nk _=>bh (cs:=[num ((k:Nat):Int),num ((0:Nat):Int),.slice none 0 0,.slice none 0 0]) (c':=[num ((k:Nat):Int),num ((0:Nat):Int),.slice none 0 0,.slice none 0 0]) bA.wf rfl rfl rfl rfl jx bA.get (Nat.le_of_ble_eq_true rfl) rfl rfl fun A24 b6=>?_)
  have h7:=b6.keep _ _ eG oN
  have k7:=b6.keep _ _ eL oP
  have d2:=aw nJ wf gg b6.n b6.keep
  refine nk _ _<|.nil<|oK _ _<|.seq fun K29 oQ=>.region<|.q Z (ak lU Z Z h7 Z)<|.q Z (cJ Z)<|.q Z (aj i8 ie U Z)<|.q Z (ak ib Z Z (d2.get _ _ hb) Z)<|.q Z (bE (n:=acc.length) kW Z (hav.le d2) O (eP _)) ?_
  refine Ops.l Z (fun _ _ nl _=>lQ (n:=acc.length) (k:=acc.length) b6.wf d2 rfl rfl kW lA z4 Jv rfl (Nat.le_refl _) (by show 1 * _<=_;omega) O fun A33 a2 aD eX=>?_)
  rw [m7] at eX
  have cK:=ne_new b6.wf h7 aD.lo
  have cS:=ne_new b6.wf k7 aD.lo
  have c4:=ne_new b6.wf b6.get aD.lo
  have pj:=Nat.le_trans d2.n aD.lo
  have k9:=aD.le.get _ _ h7
  have kc:=aD.le.get _ _ k7
  have kk:=aD.le.get _ _ b6.get
  have f6:=d2.trans aD.le
  refine nl _ _<|.l Z (fun _ _ nn _=>cu aD.wf TG rfl fun A42 a4 aF=>?_)
  have cP:=ne_new aD.wf k9 aF.lo
  have cV:=ne_new aD.wf kc aF.lo
  have c7:=ne_new aD.wf kk aF.lo
  have f7:=eX.own.ne_new aD.wf aF.lo
  have ez:=aX wf (Nat.le_trans f6.n aF.lo)
  have pl:=Nat.le_trans f6.n aF.lo
  have oR:=aF.le.get _ _ k9
  have oS:=aF.le.get _ _ kc
  have oV:=aF.le.get _ _ kk
  have kV:=eX.le aF.le
  have nK:=f6.trans aF.le
  refine nn _ _<|.l Z (fun _ _ nq _=>bh (cs:=[.slice (some ⟨a2,0,none⟩) acc.length acc.length]) (c':=[.slice (some ⟨a2,0,none⟩) acc.length acc.length]) aF.wf rfl rfl rfl rfl ie aF.get (Nat.le_of_ble_eq_true rfl) rfl rfl fun A51 bO=>?_)
  have h8:=bO.keep _ _ cP oR
  have kl:=bO.keep _ _ cV oS
  have km:=bO.keep _ _ c7 oV
  have gc:=kV.keep bO.keep f7
  have nL:=aw nK wf ez bO.n bO.keep
  refine nq _ _<|.nil<|oQ _ _<|.seq fun K58 oW=>.seq fun K60 oX=>.region<|.q Z (ak lU Z Z h8 Z)<|.l Z (fun _ _ nB _=>ax Z (QH b A51) ?_)
  rintro rT A64 ⟨bm,rfl,bR,ey,dS,b8⟩
  have oY:=bR.get _ _ h8
  have oZ:=bR.get _ _ kl
  have p0:=bR.get _ _ km
  have fE:=bR.get _ _ bO.get
  have ge:=gc.le bR
  have nM:=nL.trans bR
  have hrow:=dS
  have hno:=b8
  have ht:b4 ≠ bm:=fun z=>by have q0:=h8;rw [z,b8] at q0;cases q0
  have hu:b9 ≠ bm:=fun z=>by have q0:=kl;rw [z,b8] at q0;cases q0
  have hg:cC ≠ bm:=fun z=>by have q0:=km;rw [z,b8] at q0;cases q0
  have di:a4 ≠ bm:=fun z=>by have q0:=bO.get;rw [z,b8] at q0;cases q0
  have nO:blk (.slice (some ⟨a2,0,none⟩) acc.length acc.length) ≠ some bm:=yk gc.own b8
  refine nB _ _<|.nil<|oX _ _<|.block ?_
  have aS:=ct.full fE ey
  have hLM:=ce (bs:=[some a4,blk (.slice (some ⟨a2,0,none⟩) acc.length acc.length)]) nM (sh ez (qS ge.lo nw))
  have k6:Fresh (A64.hide [some a4,blk (.slice (some ⟨a2,0,none⟩) acc.length acc.length)]) A64 (.slice (some ⟨a2,0,none⟩) acc.length acc.length) 1 (cg (List.replicate acc.length false)):=ge.hide (by simp)
  have dZ:=bW (bs:=[some a4,blk (.slice (some ⟨a2,0,none⟩) acc.length acc.length)]) oY (o9 (cP) (mQ (fun q=>by cases q;exact cK Z) lJ))
  have e0:=bW (bs:=[some a4,blk (.slice (some ⟨a2,0,none⟩) acc.length acc.length)]) oZ (o9 (cV) (mQ (fun q=>by cases q;exact cS Z) lJ))
  have d1:=bW (bs:=[some a4,blk (.slice (some ⟨a2,0,none⟩) acc.length acc.length)]) p0 (o9 (c7) (mQ (fun q=>by cases q;exact c4 Z) lJ))
  have br:=bW (bs:=[some a4,blk (.slice (some ⟨a2,0,none⟩) acc.length acc.length)]) dS (o9 (di.symm) (mQ nO lJ))
  generalize hM0:(A64.hide [some a4,blk (.slice (some ⟨a2,0,none⟩) acc.length acc.length)])=M at aS hLM k6 dZ e0 d1 br
  have hvI:∀ (k:Nat) (B:AH),(M.le B/\B.get a4=some (.row true [.slice (some ⟨a2,0,none⟩) acc.length acc.length] 1)/\Fresh M B (.slice (some ⟨a2,0,none⟩) acc.length acc.length) 1 (cg (jH (List.replicate acc.length false) ((fH acc N).take k))))->∃ v cap,B.get a4=some (.row true [v] cap)/\∀ b,blk v=some b->∃ o,B.get b=some o:=fun k B ⟨_,g1,f1⟩=>⟨_,1,g1,fun b hb=>f1.own.blkget hb⟩
  refine an.rangeOwnP (M:=M) a4 (fH acc N).length (fun k=>[num ((fH acc N).getD k 0)]) (fun k B=>(M.le B/\B.get a4=some (.row true [.slice (some ⟨a2,0,none⟩) acc.length acc.length] 1)/\Fresh M B (.slice (some ⟨a2,0,none⟩) acc.length acc.length) 1 (cg (jH (List.replicate acc.length false) ((fH acc N).take k))))) (fun k=>[(6,num ((fH acc N).getD k 0)),(0,.pointer (some ⟨b,0,none⟩)),(1,.pointer (some ⟨b4,0,none⟩)),(2,.pointer (some ⟨b9,0,none⟩)),(15,.pointer (some ⟨b,0,none⟩)),(16,.pointer (some ⟨b,0,none⟩)),(17,.pointer (some ⟨b,0,none⟩)),(4,.pointer (some ⟨cC,0,none⟩)),(20,.pointer (some ⟨b,0,none⟩)),(21,.pointer (some ⟨b,0,none⟩)),(22,.pointer (some ⟨b,1,none⟩)),(5,.pointer (some ⟨a4,0,none⟩)),(26,.pointer (some ⟨b,0,none⟩))]) Z Tryz.call199 (fun _=>rfl) U (ey _ _ fE) aS ?_ hvI ?_ ?_ ?_ ?_ ?_
  · rintro k B B2 ⟨i1,g1,f1⟩ dV pa hk
    exact ⟨⟨Nat.le_trans i1.n pa,fun b o h=>hk b o (.inl (Nat.lt_of_lt_of_le (aS.wf b o h) aS.le.n)) (i1.get _ _ h)⟩,hk _ _ (.inr (.inl rfl)) g1,f1.owk (fun b o hb h=>hk b o (.inr (.inr ⟨_,1,g1,hb⟩)) h)⟩
  · exact ⟨aS.le,fE,by rw [List.take_zero];exact k6⟩
  · intro pp J2 B M4 hnB hleB wfB eA hJI n9 eY hyd
    obtain ⟨_,gq,fq⟩:=hJI 0 B eY
    have s3:M.le (B.hide [some a4,blk (.slice (some ⟨a2,0,none⟩) acc.length acc.length)]):=ce (hJI 0 B eY).1 (fun b hb=>by simp only [List.mem_cons,List.not_mem_nil,or_false,Option.some.injEq] at hb;rcases hb with rfl | hb;exact aS.ow _ (.inl Z);exact fq.lo b hb.symm)
    exact (OE a4 pp J2 b rwb capb k av nv fv bv acc N rows _ B bm _ _ (ct.full gq wfB) eY (s3.get _ _ br) bU (s3.get _ _ (hLM.get _ _ hb)) ((hav.le hLM).le s3) ((hnv.le hLM).le s3) hrl (fun i hi=>((hF i hi).le hLM).le s3) (fun i C C2 j1 j2 j3 j4=>n9 i C C2 j1 j2 j3 j4) (fun i C j1=>hvI i C (hJI i C j1)) (fun k C M2=>hyd k C M2)).mono (fun v C h=>⟨h.1,h.2.1,h.2.2.mono (eA.sub gq) eA.wf⟩)
  · intro F k B hF_ hk_
    refine dU.wf fun wfB_=>?_
    have hF:=hF_
    refine dU.region hF (by repeat' first | with_reducible exact ic | with_reducible apply nY | with_reducible apply kr) Y<|.q Z (ae Z)<|.nil ?_
    exact ⟨ao.cons Z<|ao.cons Z<|ao.cons Z<|ao.cons Z<|ao.cons Z<|ao.cons Z<|ao.cons Z<|ao.cons Z<|ao.cons Z<|ao.cons Z<|ao.cons Z<|ao.cons Z<|ao.cons Z<|ao.nil _,Z,AH.le.refl _,wfB_⟩
  · rintro F k B M4 hF hk_ ⟨i1,g1,f1⟩ wfB hnB eA
    have s3:M.le (B.hide [some a4,blk (.slice (some ⟨a2,0,none⟩) acc.length acc.length)]):=ce i1 (fun b hb=>by simp only [List.mem_cons,List.not_mem_nil,or_false,Option.some.injEq] at hb;rcases hb with rfl | hb;exact aS.ow _ (.inl Z);exact f1.lo b hb.symm)
    have s4:=eA.sub g1
    have leX:=cz B [some a4,blk (.slice (some ⟨a2,0,none⟩) acc.length acc.length)]
    have wfX:(B.hide [some a4,blk (.slice (some ⟨a2,0,none⟩) acc.length acc.length)]).wf:=ci wfB
    have noX:(B.hide [some a4,blk (.slice (some ⟨a2,0,none⟩) acc.length acc.length)]).get a4=none:=cn (by simp)
    have fX:Fresh (B.hide [some a4,blk (.slice (some ⟨a2,0,none⟩) acc.length acc.length)]) B (.slice (some ⟨a2,0,none⟩) acc.length acc.length) 1 (cg (jH (List.replicate acc.length false) ((fH acc N).take k))):=f1.hide (by simp)
    have hlr:=yR hal _ (bq (d:=(0:Int)) hk_)
    have hml:(jH (List.replicate acc.length false) ((fH acc N).take k)).length=acc.length:=by rw [mg];simp
    generalize hMX:B.hide [some a4,blk (.slice (some ⟨a2,0,none⟩) acc.length acc.length)]=MX at s3 s4 leX wfX noX fX
    refine dU.block<|.region hF (by repeat' first | with_reducible exact ic | with_reducible apply nY | with_reducible apply kr) Y<|.q Z (ak ib Z Z g1 Z)<|.q Z (ah Z) ?_
    obtain ⟨r3,rt,r6,pF,qR,k4,kC,oI,rV,pv,rS,pe⟩:=fX.at1 (x:=((fH acc N).getD k 0).toNat) Oi
    rw [bG] at kC
    refine Ops.q Z (aE kW lA Z k4 (iJ O) (by rw [kC];omega))<|.l Z (fun _ _ nC _=>bh (off:=((fH acc N).getD k 0).toNat) (c':=pF.set (((fH acc N).getD k 0).toNat) (.bool (true))) wfB rfl (by simp) rfl rfl lA oI (by show (((fH acc N).getD k 0).toNat) + 1<=_;omega) rfl rfl fun A75 dj=>?_)
    have kp:=dj.keep _ _ (fun q=>f7 (by rw [k4];exact congrArg some q.symm)) g1
    have gf:=pe (.bool (true)) A75 dj
    rw [kn] at gf
    have hd:=aw leX wfX pv dj.n dj.keep
    refine nC _ _<|.nil ?_
    have fe:=cy gf (congrArg cg (Fz hk_))
    exact ⟨⟨s3.trans hd,kp,fe.base s3⟩,dj.wf,ct.mono ⟨hd,wfX,fun b hb=>by rcases hb.val kp with rfl | q;exact noX;exact fe.lo b q⟩ s4 eA.wf⟩
  · rintro B D0 ⟨i1,g1,f1⟩ wfB hnD hnB gD hoD hPM
    have leB:=hLM.trans i1
    obtain ⟨LV,hLV⟩:∃ LV,LV=im acc N:=⟨_,rfl⟩
    have frB:=cy (f1.base hLM) (congrArg cg (show jH (List.replicate acc.length false) ((fH acc N).take (fH acc N).length)=LV by rw [List.take_length,hLV];exact Fy hal))
    have hlfl:LV.length=acc.length:=by rw [hLV];exact Fw
    have bY:=i1.get _ _ dZ
    have cZ:=i1.get _ _ e0
    have bV:=i1.get _ _ d1
    have f2:=i1.get _ _ br
    have hlA:A.n<=D0:=Nat.le_trans hLM.n (Nat.le_trans aS.le.n hnD)
    have nN:D0 ≠ b4:=by have:=aS.wf _ _ dZ;have:=aS.le.n;omega
    have aG:D0 ≠ b9:=by have:=aS.wf _ _ e0;have:=aS.le.n;omega
    have kK:D0 ≠ cC:=by have:=aS.wf _ _ d1;have:=aS.le.n;omega
    have kL:D0 ≠ a4:=by have:=ey _ _ fE;omega
    have hs:D0 ≠ bm:=by have:=aS.wf _ _ br;have:=aS.le.n;omega
    have nvD:blk (.slice (some ⟨a2,0,none⟩) acc.length acc.length) ≠ some D0:=fun q=>hoD (.inr ⟨_,_,g1,q⟩)
    refine oW _ _<|.seq fun K80 p5=>.seq fun K82 kv=>.region<|.q Z (ak ib Z Z g1 Z)<|.q Z (bE (n:=LV.length) kW Z frB.slc O (eP _))<|.q Z (kb (b:=0) Z Z)<|.q Z (ah Z)<|.part (t:=35) Z (fun pA=>?_) (fun pA=>?_)
    ·
      refine Ops.off Z Z Z Z<|.off Z Z Z Z<|.off Z Z Z Z<|.off Z Z Z Z<|.q Z (aL Z Z)<|.nil<|kv _ _<|.cond_true Z<|.seq fun K85 p6=>.region ?_
      refine Ops.q Z (aq o7 jx Z Z bV Z)<|.l Z (fun _ _ nD _=>bh (cs:=[num ((k:Nat):Int),num ((0:Nat):Int),.slice none 0 0,.slice none 0 0]) (c':=[num ((k:Nat):Int),num ((0:Nat):Int),.slice none 0 0,.slice none 0 0]) wfB rfl rfl rfl rfl jx cZ (Nat.le_of_ble_eq_true rfl) rfl rfl fun A88 ex=>?_)
      have p7:=ex.keep _ _ aG gD
      have he:=aw leB wf dW ex.n ex.keep
      refine nD _ _<|.q Z (ae Z)<|.nil<|p6 _ _<|.ret ?_
      (repeat first | with_reducible refine bJ ?_ | with_reducible refine bx ?_);(repeat first | with_reducible refine eF ?_ | with_reducible refine d7 ?_ | with_reducible refine dH U ?_ | with_reducible refine dK ?_ | with_reducible refine db ?_);have cH:LV.getD 0 false=false:=(by first | assumption | exact vy OF | simpa using ‹(!LV.getD 0 false)=true›);refine ⟨[D0],rfl,(by simp),(fun E hE=>by rw [List.mem_singleton] at hE;subst hE;exact p7),[.agg #[num ((k:Nat):Int),num ((0:Nat):Int),.slice none 0 0,.slice none 0 0],.bool (true)],fun A2 dV eC dO=>?_⟩;have hkD:∀ b o,b ≠ D0->A88.get b=some o->A2.get b=some o:=fun b o hb h=>dO b o (by simpa using hb) h;exact ⟨ew o7 jx Z (hkD _ _ aG.symm ex.get) Z (ff Z fY),⟨_,Z,_,_,[],Z,⟨by rw [eC];exact he.n,fun b o h=>hkD b o (by have:=wf _ _ h;omega) (he.get _ _ h)⟩,dV,cy (Fresh.nil _ _ _) (congrArg cg (show []=_ from by rw [sw (by rw [<- hLV];exact cH)])),Fresh.nil _ _ _,lI gy.nil (by rw [sw (by rw [<- hLV];exact cH)]),bw.nil,aM.nil,aM.nil⟩⟩
    ·
      refine Ops.on Z Z<|.q Z (ak ib Z Z g1 Z)<|.on Z Z ?_
      obtain ⟨r4,r7,qV,rR,qU,rv,rr,oF,pf,oJ,qd,kM⟩:=bH.at (i:=0) frB.slc Oi O
      refine Ops.q Z (aE kW lA Z oF Z pf)<|.on Z Z<|.q Z (ak sY Z Z oJ ((cN kM).trans (dY O)))<|.on Z Z<|.q Z (eb Z)<|.q Z (aW Z Z)<|.nil<|kv _ _<|.ifB Z (fun pE=>?_) (fun pE=>?_)
      ·
        refine an.seq fun K99 l2=>.region<|.q Z (aq o7 jx Z Z bV Z)<|.l Z (fun _ _ hL _=>bh (cs:=[num ((k:Nat):Int),num ((0:Nat):Int),.slice none 0 0,.slice none 0 0]) (c':=[num ((k:Nat):Int),num ((0:Nat):Int),.slice none 0 0,.slice none 0 0]) wfB rfl rfl rfl rfl jx cZ (Nat.le_of_ble_eq_true rfl) rfl rfl fun A102 d0=>?_)
        have l3:=d0.keep _ _ aG gD
        have fL:=aw leB wf dW d0.n d0.keep
        refine hL _ _<|.q Z (ae Z)<|.nil<|l2 _ _<|.ret ?_
        (repeat first | with_reducible refine bJ ?_ | with_reducible refine bx ?_);(repeat first | with_reducible refine eF ?_ | with_reducible refine d7 ?_ | with_reducible refine dH U ?_ | with_reducible refine dK ?_ | with_reducible refine db ?_);have cH:LV.getD 0 false=false:=(by first | assumption | exact vy OF | simpa using ‹(!LV.getD 0 false)=true›);refine ⟨[D0],rfl,(by simp),(fun E hE=>by rw [List.mem_singleton] at hE;subst hE;exact l3),[.agg #[num ((k:Nat):Int),num ((0:Nat):Int),.slice none 0 0,.slice none 0 0],.bool (true)],fun A2 dV eC dO=>?_⟩;have hkD:∀ b o,b ≠ D0->A102.get b=some o->A2.get b=some o:=fun b o hb h=>dO b o (by simpa using hb) h;exact ⟨ew o7 jx Z (hkD _ _ aG.symm d0.get) Z (ff Z fY),⟨_,Z,_,_,[],Z,⟨by rw [eC];exact fL.n,fun b o h=>hkD b o (by have:=wf _ _ h;omega) (fL.get _ _ h)⟩,dV,cy (Fresh.nil _ _ _) (congrArg cg (show []=_ from by rw [sw (by rw [<- hLV];exact cH)])),Fresh.nil _ _ _,lI gy.nil (by rw [sw (by rw [<- hLV];exact cH)]),bw.nil,aM.nil,aM.nil⟩⟩
      ·
        refine an.skip<|p5 _ _<|.seq fun K111 l4=>?_
        have hpos:0 < acc.length:=by rw [<- hlfl];exact Nat.pos_of_ne_zero ‹¬ LV.length=0›
        refine an.region<|.q Z (ak lU Z Z bY Z)<|.q Z (cJ Z)<|.q Z (aj i8 ie U Z)<|.q Z (ak ib Z Z (leB.get _ _ hb) Z)<|.q Z (bE (n:=acc.length) kW Z (hav.le leB) O (eP _))<|.q Z (ll Z Z)<|.q Z (ll Z Z) ?_
        have f0:LV.length=N.length:=by rw [hlfl,hal]
        refine Ops.l Z (fun _ _ hM _=>ax Z (Gy acc.length 182 183 #[.pointer (some ⟨a4,0,none⟩),.pointer (some ⟨b4,0,none⟩)] #[.pointer (some ⟨a4,0,none⟩),.pointer (some ⟨b4,0,none⟩)] (QO acc LV) (np LV N) B O (fun i B hi le wfB=>Qx i a4 b4 _ _ _ _ (.slice (some ⟨a2,0,none⟩) acc.length acc.length) LV b rwb capb k av nv fv bv acc N rows B (le.get _ _ g1) (le.get _ _ bY) (frB.slc.le le) f0 bU ((leB.trans le).get _ _ hb) (hav.le (leB.trans le)) (hnv.le (leB.trans le)) hrl (fun i hi=>(hF i hi).le (leB.trans le)) O) (fun cls cv i B hcv h1 h2 hi le wfB=>Qy i cls cv a4 b4 _ _ _ _ (.slice (some ⟨a2,0,none⟩) acc.length acc.length) LV b rwb capb k av nv fv bv acc N rows B (le.get _ _ g1) (le.get _ _ bY) (frB.slc.le le) f0 bU ((leB.trans le).get _ _ hb) (hav.le (leB.trans le)) (hnv.le (leB.trans le)) hrl (fun i hi=>(hF i hi).le (leB.trans le)) O hcv O (by rw [<- hal];exact h2)) (ye LV acc.length) (Ew _ (fun i hi h=>JJ i hi (by rw [<- hLV];exact h))) (fun cls _ _=>EB _ cls) (fun cls h1 h2 h3 i j hi hj h=>MD (N:=N) O _ cls h1 h2 h3 i j hi hj h)) ?_)
        rintro r1 A115 ⟨aR,aB,b7⟩
        have gl:=aR.get _ _ bY
        have gm:=aR.get _ _ cZ
        have gp:=aR.get _ _ bV
        have gA:=aR.get _ _ g1
        have gC:=aR.get _ _ f2
        have gE:=aR.get _ _ gD
        have fi:=frB.le aR
        have e1:=leB.trans aR
        have fl:=b7.base leB
        have iD:=b7.ne wfB bY
        have iF:=b7.ne wfB cZ
        have iH:=b7.ne wfB bV
        have iN:=b7.ne wfB g1
        have iS:=b7.ne wfB gD
        refine hM _ _<|.l Z (fun _ _ hO _=>cu aB Iq rfl fun A134 bS a3=>?_)
        have e9:=ne_new aB gl a3.lo
        have eg:=ne_new aB gm a3.lo
        have dv:=ne_new aB gp a3.lo
        have dD:=ne_new aB gA a3.lo
        have cX:=ne_new aB gC a3.lo
        have e5:=ne_new aB gE a3.lo
        have fQ:=fi.own.ne_new aB a3.lo
        have fR:=fl.own.ne_new aB a3.lo
        have fV:=aX wf (Nat.le_trans e1.n a3.lo)
        have ok:=Nat.le_trans e1.n a3.lo
        have l6:=a3.le.get _ _ gl
        have l7:=a3.le.get _ _ gm
        have l9:=a3.le.get _ _ gp
        have lb:=a3.le.get _ _ gA
        have lp:=a3.le.get _ _ gC
        have lt:=a3.le.get _ _ gE
        have hA:=fi.le a3.le
        have fm:=fl.le a3.le
        have hZ:=e1.trans a3.le
        refine hO _ _ ?_
        obtain ⟨aA,ay,ar,nV,_⟩:=fm.own.slice
        subst nV
        refine Ops.l Z (fun _ _ hP _=>bh (cs:=[.slice aA ay ar]) (c':=[.slice aA ay ar]) a3.wf rfl rfl rfl rfl fj a3.get (Nat.le_of_ble_eq_true rfl) rfl rfl fun A149 a1=>?_)
        have gF:=a1.keep _ _ e9 l6
        have gG:=a1.keep _ _ eg l7
        have gL:=a1.keep _ _ dv l9
        have gM:=a1.keep _ _ dD lb
        have gN:=a1.keep _ _ cX lp
        have gP:=a1.keep _ _ e5 lt
        have fn:=hA.keep a1.keep fQ
        have hB:=fm.keep a1.keep fR
        have e3:=aw hZ wf fV a1.n a1.keep
        refine hP _ _<|.nil ?_
        obtain ⟨CL,hCL⟩:∃ CL,CL=wE acc (im acc N) N:=⟨_,rfl⟩
        have fo:=cy hB (congrArg cI (show yp acc.length (QO acc LV) (np LV N)=CL by rw [hCL,hLV,hal];rfl))
        obtain ⟨eZ,nb⟩:CL.length=N.length/\∀ c ∈ CL,0<=c/\c < (N.length:Int):=by rw [hCL];exact C9
        refine l4 _ _<|.seq fun K161 lw=>.region<|.l Z (fun _ _ hR _=>mu a1.wf fun A165 bT D=>?_)
        have ea:=ne_new a1.wf gF D.lo
        have en:=ne_new a1.wf gG D.lo
        have dw:=ne_new a1.wf gL D.lo
        have dI:=ne_new a1.wf gM D.lo
        have g8:=ne_new a1.wf gN D.lo
        have e6:=ne_new a1.wf gP D.lo
        have d3:=ne_new a1.wf a1.get D.lo
        have iT:=fn.own.ne_new a1.wf D.lo
        have iV:=fo.own.ne_new a1.wf D.lo
        have g0:=aX wf (Nat.le_trans e3.n D.lo)
        have ov:=Nat.le_trans e3.n D.lo
        have gQ:=D.le.get _ _ gF
        have gS:=D.le.get _ _ gG
        have gX:=D.le.get _ _ gL
        have gY:=D.le.get _ _ gM
        have lB:=D.le.get _ _ gN
        have gZ:=D.le.get _ _ gP
        have h0:=D.le.get _ _ a1.get
        have fr:=fn.le D.le
        have ft:=fo.le D.le
        have e4:=e3.trans D.le
        refine hR _ _<|.l Z (fun _ _ hS _=>cu D.wf Tc rfl fun A181 b5 a0=>?_)
        have ec:=ne_new D.wf gQ a0.lo
        have ev:=ne_new D.wf gS a0.lo
        have dz:=ne_new D.wf gX a0.lo
        have dJ:=ne_new D.wf gY a0.lo
        have g9:=ne_new D.wf lB a0.lo
        have e7:=ne_new D.wf gZ a0.lo
        have dd:=ne_new D.wf h0 a0.lo
        have bM:=ne_new D.wf D.get a0.lo
        have fS:=fr.own.ne_new D.wf a0.lo
        have fT:=ft.own.ne_new D.wf a0.lo
        have g2:=aX wf (Nat.le_trans e4.n a0.lo)
        have ox:=Nat.le_trans e4.n a0.lo
        have lC:=a0.le.get _ _ gQ
        have lE:=a0.le.get _ _ gS
        have lF:=a0.le.get _ _ gX
        have lK:=a0.le.get _ _ gY
        have lO:=a0.le.get _ _ gZ
        have lP:=a0.le.get _ _ h0
        have lT:=a0.le.get _ _ D.get
        have hC:=fr.le a0.le
        have hD:=ft.le a0.le
        have i2:=e4.trans a0.le
        refine hS _ _<|.l Z (fun _ _ hT _=>bh (cs:=[.map (some bT)]) (c':=[.map (some bT)]) a0.wf rfl rfl rfl rfl R5 a0.get (Nat.le_of_ble_eq_true rfl) rfl rfl fun A197 ac=>?_)
        have lV:=ac.keep _ _ ec lC
        have lW:=ac.keep _ _ ev lE
        have lX:=ac.keep _ _ dz lF
        have lY:=ac.keep _ _ dJ lK
        have lZ:=ac.keep _ _ e7 lO
        have h4:=ac.keep _ _ dd lP
        have m1:=ac.keep _ _ bM lT
        have hG:=hC.keep ac.keep fS
        have fD:=hD.keep ac.keep fT
        have ih:=aw i2 wf g2 ac.n ac.keep
        refine hT _ _<|.nil<|lw _ _<|.seq fun K210 m2=>.seq fun K212 m3=>.region<|.q Z (ak kY Z Z h4 Z)<|.q Z (bE (n:=CL.length) d9 Z fD.slc O (ee _))<|.q Z (ah Z)<|.nil ?_
        refine m3 _ _<|.block<|.loopD (X:=Nat × List (Int × Value) × Array MapEntry × Nat) (fun ⟨i,E,es,ck⟩=>[(1,.pointer (some ⟨b4,0,none⟩)),(2,.pointer (some ⟨b9,0,none⟩)),(4,.pointer (some ⟨cC,0,none⟩)),(5,.pointer (some ⟨a4,0,none⟩)),(7,.pointer (some ⟨bS,0,none⟩)),(8,.pointer (some ⟨b5,0,none⟩)),(51,.slice aA ay ar),(52,num ((CL.length:Nat):Int)),(53,num ((i:Nat):Int))]) (fun ⟨i,E,es,ck⟩=>[V.mark D0]) (fun ⟨i,E,es,ck⟩ B=>(i<=CL.length/\dh num es E/\o5 CL i E)/\A.le B/\Fresh A B (.slice (some ⟨a2,0,none⟩) acc.length acc.length) 1 (cg LV)/\Fresh A B (.slice aA ay ar) 1 (cI CL)/\B.get bT=some (.obj true (.map es ck))/\B.get D0=some (.obj true (.deferred (some [])))/\B.get b4=some (.row true [.pointer (some ⟨b,0,none⟩)] 1)/\B.get b9=some (.row true [num ((0:Nat):Int),num ((0:Nat):Int),.slice none 0 0,.slice none 0 0] 4)/\B.get cC=some (.row true [num ((k:Nat):Int),num ((0:Nat):Int),.slice none 0 0,.slice none 0 0] 4)/\B.get a4=some (.row true [.slice (some ⟨a2,0,none⟩) acc.length acc.length] 1)/\B.get bS=some (.row true [.slice aA ay ar] 1)/\B.get b5=some (.row true [.map (some bT)] 1)/\V.blk (.slice (some ⟨a2,0,none⟩) acc.length acc.length) ≠ some bT/\V.blk (.slice aA ay ar) ≠ some bT/\V.blk (.slice (some ⟨a2,0,none⟩) acc.length acc.length) ≠ some D0/\V.blk (.slice aA ay ar) ≠ some D0/\V.blk (.slice (some ⟨a2,0,none⟩) acc.length acc.length) ≠ some b4/\V.blk (.slice aA ay ar) ≠ some b4/\V.blk (.slice (some ⟨a2,0,none⟩) acc.length acc.length) ≠ some b9/\V.blk (.slice aA ay ar) ≠ some b9/\V.blk (.slice (some ⟨a2,0,none⟩) acc.length acc.length) ≠ some cC/\V.blk (.slice aA ay ar) ≠ some cC/\V.blk (.slice (some ⟨a2,0,none⟩) acc.length acc.length) ≠ some a4/\V.blk (.slice aA ay ar) ≠ some a4/\V.blk (.slice (some ⟨a2,0,none⟩) acc.length acc.length) ≠ some bS/\V.blk (.slice aA ay ar) ≠ some bS/\V.blk (.slice (some ⟨a2,0,none⟩) acc.length acc.length) ≠ some b5/\V.blk (.slice aA ay ar) ≠ some b5) (fun ⟨i,E,es,ck⟩=>CL.length - i) (⟨0,[],#[],0⟩) (PM Z Z Z Z Z Z Z Z Z) Z (⟨⟨Nat.zero_le _,dh.nil,o5.start⟩,ih,hG,fD,m1,lZ,lV,lW,lX,lY,h4,ac.get,iT,iV,nvD,iS,(fun q=>by cases q;exact cK rfl),iD,(fun q=>by cases q;exact cS rfl),iF,(fun q=>by cases q;exact c4 Z),iH,f7,iN,fQ,fR,fS,fT⟩) ?_
        rintro ⟨i,E,es,ck⟩ B215 ⟨⟨hi,hme,hmi⟩,a5,bp,ab,aa,ag,a7,ai,aZ,aP,a9,a6,az,ap,bC,bc,bD,bd,bL,bl,ba,b2,bb,b3,b0,aT,b1,aV⟩
        refine an.wf fun cc=>.seq fun K217 m6=>.region<|.q Z (ca Z Z)<|.nil<|m6 _ _<|.seq fun K219 mb=>.if rfl (fun nQ=>?_) (fun nQ=>?_)
        ·
          refine an.skip<|mb _ _<|.seq fun K222 h5=>.block<|.seq fun K224 me=>.region<|.q Z (ah Z) ?_
          obtain ⟨qa,qp,q7,qN,q5,qB,qv,kP,nE,l0,pI,hw⟩:=bH.at (i:=i) ab.slc Of O
          refine Ops.q Z (aE d9 c0 Z kP Z nE)<|.q Z (ak eB Z Z l0 ((cN hw).trans (cW O)))<|.q Z (ae Z)<|.q Z (ae Z)<|.nil<|me _ _<|.seq fun K227 h6=>.region<|.q Z (ak CZ Z Z a6 Z)<|.q Z (ah Z) ?_
          refine Ops.l Z (fun _ _ fI _=>uF (k:=(CL.getD i 0)) rk Z Z CG u3 z3 aa hme (fun q9 hY=>?_) (fun hX=>?_))
          ·
            refine fI _ _<|.q Z (ah Z)<|.q Z (bk Z Z)<|.q Z (bk Z Z)<|.q Z (ae Z)<|.q Z (ae Z)<|.nil<|h6 _ _<|.seq fun K233 mm=>.region ?_
            refine Ops.q Z (ah Z)<|.q Z (eb Z)<|.nil<|mm _ _<|.cond_false Z<|.skip<|h5 _ _<|.region<|.q Z (bz (b:=1) Z Z O)<|.q Z (ah Z) ?_
            refine Ops.nil ?_
            exact ⟨⟨i + 1,E,es,ck⟩,PM Z Z Z Z Z Z Z Z Z,Z,⟨⟨by omega,hme,hmi.old O (hmi.in_ hY)⟩,a5,bp,ab,aa,ag,a7,ai,aZ,aP,a9,a6,az,ap,bC,bc,bD,bd,bL,bl,ba,b2,bb,b3,b0,aT,b1,aV⟩,O1⟩
          ·
            refine fI _ _<|.q Z (ah Z)<|.q Z (bk Z Z)<|.q Z (bk Z Z)<|.q Z (ae Z)<|.q Z (ae Z)<|.nil<|h6 _ _<|.seq fun K235 mt=>.region ?_
            refine Ops.q Z (ah Z)<|.q Z (eb Z)<|.nil<|mt _ _<|.cond_true Z<|.region<|.q Z (ak CZ Z Z a6 Z)<|.q Z (ah Z)<|.q Z (ah Z)<|.l Z (fun _ _ hU _=>m4 (k:=(CL.getD i 0)) rk cc rfl rfl rfl CG u3 aa hme hmi.nd fun A238 hy hv ad iv=>?_)
            have mv:=ad.keep _ _ e6 ag
            have mx:=ad.keep _ _ ea a7
            have mB:=ad.keep _ _ en ai
            have mE:=ad.keep _ _ dw aZ
            have mK:=ad.keep _ _ dI aP
            have mM:=ad.keep _ _ d3 a9
            have mT:=ad.keep _ _ bM.symm a6
            have hH:=bp.keep ad.keep az
            have hI:=ab.keep ad.keep ap
            have it:=aw a5 wf g0 ad.n ad.keep
            refine hU _ _<|.nil<|h5 _ _<|.region<|.q Z (bz (b:=1) Z Z O)<|.q Z (ah Z)<|.nil ?_
            exact ⟨⟨i + 1,wj E (CL.getD i 0) (num ((i:Nat):Int)),hy,hv⟩,PM Z Z Z Z Z Z Z Z Z,Z,⟨⟨by omega,iv,hmi.new O (hmi.no_ hX)⟩,it,hH,hI,ad.get,mv,mx,mB,mE,mK,mM,mT,az,ap,bC,bc,bD,bd,bL,bl,ba,b2,bb,b3,b0,aT,b1,aV⟩,O1⟩
        ·
          refine an.exit<|m2 _ _<|.seq fun K253 mV=>.drawn [0,1,2,3,4,5,6,7,8,9,10,11,12,13,14] mixed Y Y Z<|.q Z Z Z (ak lU Z Z a7 Z)<|.q Z Z Z (cJ Z)<|.q Z Z Z (aj wR c0 U Z)<|.q Z Z Z (ak eB Z Z (a5.get _ _ hb) Z)<|.q Z Z Z (ak kY Z Z a9 Z) ?_
          obtain ⟨qb,qr,q8,qP,q6,qD,qA,kT,nH,l1,pJ,hx⟩:=bH.at (i:=0) ab.slc Of O
          refine be.q Z Z Z (aE d9 c0 Z kT Z nH)<|.q Z Z Z (ak eB Z Z l1 ((cN hx).trans (cW O)))<|.q Z Z Z (ll Z Z)<|.q Z Z Z (ll Z Z) ?_
          have h9:qT B215 b5 CL:=⟨_,_,_,_,_,_,E,a6,aa,hme,hmi.all O⟩
          refine be.l Z Z Z (fun _ _ hV _=>ax Z (wa k 20001 N.length (N.length + 1) ((CL.getD 0 0)) 185 186 #[.pointer (some ⟨b4,0,none⟩),.pointer (some ⟨b5,0,none⟩),.pointer (some ⟨a4,0,none⟩),.pointer (some ⟨bS,0,none⟩)] #[.pointer (some ⟨b4,0,none⟩),.pointer (some ⟨b5,0,none⟩)] (jf LV N CL) (fun c=>acc.getD (jc CL c) false) (fun q=>q ∈ CL) B215 O ⟨by omega,by omega,by omega⟩ (bq O) (fun q c t=>Kn (lv:=LV) bU eZ q c t) (fun Q hn hQ=>rN hn (fun q hq=>nb q (hQ q hq))) (fun q c B hq hc le wfB=>Qz q c b5 bS _ _ (.slice aA ay ar) CL a4 b4 _ _ _ _ (.slice (some ⟨a2,0,none⟩) acc.length acc.length) LV b rwb capb k av nv fv bv acc N rows B (le.get _ _ aP) (le.get _ _ a7) (bp.slc.le le) f0 bU ((a5.trans le).get _ _ hb) (hav.le (a5.trans le)) (hnv.le (a5.trans le)) hrl (fun i hi=>(hF i hi).le (a5.trans le)) (h9.le le) (le.get _ _ a9) (ab.slc.le le) eZ hq hc) (fun q B hq le wfB=>QC q b5 b4 _ _ CL b rwb capb k av nv fv bv acc N rows B (le.get _ _ a7) bU ((a5.trans le).get _ _ hb) (hav.le (a5.trans le)) (hnv.le (a5.trans le)) hrl (fun i hi=>(hF i hi).le (a5.trans le)) (h9.le le) eZ hq)) ?_)
          rintro r2 A262 ⟨aI,o3,oy,oj,oi,oz,rfl,c3,hm,ch,aC,aY,bP,a8,ho,hp,hr,eN,eQ,eS⟩
          have mX:=c3.get _ _ ag
          have n1:=c3.get _ _ a7
          have n2:=c3.get _ _ ai
          have fM:=a5.trans c3
          have xr:=ch
          have xn:=aC
          have xa:=aY
          have xv:=bP
          have xf:=a8
          have y1:=ho
          have y2:=hp
          have y3:=hr
          have y4:=eN
          have y5:=eQ
          have y6:=eS
          have hEX:fu k (jf LV N CL) (N.length + 1) 0 [CL.getD 0 0] []=AE k acc N:=by rw [hLV,hCL];rfl
          rw [hEX] at aY a8
          have g4:bT ≠ aI:=fun z=>by have q0:=aa;rw [z,aC] at q0;cases q0
          have hf:D0 ≠ aI:=fun z=>by have q0:=ag;rw [z,aC] at q0;cases q0
          have hh:b4 ≠ aI:=fun z=>by have q0:=a7;rw [z,aC] at q0;cases q0
          have hl:b9 ≠ aI:=fun z=>by have q0:=ai;rw [z,aC] at q0;cases q0
          have g6:cC ≠ aI:=fun z=>by have q0:=aZ;rw [z,aC] at q0;cases q0
          have g7:a4 ≠ aI:=fun z=>by have q0:=aP;rw [z,aC] at q0;cases q0
          have g3:bS ≠ aI:=fun z=>by have q0:=a9;rw [z,aC] at q0;cases q0
          have g5:b5 ≠ aI:=fun z=>by have q0:=a6;rw [z,aC] at q0;cases q0
          have pS:=a8.ne aa
          have iX:=aY.ne cc ag
          have jX:=bP.ne cc ag
          have k2:=a8.ne ag
          have pV:=a8.ne a7
          have k0:=aY.ne cc ai
          have k1:=bP.ne cc ai
          have k3:=a8.ne ai
          have q1:=a8.ne aZ
          have q2:=a8.ne aP
          have q3:=a8.ne a9
          have q4:=a8.ne a6
          have hxl:=IR bU O
          refine hV _ _ (aU.none Y)<|.q Z Z Z (ah Z)<|.q Z Z Z (bk Z Z)<|.q Z Z Z (bk Z Z)<|.q Z Z Z (ae Z)<|.q Z Z Z (ae Z)<|.done<|mV _ _<|.seq fun K303 n3=>.seq fun K305 n4=>?_
          refine an.region<|.q Z (ah Z)<|.q Z (eb Z)<|.q Z (ah Z)<|.on Z Z<|.q Z (ah Z)<|.on Z Z<|.q Z (cJ Z)<|.on Z Z<|.q Z (aj i8 ie U Z) ?_
          refine Ops.on Z Z<|.q Z (ak ib Z Z ch Z)<|.on Z Z<|.q Z (bE (n:=((AE k acc N).1.map (fun c=>acc.getD (jc CL c) false)).length) kW Z (aY.base a5).slc O (eP _))<|.on Z Z<|.q Z (ef (b:=20000) Z Z)<|.q Z (aW Z Z)<|.nil<|n4 _ _<|.if rfl (fun nT=>?_) (fun nT=>?_)
          ·
            refine an.seq fun K308 qu=>?_
            exfalso;have:=hxl;simp only [List.length_map] at *;omega
          ·
            refine an.skip<|n3 _ _<|.seq fun K310 n6=>.drawn [0,1,2,3,4,5,6,7,8,9,10,11,12,13,14] mixed Y Y Z<|.q Z Z Z (ak lU Z Z n1 Z)<|.q Z Z Z (cJ Z)<|.q Z Z Z (aj wR c0 U Z)<|.q Z Z Z (ak eB Z Z (fM.get _ _ hb) Z)<|.q Z Z Z (ah Z)<|.q Z Z Z (cJ Z) ?_
            refine be.q Z Z Z (aj i8 ie U Z)<|.q Z Z Z (ak ib Z Z ch Z)<|.q Z Z Z (ah Z)<|.q Z Z Z (cJ Z)<|.q Z Z Z (aj oD iy U Z)<|.q Z Z Z (ak jC Z Z ch Z) ?_
            obtain ⟨f9,f3,eT,o1,_⟩:=(aY.base a5).own.slice
            subst o1
            obtain ⟨fd,f4,eV,o2,_⟩:=(bP.base a5).own.slice
            subst o2
            refine be.q Z Z Z (dr Z (bI Sh Ii J6 Z))<|.l Z Z Z (fun _ _ hW _=>bh (cs:=[num ((k:Nat):Int),num ((0:Nat):Int),.slice f9 f3 eT,.slice fd f4 eV]) (c':=[num ((k:Nat):Int),num ((0:Nat):Int),.slice f9 f3 eT,.slice fd f4 eV]) hm rfl rfl rfl rfl jx n2 (Nat.le_of_ble_eq_true rfl) rfl rfl fun A319 bB=>?_)
            have n7:=bB.keep _ _ aG mX
            have hJ:=(aY.base a5).keep bB.keep k0
            have hK:=(bP.base a5).keep bB.keep k1
            have hz:=(a8.base a5).keep bB.keep k3
            have fN:=aw fM wf dW bB.n bB.keep
            refine hW _ _ (aU.none Y)<|.q Z Z Z (ae Z)<|.done<|n6 _ _<|.ret ?_
            (repeat first | with_reducible refine bJ ?_ | with_reducible refine bx ?_);(repeat first | with_reducible refine eF ?_ | with_reducible refine d7 ?_ | with_reducible refine dH U ?_ | with_reducible refine dK ?_ | with_reducible refine db ?_);have cH:LV.getD 0 false=true:=(by first | assumption | simpa using ‹(!LV.getD 0 false)=false›);refine ⟨[D0],rfl,(by simp),(fun E hE=>by rw [List.mem_singleton] at hE;subst hE;exact n7),[.agg #[num ((k:Nat):Int),num ((0:Nat):Int),.slice f9 f3 eT,.slice fd f4 eV],.bool (true)],fun A2 dV eC dO=>?_⟩;have hkD:∀ b o,b ≠ D0->A319.get b=some o->A2.get b=some o:=fun b o hb h=>dO b o (by simpa using hb) h;exact ⟨ew o7 jx Z (hkD _ _ aG.symm bB.get) Z (ff Z fY),⟨_,Z,_,_,_,Z,⟨by rw [eC];exact fN.n,fun b o h=>hkD b o (by have:=wf _ _ h;omega) (fN.get _ _ h)⟩,dV,cy (hJ.keep hkD iX) (congrArg cg (by rw [yn (by rw [<- hLV];exact cH),hCL])),hK.keep hkD jX,lI (hz.keep hkD k2) (by rw [yn (by rw [<- hLV];exact cH)]),eN,eQ,eS⟩⟩
end Go.Proofs.YtjppkekmddjcfaaGreatDoor

namespace Go.Proofs.YtjppkekmddjcfaaGreatDoor
open Go Go.RowKit V
def sQ (k n:Nat) (R:List (List Int)):Prop:=∀ r ∈ R,r.length=k/\∀ m ∈ r,-1<=m/\m < (n:Int)
theorem sQ.mono {k n n':Nat} {R:List (List Int)} (h:sQ k n R) (hn:n<=n'):sQ k n' R:=fun r hr=>⟨(h r hr).1,fun m hm=>by have:=(h r hr).2 m hm;omega⟩
theorem tu {step:Int->Nat->Option Int} {q:Int}:∀ (l:List Nat) (r:List Int × List Int),(∀ m ∈ r.1,-1<=m/\m < (r.2.length:Int)) ->
    (l.foldl (fU step q) r).1.length=r.1.length + l.length/\r.2.length<=(l.foldl (fU step q) r).2.length/\∀ m ∈ (l.foldl (fU step q) r).1,-1<=m/\m < ((l.foldl (fU step q) r).2.length:Int)
  | [],r,h=>⟨rfl,Nat.le_refl _,h⟩
  | c :: l,r,h=>by
    rw [List.foldl_cons]
    have key:(fU step q r c).1.length=r.1.length + 1/\r.2.length<=(fU step q r c).2.length/\∀ m ∈ (fU step q r c).1,-1<=m/\m < ((fU step q r c).2.length:Int):=by
      unfold fU
      split
      · refine ⟨by simp,Nat.le_refl _,fun m hm=>?_⟩
        rcases List.mem_append.1 hm with z | z
        · exact h m z
        · rw [List.mem_singleton] at z;subst z;exact ⟨Int.le_refl _,by show (-1:Int) < (r.2.length:Int);omega⟩
      · rename_i t _
        split
        · rename_i ht
          refine ⟨by simp,Nat.le_refl _,fun m hm=>?_⟩
          rcases List.mem_append.1 hm with z | z
          · exact h m z
          · rw [List.mem_singleton] at z;subst z;have:=List.idxOf_lt_length_iff.2 ht;exact ⟨by omega,by show ((r.2.idxOf t:Nat):Int) < (r.2.length:Int);omega⟩
        · refine ⟨by simp,by simp,fun m hm=>?_⟩
          show -1<=m/\m < ((r.2 ++ [t]).length:Int)
          rw [List.length_append,List.length_singleton]
          rcases List.mem_append.1 hm with z | z
          · have:=h m z;omega
          · rw [List.mem_singleton] at z;subst z;exact ⟨by omega,by omega⟩
    obtain ⟨k1,k2,k3⟩:=key
    obtain ⟨g1,g2,g3⟩:=tu l (fU step q r c) k3
    exact ⟨by rw [g1,k1,List.length_cons];omega,Nat.le_trans k2 g2,g3⟩
theorem rK {k:Nat} {step:Int->Nat->Option Int} {D:Int->Prop} {bd:Nat} (hDs:∀ q c t,D q->c < k->step q c=some t->D t) (hfin:∀ Q:List Int,Q.Nodup->(∀ q ∈ Q,D q)->Q.length<=bd) :
    ∀ (f i:Nat) (Q:List Int) (R:List (List Int)),Q.Nodup->(∀ q ∈ Q,D q)->bd < f + i->R.length=i->i<=Q.length->sQ k Q.length R ->
      (fu k step f i Q R).2.length=(fu k step f i Q R).1.length/\sQ k (fu k step f i Q R).1.length (fu k step f i Q R).2
  | 0,i,Q,R,h1,h2,h3,h4,h5,h6=>by have:=hfin Q h1 h2;exact ⟨by show R.length=Q.length;omega,h6⟩
  | f + 1,i,Q,R,h1,h2,h3,h4,h5,h6=>by
    unfold fu;split
    · rename_i hi
      obtain ⟨g1,g2⟩:=tr hDs (h2 _ (bq (d:=(0:Int)) hi)) (List.range k) ([],Q) (fun c hc=>List.mem_range.1 hc) h1 h2
      obtain ⟨r1,r2,r3⟩:=tu (step:=step) (q:=Q.getD i 0) (List.range k) ([],Q) (fun m hm=>by cases hm)
      refine rK hDs hfin f (i + 1) _ _ g1 g2 O (by simp [h4]) (Nat.le_trans hi r2) fun r hr=>?_
      rcases List.mem_append.1 hr with z | z
      · exact h6.mono r2 r z
      · rw [List.mem_singleton] at z;subst z
        exact ⟨by rw [show (Ji k step (Q.getD i 0) Q).1.length=_ from r1];simp,r3⟩
    · exact ⟨by show R.length=Q.length;omega,h6⟩
theorem uE {k:Nat} {acc:List Bool} {L:List (List Int)} (h:Ir k acc L) (q:Int) (c:Nat) (t:Int) (hq:-1<=q/\q < (L.length:Int)) (hc:c < k) (e:mJ L q c=some t):-1<=t/\t < (L.length:Int):=by
  simp only [mJ,Option.some.injEq] at e
  subst e
  split
  · exact ⟨by omega,by have:=h.num;omega⟩
  · have:=h.val q.toNat c O hc;exact ⟨by omega,by omega⟩
theorem L5 {k:Nat} {acc:List Bool} {L:List (List Int)} (h:Ir k acc L):Ak k (uD k acc L) (gv k L).2/\(gv k L).2.length<=L.length + 1:=by
  have hn:=h.num
  have h0:∀ q ∈ ([0]:List Int),-1<=q/\q < (L.length:Int):=fun q hq=>by rw [List.mem_singleton] at hq;subst hq;omega
  obtain ⟨g1,g2⟩:=ra (D:=fun q=>-1<=q/\q < (L.length:Int)) (k:=k) (uE h) (L.length + 2) 0 [0] [] (by simp) h0
  obtain ⟨r1,r2⟩:=rK (D:=fun q=>-1<=q/\q < (L.length:Int)) (bd:=L.length + 1) (k:=k) (uE h) (fun Q h1 h2=>px h1 h2) (L.length + 2) 0 [0] [] (by simp) h0 O Z (by simp) (fun r hr=>by cases hr)
  have hb:=px g1 g2
  have hr:∀ s,s < (gv k L).2.length->((gv k L).2.getD s []).length=k/\∀ m ∈ (gv k L).2.getD s [],-1<=m/\m < ((gv k L).1.length:Int):=fun s hs=>r2 _ (bq hs)
  refine ⟨⟨h.sym,by rw [uD,List.length_map];exact r1.symm,by have:(gv k L).2.length=(gv k L).1.length:=r1;have:(gv k L).1.length<=L.length + 1:=hb;omega,fun s hs=>(hr s hs).1,fun s x hs hx=>?_⟩,by have:(gv k L).2.length=(gv k L).1.length:=r1;have:(gv k L).1.length<=L.length + 1:=hb;omega⟩
  have:=hr s hs
  have h2:=this.2 (gB (gv k L).2 s x) (bq (by rw [this.1];exact hx))
  have:(gv k L).2.length=(gv k L).1.length:=r1
  omega
end Go.Proofs.YtjppkekmddjcfaaGreatDoor

namespace Go.Proofs.YtjppkekmddjcfaaGreatDoor
open Go Go.RowKit V
set_option maxRecDepth 100000
set_option maxHeartbeats 4000000


theorem Ly (b:Nat) (rwb:Bool) (capb k:Nat) (av nv fv bv:Value) (acc:List Bool) (N:List (List Int)) (rows:List Value) (A:AH) (hok:Ak k acc N) (hN:N.length<=20000) (hb:A.get b=some (.row rwb [num (k:Int),av,nv,fv,bv] capb)) (hav:bH A 1 av (cg acc)) (hnv:bH A 1 nv (d6 rows)) (hrl:rows.length=N.length) (hF:∀ i,i < N.length->bH A 1 (rows.getD i undef) (cI (N.getD i []))):bF Tryz.prog 117 #[.pointer (some ⟨b,0,none⟩),.bool (true)] A (fun v A1=>∃ av2 nv2 rows2,v=.tuple #[.agg #[num (k:Int),num ((0:Nat):Int),av2,nv2],num ((0:Nat):Int)]/\A.le A1/\A1.wf/\Fresh A A1 av2 1 (cg (wB k acc N).1)/\Fresh A A1 nv2 1 (d6 rows2)/\gy A A1 rows2 (wB k acc N).2/\bw av2 nv2/\aM av2 rows2/\aM nv2 rows2):=by
 refine jE Tryz.call117 Tryz.func117 Z Tryz.results117 Tryz.ntmps117 Z (fun wf=>?_);have aC:=AH.le.refl A;refine an.seq fun _ h2=>.region<|.l Z (fun _ _ bu _=>cu wf Ii rfl fun A5 b4 a1=>?_);have aA:=aX wf (Nat.le_trans aC.n a1.lo);have D:=aC.trans a1.le;refine bu _ _<|.q Z (ae Z)<|.nil<|h2 _ _<|.seq fun _ h9=>.seq fun _ bb=>.region<|.q Z (ah Z)<|.q Z (eb Z)<|.nil ?_;refine bb _ _<|.cond_false Z<|.skip<|h9 _ _<|.seq fun _ bc=>.region<|.q Z (ah Z)<|.l Z (fun _ _ aT _=>ax Z (OB b _ _ k av nv fv bv acc N rows A5 hok hN (D.get _ _ hb) (hav.le D) (hnv.le D) hrl (fun i hi=>(hF i hi).le D)) ?_);rintro bR A16 ⟨ba,bA,bD,rfl,ad,a0,a2,a4,a3,a6,a7,a8⟩;have aB:=ad.get _ _ a1.get;have az:=D.trans ad;have xa:=a2;have xv:=a4;have xf:=a3;have bM:=a6;have bO:=a7;have bP:=a8;have b3:=a2.ne a1.wf a1.get;have b5:=a4.ne a1.wf a1.get;have b8:=a3.ne a1.get;refine aT _ _<|.q Z (ah Z)<|.q Z (bk Z Z)<|.q Z (bk Z Z)<|.l Z (fun _ _ aV _=>cu a0 Ii rfl fun A25 bL h=>?_);have a5:=ne_new a0 aB h.lo;have b6:=(a2.base D).own.ne_new a0 h.lo;have b7:=(a4.base D).own.ne_new a0 h.lo;have b9:=(a3.base D).ne_new a0 h.lo;have ay:=aX wf (Nat.le_trans az.n h.lo);have bd:=h.le.get _ _ aB;have ap:=(a2.base D).le h.le;have ar:=(a4.base D).le h.le;have aD:=(a3.base D).le h.le;have b0:=az.trans h.le;refine aV _ _ ?_;obtain ⟨ag,ab,a9,bB,_⟩:=ap.own.slice;subst bB;obtain ⟨ai,ac,aa,bC,_⟩:=ar.own.slice;subst bC;refine Ops.l Z (fun _ _ aY _=>bh (cs:=[num ((k:Nat):Int),num ((0:Nat):Int),.slice ag ab a9,.slice ai ac aa]) (c':=[num ((k:Nat):Int),num ((0:Nat):Int),.slice ag ab a9,.slice ai ac aa]) h.wf rfl rfl rfl rfl jx h.get (Nat.le_of_ble_eq_true rfl) rfl rfl fun A38 V=>?_);have bl:=V.keep _ _ a5 bd;have aI:=ap.keep V.keep b6;have aP:=ar.keep V.keep b7;have aF:=aD.keep V.keep b9;have b1:=aw b0 wf ay V.n V.keep;refine aY _ _<|.q Z (ae Z)<|.nil<|bc _ _<|.seq fun _ bm=>.seq fun _ bp=>.region<|.q Z (ah Z)<|.q Z (eb Z)<|.nil ?_;refine bp _ _<|.cond_false Z<|.skip<|bm _ _<|.seq fun _ br=>.region<|.q Z (aq o7 jx Z Z V.get Z)<|.l Z (fun _ _ aZ _=>bh (cs:=[num ((k:Nat):Int),num ((0:Nat):Int),.slice ag ab a9,.slice ai ac aa]) (c':=[num ((k:Nat):Int),num ((0:Nat):Int),.slice ag ab a9,.slice ai ac aa]) V.wf rfl rfl rfl rfl jx bl (Nat.le_of_ble_eq_true rfl) rfl rfl fun A52 X=>?_);have aR:=aI.keep X.keep b3;have aS:=aP.keep X.keep b5;have aG:=aF.keep X.keep b8;have b2:=aw b1 wf aA X.n X.keep;refine aZ _ _<|.q Z (ae Z)<|.nil<|br _ _<|.ret ?_;repeat first | with_reducible refine bJ ?_ | with_reducible refine bx ?_
 exact aK (ew o7 jx Z X.get Z (ff Z fY)) (⟨_,_,_,Z,b2,X.wf,aR,aS,aG,a6,a7,a8⟩)

theorem Ld (k:Nat) (acc:List Bool) (L:List (List Int)) (av nv:Value) (rows:List Value) (A:AH) (hL:L.length<=19000) (hok:Ir k acc L) (hav:bH A 1 av (cg acc)) (hnv:bH A 1 nv (d6 rows)) (hrl:rows.length=L.length) (hF:∀ i,i < L.length->bH A 1 (rows.getD i undef) (cI (L.getD i []))):bF Tryz.prog 79 #[.agg #[num ((k:Nat):Int),num ((0:Nat):Int),av,nv]] A (fun v A1=>∃ av2 nv2 rows2,v=.tuple #[.agg #[num (k:Int),num ((0:Nat):Int),av2,nv2],num ((0:Nat):Int)]/\A.le A1/\A1.wf/\Fresh A A1 av2 1 (cg (MC k acc L).1)/\Fresh A A1 nv2 1 (d6 rows2)/\gy A A1 rows2 (MC k acc L).2/\bw av2 nv2/\aM av2 rows2/\aM nv2 rows2):=by
 refine gw Tryz.call79 Tryz.func79 Z Tryz.results79 Tryz.ntmps79 Z (fun wf=>?_);have c4:=AH.le.refl A;have aD:=hok;obtain ⟨hmk,hml⟩:=L5 hok;refine an.seq fun _ h2=>.region<|.l Z (fun _ _ bY _=>dy wf rfl rfl fun A5 b4 aF=>?_);have ba:=c4.trans aF.le;refine bY _ _<|.l Z (fun _ _ c3 _=>cu aF.wf Ii rfl fun A10 b9 a8=>?_);have aS:=aX wf (Nat.le_trans ba.n a8.lo);have b6:=a8.le.get _ _ aF.get;have a5:=ba.trans a8.le;refine c3 _ _<|.q Z (ae Z)<|.nil<|h2 _ _<|.seq fun _ bR=>.seq fun _ bS=>.region<|.q Z (aq o7 jx Z Z b6 Z)<|.l Z (fun _ _ br _=>ax Z (Lg k acc L av nv rows A10 aD (hav.le a5) (hnv.le a5) hrl (fun i hi=>(hF i hi).le a5)) ?_);rintro d1 A20 ⟨rfl,a6,cv⟩;have ap:=a6.get _ _ b6;have aC:=a6.get _ _ a8.get;have h:=a5.trans a6;refine br _ _<|.q Z (((eI (a:=0) (b:=0) Z Z).trans (congrArg (fun z=>some (Value.bool z,[])) (decide_eq_false (fun q=>q Z)))))<|.nil<|bS _ _<|.cond_false Z<|.skip<|bR _ _<|.seq fun _ bT=>.region<|.q Z (aq o7 jx Z Z ap Z) ?_;refine Ops.l Z (fun _ _ bu _=>ax Z (OM k acc L av nv rows A20 aD (hav.le h) (hnv.le h) hrl (fun i hi=>(hF i hi).le h)) ?_);rintro d2 A29 ⟨a4,az,aG,aB,aA,aI,rfl,a7,ay,ab,aa,a9,ac,V,aT,aV,aY,aZ,b0,b1⟩;have bU:=a7.get _ _ ap;have ar:=a7.get _ _ aC;have a1:=h.trans a7;have xr:=ab;have xn:=aa;have xa:=a9;have xv:=ac;have xf:=V;have w1:=aT;have w2:=aV;have w3:=aY;have w4:=aZ;have w5:=b0;have w6:=b1;have aP:b4 ≠ a4:=fun z=>by have q0:=ap;rw [z,aa] at q0;cases q0
 have aR:b9 ≠ a4:=fun z=>by have q0:=aC;rw [z,aa] at q0;cases q0
 have cP:=V.ne ap;have bM:=V.ne aC;refine bu _ _<|.l Z (fun _ _ bv _=>ax Z (Ly a4 _ _ k az aG aB aA (uD k acc L) ((gv k L).2) aI A29 hmk O ab (a9.base h).slc (ac.base h).slc (V.base h).len (fun i hi=>((V.base h).fr i hi).slc)) ?_);rintro d3 A42 ⟨bP,c7,ck,rfl,X,b2,a2,a3,a0,ad,ag,ai⟩;have bV:=X.get _ _ ar;have cH:=(a9.base h).le X;have cK:=(ac.base h).le X;have bd:=(V.base h).le X;have bB:=a1.trans X;have xa:=a2;have xv:=a3;have xf:=a0;have cX:=ad;have cZ:=ag;have d0:=ai;have cS:=a0.ne bU;have bD:=a2.ne ay ar;have bL:=a3.ne ay ar;have bO:=a0.ne ar;have cV:=a0.ne ab;refine bv _ _<|.q Z (bk Z Z)<|.q Z (bk Z Z) ?_;obtain ⟨bb,b7,b3,cc,_⟩:=(a2.base a1).own.slice;subst cc;obtain ⟨bc,b8,b5,ch,_⟩:=(a3.base a1).own.slice;subst ch;refine Ops.l Z (fun _ _ bA _=>bh (cs:=[num ((k:Nat):Int),num ((0:Nat):Int),.slice bb b7 b3,.slice bc b8 b5]) (c':=[num ((k:Nat):Int),num ((0:Nat):Int),.slice bb b7 b3,.slice bc b8 b5]) b2 rfl rfl rfl rfl jx bV (Nat.le_of_ble_eq_true rfl) rfl rfl fun A63 D=>?_);have bm:=(a2.base a1).keep D.keep bD;have bp:=(a3.base a1).keep D.keep bL;have cC:=bd.keep D.keep bM;have bl:=(a0.base a1).keep D.keep bO;have bC:=aw bB wf aS D.n D.keep;refine bA _ _<|.q Z (ae Z)<|.nil<|bT _ _<|.ret ?_;repeat first | with_reducible refine bJ ?_ | with_reducible refine bx ?_
 exact aK (ew o7 jx Z D.get Z (ff Z fY)) (⟨_,_,_,Z,bC,D.wf,bm,bp,bl,ad,ag,ai⟩)
end Go.Proofs.YtjppkekmddjcfaaGreatDoor

namespace Go.Proofs.YtjppkekmddjcfaaGreatDoor
open Go Go.RowKit V
def wn (g:Int) (rs:List bg):List Wd:=(bn g rs).map (·.1)
def Ek (g:Int) (l:List Wd) (rs:List bg):Nat:=if cw g l rs then 2 * g.toNat else 0
def qY (g:Int) (l:List Wd) (rs:List bg):Nat:=if cw g l rs then 0 else 100
def Am (g:Int) (l:List Wd) (rs:List bg):List Bool × List (List Int):=if cw g l rs then MC (2 * g.toNat) (Mr (2 * g.toNat) (wn g rs)) (Ms (2 * g.toNat) (wn g rs)) else ([],[])
section
variable {g:Int} {l:List Wd} {rs:List bg} {gn i k:Nat} {w:Wd}
theorem wv (h:(!cw g l rs)=true):Ek g l rs=0/\qY g l rs=100/\Am g l rs=([],[]):=by
  have h:cw g l rs=false:=by simpa using h
  simp [Ek,qY,Am,h]
theorem so (h:cw (gn:Int) l rs=true):Ek gn l rs=2 * gn/\qY gn l rs=0/\Am gn l rs=MC (2 * gn) (Mr (2 * gn) (wn gn rs)) (Ms (2 * gn) (wn gn rs)):=by
  simp [Ek,qY,Am,h]
theorem uC (h:bN g w=0):∀ c ∈ w,0<=ix c/\ix c < 2 * g:=fun c hc=>by
  unfold bN at h
  split at h
  · cases h
  · split at h
    · cases h
    · split at h
      · rename_i q
        have:=List.all_eq_true.1 q c hc
        simpa [na] using this
      · cases h
theorem JM:∀ x,x < 16->ix (cB.getD x 0)=x:=by decide
theorem Ni:∀ x,x < 16->x ^^^ 1 < 16/\(x ^^^ 1) / 2=x / 2:=by decide
theorem vb (hs:cw (gn:Int) l rs=true):∀ s ∈ bn (gn:Int) rs,∀ c ∈ s.1,0<=ix c/\ix c < ((2 * gn:Nat):Int):=fun s hm c hc=>by
  have hg:=zQ hs
  rcases List.mem_append.1 hm with z | z
  · obtain ⟨r,hr,rfl⟩:=List.mem_map.1 z
    have:=uC (zO (iR ((jT hs).2.2.1 r hr)).1) c hc
    omega
  · obtain ⟨x,hx,rfl⟩:=List.mem_map.1 z
    have hx:=List.mem_range.1 hx
    rw [Int.toNat_natCast] at hx
    have h1:=Ni x O
    simp only [SA,List.mem_cons,List.not_mem_nil,or_false] at hc
    rcases hc with rfl | rfl
    · rw [JM x O];omega
    · rw [JM _ h1.1];omega
theorem Eh:(wn g rs).length=(bn g rs).length:=by simp [wn]
theorem Mf (hi:i < (bn g rs).length):(wn g rs).getD i []=((bn g rs).getD i ([],[])).1:=by
  simp [wn,List.getD_eq_getElem?_getD,hi]
theorem Ra (hs:cw g l rs=true):∀ w ∈ wn g rs,w ≠ []:=fun w hw e=>by
  obtain ⟨s,h1,rfl⟩:=List.mem_map.1 hw
  have:=(rD (zQ hs) (LM hs) s h1).1
  rw [e] at this;simp at this
theorem TI.next2 {L:List (List Int)} {E:List Bool} (h:TI k (wn g rs) i L E) (hi:i < (bn g rs).length) (hw:∀ c ∈ ((bn g rs).getD i ([],[])).1,0<=ix c/\ix c < k):TI k (wn g rs) (i + 1) (uQ k L E ((bn g rs).getD i ([],[])).1) (uO k L E ((bn g rs).getD i ([],[])).1):=by
  have:=h.next (by rw [Eh];exact hi) (by rw [Mf hi];exact hw)
  rwa [Mf hi] at this
end
section
variable {k:Nat} {L:List (List Int)} {E:List Bool} {W S:List (List Nat)}
theorem MW {s x:Nat} (hs:s < L.length) (hx:x < (L.getD s []).length):gB (L.map (ei E)) s x=if E.getD (gB L s x).toNat false then -1 else gB L s x:=by
  unfold gB
  have e:(L.map (ei E)).getD s []=ei E (L.getD s []):=by simp [List.getD_eq_getElem?_getD,hs]
  rw [e,ei]
  have:((L.getD s []).map fun m=>if E.getD m.toNat false=true then -1 else m).getD x 0=(fun m:Int=>if E.getD m.toNat false=true then -1 else m) ((L.getD s []).getD x 0):=by
    simp only [List.getD_eq_getElem?_getD,List.getElem?_map]
    have:x < (L[s]?.getD []).length:=by simpa [List.getD_eq_getElem?_getD] using hx
    simp [this]
  rw [this]
theorem Py (h:Re k L E W S) (hk:1<=k/\k<=400) (hn:W.length<=19000):Ir k (E.map fun e=>!e) (L.map (ei E)):=by
  have h1:=h.len
  have h2:=h.pos
  refine ⟨hk,by simp;omega,by simp;omega,fun s hs=>?_,fun s x hs hx=>?_⟩
  · rw [List.length_map] at hs
    rw [show (L.map (ei E)).getD s []=ei E (L.getD s []) by simp [List.getD_eq_getElem?_getD,hs],mH]
    exact h.row s O
  · rw [List.length_map] at hs ⊢
    have hr:=h.row s O
    rw [MW hs O]
    have:=h.to s x O hx
    split
    · omega
    · omega
theorem Re.at (h:Re k L E W S) {s x:Nat} (hs:s < W.length) (hx:x < k):0<=(L.getD s []).getD x 0/\((L.getD s []).getD x 0).toNat < W.length:=by
  have:=h.to s x hs hx
  simp only [gB] at this
  omega
end
theorem FF {E:List Bool} {s:Nat} (h:s < E.length):(E.take s).map (fun e=>!e) ++ [!E.getD s false]=(E.take (s + 1)).map fun e=>!e:=qm (z:=false) (fun e=>!e) h
end Go.Proofs.YtjppkekmddjcfaaGreatDoor
