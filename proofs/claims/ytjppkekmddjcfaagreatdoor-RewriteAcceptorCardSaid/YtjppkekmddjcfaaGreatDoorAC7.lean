import Derived.Test.YtjppkekmddjcfaaGreatDoorAC6
import Derived.Test.YtjppkekmddjcfaaGreatDoorAC5
set_option linter.unusedSectionVars false
set_option linter.unusedVariables false
set_option linter.unusedSimpArgs false
open Go.Proofs.Tryz
namespace Go.Proofs.YtjppkekmddjcfaaGreatDoor
open Go Go.RowKit V
section
variable {K:Type} [DecidableEq K]
def oB (Q:List K):List (K × Value):=Q.zipIdx.map fun p=>(p.1,num ((p.2:Nat):Int))
theorem va (Q:List K):(oB Q).map (·.1)=Q:=by
  simp [oB,List.map_map,Function.comp_def]
theorem zw (Q:List K) (t:K):oB (Q ++ [t])=oB Q ++ [(t,num ((Q.length:Nat):Int))]:=by simp [oB,List.zipIdx_append]
theorem Ep (Q:List K):(oB Q).length=Q.length:=by simp [oB]
theorem BJ {Q:List K} {t:K} (h:t ∉ Q):lk (oB Q) t=none:=Bz.2 (by rw [va];exact h)
theorem QI:∀ (Q:List K) (n:Nat) (t:K),t ∈ Q->lk ((Q.zipIdx n).map fun p=>(p.1,num ((p.2:Nat):Int))) t=some (num (((n + Q.idxOf t:Nat)):Int)):=by
  intro Q
  induction Q with
  | nil=>intro n t h;cases h
  | cons a Q ih =>
    intro n t h
    by_cases q:a=t
    · subst q;simp [lk]
    · have h2:t ∈ Q:=by rcases Vy.1 h with z | z;exact absurd z.symm q;exact z
      have:=ih (n + 1) t h2
      simp only [List.zipIdx_cons,Tz]
      rw [List.idxOf_cons,beq_eq_false_iff_ne.2 q,cond_false]
      simp only [lk,QQ,Xv q] at this ⊢
      rw [this]
      congr 3;omega
theorem wg {Q:List K} {t:K} (h:t ∈ Q):lk (oB Q) t=some (num ((Q.idxOf t:Nat):Int)):=by
  have:=QI Q 0 t h
  rwa [Sq] at this
theorem Rl {Q:List K} {t:K} (h:t ∉ Q):zY (oB Q) t (num ((Q.length:Nat):Int))=oB (Q ++ [t]):=by
  rw [wo (by rw [va];exact h),zw]
def mq (st:List Int × List K) (x:K):List Int × List K:=if x ∈ st.2 then (st.1 ++ [(st.2.idxOf x:Int)],st.2) else (st.1 ++ [(st.2.length:Int)],st.2 ++ [x])
def bW (l:List K):List Int × List K:=l.foldl mq ([],[])
theorem mF (l:List K) (x:K):bW (l ++ [x])=mq (bW l) x:=by simp [bW]
theorem fk (l:List K):(bW l).2.Nodup/\(∀ x,x ∈ (bW l).2 ↔ x ∈ l)/\(bW l).1=l.map (fun x=>((bW l).2.idxOf x:Int)):=by
  suffices h:∀ (l m:List K),bW m=(m.map (fun x=>((bW m).2.idxOf x:Int)),(bW m).2)->(bW m).2.Nodup->(∀ x,x ∈ (bW m).2 ↔ x ∈ m) ->
      (bW (m ++ l)).2.Nodup/\(∀ x,x ∈ (bW (m ++ l)).2 ↔ x ∈ m ++ l)/\(bW (m ++ l)).1=(m ++ l).map (fun x=>((bW (m ++ l)).2.idxOf x:Int)) by
    have:=h l [] Z List.nodup_nil (fun x=>Iff.rfl)
    simpa using this
  intro l
  induction l with
  | nil=>intro m h1 h2 h3;rw [Qj];exact ⟨h2,h3,Xk (·.1) h1⟩
  | cons a l ih =>
    intro m h1 h2 h3
    have e:m ++ a :: l=(m ++ [a]) ++ l:=by simp
    rw [e]
    have es:bW (m ++ [a])=mq (bW m) a:=mF m a
    by_cases q:a ∈ (bW m).2
    · have e2:mq (bW m) a=((bW m).1 ++ [((bW m).2.idxOf a:Int)],(bW m).2):=Xw q
      refine ih (m ++ [a]) ?_ ?_ ?_
      · rw [es,e2];simp only [VV,Tz,Qv]
        rw [show (bW m).1=m.map (fun x=>((bW m).2.idxOf x:Int)) from Xk (·.1) h1]
      · rw [es,e2];exact h2
      · intro x;rw [es,e2,VJ,XW]
        show x ∈ (bW m).2 ↔ _
        rw [h3 x]
        exact ⟨.inl,fun z=>z.elim id fun z=>by subst z;exact (h3 x).1 q⟩
    · have e2:mq (bW m) a=((bW m).1 ++ [((bW m).2.length:Int)],(bW m).2 ++ [a]):=Xy q
      refine ih (m ++ [a]) ?_ ?_ ?_
      · rw [es,e2];simp only [VV,Tz,Qv]
        have hm:(bW m).1=m.map (fun x=>((bW m).2.idxOf x:Int)):=Xk (·.1) h1
        congr 1
        rw [hm]
        congr 1
        · apply Qk
          intro x hx
          rw [List.idxOf_append,Xw ((h3 x).2 hx)]
        · rw [List.idxOf_append,Xy q];simp
      · rw [es,e2];exact RX.2 ⟨h2,by simp,by intro x hx y hy;simp at hy;subst hy;exact fun z=>q (z ▸ hx)⟩
      · intro x;rw [es,e2,VJ,VJ,XW]
        show _\/_ ↔ _
        rw [h3 x]
theorem ll (l:List K):(bW l).1.length=l.length:=by rw [(fk l).2.2];simp
theorem sw {l:List K} {n:Nat} (h1:l.Nodup) (f:K->Nat) (hf:∀ a ∈ l,∀ b ∈ l,f a=f b->a=b) (hb:∀ a ∈ l,f a < n):l.length<=n:=by
  have:=rx (l:=l.map f) (n:=n) ?_ ?_
  · simpa using this
  · rw [Rv,RZ]
    exact List.Pairwise.imp_of_mem (fun {a c} ha hc hac e=>hac (hf a ha c hc e)) h1
  · intro x hx
    obtain ⟨a,ha,rfl⟩:=Vk.1 hx
    exact hb a ha
theorem wd (l:List K):(bW l).2.length<=l.length :=
  sw (fk l).1 (fun a=>l.idxOf a) (fun a ha b hb e=>by
    have h1:=((fk l).2.1 a).1 ha
    have h2:=((fk l).2.1 b).1 hb
    have e1:=TZ (Vj.2 h1)
    have e2:=TZ (Vj.2 h2)
    rw [<- e1,<- e2];congr 1) fun a ha=>Vj.2 (((fk l).2.1 a).1 ha)
theorem kX (l:List K) {i:Nat} {d:K} (hi:i < l.length):(bW l).1.getD i 0=((bW l).2.idxOf (l.getD i d):Int)/\l.getD i d ∈ (bW l).2:=by
  refine ⟨?_,((fk l).2.1 _).2 (aX hi)⟩
  rw [(fk l).2.2]
  simp [XJ,hi]
theorem tF (l:List K):∀ c ∈ (bW l).1,0<=c/\c < (bW l).2.length:=fun c hc=>by
  rw [(fk l).2.2] at hc
  obtain ⟨x,hx,rfl⟩:=Vk.1 hc
  have:=Vj.2 (((fk l).2.1 x).2 hx)
  omega
theorem py (l:List K) {i j:Nat} {d:K} (hi:i < l.length) (hj:j < l.length):(bW l).1.getD i 0=(bW l).1.getD j 0 ↔ l.getD i d=l.getD j d:=by
  have h1:=kX l (d:=d) hi
  have h2:=kX l (d:=d) hj
  rw [h1.1,h2.1]
  constructor
  · intro h
    have e1:=TZ (Vj.2 h1.2)
    have e2:=TZ (Vj.2 h2.2)
    rw [<- e1,<- e2];congr 1;omega
  · intro h;rw [h]
end
theorem pz {K L:Type} [DecidableEq K] [DecidableEq L] (l:List K) (m:List L) (d:K) (d2:L) (hl:l.length=m.length) (h:∀ i j,i < m.length->j < m.length->m.getD i d2=m.getD j d2->l.getD i d=l.getD j d):(bW l).2.length<=(bW m).2.length :=
  sw (fk l).1 (fun a=>(bW m).2.idxOf (m.getD (l.idxOf a) d2)) (fun a ha b hb e=>by
    have h1:=Vj.2 (((fk l).2.1 a).1 ha)
    have h2:=Vj.2 (((fk l).2.1 b).1 hb)
    have m1:=kX m (d:=d2) (i:=l.idxOf a) O
    have m2:=kX m (d:=d2) (i:=l.idxOf b) O
    have e1:=TZ h1
    have e2:=TZ h2
    have:=h _ _ O O ((py m (d:=d2) (i:=l.idxOf a) (j:=l.idxOf b) O O).1 (by rw [m1.1,m2.1];exact Xk Int.ofNat e))
    rw [gd h1,gd h2] at this
    rw [<- e1,<- e2];exact this) fun a ha=>by
    have h1:=Vj.2 (((fk l).2.1 a).1 ha)
    exact Vj.2 (kX m (d:=d2) (i:=l.idxOf a) O).2
def kS (n:Nat) (key:List Int->Nat->Wd):Nat->Nat->List Int->List Int
  | 0,_,cls=>cls
  | f + 1,count,cls=>if (bW ((List.range n).map (key cls))).2.length=count then (bW ((List.range n).map (key cls))).1 else kS n key f (bW ((List.range n).map (key cls))).2.length (bW ((List.range n).map (key cls))).1
def Ax (n:Nat) (st:Nat->Bool × Bool) (key:List Int->Nat->Wd):List Int:=kS n key (n + 2) (bW ((List.range n).map st)).2.length (bW ((List.range n).map st)).1
def cB (lv:List Bool) (m:Int):Bool:=decide (0<=m) && lv.getD m.toNat false
def pq (lv:List Bool) (cls:List Int) (m:Int):Wd:=32 :: (if cB lv m then iy (cls.getD m.toNat 0).toNat else [])
def mY (lv:List Bool) (N:List (List Int)) (cls:List Int) (i:Nat):Wd:=if lv.getD i false then iy (cls.getD i 0).toNat ++ (N.getD i []).flatMap (pq lv cls) else [45]
def NG (acc lv:List Bool) (i:Nat):Bool × Bool:=(lv.getD i false,acc.getD i false)
def sg (acc lv:List Bool) (N:List (List Int)):List Int:=Ax N.length (NG acc lv) (mY lv N)
def fj (cls:List Int) (c:Int):Nat:=cls.idxOf c
def dL (lv:List Bool) (N:List (List Int)) (cls:List Int) (c:Int) (x:Nat):Option Int :=
  if cB lv (c5 N (fj cls c) x) then some (cls.getD (c5 N (fj cls c) x).toNat 0) else none
def uz (k:Nat) (acc:List Bool) (N:List (List Int)):List Int × List (List Int):=eD k (dL (eH acc N) N (sg acc (eH acc N) N)) (N.length + 1) 0 [(sg acc (eH acc N) N).getD 0 0] []
def ux (k:Nat) (acc:List Bool) (N:List (List Int)):List Bool × List (List Int) :=
  if (eH acc N).getD 0 false then ((uz k acc N).1.map fun c=>acc.getD (fj (sg acc (eH acc N) N) c) false,(uz k acc N).2) else ([],[])
def vK (k:Nat) (acc:List Bool) (L:List (List Int)):List Bool × List (List Int):=ux k (rg k acc L) (gH k L).2
section
variable {K:Type} [DecidableEq K]
def ji (Q:List K) (k:K):Nat:=if k ∈ Q then Q.idxOf k else Q.length
def j6 (Q:List K) (k:K):List K:=if k ∈ Q then Q else Q ++ [k]
theorem D8 {Q:List K} {k:K} (h:k ∈ Q):ji Q k=Q.idxOf k:=Xw h
theorem D9 {Q:List K} {k:K} (h:k ∉ Q):ji Q k=Q.length:=Xy h
theorem zk {Q:List K} {k:K} (h:k ∈ Q):j6 Q k=Q:=Xw h
theorem zl {Q:List K} {k:K} (h:k ∉ Q):j6 Q k=Q ++ [k]:=Xy h
end
section
variable {α:Type} [DecidableEq α] {enc:α->Value} {P:Program} {e:ii} {A:AH} {x:Operand} {t kt et:TypeId} {ty:TypeId} {ps:String} {af:Array Edge} {dst:Option Nat} {K:Value->AH->Prop} {Kp:List PanicEntry->AH->Prop} {g:Option (Nat × Bool)} {m clock:Nat} {es:Array MapEntry} {rw:Bool} {Q:List α}
theorem ul (hx:cd e x=some (.map (some m))) (hu:P.underlying t=some (.map kt et)) (hg:A.get m=some (.obj rw (.map es clock))) (hE:dF enc es (oB Q)) (h:K (num ((Q.length:Nat):Int)) A) :
    kY P e A { dst:=dst,op:=.call { callee:=.builtin .len,args:=#[x],argTypes:=#[t] },type:=ty,pos:=ps,after:=af,guard:=g } K Kp:=by
  simp only [kY,wI,jV,hx]
  refine ⟨num ((Q.length:Nat):Int),?_,h⟩
  simp only [tr,hu,hg]
  rw [hE.size,Ep]
theorem Uh {kd:TypeDesc} {y:Operand} {k:α} (Ko:sW kd enc) (hx:cd e x=some (.map (some m))) (hy:cd e y=some (enc k)) (hu:P.underlying t=some (.map kt et)) (hk:P.underlying kt=some kd) (hz:cE P et=some (num 0)) (hg:A.get m=some (.obj rw (.map es clock))) (hE:dF enc es (oB Q))
    (h1:k ∈ Q->K (.tuple #[num ((ji Q k:Nat):Int),.bool true]) A) (h2:k ∉ Q->K (.tuple #[num 0,.bool false]) A):kY P e A { dst:=dst,op:=.lookup t x y true,type:=ty,pos:=ps,after:=af,guard:=g } K Kp:=by
  refine yf Ko hx hy hu hk hz hg hE (fun v hv=>?_) (fun hn=>?_)
  · by_cases q:k ∈ Q
    · rw [wg q,<- D8 q] at hv;cases hv;exact h1 q
    · rw [BJ q] at hv;cases hv
  · exact h2 fun q=>by rw [wg q] at hn;cases hn
end
section
variable {P:Program} {nt:Nat} {all:Array Oper} {os:List Oper} {Q:Exit->Fr->AH->Prop} {e:ii} {ds:List Deferred} {A:AH} {x y z:Operand} {t kt et bt:TypeId} {ty:TypeId} {ps:String} {af:Array Edge} {dst:Option Nat} {m clock:Nat} {es:Array MapEntry} {rw:Bool} {L:List (Bool × Bool)} {k:Bool × Bool}
theorem V.Ops.look2G (hd:ij nt dst=true) (hx:cd e x=some (.map (some m))) (hy:cd e y=some (jB k)) (hu:P.underlying t=some (.map kt et)) (hk:Oe P kt bt) (hz:cE P et=some (num 0)) (hg:A.get m=some (.obj rw (.map es clock))) (hE:dF jB es (oB L))
    (h1:k ∈ L->Ops P nt all os Q ⟨gw e dst (.tuple #[num ((ji L k:Nat):Int),.bool true]),ds⟩ A) (h2:k ∉ L->Ops P nt all os Q ⟨gw e dst (.tuple #[num 0,.bool false]),ds⟩ A) :
    Ops P nt all ({ dst:=dst,op:=.lookup t x y true,type:=ty,pos:=ps,after:=af,guard:=none } :: os) Q ⟨e,ds⟩ A:=by
  refine Ops.look2 hd hx hy hu hk hz hg hE (fun v hv=>?_) (fun hn=>?_)
  · by_cases q:k ∈ L
    · rw [wg q,<- D8 q] at hv;cases hv;exact h1 q
    · rw [BJ q] at hv;cases hv
  · exact h2 fun q=>by rw [wg q] at hn;cases hn
theorem V.Ops.new2G (hd:ij nt dst=true) (wf:A.wf) (hx:cd e x=some (.map (some m))) (hy:cd e y=some (jB k)) (hz:cd e z=some (num ((L.length:Nat):Int))) (hu:P.underlying t=some (.map kt et)) (hk:Oe P kt bt) (hg:A.get m=some (.obj true (.map es clock))) (hE:dF jB es (oB L)) (hn:k ∉ L)
    (h:∀ A1 X ck,s7 A A1 m (.obj true (.map X ck))->dF jB X (oB (L ++ [k]))->Ops P nt all os Q ⟨gw e dst undef,ds⟩ A1) :
    Ops P nt all ({ dst:=dst,op:=.mapUpdate t x y z,type:=ty,pos:=ps,after:=af,guard:=none } :: os) Q ⟨e,ds⟩ A :=
  Ops.new2 hd wf hx hy hz hu hk hg hE (BJ hn) fun A1 X ck sb me=>h A1 X ck sb (by rw [zw];exact me)
end
section
variable {K:Type} [DecidableEq K]
theorem Bq {Q:List K} {k:K} (h:Q.Nodup):(j6 Q k).Nodup:=by
  unfold j6;split
  · exact h
  · rename_i q;exact RX.2 ⟨h,by simp,by intro a ha b hb;simp at hb;subst hb;exact fun e=>q (e ▸ ha)⟩
theorem sx (st:List Int × List K) (x:K):mq st x=(st.1 ++ [(ji st.2 x:Int)],j6 st.2 x):=by
  unfold mq ji j6;split <;> rfl
structure o7 (n:Nat) (f:Nat->K) (i:Nat) (o:List Int) (Q:List K):Prop where
  run:∃ r,bW ((List.range i).map f)=(r,Q)/\r.length=i/\o=r ++ List.replicate (n - i) 0
  nd:Q.Nodup
  le:Q.length<=i
variable {n i:Nat} {f:Nat->K} {o:List Int} {Q:List K}
theorem o7.start:o7 n f 0 (List.replicate n 0) []:=⟨⟨[],rfl,rfl,by simp⟩,List.nodup_nil,XX _⟩
theorem o7.len (h:o7 n f i o Q) (hi:i<=n):o.length=n:=by obtain ⟨r,_,h2,h3⟩:=h.run;rw [h3];simp;omega
theorem o7.next (h:o7 n f i o Q) (hi:i < n):o7 n f (i + 1) (o.set i (ji Q (f i):Int)) (j6 Q (f i)):=by
  obtain ⟨r,h1,h2,h3⟩:=h.run
  refine ⟨⟨r ++ [(ji Q (f i):Int)],?_,by simp [h2],?_⟩,Bq h.nd,?_⟩
  · rw [Ty,VV,Tz,Qv,mF,h1,sx]
  · rw [h3,<- h2];exact kU O
  · have:=h.le;unfold j6;split
    · omega
    · simp;omega
theorem o7.old (h:o7 n f i o Q) (hi:i < n) (q:f i ∈ Q):o7 n f (i + 1) (o.set i (ji Q (f i):Int)) Q:=by
  have:=h.next hi;rwa [zk q] at this
theorem o7.new (h:o7 n f i o Q) (hi:i < n) (q:f i ∉ Q):o7 n f (i + 1) (o.set i (Q.length:Int)) (Q ++ [f i]):=by
  have:=h.next hi;rwa [D9 q,zl q] at this
theorem o7.fin (h:o7 n f i o Q) (hi:i=n):bW ((List.range n).map f)=(o,Q):=by
  subst hi
  obtain ⟨r,h1,h2,h3⟩:=h.run
  rw [h1,h3];simp
end
structure sU (n:Nat) (st:Nat->Bool × Bool) (key:List Int->Nat->Wd) (count:Nat) (cls:List Int):Prop where
  len:cls.length=n
  rng:∀ c ∈ cls,0<=c/\c < n
  dis:∃ l:List Int,l.length=n/\bW l=(cls,(bW l).2)/\(bW l).2.length=count
  cnt:count<=n
  fin:∃ f,n + 2<=f + count/\kS n key f count cls=Ax n st key
theorem Mg {K:Type} [DecidableEq K] (l:List K):(bW (bW l).1).2.length=(bW l).2.length/\(bW (bW l).1).1=(bW l).1:=by
  suffices h:∀ (m:List K),(bW (bW m).1).2=(List.range (bW m).2.length).map (fun (i:Nat)=>(i:Int))/\(bW (bW m).1).1=(bW m).1 by
    have:=h l;exact ⟨by rw [this.1];simp,this.2⟩
  suffices h:∀ (l m:List K),((bW (bW m).1).2=(List.range (bW m).2.length).map (fun (i:Nat)=>(i:Int))/\(bW (bW m).1).1=(bW m).1)->((bW (bW (m ++ l)).1).2=(List.range (bW (m ++ l)).2.length).map (fun (i:Nat)=>(i:Int))/\(bW (bW (m ++ l)).1).1=(bW (m ++ l)).1) by
    intro m;have:=h m [] ⟨rfl,rfl⟩;simpa using this
  intro l
  induction l with
  | nil=>intro m h;rw [Qj];exact h
  | cons a l ih =>
    intro m h
    rw [show m ++ a :: l=(m ++ [a]) ++ l by simp]
    refine ih _ ?_
    rw [mF,sx]
    show (bW ((bW m).1 ++ [_])).2=_/\(bW ((bW m).1 ++ [_])).1=_
    rw [mF,sx]
    simp only
    rw [h.1,h.2]
    by_cases q:a ∈ (bW m).2
    · have hi:=Vj.2 q
      have hm:((bW m).2.idxOf a:Int) ∈ (List.range (bW m).2.length).map (fun (i:Nat)=>(i:Int)):=Vk.2 ⟨_,TY.2 hi,rfl⟩
      have e1:ji (bW m).2 a=(bW m).2.idxOf a:=Xw q
      have e2:j6 (bW m).2 a=(bW m).2:=Xw q
      have e3:j6 ((List.range (bW m).2.length).map (fun (i:Nat)=>(i:Int))) ((bW m).2.idxOf a:Int)=(List.range (bW m).2.length).map (fun (i:Nat)=>(i:Int)):=Xw hm
      have e4:ji ((List.range (bW m).2.length).map (fun (i:Nat)=>(i:Int))) ((bW m).2.idxOf a:Int)=(bW m).2.idxOf a:=by
        rw [ji,Xw hm]
        have:=TZ (Vj.2 hm)
        simp only [List.getElem_map,List.getElem_range] at this
        omega
      rw [e1,e2,e3,e4];exact ⟨Z,Z⟩
    · have e1:ji (bW m).2 a=(bW m).2.length:=Xy q
      have e2:j6 (bW m).2 a=(bW m).2 ++ [a]:=Xy q
      have hm:¬ ((bW m).2.length:Int) ∈ (List.range (bW m).2.length).map (fun (i:Nat)=>(i:Int)):=fun z=>by
        obtain ⟨i,h1,h2⟩:=Vk.1 z
        have:=TY.1 h1;omega
      rw [e1,e2]
      have e3:j6 ((List.range (bW m).2.length).map (fun (i:Nat)=>(i:Int))) ((bW m).2.length:Int)=(List.range (bW m).2.length).map (fun (i:Nat)=>(i:Int)) ++ [((bW m).2.length:Int)]:=Xy hm
      have e4:ji ((List.range (bW m).2.length).map (fun (i:Nat)=>(i:Int))) ((bW m).2.length:Int)=(bW m).2.length:=by rw [ji,Xy hm];simp
      rw [e3,e4]
      refine ⟨?_,Z⟩
      rw [Xz,TQ,Ty,VV];rfl
section
variable {n count:Nat} {st:Nat->Bool × Bool} {key:List Int->Nat->Wd} {cls o:List Int} {Q:List Wd} {Q2:List (Bool × Bool)}
theorem sU.of {K:Type} [DecidableEq K] {l:List K} {cls:List Int} {Q:List K} (hl:l.length=n) (h:bW l=(cls,Q)):cls.length=n/\(∀ c ∈ cls,0<=c/\c < (n:Int))/\(∃ l:List Int,l.length=n/\bW l=(cls,(bW l).2)/\(bW l).2.length=Q.length)/\Q.length<=n:=by
  have h1:=ll l
  have h2:=tF l
  have h3:=wd l
  have h4:=Mg l
  rw [h] at h1 h2 h3 h4
  simp only at h1 h2 h3 h4
  exact ⟨by omega,fun c hc=>by have:=h2 c hc;omega,⟨cls,by omega,Prod.ext h4.2 rfl,h4.1⟩,by omega⟩
theorem sU.start (h:bW ((List.range n).map st)=(cls,Q2)):sU n st key Q2.length cls:=by
  obtain ⟨h1,h2,h3,h4⟩:=sU.of (n:=n) (by simp) h
  exact ⟨h1,h2,h3,h4,n + 2,by omega,by rw [Ax,h]⟩
theorem sU.stop (h:sU n st key count cls) (e:bW ((List.range n).map (key cls))=(o,Q)) (hq:Q.length=count):o=Ax n st key:=by
  obtain ⟨f,hf,g⟩:=h.fin
  have:=h.cnt
  obtain ⟨f,rfl⟩:∃ g,f=g + 1:=⟨f - 1,by omega⟩
  rw [kS,e] at g
  simp only at g
  rw [Xw hq] at g;exact g
theorem sU.next (h:sU n st key count cls) (hinj:∀ i j,i < n->j < n->key cls i=key cls j->cls.getD i 0=cls.getD j 0) (e:bW ((List.range n).map (key cls))=(o,Q)) (hq:¬ Q.length=count):sU n st key Q.length o/\count < Q.length:=by
  obtain ⟨f,hf,g⟩:=h.fin
  have hc:=h.cnt
  obtain ⟨f,rfl⟩:∃ g,f=g + 1:=⟨f - 1,by omega⟩
  obtain ⟨h1,h2,h3,h4⟩:=sU.of (n:=n) (by simp) e
  have hle:count<=Q.length:=by
    obtain ⟨l,l1,l2,l3⟩:=h.dis
    have:=pz l ((List.range n).map (key cls)) 0 [] (by simp [l1]) fun i j hi hj q=>by
      rw [Tq,Qz] at hi hj
      have e1:∀ i,i < n->((List.range n).map (key cls)).getD i []=key cls i:=fun i hi=>by simp [XJ,hi]
      rw [e1 i hi,e1 j hj] at q
      have:=hinj i j hi hj q
      have e2:cls=(bW l).1:=by rw [l2]
      rw [e2] at this
      exact (py l (d:=(0:Int)) O O).1 this
    rw [l3,e] at this;exact this
  rw [kS,e] at g
  simp only at g
  rw [Xy hq] at g
  exact ⟨⟨h1,h2,h3,h4,f,by omega,g⟩,by omega⟩
end
set_option maxRecDepth 100000
theorem Ou:dM prog 218=some true:=by kernel_rfl
theorem FK:dy prog 218=some 2:=by kernel_rfl
theorem Ud:type_of% @underlying231:=@underlying231
theorem Ya:type_of% @underlying233:=@underlying233
theorem aac:cE prog 218=some (.agg #[.bool false,.bool false]):=by kernel_rfl
theorem Tm (b:Nat) (es:Array MapEntry) (ck:Nat) (Q:List Wd) (k:Wd) (A0 A:AH) (a1:A0.le A) (ad:A0.wf) (hb:A.get b=some (.obj true (.map es ck))) (ac:A0.get b=none) (hme:dF aM es (oB Q)) (hnd:Q.Nodup):bH prog 201 #[.map (some b),aM (k)] A (fun v A1=>∃ es2 ck2,v=num ((ji Q k:Nat):Int)/\A0.le A1/\A1.wf/\A1.get b=some (.obj true (.map es2 ck2))/\dF aM es2 (oB (j6 Q k))):=by
 refine aN (e:=[(0,.map (some b)),(1,aM (k))]) (args:=[.map (some b),aM (k)]) call201 func201 Z results201 ntmps201 Z Z Z (fun wf=>?_);refine ak.sq fun h2=>.region<|.I Z<|.nil<|h2<|.sq fun h4=>.region<|.J Z<|.J Z<|.m (fun a0=>Uh (Q:=Q) (k:=k) Bn Z Z Ud u9 z3 hb hme (fun ab=>?_) (fun V=>?_))
 ·refine a0<|.J Z<|.p (bj Z Z)<|.p (bj Z Z)<|.I Z<|.I Z<|.nil<|h4<|.sq fun h9=>.sq fun a5=>?_;refine ak.region<|.J Z<|.p (ff Z)<|.nil<|a5<|.cond_false Z<|.skip<|h9<|.sq fun a6=>.region ?_;refine Ops.J Z<|.I Z<|.nil<|a6<|.rt (by exact aH Z (⟨_,_,Z,a1,wf,hb,by rw [zk ab];exact hme⟩))
 refine a0<|.J Z<|.p (bj Z Z)<|.p (bj Z Z)<|.I Z<|.I Z<|.nil<|h4<|.sq fun a7=>.sq fun a8=>?_;refine ak.region<|.J Z<|.p (ff Z)<|.nil<|a8<|.cond_true Z<|.sq fun a9=>.region<|.J Z<|.m (fun a2=>ul (Q:=Q) Z Ud hb hme ?_);refine a2<|.I Z<|.nil<|a9<|.region<|.J Z<|.J Z<|.J Z<|.m (fun a3=>pN (k:=k) Bn wf rfl rfl rfl Ud u9 hb hme (by rw [va];exact hnd) fun A22 ai ag h X=>?_);have a4:=an a1 ad ac h.n h.keep;rw [Rl V] at X;refine a3<|.nil<|a7<|.sq fun aa=>.region<|.J Z<|.I Z<|.nil<|aa<|.rt (by exact aH Z (⟨_,_,by rw [D9 V];rfl,a4,h.wf,h.get,by rw [zl V];exact X⟩))
theorem Ua:Oe prog 218 4:=⟨underlying218,underlying4,by kernel_rfl,by kernel_rfl⟩
theorem MY (n g1 g2:Nat) (aa a2:Array Value) (sf:Nat->Bool × Bool) (key:List Int->Nat->Wd) (A:AH) (hn:n<=100000) (dV:∀ i B,i < n->A.le B->B.wf->bH prog g1 (#[num ((i:Nat):Int)] ++ aa) B (fun v C=>v=jB (sf i)/\B.le C/\C.wf)) (dW:∀ (cls:List Int) (cv:Value) (i:Nat) B,bz B 1 cv (cf cls)->cls.length=n->(∀ c ∈ cls,0<=c/\c < (n:Int))->i < n->A.le B->B.wf->bH prog g2 (#[cv,num ((i:Nat):Int)] ++ a2) B (fun v C=>v=aM (key cls i)/\B.le C/\C.wf)) (R:List Int->Prop) (eN:R (bW ((List.range n).map sf)).1) (eQ:∀ cls:List Int,cls.length=n->R cls->R (bW ((List.range n).map (key cls))).1) (hinj:∀ cls:List Int,cls.length=n->(∀ c ∈ cls,0<=c/\c < (n:Int))->R cls->∀ i j,i < n->j < n->key cls i=key cls j->cls.getD i 0=cls.getD j 0):bH prog 181 #[num ((n:Nat):Int),.func (.func g1) #[] aa,.func (.func g2) #[] a2] A (fun v A1=>A.le A1/\A1.wf/\Fresh A A1 v 1 (cf (Ax n sf key))):=by
 refine aN (e:=[(0,num ((n:Nat):Int)),(1,.func (.func g1) #[] aa),(2,.func (.func g2) #[] a2)]) (args:=[num ((n:Nat):Int),.func (.func g1) #[] aa,.func (.func g2) #[] a2]) call181 func181 Z results181 ntmps181 Z Z Z (fun wf=>?_);have cP:=AH.le.refl A;refine ak.sq fun h2=>.region<|.I Z<|.nil<|h2<|.sq fun h4=>.region<|.I Z<|.nil<|h4 ?_;refine ak.sq fun h6=>.region<|.J Z<|.m (fun eR=>jo (n:=n) (k:=n) wf cP rfl rfl cQ cl z3 jq rfl (XX _) (by show 8 * _<=_;omega) O fun A9 b8 aZ aT=>?_);rw [ef] at aT;have bu:=cP.trans aZ.le;refine eR<|.I Z<|.nil<|h6<|.sq fun en=>.region<|.m (fun dZ=>o5 aZ.wf fun A17 b9 az=>?_);refine dZ<|.I Z<|.nil<|en<|.sq fun er=>.sq fun ev=>.region<|.J Z<|.J Z<|.nil ?_;refine ev<|.block<|.loop (X:=Nat × List Int × List (Bool × Bool) × Array MapEntry × Nat × Value) (fun ⟨i,o,Q,es,ck,cv⟩=>[(0,num ((n:Nat):Int)),(1,.func (.func g1) #[] aa),(2,.func (.func g2) #[] a2),(7,.func (.func 201) #[] #[]),(8,cv),(9,.map (some b9)),(21,num ((n:Nat):Int)),(22,num ((i:Nat):Int))]) (fun ⟨i,o,Q,es,ck,cv⟩ B=>(i<=n/\o7 n sf i o Q/\dF jB es (oB Q))/\A.le B/\Fresh A B cv 1 (cf o)/\B.get b9=some (.obj true (.map es ck))/\V.blk cv ≠ some b9) (fun ⟨i,o,Q,es,ck,cv⟩=>n - i) (⟨0,List.replicate n 0,[],#[],0,.slice (some ⟨b8,0,none⟩) n n⟩) (un Z Z Z Z Z Z Z Z) (⟨⟨XZ _,o7.start,dF.nil⟩,(bu.trans az.le),(aT.le az.le),az.get,(aT.own.ne_new aZ.wf az.lo)⟩) ?_;rintro ⟨i,o,Q,es,ck,cv⟩ B27 ⟨⟨hi,hnu,hme⟩,aY,aC,av,h⟩;refine ak.wf fun eg=>?_;have hol:=hnu.len hi;have hql:=hnu.le;refine ak.sq fun ex=>.region<|.p (bK Z Z)<|.nil<|ex<|.sq fun ey=>.if rfl (fun eY=>?_) (fun eY=>?_)
 ·refine ak.skip<|ey<|.sq fun ch=>.block<|.sq fun ez=>.region<|.J Z<|.I Z<|.nil<|ez ?_;refine ak.sq fun eA=>.region<|.J Z<|.J Z<|.m (fun e0=>pY Z Z (dV i B27 O aY eg) ?_);rintro fM A42 ⟨rfl,aG,aR⟩;have ct:=aG.g av;have bc:=aC.le aG;have bv:=aY.trans aG;refine e0<|.m (fun e1=>co aR aac rfl fun A49 fn a6=>?_);refine e1<|.m (fun e2=>aU (cs:=[.bool ((sf i).1),.bool ((sf i).2)]) (c':=[.bool ((sf i).1),.bool ((sf i).2)]) a6.wf rfl rfl rfl rfl FK a6.get G rfl rfl fun A56 a7=>?_);have b2:=a7.k (ne_new aR ct a6.lo) (a6.le.g ct);have bd:=(bc.le a6.le).keep a7.keep (bc.own.ne_new aR a6.lo);have bA:=an (bv.trans a6.le) wf (bh wf (Xj bv.n a6.lo)) a7.n a7.keep;refine e2<|.nil<|eA<|.sq fun cC=>.region<|.J Z<|.p (ao Ou FK Z Z a7.get Z)<|.look2G (L:=Q) (k:=sf i) Z Z Z Ya Ua z3 b2 hme (fun e6=>?_) (fun bp=>?_)
  ·refine Ops.J Z<|.p (bj Z Z)<|.p (bj Z Z)<|.I Z<|.I Z<|.nil<|cC<|.sq fun eB=>.sq fun eC=>.region ?_;refine Ops.J Z<|.p (ff Z)<|.nil<|eC<|.cond_false Z<|.skip<|eB<|.region<|.J Z<|.J Z ?_;refine Ops.J Z ?_;obtain ⟨fo,fD,fr,eZ,f7,c7,cH,ek,fN,eV,fI,eS⟩:=bd.at1 (x:=i) O2;rw [aj] at cH;refine Ops.p (al cQ cl Z c7 Z (by rw [cH];omega))<|.m (fun e3=>aU (off:=i) (c':=eZ.set i (num ((ji Q (sf i):Nat):Int))) a7.wf rfl (by simp) rfl rfl cl ek (by show i + 1<=_;omega) rfl rfl fun A71 aI=>?_);have eE:=aI.k (fun q=>h (by rw [c7];exact Xk some q.symm)) b2;have bl:=eS (num ((ji Q (sf i):Nat):Int)) A71 aI;rw [dp] at bl;refine e3<|.nil<|ch<|.region<|.p (bk (b:=1) Z Z O)<|.J Z<|.nil ?_;exact ⟨⟨i + 1,o.set i (((ji Q (sf i):Nat):Int)),Q,es,ck,cv⟩,un Z Z Z Z Z Z Z Z,Z,⟨⟨by omega,hnu.old O e6,hme⟩,(an bA wf eV aI.n aI.keep),bl,eE,h⟩,O1⟩
  refine Ops.J Z<|.p (bj Z Z)<|.p (bj Z Z)<|.I Z<|.I Z<|.nil<|cC<|.sq fun eG=>.sq fun eK=>.region ?_;refine Ops.J Z<|.p (ff Z)<|.nil<|eK<|.cond_true Z<|.sq fun eL=>.region<|.J Z<|.m (fun e4=>ul (Q:=Q) Z Ya b2 hme ?_);refine e4<|.I Z<|.nil<|eL<|.region<|.J Z<|.p (ao Ou FK Z Z a7.get Z)<|.J Z<|.new2G (L:=Q) (k:=sf i) rfl a7.wf rfl rfl rfl Ya Ua b2 hme bp fun A84 cX cV aA e9=>?_;have cZ:=bd.keep aA.keep h;refine Ops.nil<|eG<|.region<|.J Z<|.J Z<|.J Z ?_;obtain ⟨fq,fE,ft,f0,f9,cc,cK,em,fO,eX,fL,eT⟩:=cZ.at1 (x:=i) O2;rw [aj] at cK;refine Ops.p (al cQ cl Z cc Z (by rw [cK];omega))<|.m (fun e5=>aU (off:=i) (c':=f0.set i (num ((Q.length:Nat):Int))) aA.wf rfl (by simp) rfl rfl cl em (by show i + 1<=_;omega) rfl rfl fun A94 aP=>?_);have eM:=aP.k (fun q=>h (by rw [cc];exact Xk some q.symm)) aA.get;have bm:=eT (num ((Q.length:Nat):Int)) A94 aP;rw [dp] at bm;refine e5<|.nil<|ch<|.region<|.p (bk (b:=1) Z Z O)<|.J Z<|.nil ?_;exact ⟨⟨i + 1,o.set i (((Q.length:Nat):Int)),Q ++ [sf i],cX,cV,cv⟩,un Z Z Z Z Z Z Z Z,Z,⟨⟨by omega,hnu.new O bp,e9⟩,(an (an bA wf (bh wf (Xj bu.n az.lo)) aA.n aA.keep) wf eX aP.n aP.keep),bm,eM,h⟩,O1⟩
 refine ak.exit<|er<|.sq fun d1=>.region<|.J Z<|.m (fun bP=>ul (Q:=Q) Z Ya av hme ?_);refine bP<|.I Z<|.nil<|d1<|.block ?_;have hnf:=hnu.fin O;have fv:=hnu.le;refine ak.loop (X:=Nat × List Int × Value) (fun ⟨cnt,cls,kv⟩=>[(0,num ((n:Nat):Int)),(2,.func (.func g2) #[] a2),(7,.func (.func 201) #[] #[]),(8,kv),(14,num ((cnt:Nat):Int))]) (fun ⟨cnt,cls,kv⟩ B=>(sU n sf key cnt cls/\R cls)/\A.le B/\Fresh A B kv 1 (cf cls)) (fun ⟨cnt,cls,kv⟩=>n - cnt) (⟨Q.length,o,cv⟩) (nR Z Z Z Z Z) (⟨⟨sU.start hnf,by have:=eN;rw [hnf] at this;exact this⟩,aY,aC⟩) ?_;rintro ⟨cnt,cls,kv⟩ B104 ⟨⟨hcl,hRc⟩,b3,ap⟩;refine ak.wf fun b6=>?_;have hcll:=hcl.len;have hclc:=hcl.cnt;refine ak.block<|.sq fun d2=>.region<|.J Z<|.m (fun bR=>jo (n:=n) (k:=n) b6 b3 rfl rfl cQ cl z3 jq rfl (XX _) (by show 8 * _<=_;omega) O fun A110 cS a8 aD=>?_);rw [ef] at aD;have b0:=ap.le a8.le;have b5:=b3.trans a8.le;have c4:=aL.of_new (n:=n) (c:=n) ap.own b6 a8.lo;refine bR<|.I Z<|.nil<|d2<|.sq fun d3=>.region<|.m (fun bS=>o5 a8.wf fun A121 a5 a4=>?_);refine bS<|.I Z<|.nil<|d3<|.sq fun dd=>.sq fun di=>.region<|.J Z<|.J Z<|.nil ?_;refine di<|.block<|.loop (X:=Nat × List Int × List Wd × Array MapEntry × Nat × Value) (fun ⟨j,o3,Q3,es,ck,nv⟩=>[(0,num ((n:Nat):Int)),(2,.func (.func g2) #[] a2),(7,.func (.func 201) #[] #[]),(8,kv),(14,num ((cnt:Nat):Int)),(15,nv),(16,.map (some a5)),(51,num ((n:Nat):Int)),(52,num ((j:Nat):Int))]) (fun ⟨j,o3,Q3,es,ck,nv⟩ B=>(j<=n/\o7 n (key cls) j o3 Q3/\dF aM es (oB Q3))/\A.le B/\Fresh A B nv 1 (cf o3)/\Fresh A B kv 1 (cf cls)/\B.get a5=some (.obj true (.map es ck))/\V.blk nv ≠ some a5/\V.blk kv ≠ some a5/\aL nv kv) (fun ⟨j,o3,Q3,es,ck,nv⟩=>n - j) (⟨0,List.replicate n 0,[],#[],0,.slice (some ⟨cS,0,none⟩) n n⟩) (Ut Z Z Z Z Z Z Z Z Z) (⟨⟨XZ _,o7.start,dF.nil⟩,(b5.trans a4.le),(aD.le a4.le),(b0.le a4.le),a4.get,(aD.own.ne_new a8.wf a4.lo),(b0.own.ne_new a8.wf a4.lo),c4⟩) ?_;rintro ⟨j,o3,Q3,es,ck,nv⟩ B133 ⟨⟨hj,ar,aV⟩,ai,a9,ad,a3,a0,a1,ag⟩;refine ak.wf fun b7=>?_;have f3:=ar.len hj;have f4:=ar.le;refine ak.sq fun dj=>.region<|.p (bK Z Z)<|.nil<|dj<|.sq fun dv=>.if rfl (fun eb=>?_) (fun eb=>?_)
 ·refine ak.skip<|dv<|.sq fun dw=>.block<|.sq fun dz=>.region<|.J Z<|.I Z<|.nil<|dz ?_;refine ak.region<|.J Z<|.J Z<|.J Z<|.J Z<|.J Z<|.J Z<|.J Z<|.m (fun bT=>pY Z Z (dW cls kv j B133 ad.slc hcll hcl.rng O ai b7) ?_);rintro fe A146 ⟨rfl,ab,bC⟩;have dD:=ab.g a3;refine bT ?_;have c3:=cy (bs:=[some a5]) (ai.trans ab) (yn (bh wf (Xj b5.n a4.lo)) rK);refine Ops.m (fun bU=>pY Z Z (Tm a5 es ck Q3 (key cls j) (A146.hide [some a5]) A146 (cL A146 [some a5]) (cx bC) dD (cD (by simp)) aV ar.nd) ?_);rintro fl A154 ⟨bb,ba,rfl,ay,bD,aB,bB⟩;have bL:=(a9.le ab).off (ln a0 lm) ay;have bM:=(ad.le ab).off (ln a1 lm) ay;refine bU ?_;obtain ⟨cT,f6,f2,ee,f1,aS,br,d0,fm,ea,fd,e7⟩:=bL.at1 (x:=j) O2;rw [aj] at br;refine Ops.p (al cQ cl Z aS Z (by rw [br];omega))<|.m (fun bV=>aU (off:=j) (c':=ee.set j (num ((ji Q3 (key cls j):Nat):Int))) bD rfl (by simp) rfl rfl cl d0 (by show j + 1<=_;omega) rfl rfl fun A162 ac=>?_);have dG:=ac.k (fun q=>a0 (by rw [aS];exact Xk some q.symm)) aB;have bO:=bM.keep ac.keep (ag cT (by rw [aS];rfl));have b1:=e7 (num ((ji Q3 (key cls j):Nat):Int)) A162 ac;rw [dp] at b1;refine bV<|.nil<|dw<|.region<|.p (bk (b:=1) Z Z O)<|.J Z<|.nil ?_;exact ⟨⟨j + 1,o3.set j (((ji Q3 (key cls j):Nat):Int)),j6 Q3 (key cls j),bb,ba,nv⟩,Ut Z Z Z Z Z Z Z Z Z,Z,⟨⟨by omega,ar.next O,bB⟩,(an (c3.trans ay) wf ea ac.n ac.keep),b1,bO,dG,a0,a1,ag⟩,O1⟩
 refine ak.exit<|dd<|.sq fun dI=>.region<|.J Z<|.I Z<|.nil<|dI<|.sq fun dJ=>.sq fun dO=>?_;have aF:=ar.fin O;refine ak.region<|.J Z<|.m (fun bY=>ul (Q:=Q3) Z Ud a3 aV ?_);refine bY<|.J Z<|.p (jM Z Z)<|.nil<|dO<|.if rfl (fun ec=>?_) (fun ec=>?_)
 ·refine ak.sq fun dS=>.region<|.J Z<|.I Z<|.nil<|dS<|.rt (by exact aH Z (⟨ai,b7,ci a9 (Xk cf (hcl.stop aF ‹_›))⟩))
 refine ak.skip<|dJ<|.region<|.J Z<|.m (fun c0=>ul (Q:=Q3) Z Ud a3 aV ?_);refine c0<|.I Z<|.nil ?_;exact ⟨⟨Q3.length,o3,nv⟩,nR Z Z Z Z Z,Z,⟨⟨(hcl.next (fun i j hi hj=>hinj cls hcll hcl.rng hRc i j hi hj) aF ‹_›).1,by have:=eQ cls hcll hRc;rw [aF] at this;exact this⟩,ai,a9⟩,(by have:=(hcl.next (fun i j hi hj=>hinj cls hcll hcl.rng hRc i j hi hj) aF ‹_›).2;(try dsimp only);omega)⟩
namespace V
section
variable {P:Program} {nt:Nat} {Q:Exit->Fr->AH->Prop} {A M:AH} {e:ii} {ds:List Deferred}
theorem ak.rangeOwnP {g:Operand} {gf:Nat} {lb:Array Value} {ps:Array Tmp} {assign body:Code} (b4 n:Nat) (xs:Nat->List Value) (I:Nat->AH->Prop) (e1:Nat->ii)
    (hg:cd e g=some (.func (.func gf) #[] lb)) (eg:gx P gf) (hps:∀ i,(xs i).length=ps.size) (hpn:∀ p ∈ ps.toList,p < nt) (a3:b4 < A.n) (hM:cG b4 M A)
    (hI:∀ i B B',I i B->B'.wf->B.n<=B'.n->(∀ b o,(b < A.n\/nY b4 B b)->B.get b=some o->B'.get b=some o)->I i B')
    (hv:∀ i B,I i B->∃ v cap,B.get b4=some (.row true [v] cap)/\∀ b,blk v=some b->∃ o,B.get b=some o) (h0:I 0 A)
    (hiter:∀ l (J:Nat->AH->Prop) B M,B.n=A.n + 2->A.le B->B.wf->cG b4 M B->(∀ i C,J i C->I i C) ->
      (∀ i C C',J i C->C'.wf->C.n<=C'.n->(∀ b o,(b < B.n\/nY b4 C b)->C.get b=some o->C'.get b=some o)->J i C')->J 0 B ->
      (∀ i C M',i < n->C.wf->J i C->cG b4 M' C->mN P l (xs i).toArray C (fun v C'=>v=.bool true/\J (i + 1) C'/\C'.wf/\cG b4 M' C')) ->
      bH P gf (#[.func (.yield l) #[] #[]] ++ lb) B (fun _ C=>J n C/\C.wf/\cG b4 M C))
    (hassign:∀ F i B,yo F->i < n->fh P nt F assign (xy fun f C=>am (e1 i) f.e/\f.ds=[]/\B.le C/\C.wf) ⟨Cj ps.toList (xs i) e,[]⟩ B)
    (hbody:∀ F i B M',yo F->i < n->I i B->B.wf->A.n<=B.n->cG b4 M' B->fh P nt F body (xy fun _ C=>I (i + 1) C/\C.wf/\cG b4 M' C) ⟨e1 i,[]⟩ B)
    (hK:∀ B D,I n B->B.wf->A.n<=D->A.n<=B.n->B.get D=some (.obj true (.deferred (some [])))->¬ nY b4 B D->cG b4 M B->Q .normal ⟨e,mark D :: ds⟩ B) :
    ak P nt (.rangeFunc g ps assign body) Q ⟨e,ds⟩ A:=by
  intro a w ha hw
  refine wpIn_wide.1 (wpIn_rangeFunc (n:=0) ?_)
  intro fn _
  rw [show Fence.wide.round=none from rfl]
  obtain ⟨rec,hrec⟩:∃ rec:LoopState->Option Code->Loop,rec=fun st pe=>{ state:=st,pending:=pe,fn,tmps:=a.tmps,params:=ps,assign,body,defers:=w.heap.size }:=⟨_,rfl⟩
  have hsz:w.heap.size=A.n:=hw.size
  have wfA:=hw.wf
  have hA:∀ b,nY b4 A b->b < A.n:=fun b hb=>by
    obtain ⟨v,cap,g1,g2⟩:=hv 0 A h0
    rcases hb.val g1 with rfl | q
    · exact a3
    · obtain ⟨o,ho⟩:=g2 b q;exact wfA _ _ ho
  obtain ⟨v1,s1⟩:=kf (o:=.obj true (.deferred (some []))) (x:=.deferred (some [])) hw ⟨rfl,fun _ _ _ q=>by cases q⟩
  obtain ⟨v2,s2⟩:=kf (o:=.obj true (.loop (rec .ready none))) (x:=.loop (rec .ready none)) v1 ⟨rfl,fun _ _ _ q=>by cases q⟩
  have hgl:((A.new (.obj true (.deferred (some [])))).new (.obj true (.loop (rec .ready none)))).get (A.n + 1)=some (.obj true (.loop (rec .ready none))):=AH.new_get_same _ _
  have hgd:((A.new (.obj true (.deferred (some [])))).new (.obj true (.loop (rec .ready none)))).get A.n=some (.obj true (.deferred (some []))):=by
    rw [AH.new_get_ne _ _ (by simp)];exact AH.new_get_same _ _
  have hkeep:∀ b,b < A.n->((A.new (.obj true (.deferred (some [])))).new (.obj true (.loop (rec .ready none)))).get b=A.get b:=fun b hb=>by
    rw [AH.new_get_ne _ _ Or,AH.new_get_ne _ _ O]
  have hleA:A.le ((A.new (.obj true (.deferred (some [])))).new (.obj true (.loop (rec .ready none)))):=AH.le_new (AH.le_new (AH.le.refl A) wfA _) wfA _
  have hnB:((A.new (.obj true (.deferred (some [])))).new (.obj true (.loop (rec .ready none)))).n=A.n + 2:=rfl
  generalize ((A.new (.obj true (.deferred (some [])))).new (.obj true (.loop (rec .ready none))))=B0 at *
  have ac:I 0 B0:=hI 0 A _ h0 v2.wf O fun b o hb hgb=>by rw [hkeep b (wfA _ _ hgb)];exact hgb
  have a9:∀ b,nY b4 B0 b->b < A.n:=fun b hb=>hA b (hb.same (hkeep b4 a3))
  have hgev:a.eval g=.func (.func gf) #[] lb:=cI ha hg
  -- what is kept of the loop's own blocks
  have nl:b4 ≠ A.n + 1:=by omega
  refine ⟨w.heap.size + 1,[mark w.heap.size],(w.alloc (.deferred (some []))).alloc (.loop (rec .ready none)),{ target:=.fn (.func gf) lb,args:=#[.func (.yield (w.heap.size + 1)) #[] #[]] },(w.alloc (.deferred (some []))).alloc (.loop (rec .ready none)),gf,
    #[.func (.yield (w.heap.size + 1)) #[] #[]] ++ lb,(w.alloc (.deferred (some []))).alloc (.loop (rec .ready none)),?_,?_,fun _ _=>trivial,?_,fun q=>(by cases q),?_⟩
  · rw [hrec];exact run_enterLoop_outer _ _ _ _ _
  · simp only [resolve,hgev]
    simp [go_sem]
  · have eg':=eg
    unfold gx at eg'
    simp [invoke,go_sem,eg']
  · rw [hsz]
    have ag:cG b4 M B0:=⟨hM.le.trans hleA,hM.wf,fun b hb=>hM.ow b (hb.same (hkeep b4 a3))⟩
    have hcall:=hiter (A.n + 1) (fun i C=>I i C/\C.get (A.n + 1)=some (.obj true (.loop (rec .ready none)))/\C.get A.n=some (.obj true (.deferred (some [])))/\¬ nY b4 C (A.n + 1)/\¬ nY b4 C A.n) B0 M hnB hleA v2.wf ag (fun i C h=>h.1)
      (fun i C C' h wf hn hk=>?_) ⟨ac,hgl,hgd,fun q=>by have:=a9 _ q;omega,fun q=>by have:=a9 _ q;omega⟩ ?_
    · refine (callsIn_wide.2 (hcall.2 _ v2)).mono ?_
      rintro en w' ⟨A',hv',hs',v,rfl,⟨⟨hIn,hgl',hgd',X,a0⟩,hwf',hM'⟩⟩
      obtain ⟨q1,_⟩:=hv'.obj hgl'
      obtain ⟨v3,s3⟩:=m9 P (y:=.loop { rec .ready none with state:=.exhausted }) hv' hgl' (fun _ _ _ q=>by cases q)
      refine ⟨none,w'.putObj (A.n + 1) (.loop { rec .ready none with state:=.exhausted }),by
        have h7:=run_endLoop (P:=P) q1 (by rw [hrec];simp)
        have h8:(rec .ready none).pending=none:=by rw [hrec]
        exact h7.trans (Xk (fun j=>Result.ok j _) h8),?_⟩
      have hl':=hwf' _ _ hgl'
      refine ⟨⟨e,mark A.n :: ds⟩,_,⟨ha.size,ha.slot,by show [mark _] ++ a.defers=_;rw [ha.ds];rfl⟩,v3,((s1.trans s2).trans hs').trans s3,?_,fun _ q=>by cases q⟩
      have hset:∀ b,b ≠ A.n + 1->(A'.set (A.n + 1) (.obj true (.loop { rec .ready none with state:=.exhausted }))).get b=A'.get b:=fun b hb=>AH.set_get_ne _ _ hb
      refine hK _ A.n (hI n A' _ hIn v3.wf (XX _) fun b o hb hgb=>?_) v3.wf (XX _) Or ?_ ?_ ⟨⟨hM'.le.n,fun b o hb=>?_⟩,hM'.wf,fun b hb=>hM'.ow b (hb.same (hset b4 nl))⟩
      · rw [hset];exact hgb
        rintro rfl
        rcases hb with hb | hb
        · omega
        · exact X hb
      · rw [hset _ O];exact hgd'
      · exact fun q=>a0 (q.same (hset b4 nl))
      · have h1:=hM.le.get b o hb
        have h2:=wfA _ _ h1
        rw [hset _ O];exact hM'.le.get b o hb
    · obtain ⟨hIC,g1,g2,X,a0⟩:=h
      obtain ⟨v,cap,hr,_⟩:=hv i C hIC
      have e4:C'.get b4=C.get b4:=by rw [hr];exact hk b4 _ (.inr (.inl Z)) hr
      exact ⟨hI i C C' hIC wf hn (fun b o hb hgb=>hk b o (hb.imp (fun q=>by omega) id) hgb),hk _ _ (.inl O) g1,hk _ _ (.inl O) g2,fun q=>X (q.same e4),fun q=>a0 (q.same e4)⟩
    · rintro i C M' hi hwfC ⟨hIC,hgl',hgd',X,a0⟩ hMC w' hv'
      obtain ⟨q1,_⟩:=hv'.obj hgl'
      have hy:=run_yield (P:=P) (args:=(xs i).toArray) q1 (by rw [hrec];simpa using hps i)
      refine ⟨fn,_,assign,body,(by rw [hrec] at hy;exact hy),roundIn_of_wpIn trivial ?_⟩
      have hact:de nt ⟨Cj ps.toList (xs i) e,[]⟩ { tmps:=(ps.zip (xs i).toArray).foldl (fun t p=>t.setIfInBounds p.1 p.2) a.tmps,defers:=[] }:=by
        have:=vd (nt:=nt) (ps.toList.zip (xs i)) e a.tmps (fun p hp=>hpn _ (List.of_mem_zip hp).1) ⟨ha.size,ha.slot,rfl⟩
        rw [<- Array.foldl_toList,Array.toList_zip]
        exact this
      have ap:=hassign (FR (A.n + 1)) i C (ry _) hi _ w' hact hv'
      refine wpIn_mono ap ?_
      rintro x a1 w1 ⟨f1,C1,h1,h2,h3,h4,h5⟩
      cases x <;> (try exact h4.elim)
      obtain ⟨hE,hds,hleC,ar⟩:=h4
      obtain ⟨fe,fds⟩:=f1
      simp only at hE hds
      subst hds
      obtain ⟨vC,capC,gC,lC⟩:=hv i C hIC
      have owC:∀ b,nY b4 C b->b < C.n:=fun b hb=>by
        rcases hb.val gC with rfl | q
        · exact hwfC _ _ gC
        · obtain ⟨o,ho⟩:=lC b q;exact hwfC _ _ ho
      have ab:C1.get b4=C.get b4:=by rw [gC];exact hleC.get _ _ gC
      have a4:=hleC.get _ _ hgl'
      have aa:=hleC.get _ _ hgd'
      obtain ⟨q2,_⟩:=h2.obj a4
      obtain ⟨v4,s4⟩:=m9 P (y:=.loop { rec .ready none with state:=.busy }) h2 a4 (fun _ _ _ q=>by cases q)
      refine ⟨_,run_beginRound q2 (by rw [hrec]),?_⟩
      have hl':=hwfC _ _ hgl'
      have hd':=hwfC _ _ hgd'
      have hnC:=hleC.n
      have hset:∀ b,b ≠ A.n + 1->(C1.set (A.n + 1) (.obj true (.loop { rec .ready none with state:=.busy }))).get b=C1.get b:=fun b hb=>AH.set_get_ne _ _ hb
      have hsetl:(C1.set (A.n + 1) (.obj true (.loop { rec .ready none with state:=.busy }))).get (A.n + 1)=some (.obj true (.loop { rec .ready none with state:=.busy })):=AH.set_get_same _ _ _
      have hsetn:(C1.set (A.n + 1) (.obj true (.loop { rec .ready none with state:=.busy }))).n=C1.n:=rfl
      generalize C1.set (A.n + 1) (.obj true (.loop { rec .ready none with state:=.busy }))=B1 at *
      have hIB:I i B1:=hI i C _ hIC v4.wf O fun b o hb hgb=>by
        rw [hset];exact hleC.get _ _ hgb
        rintro rfl
        rcases hb with hb | hb
        · omega
        · exact X hb
      have ai:∀ b,nY b4 B1 b->nY b4 C b:=fun b hb=>(hb.same (hset b4 nl)).same ab
      have hMs:cG b4 ⟨C.n,fun b=>if b=A.n + 1 then some (.obj true (.loop { rec .ready none with state:=.busy })) else if b=A.n then some (.obj true (.deferred (some []))) else M'.get b⟩ B1:=by
        refine ⟨⟨by show C.n<=B1.n;omega,fun b o hb=>?_⟩,fun b o hb=>?_,fun b hb=>?_⟩
        · simp only at hb
          split at hb
          · rename_i q;subst q;rw [hsetl];exact hb
          · rename_i q
            rw [hset b q]
            split at hb
            · rename_i q2;subst q2;rw [aa];exact hb
            · exact hleC.get _ _ (hMC.le.get b o hb)
        · simp only at hb
          split at hb
          · show b < C.n;omega
          · split at hb
            · show b < C.n;omega
            · exact hwfC b o (hMC.le.get b o hb)
        · have h6:=ai b hb
          simp only
          rw [Xy (fun q:b=A.n + 1=>X (q ▸ h6)),Xy (fun q:b=A.n=>a0 (q ▸ h6))]
          exact hMC.ow b h6
      have hb:=hbody (FR (A.n + 1)) i B1 _ (ry _) hi hIB v4.wf O hMs
      refine wpIn_mono (hb _ _ (de.le h1 hE) v4) ?_
      rintro x a2 w2 ⟨f2,A2,g1,g2,g3,g4,g5⟩
      cases x <;> (try exact g4.elim)
      obtain ⟨ad,av,V⟩:=g4
      have a7:A2.get (A.n + 1)=some (.obj true (.loop { rec .ready none with state:=.busy })):=V.le.get _ _ (Xw Z)
      have a6:A2.get A.n=some (.obj true (.deferred (some []))):=V.le.get _ _ (by simp [show ¬ A.n=A.n + 1 by omega])
      have a5:¬ nY b4 A2 (A.n + 1):=fun q=>by have:=V.ow _ q;simp only [if_true] at this;cases this
      have a8:¬ nY b4 A2 A.n:=fun q=>by have:=V.ow _ q;simp [show ¬ A.n=A.n + 1 by omega] at this
      obtain ⟨q3,_⟩:=g2.obj a7
      obtain ⟨v5,s5⟩:=m9 P (y:=.loop { ({ rec .ready none with state:=.busy }:Loop) with state:=.ready,pending:=none }) g2 a7 (fun _ _ _ q=>by cases q)
      refine ⟨_,_,run_endRound (P:=P) none q3,_,_,Z,v5,((h3.trans s4).trans g3).trans s5,Z,⟨?_,?_,?_,?_,?_⟩,v5.wf,?_⟩
      · exact hI (i + 1) A2 _ ad v5.wf (XX _) fun b o hb hgb=>by
          rw [AH.set_get_ne];exact hgb
          rintro rfl
          rcases hb with hb | hb
          · omega
          · exact a5 hb
      · rw [AH.set_get_same,hrec]
      · rw [AH.set_get_ne _ _ O];exact a6
      · exact fun q=>a5 (q.same (AH.set_get_ne _ _ nl))
      · exact fun q=>a8 (q.same (AH.set_get_ne _ _ nl))
      · refine ⟨⟨Xj hMC.le.n (by have:=V.le.n;exact this),fun b o hb=>?_⟩,hMC.wf,fun b hb=>?_⟩
        · by_cases q:b=A.n + 1
          · subst q
            have h6:=hMC.le.get _ _ hb
            rw [hgl'] at h6
            rw [AH.set_get_same,<- h6,hrec]
          · rw [AH.set_get_ne _ _ q]
            by_cases q2:b=A.n
            · subst q2;rw [a6,<- hMC.le.get _ _ hb,hgd']
            · exact V.le.get b o (by simp only;rw [Xy q,Xy q2];exact hb)
        · have h6:nY b4 A2 b:=hb.same (AH.set_get_ne _ _ nl)
          have h7:=V.ow b h6
          simp only at h7
          rw [Xy (fun q:b=A.n + 1=>a5 (q ▸ h6)),Xy (fun q:b=A.n=>a8 (q ▸ h6))] at h7
          exact h7
end
end V
section
variable {lv:List Bool} {N:List (List Int)} {cls:List Int} {i j n:Nat} {o:Wd} {m:Int}
def tq (lv:List Bool) (N:List (List Int)) (cls:List Int) (i j:Nat):Wd:=iy (cls.getD i 0).toNat ++ ((N.getD i []).take j).flatMap (pq lv cls)
theorem zj (hj:j < (N.getD i []).length):tq lv N cls i (j + 1)=tq lv N cls i j ++ pq lv cls ((N.getD i []).getD j 0):=by
  rw [tq,<- fP (z:=(0:Int)) hj,List.flatMap_append,<- Tk]
  simp [tq]
theorem JO (h:o=tq lv N cls i j) (hj:j < (N.getD i []).length) (q:cB lv ((N.getD i []).getD j 0)=false):o ++ [32]=tq lv N cls i (j + 1):=by
  rw [zj hj,pq,q,h];simp
theorem Qo (h:o=tq lv N cls i j) (hj:j < (N.getD i []).length) (q:cB lv ((N.getD i []).getD j 0)=true):o ++ [32] ++ iy (cls.getD ((N.getD i []).getD j 0).toNat 0).toNat=tq lv N cls i (j + 1):=by
  rw [zj hj,pq,q,h,Tk];simp
theorem xk (h:¬ 0<=m):cB lv m=false:=by rw [cB,Xv h];rfl
theorem LU (h:m < 0):cB lv m=false:=xk O
theorem pt (h:0<=m):cB lv m=lv.getD m.toNat false:=by rw [cB,Vv h];rfl
theorem Qs:(pq lv cls m).length<=14:=by
  unfold pq;split
  · have:=uM (cls.getD m.toNat 0).toNat;rw [Xq];omega
  · simp
theorem Qm:(tq lv N cls i j).length<=13 + 14 * j:=by
  have h1:=uM (cls.getD i 0).toNat
  have h2:∀ l:List Int,(l.flatMap (pq lv cls)).length<=14 * l.length:=by
    intro l
    induction l with
    | nil=>simp
    | cons a l ih=>have:=Qs (lv:=lv) (cls:=cls) (m:=a);rw [Sj,Xz,Xq];omega
  have h3:=h2 ((N.getD i []).take j)
  have:((N.getD i []).take j).length<=j:=List.length_take_le _ _
  rw [tq,Xz];omega
theorem ol (h:lv.getD i false=false):mY lv N cls i=[45]:=by rw [mY,h];rfl
theorem LH (h:lv.getD i false=true) (hj:(N.getD i []).length=j):mY lv N cls i=tq lv N cls i j:=by
  rw [mY,Xw h,tq,<- hj,Ry]
theorem uN (n:Nat):iy n ≠ []:=by
  unfold iy uO
  split
  · simp
  · simp
theorem Cz {a b x y:Wd} (ha:∀ c ∈ a,c ≠ 32) (hb:∀ c ∈ b,c ≠ 32) (hx:x=[]\/∃ t,x=32 :: t) (hy:y=[]\/∃ t,y=32 :: t) (e:a ++ x=b ++ y):a=b/\x=y:=by
  induction a generalizing b with
  | nil =>
    cases b with
    | nil=>exact ⟨Z,e⟩
    | cons c b =>
      rcases hx with rfl | ⟨t,rfl⟩
      · simp at e
      · simp only [List.nil_append,List.cons_append,List.cons.injEq] at e
        exact absurd e.1.symm (hb c VX)
  | cons c a ih =>
    cases b with
    | nil =>
      rcases hy with rfl | ⟨t,rfl⟩
      · simp at e
      · simp only [List.nil_append,List.cons_append,List.cons.injEq] at e
        exact absurd e.1 (ha c VX)
    | cons d b =>
      simp only [List.cons_append,List.cons.injEq] at e
      obtain ⟨h1,h2⟩:=ih (fun c hc=>ha c (VZ _ hc)) (fun c hc=>hb c (VZ _ hc)) e.2
      exact ⟨by rw [e.1,h1],h2⟩
theorem mC (l:List Int):l.flatMap (pq lv cls)=[]\/∃ t,l.flatMap (pq lv cls)=32 :: t:=by
  cases l with
  | nil=>exact .inl Z
  | cons a l=>right;rw [Sj,pq];exact ⟨_,Z⟩
theorem Ql (hcl:cls.length=n) (hcr:∀ c ∈ cls,0<=c/\c < (n:Int)) (hn:n<=100000) (hd:∀ i j,i < n->j < n->lv.getD i false=false->lv.getD j false=false->cls.getD i 0=cls.getD j 0) (i j:Nat) (hi:i < n) (hj:j < n) (h:mY lv N cls i=mY lv N cls j):cls.getD i 0=cls.getD j 0:=by
  have hm:∀ i,(∃ t,iy (cls.getD i 0).toNat ++ t=[45])->False:=fun i ⟨t,z⟩=>by
    have h1:=pn 13 (cls.getD i 0).toNat
    cases hf:iy (cls.getD i 0).toNat with
    | nil=>exact uN _ hf
    | cons c l =>
      rw [hf] at z
      simp only [List.cons_append,List.cons.injEq] at z
      exact (h1 c (by show c ∈ iy _;rw [hf];exact VX)).2 z.1
  cases hli:lv.getD i false with
  | false =>
    cases hlj:lv.getD j false with
    | false=>exact hd i j hi hj hli hlj
    | true=>rw [ol hli,mY,Xw hlj] at h;exact absurd ⟨_,h.symm⟩ (hm j)
  | true =>
    cases hlj:lv.getD j false with
    | false=>rw [ol hlj,mY,Xw hli] at h;exact absurd ⟨_,h⟩ (hm i)
    | true =>
      rw [mY,mY,Xw hli,Xw hlj] at h
      have h1:=hcr _ (aX (d:=(0:Int)) (show i < cls.length by omega))
      have h2:=hcr _ (aX (d:=(0:Int)) (show j < cls.length by omega))
      have:=(Cz (fun c hc=>(pn 13 _ c hc).1) (fun c hc=>(pn 13 _ c hc).1) (mC _) (mC _) h).1
      have:=zb O O this
      omega
def yK (lv:List Bool) (n:Nat) (cls:List Int):Prop:=∀ i j,i < n->j < n->lv.getD i false=false->lv.getD j false=false->cls.getD i 0=cls.getD j 0
theorem eW {K:Type} (f:Nat->K) (d:K) (hi:i < n):((List.range n).map f).getD i d=f i:=by simp [XJ,hi]
theorem yY {K:Type} [DecidableEq K] (f:Nat->K) (d:K) (h:∀ i j,i < n->j < n->lv.getD i false=false->lv.getD j false=false->f i=f j):yK lv n (bW ((List.range n).map f)).1:=fun i j hi hj h1 h2 =>
  (py _ (d:=d) (by simpa using hi) (by simpa using hj)).2 (by rw [eW f d hi,eW f d hj];exact h i j hi hj h1 h2)
end
section
variable {n k:Nat} {lv:List Bool} {N:List (List Int)} {cls:List Int} {c m:Int} {x i:Nat}
theorem wN (key:List Int->Nat->Wd):∀ (f count:Nat) (cls:List Int),cls.length=n->(∀ c ∈ cls,0<=c/\c < (n:Int))->(kS n key f count cls).length=n/\∀ c ∈ kS n key f count cls,0<=c/\c < (n:Int)
  | 0,_,cls,h1,h2=>⟨h1,h2⟩
  | f + 1,count,cls,h1,h2=>by
    obtain ⟨g1,g2,_,_⟩:=sU.of (n:=n) (l:=(List.range n).map (key cls)) (cls:=(bW ((List.range n).map (key cls))).1) (Q:=(bW ((List.range n).map (key cls))).2) (by simp) Z
    unfold kS;split
    · exact ⟨g1,g2⟩
    · exact wN key f _ _ g1 g2
theorem UY (st:Nat->Bool × Bool) (key:List Int->Nat->Wd):(Ax n st key).length=n/\∀ c ∈ Ax n st key,0<=c/\c < (n:Int):=by
  obtain ⟨g1,g2,_,_⟩:=sU.of (n:=n) (l:=(List.range n).map st) (cls:=(bW ((List.range n).map st)).1) (Q:=(bW ((List.range n).map st)).2) (by simp) Z
  exact wN key _ _ _ g1 g2
theorem Jv {acc:List Bool}:(sg acc lv N).length=N.length/\∀ c ∈ sg acc lv N,0<=c/\c < (N.length:Int):=UY _ _
theorem wb (h:c ∈ cls):fj cls c < cls.length:=Vj.2 h
theorem RG (h:cB lv ((N.getD (fj cls c) []).getD x 0)=false):dL lv N cls c x=none:=by
  rw [dL,show c5 N (fj cls c) x=(N.getD (fj cls c) []).getD x 0 from rfl,h];rfl
theorem WA (h:cB lv ((N.getD (fj cls c) []).getD x 0)=true):dL lv N cls c x=some (cls.getD ((N.getD (fj cls c) []).getD x 0).toNat 0):=by
  rw [dL,show c5 N (fj cls c) x=(N.getD (fj cls c) []).getD x 0 from rfl,Xw h]
structure rG (cls:List Int) (i:Nat) (E:List (Int × Value)):Prop where
  nd:(E.map (·.1)).Nodup
  is:∀ c,lk E c=if c ∈ cls.take i then some (num ((fj cls c:Nat):Int)) else none
variable {E:List (Int × Value)}
theorem rG.start:rG cls 0 []:=⟨List.nodup_nil,fun c=>by simp [lk]⟩
theorem rG.in_ (h:rG cls i E) {v:Value} (q:lk E c=some v):c ∈ cls.take i:=by
  rw [h.is] at q;split at q
  · assumption
  · cases q
theorem rG.no_ (h:rG cls i E) (q:lk E c=none):c ∉ cls.take i:=fun z=>by rw [h.is,Xw z] at q;cases q
theorem rd (hi:i < cls.length):c ∈ cls.take (i + 1) ↔ c ∈ cls.take i\/c=cls.getD i 0:=by
  rw [<- fP (z:=(0:Int)) hi,VJ,XW]
theorem rG.old (h:rG cls i E) (hi:i < cls.length) (q:cls.getD i 0 ∈ cls.take i):rG cls (i + 1) E:=⟨h.nd,fun c=>by
  rw [h.is]
  by_cases z:c ∈ cls.take i
  · rw [Xw z,Xw ((rd hi).2 (.inl z))]
  · rw [Xy z,Xy fun w=>((rd hi).1 w).elim z fun e=>z (e ▸ q)]⟩
theorem rG.new (h:rG cls i E) (hi:i < cls.length) (q:cls.getD i 0 ∉ cls.take i):rG cls (i + 1) (zY E (cls.getD i 0) (num ((i:Nat):Int))):=by
  have hk:lk E (cls.getD i 0)=none:=by rw [h.is,Xy q]
  have hn:cls.getD i 0 ∉ E.map (·.1):=Bz.1 hk
  rw [wo hn]
  have hm:fj cls (cls.getD i 0)=i:=by
    have e:cls=cls.take i ++ cls.drop i:=(Rq i cls).symm
    have e2:cls.drop i=cls.getD i 0 :: cls.drop (i + 1):=qC hi
    rw [fj]
    conv=>lhs;arg 2;rw [e]
    rw [List.idxOf_append,Xy q,e2,List.idxOf_cons_self,Vz];omega
  refine ⟨?_,fun c=>?_⟩
  · rw [VV,Tz,Qv]
    exact RX.2 ⟨h.nd,by simp,by intro a ha b hb;rw [XW] at hb;subst hb;intro e;rw [show a=cls.getD i 0 from e] at ha;exact hn ha⟩
  · by_cases z:c=cls.getD i 0
    · subst z
      rw [Xw ((rd hi).2 (.inr Z)),hm]
      simp only [lk,List.find?_append]
      have:E.find? (fun p=>decide (p.1=cls.getD i 0))=none:=by
        cases w:E.find? (fun p=>decide (p.1=cls.getD i 0)) with
        | none=>rfl
        | some p=>simp only [lk,w] at hk;cases hk
      rw [this];simp
    · have e1:lk (E ++ [(cls.getD i 0,num ((i:Nat):Int))]) c=lk E c:=by
        simp only [lk,List.find?_append,QQ,Xv (show ¬ cls.getD i 0=c from fun e=>z e.symm),List.find?_nil,Option.or_none]
      rw [e1,h.is]
      by_cases w:c ∈ cls.take i
      · rw [Xw w,Xw ((rd hi).2 (.inl w))]
      · rw [Xy w,Xy fun v=>((rd hi).1 v).elim w z]
def ur (A:AH) (bp:Nat) (cls:List Int):Prop:=∃ w cap mm w2 es ck,∃ E:List (Int × Value),A.get bp=some (.row w [.map (some mm)] cap)/\A.get mm=some (.obj w2 (.map es ck))/\dF num es E/\∀ c ∈ cls,lk E c=some (num ((fj cls c:Nat):Int))
theorem ur.le {A B:AH} {bp:Nat} (h:ur A bp cls) (le:A.le B):ur B bp cls:=by
  obtain ⟨w,cap,mm,w2,es,ck,E,h1,h2,h3,h4⟩:=h
  exact ⟨w,cap,mm,w2,es,ck,E,le.g h1,le.g h2,h3,h4⟩
theorem rG.all (h:rG cls i E) (hi:cls.length<=i):∀ c ∈ cls,lk E c=some (num ((fj cls c:Nat):Int)):=fun c hc=>by
  rw [h.is,Vw hi,Xw hc]
theorem Gb {P:Program} {e:ii} {A:AH} {x y:Operand} {t kt et:TypeId} {ty:TypeId} {ps:String} {af:Array Edge} {dst:Option Nat} {Q:Value->AH->Prop} {Kp:List PanicEntry->AH->Prop} {g:Option (Nat × Bool)} {m clock:Nat} {es:Array MapEntry} {E:List (Int × Value)} {k:Int} {v zv:Value} {rw:Bool}
    (hx:cd e x=some (.map (some m))) (hy:cd e y=some (num k)) (hu:P.underlying t=some (.map kt et)) (hk:P.underlying kt=some (.int .i64)) (hz:cE P et=some zv) (hg:A.get m=some (.obj rw (.map es clock))) (hE:dF num es E) (hv:lk E k=some v)
    (h:Q v A):kY P e A { dst:=dst,op:=.lookup t x y false,type:=ty,pos:=ps,after:=af,guard:=g } Q Kp:=rh uU hx hy hu hk hz hg hE (by rw [hv];exact h)
def lg (l:List Bool) (Q:List Int):List Bool:=Q.foldl (fun l s=>l.set s.toNat true) l
theorem oq:∀ (Q:List Int) (l:List Bool),(lg l Q).length=l.length
  | [],_=>rfl
  | q :: Q,l=>by rw [lg,Tj];exact (oq Q _).trans (by simp)
theorem Ii (l:List Bool) (Q:List Int) (q:Int):lg l (Q ++ [q])=(lg l Q).set q.toNat true:=by simp [lg]
theorem DU:∀ (Q:List Int) (l:List Bool),(∀ q ∈ Q,0<=q/\q < (l.length:Int))->∀ i,i < l.length->(lg l Q).getD i false=(l.getD i false || decide ((i:Int) ∈ Q))
  | [],l,_,i,hi=>by simp [lg]
  | q :: Q,l,h,i,hi=>by
    have hq:=h q VX
    rw [lg,Tj]
    show (lg (l.set q.toNat true) Q).getD i false=_
    rw [DU Q _ (fun p hp=>by rw [XQ];exact h p (VZ _ hp)) i (by simpa using hi),dl O]
    by_cases e:i=q.toNat
    · rw [Xw e,Vv (show (i:Int) ∈ q :: Q from by rw [Vy];left;omega)];simp
    · rw [Xy e];congr 1
      rw [decide_eq_decide,Vy]
      exact ⟨.inr,fun z=>z.elim (fun z=>absurd O e) id⟩
end
theorem DT {acc:List Bool} {N:List (List Int)} (hal:acc.length=N.length):∀ q ∈ gu acc N,0<=q/\q < (N.length:Int):=by
  suffices h:∀ (f i:Nat) (Q:List Int),(∀ q ∈ Q,0<=q/\q < (N.length:Int))->∀ q ∈ ia (df N) f i Q,0<=q/\q < (N.length:Int) by
    exact h _ _ _ fun q hq=>by obtain ⟨s,h1,_,h3⟩:=n8.1 hq;omega
  intro f
  induction f with
  | zero=>intro i Q h;exact h
  | succ f ih =>
    intro i Q h
    unfold ia;split
    · refine ih _ _ ?_
      have:∀ (P Q:List Int),(∀ p ∈ P,0<=p/\p < (N.length:Int))->(∀ q ∈ Q,0<=q/\q < (N.length:Int))->∀ q ∈ P.foldl eU Q,0<=q/\q < (N.length:Int):=by
        intro P
        induction P with
        | nil=>intro Q _ h;exact h
        | cons p P ih =>
          intro Q hP hQ
          rw [Tj]
          refine ih _ (fun x hx=>hP x (VZ _ hx)) ?_
          unfold eU;split
          · exact hQ
          · exact kB hQ (hP p VX)
      refine this _ _ (fun p hp=>?_) h
      obtain ⟨_,s,h2,h3,_⟩:=qH.1 hp
      omega
    · exact h
theorem LZ {acc:List Bool} {N:List (List Int)} (hal:acc.length=N.length):lg (List.replicate acc.length false) (gu acc N)=eH acc N:=by
  apply List.ext_getElem
  · rw [oq];simp [eH]
  · intro i h1 h2
    rw [oq,TJ] at h1
    have:=DU (gu acc N) (List.replicate acc.length false) (fun q hq=>by have:=DT hal q hq;simp;omega) i (by simpa using h1)
    rw [gd (by rw [oq];simpa using h1)] at this
    rw [this]
    simp [eH,h1]
theorem LX {acc:List Bool} {N:List (List Int)}:(eH acc N).length=acc.length:=by simp [eH]
theorem L5 {l:List Bool} {Q:List Int} {k:Nat} (hk:k < Q.length):(lg l (Q.take k)).set (Q.getD k 0).toNat true=lg l (Q.take (k + 1)):=by
  rw [<- fP (z:=(0:Int)) hk,Ii]
theorem wX {k:Nat} {step:Int->Nat->Option Int} {D:Int->Prop} (hDs:∀ q c t,D q->c < k->step q c=some t->D t) {q:Int} (hq:D q):∀ (l:List Nat) (r:List Int × List Int),(∀ c ∈ l,c < k)->r.2.Nodup->(∀ q ∈ r.2,D q)->(l.foldl (gT step q) r).2.Nodup/\∀ q' ∈ (l.foldl (gT step q) r).2,D q'
  | [],r,_,h1,h2=>⟨h1,h2⟩
  | c :: l,r,hl,h1,h2=>by
    rw [Tj]
    refine wX hDs hq l _ (fun c hc=>hl c (VZ _ hc)) ?_ ?_
    · unfold gT;split
      · exact h1
      · split
        · exact h1
        · exact lh h1 ‹_›
    · unfold gT;split
      · exact h2
      · split
        · exact h2
        · exact kB h2 (hDs q c _ hq (hl c VX) ‹_›)
theorem uG {k:Nat} {step:Int->Nat->Option Int} {D:Int->Prop} (hDs:∀ q c t,D q->c < k->step q c=some t->D t):∀ (f i:Nat) (Q:List Int) (R:List (List Int)),Q.Nodup->(∀ q ∈ Q,D q)->(eD k step f i Q R).1.Nodup/\∀ q ∈ (eD k step f i Q R).1,D q
  | 0,_,_,_,h1,h2=>⟨h1,h2⟩
  | f + 1,i,Q,R,h1,h2=>by
    unfold eD;split
    · rename_i hi
      obtain ⟨g1,g2⟩:=wX hDs (h2 _ (aX (d:=(0:Int)) hi)) (List.range k) ([],Q) (fun c hc=>TY.1 hc) h1 h2
      exact uG hDs f _ _ _ g1 g2
    · exact ⟨h1,h2⟩
theorem jJ {N:Nat} {Q:List Int} (hn:Q.Nodup) (hQ:∀ q ∈ Q,0<=q/\q < (N:Int)):Q.length<=N:=by
  have:=rx (l:=Q.map Int.toNat) (n:=N) ?_ ?_
  · simpa using this
  · rw [Rv,RZ]
    exact List.Pairwise.imp_of_mem (fun {a c} ha hc hac e=>hac (by have:=hQ a ha;have:=hQ c hc;omega)) hn
  · intro x hx
    obtain ⟨a,ha,rfl⟩:=Vk.1 hx
    have:=hQ a ha;omega
theorem RF {k:Nat} {acc:List Bool} {N:List (List Int)} {lv:List Bool} {cls:List Int} (hok:yM k acc N) (hcl:cls.length=N.length) (q:Int) (c:Nat) (t:Int) (hq:q ∈ cls) (hc:c < k) (h:dL lv N cls q c=some t):t ∈ cls:=by
  have hm:=wb hq
  have hv:=hok.val (fj cls q) c O hc
  unfold dL at h;split at h
  · rename_i hl
    cases h
    have:0<=c5 N (fj cls q) c:=by
      rw [cB] at hl
      simp only [XK,Vq] at hl;exact hl.1
    exact aX O
  · cases h
theorem OO {k:Nat} {acc:List Bool} {N:List (List Int)} (hok:yM k acc N) (hN:0 < N.length):(uz k acc N).1.length<=N.length:=by
  have hc:=Jv (lv:=eH acc N) (N:=N) (acc:=acc)
  obtain ⟨g1,g2⟩:=uG (D:=fun q=>q ∈ sg acc (eH acc N) N) (fun q c t=>RF (lv:=eH acc N) hok hc.1 q c t) (N.length + 1) 0 [(sg acc (eH acc N) N).getD 0 0] [] (by simp) (fun q hq=>by
    rw [XW] at hq;subst hq;exact aX (by rw [hc.1];exact hN))
  exact jJ g1 fun q hq=>hc.2 q (g2 q hq)
theorem tc {k:Nat} {acc:List Bool} {N:List (List Int)} (h:(eH acc N).getD 0 false=false):ux k acc N=([],[]):=by rw [ux,h];rfl
theorem qx {k:Nat} {acc:List Bool} {N:List (List Int)} (h:(eH acc N).getD 0 false=true):ux k acc N=((uz k acc N).1.map fun c=>acc.getD (fj (sg acc (eH acc N) N) c) false,(uz k acc N).2):=by rw [ux,Xw h]
theorem rp {l:List Bool} (h:l.length=0):l.getD 0 false=false:=by rw [TX.1 h];rfl
theorem Jr {N:List (List Int)} {n:Nat} (hn:n<=100000) (lv:List Bool) (cls:List Int) (h1:cls.length=n) (h2:∀ c ∈ cls,0<=c/\c < (n:Int)) (h3:yK lv n cls) (i j:Nat) (hi:i < n) (hj:j < n) (h:mY lv N cls i=mY lv N cls j):cls.getD i 0=cls.getD j 0 :=
  Ql h1 h2 hn h3 i j hi hj h
theorem yQ {acc:List Bool} {n:Nat} (lv:List Bool) (hl:∀ i,i < n->lv.getD i false=false->acc.getD i false=false):yK lv n (bW ((List.range n).map (NG acc lv))).1 :=
  yY (NG acc lv) (false,false) fun i j hi hj h1 h2=>by simp only [NG];rw [h1,h2,hl i hi h1,hl j hj h2]
theorem yR {N:List (List Int)} {n:Nat} (lv:List Bool) (cls:List Int):yK lv n (bW ((List.range n).map (mY lv N cls))).1 :=
  yY (mY lv N cls) [] fun i j hi hj h1 h2=>by rw [ol h1,ol h2]
theorem DQ {acc:List Bool} {N:List (List Int)} (i:Nat) (hi:i < acc.length) (h:(eH acc N).getD i false=false):acc.getD i false=false:=by
  cases q:acc.getD i false with
  | false=>rfl
  | true =>
    have h1:(i:Int) ∈ gu acc N:=(mo (B:=df N) (N.length + 1) 0 (o8 acc acc.length)).subset (n8.2 ⟨i,hi,q,rfl⟩)
    simp [eH,hi,h1] at h
set_option maxHeartbeats 4000000
theorem Jo:dM prog 222=some false:=by kernel_rfl
theorem AW:eo prog 213 0=some (3,0):=by kernel_rfl
theorem Eo:dk prog 62=some [(0,1),(1,1),(2,1),(3,1)]:=by kernel_rfl
theorem sz222:dy prog 222=some 1:=by kernel_rfl
theorem u218:type_of% @underlying218:=@underlying218
theorem YB:type_of% @underlying62:=@underlying62
theorem z222:cE prog 222=some (.map none):=by kernel_rfl
theorem z59:cE prog 59=some (.slice none 0 0):=by kernel_rfl
theorem yp:cE prog 62=some (.agg #[.int .i64 0,.int .i64 0,.slice none 0 0,.slice none 0 0]):=by kernel_rfl
theorem Ke (u:Value) (o:W8) (m:Int) (A0 A:AH) (h:A0.le A) (V:A0.wf) (hu:Fresh A0 A u 1 (aw o)) (ho:o.length<=100000000000) (hm:0<=m/\m<=1000000):bH prog 184 #[u,num m,num ((36:Nat):Int)] A (fun v A1=>A0.le A1/\A1.wf/\Fresh A0 A1 v 1 (aw (o ++ iy m.toNat))):=by
 obtain ⟨n,rfl⟩:∃ n:Nat,m=n:=⟨m.toNat,by omega⟩;exact Zy u o n A0 A h V hu ho O
theorem ZE (i:Nat) (bl bm kl km:Nat) (wl wm:Bool) (lv:Value) (live:List Bool) (b:Nat) (rwb:Bool) (capb k:Nat) (av nv fv bv:Value) (acc:List Bool) (N:List (List Int)) (rows:List Value) (A:AH) (gl:A.get bl=some (.row wl [lv] kl)) (gm:A.get bm=some (.row wm [.pointer (some ⟨b,0,none⟩)] km)) (hlv:bz A 1 lv (bQ live)) (hll:live.length=N.length) (hok:yM k acc N) (hb:A.get b=some (.row rwb [num (k:Int),av,nv,fv,bv] capb)) (hav:bz A 1 av (bQ acc)) (hnv:bz A 1 nv (dx rows)) (hrl:rows.length=N.length) (hF:∀ i,i < N.length->bz A 1 (rows.getD i undef) (cf (N.getD i []))) (hi:i < N.length):bH prog 182 #[num ((i:Nat):Int),.pointer (some ⟨bl,0,none⟩),.pointer (some ⟨bm,0,none⟩)] A (fun v A1=>v=jB (NG acc live i)/\A.le A1/\A1.wf):=by
 refine aN (e:=[(0,num ((i:Nat):Int)),(1,.pointer (some ⟨bl,0,none⟩)),(2,.pointer (some ⟨bm,0,none⟩))]) (args:=[num ((i:Nat):Int),.pointer (some ⟨bl,0,none⟩),.pointer (some ⟨bm,0,none⟩)]) call182 func182 Z results182 ntmps182 Z Z Z (fun wf=>?_);have a0:=AH.le.refl A;obtain ⟨⟨aB,aC⟩,hal,hnl,hrow,hval⟩:=hok;refine ak.sq fun h2=>.region<|.m (fun a8=>co wf aac rfl fun A5 b4 X=>?_);have h:=a0.trans X.le;refine a8<|.nil<|h2<|.sq fun h9=>.drawn [0,1,2,3,4,5,6,7,8,9,10,11,12] mixed Y Y Z<|.p Z (ah io Z Z (h.g gl) Z)<|.p Z (aK Z) ?_;obtain ⟨ar,az,ai,aP,ad,aG,aD,a4,a9,a6,ab,a1⟩:=bz.at (i:=i) (hlv.le h) Oj O;refine DOps.p Z (al jQ kN Z a4 Z a9)<|.p Z (ah um Z Z a6 ((cb a1).trans (dC O)))<|.p Z (ah oa Z Z (h.g gm) Z)<|.p Z (cW Z)<|.p Z (ae j0 gV U Z)<|.p Z (ah io Z Z (h.g hb) Z)<|.p Z (aK Z) ?_;obtain ⟨ay,aA,ap,aR,ag,aI,aF,a5,aa,a7,ac,a2⟩:=bz.at (i:=i) (hav.le h) Oj O;refine DOps.p Z (al jQ kN Z a5 Z aa)<|.p Z (ah um Z Z a7 ((cb a2).trans (dC O)))<|.p Z (dn Z (pb u218 aac kN Z))<|.m Z (fun a3=>aU (cs:=[.bool (live.getD i false),.bool (acc.getD i false)]) (c':=[.bool (live.getD i false),.bool (acc.getD i false)]) X.wf rfl rfl rfl rfl FK X.get G rfl rfl fun A18 V=>?_);refine a3 (bg.none Y)<|.done<|h9<|.rt (by exact aH (e8 Ou FK Z V.get Z gB) (⟨Z,(an h wf (bh wf (Xj a0.n X.lo)) V.n V.keep),V.wf⟩))
theorem ZF (i:Nat) (cls:List Int) (cv:Value) (bl bm kl km:Nat) (wl wm:Bool) (lv:Value) (live:List Bool) (b:Nat) (rwb:Bool) (capb k:Nat) (av nv fv bv:Value) (acc:List Bool) (N:List (List Int)) (rows:List Value) (A:AH) (gl:A.get bl=some (.row wl [lv] kl)) (gm:A.get bm=some (.row wm [.pointer (some ⟨b,0,none⟩)] km)) (hlv:bz A 1 lv (bQ live)) (hll:live.length=N.length) (hok:yM k acc N) (hb:A.get b=some (.row rwb [num (k:Int),av,nv,fv,bv] capb)) (hav:bz A 1 av (bQ acc)) (hnv:bz A 1 nv (dx rows)) (hrl:rows.length=N.length) (hF:∀ i,i < N.length->bz A 1 (rows.getD i undef) (cf (N.getD i []))) (hi:i < N.length) (hcv:bz A 1 cv (cf cls)) (hcl:cls.length=N.length) (hcr:∀ c ∈ cls,0<=c/\c < (N.length:Int))  : bH prog 183 #[cv,num ((i:Nat):Int),.pointer (some ⟨bl,0,none⟩),.pointer (some ⟨bm,0,none⟩)] A (fun v A1=>v=aM (mY live N cls i)/\A.le A1/\A1.wf):=by
 refine aN (e:=[(0,cv),(1,num ((i:Nat):Int)),(2,.pointer (some ⟨bl,0,none⟩)),(3,.pointer (some ⟨bm,0,none⟩))]) (args:=[cv,num ((i:Nat):Int),.pointer (some ⟨bl,0,none⟩),.pointer (some ⟨bm,0,none⟩)]) call183 func183 Z results183 ntmps183 Z Z Z (fun wf=>?_);have a4:=AH.le.refl A;obtain ⟨⟨dD,dG⟩,hal,hnl,hrow,hval⟩:=hok;have hri:=hrow i hi;have hci:=hcr _ (aX (d:=(0:Int)) (show i < cls.length by omega));refine ak.sq fun h2=>.region<|.I Z<|.nil<|h2<|.sq fun h4=>.sq fun h6=>.region<|.p (ah io Z Z (a4.g gl) Z)<|.J Z ?_;obtain ⟨b7,f7,eb,r7,ea,n7,k7,e7,l7,g7,dd,aV⟩:=bz.at (i:=i) (hlv.le a4) Oj O;refine Ops.p (al jQ kN Z e7 Z l7)<|.p (ah um Z Z g7 ((cb aV).trans (dC O)))<|.p (ff Z)<|.nil<|h6<|.ifB Z (fun p8=>?_) (fun p8=>?_)
 ·refine ak.sq fun ba=>.region<|.I Z<|.nil<|ba<|.rt (by exact aH Z (⟨by (rw [ol (by simpa using ‹(!live.getD i false)=true›)];rfl),a4,wf⟩))
 refine ak.skip<|h4<|.sq fun bb=>.region<|.J Z<|.J Z ?_;obtain ⟨cX,di,cK,e3,ch,dW,dI,aY,bC,b3,c0,ay⟩:=bz.at (i:=i) (hcv.le a4) O2 O;refine Ops.p (al cQ cl Z aY Z bC)<|.p (ah dK Z Z b3 ((cb ay).trans (bJ O))) ?_;have ac:=cy (bs:=[blk (.slice none 0 0)]) a4 (uo (Fresh.nil A A 1).lo rK);refine Ops.m (fun aG=>ax Z (Ke (.slice none 0 0) ([]) (cls.getD i 0) (A.hide [blk (.slice none 0 0)]) A (cL A [blk (.slice none 0 0)]) (cx wf) ((Fresh.nil A A 1).hide (by simp)) Oi (by (try have:=hcm (by have:=hva O;omega));omega)) ?_);rintro bT A17 ⟨ai,bV,a8⟩;have aD:=a8.base ac;have a0:=ac.trans ai;refine aG<|.I Z<|.nil<|bb<|.sq fun bc=>.sq fun bd=>.region<|.p (ah oa Z Z (a0.g gm) Z)<|.p (cW Z)<|.p (ae rn fC U Z) ?_;refine Ops.p (ah ie Z Z (a0.g hb) Z)<|.J Z ?_;obtain ⟨cZ,dj,cP,e4,ck,dZ,dJ,aZ,bD,b5,c3,az⟩:=bz.at (i:=i) (hnv.le a0) Of O;refine Ops.p (al jg dX Z aZ Z bD)<|.p (ah jc Z Z b5 ((cb az).trans (c6 O)))<|.p (bx (n:=((N.getD i [])).length) cQ Z ((hF i O).le a0) O (c9 _))<|.J Z<|.nil<|bd<|.block<|.loop (X:=Nat × W8 × Value) (fun ⟨j,o,kv⟩=>[(0,cv),(2,.pointer (some ⟨bl,0,none⟩)),(7,kv),(26,rows.getD i undef),(27,num ((((N.getD i [])).length:Nat):Int)),(28,num ((j:Nat):Int))]) (fun ⟨j,o,kv⟩ B=>(j<=k/\o=tq live N cls i j)/\A.le B/\Fresh A B kv 1 (aw o)) (fun ⟨j,o,kv⟩=>k - j) (⟨0,([]) ++ iy (cls.getD i 0).toNat,bT⟩) (yA Z Z Z Z Z Z) (⟨⟨XZ _,by simp [tq]⟩,a0,aD⟩) ?_;rintro ⟨j,o,kv⟩ B28 ⟨⟨hj,ho⟩,a6,a1⟩;refine ak.wf fun ag=>?_;have hlo:o.length<=13 + 14 * j:=by rw [ho];exact Qm
 have hva:=fun q:j < k=>hval i j hi q;simp only [c5] at hva;have hcm:=fun q:((N.getD i []).getD j 0).toNat < cls.length=>hcr _ (aX (d:=(0:Int)) q);refine ak.sq fun bp=>.region<|.p (bK Z Z)<|.nil<|bp<|.sq fun br=>.if rfl (fun bP=>?_) (fun bP=>?_)
 ·refine ak.skip<|br<|.sq fun ab=>.block<|.sq fun bu=>.region ?_;obtain ⟨d0,dv,cS,e5,ct,e0,dO,b0,bL,b6,c4,aA⟩:=bz.at (i:=j) ((hF i O).le a6) O2 O;refine Ops.p (al cQ cl Z b0 Z bL)<|.p (ah dK Z Z b6 ((cb aA).trans (bJ O)))<|.I Z<|.nil<|bu<|.sq fun bA=>.region<|.J Z<|.m (fun aI=>aE (c:=[dT (32)]) ag rfl (aq db lQ z5 rfl U U rfl) fun A44 d1 a7=>?_);have aa:=a1.le a7.le;refine aI<|.m (fun aP=>cm (ys:=[dT (32)]) rfl rfl db lQ vL z5 rfl U db (fun _ h=>by cases h) aa.own (bG (n:=1) a7.get Z) rfl rfl (by show (_ + _) * 1<=_;simp only [be,Xq,Xx];(try simp only [Xz,Xq,Xx]);omega) On fun A50 a2 a5=>?_);rw [show ([dT (32)]:List Value)=aw [32] from rfl,fA] at a5;obtain ⟨a3,V⟩:=Fresh.grow aa (a6.trans a7.le) wf a5;refine aP<|.I Z<|.nil<|bA<|.sq fun ar=>.region<|.J Z<|.p (lu Z Z)<|.J Z<|.part (t:=37) Z (fun bR=>?_) (fun bR=>?_)
  ·refine Ops.on Z Z<|.p (ah io Z Z (V.g gl) Z)<|.on Z Z<|.J Z<|.on Z Z ?_;obtain ⟨d2,dw,cT,e6,cC,e1,dS,b1,bM,b8,c7,aB⟩:=bz.at (i:=(((N.getD i [])).getD j 0).toNat) (hlv.le V) (by simp only [bi];have:=hva O;omega) O;refine Ops.p (al jQ kN Z b1 (go (by have:=hva O;omega)) bM)<|.on Z Z<|.p (ah um Z Z b8 ((cb aB).trans (dC (by have:=hva O;omega))))<|.p (aJ Z Z)<|.nil<|ar<|.ifB Z (fun bS=>?_) (fun bS=>?_)
   ·refine ak.region<|.J Z<|.J Z<|.J Z ?_;obtain ⟨d3,dz,cV,e9,cH,e2,dV,b2,bO,b9,cc,aC⟩:=bz.at (i:=(((N.getD i [])).getD j 0).toNat) (hcv.le V) (by simp only [aj];have:=hva O;omega) O;refine Ops.p (al cQ cl Z b2 (go (by have:=hva O;omega)) bO)<|.p (ah dK Z Z b9 ((cb aC).trans (bJ (by have:=hva O;omega)))) ?_;have ad:=cy (bs:=[blk a2]) V (uo a3.lo rK);refine Ops.m (fun aR=>ax Z (Ke a2 (o ++ [32]) (cls.getD ((((N.getD i [])).getD j 0).toNat) 0) (A50.hide [blk a2]) A50 (cL A50 [blk a2]) (cx a5.wf) (a3.hide (by simp)) Oi (by (try have:=hcm (by have:=hva O;omega));omega)) ?_);rintro bU A65 ⟨ap,bY,a9⟩;have aF:=a9.base ad;have aT:=ad.trans ap;refine aR<|.I Z<|.nil<|ab<|.region<|.p (bk (b:=1) Z Z O)<|.J Z<|.nil ?_;exact ⟨⟨j + 1,(o ++ [32]) ++ iy (cls.getD ((((N.getD i [])).getD j 0).toNat) 0).toNat,bU⟩,yA Z Z Z Z Z Z,Z,⟨⟨by omega,by exact Qo ho O (by rw [pt ‹_›];assumption)⟩,aT,aF⟩,O1⟩
   refine ak.skip<|ab<|.region<|.p (bk (b:=1) Z Z O)<|.J Z<|.nil ?_;exact ⟨⟨j + 1,o ++ [32],a2⟩,yA Z Z Z Z Z Z,Z,⟨⟨by omega,by exact JO ho O (by rw [pt ‹_›];assumption)⟩,V,a3⟩,O1⟩
  refine Ops.off Z Z Z Z<|.off Z Z Z Z<|.off Z Z Z Z<|.off Z Z Z Z<|.p (aO Z Z)<|.nil<|ar<|.cond_false Z<|.skip<|ab ?_;refine ak.region<|.p (bk (b:=1) Z Z O)<|.J Z<|.nil ?_;exact ⟨⟨j + 1,o ++ [32],a2⟩,yA Z Z Z Z Z Z,Z,⟨⟨by omega,by exact JO ho O (xk ‹_›)⟩,V,a3⟩,O1⟩
 refine ak.exit<|bc<|.sq fun bB=>.region<|.J Z<|.m (fun aS=>fb (s:=o) Z db u9 u5 a1.slc ?_);refine aS<|.I Z<|.nil<|bB<|.rt (by exact aH Z (⟨by (rw [LH (by simpa using ‹(!live.getD i false)=false›) (show (N.getD i []).length=j by omega),<- ho];rfl),a6,ag⟩))
theorem ZG (c:Int) (x:Nat) (bp bc kc:Nat) (wc:Bool) (cv:Value) (cls:List Int) (bl bm kl km:Nat) (wl wm:Bool) (lv:Value) (live:List Bool) (b:Nat) (rwb:Bool) (capb k:Nat) (av nv fv bv:Value) (acc:List Bool) (N:List (List Int)) (rows:List Value) (A:AH) (gl:A.get bl=some (.row wl [lv] kl)) (gm:A.get bm=some (.row wm [.pointer (some ⟨b,0,none⟩)] km)) (hlv:bz A 1 lv (bQ live)) (hll:live.length=N.length) (hok:yM k acc N) (hb:A.get b=some (.row rwb [num (k:Int),av,nv,fv,bv] capb)) (hav:bz A 1 av (bQ acc)) (hnv:bz A 1 nv (dx rows)) (hrl:rows.length=N.length) (hF:∀ i,i < N.length->bz A 1 (rows.getD i undef) (cf (N.getD i [])))(hmp:ur A bp cls) (gc:A.get bc=some (.row wc [cv] kc)) (hcv:bz A 1 cv (cf cls)) (hcl:cls.length=N.length) (hc:c ∈ cls) (hx:x < k):bH prog 185 #[num (c),num ((x:Nat):Int),.pointer (some ⟨bm,0,none⟩),.pointer (some ⟨bp,0,none⟩),.pointer (some ⟨bl,0,none⟩),.pointer (some ⟨bc,0,none⟩)] A (fun v A1=>v=.tuple #[num ((dL live N cls c x).getD 0),.bool (dL live N cls c x).isSome]/\A.le A1/\A1.wf):=by
 refine aN (e:=[(0,num (c)),(1,num ((x:Nat):Int)),(2,.pointer (some ⟨bm,0,none⟩)),(3,.pointer (some ⟨bp,0,none⟩)),(4,.pointer (some ⟨bl,0,none⟩)),(5,.pointer (some ⟨bc,0,none⟩))]) (args:=[num (c),num ((x:Nat):Int),.pointer (some ⟨bm,0,none⟩),.pointer (some ⟨bp,0,none⟩),.pointer (some ⟨bl,0,none⟩),.pointer (some ⟨bc,0,none⟩)]) call185 func185 Z results185 ntmps185 Z Z Z (fun wf=>?_);have h:=AH.le.refl A;obtain ⟨⟨b3,b5⟩,hal,hnl,hrow,hval⟩:=hok;obtain ⟨wp,kp,mm,w2,es,ck,E,gp,gmm,hME,hMM⟩:=hmp;have hmf:=wb hc;have hrm:=hrow (fj cls c) O;have hvm:=hval (fj cls c) x O hx;simp only [c5] at hvm;refine ak.sq fun h2=>.region<|.I Z<|.I Z<|.nil<|h2<|.sq fun h4=>.drawn [0,1,2,3,4,5,9,6,7,8,10,11,12] mixed Y Y Z ?_;have ad:=cR (off:=0) (h.g gm) (show _=some (.pointer (some ⟨b,0,none⟩)) from rfl);refine DOps.p Z (ah oa Z Z (h.g gm) Z)<|.p Z (cW Z)<|.p Z (ae rn fC U Z) ?_;have ag:=cR (off:=2) (h.g hb) (show _=some (nv) from rfl);refine DOps.p Z (ah ie Z Z (h.g hb) Z)<|.p Z (ah Jo Z Z (h.g gp) Z)<|.p Z (aK Z)<|.p Z (aK Z)<|.m Z (fun ai=>Gb Z Z Jb u3 z3 (h.g gmm) hME (hMM _ hc) ?_);refine ai (bg.list (L:=[(⟨b,2,none⟩,nv),(⟨bm,0,none⟩,.pointer (some ⟨b,0,none⟩))]) Y (bf ag (bf ad bX))) ?_;obtain ⟨b9,f9,bC,r9,bB,n9,k9,e9,l9,g9,aZ,a2⟩:=bz.at (i:=fj cls c) (hnv.le h) Of O;refine DOps.p Z (al jg dX Z e9 Z l9)<|.p Z (ah jc Z Z g9 ((cb a2).trans (c6 O))) ?_;obtain ⟨aT,b0,aP,br,aF,ba,b6,a3,ap,a6,aB,X⟩:=bz.at (i:=x) ((hF (fj cls c) O).le h) O2 O;refine DOps.p Z (al cQ cl Z a3 Z ap)<|.p Z (ah dK Z Z a6 ((cb X).trans (bJ O)))<|.p Z (d7 Z)<|.done<|h4<|.sq fun a9=>.sq fun V=>.region<|.J Z<|.p (iU Z Z) ?_;refine Ops.J Z<|.part (t:=25) Z (fun az=>?_) (fun az=>?_)
 ·refine Ops.off Z Z Z Z<|.off Z Z Z Z<|.off Z Z Z Z<|.off Z Z Z Z<|.off Z Z Z Z<|.p (aJ Z Z)<|.nil<|V<|.cond_true Z<|.sq fun aa=>?_;refine ak.region<|.I Z<|.I Z<|.nil<|aa<|.rt (by exact aH Z (⟨by (rw [RG (LU ‹_›)];rfl),h,wf⟩))
 refine Ops.on Z Z<|.p (ah io Z Z (h.g gl) Z)<|.on Z Z<|.J Z<|.on Z Z ?_;obtain ⟨aV,b1,aR,bu,aG,bb,b7,a4,ar,a7,aC,a0⟩:=bz.at (i:=(((N.getD (fj cls c) [])).getD x 0).toNat) (hlv.le h) Oj O;refine Ops.p (al jQ kN Z a4 (go O) ar)<|.on Z Z<|.p (ah um Z Z a7 ((cb a0).trans (dC O)))<|.on Z Z<|.p (ff Z)<|.p (aO Z Z)<|.nil<|V<|.ifB Z (fun aA=>?_) (fun aA=>?_)
 ·refine ak.sq fun ab=>.region<|.I Z<|.I Z<|.nil<|ab<|.rt (by exact aH Z (⟨by (rw [RG (by rw [pt O];simpa using ‹(!live.getD _ false)=true›)];rfl),h,wf⟩))
 refine ak.skip<|a9<|.sq fun ac=>.region<|.p (ah jc Z Z (h.g gc) Z)<|.J Z ?_;obtain ⟨aY,b2,aS,bA,aI,bd,b8,a5,ay,a8,aD,a1⟩:=bz.at (i:=(((N.getD (fj cls c) [])).getD x 0).toNat) (hcv.le h) O2 O;refine Ops.p (al cQ cl Z a5 (go O) ay)<|.p (ah dK Z Z a8 ((cb a1).trans (bJ O)))<|.I Z<|.I Z<|.nil<|ac<|.rt (by exact aH Z (⟨by (rw [WA (by rw [pt O];simpa using ‹(!live.getD _ false)=false›)];rfl),h,wf⟩))
theorem ZH (c:Int) (bp bm km:Nat) (wm:Bool) (cls:List Int) (b:Nat) (rwb:Bool) (capb k:Nat) (av nv fv bv:Value) (acc:List Bool) (N:List (List Int)) (rows:List Value) (A:AH) (gm:A.get bm=some (.row wm [.pointer (some ⟨b,0,none⟩)] km)) (hok:yM k acc N) (hb:A.get b=some (.row rwb [num (k:Int),av,nv,fv,bv] capb)) (hav:bz A 1 av (bQ acc)) (hnv:bz A 1 nv (dx rows)) (hrl:rows.length=N.length) (hF:∀ i,i < N.length->bz A 1 (rows.getD i undef) (cf (N.getD i []))) (hmp:ur A bp cls) (hcl:cls.length=N.length) (hc:c ∈ cls):bH prog 186 #[num (c),.pointer (some ⟨bm,0,none⟩),.pointer (some ⟨bp,0,none⟩)] A (fun v A1=>v=.bool (acc.getD (fj cls c) false)/\A.le A1/\A1.wf):=by
 refine aN (e:=[(0,num (c)),(1,.pointer (some ⟨bm,0,none⟩)),(2,.pointer (some ⟨bp,0,none⟩))]) (args:=[num (c),.pointer (some ⟨bm,0,none⟩),.pointer (some ⟨bp,0,none⟩)]) call186 func186 Z results186 ntmps186 Z Z Z (fun wf=>?_);have h:=AH.le.refl A;obtain ⟨⟨a3,a4⟩,hal,hnl,hrow,hval⟩:=hok;obtain ⟨wp,kp,mm,w2,es,ck,E,gp,gmm,hME,hMM⟩:=hmp;have hmf:=wb hc;refine ak.sq fun h2=>.region<|.I Z<|.nil<|h2<|.sq fun h4=>.drawn [0,1,2,3,4,5,6,7,8,9] mixed Y Y Z ?_;have X:=cR (off:=0) (h.g gm) (show _=some (.pointer (some ⟨b,0,none⟩)) from rfl);refine DOps.p Z (ah oa Z Z (h.g gm) Z)<|.p Z (cW Z)<|.p Z (ae j0 gV U Z) ?_;have a0:=cR (off:=1) (h.g hb) (show _=some (av) from rfl);refine DOps.p Z (ah io Z Z (h.g hb) Z)<|.p Z (ah Jo Z Z (h.g gp) Z)<|.p Z (aK Z)<|.m Z (fun a1=>Gb Z Z Jb u3 z3 (h.g gmm) hME (hMM _ hc) ?_);refine a1 (bg.list (L:=[(⟨b,1,none⟩,av),(⟨bm,0,none⟩,.pointer (some ⟨b,0,none⟩))]) Y (bf a0 (bf X bX))) ?_;obtain ⟨b9,f9,a6,r9,a5,n9,k9,e9,l9,g9,a2,V⟩:=bz.at (i:=fj cls c) (hav.le h) Oj O;refine DOps.p Z (al jQ kN Z e9 Z l9)<|.p Z (ah um Z Z g9 ((cb V).trans (dC O)))<|.p Z (d7 Z)<|.done<|h4<|.rt (by exact aH Z (⟨Z,h,wf⟩))
theorem Xe (b:Nat) (rwb:Bool) (capb k:Nat) (av nv fv bv:Value) (acc:List Bool) (N:List (List Int)) (rows:List Value) (A:AH) (hok:yM k acc N) (hN:N.length<=20000) (hb:A.get b=some (.row rwb [num (k:Int),av,nv,fv,bv] capb)) (hav:bz A 1 av (bQ acc)) (hnv:bz A 1 nv (dx rows)) (hrl:rows.length=N.length) (hF:∀ i,i < N.length->bz A 1 (rows.getD i undef) (cf (N.getD i []))):bH prog 147 #[.pointer (some ⟨b,0,none⟩)] A (fun v A1=>∃ av2 nv2 rows2,v=.tuple #[.agg #[num (k:Int),num ((0:Nat):Int),av2,nv2],.bool true]/\A.le A1/\A1.wf/\Fresh A A1 av2 1 (bQ (ux k acc N).1)/\Fresh A A1 nv2 1 (dx rows2)/\iZ A A1 rows2 (ux k acc N).2/\aL av2 nv2/\au av2 rows2/\au nv2 rows2):=by
  refine enterM (e:=[(0,.pointer (some ⟨b,0,none⟩))]) (args:=[.pointer (some ⟨b,0,none⟩)]) call147 func147 Z results147 ntmps147 Z Z Z (fun wf=>?_)
  have k4:=AH.le.refl A
  have df_:Defs A A []:=⟨List.Pairwise.nil,fun _ h=>by cases h⟩
  have bV:=hok
  obtain ⟨⟨qb,dG⟩,hal,hnl,hrow,hval⟩:=hok
  refine ak.seq fun K1 h2=>.region<|.m (fun oN=>dQ wf rfl rfl fun A5 b4 fl=>?_)
  have p7:=Xj k4.n fl.lo
  have gS:=k4.trans fl.le
  refine oN<|.m (fun oP=>co fl.wf yp rfl fun A10 b9 bA=>?_)
  have dO:=bh wf (Xj gS.n bA.lo)
  have p8:=Xj gS.n bA.lo
  have g6:=bA.le.g fl.get
  have dZ:=gS.trans bA.le
  refine oP<|.I Z<|.nil<|h2 _ _<|.seq fun K14 nV=>.region<|.p (ah oa Z Z g6 Z)<|.p (cW Z)<|.p (ae AW cl U Z)<|.p (ah dK Z Z (dZ.g hb) Z) ?_
  refine Ops.p (dn Z (bE YB yp Eo Z))<|.m (fun mB=>co bA.wf yp rfl fun A18 ct bB=>?_)
  have en:=ne_new bA.wf g6 bB.lo
  have er:=ne_new bA.wf bA.get bB.lo
  have fV:=bh wf (Xj dZ.n bB.lo)
  have oV:=Xj dZ.n bB.lo
  have o2:=bB.le.g g6
  have o3:=bB.le.g bA.get
  have n6:=dZ.trans bB.le
  refine mB<|.m (fun mE=>aU (cs:=[num ((k:Nat):Int),num ((0:Nat):Int),.slice none 0 0,.slice none 0 0]) (c':=[num ((k:Nat):Int),num ((0:Nat):Int),.slice none 0 0,.slice none 0 0]) bB.wf rfl rfl rfl rfl gr bB.get G rfl rfl fun A24 b7=>?_)
  have gN:=b7.k en o2
  have iS:=b7.k er o3
  have d0:=an n6 wf fV b7.n b7.keep
  refine mE<|.nil<|nV _ _<|.seq fun K29 o4=>.region<|.p (ah oa Z Z gN Z)<|.p (cW Z)<|.p (ae j0 gV U Z)<|.p (ah io Z Z (d0.g hb) Z)<|.p (bx (n:=acc.length) jQ Z (hav.le d0) O (fH _)) ?_
  refine Ops.m (fun mK=>jo (n:=acc.length) (k:=acc.length) b7.wf d0 rfl rfl jQ kN z4 DB rfl (XX _) (by show 1 * _<=_;omega) O fun A33 a3 aF eB=>?_)
  rw [pO] at eB
  have cH:=ne_new b7.wf gN aF.lo
  have cP:=ne_new b7.wf iS aF.lo
  have c4:=ne_new b7.wf b7.get aF.lo
  have oW:=Xj d0.n aF.lo
  have iT:=aF.le.g gN
  have iV:=aF.le.g iS
  have iX:=aF.le.g b7.get
  have eN:=d0.trans aF.le
  refine mK<|.m (fun mM=>co aF.wf z59 rfl fun A42 a5 aG=>?_)
  have cK:=ne_new aF.wf iT aG.lo
  have cS:=ne_new aF.wf iV aG.lo
  have c7:=ne_new aF.wf iX aG.lo
  have eQ:=eB.own.ne_new aF.wf aG.lo
  have eg:=bh wf (Xj eN.n aG.lo)
  have oX:=Xj eN.n aG.lo
  have oi:=aG.le.g iT
  have oj:=aG.le.g iV
  have ok:=aG.le.g iX
  have km:=eB.le aG.le
  have n7:=eN.trans aG.le
  refine mM<|.m (fun mT=>aU (cs:=[.slice (some ⟨a3,0,none⟩) acc.length acc.length]) (c':=[.slice (some ⟨a3,0,none⟩) acc.length acc.length]) aG.wf rfl rfl rfl rfl gV aG.get G rfl rfl fun A51 bP=>?_)
  have gP:=bP.k cK oi
  have jX:=bP.k cS oj
  have k0:=bP.k c7 ok
  have fS:=km.keep bP.keep eQ
  have n9:=an n7 wf eg bP.n bP.keep
  refine mT<|.nil<|o4 _ _<|.seq fun K58 ov=>.seq fun K60 ox=>.region<|.p (ah oa Z Z gP Z)<|.m (fun mV=>ax Z (ZN b A51) ?_)
  rintro qA A64 ⟨bp,rfl,bS,ee,dI,ba⟩
  have oy:=bS.g gP
  have oz:=bS.g jX
  have oF:=bS.g k0
  have f4:=bS.g bP.get
  have fT:=fS.le bS
  have nb:=n9.trans bS
  have hrow:=dI
  have hno:=ba
  have hd:b4 ≠ bp:=fun z=>by have q0:=gP;rw [z,ba] at q0;cases q0
  have he:b9 ≠ bp:=fun z=>by have q0:=jX;rw [z,ba] at q0;cases q0
  have h0:ct ≠ bp:=fun z=>by have q0:=k0;rw [z,ba] at q0;cases q0
  have d3:a5 ≠ bp:=fun z=>by have q0:=bP.get;rw [z,ba] at q0;cases q0
  have nk:blk (.slice (some ⟨a3,0,none⟩) acc.length acc.length) ≠ some bp:=C5 fS.own ba
  refine mV<|.nil<|ox _ _<|.block ?_
  have aT:=cG.full f4 ee
  have hLM:=cy (bs:=[some a5,blk (.slice (some ⟨a3,0,none⟩) acc.length acc.length)]) nb (yn eg (uo fT.lo rK))
  have iN:Fresh (A64.hide [some a5,blk (.slice (some ⟨a3,0,none⟩) acc.length acc.length)]) A64 (.slice (some ⟨a3,0,none⟩) acc.length acc.length) 1 (bQ (List.replicate acc.length false)):=fT.hide (by simp)
  have dS:=ce (bs:=[some a5,blk (.slice (some ⟨a3,0,none⟩) acc.length acc.length)]) oy (rP (cK) (px (fun q=>by cases q;exact cH Z) nZ))
  have dV:=ce (bs:=[some a5,blk (.slice (some ⟨a3,0,none⟩) acc.length acc.length)]) oz (rP (cS) (px (fun q=>by cases q;exact cP Z) nZ))
  have cZ:=ce (bs:=[some a5,blk (.slice (some ⟨a3,0,none⟩) acc.length acc.length)]) oF (rP (c7) (px (fun q=>by cases q;exact c4 Z) nZ))
  have bu:=ce (bs:=[some a5,blk (.slice (some ⟨a3,0,none⟩) acc.length acc.length)]) dI (rP (d3.symm) (px nk nZ))
  generalize hM0:(A64.hide [some a5,blk (.slice (some ⟨a3,0,none⟩) acc.length acc.length)])=M at aT hLM iN dS dV cZ bu
  have hvI:∀ (k:Nat) (B:AH),(M.le B/\B.get a5=some (.row true [.slice (some ⟨a3,0,none⟩) acc.length acc.length] 1)/\Fresh M B (.slice (some ⟨a3,0,none⟩) acc.length acc.length) 1 (bQ (lg (List.replicate acc.length false) ((gu acc N).take k))))->∃ v cap,B.get a5=some (.row true [v] cap)/\∀ b,blk v=some b->∃ o,B.get b=some o:=fun k B ⟨_,g1,f1⟩=>⟨_,1,g1,fun b hb=>f1.own.blkget hb⟩
  refine ak.rangeOwnP (M:=M) a5 (gu acc N).length (fun k=>[num ((gu acc N).getD k 0)]) (fun k B=>(M.le B/\B.get a5=some (.row true [.slice (some ⟨a3,0,none⟩) acc.length acc.length] 1)/\Fresh M B (.slice (some ⟨a3,0,none⟩) acc.length acc.length) 1 (bQ (lg (List.replicate acc.length false) ((gu acc N).take k))))) (fun k=>[(6,num ((gu acc N).getD k 0)),(0,.pointer (some ⟨b,0,none⟩)),(1,.pointer (some ⟨b4,0,none⟩)),(2,.pointer (some ⟨b9,0,none⟩)),(15,.pointer (some ⟨b,0,none⟩)),(16,.pointer (some ⟨b,0,none⟩)),(17,.pointer (some ⟨b,0,none⟩)),(4,.pointer (some ⟨ct,0,none⟩)),(20,.pointer (some ⟨b,0,none⟩)),(21,.pointer (some ⟨b,0,none⟩)),(22,.pointer (some ⟨b,1,none⟩)),(5,.pointer (some ⟨a5,0,none⟩)),(26,.pointer (some ⟨b,0,none⟩))]) Z call199 (fun _=>rfl) U (ee _ _ f4) aT ?_ hvI ?_ ?_ ?_ ?_ ?_
  · rintro k B B2 ⟨i1,g1,f1⟩ dJ oQ hk
    exact ⟨⟨Xj i1.n oQ,fun b o h=>hk b o (.inl (SX (aT.wf b o h) aT.le.n)) (i1.get _ _ h)⟩,hk _ _ (.inr (.inl rfl)) g1,f1.owk (fun b o hb h=>hk b o (.inr (.inr ⟨_,1,g1,hb⟩)) h)⟩
  · exact ⟨aT.le,f4,by rw [List.take_zero];exact iN⟩
  · intro oY J2 B M4 hnB hleB wfB ek hJI mv eC hyd
    obtain ⟨_,gq,fq⟩:=hJI 0 B eC
    have s3:M.le (B.hide [some a5,blk (.slice (some ⟨a3,0,none⟩) acc.length acc.length)]):=cy (hJI 0 B eC).1 (fun b hb=>by simp only [Vy,SQ,or_false,Option.some.injEq] at hb;rcases hb with rfl | hb;exact aT.ow _ (.inl Z);exact fq.lo b hb.symm)
    exact (Xl a5 oY J2 b rwb capb k av nv fv bv acc N rows _ B bp _ _ (cG.full gq wfB) eC (s3.get _ _ bu) bV (s3.get _ _ (hLM.get _ _ hb)) ((hav.le hLM).le s3) ((hnv.le hLM).le s3) hrl (fun i hi=>((hF i hi).le hLM).le s3) (fun i C C2 j1 j2 j3 j4=>mv i C C2 j1 j2 j3 j4) (fun i C j1=>hvI i C (hJI i C j1)) (fun k C M2=>hyd k C M2)).mono (fun v C h=>⟨h.1,h.2.1,h.2.2.mono (ek.sub gq) ek.wf⟩)
  · intro F k B hF_ hk_
    refine fh.wf fun wfB_=>?_
    have hF:=hF_
    refine fh.region hF (by repeat' first | with_reducible exact kF | with_reducible apply mZ | with_reducible apply kE) Y<|.I Z<|.nil ?_
    exact ⟨am.cons Z<|am.cons Z<|am.cons Z<|am.cons Z<|am.cons Z<|am.cons Z<|am.cons Z<|am.cons Z<|am.cons Z<|am.cons Z<|am.cons Z<|am.cons Z<|am.cons Z<|am.nil _,Z,AH.le.refl _,wfB_⟩
  · rintro F k B M4 hF hk_ ⟨i1,g1,f1⟩ wfB hnB ek
    have s3:M.le (B.hide [some a5,blk (.slice (some ⟨a3,0,none⟩) acc.length acc.length)]):=cy i1 (fun b hb=>by simp only [Vy,SQ,or_false,Option.some.injEq] at hb;rcases hb with rfl | hb;exact aT.ow _ (.inl Z);exact f1.lo b hb.symm)
    have s4:=ek.sub g1
    have leX:=cL B [some a5,blk (.slice (some ⟨a3,0,none⟩) acc.length acc.length)]
    have wfX:(B.hide [some a5,blk (.slice (some ⟨a3,0,none⟩) acc.length acc.length)]).wf:=cx wfB
    have noX:(B.hide [some a5,blk (.slice (some ⟨a3,0,none⟩) acc.length acc.length)]).get a5=none:=cD (by simp)
    have fX:Fresh (B.hide [some a5,blk (.slice (some ⟨a3,0,none⟩) acc.length acc.length)]) B (.slice (some ⟨a3,0,none⟩) acc.length acc.length) 1 (bQ (lg (List.replicate acc.length false) ((gu acc N).take k))):=f1.hide (by simp)
    have hlr:=DT hal _ (aX (d:=(0:Int)) hk_)
    have hml:(lg (List.replicate acc.length false) ((gu acc N).take k)).length=acc.length:=by rw [oq];simp
    generalize hMX:B.hide [some a5,blk (.slice (some ⟨a3,0,none⟩) acc.length acc.length)]=MX at s3 s4 leX wfX noX fX
    refine fh.block<|.region hF (by repeat' first | with_reducible exact kF | with_reducible apply mZ | with_reducible apply kE) Y<|.p (ah io Z Z g1 Z)<|.J Z ?_
    obtain ⟨q7,qp,q9,p4,q2,iH,k3,nQ,qB,oZ,qv,oR⟩:=fX.at1 (x:=((gu acc N).getD k 0).toNat) Oj
    rw [bi] at k3
    refine Ops.p (al jQ kN Z iH (go O) (by rw [k3];omega))<|.m (fun mX=>aU (off:=((gu acc N).getD k 0).toNat) (c':=p4.set (((gu acc N).getD k 0).toNat) (.bool (true))) wfB rfl (by simp) rfl rfl kN nQ (by show (((gu acc N).getD k 0).toNat) + 1<=_;omega) rfl rfl fun A75 dd=>?_)
    have k1:=dd.k (fun q=>eQ (by rw [iH];exact Xk some q.symm)) g1
    have fU:=oR (.bool (true)) A75 dd
    rw [my] at fU
    have gX:=an leX wfX oZ dd.n dd.keep
    refine mX<|.nil ?_
    have fe:=ci fU (Xk bQ (L5 hk_))
    exact ⟨⟨s3.trans gX,k1,fe.base s3⟩,dd.wf,cG.mono ⟨gX,wfX,fun b hb=>by rcases hb.val k1 with rfl | q;exact noX;exact fe.lo b q⟩ s4 ek.wf⟩
  · rintro B D0 ⟨i1,g1,f1⟩ wfB hnD hnB gD hoD hPM
    have leB:=hLM.trans i1
    obtain ⟨LV,hLV⟩:∃ LV,LV=eH acc N:=⟨_,rfl⟩
    have frB:=ci (f1.base hLM) (Xk bQ (show lg (List.replicate acc.length false) ((gu acc N).take (gu acc N).length)=LV by rw [Ry,hLV];exact LZ hal))
    have hlfl:LV.length=acc.length:=by rw [hLV];exact LX
    have c0:=i1.get _ _ dS
    have cV:=i1.get _ _ dV
    have bY:=i1.get _ _ cZ
    have eK:=i1.get _ _ bu
    have hlA:A.n<=D0:=Xj hLM.n (Xj aT.le.n hnD)
    have nj:D0 ≠ b4:=by have:=aT.wf _ _ dS;have:=aT.le.n;omega
    have aI:D0 ≠ b9:=by have:=aT.wf _ _ dV;have:=aT.le.n;omega
    have k6:D0 ≠ ct:=by have:=aT.wf _ _ cZ;have:=aT.le.n;omega
    have k7:D0 ≠ a5:=by have:=ee _ _ f4;omega
    have ha:D0 ≠ bp:=by have:=aT.wf _ _ bu;have:=aT.le.n;omega
    have nvD:blk (.slice (some ⟨a3,0,none⟩) acc.length acc.length) ≠ some D0:=fun q=>hoD (.inr ⟨_,_,g1,q⟩)
    refine ov _ _<|.seq fun K80 oI=>.seq fun K82 k2=>.region<|.p (ah io Z Z g1 Z)<|.p (bx (n:=LV.length) jQ Z frB.slc O (fH _))<|.p (jM (b:=0) Z Z)<|.J Z<|.part (t:=35) Z (fun p0=>?_) (fun p0=>?_)
    ·
      refine Ops.off Z Z Z Z<|.off Z Z Z Z<|.off Z Z Z Z<|.off Z Z Z Z<|.p (aJ Z Z)<|.nil<|k2 _ _<|.cond_true Z<|.seq fun K85 oJ=>.region ?_
      refine Ops.p (ao jA gr Z Z bY Z)<|.m (fun n1=>aU (cs:=[num ((k:Nat):Int),num ((0:Nat):Int),.slice none 0 0,.slice none 0 0]) (c':=[num ((k:Nat):Int),num ((0:Nat):Int),.slice none 0 0,.slice none 0 0]) wfB rfl rfl rfl rfl gr cV G rfl rfl fun A88 ec=>?_)
      have oK:=ec.k aI gD
      have gY:=an leB wf dO ec.n ec.keep
      refine n1<|.I Z<|.nil<|oJ _ _<|.ret ?_
      (repeat first | with_reducible refine cz ?_ | with_reducible refine cj ?_);(repeat first | with_reducible refine f5 ?_ | with_reducible refine fc ?_ | with_reducible refine eh U ?_ | with_reducible refine ei ?_ | with_reducible refine dA ?_);have cC:LV.getD 0 false=false:=(by first | assumption | exact rp Oz | simpa using ‹(!LV.getD 0 false)=true›);refine ⟨[D0],rfl,(by simp),(fun E hE=>by rw [XW] at hE;subst hE;exact oK),[.agg #[num ((k:Nat):Int),num ((0:Nat):Int),.slice none 0 0,.slice none 0 0],.bool (true)],fun A2 dJ em dG=>?_⟩;have hkD:∀ b o,b ≠ D0->A88.get b=some o->A2.get b=some o:=fun b o hb h=>dG b o (by simpa using hb) h;exact ⟨e8 jA gr Z (hkD _ _ aI.symm ec.get) Z (fB Z gB),⟨_,Z,_,_,[],Z,⟨by rw [em];exact gY.n,fun b o h=>hkD b o (by have:=wf _ _ h;omega) (gY.g h)⟩,dJ,ci (Fresh.nil _ _ _) (Xk bQ (show []=_ from by rw [tc (by rw [<- hLV];exact cC)])),Fresh.nil _ _ _,kw iZ.nil (by rw [tc (by rw [<- hLV];exact cC)]),aL.nil,au.nil,au.nil⟩⟩
    ·
      refine Ops.on Z Z<|.p (ah io Z Z g1 Z)<|.on Z Z ?_
      obtain ⟨q8,qa,q4,qu,q3,qr,qd,nO,oS,nT,pE,k9⟩:=bz.at (i:=0) frB.slc Oj O
      refine Ops.p (al jQ kN Z nO Z oS)<|.on Z Z<|.p (ah um Z Z nT ((cb k9).trans (dC O)))<|.on Z Z<|.p (ff Z)<|.p (aO Z Z)<|.nil<|k2 _ _<|.ifB Z (fun p3=>?_) (fun p3=>?_)
      ·
        refine ak.seq fun K99 kC=>.region<|.p (ao jA gr Z Z bY Z)<|.m (fun hy=>aU (cs:=[num ((k:Nat):Int),num ((0:Nat):Int),.slice none 0 0,.slice none 0 0]) (c':=[num ((k:Nat):Int),num ((0:Nat):Int),.slice none 0 0,.slice none 0 0]) wfB rfl rfl rfl rfl gr cV G rfl rfl fun A102 cX=>?_)
        have kD:=cX.k aI gD
        have f7:=an leB wf dO cX.n cX.keep
        refine hy<|.I Z<|.nil<|kC _ _<|.ret ?_
        (repeat first | with_reducible refine cz ?_ | with_reducible refine cj ?_);(repeat first | with_reducible refine f5 ?_ | with_reducible refine fc ?_ | with_reducible refine eh U ?_ | with_reducible refine ei ?_ | with_reducible refine dA ?_);have cC:LV.getD 0 false=false:=(by first | assumption | exact rp Oz | simpa using ‹(!LV.getD 0 false)=true›);refine ⟨[D0],rfl,(by simp),(fun E hE=>by rw [XW] at hE;subst hE;exact kD),[.agg #[num ((k:Nat):Int),num ((0:Nat):Int),.slice none 0 0,.slice none 0 0],.bool (true)],fun A2 dJ em dG=>?_⟩;have hkD:∀ b o,b ≠ D0->A102.get b=some o->A2.get b=some o:=fun b o hb h=>dG b o (by simpa using hb) h;exact ⟨e8 jA gr Z (hkD _ _ aI.symm cX.get) Z (fB Z gB),⟨_,Z,_,_,[],Z,⟨by rw [em];exact f7.n,fun b o h=>hkD b o (by have:=wf _ _ h;omega) (f7.g h)⟩,dJ,ci (Fresh.nil _ _ _) (Xk bQ (show []=_ from by rw [tc (by rw [<- hLV];exact cC)])),Fresh.nil _ _ _,kw iZ.nil (by rw [tc (by rw [<- hLV];exact cC)]),aL.nil,au.nil,au.nil⟩⟩
      ·
        refine ak.skip<|oI _ _<|.seq fun K111 kK=>?_
        have hpos:0 < acc.length:=by rw [<- hlfl];exact Nat.pos_of_ne_zero ‹¬ LV.length=0›
        refine ak.region<|.p (ah oa Z Z c0 Z)<|.p (cW Z)<|.p (ae j0 gV U Z)<|.p (ah io Z Z (leB.g hb) Z)<|.p (bx (n:=acc.length) jQ Z (hav.le leB) O (fH _))<|.p (nu Z Z)<|.p (nu Z Z) ?_
        have eG:LV.length=N.length:=by rw [hlfl,hal]
        refine Ops.m (fun hz=>ax Z (MY acc.length 182 183 #[.pointer (some ⟨a5,0,none⟩),.pointer (some ⟨b4,0,none⟩)] #[.pointer (some ⟨a5,0,none⟩),.pointer (some ⟨b4,0,none⟩)] (NG acc LV) (mY LV N) B O (fun i B hi le wfB=>ZE i a5 b4 _ _ _ _ (.slice (some ⟨a3,0,none⟩) acc.length acc.length) LV b rwb capb k av nv fv bv acc N rows B (le.g g1) (le.g c0) (frB.slc.le le) eG bV ((leB.trans le).get _ _ hb) (hav.le (leB.trans le)) (hnv.le (leB.trans le)) hrl (fun i hi=>(hF i hi).le (leB.trans le)) O) (fun cls cv i B hcv h1 h2 hi le wfB=>ZF i cls cv a5 b4 _ _ _ _ (.slice (some ⟨a3,0,none⟩) acc.length acc.length) LV b rwb capb k av nv fv bv acc N rows B (le.g g1) (le.g c0) (frB.slc.le le) eG bV ((leB.trans le).get _ _ hb) (hav.le (leB.trans le)) (hnv.le (leB.trans le)) hrl (fun i hi=>(hF i hi).le (leB.trans le)) O hcv O (by rw [<- hal];exact h2)) (yK LV acc.length) (yQ _ (fun i hi h=>DQ i hi (by rw [<- hLV];exact h))) (fun cls _ _=>yR _ cls) (fun cls h1 h2 h3 i j hi hj h=>Jr (N:=N) O _ cls h1 h2 h3 i j hi hj h)) ?_)
        rintro q5 A115 ⟨aS,aC,b8⟩
        have g0:=aS.g c0
        have g4:=aS.g cV
        have g5:=aS.g bY
        have g7:=aS.g g1
        have g8:=aS.g eK
        have g9:=aS.g gD
        have eT:=frB.le aS
        have dW:=leB.trans aS
        have eV:=b8.base leB
        have hT:=b8.ne wfB c0
        have hU:=b8.ne wfB cV
        have hV:=b8.ne wfB bY
        have hW:=b8.ne wfB g1
        have hX:=b8.ne wfB gD
        refine hz<|.m (fun hA=>co aC Gi rfl fun A134 bT a4=>?_)
        have e5:=ne_new aC g0 a4.lo
        have e9:=ne_new aC g4 a4.lo
        have di:=ne_new aC g5 a4.lo
        have dw:=ne_new aC g7 a4.lo
        have cT:=ne_new aC g8 a4.lo
        have e2:=ne_new aC g9 a4.lo
        have fm:=eT.own.ne_new aC a4.lo
        have fn:=eV.own.ne_new aC a4.lo
        have ft:=bh wf (Xj dW.n a4.lo)
        have nJ:=Xj dW.n a4.lo
        have kL:=a4.le.g g0
        have kM:=a4.le.g g4
        have kP:=a4.le.g g5
        have kT:=a4.le.g g7
        have kV:=a4.le.g g8
        have l0:=a4.le.g g9
        have ho:=eT.le a4.le
        have eX:=eV.le a4.le
        have hM:=dW.trans a4.le
        refine hA ?_
        obtain ⟨aB,az,ay,nq,_⟩:=eX.own.slice
        subst nq
        refine Ops.m (fun hB=>aU (cs:=[.slice aB az ay]) (c':=[.slice aB az ay]) a4.wf rfl rfl rfl rfl dX a4.get G rfl rfl fun A149 a2=>?_)
        have gc:=a2.k e5 kL
        have ge:=a2.k e9 kM
        have gf:=a2.k di kP
        have gg:=a2.k dw kT
        have gl:=a2.k cT kV
        have gm:=a2.k e2 l0
        have eY:=ho.keep a2.keep fm
        have hp:=eX.keep a2.keep fn
        have e0:=an hM wf ft a2.n a2.keep
        refine hB<|.nil ?_
        obtain ⟨CL,hCL⟩:∃ CL,CL=sg acc (eH acc N) N:=⟨_,rfl⟩
        have eZ:=ci hp (Xk cf (show Ax acc.length (NG acc LV) (mY LV N)=CL by rw [hCL,hLV,hal];rfl))
        obtain ⟨eE,mx⟩:CL.length=N.length/\∀ c ∈ CL,0<=c/\c < (N.length:Int):=by rw [hCL];exact Jv
        refine kK _ _<|.seq fun K161 l1=>.region<|.m (fun hC=>o5 a2.wf fun A165 bU a0=>?_)
        have e6:=ne_new a2.wf gc a0.lo
        have ea:=ne_new a2.wf ge a0.lo
        have dj:=ne_new a2.wf gf a0.lo
        have dz:=ne_new a2.wf gg a0.lo
        have fQ:=ne_new a2.wf gl a0.lo
        have e3:=ne_new a2.wf gm a0.lo
        have d1:=ne_new a2.wf a2.get a0.lo
        have hY:=eY.own.ne_new a2.wf a0.lo
        have hZ:=eZ.own.ne_new a2.wf a0.lo
        have fD:=bh wf (Xj e0.n a0.lo)
        have nK:=Xj e0.n a0.lo
        have gp:=a0.le.g gc
        have gs:=a0.le.g ge
        have gA:=a0.le.g gf
        have gC:=a0.le.g gg
        have l4:=a0.le.g gl
        have gE:=a0.le.g gm
        have gF:=a0.le.g a2.get
        have f0:=eY.le a0.le
        have f2:=eZ.le a0.le
        have e1:=e0.trans a0.le
        refine hC<|.m (fun hD=>co a0.wf z222 rfl fun A181 b6 a1=>?_)
        have e7:=ne_new a0.wf gp a1.lo
        have eb:=ne_new a0.wf gs a1.lo
        have dv:=ne_new a0.wf gA a1.lo
        have dD:=ne_new a0.wf gC a1.lo
        have fR:=ne_new a0.wf l4 a1.lo
        have e4:=ne_new a0.wf gE a1.lo
        have d2:=ne_new a0.wf gF a1.lo
        have bO:=ne_new a0.wf a0.get a1.lo
        have fo:=f0.own.ne_new a0.wf a1.lo
        have fr:=f2.own.ne_new a0.wf a1.lo
        have fE:=bh wf (Xj e1.n a1.lo)
        have nL:=Xj e1.n a1.lo
        have l6:=a1.le.g gp
        have l7:=a1.le.g gs
        have l9:=a1.le.g gA
        have la:=a1.le.g gC
        have lb:=a1.le.g gE
        have lc:=a1.le.g gF
        have li:=a1.le.g a0.get
        have hr:=f0.le a1.le
        have hs:=f2.le a1.le
        have hO:=e1.trans a1.le
        refine hD<|.m (fun hG=>aU (cs:=[.map (some bU)]) (c':=[.map (some bU)]) a1.wf rfl rfl rfl rfl sz222 a1.get G rfl rfl fun A197 ad=>?_)
        have lj:=ad.k e7 l6
        have lp:=ad.k eb l7
        have lt:=ad.k dv l9
        have lA:=ad.k dD la
        have lB:=ad.k e4 lb
        have gG:=ad.k d2 lc
        have lC:=ad.k bO li
        have ht:=hr.keep ad.keep fo
        have f3:=hs.keep ad.keep fr
        have hP:=an hO wf fE ad.n ad.keep
        refine hG<|.nil<|l1 _ _<|.seq fun K210 lE=>.seq fun K212 lF=>.region<|.p (ah jc Z Z gG Z)<|.p (bx (n:=CL.length) cQ Z f3.slc O (c9 _))<|.J Z<|.nil ?_
        refine lF _ _<|.block<|.loopD (X:=Nat × List (Int × Value) × Array MapEntry × Nat) (fun ⟨i,E,es,ck⟩=>[(1,.pointer (some ⟨b4,0,none⟩)),(2,.pointer (some ⟨b9,0,none⟩)),(4,.pointer (some ⟨ct,0,none⟩)),(5,.pointer (some ⟨a5,0,none⟩)),(7,.pointer (some ⟨bT,0,none⟩)),(8,.pointer (some ⟨b6,0,none⟩)),(51,.slice aB az ay),(52,num ((CL.length:Nat):Int)),(53,num ((i:Nat):Int))]) (fun ⟨i,E,es,ck⟩=>[V.mark D0]) (fun ⟨i,E,es,ck⟩ B=>(i<=CL.length/\dF num es E/\rG CL i E)/\A.le B/\Fresh A B (.slice (some ⟨a3,0,none⟩) acc.length acc.length) 1 (bQ LV)/\Fresh A B (.slice aB az ay) 1 (cf CL)/\B.get bU=some (.obj true (.map es ck))/\B.get D0=some (.obj true (.deferred (some [])))/\B.get b4=some (.row true [.pointer (some ⟨b,0,none⟩)] 1)/\B.get b9=some (.row true [num ((0:Nat):Int),num ((0:Nat):Int),.slice none 0 0,.slice none 0 0] 4)/\B.get ct=some (.row true [num ((k:Nat):Int),num ((0:Nat):Int),.slice none 0 0,.slice none 0 0] 4)/\B.get a5=some (.row true [.slice (some ⟨a3,0,none⟩) acc.length acc.length] 1)/\B.get bT=some (.row true [.slice aB az ay] 1)/\B.get b6=some (.row true [.map (some bU)] 1)/\V.blk (.slice (some ⟨a3,0,none⟩) acc.length acc.length) ≠ some bU/\V.blk (.slice aB az ay) ≠ some bU/\V.blk (.slice (some ⟨a3,0,none⟩) acc.length acc.length) ≠ some D0/\V.blk (.slice aB az ay) ≠ some D0/\V.blk (.slice (some ⟨a3,0,none⟩) acc.length acc.length) ≠ some b4/\V.blk (.slice aB az ay) ≠ some b4/\V.blk (.slice (some ⟨a3,0,none⟩) acc.length acc.length) ≠ some b9/\V.blk (.slice aB az ay) ≠ some b9/\V.blk (.slice (some ⟨a3,0,none⟩) acc.length acc.length) ≠ some ct/\V.blk (.slice aB az ay) ≠ some ct/\V.blk (.slice (some ⟨a3,0,none⟩) acc.length acc.length) ≠ some a5/\V.blk (.slice aB az ay) ≠ some a5/\V.blk (.slice (some ⟨a3,0,none⟩) acc.length acc.length) ≠ some bT/\V.blk (.slice aB az ay) ≠ some bT/\V.blk (.slice (some ⟨a3,0,none⟩) acc.length acc.length) ≠ some b6/\V.blk (.slice aB az ay) ≠ some b6) (fun ⟨i,E,es,ck⟩=>CL.length - i) (⟨0,[],#[],0⟩) (Ut Z Z Z Z Z Z Z Z Z) Z (⟨⟨XZ _,dF.nil,rG.start⟩,hP,ht,f3,lC,lB,lj,lp,lt,lA,gG,ad.get,hY,hZ,nvD,hX,(fun q=>by cases q;exact cH rfl),hT,(fun q=>by cases q;exact cP rfl),hU,(fun q=>by cases q;exact c4 Z),hV,eQ,hW,fm,fn,fo,fr⟩) ?_
        rintro ⟨i,E,es,ck⟩ B215 ⟨⟨hi,hme,hmi⟩,a6,br,ac,ab,ai,a8,ap,b0,aR,aa,a7,aA,ar,bD,bd,bL,bl,bM,bm,bb,b3,bc,b5,b1,aV,b2,aY⟩
        refine ak.wf fun cc=>.seq fun K217 lI=>.region<|.p (bK Z Z)<|.nil<|lI _ _<|.seq fun K219 lJ=>.if rfl (fun nl=>?_) (fun nl=>?_)
        ·
          refine ak.skip<|lJ _ _<|.seq fun K222 gL=>.block<|.seq fun K224 lK=>.region<|.J Z ?_
          obtain ⟨pA,pF,pp,pW,pj,pS,pL,kc,n3,kp,p5,hg⟩:=bz.at (i:=i) ac.slc O2 O
          refine Ops.p (al cQ cl Z kc Z n3)<|.p (ah dK Z Z kp ((cb hg).trans (bJ O)))<|.I Z<|.I Z<|.nil<|lK _ _<|.seq fun K227 gM=>.region<|.p (ah Jo Z Z a7 Z)<|.J Z ?_
          refine Ops.m (fun f6=>yf (k:=(CL.getD i 0)) uU Z Z Jb u3 z3 ab hme (fun pw hL=>?_) (fun hK=>?_))
          ·
            refine f6<|.J Z<|.p (bj Z Z)<|.p (bj Z Z)<|.I Z<|.I Z<|.nil<|gM _ _<|.seq fun K233 lO=>.region ?_
            refine Ops.J Z<|.p (ff Z)<|.nil<|lO _ _<|.cond_false Z<|.skip<|gL _ _<|.region<|.p (bk (b:=1) Z Z O)<|.J Z ?_
            refine Ops.nil ?_
            exact ⟨⟨i + 1,E,es,ck⟩,Ut Z Z Z Z Z Z Z Z Z,Z,⟨⟨by omega,hme,hmi.old O (hmi.in_ hL)⟩,a6,br,ac,ab,ai,a8,ap,b0,aR,aa,a7,aA,ar,bD,bd,bL,bl,bM,bm,bb,b3,bc,b5,b1,aV,b2,aY⟩,O1⟩
          ·
            refine f6<|.J Z<|.p (bj Z Z)<|.p (bj Z Z)<|.I Z<|.I Z<|.nil<|gM _ _<|.seq fun K235 lP=>.region ?_
            refine Ops.J Z<|.p (ff Z)<|.nil<|lP _ _<|.cond_true Z<|.region<|.p (ah Jo Z Z a7 Z)<|.J Z<|.J Z<|.m (fun hH=>pN (k:=(CL.getD i 0)) uU cc rfl rfl rfl Jb u3 ab hme hmi.nd fun A238 hl hf ag hS=>?_)
            have lS:=ag.k e3 ai
            have lT:=ag.k e6 a8
            have lV:=ag.k ea ap
            have lW:=ag.k dj b0
            have lX:=ag.k dz aR
            have lY:=ag.k d1 aa
            have lZ:=ag.k bO.symm a7
            have hu:=br.keep ag.keep aA
            have hv:=ac.keep ag.keep ar
            have hR:=an a6 wf fD ag.n ag.keep
            refine hH<|.nil<|gL _ _<|.region<|.p (bk (b:=1) Z Z O)<|.J Z<|.nil ?_
            exact ⟨⟨i + 1,zY E (CL.getD i 0) (num ((i:Nat):Int)),hl,hf⟩,Ut Z Z Z Z Z Z Z Z Z,Z,⟨⟨by omega,hS,hmi.new O (hmi.no_ hK)⟩,hR,hu,hv,ag.get,lS,lT,lV,lW,lX,lY,lZ,aA,ar,bD,bd,bL,bl,bM,bm,bb,b3,bc,b5,b1,aV,b2,aY⟩,O1⟩
        ·
          refine ak.exit<|lE _ _<|.seq fun K253 m1=>.drawn [0,1,2,3,4,5,6,7,8,9,10,11,12,13,14] mixed Y Y Z<|.p Z (ah oa Z Z a8 Z)<|.p Z (cW Z)<|.p Z (ae AW cl U Z)<|.p Z (ah dK Z Z (a6.g hb) Z)<|.p Z (ah jc Z Z aa Z) ?_
          obtain ⟨pC,pI,pv,q1,pl,pV,pP,kl,n4,kv,p6,hh⟩:=bz.at (i:=0) ac.slc O2 O
          refine DOps.p Z (al cQ cl Z kl Z n4)<|.p Z (ah dK Z Z kv ((cb hh).trans (bJ O)))<|.p Z (nu Z Z)<|.p Z (nu Z Z) ?_
          have gQ:ur B215 b6 CL:=⟨_,_,_,_,_,_,E,a7,ab,hme,hmi.all O⟩
          refine DOps.m Z (fun hI=>ax Z (zP k 20001 N.length (N.length + 1) ((CL.getD 0 0)) 185 186 #[.pointer (some ⟨b4,0,none⟩),.pointer (some ⟨b6,0,none⟩),.pointer (some ⟨a5,0,none⟩),.pointer (some ⟨bT,0,none⟩)] #[.pointer (some ⟨b4,0,none⟩),.pointer (some ⟨b6,0,none⟩)] (dL LV N CL) (fun c=>acc.getD (fj CL c) false) (fun q=>q ∈ CL) B215 O ⟨by omega,by omega,by omega⟩ (aX O) (fun q c t=>RF (lv:=LV) bV eE q c t) (fun Q hn hQ=>jJ hn (fun q hq=>mx q (hQ q hq))) (fun q c B hq hc le wfB=>ZG q c b6 bT _ _ (.slice aB az ay) CL a5 b4 _ _ _ _ (.slice (some ⟨a3,0,none⟩) acc.length acc.length) LV b rwb capb k av nv fv bv acc N rows B (le.g aR) (le.g a8) (br.slc.le le) eG bV ((a6.trans le).get _ _ hb) (hav.le (a6.trans le)) (hnv.le (a6.trans le)) hrl (fun i hi=>(hF i hi).le (a6.trans le)) (gQ.le le) (le.g aa) (ac.slc.le le) eE hq hc) (fun q B hq le wfB=>ZH q b6 b4 _ _ CL b rwb capb k av nv fv bv acc N rows B (le.g a8) bV ((a6.trans le).get _ _ hb) (hav.le (a6.trans le)) (hnv.le (a6.trans le)) hrl (fun i hi=>(hF i hi).le (a6.trans le)) (gQ.le le) eE hq)) ?_)
          rintro q6 A262 ⟨aP,nD,nM,nH,nE,nN,rfl,c3,h6,ch,aD,aZ,bR,a9,h7,h8,h9,ev,ex,ey⟩
          have m2:=c3.g ai
          have m3:=c3.g a8
          have m6:=c3.g ap
          have f9:=a6.trans c3
          have xr:=ch
          have xn:=aD
          have xa:=aZ
          have xv:=bR
          have xf:=a9
          have y1:=h7
          have y2:=h8
          have y3:=h9
          have y4:=ev
          have y5:=ex
          have y6:=ey
          have hEX:eD k (dL LV N CL) (N.length + 1) 0 [CL.getD 0 0] []=uz k acc N:=by rw [hLV,hCL];rfl
          rw [hEX] at aZ a9
          have fL:bU ≠ aP:=fun z=>by have q0:=ab;rw [z,aD] at q0;cases q0
          have gZ:D0 ≠ aP:=fun z=>by have q0:=ai;rw [z,aD] at q0;cases q0
          have h4:b4 ≠ aP:=fun z=>by have q0:=a8;rw [z,aD] at q0;cases q0
          have h5:b9 ≠ aP:=fun z=>by have q0:=ap;rw [z,aD] at q0;cases q0
          have fN:ct ≠ aP:=fun z=>by have q0:=b0;rw [z,aD] at q0;cases q0
          have fO:a5 ≠ aP:=fun z=>by have q0:=aR;rw [z,aD] at q0;cases q0
          have fI:bT ≠ aP:=fun z=>by have q0:=aa;rw [z,aD] at q0;cases q0
          have fM:b6 ≠ aP:=fun z=>by have q0:=a7;rw [z,aD] at q0;cases q0
          have p9:=a9.ne ab
          have i2:=aZ.ne cc ai
          have ih:=bR.ne cc ai
          have iD:=a9.ne ai
          have pa:=a9.ne a8
          have it:=aZ.ne cc ap
          have iv:=bR.ne cc ap
          have iF:=a9.ne ap
          have pc:=a9.ne b0
          have pe:=a9.ne aR
          have pf:=a9.ne aa
          have pi:=a9.ne a7
          have hxl:=OO bV O
          refine hI (bg.none Y)<|.p Z (aK Z)<|.p Z (bj Z Z)<|.p Z (bj Z Z)<|.p Z (d7 Z)<|.p Z (d7 Z)<|.done<|m1 _ _<|.seq fun K303 mb=>.seq fun K305 me=>?_
          refine ak.region<|.J Z<|.p (ff Z)<|.J Z<|.on Z Z<|.J Z<|.on Z Z<|.p (cW Z)<|.on Z Z<|.p (ae j0 gV U Z) ?_
          refine Ops.on Z Z<|.p (ah io Z Z ch Z)<|.on Z Z<|.p (bx (n:=((uz k acc N).1.map (fun c=>acc.getD (fj CL c) false)).length) jQ Z (aZ.base a6).slc O (fH _))<|.on Z Z<|.p (ej (b:=20000) Z Z)<|.p (aO Z Z)<|.nil<|me _ _<|.if rfl (fun nn=>?_) (fun nn=>?_)
          ·
            refine ak.seq fun K308 pJ=>?_
            exfalso;have:=hxl;simp only [Tq] at *;omega
          ·
            refine ak.skip<|mb _ _<|.seq fun K310 mm=>.drawn [0,1,2,3,4,5,6,7,8,9,10,11,12,13,14] mixed Y Y Z<|.p Z (ah oa Z Z m3 Z)<|.p Z (cW Z)<|.p Z (ae AW cl U Z)<|.p Z (ah dK Z Z (f9.g hb) Z)<|.p Z (aK Z)<|.p Z (cW Z) ?_
            refine DOps.p Z (ae j0 gV U Z)<|.p Z (ah io Z Z ch Z)<|.p Z (aK Z)<|.p Z (cW Z)<|.p Z (ae rn fC U Z)<|.p Z (ah ie Z Z ch Z) ?_
            obtain ⟨eR,eL,ez,nB,_⟩:=(aZ.base a6).own.slice
            subst nB
            obtain ⟨eS,eM,eA,nC,_⟩:=(bR.base a6).own.slice
            subst nC
            refine DOps.p Z (dn Z (bE YB yp Eo Z))<|.m Z (fun hJ=>aU (cs:=[num ((k:Nat):Int),num ((0:Nat):Int),.slice eR eL ez,.slice eS eM eA]) (c':=[num ((k:Nat):Int),num ((0:Nat):Int),.slice eR eL ez,.slice eS eM eA]) h6 rfl rfl rfl rfl gr m6 G rfl rfl fun A319 bC=>?_)
            have mt:=bC.k aI m2
            have hw:=(aZ.base a6).keep bC.keep it
            have hx:=(bR.base a6).keep bC.keep iv
            have hm:=(a9.base a6).keep bC.keep iF
            have fd:=an f9 wf dO bC.n bC.keep
            refine hJ (bg.none Y)<|.p Z (d7 Z)<|.done<|mm _ _<|.ret ?_
            (repeat first | with_reducible refine cz ?_ | with_reducible refine cj ?_);(repeat first | with_reducible refine f5 ?_ | with_reducible refine fc ?_ | with_reducible refine eh U ?_ | with_reducible refine ei ?_ | with_reducible refine dA ?_);have cC:LV.getD 0 false=true:=(by first | assumption | simpa using ‹(!LV.getD 0 false)=false›);refine ⟨[D0],rfl,(by simp),(fun E hE=>by rw [XW] at hE;subst hE;exact mt),[.agg #[num ((k:Nat):Int),num ((0:Nat):Int),.slice eR eL ez,.slice eS eM eA],.bool (true)],fun A2 dJ em dG=>?_⟩;have hkD:∀ b o,b ≠ D0->A319.get b=some o->A2.get b=some o:=fun b o hb h=>dG b o (by simpa using hb) h;exact ⟨e8 jA gr Z (hkD _ _ aI.symm bC.get) Z (fB Z gB),⟨_,Z,_,_,_,Z,⟨by rw [em];exact fd.n,fun b o h=>hkD b o (by have:=wf _ _ h;omega) (fd.g h)⟩,dJ,ci (hw.keep hkD i2) (Xk bQ (by rw [qx (by rw [<- hLV];exact cC),hCL])),hx.keep hkD ih,kw (hm.keep hkD iD) (by rw [qx (by rw [<- hLV];exact cC)]),ev,ex,ey⟩⟩
def wu (k n:Nat) (R:List (List Int)):Prop:=∀ r ∈ R,r.length=k/\∀ m ∈ r,-1<=m/\m < (n:Int)
theorem wu.mono {k n n':Nat} {R:List (List Int)} (h:wu k n R) (hn:n<=n'):wu k n' R:=fun r hr=>⟨(h r hr).1,fun m hm=>by have:=(h r hr).2 m hm;omega⟩
theorem w8 {step:Int->Nat->Option Int} {q:Int}:∀ (l:List Nat) (r:List Int × List Int),(∀ m ∈ r.1,-1<=m/\m < (r.2.length:Int)) ->
    (l.foldl (gT step q) r).1.length=r.1.length + l.length/\r.2.length<=(l.foldl (gT step q) r).2.length/\∀ m ∈ (l.foldl (gT step q) r).1,-1<=m/\m < ((l.foldl (gT step q) r).2.length:Int)
  | [],r,h=>⟨rfl,XX _,h⟩
  | c :: l,r,h=>by
    rw [Tj]
    have key:(gT step q r c).1.length=r.1.length + 1/\r.2.length<=(gT step q r c).2.length/\∀ m ∈ (gT step q r c).1,-1<=m/\m < ((gT step q r c).2.length:Int):=by
      unfold gT
      split
      · refine ⟨by simp,XX _,fun m hm=>?_⟩
        rcases VJ.1 hm with z | z
        · exact h m z
        · rw [XW] at z;subst z;exact ⟨Int.le_refl _,by show (-1:Int) < (r.2.length:Int);omega⟩
      · rename_i t _
        split
        · rename_i ht
          refine ⟨by simp,XX _,fun m hm=>?_⟩
          rcases VJ.1 hm with z | z
          · exact h m z
          · rw [XW] at z;subst z;have:=Vj.2 ht;exact ⟨by omega,by show ((r.2.idxOf t:Nat):Int) < (r.2.length:Int);omega⟩
        · refine ⟨by simp,by simp,fun m hm=>?_⟩
          show -1<=m/\m < ((r.2 ++ [t]).length:Int)
          rw [Xz,TQ]
          rcases VJ.1 hm with z | z
          · have:=h m z;omega
          · rw [XW] at z;subst z;exact ⟨by omega,by omega⟩
    obtain ⟨k1,k2,k3⟩:=key
    obtain ⟨g1,g2,g3⟩:=w8 l (gT step q r c) k3
    exact ⟨by rw [g1,k1,Xq];omega,Xj k2 g2,g3⟩
theorem vp {k:Nat} {step:Int->Nat->Option Int} {D:Int->Prop} {bd:Nat} (hDs:∀ q c t,D q->c < k->step q c=some t->D t) (hfin:∀ Q:List Int,Q.Nodup->(∀ q ∈ Q,D q)->Q.length<=bd) :
    ∀ (f i:Nat) (Q:List Int) (R:List (List Int)),Q.Nodup->(∀ q ∈ Q,D q)->bd < f + i->R.length=i->i<=Q.length->wu k Q.length R ->
      (eD k step f i Q R).2.length=(eD k step f i Q R).1.length/\wu k (eD k step f i Q R).1.length (eD k step f i Q R).2
  | 0,i,Q,R,h1,h2,h3,h4,h5,h6=>by have:=hfin Q h1 h2;exact ⟨by show R.length=Q.length;omega,h6⟩
  | f + 1,i,Q,R,h1,h2,h3,h4,h5,h6=>by
    unfold eD;split
    · rename_i hi
      obtain ⟨g1,g2⟩:=wX hDs (h2 _ (aX (d:=(0:Int)) hi)) (List.range k) ([],Q) (fun c hc=>TY.1 hc) h1 h2
      obtain ⟨r1,r2,r3⟩:=w8 (step:=step) (q:=Q.getD i 0) (List.range k) ([],Q) (fun m hm=>by cases hm)
      refine vp hDs hfin f (i + 1) _ _ g1 g2 O (by simp [h4]) (Xj hi r2) fun r hr=>?_
      rcases VJ.1 hr with z | z
      · exact h6.mono r2 r z
      · rw [XW] at z;subst z
        exact ⟨by rw [show (JC k step (Q.getD i 0) Q).1.length=_ from r1];simp,r3⟩
    · exact ⟨by show R.length=Q.length;omega,h6⟩
theorem pK {k:Nat} {acc:List Bool} {L:List (List Int)} (h:n0 k acc L) (q:Int) (c:Nat) (t:Int) (hq:-1<=q/\q < (L.length:Int)) (hc:c < k) (e:kW L q c=some t):-1<=t/\t < (L.length:Int):=by
  simp only [kW,Option.some.injEq] at e
  subst e
  split
  · exact ⟨by omega,by have:=h.num;omega⟩
  · have:=h.val q.toNat c O hc;exact ⟨by omega,by omega⟩
theorem uk {k:Nat} {acc:List Bool} {L:List (List Int)} (h:n0 k acc L):yM k (rg k acc L) (gH k L).2/\(gH k L).2.length<=L.length + 1:=by
  have hn:=h.num
  have h0:∀ q ∈ ([0]:List Int),-1<=q/\q < (L.length:Int):=fun q hq=>by rw [XW] at hq;subst hq;omega
  obtain ⟨g1,g2⟩:=uG (D:=fun q=>-1<=q/\q < (L.length:Int)) (k:=k) (pK h) (L.length + 2) 0 [0] [] (by simp) h0
  obtain ⟨r1,r2⟩:=vp (D:=fun q=>-1<=q/\q < (L.length:Int)) (bd:=L.length + 1) (k:=k) (pK h) (fun Q h1 h2=>mW h1 h2) (L.length + 2) 0 [0] [] (by simp) h0 O Z (by simp) (fun r hr=>by cases hr)
  have hb:=mW g1 g2
  have hr:∀ s,s < (gH k L).2.length->((gH k L).2.getD s []).length=k/\∀ m ∈ (gH k L).2.getD s [],-1<=m/\m < ((gH k L).1.length:Int):=fun s hs=>r2 _ (aX hs)
  refine ⟨⟨h.sym,by rw [rg,Tq];exact r1.symm,by have:(gH k L).2.length=(gH k L).1.length:=r1;have:(gH k L).1.length<=L.length + 1:=hb;omega,fun s hs=>(hr s hs).1,fun s x hs hx=>?_⟩,by have:(gH k L).2.length=(gH k L).1.length:=r1;have:(gH k L).1.length<=L.length + 1:=hb;omega⟩
  have:=hr s hs
  have h2:=this.2 (c5 (gH k L).2 s x) (aX (by rw [this.1];exact hx))
  have:(gH k L).2.length=(gH k L).1.length:=r1
  omega
theorem Tr (b:Nat) (rwb:Bool) (capb k:Nat) (av nv fv bv:Value) (acc:List Bool) (N:List (List Int)) (rows:List Value) (A:AH) (hok:yM k acc N) (hN:N.length<=20000) (hb:A.get b=some (.row rwb [num (k:Int),av,nv,fv,bv] capb)) (hav:bz A 1 av (bQ acc)) (hnv:bz A 1 nv (dx rows)) (hrl:rows.length=N.length) (hF:∀ i,i < N.length->bz A 1 (rows.getD i undef) (cf (N.getD i []))):bH prog 117 #[.pointer (some ⟨b,0,none⟩),.bool (true)] A (fun v A1=>∃ av2 nv2 rows2,v=.tuple #[.agg #[num (k:Int),num ((0:Nat):Int),av2,nv2],num ((0:Nat):Int)]/\A.le A1/\A1.wf/\Fresh A A1 av2 1 (bQ (ux k acc N).1)/\Fresh A A1 nv2 1 (dx rows2)/\iZ A A1 rows2 (ux k acc N).2/\aL av2 nv2/\au av2 rows2/\au nv2 rows2):=by
 refine aN (e:=[(0,.pointer (some ⟨b,0,none⟩)),(1,.bool (true))]) (args:=[.pointer (some ⟨b,0,none⟩),.bool (true)]) call117 func117 Z results117 ntmps117 Z Z Z (fun wf=>?_);have aA:=AH.le.refl A;refine ak.sq fun h2=>.region<|.m (fun b7=>co wf yp rfl fun A5 b4 a2=>?_);have V:=aA.trans a2.le;refine b7<|.I Z<|.nil<|h2<|.sq fun h9=>.sq fun b1=>.region<|.J Z<|.p (ff Z)<|.nil ?_;refine b1<|.cond_false Z<|.skip<|h9<|.sq fun b2=>.region<|.J Z<|.m (fun aI=>ax Z (Xe b _ _ k av nv fv bv acc N rows A5 hok hN (V.g hb) (hav.le V) (hnv.le V) hrl (fun i hi=>(hF i hi).le V)) ?_);rintro bp A16 ⟨b0,b8,bb,rfl,ad,a1,a3,a5,a4,a6,a7,a8⟩;have az:=ad.g a2.get;have ay:=V.trans ad;have xa:=a3;have xv:=a5;have xf:=a4;have bd:=a6;have bl:=a7;have bm:=a8;have aY:=a4.ne a2.get;refine aI<|.J Z<|.p (bj Z Z)<|.p (bj Z Z)<|.m (fun aP=>co a1 yp rfl fun A25 bc h=>?_);have aT:=(a3.base V).own.ne_new a1 h.lo;have aV:=(a5.base V).own.ne_new a1 h.lo;have aZ:=(a4.base V).ne_new a1 h.lo;have ap:=(a3.base V).le h.le;have ar:=(a5.base V).le h.le;have aB:=(a4.base V).le h.le;refine aP ?_;obtain ⟨ag,ab,a9,b9,_⟩:=ap.own.slice;subst b9;obtain ⟨ai,ac,aa,ba,_⟩:=ar.own.slice;subst ba;refine Ops.m (fun aR=>aU (cs:=[num ((k:Nat):Int),num ((0:Nat):Int),.slice ag ab a9,.slice ai ac aa]) (c':=[num ((k:Nat):Int),num ((0:Nat):Int),.slice ag ab a9,.slice ai ac aa]) h.wf rfl rfl rfl rfl gr h.get G rfl rfl fun A38 X=>?_);have aC:=aB.keep X.keep aZ;refine aR<|.I Z<|.nil<|b2<|.sq fun b3=>.sq fun b5=>.region<|.J Z<|.p (ff Z)<|.nil ?_;refine b5<|.cond_false Z<|.skip<|b3<|.sq fun b6=>.region<|.p (ao jA gr Z Z X.get Z)<|.m (fun aS=>aU (cs:=[num ((k:Nat):Int),num ((0:Nat):Int),.slice ag ab a9,.slice ai ac aa]) (c':=[num ((k:Nat):Int),num ((0:Nat):Int),.slice ag ab a9,.slice ai ac aa]) X.wf rfl rfl rfl rfl gr (X.k (ne_new a1 az h.lo) (h.le.g az)) G rfl rfl fun A52 a0=>?_);have aF:=(ap.keep X.keep aT).keep a0.keep (a3.ne a2.wf a2.get);have aG:=(ar.keep X.keep aV).keep a0.keep (a5.ne a2.wf a2.get);have aD:=aC.keep a0.keep aY;refine aS<|.I Z<|.nil<|b6<|.rt (by exact aH (e8 jA gr Z a0.get Z (fB Z gB)) (⟨_,_,_,Z,(an (an (ay.trans h.le) wf (bh wf (Xj ay.n h.lo)) X.n X.keep) wf (bh wf (Xj aA.n a2.lo)) a0.n a0.keep),a0.wf,aF,aG,aD,a6,a7,a8⟩))
theorem S8 (k:Nat) (acc:List Bool) (L:List (List Int)) (av nv:Value) (rows:List Value) (A:AH) (hL:L.length<=19000) (hok:n0 k acc L) (hav:bz A 1 av (bQ acc)) (hnv:bz A 1 nv (dx rows)) (hrl:rows.length=L.length) (hF:∀ i,i < L.length->bz A 1 (rows.getD i undef) (cf (L.getD i []))):bH prog 79 #[.agg #[num ((k:Nat):Int),num ((0:Nat):Int),av,nv]] A (fun v A1=>∃ av2 nv2 rows2,v=.tuple #[.agg #[num (k:Int),num ((0:Nat):Int),av2,nv2],num ((0:Nat):Int)]/\A.le A1/\A1.wf/\Fresh A A1 av2 1 (bQ (vK k acc L).1)/\Fresh A A1 nv2 1 (dx rows2)/\iZ A A1 rows2 (vK k acc L).2/\aL av2 nv2/\au av2 rows2/\au nv2 rows2):=by
 refine aN (e:=[(0,.agg #[num ((k:Nat):Int),num ((0:Nat):Int),av,nv])]) (args:=[.agg #[num ((k:Nat):Int),num ((0:Nat):Int),av,nv]]) call79 func79 Z results79 ntmps79 Z Z Z (fun wf=>?_);have bS:=AH.le.refl A;have aF:=hok;obtain ⟨hmk,hml⟩:=uk hok;refine ak.sq fun h2=>.region<|.m (fun bP=>dQ wf rfl rfl fun A5 b4 aG=>?_);have ba:=bS.trans aG.le;refine bP<|.m (fun bR=>co aG.wf yp rfl fun A10 b9 a9=>?_);have b6:=a9.le.g aG.get;have a6:=ba.trans a9.le;refine bR<|.I Z<|.nil<|h2<|.sq fun bL=>.sq fun bM=>.region<|.p (ao jA gr Z Z b6 Z)<|.m (fun br=>ax Z (S9 k acc L av nv rows A10 aF (hav.le a6) (hnv.le a6) hrl (fun i hi=>(hF i hi).le a6)) ?_);rintro cH A20 ⟨rfl,a7,c0⟩;have ar:=a7.g b6;have aD:=a7.g a9.get;have h:=a6.trans a7;refine br<|.p (((fy (a:=0) (b:=0) Z Z).trans (Xk (fun z=>some (Value.bool z,[])) (Xv (fun q=>q Z)))))<|.nil<|bM<|.cond_false Z<|.skip<|bL<|.sq fun bO=>.region<|.p (ao jA gr Z Z ar Z) ?_;refine Ops.m (fun bu=>ax Z (XD k acc L av nv rows A20 aF (hav.le h) (hnv.le h) hrl (fun i hi=>(hF i hi).le h)) ?_);rintro cK A29 ⟨a5,aA,aI,aC,aB,aP,rfl,a8,az,ac,ab,aa,ad,X,aT,aV,aY,aZ,b0,b1⟩;have ay:=a8.g aD;have a2:=h.trans a8;have xr:=ac;have xn:=ab;have xa:=aa;have xv:=ad;have xf:=X;have w1:=aT;have w2:=aV;have w3:=aY;have w4:=aZ;have w5:=b0;have w6:=b1;have aR:b4 ≠ a5:=fun z=>by have q0:=ar;rw [z,ab] at q0;cases q0
 have aS:b9 ≠ a5:=fun z=>by have q0:=aD;rw [z,ab] at q0;cases q0
 have cc:=X.ne ar;have bB:=X.ne aD;refine bu<|.m (fun bv=>ax Z (Tr a5 _ _ k aA aI aC aB (rg k acc L) ((gH k L).2) aP A29 hmk O ac (aa.base h).slc (ad.base h).slc (X.base h).len (fun i hi=>((X.base h).fr i hi).slc)) ?_);rintro cP A42 ⟨bD,bT,bY,rfl,a0,b2,a3,a4,a1,ag,ai,ap⟩;have c4:=(aa.base h).le a0;have c7:=(ad.base h).le a0;have bd:=(X.base h).le a0;have xa:=a3;have xv:=a4;have xf:=a1;have ct:=ag;have cv:=ai;have cC:=ap;have ch:=a1.ne (a8.g ar);have bC:=a1.ne ay;have ck:=a1.ne ac;refine bv<|.p (bj Z Z)<|.p (bj Z Z) ?_;obtain ⟨bb,b7,b3,bU,_⟩:=(a3.base a2).own.slice;subst bU;obtain ⟨bc,b8,b5,bV,_⟩:=(a4.base a2).own.slice;subst bV;refine Ops.m (fun bA=>aU (cs:=[num ((k:Nat):Int),num ((0:Nat):Int),.slice bb b7 b3,.slice bc b8 b5]) (c':=[num ((k:Nat):Int),num ((0:Nat):Int),.slice bb b7 b3,.slice bc b8 b5]) b2 rfl rfl rfl rfl gr (a0.g ay) G rfl rfl fun A63 V=>?_);have bm:=(a3.base a2).keep V.keep (a3.ne az ay);have bp:=(a4.base a2).keep V.keep (a4.ne az ay);have c3:=bd.keep V.keep bB;have bl:=(a1.base a2).keep V.keep bC;refine bA<|.I Z<|.nil<|bO<|.rt (by exact aH (e8 jA gr Z V.get Z (fB Z gB)) (⟨_,_,_,Z,(an (a2.trans a0) wf (bh wf (Xj ba.n a9.lo)) V.n V.keep),V.wf,bm,bp,bl,ag,ai,ap⟩))
def il (g:Int) (rs:List aQ):List Wd:=(bF g rs).map (·.1)
def na (g:Int) (l:List Wd) (rs:List aQ):Nat:=if bN g l rs then 2 * g.toNat else 0
def gR (g:Int) (l:List Wd) (rs:List aQ):Nat:=if bN g l rs then 0 else 100
def jz (g:Int) (l:List Wd) (rs:List aQ):List Bool × List (List Int):=if bN g l rs then vK (2 * g.toNat) (Gv (2 * g.toNat) (il g rs)) (Ak (2 * g.toNat) (il g rs)) else ([],[])
section
variable {g:Int} {l:List Wd} {rs:List aQ} {gn i k:Nat} {w:Wd}
theorem Al (h:(!bN g l rs)=true):na g l rs=0/\gR g l rs=100/\jz g l rs=([],[]):=by
  have h:bN g l rs=false:=by simpa using h
  simp [na,gR,jz,h]
theorem rk (h:bN (gn:Int) l rs=true):na gn l rs=2 * gn/\gR gn l rs=0/\jz gn l rs=vK (2 * gn) (Gv (2 * gn) (il gn rs)) (Ak (2 * gn) (il gn rs)):=by
  simp [na,gR,jz,h]
theorem ye (h:bZ g w=0):∀ c ∈ w,0<=ix c/\ix c < 2 * g:=fun c hc=>by
  unfold bZ at h
  split at h
  · cases h
  · split at h
    · cases h
    · split at h
      · rename_i q
        have:=Vx.1 q c hc
        simpa [je] using this
      · cases h
theorem BF:∀ x,x < 16->ix (bq.getD x 0)=x:=by decide
theorem VH:∀ x,x < 16->x ^^^ 1 < 16/\(x ^^^ 1) / 2=x / 2:=by decide
theorem r8 (hs:bN (gn:Int) l rs=true):∀ s ∈ bF (gn:Int) rs,∀ c ∈ s.1,0<=ix c/\ix c < ((2 * gn:Nat):Int):=fun s hm c hc=>by
  have hg:=kn hs
  rcases VJ.1 hm with z | z
  · obtain ⟨r,hr,rfl⟩:=Vk.1 z
    have:=ye (FF (jN ((ke hs).2.2.1 r hr)).1) c hc
    omega
  · obtain ⟨x,hx,rfl⟩:=Vk.1 z
    have hx:=TY.1 hx
    rw [XY] at hx
    have h1:=VH x O
    simp only [QM,Vy,SQ,or_false] at hc
    rcases hc with rfl | rfl
    · rw [BF x O];omega
    · rw [BF _ h1.1];omega
theorem rE:(il g rs).length=(bF g rs).length:=by simp [il]
theorem Jj (hi:i < (bF g rs).length):(il g rs).getD i []=((bF g rs).getD i ([],[])).1:=by
  simp [il,XJ,hi]
theorem yi (hs:bN g l rs=true):∀ w ∈ il g rs,w ≠ []:=fun w hw e=>by
  obtain ⟨s,h1,rfl⟩:=Vk.1 hw
  have:=(vh (kn hs) (zW hs) s h1).1
  rw [e] at this;simp at this
theorem TI.next2 {L:List (List Int)} {E:List Bool} (h:TI k (il g rs) i L E) (hi:i < (bF g rs).length) (hw:∀ c ∈ ((bF g rs).getD i ([],[])).1,0<=ix c/\ix c < k):TI k (il g rs) (i + 1) (vJ k L E ((bF g rs).getD i ([],[])).1) (vI k L E ((bF g rs).getD i ([],[])).1):=by
  have:=h.next (by rw [rE];exact hi) (by rw [Jj hi];exact hw)
  rwa [Jj hi] at this
end
section
variable {k:Nat} {L:List (List Int)} {E:List Bool} {W S:List (List Nat)}
theorem Jy {s x:Nat} (hs:s < L.length) (hx:x < (L.getD s []).length):c5 (L.map (ew E)) s x=if E.getD (c5 L s x).toNat false then -1 else c5 L s x:=by
  unfold c5
  have e:(L.map (ew E)).getD s []=ew E (L.getD s []):=by simp [XJ,hs]
  rw [e,ew]
  have:((L.getD s []).map fun m=>if E.getD m.toNat false=true then -1 else m).getD x 0=(fun m:Int=>if E.getD m.toNat false=true then -1 else m) ((L.getD s []).getD x 0):=by
    simp only [XJ,List.getElem?_map]
    have:x < (L[s]?.getD []).length:=by simpa [XJ] using hx
    simp [this]
  rw [this]
theorem Ol (h:Ux k L E W S) (hk:1<=k/\k<=400) (hn:W.length<=19000):n0 k (E.map fun e=>!e) (L.map (ew E)):=by
  have h1:=h.len
  have h2:=h.pos
  refine ⟨hk,by simp;omega,by simp;omega,fun s hs=>?_,fun s x hs hx=>?_⟩
  · rw [Tq] at hs
    rw [show (L.map (ew E)).getD s []=ew E (L.getD s []) by simp [XJ,hs],ph]
    exact h.row s O
  · rw [Tq] at hs ⊢
    have hr:=h.row s O
    rw [Jy hs O]
    have:=h.to s x O hx
    split
    · omega
    · omega
theorem Ux.at (h:Ux k L E W S) {s x:Nat} (hs:s < W.length) (hx:x < k):0<=(L.getD s []).getD x 0/\((L.getD s []).getD x 0).toNat < W.length:=by
  have:=h.to s x hs hx
  simp only [c5] at this
  omega
end
theorem Md {E:List Bool} {s:Nat} (h:s < E.length):(E.take s).map (fun e=>!e) ++ [!E.getD s false]=(E.take (s + 1)).map fun e=>!e:=oo (z:=false) (fun e=>!e) h
end Go.Proofs.YtjppkekmddjcfaaGreatDoor
