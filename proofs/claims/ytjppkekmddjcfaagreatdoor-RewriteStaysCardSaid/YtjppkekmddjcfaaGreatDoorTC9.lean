/- 'cayleylaw10.RewriteStays': true at every system and every word: the functions of the layer leave their arguments as they are. Its proof. Conditions: the tables that the row lists are as the program lays them; the card ties that to the program's text. -/
import Derived.Test.YtjppkekmddjcfaaGreatDoorTC8
import Derived.Test.YtjppkekmddjcfaaGreatDoorTC2
set_option linter.unusedSectionVars false
set_option linter.unusedVariables false
set_option linter.unusedSimpArgs false
namespace Go.Proofs.YtjppkekmddjcfaaGreatDoor
open Go Go.RowKit V
set_option maxRecDepth 100000


abbrev Rl (x:au):Prop:=vn x.left=true/\x.pv.oneCell'=true
abbrev EW:={x:au // Rl x}
instance:Inhabited EW:=⟨⟨.zero,by decide,by decide⟩⟩
theorem D6 {w:Wd} (h:vn w=true):w.length<=100000:=by simp only [vn,Bool.and_eq_true,decide_eq_true_eq] at h;exact h.1
def QL (x y:EW):Int:=nZ x.1.left y.1.left
theorem Jj:Go.Sort.SWO (ltOf QL) :=
  ⟨fun x=>decide_eq_false (by rw [QL,CR.cmpw_code];omega),fun x y z h1 h2=>decide_eq_true (by have h1:=CR.cmpw_code.1 (of_decide_eq_true h1);have h2:=CR.cmpw_code.1 (of_decide_eq_true h2);exact CR.cmpw_code.2 O),
   fun x y z h1 h2=>decide_eq_false (fun h=>by have k1:¬ CR.code x.1.left < CR.code y.1.left:=fun q=>of_decide_eq_false h1 (CR.cmpw_code.2 q);have k2:¬ CR.code y.1.left < CR.code z.1.left:=fun q=>of_decide_eq_false h2 (CR.cmpw_code.2 q);have k3:CR.code x.1.left < CR.code z.1.left:=CR.cmpw_code.1 h;omega)⟩
theorem zh {A0 A:AH} {b n:Nat} (hL:eF A0) (le:A0.le A) (hb:A0.get b=none):eF (A.frozen b n):=by
  obtain ⟨r,c,h⟩:=hL
  have h2:=le.get _ _ h
  have:(A.frozen b n).get 0=some (.row false (aw c5) c):=by
    simp only [AH.frozen]
    rw [if_neg (by rintro rfl;rw [h] at hb;cases hb),h2];rfl
  exact ⟨_,_,this⟩
theorem Em (d:List EW):(d.flatMap fun x=>ml x.1)=ci (d.map (·.1)):=by simp [ci,List.flatMap_map]
theorem M9 {L:List au} (h:∀ x ∈ L,Rl x):∃ d:List EW,d.map (·.1)=L:=⟨L.pmap (fun x hx=>(⟨x,hx⟩:EW)) h,by simp [List.map_pmap]⟩
theorem EK (L:List au) (lv:Value) (A0 A:AH) (le:A0.le A) (h:A0.wf) (own:Fresh A0 A lv 3 (ci L)) (hL:eF A0) (hok:∀ x ∈ L,Rl x) (hl:L.length<=30000) :
    bG Tryz.prog 85 #[lv,.func (.func 86) #[] #[]] A (fun v A1=>∃ L2,L2.Perm L/\L2.Pairwise (fun x y=>¬ nZ y.left x.left < 0)/\v=.tuple #[]/\A0.le A1/\A1.wf/\Fresh A0 A1 lv 3 (ci L2)):=by
  obtain ⟨d,rfl⟩:=M9 hok
  rw [<- Em] at own
  refine (yc Tryz.sortR 3 U (fun w=>Tryz.isAgg83 w) (fun w=>Tryz.sizeOf83 w) (fun x:EW=>ml x.1) (fun _=>rfl) ?_ QL Jj 86 #[] Tryz.call85 Tryz.call86 (by rw [List.length_map] at hl;omega) h le own ?_).mono ?_
  · intro x v hv
    simp only [ml,List.mem_cons,List.not_mem_nil,or_false] at hv
    rcases hv with rfl | rfl | rfl
    · rfl
    · rfl
    · exact x.2.2
  · intro n hn b hb x y
    have hx:=x.2;have hy:=y.2
    refine (RI x.1 y.1 (A.frozen b n) (zh hL le (own.lo b hb)) (by have:=D6 hx.1;omega) (by have:=D6 hy.1;omega)).mono ?_
    rintro v A1 rfl
    show _=num _
    rw [fx,if_pos ⟨x.2.1,y.2.1⟩];rfl
  · rintro v A1 ⟨rfl,h2,h3,_,d',h4,h5,h6⟩
    rw [Em] at h6
    exact ⟨d'.map (·.1),h4.map _,(by rw [List.pairwise_map];exact h5),Z,h2,h3,h6⟩


theorem Il (g:Int) (u:Value) (l:List (List UInt8)) (rv:Value) (rs:List au) (A:AH) (hn:l.length<=9223372036854775807) (hm:rs.length<=9223372036854775807) (hmx:cx g l rs=true->(bg g rs).length<=50000) (hL:eF A) (hM:nr A) (hu:bJ A 1 u (dc l)) (hr:bJ A 3 rv (ci rs)) (hp:Proofs A rs):bG Tryz.prog 38 #[.agg #[num (g),u,rv]] A (fun v A1=>∃ u2 rv2 g2 l2 D,v=.tuple #[.agg #[num g2,u2,rv2],num ((j9 g l rs:Nat):Int)]/\A.le A1/\A1.wf/\Fresh A A1 u2 1 (dc l2)/\Fresh A A1 rv2 3 (ci D)/\Proofs A1 D/\QC g l rs g2 l2 D):=by
 refine iy Tryz.call38 Tryz.func38 Z Tryz.results38 Tryz.ntmps38 Z (fun wf=>?_);have CK:=AH.le.refl A;refine ao.seq fun _ h2=>.region<|.l Z (fun _ _ CF _=>ej wf rfl rfl fun A5 b4 mV=>?_);have w3:=CK.trans mV.le;refine CF _ _<|.l Z (fun _ _ CH _=>ca mV.wf vp rfl fun A10 b9 fQ=>?_);have dv:=aL wf (Nat.le_trans w3.n fQ.lo);have v9:=fQ.le.get _ _ mV.get;have eV:=w3.trans fQ.le;refine CH _ _<|.q Z (ah Z)<|.nil<|h2 _ _<|.seq fun _ C7=>.region<|.q Z (am dn cT Z Z v9 Z)<|.l Z (fun _ _ B8 _=>aK Z (ra ((g)) u l rv rs A10 hn hm hmx (hL.le eV) (hu.le eV) (hr.le eV) (hp.le eV)) ?_);rintro Es A18 ⟨rfl,fO,g7⟩;have vC:=fO.get _ _ v9;have vS:=fO.get _ _ fQ.get;have mM:=eV.trans fO;refine B8 _ _<|.q Z (ae Z)<|.q Z (bf Z Z)<|.q Z (bf Z Z)<|.q Z (bf Z Z)<|.l Z (fun _ _ B9 _=>ca g7 yi rfl fun A25 v8 dj=>?_);have gm:=ne_new g7 vC dj.lo;have gp:=ne_new g7 vS dj.lo;have kc:=aL wf (Nat.le_trans mM.n dj.lo);have Cb:=dj.le.get _ _ vC;have Cc:=dj.le.get _ _ vS;have Bp:=mM.trans dj.le;refine B9 _ _<|.q Z (ah Z)<|.l Z (fun _ _ Ba _=>aM (cs:=[num ((dr ((g)) l rs).2.1.i),num ((dr ((g)) l rs).2.1.j),aX ((dr ((g)) l rs).2.1.word),aX ((dr ((g)) l rs).2.1.u),aX ((dr ((g)) l rs).2.1.v)]) (c':=[num ((dr ((g)) l rs).2.1.i),num ((dr ((g)) l rs).2.1.j),aX ((dr ((g)) l rs).2.1.word),aX ((dr ((g)) l rs).2.1.u),aX ((dr ((g)) l rs).2.1.v)]) dj.wf rfl rfl rfl rfl jv dj.get (Nat.le_of_ble_eq_true rfl) rfl rfl fun A31 b7=>?_);have ex:=b7.keep _ _ gm Cb;have fi:=b7.keep _ _ gp Cc;have dW:=al Bp wf kc b7.n b7.keep;refine Ba _ _<|.q Z (ah Z)<|.nil<|C7 _ _<|.seq fun _ Cf=>.block<|.seq fun _ Ch=>.region<|.q Z (ae Z)<|.q Z (fF (b:=0) Z Z) ?_;refine Ops.q Z (ah Z)<|.nil<|Ch _ _<|.if rfl (fun CL=>?_) (fun CL=>?_)
 ·refine ao.seq fun _ Ck=>.region<|.q Z (cR Z (aU MQ vp vw Z))<|.q Z (ae Z)<|.l Z (fun _ _ Bb _=>aM (cs:=[num ((0:Nat):Int),.slice none 0 0,.slice none 0 0]) (c':=[num ((0:Nat):Int),.slice none 0 0,.slice none 0 0]) b7.wf rfl rfl rfl rfl cT fi (Nat.le_of_ble_eq_true rfl) rfl rfl fun A44 g5=>?_);have Br:=al dW wf dv g5.n g5.keep;refine Bb _ _<|.q Z (ah Z)<|.nil<|Ck _ _<|.ret ?_;repeat first | with_reducible refine bE ?_ | with_reducible refine bk ?_
  exact be (dE dn cT Z g5.get Z (ei Z eh)) (⟨_,_,0,[],[],by first | (rw [sm ‹_›];rfl) | (rw [so ‹_› ‹_›];rfl) | (rw [sq ‹_› ‹_› (lc O hsc ‹_› ‹_›).symm];rfl),Br,g5.wf,Fresh.nil _ _ _,Fresh.nil _ _ _,(fun _ h=>by cases h),.none (by first | (rw [sm ‹_›];assumption) | (rw [so ‹_› ‹_›];decide) | (rw [sq ‹_› ‹_› (lc O hsc ‹_› ‹_›).symm];decide))⟩)
 refine ao.seq fun _ Cp=>.region<|.q Z (ae Z)<|.q Z (eE Z)<|.q Z (ah Z)<|.nil<|Cp _ _<|.ifB Z (fun CR=>?_) (fun CR=>?_)
 ·refine ao.seq fun _ Cq=>.region<|.q Z (cR Z (aU MQ vp vw Z))<|.l Z (fun _ _ Bc _=>aM (cs:=[num ((0:Nat):Int),.slice none 0 0,.slice none 0 0]) (c':=[num ((0:Nat):Int),.slice none 0 0,.slice none 0 0]) b7.wf rfl rfl rfl rfl cT fi (Nat.le_of_ble_eq_true rfl) rfl rfl fun A55 g6=>?_);have Bs:=al dW wf dv g6.n g6.keep;refine Bc _ _<|.q Z (ah Z)<|.nil<|Cq _ _<|.ret ?_;repeat first | with_reducible refine bE ?_ | with_reducible refine bk ?_
  exact be (dE dn cT Z g6.get Z (ei Z eh)) (⟨_,_,0,[],[],by first | (rw [sm ‹_›];rfl) | (rw [so ‹_› ‹_›];rfl) | (rw [sq ‹_› ‹_› (lc O hsc ‹_› ‹_›).symm];rfl),Bs,g6.wf,Fresh.nil _ _ _,Fresh.nil _ _ _,(fun _ h=>by cases h),.none (by first | (rw [sm ‹_›];assumption) | (rw [so ‹_› ‹_›];decide) | (rw [sq ‹_› ‹_› (lc O hsc ‹_› ‹_›).symm];decide))⟩)
 refine ao.skip<|Cf _ _<|.seq fun _ vX=>?_;have hs:cx g l rs=true:=o5 ‹_›;have hsl:=(ir hs).2.1;have hll:=(d5 (ir hs).1).2.1;refine ao.drawnP [0,1,2,3,4,5] 6 9 [7,8,9,10] [6,7,8,10] mixed Y Y Z<|.q Z Z Z (aj fH iA U Z)<|.q Z Z Z (aj ia dx U Z) ?_;have mt:=dL (off:=0) ex (show _=some (num (g)) from rfl);refine kX.q Z Z Z (ak fj Z Z ex Z)<|.q Z Z Z (aj fH iA U Z)<|.q Z Z Z (aj go ms U Z) ?_;have B6:=dL (off:=1) ex (show _=some (u) from rfl);refine kX.q Z Z Z (ak lU Z Z ex Z)<|.both Z Z Z Z Z Z ?_ ?_
 ·refine fun _ _ Bd _=>aK Z (zQ u l A31 O (hu.le dW)) ?_;rintro Et A66 ⟨e5,ec,fI⟩;have vZ:=e5.get _ _ ex;have w0:=e5.get _ _ fi;have w1:=e5.get _ _ b7.get;have mv:=cm e5 mt;have mT:=dW.trans e5;have gC:=fI.base dW;have Bu:=fI.ne b7.wf ex;have Bv:=fI.ne b7.wf fi;refine Bd _ _ (aO.list (L:=[(⟨b4,0,none⟩,num (g))]) Y (bq mv cL)) ?_;obtain ⟨bY,bT,bP,CS,_⟩:=gC.own.slice;subst CS;refine bj.q Z Z Z (cR Z (aU Sh Sk GT Z))<|.q Z Z Z (cR Z (aU MQ vp vw Z))<|.l Z Z Z (fun _ _ Bk _=>ca ec vp rfl fun A81 ev br=>?_);have ey:=ne_new ec vZ br.lo;have ez:=ne_new ec w0 br.lo;have fR:=ne_new ec w1 br.lo;have n2:=gC.own.ne_new ec br.lo;have g8:=aL wf (Nat.le_trans mT.n br.lo);have Cs:=br.le.get _ _ vZ;have Cu:=br.le.get _ _ w0;have Cv:=br.le.get _ _ w1;have wy:=gC.le br.le;have B7:=cm br.le mv;have Bt:=mT.trans br.le;refine Bk _ _ (aO.list (L:=[(⟨b4,0,none⟩,num (g))]) Y (bq B7 cL))<|.l Z Z Z (fun _ _ Bl _=>aM (cs:=[num (g),.slice bY bT bP,.slice none 0 0]) (c':=[num (g),.slice bY bT bP,.slice none 0 0]) br.wf rfl rfl rfl rfl cT br.get (Nat.le_of_ble_eq_true rfl) rfl rfl fun A91 cH=>?_);have me:=cH.keep _ _ ey Cs;have w2:=cH.keep _ _ ez Cu;have CB:=cH.keep _ _ fR Cv;have k9:=wy.keep cH.keep n2;have eX:=al Bt wf g8 cH.n cH.keep;refine Bl _ _ (aO.none Y)<|.done<|vX _ _<|.seq fun _ CC=>.region<|.q Z (am dn cT Z Z me Z)<|.l Z (fun _ _ pL _=>aK Z (jU ((g)) u l rv rs A91 (ls hs) (oL hs) (hu.le eX) (hr.le eX) (hp.le eX)) ?_);rintro E4 A102 ⟨ab,gg,rfl,d2,CU,eS,bm,k1,fl⟩;have kl:=d2.get _ _ me;have wF:=d2.get _ _ w2;have wL:=d2.get _ _ cH.get;have ox:=k9.le d2;have hQ:=eX.trans d2;have hrow:=eS;have hno:=bm;have hix:=k1;have hOn:=fl;have f3:b4 ≠ ab:=fun z=>by have q0:=me;rw [z,bm] at q0;cases q0
  have f9:b9 ≠ ab:=fun z=>by have q0:=w2;rw [z,bm] at q0;cases q0
  have mX:v8 ≠ ab:=fun z=>by have q0:=CB;rw [z,bm] at q0;cases q0
  have dk:ev ≠ ab:=fun z=>by have q0:=cH.get;rw [z,bm] at q0;cases q0
  have gD:=mW eX bm;have sZ:=qk k9.own bm;refine pL _ _<|.q Z (ah Z)<|.nil ?_;obtain ⟨M,hMx,hMw,hMl,hMb,mm⟩:=fl;have gM:M.get ev=none:=mm _ _ cH.get;refine CC _ _<|.seq fun _ wM=>.seq fun _ wP=>.region<|.q Z (aj de fw U Z)<|.q Z (ak ii Z Z kl Z)<|.q Z (bH (n:=rs.length) jw Z (hr.le hQ) O (dm _))<|.q Z (ae Z)<|.nil<|wP _ _ ?_;refine ao.block ?_;have gA:lx A A102 []:=yR;refine ao.loop (X:=Nat × List au × Value × Value × Value × Value × Value × Value × Value) (fun ⟨i,D,y0,y5,y6,y7,y8,y9,a0⟩=>[(1,.pointer (some ⟨b4,0,none⟩)),(2,.pointer (some ⟨b9,0,none⟩)),(7,.pointer (some ⟨ev,0,none⟩)),(8,.pointer (some ⟨ab,0,none⟩)),(40,rv),(41,num ((rs.length:Nat):Int)),(42,num ((i:Nat):Int))]) (fun ⟨i,D,y0,y5,y6,y7,y8,y9,a0⟩ B=>(i<=rs.length/\D.length<=i/\ef rs (rs.drop i) (D.map (dA true))=ef rs rs [])/\A.le B/\Fresh A B a0 3 (ci D)/\Fresh A B (.slice bY bT bP) 1 (dc l)/\B.get ev=some (.row true [num (g),.slice bY bT bP,a0] 3)/\B.get ab=some (.row true [y0,num ((g)),u,rv,.map (some gg),y5,y6,y7,y8,y9] 10)/\B.get b4=some (.row true [num (g),u,rv] 3)/\B.get b9=some (.row true [num ((0:Nat):Int),.slice none 0 0,.slice none 0 0] 3)/\V.blk a0 ≠ some ev/\V.blk (.slice bY bT bP) ≠ some ev/\V.blk a0 ≠ some ab/\V.blk (.slice bY bT bP) ≠ some ab/\V.blk a0 ≠ some b4/\V.blk (.slice bY bT bP) ≠ some b4/\V.blk a0 ≠ some b9/\V.blk (.slice bY bT bP) ≠ some b9/\bh a0 (.slice bY bT bP)/\lx A B D/\bI (fB D) ev/\bI (fB D) ab/\bI (fB D) b4/\bI (fB D) b9/\aq a0 (fB D)/\aq (.slice bY bT bP) (fB D)/\M.le B/\(∀ b,V.blk a0=some b->M.get b=none)) (fun ⟨i,D,y0,y5,y6,y7,y8,y9,a0⟩=>rs.length - i) (⟨0,[],.slice none 0 0,.slice none 0 0,num ((0:Nat):Int),aX ([]),num ((0:Nat):Int),.slice none 0 0,.slice none 0 0⟩) (vK Z Z Z Z Z Z Z) (⟨⟨Nat.zero_le _,Nat.zero_le _,rfl⟩,hQ,(Fresh.nil A A102 3),ox,wL,eS,kl,wF,(fun q=>by cases q),n2,(fun q=>by cases q),sZ,(fun q=>by cases q),Bu,(fun q=>by cases q),Bv,bh.nil,gA,jS,jS,jS,jS,aq.nil,Ah,hMl,(fun _ q=>by cases q)⟩) ?_;rintro ⟨i,D,y0,y5,y6,y7,y8,y9,a0⟩ B116 ⟨⟨hi,hrl,hsc⟩,eG,c3,cu,c7,dI,eN,dS,b1,bv,ad,ar,bU,cV,bb,bC,cb,bR,cZ,aF,dw,bA,aS,dD,g9,cv⟩;refine ao.wf fun bM=>?_;have hlw:=fun q:i < rs.length=>u7 hs _ (bx (d:=au.zero) q);refine ao.seq fun _ wS=>.region<|.q Z (cA Z Z)<|.nil<|wS _ _<|.seq fun _ wY=>.if rfl (fun By=>?_) (fun By=>?_)
  ·refine ao.skip<|wY _ _<|.seq fun _ km=>.block<|.seq fun _ wZ=>.region ?_;obtain ⟨DI,DK,Dw,E2,Ds,DW,DS,wm,Bm,wz,nJ,D0⟩:=bJ.at (i:=i) (hr.le eG) Oj O;refine Ops.q Z (aJ jw d8 Z wm Z Bm)<|.q Z (am nw d8 Z Z wz (nJ.trans (congrArg some (fZ O))))<|.l Z (fun _ _ pP _=>ca bM rm rfl fun A130 w4 a5=>?_);have f6:=ne_new bM c7 a5.lo;have cS:=ne_new bM dI a5.lo;have fS:=ne_new bM eN a5.lo;have g0:=ne_new bM dS a5.lo;have t0:=c3.own.ne_new bM a5.lo;have t1:=cu.own.ne_new bM a5.lo;have it:=bR.ne_new bM a5.lo;have iV:=aL wf (Nat.le_trans eG.n a5.lo);have j3:=aL hMw (Nat.le_trans g9.n a5.lo);have x0:=a5.le.get _ _ c7;have x1:=a5.le.get _ _ dI;have x2:=a5.le.get _ _ eN;have x3:=a5.le.get _ _ dS;have oy:=c3.le a5.le;have oz:=cu.le a5.le;have nL:=bR.le a5.le;have rS:=eG.trans a5.le;have r1:=g9.trans a5.le;refine pP _ _<|.l Z (fun _ _ pS _=>aM (cs:=[aX ((rs.getD i .zero).left),aX ((rs.getD i .zero).right),(rs.getD i .zero).pv]) (c':=[aX ((rs.getD i .zero).left),aX ((rs.getD i .zero).right),(rs.getD i .zero).pv]) a5.wf rfl rfl rfl rfl d8 a5.get (Nat.le_of_ble_eq_true rfl) (gK (hp.get (show i < rs.length by omega))) rfl fun A145 aP=>?_);have x4:=aP.keep _ _ f6 x0;have x5:=aP.keep _ _ cS x1;have kp:=aP.keep _ _ fS x2;have x6:=aP.keep _ _ g0 x3;have oF:=oy.keep aP.keep t0;have oI:=oz.keep aP.keep t1;have nM:=nL.keep aP.keep it;have r2:=al r1 hMw j3 aP.n aP.keep;have e0:=al rS wf iV aP.n aP.keep;refine pS _ _<|.nil<|wZ _ _<|.seq fun _ x7=>.seq fun _ x8=>.region<|.q Z (am dn cT Z Z kp Z)<|.q Z (aj eW fz U Z)<|.q Z (ak gz Z Z aP.get Z)<|.l Z (fun _ _ pU _=>aK Z (LR ((g)) u l rv rs ((rs.getD i .zero).left) A145 hm (by have:=hlw O;omega) (hlw O).1 (hL.le e0) (hM.le e0) (hu.le e0) (hr.le e0)) ?_);rintro E5 A162 ⟨rfl,aV,n6⟩;have kv:=aV.get _ _ x4;have kC:=aV.get _ _ x5;have kD:=aV.get _ _ kp;have kK:=aV.get _ _ x6;have kL:=aV.get _ _ aP.get;have ft:=oF.le aV;have fv:=oI.le aV;have fn:=nM.le aV;have hR:=e0.trans aV;have hG:=r2.trans aV;refine pU _ _<|.q Z (eE Z)<|.nil<|x8 _ _<|.ifB Z (fun BA=>?_) (fun BA=>?_)
   ·refine ao.exit<|km _ _<|.region<|.q Z (bN (b:=1) Z Z O)<|.q Z (ae Z)<|.nil ?_;exact ⟨⟨i + 1,D,y0,y5,y6,y7,y8,y9,a0⟩,vK Z Z Z Z Z Z Z,Z,⟨⟨by omega,by (try simp only [List.length_append,List.length_cons,List.length_nil]);omega,by first | exact xz O hsc ‹_› ‹_› | exact tf O hsc ‹_›⟩,hR,ft,fv,kv,kC,kD,kK,b1,bv,ad,ar,bU,cV,bb,bC,cb,fn,cZ,aF,dw,bA,aS,dD,hG,cv⟩,O1⟩
   refine ao.skip<|x7 _ _<|.seq fun _ x9=>.region<|.q Z (ae Z)<|.q Z (aj eW fz U Z)<|.q Z (ak gz Z Z kL Z) ?_;have e1:=cg (bs:=[some ab]) hR (qz gD nf);have hE:=cg (bs:=[some ab]) hG (qz hMb nf);refine Ops.l Z (fun _ _ pV _=>aK Z (po ((rs.getD i .zero).left) rs l ab (((g))) u rv gg y0 y5 y6 y7 y8 y9 (A162.hide [some ab]) A162 (cM A162 [some ab]) (cr n6) kC (cn (by simp)) hs (hL.le e1) (hr.le e1) (hp.le e1) (hMx.le hE)) ?_);rintro E6 A179 ⟨C3,nj,nl,nq,nv,nC,nE,rfl,b8,aZ,d0,aD,eg⟩;have ht:=bF (bs:=[some ab]) kv (lQ dk ka);have kM:=b8.get _ _ ht;have hv:=bF (bs:=[some ab]) kD (lQ f3 ka);have kP:=b8.get _ _ hv;have hw:=bF (bs:=[some ab]) kK (lQ f9 ka);have kT:=b8.get _ _ hw;have hx:=bF (bs:=[some ab]) kL (lQ cS.symm ka);have kV:=b8.get _ _ hx;have iS:=aD.sep ft.own (gJ ad fW);have gZ:=ft.off (gJ ad fW) b8;have up:=aD.sep fv.own (gJ ar fW);have h0:=fv.off (gJ ar fW) b8;have h1:=aD.base e1;have t2:=aD.seph ht;have t3:=aD.seph hv;have t4:=aD.seph hw;have t5:=aD.seph hx;have gQ:=fn.off (fun r hr=>(gJ (aF r hr) fW)) b8;have us:=fn.sepNew aD (fun r hr=>(gJ (aF r hr) fW));have hH:=hE.trans b8;have hS:=e1.trans b8;refine pV _ _<|.q Z (ae Z)<|.q Z (bf Z Z)<|.q Z (bf Z Z)<|.l Z (fun _ _ q1 _=>ca aZ AN rfl fun A206 w5 a1=>?_);have f7:=ne_new aZ kM a1.lo;have eA:=ne_new aZ d0 a1.lo;have fT:=ne_new aZ kP a1.lo;have g1:=ne_new aZ kT a1.lo;have eY:=ne_new aZ kV a1.lo;have t6:=gZ.own.ne_new aZ a1.lo;have t7:=h0.own.ne_new aZ a1.lo;have i1:=h1.own.ne_new aZ a1.lo;have iv:=gQ.ne_new aZ a1.lo;have iX:=aL wf (Nat.le_trans hS.n a1.lo);have j4:=aL hMw (Nat.le_trans hH.n a1.lo);have xa:=a1.le.get _ _ kM;have xf:=a1.le.get _ _ d0;have xn:=a1.le.get _ _ kP;have xr:=a1.le.get _ _ kT;have xt:=a1.le.get _ _ kV;have oJ:=gZ.le a1.le;have oK:=h0.le a1.le;have h3:=h1.le a1.le;have nN:=gQ.le a1.le;have rT:=hS.trans a1.le;have r3:=hH.trans a1.le;refine q1 _ _ ?_;obtain ⟨aB,az,av,BM,_⟩:=h3.own.slice;subst BM;refine Ops.l Z (fun _ _ q2 _=>aM (cs:=[aX ((cI (cy rs ((rs.getD i .zero).left))).word),num (((cI (cy rs ((rs.getD i .zero).left))).steps:Nat):Int),.slice aB az av]) (c':=[aX ((cI (cy rs ((rs.getD i .zero).left))).word),num (((cI (cy rs ((rs.getD i .zero).left))).steps:Nat):Int),.slice aB az av]) a1.wf rfl rfl rfl rfl ie a1.get (Nat.le_of_ble_eq_true rfl) rfl rfl fun A225 a7=>?_);have l0:=a7.keep _ _ f7 xa;have l1:=a7.keep _ _ eA xf;have xv:=a7.keep _ _ fT xn;have l3:=a7.keep _ _ g1 xr;have xA:=a7.keep _ _ eY xt;have oN:=oJ.keep a7.keep t6;have oP:=oK.keep a7.keep t7;have h4:=h3.keep a7.keep i1;have fo:=nN.keep a7.keep iv;have hI:=al r3 hMw j4 a7.n a7.keep;have hT:=al rT wf iX a7.n a7.keep;refine q2 _ _<|.q Z (ah Z)<|.nil<|x9 _ _<|.seq fun _ xF=>.seq fun _ xN=>.region<|.q Z (ae Z)<|.q Z (eE Z)<|.nil ?_;refine xN _ _<|.ifB Z (fun BB=>?_) (fun BB=>?_)
   ·refine ao.seq fun _ xR=>.region<|.q Z (cR Z (aU MQ vp vw Z))<|.l Z (fun _ _ q3 _=>aM (cs:=[num ((0:Nat):Int),.slice none 0 0,.slice none 0 0]) (c':=[num ((0:Nat):Int),.slice none 0 0,.slice none 0 0]) a7.wf rfl rfl rfl rfl cT l3 (Nat.le_of_ble_eq_true rfl) rfl rfl fun A246 e9=>?_);have D2:=fo.keep e9.keep bA;have rV:=al hT wf dv e9.n e9.keep;refine q3 _ _<|.q Z (ah Z)<|.nil<|xR _ _<|.ret ?_;repeat first | with_reducible refine bE ?_ | with_reducible refine bk ?_
    exact be (dE dn cT Z e9.get Z (ei Z eh)) (⟨_,_,0,[],[],by first | (rw [sm ‹_›];rfl) | (rw [so ‹_› ‹_›];rfl) | (rw [sq ‹_› ‹_› (lc O hsc ‹_› ‹_›).symm];rfl),rV,e9.wf,Fresh.nil _ _ _,Fresh.nil _ _ _,(fun _ h=>by cases h),.none (by first | (rw [sm ‹_›];assumption) | (rw [so ‹_› ‹_›];decide) | (rw [sq ‹_› ‹_› (lc O hsc ‹_› ‹_›).symm];decide))⟩)
   refine ao.skip<|xF _ _<|.region<|.q Z (aj de fw U Z)<|.q Z (ak ii Z Z l0 Z)<|.q Z (aj eW fz U Z)<|.q Z (ak gz Z Z xA Z)<|.q Z (aj mL fz U Z)<|.q Z (ak gz Z Z a7.get Z)<|.q Z (aj ue jG U Z) ?_;refine Ops.q Z (ak ns Z Z a7.get Z)<|.q Z (cR Z (aU Sj rm GU Z))<|.l Z (fun _ _ q4 _=>aN (c:=[aX ((rs.getD i .zero).left),aX ((cI (cy rs ((rs.getD i .zero).left))).word),.slice aB az av]) a7.wf rfl (ax jw d8 rm rfl U U rfl) fun A260 w6 a3=>?_);have k3:=ne_new a7.wf l1 a3.lo;have t8:=h4.own.ne_new a7.wf a3.lo;have tW:=fo.ne_new a7.wf a3.lo;have C1:=aL hMw (Nat.le_trans hI.n a3.lo);have l4:=a3.le.get _ _ l0;have l6:=a3.le.get _ _ l1;have l7:=a3.le.get _ _ xv;have l9:=a3.le.get _ _ l3;have h5:=oN.le a3.le;have h6:=oP.le a3.le;have h7:=h4.le a3.le;have gS:=fo.le a3.le;have rW:=hT.trans a3.le;have hJ:=hI.trans a3.le;refine q4 _ _<|.l Z (fun _ _ q5 _=>cJ (ys:=[aX ((rs.getD i .zero).left),aX ((cI (cy rs ((rs.getD i .zero).left))).word),.slice aB az av]) rfl rfl jw d8 zd rm rfl U jw (fun _ h=>by cases h) h5.own (bW (n:=1) a3.get Z) rfl rfl (by show (_ + _) * 56<=_;simp only [bK,List.length_cons,List.length_nil];(try simp only [List.length_append,List.length_cons,List.length_nil]);omega) (by simp only [bK,List.length_cons,List.length_nil];(try simp only [List.length_append,List.length_cons,List.length_nil]);omega) fun A279 E7 a9=>?_);rw [show ([aX ((rs.getD i .zero).left),aX ((cI (cy rs ((rs.getD i .zero).left))).word),.slice aB az av]:List Value)=ci [(⟨(rs.getD i .zero).left,(cI (cy rs ((rs.getD i .zero).left))).word,.slice aB az av,(cI (cy rs ((rs.getD i .zero).left))).disk⟩:au)] from rfl,ju] at a9;obtain ⟨h8,s0⟩:=Fresh.grow h5 rW wf a9;have xS:=a9.keep b1 l4;have hY:=a9.ne b1 a3.wf l4;have xT:=a9.keep ad l6;have sB:=a9.ne ad a3.wf l6;have xV:=a9.keep bU l7;have sF:=a9.ne bU a3.wf l7;have y1:=a9.keep bb l9;have sN:=a9.ne bb a3.wf l9;have uB:=bh.appd (show bh a0 (.slice bY bT bP) from cb) h6.own a3.wf a9;have oQ:=h6.appd a9 cb;have uI:=bh.appd (show bh a0 (.slice aB az av) from (bh.symm iS)) h7.own a3.wf a9;have oR:=h7.appd a9 (bh.symm iS);have uP:=aq.appd (show aq a0 (fB D) from aS) gS a3.wf a9;have nO:=gS.appd a9 (show aq a0 (fB D) from aS);have r4:=tc hJ hMw a9 cv;have sT:=td hJ hMw a9 cv;have nQ:lx A A279 (D ++ [(⟨(rs.getD i .zero).left,(cI (cy rs ((rs.getD i .zero).left))).word,.slice aB az av,(cI (cy rs ((rs.getD i .zero).left))).disk⟩:au)]):=md nO oR us;have iD:bI (fB (D ++ [(⟨(rs.getD i .zero).left,(cI (cy rs ((rs.getD i .zero).left))).word,.slice aB az av,(cI (cy rs ((rs.getD i .zero).left))).disk⟩:au)])) ev:=cQ cZ t2;have tY:bI (fB (D ++ [(⟨(rs.getD i .zero).left,(cI (cy rs ((rs.getD i .zero).left))).word,.slice aB az av,(cI (cy rs ((rs.getD i .zero).left))).disk⟩:au)])) ab:=cQ aF eg;have tZ:bI (fB (D ++ [(⟨(rs.getD i .zero).left,(cI (cy rs ((rs.getD i .zero).left))).word,.slice aB az av,(cI (cy rs ((rs.getD i .zero).left))).disk⟩:au)])) b4:=cQ dw t3;have u0:bI (fB (D ++ [(⟨(rs.getD i .zero).left,(cI (cy rs ((rs.getD i .zero).left))).word,.slice aB az av,(cI (cy rs ((rs.getD i .zero).left))).disk⟩:au)])) b9:=cQ bA t4;have Dd:bI (fB (D ++ [(⟨(rs.getD i .zero).left,(cI (cy rs ((rs.getD i .zero).left))).word,.slice aB az av,(cI (cy rs ((rs.getD i .zero).left))).disk⟩:au)])) w4:=cQ it t5;have Dg:bI (fB (D ++ [(⟨(rs.getD i .zero).left,(cI (cy rs ((rs.getD i .zero).left))).word,.slice aB az av,(cI (cy rs ((rs.getD i .zero).left))).disk⟩:au)])) w5:=cQ iv i1;have Di:bI (fB (D ++ [(⟨(rs.getD i .zero).left,(cI (cy rs ((rs.getD i .zero).left))).word,.slice aB az av,(cI (cy rs ((rs.getD i .zero).left))).disk⟩:au)])) w6:=cQ tW t8;have uS:aq (.slice bY bT bP) (fB (D ++ [(⟨(rs.getD i .zero).left,(cI (cy rs ((rs.getD i .zero).left))).word,.slice aB az av,(cI (cy rs ((rs.getD i .zero).left))).disk⟩:au)])):=gT dD (bh.symm up);have v0:aq _ (fB (D ++ [(⟨(rs.getD i .zero).left,(cI (cy rs ((rs.getD i .zero).left))).word,.slice aB az av,(cI (cy rs ((rs.getD i .zero).left))).disk⟩:au)])):=gT uP uI;refine q5 _ _<|.q Z (aj de fw U Z) ?_;obtain ⟨gN,gG,gq,BP,_⟩:=h8.own.slice;subst BP;refine Ops.l Z (fun _ _ q6 _=>aM (cs:=[.slice gN gG gq]) (c':=[num (g),.slice bY bT bP,.slice gN gG gq]) a9.wf rfl rfl rfl rfl fw xS (Nat.le_of_ble_eq_true rfl) rfl rfl fun A318 bd=>?_);have y2:=bd.keep _ _ dk.symm xT;have y3:=bd.keep _ _ ey xV;have y4:=bd.keep _ _ ez y1;have oS:=oQ.keep bd.keep bv;have oV:=h8.keep bd.keep hY;have nT:=nQ.keep bd.keep iD;have r6:=al r4 hMw gM bd.n bd.keep;have s1:=al s0 wf g8 bd.n bd.keep;refine q6 _ _<|.nil<|km _ _<|.region<|.q Z (bN (b:=1) Z Z O)<|.q Z (ae Z)<|.nil ?_;exact ⟨⟨i + 1,D ++ [(⟨(rs.getD i .zero).left,(cI (cy rs ((rs.getD i .zero).left))).word,.slice aB az av,(cI (cy rs ((rs.getD i .zero).left))).disk⟩:au)],nj,nl,nq,nv,nC,nE,.slice gN gG gq⟩,vK Z Z Z Z Z Z Z,Z,⟨⟨by omega,by (try simp only [List.length_append,List.length_cons,List.length_nil]);omega,by first | exact xz O hsc ‹_› ‹_› | exact tf O hsc ‹_›⟩,s1,oV,oS,bd.get,y2,y3,y4,hY,bv,sB,ar,sF,cV,sN,bC,uB,nT,iD,tY,tZ,u0,v0,uS,r6,sT⟩,O1⟩
  refine ao.exit<|wM _ _<|.seq fun _ yt=>?_;have hscan:=Ka O hsc;have hokm:=Qq hs hscan bR;refine ao.region<|.q Z (aj de fw U Z)<|.q Z (ak ii Z Z c7 Z) ?_;have fL:=cg (bs:=[blk a0]) eG (sj c3.lo nf);refine Ops.l Z (fun _ _ q7 _=>aK Z (EK D a0 (B116.hide [blk a0]) B116 (cM B116 [blk a0]) (cr bM) (c3.hide (by simp)) (hL.le fL) hokm O) ?_);rintro E9 A334 ⟨L2q335,ge,mx,rfl,d3,n7,dK⟩;have pI:=bF (bs:=[blk a0]) c7 (ng b1 ka);have yS:=d3.get _ _ pI;have hy:=bF (bs:=[blk a0]) dS (ng bb ka);have yT:=d3.get _ _ hy;have oW:=cu.off (iq cb fW) d3;have h9:=dK.base fL;have t9:=dK.seph hy;have nU:=bR.off (fun r hr=>(iq (aS r hr) fW)) d3;have DD:=bR.sepNew dK (fun r hr=>(iq (aS r hr) fW));have s2:=fL.trans d3;refine q7 _ _<|.nil<|yt _ _<|.seq fun _ z0=>.region<|.q Z (am dn cT Z Z yS Z) ?_;obtain ⟨n3,mE,k6,BR,_⟩:=h9.own.slice;subst BR;refine Ops.l Z (fun _ _ q8 _=>aM (cs:=[num (g),.slice bY bT bP,.slice n3 mE k6]) (c':=[num (g),.slice bY bT bP,.slice n3 mE k6]) n7 rfl rfl rfl rfl cT yT (Nat.le_of_ble_eq_true rfl) rfl rfl fun A359 cC=>?_);have oX:=oW.keep cC.keep bC;have oY:=h9.keep cC.keep t9;have nV:=nU.keep cC.keep bA;have s3:=al s2 wf dv cC.n cC.keep;refine q8 _ _<|.q Z (ah Z)<|.nil<|z0 _ _<|.ret ?_;repeat first | with_reducible refine bE ?_ | with_reducible refine bk ?_
  exact be (dE dn cT Z cC.get Z (ei Z eh)) (⟨_,_,g,l,L2q335,by rw [D9 ‹_› ‹_› hscan];rfl,s3,cC.wf,oX,oY,(fun r hr=>i9 nV r (ge.mem_iff.1 hr)),⟨fun q=>absurd (D9 ‹_› ‹_› hscan) q,fun _=>⟨Z,Z,mx,_,hscan,ge.map _⟩⟩⟩)
 refine fun _ _ q9 _=>ca b7.wf vp rfl fun A370 cX ap=>?_;have e6:=ne_new b7.wf ex ap.lo;have e7:=ne_new b7.wf fi ap.lo;have f2:=ne_new b7.wf b7.get ap.lo;have fe:=aL wf (Nat.le_trans dW.n ap.lo);have lb:=ap.le.get _ _ ex;have lp:=ap.le.get _ _ fi;have z1:=ap.le.get _ _ b7.get;have hq:=cm ap.le mt;have pE:=cm ap.le B6;have fM:=dW.trans ap.le;refine q9 _ _ (aO.list (L:=[(⟨b4,1,none⟩,u),(⟨b4,0,none⟩,num (g))]) Y (bq pE (bq hq cL)))<|.l Z Z Z (fun _ _ qa _=>aK Z (zQ u l A370 O (hu.le fM)) ?_);rintro Ea A380 ⟨ch,n9,dZ⟩;have z2:=ch.get _ _ lb;have zi:=ch.get _ _ lp;have zs:=ch.get _ _ z1;have zE:=ch.get _ _ ap.get;have pF:=cm ch hq;have s4:=fM.trans ch;have ha:=dZ.base fM;have tb:=dZ.ne ap.wf lb;have ti:=dZ.ne ap.wf lp;have i2:=dZ.ne ap.wf ap.get;refine qa _ _ (aO.list (L:=[(⟨b4,0,none⟩,num (g))]) Y (bq pF cL)) ?_;obtain ⟨b6,b3,b2,BT,_⟩:=ha.own.slice;subst BT;refine bj.q Z Z Z (cR Z (aU Sh Sk GT Z))<|.q Z Z Z (cR Z (aU MQ vp vw Z))<|.l Z Z Z (fun _ _ qb _=>aM (cs:=[num (g),.slice b6 b3 b2,.slice none 0 0]) (c':=[num (g),.slice b6 b3 b2,.slice none 0 0]) n9 rfl rfl rfl rfl cT zE (Nat.le_of_ble_eq_true rfl) rfl rfl fun A396 bL=>?_);have gF:=bL.keep _ _ e6 z2;have lt:=bL.keep _ _ e7 zi;have zI:=bL.keep _ _ f2 zs;have hb:=ha.keep bL.keep i2;have e2:=al s4 wf fe bL.n bL.keep;refine qb _ _ (aO.none Y)<|.done<|vX _ _<|.seq fun _ zS=>.region<|.q Z (am dn cT Z Z gF Z)<|.l Z (fun _ _ qd _=>aK Z (jU ((g)) u l rv rs A396 (ls hs) (oL hs) (hu.le e2) (hr.le e2) (hp.le e2)) ?_);rintro Ec A407 ⟨ac,gl,rfl,dd,CV,eT,bp,k2,fm⟩;have lw:=dd.get _ _ gF;have zV:=dd.get _ _ lt;have A6:=dd.get _ _ bL.get;have oZ:=hb.le dd;have hU:=e2.trans dd;have hrow:=eT;have hno:=bp;have hix:=k2;have hOn:=fm;have f4:b4 ≠ ac:=fun z=>by have q0:=gF;rw [z,bp] at q0;cases q0
 have fd:b9 ≠ ac:=fun z=>by have q0:=lt;rw [z,bp] at q0;cases q0
 have n1:v8 ≠ ac:=fun z=>by have q0:=zI;rw [z,bp] at q0;cases q0
 have cP:cX ≠ ac:=fun z=>by have q0:=bL.get;rw [z,bp] at q0;cases q0
 have gE:=mW e2 bp;have tj:=qk hb.own bp;refine qd _ _<|.q Z (ah Z)<|.nil ?_;obtain ⟨M,hMx,hMw,hMl,hMb,mm⟩:=fm;have gM:M.get cX=none:=mm _ _ bL.get;refine zS _ _<|.seq fun _ A7=>.seq fun _ A8=>.region<|.q Z (aj de fw U Z)<|.q Z (ak ii Z Z lw Z)<|.q Z (bH (n:=rs.length) jw Z (hr.le hU) O (dm _))<|.q Z (ae Z)<|.nil<|A8 _ _ ?_;refine ao.block ?_;have gA:lx A A407 []:=yR;refine ao.loop (X:=Nat × List au × Value × Value × Value × Value × Value × Value × Value) (fun ⟨i,D,y0,y5,y6,y7,y8,y9,a0⟩=>[(1,.pointer (some ⟨b4,0,none⟩)),(2,.pointer (some ⟨b9,0,none⟩)),(7,.pointer (some ⟨cX,0,none⟩)),(8,.pointer (some ⟨ac,0,none⟩)),(40,rv),(41,num ((rs.length:Nat):Int)),(42,num ((i:Nat):Int))]) (fun ⟨i,D,y0,y5,y6,y7,y8,y9,a0⟩ B=>(i<=rs.length/\D.length<=i/\ef rs (rs.drop i) (D.map (dA true))=ef rs rs [])/\A.le B/\Fresh A B a0 3 (ci D)/\Fresh A B (.slice b6 b3 b2) 1 (dc l)/\B.get cX=some (.row true [num (g),.slice b6 b3 b2,a0] 3)/\B.get ac=some (.row true [y0,num ((g)),u,rv,.map (some gl),y5,y6,y7,y8,y9] 10)/\B.get b4=some (.row true [num (g),u,rv] 3)/\B.get b9=some (.row true [num ((0:Nat):Int),.slice none 0 0,.slice none 0 0] 3)/\V.blk a0 ≠ some cX/\V.blk (.slice b6 b3 b2) ≠ some cX/\V.blk a0 ≠ some ac/\V.blk (.slice b6 b3 b2) ≠ some ac/\V.blk a0 ≠ some b4/\V.blk (.slice b6 b3 b2) ≠ some b4/\V.blk a0 ≠ some b9/\V.blk (.slice b6 b3 b2) ≠ some b9/\bh a0 (.slice b6 b3 b2)/\lx A B D/\bI (fB D) cX/\bI (fB D) ac/\bI (fB D) b4/\bI (fB D) b9/\aq a0 (fB D)/\aq (.slice b6 b3 b2) (fB D)/\M.le B/\(∀ b,V.blk a0=some b->M.get b=none)) (fun ⟨i,D,y0,y5,y6,y7,y8,y9,a0⟩=>rs.length - i) (⟨0,[],.slice none 0 0,.slice none 0 0,num ((0:Nat):Int),aX ([]),num ((0:Nat):Int),.slice none 0 0,.slice none 0 0⟩) (vK Z Z Z Z Z Z Z) (⟨⟨Nat.zero_le _,Nat.zero_le _,rfl⟩,hU,(Fresh.nil A A407 3),oZ,A6,eT,lw,zV,(fun q=>by cases q),i2,(fun q=>by cases q),tj,(fun q=>by cases q),tb,(fun q=>by cases q),ti,bh.nil,gA,jS,jS,jS,jS,aq.nil,Ah,hMl,(fun _ q=>by cases q)⟩) ?_;rintro ⟨i,D,y0,y5,y6,y7,y8,y9,a0⟩ B421 ⟨⟨hi,hrl,hsc⟩,eL,c4,cf,bD,dJ,eQ,dV,aI,b5,ag,ai,bV,ck,bc,bu,cc,bS,cK,aG,dz,bB,aT,dG,gc,cB⟩;refine ao.wf fun bO=>?_;have hlw:=fun q:i < rs.length=>u7 hs _ (bx (d:=au.zero) q);refine ao.seq fun _ A9=>.region<|.q Z (cA Z Z)<|.nil<|A9 _ _<|.seq fun _ Aa=>.if rfl (fun BC=>?_) (fun BC=>?_)
 ·refine ao.skip<|Aa _ _<|.seq fun _ lB=>.block<|.seq fun _ Ab=>.region ?_;obtain ⟨DJ,DO,Dz,E3,Dv,DZ,DV,wp,Bo,wC,nK,D1⟩:=bJ.at (i:=i) (hr.le eL) Oj O;refine Ops.q Z (aJ jw d8 Z wp Z Bo)<|.q Z (am nw d8 Z Z wC (nK.trans (congrArg some (fZ O))))<|.l Z (fun _ _ qp _=>ca bO rm rfl fun A435 w7 a6=>?_);have eZ:=ne_new bO bD a6.lo;have cU:=ne_new bO dJ a6.lo;have fV:=ne_new bO eQ a6.lo;have g3:=ne_new bO dV a6.lo;have ts:=c4.own.ne_new bO a6.lo;have tt:=cf.own.ne_new bO a6.lo;have iF:=bS.ne_new bO a6.lo;have j1:=aL wf (Nat.le_trans eL.n a6.lo);have jX:=aL hMw (Nat.le_trans gc.n a6.lo);have Ac:=a6.le.get _ _ bD;have Ad:=a6.le.get _ _ dJ;have Af:=a6.le.get _ _ eQ;have Ag:=a6.le.get _ _ dV;have p0:=c4.le a6.le;have p5:=cf.le a6.le;have o1:=bS.le a6.le;have s5:=eL.trans a6.le;have r7:=gc.trans a6.le;refine qp _ _<|.l Z (fun _ _ qr _=>aM (cs:=[aX ((rs.getD i .zero).left),aX ((rs.getD i .zero).right),(rs.getD i .zero).pv]) (c':=[aX ((rs.getD i .zero).left),aX ((rs.getD i .zero).right),(rs.getD i .zero).pv]) a6.wf rfl rfl rfl rfl d8 a6.get (Nat.le_of_ble_eq_true rfl) (gK (hp.get (show i < rs.length by omega))) rfl fun A450 aR=>?_);have Ai:=aR.keep _ _ eZ Ac;have Ap:=aR.keep _ _ cU Ad;have lC:=aR.keep _ _ fV Af;have Ar:=aR.keep _ _ g3 Ag;have p6:=p0.keep aR.keep ts;have p7:=p5.keep aR.keep tt;have o2:=o1.keep aR.keep iF;have r9:=al r7 hMw jX aR.n aR.keep;have e3:=al s5 wf j1 aR.n aR.keep;refine qr _ _<|.nil<|Ab _ _<|.seq fun _ As=>.seq fun _ At=>.region<|.q Z (am dn cT Z Z lC Z)<|.q Z (aj eW fz U Z)<|.q Z (ak gz Z Z aR.get Z)<|.l Z (fun _ _ qu _=>aK Z (LR ((g)) u l rv rs ((rs.getD i .zero).left) A450 hm (by have:=hlw O;omega) (hlw O).1 (hL.le e3) (hM.le e3) (hu.le e3) (hr.le e3)) ?_);rintro Eg A467 ⟨rfl,aY,nb⟩;have lE:=aY.get _ _ Ai;have lF:=aY.get _ _ Ap;have lK:=aY.get _ _ lC;have lO:=aY.get _ _ Ar;have lP:=aY.get _ _ aR.get;have fD:=p6.le aY;have fE:=p7.le aY;have fq:=o2.le aY;have hV:=e3.trans aY;have hK:=r9.trans aY;refine qu _ _<|.q Z (eE Z)<|.nil<|At _ _<|.ifB Z (fun BD=>?_) (fun BD=>?_)
  ·refine ao.exit<|lB _ _<|.region<|.q Z (bN (b:=1) Z Z O)<|.q Z (ae Z)<|.nil ?_;exact ⟨⟨i + 1,D,y0,y5,y6,y7,y8,y9,a0⟩,vK Z Z Z Z Z Z Z,Z,⟨⟨by omega,by (try simp only [List.length_append,List.length_cons,List.length_nil]);omega,by first | exact xz O hsc ‹_› ‹_› | exact tf O hsc ‹_›⟩,hV,fD,fE,lE,lF,lK,lO,aI,b5,ag,ai,bV,ck,bc,bu,cc,fq,cK,aG,dz,bB,aT,dG,hK,cB⟩,O1⟩
  refine ao.skip<|As _ _<|.seq fun _ Av=>.region<|.q Z (ae Z)<|.q Z (aj eW fz U Z)<|.q Z (ak gz Z Z lP Z) ?_;have e4:=cg (bs:=[some ac]) hV (qz gE nf);have hF:=cg (bs:=[some ac]) hK (qz hMb nf);refine Ops.l Z (fun _ _ qv _=>aK Z (po ((rs.getD i .zero).left) rs l ac (((g))) u rv gl y0 y5 y6 y7 y8 y9 (A467.hide [some ac]) A467 (cM A467 [some ac]) (cr nb) lF (cn (by simp)) hs (hL.le e4) (hr.le e4) (hp.le e4) (hMx.le hF)) ?_);rintro El A484 ⟨C4,nk,nn,nu,nB,nD,nH,rfl,ba,b0,d1,aE,en⟩;have hz:=bF (bs:=[some ac]) lE (lQ cP ka);have lT:=ba.get _ _ hz;have hA:=bF (bs:=[some ac]) lK (lQ f4 ka);have lV:=ba.get _ _ hA;have hB:=bF (bs:=[some ac]) lO (lQ fd ka);have lW:=ba.get _ _ hB;have hC:=bF (bs:=[some ac]) lP (lQ cU.symm ka);have lX:=ba.get _ _ hC;have iT:=aE.sep fD.own (gJ ag fW);have hc:=fD.off (gJ ag fW) ba;have v1:=aE.sep fE.own (gJ ai fW);have hd:=fE.off (gJ ai fW) ba;have he:=aE.base e4;have tw:=aE.seph hz;have tz:=aE.seph hA;have tB:=aE.seph hB;have tI:=aE.seph hC;have gX:=fq.off (fun r hr=>(gJ (aG r hr) fW)) ba;have v2:=fq.sepNew aE (fun r hr=>(gJ (aG r hr) fW));have hN:=hF.trans ba;have hW:=e4.trans ba;refine qv _ _<|.q Z (ae Z)<|.q Z (bf Z Z)<|.q Z (bf Z Z)<|.l Z (fun _ _ qA _=>ca b0 AN rfl fun A511 wc a2=>?_);have f0:=ne_new b0 lT a2.lo;have eC:=ne_new b0 d1 a2.lo;have fX:=ne_new b0 lV a2.lo;have g4:=ne_new b0 lW a2.lo;have f1:=ne_new b0 lX a2.lo;have tJ:=hc.own.ne_new b0 a2.lo;have tO:=hd.own.ne_new b0 a2.lo;have ih:=he.own.ne_new b0 a2.lo;have iH:=gX.ne_new b0 a2.lo;have j2:=aL wf (Nat.le_trans hW.n a2.lo);have k0:=aL hMw (Nat.le_trans hN.n a2.lo);have Ay:=a2.le.get _ _ lT;have Az:=a2.le.get _ _ d1;have AA:=a2.le.get _ _ lV;have AB:=a2.le.get _ _ lW;have AC:=a2.le.get _ _ lX;have p8:=hc.le a2.le;have p9:=hd.le a2.le;have hf:=he.le a2.le;have o3:=gX.le a2.le;have s6:=hW.trans a2.le;have rr:=hN.trans a2.le;refine qA _ _ ?_;obtain ⟨aC,aA,ay,BU,_⟩:=hf.own.slice;subst BU;refine Ops.l Z (fun _ _ qB _=>aM (cs:=[aX ((cI (cy rs ((rs.getD i .zero).left))).word),num (((cI (cy rs ((rs.getD i .zero).left))).steps:Nat):Int),.slice aC aA ay]) (c':=[aX ((cI (cy rs ((rs.getD i .zero).left))).word),num (((cI (cy rs ((rs.getD i .zero).left))).steps:Nat):Int),.slice aC aA ay]) a2.wf rfl rfl rfl rfl ie a2.get (Nat.le_of_ble_eq_true rfl) rfl rfl fun A530 a8=>?_);have lY:=a8.keep _ _ f0 Ay;have lZ:=a8.keep _ _ eC Az;have AD:=a8.keep _ _ fX AA;have m1:=a8.keep _ _ g4 AB;have AF:=a8.keep _ _ f1 AC;have pa:=p8.keep a8.keep tJ;have pe:=p9.keep a8.keep tO;have hg:=hf.keep a8.keep ih;have fr:=o3.keep a8.keep iH;have hO:=al rr hMw k0 a8.n a8.keep;have hX:=al s6 wf j2 a8.n a8.keep;refine qB _ _<|.q Z (ah Z)<|.nil<|Av _ _<|.seq fun _ AG=>.seq fun _ AI=>.region<|.q Z (ae Z)<|.q Z (eE Z)<|.nil ?_;refine AI _ _<|.ifB Z (fun BL=>?_) (fun BL=>?_)
  ·refine ao.seq fun _ AP=>.region<|.q Z (cR Z (aU MQ vp vw Z))<|.l Z (fun _ _ qD _=>aM (cs:=[num ((0:Nat):Int),.slice none 0 0,.slice none 0 0]) (c':=[num ((0:Nat):Int),.slice none 0 0,.slice none 0 0]) a8.wf rfl rfl rfl rfl cT m1 (Nat.le_of_ble_eq_true rfl) rfl rfl fun A551 ea=>?_);have D3:=fr.keep ea.keep bB;have sb:=al hX wf dv ea.n ea.keep;refine qD _ _<|.q Z (ah Z)<|.nil<|AP _ _<|.ret ?_;repeat first | with_reducible refine bE ?_ | with_reducible refine bk ?_
   exact be (dE dn cT Z ea.get Z (ei Z eh)) (⟨_,_,0,[],[],by first | (rw [sm ‹_›];rfl) | (rw [so ‹_› ‹_›];rfl) | (rw [sq ‹_› ‹_› (lc O hsc ‹_› ‹_›).symm];rfl),sb,ea.wf,Fresh.nil _ _ _,Fresh.nil _ _ _,(fun _ h=>by cases h),.none (by first | (rw [sm ‹_›];assumption) | (rw [so ‹_› ‹_›];decide) | (rw [sq ‹_› ‹_› (lc O hsc ‹_› ‹_›).symm];decide))⟩)
  refine ao.skip<|AG _ _<|.region<|.q Z (aj de fw U Z)<|.q Z (ak ii Z Z lY Z)<|.q Z (aj eW fz U Z)<|.q Z (ak gz Z Z AF Z)<|.q Z (aj mL fz U Z)<|.q Z (ak gz Z Z a8.get Z)<|.q Z (aj ue jG U Z) ?_;refine Ops.q Z (ak ns Z Z a8.get Z)<|.q Z (cR Z (aU Sj rm GU Z))<|.l Z (fun _ _ qN _=>aN (c:=[aX ((rs.getD i .zero).left),aX ((cI (cy rs ((rs.getD i .zero).left))).word),.slice aC aA ay]) a8.wf rfl (ax jw d8 rm rfl U U rfl) fun A565 wl a4=>?_);have k4:=ne_new a8.wf lZ a4.lo;have tS:=hg.own.ne_new a8.wf a4.lo;have u1:=fr.ne_new a8.wf a4.lo;have C2:=aL hMw (Nat.le_trans hO.n a4.lo);have m2:=a4.le.get _ _ lY;have m3:=a4.le.get _ _ lZ;have m6:=a4.le.get _ _ AD;have mb:=a4.le.get _ _ m1;have hh:=pa.le a4.le;have hj:=pe.le a4.le;have hk:=hg.le a4.le;have gY:=fr.le a4.le;have sf:=hX.trans a4.le;have hP:=hO.trans a4.le;refine qN _ _<|.l Z (fun _ _ qP _=>cJ (ys:=[aX ((rs.getD i .zero).left),aX ((cI (cy rs ((rs.getD i .zero).left))).word),.slice aC aA ay]) rfl rfl jw d8 zd rm rfl U jw (fun _ h=>by cases h) hh.own (bW (n:=1) a4.get Z) rfl rfl (by show (_ + _) * 56<=_;simp only [bK,List.length_cons,List.length_nil];(try simp only [List.length_append,List.length_cons,List.length_nil]);omega) (by simp only [bK,List.length_cons,List.length_nil];(try simp only [List.length_append,List.length_cons,List.length_nil]);omega) fun A584 En aa=>?_);rw [show ([aX ((rs.getD i .zero).left),aX ((cI (cy rs ((rs.getD i .zero).left))).word),.slice aC aA ay]:List Value)=ci [(⟨(rs.getD i .zero).left,(cI (cy rs ((rs.getD i .zero).left))).word,.slice aC aA ay,(cI (cy rs ((rs.getD i .zero).left))).disk⟩:au)] from rfl,ju] at aa;obtain ⟨hl,sr⟩:=Fresh.grow hh sf wf aa;have AR:=aa.keep aI m2;have hZ:=aa.ne aI a4.wf m2;have AS:=aa.keep ag m3;have sP:=aa.ne ag a4.wf m3;have AT:=aa.keep bV m6;have sR:=aa.ne bV a4.wf m6;have AV:=aa.keep bc mb;have sS:=aa.ne bc a4.wf mb;have v3:=bh.appd (show bh a0 (.slice b6 b3 b2) from cc) hj.own a4.wf aa;have pf:=hj.appd aa cc;have v4:=bh.appd (show bh a0 (.slice aC aA ay) from (bh.symm iT)) hk.own a4.wf aa;have pi:=hk.appd aa (bh.symm iT);have v5:=aq.appd (show aq a0 (fB D) from aT) gY a4.wf aa;have oi:=gY.appd aa (show aq a0 (fB D) from aT);have rt:=tc hP hMw aa cB;have sV:=td hP hMw aa cB;have oj:lx A A584 (D ++ [(⟨(rs.getD i .zero).left,(cI (cy rs ((rs.getD i .zero).left))).word,.slice aC aA ay,(cI (cy rs ((rs.getD i .zero).left))).disk⟩:au)]):=md oi pi v2;have iN:bI (fB (D ++ [(⟨(rs.getD i .zero).left,(cI (cy rs ((rs.getD i .zero).left))).word,.slice aC aA ay,(cI (cy rs ((rs.getD i .zero).left))).disk⟩:au)])) cX:=cQ cK tw;have u8:bI (fB (D ++ [(⟨(rs.getD i .zero).left,(cI (cy rs ((rs.getD i .zero).left))).word,.slice aC aA ay,(cI (cy rs ((rs.getD i .zero).left))).disk⟩:au)])) ac:=cQ aG en;have ub:bI (fB (D ++ [(⟨(rs.getD i .zero).left,(cI (cy rs ((rs.getD i .zero).left))).word,.slice aC aA ay,(cI (cy rs ((rs.getD i .zero).left))).disk⟩:au)])) b4:=cQ dz tz;have ui:bI (fB (D ++ [(⟨(rs.getD i .zero).left,(cI (cy rs ((rs.getD i .zero).left))).word,.slice aC aA ay,(cI (cy rs ((rs.getD i .zero).left))).disk⟩:au)])) b9:=cQ bB tB;have Dj:bI (fB (D ++ [(⟨(rs.getD i .zero).left,(cI (cy rs ((rs.getD i .zero).left))).word,.slice aC aA ay,(cI (cy rs ((rs.getD i .zero).left))).disk⟩:au)])) w7:=cQ iF tI;have Dk:bI (fB (D ++ [(⟨(rs.getD i .zero).left,(cI (cy rs ((rs.getD i .zero).left))).word,.slice aC aA ay,(cI (cy rs ((rs.getD i .zero).left))).disk⟩:au)])) wc:=cQ iH ih;have Do:bI (fB (D ++ [(⟨(rs.getD i .zero).left,(cI (cy rs ((rs.getD i .zero).left))).word,.slice aC aA ay,(cI (cy rs ((rs.getD i .zero).left))).disk⟩:au)])) wl:=cQ u1 tS;have v6:aq (.slice b6 b3 b2) (fB (D ++ [(⟨(rs.getD i .zero).left,(cI (cy rs ((rs.getD i .zero).left))).word,.slice aC aA ay,(cI (cy rs ((rs.getD i .zero).left))).disk⟩:au)])):=gT dG (bh.symm v1);have v7:aq _ (fB (D ++ [(⟨(rs.getD i .zero).left,(cI (cy rs ((rs.getD i .zero).left))).word,.slice aC aA ay,(cI (cy rs ((rs.getD i .zero).left))).disk⟩:au)])):=gT v5 v4;refine qP _ _<|.q Z (aj de fw U Z) ?_;obtain ⟨gP,gL,gs,BV,_⟩:=hl.own.slice;subst BV;refine Ops.l Z (fun _ _ qR _=>aM (cs:=[.slice gP gL gs]) (c':=[num (g),.slice b6 b3 b2,.slice gP gL gs]) aa.wf rfl rfl rfl rfl fw AR (Nat.le_of_ble_eq_true rfl) rfl rfl fun A623 bl=>?_);have AY:=bl.keep _ _ cP.symm AS;have AZ:=bl.keep _ _ e6 AT;have B0:=bl.keep _ _ e7 AV;have pj:=pf.keep bl.keep b5;have pl:=hl.keep bl.keep hZ;have ok:=oj.keep bl.keep iN;have rR:=al rt hMw gM bl.n bl.keep;have ss:=al sr wf fe bl.n bl.keep;refine qR _ _<|.nil<|lB _ _<|.region<|.q Z (bN (b:=1) Z Z O)<|.q Z (ae Z)<|.nil ?_;exact ⟨⟨i + 1,D ++ [(⟨(rs.getD i .zero).left,(cI (cy rs ((rs.getD i .zero).left))).word,.slice aC aA ay,(cI (cy rs ((rs.getD i .zero).left))).disk⟩:au)],nk,nn,nu,nB,nD,nH,.slice gP gL gs⟩,vK Z Z Z Z Z Z Z,Z,⟨⟨by omega,by (try simp only [List.length_append,List.length_cons,List.length_nil]);omega,by first | exact xz O hsc ‹_› ‹_› | exact tf O hsc ‹_›⟩,ss,pl,pj,bl.get,AY,AZ,B0,hZ,b5,sP,ai,sR,ck,sS,bu,v3,ok,iN,u8,ub,ui,v7,v6,rR,sV⟩,O1⟩
 refine ao.exit<|A7 _ _<|.seq fun _ B2=>?_;have hscan:=Ka O hsc;have hokm:=Qq hs hscan bS;refine ao.region<|.q Z (aj de fw U Z)<|.q Z (ak ii Z Z bD Z) ?_;have fN:=cg (bs:=[blk a0]) eL (sj c4.lo nf);refine Ops.l Z (fun _ _ qU _=>aK Z (EK D a0 (B421.hide [blk a0]) B421 (cM B421 [blk a0]) (cr bO) (c4.hide (by simp)) (hL.le fN) hokm O) ?_);rintro Eq A639 ⟨L2q640,gf,mB,rfl,di,nd,dO⟩;have pJ:=bF (bs:=[blk a0]) bD (ng aI ka);have B3:=di.get _ _ pJ;have hD:=bF (bs:=[blk a0]) dV (ng bc ka);have B4:=di.get _ _ hD;have pp:=cf.off (iq cc fW) di;have ho:=dO.base fN;have tT:=dO.seph hD;have ov:=bS.off (fun r hr=>(iq (aT r hr) fW)) di;have DG:=bS.sepNew dO (fun r hr=>(iq (aT r hr) fW));have sv:=fN.trans di;refine qU _ _<|.nil<|B2 _ _<|.seq fun _ B5=>.region<|.q Z (am dn cT Z Z B3 Z) ?_;obtain ⟨n4,mK,k7,BY,_⟩:=ho.own.slice;subst BY;refine Ops.l Z (fun _ _ qV _=>aM (cs:=[num (g),.slice b6 b3 b2,.slice n4 mK k7]) (c':=[num (g),.slice b6 b3 b2,.slice n4 mK k7]) nd rfl rfl rfl rfl cT B4 (Nat.le_of_ble_eq_true rfl) rfl rfl fun A664 cF=>?_);have pu:=pp.keep cF.keep bu;have pA:=ho.keep cF.keep tT;have ow:=ov.keep cF.keep bB;have sz:=al sv wf dv cF.n cF.keep;refine qV _ _<|.q Z (ah Z)<|.nil<|B5 _ _<|.ret ?_;repeat first | with_reducible refine bE ?_ | with_reducible refine bk ?_
 exact be (dE dn cT Z cF.get Z (ei Z eh)) (⟨_,_,g,l,L2q640,by rw [D9 ‹_› ‹_› hscan];rfl,sz,cF.wf,pu,pA,(fun r hr=>i9 ow r (gf.mem_iff.1 hr)),⟨fun q=>absurd (D9 ‹_› ‹_› hscan) q,fun _=>⟨Z,Z,mB,_,hscan,gf.map _⟩⟩⟩)
end Go.Proofs.YtjppkekmddjcfaaGreatDoor

namespace Go.Proofs.YtjppkekmddjcfaaGreatDoor
open Go Go.RowKit V Fr
theorem mO {α:Type} {f:Nat->List α} {n B1 B2:Nat} (h1:∀ i,i < n->(f i).length<=B1):∀ k,n<=k->(∀ i,n<=i->i < k->(f i).length<=B2)->((List.range k).flatMap f).length<=n * B1 + (k - n) * B2
  | 0,h,_=>by simp
  | k + 1,h,h2=>by
    rcases Nat.eq_or_lt_of_le h with q | q
    · rw [q,Nat.sub_self,Nat.zero_mul,Nat.add_zero];exact DU _ (by rw [<- q];exact h1)
    · rw [List.range_succ,List.flatMap_append,List.length_append,show k + 1 - n=(k - n) + 1 by omega,Nat.add_mul,Nat.one_mul]
      have a:=mO h1 k O fun i hi hk=>h2 i hi O
      have b:=h2 k O O
      simp only [List.flatMap_cons,List.flatMap_nil,List.append_nil]
      omega
theorem Dc {α:Type} {p q:α->Bool} (l:List α) (h:∀ x,¬ (p x=true/\q x=true)):(l.filter p).length + (l.filter q).length<=l.length:=by
  induction l with
  | nil=>simp
  | cons a l ih =>
    have:=h a
    cases hp:p a <;> cases hq:q a <;> simp_all <;> omega
theorem wh {p:Nat->Bool} {m:Nat}:∀ n,(∀ x,x < n->p x=true->x=m)->((List.range n).filter p).length<=if m < n then 1 else 0
  | 0,_=>by simp
  | n + 1,h=>by
    have ih:=wh n fun x hx=>h x O
    rw [List.range_succ,List.filter_append,List.length_append]
    cases hp:p n with
    | false =>
      simp only [List.filter_cons,hp,List.filter_nil,Bool.false_eq_true,if_false,List.length_nil]
      split at ih <;> split <;> omega
    | true =>
      have:=h n O hp
      subst this
      simp only [List.filter_cons,hp,List.filter_nil,if_true,List.length_singleton]
      rw [if_neg O] at ih
      rw [if_pos O];omega
theorem yy {I J:Int} {same:Bool} {a b:Wd × Wd} (hb:0 < b.1.length):(mz I J same a b).length<=a.1.length:=by
  have h1:(qf I J a b a.1.length).length=((List.range a.1.length).filter (p1 a.1 b.1)).length:=by simp [qf]
  have h2:(sI I J a b (a.1.length + 1)).length=((List.range a.1.length).filter (p2 a.1 b.1)).length:=by
    simp only [sI,List.length_map]
    rw [List.range_succ,List.filter_append,List.length_append]
    have:p2 a.1 b.1 a.1.length=false:=by
      simp only [p2,Bool.and_eq_false_iff,decide_eq_false_iff_not];left;omega
    simp [this]
  have h3:=Dc (p:=p1 a.1 b.1) (q:=p2 a.1 b.1) (List.range a.1.length) fun k ⟨q1,q2⟩=>by
    simp only [p1,p2,Bool.and_eq_true,decide_eq_true_eq] at q1 q2;omega
  rw [List.length_range] at h3
  unfold mz
  rw [List.length_append,h1]
  split
  · simp only [List.length_nil];omega
  · rw [h2];omega
theorem Fh {I J:Int} {same:Bool} {a b:Wd × Wd} (hb:b.1.length=2) (hn:∀ k,p2 a.1 b.1 k=false):(mz I J same a b).length<=1:=by
  have h1:(qf I J a b a.1.length).length<=1:=by
    simp only [qf,List.length_map]
    have:=wh (p:=p1 a.1 b.1) (m:=a.1.length - 1) a.1.length (fun k hk q=>by simp only [p1,Bool.and_eq_true,decide_eq_true_eq] at q;omega)
    split at this <;> omega
  have h2:sI I J a b (a.1.length + 1)=[]:=by
    simp only [sI,List.map_eq_nil_iff,List.filter_eq_nil_iff]
    intro k _;rw [hn k];decide
  unfold mz
  rw [List.length_append,h2]
  split <;> (simp only [List.length_nil];omega)
set_option maxRecDepth 100000 in
theorem lq {g:Int} {l:List Wd} {rs:List au} (hs:cx g l rs=true) (h:ic l rs=true):(bg g rs).length<=50000:=by
  have hg:=ri hs
  obtain ⟨n1,_,_,n2⟩:=eI.1 h
  have hlen:=kQ g rs
  have hw:=u7 hs
  have left_at:∀ i,i < rs.length->(aW g rs).getD i ([],[])=((rs.getD i .zero).left,(rs.getD i .zero).right):=fun i hi=>by
    unfold aW
    rw [List.getD_eq_getElem?_getD,List.getElem?_append_left (by simpa using hi)]
    simp [hi]
  have free_at:∀ i,rs.length<=i->i < (aW g rs).length->(aW g rs).getD i ([],[])=(Oh (i - rs.length),[])/\i - rs.length < 2 * g.toNat:=fun i h1 h2=>CR.sides_at i h2 h1
  have D:∀ i,i < rs.length->0 < (rs.getD i .zero).left.length/\(rs.getD i .zero).left.length<=40:=fun i hi=>by
    have hm:rs.getD i .zero ∈ rs:=bx (d:=au.zero) hi
    exact ⟨(hw _ hm).1,(je.1 (n2 _ hm)).1⟩
  have hpos:∀ j,j < (aW g rs).length->0 < ((aW g rs).getD j ([],[])).1.length:=fun j hj=>(pr hg hw _ (bx (d:=([],[])) hj)).1
  have nofree:∀ i j k,i < rs.length->rs.length<=j->j < (aW g rs).length->p2 ((aW g rs).getD i ([],[])).1 ((aW g rs).getD j ([],[])).1 k=false:=fun i j k hi h1 h2=>by
    rw [left_at i hi,(free_at j h1 h2).1]
    have hx:=(free_at j h1 h2).2
    generalize j - rs.length=x at hx
    cases q:p2 (rs.getD i .zero).left (Oh x) k with
    | false=>rfl
    | true =>
      exfalso
      simp only [p2,Bool.and_eq_true,decide_eq_true_eq] at q
      obtain ⟨q1,q2⟩:=q
      have hm:rs.getD i .zero ∈ rs:=bx (d:=au.zero) hi
      have hR:=gx ((ir hs).2.2.1 _ hm)
      have hnc:NC (rs.getD i .zero).left:=by
        have e:=Mh hR.1
        have hw:=tA (rf hR.1)
        rw [dy,if_pos (D5 hg.2 hw.2.1 hw.2.2)] at e
        rw [<- e];exact NC.ofRed _
      have q1:k + 2<=(rs.getD i .zero).left.length:=q1
      have h3:=Ju (w:=(rs.getD i .zero).left) (m:=k) O
      have q2:((rs.getD i .zero).left.take (k + 2)).drop k=Oh x:=q2
      rw [q2] at h3
      have h4:=hnc k O
      simp only [Oh,List.cons.injEq,and_true] at h3
      rw [<- h3.1,<- h3.2] at h4
      exact h4 (CR.flip1 ⟨x,by omega⟩)
  have V:∀ i,i < rs.length->(zK rs.length (aW g rs) i (aW g rs).length).length<=1216:=fun i hi=>by
    refine Nat.le_trans (mO (n:=rs.length) (B1:=40) (B2:=1) (fun j hj=>?_) _ O (fun j h1 h2=>?_)) O
    · unfold ql
      rw [if_neg O,List.length_map]
      refine Nat.le_trans (yy (hpos j O)) ?_
      rw [left_at i hi];exact (D i hi).2
    · unfold ql
      rw [if_neg O,List.length_map]
      exact Fh (by rw [(free_at j h1 h2).1];rfl) fun k=>nofree i j k hi h1 h2
  have X:∀ i,rs.length<=i->i < (aW g rs).length->(zK rs.length (aW g rs) i (aW g rs).length).length<=60:=fun i h1 h2=>by
    refine Nat.le_trans (mO (n:=rs.length) (B1:=2) (B2:=0) (fun j hj=>?_) _ O (fun j h3 h4=>?_)) O
    · unfold ql
      rw [if_neg O,List.length_map]
      refine Nat.le_trans (yy (hpos j O)) ?_
      rw [(free_at i h1 h2).1];exact Nat.le_refl _
    · unfold ql
      rw [if_pos ⟨h1,h3⟩];simp
  have key:=mO (n:=rs.length) V (aW g rs).length O X
  have h5:rs.length * 1216<=30 * 1216:=Nat.mul_le_mul_right _ n1
  have h6:rs.length * 1216 + ((aW g rs).length - rs.length) * 60<=50000:=by omega
  unfold bg mZ
  exact Nat.le_trans key h6
theorem u6 {l:List Wd} {rs D:List au} (h:ic l rs=true) (e:D.map (dA true)=rs.map (dA true)):ic l D=true:=by
  obtain ⟨h1,h2,h3,h4⟩:=eI.1 h
  have hl:=congrArg List.length e
  rw [List.length_map,List.length_map] at hl
  refine eI.2 ⟨by omega,h2,h3,fun r hr=>?_⟩
  have hm:dA true r ∈ rs.map (dA true):=by rw [<- e];exact List.mem_map.2 ⟨r,hr,Z⟩
  obtain ⟨r',hr',e'⟩:=List.mem_map.1 hm
  have h5:=h4 r' hr'
  simp only [dA,if_true,Prod.mk.injEq] at e'
  unfold m4 at h5 ⊢
  rw [<- e'.1,<- e'.2.1,<- e'.2.2];exact h5
theorem Al {g:Int} {l:List Wd} {rs:List au} (hs:cx g l rs=true) (h:ic l rs=true):kJ (vj g rs)<=18000:=by
  have hg:=ri hs
  obtain ⟨n1,_,_,n2⟩:=eI.1 h
  have key:∀ L:List (Wd × Wd),(∀ s ∈ L,s.1.length<=40)->kJ (L.map (·.1))<=L.length * 40:=by
    intro L
    induction L with
    | nil=>intro _;simp [kJ]
    | cons a L ih =>
      intro h
      have h1:=ih fun s hs=>h s (List.mem_cons_of_mem _ hs)
      have h2:=h a List.mem_cons_self
      simp only [kJ,List.map_cons,List.sum_cons,List.length_cons] at h1 ⊢
      omega
  have h1:=key (aW g rs) fun s hs=>by
    rcases CR.in_cases hs with ⟨r,hr,rfl⟩ | ⟨x,_,rfl⟩
    · exact (je.1 (n2 r hr)).1
    · show 2<=40;decide
  have h2:=kQ g rs
  unfold vj
  omega
theorem r5 {g:Int} {l:List Wd} {rs h:List au} (e:h.map (dA true)=rs.map (dA true)):(decide (g=g) && decide (l=l) && eP true h rs)=true:=by simp [eP,e]
theorem uX {g:Int} {l:List Wd} {rs D:List au} (h:(decide (g=g) && decide (l=l) && eP true D rs)=false) (e:D.map (dA true)=rs.map (dA true)):False:=by rw [r5 e] at h;cases h
end Go.Proofs.YtjppkekmddjcfaaGreatDoor

namespace Go.Proofs.YtjppkekmddjcfaaGreatDoor
open Go Go.RowKit V
set_option maxRecDepth 100000


theorem TG (g:Int) (u:Value) (l:List (List UInt8)) (rv:Value) (rs:List au) (w:List UInt8) (A:AH) (hn:l.length<=9223372036854775807) (hm:rs.length<=9223372036854775807) (hL:eF A) (hu:bJ A 1 u (dc l)) (hr:bJ A 3 rv (ci rs)) (hp:Proofs A rs):bG Tryz.prog 21 #[.agg #[num g,u,rv],aX w] A (fun v A1=>A.le A1/\A1.wf) :=
  (pn g u l rv rs w A hn hm hL hu hr hp).mono fun v A1 h=>by
    obtain ⟨_,_,h1,h2,_⟩:=h
    exact ⟨h1,h2⟩

theorem TF (g:Int) (u:Value) (l:List (List UInt8)) (rv:Value) (rs:List au) (A:AH) (hn:l.length<=9223372036854775807) (hm:rs.length<=9223372036854775807) (hmx:cx g l rs=true->(bg g rs).length<=50000) (hL:eF A) (hM:nr A) (hu:bJ A 1 u (dc l)) (hr:bJ A 3 rv (ci rs)) (hp:Proofs A rs):bG Tryz.prog 38 #[.agg #[num g,u,rv]] A (fun v A1=>A.le A1/\A1.wf) :=
  (Il g u l rv rs A hn hm hmx hL hM hu hr hp).mono fun v A1 h=>by
    obtain ⟨_,_,_,_,_,_,h1,h2,_⟩:=h
    exact ⟨h1,h2⟩

theorem TA (g:Int) (u:Value) (l:List (List UInt8)) (rv:Value) (rs:List au) (A:AH) (hn:l.length<=9223372036854775807) (hm:rs.length<=9223372036854775807) (hln:cx g l rs=true->kJ (vj g rs)<=18000) (hL:eF A) (hu:bJ A 1 u (dc l)) (hr:bJ A 3 rv (ci rs)) (hp:Proofs A rs):bG Tryz.prog 33 #[.agg #[num g,u,rv]] A (fun v A1=>A.le A1/\A1.wf) :=
  (Qy g u l rv rs A hn hm hln hL hu hr hp).mono fun v A1 h=>by
    obtain ⟨_,_,_,_,h1,h2,_⟩:=h
    exact ⟨h1,h2⟩

theorem TC (g:Int) (u:Value) (l:List (List UInt8)) (rv:Value) (rs:List au) (A:AH) (hn:l.length<=9223372036854775807) (hm:rs.length<=9223372036854775807) (hL:eF A) (hu:bJ A 1 u (dc l)) (hr:bJ A 3 rv (ci rs)) (hp:Proofs A rs):bG Tryz.prog 12 #[.agg #[num g,u,rv]] A (fun v A1=>A.le A1/\A1.wf) :=
  (EB g u l rv rs A hn hm hL hu hr hp).mono fun v A1 h=>h.2

theorem TD (g:Int) (u:Value) (l:List (List UInt8)) (rv:Value) (rs:List au) (w:List UInt8) (A:AH) (hn:l.length<=9223372036854775807) (hm:rs.length<=9223372036854775807) (hL:eF A) (hM:nr A) (hu:bJ A 1 u (dc l)) (hr:bJ A 3 rv (ci rs)) (hp:Proofs A rs):bG Tryz.prog 14 #[.agg #[num g,u,rv],aX w] A (fun v A1=>A.le A1/\A1.wf) :=
  (lI g u l rv rs w A hn hm hL hM hu hr hp).mono fun v A1 h=>h.2

theorem Sg (g:Int) (u:Value) (l:List (List UInt8)) (rv:Value) (rs:List au) (A:AH) (hn:l.length<=9223372036854775807) (hm:rs.length<=9223372036854775807) (hmx:cx g l rs=true->(bg g rs).length<=50000) (hL:eF A) (hu:bJ A 1 u (dc l)) (hr:bJ A 3 rv (ci rs)) (hp:Proofs A rs):bG Tryz.prog 28 #[.agg #[num g,u,rv]] A (fun v A1=>A.le A1/\A1.wf) :=
  (ra g u l rv rs A hn hm hmx hL hu hr hp).mono fun v A1 h=>h.2

theorem Se (g:Int) (u:Value) (l:List (List UInt8)) (rv:Value) (rs:List au) (A:AH) (hn:l.length<=9223372036854775807) (hm:rs.length<=9223372036854775807) (hmx:cx g l rs=true->(bg g rs).length<=50000) (hL:eF A) (hu:bJ A 1 u (dc l)) (hr:bJ A 3 rv (ci rs)) (hp:Proofs A rs):bG Tryz.prog 30 #[.agg #[num g,u,rv]] A (fun v A1=>A.le A1/\A1.wf) :=
  (ED g u l rv rs A hn hm hmx hL hu hr hp).mono fun v A1 h=>h.2

theorem TE (g:Int) (u:Value) (l:List (List UInt8)) (rv:Value) (rs:List au) (A:AH) (hn:l.length<=9223372036854775807) (hm:rs.length<=9223372036854775807) (hL:eF A) (hM:nr A) (hu:bJ A 1 u (dc l)) (hr:bJ A 3 rv (ci rs)) (hp:Proofs A rs):bG Tryz.prog 16 #[.agg #[num g,u,rv]] A (fun v A1=>A.le A1/\A1.wf) :=
  (sA g u l rv rs A hn hm hL hM hu hr hp).mono fun v A1 h=>h.2

theorem uU (g:Int) (u:Value) (l:List (List UInt8)) (rv:Value) (rs:List au) (w:List UInt8) (A:AH) (hL:eF A) (hM:nr A) (ac:l.length<=9223372036854775807) (h5:rs.length<=9223372036854775807) (hu:bJ A 1 u (dc l)) (hr:bJ A 3 rv (ci rs)) (b5:Proofs A rs):bG Tryz.prog 9 #[.agg #[num (g),u,rv],aX (w)] A (fun v A1=>v=.bool true/\A.le A1/\A1.wf):=by
 refine lN Tryz.call9 Tryz.func9 Z Tryz.results9 Tryz.ntmps9 Z (fun wf=>?_);have g5:=AH.le.refl A;refine ao.seq fun _ h2=>.region<|.l Z (fun _ _ g1 _=>ej wf rfl rfl fun A5 b4 dZ=>?_);have cF:=g5.trans dZ.le;refine g1 _ _<|.q Z (ah Z)<|.nil<|h2 _ _<|.seq fun _ h9=>.seq fun _ fv=>.region<|.l Z (fun _ _ eY _=>aK Z (RO A5 (hL.le cF) (hM.le cF)) ?_);rintro h6 A14 ⟨rfl,bB,gD⟩;have dz:=bB.get _ _ dZ.get;have bd:=cF.trans bB;refine eY _ _<|.q Z (eE Z)<|.nil<|fv _ _<|.cond_false Z<|.skip<|h9 _ _<|.seq fun _ fD=>.seq fun _ dD=>.region ?_;refine Ops.q Z (am dn cT Z Z dz Z)<|.l Z (fun _ _ eZ _=>aK Z (PG ((g)) u l rv rs  A14  (hu.le bd) (hr.le bd) (b5.le bd)) ?_);rintro h7 A24 ⟨rfl,bC,bL⟩;have dG:=bC.get _ _ dz;have aG:=bd.trans bC;refine eZ _ _<|.q Z (eE Z)<|.q Z (ae Z)<|.partB (t:=12) Z (fun g6=>?_) (fun g6=>?_)
 ·refine Ops.off Z Z Z Z<|.off Z Z Z Z<|.off Z Z Z Z<|.q Z (bi Z Z)<|.nil<|dD _ _<|.cond_true Z<|.seq fun _ fE=>.region<|.q Z (ah Z) ?_;refine Ops.nil<|fE _ _<|.rt (by exact be Z (⟨Z,aG,bL⟩))
 refine Ops.on Z Z<|.q Z (ae Z)<|.on Z Z<|.q Z (d6 u9 Z)<|.on Z Z<|.q Z (fu (b:=60) Z Z)<|.q Z (bw Z Z)<|.nil<|dD _ _<|.if rfl (fun g7=>?_) (fun g7=>?_)
 ·refine ao.seq fun _ fI=>.region<|.q Z (ah Z)<|.nil<|fI _ _<|.rt (by exact be Z (⟨Z,aG,bL⟩))
 refine ao.skip<|fD _ _<|.seq fun _ fL=>?_;have bA:ic l rs=true:=sK ‹_›;obtain ⟨h3,h4,dW⟩:=jF bA;refine ao.region<|.q Z (am dn cT Z Z dG Z)<|.l Z (fun _ _ f0 _=>aK Z (zW ((g)) u l rv rs A24 O O (fun r hr=>by have:=dW r hr;omega) (hu.le aG) (hr.le aG) (b5.le aG)) ?_);rintro h8 A38 ⟨gA,g8,h,rfl,bD,b1,b8,b6,bp,b2⟩;have dI:=bD.get _ _ dG;have cB:=aG.trans bD;have g4:=b8;have g3:=b6;have g2:=bp;have g0:=b2;obtain ⟨a2,a0,V,cV,_⟩:=b8.slc;subst cV;obtain ⟨a1,X,D,cS,_⟩:=b6.slc;subst cS;have cu:=AH.le.refl A38;refine f0 _ _<|.l Z (fun _ _ f1 _=>ca b1 vp rfl fun A45 h0 a7=>?_);have bu:=ne_new b1 dI a7.lo;have bM:=aL wf (Nat.le_trans cB.n a7.lo);have bP:=aL b1 (Nat.le_trans cu.n a7.lo);have fM:=a7.le.get _ _ dI;have fo:=cB.trans a7.le;have fd:=cu.trans a7.le;refine f1 _ _<|.l Z (fun _ _ f2 _=>aM (cs:=[num (g),.slice a2 a0 V,.slice a1 X D]) (c':=[num (g),.slice a2 a0 V,.slice a1 X D]) a7.wf rfl rfl rfl rfl cT a7.get (Nat.le_of_ble_eq_true rfl) rfl rfl fun A51 aI=>?_);have dJ:=aI.keep _ _ bu fM;have fe:=al fd b1 bP aI.n aI.keep;have bl:=al fo wf bM aI.n aI.keep;refine f2 _ _<|.nil<|fL _ _<|.seq fun _ fN=>.region<|.q Z (am dn cT Z Z dJ Z)<|.l Z (fun _ _ f3 _=>aK Z (zW ((g)) u l rv rs A51 O O (fun r hr=>by have:=dW r hr;omega) (hu.le bl) (hr.le bl) (b5.le bl)) ?_);rintro ha A60 ⟨gC,g9,bc,rfl,aS,aF,b9,b7,br,b3⟩;have dK:=aS.get _ _ dJ;have dO:=aS.get _ _ aI.get;have cC:=bl.trans aS;have fi:=fe.trans aS;have g4:=b9;have g3:=b7;have g2:=br;have g0:=b3;obtain ⟨b0,aY,aR,cX,_⟩:=b9.slc;subst cX;obtain ⟨aZ,aV,aP,cU,_⟩:=b7.slc;subst cU;have fn:=fi;have cv:=AH.le.refl A60;refine f3 _ _<|.l Z (fun _ _ f4 _=>ca aF vp rfl fun A70 h1 a4=>?_);have bv:=ne_new aF dK a4.lo;have bm:=ne_new aF dO a4.lo;have bO:=aL wf (Nat.le_trans cC.n a4.lo);have bR:=aL aF (Nat.le_trans cv.n a4.lo);have fO:=a4.le.get _ _ dK;have fQ:=a4.le.get _ _ dO;have fq:=cC.trans a4.le;have fl:=cv.trans a4.le;refine f4 _ _<|.l Z (fun _ _ f6 _=>aM (cs:=[num (g),.slice b0 aY aR,.slice aZ aV aP]) (c':=[num (g),.slice b0 aY aR,.slice aZ aV aP]) a4.wf rfl rfl rfl rfl cT a4.get (Nat.le_of_ble_eq_true rfl) rfl rfl fun A77 a8=>?_);have fR:=a8.keep _ _ bv fO;have dS:=a8.keep _ _ bm fQ;have fm:=al fl aF bR a8.n a8.keep;have fr:=al fq wf bO a8.n a8.keep;refine f6 _ _<|.nil<|fN _ _<|.seq fun _ fS=>?_;have leY:=fm;have leX:=fn.trans leY;have leA:=fr;have gZ:=a8.wf;have huxX:=b8.slc.le leX;have hrxX:=b6.slc.le leX;have hpxX:=bp.le leX;have hnxX:h.length=rs.length:=by have:=congrArg List.length b2;simpa using this
 have hsmX:=u6 bA b2;have huxY:=b9.slc.le leY;have hrxY:=b7.slc.le leY;have hpxY:=br.le leY;have hnxY:bc.length=rs.length:=by have:=congrArg List.length b3;simpa using this
 have hsmY:=u6 bA b3;have ch:=hu.le leA;have ck:=hr.le leA;have b5:=b5.le leA;have hL:=hL.le leA;have hM:=hM.le leA;have leR:=AH.le.refl A77;refine ao.region<|.q Z (am dn cT Z Z dS Z)<|.l Z (fun _ _ f7 _=>aK Z (TC ((g)) (.slice a2 a0 V) l (.slice a1 X D) h  A77 ac O (hL.le leR) (huxX.le leR) (hrxX.le leR) (hpxX.le leR)) ?_);rintro hb A89 ⟨aT,gE⟩;have fT:=aT.get _ _ fR;have dV:=aT.get _ _ dS;have fV:=aT.get _ _ a8.get;have ba:=leR.trans aT;refine f7 _ _<|.nil<|fS _ _<|.seq fun _ fX=>.region<|.q Z (am dn cT Z Z dV Z)<|.q Z (ae Z)<|.l Z (fun _ _ f9 _=>aK Z (TG ((g)) (.slice a2 a0 V) l (.slice a1 X D) h w A89 ac O (hL.le ba) (huxX.le ba) (hrxX.le ba) (hpxX.le ba)) ?_);rintro hc A99 ⟨ar,gc⟩;have e0:=ar.get _ _ fT;have bS:=ar.get _ _ dV;have e1:=ar.get _ _ fV;have a9:=ba.trans ar;refine f9 _ _<|.nil<|fX _ _<|.seq fun _ e2=>.region<|.q Z (am dn cT Z Z bS Z)<|.q Z (ae Z)<|.l Z (fun _ _ cZ _=>aK Z (TD ((g)) (.slice a2 a0 V) l (.slice a1 X D) h w A99 ac O (hL.le a9) (hM.le a9) (huxX.le a9) (hrxX.le a9) (hpxX.le a9)) ?_);rintro gF A109 ⟨av,ge⟩;have e3:=av.get _ _ e0;have bT:=av.get _ _ bS;have e4:=av.get _ _ e1;have ad:=a9.trans av;refine cZ _ _<|.nil<|e2 _ _<|.seq fun _ e5=>.region<|.q Z (am dn cT Z Z bT Z)<|.l Z (fun _ _ d0 _=>aK Z (Pm ((g)) (.slice a2 a0 V) l (.slice a1 X D) h  A109 ac O (fun z=>lq z hsmX) (hL.le ad) (huxX.le ad) (hrxX.le ad) (hpxX.le ad)) ?_);rintro gG A119 ⟨ay,gf⟩;have e6:=ay.get _ _ e3;have bU:=ay.get _ _ bT;have e7:=ay.get _ _ e4;have ag:=ad.trans ay;refine d0 _ _<|.nil<|e5 _ _<|.seq fun _ e9=>.region<|.q Z (am dn cT Z Z bU Z)<|.l Z (fun _ _ d1 _=>aK Z (Sg ((g)) (.slice a2 a0 V) l (.slice a1 X D) h  A119 ac O (fun z=>lq z hsmX) (hL.le ag) (huxX.le ag) (hrxX.le ag) (hpxX.le ag)) ?_);rintro gL A129 ⟨az,gg⟩;have ea:=az.get _ _ e6;have bV:=az.get _ _ bU;have ec:=az.get _ _ e7;have ai:=ag.trans az;refine d1 _ _<|.nil<|e9 _ _<|.seq fun _ eg=>.region<|.q Z (am dn cT Z Z bV Z)<|.l Z (fun _ _ d2 _=>aK Z (Se ((g)) (.slice a2 a0 V) l (.slice a1 X D) h  A129 ac O (fun z=>lq z hsmX) (hL.le ai) (huxX.le ai) (hrxX.le ai) (hpxX.le ai)) ?_);rintro gM A139 ⟨aA,gl⟩;have en:=aA.get _ _ ea;have bY:=aA.get _ _ bV;have ev:=aA.get _ _ ec;have aa:=ai.trans aA;refine d2 _ _<|.nil<|eg _ _<|.seq fun _ ex=>.region<|.q Z (am dn cT Z Z bY Z)<|.l Z (fun _ _ d3 _=>aK Z (TE ((g)) (.slice a2 a0 V) l (.slice a1 X D) h  A139 ac O (hL.le aa) (hM.le aa) (huxX.le aa) (hrxX.le aa) (hpxX.le aa)) ?_);rintro gN A149 ⟨aB,gm⟩;have ey:=aB.get _ _ en;have c3:=aB.get _ _ bY;have ez:=aB.get _ _ ev;have ab:=aa.trans aB;refine d3 _ _<|.nil<|ex _ _<|.seq fun _ eA=>.region<|.q Z (am dn cT Z Z c3 Z)<|.l Z (fun _ _ dd _=>aK Z (TF ((g)) (.slice a2 a0 V) l (.slice a1 X D) h  A149 ac O (fun z=>lq z hsmX) (hL.le ab) (hM.le ab) (huxX.le ab) (hrxX.le ab) (hpxX.le ab)) ?_);rintro gP A159 ⟨aC,gp⟩;have eC:=aC.get _ _ ey;have c4:=aC.get _ _ c3;have eG:=aC.get _ _ ez;have ap:=ab.trans aC;refine dd _ _<|.nil<|eA _ _<|.seq fun _ eL=>.region<|.q Z (am dn cT Z Z c4 Z)<|.l Z (fun _ _ di _=>aK Z (TA ((g)) (.slice a2 a0 V) l (.slice a1 X D) h  A159 ac O (fun z=>Al z hsmX) (hL.le ap) (huxX.le ap) (hrxX.le ap) (hpxX.le ap)) ?_);rintro gQ A169 ⟨aD,gq⟩;have eN:=aD.get _ _ eC;have c7:=aD.get _ _ c4;have cb:=aD.get _ _ eG;have a5:=ap.trans aD;refine di _ _<|.nil<|eL _ _<|.seq fun _ eQ=>.region<|.q Z (am dn cT Z Z c7 Z)<|.q Z (am dn cT Z Z cb Z) ?_;have hcx:=fun r hr=>(jF hsmX).2.2 r hr;refine Ops.l Z (fun _ _ dj _=>aK Z (LD ((g)) (.slice a2 a0 V) l (.slice a1 X D) h ((g)) (.slice b0 aY aR) l (.slice aZ aV aP) bc A169 O O O (fun r hr=>by have:=(jF hsmX).2.2 r hr;omega) (huxX.le a5) (hrxX.le a5) (hpxX.le a5) (huxY.le a5) (hrxY.le a5) (hpxY.le a5)) ?_);rintro gS A179 ⟨rfl,aE,gs⟩;have cc:=aE.get _ _ eN;have eS:=aE.get _ _ c7;have eT:=aE.get _ _ cb;have a6:=a5.trans aE;refine dj _ _<|.nil<|eQ _ _<|.seq fun _ cf=>.region<|.q Z (am dn cT Z Z eS Z)<|.q Z (am dn cT Z Z cc Z)<|.l Z (fun _ _ dk _=>aK Z (EE ((g)) (.slice a2 a0 V) l (.slice a1 X D) h ((g)) u l rv rs A179 O O O (fun r hr=>by have:=(jF hsmX).2.2 r hr;omega) (huxX.le a6) (hrxX.le a6) (hpxX.le a6) (ch.le a6) (ck.le a6) (b5.le a6)) ?_);rintro gX A189 ⟨rfl,bb,cK⟩;have eV:=bb.get _ _ cc;have eX:=bb.get _ _ eT;have a3:=a6.trans bb;refine dk _ _<|.q Z (ae Z)<|.partB (t:=47) Z (fun ft=>?_) (fun ft=>?_)
 ·refine Ops.on Z Z<|.q Z (am dn cT Z Z eX Z)<|.on Z Z<|.q Z (am dn cT Z Z eV Z)<|.on Z Z ?_;have hcx:=fun r hr=>(jF hsmY).2.2 r hr;refine Ops.l Z (fun _ _ dv _=>aK Z (EE ((g)) (.slice b0 aY aR) l (.slice aZ aV aP) bc ((g)) u l rv rs A189 O O O (fun r hr=>by have:=(jF hsmY).2.2 r hr;omega) (huxY.le a3) (hrxY.le a3) (hpxY.le a3) (ch.le a3) (ck.le a3) (b5.le a3)) ?_);rintro gY A198 ⟨rfl,cH,cP⟩;have dw:=a3.trans cH;refine dv _ _<|.q Z (bi Z Z)<|.q Z (ah Z)<|.nil<|cf _ _<|.rt (by exact be Z (⟨by first | rfl | (rw [r5 ‹_›];rfl) | exact (uX ‹_› ‹_›).elim,leA.trans dw,cP⟩))
 refine Ops.off Z Z Z Z<|.off Z Z Z Z<|.off Z Z Z Z<|.q Z (bw Z Z)<|.q Z (ah Z)<|.nil<|cf _ _<|.rt (by exact be Z (⟨by first | rfl | (rw [r5 ‹_›];rfl) | exact (uX ‹_› ‹_›).elim,leA.trans a3,cK⟩))
end Go.Proofs.YtjppkekmddjcfaaGreatDoor


namespace Go.Proofs.YtjppkekmddjcfaaGreatDoor
open Go Go.ChangeShapes Go.WideShapes Go.ChangeAt Go.RowKit V
set_option maxRecDepth 100000

theorem tq (H:Type) (enc:TypeId × Value->H) (W:World) (base:Nat) (args:Array Value) (ds gs:List (DataW H)) (before:List MemPlace)
    (hval:∀ (j:Nat) t v,Tryz.f9.params[j]? = some t->args[j]? = some v->Value.okWide Tryz.prog W .any base t v)
    (hW:DataW.Whole enc Tryz.prog Tryz.f9.params.toList Rows.rewriteStaysSpec.vars false W args.toList ds gs before) (hL:laidMetH Tryz.prog Rows.rewriteStaysRow.laid W) (hS:W.ShapedOpen Tryz.prog) :
    Calls Tryz.prog 9 args W fun e W'=>∃ v,e=.returned v/\Rows.rewriteStaysSpec.post enc Tryz.prog Tryz.f9 false true false false W args v W':=by
  have hW':=hW
  obtain ⟨p,q,D,hV,rfl,hfz,hnd⟩:=hW
  have hA:DataW.TrodAll enc Tryz.prog W 0 (fun _=>true) true Tryz.f9.params.toList args.toList ds p:=D
  rw [Tryz.params9] at hA hval
  obtain ⟨v0,v1,d0,d1,p0,p1,rfl,rfl,rfl,h0,h1⟩:=trodAll_two hA
  obtain ⟨rfl,rfl⟩:=trodVars_none hV
  clear D
  simp only [List.append_nil] at hW'
  have X:=h0
  obtain ⟨g0,u0,l0,V,a6,rfl,a1,a2,a5,a4,a3⟩:=Kn (hval 0 27 v0 Z Z) h0
  have a0:=h1
  obtain ⟨s1,rfl,_,_,a7⟩:=Go.ChangeMaps.open_string Tryz.underlying9 (hval 1 9 v1 Z Z) h1
  have hlt:∀ x ∈ p0 ++ p1,x.block < W.heap.size:=fun x hx=>by simpa using hW'.lt x (by simpa using hx)
  have walk:=Bj (k:=9) (args:=[.agg #[.int .i64 g0,u0,V],.string s1]) (by
    rw [oH s1]
    exact uU g0 u0 l0 V a6 s1.data.toList (AH.ofWorld W) (Ci (Tn hL)) (Gv hS) a1 a2 a5 a4 a3)
  refine walk.mono ?_
  rintro e W' ⟨rfl,bel⟩
  refine ⟨_,rfl,_,_,_,[],p0 ++ p1,[],(by simpa using hW'),?_,?_,?_,bel.frame _,fun h=>by cases h⟩
  · exact trodAll_cons_mk (shut_bool Tryz.underlying4 _) trodAll_mk0
  · have mk:=trodAll_mk2 (Below.trod D7 Y (of_decide_eq_true Y) X bel (fun x hx=>hlt x (by simp [hx]))) (Below.trod D7 Y (of_decide_eq_true Y) a0 bel (fun x hx=>hlt x (by simp [hx])))
    first | exact mk | (simp only [List.append_assoc];exact mk)
  · rfl

theorem Fa (os:Os):laidMet Tryz.prog Rows.rewriteStaysRow.laid ((rK os).forCall (fun _ _=>0) ⟨#[],#[.agg #[.int .i64 0,.slice none 0 0,.slice none 0 0],.string ⟨#[]⟩],[]⟩).memory :=
  laidMet_of_run3 20 Y Y Y
theorem yq (os:Os) {H:Type} (enc:TypeId × Value->H):∃ places,DataW.whole enc Tryz.prog ((rK os).forCall (fun _ _=>0) ⟨#[],#[.agg #[.int .i64 0,.slice none 0 0,.slice none 0 0],.string ⟨#[]⟩],[]⟩).memory Tryz.f9.params.toList Rows.rewriteStaysSpec.vars false #[.agg #[.int .i64 0,.slice none 0 0,.slice none 0 0],.string ⟨#[]⟩].toList 20=some ([.agg [.agg [.lit (.int .i64 0),.nil],.nil],.lit (.string [])],[],places) :=
  ⟨[],by kernel_rfl⟩
theorem wQ (os:Os) (started:os.Started) (H:Type) (enc:TypeId × Value->H) (F:Stop.Interp) :
    ReturnsInHanded {} Tryz.checked os 9 .any ((OpenSpec.ofChange Rows.rewriteStaysSpec).preRow enc Tryz.prog Tryz.f9 Rows.rewriteStaysRow.domain false Rows.rewriteStaysRow.laid) (((OpenSpec.ofChange Rows.rewriteStaysSpec).at F).post enc Tryz.prog Tryz.f9 false true false false):=by
  obtain ⟨places,hx⟩:=yq os enc
  refine returnsInHanded_of_row (C:=Tryz.checked) (s:=OpenSpec.ofChange Rows.rewriteStaysSpec) own started Y Tryz.func9
    (witness_row_at (enc:=enc) (C:=Tryz.checked) false (rK os) #[.agg #[.int .i64 0,.slice none 0 0,.slice none 0 0],.string ⟨#[]⟩] Z Y Y Y
      (OpenSpec.preRow_of_cond 20 hx Y (fun k hk=>by cases hk) Y (Fa os))) ?_
  intro W base args ds gs before hval hW _ _ _ hL hS _
  exact tq H enc W base args ds gs before hval hW hL hS
theorem AU:Rows.RewriteStaysSaid :=
  OpenClaim.holds_of_cond 9 Tryz.f9 Z Z Z Z Z Z Z ⟨rfl,rfl,rfl,rfl,rfl⟩ Z Z Z Z Z Y Tryz.func9 Y
    (of_decide_eq_true Y) (by unfold Func.isWrapper;first | (rw [if_pos (by decide +kernel)];kernel_rfl) | (rw [if_neg (by decide +kernel)];exact ⟨Z,Z⟩))
    (fun os started H enc _ F=>by rw [OpenClaim.pre_eq_preRow];exact wQ os started H enc F)
theorem yp (f:FuncId) (fn:Func) (hf:Tryz.pinned.checked.prog.funcNamed "cayley/cayleylaw10.RewriteStays" = some f) (hfn:Tryz.pinned.checked.prog.funcs[f]? = some fn) :
    true=Tryz.pinned.checked.prog.looks []/\∀ (j:Nat) t,fn.params[j]? = some t->Tryz.pinned.checked.prog.wantsStandIn t=false:=by
  obtain rfl:f=9:=Option.some.inj ((show Tryz.prog.funcNamed "cayley/cayleylaw10.RewriteStays" = some 9 by kernel_rfl).symm.trans hf) |>.symm
  obtain rfl:fn=Tryz.f9:=(Option.some.inj (Tryz.func9.symm.trans hfn)).symm
  refine ⟨by kernel_rfl,fun j t ht=>?_⟩
  rw [Tryz.params9] at ht
  have:t=27\/t=9:=by simpa using Array.mem_of_getElem? ht
  rcases this with rfl | rfl
  · exact (show Tryz.prog.wantsStandIn 27=false by kernel_rfl)
  · exact (show Tryz.prog.wantsStandIn 9=false by kernel_rfl)

theorem Stays_card:Rows.RewriteStaysCardSaid :=
  Claim7.holds_tied_plain_at .later [] _ _ _ _ AU (fun _ h=>by cases h) Y (fun _ h=>by cases h) rewriteStays_row_tie Z ⟨rfl,rfl⟩ Y Z yp Y
end Go.Proofs.YtjppkekmddjcfaaGreatDoor
