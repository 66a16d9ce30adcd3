import Derived.Test.YtjppkekmddjcfaaGreatDoorBD4
set_option linter.unusedSectionVars false
set_option linter.unusedVariables false
set_option linter.unusedSimpArgs false
namespace Go.Proofs.YtjppkekmddjcfaaGreatDoor
open Go Go.RowKit V
set_option maxRecDepth 100000
theorem mf:Tryz.prog.info? 3=some Tryz.t3:=by kernel_rfl
theorem RA:da Tryz.prog 147=some [(0,1),(1,3),(4,1),(5,1),(6,1),(7,3)]:=by kernel_rfl
theorem SU:type_of% @Tryz.underlying147:=@Tryz.underlying147
theorem S9:cx Tryz.prog 147=some (.agg #[.slice none 0 0,.int .i64 0,.slice none 0 0,.slice none 0 0,.map none,.slice none 0 0,.int .i64 0,.string ⟨⟨[]⟩⟩,.int .i64 0,.slice none 0 0]):=by kernel_rfl
theorem z3:cx Tryz.prog 3=some (.int .i64 0):=by kernel_rfl

theorem og (g:Int) (u:Value) (l:List (List UInt8)) (rv:Value) (rs:List bg) (A:AH) (hn:rs.length<=1000000) (ec:∀ r ∈ rs,0 < r.left.length/\r.left.length<=1000000) (hu:bH A 1 u (du l)) (hr:bH A 3 rv (cL rs)) (hp:Proofs A rs):bF Tryz.prog 59 #[.agg #[num (g),u,rv]] A (fun v A1=>∃ b mb,v=.pointer (some ⟨b,0,none⟩)/\A.le A1/\A1.wf/\A1.get b=some (.row true [.slice none 0 0,num g,u,rv,.map (some mb),.slice none 0 0,num 0,bi [],num 0,.slice none 0 0] 10)/\A.get b=none/\nx (A1.hide [some b]) mb rs):=by
 refine gw Tryz.call59 Tryz.func59 Z Tryz.results59 Tryz.ntmps59 Z (fun wf=>?_);have en:=AH.le.refl A;refine an.seq fun _ h2=>.region<|.l Z (fun _ _ ea _=>dy wf rfl rfl fun A5 b4 aG=>?_);have bP:=en.trans aG.le;refine ea _ _<|.q Z (ae Z)<|.nil<|h2 _ _<|.seq fun _ h9=>.region<|.q Z (aq dL dx Z Z aG.get Z)<|.l Z (fun _ _ cv _=>mu aG.wf fun A12 a3 ab=>?_);have aB:=aX wf (Nat.le_trans bP.n ab.lo);have dO:=ab.le.get _ _ aG.get;have b1:=bP.trans ab.le;refine cv _ _<|.q Z (dr Z (bI SU S9 RA Z))<|.l Z (fun _ _ cC _=>dy ab.wf rfl rfl fun A18 a8 ag=>?_);have a6:=ne_new ab.wf ab.get ag.lo;have aR:=aX wf (Nat.le_trans b1.n ag.lo);have dS:=ag.le.get _ _ dO;have dV:=ag.le.get _ _ ab.get;have b2:=b1.trans ag.le;refine cC _ _<|.q Z (ae Z)<|.nil<|h9 _ _<|.seq fun _ dW=>.seq fun _ dZ=>.region<|.q Z (aj dE il U Z)<|.q Z (ak iC Z Z dS Z)<|.q Z (bE (n:=rs.length) la Z (hr.le b2) O (c8 _)) ?_;refine Ops.q Z (ah Z)<|.nil<|dZ _ _<|.block<|.loop (X:=Nat × Array MapEntry × Nat × List (UInt8 × Value)) (fun ⟨i,es,ck,E⟩=>[(3,.pointer (some ⟨a8,0,none⟩)),(12,rv),(13,num ((rs.length:Nat):Int)),(14,num ((i:Nat):Int))]) (fun ⟨i,es,ck,E⟩ B=>(i<=rs.length/\dh d8 es E)/\A.le B/\B.get a3=some (.obj true (.map es ck))/\B.get a8=some (.row true [.slice none 0 0,num (g),u,rv,.map (some a3),.slice none 0 0,num ((0:Nat):Int),bi ([]),num ((0:Nat):Int),.slice none 0 0] 10)/\(mw A B E rs i [a3,a8])) (fun ⟨i,es,ck,E⟩=>rs.length - i) (⟨0,#[],0,[]⟩) (kq Z Z Z Z) (⟨⟨Nat.zero_le _,dh.nil⟩,b2,dV,ag.get,mw.nil⟩) ?_;rintro ⟨i,es,ck,E⟩ B28 ⟨⟨hi,hME⟩,ay,a9,aa,hIO⟩;refine an.wf fun a7=>?_;have hvv:=hIO.fr ((rs.getD i .zero).left.getD ((rs.getD i .zero).left.length - 1) 0);have ac:=hIO.ne ((rs.getD i .zero).left.getD ((rs.getD i .zero).left.length - 1) 0) a3 (by simp);have a4:=hIO.ne ((rs.getD i .zero).left.getD ((rs.getD i .zero).left.length - 1) 0) a8 (by simp);have bO:=AH.le.refl B28;have hil:=yI (rs.take i) ((rs.getD i .zero).left.getD ((rs.getD i .zero).left.length - 1) 0);have htl:(rs.take i).length<=i:=by simp;omega
 have hll:=fun q:i < rs.length=>ec _ (bq (d:=bg.zero) q);refine an.seq fun _ e0=>.region<|.q Z (ca Z Z)<|.nil<|e0 _ _<|.seq fun _ e1=>.if rfl (fun ev=>?_) (fun ev=>?_)
 ·refine an.skip<|e1 _ _<|.seq fun _ bD=>.block<|.seq fun _ e2=>.region<|.q Z (ah Z) ?_;obtain ⟨eG,eQ,eC,eV,eA,eT,eS,dD,eg,dI,bS,ez⟩:=bH.at (i:=i) (hr.le ay) Oj O;refine Ops.q Z (aE la fJ Z dD Z eg)<|.q Z (aq s7 fJ Z Z dI (bS.trans (congrArg some (iu O))))<|.l Z (fun _ _ cH _=>cu a7 Ij rfl fun A42 eL V=>?_);have az:=ne_new a7 a9 V.lo;have aA:=ne_new a7 aa V.lo;have dv:=hvv.own.ne_new a7 V.lo;have aS:=aX wf (Nat.le_trans ay.n V.lo);have aT:=aX a7 (Nat.le_trans bO.n V.lo);have e3:=V.le.get _ _ a9;have e4:=V.le.get _ _ aa;have bU:=hvv.le V.le;have d1:=ay.trans V.le;have cZ:=bO.trans V.le;refine cH _ _<|.q Z (ae Z)<|.l Z (fun _ _ cK _=>bh (cs:=[bi ((rs.getD i .zero).left),bi ((rs.getD i .zero).right),(rs.getD i .zero).pv]) (c':=[bi ((rs.getD i .zero).left),bi ((rs.getD i .zero).right),(rs.getD i .zero).pv]) V.wf rfl rfl rfl rfl fJ V.get (Nat.le_of_ble_eq_true rfl) (jL (hp.get O)) rfl fun A51 a2=>?_);have aY:=a2.keep _ _ az e3;have ap:=a2.keep _ _ aA e4;have aI:=bU.keep a2.keep dv;have av:=aw cZ a7 aT a2.n a2.keep;have b3:=aw d1 wf aS a2.n a2.keep;refine cK _ _<|.nil<|e2 _ _<|.seq fun _ e5=>.region<|.q Z (aj eD eO U Z)<|.q Z (ak fA Z Z a2.get Z)<|.q Z (aj eD eO U Z)<|.q Z (ak fA Z Z a2.get Z)<|.q Z (cF u9 Z) ?_;refine Ops.q Z (gh (b:=1) Z Z O)<|.q Z (lM u9 Z Z (by have:=hll O;omega))<|.q Z (ae Z)<|.nil<|e5 _ _<|.drawnP [0,1,2,3,4,5,6,7,8,9,11] 10 12 [12,13,14] [10,13,14] mixed Y Y Z<|.q Z Z Z (ah Z)<|.q Z Z Z (cJ Z)<|.q Z Z Z (aj wQ LN U Z) ?_;have aD:=bQ (off:=4) ap (show _=some (.map (some a3)) from rfl);refine m5.q Z Z Z (ak IG Z Z ap Z)<|.q Z Z Z (ah Z)<|.q Z Z Z (ah Z)<|.q Z Z Z (cJ Z)<|.q Z Z Z (aj wQ LN U Z) ?_;have cc:=bQ (off:=4) ap (show _=some (.map (some a3)) from rfl);refine m5.q Z Z Z (ak IG Z Z ap Z)<|.q Z Z Z (ah Z)<|.q Z Z Z (ah Z)<|.both Z Z Z Z Z Z ?_ ?_
  ·refine fun _ _ cP _=>oA qi Z Z LS u5 Iq aY hME ?_;refine cP _ _ (aU.list (L:=[(⟨a8,4,none⟩,.map (some a3))]) Y (al aD bf))<|.l Z Z Z (fun _ _ cS _=>aQ (c:=[num ((i:Nat):Int)]) a2.wf rfl (aJ d9 c0 z3 rfl U U rfl) fun A65 eN a1=>?_);have dJ:=aX a7 (Nat.le_trans av.n a1.lo);have bL:=a1.le.get _ _ aY;have bM:=a1.le.get _ _ ap;have aP:=aI.le a1.le;have b0:=am a1.le aD;have d2:=b3.trans a1.le;have d0:=av.trans a1.le;refine cS _ _ (aU.list (L:=[(⟨a8,4,none⟩,.map (some a3))]) Y (al b0 bf))<|.l Z Z Z (fun _ _ cV _=>cQ (ys:=[num ((i:Nat):Int)]) rfl rfl d9 c0 mf z3 rfl U d9 (fun _ h=>by cases h) aP.own (bZ (n:=1) a1.get Z) rfl rfl (by show (_ + _) * 8<=_;simp only [aH,List.length_cons,List.length_nil];(try simp only [List.length_append,List.length_cons,List.length_nil]);omega) O2 fun A76 ex a5=>?_);rw [show ([num ((i:Nat):Int)]:List Value)=cI [((i:Nat):Int)] from rfl,dp] at a5;obtain ⟨bV,d3⟩:=Fresh.grow aP d2 wf a5;have e6:=a5.keep ac bL;have di:=a5.ne ac a1.wf bL;have e7:=a5.keep a4 bM;have dj:=a5.ne a4 a1.wf bM;have ch:=a5.cell a4 b0;refine cV _ _ (aU.list (L:=[(⟨a8,4,none⟩,.map (some a3))]) Y (al ch bf))<|.l Z Z Z (fun _ _ cX _=>m4 qi a5.wf rfl rfl rfl LS u5 e6 hME hIO.nd fun A91 bT bR ai dd=>?_);have b8:=hIO.step d0 a1.wf a5 bV ai (by simp) (Ry di dj) O Z;have e9:=ai.keep _ _ a6.symm e7;have bp:=aw d3 wf aB ai.n ai.keep;refine cX _ _ (aU.none Y)<|.done<|bD _ _<|.region<|.q Z (bz (b:=1) Z Z O)<|.q Z (ah Z)<|.nil ?_;exact ⟨⟨i + 1,bT,bR,wj E ((rs.getD i .zero).left.getD ((rs.getD i .zero).left.length - 1) 0) ex⟩,kq Z Z Z Z,Z,⟨⟨by omega,dd⟩,bp,ai.get,e9,b8⟩,O1⟩
  refine fun _ _ bb _=>aQ (c:=[num ((i:Nat):Int)]) a2.wf rfl (aJ d9 c0 z3 rfl U U rfl) fun A103 ey D=>?_;have dz:=aX a7 (Nat.le_trans av.n D.lo);have aC:=D.le.get _ _ aY;have aV:=D.le.get _ _ ap;have aF:=aI.le D.le;have ar:=am D.le aD;have b9:=am D.le cc;have br:=b3.trans D.le;have bm:=av.trans D.le;refine bb _ _ (aU.list (L:=[(⟨a8,4,none⟩,.map (some a3)),(⟨a8,4,none⟩,.map (some a3))]) Y (al b9 (al ar bf)))<|.l Z Z Z (fun _ _ bc _=>oA qi Z Z LS u5 Iq aC hME ?_);refine bc _ _ (aU.list (L:=[(⟨a8,4,none⟩,.map (some a3))]) Y (al ar bf))<|.l Z Z Z (fun _ _ bd _=>cQ (ys:=[num ((i:Nat):Int)]) rfl rfl d9 c0 mf z3 rfl U d9 (fun _ h=>by cases h) aF.own (bZ (n:=1) D.get Z) rfl rfl (by show (_ + _) * 8<=_;simp only [aH,List.length_cons,List.length_nil];(try simp only [List.length_append,List.length_cons,List.length_nil]);omega) O2 fun A116 dw a0=>?_);rw [show ([num ((i:Nat):Int)]:List Value)=cI [((i:Nat):Int)] from rfl,dp] at a0;obtain ⟨b7,bu⟩:=Fresh.grow aF br wf a0;have bY:=a0.keep ac aC;have bB:=a0.ne ac D.wf aC;have c3:=a0.keep a4 aV;have bC:=a0.ne a4 D.wf aV;have ba:=a0.cell a4 ar;refine bd _ _ (aU.list (L:=[(⟨a8,4,none⟩,.map (some a3))]) Y (al ba bf))<|.l Z Z Z (fun _ _ bl _=>m4 qi a0.wf rfl rfl rfl LS u5 bY hME hIO.nd fun A131 b6 b5 ad bA=>?_);have aZ:=hIO.step bm D.wf a0 b7 ad (by simp) (Ry bB bC) O Z;have c4:=ad.keep _ _ a6.symm c3;have bv:=aw bu wf aB ad.n ad.keep;refine bl _ _ (aU.none Y)<|.done<|bD _ _<|.region<|.q Z (bz (b:=1) Z Z O)<|.q Z (ah Z)<|.nil ?_;exact ⟨⟨i + 1,b6,b5,wj E ((rs.getD i .zero).left.getD ((rs.getD i .zero).left.length - 1) 0) dw⟩,kq Z Z Z Z,Z,⟨⟨by omega,bA⟩,bv,ad.get,c4,aZ⟩,O1⟩
 refine an.exit<|dW _ _<|.seq fun _ c7=>.region<|.q Z (ah Z)<|.q Z (ae Z)<|.nil<|c7 _ _<|.rt (by exact aK Z (⟨a8,a3,Z,ay,a7,aa,aR,hIO.map O a9 hME (by simp) a6⟩))

theorem rC (g:Int) (u:Value) (l:List (List UInt8)) (rv:Value) (rs:List bg) (w:List UInt8) (A:AH) (hn:l.length<=9223372036854775807) (hm:rs.length<=9223372036854775807) (hL:gk A) (hu:bH A 1 u (du l)) (hr:bH A 3 rv (cL rs)) (hp:Proofs A rs):bF Tryz.prog 21 #[.agg #[num (g),u,rv],bi (w)] A (fun v A1=>∃ dv,v=.tuple #[.agg #[bi (mr g l rs w).word,num (((mr g l rs w).steps:Nat):Int),dv],num ((j9 g l rs w:Nat):Int)]/\A.le A1/\A1.wf/\Fresh A A1 dv 3 (cA (mr g l rs w).disk)):=by
 refine jE Tryz.call21 Tryz.func21 Z Tryz.results21 Tryz.ntmps21 Z (fun wf=>?_);have d2:=AH.le.refl A;refine an.seq fun _ h2=>.region<|.l Z (fun _ _ d0 _=>dy wf rfl rfl fun A5 b4 aZ=>?_);have bv:=d2.trans aZ.le;refine d0 _ _<|.l Z (fun _ _ d1 _=>cu aZ.wf Ei rfl fun A10 b9 ad=>?_);have a2:=aX wf (Nat.le_trans bv.n ad.lo);have bd:=ad.le.get _ _ aZ.get;have a5:=bv.trans ad.le;refine d1 _ _<|.q Z (ae Z)<|.nil<|h2 _ _<|.seq fun _ ck=>.block<|.seq fun _ cv=>.region<|.q Z (aq dL dx Z Z bd Z)<|.l Z (fun _ _ bD _=>ax Z (jw ((g)) u l rv rs A10 hn hm (hL.le a5) (hu.le a5) (hr.le a5) (hp.le a5)) ?_);rintro dW A20 ⟨rfl,aa,bb⟩;have bl:=aa.get _ _ bd;have bm:=aa.get _ _ ad.get;have ay:=a5.trans aa;refine bD _ _<|.q Z (eb Z)<|.q Z (ae Z)<|.nil<|cv _ _<|.ifB Z (fun d3=>?_) (fun d3=>?_)
 ·refine an.seq fun _ cC=>.region<|.q Z (dr Z (bI So Ei NC Z))<|.l Z (fun _ _ bL _=>bh (cs:=[bi ([]),num ((0:Nat):Int),.slice none 0 0]) (c':=[bi ([]),num ((0:Nat):Int),.slice none 0 0]) bb rfl rfl rfl rfl ia bm (Nat.le_of_ble_eq_true rfl) rfl rfl fun A29 ai=>?_);have bV:=aw ay wf a2 ai.n ai.keep;refine bL _ _<|.q Z (ae Z)<|.nil<|cC _ _<|.ret ?_;repeat first | with_reducible refine bJ ?_ | with_reducible refine bx ?_
  exact aK (ew uR ia Z ai.get Z (ff Z fY)) (⟨_,by (rw [(Cz ‹_›).1,(Cz ‹_›).2];rfl),bV,ai.wf,by (rw [(Cz ‹_›).1];exact Fresh.nil _ _ _)⟩)
 refine an.seq fun _ cH=>.region<|.q Z (aj fw f8 U Z)<|.q Z (aj eW c0 U Z)<|.q Z (ak eB Z Z bl Z)<|.q Z (ah Z)<|.l Z (fun _ _ bM _=>ax Z (oh (g) w A20 (hL.le ay)) ?_);rintro dZ A37 ⟨rfl,ab,bc⟩;have bp:=ab.get _ _ bl;have aR:=ab.get _ _ bm;have a1:=ay.trans ab;refine bM _ _<|.q Z (eI (b:=0) Z Z)<|.q Z (ae Z)<|.nil<|cH _ _<|.if rfl (fun dd=>?_) (fun dd=>?_)
 ·refine an.seq fun _ cK=>.region<|.q Z (dr Z (bI So Ei NC Z))<|.l Z (fun _ _ bO _=>bh (cs:=[bi ([]),num ((0:Nat):Int),.slice none 0 0]) (c':=[bi ([]),num ((0:Nat):Int),.slice none 0 0]) bc rfl rfl rfl rfl ia aR (Nat.le_of_ble_eq_true rfl) rfl rfl fun A46 ap=>?_);have bY:=aw a1 wf a2 ap.n ap.keep;refine bO _ _<|.q Z (ae Z)<|.nil<|cK _ _<|.ret ?_;repeat first | with_reducible refine bJ ?_ | with_reducible refine bx ?_
  exact aK (ew uR ia Z ap.get Z (ff Z fY)) (⟨_,by (rw [(CA ‹_› ‹_›).1,(CA ‹_› ‹_›).2];rfl),bY,ap.wf,by (rw [(CA ‹_› ‹_›).1];exact Fresh.nil _ _ _)⟩)
 refine an.skip<|ck _ _<|.seq fun _ cP=>.region<|.q Z (aq dL dx Z Z bp Z)<|.l Z (fun _ _ bP _=>ax Z (og ((g)) u l rv rs A37 (qL (by simpa using ‹(!cw g l rs)=false›)) (uw (by simpa using ‹(!cw g l rs)=false›)) (hu.le a1) (hr.le a1) (hp.le a1)) ?_);rintro e0 A54 ⟨D,b8,rfl,aB,aD,a8,X,ar⟩;have cS:=aB.get _ _ aR;have c3:=a1.trans aB;have hrow:=a8;have hno:=X;have hix:=ar;have ba:b4 ≠ D:=fun z=>by have q0:=bp;rw [z,X] at q0;cases q0
 have ag:b9 ≠ D:=fun z=>by have q0:=aR;rw [z,X] at q0;cases q0
 have aF:=qq a1 X;refine bP _ _<|.q Z (ah Z) ?_;have a6:=ce (bs:=[some D]) c3 (sh aF nw);have aT:=ce (bs:=[some D]) (cz A54 [some D]) (sh (cn (by simp)) nw);refine Ops.l Z (fun _ _ bR _=>ax Z (sL w rs l D (((g))) u rv b8 (.slice none 0 0) (.slice none 0 0) (num ((0:Nat):Int)) (bi ([])) (num ((0:Nat):Int)) (.slice none 0 0) (A54.hide [some D]) A54 (cz A54 [some D]) (ci aD) a8 (cn (by simp)) (by simpa using ‹(!cw g l rs)=false›) (hL.le a6) (hr.le a6) (hp.le a6) (ar.le aT)) ?_);rintro e1 A61 ⟨dw,dz,dD,dI,dJ,dO,dS,rfl,ac,a4,a9,a7,b0⟩;have aS:=bW (bs:=[some D]) cS (o9 ag lJ);have br:=ac.get _ _ aS;have aG:=a7.base a6;have c7:=a7.seph aS;have bU:=aT.trans ac;have aV:=a6.trans ac;refine bR _ _<|.q Z (ah Z)<|.q Z (bk Z Z)<|.q Z (bk Z Z)<|.l Z (fun _ _ bS _=>cu a4 Ei rfl fun A76 dV h=>?_);have av:=ne_new a4 br h.lo;have b1:=ne_new a4 a9 h.lo;have cc:=aG.own.ne_new a4 h.lo;have aP:=aX wf (Nat.le_trans aV.n h.lo);have ch:=aX (ci aD) (Nat.le_trans bU.n h.lo);have cV:=h.le.get _ _ br;have aI:=aG.le h.le;have c4:=aV.trans h.le;refine bS _ _ ?_;obtain ⟨aC,aA,az,dj,_⟩:=aI.own.slice;subst dj;refine Ops.l Z (fun _ _ bT _=>bh (cs:=[bi ((fh (eM rs w)).word),num (((fh (eM rs w)).steps:Nat):Int),.slice aC aA az]) (c':=[bi ((fh (eM rs w)).word),num (((fh (eM rs w)).steps:Nat):Int),.slice aC aA az]) h.wf rfl rfl rfl rfl ia h.get (Nat.le_of_ble_eq_true rfl) rfl rfl fun A87 V=>?_);have bu:=V.keep _ _ av cV;have bA:=aI.keep V.keep cc;have aY:=aw c4 wf aP V.n V.keep;refine bT _ _<|.q Z (ae Z)<|.nil<|cP _ _<|.seq fun _ cX=>.seq fun _ cZ=>.region<|.q Z (ah Z)<|.q Z (eb Z)<|.nil ?_;refine cZ _ _<|.ifB Z (fun di=>?_) (fun di=>?_)
 ·refine an.seq fun _ bB=>.region<|.q Z (dr Z (bI So Ei NC Z))<|.l Z (fun _ _ b3 _=>bh (cs:=[bi ([]),num ((0:Nat):Int),.slice none 0 0]) (c':=[bi ([]),num ((0:Nat):Int),.slice none 0 0]) V.wf rfl rfl rfl rfl ia bu (Nat.le_of_ble_eq_true rfl) rfl rfl fun A103 a3=>?_);have b6:=aw aY wf a2 a3.n a3.keep;refine b3 _ _<|.q Z (ae Z)<|.nil<|bB _ _<|.ret ?_;repeat first | with_reducible refine bJ ?_ | with_reducible refine bx ?_
  exact aK (ew uR ia Z a3.get Z (ff Z fY)) (⟨_,by (rw [(CB ‹_› ‹_› ‹_›).1,(CB ‹_› ‹_› ‹_›).2];rfl),b6,a3.wf,by (rw [(CB ‹_› ‹_› ‹_›).1];exact Fresh.nil _ _ _)⟩)
 refine an.skip<|cX _ _<|.seq fun _ bC=>.region<|.q Z (aq uR ia Z Z V.get Z)<|.l Z (fun _ _ b5 _=>bh (cs:=[bi ((fh (eM rs w)).word),num (((fh (eM rs w)).steps:Nat):Int),.slice aC aA az]) (c':=[bi ((fh (eM rs w)).word),num (((fh (eM rs w)).steps:Nat):Int),.slice aC aA az]) V.wf rfl rfl rfl rfl ia bu (Nat.le_of_ble_eq_true rfl) rfl rfl fun A113 a0=>?_);have b2:=bA.keep a0.keep c7;have b7:=aw aY wf a2 a0.n a0.keep;refine b5 _ _<|.q Z (ae Z)<|.nil<|bC _ _<|.ret ?_;repeat first | with_reducible refine bJ ?_ | with_reducible refine bx ?_
 exact aK (ew uR ia Z a0.get Z (ff Z fY)) (⟨_,by (rw [(CD ‹_› ‹_› ‹_›).1,(CD ‹_› ‹_› ‹_›).2];rfl),b7,a0.wf,by (rw [(CD ‹_› ‹_› ‹_›).1];exact b2)⟩)
end Go.Proofs.YtjppkekmddjcfaaGreatDoor

namespace Go.Proofs.YtjppkekmddjcfaaGreatDoor
open Go Go.RowKit
namespace V
section
variable {P:Program} {F:Fence} {nt n:Nat} {A:AH}
theorem Mg (hF:uL F) {l:Nat} {args:Array Value} {R:Value->AH->Prop} (hc:kx P l args A R) {w:World} (hw:cq A w) :
    YieldAt F 0 P l args w fun e w'=>∃ A' v,e=.returned v/\cq A' w'/\ej A w A' w'/\R v A':=by
  rcases hF with rfl | ⟨l,rfl⟩
  · exact hc w hw
  · exact hc w hw
theorem Mh (hF:uL F) {fo:Operand} {aa:Array Operand} {tt:Array TypeId} {dst:Option Nat} {ty:TypeId} {ps:String} {af:Array Edge} {g:Option (Nat × Bool)} {l:Nat} {vs:List Value} {R:Value->AH->Prop} {a:Act} {w:World}
    (hf:a.eval fo=.func (.yield l) #[] #[]) (ha:aa.map a.eval=vs.toArray) (hc:kx P l vs.toArray A R) (hw:cq A w) {next:Act->World->Prop} {Q:Exit->Act->World->Prop}
    (h:∀ v A' w',cq A' w'->ej A w A' w'->R v A'->next (a.put dst v) w') :
    ({ dst:=dst,op:=.call { callee:=.value fo,args:=aa,argTypes:=tt },type:=ty,pos:=ps,after:=af,guard:=g }:Oper).wpIn F 0 P a w next Q:=by
  obtain ⟨fn,tmps,assign,body,hy,hr⟩:=Mg hF hc hw
  have hx:(execOp a.eval { dst:=dst,op:=.call { callee:=.value fo,args:=aa,argTypes:=tt },type:=ty,pos:=ps,after:=af,guard:=g }).run P w=.ok (.round l fn tmps assign body) w:=by
    simp [execOp,resolve,hf,ha,Deferred.ofValue,invoke,hy]
  refine ⟨fun f _=>pD hF f,?_⟩
  rw [Oper.semAt_eq _ _ _ (fun c q=>by cases q),hx]
  refine ⟨qt hF,RoundIn.mono hr ?_⟩
  rintro en w' ⟨A',v,rfl,hv,hst,hR⟩
  exact h v A' w' hv hst hR

theorem mD {t el:TypeId} {len m:Nat} {z:Value} {l:List (Nat × Value)} {c:List Value} (hu:P.underlying t=some (.array len el)) (hz:cx P t=some z) (hs:dc P el=some m)
    (hf:m9 (fun i=>some (i * m,m)) z.cells.toList l=some c):kA P t l=some (.agg c.toArray):=by simp [kA,hu,hz,hs,hf]
theorem iq {e:ga} {x y:Operand} {t el:TypeId} {b off n len i:Nat} {k:IntKind} (hu:P.underlying t=some (.array len el)) (hs:dc P el=some n) (h:bX e x=some (.pointer (some ⟨b,off,none⟩))) (h':bX e y=some (.int k (i:Nat))) (hi:i < len) :
    aO P e A (.indexAddr t x y)=some (.pointer (some ⟨b,off + i * n,none⟩),[]):=by rw [F5 hu hs h h' hi,mz _ _ Z]
theorem CU:∀ a:Fin 16,MA .xor .i64 ((a.1:Nat):Int) ((1:Nat):Int)=some (num ((a.1 ^^^ 1:Nat):Int)):=fun a=>by
  have key:∀ a:Fin 16,IntKind.i64.wrap ((BitVec.ofInt 64 ((a.1:Nat):Int) ^^^ BitVec.ofInt 64 ((1:Nat):Int)).toNat:Int)=((a.1 ^^^ 1:Nat):Int):=by decide
  show some (Value.int .i64 (IntKind.i64.wrap ((BitVec.ofInt 64 ((a.1:Nat):Int) ^^^ BitVec.ofInt 64 ((1:Nat):Int)).toNat:Int)))=_
  rw [key]
theorem RN {e:ga} {x y:Operand} {t t':TypeId} {a:Nat} (h:bX e x=some (num (a:Nat))) (h':bX e y=some (num (1:Nat))) (ha:a < 16):aO P e A (.binOp .xor t x y t')=some (num ((a ^^^ 1:Nat):Int),[]) :=
  xx U U h h' (CU ⟨a,ha⟩)
def jj (P:Program) (nt:Nat) (F:Fence) (all:Array Oper) (os:List Oper) (Q:Exit->Fr->AH->Prop) (f:Fr) (A:AH):Prop :=
  ∀ a w,cT nt f a->cq A w->∀ (A₀:AH) (w₀:World),ej A₀ w₀ A w->wpListIn F 0 P all (kw nt Q A₀ w₀) os a w
section
variable {all:Array Oper} {Q:Exit->Fr->AH->Prop} {f:Fr} {e:ga} {ds:List Deferred} {d t:Nat} {op:Op} {ty:TypeId} {ps:String} {af:Array Edge} {os:List Oper} {v:Value} {T:em}
theorem jj.nil (h:Q .normal f A):jj P nt F all [] Q f A:=fun _ _ ha hw _ _ hs=>⟨f,A,ha,hw,hs,h,fun _ q=>by cases q⟩
theorem jj.q (hF:uL F) (hn:iB { dst:=some d,op:=op,type:=ty,pos:=ps,after:=af,guard:=none }=true) (hd:Nat.blt d nt=true) (hv:aO P e A op=some (v,T)) (h:jj P nt F all os Q ⟨(d,v) :: e,ds⟩ A) :
    jj P nt F all ({ dst:=some d,op:=op,type:=ty,pos:=ps,after:=af,guard:=none } :: os) Q ⟨e,ds⟩ A:=by
  intro a w ha hw A₀ w₀ hs
  have:=fB (o:={ dst:=some d,op:=op,type:=ty,pos:=ps,after:=af,guard:=none }) hv ha hw
  unfold wpListIn
  rw [if_pos (by simp [Region.wanted])]
  refine ⟨fun f _=>pD hF f,?_⟩
  rw [Oper.semAt_eq _ _ _ (fun c hc=>by simp only at hc;subst hc;cases hn),this.2 w this.1]
  exact h _ w (ha.put (some d) v (cM hd)) hw A₀ w₀ hs
theorem jj.y (hF:uL F) {fo:Operand} {l:Nat} {vs:List Value} {R:Value->AH->Prop} {aa:Array Operand} {tt:Array TypeId} (hd:Nat.blt d nt=true) (hf:bX e fo=some (.func (.yield l) #[] #[])) (ha:i4 (bX e) aa.toList=some vs)
    (hc:kx P l vs.toArray A R) (h:∀ v A',R v A'->jj P nt F all os Q ⟨(d,v) :: e,ds⟩ A') :
    jj P nt F all ({ dst:=some d,op:=.call { callee:=.value fo,args:=aa,argTypes:=tt },type:=ty,pos:=ps,after:=af,guard:=none } :: os) Q ⟨e,ds⟩ A:=by
  intro a w hact hw A₀ w₀ hs
  unfold wpListIn
  rw [if_pos (by simp [Region.wanted])]
  have hev:∀ x v,bX e x=some v->a.eval x=v:=fun x v g=>cE hact g
  have hargs:aa.map a.eval=vs.toArray:=by apply Array.ext';simp [nz hev _ _ ha]
  exact Mh hF (hev _ _ hf) hargs hc hw fun v A' w' hv hst hR=>h v A' hR _ w' (hact.put (some d) v (cM hd)) hv A₀ w₀ (hs.trans hst)
theorem dU.regionJ {id:Nat} {l:List Oper} (h:jj P nt F l.toArray l Q f A):dU P nt F (.region id l.toArray false) Q f A :=
  fun a w ha hw=>wpIn_region_lit (h a w ha hw A w (.refl _ _))
theorem an.regionJ {id:Nat} {l:List Oper} (h:jj P nt Fence.wide l.toArray l Q f A):an P nt (.region id l.toArray false) Q f A:=dU.run (dU.regionJ h)
end

theorem Qi (hF:uL F) {o:Oper} {a:Act} {w:World} {K:Act->World->Prop} {Q Q':Exit->Act->World->Prop} (hd:iB o=true) (hp:∀ ch a w,Q (.panic ch) a w->Q' (.panic ch) a w) (hl:¬ LetsOut Q) (h:o.wp P a w K Q):o.wpIn F n P a w K Q':=by
  have hs:o.semAt F.round a.eval=execOp a.eval o:=Oper.semAt_eq _ _ _ (fun c hc=>by simp [iB,hc] at hd)
  refine ⟨fun f _=>pD hF f,?_⟩
  rw [hs]
  unfold Oper.wp at h
  generalize (execOp a.eval o).run P w=r at h ⊢
  cases r with
  | ok x w' =>
    cases x <;> simp only [Oper.upon] at h <;> simp only [Oper.uponIn] <;>
      first
      | exact h
      | exact h.elim
      | exact ⟨qt hF,ym hF (h.mono fun e w'' he=>by
          cases e with
          | returned v=>exact he
          | panicked ch=>exact hp _ _ _ he
          | outgrown=>exact absurd he hl)⟩
      | exact ⟨qt hF,DH hF h⟩
  | halt x w'=>cases x <;> simp only [Oper.upon] at h <;> simp only [Oper.uponIn] <;> exact hp _ _ _ h
theorem vJ {ops:Array Oper} {y:Nat} {o o':Oper} (hy:ops[y]? = some o) (he:o'.after=o.after) (listed:Array Bool):Region.ready .any (ops.setIfInBounds y o') listed=Region.ready .any ops listed:=by
  unfold Region.ready
  rw [Array.size_setIfInBounds]
  apply List.filter_congr
  intro i hi
  congr 1
  by_cases q:y=i
  · subst q
    have hlt:=(Array.getElem?_eq_some_iff.1 hy).1
    have e1:ops[y]=o:=(Array.getElem?_eq_some_iff.1 hy).2
    simp [hlt,he,e1]
  · rw [Array.getElem?_setIfInBounds_ne q]
def qO (ops:Array Oper) (y z:Nat):Bool :=
  Nat.blt y ops.size && Nat.blt z ops.size && !(y == z) && (List.range ops.size).all (fun j=>j == y || j == z || kj ops j ops.size y) && kj ops y ops.size z &&
  (List.range ops.size).all (fun j=>match ops[j]? with | none=>false | some o=>o.after.all fun e=>Nat.blt e.on j) && ops.toList.all (fun o=>iB o && (match o.guard with | none=>true | _=>false))
theorem zZ {o:Oper} (h:(match o.guard with | none=>true | _=>false)=true) (l:Nat->Value):o.guard=none:=by
  cases q:o.guard with
  | none=>rfl
  | some x=>rw [q] at h;cases h
theorem M5 {l:Array Bool} {i:Nat} (h:l.getD i true=false):i < l.size:=by
  rcases Nat.lt_or_ge i l.size with q | q
  · exact q
  · simp [q] at h
theorem Kf {a:Act} {d:Nat} {v:Value} (h:d < a.tmps.size):(a.put (some d) v).eval (.tmp d)=v:=by simp [Act.eval,Act.put,h]
theorem Rk (hF:uL F) {ops:Array Oper} {y z d dz:Nat} {fo:Operand} {aa:Array Operand} {tt:Array TypeId} {ty tz tz':TypeId} {ps psz:String} {af afz:Array Edge} {l:Nat} {Qp Q:Exit->Act->World->Prop} {oy oz oy' oz':Oper}
    (ey:oy={ dst:=some d,op:=.call { callee:=.value fo,args:=aa,argTypes:=tt },type:=ty,pos:=ps,after:=af,guard:=none })
    (ez:oz={ dst:=some dz,op:=.unOp .not tz (.tmp d),type:=tz',pos:=psz,after:=afz,guard:=none })
    (ey':oy'={ oy with op:=.move (.const (.bool true)) }) (ez':oz'={ oz with op:=.move (.const (.bool false)) })
    (hy:ops[y]? = some oy) (hz:ops[z]? = some oz) (hw:qO ops y z=true) (hl:¬ LetsOut Qp) (hp:∀ ch a w,¬ Qp (.panic ch) a w)
    (hQ:∀ (a:Act) w,Qp .normal ((a.put (some d) (.bool true)).put (some dz) (.bool false)) w->d < a.tmps.size/\∃ (A:AH) (vs:List Value) (R:Value->AH->Prop),cq A w/\a.eval fo=.func (.yield l) #[] #[]/\aa.map a.eval=vs.toArray/\kx P l vs.toArray A R /\
      (∀ v A' w',R v A'->cq A' w'->ej A w A' w'->v=.bool true/\Q .normal ((a.put (some d) (.bool true)).put (some dz) (.bool false)) w')) :
    ∀ (fuel:Nat) (listed:Array Bool) (a:Act) (w:World),j6 ops listed->listed.size=ops.size->listed.getD y true=false ->
      wpAny P .any ((ops.setIfInBounds y oy').setIfInBounds z oz') Qp fuel listed a w->wpAnyIn F 0 P .any ops Q fuel listed a w:=by
  simp only [qO,Bool.and_eq_true,Bool.not_eq_true',List.all_eq_true,List.mem_range,Bool.or_eq_true,beq_iff_eq,beq_eq_false_iff_ne,ne_eq] at hw
  obtain ⟨⟨⟨⟨⟨⟨w1,w2⟩,w3⟩,w4⟩,w5⟩,w6⟩,w7⟩:=hw
  have w1:y < ops.size:=Nat.le_of_ble_eq_true w1
  have w2:z < ops.size:=Nat.le_of_ble_eq_true w2
  have ay:oy'.after=oy.after:=by rw [ey']
  have az:oz'.after=oz.after:=by rw [ez']
  generalize hops:(ops.setIfInBounds y oy').setIfInBounds z oz'=ops'
  have hr:∀ listed,Region.ready .any ops' listed=Region.ready .any ops listed:=fun listed=>by
    have e1:=vJ (ops:=ops.setIfInBounds y oy') (y:=z) (o:=oz) (o':=oz') (by rw [Array.getElem?_setIfInBounds_ne w3];exact hz) az listed
    rw [<- hops,e1,vJ hy ay]
  have hy':ops'[y]? = some oy':=by
    rw [<- hops,Array.getElem?_setIfInBounds_ne (fun q=>w3 q.symm)];simp [w1]
  have hz':ops'[z]? = some oz':=by
    rw [<- hops];simp [w2]
  have ho:∀ i,i ≠ y->i ≠ z->ops'[i]? = ops[i]?:=fun i h1 h2=>by
    rw [<- hops,Array.getElem?_setIfInBounds_ne (fun q=>h2 q.symm),Array.getElem?_setIfInBounds_ne (fun q=>h1 q.symm)]
  have a1:∀ i o,ops[i]? = some o->iB o=true/\o.guard=none:=fun i o hi=>by
    have hlt:=(Array.getElem?_eq_some_iff.1 hi).1
    have he:=(Array.getElem?_eq_some_iff.1 hi).2
    have:=w7 o (by rw [<- he];exact Array.getElem_mem_toList hlt)
    exact ⟨this.1,zZ this.2 (fun _=>undef)⟩
  have back:∀ (i:Nat) (o:Oper),ops[i]? = some o->∀ e ∈ o.after,e.on < i:=fun i o hi e he=>by
    have hlt:=(Array.getElem?_eq_some_iff.1 hi).1
    have:=w6 i hlt
    rw [hi] at this
    exact Nat.le_of_ble_eq_true (Array.all_eq_true'.1 this e he)
  have some_ready:∀ (listed:Array Bool),listed.size=ops.size->∀ m,listed.getD m true=false->Region.ready .any ops listed ≠ []:=fun listed hsz=>by
    intro m
    induction m using Nat.strongRecOn with
    | _ m ih =>
      intro hm h0
      have hlt:m < ops.size:=by rw [<- hsz];exact M5 hm
      have hom:ops[m]? = some ops[m]:=by simp [hlt]
      by_cases q:∀ e ∈ ops[m].after,Region.binds .any e=true->listed.getD e.on false=true
      · have:m ∈ Region.ready .any ops listed:=mem_ready.2 ⟨hm,_,hom,q⟩
        rw [h0] at this;cases this
      · obtain ⟨e,he,hbe,hle⟩:∃ e,e ∈ ops[m].after/\Region.binds .any e=true/\¬ listed.getD e.on false=true:=Classical.byContradiction fun n=>q fun e he hb=>Classical.byContradiction fun z=>n ⟨e,he,hb,z⟩
        have V:=back m _ hom e he
        refine ih e.on V ?_ h0
        have:listed.getD e.on false=false:=by simpa using hle
        have h3:e.on < listed.size:=by omega
        simpa [h3] using this
  intro fuel
  induction fuel with
  | zero =>
    intro listed a w hcl hsz hun h
    have h0:=h.1
    rw [hr] at h0
    exact absurd h0 (some_ready listed hsz y hun)
  | succ fuel ih =>
    intro listed a w hcl hsz hun h
    refine ⟨fun h0=>absurd h0 (some_ready listed hsz y hun),fun i hi=>?_⟩
    obtain ⟨hiun,oi,hoi,hall⟩:=mem_ready.1 hi
    have h1:=h.2 i (by rw [hr];exact hi)
    unfold wpOp at h1
    unfold wpOpIn
    by_cases hiy:i=y
    · subst hiy
      rw [hy] at hoi;cases hoi
      have others:∀ j,j < ops.size->j ≠ i->j ≠ z->listed.getD j false=true:=fun j hj h1 h2=>by
        rcases w4 j hj with (q | q) | q
        · exact absurd q h1
        · exact absurd q h2
        · exact jp hcl _ _ _ hy hall q
      have hznl:listed.getD z true=false:=by
        cases q:listed.getD z true with
        | false=>rfl
        | true =>
          have a0:listed.getD z false=true:=by rw [<- q];simp [hsz,w2]
          have:=jp hcl _ _ _ hz (hcl z _ hz a0) w5
          rw [gR hun] at this;cases this
      have a2:(listed.setIfInBounds i true).size=ops.size:=by simpa using hsz
      have X:(listed.setIfInBounds i true).getD z true=false:=by rw [getD_set_ne true w3];exact hznl
      have D:∀ j,j < ops.size->j ≠ z->(listed.setIfInBounds i true).getD j false=true:=fun j hj h2=>by
        by_cases q:j=i
        · subst q;simp [hsz,w1]
        · exact getD_set_true (others j hj q h2)
      have zready:z ∈ Region.ready .any ops (listed.setIfInBounds i true):=mem_ready.2 ⟨X,_,hz,fun e he _=>D _ (Nat.lt_trans (back z _ hz e he) w2) (by have:=back z _ hz e he;omega)⟩
      have only:∀ j,j ∈ Region.ready .any ops (listed.setIfInBounds i true)->j=z:=fun j hj=>by
        obtain ⟨q1,oj,q2,_⟩:=mem_ready.1 hj
        refine Classical.byContradiction fun q=>?_
        have:=D j (Array.getElem?_eq_some_iff.1 q2).1 q
        rw [gR q1] at this;cases this
      have done:Region.ready .any ops ((listed.setIfInBounds i true).setIfInBounds z true)=[]:=by
        refine List.eq_nil_iff_forall_not_mem.2 fun j hj=>?_
        obtain ⟨q1,oj,q2,_⟩:=mem_ready.1 hj
        have hlt:=(Array.getElem?_eq_some_iff.1 q2).1
        have:((listed.setIfInBounds i true).setIfInBounds z true).getD j false=true:=by
          by_cases q:j=z
          · subst q;simp [hsz,w2]
          · exact getD_set_true (D j hlt q)
        rw [gR q1] at this;cases this
      have wy':∀ l,Region.wanted oy' l=true:=fun l=>by rw [ey',ey];rfl
      have wz':∀ l,Region.wanted oz' l=true:=fun l=>by rw [ez',ez];rfl
      have wy:∀ l,Region.wanted oy l=true:=fun l=>by rw [ey];rfl
      have wz:∀ l,Region.wanted oz l=true:=fun l=>by rw [ez];rfl
      simp only [hy',wy',if_true] at h1
      have h2:wpAny P .any ops' Qp fuel (listed.setIfInBounds i true) (a.put (some d) (.bool true)) w:=by
        rcases h1 with h1 | ⟨_,h1⟩
        · rw [ey',ey] at h1;exact h1
        · exact absurd h1 hl
      cases fuel with
      | zero=>exfalso;have:=h2.1;rw [hr] at this;rw [this] at zready;cases zready
      | succ f =>
        have h3:=h2.2 z (by rw [hr];exact zready)
        unfold wpOp at h3
        simp only [hz',wz',if_true] at h3
        have h4:wpAny P .any ops' Qp f ((listed.setIfInBounds i true).setIfInBounds z true) ((a.put (some d) (.bool true)).put (some dz) (.bool false)) w:=by
          rcases h3 with h3 | ⟨_,h3⟩
          · rw [ez',ez] at h3;exact h3
          · exact absurd h3 hl
        have h5:Qp .normal ((a.put (some d) (.bool true)).put (some dz) (.bool false)) w:=by
          cases f with
          | zero=>exact h4.2
          | succ f=>exact h4.1 (by rw [hr];exact done)
        obtain ⟨hd,A,vs,R,hv,hfo,haa,hya,hK⟩:=hQ a w h5
        simp only [hy,wy,if_true]
        rw [ey]
        refine Mh hF hfo haa hya hv fun v A' w' hv' hst hR=>?_
        obtain ⟨rfl,hq⟩:=hK v A' w' hR hv' hst
        refine ⟨fun q=>(by rw [q] at zready;cases zready),fun j hj=>?_⟩
        have:=only j hj
        subst this
        unfold wpOpIn
        simp only [hz,wz,if_true]
        rw [ez]
        have hx:(execOp (a.put (some d) (.bool true)).eval { dst:=some dz,op:=.unOp .not tz (.tmp d),type:=tz',pos:=psz,after:=afz,guard:=none }).run P w'=.ok (.value (.bool false)) w':=by
          have:=Kf (v:=.bool true) hd
          simp [execOp,this,Op.unary]
        refine ⟨fun f _=>pD hF f,?_⟩
        rw [Oper.semAt_eq _ _ _ (fun c q=>by cases q),hx]
        show wpAnyIn F 0 P .any ops Q f _ _ w'
        cases f with
        | zero=>exact ⟨done,hq⟩
        | succ f=>exact ⟨fun _=>hq,fun k hk=>by rw [done] at hk;cases hk⟩
    · have hiz:i ≠ z:=by
        rintro rfl
        have:=jp hcl _ _ _ hz (by rw [hz] at hoi;cases hoi;exact hall) w5
        rw [gR hun] at this;cases this
      obtain ⟨g1,g2⟩:=a1 i oi hoi
      have hwt:∀ l,Region.wanted oi l=true:=fun l=>by simp [Region.wanted,g2]
      rw [ho i hiy hiz] at h1
      simp only [hoi,hwt,if_true] at h1 ⊢
      have h2:oi.wp P a w (wpAny P .any ops' Qp fuel (listed.setIfInBounds i true)) Qp:=by
        rcases h1 with h1 | ⟨_,h1⟩
        · exact h1
        · exact absurd h1 hl
      refine Qi hF g1 (fun ch a w q=>absurd q (hp ch a w)) hl (Oper.wp_mono (fun a' w' h3=>?_) h2)
      exact ih _ _ _ (gr hcl hi) (by simpa using hsz) (by rw [getD_set_ne true hiy];exact hun) h3

def FJ (d dz:Nat):Operand->Bool
  | .tmp t=>!(t == d) && !(t == dz)
  | _=>true
theorem vD {d dz:Nat} {x:Operand} (h:FJ d dz x=true):x ≠ .tmp d/\x ≠ .tmp dz:=by
  constructor <;> (rintro rfl;simp [FJ] at h)
theorem dU.drawnYield {Q:Exit->Fr->AH->Prop} {e:ga} {ds:List Deferred} {id:Nat} {ops:Array Oper} (C:List Nat) (y z:Nat) {d dz:Nat} {fo:Operand} {aa:Array Operand} {tt:Array TypeId} {ty tz tz':TypeId} {ps psz:String} {af afz:Array Edge} {l:Nat} {oy oz:Oper} {vs:List Value} {R:Value->AH->Prop}
    (hF:uL F) (hy:ops[y]? = some oy) (hz:ops[z]? = some oz)
    (ey:oy={ dst:=some d,op:=.call { callee:=.value fo,args:=aa,argTypes:=tt },type:=ty,pos:=ps,after:=af,guard:=none })
    (ez:oz={ dst:=some dz,op:=.unOp .not tz (.tmp d),type:=tz',pos:=psz,after:=afz,guard:=none })
    (hw:qO ops y z=true) (hfd:(FJ d dz fo && aa.toList.all (FJ d dz))=true) (hdn:Nat.blt d nt=true) (hm:P.follows .mixedOrders=true)
    (hc:ld ((ops.setIfInBounds y { oy with op:=.move (.const (.bool true)) }).setIfInBounds z { oz with op:=.move (.const (.bool false)) }) (Array.replicate ops.size false) C=true) (hn:Region.noSelect ((ops.setIfInBounds y { oy with op:=.move (.const (.bool true)) }).setIfInBounds z { oz with op:=.move (.const (.bool false)) })=true) (hl:C.length=ops.size)
    (hya:kx P l vs.toArray A R)
    (h:be P nt ((ops.setIfInBounds y { oy with op:=.move (.const (.bool true)) }).setIfInBounds z { oz with op:=.move (.const (.bool false)) })
      (fun x f A'=>x=.normal/\A'=A/\bX f.e fo=some (.func (.yield l) #[] #[])/\i4 (bX f.e) aa.toList=some vs/\∀ v A2,R v A2->v=.bool true/\Q .normal f A2) (Array.replicate ops.size false) [] C ⟨e,ds⟩ A):dU P nt F (.region id ops true) Q ⟨e,ds⟩ A:=by
  intro a w ha a0
  simp only [Bool.and_eq_true,List.all_eq_true] at hfd
  obtain ⟨D,V⟩:=hfd
  have D:=vD D
  obtain ⟨v1,s1⟩:=iL a0
  have hsz:((ops.setIfInBounds y { oy with op:=.move (.const (.bool true)) }).setIfInBounds z { oz with op:=.move (.const (.bool false)) }).size=ops.size:=by simp
  have emp:∀ (os:Array Oper),os.size=ops.size->j6 os (Array.replicate ops.size false):=fun os hos j o _ hj=>by
    exfalso
    rcases Nat.lt_or_ge j ops.size with q | q
    · simp [q] at hj
    · simp [q] at hj
  have key:=h hc hn a _ ha v1 (fun p hp=>by cases hp) (emp _ hsz) A w s1
  rw [hl] at key
  have key:=jy _ _ _ _ key
  refine wpIn_mono (wpIn_region_any hm (Rk (l:=l) (Q:=dC nt Q A w) hF ey ez rfl rfl hy hz hw ?_ ?_ ?_ _ _ _ _ (emp _ rfl) (by simp) ?_ key)) (fun _ _ _=>dC.q)
  · rintro ⟨a,w,f',A',_,_,_,q,_⟩;exact absurd q.1 (by simp)
  · rintro ch a w ⟨f',A',_,_,_,q,_⟩;exact absurd q.1 (by simp)
  · rintro a2 w2 ⟨f',A',g1,g2,g3,⟨_,rfl,g5,g6,g7⟩,_⟩
    have a1:a2.tmps.size=nt:=by have:=g1.size;simpa [Act.put] using this
    have hd:=Nat.le_of_ble_eq_true hdn
    have hev:∀ x v,x ≠ .tmp d->x ≠ .tmp dz->bX f'.e x=some v->a2.eval x=v:=fun x v n1 n2 g=>by
      have h5:=cE g1 g
      cases x with
      | tmp t =>
        have t1:t ≠ d:=fun q=>n1 (by rw [q])
        have t2:t ≠ dz:=fun q=>n2 (by rw [q])
        rw [<- h5]
        simp only [Act.eval,Act.put,Array.getD_eq_getD_getElem?]
        rw [Array.getElem?_setIfInBounds_ne (Ne.symm t2),Array.getElem?_setIfInBounds_ne (Ne.symm t1)]
      | _=>exact h5
    refine ⟨by omega,A',vs,R,g2,hev _ _ D.1 D.2 g5,?_,hya,?_⟩
    · apply Array.ext'
      simp only [Array.toList_map]
      have key:∀ (l:List Operand) (us:List Value),(∀ x ∈ l,x ≠ .tmp d/\x ≠ .tmp dz)->i4 (bX f'.e) l=some us->l.map a2.eval=us:=by
        intro l
        induction l with
        | nil=>intro us _ h;simp [i4] at h;simp [h]
        | cons x l ih =>
          intro us hx h
          simp only [i4] at h
          split at h
          · rename_i v us' h1 h2
            cases h
            have:=hx x List.mem_cons_self
            simp [hev _ _ this.1 this.2 h1,ih _ (fun y hy=>hx y (List.mem_cons_of_mem _ hy)) h2]
          · cases h
      exact key _ _ (fun x hx=>vD (V x hx)) g6
    · intro v A2 w' hR X hst
      obtain ⟨r1,r2⟩:=g7 v A2 hR
      exact ⟨r1,f',A2,g1,X,g3.trans hst,r2,fun _ q=>by cases q⟩
  · have:y < ops.size:=(Array.getElem?_eq_some_iff.1 hy).1
    simp [this]
theorem an.drawnYield {Q:Exit->Fr->AH->Prop} {e:ga} {ds:List Deferred} {id:Nat} {ops:Array Oper} (C:List Nat) (y z:Nat) {d dz:Nat} {fo:Operand} {aa:Array Operand} {tt:Array TypeId} {ty tz tz':TypeId} {ps psz:String} {af afz:Array Edge} {l:Nat} {oy oz:Oper} {vs:List Value} {R:Value->AH->Prop}
    (hy:ops[y]? = some oy) (hz:ops[z]? = some oz)
    (ey:oy={ dst:=some d,op:=.call { callee:=.value fo,args:=aa,argTypes:=tt },type:=ty,pos:=ps,after:=af,guard:=none })
    (ez:oz={ dst:=some dz,op:=.unOp .not tz (.tmp d),type:=tz',pos:=psz,after:=afz,guard:=none })
    (hw:qO ops y z=true) (hfd:(FJ d dz fo && aa.toList.all (FJ d dz))=true) (hdn:Nat.blt d nt=true) (hm:P.follows .mixedOrders=true)
    (hc:ld ((ops.setIfInBounds y { oy with op:=.move (.const (.bool true)) }).setIfInBounds z { oz with op:=.move (.const (.bool false)) }) (Array.replicate ops.size false) C=true) (hn:Region.noSelect ((ops.setIfInBounds y { oy with op:=.move (.const (.bool true)) }).setIfInBounds z { oz with op:=.move (.const (.bool false)) })=true) (hl:C.length=ops.size)
    (hya:kx P l vs.toArray A R)
    (h:be P nt ((ops.setIfInBounds y { oy with op:=.move (.const (.bool true)) }).setIfInBounds z { oz with op:=.move (.const (.bool false)) })
      (fun x f A'=>x=.normal/\A'=A/\bX f.e fo=some (.func (.yield l) #[] #[])/\i4 (bX f.e) aa.toList=some vs/\∀ v A2,R v A2->v=.bool true/\Q .normal f A2) (Array.replicate ops.size false) [] C ⟨e,ds⟩ A):an P nt (.region id ops true) Q ⟨e,ds⟩ A :=
  dU.run (dU.drawnYield C y z jK hy hz ey ez hw hfd hdn hm hc hn hl hya h)
end
end V
end Go.Proofs.YtjppkekmddjcfaaGreatDoor

namespace Go.Proofs.YtjppkekmddjcfaaGreatDoor
open Go Go.RowKit
namespace V
def lR (b4:Nat) (B:AH) (b:Nat):Prop:=b=b4\/∃ v cap,B.get b4=some (.row true [v] cap)/\blk v=some b
structure ct (b4:Nat) (M C:AH):Prop where
  le:M.le C
  wf:M.wf
  ow:∀ b,lR b4 C b->M.get b=none
section
variable {b4 b k:Nat} {A B C M M':AH} {v:Value} {cap:Nat} {o:fp}
theorem lR.same (h:lR b4 C b) (e:C.get b4=B.get b4):lR b4 B b:=by
  rcases h with h | ⟨v,cap,h1,h2⟩
  · exact .inl h
  · exact .inr ⟨v,cap,e ▸ h1,h2⟩
theorem lR.val (h:lR b4 C b) (g:C.get b4=some (.row true [v] cap)):b=b4\/blk v=some b:=by
  rcases h with h | ⟨v',cap',h1,h2⟩
  · exact .inl h
  · rw [g] at h1;cases h1;exact .inr h2
theorem ct.mono (h:ct b4 M C) (le:M'.le M) (wf:M'.wf):ct b4 M' C:=⟨le.trans h.le,wf,fun b hb=>by
  cases q:M'.get b with
  | none=>rfl
  | some o=>rw [<- h.ow b hb,le.get b o q]⟩
theorem ct.full (g:C.get b4=some (.row true [v] cap)) (wf:C.wf):ct b4 (C.hide [some b4,blk v]) C :=
  ⟨cz _ _,ci wf,fun b hb=>cn (by
    rcases hb.val g with rfl | q
    · simp
    · rw [q];simp)⟩
theorem ct.sub (h:ct b4 M C) (g:C.get b4=some (.row true [v] cap)):M.le (C.hide [some b4,blk v]) :=
  ce h.le fun b hb=>by
    simp only [List.mem_cons,List.not_mem_nil,or_false,Option.some.injEq] at hb
    rcases hb with rfl | hb
    · exact h.ow _ (.inl Z)
    · exact h.ow _ (.inr ⟨v,cap,g,hb.symm⟩)
end
theorem ct.up {b4:Nat} {A B M:AH} {v:Value} {cap:Nat} (h:ct b4 M A) (le:A.le B) (g:A.get b4=some (.row true [v] cap)):ct b4 M B :=
  ⟨h.le.trans le,h.wf,fun b hb=>h.ow b (hb.same (by rw [g];exact le.get _ _ g))⟩
theorem nP {A B:AH} {v:Value} (le:A.le B) (h:∀ b,blk v=some b->∃ o,A.get b=some o):∀ b,blk v=some b->∃ o,B.get b=some o:=fun b hb=>let ⟨o,ho⟩:=h b hb;⟨o,le.get _ _ ho⟩
theorem fF {b4 b:Nat} {A X:AH} {v:Value} {cap:Nat} {o:fp} (h:A.get b=some o) (g:X.get b4=some (.row true [v] cap)) (l:∀ b,blk v=some b->∃ o,X.get b=some o) (nj:X.get b=none):(A.hide [some b4,blk v]).get b=some o :=
  bW h (o9 (fun q=>by rw [q,g] at nj;cases nj) (mQ (fun q=>by obtain ⟨o,ho⟩:=l b q;rw [nj] at ho;cases ho) lJ))
theorem pK {b4 n:Nat} {A B X:AH} {v t:Value} {cap:Nat} {xs:List Value} (h:Fresh B A t n xs) (g:X.get b4=some (.row true [v] cap)) (l:∀ b,blk v=some b->∃ o,X.get b=some o) (nj:∀ b,blk t=some b->X.get b=none):bH (A.hide [some b4,blk v]) n t xs :=
  (h.off (bs:=[some b4,blk v]) (jJ (fun q=>by have:=nj _ q;rw [g] at this;cases this) (jd (fun c hc hq=>by obtain ⟨o,ho⟩:=l c hc;rw [nj c hq] at ho;cases ho) jI)) (AH.le.refl _)).slc
structure i3 (b4:Nat) (A B:AH) (Ds:List Nat):Prop where
  nd:Ds.Nodup
  lo:∀ D ∈ Ds,A.n<=D
  get:∀ D ∈ Ds,B.get D=some (.obj true (.deferred (some [])))
  ow:∀ D ∈ Ds,¬ lR b4 B D
theorem i3.nil {b4:Nat} {A B:AH}:i3 b4 A B []:=⟨List.nodup_nil,(fun _ h=>by cases h),(fun _ h=>by cases h),(fun _ h=>by cases h)⟩
theorem i3.up {b4:Nat} {A B C:AH} {Ds:List Nat} {v:Value} {cap:Nat} (h:i3 b4 A B Ds) (le:B.le C) (g:B.get b4=some (.row true [v] cap)):i3 b4 A C Ds :=
  ⟨h.nd,h.lo,fun D hD=>le.get _ _ (h.get D hD),fun D hD q=>h.ow D hD (q.same (by rw [g];exact le.get _ _ g))⟩
theorem i3.push {b4 D:Nat} {A B C:AH} {Ds:List Nat} {v:Value} {cap:Nat} (h:i3 b4 A B Ds) (g:B.get b4=some (.row true [v] cap)) (hR:ct b4 (B.hide [some b4,blk v]) C) (wf:B.wf) (hA:A.n<=B.n) (hn:B.n<=D) (hD:C.get D=some (.obj true (.deferred (some [])))) (ho:¬ lR b4 C D):i3 b4 A C (D :: Ds):=by
  have key:∀ E ∈ Ds,(B.hide [some b4,blk v]).get E=some (.obj true (.deferred (some []))):=fun E hE=>bW (h.get E hE) (o9 (fun q=>h.ow E hE (.inl q)) (mQ (fun q=>h.ow E hE (.inr ⟨v,cap,g,q⟩)) lJ))
  refine ⟨List.nodup_cons.2 ⟨fun q=>by have:=wf _ _ (h.get D q);omega,h.nd⟩,fun E hE=>?_,fun E hE=>?_,fun E hE=>?_⟩
  · rcases List.mem_cons.1 hE with rfl | q
    · omega
    · exact h.lo E q
  · rcases List.mem_cons.1 hE with rfl | q
    · exact hD
    · exact hR.le.get _ _ (key E q)
  · rcases List.mem_cons.1 hE with rfl | q
    · exact ho
    · intro z;have:=hR.ow E z;rw [key E q] at this;cases this
theorem i3.leave {b4:Nat} {A A' B M:AH} {Ds:List Nat} {v:Value} {cap:Nat} (h:i3 b4 A B Ds) (le:M.le A) (wf:A.wf) (hR:ct b4 M B) (g:B.get b4=some (.row true [v] cap)) (hn:A'.n=B.n) (hk:∀ b o,b ∉ Ds->B.get b=some o->A'.get b=some o) :
    ct b4 M A'/\∀ b o,(b < A.n\/lR b4 B b)->B.get b=some o->A'.get b=some o:=by
  have k2:∀ b o,(b < A.n\/lR b4 B b)->B.get b=some o->A'.get b=some o:=fun b o hb hg=>hk b o (fun q=>by
    rcases hb with hb | hb
    · have:=h.lo b q;omega
    · exact h.ow b q hb) hg
  refine ⟨⟨⟨by rw [hn];exact hR.le.n,fun b o hb=>k2 b o (.inl (wf _ _ (le.get _ _ hb))) (hR.le.get _ _ hb)⟩,hR.wf,fun b hb=>hR.ow b (hb.same ?_)⟩,k2⟩
  rw [g];exact k2 b4 _ (.inr (.inl Z)) g
section
variable {P:Program} {nt:Nat} {Q:Exit->Fr->AH->Prop} {A M:AH} {e:ga} {ds:List Deferred}
theorem an.rangeOwn {g:Operand} {gf:Nat} {lb:Array Value} {ps:Array Tmp} {assign body:Code} (b4 n:Nat) (xs:Nat->List Value) (I:Nat->AH->Prop) (e1:Nat->Nat->ga) (ar:Nat->fp)
    (hg:bX e g=some (.func (.func gf) #[] lb)) (eg:eU P gf) (hps:∀ i,(xs i).length=ps.size) (hpn:∀ p ∈ ps.toList,p < nt) (a3:b4 < A.n) (hM:ct b4 M A)
    (hI:∀ i B B',I i B->B'.wf->B.n<=B'.n->(∀ b o,(b < A.n\/lR b4 B b)->B.get b=some o->B'.get b=some o)->I i B')
    (hv:∀ i B,I i B->∃ v cap,B.get b4=some (.row true [v] cap)/\∀ b,blk v=some b->∃ o,B.get b=some o) (h0:I 0 A)
    (hiter:∀ l (J:Nat->AH->Prop) B M,B.n=A.n + 2->A.le B->B.wf->ct b4 M B->(∀ i C,J i C->I i C) ->
      (∀ i C C',J i C->C'.wf->C.n<=C'.n->(∀ b o,(b < B.n\/lR b4 C b)->C.get b=some o->C'.get b=some o)->J i C')->J 0 B ->
      (∀ i C M',i < n->C.wf->J i C->ct b4 M' C->kx P l (xs i).toArray C (fun v C'=>v=.bool true/\J (i + 1) C'/\C'.wf/\ct b4 M' C')) ->
      bF P gf (#[.func (.yield l) #[] #[]] ++ lb) B (fun _ C=>J n C/\C.wf/\ct b4 M C))
    (hassign:∀ F i B,uL F->i < n->dU P nt F assign (uc fun f C=>∃ b6,B.n<=b6/\ao (e1 i b6) f.e/\f.ds=[]/\B.le C/\C.wf/\C.get b6=some (ar i)) ⟨xC ps.toList (xs i) e,[]⟩ B)
    (hbody:∀ F i B b6 M',uL F->i < n->I i B->B.wf->A.n<=B.n->ct b4 M' B->A.n<=b6->B.get b6=some (ar i)->¬ lR b4 B b6->M'.get b6=none->dU P nt F body (uc fun _ C=>I (i + 1) C/\C.wf/\ct b4 M' C) ⟨e1 i b6,[]⟩ B)
    (hK:∀ B D,I n B->B.wf->A.n<=D->A.n<=B.n->B.get D=some (.obj true (.deferred (some [])))->¬ lR b4 B D->ct b4 M B->Q .normal ⟨e,mark D :: ds⟩ B) :
    an P nt (.rangeFunc g ps assign body) Q ⟨e,ds⟩ A:=by
  intro a w ha hw
  refine wpIn_wide.1 (wpIn_rangeFunc (n:=0) ?_)
  intro fn _
  rw [show Fence.wide.round=none from rfl]
  obtain ⟨rec,hrec⟩:∃ rec:LoopState->Option Code->Loop,rec=fun st pe=>{ state:=st,pending:=pe,fn,tmps:=a.tmps,params:=ps,assign,body,defers:=w.heap.size }:=⟨_,rfl⟩
  have hsz:w.heap.size=A.n:=hw.size
  have wfA:=hw.wf
  have hA:∀ b,lR b4 A b->b < A.n:=fun b hb=>by
    obtain ⟨v,cap,g1,g2⟩:=hv 0 A h0
    rcases hb.val g1 with rfl | q
    · exact a3
    · obtain ⟨o,ho⟩:=g2 b q;exact wfA _ _ ho
  obtain ⟨v1,s1⟩:=ji (o:=.obj true (.deferred (some []))) (x:=.deferred (some [])) hw ⟨rfl,fun _ _ _ q=>by cases q⟩
  obtain ⟨v2,s2⟩:=ji (o:=.obj true (.loop (rec .ready none))) (x:=.loop (rec .ready none)) v1 ⟨rfl,fun _ _ _ q=>by cases q⟩
  have hgl:((A.new (.obj true (.deferred (some [])))).new (.obj true (.loop (rec .ready none)))).get (A.n + 1)=some (.obj true (.loop (rec .ready none))):=AH.new_get_same _ _
  have hgd:((A.new (.obj true (.deferred (some [])))).new (.obj true (.loop (rec .ready none)))).get A.n=some (.obj true (.deferred (some []))):=by
    rw [AH.new_get_ne _ _ (by simp)];exact AH.new_get_same _ _
  have hkeep:∀ b,b < A.n->((A.new (.obj true (.deferred (some [])))).new (.obj true (.loop (rec .ready none)))).get b=A.get b:=fun b hb=>by
    rw [AH.new_get_ne _ _ Oz,AH.new_get_ne _ _ O]
  have hleA:A.le ((A.new (.obj true (.deferred (some [])))).new (.obj true (.loop (rec .ready none)))):=AH.le_new (AH.le_new (AH.le.refl A) wfA _) wfA _
  have hnB:((A.new (.obj true (.deferred (some [])))).new (.obj true (.loop (rec .ready none)))).n=A.n + 2:=rfl
  generalize ((A.new (.obj true (.deferred (some [])))).new (.obj true (.loop (rec .ready none))))=B0 at *
  have ad:I 0 B0:=hI 0 A _ h0 v2.wf O fun b o hb hgb=>by rw [hkeep b (wfA _ _ hgb)];exact hgb
  have aa:∀ b,lR b4 B0 b->b < A.n:=fun b hb=>hA b (hb.same (hkeep b4 a3))
  have hgev:a.eval g=.func (.func gf) #[] lb:=cE ha hg
  -- what is kept of the loop's own blocks
  have nl:b4 ≠ A.n + 1:=by omega
  refine ⟨w.heap.size + 1,[mark w.heap.size],(w.alloc (.deferred (some []))).alloc (.loop (rec .ready none)),{ target:=.fn (.func gf) lb,args:=#[.func (.yield (w.heap.size + 1)) #[] #[]] },(w.alloc (.deferred (some []))).alloc (.loop (rec .ready none)),gf,
    #[.func (.yield (w.heap.size + 1)) #[] #[]] ++ lb,(w.alloc (.deferred (some []))).alloc (.loop (rec .ready none)),?_,?_,fun _ _=>trivial,?_,fun q=>(by cases q),?_⟩
  · rw [hrec];exact run_enterLoop_outer _ _ _ _ _
  · simp only [resolve,hgev]
    simp [go_sem]
  · have eg':=eg
    unfold eU at eg'
    simp [invoke,go_sem,eg']
  · rw [hsz]
    have ai:ct b4 M B0:=⟨hM.le.trans hleA,hM.wf,fun b hb=>hM.ow b (hb.same (hkeep b4 a3))⟩
    have hcall:=hiter (A.n + 1) (fun i C=>I i C/\C.get (A.n + 1)=some (.obj true (.loop (rec .ready none)))/\C.get A.n=some (.obj true (.deferred (some [])))/\¬ lR b4 C (A.n + 1)/\¬ lR b4 C A.n) B0 M hnB hleA v2.wf ai (fun i C h=>h.1)
      (fun i C C' h wf hn hk=>?_) ⟨ad,hgl,hgd,fun q=>by have:=aa _ q;omega,fun q=>by have:=aa _ q;omega⟩ ?_
    · refine (callsIn_wide.2 (hcall.2 _ v2)).mono ?_
      rintro en w' ⟨A',hv',hs',v,rfl,⟨⟨hIn,hgl',hgd',X,a0⟩,hwf',hM'⟩⟩
      obtain ⟨q1,_⟩:=hv'.obj hgl'
      obtain ⟨v3,s3⟩:=kX P (y:=.loop { rec .ready none with state:=.exhausted }) hv' hgl' (fun _ _ _ q=>by cases q)
      refine ⟨none,w'.putObj (A.n + 1) (.loop { rec .ready none with state:=.exhausted }),by
        have h7:=run_endLoop (P:=P) q1 (by rw [hrec];simp)
        have h8:(rec .ready none).pending=none:=by rw [hrec]
        exact h7.trans (congrArg (fun j=>Result.ok j _) h8),?_⟩
      have hl':=hwf' _ _ hgl'
      refine ⟨⟨e,mark A.n :: ds⟩,_,⟨ha.size,ha.slot,by show [mark _] ++ a.defers=_;rw [ha.ds];rfl⟩,v3,((s1.trans s2).trans hs').trans s3,?_,fun _ q=>by cases q⟩
      have hset:∀ b,b ≠ A.n + 1->(A'.set (A.n + 1) (.obj true (.loop { rec .ready none with state:=.exhausted }))).get b=A'.get b:=fun b hb=>AH.set_get_ne _ _ hb
      refine hK _ A.n (hI n A' _ hIn v3.wf (Nat.le_refl _) fun b o hb hgb=>?_) v3.wf (Nat.le_refl _) Oz ?_ ?_ ⟨⟨hM'.le.n,fun b o hb=>?_⟩,hM'.wf,fun b hb=>hM'.ow b (hb.same (hset b4 nl))⟩
      · rw [hset];exact hgb
        rintro rfl
        rcases hb with hb | hb
        · omega
        · exact X hb
      · rw [hset _ O];exact hgd'
      · exact fun q=>a0 (q.same (hset b4 nl))
      · have h1:=hM.le.get b o hb
        have h2:=wfA _ _ h1
        rw [hset _ O];exact hM'.le.get b o hb
    · obtain ⟨hIC,g1,g2,X,a0⟩:=h
      obtain ⟨v,cap,hr,_⟩:=hv i C hIC
      have e4:C'.get b4=C.get b4:=by rw [hr];exact hk b4 _ (.inr (.inl Z)) hr
      exact ⟨hI i C C' hIC wf hn (fun b o hb hgb=>hk b o (hb.imp (fun q=>by omega) id) hgb),hk _ _ (.inl O) g1,hk _ _ (.inl O) g2,fun q=>X (q.same e4),fun q=>a0 (q.same e4)⟩
    · rintro i C M' hi hwfC ⟨hIC,hgl',hgd',X,a0⟩ hMC w' hv'
      obtain ⟨q1,_⟩:=hv'.obj hgl'
      have hy:=run_yield (P:=P) (args:=(xs i).toArray) q1 (by rw [hrec];simpa using hps i)
      refine ⟨fn,_,assign,body,(by rw [hrec] at hy;exact hy),roundIn_of_wpIn trivial ?_⟩
      have hact:cT nt ⟨xC ps.toList (xs i) e,[]⟩ { tmps:=(ps.zip (xs i).toArray).foldl (fun t p=>t.setIfInBounds p.1 p.2) a.tmps,defers:=[] }:=by
        have:=rz (nt:=nt) (ps.toList.zip (xs i)) e a.tmps (fun p hp=>hpn _ (List.of_mem_zip hp).1) ⟨ha.size,ha.slot,rfl⟩
        rw [<- Array.foldl_toList,Array.toList_zip]
        exact this
      have av:=hassign (FR (A.n + 1)) i C (oT _) hi _ w' hact hv'
      refine wpIn_mono av ?_
      rintro x a1 w1 ⟨f1,C1,h1,h2,h3,h4,h5⟩
      cases x <;> (try exact h4.elim)
      obtain ⟨b6,aA,hE,hds,hleC,ay,ap⟩:=h4
      obtain ⟨fe,fds⟩:=f1
      simp only at hE hds
      subst hds
      obtain ⟨vC,capC,gC,lC⟩:=hv i C hIC
      have owC:∀ b,lR b4 C b->b < C.n:=fun b hb=>by
        rcases hb.val gC with rfl | q
        · exact hwfC _ _ gC
        · obtain ⟨o,ho⟩:=lC b q;exact hwfC _ _ ho
      have ac:C1.get b4=C.get b4:=by rw [gC];exact hleC.get _ _ gC
      have a4:=hleC.get _ _ hgl'
      have ab:=hleC.get _ _ hgd'
      obtain ⟨q2,_⟩:=h2.obj a4
      obtain ⟨v4,s4⟩:=kX P (y:=.loop { rec .ready none with state:=.busy }) h2 a4 (fun _ _ _ q=>by cases q)
      refine ⟨_,run_beginRound q2 (by rw [hrec]),?_⟩
      have hl':=hwfC _ _ hgl'
      have hd':=hwfC _ _ hgd'
      have hnC:=hleC.n
      have hset:∀ b,b ≠ A.n + 1->(C1.set (A.n + 1) (.obj true (.loop { rec .ready none with state:=.busy }))).get b=C1.get b:=fun b hb=>AH.set_get_ne _ _ hb
      have hsetl:(C1.set (A.n + 1) (.obj true (.loop { rec .ready none with state:=.busy }))).get (A.n + 1)=some (.obj true (.loop { rec .ready none with state:=.busy })):=AH.set_get_same _ _ _
      have hsetn:(C1.set (A.n + 1) (.obj true (.loop { rec .ready none with state:=.busy }))).n=C1.n:=rfl
      generalize C1.set (A.n + 1) (.obj true (.loop { rec .ready none with state:=.busy }))=B1 at *
      have hIB:I i B1:=hI i C _ hIC v4.wf O fun b o hb hgb=>by
        rw [hset];exact hleC.get _ _ hgb
        rintro rfl
        rcases hb with hb | hb
        · omega
        · exact X hb
      have a8:∀ b,lR b4 B1 b->lR b4 C b:=fun b hb=>(hb.same (hset b4 nl)).same ac
      have hMs:ct b4 ⟨C.n,fun b=>if b=A.n + 1 then some (.obj true (.loop { rec .ready none with state:=.busy })) else if b=A.n then some (.obj true (.deferred (some []))) else M'.get b⟩ B1:=by
        refine ⟨⟨by show C.n<=B1.n;omega,fun b o hb=>?_⟩,fun b o hb=>?_,fun b hb=>?_⟩
        · simp only at hb
          split at hb
          · rename_i q;subst q;rw [hsetl];exact hb
          · rename_i q
            rw [hset b q]
            split at hb
            · rename_i q2;subst q2;rw [ab];exact hb
            · exact hleC.get _ _ (hMC.le.get b o hb)
        · simp only at hb
          split at hb
          · show b < C.n;omega
          · split at hb
            · show b < C.n;omega
            · exact hwfC b o (hMC.le.get b o hb)
        · have h6:=a8 b hb
          simp only
          rw [if_neg (fun q:b=A.n + 1=>X (q ▸ h6)),if_neg (fun q:b=A.n=>a0 (q ▸ h6))]
          exact hMC.ow b h6
      have hb:=hbody (FR (A.n + 1)) i B1 b6 _ (oT _) hi hIB v4.wf O hMs O (by rw [hset _ O];exact ap) (fun q=>by have:=owC _ (a8 _ q);omega) (by
        simp only
        rw [if_neg O,if_neg O]
        cases q:M'.get b6 with
        | none=>rfl
        | some o=>have:=hwfC _ _ (hMC.le.get _ _ q);omega)
      refine wpIn_mono (hb _ _ (cT.le h1 hE) v4) ?_
      rintro x a2 w2 ⟨f2,A2,g1,g2,g3,g4,g5⟩
      cases x <;> (try exact g4.elim)
      obtain ⟨ag,az,V⟩:=g4
      have a7:A2.get (A.n + 1)=some (.obj true (.loop { rec .ready none with state:=.busy })):=V.le.get _ _ (if_pos Z)
      have a6:A2.get A.n=some (.obj true (.deferred (some []))):=V.le.get _ _ (by simp [show ¬ A.n=A.n + 1 by omega])
      have a5:¬ lR b4 A2 (A.n + 1):=fun q=>by have:=V.ow _ q;simp only [if_true] at this;cases this
      have a9:¬ lR b4 A2 A.n:=fun q=>by have:=V.ow _ q;simp [show ¬ A.n=A.n + 1 by omega] at this
      obtain ⟨q3,_⟩:=g2.obj a7
      obtain ⟨v5,s5⟩:=kX P (y:=.loop { ({ rec .ready none with state:=.busy }:Loop) with state:=.ready,pending:=none }) g2 a7 (fun _ _ _ q=>by cases q)
      refine ⟨_,_,run_endRound (P:=P) none q3,_,_,Z,v5,((h3.trans s4).trans g3).trans s5,Z,⟨?_,?_,?_,?_,?_⟩,v5.wf,?_⟩
      · exact hI (i + 1) A2 _ ag v5.wf (Nat.le_refl _) fun b o hb hgb=>by
          rw [AH.set_get_ne];exact hgb
          rintro rfl
          rcases hb with hb | hb
          · omega
          · exact a5 hb
      · rw [AH.set_get_same,hrec]
      · rw [AH.set_get_ne _ _ O];exact a6
      · exact fun q=>a5 (q.same (AH.set_get_ne _ _ nl))
      · exact fun q=>a9 (q.same (AH.set_get_ne _ _ nl))
      · refine ⟨⟨Nat.le_trans hMC.le.n (by have:=V.le.n;exact this),fun b o hb=>?_⟩,hMC.wf,fun b hb=>?_⟩
        · by_cases q:b=A.n + 1
          · subst q
            have h6:=hMC.le.get _ _ hb
            rw [hgl'] at h6
            rw [AH.set_get_same,<- h6,hrec]
          · rw [AH.set_get_ne _ _ q]
            by_cases q2:b=A.n
            · subst q2;rw [a6,<- hMC.le.get _ _ hb,hgd']
            · exact V.le.get b o (by simp only;rw [if_neg q,if_neg q2];exact hb)
        · have h6:lR b4 A2 b:=hb.same (AH.set_get_ne _ _ nl)
          have h7:=V.ow b h6
          simp only at h7
          rw [if_neg (fun q:b=A.n + 1=>a5 (q ▸ h6)),if_neg (fun q:b=A.n=>a9 (q ▸ h6))] at h7
          exact h7
end
end V
end Go.Proofs.YtjppkekmddjcfaaGreatDoor

namespace Go.Proofs.YtjppkekmddjcfaaGreatDoor
open Go Go.RowKit V
section
variable {α:Type} {f:α->List Value} {n:Nat} {z:α}
theorem tA (hf:∀ a,(f a).length=n) (l:List α):(l.flatMap f).length=l.length * n:=by
  induction l with
  | nil=>simp
  | cons a l ih=>rw [List.flatMap_cons,List.length_append,ih,hf,List.length_cons,Nat.add_mul];omega
theorem Jn (hf:∀ a,(f a).length=n) (l:List α) (i:Nat):(l.flatMap f).drop (i * n)=(l.drop i).flatMap f:=by
  induction l generalizing i with
  | nil=>simp
  | cons a l ih =>
    cases i with
    | zero=>simp
    | succ i =>
      rw [List.flatMap_cons,show (i + 1) * n=(f a).length + i * n by rw [hf,Nat.add_mul];omega,<- List.drop_drop,List.drop_left]
      exact ih i
theorem Be (hf:∀ a,(f a).length=n) {l:List α} {i:Nat} (h:i < l.length):((l.flatMap f).drop (i * n)).take n=f (l.getD i z):=by
  rw [Jn hf,List.drop_eq_getElem_cons h]
  have e:l.getD i z=l[i]:=by simp [h]
  rw [e,List.flatMap_cons]
  exact List.take_left' (hf _)
theorem Dl (hf:∀ a,(f a).length=n) {l:List α} {i k:Nat} (h:i < l.length) (hk:k < n):(l.flatMap f)[i * n + k]? = (f (l.getD i z))[k]?:=by
  rw [<- Be hf h,List.getElem?_take_of_lt hk,List.getElem?_drop]
end
abbrev Wd:=List UInt8
def wg (s:Wd × Wd):List Value:=[bi s.1,bi s.2]
def f5 (l:List (Wd × Wd)):List Value:=l.flatMap wg
theorem dt (l:List (Wd × Wd)):(f5 l).length=l.length * 2:=tA (f:=wg) (n:=2) (fun _=>rfl) l
theorem pO (l:List (Wd × Wd)):(f5 l).length=l.length * 2:=dt l
theorem pn (a b:List (Wd × Wd)):f5 a ++ f5 b=f5 (a ++ b):=by simp [f5]
theorem GY {l:List (Wd × Wd)} {i:Nat} (h:i < l.length):((f5 l).drop (i * 2)).take 2=wg (l.getD i ([],[])):=Be (f:=wg) (n:=2) (fun _=>rfl) h
theorem wh {l:List (Wd × Wd)} {i:Nat} (h:i < l.length):(f5 l)[i * 2 + 0]? = some (bi (l.getD i ([],[])).1):=Dl (f:=wg) (n:=2) (fun _=>rfl) h U
theorem o4 {l:List (Wd × Wd)} {i:Nat} (h:i < l.length):(f5 l)[i * 2 + 1]? = some (bi (l.getD i ([],[])).2):=Dl (f:=wg) (n:=2) (fun _=>rfl) h U
structure CP where
  i:Int
  j:Int
  word:Wd
  u:Wd
  v:Wd
deriving DecidableEq
def CP.zero:CP:=⟨0,0,[],[],[]⟩
def cp (c:CP):List Value:=[num c.i,num c.j,bi c.word,bi c.u,bi c.v]
abbrev MR (c:CP):Value:=.agg #[num c.i,num c.j,bi c.word,bi c.u,bi c.v]
def AK (l:List CP):List Value:=l.flatMap cp
theorem mG (l:List CP):(AK l).length=l.length * 5:=tA (f:=cp) (n:=5) (fun _=>rfl) l
theorem Db (l:List CP):(AK l).length=l.length * 5:=mG l
theorem AL (a b:List CP):AK a ++ AK b=AK (a ++ b):=by simp [AK]
theorem PD {l:List CP} {i:Nat} (h:i < l.length):((AK l).drop (i * 5)).take 5=cp (l.getD i .zero):=Be (f:=cp) (n:=5) (fun _=>rfl) h
def SA (x:Nat):Wd:=[cB.getD x 0,cB.getD (x ^^^ 1) 0]
def bn (g:Int) (rs:List bg):List (Wd × Wd):=rs.map (fun r=>(r.left,r.right)) ++ (List.range (2 * g.toNat)).map fun x=>(SA x,[])
def nm (n i:Nat):Int:=if i < n then (i:Int) else -1 - ((i:Int) - (n:Int))
def p1 (u v:Wd) (k:Nat):Bool:=decide (1<=k) && decide (u.length - k < v.length) && decide (u.drop k=v.take (u.length - k))
def p2 (u v:Wd) (k:Nat):Bool:=decide (k + v.length<=u.length) && decide ((u.take (k + v.length)).drop k=v)
abbrev c1 (I J:Int) (a b:Wd × Wd) (k:Nat):CP:=⟨I,J,a.1 ++ b.1.drop (a.1.length - k),a.2 ++ b.1.drop (a.1.length - k),a.1.take k ++ b.2⟩
abbrev c2 (I J:Int) (a b:Wd × Wd) (k:Nat):CP:=⟨I,J,a.1,a.2,a.1.take k ++ b.2 ++ a.1.drop (k + b.1.length)⟩
def rU (I J:Int) (a b:Wd × Wd) (n:Nat):List CP:=((List.range n).filter (p1 a.1 b.1)).map (c1 I J a b)
def uY (I J:Int) (a b:Wd × Wd) (n:Nat):List CP:=((List.range n).filter (p2 a.1 b.1)).map (c2 I J a b)
def pt (I J:Int) (same:Bool) (a b:Wd × Wd):List CP:=rU I J a b a.1.length ++ if same then [] else uY I J a b (a.1.length + 1)
theorem Cw {rs:List bg} {i:Nat} (h:i < rs.length):(rs.take i).map (fun r=>(r.left,r.right)) ++ [((rs.getD i .zero).left,(rs.getD i .zero).right)]=(rs.take (i + 1)).map (fun r=>(r.left,r.right)):=by
  have e:rs.getD i .zero=rs[i]:=by simp [h]
  rw [List.take_succ_eq_append_getElem h,List.map_append,e];rfl
theorem Pd {x:Nat} (h:x < 16):x ^^^ 1 < 16:=by
  have:∀ a:Fin 16,a.1 ^^^ 1 < 16:=by decide
  exact this ⟨x,h⟩
theorem JH {x:Nat} (h:x < 16):([d8 97,d8 65,d8 98,d8 66,d8 99,d8 67,d8 100,d8 68,d8 101,d8 69,d8 102,d8 70,d8 103,d8 71,d8 104,d8 72]:List Value)[0 + x * 1]? = some (d8 (cB.getD x 0)):=by
  rw [Nat.zero_add,Nat.mul_one]
  have:∀ a:Fin 16,([97,65,98,66,99,67,100,68,101,69,102,70,103,71,104,72]:List UInt8)[a.1]? = some (cB.getD a.1 0):=by decide
  have h2:=congrArg (Option.map d8) (this ⟨x,h⟩)
  rw [<- List.getElem?_map] at h2
  exact h2
section
variable {I J:Int} {a b:Wd × Wd} {n k:Nat} {same:Bool}
theorem tL:rU I J a b (n + 1)=if p1 a.1 b.1 n then rU I J a b n ++ [c1 I J a b n] else rU I J a b n:=by
  unfold rU
  rw [List.range_succ,List.filter_append,List.map_append]
  by_cases h:p1 a.1 b.1 n=true <;> simp [h]
theorem qg:uY I J a b (n + 1)=if p2 a.1 b.1 n then uY I J a b n ++ [c2 I J a b n] else uY I J a b n:=by
  unfold uY
  rw [List.range_succ,List.filter_append,List.map_append]
  by_cases h:p2 a.1 b.1 n=true <;> simp [h]
theorem J0 (h:n<=k):rU I J a b n <+: rU I J a b k:=by
  induction k with
  | zero => obtain rfl : n = 0 := by omega
            exact List.prefix_refl _
  | succ k ih =>
    rcases Nat.lt_or_ge k n with q | q
    · obtain rfl:n=k + 1:=by omega
      exact List.prefix_refl _
    · refine (ih q).trans ?_
      rw [tL];split
      · exact List.prefix_append _ _
      · exact List.prefix_refl _
theorem Jt (h:n<=k):uY I J a b n <+: uY I J a b k:=by
  induction k with
  | zero => obtain rfl : n = 0 := by omega
            exact List.prefix_refl _
  | succ k ih =>
    rcases Nat.lt_or_ge k n with q | q
    · obtain rfl:n=k + 1:=by omega
      exact List.prefix_refl _
    · refine (ih q).trans ?_
      rw [qg];split
      · exact List.prefix_append _ _
      · exact List.prefix_refl _
theorem ob {α:Type} {p q l:List α} {x z:α} (h:p ++ [x] <+: l):p.length < l.length/\l.getD p.length z=x:=by
  obtain ⟨t,rfl⟩:=h
  simp
theorem NA (h1:1<=n) (hn:n < a.1.length) (h2:a.1.length - n < b.1.length) (h3:a.1.drop n=b.1.take (a.1.length - n)) :
    (rU I J a b n).length < (pt I J same a b).length/\(pt I J same a b).getD (rU I J a b n).length .zero=c1 I J a b n/\(rU I J a b (n + 1)).length=(rU I J a b n).length + 1:=by
  have hp:p1 a.1 b.1 n=true:=by simp [p1,h1,h2,h3]
  have e:rU I J a b (n + 1)=rU I J a b n ++ [c1 I J a b n]:=by rw [tL,if_pos hp]
  have hq:rU I J a b n ++ [c1 I J a b n] <+: pt I J same a b:=e ▸ (J0 O).trans (List.prefix_append _ _)
  exact ⟨(ob (z:=CP.zero) (q:=[]) hq).1,(ob (q:=[]) hq).2,by rw [e];simp⟩
theorem BJ (h:¬ (1<=n/\a.1.length - n < b.1.length/\a.1.drop n=b.1.take (a.1.length - n))):(rU I J a b (n + 1)).length=(rU I J a b n).length:=by
  rw [tL,if_neg]
  simp only [p1,Bool.and_eq_true,decide_eq_true_eq]
  exact fun q=>h ⟨q.1.1,q.1.2,q.2⟩
theorem Na (hs:same=false) (hn:n + b.1.length<=a.1.length) (h3:(a.1.take (n + b.1.length)).drop n=b.1) :
    (rU I J a b a.1.length).length + (uY I J a b n).length < (pt I J same a b).length/\(pt I J same a b).getD ((rU I J a b a.1.length).length + (uY I J a b n).length) .zero=c2 I J a b n/\(uY I J a b (n + 1)).length=(uY I J a b n).length + 1:=by
  have hp:p2 a.1 b.1 n=true:=by simp [p2,hn,h3]
  have e:uY I J a b (n + 1)=uY I J a b n ++ [c2 I J a b n]:=by rw [qg,if_pos hp]
  have hq:(rU I J a b a.1.length ++ uY I J a b n) ++ [c2 I J a b n] <+: pt I J same a b:=by
    unfold pt
    rw [hs,List.append_assoc,<- e]
    exact (List.prefix_append_right_inj _).2 (Jt O)
  have:=ob (z:=CP.zero) (q:=[]) hq
  rw [List.length_append] at this
  exact ⟨this.1,this.2,by rw [e];simp⟩
theorem PY (h:¬ (a.1.take (n + b.1.length)).drop n=b.1):(uY I J a b (n + 1)).length=(uY I J a b n).length:=by
  rw [qg,if_neg]
  simp only [p2,Bool.and_eq_true,decide_eq_true_eq]
  exact fun q=>h q.2
theorem M9 (h:¬ n + b.1.length<=a.1.length) (hk:n<=k):uY I J a b k=uY I J a b n:=by
  induction k with
  | zero => obtain rfl : n = 0 := by omega
            rfl
  | succ k ih =>
    rcases Nat.lt_or_ge k n with q | q
    · obtain rfl:n=k + 1:=by omega
      rfl
    · rw [qg,if_neg,ih q]
      simp only [p2,Bool.and_eq_true,decide_eq_true_eq]
      exact fun q=>by omega
theorem Ep (hs:same=true):(pt I J same a b).length=(rU I J a b a.1.length).length:=by simp [pt,hs]
theorem IL (hs:same=false) (h:¬ n + b.1.length<=a.1.length) (hn:n<=a.1.length + 1):(pt I J same a b).length=(rU I J a b a.1.length).length + (uY I J a b n).length:=by
  rw [pt,hs,List.length_append,if_neg (by simp),M9 h hn]
theorem FW:(rU I J a b 1).length=0:=by
  rw [BJ O];rfl
end
def Tm (I J:Int) (c:CP):CP:=⟨I,J,c.word,c.u,c.v⟩
abbrev er (L:List (Wd × Wd)) (i j:Nat):List CP:=pt (i:Int) (j:Int) (decide (i=j)) (L.getD i ([],[])) (L.getD j ([],[]))
def yo (n:Nat) (L:List (Wd × Wd)) (i j:Nat):List CP:=if n<=i/\n<=j then [] else (er L i j).map (Tm (nm n i) (nm n j))
def Gb (n:Nat) (L:List (Wd × Wd)) (i k:Nat):List CP:=(List.range k).flatMap (yo n L i)
def qX (n:Nat) (L:List (Wd × Wd)) (i j:Nat):List CP:=((List.range i).flatMap fun i=>Gb n L i L.length) ++ Gb n L i j
def n5 (n:Nat) (L:List (Wd × Wd)):List CP:=(List.range L.length).flatMap fun i=>Gb n L i L.length
def bj (g:Int) (rs:List bg):List CP:=n5 rs.length (bn g rs)
theorem uu (g:Int) (rs:List bg):(bn g rs).length=rs.length + 2 * g.toNat:=by simp [bn]
theorem rD {g:Int} {rs:List bg} (hg:1<=g/\g<=8) (hw:∀ r ∈ rs,0 < r.left.length/\r.left.length<=1000/\r.right.length<=1000):∀ s ∈ bn g rs,0 < s.1.length/\s.1.length<=100000/\s.2.length<=100000:=fun s hs=>by
  rcases List.mem_append.1 hs with h | h
  · obtain ⟨r,hr,rfl⟩:=List.mem_map.1 h
    have:=hw r hr
    exact ⟨this.1,by show r.left.length<=_;omega,by show r.right.length<=_;omega⟩
  · obtain ⟨x,hx,rfl⟩:=List.mem_map.1 h
    exact ⟨Nat.zero_lt_succ _,by show (2:Nat)<=100000;omega,by show (0:Nat)<=100000;omega⟩
theorem qw {bo:Nat} {A B N:AH} {v:Value} {cap:Nat} (r:ct bo N B) (gY:B.get bo=some (.row true [v] cap)) (gZ:A.get bo=some (.row true [v] cap)):∀ b,some b ∈ [some bo,blk v]->N.get b=none:=fun b hb=>by
  simp only [List.mem_cons,List.not_mem_nil,or_false,Option.some.injEq] at hb
  rcases hb with rfl | hb
  · exact r.ow _ (.inl Z)
  · exact r.ow _ (.inr ⟨_,_,gY,hb.symm⟩)
theorem _root_.Go.Proofs.YtjppkekmddjcfaaGreatDoor.V.Fresh.owk {A0 A B:AH} {v:Value} {n:Nat} {xs:List Value} (h:Fresh A0 A v n xs) (k:∀ b o,blk v=some b->A.get b=some o->B.get b=some o):Fresh A0 B v n xs:=⟨by
  rcases h.own with h | ⟨b',m,c,r,rcap,rfl,h2,h3⟩
  · exact .inl h
  · exact .inr ⟨b',m,c,r,rcap,Z,k _ _ Z h2,h3⟩,h.lo⟩
theorem fz {α:Type} {l:List α} {i:Nat} {z:α} (h:i < l.length):l.take i ++ [l.getD i z]=l.take (i + 1):=by
  have e:l.getD i z=l[i]:=by simp [h]
  rw [List.take_succ_eq_append_getElem h,e]
section
variable {n i j k:Nat} {L:List (Wd × Wd)}
theorem sm:qX n L i (j + 1)=qX n L i j ++ yo n L i j:=by simp [qX,Gb,List.range_succ]
theorem Al:qX n L (i + 1) 0=qX n L i L.length:=by simp [qX,Gb,List.range_succ]
theorem Iw:qX n L L.length 0=n5 n L:=by simp [qX,Gb,n5]
theorem yf (h:j<=k):qX n L i j <+: qX n L i k:=by
  induction k with
  | zero => obtain rfl : j = 0 := by omega
            exact List.prefix_refl _
  | succ k ih =>
    rcases Nat.lt_or_ge k j with q | q
    · obtain rfl:j=k + 1:=by omega
      exact List.prefix_refl _
    · rw [sm];exact (ih q).trans (List.prefix_append _ _)
theorem IA (h:i<=k):qX n L i 0 <+: qX n L k 0:=by
  induction k with
  | zero => obtain rfl : i = 0 := by omega
            exact List.prefix_refl _
  | succ k ih =>
    rcases Nat.lt_or_ge k i with q | q
    · obtain rfl:i=k + 1:=by omega
      exact List.prefix_refl _
    · rw [Al];exact (ih q).trans (yf (Nat.zero_le _))
theorem Ej (hi:i < L.length) (hj:j<=L.length):qX n L i j <+: n5 n L:=by
  rw [<- Iw]
  refine (yf hj).trans ?_
  rw [<- Al]
  exact IA hi
theorem Mo (h:n<=i/\n<=j):(qX n L i (j + 1)).length=(qX n L i j).length:=by rw [sm,yo,if_pos h,List.append_nil]
theorem Iz (h:¬ (n<=i/\n<=j)):(qX n L i (j + 1)).length=(qX n L i j).length + (er L i j).length:=by
  rw [sm,yo,if_neg h,List.length_append,List.length_map]
theorem Iy (hi:i < L.length) (hj:j < L.length) (h:¬ (n<=i/\n<=j)) (hk:k < (er L i j).length) :
    (qX n L i j).length + k < (n5 n L).length/\(n5 n L).getD ((qX n L i j).length + k) .zero=Tm (nm n i) (nm n j) ((er L i j).getD k .zero):=by
  obtain ⟨t,ht⟩:=Ej (n:=n) (j:=j + 1) hi hj
  rw [sm,yo,if_neg h] at ht
  rw [<- ht]
  refine ⟨by simp only [List.length_append,List.length_map];omega,?_⟩
  rw [List.append_assoc]
  simp only [List.getD_eq_getElem?_getD]
  rw [List.getElem?_append_right O,Nat.add_sub_cancel_left,List.getElem?_append_left (by simpa using hk),List.getElem?_map,List.getElem?_eq_getElem hk]
  rfl
end
end Go.Proofs.YtjppkekmddjcfaaGreatDoor

namespace Go.Proofs.YtjppkekmddjcfaaGreatDoor
open Go Go.RowKit V
set_option maxRecDepth 100000
theorem vf:dk Tryz.prog 121=some false:=by kernel_rfl
theorem Ju:Tryz.prog.info? 123=some Tryz.t123:=by kernel_rfl
theorem BK:da Tryz.prog 47=some [(0,1),(1,1),(2,1),(3,1),(4,1)]:=by kernel_rfl
theorem ms:dc Tryz.prog 123=some 2:=by kernel_rfl
theorem pc:type_of% @Tryz.underlying121:=@Tryz.underlying121
theorem xU:type_of% @Tryz.underlying123:=@Tryz.underlying123
theorem QW:type_of% @Tryz.underlying47:=@Tryz.underlying47
theorem CW:cx Tryz.prog 123=some (.agg #[.string ⟨⟨[]⟩⟩,.string ⟨⟨[]⟩⟩]):=by kernel_rfl
theorem yc:cx Tryz.prog 47=some (.agg #[.int .i64 0,.int .i64 0,.string ⟨⟨[]⟩⟩,.string ⟨⟨[]⟩⟩,.string ⟨⟨[]⟩⟩]):=by kernel_rfl

theorem zB (x:Nat) (A:AH) (hL:gk A) (hx:x < 16):bF Tryz.prog 114 #[num ((x:Nat):Int)] A (fun v A1=>v=d8 (cB.getD x 0)/\A=A1):=by
 refine gw Tryz.call114 Tryz.func114 Z Tryz.results114 Tryz.ntmps114 Z (fun wf=>?_);have X:=AH.le.refl A;obtain ⟨rwL,capL,gL⟩:=hL;refine an.seq fun _ h2=>.region<|.q Z (ae Z)<|.nil<|h2 _ _<|.seq fun _ h4=>.seq fun _ h6=>.region<|.q Z (ah Z)<|.q Z (ca (b:=0) Z Z) ?_;refine Ops.q Z (ah Z)<|.part (t:=5) Z (fun p7=>?_) (fun p7=>?_)
 ·refine Ops.off Z Z Z Z<|.off Z Z Z Z<|.q Z (aL Z Z)<|.nil<|h6 _ _<|.cond_true Z<|.seq fun _ h9=>.region<|.q Z (ae Z)<|.nil ?_;refine h9 _ _<|.rt (by exact aK Z (⟨by (exfalso;omega),Z⟩))
 refine Ops.on Z Z<|.q Z (ah Z)<|.on Z Z<|.q Z (tQ (b:=16) Z Z)<|.q Z (aW Z Z)<|.nil<|h6 _ _<|.if rfl (fun V=>?_) (fun V=>?_)
 ·refine an.seq fun _ h=>.region<|.q Z (ae Z)<|.nil<|h _ _<|.rt (by exact aK Z (⟨by (exfalso;omega),Z⟩))
 refine an.skip<|h4 _ _<|.seq fun _ D=>.region<|.q Z (ah Z)<|.q Z (iq Se jU Z Z O)<|.q Z (ak IJ Z Z gL (JH hx))<|.q Z (ae Z)<|.nil<|D _ _ ?_;refine an.ret ?_;repeat first | with_reducible refine bJ ?_ | with_reducible refine bx ?_
 exact aK Z (⟨by rfl,Z⟩)

theorem DY (g:Int) (u:Value) (l:List (List UInt8)) (rv:Value) (rs:List bg) (A:AH) (hg:1<=g/\g<=8) (hn:rs.length<=1000000) (hL:gk A) (hu:bH A 1 u (du l)) (hr:bH A 3 rv (cL rs)) (hp:Proofs A rs):bF Tryz.prog 76 #[.agg #[num (g),u,rv]] A (fun v A1=>A.le A1/\A1.wf/\Fresh A A1 v 2 (f5 (bn g rs))):=by
 refine gw Tryz.call76 Tryz.func76 Z Tryz.results76 Tryz.ntmps76 Z (fun wf=>?_);have bY:=AH.le.refl A;obtain ⟨gn,rfl⟩:∃ n:Nat,g=n:=⟨g.toNat,by omega⟩;refine an.seq fun _ h2=>.region<|.l Z (fun _ _ bU _=>dy wf rfl rfl fun A5 b4 ar=>?_);have aD:=bY.trans ar.le;refine bU _ _<|.q Z (ae Z)<|.nil<|h2 _ _<|.seq fun _ h9=>.region<|.q Z (ae Z)<|.nil<|h9 _ _<|.seq fun _ bp=>?_;refine an.seq fun _ br=>.region<|.q Z (aj dE il U Z)<|.q Z (ak iC Z Z ar.get Z)<|.q Z (bE (n:=rs.length) la Z (hr.le aD) O (c8 _))<|.q Z (ah Z)<|.nil<|br _ _<|.block<|.loop (X:=Nat × List (Wd × Wd) × Value) (fun ⟨i,o,s⟩=>[(1,.pointer (some ⟨b4,0,none⟩)),(3,s),(8,rv),(9,num ((rs.length:Nat):Int)),(10,num ((i:Nat):Int))]) (fun ⟨i,o,s⟩ B=>(i<=rs.length/\o=(rs.take i).map (fun r=>(r.left,r.right)))/\A.le B/\Fresh A B s 2 (f5 o)/\B.get b4=some (.row true [num ((gn:Nat):Int),u,rv] 3)/\V.blk s ≠ some b4) (fun ⟨i,o,s⟩=>rs.length - i) (⟨0,[],.slice none 0 0⟩) (pd Z Z Z Z Z) (⟨⟨Nat.zero_le _,by simp⟩,aD,(Fresh.nil A A5 2),ar.get,(fun q=>by cases q)⟩) ?_;rintro ⟨i,o,s⟩ B15 ⟨⟨hi,ho⟩,a6,a3,a1,a2⟩;refine an.wf fun ac=>?_;have hlo:o.length=i:=by rw [ho];simp;omega
 refine an.seq fun _ bu=>.region<|.q Z (ca Z Z)<|.nil<|bu _ _<|.seq fun _ bv=>.if rfl (fun c3=>?_) (fun c3=>?_)
 ·refine an.skip<|bv _ _<|.seq fun _ bA=>.block<|.seq fun _ bB=>.region ?_;obtain ⟨cv,cS,ck,cZ,ch,cX,cV,bl,bV,bm,aF,cc⟩:=bH.at (i:=i) (hr.le a6) Oj O;refine Ops.q Z (aE la fJ Z bl Z bV)<|.q Z (aq s7 fJ Z Z bm (aF.trans (congrArg some (iu O))))<|.l Z (fun _ _ aT _=>cu ac Ij rfl fun A29 cC D=>?_);have aa:=ne_new ac a1 D.lo;have bc:=a3.own.ne_new ac D.lo;have ap:=aX wf (Nat.le_trans a6.n D.lo);have bC:=D.le.get _ _ a1;have aG:=a3.le D.le;have b6:=a6.trans D.le;refine aT _ _<|.l Z (fun _ _ aV _=>bh (cs:=[bi ((rs.getD i .zero).left),bi ((rs.getD i .zero).right),(rs.getD i .zero).pv]) (c':=[bi ((rs.getD i .zero).left),bi ((rs.getD i .zero).right),(rs.getD i .zero).pv]) D.wf rfl rfl rfl rfl fJ D.get (Nat.le_of_ble_eq_true rfl) (jL (hp.get O)) rfl fun A36 a0=>?_);have bD:=a0.keep _ _ aa bC;have aI:=aG.keep a0.keep bc;have b7:=aw b6 wf ap a0.n a0.keep;refine aV _ _<|.nil<|bB _ _<|.region<|.q Z (ah Z)<|.q Z (aj eD eO U Z)<|.q Z (ak fA Z Z a0.get Z)<|.q Z (aj iI eO U Z)<|.q Z (ak fA Z Z a0.get Z)<|.q Z (dr Z (mD xU CW eO Z)) ?_;refine Ops.l Z (fun _ _ aY _=>aQ (c:=[bi ((rs.getD i .zero).left),bi ((rs.getD i .zero).right)]) a0.wf rfl (aJ pc ms CW rfl U U rfl) fun A43 cH a4=>?_);have aC:=a4.le.get _ _ bD;have ai:=aI.le a4.le;have b8:=b7.trans a4.le;refine aY _ _<|.l Z (fun _ _ aZ _=>cQ (ys:=[bi ((rs.getD i .zero).left),bi ((rs.getD i .zero).right)]) rfl rfl pc ms Ju CW rfl U pc (fun _ h=>by cases h) ai.own (bZ (n:=1) a4.get Z) rfl rfl (by show (_ + _) * 32<=_;simp only [dt,List.length_cons,List.length_nil];(try simp only [List.length_append,List.length_cons,List.length_nil]);omega) (by simp only [dt,List.length_cons,List.length_nil];(try simp only [List.length_append,List.length_cons,List.length_nil]);omega) fun A51 c7 a5=>?_);rw [show ([bi ((rs.getD i .zero).left),bi ((rs.getD i .zero).right)]:List Value)=f5 [((rs.getD i .zero).left,(rs.getD i .zero).right)] from rfl,pn] at a5;obtain ⟨aP,b9⟩:=Fresh.grow ai b8 wf a5;have bL:=a5.keep a2 aC;have bb:=a5.ne a2 a4.wf aC;refine aZ _ _<|.q Z (ae Z)<|.nil<|bA _ _<|.region<|.q Z (bz (b:=1) Z Z O)<|.q Z (ah Z)<|.nil ?_;exact ⟨⟨i + 1,o ++ [((rs.getD i .zero).left,(rs.getD i .zero).right)],c7⟩,pd Z Z Z Z Z,Z,⟨⟨by omega,by rw [ho];exact Cw O⟩,b9,aP,bL,bb⟩,O1⟩
 refine an.exit<|bp _ _<|.seq fun _ bM=>.seq fun _ bO=>.region<|.q Z (aj fw f8 U Z)<|.q Z (aj eW c0 U Z)<|.q Z (ak eB Z Z a1 Z)<|.q Z (oc (a:=2) Z Z O)<|.q Z (ah Z) ?_;refine Ops.nil<|bO _ _<|.block<|.loop (X:=Nat × List (Wd × Wd) × Value) (fun ⟨x,o,s⟩=>[(3,s),(26,num ((2 * gn:Nat):Int)),(27,num ((x:Nat):Int))]) (fun ⟨x,o,s⟩ B=>(x<=2 * gn/\o=rs.map (fun r=>(r.left,r.right)) ++ (List.range x).map (fun x=>(SA x,[])))/\A.le B/\Fresh A B s 2 (f5 o)) (fun ⟨x,o,s⟩=>2 * gn - x) (⟨0,rs.map (fun r=>(r.left,r.right)),s⟩) (jo Z Z Z) (⟨⟨Nat.zero_le _,by simp⟩,a6,(cy a3 (congrArg f5 ((by rw [ho,List.take_of_length_le O]))))⟩) ?_;rintro ⟨x,o,s⟩ B67 ⟨⟨hx,ho⟩,a7,a9⟩;refine an.wf fun av=>?_;have hlo:o.length=rs.length + x:=by rw [ho];simp
 refine an.seq fun _ bP=>.region<|.q Z (ca Z Z)<|.nil<|bP _ _<|.seq fun _ bR=>.if rfl (fun c4=>?_) (fun c4=>?_)
 ·refine an.skip<|bR _ _<|.seq fun _ bS=>.block<|.seq fun _ bT=>.region<|.q Z (ah Z)<|.q Z (ae Z)<|.nil<|bT _ _ ?_;refine an.region<|.q Z (ah Z)<|.q Z (ah Z)<|.l Z (fun _ _ b0 _=>ax Z (zB x B67 (hL.le a7) O) ?_);rintro d0 A80 ⟨rfl,rfl⟩;refine b0 _ _<|.q Z (ah Z)<|.q Z (RN Z Z O)<|.l Z (fun _ _ b1 _=>ax Z (zB (x ^^^ 1) B67 (hL.le a7) (by exact Pd O)) ?_);rintro d1 A84 ⟨rfl,rfl⟩;refine b1 _ _<|.l Z (fun _ _ b2 _=>aQ (c:=[d8 (cB.getD x 0),d8 (cB.getD (x ^^^ 1) 0)]) av rfl (aJ cR jU z5 rfl U U rfl) fun A88 cK a8=>?_);have aR:=a9.le a8.le;have ba:=a7.trans a8.le;refine b2 _ _<|.l Z (fun _ _ b3 _=>d5 (s:=[cB.getD x 0,cB.getD (x ^^^ 1) 0]) Z cR u9 u5 (ed (n:=2) a8.get Z (Nat.le_refl _)) ?_);refine b3 _ _<|.q Z (dr Z (mD xU CW eO Z))<|.l Z (fun _ _ b5 _=>aQ (c:=[bi ([cB.getD x 0,cB.getD (x ^^^ 1) 0]),bi ([])]) a8.wf rfl (aJ pc ms CW rfl U U rfl) fun A96 cP ab=>?_);have ag:=aR.le ab.le;have aA:=ba.trans ab.le;refine b5 _ _<|.l Z (fun _ _ az _=>cQ (ys:=[bi ([cB.getD x 0,cB.getD (x ^^^ 1) 0]),bi ([])]) rfl rfl pc ms Ju CW rfl U pc (fun _ h=>by cases h) ag.own (bZ (n:=1) ab.get Z) rfl rfl (by show (_ + _) * 32<=_;simp only [dt,List.length_cons,List.length_nil];(try simp only [List.length_append,List.length_cons,List.length_nil]);omega) (by simp only [dt,List.length_cons,List.length_nil];(try simp only [List.length_append,List.length_cons,List.length_nil]);omega) fun A103 bd ad=>?_);rw [show ([bi ([cB.getD x 0,cB.getD (x ^^^ 1) 0]),bi ([])]:List Value)=f5 [([cB.getD x 0,cB.getD (x ^^^ 1) 0],[])] from rfl,pn] at ad;obtain ⟨ay,aB⟩:=Fresh.grow ag aA wf ad;refine az _ _<|.q Z (ae Z)<|.nil<|bS _ _<|.region<|.q Z (bz (b:=1) Z Z O)<|.q Z (ah Z)<|.nil ?_;exact ⟨⟨x + 1,o ++ [([cB.getD x 0,cB.getD (x ^^^ 1) 0],[])],bd⟩,jo Z Z Z,Z,⟨⟨by omega,by rw [ho,List.range_succ,List.map_append,List.append_assoc];rfl⟩,aB,(cy ay (congrArg f5 ((by rfl))))⟩,O1⟩
 refine an.exit<|bM _ _<|.seq fun _ aS=>.region<|.q Z (ah Z)<|.q Z (ae Z)<|.nil<|aS _ _<|.rt (by exact aK Z (⟨a7,av,cy a9 (congrArg f5 (by rw [ho,show x=2 * gn by omega];rfl))⟩))

theorem sK (g:Int) (u:Value) (l:List (List UInt8)) (rv:Value) (rs:List bg) (i:Nat) (A:AH) (hi:i<=1000000000) (hn:rs.length<=1000000) (hu:bH A 1 u (du l)) (hr:bH A 3 rv (cL rs)):bF Tryz.prog 166 #[.agg #[num (g),u,rv],num ((i:Nat):Int)] A (fun v A1=>v=num (nm rs.length i)/\A.le A1/\A1.wf):=by
 refine jE Tryz.call166 Tryz.func166 Z Tryz.results166 Tryz.ntmps166 Z (fun wf=>?_);have a2:=AH.le.refl A;refine an.seq fun _ h2=>.region<|.l Z (fun _ _ a1 _=>dy wf rfl rfl fun A5 b4 h=>?_);have D:=a2.trans h.le;refine a1 _ _<|.q Z (ae Z)<|.nil<|h2 _ _<|.seq fun _ h9=>.seq fun _ V=>.region<|.q Z (ah Z)<|.q Z (aj dE il U Z)<|.q Z (ak iC Z Z h.get Z) ?_;refine Ops.q Z (bE (n:=rs.length) la Z (hr.le D) O (c8 _))<|.q Z (ca Z Z)<|.nil<|V _ _<|.if rfl (fun a3=>?_) (fun a3=>?_)
 ·refine an.seq fun _ X=>.region<|.q Z (ah Z)<|.q Z (ae Z)<|.nil<|X _ _<|.rt (by exact aK Z (⟨by (rw [nm,if_pos ‹_›];rfl),D,h.wf⟩))
 refine an.skip<|h9 _ _<|.seq fun _ a0=>.region<|.q Z (ah Z)<|.q Z (aj dE il U Z)<|.q Z (ak iC Z Z h.get Z)<|.q Z (bE (n:=rs.length) la Z (hr.le D) O (c8 _))<|.q Z (uZ Z Z O)<|.q Z (uZ Z Z O) ?_;refine Ops.q Z (ae Z)<|.nil<|a0 _ _<|.rt (by exact aK Z (⟨by (rw [nm,if_neg ‹_›];rfl),D,h.wf⟩))

theorem vW (lv:Value) (S:List (Wd × Wd)) (i j:Nat) (A:AH) (hs:bH A 2 lv (f5 S)):bF Tryz.prog 165 #[lv,num ((i:Nat):Int),num ((j:Nat):Int)] A (fun v A1=>∃ b1 b2 b3,v=.func (.func 192) #[] #[.pointer (some ⟨b1,0,none⟩),.pointer (some ⟨b2,0,none⟩),.pointer (some ⟨b3,0,none⟩)]/\A.le A1/\A1.wf/\A1.get b1=some (.row true [lv] 1)/\A1.get b2=some (.row true [num (i:Int)] 1)/\A1.get b3=some (.row true [num (j:Int)] 1)/\A.n<=b1/\A.n<=b2/\A.n<=b3):=by
 refine tm Tryz.call165 Tryz.func165 Z Tryz.results165 Tryz.ntmps165 Z (fun wf=>?_);have a0:=AH.le.refl A;refine an.seq fun _ h2=>.region ?_;obtain ⟨p7,l7,c7,q7,_⟩:=(hs.le a0);subst q7;refine Ops.l Z (fun _ _ ad _=>dy wf rfl rfl fun A5 b4 V=>?_);have a3:=Nat.le_trans a0.n V.lo;have a4:=a0.trans V.le;refine ad _ _<|.l Z (fun _ _ ag _=>dy V.wf rfl rfl fun A11 a7 D=>?_);have a1:=Nat.le_trans a4.n D.lo;have a9:=D.le.get _ _ V.get;have X:=a4.trans D.le;refine ag _ _<|.l Z (fun _ _ a5 _=>dy D.wf rfl rfl fun A17 a8 h=>?_);have a2:=Nat.le_trans X.n h.lo;have aa:=h.le.get _ _ a9;have ab:=h.le.get _ _ D.get;have a6:=X.trans h.le;refine a5 _ _<|.q Z (ae Z)<|.nil<|h2 _ _<|.seq fun _ ac=>.region<|.q Z (ll Z Z)<|.q Z (ae Z)<|.nil<|ac _ _ ?_;refine an.ret ?_;repeat first | with_reducible refine bJ ?_ | with_reducible refine bx ?_
 exact aK Z (⟨b4,a7,a8,Z,a6,h.wf,aa,ab,h.get,a3,a1,a2⟩)

theorem uo (bo lp:Nat) (J:Nat->AH->Prop) (i j:Nat) (S:List (Wd × Wd)) (lv:Value) (M A:AH) (ba bb bc k1 k2 k3:Nat) (w1 w2 w3:Bool) (hP:ct bo M A) (bu:J 0 A) (a0:M.get ba=some (.row w1 [lv] k1)) (a1:M.get bb=some (.row w2 [num (i:Int)] k2)) (a2:M.get bc=some (.row w3 [num (j:Int)] k3)) (hs:bH M 2 lv (f5 S)) (hi:i < S.length) (hj:j < S.length) (hne:∀ s ∈ S,0 < s.1.length/\s.1.length<=100000/\s.2.length<=100000) (hy:∀ k C M2,k < (pt (i:Int) (j:Int) (decide (i=j)) (S.getD i ([],[])) (S.getD j ([],[]))).length->C.wf->J k C->ct bo M2 C->kx Tryz.prog lp #[MR ((pt (i:Int) (j:Int) (decide (i=j)) (S.getD i ([],[])) (S.getD j ([],[]))).getD k .zero)] C (fun v C2=>v=.bool true/\J (k + 1) C2/\C2.wf/\ct bo M2 C2)):bF Tryz.prog 192 #[.func (.yield lp) #[] #[],.pointer (some ⟨ba,0,none⟩),.pointer (some ⟨bb,0,none⟩),.pointer (some ⟨bc,0,none⟩)] A (fun v A1=>J (pt (i:Int) (j:Int) (decide (i=j)) (S.getD i ([],[])) (S.getD j ([],[]))).length A1/\A1.wf/\ct bo M A1):=by
 refine Tf Tryz.call192 Tryz.func192 Z Tryz.results192 Tryz.ntmps192 Z (fun wf=>?_);have V:=hP.le;have di:=hne _ (bq (d:=(([],[]):Wd × Wd)) hi);have dj:=hne _ (bq (d:=(([],[]):Wd × Wd)) hj);refine an.seq fun _ h2=>.drawn [0,1,2,3,4,5,6,7,8,9,10,11] mixed Y Y Z<|.q Z Z Z (ak vf Z Z (V.get _ _ a0) Z)<|.q Z Z Z (ak eB Z Z (V.get _ _ a1) Z) ?_;obtain ⟨b3,f3,e5,r3,e1,n3,k3,e3,l3,g3,cZ,aS⟩:=bH.at (i:=i) (hs.le V) ON O;refine be.q Z Z Z (aE pc ms Z e3 Z l3)<|.q Z Z Z (iq (i:=0) xU eO Z Z U)<|.q Z Z Z (ak fA Z Z g3 ((aS 0 U).trans (wh O)))<|.q Z Z Z (ak vf Z Z (V.get _ _ a0) Z)<|.q Z Z Z (ak eB Z Z (V.get _ _ a2) Z) ?_;obtain ⟨b4,f4,e6,r4,e2,n4,k4,e4,l4,g4,d0,aT⟩:=bH.at (i:=j) (hs.le V) ON O;refine be.q Z Z Z (aE pc ms Z e4 Z l4)<|.q Z Z Z (iq (i:=0) xU eO Z Z U)<|.q Z Z Z (ak fA Z Z g4 ((aT 0 U).trans (wh O)))<|.q Z Z Z (ae Z)<|.q Z Z Z (ae Z)<|.done<|h2 _ _<|.seq fun _ h6=>.seq fun _ h8=>.region ?_;refine Ops.q Z (ae Z)<|.nil<|h8 _ _<|.block<|.loop (X:=Nat) (fun k=>[(0,.func (.yield lp) #[] #[]),(1,.pointer (some ⟨ba,0,none⟩)),(2,.pointer (some ⟨bb,0,none⟩)),(3,.pointer (some ⟨bc,0,none⟩)),(5,bi ((S.getD i ([],[])).1)),(6,bi ((S.getD j ([],[])).1)),(7,num ((k:Nat):Int))]) (fun k B=>(1<=k/\k<=(S.getD i ([],[])).1.length)/\M.le B/\(J (rU (i:Int) (j:Int) (S.getD i ([],[])) (S.getD j ([],[])) k).length B/\ct bo M B)) (fun k=>(S.getD i ([],[])).1.length - k) 1 (Dh Z Z Z Z Z Z Z) (⟨⟨Nat.le_refl _,by omega⟩,V,⟨(by rw [FW];exact bu),hP⟩⟩) ?_;rintro k B10 ⟨⟨bv,ag⟩,D,hJk,hPk⟩;refine an.wf fun aR=>.seq fun _ b7=>.seq fun _ b8=>.region<|.q Z (ah Z)<|.q Z (ah Z)<|.q Z (cF u9 Z)<|.q Z (ca Z Z)<|.nil<|b8 _ _ ?_;refine an.if rfl (fun bL=>?_) (fun bL=>?_)
 ·refine an.skip<|b7 _ _<|.seq fun _ a4=>.block<|.seq fun _ b9=>.region<|.q Z (ah Z)<|.q Z (cF u9 Z)<|.q Z (ah Z)<|.q Z (gh Z Z O) ?_;refine Ops.q Z (ae Z)<|.nil<|b9 _ _<|.seq fun _ ab=>.drawn [0,1,2,3,4,5,6,7,8,9,10,11,12] mixed Y Y Z<|.q Z Z Z (ah Z)<|.q Z Z Z (ah Z)<|.q Z Z Z (cF u9 Z)<|.q Z Z Z (ca Z Z)<|.q Z Z Z (ah Z) ?_;refine be.part (t:=34) Z (fun bM=>?_) (fun bM=>?_)
  ·refine be.qOn Z Z Z Z Z (ah Z)<|.qOn Z Z Z Z Z (ah Z)<|.qOn Z Z Z Z Z (vI u9 Z Z O)<|.qOn Z Z Z Z Z (ah Z)<|.qOn Z Z Z Z Z (ah Z)<|.qOn Z Z Z Z Z (zn u9 Z Z O)<|.qOn Z Z Z Z Z (mn Z Z)<|.q Z Z Z (aL Z Z)<|.done<|ab _ _ ?_;refine an.if rfl (fun bO=>?_) (fun bO=>?_)
   ·refine an.seq fun _ bd=>?_;have a9:=NA (I:=i) (J:=j) (same:=decide (i=j)) (a:=(S.getD i ([],[]))) (b:=(S.getD j ([],[]))) (n:=k) O O O ‹_›;have a7:=hy _ B10 M a9.1 aR hJk hPk;rw [a9.2.1] at a7;refine an.drawnYield [0,1,2,3,4,5,6,7,8,9,10,11,12,13,14,15,16,17,18,19,20,21,22,23,24,25,26,27,28] 27 28 rfl Z Z Z Y Y Z mixed Y Y Z (a7)<|.q Z Z Z (ah Z)<|.q Z Z Z (ak eB Z Z (D.get _ _ a1) Z)<|.q Z Z Z (ak eB Z Z (D.get _ _ a2) Z)<|.q Z Z Z (ah Z)<|.q Z Z Z (ah Z)<|.q Z Z Z (ah Z)<|.q Z Z Z (vI u9 Z Z O)<|.q Z Z Z (rX Z Z Or)<|.q Z Z Z (ak vf Z Z (D.get _ _ a0) Z) ?_;refine be.q Z Z Z (ak eB Z Z (D.get _ _ a1) Z) ?_;obtain ⟨cP,d1,ch,dV,c3,dI,dv,aV,bA,b1,bT,ai⟩:=bH.at (i:=i) (hs.le D) ON O;refine be.q Z Z Z (aE pc ms Z aV Z bA)<|.q Z Z Z (iq (i:=1) xU eO Z Z U)<|.q Z Z Z (ak fA Z Z b1 ((ai 1 U).trans (o4 O)))<|.q Z Z Z (ah Z)<|.q Z Z Z (ah Z)<|.q Z Z Z (vI u9 Z Z O)<|.q Z Z Z (rX Z Z Or)<|.q Z Z Z (ah Z)<|.q Z Z Z (ah Z)<|.q Z Z Z (zn u9 Z Z O) ?_;refine be.q Z Z Z (ak vf Z Z (D.get _ _ a0) Z)<|.q Z Z Z (ak eB Z Z (D.get _ _ a2) Z) ?_;obtain ⟨cS,d2,ck,dW,c4,dJ,dw,aY,bB,b2,bU,ap⟩:=bH.at (i:=j) (hs.le D) ON O;refine be.q Z Z Z (aE pc ms Z aY Z bB)<|.q Z Z Z (iq (i:=1) xU eO Z Z U)<|.q Z Z Z (ak fA Z Z b2 ((ap 1 U).trans (o4 O)))<|.q Z Z Z (rX Z Z Or)<|.q Z Z Z (dr Z (bI QW yc BK Z))<|.q Z Z Z (ah Z)<|.q Z Z Z (ah Z)<|.done ?_;refine ⟨rfl,rfl,rfl,rfl,fun e7 A30 aF=>?_⟩;obtain ⟨ay,aA,cH,a5⟩:=aF;refine ⟨ay,?_⟩;have aI:=a5.le;have aC:J (rU (i:Int) (j:Int) (S.getD i ([],[])) (S.getD j ([],[])) (k + 1)).length A30:=by rw [a9.2.2];exact aA
    refine bd _ _<|.cond_false Z<|.skip<|a4 _ _<|.region<|.q Z (ah Z)<|.q Z (bz (b:=1) Z Z O)<|.q Z (ae Z)<|.nil ?_;exact ⟨k + 1,Dh Z Z Z Z Z Z Z,Z,⟨⟨by omega,by omega⟩,aI,⟨aC,a5⟩⟩,O1⟩
   refine an.skip<|a4 _ _<|.region<|.q Z (ah Z)<|.q Z (bz (b:=1) Z Z O)<|.q Z (ae Z)<|.nil ?_;exact ⟨k + 1,Dh Z Z Z Z Z Z Z,Z,⟨⟨by omega,by omega⟩,D,⟨(by rw [BJ (fun q=>by exact absurd q.2.2 ‹_›)];exact hJk),hPk⟩⟩,O1⟩
  refine be.qOff Z Z Z Z Z Z<|.qOff Z Z Z Z Z Z<|.qOff Z Z Z Z Z Z<|.qOff Z Z Z Z Z Z<|.qOff Z Z Z Z Z Z<|.qOff Z Z Z Z Z Z<|.qOff Z Z Z Z Z Z<|.q Z Z Z (aW Z Z)<|.done<|ab _ _ ?_;refine an.cond_false Z<|.skip<|a4 _ _<|.region<|.q Z (ah Z)<|.q Z (bz (b:=1) Z Z O)<|.q Z (ae Z)<|.nil ?_;exact ⟨k + 1,Dh Z Z Z Z Z Z Z,Z,⟨⟨by omega,by omega⟩,D,⟨(by rw [BJ (fun q=>by exact absurd q.2.1 ‹_›)];exact hJk),hPk⟩⟩,O1⟩
 refine an.exit<|h6 _ _<|.seq fun _ bl=>.region<|.q Z (ae Z)<|.nil<|bl _ _<|.block<|.loop (X:=Nat) (fun k=>[(0,.func (.yield lp) #[] #[]),(1,.pointer (some ⟨ba,0,none⟩)),(2,.pointer (some ⟨bb,0,none⟩)),(3,.pointer (some ⟨bc,0,none⟩)),(5,bi ((S.getD i ([],[])).1)),(6,bi ((S.getD j ([],[])).1)),(9,num ((k:Nat):Int))]) (fun k B=>(k<=(S.getD i ([],[])).1.length + 1/\(i=j->k=0))/\M.le B/\(J ((rU (i:Int) (j:Int) (S.getD i ([],[])) (S.getD j ([],[])) (S.getD i ([],[])).1.length).length + (uY (i:Int) (j:Int) (S.getD i ([],[])) (S.getD j ([],[])) k).length) B/\ct bo M B)) (fun k=>(S.getD i ([],[])).1.length + 1 - k) 0 (Dh Z Z Z Z Z Z Z) (⟨⟨Nat.zero_le _,fun _=>rfl⟩,D,⟨(by rw [show k=(S.getD i ([],[])).1.length by omega] at hJk;exact hJk),hPk⟩⟩) ?_;rintro k B38 ⟨⟨bv,ag⟩,h,hJk,hPk⟩;refine an.wf fun a3=>.seq fun _ bm=>.seq fun _ ac=>.region<|.q Z (ak eB Z Z (h.get _ _ a1) Z)<|.q Z (ak eB Z Z (h.get _ _ a2) Z)<|.q Z (eI Z Z)<|.q Z (ah Z)<|.part (t:=75) Z (fun bP=>?_) (fun bP=>?_)
 ·refine Ops.on Z Z<|.q Z (ah Z)<|.on Z Z<|.q Z (ah Z)<|.on Z Z<|.q Z (cF u9 Z)<|.on Z Z<|.q Z (bz Z Z O)<|.on Z Z<|.q Z (ah Z) ?_;refine Ops.on Z Z<|.q Z (cF u9 Z)<|.on Z Z<|.q Z (qy Z Z)<|.q Z (aL Z Z)<|.nil<|ac _ _<|.if rfl (fun bR=>?_) (fun bR=>?_)
  ·refine an.skip<|bm _ _<|.seq fun _ ad=>.block<|.seq fun _ bp=>.region<|.q Z (ah Z)<|.q Z (ah Z)<|.q Z (ah Z)<|.q Z (ah Z) ?_;refine Ops.q Z (cF u9 Z)<|.q Z (bz Z Z O)<|.q Z (Tl u9 Z Z Z O)<|.q Z (ah Z)<|.q Z (mn Z Z)<|.nil<|bp _ _<|.if rfl (fun bS=>?_) (fun bS=>?_)
   ·refine an.seq fun _ br=>?_;have aa:=Na (I:=i) (J:=j) (same:=decide (i=j)) (a:=(S.getD i ([],[]))) (b:=(S.getD j ([],[]))) (n:=k) (decide_eq_false ‹_›) O ‹_›;have a8:=hy _ B38 M aa.1 a3 hJk hPk;rw [aa.2.1] at a8;refine an.drawnYield [0,1,2,3,4,5,6,7,8,9,10,11,12,13,14,15,16,17,18,19,20,21,22,23,24,25,26,27] 26 27 rfl Z Z Z Y Y Z mixed Y Y Z (a8)<|.q Z Z Z (ah Z)<|.q Z Z Z (ak eB Z Z (h.get _ _ a1) Z)<|.q Z Z Z (ak eB Z Z (h.get _ _ a2) Z)<|.q Z Z Z (ah Z)<|.q Z Z Z (ak vf Z Z (h.get _ _ a0) Z)<|.q Z Z Z (ak eB Z Z (h.get _ _ a1) Z) ?_;obtain ⟨cV,d3,cv,dZ,c7,dO,dz,aZ,bC,b5,bV,ar⟩:=bH.at (i:=i) (hs.le h) ON O;refine be.q Z Z Z (aE pc ms Z aZ Z bC)<|.q Z Z Z (iq (i:=1) xU eO Z Z U)<|.q Z Z Z (ak fA Z Z b5 ((ar 1 U).trans (o4 O)))<|.q Z Z Z (ah Z)<|.q Z Z Z (ah Z)<|.q Z Z Z (zn u9 Z Z O)<|.q Z Z Z (ak vf Z Z (h.get _ _ a0) Z)<|.q Z Z Z (ak eB Z Z (h.get _ _ a2) Z) ?_;obtain ⟨cX,dd,cC,e0,cc,dS,dD,b0,bD,b6,bY,av⟩:=bH.at (i:=j) (hs.le h) ON O;refine be.q Z Z Z (aE pc ms Z b0 Z bD)<|.q Z Z Z (iq (i:=1) xU eO Z Z U)<|.q Z Z Z (ak fA Z Z b6 ((av 1 U).trans (o4 O)))<|.q Z Z Z (rX Z Z Or)<|.q Z Z Z (ah Z)<|.q Z Z Z (ah Z)<|.q Z Z Z (ah Z)<|.q Z Z Z (cF u9 Z)<|.q Z Z Z (bz Z Z O)<|.q Z Z Z (vI u9 Z Z O) ?_;refine be.q Z Z Z (rX Z Z Or)<|.q Z Z Z (dr Z (bI QW yc BK Z))<|.q Z Z Z (ah Z)<|.q Z Z Z (ah Z)<|.done ?_;refine ⟨rfl,rfl,rfl,rfl,fun e9 A56 aG=>?_⟩;obtain ⟨az,aB,cK,a6⟩:=aG;refine ⟨az,?_⟩;have aP:=a6.le;have aD:J ((rU (i:Int) (j:Int) (S.getD i ([],[])) (S.getD j ([],[])) (S.getD i ([],[])).1.length).length + (uY (i:Int) (j:Int) (S.getD i ([],[])) (S.getD j ([],[])) (k + 1)).length) A56:=by rw [aa.2.2];exact aB
    refine br _ _<|.cond_false Z<|.skip<|ad _ _<|.region<|.q Z (ah Z)<|.q Z (bz (b:=1) Z Z O)<|.q Z (ae Z)<|.nil ?_;exact ⟨k + 1,Dh Z Z Z Z Z Z Z,Z,⟨⟨by omega,fun q=>absurd q ‹_›⟩,aP,⟨aD,a6⟩⟩,O1⟩
   refine an.skip<|ad _ _<|.region<|.q Z (ah Z)<|.q Z (bz (b:=1) Z Z O)<|.q Z (ae Z)<|.nil ?_;exact ⟨k + 1,Dh Z Z Z Z Z Z Z,Z,⟨⟨by omega,fun q=>absurd q ‹_›⟩,h,⟨(by rw [PY ‹_›];exact hJk),hPk⟩⟩,O1⟩
  refine an.exit ?_;repeat first | with_reducible refine bJ ?_ | with_reducible refine bx ?_
  repeat first | with_reducible refine eF ?_ | with_reducible refine d7 ?_ | with_reducible refine dH U ?_ | with_reducible refine dK ?_ | with_reducible refine db ?_
  exact vK (vs:=[]) Z (⟨by (rw [IL (decide_eq_false ‹_›) O O];exact hJk),a3,hPk⟩)
 refine Ops.off Z Z Z Z<|.off Z Z Z Z<|.off Z Z Z Z<|.off Z Z Z Z<|.off Z Z Z Z<|.off Z Z Z Z<|.off Z Z Z Z<|.q Z (aW Z Z)<|.nil<|ac _ _ ?_;refine an.cond_false Z<|.exit ?_;repeat first | with_reducible refine bJ ?_ | with_reducible refine bx ?_
 repeat first | with_reducible refine eF ?_ | with_reducible refine d7 ?_ | with_reducible refine dH U ?_ | with_reducible refine dK ?_ | with_reducible refine db ?_
 exact vK (vs:=[]) Z (⟨by (rw [Ep (decide_eq_true (Decidable.not_not.1 ‹_›))];rw [ag (Decidable.not_not.1 ‹_›)] at hJk;exact hJk),a3,hPk⟩)
end Go.Proofs.YtjppkekmddjcfaaGreatDoor

namespace Go.Proofs.YtjppkekmddjcfaaGreatDoor
open Go Go.RowKit V
set_option maxRecDepth 100000
theorem Pm:dk Tryz.prog 202=some false:=by kernel_rfl
theorem sg:dk Tryz.prog 47=some true:=by kernel_rfl
theorem Mz:dk Tryz.prog 78=some false:=by kernel_rfl
theorem Jk:dT Tryz.prog 47 0=some (3,0):=by kernel_rfl
theorem Jl:dT Tryz.prog 47 1=some (3,1):=by kernel_rfl
theorem Ro:Tryz.prog.info? 47=some Tryz.t47:=by kernel_rfl
theorem jl:dc Tryz.prog 47=some 5:=by kernel_rfl
theorem R8:dc Tryz.prog 78=some 1:=by kernel_rfl
theorem Rc:type_of% @Tryz.underlying78:=@Tryz.underlying78
theorem Tu:cx Tryz.prog 78=some (.slice none 0 0):=by kernel_rfl

theorem Lu (bo lp:Nat) (J:Nat->AH->Prop) (g:Int) (u:Value) (l:List (List UInt8)) (rv:Value) (rs:List bg) (M A:AH) (bs k1:Nat) (w1:Bool) (hP:ct bo M A) (hO:J 0 A) (gbs:M.get bs=some (.row w1 [num g,u,rv] k1)) (hL:gk M) (hu:bH M 1 u (du l)) (hr:bH M 3 rv (cL rs)) (hp:Proofs M rs) (hg:1<=g/\g<=8) (hn:rs.length<=1000000) (hw:∀ r ∈ rs,0 < r.left.length/\r.left.length<=1000/\r.right.length<=1000) (hclo:∀ i C C2,J i C->C2.wf->C.n<=C2.n->(∀ b o,(b < A.n\/lR bo C b)->C.get b=some o->C2.get b=some o)->J i C2) (hv:∀ i C,J i C->∃ v cap,C.get bo=some (.row true [v] cap)/\∀ b,blk v=some b->∃ o,C.get b=some o) (hbo:bo < A.n) (hy:∀ k C M2,k < (bj g rs).length->C.wf->J k C->ct bo M2 C->kx Tryz.prog lp #[MR ((bj g rs).getD k .zero)] C (fun v C2=>v=.bool true/\J (k + 1) C2/\C2.wf/\ct bo M2 C2)):bF Tryz.prog 164 #[.func (.yield lp) #[] #[],.pointer (some ⟨bs,0,none⟩)] A (fun v A1=>J (bj g rs).length A1/\A1.wf/\ct bo M A1):=by
  refine enterM (e:=[(0,.func (.yield lp) #[] #[]),(1,.pointer (some ⟨bs,0,none⟩))]) (args:=[.func (.yield lp) #[] #[],.pointer (some ⟨bs,0,none⟩)]) Tryz.call164 Tryz.func164 Z Tryz.results164 Tryz.ntmps164 Z Z Z (fun wf=>?_)
  have hS:=hP.le
  obtain ⟨hT,nN,e6,fV⟩:=hv _ _ hO
  have hQ:=AH.le.refl A
  have lF:i3 bo A A []:=i3.nil
  have lT:A.n<=A.n:=Nat.le_refl _
  have hne:=rD hg hw
  have hsl:=uu g rs
  refine an.seq fun K1 h2=>.region<|.l Z (fun _ _ lP _=>dy wf rfl rfl fun A5 b4 eC=>?_)
  have gl:=aX wf (Nat.le_trans hQ.n eC.lo)
  have n4:=Nat.le_trans hS.n eC.lo
  have dI:=hS.trans eC.le
  have hR:=hQ.trans eC.le
  refine lP _ _<|.nil<|h2 _ _<|.seq fun K9 l1=>.region<|.q Z (aq dL dx Z Z (dI.get _ _ gbs) Z)<|.l Z (fun _ _ k4 _=>ax Z (DY ((g)) u l rv rs A5 hg hn (hL.le dI) (hu.le dI) (hr.le dI) (hp.le dI)) ?_)
  rintro dJ A13 ⟨f1,f3,eX⟩
  have l2:=f1.get _ _ eC.get
  have aZ:=hR.trans f1
  have fi:=eX.base dI
  have kV:=Fp hR eX
  refine k4 _ _<|.q Z (ae Z)<|.nil<|l1 _ _<|.seq fun K21 l3=>.region<|.q Z (ah Z)<|.q Z (bE (n:=(bn ((g)) rs).length) pc Z fi.slc O (pO _))<|.q Z (ah Z)<|.nil ?_
  refine l3 _ _<|.block ?_
  have iV:=hclo _ _ _ hO f3 aZ.n (fun b o _ h=>aZ.get b o h)
  have fl:=aZ.get _ _ e6
  have nq:=nP aZ fV
  have j3:=hP.up aZ e6
  have km:=Nat.le_trans lT aZ.n
  have iH:=lF.up aZ e6
  have bu:=ct.full fl f3
  have aR:=j3.sub fl
  have d2:=aR.get _ _ gbs
  have d1:=fF l2 e6 fV gl
  have aG:=pK fi e6 fV kV
  have ey:=hu.le aR
  have dD:=hr.le aR
  have fE:=hL.le aR
  have fM:A.n<=(A13.hide [some bo,blk hT]).n:=km
  generalize hM24:(A13.hide [some bo,blk hT])=M24 at bu aR d2 d1 aG ey dD fE fM
  refine an.loopD (X:=Nat × List Nat) (fun ⟨i,Ds⟩=>[(1,.pointer (some ⟨bs,0,none⟩)),(2,.pointer (some ⟨b4,0,none⟩)),(3,dJ),(10,num (((bn ((g)) rs).length:Nat):Int)),(11,num ((i:Nat):Int))]) (fun ⟨i,Ds⟩=>Ds.map V.mark) (fun ⟨i,Ds⟩ B=>(i<=(bn g rs).length)/\M24.le B/\i3 bo A B Ds/\(J (qX rs.length (bn g rs) i 0).length B/\ct bo M24 B)) (fun ⟨i,Ds⟩=>(bn g rs).length - i) (⟨0,[]⟩) (pd Z Z Z Z Z) Z (⟨(Nat.zero_le _),bu.le,iH,⟨(by rw [show (qX rs.length (bn g rs) 0 0).length=0 from rfl];exact iV),bu⟩⟩) ?_
  rintro ⟨i,Ds⟩ B26 ⟨hl_i,e4,bM,hJ_i,hP_i⟩
  refine an.wf fun eT=>?_
  obtain ⟨g5,nj,dS,fX⟩:=hv _ _ hJ_i
  have fS:=AH.le.refl B26
  have kp:=Nat.le_trans fM e4.n
  refine an.seq fun K29 l4=>.region<|.q Z (ca Z Z)<|.nil<|l4 _ _<|.seq fun K31 l6=>.if rfl (fun me=>?_) (fun me=>?_)
  ·
    refine an.skip<|l6 _ _<|.seq fun K34 l7=>.block<|.seq fun K36 l9=>.region<|.q Z (ah Z)<|.l Z (fun _ _ k6 _=>cu eT z3 rfl fun A40 f7 b2=>?_)
    have fn:=aX bu.wf (Nat.le_trans e4.n b2.lo)
    have e7:=aX eT (Nat.le_trans fS.n b2.lo)
    have m2:=Nat.le_trans e4.n b2.lo
    have kL:=e4.trans b2.le
    have kD:=fS.trans b2.le
    refine k6 _ _<|.l Z (fun _ _ k7 _=>bh (cs:=[num ((i:Nat):Int)]) (c':=[num ((i:Nat):Int)]) b2.wf rfl rfl rfl rfl c0 b2.get (Nat.le_of_ble_eq_true rfl) rfl rfl fun A45 b7=>?_)
    have b0:=aw kD eT e7 b7.n b7.keep
    have kM:=aw kL bu.wf fn b7.n b7.keep
    refine k7 _ _<|.nil<|l9 _ _<|.seq fun K49 lb=>.region<|.q Z (ah Z)<|.q Z (bE (n:=(bn ((g)) rs).length) pc Z (aG.le kM) O (pO _))<|.q Z (ah Z)<|.nil<|lb _ _ ?_
    refine an.block ?_
    have iX:=hclo _ _ _ hJ_i b7.wf b0.n (fun b o _ h=>b0.get b o h)
    have fm:=b0.get _ _ dS
    have nv:=nP b0 fX
    have j4:=hP_i.up b0 dS
    have kv:=Nat.le_trans kp b0.n
    have iN:=bM.up b0 dS
    have aS:=ct.full fm b7.wf
    have a7:=j4.sub fm
    have ar:=a7.get _ _ d2
    have bv:=a7.get _ _ d1
    have a4:=fF b7.get dS fX e7
    have cC:=ey.le a7
    have av:=dD.le a7
    have a5:=aG.le a7
    have eQ:=fE.le a7
    have e0:A.n<=(A45.hide [some bo,blk g5]).n:=kv
    generalize hM52:(A45.hide [some bo,blk g5])=M52 at aS a7 ar bv a4 cC av a5 eQ e0
    refine an.loopD (X:=Nat × List Nat) (fun ⟨j,Ds⟩=>[(1,.pointer (some ⟨bs,0,none⟩)),(2,.pointer (some ⟨b4,0,none⟩)),(3,dJ),(4,.pointer (some ⟨f7,0,none⟩)),(10,num (((bn ((g)) rs).length:Nat):Int)),(11,num ((i:Nat):Int)),(15,num (((bn ((g)) rs).length:Nat):Int)),(16,num ((j:Nat):Int))]) (fun ⟨j,Ds⟩=>Ds.map V.mark) (fun ⟨j,Ds⟩ B=>(j<=(bn g rs).length)/\M52.le B/\i3 bo A B Ds/\(J (qX rs.length (bn g rs) i j).length B/\ct bo M52 B)) (fun ⟨j,Ds⟩=>(bn g rs).length - j) (⟨0,Ds⟩) (wJ Z Z Z Z Z Z Z Z) Z (⟨(Nat.zero_le _),aS.le,iN,⟨iX,aS⟩⟩) ?_
    rintro ⟨j,Ds⟩ B54 ⟨hl_j,cK,bO,hJ_j,hP_j⟩
    refine an.wf fun aA=>?_
    obtain ⟨e5,nk,D,a9⟩:=hv _ _ hJ_j
    have fT:=AH.le.refl B54
    have eS:=Nat.le_trans e0 cK.n
    refine an.seq fun K57 lt=>.region<|.q Z (ca Z Z)<|.nil<|lt _ _<|.seq fun K59 lw=>.if rfl (fun mm=>?_) (fun mm=>?_)
    ·
      refine an.skip<|lw _ _<|.seq fun K62 ft=>.block<|.seq fun K64 lB=>.region<|.q Z (ah Z)<|.l Z (fun _ _ k9 _=>cu aA z3 rfl fun A68 eV b3=>?_)
      have fo:=aX aS.wf (Nat.le_trans cK.n b3.lo)
      have bU:=aX aA (Nat.le_trans fT.n b3.lo)
      have m3:=Nat.le_trans cK.n b3.lo
      have kP:=cK.trans b3.le
      have kK:=fT.trans b3.le
      refine k9 _ _<|.l Z (fun _ _ kc _=>bh (cs:=[num ((j:Nat):Int)]) (c':=[num ((j:Nat):Int)]) b3.wf rfl rfl rfl rfl c0 b3.get (Nat.le_of_ble_eq_true rfl) rfl rfl fun A73 ai=>?_)
      have a1:=aw kK aA bU ai.n ai.keep
      have ag:=aw kP aS.wf fo ai.n ai.keep
      refine kc _ _<|.nil<|lB _ _<|.seq fun K77 hM=>.seq fun K79 hN=>.region<|.q Z (ak eB Z Z (ag.get _ _ a4) Z)<|.q Z (aj dE il U Z)<|.q Z (ak iC Z Z (ag.get _ _ ar) Z)<|.q Z (bE (n:=rs.length) la Z (av.le ag) O (c8 _)) ?_
      refine Ops.q Z (tQ Z Z)<|.q Z (ah Z)<|.part (t:=24) Z (fun mt=>?_) (fun mt=>?_)
      ·
        refine Ops.on Z Z<|.q Z (ak eB Z Z ai.get Z)<|.on Z Z<|.q Z (aj dE il U Z)<|.on Z Z<|.q Z (ak iC Z Z (ag.get _ _ ar) Z)<|.on Z Z<|.q Z (bE (n:=rs.length) la Z (av.le ag) O (c8 _))<|.on Z Z<|.q Z (tQ Z Z) ?_
        refine Ops.q Z (aL Z Z)<|.nil<|hN _ _<|.if rfl (fun mv=>?_) (fun mv=>?_)
        ·
          refine an.exit<|ft _ _<|.region<|.q Z (bz (b:=1) Z Z O)<|.q Z (ah Z)<|.nil ?_
          have j1:=hclo _ _ _ hJ_j ai.wf a1.n (fun b o _ h=>a1.get b o h)
          have nl:=a1.get _ _ D
          have nB:=nP a1 a9
          have k0:=hP_j.up a1 D
          have nn:=Nat.le_trans eS a1.n
          have iS:=bO.up a1 D
          exact ⟨⟨j + 1,Ds⟩,wJ Z Z Z Z Z Z Z Z,Z,⟨O,ag,iS,⟨(by rw [Mo ⟨by omega,by omega⟩];exact j1),k0⟩⟩,O1⟩
        ·
          refine an.skip<|hM _ _<|.seq fun K84 lC=>.region<|.q Z (ah Z)<|.q Z (ak eB Z Z (ag.get _ _ a4) Z)<|.q Z (ak eB Z Z ai.get Z)<|.l Z (fun _ _ kk _=>ax Z (vW dJ (bn ((g)) rs) i j A73 (a5.le ag)) ?_)
          rintro nO A88 ⟨g9,gc,ge,rfl,f2,bT,dv,dw,dz,dd,di,dj⟩
          have lE:=f2.get _ _ ai.get
          have b1:=a1.trans f2
          have hrwa:=dv
          have hrwb:=dw
          have hrwc:=dz
          have hloa:=dd
          have hlob:=di
          have hloc:=dj
          have eG:=aX aA (Nat.le_trans a1.n dd)
          have eL:=aX aA (Nat.le_trans a1.n di)
          have eN:=aX aA (Nat.le_trans a1.n dj)
          refine kk _ _<|.nil<|lC _ _<|.block ?_
          have j2:=hclo _ _ _ hJ_j bT b1.n (fun b o _ h=>b1.get b o h)
          have dV:=b1.get _ _ D
          have nC:=nP b1 a9
          have k2:=hP_j.up b1 D
          have kC:=Nat.le_trans eS b1.n
          have iT:=bO.up b1 D
          have ay:=ct.full dV bT
          have a2:=k2.sub dV
          have a8:=a2.get _ _ ar
          have d3:=a2.get _ _ bv
          have bY:=a2.get _ _ a4
          have aV:=fF lE D a9 bU
          have ba:=fF dv D a9 eG
          have bb:=fF dw D a9 eL
          have bc:=fF dz D a9 eN
          have cH:=cC.le a2
          have bB:=av.le a2
          have bD:=a5.le a2
          have fI:=eQ.le a2
          have e1:A.n<=(A88.hide [some bo,blk e5]).n:=kC
          generalize hM94:(A88.hide [some bo,blk e5])=M94 at ay a2 a8 d3 bY aV ba bb bc cH bB bD fI e1
          refine an.rangeOwn (M:=M94) bo (er (bn g rs) i j).length (fun k=>[MR ((er (bn g rs) i j).getD k .zero)]) (fun k B=>J ((qX rs.length (bn g rs) i j).length + k) B/\ct bo M94 B) (fun k b6=>[(6,.pointer (some ⟨b6,0,none⟩)),(1,.pointer (some ⟨bs,0,none⟩)),(2,.pointer (some ⟨b4,0,none⟩)),(4,.pointer (some ⟨f7,0,none⟩)),(5,.pointer (some ⟨eV,0,none⟩)),(20,.pointer (some ⟨bs,2,none⟩)),(26,.pointer (some ⟨bs,2,none⟩))]) (fun k=>.row true [num (((er (bn g rs) i j).getD k .zero).i),num (((er (bn g rs) i j).getD k .zero).j),bi (((er (bn g rs) i j).getD k .zero).word),bi (((er (bn g rs) i j).getD k .zero).u),bi (((er (bn g rs) i j).getD k .zero).v)] 5) Z Tryz.call192 (fun _=>rfl) U (bT _ _ dV) ay ?_ ?_ ?_ ?_ ?_ ?_ ?_
          · rintro k B B2 ⟨i1,i2⟩ dO ex hk
            obtain ⟨v,cc,gq,_⟩:=hv _ _ i1
            exact ⟨hclo _ _ _ i1 dO ex (fun b o hb h=>hk b o (hb.imp (fun q=>Nat.lt_of_lt_of_le q (Nat.le_trans e1 ay.le.n)) id) h),⟨⟨Nat.le_trans i2.le.n ex,fun b o h=>hk b o (.inl (Nat.lt_of_lt_of_le (i2.wf b o h) ay.le.n)) (i2.le.get _ _ h)⟩,i2.wf,fun b hb=>i2.ow b (hb.same (by rw [gq];exact hk bo _ (.inr (.inl Z)) gq))⟩⟩
          · exact fun k B i1=>hv _ _ i1.1
          · exact ⟨j2,ay⟩
          · intro g1 J2 B M4 hnB hleB wfB ap hJI k3 aT hyd
            obtain ⟨v,cc,gq,_⟩:=hv _ _ (hJI 0 B aT).1
            have s3:=(hJI 0 B aT).2.sub gq
            exact (uo bo g1 J2 i j (bn g rs) dJ _ B g9 gc ge _ _ _ _ _ _ (ct.full gq wfB) aT (s3.get _ _ ba) (s3.get _ _ bb) (s3.get _ _ bc) (bD.le s3) O O hne (fun k C M2=>hyd k C M2)).mono (fun v C h=>⟨h.1,h.2.1,h.2.2.mono (ap.sub gq) ap.wf⟩)
          · intro F k B hF_ hk_
            refine dU.wf fun wfB_=>?_
            have hF:=hF_
            refine dU.region hF (by repeat' with_reducible exact ic) Y<|.l Z (fun _ _ kl _=>cu wfB_ yc rfl fun A97 l0 cV=>?_)
            have fq:=aX wfB_ (Nat.le_trans (AH.le.refl B).n cV.lo)
            have g0:=Nat.le_trans (AH.le.refl B).n cV.lo
            have kT:=(AH.le.refl B).trans cV.le
            refine kl _ _<|.l Z (fun _ _ h6 _=>bh (cs:=[num (((er (bn g rs) i j).getD k .zero).i),num (((er (bn g rs) i j).getD k .zero).j),bi (((er (bn g rs) i j).getD k .zero).word),bi (((er (bn g rs) i j).getD k .zero).u),bi (((er (bn g rs) i j).getD k .zero).v)]) (c':=[num (((er (bn g rs) i j).getD k .zero).i),num (((er (bn g rs) i j).getD k .zero).j),bi (((er (bn g rs) i j).getD k .zero).word),bi (((er (bn g rs) i j).getD k .zero).u),bi (((er (bn g rs) i j).getD k .zero).v)]) cV.wf rfl rfl rfl rfl jl cV.get (Nat.le_of_ble_eq_true rfl) rfl rfl fun A101 bR=>?_)
            have hB:=aw kT wfB_ fq bR.n bR.keep
            refine h6 _ _<|.nil ?_
            exact ⟨l0,g0,Dh Z Z Z Z Z Z Z,Z,hB,bR.wf,bR.get⟩
          · rintro F k B b6 M4 hF hk_ ⟨i1,i2⟩ wfB hnB ap fL g6 cX fr
            obtain ⟨vY,cY,gY,lY⟩:=hv _ _ i1
            have lW:A.n<=b6:=Nat.le_trans (Nat.le_trans e1 ay.le.n) fL
            have g2:bo ≠ b6:=fun q=>cX (.inl q.symm)
            have mb:blk vY ≠ some b6:=fun q=>cX (.inr ⟨_,_,gY,q⟩)
            have s3:=i2.sub gY
            have eg:M94.get b6=none:=by cases q:M94.get b6 with | none=>rfl | some o=>exact absurd (ay.wf _ _ q) (by have:=ay.le.n;omega)
            have s6:=ce (bs:=[some b6]) s3 (sh eg nw)
            have jX:=cz B [some b6]
            have m6:((B.hide [some bo,blk vY]).hide [some b6]).le (B.hide [some b6]):=vo (cz _ _)
            have d0:((B.hide [some bo,blk vY]).hide [some b6]).wf:=ci (ci wfB)
            have b5:((B.hide [some bo,blk vY]).hide [some b6]).get b6=none:=cn (by simp)
            have wfX:(B.hide [some b6]).wf:=ci wfB
            have eA:(B.hide [some b6]).get b6=none:=cn (by simp)
            generalize hM6:(B.hide [some bo,blk vY]).hide [some b6]=M6 at s6 m6 d0 b5
            have lK:=fI.le s6
            refine dU.block<|.seq fun K104 hV=>.drawn [0,1,3,4,2,6,5,7,8,9] hF (by repeat' first | with_reducible exact ic | with_reducible apply nY | with_reducible apply kr) Y mixed Y Y Z<|.q Z Z Z (aq dL dx Z Z ((m6.trans jX).get _ _ (s6.get _ _ a8)) Z)<|.q Z Z Z (ak eB Z Z ((m6.trans jX).get _ _ (s6.get _ _ bY)) Z) ?_
            have gD:=bQ (off:=0) ((m6.trans jX).get _ _ (s6.get _ _ a8)) (show _=some (num (g)) from rfl)
            have gE:=bQ (off:=1) ((m6.trans jX).get _ _ (s6.get _ _ a8)) (show _=some (u) from rfl)
            have gF:=bQ (off:=2) ((m6.trans jX).get _ _ (s6.get _ _ a8)) (show _=some (rv) from rfl)
            refine be.q Z Z Z (aq dL dx Z Z ((m6.trans jX).get _ _ (s6.get _ _ a8)) Z) ?_
            have gG:=bQ (off:=0) ((m6.trans jX).get _ _ (s6.get _ _ aV)) (show _=some (num ((j:Nat):Int)) from rfl)
            refine be.q Z Z Z (ak eB Z Z ((m6.trans jX).get _ _ (s6.get _ _ aV)) Z)<|.l Z Z Z (fun _ _ h7 _=>ax Z (sK ((g)) u l rv rs i B O hn ((cH.le s6).le (m6.trans jX)) ((bB.le s6).le (m6.trans jX))) ?_)
            rintro nD A116 ⟨rfl,aa,mx⟩
            have hW:=aa.get _ _ g6
            have gL:=am aa gD
            have gM:=am aa gE
            have gN:=am aa gF
            have gP:=am aa gG
            have e2:=(m6.trans jX).trans aa
            have hq:=jX.trans aa
            refine h7 _ _ (aU.list (L:=[(⟨eV,0,none⟩,num ((j:Nat):Int)),(⟨bs,0,none⟩,num (g)),(⟨bs,1,none⟩,u),(⟨bs,2,none⟩,rv)]) Y (al gP (al gL (al gM (al gN bf)))))<|.q Z Z Z (aj Jk c0 U Z)<|.l Z Z Z (fun _ _ h8 _=>ax Z (sK ((g)) u l rv rs j A116 O hn ((cH.le s6).le e2) ((bB.le s6).le e2)) ?_)
            rintro nE A131 ⟨rfl,cP,g7⟩
            have hX:=cP.get _ _ hW
            have hC:=e2.trans cP
            have hs:=hq.trans cP
            refine h8 _ _ (aU.none Y)<|.l Z Z Z (fun _ _ h9 _=>bh (cs:=[num (nm rs.length i)]) (c':=[num (nm rs.length i),num (((er (bn g rs) i j).getD k .zero).j),bi (((er (bn g rs) i j).getD k .zero).word),bi (((er (bn g rs) i j).getD k .zero).u),bi (((er (bn g rs) i j).getD k .zero).v)]) g7 rfl rfl rfl rfl c0 hX (Nat.le_of_ble_eq_true rfl) rfl rfl fun A141 aI=>?_)
            have ht:=aw hs wfX eA aI.n aI.keep
            have hD:=aw hC d0 b5 aI.n aI.keep
            refine h9 _ _ (aU.none Y)<|.q Z Z Z (aj Jl c0 U Z)<|.l Z Z Z (fun _ _ ha _=>bh (cs:=[num (nm rs.length j)]) (c':=[num (nm rs.length i),num (nm rs.length j),bi (((er (bn g rs) i j).getD k .zero).word),bi (((er (bn g rs) i j).getD k .zero).u),bi (((er (bn g rs) i j).getD k .zero).v)]) aI.wf rfl rfl rfl rfl c0 aI.get (Nat.le_of_ble_eq_true rfl) rfl rfl fun A146 ac=>?_)
            have bl:=aw ht wfX eA ac.n ac.keep
            have hE:=aw hD d0 b5 ac.n ac.keep
            refine ha _ _ (aU.none Y)<|.done<|hV _ _<|.seq fun K150 hY=>?_
            have gp:=hclo _ _ _ i1 ac.wf bl.n (fun b o hb h=>bl.get b o (bW h (o9 (fun q=>by subst q;rcases hb with hb | hb;omega;exact cX hb) lJ)))
            have dW:=bl.get _ _ (bW gY (o9 g2 lJ))
            have g3:=Iy (n:=rs.length) (L:=(bn g rs)) (i:=i) (j:=j) (k:=k) O O O hk_
            have eZ:=hy _ _ _ g3.1 ac.wf gp (ct.full dW ac.wf)
            rw [show bj g rs=n5 rs.length (bn g rs) from rfl,g3.2] at eZ
            refine dU.regionJ ?_
            refine jj.q hF Z Z (ak Pm Z Z (hE.get _ _ (s6.get _ _ d3)) Z) ?_
            refine jj.q hF Z Z (aq sg jl Z Z ac.get Z) ?_
            refine jj.y hF rfl rfl rfl (eZ) fun nH A154 hl=>?_
            obtain ⟨rfl,hJz,wfz,hPz⟩:=hl
            skip
            refine jj.q hF Z Z (eb Z) ?_
            refine jj.nil ?_
            refine hY _ _<|.cond_false Z<|.skip ?_
            exact ⟨⟨hJz,(hPz.mono (ce ((ce (bs:=[some b6]) i2.le (sh eg nw)).trans bl) (qw i2 gY dW)) i2.wf)⟩,wfz,(hPz.mono (ce ((ce (bs:=[some b6]) ap.le (sh fr nw)).trans bl) (qw ap gY dW)) ap.wf)⟩
          · rintro B156 D156 ⟨i1,i2⟩ n9 fN lX gf fQ b8
            have fv:=i3.push iT dV (by rw [hM94];exact b8) bT (Nat.le_trans e1 ay.le.n) fN gf fQ
            have en:J (qX rs.length (bn g rs) i (j + 1)).length B156:=by rw [Iz O];exact i1
            obtain ⟨n6,mE,mM,n1⟩:=hv _ _ en
            have mV:=Nat.le_trans e0 (a2.trans b8.le).n
            refine ft _ _<|.region<|.q Z (bz (b:=1) Z Z O)<|.q Z (ah Z)<|.nil ?_
            exact ⟨⟨j + 1,D156 :: Ds⟩,wJ Z Z Z Z Z Z Z Z,Z,⟨O,(a2.trans b8.le),fv,⟨en,(b8.mono a2 aS.wf)⟩⟩,O1⟩
      ·
        refine Ops.off Z Z Z Z<|.off Z Z Z Z<|.off Z Z Z Z<|.off Z Z Z Z<|.off Z Z Z Z<|.q Z (aW Z Z)<|.nil<|hN _ _<|.cond_false Z<|.skip ?_
        refine hM _ _<|.seq fun K158 hZ=>.region<|.q Z (ah Z)<|.q Z (ak eB Z Z (ag.get _ _ a4) Z)<|.q Z (ak eB Z Z ai.get Z)<|.l Z (fun _ _ hc _=>ax Z (vW dJ (bn ((g)) rs) i j A73 (a5.le ag)) ?_)
        rintro nJ A162 ⟨f9,fd,fe,rfl,ez,br,ch,ck,cv,c3,c4,c7⟩
        have ih:=ez.get _ _ ai.get
        have az:=a1.trans ez
        have hrwa:=ch
        have hrwb:=ck
        have hrwc:=cv
        have hloa:=c3
        have hlob:=c4
        have hloc:=c7
        have e9:=aX aA (Nat.le_trans a1.n c3)
        have ea:=aX aA (Nat.le_trans a1.n c4)
        have ec:=aX aA (Nat.le_trans a1.n c7)
        refine hc _ _<|.nil<|hZ _ _<|.block ?_
        have gs:=hclo _ _ _ hJ_j br az.n (fun b o _ h=>az.get b o h)
        have bL:=az.get _ _ D
        have n2:=nP az a9
        have gC:=hP_j.up az D
        have ho:=Nat.le_trans eS az.n
        have gm:=bO.up az D
        have a6:=ct.full bL br
        have a0:=gC.sub bL
        have a3:=a0.get _ _ ar
        have bV:=a0.get _ _ bv
        have bC:=a0.get _ _ a4
        have aB:=fF ih D a9 bU
        have aC:=fF ch D a9 e9
        have aD:=fF ck D a9 ea
        have aF:=fF cv D a9 ec
        have bA:=cC.le a0
        have aY:=av.le a0
        have bd:=a5.le a0
        have eY:=eQ.le a0
        have bP:A.n<=(A162.hide [some bo,blk e5]).n:=ho
        generalize hM168:(A162.hide [some bo,blk e5])=M168 at a6 a0 a3 bV bC aB aC aD aF bA aY bd eY bP
        refine an.rangeOwn (M:=M168) bo (er (bn g rs) i j).length (fun k=>[MR ((er (bn g rs) i j).getD k .zero)]) (fun k B=>J ((qX rs.length (bn g rs) i j).length + k) B/\ct bo M168 B) (fun k b6=>[(6,.pointer (some ⟨b6,0,none⟩)),(1,.pointer (some ⟨bs,0,none⟩)),(2,.pointer (some ⟨b4,0,none⟩)),(4,.pointer (some ⟨f7,0,none⟩)),(5,.pointer (some ⟨eV,0,none⟩)),(20,.pointer (some ⟨bs,2,none⟩))]) (fun k=>.row true [num (((er (bn g rs) i j).getD k .zero).i),num (((er (bn g rs) i j).getD k .zero).j),bi (((er (bn g rs) i j).getD k .zero).word),bi (((er (bn g rs) i j).getD k .zero).u),bi (((er (bn g rs) i j).getD k .zero).v)] 5) Z Tryz.call192 (fun _=>rfl) U (br _ _ bL) a6 ?_ ?_ ?_ ?_ ?_ ?_ ?_
        · rintro k B B2 ⟨i1,i2⟩ dO ex hk
          obtain ⟨v,cc,gq,_⟩:=hv _ _ i1
          exact ⟨hclo _ _ _ i1 dO ex (fun b o hb h=>hk b o (hb.imp (fun q=>Nat.lt_of_lt_of_le q (Nat.le_trans bP a6.le.n)) id) h),⟨⟨Nat.le_trans i2.le.n ex,fun b o h=>hk b o (.inl (Nat.lt_of_lt_of_le (i2.wf b o h) a6.le.n)) (i2.le.get _ _ h)⟩,i2.wf,fun b hb=>i2.ow b (hb.same (by rw [gq];exact hk bo _ (.inr (.inl Z)) gq))⟩⟩
        · exact fun k B i1=>hv _ _ i1.1
        · exact ⟨gs,a6⟩
        · intro g1 J2 B M4 hnB hleB wfB ap hJI k3 aT hyd
          obtain ⟨v,cc,gq,_⟩:=hv _ _ (hJI 0 B aT).1
          have s3:=(hJI 0 B aT).2.sub gq
          exact (uo bo g1 J2 i j (bn g rs) dJ _ B f9 fd fe _ _ _ _ _ _ (ct.full gq wfB) aT (s3.get _ _ aC) (s3.get _ _ aD) (s3.get _ _ aF) (bd.le s3) O O hne (fun k C M2=>hyd k C M2)).mono (fun v C h=>⟨h.1,h.2.1,h.2.2.mono (ap.sub gq) ap.wf⟩)
        · intro F k B hF_ hk_
          refine dU.wf fun wfB_=>?_
          have hF:=hF_
          refine dU.region hF (by repeat' with_reducible exact ic) Y<|.l Z (fun _ _ hd _=>cu wfB_ yc rfl fun A171 hU bp=>?_)
          have f4:=aX wfB_ (Nat.le_trans (AH.le.refl B).n bp.lo)
          have f6:=Nat.le_trans (AH.le.refl B).n bp.lo
          have hG:=(AH.le.refl B).trans bp.le
          refine hd _ _<|.l Z (fun _ _ he _=>bh (cs:=[num (((er (bn g rs) i j).getD k .zero).i),num (((er (bn g rs) i j).getD k .zero).j),bi (((er (bn g rs) i j).getD k .zero).word),bi (((er (bn g rs) i j).getD k .zero).u),bi (((er (bn g rs) i j).getD k .zero).v)]) (c':=[num (((er (bn g rs) i j).getD k .zero).i),num (((er (bn g rs) i j).getD k .zero).j),bi (((er (bn g rs) i j).getD k .zero).word),bi (((er (bn g rs) i j).getD k .zero).u),bi (((er (bn g rs) i j).getD k .zero).v)]) bp.wf rfl rfl rfl rfl jl bp.get (Nat.le_of_ble_eq_true rfl) rfl rfl fun A175 bS=>?_)
          have hH:=aw hG wfB_ f4 bS.n bS.keep
          refine he _ _<|.nil ?_
          exact ⟨hU,f6,Dg Z Z Z Z Z Z,Z,hH,bS.wf,bS.get⟩
        · rintro F k B b6 M4 hF hk_ ⟨i1,i2⟩ wfB hnB ap fL g6 cX fr
          obtain ⟨vY,cY,gY,lY⟩:=hv _ _ i1
          have lW:A.n<=b6:=Nat.le_trans (Nat.le_trans bP a6.le.n) fL
          have g2:bo ≠ b6:=fun q=>cX (.inl q.symm)
          have mb:blk vY ≠ some b6:=fun q=>cX (.inr ⟨_,_,gY,q⟩)
          have s3:=i2.sub gY
          have eg:M168.get b6=none:=by cases q:M168.get b6 with | none=>rfl | some o=>exact absurd (a6.wf _ _ q) (by have:=a6.le.n;omega)
          have s6:=ce (bs:=[some b6]) s3 (sh eg nw)
          have jX:=cz B [some b6]
          have m6:((B.hide [some bo,blk vY]).hide [some b6]).le (B.hide [some b6]):=vo (cz _ _)
          have d0:((B.hide [some bo,blk vY]).hide [some b6]).wf:=ci (ci wfB)
          have b5:((B.hide [some bo,blk vY]).hide [some b6]).get b6=none:=cn (by simp)
          have wfX:(B.hide [some b6]).wf:=ci wfB
          have eA:(B.hide [some b6]).get b6=none:=cn (by simp)
          generalize hM6:(B.hide [some bo,blk vY]).hide [some b6]=M6 at s6 m6 d0 b5
          have lK:=eY.le s6
          refine dU.block<|.seq fun K178 it=>.drawn [0,1,3,4,2,6,5,7,8,9] hF (by repeat' first | with_reducible exact ic | with_reducible apply nY | with_reducible apply kr) Y mixed Y Y Z<|.q Z Z Z (aq dL dx Z Z ((m6.trans jX).get _ _ (s6.get _ _ a3)) Z)<|.q Z Z Z (ak eB Z Z ((m6.trans jX).get _ _ (s6.get _ _ bC)) Z) ?_
          have gQ:=bQ (off:=0) ((m6.trans jX).get _ _ (s6.get _ _ a3)) (show _=some (num (g)) from rfl)
          have gS:=bQ (off:=1) ((m6.trans jX).get _ _ (s6.get _ _ a3)) (show _=some (u) from rfl)
          have gX:=bQ (off:=2) ((m6.trans jX).get _ _ (s6.get _ _ a3)) (show _=some (rv) from rfl)
          refine be.q Z Z Z (aq dL dx Z Z ((m6.trans jX).get _ _ (s6.get _ _ a3)) Z) ?_
          have h0:=bQ (off:=0) ((m6.trans jX).get _ _ (s6.get _ _ aB)) (show _=some (num ((j:Nat):Int)) from rfl)
          refine be.q Z Z Z (ak eB Z Z ((m6.trans jX).get _ _ (s6.get _ _ aB)) Z)<|.l Z Z Z (fun _ _ hf _=>ax Z (sK ((g)) u l rv rs i B O hn ((bA.le s6).le (m6.trans jX)) ((aY.le s6).le (m6.trans jX))) ?_)
          rintro nK A190 ⟨rfl,ab,mB⟩
          have iv:=ab.get _ _ g6
          have h1:=am ab gQ
          have h3:=am ab gS
          have h4:=am ab gX
          have h5:=am ab h0
          have e3:=(m6.trans jX).trans ab
          have hx:=jX.trans ab
          refine hf _ _ (aU.list (L:=[(⟨eV,0,none⟩,num ((j:Nat):Int)),(⟨bs,0,none⟩,num (g)),(⟨bs,1,none⟩,u),(⟨bs,2,none⟩,rv)]) Y (al h5 (al h1 (al h3 (al h4 bf)))))<|.q Z Z Z (aj Jk c0 U Z)<|.l Z Z Z (fun _ _ hh _=>ax Z (sK ((g)) u l rv rs j A190 O hn ((bA.le s6).le e3) ((aY.le s6).le e3)) ?_)
          rintro nL A205 ⟨rfl,cS,g8⟩
          have iD:=cS.get _ _ iv
          have hI:=e3.trans cS
          have hz:=hx.trans cS
          refine hh _ _ (aU.none Y)<|.l Z Z Z (fun _ _ hi _=>bh (cs:=[num (nm rs.length i)]) (c':=[num (nm rs.length i),num (((er (bn g rs) i j).getD k .zero).j),bi (((er (bn g rs) i j).getD k .zero).word),bi (((er (bn g rs) i j).getD k .zero).u),bi (((er (bn g rs) i j).getD k .zero).v)]) g8 rfl rfl rfl rfl c0 iD (Nat.le_of_ble_eq_true rfl) rfl rfl fun A215 aP=>?_)
          have hA:=aw hz wfX eA aP.n aP.keep
          have hJ:=aw hI d0 b5 aP.n aP.keep
          refine hi _ _ (aU.none Y)<|.q Z Z Z (aj Jl c0 U Z)<|.l Z Z Z (fun _ _ hj _=>bh (cs:=[num (nm rs.length j)]) (c':=[num (nm rs.length i),num (nm rs.length j),bi (((er (bn g rs) i j).getD k .zero).word),bi (((er (bn g rs) i j).getD k .zero).u),bi (((er (bn g rs) i j).getD k .zero).v)]) aP.wf rfl rfl rfl rfl c0 aP.get (Nat.le_of_ble_eq_true rfl) rfl rfl fun A220 ad=>?_)
          have bm:=aw hA wfX eA ad.n ad.keep
          have hK:=aw hJ d0 b5 ad.n ad.keep
          refine hj _ _ (aU.none Y)<|.done<|it _ _<|.seq fun K224 iF=>?_
          have gA:=hclo _ _ _ i1 ad.wf bm.n (fun b o hb h=>bm.get b o (bW h (o9 (fun q=>by subst q;rcases hb with hb | hb;omega;exact cX hb) lJ)))
          have dZ:=bm.get _ _ (bW gY (o9 g2 lJ))
          have g4:=Iy (n:=rs.length) (L:=(bn g rs)) (i:=i) (j:=j) (k:=k) O O O hk_
          have f0:=hy _ _ _ g4.1 ad.wf gA (ct.full dZ ad.wf)
          rw [show bj g rs=n5 rs.length (bn g rs) from rfl,g4.2] at f0
          refine dU.regionJ ?_
          refine jj.q hF Z Z (ak Pm Z Z (hK.get _ _ (s6.get _ _ bV)) Z) ?_
          refine jj.q hF Z Z (aq sg jl Z Z ad.get Z) ?_
          refine jj.y hF rfl rfl rfl (f0) fun nM A228 hm=>?_
          obtain ⟨rfl,hJz,wfz,hPz⟩:=hm
          skip
          refine jj.q hF Z Z (eb Z) ?_
          refine jj.nil ?_
          refine iF _ _<|.cond_false Z<|.skip ?_
          exact ⟨⟨hJz,(hPz.mono (ce ((ce (bs:=[some b6]) i2.le (sh eg nw)).trans bm) (qw i2 gY dZ)) i2.wf)⟩,wfz,(hPz.mono (ce ((ce (bs:=[some b6]) ap.le (sh fr nw)).trans bm) (qw ap gY dZ)) ap.wf)⟩
        · rintro B230 D230 ⟨i1,i2⟩ nb fO m1 gg fR b9
          have fD:=i3.push gm bL (by rw [hM168];exact b9) br (Nat.le_trans bP a6.le.n) fO gg fR
          have ev:J (qX rs.length (bn g rs) i (j + 1)).length B230:=by rw [Iz O];exact i1
          obtain ⟨n7,mK,mT,n3⟩:=hv _ _ ev
          have mX:=Nat.le_trans e0 (a0.trans b9.le).n
          refine ft _ _<|.region<|.q Z (bz (b:=1) Z Z O)<|.q Z (ah Z)<|.nil ?_
          exact ⟨⟨j + 1,D230 :: Ds⟩,wJ Z Z Z Z Z Z Z Z,Z,⟨O,(a0.trans b9.le),fD,⟨ev,(b9.mono a0 aS.wf)⟩⟩,O1⟩
    ·
      refine an.exit<|l7 _ _<|.region<|.q Z (bz (b:=1) Z Z O)<|.q Z (ah Z)<|.nil ?_
      exact ⟨⟨i + 1,Ds⟩,pd Z Z Z Z Z,Z,⟨O,(a7.trans cK),bO,⟨(by rw [Al,show (bn g rs).length=j by omega];exact hJ_j),(hP_j.mono a7 bu.wf)⟩⟩,O1⟩
  ·
    refine an.exit ?_
    (repeat first | with_reducible refine bJ ?_ | with_reducible refine bx ?_);(repeat first | with_reducible refine eF ?_ | with_reducible refine d7 ?_ | with_reducible refine dH U ?_ | with_reducible refine dK ?_ | with_reducible refine db ?_);obtain ⟨vZ,cZ,gZ,lZ⟩:=hv _ _ hJ_i;refine ⟨Ds,rfl,bM.nd,bM.get,[],fun A2 dO lV lO=>?_⟩;obtain ⟨z1,z2⟩:=bM.leave hP.le wf (hP_i.mono aR hP.wf) gZ lV lO;exact ⟨Z,_,Z,(by rw [show bj g rs=qX rs.length (bn g rs) i 0 from by rw [show i=(bn g rs).length by omega,Iw];rfl];exact hclo _ _ _ hJ_i dO O z2),dO,z1⟩

theorem OG (g:Int) (u:Value) (l:List (List UInt8)) (rv:Value) (rs:List bg) (A:AH) (hu:bH A 1 u (du l)) (hr:bH A 3 rv (cL rs)):bF Tryz.prog 125 #[.agg #[num (g),u,rv]] A (fun v A1=>∃ b,v=.func (.func 164) #[] #[.pointer (some ⟨b,0,none⟩)]/\A.le A1/\A1.wf/\A1.get b=some (.row true [num g,u,rv] 3)/\A.get b=none):=by
 refine gw Tryz.call125 Tryz.func125 Z Tryz.results125 Tryz.ntmps125 Z (fun wf=>?_);have V:=AH.le.refl A;refine an.seq fun _ h2=>.region<|.l Z (fun _ _ X _=>dy wf rfl rfl fun A5 b4 h=>?_);have D:=aX wf (Nat.le_trans V.n h.lo);have a0:=V.trans h.le;refine X _ _<|.q Z (ae Z)<|.nil<|h2 _ _<|.seq fun _ h9=>.region<|.q Z (ll Z Z)<|.q Z (ae Z)<|.nil<|h9 _ _ ?_;refine an.ret ?_;repeat first | with_reducible refine bJ ?_ | with_reducible refine bx ?_
 exact aK Z (⟨b4,Z,a0,h.wf,h.get,D⟩)

theorem Lq (g:Int) (u:Value) (l:List (List UInt8)) (rv:Value) (rs:List bg) (A:AH) (hg:1<=g/\g<=8) (hn:rs.length<=1000000) (hw:∀ r ∈ rs,0 < r.left.length/\r.left.length<=1000/\r.right.length<=1000) (hmx:(bj g rs).length<=50000) (hL:gk A) (hu:bH A 1 u (du l)) (hr:bH A 3 rv (cL rs)) (hp:Proofs A rs):bF Tryz.prog 88 #[.agg #[num (g),u,rv]] A (fun v A1=>∃ w,v=.tuple #[w,.bool true]/\A.le A1/\A1.wf/\Fresh A A1 w 5 (AK (bj g rs))):=by
  refine enterM (e:=[(0,.agg #[num (g),u,rv])]) (args:=[.agg #[num (g),u,rv]]) Tryz.call88 Tryz.func88 Z Tryz.results88 Tryz.ntmps88 Z Z Z (fun wf=>?_)
  have c4:=AH.le.refl A
  have df_:Rf A A []:=⟨List.Pairwise.nil,fun _ h=>by cases h⟩
  refine an.seq fun K1 h2=>.region<|.l Z (fun _ _ en _=>dy wf rfl rfl fun A5 b4 aV=>?_)
  have eT:=Nat.le_trans c4.n aV.lo
  have bc:=c4.trans aV.le
  refine en _ _<|.l Z (fun _ _ ev _=>cu aV.wf Tu rfl fun A10 b9 a3=>?_)
  have bD:=aX wf (Nat.le_trans bc.n a3.lo)
  have eV:=Nat.le_trans bc.n a3.lo
  have dW:=a3.le.get _ _ aV.get
  have aP:=bc.trans a3.le
  refine ev _ _<|.l Z (fun _ _ cV _=>cu a3.wf z4 rfl fun A16 aY X=>?_)
  have ac:=ne_new a3.wf a3.get X.lo
  have b2:=aX wf (Nat.le_trans aP.n X.lo)
  have ez:=Nat.le_trans aP.n X.lo
  have bS:=X.le.get _ _ dW
  have bT:=X.le.get _ _ a3.get
  have aR:=aP.trans X.le
  refine cV _ _<|.nil<|h2 _ _<|.seq fun K21 dZ=>.region<|.l Z (fun _ _ cX _=>cu X.wf Tu rfl fun A25 D a1=>?_)
  have aG:=ne_new X.wf bS a1.lo
  have aI:=ne_new X.wf bT a1.lo
  have aB:=ne_new X.wf X.get a1.lo
  have b3:=aX wf (Nat.le_trans aR.n a1.lo)
  have eA:=Nat.le_trans aR.n a1.lo
  have b7:=a1.le.get _ _ bS
  have bU:=a1.le.get _ _ bT
  have bV:=a1.le.get _ _ X.get
  have aS:=aR.trans a1.le
  refine cX _ _<|.nil<|dZ _ _<|.seq fun K31 e0=>.seq fun K33 e1=>.region<|.q Z (aq dL dx Z Z b7 Z)<|.l Z (fun _ _ cZ _=>ax Z (OG ((g)) u l rv rs A25 (hu.le aS) (hr.le aS)) ?_)
  rintro f3 A37 ⟨a4,rfl,a7,ai,az,a2⟩
  have e2:=a7.get _ _ b7
  have e3:=a7.get _ _ bU
  have e4:=a7.get _ _ bV
  have aD:=a7.get _ _ a1.get
  have bb:=aS.trans a7
  have hrow:=az
  have hno:=a2
  have bA:b4 ≠ a4:=fun z=>by have q0:=b7;rw [z,a2] at q0;cases q0
  have bB:b9 ≠ a4:=fun z=>by have q0:=bU;rw [z,a2] at q0;cases q0
  have bp:aY ≠ a4:=fun z=>by have q0:=bV;rw [z,a2] at q0;cases q0
  have ay:D ≠ a4:=fun z=>by have q0:=a1.get;rw [z,a2] at q0;cases q0
  refine cZ _ _<|.nil<|e1 _ _<|.block ?_
  have V:=ct.full aD ai
  have hLM:=ce (bs:=[some D,blk (.slice none 0 0)]) bb (fun b hb=>by simp only [List.mem_cons,List.not_mem_nil,or_false,Option.some.injEq,blk] at hb;rcases hb with rfl | hb;exact b3;cases hb)
  have bP:=Fresh.nil (A37.hide [some D,blk (.slice none 0 0)]) A37 5
  have ad:=bW (bs:=[some D,blk (.slice none 0 0)]) e2 (o9 (aG) (mQ (fun q=>by cases q) lJ))
  have ag:=bW (bs:=[some D,blk (.slice none 0 0)]) e3 (o9 (aI) (mQ (fun q=>by cases q) lJ))
  have a6:=bW (bs:=[some D,blk (.slice none 0 0)]) e4 (o9 (aB) (mQ (fun q=>by cases q) lJ))
  have a0:=bW (bs:=[some D,blk (.slice none 0 0)]) az (o9 (ay.symm) (mQ (fun q=>by cases q) lJ))
  generalize hM0:(A37.hide [some D,blk (.slice none 0 0)])=M at V hLM bP ad ag a6 a0
  have hvI:∀ (k:Nat) (B:AH),(M.le B/\∃ v,B.get D=some (.row true [v] 1)/\Fresh M B v 5 (AK ((bj g rs).take k))/\blk v ≠ some D)->∃ v cap,B.get D=some (.row true [v] cap)/\∀ b,blk v=some b->∃ o,B.get b=some o:=fun k B ⟨_,v,g1,f1,_⟩=>⟨v,1,g1,fun b hb=>f1.own.blkget hb⟩
  refine an.rangeOwn (M:=M) D (bj g rs).length (fun k=>[MR ((bj g rs).getD k .zero)]) (fun k B=>(M.le B/\∃ v,B.get D=some (.row true [v] 1)/\Fresh M B v 5 (AK ((bj g rs).take k))/\blk v ≠ some D)) (fun k b6=>[(5,.pointer (some ⟨b6,0,none⟩)),(1,.pointer (some ⟨b4,0,none⟩)),(2,.pointer (some ⟨b9,0,none⟩)),(3,.pointer (some ⟨aY,0,none⟩)),(4,.pointer (some ⟨D,0,none⟩))]) (fun k=>.row true [num (((bj g rs).getD k .zero).i),num (((bj g rs).getD k .zero).j),bi (((bj g rs).getD k .zero).word),bi (((bj g rs).getD k .zero).u),bi (((bj g rs).getD k .zero).v)] 5) Z Tryz.call164 (fun _=>rfl) U (ai _ _ aD) V ?_ hvI ?_ ?_ ?_ ?_ ?_
  · rintro k B B2 ⟨i1,v,g1,f1,n1⟩ cv ey hk
    exact ⟨⟨Nat.le_trans i1.n ey,fun b o h=>hk b o (.inl (Nat.lt_of_lt_of_le (V.wf b o h) V.le.n)) (i1.get _ _ h)⟩,v,hk _ _ (.inr (.inl rfl)) g1,f1.owk (fun b o hb h=>hk b o (.inr (.inr ⟨v,1,g1,hb⟩)) h),n1⟩
  · exact ⟨V.le,_,aD,bP,fun q=>by cases q⟩
  · intro eG J2 B M4 hnB hleB wfB aF hJI cS aA hyd
    obtain ⟨v,cc,gq,_⟩:=hvI _ _ (hJI 0 B aA)
    have s3:M.le (B.hide [some D,blk v]):=ce (hJI 0 B aA).1 (fun b hb=>by obtain ⟨_,w,g1,f1,_⟩:=hJI 0 B aA;rw [g1] at gq;cases gq;simp only [List.mem_cons,List.not_mem_nil,or_false,Option.some.injEq] at hb;rcases hb with rfl | hb;exact V.ow _ (.inl Z);exact f1.lo b hb.symm)
    exact (Lu D eG J2 g u l rv rs _ B a4 _ _ (ct.full gq wfB) aA (s3.get _ _ a0) ((hL.le hLM).le s3) ((hu.le hLM).le s3) ((hr.le hLM).le s3) ((hp.le hLM).le s3) hg hn hw (fun i C C2 j1 j2 j3 j4=>cS i C C2 j1 j2 j3 j4) (fun i C j1=>hvI i C (hJI i C j1)) (wfB _ _ gq) (fun k C M2=>hyd k C M2)).mono (fun v C h=>⟨h.1,h.2.1,h.2.2.mono (aF.sub gq) aF.wf⟩)
  · intro F k B hF_ hk_
    refine dU.wf fun wfB_=>?_
    have hF:=hF_
    refine dU.region hF (by repeat' with_reducible exact ic) Y<|.l Z (fun _ _ d0 _=>cu wfB_ yc rfl fun A46 dV ar=>?_)
    have b5:=aX wfB_ (Nat.le_trans (AH.le.refl B).n ar.lo)
    have bl:=Nat.le_trans (AH.le.refl B).n ar.lo
    have dw:=(AH.le.refl B).trans ar.le
    refine d0 _ _<|.l Z (fun _ _ d1 _=>bh (cs:=[num (((bj g rs).getD k .zero).i),num (((bj g rs).getD k .zero).j),bi (((bj g rs).getD k .zero).word),bi (((bj g rs).getD k .zero).u),bi (((bj g rs).getD k .zero).v)]) (c':=[num (((bj g rs).getD k .zero).i),num (((bj g rs).getD k .zero).j),bi (((bj g rs).getD k .zero).word),bi (((bj g rs).getD k .zero).u),bi (((bj g rs).getD k .zero).v)]) ar.wf rfl rfl rfl rfl jl ar.get (Nat.le_of_ble_eq_true rfl) rfl rfl fun A50 aC=>?_)
    have dz:=aw dw wfB_ b5 aC.n aC.keep
    refine d1 _ _<|.nil ?_
    exact ⟨dV,bl,pd Z Z Z Z Z,Z,dz,aC.wf,aC.get⟩
  · rintro F k B b6 M4 hF hk_ ⟨i1,v,g1,f1,n1⟩ wfB hnB aF f2 g6 ch eZ
    have s3:M.le (B.hide [some D,blk v]):=ce i1 (fun b hb=>by simp only [List.mem_cons,List.not_mem_nil,or_false,Option.some.injEq] at hb;rcases hb with rfl | hb;exact V.ow _ (.inl Z);exact f1.lo b hb.symm)
    have s4:=aF.sub g1
    have leX:=cz B [some D,blk v]
    have wfX:(B.hide [some D,blk v]).wf:=ci wfB
    have noX:(B.hide [some D,blk v]).get D=none:=cn (by simp)
    have fX:Fresh (B.hide [some D,blk v]) B v 5 (AK ((bj g rs).take k)):=f1.hide (by simp)
    have bR:(B.hide [some D,blk v]).get b6=some (.row true [num (((bj g rs).getD k .zero).i),num (((bj g rs).getD k .zero).j),bi (((bj g rs).getD k .zero).word),bi (((bj g rs).getD k .zero).u),bi (((bj g rs).getD k .zero).v)] 5):=bW g6 (o9 (fun q=>ch (.inl q)) (mQ (fun q=>ch (.inr ⟨_,_,g1,q⟩)) lJ))
    generalize hMX:B.hide [some D,blk v]=MX at s3 s4 leX wfX noX fX bR
    have htk:((bj g rs).take k).length=k:=by rw [List.length_take];omega
    refine dU.block<|.seq fun K53 e5=>.seq fun K55 e6=>.region hF (by repeat' first | with_reducible exact ic | with_reducible apply nY | with_reducible apply kr) Y<|.q Z (ak Mz Z Z g1 Z)<|.q Z (bE (n:=((bj g rs).take k).length) Rc Z fX.slc O (Db _))<|.q Z (kb (b:=50000) Z Z)<|.nil<|e6 _ _<|.if rfl (fun eL=>?_) (fun eL=>?_)
    ·
      refine dU.seq fun K58 f0=>?_
      exact absurd ‹_› O
    ·
      refine dU.skip<|e5 _ _<|.region hF (by repeat' first | with_reducible exact ic | with_reducible apply kr) Y<|.q Z (ak Mz Z Z g1 Z)<|.q Z (aq sg jl Z Z (leX.get _ _ bR) Z)<|.l Z (fun _ _ d2 _=>aQ (c:=[num (((bj g rs).getD k .zero).i),num (((bj g rs).getD k .zero).j),bi (((bj g rs).getD k .zero).word),bi (((bj g rs).getD k .zero).u),bi (((bj g rs).getD k .zero).v)]) wfB rfl (aJ Rc jl yc rfl U U rfl) fun A62 eY a8=>?_)
      have eC:=Nat.le_trans leX.n a8.lo
      have bY:=a8.le.get _ _ g1
      have b0:=fX.le a8.le
      have dD:=leX.trans a8.le
      refine d2 _ _<|.l Z (fun _ _ d3 _=>cQ (ys:=[num (((bj g rs).getD k .zero).i),num (((bj g rs).getD k .zero).j),bi (((bj g rs).getD k .zero).word),bi (((bj g rs).getD k .zero).u),bi (((bj g rs).getD k .zero).v)]) rfl rfl Rc jl Ro yc rfl U Rc (fun _ h=>by cases h) b0.own (bZ (n:=1) a8.get Z) rfl rfl (by show (_ + _) * 64<=_;simp only [mG,List.length_cons,List.length_nil];(try simp only [List.length_append,List.length_cons,List.length_nil]);omega) (by simp only [mG,List.length_cons,List.length_nil];(try simp only [List.length_append,List.length_cons,List.length_nil]);omega) fun A69 f4 ap=>?_)
      rw [show ([num (((bj g rs).getD k .zero).i),num (((bj g rs).getD k .zero).j),bi (((bj g rs).getD k .zero).word),bi (((bj g rs).getD k .zero).u),bi (((bj g rs).getD k .zero).v)]:List Value)=AK [⟨((bj g rs).getD k .zero).i,((bj g rs).getD k .zero).j,((bj g rs).getD k .zero).word,((bj g rs).getD k .zero).u,((bj g rs).getD k .zero).v⟩] from rfl,AL] at ap
      obtain ⟨b1,dI⟩:=Fresh.grow b0 dD wfX ap
      have e7:=ap.keep n1 bY
      have bm:=ap.ne n1 a8.wf bY
      refine d3 _ _ ?_
      obtain ⟨ck,c3,bO,eN,_⟩:=b1.own.slice
      subst eN
      refine Ops.l Z (fun _ _ dd _=>bh (cs:=[.slice ck c3 bO]) (c':=[.slice ck c3 bO]) ap.wf rfl rfl rfl rfl R8 e7 (Nat.le_of_ble_eq_true rfl) rfl rfl fun A80 a9=>?_)
      have cC:=b1.keep a9.keep bm
      have bd:=aw dI wfX noX a9.n a9.keep
      refine dd _ _<|.nil ?_
      have fe:=cy cC (congrArg AK (fz (z:=CP.zero) hk_))
      exact ⟨⟨s3.trans bd,_,a9.get,fe.base s3,bm⟩,a9.wf,ct.mono ⟨bd,wfX,fun b hb=>by rcases hb.val a9.get with rfl | q;exact noX;exact fe.lo b q⟩ s4 aF.wf⟩
  · rintro B D0 ⟨i1,v,g1,f1,n1⟩ wfB hnD hnB gD hoD hPM
    have leB:=hLM.trans i1
    have frB:=f1.base hLM
    have hDp:i3 D A B [D0]:=i3.push (A:=A) i3.nil aD (by rw [hM0];exact hPM) ai bb.n hnD gD hoD
    have eS:=i1.get _ _ ad
    have bL:=i1.get _ _ ag
    have b8:=i1.get _ _ a6
    have dv:=i1.get _ _ a0
    have eX:=f1.ne V.wf ad
    have bM:=f1.ne V.wf ag
    have br:=f1.ne V.wf a6
    have dS:=f1.ne V.wf a0
    have dO:D0 ≠ b4:=by have:=V.wf _ _ ad;have:=V.le.n;omega
    have av:D0 ≠ b9:=by have:=V.wf _ _ ag;have:=V.le.n;omega
    have ab:D0 ≠ aY:=by have:=V.wf _ _ a6;have:=V.le.n;omega
    have c7:D0 ≠ D:=by have:=ai _ _ aD;omega
    have bv:D0 ≠ a4:=by have:=V.wf _ _ a0;have:=V.le.n;omega
    have nvD:blk v ≠ some D0:=fun q=>hoD (.inr ⟨_,_,g1,q⟩)
    have hlA:A.n<=D0:=Nat.le_trans hLM.n (Nat.le_trans V.le.n hnD)
    refine e0 _ _<|.seq fun K84 e9=>.region<|.q Z (ak Mz Z Z g1 Z) ?_
    obtain ⟨bu,ba,aZ,eQ,_⟩:=frB.own.slice
    subst eQ
    refine Ops.l Z (fun _ _ di _=>bh (cs:=[.slice bu ba aZ]) (c':=[.slice bu ba aZ]) wfB rfl rfl rfl rfl R8 bL (Nat.le_of_ble_eq_true rfl) rfl rfl fun A88 a5=>?_)
    have ea:=a5.keep _ _ ac.symm b8
    have ec:=a5.keep _ _ av gD
    have cH:=frB.keep a5.keep bM
    have dJ:=aw leB wf bD a5.n a5.keep
    refine di _ _<|.l Z (fun _ _ dj _=>bh (cs:=[.bool (true)]) (c':=[.bool (true)]) a5.wf rfl rfl rfl rfl lA ea (Nat.le_of_ble_eq_true rfl) rfl rfl fun A98 aa=>?_)
    have cK:=aa.keep _ _ ac a5.get
    have cP:=aa.keep _ _ ab ec
    have bC:=cH.keep aa.keep br
    have aT:=aw dJ wf b2 aa.n aa.keep
    refine dj _ _<|.nil<|e9 _ _<|.ret ?_
    (repeat first | with_reducible refine bJ ?_ | with_reducible refine bx ?_);(repeat first | with_reducible refine eF ?_ | with_reducible refine d7 ?_ | with_reducible refine dH U ?_ | with_reducible refine dK ?_ | with_reducible refine db ?_);refine ⟨[D0],rfl,(by simp),(fun E hE=>by rw [List.mem_singleton] at hE;subst hE;exact cP),[.slice bu ba aZ,.bool true],fun A2 cv ex eg=>?_⟩;have hkD:∀ b o,b ≠ D0->A98.get b=some o->A2.get b=some o:=fun b o hb h=>eg b o (by simpa using hb) h;exact ⟨fZ.cell Z (nX Mz (hkD _ _ av.symm cK) Z) (fZ.cell Z (nX sY (hkD _ _ ab.symm aa.get) Z) fZ.nil),_,Z,_,Z,⟨by rw [ex];exact aT.n,fun b o h=>hkD b o (by have:=wf _ _ h;omega) (aT.get _ _ h)⟩,cv,(cy bC (congrArg AK (List.take_length))).owk (fun b o hb h=>hkD b o (fun z=>nvD (by rw [hb,z])) h)⟩
end Go.Proofs.YtjppkekmddjcfaaGreatDoor

namespace Go.Proofs.YtjppkekmddjcfaaGreatDoor
open Go Go.RowKit V
def gi (rs:List bg):List CP->Bool × CP × Nat
  | []=>(true,.zero,0)
  | p :: t=>match eM rs p.u,eM rs p.v with
    | some a,some b=>if a.word=b.word then gi rs t else (false,p,0)
    | _,_=>(false,.zero,2)
def lq (rs:List bg):Bool->List Wd->Bool × Nat
  | t,[]=>(t,0)
  | t,w :: ws=>match eM rs w with
    | none=>(false,2)
    | some r=>lq rs (t && decide (r.word=[])) ws
section
variable {rs:List bg} {l:List CP} {i:Nat} {R:Bool × CP × Nat}
theorem LD (hi:l.length<=i) (h:gi rs (l.drop i)=R):R=(true,.zero,0):=by
  rw [<- h,List.drop_eq_nil_of_le hi];rfl
theorem rJ {α:Type} {l:List α} {i:Nat} {z:α} (hi:i < l.length):l.drop i=l.getD i z :: l.drop (i + 1):=by
  rw [List.drop_eq_getElem_cons hi];simp [hi]
theorem zL (hi:i < l.length) (h:gi rs (l.drop i)=R) (q:(!(eM rs (l.getD i .zero).u).isSome)=true\/(!(eM rs (l.getD i .zero).v).isSome)=true):R=(false,.zero,2):=by
  rw [<- h,rJ (z:=CP.zero) hi,gi]
  rcases q with q | q
  · rw [qz q]
  · rw [qz q];cases eM rs (l.getD i .zero).u <;> rfl
theorem LC (hi:i < l.length) (h:gi rs (l.drop i)=R) (q1:(!(eM rs (l.getD i .zero).u).isSome)=false) (q2:(!(eM rs (l.getD i .zero).v).isSome)=false) (hne:¬ (fh (eM rs (l.getD i .zero).u)).word=(fh (eM rs (l.getD i .zero).v)).word):R=(false,l.getD i .zero,0):=by
  rw [<- h,rJ (z:=CP.zero) hi,gi,oe q1,oe q2]
  simp only
  rw [if_neg hne]
theorem GV (hi:i < l.length) (h:gi rs (l.drop i)=R) (q1:(!(eM rs (l.getD i .zero).u).isSome)=false) (q2:(!(eM rs (l.getD i .zero).v).isSome)=false) (he:¬ ¬ (fh (eM rs (l.getD i .zero).u)).word=(fh (eM rs (l.getD i .zero).v)).word):gi rs (l.drop (i + 1))=R:=by
  rw [<- h,rJ (z:=CP.zero) hi]
  conv=>rhs;rw [gi,oe q1,oe q2]
  simp only
  rw [if_pos (Decidable.not_not.1 he)]
end
section
variable {rs:List bg} {l:List Wd} {i:Nat} {t:Bool} {R:Bool × Nat}
theorem we (hi:l.length<=i) (h:lq rs t (l.drop i)=R):R=(t,0):=by
  rw [<- h,List.drop_eq_nil_of_le hi];rfl
theorem GU (hi:i < l.length) (h:lq rs t (l.drop i)=R) (q:(!(eM rs (l.getD i [])).isSome)=true):R=(false,2):=by
  rw [<- h,rJ (z:=[]) hi,lq,qz q]
theorem ur (hi:i < l.length) (h:lq rs t (l.drop i)=R) (q:(!(eM rs (l.getD i [])).isSome)=false):lq rs (t && decide ((fh (eM rs (l.getD i []))).word=[])) (l.drop (i + 1))=R:=by
  rw [<- h,rJ (z:=[]) hi]
  conv=>rhs;rw [lq,oe q]
end
def fk (g:Int) (l:List Wd) (rs:List bg):Bool × CP × Nat:=if cw g l rs then gi rs (bj g rs) else (false,.zero,100)
def mF (g:Int) (l:List Wd) (rs:List bg):Bool × Nat:=if (fk g l rs).2.2=0 then (if (lq rs true l).2=0 then ((fk g l rs).1 && (lq rs true l).1,0) else (false,(lq rs true l).2)) else (false,(fk g l rs).2.2)
section
variable {g:Int} {l:List Wd} {rs:List bg}
theorem MN (h:(!cw g l rs)=true):fk g l rs=(false,.zero,100):=by simp_all [fk]
theorem MO (h:(!cw g l rs)=false):fk g l rs=gi rs (bj g rs):=by simp_all [fk]
theorem I3 (h:¬ (fk g l rs).2.2=0):mF g l rs=(false,(fk g l rs).2.2):=by rw [mF,if_neg h]
theorem I4 (h:¬ ¬ (fk g l rs).2.2=0) (q:lq rs true l=(false,2)):mF g l rs=(false,2):=by
  rw [mF,if_pos (Decidable.not_not.1 h),q];rfl
theorem yq {t:Bool} (h:¬ ¬ (fk g l rs).2.2=0) (q:lq rs true l=(t,0)):mF g l rs=((fk g l rs).1 && t,0):=by
  rw [mF,if_pos (Decidable.not_not.1 h),q];rfl
theorem qZ (h:¬ ¬ (fk g l rs).2.2=0):cw g l rs=true:=by
  have h:=Decidable.not_not.1 h
  cases q:cw g l rs with
  | true=>rfl
  | false=>simp [fk,q] at h
theorem zQ (hs:cw g l rs=true):1<=g/\g<=8:=(c5 (jT hs).1).1
theorem LM (hs:cw g l rs=true):∀ r ∈ rs,0 < r.left.length/\r.left.length<=1000/\r.right.length<=1000:=fun r hr=>by
  have h1:=ue hs hr
  have h2:=ks hs hr
  omega
end
end Go.Proofs.YtjppkekmddjcfaaGreatDoor

namespace Go.Proofs.YtjppkekmddjcfaaGreatDoor
open Go Go.RowKit V
set_option maxRecDepth 100000
theorem PU:dT Tryz.prog 47 3=some (9,3):=by kernel_rfl
theorem PW:dT Tryz.prog 47 4=some (9,4):=by kernel_rfl

theorem OC (g:Int) (u:Value) (l:List (List UInt8)) (rv:Value) (rs:List bg) (A:AH) (hs:cw g l rs=true) (hmx:(bj g rs).length<=50000) (hL:gk A) (hu:bH A 1 u (du l)) (hr:bH A 3 rv (cL rs)) (hp:Proofs A rs):bF Tryz.prog 69 #[.agg #[num (g),u,rv]] A (fun v A1=>v=.tuple #[.bool (gi rs (bj g rs)).1,MR (gi rs (bj g rs)).2.1,num (((gi rs (bj g rs)).2.2:Nat):Int)]/\A.le A1/\A1.wf):=by
 refine gw Tryz.call69 Tryz.func69 Z Tryz.results69 Tryz.ntmps69 Z (fun wf=>?_);have h5:=AH.le.refl A;refine an.seq fun _ h2=>.region<|.l Z (fun _ _ h1 _=>dy wf rfl rfl fun A5 b4 cV=>?_);have f2:=h5.trans cV.le;refine h1 _ _<|.q Z (ae Z)<|.l Z (fun _ _ h3 _=>cu cV.wf yc rfl fun A10 b9 aA=>?_);have aC:=aX wf (Nat.le_trans f2.n aA.lo);have eX:=aA.le.get _ _ cV.get;have az:=f2.trans aA.le;refine h3 _ _<|.q Z (ae Z)<|.nil<|h2 _ _<|.seq fun _ gA=>.region<|.q Z (aq dL dx Z Z eX Z)<|.l Z (fun _ _ fS _=>ax Z (Lq ((g)) u l rv rs A10 (zQ hs) (qL hs) (LM hs) hmx (hL.le az) (hu.le az) (hr.le az) (hp.le az)) ?_);rintro hm A18 ⟨bc,rfl,b6,h8,bu⟩;have eY:=b6.get _ _ eX;have eZ:=b6.get _ _ aA.get;have aS:=az.trans b6;have bS:=bu.base az;have g7:=bu.ne aA.wf aA.get;refine fS _ _<|.q Z (ah Z)<|.q Z (bk Z Z)<|.q Z (bk Z Z)<|.q Z (ae Z)<|.q Z (ae Z)<|.nil<|gA _ _<|.seq fun _ gC=>.seq fun _ gD=>?_;refine an.region<|.q Z (ah Z)<|.q Z (eb Z)<|.nil<|gD _ _<|.cond_false Z<|.skip<|gC _ _<|.seq fun _ gE=>.region ?_;refine Ops.q Z (aq dL dx Z Z eY Z)<|.l Z (fun _ _ fT _=>ax Z (og ((g)) u l rv rs A18 (qL hs) (uw hs) (hu.le aS) (hr.le aS) (hp.le aS)) ?_);rintro hn A34 ⟨h,b8,rfl,b7,ab,b3,aa,aR⟩;have gF:=b7.get _ _ eZ;have bT:=bS.le b7;have g4:=aS.trans b7;have hrow:=b3;have hno:=aa;have hix:=aR;have eC:b4 ≠ h:=fun z=>by have q0:=eY;rw [z,aa] at q0;cases q0
 have ar:b9 ≠ h:=fun z=>by have q0:=eZ;rw [z,aa] at q0;cases q0
 have b2:=qq aS aa;have g8:=yk bS.own aa;refine fT _ _<|.q Z (ae Z)<|.nil<|gE _ _<|.seq fun _ gG=>.seq fun _ gL=>.region<|.q Z (ah Z)<|.q Z (bE (n:=(bj ((g)) rs).length) Rc Z bT.slc O (Db _))<|.q Z (ah Z) ?_;refine Ops.nil<|gL _ _<|.block<|.loop (X:=Nat × Value × Value × Value × Value × Value × Value) (fun ⟨i,y0,y5,y6,y7,y8,y9⟩=>[(3,.pointer (some ⟨b9,0,none⟩)),(7,.pointer (some ⟨h,0,none⟩)),(24,bc),(25,num (((bj ((g)) rs).length:Nat):Int)),(26,num ((i:Nat):Int))]) (fun ⟨i,y0,y5,y6,y7,y8,y9⟩ B=>(i<=(bj g rs).length/\gi rs ((bj g rs).drop i)=gi rs (bj g rs))/\A.le B/\Fresh A B bc 5 (AK (bj ((g)) rs))/\B.get h=some (.row true [y0,num ((g)),u,rv,.map (some b8),y5,y6,y7,y8,y9] 10)/\B.get b9=some (.row true [num ((0:Nat):Int),num ((0:Nat):Int),bi ([]),bi ([]),bi ([])] 5)/\V.blk bc ≠ some h/\V.blk bc ≠ some b9/\(A34.hide [some h]).le B) (fun ⟨i,y0,y5,y6,y7,y8,y9⟩=>(bj g rs).length - i) (⟨0,.slice none 0 0,.slice none 0 0,num ((0:Nat):Int),bi ([]),num ((0:Nat):Int),.slice none 0 0⟩) (pd Z Z Z Z Z) (⟨⟨Nat.zero_le _,Z⟩,g4,bT,b3,gF,g8,g7,(cz A34 [some h])⟩) ?_;rintro ⟨i,y0,y5,y6,y7,y8,y9⟩ B46 ⟨⟨hi,hsc⟩,bp,a9,aB,ay,a2,aY,bv⟩;refine an.wf fun aZ=>.seq fun _ gM=>.region<|.q Z (ca Z Z)<|.nil<|gM _ _<|.seq fun _ gN=>.if rfl (fun h6=>?_) (fun h6=>?_)
 ·refine an.skip<|gN _ _<|.seq fun _ gP=>.block<|.seq fun _ gQ=>.region ?_;obtain ⟨he,hh,hc,hl,hb,hk,hj,gq,h4,gs,f3,ha⟩:=bH.at (i:=i) a9.slc (by simp only [mG];omega) O;refine Ops.q Z (aE Rc jl Z gq Z h4)<|.q Z (aq sg jl Z Z gs (f3.trans (congrArg some (PD O))))<|.l Z (fun _ _ fV _=>cu aZ yc rfl fun A60 hf a4=>?_);have a5:=ne_new aZ aB a4.lo;have bd:=ne_new aZ ay a4.lo;have g9:=a9.own.ne_new aZ a4.lo;have bV:=aX wf (Nat.le_trans bp.n a4.lo);have c3:=aX (ci ab) (Nat.le_trans bv.n a4.lo);have gS:=a4.le.get _ _ aB;have gX:=a4.le.get _ _ ay;have f4:=a9.le a4.le;have g5:=bp.trans a4.le;have g2:=bv.trans a4.le;refine fV _ _<|.l Z (fun _ _ fX _=>bh (cs:=[num (((bj ((g)) rs).getD i .zero).i),num (((bj ((g)) rs).getD i .zero).j),bi (((bj ((g)) rs).getD i .zero).word),bi (((bj ((g)) rs).getD i .zero).u),bi (((bj ((g)) rs).getD i .zero).v)]) (c':=[num (((bj ((g)) rs).getD i .zero).i),num (((bj ((g)) rs).getD i .zero).j),bi (((bj ((g)) rs).getD i .zero).word),bi (((bj ((g)) rs).getD i .zero).u),bi (((bj ((g)) rs).getD i .zero).v)]) a4.wf rfl rfl rfl rfl jl a4.get (Nat.le_of_ble_eq_true rfl) rfl rfl fun A69 a6=>?_);have gY:=a6.keep _ _ a5 gS;have gZ:=a6.keep _ _ bd gX;have f6:=f4.keep a6.keep g9;have g3:=aw g2 (ci ab) c3 a6.n a6.keep;have g6:=aw g5 wf bV a6.n a6.keep;refine fX _ _<|.nil<|gQ _ _<|.seq fun _ h0=>.region<|.q Z (ah Z)<|.q Z (aj PU eO U Z)<|.q Z (ak fA Z Z a6.get Z) ?_;have aT:=ce (bs:=[some h]) g6 (sh b2 nw);have cC:=ce (bs:=[some h]) g3 (sh (cn (by simp)) nw);refine Ops.l Z (fun _ _ g0 _=>ax Z (sL (((bj ((g)) rs).getD i .zero).u) rs l h (((g))) u rv b8 y0 y5 y6 y7 y8 y9 (A69.hide [some h]) A69 (cz A69 [some h]) (ci a6.wf) gY (cn (by simp)) hs (hL.le aT) (hr.le aT) (hp.le aT) (aR.le cC)) ?_);rintro ho A80 ⟨h7,eL,eN,eQ,eS,eT,eV,rfl,ap,av,ag,bD,cX⟩;have fQ:=bW (bs:=[some h]) gZ (o9 ar lJ);have f0:=ap.get _ _ fQ;have fR:=bW (bs:=[some h]) a6.get (o9 a5.symm lJ);have f1:=ap.get _ _ fR;have bU:=f6.off (jJ a2 jI) ap;have f7:=bD.base aT;have cH:=cC.trans ap;have cS:=aT.trans ap;refine g0 _ _<|.q Z (ah Z)<|.q Z (bk Z Z)<|.q Z (bk Z Z)<|.l Z (fun _ _ g1 _=>cu av Ei rfl fun A97 hg a1=>?_);have ad:=ne_new av ag a1.lo;have bl:=ne_new av f0 a1.lo;have ba:=ne_new av f1 a1.lo;have gc:=bU.own.ne_new av a1.lo;have bY:=aX wf (Nat.le_trans cS.n a1.lo);have c4:=aX (ci ab) (Nat.le_trans cH.n a1.lo);have f9:=a1.le.get _ _ ag;have fd:=a1.le.get _ _ f0;have fe:=a1.le.get _ _ f1;have dv:=bU.le a1.le;have dw:=f7.le a1.le;have eg:=cS.trans a1.le;have e7:=cH.trans a1.le;refine g1 _ _ ?_;obtain ⟨cZ,cK,bP,gl,_⟩:=dw.own.slice;subst gl;refine Ops.l Z (fun _ _ dZ _=>bh (cs:=[bi ((fh (eM rs (((bj ((g)) rs).getD i .zero).u))).word),num (((fh (eM rs (((bj ((g)) rs).getD i .zero).u))).steps:Nat):Int),.slice cZ cK bP]) (c':=[bi ((fh (eM rs (((bj ((g)) rs).getD i .zero).u))).word),num (((fh (eM rs (((bj ((g)) rs).getD i .zero).u))).steps:Nat):Int),.slice cZ cK bP]) a1.wf rfl rfl rfl rfl ia a1.get (Nat.le_of_ble_eq_true rfl) rfl rfl fun A110 a3=>?_);have fi:=a3.keep _ _ ad f9;have fl:=a3.keep _ _ bl fd;have c7:=a3.keep _ _ ba fe;have dz:=dv.keep a3.keep gc;have e9:=aw e7 (ci ab) c4 a3.n a3.keep;have en:=aw eg wf bY a3.n a3.keep;refine dZ _ _<|.q Z (ae Z)<|.nil<|h0 _ _<|.seq fun _ fm=>.region<|.q Z (ah Z)<|.q Z (aj PW eO U Z)<|.q Z (ak fA Z Z c7 Z) ?_;have ai:=ce (bs:=[some h]) en (sh b2 nw);have bA:=ce (bs:=[some h]) e9 (sh (cn (by simp)) nw);refine Ops.l Z (fun _ _ e0 _=>ax Z (sL (((bj ((g)) rs).getD i .zero).v) rs l h (((g))) u rv b8 eL eN eQ eS eT eV (A110.hide [some h]) A110 (cz A110 [some h]) (ci a3.wf) fi (cn (by simp)) hs (hL.le ai) (hr.le ai) (hp.le ai) (aR.le bA)) ?_);rintro hd A123 ⟨gp,d1,d2,d3,dd,di,dj,rfl,a7,a8,ac,bm,bO⟩;have dS:=bW (bs:=[some h]) fl (o9 ar lJ);have cc:=a7.get _ _ dS;have dV:=bW (bs:=[some h]) c7 (o9 a5.symm lJ);have ch:=a7.get _ _ dV;have dW:=bW (bs:=[some h]) a3.get (o9 ad.symm lJ);have ck:=a7.get _ _ dW;have br:=dz.off (jJ a2 jI) a7;have dD:=bm.base ai;have bB:=bA.trans a7;have bC:=ai.trans a7;refine e0 _ _<|.q Z (ah Z)<|.q Z (bk Z Z)<|.q Z (bk Z Z)<|.l Z (fun _ _ e1 _=>cu a8 Ei rfl fun A145 h9 D=>?_);have aV:=ne_new a8 ac D.lo;have bb:=ne_new a8 cc D.lo;have b0:=ne_new a8 ch D.lo;have b1:=ne_new a8 ck D.lo;have eG:=br.own.ne_new a8 D.lo;have bL:=aX wf (Nat.le_trans bC.n D.lo);have bM:=aX (ci ab) (Nat.le_trans bB.n D.lo);have fn:=D.le.get _ _ ac;have fo:=D.le.get _ _ cc;have fq:=D.le.get _ _ ch;have fr:=D.le.get _ _ ck;have dI:=br.le D.le;have dJ:=dD.le D.le;have ev:=bC.trans D.le;have ea:=bB.trans D.le;refine e1 _ _ ?_;obtain ⟨d0,cP,bR,gm,_⟩:=dJ.own.slice;subst gm;refine Ops.l Z (fun _ _ e2 _=>bh (cs:=[bi ((fh (eM rs (((bj ((g)) rs).getD i .zero).v))).word),num (((fh (eM rs (((bj ((g)) rs).getD i .zero).v))).steps:Nat):Int),.slice d0 cP bR]) (c':=[bi ((fh (eM rs (((bj ((g)) rs).getD i .zero).v))).word),num (((fh (eM rs (((bj ((g)) rs).getD i .zero).v))).steps:Nat):Int),.slice d0 cP bR]) D.wf rfl rfl rfl rfl ia D.get (Nat.le_of_ble_eq_true rfl) rfl rfl fun A161 a0=>?_);have ft:=a0.keep _ _ aV fn;have b5:=a0.keep _ _ bb fo;have fv:=a0.keep _ _ b0 fq;have fD:=a0.keep _ _ b1 fr;have dO:=dI.keep a0.keep eG;have ec:=aw ea (ci ab) bM a0.n a0.keep;have aD:=aw ev wf bL a0.n a0.keep;refine e2 _ _<|.q Z (ae Z)<|.nil<|fm _ _<|.seq fun _ fE=>.seq fun _ cv=>.region<|.q Z (ah Z)<|.q Z (eb Z)<|.q Z (ah Z) ?_;refine Ops.partB (t:=46) Z (fun ge=>?_) (fun ge=>?_)
  ·refine Ops.off Z Z Z Z<|.off Z Z Z Z<|.q Z (aL Z Z)<|.nil<|cv _ _<|.cond_true Z<|.seq fun _ fI=>.region<|.q Z (dr Z (bI QW yc BK Z))<|.q Z (ae Z) ?_;refine Ops.l Z (fun _ _ e3 _=>bh (cs:=[num ((0:Nat):Int),num ((0:Nat):Int),bi ([]),bi ([]),bi ([])]) (c':=[num ((0:Nat):Int),num ((0:Nat):Int),bi ([]),bi ([]),bi ([])]) a0.wf rfl rfl rfl rfl jl b5 (Nat.le_of_ble_eq_true rfl) rfl rfl fun A180 aF=>?_);have ex:=aw aD wf aC aF.n aF.keep;refine e3 _ _<|.q Z (ae Z)<|.nil<|fI _ _<|.ret ?_;repeat first | with_reducible refine bJ ?_ | with_reducible refine bx ?_
   exact aK (ff Z (ew sg jl Z aF.get Z (ff Z fY))) (⟨by (rw [zL O hsc (by first | exact .inl ‹_› | exact .inr ‹_›)];rfl),ex,aF.wf⟩)
  refine Ops.on Z Z<|.q Z (ah Z)<|.on Z Z<|.q Z (eb Z)<|.q Z (aW Z Z)<|.nil<|cv _ _<|.ifB Z (fun gf=>?_) (fun gf=>?_)
  ·refine an.seq fun _ fL=>.region<|.q Z (dr Z (bI QW yc BK Z))<|.q Z (ae Z)<|.l Z (fun _ _ e4 _=>bh (cs:=[num ((0:Nat):Int),num ((0:Nat):Int),bi ([]),bi ([]),bi ([])]) (c':=[num ((0:Nat):Int),num ((0:Nat):Int),bi ([]),bi ([]),bi ([])]) a0.wf rfl rfl rfl rfl jl b5 (Nat.le_of_ble_eq_true rfl) rfl rfl fun A194 aG=>?_);have ey:=aw aD wf aC aG.n aG.keep;refine e4 _ _<|.q Z (ae Z)<|.nil<|fL _ _<|.ret ?_;repeat first | with_reducible refine bJ ?_ | with_reducible refine bx ?_
   exact aK (ff Z (ew sg jl Z aG.get Z (ff Z fY))) (⟨by (rw [zL O hsc (by first | exact .inl ‹_› | exact .inr ‹_›)];rfl),ey,aG.wf⟩)
  refine an.skip<|fE _ _<|.seq fun _ fM=>.region<|.q Z (aj pw eO U Z)<|.q Z (ak fA Z Z fD Z)<|.q Z (aj pw eO U Z)<|.q Z (ak fA Z Z a0.get Z)<|.q Z (lm Z Z)<|.nil ?_;refine fM _ _<|.if rfl (fun gg=>?_) (fun gg=>?_)
  ·refine an.seq fun _ fN=>.drawn [0,1,2,3] mixed Y Y Z<|.q Z Z Z (aq sg jl Z Z fv Z)<|.q Z Z Z (ae Z)<|.l Z Z Z (fun _ _ e5 _=>bh (cs:=[num (((bj ((g)) rs).getD i .zero).i),num (((bj ((g)) rs).getD i .zero).j),bi (((bj ((g)) rs).getD i .zero).word),bi (((bj ((g)) rs).getD i .zero).u),bi (((bj ((g)) rs).getD i .zero).v)]) (c':=[num (((bj ((g)) rs).getD i .zero).i),num (((bj ((g)) rs).getD i .zero).j),bi (((bj ((g)) rs).getD i .zero).word),bi (((bj ((g)) rs).getD i .zero).u),bi (((bj ((g)) rs).getD i .zero).v)]) a0.wf rfl rfl rfl rfl jl b5 (Nat.le_of_ble_eq_true rfl) rfl rfl fun A215 aI=>?_);have ez:=aw aD wf aC aI.n aI.keep;refine e5 _ _ (aU.none Y)<|.q Z Z Z (ae Z)<|.done<|fN _ _<|.ret ?_;repeat first | with_reducible refine bJ ?_ | with_reducible refine bx ?_
   exact aK (ff Z (ew sg jl Z aI.get Z (ff Z fY))) (⟨by (rw [LC O hsc ‹_› ‹_› ‹_›];rfl),ez,aI.wf⟩)
  refine an.skip<|gP _ _<|.region<|.q Z (bz (b:=1) Z Z O)<|.q Z (ah Z)<|.nil ?_;exact ⟨⟨i + 1,d1,d2,d3,dd,di,dj⟩,pd Z Z Z Z Z,Z,⟨⟨by omega,GV O hsc ‹_› ‹_› ‹_›⟩,aD,dO,ft,b5,a2,aY,ec⟩,O1⟩
 refine an.exit<|gG _ _<|.seq fun _ fO=>.region<|.q Z (dr Z (bI QW yc BK Z))<|.q Z (ae Z)<|.l Z (fun _ _ e6 _=>bh (cs:=[num ((0:Nat):Int),num ((0:Nat):Int),bi ([]),bi ([]),bi ([])]) (c':=[num ((0:Nat):Int),num ((0:Nat):Int),bi ([]),bi ([]),bi ([])]) aZ rfl rfl rfl rfl jl ay (Nat.le_of_ble_eq_true rfl) rfl rfl fun A228 aP=>?_);have eA:=aw bp wf aC aP.n aP.keep;refine e6 _ _<|.q Z (ae Z)<|.nil<|fO _ _<|.ret ?_;repeat first | with_reducible refine bJ ?_ | with_reducible refine bx ?_
 exact aK (ff Z (ew sg jl Z aP.get Z (ff Z fY))) (⟨by (rw [LD O hsc];rfl),eA,aP.wf⟩)

theorem xH (g:Int) (u:Value) (l:List (List UInt8)) (rv:Value) (rs:List bg) (A:AH) (hn:l.length<=9223372036854775807) (hm:rs.length<=9223372036854775807) (hmx:cw g l rs=true->(bj g rs).length<=50000) (hL:gk A) (hu:bH A 1 u (du l)) (hr:bH A 3 rv (cL rs)) (hp:Proofs A rs):bF Tryz.prog 28 #[.agg #[num (g),u,rv]] A (fun v A1=>v=.tuple #[.bool (fk g l rs).1,MR (fk g l rs).2.1,num (((fk g l rs).2.2:Nat):Int)]/\A.le A1/\A1.wf):=by
 refine gw Tryz.call28 Tryz.func28 Z Tryz.results28 Tryz.ntmps28 Z (fun wf=>?_);have aF:=AH.le.refl A;refine an.seq fun _ h2=>.region<|.l Z (fun _ _ aC _=>dy wf rfl rfl fun A5 b4 a4=>?_);have a9:=aF.trans a4.le;refine aC _ _<|.q Z (ae Z)<|.l Z (fun _ _ aD _=>cu a4.wf yc rfl fun A10 b9 X=>?_);have a2:=aX wf (Nat.le_trans a9.n X.lo);have a7:=X.le.get _ _ a4.get;have D:=a9.trans X.le;refine aD _ _<|.q Z (ae Z)<|.nil<|h2 _ _<|.seq fun _ ar=>.seq fun _ av=>.region<|.q Z (aq dL dx Z Z a7 Z)<|.l Z (fun _ _ aa _=>ax Z (jw ((g)) u l rv rs A10 hn hm (hL.le D) (hu.le D) (hr.le D) (hp.le D)) ?_);rintro aI A20 ⟨rfl,V,a5⟩;have ay:=V.get _ _ a7;have a8:=V.get _ _ X.get;have h:=D.trans V;refine aa _ _<|.q Z (eb Z)<|.nil<|av _ _<|.ifB Z (fun aG=>?_) (fun aG=>?_)
 ·refine an.seq fun _ az=>.region<|.q Z (dr Z (bI QW yc BK Z))<|.q Z (ae Z)<|.l Z (fun _ _ ab _=>bh (cs:=[num ((0:Nat):Int),num ((0:Nat):Int),bi ([]),bi ([]),bi ([])]) (c':=[num ((0:Nat):Int),num ((0:Nat):Int),bi ([]),bi ([]),bi ([])]) a5 rfl rfl rfl rfl jl a8 (Nat.le_of_ble_eq_true rfl) rfl rfl fun A29 a0=>?_);have ag:=aw h wf a2 a0.n a0.keep;refine ab _ _<|.q Z (ae Z)<|.nil<|az _ _<|.ret ?_;repeat first | with_reducible refine bJ ?_ | with_reducible refine bx ?_
  exact aK (ff Z (ew sg jl Z a0.get Z (ff Z fY))) (⟨by (rw [MN ‹_›];rfl),ag,a0.wf⟩)
 refine an.skip<|ar _ _<|.seq fun _ aA=>.region<|.q Z (aq dL dx Z Z ay Z)<|.l Z (fun _ _ ac _=>ax Z (OC ((g)) u l rv rs A20 (by simpa using ‹(!cw g l rs)=false›) (hmx (by simpa using ‹(!cw g l rs)=false›)) (hL.le h) (hu.le h) (hr.le h) (hp.le h)) ?_);rintro aP A37 ⟨rfl,a3,a6⟩;have aB:=a3.get _ _ a8;have ai:=h.trans a3;refine ac _ _<|.q Z (bk Z Z)<|.q Z (bk Z Z)<|.q Z (bk Z Z)<|.q Z (ae Z)<|.l Z (fun _ _ ad _=>bh (cs:=[num ((gi rs (bj ((g)) rs)).2.1.i),num ((gi rs (bj ((g)) rs)).2.1.j),bi ((gi rs (bj ((g)) rs)).2.1.word),bi ((gi rs (bj ((g)) rs)).2.1.u),bi ((gi rs (bj ((g)) rs)).2.1.v)]) (c':=[num ((gi rs (bj ((g)) rs)).2.1.i),num ((gi rs (bj ((g)) rs)).2.1.j),bi ((gi rs (bj ((g)) rs)).2.1.word),bi ((gi rs (bj ((g)) rs)).2.1.u),bi ((gi rs (bj ((g)) rs)).2.1.v)]) a6 rfl rfl rfl rfl jl aB (Nat.le_of_ble_eq_true rfl) rfl rfl fun A43 a1=>?_);have ap:=aw ai wf a2 a1.n a1.keep;refine ad _ _<|.q Z (ae Z)<|.nil<|aA _ _<|.ret ?_;repeat first | with_reducible refine bJ ?_ | with_reducible refine bx ?_
 exact aK (ff Z (ew sg jl Z a1.get Z (ff Z fY))) (⟨by (rw [MO ‹_›];rfl),ap,a1.wf⟩)

theorem Oe (g:Int) (u:Value) (l:List (List UInt8)) (rv:Value) (rs:List bg) (A:AH) (hn:l.length<=9223372036854775807) (hm:rs.length<=9223372036854775807) (hmx:cw g l rs=true->(bj g rs).length<=50000) (hL:gk A) (hu:bH A 1 u (du l)) (hr:bH A 3 rv (cL rs)) (hp:Proofs A rs):bF Tryz.prog 30 #[.agg #[num (g),u,rv]] A (fun v A1=>v=.tuple #[.bool (mF g l rs).1,num (((mF g l rs).2:Nat):Int)]/\A.le A1/\A1.wf):=by
 refine gw Tryz.call30 Tryz.func30 Z Tryz.results30 Tryz.ntmps30 Z (fun wf=>?_);have di:=AH.le.refl A;refine an.seq fun _ h2=>.region<|.l Z (fun _ _ d3 _=>dy wf rfl rfl fun A5 b4 b6=>?_);have ab:=di.trans b6.le;refine d3 _ _<|.q Z (ae Z)<|.q Z (ae Z)<|.nil<|h2 _ _<|.seq fun _ h9=>.region<|.q Z (aq dL dx Z Z b6.get Z)<|.l Z (fun _ _ bB _=>ax Z (xH ((g)) u l rv rs A5 hn hm hmx (hL.le ab) (hu.le ab) (hr.le ab) (hp.le ab)) ?_);rintro e3 A12 ⟨rfl,ai,ay⟩;have bc:=ai.get _ _ b6.get;have b2:=ab.trans ai;refine bB _ _<|.q Z (ah Z)<|.q Z (bk Z Z)<|.q Z (bk Z Z)<|.q Z (bk Z Z)<|.l Z (fun _ _ bC _=>cu ay yc rfl fun A18 bV a3=>?_);have ac:=ne_new ay bc a3.lo;have aS:=aX wf (Nat.le_trans b2.n a3.lo);have c4:=a3.le.get _ _ bc;have bS:=b2.trans a3.le;refine bC _ _<|.q Z (ae Z)<|.l Z (fun _ _ bD _=>bh (cs:=[num ((fk ((g)) l rs).2.1.i),num ((fk ((g)) l rs).2.1.j),bi ((fk ((g)) l rs).2.1.word),bi ((fk ((g)) l rs).2.1.u),bi ((fk ((g)) l rs).2.1.v)]) (c':=[num ((fk ((g)) l rs).2.1.i),num ((fk ((g)) l rs).2.1.j),bi ((fk ((g)) l rs).2.1.word),bi ((fk ((g)) l rs).2.1.u),bi ((fk ((g)) l rs).2.1.v)]) a3.wf rfl rfl rfl rfl jl a3.get (Nat.le_of_ble_eq_true rfl) rfl rfl fun A23 a5=>?_);have aY:=a5.keep _ _ ac c4;have a2:=aw bS wf aS a5.n a5.keep;refine bD _ _<|.q Z (ae Z)<|.nil<|h9 _ _<|.seq fun _ c7=>.seq fun _ cc=>.region<|.q Z (ah Z)<|.q Z (eI (b:=0) Z Z)<|.nil ?_;refine cc _ _<|.if rfl (fun dj=>?_) (fun dj=>?_)
 ·refine an.seq fun _ ch=>.region<|.q Z (ah Z)<|.q Z (ae Z)<|.q Z (ae Z)<|.nil<|ch _ _<|.rt (by exact aK Z (⟨by (rw [I3 ‹_›];rfl),a2,a5.wf⟩))
 refine an.skip<|c7 _ _<|.seq fun _ ck=>.region<|.q Z (aq dL dx Z Z aY Z)<|.l Z (fun _ _ bL _=>ax Z (og ((g)) u l rv rs A23 (qL (qZ ‹_›)) (uw (qZ ‹_›)) (hu.le a2) (hr.le a2) (hp.le a2)) ?_);rintro e4 A38 ⟨h,av,rfl,ap,az,a7,a0,a9⟩;have cv:=ap.get _ _ aY;have b3:=a2.trans ap;have hrow:=a7;have hno:=a0;have hix:=a9;have ba:b4 ≠ h:=fun z=>by have q0:=aY;rw [z,a0] at q0;cases q0
 have b8:bV ≠ h:=fun z=>by have q0:=a5.get;rw [z,a0] at q0;cases q0
 have aR:=qq a2 a0;refine bL _ _<|.q Z (ae Z)<|.nil<|ck _ _<|.seq fun _ cC=>.region<|.q Z (ae Z)<|.nil<|cC _ _<|.seq fun _ cH=>?_;refine an.seq fun _ cK=>.region<|.q Z (aj fw f8 U Z)<|.q Z (aj e8 kS U Z)<|.q Z (ak ky Z Z cv Z)<|.q Z (bE (n:=l.length) kU Z (hu.le b3) O (dG _))<|.q Z (ah Z)<|.nil<|cK _ _<|.block ?_;refine an.loop (X:=Nat × Bool × Value × Value × Value × Value × Value × Value) (fun ⟨i,t,y0,y5,y6,y7,y8,y9⟩=>[(4,.bool ((fk ((g)) l rs).1)),(7,.pointer (some ⟨h,0,none⟩)),(8,.bool (t)),(26,u),(27,num ((l.length:Nat):Int)),(28,num ((i:Nat):Int))]) (fun ⟨i,t,y0,y5,y6,y7,y8,y9⟩ B=>(i<=l.length/\lq rs t (l.drop i)=lq rs true l)/\A.le B/\B.get h=some (.row true [y0,num ((g)),u,rv,.map (some av),y5,y6,y7,y8,y9] 10)/\(A38.hide [some h]).le B) (fun ⟨i,t,y0,y5,y6,y7,y8,y9⟩=>l.length - i) (⟨0,true,.slice none 0 0,.slice none 0 0,num ((0:Nat):Int),bi ([]),num ((0:Nat):Int),.slice none 0 0⟩) (Dg Z Z Z Z Z Z) (⟨⟨Nat.zero_le _,Z⟩,b3,a7,(cz A38 [some h])⟩) ?_;rintro ⟨i,t,y0,y5,y6,y7,y8,y9⟩ B50 ⟨⟨hi,hsc⟩,a8,aa,b9⟩;refine an.wf fun ag=>.seq fun _ cP=>.region<|.q Z (ca Z Z)<|.nil<|cP _ _<|.seq fun _ cS=>.if rfl (fun dv=>?_) (fun dv=>?_)
 ·refine an.skip<|cS _ _<|.seq fun _ bd=>.block<|.seq fun _ cV=>.region ?_;obtain ⟨dV,dZ,dS,e2,dO,e1,e0,bY,dd,c3,dJ,bu⟩:=bH.at (i:=i) (hu.le a8) Ok O;refine Ops.q Z (aE kU eO Z bY Z dd)<|.q Z (ak fA Z Z c3 ((cN bu).trans (eh O)))<|.q Z (ae Z)<|.nil<|cV _ _<|.seq fun _ cX=>.region<|.q Z (ah Z)<|.q Z (ah Z) ?_;have a4:=ce (bs:=[some h]) a8 (sh aR nw);have aZ:=ce (bs:=[some h]) b9 (sh (cn (by simp)) nw);refine Ops.l Z (fun _ _ bM _=>ax Z (sL (l.getD i []) rs l h (((g))) u rv av y0 y5 y6 y7 y8 y9 (B50.hide [some h]) B50 (cz B50 [some h]) (ci ag) aa (cn (by simp)) (qZ ‹_›) (hL.le a4) (hr.le a4) (hp.le a4) (a9.le aZ)) ?_);rintro e5 A66 ⟨dI,aB,aC,aD,aF,aG,aI,rfl,ar,aA,a1,aP,b7⟩;have bv:=aP.base a4;have b0:=aZ.trans ar;have b5:=a4.trans ar;refine bM _ _<|.q Z (ah Z)<|.q Z (bk Z Z)<|.q Z (bk Z Z)<|.l Z (fun _ _ bO _=>cu aA Ei rfl fun A75 dW D=>?_);have a6:=ne_new aA a1 D.lo;have aT:=aX wf (Nat.le_trans b5.n D.lo);have aV:=aX (ci az) (Nat.le_trans b0.n D.lo);have cZ:=D.le.get _ _ a1;have bA:=bv.le D.le;have bT:=b5.trans D.le;have bR:=b0.trans D.le;refine bO _ _ ?_;obtain ⟨br,bp,bb,dD,_⟩:=bA.own.slice;subst dD;refine Ops.l Z (fun _ _ bP _=>bh (cs:=[bi ((fh (eM rs (l.getD i []))).word),num (((fh (eM rs (l.getD i []))).steps:Nat):Int),.slice br bp bb]) (c':=[bi ((fh (eM rs (l.getD i []))).word),num (((fh (eM rs (l.getD i []))).steps:Nat):Int),.slice br bp bb]) D.wf rfl rfl rfl rfl ia D.get (Nat.le_of_ble_eq_true rfl) rfl rfl fun A84 V=>?_);have bl:=V.keep _ _ a6 cZ;have b1:=aw bR (ci az) aV V.n V.keep;have ad:=aw bT wf aT V.n V.keep;refine bP _ _<|.q Z (ae Z)<|.nil<|cX _ _<|.seq fun _ d0=>.seq fun _ d1=>.region<|.q Z (ah Z)<|.q Z (eb Z)<|.nil ?_;refine d1 _ _<|.ifB Z (fun dw=>?_) (fun dw=>?_)
  ·refine an.seq fun _ d2=>.region<|.q Z (ae Z)<|.q Z (ae Z)<|.nil<|d2 _ _<|.rt (by exact aK Z (⟨by (rw [I4 ‹_› (GU O hsc ‹_›)];rfl),ad,V.wf⟩))
  refine an.skip<|d0 _ _<|.region<|.q Z (ah Z)<|.q Z (ah Z)<|.partB (t:=41) Z (fun dz=>?_) (fun dz=>?_)
  ·refine Ops.on Z Z<|.q Z (aj pw eO U Z)<|.on Z Z<|.q Z (ak fA Z Z V.get Z)<|.on Z Z<|.q Z (mn Z Z)<|.q Z (aL Z Z)<|.q Z (ae Z)<|.nil<|bd _ _ ?_;refine an.region<|.q Z (bz (b:=1) Z Z O)<|.q Z (ah Z)<|.nil ?_;exact ⟨⟨i + 1,decide ((fh (eM rs (l.getD i []))).word=[]),aB,aC,aD,aF,aG,aI⟩,Dg Z Z Z Z Z Z,Z,⟨⟨by omega,by have:=ur O hsc ‹_›;simp_all⟩,ad,bl,b1⟩,O1⟩
  refine Ops.off Z Z Z Z<|.off Z Z Z Z<|.off Z Z Z Z<|.q Z (aW Z Z)<|.q Z (ae Z)<|.nil<|bd _ _<|.region<|.q Z (bz (b:=1) Z Z O)<|.q Z (ah Z) ?_;refine Ops.nil ?_;exact ⟨⟨i + 1,false,aB,aC,aD,aF,aG,aI⟩,Dg Z Z Z Z Z Z,Z,⟨⟨by omega,by have:=ur O hsc ‹_›;simp_all⟩,ad,bl,b1⟩,O1⟩
 refine an.exit<|cH _ _<|.seq fun _ bm=>.region<|.q Z (ah Z)<|.q Z (ah Z)<|.partB (t:=48) Z (fun bU=>?_) (fun bU=>?_)
 ·refine Ops.on Z Z<|.q Z (ah Z)<|.q Z (aL Z Z)<|.q Z (ae Z)<|.q Z (ae Z)<|.nil<|bm _ _<|.rt (by exact aK Z (⟨by (rw [yq ‹_› (we O hsc)];simp_all [dR]),a8,ag⟩))
 refine Ops.off Z Z Z Z<|.q Z (aW Z Z)<|.q Z (ae Z)<|.q Z (ae Z)<|.nil<|bm _ _<|.rt (by exact aK Z (⟨by (rw [yq ‹_› (we O hsc)];simp_all [dR]),a8,ag⟩))
end Go.Proofs.YtjppkekmddjcfaaGreatDoor

namespace Go.Proofs.YtjppkekmddjcfaaGreatDoor
open Go Go.RowKit V
def d6 (l:List Value):List Value:=l
theorem cm (l:List Value):(d6 l).length=l.length:=rfl
theorem ir (l:List Value):(d6 l).length=l.length * 1:=by simp [d6]
theorem eo {l:List Value} {i:Nat} (h:i < l.length):(d6 l)[i]? = some (l.getD i undef):=by simp [d6,h]
theorem od (a b:List Value):d6 a ++ d6 b=d6 (a ++ b):=rfl
theorem Kr (a:List Value) (n:Nat) (c:Value):(d6 a).set n c=d6 (a.set n c):=rfl
structure gy (A0 A:AH) (rows:List Value) (L:List (List Int)):Prop where
  len:rows.length=L.length
  fr:∀ i,i < L.length->Fresh A0 A (rows.getD i undef) 1 (cI (L.getD i []))
  sp:∀ i j,i < L.length->j < L.length->i ≠ j->bw (rows.getD i undef) (rows.getD j undef)
def dA (rows:List Value) (b:Nat):Prop:=∀ r ∈ rows,blk r ≠ some b
def aM (v:Value) (rows:List Value):Prop:=∀ r ∈ rows,bw v r
theorem lI {A0 A:AH} {rows:List Value} {L L':List (List Int)} (h:gy A0 A rows L) (e:L=L'):gy A0 A rows L':=e ▸ h
theorem _root_.Go.Proofs.YtjppkekmddjcfaaGreatDoor.V.Fresh.at1 {A0 A:AH} {v:Value} {xs:List Value} {x:Nat} (fr:Fresh A0 A v 1 xs) (hx:x < xs.length):∃ b n c r rcap,v=.slice (some ⟨b,0,none⟩) n c/\n=xs.length/\A.get b=some (.row true r rcap)/\x < r.length/\A0.get b=none/\r.take n=xs /\
    ∀ (w:Value) A1,se A A1 b (.row true (r.set x w) rcap)->Fresh A0 A1 v 1 (xs.set x w):=by
  obtain ⟨b,n,c,e,h1,h2⟩:=fr.nonnil (by intro q;rw [q] at hx;simp at hx)
  have lo:=fr.lo b (by rw [e];rfl)
  subst e
  obtain ⟨r,rcap,g,h3,h4⟩:=fr.row
  rw [Nat.mul_one] at h1 h3
  have hl:n<=r.length:=by have:=congrArg List.length h3;rw [List.length_take] at this;omega
  exact ⟨b,n,c,r,rcap,rfl,h1,g,by omega,lo,h3,fun w A1 sb=>fr.setc g sb⟩
section
variable {A0 A A1:AH} {rows:List Value} {L:List (List Int)} {b s x:Nat} {v v':Value} {size:Nat} {xs:List Value} {r:List Int} {o:fp}
theorem mo {p:Value->Prop} (hl:rows.length=L.length) (h:∀ i,i < L.length->p (rows.getD i undef)):∀ r ∈ rows,p r:=fun r hr=>by
  obtain ⟨i,hi,rfl⟩:=List.getElem_of_mem hr
  have:=h i O
  simpa [hi] using this
theorem dQ {p:Value->Prop} (h:∀ r ∈ rows,p r) (hi:s < rows.length):p (rows.getD s undef):=h _ (bq (d:=undef) hi)
theorem gy.nil:gy A0 A [] []:=⟨rfl,(fun _ h=>by cases h),(fun _ _ h=>by cases h)⟩
theorem gy.le (h:gy A0 A rows L) (le:A.le A1):gy A0 A1 rows L:=⟨h.len,fun i hi=>(h.fr i hi).le le,h.sp⟩
theorem gy.base {M:AH} (h:gy M A rows L) (le:A0.le M):gy A0 A rows L:=⟨h.len,fun i hi=>(h.fr i hi).base le,h.sp⟩
theorem gy.keep (h:gy A0 A rows L) (k:∀ b' o,b' ≠ b->A.get b'=some o->A1.get b'=some o) (n:dA rows b):gy A0 A1 rows L :=
  ⟨h.len,fun i hi=>(h.fr i hi).keep k (dQ n (by rw [h.len];exact hi)),h.sp⟩
theorem gy.appd {zs:List Value} {n:Nat} (h:gy A0 A rows L) (ap:lD A v n zs v' A1) (hs:aM v rows):gy A0 A1 rows L :=
  ⟨h.len,fun i hi=>(h.fr i hi).appd ap (dQ hs (by rw [h.len];exact hi)),h.sp⟩
theorem aM.nil:aM (.slice none 0 0) rows:=fun _ _=>bw.nil
theorem aM.empty:aM v []:=fun _ h=>by cases h
theorem aM.appd {zs:List Value} {n:Nat} (hs:aM v rows) (h:gy A0 A rows L) (wf:A.wf) (ap:lD A v n zs v' A1):aM v' rows :=
  mo h.len fun i hi=>bw.appd (dQ hs (by rw [h.len];exact hi)) (h.fr i hi).own wf ap
theorem aM.new {n c:Nat} (h:dA rows b):aM (.slice (some ⟨b,0,none⟩) n c) rows:=fun r hr k hk hq=>by cases hk;exact h r hr hq
theorem aM.fresh {n:Nat} (h:gy A0 A rows L) (fr:Fresh A A1 v n xs):aM v rows:=mo h.len fun i hi c hv hc=>by
  obtain ⟨o,ho⟩:=(h.fr i hi).own.blkget hc
  rw [fr.lo c hv] at ho;cases ho
theorem gy.ne_new (h:gy A0 A rows L) (wf:A.wf) (hb:A.n<=b):dA rows b:=mo h.len fun i hi=>(h.fr i hi).own.ne_new wf hb
theorem gy.ne (h:gy A0 A rows L) (hb:A0.get b=some o):dA rows b:=mo h.len fun i hi=>(h.fr i hi).seph hb
theorem dA.snoc (h:dA rows b) (hv:V.blk v ≠ some b):dA (rows ++ [v]) b:=fun r hr=>by
  rcases List.mem_append.1 hr with q | q
  · exact h r q
  · rw [List.mem_singleton] at q;subst q;exact hv
theorem aM.snoc {u:Value} (h:aM u rows) (hv:bw u v):aM u (rows ++ [v]):=fun r hr=>by
  rcases List.mem_append.1 hr with q | q
  · exact h r q
  · rw [List.mem_singleton] at q;subst q;exact hv
theorem gy.snoc (h:gy A0 A rows L) (fr:Fresh A0 A v 1 (cI r)) (hs:aM v rows):gy A0 A (rows ++ [v]) (L ++ [r]):=by
  have e1:∀ i,i < L.length->(rows ++ [v]).getD i undef=rows.getD i undef:=fun i hi=>by simp [List.getElem?_append_left (show i < rows.length by rw [h.len];exact hi)]
  have e2:(rows ++ [v]).getD L.length undef=v:=by rw [<- h.len];simp
  have e3:∀ i,i < L.length->(L ++ [r]).getD i []=L.getD i []:=fun i hi=>by simp [List.getElem?_append_left hi]
  have e4:(L ++ [r]).getD L.length []=r:=by simp
  refine ⟨by simp [h.len],fun i hi=>?_,fun i j hi hj hij=>?_⟩
  · rcases Nat.lt_or_ge i L.length with q | q
    · rw [e1 i q,e3 i q];exact h.fr i q
    · obtain rfl:i=L.length:=by simp at hi;omega
      rw [e2,e4];exact fr
  · rcases Nat.lt_or_ge i L.length with q | q
    · rcases Nat.lt_or_ge j L.length with q2 | q2
      · rw [e1 i q,e1 j q2];exact h.sp i j q q2 hij
      · obtain rfl:j=L.length:=by simp at hj;omega
        rw [e1 i q,e2];exact (dQ hs (by rw [h.len];exact q)).symm
    · obtain rfl:i=L.length:=by simp at hi;omega
      rcases Nat.lt_or_ge j L.length with q2 | q2
      · rw [e2,e1 j q2];exact dQ hs (by rw [h.len];exact q2)
      · obtain rfl:j=L.length:=by simp at hj;omega
        exact absurd Z hij
theorem gy.hideAll {l:List (Option Nat)} (h:gy A0 A rows L):gy (A.hide (l ++ rows.map V.blk)) A rows L :=
  ⟨h.len,fun i hi=>(h.fr i hi).hide (List.mem_append.2 (.inr (List.mem_map.2 ⟨_,bq (d:=undef) (by rw [h.len];exact hi),rfl⟩))),h.sp⟩
theorem Bf {l:List (Option Nat)} (t:∀ b,some b ∈ l->A0.get b=none) (h:gy A0 A rows L):∀ b,some b ∈ l ++ rows.map V.blk->A0.get b=none:=fun b hb=>by
  rcases List.mem_append.1 hb with q | q
  · exact t b q
  · obtain ⟨r,hr,e⟩:=List.mem_map.1 q
    exact mo (p:=fun r=>∀ b,V.blk r=some b->A0.get b=none) h.len (fun i hi=>(h.fr i hi).lo) r hr b e
theorem xi {l:List (Option Nat)} {k:Nat} (t:some k ∉ l) (h:dA rows k):some k ∉ l ++ rows.map V.blk:=fun hb=>by
  rcases List.mem_append.1 hb with q | q
  · exact t q
  · obtain ⟨r,hr,e⟩:=List.mem_map.1 q
    exact h r hr e
theorem lj {l:List (Option Nat)} {u:Value} (t:Il u l) (h:aM u rows):Il u (l ++ rows.map V.blk):=fun c hc hb=>by
  rcases List.mem_append.1 hb with q | q
  · exact t c hc q
  · obtain ⟨r,hr,e⟩:=List.mem_map.1 q
    exact h r hr c hc e
theorem gy.sepOff {bs:List (Option Nat)} {u:Value} {n:Nat} (h:gy (A.hide bs) A1 rows L) (hu:nu A u n xs) (o:Il u bs):aM u rows:=mo h.len fun i hi=>((h.fr i hi).sep hu o).symm
theorem ER {k i:Nat} (h:i < k):(List.replicate i (-1:Int) ++ List.replicate (k - i) 0).set i (-1)=List.replicate (i + 1) (-1) ++ List.replicate (k - (i + 1)) 0:=by
  rw [List.set_append_right _ _ (by simp),List.length_replicate,Nat.sub_self,show k - i=(k - (i + 1)) + 1 by omega,List.replicate_succ,List.set_cons_zero,List.replicate_succ' (n:=i)]
  simp
theorem qm {α β:Type} (f:α->β) {l:List α} {i:Nat} {z:α} (h:i < l.length):(l.take i).map f ++ [f (l.getD i z)]=(l.take (i + 1)).map f:=by
  rw [<- fz (z:=z) h,List.map_append];rfl
theorem dM {α:Type} {l:List α} {i j:Nat} {a d:α} (hi:i < l.length):(l.set i a).getD j d=if j=i then a else l.getD j d:=by
  simp only [List.getD_eq_getElem?_getD,List.getElem?_set]
  by_cases h:i=j
  · subst h;simp [hi]
  · rw [if_neg h,if_neg (fun q=>h q.symm)]
theorem zM {n:Nat} {u:Value}:aM u (List.replicate n (.slice none 0 0)):=fun r hr=>by rw [(List.mem_replicate.1 hr).2];exact bw.nil.symm
theorem Ns {r:Value} (h:r ∈ rows.set s v):r ∈ rows\/r=v:=List.mem_or_eq_of_mem_set h
theorem Ct {u:Value} (h:aM u rows) (hv:bw u v):aM u (rows.set s v):=fun r hr=>by
  rcases Ns hr with q | q
  · exact h r q
  · subst q;exact hv
theorem gy.nils {n:Nat}:gy A0 A (List.replicate n (.slice none 0 0)) (List.replicate n []):=by
  have e:∀ i,i < n->(List.replicate n (Value.slice none 0 0)).getD i undef=.slice none 0 0:=fun i hi=>by simp [hi]
  refine ⟨by simp,fun i hi=>?_,fun i j hi hj _=>?_⟩
  · rw [List.length_replicate] at hi
    rw [e i hi,show (List.replicate n ([]:List Int)).getD i []=[] by simp [hi]]
    exact Fresh.nil _ _ _
  · rw [List.length_replicate] at hi
    rw [e i hi];exact bw.nil
theorem gy.appRow {y:List Int} (h:gy A0 A rows L) (wf:A.wf) (hs:s < L.length) (ap:lD A (rows.getD s undef) 1 (cI y) v A1) (fr:Fresh A0 A1 v 1 (cI y)):gy A0 A1 (rows.set s v) (L.set s y):=by
  have hsr:s < rows.length:=by rw [h.len];exact hs
  refine ⟨by simp [h.len],fun i hi=>?_,fun i j hi hj hij=>?_⟩
  · rw [dM hsr,dM hs]
    rw [List.length_set] at hi
    split
    · exact fr
    · rename_i q;exact (h.fr i hi).appd ap (h.sp s i hs hi (fun z=>q z.symm))
  · rw [List.length_set] at hi hj
    rw [dM hsr,dM hsr]
    have key:∀ i,i < L.length->i ≠ s->bw v (rows.getD i undef):=fun i hi q=>bw.appd (h.sp s i hs hi (fun z=>q z.symm)) (h.fr i hi).own wf ap
    by_cases q1:i=s
    · rw [if_pos q1,if_neg (fun z=>hij (q1.trans z.symm))]
      exact key j hj (fun z=>hij (q1.trans z.symm))
    · rw [if_neg q1]
      by_cases q2:j=s
      · rw [if_pos q2];exact (key i hi q1).symm
      · rw [if_neg q2];exact h.sp i j hi hj hij
theorem gy.at (h:gy A0 A rows L) (hs:s < L.length) (hx:x < (L.getD s []).length):∃ b n c r rcap,rows.getD s undef=.slice (some ⟨b,0,none⟩) n c/\n=(L.getD s []).length/\A.get b=some (.row true r rcap)/\x < r.length/\A0.get b=none/\r.take n=cI (L.getD s []) /\
    ∀ (i:Int) A1,se A A1 b (.row true (r.set x (num i)) rcap)->gy A0 A1 rows (L.set s ((L.getD s []).set x i)):=by
  have fr:=h.fr s hs
  obtain ⟨b,n,c,e,h1,h2⟩:=fr.nonnil (by intro q;have:=congrArg List.length q;rw [aH,List.length_nil] at this;omega)
  have lo:=fr.lo b (by rw [e];rfl)
  have fr':=fr
  rw [e] at fr'
  obtain ⟨r,rcap,g,h3,h4⟩:=fr'.row
  rw [Nat.mul_one,aH] at h1
  rw [Nat.mul_one] at h3
  have hl:n<=r.length:=by have:=congrArg List.length h3;rw [List.length_take,aH] at this;omega
  refine ⟨b,n,c,r,rcap,e,h1,g,by omega,lo,h3,fun i A1 sb=>⟨by simpa using h.len,fun j hj=>?_,fun j k hj hk=>h.sp j k (by simpa using hj) (by simpa using hk)⟩⟩
  rw [dM hs]
  by_cases q:j=s
  · subst q
    rw [if_pos Z,e]
    have:=fr'.setc (w:=num i) (i:=x) g sb
    rwa [gU] at this
  · rw [if_neg q]
    have hj':j < L.length:=by simpa using hj
    exact (h.fr j hj').keep sb.keep (fun z=>h.sp s j hs hj' (fun w=>q w.symm) b (by rw [e];rfl) z)
end
end Go.Proofs.YtjppkekmddjcfaaGreatDoor

namespace Go.Proofs.YtjppkekmddjcfaaGreatDoor
open Go Go.RowKit V
structure Ae (k:Nat) (L:List (List Int)) (E:List Bool):Prop where
  len:E.length=L.length
  row:∀ s,s < L.length->(L.getD s []).length=k
  val:∀ s x,s < L.length->x < k->-1<=(L.getD s []).getD x 0/\(L.getD s []).getD x 0 < L.length
abbrev Ah (k:Nat):List Int:=List.replicate k (-1)
abbrev grow (k:Nat) (L:List (List Int)) (s x:Nat):List (List Int):=(L ++ [Ah k]).set s (((L ++ [Ah k]).getD s []).set x (L.length:Int))
def zP (k:Nat) (t:List (List Int) × List Bool × Nat) (x:Int):List (List Int) × List Bool × Nat :=
  if (t.1.getD t.2.2 []).getD x.toNat 0 < 0 then (grow k t.1 t.2.2 x.toNat,t.2.1 ++ [false],t.1.length) else (t.1,t.2.1,((t.1.getD t.2.2 []).getD x.toNat 0).toNat)
def mS (k:Nat) (L:List (List Int)) (E:List Bool) (xs:List Int):List (List Int) × List Bool × Nat:=xs.foldl (zP k) (L,E,0)
def uQ (k:Nat) (L:List (List Int)) (E:List Bool) (w:Wd):List (List Int):=(mS k L E (w.map ix)).1
def uO (k:Nat) (L:List (List Int)) (E:List Bool) (w:Wd):List Bool:=(mS k L E (w.map ix)).2.1.set (mS k L E (w.map ix)).2.2 true
section
variable {k s x i:Nat} {L L1:List (List Int)} {E E1:List Bool} {xs:List Int} {d:Int}
theorem jF {α:Type} {l m:List α} {i:Nat} {z:α} (h:i < l.length):(l ++ m).getD i z=l.getD i z:=by simp [List.getElem?_append_left h]
theorem i9:(grow k L s x).length=L.length + 1:=by simp
theorem sC (h:Ae k L E) (hs:s < L.length) (hx:x < k) {j y:Nat} (hj:j < L.length + 1):(grow k L s x).getD j []=if j=s then (L.getD s []).set x L.length else if j < L.length then L.getD j [] else Ah k:=by
  rw [grow,dM Oz,jF hs]
  by_cases h1:j=s
  · rw [if_pos h1,if_pos h1]
  · rw [if_neg h1,if_neg h1]
    by_cases h2:j < L.length
    · rw [if_pos h2,jF h2]
    · rw [if_neg h2,show j=L.length by omega];simp
theorem wU (h:Ae k L E) (hs:s < L.length) (hx:x < k):Ae k (grow k L s x) (E ++ [false]):=by
  refine ⟨by rw [i9];simp [h.len],fun j hj=>?_,fun j y hj hy=>?_⟩
  · rw [i9] at hj
    rw [sC (y:=0) h hs hx hj]
    split
    · rw [List.length_set];exact h.row s hs
    · split
      · exact h.row j ‹_›
      · exact List.length_replicate
  · rw [i9] at hj
    rw [sC (y:=0) h hs hx hj,i9]
    have h0:=h.row s hs
    split
    · rw [dM (by rw [h0];exact hx)]
      split
      · omega
      · have:=h.val s y hs hy;omega
    · split
      · have:=h.val j y ‹_› hy;omega
      · have:(Ah k).getD y 0 = -1:=by simp [hy]
        rw [this];omega
theorem tC (h:Ae k L E) (hs:s < L.length) (hx:x < k):((grow k L s x).getD s []).getD x 0=(L.length:Int):=by
  rw [sC (y:=0) h hs hx O,if_pos Z,dM (by rw [h.row s hs];exact hx),if_pos Z]
theorem vM {t:List (List Int) × List Bool × Nat} (hi:i < xs.length) (h:mS k L E (xs.take i)=t):mS k L E (xs.take (i + 1))=zP k t (xs.getD i 0):=by
  rw [<- fz (z:=0) hi,mS,List.foldl_append]
  show zP k (mS k L E (xs.take i)) _=_
  rw [h]
theorem zw (hi:i < xs.length) (h:mS k L E (xs.take i)=(L1,E1,s)) (q:(L1.getD s []).getD (xs.getD i 0).toNat 0 < 0):mS k L E (xs.take (i + 1))=(grow k L1 s (xs.getD i 0).toNat,E1 ++ [false],L1.length):=by
  rw [vM hi h,zP,if_pos q]
theorem zx (hi:i < xs.length) (h:mS k L E (xs.take i)=(L1,E1,s)) (q:¬ (L1.getD s []).getD (xs.getD i 0).toNat 0 < 0):mS k L E (xs.take (i + 1))=(L1,E1,((L1.getD s []).getD (xs.getD i 0).toNat 0).toNat):=by
  rw [vM hi h,zP,if_neg q]
theorem Ae.start (k:Nat):Ae k [Ah k] [false]:=⟨rfl,fun s hs=>by
    obtain rfl:s=0:=by simp at hs;omega
    simp,fun s x hs hx=>by
    obtain rfl:s=0:=by simp at hs;omega
    simp [hx]⟩
end
end Go.Proofs.YtjppkekmddjcfaaGreatDoor
