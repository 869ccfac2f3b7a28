/- Texts of ours, joined: M2W, M3W, Clone, Keys, Sh2, SortZ, Prim4. -/
import Derived.Test.YtcnhddiedfifmaaGreatME3
import Derived.Test.YtcnhddiedfifmaaGreatME4
import Derived.Test.YtcnhddiedfifmaaGreatME1
import Derived.Test.YtcnhddiedfifmaaGreatME2
import Derived.Shelf.SlGeneric
import Derived.Shelf.SortM.Plain
import Derived.Shelf.SortM.SortNone
import Derived.Shelf.SlSortCmp.NoneTotal
import Derived.Shelf.SlicesG.Cmp
import Derived.Ground.SlgmProg
import Derived.Ground.SlsfProg
import Derived.Ground.SlgcProg
import Derived.Test.YtcnhddiedfifmaaGreatProg
import Derived.Tactics
import Derived.Tactics2
set_option linter.unusedSimpArgs false
set_option linter.unusedVariables false
set_option linter.unusedSectionVars false
set_option linter.deprecated false
set_option maxHeartbeats 4000000
section
namespace Go.Z
open Go Go.RowKit Go.Proofs
theorem r12_Floor_fn {h:Heap} {x0:Int} {x1:Int} {v0:Value} {v1:Value} (r0:IntAt h v0 x0) (r1:IntAt h v1 x1) {r:Int} (hm:M.r12_Floor x0 x1=some r) :
    Fn Tryz.prog 245 #[v0,v1] h fun v h'=>IntAt h' v r:=by
 obtain ⟨_,_,_,_,rfl,b⟩:=r0.op
 obtain ⟨_,_,_,_,rfl,c⟩:=r1.op
 refine Fn.intro (args:=[_,_]) Tryz.func245 rfl rfl (lB rfl) fun w=>?_
 unfold M.r12_Floor at hm
 refine SR<|o_bx (v:=.agg ⟨[.bool _,.slice _ _ _]⟩) rfl rfl fun _=>o_bx (v:=.agg ⟨[.bool _,.slice _ _ _]⟩) rfl rfl fun _=>o_al fun _=>N0<|Sq<|bE hm fun _ a hm=>Rg<|oq (q_lda (vs:=[_,_]) rfl ii ⟨rfl,rfl,trivial⟩)<|oq (q_lda (vs:=[_,_]) rfl ii ⟨rfl,rfl,trivial⟩)<|oc (r01_DivMod_fn (iu b) (iu c) a) fun _ _ _ e=>?_
 obtain ⟨_,_,_,rfl,f,g,i⟩:=e
 obtain ⟨_,_,_,_,rfl,d⟩:=f.op
 obtain ⟨_,_,_,_,rfl,_⟩:=g.op
 cases i
 refine oq q_mv<|oq (q_ex rfl rfl)<|oq (q_ex rfl rfl)<|oq (q_ex rfl rfl)<|o_al fun _=>o_al fun _=>Sc [.bool _,.slice _ _ _] [.bool _,.slice _ _ _] rfl rfl rfl rfl rfl ia rfl rfl<|Sc [.bool _,.slice _ _ _] [.bool _,.slice _ _ _] rfl rfl rfl rfl rfl ia rfl rfl<|oq (aI rfl)<|N0<|SR<|oq (q_lda (vs:=[_,_]) rfl ii ⟨rfl,rfl,trivial⟩)<|Sc [.bool _,.slice _ _ _] [.bool _,.slice _ _ _] rfl rfl rfl rfl rfl ia rfl rfl<|N0<|Jr ?_
 cases hm
 exact ret_ok (fn:=Tryz.f245) rfl (.agg rfl ii ii .nil) (iu d)
theorem r12_Form_fn {h:Heap} {x0:TMat} {v0:Value} (r0:AggV TMatR h v0 x0) {r:THermite} (hm:M.r12_Form x0=some r) :
    Fn Tryz.prog 211 #[v0] h fun v h'=>AggV THermiteR h' v r:=by
 obtain ⟨_,rfl,cq,cp,co,rfl,gd⟩:=r0
 refine Fn.intro (args:=[_]) Tryz.func211 rfl rfl (lB rfl) fun w=>?_
 unfold M.r12_Form at hm
 refine SR<|o_bx (v:=.agg ⟨[.int _ _,.int _ _,.slice _ _ _]⟩) rfl rfl fun cm=>o_al fun cn=>N0<|Sq<|bE hm fun bn gc hm=>Rg<|oq (q_lda (vs:=[_,_,_]) rfl ii ⟨rfl,rfl,rfl,trivial⟩)<|o_calll (r12_Start_own (x0:=x0) ⟨_,rfl,⟨_,_,_,rfl,Sm gd⟩⟩ gc) fun _ _ _ _ gh=>?_
 obtain ⟨f6,fh,ge,f9,f3,f7,fi,gf,ga,f4,f8,fj,gg,gb,f5,D,rfl,gi,fe,gj,ff,gk,fg,rfl⟩:=gh
 refine oq (q_asv (v:=.pointer _) rfl)<|N0<|SR<|oq (aI rfl)<|N0<|Sq<|SR<|oq (aI rfl)<|N0<|Jb ?_
 replace hm:=(show iter _ fuel _=some _ from hm)
 refine J.loopK (α:=Nat×Int×Int×(List (List Int))×Int×Int×(List (List Int))×Int×Int×(List (List Int))×Int×Int×Nat×(List Value)×Nat×Nat×Own×Nat×(List Value)×Nat×Nat×Own×Nat×(List Value)×Nat×Nat×Own) (fun ⟨cz,bw,bx,bz,bA,bB,bC,bD,bG,bH,e,H,bh,aZ,cd,b3,bR,bi,a0,ce,b4,bS,bj,a1,cf,b5,bU⟩ h' L'=>(OwnLL IntR 75 2 h' aZ b3 bz bR∧cd=bz.length)∧(OwnLL IntR 75 2 h' a0 b4 bC bS∧ce=bC.length)∧(OwnLL IntR 75 2 h' a1 b5 bH bU∧cf=bH.length)∧iter (M.r12_Form_b6 x0) cz (bw,bx,bz,bA,bB,bC,bD,bG,bH,e,H)=some r∧Sp ([(bh,row 151 aZ)]++(bR++([(bi,row 151 a0)]++(bS++([(bj,row 151 a1)]++(bU++([(cm,row 163 [.int .i64 x0.Rows,.int .i64 x0.Cols,.slice cq cp co]),(cn,row 265 [.int .i64 0,.int .i64 0,.slice none 0 0,.int .i64 0,.int .i64 0,.slice none 0 0,.int .i64 0,.int .i64 0,.slice none 0 0]),(D,row 301 [.int .i64 bw,.int .i64 bx,.slice (some ⟨bh,0,none⟩) cd b3,.int .i64 bA,.int .i64 bB,.slice (some ⟨bi,0,none⟩) ce b4,.int .i64 bD,.int .i64 bG,.slice (some ⟨bj,0,none⟩) cf b5])]))))))) L') [(1,.pointer _),(2,.pointer _),(3,.pointer _)] ⟨rfl,rfl,rfl,trivial⟩ (fun ⟨cz,bw,bx,bz,bA,bB,bC,bD,bG,bH,e,H,bh,aZ,cd,b3,bR,bi,a0,ce,b4,bS,bj,a1,cf,b5,bU⟩=>[(4,.int .i64 e),(5,.int .i64 H)]) (fun ⟨cz,bw,bx,bz,bA,bB,bC,bD,bG,bH,e,H,bh,aZ,cd,b3,bR,bi,a0,ce,b4,bS,bj,a1,cf,b5,bU⟩=>cz) ⟨fuel,bn.M.Rows,bn.M.Cols,bn.M.A,bn.U.Rows,bn.U.Cols,bn.U.A,bn.V.Rows,bn.V.Cols,bn.V.A,0,0,f6,fh,ge,f9,f3,f7,fi,gf,ga,f4,f8,fj,gg,gb,f5⟩ ⟨⟨OwnLL.mono gi,fe⟩,⟨OwnLL.mono gj,ff⟩,⟨OwnLL.mono gk,fg⟩,hm,ii⟩ ⟨rfl,rfl,trivial⟩ ?_
 rintro ⟨cz,bw,bx,bz,bA,bB,bC,bD,bG,bH,e,H,bh,aZ,cd,b3,bR,bi,a0,ce,b4,bS,bj,a1,cf,b5,bU⟩ _ _ _ _ ⟨⟨eg,dn⟩,⟨eh,dp⟩,⟨ei,dq⟩,hm,dr⟩
 refine J.sp dr ?_
 obtain ⟨ef,da,rfl,hm,cD⟩:=iter_some hm
 unfold M.r12_Form_b6 at hm
 refine Sq<|Sq ?_
 refine J.joinK (α:=Bool) (fun db h' L'=>(M.r12_Form_j5 x0 bw bx bz bA bB bC bD bG bH e H) db=some da∧Sp ([(bh,row 151 aZ)]++(bR++([(bi,row 151 a0)]++(bS++([(bj,row 151 a1)]++(bU++([(cm,row 163 [.int .i64 x0.Rows,.int .i64 x0.Cols,.slice cq cp co]),(cn,row 265 [.int .i64 0,.int .i64 0,.slice none 0 0,.int .i64 0,.int .i64 0,.slice none 0 0,.int .i64 0,.int .i64 0,.slice none 0 0]),(D,row 301 [.int .i64 bw,.int .i64 bx,.slice (some ⟨bh,0,none⟩) cd b3,.int .i64 bA,.int .i64 bB,.slice (some ⟨bi,0,none⟩) ce b4,.int .i64 bD,.int .i64 bG,.slice (some ⟨bj,0,none⟩) cf b5])]))))))) L') [(1,.pointer _),(2,.pointer _),(3,.pointer _),(4,.int _ _),(5,.int _ _)] ⟨rfl,rfl,rfl,rfl,rfl,trivial⟩ (fun db=>[(22,.bool db)]) ?_ ?_
 · refine iC hm (fun y hm=>?_) fun y hm=>?_
   · refine Rg<|oq (mI rfl)<|oq (q_fa rfl)<|oq (q_ld rfl ia rfl)<|oq (q_lss rfl rfl)<|oq (mB rfl)<|gT rfl rfl (dT y)<|oq (mI rfl)<|gT rfl rfl (dT y)<|oq (q_fa rfl)<|gT rfl rfl (dT y)<|oq (q_ld rfl ia rfl)<|gT rfl rfl (dT y)<|oq (q_lss rfl rfl)<|oq (pkT rfl (dT y) rfl)<|N0 ?_
     exact ⟨(decide (e<x0.Rows)),rfl,⟨rfl,rfl,rfl,rfl,rfl,trivial⟩,⟨rfl,trivial⟩,⟨hm,ii⟩,ii⟩
   · refine Rg<|oq (mI rfl)<|oq (q_fa rfl)<|oq (q_ld rfl ia rfl)<|oq (q_lss rfl rfl)<|oq (mB rfl)<|gF rfl rfl (dF y)<|gF rfl rfl (dF y)<|gF rfl rfl (dF y)<|gF rfl rfl (dF y)<|oq (pkF rfl (dF y) rfl)<|N0 ?_
     exact ⟨false,rfl,⟨rfl,rfl,rfl,rfl,rfl,trivial⟩,⟨rfl,trivial⟩,⟨hm,ii⟩,ii⟩
 · rintro db _ _ _ _ ⟨hm,ds⟩
   refine J.sp ds ?_
   unfold M.r12_Form_j5 at hm
   refine iC hm (fun dj hm=>?_) fun dj hm=>?_
   · refine jT rfl dj<|Js<|Sq<|Jb<|Sq<|Sq<|kS hm fun ee hm=>Rg<|oq (mI rfl)<|oq (q_add rfl rfl (wi64 ee))<|oq (aI rfl)<|N0<|Jb ?_
     obtain ⟨_,hm⟩:=rngN_some hm
     refine J.loopK (α:=Int×Int×Int×(List (List Int))×Int×Int×(List (List Int))×Int×Int×(List (List Int))×Nat×(List Value)×Nat×Nat×Own×Nat×(List Value)×Nat×Nat×Own×Nat×(List Value)×Nat×Nat×Own) (fun ⟨p,al,am,an,ao,ap,aq,ar,au,av,I,s,C,Y,S,K,t,af,Z,T,L,u,ag,aa,W⟩ h' L'=>(OwnLL IntR 75 2 h' s Y an S∧C=an.length)∧(OwnLL IntR 75 2 h' t Z aq T∧af=aq.length)∧(OwnLL IntR 75 2 h' u aa av W∧ag=av.length)∧(e+1)≤p∧forN (M.r12_Form_b4 e H) (M.r12_Form_k4 e H) x0.Rows p (al,am,an,ao,ap,aq,ar,au,av)=some da∧Sp ([(I,row 151 s)]++(S++([(K,row 151 t)]++(T++([(L,row 151 u)]++(W++([(cm,row 163 [.int .i64 x0.Rows,.int .i64 x0.Cols,.slice cq cp co]),(cn,row 265 [.int .i64 0,.int .i64 0,.slice none 0 0,.int .i64 0,.int .i64 0,.slice none 0 0,.int .i64 0,.int .i64 0,.slice none 0 0]),(D,row 301 [.int .i64 al,.int .i64 am,.slice (some ⟨I,0,none⟩) C Y,.int .i64 ao,.int .i64 ap,.slice (some ⟨K,0,none⟩) af Z,.int .i64 ar,.int .i64 au,.slice (some ⟨L,0,none⟩) ag aa])]))))))) L') [(1,.pointer _),(2,.pointer _),(3,.pointer _),(4,.int _ _),(5,.int _ _)] ⟨rfl,rfl,rfl,rfl,rfl,trivial⟩ (fun ⟨p,al,am,an,ao,ap,aq,ar,au,av,I,s,C,Y,S,K,t,af,Z,T,L,u,ag,aa,W⟩=>[(6,.int .i64 p)]) (fun ⟨p,al,am,an,ao,ap,aq,ar,au,av,I,s,C,Y,S,K,t,af,Z,T,L,u,ag,aa,W⟩=>(x0.Rows-p).toNat) ⟨(e+1),bw,bx,bz,bA,bB,bC,bD,bG,bH,bh,aZ,cd,b3,bR,bi,a0,ce,b4,bS,bj,a1,cf,b5,bU⟩ ⟨⟨OwnLL.mono eg,dn⟩,⟨OwnLL.mono eh,dp⟩,⟨OwnLL.mono ei,dq⟩,Int.le_refl _,hm,ii⟩ ⟨rfl,trivial⟩ ?_
     rintro ⟨p,al,am,an,ao,ap,aq,ar,au,av,I,s,C,Y,S,K,t,af,Z,T,L,u,ag,aa,W⟩ _ _ _ _ ⟨⟨bt,aR⟩,⟨cx,bM⟩,⟨cy,bN⟩,dl,hm,dc⟩
     refine J.sp dc<|Sq<|SR<|oq (mI rfl)<|oq (q_fa rfl)<|oq (q_ld rfl ia rfl)<|oq (q_lss rfl rfl)<|N0 ?_
     by_cases bY:p<x0.Rows
     · obtain ⟨fC,hm,dE⟩:=forN_lt bY hm
       unfold M.r12_Form_b4 at hm
       refine jT rfl (dT bY) ?_
       have fk:-9223372036854775808≤p+1∧p+1≤9223372036854775807:=by omega
       refine Js<|Sq<|Jb<|Jb ?_
       replace hm:=(show iter _ fuel _=some _ from hm)
       refine J.loopK (α:=Nat×Int×Int×(List (List Int))×Int×Int×(List (List Int))×Int×Int×(List (List Int))×Nat×(List Value)×Nat×Nat×Own×Nat×(List Value)×Nat×Nat×Own×Nat×(List Value)×Nat×Nat×Own) (fun ⟨b8,aL,aM,a4,aN,aO,a5,aP,aQ,a6,x,E,q,aF,ay,N,F,aJ,aG,az,O,G,aK,aH,aA⟩ h' L'=>(OwnLL IntR 75 2 h' E aF a4 ay∧q=a4.length)∧(OwnLL IntR 75 2 h' F aG a5 az∧aJ=a5.length)∧(OwnLL IntR 75 2 h' G aH a6 aA∧aK=a6.length)∧iter (M.r12_Form_b1 e H p) b8 (aL,aM,a4,aN,aO,a5,aP,aQ,a6)=some fC∧Sp ([(x,row 151 E)]++(ay++([(N,row 151 F)]++(az++([(O,row 151 G)]++(aA++([(cm,row 163 [.int .i64 x0.Rows,.int .i64 x0.Cols,.slice cq cp co]),(cn,row 265 [.int .i64 0,.int .i64 0,.slice none 0 0,.int .i64 0,.int .i64 0,.slice none 0 0,.int .i64 0,.int .i64 0,.slice none 0 0]),(D,row 301 [.int .i64 aL,.int .i64 aM,.slice (some ⟨x,0,none⟩) q aF,.int .i64 aN,.int .i64 aO,.slice (some ⟨N,0,none⟩) aJ aG,.int .i64 aP,.int .i64 aQ,.slice (some ⟨O,0,none⟩) aK aH])]))))))) L') [(1,.pointer _),(2,.pointer _),(3,.pointer _),(4,.int _ _),(5,.int _ _),(6,.int _ _)] ⟨rfl,rfl,rfl,rfl,rfl,rfl,trivial⟩ (fun ⟨b8,aL,aM,a4,aN,aO,a5,aP,aQ,a6,x,E,q,aF,ay,N,F,aJ,aG,az,O,G,aK,aH,aA⟩=>[]) (fun ⟨b8,aL,aM,a4,aN,aO,a5,aP,aQ,a6,x,E,q,aF,ay,N,F,aJ,aG,az,O,G,aK,aH,aA⟩=>b8) ⟨fuel,al,am,an,ao,ap,aq,ar,au,av,I,s,C,Y,S,K,t,af,Z,T,L,u,ag,aa,W⟩ ⟨⟨OwnLL.mono bt,aR⟩,⟨OwnLL.mono cx,bM⟩,⟨OwnLL.mono cy,bN⟩,hm,ii⟩ trivial ?_
       rintro ⟨b8,aL,aM,a4,aN,aO,a5,aP,aQ,a6,x,E,q,aF,ay,N,F,aJ,aG,az,O,G,aK,aH,aA⟩ _ _ _ _ ⟨⟨bg,ab⟩,⟨cE,cv⟩,⟨cF,cw⟩,hm,dd⟩
       refine J.sp dd ?_
       obtain ⟨fp,_,rfl,hm,cM⟩:=iter_some hm
       unfold M.r12_Form_b1 at hm
       refine Sq<|Sq<|nE hm fun _ _ cG cQ c5 hm=>?_
       obtain ⟨_,dt,_,cs,cW⟩:=OwnLL.hdr bg c5
       refine nE hm fun _ _ cH cR d9 hm=>?_
       obtain ⟨ev,_,_,_,rfl,_,_,cN,dz,_,_⟩:=OwnLL.cell bg c5 cs d9
       obtain ⟨_,_,_,_,rfl,bo⟩:=IntR.op dz
       refine bE hm fun _ eU hm=>Rg<|oq (q_mvv (v:=.pointer _) rfl)<|oq (q_nil rfl)<|oq (q_fa rfl)<|oq (q_fa rfl)<|oq (q_ld rfl ia rfl)<|oq (mI rfl)<|oq (q_ian rfl rfl cG (by rw [show q=_ from ab]; exact cQ))<|oq (q_ld rfl ii (hdr_at cs))<|oq (mI rfl)<|oq (q_ian rfl rfl cH (by rw [show dt=_ from cW]; exact cR))<|oq (q_ldOa0 rfl ii cN)<|oc (rsign_fn (iu bo) eU) fun _ _ _ fD=>?_
       cases fD
       refine oq (q_neq rfl rfl)<|N0<|iC hm (fun cA hm=>?_) fun cA hm=>?_
       · refine jF rfl (dF (fun z=>z cA))<|Jx<|have hm:=inr_onward hm cM; Rg<|oq (mI rfl)<|oq (q_add rfl rfl (wi64 fk))<|oq (aI rfl)<|N0<|have hm:=inl_onward hm dE; ?_
         exact ⟨⟨p+1,aL,aM,a4,aN,aO,a5,aP,aQ,a6,x,E,q,aF,ay,N,F,aJ,aG,az,O,G,aK,aH,aA⟩,rfl,⟨rfl,rfl,rfl,rfl,rfl,trivial⟩,⟨rfl,trivial⟩,⟨⟨OwnLL.mono bg,ab⟩,⟨OwnLL.mono cE,cv⟩,⟨OwnLL.mono cF,cw⟩,Int.le_trans dl (Int.le_of_lt (Int.lt_succ _)),hm,ii⟩,(muN bY),ii⟩
       · refine jT rfl (dT cA)<|Js<|Jb<|Sq<|Sq<|nE hm fun _ _ cI cS c6 hm=>?_
         obtain ⟨_,du,_,ct,cX⟩:=OwnLL.hdr bg c6
         refine nE hm fun _ _ cJ cT ea hm=>?_
         obtain ⟨ew,_,_,_,rfl,_,_,cO,dA,_,_⟩:=OwnLL.cell bg c6 ct ea
         obtain ⟨_,_,_,_,rfl,bp⟩:=IntR.op dA
         refine bE hm fun f2 eV hm=>Rg<|oq (q_mvv (v:=.pointer _) rfl)<|oq (q_nil rfl)<|oq (q_fa rfl)<|oq (q_fa rfl)<|oq (q_ld rfl ia rfl)<|oq (mI rfl)<|oq (q_ian rfl rfl cI (by rw [show q=_ from ab]; exact cS))<|oq (q_ld rfl ii (hdr_at ct))<|oq (mI rfl)<|oq (q_ian rfl rfl cJ (by rw [show du=_ from cX]; exact cT))<|oq (q_ldOa0 rfl ii cO)<|oc (rsign_fn (iu bp) eV) fun _ _ _ fE=>?_
         cases fE
         refine oq (q_neq rfl rfl)<|N0 ?_
         by_cases cr:f2=0
         focus
          replace hm:=ite_T cr hm
          refine jF rfl (dF (fun z=>z cr))<|Js<|bE hm fun R eW hm=>Rg<|oq (q_mvv (v:=.pointer _) rfl)<|oq (mI rfl)<|oq (mI rfl)<|o_callio ([(x,row 151 E)]++(ay++([(N,row 151 F)]++(az++([(O,row 151 G)]++(aA++([(D,row 301 [.int .i64 aL,.int .i64 aM,.slice (some ⟨x,0,none⟩) q aF,.int .i64 aN,.int .i64 aO,.slice (some ⟨N,0,none⟩) aJ aG,.int .i64 aP,.int .i64 aQ,.slice (some ⟨O,0,none⟩) aK aH])]++([])))))))) (r12_Work_Swap_own (OwnLL.mono bg) ab (OwnLL.mono cE) cv (OwnLL.mono cF) cw eW) fun _ _ _ _ dw=>?_
         rotate_left
         focus
          replace hm:=ite_F cr hm
          refine jT rfl (dT cr)<|Sq<|bE hm fun _ b6 hm=>J.drawB [D,x,ew,ev] []<|Dc 0 rfl (q_mvv (v:=.pointer _) rfl)<|Dc 1 rfl (q_nil rfl)<|Dc 2 rfl (q_fa rfl)<|Dc 3 rfl (q_fa rfl)<|Dl 4 rfl (q_ld rfl ii rfl)<|Dc 5 rfl (mI rfl)<|Dc 6 rfl (q_ian rfl rfl cI (by rw [show q=_ from ab]; exact cS))<|Dl 7 rfl (q_ld rfl ii (hdr_at ct))<|Dc 8 rfl (mI rfl)<|Dc 9 rfl (q_ian rfl rfl cJ (by rw [show du=_ from cX]; exact cT))<|Dl 10 rfl (q_ldOa0 rfl ii cO)<|Dc 11 rfl (q_mvv (v:=.pointer _) rfl)<|Dc 12 rfl (q_nil rfl)<|Dc 13 rfl (q_fa rfl)<|Dc 14 rfl (q_fa rfl)<|Dl 15 rfl (q_ld rfl ii rfl)<|Dc 16 rfl (mI rfl)<|Dc 17 rfl (q_ian rfl rfl cG (by rw [show q=_ from ab]; exact cQ))<|Dl 18 rfl (q_ld rfl ii (hdr_at cs))<|Dc 19 rfl (mI rfl)<|Dc 20 rfl (q_ian rfl rfl cH (by rw [show dt=_ from cW]; exact cR))<|Dl 21 rfl (q_ldOa0 rfl ii cN) ?_
          refine Da [22,27,28] ⟨?_,?_,?_,trivial⟩
          focus
           refine Xe rfl rfl<|oc (r01_DivMod_fn (iu bp) (iu bo) b6) fun _ _ _ ah=>?_
           obtain ⟨_,_,_,rfl,ai,aj,ak⟩:=ah
           obtain ⟨_,_,_,_,rfl,b7⟩:=ai.op
           obtain ⟨_,_,_,_,rfl,_⟩:=aj.op
           cases ak
           refine NE<|Dc 23 rfl (q_mv)<|Dc 24 rfl (q_ex rfl rfl)<|Dc 25 rfl (q_ex rfl rfl)<|Dc 26 rfl (q_ex rfl rfl) ?_
           refine Da [27,28] ⟨?_,?_,trivial⟩
           focus
            refine Xe rfl rfl<|o_al fun _=>NE<|Do 28 ?_
           rotate_left
           focus
            refine Xe rfl rfl<|o_al fun _=>NE<|Do 27 ?_
           rotate_left
           all_goals
            refine Xe rfl rfl<|o_al fun _=>NE ?_
          rotate_left 2
          focus
           refine Xe rfl rfl<|o_al fun _=>NE ?_
           refine Da [22,28] ⟨?_,?_,trivial⟩
           focus
            refine Xe rfl rfl<|oc (r01_DivMod_fn (iu bp) (iu bo) b6) fun _ _ _ ah=>?_
            obtain ⟨_,_,_,rfl,ai,aj,ak⟩:=ah
            obtain ⟨_,_,_,_,rfl,b7⟩:=ai.op
            obtain ⟨_,_,_,_,rfl,_⟩:=aj.op
            cases ak
            refine NE<|Dc 23 rfl (q_mv)<|Dc 24 rfl (q_ex rfl rfl)<|Dc 25 rfl (q_ex rfl rfl)<|Dc 26 rfl (q_ex rfl rfl)<|Do 28<|Xe rfl rfl<|o_al fun _=>NE ?_
           rotate_left
           focus
            refine Xe rfl rfl<|o_al fun _=>NE<|Do 22<|Xe rfl rfl<|oc (r01_DivMod_fn (iu bp) (iu bo) b6) fun _ _ _ ah=>?_
            obtain ⟨_,_,_,rfl,ai,aj,ak⟩:=ah
            obtain ⟨_,_,_,_,rfl,b7⟩:=ai.op
            obtain ⟨_,_,_,_,rfl,_⟩:=aj.op
            cases ak
            refine NE<|Dc 23 rfl (q_mv)<|Dc 24 rfl (q_ex rfl rfl)<|Dc 25 rfl (q_ex rfl rfl)<|Dc 26 rfl (q_ex rfl rfl) ?_
           rotate_left
          rotate_left 2
          focus
           refine Xe rfl rfl<|o_al fun _=>NE ?_
           refine Da [22,27] ⟨?_,?_,trivial⟩
           focus
            refine Xe rfl rfl<|oc (r01_DivMod_fn (iu bp) (iu bo) b6) fun _ _ _ ah=>?_
            obtain ⟨_,_,_,rfl,ai,aj,ak⟩:=ah
            obtain ⟨_,_,_,_,rfl,b7⟩:=ai.op
            obtain ⟨_,_,_,_,rfl,_⟩:=aj.op
            cases ak
            refine NE<|Dc 23 rfl (q_mv)<|Dc 24 rfl (q_ex rfl rfl)<|Dc 25 rfl (q_ex rfl rfl)<|Dc 26 rfl (q_ex rfl rfl)<|Do 27<|Xe rfl rfl<|o_al fun _=>NE ?_
           rotate_left
           focus
            refine Xe rfl rfl<|o_al fun _=>NE<|Do 22<|Xe rfl rfl<|oc (r01_DivMod_fn (iu bp) (iu bo) b6) fun _ _ _ ah=>?_
            obtain ⟨_,_,_,rfl,ai,aj,ak⟩:=ah
            obtain ⟨_,_,_,_,rfl,b7⟩:=ai.op
            obtain ⟨_,_,_,_,rfl,_⟩:=aj.op
            cases ak
            refine NE<|Dc 23 rfl (q_mv)<|Dc 24 rfl (q_ex rfl rfl)<|Dc 25 rfl (q_ex rfl rfl)<|Dc 26 rfl (q_ex rfl rfl) ?_
           rotate_left
          rotate_left 2
          all_goals
           refine Do 29<|Xe rfl rfl<|Sc [.bool _,.slice _ _ _] [.bool _,.slice _ _ _] rfl rfl rfl rfl rfl ia rfl rfl<|NE<|Do 30<|Xe rfl rfl<|Sc [.bool _,.slice _ _ _] [.bool _,.slice _ _ _] rfl rfl rfl rfl rfl ia rfl rfl<|NE<|Dc 31 rfl (aI rfl)<|Dd<|bE hm fun _ eX hm=>bE hm fun bv eY hm=>Rg<|oq (q_mvv (v:=.pointer _) rfl)<|oq (mI rfl)<|oq (mI rfl)<|oq (q_lda (vs:=[_,_]) rfl ii ⟨rfl,rfl,trivial⟩)<|oc (rneg_fn (iu b7) eX) fun _ _ _ fF=>?_
           obtain ⟨_,_,_,_,rfl,e6⟩:=fF.op
           refine o_callio ([(x,row 151 E)]++(ay++([(N,row 151 F)]++(az++([(O,row 151 G)]++(aA++([(D,row 301 [.int .i64 aL,.int .i64 aM,.slice (some ⟨x,0,none⟩) q aF,.int .i64 aN,.int .i64 aO,.slice (some ⟨N,0,none⟩) aJ aG,.int .i64 aP,.int .i64 aQ,.slice (some ⟨O,0,none⟩) aK aH])]++([])))))))) (r12_Work_AddTo_own (OwnLL.mono bg) ab (OwnLL.mono cE) cv (OwnLL.mono cF) cw (iu e6) eY) fun _ _ _ _ fG=>?_
           obtain ⟨dg,d0,ft,eL,em,dh,d1,fu,eM,en,di,d2,fv,eN,eo,rfl,fQ,dK,fR,dL,fS,dM,rfl⟩:=fG
           refine N0<|bE hm fun R eZ hm=>Rg<|oq (q_mvv (v:=.pointer _) rfl)<|oq (mI rfl)<|oq (mI rfl)<|o_callio ([(dg,row 151 d0)]++(em++([(dh,row 151 d1)]++(en++([(di,row 151 d2)]++(eo++([(D,row 301 [.int .i64 bv.M.Rows,.int .i64 bv.M.Cols,.slice (some ⟨dg,0,none⟩) ft eL,.int .i64 bv.U.Rows,.int .i64 bv.U.Cols,.slice (some ⟨dh,0,none⟩) fu eM,.int .i64 bv.V.Rows,.int .i64 bv.V.Cols,.slice (some ⟨di,0,none⟩) fv eN])]++([])))))))) (r12_Work_Swap_own (OwnLL.mono fQ) dK (OwnLL.mono fR) dL (OwnLL.mono fS) dM eZ) fun _ _ _ _ dw=>?_
         rotate_left 6
         all_goals
          obtain ⟨ex,dX,fq,eI,ej,ey,dY,fr,eJ,ek,ez,dZ,fs,eK,el,rfl,fN,dH,fO,dI,fP,dJ,rfl⟩:=dw
          refine N0<|have hm:=inl_onward hm cM; ?_
          exact ⟨⟨fp,R.M.Rows,R.M.Cols,R.M.A,R.U.Rows,R.U.Cols,R.U.A,R.V.Rows,R.V.Cols,R.V.A,ex,dX,fq,eI,ej,ey,dY,fr,eJ,ek,ez,dZ,fs,eK,el⟩,rfl,⟨rfl,rfl,rfl,rfl,rfl,rfl,trivial⟩,trivial,⟨⟨OwnLL.mono fN,dH⟩,⟨OwnLL.mono fO,dI⟩,⟨OwnLL.mono fP,dJ⟩,hm,ii⟩,(Nat.lt_succ_self _),ii⟩
     · replace hm:=forN_ge bY hm
       unfold M.r12_Form_k4 at hm
       refine jF rfl (dF bY)<|Jx<|Sq<|Sq<|nE hm fun _ _ cK cU c7 hm=>?_
       obtain ⟨_,dv,_,cu,cY⟩:=OwnLL.hdr bt c7
       refine nE hm fun _ _ cL cV eb hm=>?_
       obtain ⟨_,_,_,_,rfl,_,_,cP,dB,_,_⟩:=OwnLL.cell bt c7 cu eb
       obtain ⟨_,_,_,_,rfl,dk⟩:=IntR.op dB
       refine bE hm fun _ e0 hm=>Rg<|oq (q_mvv (v:=.pointer _) rfl)<|oq (q_nil rfl)<|oq (q_fa rfl)<|oq (q_fa rfl)<|oq (q_ld rfl ia rfl)<|oq (mI rfl)<|oq (q_ian rfl rfl cK (by rw [show C=_ from aR]; exact cU))<|oq (q_ld rfl ii (hdr_at cu))<|oq (mI rfl)<|oq (q_ian rfl rfl cL (by rw [show dv=_ from cY]; exact cV))<|oq (q_ldOa0 rfl ii cP)<|oc (rsign_fn (iu dk) e0) fun _ _ _ fH=>?_
       cases fH
       refine oq (q_eql rfl rfl)<|N0<|iC hm (fun cB hm=>?_) fun cB hm=>?_
       · refine jT rfl (dT cB)<|Jx<|kS hm fun fl hm=>Rg<|oq (mI rfl)<|oq (q_add rfl rfl (wi64 fl))<|oq (aI rfl)<|N0<|have hm:=inl_onward hm cD; ?_
         exact ⟨⟨ef,al,am,an,ao,ap,aq,ar,au,av,e,H+1,I,s,C,Y,S,K,t,af,Z,T,L,u,ag,aa,W⟩,rfl,⟨rfl,rfl,rfl,trivial⟩,⟨rfl,rfl,trivial⟩,⟨⟨OwnLL.mono bt,aR⟩,⟨OwnLL.mono cx,bM⟩,⟨OwnLL.mono cy,bN⟩,hm,ii⟩,(Nat.lt_succ_self _),ii⟩
       · refine jF rfl (dF cB)<|Js<|Sq ?_
         refine J.joinK (α:=Int×Int×(List (List Int))×Int×Int×(List (List Int))×Int×Int×(List (List Int))×Nat×(List Value)×Nat×Nat×Own×Nat×(List Value)×Nat×Nat×Own×Nat×(List Value)×Nat×Nat×Own) (fun ⟨cg,ch,bq,ci,cj,br,ck,cl,bs,bV,bk,b9,bZ,bO,bW,bl,ca,b0,bP,bX,bm,cb,b1,bQ⟩ h' L'=>(OwnLL IntR 75 2 h' bk bZ bq bO∧b9=bq.length)∧(OwnLL IntR 75 2 h' bl b0 br bP∧ca=br.length)∧(OwnLL IntR 75 2 h' bm b1 bs bQ∧cb=bs.length)∧(M.r12_Form_j3 e H) cg ch bq ci cj br ck cl bs=some da∧Sp ([(bV,row 151 bk)]++(bO++([(bW,row 151 bl)]++(bP++([(bX,row 151 bm)]++(bQ++([(cm,row 163 [.int .i64 x0.Rows,.int .i64 x0.Cols,.slice cq cp co]),(cn,row 265 [.int .i64 0,.int .i64 0,.slice none 0 0,.int .i64 0,.int .i64 0,.slice none 0 0,.int .i64 0,.int .i64 0,.slice none 0 0]),(D,row 301 [.int .i64 cg,.int .i64 ch,.slice (some ⟨bV,0,none⟩) b9 bZ,.int .i64 ci,.int .i64 cj,.slice (some ⟨bW,0,none⟩) ca b0,.int .i64 ck,.int .i64 cl,.slice (some ⟨bX,0,none⟩) cb b1])]))))))) L') [(1,.pointer _),(2,.pointer _),(3,.pointer _),(4,.int _ _),(5,.int _ _)] ⟨rfl,rfl,rfl,rfl,rfl,trivial⟩ (fun ⟨cg,ch,bq,ci,cj,br,ck,cl,bs,bV,bk,b9,bZ,bO,bW,bl,ca,b0,bP,bX,bm,cb,b1,bQ⟩=>[]) ?_ ?_
         · refine Sq<|bE hm fun _ e4 hm=>Rg<|oq (q_mvv (v:=.pointer _) rfl)<|oq (q_nil rfl)<|oq (q_fa rfl)<|oq (q_fa rfl)<|oq (q_ld rfl ia rfl)<|oq (mI rfl)<|oq (q_ian rfl rfl cK (by rw [show C=_ from aR]; exact cU))<|oq (q_ld rfl ii (hdr_at cu))<|oq (mI rfl)<|oq (q_ian rfl rfl cL (by rw [show dv=_ from cY]; exact cV))<|oq (q_ldOa0 rfl ii cP)<|oc (rsign_fn (iu dk) e4) fun _ _ _ fL=>?_
           cases fL
           refine oq (q_lss rfl rfl)<|N0<|iC hm (fun cC hm=>?_) fun cC hm=>?_
           · refine jT rfl (dT cC)<|bE hm fun ax e5 hm=>Rg<|oq (q_mvv (v:=.pointer _) rfl)<|oq (mI rfl)<|o_callio ([(I,row 151 s)]++(S++([(K,row 151 t)]++(T++([(L,row 151 u)]++(W++([(D,row 301 [.int .i64 al,.int .i64 am,.slice (some ⟨I,0,none⟩) C Y,.int .i64 ao,.int .i64 ap,.slice (some ⟨K,0,none⟩) af Z,.int .i64 ar,.int .i64 au,.slice (some ⟨L,0,none⟩) ag aa])]++([])))))))) (r12_Work_Negate_own (OwnLL.mono bt) aR (OwnLL.mono cx) bM (OwnLL.mono cy) bN e5) fun _ _ _ _ fM=>?_
             obtain ⟨eF,d6,fz,eR,es,eG,d7,fA,eS,et,eH,d8,fB,eT,eu,rfl,fZ,dU,f0,dV,f1,dW,rfl⟩:=fM
             refine N0 ?_
             exact ⟨⟨ax.M.Rows,ax.M.Cols,ax.M.A,ax.U.Rows,ax.U.Cols,ax.U.A,ax.V.Rows,ax.V.Cols,ax.V.A,eF,d6,fz,eR,es,eG,d7,fA,eS,et,eH,d8,fB,eT,eu⟩,rfl,⟨rfl,rfl,rfl,rfl,rfl,trivial⟩,trivial,⟨⟨OwnLL.mono fZ,dU⟩,⟨OwnLL.mono f0,dV⟩,⟨OwnLL.mono f1,dW⟩,hm,ii⟩,ii⟩
           · refine jF rfl (dF cC)<|Js ?_
             exact ⟨⟨al,am,an,ao,ap,aq,ar,au,av,I,s,C,Y,S,K,t,af,Z,T,L,u,ag,aa,W⟩,rfl,⟨rfl,rfl,rfl,rfl,rfl,trivial⟩,trivial,⟨⟨OwnLL.mono bt,aR⟩,⟨OwnLL.mono cx,bM⟩,⟨OwnLL.mono cy,bN⟩,hm,ii⟩,ii⟩
         · rintro ⟨cg,ch,bq,ci,cj,br,ck,cl,bs,bV,bk,b9,bZ,bO,bW,bl,ca,b0,bP,bX,bm,cb,b1,bQ⟩ _ _ _ _ ⟨⟨fT,dN⟩,⟨fU,dO⟩,⟨fV,dP⟩,hm,de⟩
           refine J.sp de ?_
           unfold M.r12_Form_j3 at hm
           refine Sq<|SR<|oq (aI rfl)<|N0<|Jb ?_
           obtain ⟨_,hm⟩:=rngN_some hm
           refine J.loopK (α:=Int×Int×Int×(List (List Int))×Int×Int×(List (List Int))×Int×Int×(List (List Int))×Nat×(List Value)×Nat×Nat×Own×Nat×(List Value)×Nat×Nat×Own×Nat×(List Value)×Nat×Nat×Own) (fun ⟨B,a7,a8,a9,ba,bb,bc,bd,be,bf,X,ac,d,aW,aT,aC,ad,a2,aX,aU,aD,ae,a3,aY,aV⟩ h' L'=>(OwnLL IntR 75 2 h' ac aW a9 aT∧d=a9.length)∧(OwnLL IntR 75 2 h' ad aX bc aU∧a2=bc.length)∧(OwnLL IntR 75 2 h' ae aY bf aV∧a3=bf.length)∧0≤B∧forN (M.r12_Form_b2 e H) (M.r12_Form_k2 e H) e B (a7,a8,a9,ba,bb,bc,bd,be,bf)=some da∧Sp ([(X,row 151 ac)]++(aT++([(aC,row 151 ad)]++(aU++([(aD,row 151 ae)]++(aV++([(cm,row 163 [.int .i64 x0.Rows,.int .i64 x0.Cols,.slice cq cp co]),(cn,row 265 [.int .i64 0,.int .i64 0,.slice none 0 0,.int .i64 0,.int .i64 0,.slice none 0 0,.int .i64 0,.int .i64 0,.slice none 0 0]),(D,row 301 [.int .i64 a7,.int .i64 a8,.slice (some ⟨X,0,none⟩) d aW,.int .i64 ba,.int .i64 bb,.slice (some ⟨aC,0,none⟩) a2 aX,.int .i64 bd,.int .i64 be,.slice (some ⟨aD,0,none⟩) a3 aY])]))))))) L') [(1,.pointer _),(2,.pointer _),(3,.pointer _),(4,.int _ _),(5,.int _ _)] ⟨rfl,rfl,rfl,rfl,rfl,trivial⟩ (fun ⟨B,a7,a8,a9,ba,bb,bc,bd,be,bf,X,ac,d,aW,aT,aC,ad,a2,aX,aU,aD,ae,a3,aY,aV⟩=>[(10,.int .i64 B)]) (fun ⟨B,a7,a8,a9,ba,bb,bc,bd,be,bf,X,ac,d,aW,aT,aC,ad,a2,aX,aU,aD,ae,a3,aY,aV⟩=>(e-B).toNat) ⟨0,cg,ch,bq,ci,cj,br,ck,cl,bs,bV,bk,b9,bZ,bO,bW,bl,ca,b0,bP,bX,bm,cb,b1,bQ⟩ ⟨⟨OwnLL.mono fT,dN⟩,⟨OwnLL.mono fU,dO⟩,⟨OwnLL.mono fV,dP⟩,Int.le_refl _,hm,ii⟩ ⟨rfl,trivial⟩ ?_
           rintro ⟨B,a7,a8,a9,ba,bb,bc,bd,be,bf,X,ac,d,aW,aT,aC,ad,a2,aX,aU,aD,ae,a3,aY,aV⟩ _ _ _ _ ⟨⟨bu,m⟩,⟨dx,cZ⟩,⟨dy,c4⟩,dm,hm,df⟩
           refine J.sp df<|Sq<|SR<|oq (mI rfl)<|oq (mI rfl)<|oq (q_lss rfl rfl)<|N0 ?_
           by_cases b2:B<e
           · obtain ⟨_,hm,dG⟩:=forN_lt b2 hm
             unfold M.r12_Form_b2 at hm
             refine jT rfl (dT b2) ?_
             have fm:-9223372036854775808≤B+1∧B+1≤9223372036854775807:=by omega
             refine Js<|Sq<|Jb<|nE hm fun _ _ bI bK c8 hm=>?_
             obtain ⟨_,P,_,f,n⟩:=OwnLL.hdr bu c8
             refine nE hm fun _ _ i k ec hm=>?_
             obtain ⟨eA,_,_,_,rfl,_,_,a,dC,_,_⟩:=OwnLL.cell bu c8 f ec
             obtain ⟨_,_,_,_,rfl,e7⟩:=IntR.op dC
             refine nE hm fun _ _ bJ bL c9 hm=>?_
             obtain ⟨_,Q,_,g,o⟩:=OwnLL.hdr bu c9
             refine nE hm fun _ _ j l ed hm=>?_
             obtain ⟨eB,_,_,_,rfl,_,_,c,dD,_,_⟩:=OwnLL.cell bu c9 g ed
             obtain ⟨_,_,_,_,rfl,e8⟩:=IntR.op dD
             refine bE hm fun _ e1 hm=>bE hm fun _ e2 hm=>bE hm fun aw e3 hm=>J.drawB [D,X,eA,eB] [27]<|Dc 0 rfl (q_mvv (v:=.pointer _) rfl)<|Dc 1 rfl (mI rfl)<|Dc 2 rfl (mI rfl)<|Dc 3 rfl (q_mvv (v:=.pointer _) rfl)<|Dc 4 rfl (q_nil rfl)<|Dc 5 rfl (q_fa rfl)<|Dc 6 rfl (q_fa rfl)<|Dc 8 rfl (mI rfl)<|Dc 11 rfl (mI rfl)<|Dc 14 rfl (q_mvv (v:=.pointer _) rfl)<|Dc 15 rfl (q_nil rfl)<|Dc 16 rfl (q_fa rfl)<|Dc 17 rfl (q_fa rfl)<|Dc 19 rfl (mI rfl)<|Dc 22 rfl (mI rfl) ?_
             refine Da [7,18] ⟨?_,?_,trivial⟩
             focus
              refine Xe rfl rfl<|oq (q_ld rfl ia rfl)<|NE<|Dc 9 rfl (q_ian rfl rfl bI (by rw [show d=_ from m]; exact bK)) ?_
              refine Da [10,18] ⟨?_,?_,trivial⟩
              focus
               refine Xe rfl rfl<|oq (q_ld rfl ii (hdr_at f))<|NE<|Dc 12 rfl (q_ian rfl rfl i (by rw [show P=_ from n]; exact k)) ?_
               refine Da [13,18] ⟨?_,?_,trivial⟩
               focus
                refine Xe rfl rfl<|oq (q_ldOa0 rfl ii a)<|NE<|Do 18<|Xe rfl rfl<|oq (q_ld rfl ia rfl)<|NE<|Dc 20 rfl (q_ian rfl rfl bJ (by rw [show d=_ from m]; exact bL))<|Do 21<|Xe rfl rfl<|oq (q_ld rfl ii (hdr_at g))<|NE<|Dc 23 rfl (q_ian rfl rfl j (by rw [show Q=_ from o]; exact l))<|Do 24<|Xe rfl rfl<|oq (q_ldOa0 rfl ii c) ?_
               rotate_left
               focus
                refine Xe rfl rfl<|oq (q_ld rfl ia rfl)<|NE<|Dc 20 rfl (q_ian rfl rfl bJ (by rw [show d=_ from m]; exact bL)) ?_
                refine Da [13,21] ⟨?_,?_,trivial⟩
                focus
                 refine Xe rfl rfl<|oq (q_ldOa0 rfl ii a)<|NE<|Do 21<|Xe rfl rfl<|oq (q_ld rfl ii (hdr_at g))<|NE<|Dc 23 rfl (q_ian rfl rfl j (by rw [show Q=_ from o]; exact l))<|Do 24<|Xe rfl rfl<|oq (q_ldOa0 rfl ii c) ?_
                rotate_left
                focus
                 refine Xe rfl rfl<|oq (q_ld rfl ii (hdr_at g))<|NE<|Dc 23 rfl (q_ian rfl rfl j (by rw [show Q=_ from o]; exact l)) ?_
                 refine Da [13,24] ⟨?_,?_,trivial⟩
                 focus
                  refine Xe rfl rfl<|oq (q_ldOa0 rfl ii a)<|NE<|Do 24<|Xe rfl rfl<|oq (q_ldOa0 rfl ii c) ?_
                 rotate_left
                 focus
                  refine Xe rfl rfl<|oq (q_ldOa0 rfl ii c)<|NE<|Do 13<|Xe rfl rfl<|oq (q_ldOa0 rfl ii a) ?_
                 rotate_left
                rotate_left 2
               rotate_left 3
              rotate_left 4
              focus
               refine Xe rfl rfl<|oq (q_ld rfl ia rfl)<|NE<|Dc 20 rfl (q_ian rfl rfl bJ (by rw [show d=_ from m]; exact bL)) ?_
               refine Da [10,21] ⟨?_,?_,trivial⟩
               focus
                refine Xe rfl rfl<|oq (q_ld rfl ii (hdr_at f))<|NE<|Dc 12 rfl (q_ian rfl rfl i (by rw [show P=_ from n]; exact k)) ?_
                refine Da [13,21] ⟨?_,?_,trivial⟩
                focus
                 refine Xe rfl rfl<|oq (q_ldOa0 rfl ii a)<|NE<|Do 21<|Xe rfl rfl<|oq (q_ld rfl ii (hdr_at g))<|NE<|Dc 23 rfl (q_ian rfl rfl j (by rw [show Q=_ from o]; exact l))<|Do 24<|Xe rfl rfl<|oq (q_ldOa0 rfl ii c) ?_
                rotate_left
                focus
                 refine Xe rfl rfl<|oq (q_ld rfl ii (hdr_at g))<|NE<|Dc 23 rfl (q_ian rfl rfl j (by rw [show Q=_ from o]; exact l)) ?_
                 refine Da [13,24] ⟨?_,?_,trivial⟩
                 focus
                  refine Xe rfl rfl<|oq (q_ldOa0 rfl ii a)<|NE<|Do 24<|Xe rfl rfl<|oq (q_ldOa0 rfl ii c) ?_
                 rotate_left
                 focus
                  refine Xe rfl rfl<|oq (q_ldOa0 rfl ii c)<|NE<|Do 13<|Xe rfl rfl<|oq (q_ldOa0 rfl ii a) ?_
                 rotate_left
                rotate_left 2
               rotate_left 3
               focus
                refine Xe rfl rfl<|oq (q_ld rfl ii (hdr_at g))<|NE<|Dc 23 rfl (q_ian rfl rfl j (by rw [show Q=_ from o]; exact l)) ?_
                refine Da [10,24] ⟨?_,?_,trivial⟩
                focus
                 refine Xe rfl rfl<|oq (q_ld rfl ii (hdr_at f))<|NE<|Dc 12 rfl (q_ian rfl rfl i (by rw [show P=_ from n]; exact k)) ?_
                 refine Da [13,24] ⟨?_,?_,trivial⟩
                 focus
                  refine Xe rfl rfl<|oq (q_ldOa0 rfl ii a)<|NE<|Do 24<|Xe rfl rfl<|oq (q_ldOa0 rfl ii c) ?_
                 rotate_left
                 focus
                  refine Xe rfl rfl<|oq (q_ldOa0 rfl ii c)<|NE<|Do 13<|Xe rfl rfl<|oq (q_ldOa0 rfl ii a) ?_
                 rotate_left
                rotate_left 2
                focus
                 refine Xe rfl rfl<|oq (q_ldOa0 rfl ii c)<|NE<|Do 10<|Xe rfl rfl<|oq (q_ld rfl ii (hdr_at f))<|NE<|Dc 12 rfl (q_ian rfl rfl i (by rw [show P=_ from n]; exact k))<|Do 13<|Xe rfl rfl<|oq (q_ldOa0 rfl ii a) ?_
                rotate_left
               rotate_left 3
              rotate_left 6
             rotate_left 10
             focus
              refine Xe rfl rfl<|oq (q_ld rfl ia rfl)<|NE<|Dc 20 rfl (q_ian rfl rfl bJ (by rw [show d=_ from m]; exact bL)) ?_
              refine Da [7,21] ⟨?_,?_,trivial⟩
              focus
               refine Xe rfl rfl<|oq (q_ld rfl ia rfl)<|NE<|Dc 9 rfl (q_ian rfl rfl bI (by rw [show d=_ from m]; exact bK)) ?_
               refine Da [10,21] ⟨?_,?_,trivial⟩
               focus
                refine Xe rfl rfl<|oq (q_ld rfl ii (hdr_at f))<|NE<|Dc 12 rfl (q_ian rfl rfl i (by rw [show P=_ from n]; exact k)) ?_
                refine Da [13,21] ⟨?_,?_,trivial⟩
                focus
                 refine Xe rfl rfl<|oq (q_ldOa0 rfl ii a)<|NE<|Do 21<|Xe rfl rfl<|oq (q_ld rfl ii (hdr_at g))<|NE<|Dc 23 rfl (q_ian rfl rfl j (by rw [show Q=_ from o]; exact l))<|Do 24<|Xe rfl rfl<|oq (q_ldOa0 rfl ii c) ?_
                rotate_left
                focus
                 refine Xe rfl rfl<|oq (q_ld rfl ii (hdr_at g))<|NE<|Dc 23 rfl (q_ian rfl rfl j (by rw [show Q=_ from o]; exact l)) ?_
                 refine Da [13,24] ⟨?_,?_,trivial⟩
                 focus
                  refine Xe rfl rfl<|oq (q_ldOa0 rfl ii a)<|NE<|Do 24<|Xe rfl rfl<|oq (q_ldOa0 rfl ii c) ?_
                 rotate_left
                 focus
                  refine Xe rfl rfl<|oq (q_ldOa0 rfl ii c)<|NE<|Do 13<|Xe rfl rfl<|oq (q_ldOa0 rfl ii a) ?_
                 rotate_left
                rotate_left 2
               rotate_left 3
               focus
                refine Xe rfl rfl<|oq (q_ld rfl ii (hdr_at g))<|NE<|Dc 23 rfl (q_ian rfl rfl j (by rw [show Q=_ from o]; exact l)) ?_
                refine Da [10,24] ⟨?_,?_,trivial⟩
                focus
                 refine Xe rfl rfl<|oq (q_ld rfl ii (hdr_at f))<|NE<|Dc 12 rfl (q_ian rfl rfl i (by rw [show P=_ from n]; exact k)) ?_
                 refine Da [13,24] ⟨?_,?_,trivial⟩
                 focus
                  refine Xe rfl rfl<|oq (q_ldOa0 rfl ii a)<|NE<|Do 24<|Xe rfl rfl<|oq (q_ldOa0 rfl ii c) ?_
                 rotate_left
                 focus
                  refine Xe rfl rfl<|oq (q_ldOa0 rfl ii c)<|NE<|Do 13<|Xe rfl rfl<|oq (q_ldOa0 rfl ii a) ?_
                 rotate_left
                rotate_left 2
                focus
                 refine Xe rfl rfl<|oq (q_ldOa0 rfl ii c)<|NE<|Do 10<|Xe rfl rfl<|oq (q_ld rfl ii (hdr_at f))<|NE<|Dc 12 rfl (q_ian rfl rfl i (by rw [show P=_ from n]; exact k))<|Do 13<|Xe rfl rfl<|oq (q_ldOa0 rfl ii a) ?_
                rotate_left
               rotate_left 3
              rotate_left 6
              focus
               refine Xe rfl rfl<|oq (q_ld rfl ii (hdr_at g))<|NE<|Dc 23 rfl (q_ian rfl rfl j (by rw [show Q=_ from o]; exact l)) ?_
               refine Da [7,24] ⟨?_,?_,trivial⟩
               focus
                refine Xe rfl rfl<|oq (q_ld rfl ia rfl)<|NE<|Dc 9 rfl (q_ian rfl rfl bI (by rw [show d=_ from m]; exact bK)) ?_
                refine Da [10,24] ⟨?_,?_,trivial⟩
                focus
                 refine Xe rfl rfl<|oq (q_ld rfl ii (hdr_at f))<|NE<|Dc 12 rfl (q_ian rfl rfl i (by rw [show P=_ from n]; exact k)) ?_
                 refine Da [13,24] ⟨?_,?_,trivial⟩
                 focus
                  refine Xe rfl rfl<|oq (q_ldOa0 rfl ii a)<|NE<|Do 24<|Xe rfl rfl<|oq (q_ldOa0 rfl ii c) ?_
                 rotate_left
                 focus
                  refine Xe rfl rfl<|oq (q_ldOa0 rfl ii c)<|NE<|Do 13<|Xe rfl rfl<|oq (q_ldOa0 rfl ii a) ?_
                 rotate_left
                rotate_left 2
                focus
                 refine Xe rfl rfl<|oq (q_ldOa0 rfl ii c)<|NE<|Do 10<|Xe rfl rfl<|oq (q_ld rfl ii (hdr_at f))<|NE<|Dc 12 rfl (q_ian rfl rfl i (by rw [show P=_ from n]; exact k))<|Do 13<|Xe rfl rfl<|oq (q_ldOa0 rfl ii a) ?_
                rotate_left
               rotate_left 3
               focus
                refine Xe rfl rfl<|oq (q_ldOa0 rfl ii c)<|NE<|Do 7<|Xe rfl rfl<|oq (q_ld rfl ia rfl)<|NE<|Dc 9 rfl (q_ian rfl rfl bI (by rw [show d=_ from m]; exact bK))<|Do 10<|Xe rfl rfl<|oq (q_ld rfl ii (hdr_at f))<|NE<|Dc 12 rfl (q_ian rfl rfl i (by rw [show P=_ from n]; exact k))<|Do 13<|Xe rfl rfl<|oq (q_ldOa0 rfl ii a) ?_
               rotate_left
              rotate_left 4
             rotate_left 10
             all_goals
              refine NE<|Do 25<|Xe rfl rfl<|oc (r12_Floor_fn (iu e7) (iu e8) e1) fun _ _ _ fI=>?_
              obtain ⟨_,_,_,_,rfl,e9⟩:=fI.op
              refine NE<|Do 26<|Xe rfl rfl<|oc (rneg_fn (iu e9) e2) fun _ _ _ fJ=>?_
              obtain ⟨_,_,_,_,rfl,fa⟩:=fJ.op
              refine NE<|Do 27<|Xm rfl rfl<|o_callio ([(X,row 151 ac)]++(aT++([(aC,row 151 ad)]++(aU++([(aD,row 151 ae)]++(aV++([(D,row 301 [.int .i64 a7,.int .i64 a8,.slice (some ⟨X,0,none⟩) d aW,.int .i64 ba,.int .i64 bb,.slice (some ⟨aC,0,none⟩) a2 aX,.int .i64 bd,.int .i64 be,.slice (some ⟨aD,0,none⟩) a3 aY])]++([])))))))) (r12_Work_AddTo_own (OwnLL.mono bu) m (OwnLL.mono dx) cZ (OwnLL.mono dy) c4 (iu fa) e3) fun _ _ _ _ fK=>?_
              obtain ⟨eC,d3,fw,eO,ep,eD,d4,fx,eP,eq,eE,d5,fy,eQ,er,rfl,fW,dQ,fX,dR,fY,dS,rfl⟩:=fK
              refine NF<|Dd<|Rg<|oq (mI rfl)<|oq (q_add rfl rfl (wi64 fm))<|oq (aI rfl)<|N0<|have hm:=inl_onward hm dG; ?_
              exact ⟨⟨B+1,aw.M.Rows,aw.M.Cols,aw.M.A,aw.U.Rows,aw.U.Cols,aw.U.A,aw.V.Rows,aw.V.Cols,aw.V.A,eC,d3,fw,eO,ep,eD,d4,fx,eP,eq,eE,d5,fy,eQ,er⟩,rfl,⟨rfl,rfl,rfl,rfl,rfl,trivial⟩,⟨rfl,trivial⟩,⟨⟨OwnLL.mono fW,dQ⟩,⟨OwnLL.mono fX,dR⟩,⟨OwnLL.mono fY,dS⟩,Int.le_trans dm (Int.le_of_lt (Int.lt_succ _)),hm,ii⟩,(muN b2),ii⟩
           · replace hm:=forN_ge b2 hm
             unfold M.r12_Form_k2 at hm
             refine jF rfl (dF b2)<|Jx<|Rg<|oq (mI rfl)<|oq (q_add rfl rfl (wi64 ee))<|oq (aI rfl)<|N0<|kS hm fun fo hm=>Rg<|oq (mI rfl)<|oq (q_add rfl rfl (wi64 fo))<|oq (aI rfl)<|N0<|have hm:=inl_onward hm cD; ?_
             exact ⟨⟨ef,a7,a8,a9,ba,bb,bc,bd,be,bf,e+1,H+1,X,ac,d,aW,aT,aC,ad,a2,aX,aU,aD,ae,a3,aY,aV⟩,rfl,⟨rfl,rfl,rfl,trivial⟩,⟨rfl,rfl,trivial⟩,⟨⟨OwnLL.mono bu,m⟩,⟨OwnLL.mono dx,cZ⟩,⟨OwnLL.mono dy,c4⟩,hm,ii⟩,(Nat.lt_succ_self _),ii⟩
   · refine jF rfl (nT dj)<|Jx<|have hm:=inr_onward hm cD; Sq<|J.drawB [D] []<|Dc 0 rfl (q_mvv (v:=.pointer _) rfl)<|Dc 1 rfl (q_nil rfl)<|Dc 2 rfl (q_fa rfl)<|Dl 3 rfl (q_lda (vs:=[_,_,_]) rfl ii ⟨rfl,rfl,rfl,trivial⟩)<|Dc 4 rfl (q_mvv (v:=.pointer _) rfl)<|Dc 5 rfl (q_nil rfl)<|Dc 6 rfl (q_fa rfl)<|Dl 7 rfl (q_lda (vs:=[_,_,_]) rfl ii ⟨rfl,rfl,rfl,trivial⟩)<|Dc 8 rfl (q_mvv (v:=.pointer _) rfl)<|Dc 9 rfl (q_nil rfl)<|Dc 10 rfl (q_fa rfl)<|Dl 11 rfl (q_lda (vs:=[_,_,_]) rfl ii ⟨rfl,rfl,rfl,trivial⟩)<|Dc 12 rfl (q_bd [.int _ _,.int _ _,.slice _ _ _,.int _ _,.int _ _,.slice _ _ _,.int _ _,.int _ _,.slice _ _ _] rfl)<|Do 13<|Xe rfl rfl<|Sc [.int _ _,.int _ _,.slice _ _ _,.int _ _,.int _ _,.slice _ _ _,.int _ _,.int _ _,.slice _ _ _] [.int _ _,.int _ _,.slice _ _ _,.int _ _,.int _ _,.slice _ _ _,.int _ _,.int _ _,.slice _ _ _] rfl rfl rfl rfl rfl ia rfl rfl<|NE<|Dd<|J.fzLL (b:=bh) (T2:=151) (OwnLL.mono eg) dn fun _ _ fb=>J.fzLL (b:=bi) (T2:=151) (OwnLL.mono eh) dp fun _ _ fc=>J.fzLL (b:=bj) (T2:=151) (OwnLL.mono ei) dq fun _ _ fd=>Jr ?_
     cases hm
     exact ret_ok (fn:=Tryz.f211) rfl (.agg rfl ii ii .nil) ⟨_,rfl,⟨_,_,_,_,_,_,_,_,_,rfl,Sm fb,Sm fc,Sm fd⟩⟩
theorem r12_Pivot_fn {h:Heap} {x0:List Int} {v0:Value} (r0:Sls IntR 2 h v0 x0) {r:Int} (hm:M.r12_Pivot x0=some r) :
    Fn Tryz.prog 246 #[v0] h fun v h'=>v=.int .i64 r:=by
 obtain ⟨_,_,_,rfl,d⟩:=r0.op3
 refine Fn.intro (args:=[_]) Tryz.func246 rfl rfl (lB rfl) fun w=>?_
 unfold M.r12_Pivot at hm
 refine SR<|oq (aI rfl)<|N0<|Sq<|SR<|oq (aI rfl)<|N0<|Jb ?_
 obtain ⟨_,hm⟩:=rngL_some hm
 refine J.loopK (α:=Nat) (fun a h' L'=>forL M.r12_Pivot_b1 M.r12_Pivot_k1 (List.drop a x0) a ()=some r∧Sp ([]) L') [(0,.slice _ _ _)] ⟨rfl,trivial⟩ (fun a=>[(3,.int .i64 (a:Int))]) (fun a=>x0.length-a) 0 ⟨hm,ii⟩ ⟨rfl,trivial⟩ ?_
 rintro a _ _ _ _ ⟨hm,g⟩
 refine J.sp g<|Sq<|SR<|oq (mI rfl)<|oq (mS rfl)<|oq (q_lenE (k:=x0.length) rfl (Sls.len d))<|oq (q_lss rfl rfl)<|N0 ?_
 by_cases c:(a:Int)<(x0.length:Int)
 · obtain ⟨_,_,b,l,hm,f⟩:=forL_cons c hm
   unfold M.r12_Pivot_b1 at hm
   refine jT rfl (dT c) ?_
   have o:-9223372036854775808≤(a:Int)+1∧(a:Int)+1≤9223372036854775807:=by omega
   refine Js<|Sq<|Jb<|Sq ?_
   obtain ⟨_,_,rfl⟩:=Sls.op d b
   refine aE d l fun _ j i=>?_
   obtain ⟨_,_,_,_,rfl,n⟩:=IntR.op i
   refine bE hm fun _ m hm=>Rg<|oq (mS rfl)<|oq (mI rfl)<|oq (q_ian rfl rfl rfl (ln d b))<|oq (q_ldfa rfl j)<|oc (rsign_fn (iu n) m) fun _ _ _ p=>?_
   cases p
   refine oq (q_neq rfl rfl)<|N0<|iC hm (fun e hm=>?_) fun e hm=>?_
   · refine jF rfl (dF (fun z=>z e))<|Js<|Rg<|oq (mI rfl)<|oq (q_add rfl rfl (wi64 o))<|oq (aI rfl)<|N0<|have hm:=inl_onward hm f; ?_
     exact ⟨(a+1),rfl,⟨rfl,trivial⟩,⟨rfl,trivial⟩,⟨hm,ii⟩,(muL b),ii⟩
   · refine jT rfl (dT e)<|SR<|oq (mI rfl)<|oq (aI rfl)<|N0<|have hm:=inr_onward hm f; Jr ?_
     cases hm
     exact ret_ok (fn:=Tryz.f246) rfl (.tmp rfl .nil) rfl
 · replace hm:=forL_nil c hm
   unfold M.r12_Pivot_k1 at hm
   refine jF rfl (dF c)<|Jx<|SR<|oq (aI rfl)<|N0<|Jr ?_
   cases hm
   exact ret_ok (fn:=Tryz.f246) rfl (.tmp rfl .nil) rfl
theorem r12_Rank_fn {h:Heap} {x0:TMat} {v0:Value} (r0:AggV TMatR h v0 x0) {r:Int} (hm:M.r12_Rank x0=some r) :
    Fn Tryz.prog 212 #[v0] h fun v h'=>v=.int .i64 r:=by
 obtain ⟨_,rfl,y,x,q,rfl,f⟩:=r0
 refine Fn.intro (args:=[_]) Tryz.func212 rfl rfl (lB rfl) fun w=>?_
 unfold M.r12_Rank at hm
 refine SR<|o_bx (v:=.agg ⟨[.int _ _,.int _ _,.slice _ _ _]⟩) rfl rfl fun p=>oq (aI rfl)<|N0<|SR<|oq (aI rfl)<|N0<|Sq<|SR<|oq (aI rfl)<|N0<|Jb ?_
 obtain ⟨_,hm⟩:=rngN_some hm
 refine J.loopK (α:=Int×Int) (fun ⟨a,b⟩ h' L'=>0≤a∧forN (M.r12_Rank_b1 x0) M.r12_Rank_k1 x0.Rows a b=some r∧Sp ([(p,row 163 [.int .i64 x0.Rows,.int .i64 x0.Cols,.slice y x q])]) L') [(1,.pointer _)] ⟨rfl,trivial⟩ (fun ⟨a,b⟩=>[(3,.int .i64 b),(4,.int .i64 a)]) (fun ⟨a,b⟩=>(x0.Rows-a).toNat) ⟨0,0⟩ ⟨Int.le_refl _,hm,ii⟩ ⟨rfl,rfl,trivial⟩ ?_
 rintro ⟨a,b⟩ _ _ _ _ ⟨d,hm,j⟩
 refine J.sp j<|Sq<|SR<|oq (mI rfl)<|oq (q_fa rfl)<|oq (q_ld rfl ia rfl)<|oq (q_lss rfl rfl)<|N0 ?_
 by_cases c:a<x0.Rows
 · obtain ⟨_,hm,g⟩:=forN_lt c hm
   unfold M.r12_Rank_b1 at hm
   refine jT rfl (dT c) ?_
   have k:-9223372036854775808≤a+1∧a+1≤9223372036854775807:=by omega
   refine Js<|Sq<|Jb<|Sq<|nE hm fun _ _ n i o hm=>?_
   obtain ⟨_,_,rfl⟩:=Sls.op f i
   refine aE f o fun _ m l=>?_
   obtain ⟨_,_,_,rfl,t⟩:=l
   refine bE hm fun _ s hm=>Rg<|oq (q_fa rfl)<|oq (q_ld rfl ia rfl)<|oq (mI rfl)<|oq (q_ian rfl rfl n (ln f i))<|oq (q_ldf rfl m)<|oc (r12_Pivot_fn (Sm t) s) fun _ _ _ z=>?_
   cases z
   refine oq (q_geq rfl rfl)<|N0<|iC hm (fun e hm=>?_) fun e hm=>?_
   · refine jT rfl (dT e)<|kS hm fun u hm=>Rg<|oq (mI rfl)<|oq (q_add rfl rfl (wi64 u))<|oq (aI rfl)<|N0<|Rg<|oq (mI rfl)<|oq (q_add rfl rfl (wi64 k))<|oq (aI rfl)<|N0<|have hm:=inl_onward hm g; ?_
     exact ⟨⟨a+1,b+1⟩,rfl,⟨rfl,trivial⟩,⟨rfl,rfl,trivial⟩,⟨Int.le_trans d (Int.le_of_lt (Int.lt_succ _)),hm,ii⟩,(muN c),ii⟩
   · refine jF rfl (dF e)<|Js<|Rg<|oq (mI rfl)<|oq (q_add rfl rfl (wi64 k))<|oq (aI rfl)<|N0<|have hm:=inl_onward hm g; ?_
     exact ⟨⟨a+1,b⟩,rfl,⟨rfl,trivial⟩,⟨rfl,rfl,trivial⟩,⟨Int.le_trans d (Int.le_of_lt (Int.lt_succ _)),hm,ii⟩,(muN c),ii⟩
 · replace hm:=forN_ge c hm
   unfold M.r12_Rank_k1 at hm
   refine jF rfl (dF c)<|Jx<|SR<|oq (mI rfl)<|oq (aI rfl)<|N0<|Jr ?_
   cases hm
   exact ret_ok (fn:=Tryz.f212) rfl (.tmp rfl .nil) rfl
theorem r12_Top_fn {h:Heap} {x0:TMat} {x1:Int} {v0:Value} (r0:AggV TMatR h v0 x0) {r:TMat} (hm:M.r12_Top x0 x1=some r) :
    Fn Tryz.prog 214 #[v0,.int .i64 x1] h fun v h'=>AggV TMatR h' v r:=by
 obtain ⟨_,rfl,_,_,_,rfl,c⟩:=r0
 refine Fn.intro (args:=[_,_]) Tryz.func214 rfl rfl (lB rfl) fun w=>?_
 unfold M.r12_Top at hm
 refine SR<|o_bx (v:=.agg ⟨[.int _ _,.int _ _,.slice _ _ _]⟩) rfl rfl fun a=>o_al fun _=>N0<|Sq<|bE hm fun _ b hm=>?_
 obtain ⟨_,_,d,e⟩:=Sls.cutH c b
 refine J.drawB [a] []<|Dc 0 rfl (mI rfl)<|Dc 1 rfl (q_fa rfl)<|Dl 2 rfl (q_ld rfl ii rfl)<|Dc 3 rfl (q_fa rfl)<|Dl 4 rfl (q_ld rfl ii rfl)<|Dc 5 rfl (mI rfl)<|Dc 6 rfl (q_cutH rfl rfl e)<|Dc 7 rfl (q_bd [.int _ _,.int _ _,.slice _ _ _] rfl)<|Do 8<|Xe rfl rfl<|Sc [.int _ _,.int _ _,.slice _ _ _] [.int _ _,.int _ _,.slice _ _ _] rfl rfl rfl rfl rfl ia rfl rfl<|NE<|Dd<|Jr ?_
 cases hm
 exact ret_ok (fn:=Tryz.f214) rfl (.agg rfl ii ii .nil) ⟨_,rfl,⟨_,_,_,rfl,Sm d⟩⟩
theorem r12_Basis_fn {h:Heap} {x0:TMat} {v0:Value} (r0:AggV TMatR h v0 x0) {r:TMat} (hm:M.r12_Basis x0=some r) :
    Fn Tryz.prog 166 #[v0] h fun v h'=>AggV TMatR h' v r:=by
 obtain ⟨_,rfl,_,_,_,rfl,g⟩:=r0
 refine Fn.intro (args:=[_]) Tryz.func166 rfl rfl (lB rfl) fun w=>?_
 unfold M.r12_Basis at hm
 refine SR<|o_bx (v:=.agg ⟨[.int _ _,.int _ _,.slice _ _ _]⟩) rfl rfl fun _=>o_al fun _=>N0<|Sq<|bE hm fun b d hm=>Rg<|oq (q_lda (vs:=[_,_,_]) rfl ii ⟨rfl,rfl,rfl,trivial⟩)<|oc (r12_Form_fn (x0:=x0) ⟨_,rfl,⟨_,_,_,rfl,Sm g⟩⟩ d) fun _ _ _ j=>?_
 obtain ⟨_,rfl,_,_,_,_,_,_,_,_,_,rfl,a,_,_⟩:=j
 refine o_al fun c=>Sc [.int _ _,.int _ _,.slice _ _ _,.int _ _,.int _ _,.slice _ _ _,.int _ _,.int _ _,.slice _ _ _] [.int _ _,.int _ _,.slice _ _ _,.int _ _,.int _ _,.slice _ _ _,.int _ _,.int _ _,.slice _ _ _] rfl rfl rfl rfl rfl ia rfl rfl<|N0<|Sq<|bE hm fun _ e hm=>bE hm fun _ f hm=>J.drawB [c] []<|Dc 0 rfl (q_fa rfl)<|Dl 1 rfl (q_lda (vs:=[_,_,_]) rfl ii ⟨rfl,rfl,rfl,trivial⟩)<|Dc 2 rfl (q_fa rfl)<|Dl 3 rfl (q_lda (vs:=[_,_,_]) rfl ii ⟨rfl,rfl,rfl,trivial⟩)<|Do 4<|Xe rfl rfl<|oc (r12_Rank_fn (x0:=b.H) ⟨_,rfl,⟨_,_,_,rfl,Sm a⟩⟩ e) fun _ _ _ k=>?_
 cases k
 refine NE<|Do 5<|Xe rfl rfl<|oc (r12_Top_fn (x0:=b.H) ⟨_,rfl,⟨_,_,_,rfl,Sm a⟩⟩ f) fun _ _ _ l=>?_
 obtain ⟨_,rfl,_,_,_,rfl,i⟩:=l
 refine NE<|Do 6<|Xe rfl rfl<|Sc [.int _ _,.int _ _,.slice _ _ _] [.int _ _,.int _ _,.slice _ _ _] rfl rfl rfl rfl rfl ia rfl rfl<|NE<|Dd<|Jr ?_
 cases hm
 exact ret_ok (fn:=Tryz.f166) rfl (.agg rfl ii ii .nil) ⟨_,rfl,⟨_,_,_,rfl,Sm i⟩⟩
theorem r15_Left_fn {h:Heap} {x0:TMat} {v0:Value} (r0:AggV TMatR h v0 x0) {r:TMat} (hm:M.r15_Left x0=some r) :
    Fn Tryz.prog 163 #[v0] h fun v h'=>AggV TMatR h' v r:=by
 obtain ⟨_,rfl,_,_,_,rfl,g⟩:=r0
 refine Fn.intro (args:=[_]) Tryz.func163 rfl rfl (lB rfl) fun w=>?_
 unfold M.r15_Left at hm
 refine SR<|o_bx (v:=.agg ⟨[.int _ _,.int _ _,.slice _ _ _]⟩) rfl rfl fun a=>o_al fun _=>N0<|Sq<|bE hm fun s c hm=>Rg<|oq (q_lda (vs:=[_,_,_]) rfl ii ⟨rfl,rfl,rfl,trivial⟩)<|oc (r12_Form_fn (x0:=x0) ⟨_,rfl,⟨_,_,_,rfl,Sm g⟩⟩ c) fun _ _ _ o=>?_
 obtain ⟨_,rfl,_,_,_,_,_,_,_,_,_,rfl,i,j,_⟩:=o
 refine o_al fun b=>Sc [.int _ _,.int _ _,.slice _ _ _,.int _ _,.int _ _,.slice _ _ _,.int _ _,.int _ _,.slice _ _ _] [.int _ _,.int _ _,.slice _ _ _,.int _ _,.int _ _,.slice _ _ _,.int _ _,.int _ _,.slice _ _ _] rfl rfl rfl rfl rfl ia rfl rfl<|N0<|Sq<|bE hm fun t d hm=>Rg<|oq (q_fa rfl)<|oq (q_lda (vs:=[_,_,_]) rfl ii ⟨rfl,rfl,rfl,trivial⟩)<|oc (r12_Rank_fn (x0:=s.H) ⟨_,rfl,⟨_,_,_,rfl,Sm i⟩⟩ d) fun _ _ _ p=>?_
 cases p
 refine oq (aI rfl)<|N0<|Sq<|kS hm fun m hm=>bE hm fun n e hm=>?_
 obtain ⟨_,_,k,u⟩:=Sls.cutL j e
 refine J.drawB [a,b] []<|Dc 0 rfl (q_fa rfl)<|Dl 1 rfl (q_ld rfl ii rfl)<|Dc 2 rfl (mI rfl)<|Dc 3 rfl (q_sub rfl rfl (wi64 m))<|Dc 4 rfl (q_fa rfl)<|Dl 5 rfl (q_ld rfl ii rfl)<|Dc 6 rfl (q_fa rfl)<|Dc 7 rfl (q_fa rfl)<|Dl 8 rfl (q_ld rfl ii rfl)<|Dc 9 rfl (mI rfl)<|Dc 10 rfl (q_cutL rfl rfl u)<|Dc 11 rfl (q_bd [.int _ _,.int _ _,.slice _ _ _] rfl)<|Do 12<|Xe rfl rfl<|o_al fun _=>NE<|Do 13<|Xe rfl rfl<|Sc [.int _ _,.int _ _,.slice _ _ _] [.int _ _,.int _ _,.slice _ _ _] rfl rfl rfl rfl rfl ia rfl rfl<|NE<|Dd<|Sq<|bE hm fun _ f hm=>Rg<|oq (q_lda (vs:=[_,_,_]) rfl ii ⟨rfl,rfl,rfl,trivial⟩)<|oc (r12_Basis_fn (x0:=(TMat.mk (x0.Rows-t) x0.Rows n)) ⟨_,rfl,⟨_,_,_,rfl,Sm k⟩⟩ f) fun _ _ _ q=>?_
 obtain ⟨_,rfl,_,_,_,rfl,l⟩:=q
 refine Sc [.int _ _,.int _ _,.slice _ _ _] [.int _ _,.int _ _,.slice _ _ _] rfl rfl rfl rfl rfl ia rfl rfl<|N0<|Jr ?_
 cases hm
 exact ret_ok (fn:=Tryz.f163) rfl (.agg rfl ii ii .nil) ⟨_,rfl,⟨_,_,_,rfl,Sm l⟩⟩
end Go.Z
end
section
namespace Go.Z
open Go Go.RowKit Go.Proofs
theorem r25_ValidChain_fn {h:Heap} {x0:List TFace} {v0:Value} (r0:Sls TFaceR 3 h v0 x0) {r:Bool} (hm:M.r25_ValidChain x0=some r) :
    Fn Tryz.prog 81 #[v0] h fun v h'=>v=.bool r:=by
 obtain ⟨_,_,_,rfl,e⟩:=r0.op3
 refine Fn.intro (args:=[_]) Tryz.func81 rfl rfl (lB rfl) fun w=>?_
 unfold M.r25_ValidChain at hm
 refine SR<|oq (aB rfl)<|N0<|Sq<|SR<|oq (aI rfl)<|N0<|Jb ?_
 obtain ⟨_,hm⟩:=rngL_some hm
 refine J.loopK (α:=Nat) (fun f h' L'=>forL (M.r25_ValidChain_b1 x0) M.r25_ValidChain_k1 (List.drop f x0) f ()=some r∧Sp ([]) L') [(0,.slice _ _ _)] ⟨rfl,trivial⟩ (fun f=>[(3,.int .i64 (f:Int))]) (fun f=>x0.length-f) 0 ⟨hm,ii⟩ ⟨rfl,trivial⟩ ?_
 rintro f _ _ _ _ ⟨hm,t⟩
 refine J.sp t<|Sq<|SR<|oq (mI rfl)<|oq (mS rfl)<|oq (q_lenE (k:=x0.length) rfl (Sls.len e))<|oq (q_lss rfl rfl)<|N0 ?_
 by_cases o:(f:Int)<(x0.length:Int)
 · obtain ⟨_,_,d,C,hm,l⟩:=forL_cons o hm
   unfold M.r25_ValidChain_b1 at hm
   refine jT rfl (dT o) ?_
   have u:-9223372036854775808≤(f:Int)+1∧(f:Int)+1≤9223372036854775807:=by omega
   refine Js<|Sq<|Jb<|Sq ?_
   obtain ⟨_,_,rfl⟩:=Sls.op e d
   refine aE e C fun _ g x=>?_
   obtain ⟨_,_,_,_,rfl,i⟩:=x
   refine bE hm fun _ p hm=>iC hm (fun a hm=>?_) fun a hm=>?_
   · refine bE hm fun _ s hm=>iC hm (fun c hm=>?_) fun c hm=>?_
     · refine J.drawB [] []<|Dc 0 rfl (mS rfl)<|Dc 1 rfl (mI rfl)<|Dc 2 rfl (q_ian rfl rfl rfl (ln e d))<|Dc 3 rfl (q_fa rfl)<|Dl 4 rfl (q_ldfs (vs:=[_,_]) rfl g rfl)<|Do 5<|Xe rfl rfl<|oc (rvalid_fn (iu i) p) fun _ _ _ m=>?_
       cases m
       refine NE<|Dc 6 rfl (q_not rfl)<|Dc 7 rfl (mB rfl)<|Dg 8 rfl rfl rfl (bT (a)) (mS rfl)<|Dg 9 rfl rfl rfl (bT (a)) (mI rfl)<|Dg 10 rfl rfl rfl (bT (a)) (q_ian rfl rfl rfl (ln e d))<|Dg 11 rfl rfl rfl (bT (a)) (q_fa rfl)<|Dm 12 rfl rfl rfl (bT (a)) (q_ldfs (vs:=[_,_]) rfl g rfl)<|Do 13<|Xg rfl rfl rfl rfl (bT (a))<|oc (rsign_fn (iu i) s) fun _ _ _ n=>?_
       cases n
       refine NE<|Dg 14 rfl rfl rfl (bT (a)) (q_eql rfl rfl)<|Dc 15 rfl (pkF rfl (bT (a)) rfl)<|Dc 16 rfl (mB rfl)<|Dp 17 rfl rfl rfl (dT c)<|Dp 18 rfl rfl rfl (dT c)<|Dp 19 rfl rfl rfl (dT c)<|Du 20 rfl rfl rfl<|Du 21 rfl rfl rfl<|Du 22 rfl rfl rfl<|Du 23 rfl rfl rfl<|Du 24 rfl rfl rfl<|Du 25 rfl rfl rfl<|Du 26 rfl rfl rfl<|Du 27 rfl rfl rfl<|Du 28 rfl rfl rfl<|Du 29 rfl rfl rfl<|Du 30 rfl rfl rfl<|Du 31 rfl rfl rfl<|Dp 32 rfl rfl rfl (dT c)<|Dc 33 rfl (pkT rfl (dT c) rfl)<|Dd<|jT rfl rfl<|SR<|oq (aB rfl)<|N0<|have hm:=inr_onward hm l; Jr ?_
       cases hm
       exact ret_ok (fn:=Tryz.f81) rfl (.tmp rfl .nil) rfl
     · refine iC hm (fun b hm=>?_) fun b hm=>?_
       · refine kS hm fun E hm=>nE hm fun _ _ A B D hm=>aE e D fun _ z y=>?_
         obtain ⟨_,_,_,_,rfl,_⟩:=y
         refine J.drawB [] []<|Dc 0 rfl (mS rfl)<|Dc 1 rfl (mI rfl)<|Dc 2 rfl (q_ian rfl rfl rfl (ln e d))<|Dc 3 rfl (q_fa rfl)<|Dl 4 rfl (q_ldfs (vs:=[_,_]) rfl g rfl)<|Do 5<|Xe rfl rfl<|oc (rvalid_fn (iu i) p) fun _ _ _ m=>?_
         cases m
         refine NE<|Dc 6 rfl (q_not rfl)<|Dc 7 rfl (mB rfl)<|Dg 8 rfl rfl rfl (bT (a)) (mS rfl)<|Dg 9 rfl rfl rfl (bT (a)) (mI rfl)<|Dg 10 rfl rfl rfl (bT (a)) (q_ian rfl rfl rfl (ln e d))<|Dg 11 rfl rfl rfl (bT (a)) (q_fa rfl)<|Dm 12 rfl rfl rfl (bT (a)) (q_ldfs (vs:=[_,_]) rfl g rfl)<|Do 13<|Xg rfl rfl rfl rfl (bT (a))<|oc (rsign_fn (iu i) s) fun _ _ _ n=>?_
         cases n
         refine NE<|Dg 14 rfl rfl rfl (bT (a)) (q_eql rfl rfl)<|Dc 15 rfl (pkF rfl (bT (a)) rfl)<|Dc 16 rfl (mB rfl)<|Dg 17 rfl rfl rfl (dF c) (mI rfl)<|Dg 18 rfl rfl rfl (dF c) (q_gtr rfl rfl)<|Dg 19 rfl rfl rfl (dF c) (mB rfl)<|Dg 20 rfl rfl rfl (dT b) (mS rfl)<|Dg 21 rfl rfl rfl (dT b) (mI rfl)<|Dg 22 rfl rfl rfl (dT b) (q_sub rfl rfl (wi64 E))<|Dg 23 rfl rfl rfl (dT b) (q_ian rfl rfl A (ln e B))<|Dg 24 rfl rfl rfl (dT b) (q_fa rfl)<|Dm 25 rfl rfl rfl (dT b) (q_ldf rfl (z.cell (j:=0) rfl))<|Dg 26 rfl rfl rfl (dT b) (mS rfl)<|Dg 27 rfl rfl rfl (dT b) (mI rfl)<|Dg 28 rfl rfl rfl (dT b) (q_ian rfl rfl rfl (ln e d))<|Dg 29 rfl rfl rfl (dT b) (q_fa rfl)<|Dm 30 rfl rfl rfl (dT b) (q_ldf rfl (g.cell (j:=0) rfl))<|Dg 31 rfl rfl rfl (dT b) (q_geq rfl rfl)<|Dg 32 rfl rfl rfl (dF c) (pkT rfl (dT b) rfl)<|Dc 33 rfl (pkF rfl (dF c) rfl)<|Dd<|iC hm (fun q hm=>?_) fun q hm=>?_
         · refine jT rfl (dT q)<|SR<|oq (aB rfl)<|N0<|have hm:=inr_onward hm l; Jr ?_
           cases hm
           exact ret_ok (fn:=Tryz.f81) rfl (.tmp rfl .nil) rfl
         · refine jF rfl (dF q)<|Js<|Rg<|oq (mI rfl)<|oq (q_add rfl rfl (wi64 u))<|oq (aI rfl)<|N0<|have hm:=inl_onward hm l; ?_
           exact ⟨(f+1),rfl,⟨rfl,trivial⟩,⟨rfl,trivial⟩,⟨hm,ii⟩,(muL d),ii⟩
       · refine J.drawB [] []<|Dc 0 rfl (mS rfl)<|Dc 1 rfl (mI rfl)<|Dc 2 rfl (q_ian rfl rfl rfl (ln e d))<|Dc 3 rfl (q_fa rfl)<|Dl 4 rfl (q_ldfs (vs:=[_,_]) rfl g rfl)<|Do 5<|Xe rfl rfl<|oc (rvalid_fn (iu i) p) fun _ _ _ m=>?_
         cases m
         refine NE<|Dc 6 rfl (q_not rfl)<|Dc 7 rfl (mB rfl)<|Dg 8 rfl rfl rfl (bT (a)) (mS rfl)<|Dg 9 rfl rfl rfl (bT (a)) (mI rfl)<|Dg 10 rfl rfl rfl (bT (a)) (q_ian rfl rfl rfl (ln e d))<|Dg 11 rfl rfl rfl (bT (a)) (q_fa rfl)<|Dm 12 rfl rfl rfl (bT (a)) (q_ldfs (vs:=[_,_]) rfl g rfl)<|Do 13<|Xg rfl rfl rfl rfl (bT (a))<|oc (rsign_fn (iu i) s) fun _ _ _ n=>?_
         cases n
         refine NE<|Dg 14 rfl rfl rfl (bT (a)) (q_eql rfl rfl)<|Dc 15 rfl (pkF rfl (bT (a)) rfl)<|Dc 16 rfl (mB rfl)<|Dg 17 rfl rfl rfl (dF c) (mI rfl)<|Dg 18 rfl rfl rfl (dF c) (q_gtr rfl rfl)<|Dg 19 rfl rfl rfl (dF c) (mB rfl)<|Dp 20 rfl rfl rfl (dF b)<|Dp 21 rfl rfl rfl (dF b)<|Dp 22 rfl rfl rfl (dF b)<|Dp 23 rfl rfl rfl (dF b)<|Dp 24 rfl rfl rfl (dF b)<|Dp 25 rfl rfl rfl (dF b)<|Dp 26 rfl rfl rfl (dF b)<|Dp 27 rfl rfl rfl (dF b)<|Dp 28 rfl rfl rfl (dF b)<|Dp 29 rfl rfl rfl (dF b)<|Dp 30 rfl rfl rfl (dF b)<|Dp 31 rfl rfl rfl (dF b)<|Dg 32 rfl rfl rfl (dF c) (pkF rfl (dF b) rfl)<|Dc 33 rfl (pkF rfl (dF c) rfl)<|Dd<|jF rfl rfl<|Js<|Rg<|oq (mI rfl)<|oq (q_add rfl rfl (wi64 u))<|oq (aI rfl)<|N0<|have hm:=inl_onward hm l; ?_
         exact ⟨(f+1),rfl,⟨rfl,trivial⟩,⟨rfl,trivial⟩,⟨hm,ii⟩,(muL d),ii⟩
   · refine J.drawB [] []<|Dc 0 rfl (mS rfl)<|Dc 1 rfl (mI rfl)<|Dc 2 rfl (q_ian rfl rfl rfl (ln e d))<|Dc 3 rfl (q_fa rfl)<|Dl 4 rfl (q_ldfs (vs:=[_,_]) rfl g rfl)<|Do 5<|Xe rfl rfl<|oc (rvalid_fn (iu i) p) fun _ _ _ m=>?_
     cases m
     refine NE<|Dc 6 rfl (q_not rfl)<|Dc 7 rfl (mB rfl)<|Dp 8 rfl rfl rfl (bF ((nT a)))<|Dp 9 rfl rfl rfl (bF ((nT a)))<|Dp 10 rfl rfl rfl (bF ((nT a)))<|Dp 11 rfl rfl rfl (bF ((nT a)))<|Dp 12 rfl rfl rfl (bF ((nT a)))<|Dp 13 rfl rfl rfl (bF ((nT a)))<|Dp 14 rfl rfl rfl (bF ((nT a)))<|Dc 15 rfl (pkT rfl (bF ((nT a))) rfl)<|Dc 16 rfl (mB rfl)<|JD.pass 17 (by kernel_rfl) rfl rfl rfl ss_subB<|JD.pass 18 (by kernel_rfl) rfl rfl rfl ss_subB<|JD.pass 19 (by kernel_rfl) rfl rfl rfl ss_subB<|Du 20 rfl rfl rfl<|Du 21 rfl rfl rfl<|Du 22 rfl rfl rfl<|Du 23 rfl rfl rfl<|Du 24 rfl rfl rfl<|Du 25 rfl rfl rfl<|Du 26 rfl rfl rfl<|Du 27 rfl rfl rfl<|Du 28 rfl rfl rfl<|Du 29 rfl rfl rfl<|Du 30 rfl rfl rfl<|Du 31 rfl rfl rfl<|JD.pass 32 (by kernel_rfl) rfl rfl rfl ss_subB<|Dc 33 rfl (pkT rfl rfl rfl)<|Dd<|jT rfl rfl<|SR<|oq (aB rfl)<|N0<|have hm:=inr_onward hm l; Jr ?_
     cases hm
     exact ret_ok (fn:=Tryz.f81) rfl (.tmp rfl .nil) rfl
 · replace hm:=forL_nil o hm
   unfold M.r25_ValidChain_k1 at hm
   refine jF rfl (dF o)<|Jx<|SR<|oq (aB rfl)<|N0<|Jr ?_
   cases hm
   exact ret_ok (fn:=Tryz.f81) rfl (.tmp rfl .nil) rfl
theorem r25_SameChain_fn {h:Heap} {x0:List TFace} {x1:List TFace} {v0:Value} {v1:Value} (r0:Sls TFaceR 3 h v0 x0) (r1:Sls TFaceR 3 h v1 x1) {r:Bool} (hm:M.r25_SameChain x0 x1=some r) :
    Fn Tryz.prog 24 #[v0,v1] h fun v h'=>v=.bool r:=by
 obtain ⟨_,_,_,rfl,c⟩:=r0.op3
 obtain ⟨_,_,_,rfl,e⟩:=r1.op3
 refine Fn.intro (args:=[_,_]) Tryz.func24 rfl rfl (lB rfl) fun w=>?_
 unfold M.r25_SameChain at hm
 refine SR<|oq (aB rfl)<|N0<|Sq<|SR<|oq (mS rfl)<|oq (q_lenE (k:=x0.length) rfl (Sls.len c))<|oq (mS rfl)<|oq (q_lenE (k:=x1.length) rfl (Sls.len e))<|oq (q_neq rfl rfl)<|N0<|iC hm (fun o hm=>?_) fun o hm=>?_
 · refine jF rfl (dF (fun z=>z o))<|Js<|Sq<|SR<|oq (aI rfl)<|N0<|Jb ?_
   obtain ⟨_,hm⟩:=rngL_some hm
   refine J.loopK (α:=Nat) (fun b h' L'=>forL (M.r25_SameChain_b1 x1) M.r25_SameChain_k1 (List.drop b x0) b ()=some r∧Sp ([]) L') [(0,.slice _ _ _),(1,.slice _ _ _)] ⟨rfl,rfl,trivial⟩ (fun b=>[(5,.int .i64 (b:Int))]) (fun b=>x0.length-b) 0 ⟨hm,ii⟩ ⟨rfl,trivial⟩ ?_
   rintro b _ _ _ _ ⟨hm,q⟩
   refine J.sp q<|Sq<|SR<|oq (mI rfl)<|oq (mS rfl)<|oq (q_lenE (k:=x0.length) rfl (Sls.len c))<|oq (q_lss rfl rfl)<|N0 ?_
   by_cases n:(b:Int)<(x0.length:Int)
   · obtain ⟨_,_,d,u,hm,m⟩:=forL_cons n hm
     unfold M.r25_SameChain_b1 at hm
     refine jT rfl (dT n) ?_
     have C:-9223372036854775808≤(b:Int)+1∧(b:Int)+1≤9223372036854775807:=by omega
     refine Js<|Sq<|Jb<|Sq ?_
     obtain ⟨_,_,rfl⟩:=Sls.op c d
     refine aE c u fun _ g s=>?_
     obtain ⟨_,_,_,_,rfl,A⟩:=s
     refine nE hm fun _ _ l f x hm=>?_
     obtain ⟨_,_,rfl⟩:=Sls.op e f
     refine aE e x fun _ i t=>?_
     obtain ⟨_,_,_,_,rfl,B⟩:=t
     refine iC hm (fun a hm=>?_) fun a hm=>?_
     · refine bE hm fun _ y hm=>J.drawB [] []<|Dc 0 rfl (mS rfl)<|Dc 1 rfl (mI rfl)<|Dc 2 rfl (q_ian rfl rfl rfl (ln c d))<|Dc 3 rfl (q_fa rfl)<|Dl 4 rfl (q_ldf rfl (g.cell (j:=0) rfl))<|Dc 5 rfl (mS rfl)<|Dc 6 rfl (mI rfl)<|Dc 7 rfl (q_ian rfl rfl l (ln e f))<|Dc 8 rfl (q_fa rfl)<|Dl 9 rfl (q_ldf rfl (i.cell (j:=0) rfl))<|Dc 10 rfl (q_neq rfl rfl)<|Dc 11 rfl (mB rfl)<|Dg 12 rfl rfl rfl (dF (fun z=>z a)) (mS rfl)<|Dg 13 rfl rfl rfl (dF (fun z=>z a)) (mI rfl)<|Dg 14 rfl rfl rfl (dF (fun z=>z a)) (q_ian rfl rfl rfl (ln c d))<|Dg 15 rfl rfl rfl (dF (fun z=>z a)) (q_fa rfl)<|Dm 16 rfl rfl rfl (dF (fun z=>z a)) (q_ldfs (vs:=[_,_]) rfl g rfl)<|Dg 17 rfl rfl rfl (dF (fun z=>z a)) (mS rfl)<|Dg 18 rfl rfl rfl (dF (fun z=>z a)) (mI rfl)<|Dg 19 rfl rfl rfl (dF (fun z=>z a)) (q_ian rfl rfl l (ln e f))<|Dg 20 rfl rfl rfl (dF (fun z=>z a)) (q_fa rfl)<|Dm 21 rfl rfl rfl (dF (fun z=>z a)) (q_ldfs (vs:=[_,_]) rfl i rfl)<|Do 22<|Xg rfl rfl rfl rfl (dF (fun z=>z a))<|oc (rsame_fn (iu A) (iu B) y) fun _ _ _ D=>?_
       cases D
       refine NE<|Dg 23 rfl rfl rfl (dF (fun z=>z a)) (q_not rfl)<|Dc 24 rfl (pkF rfl (dF (fun z=>z a)) rfl)<|Dd<|iC hm (fun p hm=>?_) fun p hm=>?_
       · refine jF rfl (bT (p))<|Js<|Rg<|oq (mI rfl)<|oq (q_add rfl rfl (wi64 C))<|oq (aI rfl)<|N0<|have hm:=inl_onward hm m; ?_
         exact ⟨(b+1),rfl,⟨rfl,rfl,trivial⟩,⟨rfl,trivial⟩,⟨hm,ii⟩,(muL d),ii⟩
       · refine jT rfl (bF ((nT p)))<|SR<|oq (aB rfl)<|N0<|have hm:=inr_onward hm m; Jr ?_
         cases hm
         exact ret_ok (fn:=Tryz.f24) rfl (.tmp rfl .nil) rfl
     · refine J.drawB [] []<|Dc 0 rfl (mS rfl)<|Dc 1 rfl (mI rfl)<|Dc 2 rfl (q_ian rfl rfl rfl (ln c d))<|Dc 3 rfl (q_fa rfl)<|Dl 4 rfl (q_ldf rfl (g.cell (j:=0) rfl))<|Dc 5 rfl (mS rfl)<|Dc 6 rfl (mI rfl)<|Dc 7 rfl (q_ian rfl rfl l (ln e f))<|Dc 8 rfl (q_fa rfl)<|Dl 9 rfl (q_ldf rfl (i.cell (j:=0) rfl))<|Dc 10 rfl (q_neq rfl rfl)<|Dc 11 rfl (mB rfl)<|Dp 12 rfl rfl rfl (dT a)<|Dp 13 rfl rfl rfl (dT a)<|Dp 14 rfl rfl rfl (dT a)<|Dp 15 rfl rfl rfl (dT a)<|Dp 16 rfl rfl rfl (dT a)<|Dp 17 rfl rfl rfl (dT a)<|Dp 18 rfl rfl rfl (dT a)<|Dp 19 rfl rfl rfl (dT a)<|Dp 20 rfl rfl rfl (dT a)<|Dp 21 rfl rfl rfl (dT a)<|Dp 22 rfl rfl rfl (dT a)<|Dp 23 rfl rfl rfl (dT a)<|Dc 24 rfl (pkT rfl (dT a) rfl)<|Dd<|jT rfl rfl<|SR<|oq (aB rfl)<|N0<|have hm:=inr_onward hm m; Jr ?_
       cases hm
       exact ret_ok (fn:=Tryz.f24) rfl (.tmp rfl .nil) rfl
   · replace hm:=forL_nil n hm
     unfold M.r25_SameChain_k1 at hm
     refine jF rfl (dF n)<|Jx<|SR<|oq (aB rfl)<|N0<|Jr ?_
     cases hm
     exact ret_ok (fn:=Tryz.f24) rfl (.tmp rfl .nil) rfl
 · refine jT rfl (dT o)<|SR<|oq (aB rfl)<|N0<|Jr ?_
   cases hm
   exact ret_ok (fn:=Tryz.f24) rfl (.tmp rfl .nil) rfl
theorem r25_Same_fn {h:Heap} {x0:List TCell} {x1:List TCell} {v0:Value} {v1:Value} (r0:Sls TCellR 3 h v0 x0) (r1:Sls TCellR 3 h v1 x1) {r:Bool} (hm:M.r25_Same x0 x1=some r) :
    Fn Tryz.prog 23 #[v0,v1] h fun v h'=>v=.bool r:=by
 obtain ⟨_,_,_,rfl,e⟩:=r0.op3
 obtain ⟨_,_,_,rfl,g⟩:=r1.op3
 refine Fn.intro (args:=[_,_]) Tryz.func23 rfl rfl (lB rfl) fun w=>?_
 unfold M.r25_Same at hm
 refine SR<|oq (aB rfl)<|N0<|Sq<|SR<|oq (mS rfl)<|oq (q_lenE (k:=x0.length) rfl (Sls.len e))<|oq (mS rfl)<|oq (q_lenE (k:=x1.length) rfl (Sls.len g))<|oq (q_neq rfl rfl)<|N0<|iC hm (fun p hm=>?_) fun p hm=>?_
 · refine jF rfl (dF (fun z=>z p))<|Js<|Sq<|SR<|oq (aI rfl)<|N0<|Jb ?_
   obtain ⟨_,hm⟩:=rngL_some hm
   refine J.loopK (α:=Nat) (fun d h' L'=>forL (M.r25_Same_b1 x1) M.r25_Same_k1 (List.drop d x0) d ()=some r∧Sp ([]) L') [(0,.slice _ _ _),(1,.slice _ _ _)] ⟨rfl,rfl,trivial⟩ (fun d=>[(5,.int .i64 (d:Int))]) (fun d=>x0.length-d) 0 ⟨hm,ii⟩ ⟨rfl,trivial⟩ ?_
   rintro d _ _ _ _ ⟨hm,s⟩
   refine J.sp s<|Sq<|SR<|oq (mI rfl)<|oq (mS rfl)<|oq (q_lenE (k:=x0.length) rfl (Sls.len e))<|oq (q_lss rfl rfl)<|N0 ?_
   by_cases o:(d:Int)<(x0.length:Int)
   · obtain ⟨_,_,c,x,hm,n⟩:=forL_cons o hm
     unfold M.r25_Same_b1 at hm
     refine jT rfl (dT o) ?_
     have D:-9223372036854775808≤(d:Int)+1∧(d:Int)+1≤9223372036854775807:=by omega
     refine Js<|Sq<|Jb<|Sq ?_
     obtain ⟨_,_,rfl⟩:=Sls.op e c
     refine aE e x fun _ i t=>?_
     obtain ⟨_,_,_,rfl,B⟩:=t
     refine nE hm fun _ _ m f y hm=>?_
     obtain ⟨_,_,rfl⟩:=Sls.op g f
     refine aE g y fun _ l u=>?_
     obtain ⟨_,_,_,rfl,C⟩:=u
     refine iC hm (fun a hm=>?_) fun a hm=>?_
     · refine iC hm (fun b hm=>?_) fun b hm=>?_
       · refine bE hm fun _ A hm=>J.drawB [] []<|Dc 0 rfl (mS rfl)<|Dc 1 rfl (mI rfl)<|Dc 2 rfl (q_ian rfl rfl rfl (ln e c))<|Dc 3 rfl (q_fa rfl)<|Dl 4 rfl (q_ldf rfl (i.cell (j:=0) rfl))<|Dc 5 rfl (mS rfl)<|Dc 6 rfl (mI rfl)<|Dc 7 rfl (q_ian rfl rfl m (ln g f))<|Dc 8 rfl (q_fa rfl)<|Dl 9 rfl (q_ldf rfl (l.cell (j:=0) rfl))<|Dc 10 rfl (q_neq rfl rfl)<|Dc 11 rfl (mB rfl)<|Dg 12 rfl rfl rfl (dF (fun z=>z a)) (mS rfl)<|Dg 13 rfl rfl rfl (dF (fun z=>z a)) (mI rfl)<|Dg 14 rfl rfl rfl (dF (fun z=>z a)) (q_ian rfl rfl rfl (ln e c))<|Dg 15 rfl rfl rfl (dF (fun z=>z a)) (q_fa rfl)<|Dm 16 rfl rfl rfl (dF (fun z=>z a)) (q_ldf rfl (i.cell (j:=1) rfl))<|Dg 17 rfl rfl rfl (dF (fun z=>z a)) (mS rfl)<|Dg 18 rfl rfl rfl (dF (fun z=>z a)) (mI rfl)<|Dg 19 rfl rfl rfl (dF (fun z=>z a)) (q_ian rfl rfl m (ln g f))<|Dg 20 rfl rfl rfl (dF (fun z=>z a)) (q_fa rfl)<|Dm 21 rfl rfl rfl (dF (fun z=>z a)) (q_ldf rfl (l.cell (j:=1) rfl))<|Dg 22 rfl rfl rfl (dF (fun z=>z a)) (q_neq rfl rfl)<|Dc 23 rfl (pkF rfl (dF (fun z=>z a)) rfl)<|Dc 24 rfl (mB rfl)<|Dg 25 rfl rfl rfl (dF (fun z=>z b)) (mS rfl)<|Dg 26 rfl rfl rfl (dF (fun z=>z b)) (mI rfl)<|Dg 27 rfl rfl rfl (dF (fun z=>z b)) (q_ian rfl rfl rfl (ln e c))<|Dg 28 rfl rfl rfl (dF (fun z=>z b)) (q_fa rfl)<|Dm 29 rfl rfl rfl (dF (fun z=>z b)) (q_ldf rfl (i.cell (j:=2) rfl))<|Dg 30 rfl rfl rfl (dF (fun z=>z b)) (mS rfl)<|Dg 31 rfl rfl rfl (dF (fun z=>z b)) (mI rfl)<|Dg 32 rfl rfl rfl (dF (fun z=>z b)) (q_ian rfl rfl m (ln g f))<|Dg 33 rfl rfl rfl (dF (fun z=>z b)) (q_fa rfl)<|Dm 34 rfl rfl rfl (dF (fun z=>z b)) (q_ldf rfl (l.cell (j:=2) rfl))<|Do 35<|Xg rfl rfl rfl rfl (dF (fun z=>z b))<|oc (r25_SameChain_fn (Sm B) (Sm C) A) fun _ _ _ E=>?_
         cases E
         refine NE<|Dg 36 rfl rfl rfl (dF (fun z=>z b)) (q_not rfl)<|Dc 37 rfl (pkF rfl (dF (fun z=>z b)) rfl)<|Dd<|iC hm (fun q hm=>?_) fun q hm=>?_
         · refine jF rfl (bT (q))<|Js<|Rg<|oq (mI rfl)<|oq (q_add rfl rfl (wi64 D))<|oq (aI rfl)<|N0<|have hm:=inl_onward hm n; ?_
           exact ⟨(d+1),rfl,⟨rfl,rfl,trivial⟩,⟨rfl,trivial⟩,⟨hm,ii⟩,(muL c),ii⟩
         · refine jT rfl (bF ((nT q)))<|SR<|oq (aB rfl)<|N0<|have hm:=inr_onward hm n; Jr ?_
           cases hm
           exact ret_ok (fn:=Tryz.f23) rfl (.tmp rfl .nil) rfl
       · refine J.drawB [] []<|Dc 0 rfl (mS rfl)<|Dc 1 rfl (mI rfl)<|Dc 2 rfl (q_ian rfl rfl rfl (ln e c))<|Dc 3 rfl (q_fa rfl)<|Dl 4 rfl (q_ldf rfl (i.cell (j:=0) rfl))<|Dc 5 rfl (mS rfl)<|Dc 6 rfl (mI rfl)<|Dc 7 rfl (q_ian rfl rfl m (ln g f))<|Dc 8 rfl (q_fa rfl)<|Dl 9 rfl (q_ldf rfl (l.cell (j:=0) rfl))<|Dc 10 rfl (q_neq rfl rfl)<|Dc 11 rfl (mB rfl)<|Dg 12 rfl rfl rfl (dF (fun z=>z a)) (mS rfl)<|Dg 13 rfl rfl rfl (dF (fun z=>z a)) (mI rfl)<|Dg 14 rfl rfl rfl (dF (fun z=>z a)) (q_ian rfl rfl rfl (ln e c))<|Dg 15 rfl rfl rfl (dF (fun z=>z a)) (q_fa rfl)<|Dm 16 rfl rfl rfl (dF (fun z=>z a)) (q_ldf rfl (i.cell (j:=1) rfl))<|Dg 17 rfl rfl rfl (dF (fun z=>z a)) (mS rfl)<|Dg 18 rfl rfl rfl (dF (fun z=>z a)) (mI rfl)<|Dg 19 rfl rfl rfl (dF (fun z=>z a)) (q_ian rfl rfl m (ln g f))<|Dg 20 rfl rfl rfl (dF (fun z=>z a)) (q_fa rfl)<|Dm 21 rfl rfl rfl (dF (fun z=>z a)) (q_ldf rfl (l.cell (j:=1) rfl))<|Dg 22 rfl rfl rfl (dF (fun z=>z a)) (q_neq rfl rfl)<|Dc 23 rfl (pkF rfl (dF (fun z=>z a)) rfl)<|Dc 24 rfl (mB rfl)<|Dp 25 rfl rfl rfl (dT b)<|Dp 26 rfl rfl rfl (dT b)<|Dp 27 rfl rfl rfl (dT b)<|Dp 28 rfl rfl rfl (dT b)<|Dp 29 rfl rfl rfl (dT b)<|Dp 30 rfl rfl rfl (dT b)<|Dp 31 rfl rfl rfl (dT b)<|Dp 32 rfl rfl rfl (dT b)<|Dp 33 rfl rfl rfl (dT b)<|Dp 34 rfl rfl rfl (dT b)<|Dp 35 rfl rfl rfl (dT b)<|Dp 36 rfl rfl rfl (dT b)<|Dc 37 rfl (pkT rfl (dT b) rfl)<|Dd ?_
         refine jT rfl rfl<|SR<|oq (aB rfl)<|N0<|have hm:=inr_onward hm n; Jr ?_
         cases hm
         exact ret_ok (fn:=Tryz.f23) rfl (.tmp rfl .nil) rfl
     · refine J.drawB [] []<|Dc 0 rfl (mS rfl)<|Dc 1 rfl (mI rfl)<|Dc 2 rfl (q_ian rfl rfl rfl (ln e c))<|Dc 3 rfl (q_fa rfl)<|Dl 4 rfl (q_ldf rfl (i.cell (j:=0) rfl))<|Dc 5 rfl (mS rfl)<|Dc 6 rfl (mI rfl)<|Dc 7 rfl (q_ian rfl rfl m (ln g f))<|Dc 8 rfl (q_fa rfl)<|Dl 9 rfl (q_ldf rfl (l.cell (j:=0) rfl))<|Dc 10 rfl (q_neq rfl rfl)<|Dc 11 rfl (mB rfl)<|Dp 12 rfl rfl rfl (dT a)<|Dp 13 rfl rfl rfl (dT a)<|Dp 14 rfl rfl rfl (dT a)<|Dp 15 rfl rfl rfl (dT a)<|Dp 16 rfl rfl rfl (dT a)<|Dp 17 rfl rfl rfl (dT a)<|Dp 18 rfl rfl rfl (dT a)<|Dp 19 rfl rfl rfl (dT a)<|Dp 20 rfl rfl rfl (dT a)<|Dp 21 rfl rfl rfl (dT a)<|Dp 22 rfl rfl rfl (dT a)<|Dc 23 rfl (pkT rfl (dT a) rfl)<|Dc 24 rfl (mB rfl)<|JD.pass 25 (by kernel_rfl) rfl rfl rfl ss_subB<|JD.pass 26 (by kernel_rfl) rfl rfl rfl ss_subB<|JD.pass 27 (by kernel_rfl) rfl rfl rfl ss_subB<|JD.pass 28 (by kernel_rfl) rfl rfl rfl ss_subB<|JD.pass 29 (by kernel_rfl) rfl rfl rfl ss_subB<|JD.pass 30 (by kernel_rfl) rfl rfl rfl ss_subB<|JD.pass 31 (by kernel_rfl) rfl rfl rfl ss_subB<|JD.pass 32 (by kernel_rfl) rfl rfl rfl ss_subB<|JD.pass 33 (by kernel_rfl) rfl rfl rfl ss_subB<|JD.pass 34 (by kernel_rfl) rfl rfl rfl ss_subB<|JD.pass 35 (by kernel_rfl) rfl rfl rfl ss_subB<|JD.pass 36 (by kernel_rfl) rfl rfl rfl ss_subB<|Dc 37 rfl (pkT rfl rfl rfl)<|Dd ?_
       refine jT rfl rfl<|SR<|oq (aB rfl)<|N0<|have hm:=inr_onward hm n; Jr ?_
       cases hm
       exact ret_ok (fn:=Tryz.f23) rfl (.tmp rfl .nil) rfl
   · replace hm:=forL_nil o hm
     unfold M.r25_Same_k1 at hm
     refine jF rfl (dF o)<|Jx<|SR<|oq (aB rfl)<|N0<|Jr ?_
     cases hm
     exact ret_ok (fn:=Tryz.f23) rfl (.tmp rfl .nil) rfl
 · refine jT rfl (dT p)<|SR<|oq (aB rfl)<|N0<|Jr ?_
   cases hm
   exact ret_ok (fn:=Tryz.f23) rfl (.tmp rfl .nil) rfl
theorem r25_Find_fn {h:Heap} {x0:List TCell} {x1:Int} {v0:Value} (r0:Sls TCellR 3 h v0 x0) {r:TCell×Bool} (hm:M.r25_Find x0 x1=some r) :
    Fn Tryz.prog 67 #[v0,.int .i64 x1] h fun v h'=>∃ u0 u1,v=.tuple ⟨[u0,u1]⟩∧AggV TCellR h' u0 r.1∧u1=.bool r.2:=by
 obtain ⟨_,_,_,rfl,c⟩:=r0.op3
 refine Fn.intro (args:=[_,_]) Tryz.func67 rfl rfl (lB rfl) fun w=>?_
 unfold M.r25_Find at hm
 refine SR<|o_al fun n=>oq (aB rfl)<|N0<|Sq<|SR<|oq (aI rfl)<|N0<|Jb ?_
 obtain ⟨_,hm⟩:=rngL_some hm
 refine J.loopK (α:=Nat) (fun a h' L'=>forL (M.r25_Find_b1 x1) M.r25_Find_k1 (List.drop a x0) a ()=some r∧Sp ([(n,row 47 [.int .i64 0,.int .i64 0,.slice none 0 0])]) L') [(0,.slice _ _ _),(1,.int _ _),(4,.pointer _)] ⟨rfl,rfl,rfl,trivial⟩ (fun a=>[(6,.int .i64 (a:Int))]) (fun a=>x0.length-a) 0 ⟨hm,ii⟩ ⟨rfl,trivial⟩ ?_
 rintro a _ _ _ _ ⟨hm,i⟩
 refine J.sp i<|Sq<|SR<|oq (mI rfl)<|oq (mS rfl)<|oq (q_lenE (k:=x0.length) rfl (Sls.len c))<|oq (q_lss rfl rfl)<|N0 ?_
 by_cases d:(a:Int)<(x0.length:Int)
 · obtain ⟨_,_,b,m,hm,g⟩:=forL_cons d hm
   unfold M.r25_Find_b1 at hm
   refine jT rfl (dT d) ?_
   have p:-9223372036854775808≤(a:Int)+1∧(a:Int)+1≤9223372036854775807:=by omega
   refine Js<|Sq<|Jb<|Sq ?_
   obtain ⟨_,_,rfl⟩:=Sls.op c b
   refine aE c m fun _ f l=>?_
   obtain ⟨_,_,_,rfl,o⟩:=l
   refine Rg<|oq (mS rfl)<|oq (mI rfl)<|oq (q_ian rfl rfl rfl (ln c b))<|oq (q_fa rfl)<|oq (q_ldf rfl (f.cell (j:=0) rfl))<|oq (mI rfl)<|oq (q_eql rfl rfl)<|N0<|iC hm (fun e hm=>?_) fun e hm=>?_
   · refine jT rfl (dT e)<|SR<|oq (mS rfl)<|oq (mI rfl)<|oq (q_ian rfl rfl rfl (ln c b))<|oq (q_ldfa rfl f)<|Sc [.int _ _,.int _ _,.slice _ _ _] [.int _ _,.int _ _,.slice _ _ _] rfl rfl rfl rfl rfl ia rfl rfl<|oq (aB rfl)<|N0<|have hm:=inr_onward hm g; Jr ?_
     cases hm
     exact ret_ok (fn:=Tryz.f67) rfl (.agg rfl ii ii (.tmp rfl .nil)) ⟨_,_,rfl,⟨_,rfl,⟨_,_,_,rfl,Sm o⟩⟩,rfl⟩
   · refine jF rfl (dF e)<|Js<|Rg<|oq (mI rfl)<|oq (q_add rfl rfl (wi64 p))<|oq (aI rfl)<|N0<|have hm:=inl_onward hm g; ?_
     exact ⟨(a+1),rfl,⟨rfl,rfl,rfl,trivial⟩,⟨rfl,trivial⟩,⟨hm,ii⟩,(muL b),ii⟩
 · replace hm:=forL_nil d hm
   unfold M.r25_Find_k1 at hm
   refine jF rfl (dF d)<|Jx<|SR<|oq (q_bd [.int _ _,.int _ _,.slice _ _ _] rfl) ?_
   refine Sc [.int _ _,.int _ _,.slice _ _ _] [.int _ _,.int _ _,.slice _ _ _] rfl rfl rfl rfl rfl ia rfl rfl<|oq (aB rfl)<|N0<|Jr ?_
   cases hm
   exact ret_ok (fn:=Tryz.f67) rfl (.agg rfl ii ii (.tmp rfl .nil)) ⟨_,_,rfl,⟨_,rfl,⟨_,_,_,rfl,(Sls.nil (R:=TFaceR) (sz:=3) _)⟩⟩,rfl⟩
theorem r25_Plus_fn {h:Heap} {x0:List TFace} {x1:List TFace} {x2:Int} {v0:Value} {v1:Value} {v2:Value} (r0:Sls TFaceR 3 h v0 x0) (r1:Sls TFaceR 3 h v1 x1) (r2:IntAt h v2 x2) {r:List TFace} (hm:M.r25_Plus x0 x1 x2=some r) :
    Fn Tryz.prog 41 #[v0,v1,v2] h fun v h'=>Sls TFaceR 3 h' v r:=by
 obtain ⟨b6,b5,b3,rfl,b4⟩:=r0.op3
 obtain ⟨_,_,_,rfl,e⟩:=r1.op3
 obtain ⟨N,Q,P,L,rfl,a8⟩:=r2.op
 refine Fn.intro (args:=[_,_,_]) Tryz.func41 rfl rfl (lB rfl) fun w=>?_
 unfold M.r25_Plus at hm
 refine SR<|o_bx (v:=.agg ⟨[.bool _,.slice _ _ _]⟩) rfl rfl fun q=>oq (aS rfl)<|N0<|SR<|o_bs [] (by decide) rfl fun a7=>LT TFaceR 3 0 ([]:List TFace) c0 fun _ bA=>oq (aS rfl)<|oq (aI rfl)<|oq (aI rfl)<|N0<|Sq<|Jb ?_
 replace hm:=(show iter _ fuel _=some _ from hm)
 refine J.loopK (α:=Nat×(List TFace)×(List TFace)×Int×Int×(Option Addr)×Nat×Nat×(Option Addr)×Nat×Nat×Own) (fun ⟨O,f,n,i,l,y,p,o,A,u,s,m⟩ h' L'=>Sls TFaceR 3 h' (.slice y p o) f∧OwnL TFaceR 133 3 h' (.slice A u s) n m∧iter (M.r25_Plus_b5 x1 x2) O (f,n,i,l)=some r∧Sp (m++([(q,row 75 [.bool N,.slice Q P L])])) L') [(1,.slice _ _ _),(5,.pointer _)] ⟨rfl,rfl,trivial⟩ (fun ⟨O,f,n,i,l,y,p,o,A,u,s,m⟩=>[(0,.slice y p o),(7,.slice A u s),(8,.int .i64 i),(9,.int .i64 l)]) (fun ⟨O,f,n,i,l,y,p,o,A,u,s,m⟩=>O) ⟨fuel,x0,([]:List TFace),0,0,b6,b5,b3,(some ⟨a7,0,none⟩),0,0,[(a7,row 133 [])]⟩ ⟨(Sm b4),(Om bA),hm,ii⟩ ⟨rfl,rfl,rfl,rfl,trivial⟩ ?_
 rintro ⟨O,f,n,i,l,y,p,o,A,u,s,m⟩ _ _ _ _ ⟨d,ar,hm,au⟩
 refine J.sp au ?_
 obtain ⟨bb,am,rfl,hm,Y⟩:=iter_some hm
 unfold M.r25_Plus_b5 at hm
 refine Sq ?_
 refine J.joinK (α:=Unit) (fun _ h' L'=>(M.r25_Plus_j4 x1 x2 f n i l)=some am∧Sp (m++([(q,row 75 [.bool N,.slice Q P L])])) L') [(0,.slice _ _ _),(1,.slice _ _ _),(5,.pointer _),(7,.slice _ _ _),(8,.int _ _),(9,.int _ _)] ⟨rfl,rfl,rfl,rfl,rfl,rfl,trivial⟩ (fun _=>[]) ?_ ?_
 · refine Sq<|iC hm (fun g hm=>?_) fun g hm=>?_
   · refine Rg<|oq (mI rfl)<|oq (mS rfl)<|oq (q_lenE (k:=f.length) rfl (Sls.len d))<|oq (q_lss rfl rfl)<|oq (mB rfl)<|gF rfl rfl (dT g)<|gF rfl rfl (dT g)<|gF rfl rfl (dT g)<|gF rfl rfl (dT g)<|oq (pkT rfl (dT g) rfl)<|N0<|jT rfl rfl<|Js ?_
     exact ⟨(),rfl,⟨rfl,rfl,rfl,rfl,rfl,rfl,trivial⟩,trivial,⟨hm,ii⟩,ii⟩
   · refine Rg<|oq (mI rfl)<|oq (mS rfl)<|oq (q_lenE (k:=f.length) rfl (Sls.len d))<|oq (q_lss rfl rfl)<|oq (mB rfl)<|gT rfl rfl (dF g)<|oq (mI rfl)<|gT rfl rfl (dF g)<|oq (mS rfl)<|gT rfl rfl (dF g)<|oq (q_lenE (k:=x1.length) rfl (Sls.len e))<|gT rfl rfl (dF g)<|oq (q_lss rfl rfl)<|oq (pkF rfl (dF g) rfl)<|N0<|iC hm (fun X hm=>?_) fun X hm=>?_
     · refine jT rfl (dT X)<|Js ?_
       exact ⟨(),rfl,⟨rfl,rfl,rfl,rfl,rfl,rfl,trivial⟩,trivial,⟨hm,ii⟩,ii⟩
     · refine jF rfl (dF X)<|Jx<|have hm:=inr_onward hm Y; SR<|oq (mS rfl)<|oq (aS rfl)<|N0<|J.fzO (R:=TFaceR) (Om ar) fun _ _ bv=>Jr ?_
       cases hm
       exact ret_ok (fn:=Tryz.f41) rfl (.tmp rfl .nil) (Sm bv)
 · rintro _ _ _ _ _ ⟨hm,av⟩
   refine J.sp av ?_
   unfold M.r25_Plus_j4 at hm
   refine Jb<|SR<|oq (q_bd [.int _ _,.bool _,.slice _ _ _] rfl) ?_
   refine o_al fun aq=>Sc [.int _ _,.bool _,.slice _ _ _] [.int _ _,.bool _,.slice _ _ _] rfl rfl rfl rfl rfl ia rfl rfl<|N0<|Sq ?_
   refine J.joinK (α:=Int×Int×(List TFace)×Int×Int×Bool×(Option Addr)×Nat×Nat×(Option Addr)×Nat×Nat) (fun ⟨S,T,D,E,F,aa,an,al,Z,B,x,t⟩ h' L'=>IntR h' [.bool aa,.slice an al Z] T∧Sls TFaceR 3 h' (.slice B x t) D∧(M.r25_Plus_j1 n) S T D E F=some am∧Sp (m++([(q,row 75 [.bool N,.slice Q P L]),(aq,row 133 [.int .i64 S,.bool aa,.slice an al Z])])) L') [(1,.slice _ _ _),(5,.pointer _),(7,.slice _ _ _),(10,.pointer _)] ⟨rfl,rfl,rfl,rfl,trivial⟩ (fun ⟨S,T,D,E,F,aa,an,al,Z,B,x,t⟩=>[(0,.slice B x t),(8,.int .i64 E),(9,.int .i64 F)]) ?_ ?_
   · refine Sq ?_
     refine J.joinK (α:=Bool) (fun I h' L'=>(M.r25_Plus_j3 x1 x2 f n i l) I=some am∧Sp (m++([(q,row 75 [.bool N,.slice Q P L]),(aq,row 133 [.int .i64 0,.bool false,.slice none 0 0])])) L') [(0,.slice _ _ _),(1,.slice _ _ _),(5,.pointer _),(7,.slice _ _ _),(8,.int _ _),(9,.int _ _),(10,.pointer _)] ⟨rfl,rfl,rfl,rfl,rfl,rfl,rfl,trivial⟩ (fun I=>[(45,.bool I)]) ?_ ?_
     · refine iC hm (fun c hm=>?_) fun c hm=>?_
       · refine J.drawB [] []<|Dc 0 rfl (mI rfl)<|Dc 1 rfl (mS rfl)<|Dc 2 rfl (q_lenE (k:=x1.length) rfl (Sls.len e))<|Dc 3 rfl (q_eql rfl rfl)<|Dc 4 rfl (mB rfl)<|Dp 5 rfl rfl rfl (dT c)<|Dp 6 rfl rfl rfl (dT c)<|Dp 7 rfl rfl rfl (dT c)<|Dp 8 rfl rfl rfl (dT c)<|Dp 9 rfl rfl rfl (dT c)<|Du 10 rfl rfl rfl<|Du 11 rfl rfl rfl<|Du 12 rfl rfl rfl<|Du 13 rfl rfl rfl<|Du 14 rfl rfl rfl<|Du 15 rfl rfl rfl<|Du 16 rfl rfl rfl<|Du 17 rfl rfl rfl<|Du 18 rfl rfl rfl<|Du 19 rfl rfl rfl<|Du 20 rfl rfl rfl<|Dp 21 rfl rfl rfl (dT c)<|Dc 22 rfl (pkT rfl (dT c) rfl)<|Dd ?_
         exact ⟨true,rfl,⟨rfl,rfl,rfl,rfl,rfl,rfl,rfl,trivial⟩,⟨rfl,trivial⟩,⟨hm,ii⟩,ii⟩
       · refine iC hm (fun b hm=>?_) fun b hm=>?_
         · refine nE hm fun _ bZ aW aj a5 hm=>?_
           obtain ⟨_,_,rfl⟩:=Sls.op d aj
           refine aE d a5 fun _ aP aH=>?_
           obtain ⟨_,_,_,_,rfl,_⟩:=aH
           refine nE hm fun _ b0 aX ak a6 hm=>?_
           obtain ⟨_,_,rfl⟩:=Sls.op e ak
           refine aE e a6 fun _ aQ aJ=>?_
           obtain ⟨_,_,_,_,rfl,_⟩:=aJ
           refine J.drawB [] []<|Dc 0 rfl (mI rfl)<|Dc 1 rfl (mS rfl)<|Dc 2 rfl (q_lenE (k:=x1.length) rfl (Sls.len e))<|Dc 3 rfl (q_eql rfl rfl)<|Dc 4 rfl (mB rfl)<|Dg 5 rfl rfl rfl (dF c) (mI rfl)<|Dg 6 rfl rfl rfl (dF c) (mS rfl)<|Dg 7 rfl rfl rfl (dF c) (q_lenE (k:=f.length) rfl (Sls.len d))<|Dg 8 rfl rfl rfl (dF c) (q_lss rfl rfl)<|Dg 9 rfl rfl rfl (dF c) (mB rfl)<|Dg 10 rfl rfl rfl (dT b) (mS rfl)<|Dg 11 rfl rfl rfl (dT b) (mI rfl)<|Dg 12 rfl rfl rfl (dT b) (q_ian rfl rfl aW (ln d aj))<|Dg 13 rfl rfl rfl (dT b) (q_fa rfl)<|Dm 14 rfl rfl rfl (dT b) (q_ldf rfl (aP.cell (j:=0) rfl))<|Dg 15 rfl rfl rfl (dT b) (mS rfl)<|Dg 16 rfl rfl rfl (dT b) (mI rfl)<|Dg 17 rfl rfl rfl (dT b) (q_ian rfl rfl aX (ln e ak))<|Dg 18 rfl rfl rfl (dT b) (q_fa rfl)<|Dm 19 rfl rfl rfl (dT b) (q_ldf rfl (aQ.cell (j:=0) rfl))<|Dg 20 rfl rfl rfl (dT b) (q_lss rfl rfl)<|Dg 21 rfl rfl rfl (dF c) (pkT rfl (dT b) rfl)<|Dc 22 rfl (pkF rfl (dF c) rfl)<|Dd ?_
           exact ⟨(decide (bZ.ID<b0.ID)),rfl,⟨rfl,rfl,rfl,rfl,rfl,rfl,rfl,trivial⟩,⟨rfl,trivial⟩,⟨hm,ii⟩,ii⟩
         · refine J.drawB [] []<|Dc 0 rfl (mI rfl)<|Dc 1 rfl (mS rfl)<|Dc 2 rfl (q_lenE (k:=x1.length) rfl (Sls.len e))<|Dc 3 rfl (q_eql rfl rfl)<|Dc 4 rfl (mB rfl)<|Dg 5 rfl rfl rfl (dF c) (mI rfl)<|Dg 6 rfl rfl rfl (dF c) (mS rfl)<|Dg 7 rfl rfl rfl (dF c) (q_lenE (k:=f.length) rfl (Sls.len d))<|Dg 8 rfl rfl rfl (dF c) (q_lss rfl rfl)<|Dg 9 rfl rfl rfl (dF c) (mB rfl)<|Dp 10 rfl rfl rfl (dF b)<|Dp 11 rfl rfl rfl (dF b)<|Dp 12 rfl rfl rfl (dF b)<|Dp 13 rfl rfl rfl (dF b)<|Dp 14 rfl rfl rfl (dF b)<|Dp 15 rfl rfl rfl (dF b)<|Dp 16 rfl rfl rfl (dF b)<|Dp 17 rfl rfl rfl (dF b)<|Dp 18 rfl rfl rfl (dF b)<|Dp 19 rfl rfl rfl (dF b)<|Dp 20 rfl rfl rfl (dF b)<|Dg 21 rfl rfl rfl (dF c) (pkF rfl (dF b) rfl)<|Dc 22 rfl (pkF rfl (dF c) rfl)<|Dd ?_
           exact ⟨false,rfl,⟨rfl,rfl,rfl,rfl,rfl,rfl,rfl,trivial⟩,⟨rfl,trivial⟩,⟨hm,ii⟩,ii⟩
     · rintro I _ _ _ _ ⟨hm,ao⟩
       refine J.sp ao ?_
       unfold M.r25_Plus_j3 at hm
       refine iC hm (fun V hm=>?_) fun V hm=>?_
       · refine jT rfl V<|Sq<|nE hm fun _ ay aR af aZ hm=>?_
         obtain ⟨bd,bK,rfl⟩:=Sls.op d af
         refine aE d aZ fun _ aL az=>?_
         obtain ⟨bw,bN,bH,bg,rfl,bo⟩:=az
         refine Rg<|oq (mS rfl)<|oq (mI rfl)<|oq (q_ian rfl rfl aR (ln d af))<|oq (q_ldfa rfl aL)<|Sc [.int _ _,.bool _,.slice _ _ _] [.int _ _,.bool _,.slice _ _ _] rfl rfl rfl rfl rfl ia rfl rfl<|N0<|kS hm fun bB hm=>Rg<|oq (mI rfl)<|oq (q_add rfl rfl (wi64 bB))<|oq (aI rfl)<|N0 ?_
         exact ⟨⟨ay.ID,ay.C,f,i+1,l,bw,bN,bH,bg,(some ⟨bd,bK,none⟩),p,o⟩,rfl,⟨rfl,rfl,rfl,rfl,trivial⟩,⟨rfl,rfl,rfl,trivial⟩,⟨(Mo.up bo),(Sm d),hm,ii⟩,ii⟩
       · refine jF rfl (nT V)<|Sq ?_
         refine J.joinK (α:=Bool) (fun K h' L'=>(M.r25_Plus_j2 x1 x2 f n i l) K=some am∧Sp (m++([(q,row 75 [.bool N,.slice Q P L]),(aq,row 133 [.int .i64 0,.bool false,.slice none 0 0])])) L') [(0,.slice _ _ _),(1,.slice _ _ _),(5,.pointer _),(7,.slice _ _ _),(8,.int _ _),(9,.int _ _),(10,.pointer _)] ⟨rfl,rfl,rfl,rfl,rfl,rfl,rfl,trivial⟩ (fun K=>[(68,.bool K)]) ?_ ?_
         · refine iC hm (fun a hm=>?_) fun a hm=>?_
           · refine J.drawB [] []<|Dc 0 rfl (mI rfl)<|Dc 1 rfl (mS rfl)<|Dc 2 rfl (q_lenE (k:=f.length) rfl (Sls.len d))<|Dc 3 rfl (q_eql rfl rfl)<|Dc 4 rfl (mB rfl)<|Dp 5 rfl rfl rfl (dT a)<|Dp 6 rfl rfl rfl (dT a)<|Dp 7 rfl rfl rfl (dT a)<|Dp 8 rfl rfl rfl (dT a)<|Dp 9 rfl rfl rfl (dT a)<|Dp 10 rfl rfl rfl (dT a)<|Dp 11 rfl rfl rfl (dT a)<|Dp 12 rfl rfl rfl (dT a)<|Dp 13 rfl rfl rfl (dT a)<|Dp 14 rfl rfl rfl (dT a)<|Dp 15 rfl rfl rfl (dT a)<|Dc 16 rfl (pkT rfl (dT a) rfl)<|Dd ?_
             exact ⟨true,rfl,⟨rfl,rfl,rfl,rfl,rfl,rfl,rfl,trivial⟩,⟨rfl,trivial⟩,⟨hm,ii⟩,ii⟩
           · refine nE hm fun _ bX aU ah a3 hm=>?_
             obtain ⟨_,_,rfl⟩:=Sls.op e ah
             refine aE e a3 fun _ aN aF=>?_
             obtain ⟨_,_,_,_,rfl,_⟩:=aF
             refine nE hm fun _ bY aV ai a4 hm=>?_
             obtain ⟨_,_,rfl⟩:=Sls.op d ai
             refine aE d a4 fun _ aO aG=>?_
             obtain ⟨_,_,_,_,rfl,_⟩:=aG
             refine J.drawB [] []<|Dc 0 rfl (mI rfl)<|Dc 1 rfl (mS rfl)<|Dc 2 rfl (q_lenE (k:=f.length) rfl (Sls.len d))<|Dc 3 rfl (q_eql rfl rfl)<|Dc 4 rfl (mB rfl)<|Dg 5 rfl rfl rfl (dF a) (mS rfl)<|Dg 6 rfl rfl rfl (dF a) (mI rfl)<|Dg 7 rfl rfl rfl (dF a) (q_ian rfl rfl aU (ln e ah))<|Dg 8 rfl rfl rfl (dF a) (q_fa rfl)<|Dm 9 rfl rfl rfl (dF a) (q_ldf rfl (aN.cell (j:=0) rfl))<|Dg 10 rfl rfl rfl (dF a) (mS rfl)<|Dg 11 rfl rfl rfl (dF a) (mI rfl)<|Dg 12 rfl rfl rfl (dF a) (q_ian rfl rfl aV (ln d ai))<|Dg 13 rfl rfl rfl (dF a) (q_fa rfl)<|Dm 14 rfl rfl rfl (dF a) (q_ldf rfl (aO.cell (j:=0) rfl))<|Dg 15 rfl rfl rfl (dF a) (q_lss rfl rfl)<|Dc 16 rfl (pkF rfl (dF a) rfl)<|Dd ?_
             exact ⟨(decide (bX.ID<bY.ID)),rfl,⟨rfl,rfl,rfl,rfl,rfl,rfl,rfl,trivial⟩,⟨rfl,trivial⟩,⟨hm,ii⟩,ii⟩
         · rintro K _ _ _ _ ⟨hm,ap⟩
           refine J.sp ap ?_
           unfold M.r25_Plus_j2 at hm
           refine iC hm (fun W hm=>?_) fun W hm=>?_
           · refine jT rfl W<|Sq<|nE hm fun _ bV ad G a0 hm=>?_
             obtain ⟨_,_,rfl⟩:=Sls.op e G
             refine aE e a0 fun _ ab aA=>?_
             obtain ⟨_,_,_,_,rfl,bp⟩:=aA
             refine bE hm fun b1 bl hm=>J.drawB [q] []<|Dc 0 rfl (mS rfl)<|Dc 1 rfl (mI rfl)<|Dc 2 rfl (q_ian rfl rfl ad (ln e G))<|Dc 3 rfl (q_fa rfl)<|Dl 4 rfl (q_ldf rfl (ab.cell (j:=0) rfl))<|Dl 5 rfl (q_lda (vs:=[_,_]) rfl ii ⟨rfl,rfl,trivial⟩)<|Dc 6 rfl (mS rfl)<|Dc 7 rfl (mI rfl)<|Dc 8 rfl (q_ian rfl rfl ad (ln e G))<|Dc 9 rfl (q_fa rfl)<|Dl 10 rfl (q_ldfs (vs:=[_,_]) rfl ab rfl)<|Do 11<|Xe rfl rfl<|oc (rmul_fn (iu a8) (iu bp) bl) fun _ _ _ bR=>?_
             obtain ⟨bx,bO,bI,bh,rfl,bq⟩:=bR.op
             refine NE<|Dc 12 rfl (q_bd [.int _ _,.bool _,.slice _ _ _] rfl)<|Do 13<|Xe rfl rfl<|Sc [.int _ _,.bool _,.slice _ _ _] [.int _ _,.bool _,.slice _ _ _] rfl rfl rfl rfl rfl ia rfl rfl<|NE<|Dd<|kS hm fun bC hm=>Rg<|oq (mI rfl)<|oq (q_add rfl rfl (wi64 bC))<|oq (aI rfl)<|N0 ?_
             exact ⟨⟨bV.ID,b1,f,i,l+1,bx,bO,bI,bh,y,p,o⟩,rfl,⟨rfl,rfl,rfl,rfl,trivial⟩,⟨rfl,rfl,rfl,trivial⟩,⟨(Mo.up bq),(Sm d),hm,ii⟩,ii⟩
           · refine jF rfl (nT W)<|Sq<|nE hm fun _ bW ae H a1 hm=>?_
             obtain ⟨be,bL,rfl⟩:=Sls.op d H
             refine aE d a1 fun _ ac aC=>?_
             obtain ⟨_,_,_,_,rfl,br⟩:=aC
             refine nE hm fun _ _ aT ag a2 hm=>?_
             obtain ⟨_,_,rfl⟩:=Sls.op e ag
             refine aE e a2 fun _ aM aD=>?_
             obtain ⟨_,_,_,_,rfl,bs⟩:=aD
             refine bE hm fun _ bm hm=>bE hm fun b2 bn hm=>J.drawB [q] []<|Dc 0 rfl (mS rfl)<|Dc 1 rfl (mI rfl)<|Dc 2 rfl (q_ian rfl rfl ae (ln d H))<|Dc 3 rfl (q_fa rfl)<|Dl 4 rfl (q_ldf rfl (ac.cell (j:=0) rfl))<|Dc 5 rfl (mS rfl)<|Dc 6 rfl (mI rfl)<|Dc 7 rfl (q_ian rfl rfl ae (ln d H))<|Dc 8 rfl (q_fa rfl)<|Dl 9 rfl (q_ldfs (vs:=[_,_]) rfl ac rfl)<|Dl 10 rfl (q_lda (vs:=[_,_]) rfl ii ⟨rfl,rfl,trivial⟩)<|Dc 11 rfl (mS rfl)<|Dc 12 rfl (mI rfl)<|Dc 13 rfl (q_ian rfl rfl aT (ln e ag))<|Dc 14 rfl (q_fa rfl)<|Dl 15 rfl (q_ldfs (vs:=[_,_]) rfl aM rfl)<|Do 16<|Xe rfl rfl<|oc (rmul_fn (iu a8) (iu bs) bm) fun _ _ _ bS=>?_
             obtain ⟨_,_,_,_,rfl,bt⟩:=bS.op
             refine NE<|Do 17<|Xe rfl rfl<|oc (radd_fn (iu br) (iu bt) bn) fun _ _ _ bU=>?_
             obtain ⟨bz,bP,bJ,bi,rfl,bu⟩:=bU.op
             refine NE<|Dc 18 rfl (q_bd [.int _ _,.bool _,.slice _ _ _] rfl)<|Do 19<|Xe rfl rfl<|Sc [.int _ _,.bool _,.slice _ _ _] [.int _ _,.bool _,.slice _ _ _] rfl rfl rfl rfl rfl ia rfl rfl<|NE<|Dd<|Sq<|kS hm fun bD hm=>Rg<|oq (mI rfl)<|oq (q_add rfl rfl (wi64 bD))<|oq (aI rfl)<|N0<|kS hm fun bG hm=>Rg<|oq (mI rfl)<|oq (q_add rfl rfl (wi64 bG))<|oq (aI rfl)<|N0 ?_
             exact ⟨⟨bW.ID,b2,f,i+1,l+1,bz,bP,bJ,bi,(some ⟨be,bL,none⟩),p,o⟩,rfl,⟨rfl,rfl,rfl,rfl,trivial⟩,⟨rfl,rfl,rfl,trivial⟩,⟨(Mo.up bu),(Sm d),hm,ii⟩,ii⟩
   · rintro ⟨S,T,D,E,F,aa,an,al,Z,B,x,t⟩ _ _ _ _ ⟨a9,ba,hm,aw⟩
     refine J.sp aw ?_
     unfold M.r25_Plus_j1 at hm
     refine Sq<|bE hm fun _ bj hm=>Rg<|oq (q_fa rfl)<|oq (q_lda (vs:=[_,_]) rfl ii ⟨rfl,rfl,trivial⟩)<|oc (rsign_fn (iu a9) bj) fun _ _ _ bQ=>?_
     cases bQ
     refine oq (q_neq rfl rfl)<|N0<|iC hm (fun U hm=>?_) fun U hm=>?_
     · refine jF rfl (dF (fun z=>z U))<|Js<|have hm:=inl_onward hm Y; ?_
       exact ⟨⟨bb,D,n,E,F,B,x,t,A,u,s,m⟩,rfl,⟨rfl,rfl,trivial⟩,⟨rfl,rfl,rfl,rfl,trivial⟩,⟨(Sm ba),(Om ar),hm,ii⟩,(Nat.lt_succ_self _),ii⟩
     · refine jT rfl (dT U)<|bE hm fun ax bk hm=>Rg<|oq (mS rfl)<|oq (q_lda (vs:=[_,_,_]) rfl ii ⟨rfl,rfl,rfl,trivial⟩)<|o_bs [.int _ _,.bool _,.slice _ _ _] (by decide) rfl fun _=>LT TFaceR 3 1 [(TFace.mk S T)] (c3 ⟨_,_,_,_,rfl,(Mo.up a9)⟩ c0) fun aK _=>o_appB (R:=TFaceR) rfl rfl (Om ar) ii aK bk fun bM bf bc aY=>oq (aS rfl)<|N0<|have hm:=inl_onward hm Y; ?_
       exact ⟨⟨bb,D,ax,E,F,B,x,t,bM,ax.length,bf,bc⟩,rfl,⟨rfl,rfl,trivial⟩,⟨rfl,rfl,rfl,rfl,trivial⟩,⟨(Sm ba),(Om aY),hm,ii⟩,(Nat.lt_succ_self _),ii⟩
theorem r25_Around_fn {h:Heap} {x0:List TCell} {x1:List TFace} {v0:Value} {v1:Value} (r0:Sls TCellR 3 h v0 x0) (r1:Sls TFaceR 3 h v1 x1) {r:List TFace} (hm:M.r25_Around x0 x1=some r) :
    Fn Tryz.prog 83 #[v0,v1] h fun v h'=>Sls TFaceR 3 h' v r:=by
 obtain ⟨_,_,_,rfl,A⟩:=r0.op3
 obtain ⟨_,_,_,rfl,d⟩:=r1.op3
 refine Fn.intro (args:=[_,_]) Tryz.func83 rfl rfl (lB rfl) fun w=>?_
 unfold M.r25_Around at hm
 refine SR<|oq (aS rfl)<|N0<|SR<|o_bs [] (by decide) rfl fun t=>LT TFaceR 3 0 ([]:List TFace) c0 fun _ q=>oq (aS rfl)<|N0<|Sq<|SR<|oq (aI rfl)<|N0<|Jb<|J.fzO (R:=TFaceR) (Om q) fun _ _ B=>?_
 obtain ⟨_,hm⟩:=rngL_some hm
 refine J.loopK (α:=Nat×(List TFace)×(Option Addr)×Nat×Nat) (fun ⟨a,g,f,e,c⟩ h' L'=>Sls TFaceR 3 h' (.slice f e c) g∧forL (M.r25_Around_b1 x0) M.r25_Around_k1 (List.drop a x1) a g=some r∧Sp ([]) L') [(0,.slice _ _ _),(1,.slice _ _ _)] ⟨rfl,rfl,trivial⟩ (fun ⟨a,g,f,e,c⟩=>[(5,.slice f e c),(6,.int .i64 (a:Int))]) (fun ⟨a,g,f,e,c⟩=>x1.length-a) ⟨0,([]:List TFace),(some ⟨t,0,none⟩),0,0⟩ ⟨(Sm B),hm,ii⟩ ⟨rfl,rfl,trivial⟩ ?_
 rintro ⟨a,g,f,e,c⟩ _ _ _ _ ⟨n,hm,m⟩
 refine J.sp m<|Sq<|SR<|oq (mI rfl)<|oq (mS rfl)<|oq (q_lenE (k:=x1.length) rfl (Sls.len d))<|oq (q_lss rfl rfl)<|N0 ?_
 by_cases i:(a:Int)<(x1.length:Int)
 · obtain ⟨_,_,b,s,hm,p⟩:=forL_cons i hm
   unfold M.r25_Around_b1 at hm
   refine jT rfl (dT i) ?_
   have F:-9223372036854775808≤(a:Int)+1∧(a:Int)+1≤9223372036854775807:=by omega
   refine Js<|Sq<|Jb<|Sq ?_
   obtain ⟨_,_,rfl⟩:=Sls.op d b
   refine aE d s fun _ l o=>?_
   obtain ⟨_,_,_,_,rfl,C⟩:=o
   refine bE hm fun _ y hm=>Rg<|oq (mS rfl)<|oq (mS rfl)<|oq (mI rfl)<|oq (q_ian rfl rfl rfl (ln d b))<|oq (q_fa rfl)<|oq (q_ldf rfl (l.cell (j:=0) rfl))<|oc (r25_Find_fn (Sm A) y) fun _ _ _ I=>?_
   obtain ⟨_,_,rfl,K,L⟩:=I
   obtain ⟨_,rfl,_,_,_,rfl,D⟩:=K
   cases L
   refine oq q_mv<|oq (q_ex rfl rfl)<|oq (q_ex rfl rfl)<|o_al fun u=>Sc [.int _ _,.int _ _,.slice _ _ _] [.int _ _,.int _ _,.slice _ _ _] rfl rfl rfl rfl rfl ia rfl rfl<|oq (aB rfl)<|N0<|bE hm fun O z hm=>J.drawB [u] []<|Dc 0 rfl (mS rfl)<|Dc 1 rfl (q_fa rfl)<|Dl 2 rfl (q_ld rfl ii rfl)<|Dc 3 rfl (mS rfl)<|Dc 4 rfl (mI rfl)<|Dc 5 rfl (q_ian rfl rfl rfl (ln d b))<|Dc 6 rfl (q_fa rfl)<|Dl 7 rfl (q_ldfs (vs:=[_,_]) rfl l rfl)<|Do 8<|Xe rfl rfl<|oc (r25_Plus_fn (Sm n) (Sm D) (iu C) z) fun _ _ _ N=>?_
   obtain ⟨H,G,x,rfl,E⟩:=N.op3
   refine NE<|Dc 9 rfl (aS rfl)<|Dd<|Rg<|oq (mI rfl)<|oq (q_add rfl rfl (wi64 F))<|oq (aI rfl)<|N0<|have hm:=inl_onward hm p; ?_
   exact ⟨⟨a+1,O,H,G,x⟩,rfl,⟨rfl,rfl,trivial⟩,⟨rfl,rfl,trivial⟩,⟨(Sm E),hm,ii⟩,(muL b),ii⟩
 · replace hm:=forL_nil i hm
   unfold M.r25_Around_k1 at hm
   refine jF rfl (dF i)<|Jx<|SR<|oq (mS rfl)<|oq (aS rfl)<|N0<|Jr ?_
   cases hm
   exact ret_ok (fn:=Tryz.f83) rfl (.tmp rfl .nil) (Sm n)
theorem r25_Fits_fn {h:Heap} {x0:List TCell} {x1:TCell} {v0:Value} {v1:Value} (r0:Sls TCellR 3 h v0 x0) (r1:AggV TCellR h v1 x1) {r:Int} (hm:M.r25_Fits x0 x1=some r) :
    Fn Tryz.prog 82 #[v0,v1] h fun v h'=>v=.int .i64 r:=by
 obtain ⟨_,_,_,rfl,u⟩:=r0.op3
 obtain ⟨_,rfl,F,E,p,rfl,d⟩:=r1
 refine Fn.intro (args:=[_,_]) Tryz.func82 rfl rfl (lB rfl) fun w=>?_
 unfold M.r25_Fits at hm
 refine SR<|o_bx (v:=.agg ⟨[.int _ _,.int _ _,.slice _ _ _]⟩) rfl rfl fun o=>oq (aI rfl)<|N0<|Sq<|Sq<|bE hm fun _ X hm=>Rg<|oq (q_fa rfl)<|oq (q_ld rfl ia rfl)<|oc (r25_ValidChain_fn (Sm d) X) fun _ _ _ ab=>?_
 cases ab
 refine oq (q_not rfl)<|N0<|iC hm (fun q hm=>?_) fun q hm=>?_
 · refine jF rfl (bT (q))<|Js<|Sq<|SR<|oq (aI rfl)<|N0<|Jb ?_
   obtain ⟨_,hm⟩:=rngL_some hm
   refine J.loopK (α:=Nat) (fun b h' L'=>forL (M.r25_Fits_b3 x0) (M.r25_Fits_k3 x0 x1) (List.drop b x1.B) b ()=some r∧Sp ([(o,row 47 [.int .i64 x1.ID,.int .i64 x1.Dim,.slice F E p])]) L') [(0,.slice _ _ _),(3,.pointer _)] ⟨rfl,rfl,trivial⟩ (fun b=>[(5,.int .i64 (b:Int))]) (fun b=>x1.B.length-b) 0 ⟨hm,ii⟩ ⟨rfl,trivial⟩ ?_
   rintro b _ _ _ _ ⟨hm,A⟩
   refine J.sp A<|Sq<|SR<|oq (mI rfl)<|oq (q_fa rfl)<|oq (q_ld rfl ia rfl)<|oq (q_lenE (k:=x1.B.length) rfl (Sls.len d))<|oq (q_lss rfl rfl)<|N0 ?_
   by_cases l:(b:Int)<(x1.B.length:Int)
   · obtain ⟨_,_,g,Q,hm,x⟩:=forL_cons l hm
     unfold M.r25_Fits_b3 at hm
     refine jT rfl (dT l) ?_
     have Z:-9223372036854775808≤(b:Int)+1∧(b:Int)+1≤9223372036854775807:=by omega
     refine Js<|Sq<|Jb<|Sq ?_
     obtain ⟨_,_,rfl⟩:=Sls.op d g
     refine aE d Q fun _ O L=>?_
     obtain ⟨_,_,_,_,rfl,_⟩:=L
     refine bE hm fun _ Y hm=>Rg<|oq (mS rfl)<|oq (q_fa rfl)<|oq (q_ld rfl ia rfl)<|oq (mI rfl)<|oq (q_ian rfl rfl rfl (ln d g))<|oq (q_fa rfl)<|oq (q_ldf rfl (O.cell (j:=0) rfl))<|oc (r25_Find_fn (Sm u) Y) fun _ _ _ ac=>?_
     obtain ⟨_,_,rfl,ad,ae⟩:=ac
     obtain ⟨_,rfl,_,_,_,rfl,_⟩:=ad
     cases ae
     refine oq q_mv<|oq (q_ex rfl rfl)<|oq (q_ex rfl rfl)<|o_al fun _=>Sc [.int _ _,.int _ _,.slice _ _ _] [.int _ _,.int _ _,.slice _ _ _] rfl rfl rfl rfl rfl ia rfl rfl<|oq (aB rfl)<|N0<|SR<|oq (mB rfl)<|oq (q_not rfl)<|N0<|iC hm (fun s hm=>?_) fun s hm=>?_
     · refine jF rfl (bT (s))<|Js<|Rg<|oq (mI rfl)<|oq (q_add rfl rfl (wi64 Z))<|oq (aI rfl)<|N0<|have hm:=inl_onward hm x; ?_
       exact ⟨(b+1),rfl,⟨rfl,rfl,trivial⟩,⟨rfl,trivial⟩,⟨hm,ii⟩,(muL g),ii⟩
     · refine jT rfl (bF ((nT s)))<|SR<|oq (aI rfl)<|N0<|have hm:=inr_onward hm x; Jr ?_
       cases hm
       exact ret_ok (fn:=Tryz.f82) rfl (.tmp rfl .nil) rfl
   · replace hm:=forL_nil l hm
     unfold M.r25_Fits_k3 at hm
     refine jF rfl (dF l)<|Jx<|Sq<|Sq ?_
     refine J.joinK (α:=Bool) (fun n h' L'=>(M.r25_Fits_j2 x0 x1) n=some r∧Sp ([(o,row 47 [.int .i64 x1.ID,.int .i64 x1.Dim,.slice F E p])]) L') [(0,.slice _ _ _),(3,.pointer _)] ⟨rfl,rfl,trivial⟩ (fun n=>[(42,.bool n)]) ?_ ?_
     · refine iC hm (fun a hm=>?_) fun a hm=>?_
       · refine Rg<|oq (q_fa rfl)<|oq (q_ld rfl ia rfl)<|oq (q_lss rfl rfl)<|oq (mB rfl)<|gF rfl rfl (dT a)<|gF rfl rfl (dT a)<|gF rfl rfl (dT a)<|oq (pkT rfl (dT a) rfl)<|N0 ?_
         exact ⟨true,rfl,⟨rfl,rfl,trivial⟩,⟨rfl,trivial⟩,⟨hm,ii⟩,ii⟩
       · refine Rg<|oq (q_fa rfl)<|oq (q_ld rfl ia rfl)<|oq (q_lss rfl rfl)<|oq (mB rfl)<|gT rfl rfl (dF a)<|oq (q_fa rfl)<|gT rfl rfl (dF a)<|oq (q_ld rfl ia rfl)<|gT rfl rfl (dF a)<|oq (q_gtr rfl rfl)<|oq (pkF rfl (dF a) rfl)<|N0 ?_
         exact ⟨(decide (3<x1.Dim)),rfl,⟨rfl,rfl,trivial⟩,⟨rfl,trivial⟩,⟨hm,ii⟩,ii⟩
     · rintro n _ _ _ _ ⟨hm,C⟩
       refine J.sp C ?_
       unfold M.r25_Fits_j2 at hm
       refine iC hm (fun t hm=>?_) fun t hm=>?_
       · refine jT rfl t<|SR<|oq (aI rfl)<|N0<|Jr ?_
         cases hm
         exact ret_ok (fn:=Tryz.f82) rfl (.tmp rfl .nil) rfl
       · refine jF rfl (nT t)<|Js<|Sq<|SR<|oq (aI rfl)<|N0<|Jb ?_
         obtain ⟨_,hm⟩:=rngL_some hm
         refine J.loopK (α:=Nat) (fun c h' L'=>forL (M.r25_Fits_b1 x0 x1) (M.r25_Fits_k1 x0 x1) (List.drop c x1.B) c ()=some r∧Sp ([(o,row 47 [.int .i64 x1.ID,.int .i64 x1.Dim,.slice F E p])]) L') [(0,.slice _ _ _),(3,.pointer _)] ⟨rfl,rfl,trivial⟩ (fun c=>[(8,.int .i64 (c:Int))]) (fun c=>x1.B.length-c) 0 ⟨hm,ii⟩ ⟨rfl,trivial⟩ ?_
         rintro c _ _ _ _ ⟨hm,D⟩
         refine J.sp D<|Sq<|SR<|oq (mI rfl)<|oq (q_fa rfl)<|oq (q_ld rfl ia rfl)<|oq (q_lenE (k:=x1.B.length) rfl (Sls.len d))<|oq (q_lss rfl rfl)<|N0 ?_
         by_cases m:(c:Int)<(x1.B.length:Int)
         · obtain ⟨_,_,i,R,hm,y⟩:=forL_cons m hm
           unfold M.r25_Fits_b1 at hm
           refine jT rfl (dT m) ?_
           have aa:-9223372036854775808≤(c:Int)+1∧(c:Int)+1≤9223372036854775807:=by omega
           refine Js<|Sq<|Jb<|Sq ?_
           obtain ⟨_,_,rfl⟩:=Sls.op d i
           refine aE d R fun _ P N=>?_
           obtain ⟨_,_,_,_,rfl,_⟩:=N
           refine bE hm fun _ H hm=>Rg<|oq (mS rfl)<|oq (q_fa rfl)<|oq (q_ld rfl ia rfl)<|oq (mI rfl)<|oq (q_ian rfl rfl rfl (ln d i))<|oq (q_fa rfl)<|oq (q_ldf rfl (P.cell (j:=0) rfl))<|oc (r25_Find_fn (Sm u) H) fun _ _ _ T=>?_
           obtain ⟨_,_,rfl,U,V⟩:=T
           obtain ⟨_,rfl,_,_,_,rfl,_⟩:=U
           cases V
           refine oq q_mv<|oq (q_ex rfl rfl)<|oq (q_ex rfl rfl)<|o_al fun _=>Sc [.int _ _,.int _ _,.slice _ _ _] [.int _ _,.int _ _,.slice _ _ _] rfl rfl rfl rfl rfl ia rfl rfl<|oq (aB rfl)<|N0<|Sq<|kS hm fun S hm=>Rg<|oq (q_fa rfl)<|oq (q_ld rfl ia rfl)<|oq (q_fa rfl)<|oq (q_ld rfl ia rfl)<|oq (q_sub rfl rfl (wi64 S))<|oq (q_neq rfl rfl)<|N0<|iC hm (fun f hm=>?_) fun f hm=>?_
           · refine jF rfl (dF (fun z=>z f))<|Js<|Rg<|oq (mI rfl)<|oq (q_add rfl rfl (wi64 aa))<|oq (aI rfl)<|N0<|have hm:=inl_onward hm y; ?_
             exact ⟨(c+1),rfl,⟨rfl,rfl,trivial⟩,⟨rfl,trivial⟩,⟨hm,ii⟩,(muL i),ii⟩
           · refine jT rfl (dT f)<|SR<|oq (aI rfl)<|N0<|have hm:=inr_onward hm y; Jr ?_
             cases hm
             exact ret_ok (fn:=Tryz.f82) rfl (.tmp rfl .nil) rfl
         · replace hm:=forL_nil m hm
           unfold M.r25_Fits_k1 at hm
           refine jF rfl (dF m)<|Jx<|Sq<|Sq<|bE hm fun G I hm=>Rg<|oq (mS rfl)<|oq (q_fa rfl)<|oq (q_ld rfl ia rfl)<|oc (r25_Around_fn (Sm u) (Sm d) I) fun _ _ _ W=>?_
           obtain ⟨_,_,_,rfl,K⟩:=W.op3
           refine oq (q_lenE (k:=G.length) rfl (Sls.len K))<|oq (q_gtr rfl rfl)<|N0 ?_
           by_cases e:0<(G.length:Int)
           focus
            replace hm:=ite_T e hm
            refine jT rfl (dT e) ?_
           rotate_left
           focus
            replace hm:=ite_F e hm
            refine jF rfl (dF e)<|Js ?_
           rotate_left
           all_goals
            refine SR<|oq (aI rfl)<|N0<|Jr ?_
            cases hm
            exact ret_ok (fn:=Tryz.f82) rfl (.tmp rfl .nil) rfl
 · refine jT rfl (bF ((nT q)))<|SR<|oq (aI rfl)<|N0<|Jr ?_
   cases hm
   exact ret_ok (fn:=Tryz.f82) rfl (.tmp rfl .nil) rfl
theorem r25_Valid_fn {h:Heap} {x0:List TCell} {v0:Value} (r0:Sls TCellR 3 h v0 x0) {r:Bool} (hm:M.r25_Valid x0=some r) :
    Fn Tryz.prog 21 #[v0] h fun v h'=>v=.bool r:=by
 obtain ⟨_,_,_,rfl,b⟩:=r0.op3
 refine Fn.intro (args:=[_]) Tryz.func21 rfl rfl (lB rfl) fun w=>?_
 unfold M.r25_Valid at hm
 refine SR<|oq (aB rfl)<|N0<|Sq<|SR<|oq (mS rfl)<|oq (q_lenE (k:=x0.length) rfl (Sls.len b))<|oq (q_gtr rfl rfl)<|N0<|iC hm (fun q hm=>?_) fun q hm=>?_
 · refine jT rfl (dT q)<|SR<|oq (aB rfl)<|N0<|Jr ?_
   cases hm
   exact ret_ok (fn:=Tryz.f21) rfl (.tmp rfl .nil) rfl
 · refine jF rfl (dF q)<|Js<|Sq<|SR<|oq (aI rfl)<|N0<|Jb ?_
   obtain ⟨_,hm⟩:=rngL_some hm
   refine J.loopK (α:=Nat) (fun d h' L'=>forL (M.r25_Valid_b2 x0) (M.r25_Valid_k2 x0) (List.drop d x0) d ()=some r∧Sp ([]) L') [(0,.slice _ _ _)] ⟨rfl,trivial⟩ (fun d=>[(3,.int .i64 (d:Int))]) (fun d=>x0.length-d) 0 ⟨hm,ii⟩ ⟨rfl,trivial⟩ ?_
   rintro d _ _ _ _ ⟨hm,A⟩
   refine J.sp A<|Sq<|SR<|oq (mI rfl)<|oq (mS rfl)<|oq (q_lenE (k:=x0.length) rfl (Sls.len b))<|oq (q_lss rfl rfl)<|N0 ?_
   by_cases o:(d:Int)<(x0.length:Int)
   · obtain ⟨_,_,f,C,hm,g⟩:=forL_cons o hm
     unfold M.r25_Valid_b2 at hm
     refine jT rfl (dT o) ?_
     have F:-9223372036854775808≤(d:Int)+1∧(d:Int)+1≤9223372036854775807:=by omega
     refine Js<|Sq<|Jb<|Sq<|iC hm (fun a hm=>?_) fun a hm=>?_
     · refine kS hm fun G hm=>nE hm fun _ _ x m P hm=>?_
       obtain ⟨_,_,rfl⟩:=Sls.op b m
       refine aE b P fun _ u K=>?_
       obtain ⟨_,_,_,rfl,_⟩:=K
       refine aE b C fun _ l L=>?_
       obtain ⟨_,_,_,rfl,U⟩:=L
       refine iC hm (fun c hm=>?_) fun c hm=>?_
       · refine J.drawB [] []<|Dc 0 rfl (mI rfl)<|Dc 1 rfl (q_gtr rfl rfl)<|Dc 2 rfl (mB rfl)<|Dg 3 rfl rfl rfl (dT a) (mS rfl)<|Dg 4 rfl rfl rfl (dT a) (mI rfl)<|Dg 5 rfl rfl rfl (dT a) (q_sub rfl rfl (wi64 G))<|Dg 6 rfl rfl rfl (dT a) (q_ian rfl rfl x (ln b m))<|Dg 7 rfl rfl rfl (dT a) (q_fa rfl)<|Dm 8 rfl rfl rfl (dT a) (q_ldf rfl (u.cell (j:=0) rfl))<|Dg 9 rfl rfl rfl (dT a) (mS rfl)<|Dg 10 rfl rfl rfl (dT a) (mI rfl)<|Dg 11 rfl rfl rfl (dT a) (q_ian rfl rfl rfl (ln b f))<|Dg 12 rfl rfl rfl (dT a) (q_fa rfl)<|Dm 13 rfl rfl rfl (dT a) (q_ldf rfl (l.cell (j:=0) rfl))<|Dg 14 rfl rfl rfl (dT a) (q_geq rfl rfl)<|Dc 15 rfl (pkT rfl (dT a) rfl)<|Dc 16 rfl (mB rfl)<|Dp 17 rfl rfl rfl (dT c)<|Dp 18 rfl rfl rfl (dT c)<|Dp 19 rfl rfl rfl (dT c)<|Dp 20 rfl rfl rfl (dT c)<|Dp 21 rfl rfl rfl (dT c)<|Dp 22 rfl rfl rfl (dT c)<|Dp 23 rfl rfl rfl (dT c)<|Dc 24 rfl (pkT rfl (dT c) rfl)<|Dd<|jT rfl rfl<|SR<|oq (aB rfl)<|N0<|have hm:=inr_onward hm g; Jr ?_
         cases hm
         exact ret_ok (fn:=Tryz.f21) rfl (.tmp rfl .nil) rfl
       · refine bE hm fun _ S hm=>J.drawB [] []<|Dc 0 rfl (mI rfl)<|Dc 1 rfl (q_gtr rfl rfl)<|Dc 2 rfl (mB rfl)<|Dg 3 rfl rfl rfl (dT a) (mS rfl)<|Dg 4 rfl rfl rfl (dT a) (mI rfl)<|Dg 5 rfl rfl rfl (dT a) (q_sub rfl rfl (wi64 G))<|Dg 6 rfl rfl rfl (dT a) (q_ian rfl rfl x (ln b m))<|Dg 7 rfl rfl rfl (dT a) (q_fa rfl)<|Dm 8 rfl rfl rfl (dT a) (q_ldf rfl (u.cell (j:=0) rfl))<|Dg 9 rfl rfl rfl (dT a) (mS rfl)<|Dg 10 rfl rfl rfl (dT a) (mI rfl)<|Dg 11 rfl rfl rfl (dT a) (q_ian rfl rfl rfl (ln b f))<|Dg 12 rfl rfl rfl (dT a) (q_fa rfl)<|Dm 13 rfl rfl rfl (dT a) (q_ldf rfl (l.cell (j:=0) rfl))<|Dg 14 rfl rfl rfl (dT a) (q_geq rfl rfl)<|Dc 15 rfl (pkT rfl (dT a) rfl)<|Dc 16 rfl (mB rfl)<|Dg 17 rfl rfl rfl (dF c) (mS rfl)<|Dg 18 rfl rfl rfl (dF c) (mI rfl)<|Dg 19 rfl rfl rfl (dF c) (q_ian rfl rfl rfl (ln b f))<|Dg 20 rfl rfl rfl (dF c) (q_fa rfl)<|Dm 21 rfl rfl rfl (dF c) (q_ldf rfl (l.cell (j:=2) rfl))<|Do 22<|Xg rfl rfl rfl rfl (dF c)<|oc (r25_ValidChain_fn (Sm U) S) fun _ _ _ X=>?_
         cases X
         refine NE<|Dg 23 rfl rfl rfl (dF c) (q_not rfl)<|Dc 24 rfl (pkF rfl (dF c) rfl)<|Dd<|iC hm (fun s hm=>?_) fun s hm=>?_
         · refine jF rfl (bT (s))<|Js<|Rg<|oq (mI rfl)<|oq (q_add rfl rfl (wi64 F))<|oq (aI rfl)<|N0<|have hm:=inl_onward hm g; ?_
           exact ⟨(d+1),rfl,⟨rfl,trivial⟩,⟨rfl,trivial⟩,⟨hm,ii⟩,(muL f),ii⟩
         · refine jT rfl (bF ((nT s)))<|SR<|oq (aB rfl)<|N0<|have hm:=inr_onward hm g; Jr ?_
           cases hm
           exact ret_ok (fn:=Tryz.f21) rfl (.tmp rfl .nil) rfl
     · obtain ⟨_,_,rfl⟩:=Sls.op b f
       refine aE b C fun _ O N=>?_
       obtain ⟨_,_,_,rfl,V⟩:=N
       refine bE hm fun _ T hm=>J.drawB [] []<|Dc 0 rfl (mI rfl)<|Dc 1 rfl (q_gtr rfl rfl)<|Dc 2 rfl (mB rfl)<|Dp 3 rfl rfl rfl (dF a)<|Dp 4 rfl rfl rfl (dF a)<|Dp 5 rfl rfl rfl (dF a)<|Dp 6 rfl rfl rfl (dF a)<|Dp 7 rfl rfl rfl (dF a)<|Dp 8 rfl rfl rfl (dF a)<|Dp 9 rfl rfl rfl (dF a)<|Dp 10 rfl rfl rfl (dF a)<|Dp 11 rfl rfl rfl (dF a)<|Dp 12 rfl rfl rfl (dF a)<|Dp 13 rfl rfl rfl (dF a)<|Dp 14 rfl rfl rfl (dF a)<|Dc 15 rfl (pkF rfl (dF a) rfl)<|Dc 16 rfl (mB rfl)<|JD.calc 17 (by kernel_rfl) rfl ⟨_,rfl,rfl⟩ ss_subB (mS rfl)<|JD.calc 18 (by kernel_rfl) rfl ⟨_,rfl,rfl⟩ ss_subB (mI rfl)<|JD.calc 19 (by kernel_rfl) rfl ⟨_,rfl,rfl⟩ ss_subB (q_ian rfl rfl rfl (ln b f))<|JD.calc 20 (by kernel_rfl) rfl ⟨_,rfl,rfl⟩ ss_subB (q_fa rfl)<|JD.loadB 21 (by kernel_rfl) rfl ⟨_,rfl,rfl⟩ (q_ldf rfl (O.cell (j:=2) rfl))<|Do 22<|JX.effB rfl rfl ⟨_,rfl,rfl⟩<|oc (r25_ValidChain_fn (Sm V) T) fun _ _ _ Y=>?_
       cases Y
       refine NE<|JD.calc 23 (by kernel_rfl) rfl ⟨_,rfl,rfl⟩ ss_subB (q_not rfl)<|Dc 24 rfl (pkF rfl rfl rfl)<|Dd<|iC hm (fun t hm=>?_) fun t hm=>?_
       · refine jF rfl (bT (t))<|Js<|Rg<|oq (mI rfl)<|oq (q_add rfl rfl (wi64 F))<|oq (aI rfl)<|N0<|have hm:=inl_onward hm g; ?_
         exact ⟨(d+1),rfl,⟨rfl,trivial⟩,⟨rfl,trivial⟩,⟨hm,ii⟩,(muL f),ii⟩
       · refine jT rfl (bF ((nT t)))<|SR<|oq (aB rfl)<|N0<|have hm:=inr_onward hm g; Jr ?_
         cases hm
         exact ret_ok (fn:=Tryz.f21) rfl (.tmp rfl .nil) rfl
   · replace hm:=forL_nil o hm
     unfold M.r25_Valid_k2 at hm
     refine jF rfl (dF o)<|Jx<|Sq<|SR<|oq (aI rfl)<|N0<|Jb ?_
     obtain ⟨_,hm⟩:=rngL_some hm
     refine J.loopK (α:=Nat) (fun e h' L'=>forL (M.r25_Valid_b1 x0) M.r25_Valid_k1 (List.drop e x0) e ()=some r∧Sp ([]) L') [(0,.slice _ _ _)] ⟨rfl,trivial⟩ (fun e=>[(4,.int .i64 (e:Int))]) (fun e=>x0.length-e) 0 ⟨hm,ii⟩ ⟨rfl,trivial⟩ ?_
     rintro e _ _ _ _ ⟨hm,B⟩
     refine J.sp B<|Sq<|SR<|oq (mI rfl)<|oq (mS rfl)<|oq (q_lenE (k:=x0.length) rfl (Sls.len b))<|oq (q_lss rfl rfl)<|N0 ?_
     by_cases p:(e:Int)<(x0.length:Int)
     · obtain ⟨Z,_,n,Q,hm,y⟩:=forL_cons p hm
       unfold M.r25_Valid_b1 at hm
       refine jT rfl (dT p) ?_
       have W:-9223372036854775808≤(e:Int)+1∧(e:Int)+1≤9223372036854775807:=by omega
       refine Js<|Sq<|Jb<|Sq ?_
       obtain ⟨_,_,rfl⟩:=Sls.op b n
       refine aE b Q fun _ E D=>?_
       obtain ⟨_,_,_,rfl,I⟩:=D
       refine bE hm fun _ H hm=>Rg<|oq (mS rfl)<|oq (mS rfl)<|oq (mI rfl)<|oq (q_ian rfl rfl rfl (ln b n))<|oq (q_ldfa rfl E)<|oc (r25_Fits_fn (Sm b) (x1:=Z) ⟨_,rfl,⟨_,_,_,rfl,Sm I⟩⟩ H) fun _ _ _ R=>?_
       cases R
       refine oq (q_neq rfl rfl)<|N0<|iC hm (fun i hm=>?_) fun i hm=>?_
       · refine jF rfl (dF (fun z=>z i))<|Js<|Rg<|oq (mI rfl)<|oq (q_add rfl rfl (wi64 W))<|oq (aI rfl)<|N0<|have hm:=inl_onward hm y; ?_
         exact ⟨(e+1),rfl,⟨rfl,trivial⟩,⟨rfl,trivial⟩,⟨hm,ii⟩,(muL n),ii⟩
       · refine jT rfl (dT i)<|SR<|oq (aB rfl)<|N0<|have hm:=inr_onward hm y; Jr ?_
         cases hm
         exact ret_ok (fn:=Tryz.f21) rfl (.tmp rfl .nil) rfl
     · replace hm:=forL_nil p hm
       unfold M.r25_Valid_k1 at hm
       refine jF rfl (dF p)<|Jx<|SR<|oq (aB rfl)<|N0<|Jr ?_
       cases hm
       exact ret_ok (fn:=Tryz.f21) rfl (.tmp rfl .nil) rfl
theorem r25_Cells_fn {h:Heap} {x0:List TCell} {x1:Int} {v0:Value} (r0:Sls TCellR 3 h v0 x0) {r:List Int} (hm:M.r25_Cells x0 x1=some r) :
    Fn Tryz.prog 101 #[v0,.int .i64 x1] h fun v h'=>Sls (KR .i64) 1 h' v r:=by
 obtain ⟨_,_,_,rfl,i⟩:=r0.op3
 refine Fn.intro (args:=[_,_]) Tryz.func101 rfl rfl (lB rfl) fun w=>?_
 unfold M.r25_Cells at hm
 refine SR<|oq (aS rfl)<|N0<|SR<|o_bs [] (by decide) rfl fun s=>LT (KR .i64) 1 0 ([]:List Int) c0 fun _ z=>oq (aS rfl)<|N0<|Sq<|SR<|oq (aI rfl)<|N0<|Jb ?_
 obtain ⟨_,hm⟩:=rngL_some hm
 refine J.loopK (α:=Nat×(List Int)×(Option Addr)×Nat×Nat×Own) (fun ⟨a,g,f,e,d,c⟩ h' L'=>OwnL (KR .i64) 3 1 h' (.slice f e d) g c∧forL (M.r25_Cells_b1 x1) M.r25_Cells_k1 (List.drop a x0) a g=some r∧Sp (c++([])) L') [(0,.slice _ _ _),(1,.int _ _)] ⟨rfl,rfl,trivial⟩ (fun ⟨a,g,f,e,d,c⟩=>[(5,.slice f e d),(6,.int .i64 (a:Int))]) (fun ⟨a,g,f,e,d,c⟩=>x0.length-a) ⟨0,([]:List Int),(some ⟨s,0,none⟩),0,0,[(s,row 3 [])]⟩ ⟨(Om z),hm,ii⟩ ⟨rfl,rfl,trivial⟩ ?_
 rintro ⟨a,g,f,e,d,c⟩ _ _ _ _ ⟨n,hm,q⟩
 refine J.sp q<|Sq<|SR<|oq (mI rfl)<|oq (mS rfl)<|oq (q_lenE (k:=x0.length) rfl (Sls.len i))<|oq (q_lss rfl rfl)<|N0 ?_
 by_cases l:(a:Int)<(x0.length:Int)
 · obtain ⟨H,_,b,B,hm,p⟩:=forL_cons l hm
   unfold M.r25_Cells_b1 at hm
   refine jT rfl (dT l) ?_
   have t:-9223372036854775808≤(a:Int)+1∧(a:Int)+1≤9223372036854775807:=by omega
   refine Js<|Sq<|Jb<|Sq ?_
   obtain ⟨_,_,rfl⟩:=Sls.op i b
   refine aE i B fun _ o x=>?_
   obtain ⟨_,_,_,rfl,_⟩:=x
   refine Rg<|oq (mS rfl)<|oq (mI rfl)<|oq (q_ian rfl rfl rfl (ln i b))<|oq (q_fa rfl)<|oq (q_ldf rfl (o.cell (j:=1) rfl))<|oq (mI rfl)<|oq (q_eql rfl rfl)<|N0<|iC hm (fun m hm=>?_) fun m hm=>?_
   · refine jT rfl (dT m)<|bE hm fun u E hm=>Rg<|oq (mS rfl)<|oq (mS rfl)<|oq (mI rfl)<|oq (q_ian rfl rfl rfl (ln i b))<|oq (q_fa rfl)<|oq (q_ldf rfl (o.cell (j:=0) rfl))<|o_bs [.int _ _] (by decide) rfl fun _=>LT (KR .i64) 1 1 [H.ID] (c1 rfl c0) fun y _=>o_appB (R:=(KR .i64)) rfl rfl (Om n) ii y E fun G D C A=>oq (aS rfl)<|N0<|Rg<|oq (mI rfl)<|oq (q_add rfl rfl (wi64 t))<|oq (aI rfl)<|N0<|have hm:=inl_onward hm p; ?_
     exact ⟨⟨a+1,u,G,u.length,D,C⟩,rfl,⟨rfl,rfl,trivial⟩,⟨rfl,rfl,trivial⟩,⟨(Om A),hm,ii⟩,(muL b),ii⟩
   · refine jF rfl (dF m)<|Js<|Rg<|oq (mI rfl)<|oq (q_add rfl rfl (wi64 t))<|oq (aI rfl)<|N0<|have hm:=inl_onward hm p; ?_
     exact ⟨⟨a+1,g,f,e,d,c⟩,rfl,⟨rfl,rfl,trivial⟩,⟨rfl,rfl,trivial⟩,⟨(Om n),hm,ii⟩,(muL b),ii⟩
 · replace hm:=forL_nil l hm
   unfold M.r25_Cells_k1 at hm
   refine jF rfl (dF l)<|Jx<|SR<|oq (mS rfl)<|oq (aS rfl)<|N0<|J.fzO (R:=(KR .i64)) (Om n) fun _ _ F=>Jr ?_
   cases hm
   exact ret_ok (fn:=Tryz.f101) rfl (.tmp rfl .nil) (Sm F)
theorem r25_Row_fn {h:Heap} {x0:List TFace} {x1:List Int} {v0:Value} {v1:Value} (r0:Sls TFaceR 3 h v0 x0) (r1:Sls (KR .i64) 1 h v1 x1) {r:List Int} (hm:M.r25_Row x0 x1=some r) :
    Fn Tryz.prog 168 #[v0,v1] h fun v h'=>Sls IntR 2 h' v r:=by
 obtain ⟨_,_,_,rfl,u⟩:=r0.op3
 obtain ⟨_,_,_,rfl,x⟩:=r1.op3
 refine Fn.intro (args:=[_,_]) Tryz.func168 rfl rfl (lB rfl) fun w=>?_
 unfold M.r25_Row at hm
 refine SR<|oq (aS rfl)<|N0<|Sq<|bE hm fun W ai hm=>Rg<|oq (mS rfl)<|oq (q_lenE (k:=x1.length) rfl (Sls.len x))<|o_mkO (R:=IntR) rfl rfl ai (IntR.zero0 _) fun am ah ag ac=>oq (aS rfl)<|N0<|Sq<|SR<|oq (aI rfl)<|N0<|Jb ?_
 obtain ⟨_,hm⟩:=rngL_some hm
 refine J.loopK (α:=Nat×(List Int)×(Option Addr)×Nat×Nat×Own) (fun ⟨c,q,p,o,n,m⟩ h' L'=>OwnL IntR 75 2 h' (.slice p o n) q m∧forL (M.r25_Row_b2 x1) M.r25_Row_k2 (List.drop c x0) c q=some r∧Sp (m++([])) L') [(0,.slice _ _ _),(1,.slice _ _ _)] ⟨rfl,rfl,trivial⟩ (fun ⟨c,q,p,o,n,m⟩=>[(5,.slice p o n),(6,.int .i64 (c:Int))]) (fun ⟨c,q,p,o,n,m⟩=>x0.length-c) ⟨0,W,am,W.length,ah,ag⟩ ⟨(Om ac),hm,ii⟩ ⟨rfl,rfl,trivial⟩ ?_
 rintro ⟨c,q,p,o,n,m⟩ _ _ _ _ ⟨U,hm,I⟩
 refine J.sp I<|Sq<|SR<|oq (mI rfl)<|oq (mS rfl)<|oq (q_lenE (k:=x0.length) rfl (Sls.len u))<|oq (q_lss rfl rfl)<|N0 ?_
 by_cases z:(c:Int)<(x0.length:Int)
 · obtain ⟨N,al,s,ad,hm,ab⟩:=forL_cons z hm
   unfold M.r25_Row_b2 at hm
   refine jT rfl (dT z) ?_
   have ak:-9223372036854775808≤(c:Int)+1∧(c:Int)+1≤9223372036854775807:=by omega
   refine Js<|Sq<|Jb<|SR<|oq (aI rfl)<|N0<|Jb ?_
   obtain ⟨_,hm⟩:=rngL_some hm
   refine J.loopK (α:=Nat×(List Int)×(Option Addr)×Nat×Nat×Own) (fun ⟨b,f,l,e,d,g⟩ h' L'=>OwnL IntR 75 2 h' (.slice l e d) f g∧forL (M.r25_Row_b1 N) M.r25_Row_k1 (List.drop b x1) b f=some al∧Sp (g++([])) L') [(0,.slice _ _ _),(1,.slice _ _ _),(6,.int _ _)] ⟨rfl,rfl,rfl,trivial⟩ (fun ⟨b,f,l,e,d,g⟩=>[(5,.slice l e d),(7,.int .i64 (b:Int))]) (fun ⟨b,f,l,e,d,g⟩=>x1.length-b) ⟨0,q,p,o,n,m⟩ ⟨(Om U),hm,ii⟩ ⟨rfl,rfl,trivial⟩ ?_
   rintro ⟨b,f,l,e,d,g⟩ _ _ _ _ ⟨D,hm,K⟩
   refine J.sp K<|Sq<|SR<|oq (mI rfl)<|oq (mS rfl)<|oq (q_lenE (k:=x1.length) rfl (Sls.len x))<|oq (q_lss rfl rfl)<|N0 ?_
   by_cases A:(b:Int)<(x1.length:Int)
   · obtain ⟨_,_,t,ae,hm,G⟩:=forL_cons A hm
     unfold M.r25_Row_b1 at hm
     refine jT rfl (dT A) ?_
     have V:-9223372036854775808≤(b:Int)+1∧(b:Int)+1≤9223372036854775807:=by omega
     refine Js<|Sq<|Jb<|Sq ?_
     obtain ⟨_,_,rfl⟩:=Sls.op x t
     refine aE x ae fun _ aa Y=>?_
     obtain rfl:=KR.op Y
     obtain ⟨_,_,rfl⟩:=Sls.op u s
     refine aE u ad fun _ E Z=>?_
     obtain ⟨_,_,_,_,rfl,aj⟩:=Z
     refine J.drawB [] []<|Dc 0 rfl (mS rfl)<|Dc 1 rfl (mI rfl)<|Dc 2 rfl (q_ian rfl rfl rfl (ln x t))<|Dl 3 rfl (q_ldf rfl aa)<|Dc 4 rfl (mS rfl)<|Dc 5 rfl (mI rfl)<|Dc 6 rfl (q_ian rfl rfl rfl (ln u s))<|Dc 7 rfl (q_fa rfl)<|Dl 8 rfl (q_ldf rfl (E.cell (j:=0) rfl))<|Dc 9 rfl (q_eql rfl rfl)<|Dd<|iC hm (fun B hm=>?_) fun B hm=>?_
     · refine jT rfl (dT B)<|nE hm fun _ _ F y af hm=>?_
       obtain ⟨T,_,rfl,rfl,H,L⟩:=OwnL.blk D y
       obtain ⟨_,Q,P,_⟩:=OwnC.get L af
       obtain ⟨_,_,_,_,rfl,_⟩:=IntR.op P
       refine Rg<|oq (mS rfl)<|oq (mI rfl)<|oq (mS rfl)<|oq (mI rfl)<|oq (q_ian rfl rfl rfl (ln u s))<|oq (q_fa rfl)<|oq (q_ldfs (vs:=[_,_]) rfl E rfl)<|oq (q_ian rfl rfl F (by rw [H]; exact y))<|o_stO0 (us1:=[_,_]) (ps:=[_,_]) (a:=N.C) Sz.i rfl rfl rfl rfl (OwnC.mono L) ii y Q rfl (lB rfl) rfl (Mo.up aj) (setL_eq F) fun O S=>N0<|Rg<|oq (mI rfl)<|oq (q_add rfl rfl (wi64 V))<|oq (aI rfl)<|N0<|have hm:=inl_onward hm G; ?_
       exact ⟨⟨b+1,(setL f (b:Int) N.C),(some ⟨T,0,none⟩),e,d,[(T,row 75 O)]⟩,rfl,⟨rfl,rfl,rfl,trivial⟩,⟨rfl,rfl,trivial⟩,⟨(OwnC.own (OwnC.mono S) (setL_hn H)),hm,ii⟩,(muL t),ii⟩
     · refine jF rfl (dF B)<|Js<|Rg<|oq (mI rfl)<|oq (q_add rfl rfl (wi64 V))<|oq (aI rfl)<|N0<|have hm:=inl_onward hm G; ?_
       exact ⟨⟨b+1,f,l,e,d,g⟩,rfl,⟨rfl,rfl,rfl,trivial⟩,⟨rfl,rfl,trivial⟩,⟨(Om D),hm,ii⟩,(muL t),ii⟩
   · replace hm:=forL_nil A hm
     unfold M.r25_Row_k1 at hm
     refine jF rfl (dF A)<|Jx<|Rg<|oq (mI rfl)<|oq (q_add rfl rfl (wi64 ak))<|oq (aI rfl)<|N0<|have hm:=inl_onward hm ab; ?_
     exact ⟨⟨c+1,f,l,e,d,g⟩,rfl,⟨rfl,rfl,trivial⟩,⟨rfl,rfl,trivial⟩,⟨(Om D),hm,ii⟩,(muL s),ii⟩
 · replace hm:=forL_nil z hm
   unfold M.r25_Row_k2 at hm
   refine jF rfl (dF z)<|Jx<|SR<|oq (mS rfl)<|oq (aS rfl)<|N0<|J.fzO (R:=IntR) (Om U) fun _ _ X=>Jr ?_
   cases hm
   exact ret_ok (fn:=Tryz.f168) rfl (.tmp rfl .nil) (Sm X)
theorem r25_Boundary_fn {h:Heap} {x0:List TCell} {x1:Int} {v0:Value} (r0:Sls TCellR 3 h v0 x0) {r:TMat} (hm:M.r25_Boundary x0 x1=some r) :
    Fn Tryz.prog 109 #[v0,.int .i64 x1] h fun v h'=>AggV TMatR h' v r:=by
 obtain ⟨_,_,_,rfl,n⟩:=r0.op3
 refine Fn.intro (args:=[_,_]) Tryz.func109 rfl rfl (lB rfl) fun w=>?_
 unfold M.r25_Boundary at hm
 refine SR<|o_al fun H=>N0<|Sq<|bE hm fun b K hm=>kS hm fun S hm=>bE hm fun m L hm=>Rg<|oq (mS rfl)<|oq (mI rfl)<|oc (r25_Cells_fn (Sm n) K) fun _ _ _ U=>?_
 obtain ⟨_,_,_,rfl,e⟩:=U.op3
 refine oq (mS rfl)<|oq (mI rfl)<|oq (q_sub rfl rfl (wi64 S))<|oc (r25_Cells_fn (Sm n) L) fun _ _ _ V=>?_
 obtain ⟨_,_,_,rfl,s⟩:=V.op3
 refine oq (aS rfl)<|oq (aS rfl)<|N0<|SR<|oq (mS rfl)<|oq (q_lenE (k:=b.length) rfl (Sls.len e))<|oq (mS rfl)<|oq (q_lenE (k:=m.length) rfl (Sls.len s))<|oq (q_bd [.int _ _,.int _ _,.slice _ _ _] rfl) ?_
 refine o_al fun q=>Sc [.int _ _,.int _ _,.slice _ _ _] [.int _ _,.int _ _,.slice _ _ _] rfl rfl rfl rfl rfl ia rfl rfl<|N0<|Sq<|SR<|oq (aI rfl)<|N0<|Jb ?_
 obtain ⟨_,hm⟩:=rngL_some hm
 refine J.loopK (α:=Nat×(List (List Int))×(Option Addr)×Nat×Nat×Own) (fun ⟨a,i,g,f,d,c⟩ h' L'=>OwnL (LR IntR 2) 151 1 h' (.slice g f d) i c∧forL (M.r25_Boundary_b1 x0 m) (M.r25_Boundary_k1 b m) (List.drop a b) a i=some r∧Sp (c++([(H,row 163 [.int .i64 0,.int .i64 0,.slice none 0 0]),(q,row 163 [.int .i64 (b.length:Int),.int .i64 (m.length:Int),.slice g f d])])) L') [(0,.slice _ _ _),(4,.pointer _),(5,.slice _ _ _),(6,.slice _ _ _),(7,.pointer _)] ⟨rfl,rfl,rfl,rfl,rfl,trivial⟩ (fun ⟨a,i,g,f,d,c⟩=>[(8,.int .i64 (a:Int))]) (fun ⟨a,i,g,f,d,c⟩=>b.length-a) ⟨0,([]:List (List Int)),none,0,0,[]⟩ ⟨(OwnL.nil _),hm,ii⟩ ⟨rfl,trivial⟩ ?_
 rintro ⟨a,i,g,f,d,c⟩ _ _ _ _ ⟨t,hm,o⟩
 refine J.sp o<|Sq<|SR<|oq (mI rfl)<|oq (mS rfl)<|oq (q_lenE (k:=b.length) rfl (Sls.len e))<|oq (q_lss rfl rfl)<|N0 ?_
 by_cases l:(a:Int)<(b.length:Int)
 · obtain ⟨_,_,j,F,hm,E⟩:=forL_cons l hm
   unfold M.r25_Boundary_b1 at hm
   refine jT rfl (dT l) ?_
   have T:-9223372036854775808≤(a:Int)+1∧(a:Int)+1≤9223372036854775807:=by omega
   refine Js<|Sq<|Jb<|Sq ?_
   obtain ⟨_,_,rfl⟩:=Sls.op e j
   refine aE e F fun _ C B=>?_
   obtain rfl:=KR.op B
   refine bE hm fun _ N hm=>Rg<|oq (mS rfl)<|oq (mS rfl)<|oq (mI rfl)<|oq (q_ian rfl rfl rfl (ln e j))<|oq (q_ldf rfl C)<|oc (r25_Find_fn (Sm n) N) fun _ _ _ W=>?_
   obtain ⟨_,_,rfl,X,Y⟩:=W
   obtain ⟨_,rfl,_,_,_,rfl,P⟩:=X
   cases Y
   refine oq q_mv<|oq (q_ex rfl rfl)<|oq (q_ex rfl rfl)<|o_al fun I=>Sc [.int _ _,.int _ _,.slice _ _ _] [.int _ _,.int _ _,.slice _ _ _] rfl rfl rfl rfl rfl ia rfl rfl<|oq (aB rfl)<|N0<|bE hm fun aa O hm=>bE hm fun u z hm=>J.drawB [q,I] [9]<|Dc 0 rfl (q_fa rfl)<|Dl 1 rfl (q_ld rfl ii rfl)<|Dc 2 rfl (q_fa rfl)<|Dl 3 rfl (q_ld rfl ii rfl)<|Dc 4 rfl (mS rfl)<|Do 5<|Xe rfl rfl<|oc (r25_Row_fn (Sm P) (Sm s) O) fun _ _ _ Z=>?_
   obtain ⟨_,_,_,rfl,Q⟩:=Z.op3
   refine NE<|Do 6<|Xe rfl rfl<|o_bs [.slice _ _ _] (by decide) rfl fun _=>LT (LR IntR 2) 1 1 [aa] (c1 ⟨_,_,_,rfl,Sm Q⟩ c0) fun D _=>NE<|Do 7<|Xe rfl rfl<|o_appB (R:=(LR IntR 2)) rfl rfl (Om t) ii D z fun G y x p=>NE<|Dc 8 rfl (q_fa rfl)<|Do 9<|Xm rfl rfl<|Sc [.slice _ _ _] [.int _ _,.int _ _,.slice _ _ _] rfl rfl rfl rfl rfl ia rfl rfl<|NF<|Dd<|Rg<|oq (mI rfl)<|oq (q_add rfl rfl (wi64 T))<|oq (aI rfl)<|N0<|have hm:=inl_onward hm E; ?_
   exact ⟨⟨a+1,u,G,u.length,y,x⟩,rfl,⟨rfl,rfl,rfl,rfl,rfl,trivial⟩,⟨rfl,trivial⟩,⟨(Om p),hm,ii⟩,(muL j),ii⟩
 · replace hm:=forL_nil l hm
   unfold M.r25_Boundary_k1 at hm
   refine jF rfl (dF l)<|Jx<|SR<|oq (q_lda (vs:=[_,_,_]) rfl ii ⟨rfl,rfl,rfl,trivial⟩)<|Sc [.int _ _,.int _ _,.slice _ _ _] [.int _ _,.int _ _,.slice _ _ _] rfl rfl rfl rfl rfl ia rfl rfl<|N0<|J.fzO (R:=(LR IntR 2)) (Om t) fun _ _ A=>Jr ?_
   cases hm
   exact ret_ok (fn:=Tryz.f109) rfl (.agg rfl ii ii .nil) ⟨_,rfl,⟨_,_,_,rfl,Sm A⟩⟩
theorem r25_Point_fn {h:Heap} {x0:Int} {r:TCell} (hm:M.r25_Point x0=some r) :
    Fn Tryz.prog 62 #[.int .i64 x0] h fun v h'=>AggV TCellR h' v r:=by
 refine Fn.intro (args:=[_]) Tryz.func62 rfl rfl (lB rfl) fun w=>?_
 unfold M.r25_Point at hm
 refine SR<|o_al fun _=>N0<|SR<|oq (mI rfl)<|oq (q_bd [.int _ _,.int _ _,.slice _ _ _] rfl) ?_
 refine Sc [.int _ _,.int _ _,.slice _ _ _] [.int _ _,.int _ _,.slice _ _ _] rfl rfl rfl rfl rfl ia rfl rfl<|N0<|Jr ?_
 cases hm
 exact ret_ok (fn:=Tryz.f62) rfl (.agg rfl ii ii .nil) ⟨_,rfl,⟨_,_,_,rfl,(Sls.nil (R:=TFaceR) (sz:=3) _)⟩⟩
theorem r25_Edge_fn {h:Heap} {x0:Int} {x1:Int} {x2:Int} {r:TCell} (hm:M.r25_Edge x0 x1 x2=some r) :
    Fn Tryz.prog 64 #[.int .i64 x0,.int .i64 x1,.int .i64 x2] h fun v h'=>AggV TCellR h' v r:=by
 refine Fn.intro (args:=[_,_,_]) Tryz.func64 rfl rfl (lB rfl) fun w=>?_
 unfold M.r25_Edge at hm
 refine SR<|o_al fun _=>N0<|Sq<|bE hm fun s c hm=>bE hm fun t d hm=>bE hm fun _ e hm=>bE hm fun _ f hm=>Rg<|oq (mI rfl)<|oc (rof_fn c) fun _ _ _ n=>?_
 obtain ⟨_,_,_,_,rfl,g⟩:=n.op
 refine oq (q_bd [.int _ _,.bool _,.slice _ _ _] rfl) ?_
 refine o_bs [.int _ _,.bool _,.slice _ _ _] (by decide) rfl fun _=>LT TFaceR 3 1 [(TFace.mk x2 s)] (c3 ⟨_,_,_,_,rfl,(Mo.up g)⟩ c0) fun _ a=>JL.fzO (R:=TFaceR) (Om a) fun _ _ i=>oq (mI rfl)<|oc (rof_fn d) fun _ _ _ o=>?_
 obtain ⟨_,_,_,_,rfl,j⟩:=o.op
 refine oq (q_bd [.int _ _,.bool _,.slice _ _ _] rfl) ?_
 refine o_bs [.int _ _,.bool _,.slice _ _ _] (by decide) rfl fun _=>LT TFaceR 3 1 [(TFace.mk x1 t)] (c3 ⟨_,_,_,_,rfl,(Mo.up j)⟩ c0) fun _ b=>JL.fzO (R:=TFaceR) (Om b) fun _ _ k=>oc (rof_fn e) fun _ _ _ p=>?_
 obtain ⟨_,_,_,_,rfl,l⟩:=p.op
 refine oc (r25_Plus_fn (Sm i) (Sm k) (iu l) f) fun _ _ _ q=>?_
 obtain ⟨_,_,_,rfl,m⟩:=q.op3
 refine oq (aS rfl)<|N0<|SR<|oq (mI rfl)<|oq (mS rfl)<|oq (q_bd [.int _ _,.int _ _,.slice _ _ _] rfl) ?_
 refine Sc [.int _ _,.int _ _,.slice _ _ _] [.int _ _,.int _ _,.slice _ _ _] rfl rfl rfl rfl rfl ia rfl rfl<|N0<|Jr ?_
 cases hm
 exact ret_ok (fn:=Tryz.f64) rfl (.agg rfl ii ii .nil) ⟨_,rfl,⟨_,_,_,rfl,Sm m⟩⟩
theorem r25_Sum_fn {h:Heap} {x0:List Int} {v0:Value} (r0:Sls (KR .i64) 1 h v0 x0) {r:List TFace} (hm:M.r25_Sum x0=some r) :
    Fn Tryz.prog 26 #[v0] h fun v h'=>Sls TFaceR 3 h' v r:=by
 obtain ⟨_,_,_,rfl,a⟩:=r0.op3
 refine Fn.intro (args:=[_]) Tryz.func26 rfl rfl (lB rfl) fun w=>?_
 unfold M.r25_Sum at hm
 refine SR<|oq (aS rfl)<|N0<|SR<|o_bs [] (by decide) rfl fun o=>LT TFaceR 3 0 ([]:List TFace) c0 fun _ D=>oq (aS rfl)<|N0<|Sq<|SR<|oq (aI rfl)<|N0<|Jb ?_
 replace hm:=(show iter _ fuel _=some _ from hm)
 refine J.loopK (α:=Nat×(List TFace)×Int×(Option Addr)×Nat×Nat×Own) (fun ⟨e,i,b,g,f,d,c⟩ h' L'=>OwnL TFaceR 133 3 h' (.slice g f d) i c∧iter (M.r25_Sum_b1 x0) e (i,b)=some r∧Sp (c++([])) L') [(0,.slice _ _ _)] ⟨rfl,trivial⟩ (fun ⟨e,i,b,g,f,d,c⟩=>[(3,.slice g f d),(4,.int .i64 b)]) (fun ⟨e,i,b,g,f,d,c⟩=>e) ⟨fuel,([]:List TFace),0,(some ⟨o,0,none⟩),0,0,[(o,row 133 [])]⟩ ⟨(Om D),hm,ii⟩ ⟨rfl,rfl,trivial⟩ ?_
 rintro ⟨e,i,b,g,f,d,c⟩ _ _ _ _ ⟨p,hm,n⟩
 refine J.sp n ?_
 obtain ⟨Q,_,rfl,hm,l⟩:=iter_some hm
 unfold M.r25_Sum_b1 at hm
 refine Sq<|Sq<|kS hm fun q hm=>Rg<|oq (mI rfl)<|oq (q_add rfl rfl (wi64 q))<|oq (mS rfl)<|oq (q_lenE (k:=x0.length) rfl (Sls.len a))<|oq (q_lss rfl rfl)<|N0<|iC hm (fun j hm=>?_) fun j hm=>?_
 · refine jT rfl (dT j)<|Js<|Sq<|Jb<|nE hm fun _ U A m F hm=>?_
   obtain ⟨_,_,rfl⟩:=Sls.op a m
   refine aE a F fun _ x t=>?_
   obtain rfl:=KR.op t
   refine nE hm fun _ _ B C G hm=>aE a G fun _ y u=>?_
   obtain rfl:=KR.op u
   refine bE hm fun V K hm=>bE hm fun s L hm=>J.drawB [] []<|Dc 0 rfl (mS rfl)<|Dc 1 rfl (mS rfl)<|Dc 2 rfl (mI rfl)<|Dc 3 rfl (q_ian rfl rfl A (ln a m))<|Dl 4 rfl (q_ldf rfl x)<|Dc 5 rfl (mS rfl)<|Dc 6 rfl (mI rfl)<|Dc 7 rfl (q_add rfl rfl (wi64 q))<|Dc 8 rfl (q_ian rfl rfl B (ln a C))<|Dl 9 rfl (q_ldf rfl y)<|Do 10<|Xe rfl rfl<|oc (rof_fn K) fun _ _ _ T=>?_
   obtain ⟨_,_,_,_,rfl,N⟩:=T.op
   refine NE<|Dc 11 rfl (q_bd [.int _ _,.bool _,.slice _ _ _] rfl)<|Do 12<|Xe rfl rfl<|o_bs [.int _ _,.bool _,.slice _ _ _] (by decide) rfl fun _=>LT TFaceR 3 1 [(TFace.mk U V)] (c3 ⟨_,_,_,_,rfl,(Mo.up N)⟩ c0) fun z _=>NE<|Do 13<|Xe rfl rfl<|o_appB (R:=TFaceR) rfl rfl (Om p) ii z L fun S I H E=>NE<|Dc 14 rfl (aS rfl)<|Dd<|kS hm fun P hm=>Rg<|oq (mI rfl)<|oq (q_add rfl rfl (wi64 P))<|oq (aI rfl)<|N0<|have hm:=inl_onward hm l; ?_
   exact ⟨⟨Q,s,b+2,S,s.length,I,H⟩,rfl,⟨rfl,trivial⟩,⟨rfl,rfl,trivial⟩,⟨(Om E),hm,ii⟩,(Nat.lt_succ_self _),ii⟩
 · refine jF rfl (dF j)<|Jx<|have hm:=inr_onward hm l; SR<|oq (mS rfl)<|oq (aS rfl)<|N0<|J.fzO (R:=TFaceR) (Om p) fun _ _ O=>Jr ?_
   cases hm
   exact ret_ok (fn:=Tryz.f26) rfl (.tmp rfl .nil) (Sm O)
theorem r26_insert_fn {h:Heap} {x0:List TFace} {x1:TFace} {v0:Value} {v1:Value} (r0:Sls TFaceR 3 h v0 x0) (r1:AggV TFaceR h v1 x1) {r:List TFace} (hm:M.r26_insert x0 x1=some r) :
    Fn Tryz.prog 164 #[v0,v1] h fun v h'=>Sls TFaceR 3 h' v r:=by
 obtain ⟨_,_,_,rfl,d⟩:=r0.op3
 obtain ⟨_,rfl,Q,T,S,O,rfl,D⟩:=r1
 refine Fn.intro (args:=[_,_]) Tryz.func164 rfl rfl (lB rfl) fun w=>?_
 unfold M.r26_insert at hm
 refine SR<|o_bx (v:=.agg ⟨[.int _ _,.bool _,.slice _ _ _]⟩) rfl rfl fun i=>oq (aS rfl)<|N0<|Sq<|bE hm fun a4 a2 hm=>Rg<|o_bs [] (by decide) rfl fun az=>LT TFaceR 3 0 ([]:List TFace) c0 fun _ aW=>oq (q_fa rfl)<|oq (q_lda (vs:=[_,_]) rfl ii ⟨rfl,rfl,trivial⟩)<|oc (rsign_fn (iu D) a2) fun _ _ _ a3=>?_
 cases a3
 refine oq (q_eql rfl rfl)<|oq (aS rfl)<|oq (aB rfl)<|N0<|Sq<|SR<|oq (aI rfl)<|N0<|Jb ?_
 obtain ⟨_,hm⟩:=rngL_some hm
 refine J.loopK (α:=Nat×(List TFace)×Bool×(Option Addr)×Nat×Nat×Own) (fun ⟨e,t,u,q,o,m,g⟩ h' L'=>OwnL TFaceR 133 3 h' (.slice q o m) t g∧forL (M.r26_insert_b4 x1) (M.r26_insert_k4 x1) (List.drop e x0) e (t,u)=some r∧Sp (g++([(i,row 133 [.int .i64 x1.ID,.bool Q,.slice T S O])])) L') [(0,.slice _ _ _),(3,.pointer _)] ⟨rfl,rfl,trivial⟩ (fun ⟨e,t,u,q,o,m,g⟩=>[(5,.slice q o m),(6,.bool u),(7,.int .i64 (e:Int))]) (fun ⟨e,t,u,q,o,m,g⟩=>x0.length-e) ⟨0,([]:List TFace),decide (a4=0),(some ⟨az,0,none⟩),0,0,[(az,row 133 [])]⟩ ⟨(Om aW),hm,ii⟩ ⟨rfl,rfl,rfl,trivial⟩ ?_
 rintro ⟨e,t,u,q,o,m,g⟩ _ _ _ _ ⟨E,hm,ac⟩
 refine J.sp ac<|Sq<|SR<|oq (mI rfl)<|oq (mS rfl)<|oq (q_lenE (k:=x0.length) rfl (Sls.len d))<|oq (q_lss rfl rfl)<|N0 ?_
 by_cases P:(e:Int)<(x0.length:Int)
 · obtain ⟨V,ai,c,B,hm,ab⟩:=forL_cons P hm
   unfold M.r26_insert_b4 at hm
   refine jT rfl (dT P) ?_
   have aA:-9223372036854775808≤(e:Int)+1∧(e:Int)+1≤9223372036854775807:=by omega
   refine Js<|Sq<|Jb<|Sq ?_
   refine J.joinK (α:=(List TFace)×Bool×(Option Addr)×Nat×Nat×Own) (fun ⟨y,A,G,F,C,x⟩ h' L'=>OwnL TFaceR 133 3 h' (.slice G F C) y x∧(M.r26_insert_j3 x1 V) y A=some ai∧Sp (x++([(i,row 133 [.int .i64 x1.ID,.bool Q,.slice T S O])])) L') [(0,.slice _ _ _),(3,.pointer _),(7,.int _ _)] ⟨rfl,rfl,rfl,trivial⟩ (fun ⟨y,A,G,F,C,x⟩=>[(5,.slice G F C),(6,.bool A)]) ?_ ?_
   · refine Sq<|iC hm (fun b hm=>?_) fun b hm=>?_
     · refine J.drawB [] []<|Dc 0 rfl (mB rfl)<|Dc 1 rfl (q_not rfl)<|Dc 2 rfl (mB rfl)<|Dp 3 rfl rfl rfl (bT (b))<|Dp 4 rfl rfl rfl (bT (b))<|Dp 5 rfl rfl rfl (bT (b))<|Dp 6 rfl rfl rfl (bT (b))<|Dp 7 rfl rfl rfl (bT (b))<|Dp 8 rfl rfl rfl (bT (b))<|Dp 9 rfl rfl rfl (bT (b))<|Dp 10 rfl rfl rfl (bT (b))<|Dc 11 rfl (pkF rfl (bT (b)) rfl)<|Dd<|jF rfl rfl<|Js ?_
       exact ⟨⟨t,u,q,o,m,g⟩,rfl,⟨rfl,rfl,rfl,trivial⟩,⟨rfl,rfl,trivial⟩,⟨(Om E),hm,ii⟩,ii⟩
     · obtain ⟨_,_,rfl⟩:=Sls.op d c
       refine aE d B fun _ aq al=>?_
       obtain ⟨_,_,_,_,rfl,_⟩:=al
       refine J.drawB [i] []<|Dc 0 rfl (mB rfl)<|Dc 1 rfl (q_not rfl)<|Dc 2 rfl (mB rfl)<|Dg 3 rfl rfl rfl (bF ((nT b))) (mS rfl)<|Dg 4 rfl rfl rfl (bF ((nT b))) (mI rfl)<|Dg 5 rfl rfl rfl (bF ((nT b))) (q_ian rfl rfl rfl (ln d c))<|Dg 6 rfl rfl rfl (bF ((nT b))) (q_fa rfl)<|Dm 7 rfl rfl rfl (bF ((nT b))) (q_ldf rfl (aq.cell (j:=0) rfl))<|Dg 8 rfl rfl rfl (bF ((nT b))) (q_fa rfl)<|Dm 9 rfl rfl rfl (bF ((nT b))) (q_ld rfl ii rfl)<|Dg 10 rfl rfl rfl (bF ((nT b))) (q_gtr rfl rfl)<|Dc 11 rfl (pkT rfl (bF ((nT b))) rfl)<|Dd<|iC hm (fun I hm=>?_) fun I hm=>?_
       · refine jT rfl (dT I)<|Sq<|bE hm fun ah aN hm=>Rg<|oq (mS rfl)<|oq (q_lda (vs:=[_,_,_]) rfl ii ⟨rfl,rfl,rfl,trivial⟩)<|o_bs [.int _ _,.bool _,.slice _ _ _] (by decide) rfl fun _=>LT TFaceR 3 1 [x1] (c3 ⟨_,_,_,_,rfl,(Mo.up D)⟩ c0) fun ar _=>o_appB (R:=TFaceR) rfl rfl (Om E) ii ar aN fun aZ aJ aF ax=>oq (aS rfl)<|N0<|Rg<|oq (aB rfl)<|N0 ?_
         exact ⟨⟨ah,true,aZ,ah.length,aJ,aF⟩,rfl,⟨rfl,rfl,rfl,trivial⟩,⟨rfl,rfl,trivial⟩,⟨(Om ax),hm,ii⟩,ii⟩
       · refine jF rfl (dF I)<|Js ?_
         exact ⟨⟨t,u,q,o,m,g⟩,rfl,⟨rfl,rfl,rfl,trivial⟩,⟨rfl,rfl,trivial⟩,⟨(Om E),hm,ii⟩,ii⟩
   · rintro ⟨y,A,G,F,C,x⟩ _ _ _ _ ⟨aa,hm,ad⟩
     refine J.sp ad ?_
     unfold M.r26_insert_j3 at hm
     refine Sq<|Sq ?_
     refine J.joinK (α:=Bool) (fun U h' L'=>(M.r26_insert_j2 x1 V y A) U=some ai∧Sp (x++([(i,row 133 [.int .i64 x1.ID,.bool Q,.slice T S O])])) L') [(0,.slice _ _ _),(3,.pointer _),(5,.slice _ _ _),(6,.bool _),(7,.int _ _)] ⟨rfl,rfl,rfl,rfl,rfl,trivial⟩ (fun U=>[(47,.bool U)]) ?_ ?_
     · refine iC hm (fun a hm=>?_) fun a hm=>?_
       · refine J.drawB [] []<|Dc 0 rfl (mB rfl)<|Dc 1 rfl (q_not rfl)<|Dc 2 rfl (mB rfl)<|Dp 3 rfl rfl rfl (bT (a))<|Dp 4 rfl rfl rfl (bT (a))<|Dp 5 rfl rfl rfl (bT (a))<|Dp 6 rfl rfl rfl (bT (a))<|Dp 7 rfl rfl rfl (bT (a))<|Dp 8 rfl rfl rfl (bT (a))<|Dp 9 rfl rfl rfl (bT (a))<|Dp 10 rfl rfl rfl (bT (a))<|Dc 11 rfl (pkF rfl (bT (a)) rfl)<|Dd ?_
         exact ⟨false,rfl,⟨rfl,rfl,rfl,rfl,rfl,trivial⟩,⟨rfl,trivial⟩,⟨hm,ii⟩,ii⟩
       · obtain ⟨_,_,rfl⟩:=Sls.op d c
         refine aE d B fun _ ap ak=>?_
         obtain ⟨_,_,_,_,rfl,_⟩:=ak
         refine J.drawB [i] []<|Dc 0 rfl (mB rfl)<|Dc 1 rfl (q_not rfl)<|Dc 2 rfl (mB rfl)<|Dg 3 rfl rfl rfl (bF ((nT a))) (mS rfl)<|Dg 4 rfl rfl rfl (bF ((nT a))) (mI rfl)<|Dg 5 rfl rfl rfl (bF ((nT a))) (q_ian rfl rfl rfl (ln d c))<|Dg 6 rfl rfl rfl (bF ((nT a))) (q_fa rfl)<|Dm 7 rfl rfl rfl (bF ((nT a))) (q_ldf rfl (ap.cell (j:=0) rfl))<|Dg 8 rfl rfl rfl (bF ((nT a))) (q_fa rfl)<|Dm 9 rfl rfl rfl (bF ((nT a))) (q_ld rfl ii rfl)<|Dg 10 rfl rfl rfl (bF ((nT a))) (q_eql rfl rfl)<|Dc 11 rfl (pkT rfl (bF ((nT a))) rfl)<|Dd ?_
         exact ⟨(decide (V.ID=x1.ID)),rfl,⟨rfl,rfl,rfl,rfl,rfl,trivial⟩,⟨rfl,trivial⟩,⟨hm,ii⟩,ii⟩
     · rintro U _ _ _ _ ⟨hm,ae⟩
       refine J.sp ae ?_
       unfold M.r26_insert_j2 at hm
       refine iC hm (fun X hm=>?_) fun X hm=>?_
       · refine jT rfl X<|Sq ?_
         obtain ⟨_,_,rfl⟩:=Sls.op d c
         refine aE d B fun _ aV aU=>?_
         obtain ⟨_,_,_,_,rfl,Z⟩:=aU
         refine bE hm fun a1 Y hm=>J.drawB [i] []<|Dc 0 rfl (mS rfl)<|Dc 1 rfl (mI rfl)<|Dc 2 rfl (q_ian rfl rfl rfl (ln d c))<|Dc 3 rfl (q_fa rfl)<|Dl 4 rfl (q_ldfs (vs:=[_,_]) rfl aV rfl)<|Dc 5 rfl (q_fa rfl)<|Dl 6 rfl (q_lda (vs:=[_,_]) rfl ii ⟨rfl,rfl,trivial⟩) ?_
         refine Da [7,8] ⟨?_,?_,trivial⟩
         focus
          refine Xe rfl rfl<|oc (radd_fn (iu Z) (iu D) Y) fun _ _ _ N=>?_
          obtain ⟨_,_,_,_,rfl,L⟩:=N.op
          refine NE<|Do 8<|Xe rfl rfl<|o_al fun _=>?_
         rotate_left
         focus
          refine Xe rfl rfl<|o_al fun _=>NE<|Do 7<|Xe rfl rfl<|oc (radd_fn (iu Z) (iu D) Y) fun _ _ _ N=>?_
          obtain ⟨_,_,_,_,rfl,L⟩:=N.op
         rotate_left
         all_goals
          refine NE<|Do 9<|Xe rfl rfl<|Sc [.bool _,.slice _ _ _] [.bool _,.slice _ _ _] rfl rfl rfl rfl rfl ia rfl rfl<|NE<|Dd<|Sq ?_
          refine J.joinK (α:=(List TFace)×(Option Addr)×Nat×Nat×Own) (fun ⟨s,p,n,l,f⟩ h' L'=>OwnL TFaceR 133 3 h' (.slice p n l) s f∧M.r26_insert_j1 s=some ai∧Sp (f++([(i,row 133 [.int .i64 x1.ID,.bool Q,.slice T S O])])) L') [(0,.slice _ _ _),(3,.pointer _),(7,.int _ _)] ⟨rfl,rfl,rfl,trivial⟩ (fun ⟨s,p,n,l,f⟩=>[(5,.slice p n l)]) ?_ ?_
          · refine Sq<|bE hm fun _ aK hm=>Rg<|oq (q_lda (vs:=[_,_]) rfl ii ⟨rfl,rfl,trivial⟩)<|oc (rsign_fn (iu L) aK) fun _ _ _ a0=>?_
            cases a0
            refine oq (q_neq rfl rfl)<|N0<|iC hm (fun H hm=>?_) fun H hm=>?_
            · refine jF rfl (dF (fun z=>z H))<|Js ?_
              exact ⟨⟨y,G,F,C,x⟩,rfl,⟨rfl,rfl,rfl,trivial⟩,⟨rfl,trivial⟩,⟨(Om aa),hm,ii⟩,ii⟩
            · refine jT rfl (dT H)<|bE hm fun af aL hm=>Rg<|oq (mS rfl)<|oq (q_fa rfl)<|oq (q_ld rfl ia rfl)<|oq (q_lda (vs:=[_,_]) rfl ii ⟨rfl,rfl,trivial⟩)<|oq (q_bd [.int _ _,.bool _,.slice _ _ _] rfl) ?_
              refine o_bs [.int _ _,.bool _,.slice _ _ _] (by decide) rfl fun _=>LT TFaceR 3 1 [(TFace.mk x1.ID a1)] (c3 ⟨_,_,_,_,rfl,(Mo.up L)⟩ c0) fun am _=>o_appB (R:=TFaceR) rfl rfl (Om aa) ii am aL fun aX aG aC av=>oq (aS rfl)<|N0 ?_
              exact ⟨⟨af,aX,af.length,aG,aC⟩,rfl,⟨rfl,rfl,rfl,trivial⟩,⟨rfl,trivial⟩,⟨(Om av),hm,ii⟩,ii⟩
          · rintro ⟨s,p,n,l,f⟩ _ _ _ _ ⟨aP,hm,W⟩
            refine J.sp W ?_
            unfold M.r26_insert_j1 at hm
            refine SR<|oq (aB rfl)<|N0<|Jx<|Rg<|oq (mI rfl)<|oq (q_add rfl rfl (wi64 aA))<|oq (aI rfl)<|N0<|have hm:=inl_onward hm ab; ?_
            exact ⟨⟨e+1,s,true,p,n,l,f⟩,rfl,⟨rfl,rfl,trivial⟩,⟨rfl,rfl,rfl,trivial⟩,⟨(Om aP),hm,ii⟩,(muL c),ii⟩
       · refine jF rfl (nT X)<|Js ?_
         obtain ⟨_,_,rfl⟩:=Sls.op d c
         refine aE d B fun _ an aj=>?_
         obtain ⟨_,_,_,_,rfl,aQ⟩:=aj
         refine bE hm fun ag aM hm=>Rg<|oq (mS rfl)<|oq (mS rfl)<|oq (mI rfl)<|oq (q_ian rfl rfl rfl (ln d c))<|oq (q_ldfa rfl an)<|o_bs [.int _ _,.bool _,.slice _ _ _] (by decide) rfl fun _=>LT TFaceR 3 1 [V] (c3 ⟨_,_,_,_,rfl,(Mo.up aQ)⟩ c0) fun ao _=>o_appB (R:=TFaceR) rfl rfl (Om aa) ii ao aM fun aY aH aD aw=>oq (aS rfl)<|N0<|Rg<|oq (mI rfl)<|oq (q_add rfl rfl (wi64 aA))<|oq (aI rfl)<|N0<|have hm:=inl_onward hm ab; ?_
         exact ⟨⟨e+1,ag,A,aY,ag.length,aH,aD⟩,rfl,⟨rfl,rfl,trivial⟩,⟨rfl,rfl,rfl,trivial⟩,⟨(Om aw),hm,ii⟩,(muL c),ii⟩
 · replace hm:=forL_nil P hm
   unfold M.r26_insert_k4 at hm
   refine jF rfl (dF P)<|Jx<|Sq<|SR<|oq (mB rfl)<|oq (q_not rfl)<|N0<|iC hm (fun K hm=>?_) fun K hm=>?_
   · refine jF rfl (bT (K))<|Js<|SR<|oq (mS rfl)<|oq (aS rfl)<|N0<|J.fzO (R:=TFaceR) (Om E) fun _ _ aR=>Jr ?_
     cases hm
     exact ret_ok (fn:=Tryz.f164) rfl (.tmp rfl .nil) (Sm aR)
   · refine jT rfl (bF ((nT K)))<|bE hm fun _ aO hm=>Rg<|oq (mS rfl)<|oq (q_lda (vs:=[_,_,_]) rfl ii ⟨rfl,rfl,rfl,trivial⟩)<|o_bs [.int _ _,.bool _,.slice _ _ _] (by decide) rfl fun _=>LT TFaceR 3 1 [x1] (c3 ⟨_,_,_,_,rfl,(Mo.up D)⟩ c0) fun au _=>o_appB (R:=TFaceR) rfl rfl (Om E) ii au aO fun _ _ _ ay=>oq (aS rfl)<|N0<|SR<|oq (mS rfl)<|oq (aS rfl)<|N0<|J.fzO (R:=TFaceR) (Om ay) fun _ _ aT=>Jr ?_
     cases hm
     exact ret_ok (fn:=Tryz.f164) rfl (.tmp rfl .nil) (Sm aT)
theorem r26_Add_fn {h:Heap} {x0:List TFace} {x1:List TFace} {x2:Int} {v0:Value} {v1:Value} {v2:Value} (r0:Sls TFaceR 3 h v0 x0) (r1:Sls TFaceR 3 h v1 x1) (r2:IntAt h v2 x2) {r:List TFace} (hm:M.r26_Add x0 x1 x2=some r) :
    Fn Tryz.prog 106 #[v0,v1,v2] h fun v h'=>Sls TFaceR 3 h' v r:=by
 obtain ⟨L,H,t,rfl,A⟩:=r0.op3
 obtain ⟨_,_,_,rfl,d⟩:=r1.op3
 obtain ⟨F,N,I,u,rfl,B⟩:=r2.op
 refine Fn.intro (args:=[_,_,_]) Tryz.func106 rfl rfl (lB rfl) fun w=>?_
 unfold M.r26_Add at hm
 refine SR<|o_bx (v:=.agg ⟨[.bool _,.slice _ _ _]⟩) rfl rfl fun n=>oq (aS rfl)<|N0<|SR<|oq (mS rfl)<|oq (aS rfl)<|N0<|Sq<|SR<|oq (aI rfl)<|N0<|Jb ?_
 obtain ⟨_,hm⟩:=rngL_some hm
 refine J.loopK (α:=Nat×(List TFace)×(Option Addr)×Nat×Nat) (fun ⟨a,g,f,e,c⟩ h' L'=>Sls TFaceR 3 h' (.slice f e c) g∧forL (M.r26_Add_b1 x2) M.r26_Add_k1 (List.drop a x1) a g=some r∧Sp ([(n,row 75 [.bool F,.slice N I u])]) L') [(1,.slice _ _ _),(5,.pointer _)] ⟨rfl,rfl,trivial⟩ (fun ⟨a,g,f,e,c⟩=>[(7,.slice f e c),(8,.int .i64 (a:Int))]) (fun ⟨a,g,f,e,c⟩=>x1.length-a) ⟨0,x0,L,H,t⟩ ⟨(Sm A),hm,ii⟩ ⟨rfl,rfl,trivial⟩ ?_
 rintro ⟨a,g,f,e,c⟩ _ _ _ _ ⟨o,hm,m⟩
 refine J.sp m<|Sq<|SR<|oq (mI rfl)<|oq (mS rfl)<|oq (q_lenE (k:=x1.length) rfl (Sls.len d))<|oq (q_lss rfl rfl)<|N0 ?_
 by_cases i:(a:Int)<(x1.length:Int)
 · obtain ⟨R,_,b,s,hm,q⟩:=forL_cons i hm
   unfold M.r26_Add_b1 at hm
   refine jT rfl (dT i) ?_
   have G:-9223372036854775808≤(a:Int)+1∧(a:Int)+1≤9223372036854775807:=by omega
   refine Js<|Sq<|Jb ?_
   obtain ⟨_,_,rfl⟩:=Sls.op d b
   refine aE d s fun _ l p=>?_
   obtain ⟨_,_,_,_,rfl,C⟩:=p
   refine bE hm fun S y hm=>bE hm fun T z hm=>J.drawB [n] []<|Dc 0 rfl (mS rfl)<|Dc 1 rfl (mS rfl)<|Dc 2 rfl (mI rfl)<|Dc 3 rfl (q_ian rfl rfl rfl (ln d b))<|Dc 4 rfl (q_fa rfl)<|Dl 5 rfl (q_ldf rfl (l.cell (j:=0) rfl))<|Dl 6 rfl (q_lda (vs:=[_,_]) rfl ii ⟨rfl,rfl,trivial⟩)<|Dc 7 rfl (mS rfl)<|Dc 8 rfl (mI rfl)<|Dc 9 rfl (q_ian rfl rfl rfl (ln d b))<|Dc 10 rfl (q_fa rfl)<|Dl 11 rfl (q_ldfs (vs:=[_,_]) rfl l rfl)<|Do 12<|Xe rfl rfl<|oc (rmul_fn (iu B) (iu C) y) fun _ _ _ P=>?_
   obtain ⟨_,_,_,_,rfl,D⟩:=P.op
   refine NE<|Dc 13 rfl (q_bd [.int _ _,.bool _,.slice _ _ _] rfl)<|Do 14<|Xe rfl rfl<|oc (r26_insert_fn (Sm o) (x1:=(TFace.mk R.ID S)) ⟨_,rfl,⟨_,_,_,_,rfl,(Mo.up D)⟩⟩ z) fun _ _ _ Q=>?_
   obtain ⟨O,K,x,rfl,E⟩:=Q.op3
   refine NE<|Dc 15 rfl (aS rfl)<|Dd<|Rg<|oq (mI rfl)<|oq (q_add rfl rfl (wi64 G))<|oq (aI rfl)<|N0<|have hm:=inl_onward hm q; ?_
   exact ⟨⟨a+1,T,O,K,x⟩,rfl,⟨rfl,rfl,trivial⟩,⟨rfl,rfl,trivial⟩,⟨(Sm E),hm,ii⟩,(muL b),ii⟩
 · replace hm:=forL_nil i hm
   unfold M.r26_Add_k1 at hm
   refine jF rfl (dF i)<|Jx<|SR<|oq (mS rfl)<|oq (aS rfl)<|N0<|Jr ?_
   cases hm
   exact ret_ok (fn:=Tryz.f106) rfl (.tmp rfl .nil) (Sm o)
theorem r26_Chain_fn {h:Heap} {x0:List TCell} {x1:Int} {x2:List Int} {v0:Value} {v2:Value} (r0:Sls TCellR 3 h v0 x0) (r2:Sls IntR 2 h v2 x2) {r:(List TFace)×Int} (hm:M.r26_Chain x0 x1 x2=some r) :
    Fn Tryz.prog 174 #[v0,.int .i64 x1,v2] h fun v h'=>∃ u0 u1,v=.tuple ⟨[u0,u1]⟩∧Sls TFaceR 3 h' u0 r.1∧u1=.int .i64 r.2:=by
 obtain ⟨_,_,_,rfl,H⟩:=r0.op3
 obtain ⟨_,_,_,rfl,c⟩:=r2.op3
 refine Fn.intro (args:=[_,_,_]) Tryz.func174 rfl rfl (lB rfl) fun w=>?_
 unfold M.r26_Chain at hm
 refine SR<|oq (aS rfl)<|oq (aI rfl)<|N0<|Sq<|bE hm fun p F hm=>Rg<|oq (mS rfl)<|oq (mI rfl)<|oc (r25_Cells_fn (Sm H) F) fun _ _ _ Q=>?_
 obtain ⟨_,_,_,rfl,j⟩:=Q.op3
 refine oq (aS rfl)<|N0<|Sq<|SR<|oq (mS rfl)<|oq (q_lenE (k:=x2.length) rfl (Sls.len c))<|oq (mS rfl)<|oq (q_lenE (k:=p.length) rfl (Sls.len j))<|oq (q_neq rfl rfl)<|N0<|iC hm (fun l hm=>?_) fun l hm=>?_
 · refine jF rfl (dF (fun z=>z l))<|Js<|SR<|o_bs [] (by decide) rfl fun D=>LT TFaceR 3 0 ([]:List TFace) c0 fun _ A=>oq (aS rfl)<|N0<|Sq<|SR<|oq (aI rfl)<|N0<|Jb<|J.fzO (R:=TFaceR) (Om A) fun _ _ I=>?_
   obtain ⟨_,hm⟩:=rngL_some hm
   refine J.loopK (α:=Nat×(List TFace)×(Option Addr)×Nat×Nat) (fun ⟨a,f,e,d,b⟩ h' L'=>Sls TFaceR 3 h' (.slice e d b) f∧forL (M.r26_Chain_b1 p) M.r26_Chain_k1 (List.drop a x2) a f=some r∧Sp ([]) L') [(2,.slice _ _ _),(8,.slice _ _ _)] ⟨rfl,rfl,trivial⟩ (fun ⟨a,f,e,d,b⟩=>[(9,.slice e d b),(10,.int .i64 (a:Int))]) (fun ⟨a,f,e,d,b⟩=>x2.length-a) ⟨0,([]:List TFace),(some ⟨D,0,none⟩),0,0⟩ ⟨(Sm I),hm,ii⟩ ⟨rfl,rfl,trivial⟩ ?_
   rintro ⟨a,f,e,d,b⟩ _ _ _ _ ⟨o,hm,n⟩
   refine J.sp n<|Sq<|SR<|oq (mI rfl)<|oq (mS rfl)<|oq (q_lenE (k:=x2.length) rfl (Sls.len c))<|oq (q_lss rfl rfl)<|N0 ?_
   by_cases i:(a:Int)<(x2.length:Int)
   · obtain ⟨T,_,g,B,hm,y⟩:=forL_cons i hm
     unfold M.r26_Chain_b1 at hm
     refine jT rfl (dT i) ?_
     have N:-9223372036854775808≤(a:Int)+1∧(a:Int)+1≤9223372036854775807:=by omega
     refine Js<|Sq<|Jb<|nE hm fun i64 U x m C hm=>?_
     obtain ⟨_,_,rfl⟩:=Sls.op j m
     refine aE j C fun _ t q=>?_
     obtain rfl:=KR.op q
     obtain ⟨_,_,rfl⟩:=Sls.op c g
     refine aE c B fun _ u s=>?_
     obtain ⟨_,_,_,_,rfl,K⟩:=IntR.op s
     refine bE hm fun V G hm=>J.drawB [] []<|Dc 0 rfl (mS rfl)<|Dc 1 rfl (mS rfl)<|Dc 2 rfl (mI rfl)<|Dc 3 rfl (q_ian rfl rfl x (ln j m))<|Dl 4 rfl (q_ldf rfl t)<|Dc 5 rfl (mS rfl)<|Dc 6 rfl (mI rfl)<|Dc 7 rfl (q_ian rfl rfl rfl (ln c g))<|Dl 8 rfl (q_ldfa rfl u)<|Dc 9 rfl (q_bd [.int _ _,.bool _,.slice _ _ _] rfl)<|Do 10<|Xe rfl rfl<|oc (r26_insert_fn (Sm o) (x1:=(TFace.mk U T)) ⟨_,rfl,⟨_,_,_,_,rfl,(Mo.up K)⟩⟩ G) fun _ _ _ S=>?_
     obtain ⟨P,O,E,rfl,L⟩:=S.op3
     refine NE<|Dc 11 rfl (aS rfl)<|Dd<|Rg<|oq (mI rfl)<|oq (q_add rfl rfl (wi64 N))<|oq (aI rfl)<|N0<|have hm:=inl_onward hm y; ?_
     exact ⟨⟨a+1,V,P,O,E⟩,rfl,⟨rfl,rfl,trivial⟩,⟨rfl,rfl,trivial⟩,⟨(Sm L),hm,ii⟩,(muL g),ii⟩
   · replace hm:=forL_nil i hm
     unfold M.r26_Chain_k1 at hm
     refine jF rfl (dF i)<|Jx<|SR<|oq (mS rfl)<|oq (aS rfl)<|oq (aI rfl)<|N0<|Jr ?_
     cases hm
     exact ret_ok (fn:=Tryz.f174) rfl (.tmp rfl (.tmp rfl .nil)) ⟨_,_,rfl,(Sm o),rfl⟩
 · refine jT rfl (dT l)<|SR<|oq (aS rfl)<|oq (aI rfl)<|N0<|Jr ?_
   cases hm
   exact ret_ok (fn:=Tryz.f174) rfl (.tmp rfl (.tmp rfl .nil)) ⟨_,_,rfl,((Sls.nil (R:=TFaceR) (sz:=3) _)),rfl⟩
theorem r26_Of_fn {h:Heap} {x0:List TCell} {x1:Int} {x2:List Int} {v0:Value} {v2:Value} (r0:Sls TCellR 3 h v0 x0) (r2:Sls IntR 2 h v2 x2) {r:List TFace} (hm:M.r26_Of x0 x1 x2=some r) :
    Fn Tryz.prog 116 #[v0,.int .i64 x1,v2] h fun v h'=>Sls TFaceR 3 h' v r:=by
 obtain ⟨_,_,_,rfl,b⟩:=r0.op3
 obtain ⟨_,_,_,rfl,c⟩:=r2.op3
 refine Fn.intro (args:=[_,_,_]) Tryz.func116 rfl rfl (lB rfl) fun w=>?_
 unfold M.r26_Of at hm
 refine SR<|oq (aS rfl)<|N0<|Sq<|bE hm fun _ a hm=>Rg<|oq (mS rfl)<|oq (mI rfl)<|oq (mS rfl)<|oc (r26_Chain_fn (Sm b) (Sm c) a) fun _ _ _ e=>?_
 obtain ⟨_,_,rfl,f,g⟩:=e
 obtain ⟨_,_,_,rfl,d⟩:=f.op3
 cases g
 refine oq q_mv<|oq (q_ex rfl rfl)<|oq (q_ex rfl rfl)<|oq (aS rfl)<|oq (aI rfl)<|N0<|SR<|oq (mS rfl)<|oq (aS rfl)<|N0<|Jr ?_
 cases hm
 exact ret_ok (fn:=Tryz.f116) rfl (.tmp rfl .nil) (Sm d)
theorem r26_Cell_fn {h:Heap} {x0:Int} {x1:Int} {x2:List Int} {v2:Value} (r2:Sls (KR .i64) 1 h v2 x2) {r:TCell} (hm:M.r26_Cell x0 x1 x2=some r) :
    Fn Tryz.prog 136 #[.int .i64 x0,.int .i64 x1,v2] h fun v h'=>AggV TCellR h' v r:=by
 obtain ⟨_,_,_,rfl,a⟩:=r2.op3
 refine Fn.intro (args:=[_,_,_]) Tryz.func136 rfl rfl (lB rfl) fun w=>?_
 unfold M.r26_Cell at hm
 refine SR<|o_al fun C=>N0<|SR<|o_bs [] (by decide) rfl fun D=>LT TFaceR 3 0 ([]:List TFace) c0 fun _ z=>oq (aS rfl)<|N0<|Sq<|SR<|oq (aI rfl)<|N0<|Jb<|J.fzO (R:=TFaceR) (Om z) fun _ _ H=>?_
 replace hm:=(show iter _ fuel _=some _ from hm)
 refine J.loopK (α:=Nat×(List TFace)×Int×(Option Addr)×Nat×Nat) (fun ⟨d,g,b,f,e,c⟩ h' L'=>Sls TFaceR 3 h' (.slice f e c) g∧iter (M.r26_Cell_b1 x0 x1 x2) d (g,b)=some r∧Sp ([(C,row 47 [.int .i64 0,.int .i64 0,.slice none 0 0])]) L') [(0,.int _ _),(1,.int _ _),(2,.slice _ _ _),(6,.pointer _)] ⟨rfl,rfl,rfl,rfl,trivial⟩ (fun ⟨d,g,b,f,e,c⟩=>[(7,.slice f e c),(8,.int .i64 b)]) (fun ⟨d,g,b,f,e,c⟩=>d) ⟨fuel,([]:List TFace),0,(some ⟨D,0,none⟩),0,0⟩ ⟨(Sm H),hm,ii⟩ ⟨rfl,rfl,trivial⟩ ?_
 rintro ⟨d,g,b,f,e,c⟩ _ _ _ _ ⟨n,hm,m⟩
 refine J.sp m ?_
 obtain ⟨N,_,rfl,hm,j⟩:=iter_some hm
 unfold M.r26_Cell_b1 at hm
 refine Sq<|Sq<|kS hm fun o hm=>Rg<|oq (mI rfl)<|oq (q_add rfl rfl (wi64 o))<|oq (mS rfl)<|oq (q_lenE (k:=x2.length) rfl (Sls.len a))<|oq (q_lss rfl rfl)<|N0<|iC hm (fun i hm=>?_) fun i hm=>?_
 · refine jT rfl (dT i)<|Js<|Sq<|Jb<|nE hm fun _ T u l A hm=>?_
   obtain ⟨_,_,rfl⟩:=Sls.op a l
   refine aE a A fun _ s p=>?_
   obtain rfl:=KR.op p
   refine nE hm fun _ _ x y B hm=>aE a B fun _ t q=>?_
   obtain rfl:=KR.op q
   refine bE hm fun U F hm=>bE hm fun V G hm=>J.drawB [] []<|Dc 0 rfl (mS rfl)<|Dc 1 rfl (mS rfl)<|Dc 2 rfl (mI rfl)<|Dc 3 rfl (q_ian rfl rfl u (ln a l))<|Dl 4 rfl (q_ldf rfl s)<|Dc 5 rfl (mS rfl)<|Dc 6 rfl (mI rfl)<|Dc 7 rfl (q_add rfl rfl (wi64 o))<|Dc 8 rfl (q_ian rfl rfl x (ln a y))<|Dl 9 rfl (q_ldf rfl t)<|Do 10<|Xe rfl rfl<|oc (rof_fn F) fun _ _ _ Q=>?_
   obtain ⟨_,_,_,_,rfl,I⟩:=Q.op
   refine NE<|Dc 11 rfl (q_bd [.int _ _,.bool _,.slice _ _ _] rfl)<|Do 12<|Xe rfl rfl<|oc (r26_insert_fn (Sm n) (x1:=(TFace.mk T U)) ⟨_,rfl,⟨_,_,_,_,rfl,(Mo.up I)⟩⟩ G) fun _ _ _ S=>?_
   obtain ⟨P,O,E,rfl,K⟩:=S.op3
   refine NE<|Dc 13 rfl (aS rfl)<|Dd<|kS hm fun L hm=>Rg<|oq (mI rfl)<|oq (q_add rfl rfl (wi64 L))<|oq (aI rfl)<|N0<|have hm:=inl_onward hm j; ?_
   exact ⟨⟨N,V,b+2,P,O,E⟩,rfl,⟨rfl,rfl,rfl,rfl,trivial⟩,⟨rfl,rfl,trivial⟩,⟨(Sm K),hm,ii⟩,(Nat.lt_succ_self _),ii⟩
 · refine jF rfl (dF i)<|Jx<|have hm:=inr_onward hm j; SR<|oq (mI rfl)<|oq (mI rfl)<|oq (mS rfl)<|oq (q_bd [.int _ _,.int _ _,.slice _ _ _] rfl) ?_
   refine Sc [.int _ _,.int _ _,.slice _ _ _] [.int _ _,.int _ _,.slice _ _ _] rfl rfl rfl rfl rfl ia rfl rfl<|N0<|Jr ?_
   cases hm
   exact ret_ok (fn:=Tryz.f136) rfl (.agg rfl ii ii .nil) ⟨_,rfl,⟨_,_,_,rfl,Sm n⟩⟩
theorem r26_Space_fn {h:Heap} {x0:Int} {r:List TCell} (hm:M.r26_Space x0=some r) :
    Fn Tryz.prog 65 #[.int .u8 x0] h fun v h'=>Sls TCellR 3 h' v r:=by
 refine Fn.intro (args:=[_]) Tryz.func65 rfl rfl (lB rfl) fun w=>?_
 unfold M.r26_Space at hm
 refine SR<|oq (aS rfl)<|N0<|Sq<|bE hm fun a dj hm=>bE hm fun D dk hm=>Rg<|oc (r26_Cell_fn ((Sls.nil (R:=(KR .i64)) (sz:=1) _)) dj) fun _ _ _ dx=>?_
 obtain ⟨_,rfl,_,_,_,rfl,f⟩:=dx
 refine oc (r26_Cell_fn ((Sls.nil (R:=(KR .i64)) (sz:=1) _)) dk) fun _ _ _ dy=>?_
 obtain ⟨_,rfl,_,_,_,rfl,t⟩:=dy
 refine o_al fun j=>o_al fun E=>Sc [.int _ _,.int _ _,.slice _ _ _] [.int _ _,.int _ _,.slice _ _ _] rfl rfl rfl rfl rfl ia rfl rfl<|Sc [.int _ _,.int _ _,.slice _ _ _] [.int _ _,.int _ _,.slice _ _ _] rfl rfl rfl rfl rfl ia rfl rfl<|N0<|Sq<|bE hm fun m dl hm=>bE hm fun n dm hm=>bE hm fun o dn hm=>bE hm fun p dp hm=>bE hm fun g bM hm=>J.drawB [j] []<|Dl 0 rfl (q_lda (vs:=[_,_,_]) rfl ii ⟨rfl,rfl,rfl,trivial⟩) ?_
 refine JD.fresh (fuel:=1) [{ i:=1,d:=9,dep:=[],R:=fun h v Li=>(AggV TCellR h v m)∧Li=[] },
     { i:=2,d:=10,dep:=[],R:=fun h v Li=>(AggV TCellR h v n)∧Li=[] },
     { i:=3,d:=11,dep:=[],R:=fun h v Li=>∃ b,v=.slice (some ⟨b,0,none⟩) 4 4∧Sls (KR .i64) 1 h v [1,(-1),2,1]∧Li=[] },
     { i:=4,d:=12,dep:=[(3,11)],R:=fun h v Li=>(AggV TCellR h v o)∧Li=[] },
     { i:=5,d:=13,dep:=[],R:=fun h v Li=>∃ b,v=.slice (some ⟨b,0,none⟩) 4 4∧Sls (KR .i64) 1 h v [2,(-1),3,1]∧Li=[] },
     { i:=6,d:=14,dep:=[(5,13)],R:=fun h v Li=>(AggV TCellR h v p)∧Li=[] },
     { i:=7,d:=15,dep:=[],R:=fun h v Li=>∃ b,v=.slice (some ⟨b,0,none⟩) 4 4∧Sls (KR .i64) 1 h v [1,1,3,(-1)]∧Li=[] },
     { i:=8,d:=16,dep:=[(7,15)],R:=fun h v Li=>(AggV TCellR h v g)∧Li=[] },
     { i:=9,d:=17,dep:=[(1,9),(2,10),(4,12),(6,14),(8,16)],R:=fun h v Li=>∃ b W,v=.slice (some ⟨b,0,none⟩) 6 6∧Cells TCellR 3 h W [a,m,n,o,p,g]∧OwnL TCellR 47 3 h (.slice (some ⟨b,0,none⟩) 6 6) [a,m,n,o,p,g] [(b,row 47 W)]∧Li=[(b,row 47 W)] }] ⟨fun _ _ _ _ e ⟨q,y⟩=>⟨AggV.mono (e:=e) q,y⟩,fun _ _ _ _ e ⟨q,y⟩=>⟨AggV.mono (e:=e) q,y⟩,fun _ _ _ _ e ⟨b,x,q,y⟩=>⟨b,x,Sls.mono (e:=e) q,y⟩,fun _ _ _ _ e ⟨q,y⟩=>⟨AggV.mono (e:=e) q,y⟩,fun _ _ _ _ e ⟨b,x,q,y⟩=>⟨b,x,Sls.mono (e:=e) q,y⟩,fun _ _ _ _ e ⟨q,y⟩=>⟨AggV.mono (e:=e) q,y⟩,fun _ _ _ _ e ⟨b,x,q,y⟩=>⟨b,x,Sls.mono (e:=e) q,y⟩,fun _ _ _ _ e ⟨q,y⟩=>⟨AggV.mono (e:=e) q,y⟩,fun _ _ _ _ e ⟨b,W,x,q1,q2,y⟩=>⟨b,W,x,Cells.mono (e:=e) q1,OwnL.mono (e:=e) q2,y⟩,trivial⟩ [(0,.int _ _),(3,.pointer _),(4,.pointer _),(8,.agg ⟨[.int _ _,.int _ _,.slice _ _ _]⟩)] ⟨rfl,rfl,rfl,rfl,trivial⟩ (dn_of (by kernel_rfl)).1 (dn_of (by kernel_rfl)).2 (by kernel_rfl) ⟨⟨_,rfl,?_⟩,⟨_,rfl,?_⟩,⟨_,rfl,?_⟩,⟨_,rfl,?_⟩,⟨_,rfl,?_⟩,⟨_,rfl,?_⟩,⟨_,rfl,?_⟩,⟨_,rfl,?_⟩,⟨_,rfl,?_⟩,trivial⟩ ?_
 · intro dQ ea dH ef
   intro d1 cB
   refine oc (r26_Cell_fn ((Sls.nil (R:=(KR .i64)) (sz:=1) _)) dl) fun Q dq dz L=>?_
   exact cB Q dq [] dz ⟨L,rfl⟩
 · intro dR eb dI eg
   intro d2 cC
   refine oc (r26_Cell_fn ((Sls.nil (R:=(KR .i64)) (sz:=1) _)) dm) fun S dr dA N=>?_
   exact cC S dr [] dA ⟨N,rfl⟩
 · intro dS ec dJ eh
   intro d3 cD
   refine o_bs [.int _ _,.int _ _,.int _ _,.int _ _] (by decide) rfl fun _=>LT (KR .i64) 1 4 [1,(-1),2,1] (c1 rfl (c1 rfl (c1 rfl (c1 rfl c0)))) fun _ cy=>JL.fzO (R:=(KR .i64)) (Om cy) fun ds dB av=>?_
   exact cD _ ds [] dB ⟨_,rfl,av,rfl⟩
 · intro dU cv dK ei
   intro aK bs aQ
   obtain ⟨_,rfl,av,rfl⟩:=(show ∃ b,aK=.slice (some ⟨b,0,none⟩) 4 4∧Sls (KR .i64) 1 cv aK [1,(-1),2,1]∧bs=[] from aQ)
   intro d4 cE
   refine oc (r26_Cell_fn (Sm av) dn) fun T dt dC O=>?_
   exact cE T dt [] dC ⟨O,rfl⟩
 · intro dV ed dL ej
   intro d5 cF
   refine o_bs [.int _ _,.int _ _,.int _ _,.int _ _] (by decide) rfl fun _=>LT (KR .i64) 1 4 [2,(-1),3,1] (c1 rfl (c1 rfl (c1 rfl (c1 rfl c0)))) fun _ cz=>JL.fzO (R:=(KR .i64)) (Om cz) fun du dD aw=>?_
   exact cF _ du [] dD ⟨_,rfl,aw,rfl⟩
 · intro dW cw dM ek
   intro aL bt aR
   obtain ⟨_,rfl,aw,rfl⟩:=(show ∃ b,aL=.slice (some ⟨b,0,none⟩) 4 4∧Sls (KR .i64) 1 cw aL [2,(-1),3,1]∧bt=[] from aR)
   intro d6 cG
   refine oc (r26_Cell_fn (Sm aw) dp) fun U dv dE P=>?_
   exact cG U dv [] dE ⟨P,rfl⟩
 · intro dX ee dN el
   intro d7 cH
   refine o_bs [.int _ _,.int _ _,.int _ _,.int _ _] (by decide) rfl fun _=>LT (KR .i64) 1 4 [1,1,3,(-1)] (c1 rfl (c1 rfl (c1 rfl (c1 rfl c0)))) fun _ cA=>JL.fzO (R:=(KR .i64)) (Om cA) fun dw dG F=>?_
   exact cH _ dw [] dG ⟨_,rfl,F,rfl⟩
 · intro dY cx dO em
   intro aM bu aT
   obtain ⟨_,rfl,F,rfl⟩:=(show ∃ b,aM=.slice (some ⟨b,0,none⟩) 4 4∧Sls (KR .i64) 1 cx aM [1,1,3,(-1)]∧bu=[] from aT)
   intro d8 cI
   refine oc (r26_Cell_fn (Sm F) bM) fun C cu cW z=>?_
   exact cI C cu [] cW ⟨z,rfl⟩
 · intro dZ u dP en
   intro Q bv aU
   obtain ⟨L,rfl⟩:=(show (AggV TCellR u Q m)∧bv=[] from aU)
   obtain ⟨_,rfl,_,_,_,rfl,bo⟩:=L
   intro S bw aV
   obtain ⟨N,rfl⟩:=(show (AggV TCellR u S n)∧bw=[] from aV)
   obtain ⟨_,rfl,_,_,_,rfl,bp⟩:=N
   intro T bx aW
   obtain ⟨O,rfl⟩:=(show (AggV TCellR u T o)∧bx=[] from aW)
   obtain ⟨_,rfl,_,_,_,rfl,bq⟩:=O
   intro U bz aX
   obtain ⟨P,rfl⟩:=(show (AggV TCellR u U p)∧bz=[] from aX)
   obtain ⟨_,rfl,_,_,_,rfl,br⟩:=P
   intro C bA aY
   obtain ⟨z,rfl⟩:=(show (AggV TCellR u C g)∧bA=[] from aY)
   obtain ⟨_,rfl,_,_,_,rfl,aC⟩:=z
   intro d9 cJ
   refine o_bs [.int _ _,.int _ _,.slice _ _ _,.int _ _,.int _ _,.slice _ _ _,.int _ _,.int _ _,.slice _ _ _,.int _ _,.int _ _,.slice _ _ _,.int _ _,.int _ _,.slice _ _ _,.int _ _,.int _ _,.slice _ _ _] (by decide) rfl fun V=>LT TCellR 3 6 [a,m,n,o,p,g] (c3 ⟨_,_,_,rfl,Sm f⟩ (c3 ⟨_,_,_,rfl,Sm bo⟩ (c3 ⟨_,_,_,rfl,Sm bp⟩ (c3 ⟨_,_,_,rfl,Sm bq⟩ (c3 ⟨_,_,_,rfl,Sm br⟩ (c3 ⟨_,_,_,rfl,Sm aC⟩ c0)))))) fun ax s=>?_
   exact cJ _ _ [(V,_)] (Ext.refl _).toStep ⟨V,_,rfl,ax,s,rfl⟩
 intro d0 c eo
 intro Q bB aZ
 obtain ⟨L,rfl⟩:=(show (AggV TCellR c Q m)∧bB=[] from aZ)
 obtain ⟨_,rfl,_,_,_,rfl,bo⟩:=L
 intro S bC a0
 obtain ⟨N,rfl⟩:=(show (AggV TCellR c S n)∧bC=[] from a0)
 obtain ⟨_,rfl,_,_,_,rfl,bp⟩:=N
 intro aN bD a1
 obtain ⟨_,rfl,av,rfl⟩:=(show ∃ b,aN=.slice (some ⟨b,0,none⟩) 4 4∧Sls (KR .i64) 1 c aN [1,(-1),2,1]∧bD=[] from a1)
 intro T bG a2
 obtain ⟨O,rfl⟩:=(show (AggV TCellR c T o)∧bG=[] from a2)
 obtain ⟨_,rfl,_,_,_,rfl,bq⟩:=O
 intro aO bH a3
 obtain ⟨_,rfl,aw,rfl⟩:=(show ∃ b,aO=.slice (some ⟨b,0,none⟩) 4 4∧Sls (KR .i64) 1 c aO [2,(-1),3,1]∧bH=[] from a3)
 intro U bI a4
 obtain ⟨P,rfl⟩:=(show (AggV TCellR c U p)∧bI=[] from a4)
 obtain ⟨_,rfl,_,_,_,rfl,br⟩:=P
 intro aP bJ a5
 obtain ⟨_,rfl,F,rfl⟩:=(show ∃ b,aP=.slice (some ⟨b,0,none⟩) 4 4∧Sls (KR .i64) 1 c aP [1,1,3,(-1)]∧bJ=[] from a5)
 intro C bK a6
 obtain ⟨z,rfl⟩:=(show (AggV TCellR c C g)∧bK=[] from a6)
 obtain ⟨_,rfl,_,_,_,rfl,aC⟩:=z
 intro cX bL a7
 obtain ⟨V,_,rfl,ax,s,rfl⟩:=(show ∃ b W,cX=.slice (some ⟨b,0,none⟩) 6 6∧Cells TCellR 3 c W [a,m,n,o,p,g]∧OwnL TCellR 47 3 c (.slice (some ⟨b,0,none⟩) 6 6) [a,m,n,o,p,g] [(b,row 47 W)]∧bL=[(b,row 47 W)] from a7)
 refine Dc 10 rfl (aS rfl)<|Dd<|Sq<|SR<|oq (mI rfl)<|oq (q_rem rfl rfl (by decide) rfl)<|N0<|Jb<|SR<|oq (q_eql rfl rfl)<|oq (aB rfl)<|N0<|iC hm (fun X hm=>?_) fun X hm=>?_
 · refine jT rfl (dT X)<|SR<|oq (q_lda (vs:=[_,_,_]) rfl ii ⟨rfl,rfl,rfl,trivial⟩)<|o_bs [.int _ _,.int _ _,.slice _ _ _] (by decide) rfl fun _=>LT TCellR 3 1 [a] (c3 ⟨_,_,_,rfl,Sm f⟩ c0) fun _ a9=>oq (aS rfl)<|N0<|J.fzO (R:=TCellR) (Om a9) fun _ _ b1=>Jr ?_
   cases hm
   exact ret_ok (fn:=Tryz.f65) rfl (.tmp rfl .nil) (Sm b1)
 · refine jF rfl (dF X)<|SR<|oq (q_eql rfl rfl)<|oq (aB rfl)<|N0<|iC hm (fun Y hm=>?_) fun Y hm=>?_
   · refine jT rfl (dT Y)<|Sq<|bE hm fun cY bN hm=>J.drawB [j] []<|Dl 0 rfl (q_lda (vs:=[_,_,_]) rfl ii ⟨rfl,rfl,rfl,trivial⟩)<|Do 1<|Xe rfl rfl<|oc (r26_Cell_fn ((Sls.nil (R:=(KR .i64)) (sz:=1) _)) bN) fun _ _ _ cK=>?_
     obtain ⟨_,rfl,_,_,_,rfl,b2⟩:=cK
     refine NE<|Do 2<|Xe rfl rfl<|o_bs [.int _ _,.int _ _,.slice _ _ _,.int _ _,.int _ _,.slice _ _ _] (by decide) rfl fun _=>LT TCellR 3 2 [a,cY] (c3 ⟨_,_,_,rfl,Sm f⟩ (c3 ⟨_,_,_,rfl,Sm b2⟩ c0)) fun _ ba=>NE<|Dc 3 rfl (aS rfl)<|Dd<|J.fzO (R:=TCellR) (Om ba) fun _ _ b3=>Jr ?_
     cases hm
     exact ret_ok (fn:=Tryz.f65) rfl (.tmp rfl .nil) (Sm b3)
   · refine jF rfl (dF Y)<|SR<|oq (q_eql rfl rfl)<|oq (aB rfl)<|N0<|iC hm (fun Z hm=>?_) fun Z hm=>?_
     · refine jT rfl (dT Z)<|Sq<|bE hm fun cZ ay hm=>bE hm fun c4 bO hm=>J.drawB [j] []<|Dl 0 rfl (q_lda (vs:=[_,_,_]) rfl ii ⟨rfl,rfl,rfl,trivial⟩) ?_
       refine Da [1,2] ⟨?_,?_,trivial⟩
       focus
        refine Xe rfl rfl<|oc (r26_Cell_fn ((Sls.nil (R:=(KR .i64)) (sz:=1) _)) ay) fun _ _ _ aq=>?_
        obtain ⟨_,rfl,_,_,_,rfl,aD⟩:=aq
        refine NE<|Do 2<|Xe rfl rfl<|o_bs [.int _ _,.int _ _,.int _ _,.int _ _] (by decide) rfl fun _=>LT (KR .i64) 1 4 [1,(-1),2,1] (c1 rfl (c1 rfl (c1 rfl (c1 rfl c0)))) fun _ H=>JL.fzO (R:=(KR .i64)) (Om H) fun _ _ aF=>?_
       rotate_left
       focus
        refine Xe rfl rfl<|o_bs [.int _ _,.int _ _,.int _ _,.int _ _] (by decide) rfl fun _=>LT (KR .i64) 1 4 [1,(-1),2,1] (c1 rfl (c1 rfl (c1 rfl (c1 rfl c0)))) fun _ H=>JL.fzO (R:=(KR .i64)) (Om H) fun _ _ aF=>NE<|Do 1<|Xe rfl rfl<|oc (r26_Cell_fn ((Sls.nil (R:=(KR .i64)) (sz:=1) _)) ay) fun _ _ _ aq=>?_
        obtain ⟨_,rfl,_,_,_,rfl,aD⟩:=aq
       rotate_left
       all_goals
        refine NE<|Do 3<|Xe rfl rfl<|oc (r26_Cell_fn (Sm aF) bO) fun _ _ _ cL=>?_
        obtain ⟨_,rfl,_,_,_,rfl,b4⟩:=cL
        refine NE<|Do 4<|Xe rfl rfl<|o_bs [.int _ _,.int _ _,.slice _ _ _,.int _ _,.int _ _,.slice _ _ _,.int _ _,.int _ _,.slice _ _ _] (by decide) rfl fun _=>LT TCellR 3 3 [a,cZ,c4] (c3 ⟨_,_,_,rfl,Sm f⟩ (c3 ⟨_,_,_,rfl,Sm aD⟩ (c3 ⟨_,_,_,rfl,Sm b4⟩ c0))) fun _ bb=>NE<|Dc 5 rfl (aS rfl)<|Dd<|J.fzO (R:=TCellR) (Om bb) fun _ _ b5=>Jr ?_
        cases hm
        exact ret_ok (fn:=Tryz.f65) rfl (.tmp rfl .nil) (Sm b5)
     · refine jF rfl (dF Z)<|SR<|oq (q_eql rfl rfl)<|oq (aB rfl)<|N0<|iC hm (fun aa hm=>?_) fun aa hm=>?_
       · refine jT rfl (dT aa)<|SR<|oq (q_lda (vs:=[_,_,_]) rfl ii ⟨rfl,rfl,rfl,trivial⟩)<|oq (q_lda (vs:=[_,_,_]) rfl ii ⟨rfl,rfl,rfl,trivial⟩)<|o_bs [.int _ _,.int _ _,.slice _ _ _,.int _ _,.int _ _,.slice _ _ _] (by decide) rfl fun _=>LT TCellR 3 2 [a,D] (c3 ⟨_,_,_,rfl,Sm f⟩ (c3 ⟨_,_,_,rfl,Sm t⟩ c0)) fun _ bc=>oq (aS rfl)<|N0<|J.fzO (R:=TCellR) (Om bc) fun _ _ b6=>Jr ?_
         cases hm
         exact ret_ok (fn:=Tryz.f65) rfl (.tmp rfl .nil) (Sm b6)
       · refine jF rfl (dF aa)<|SR<|oq (q_eql rfl rfl)<|oq (aB rfl)<|N0<|iC hm (fun ab hm=>?_) fun ab hm=>?_
         · refine jT rfl (dT ab)<|SR<|oq (mS rfl)<|oq (aS rfl)<|N0<|J.fzO (R:=TCellR) (Om s) fun _ _ b7=>Jr ?_
           cases hm
           exact ret_ok (fn:=Tryz.f65) rfl (.tmp rfl .nil) (Sm b7)
         · refine jF rfl (dF ab)<|SR<|oq (q_eql rfl rfl)<|oq (aB rfl)<|N0<|iC hm (fun ac hm=>?_) fun ac hm=>?_
           · refine jT rfl (dT ac)<|Sq<|bE hm fun c5 bP hm=>bE hm fun _ bQ hm=>Rg<|oq (mS rfl)<|o_bs [.int _ _,.int _ _,.int _ _,.int _ _,.int _ _,.int _ _] (by decide) rfl fun _=>LT (KR .i64) 1 6 [4,1,5,1,6,1] (c1 rfl (c1 rfl (c1 rfl (c1 rfl (c1 rfl (c1 rfl c0)))))) fun _ bd=>JL.fzO (R:=(KR .i64)) (Om bd) fun _ _ b8=>oc (r26_Cell_fn (Sm b8) bP) fun _ _ _ cM=>?_
             obtain ⟨_,rfl,_,_,_,rfl,b9⟩:=cM
             refine o_bs [.int _ _,.int _ _,.slice _ _ _] (by decide) rfl fun _=>LT TCellR 3 1 [c5] (c3 ⟨_,_,_,rfl,Sm b9⟩ c0) fun a8 _=>o_appB (R:=TCellR) rfl rfl (Om s) ii a8 bQ fun _ _ _ be=>oq (aS rfl)<|N0<|J.fzO (R:=TCellR) (Om be) fun _ _ ca=>Jr ?_
             cases hm
             exact ret_ok (fn:=Tryz.f65) rfl (.tmp rfl .nil) (Sm ca)
           · refine jF rfl (dF ac)<|SR<|oq (q_eql rfl rfl)<|oq (aB rfl)<|N0<|iC hm (fun ad hm=>?_) fun ad hm=>?_
             · refine jT rfl (dT ad)<|Sq<|bE hm fun c6 bR hm=>J.drawB [j] []<|Dl 0 rfl (q_lda (vs:=[_,_,_]) rfl ii ⟨rfl,rfl,rfl,trivial⟩)<|Do 1<|Xe rfl rfl<|oc (r26_Cell_fn ((Sls.nil (R:=(KR .i64)) (sz:=1) _)) bR) fun _ _ _ cN=>?_
               obtain ⟨_,rfl,_,_,_,rfl,cb⟩:=cN
               refine NE<|Do 2<|Xe rfl rfl<|o_bs [.int _ _,.int _ _,.slice _ _ _,.int _ _,.int _ _,.slice _ _ _] (by decide) rfl fun _=>LT TCellR 3 2 [a,c6] (c3 ⟨_,_,_,rfl,Sm f⟩ (c3 ⟨_,_,_,rfl,Sm cb⟩ c0)) fun _ bf=>NE<|Dc 3 rfl (aS rfl)<|Dd<|J.fzO (R:=TCellR) (Om bf) fun _ _ cd=>Jr ?_
               cases hm
               exact ret_ok (fn:=Tryz.f65) rfl (.tmp rfl .nil) (Sm cd)
             · refine jF rfl (dF ad)<|SR<|oq (q_eql rfl rfl)<|oq (aB rfl)<|N0<|iC hm (fun ae hm=>?_) fun ae hm=>?_
               · refine jT rfl (dT ae)<|Sq<|bE hm fun c7 bS hm=>bE hm fun c8 bU hm=>J.drawB [j,E] []<|Dl 0 rfl (q_lda (vs:=[_,_,_]) rfl ii ⟨rfl,rfl,rfl,trivial⟩)<|Dl 1 rfl (q_lda (vs:=[_,_,_]) rfl ii ⟨rfl,rfl,rfl,trivial⟩)<|Do 2<|Xe rfl rfl<|oc (r26_Cell_fn ((Sls.nil (R:=(KR .i64)) (sz:=1) _)) bS) fun _ _ _ cO=>?_
                 obtain ⟨_,rfl,_,_,_,rfl,ce⟩:=cO
                 refine NE<|Do 3<|Xe rfl rfl<|oc (r26_Cell_fn ((Sls.nil (R:=(KR .i64)) (sz:=1) _)) bU) fun _ _ _ cP=>?_
                 obtain ⟨_,rfl,_,_,_,rfl,cf⟩:=cP
                 refine NE<|Do 4<|Xe rfl rfl<|o_bs [.int _ _,.int _ _,.slice _ _ _,.int _ _,.int _ _,.slice _ _ _,.int _ _,.int _ _,.slice _ _ _,.int _ _,.int _ _,.slice _ _ _] (by decide) rfl fun _=>LT TCellR 3 4 [a,D,c7,c8] (c3 ⟨_,_,_,rfl,Sm f⟩ (c3 ⟨_,_,_,rfl,Sm t⟩ (c3 ⟨_,_,_,rfl,Sm ce⟩ (c3 ⟨_,_,_,rfl,Sm cf⟩ c0)))) fun _ bg=>NE<|Dc 5 rfl (aS rfl)<|Dd<|J.fzO (R:=TCellR) (Om bg) fun _ _ cg=>Jr ?_
                 cases hm
                 exact ret_ok (fn:=Tryz.f65) rfl (.tmp rfl .nil) (Sm cg)
               · refine jF rfl (dF ae)<|SR<|oq (q_eql rfl rfl)<|oq (aB rfl)<|N0<|iC hm (fun af hm=>?_) fun af hm=>?_
                 · refine jT rfl (dT af)<|Sq<|bE hm fun c9 bV hm=>J.drawB [j,E] []<|Dl 0 rfl (q_lda (vs:=[_,_,_]) rfl ii ⟨rfl,rfl,rfl,trivial⟩)<|Dl 1 rfl (q_lda (vs:=[_,_,_]) rfl ii ⟨rfl,rfl,rfl,trivial⟩)<|Do 2<|Xe rfl rfl<|o_bs [.int _ _,.int _ _] (by decide) rfl fun _=>LT (KR .i64) 1 2 [2,2] (c1 rfl (c1 rfl c0)) fun _ bh=>JL.fzO (R:=(KR .i64)) (Om bh) fun _ _ ch=>NE<|Do 3<|Xe rfl rfl<|oc (r26_Cell_fn (Sm ch) bV) fun _ _ _ cQ=>?_
                   obtain ⟨_,rfl,_,_,_,rfl,ci⟩:=cQ
                   refine NE<|Do 4<|Xe rfl rfl<|o_bs [.int _ _,.int _ _,.slice _ _ _,.int _ _,.int _ _,.slice _ _ _,.int _ _,.int _ _,.slice _ _ _] (by decide) rfl fun _=>LT TCellR 3 3 [a,D,c9] (c3 ⟨_,_,_,rfl,Sm f⟩ (c3 ⟨_,_,_,rfl,Sm t⟩ (c3 ⟨_,_,_,rfl,Sm ci⟩ c0))) fun _ bi=>NE<|Dc 5 rfl (aS rfl)<|Dd<|J.fzO (R:=TCellR) (Om bi) fun _ _ cj=>Jr ?_
                   cases hm
                   exact ret_ok (fn:=Tryz.f65) rfl (.tmp rfl .nil) (Sm cj)
                 · refine jF rfl (dF af)<|SR<|oq (q_eql rfl rfl)<|oq (aB rfl)<|N0<|iC hm (fun ag hm=>?_) fun ag hm=>?_
                   · refine jT rfl (dT ag)<|Sq<|bE hm fun da az hm=>bE hm fun db bW hm=>J.drawB [j,E] []<|Dl 0 rfl (q_lda (vs:=[_,_,_]) rfl ii ⟨rfl,rfl,rfl,trivial⟩)<|Dl 1 rfl (q_lda (vs:=[_,_,_]) rfl ii ⟨rfl,rfl,rfl,trivial⟩) ?_
                     refine Da [2,3] ⟨?_,?_,trivial⟩
                     focus
                      refine Xe rfl rfl<|oc (r26_Cell_fn ((Sls.nil (R:=(KR .i64)) (sz:=1) _)) az) fun _ _ _ ar=>?_
                      obtain ⟨_,rfl,_,_,_,rfl,aG⟩:=ar
                      refine NE<|Do 3<|Xe rfl rfl<|o_bs [.int _ _,.int _ _] (by decide) rfl fun _=>LT (KR .i64) 1 2 [2,2] (c1 rfl (c1 rfl c0)) fun _ I=>JL.fzO (R:=(KR .i64)) (Om I) fun _ _ aH=>?_
                     rotate_left
                     focus
                      refine Xe rfl rfl<|o_bs [.int _ _,.int _ _] (by decide) rfl fun _=>LT (KR .i64) 1 2 [2,2] (c1 rfl (c1 rfl c0)) fun _ I=>JL.fzO (R:=(KR .i64)) (Om I) fun _ _ aH=>NE<|Do 2<|Xe rfl rfl<|oc (r26_Cell_fn ((Sls.nil (R:=(KR .i64)) (sz:=1) _)) az) fun _ _ _ ar=>?_
                      obtain ⟨_,rfl,_,_,_,rfl,aG⟩:=ar
                     rotate_left
                     all_goals
                      refine NE<|Do 4<|Xe rfl rfl<|oc (r26_Cell_fn (Sm aH) bW) fun _ _ _ cR=>?_
                      obtain ⟨_,rfl,_,_,_,rfl,ck⟩:=cR
                      refine NE<|Do 5<|Xe rfl rfl<|o_bs [.int _ _,.int _ _,.slice _ _ _,.int _ _,.int _ _,.slice _ _ _,.int _ _,.int _ _,.slice _ _ _,.int _ _,.int _ _,.slice _ _ _] (by decide) rfl fun _=>LT TCellR 3 4 [a,D,da,db] (c3 ⟨_,_,_,rfl,Sm f⟩ (c3 ⟨_,_,_,rfl,Sm t⟩ (c3 ⟨_,_,_,rfl,Sm aG⟩ (c3 ⟨_,_,_,rfl,Sm ck⟩ c0)))) fun _ bj=>NE<|Dc 6 rfl (aS rfl)<|Dd<|J.fzO (R:=TCellR) (Om bj) fun _ _ cl=>Jr ?_
                      cases hm
                      exact ret_ok (fn:=Tryz.f65) rfl (.tmp rfl .nil) (Sm cl)
                   · refine jF rfl (dF ag)<|SR<|oq (q_eql rfl rfl)<|oq (aB rfl)<|N0<|iC hm (fun ah hm=>?_) fun ah hm=>?_
                     · refine jT rfl (dT ah)<|Sq<|bE hm fun dc bX hm=>bE hm fun dd bY hm=>J.drawB [j,E] []<|Dl 0 rfl (q_lda (vs:=[_,_,_]) rfl ii ⟨rfl,rfl,rfl,trivial⟩)<|Dl 1 rfl (q_lda (vs:=[_,_,_]) rfl ii ⟨rfl,rfl,rfl,trivial⟩)<|Do 2<|Xe rfl rfl<|o_bs [.int _ _,.int _ _] (by decide) rfl fun _=>LT (KR .i64) 1 2 [2,3] (c1 rfl (c1 rfl c0)) fun _ bk=>JL.fzO (R:=(KR .i64)) (Om bk) fun _ _ cm=>NE<|Do 3<|Xe rfl rfl<|oc (r26_Cell_fn (Sm cm) bX) fun _ _ _ cS=>?_
                       obtain ⟨_,rfl,_,_,_,rfl,cn⟩:=cS
                       refine NE<|Do 4<|Xe rfl rfl<|oc (r26_Cell_fn ((Sls.nil (R:=(KR .i64)) (sz:=1) _)) bY) fun _ _ _ cT=>?_
                       obtain ⟨_,rfl,_,_,_,rfl,co⟩:=cT
                       refine NE<|Do 5<|Xe rfl rfl<|o_bs [.int _ _,.int _ _,.slice _ _ _,.int _ _,.int _ _,.slice _ _ _,.int _ _,.int _ _,.slice _ _ _,.int _ _,.int _ _,.slice _ _ _] (by decide) rfl fun _=>LT TCellR 3 4 [a,D,dc,dd] (c3 ⟨_,_,_,rfl,Sm f⟩ (c3 ⟨_,_,_,rfl,Sm t⟩ (c3 ⟨_,_,_,rfl,Sm cn⟩ (c3 ⟨_,_,_,rfl,Sm co⟩ c0)))) fun _ bl=>NE<|Dc 6 rfl (aS rfl)<|Dd<|J.fzO (R:=TCellR) (Om bl) fun _ _ cp=>Jr ?_
                       cases hm
                       exact ret_ok (fn:=Tryz.f65) rfl (.tmp rfl .nil) (Sm cp)
                     · refine jF rfl (dF ah)<|SR<|oq (q_eql rfl rfl)<|oq (aB rfl)<|N0<|iC hm (fun ai hm=>?_) fun ai hm=>?_
                       · refine jT rfl (dT ai)<|Sq<|bE hm fun de ak hm=>bE hm fun df bZ hm=>J.drawB [j,E] []<|Dl 0 rfl (q_lda (vs:=[_,_,_]) rfl ii ⟨rfl,rfl,rfl,trivial⟩)<|Dl 1 rfl (q_lda (vs:=[_,_,_]) rfl ii ⟨rfl,rfl,rfl,trivial⟩) ?_
                         refine Da [2,4] ⟨?_,?_,trivial⟩
                         focus
                          refine Xe rfl rfl<|o_bs [.int _ _,.int _ _] (by decide) rfl fun _=>LT (KR .i64) 1 2 [2,4] (c1 rfl (c1 rfl c0)) fun _ K=>JL.fzO (R:=(KR .i64)) (Om K) fun _ _ G=>NE ?_
                          refine Da [3,4] ⟨?_,?_,trivial⟩
                          focus
                           refine Xe rfl rfl<|oc (r26_Cell_fn (Sm G) ak) fun _ _ _ A=>?_
                           obtain ⟨_,rfl,_,_,_,rfl,am⟩:=A
                           refine NE<|Do 4<|Xe rfl rfl<|o_bs [.int _ _,.int _ _] (by decide) rfl fun _=>LT (KR .i64) 1 2 [2,6] (c1 rfl (c1 rfl c0)) fun _ k=>JL.fzO (R:=(KR .i64)) (Om k) fun _ _ an=>?_
                          rotate_left
                          focus
                           refine Xe rfl rfl<|o_bs [.int _ _,.int _ _] (by decide) rfl fun _=>LT (KR .i64) 1 2 [2,6] (c1 rfl (c1 rfl c0)) fun _ k=>JL.fzO (R:=(KR .i64)) (Om k) fun _ _ an=>NE<|Do 3<|Xe rfl rfl<|oc (r26_Cell_fn (Sm G) ak) fun _ _ _ A=>?_
                           obtain ⟨_,rfl,_,_,_,rfl,am⟩:=A
                          rotate_left
                         rotate_left 2
                         focus
                          refine Xe rfl rfl<|o_bs [.int _ _,.int _ _] (by decide) rfl fun _=>LT (KR .i64) 1 2 [2,6] (c1 rfl (c1 rfl c0)) fun _ k=>JL.fzO (R:=(KR .i64)) (Om k) fun _ _ an=>NE<|Do 2<|Xe rfl rfl<|o_bs [.int _ _,.int _ _] (by decide) rfl fun _=>LT (KR .i64) 1 2 [2,4] (c1 rfl (c1 rfl c0)) fun _ K=>JL.fzO (R:=(KR .i64)) (Om K) fun _ _ G=>NE<|Do 3<|Xe rfl rfl<|oc (r26_Cell_fn (Sm G) ak) fun _ _ _ A=>?_
                          obtain ⟨_,rfl,_,_,_,rfl,am⟩:=A
                         rotate_left
                         all_goals
                          refine NE<|Do 5<|Xe rfl rfl<|oc (r26_Cell_fn (Sm an) bZ) fun _ _ _ cU=>?_
                          obtain ⟨_,rfl,_,_,_,rfl,cq⟩:=cU
                          refine NE<|Do 6<|Xe rfl rfl<|o_bs [.int _ _,.int _ _,.slice _ _ _,.int _ _,.int _ _,.slice _ _ _,.int _ _,.int _ _,.slice _ _ _,.int _ _,.int _ _,.slice _ _ _] (by decide) rfl fun _=>LT TCellR 3 4 [a,D,de,df] (c3 ⟨_,_,_,rfl,Sm f⟩ (c3 ⟨_,_,_,rfl,Sm t⟩ (c3 ⟨_,_,_,rfl,Sm am⟩ (c3 ⟨_,_,_,rfl,Sm cq⟩ c0)))) fun _ bm=>NE<|Dc 7 rfl (aS rfl)<|Dd<|J.fzO (R:=TCellR) (Om bm) fun _ _ cr=>Jr ?_
                          cases hm
                          exact ret_ok (fn:=Tryz.f65) rfl (.tmp rfl .nil) (Sm cr)
                       · refine jF rfl (dF ai)<|SR<|oq (q_eql rfl rfl)<|oq (aB rfl)<|N0<|iC hm (fun aj hm=>?_) fun aj hm=>?_
                         · refine jT rfl (dT aj)<|Sq<|bE hm fun dg aA hm=>bE hm fun dh al hm=>bE hm fun di b0 hm=>J.drawB [j,E] []<|Dl 0 rfl (q_lda (vs:=[_,_,_]) rfl ii ⟨rfl,rfl,rfl,trivial⟩)<|Dl 1 rfl (q_lda (vs:=[_,_,_]) rfl ii ⟨rfl,rfl,rfl,trivial⟩) ?_
                           refine Da [2,4] ⟨?_,?_,trivial⟩
                           focus
                            refine Xe rfl rfl<|oc (r26_Cell_fn ((Sls.nil (R:=(KR .i64)) (sz:=1) _)) aA) fun _ _ _ au=>?_
                            obtain ⟨_,rfl,_,_,_,rfl,aJ⟩:=au
                            refine NE ?_
                            refine Da [3,4] ⟨?_,?_,trivial⟩
                            focus
                             refine Xe rfl rfl<|oc (r26_Cell_fn ((Sls.nil (R:=(KR .i64)) (sz:=1) _)) al) fun _ _ _ B=>?_
                             obtain ⟨_,rfl,_,_,_,rfl,ao⟩:=B
                             refine NE<|Do 4<|Xe rfl rfl<|o_bs [.int _ _,.int _ _] (by decide) rfl fun _=>LT (KR .i64) 1 2 [5,2] (c1 rfl (c1 rfl c0)) fun _ l=>JL.fzO (R:=(KR .i64)) (Om l) fun _ _ ap=>?_
                            rotate_left
                            focus
                             refine Xe rfl rfl<|o_bs [.int _ _,.int _ _] (by decide) rfl fun _=>LT (KR .i64) 1 2 [5,2] (c1 rfl (c1 rfl c0)) fun _ l=>JL.fzO (R:=(KR .i64)) (Om l) fun _ _ ap=>NE<|Do 3<|Xe rfl rfl<|oc (r26_Cell_fn ((Sls.nil (R:=(KR .i64)) (sz:=1) _)) al) fun _ _ _ B=>?_
                             obtain ⟨_,rfl,_,_,_,rfl,ao⟩:=B
                            rotate_left
                           rotate_left 2
                           focus
                            refine Xe rfl rfl<|o_bs [.int _ _,.int _ _] (by decide) rfl fun _=>LT (KR .i64) 1 2 [5,2] (c1 rfl (c1 rfl c0)) fun _ l=>JL.fzO (R:=(KR .i64)) (Om l) fun _ _ ap=>NE<|Do 2<|Xe rfl rfl<|oc (r26_Cell_fn ((Sls.nil (R:=(KR .i64)) (sz:=1) _)) aA) fun _ _ _ au=>?_
                            obtain ⟨_,rfl,_,_,_,rfl,aJ⟩:=au
                            refine NE<|Do 3<|Xe rfl rfl<|oc (r26_Cell_fn ((Sls.nil (R:=(KR .i64)) (sz:=1) _)) al) fun _ _ _ B=>?_
                            obtain ⟨_,rfl,_,_,_,rfl,ao⟩:=B
                           rotate_left
                           all_goals
                            refine NE<|Do 5<|Xe rfl rfl<|oc (r26_Cell_fn (Sm ap) b0) fun _ _ _ cV=>?_
                            obtain ⟨_,rfl,_,_,_,rfl,cs⟩:=cV
                            refine NE<|Do 6<|Xe rfl rfl<|o_bs [.int _ _,.int _ _,.slice _ _ _,.int _ _,.int _ _,.slice _ _ _,.int _ _,.int _ _,.slice _ _ _,.int _ _,.int _ _,.slice _ _ _,.int _ _,.int _ _,.slice _ _ _] (by decide) rfl fun _=>LT TCellR 3 5 [a,D,dg,dh,di] (c3 ⟨_,_,_,rfl,Sm f⟩ (c3 ⟨_,_,_,rfl,Sm t⟩ (c3 ⟨_,_,_,rfl,Sm aJ⟩ (c3 ⟨_,_,_,rfl,Sm ao⟩ (c3 ⟨_,_,_,rfl,Sm cs⟩ c0))))) fun _ bn=>NE<|Dc 7 rfl (aS rfl)<|Dd<|J.fzO (R:=TCellR) (Om bn) fun _ _ ct=>Jr ?_
                            cases hm
                            exact ret_ok (fn:=Tryz.f65) rfl (.tmp rfl .nil) (Sm ct)
                         · refine jF rfl (dF aj)<|Js<|SR<|oq (aS rfl)<|N0<|Jr ?_
                           cases hm
                           exact ret_ok (fn:=Tryz.f65) rfl (.tmp rfl .nil) ((Sls.nil (R:=TCellR) (sz:=3) _))
theorem r26_Cycles_fn {h:Heap} {x0:List TCell} {x1:Int} {v0:Value} (r0:Sls TCellR 3 h v0 x0) {r:List (List TFace)} (hm:M.r26_Cycles x0 x1=some r) :
    Fn Tryz.prog 105 #[v0,.int .i64 x1] h fun v h'=>Sls (LR TFaceR 3) 1 h' v r:=by
 obtain ⟨_,_,_,rfl,s⟩:=r0.op3
 refine Fn.intro (args:=[_,_]) Tryz.func105 rfl rfl (lB rfl) fun w=>?_
 unfold M.r26_Cycles at hm
 refine SR<|oq (aS rfl)<|N0<|SR<|o_bs [] (by decide) rfl fun q=>LT (LR TFaceR 3) 1 0 ([]:List (List TFace)) c0 fun _ m=>oq (aS rfl)<|N0<|Sq<|SR<|oq (mI rfl)<|oq (q_lss rfl rfl)<|N0<|iC hm (fun j hm=>?_) fun j hm=>?_
 · refine jT rfl (dT j)<|SR<|oq (mS rfl)<|oq (aS rfl)<|N0<|J.fzO (R:=(LR TFaceR 3)) (Om m) fun _ _ O=>Jr ?_
   cases hm
   exact ret_ok (fn:=Tryz.f105) rfl (.tmp rfl .nil) (Sm O)
 · refine jF rfl (dF j)<|Js<|Sq<|bE hm fun aa I hm=>bE hm fun b K hm=>Rg<|oq (mS rfl)<|oq (mI rfl)<|oc (r25_Boundary_fn (Sm s) I) fun _ _ _ X=>?_
   obtain ⟨_,rfl,_,_,_,rfl,P⟩:=X
   refine oc (r15_Left_fn (x0:=aa) ⟨_,rfl,⟨_,_,_,rfl,Sm P⟩⟩ K) fun _ _ _ Y=>?_
   obtain ⟨_,rfl,V,U,G,rfl,k⟩:=Y
   refine o_al fun F=>Sc [.int _ _,.int _ _,.slice _ _ _] [.int _ _,.int _ _,.slice _ _ _] rfl rfl rfl rfl rfl ia rfl rfl<|N0<|Sq<|SR<|oq (aI rfl)<|N0<|Jb ?_
   obtain ⟨_,hm⟩:=rngN_some hm
   refine J.loopK (α:=Int×(List (List TFace))×(Option Addr)×Nat×Nat×Own) (fun ⟨a,i,g,f,d,c⟩ h' L'=>OwnL (LR TFaceR 3) 45 1 h' (.slice g f d) i c∧0≤a∧forN (M.r26_Cycles_b1 x0 x1 b) M.r26_Cycles_k1 b.Rows a i=some r∧Sp (c++([(F,row 163 [.int .i64 b.Rows,.int .i64 b.Cols,.slice V U G])])) L') [(0,.slice _ _ _),(1,.int _ _),(6,.pointer _)] ⟨rfl,rfl,rfl,trivial⟩ (fun ⟨a,i,g,f,d,c⟩=>[(5,.slice g f d),(7,.int .i64 a)]) (fun ⟨a,i,g,f,d,c⟩=>(b.Rows-a).toNat) ⟨0,([]:List (List TFace)),(some ⟨q,0,none⟩),0,0,[(q,row 45 [])]⟩ ⟨(Om m),Int.le_refl _,hm,ii⟩ ⟨rfl,rfl,trivial⟩ ?_
   rintro ⟨a,i,g,f,d,c⟩ _ _ _ _ ⟨t,o,hm,n⟩
   refine J.sp n<|Sq<|SR<|oq (mI rfl)<|oq (q_fa rfl)<|oq (q_ld rfl ia rfl)<|oq (q_lss rfl rfl)<|N0 ?_
   by_cases e:a<b.Rows
   · obtain ⟨_,hm,C⟩:=forN_lt e hm
     unfold M.r26_Cycles_b1 at hm
     refine jT rfl (dT e) ?_
     have T:-9223372036854775808≤a+1∧a+1≤9223372036854775807:=by omega
     refine Js<|Sq<|Jb<|nE hm fun _ _ B l D hm=>?_
     obtain ⟨_,_,rfl⟩:=Sls.op k l
     refine aE k D fun _ z y=>?_
     obtain ⟨_,_,_,rfl,Q⟩:=y
     refine bE hm fun ab L hm=>bE hm fun u N hm=>Rg<|oq (mS rfl)<|oq (mS rfl)<|oq (mI rfl)<|oq (q_fa rfl)<|oq (q_ld rfl ia rfl)<|oq (mI rfl)<|oq (q_ian rfl rfl B (ln k l))<|oq (q_ldf rfl z)<|oc (r26_Of_fn (Sm s) (Sm Q) L) fun _ _ _ Z=>?_
     obtain ⟨_,_,_,rfl,S⟩:=Z.op3
     refine o_bs [.slice _ _ _] (by decide) rfl fun _=>LT (LR TFaceR 3) 1 1 [ab] (c1 ⟨_,_,_,rfl,Sm S⟩ c0) fun A _=>o_appB (R:=(LR TFaceR 3)) rfl rfl (Om t) ii A N fun W H E p=>oq (aS rfl)<|N0<|Rg<|oq (mI rfl)<|oq (q_add rfl rfl (wi64 T))<|oq (aI rfl)<|N0<|have hm:=inl_onward hm C; ?_
     exact ⟨⟨a+1,u,W,u.length,H,E⟩,rfl,⟨rfl,rfl,rfl,trivial⟩,⟨rfl,rfl,trivial⟩,⟨(Om p),Int.le_trans o (Int.le_of_lt (Int.lt_succ _)),hm,ii⟩,(muN e),ii⟩
   · replace hm:=forN_ge e hm
     unfold M.r26_Cycles_k1 at hm
     refine jF rfl (dF e)<|Jx<|SR<|oq (mS rfl)<|oq (aS rfl)<|N0<|J.fzO (R:=(LR TFaceR 3)) (Om t) fun _ _ x=>Jr ?_
     cases hm
     exact ret_ok (fn:=Tryz.f105) rfl (.tmp rfl .nil) (Sm x)
theorem r26_Grown_fn {h:Heap} {x0:List TCell} {x1:Int×Int×Int×Int} {v0:Value} {v1:Value} (r0:Sls TCellR 3 h v0 x0) (r1:AggV A4Int8R h v1 x1) {r:List TCell} (hm:M.r26_Grown x0 x1=some r) :
    Fn Tryz.prog 66 #[v0,v1] h fun v h'=>Sls TCellR 3 h' v r:=by
 obtain ⟨aJ,V,S,rfl,b⟩:=r0.op3
 obtain ⟨_,rfl,r1q⟩:=r1
 cases r1q
 refine Fn.intro (args:=[_,_]) Tryz.func66 rfl rfl (lB rfl) fun w=>?_
 unfold M.r26_Grown at hm
 refine SR<|o_bx (v:=.agg ⟨[.int _ _,.int _ _,.int _ _,.int _ _]⟩) rfl rfl fun x=>oq (aS rfl)<|N0<|Sq<|kS hm fun aC hm=>Rg<|oq (q_jan (i:=0) rfl rfl rfl (by decide))<|oq (q_ld rfl ia rfl)<|oq (q_cv rfl (GoWrap.u8_eq _))<|oq (q_rem rfl rfl (by decide) rfl)<|oq (q_cv rfl (wi64 aC))<|o_bs [] (by decide) rfl fun au=>LT TFaceR 3 0 ([]:List TFace) c0 fun _ ai=>oq (aI rfl)<|oq (aS rfl)<|oq (aI rfl)<|N0<|Sq<|kS hm fun aD hm=>bE hm fun A av hm=>Rg<|oq (mS rfl)<|oq (mI rfl)<|oq (q_sub rfl rfl (wi64 aD))<|oc (r26_Cycles_fn (Sm b) av) fun _ _ _ aL=>?_
 obtain ⟨_,_,_,rfl,p⟩:=aL.op3
 refine oq (aS rfl)<|N0<|Sq<|SR<|oq (aI rfl)<|N0<|Jb<|J.fzO (R:=TFaceR) (Om ai) fun _ _ ay=>?_
 replace hm:=(show iter _ fuel _=some _ from hm)
 refine J.loopK (α:=Nat×(List TFace)×Int×(Option Addr)×Nat×Nat) (fun ⟨q,c,d,t,s,o⟩ h' L'=>Sls TFaceR 3 h' (.slice t s o) c∧iter (M.r26_Grown_b3 x0 x1 A) q (c,d)=some r∧Sp ([(x,row 88 [.int .i8 x1.1,.int .i8 x1.2.1,.int .i8 x1.2.2.1,.int .i8 x1.2.2.2])]) L') [(0,.slice _ _ _),(3,.pointer _),(5,.int _ _),(7,.int _ _),(8,.slice _ _ _)] ⟨rfl,rfl,rfl,rfl,rfl,trivial⟩ (fun ⟨q,c,d,t,s,o⟩=>[(6,.slice t s o),(9,.int .i64 d)]) (fun ⟨q,c,d,t,s,o⟩=>q) ⟨fuel,([]:List TFace),0,(some ⟨au,0,none⟩),0,0⟩ ⟨(Sm ay),hm,ii⟩ ⟨rfl,rfl,trivial⟩ ?_
 rintro ⟨q,c,d,t,s,o⟩ _ _ _ _ ⟨T,hm,F⟩
 refine J.sp F ?_
 obtain ⟨aG,aH,rfl,hm,D⟩:=iter_some hm
 unfold M.r26_Grown_b3 at hm
 refine Sq<|Sq ?_
 refine J.joinK (α:=Bool) (fun z h' L'=>(M.r26_Grown_j2 x0 x1 A c d) z=some aH∧Sp ([(x,row 88 [.int .i8 x1.1,.int .i8 x1.2.1,.int .i8 x1.2.2.1,.int .i8 x1.2.2.2])]) L') [(0,.slice _ _ _),(3,.pointer _),(5,.int _ _),(6,.slice _ _ _),(7,.int _ _),(8,.slice _ _ _),(9,.int _ _)] ⟨rfl,rfl,rfl,rfl,rfl,rfl,rfl,trivial⟩ (fun z=>[(28,.bool z)]) ?_ ?_
 · refine iC hm (fun a hm=>?_) fun a hm=>?_
   · refine Rg<|oq (mI rfl)<|oq (mS rfl)<|oq (q_lenE (k:=A.length) rfl (Sls.len p))<|oq (q_lss rfl rfl)<|oq (mB rfl)<|gT rfl rfl (dT a)<|oq (mI rfl)<|gT rfl rfl (dT a)<|oq (q_lss rfl rfl)<|oq (pkT rfl (dT a) rfl)<|N0 ?_
     exact ⟨(decide (d<3)),rfl,⟨rfl,rfl,rfl,rfl,rfl,rfl,rfl,trivial⟩,⟨rfl,trivial⟩,⟨hm,ii⟩,ii⟩
   · refine Rg<|oq (mI rfl)<|oq (mS rfl)<|oq (q_lenE (k:=A.length) rfl (Sls.len p))<|oq (q_lss rfl rfl)<|oq (mB rfl)<|gF rfl rfl (dF a)<|gF rfl rfl (dF a)<|oq (pkF rfl (dF a) rfl)<|N0 ?_
     exact ⟨false,rfl,⟨rfl,rfl,rfl,rfl,rfl,rfl,rfl,trivial⟩,⟨rfl,trivial⟩,⟨hm,ii⟩,ii⟩
 · rintro z _ _ _ _ ⟨hm,G⟩
   refine J.sp G ?_
   unfold M.r26_Grown_j2 at hm
   refine iC hm (fun C hm=>?_) fun C hm=>?_
   · refine jT rfl C<|Js<|Sq<|Jb<|nE hm fun _ _ af E aj hm=>?_
     obtain ⟨_,_,rfl⟩:=Sls.op p E
     refine aE p aj fun _ ae ad=>?_
     obtain ⟨_,_,_,rfl,az⟩:=ad
     refine kS hm fun U hm=>nE hm fun _ _ ag ah ak hm=>kS hm fun aF hm=>bE hm fun _ aw hm=>bE hm fun aO ax hm=>J.drawB [x] []<|Dc 0 rfl (mS rfl)<|Dc 1 rfl (mS rfl)<|Dc 2 rfl (mI rfl)<|Dc 3 rfl (q_ian rfl rfl af (ln p E))<|Dl 4 rfl (q_ldf rfl ae)<|Dc 5 rfl (mI rfl)<|Dc 6 rfl (q_add rfl rfl (wi64 U))<|Dc 7 rfl (q_jan rfl rfl ag ah)<|Dl 8 rfl (q_ld (l:=[.int .i8 x1.1,.int .i8 x1.2.1,.int .i8 x1.2.2.1,.int .i8 x1.2.2.2]) rfl ii (arr_get ak))<|Dc 9 rfl (q_rem rfl rfl (by decide) rfl)<|Dc 10 rfl (q_cv rfl (wi64 aF))<|Do 11<|Xe rfl rfl<|oc (rof_fn aw) fun _ _ _ aM=>?_
     obtain ⟨_,_,_,_,rfl,aA⟩:=aM.op
     refine NE<|Do 12<|Xe rfl rfl<|oc (r26_Add_fn (Sm T) (Sm az) (iu aA) ax) fun _ _ _ aN=>?_
     obtain ⟨aK,ap,X,rfl,aa⟩:=aN.op3
     refine NE<|Dc 13 rfl (aS rfl)<|Dd<|Rg<|oq (mI rfl)<|oq (q_add rfl rfl (wi64 U))<|oq (aI rfl)<|N0<|have hm:=inl_onward hm D; ?_
     exact ⟨⟨aG,aO,d+1,aK,ap,X⟩,rfl,⟨rfl,rfl,rfl,rfl,rfl,trivial⟩,⟨rfl,rfl,trivial⟩,⟨(Sm aa),hm,ii⟩,(Nat.lt_succ_self _),ii⟩
   · refine jF rfl (nT C)<|Jx<|have hm:=inr_onward hm D; Sq ?_
     refine J.joinK (α:=(List TCell)×Int×(Option Addr)×Nat×Nat) (fun ⟨n,e,m,g,f⟩ h' L'=>Sls TCellR 3 h' (.slice m g f) n∧(M.r26_Grown_j1 x1 c) n e=some r∧Sp ([]) L') [(5,.int _ _),(6,.slice _ _ _)] ⟨rfl,rfl,trivial⟩ (fun ⟨n,e,m,g,f⟩=>[(0,.slice m g f),(7,.int .i64 e)]) ?_ ?_
     · refine SR<|oq (mS rfl)<|oq (q_lenE (k:=x0.length) rfl (Sls.len b))<|oq (q_gtr rfl rfl)<|N0<|iC hm (fun u hm=>?_) fun u hm=>?_
       · refine jT rfl (dT u)<|kS hm fun al hm=>nE hm fun _ ar L y Q hm=>?_
         obtain ⟨W,aq,rfl⟩:=Sls.op b y
         refine aE b Q fun _ K H=>?_
         obtain ⟨_,_,_,rfl,_⟩:=H
         refine kS hm fun am hm=>kS hm fun an hm=>kS hm fun ao hm=>J.drawB [x] []<|Dc 0 rfl (mS rfl)<|Dc 1 rfl (mS rfl)<|Dc 2 rfl (q_lenE (k:=x0.length) rfl (Sls.len b))<|Dc 3 rfl (q_sub rfl rfl (wi64 al))<|Dc 4 rfl (q_ian rfl rfl L (ln b y))<|Dc 5 rfl (q_fa rfl)<|Dl 6 rfl (q_ldf rfl (K.cell (j:=0) rfl))<|Dc 7 rfl (q_add rfl rfl (wi64 am))<|Dc 8 rfl (q_jan (i:=0) rfl rfl rfl (by decide))<|Dl 9 rfl (q_ld rfl ii rfl)<|Dc 10 rfl (q_cv rfl (GoWrap.u8_eq _))<|Dc 11 rfl (q_quo rfl rfl (by decide) (GoWrap.u8_eq _))<|Dc 12 rfl (q_cv rfl (wi64 an))<|Dc 13 rfl (q_add rfl rfl (wi64 ao))<|Dc 14 rfl (aI rfl)<|Dd ?_
         exact ⟨⟨x0,(ar.ID+1)+(GoWrap.u8 (Int.tdiv (GoWrap.u8 x1.1) 128)),(some ⟨W,aq,none⟩),V,S⟩,rfl,⟨rfl,rfl,trivial⟩,⟨rfl,rfl,trivial⟩,⟨(Sm b),hm,ii⟩,ii⟩
       · refine jF rfl (dF u)<|Js ?_
         exact ⟨⟨x0,1,aJ,V,S⟩,rfl,⟨rfl,rfl,trivial⟩,⟨rfl,rfl,trivial⟩,⟨(Sm b),hm,ii⟩,ii⟩
     · rintro ⟨n,e,m,g,f⟩ _ _ _ _ ⟨ab,hm,B⟩
       refine J.sp B ?_
       unfold M.r26_Grown_j1 at hm
       refine Sq<|bE hm fun _ Y hm=>Rg<|o_bs [] (by decide) rfl fun _=>LT TCellR 3 0 ([]:List TCell) c0 fun _ N=>oq (mS rfl)<|o_appO (R:=TCellR) rfl rfl (Om N) ab Y fun _ _ _ O=>oq (aS rfl)<|N0<|Sq<|bE hm fun _ Z hm=>Rg<|oq (mS rfl)<|oq (mI rfl)<|oq (mI rfl)<|oq (mS rfl)<|oq (q_bd [.int _ _,.int _ _,.slice _ _ _] rfl) ?_
       refine o_bs [.int _ _,.int _ _,.slice _ _ _] (by decide) rfl fun _=>LT TCellR 3 1 [(TCell.mk e (Int.tmod (GoWrap.u8 x1.1) 4) c)] (c3 ⟨_,_,_,rfl,Sm T⟩ c0) fun I _=>o_appB (R:=TCellR) rfl rfl (Om O) ii I Z fun _ _ _ P=>oq (aS rfl)<|N0<|J.fzO (R:=TCellR) (Om P) fun _ _ ac=>Jr ?_
       cases hm
       exact ret_ok (fn:=Tryz.f66) rfl (.tmp rfl .nil) (Sm ac)
theorem r26_Made_fn {h:Heap} {x0:R26Raw} {v0:Value} (r0:AggV R26RawR h v0 x0) {r:List TCell} (hm:M.r26_Made x0=some r) :
    Fn Tryz.prog 16 #[v0] h fun v h'=>Sls TCellR 3 h' v r:=by
 obtain ⟨_,rfl,y,x,t,rfl,e⟩:=r0
 refine Fn.intro (args:=[_]) Tryz.func16 rfl rfl (lB rfl) fun w=>?_
 unfold M.r26_Made at hm
 refine SR<|o_bx (v:=.agg ⟨[.int _ _,.slice _ _ _]⟩) rfl rfl fun s=>oq (aS rfl)<|N0<|Sq<|bE hm fun W F hm=>Rg<|oq (q_fa rfl)<|oq (q_ld rfl ia rfl)<|oc (r26_Space_fn F) fun _ _ _ U=>?_
 obtain ⟨R,O,D,rfl,H⟩:=U.op3
 refine oq (aS rfl)<|N0<|Sq<|SR<|oq (aI rfl)<|N0<|Jb ?_
 replace hm:=(show iter _ fuel _=some _ from hm)
 refine J.loopK (α:=Nat×(List TCell)×Int×(Option Addr)×Nat×Nat) (fun ⟨f,c,a,i,g,d⟩ h' L'=>Sls TCellR 3 h' (.slice i g d) c∧iter (M.r26_Made_b2 x0) f (c,a)=some r∧Sp ([(s,row 24 [.int .u8 x0.S,.slice y x t])]) L') [(1,.pointer _)] ⟨rfl,trivial⟩ (fun ⟨f,c,a,i,g,d⟩=>[(3,.slice i g d),(4,.int .i64 a)]) (fun ⟨f,c,a,i,g,d⟩=>f) ⟨fuel,W,0,R,O,D⟩ ⟨(Sm H),hm,ii⟩ ⟨rfl,rfl,trivial⟩ ?_
 rintro ⟨f,c,a,i,g,d⟩ _ _ _ _ ⟨u,hm,p⟩
 refine J.sp p ?_
 obtain ⟨N,Q,rfl,hm,n⟩:=iter_some hm
 unfold M.r26_Made_b2 at hm
 refine Sq<|Sq ?_
 refine J.joinK (α:=Bool) (fun j h' L'=>(M.r26_Made_j1 x0 c a) j=some Q∧Sp ([(s,row 24 [.int .u8 x0.S,.slice y x t])]) L') [(1,.pointer _),(3,.slice _ _ _),(4,.int _ _)] ⟨rfl,rfl,rfl,trivial⟩ (fun j=>[(16,.bool j)]) ?_ ?_
 · refine iC hm (fun b hm=>?_) fun b hm=>?_
   · refine Rg<|oq (mI rfl)<|oq (q_fa rfl)<|oq (q_ld rfl ia rfl)<|oq (q_lenE (k:=x0.L.length) rfl (Sls.len e))<|oq (q_lss rfl rfl)<|oq (mB rfl)<|gT rfl rfl (dT b)<|oq (mI rfl)<|gT rfl rfl (dT b)<|oq (q_lss rfl rfl)<|oq (pkT rfl (dT b) rfl)<|N0 ?_
     exact ⟨(decide (a<4)),rfl,⟨rfl,rfl,rfl,trivial⟩,⟨rfl,trivial⟩,⟨hm,ii⟩,ii⟩
   · refine Rg<|oq (mI rfl)<|oq (q_fa rfl)<|oq (q_ld rfl ia rfl)<|oq (q_lenE (k:=x0.L.length) rfl (Sls.len e))<|oq (q_lss rfl rfl)<|oq (mB rfl)<|gF rfl rfl (dF b)<|gF rfl rfl (dF b)<|oq (pkF rfl (dF b) rfl)<|N0 ?_
     exact ⟨false,rfl,⟨rfl,rfl,rfl,trivial⟩,⟨rfl,trivial⟩,⟨hm,ii⟩,ii⟩
 · rintro j _ _ _ _ ⟨hm,q⟩
   refine J.sp q ?_
   unfold M.r26_Made_j1 at hm
   refine iC hm (fun m hm=>?_) fun m hm=>?_
   · refine jT rfl m<|Js<|Sq<|Jb<|nE hm fun _ l B o C hm=>?_
     obtain ⟨_,_,rfl⟩:=Sls.op e o
     refine aE e C fun _ A z=>?_
     cases z
     refine bE hm fun X G hm=>Rg<|oq (mS rfl)<|oq (q_fa rfl)<|oq (q_ld rfl ia rfl)<|oq (mI rfl)<|oq (q_ian rfl rfl B (ln e o))<|oq (q_ldfa rfl A)<|oc (r26_Grown_fn (Sm u) (x1:=(l.1,l.2.1,l.2.2.1,l.2.2.2)) ⟨_,rfl,rfl⟩ G) fun _ _ _ V=>?_
     obtain ⟨T,P,E,rfl,I⟩:=V.op3
     refine oq (aS rfl)<|N0<|kS hm fun K hm=>Rg<|oq (mI rfl)<|oq (q_add rfl rfl (wi64 K))<|oq (aI rfl)<|N0<|have hm:=inl_onward hm n; ?_
     exact ⟨⟨N,X,a+1,T,P,E⟩,rfl,⟨rfl,trivial⟩,⟨rfl,rfl,trivial⟩,⟨(Sm I),hm,ii⟩,(Nat.lt_succ_self _),ii⟩
   · refine jF rfl (nT m)<|Jx<|have hm:=inr_onward hm n; SR<|oq (mS rfl)<|oq (aS rfl)<|N0<|Jr ?_
     cases hm
     exact ret_ok (fn:=Tryz.f16) rfl (.tmp rfl .nil) (Sm u)
end Go.Z
end
section
namespace Go.Z
open Go Go.RowKit Go.Proofs
theorem clone_complex_own {rr:Option Nat} {nn:Nat} {w0:World} {h0 h:Heap} {L:Own} {x0:List TCell} {v0:Value} (r0:Sls TCellR 3 h v0 x0) {r:List TCell} (hm:M.clone x0=some r) :
  FnIn ⟨Tryz.prog,rr,nn,w0,h0⟩ 144 #[v0] h (L) fun v h' L'=>∃ (p0_0:Option Addr) (n0_0 c0_0:Nat) (M0_0:Own),v=.slice p0_0 n0_0 c0_0∧OwnL TCellR 47 3 h' (.slice p0_0 n0_0 c0_0) r M0_0∧L'=M0_0++(L):=by
 obtain ⟨h1,rfl⟩:=of_if2 hm
 obtain ⟨p,n,c,rfl,f⟩:=Sls.op3 r0
 refine FnIn.intro (args:=[_]) Tryz.func144 rfl rfl (Nat.le_of_ble_eq_true rfl) ?_
 refine J.seq ?_
 refine J.region ?_
 first | refine o_q (q_asv (v:=.slice _ _ _) rfl) ?_ | refine o_q (q_as) ?_
 refine JL.nil ?_
 refine J.seq ?_
 refine J.seq ?_
 refine J.region ?_
 first | refine o_q (q_mvv (v:=.slice _ _ _) rfl) ?_ | refine o_q (q_mv) ?_
 refine o_q (q_eqNil rfl rfl) ?_
 refine JL.nil ?_
 cases p with
 | none=>
  refine J.condT rfl rfl ?_
  refine J.seq ?_
  refine J.region ?_
  first | refine o_q (q_asv (v:=.slice _ _ _) rfl) ?_ | refine o_q (q_as) ?_
  refine JL.nil ?_
  refine J.ret ?_
  have hx:r=[]:=by
   rcases Nat.eq_zero_or_pos r.length with h0 | h0
   ·exact List.eq_nil_of_length_eq_zero h0
   ·obtain ⟨b,o,e⟩:=Sls.op f h0; cases e
  subst hx
  exact ret_okS (fn:=Tryz.f144) (L2:=[]++(L)) rfl (.tmp rfl .nil) inferInstance ⟨none,0,0,[],rfl,OwnL.nil _,rfl⟩
 | some a=>
  refine J.condF rfl rfl ?_
  refine J.skip ?_
  refine J.seq ?_
  refine J.region ?_
  refine o_bs [] (by decide) rfl (fun b5=>?_)
  refine JL.fact (fun h=>OwnL TCellR 47 3 h (.slice (some ⟨b5,0,none⟩) 0 0) ([]:List TCell) [(b5,row 47 [])]) (OwnL.lit _ rfl Cells.nil rfl) (fun ho5=>?_)
  first | refine o_q (q_mvv (v:=.slice _ _ _) rfl) ?_ | refine o_q (q_mv) ?_
  refine o_appO (R:=TCellR) rfl rfl (OwnL.mono ho5) f (show app [] r=some r from app_at (by simpa using h1)) (fun p7 c7 L7 ho7=>?_)
  first | refine o_q (q_asv (v:=.slice _ _ _) rfl) ?_ | refine o_q (q_as) ?_
  refine JL.nil ?_
  refine J.ret ?_
  exact ret_okS (fn:=Tryz.f144) (L2:=L7++(L)) rfl (.tmp rfl .nil) inferInstance ⟨p7,_,c7,L7,rfl,OwnL.mono ho7,rfl⟩
theorem clone_chain_own {rr:Option Nat} {nn:Nat} {w0:World} {h0 h:Heap} {L:Own} {x0:List TFace} {v0:Value} (r0:Sls TFaceR 3 h v0 x0) {r:List TFace} (hm:M.clone x0=some r) :
  FnIn ⟨Tryz.prog,rr,nn,w0,h0⟩ 95 #[v0] h (L) fun v h' L'=>∃ (p0_0:Option Addr) (n0_0 c0_0:Nat) (M0_0:Own),v=.slice p0_0 n0_0 c0_0∧OwnL TFaceR 133 3 h' (.slice p0_0 n0_0 c0_0) r M0_0∧L'=M0_0++(L):=by
 obtain ⟨h1,rfl⟩:=of_if2 hm
 obtain ⟨p,n,c,rfl,f⟩:=Sls.op3 r0
 refine FnIn.intro (args:=[_]) Tryz.func95 rfl rfl (Nat.le_of_ble_eq_true rfl) ?_
 refine J.seq ?_
 refine J.region ?_
 first | refine o_q (q_asv (v:=.slice _ _ _) rfl) ?_ | refine o_q (q_as) ?_
 refine JL.nil ?_
 refine J.seq ?_
 refine J.seq ?_
 refine J.region ?_
 first | refine o_q (q_mvv (v:=.slice _ _ _) rfl) ?_ | refine o_q (q_mv) ?_
 refine o_q (q_eqNil rfl rfl) ?_
 refine JL.nil ?_
 cases p with
 | none=>
  refine J.condT rfl rfl ?_
  refine J.seq ?_
  refine J.region ?_
  first | refine o_q (q_asv (v:=.slice _ _ _) rfl) ?_ | refine o_q (q_as) ?_
  refine JL.nil ?_
  refine J.ret ?_
  have hx:r=[]:=by
   rcases Nat.eq_zero_or_pos r.length with h0 | h0
   ·exact List.eq_nil_of_length_eq_zero h0
   ·obtain ⟨b,o,e⟩:=Sls.op f h0; cases e
  subst hx
  exact ret_okS (fn:=Tryz.f95) (L2:=[]++(L)) rfl (.tmp rfl .nil) inferInstance ⟨none,0,0,[],rfl,OwnL.nil _,rfl⟩
 | some a=>
  refine J.condF rfl rfl ?_
  refine J.skip ?_
  refine J.seq ?_
  refine J.region ?_
  refine o_bs [] (by decide) rfl (fun b5=>?_)
  refine JL.fact (fun h=>OwnL TFaceR 133 3 h (.slice (some ⟨b5,0,none⟩) 0 0) ([]:List TFace) [(b5,row 133 [])]) (OwnL.lit _ rfl Cells.nil rfl) (fun ho5=>?_)
  first | refine o_q (q_mvv (v:=.slice _ _ _) rfl) ?_ | refine o_q (q_mv) ?_
  refine o_appO (R:=TFaceR) rfl rfl (OwnL.mono ho5) f (show app [] r=some r from app_at (by simpa using h1)) (fun p7 c7 L7 ho7=>?_)
  first | refine o_q (q_asv (v:=.slice _ _ _) rfl) ?_ | refine o_q (q_as) ?_
  refine JL.nil ?_
  refine J.ret ?_
  exact ret_okS (fn:=Tryz.f95) (L2:=L7++(L)) rfl (.tmp rfl .nil) inferInstance ⟨p7,_,c7,L7,rfl,OwnL.mono ho7,rfl⟩
end Go.Z
end
section
namespace Go.Z
open Go Go.RowKit Go.Proofs
def KeysV {α:Type} (VR:Heap→Value→α→Prop) (h:Heap) (v:Value) (m:List (Int×α)):Prop:=∃ bb q,v=.func (.func 224) ⟨[]⟩ ⟨[.pointer (some ⟨bb,0,none⟩)]⟩∧CellN h bb 0 [.map q]∧MapF VR h (.map q) m
theorem KeysV.mono {α:Type} {VR:Heap→Value→α→Prop} [MoV VR] {h1 h:Heap} {v:Value} {m:List (Int×α)} (w:KeysV VR h1 v m) [e:Ext h1 h]:KeysV VR h v m:=let ⟨bb,b,p,q,r⟩:=w; ⟨bb,b,p,q.mono e,r.mono⟩
theorem sub_len {α:Type} [DecidableEq α]:∀ {l m:List α},l.Nodup→(∀ a∈l,a∈m)→l.length≤m.length
 | [],m,_,_=>Nat.zero_le _
 | a::l,m,hn,hs=>by
  rw [List.nodup_cons] at hn
  have ha:=hs a (by simp)
  have:=sub_len (m:=m.erase a) hn.2 (fun b hb=>(List.mem_erase_of_ne (show b≠a from fun e=>hn.1 (e ▸ hb))).2 (hs b (List.mem_cons_of_mem _ hb)))
  rw [List.length_erase_of_mem ha] at this
  have:=List.length_pos_of_mem ha
  rw [List.length_cons]; omega
theorem born_lt {es done:List MapEntry} {clk:Nat} {e:MapEntry} (hb:Born es clk) (h1:∀ e∈done,e∈es) (h2:(done.map (·.born)).Nodup) (he:e∈es) (hn:e.born ∉ done.map (·.born)):done.length<es.length:=by
 have:=sub_len (l:=e.born::done.map (·.born)) (m:=es.map (·.born)) (List.nodup_cons.2 ⟨hn,h2⟩) (fun b hb=>by
  rcases List.mem_cons.1 hb with rfl | hb
  ·exact List.mem_map_of_mem he
  ·obtain ⟨x,hx,rfl⟩:=List.mem_map.1 hb
   exact List.mem_map_of_mem (h1 x hx))
 simp at this; omega
def theInt:Value→Int
 | .int _ z=>z
 | _=>0
theorem keys_perm {α:Type} {VR:Heap→Value→α→Prop} {h:Heap} {es done:List MapEntry} {clk:Nat} {m:List (Int×α)} {ks:List Int} (w:EntsR VR h es m) (hb:Born es clk) (h1:∀ e∈done,e∈es) (h2:(done.map (·.born)).Nodup) (h3:done.map (·.key)=ks.map (Value.int .i64)) (h4:∀ e∈es,e.born∈done.map (·.born)):ks.Perm (m.map (·.1)):=by
 have a:=((perm_of_born hb.1 h2 h1 h4).map (·.key)).map theInt
 rw [h3,ents_keys w,List.map_map,List.map_map] at a
 simpa [theInt,Function.comp_def] using a
theorem appendSeq_own {rr:Option Nat} {nn:Nat} {w0:World} {h0:Heap} {L:Own} {α:Type} {VR:Heap→Value→α→Prop} {h:Heap} {m:List (Int×α)} {bb:Nat} {q:Option Nat} (hcb:CellN h bb 0 [.map q]) (hmf:∃ b o,Value.map q=.map (some b)∧h b=some o∧MapR VR h o m) (hm:m.length≤1000000) :
  FnIn ⟨Tryz.prog,rr,nn,w0,h0⟩ 249 #[.slice none 0 0,.func (.func 224) ⟨[]⟩ ⟨[.pointer (some ⟨bb,0,none⟩)]⟩] h L fun r h' L'=>∃ ks p n c M,r=.slice p n c∧ks.Perm (m.map (·.1))∧OwnL (KR .i64) 3 1 h' (.slice p n c) ks M∧L'=M++L:=by
 obtain ⟨b,_,eq,hkb,es,clk,rfl,her,hbn⟩:=hmf
 cases eq
 refine FnIn.introM (args:=[_,_]) Tryz.func249 rfl rfl (Nat.le_of_ble_eq_true rfl) ?_
 refine J.seq ?_
 refine J.region ?_
 first | refine o_bx (v:=.slice _ _ _) rfl rfl (fun b2=>?_) | refine o_bx rfl rfl (fun b2=>?_)
 refine o_q (q_as) ?_
 refine JL.nil ?_
 refine J.seq ?_
 refine J.seq ?_
 refine J.region ?_
 first | refine o_q (q_mvv (v:=.func _ _ _) rfl) ?_ | refine o_q (q_mv) ?_
 refine JL.nil ?_
 refine J.block ?_
 refine J.rangeFunc rfl rfl (fun fn tms lid D OB hOB htm=>?_)
 refine FnIn.intro (args:=[_,_]) Tryz.func224 rfl rfl (Nat.le_of_ble_eq_true rfl) ?_
 refine J.seq ?_
 refine J.region ?_
 refine o_q (q_ldf rfl hcb) ?_
 refine o_range rfl hkb (fun it=>?_)
 refine JL.nil ?_
 refine J.block ?_
 first | refine J.loopK (α:=List MapEntry×List Int×Option Addr×Nat×Nat×Own) (fun ⟨done,ks,pv,nv,cv,Lb⟩ h' L'=>(∀ e∈done,e∈es)∧(done.map (·.born)).Nodup∧done.map (·.key)=ks.map (Value.int .i64)∧(OwnL (KR .i64) 3 1 h' (.slice pv nv cv) ks Lb∧ks.length=done.length)∧Sp ((lid,OB .ready)::(D,.deferred (some []))::(it,iterO b clk done)::(b2,row 29 [.slice pv nv cv])::(Lb++L)) L') [(0,.func _ _ _),(5,_)] ⟨rfl,rfl,trivial⟩ (fun _=>[]) (fun x=>es.length-x.1.length) (([],[],none,0,0,[])) ⟨fun e he=>(by cases he),by simp,rfl,⟨OwnL.nil _,rfl⟩,inferInstance⟩ trivial ?_ | refine J.loopK (α:=List MapEntry×List Int×Option Addr×Nat×Nat×Own) (fun ⟨done,ks,pv,nv,cv,Lb⟩ h' L'=>(∀ e∈done,e∈es)∧(done.map (·.born)).Nodup∧done.map (·.key)=ks.map (Value.int .i64)∧(OwnL (KR .i64) 3 1 h' (.slice pv nv cv) ks Lb∧ks.length=done.length)∧Sp ((lid,OB .ready)::(D,.deferred (some []))::(it,iterO b clk done)::(b2,row 29 [.slice pv nv cv])::(Lb++L)) L') [(0,_),(5,_)] ⟨rfl,rfl,trivial⟩ (fun _=>[]) (fun x=>es.length-x.1.length) (([],[],none,0,0,[])) ⟨fun e he=>(by cases he),by simp,rfl,⟨OwnL.nil _,rfl⟩,inferInstance⟩ trivial ?_
 rintro ⟨done,ks,pv,nv,cv,Lb⟩ σ h1 L1 s1 ⟨hd1,hd2,hd3,⟨ho,hd4⟩,hsp⟩
 refine J.sp hsp ?_
 refine J.seq ?_
 refine J.region ?_
 refine o_next rfl (Ext.le (h:=h) (h':=h1) _ _ hkb) hbn inferInstance hd1 (fun hall=>?_) (fun e he1 he2=>?_)
 ·
  refine o_q (q_ex rfl rfl) ?_
  refine JL.nil ?_
  refine J.seq ?_
  refine J.condF rfl rfl ?_
  refine J.exit ?_
  have hperm:=keys_perm her hbn hd1 hd2 hd3 hall
  show retQL _ _ _ _ _ _ _ _ _
  refine ret_okL (fn:=Tryz.f224) rfl .nil ?_
  refine ⟨_,inferInstance,?_⟩
  refine J.seq ?_
  refine J.region ?_
  refine o_q (q_ld rfl inferInstance rfl) ?_
  refine o_q (q_asv (v:=.slice _ _ _) rfl) ?_
  refine JL.nil ?_
  refine J.ret ?_
  exact ret_okSM (fn:=Tryz.f249) (L2:=Lb++L) rfl (.tmp rfl .nil) inferInstance ⟨ks,pv,nv,cv,Lb,rfl,hperm,OwnL.mono ho,rfl⟩
 skip
 refine o_q (q_ex rfl rfl) ?_
 refine JL.nil ?_
 refine J.seq ?_
 refine J.condT rfl rfl ?_
 refine J.skip ?_
 refine J.block ?_
 refine J.seq ?_
 refine J.region ?_
 refine o_q (q_entry rfl hkb hbn inferInstance he1) ?_
 obtain ⟨kx,hkx⟩:=ents_mem her he1
 refine o_q (q_ex (v:=.int .i64 kx) rfl (by rw [← hkx]; rfl)) ?_
 first | refine o_q (q_asv (v:=.int _ _) rfl) ?_ | refine o_q (q_as) ?_
 refine JL.nil ?_
 refine J.seq ?_
 refine J.region ?_
 first | refine o_q (q_mvv (v:=.func _ _ _) rfl) ?_ | refine o_q (q_mv) ?_
 first | refine o_q (q_mvv (v:=.int _ _) rfl) ?_ | refine o_q (q_mv) ?_
 refine o_yield rfl hOB htm inferInstance rfl rfl ?_
 refine J.region ?_
 refine o_q (q_as) ?_
 refine JL.nil ?_
 refine ⟨rfl,_,inferInstance,?_⟩
 refine J.block ?_
 refine J.region ?_
 refine o_q (q_ld rfl inferInstance rfl) ?_
 first | refine o_q (q_mvv (v:=.int _ _) rfl) ?_ | refine o_q (q_mv) ?_
 first | refine o_bs [.int _ _] (by decide) rfl (fun b10=>?_) | refine o_bs [_] (by decide) rfl (fun b10=>?_)
 obtain ⟨l9,e9⟩:∃ l9,ks.length+1≤1000000000∧l9=ks++[kx]:=⟨_,by have:=born_lt hbn hd1 hd2 he1 he2; have:=ents_len her; omega,rfl⟩
 refine JL.fact (fun h=>Cells (KR .i64) 1 h [.int .i64 kx] [kx]) (Cells.cons (R:=KR .i64) (us:=[.int .i64 kx]) rfl rfl Cells.nil) (fun hc9=>?_)
 refine o_appB (R:=KR .i64) (l2:=[kx]) rfl rfl (OwnL.mono ho) inferInstance hc9 (show app ks [kx]=some l9 from by rw [e9.2]; exact app_at e9.1) (fun p9 c9 L9 ho9=>?_)
 first | refine o_st1 (v:=.slice _ _ _) rfl rfl rfl inferInstance (by first | decide | simp) ?_ | refine o_st1 rfl rfl rfl inferInstance (by first | decide | simp) ?_
 refine JL.nil ?_
 refine ⟨rfl,_,inferInstance,?_⟩
 refine o_q (q_not rfl) ?_
 refine JL.nil ?_
 refine J.condF rfl rfl ?_
 refine J.skip ?_
 exact ⟨(done++[e],l9,p9,_,c9,L9),rfl,⟨rfl,rfl,trivial⟩,trivial,⟨(fun x hx=>by rcases List.mem_append.1 hx with hx | hx; exact hd1 x hx; simp at hx; subst hx; exact he1),(by rw [List.map_append,List.nodup_append]; exact ⟨hd2,by simp,fun a ha b hb=>by simp at hb; subst hb; exact fun hab=>he2 (hab ▸ ha)⟩),(by rw [e9.2,List.map_append,List.map_append,hd3,List.map_cons,hkx]; rfl),⟨OwnL.mono ho9,by rw [e9.2]; simp [hd4]⟩,(by show Sp ((lid,OB .ready)::(D,.deferred (some []))::(it,iterO b clk (done++[e]))::(b2,row 29 [.slice p9 l9.length c9])::(L9++L)) (L9++(b10,row 3 [.int .i64 kx])::(lid,OB .ready)::(D,.deferred (some []))::(it,iterO b clk (done++[e]))::(b2,row 29 [.slice p9 l9.length c9])::L); infer_instance)⟩,(by have:=born_lt hbn hd1 hd2 he1 he2; simp; omega),inferInstance⟩
theorem appendSeq0_own {rr:Option Nat} {nn:Nat} {w0:World} {h0:Heap} {L:Own} {α:Type} {VR:Heap→Value→α→Prop} {h:Heap} {bb:Nat} (hcb:CellN h bb 0 [.map none]) :
  FnIn ⟨Tryz.prog,rr,nn,w0,h0⟩ 249 #[.slice none 0 0,.func (.func 224) ⟨[]⟩ ⟨[.pointer (some ⟨bb,0,none⟩)]⟩] h L fun r h' L'=>∃ ks p n c M,r=.slice p n c∧ks.Perm (([]:List (Int×α)).map (·.1))∧OwnL (KR .i64) 3 1 h' (.slice p n c) ks M∧L'=M++L:=by
 refine FnIn.introM (args:=[_,_]) Tryz.func249 rfl rfl (Nat.le_of_ble_eq_true rfl) ?_
 refine J.seq ?_
 refine J.region ?_
 first | refine o_bx (v:=.slice _ _ _) rfl rfl (fun b2=>?_) | refine o_bx rfl rfl (fun b2=>?_)
 refine o_q (q_as) ?_
 refine JL.nil ?_
 refine J.seq ?_
 refine J.seq ?_
 refine J.region ?_
 first | refine o_q (q_mvv (v:=.func _ _ _) rfl) ?_ | refine o_q (q_mv) ?_
 refine JL.nil ?_
 refine J.block ?_
 refine J.rangeFunc rfl rfl (fun fn tms lid D OB hOB htm=>?_)
 refine FnIn.intro (args:=[_,_]) Tryz.func224 rfl rfl (Nat.le_of_ble_eq_true rfl) ?_
 refine J.seq ?_
 refine J.region ?_
 refine o_q (q_ldf rfl hcb) ?_
 refine o_range0 rfl (fun it=>?_)
 refine JL.nil ?_
 refine J.block ?_
 first | refine J.loopK (α:=Unit) (fun _ h' L'=>Sp ((lid,OB .ready)::(D,.deferred (some []))::(it,iter0)::(b2,row 29 [.slice none 0 0])::L) L') [(0,.func _ _ _),(5,_)] ⟨rfl,rfl,trivial⟩ (fun _=>[]) (fun _=>0) (()) inferInstance trivial ?_ | refine J.loopK (α:=Unit) (fun _ h' L'=>Sp ((lid,OB .ready)::(D,.deferred (some []))::(it,iter0)::(b2,row 29 [.slice none 0 0])::L) L') [(0,_),(5,_)] ⟨rfl,rfl,trivial⟩ (fun _=>[]) (fun _=>0) (()) inferInstance trivial ?_
 rintro ⟨⟩ σ h1 L1 s1 hsp
 refine J.sp hsp ?_
 refine J.seq ?_
 refine J.region ?_
 refine o_next0 rfl inferInstance ?_
 refine o_q (q_ex rfl rfl) ?_
 refine JL.nil ?_
 refine J.seq ?_
 refine J.condF rfl rfl ?_
 refine J.exit ?_
 show retQL _ _ _ _ _ _ _ _ _
 refine ret_okL (fn:=Tryz.f224) rfl .nil ?_
 refine ⟨_,inferInstance,?_⟩
 refine J.seq ?_
 refine J.region ?_
 refine o_q (q_ld rfl inferInstance rfl) ?_
 first | refine o_q (q_asv (v:=.slice _ _ _) rfl) ?_ | refine o_q (q_as) ?_
 refine JL.nil ?_
 refine J.ret ?_
 exact ret_okSM (fn:=Tryz.f249) (L2:=L) rfl (.tmp rfl .nil) inferInstance ⟨[],none,0,0,[],rfl,List.Perm.refl _,OwnL.nil _,rfl⟩
section
variable {rr:Option Nat} {nn:Nat} {w0:World} {h0:Heap} {L:Own} {α:Type} {VR:Heap→Value→α→Prop} {h:Heap} {v:Value} {m:List (Int×α)}
theorem keysSeq_own (r1:KeysV VR h v m) (hm:m.length≤1000000) :
  FnIn ⟨Tryz.prog,rr,nn,w0,h0⟩ 249 #[.slice none 0 0,v] h L fun r h' L'=>∃ ks p n c M,r=.slice p n c∧ks.Perm (m.map (·.1))∧OwnL (KR .i64) 3 1 h' (.slice p n c) ks M∧L'=M++L:=by
 obtain ⟨bb,q,rfl,hcb,hmf⟩:=r1
 rcases hmf with ⟨e,rfl⟩ | hmf
 ·cases e; exact appendSeq0_own (α:=α) (VR:=VR) hcb
 ·exact appendSeq_own hcb hmf hm
end
theorem keys_fn {α:Type} {VR:Heap→Value→α→Prop} [MoV VR] {h:Heap} {v:Value} {m:List (Int×α)} (r1:MapF VR h v m) :
  Fn Tryz.prog 190 #[v] h fun r h'=>KeysV VR h' r m:=by
 obtain ⟨q,rfl,r1⟩:=r1.op
 refine Fn.intro (args:=[_]) Tryz.func190 rfl rfl (Nat.le_of_ble_eq_true rfl) fun w=>?_
 refine J.seq ?_
 refine J.region ?_
 refine o_bx rfl rfl (fun b1=>?_)
 refine JL.fz b1 (fun hh1 ss1 hb1=>?_)
 refine o_q (q_as) ?_
 refine JL.nil ?_
 refine J.seq ?_
 refine J.region ?_
 refine o_q (q_mf) ?_
 first | refine o_q (q_asv (v:=.func _ _ _) rfl) ?_ | refine o_q (q_as) ?_
 refine JL.nil ?_
 refine J.ret ?_
 exact ret_ok (fn:=Tryz.f190) rfl (.tmp rfl .nil) ⟨_,_,rfl,⟨_,_,_,hb1,LookN.all _⟩,r1.mono⟩
theorem collect_own {rr:Option Nat} {nn:Nat} {w0:World} {h0:Heap} {L:Own} {α:Type} {VR:Heap→Value→α→Prop} {h:Heap} {v:Value} {m:List (Int×α)} (r1:KeysV VR h v m) (hm:m.length≤1000000) :
  FnIn ⟨Tryz.prog,rr,nn,w0,h0⟩ 222 #[v] h L fun r h' L'=>∃ ks p n c M,r=.slice p n c∧ks.Perm (m.map (·.1))∧OwnL (KR .i64) 3 1 h' (.slice p n c) ks M∧L'=M++L:=by
 obtain ⟨bb,q,rfl,r2,r3⟩:=r1
 refine FnIn.intro (args:=[_]) Tryz.func222 rfl rfl (Nat.le_of_ble_eq_true rfl) ?_
 refine J.seq ?_
 refine J.region ?_
 refine o_q (q_as) ?_
 refine JL.nil ?_
 refine J.seq ?_
 refine J.region ?_
 first | refine o_q (q_mvv (v:=.func _ _ _) rfl) ?_ | refine o_q (q_mv) ?_
 refine o_calll (keysSeq_own (VR:=VR) ⟨bb,q,rfl,r2,r3⟩ hm) (fun v4 h4 L4 s4 r4=>?_)
 obtain ⟨ks,p,n,c,M,rfl,hp,ho,rfl⟩:=r4
 first | refine o_q (q_asv (v:=.slice _ _ _) rfl) ?_ | refine o_q (q_as) ?_
 refine JL.nil ?_
 refine J.ret ?_
 exact ret_okS (fn:=Tryz.f222) (L2:=M++L) rfl (.tmp rfl .nil) inferInstance ⟨ks,p,n,c,M,rfl,hp,OwnL.mono ho,rfl⟩
end Go.Z
end
section
namespace Go.Proofs
open Go.Shelf
def Tryz.sortInt_ren:Go.Shelf.Ren:=⟨fun | 5=>223 | 8=>157 | 7=>250 | 19=>205 | 20=>206 | 10=>258 | 11=>259 | 12=>260 | 13=>261 | 14=>262 | 15=>263 | 16=>264 | 17=>265 | 18=>266 | 30=>269 | 31=>227 | 32=>228 | 33=>270 | 34=>271 | 35=>158 | 40=>272 | n=>n,fun | 23=>29 | 25=>3 | 3=>3 | 32=>181 | 22=>29 | 0=>0 | 44=>180 | 46=>178 | 4=>4 | 36=>252 | 35=>251 | 41=>196 | 5=>5 | 9=>9 | 53=>284 | 57=>288 | 63=>312 | 64=>291 | n=>n,fun | n=>n⟩
theorem Tryz.sortInt:Go.Proofs.SlLaysM.n5 Tryz.prog Tryz.sortInt_ren:={
 mixed:=by kernel_rfl
 f5:=⟨Tryz.f223.name,by decide,Tryz.func223.trans (congrArg some (by kernel_rfl))⟩
 f7:=⟨Tryz.f250.name,by decide,Tryz.func250.trans (congrArg some (by kernel_rfl))⟩
 f8:=Tryz.func157.trans (congrArg some (by kernel_rfl))
 f10:=⟨Tryz.f258.name,by decide,Tryz.func258.trans (congrArg some (by kernel_rfl))⟩
 f11:=⟨Tryz.f259.name,by decide,Tryz.func259.trans (congrArg some (by kernel_rfl))⟩
 f12:=⟨Tryz.f260.name,by decide,Tryz.func260.trans (congrArg some (by kernel_rfl))⟩
 f13:=⟨Tryz.f261.name,by decide,Tryz.func261.trans (congrArg some (by kernel_rfl))⟩
 f14:=⟨Tryz.f262.name,by decide,Tryz.func262.trans (congrArg some (by kernel_rfl))⟩
 f15:=⟨Tryz.f263.name,by decide,Tryz.func263.trans (congrArg some (by kernel_rfl))⟩
 f16:=⟨Tryz.f264.name,by decide,Tryz.func264.trans (congrArg some (by kernel_rfl))⟩
 f17:=⟨Tryz.f265.name,by decide,Tryz.func265.trans (congrArg some (by kernel_rfl))⟩
 f18:=⟨Tryz.f266.name,by decide,Tryz.func266.trans (congrArg some (by kernel_rfl))⟩
 f19:=Tryz.func205.trans (congrArg some (by kernel_rfl))
 f20:=Tryz.func206.trans (congrArg some (by kernel_rfl))
 f30:=⟨Tryz.f269.name,by decide,Tryz.func269.trans (congrArg some (by kernel_rfl))⟩
 f31:=Tryz.func227.trans (congrArg some (by kernel_rfl))
 f32:=Tryz.func228.trans (congrArg some (by kernel_rfl))
 f33:=⟨Tryz.f270.name,by decide,Tryz.func270.trans (congrArg some (by kernel_rfl))⟩
 f34:=⟨Tryz.f271.name,by decide,Tryz.func271.trans (congrArg some (by kernel_rfl))⟩
 f35:=⟨Tryz.f158.name,by decide,Tryz.func158.trans (congrArg some (by kernel_rfl))⟩
 f40:=⟨Tryz.f272.name,by decide,Tryz.func272.trans (congrArg some (by kernel_rfl))⟩
 t0:=Tryz.underlying0
 a0:=Tryz.isAgg0
 z0:=Tryz.sizeOf0
 v0:=Tryz.zeroValue0
 t3:=Tryz.underlying3
 a3:=Tryz.isAgg3
 z3:=Tryz.sizeOf3
 v3:=Tryz.zeroValue3
 t4:=Tryz.underlying4
 a4:=Tryz.isAgg4
 z4:=Tryz.sizeOf4
 v4:=Tryz.zeroValue4
 t5:=Tryz.underlying5
 a5:=Tryz.isAgg5
 z5:=Tryz.sizeOf5
 v5:=Tryz.zeroValue5
 t9:=Tryz.underlying9
 a9:=Tryz.isAgg9
 z9:=Tryz.sizeOf9
 v9:=Tryz.zeroValue9
 t22:=Tryz.underlying29
 a22:=Tryz.isAgg29
 z22:=Tryz.sizeOf29
 v22:=Tryz.zeroValue29
 t23:=Tryz.underlying29
 a23:=Tryz.isAgg29
 z23:=Tryz.sizeOf29
 v23:=Tryz.zeroValue29
 t25:=Tryz.underlying3
 a25:=Tryz.isAgg3
 z25:=Tryz.sizeOf3
 v25:=Tryz.zeroValue3
 t32:=Tryz.underlying181
 a32:=Tryz.isAgg181
 z32:=Tryz.sizeOf181
 v32:=Tryz.zeroValue181
 t35:=Tryz.underlying251
 a35:=Tryz.isAgg251
 z35:=Tryz.sizeOf251
 v35:=Tryz.zeroValue251
 t36:=Tryz.underlying252
 a36:=Tryz.isAgg252
 z36:=Tryz.sizeOf252
 v36:=Tryz.zeroValue252
 t41:=Tryz.underlying196
 a41:=Tryz.isAgg196
 z41:=Tryz.sizeOf196
 v41:=Tryz.zeroValue196
 t44:=Tryz.underlying180
 a44:=Tryz.isAgg180
 z44:=Tryz.sizeOf180
 v44:=Tryz.zeroValue180
 t46:=Tryz.underlying178
 a46:=Tryz.isAgg178
 z46:=Tryz.sizeOf178
 v46:=Tryz.zeroValue178
 t53:=Tryz.underlying284
 a53:=Tryz.isAgg284
 z53:=Tryz.sizeOf284
 v53:=Tryz.zeroValue284
 t57:=Tryz.underlying288
 a57:=Tryz.isAgg288
 z57:=Tryz.sizeOf288
 v57:=Tryz.zeroValue288
 t63:=Tryz.underlying312
 a63:=Tryz.isAgg312
 z63:=Tryz.sizeOf312
 v63:=Tryz.zeroValue312
 t64:=Tryz.underlying291
 a64:=Tryz.isAgg291
 z64:=Tryz.sizeOf291
 v64:=Tryz.zeroValue291 }
def Tryz.pdqCell_ren:Go.Shelf.Ren:=⟨fun | 14=>156 | 20=>197 | 21=>198 | 22=>199 | 23=>200 | 24=>201 | 25=>202 | 26=>203 | 27=>204 | 46=>226 | 47=>227 | 48=>228 | 49=>229 | 50=>230 | 15=>157 | 57=>251 | 28=>205 | 29=>206 | n=>n,fun | 24=>47 | 22=>26 | 3=>3 | 25=>149 | 4=>4 | 0=>0 | 46=>252 | 45=>251 | 50=>196 | 66=>284 | 39=>181 | 55=>178 | 70=>288 | 76=>312 | 77=>291 | 53=>180 | 5=>5 | 9=>9 | n=>n,fun | n=>n⟩
theorem Tryz.pdqCell:Go.Proofs.SlLaysF0.n14 Tryz.prog Tryz.pdqCell_ren:={
 mixed:=by kernel_rfl
 f14:=⟨Tryz.f156.name,by decide,Tryz.func156.trans (congrArg some (by kernel_rfl))⟩
 f15:=Tryz.func157.trans (congrArg some (by kernel_rfl))
 f20:=⟨Tryz.f197.name,by decide,Tryz.func197.trans (congrArg some (by kernel_rfl))⟩
 f21:=⟨Tryz.f198.name,by decide,Tryz.func198.trans (congrArg some (by kernel_rfl))⟩
 f22:=⟨Tryz.f199.name,by decide,Tryz.func199.trans (congrArg some (by kernel_rfl))⟩
 f23:=⟨Tryz.f200.name,by decide,Tryz.func200.trans (congrArg some (by kernel_rfl))⟩
 f24:=⟨Tryz.f201.name,by decide,Tryz.func201.trans (congrArg some (by kernel_rfl))⟩
 f25:=⟨Tryz.f202.name,by decide,Tryz.func202.trans (congrArg some (by kernel_rfl))⟩
 f26:=⟨Tryz.f203.name,by decide,Tryz.func203.trans (congrArg some (by kernel_rfl))⟩
 f27:=⟨Tryz.f204.name,by decide,Tryz.func204.trans (congrArg some (by kernel_rfl))⟩
 f28:=Tryz.func205.trans (congrArg some (by kernel_rfl))
 f29:=Tryz.func206.trans (congrArg some (by kernel_rfl))
 f46:=⟨Tryz.f226.name,by decide,Tryz.func226.trans (congrArg some (by kernel_rfl))⟩
 f47:=Tryz.func227.trans (congrArg some (by kernel_rfl))
 f48:=Tryz.func228.trans (congrArg some (by kernel_rfl))
 f49:=⟨Tryz.f229.name,by decide,Tryz.func229.trans (congrArg some (by kernel_rfl))⟩
 f50:=⟨Tryz.f230.name,by decide,Tryz.func230.trans (congrArg some (by kernel_rfl))⟩
 f57:=⟨Tryz.f251.name,by decide,Tryz.func251.trans (congrArg some (by kernel_rfl))⟩
 t0:=Tryz.underlying0
 a0:=Tryz.isAgg0
 z0:=Tryz.sizeOf0
 v0:=Tryz.zeroValue0
 t3:=Tryz.underlying3
 a3:=Tryz.isAgg3
 z3:=Tryz.sizeOf3
 v3:=Tryz.zeroValue3
 t4:=Tryz.underlying4
 a4:=Tryz.isAgg4
 z4:=Tryz.sizeOf4
 v4:=Tryz.zeroValue4
 t5:=Tryz.underlying5
 a5:=Tryz.isAgg5
 z5:=Tryz.sizeOf5
 v5:=Tryz.zeroValue5
 t9:=Tryz.underlying9
 a9:=Tryz.isAgg9
 z9:=Tryz.sizeOf9
 v9:=Tryz.zeroValue9
 t22:=Tryz.underlying26
 a22:=Tryz.isAgg26
 z22:=Tryz.sizeOf26
 v22:=Tryz.zeroValue26
 t25:=Tryz.underlying149
 a25:=Tryz.isAgg149
 z25:=Tryz.sizeOf149
 v25:=Tryz.zeroValue149
 t39:=Tryz.underlying181
 a39:=Tryz.isAgg181
 z39:=Tryz.sizeOf181
 v39:=Tryz.zeroValue181
 t45:=Tryz.underlying251
 a45:=Tryz.isAgg251
 z45:=Tryz.sizeOf251
 v45:=Tryz.zeroValue251
 t46:=Tryz.underlying252
 a46:=Tryz.isAgg252
 z46:=Tryz.sizeOf252
 v46:=Tryz.zeroValue252
 t50:=Tryz.underlying196
 a50:=Tryz.isAgg196
 z50:=Tryz.sizeOf196
 v50:=Tryz.zeroValue196
 t53:=Tryz.underlying180
 a53:=Tryz.isAgg180
 z53:=Tryz.sizeOf180
 v53:=Tryz.zeroValue180
 t55:=Tryz.underlying178
 a55:=Tryz.isAgg178
 z55:=Tryz.sizeOf178
 v55:=Tryz.zeroValue178
 t66:=Tryz.underlying284
 a66:=Tryz.isAgg284
 z66:=Tryz.sizeOf284
 v66:=Tryz.zeroValue284
 t70:=Tryz.underlying288
 a70:=Tryz.isAgg288
 z70:=Tryz.sizeOf288
 v70:=Tryz.zeroValue288
 t76:=Tryz.underlying312
 a76:=Tryz.isAgg312
 z76:=Tryz.sizeOf312
 v76:=Tryz.zeroValue312
 t77:=Tryz.underlying291
 a77:=Tryz.isAgg291
 z77:=Tryz.sizeOf291
 v77:=Tryz.zeroValue291 }
def Tryz.bitsLen_ren:Go.Shelf.Ren:=⟨fun | 15=>157 | 28=>205 | 29=>206 | n=>n,fun | 39=>181 | 3=>3 | 53=>180 | 55=>178 | 4=>4 | 5=>5 | 9=>9 | n=>n,fun | n=>n⟩
theorem Tryz.bitsLen:Go.Proofs.SlLaysF0.n15 Tryz.prog Tryz.bitsLen_ren:={
 mixed:=by kernel_rfl
 f15:=Tryz.func157.trans (congrArg some (by kernel_rfl))
 f28:=Tryz.func205.trans (congrArg some (by kernel_rfl))
 f29:=Tryz.func206.trans (congrArg some (by kernel_rfl))
 t3:=Tryz.underlying3
 a3:=Tryz.isAgg3
 z3:=Tryz.sizeOf3
 v3:=Tryz.zeroValue3
 t4:=Tryz.underlying4
 a4:=Tryz.isAgg4
 z4:=Tryz.sizeOf4
 v4:=Tryz.zeroValue4
 t5:=Tryz.underlying5
 a5:=Tryz.isAgg5
 z5:=Tryz.sizeOf5
 v5:=Tryz.zeroValue5
 t9:=Tryz.underlying9
 a9:=Tryz.isAgg9
 z9:=Tryz.sizeOf9
 v9:=Tryz.zeroValue9
 t39:=Tryz.underlying181
 a39:=Tryz.isAgg181
 z39:=Tryz.sizeOf181
 v39:=Tryz.zeroValue181
 t53:=Tryz.underlying180
 a53:=Tryz.isAgg180
 z53:=Tryz.sizeOf180
 v53:=Tryz.zeroValue180
 t55:=Tryz.underlying178
 a55:=Tryz.isAgg178
 z55:=Tryz.sizeOf178
 v55:=Tryz.zeroValue178 }
def Tryz.cmpInt_ren:Go.Shelf.Ren:=⟨fun | 5=>100 | 7=>158 | n=>n,fun | 22=>3 | 3=>3 | 4=>4 | n=>n,fun | n=>n⟩
theorem Tryz.cmpInt:Go.Proofs.SlLaysC2.n5 Tryz.prog Tryz.cmpInt_ren:={
 mixed:=by kernel_rfl
 f5:=⟨Tryz.f100.name,by decide,Tryz.func100.trans (congrArg some (by kernel_rfl))⟩
 f7:=⟨Tryz.f158.name,by decide,Tryz.func158.trans (congrArg some (by kernel_rfl))⟩
 t3:=Tryz.underlying3
 a3:=Tryz.isAgg3
 z3:=Tryz.sizeOf3
 v3:=Tryz.zeroValue3
 t4:=Tryz.underlying4
 a4:=Tryz.isAgg4
 z4:=Tryz.sizeOf4
 v4:=Tryz.zeroValue4
 t22:=Tryz.underlying3
 a22:=Tryz.isAgg3
 z22:=Tryz.sizeOf3
 v22:=Tryz.zeroValue3 }
end Go.Proofs
end
section
namespace Go.Z
open Go Go.RowKit Go.Proofs Go.Sort Go.Shelf
variable {h h1:Heap}
theorem St.grow {w0:World} {h0 h:Heap} {L:Own} {w:World} (s:St w0 h0 h L w) (os:Array Obj):St w0 h0 h L (Sort.grow w os):=by
 have hn:∀ k,k<w.heap.size→(Sort.grow w os).heap[k]?=w.heap[k]?:=fun k hk=>heap_grow_old w os hk
 refine ⟨⟨s.below.os,s.below.tape,s.below.output,?_,fun k hk=>?_⟩,s.ge,s.old,fun b o hb=>(hn b (s.lt hb)).trans (s.fro b o hb),fun p hp=>⟨(s.own p hp).1,(hn _ (s.ownLt hp)).trans (s.own p hp).2.1,(s.own p hp).2.2⟩,s.nd⟩
 ·have:=s.below.size
  simp [Sort.grow]; omega
 ·have:=s.below.size
  rw [hn k (by omega)]; exact s.below.block k hk
theorem St.ahead {w0:World} {h0 h:Heap} {L:Own} {w:World} (s:St w0 h0 h L w) (n:Nat):St w0 h0 h L (Sort.ahead w n):=
 ⟨⟨s.below.os,s.below.tape,s.below.output,s.below.size,s.below.block⟩,s.ge,s.old,s.fro,s.own,s.nd⟩
theorem ints_cells:∀ {xs:List Value} {ks:List Int},Cells (KR .i64) 1 h xs ks→xs=ks.map (Value.int .i64):=by
 intro xs ks hc
 refine List.ext_getElem? fun i=>?_
 have hl:=hc.1
 by_cases hi:i<ks.length
 ·obtain ⟨x,hx⟩:=lt_get hi
  have h2:(xs.drop (i*1)).take 1=[.int .i64 x]:=hc.2 i x hx
  have h3:=congrArg (fun l=>l[0]?) h2
  simp only [Nat.mul_one,List.getElem?_take,List.getElem?_drop,Nat.add_zero] at h3
  rw [List.getElem?_map,hx]
  simpa using h3
 ·rw [List.getElem?_eq_none (by omega),List.getElem?_eq_none (by simp; omega)]
theorem cells_ints (h:Heap):∀ ks:List Int,Cells (KR .i64) 1 h (ks.map (Value.int .i64)) ks
 | []=>Cells.nil
 | k::ks=>Cells.cons (R:=KR .i64) (us:=[.int .i64 k]) rfl rfl (cells_ints h ks)
theorem put_ints (d:List Int) (ks sp:List Value) (hd:d.length=ks.length):putCells (Value.int .i64) 0 d.toArray ⟨ks++sp⟩=⟨d.map (Value.int .i64)++sp⟩:=by
 unfold putCells
 refine Array.ext' ?_
 rw [Array.toList_mapIdx]
 refine List.ext_getElem? fun i=>?_
 rw [List.getElem?_mapIdx]
 by_cases hi:i<d.length
 ·rw [List.getElem?_append_left (by omega),List.getElem?_append_left (by simp; omega)]
  simp [hi,show i<ks.length by omega]
 ·rw [List.getElem?_append_right (by omega),List.getElem?_append_right (by simp; omega)]
  have:¬ i<ks.length:=by omega
  simp [this,hd]
theorem srtI_perm {l m:List Int} (p:l.Perm m):M.srtI l=M.srtI m:=by
 have tr:∀ a b c:Int,decide (a≤b)=true→decide (b≤c)=true→decide (a≤c)=true:=by intro a b c h1 h2; simp at h1 h2 ⊢; omega
 have to:∀ a b:Int,(decide (a≤b) || decide (b≤a))=true:=by intro a b; simp; omega
 have a:=List.pairwise_mergeSort (le:=fun x y:Int=>decide (x≤y)) tr to l
 have b:=List.pairwise_mergeSort (le:=fun x y:Int=>decide (x≤y)) tr to m
 have q:(M.srtI l).Perm (M.srtI m):=(List.mergeSort_perm l _).trans (p.trans (List.mergeSort_perm m _).symm)
 exact q.eq_of_pairwise (le:=fun x y=>decide (x≤y)=true) (fun x y _ _ h1 h2=>by simp at h1 h2; omega) a b
section
variable {rr:Option Nat} {nn:Nat} {w0:World} {h0:Heap} {L Lk:Own} {p:Option Addr} {n c:Nat} {ks:List Int}
set_option maxRecDepth 100000 in
theorem sort_in (ho:OwnL (KR .i64) 3 1 h (.slice p n c) ks Lk) (hks:ks.length≤1000000) :
  FnIn ⟨Tryz.prog,rr,nn,w0,h0⟩ 223 #[.slice p n c] h (Lk++L) fun v h' L'=>v=.tuple #[]∧∃ M',OwnL (KR .i64) 3 1 h' (.slice p n c) (M.srtI ks) M'∧L'=M'++L:=by
 intro w hs
 obtain ⟨xs,⟨hx1,hx2⟩,hc⟩:=ho
 have hxs:=ints_cells hc
 subst hxs
 rcases hx2 with ⟨q,e,hq,h3,rfl⟩ | ⟨b,c',sp,e,rfl,h3,h4⟩
 ·cases e
  obtain rfl:=List.eq_nil_of_length_eq_zero h3
  refine (AnyM.slices_Sort_int_none (P:=Tryz.prog) (ρ:=Tryz.sortInt_ren) { Tryz.sortInt with } p 0 w).mono ?_
  rintro e w' ⟨rfl,rfl⟩
  refine ⟨_,h,L,rfl,Ext.refl h,hs,rfl,[],?_,rfl⟩
  rw [show M.srtI ([]:List Int)=[] from by simp [M.srtI]]
  exact ⟨[],⟨rfl,.inl ⟨p,rfl,hq,rfl,rfl⟩⟩,Cells.nil⟩
 ·cases e
  have hb:w.heap[b]?=some (row 3 (ks.map (Value.int .i64)++sp)):=(hs.own (b,_) (by simp)).2.1
  have hbl:b<w.heap.size:=(Array.getElem?_eq_some_iff.1 hb).1
  have H:Holds (Value.int .i64) w b 0 ks.toArray:=fun j hj=>by
   have hj':j<ks.length:=by simpa using hj
   constructor
   ·simp [World.cell?,hb,row,hj',List.getElem?_append]
   ·simp [World.frozen?,hb,row]
  have key:=AnyM.slices_Sort_int Tryz.sortInt b 0 c ks w H hbl (by omega)
  refine key.mono ?_
  rintro e w' ⟨rfl,n,os,rfl⟩
  rw [show (ks.mergeSort fun x y=>decide (x≤y))=M.srtI ks from rfl]
  have hlen:(M.srtI ks).length=ks.length:=by simp [M.srtI]
  have st:=(hs.ahead n)
  have st2:St w0 h0 h ([(b,row 3 ((M.srtI ks).map (Value.int .i64)++sp))]++L) (putRow (Value.int .i64) (Sort.ahead w n) b 0 (M.srtI ks).toArray):=by
   refine St.upd (L1:=[]) (L2:=L) st rfl rfl rfl (by simp) ?_ (fun k hk=>?_)
   ·simp only [putRow,mapBlock,Array.getElem?_modify,Sort.ahead,hb]
    simp only [if_true,Option.map_some,row,onCells]
    rw [put_ints _ _ _ (by simp [hlen])]
   ·simp only [putRow,mapBlock,Array.getElem?_modify,Sort.ahead]
    rw [if_neg (fun e=>hk e.symm)]
  refine ⟨_,h,_,rfl,Ext.refl h,st2.grow os,rfl,_,⟨_,⟨?_,.inr ⟨b,c,sp,?_,rfl,?_,?_⟩⟩,cells_ints h _⟩,rfl⟩
  ·simp
  ·rw [hlen]
  ·rw [hlen]; exact h3
  ·simpa [hlen] using h4
end
theorem sorted_fn {α:Type} {VR:Heap→Value→α→Prop} {h:Heap} {v:Value} {m:List (Int×α)} {r:List Int} (r1:KeysV VR h v m) (hm:M.skeys m=some r) :
  Fn Tryz.prog 189 #[v] h fun v h'=>Sls (KR .i64) 1 h' v r:=by
 obtain ⟨bb,q,rfl,r2,r3⟩:=r1
 obtain ⟨hm1,rfl⟩:m.length≤1000000∧r=M.srtI (m.map (·.1)):=by
  unfold M.skeys at hm; split at hm
  ·exact ⟨‹_›,(Option.some.inj hm).symm⟩
  ·cases hm
 refine Fn.intro (args:=[_]) Tryz.func189 rfl rfl (Nat.le_of_ble_eq_true rfl) fun w=>?_
 refine J.seq ?_
 refine J.region ?_
 refine o_q (q_as) ?_
 refine JL.nil ?_
 refine J.seq ?_
 refine J.region ?_
 first | refine o_q (q_mvv (v:=.func _ _ _) rfl) ?_ | refine o_q (q_mv) ?_
 refine o_calll (collect_own (VR:=VR) ⟨bb,q,rfl,r2,r3⟩ hm1) (fun v4 h4 L4 s4 r4=>?_)
 obtain ⟨ks,p,n,c,M1,rfl,hp,ho,rfl⟩:=r4
 first | refine o_q (q_asv (v:=.slice _ _ _) rfl) ?_ | refine o_q (q_as) ?_
 refine JL.nil ?_
 refine J.seq ?_
 refine J.region ?_
 first | refine o_q (q_mvv (v:=.slice _ _ _) rfl) ?_ | refine o_q (q_mv) ?_
 refine o_calll (sort_in (L:=[]) ho (by rw [hp.length_eq,List.length_map]; exact hm1)) (fun v5 h5 L5 s5 r5=>?_)
 obtain ⟨rfl,M2,ho2,rfl⟩:=r5
 refine JL.fzO ho2 (fun h6 s6 f6=>?_)
 rw [srtI_perm hp] at f6
 refine JL.nil ?_
 refine J.seq ?_
 refine J.region ?_
 first | refine o_q (q_mvv (v:=.slice _ _ _) rfl) ?_ | refine o_q (q_mv) ?_
 first | refine o_q (q_asv (v:=.slice _ _ _) rfl) ?_ | refine o_q (q_as) ?_
 refine JL.nil ?_
 refine J.ret ?_
 exact ret_ok (fn:=Tryz.f189) rfl (.tmp rfl .nil) f6.mono
abbrev RawC:=TCell×Option Addr×Nat×Nat
def encC (x:RawC):List Value:=[.int .i64 x.1.ID,.int .i64 x.1.Dim,.slice x.2.1 x.2.2.1 x.2.2.2]
def cfC (x y:RawC):Int:=Lib.compareInt x.1.ID y.1.ID
theorem closureC (x y:RawC) (W:World):Calls Tryz.prog 99 #[.agg (encC x).toArray,.agg (encC y).toArray] W fun e w'=>e=.returned (.int .i64 (cfC x y))∧∃ q os',w'=grow (W.drewN q) os':=by
 have hcon:=fun W'=>AnyG.cmp_Compare_int Tryz.cmpInt x.1.ID y.1.ID W'
 change ∀ W',Calls Tryz.prog 100 _ _ _ at hcon
 unfold cfC encC
 generalize Lib.compareInt x.1.ID y.1.ID=r at hcon ⊢
 go_enter Tryz.func99,Tryz.ntmps99
 go_wp2_with (go_at_call 100; refine (hcon _).mono ?_; rintro e w' ⟨rfl,rfl⟩)
 go_ret
 exact ⟨rfl,0,_,by rw [alloc_eq_grow,alloc_eq_grow,grow_grow]; rfl⟩
theorem ltC (x y:RawC):ltOf cfC x y=decide (x.1.ID<y.1.ID):=by
 unfold ltOf cfC Lib.compareInt
 by_cases h1:x.1.ID<y.1.ID
 ·simp [h1]
 ·by_cases h2:y.1.ID<x.1.ID<;>simp [h1,h2]
theorem swoC:SWO (ltOf cfC) where
 irrefl x:=by rw [ltC]; simp
 trans x y z h1 h2:=by rw [ltC] at *; simp at *; omega
 ntrans x y z h1 h2:=by rw [ltC] at *; simp at *; omega
theorem raw_of {xs:List Value} {l:List TCell} (hc:Cells TCellR 3 h xs l):∃ d:List RawC,d.map (·.1)=l∧d.flatMap encC=xs∧∀ x∈d,Sls TFaceR 3 h (.slice x.2.1 x.2.2.1 x.2.2.2) x.1.B:=by
 induction l generalizing xs with
 | nil=>
  have:=hc.1
  obtain rfl:xs=[]:=List.eq_nil_of_length_eq_zero (by simpa using this)
  exact ⟨[],rfl,rfl,fun x hx=>by cases hx⟩
 | cons a l ih=>
  have hl:=hc.1
  have h0:=hc.2 0 a rfl
  simp only [Nat.zero_mul,List.drop_zero] at h0
  obtain ⟨p,n,c,e,hs⟩:=h0
  have hrest:Cells TCellR 3 h (xs.drop 3) l:=by
   refine ⟨by rw [List.length_drop,hl,List.length_cons]; omega,fun i x hx=>?_⟩
   have:=hc.2 (i+1) x (by simpa using hx)
   rw [List.drop_drop]
   rwa [show 3+i*3=(i+1)*3 by omega]
  obtain ⟨d,h1,h2,h3⟩:=ih hrest
  refine ⟨(a,p,n,c)::d,by simp [h1],?_,fun x hx=>?_⟩
  ·rw [List.flatMap_cons,h2]
   show [Value.int .i64 a.ID,.int .i64 a.Dim,.slice p n c]++xs.drop 3=xs
   rw [← e,List.take_append_drop]
  ·rcases List.mem_cons.1 hx with rfl | hx
   ·exact hs
   ·exact h3 x hx
theorem cells_raw (h:Heap):∀ d:List RawC,(∀ x∈d,Sls TFaceR 3 h (.slice x.2.1 x.2.2.1 x.2.2.2) x.1.B)→Cells TCellR 3 h (d.flatMap encC) (d.map (·.1))
 | [],_=>Cells.nil
 | x::d,k=>Cells.cons (R:=TCellR) (us:=encC x) rfl ⟨_,_,_,rfl,k x (by simp)⟩ (cells_raw h d fun y hy=>k y (List.mem_cons_of_mem _ hy))
theorem flat_len3 (d:List RawC):(d.flatMap encC).length=d.length*3:=by
 induction d with
 | nil=>rfl
 | cons x d ih=>rw [List.flatMap_cons,List.length_append,ih,List.length_cons]; show 3+_=_; omega
theorem flat_get3:∀ (d:List RawC) (t:Nat),t<d.length*3→(d.flatMap encC)[t]?=(encC (d[t / 3]!))[t % 3]?
 | [],t,h=>by simp at h
 | x::d,t,h=>by
  rw [List.flatMap_cons]
  have hl:(encC x).length=3:=rfl
  rcases Nat.lt_or_ge t 3 with h3 | h3
  ·rw [List.getElem?_append_left (by omega),Nat.div_eq_of_lt h3,Nat.mod_eq_of_lt h3]; rfl
  ·rw [List.getElem?_append_right (by omega),hl,flat_get3 d (t-3) (by simp at h; omega)]
   have e1:t / 3=(t-3) / 3+1:=by omega
   have e2:(t-3) % 3=t % 3:=by omega
   rw [e1,e2]; simp
theorem mk_get (l:List Value) (j:Nat):(Array.mk l)[j]?=l[j]?:=by simp
theorem flatK_eq (d:List RawC):flatK encC 3 d.toArray=(d.flatMap encC).toArray:=by
 refine Array.ext_getElem? fun t=>?_
 have hr:(d.flatMap encC).toArray[t]?=(d.flatMap encC)[t]?:=by simp
 rw [hr]
 by_cases h:t<d.length*3
 ·rw [flat_get3 d t h]
  have hm:t % 3<(encC (d[t / 3]!)).length:=Nat.mod_lt _ (by decide)
  rw [List.getElem?_eq_getElem hm]
  have hs:t<(flatK encC 3 d.toArray).size:=by rw [size_flatK]; simpa using h
  have:=get_flatK encC 3 d.toArray t (by simpa using h)
  rw [Array.getElem?_eq_getElem hs]
  rw [getElem!_pos (flatK encC 3 d.toArray) t hs] at this
  rw [this]
  have e2:d.toArray[t / 3]! = d[t / 3]!:=by simp
  rw [e2,getElem!_pos (encC (d[t / 3]!)) (t % 3) hm]
 ·rw [Array.getElem?_eq_none (by rw [size_flatK]; simpa using h),List.getElem?_eq_none (by rw [flat_len3]; omega)]
theorem put_id (F ks sp:List Value) (hd:F.length=ks.length):putCells id 0 F.toArray ⟨ks++sp⟩=⟨F++sp⟩:=by
 unfold putCells
 refine Array.ext' ?_
 rw [Array.toList_mapIdx]
 refine List.ext_getElem? fun i=>?_
 rw [List.getElem?_mapIdx]
 by_cases hi:i<F.length
 ·rw [List.getElem?_append_left (by omega),List.getElem?_append_left (by omega)]
  simp [hi,show i<ks.length by omega]
 ·rw [List.getElem?_append_right (by omega),List.getElem?_append_right (by omega)]
  have:¬ i<ks.length:=by omega
  simp [this,hd]
theorem sortC_unique {l m:List TCell} (hp:l.Perm m) (nd:(l.map (·.ID)).Nodup) (hs:∀ i j:Nat,i<j→∀ a b,l[i]?=some a→l[j]?=some b→a.ID≤b.ID):l=m.mergeSort fun x y=>decide (x.ID≤y.ID):=by
 have tr:∀ a b c:TCell,decide (a.ID≤b.ID)=true→decide (b.ID≤c.ID)=true→decide (a.ID≤c.ID)=true:=by intro a b c h1 h2; simp at h1 h2 ⊢; omega
 have to:∀ a b:TCell,(decide (a.ID≤b.ID) || decide (b.ID≤a.ID))=true:=by intro a b; simp; omega
 have b:=List.pairwise_mergeSort (le:=fun x y:TCell=>decide (x.ID≤y.ID)) tr to m
 have a:l.Pairwise fun x y=>decide (x.ID≤y.ID)=true:=List.pairwise_iff_getElem.2 fun i j hi hj hij=>by
  have:=hs i j hij _ _ (List.getElem?_eq_getElem hi) (List.getElem?_eq_getElem hj)
  simpa using this
 have q:l.Perm (m.mergeSort fun x y=>decide (x.ID≤y.ID)):=hp.trans (List.mergeSort_perm m _).symm
 refine q.eq_of_pairwise (le:=fun x y=>decide (x.ID≤y.ID)=true) (fun x y hx hy h1 h2=>?_) a b
 have hy':y∈l:=q.mem_iff.2 hy
 have e:x.ID=y.ID:=by simp at h1 h2; omega
 obtain ⟨i,hi,rfl⟩:=List.mem_iff_getElem.1 hx
 obtain ⟨j,hj,rfl⟩:=List.mem_iff_getElem.1 hy'
 have:=(List.getElem_inj (h₀:=by simpa using hi) (h₁:=by simpa using hj) nd).1 (by simpa using e)
 subst this; rfl
section
variable {rr:Option Nat} {nn:Nat} {w0:World} {h0:Heap} {L Lk:Own} {p:Option Addr} {n c:Nat} {l:List TCell} {lim:Nat}
set_option maxRecDepth 100000 in
theorem pdqC_in (ho:OwnL TCellR 47 3 h (.slice p n c) l Lk) (h0l:0<l.length) (hl:l.length≤1000000) (nd:(l.map (·.ID)).Nodup) (hlim:lim<4611686018427387904) :
  FnIn ⟨Tryz.prog,rr,nn,w0,h0⟩ 156 #[.slice p n c,.int .i64 0,.int .i64 (l.length:Int),.int .i64 (lim:Int),.func (.func 99) #[] #[]] h (Lk++L) fun v h' L'=>v=.tuple #[]∧∃ M',OwnL TCellR 47 3 h' (.slice p n c) (l.mergeSort fun x y=>decide (x.ID≤y.ID)) M'∧L'=M'++L:=by
 intro w hs
 obtain ⟨xs,⟨hx1,hx2⟩,hc⟩:=ho
 obtain ⟨d,hd1,rfl,hd3⟩:=raw_of hc
 have hdl:d.length=l.length:=by rw [← hd1]; simp
 rcases hx2 with ⟨q,e,hq,h3,rfl⟩ | ⟨b,c',sp,e,rfl,h3,h4⟩
 ·omega
 ·cases e
  have hb:w.heap[b]?=some (row 47 (d.flatMap encC++sp)):=(hs.own (b,_) (by simp)).2.1
  have hbl:b<w.heap.size:=(Array.getElem?_eq_some_iff.1 hb).1
  have H:HoldsK encC 3 w b 0 d.toArray:=fun j hj=>by
   rw [flatK_eq] at hj ⊢
   have hj':j<(d.flatMap encC).length:=by simpa using hj
   constructor
   ·simp only [World.cell?,hb,row,Nat.zero_add]
    rw [getElem!_pos (d.flatMap encC).toArray j hj]
    show (Array.mk (d.flatMap encC++sp))[j]?=some (d.flatMap encC)[j]
    rw [mk_get,List.getElem?_append_left hj',List.getElem?_eq_getElem hj']
   ·simp [World.frozen?,hb,row]
  have eg:∀ args w,(callFunc 99 args).run Tryz.prog w=.ok (.enter 99 args) w:=enters_of Tryz.func99 (by kernel_rfl) rfl
  have cmp:CmpLays Tryz.prog 99 #[] encC 3 cfC b 0 d.toArray.size w:=fun _ _ _ _ x y=>closureC x y _
  have R:RowK encC 3 w b 0 d.toArray:=⟨fun _=>rfl,fun x v hv=>by simp [encC] at hv; rcases hv with rfl | rfl | rfl<;>rfl,H,hbl⟩
  have key:=AnyQ.pdqsortCmpFunc_all (P:=Tryz.prog) (ρ:=Tryz.pdqCell_ren) { Tryz.pdqCell with } 3 Tryz.isAgg47 Tryz.sizeOf47 encC cfC 99 #[] swoC b 0 c d.toArray w eg cmp R (d.toArray.size+1) 0 d.toArray.size lim d.toArray w (by omega) rfl (SWK.start H) (Nat.zero_le _) (Nat.le_refl _) (by simp; omega) hlim (Or.inl rfl)
  have hsz:d.toArray.size=l.length:=by simpa using hdl
  have hp:=pdq_sorts (ltOf cfC) swoC d.toArray 0 d.toArray.size lim true true (Nat.zero_le _) (Nat.le_refl _) (Or.inl rfl)
  generalize pdq (ltOf cfC) d.toArray 0 d.toArray.size lim true true=d' at key hp
  rw [hsz] at key
  refine key.mono ?_
  rintro e w' ⟨rfl,n,os,rfl⟩
  obtain ⟨⟨hp1,_,hp3⟩,hp4⟩:=hp
  have hps:d'.toList.Perm d:=by
   have h5:(d'.extract 0 d.toArray.size).toList=d'.toList:=by rw [← hp1]; simp
   have h6:(d.toArray.extract 0 d.toArray.size).toList=d:=by simp
   rwa [h5,h6] at hp3
  have hl':d'.toList.length=l.length:=by rw [hps.length_eq,hdl]
  have hsrt:d'.toList.map (·.1)=l.mergeSort fun x y=>decide (x.ID≤y.ID):=by
   have hpl:(d'.toList.map (·.1)).Perm l:=by have:=hps.map (·.1); rwa [hd1] at this
   refine sortC_unique hpl ((hpl.map (·.ID)).nodup_iff.2 nd) fun i j hij a b ha hb=>?_
   have hj:j<d'.toList.length:=by have:=(List.getElem?_eq_some_iff.1 hb).1; simpa using this
   have h7:=hp4 i j (Nat.zero_le _) hij (by rw [← hp1]; simpa using hj)
   rw [ltC] at h7
   have ei:d'[i]! = d'.toList[i]'(by omega):=by rw [getElem!_pos d' i (by simp at hj; omega)]; simp
   have ej:d'[j]! = d'.toList[j]'hj:=by rw [getElem!_pos d' j (by simpa using hj)]; simp
   rw [List.getElem?_map,List.getElem?_eq_getElem (by omega)] at ha
   rw [List.getElem?_map,List.getElem?_eq_getElem hj] at hb
   simp only [Option.map_some,Option.some.injEq] at ha hb
   rw [ei,ej,ha,hb] at h7
   have:=of_decide_eq_false h7
   omega
  have hfl:(d'.toList.flatMap encC).length=(d.flatMap encC).length:=by rw [flat_len3,flat_len3,hps.length_eq]
  have st:=(hs.ahead n)
  have st2:St w0 h0 h ([(b,row 47 (d'.toList.flatMap encC++sp))]++L) (putRowK encC 3 (Sort.ahead w n) b 0 d'):=by
   refine St.upd (L1:=[]) (L2:=L) st rfl rfl rfl (by simp [putRowK,putRow,mapBlock]) ?_ (fun k hk=>?_)
   ·have hF:=flatK_eq d'.toList
    rw [Array.toArray_toList] at hF
    simp only [putRowK,putRow,mapBlock,Array.getElem?_modify,Sort.ahead,hb]
    simp only [if_true,Option.map_some,row,onCells]
    rw [hF,put_id _ _ _ hfl]
   ·simp only [putRowK,putRow,mapBlock,Array.getElem?_modify,Sort.ahead]
    rw [if_neg (fun e=>hk e.symm)]
  have hcr:=cells_raw h d'.toList fun x hx=>hd3 x (hps.mem_iff.1 hx)
  rw [hsrt] at hcr
  have hml:(l.mergeSort fun x y=>decide (x.ID≤y.ID)).length=l.length:=by simp
  refine ⟨_,h,_,rfl,Ext.refl h,st2.grow os,rfl,_,⟨_,⟨?_,.inr ⟨b,c,sp,?_,rfl,?_,?_⟩⟩,hcr⟩,rfl⟩
  ·rw [hml,flat_len3,hl']
  ·rw [hml]
  ·rw [hml]; exact h3
  ·rw [List.length_append,hfl,← List.length_append]; exact h4
theorem Fn.of_calls {P:Program} {f:FuncId} {args:Array Value} {h:Heap} {v:Value} (k:∀ w,Calls P f args w fun e w'=>e=.returned v∧w'=w):Fn P f args h fun v' _=>v'=v:=fun w hw=>
 (k w).mono fun e w' ⟨he,hw'⟩=>by subst hw'; exact ⟨v,h,he,Below.refl _ _,Ext.refl h,fun _ _=>rfl,hw,rfl⟩
theorem sortC_own {x0:List TCell} {pp0_0:Option Addr} {nn0_0 cc0_0:Nat} {MM0_0:Own} (ww0_0:OwnL TCellR 47 3 h (.slice pp0_0 nn0_0 cc0_0) x0 MM0_0) {r:List TCell} (hm:M.sortC x0=some r) :
  FnIn ⟨Tryz.prog,rr,nn,w0,h0⟩ 98 #[.slice pp0_0 nn0_0 cc0_0,.func (.func 99) ⟨[]⟩ ⟨[]⟩] h ((MM0_0++([]))++L) fun v h' L'=>∃ (M0_0:Own),v=.tuple ⟨[]⟩∧OwnL TCellR 47 3 h' (.slice pp0_0 nn0_0 cc0_0) r M0_0∧L'=M0_0++(L):=by
 obtain ⟨⟨g1,g2,g3⟩,rfl⟩:=of_if2 hm
 refine FnIn.intro (args:=[_,_]) Tryz.func98 rfl rfl (Nat.le_of_ble_eq_true rfl) ?_
 refine J.eqL (L0:=MM0_0++(L)) (by simp) ?_
 have hn:=OwnL.len ww0_0
 refine J.seq ?_
 refine J.region ?_
 refine o_q (q_mvv (v:=.slice _ _ _) rfl) ?_
 refine o_q (q_lenE (k:=x0.length) rfl hn) ?_
 refine o_q (q_asv (v:=.int _ _) rfl) ?_
 refine JL.nil ?_
 refine J.region ?_
 refine o_q (q_mvv (v:=.slice _ _ _) rfl) ?_
 refine o_q (q_mvv (v:=.int _ _) rfl) ?_
 refine o_q (q_mvv (v:=.int _ _) rfl) ?_
 refine o_q (q_cv rfl (wu64 (by omega))) ?_
 have hlen:=fun w=>Any.bits_Len (SlLaysF0.n15.bits (P:=Tryz.prog) (ρ:=Tryz.bitsLen_ren) { Tryz.bitsLen with }) (x0.length:Int) w (by omega) (by omega)
 refine o_call (f:=157) (Fn.of_calls hlen) (fun v5 h5 s5 q5=>?_)
 obtain rfl:=(show _=_ from q5)
 refine o_q (q_mvv (v:=.func _ _ _) rfl) ?_
 have hb:Lib.bitLen (x0.length:Int).toNat<4611686018427387904:=Nat.lt_of_le_of_lt (Lib.bitLen_le _ 62 (by omega) (by rw [Int.toNat_natCast]; omega)) (by omega)
 refine o_calll (pdqC_in (L:=L) (OwnL.mono ww0_0) g1 g2 g3 hb) (fun v6 h6 L6 s6 r6=>?_)
 obtain ⟨rfl,M2,ho2,rfl⟩:=r6
 refine JL.nil ?_
 exact ret_okS (fn:=Tryz.f98) (L2:=M2++(L)) rfl .nil inferInstance ⟨M2,rfl,OwnL.mono ho2,rfl⟩
end
end Go.Z
end
section
namespace Go.Z
open Go Go.RowKit Go.Proofs
variable {h:Heap} {v1 v2:Value} {x y:Int}
theorem abs_fn' (r1:IntAt h v1 x) {r:Int} (hm:M.iabs x=some r):Fn Tryz.prog 91 #[v1] h fun v h'=>IntAt h' v r:=by
 obtain ⟨h1,rfl⟩:=of_if2 hm
 obtain ⟨p,c,rfl,hc,hg⟩:=r1.out
 refine Fn.intro (args:=[_]) Tryz.func91 rfl rfl (Nat.le_of_ble_eq_true rfl) fun w=>?_
 refine J.seq ?_
 refine J.region ?_
 refine o_bx (v:=.agg ⟨[.bool _,.slice _ _ _]⟩) rfl rfl (fun b1=>?_)
 refine o_al (fun b2=>?_)
 refine JL.nil ?_
 refine J.seq ?_
 refine J.region ?_
 refine o_q (q_fa rfl) ?_
 refine o_q (q_ld rfl inferInstance rfl) ?_
 refine o_q (q_bd [.bool _,.slice _ _ _] rfl) ?_
 refine o_stc (vs:=[.bool _,.slice _ _ _]) (l':=[.bool _,.slice _ _ _]) rfl rfl rfl rfl rfl inferInstance rfl rfl ?_
 refine JL.nil ?_
 refine J.ret ?_
 have key:IntAt h (.agg ⟨[.bool (decide (((x.natAbs:Nat):Int)<0)),.slice p (limbs x.natAbs).length c]⟩) (x.natAbs:Int):=IntAt.in (by rw [Int.natAbs_natCast]; exact hg)
 rw [show decide (((x.natAbs:Nat):Int)<0)=false from decide_eq_false (by omega)] at key
 exact ret_ok (fn:=Tryz.f91) rfl (.agg rfl inferInstance inferInstance .nil) key
theorem limbs_pos_iff (n:Nat):0<(limbs n).length↔n≠0:=by
 by_cases h:n=0
 ·subst h; rw [limbs_zero]; simp
 ·rw [limbs_pos h]; simp [h]
theorem neg_fn' (r1:IntAt h v1 x) {r:Int} (hm:M.ineg x=some r):Fn Tryz.prog 149 #[v1] h fun v h'=>IntAt h' v r:=by
 obtain ⟨h1,rfl⟩:=of_if2 hm
 obtain ⟨p,c,rfl,hc,hg⟩:=r1.out
 refine Fn.intro (args:=[_]) Tryz.func149 rfl rfl (Nat.le_of_ble_eq_true rfl) fun w=>?_
 refine J.seq ?_
 refine J.region ?_
 refine o_bx (v:=.agg ⟨[.bool _,.slice _ _ _]⟩) rfl rfl (fun b1=>?_)
 refine o_al (fun b2=>?_)
 refine JL.nil ?_
 refine J.seq ?_
 refine J.region ?_
 refine o_q (q_fa rfl) ?_
 refine o_q (q_ld rfl inferInstance rfl) ?_
 refine o_q (q_not rfl) ?_
 refine o_q (q_mvv (v:=.bool _) rfl) ?_
 have key:IntAt h (.agg ⟨[.bool (decide (-x<0)),.slice p (limbs x.natAbs).length c]⟩) (-x):=IntAt.in (by rw [Int.natAbs_neg]; exact hg)
 by_cases hx:x<0
 ·rw [show decide (-x<0)=false from decide_eq_false (by omega)] at key
  rw [show decide (x<0)=true from decide_eq_true hx]
  refine JL.guardF (b:=false) rfl rfl rfl rfl ?_
  refine JL.guardF (b:=false) rfl rfl rfl rfl ?_
  refine JL.guardF (b:=false) rfl rfl rfl rfl ?_
  refine JL.guardF (b:=false) rfl rfl rfl rfl ?_
  refine o_q (pkF rfl rfl rfl) ?_
  refine o_q (q_fa rfl) ?_
  refine o_q (q_ld rfl inferInstance rfl) ?_
  refine o_q (q_bd [.bool _,.slice _ _ _] rfl) ?_
  refine o_stc (vs:=[.bool _,.slice _ _ _]) (l':=[.bool _,.slice _ _ _]) rfl rfl rfl rfl rfl inferInstance rfl rfl ?_
  refine JL.nil ?_
  refine J.ret ?_
  exact ret_ok (fn:=Tryz.f149) rfl (.agg rfl inferInstance inferInstance .nil) key
 ·have e:decide (-x<0)=decide ((0:Int)<((limbs x.natAbs).length:Int)):=decide_eq_decide.2 (by
   have:=limbs_pos_iff x.natAbs
   constructor
   ·intro h; have:=this.2 (by omega); omega
   ·intro h; have:=this.1 (by omega); omega)
  rw [e] at key
  rw [show decide (x<0)=false from decide_eq_false hx]
  refine JL.guardT (b:=true) rfl rfl rfl ?_
  refine o_q (q_fa rfl) ?_
  refine JL.guardT (b:=true) rfl rfl rfl ?_
  refine o_q (q_ld rfl inferInstance rfl) ?_
  refine JL.guardT (b:=true) rfl rfl rfl ?_
  refine o_q (q_lenE (k:=(limbs x.natAbs).length) rfl rfl) ?_
  refine JL.guardT (b:=true) rfl rfl rfl ?_
  refine o_q (q_gtr rfl rfl) ?_
  refine o_q (pkT rfl rfl rfl) ?_
  refine o_q (q_fa rfl) ?_
  refine o_q (q_ld rfl inferInstance rfl) ?_
  refine o_q (q_bd [.bool _,.slice _ _ _] rfl) ?_
  refine o_stc (vs:=[.bool _,.slice _ _ _]) (l':=[.bool _,.slice _ _ _]) rfl rfl rfl rfl rfl inferInstance rfl rfl ?_
  refine JL.nil ?_
  refine J.ret ?_
  exact ret_ok (fn:=Tryz.f149) rfl (.agg rfl inferInstance inferInstance .nil) key
end Go.Z
end
