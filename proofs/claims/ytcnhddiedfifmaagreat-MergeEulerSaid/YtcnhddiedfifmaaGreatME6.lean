/- Texts of ours, joined: M4W, M5W, M6W, Own6. -/
import Derived.Test.YtcnhddiedfifmaaGreatME3
import Derived.Test.YtcnhddiedfifmaaGreatME4
import Derived.Test.YtcnhddiedfifmaaGreatME1
import Derived.Test.YtcnhddiedfifmaaGreatME5
import Derived.Test.YtcnhddiedfifmaaGreatME2
set_option linter.unusedSimpArgs false
set_option linter.unusedVariables false
set_option linter.unusedSectionVars false
set_option linter.deprecated false
set_option maxHeartbeats 4000000
section
namespace Go.Z
open Go Go.RowKit Go.Proofs
theorem slices_IndexFunc_Complex_Cell_own {rr:Option Nat} {nn:Nat} {w0:World} {h0 h:Heap} {L:Own} {x0:List TCell} {x1:TCell→Option Bool} {pp0_0:Option Addr} {nn0_0 cc0_0:Nat} {MM0_0:Own} {g1_:FuncId} {cap1_:List Value} [Ent Tryz.prog g1_] (ww0_0:OwnL TCellR 47 3 h (.slice pp0_0 nn0_0 cc0_0) x0 MM0_0) (r1:∀ {h':Heap},Ext h h'→∀ (a0:TCell) (w0:Value),AggV TCellR h' w0 a0→∀ c,x1 a0=some c→Fn Tryz.prog g1_ (List.toArray ([]++[w0]++cap1_)) h' (fun v h''=>v=.bool c)) {r:Int×(List TCell)} (hm:M.slices_IndexFunc_Complex_Cell x0 x1=some r) :
    FnIn ⟨Tryz.prog,rr,nn,w0,h0⟩ 191 #[.slice pp0_0 nn0_0 cc0_0,.func (.func g1_) ⟨[]⟩ ⟨cap1_⟩] h ((MM0_0++([]))++L) fun v h' L'=>∃ (M1_0:Own),v=.int .i64 r.1∧OwnL TCellR 47 3 h' (.slice pp0_0 nn0_0 cc0_0) r.2 M1_0∧L'=M1_0++(L):=by
 refine FnIn.intro (args:=[_,_]) Tryz.func191 rfl rfl (lB rfl)<|J.eqL (L0:=MM0_0++(L)) (by simp)<|SR<|oq (aI rfl)<|N0<|Sq<|SR<|oq (mS rfl)<|oq (q_lenE (k:=x0.length) rfl (OwnL.len ww0_0))<|oq (mI rfl)<|N0<|Jb ?_
 obtain ⟨_,hm⟩:=rngL_some hm
 refine J.loopK (α:=Nat×(List TCell)×Own) (fun ⟨a,d,b⟩ h' L'=>OwnL TCellR 47 3 h' (.slice pp0_0 nn0_0 cc0_0) d b∧forL (M.slices_IndexFunc_Complex_Cell_b1 x1) M.slices_IndexFunc_Complex_Cell_k1 (List.drop a x0) a d=some r∧Sp (b++(L)) L') [(1,.func _ _ _),(7,.int _ _)] ⟨rfl,rfl,trivial⟩ (fun ⟨a,d,b⟩=>[(0,.slice pp0_0 nn0_0 cc0_0),(8,.int .i64 (a:Int))]) (fun ⟨a,d,b⟩=>x0.length-a) ⟨0,x0,MM0_0⟩ ⟨(Om ww0_0),hm,ii⟩ ⟨rfl,rfl,trivial⟩ ?_
 rintro ⟨a,d,b⟩ _ _ _ _ ⟨q,hm,p⟩
 refine J.sp p<|SR<|oq (q_lss rfl rfl)<|N0<|Sq ?_
 by_cases j:(a:Int)<(x0.length:Int)
 · obtain ⟨_,_,w,_,hm,n⟩:=forL_cons j hm
   unfold M.slices_IndexFunc_Complex_Cell_b1 at hm
   refine jT rfl (dT j) ?_
   have A:-9223372036854775808≤(a:Int)+1∧(a:Int)+1≤9223372036854775807:=by omega
   refine Js<|Sq<|Jb<|SR<|oq (mI rfl)<|oq (aI rfl)<|N0<|Sq<|nE hm fun _ _ t o x hm=>?_
   obtain ⟨l,e,rfl,rfl,g,i⟩:=OwnL.blk q o
   obtain ⟨_,u,s,_⟩:=OwnC.get i x
   obtain ⟨_,_,_,rfl,z⟩:=s
   refine bE hm fun _ y hm=>Rg<|oq (q_mvv (v:=.func _ _ _) rfl)<|oq (mS rfl)<|oq (mI rfl)<|oq (q_ian rfl rfl t (by rw [g]; exact o))<|oq (q_ldOa0 rfl ii u)<|o_callv (f:=g1_) rfl (r1 ii _ _ ⟨_,rfl,⟨_,_,_,rfl,Sm z⟩⟩ _ y) fun _ _ _ B=>?_
   cases B
   refine N0<|iC hm (fun m hm=>?_) fun m hm=>?_
   · refine jT rfl m<|SR<|oq (mI rfl)<|oq (aI rfl)<|N0<|have hm:=inr_onward hm n; Jr ?_
     cases hm
     exact ret_okS (fn:=Tryz.f191) (L2:=[(l,row 47 e)]++(L)) rfl (.tmp rfl .nil) ii ⟨[(l,row 47 e)],rfl,(OwnC.own (OwnC.mono i) g),rfl⟩
   · refine jF rfl (nT m)<|Js<|Rg<|oq (q_add rfl rfl (wi64 A))<|oq (mI rfl)<|N0<|have hm:=inl_onward hm n; ?_
     exact ⟨⟨a+1,d,[(l,row 47 e)]⟩,rfl,⟨rfl,rfl,trivial⟩,⟨rfl,rfl,trivial⟩,⟨(OwnC.own (OwnC.mono i) g),hm,ii⟩,(muL w),ii⟩
 · replace hm:=forL_nil j hm
   unfold M.slices_IndexFunc_Complex_Cell_k1 at hm
   refine jF rfl (dF j)<|Jx<|SR<|oq (aI rfl)<|N0<|Jr ?_
   cases hm
   exact ret_okS (fn:=Tryz.f191) (L2:=b++(L)) rfl (.tmp rfl .nil) ii ⟨b,rfl,(Om q),rfl⟩
theorem slices_DeleteFunc_Complex_Cell_own {rr:Option Nat} {nn:Nat} {w0:World} {h0 h:Heap} {L:Own} {x0:List TCell} {x1:TCell→Option Bool} {pp0_0:Option Addr} {nn0_0 cc0_0:Nat} {MM0_0:Own} {g1_:FuncId} {cap1_:List Value} [Ent Tryz.prog g1_] (ww0_0:OwnL TCellR 47 3 h (.slice pp0_0 nn0_0 cc0_0) x0 MM0_0) (r1:∀ {h':Heap},Ext h h'→∀ (a0:TCell) (w0:Value),AggV TCellR h' w0 a0→∀ c,x1 a0=some c→Fn Tryz.prog g1_ (List.toArray ([]++[w0]++cap1_)) h' (fun v h''=>v=.bool c)) {r:List TCell} (hm:M.slices_DeleteFunc_Complex_Cell x0 x1=some r) :
    FnIn ⟨Tryz.prog,rr,nn,w0,h0⟩ 143 #[.slice pp0_0 nn0_0 cc0_0,.func (.func g1_) ⟨[]⟩ ⟨cap1_⟩] h ((MM0_0++([]))++L) fun v h' L'=>∃ (p0_0:Option Addr) (n0_0 c0_0:Nat) (M0_0:Own),v=.slice p0_0 n0_0 c0_0∧OwnL TCellR 47 3 h' (.slice p0_0 n0_0 c0_0) r M0_0∧L'=M0_0++(L):=by
 refine FnIn.intro (args:=[_,_]) Tryz.func143 rfl rfl (lB rfl)<|J.eqL (L0:=MM0_0++(L)) (by simp)<|SR<|oq (aS rfl)<|N0<|Sq<|bE hm fun H Z hm=>Rg<|oq (mS rfl)<|oq (q_mvv (v:=.func _ _ _) rfl)<|o_callio (MM0_0++([])) (slices_IndexFunc_Complex_Cell_own (Om ww0_0) r1 Z) fun _ _ _ _ ag=>?_
 obtain ⟨y,rfl,F,rfl⟩:=ag
 refine oq (aI rfl)<|N0<|Sq<|SR<|oq (mI rfl)<|oq (q_eql rfl rfl)<|N0<|iC hm (fun z hm=>?_) fun z hm=>?_
 · refine jT rfl (dT z)<|SR<|oq (mS rfl)<|oq (aS rfl)<|N0<|Jr ?_
   cases hm
   exact ret_okS (fn:=Tryz.f143) (L2:=y++(L)) rfl (.tmp rfl .nil) ii ⟨pp0_0,nn0_0,cc0_0,y,rfl,(Om F),rfl⟩
 · refine jF rfl (dF z)<|Js<|Sq<|Sq<|kS hm fun ac hm=>Rg<|oq (mI rfl)<|oq (q_add rfl rfl (wi64 ac))<|oq (aI rfl)<|N0<|Jb ?_
   replace hm:=(show iter _ fuel _=some _ from hm)
   refine J.loopK (α:=Nat×(List TCell)×Int×Int×(Option Addr)×Nat×Nat×Own) (fun ⟨q,d,b,l,m,g,e,p⟩ h' L'=>OwnL TCellR 47 3 h' (.slice m g e) d p∧iter (M.slices_DeleteFunc_Complex_Cell_b1 x1) q (d,b,l)=some r∧Sp (p++(L)) L') [(1,.func _ _ _)] ⟨rfl,trivial⟩ (fun ⟨q,d,b,l,m,g,e,p⟩=>[(0,.slice m g e),(5,.int .i64 b),(6,.int .i64 l)]) (fun ⟨q,d,b,l,m,g,e,p⟩=>q) ⟨fuel,H.2,H.1,H.1+1,pp0_0,nn0_0,cc0_0,y⟩ ⟨(Om F),hm,ii⟩ ⟨rfl,rfl,rfl,trivial⟩ ?_
   rintro ⟨q,d,b,l,m,g,e,p⟩ _ _ _ _ ⟨u,hm,G⟩
   refine J.sp G ?_
   obtain ⟨K,_,rfl,hm,s⟩:=iter_some hm
   unfold M.slices_DeleteFunc_Complex_Cell_b1 at hm
   refine Sq<|SR<|oq (mI rfl)<|oq (mS rfl)<|oq (q_lenE (k:=d.length) rfl (OwnL.len u))<|oq (q_lss rfl rfl)<|N0<|iC hm (fun A hm=>?_) fun A hm=>?_
   · refine jT rfl (dT A)<|Js<|Sq<|Jb<|Sq<|nE hm fun _ N T D W hm=>?_
     obtain ⟨t,O,rfl,rfl,n,o⟩:=OwnL.blk u D
     obtain ⟨_,U,Q,_⟩:=OwnC.get o W
     obtain ⟨_,_,_,rfl,I⟩:=Q
     refine Rg<|oq (mS rfl)<|oq (mI rfl)<|oq (q_ian rfl rfl T (by rw [n]; exact D))<|oq (q_ldOa0 rfl ii U)<|o_al fun _=>Sc [.int _ _,.int _ _,.slice _ _ _] [.int _ _,.int _ _,.slice _ _ _] rfl rfl rfl rfl rfl ia rfl rfl<|N0<|Sq<|bE hm fun _ aa hm=>Rg<|oq (q_mvv (v:=.func _ _ _) rfl)<|oq (q_lda (vs:=[_,_,_]) rfl ii ⟨rfl,rfl,rfl,trivial⟩)<|o_callv (f:=g1_) rfl (r1 ii _ _ ⟨_,rfl,⟨_,_,_,rfl,Sm I⟩⟩ _ aa) fun _ _ _ ah=>?_
     cases ah
     refine oq (q_not rfl)<|N0<|iC hm (fun B hm=>?_) fun B hm=>?_
     · refine jF rfl (bT (B))<|Js<|kS hm fun ad hm=>Rg<|oq (mI rfl)<|oq (q_add rfl rfl (wi64 ad))<|oq (aI rfl)<|N0<|have hm:=inl_onward hm s; ?_
       exact ⟨⟨K,d,b,l+1,(some ⟨t,0,none⟩),g,e,[(t,row 47 O)]⟩,rfl,⟨rfl,trivial⟩,⟨rfl,rfl,rfl,trivial⟩,⟨(OwnC.own (OwnC.mono o) n),hm,ii⟩,(Nat.lt_succ_self _),ii⟩
     · refine jT rfl (bF ((nT B)))<|Sq<|nE hm fun _ _ C E X hm=>?_
       obtain ⟨_,V,S,_⟩:=OwnC.get o X
       obtain ⟨_,_,_,rfl,_⟩:=S
       refine Rg<|oq (mS rfl)<|oq (mI rfl)<|oq (q_lda (vs:=[_,_,_]) rfl ii ⟨rfl,rfl,rfl,trivial⟩)<|oq (q_ian rfl rfl C (by rw [n]; exact E))<|o_stO0 (us1:=[_,_,_]) (ps:=[_,_,_]) (a:=N) Sz.i rfl rfl rfl rfl (OwnC.mono o) ii E V rfl (lB rfl) rfl ⟨_,_,_,rfl,Sm I⟩ (setL_eq C) fun P Y=>N0<|kS hm fun ae hm=>Rg<|oq (mI rfl)<|oq (q_add rfl rfl (wi64 ae))<|oq (aI rfl)<|N0<|kS hm fun af hm=>Rg<|oq (mI rfl)<|oq (q_add rfl rfl (wi64 af))<|oq (aI rfl)<|N0<|have hm:=inl_onward hm s; ?_
       exact ⟨⟨K,(setL d b N),b+1,l+1,(some ⟨t,0,none⟩),g,e,[(t,row 47 P)]⟩,rfl,⟨rfl,trivial⟩,⟨rfl,rfl,rfl,trivial⟩,⟨(OwnC.own (OwnC.mono Y) (setL_hn n)),hm,ii⟩,(Nat.lt_succ_self _),ii⟩
   · refine jF rfl (dF A)<|Jx<|have hm:=inr_onward hm s; Sq<|bE hm fun _ ab hm=>?_
     obtain ⟨_,_,_,_,_,_,_⟩:=cutL_some ab
     have j:0≤b∧b≤(g:Int)∧(b).toNat≤d.length:=by have:=OwnL.len u; omega
     refine Rg<|oq (mS rfl)<|oq (mI rfl)<|oq (q_tailL rfl rfl ⟨j.1,j.2.1⟩)<|o_clearL (R:=TCellR) (sz:=3) (i:=(b).toNat) (Om u) j.2.2 rfl rfl rfl fun x w=>N0<|SR<|oq (mS rfl)<|oq (mI rfl)<|oq (q_headL rfl rfl j.1 (OwnL.cap w))<|oq (aS rfl)<|N0<|Jr ?_
     cases hm
     exact ret_okS (fn:=Tryz.f143) (L2:=x++(L)) rfl (.tmp rfl .nil) ii ⟨m,(b).toNat,e,x,rfl,(Om w),rfl⟩
theorem slices_IndexFunc_Chain_Face_own {rr:Option Nat} {nn:Nat} {w0:World} {h0 h:Heap} {L:Own} {x0:List TFace} {x1:TFace→Option Bool} {pp0_0:Option Addr} {nn0_0 cc0_0:Nat} {MM0_0:Own} {g1_:FuncId} {cap1_:List Value} [Ent Tryz.prog g1_] (ww0_0:OwnL TFaceR 133 3 h (.slice pp0_0 nn0_0 cc0_0) x0 MM0_0) (r1:∀ {h':Heap},Ext h h'→∀ (a0:TFace) (w0:Value),AggV TFaceR h' w0 a0→∀ c,x1 a0=some c→Fn Tryz.prog g1_ (List.toArray ([]++[w0]++cap1_)) h' (fun v h''=>v=.bool c)) {r:Int×(List TFace)} (hm:M.slices_IndexFunc_Chain_Face x0 x1=some r) :
    FnIn ⟨Tryz.prog,rr,nn,w0,h0⟩ 155 #[.slice pp0_0 nn0_0 cc0_0,.func (.func g1_) ⟨[]⟩ ⟨cap1_⟩] h ((MM0_0++([]))++L) fun v h' L'=>∃ (M1_0:Own),v=.int .i64 r.1∧OwnL TFaceR 133 3 h' (.slice pp0_0 nn0_0 cc0_0) r.2 M1_0∧L'=M1_0++(L):=by
 refine FnIn.intro (args:=[_,_]) Tryz.func155 rfl rfl (lB rfl)<|J.eqL (L0:=MM0_0++(L)) (by simp)<|SR<|oq (aI rfl)<|N0<|Sq<|SR<|oq (mS rfl)<|oq (q_lenE (k:=x0.length) rfl (OwnL.len ww0_0))<|oq (mI rfl)<|N0<|Jb ?_
 obtain ⟨_,hm⟩:=rngL_some hm
 refine J.loopK (α:=Nat×(List TFace)×Own) (fun ⟨a,d,b⟩ h' L'=>OwnL TFaceR 133 3 h' (.slice pp0_0 nn0_0 cc0_0) d b∧forL (M.slices_IndexFunc_Chain_Face_b1 x1) M.slices_IndexFunc_Chain_Face_k1 (List.drop a x0) a d=some r∧Sp (b++(L)) L') [(1,.func _ _ _),(7,.int _ _)] ⟨rfl,rfl,trivial⟩ (fun ⟨a,d,b⟩=>[(0,.slice pp0_0 nn0_0 cc0_0),(8,.int .i64 (a:Int))]) (fun ⟨a,d,b⟩=>x0.length-a) ⟨0,x0,MM0_0⟩ ⟨(Om ww0_0),hm,ii⟩ ⟨rfl,rfl,trivial⟩ ?_
 rintro ⟨a,d,b⟩ _ _ _ _ ⟨q,hm,p⟩
 refine J.sp p<|SR<|oq (q_lss rfl rfl)<|N0<|Sq ?_
 by_cases j:(a:Int)<(x0.length:Int)
 · obtain ⟨_,_,w,_,hm,n⟩:=forL_cons j hm
   unfold M.slices_IndexFunc_Chain_Face_b1 at hm
   refine jT rfl (dT j) ?_
   have A:-9223372036854775808≤(a:Int)+1∧(a:Int)+1≤9223372036854775807:=by omega
   refine Js<|Sq<|Jb<|SR<|oq (mI rfl)<|oq (aI rfl)<|N0<|Sq<|nE hm fun _ _ t o x hm=>?_
   obtain ⟨l,e,rfl,rfl,g,i⟩:=OwnL.blk q o
   obtain ⟨_,u,s,_⟩:=OwnC.get i x
   obtain ⟨_,_,_,_,rfl,z⟩:=s
   refine bE hm fun _ y hm=>Rg<|oq (q_mvv (v:=.func _ _ _) rfl)<|oq (mS rfl)<|oq (mI rfl)<|oq (q_ian rfl rfl t (by rw [g]; exact o))<|oq (q_ldOa0 rfl ii u)<|o_callv (f:=g1_) rfl (r1 ii _ _ ⟨_,rfl,⟨_,_,_,_,rfl,(Mo.up z)⟩⟩ _ y) fun _ _ _ B=>?_
   cases B
   refine N0<|iC hm (fun m hm=>?_) fun m hm=>?_
   · refine jT rfl m<|SR<|oq (mI rfl)<|oq (aI rfl)<|N0<|have hm:=inr_onward hm n; Jr ?_
     cases hm
     exact ret_okS (fn:=Tryz.f155) (L2:=[(l,row 133 e)]++(L)) rfl (.tmp rfl .nil) ii ⟨[(l,row 133 e)],rfl,(OwnC.own (OwnC.mono i) g),rfl⟩
   · refine jF rfl (nT m)<|Js<|Rg<|oq (q_add rfl rfl (wi64 A))<|oq (mI rfl)<|N0<|have hm:=inl_onward hm n; ?_
     exact ⟨⟨a+1,d,[(l,row 133 e)]⟩,rfl,⟨rfl,rfl,trivial⟩,⟨rfl,rfl,trivial⟩,⟨(OwnC.own (OwnC.mono i) g),hm,ii⟩,(muL w),ii⟩
 · replace hm:=forL_nil j hm
   unfold M.slices_IndexFunc_Chain_Face_k1 at hm
   refine jF rfl (dF j)<|Jx<|SR<|oq (aI rfl)<|N0<|Jr ?_
   cases hm
   exact ret_okS (fn:=Tryz.f155) (L2:=b++(L)) rfl (.tmp rfl .nil) ii ⟨b,rfl,(Om q),rfl⟩
theorem slices_DeleteFunc_Chain_Face_own {rr:Option Nat} {nn:Nat} {w0:World} {h0 h:Heap} {L:Own} {x0:List TFace} {x1:TFace→Option Bool} {pp0_0:Option Addr} {nn0_0 cc0_0:Nat} {MM0_0:Own} {g1_:FuncId} {cap1_:List Value} [Ent Tryz.prog g1_] (ww0_0:OwnL TFaceR 133 3 h (.slice pp0_0 nn0_0 cc0_0) x0 MM0_0) (r1:∀ {h':Heap},Ext h h'→∀ (a0:TFace) (w0:Value),AggV TFaceR h' w0 a0→∀ c,x1 a0=some c→Fn Tryz.prog g1_ (List.toArray ([]++[w0]++cap1_)) h' (fun v h''=>v=.bool c)) {r:List TFace} (hm:M.slices_DeleteFunc_Chain_Face x0 x1=some r) :
    FnIn ⟨Tryz.prog,rr,nn,w0,h0⟩ 94 #[.slice pp0_0 nn0_0 cc0_0,.func (.func g1_) ⟨[]⟩ ⟨cap1_⟩] h ((MM0_0++([]))++L) fun v h' L'=>∃ (p0_0:Option Addr) (n0_0 c0_0:Nat) (M0_0:Own),v=.slice p0_0 n0_0 c0_0∧OwnL TFaceR 133 3 h' (.slice p0_0 n0_0 c0_0) r M0_0∧L'=M0_0++(L):=by
 refine FnIn.intro (args:=[_,_]) Tryz.func94 rfl rfl (lB rfl)<|J.eqL (L0:=MM0_0++(L)) (by simp)<|SR<|oq (aS rfl)<|N0<|Sq<|bE hm fun H aa hm=>Rg<|oq (mS rfl)<|oq (q_mvv (v:=.func _ _ _) rfl)<|o_callio (MM0_0++([])) (slices_IndexFunc_Chain_Face_own (Om ww0_0) r1 aa) fun _ _ _ _ ag=>?_
 obtain ⟨y,rfl,F,rfl⟩:=ag
 refine oq (aI rfl)<|N0<|Sq<|SR<|oq (mI rfl)<|oq (q_eql rfl rfl)<|N0<|iC hm (fun z hm=>?_) fun z hm=>?_
 · refine jT rfl (dT z)<|SR<|oq (mS rfl)<|oq (aS rfl)<|N0<|Jr ?_
   cases hm
   exact ret_okS (fn:=Tryz.f94) (L2:=y++(L)) rfl (.tmp rfl .nil) ii ⟨pp0_0,nn0_0,cc0_0,y,rfl,(Om F),rfl⟩
 · refine jF rfl (dF z)<|Js<|Sq<|Sq<|kS hm fun ac hm=>Rg<|oq (mI rfl)<|oq (q_add rfl rfl (wi64 ac))<|oq (aI rfl)<|N0<|Jb ?_
   replace hm:=(show iter _ fuel _=some _ from hm)
   refine J.loopK (α:=Nat×(List TFace)×Int×Int×(Option Addr)×Nat×Nat×Own) (fun ⟨q,d,b,l,m,g,e,p⟩ h' L'=>OwnL TFaceR 133 3 h' (.slice m g e) d p∧iter (M.slices_DeleteFunc_Chain_Face_b1 x1) q (d,b,l)=some r∧Sp (p++(L)) L') [(1,.func _ _ _)] ⟨rfl,trivial⟩ (fun ⟨q,d,b,l,m,g,e,p⟩=>[(0,.slice m g e),(5,.int .i64 b),(6,.int .i64 l)]) (fun ⟨q,d,b,l,m,g,e,p⟩=>q) ⟨fuel,H.2,H.1,H.1+1,pp0_0,nn0_0,cc0_0,y⟩ ⟨(Om F),hm,ii⟩ ⟨rfl,rfl,rfl,trivial⟩ ?_
   rintro ⟨q,d,b,l,m,g,e,p⟩ _ _ _ _ ⟨u,hm,G⟩
   refine J.sp G ?_
   obtain ⟨K,_,rfl,hm,s⟩:=iter_some hm
   unfold M.slices_DeleteFunc_Chain_Face_b1 at hm
   refine Sq<|SR<|oq (mI rfl)<|oq (mS rfl)<|oq (q_lenE (k:=d.length) rfl (OwnL.len u))<|oq (q_lss rfl rfl)<|N0<|iC hm (fun A hm=>?_) fun A hm=>?_
   · refine jT rfl (dT A)<|Js<|Sq<|Jb<|Sq<|nE hm fun _ N U D X hm=>?_
     obtain ⟨t,O,rfl,rfl,n,o⟩:=OwnL.blk u D
     obtain ⟨_,V,S,_⟩:=OwnC.get o X
     obtain ⟨_,_,_,_,rfl,I⟩:=S
     refine Rg<|oq (mS rfl)<|oq (mI rfl)<|oq (q_ian rfl rfl U (by rw [n]; exact D))<|oq (q_ldOa0 rfl ii V)<|o_al fun _=>Sc [.int _ _,.bool _,.slice _ _ _] [.int _ _,.bool _,.slice _ _ _] rfl rfl rfl rfl rfl ia rfl rfl<|N0<|Sq<|bE hm fun _ ab hm=>Rg<|oq (q_mvv (v:=.func _ _ _) rfl)<|oq (q_lda (vs:=[_,_,_]) rfl ii ⟨rfl,rfl,rfl,trivial⟩)<|o_callv (f:=g1_) rfl (r1 ii _ _ ⟨_,rfl,⟨_,_,_,_,rfl,(Mo.up I)⟩⟩ _ ab) fun _ _ _ ah=>?_
     cases ah
     refine oq (q_not rfl)<|N0<|iC hm (fun B hm=>?_) fun B hm=>?_
     · refine jF rfl (bT (B))<|Js<|kS hm fun ad hm=>Rg<|oq (mI rfl)<|oq (q_add rfl rfl (wi64 ad))<|oq (aI rfl)<|N0<|have hm:=inl_onward hm s; ?_
       exact ⟨⟨K,d,b,l+1,(some ⟨t,0,none⟩),g,e,[(t,row 133 O)]⟩,rfl,⟨rfl,trivial⟩,⟨rfl,rfl,rfl,trivial⟩,⟨(OwnC.own (OwnC.mono o) n),hm,ii⟩,(Nat.lt_succ_self _),ii⟩
     · refine jT rfl (bF ((nT B)))<|Sq<|nE hm fun _ _ C E Y hm=>?_
       obtain ⟨_,W,T,_⟩:=OwnC.get o Y
       obtain ⟨_,_,_,_,rfl,_⟩:=T
       refine Rg<|oq (mS rfl)<|oq (mI rfl)<|oq (q_lda (vs:=[_,_,_]) rfl ii ⟨rfl,rfl,rfl,trivial⟩)<|oq (q_ian rfl rfl C (by rw [n]; exact E))<|o_stO0 (us1:=[_,_,_]) (ps:=[_,_,_]) (a:=N) Sz.i rfl rfl rfl rfl (OwnC.mono o) ii E W rfl (lB rfl) rfl ⟨_,_,_,_,rfl,(Mo.up I)⟩ (setL_eq C) fun P Z=>N0<|kS hm fun ae hm=>Rg<|oq (mI rfl)<|oq (q_add rfl rfl (wi64 ae))<|oq (aI rfl)<|N0<|kS hm fun af hm=>Rg<|oq (mI rfl)<|oq (q_add rfl rfl (wi64 af))<|oq (aI rfl)<|N0<|have hm:=inl_onward hm s; ?_
       exact ⟨⟨K,(setL d b N),b+1,l+1,(some ⟨t,0,none⟩),g,e,[(t,row 133 P)]⟩,rfl,⟨rfl,trivial⟩,⟨rfl,rfl,rfl,trivial⟩,⟨(OwnC.own (OwnC.mono Z) (setL_hn n)),hm,ii⟩,(Nat.lt_succ_self _),ii⟩
   · refine jF rfl (dF A)<|Jx<|have hm:=inr_onward hm s; Sq<|bE hm fun _ Q hm=>?_
     obtain ⟨_,_,_,_,_,_,_⟩:=cutL_some Q
     have j:0≤b∧b≤(g:Int)∧(b).toNat≤d.length:=by have:=OwnL.len u; omega
     refine Rg<|oq (mS rfl)<|oq (mI rfl)<|oq (q_tailL rfl rfl ⟨j.1,j.2.1⟩)<|o_clearL (R:=TFaceR) (sz:=3) (i:=(b).toNat) (Om u) j.2.2 rfl rfl rfl fun x w=>N0<|SR<|oq (mS rfl)<|oq (mI rfl)<|oq (q_headL rfl rfl j.1 (OwnL.cap w))<|oq (aS rfl)<|N0<|Jr ?_
     cases hm
     exact ret_okS (fn:=Tryz.f94) (L2:=x++(L)) rfl (.tmp rfl .nil) ii ⟨m,(b).toNat,e,x,rfl,(Om w),rfl⟩
theorem slices_Index_L_2_int_2_int_fn {h:Heap} {x0:List (Int×Int)} {x1:Int×Int} {v0:Value} {v1:Value} (r0:Sls A2IntR 2 h v0 x0) (r1:AggV A2IntR h v1 x1) {r:Int} (hm:M.slices_Index_L_2_int_2_int x0 x1=some r) :
    Fn Tryz.prog 178 #[v0,v1] h fun v h'=>v=.int .i64 r:=by
 obtain ⟨_,_,_,rfl,d⟩:=r0.op3
 obtain ⟨_,rfl,r1q⟩:=r1
 cases r1q
 refine Fn.intro (args:=[_,_]) Tryz.func178 rfl rfl (lB rfl) fun w=>?_
 unfold M.slices_Index_L_2_int_2_int at hm
 refine SR<|o_bx (v:=.agg ⟨[.int _ _,.int _ _]⟩) rfl rfl fun i=>oq (aI rfl)<|N0<|Sq<|SR<|oq (mS rfl)<|oq (q_lenE (k:=x0.length) rfl (Sls.len d))<|oq (mI rfl)<|N0<|Jb ?_
 obtain ⟨_,hm⟩:=rngL_some hm
 refine J.loopK (α:=Nat) (fun a h' L'=>forL (M.slices_Index_L_2_int_2_int_b1 x1) M.slices_Index_L_2_int_2_int_k1 (List.drop a x0) a ()=some r∧Sp ([(i,row 59 [.int .i64 x1.1,.int .i64 x1.2])]) L') [(0,.slice _ _ _),(3,.pointer _),(7,.int _ _)] ⟨rfl,rfl,rfl,trivial⟩ (fun a=>[(8,.int .i64 (a:Int))]) (fun a=>x0.length-a) 0 ⟨hm,ii⟩ ⟨rfl,trivial⟩ ?_
 rintro a _ _ _ _ ⟨hm,g⟩
 refine J.sp g<|SR<|oq (q_lss rfl rfl)<|N0<|Sq ?_
 by_cases c:(a:Int)<(x0.length:Int)
 · obtain ⟨_,_,b,m,hm,f⟩:=forL_cons c hm
   unfold M.slices_Index_L_2_int_2_int_b1 at hm
   refine jT rfl (dT c) ?_
   have n:-9223372036854775808≤(a:Int)+1∧(a:Int)+1≤9223372036854775807:=by omega
   refine Js<|Sq<|Jb<|SR<|oq (mI rfl)<|oq (aI rfl)<|N0<|Sq ?_
   obtain ⟨_,_,rfl⟩:=Sls.op d b
   refine aE d m fun _ l j=>?_
   cases j
   refine J.drawB [i] []<|Dl 0 rfl (q_lda (vs:=[_,_]) rfl ii ⟨rfl,rfl,trivial⟩)<|Dc 1 rfl (mS rfl)<|Dc 2 rfl (mI rfl)<|Dc 3 rfl (q_ian rfl rfl rfl (ln d b))<|Dl 4 rfl (q_ldfa rfl l)<|Dc 5 rfl (q_eqA2 rfl rfl)<|Dd<|iC hm (fun e hm=>?_) fun e hm=>?_
   · refine jT rfl e<|SR<|oq (mI rfl)<|oq (aI rfl)<|N0<|have hm:=inr_onward hm f; Jr ?_
     cases hm
     exact ret_ok (fn:=Tryz.f178) rfl (.tmp rfl .nil) rfl
   · refine jF rfl (nT e)<|Js<|Rg<|oq (q_add rfl rfl (wi64 n))<|oq (mI rfl)<|N0<|have hm:=inl_onward hm f; ?_
     exact ⟨(a+1),rfl,⟨rfl,rfl,rfl,trivial⟩,⟨rfl,trivial⟩,⟨hm,ii⟩,(muL b),ii⟩
 · replace hm:=forL_nil c hm
   unfold M.slices_Index_L_2_int_2_int_k1 at hm
   refine jF rfl (dF c)<|Jx<|SR<|oq (aI rfl)<|N0<|Jr ?_
   cases hm
   exact ret_ok (fn:=Tryz.f178) rfl (.tmp rfl .nil) rfl
theorem slices_Contains_L_2_int_2_int_fn {h:Heap} {x0:List (Int×Int)} {x1:Int×Int} {v0:Value} {v1:Value} (r0:Sls A2IntR 2 h v0 x0) (r1:AggV A2IntR h v1 x1) {r:Bool} (hm:M.slices_Contains_L_2_int_2_int x0 x1=some r) :
    Fn Tryz.prog 122 #[v0,v1] h fun v h'=>v=.bool r:=by
 obtain ⟨_,_,_,rfl,b⟩:=r0.op3
 obtain ⟨_,rfl,r1q⟩:=r1
 cases r1q
 refine Fn.intro (args:=[_,_]) Tryz.func122 rfl rfl (lB rfl) fun w=>?_
 unfold M.slices_Contains_L_2_int_2_int at hm
 refine SR<|o_bx (v:=.agg ⟨[.int _ _,.int _ _]⟩) rfl rfl fun _=>oq (aB rfl)<|N0<|Sq<|bE hm fun _ a hm=>Rg<|oq (mS rfl)<|oq (q_lda (vs:=[_,_]) rfl ii ⟨rfl,rfl,trivial⟩)<|oc (slices_Index_L_2_int_2_int_fn (Sm b) (x1:=(x1.1,x1.2)) ⟨_,rfl,rfl⟩ a) fun _ _ _ c=>?_
 cases c
 refine oq (q_geq rfl rfl)<|oq (aB rfl)<|N0<|Jr ?_
 cases hm
 exact ret_ok (fn:=Tryz.f122) rfl (.tmp rfl .nil) rfl
theorem slices_Index_Lint_int_fn {h:Heap} {x0:List Int} {x1:Int} {v0:Value} (r0:Sls (KR .i64) 1 h v0 x0) {r:Int} (hm:M.slices_Index_Lint_int x0 x1=some r) :
    Fn Tryz.prog 192 #[v0,.int .i64 x1] h fun v h'=>v=.int .i64 r:=by
 obtain ⟨_,_,_,rfl,d⟩:=r0.op3
 refine Fn.intro (args:=[_,_]) Tryz.func192 rfl rfl (lB rfl) fun w=>?_
 unfold M.slices_Index_Lint_int at hm
 refine SR<|oq (aI rfl)<|N0<|Sq<|SR<|oq (mS rfl)<|oq (q_lenE (k:=x0.length) rfl (Sls.len d))<|oq (mI rfl)<|N0<|Jb ?_
 obtain ⟨_,hm⟩:=rngL_some hm
 refine J.loopK (α:=Nat) (fun a h' L'=>forL (M.slices_Index_Lint_int_b1 x1) M.slices_Index_Lint_int_k1 (List.drop a x0) a ()=some r∧Sp ([]) L') [(0,.slice _ _ _),(1,.int _ _),(7,.int _ _)] ⟨rfl,rfl,rfl,trivial⟩ (fun a=>[(8,.int .i64 (a:Int))]) (fun a=>x0.length-a) 0 ⟨hm,ii⟩ ⟨rfl,trivial⟩ ?_
 rintro a _ _ _ _ ⟨hm,g⟩
 refine J.sp g<|SR<|oq (q_lss rfl rfl)<|N0<|Sq ?_
 by_cases c:(a:Int)<(x0.length:Int)
 · obtain ⟨_,_,b,l,hm,f⟩:=forL_cons c hm
   unfold M.slices_Index_Lint_int_b1 at hm
   refine jT rfl (dT c) ?_
   have m:-9223372036854775808≤(a:Int)+1∧(a:Int)+1≤9223372036854775807:=by omega
   refine Js<|Sq<|Jb<|SR<|oq (mI rfl)<|oq (aI rfl)<|N0<|Sq ?_
   obtain ⟨_,_,rfl⟩:=Sls.op d b
   refine aE d l fun _ j i=>?_
   obtain rfl:=KR.op i
   refine Rg<|oq (mI rfl)<|oq (mS rfl)<|oq (mI rfl)<|oq (q_ian rfl rfl rfl (ln d b))<|oq (q_ldf rfl j)<|oq (q_eql rfl rfl)<|N0<|iC hm (fun e hm=>?_) fun e hm=>?_
   · refine jT rfl (dT e)<|SR<|oq (mI rfl)<|oq (aI rfl)<|N0<|have hm:=inr_onward hm f; Jr ?_
     cases hm
     exact ret_ok (fn:=Tryz.f192) rfl (.tmp rfl .nil) rfl
   · refine jF rfl (dF e)<|Js<|Rg<|oq (q_add rfl rfl (wi64 m))<|oq (mI rfl)<|N0<|have hm:=inl_onward hm f; ?_
     exact ⟨(a+1),rfl,⟨rfl,rfl,rfl,trivial⟩,⟨rfl,trivial⟩,⟨hm,ii⟩,(muL b),ii⟩
 · replace hm:=forL_nil c hm
   unfold M.slices_Index_Lint_int_k1 at hm
   refine jF rfl (dF c)<|Jx<|SR<|oq (aI rfl)<|N0<|Jr ?_
   cases hm
   exact ret_ok (fn:=Tryz.f192) rfl (.tmp rfl .nil) rfl
theorem slices_Contains_Lint_int_fn {h:Heap} {x0:List Int} {x1:Int} {v0:Value} (r0:Sls (KR .i64) 1 h v0 x0) {r:Bool} (hm:M.slices_Contains_Lint_int x0 x1=some r) :
    Fn Tryz.prog 146 #[v0,.int .i64 x1] h fun v h'=>v=.bool r:=by
 obtain ⟨_,_,_,rfl,b⟩:=r0.op3
 refine Fn.intro (args:=[_,_]) Tryz.func146 rfl rfl (lB rfl) fun w=>?_
 unfold M.slices_Contains_Lint_int at hm
 refine SR<|oq (aB rfl)<|N0<|Sq<|bE hm fun _ a hm=>Rg<|oq (mS rfl)<|oq (mI rfl)<|oc (slices_Index_Lint_int_fn (Sm b) a) fun _ _ _ c=>?_
 cases c
 refine oq (q_geq rfl rfl)<|oq (aB rfl)<|N0<|Jr ?_
 cases hm
 exact ret_ok (fn:=Tryz.f146) rfl (.tmp rfl .nil) rfl
theorem chains_sum_add_own {rr:Option Nat} {nn:Nat} {w0:World} {h0 h:Heap} {L:Own} {x0:List (Int×Int)} {x1:Int} {x2:Int} {b0_:Nat} {o0_:Obj} {v2:Value} (r0:MapR IntAt h o0_ x0) (r2:IntAt h v2 x2) {r:List (Int×Int)} (hm:M.chains_sum_add x0 x1 x2=some r) :
    FnIn ⟨Tryz.prog,rr,nn,w0,h0⟩ 139 #[.map (some b0_),.int .i64 x1,v2] h (([(b0_,o0_)]++([]))++L) fun v h' L'=>∃ (o0:Obj),v=.tuple ⟨[]⟩∧MapR IntAt h' o0 r∧L'=[(b0_,o0)]++(L):=by
 obtain ⟨_,_,_,_,rfl,k⟩:=r2.op
 refine FnIn.intro (args:=[_,_,_]) Tryz.func139 rfl rfl (lB rfl)<|J.eqL (L0:=[(b0_,o0_)]++(L)) (by simp)<|SR<|o_bx (v:=.agg ⟨[.bool _,.slice _ _ _]⟩) rfl rfl fun _=>N0<|Sq<|Sq ?_
 obtain ⟨_,g,f⟩:=MapR.look r0 x1 (show IntAt _ (.agg ⟨[.bool false,.slice none 0 0]⟩) 0 from (IntR.at (IntR.zero0 _)))
 obtain ⟨_,_,_,_,rfl,l⟩:=g.op
 refine bE hm fun o i hm=>Rg<|oq (q_mvv (v:=.map _) rfl)<|oq (mI rfl)<|oq (q_look rfl rfl ii f)<|oq (q_lda (vs:=[_,_]) rfl ii ⟨rfl,rfl,trivial⟩)<|oc (add_fn' (iu l) (iu k) i) fun _ _ _ m=>?_
 obtain ⟨_,_,_,_,rfl,e⟩:=m.op
 refine Sc [.bool _,.slice _ _ _] [.bool _,.slice _ _ _] rfl rfl rfl rfl rfl ia rfl rfl<|N0<|Sq<|bE hm fun p j hm=>Rg<|oq (q_lda (vs:=[_,_]) rfl ii ⟨rfl,rfl,trivial⟩)<|oc (sign_fn' (iu e) j) fun _ _ _ n=>?_
 cases n
 refine oq (q_eql rfl rfl)<|N0 ?_
 by_cases b:p=0
 focus
  replace hm:=ite_T b hm
  refine jT rfl (dT b)<|SR<|oq (q_mvv (v:=.map _) rfl)<|oq (mI rfl)<|o_mapDel (VR:=IntAt) rfl rfl ii (MapR.mono r0) fun d c=>N0<|Jr ?_
 rotate_left
 focus
  replace hm:=ite_F b hm
  refine jF rfl (dF b)<|Js<|Rg<|oq (q_mvv (v:=.map _) rfl)<|oq (mI rfl)<|oq (q_lda (vs:=[_,_]) rfl ii ⟨rfl,rfl,trivial⟩)<|o_mapPut (VR:=IntAt) (a:=o) rfl rfl rfl ii (MapR.mono r0) (iu e) fun d c=>N0 ?_
 rotate_left
 all_goals
  cases hm
  exact ret_okS (fn:=Tryz.f139) (L2:=[(b0_,d)]++(L)) rfl .nil ii ⟨d,rfl,(MapR.mono c),rfl⟩
theorem chains_sum_chain_fn {h:Heap} {x0:List (Int×Int)} {v0:Value} (r0:MapF IntAt h v0 x0) {r:List TFace} (hm:M.chains_sum_chain x0=some r) :
    Fn Tryz.prog 141 #[v0] h fun v h'=>Sls TFaceR 3 h' v r:=by
 obtain ⟨_,rfl,o⟩:=MapF.op r0
 refine Fn.intro (args:=[_]) Tryz.func141 rfl rfl (lB rfl) fun w=>?_
 unfold M.chains_sum_chain at hm
 refine SR<|oq (aS rfl)<|N0<|SR<|oq (aS rfl)<|N0<|Sq<|Sq<|bE hm fun l F hm=>Rg<|oq (q_mvv (v:=.map _) rfl)<|oc (keys_fn (VR:=IntAt) (MapF.mono o)) fun _ _ _ C=>oc (sorted_fn (VR:=IntAt) (KeysV.mono C) F) fun _ _ _ N=>?_
 obtain ⟨_,_,_,rfl,j⟩:=N.op3
 refine oq (q_lenE (k:=l.length) rfl (Sls.len j))<|oq (mI rfl)<|N0<|Jb ?_
 obtain ⟨_,hm⟩:=rngL_some hm
 refine J.loopK (α:=Nat×(List TFace)×(Option Addr)×Nat×Nat×Own) (fun ⟨a,f,e,d,c,b⟩ h' L'=>OwnL TFaceR 133 3 h' (.slice e d c) f b∧forL (M.chains_sum_chain_b1 x0) M.chains_sum_chain_k1 (List.drop a l) a f=some r∧Sp (b++([])) L') [(0,.map _),(8,.slice _ _ _),(9,.int _ _)] ⟨rfl,rfl,rfl,trivial⟩ (fun ⟨a,f,e,d,c,b⟩=>[(3,.slice e d c),(10,.int .i64 (a:Int))]) (fun ⟨a,f,e,d,c,b⟩=>l.length-a) ⟨0,([]:List TFace),none,0,0,[]⟩ ⟨(OwnL.nil _),hm,ii⟩ ⟨rfl,rfl,trivial⟩ ?_
 rintro ⟨a,f,e,d,c,b⟩ _ _ _ _ ⟨p,hm,m⟩
 refine J.sp m<|SR<|oq (q_lss rfl rfl)<|N0<|Sq ?_
 by_cases i:(a:Int)<(l.length:Int)
 · obtain ⟨n,_,g,B,hm,x⟩:=forL_cons i hm
   unfold M.chains_sum_chain_b1 at hm
   refine jT rfl (dT i) ?_
   have K:-9223372036854775808≤(a:Int)+1∧(a:Int)+1≤9223372036854775807:=by omega
   refine Js<|Sq<|Jb<|Sq ?_
   obtain ⟨_,_,rfl⟩:=Sls.op j g
   refine aE j B fun _ t s=>?_
   obtain rfl:=KR.op s
   refine Rg<|oq (q_ian rfl rfl rfl (ln j g))<|oq (q_ldf rfl t)<|oq (aI rfl)<|N0 ?_
   obtain ⟨_,A,y⟩:=MapF.look o n (show IntAt _ (.agg ⟨[.bool false,.slice none 0 0]⟩) 0 from (IntR.at (IntR.zero0 _)))
   obtain ⟨_,_,_,_,rfl,H⟩:=A.op
   refine bE hm fun q G hm=>Rg<|oq (mS rfl)<|oq (mI rfl)<|oq (q_mvv (v:=.map _) rfl)<|oq (mI rfl)<|oq (q_lookF rfl rfl y)<|oq (q_bd [.int _ _,.bool _,.slice _ _ _] rfl) ?_
   refine o_bs [.int _ _,.bool _,.slice _ _ _] (by decide) rfl fun _=>LT TFaceR 3 1 [(TFace.mk n (mget x0 n 0))] (c3 ⟨_,_,_,_,rfl,(Mo.up H)⟩ c0) fun u _=>o_appB (R:=TFaceR) rfl rfl (Om p) ii u G fun L E D z=>oq (aS rfl)<|N0<|Rg<|oq (q_add rfl rfl (wi64 K))<|oq (mI rfl)<|N0<|have hm:=inl_onward hm x; ?_
   exact ⟨⟨a+1,q,L,q.length,E,D⟩,rfl,⟨rfl,rfl,rfl,trivial⟩,⟨rfl,rfl,trivial⟩,⟨(Om z),hm,ii⟩,(muL g),ii⟩
 · replace hm:=forL_nil i hm
   unfold M.chains_sum_chain_k1 at hm
   refine jF rfl (dF i)<|Jx<|SR<|oq (mS rfl)<|oq (aS rfl)<|N0<|J.fzO (R:=TFaceR) (Om p) fun _ _ I=>Jr ?_
   cases hm
   exact ret_ok (fn:=Tryz.f141) rfl (.tmp rfl .nil) (Sm I)
theorem chains_Add_fn {h:Heap} {x0:List TFace} {x1:List TFace} {x2:Int} {v0:Value} {v1:Value} {v2:Value} (r0:Sls TFaceR 3 h v0 x0) (r1:Sls TFaceR 3 h v1 x1) (r2:IntAt h v2 x2) {r:List TFace} (hm:M.chains_Add x0 x1 x2=some r) :
    Fn Tryz.prog 74 #[v0,v1,v2] h fun v h'=>Sls TFaceR 3 h' v r:=by
 obtain ⟨_,_,_,rfl,n⟩:=r0.op3
 obtain ⟨_,_,_,rfl,o⟩:=r1.op3
 obtain ⟨z,B,A,u,rfl,ab⟩:=r2.op
 refine Fn.intro (args:=[_,_,_]) Tryz.func74 rfl rfl (lB rfl) fun w=>?_
 unfold M.chains_Add at hm
 refine SR<|o_bx (v:=.agg ⟨[.bool _,.slice _ _ _]⟩) rfl rfl fun p=>oq (aS rfl)<|N0<|SR<|o_mkMap (VR:=IntAt) fun c ag S=>oq (q_asv (v:=.map _) rfl)<|N0<|Sq<|SR<|oq (mS rfl)<|oq (q_lenE (k:=x0.length) rfl (Sls.len n))<|oq (mI rfl)<|N0<|Jb ?_
 obtain ⟨_,hm⟩:=rngL_some hm
 refine J.loopK (α:=Nat×(List (Int×Int))×Obj) (fun ⟨a,f,d⟩ h' L'=>MapR IntAt h' d f∧forL M.chains_Add_b2 (M.chains_Add_k2 x1 x2) (List.drop a x0) a f=some r∧Sp ([(c,d)]++([(p,row 75 [.bool z,.slice B A u])])) L') [(1,.slice _ _ _),(5,.pointer _),(13,.slice _ _ _),(14,.int _ _)] ⟨rfl,rfl,rfl,rfl,trivial⟩ (fun ⟨a,f,d⟩=>[(7,.map (some c)),(15,.int .i64 (a:Int))]) (fun ⟨a,f,d⟩=>x0.length-a) ⟨0,([]:List (Int×Int)),ag⟩ ⟨(MapR.mono S),hm,ii⟩ ⟨rfl,rfl,trivial⟩ ?_
 rintro ⟨a,f,d⟩ _ _ _ _ ⟨x,hm,q⟩
 refine J.sp q<|SR<|oq (q_lss rfl rfl)<|N0<|Sq ?_
 by_cases l:(a:Int)<(x0.length:Int)
 · obtain ⟨_,_,i,Q,hm,O⟩:=forL_cons l hm
   unfold M.chains_Add_b2 at hm
   refine jT rfl (dT l) ?_
   have ae:-9223372036854775808≤(a:Int)+1∧(a:Int)+1≤9223372036854775807:=by omega
   refine Js<|Sq<|Jb<|Sq ?_
   obtain ⟨_,_,rfl⟩:=Sls.op n i
   refine aE n Q fun _ L I=>?_
   obtain ⟨_,_,_,_,rfl,ac⟩:=I
   refine Rg<|oq (q_ian rfl rfl rfl (ln n i))<|oq (q_ldfa rfl L)<|o_al fun _=>Sc [.int _ _,.bool _,.slice _ _ _] [.int _ _,.bool _,.slice _ _ _] rfl rfl rfl rfl rfl ia rfl rfl<|N0<|bE hm fun aj aa hm=>Rg<|oq (q_mvv (v:=.map _) rfl)<|oq (q_fa rfl)<|oq (q_ld rfl ia rfl)<|oq (q_fa rfl)<|oq (q_lda (vs:=[_,_]) rfl ii ⟨rfl,rfl,trivial⟩)<|o_callio ([(c,d)]++([])) (chains_sum_add_own (MapR.mono x) (iu ac) aa) fun _ _ _ _ ai=>?_
   obtain ⟨ah,rfl,T,rfl⟩:=ai
   refine N0<|Rg<|oq (q_add rfl rfl (wi64 ae))<|oq (mI rfl)<|N0<|have hm:=inl_onward hm O; ?_
   exact ⟨⟨a+1,aj,ah⟩,rfl,⟨rfl,rfl,rfl,rfl,trivial⟩,⟨rfl,rfl,trivial⟩,⟨(MapR.mono T),hm,ii⟩,(muL i),ii⟩
 · replace hm:=forL_nil l hm
   unfold M.chains_Add_k2 at hm
   refine jF rfl (dF l)<|Jx<|Sq<|SR<|oq (mS rfl)<|oq (q_lenE (k:=x1.length) rfl (Sls.len o))<|oq (mI rfl)<|N0<|Jb ?_
   obtain ⟨_,hm⟩:=rngL_some hm
   refine J.loopK (α:=Nat×(List (Int×Int))×Obj) (fun ⟨b,g,e⟩ h' L'=>MapR IntAt h' e g∧forL (M.chains_Add_b1 x2) M.chains_Add_k1 (List.drop b x1) b g=some r∧Sp ([(c,e)]++([(p,row 75 [.bool z,.slice B A u])])) L') [(5,.pointer _),(26,.slice _ _ _),(27,.int _ _)] ⟨rfl,rfl,rfl,trivial⟩ (fun ⟨b,g,e⟩=>[(7,.map (some c)),(28,.int .i64 (b:Int))]) (fun ⟨b,g,e⟩=>x1.length-b) ⟨0,f,d⟩ ⟨(MapR.mono x),hm,ii⟩ ⟨rfl,rfl,trivial⟩ ?_
   rintro ⟨b,g,e⟩ _ _ _ _ ⟨y,hm,s⟩
   refine J.sp s<|SR<|oq (q_lss rfl rfl)<|N0<|Sq ?_
   by_cases m:(b:Int)<(x1.length:Int)
   · obtain ⟨_,_,j,R,hm,P⟩:=forL_cons m hm
     unfold M.chains_Add_b1 at hm
     refine jT rfl (dT m) ?_
     have af:-9223372036854775808≤(b:Int)+1∧(b:Int)+1≤9223372036854775807:=by omega
     refine Js<|Sq<|Jb<|Sq ?_
     obtain ⟨_,_,rfl⟩:=Sls.op o j
     refine aE o R fun _ N K=>?_
     obtain ⟨_,_,_,_,rfl,ad⟩:=K
     refine Rg<|oq (q_ian rfl rfl rfl (ln o j))<|oq (q_ldfa rfl N)<|o_al fun Z=>Sc [.int _ _,.bool _,.slice _ _ _] [.int _ _,.bool _,.slice _ _ _] rfl rfl rfl rfl rfl ia rfl rfl<|N0<|bE hm fun _ C hm=>bE hm fun Y D hm=>J.drawB [Z,p] [7]<|Dc 0 rfl (q_mvv (v:=.map _) rfl)<|Dc 1 rfl (q_fa rfl)<|Dl 2 rfl (q_ld rfl ii rfl)<|Dc 4 rfl (q_fa rfl) ?_
     refine Da [3,5] ⟨?_,?_,trivial⟩
     focus
      refine Xe rfl rfl<|oq (q_lda (vs:=[_,_]) rfl ii ⟨rfl,rfl,trivial⟩)<|NE<|Do 5 ?_
     rotate_left
     focus
      refine Xe rfl rfl<|oq (q_lda (vs:=[_,_]) rfl ii ⟨rfl,rfl,trivial⟩)<|NE<|Do 3 ?_
     rotate_left
     all_goals
      refine Xe rfl rfl<|oq (q_lda (vs:=[_,_]) rfl ii ⟨rfl,rfl,trivial⟩)<|NE<|Do 6<|Xe rfl rfl<|oc (mul_fn' (iu ab) (iu ad) C) fun _ _ _ V=>?_
      obtain ⟨_,_,_,_,rfl,F⟩:=V.op
      refine NE<|Do 7<|Xm rfl rfl<|o_callio ([(c,e)]++([])) (chains_sum_add_own (MapR.mono y) (iu F) D) fun _ _ _ _ W=>?_
      obtain ⟨U,rfl,t,rfl⟩:=W
      refine NF<|Dd<|Rg<|oq (q_add rfl rfl (wi64 af))<|oq (mI rfl)<|N0<|have hm:=inl_onward hm P; ?_
      exact ⟨⟨b+1,Y,U⟩,rfl,⟨rfl,rfl,rfl,trivial⟩,⟨rfl,rfl,trivial⟩,⟨(MapR.mono t),hm,ii⟩,(muL j),ii⟩
   · replace hm:=forL_nil m hm
     unfold M.chains_Add_k1 at hm
     refine jF rfl (dF m)<|Jx<|Sq<|J.fzM c (MapR.mono y) fun _ _ G=>bE hm fun _ E hm=>Rg<|oq (q_mvv (v:=.map _) rfl)<|oc (chains_sum_chain_fn (MapF.mono G) E) fun _ _ _ X=>?_
     obtain ⟨_,_,_,rfl,H⟩:=X.op3
     refine oq (aS rfl)<|N0<|Jr ?_
     cases hm
     exact ret_ok (fn:=Tryz.f74) rfl (.tmp rfl .nil) (Sm H)
end Go.Z
end
section
namespace Go.Z
open Go Go.RowKit Go.Proofs
theorem neq_some {α:Type} {a b:Int} {o:Option α} {r:α} (h:M.neq a b o=some r):a≠b∧o=some r:=by
 unfold M.neq at h; split at h
 · exact nomatch h
 · exact ⟨‹_›,h⟩
theorem slices_BinarySearchFunc_Complex_Cell_int_fn {h:Heap} {x0:List TCell} {x1:Int} {x2:TCell→Int→Option Int} {v0:Value} {g2_:FuncId} {cap2_:List Value} [Ent Tryz.prog g2_] (r0:Sls TCellR 3 h v0 x0) (r2:∀ {h':Heap},Ext h h'→∀ (a0:TCell) (a1:Int) (w0:Value) (w1:Value),AggV TCellR h' w0 a0→w1=.int .i64 a1→∀ c,x2 a0 a1=some c→Fn Tryz.prog g2_ (List.toArray ([]++[w0,w1]++cap2_)) h' (fun v h''=>v=.int .i64 c)) {r:Int×Bool} (hm:M.slices_BinarySearchFunc_Complex_Cell_int x0 x1 x2=some r) :
    Fn Tryz.prog 186 #[v0,.int .i64 x1,.func (.func g2_) ⟨[]⟩ ⟨cap2_⟩] h fun v h'=>∃ u0 u1,v=.tuple ⟨[u0,u1]⟩∧u0=.int .i64 r.1∧u1=.bool r.2:=by
 obtain ⟨_,_,_,rfl,e⟩:=r0.op3
 refine Fn.intro (args:=[_,_,_]) Tryz.func186 rfl rfl (lB rfl) fun w=>?_
 unfold M.slices_BinarySearchFunc_Complex_Cell_int at hm
 refine SR<|oq (aI rfl)<|oq (aB rfl)<|N0<|SR<|oq (mS rfl)<|oq (q_lenE (k:=x0.length) rfl (Sls.len e))<|oq (aI rfl)<|N0<|SR<|oq (mI rfl)<|oq (aI rfl)<|oq (aI rfl)<|N0<|Sq<|Jb ?_
 replace hm:=(show iter _ fuel _=some _ from hm)
 refine J.loopK (α:=Nat×Int×Int) (fun ⟨g,d,b⟩ h' L'=>iter (M.slices_BinarySearchFunc_Complex_Cell_int_b1 x0 x1 x2) g (d,b)=some r∧Sp ([]) L') [(0,.slice _ _ _),(1,.int _ _),(2,.func _ _ _),(8,.int _ _)] ⟨rfl,rfl,rfl,rfl,trivial⟩ (fun ⟨g,d,b⟩=>[(9,.int .i64 b),(10,.int .i64 d)]) (fun ⟨g,d,b⟩=>g) ⟨fuel,(x0.length:Int),0⟩ ⟨hm,ii⟩ ⟨rfl,rfl,trivial⟩ ?_
 rintro ⟨g,d,b⟩ _ _ _ _ ⟨hm,o⟩
 refine J.sp o ?_
 obtain ⟨p,_,rfl,hm,i⟩:=iter_some hm
 unfold M.slices_BinarySearchFunc_Complex_Cell_int_b1 at hm
 refine Sq<|SR<|oq (mI rfl)<|oq (mI rfl)<|oq (q_lss rfl rfl)<|N0<|iC hm (fun j hm=>?_) fun j hm=>?_
 · refine jT rfl (dT j)<|Js<|Jb<|Sq<|kS hm fun F hm=>kS hm fun G hm=>Rg<|oq (mI rfl)<|oq (mI rfl)<|oq (q_add rfl rfl (wi64 F))<|oq (q_cv rfl (GoWrap.u64_eq _))<|oq (q_shr (c:=Int.fdiv (GoWrap.u64 (b+d)) 2) rfl rfl (by decide) rfl)<|oq (q_cv rfl (wi64 G))<|oq (aI rfl)<|N0<|Sq<|nE hm fun _ _ x m z hm=>?_
   obtain ⟨_,_,rfl⟩:=Sls.op e m
   refine aE e z fun _ t q=>?_
   obtain ⟨_,_,_,rfl,D⟩:=q
   refine bE hm fun _ B hm=>Rg<|oq (q_mvv (v:=.func _ _ _) rfl)<|oq (mS rfl)<|oq (mI rfl)<|oq (q_ian rfl rfl x (ln e m))<|oq (q_ldfa rfl t)<|oq (mI rfl)<|o_callv (f:=g2_) rfl (r2 ii _ _ _ _ ⟨_,rfl,⟨_,_,_,rfl,Sm D⟩⟩ rfl _ B) fun _ _ _ I=>?_
   cases I
   refine oq (q_lss rfl rfl)<|N0<|iC hm (fun l hm=>?_) fun l hm=>?_
   · refine jT rfl (dT l)<|kS hm fun H hm=>Rg<|oq (mI rfl)<|oq (q_add rfl rfl (wi64 H))<|oq (aI rfl)<|N0<|have hm:=inl_onward hm i; ?_
     exact ⟨⟨p,d,(Int.fdiv (GoWrap.u64 (b+d)) 2)+1⟩,rfl,⟨rfl,rfl,rfl,rfl,trivial⟩,⟨rfl,rfl,trivial⟩,⟨hm,ii⟩,(Nat.lt_succ_self _),ii⟩
   · refine jF rfl (dF l)<|Rg<|oq (mI rfl)<|oq (aI rfl)<|N0<|have hm:=inl_onward hm i; ?_
     exact ⟨⟨p,Int.fdiv (GoWrap.u64 (b+d)) 2,b⟩,rfl,⟨rfl,rfl,rfl,rfl,trivial⟩,⟨rfl,rfl,trivial⟩,⟨hm,ii⟩,(Nat.lt_succ_self _),ii⟩
 · refine jF rfl (dF j)<|Jx<|have hm:=inr_onward hm i; Sq ?_
   by_cases a:b<(x0.length:Int)
   focus
    replace hm:=ite_T a hm
    refine nE hm fun _ _ y n A hm=>?_
    obtain ⟨_,_,rfl⟩:=Sls.op e n
    refine aE e A fun _ u s=>?_
    obtain ⟨_,_,_,rfl,E⟩:=s
    refine bE hm fun _ C hm=>Rg<|oq (mI rfl)<|oq (mI rfl)<|oq (mI rfl)<|oq (q_lss rfl rfl)<|oq (mB rfl)<|gT rfl rfl (dT a)<|oq (q_mvv (v:=.func _ _ _) rfl)<|gT rfl rfl (dT a)<|oq (mS rfl)<|gT rfl rfl (dT a)<|oq (mI rfl)<|gT rfl rfl (dT a)<|oq (q_ian rfl rfl y (ln e n))<|gT rfl rfl (dT a)<|oq (q_ldfa rfl u)<|gT rfl rfl (dT a)<|oq (mI rfl)<|gT rfl rfl (dT a)<|o_callv (f:=g2_) rfl (r2 ii _ _ _ _ ⟨_,rfl,⟨_,_,_,rfl,Sm E⟩⟩ rfl _ C) fun _ _ _ K=>?_
    cases K
    refine gT rfl rfl (dT a)<|oq (q_eql rfl rfl)<|oq (pkT rfl (dT a) rfl) ?_
   rotate_left
   focus
    replace hm:=ite_F a hm
    refine Rg<|oq (mI rfl)<|oq (mI rfl)<|oq (mI rfl)<|oq (q_lss rfl rfl)<|oq (mB rfl)<|gF rfl rfl (dF a)<|gF rfl rfl (dF a)<|gF rfl rfl (dF a)<|gF rfl rfl (dF a)<|gF rfl rfl (dF a)<|gF rfl rfl (dF a)<|gF rfl rfl (dF a)<|gF rfl rfl (dF a)<|oq (pkF rfl (dF a) rfl) ?_
   rotate_left
   all_goals
    refine oq (aI rfl)<|oq (aB rfl)<|N0<|Jr ?_
    cases hm
    exact ret_ok (fn:=Tryz.f186) rfl (.tmp rfl (.tmp rfl .nil)) ⟨_,_,rfl,rfl,rfl⟩
theorem complex_place_1_fn {h:Heap} {x0:TCell} {x1:Int} {v0:Value} (r0:AggV TCellR h v0 x0) {r:Int} (hm:M.complex_place_1 x0 x1=some r) :
    Fn Tryz.prog 187 #[v0,.int .i64 x1] h fun v h'=>v=.int .i64 r:=by
 obtain ⟨_,rfl,_,_,_,rfl,_⟩:=r0
 refine Fn.intro (args:=[_,_]) Tryz.func187 rfl rfl (lB rfl) fun w=>?_
 unfold M.complex_place_1 at hm
 refine SR<|o_bx (v:=.agg ⟨[.int _ _,.int _ _,.slice _ _ _]⟩) rfl rfl fun _=>oq (aI rfl)<|N0<|Sq<|bE hm fun _ a hm=>Rg<|oq (q_fa rfl)<|oq (q_ld rfl ia rfl)<|oq (mI rfl)<|oc (cmpi_fn' a) fun _ _ _ b=>?_
 cases b
 refine oq (aI rfl)<|N0<|Jr ?_
 cases hm
 exact ret_ok (fn:=Tryz.f187) rfl (.tmp rfl .nil) rfl
theorem complex_place_fn {h:Heap} {x0:List TCell} {x1:Int} {v0:Value} (r0:Sls TCellR 3 h v0 x0) {r:Int×Bool} (hm:M.complex_place x0 x1=some r) :
    Fn Tryz.prog 138 #[v0,.int .i64 x1] h fun v h'=>∃ u0 u1,v=.tuple ⟨[u0,u1]⟩∧u0=.int .i64 r.1∧u1=.bool r.2:=by
 obtain ⟨_,_,_,rfl,b⟩:=r0.op3
 refine Fn.intro (args:=[_,_]) Tryz.func138 rfl rfl (lB rfl) fun w=>?_
 unfold M.complex_place at hm
 refine SR<|oq (aI rfl)<|oq (aB rfl)<|N0<|Sq<|bE hm fun _ a hm=>Rg<|oq (mS rfl)<|oq (mI rfl)<|oc (slices_BinarySearchFunc_Complex_Cell_int_fn (Sm b) (fun e a0 a1 w0 w1 q0 q1 c hc=>by haveI:=Ext.toStep e; obtain rfl:=(show _=_ from q1); exact complex_place_1_fn q0 hc) a) fun _ _ _ d=>?_
 obtain ⟨_,_,rfl,f,g⟩:=d
 cases f
 cases g
 refine oq (q_ex rfl rfl)<|oq (q_ex rfl rfl)<|oq (aI rfl)<|oq (aB rfl)<|N0<|Jr ?_
 cases hm
 exact ret_ok (fn:=Tryz.f138) rfl (.tmp rfl (.tmp rfl .nil)) ⟨_,_,rfl,rfl,rfl⟩
theorem complex_Find_fn {h:Heap} {x0:List TCell} {x1:Int} {v0:Value} (r0:Sls TCellR 3 h v0 x0) {r:TCell×Bool} (hm:M.complex_Find x0 x1=some r) :
    Fn Tryz.prog 73 #[v0,.int .i64 x1] h fun v h'=>∃ u0 u1,v=.tuple ⟨[u0,u1]⟩∧AggV TCellR h' u0 r.1∧u1=.bool r.2:=by
 obtain ⟨_,_,_,rfl,a⟩:=r0.op3
 refine Fn.intro (args:=[_,_]) Tryz.func73 rfl rfl (lB rfl) fun w=>?_
 unfold M.complex_Find at hm
 refine SR<|o_al fun _=>oq (aB rfl)<|N0<|Sq<|bE hm fun _ i hm=>Rg<|oq (mS rfl)<|oq (mI rfl)<|oc (complex_place_fn (Sm a) i) fun _ _ _ k=>?_
 obtain ⟨_,_,rfl,l,m⟩:=k
 cases l
 cases m
 refine oq q_mv<|oq (q_ex rfl rfl)<|oq (q_ex rfl rfl)<|oq (aI rfl)<|oq (aB rfl)<|N0<|Sq<|SR<|oq (mB rfl)<|oq (q_not rfl)<|N0<|iC hm (fun b hm=>?_) fun b hm=>?_
 · refine jF rfl (bT (b))<|Js<|Sq<|nE hm fun _ _ f c g hm=>?_
   obtain ⟨_,_,rfl⟩:=Sls.op a c
   refine aE a g fun _ e d=>?_
   obtain ⟨_,_,_,rfl,j⟩:=d
   refine Rg<|oq (mS rfl)<|oq (mI rfl)<|oq (q_ian rfl rfl f (ln a c))<|oq (q_ldfa rfl e)<|Sc [.int _ _,.int _ _,.slice _ _ _] [.int _ _,.int _ _,.slice _ _ _] rfl rfl rfl rfl rfl ia rfl rfl<|oq (aB rfl)<|N0<|Jr ?_
   cases hm
   exact ret_ok (fn:=Tryz.f73) rfl (.agg rfl ii ii (.tmp rfl .nil)) ⟨_,_,rfl,⟨_,rfl,⟨_,_,_,rfl,Sm j⟩⟩,rfl⟩
 · refine jT rfl (bF ((nT b)))<|SR<|oq (q_bd [.int _ _,.int _ _,.slice _ _ _] rfl) ?_
   refine Sc [.int _ _,.int _ _,.slice _ _ _] [.int _ _,.int _ _,.slice _ _ _] rfl rfl rfl rfl rfl ia rfl rfl<|oq (aB rfl)<|N0<|Jr ?_
   cases hm
   exact ret_ok (fn:=Tryz.f73) rfl (.agg rfl ii ii (.tmp rfl .nil)) ⟨_,_,rfl,⟨_,rfl,⟨_,_,_,rfl,(Sls.nil (R:=TFaceR) (sz:=3) _)⟩⟩,rfl⟩
theorem merge_one_fn {h:Heap} {x0:Int} {r:List TFace} (hm:M.merge_one x0=some r) :
    Fn Tryz.prog 76 #[.int .i64 x0] h fun v h'=>Sls TFaceR 3 h' v r:=by
 refine Fn.intro (args:=[_]) Tryz.func76 rfl rfl (lB rfl) fun w=>?_
 unfold M.merge_one at hm
 refine SR<|oq (aS rfl)<|N0<|Sq<|bE hm fun f b hm=>Rg<|oq (mI rfl)<|oc (of_fn'' b) fun _ _ _ e=>?_
 obtain ⟨_,_,_,_,rfl,c⟩:=e.op
 refine oq (q_bd [.int _ _,.bool _,.slice _ _ _] rfl) ?_
 refine o_bs [.int _ _,.bool _,.slice _ _ _] (by decide) rfl fun _=>LT TFaceR 3 1 [(TFace.mk x0 f)] (c3 ⟨_,_,_,_,rfl,(Mo.up c)⟩ c0) fun _ a=>oq (aS rfl)<|N0<|J.fzO (R:=TFaceR) (Om a) fun _ _ d=>Jr ?_
 cases hm
 exact ret_ok (fn:=Tryz.f76) rfl (.tmp rfl .nil) (Sm d)
theorem slices_BinarySearchFunc_Chain_Face_int_fn {h:Heap} {x0:List TFace} {x1:Int} {x2:TFace→Int→Option Int} {v0:Value} {g2_:FuncId} {cap2_:List Value} [Ent Tryz.prog g2_] (r0:Sls TFaceR 3 h v0 x0) (r2:∀ {h':Heap},Ext h h'→∀ (a0:TFace) (a1:Int) (w0:Value) (w1:Value),AggV TFaceR h' w0 a0→w1=.int .i64 a1→∀ c,x2 a0 a1=some c→Fn Tryz.prog g2_ (List.toArray ([]++[w0,w1]++cap2_)) h' (fun v h''=>v=.int .i64 c)) {r:Int×Bool} (hm:M.slices_BinarySearchFunc_Chain_Face_int x0 x1 x2=some r) :
    Fn Tryz.prog 193 #[v0,.int .i64 x1,.func (.func g2_) ⟨[]⟩ ⟨cap2_⟩] h fun v h'=>∃ u0 u1,v=.tuple ⟨[u0,u1]⟩∧u0=.int .i64 r.1∧u1=.bool r.2:=by
 obtain ⟨_,_,_,rfl,e⟩:=r0.op3
 refine Fn.intro (args:=[_,_,_]) Tryz.func193 rfl rfl (lB rfl) fun w=>?_
 unfold M.slices_BinarySearchFunc_Chain_Face_int at hm
 refine SR<|oq (aI rfl)<|oq (aB rfl)<|N0<|SR<|oq (mS rfl)<|oq (q_lenE (k:=x0.length) rfl (Sls.len e))<|oq (aI rfl)<|N0<|SR<|oq (mI rfl)<|oq (aI rfl)<|oq (aI rfl)<|N0<|Sq<|Jb ?_
 replace hm:=(show iter _ fuel _=some _ from hm)
 refine J.loopK (α:=Nat×Int×Int) (fun ⟨g,d,b⟩ h' L'=>iter (M.slices_BinarySearchFunc_Chain_Face_int_b1 x0 x1 x2) g (d,b)=some r∧Sp ([]) L') [(0,.slice _ _ _),(1,.int _ _),(2,.func _ _ _),(8,.int _ _)] ⟨rfl,rfl,rfl,rfl,trivial⟩ (fun ⟨g,d,b⟩=>[(9,.int .i64 b),(10,.int .i64 d)]) (fun ⟨g,d,b⟩=>g) ⟨fuel,(x0.length:Int),0⟩ ⟨hm,ii⟩ ⟨rfl,rfl,trivial⟩ ?_
 rintro ⟨g,d,b⟩ _ _ _ _ ⟨hm,o⟩
 refine J.sp o ?_
 obtain ⟨p,_,rfl,hm,i⟩:=iter_some hm
 unfold M.slices_BinarySearchFunc_Chain_Face_int_b1 at hm
 refine Sq<|SR<|oq (mI rfl)<|oq (mI rfl)<|oq (q_lss rfl rfl)<|N0<|iC hm (fun j hm=>?_) fun j hm=>?_
 · refine jT rfl (dT j)<|Js<|Jb<|Sq<|kS hm fun F hm=>kS hm fun G hm=>Rg<|oq (mI rfl)<|oq (mI rfl)<|oq (q_add rfl rfl (wi64 F))<|oq (q_cv rfl (GoWrap.u64_eq _))<|oq (q_shr (c:=Int.fdiv (GoWrap.u64 (b+d)) 2) rfl rfl (by decide) rfl)<|oq (q_cv rfl (wi64 G))<|oq (aI rfl)<|N0<|Sq<|nE hm fun _ _ x m z hm=>?_
   obtain ⟨_,_,rfl⟩:=Sls.op e m
   refine aE e z fun _ t q=>?_
   obtain ⟨_,_,_,_,rfl,D⟩:=q
   refine bE hm fun _ B hm=>Rg<|oq (q_mvv (v:=.func _ _ _) rfl)<|oq (mS rfl)<|oq (mI rfl)<|oq (q_ian rfl rfl x (ln e m))<|oq (q_ldfa rfl t)<|oq (mI rfl)<|o_callv (f:=g2_) rfl (r2 ii _ _ _ _ ⟨_,rfl,⟨_,_,_,_,rfl,(Mo.up D)⟩⟩ rfl _ B) fun _ _ _ I=>?_
   cases I
   refine oq (q_lss rfl rfl)<|N0<|iC hm (fun l hm=>?_) fun l hm=>?_
   · refine jT rfl (dT l)<|kS hm fun H hm=>Rg<|oq (mI rfl)<|oq (q_add rfl rfl (wi64 H))<|oq (aI rfl)<|N0<|have hm:=inl_onward hm i; ?_
     exact ⟨⟨p,d,(Int.fdiv (GoWrap.u64 (b+d)) 2)+1⟩,rfl,⟨rfl,rfl,rfl,rfl,trivial⟩,⟨rfl,rfl,trivial⟩,⟨hm,ii⟩,(Nat.lt_succ_self _),ii⟩
   · refine jF rfl (dF l)<|Rg<|oq (mI rfl)<|oq (aI rfl)<|N0<|have hm:=inl_onward hm i; ?_
     exact ⟨⟨p,Int.fdiv (GoWrap.u64 (b+d)) 2,b⟩,rfl,⟨rfl,rfl,rfl,rfl,trivial⟩,⟨rfl,rfl,trivial⟩,⟨hm,ii⟩,(Nat.lt_succ_self _),ii⟩
 · refine jF rfl (dF j)<|Jx<|have hm:=inr_onward hm i; Sq ?_
   by_cases a:b<(x0.length:Int)
   focus
    replace hm:=ite_T a hm
    refine nE hm fun _ _ y n A hm=>?_
    obtain ⟨_,_,rfl⟩:=Sls.op e n
    refine aE e A fun _ u s=>?_
    obtain ⟨_,_,_,_,rfl,E⟩:=s
    refine bE hm fun _ C hm=>Rg<|oq (mI rfl)<|oq (mI rfl)<|oq (mI rfl)<|oq (q_lss rfl rfl)<|oq (mB rfl)<|gT rfl rfl (dT a)<|oq (q_mvv (v:=.func _ _ _) rfl)<|gT rfl rfl (dT a)<|oq (mS rfl)<|gT rfl rfl (dT a)<|oq (mI rfl)<|gT rfl rfl (dT a)<|oq (q_ian rfl rfl y (ln e n))<|gT rfl rfl (dT a)<|oq (q_ldfa rfl u)<|gT rfl rfl (dT a)<|oq (mI rfl)<|gT rfl rfl (dT a)<|o_callv (f:=g2_) rfl (r2 ii _ _ _ _ ⟨_,rfl,⟨_,_,_,_,rfl,(Mo.up E)⟩⟩ rfl _ C) fun _ _ _ K=>?_
    cases K
    refine gT rfl rfl (dT a)<|oq (q_eql rfl rfl)<|oq (pkT rfl (dT a) rfl) ?_
   rotate_left
   focus
    replace hm:=ite_F a hm
    refine Rg<|oq (mI rfl)<|oq (mI rfl)<|oq (mI rfl)<|oq (q_lss rfl rfl)<|oq (mB rfl)<|gF rfl rfl (dF a)<|gF rfl rfl (dF a)<|gF rfl rfl (dF a)<|gF rfl rfl (dF a)<|gF rfl rfl (dF a)<|gF rfl rfl (dF a)<|gF rfl rfl (dF a)<|gF rfl rfl (dF a)<|oq (pkF rfl (dF a) rfl) ?_
   rotate_left
   all_goals
    refine oq (aI rfl)<|oq (aB rfl)<|N0<|Jr ?_
    cases hm
    exact ret_ok (fn:=Tryz.f193) rfl (.tmp rfl (.tmp rfl .nil)) ⟨_,_,rfl,rfl,rfl⟩
theorem merge_coefficient_1_fn {h:Heap} {x0:TFace} {x1:Int} {v0:Value} (r0:AggV TFaceR h v0 x0) {r:Int} (hm:M.merge_coefficient_1 x0 x1=some r) :
    Fn Tryz.prog 194 #[v0,.int .i64 x1] h fun v h'=>v=.int .i64 r:=by
 obtain ⟨_,rfl,_,_,_,_,rfl,_⟩:=r0
 refine Fn.intro (args:=[_,_]) Tryz.func194 rfl rfl (lB rfl) fun w=>?_
 unfold M.merge_coefficient_1 at hm
 refine SR<|o_bx (v:=.agg ⟨[.int _ _,.bool _,.slice _ _ _]⟩) rfl rfl fun _=>oq (aI rfl)<|N0<|Sq<|bE hm fun _ a hm=>Rg<|oq (q_fa rfl)<|oq (q_ld rfl ia rfl)<|oq (mI rfl)<|oc (cmpi_fn' a) fun _ _ _ b=>?_
 cases b
 refine oq (aI rfl)<|N0<|Jr ?_
 cases hm
 exact ret_ok (fn:=Tryz.f194) rfl (.tmp rfl .nil) rfl
theorem merge_coefficient_fn {h:Heap} {x0:List TFace} {x1:Int} {v0:Value} (r0:Sls TFaceR 3 h v0 x0) {r:Int} (hm:M.merge_coefficient x0 x1=some r) :
    Fn Tryz.prog 147 #[v0,.int .i64 x1] h fun v h'=>IntAt h' v r:=by
 obtain ⟨_,_,_,rfl,b⟩:=r0.op3
 refine Fn.intro (args:=[_,_]) Tryz.func147 rfl rfl (lB rfl) fun w=>?_
 unfold M.merge_coefficient at hm
 refine SR<|o_al fun _=>N0<|Sq<|bE hm fun s l hm=>Rg<|oq (mS rfl)<|oq (mI rfl)<|oc (slices_BinarySearchFunc_Chain_Face_int_fn (Sm b) (fun e a0 a1 w0 w1 q0 q1 c hc=>by haveI:=Ext.toStep e; obtain rfl:=(show _=_ from q1); exact merge_coefficient_1_fn q0 hc) l) fun _ _ _ n=>?_
 obtain ⟨_,_,rfl,o,p⟩:=n
 cases o
 cases p
 refine oq q_mv<|oq (q_ex rfl rfl)<|oq (q_ex rfl rfl)<|oq (aI rfl)<|oq (aB rfl)<|N0<|Sq<|SR<|oq (mB rfl)<|oq (q_not rfl)<|N0 ?_
 by_cases a:s.2=true
 focus
  replace hm:=ite_T a hm
  refine jF rfl (bT (a))<|Js<|Sq<|nE hm fun _ _ j d k hm=>?_
  obtain ⟨_,_,rfl⟩:=Sls.op b d
  refine aE b k fun _ i g=>?_
  obtain ⟨_,_,_,_,rfl,f⟩:=g
  refine Rg<|oq (mS rfl)<|oq (mI rfl)<|oq (q_ian rfl rfl j (ln b d))<|oq (q_fa rfl)<|oq (q_ldfs (vs:=[_,_]) rfl i rfl) ?_
 rotate_left
 focus
  replace hm:=ite_F a hm
  refine jT rfl (bF ((nT a)))<|Sq<|bE hm fun _ m hm=>Rg<|oc (of_fn'' m) fun _ _ _ q=>?_
  obtain ⟨_,_,_,_,rfl,f⟩:=q.op
 rotate_left
 all_goals
  refine Sc [.bool _,.slice _ _ _] [.bool _,.slice _ _ _] rfl rfl rfl rfl rfl ia rfl rfl<|N0<|Jr ?_
  cases hm
  exact ret_ok (fn:=Tryz.f147) rfl (.agg rfl ii ii .nil) (iu f)
theorem merge_replace_own {rr:Option Nat} {nn:Nat} {w0:World} {h0 h:Heap} {L:Own} {x0:List TCell} {x1:Int} {x2:List TFace} {v0:Value} {v2:Value} (r0:Sls TCellR 3 h v0 x0) (r2:Sls TFaceR 3 h v2 x2) {r:List TCell} (hm:M.merge_replace x0 x1 x2=some r) :
    FnIn ⟨Tryz.prog,rr,nn,w0,h0⟩ 78 #[v0,.int .i64 x1,v2] h (L) fun v h' L'=>∃ (p0_0:Option Addr) (n0_0 c0_0:Nat) (M0_0:Own),v=.slice p0_0 n0_0 c0_0∧OwnL TCellR 47 3 h' (.slice p0_0 n0_0 c0_0) r M0_0∧L'=M0_0++(L):=by
 obtain ⟨_,_,_,rfl,W⟩:=r0.op3
 obtain ⟨_,_,_,rfl,X⟩:=r2.op3
 refine FnIn.intro (args:=[_,_,_]) Tryz.func78 rfl rfl (lB rfl)<|SR<|oq (aS rfl)<|N0<|Sq<|bE hm fun o S hm=>Rg<|oq (mS rfl)<|o_calll (clone_complex_own (Sm W) S) fun _ _ _ _ aa=>?_
 obtain ⟨Z,Y,R,P,rfl,y,rfl⟩:=aa
 refine oq (aS rfl)<|N0<|Sq<|SR<|oq (mS rfl)<|oq (q_lenE (k:=o.length) rfl (OwnL.len y))<|oq (mI rfl)<|N0<|Jb ?_
 obtain ⟨_,hm⟩:=rngL_some hm
 refine J.loopK (α:=Nat×(List TCell)×(Option Addr)×Nat×Nat×Own) (fun ⟨b,j,l,d,c,e⟩ h' L'=>OwnL TCellR 47 3 h' (.slice l d c) j e∧forL (M.merge_replace_b1 x1 x2) M.merge_replace_k1 (List.drop b o) b j=some r∧Sp (e++(L)) L') [(1,.int _ _),(2,.slice _ _ _),(13,.int _ _)] ⟨rfl,rfl,rfl,trivial⟩ (fun ⟨b,j,l,d,c,e⟩=>[(7,.slice l d c),(14,.int .i64 (b:Int))]) (fun ⟨b,j,l,d,c,e⟩=>o.length-b) ⟨0,o,Z,Y,R,P⟩ ⟨(Om y),hm,ii⟩ ⟨rfl,rfl,trivial⟩ ?_
 rintro ⟨b,j,l,d,c,e⟩ _ _ _ _ ⟨D,hm,A⟩
 refine J.sp A<|SR<|oq (q_lss rfl rfl)<|N0<|Sq ?_
 by_cases s:(b:Int)<(o.length:Int)
 · obtain ⟨_,_,x,_,hm,w⟩:=forL_cons s hm
   unfold M.merge_replace_b1 at hm
   refine jT rfl (dT s) ?_
   have G:-9223372036854775808≤(b:Int)+1∧(b:Int)+1≤9223372036854775807:=by omega
   refine Js<|Sq<|Jb<|SR<|oq (mI rfl)<|oq (aI rfl)<|N0<|Sq<|nE hm fun _ t m f O hm=>?_
   obtain ⟨n,I,rfl,rfl,g,q⟩:=OwnL.blk D f
   obtain ⟨_,p,N,_⟩:=OwnC.get q O
   obtain ⟨_,_,_,rfl,E⟩:=N
   refine bE hm fun _ T hm=>Rg<|oq (mS rfl)<|oq (mI rfl)<|oq (q_ian rfl rfl m (by rw [g]; exact f))<|oq (q_fa rfl)<|oq (q_ldO rfl ii p rfl)<|oq (mI rfl)<|oc (merge_coefficient_fn (Sm E) T) fun _ _ _ ab=>?_
   obtain ⟨_,_,_,_,rfl,F⟩:=ab.op
   refine o_al fun Q=>Sc [.bool _,.slice _ _ _] [.bool _,.slice _ _ _] rfl rfl rfl rfl rfl ia rfl rfl<|N0<|Sq<|bE hm fun _ U hm=>Rg<|oq (q_lda (vs:=[_,_]) rfl ii ⟨rfl,rfl,trivial⟩)<|oc (sign_fn' (iu F) U) fun _ _ _ ac=>?_
   cases ac
   refine oq (q_neq rfl rfl)<|N0<|iC hm (fun u hm=>?_) fun u hm=>?_
   · refine jF rfl (dF (fun z=>z u))<|Js<|Rg<|oq (q_add rfl rfl (wi64 G))<|oq (mI rfl)<|N0<|have hm:=inl_onward hm w; ?_
     exact ⟨⟨b+1,j,(some ⟨n,0,none⟩),d,c,[(n,row 47 I)]⟩,rfl,⟨rfl,rfl,rfl,trivial⟩,⟨rfl,rfl,trivial⟩,⟨(OwnC.own (OwnC.mono q) g),hm,ii⟩,(muL x),ii⟩
   · refine jT rfl (dT u)<|bE hm fun H V hm=>J.drawB [n,Q] [12]<|Dc 0 rfl (mS rfl)<|Dc 1 rfl (mI rfl)<|Dc 2 rfl (mS rfl)<|Dc 3 rfl (mI rfl)<|Dc 4 rfl (q_ian rfl rfl m (by rw [g]; exact f))<|Dc 5 rfl (q_fa rfl)<|Dl 6 rfl (q_ldO rfl ii p rfl)<|Dc 7 rfl (mS rfl)<|Dl 8 rfl (q_lda (vs:=[_,_]) rfl ii ⟨rfl,rfl,trivial⟩)<|Do 9<|Xe rfl rfl<|oc (chains_Add_fn (Sm E) (Sm X) (iu F) V) fun _ _ _ ad=>?_
     obtain ⟨_,_,_,rfl,K⟩:=ad.op3
     refine NE<|Dc 10 rfl (q_ian rfl rfl m (by rw [g]; exact f))<|Dc 11 rfl (q_fa rfl)<|Do 12<|Xm rfl rfl<|o_stO (us1:=[_,_,_]) (ps:=[_]) (a:=(TCell.mk t.ID t.Dim H)) Sz.i rfl rfl rfl rfl (OwnC.mono q) ii f p rfl (lB rfl) rfl ⟨_,_,_,rfl,Sm K⟩ (setL_eq m) fun B C=>NF<|Dd<|Rg<|oq (q_add rfl rfl (wi64 G))<|oq (mI rfl)<|N0<|have hm:=inl_onward hm w; ?_
     exact ⟨⟨b+1,(setL j (b:Int) (TCell.mk t.ID t.Dim H)),(some ⟨n,0,none⟩),d,c,[(n,row 47 B)]⟩,rfl,⟨rfl,rfl,rfl,trivial⟩,⟨rfl,rfl,trivial⟩,⟨(OwnC.own (OwnC.mono C) (setL_hn g)),hm,ii⟩,(muL x),ii⟩
 · replace hm:=forL_nil s hm
   unfold M.merge_replace_k1 at hm
   refine jF rfl (dF s)<|Jx<|SR<|oq (mS rfl)<|oq (aS rfl)<|N0<|Jr ?_
   cases hm
   exact ret_okS (fn:=Tryz.f78) (L2:=e++(L)) rfl (.tmp rfl .nil) ii ⟨l,d,c,e,rfl,(Om D),rfl⟩
theorem merge_without_1_fn {h:Heap} {x0:TCell} {x1:List Int} {v0:Value} {b1_:Nat} (r0:AggV TCellR h v0 x0) (r1:BoxF (LR (KR .i64) 1) h b1_ x1) {r:Bool} (hm:M.merge_without_1 x0 x1=some r) :
    Fn Tryz.prog 145 #[v0,.pointer (some ⟨b1_,0,none⟩)] h fun v h'=>v=.bool r:=by
 obtain ⟨_,b,a⟩:=r1
 obtain ⟨_,_,_,rfl,d⟩:=a
 obtain ⟨_,rfl,_,_,_,rfl,_⟩:=r0
 refine Fn.intro (args:=[_,_]) Tryz.func145 rfl rfl (lB rfl) fun w=>?_
 unfold M.merge_without_1 at hm
 refine SR<|o_bx (v:=.agg ⟨[.int _ _,.int _ _,.slice _ _ _]⟩) rfl rfl fun _=>oq (aB rfl)<|N0<|Sq<|bE hm fun _ c hm=>Rg<|oq (q_ldf rfl b)<|oq (q_fa rfl)<|oq (q_ld rfl ia rfl)<|oc (slices_Contains_Lint_int_fn (Sm d) c) fun _ _ _ e=>?_
 cases e
 refine oq (aB rfl)<|N0<|Jr ?_
 cases hm
 exact ret_ok (fn:=Tryz.f145) rfl (.tmp rfl .nil) rfl
theorem merge_without_fn {h:Heap} {x0:List TCell} {x1:List Int} {v0:Value} {v1:Value} (r0:Sls TCellR 3 h v0 x0) (r1:Sls (KR .i64) 1 h v1 x1) {r:List TCell} (hm:M.merge_without x0 x1=some r) :
    Fn Tryz.prog 77 #[v0,v1] h fun v h'=>Sls TCellR 3 h' v r:=by
 obtain ⟨_,_,_,rfl,m⟩:=r0.op3
 obtain ⟨q,p,j,rfl,n⟩:=r1.op3
 refine Fn.intro (args:=[_,_]) Tryz.func77 rfl rfl (lB rfl) fun w=>?_
 unfold M.merge_without at hm
 refine SR<|o_bx (v:=.slice _ _ _) rfl rfl fun i=>oq (aS rfl)<|N0<|Sq<|J.fzB (ob:=row 29 [.slice q p j]) i fun _ _ a=>?_
 have b:=CellN.row a
 refine bE hm fun _ k hm=>bE hm fun _ l hm=>Rg<|oq (mS rfl)<|o_calll (clone_complex_own (Sm m) k) fun _ _ _ _ s=>?_
 obtain ⟨_,_,_,g,rfl,d,rfl⟩:=s
 refine oq (q_mf)<|o_callio (g++([])) (slices_DeleteFunc_Complex_Cell_own (Om d) (fun e a0 w0 q0 c hc=>by haveI:=Ext.toStep e; exact merge_without_1_fn q0 ⟨_,CellN.mono b ii,⟨_,_,_,rfl,Sm n⟩⟩ hc) l) fun _ _ _ _ t=>?_
 obtain ⟨_,_,_,_,rfl,f,rfl⟩:=t
 refine oq (aS rfl)<|N0<|J.fzO (R:=TCellR) (Om f) fun _ _ o=>Jr ?_
 cases hm
 exact ret_ok (fn:=Tryz.f77) rfl (.tmp rfl .nil) (Sm o)
theorem merge_itself_own {rr:Option Nat} {nn:Nat} {w0:World} {h0 h:Heap} {L:Own} {x0:List TCell} {x1:List (Int×(List TFace))} {v0:Value} {v1:Value} (r0:Sls TCellR 3 h v0 x0) (r1:MapF (Sls TFaceR 3) h v1 x1) {r:List TImage} (hm:M.merge_itself x0 x1=some r) :
    FnIn ⟨Tryz.prog,rr,nn,w0,h0⟩ 79 #[v0,v1] h (L) fun v h' L'=>∃ (p0_0:Option Addr) (n0_0 c0_0:Nat) (M0_0:Own),v=.slice p0_0 n0_0 c0_0∧OwnL TImageR 131 2 h' (.slice p0_0 n0_0 c0_0) r M0_0∧L'=M0_0++(L):=by
 obtain ⟨_,_,_,rfl,n⟩:=r0.op3
 obtain ⟨_,rfl,ae⟩:=MapF.op r1
 refine FnIn.intro (args:=[_,_]) Tryz.func79 rfl rfl (lB rfl)<|SR<|oq (aS rfl)<|N0<|Sq<|bE hm fun K ac hm=>Rg<|oq (mS rfl)<|oq (q_lenE (k:=x0.length) rfl (Sls.len n))<|o_mkO (R:=TImageR) rfl rfl ac ⟨_,_,_,rfl,(Sls.nil (R:=TFaceR) (sz:=3) _)⟩ fun ah ab Z V=>oq (aS rfl)<|N0<|Sq<|SR<|oq (mS rfl)<|oq (q_lenE (k:=x0.length) rfl (Sls.len n))<|oq (mI rfl)<|N0<|Jb ?_
 obtain ⟨_,hm⟩:=rngL_some hm
 refine J.loopK (α:=Nat×(List TImage)×(Option Addr)×Nat×Nat×Own) (fun ⟨b,f,g,d,c,e⟩ h' L'=>OwnL TImageR 131 2 h' (.slice g d c) f e∧forL (M.merge_itself_b1 x1) M.merge_itself_k1 (List.drop b x0) b f=some r∧Sp (e++(L)) L') [(1,.map _),(13,.slice _ _ _),(14,.int _ _)] ⟨rfl,rfl,rfl,trivial⟩ (fun ⟨b,f,g,d,c,e⟩=>[(5,.slice g d c),(15,.int .i64 (b:Int))]) (fun ⟨b,f,g,d,c,e⟩=>x0.length-b) ⟨0,K,ah,K.length,ab,Z⟩ ⟨(Om V),hm,ii⟩ ⟨rfl,rfl,trivial⟩ ?_
 rintro ⟨b,f,g,d,c,e⟩ _ _ _ _ ⟨H,hm,z⟩
 refine J.sp z<|SR<|oq (q_lss rfl rfl)<|N0<|Sq ?_
 by_cases s:(b:Int)<(x0.length:Int)
 · obtain ⟨j,_,l,X,hm,y⟩:=forL_cons s hm
   unfold M.merge_itself_b1 at hm
   refine jT rfl (dT s) ?_
   have I:-9223372036854775808≤(b:Int)+1∧(b:Int)+1≤9223372036854775807:=by omega
   refine Js<|Sq<|Jb<|Sq ?_
   obtain ⟨_,_,rfl⟩:=Sls.op n l
   refine aE n X fun _ S P=>?_
   obtain ⟨_,_,_,rfl,_⟩:=P
   refine Rg<|oq (mI rfl)<|oq (q_ian rfl rfl rfl (ln n l))<|oq (q_ldfa rfl S)<|o_al fun aa=>oq (aI rfl)<|Sc [.int _ _,.int _ _,.slice _ _ _] [.int _ _,.int _ _,.slice _ _ _] rfl rfl rfl rfl rfl ia rfl rfl<|N0<|Sq<|bE hm fun B ad hm=>nE hm fun _ _ w o Y hm=>?_
   obtain ⟨q,_,rfl,rfl,m,A⟩:=OwnL.blk H o
   obtain ⟨_,T,Q,_⟩:=OwnC.get A Y
   obtain ⟨_,_,_,rfl,_⟩:=Q
   refine J.drawB [aa] []<|Dc 0 rfl (mS rfl)<|Dc 1 rfl (mI rfl)<|Dc 2 rfl (q_fa rfl)<|Dl 3 rfl (q_ld rfl ii rfl)<|Dc 4 rfl (q_fa rfl)<|Dl 5 rfl (q_ld rfl ii rfl)<|Do 6<|Xe rfl rfl<|oc (merge_one_fn ad) fun _ _ _ ai=>?_
   obtain ⟨_,_,_,rfl,af⟩:=ai.op3
   refine NE<|Dc 7 rfl (q_bd [.int _ _,.slice _ _ _] rfl)<|Dc 8 rfl (q_ian rfl rfl w (by rw [m]; exact o))<|Do 9<|Xe rfl rfl<|o_stO0 (us1:=[_,_]) (ps:=[_,_]) (a:=(TImage.mk j.ID B)) Sz.i rfl rfl rfl rfl (OwnC.mono A) ii o T rfl (lB rfl) rfl ⟨_,_,_,rfl,Sm af⟩ (setL_eq w) fun O p=>NE<|Dd<|Sq ?_
   obtain ⟨_,W,U⟩:=MapF.look ae j.ID (show (Sls TFaceR 3) _ (.slice none 0 0) ([]:List TFace) from ((Sls.nil (R:=TFaceR) (sz:=3) _)))
   obtain ⟨_,_,_,rfl,ag⟩:=W.op3
   refine Rg<|oq (q_mvv (v:=.map _) rfl)<|oq (q_fa rfl)<|oq (q_ld rfl ia rfl)<|oq (q_lookFOk rfl rfl U)<|oq q_mv<|oq (q_ex rfl rfl)<|oq (q_ex rfl rfl)<|oq (aS rfl)<|oq (aB rfl)<|N0<|SR<|oq (mB rfl)<|N0<|iC hm (fun u hm=>?_) fun u hm=>?_
   · refine jT rfl u<|nE hm fun _ N x t F hm=>?_
     obtain ⟨_,E,D,_⟩:=OwnC.get p F
     obtain ⟨_,_,_,rfl,_⟩:=D
     refine Rg<|oq (mS rfl)<|oq (mI rfl)<|oq (mS rfl)<|oq (q_ian rfl rfl x (by rw [(setL_hn m)]; exact t))<|oq (q_fa rfl)<|o_stO (us1:=[_,_]) (ps:=[_]) (a:=(TImage.mk N.ID (mget x1 j.ID ([]:List TFace)))) Sz.i rfl rfl rfl rfl (OwnC.mono p) ii t E rfl (lB rfl) rfl ⟨_,_,_,rfl,Sm ag⟩ (setL_eq x) fun C G=>N0<|Rg<|oq (q_add rfl rfl (wi64 I))<|oq (mI rfl)<|N0<|have hm:=inl_onward hm y; ?_
     exact ⟨⟨b+1,(setL (setL f (b:Int) (TImage.mk j.ID B)) (b:Int) (TImage.mk N.ID (mget x1 j.ID ([]:List TFace)))),(some ⟨q,0,none⟩),d,c,[(q,row 131 C)]⟩,rfl,⟨rfl,rfl,rfl,trivial⟩,⟨rfl,rfl,trivial⟩,⟨(OwnC.own (OwnC.mono G) (setL_hn (setL_hn m))),hm,ii⟩,(muL l),ii⟩
   · refine jF rfl (nT u)<|Js<|Rg<|oq (q_add rfl rfl (wi64 I))<|oq (mI rfl)<|N0<|have hm:=inl_onward hm y; ?_
     exact ⟨⟨b+1,(setL f (b:Int) (TImage.mk j.ID B)),(some ⟨q,0,none⟩),d,c,[(q,row 131 O)]⟩,rfl,⟨rfl,rfl,rfl,trivial⟩,⟨rfl,rfl,trivial⟩,⟨(OwnC.own (OwnC.mono p) (setL_hn m)),hm,ii⟩,(muL l),ii⟩
 · replace hm:=forL_nil s hm
   unfold M.merge_itself_k1 at hm
   refine jF rfl (dF s)<|Jx<|SR<|oq (mS rfl)<|oq (aS rfl)<|N0<|Jr ?_
   cases hm
   exact ret_okS (fn:=Tryz.f79) (L2:=e++(L)) rfl (.tmp rfl .nil) ii ⟨g,d,c,e,rfl,(Om H),rfl⟩
theorem merge_itself_swap {x0:List TCell} {a b:Int} {u w:List TFace} (h:a≠b):M.merge_itself x0 (mput (mput [] b w) a u)=M.merge_itself x0 (mput (mput [] a u) b w):=by
 have hf:∀ k,mfind (mput (mput [] b w) a u) k=mfind (mput (mput [] a u) b w) k:=fun k=>by
  simp only [mfind_mput,mfind]
  by_cases h1:k=a<;>by_cases h2:k=b<;>simp_all
 have hb:M.merge_itself_b1 (mput (mput [] b w) a u)=M.merge_itself_b1 (mput (mput [] a u) b w):=by
  funext i x s
  unfold M.merge_itself_b1
  simp only [mhas,mget,hf]<;>rfl
 unfold M.merge_itself
 rw [hb]
theorem merge_Identify_fn {h:Heap} {x0:List TCell} {x1:Int} {x2:Int} {v0:Value} (r0:Sls TCellR 3 h v0 x0) {r:(List TCell)×(List TImage)×Int} (hm:M.merge_Identify x0 x1 x2=some r) :
    Fn Tryz.prog 19 #[v0,.int .i64 x1,.int .i64 x2] h fun v h'=>∃ u0 u1 u2,v=.tuple ⟨[u0,u1,u2]⟩∧Sls TCellR 3 h' u0 r.1∧Sls TImageR 2 h' u1 r.2.1∧u2=.int .i64 r.2.2:=by
 obtain ⟨_,_,_,rfl,d⟩:=r0.op3
 refine Fn.intro (args:=[_,_,_]) Tryz.func19 rfl rfl (lB rfl) fun w=>?_
 unfold M.merge_Identify at hm
 refine SR<|oq (aS rfl)<|oq (aS rfl)<|oq (aI rfl)<|N0<|Sq<|bE hm fun p aj hm=>Rg<|oq (mS rfl)<|oq (mI rfl)<|oc (complex_Find_fn (Sm d) aj) fun _ _ _ aw=>?_
 obtain ⟨_,_,rfl,ax,ay⟩:=aw
 obtain ⟨_,rfl,au,aq,ah,rfl,an⟩:=ax
 cases ay
 refine oq q_mv<|oq (q_ex rfl rfl)<|oq (q_ex rfl rfl)<|o_al fun y=>Sc [.int _ _,.int _ _,.slice _ _ _] [.int _ _,.int _ _,.slice _ _ _] rfl rfl rfl rfl rfl ia rfl rfl<|oq (aB rfl)<|N0<|Sq<|bE hm fun g ak hm=>Rg<|oq (mS rfl)<|oq (mI rfl)<|oc (complex_Find_fn (Sm d) ak) fun _ _ _ az=>?_
 obtain ⟨_,_,rfl,aA,aC⟩:=az
 obtain ⟨_,rfl,av,ar,ai,rfl,ao⟩:=aA
 cases aC
 refine oq q_mv<|oq (q_ex rfl rfl)<|oq (q_ex rfl rfl)<|o_al fun A=>Sc [.int _ _,.int _ _,.slice _ _ _] [.int _ _,.int _ _,.slice _ _ _] rfl rfl rfl rfl rfl ia rfl rfl<|oq (aB rfl)<|N0<|Sq<|Jb<|Sq ?_
 refine J.joinK (α:=Bool) (fun e h' L'=>(M.merge_Identify_j2 x0 x1 x2 p g) e=some r∧Sp ([(y,row 47 [.int .i64 p.1.ID,.int .i64 p.1.Dim,.slice au aq ah]),(A,row 47 [.int .i64 g.1.ID,.int .i64 g.1.Dim,.slice av ar ai])]) L') [(0,.slice _ _ _),(1,.int _ _),(2,.int _ _),(9,.pointer _),(11,.pointer _)] ⟨rfl,rfl,rfl,rfl,rfl,trivial⟩ (fun e=>[(26,.bool e)]) ?_ ?_
 · refine iC hm (fun c hm=>?_) fun c hm=>?_
   · refine Rg<|oq (mB rfl)<|oq (q_not rfl)<|oq (mB rfl)<|gT rfl rfl (bT (c))<|oq (mB rfl)<|gT rfl rfl (bT (c))<|oq (q_not rfl)<|oq (pkF rfl (bT (c)) rfl)<|oq (aB rfl)<|N0 ?_
     exact ⟨(!g.2),rfl,⟨rfl,rfl,rfl,rfl,rfl,trivial⟩,⟨rfl,trivial⟩,⟨hm,ii⟩,ii⟩
   · refine Rg<|oq (mB rfl)<|oq (q_not rfl)<|oq (mB rfl)<|gF rfl rfl (bF ((nT c)))<|gF rfl rfl (bF ((nT c)))<|oq (pkT rfl (bF ((nT c))) rfl)<|oq (aB rfl)<|N0 ?_
     exact ⟨true,rfl,⟨rfl,rfl,rfl,rfl,rfl,trivial⟩,⟨rfl,trivial⟩,⟨hm,ii⟩,ii⟩
 · rintro e _ _ _ _ ⟨hm,m⟩
   refine J.sp m ?_
   unfold M.merge_Identify_j2 at hm
   refine iC hm (fun i hm=>?_) fun i hm=>?_
   · refine jT rfl i<|SR<|oq (aS rfl)<|oq (aS rfl)<|oq (aI rfl)<|N0<|Jr ?_
     cases hm
     exact ret_ok (fn:=Tryz.f19) rfl (.tmp rfl (.tmp rfl (.tmp rfl .nil))) ⟨_,_,_,rfl,((Sls.nil (R:=TCellR) (sz:=3) _)),((Sls.nil (R:=TImageR) (sz:=2) _)),rfl⟩
   · refine jF rfl (nT i)<|SR<|oq (q_fa rfl)<|oq (q_ld rfl ia rfl)<|oq (q_fa rfl)<|oq (q_ld rfl ia rfl)<|oq (q_neq rfl rfl)<|oq (aB rfl)<|N0<|iC hm (fun j hm=>?_) fun j hm=>?_
     · refine jF rfl (dF (fun z=>z j))<|Sq ?_
       refine J.joinK (α:=Bool) (fun f h' L'=>(M.merge_Identify_j1 x0 x1 x2) f=some r∧Sp ([]) L') [(0,.slice _ _ _),(1,.int _ _),(2,.int _ _)] ⟨rfl,rfl,rfl,trivial⟩ (fun f=>[(39,.bool f)]) ?_ ?_
       · refine iC hm (fun b hm=>?_) fun b hm=>?_
         · refine J.drawB [] []<|Dc 0 rfl (mI rfl)<|Dc 1 rfl (mI rfl)<|Dc 2 rfl (q_eql rfl rfl)<|Dc 3 rfl (mB rfl)<|Dp 4 rfl rfl rfl (dT b)<|Dp 5 rfl rfl rfl (dT b)<|Dp 6 rfl rfl rfl (dT b)<|Dp 7 rfl rfl rfl (dT b)<|Dp 8 rfl rfl rfl (dT b)<|Dp 9 rfl rfl rfl (dT b)<|Dp 10 rfl rfl rfl (dT b)<|Dp 11 rfl rfl rfl (dT b)<|Dc 12 rfl (pkT rfl (dT b) rfl)<|Dc 13 rfl (aB rfl)<|Dd ?_
           exact ⟨true,rfl,⟨rfl,rfl,rfl,trivial⟩,⟨rfl,trivial⟩,⟨hm,ii⟩,ii⟩
         · refine bE hm fun _ I hm=>bE hm fun o K hm=>J.drawB [y,A] []<|Dc 0 rfl (mI rfl)<|Dc 1 rfl (mI rfl)<|Dc 2 rfl (q_eql rfl rfl)<|Dc 3 rfl (mB rfl)<|Dg 4 rfl rfl rfl (dF b) (q_fa rfl)<|Dm 5 rfl rfl rfl (dF b) (q_ld rfl ii rfl)<|Dg 6 rfl rfl rfl (dF b) (q_fa rfl)<|Dm 7 rfl rfl rfl (dF b) (q_ld rfl ii rfl)<|Do 8<|Xg rfl rfl rfl rfl (dF b)<|oc (of_fn'' I) fun _ _ _ ae=>?_
           obtain ⟨_,_,_,_,rfl,W⟩:=ae.op
           refine NE<|Do 9<|Xg rfl rfl rfl rfl (dF b)<|oc (chains_Add_fn (Sm an) (Sm ao) (iu W) K) fun _ _ _ af=>?_
           obtain ⟨_,_,_,rfl,X⟩:=af.op3
           refine NE<|Dg 10 rfl rfl rfl (dF b) (q_lenE (k:=o.length) rfl (Sls.len X))<|Dg 11 rfl rfl rfl (dF b) (q_gtr rfl rfl)<|Dc 12 rfl (pkF rfl (dF b) rfl)<|Dc 13 rfl (aB rfl)<|Dd ?_
           exact ⟨(decide (0<(o.length:Int))),rfl,⟨rfl,rfl,rfl,trivial⟩,⟨rfl,trivial⟩,⟨hm,ii⟩,ii⟩
       · rintro f _ _ _ _ ⟨hm,n⟩
         refine J.sp n ?_
         unfold M.merge_Identify_j1 at hm
         refine iC hm (fun l hm=>?_) fun l hm=>?_
         · refine jT rfl l<|SR<|oq (aS rfl)<|oq (aS rfl)<|oq (aI rfl)<|N0<|Jr ?_
           cases hm
           exact ret_ok (fn:=Tryz.f19) rfl (.tmp rfl (.tmp rfl (.tmp rfl .nil))) ⟨_,_,_,rfl,((Sls.nil (R:=TCellR) (sz:=3) _)),((Sls.nil (R:=TImageR) (sz:=2) _)),rfl⟩
         · refine jF rfl (nT l)<|Js<|Sq<|bE hm fun _ al hm=>bE hm fun _ am hm=>bE hm fun _ C hm=>bE hm fun _ D hm=>Rg<|oq (mI rfl)<|oc (merge_one_fn al) fun _ _ _ aD=>?_
           obtain ⟨_,_,_,rfl,ap⟩:=aD.op3
           refine oq (mI rfl)<|oc (merge_one_fn am) fun _ _ _ aF=>?_
           obtain ⟨_,_,_,rfl,L⟩:=aF.op3
           refine oc (of_fn'' C) fun _ _ _ Y=>?_
           obtain ⟨_,_,_,_,rfl,N⟩:=Y.op
           refine oc (chains_Add_fn (Sm ap) (Sm L) (iu N) D) fun _ _ _ Z=>?_
           obtain ⟨_,_,_,rfl,O⟩:=Z.op3
           refine oq (aS rfl)<|N0<|Sq<|bE hm fun _ E hm=>bE hm fun _ F hm=>bE hm fun ag G hm=>bE hm fun _ H hm=>Rg<|oq (mS rfl)<|oq (mI rfl)<|oq (mS rfl)<|o_calll (merge_replace_own (Sm d) (Sm O) E) fun _ _ _ _ aa=>?_
           obtain ⟨_,_,_,_,rfl,q,rfl⟩:=aa
           refine JL.fzO (R:=TCellR) (Om q) fun _ _ P=>oq (mI rfl)<|o_bs [.int _ _] (by decide) rfl fun _=>LT (KR .i64) 1 1 [x2] (c1 rfl c0) fun _ s=>JL.fzO (R:=(KR .i64)) (Om s) fun _ _ Q=>oc (merge_without_fn (Sm P) (Sm Q) F) fun _ _ _ ab=>?_
           obtain ⟨_,_,_,rfl,S⟩:=ab.op3
           refine oq (mS rfl)<|o_mkMap (VR:=(Sls TFaceR 3)) fun B _ u=>oq (mI rfl)<|oq (mI rfl)<|oc (merge_one_fn G) fun _ _ _ ac=>?_
           obtain ⟨_,_,_,rfl,T⟩:=ac.op3
           refine o_mapIns (VR:=(Sls TFaceR 3)) (a:=ag) rfl rfl rfl ii (MapR.mono u) (Sm T) fun _ x=>oq (q_mvv (v:=.map _) rfl)<|JL.fzM B (MapR.mono x) fun _ _ U=>o_calll (merge_itself_own (Sm d) (MapF.mono U) H) fun _ _ _ _ ad=>?_
           obtain ⟨_,_,_,_,rfl,t,rfl⟩:=ad
           refine oq (aS rfl)<|oq (aS rfl)<|oq (aI rfl)<|N0<|J.fzO (R:=TImageR) (Om t) fun _ _ V=>Jr ?_
           cases hm
           exact ret_ok (fn:=Tryz.f19) rfl (.tmp rfl (.tmp rfl (.tmp rfl .nil))) ⟨_,_,_,rfl,(Sm S),(Sm V),rfl⟩
     · refine jT rfl (dT j)<|SR<|oq (aS rfl)<|oq (aS rfl)<|oq (aI rfl)<|N0<|Jr ?_
       cases hm
       exact ret_ok (fn:=Tryz.f19) rfl (.tmp rfl (.tmp rfl (.tmp rfl .nil))) ⟨_,_,_,rfl,((Sls.nil (R:=TCellR) (sz:=3) _)),((Sls.nil (R:=TImageR) (sz:=2) _)),rfl⟩
theorem merge_uses_own {rr:Option Nat} {nn:Nat} {w0:World} {h0 h:Heap} {L:Own} {x0:List TCell} {v0:Value} (r0:Sls TCellR 3 h v0 x0) {r:List (Int×Int)} (hm:M.merge_uses x0=some r) :
    FnIn ⟨Tryz.prog,rr,nn,w0,h0⟩ 89 #[v0] h (L) fun v h' L'=>∃ (b0_0:Nat) (o0_0:Obj),v=.map (some b0_0)∧MapR (VI .i64) h' o0_0 r∧L'=[(b0_0,o0_0)]++(L):=by
 obtain ⟨_,_,_,rfl,o⟩:=r0.op3
 refine FnIn.intro (args:=[_]) Tryz.func89 rfl rfl (lB rfl)<|SR<|oq (q_asv (v:=.map _) rfl)<|N0<|SR<|o_mkMap (VR:=(VI .i64)) fun f R K=>oq (q_asv (v:=.map _) rfl)<|N0<|Sq<|SR<|oq (mS rfl)<|oq (q_lenE (k:=x0.length) rfl (Sls.len o))<|oq (mI rfl)<|N0<|Jb ?_
 obtain ⟨_,hm⟩:=rngL_some hm
 refine J.loopK (α:=Nat×(List (Int×Int))×Obj) (fun ⟨b,i,e⟩ h' L'=>MapR (VI .i64) h' e i∧forL M.merge_uses_b2 M.merge_uses_k2 (List.drop b x0) b i=some r∧Sp ([(f,e)]++(L)) L') [(9,.slice _ _ _),(10,.int _ _)] ⟨rfl,rfl,trivial⟩ (fun ⟨b,i,e⟩=>[(3,.map (some f)),(11,.int .i64 (b:Int))]) (fun ⟨b,i,e⟩=>x0.length-b) ⟨0,([]:List (Int×Int)),R⟩ ⟨(MapR.mono K),hm,ii⟩ ⟨rfl,rfl,trivial⟩ ?_
 rintro ⟨b,i,e⟩ _ _ _ _ ⟨x,hm,u⟩
 refine J.sp u<|SR<|oq (q_lss rfl rfl)<|N0<|Sq ?_
 by_cases m:(b:Int)<(x0.length:Int)
 · obtain ⟨q,S,j,H,hm,D⟩:=forL_cons m hm
   unfold M.merge_uses_b2 at hm
   refine jT rfl (dT m) ?_
   have O:-9223372036854775808≤(b:Int)+1∧(b:Int)+1≤9223372036854775807:=by omega
   refine Js<|Sq<|Jb<|Sq ?_
   obtain ⟨_,_,rfl⟩:=Sls.op o j
   refine aE o H fun _ A y=>?_
   obtain ⟨_,_,_,rfl,p⟩:=y
   refine Rg<|oq (q_ian rfl rfl rfl (ln o j))<|oq (q_ldfa rfl A)<|o_al fun _=>Sc [.int _ _,.int _ _,.slice _ _ _] [.int _ _,.int _ _,.slice _ _ _] rfl rfl rfl rfl rfl ia rfl rfl<|N0<|SR<|oq (q_fa rfl)<|oq (q_ld rfl ia rfl)<|oq (q_lenE (k:=q.B.length) rfl (Sls.len p))<|oq (mI rfl)<|N0<|Jb ?_
   obtain ⟨_,hm⟩:=rngL_some hm
   refine J.loopK (α:=Nat×(List (Int×Int))×Obj) (fun ⟨c,d,g⟩ h' L'=>MapR (VI .i64) h' g d∧forL M.merge_uses_b1 M.merge_uses_k1 (List.drop c q.B) c d=some S∧Sp ([(f,g)]++(L)) L') [(9,.slice _ _ _),(10,.int _ _),(11,.int _ _),(16,.slice _ _ _),(17,.int _ _)] ⟨rfl,rfl,rfl,rfl,rfl,trivial⟩ (fun ⟨c,d,g⟩=>[(3,.map (some f)),(18,.int .i64 (c:Int))]) (fun ⟨c,d,g⟩=>q.B.length-c) ⟨0,i,e⟩ ⟨(MapR.mono x),hm,ii⟩ ⟨rfl,rfl,trivial⟩ ?_
   rintro ⟨c,d,g⟩ _ _ _ _ ⟨t,hm,w⟩
   refine J.sp w<|SR<|oq (q_lss rfl rfl)<|N0<|Sq ?_
   by_cases n:(c:Int)<(q.B.length:Int)
   · obtain ⟨s,_,l,I,hm,E⟩:=forL_cons n hm
     unfold M.merge_uses_b1 at hm
     refine jT rfl (dT n) ?_
     have P:-9223372036854775808≤(c:Int)+1∧(c:Int)+1≤9223372036854775807:=by omega
     refine Js<|Sq<|Jb<|Sq ?_
     obtain ⟨_,_,rfl⟩:=Sls.op p l
     refine aE p I fun _ C z=>?_
     obtain ⟨_,_,_,_,rfl,_⟩:=z
     refine Rg<|oq (q_ian rfl rfl rfl (ln p l))<|oq (q_ldfa rfl C)<|o_al fun _=>Sc [.int _ _,.bool _,.slice _ _ _] [.int _ _,.bool _,.slice _ _ _] rfl rfl rfl rfl rfl ia rfl rfl<|N0 ?_
     obtain ⟨_,G,F⟩:=MapR.look t s.ID (show (VI .i64) _ (.int .i64 0) 0 from rfl)
     cases G
     refine kS hm fun Q hm=>Rg<|oq (q_mvv (v:=.map _) rfl)<|oq (q_fa rfl)<|oq (q_ld rfl ia rfl)<|oq (q_look rfl rfl ii F)<|oq (q_add rfl rfl (wi64 Q))<|o_mapPut (VR:=(VI .i64)) (a:=((mget d s.ID 0)+1)) rfl rfl rfl ii (MapR.mono t) (show (VI .i64) _ _ _ from rfl) fun T N=>N0<|Rg<|oq (q_add rfl rfl (wi64 P))<|oq (mI rfl)<|N0<|have hm:=inl_onward hm E; ?_
     exact ⟨⟨c+1,(mput d s.ID ((mget d s.ID 0)+1)),T⟩,rfl,⟨rfl,rfl,rfl,rfl,rfl,trivial⟩,⟨rfl,rfl,trivial⟩,⟨(MapR.mono N),hm,ii⟩,(muL l),ii⟩
   · replace hm:=forL_nil n hm
     unfold M.merge_uses_k1 at hm
     refine jF rfl (dF n)<|Jx<|Rg<|oq (q_add rfl rfl (wi64 O))<|oq (mI rfl)<|N0<|have hm:=inl_onward hm D; ?_
     exact ⟨⟨b+1,d,g⟩,rfl,⟨rfl,rfl,trivial⟩,⟨rfl,rfl,trivial⟩,⟨(MapR.mono t),hm,ii⟩,(muL j),ii⟩
 · replace hm:=forL_nil m hm
   unfold M.merge_uses_k2 at hm
   refine jF rfl (dF m)<|Jx<|SR<|oq (q_mvv (v:=.map _) rfl)<|oq (q_asv (v:=.map _) rfl)<|N0<|Jr ?_
   cases hm
   exact ret_okS (fn:=Tryz.f89) (L2:=[(f,e)]++(L)) rfl (.tmp rfl .nil) ii ⟨f,e,rfl,(MapR.mono x),rfl⟩
theorem merge_Free_fn {h:Heap} {x0:List TCell} {v0:Value} (r0:Sls TCellR 3 h v0 x0) {r:List (Int×Int)} (hm:M.merge_Free x0=some r) :
    Fn Tryz.prog 29 #[v0] h fun v h'=>Sls A2IntR 2 h' v r:=by
 obtain ⟨_,_,_,rfl,E⟩:=r0.op3
 refine Fn.intro (args:=[_]) Tryz.func29 rfl rfl (lB rfl) fun w=>?_
 unfold M.merge_Free at hm
 refine SR<|oq (aS rfl)<|N0<|Sq<|bE hm fun ac a2 hm=>Rg<|oq (mS rfl)<|o_calll (merge_uses_own (Sm E) a2) fun _ _ _ _ a7=>?_
 obtain ⟨aj,_,rfl,aR,rfl⟩:=a7
 refine oq (q_asv (v:=.map _) rfl)<|N0<|SR<|o_mkMap (VR:=VB) fun I a3 aT=>oq (q_asv (v:=.map _) rfl)<|N0<|Sq<|Sq<|J.fzM aj (MapR.mono aR) fun _ _ am=>?_
 obtain ⟨G,ad,z,O,l⟩:=MapF.ents am
 refine Rg<|oq (q_mvv (v:=.map _) rfl)<|o_rangeE rfl z fun aQ=>N0<|Jb<|J.loopK (α:=List MapEntry×List (Int×Bool)×Obj) (fun ⟨done,mm,oo⟩ h' L'=>(∀ e∈done,e∈G)∧(done.map (·.born)).Nodup∧MapR VB h' oo mm∧OnceInv done mm∧Sp ([(I,oo)]++([(aQ,(iterO aj ad done))]++([]))) L') [(0,.slice _ _ _),(3,.map _),(4,.map _),(16,.pointer _)] ⟨rfl,rfl,rfl,rfl,trivial⟩ (fun _=>[]) (fun x=>G.length-x.1.length) ([],[],a3) ⟨(fun e he=>(by cases he)),by simp,MapR.mono aT,OnceInv.nil,ii⟩ trivial ?_
 rintro ⟨done,mm,oo⟩ _ aM _ _ ⟨hd1,hd2,hmr,hinv,hsp⟩
 refine J.sp hsp<|SR ?_
 refine o_nextE rfl z l ii hd1 (fun hall=>?_) (fun e he1 he2=>?_)
 rotate_left
 · refine oq (q_ex rfl rfl)<|N0<|Sq<|jT rfl rfl<|Js<|Jb<|SR<|oq (q_entry rfl z l ii he1) ?_
   obtain ⟨kx,vx,hkx,hvx⟩:=ents_memI O he1
   refine oq (q_ex (v:=.int .i64 kx) rfl (by rw [← hkx]; rfl))<|oq (q_ex (v:=.int .i64 vx) rfl (by rw [← hvx]; rfl))<|oq (aI rfl)<|oq (aI rfl)<|N0<|SR<|oq (mI rfl)<|oq (q_eql rfl rfl)<|N0 ?_
   have hlt:=born_ltM l hd1 hd2 he1 he2
   have hd1b:∀ x∈done++[e],x∈G:=fun x hx=>by
     rcases List.mem_append.1 hx with hx | hx
     · exact hd1 x hx
     · simp at hx; subst hx; exact he1
   have hd2b:((done++[e]).map (·.born)).Nodup:=by
     rw [List.map_append,List.nodup_append]; exact ⟨hd2,by simp,fun a ha b hb=>by simp at hb; subst hb; exact fun hab=>he2 (hab ▸ ha)⟩
   by_cases c1:vx=1
   · refine jT rfl (dT c1)<|Rg<|oq (q_mvv (v:=.map _) rfl)<|oq (mI rfl)<|o_mapPut (VR:=VB) (a:=true) rfl rfl rfl ii (MapR.mono hmr) (show VB _ _ _ from rfl) fun o2 mr2=>N0 ?_
     exact ⟨(done++[e],_,o2),rfl,⟨rfl,rfl,rfl,rfl,trivial⟩,trivial,⟨hd1b,hd2b,mr2,OnceInv.put hinv hkx (by rw [hvx,c1]),ii⟩,by simp only [List.length_append,List.length_singleton]; omega,ii⟩
   · refine jF rfl (dF c1)<|Js ?_
     exact ⟨(done++[e],mm,oo),rfl,⟨rfl,rfl,rfl,rfl,trivial⟩,trivial,⟨hd1b,hd2b,MapR.mono hmr,OnceInv.skip hinv hkx (by rw [hvx]; intro he; injection he with _ he; exact c1 he),ii⟩,by simp only [List.length_append,List.length_singleton]; omega,ii⟩
 refine oq (q_ex rfl rfl)<|N0<|Sq<|jF rfl rfl<|Jx ?_
 obtain ⟨ab,H⟩:∃ ob,MapQ VB aM ob (M.onceOf ac)∧ob=oo:=⟨oo,MapR.q hmr (OnceInv.done hinv O l hd1 hd2 hall),rfl⟩
 obtain ⟨H,rfl⟩:=H
 refine SR<|oq (aS rfl)<|N0<|Sq<|SR<|oq (mS rfl)<|oq (q_lenE (k:=x0.length) rfl (Sls.len E))<|oq (mI rfl)<|N0<|Jb ?_
 obtain ⟨_,hm⟩:=rngL_some hm
 refine J.loopK (α:=Nat×(List (Int×Int))×(Option Addr)×Nat×Nat×Own) (fun ⟨d,y,t,p,n,m⟩ h' L'=>OwnL A2IntR 59 2 h' (.slice t p n) y m∧forL (M.merge_Free_b3 ac) M.merge_Free_k3 (List.drop d x0) d y=some r∧Sp ([(I,ab)]++(m++([]))) L') [(3,.map _),(4,.map _),(26,.slice _ _ _),(27,.int _ _)] ⟨rfl,rfl,rfl,rfl,trivial⟩ (fun ⟨d,y,t,p,n,m⟩=>[(7,.slice t p n),(28,.int .i64 (d:Int))]) (fun ⟨d,y,t,p,n,m⟩=>x0.length-d) ⟨0,([]:List (Int×Int)),none,0,0,[]⟩ ⟨(OwnL.nil _),hm,ii⟩ ⟨rfl,rfl,trivial⟩ ?_
 rintro ⟨d,y,t,p,n,m⟩ _ _ _ _ ⟨U,hm,Y⟩
 refine J.sp Y<|SR<|oq (q_lss rfl rfl)<|N0<|Sq ?_
 by_cases K:(d:Int)<(x0.length:Int)
 · obtain ⟨g,a4,A,aO,hm,W⟩:=forL_cons K hm
   unfold M.merge_Free_b3 at hm
   refine jT rfl (dT K) ?_
   have an:-9223372036854775808≤(d:Int)+1∧(d:Int)+1≤9223372036854775807:=by omega
   refine Js<|Sq<|Jb<|Sq ?_
   obtain ⟨_,_,rfl⟩:=Sls.op E A
   refine aE E aO fun _ aK aJ=>?_
   obtain ⟨a6,ap,al,rfl,N⟩:=aJ
   refine Rg<|oq (q_ian rfl rfl rfl (ln E A))<|oq (q_ldfa rfl aK)<|o_al fun ak=>Sc [.int _ _,.int _ _,.slice _ _ _] [.int _ _,.int _ _,.slice _ _ _] rfl rfl rfl rfl rfl ia rfl rfl<|N0<|Sq<|Sq ?_
   obtain ⟨_,aN,aL⟩:=MapF.look am g.ID (show (VI .i64) _ (.int .i64 0) 0 from rfl)
   cases aN
   refine Rg<|oq (q_mvv (v:=.map _) rfl)<|oq (q_fa rfl)<|oq (q_ld rfl ia rfl)<|oq (q_lookF rfl rfl aL)<|oq (q_gtr rfl rfl)<|N0<|iC hm (fun T hm=>?_) fun T hm=>?_
   · refine jT rfl (dT T)<|Jx<|Rg<|oq (q_add rfl rfl (wi64 an))<|oq (mI rfl)<|N0<|have hm:=inl_onward hm W; ?_
     exact ⟨⟨d+1,y,t,p,n,m⟩,rfl,⟨rfl,rfl,rfl,rfl,trivial⟩,⟨rfl,rfl,trivial⟩,⟨(Om U),hm,ii⟩,(muL A),ii⟩
   · refine jF rfl (dF T)<|Js<|SR<|oq (q_fa rfl)<|oq (q_ld rfl ia rfl)<|oq (q_lenE (k:=g.B.length) rfl (Sls.len N))<|oq (mI rfl)<|N0<|Jb ?_
     obtain ⟨_,hm⟩:=rngL_some hm
     refine J.loopK (α:=Nat×(List (Int×Int))×(Option Addr)×Nat×Nat×Own) (fun ⟨f,j,u,s,o,i⟩ h' L'=>OwnL A2IntR 59 2 h' (.slice u s o) j i∧forL (M.merge_Free_b2 ac g) M.merge_Free_k2 (List.drop f g.B) f j=some a4∧Sp ([(I,ab)]++(i++([(ak,row 47 [.int .i64 g.ID,.int .i64 g.Dim,.slice a6 ap al])]))) L') [(3,.map _),(4,.map _),(9,.pointer _),(26,.slice _ _ _),(27,.int _ _),(28,.int _ _),(38,.slice _ _ _),(39,.int _ _)] ⟨rfl,rfl,rfl,rfl,rfl,rfl,rfl,rfl,trivial⟩ (fun ⟨f,j,u,s,o,i⟩=>[(7,.slice u s o),(40,.int .i64 (f:Int))]) (fun ⟨f,j,u,s,o,i⟩=>g.B.length-f) ⟨0,y,t,p,n,m⟩ ⟨(Om U),hm,ii⟩ ⟨rfl,rfl,trivial⟩ ?_
     rintro ⟨f,j,u,s,o,i⟩ _ _ _ _ ⟨V,hm,Z⟩
     refine J.sp Z<|SR<|oq (q_lss rfl rfl)<|N0<|Sq ?_
     by_cases L:(f:Int)<(g.B.length:Int)
     · obtain ⟨Q,a5,C,aP,hm,X⟩:=forL_cons L hm
       unfold M.merge_Free_b2 at hm
       refine jT rfl (dT L) ?_
       have ao:-9223372036854775808≤(f:Int)+1∧(f:Int)+1≤9223372036854775807:=by omega
       refine Js<|Sq<|Jb<|Sq ?_
       obtain ⟨ar,aV,rfl⟩:=Sls.op N C
       refine aE N aP fun _ af ae=>?_
       obtain ⟨aH,aW,aU,av,rfl,aC⟩:=ae
       refine Rg<|oq (q_ian rfl rfl rfl (ln N C))<|oq (q_ldfa rfl af)<|o_al fun au=>Sc [.int _ _,.bool _,.slice _ _ _] [.int _ _,.bool _,.slice _ _ _] rfl rfl rfl rfl rfl ia rfl rfl<|N0<|Sq ?_
       refine J.joinK (α:=Bool) (fun D h' L'=>(M.merge_Free_j1 g j Q) D=some a5∧Sp ([(I,ab)]++(i++([(ak,row 47 [.int .i64 g.ID,.int .i64 g.Dim,.slice (some ⟨ar,aV,none⟩) ap al]),(au,row 133 [.int .i64 Q.ID,.bool aH,.slice aW aU av])]))) L') [(3,.map _),(4,.map _),(7,.slice _ _ _),(9,.pointer _),(11,.pointer _),(26,.slice _ _ _),(27,.int _ _),(28,.int _ _),(38,.slice _ _ _),(39,.int _ _),(40,.int _ _)] ⟨rfl,rfl,rfl,rfl,rfl,rfl,rfl,rfl,rfl,rfl,rfl,trivial⟩ (fun D=>[(55,.bool D)]) ?_ ?_
       · obtain ⟨_,ai,P⟩:=MapQ.look H Q.ID (show VB _ (.bool false) false from rfl)
         cases ai
         refine iC hm (fun c hm=>?_) fun c hm=>?_
         · refine bE hm fun _ ay hm=>bE hm fun _ az hm=>bE hm fun a1 aA hm=>Rg<|oq (q_mvv (v:=.map _) rfl)<|oq (q_fa rfl)<|oq (q_ld rfl ia rfl)<|oq (q_look rfl rfl ii P)<|oq (mB rfl)<|gT rfl rfl c<|oq (q_fa rfl)<|gT rfl rfl c<|oq (q_lda (vs:=[_,_]) rfl ii ⟨rfl,rfl,trivial⟩)<|gT rfl rfl c<|oc (abs_fn' (iu aC) ay) fun _ _ _ aY=>?_
           obtain ⟨_,_,_,_,rfl,aD⟩:=aY.op
           refine gT rfl rfl c<|oc (of_fn'' az) fun _ _ _ aZ=>?_
           obtain ⟨_,_,_,_,rfl,aF⟩:=aZ.op
           refine gT rfl rfl c<|oc (cmp_fn' (iu aD) (iu aF) aA) fun _ _ _ a0=>?_
           cases a0
           refine gT rfl rfl c<|oq (q_eql rfl rfl)<|oq (pkT rfl c rfl)<|N0 ?_
           exact ⟨(decide (a1=0)),rfl,⟨rfl,rfl,rfl,rfl,rfl,rfl,rfl,rfl,rfl,rfl,rfl,trivial⟩,⟨rfl,trivial⟩,⟨hm,ii⟩,ii⟩
         · refine Rg<|oq (q_mvv (v:=.map _) rfl)<|oq (q_fa rfl)<|oq (q_ld rfl ia rfl)<|oq (q_look rfl rfl ii P)<|oq (mB rfl)<|gF rfl rfl (nT c)<|gF rfl rfl (nT c)<|gF rfl rfl (nT c)<|gF rfl rfl (nT c)<|gF rfl rfl (nT c)<|gF rfl rfl (nT c)<|oq (pkF rfl (nT c) rfl)<|N0 ?_
           exact ⟨false,rfl,⟨rfl,rfl,rfl,rfl,rfl,rfl,rfl,rfl,rfl,rfl,rfl,trivial⟩,⟨rfl,trivial⟩,⟨hm,ii⟩,ii⟩
       · rintro D _ _ _ _ ⟨hm,S⟩
         refine J.sp S ?_
         unfold M.merge_Free_j1 at hm
         refine iC hm (fun F hm=>?_) fun F hm=>?_
         · refine jT rfl F<|bE hm fun aa ax hm=>Rg<|oq (mS rfl)<|oq (q_fa rfl)<|oq (q_ld rfl ia rfl)<|oq (q_fa rfl)<|oq (q_ld rfl ia rfl)<|oq (q_bda [.int _ _,.int _ _] rfl) ?_
           refine o_bs [.int _ _,.int _ _] (by decide) rfl fun _=>LT A2IntR 2 1 [(g.ID,Q.ID)] (c2 rfl c0) fun ag _=>o_appB (R:=A2IntR) rfl rfl (Om V) ii ag ax fun aX aw aq ah=>oq (aS rfl)<|N0<|Rg<|oq (q_add rfl rfl (wi64 ao))<|oq (mI rfl)<|N0<|have hm:=inl_onward hm X; ?_
           exact ⟨⟨f+1,aa,aX,aa.length,aw,aq⟩,rfl,⟨rfl,rfl,rfl,rfl,rfl,rfl,rfl,rfl,trivial⟩,⟨rfl,rfl,trivial⟩,⟨(Om ah),hm,ii⟩,(muL C),ii⟩
         · refine jF rfl (nT F)<|Js<|Rg<|oq (q_add rfl rfl (wi64 ao))<|oq (mI rfl)<|N0<|have hm:=inl_onward hm X; ?_
           exact ⟨⟨f+1,j,u,s,o,i⟩,rfl,⟨rfl,rfl,rfl,rfl,rfl,rfl,rfl,rfl,trivial⟩,⟨rfl,rfl,trivial⟩,⟨(Om V),hm,ii⟩,(muL C),ii⟩
     · replace hm:=forL_nil L hm
       unfold M.merge_Free_k2 at hm
       refine jF rfl (dF L)<|Jx<|Rg<|oq (q_add rfl rfl (wi64 an))<|oq (mI rfl)<|N0<|have hm:=inl_onward hm W; ?_
       exact ⟨⟨d+1,j,u,s,o,i⟩,rfl,⟨rfl,rfl,rfl,rfl,trivial⟩,⟨rfl,rfl,trivial⟩,⟨(Om V),hm,ii⟩,(muL A),ii⟩
 · replace hm:=forL_nil K hm
   unfold M.merge_Free_k3 at hm
   refine jF rfl (dF K)<|Jx<|SR<|oq (mS rfl)<|oq (aS rfl)<|N0<|J.fzO (R:=A2IntR) (Om U) fun _ _ aG=>Jr ?_
   cases hm
   exact ret_ok (fn:=Tryz.f29) rfl (.tmp rfl .nil) (Sm aG)
theorem merge_collapse_fn {h:Heap} {x0:List TCell} {x1:Int} {x2:Int} {v0:Value} (r0:Sls TCellR 3 h v0 x0) {r:(List TCell)×(List TImage)} (hm:M.merge_collapse x0 x1 x2=some r) :
    Fn Tryz.prog 84 #[v0,.int .i64 x1,.int .i64 x2] h fun v h'=>∃ u0 u1,v=.tuple ⟨[u0,u1]⟩∧Sls TCellR 3 h' u0 r.1∧Sls TImageR 2 h' u1 r.2:=by
 obtain ⟨_,_,_,rfl,k⟩:=r0.op3
 refine Fn.intro (args:=[_,_,_]) Tryz.func84 rfl rfl (lB rfl) fun w=>?_
 unfold M.merge_collapse at hm
 refine SR<|oq (aS rfl)<|oq (aS rfl)<|N0<|Sq<|bE hm fun _ A hm=>Rg<|oq (mS rfl)<|oq (mI rfl)<|oc (complex_Find_fn (Sm k) A) fun _ _ _ N=>?_
 obtain ⟨_,_,rfl,O,P⟩:=N
 obtain ⟨_,rfl,_,_,_,rfl,s⟩:=O
 cases P
 refine oq q_mv<|oq (q_ex rfl rfl)<|oq (q_ex rfl rfl)<|o_al fun y=>Sc [.int _ _,.int _ _,.slice _ _ _] [.int _ _,.int _ _,.slice _ _ _] rfl rfl rfl rfl rfl ia rfl rfl<|oq (aB rfl)<|N0<|Sq<|bE hm fun _ B hm=>Rg<|oq (q_fa rfl)<|oq (q_ld rfl ia rfl)<|oq (mI rfl)<|oc (merge_coefficient_fn (Sm s) B) fun _ _ _ Q=>?_
 obtain ⟨_,_,_,_,rfl,t⟩:=Q.op
 refine o_al fun z=>Sc [.bool _,.slice _ _ _] [.bool _,.slice _ _ _] rfl rfl rfl rfl rfl ia rfl rfl<|N0<|Sq<|bE hm fun _ C hm=>bE hm fun _ D hm=>bE hm fun _ E hm=>J.drawB [y,z] []<|Dc 0 rfl (q_fa rfl)<|Dl 1 rfl (q_ld rfl ii rfl)<|Dc 2 rfl (mI rfl)<|Dl 4 rfl (q_lda (vs:=[_,_]) rfl ii ⟨rfl,rfl,trivial⟩)<|Do 3<|Xe rfl rfl<|oc (merge_one_fn C) fun _ _ _ S=>?_
 obtain ⟨_,_,_,rfl,H⟩:=S.op3
 refine NE<|Do 5<|Xe rfl rfl<|oc (neg_fn' (iu t) D) fun _ _ _ T=>?_
 obtain ⟨_,_,_,_,rfl,I⟩:=T.op
 refine NE<|Do 6<|Xe rfl rfl<|oc (chains_Add_fn (Sm s) (Sm H) (iu I) E) fun _ _ _ U=>?_
 obtain ⟨_,_,_,rfl,K⟩:=U.op3
 refine NE<|Dc 7 rfl (aS rfl)<|Dd<|Sq<|bE hm fun _ F hm=>bE hm fun m G hm=>Rg<|oq (mS rfl)<|oq (q_lda (vs:=[_,_]) rfl ii ⟨rfl,rfl,trivial⟩)<|oc (neg_fn' (iu t) F) fun _ _ _ V=>?_
 obtain ⟨_,_,_,_,rfl,L⟩:=V.op
 refine oc (chains_Add_fn ((Sls.nil (R:=TFaceR) (sz:=3) _)) (Sm K) (iu L) G) fun _ _ _ W=>?_
 obtain ⟨_,_,_,rfl,j⟩:=W.op3
 refine oq (aS rfl)<|N0<|Sq<|bE hm fun _ g hm=>?_
 obtain ⟨_,hm⟩:=neq_some hm
 refine bE hm fun _ p hm=>J.drawB [] []<|Dc 0 rfl (mS rfl)<|Dc 1 rfl (mI rfl)<|Dc 2 rfl (mI rfl)<|Dc 5 rfl (mS rfl)<|Dc 7 rfl (mI rfl)<|Dc 9 rfl (mI rfl)<|Dc 10 rfl (mS rfl) ?_
 refine Da [3,6] ⟨?_,?_,trivial⟩
 focus
  refine Xe rfl rfl<|o_bs [.int _ _,.int _ _] (by decide) rfl fun _=>LT (KR .i64) 1 2 [x1,x2] (c1 rfl (c1 rfl c0)) fun _ l=>JL.fzO (R:=(KR .i64)) (Om l) fun _ _ e=>NE ?_
  refine Da [4,6] ⟨?_,?_,trivial⟩
  focus
   refine Xe rfl rfl<|oc (merge_without_fn (Sm k) (Sm e) g) fun _ _ _ b=>?_
   obtain ⟨_,_,_,rfl,i⟩:=b.op3
   refine NE<|Do 6<|Xe rfl rfl<|o_mkMap (VR:=(Sls TFaceR 3)) fun n _ f=>NE ?_
   refine Da [8,11] ⟨?_,?_,trivial⟩
   focus
    refine Xe rfl rfl<|o_mapIns (VR:=(Sls TFaceR 3)) (a:=([]:List TFace)) rfl rfl rfl ii (MapR.mono f) ((Sls.nil (R:=TFaceR) (sz:=3) _)) fun _ c=>NE<|Do 11<|Xe rfl rfl<|o_mapIns (VR:=(Sls TFaceR 3)) (a:=m) rfl rfl rfl ii (MapR.mono c) (Sm j) fun _ d=>?_
   rotate_left
   focus
    refine Xe rfl rfl<|o_mapIns (VR:=(Sls TFaceR 3)) (a:=m) rfl rfl rfl ii (MapR.mono f) (Sm j) fun _ d=>NE<|Do 8<|Xe rfl rfl<|o_mapIns (VR:=(Sls TFaceR 3)) (a:=([]:List TFace)) rfl rfl rfl ii (MapR.mono d) ((Sls.nil (R:=TFaceR) (sz:=3) _)) fun _ c=>?_
   rotate_left
   all_goals
    refine NE<|Dc 12 rfl (q_mvv (v:=.map _) rfl) ?_
  rotate_left 2
  focus
   refine Xe rfl rfl<|o_mkMap (VR:=(Sls TFaceR 3)) fun n _ f=>NE ?_
   refine Da [4,8,11] ⟨?_,?_,?_,trivial⟩
   focus
    refine Xe rfl rfl<|oc (merge_without_fn (Sm k) (Sm e) g) fun _ _ _ b=>?_
    obtain ⟨_,_,_,rfl,i⟩:=b.op3
    refine NE ?_
    refine Da [8,11] ⟨?_,?_,trivial⟩
    focus
     refine Xe rfl rfl<|o_mapIns (VR:=(Sls TFaceR 3)) (a:=([]:List TFace)) rfl rfl rfl ii (MapR.mono f) ((Sls.nil (R:=TFaceR) (sz:=3) _)) fun _ c=>NE<|Do 11<|Xe rfl rfl<|o_mapIns (VR:=(Sls TFaceR 3)) (a:=m) rfl rfl rfl ii (MapR.mono c) (Sm j) fun _ d=>?_
    rotate_left
    focus
     refine Xe rfl rfl<|o_mapIns (VR:=(Sls TFaceR 3)) (a:=m) rfl rfl rfl ii (MapR.mono f) (Sm j) fun _ d=>NE<|Do 8<|Xe rfl rfl<|o_mapIns (VR:=(Sls TFaceR 3)) (a:=([]:List TFace)) rfl rfl rfl ii (MapR.mono d) ((Sls.nil (R:=TFaceR) (sz:=3) _)) fun _ c=>?_
    rotate_left
    all_goals
     refine NE<|Dc 12 rfl (q_mvv (v:=.map _) rfl) ?_
   rotate_left 2
   focus
    refine Xe rfl rfl<|o_mapIns (VR:=(Sls TFaceR 3)) (a:=([]:List TFace)) rfl rfl rfl ii (MapR.mono f) ((Sls.nil (R:=TFaceR) (sz:=3) _)) fun _ c=>NE ?_
    refine Da [4,11] ⟨?_,?_,trivial⟩
    focus
     refine Xe rfl rfl<|oc (merge_without_fn (Sm k) (Sm e) g) fun _ _ _ b=>?_
     obtain ⟨_,_,_,rfl,i⟩:=b.op3
     refine NE<|Do 11<|Xe rfl rfl<|o_mapIns (VR:=(Sls TFaceR 3)) (a:=m) rfl rfl rfl ii (MapR.mono c) (Sm j) fun _ d=>NE<|Dc 12 rfl (q_mvv (v:=.map _) rfl) ?_
    rotate_left
    focus
     refine Xe rfl rfl<|o_mapIns (VR:=(Sls TFaceR 3)) (a:=m) rfl rfl rfl ii (MapR.mono c) (Sm j) fun _ d=>NE<|Dc 12 rfl (q_mvv (v:=.map _) rfl)<|Do 4<|Xe rfl rfl<|oc (merge_without_fn (Sm k) (Sm e) g) fun _ _ _ b=>?_
     obtain ⟨_,_,_,rfl,i⟩:=b.op3
     refine NE ?_
    rotate_left
   rotate_left 2
   focus
    refine Xe rfl rfl<|o_mapIns (VR:=(Sls TFaceR 3)) (a:=m) rfl rfl rfl ii (MapR.mono f) (Sm j) fun _ d=>NE ?_
    refine Da [4,8] ⟨?_,?_,trivial⟩
    focus
     refine Xe rfl rfl<|oc (merge_without_fn (Sm k) (Sm e) g) fun _ _ _ b=>?_
     obtain ⟨_,_,_,rfl,i⟩:=b.op3
     refine NE<|Do 8<|Xe rfl rfl<|o_mapIns (VR:=(Sls TFaceR 3)) (a:=([]:List TFace)) rfl rfl rfl ii (MapR.mono d) ((Sls.nil (R:=TFaceR) (sz:=3) _)) fun _ c=>NE<|Dc 12 rfl (q_mvv (v:=.map _) rfl) ?_
    rotate_left
    focus
     refine Xe rfl rfl<|o_mapIns (VR:=(Sls TFaceR 3)) (a:=([]:List TFace)) rfl rfl rfl ii (MapR.mono d) ((Sls.nil (R:=TFaceR) (sz:=3) _)) fun _ c=>NE<|Dc 12 rfl (q_mvv (v:=.map _) rfl)<|Do 4<|Xe rfl rfl<|oc (merge_without_fn (Sm k) (Sm e) g) fun _ _ _ b=>?_
     obtain ⟨_,_,_,rfl,i⟩:=b.op3
     refine NE ?_
    rotate_left
   rotate_left 2
  rotate_left 6
 rotate_left 8
 focus
  refine Xe rfl rfl<|o_mkMap (VR:=(Sls TFaceR 3)) fun n _ f=>NE ?_
  refine Da [3,8,11] ⟨?_,?_,?_,trivial⟩
  focus
   refine Xe rfl rfl<|o_bs [.int _ _,.int _ _] (by decide) rfl fun _=>LT (KR .i64) 1 2 [x1,x2] (c1 rfl (c1 rfl c0)) fun _ l=>JL.fzO (R:=(KR .i64)) (Om l) fun _ _ e=>NE ?_
   refine Da [4,8,11] ⟨?_,?_,?_,trivial⟩
   focus
    refine Xe rfl rfl<|oc (merge_without_fn (Sm k) (Sm e) g) fun _ _ _ b=>?_
    obtain ⟨_,_,_,rfl,i⟩:=b.op3
    refine NE ?_
    refine Da [8,11] ⟨?_,?_,trivial⟩
    focus
     refine Xe rfl rfl<|o_mapIns (VR:=(Sls TFaceR 3)) (a:=([]:List TFace)) rfl rfl rfl ii (MapR.mono f) ((Sls.nil (R:=TFaceR) (sz:=3) _)) fun _ c=>NE<|Do 11<|Xe rfl rfl<|o_mapIns (VR:=(Sls TFaceR 3)) (a:=m) rfl rfl rfl ii (MapR.mono c) (Sm j) fun _ d=>?_
    rotate_left
    focus
     refine Xe rfl rfl<|o_mapIns (VR:=(Sls TFaceR 3)) (a:=m) rfl rfl rfl ii (MapR.mono f) (Sm j) fun _ d=>NE<|Do 8<|Xe rfl rfl<|o_mapIns (VR:=(Sls TFaceR 3)) (a:=([]:List TFace)) rfl rfl rfl ii (MapR.mono d) ((Sls.nil (R:=TFaceR) (sz:=3) _)) fun _ c=>?_
    rotate_left
    all_goals
     refine NE<|Dc 12 rfl (q_mvv (v:=.map _) rfl) ?_
   rotate_left 2
   focus
    refine Xe rfl rfl<|o_mapIns (VR:=(Sls TFaceR 3)) (a:=([]:List TFace)) rfl rfl rfl ii (MapR.mono f) ((Sls.nil (R:=TFaceR) (sz:=3) _)) fun _ c=>NE ?_
    refine Da [4,11] ⟨?_,?_,trivial⟩
    focus
     refine Xe rfl rfl<|oc (merge_without_fn (Sm k) (Sm e) g) fun _ _ _ b=>?_
     obtain ⟨_,_,_,rfl,i⟩:=b.op3
     refine NE<|Do 11<|Xe rfl rfl<|o_mapIns (VR:=(Sls TFaceR 3)) (a:=m) rfl rfl rfl ii (MapR.mono c) (Sm j) fun _ d=>NE<|Dc 12 rfl (q_mvv (v:=.map _) rfl) ?_
    rotate_left
    focus
     refine Xe rfl rfl<|o_mapIns (VR:=(Sls TFaceR 3)) (a:=m) rfl rfl rfl ii (MapR.mono c) (Sm j) fun _ d=>NE<|Dc 12 rfl (q_mvv (v:=.map _) rfl)<|Do 4<|Xe rfl rfl<|oc (merge_without_fn (Sm k) (Sm e) g) fun _ _ _ b=>?_
     obtain ⟨_,_,_,rfl,i⟩:=b.op3
     refine NE ?_
    rotate_left
   rotate_left 2
   focus
    refine Xe rfl rfl<|o_mapIns (VR:=(Sls TFaceR 3)) (a:=m) rfl rfl rfl ii (MapR.mono f) (Sm j) fun _ d=>NE ?_
    refine Da [4,8] ⟨?_,?_,trivial⟩
    focus
     refine Xe rfl rfl<|oc (merge_without_fn (Sm k) (Sm e) g) fun _ _ _ b=>?_
     obtain ⟨_,_,_,rfl,i⟩:=b.op3
     refine NE<|Do 8<|Xe rfl rfl<|o_mapIns (VR:=(Sls TFaceR 3)) (a:=([]:List TFace)) rfl rfl rfl ii (MapR.mono d) ((Sls.nil (R:=TFaceR) (sz:=3) _)) fun _ c=>NE<|Dc 12 rfl (q_mvv (v:=.map _) rfl) ?_
    rotate_left
    focus
     refine Xe rfl rfl<|o_mapIns (VR:=(Sls TFaceR 3)) (a:=([]:List TFace)) rfl rfl rfl ii (MapR.mono d) ((Sls.nil (R:=TFaceR) (sz:=3) _)) fun _ c=>NE<|Dc 12 rfl (q_mvv (v:=.map _) rfl)<|Do 4<|Xe rfl rfl<|oc (merge_without_fn (Sm k) (Sm e) g) fun _ _ _ b=>?_
     obtain ⟨_,_,_,rfl,i⟩:=b.op3
     refine NE ?_
    rotate_left
   rotate_left 2
  rotate_left 6
  focus
   refine Xe rfl rfl<|o_mapIns (VR:=(Sls TFaceR 3)) (a:=([]:List TFace)) rfl rfl rfl ii (MapR.mono f) ((Sls.nil (R:=TFaceR) (sz:=3) _)) fun _ c=>NE ?_
   refine Da [3,11] ⟨?_,?_,trivial⟩
   focus
    refine Xe rfl rfl<|o_bs [.int _ _,.int _ _] (by decide) rfl fun _=>LT (KR .i64) 1 2 [x1,x2] (c1 rfl (c1 rfl c0)) fun _ l=>JL.fzO (R:=(KR .i64)) (Om l) fun _ _ e=>NE ?_
    refine Da [4,11] ⟨?_,?_,trivial⟩
    focus
     refine Xe rfl rfl<|oc (merge_without_fn (Sm k) (Sm e) g) fun _ _ _ b=>?_
     obtain ⟨_,_,_,rfl,i⟩:=b.op3
     refine NE<|Do 11<|Xe rfl rfl<|o_mapIns (VR:=(Sls TFaceR 3)) (a:=m) rfl rfl rfl ii (MapR.mono c) (Sm j) fun _ d=>NE<|Dc 12 rfl (q_mvv (v:=.map _) rfl) ?_
    rotate_left
    focus
     refine Xe rfl rfl<|o_mapIns (VR:=(Sls TFaceR 3)) (a:=m) rfl rfl rfl ii (MapR.mono c) (Sm j) fun _ d=>NE<|Dc 12 rfl (q_mvv (v:=.map _) rfl)<|Do 4<|Xe rfl rfl<|oc (merge_without_fn (Sm k) (Sm e) g) fun _ _ _ b=>?_
     obtain ⟨_,_,_,rfl,i⟩:=b.op3
     refine NE ?_
    rotate_left
   rotate_left 2
   focus
    refine Xe rfl rfl<|o_mapIns (VR:=(Sls TFaceR 3)) (a:=m) rfl rfl rfl ii (MapR.mono c) (Sm j) fun _ d=>NE<|Dc 12 rfl (q_mvv (v:=.map _) rfl)<|Do 3<|Xe rfl rfl<|o_bs [.int _ _,.int _ _] (by decide) rfl fun _=>LT (KR .i64) 1 2 [x1,x2] (c1 rfl (c1 rfl c0)) fun _ l=>JL.fzO (R:=(KR .i64)) (Om l) fun _ _ e=>NE<|Do 4<|Xe rfl rfl<|oc (merge_without_fn (Sm k) (Sm e) g) fun _ _ _ b=>?_
    obtain ⟨_,_,_,rfl,i⟩:=b.op3
    refine NE ?_
   rotate_left
  rotate_left 3
  focus
   refine Xe rfl rfl<|o_mapIns (VR:=(Sls TFaceR 3)) (a:=m) rfl rfl rfl ii (MapR.mono f) (Sm j) fun _ d=>NE ?_
   refine Da [3,8] ⟨?_,?_,trivial⟩
   focus
    refine Xe rfl rfl<|o_bs [.int _ _,.int _ _] (by decide) rfl fun _=>LT (KR .i64) 1 2 [x1,x2] (c1 rfl (c1 rfl c0)) fun _ l=>JL.fzO (R:=(KR .i64)) (Om l) fun _ _ e=>NE ?_
    refine Da [4,8] ⟨?_,?_,trivial⟩
    focus
     refine Xe rfl rfl<|oc (merge_without_fn (Sm k) (Sm e) g) fun _ _ _ b=>?_
     obtain ⟨_,_,_,rfl,i⟩:=b.op3
     refine NE<|Do 8<|Xe rfl rfl<|o_mapIns (VR:=(Sls TFaceR 3)) (a:=([]:List TFace)) rfl rfl rfl ii (MapR.mono d) ((Sls.nil (R:=TFaceR) (sz:=3) _)) fun _ c=>NE<|Dc 12 rfl (q_mvv (v:=.map _) rfl) ?_
    rotate_left
    focus
     refine Xe rfl rfl<|o_mapIns (VR:=(Sls TFaceR 3)) (a:=([]:List TFace)) rfl rfl rfl ii (MapR.mono d) ((Sls.nil (R:=TFaceR) (sz:=3) _)) fun _ c=>NE<|Dc 12 rfl (q_mvv (v:=.map _) rfl)<|Do 4<|Xe rfl rfl<|oc (merge_without_fn (Sm k) (Sm e) g) fun _ _ _ b=>?_
     obtain ⟨_,_,_,rfl,i⟩:=b.op3
     refine NE ?_
    rotate_left
   rotate_left 2
   focus
    refine Xe rfl rfl<|o_mapIns (VR:=(Sls TFaceR 3)) (a:=([]:List TFace)) rfl rfl rfl ii (MapR.mono d) ((Sls.nil (R:=TFaceR) (sz:=3) _)) fun _ c=>NE<|Dc 12 rfl (q_mvv (v:=.map _) rfl)<|Do 3<|Xe rfl rfl<|o_bs [.int _ _,.int _ _] (by decide) rfl fun _=>LT (KR .i64) 1 2 [x1,x2] (c1 rfl (c1 rfl c0)) fun _ l=>JL.fzO (R:=(KR .i64)) (Om l) fun _ _ e=>NE<|Do 4<|Xe rfl rfl<|oc (merge_without_fn (Sm k) (Sm e) g) fun _ _ _ b=>?_
    obtain ⟨_,_,_,rfl,i⟩:=b.op3
    refine NE ?_
   rotate_left
  rotate_left 3
 rotate_left 12
 all_goals
  refine Do 13<|Xe rfl rfl ?_
  first | refine JL.fzM n (MapR.mono d) (fun _ _ o=>?_) | refine JL.fzM n (MapR.mono c) (fun _ _ o=>?_) | refine JL.fzM n (MapR.mono f) (fun _ _ o=>?_)
  refine o_calll (merge_itself_own (Sm k) (MapF.mono o) (by first | exact p | exact (merge_itself_swap (by assumption)).trans p)) fun _ _ _ _ x=>?_
  obtain ⟨_,_,_,_,rfl,q,rfl⟩:=x
  refine NE<|Dc 14 rfl (aS rfl)<|Dc 15 rfl (aS rfl)<|Dd<|J.fzO (R:=TImageR) (Om q) fun _ _ u=>Jr ?_
  cases hm
  exact ret_ok (fn:=Tryz.f84) rfl (.tmp rfl (.tmp rfl .nil)) ⟨_,_,rfl,(Sm i),(Sm u)⟩
theorem merge_Collapse_fn {h:Heap} {x0:List TCell} {x1:Int} {x2:Int} {v0:Value} (r0:Sls TCellR 3 h v0 x0) {r:(List TCell)×(List TImage)×Int} (hm:M.merge_Collapse x0 x1 x2=some r) :
    Fn Tryz.prog 43 #[v0,.int .i64 x1,.int .i64 x2] h fun v h'=>∃ u0 u1 u2,v=.tuple ⟨[u0,u1,u2]⟩∧Sls TCellR 3 h' u0 r.1∧Sls TImageR 2 h' u1 r.2.1∧u2=.int .i64 r.2.2:=by
 obtain ⟨_,_,_,rfl,l⟩:=r0.op3
 refine Fn.intro (args:=[_,_,_]) Tryz.func43 rfl rfl (lB rfl) fun w=>?_
 unfold M.merge_Collapse at hm
 refine SR<|oq (aS rfl)<|oq (aS rfl)<|oq (aI rfl)<|N0<|Sq<|SR<|oq (mI rfl)<|oq (mI rfl)<|o_bs [.int _ _,.int _ _] (by decide) rfl fun B=>LT (KR .i64) 1 2 [x1,x2] (c1 rfl (c1 rfl c0)) fun _ o=>oq (q_lenE (k:=[x1,x2].length) rfl (OwnL.len o))<|oq (mI rfl)<|N0<|Jb<|J.fzO (R:=(KR .i64)) (Om o) fun _ _ H=>?_
 obtain ⟨_,hm⟩:=rngL_some hm
 refine J.loopK (α:=Nat×(List Int)×(Option Addr)×Nat×Nat) (fun ⟨a,d,e,c,b⟩ h' L'=>Sls (KR .i64) 1 h' (.slice e c b) d∧forL (M.merge_Collapse_b1 x0) (M.merge_Collapse_k1 x0 x1 x2) (List.drop a [x1,x2]) a d=some r∧Sp ([]) L') [(0,.slice _ _ _),(1,.int _ _),(2,.int _ _),(18,.int _ _)] ⟨rfl,rfl,rfl,rfl,trivial⟩ (fun ⟨a,d,e,c,b⟩=>[(17,.slice e c b),(19,.int .i64 (a:Int))]) (fun ⟨a,d,e,c,b⟩=>[x1,x2].length-a) ⟨0,[x1,x2],(some ⟨B,0,none⟩),2,2⟩ ⟨(Sm H),hm,ii⟩ ⟨rfl,rfl,trivial⟩ ?_
 rintro ⟨a,d,e,c,b⟩ _ _ _ _ ⟨g,hm,p⟩
 refine J.sp p<|SR<|oq (q_lss rfl rfl)<|N0<|Sq ?_
 by_cases f:(a:Int)<([x1,x2].length:Int)
 · obtain ⟨_,_,y,_,hm,m⟩:=forL_cons f hm
   unfold M.merge_Collapse_b1 at hm
   refine jT rfl (dT f) ?_
   have K:-9223372036854775808≤(a:Int)+1∧(a:Int)+1≤9223372036854775807:=by omega
   refine Js<|Sq<|Jb<|Sq<|nE hm fun _ _ x n z hm=>?_
   obtain ⟨C,L,rfl⟩:=Sls.op g n
   refine aE g z fun _ u t=>?_
   obtain rfl:=KR.op t
   refine Rg<|oq (q_ian rfl rfl x (ln g n))<|oq (q_ldf rfl u)<|oq (aI rfl)<|N0<|Sq<|bE hm fun _ D hm=>Rg<|oq (mS rfl)<|oq (mI rfl)<|oc (complex_Find_fn (Sm l) D) fun _ _ _ N=>?_
   obtain ⟨_,_,rfl,O,P⟩:=N
   obtain ⟨_,rfl,_,_,_,rfl,_⟩:=O
   cases P
   refine oq q_mv<|oq (q_ex rfl rfl)<|oq (q_ex rfl rfl)<|o_al fun _=>Sc [.int _ _,.int _ _,.slice _ _ _] [.int _ _,.int _ _,.slice _ _ _] rfl rfl rfl rfl rfl ia rfl rfl<|oq (aB rfl)<|N0<|SR<|oq (mB rfl)<|oq (q_not rfl)<|N0<|iC hm (fun i hm=>?_) fun i hm=>?_
   · refine jF rfl (bT (i))<|Js<|Rg<|oq (q_add rfl rfl (wi64 K))<|oq (mI rfl)<|N0<|have hm:=inl_onward hm m; ?_
     exact ⟨⟨a+1,d,(some ⟨C,L,none⟩),c,b⟩,rfl,⟨rfl,rfl,rfl,rfl,trivial⟩,⟨rfl,rfl,trivial⟩,⟨(Sm g),hm,ii⟩,(muL y),ii⟩
   · refine jT rfl (bF ((nT i)))<|SR<|oq (aS rfl)<|oq (aS rfl)<|oq (aI rfl)<|N0<|have hm:=inr_onward hm m; Jr ?_
     cases hm
     exact ret_ok (fn:=Tryz.f43) rfl (.tmp rfl (.tmp rfl (.tmp rfl .nil))) ⟨_,_,_,rfl,((Sls.nil (R:=TCellR) (sz:=3) _)),((Sls.nil (R:=TImageR) (sz:=2) _)),rfl⟩
 · replace hm:=forL_nil f hm
   unfold M.merge_Collapse_k1 at hm
   refine jF rfl (dF f)<|Jx<|Sq<|Sq<|bE hm fun _ E hm=>bE hm fun _ F hm=>Rg<|oq (mS rfl)<|oc (merge_Free_fn (Sm l) E) fun _ _ _ Q=>?_
   obtain ⟨_,_,_,rfl,I⟩:=Q.op3
   refine oq (mI rfl)<|oq (mI rfl)<|oq (q_bda [.int _ _,.int _ _] rfl) ?_
   refine oc (slices_Contains_L_2_int_2_int_fn (Sm I) (x1:=(x1,x2)) ⟨_,rfl,rfl⟩ F) fun _ _ _ S=>?_
   cases S
   refine oq (q_not rfl)<|N0<|iC hm (fun j hm=>?_) fun j hm=>?_
   · refine jF rfl (bT (j))<|Js<|Sq<|bE hm fun _ G hm=>Rg<|oq (mS rfl)<|oq (mI rfl)<|oq (mI rfl)<|oc (merge_collapse_fn (Sm l) G) fun _ _ _ T=>?_
     obtain ⟨_,_,rfl,U,A⟩:=T
     obtain ⟨_,_,_,rfl,q⟩:=U.op3
     obtain ⟨_,_,_,rfl,s⟩:=A.op3
     refine oq q_mv<|oq (q_ex rfl rfl)<|oq (q_ex rfl rfl)<|oq (aS rfl)<|oq (aS rfl)<|N0<|SR<|oq (mS rfl)<|oq (mS rfl)<|oq (aS rfl)<|oq (aS rfl)<|oq (aI rfl)<|N0<|Jr ?_
     cases hm
     exact ret_ok (fn:=Tryz.f43) rfl (.tmp rfl (.tmp rfl (.tmp rfl .nil))) ⟨_,_,_,rfl,(Sm q),(Sm s),rfl⟩
   · refine jT rfl (bF ((nT j)))<|SR<|oq (aS rfl)<|oq (aS rfl)<|oq (aI rfl)<|N0<|Jr ?_
     cases hm
     exact ret_ok (fn:=Tryz.f43) rfl (.tmp rfl (.tmp rfl (.tmp rfl .nil))) ⟨_,_,_,rfl,((Sls.nil (R:=TCellR) (sz:=3) _)),((Sls.nil (R:=TImageR) (sz:=2) _)),rfl⟩
theorem slices_BinarySearchFunc_ChainMap_Image_int_fn {h:Heap} {x0:List TImage} {x1:Int} {x2:TImage→Int→Option Int} {v0:Value} {g2_:FuncId} {cap2_:List Value} [Ent Tryz.prog g2_] (r0:Sls TImageR 2 h v0 x0) (r2:∀ {h':Heap},Ext h h'→∀ (a0:TImage) (a1:Int) (w0:Value) (w1:Value),AggV TImageR h' w0 a0→w1=.int .i64 a1→∀ c,x2 a0 a1=some c→Fn Tryz.prog g2_ (List.toArray ([]++[w0,w1]++cap2_)) h' (fun v h''=>v=.int .i64 c)) {r:Int×Bool} (hm:M.slices_BinarySearchFunc_ChainMap_Image_int x0 x1 x2=some r) :
    Fn Tryz.prog 150 #[v0,.int .i64 x1,.func (.func g2_) ⟨[]⟩ ⟨cap2_⟩] h fun v h'=>∃ u0 u1,v=.tuple ⟨[u0,u1]⟩∧u0=.int .i64 r.1∧u1=.bool r.2:=by
 obtain ⟨_,_,_,rfl,e⟩:=r0.op3
 refine Fn.intro (args:=[_,_,_]) Tryz.func150 rfl rfl (lB rfl) fun w=>?_
 unfold M.slices_BinarySearchFunc_ChainMap_Image_int at hm
 refine SR<|oq (aI rfl)<|oq (aB rfl)<|N0<|SR<|oq (mS rfl)<|oq (q_lenE (k:=x0.length) rfl (Sls.len e))<|oq (aI rfl)<|N0<|SR<|oq (mI rfl)<|oq (aI rfl)<|oq (aI rfl)<|N0<|Sq<|Jb ?_
 replace hm:=(show iter _ fuel _=some _ from hm)
 refine J.loopK (α:=Nat×Int×Int) (fun ⟨g,d,b⟩ h' L'=>iter (M.slices_BinarySearchFunc_ChainMap_Image_int_b1 x0 x1 x2) g (d,b)=some r∧Sp ([]) L') [(0,.slice _ _ _),(1,.int _ _),(2,.func _ _ _),(8,.int _ _)] ⟨rfl,rfl,rfl,rfl,trivial⟩ (fun ⟨g,d,b⟩=>[(9,.int .i64 b),(10,.int .i64 d)]) (fun ⟨g,d,b⟩=>g) ⟨fuel,(x0.length:Int),0⟩ ⟨hm,ii⟩ ⟨rfl,rfl,trivial⟩ ?_
 rintro ⟨g,d,b⟩ _ _ _ _ ⟨hm,o⟩
 refine J.sp o ?_
 obtain ⟨p,_,rfl,hm,i⟩:=iter_some hm
 unfold M.slices_BinarySearchFunc_ChainMap_Image_int_b1 at hm
 refine Sq<|SR<|oq (mI rfl)<|oq (mI rfl)<|oq (q_lss rfl rfl)<|N0<|iC hm (fun j hm=>?_) fun j hm=>?_
 · refine jT rfl (dT j)<|Js<|Jb<|Sq<|kS hm fun F hm=>kS hm fun G hm=>Rg<|oq (mI rfl)<|oq (mI rfl)<|oq (q_add rfl rfl (wi64 F))<|oq (q_cv rfl (GoWrap.u64_eq _))<|oq (q_shr (c:=Int.fdiv (GoWrap.u64 (b+d)) 2) rfl rfl (by decide) rfl)<|oq (q_cv rfl (wi64 G))<|oq (aI rfl)<|N0<|Sq<|nE hm fun _ _ x m z hm=>?_
   obtain ⟨_,_,rfl⟩:=Sls.op e m
   refine aE e z fun _ t q=>?_
   obtain ⟨_,_,_,rfl,D⟩:=q
   refine bE hm fun _ B hm=>Rg<|oq (q_mvv (v:=.func _ _ _) rfl)<|oq (mS rfl)<|oq (mI rfl)<|oq (q_ian rfl rfl x (ln e m))<|oq (q_ldfa rfl t)<|oq (mI rfl)<|o_callv (f:=g2_) rfl (r2 ii _ _ _ _ ⟨_,rfl,⟨_,_,_,rfl,Sm D⟩⟩ rfl _ B) fun _ _ _ I=>?_
   cases I
   refine oq (q_lss rfl rfl)<|N0<|iC hm (fun l hm=>?_) fun l hm=>?_
   · refine jT rfl (dT l)<|kS hm fun H hm=>Rg<|oq (mI rfl)<|oq (q_add rfl rfl (wi64 H))<|oq (aI rfl)<|N0<|have hm:=inl_onward hm i; ?_
     exact ⟨⟨p,d,(Int.fdiv (GoWrap.u64 (b+d)) 2)+1⟩,rfl,⟨rfl,rfl,rfl,rfl,trivial⟩,⟨rfl,rfl,trivial⟩,⟨hm,ii⟩,(Nat.lt_succ_self _),ii⟩
   · refine jF rfl (dF l)<|Rg<|oq (mI rfl)<|oq (aI rfl)<|N0<|have hm:=inl_onward hm i; ?_
     exact ⟨⟨p,Int.fdiv (GoWrap.u64 (b+d)) 2,b⟩,rfl,⟨rfl,rfl,rfl,rfl,trivial⟩,⟨rfl,rfl,trivial⟩,⟨hm,ii⟩,(Nat.lt_succ_self _),ii⟩
 · refine jF rfl (dF j)<|Jx<|have hm:=inr_onward hm i; Sq ?_
   by_cases a:b<(x0.length:Int)
   focus
    replace hm:=ite_T a hm
    refine nE hm fun _ _ y n A hm=>?_
    obtain ⟨_,_,rfl⟩:=Sls.op e n
    refine aE e A fun _ u s=>?_
    obtain ⟨_,_,_,rfl,E⟩:=s
    refine bE hm fun _ C hm=>Rg<|oq (mI rfl)<|oq (mI rfl)<|oq (mI rfl)<|oq (q_lss rfl rfl)<|oq (mB rfl)<|gT rfl rfl (dT a)<|oq (q_mvv (v:=.func _ _ _) rfl)<|gT rfl rfl (dT a)<|oq (mS rfl)<|gT rfl rfl (dT a)<|oq (mI rfl)<|gT rfl rfl (dT a)<|oq (q_ian rfl rfl y (ln e n))<|gT rfl rfl (dT a)<|oq (q_ldfa rfl u)<|gT rfl rfl (dT a)<|oq (mI rfl)<|gT rfl rfl (dT a)<|o_callv (f:=g2_) rfl (r2 ii _ _ _ _ ⟨_,rfl,⟨_,_,_,rfl,Sm E⟩⟩ rfl _ C) fun _ _ _ K=>?_
    cases K
    refine gT rfl rfl (dT a)<|oq (q_eql rfl rfl)<|oq (pkT rfl (dT a) rfl) ?_
   rotate_left
   focus
    replace hm:=ite_F a hm
    refine Rg<|oq (mI rfl)<|oq (mI rfl)<|oq (mI rfl)<|oq (q_lss rfl rfl)<|oq (mB rfl)<|gF rfl rfl (dF a)<|gF rfl rfl (dF a)<|gF rfl rfl (dF a)<|gF rfl rfl (dF a)<|gF rfl rfl (dF a)<|gF rfl rfl (dF a)<|gF rfl rfl (dF a)<|gF rfl rfl (dF a)<|oq (pkF rfl (dF a) rfl) ?_
   rotate_left
   all_goals
    refine oq (aI rfl)<|oq (aB rfl)<|N0<|Jr ?_
    cases hm
    exact ret_ok (fn:=Tryz.f150) rfl (.tmp rfl (.tmp rfl .nil)) ⟨_,_,rfl,rfl,rfl⟩
theorem merge_apply_1_fn {h:Heap} {x0:TImage} {x1:Int} {v0:Value} (r0:AggV TImageR h v0 x0) {r:Int} (hm:M.merge_apply_1 x0 x1=some r) :
    Fn Tryz.prog 151 #[v0,.int .i64 x1] h fun v h'=>v=.int .i64 r:=by
 obtain ⟨_,rfl,_,_,_,rfl,_⟩:=r0
 refine Fn.intro (args:=[_,_]) Tryz.func151 rfl rfl (lB rfl) fun w=>?_
 unfold M.merge_apply_1 at hm
 refine SR<|o_bx (v:=.agg ⟨[.int _ _,.slice _ _ _]⟩) rfl rfl fun _=>oq (aI rfl)<|N0<|Sq<|bE hm fun _ a hm=>Rg<|oq (q_fa rfl)<|oq (q_ld rfl ia rfl)<|oq (mI rfl)<|oc (cmpi_fn' a) fun _ _ _ b=>?_
 cases b
 refine oq (aI rfl)<|N0<|Jr ?_
 cases hm
 exact ret_ok (fn:=Tryz.f151) rfl (.tmp rfl .nil) rfl
theorem merge_apply_fn {h:Heap} {x0:List TImage} {x1:List TFace} {v0:Value} {v1:Value} (r0:Sls TImageR 2 h v0 x0) (r1:Sls TFaceR 3 h v1 x1) {r:List TFace} (hm:M.merge_apply x0 x1=some r) :
    Fn Tryz.prog 85 #[v0,v1] h fun v h'=>Sls TFaceR 3 h' v r:=by
 obtain ⟨_,_,_,rfl,m⟩:=r0.op3
 obtain ⟨_,_,_,rfl,n⟩:=r1.op3
 refine Fn.intro (args:=[_,_]) Tryz.func85 rfl rfl (lB rfl) fun w=>?_
 unfold M.merge_apply at hm
 refine SR<|oq (aS rfl)<|N0<|SR<|oq (aS rfl)<|N0<|Sq<|SR<|oq (mS rfl)<|oq (q_lenE (k:=x1.length) rfl (Sls.len n))<|oq (mI rfl)<|N0<|Jb ?_
 obtain ⟨_,hm⟩:=rngL_some hm
 refine J.loopK (α:=Nat×(List TFace)×(Option Addr)×Nat×Nat) (fun ⟨a,g,f,d,b⟩ h' L'=>Sls TFaceR 3 h' (.slice f d b) g∧forL (M.merge_apply_b1 x0) M.merge_apply_k1 (List.drop a x1) a g=some r∧Sp ([]) L') [(0,.slice _ _ _),(10,.slice _ _ _),(11,.int _ _)] ⟨rfl,rfl,rfl,trivial⟩ (fun ⟨a,g,f,d,b⟩=>[(5,.slice f d b),(12,.int .i64 (a:Int))]) (fun ⟨a,g,f,d,b⟩=>x1.length-a) ⟨0,([]:List TFace),none,0,0⟩ ⟨(Sls.nil (R:=TFaceR) (sz:=3) _),hm,ii⟩ ⟨rfl,rfl,trivial⟩ ?_
 rintro ⟨a,g,f,d,b⟩ _ _ _ _ ⟨q,hm,p⟩
 refine J.sp p<|SR<|oq (q_lss rfl rfl)<|N0<|Sq ?_
 by_cases l:(a:Int)<(x1.length:Int)
 · obtain ⟨_,_,i,A,hm,z⟩:=forL_cons l hm
   unfold M.merge_apply_b1 at hm
   refine jT rfl (dT l) ?_
   have K:-9223372036854775808≤(a:Int)+1∧(a:Int)+1≤9223372036854775807:=by omega
   refine Js<|Sq<|Jb<|Sq ?_
   obtain ⟨_,_,rfl⟩:=Sls.op n i
   refine aE n A fun _ u s=>?_
   obtain ⟨_,_,_,_,rfl,G⟩:=s
   refine Rg<|oq (q_ian rfl rfl rfl (ln n i))<|oq (q_ldfa rfl u)<|o_al fun C=>Sc [.int _ _,.bool _,.slice _ _ _] [.int _ _,.bool _,.slice _ _ _] rfl rfl rfl rfl rfl ia rfl rfl<|N0<|Sq<|bE hm fun _ E hm=>Rg<|oq (mS rfl)<|oq (q_fa rfl)<|oq (q_ld rfl ia rfl)<|oc (slices_BinarySearchFunc_ChainMap_Image_int_fn (Sm m) (fun e a0 a1 w0 w1 q0 q1 c hc=>by haveI:=Ext.toStep e; obtain rfl:=(show _=_ from q1); exact merge_apply_1_fn q0 hc) E) fun _ _ _ O=>?_
   obtain ⟨_,_,rfl,P,Q⟩:=O
   cases P
   cases Q
   refine oq q_mv<|oq (q_ex rfl rfl)<|oq (q_ex rfl rfl)<|oq (aI rfl)<|oq (aB rfl)<|N0<|nE hm fun _ _ y o B hm=>?_
   obtain ⟨_,_,rfl⟩:=Sls.op m o
   refine aE m B fun _ x t=>?_
   obtain ⟨_,_,_,rfl,H⟩:=t
   refine bE hm fun T F hm=>J.drawB [C] []<|Dc 0 rfl (mS rfl)<|Dc 1 rfl (mS rfl)<|Dc 2 rfl (mI rfl)<|Dc 3 rfl (q_ian rfl rfl y (ln m o))<|Dc 4 rfl (q_fa rfl)<|Dl 5 rfl (q_ldf rfl (x.cell (j:=1) rfl))<|Dc 6 rfl (q_fa rfl)<|Dl 7 rfl (q_lda (vs:=[_,_]) rfl ii ⟨rfl,rfl,trivial⟩)<|Do 8<|Xe rfl rfl<|oc (chains_Add_fn (Sm q) (Sm H) (iu G) F) fun _ _ _ S=>?_
   obtain ⟨N,L,D,rfl,I⟩:=S.op3
   refine NE<|Dc 9 rfl (aS rfl)<|Dd<|Rg<|oq (q_add rfl rfl (wi64 K))<|oq (mI rfl)<|N0<|have hm:=inl_onward hm z; ?_
   exact ⟨⟨a+1,T,N,L,D⟩,rfl,⟨rfl,rfl,rfl,trivial⟩,⟨rfl,rfl,trivial⟩,⟨(Sm I),hm,ii⟩,(muL i),ii⟩
 · replace hm:=forL_nil l hm
   unfold M.merge_apply_k1 at hm
   refine jF rfl (dF l)<|Jx<|SR<|oq (mS rfl)<|oq (aS rfl)<|N0<|Jr ?_
   cases hm
   exact ret_ok (fn:=Tryz.f85) rfl (.tmp rfl .nil) (Sm q)
theorem merge_Shrink_fn {h:Heap} {x0:List TCell} {v0:Value} (r0:Sls TCellR 3 h v0 x0) {r:(List TCell)×(List TImage)} (hm:M.merge_Shrink x0=some r) :
    Fn Tryz.prog 27 #[v0] h fun v h'=>∃ u0 u1,v=.tuple ⟨[u0,u1]⟩∧Sls TCellR 3 h' u0 r.1∧Sls TImageR 2 h' u1 r.2:=by
 obtain ⟨aU,aO,aD,rfl,Q⟩:=r0.op3
 refine Fn.intro (args:=[_]) Tryz.func27 rfl rfl (lB rfl) fun w=>?_
 unfold M.merge_Shrink at hm
 refine SR<|oq (aS rfl)<|oq (aS rfl)<|N0<|Sq<|bE hm fun a3 aJ hm=>Rg<|oq (mS rfl)<|o_calll (merge_itself_own (Sm Q) ((MapF.nil)) aJ) fun _ _ _ _ aY=>?_
 obtain ⟨aV,aP,aF,aC,rfl,ar,rfl⟩:=aY
 refine oq (aS rfl)<|N0<|Sq<|Sq<|bE hm fun a4 aK hm=>Rg<|oq (mS rfl)<|oc (merge_Free_fn (Sm Q) aK) fun _ _ _ aZ=>?_
 obtain ⟨aW,aQ,aG,rfl,aM⟩:=aZ.op3
 refine oq (aS rfl)<|N0<|Jb ?_
 replace hm:=(show iter _ fuel _=some _ from hm)
 refine J.loopK (α:=Nat×(List TCell)×(List TImage)×(List (Int×Int))×(Option Addr)×Nat×Nat×(Option Addr)×Nat×Nat×Own×(Option Addr)×Nat×Nat) (fun ⟨B,G,c,s,E,C,y,q,p,o,n,F,D,z⟩ h' L'=>Sls TCellR 3 h' (.slice E C y) G∧OwnL TImageR 131 2 h' (.slice q p o) c n∧Sls A2IntR 2 h' (.slice F D z) s∧iter M.merge_Shrink_b2 B (G,c,s)=some r∧Sp (n++([])) L') [] trivial (fun ⟨B,G,c,s,E,C,y,q,p,o,n,F,D,z⟩=>[(0,.slice E C y),(4,.slice q p o),(5,.slice F D z)]) (fun ⟨B,G,c,s,E,C,y,q,p,o,n,F,D,z⟩=>B) ⟨fuel,x0,a3,a4,aU,aO,aD,aV,aP,aF,aC,aW,aQ,aG⟩ ⟨(Sm Q),(Om ar),(Sm aM),hm,ii⟩ ⟨rfl,rfl,rfl,trivial⟩ ?_
 rintro ⟨B,G,c,s,E,C,y,q,p,o,n,F,D,z⟩ _ _ _ _ ⟨ag,S,A,hm,W⟩
 refine J.sp W ?_
 obtain ⟨aN,aT,rfl,hm,V⟩:=iter_some hm
 unfold M.merge_Shrink_b2 at hm
 refine Sq<|SR<|oq (mS rfl)<|oq (q_lenE (k:=s.length) rfl (Sls.len A))<|oq (q_gtr rfl rfl)<|N0<|iC hm (fun O hm=>?_) fun O hm=>?_
 · refine jT rfl (dT O)<|Js<|Sq<|Jb<|Sq<|nE hm fun _ _ U H au hm=>?_
   obtain ⟨_,_,rfl⟩:=Sls.op A H
   refine aE A au fun _ T aq=>?_
   cases aq
   refine bE hm fun Z aL hm=>J.drawB [] []<|Dc 0 rfl (mS rfl)<|Dc 1 rfl (mS rfl)<|Dc 2 rfl (q_ian rfl rfl U (ln A H))<|Dc 3 rfl (q_jan (i:=0) rfl rfl rfl (by decide))<|Dl 4 rfl (q_ldf rfl (T.cell (j:=0) rfl))<|Dc 5 rfl (mS rfl)<|Dc 6 rfl (q_ian rfl rfl U (ln A H))<|Dc 7 rfl (q_jan (i:=1) rfl rfl rfl (by decide))<|Dl 8 rfl (q_ldf rfl (T.cell (j:=1) rfl))<|Do 9<|Xe rfl rfl<|oc (merge_collapse_fn (Sm ag) aL) fun _ _ _ a0=>?_
   obtain ⟨_,_,rfl,a1,a2⟩:=a0
   obtain ⟨aX,aR,aH,rfl,ah⟩:=a1.op3
   obtain ⟨_,_,_,rfl,al⟩:=a2.op3
   refine NE<|Dc 10 rfl (q_mv)<|Dc 11 rfl (q_ex rfl rfl)<|Dc 12 rfl (q_ex rfl rfl)<|Dc 13 rfl (aS rfl)<|Dc 14 rfl (aS rfl)<|Dd<|Sq<|SR<|oq (mS rfl)<|oq (q_lenE (k:=c.length) rfl (OwnL.len S))<|oq (mI rfl)<|N0<|Jb ?_
   obtain ⟨_,hm⟩:=rngL_some hm
   refine J.loopK (α:=Nat×(List TImage)×(Option Addr)×Nat×Nat×Own) (fun ⟨b,f,l,e,d,g⟩ h' L'=>OwnL TImageR 131 2 h' (.slice l e d) f g∧forL (M.merge_Shrink_b1 Z) (M.merge_Shrink_k1 Z) (List.drop b c) b f=some aT∧Sp (g++([])) L') [(6,.slice _ _ _),(7,.slice _ _ _),(32,.int _ _)] ⟨rfl,rfl,rfl,trivial⟩ (fun ⟨b,f,l,e,d,g⟩=>[(4,.slice l e d),(33,.int .i64 (b:Int))]) (fun ⟨b,f,l,e,d,g⟩=>c.length-b) ⟨0,c,q,p,o,n⟩ ⟨(Om S),hm,ii⟩ ⟨rfl,rfl,trivial⟩ ?_
   rintro ⟨b,f,l,e,d,g⟩ _ _ _ _ ⟨P,hm,L⟩
   refine J.sp L<|SR<|oq (q_lss rfl rfl)<|N0<|Sq ?_
   by_cases t:(b:Int)<(c.length:Int)
   · obtain ⟨_,_,ad,_,hm,ac⟩:=forL_cons t hm
     unfold M.merge_Shrink_b1 at hm
     refine jT rfl (dT t) ?_
     have av:-9223372036854775808≤(b:Int)+1∧(b:Int)+1≤9223372036854775807:=by omega
     refine Js<|Sq<|Jb<|SR<|oq (mI rfl)<|oq (aI rfl)<|N0<|nE hm fun _ X u m ae hm=>?_
     obtain ⟨N,_,rfl,rfl,x,K⟩:=OwnL.blk P m
     obtain ⟨_,I,ab,_⟩:=OwnC.get K ae
     obtain ⟨_,_,_,rfl,am⟩:=ab
     refine bE hm fun Y aj hm=>Rg<|oq (mS rfl)<|oq (mI rfl)<|oq (mS rfl)<|oq (mS rfl)<|oq (mI rfl)<|oq (q_ian rfl rfl u (by rw [x]; exact m))<|oq (q_fa rfl)<|oq (q_ldO rfl ii I rfl)<|oc (merge_apply_fn (Sm al) (Sm am) aj) fun _ _ _ ay=>?_
     obtain ⟨_,_,_,rfl,an⟩:=ay.op3
     refine oq (q_ian rfl rfl u (by rw [x]; exact m))<|oq (q_fa rfl)<|o_stO (us1:=[_,_]) (ps:=[_]) (a:=(TImage.mk X.ID Y)) Sz.i rfl rfl rfl rfl (OwnC.mono K) ii m I rfl (lB rfl) rfl ⟨_,_,_,rfl,Sm an⟩ (setL_eq u) fun aa af=>N0<|Rg<|oq (q_add rfl rfl (wi64 av))<|oq (mI rfl)<|N0<|have hm:=inl_onward hm ac; ?_
     exact ⟨⟨b+1,(setL f (b:Int) (TImage.mk X.ID Y)),(some ⟨N,0,none⟩),e,d,[(N,row 131 aa)]⟩,rfl,⟨rfl,rfl,rfl,trivial⟩,⟨rfl,rfl,trivial⟩,⟨(OwnC.own (OwnC.mono af) (setL_hn x)),hm,ii⟩,(muL ad),ii⟩
   · replace hm:=forL_nil t hm
     unfold M.merge_Shrink_k1 at hm
     refine jF rfl (dF t)<|Jx<|Rg<|oq (mS rfl)<|oq (aS rfl)<|N0<|bE hm fun aA ak hm=>Rg<|oq (mS rfl)<|oc (merge_Free_fn (Sm ah) ak) fun _ _ _ az=>?_
     obtain ⟨ax,aw,ai,rfl,ao⟩:=az.op3
     refine oq (aS rfl)<|N0<|have hm:=inl_onward hm V; ?_
     exact ⟨⟨aN,Z.1,f,aA,aX,aR,aH,l,e,d,g,ax,aw,ai⟩,rfl,trivial,⟨rfl,rfl,rfl,trivial⟩,⟨(Sm ah),(Om P),(Sm ao),hm,ii⟩,(Nat.lt_succ_self _),ii⟩
 · refine jF rfl (dF O)<|Jx<|have hm:=inr_onward hm V; SR<|oq (mS rfl)<|oq (mS rfl)<|oq (aS rfl)<|oq (aS rfl)<|N0<|J.fzO (R:=TImageR) (Om S) fun _ _ ap=>Jr ?_
   cases hm
   exact ret_ok (fn:=Tryz.f27) rfl (.tmp rfl (.tmp rfl .nil)) ⟨_,_,rfl,(Sm ag),(Sm ap)⟩
theorem merge_Subdivide_1_fn {h:Heap} {x0:TFace} {v0:Value} (r0:AggV TFaceR h v0 x0) {r:Bool} (hm:M.merge_Subdivide_1 x0=some r) :
    Fn Tryz.prog 96 #[v0] h fun v h'=>v=.bool r:=by
 obtain ⟨_,rfl,_,_,_,_,rfl,b⟩:=r0
 refine Fn.intro (args:=[_]) Tryz.func96 rfl rfl (lB rfl) fun w=>?_
 unfold M.merge_Subdivide_1 at hm
 refine SR<|o_bx (v:=.agg ⟨[.int _ _,.bool _,.slice _ _ _]⟩) rfl rfl fun _=>oq (aB rfl)<|N0<|Sq<|bE hm fun _ a hm=>Rg<|oq (q_fa rfl)<|oq (q_lda (vs:=[_,_]) rfl ii ⟨rfl,rfl,trivial⟩)<|oc (sign_fn' (iu b) a) fun _ _ _ c=>?_
 cases c
 refine oq (q_lss rfl rfl)<|oq (aB rfl)<|N0<|Jr ?_
 cases hm
 exact ret_ok (fn:=Tryz.f96) rfl (.tmp rfl .nil) rfl
theorem merge_Subdivide_fn {h:Heap} {x0:List TCell} {x1:Int} {x2:Int×Int} {v0:Value} {v2:Value} (r0:Sls TCellR 3 h v0 x0) (r2:AggV A2IntR h v2 x2) {r:(List TCell)×(List TImage)×Int} (hm:M.merge_Subdivide x0 x1 x2=some r) :
    Fn Tryz.prog 31 #[v0,.int .i64 x1,v2] h fun v h'=>∃ u0 u1 u2,v=.tuple ⟨[u0,u1,u2]⟩∧Sls TCellR 3 h' u0 r.1∧Sls TImageR 2 h' u1 r.2.1∧u2=.int .i64 r.2.2:=by
 obtain ⟨_,_,_,rfl,K⟩:=r0.op3
 obtain ⟨_,rfl,r2q⟩:=r2
 cases r2q
 refine Fn.intro (args:=[_,_,_]) Tryz.func31 rfl rfl (lB rfl) fun w=>?_
 unfold M.merge_Subdivide at hm
 refine SR<|o_bx (v:=.agg ⟨[.int _ _,.int _ _]⟩) rfl rfl fun Y=>oq (aS rfl)<|oq (aS rfl)<|oq (aI rfl)<|N0<|Sq<|bE hm fun L bz hm=>Rg<|oq (mS rfl)<|oq (mI rfl)<|oc (complex_Find_fn (Sm K) bz) fun _ _ _ bJ=>?_
 obtain ⟨_,_,rfl,bK,bL⟩:=bJ
 obtain ⟨_,rfl,aM,aL,aG,rfl,aH⟩:=bK
 cases bL
 refine oq q_mv<|oq (q_ex rfl rfl)<|oq (q_ex rfl rfl)<|o_al fun aD=>Sc [.int _ _,.int _ _,.slice _ _ _] [.int _ _,.int _ _,.slice _ _ _] rfl rfl rfl rfl rfl ia rfl rfl<|oq (aB rfl)<|N0<|Sq<|bE hm fun _ bA hm=>Rg<|oq (mS rfl)<|oq (q_jan (i:=0) rfl rfl rfl (by decide))<|oq (q_ld rfl ia rfl)<|oc (complex_Find_fn (Sm K) bA) fun _ _ _ bM=>?_
 obtain ⟨_,_,rfl,bN,bO⟩:=bM
 obtain ⟨_,rfl,_,_,_,rfl,_⟩:=bN
 cases bO
 refine oq q_mv<|oq (q_ex rfl rfl)<|oq (q_ex rfl rfl)<|o_al fun _=>Sc [.int _ _,.int _ _,.slice _ _ _] [.int _ _,.int _ _,.slice _ _ _] rfl rfl rfl rfl rfl ia rfl rfl<|oq (aB rfl)<|N0<|Sq<|bE hm fun _ bB hm=>Rg<|oq (mS rfl)<|oq (q_jan (i:=1) rfl rfl rfl (by decide))<|oq (q_ld rfl ia rfl)<|oc (complex_Find_fn (Sm K) bB) fun _ _ _ bP=>?_
 obtain ⟨_,_,rfl,bQ,bR⟩:=bP
 obtain ⟨_,rfl,_,_,_,rfl,_⟩:=bQ
 cases bR
 refine oq q_mv<|oq (q_ex rfl rfl)<|oq (q_ex rfl rfl)<|o_al fun _=>Sc [.int _ _,.int _ _,.slice _ _ _] [.int _ _,.int _ _,.slice _ _ _] rfl rfl rfl rfl rfl ia rfl rfl<|oq (aB rfl)<|N0<|Sq<|Jb<|SR<|oq (mB rfl)<|oq (q_not rfl)<|oq (aB rfl)<|N0<|iC hm (fun af hm=>?_) fun af hm=>?_
 · refine jF rfl (bT (af))<|SR<|oq (q_fa rfl)<|oq (q_ld rfl ia rfl)<|oq (q_neq rfl rfl)<|oq (aB rfl)<|N0<|iC hm (fun ag hm=>?_) fun ag hm=>?_
   · refine jF rfl (dF (fun z=>z ag))<|Sq ?_
     refine J.joinK (α:=Bool) (fun ad h' L'=>(M.merge_Subdivide_j2 x0 x1 x2 L) ad=some r∧Sp ([(Y,row 59 [.int .i64 x2.1,.int .i64 x2.2]),(aD,row 47 [.int .i64 L.1.ID,.int .i64 L.1.Dim,.slice aM aL aG])]) L') [(0,.slice _ _ _),(1,.int _ _),(5,.pointer _),(9,.pointer _)] ⟨rfl,rfl,rfl,rfl,trivial⟩ (fun ad=>[(48,.bool ad)]) ?_ ?_
     · refine iC hm (fun m hm=>?_) fun m hm=>?_
       · refine Rg<|oq (mB rfl)<|oq (mB rfl)<|gF rfl rfl m<|oq (pkT rfl m rfl)<|oq (mB rfl)<|gF rfl rfl rfl<|gF rfl rfl rfl<|gF rfl rfl rfl<|gF rfl rfl rfl<|gF rfl rfl rfl<|oq (pkT rfl rfl rfl)<|oq (aB rfl)<|N0 ?_
         exact ⟨true,rfl,⟨rfl,rfl,rfl,rfl,trivial⟩,⟨rfl,trivial⟩,⟨hm,ii⟩,ii⟩
       · refine iC hm (fun b hm=>?_) fun b hm=>?_
         · refine Rg<|oq (mB rfl)<|oq (mB rfl)<|gT rfl rfl (nT m)<|oq (mB rfl)<|oq (pkF rfl (nT m) rfl)<|oq (mB rfl)<|gF rfl rfl b<|gF rfl rfl b<|gF rfl rfl b<|gF rfl rfl b<|gF rfl rfl b<|oq (pkT rfl b rfl)<|oq (aB rfl)<|N0 ?_
           exact ⟨true,rfl,⟨rfl,rfl,rfl,rfl,trivial⟩,⟨rfl,trivial⟩,⟨hm,ii⟩,ii⟩
         · refine Rg<|oq (mB rfl)<|oq (mB rfl)<|gT rfl rfl (nT m)<|oq (mB rfl)<|oq (pkF rfl (nT m) rfl)<|oq (mB rfl)<|gT rfl rfl (nT b)<|oq (q_jan (i:=0) rfl rfl rfl (by decide))<|gT rfl rfl (nT b)<|oq (q_ld rfl ia rfl)<|gT rfl rfl (nT b)<|oq (q_jan (i:=1) rfl rfl rfl (by decide))<|gT rfl rfl (nT b)<|oq (q_ld rfl ia rfl)<|gT rfl rfl (nT b)<|oq (q_eql rfl rfl)<|oq (pkF rfl (nT b) rfl)<|oq (aB rfl)<|N0 ?_
           exact ⟨(decide (x2.1=x2.2)),rfl,⟨rfl,rfl,rfl,rfl,trivial⟩,⟨rfl,trivial⟩,⟨hm,ii⟩,ii⟩
     · rintro ad _ _ _ _ ⟨hm,al⟩
       refine J.sp al ?_
       unfold M.merge_Subdivide_j2 at hm
       refine iC hm (fun ah hm=>?_) fun ah hm=>?_
       · refine jT rfl ah<|SR<|oq (aS rfl)<|oq (aS rfl)<|oq (aI rfl)<|N0<|Jr ?_
         cases hm
         exact ret_ok (fn:=Tryz.f31) rfl (.tmp rfl (.tmp rfl (.tmp rfl .nil))) ⟨_,_,_,rfl,((Sls.nil (R:=TCellR) (sz:=3) _)),((Sls.nil (R:=TImageR) (sz:=2) _)),rfl⟩
       · refine jF rfl (nT ah)<|SR<|oq (mS rfl)<|oq (q_lenE (k:=x0.length) rfl (Sls.len K))<|oq (q_gtr rfl rfl)<|oq (aB rfl)<|N0<|iC hm (fun ai hm=>?_) fun ai hm=>?_
         · refine jT rfl (dT ai)<|SR<|oq (aS rfl)<|oq (aS rfl)<|oq (aI rfl)<|N0<|Jr ?_
           cases hm
           exact ret_ok (fn:=Tryz.f31) rfl (.tmp rfl (.tmp rfl (.tmp rfl .nil))) ⟨_,_,_,rfl,((Sls.nil (R:=TCellR) (sz:=3) _)),((Sls.nil (R:=TImageR) (sz:=2) _)),rfl⟩
         · refine jF rfl (dF ai)<|Js<|Sq<|bE hm fun aN bC hm=>bE hm fun aO bD hm=>Rg<|oq (q_jan (i:=0) rfl rfl rfl (by decide))<|oq (q_ld rfl ia rfl)<|oc (merge_one_fn bC) fun _ _ _ bS=>?_
           obtain ⟨_,_,_,rfl,aJ⟩:=bS.op3
           refine oc (of_fn'' bD) fun _ _ _ bU=>?_
           obtain ⟨bG,bI,bH,bx,rfl,aK⟩:=bU.op
           refine o_al fun aF=>oq (aS rfl)<|Sc [.bool _,.slice _ _ _] [.bool _,.slice _ _ _] rfl rfl rfl rfl rfl ia rfl rfl<|N0<|Sq<|bE hm fun _ aV hm=>bE hm fun bu aW hm=>Rg<|oq (q_fa rfl)<|oq (q_ld rfl ia rfl)<|o_calll (clone_chain_own (Sm aH) aV) fun _ _ _ _ bk=>?_
           obtain ⟨_,_,_,aP,rfl,au,rfl⟩:=bk
           refine o_callio (aP++([])) (slices_DeleteFunc_Chain_Face_own (Om au) (fun e a0 w0 q0 c hc=>by haveI:=Ext.toStep e; exact merge_Subdivide_1_fn q0 hc) aW) fun _ _ _ _ bl=>?_
           obtain ⟨bi,bg,aT,_,rfl,av,rfl⟩:=bl
           refine oq (aS rfl)<|N0<|Sq<|bE hm fun _ aX hm=>bE hm fun I aY hm=>Rg<|oq (mS rfl)<|oq (mI rfl)<|oq (q_jan (i:=1) rfl rfl rfl (by decide))<|oq (q_ld rfl ia rfl)<|oc (merge_one_fn aX) fun _ _ _ bm=>?_
           obtain ⟨_,_,_,rfl,a7⟩:=bm.op3
           refine o_calll (merge_replace_own (Sm K) (Sm a7) aY) fun _ _ _ _ bn=>?_
           obtain ⟨bj,bh,aU,aQ,rfl,ac,rfl⟩:=bn
           refine oq (aS rfl)<|N0<|Sq<|SR<|oq (mS rfl)<|oq (q_lenE (k:=I.length) rfl (OwnL.len ac))<|oq (mI rfl)<|N0<|Jb<|J.fzO (R:=TFaceR) (Om av) fun _ _ a8=>?_
           obtain ⟨_,hm⟩:=rngL_some hm
           refine J.loopK (α:=Nat×(List TFace)×(List TCell)×(Option Addr)×Nat×Nat×(Option Addr)×Nat×Nat×Own) (fun ⟨d,t,u,q,o,j,G,p,l,C⟩ h' L'=>Sls TFaceR 3 h' (.slice q o j) t∧OwnL TCellR 47 3 h' (.slice G p l) u C∧forL (M.merge_Subdivide_b1 x1 L aN aO) (M.merge_Subdivide_k1 x0 x1 x2 aN aO) (List.drop d I) d (t,u)=some r∧Sp (C++([(Y,row 59 [.int .i64 x2.1,.int .i64 x2.2]),(aD,row 47 [.int .i64 L.1.ID,.int .i64 L.1.Dim,.slice aM aL aG]),(aF,row 75 [.bool bG,.slice bI bH bx])])) L') [(0,.slice _ _ _),(1,.int _ _),(5,.pointer _),(9,.pointer _),(15,.slice _ _ _),(16,.pointer _),(79,.int _ _)] ⟨rfl,rfl,rfl,rfl,rfl,rfl,rfl,trivial⟩ (fun ⟨d,t,u,q,o,j,G,p,l,C⟩=>[(17,.slice q o j),(18,.slice G p l),(80,.int .i64 (d:Int))]) (fun ⟨d,t,u,q,o,j,G,p,l,C⟩=>I.length-d) ⟨0,bu,I,bi,bg,aT,bj,bh,aU,aQ⟩ ⟨(Sm a8),(Om ac),hm,ii⟩ ⟨rfl,rfl,rfl,trivial⟩ ?_
           rintro ⟨d,t,u,q,o,j,G,p,l,C⟩ _ _ _ _ ⟨Q,ak,hm,ae⟩
           refine J.sp ae<|SR<|oq (q_lss rfl rfl)<|N0<|Sq ?_
           by_cases O:(d:Int)<(I.length:Int)
           · obtain ⟨_,_,ab,_,hm,Z⟩:=forL_cons O hm
             unfold M.merge_Subdivide_b1 at hm
             refine jT rfl (dT O) ?_
             have am:-9223372036854775808≤(d:Int)+1∧(d:Int)+1≤9223372036854775807:=by omega
             refine Js<|Sq<|Jb<|SR<|oq (mI rfl)<|oq (aI rfl)<|N0<|Sq<|nE hm fun _ U S A az hm=>?_
             obtain ⟨N,ao,rfl,rfl,B,T⟩:=OwnL.blk ak A
             obtain ⟨_,aa,aq,_⟩:=OwnC.get T az
             obtain ⟨_,_,_,rfl,_⟩:=aq
             refine Rg<|oq (mS rfl)<|oq (mI rfl)<|oq (q_ian rfl rfl S (by rw [B]; exact A))<|oq (q_fa rfl)<|oq (q_ldO rfl ii aa rfl)<|oq (mI rfl)<|oq (q_eql rfl rfl)<|N0<|iC hm (fun V hm=>?_) fun V hm=>?_
             · refine jT rfl (dT V)<|bE hm fun _ aZ hm=>bE hm fun _ a1 hm=>bE hm fun an a2 hm=>Rg<|oq (mS rfl)<|oq (mI rfl)<|oq (q_fa rfl)<|oq (q_ld rfl ia rfl)<|oq (mS rfl)<|oq (q_lda (vs:=[_,_]) rfl ii ⟨rfl,rfl,trivial⟩)<|oc (chains_Add_fn (Sm aH) (Sm Q) (iu aK) aZ) fun _ _ _ bo=>?_
               obtain ⟨_,_,_,rfl,a9⟩:=bo.op3
               refine oq (mS rfl)<|oc (of_fn'' a1) fun _ _ _ bp=>?_
               obtain ⟨_,_,_,_,rfl,ba⟩:=bp.op
               refine oc (chains_Add_fn (Sm a9) (Sm aJ) (iu ba) a2) fun _ _ _ bq=>?_
               obtain ⟨_,_,_,rfl,bb⟩:=bq.op3
               refine oq (q_ian rfl rfl S (by rw [B]; exact A))<|oq (q_fa rfl)<|o_stO (us1:=[_,_,_]) (ps:=[_]) (a:=(TCell.mk U.ID U.Dim an)) Sz.i rfl rfl rfl rfl (OwnC.mono T) ii A aa rfl (lB rfl) rfl ⟨_,_,_,rfl,Sm bb⟩ (setL_eq S) fun ap aC=>N0<|Rg<|oq (q_add rfl rfl (wi64 am))<|oq (mI rfl)<|N0<|have hm:=inl_onward hm Z; ?_
               exact ⟨⟨d+1,t,(setL u (d:Int) (TCell.mk U.ID U.Dim an)),q,o,j,(some ⟨N,0,none⟩),p,l,[(N,row 47 ap)]⟩,rfl,⟨rfl,rfl,rfl,rfl,rfl,rfl,rfl,trivial⟩,⟨rfl,rfl,rfl,trivial⟩,⟨(Sm Q),(OwnC.own (OwnC.mono aC) (setL_hn B)),hm,ii⟩,(muL ab),ii⟩
             · refine jF rfl (dF V)<|Js<|Rg<|oq (q_add rfl rfl (wi64 am))<|oq (mI rfl)<|N0<|have hm:=inl_onward hm Z; ?_
               exact ⟨⟨d+1,t,u,q,o,j,(some ⟨N,0,none⟩),p,l,[(N,row 47 ao)]⟩,rfl,⟨rfl,rfl,rfl,rfl,rfl,rfl,rfl,trivial⟩,⟨rfl,rfl,rfl,trivial⟩,⟨(Sm Q),(OwnC.own (OwnC.mono T) B),hm,ii⟩,(muL ab),ii⟩
           · replace hm:=forL_nil O hm
             unfold M.merge_Subdivide_k1 at hm
             refine jF rfl (dF O)<|Jx<|Sq<|bE hm fun bv a3 hm=>bE hm fun _ a4 hm=>J.drawB [Y,aF] []<|Dc 0 rfl (mS rfl)<|Dc 1 rfl (q_jan (i:=0) rfl rfl rfl (by decide))<|Dl 2 rfl (q_ld rfl ii rfl)<|Dc 3 rfl (q_bd [.int _ _,.int _ _,.slice _ _ _] rfl)<|Dc 4 rfl (q_jan (i:=1) rfl rfl rfl (by decide))<|Dl 5 rfl (q_ld rfl ii rfl)<|Dc 6 rfl (mS rfl)<|Dc 7 rfl (mS rfl)<|Dl 8 rfl (q_lda (vs:=[_,_]) rfl ii ⟨rfl,rfl,trivial⟩)<|Do 9<|Xe rfl rfl<|oc (chains_Add_fn (Sm Q) (Sm aJ) (iu aK) a3) fun _ _ _ br=>?_
             obtain ⟨_,_,_,rfl,bc⟩:=br.op3
             refine NE<|Dc 10 rfl (q_bd [.int _ _,.int _ _,.slice _ _ _] rfl)<|Do 11<|Xe rfl rfl<|o_bs [.int _ _,.int _ _,.slice _ _ _,.int _ _,.int _ _,.slice _ _ _] (by decide) rfl fun _=>LT TCellR 3 2 [(TCell.mk x2.1 0 ([]:List TFace)),(TCell.mk x2.2 1 bv)] (c3 ⟨_,_,_,rfl,(Sls.nil (R:=TFaceR) (sz:=3) _)⟩ (c3 ⟨_,_,_,rfl,Sm bc⟩ c0)) fun ar _=>NE<|Do 12<|Xe rfl rfl<|o_appB (R:=TCellR) rfl rfl (Om ak) ii ar a4 fun _ _ aR aw=>NE<|Dc 13 rfl (aS rfl)<|Dd<|Sq<|bE hm fun _ a5 hm=>Rg<|oq (mS rfl)<|o_callio (aR++([])) (sortC_own (Om aw) a5) fun _ _ _ _ bs=>?_
             obtain ⟨_,rfl,ax,rfl⟩:=bs
             refine N0<|Sq<|bE hm fun _ aj hm=>bE hm fun _ W hm=>bE hm fun _ P hm=>bE hm fun bw E hm=>bE hm fun _ a6 hm=>J.drawB [Y] []<|Dc 0 rfl (mS rfl)<|Dc 2 rfl (mI rfl)<|Dc 3 rfl (mI rfl)<|Dc 5 rfl (q_jan (i:=1) rfl rfl rfl (by decide))<|Dl 6 rfl (q_ld rfl ii rfl) ?_
             refine Da [1,4] ⟨?_,?_,trivial⟩
             focus
              refine Xe rfl rfl<|o_mkMap (VR:=(Sls TFaceR 3)) fun D _ x=>NE<|Do 4<|Xe rfl rfl<|oc (merge_one_fn aj) fun _ _ _ X=>?_
              obtain ⟨_,_,_,rfl,y⟩:=X.op3
              refine NE<|Do 7<|Xe rfl rfl<|oc (merge_one_fn W) fun _ _ _ H=>?_
              obtain ⟨_,_,_,rfl,n⟩:=H.op3
              refine NE<|Do 8<|Xe rfl rfl<|oc (of_fn'' P) fun _ _ _ s=>?_
              obtain ⟨_,_,_,_,rfl,g⟩:=s.op
              refine NE<|Do 9<|Xe rfl rfl<|oc (chains_Add_fn (Sm y) (Sm n) (iu g) E) fun _ _ _ f=>?_
              obtain ⟨_,_,_,rfl,F⟩:=f.op3
             rotate_left
             focus
              refine Xe rfl rfl<|oc (merge_one_fn aj) fun _ _ _ X=>?_
              obtain ⟨_,_,_,rfl,y⟩:=X.op3
              refine NE ?_
              refine Da [1,7] ⟨?_,?_,trivial⟩
              focus
               refine Xe rfl rfl<|o_mkMap (VR:=(Sls TFaceR 3)) fun D _ x=>NE<|Do 7<|Xe rfl rfl<|oc (merge_one_fn W) fun _ _ _ H=>?_
               obtain ⟨_,_,_,rfl,n⟩:=H.op3
               refine NE<|Do 8<|Xe rfl rfl<|oc (of_fn'' P) fun _ _ _ s=>?_
               obtain ⟨_,_,_,_,rfl,g⟩:=s.op
               refine NE<|Do 9<|Xe rfl rfl<|oc (chains_Add_fn (Sm y) (Sm n) (iu g) E) fun _ _ _ f=>?_
               obtain ⟨_,_,_,rfl,F⟩:=f.op3
              rotate_left
              focus
               refine Xe rfl rfl<|oc (merge_one_fn W) fun _ _ _ H=>?_
               obtain ⟨_,_,_,rfl,n⟩:=H.op3
               refine NE ?_
               refine Da [1,8] ⟨?_,?_,trivial⟩
               focus
                refine Xe rfl rfl<|o_mkMap (VR:=(Sls TFaceR 3)) fun D _ x=>NE<|Do 8<|Xe rfl rfl<|oc (of_fn'' P) fun _ _ _ s=>?_
                obtain ⟨_,_,_,_,rfl,g⟩:=s.op
                refine NE<|Do 9<|Xe rfl rfl<|oc (chains_Add_fn (Sm y) (Sm n) (iu g) E) fun _ _ _ f=>?_
                obtain ⟨_,_,_,rfl,F⟩:=f.op3
               rotate_left
               focus
                refine Xe rfl rfl<|oc (of_fn'' P) fun _ _ _ s=>?_
                obtain ⟨_,_,_,_,rfl,g⟩:=s.op
                refine NE ?_
                refine Da [1,9] ⟨?_,?_,trivial⟩
                focus
                 refine Xe rfl rfl<|o_mkMap (VR:=(Sls TFaceR 3)) fun D _ x=>NE<|Do 9<|Xe rfl rfl<|oc (chains_Add_fn (Sm y) (Sm n) (iu g) E) fun _ _ _ f=>?_
                 obtain ⟨_,_,_,rfl,F⟩:=f.op3
                rotate_left
                focus
                 refine Xe rfl rfl<|oc (chains_Add_fn (Sm y) (Sm n) (iu g) E) fun _ _ _ f=>?_
                 obtain ⟨_,_,_,rfl,F⟩:=f.op3
                 refine NE<|Do 1<|Xe rfl rfl<|o_mkMap (VR:=(Sls TFaceR 3)) fun D _ x=>?_
                rotate_left
               rotate_left 2
              rotate_left 3
             rotate_left 4
             all_goals
              refine NE<|Do 10<|Xe rfl rfl<|o_mapIns (VR:=(Sls TFaceR 3)) (a:=bw) rfl rfl rfl ii (MapR.mono x) (Sm F) fun _ aA=>NE<|Dc 11 rfl (q_mvv (v:=.map _) rfl)<|Do 12<|Xe rfl rfl<|JL.fzM D (MapR.mono aA) fun _ _ bd=>o_calll (merge_itself_own (Sm K) (MapF.mono bd) a6) fun _ _ _ _ bt=>?_
              obtain ⟨_,_,_,_,rfl,ay,rfl⟩:=bt
              refine NE<|Dc 13 rfl (aS rfl)<|Dd<|SR<|oq (mS rfl)<|oq (mS rfl)<|oq (aS rfl)<|oq (aS rfl)<|oq (aI rfl)<|N0<|J.fzO (R:=TCellR) (Om ax) fun _ _ be=>J.fzO (R:=TImageR) (Om ay) fun _ _ bf=>Jr ?_
              cases hm
              exact ret_ok (fn:=Tryz.f31) rfl (.tmp rfl (.tmp rfl (.tmp rfl .nil))) ⟨_,_,_,rfl,(Sm be),(Sm bf),rfl⟩
   · refine jT rfl (dT ag)<|SR<|oq (aS rfl)<|oq (aS rfl)<|oq (aI rfl)<|N0<|Jr ?_
     cases hm
     exact ret_ok (fn:=Tryz.f31) rfl (.tmp rfl (.tmp rfl (.tmp rfl .nil))) ⟨_,_,_,rfl,((Sls.nil (R:=TCellR) (sz:=3) _)),((Sls.nil (R:=TImageR) (sz:=2) _)),rfl⟩
 · refine jT rfl (bF ((nT af)))<|SR<|oq (aS rfl)<|oq (aS rfl)<|oq (aI rfl)<|N0<|Jr ?_
   cases hm
   exact ret_ok (fn:=Tryz.f31) rfl (.tmp rfl (.tmp rfl (.tmp rfl .nil))) ⟨_,_,_,rfl,((Sls.nil (R:=TCellR) (sz:=3) _)),((Sls.nil (R:=TImageR) (sz:=2) _)),rfl⟩
end Go.Z
end
section
namespace Go.Z
open Go Go.RowKit Go.Proofs
theorem l31_segment_fn {h:Heap}  {r:List TCell} (hm:M.l31_segment  = some r) :
    Fn Tryz.prog 63 #[] h fun v h'=>Sls TCellR 3 h' v r:=by
 refine Fn.intro (args:=[]) Tryz.func63 rfl rfl (lB rfl) fun w=>?_
 unfold M.l31_segment at hm
 refine SR<|oq (aS rfl)<|N0<|Sq<|bE hm fun m b hm=>bE hm fun n c hm=>bE hm fun o d hm=>Rg<|oc (r25_Point_fn b) fun _ _ _ j=>?_
 obtain ⟨_,rfl,_,_,_,rfl,e⟩:=j
 refine oc (r25_Point_fn c) fun _ _ _ k=>?_
 obtain ⟨_,rfl,_,_,_,rfl,f⟩:=k
 refine oc (r25_Edge_fn d) fun _ _ _ l=>?_
 obtain ⟨_,rfl,_,_,_,rfl,g⟩:=l
 refine o_bs [.int _ _,.int _ _,.slice _ _ _,.int _ _,.int _ _,.slice _ _ _,.int _ _,.int _ _,.slice _ _ _] (by decide) rfl fun _=>LT TCellR 3 3 [m,n,o] (c3 ⟨_,_,_,rfl,Sm e⟩ (c3 ⟨_,_,_,rfl,Sm f⟩ (c3 ⟨_,_,_,rfl,Sm g⟩ c0))) fun _ a=>oq (aS rfl)<|N0<|J.fzO (R:=TCellR) (Om a) fun _ _ i=>Jr ?_
 cases hm
 exact ret_ok (fn:=Tryz.f63) rfl (.tmp rfl .nil) (Sm i)
theorem r31_Apply_fn {h:Heap} {x0:List TImage} {x1:List TFace} {v0:Value} {v1:Value} (r0:Sls TImageR 2 h v0 x0) (r1:Sls TFaceR 3 h v1 x1) {r:List TFace} (hm:M.r31_Apply x0 x1=some r) :
    Fn Tryz.prog 25 #[v0,v1] h fun v h'=>Sls TFaceR 3 h' v r:=by
 obtain ⟨_,_,_,rfl,p⟩:=r0.op3
 obtain ⟨_,_,_,rfl,q⟩:=r1.op3
 refine Fn.intro (args:=[_,_]) Tryz.func25 rfl rfl (lB rfl) fun w=>?_
 unfold M.r31_Apply at hm
 refine SR<|oq (aS rfl)<|N0<|SR<|o_bs [] (by decide) rfl fun T=>LT TFaceR 3 0 ([]:List TFace) c0 fun _ L=>oq (aS rfl)<|N0<|Sq<|SR<|oq (aI rfl)<|N0<|Jb<|J.fzO (R:=TFaceR) (Om L) fun _ _ V=>?_
 obtain ⟨_,hm⟩:=rngL_some hm
 refine J.loopK (α:=Nat×(List TFace)×(Option Addr)×Nat×Nat) (fun ⟨b,n,m,l,i⟩ h' L'=>Sls TFaceR 3 h' (.slice m l i) n∧forL (M.r31_Apply_b2 x0) M.r31_Apply_k2 (List.drop b x1) b n=some r∧Sp ([]) L') [(0,.slice _ _ _),(1,.slice _ _ _)] ⟨rfl,rfl,trivial⟩ (fun ⟨b,n,m,l,i⟩=>[(5,.slice m l i),(6,.int .i64 (b:Int))]) (fun ⟨b,n,m,l,i⟩=>x1.length-b) ⟨0,([]:List TFace),(some ⟨T,0,none⟩),0,0⟩ ⟨(Sm V),hm,ii⟩ ⟨rfl,rfl,trivial⟩ ?_
 rintro ⟨b,n,m,l,i⟩ _ _ _ _ ⟨D,hm,B⟩
 refine J.sp B<|Sq<|SR<|oq (mI rfl)<|oq (mS rfl)<|oq (q_lenE (k:=x1.length) rfl (Sls.len q))<|oq (q_lss rfl rfl)<|N0 ?_
 by_cases s:(b:Int)<(x1.length:Int)
 · obtain ⟨ab,Z,o,N,hm,K⟩:=forL_cons s hm
   unfold M.r31_Apply_b2 at hm
   refine jT rfl (dT s) ?_
   have Y:-9223372036854775808≤(b:Int)+1∧(b:Int)+1≤9223372036854775807:=by omega
   refine Js<|Sq<|Jb<|SR<|oq (aI rfl)<|N0<|Jb ?_
   obtain ⟨_,hm⟩:=rngL_some hm
   refine J.loopK (α:=Nat×(List TFace)×(Option Addr)×Nat×Nat) (fun ⟨a,g,f,e,c⟩ h' L'=>Sls TFaceR 3 h' (.slice f e c) g∧forL (M.r31_Apply_b1 ab) M.r31_Apply_k1 (List.drop a x0) a g=some Z∧Sp ([]) L') [(0,.slice _ _ _),(1,.slice _ _ _),(6,.int _ _)] ⟨rfl,rfl,rfl,trivial⟩ (fun ⟨a,g,f,e,c⟩=>[(5,.slice f e c),(7,.int .i64 (a:Int))]) (fun ⟨a,g,f,e,c⟩=>x0.length-a) ⟨0,n,m,l,i⟩ ⟨(Sm D),hm,ii⟩ ⟨rfl,rfl,trivial⟩ ?_
   rintro ⟨a,g,f,e,c⟩ _ _ _ _ ⟨x,hm,C⟩
   refine J.sp C<|Sq<|SR<|oq (mI rfl)<|oq (mS rfl)<|oq (q_lenE (k:=x0.length) rfl (Sls.len p))<|oq (q_lss rfl rfl)<|N0 ?_
   by_cases t:(a:Int)<(x0.length:Int)
   · obtain ⟨_,_,d,O,hm,A⟩:=forL_cons t hm
     unfold M.r31_Apply_b1 at hm
     refine jT rfl (dT t) ?_
     have E:-9223372036854775808≤(a:Int)+1∧(a:Int)+1≤9223372036854775807:=by omega
     refine Js<|Sq<|Jb<|Sq ?_
     obtain ⟨_,_,rfl⟩:=Sls.op p d
     refine aE p O fun _ y H=>?_
     obtain ⟨_,_,_,rfl,W⟩:=H
     obtain ⟨_,_,rfl⟩:=Sls.op q o
     refine aE q N fun _ z I=>?_
     obtain ⟨_,_,_,_,rfl,X⟩:=I
     refine J.drawB [] []<|Dc 0 rfl (mS rfl)<|Dc 1 rfl (mI rfl)<|Dc 2 rfl (q_ian rfl rfl rfl (ln p d))<|Dc 3 rfl (q_fa rfl)<|Dl 4 rfl (q_ldf rfl (y.cell (j:=0) rfl))<|Dc 5 rfl (mS rfl)<|Dc 6 rfl (mI rfl)<|Dc 7 rfl (q_ian rfl rfl rfl (ln q o))<|Dc 8 rfl (q_fa rfl)<|Dl 9 rfl (q_ldf rfl (z.cell (j:=0) rfl))<|Dc 10 rfl (q_eql rfl rfl)<|Dd<|iC hm (fun u hm=>?_) fun u hm=>?_
     · refine jT rfl (dT u)<|bE hm fun S U hm=>J.drawB [] []<|Dc 0 rfl (mS rfl)<|Dc 1 rfl (mS rfl)<|Dc 2 rfl (mI rfl)<|Dc 3 rfl (q_ian rfl rfl rfl (ln p d))<|Dc 4 rfl (q_fa rfl)<|Dl 5 rfl (q_ldf rfl (y.cell (j:=1) rfl))<|Dc 6 rfl (mS rfl)<|Dc 7 rfl (mI rfl)<|Dc 8 rfl (q_ian rfl rfl rfl (ln q o))<|Dc 9 rfl (q_fa rfl)<|Dl 10 rfl (q_ldfs (vs:=[_,_]) rfl z rfl)<|Do 11<|Xe rfl rfl<|oc (r25_Plus_fn (Sm x) (Sm W) (iu X) U) fun _ _ _ aa=>?_
       obtain ⟨Q,P,F,rfl,G⟩:=aa.op3
       refine NE<|Dc 12 rfl (aS rfl)<|Dd<|Rg<|oq (mI rfl)<|oq (q_add rfl rfl (wi64 E))<|oq (aI rfl)<|N0<|have hm:=inl_onward hm A; ?_
       exact ⟨⟨a+1,S,Q,P,F⟩,rfl,⟨rfl,rfl,rfl,trivial⟩,⟨rfl,rfl,trivial⟩,⟨(Sm G),hm,ii⟩,(muL d),ii⟩
     · refine jF rfl (dF u)<|Js<|Rg<|oq (mI rfl)<|oq (q_add rfl rfl (wi64 E))<|oq (aI rfl)<|N0<|have hm:=inl_onward hm A; ?_
       exact ⟨⟨a+1,g,f,e,c⟩,rfl,⟨rfl,rfl,rfl,trivial⟩,⟨rfl,rfl,trivial⟩,⟨(Sm x),hm,ii⟩,(muL d),ii⟩
   · replace hm:=forL_nil t hm
     unfold M.r31_Apply_k1 at hm
     refine jF rfl (dF t)<|Jx<|Rg<|oq (mI rfl)<|oq (q_add rfl rfl (wi64 Y))<|oq (aI rfl)<|N0<|have hm:=inl_onward hm K; ?_
     exact ⟨⟨b+1,g,f,e,c⟩,rfl,⟨rfl,rfl,trivial⟩,⟨rfl,rfl,trivial⟩,⟨(Sm x),hm,ii⟩,(muL o),ii⟩
 · replace hm:=forL_nil s hm
   unfold M.r31_Apply_k2 at hm
   refine jF rfl (dF s)<|Jx<|SR<|oq (mS rfl)<|oq (aS rfl)<|N0<|Jr ?_
   cases hm
   exact ret_ok (fn:=Tryz.f25) rfl (.tmp rfl .nil) (Sm D)
theorem l31_sanity_fn {h:Heap}  {r:Bool} (hm:M.l31_sanity  = some r) :
    Fn Tryz.prog 15 #[] h fun v h'=>v=.bool r:=by
 refine Fn.intro (args:=[]) Tryz.func15 rfl rfl (lB rfl) fun w=>?_
 unfold M.l31_sanity at hm
 refine SR<|oq (aB rfl)<|N0<|Sq<|bE hm fun dA df hm=>bE hm fun dB dg hm=>Rg<|oc (r25_Point_fn df) fun _ _ _ dp=>?_
 obtain ⟨_,rfl,_,_,_,rfl,dk⟩:=dp
 refine oq (q_bd [.int _ _,.int _ _,.slice _ _ _] rfl) ?_
 refine oq (q_bd [.int _ _,.int _ _,.slice _ _ _] rfl) ?_
 refine o_bs [.int _ _,.int _ _,.int _ _,.int _ _] (by decide) rfl fun _=>LT (KR .i64) 1 4 [3,1,4,(-1)] (c1 rfl (c1 rfl (c1 rfl (c1 rfl c0)))) fun _ b6=>JL.fzO (R:=(KR .i64)) (Om b6) fun _ _ dl=>oc (r25_Sum_fn (Sm dl) dg) fun _ _ _ dq=>?_
 obtain ⟨_,_,_,rfl,dm⟩:=dq.op3
 refine oq (q_bd [.int _ _,.int _ _,.slice _ _ _] rfl) ?_
 refine o_bs [.int _ _,.int _ _,.slice _ _ _,.int _ _,.int _ _,.slice _ _ _,.int _ _,.int _ _,.slice _ _ _,.int _ _,.int _ _,.slice _ _ _] (by decide) rfl fun _=>LT TCellR 3 4 [dA,(TCell.mk 3 1 ([]:List TFace)),(TCell.mk 4 1 ([]:List TFace)),(TCell.mk 5 2 dB)] (c3 ⟨_,_,_,rfl,Sm dk⟩ (c3 ⟨_,_,_,rfl,(Sls.nil (R:=TFaceR) (sz:=3) _)⟩ (c3 ⟨_,_,_,rfl,(Sls.nil (R:=TFaceR) (sz:=3) _)⟩ (c3 ⟨_,_,_,rfl,Sm dm⟩ c0)))) fun _ b7=>oq (aS rfl)<|N0<|Sq<|J.fzO (R:=TCellR) (Om b7) fun _ _ aM=>bE hm fun dC dh hm=>Rg<|oq (mS rfl)<|oc (merge_Identify_fn (Sm aM) dh) fun _ _ _ dr=>?_
 obtain ⟨_,_,_,rfl,ds,dt,du⟩:=dr
 obtain ⟨_,_,_,rfl,aN⟩:=ds.op3
 obtain ⟨_,_,_,rfl,aX⟩:=dt.op3
 cases du
 refine oq q_mv<|oq (q_ex rfl rfl)<|oq (q_ex rfl rfl)<|oq (q_ex rfl rfl)<|oq (aS rfl)<|oq (aS rfl)<|oq (aI rfl)<|N0<|Sq<|bE hm fun _ di hm=>bE hm fun dD dj hm=>Rg<|oc (l31_segment_fn di) fun _ _ _ dv=>?_
 obtain ⟨_,_,_,rfl,dn⟩:=dv.op3
 refine oc (merge_Collapse_fn (Sm dn) dj) fun _ _ _ dw=>?_
 obtain ⟨_,_,_,rfl,dx,dy,dz⟩:=dw
 obtain ⟨_,_,_,rfl,bd⟩:=dx.op3
 obtain ⟨_,_,_,rfl,bJ⟩:=dy.op3
 cases dz
 refine oq q_mv<|oq (q_ex rfl rfl)<|oq (q_ex rfl rfl)<|oq (q_ex rfl rfl)<|oq (aS rfl)<|oq (aS rfl)<|oq (aI rfl)<|N0<|Sq<|bE hm fun c5 be hm=>bE hm fun c6 bf hm=>bE hm fun _ bg hm=>Rg<|oc (r25_Point_fn be) fun _ _ _ b8=>?_
 obtain ⟨_,rfl,_,_,_,rfl,bK⟩:=b8
 refine o_bs [.int _ _,.int _ _] (by decide) rfl fun _=>LT (KR .i64) 1 2 [1,2] (c1 rfl (c1 rfl c0)) fun _ a6=>JL.fzO (R:=(KR .i64)) (Om a6) fun _ _ bL=>oc (r25_Sum_fn (Sm bL) bf) fun _ _ _ b9=>?_
 obtain ⟨_,_,_,rfl,bM⟩:=b9.op3
 refine oq (q_bd [.int _ _,.int _ _,.slice _ _ _] rfl) ?_
 refine o_bs [.int _ _,.int _ _,.slice _ _ _,.int _ _,.int _ _,.slice _ _ _] (by decide) rfl fun _=>LT TCellR 3 2 [c5,(TCell.mk 2 1 c6)] (c3 ⟨_,_,_,rfl,Sm bK⟩ (c3 ⟨_,_,_,rfl,Sm bM⟩ c0)) fun _ a7=>JL.fzO (R:=TCellR) (Om a7) fun _ _ bN=>oc (merge_Collapse_fn (Sm bN) bg) fun _ _ _ ca=>?_
 obtain ⟨_,_,_,rfl,cb,cd,ce⟩:=ca
 obtain ⟨_,_,_,rfl,_⟩:=cb.op3
 obtain ⟨_,_,_,rfl,_⟩:=cd.op3
 cases ce
 refine oq q_mv<|oq (q_ex rfl rfl)<|oq (q_ex rfl rfl)<|oq (q_ex rfl rfl)<|oq (aS rfl)<|oq (aS rfl)<|oq (aI rfl)<|N0<|Sq<|bE hm fun _ bh hm=>bE hm fun aZ bi hm=>Rg<|oc (l31_segment_fn bh) fun _ _ _ cf=>?_
 obtain ⟨_,_,_,rfl,bO⟩:=cf.op3
 refine oq (q_bda [.int _ _,.int _ _] rfl) ?_
 refine oc (merge_Subdivide_fn (Sm bO) (x2:=(7,8)) ⟨_,rfl,rfl⟩ bi) fun _ _ _ cg=>?_
 obtain ⟨_,_,_,rfl,ch,ci,cj⟩:=cg
 obtain ⟨_,_,_,rfl,ab⟩:=ch.op3
 obtain ⟨_,_,_,rfl,aw⟩:=ci.op3
 cases cj
 refine oq q_mv<|oq (q_ex rfl rfl)<|oq (q_ex rfl rfl)<|oq (q_ex rfl rfl)<|oq (aS rfl)<|oq (aS rfl)<|oq (aI rfl)<|N0<|Sq<|bE hm fun _ bj hm=>Rg<|oq (mS rfl)<|oc (merge_Identify_fn (Sm aM) bj) fun _ _ _ ck=>?_
 obtain ⟨_,_,_,rfl,cl,cm,cn⟩:=ck
 obtain ⟨_,_,_,rfl,_⟩:=cl.op3
 obtain ⟨_,_,_,rfl,_⟩:=cm.op3
 cases cn
 refine oq q_mv<|oq (q_ex rfl rfl)<|oq (q_ex rfl rfl)<|oq (q_ex rfl rfl)<|oq (aS rfl)<|oq (aS rfl)<|oq (aI rfl)<|N0<|Sq<|bE hm fun _ bk hm=>Rg<|oq (mS rfl)<|oc (merge_Identify_fn (Sm aM) bk) fun _ _ _ co=>?_
 obtain ⟨_,_,_,rfl,cp,cq,cr⟩:=co
 obtain ⟨_,_,_,rfl,_⟩:=cp.op3
 obtain ⟨_,_,_,rfl,_⟩:=cq.op3
 cases cr
 refine oq q_mv<|oq (q_ex rfl rfl)<|oq (q_ex rfl rfl)<|oq (q_ex rfl rfl)<|oq (aS rfl)<|oq (aS rfl)<|oq (aI rfl)<|N0<|Sq<|bE hm fun _ bl hm=>Rg<|oq (mS rfl)<|oc (merge_Identify_fn (Sm aM) bl) fun _ _ _ cs=>?_
 obtain ⟨_,_,_,rfl,ct,cu,cv⟩:=cs
 obtain ⟨_,_,_,rfl,_⟩:=ct.op3
 obtain ⟨_,_,_,rfl,_⟩:=cu.op3
 cases cv
 refine oq q_mv<|oq (q_ex rfl rfl)<|oq (q_ex rfl rfl)<|oq (q_ex rfl rfl)<|oq (aS rfl)<|oq (aS rfl)<|oq (aI rfl)<|N0<|Sq<|bE hm fun _ bm hm=>bE hm fun _ bn hm=>Rg<|oc (l31_segment_fn bm) fun _ _ _ cw=>?_
 obtain ⟨_,_,_,rfl,bP⟩:=cw.op3
 refine oq (q_bda [.int _ _,.int _ _] rfl) ?_
 refine oc (merge_Subdivide_fn (Sm bP) (x2:=(7,8)) ⟨_,rfl,rfl⟩ bn) fun _ _ _ cx=>?_
 obtain ⟨_,_,_,rfl,cy,cz,cA⟩:=cx
 obtain ⟨_,_,_,rfl,_⟩:=cy.op3
 obtain ⟨_,_,_,rfl,_⟩:=cz.op3
 cases cA
 refine oq q_mv<|oq (q_ex rfl rfl)<|oq (q_ex rfl rfl)<|oq (q_ex rfl rfl)<|oq (aS rfl)<|oq (aS rfl)<|oq (aI rfl)<|N0<|Sq<|bE hm fun _ bo hm=>bE hm fun _ bp hm=>Rg<|oc (l31_segment_fn bo) fun _ _ _ cB=>?_
 obtain ⟨_,_,_,rfl,bQ⟩:=cB.op3
 refine oq (q_bda [.int _ _,.int _ _] rfl) ?_
 refine oc (merge_Subdivide_fn (Sm bQ) (x2:=(7,7)) ⟨_,rfl,rfl⟩ bp) fun _ _ _ cC=>?_
 obtain ⟨_,_,_,rfl,cD,cE,cF⟩:=cC
 obtain ⟨_,_,_,rfl,_⟩:=cD.op3
 obtain ⟨_,_,_,rfl,_⟩:=cE.op3
 cases cF
 refine oq q_mv<|oq (q_ex rfl rfl)<|oq (q_ex rfl rfl)<|oq (q_ex rfl rfl)<|oq (aS rfl)<|oq (aS rfl)<|oq (aI rfl)<|N0<|Sq<|bE hm fun _ bq hm=>bE hm fun c7 br hm=>Rg<|oc (l31_segment_fn bq) fun _ _ _ cG=>?_
 obtain ⟨_,_,_,rfl,bR⟩:=cG.op3
 refine oc (merge_Collapse_fn (Sm bR) br) fun _ _ _ cH=>?_
 obtain ⟨_,_,_,rfl,cI,cJ,cK⟩:=cH
 obtain ⟨_,_,_,rfl,_⟩:=cI.op3
 obtain ⟨_,_,_,rfl,_⟩:=cJ.op3
 cases cK
 refine oq q_mv<|oq (q_ex rfl rfl)<|oq (q_ex rfl rfl)<|oq (q_ex rfl rfl)<|oq (aS rfl)<|oq (aS rfl)<|oq (aI rfl)<|N0<|Sq<|bE hm fun _ bs hm=>bE hm fun an bt hm=>Rg<|oc (l31_segment_fn bs) fun _ _ _ cL=>?_
 obtain ⟨_,_,_,rfl,bS⟩:=cL.op3
 refine oc (merge_Free_fn (Sm bS) bt) fun _ _ _ cM=>?_
 obtain ⟨_,_,_,rfl,z⟩:=cM.op3
 refine oq (aS rfl)<|N0<|Sq ?_
 refine J.joinK (α:=Bool) (fun V h' L'=>(M.l31_sanity_j3 dC dD aZ an) V=some r∧Sp ([]) L') [(2,.slice _ _ _),(3,.slice _ _ _),(5,.slice _ _ _),(6,.slice _ _ _),(11,.slice _ _ _),(12,.slice _ _ _),(32,.slice _ _ _)] ⟨rfl,rfl,rfl,rfl,rfl,rfl,rfl,trivial⟩ (fun V=>[(33,.bool V)]) ?_ ?_
 · refine iC hm (fun c hm=>?_) fun c hm=>?_
   · refine iC hm (fun d hm=>?_) fun d hm=>?_
     · refine iC hm (fun e hm=>?_) fun e hm=>?_
       · refine iC hm (fun f hm=>?_) fun f hm=>?_
         · refine iC hm (fun i hm=>?_) fun i hm=>?_
           · refine iC hm (fun o hm=>?_) fun o hm=>?_
             · refine iC hm (fun t hm=>?_) fun t hm=>?_
               · refine iC hm (fun y hm=>?_) fun y hm=>?_
                 · refine iC hm (fun E hm=>?_) fun E hm=>?_
                   · refine Rg<|oq (mI rfl)<|oq (q_eql rfl rfl)<|oq (mB rfl)<|gT rfl rfl (dT c)<|oq (mI rfl)<|gT rfl rfl (dT c)<|oq (q_eql rfl rfl)<|oq (pkT rfl (dT c) rfl)<|oq (mB rfl)<|gT rfl rfl (dT d)<|oq (mI rfl)<|gT rfl rfl (dT d)<|oq (q_eql rfl rfl)<|oq (pkT rfl (dT d) rfl)<|oq (mB rfl)<|gT rfl rfl (dT e)<|oq (mI rfl)<|gT rfl rfl (dT e)<|oq (q_eql rfl rfl)<|oq (pkT rfl (dT e) rfl)<|oq (mB rfl)<|gT rfl rfl (dT f)<|oq (mI rfl)<|gT rfl rfl (dT f)<|oq (q_eql rfl rfl)<|oq (pkT rfl (dT f) rfl)<|oq (mB rfl)<|gT rfl rfl (dT i)<|oq (mI rfl)<|gT rfl rfl (dT i)<|oq (q_eql rfl rfl)<|oq (pkT rfl (dT i) rfl)<|oq (mB rfl)<|gT rfl rfl (dT o)<|oq (mI rfl)<|gT rfl rfl (dT o)<|oq (q_eql rfl rfl)<|oq (pkT rfl (dT o) rfl)<|oq (mB rfl)<|gT rfl rfl (dT t)<|oq (mI rfl)<|gT rfl rfl (dT t)<|oq (q_eql rfl rfl)<|oq (pkT rfl (dT t) rfl)<|oq (mB rfl)<|gT rfl rfl (dT y)<|oq (mI rfl)<|gT rfl rfl (dT y)<|oq (q_eql rfl rfl)<|oq (pkT rfl (dT y) rfl)<|oq (mB rfl)<|gT rfl rfl (dT E)<|oq (mI rfl)<|gT rfl rfl (dT E)<|oq (q_eql rfl rfl)<|oq (pkT rfl (dT E) rfl)<|oq (aB rfl)<|N0 ?_
                     exact ⟨(decide (c7.2.2=250)),rfl,⟨rfl,rfl,rfl,rfl,rfl,rfl,rfl,trivial⟩,⟨rfl,trivial⟩,⟨hm,ii⟩,ii⟩
                   · refine Rg<|oq (mI rfl)<|oq (q_eql rfl rfl)<|oq (mB rfl)<|gT rfl rfl (dT c)<|oq (mI rfl)<|gT rfl rfl (dT c)<|oq (q_eql rfl rfl)<|oq (pkT rfl (dT c) rfl)<|oq (mB rfl)<|gT rfl rfl (dT d)<|oq (mI rfl)<|gT rfl rfl (dT d)<|oq (q_eql rfl rfl)<|oq (pkT rfl (dT d) rfl)<|oq (mB rfl)<|gT rfl rfl (dT e)<|oq (mI rfl)<|gT rfl rfl (dT e)<|oq (q_eql rfl rfl)<|oq (pkT rfl (dT e) rfl)<|oq (mB rfl)<|gT rfl rfl (dT f)<|oq (mI rfl)<|gT rfl rfl (dT f)<|oq (q_eql rfl rfl)<|oq (pkT rfl (dT f) rfl)<|oq (mB rfl)<|gT rfl rfl (dT i)<|oq (mI rfl)<|gT rfl rfl (dT i)<|oq (q_eql rfl rfl)<|oq (pkT rfl (dT i) rfl)<|oq (mB rfl)<|gT rfl rfl (dT o)<|oq (mI rfl)<|gT rfl rfl (dT o)<|oq (q_eql rfl rfl)<|oq (pkT rfl (dT o) rfl)<|oq (mB rfl)<|gT rfl rfl (dT t)<|oq (mI rfl)<|gT rfl rfl (dT t)<|oq (q_eql rfl rfl)<|oq (pkT rfl (dT t) rfl)<|oq (mB rfl)<|gT rfl rfl (dT y)<|oq (mI rfl)<|gT rfl rfl (dT y)<|oq (q_eql rfl rfl)<|oq (pkT rfl (dT y) rfl)<|oq (mB rfl)<|gF rfl rfl (dF E)<|gF rfl rfl (dF E)<|oq (pkF rfl (dF E) rfl)<|oq (aB rfl)<|N0 ?_
                     exact ⟨false,rfl,⟨rfl,rfl,rfl,rfl,rfl,rfl,rfl,trivial⟩,⟨rfl,trivial⟩,⟨hm,ii⟩,ii⟩
                 · refine Rg<|oq (mI rfl)<|oq (q_eql rfl rfl)<|oq (mB rfl)<|gT rfl rfl (dT c)<|oq (mI rfl)<|gT rfl rfl (dT c)<|oq (q_eql rfl rfl)<|oq (pkT rfl (dT c) rfl)<|oq (mB rfl)<|gT rfl rfl (dT d)<|oq (mI rfl)<|gT rfl rfl (dT d)<|oq (q_eql rfl rfl)<|oq (pkT rfl (dT d) rfl)<|oq (mB rfl)<|gT rfl rfl (dT e)<|oq (mI rfl)<|gT rfl rfl (dT e)<|oq (q_eql rfl rfl)<|oq (pkT rfl (dT e) rfl)<|oq (mB rfl)<|gT rfl rfl (dT f)<|oq (mI rfl)<|gT rfl rfl (dT f)<|oq (q_eql rfl rfl)<|oq (pkT rfl (dT f) rfl)<|oq (mB rfl)<|gT rfl rfl (dT i)<|oq (mI rfl)<|gT rfl rfl (dT i)<|oq (q_eql rfl rfl)<|oq (pkT rfl (dT i) rfl)<|oq (mB rfl)<|gT rfl rfl (dT o)<|oq (mI rfl)<|gT rfl rfl (dT o)<|oq (q_eql rfl rfl)<|oq (pkT rfl (dT o) rfl)<|oq (mB rfl)<|gT rfl rfl (dT t)<|oq (mI rfl)<|gT rfl rfl (dT t)<|oq (q_eql rfl rfl)<|oq (pkT rfl (dT t) rfl)<|oq (mB rfl)<|gF rfl rfl (dF y)<|gF rfl rfl (dF y)<|oq (pkF rfl (dF y) rfl)<|oq (mB rfl)<|gF rfl rfl rfl<|gF rfl rfl rfl<|oq (pkF rfl rfl rfl)<|oq (aB rfl)<|N0 ?_
                   exact ⟨false,rfl,⟨rfl,rfl,rfl,rfl,rfl,rfl,rfl,trivial⟩,⟨rfl,trivial⟩,⟨hm,ii⟩,ii⟩
               · refine Rg<|oq (mI rfl)<|oq (q_eql rfl rfl)<|oq (mB rfl)<|gT rfl rfl (dT c)<|oq (mI rfl)<|gT rfl rfl (dT c)<|oq (q_eql rfl rfl)<|oq (pkT rfl (dT c) rfl)<|oq (mB rfl)<|gT rfl rfl (dT d)<|oq (mI rfl)<|gT rfl rfl (dT d)<|oq (q_eql rfl rfl)<|oq (pkT rfl (dT d) rfl)<|oq (mB rfl)<|gT rfl rfl (dT e)<|oq (mI rfl)<|gT rfl rfl (dT e)<|oq (q_eql rfl rfl)<|oq (pkT rfl (dT e) rfl)<|oq (mB rfl)<|gT rfl rfl (dT f)<|oq (mI rfl)<|gT rfl rfl (dT f)<|oq (q_eql rfl rfl)<|oq (pkT rfl (dT f) rfl)<|oq (mB rfl)<|gT rfl rfl (dT i)<|oq (mI rfl)<|gT rfl rfl (dT i)<|oq (q_eql rfl rfl)<|oq (pkT rfl (dT i) rfl)<|oq (mB rfl)<|gT rfl rfl (dT o)<|oq (mI rfl)<|gT rfl rfl (dT o)<|oq (q_eql rfl rfl)<|oq (pkT rfl (dT o) rfl)<|oq (mB rfl)<|gF rfl rfl (dF t)<|gF rfl rfl (dF t)<|oq (pkF rfl (dF t) rfl)<|oq (mB rfl)<|gF rfl rfl rfl<|gF rfl rfl rfl<|oq (pkF rfl rfl rfl)<|oq (mB rfl)<|gF rfl rfl rfl<|gF rfl rfl rfl<|oq (pkF rfl rfl rfl)<|oq (aB rfl)<|N0 ?_
                 exact ⟨false,rfl,⟨rfl,rfl,rfl,rfl,rfl,rfl,rfl,trivial⟩,⟨rfl,trivial⟩,⟨hm,ii⟩,ii⟩
             · refine Rg<|oq (mI rfl)<|oq (q_eql rfl rfl)<|oq (mB rfl)<|gT rfl rfl (dT c)<|oq (mI rfl)<|gT rfl rfl (dT c)<|oq (q_eql rfl rfl)<|oq (pkT rfl (dT c) rfl)<|oq (mB rfl)<|gT rfl rfl (dT d)<|oq (mI rfl)<|gT rfl rfl (dT d)<|oq (q_eql rfl rfl)<|oq (pkT rfl (dT d) rfl)<|oq (mB rfl)<|gT rfl rfl (dT e)<|oq (mI rfl)<|gT rfl rfl (dT e)<|oq (q_eql rfl rfl)<|oq (pkT rfl (dT e) rfl)<|oq (mB rfl)<|gT rfl rfl (dT f)<|oq (mI rfl)<|gT rfl rfl (dT f)<|oq (q_eql rfl rfl)<|oq (pkT rfl (dT f) rfl)<|oq (mB rfl)<|gT rfl rfl (dT i)<|oq (mI rfl)<|gT rfl rfl (dT i)<|oq (q_eql rfl rfl)<|oq (pkT rfl (dT i) rfl)<|oq (mB rfl)<|gF rfl rfl (dF o)<|gF rfl rfl (dF o)<|oq (pkF rfl (dF o) rfl)<|oq (mB rfl)<|gF rfl rfl rfl<|gF rfl rfl rfl<|oq (pkF rfl rfl rfl)<|oq (mB rfl)<|gF rfl rfl rfl<|gF rfl rfl rfl<|oq (pkF rfl rfl rfl)<|oq (mB rfl)<|gF rfl rfl rfl<|gF rfl rfl rfl<|oq (pkF rfl rfl rfl)<|oq (aB rfl)<|N0 ?_
               exact ⟨false,rfl,⟨rfl,rfl,rfl,rfl,rfl,rfl,rfl,trivial⟩,⟨rfl,trivial⟩,⟨hm,ii⟩,ii⟩
           · refine Rg<|oq (mI rfl)<|oq (q_eql rfl rfl)<|oq (mB rfl)<|gT rfl rfl (dT c)<|oq (mI rfl)<|gT rfl rfl (dT c)<|oq (q_eql rfl rfl)<|oq (pkT rfl (dT c) rfl)<|oq (mB rfl)<|gT rfl rfl (dT d)<|oq (mI rfl)<|gT rfl rfl (dT d)<|oq (q_eql rfl rfl)<|oq (pkT rfl (dT d) rfl)<|oq (mB rfl)<|gT rfl rfl (dT e)<|oq (mI rfl)<|gT rfl rfl (dT e)<|oq (q_eql rfl rfl)<|oq (pkT rfl (dT e) rfl)<|oq (mB rfl)<|gT rfl rfl (dT f)<|oq (mI rfl)<|gT rfl rfl (dT f)<|oq (q_eql rfl rfl)<|oq (pkT rfl (dT f) rfl)<|oq (mB rfl)<|gF rfl rfl (dF i)<|gF rfl rfl (dF i)<|oq (pkF rfl (dF i) rfl)<|oq (mB rfl)<|gF rfl rfl rfl<|gF rfl rfl rfl<|oq (pkF rfl rfl rfl)<|oq (mB rfl)<|gF rfl rfl rfl<|gF rfl rfl rfl<|oq (pkF rfl rfl rfl)<|oq (mB rfl)<|gF rfl rfl rfl<|gF rfl rfl rfl<|oq (pkF rfl rfl rfl)<|oq (mB rfl)<|gF rfl rfl rfl<|gF rfl rfl rfl<|oq (pkF rfl rfl rfl)<|oq (aB rfl)<|N0 ?_
             exact ⟨false,rfl,⟨rfl,rfl,rfl,rfl,rfl,rfl,rfl,trivial⟩,⟨rfl,trivial⟩,⟨hm,ii⟩,ii⟩
         · refine Rg<|oq (mI rfl)<|oq (q_eql rfl rfl)<|oq (mB rfl)<|gT rfl rfl (dT c)<|oq (mI rfl)<|gT rfl rfl (dT c)<|oq (q_eql rfl rfl)<|oq (pkT rfl (dT c) rfl)<|oq (mB rfl)<|gT rfl rfl (dT d)<|oq (mI rfl)<|gT rfl rfl (dT d)<|oq (q_eql rfl rfl)<|oq (pkT rfl (dT d) rfl)<|oq (mB rfl)<|gT rfl rfl (dT e)<|oq (mI rfl)<|gT rfl rfl (dT e)<|oq (q_eql rfl rfl)<|oq (pkT rfl (dT e) rfl)<|oq (mB rfl)<|gF rfl rfl (dF f)<|gF rfl rfl (dF f)<|oq (pkF rfl (dF f) rfl)<|oq (mB rfl)<|gF rfl rfl rfl<|gF rfl rfl rfl<|oq (pkF rfl rfl rfl)<|oq (mB rfl)<|gF rfl rfl rfl<|gF rfl rfl rfl<|oq (pkF rfl rfl rfl)<|oq (mB rfl)<|gF rfl rfl rfl<|gF rfl rfl rfl<|oq (pkF rfl rfl rfl)<|oq (mB rfl)<|gF rfl rfl rfl<|gF rfl rfl rfl<|oq (pkF rfl rfl rfl)<|oq (mB rfl)<|gF rfl rfl rfl<|gF rfl rfl rfl<|oq (pkF rfl rfl rfl)<|oq (aB rfl)<|N0 ?_
           exact ⟨false,rfl,⟨rfl,rfl,rfl,rfl,rfl,rfl,rfl,trivial⟩,⟨rfl,trivial⟩,⟨hm,ii⟩,ii⟩
       · refine Rg<|oq (mI rfl)<|oq (q_eql rfl rfl)<|oq (mB rfl)<|gT rfl rfl (dT c)<|oq (mI rfl)<|gT rfl rfl (dT c)<|oq (q_eql rfl rfl)<|oq (pkT rfl (dT c) rfl)<|oq (mB rfl)<|gT rfl rfl (dT d)<|oq (mI rfl)<|gT rfl rfl (dT d)<|oq (q_eql rfl rfl)<|oq (pkT rfl (dT d) rfl)<|oq (mB rfl)<|gF rfl rfl (dF e)<|gF rfl rfl (dF e)<|oq (pkF rfl (dF e) rfl)<|oq (mB rfl)<|gF rfl rfl rfl<|gF rfl rfl rfl<|oq (pkF rfl rfl rfl)<|oq (mB rfl)<|gF rfl rfl rfl<|gF rfl rfl rfl<|oq (pkF rfl rfl rfl)<|oq (mB rfl)<|gF rfl rfl rfl<|gF rfl rfl rfl<|oq (pkF rfl rfl rfl)<|oq (mB rfl)<|gF rfl rfl rfl<|gF rfl rfl rfl<|oq (pkF rfl rfl rfl)<|oq (mB rfl)<|gF rfl rfl rfl<|gF rfl rfl rfl<|oq (pkF rfl rfl rfl)<|oq (mB rfl)<|gF rfl rfl rfl<|gF rfl rfl rfl<|oq (pkF rfl rfl rfl)<|oq (aB rfl)<|N0 ?_
         exact ⟨false,rfl,⟨rfl,rfl,rfl,rfl,rfl,rfl,rfl,trivial⟩,⟨rfl,trivial⟩,⟨hm,ii⟩,ii⟩
     · refine Rg<|oq (mI rfl)<|oq (q_eql rfl rfl)<|oq (mB rfl)<|gT rfl rfl (dT c)<|oq (mI rfl)<|gT rfl rfl (dT c)<|oq (q_eql rfl rfl)<|oq (pkT rfl (dT c) rfl)<|oq (mB rfl)<|gF rfl rfl (dF d)<|gF rfl rfl (dF d)<|oq (pkF rfl (dF d) rfl)<|oq (mB rfl)<|gF rfl rfl rfl<|gF rfl rfl rfl<|oq (pkF rfl rfl rfl)<|oq (mB rfl)<|gF rfl rfl rfl<|gF rfl rfl rfl<|oq (pkF rfl rfl rfl)<|oq (mB rfl)<|gF rfl rfl rfl<|gF rfl rfl rfl<|oq (pkF rfl rfl rfl)<|oq (mB rfl)<|gF rfl rfl rfl<|gF rfl rfl rfl<|oq (pkF rfl rfl rfl)<|oq (mB rfl)<|gF rfl rfl rfl<|gF rfl rfl rfl<|oq (pkF rfl rfl rfl)<|oq (mB rfl)<|gF rfl rfl rfl<|gF rfl rfl rfl<|oq (pkF rfl rfl rfl)<|oq (mB rfl)<|gF rfl rfl rfl<|gF rfl rfl rfl<|oq (pkF rfl rfl rfl)<|oq (aB rfl)<|N0 ?_
       exact ⟨false,rfl,⟨rfl,rfl,rfl,rfl,rfl,rfl,rfl,trivial⟩,⟨rfl,trivial⟩,⟨hm,ii⟩,ii⟩
   · refine Rg<|oq (mI rfl)<|oq (q_eql rfl rfl)<|oq (mB rfl)<|gF rfl rfl (dF c)<|gF rfl rfl (dF c)<|oq (pkF rfl (dF c) rfl)<|oq (mB rfl)<|gF rfl rfl rfl<|gF rfl rfl rfl<|oq (pkF rfl rfl rfl)<|oq (mB rfl)<|gF rfl rfl rfl<|gF rfl rfl rfl<|oq (pkF rfl rfl rfl)<|oq (mB rfl)<|gF rfl rfl rfl<|gF rfl rfl rfl<|oq (pkF rfl rfl rfl)<|oq (mB rfl)<|gF rfl rfl rfl<|gF rfl rfl rfl<|oq (pkF rfl rfl rfl)<|oq (mB rfl)<|gF rfl rfl rfl<|gF rfl rfl rfl<|oq (pkF rfl rfl rfl)<|oq (mB rfl)<|gF rfl rfl rfl<|gF rfl rfl rfl<|oq (pkF rfl rfl rfl)<|oq (mB rfl)<|gF rfl rfl rfl<|gF rfl rfl rfl<|oq (pkF rfl rfl rfl)<|oq (mB rfl)<|gF rfl rfl rfl<|gF rfl rfl rfl<|oq (pkF rfl rfl rfl)<|oq (aB rfl)<|N0 ?_
     exact ⟨false,rfl,⟨rfl,rfl,rfl,rfl,rfl,rfl,rfl,trivial⟩,⟨rfl,trivial⟩,⟨hm,ii⟩,ii⟩
 · rintro V _ _ _ _ ⟨hm,aQ⟩
   refine J.sp aQ ?_
   unfold M.l31_sanity_j3 at hm
   refine Sq ?_
   refine J.joinK (α:=Bool) (fun Z h' L'=>(M.l31_sanity_j2 aZ an V) Z=some r∧Sp ([]) L') [(11,.slice _ _ _),(12,.slice _ _ _),(32,.slice _ _ _),(33,.bool _)] ⟨rfl,rfl,rfl,rfl,trivial⟩ (fun Z=>[(34,.bool Z)]) ?_ ?_
   · refine bE hm fun az au hm=>bE hm fun _ av hm=>iC hm (fun b hm=>?_) fun b hm=>?_
     · refine bE hm fun _ aA hm=>bE hm fun _ aC hm=>bE hm fun _ aD hm=>bE hm fun _ aF hm=>iC hm (fun n hm=>?_) fun n hm=>?_
       · refine bE hm fun a0 aU hm=>bE hm fun _ aV hm=>iC hm (fun m hm=>?_) fun m hm=>?_
         · refine bE hm fun _ bD hm=>bE hm fun _ bG hm=>bE hm fun _ bH hm=>bE hm fun de bI hm=>Rg<|oq (mS rfl)<|oc (r25_Point_fn au) fun _ _ _ T=>?_
           obtain ⟨_,rfl,_,_,_,rfl,L⟩:=T
           refine oq (q_bd [.int _ _,.int _ _,.slice _ _ _] rfl) ?_
           refine oq (q_bd [.int _ _,.int _ _,.slice _ _ _] rfl) ?_
           refine o_bs [.int _ _,.int _ _,.slice _ _ _,.int _ _,.int _ _,.slice _ _ _,.int _ _,.int _ _,.slice _ _ _] (by decide) rfl fun _=>LT TCellR 3 3 [az,(TCell.mk 3 1 ([]:List TFace)),(TCell.mk 5 2 ([]:List TFace))] (c3 ⟨_,_,_,rfl,Sm L⟩ (c3 ⟨_,_,_,rfl,(Sls.nil (R:=TFaceR) (sz:=3) _)⟩ (c3 ⟨_,_,_,rfl,(Sls.nil (R:=TFaceR) (sz:=3) _)⟩ c0))) fun _ C=>JL.fzO (R:=TCellR) (Om C) fun _ _ N=>oc (r25_Same_fn (Sm aN) (Sm N) av) fun _ _ _ U=>?_
           cases U
           refine oq (mB rfl)<|gT rfl rfl b<|oq (mS rfl)<|gT rfl rfl b<|o_bs [.int _ _,.int _ _] (by decide) rfl fun _=>LT (KR .i64) 1 2 [4,1] (c1 rfl (c1 rfl c0)) fun _ X=>JL.fzO (R:=(KR .i64)) (Om X) fun _ _ ad=>gT rfl rfl b<|oc (r25_Sum_fn (Sm ad) aA) fun _ _ _ ai=>?_
           obtain ⟨_,_,_,rfl,ae⟩:=ai.op3
           refine gT rfl rfl b<|oc (r31_Apply_fn (Sm aX) (Sm ae) aC) fun _ _ _ aj=>?_
           obtain ⟨_,_,_,rfl,af⟩:=aj.op3
           refine gT rfl rfl b<|o_bs [.int _ _,.int _ _] (by decide) rfl fun _=>LT (KR .i64) 1 2 [3,1] (c1 rfl (c1 rfl c0)) fun _ Y=>JL.fzO (R:=(KR .i64)) (Om Y) fun _ _ ag=>gT rfl rfl b<|oc (r25_Sum_fn (Sm ag) aD) fun _ _ _ ak=>?_
           obtain ⟨_,_,_,rfl,ah⟩:=ak.op3
           refine gT rfl rfl b<|oc (r25_SameChain_fn (Sm af) (Sm ah) aF) fun _ _ _ al=>?_
           cases al
           refine oq (pkT rfl b rfl)<|oq (mB rfl)<|gT rfl rfl n<|oq (mS rfl)<|gT rfl rfl n<|oc (r25_Point_fn aU) fun _ _ _ aK=>?_
           obtain ⟨_,rfl,_,_,_,rfl,aH⟩:=aK
           refine gT rfl rfl n<|o_bs [.int _ _,.int _ _,.slice _ _ _] (by decide) rfl fun _=>LT TCellR 3 1 [a0] (c3 ⟨_,_,_,rfl,Sm aH⟩ c0) fun _ ay=>JL.fzO (R:=TCellR) (Om ay) fun _ _ aJ=>gT rfl rfl n<|oc (r25_Same_fn (Sm bd) (Sm aJ) aV) fun _ _ _ aL=>?_
           cases aL
           refine oq (pkT rfl n rfl)<|oq (mB rfl)<|gT rfl rfl m<|oq (mS rfl)<|gT rfl rfl m<|o_bs [.int _ _,.int _ _,.int _ _,.int _ _] (by decide) rfl fun _=>LT (KR .i64) 1 4 [2,1,3,1] (c1 rfl (c1 rfl (c1 rfl (c1 rfl c0)))) fun _ a9=>JL.fzO (R:=(KR .i64)) (Om a9) fun _ _ b1=>gT rfl rfl m<|oc (r25_Sum_fn (Sm b1) bD) fun _ _ _ cX=>?_
           obtain ⟨_,_,_,rfl,b2⟩:=cX.op3
           refine gT rfl rfl m<|oc (r31_Apply_fn (Sm bJ) (Sm b2) bG) fun _ _ _ cY=>?_
           obtain ⟨_,_,_,rfl,b3⟩:=cY.op3
           refine gT rfl rfl m<|o_bs [.int _ _,.int _ _] (by decide) rfl fun _=>LT (KR .i64) 1 2 [1,1] (c1 rfl (c1 rfl c0)) fun _ ba=>JL.fzO (R:=(KR .i64)) (Om ba) fun _ _ b4=>gT rfl rfl m<|oc (r25_Sum_fn (Sm b4) bH) fun _ _ _ cZ=>?_
           obtain ⟨_,_,_,rfl,b5⟩:=cZ.op3
           refine gT rfl rfl m<|oc (r25_SameChain_fn (Sm b3) (Sm b5) bI) fun _ _ _ c4=>?_
           cases c4
           refine oq (pkT rfl m rfl)<|oq (aB rfl)<|N0 ?_
           exact ⟨de,rfl,⟨rfl,rfl,rfl,rfl,trivial⟩,⟨rfl,trivial⟩,⟨hm,ii⟩,ii⟩
         · refine Rg<|oq (mS rfl)<|oc (r25_Point_fn au) fun _ _ _ T=>?_
           obtain ⟨_,rfl,_,_,_,rfl,L⟩:=T
           refine oq (q_bd [.int _ _,.int _ _,.slice _ _ _] rfl) ?_
           refine oq (q_bd [.int _ _,.int _ _,.slice _ _ _] rfl) ?_
           refine o_bs [.int _ _,.int _ _,.slice _ _ _,.int _ _,.int _ _,.slice _ _ _,.int _ _,.int _ _,.slice _ _ _] (by decide) rfl fun _=>LT TCellR 3 3 [az,(TCell.mk 3 1 ([]:List TFace)),(TCell.mk 5 2 ([]:List TFace))] (c3 ⟨_,_,_,rfl,Sm L⟩ (c3 ⟨_,_,_,rfl,(Sls.nil (R:=TFaceR) (sz:=3) _)⟩ (c3 ⟨_,_,_,rfl,(Sls.nil (R:=TFaceR) (sz:=3) _)⟩ c0))) fun _ C=>JL.fzO (R:=TCellR) (Om C) fun _ _ N=>oc (r25_Same_fn (Sm aN) (Sm N) av) fun _ _ _ U=>?_
           cases U
           refine oq (mB rfl)<|gT rfl rfl b<|oq (mS rfl)<|gT rfl rfl b<|o_bs [.int _ _,.int _ _] (by decide) rfl fun _=>LT (KR .i64) 1 2 [4,1] (c1 rfl (c1 rfl c0)) fun _ X=>JL.fzO (R:=(KR .i64)) (Om X) fun _ _ ad=>gT rfl rfl b<|oc (r25_Sum_fn (Sm ad) aA) fun _ _ _ ai=>?_
           obtain ⟨_,_,_,rfl,ae⟩:=ai.op3
           refine gT rfl rfl b<|oc (r31_Apply_fn (Sm aX) (Sm ae) aC) fun _ _ _ aj=>?_
           obtain ⟨_,_,_,rfl,af⟩:=aj.op3
           refine gT rfl rfl b<|o_bs [.int _ _,.int _ _] (by decide) rfl fun _=>LT (KR .i64) 1 2 [3,1] (c1 rfl (c1 rfl c0)) fun _ Y=>JL.fzO (R:=(KR .i64)) (Om Y) fun _ _ ag=>gT rfl rfl b<|oc (r25_Sum_fn (Sm ag) aD) fun _ _ _ ak=>?_
           obtain ⟨_,_,_,rfl,ah⟩:=ak.op3
           refine gT rfl rfl b<|oc (r25_SameChain_fn (Sm af) (Sm ah) aF) fun _ _ _ al=>?_
           cases al
           refine oq (pkT rfl b rfl)<|oq (mB rfl)<|gT rfl rfl n<|oq (mS rfl)<|gT rfl rfl n<|oc (r25_Point_fn aU) fun _ _ _ aK=>?_
           obtain ⟨_,rfl,_,_,_,rfl,aH⟩:=aK
           refine gT rfl rfl n<|o_bs [.int _ _,.int _ _,.slice _ _ _] (by decide) rfl fun _=>LT TCellR 3 1 [a0] (c3 ⟨_,_,_,rfl,Sm aH⟩ c0) fun _ ay=>JL.fzO (R:=TCellR) (Om ay) fun _ _ aJ=>gT rfl rfl n<|oc (r25_Same_fn (Sm bd) (Sm aJ) aV) fun _ _ _ aL=>?_
           cases aL
           refine oq (pkT rfl n rfl)<|oq (mB rfl)<|gF rfl rfl (nT m)<|gF rfl rfl (nT m)<|gF rfl rfl (nT m)<|gF rfl rfl (nT m)<|gF rfl rfl (nT m)<|gF rfl rfl (nT m)<|gF rfl rfl (nT m)<|oq (pkF rfl (nT m) rfl)<|oq (aB rfl)<|N0 ?_
           exact ⟨false,rfl,⟨rfl,rfl,rfl,rfl,trivial⟩,⟨rfl,trivial⟩,⟨hm,ii⟩,ii⟩
       · refine Rg<|oq (mS rfl)<|oc (r25_Point_fn au) fun _ _ _ T=>?_
         obtain ⟨_,rfl,_,_,_,rfl,L⟩:=T
         refine oq (q_bd [.int _ _,.int _ _,.slice _ _ _] rfl) ?_
         refine oq (q_bd [.int _ _,.int _ _,.slice _ _ _] rfl) ?_
         refine o_bs [.int _ _,.int _ _,.slice _ _ _,.int _ _,.int _ _,.slice _ _ _,.int _ _,.int _ _,.slice _ _ _] (by decide) rfl fun _=>LT TCellR 3 3 [az,(TCell.mk 3 1 ([]:List TFace)),(TCell.mk 5 2 ([]:List TFace))] (c3 ⟨_,_,_,rfl,Sm L⟩ (c3 ⟨_,_,_,rfl,(Sls.nil (R:=TFaceR) (sz:=3) _)⟩ (c3 ⟨_,_,_,rfl,(Sls.nil (R:=TFaceR) (sz:=3) _)⟩ c0))) fun _ C=>JL.fzO (R:=TCellR) (Om C) fun _ _ N=>oc (r25_Same_fn (Sm aN) (Sm N) av) fun _ _ _ U=>?_
         cases U
         refine oq (mB rfl)<|gT rfl rfl b<|oq (mS rfl)<|gT rfl rfl b<|o_bs [.int _ _,.int _ _] (by decide) rfl fun _=>LT (KR .i64) 1 2 [4,1] (c1 rfl (c1 rfl c0)) fun _ X=>JL.fzO (R:=(KR .i64)) (Om X) fun _ _ ad=>gT rfl rfl b<|oc (r25_Sum_fn (Sm ad) aA) fun _ _ _ ai=>?_
         obtain ⟨_,_,_,rfl,ae⟩:=ai.op3
         refine gT rfl rfl b<|oc (r31_Apply_fn (Sm aX) (Sm ae) aC) fun _ _ _ aj=>?_
         obtain ⟨_,_,_,rfl,af⟩:=aj.op3
         refine gT rfl rfl b<|o_bs [.int _ _,.int _ _] (by decide) rfl fun _=>LT (KR .i64) 1 2 [3,1] (c1 rfl (c1 rfl c0)) fun _ Y=>JL.fzO (R:=(KR .i64)) (Om Y) fun _ _ ag=>gT rfl rfl b<|oc (r25_Sum_fn (Sm ag) aD) fun _ _ _ ak=>?_
         obtain ⟨_,_,_,rfl,ah⟩:=ak.op3
         refine gT rfl rfl b<|oc (r25_SameChain_fn (Sm af) (Sm ah) aF) fun _ _ _ al=>?_
         cases al
         refine oq (pkT rfl b rfl)<|oq (mB rfl)<|gF rfl rfl (nT n)<|gF rfl rfl (nT n)<|gF rfl rfl (nT n)<|gF rfl rfl (nT n)<|oq (pkF rfl (nT n) rfl)<|oq (mB rfl)<|gF rfl rfl rfl<|gF rfl rfl rfl<|gF rfl rfl rfl<|gF rfl rfl rfl<|gF rfl rfl rfl<|gF rfl rfl rfl<|gF rfl rfl rfl<|oq (pkF rfl rfl rfl)<|oq (aB rfl)<|N0 ?_
         exact ⟨false,rfl,⟨rfl,rfl,rfl,rfl,trivial⟩,⟨rfl,trivial⟩,⟨hm,ii⟩,ii⟩
     · refine Rg<|oq (mS rfl)<|oc (r25_Point_fn au) fun _ _ _ T=>?_
       obtain ⟨_,rfl,_,_,_,rfl,L⟩:=T
       refine oq (q_bd [.int _ _,.int _ _,.slice _ _ _] rfl) ?_
       refine oq (q_bd [.int _ _,.int _ _,.slice _ _ _] rfl) ?_
       refine o_bs [.int _ _,.int _ _,.slice _ _ _,.int _ _,.int _ _,.slice _ _ _,.int _ _,.int _ _,.slice _ _ _] (by decide) rfl fun _=>LT TCellR 3 3 [az,(TCell.mk 3 1 ([]:List TFace)),(TCell.mk 5 2 ([]:List TFace))] (c3 ⟨_,_,_,rfl,Sm L⟩ (c3 ⟨_,_,_,rfl,(Sls.nil (R:=TFaceR) (sz:=3) _)⟩ (c3 ⟨_,_,_,rfl,(Sls.nil (R:=TFaceR) (sz:=3) _)⟩ c0))) fun _ C=>JL.fzO (R:=TCellR) (Om C) fun _ _ N=>oc (r25_Same_fn (Sm aN) (Sm N) av) fun _ _ _ U=>?_
       cases U
       refine oq (mB rfl)<|gF rfl rfl (nT b)<|gF rfl rfl (nT b)<|gF rfl rfl (nT b)<|gF rfl rfl (nT b)<|gF rfl rfl (nT b)<|gF rfl rfl (nT b)<|gF rfl rfl (nT b)<|oq (pkF rfl (nT b) rfl)<|oq (mB rfl)<|gF rfl rfl rfl<|gF rfl rfl rfl<|gF rfl rfl rfl<|gF rfl rfl rfl<|oq (pkF rfl rfl rfl)<|oq (mB rfl)<|gF rfl rfl rfl<|gF rfl rfl rfl<|gF rfl rfl rfl<|gF rfl rfl rfl<|gF rfl rfl rfl<|gF rfl rfl rfl<|gF rfl rfl rfl<|oq (pkF rfl rfl rfl)<|oq (aB rfl)<|N0 ?_
       exact ⟨false,rfl,⟨rfl,rfl,rfl,rfl,trivial⟩,⟨rfl,trivial⟩,⟨hm,ii⟩,ii⟩
   · rintro Z _ _ _ _ ⟨hm,aR⟩
     refine J.sp aR ?_
     unfold M.l31_sanity_j2 at hm
     refine Sq<|bE hm fun c8 bu hm=>bE hm fun c9 bv hm=>bE hm fun da bw hm=>bE hm fun db bx hm=>bE hm fun dc bz hm=>Rg<|oc (r25_Point_fn bu) fun _ _ _ cN=>?_
     obtain ⟨_,rfl,_,_,_,rfl,bU⟩:=cN
     refine oc (r25_Point_fn bv) fun _ _ _ cO=>?_
     obtain ⟨_,rfl,_,_,_,rfl,bV⟩:=cO
     refine oc (r25_Edge_fn bw) fun _ _ _ cP=>?_
     obtain ⟨_,rfl,_,_,_,rfl,bW⟩:=cP
     refine oc (r25_Point_fn bx) fun _ _ _ cQ=>?_
     obtain ⟨_,rfl,_,_,_,rfl,bX⟩:=cQ
     refine oc (r25_Edge_fn bz) fun _ _ _ cR=>?_
     obtain ⟨_,rfl,_,_,_,rfl,bY⟩:=cR
     refine o_bs [.int _ _,.int _ _,.slice _ _ _,.int _ _,.int _ _,.slice _ _ _,.int _ _,.int _ _,.slice _ _ _,.int _ _,.int _ _,.slice _ _ _,.int _ _,.int _ _,.slice _ _ _] (by decide) rfl fun _=>LT TCellR 3 5 [c8,c9,da,db,dc] (c3 ⟨_,_,_,rfl,Sm bU⟩ (c3 ⟨_,_,_,rfl,Sm bV⟩ (c3 ⟨_,_,_,rfl,Sm bW⟩ (c3 ⟨_,_,_,rfl,Sm bX⟩ (c3 ⟨_,_,_,rfl,Sm bY⟩ c0))))) fun _ a8=>oq (aS rfl)<|N0<|Sq ?_
     refine J.joinK (α:=Bool) (fun am h' L'=>(M.l31_sanity_j1 V Z) am=some r∧Sp ([]) L') [(33,.bool _),(34,.bool _)] ⟨rfl,rfl,trivial⟩ (fun am=>[(36,.bool am)]) ?_ ?_
     · refine J.fzO (R:=TCellR) (Om a8) fun _ _ ac=>bE hm fun _ aa hm=>iC hm (fun a hm=>?_) fun a hm=>?_
       · refine bE hm fun _ ao hm=>bE hm fun _ ap hm=>bE hm fun _ aq hm=>bE hm fun _ ar hm=>iC hm (fun l hm=>?_) fun l hm=>?_
         · refine iC hm (fun g hm=>?_) fun g hm=>?_
           · refine nE hm fun _ _ aP ax bb hm=>?_
             obtain ⟨_,_,rfl⟩:=Sls.op z ax
             refine aE z bb fun _ aO a1=>?_
             cases a1
             refine iC hm (fun s hm=>?_) fun s hm=>?_
             · refine nE hm fun _ aY a4 a5 bc hm=>aE z bc fun _ a3 a2=>?_
               cases a2
               refine Rg<|oq (mS rfl)<|oq (mS rfl)<|oc (r25_Same_fn (Sm ab) (Sm ac) aa) fun _ _ _ D=>?_
               cases D
               refine oq (mB rfl)<|gT rfl rfl a<|oq (mS rfl)<|gT rfl rfl a<|o_bs [.int _ _,.int _ _] (by decide) rfl fun _=>LT (KR .i64) 1 2 [3,1] (c1 rfl (c1 rfl c0)) fun _ A=>JL.fzO (R:=(KR .i64)) (Om A) fun _ _ F=>gT rfl rfl a<|oc (r25_Sum_fn (Sm F) ao) fun _ _ _ O=>?_
               obtain ⟨_,_,_,rfl,G⟩:=O.op3
               refine gT rfl rfl a<|oc (r31_Apply_fn (Sm aw) (Sm G) ap) fun _ _ _ P=>?_
               obtain ⟨_,_,_,rfl,H⟩:=P.op3
               refine gT rfl rfl a<|o_bs [.int _ _,.int _ _,.int _ _,.int _ _] (by decide) rfl fun _=>LT (KR .i64) 1 4 [3,1,8,1] (c1 rfl (c1 rfl (c1 rfl (c1 rfl c0)))) fun _ B=>JL.fzO (R:=(KR .i64)) (Om B) fun _ _ I=>gT rfl rfl a<|oc (r25_Sum_fn (Sm I) aq) fun _ _ _ Q=>?_
               obtain ⟨_,_,_,rfl,K⟩:=Q.op3
               refine gT rfl rfl a<|oc (r25_SameChain_fn (Sm H) (Sm K) ar) fun _ _ _ S=>?_
               cases S
               refine oq (pkT rfl a rfl)<|oq (mB rfl)<|gT rfl rfl l<|oq (mS rfl)<|gT rfl rfl l<|oq (q_lenE (k:=an.length) rfl (Sls.len z))<|gT rfl rfl l<|oq (q_eql rfl rfl)<|oq (pkT rfl l rfl)<|oq (mB rfl)<|gT rfl rfl (dT g)<|oq (mS rfl)<|gT rfl rfl (dT g)<|oq (q_ian rfl rfl aP (ln z ax))<|gT rfl rfl (dT g)<|oq (q_ldfa rfl aO)<|gT rfl rfl (dT g)<|oq (q_bda [.int _ _,.int _ _] rfl)<|gT rfl rfl (dT g)<|oq (q_eqA2 rfl rfl)<|oq (pkT rfl (dT g) rfl)<|oq (mB rfl)<|gT rfl rfl s<|oq (mS rfl)<|gT rfl rfl s<|oq (q_ian rfl rfl a4 (ln z a5))<|gT rfl rfl s<|oq (q_ldfa rfl a3)<|gT rfl rfl s<|oq (q_bda [.int _ _,.int _ _] rfl)<|gT rfl rfl s<|oq (q_eqA2 rfl rfl)<|oq (pkT rfl s rfl)<|oq (aB rfl)<|N0 ?_
               exact ⟨(aY.1 == 3 && aY.2 == 2),rfl,⟨rfl,rfl,trivial⟩,⟨rfl,trivial⟩,⟨hm,ii⟩,ii⟩
             · refine Rg<|oq (mS rfl)<|oq (mS rfl)<|oc (r25_Same_fn (Sm ab) (Sm ac) aa) fun _ _ _ D=>?_
               cases D
               refine oq (mB rfl)<|gT rfl rfl a<|oq (mS rfl)<|gT rfl rfl a<|o_bs [.int _ _,.int _ _] (by decide) rfl fun _=>LT (KR .i64) 1 2 [3,1] (c1 rfl (c1 rfl c0)) fun _ A=>JL.fzO (R:=(KR .i64)) (Om A) fun _ _ F=>gT rfl rfl a<|oc (r25_Sum_fn (Sm F) ao) fun _ _ _ O=>?_
               obtain ⟨_,_,_,rfl,G⟩:=O.op3
               refine gT rfl rfl a<|oc (r31_Apply_fn (Sm aw) (Sm G) ap) fun _ _ _ P=>?_
               obtain ⟨_,_,_,rfl,H⟩:=P.op3
               refine gT rfl rfl a<|o_bs [.int _ _,.int _ _,.int _ _,.int _ _] (by decide) rfl fun _=>LT (KR .i64) 1 4 [3,1,8,1] (c1 rfl (c1 rfl (c1 rfl (c1 rfl c0)))) fun _ B=>JL.fzO (R:=(KR .i64)) (Om B) fun _ _ I=>gT rfl rfl a<|oc (r25_Sum_fn (Sm I) aq) fun _ _ _ Q=>?_
               obtain ⟨_,_,_,rfl,K⟩:=Q.op3
               refine gT rfl rfl a<|oc (r25_SameChain_fn (Sm H) (Sm K) ar) fun _ _ _ S=>?_
               cases S
               refine oq (pkT rfl a rfl)<|oq (mB rfl)<|gT rfl rfl l<|oq (mS rfl)<|gT rfl rfl l<|oq (q_lenE (k:=an.length) rfl (Sls.len z))<|gT rfl rfl l<|oq (q_eql rfl rfl)<|oq (pkT rfl l rfl)<|oq (mB rfl)<|gT rfl rfl (dT g)<|oq (mS rfl)<|gT rfl rfl (dT g)<|oq (q_ian rfl rfl aP (ln z ax))<|gT rfl rfl (dT g)<|oq (q_ldfa rfl aO)<|gT rfl rfl (dT g)<|oq (q_bda [.int _ _,.int _ _] rfl)<|gT rfl rfl (dT g)<|oq (q_eqA2 rfl rfl)<|oq (pkT rfl (dT g) rfl)<|oq (mB rfl)<|gF rfl rfl (nT s)<|gF rfl rfl (nT s)<|gF rfl rfl (nT s)<|gF rfl rfl (nT s)<|gF rfl rfl (nT s)<|oq (pkF rfl (nT s) rfl)<|oq (aB rfl)<|N0 ?_
               exact ⟨false,rfl,⟨rfl,rfl,trivial⟩,⟨rfl,trivial⟩,⟨hm,ii⟩,ii⟩
           · refine Rg<|oq (mS rfl)<|oq (mS rfl)<|oc (r25_Same_fn (Sm ab) (Sm ac) aa) fun _ _ _ D=>?_
             cases D
             refine oq (mB rfl)<|gT rfl rfl a<|oq (mS rfl)<|gT rfl rfl a<|o_bs [.int _ _,.int _ _] (by decide) rfl fun _=>LT (KR .i64) 1 2 [3,1] (c1 rfl (c1 rfl c0)) fun _ A=>JL.fzO (R:=(KR .i64)) (Om A) fun _ _ F=>gT rfl rfl a<|oc (r25_Sum_fn (Sm F) ao) fun _ _ _ O=>?_
             obtain ⟨_,_,_,rfl,G⟩:=O.op3
             refine gT rfl rfl a<|oc (r31_Apply_fn (Sm aw) (Sm G) ap) fun _ _ _ P=>?_
             obtain ⟨_,_,_,rfl,H⟩:=P.op3
             refine gT rfl rfl a<|o_bs [.int _ _,.int _ _,.int _ _,.int _ _] (by decide) rfl fun _=>LT (KR .i64) 1 4 [3,1,8,1] (c1 rfl (c1 rfl (c1 rfl (c1 rfl c0)))) fun _ B=>JL.fzO (R:=(KR .i64)) (Om B) fun _ _ I=>gT rfl rfl a<|oc (r25_Sum_fn (Sm I) aq) fun _ _ _ Q=>?_
             obtain ⟨_,_,_,rfl,K⟩:=Q.op3
             refine gT rfl rfl a<|oc (r25_SameChain_fn (Sm H) (Sm K) ar) fun _ _ _ S=>?_
             cases S
             refine oq (pkT rfl a rfl)<|oq (mB rfl)<|gT rfl rfl l<|oq (mS rfl)<|gT rfl rfl l<|oq (q_lenE (k:=an.length) rfl (Sls.len z))<|gT rfl rfl l<|oq (q_eql rfl rfl)<|oq (pkT rfl l rfl)<|oq (mB rfl)<|gF rfl rfl (dF g)<|gF rfl rfl (dF g)<|gF rfl rfl (dF g)<|gF rfl rfl (dF g)<|gF rfl rfl (dF g)<|oq (pkF rfl (dF g) rfl)<|oq (mB rfl)<|gF rfl rfl rfl<|gF rfl rfl rfl<|gF rfl rfl rfl<|gF rfl rfl rfl<|gF rfl rfl rfl<|oq (pkF rfl rfl rfl)<|oq (aB rfl)<|N0 ?_
             exact ⟨false,rfl,⟨rfl,rfl,trivial⟩,⟨rfl,trivial⟩,⟨hm,ii⟩,ii⟩
         · refine Rg<|oq (mS rfl)<|oq (mS rfl)<|oc (r25_Same_fn (Sm ab) (Sm ac) aa) fun _ _ _ D=>?_
           cases D
           refine oq (mB rfl)<|gT rfl rfl a<|oq (mS rfl)<|gT rfl rfl a<|o_bs [.int _ _,.int _ _] (by decide) rfl fun _=>LT (KR .i64) 1 2 [3,1] (c1 rfl (c1 rfl c0)) fun _ A=>JL.fzO (R:=(KR .i64)) (Om A) fun _ _ F=>gT rfl rfl a<|oc (r25_Sum_fn (Sm F) ao) fun _ _ _ O=>?_
           obtain ⟨_,_,_,rfl,G⟩:=O.op3
           refine gT rfl rfl a<|oc (r31_Apply_fn (Sm aw) (Sm G) ap) fun _ _ _ P=>?_
           obtain ⟨_,_,_,rfl,H⟩:=P.op3
           refine gT rfl rfl a<|o_bs [.int _ _,.int _ _,.int _ _,.int _ _] (by decide) rfl fun _=>LT (KR .i64) 1 4 [3,1,8,1] (c1 rfl (c1 rfl (c1 rfl (c1 rfl c0)))) fun _ B=>JL.fzO (R:=(KR .i64)) (Om B) fun _ _ I=>gT rfl rfl a<|oc (r25_Sum_fn (Sm I) aq) fun _ _ _ Q=>?_
           obtain ⟨_,_,_,rfl,K⟩:=Q.op3
           refine gT rfl rfl a<|oc (r25_SameChain_fn (Sm H) (Sm K) ar) fun _ _ _ S=>?_
           cases S
           refine oq (pkT rfl a rfl)<|oq (mB rfl)<|gF rfl rfl (nT l)<|gF rfl rfl (nT l)<|gF rfl rfl (nT l)<|oq (pkF rfl (nT l) rfl)<|oq (mB rfl)<|gF rfl rfl rfl<|gF rfl rfl rfl<|gF rfl rfl rfl<|gF rfl rfl rfl<|gF rfl rfl rfl<|oq (pkF rfl rfl rfl)<|oq (mB rfl)<|gF rfl rfl rfl<|gF rfl rfl rfl<|gF rfl rfl rfl<|gF rfl rfl rfl<|gF rfl rfl rfl<|oq (pkF rfl rfl rfl)<|oq (aB rfl)<|N0 ?_
           exact ⟨false,rfl,⟨rfl,rfl,trivial⟩,⟨rfl,trivial⟩,⟨hm,ii⟩,ii⟩
       · refine Rg<|oq (mS rfl)<|oq (mS rfl)<|oc (r25_Same_fn (Sm ab) (Sm ac) aa) fun _ _ _ D=>?_
         cases D
         refine oq (mB rfl)<|gF rfl rfl (nT a)<|gF rfl rfl (nT a)<|gF rfl rfl (nT a)<|gF rfl rfl (nT a)<|gF rfl rfl (nT a)<|gF rfl rfl (nT a)<|gF rfl rfl (nT a)<|oq (pkF rfl (nT a) rfl)<|oq (mB rfl)<|gF rfl rfl rfl<|gF rfl rfl rfl<|gF rfl rfl rfl<|oq (pkF rfl rfl rfl)<|oq (mB rfl)<|gF rfl rfl rfl<|gF rfl rfl rfl<|gF rfl rfl rfl<|gF rfl rfl rfl<|gF rfl rfl rfl<|oq (pkF rfl rfl rfl)<|oq (mB rfl)<|gF rfl rfl rfl<|gF rfl rfl rfl<|gF rfl rfl rfl<|gF rfl rfl rfl<|gF rfl rfl rfl<|oq (pkF rfl rfl rfl)<|oq (aB rfl)<|N0 ?_
         exact ⟨false,rfl,⟨rfl,rfl,trivial⟩,⟨rfl,trivial⟩,⟨hm,ii⟩,ii⟩
     · rintro am _ _ _ _ ⟨hm,aT⟩
       refine J.sp aT ?_
       unfold M.l31_sanity_j1 at hm
       refine Sq<|bE hm fun _ bA hm=>bE hm fun W bB hm=>Rg<|oc (l31_segment_fn bA) fun _ _ _ cS=>?_
       obtain ⟨_,_,_,rfl,bZ⟩:=cS.op3
       refine oc (merge_Shrink_fn (Sm bZ) bB) fun _ _ _ cT=>?_
       obtain ⟨_,_,rfl,cU,cV⟩:=cT
       obtain ⟨_,_,_,rfl,aG⟩:=cU.op3
       obtain ⟨_,_,_,rfl,aW⟩:=cV.op3
       refine oq q_mv<|oq (q_ex rfl rfl)<|oq (q_ex rfl rfl)<|oq (aS rfl)<|oq (aS rfl)<|N0<|Sq ?_
       by_cases p:V=true
       focus
        replace hm:=ite_T p hm
        by_cases u:Z=true
        focus
         replace hm:=ite_T u hm
         by_cases j:am=true
         focus
          replace hm:=ite_T j hm
          by_cases q:(W.1.length:Int)=1
          focus
           replace hm:=ite_T q hm
           by_cases x:(W.2.length:Int)=3
           focus
            replace hm:=ite_T x hm
            refine bE hm fun dd bC hm=>Rg<|oq (mB rfl)<|oq (mB rfl)<|gT rfl rfl p<|oq (mB rfl)<|oq (pkT rfl p rfl)<|oq (mB rfl)<|gT rfl rfl u<|oq (mB rfl)<|oq (pkT rfl u rfl)<|oq (mB rfl)<|gT rfl rfl j<|oq (mS rfl)<|gT rfl rfl j<|oq (q_lenE (k:=W.1.length) rfl (Sls.len aG))<|gT rfl rfl j<|oq (q_eql rfl rfl)<|oq (pkT rfl j rfl)<|oq (mB rfl)<|gT rfl rfl (dT q)<|oq (mS rfl)<|gT rfl rfl (dT q)<|oq (q_lenE (k:=W.2.length) rfl (Sls.len aW))<|gT rfl rfl (dT q)<|oq (q_eql rfl rfl)<|oq (pkT rfl (dT q) rfl)<|oq (mB rfl)<|gT rfl rfl (dT x)<|oc (merge_Free_fn ((Sls.nil (R:=TCellR) (sz:=3) _)) bC) fun _ _ _ cW=>?_
            obtain ⟨_,_,_,rfl,b0⟩:=cW.op3
            refine gT rfl rfl (dT x)<|oq (q_lenE (k:=dd.length) rfl (Sls.len b0))<|gT rfl rfl (dT x)<|oq (q_eql rfl rfl)<|oq (pkT rfl (dT x) rfl) ?_
           rotate_left
           focus
            replace hm:=ite_F x hm
            refine Rg<|oq (mB rfl)<|oq (mB rfl)<|gT rfl rfl p<|oq (mB rfl)<|oq (pkT rfl p rfl)<|oq (mB rfl)<|gT rfl rfl u<|oq (mB rfl)<|oq (pkT rfl u rfl)<|oq (mB rfl)<|gT rfl rfl j<|oq (mS rfl)<|gT rfl rfl j<|oq (q_lenE (k:=W.1.length) rfl (Sls.len aG))<|gT rfl rfl j<|oq (q_eql rfl rfl)<|oq (pkT rfl j rfl)<|oq (mB rfl)<|gT rfl rfl (dT q)<|oq (mS rfl)<|gT rfl rfl (dT q)<|oq (q_lenE (k:=W.2.length) rfl (Sls.len aW))<|gT rfl rfl (dT q)<|oq (q_eql rfl rfl)<|oq (pkT rfl (dT q) rfl)<|oq (mB rfl)<|gF rfl rfl (dF x)<|gF rfl rfl (dF x)<|gF rfl rfl (dF x)<|oq (pkF rfl (dF x) rfl) ?_
           rotate_left
          rotate_left 2
          focus
           replace hm:=ite_F q hm
           refine Rg<|oq (mB rfl)<|oq (mB rfl)<|gT rfl rfl p<|oq (mB rfl)<|oq (pkT rfl p rfl)<|oq (mB rfl)<|gT rfl rfl u<|oq (mB rfl)<|oq (pkT rfl u rfl)<|oq (mB rfl)<|gT rfl rfl j<|oq (mS rfl)<|gT rfl rfl j<|oq (q_lenE (k:=W.1.length) rfl (Sls.len aG))<|gT rfl rfl j<|oq (q_eql rfl rfl)<|oq (pkT rfl j rfl)<|oq (mB rfl)<|gF rfl rfl (dF q)<|gF rfl rfl (dF q)<|gF rfl rfl (dF q)<|oq (pkF rfl (dF q) rfl)<|oq (mB rfl)<|gF rfl rfl rfl<|gF rfl rfl rfl<|gF rfl rfl rfl<|oq (pkF rfl rfl rfl) ?_
          rotate_left
         rotate_left 3
         focus
          replace hm:=ite_F j hm
          refine Rg<|oq (mB rfl)<|oq (mB rfl)<|gT rfl rfl p<|oq (mB rfl)<|oq (pkT rfl p rfl)<|oq (mB rfl)<|gT rfl rfl u<|oq (mB rfl)<|oq (pkT rfl u rfl)<|oq (mB rfl)<|gF rfl rfl (nT j)<|gF rfl rfl (nT j)<|gF rfl rfl (nT j)<|oq (pkF rfl (nT j) rfl)<|oq (mB rfl)<|gF rfl rfl rfl<|gF rfl rfl rfl<|gF rfl rfl rfl<|oq (pkF rfl rfl rfl)<|oq (mB rfl)<|gF rfl rfl rfl<|gF rfl rfl rfl<|gF rfl rfl rfl<|oq (pkF rfl rfl rfl) ?_
         rotate_left
        rotate_left 4
        focus
         replace hm:=ite_F u hm
         refine Rg<|oq (mB rfl)<|oq (mB rfl)<|gT rfl rfl p<|oq (mB rfl)<|oq (pkT rfl p rfl)<|oq (mB rfl)<|gF rfl rfl (nT u)<|oq (pkF rfl (nT u) rfl)<|oq (mB rfl)<|gF rfl rfl rfl<|gF rfl rfl rfl<|gF rfl rfl rfl<|oq (pkF rfl rfl rfl)<|oq (mB rfl)<|gF rfl rfl rfl<|gF rfl rfl rfl<|gF rfl rfl rfl<|oq (pkF rfl rfl rfl)<|oq (mB rfl)<|gF rfl rfl rfl<|gF rfl rfl rfl<|gF rfl rfl rfl<|oq (pkF rfl rfl rfl) ?_
        rotate_left
       rotate_left 5
       focus
        replace hm:=ite_F p hm
        refine Rg<|oq (mB rfl)<|oq (mB rfl)<|gF rfl rfl (nT p)<|oq (pkF rfl (nT p) rfl)<|oq (mB rfl)<|gF rfl rfl rfl<|oq (pkF rfl rfl rfl)<|oq (mB rfl)<|gF rfl rfl rfl<|gF rfl rfl rfl<|gF rfl rfl rfl<|oq (pkF rfl rfl rfl)<|oq (mB rfl)<|gF rfl rfl rfl<|gF rfl rfl rfl<|gF rfl rfl rfl<|oq (pkF rfl rfl rfl)<|oq (mB rfl)<|gF rfl rfl rfl<|gF rfl rfl rfl<|gF rfl rfl rfl<|oq (pkF rfl rfl rfl) ?_
       rotate_left
       all_goals
        refine oq (aB rfl)<|N0<|Jr ?_
        cases hm
        exact ret_ok (fn:=Tryz.f15) rfl (.tmp rfl .nil) rfl
theorem r31_Coefficient_fn {h:Heap} {x0:List TFace} {x1:Int} {v0:Value} (r0:Sls TFaceR 3 h v0 x0) {r:Int} (hm:M.r31_Coefficient x0 x1=some r) :
    Fn Tryz.prog 137 #[v0,.int .i64 x1] h fun v h'=>IntAt h' v r:=by
 obtain ⟨_,_,_,rfl,c⟩:=r0.op3
 refine Fn.intro (args:=[_,_]) Tryz.func137 rfl rfl (lB rfl) fun w=>?_
 unfold M.r31_Coefficient at hm
 refine SR<|o_al fun n=>N0<|Sq<|SR<|oq (aI rfl)<|N0<|Jb ?_
 obtain ⟨_,hm⟩:=rngL_some hm
 refine J.loopK (α:=Nat) (fun a h' L'=>forL (M.r31_Coefficient_b1 x1) M.r31_Coefficient_k1 (List.drop a x0) a ()=some r∧Sp ([(n,row 75 [.bool false,.slice none 0 0])]) L') [(0,.slice _ _ _),(1,.int _ _),(4,.pointer _)] ⟨rfl,rfl,rfl,trivial⟩ (fun a=>[(5,.int .i64 (a:Int))]) (fun a=>x0.length-a) 0 ⟨hm,ii⟩ ⟨rfl,trivial⟩ ?_
 rintro a _ _ _ _ ⟨hm,i⟩
 refine J.sp i<|Sq<|SR<|oq (mI rfl)<|oq (mS rfl)<|oq (q_lenE (k:=x0.length) rfl (Sls.len c))<|oq (q_lss rfl rfl)<|N0 ?_
 by_cases d:(a:Int)<(x0.length:Int)
 · obtain ⟨_,_,b,m,hm,g⟩:=forL_cons d hm
   unfold M.r31_Coefficient_b1 at hm
   refine jT rfl (dT d) ?_
   have p:-9223372036854775808≤(a:Int)+1∧(a:Int)+1≤9223372036854775807:=by omega
   refine Js<|Sq<|Jb<|Sq ?_
   obtain ⟨_,_,rfl⟩:=Sls.op c b
   refine aE c m fun _ f l=>?_
   obtain ⟨_,_,_,_,rfl,o⟩:=l
   refine Rg<|oq (mS rfl)<|oq (mI rfl)<|oq (q_ian rfl rfl rfl (ln c b))<|oq (q_fa rfl)<|oq (q_ldf rfl (f.cell (j:=0) rfl))<|oq (mI rfl)<|oq (q_eql rfl rfl)<|N0<|iC hm (fun e hm=>?_) fun e hm=>?_
   · refine jT rfl (dT e)<|SR<|oq (mS rfl)<|oq (mI rfl)<|oq (q_ian rfl rfl rfl (ln c b))<|oq (q_fa rfl)<|oq (q_ldfs (vs:=[_,_]) rfl f rfl)<|Sc [.bool _,.slice _ _ _] [.bool _,.slice _ _ _] rfl rfl rfl rfl rfl ia rfl rfl<|N0<|have hm:=inr_onward hm g; Jr ?_
     cases hm
     exact ret_ok (fn:=Tryz.f137) rfl (.agg rfl ii ii .nil) (iu o)
   · refine jF rfl (dF e)<|Js<|Rg<|oq (mI rfl)<|oq (q_add rfl rfl (wi64 p))<|oq (aI rfl)<|N0<|have hm:=inl_onward hm g; ?_
     exact ⟨(a+1),rfl,⟨rfl,rfl,rfl,trivial⟩,⟨rfl,trivial⟩,⟨hm,ii⟩,(muL b),ii⟩
 · replace hm:=forL_nil d hm
   unfold M.r31_Coefficient_k1 at hm
   refine jF rfl (dF d)<|Jx<|SR<|oq (q_bd [.bool _,.slice _ _ _] rfl)<|Sc [.bool _,.slice _ _ _] [.bool _,.slice _ _ _] rfl rfl rfl rfl rfl ia rfl rfl<|N0<|Jr ?_
   cases hm
   exact ret_ok (fn:=Tryz.f137) rfl (.agg rfl ii ii .nil) (IntR.at (IntR.zero0 _))
theorem r31_Commutes_fn {h:Heap} {x0:List TCell} {x1:List TCell} {x2:List TImage} {v0:Value} {v1:Value} {v2:Value} (r0:Sls TCellR 3 h v0 x0) (r1:Sls TCellR 3 h v1 x1) (r2:Sls TImageR 2 h v2 x2) {r:Bool} (hm:M.r31_Commutes x0 x1 x2=some r) :
    Fn Tryz.prog 22 #[v0,v1,v2] h fun v h'=>v=.bool r:=by
 obtain ⟨bs,bq,bn,rfl,aT⟩:=r0.op3
 obtain ⟨_,_,_,rfl,aU⟩:=r1.op3
 obtain ⟨bt,br,bo,rfl,aV⟩:=r2.op3
 refine Fn.intro (args:=[_,_,_]) Tryz.func22 rfl rfl (lB rfl) fun w=>?_
 unfold M.r31_Commutes at hm
 refine SR<|oq (aB rfl)<|N0<|Sq<|SR<|oq (mS rfl)<|oq (q_lenE (k:=x2.length) rfl (Sls.len aV))<|oq (mS rfl)<|oq (q_lenE (k:=x0.length) rfl (Sls.len aT))<|oq (q_neq rfl rfl)<|N0<|iC hm (fun am hm=>?_) fun am hm=>?_
 · refine jF rfl (dF (fun z=>z am))<|Js<|Sq<|SR<|oq (aI rfl)<|N0<|Jb ?_
   replace hm:=(show iter _ fuel _=some _ from hm)
   refine J.loopK (α:=Nat×(List TCell)×(List TImage)×Int×(Option Addr)×Nat×Nat×(Option Addr)×Nat×Nat) (fun ⟨L,d,i,l,P,t,o,Q,u,p⟩ h' L'=>Sls TCellR 3 h' (.slice P t o) d∧Sls TImageR 2 h' (.slice Q u p) i∧iter (M.r31_Commutes_b4 x1) L (d,i,l)=some r∧Sp ([]) L') [(1,.slice _ _ _)] ⟨rfl,trivial⟩ (fun ⟨L,d,i,l,P,t,o,Q,u,p⟩=>[(0,.slice P t o),(2,.slice Q u p),(7,.int .i64 l)]) (fun ⟨L,d,i,l,P,t,o,Q,u,p⟩=>L) ⟨fuel,x0,x2,0,bs,bq,bn,bt,br,bo⟩ ⟨(Sm aT),(Sm aV),hm,ii⟩ ⟨rfl,rfl,rfl,trivial⟩ ?_
   rintro ⟨L,d,i,l,P,t,o,Q,u,p⟩ _ _ _ _ ⟨e,f,hm,ao⟩
   refine J.sp ao ?_
   obtain ⟨bp,aW,rfl,hm,q⟩:=iter_some hm
   unfold M.r31_Commutes_b4 at hm
   refine Sq<|SR<|oq (mI rfl)<|oq (mS rfl)<|oq (q_lenE (k:=d.length) rfl (Sls.len e))<|oq (q_lss rfl rfl)<|N0<|iC hm (fun an hm=>?_) fun an hm=>?_
   · refine jT rfl (dT an)<|Js<|Sq<|Jb<|Sq<|Sq ?_
     refine J.joinK (α:=(List TCell)×(List TImage)×Bool×(Option Addr)×Nat×Nat×(Option Addr)×Nat×Nat) (fun ⟨x,y,ah,R,N,H,ag,O,I⟩ h' L'=>Sls TCellR 3 h' (.slice R N H) x∧Sls TImageR 2 h' (.slice ag O I) y∧(M.r31_Commutes_j2 x1 l) x y ah=some aW∧Sp ([]) L') [(1,.slice _ _ _),(7,.int _ _)] ⟨rfl,rfl,trivial⟩ (fun ⟨x,y,ah,R,N,H,ag,O,I⟩=>[(0,.slice R N H),(2,.slice ag O I),(42,.bool ah)]) ?_ ?_
     · refine nE hm fun _ _ D n aO hm=>?_
       obtain ⟨ak,aq,rfl⟩:=Sls.op f n
       refine aE f aO fun _ C ax=>?_
       obtain ⟨_,_,_,rfl,a4⟩:=ax
       refine nE hm fun _ _ ab F aP hm=>?_
       obtain ⟨al,ar,rfl⟩:=Sls.op e F
       refine aE e aP fun _ Z ay=>?_
       obtain ⟨_,_,_,rfl,_⟩:=ay
       refine iC hm (fun b hm=>?_) fun b hm=>?_
       · refine bE hm fun bm a0 hm=>J.drawB [] []<|Dc 0 rfl (mS rfl)<|Dc 1 rfl (mI rfl)<|Dc 2 rfl (q_ian rfl rfl D (ln f n))<|Dc 3 rfl (q_fa rfl)<|Dl 4 rfl (q_ldf rfl (C.cell (j:=0) rfl))<|Dc 5 rfl (mS rfl)<|Dc 6 rfl (mI rfl)<|Dc 7 rfl (q_ian rfl rfl ab (ln e F))<|Dc 8 rfl (q_fa rfl)<|Dl 9 rfl (q_ldf rfl (Z.cell (j:=0) rfl))<|Dc 10 rfl (q_neq rfl rfl)<|Dc 11 rfl (mB rfl)<|Dg 12 rfl rfl rfl (dF (fun z=>z b)) (mS rfl)<|Dg 13 rfl rfl rfl (dF (fun z=>z b)) (mI rfl)<|Dg 14 rfl rfl rfl (dF (fun z=>z b)) (q_ian rfl rfl D (ln f n))<|Dg 15 rfl rfl rfl (dF (fun z=>z b)) (q_fa rfl)<|Dm 16 rfl rfl rfl (dF (fun z=>z b)) (q_ldf rfl (C.cell (j:=1) rfl))<|Do 17<|Xg rfl rfl rfl rfl (dF (fun z=>z b))<|oc (r25_ValidChain_fn (Sm a4) a0) fun _ _ _ bh=>?_
         cases bh
         refine NE<|Dg 18 rfl rfl rfl (dF (fun z=>z b)) (q_not rfl)<|Dc 19 rfl (pkF rfl (dF (fun z=>z b)) rfl)<|Dd ?_
         exact ⟨⟨d,i,!bm,(some ⟨al,ar,none⟩),t,o,(some ⟨ak,aq,none⟩),u,p⟩,rfl,⟨rfl,rfl,trivial⟩,⟨rfl,rfl,rfl,trivial⟩,⟨(Sm e),(Sm f),hm,ii⟩,ii⟩
       · refine J.drawB [] []<|Dc 0 rfl (mS rfl)<|Dc 1 rfl (mI rfl)<|Dc 2 rfl (q_ian rfl rfl D (ln f n))<|Dc 3 rfl (q_fa rfl)<|Dl 4 rfl (q_ldf rfl (C.cell (j:=0) rfl))<|Dc 5 rfl (mS rfl)<|Dc 6 rfl (mI rfl)<|Dc 7 rfl (q_ian rfl rfl ab (ln e F))<|Dc 8 rfl (q_fa rfl)<|Dl 9 rfl (q_ldf rfl (Z.cell (j:=0) rfl))<|Dc 10 rfl (q_neq rfl rfl)<|Dc 11 rfl (mB rfl)<|Dp 12 rfl rfl rfl (dT b)<|Dp 13 rfl rfl rfl (dT b)<|Dp 14 rfl rfl rfl (dT b)<|Dp 15 rfl rfl rfl (dT b)<|Dp 16 rfl rfl rfl (dT b)<|Dp 17 rfl rfl rfl (dT b)<|Dp 18 rfl rfl rfl (dT b)<|Dc 19 rfl (pkT rfl (dT b) rfl)<|Dd ?_
         exact ⟨⟨d,i,true,(some ⟨al,ar,none⟩),t,o,(some ⟨ak,aq,none⟩),u,p⟩,rfl,⟨rfl,rfl,trivial⟩,⟨rfl,rfl,rfl,trivial⟩,⟨(Sm e),(Sm f),hm,ii⟩,ii⟩
     · rintro ⟨x,y,ah,R,N,H,ag,O,I⟩ _ _ _ _ ⟨W,K,hm,ap⟩
       refine J.sp ap ?_
       unfold M.r31_Commutes_j2 at hm
       refine iC hm (fun S hm=>?_) fun S hm=>?_
       · refine jT rfl S<|SR<|oq (aB rfl)<|N0<|have hm:=inr_onward hm q; Jr ?_
         cases hm
         exact ret_ok (fn:=Tryz.f22) rfl (.tmp rfl .nil) rfl
       · refine jF rfl (nT S)<|Js<|SR<|oq (aI rfl)<|N0<|Jb ?_
         replace hm:=(show iter _ fuel _=some _ from hm)
         refine J.loopK (α:=Nat×Int) (fun ⟨s,g⟩ h' L'=>iter (M.r31_Commutes_b1 x1 l x y) s g=some aW∧Sp ([]) L') [(0,.slice _ _ _),(1,.slice _ _ _),(2,.slice _ _ _),(7,.int _ _)] ⟨rfl,rfl,rfl,rfl,trivial⟩ (fun ⟨s,g⟩=>[(8,.int .i64 g)]) (fun ⟨s,g⟩=>s) ⟨fuel,0⟩ ⟨hm,ii⟩ ⟨rfl,trivial⟩ ?_
         rintro ⟨s,g⟩ _ _ _ _ ⟨hm,ai⟩
         refine J.sp ai ?_
         obtain ⟨bc,_,rfl,hm,m⟩:=iter_some hm
         unfold M.r31_Commutes_b1 at hm
         refine Sq<|Sq<|nE hm fun _ bl aa E aL hm=>?_
         obtain ⟨aX,bd,rfl⟩:=Sls.op K E
         refine aE K aL fun _ Y au=>?_
         obtain ⟨_,_,_,rfl,B⟩:=au
         refine Rg<|oq (mI rfl)<|oq (mS rfl)<|oq (mI rfl)<|oq (q_ian rfl rfl aa (ln K E))<|oq (q_fa rfl)<|oq (q_ldf rfl (Y.cell (j:=1) rfl))<|oq (q_lenE (k:=bl.X.length) rfl (Sls.len B))<|oq (q_lss rfl rfl)<|N0<|iC hm (fun T hm=>?_) fun T hm=>?_
         · refine jT rfl (dT T)<|Js<|Sq<|Jb<|Sq<|nE hm fun _ _ aH ad aM hm=>?_
           obtain ⟨_,_,rfl⟩:=Sls.op B ad
           refine aE B aM fun _ aC av=>?_
           obtain ⟨_,_,_,_,rfl,_⟩:=av
           refine bE hm fun _ aZ hm=>Rg<|oq (mS rfl)<|oq (mS rfl)<|oq (mI rfl)<|oq (q_ian rfl rfl aa (ln K E))<|oq (q_fa rfl)<|oq (q_ldf rfl (Y.cell (j:=1) rfl))<|oq (mI rfl)<|oq (q_ian rfl rfl aH (ln B ad))<|oq (q_fa rfl)<|oq (q_ldf rfl (aC.cell (j:=0) rfl))<|oc (r25_Find_fn (Sm aU) aZ) fun _ _ _ be=>?_
           obtain ⟨_,_,rfl,bf,bg⟩:=be
           obtain ⟨_,rfl,_,_,_,rfl,_⟩:=bf
           cases bg
           refine oq q_mv<|oq (q_ex rfl rfl)<|oq (q_ex rfl rfl)<|o_al fun aY=>Sc [.int _ _,.int _ _,.slice _ _ _] [.int _ _,.int _ _,.slice _ _ _] rfl rfl rfl rfl rfl ia rfl rfl<|oq (aB rfl)<|N0<|Sq<|iC hm (fun a hm=>?_) fun a hm=>?_
           · refine nE hm fun _ _ aJ ae aN hm=>?_
             obtain ⟨_,_,rfl⟩:=Sls.op W ae
             refine aE W aN fun _ aD aw=>?_
             obtain ⟨_,_,_,rfl,_⟩:=aw
             refine J.drawB [aY] []<|Dc 0 rfl (mB rfl)<|Dc 1 rfl (q_not rfl)<|Dc 2 rfl (mB rfl)<|Dg 3 rfl rfl rfl (bT (a)) (q_fa rfl)<|Dm 4 rfl rfl rfl (bT (a)) (q_ld rfl ii rfl)<|Dg 5 rfl rfl rfl (bT (a)) (mS rfl)<|Dg 6 rfl rfl rfl (bT (a)) (mI rfl)<|Dg 7 rfl rfl rfl (bT (a)) (q_ian rfl rfl aJ (ln W ae))<|Dg 8 rfl rfl rfl (bT (a)) (q_fa rfl)<|Dm 9 rfl rfl rfl (bT (a)) (q_ldf rfl (aD.cell (j:=1) rfl))<|Dg 10 rfl rfl rfl (bT (a)) (q_neq rfl rfl)<|Dc 11 rfl (pkF rfl (bT (a)) rfl)<|Dd<|iC hm (fun U hm=>?_) fun U hm=>?_
             · refine jF rfl (dF (fun z=>z U))<|Js<|kS hm fun a9 hm=>Rg<|oq (mI rfl)<|oq (q_add rfl rfl (wi64 a9))<|oq (aI rfl)<|N0<|have hm:=inl_onward hm m; ?_
               exact ⟨⟨bc,g+1⟩,rfl,⟨rfl,rfl,rfl,rfl,trivial⟩,⟨rfl,trivial⟩,⟨hm,ii⟩,(Nat.lt_succ_self _),ii⟩
             · refine jT rfl (dT U)<|SR<|oq (aB rfl)<|N0<|have hm:=inr_onward hm m; have hm:=inr_onward hm q; Jr ?_
               cases hm
               exact ret_ok (fn:=Tryz.f22) rfl (.tmp rfl .nil) rfl
           · refine J.drawB [] []<|Dc 0 rfl (mB rfl)<|Dc 1 rfl (q_not rfl)<|Dc 2 rfl (mB rfl)<|Dp 3 rfl rfl rfl (bF ((nT a)))<|Dp 4 rfl rfl rfl (bF ((nT a)))<|Dp 5 rfl rfl rfl (bF ((nT a)))<|Dp 6 rfl rfl rfl (bF ((nT a)))<|Dp 7 rfl rfl rfl (bF ((nT a)))<|Dp 8 rfl rfl rfl (bF ((nT a)))<|Dp 9 rfl rfl rfl (bF ((nT a)))<|Dp 10 rfl rfl rfl (bF ((nT a)))<|Dc 11 rfl (pkT rfl (bF ((nT a))) rfl)<|Dd<|jT rfl rfl<|SR<|oq (aB rfl)<|N0<|have hm:=inr_onward hm m; have hm:=inr_onward hm q; Jr ?_
             cases hm
             exact ret_ok (fn:=Tryz.f22) rfl (.tmp rfl .nil) rfl
         · refine jF rfl (dF T)<|Jx<|have hm:=inr_onward hm m; kS hm fun ba hm=>Rg<|oq (mI rfl)<|oq (q_add rfl rfl (wi64 ba))<|oq (aI rfl)<|N0<|have hm:=inl_onward hm q; ?_
           exact ⟨⟨bp,x,y,l+1,R,N,H,(some ⟨aX,bd,none⟩),O,I⟩,rfl,⟨rfl,trivial⟩,⟨rfl,rfl,rfl,trivial⟩,⟨(Sm W),(Sm K),hm,ii⟩,(Nat.lt_succ_self _),ii⟩
   · refine jF rfl (dF an)<|Jx<|have hm:=inr_onward hm q; Sq<|SR<|oq (aI rfl)<|N0<|Jb ?_
     obtain ⟨_,hm⟩:=rngL_some hm
     refine J.loopK (α:=Nat) (fun c h' L'=>forL (M.r31_Commutes_b3 x1 i) M.r31_Commutes_k3 (List.drop c d) c ()=some r∧Sp ([]) L') [(0,.slice _ _ _),(1,.slice _ _ _),(2,.slice _ _ _)] ⟨rfl,rfl,rfl,trivial⟩ (fun c=>[(11,.int .i64 (c:Int))]) (fun c=>d.length-c) 0 ⟨hm,ii⟩ ⟨rfl,trivial⟩ ?_
     rintro c _ _ _ _ ⟨hm,aj⟩
     refine J.sp aj<|Sq<|SR<|oq (mI rfl)<|oq (mS rfl)<|oq (q_lenE (k:=d.length) rfl (Sls.len e))<|oq (q_lss rfl rfl)<|N0 ?_
     by_cases A:(c:Int)<(d.length:Int)
     · obtain ⟨_,_,G,aQ,hm,ac⟩:=forL_cons A hm
       unfold M.r31_Commutes_b3 at hm
       refine jT rfl (dT A) ?_
       have bb:-9223372036854775808≤(c:Int)+1∧(c:Int)+1≤9223372036854775807:=by omega
       refine Js<|Sq<|Jb<|Sq<|nE hm fun _ _ aK af aR hm=>?_
       obtain ⟨_,_,rfl⟩:=Sls.op f af
       refine aE f aR fun _ aF az=>?_
       obtain ⟨_,_,_,rfl,a5⟩:=az
       refine bE hm fun _ a1 hm=>?_
       obtain ⟨_,_,rfl⟩:=Sls.op e G
       refine aE e aQ fun _ aG aA=>?_
       obtain ⟨_,_,_,rfl,a7⟩:=aA
       refine bE hm fun _ a2 hm=>bE hm fun _ a3 hm=>J.drawB [] []<|Dc 0 rfl (mS rfl)<|Dc 1 rfl (mS rfl)<|Dc 2 rfl (mI rfl)<|Dc 3 rfl (q_ian rfl rfl aK (ln f af))<|Dc 4 rfl (q_fa rfl)<|Dl 5 rfl (q_ldf rfl (aF.cell (j:=1) rfl))<|Dc 7 rfl (mS rfl)<|Dc 8 rfl (mS rfl)<|Dc 9 rfl (mI rfl)<|Dc 10 rfl (q_ian rfl rfl rfl (ln e G))<|Dc 11 rfl (q_fa rfl)<|Dl 12 rfl (q_ldf rfl (aG.cell (j:=2) rfl))<|Do 6<|Xe rfl rfl<|oc (r25_Around_fn (Sm aU) (Sm a5) a1) fun _ _ _ bi=>?_
       obtain ⟨_,_,_,rfl,a6⟩:=bi.op3
       refine NE<|Do 13<|Xe rfl rfl<|oc (r31_Apply_fn (Sm f) (Sm a7) a2) fun _ _ _ bj=>?_
       obtain ⟨_,_,_,rfl,a8⟩:=bj.op3
       refine NE<|Do 14<|Xe rfl rfl<|oc (r25_SameChain_fn (Sm a6) (Sm a8) a3) fun _ _ _ bk=>?_
       cases bk
       refine NE<|Dc 15 rfl (q_not rfl)<|Dd<|iC hm (fun V hm=>?_) fun V hm=>?_
       · refine jF rfl (bT (V))<|Js<|Rg<|oq (mI rfl)<|oq (q_add rfl rfl (wi64 bb))<|oq (aI rfl)<|N0<|have hm:=inl_onward hm ac; ?_
         exact ⟨(c+1),rfl,⟨rfl,rfl,rfl,trivial⟩,⟨rfl,trivial⟩,⟨hm,ii⟩,(muL G),ii⟩
       · refine jT rfl (bF ((nT V)))<|SR<|oq (aB rfl)<|N0<|have hm:=inr_onward hm ac; Jr ?_
         cases hm
         exact ret_ok (fn:=Tryz.f22) rfl (.tmp rfl .nil) rfl
     · replace hm:=forL_nil A hm
       unfold M.r31_Commutes_k3 at hm
       refine jF rfl (dF A)<|Jx<|SR<|oq (aB rfl)<|N0<|Jr ?_
       cases hm
       exact ret_ok (fn:=Tryz.f22) rfl (.tmp rfl .nil) rfl
 · refine jT rfl (dT am)<|SR<|oq (aB rfl)<|N0<|Jr ?_
   cases hm
   exact ret_ok (fn:=Tryz.f22) rfl (.tmp rfl .nil) rfl
theorem r31_IsFree_fn {h:Heap} {x0:List TCell} {x1:Int} {x2:Int} {v0:Value} (r0:Sls TCellR 3 h v0 x0) {r:Bool} (hm:M.r31_IsFree x0 x1 x2=some r) :
    Fn Tryz.prog 152 #[v0,.int .i64 x1,.int .i64 x2] h fun v h'=>v=.bool r:=by
 obtain ⟨aH,aF,az,rfl,R⟩:=r0.op3
 refine Fn.intro (args:=[_,_,_]) Tryz.func152 rfl rfl (lB rfl) fun w=>?_
 unfold M.r31_IsFree at hm
 refine SR<|oq (aB rfl)<|N0<|Sq<|bE hm fun q aA hm=>Rg<|oq (mS rfl)<|oq (mI rfl)<|oc (r25_Find_fn (Sm R) aA) fun _ _ _ aJ=>?_
 obtain ⟨_,_,rfl,aK,aL⟩:=aJ
 obtain ⟨_,rfl,T,S,Q,rfl,aC⟩:=aK
 cases aL
 refine oq q_mv<|oq (q_ex rfl rfl)<|oq (q_ex rfl rfl)<|o_al fun P=>Sc [.int _ _,.int _ _,.slice _ _ _] [.int _ _,.int _ _,.slice _ _ _] rfl rfl rfl rfl rfl ia rfl rfl<|oq (aB rfl)<|N0<|SR<|oq (aI rfl)<|N0<|Sq<|SR<|oq (aI rfl)<|N0<|Jb ?_
 replace hm:=(show iter _ fuel _=some _ from hm)
 refine J.loopK (α:=Nat×(List TCell)×Int×Int×(Option Addr)×Nat×Nat) (fun ⟨l,b,f,c,n,e,d⟩ h' L'=>Sls TCellR 3 h' (.slice n e d) b∧iter (M.r31_IsFree_b2 x1 x2 q) l (b,f,c)=some r∧Sp ([(P,row 47 [.int .i64 q.1.ID,.int .i64 q.1.Dim,.slice T S Q])]) L') [(1,.int _ _),(2,.int _ _),(7,.pointer _)] ⟨rfl,rfl,rfl,trivial⟩ (fun ⟨l,b,f,c,n,e,d⟩=>[(0,.slice n e d),(9,.int .i64 c),(10,.int .i64 f)]) (fun ⟨l,b,f,c,n,e,d⟩=>l) ⟨fuel,x0,0,0,aH,aF,az⟩ ⟨(Sm R),hm,ii⟩ ⟨rfl,rfl,rfl,trivial⟩ ?_
 rintro ⟨l,b,f,c,n,e,d⟩ _ _ _ _ ⟨g,hm,E⟩
 refine J.sp E ?_
 obtain ⟨aD,aG,rfl,hm,u⟩:=iter_some hm
 unfold M.r31_IsFree_b2 at hm
 refine Sq<|SR<|oq (mI rfl)<|oq (mS rfl)<|oq (q_lenE (k:=b.length) rfl (Sls.len g))<|oq (q_lss rfl rfl)<|N0<|iC hm (fun C hm=>?_) fun C hm=>?_
 · refine jT rfl (dT C)<|Js<|Sq<|Jb<|Sq ?_
   refine J.joinK (α:=(List TCell)×Int×(Option Addr)×Nat×Nat) (fun ⟨o,p,A,m,i⟩ h' L'=>Sls TCellR 3 h' (.slice A m i) o∧(M.r31_IsFree_j1 x1 f) o p=some aG∧Sp ([(P,row 47 [.int .i64 q.1.ID,.int .i64 q.1.Dim,.slice T S Q])]) L') [(1,.int _ _),(2,.int _ _),(7,.pointer _),(10,.int _ _)] ⟨rfl,rfl,rfl,rfl,trivial⟩ (fun ⟨o,p,A,m,i⟩=>[(0,.slice A m i),(9,.int .i64 p)]) ?_ ?_
   · refine Sq<|nE hm fun _ _ N y O hm=>?_
     obtain ⟨B,G,rfl⟩:=Sls.op g y
     refine aE g O fun _ L I=>?_
     obtain ⟨_,_,_,rfl,af⟩:=I
     refine bE hm fun _ X hm=>bE hm fun _ Y hm=>Rg<|oq (mS rfl)<|oq (mI rfl)<|oq (q_ian rfl rfl N (ln g y))<|oq (q_fa rfl)<|oq (q_ldf rfl (L.cell (j:=2) rfl))<|oq (mI rfl)<|oc (r31_Coefficient_fn (Sm af) X) fun _ _ _ ar=>?_
     obtain ⟨_,_,_,_,rfl,ag⟩:=ar.op
     refine oc (rsign_fn (iu ag) Y) fun _ _ _ au=>?_
     cases au
     refine oq (q_neq rfl rfl)<|N0<|iC hm (fun t hm=>?_) fun t hm=>?_
     · refine jF rfl (dF (fun z=>z t))<|Js ?_
       exact ⟨⟨b,c,(some ⟨B,G,none⟩),e,d⟩,rfl,⟨rfl,rfl,rfl,rfl,trivial⟩,⟨rfl,rfl,trivial⟩,⟨(Sm g),hm,ii⟩,ii⟩
     · refine jT rfl (dT t)<|kS hm fun an hm=>Rg<|oq (mI rfl)<|oq (q_add rfl rfl (wi64 an))<|oq (aI rfl)<|N0 ?_
       exact ⟨⟨b,c+1,(some ⟨B,G,none⟩),e,d⟩,rfl,⟨rfl,rfl,rfl,rfl,trivial⟩,⟨rfl,rfl,trivial⟩,⟨(Sm g),hm,ii⟩,ii⟩
   · rintro ⟨o,p,A,m,i⟩ _ _ _ _ ⟨x,hm,F⟩
     refine J.sp F ?_
     unfold M.r31_IsFree_j1 at hm
     refine Sq<|nE hm fun _ _ ak D al hm=>?_
     obtain ⟨U,ao,rfl⟩:=Sls.op x D
     refine aE x al fun _ K H=>?_
     obtain ⟨_,_,_,rfl,ad⟩:=H
     refine bE hm fun _ V hm=>bE hm fun _ W hm=>Rg<|oq (mS rfl)<|oq (mI rfl)<|oq (q_ian rfl rfl ak (ln x D))<|oq (q_fa rfl)<|oq (q_ldf rfl (K.cell (j:=2) rfl))<|oq (mI rfl)<|oc (r31_Coefficient_fn (Sm ad) V) fun _ _ _ ap=>?_
     obtain ⟨_,_,_,_,rfl,ae⟩:=ap.op
     refine oc (rsign_fn (iu ae) W) fun _ _ _ aq=>?_
     cases aq
     refine oq (q_neq rfl rfl)<|N0<|iC hm (fun s hm=>?_) fun s hm=>?_
     · refine jF rfl (dF (fun z=>z s))<|Js<|kS hm fun am hm=>Rg<|oq (mI rfl)<|oq (q_add rfl rfl (wi64 am))<|oq (aI rfl)<|N0<|have hm:=inl_onward hm u; ?_
       exact ⟨⟨aD,o,f+1,p,(some ⟨U,ao,none⟩),m,i⟩,rfl,⟨rfl,rfl,rfl,trivial⟩,⟨rfl,rfl,rfl,trivial⟩,⟨(Sm x),hm,ii⟩,(Nat.lt_succ_self _),ii⟩
     · refine jT rfl (dT s)<|SR<|oq (aB rfl)<|N0<|have hm:=inr_onward hm u; Jr ?_
       cases hm
       exact ret_ok (fn:=Tryz.f152) rfl (.tmp rfl .nil) rfl
 · refine jF rfl (dF C)<|Jx<|have hm:=inr_onward hm u; Sq ?_
   by_cases a:c=1
   focus
    replace hm:=ite_T a hm
    refine bE hm fun _ Z hm=>bE hm fun _ aa hm=>bE hm fun _ ab hm=>bE hm fun _ ac hm=>Rg<|oq (mI rfl)<|oq (q_eql rfl rfl)<|oq (mB rfl)<|gT rfl rfl (dT a)<|oq (q_fa rfl)<|gT rfl rfl (dT a)<|oq (q_ld rfl ia rfl)<|gT rfl rfl (dT a)<|oq (mI rfl)<|gT rfl rfl (dT a)<|oc (r31_Coefficient_fn (Sm aC) Z) fun _ _ _ av=>?_
    obtain ⟨_,_,_,_,rfl,ah⟩:=av.op
    refine gT rfl rfl (dT a)<|oc (rabs_fn (iu ah) aa) fun _ _ _ aw=>?_
    obtain ⟨_,_,_,_,rfl,ai⟩:=aw.op
    refine gT rfl rfl (dT a)<|oc (rof_fn ab) fun _ _ _ ax=>?_
    obtain ⟨_,_,_,_,rfl,aj⟩:=ax.op
    refine gT rfl rfl (dT a)<|oc (rsame_fn (iu ai) (iu aj) ac) fun _ _ _ ay=>?_
    cases ay
    refine oq (pkT rfl (dT a) rfl) ?_
   rotate_left
   focus
    replace hm:=ite_F a hm
    refine Rg<|oq (mI rfl)<|oq (q_eql rfl rfl)<|oq (mB rfl)<|gF rfl rfl (dF a)<|gF rfl rfl (dF a)<|gF rfl rfl (dF a)<|gF rfl rfl (dF a)<|gF rfl rfl (dF a)<|gF rfl rfl (dF a)<|gF rfl rfl (dF a)<|oq (pkF rfl (dF a) rfl) ?_
   rotate_left
   all_goals
    refine oq (aB rfl)<|N0<|Jr ?_
    cases hm
    exact ret_ok (fn:=Tryz.f152) rfl (.tmp rfl .nil) rfl
theorem r31_Free_fn {h:Heap} {x0:List TCell} {v0:Value} (r0:Sls TCellR 3 h v0 x0) {r:List (Int×Int)} (hm:M.r31_Free x0=some r) :
    Fn Tryz.prog 86 #[v0] h fun v h'=>Sls A2IntR 2 h' v r:=by
 obtain ⟨_,_,_,rfl,d⟩:=r0.op3
 refine Fn.intro (args:=[_]) Tryz.func86 rfl rfl (lB rfl) fun w=>?_
 unfold M.r31_Free at hm
 refine SR<|oq (aS rfl)<|N0<|SR<|o_bs [] (by decide) rfl fun L=>LT A2IntR 2 0 ([]:List (Int×Int)) c0 fun _ X=>oq (aS rfl)<|N0<|Sq<|SR<|oq (aI rfl)<|N0<|Jb ?_
 obtain ⟨_,hm⟩:=rngL_some hm
 refine J.loopK (α:=Nat×(List (Int×Int))×(Option Addr)×Nat×Nat×Own) (fun ⟨b,t,s,q,p,o⟩ h' L'=>OwnL A2IntR 59 2 h' (.slice s q p) t o∧forL (M.r31_Free_b2 x0) M.r31_Free_k2 (List.drop b x0) b t=some r∧Sp (o++([])) L') [(0,.slice _ _ _)] ⟨rfl,trivial⟩ (fun ⟨b,t,s,q,p,o⟩=>[(3,.slice s q p),(4,.int .i64 (b:Int))]) (fun ⟨b,t,s,q,p,o⟩=>x0.length-b) ⟨0,([]:List (Int×Int)),(some ⟨L,0,none⟩),0,0,[(L,row 59 [])]⟩ ⟨(Om X),hm,ii⟩ ⟨rfl,rfl,trivial⟩ ?_
 rintro ⟨b,t,s,q,p,o⟩ _ _ _ _ ⟨N,hm,F⟩
 refine J.sp F<|Sq<|SR<|oq (mI rfl)<|oq (mS rfl)<|oq (q_lenE (k:=x0.length) rfl (Sls.len d))<|oq (q_lss rfl rfl)<|N0 ?_
 by_cases y:(b:Int)<(x0.length:Int)
 · obtain ⟨u,ad,c,Y,hm,W⟩:=forL_cons y hm
   unfold M.r31_Free_b2 at hm
   refine jT rfl (dT y) ?_
   have ac:-9223372036854775808≤(b:Int)+1∧(b:Int)+1≤9223372036854775807:=by omega
   refine Js<|Sq<|Jb<|SR<|oq (aI rfl)<|N0<|Jb ?_
   obtain ⟨_,hm⟩:=rngL_some hm
   refine J.loopK (α:=Nat×(List (Int×Int))×(Option Addr)×Nat×Nat×Own) (fun ⟨a,n,m,l,f,e⟩ h' L'=>OwnL A2IntR 59 2 h' (.slice m l f) n e∧forL (M.r31_Free_b1 x0 u) M.r31_Free_k1 (List.drop a u.B) a n=some ad∧Sp (e++([])) L') [(0,.slice _ _ _),(4,.int _ _)] ⟨rfl,rfl,trivial⟩ (fun ⟨a,n,m,l,f,e⟩=>[(3,.slice m l f),(5,.int .i64 (a:Int))]) (fun ⟨a,n,m,l,f,e⟩=>u.B.length-a) ⟨0,t,s,q,p,o⟩ ⟨(Om N),hm,ii⟩ ⟨rfl,rfl,trivial⟩ ?_
   rintro ⟨a,n,m,l,f,e⟩ _ _ _ _ ⟨C,hm,G⟩
   refine J.sp G<|Sq<|Sq ?_
   obtain ⟨_,_,rfl⟩:=Sls.op d c
   refine aE d Y fun _ g U=>?_
   obtain ⟨_,_,_,rfl,x⟩:=U
   refine Rg<|oq (mI rfl)<|oq (mS rfl)<|oq (mI rfl)<|oq (q_ian rfl rfl rfl (ln d c))<|oq (q_fa rfl)<|oq (q_ldf rfl (g.cell (j:=2) rfl))<|oq (q_lenE (k:=u.B.length) rfl (Sls.len x))<|oq (q_lss rfl rfl)<|N0 ?_
   by_cases z:(a:Int)<(u.B.length:Int)
   · obtain ⟨af,_,i,Z,hm,E⟩:=forL_cons z hm
     unfold M.r31_Free_b1 at hm
     refine jT rfl (dT z) ?_
     have O:-9223372036854775808≤(a:Int)+1∧(a:Int)+1≤9223372036854775807:=by omega
     refine Js<|Sq<|Jb<|Sq ?_
     obtain ⟨_,_,rfl⟩:=Sls.op x i
     refine aE x Z fun _ D V=>?_
     obtain ⟨_,_,_,_,rfl,_⟩:=V
     refine bE hm fun _ ab hm=>J.drawB [] []<|Dc 0 rfl (mS rfl)<|Dc 1 rfl (mS rfl)<|Dc 2 rfl (mI rfl)<|Dc 3 rfl (q_ian rfl rfl rfl (ln d c))<|Dc 4 rfl (q_fa rfl)<|Dl 5 rfl (q_ldf rfl (g.cell (j:=0) rfl))<|Dc 6 rfl (mS rfl)<|Dc 7 rfl (mI rfl)<|Dc 8 rfl (q_ian rfl rfl rfl (ln d c))<|Dc 9 rfl (q_fa rfl)<|Dl 10 rfl (q_ldf rfl (g.cell (j:=2) rfl))<|Dc 11 rfl (mI rfl)<|Dc 12 rfl (q_ian rfl rfl rfl (ln x i))<|Dc 13 rfl (q_fa rfl)<|Dl 14 rfl (q_ldf rfl (D.cell (j:=0) rfl))<|Do 15<|Xe rfl rfl<|oc (r31_IsFree_fn (Sm d) ab) fun _ _ _ ae=>?_
     cases ae
     refine NE<|Dd<|iC hm (fun A hm=>?_) fun A hm=>?_
     · refine jT rfl A<|bE hm fun H S hm=>J.drawB [] []<|Dc 0 rfl (mS rfl)<|Dc 1 rfl (mS rfl)<|Dc 2 rfl (mI rfl)<|Dc 3 rfl (q_ian rfl rfl rfl (ln d c))<|Dc 4 rfl (q_fa rfl)<|Dl 5 rfl (q_ldf rfl (g.cell (j:=0) rfl))<|Dc 6 rfl (mS rfl)<|Dc 7 rfl (mI rfl)<|Dc 8 rfl (q_ian rfl rfl rfl (ln d c))<|Dc 9 rfl (q_fa rfl)<|Dl 10 rfl (q_ldf rfl (g.cell (j:=2) rfl))<|Dc 11 rfl (mI rfl)<|Dc 12 rfl (q_ian rfl rfl rfl (ln x i))<|Dc 13 rfl (q_fa rfl)<|Dl 14 rfl (q_ldf rfl (D.cell (j:=0) rfl))<|Dc 15 rfl (q_bda [.int _ _,.int _ _] rfl)<|Do 16<|Xe rfl rfl<|o_bs [.int _ _,.int _ _] (by decide) rfl fun _=>LT A2IntR 2 1 [(u.ID,af.ID)] (c2 rfl c0) fun I _=>NE<|Do 17<|Xe rfl rfl<|o_appB (R:=A2IntR) rfl rfl (Om C) ii I S fun aa Q P K=>NE<|Dc 18 rfl (aS rfl)<|Dd<|Rg<|oq (mI rfl)<|oq (q_add rfl rfl (wi64 O))<|oq (aI rfl)<|N0<|have hm:=inl_onward hm E; ?_
       exact ⟨⟨a+1,H,aa,H.length,Q,P⟩,rfl,⟨rfl,rfl,trivial⟩,⟨rfl,rfl,trivial⟩,⟨(Om K),hm,ii⟩,(muL i),ii⟩
     · refine jF rfl (nT A)<|Js<|Rg<|oq (mI rfl)<|oq (q_add rfl rfl (wi64 O))<|oq (aI rfl)<|N0<|have hm:=inl_onward hm E; ?_
       exact ⟨⟨a+1,n,m,l,f,e⟩,rfl,⟨rfl,rfl,trivial⟩,⟨rfl,rfl,trivial⟩,⟨(Om C),hm,ii⟩,(muL i),ii⟩
   · replace hm:=forL_nil z hm
     unfold M.r31_Free_k1 at hm
     refine jF rfl (dF z)<|Jx<|Rg<|oq (mI rfl)<|oq (q_add rfl rfl (wi64 ac))<|oq (aI rfl)<|N0<|have hm:=inl_onward hm W; ?_
     exact ⟨⟨b+1,n,m,l,f,e⟩,rfl,⟨rfl,trivial⟩,⟨rfl,rfl,trivial⟩,⟨(Om C),hm,ii⟩,(muL c),ii⟩
 · replace hm:=forL_nil y hm
   unfold M.r31_Free_k2 at hm
   refine jF rfl (dF y)<|Jx<|SR<|oq (mS rfl)<|oq (aS rfl)<|N0<|J.fzO (R:=A2IntR) (Om N) fun _ _ T=>Jr ?_
   cases hm
   exact ret_ok (fn:=Tryz.f86) rfl (.tmp rfl .nil) (Sm T)
end Go.Z
end
section
namespace Go.Z
open Go Go.RowKit
section
variable {C:Cfg} {ρ:Env} {S:World→Prop} {ty:TypeId}
class Fp (P:Program) (T:TypeId) (f:Nat) (off:outParam Nat):Prop where
 u:∃ fs fd,P.underlying T=some (.struct fs)∧fs[f]?=some fd∧fd.offset=off∧Pr P fd.type
def fpCheck (P:Program) (T f:Nat):Option Nat:=
 match P.underlying T with
 | some (.struct fs)=>match fs[f]? with
  | some fd=>match P.underlying fd.type with
   | some d=>match d with
    | .struct _=>none
    | .array _ _=>none
    | _=>some fd.offset
   | none=>none
  | none=>none
 | _=>none
theorem fp_of {P:Program} {T f off:Nat} (h:fpCheck P T f=some off):Fp P T f off:=⟨by
 unfold fpCheck at h
 split at h
 ·rename_i fs h1
  split at h
  ·rename_i fd h2
   split at h
   ·rename_i d h3
    have key:∀ d:TypeDesc,(match d with | .struct _=>none | .array _ _=>none | _=>some fd.offset)=some off→fd.offset=off∧(match d with | .struct _ | .array _ _=>false | _=>true)=true:=fun d h=>by
     cases d<;>simp at h<;>exact ⟨h,rfl⟩
    exact ⟨fs,fd,h1,h2,(key d h).1,⟨d,h3,(key d h).2⟩⟩
   ·cases h
  ·cases h
 ·cases h⟩
theorem q_fld {x:Operand} {T f off:Nat} {cs:List Value} {v:Value} [hf:Fp C.P T f off] (hx:ρ.ev x=.agg ⟨cs⟩) (hv:cs[off]?=some v):Qr C ρ S (.field T x f) ty v:=⟨rfl,fun w _=>by
 obtain ⟨fs,fd,h1,h2,h3,hp⟩:=hf.u
 have hv':(⟨cs⟩:Array Value)[off]?=some v:=by simpa using hv
 have e1:(underlying T).run C.P w=.ok (.struct fs) w:=by simp [underlying,program,h1,Sem.run,bind,Sem.bind,pure]
 have e2:(part fd.type ⟨cs⟩ fd.offset).run C.P w=.ok v w:=by
  unfold part
  rw [Sem.run_bind,run_isAgg hp]
  simp [Result.andThen,h3,hv,Sem.run,pure,Pure.pure]
 simp only [execOp,hx]
 unfold Instr.field
 simp [Sem.run_bind,e1,h2,asAgg,e2,Result.andThen]⟩
end
section
variable {h h1:Heap} {L:Own}
theorem St.fzL {w0:World} {h0:Heap} {w:World}:∀ (M:Own) {h:Heap},St w0 h0 h (M++L) w→∃ h',Ext h h'∧(∀ p∈M,h' p.1=some p.2)∧St w0 h0 h' L w
 | [],h,s=>⟨h,Ext.refl h,(fun p hp=>by cases hp),s⟩
 | (b,o)::M,h,s=>by
  obtain ⟨s2,st⟩:=St.freeze s
  obtain ⟨h',e,hM,s3⟩:=St.fzL M s2
  refine ⟨h',⟨fun x y z=>e.le x y (st.le x y z)⟩,fun p hp=>?_,s3⟩
  rcases List.mem_cons.1 hp with rfl | hp
  ·exact e.le _ _ (by simp)
  ·exact hM p hp
theorem FnIn.post {C:Cfg} {f:FuncId} {args:Array Value} {R R2:Value→Heap→Own→Prop} (w:FnIn C f args h L R)
  (k:∀ v h' L' w',Ext h h'→R v h' L'→St C.w0 C.h0 h' L' w'→∃ h'' L'',Ext h' h''∧St C.w0 C.h0 h'' L'' w'∧R2 v h'' L''):FnIn C f args h L R2:=fun w' hs=>
 (w w' hs).mono fun e w'' ⟨v,h',L',h1,h2,h3,h4⟩=>by
  obtain ⟨h'',L'',e2,s2,r2⟩:=k v h' L' w'' h2 h4 h3
  exact ⟨v,h'',L'',h1,⟨fun x y z=>e2.le x y (h2.le x y z)⟩,s2,r2⟩
variable {α:Type} {R:Heap→List Value→α→Prop} {T T2 sz c b:Nat} {hs:List Value} {rows:List (List α)} {M:Own}
theorem OwnLL.semi [mo:Mo R] (w:OwnLL R T sz h1 hs c rows M) (e:Ext h1 h) (hM:∀ p∈M,h p.1=some p.2):OwnL (LR R sz) T2 1 h (.slice (some ⟨b,0,none⟩) rows.length c) rows [(b,Z.row T2 hs)]:=by
 obtain ⟨D,a1,a2,a3,a4,a5,a6⟩:=w
 have hlen:(hs.take rows.length).length=rows.length:=by rw [List.length_take]; omega
 refine ⟨hs.take rows.length,⟨by rw [hlen,Nat.mul_one],.inr ⟨b,c,hs.drop rows.length,rfl,by rw [List.take_append_drop],a1,by rw [List.take_append_drop]; omega⟩⟩,by rw [hlen,Nat.mul_one],fun i r hr=>?_⟩
 have hi:i<rows.length:=(List.getElem?_eq_some_iff.1 hr).1
 obtain ⟨d,hd⟩:=lt_get (show i<D.length by omega)
 have hh:=a5 i d hd
 have hrow:=(a6 i d r hd hr).frozen (h:=h) e (fun p hp=>hM p (a4.mem_iff.2 (List.mem_flatMap.2 ⟨d,List.mem_of_getElem? hd,hp⟩)))
 have:((hs.take rows.length).drop (i*1)).take 1=[d.v]:=by
  refine List.ext_getElem? fun j=>?_
  rw [List.getElem?_take]
  rcases Nat.eq_zero_or_pos j with rfl | hj
  ·rw [if_pos (by decide),List.getElem?_drop,List.getElem?_take,if_pos (by omega),Nat.mul_one,Nat.add_zero,hh]; rfl
  ·rw [if_neg (by omega),List.getElem?_eq_none (by simp; omega)]
 rw [this]
 exact ⟨_,_,_,rfl,hrow⟩
end
end Go.Z
end
