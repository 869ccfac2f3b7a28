/- Texts of ours, joined: M7W, Open, Open26, Open3, Facts. -/
import Derived.Test.YtcnhddiedfifmaaGreatME3
import Derived.Test.YtcnhddiedfifmaaGreatME4
import Derived.Test.YtcnhddiedfifmaaGreatME6
import Derived.Test.YtcnhddiedfifmaaGreatME2
import Derived.Deep.Slices
import Derived.ProofKit
import Derived.Test.YtcnhddiedfifmaaGreatChecked
import Derived.OpenShut
import Derived.Laws.IdiomArrays
import Derived.Test.YtcnhddiedfifmaaGreatRows
set_option linter.unusedSimpArgs false
set_option linter.unusedVariables false
set_option linter.unusedSectionVars false
set_option linter.deprecated false
set_option maxHeartbeats 4000000
section
namespace Go.Z
open Go Go.RowKit Go.Proofs
instance : Fp Tryz.prog 163 2 2 := fp_of (by kernel_rfl)
theorem copied_semi {rr : Option Nat} {nn : Nat} {w0 : World} {h0 h : Heap} {L : Own} {x0 : TMat} {v0 : Value} (r0 : AggV TMatR h v0 x0) {r : TMat} (hm : M.r05_Copied x0 = some r) :
    FnIn ⟨Tryz.prog, rr, nn, w0, h0⟩ 231 #[v0] h (L) fun v h' L' => ∃ (p0_2 : Option Addr) (n0_2 c0_2 : Nat) (M0_2 : Own), v = .agg ⟨[.int .i64 r.Rows, .int .i64 r.Cols, .slice p0_2 n0_2 c0_2]⟩ ∧ OwnL (LR IntR 2) 151 1 h' (.slice p0_2 n0_2 c0_2) r.A M0_2 ∧ L' = M0_2 ++ (L) := by
 refine (r05_Copied_own r0 hm).post fun v h' L' w' e q s => ?_
 obtain ⟨b, hs, n, c, M, rfl, o, rfl, rfl⟩ := q
 obtain ⟨h'', e2, hM, s2⟩ := St.fzL M (s.perm (L' := M ++ ([(b, row 151 hs)] ++ L)) (by
  rw [← List.append_assoc, ← List.append_assoc]; exact List.Perm.append_right _ List.perm_append_comm))
 exact ⟨h'', _, e2, s2, _, _, _, _, rfl, o.semi e2 hM, rfl⟩
theorem l31_pieces_fn {h : Heap} {x0 : List TCell} {x1 : Int} {v0 : Value} (r0 : Sls TCellR 3 h v0 x0) {r : (List R31Result) × Bool} (hm : M.l31_pieces x0 x1 = some r) :
    Fn Tryz.prog 32 #[v0, .int .u8 x1] h fun v h' => ∃ u0 u1, v = .tuple ⟨[u0, u1]⟩ ∧ Sls R31ResultR 3 h' u0 r.1 ∧ u1 = .bool r.2 := by
 obtain ⟨_, _, _, rfl, D⟩ := r0.op3
 refine Fn.intro (args := [_, _]) Tryz.func32 rfl rfl (lB rfl) fun w => ?_
 unfold M.l31_pieces at hm
 refine SR <| oq (aS rfl) <| oq (aB rfl) <| N0 <| Sq <| bE hm fun aC bl hm => bE hm fun ah bm hm => Rg <| o_bs [] (by decide) rfl fun _ => LT R31ResultR 3 0 ([] : List R31Result) c0 fun _ a1 => oq (mS rfl) <| oc (r31_Free_fn (Sm D) bl) fun _ _ _ bs => ?_
 obtain ⟨_, _, _, rfl, G⟩ := bs.op3
 refine oq (mS rfl) <| oc (r25_Cells_fn (Sm D) bm) fun _ _ _ bt => ?_
 obtain ⟨_, _, _, rfl, H⟩ := bt.op3
 refine oq (aS rfl) <| oq (aS rfl) <| oq (aS rfl) <| N0 <| Sq <| bE hm fun aD bn hm => Rg <| oq (mS rfl) <| oc (merge_Shrink_fn (Sm D) bn) fun _ _ _ bu => ?_
 obtain ⟨_, _, rfl, bv, bw⟩ := bu
 obtain ⟨_, _, _, rfl, bp⟩ := bv.op3
 obtain ⟨_, _, _, rfl, bq⟩ := bw.op3
 refine oq q_mv <| oq (q_ex rfl rfl) <| oq (q_ex rfl rfl) <| oq (aS rfl) <| oq (aS rfl) <| N0 <| Sq <| bE hm fun aA bo hm => Rg <| oq (mS rfl) <| oq (mS rfl) <| oq (mS rfl) <| oq (q_bd [.slice _ _ _, .slice _ _ _, .int _ _] rfl) ?_
 refine o_bs [.slice _ _ _, .slice _ _ _, .int _ _] (by decide) rfl fun _ => LT R31ResultR 3 1 [(R31Result.mk aD.1 aD.2 0)] (c3 ⟨_, _, _, _, _, _, rfl, Sm bp, Sm bq⟩ c0) fun a0 _ => o_appB (R := R31ResultR) rfl rfl (Om a1) ii a0 bo fun br bk bj ad => oq (aS rfl) <| N0 <| Sq ?_
 refine J.joinK (α := (List R31Result) × (Option Addr) × Nat × Nat × Own) (fun ⟨L, K, I, F, E⟩ h' L' => OwnL R31ResultR 35 3 h' (.slice K I F) L E ∧ (M.l31_pieces_j3 x0 x1 ah) L = some r ∧ Sp (E ++ ([])) L') [(0, .slice _ _ _), (1, .int _ _), (8, .slice _ _ _)] ⟨rfl, rfl, rfl, trivial⟩ (fun ⟨L, K, I, F, E⟩ => [(6, .slice K I F)]) ?_ ?_
 · refine SR <| oq (mS rfl) <| oq (q_lenE (k := aC.length) rfl (Sls.len G)) <| oq (q_gtr rfl rfl) <| N0 <| iC hm (fun Q hm => ?_) fun Q hm => ?_
   · refine jT rfl (dT Q) <| Sq <| kS hm fun a5 hm => kE hm fun a6 hm => nE hm fun _ _ ar Z ay hm => ?_
     obtain ⟨_, _, rfl⟩ := Sls.op G Z
     refine aE G ay fun _ ao al => ?_
     cases al
     refine Rg <| oq (mS rfl) <| oq (mI rfl) <| oq (q_cv rfl (wi64 a5)) <| oq (mS rfl) <| oq (q_lenE (k := aC.length) rfl (Sls.len G)) <| oq (q_rem rfl rfl a6 rfl) <| oq (q_ian rfl rfl ar (ln G Z)) <| oq (q_ldfa rfl ao) <| o_al fun _ => Sc [.int _ _, .int _ _] [.int _ _, .int _ _] rfl rfl rfl rfl rfl ia rfl rfl <| N0 <| Sq <| bE hm fun X aN hm => Rg <| oq (mS rfl) <| oq (q_jan (i := 0) rfl rfl rfl (by decide)) <| oq (q_ld rfl ia rfl) <| oq (q_jan (i := 1) rfl rfl rfl (by decide)) <| oq (q_ld rfl ia rfl) <| oc (merge_Collapse_fn (Sm D) aN) fun _ _ _ bf => ?_
     obtain ⟨_, _, _, rfl, bg, bh, bi⟩ := bf
     obtain ⟨_, _, _, rfl, aY⟩ := bg.op3
     obtain ⟨_, _, _, rfl, aZ⟩ := bh.op3
     cases bi
     refine oq q_mv <| oq (q_ex rfl rfl) <| oq (q_ex rfl rfl) <| oq (q_ex rfl rfl) <| oq (aS rfl) <| oq (aS rfl) <| oq (aI rfl) <| N0 <| bE hm fun ag aO hm => Rg <| oq (mS rfl) <| oq (mS rfl) <| oq (mS rfl) <| oq (mI rfl) <| oq (q_bd [.slice _ _ _, .slice _ _ _, .int _ _] rfl) ?_
     refine o_bs [.slice _ _ _, .slice _ _ _, .int _ _] (by decide) rfl fun _ => LT R31ResultR 3 1 [(R31Result.mk X.1 X.2.1 X.2.2)] (c3 ⟨_, _, _, _, _, _, rfl, Sm aY, Sm aZ⟩ c0) fun ap _ => o_appB (R := R31ResultR) rfl rfl (Om ad) ii ap aO fun a9 aJ aG av => oq (aS rfl) <| N0 ?_
     exact ⟨⟨ag, a9, ag.length, aJ, aG⟩, rfl, ⟨rfl, rfl, rfl, trivial⟩, ⟨rfl, trivial⟩, ⟨(Om av), hm, ii⟩, ii⟩
   · refine jF rfl (dF Q) <| Js ?_
     exact ⟨⟨aA, br, aA.length, bk, bj⟩, rfl, ⟨rfl, rfl, rfl, trivial⟩, ⟨rfl, trivial⟩, ⟨(Om ad), hm, ii⟩, ii⟩
 · rintro ⟨L, K, I, F, E⟩ _ _ _ _ ⟨az, hm, ae⟩
   refine J.sp ae ?_
   unfold M.l31_pieces_j3 at hm
   refine Sq ?_
   refine J.joinK (α := (List R31Result) × (Option Addr) × Nat × Nat × Own) (fun ⟨C, A, y, u, s⟩ h' L' => OwnL R31ResultR 35 3 h' (.slice A y u) C s ∧ (M.l31_pieces_j2 x0) C = some r ∧ Sp (s ++ ([])) L') [(0, .slice _ _ _)] ⟨rfl, trivial⟩ (fun ⟨C, A, y, u, s⟩ => [(6, .slice A y u)]) ?_ ?_
   · refine SR <| oq (mS rfl) <| oq (q_lenE (k := ah.length) rfl (Sls.len H)) <| oq (q_gtr rfl rfl) <| N0 <| iC hm (fun P hm => ?_) fun P hm => ?_
     · refine jT rfl (dT P) <| Sq <| kS hm fun a3 hm => kE hm fun a4 hm => nE hm fun _ _ aq Y ax hm => ?_
       obtain ⟨_, _, rfl⟩ := Sls.op H Y
       refine aE H ax fun _ am ak => ?_
       obtain rfl := KR.op ak
       refine bE hm fun W aL hm => Rg <| oq (mS rfl) <| oq (mS rfl) <| oq (mI rfl) <| oq (q_cv rfl (wi64 a3)) <| oq (mS rfl) <| oq (q_lenE (k := ah.length) rfl (Sls.len H)) <| oq (q_rem rfl rfl a4 rfl) <| oq (q_ian rfl rfl aq (ln H Y)) <| oq (q_ldf rfl am) <| oq (q_bda [.int _ _, .int _ _] rfl) ?_
       refine oc (merge_Subdivide_fn (Sm D) (x2 := ((-1), 99)) ⟨_, rfl, rfl⟩ aL) fun _ _ _ bb => ?_
       obtain ⟨_, _, _, rfl, bc, bd, be⟩ := bb
       obtain ⟨_, _, _, rfl, aW⟩ := bc.op3
       obtain ⟨_, _, _, rfl, aX⟩ := bd.op3
       cases be
       refine oq q_mv <| oq (q_ex rfl rfl) <| oq (q_ex rfl rfl) <| oq (q_ex rfl rfl) <| oq (aS rfl) <| oq (aS rfl) <| oq (aI rfl) <| N0 <| bE hm fun af aM hm => Rg <| oq (mS rfl) <| oq (mS rfl) <| oq (mS rfl) <| oq (mI rfl) <| oq (q_bd [.slice _ _ _, .slice _ _ _, .int _ _] rfl) ?_
       refine o_bs [.slice _ _ _, .slice _ _ _, .int _ _] (by decide) rfl fun _ => LT R31ResultR 3 1 [(R31Result.mk W.1 W.2.1 W.2.2)] (c3 ⟨_, _, _, _, _, _, rfl, Sm aW, Sm aX⟩ c0) fun an _ => o_appB (R := R31ResultR) rfl rfl (Om az) ii an aM fun a8 aH aF au => oq (aS rfl) <| N0 ?_
       exact ⟨⟨af, a8, af.length, aH, aF⟩, rfl, ⟨rfl, trivial⟩, ⟨rfl, trivial⟩, ⟨(Om au), hm, ii⟩, ii⟩
     · refine jF rfl (dF P) <| Js ?_
       exact ⟨⟨L, K, I, F, E⟩, rfl, ⟨rfl, trivial⟩, ⟨rfl, trivial⟩, ⟨(Om az), hm, ii⟩, ii⟩
   · rintro ⟨C, A, y, u, s⟩ _ _ _ _ ⟨aP, hm, aa⟩
     refine J.sp aa ?_
     unfold M.l31_pieces_j2 at hm
     refine Sq <| SR <| oq (aI rfl) <| N0 <| Jb ?_
     replace hm := (show iter _ fuel _ = some _ from hm)
     refine J.loopK (α := Nat × Int × (List R31Result) × (Option Addr) × Nat × Nat × Own) (fun ⟨x, q, l, B, p, o, t⟩ h' L' => OwnL R31ResultR 35 3 h' (.slice B p o) l t ∧ iter (M.l31_pieces_b1 x0) x (q, l) = some r ∧ Sp (t ++ ([])) L') [(0, .slice _ _ _)] ⟨rfl, trivial⟩ (fun ⟨x, q, l, B, p, o, t⟩ => [(6, .slice B p o), (18, .int .i64 q)]) (fun ⟨x, q, l, B, p, o, t⟩ => x) ⟨fuel, 0, C, A, y, u, s⟩ ⟨(Om aP), hm, ii⟩ ⟨rfl, rfl, trivial⟩ ?_
     rintro ⟨x, q, l, B, p, o, t⟩ _ _ _ _ ⟨S, hm, ab⟩
     refine J.sp ab ?_
     obtain ⟨a7, _, rfl, hm, m⟩ := iter_some hm
     unfold M.l31_pieces_b1 at hm
     refine Sq <| SR <| oq (mI rfl) <| oq (mS rfl) <| oq (q_lenE (k := l.length) rfl (OwnL.len S)) <| oq (q_lss rfl rfl) <| N0 <| iC hm (fun N hm => ?_) fun N hm => ?_
     · refine jT rfl (dT N) <| Js <| Sq <| Jb <| Sq <| nE hm fun _ _ f e aw hm => ?_
       obtain ⟨j, ai, rfl, rfl, d, n⟩ := OwnL.blk S e
       obtain ⟨_, g, aj, _⟩ := OwnC.get n aw
       obtain ⟨_, _, _, _, _, _, rfl, U, aQ⟩ := aj
       refine iC hm (fun c hm => ?_) fun c hm => ?_
       · refine bE hm fun _ ac hm => iC hm (fun a hm => ?_) fun a hm => ?_
         · refine bE hm fun _ aK hm => J.drawB [j] [] <| Dc 0 rfl (mS rfl) <| Dc 1 rfl (mI rfl) <| Dc 2 rfl (q_ian rfl rfl f (by rw [d]; exact e)) <| Dc 3 rfl (q_fa rfl) <| Dl 4 rfl (q_ldO rfl ii g rfl) <| Dc 5 rfl (q_neq rfl rfl) <| Dc 6 rfl (mB rfl) <| Dg 7 rfl rfl rfl (dF (fun z => z c)) (mS rfl) <| Dg 8 rfl rfl rfl (dF (fun z => z c)) (mI rfl) <| Dg 9 rfl rfl rfl (dF (fun z => z c)) (q_ian rfl rfl f (by rw [d]; exact e)) <| Dg 10 rfl rfl rfl (dF (fun z => z c)) (q_fa rfl) <| Dm 11 rfl rfl rfl (dF (fun z => z c)) (q_ldO rfl ii g rfl) <| Do 12 <| Xg rfl rfl rfl rfl (dF (fun z => z c)) <| oc (r25_Valid_fn (Sm U) ac) fun _ _ _ V => ?_
           cases V
           refine NE <| Dg 13 rfl rfl rfl (dF (fun z => z c)) (q_not rfl) <| Dc 14 rfl (pkF rfl (dF (fun z => z c)) rfl) <| Dc 15 rfl (mB rfl) <| Dg 16 rfl rfl rfl (bT (a)) (mS rfl) <| Dg 17 rfl rfl rfl (bT (a)) (mS rfl) <| Dg 18 rfl rfl rfl (bT (a)) (mI rfl) <| Dg 19 rfl rfl rfl (bT (a)) (q_ian rfl rfl f (by rw [d]; exact e)) <| Dg 20 rfl rfl rfl (bT (a)) (q_fa rfl) <| Dm 21 rfl rfl rfl (bT (a)) (q_ldO rfl ii g rfl) <| Dg 22 rfl rfl rfl (bT (a)) (mS rfl) <| Dg 23 rfl rfl rfl (bT (a)) (mI rfl) <| Dg 24 rfl rfl rfl (bT (a)) (q_ian rfl rfl f (by rw [d]; exact e)) <| Dg 25 rfl rfl rfl (bT (a)) (q_fa rfl) <| Dm 26 rfl rfl rfl (bT (a)) (q_ldO rfl ii g rfl) <| Do 27 <| Xg rfl rfl rfl rfl (bT (a)) <| oc (r31_Commutes_fn (Sm D) (Sm U) (Sm aQ) aK) fun _ _ _ ba => ?_
           cases ba
           refine NE <| Dg 28 rfl rfl rfl (bT (a)) (q_not rfl) <| Dc 29 rfl (pkF rfl (bT (a)) rfl) <| Dd <| iC hm (fun O hm => ?_) fun O hm => ?_
           · refine jF rfl (bT (O)) <| Js <| kS hm fun a2 hm => Rg <| oq (mI rfl) <| oq (q_add rfl rfl (wi64 a2)) <| oq (aI rfl) <| N0 <| have hm := inl_onward hm m; ?_
             exact ⟨⟨a7, q + 1, l, (some ⟨j, 0, none⟩), p, o, [(j, row 35 ai)]⟩, rfl, ⟨rfl, trivial⟩, ⟨rfl, rfl, trivial⟩, ⟨(OwnC.own (OwnC.mono n) d), hm, ii⟩, (Nat.lt_succ_self _), ii⟩
           · refine jT rfl (bF ((nT O))) <| SR <| oq (mS rfl) <| oq (aS rfl) <| oq (aB rfl) <| N0 <| have hm := inr_onward hm m; J.fzO (R := R31ResultR) (OwnC.own (T := 35) (b := j) (OwnC.mono n) d) fun _ _ aR => Jr ?_
             cases hm
             exact ret_ok (fn := Tryz.f32) rfl (.tmp rfl (.tmp rfl .nil)) ⟨_, _, rfl, (Sm aR), rfl⟩
         · refine J.drawB [j] [] <| Dc 0 rfl (mS rfl) <| Dc 1 rfl (mI rfl) <| Dc 2 rfl (q_ian rfl rfl f (by rw [d]; exact e)) <| Dc 3 rfl (q_fa rfl) <| Dl 4 rfl (q_ldO rfl ii g rfl) <| Dc 5 rfl (q_neq rfl rfl) <| Dc 6 rfl (mB rfl) <| Dg 7 rfl rfl rfl (dF (fun z => z c)) (mS rfl) <| Dg 8 rfl rfl rfl (dF (fun z => z c)) (mI rfl) <| Dg 9 rfl rfl rfl (dF (fun z => z c)) (q_ian rfl rfl f (by rw [d]; exact e)) <| Dg 10 rfl rfl rfl (dF (fun z => z c)) (q_fa rfl) <| Dm 11 rfl rfl rfl (dF (fun z => z c)) (q_ldO rfl ii g rfl) <| Do 12 <| Xg rfl rfl rfl rfl (dF (fun z => z c)) <| oc (r25_Valid_fn (Sm U) ac) fun _ _ _ V => ?_
           cases V
           refine NE <| Dg 13 rfl rfl rfl (dF (fun z => z c)) (q_not rfl) <| Dc 14 rfl (pkF rfl (dF (fun z => z c)) rfl) <| Dc 15 rfl (mB rfl) <| Dp 16 rfl rfl rfl (bF ((nT a))) <| Dp 17 rfl rfl rfl (bF ((nT a))) <| Dp 18 rfl rfl rfl (bF ((nT a))) <| Dp 19 rfl rfl rfl (bF ((nT a))) <| Dp 20 rfl rfl rfl (bF ((nT a))) <| Dp 21 rfl rfl rfl (bF ((nT a))) <| Dp 22 rfl rfl rfl (bF ((nT a))) <| Dp 23 rfl rfl rfl (bF ((nT a))) <| Dp 24 rfl rfl rfl (bF ((nT a))) <| Dp 25 rfl rfl rfl (bF ((nT a))) <| Dp 26 rfl rfl rfl (bF ((nT a))) <| Dp 27 rfl rfl rfl (bF ((nT a))) <| Dp 28 rfl rfl rfl (bF ((nT a))) <| Dc 29 rfl (pkT rfl (bF ((nT a))) rfl) <| Dd <| jT rfl rfl <| SR <| oq (mS rfl) <| oq (aS rfl) <| oq (aB rfl) <| N0 <| have hm := inr_onward hm m; J.fzO (R := R31ResultR) (OwnC.own (T := 35) (b := j) (OwnC.mono n) d) fun _ _ aT => Jr ?_
           cases hm
           exact ret_ok (fn := Tryz.f32) rfl (.tmp rfl (.tmp rfl .nil)) ⟨_, _, rfl, (Sm aT), rfl⟩
       · refine J.drawB [j] [] <| Dc 0 rfl (mS rfl) <| Dc 1 rfl (mI rfl) <| Dc 2 rfl (q_ian rfl rfl f (by rw [d]; exact e)) <| Dc 3 rfl (q_fa rfl) <| Dl 4 rfl (q_ldO rfl ii g rfl) <| Dc 5 rfl (q_neq rfl rfl) <| Dc 6 rfl (mB rfl) <| Dp 7 rfl rfl rfl (dT c) <| Dp 8 rfl rfl rfl (dT c) <| Dp 9 rfl rfl rfl (dT c) <| Dp 10 rfl rfl rfl (dT c) <| Dp 11 rfl rfl rfl (dT c) <| Dp 12 rfl rfl rfl (dT c) <| Dp 13 rfl rfl rfl (dT c) <| Dc 14 rfl (pkT rfl (dT c) rfl) <| Dc 15 rfl (mB rfl) <| JD.pass 16 (by kernel_rfl) rfl rfl rfl ss_subB <| JD.pass 17 (by kernel_rfl) rfl rfl rfl ss_subB <| JD.pass 18 (by kernel_rfl) rfl rfl rfl ss_subB <| JD.pass 19 (by kernel_rfl) rfl rfl rfl ss_subB <| JD.pass 20 (by kernel_rfl) rfl rfl rfl ss_subB <| JD.pass 21 (by kernel_rfl) rfl rfl rfl ss_subB <| JD.pass 22 (by kernel_rfl) rfl rfl rfl ss_subB <| JD.pass 23 (by kernel_rfl) rfl rfl rfl ss_subB <| JD.pass 24 (by kernel_rfl) rfl rfl rfl ss_subB <| JD.pass 25 (by kernel_rfl) rfl rfl rfl ss_subB <| JD.pass 26 (by kernel_rfl) rfl rfl rfl ss_subB <| JD.pass 27 (by kernel_rfl) rfl rfl rfl ss_subB <| JD.pass 28 (by kernel_rfl) rfl rfl rfl ss_subB <| Dc 29 rfl (pkT rfl rfl rfl) <| Dd <| jT rfl rfl <| SR <| oq (mS rfl) <| oq (aS rfl) <| oq (aB rfl) <| N0 <| have hm := inr_onward hm m; J.fzO (R := R31ResultR) (OwnC.own (T := 35) (b := j) (OwnC.mono n) d) fun _ _ aU => ?_
         refine Jr ?_
         cases hm
         exact ret_ok (fn := Tryz.f32) rfl (.tmp rfl (.tmp rfl .nil)) ⟨_, _, rfl, (Sm aU), rfl⟩
     · refine jF rfl (dF N) <| Jx <| have hm := inr_onward hm m; SR <| oq (mS rfl) <| oq (aS rfl) <| oq (aB rfl) <| N0 <| J.fzO (R := R31ResultR) (Om S) fun _ _ aV => Jr ?_
       cases hm
       exact ret_ok (fn := Tryz.f32) rfl (.tmp rfl (.tmp rfl .nil)) ⟨_, _, rfl, (Sm aV), rfl⟩
theorem r25_Euler_fn {h : Heap} {x0 : List TCell} {v0 : Value} (r0 : Sls TCellR 3 h v0 x0) {r : Int} (hm : M.r25_Euler x0 = some r) :
    Fn Tryz.prog 44 #[v0] h fun v h' => v = .int .i64 r := by
 obtain ⟨_, _, _, rfl, e⟩ := r0.op3
 refine Fn.intro (args := [_]) Tryz.func44 rfl rfl (lB rfl) fun w => ?_
 unfold M.r25_Euler at hm
 refine SR <| oq (aI rfl) <| N0 <| SR <| oq (aI rfl) <| N0 <| Sq <| SR <| oq (aI rfl) <| N0 <| Jb ?_
 obtain ⟨_, hm⟩ := rngL_some hm
 refine J.loopK (α := Nat × Int) (fun ⟨a, b⟩ h' L' => forL M.r25_Euler_b1 M.r25_Euler_k1 (List.drop a x0) a b = some r ∧ Sp ([]) L') [(0, .slice _ _ _)] ⟨rfl, trivial⟩ (fun ⟨a, b⟩ => [(3, .int .i64 b), (4, .int .i64 (a : Int))]) (fun ⟨a, b⟩ => x0.length - a) ⟨0, 0⟩ ⟨hm, ii⟩ ⟨rfl, rfl, trivial⟩ ?_
 rintro ⟨a, b⟩ _ _ _ _ ⟨hm, i⟩
 refine J.sp i <| Sq <| SR <| oq (mI rfl) <| oq (mS rfl) <| oq (q_lenE (k := x0.length) rfl (Sls.len e)) <| oq (q_lss rfl rfl) <| N0 ?_
 by_cases d : (a : Int) < (x0.length : Int)
 · obtain ⟨_, _, c, o, hm, g⟩ := forL_cons d hm
   unfold M.r25_Euler_b1 at hm
   refine jT rfl (dT d) ?_
   have l : -9223372036854775808 ≤ (a : Int) + 1 ∧ (a : Int) + 1 ≤ 9223372036854775807 := by omega
   refine Js <| Sq <| Jb <| Sq ?_
   obtain ⟨_, _, rfl⟩ := Sls.op e c
   refine aE e o fun _ n m => ?_
   obtain ⟨_, _, _, rfl, _⟩ := m
   refine Rg <| oq (mS rfl) <| oq (mI rfl) <| oq (q_ian rfl rfl rfl (ln e c)) <| oq (q_fa rfl) <| oq (q_ldf rfl (n.cell (j := 1) rfl)) <| oq (q_rem rfl rfl (by decide) rfl) <| oq (q_eql rfl rfl) <| N0 <| iC hm (fun f hm => ?_) fun f hm => ?_
   · refine jT rfl (dT f) <| kS hm fun p hm => Rg <| oq (mI rfl) <| oq (q_add rfl rfl (wi64 p)) <| oq (aI rfl) <| N0 <| Rg <| oq (mI rfl) <| oq (q_add rfl rfl (wi64 l)) <| oq (aI rfl) <| N0 <| have hm := inl_onward hm g; ?_
     exact ⟨⟨a + 1, b + 1⟩, rfl, ⟨rfl, trivial⟩, ⟨rfl, rfl, trivial⟩, ⟨hm, ii⟩, (muL c), ii⟩
   · refine jF rfl (dF f) <| kS hm fun q hm => Rg <| oq (mI rfl) <| oq (q_sub rfl rfl (wi64 q)) <| oq (aI rfl) <| N0 <| Rg <| oq (mI rfl) <| oq (q_add rfl rfl (wi64 l)) <| oq (aI rfl) <| N0 <| have hm := inl_onward hm g; ?_
     exact ⟨⟨a + 1, b - 1⟩, rfl, ⟨rfl, trivial⟩, ⟨rfl, rfl, trivial⟩, ⟨hm, ii⟩, (muL c), ii⟩
 · replace hm := forL_nil d hm
   unfold M.r25_Euler_k1 at hm
   refine jF rfl (dF d) <| Jx <| SR <| oq (mI rfl) <| oq (aI rfl) <| N0 <| Jr ?_
   cases hm
   exact ret_ok (fn := Tryz.f44) rfl (.tmp rfl .nil) rfl
theorem r26_Cyclic_fn {h : Heap} {x0 : List TCell} {x1 : Int} {x2 : List Int} {v0 : Value} {v2 : Value} (r0 : Sls TCellR 3 h v0 x0) (r2 : Sls (KR .i8) 1 h v2 x2) {r : List TFace} (hm : M.r26_Cyclic x0 x1 x2 = some r) :
    Fn Tryz.prog 35 #[v0, .int .i64 x1, v2] h fun v h' => Sls TFaceR 3 h' v r := by
 obtain ⟨_, _, _, rfl, U⟩ := r0.op3
 obtain ⟨_, _, _, rfl, j⟩ := r2.op3
 refine Fn.intro (args := [_, _, _]) Tryz.func35 rfl rfl (lB rfl) fun w => ?_
 unfold M.r26_Cyclic at hm
 refine SR <| oq (aS rfl) <| N0 <| Sq <| bE hm fun m S hm => Rg <| oq (mS rfl) <| oq (mI rfl) <| oc (r26_Cycles_fn (Sm U) S) fun _ _ _ ab => ?_
 obtain ⟨_, _, _, rfl, e⟩ := ab.op3
 refine o_bs [] (by decide) rfl fun Q => LT TFaceR 3 0 ([] : List TFace) c0 fun _ G => oq (aS rfl) <| oq (aS rfl) <| N0 <| Sq <| SR <| oq (aI rfl) <| N0 <| Jb <| J.fzO (R := TFaceR) (Om G) fun _ _ V => ?_
 replace hm := (show iter _ fuel _ = some _ from hm)
 refine J.loopK (α := Nat × (List TFace) × Int × (Option Addr) × Nat × Nat) (fun ⟨f, c, b, i, g, d⟩ h' L' => Sls TFaceR 3 h' (.slice i g d) c ∧ iter (M.r26_Cyclic_b2 x2 m) f (c, b) = some r ∧ Sp ([]) L') [(2, .slice _ _ _), (7, .slice _ _ _)] ⟨rfl, rfl, trivial⟩ (fun ⟨f, c, b, i, g, d⟩ => [(8, .slice i g d), (9, .int .i64 b)]) (fun ⟨f, c, b, i, g, d⟩ => f) ⟨fuel, ([] : List TFace), 0, (some ⟨Q, 0, none⟩), 0, 0⟩ ⟨(Sm V), hm, ii⟩ ⟨rfl, rfl, trivial⟩ ?_
 rintro ⟨f, c, b, i, g, d⟩ _ _ _ _ ⟨u, hm, s⟩
 refine J.sp s ?_
 obtain ⟨Z, aa, rfl, hm, o⟩ := iter_some hm
 unfold M.r26_Cyclic_b2 at hm
 refine Sq <| Sq ?_
 refine J.joinK (α := Bool) (fun l h' L' => (M.r26_Cyclic_j1 x2 m c b) l = some aa ∧ Sp ([]) L') [(2, .slice _ _ _), (7, .slice _ _ _), (8, .slice _ _ _), (9, .int _ _)] ⟨rfl, rfl, rfl, rfl, trivial⟩ (fun l => [(23, .bool l)]) ?_ ?_
 · refine iC hm (fun a hm => ?_) fun a hm => ?_
   · refine Rg <| oq (mI rfl) <| oq (mS rfl) <| oq (q_lenE (k := m.length) rfl (Sls.len e)) <| oq (q_lss rfl rfl) <| oq (mB rfl) <| gT rfl rfl (dT a) <| oq (mI rfl) <| gT rfl rfl (dT a) <| oq (mS rfl) <| gT rfl rfl (dT a) <| oq (q_lenE (k := x2.length) rfl (Sls.len j)) <| gT rfl rfl (dT a) <| oq (q_lss rfl rfl) <| oq (pkT rfl (dT a) rfl) <| N0 ?_
     exact ⟨(decide (b < (x2.length : Int))), rfl, ⟨rfl, rfl, rfl, rfl, trivial⟩, ⟨rfl, trivial⟩, ⟨hm, ii⟩, ii⟩
   · refine Rg <| oq (mI rfl) <| oq (mS rfl) <| oq (q_lenE (k := m.length) rfl (Sls.len e)) <| oq (q_lss rfl rfl) <| oq (mB rfl) <| gF rfl rfl (dF a) <| gF rfl rfl (dF a) <| gF rfl rfl (dF a) <| gF rfl rfl (dF a) <| oq (pkF rfl (dF a) rfl) <| N0 ?_
     exact ⟨false, rfl, ⟨rfl, rfl, rfl, rfl, trivial⟩, ⟨rfl, trivial⟩, ⟨hm, ii⟩, ii⟩
 · rintro l _ _ _ _ ⟨hm, t⟩
   refine J.sp t ?_
   unfold M.r26_Cyclic_j1 at hm
   refine iC hm (fun n hm => ?_) fun n hm => ?_
   · refine jT rfl n <| Js <| Sq <| Jb <| nE hm fun _ _ E p H hm => ?_
     obtain ⟨_, _, rfl⟩ := Sls.op e p
     refine aE e H fun _ C A => ?_
     obtain ⟨_, _, _, rfl, W⟩ := A
     refine nE hm fun _ _ F q I hm => ?_
     obtain ⟨_, _, rfl⟩ := Sls.op j q
     refine aE j I fun _ D B => ?_
     obtain rfl := KR.op B
     refine kS hm fun Y hm => bE hm fun _ T hm => bE hm fun P y hm => J.drawB [] [] <| Dc 0 rfl (mS rfl) <| Dc 1 rfl (mS rfl) <| Dc 2 rfl (mI rfl) <| Dc 3 rfl (q_ian rfl rfl E (ln e p)) <| Dl 4 rfl (q_ldf rfl C) <| Dc 5 rfl (mS rfl) <| Dc 6 rfl (mI rfl) <| Dc 7 rfl (q_ian rfl rfl F (ln j q)) <| Dl 8 rfl (q_ldf rfl D) <| Dc 9 rfl (q_rem rfl rfl (by decide) rfl) <| Dc 10 rfl (q_cv rfl (wi64 Y)) <| Do 11 <| Xe rfl rfl <| oc (rof_fn T) fun _ _ _ ac => ?_
     obtain ⟨_, _, _, _, rfl, X⟩ := ac.op
     refine NE <| Do 12 <| Xe rfl rfl <| oc (r26_Add_fn (Sm u) (Sm W) (iu X) y) fun _ _ _ O => ?_
     obtain ⟨N, L, x, rfl, z⟩ := O.op3
     refine NE <| Dc 13 rfl (aS rfl) <| Dd <| kS hm fun K hm => Rg <| oq (mI rfl) <| oq (q_add rfl rfl (wi64 K)) <| oq (aI rfl) <| N0 <| have hm := inl_onward hm o; ?_
     exact ⟨⟨Z, P, b + 1, N, L, x⟩, rfl, ⟨rfl, rfl, trivial⟩, ⟨rfl, rfl, trivial⟩, ⟨(Sm z), hm, ii⟩, (Nat.lt_succ_self _), ii⟩
   · refine jF rfl (nT n) <| Jx <| have hm := inr_onward hm o; SR <| oq (mS rfl) <| oq (aS rfl) <| N0 <| Jr ?_
     cases hm
     exact ret_ok (fn := Tryz.f35) rfl (.tmp rfl .nil) (Sm u)
theorem r26_Dim_fn {h : Heap} {x0 : List TCell} {x1 : List TFace} {v0 : Value} {v1 : Value} (r0 : Sls TCellR 3 h v0 x0) (r1 : Sls TFaceR 3 h v1 x1) {r : Int × Int} (hm : M.r26_Dim x0 x1 = some r) :
    Fn Tryz.prog 107 #[v0, v1] h fun v h' => ∃ u0 u1, v = .tuple ⟨[u0, u1]⟩ ∧ u0 = .int .i64 r.1 ∧ u1 = .int .i64 r.2 := by
 obtain ⟨_, _, _, rfl, C⟩ := r0.op3
 obtain ⟨_, _, _, rfl, m⟩ := r1.op3
 refine Fn.intro (args := [_, _]) Tryz.func107 rfl rfl (lB rfl) fun w => ?_
 unfold M.r26_Dim at hm
 refine SR <| oq (aI rfl) <| oq (aI rfl) <| N0 <| SR <| oq (aI rfl) <| oq (aB rfl) <| N0 <| Sq <| SR <| oq (aI rfl) <| N0 <| Jb ?_
 obtain ⟨_, hm⟩ := rngL_some hm
 refine J.loopK (α := Nat × Int × Bool) (fun ⟨a, d, c⟩ h' L' => forL (M.r26_Dim_b2 x0) M.r26_Dim_k2 (List.drop a x1) a (d, c) = some r ∧ Sp ([]) L') [(0, .slice _ _ _), (1, .slice _ _ _)] ⟨rfl, rfl, trivial⟩ (fun ⟨a, d, c⟩ => [(6, .int .i64 d), (7, .bool c), (8, .int .i64 (a : Int))]) (fun ⟨a, d, c⟩ => x1.length - a) ⟨0, (-1), false⟩ ⟨hm, ii⟩ ⟨rfl, rfl, rfl, trivial⟩ ?_
 rintro ⟨a, d, c⟩ _ _ _ _ ⟨hm, q⟩
 refine J.sp q <| Sq <| SR <| oq (mI rfl) <| oq (mS rfl) <| oq (q_lenE (k := x1.length) rfl (Sls.len m)) <| oq (q_lss rfl rfl) <| N0 ?_
 by_cases i : (a : Int) < (x1.length : Int)
 · obtain ⟨_, E, f, y, hm, g⟩ := forL_cons i hm
   unfold M.r26_Dim_b2 at hm
   refine jT rfl (dT i) ?_
   have t : -9223372036854775808 ≤ (a : Int) + 1 ∧ (a : Int) + 1 ≤ 9223372036854775807 := by omega
   refine Js <| Sq <| Jb <| Sq ?_
   obtain ⟨_, _, rfl⟩ := Sls.op m f
   refine aE m y fun _ x u => ?_
   obtain ⟨_, _, _, _, rfl, _⟩ := u
   refine bE hm fun e B hm => Rg <| oq (mS rfl) <| oq (mS rfl) <| oq (mI rfl) <| oq (q_ian rfl rfl rfl (ln m f)) <| oq (q_fa rfl) <| oq (q_ldf rfl (x.cell (j := 0) rfl)) <| oc (r25_Find_fn (Sm C) B) fun _ _ _ G => ?_
   obtain ⟨_, _, rfl, H, I⟩ := G
   obtain ⟨_, rfl, F, D, A, rfl, _⟩ := H
   cases I
   refine oq q_mv <| oq (q_ex rfl rfl) <| oq (q_ex rfl rfl) <| o_al fun z => Sc [.int _ _, .int _ _, .slice _ _ _] [.int _ _, .int _ _, .slice _ _ _] rfl rfl rfl rfl rfl ia rfl rfl <| oq (aB rfl) <| N0 <| Sq <| SR <| oq (mB rfl) <| oq (q_not rfl) <| N0 <| iC hm (fun o hm => ?_) fun o hm => ?_
   · refine jF rfl (bT (o)) <| Js <| Sq <| Sq ?_
     refine J.joinK (α := Bool) (fun n h' L' => (M.r26_Dim_j1 c e) n = some E ∧ Sp ([(z, row 47 [.int .i64 e.1.ID, .int .i64 e.1.Dim, .slice F D A])]) L') [(0, .slice _ _ _), (1, .slice _ _ _), (7, .bool _), (8, .int _ _), (9, .pointer _)] ⟨rfl, rfl, rfl, rfl, rfl, trivial⟩ (fun n => [(36, .bool n)]) ?_ ?_
     · refine iC hm (fun b hm => ?_) fun b hm => ?_
       · refine Rg <| oq (mI rfl) <| oq (q_gtr rfl rfl) <| oq (mB rfl) <| gT rfl rfl (dT b) <| oq (q_fa rfl) <| gT rfl rfl (dT b) <| oq (q_ld rfl ia rfl) <| gT rfl rfl (dT b) <| oq (mI rfl) <| gT rfl rfl (dT b) <| oq (q_neq rfl rfl) <| oq (pkT rfl (dT b) rfl) <| N0 ?_
         exact ⟨(decide (e.1.Dim ≠ d)), rfl, ⟨rfl, rfl, rfl, rfl, rfl, trivial⟩, ⟨rfl, trivial⟩, ⟨hm, ii⟩, ii⟩
       · refine Rg <| oq (mI rfl) <| oq (q_gtr rfl rfl) <| oq (mB rfl) <| gF rfl rfl (dF b) <| gF rfl rfl (dF b) <| gF rfl rfl (dF b) <| gF rfl rfl (dF b) <| oq (pkF rfl (dF b) rfl) <| N0 ?_
         exact ⟨false, rfl, ⟨rfl, rfl, rfl, rfl, rfl, trivial⟩, ⟨rfl, trivial⟩, ⟨hm, ii⟩, ii⟩
     · rintro n _ _ _ _ ⟨hm, s⟩
       refine J.sp s ?_
       unfold M.r26_Dim_j1 at hm
       refine iC hm (fun p hm => ?_) fun p hm => ?_
       · refine jT rfl p <| Rg <| oq (aB rfl) <| N0 <| Rg <| oq (q_fa rfl) <| oq (q_ld rfl ia rfl) <| oq (aI rfl) <| N0 <| Rg <| oq (mI rfl) <| oq (q_add rfl rfl (wi64 t)) <| oq (aI rfl) <| N0 <| have hm := inl_onward hm g; ?_
         exact ⟨⟨a + 1, e.1.Dim, true⟩, rfl, ⟨rfl, rfl, trivial⟩, ⟨rfl, rfl, rfl, trivial⟩, ⟨hm, ii⟩, (muL f), ii⟩
       · refine jF rfl (nT p) <| Js <| Rg <| oq (q_fa rfl) <| oq (q_ld rfl ia rfl) <| oq (aI rfl) <| N0 <| Rg <| oq (mI rfl) <| oq (q_add rfl rfl (wi64 t)) <| oq (aI rfl) <| N0 <| have hm := inl_onward hm g; ?_
         exact ⟨⟨a + 1, e.1.Dim, c⟩, rfl, ⟨rfl, rfl, trivial⟩, ⟨rfl, rfl, rfl, trivial⟩, ⟨hm, ii⟩, (muL f), ii⟩
   · refine jT rfl (bF ((nT o))) <| SR <| oq (aI rfl) <| oq (aI rfl) <| N0 <| have hm := inr_onward hm g; Jr ?_
     cases hm
     exact ret_ok (fn := Tryz.f107) rfl (.tmp rfl (.tmp rfl .nil)) ⟨_, _, rfl, rfl, rfl⟩
 · replace hm := forL_nil i hm
   unfold M.r26_Dim_k2 at hm
   refine jF rfl (dF i) <| Jx <| Sq <| SR <| oq (mB rfl) <| N0 ?_
   by_cases l : c = true
   focus
    replace hm := ite_T l hm
    refine jT rfl l <| SR ?_
   rotate_left
   focus
    replace hm := ite_F l hm
    refine jF rfl (nT l) <| Js <| SR <| oq (mI rfl) ?_
   rotate_left
   all_goals
    refine oq (aI rfl) <| oq (aI rfl) <| N0 <| Jr ?_
    cases hm
    exact ret_ok (fn := Tryz.f107) rfl (.tmp rfl (.tmp rfl .nil)) ⟨_, _, rfl, rfl, rfl⟩
theorem r26_Vector_fn {h : Heap} {x0 : List TCell} {x1 : Int} {x2 : List TFace} {v0 : Value} {v2 : Value} (r0 : Sls TCellR 3 h v0 x0) (r2 : Sls TFaceR 3 h v2 x2) {r : (List Int) × Int} (hm : M.r26_Vector x0 x1 x2 = some r) :
    Fn Tryz.prog 169 #[v0, .int .i64 x1, v2] h fun v h' => ∃ u0 u1, v = .tuple ⟨[u0, u1]⟩ ∧ Sls IntR 2 h' u0 r.1 ∧ u1 = .int .i64 r.2 := by
 obtain ⟨_, _, _, rfl, W⟩ := r0.op3
 obtain ⟨_, _, _, rfl, e⟩ := r2.op3
 refine Fn.intro (args := [_, _, _]) Tryz.func169 rfl rfl (lB rfl) fun w => ?_
 unfold M.r26_Vector at hm
 refine SR <| oq (aS rfl) <| oq (aI rfl) <| N0 <| Sq <| bE hm fun _ ao hm => Rg <| oq (mS rfl) <| oq (mS rfl) <| oc (r26_Dim_fn (Sm W) (Sm e) ao) fun _ _ _ az => ?_
 obtain ⟨_, _, rfl, aA, aC⟩ := az
 cases aA
 cases aC
 refine oq q_mv <| oq (q_ex rfl rfl) <| oq (q_ex rfl rfl) <| oq (aI rfl) <| oq (aI rfl) <| N0 <| Sq <| SR <| oq (mI rfl) <| oq (q_neq rfl rfl) <| N0 <| iC hm (fun F hm => ?_) fun F hm => ?_
 · refine jF rfl (dF (fun z => z F)) <| Js <| Sq ?_
   refine J.joinK (α := Unit) (fun _ h' L' => (M.r26_Vector_j3 x0 x1 x2) = some r ∧ Sp ([]) L') [(0, .slice _ _ _), (1, .int _ _), (2, .slice _ _ _)] ⟨rfl, rfl, rfl, trivial⟩ (fun _ => []) ?_ ?_
   · refine Sq <| iC hm (fun a hm => ?_) fun a hm => ?_
     · refine Rg <| oq (mS rfl) <| oq (q_lenE (k := x2.length) rfl (Sls.len e)) <| oq (q_gtr rfl rfl) <| oq (mB rfl) <| gT rfl rfl (dT a) <| oq (mI rfl) <| gT rfl rfl (dT a) <| oq (mI rfl) <| gT rfl rfl (dT a) <| oq (q_neq rfl rfl) <| oq (pkT rfl (dT a) rfl) <| N0 <| iC hm (fun u hm => ?_) fun u hm => ?_
       · refine jF rfl (dF (fun z => z u)) <| Js ?_
         exact ⟨(), rfl, ⟨rfl, rfl, rfl, trivial⟩, trivial, ⟨hm, ii⟩, ii⟩
       · refine jT rfl (dT u) <| SR <| oq (aS rfl) <| oq (aI rfl) <| N0 <| Jr ?_
         cases hm
         exact ret_ok (fn := Tryz.f169) rfl (.tmp rfl (.tmp rfl .nil)) ⟨_, _, rfl, ((Sls.nil (R := IntR) (sz := 2) _)), rfl⟩
     · refine Rg <| oq (mS rfl) <| oq (q_lenE (k := x2.length) rfl (Sls.len e)) <| oq (q_gtr rfl rfl) <| oq (mB rfl) <| gF rfl rfl (dF a) <| gF rfl rfl (dF a) <| gF rfl rfl (dF a) <| oq (pkF rfl (dF a) rfl) <| N0 <| jF rfl rfl <| Js ?_
       exact ⟨(), rfl, ⟨rfl, rfl, rfl, trivial⟩, trivial, ⟨hm, ii⟩, ii⟩
   · rintro _ _ _ _ _ ⟨hm, H⟩
     refine J.sp H ?_
     unfold M.r26_Vector_j3 at hm
     refine Sq <| bE hm fun E ap hm => Rg <| oq (mS rfl) <| oq (mI rfl) <| oc (r25_Cells_fn (Sm W) ap) fun _ _ _ aD => ?_
     obtain ⟨_, _, _, rfl, B⟩ := aD.op3
     refine o_bs [] (by decide) rfl fun V => LT IntR 2 0 ([] : List Int) c0 fun _ ah => oq (aS rfl) <| oq (aS rfl) <| N0 <| Sq <| SR <| oq (aI rfl) <| N0 <| Jb ?_
     obtain ⟨_, hm⟩ := rngL_some hm
     refine J.loopK (α := Nat × (List Int) × (Option Addr) × Nat × Nat × Own) (fun ⟨c, o, s, q, p, g⟩ h' L' => OwnL IntR 75 2 h' (.slice s q p) o g ∧ forL (M.r26_Vector_b2 x2) M.r26_Vector_k2 (List.drop c E) c o = some r ∧ Sp (g ++ ([])) L') [(2, .slice _ _ _), (10, .slice _ _ _)] ⟨rfl, rfl, trivial⟩ (fun ⟨c, o, s, q, p, g⟩ => [(11, .slice s q p), (12, .int .i64 (c : Int))]) (fun ⟨c, o, s, q, p, g⟩ => E.length - c) ⟨0, ([] : List Int), (some ⟨V, 0, none⟩), 0, 0, [(V, row 75 [])]⟩ ⟨(Om ah), hm, ii⟩ ⟨rfl, rfl, trivial⟩ ?_
     rintro ⟨c, o, s, q, p, g⟩ _ _ _ _ ⟨X, hm, I⟩
     refine J.sp I <| Sq <| SR <| oq (mI rfl) <| oq (mS rfl) <| oq (q_lenE (k := E.length) rfl (Sls.len B)) <| oq (q_lss rfl rfl) <| N0 ?_
     by_cases y : (c : Int) < (E.length : Int)
     · obtain ⟨aG, ax, x, ai, hm, ag⟩ := forL_cons y hm
       unfold M.r26_Vector_b2 at hm
       refine jT rfl (dT y) ?_
       have av : -9223372036854775808 ≤ (c : Int) + 1 ∧ (c : Int) + 1 ≤ 9223372036854775807 := by omega
       refine Js <| Sq <| Jb <| Sq <| bE hm fun aJ aq hm => Rg <| oc (rof_fn aq) fun _ _ _ aF => ?_
       obtain ⟨au, ay, aw, an, rfl, ar⟩ := aF.op
       refine o_al fun am => Sc [.bool _, .slice _ _ _] [.bool _, .slice _ _ _] rfl rfl rfl rfl rfl ia rfl rfl <| N0 <| Sq <| SR <| oq (aI rfl) <| N0 <| Jb ?_
       obtain ⟨_, hm⟩ := rngL_some hm
       refine J.loopK (α := Nat × Int × Bool × (Option Addr) × Nat × Nat) (fun ⟨b, f, l, n, m, i⟩ h' L' => IntR h' [.bool l, .slice n m i] f ∧ forL (M.r26_Vector_b1 aG) (M.r26_Vector_k1 o) (List.drop b x2) b f = some ax ∧ Sp (g ++ ([(am, row 75 [.bool l, .slice n m i])])) L') [(2, .slice _ _ _), (10, .slice _ _ _), (11, .slice _ _ _), (12, .int _ _), (13, .pointer _)] ⟨rfl, rfl, rfl, rfl, rfl, trivial⟩ (fun ⟨b, f, l, n, m, i⟩ => [(14, .int .i64 (b : Int))]) (fun ⟨b, f, l, n, m, i⟩ => x2.length - b) ⟨0, aJ, au, ay, aw, an⟩ ⟨(Mo.up ar), hm, ii⟩ ⟨rfl, trivial⟩ ?_
       rintro ⟨b, f, l, n, m, i⟩ _ _ _ _ ⟨Y, hm, K⟩
       refine J.sp K <| Sq <| SR <| oq (mI rfl) <| oq (mS rfl) <| oq (q_lenE (k := x2.length) rfl (Sls.len e)) <| oq (q_lss rfl rfl) <| N0 ?_
       by_cases A : (b : Int) < (x2.length : Int)
       · obtain ⟨aH, _, d, U, hm, G⟩ := forL_cons A hm
         unfold M.r26_Vector_b1 at hm
         refine jT rfl (dT A) ?_
         have L : -9223372036854775808 ≤ (b : Int) + 1 ∧ (b : Int) + 1 ≤ 9223372036854775807 := by omega
         refine Js <| Sq <| Jb <| Sq ?_
         obtain ⟨_, _, rfl⟩ := Sls.op e d
         refine aE e U fun _ D O => ?_
         obtain ⟨af, ak, aj, aa, rfl, ad⟩ := O
         obtain ⟨_, _, rfl⟩ := Sls.op B x
         refine aE B ai fun _ Q P => ?_
         obtain rfl := KR.op P
         refine J.drawB [] [] <| Dc 0 rfl (mS rfl) <| Dc 1 rfl (mI rfl) <| Dc 2 rfl (q_ian rfl rfl rfl (ln e d)) <| Dc 3 rfl (q_fa rfl) <| Dl 4 rfl (q_ldf rfl (D.cell (j := 0) rfl)) <| Dc 5 rfl (mS rfl) <| Dc 6 rfl (mI rfl) <| Dc 7 rfl (q_ian rfl rfl rfl (ln B x)) <| Dl 8 rfl (q_ldf rfl Q) <| Dc 9 rfl (q_eql rfl rfl) <| Dd <| iC hm (fun t hm => ?_) fun t hm => ?_
         · refine jT rfl (dT t) <| Rg <| oq (mS rfl) <| oq (mI rfl) <| oq (q_ian rfl rfl rfl (ln e d)) <| oq (q_fa rfl) <| oq (q_ldfs (vs := [_, _]) rfl D rfl) <| Sc [.bool _, .slice _ _ _] [.bool _, .slice _ _ _] rfl rfl rfl rfl rfl ia rfl rfl <| N0 <| Rg <| oq (mI rfl) <| oq (q_add rfl rfl (wi64 L)) <| oq (aI rfl) <| N0 <| have hm := inl_onward hm G; ?_
           exact ⟨⟨b + 1, aH.C, af, ak, aj, aa⟩, rfl, ⟨rfl, rfl, rfl, rfl, rfl, trivial⟩, ⟨rfl, trivial⟩, ⟨(Mo.up ad), hm, ii⟩, (muL d), ii⟩
         · refine jF rfl (dF t) <| Js <| Rg <| oq (mI rfl) <| oq (q_add rfl rfl (wi64 L)) <| oq (aI rfl) <| N0 <| have hm := inl_onward hm G; ?_
           exact ⟨⟨b + 1, f, l, n, m, i⟩, rfl, ⟨rfl, rfl, rfl, rfl, rfl, trivial⟩, ⟨rfl, trivial⟩, ⟨(Mo.up Y), hm, ii⟩, (muL d), ii⟩
       · replace hm := forL_nil A hm
         unfold M.r26_Vector_k1 at hm
         refine jF rfl (dF A) <| Jx <| bE hm fun N ac hm => Rg <| oq (mS rfl) <| oq (q_lda (vs := [_, _]) rfl ii ⟨rfl, rfl, trivial⟩) <| o_bs [.bool _, .slice _ _ _] (by decide) rfl fun _ => LT IntR 2 1 [f] (c2 (Mo.up Y) c0) fun S _ => o_appB (R := IntR) rfl rfl (Om X) ii S ac fun al ab Z T => oq (aS rfl) <| N0 <| Rg <| oq (mI rfl) <| oq (q_add rfl rfl (wi64 av)) <| oq (aI rfl) <| N0 <| have hm := inl_onward hm ag; ?_
         exact ⟨⟨c + 1, N, al, N.length, ab, Z⟩, rfl, ⟨rfl, rfl, trivial⟩, ⟨rfl, rfl, trivial⟩, ⟨(Om T), hm, ii⟩, (muL x), ii⟩
     · replace hm := forL_nil y hm
       unfold M.r26_Vector_k2 at hm
       refine jF rfl (dF y) <| Jx <| SR <| oq (mS rfl) <| oq (aS rfl) <| oq (aI rfl) <| N0 <| J.fzO (R := IntR) (Om X) fun _ _ ae => Jr ?_
       cases hm
       exact ret_ok (fn := Tryz.f169) rfl (.tmp rfl (.tmp rfl .nil)) ⟨_, _, rfl, (Sm ae), rfl⟩
 · refine jT rfl (dT F) <| SR <| oq (mI rfl) <| oq (aS rfl) <| oq (aI rfl) <| N0 <| Jr ?_
   cases hm
   exact ret_ok (fn := Tryz.f169) rfl (.tmp rfl (.tmp rfl .nil)) ⟨_, _, rfl, ((Sls.nil (R := IntR) (sz := 2) _)), rfl⟩
theorem r26_Row_fn {h : Heap} {x0 : List TCell} {x1 : Int} {x2 : List TFace} {v0 : Value} {v2 : Value} (r0 : Sls TCellR 3 h v0 x0) (r2 : Sls TFaceR 3 h v2 x2) {r : List Int} (hm : M.r26_Row x0 x1 x2 = some r) :
    Fn Tryz.prog 110 #[v0, .int .i64 x1, v2] h fun v h' => Sls IntR 2 h' v r := by
 obtain ⟨_, _, _, rfl, b⟩ := r0.op3
 obtain ⟨_, _, _, rfl, c⟩ := r2.op3
 refine Fn.intro (args := [_, _, _]) Tryz.func110 rfl rfl (lB rfl) fun w => ?_
 unfold M.r26_Row at hm
 refine SR <| oq (aS rfl) <| N0 <| Sq <| bE hm fun _ a hm => Rg <| oq (mS rfl) <| oq (mI rfl) <| oq (mS rfl) <| oc (r26_Vector_fn (Sm b) (Sm c) a) fun _ _ _ e => ?_
 obtain ⟨_, _, rfl, f, g⟩ := e
 obtain ⟨_, _, _, rfl, d⟩ := f.op3
 cases g
 refine oq q_mv <| oq (q_ex rfl rfl) <| oq (q_ex rfl rfl) <| oq (aS rfl) <| oq (aI rfl) <| N0 <| SR <| oq (mS rfl) <| oq (aS rfl) <| N0 <| Jr ?_
 cases hm
 exact ret_ok (fn := Tryz.f110) rfl (.tmp rfl .nil) (Sm d)
theorem r05_Row_fn {h : Heap} {x0 : List Int} {v0 : Value} (r0 : Sls IntR 2 h v0 x0) {r : TMat} (hm : M.r05_Row x0 = some r) :
    Fn Tryz.prog 113 #[v0] h fun v h' => AggV TMatR h' v r := by
 obtain ⟨_, _, _, rfl, a⟩ := r0.op3
 refine Fn.intro (args := [_]) Tryz.func113 rfl rfl (lB rfl) fun w => ?_
 unfold M.r05_Row at hm
 refine SR <| o_al fun _ => N0 <| SR <| oq (mS rfl) <| oq (q_lenE (k := x0.length) rfl (Sls.len a)) <| oq (mS rfl) <| o_bs [.slice _ _ _] (by decide) rfl fun _ => LT (LR IntR 2) 1 1 [x0] (c1 ⟨_, _, _, rfl, Sm a⟩ c0) fun _ b => oq (q_bd [.int _ _, .int _ _, .slice _ _ _] rfl) ?_
 refine Sc [.int _ _, .int _ _, .slice _ _ _] [.int _ _, .int _ _, .slice _ _ _] rfl rfl rfl rfl rfl ia rfl rfl <| N0 <| J.fzO (R := (LR IntR 2)) (Om b) fun _ _ c => Jr ?_
 cases hm
 exact ret_ok (fn := Tryz.f113) rfl (.agg rfl ii ii .nil) ⟨_, rfl, ⟨_, _, _, rfl, Sm c⟩⟩
theorem r05_Stack_fn {h : Heap} {x0 : TMat} {x1 : TMat} {v0 : Value} {v1 : Value} (r0 : AggV TMatR h v0 x0) (r1 : AggV TMatR h v1 x1) {r : TMat × Int} (hm : M.r05_Stack x0 x1 = some r) :
    Fn Tryz.prog 215 #[v0, v1] h fun v h' => ∃ u0 u1, v = .tuple ⟨[u0, u1]⟩ ∧ AggV TMatR h' u0 r.1 ∧ u1 = .int .i64 r.2 := by
 obtain ⟨_, rfl, _, _, _, rfl, k⟩ := r0
 obtain ⟨_, rfl, _, _, _, rfl, l⟩ := r1
 refine Fn.intro (args := [_, _]) Tryz.func215 rfl rfl (lB rfl) fun w => ?_
 unfold M.r05_Stack at hm
 refine SR <| o_bx (v := .agg ⟨[.int _ _, .int _ _, .slice _ _ _]⟩) rfl rfl fun _ => o_bx (v := .agg ⟨[.int _ _, .int _ _, .slice _ _ _]⟩) rfl rfl fun e => o_al fun _ => oq (aI rfl) <| N0 <| Sq <| SR <| oq (q_fa rfl) <| oq (q_ld rfl ia rfl) <| oq (q_fa rfl) <| oq (q_ld rfl ia rfl) <| oq (q_neq rfl rfl) <| N0 <| iC hm (fun a hm => ?_) fun a hm => ?_
 · refine jF rfl (dF (fun z => z a)) <| Js <| Sq <| bE hm fun _ g hm => Rg <| oq (q_lda (vs := [_, _, _]) rfl ii ⟨rfl, rfl, rfl, trivial⟩) <| o_calll (copied_semi (x0 := x0) ⟨_, rfl, ⟨_, _, _, rfl, Sm k⟩⟩ g) fun _ _ _ _ p => ?_
   obtain ⟨_, _, _, _, rfl, b, rfl⟩ := p
   refine o_al fun f => Sc [.int _ _, .int _ _, .slice _ _ _] [.int _ _, .int _ _, .slice _ _ _] rfl rfl rfl rfl rfl ia rfl rfl <| N0 <| Sq <| kS hm fun o hm => Rg <| oq (q_fa rfl) <| oq (q_ld rfl ia rfl) <| oq (q_fa rfl) <| oq (q_ld rfl ia rfl) <| oq (q_add rfl rfl (wi64 o)) <| oq (q_fa rfl) <| Sc [.int _ _] [.int _ _, .int _ _, .slice _ _ _] rfl rfl rfl rfl rfl ia rfl rfl <| N0 <| Sq <| bE hm fun _ i hm => bE hm fun _ j hm => J.drawB [f, e] [7] <| Dc 0 rfl (q_fa rfl) <| Dl 1 rfl (q_ld rfl ii rfl) <| Dl 2 rfl (q_lda (vs := [_, _, _]) rfl ii ⟨rfl, rfl, rfl, trivial⟩) <| Do 3 <| Xe rfl rfl <| o_calll (copied_semi (x0 := x1) ⟨_, rfl, ⟨_, _, _, rfl, Sm l⟩⟩ i) fun _ _ _ _ q => ?_
   obtain ⟨_, _, _, _, rfl, c, rfl⟩ := q
   refine JL.fzO (R := (LR IntR 2)) (Om c) fun _ _ m => NE <| Dc 4 rfl (q_fld rfl rfl) <| Do 5 <| Xe rfl rfl <| o_appO (R := (LR IntR 2)) rfl rfl (Om b) m j fun _ _ _ d => NE <| Dc 6 rfl (q_fa rfl) <| Do 7 <| Xm rfl rfl <| Sc [.slice _ _ _] [.int _ _, .int _ _, .slice _ _ _] rfl rfl rfl rfl rfl ia rfl rfl <| NF <| Dd <| SR <| oq (q_lda (vs := [_, _, _]) rfl ii ⟨rfl, rfl, rfl, trivial⟩) <| Sc [.int _ _, .int _ _, .slice _ _ _] [.int _ _, .int _ _, .slice _ _ _] rfl rfl rfl rfl rfl ia rfl rfl <| oq (aI rfl) <| N0 <| J.fzO (R := (LR IntR 2)) (Om d) fun _ _ n => Jr ?_
   cases hm
   exact ret_ok (fn := Tryz.f215) rfl (.agg rfl ii ii (.tmp rfl .nil)) ⟨_, _, rfl, ⟨_, rfl, ⟨_, _, _, rfl, Sm n⟩⟩, rfl⟩
 · refine jT rfl (dT a) <| SR <| oq (q_bd [.int _ _, .int _ _, .slice _ _ _] rfl) ?_
   refine Sc [.int _ _, .int _ _, .slice _ _ _] [.int _ _, .int _ _, .slice _ _ _] rfl rfl rfl rfl rfl ia rfl rfl <| oq (aI rfl) <| N0 <| Jr ?_
   cases hm
   exact ret_ok (fn := Tryz.f215) rfl (.agg rfl ii ii (.tmp rfl .nil)) ⟨_, _, rfl, ⟨_, rfl, ⟨_, _, _, rfl, (Sls.nil (R := (LR IntR 2)) (sz := 1) _)⟩⟩, rfl⟩
theorem r16_together_fn {h : Heap} {x0 : TMat} {x1 : TMat} {v0 : Value} {v1 : Value} (r0 : AggV TMatR h v0 x0) (r1 : AggV TMatR h v1 x1) {r : TMat} (hm : M.r16_together x0 x1 = some r) :
    Fn Tryz.prog 167 #[v0, v1] h fun v h' => AggV TMatR h' v r := by
 obtain ⟨_, rfl, _, _, _, rfl, b⟩ := r0
 obtain ⟨_, rfl, _, _, _, rfl, c⟩ := r1
 refine Fn.intro (args := [_, _]) Tryz.func167 rfl rfl (lB rfl) fun w => ?_
 unfold M.r16_together at hm
 refine SR <| o_bx (v := .agg ⟨[.int _ _, .int _ _, .slice _ _ _]⟩) rfl rfl fun _ => o_bx (v := .agg ⟨[.int _ _, .int _ _, .slice _ _ _]⟩) rfl rfl fun _ => o_al fun _ => N0 <| Sq <| bE hm fun _ a hm => Rg <| oq (q_lda (vs := [_, _, _]) rfl ii ⟨rfl, rfl, rfl, trivial⟩) <| oq (q_lda (vs := [_, _, _]) rfl ii ⟨rfl, rfl, rfl, trivial⟩) <| oc (r05_Stack_fn (x0 := x0) ⟨_, rfl, ⟨_, _, _, rfl, Sm b⟩⟩ (x1 := x1) ⟨_, rfl, ⟨_, _, _, rfl, Sm c⟩⟩ a) fun _ _ _ e => ?_
 obtain ⟨_, _, rfl, f, g⟩ := e
 obtain ⟨_, rfl, _, _, _, rfl, d⟩ := f
 cases g
 refine oq q_mv <| oq (q_ex rfl rfl) <| oq (q_ex rfl rfl) <| o_al fun _ => Sc [.int _ _, .int _ _, .slice _ _ _] [.int _ _, .int _ _, .slice _ _ _] rfl rfl rfl rfl rfl ia rfl rfl <| oq (aI rfl) <| N0 <| SR <| oq (q_lda (vs := [_, _, _]) rfl ii ⟨rfl, rfl, rfl, trivial⟩) <| Sc [.int _ _, .int _ _, .slice _ _ _] [.int _ _, .int _ _, .slice _ _ _] rfl rfl rfl rfl rfl ia rfl rfl <| N0 <| Jr ?_
 cases hm
 exact ret_ok (fn := Tryz.f167) rfl (.agg rfl ii ii .nil) ⟨_, rfl, ⟨_, _, _, rfl, Sm d⟩⟩
theorem r05_SameVec_fn {h : Heap} {x0 : List Int} {x1 : List Int} {v0 : Value} {v1 : Value} (r0 : Sls IntR 2 h v0 x0) (r1 : Sls IntR 2 h v1 x1) {r : Bool} (hm : M.r05_SameVec x0 x1 = some r) :
    Fn Tryz.prog 213 #[v0, v1] h fun v h' => v = .bool r := by
 obtain ⟨_, _, _, rfl, b⟩ := r0.op3
 obtain ⟨_, _, _, rfl, e⟩ := r1.op3
 refine Fn.intro (args := [_, _]) Tryz.func213 rfl rfl (lB rfl) fun w => ?_
 unfold M.r05_SameVec at hm
 refine SR <| oq (aB rfl) <| N0 <| Sq <| SR <| oq (mS rfl) <| oq (q_lenE (k := x0.length) rfl (Sls.len b)) <| oq (mS rfl) <| oq (q_lenE (k := x1.length) rfl (Sls.len e)) <| oq (q_neq rfl rfl) <| N0 <| iC hm (fun f hm => ?_) fun f hm => ?_
 · refine jF rfl (dF (fun z => z f)) <| Js <| Sq <| SR <| oq (aI rfl) <| N0 <| Jb ?_
   obtain ⟨_, hm⟩ := rngL_some hm
   refine J.loopK (α := Nat) (fun a h' L' => forL (M.r05_SameVec_b1 x1) M.r05_SameVec_k1 (List.drop a x0) a () = some r ∧ Sp ([]) L') [(0, .slice _ _ _), (1, .slice _ _ _)] ⟨rfl, rfl, trivial⟩ (fun a => [(5, .int .i64 (a : Int))]) (fun a => x0.length - a) 0 ⟨hm, ii⟩ ⟨rfl, trivial⟩ ?_
   rintro a _ _ _ _ ⟨hm, l⟩
   refine J.sp l <| Sq <| SR <| oq (mI rfl) <| oq (mS rfl) <| oq (q_lenE (k := x0.length) rfl (Sls.len b)) <| oq (q_lss rfl rfl) <| N0 ?_
   by_cases d : (a : Int) < (x0.length : Int)
   · obtain ⟨_, _, c, s, hm, i⟩ := forL_cons d hm
     unfold M.r05_SameVec_b1 at hm
     refine jT rfl (dT d) ?_
     have A : -9223372036854775808 ≤ (a : Int) + 1 ∧ (a : Int) + 1 ≤ 9223372036854775807 := by omega
     refine Js <| Sq <| Jb <| Sq ?_
     obtain ⟨_, _, rfl⟩ := Sls.op b c
     refine aE b s fun _ o m => ?_
     obtain ⟨_, _, _, _, rfl, x⟩ := IntR.op m
     refine nE hm fun _ _ q j t hm => ?_
     obtain ⟨_, _, rfl⟩ := Sls.op e j
     refine aE e t fun _ p n => ?_
     obtain ⟨_, _, _, _, rfl, y⟩ := IntR.op n
     refine bE hm fun _ u hm => J.drawB [] [] <| Dc 0 rfl (mS rfl) <| Dc 1 rfl (mI rfl) <| Dc 2 rfl (q_ian rfl rfl rfl (ln b c)) <| Dl 3 rfl (q_ldfa rfl o) <| Dc 4 rfl (mS rfl) <| Dc 5 rfl (mI rfl) <| Dc 6 rfl (q_ian rfl rfl q (ln e j)) <| Dl 7 rfl (q_ldfa rfl p) <| Do 8 <| Xe rfl rfl <| oc (rsame_fn (iu x) (iu y) u) fun _ _ _ B => ?_
     cases B
     refine NE <| Dc 9 rfl (q_not rfl) <| Dd <| iC hm (fun g hm => ?_) fun g hm => ?_
     · refine jF rfl (bT (g)) <| Js <| Rg <| oq (mI rfl) <| oq (q_add rfl rfl (wi64 A)) <| oq (aI rfl) <| N0 <| have hm := inl_onward hm i; ?_
       exact ⟨(a + 1), rfl, ⟨rfl, rfl, trivial⟩, ⟨rfl, trivial⟩, ⟨hm, ii⟩, (muL c), ii⟩
     · refine jT rfl (bF ((nT g))) <| SR <| oq (aB rfl) <| N0 <| have hm := inr_onward hm i; Jr ?_
       cases hm
       exact ret_ok (fn := Tryz.f213) rfl (.tmp rfl .nil) rfl
   · replace hm := forL_nil d hm
     unfold M.r05_SameVec_k1 at hm
     refine jF rfl (dF d) <| Jx <| SR <| oq (aB rfl) <| N0 <| Jr ?_
     cases hm
     exact ret_ok (fn := Tryz.f213) rfl (.tmp rfl .nil) rfl
 · refine jT rfl (dT f) <| SR <| oq (aB rfl) <| N0 <| Jr ?_
   cases hm
   exact ret_ok (fn := Tryz.f213) rfl (.tmp rfl .nil) rfl
theorem r05_Same_fn {h : Heap} {x0 : TMat} {x1 : TMat} {v0 : Value} {v1 : Value} (r0 : AggV TMatR h v0 x0) (r1 : AggV TMatR h v1 x1) {r : Bool} (hm : M.r05_Same x0 x1 = some r) :
    Fn Tryz.prog 165 #[v0, v1] h fun v h' => v = .bool r := by
 obtain ⟨_, rfl, B, x, t, rfl, d⟩ := r0
 obtain ⟨_, rfl, C, y, u, rfl, g⟩ := r1
 refine Fn.intro (args := [_, _]) Tryz.func165 rfl rfl (lB rfl) fun w => ?_
 unfold M.r05_Same at hm
 refine SR <| o_bx (v := .agg ⟨[.int _ _, .int _ _, .slice _ _ _]⟩) rfl rfl fun j => o_bx (v := .agg ⟨[.int _ _, .int _ _, .slice _ _ _]⟩) rfl rfl fun l => oq (aB rfl) <| N0 <| Sq <| Sq ?_
 refine J.joinK (α := Bool) (fun i h' L' => (M.r05_Same_j2 x0 x1) i = some r ∧ Sp ([(j, row 163 [.int .i64 x0.Rows, .int .i64 x0.Cols, .slice B x t]), (l, row 163 [.int .i64 x1.Rows, .int .i64 x1.Cols, .slice C y u])]) L') [(2, .pointer _), (3, .pointer _)] ⟨rfl, rfl, trivial⟩ (fun i => [(26, .bool i)]) ?_ ?_
 · refine iC hm (fun a hm => ?_) fun a hm => ?_
   · refine iC hm (fun b hm => ?_) fun b hm => ?_
     · refine Rg <| oq (q_fa rfl) <| oq (q_ld rfl ia rfl) <| oq (q_fa rfl) <| oq (q_ld rfl ia rfl) <| oq (q_neq rfl rfl) <| oq (mB rfl) <| gT rfl rfl (dF (fun z => z a)) <| oq (q_fa rfl) <| gT rfl rfl (dF (fun z => z a)) <| oq (q_ld rfl ia rfl) <| gT rfl rfl (dF (fun z => z a)) <| oq (q_fa rfl) <| gT rfl rfl (dF (fun z => z a)) <| oq (q_ld rfl ia rfl) <| gT rfl rfl (dF (fun z => z a)) <| oq (q_neq rfl rfl) <| oq (pkF rfl (dF (fun z => z a)) rfl) <| oq (mB rfl) <| gT rfl rfl (dF (fun z => z b)) <| oq (q_fa rfl) <| gT rfl rfl (dF (fun z => z b)) <| oq (q_ld rfl ia rfl) <| gT rfl rfl (dF (fun z => z b)) <| oq (q_lenE (k := x0.A.length) rfl (Sls.len d)) <| gT rfl rfl (dF (fun z => z b)) <| oq (q_fa rfl) <| gT rfl rfl (dF (fun z => z b)) <| oq (q_ld rfl ia rfl) <| gT rfl rfl (dF (fun z => z b)) <| oq (q_lenE (k := x1.A.length) rfl (Sls.len g)) <| gT rfl rfl (dF (fun z => z b)) <| oq (q_neq rfl rfl) <| oq (pkF rfl (dF (fun z => z b)) rfl) <| N0 ?_
       exact ⟨(decide ((x0.A.length : Int) ≠ (x1.A.length : Int))), rfl, ⟨rfl, rfl, trivial⟩, ⟨rfl, trivial⟩, ⟨hm, ii⟩, ii⟩
     · refine Rg <| oq (q_fa rfl) <| oq (q_ld rfl ia rfl) <| oq (q_fa rfl) <| oq (q_ld rfl ia rfl) <| oq (q_neq rfl rfl) <| oq (mB rfl) <| gT rfl rfl (dF (fun z => z a)) <| oq (q_fa rfl) <| gT rfl rfl (dF (fun z => z a)) <| oq (q_ld rfl ia rfl) <| gT rfl rfl (dF (fun z => z a)) <| oq (q_fa rfl) <| gT rfl rfl (dF (fun z => z a)) <| oq (q_ld rfl ia rfl) <| gT rfl rfl (dF (fun z => z a)) <| oq (q_neq rfl rfl) <| oq (pkF rfl (dF (fun z => z a)) rfl) <| oq (mB rfl) <| gF rfl rfl (dT b) <| gF rfl rfl (dT b) <| gF rfl rfl (dT b) <| gF rfl rfl (dT b) <| gF rfl rfl (dT b) <| gF rfl rfl (dT b) <| gF rfl rfl (dT b) <| oq (pkT rfl (dT b) rfl) <| N0 ?_
       exact ⟨true, rfl, ⟨rfl, rfl, trivial⟩, ⟨rfl, trivial⟩, ⟨hm, ii⟩, ii⟩
   · refine Rg <| oq (q_fa rfl) <| oq (q_ld rfl ia rfl) <| oq (q_fa rfl) <| oq (q_ld rfl ia rfl) <| oq (q_neq rfl rfl) <| oq (mB rfl) <| gF rfl rfl (dT a) <| gF rfl rfl (dT a) <| gF rfl rfl (dT a) <| gF rfl rfl (dT a) <| gF rfl rfl (dT a) <| oq (pkT rfl (dT a) rfl) <| oq (mB rfl) <| gF rfl rfl rfl <| gF rfl rfl rfl <| gF rfl rfl rfl <| gF rfl rfl rfl <| gF rfl rfl rfl <| gF rfl rfl rfl <| gF rfl rfl rfl <| oq (pkT rfl rfl rfl) <| N0 ?_
     exact ⟨true, rfl, ⟨rfl, rfl, trivial⟩, ⟨rfl, trivial⟩, ⟨hm, ii⟩, ii⟩
 · rintro i _ _ _ _ ⟨hm, q⟩
   refine J.sp q ?_
   unfold M.r05_Same_j2 at hm
   refine iC hm (fun m hm => ?_) fun m hm => ?_
   · refine jT rfl m <| SR <| oq (aB rfl) <| N0 <| Jr ?_
     cases hm
     exact ret_ok (fn := Tryz.f165) rfl (.tmp rfl .nil) rfl
   · refine jF rfl (nT m) <| Js <| Sq <| SR <| oq (aI rfl) <| N0 <| Jb ?_
     obtain ⟨_, hm⟩ := rngL_some hm
     refine J.loopK (α := Nat) (fun c h' L' => forL (M.r05_Same_b1 x1) M.r05_Same_k1 (List.drop c x0.A) c () = some r ∧ Sp ([(j, row 163 [.int .i64 x0.Rows, .int .i64 x0.Cols, .slice B x t]), (l, row 163 [.int .i64 x1.Rows, .int .i64 x1.Cols, .slice C y u])]) L') [(2, .pointer _), (3, .pointer _)] ⟨rfl, rfl, trivial⟩ (fun c => [(5, .int .i64 (c : Int))]) (fun c => x0.A.length - c) 0 ⟨hm, ii⟩ ⟨rfl, trivial⟩ ?_
     rintro c _ _ _ _ ⟨hm, s⟩
     refine J.sp s <| Sq <| SR <| oq (mI rfl) <| oq (q_fa rfl) <| oq (q_ld rfl ia rfl) <| oq (q_lenE (k := x0.A.length) rfl (Sls.len d)) <| oq (q_lss rfl rfl) <| N0 ?_
     by_cases f : (c : Int) < (x0.A.length : Int)
     · obtain ⟨_, _, e, I, hm, o⟩ := forL_cons f hm
       unfold M.r05_Same_b1 at hm
       refine jT rfl (dT f) ?_
       have P : -9223372036854775808 ≤ (c : Int) + 1 ∧ (c : Int) + 1 ≤ 9223372036854775807 := by omega
       refine Js <| Sq <| Jb <| Sq ?_
       obtain ⟨_, _, rfl⟩ := Sls.op d e
       refine aE d I fun _ F D => ?_
       obtain ⟨_, _, _, rfl, N⟩ := D
       refine nE hm fun _ _ H p K hm => ?_
       obtain ⟨_, _, rfl⟩ := Sls.op g p
       refine aE g K fun _ G E => ?_
       obtain ⟨_, _, _, rfl, O⟩ := E
       refine bE hm fun _ L hm => J.drawB [j, l] [] <| Dc 0 rfl (q_fa rfl) <| Dl 1 rfl (q_ld rfl ii rfl) <| Dc 2 rfl (mI rfl) <| Dc 3 rfl (q_ian rfl rfl rfl (ln d e)) <| Dl 4 rfl (q_ldf rfl F) <| Dc 5 rfl (q_fa rfl) <| Dl 6 rfl (q_ld rfl ii rfl) <| Dc 7 rfl (mI rfl) <| Dc 8 rfl (q_ian rfl rfl H (ln g p)) <| Dl 9 rfl (q_ldf rfl G) <| Do 10 <| Xe rfl rfl <| oc (r05_SameVec_fn (Sm N) (Sm O) L) fun _ _ _ Q => ?_
       cases Q
       refine NE <| Dc 11 rfl (q_not rfl) <| Dd <| iC hm (fun n hm => ?_) fun n hm => ?_
       · refine jF rfl (bT (n)) <| Js <| Rg <| oq (mI rfl) <| oq (q_add rfl rfl (wi64 P)) <| oq (aI rfl) <| N0 <| have hm := inl_onward hm o; ?_
         exact ⟨(c + 1), rfl, ⟨rfl, rfl, trivial⟩, ⟨rfl, trivial⟩, ⟨hm, ii⟩, (muL e), ii⟩
       · refine jT rfl (bF ((nT n))) <| SR <| oq (aB rfl) <| N0 <| have hm := inr_onward hm o; Jr ?_
         cases hm
         exact ret_ok (fn := Tryz.f165) rfl (.tmp rfl .nil) rfl
     · replace hm := forL_nil f hm
       unfold M.r05_Same_k1 at hm
       refine jF rfl (dF f) <| Jx <| SR <| oq (aB rfl) <| N0 <| Jr ?_
       cases hm
       exact ret_ok (fn := Tryz.f165) rfl (.tmp rfl .nil) rfl
theorem r16_Contains_fn {h : Heap} {x0 : TMat} {x1 : List Int} {v0 : Value} {v1 : Value} (r0 : AggV TMatR h v0 x0) (r1 : Sls IntR 2 h v1 x1) {r : Bool} (hm : M.r16_Contains x0 x1 = some r) :
    Fn Tryz.prog 108 #[v0, v1] h fun v h' => v = .bool r := by
 obtain ⟨_, rfl, _, _, _, rfl, b⟩ := r0
 obtain ⟨_, _, _, rfl, c⟩ := r1.op3
 refine Fn.intro (args := [_, _]) Tryz.func108 rfl rfl (lB rfl) fun w => ?_
 unfold M.r16_Contains at hm
 refine SR <| o_bx (v := .agg ⟨[.int _ _, .int _ _, .slice _ _ _]⟩) rfl rfl fun d => oq (aB rfl) <| N0 <| Sq <| SR <| oq (mS rfl) <| oq (q_lenE (k := x1.length) rfl (Sls.len c)) <| oq (q_fa rfl) <| oq (q_ld rfl ia rfl) <| oq (q_neq rfl rfl) <| N0 <| iC hm (fun a hm => ?_) fun a hm => ?_
 · refine jF rfl (dF (fun z => z a)) <| Js <| Sq <| bE hm fun x e hm => bE hm fun y f hm => bE hm fun A g hm => bE hm fun B i hm => bE hm fun _ j hm => J.drawB [d] [] <| Dl 0 rfl (q_lda (vs := [_, _, _]) rfl ii ⟨rfl, rfl, rfl, trivial⟩) <| Dc 1 rfl (mS rfl) <| Dl 5 rfl (q_lda (vs := [_, _, _]) rfl ii ⟨rfl, rfl, rfl, trivial⟩) <| Do 2 <| Xe rfl rfl <| oc (r05_Row_fn (Sm c) e) fun _ _ _ p => ?_
   obtain ⟨_, rfl, _, _, _, rfl, l⟩ := p
   refine NE <| Do 3 <| Xe rfl rfl <| oc (r16_together_fn (x0 := x0) ⟨_, rfl, ⟨_, _, _, rfl, Sm b⟩⟩ (x1 := x) ⟨_, rfl, ⟨_, _, _, rfl, Sm l⟩⟩ f) fun _ _ _ q => ?_
   obtain ⟨_, rfl, _, _, _, rfl, m⟩ := q
   refine NE <| Do 4 <| Xe rfl rfl <| oc (r12_Basis_fn (x0 := y) ⟨_, rfl, ⟨_, _, _, rfl, Sm m⟩⟩ g) fun _ _ _ s => ?_
   obtain ⟨_, rfl, _, _, _, rfl, n⟩ := s
   refine NE <| Do 6 <| Xe rfl rfl <| oc (r12_Basis_fn (x0 := x0) ⟨_, rfl, ⟨_, _, _, rfl, Sm b⟩⟩ i) fun _ _ _ t => ?_
   obtain ⟨_, rfl, _, _, _, rfl, o⟩ := t
   refine NE <| Do 7 <| Xe rfl rfl <| oc (r05_Same_fn (x0 := A) ⟨_, rfl, ⟨_, _, _, rfl, Sm n⟩⟩ (x1 := B) ⟨_, rfl, ⟨_, _, _, rfl, Sm o⟩⟩ j) fun _ _ _ u => ?_
   cases u
   refine NE <| Dc 8 rfl (aB rfl) <| Dd <| Jr ?_
   cases hm
   exact ret_ok (fn := Tryz.f108) rfl (.tmp rfl .nil) rfl
 · refine jT rfl (dT a) <| SR <| oq (aB rfl) <| N0 <| Jr ?_
   cases hm
   exact ret_ok (fn := Tryz.f108) rfl (.tmp rfl .nil) rfl
theorem r28_Bounds_fn {h : Heap} {x0 : List TCell} {x1 : List TFace} {v0 : Value} {v1 : Value} (r0 : Sls TCellR 3 h v0 x0) (r1 : Sls TFaceR 3 h v1 x1) {r : Bool} (hm : M.r28_Bounds x0 x1 = some r) :
    Fn Tryz.prog 36 #[v0, v1] h fun v h' => v = .bool r := by
 obtain ⟨_, _, _, rfl, c⟩ := r0.op3
 obtain ⟨_, _, _, rfl, b⟩ := r1.op3
 refine Fn.intro (args := [_, _]) Tryz.func36 rfl rfl (lB rfl) fun w => ?_
 unfold M.r28_Bounds at hm
 refine SR <| oq (aB rfl) <| N0 <| Sq <| bE hm fun _ d hm => Rg <| oq (mS rfl) <| oq (mS rfl) <| oc (r26_Dim_fn (Sm c) (Sm b) d) fun _ _ _ m => ?_
 obtain ⟨_, _, rfl, n, o⟩ := m
 cases n
 cases o
 refine oq q_mv <| oq (q_ex rfl rfl) <| oq (q_ex rfl rfl) <| oq (aI rfl) <| oq (aI rfl) <| N0 <| Sq ?_
 by_cases a : (x1.length : Int) = 0
 focus
  replace hm := ite_T a hm
  refine Rg <| oq (mS rfl) <| oq (q_lenE (k := x1.length) rfl (Sls.len b)) <| oq (q_eql rfl rfl) <| oq (mB rfl) <| gF rfl rfl (dT a) <| gF rfl rfl (dT a) <| gF rfl rfl (dT a) <| gF rfl rfl (dT a) <| gF rfl rfl (dT a) <| gF rfl rfl (dT a) <| gF rfl rfl (dT a) <| gF rfl rfl (dT a) <| gF rfl rfl (dT a) <| oq (pkT rfl (dT a) rfl) ?_
 rotate_left
 focus
  replace hm := ite_F a hm
  refine kS hm fun l hm => bE hm fun t e hm => bE hm fun _ f hm => bE hm fun _ g hm => Rg <| oq (mS rfl) <| oq (q_lenE (k := x1.length) rfl (Sls.len b)) <| oq (q_eql rfl rfl) <| oq (mB rfl) <| gT rfl rfl (dF a) <| oq (mS rfl) <| gT rfl rfl (dF a) <| oq (mI rfl) <| gT rfl rfl (dF a) <| oq (q_add rfl rfl (wi64 l)) <| gT rfl rfl (dF a) <| oc (r25_Boundary_fn (Sm c) e) fun _ _ _ p => ?_
  obtain ⟨_, rfl, _, _, _, rfl, i⟩ := p
  refine gT rfl rfl (dF a) <| oq (mS rfl) <| gT rfl rfl (dF a) <| oq (mI rfl) <| gT rfl rfl (dF a) <| oq (mS rfl) <| gT rfl rfl (dF a) <| oc (r26_Row_fn (Sm c) (Sm b) f) fun _ _ _ q => ?_
  obtain ⟨_, _, _, rfl, j⟩ := q.op3
  refine gT rfl rfl (dF a) <| oc (r16_Contains_fn (x0 := t) ⟨_, rfl, ⟨_, _, _, rfl, Sm i⟩⟩ (Sm j) g) fun _ _ _ s => ?_
  cases s
  refine oq (pkF rfl (dF a) rfl) ?_
 rotate_left
 all_goals
  refine oq (aB rfl) <| N0 <| Jr ?_
  cases hm
  exact ret_ok (fn := Tryz.f36) rfl (.tmp rfl .nil) rfl
theorem l31_MergeEuler_fn {h : Heap} {x0 : R26Raw} {x1 : Int × Int × Int} {x2 : List Int} {v0 : Value} {v1 : Value} {v2 : Value} (r0 : AggV R26RawR h v0 x0) (r1 : AggV A3Uint8R h v1 x1) (r2 : Sls (KR .i8) 1 h v2 x2) {r : Bool} (hm : M.l31_MergeEuler x0 x1 x2 = some r) :
    Fn Tryz.prog 10 #[v0, v1, v2] h fun v h' => v = .bool r := by
 obtain ⟨_, rfl, _, _, _, rfl, aO⟩ := r0
 obtain ⟨_, rfl, r1q⟩ := r1
 cases r1q
 obtain ⟨_, _, _, rfl, aP⟩ := r2.op3
 refine Fn.intro (args := [_, _, _]) Tryz.func10 rfl rfl (lB rfl) fun w => ?_
 unfold M.l31_MergeEuler at hm
 refine SR <| o_bx (v := .agg ⟨[.int _ _, .slice _ _ _]⟩) rfl rfl fun _ => o_bx (v := .agg ⟨[.int _ _, .int _ _, .int _ _]⟩) rfl rfl fun t => oq (aB rfl) <| N0 <| Sq <| bE hm fun ah aJ hm => Rg <| oc (l31_sanity_fn aJ) fun _ _ _ aT => ?_
 cases aT
 refine oq (aB rfl) <| N0 <| Sq <| bE hm fun n aK hm => Rg <| oq (q_lda (vs := [_, _]) rfl ii ⟨rfl, rfl, trivial⟩) <| oc (r26_Made_fn (x0 := x0) ⟨_, rfl, ⟨_, _, _, rfl, Sm aO⟩⟩ aK) fun _ _ _ aU => ?_
 obtain ⟨_, _, _, rfl, e⟩ := aU.op3
 refine oq (aS rfl) <| N0 <| Sq <| bE hm fun N aL hm => Rg <| oq (mS rfl) <| oq (q_jan (i := 0) rfl rfl rfl (by decide)) <| oq (q_ld rfl ia rfl) <| oc (l31_pieces_fn (Sm e) aL) fun _ _ _ aV => ?_
 obtain ⟨_, _, rfl, aW, aX⟩ := aV
 obtain ⟨_, _, _, rfl, L⟩ := aW.op3
 cases aX
 refine oq q_mv <| oq (q_ex rfl rfl) <| oq (q_ex rfl rfl) <| oq (aS rfl) <| oq (aB rfl) <| N0 <| Sq <| SR <| oq (mB rfl) <| oq (q_not rfl) <| N0 <| iC hm (fun R hm => ?_) fun R hm => ?_
 · refine jF rfl (bT (R)) <| Js <| Sq <| bE hm fun u aM hm => Rg <| oq (mS rfl) <| oc (r25_Euler_fn (Sm e) aM) fun _ _ _ aY => ?_
   cases aY
   refine oq (aI rfl) <| N0 <| Sq <| SR <| oq (aI rfl) <| N0 <| Jb ?_
   obtain ⟨_, hm⟩ := rngL_some hm
   refine J.loopK (α := Nat) (fun f h' L' => forL (M.l31_MergeEuler_b4 u) (M.l31_MergeEuler_k4 x1 x2 ah n u) (List.drop f N.1) f () = some r ∧ Sp ([(t, row 84 [.int .u8 x1.1, .int .u8 x1.2.1, .int .u8 x1.2.2])]) L') [(2, .slice _ _ _), (4, .pointer _), (7, .bool _), (8, .slice _ _ _), (9, .slice _ _ _), (11, .int _ _)] ⟨rfl, rfl, rfl, rfl, rfl, rfl, trivial⟩ (fun f => [(12, .int .i64 (f : Int))]) (fun f => N.1.length - f) 0 ⟨hm, ii⟩ ⟨rfl, trivial⟩ ?_
   rintro f _ _ _ _ ⟨hm, W⟩
   refine J.sp W <| Sq <| SR <| oq (mI rfl) <| oq (mS rfl) <| oq (q_lenE (k := N.1.length) rfl (Sls.len L)) <| oq (q_lss rfl rfl) <| N0 ?_
   by_cases K : (f : Int) < (N.1.length : Int)
   · obtain ⟨_, _, F, aq, hm, V⟩ := forL_cons K hm
     unfold M.l31_MergeEuler_b4 at hm
     refine jT rfl (dT K) ?_
     have aR : -9223372036854775808 ≤ (f : Int) + 1 ∧ (f : Int) + 1 ≤ 9223372036854775807 := by omega
     refine Js <| Sq <| Jb <| Sq ?_
     obtain ⟨_, _, rfl⟩ := Sls.op L F
     refine aE L aq fun _ ap ao => ?_
     obtain ⟨_, _, _, _, _, _, rfl, aQ, _⟩ := ao
     refine bE hm fun _ aN hm => Rg <| oq (mS rfl) <| oq (mI rfl) <| oq (q_ian rfl rfl rfl (ln L F)) <| oq (q_fa rfl) <| oq (q_ldf rfl (ap.cell (j := 0) rfl)) <| oc (r25_Euler_fn (Sm aQ) aN) fun _ _ _ aZ => ?_
     cases aZ
     refine oq (mI rfl) <| oq (q_neq rfl rfl) <| N0 <| iC hm (fun S hm => ?_) fun S hm => ?_
     · refine jF rfl (dF (fun z => z S)) <| Js <| Rg <| oq (mI rfl) <| oq (q_add rfl rfl (wi64 aR)) <| oq (aI rfl) <| N0 <| have hm := inl_onward hm V; ?_
       exact ⟨(f + 1), rfl, ⟨rfl, rfl, rfl, rfl, rfl, rfl, trivial⟩, ⟨rfl, trivial⟩, ⟨hm, ii⟩, (muL F), ii⟩
     · refine jT rfl (dT S) <| SR <| oq (aB rfl) <| N0 <| have hm := inr_onward hm V; Jr ?_
       cases hm
       exact ret_ok (fn := Tryz.f10) rfl (.tmp rfl .nil) rfl
   · replace hm := forL_nil K hm
     unfold M.l31_MergeEuler_k4 at hm
     refine jF rfl (dF K) <| Jx <| Sq <| SR <| oq (aI rfl) <| N0 <| Jb ?_
     obtain ⟨_, hm⟩ := rngL_some hm
     refine J.loopK (α := Nat) (fun d h' L' => forL (M.l31_MergeEuler_b3 x1 x2 n u) (M.l31_MergeEuler_k3 ah) (List.drop d n) d () = some r ∧ Sp ([(t, row 84 [.int .u8 x1.1, .int .u8 x1.2.1, .int .u8 x1.2.2])]) L') [(2, .slice _ _ _), (4, .pointer _), (7, .bool _), (8, .slice _ _ _), (11, .int _ _)] ⟨rfl, rfl, rfl, rfl, rfl, trivial⟩ (fun d => [(13, .int .i64 (d : Int))]) (fun d => n.length - d) 0 ⟨hm, ii⟩ ⟨rfl, trivial⟩ ?_
     rintro d _ _ _ _ ⟨hm, O⟩
     refine J.sp O <| Sq <| SR <| oq (mI rfl) <| oq (mS rfl) <| oq (q_lenE (k := n.length) rfl (Sls.len e)) <| oq (q_lss rfl rfl) <| N0 ?_
     by_cases q : (d : Int) < (n.length : Int)
     · obtain ⟨_, X, m, af, hm, l⟩ := forL_cons q hm
       unfold M.l31_MergeEuler_b3 at hm
       refine jT rfl (dT q) ?_
       have G : -9223372036854775808 ≤ (d : Int) + 1 ∧ (d : Int) + 1 ≤ 9223372036854775807 := by omega
       refine Js <| Sq <| Jb <| Sq ?_
       obtain ⟨_, _, rfl⟩ := Sls.op e m
       refine aE e af fun _ ab Z => ?_
       obtain ⟨_, _, _, rfl, _⟩ := Z
       refine kS hm fun ar hm => kE hm fun au hm => nE hm fun _ _ ad ae ag hm => aE e ag fun _ ac aa => ?_
       obtain ⟨_, _, _, rfl, _⟩ := aa
       refine J.drawB [t] [] <| Dc 0 rfl (mS rfl) <| Dc 1 rfl (mI rfl) <| Dc 2 rfl (q_ian rfl rfl rfl (ln e m)) <| Dl 3 rfl (q_ldfa rfl ab) <| Dc 4 rfl (mS rfl) <| Dc 5 rfl (q_jan (i := 1) rfl rfl rfl (by decide)) <| Dl 6 rfl (q_ld rfl ii rfl) <| Dc 7 rfl (q_cv rfl (wi64 ar)) <| Dc 8 rfl (mS rfl) <| Dc 9 rfl (q_lenE (k := n.length) rfl (Sls.len e)) <| Dc 10 rfl (q_rem rfl rfl au rfl) <| Dc 11 rfl (q_ian rfl rfl ad (ln e ae)) <| Dl 12 rfl (q_ldfa rfl ac) ?_
       refine Da [13, 14] ⟨?_, ?_, trivial⟩
       focus
        refine Xe rfl rfl <| o_al fun _ => NE <| Do 14 ?_
       rotate_left
       focus
        refine Xe rfl rfl <| o_al fun _ => NE <| Do 13 ?_
       rotate_left
       all_goals
        refine Xe rfl rfl <| o_al fun _ => NE <| Do 15 <| Xe rfl rfl <| Sc [.int _ _, .int _ _, .slice _ _ _] [.int _ _, .int _ _, .slice _ _ _] rfl rfl rfl rfl rfl ia rfl rfl <| NE <| Do 16 <| Xe rfl rfl <| Sc [.int _ _, .int _ _, .slice _ _ _] [.int _ _, .int _ _, .slice _ _ _] rfl rfl rfl rfl rfl ia rfl rfl <| NE <| Dd <| Sq <| bE hm fun Y ai hm => Rg <| oq (mS rfl) <| oq (q_fa rfl) <| oq (q_ld rfl ia rfl) <| oq (q_fa rfl) <| oq (q_ld rfl ia rfl) <| oc (merge_Identify_fn (Sm e) ai) fun _ _ _ ax => ?_
        obtain ⟨_, _, _, rfl, ay, az, aA⟩ := ax
        obtain ⟨_, _, _, rfl, g⟩ := ay.op3
        obtain ⟨_, _, _, rfl, D⟩ := az.op3
        cases aA
        refine oq q_mv <| oq (q_ex rfl rfl) <| oq (q_ex rfl rfl) <| oq (q_ex rfl rfl) <| oq (aS rfl) <| oq (aS rfl) <| oq (aI rfl) <| N0 <| Sq <| SR <| oq (mI rfl) <| oq (q_neq rfl rfl) <| N0 <| iC hm (fun x hm => ?_) fun x hm => ?_
        · refine jF rfl (dF (fun z => z x)) <| Js <| SR <| oq (aI rfl) <| N0 <| Sq ?_
          refine J.joinK (α := Int) (fun p h' L' => (M.l31_MergeEuler_j2 x1 x2 n u Y) p = some X ∧ Sp ([(t, row 84 [.int .u8 x1.1, .int .u8 x1.2.1, .int .u8 x1.2.2])]) L') [(2, .slice _ _ _), (4, .pointer _), (7, .bool _), (8, .slice _ _ _), (11, .int _ _), (13, .int _ _), (16, .slice _ _ _), (17, .slice _ _ _)] ⟨rfl, rfl, rfl, rfl, rfl, rfl, rfl, rfl, trivial⟩ (fun p => [(19, .int .i64 p)]) ?_ ?_
          · refine SR <| oq (q_fa rfl) <| oq (q_ld rfl ia rfl) <| oq (q_rem rfl rfl (by decide) rfl) <| oq (q_eql rfl rfl) <| N0 <| iC hm (fun B hm => ?_) fun B hm => ?_
            · refine jT rfl (dT B) <| Rg <| oq (aI rfl) <| N0 ?_
              exact ⟨(-1), rfl, ⟨rfl, rfl, rfl, rfl, rfl, rfl, rfl, rfl, trivial⟩, ⟨rfl, trivial⟩, ⟨hm, ii⟩, ii⟩
            · refine jF rfl (dF B) <| Js ?_
              exact ⟨1, rfl, ⟨rfl, rfl, rfl, rfl, rfl, rfl, rfl, rfl, trivial⟩, ⟨rfl, trivial⟩, ⟨hm, ii⟩, ii⟩
          · rintro p _ _ _ _ ⟨hm, P⟩
            refine J.sp P ?_
            unfold M.l31_MergeEuler_j2 at hm
            refine Sq <| Sq ?_
            refine J.joinK (α := Bool) (fun s h' L' => (M.l31_MergeEuler_j1 x1 x2 n Y) s = some X ∧ Sp ([(t, row 84 [.int .u8 x1.1, .int .u8 x1.2.1, .int .u8 x1.2.2])]) L') [(2, .slice _ _ _), (4, .pointer _), (7, .bool _), (8, .slice _ _ _), (11, .int _ _), (13, .int _ _), (16, .slice _ _ _), (17, .slice _ _ _)] ⟨rfl, rfl, rfl, rfl, rfl, rfl, rfl, rfl, trivial⟩ (fun s => [(101, .bool s)]) ?_ ?_
            · refine bE hm fun _ C hm => iC hm (fun a hm => ?_) fun a hm => ?_
              · refine bE hm fun _ U hm => iC hm (fun c hm => ?_) fun c hm => ?_
                · refine bE hm fun aH am hm => kS hm fun aw hm => Rg <| oq (mS rfl) <| oc (r25_Valid_fn (Sm g) C) fun _ _ _ o => ?_
                  cases o
                  refine oq (q_not rfl) <| oq (mB rfl) <| gT rfl rfl (bT (a)) <| oq (mS rfl) <| gT rfl rfl (bT (a)) <| oq (mS rfl) <| gT rfl rfl (bT (a)) <| oq (mS rfl) <| gT rfl rfl (bT (a)) <| oc (r31_Commutes_fn (Sm e) (Sm g) (Sm D) U) fun _ _ _ I => ?_
                  cases I
                  refine gT rfl rfl (bT (a)) <| oq (q_not rfl) <| oq (pkF rfl (bT (a)) rfl) <| oq (mB rfl) <| gT rfl rfl (bT (c)) <| oq (mS rfl) <| gT rfl rfl (bT (c)) <| oc (r25_Euler_fn (Sm g) am) fun _ _ _ aG => ?_
                  cases aG
                  refine gT rfl rfl (bT (c)) <| oq (mI rfl) <| gT rfl rfl (bT (c)) <| oq (mI rfl) <| gT rfl rfl (bT (c)) <| oq (q_add rfl rfl (wi64 aw)) <| gT rfl rfl (bT (c)) <| oq (q_neq rfl rfl) <| oq (pkF rfl (bT (c)) rfl) <| N0 ?_
                  exact ⟨(decide (aH ≠ (u + p))), rfl, ⟨rfl, rfl, rfl, rfl, rfl, rfl, rfl, rfl, trivial⟩, ⟨rfl, trivial⟩, ⟨hm, ii⟩, ii⟩
                · refine Rg <| oq (mS rfl) <| oc (r25_Valid_fn (Sm g) C) fun _ _ _ o => ?_
                  cases o
                  refine oq (q_not rfl) <| oq (mB rfl) <| gT rfl rfl (bT (a)) <| oq (mS rfl) <| gT rfl rfl (bT (a)) <| oq (mS rfl) <| gT rfl rfl (bT (a)) <| oq (mS rfl) <| gT rfl rfl (bT (a)) <| oc (r31_Commutes_fn (Sm e) (Sm g) (Sm D) U) fun _ _ _ I => ?_
                  cases I
                  refine gT rfl rfl (bT (a)) <| oq (q_not rfl) <| oq (pkF rfl (bT (a)) rfl) <| oq (mB rfl) <| gF rfl rfl (bF ((nT c))) <| gF rfl rfl (bF ((nT c))) <| gF rfl rfl (bF ((nT c))) <| gF rfl rfl (bF ((nT c))) <| gF rfl rfl (bF ((nT c))) <| gF rfl rfl (bF ((nT c))) <| oq (pkT rfl (bF ((nT c))) rfl) <| N0 ?_
                  exact ⟨true, rfl, ⟨rfl, rfl, rfl, rfl, rfl, rfl, rfl, rfl, trivial⟩, ⟨rfl, trivial⟩, ⟨hm, ii⟩, ii⟩
              · refine Rg <| oq (mS rfl) <| oc (r25_Valid_fn (Sm g) C) fun _ _ _ o => ?_
                cases o
                refine oq (q_not rfl) <| oq (mB rfl) <| gF rfl rfl (bF ((nT a))) <| gF rfl rfl (bF ((nT a))) <| gF rfl rfl (bF ((nT a))) <| gF rfl rfl (bF ((nT a))) <| gF rfl rfl (bF ((nT a))) <| oq (pkT rfl (bF ((nT a))) rfl) <| oq (mB rfl) <| gF rfl rfl rfl <| gF rfl rfl rfl <| gF rfl rfl rfl <| gF rfl rfl rfl <| gF rfl rfl rfl <| gF rfl rfl rfl <| oq (pkT rfl rfl rfl) <| N0 ?_
                exact ⟨true, rfl, ⟨rfl, rfl, rfl, rfl, rfl, rfl, rfl, rfl, trivial⟩, ⟨rfl, trivial⟩, ⟨hm, ii⟩, ii⟩
            · rintro s _ _ _ _ ⟨hm, Q⟩
              refine J.sp Q ?_
              unfold M.l31_MergeEuler_j1 at hm
              refine iC hm (fun y hm => ?_) fun y hm => ?_
              · refine jT rfl y <| SR <| oq (aB rfl) <| N0 <| have hm := inr_onward hm l; Jr ?_
                cases hm
                exact ret_ok (fn := Tryz.f10) rfl (.tmp rfl .nil) rfl
              · refine jF rfl (nT y) <| Js <| Sq <| kS hm fun av hm => bE hm fun _ aj hm => Rg <| oq (mS rfl) <| oq (q_jan (i := 2) rfl rfl rfl (by decide)) <| oq (q_ld rfl ia rfl) <| oq (q_cv rfl (wi64 av)) <| oq (q_rem rfl rfl (by decide) rfl) <| oq (mS rfl) <| oc (r26_Cyclic_fn (Sm e) (Sm aP) aj) fun _ _ _ aC => ?_
                obtain ⟨_, _, _, rfl, E⟩ := aC.op3
                refine oq (aS rfl) <| N0 <| Sq <| bE hm fun _ T hm => iC hm (fun b hm => ?_) fun b hm => ?_
                · refine bE hm fun _ ak hm => bE hm fun _ al hm => Rg <| oq (mS rfl) <| oq (mS rfl) <| oc (r28_Bounds_fn (Sm e) (Sm E) T) fun _ _ _ H => ?_
                  cases H
                  refine oq (mB rfl) <| gT rfl rfl b <| oq (mS rfl) <| gT rfl rfl b <| oq (mS rfl) <| gT rfl rfl b <| oq (mS rfl) <| gT rfl rfl b <| oc (r31_Apply_fn (Sm D) (Sm E) ak) fun _ _ _ aD => ?_
                  obtain ⟨_, _, _, rfl, an⟩ := aD.op3
                  refine gT rfl rfl b <| oc (r28_Bounds_fn (Sm g) (Sm an) al) fun _ _ _ aF => ?_
                  cases aF
                  refine gT rfl rfl b <| oq (q_not rfl) <| oq (pkT rfl b rfl) <| N0 <| iC hm (fun A hm => ?_) fun A hm => ?_
                  · refine jF rfl (bT (A)) <| Js <| Rg <| oq (mI rfl) <| oq (q_add rfl rfl (wi64 G)) <| oq (aI rfl) <| N0 <| have hm := inl_onward hm l; ?_
                    exact ⟨(d + 1), rfl, ⟨rfl, rfl, rfl, rfl, rfl, trivial⟩, ⟨rfl, trivial⟩, ⟨hm, ii⟩, (muL m), ii⟩
                  · refine jT rfl (bF ((nT A))) <| SR <| oq (aB rfl) <| N0 <| have hm := inr_onward hm l; Jr ?_
                    cases hm
                    exact ret_ok (fn := Tryz.f10) rfl (.tmp rfl .nil) rfl
                · refine Rg <| oq (mS rfl) <| oq (mS rfl) <| oc (r28_Bounds_fn (Sm e) (Sm E) T) fun _ _ _ H => ?_
                  cases H
                  refine oq (mB rfl) <| gF rfl rfl (nT b) <| gF rfl rfl (nT b) <| gF rfl rfl (nT b) <| gF rfl rfl (nT b) <| gF rfl rfl (nT b) <| gF rfl rfl (nT b) <| oq (pkF rfl (nT b) rfl) <| N0 <| jF rfl rfl <| Js <| Rg <| oq (mI rfl) <| oq (q_add rfl rfl (wi64 G)) <| oq (aI rfl) <| N0 <| have hm := inl_onward hm l; ?_
                  exact ⟨(d + 1), rfl, ⟨rfl, rfl, rfl, rfl, rfl, trivial⟩, ⟨rfl, trivial⟩, ⟨hm, ii⟩, (muL m), ii⟩
        · refine jT rfl (dT x) <| Jx <| Rg <| oq (mI rfl) <| oq (q_add rfl rfl (wi64 G)) <| oq (aI rfl) <| N0 <| have hm := inl_onward hm l; ?_
          exact ⟨(d + 1), rfl, ⟨rfl, rfl, rfl, rfl, rfl, trivial⟩, ⟨rfl, trivial⟩, ⟨hm, ii⟩, (muL m), ii⟩
     · replace hm := forL_nil q hm
       unfold M.l31_MergeEuler_k3 at hm
       refine jF rfl (dF q) <| Jx <| SR <| oq (mB rfl) <| oq (aB rfl) <| N0 <| Jr ?_
       cases hm
       exact ret_ok (fn := Tryz.f10) rfl (.tmp rfl .nil) rfl
 · refine jT rfl (bF ((nT R))) <| SR <| oq (aB rfl) <| N0 <| Jr ?_
   cases hm
   exact ret_ok (fn := Tryz.f10) rfl (.tmp rfl .nil) rfl
end Go.Z
end
section
namespace Go.Z
open Go Go.RowKit
def HW (W:World):Heap:=fun b=>W.heap[b]?
section
variable {W:World} {base:Nat} {α:Type} {R:Heap→List Value→α→Prop} {sz:Nat}
theorem cell_row {b o:Nat} {v:Value} (h:W.cell? ⟨b,o,none⟩=some v):∃ l T fr,W.heap[b]?=some (.cells ⟨l⟩ T fr)∧l[o]?=some v:=by
 unfold World.cell? at h
 split at h
 ·rename_i c T fr hc
  refine ⟨c.toList,T,fr,hc,?_⟩
  simpa using h
 ·cases h
theorem cells_row {b o:Nat} {cs:List Value} (hn:0<cs.length) (h:∀ k,k<cs.length→W.cell? ⟨b,o+k,none⟩=cs[k]?):CellN (HW W) b o cs:=by
 obtain ⟨v,hv⟩:=lt_get hn
 have h0:=h 0 hn
 rw [hv] at h0
 obtain ⟨l,T,fr,hb,_⟩:=cell_row h0
 refine ⟨l,T,fr,hb,LookN.of_get fun j u hu=>?_⟩
 have hj:j<cs.length:=(List.getElem?_eq_some_iff.1 hu).1
 have h1:=h j hj
 rw [hu] at h1
 obtain ⟨l',T',fr',hb',hl'⟩:=cell_row h1
 rw [hb] at hb'
 cases hb'
 exact hl'
theorem sls_open {a:Addr} {len cap:Nat} (hz:0<sz) (hlc:len≤cap) (Pr:α→Prop) (el:∀ i,i<len→∃ cs' x,W.cells? base (a.add (i*sz)) sz=some cs'∧R (HW W) cs' x∧Pr x) :
  ∃ l,l.length=len∧Sls R sz (HW W) (.slice (some a) len cap) l∧∀ x∈l,Pr x:=by
 rcases Nat.eq_zero_or_pos len with rfl | hpos
 ·exact ⟨[],rfl,⟨[],⟨_,cap,rfl,hlc,by simp,.inl ⟨rfl,fun _ _=>trivial⟩⟩,Cells.nil⟩,fun x hx=>by cases hx⟩
 ·have hspot:a.spot=none:=by
   obtain ⟨cs',x,h1,_,_⟩:=el 0 hpos
   obtain ⟨_,hl,hc⟩:=World.cells?_some h1
   obtain ⟨v,hv⟩:=lt_get (l:=cs') (i:=0) (by omega)
   have:=hc 0 hz
   rw [hv] at this
   have:=World.cell?_spot this
   simpa [Addr.add] using this
  obtain ⟨b,o,sp⟩:=a
  simp only at hspot
  subst hspot
  have key:∀ n,n≤len→∃ (cs:List Value) (l:List α),l.length=n∧Cells R sz (HW W) cs l∧(∀ k,k<cs.length→W.cell? ⟨b,o+k,none⟩=cs[k]?)∧∀ x∈l,Pr x:=by
   intro n
   induction n with
   | zero=>exact fun _=>⟨[],[],rfl,Cells.nil,fun k hk=>by simp at hk,fun x hx=>by cases hx⟩
   | succ n ih=>
    intro hn
    obtain ⟨cs,l,hl,hc,hk,hp⟩:=ih (by omega)
    obtain ⟨cs',x,h1,hR,hpx⟩:=el n (by omega)
    obtain ⟨_,hl',hc'⟩:=World.cells?_some h1
    have hcl:cs.length=n*sz:=by rw [hc.1,hl]
    refine ⟨cs++cs',l++[x],by simp [hl],hc.snoc hl' hR,fun k hk2=>?_,fun y hy=>?_⟩
    ·rcases Nat.lt_or_ge k cs.length with h3 | h3
     ·rw [List.getElem?_append_left h3]; exact hk k h3
     ·rw [List.getElem?_append_right h3]
      have h4:=hc' (k-cs.length) (by rw [List.length_append] at hk2; omega)
      rw [add_none,add_none] at h4
      rw [← h4]
      congr 2
      omega
    ·rcases List.mem_append.1 hy with h3 | h3
     ·exact hp y h3
     ·simp at h3; subst h3; exact hpx
  obtain ⟨cs,l,hl,hc,hk,hp⟩:=key len (Nat.le_refl _)
  have hcl:cs.length=len*sz:=by rw [hc.1,hl]
  refine ⟨l,hl,⟨cs,⟨_,cap,by rw [hl],by omega,by rw [hl,hcl],.inr ⟨b,o,rfl,cells_row ?_ hk⟩⟩,hc⟩,hp⟩
  rw [hcl]; exact Nat.mul_pos hpos hz
end
section
variable {H:Type} {enc:TypeId×Value→H} {P:Program} {W:World} {base:Nat} {spare:Nat→Bool} {held:Bool}
def stN (P:Program) (t:TypeId):Option (List (Nat×Nat)):=
 match P.underlying t with
 | some (.struct fs)=>some (fs.toList.map fun f=>(f.type,f.offset))
 | _=>none
theorem open_fields {t:TypeId} {fl:List (Nat×Nat)} {fuel:Nat} {cs:List Value} {x:DataW H×List MemPlace} (ht:stN P t=some fl) (h:DataW.trod enc P W base spare held fuel t cs=some x) :
  cs.length=P.cellsOf t∧∃ n,∀ (i ty off:Nat),fl[i]?=some (ty,off)→∃ y,DataW.trod enc P W base spare held n ty ((cs.drop off).take (P.cellsOf ty))=some y:=by
 unfold stN at ht
 split at ht
 ·rename_i fs hu
  cases ht
  obtain ⟨xs,n,_,rfl,hl,hlen,hf⟩:=DataW.trod_struct hu h
  refine ⟨hl,n,fun i ty off hi=>?_⟩
  rw [List.getElem?_map] at hi
  cases e:fs.toList[i]? with
  | none=>rw [e] at hi; cases hi
  | some f=>
   rw [e] at hi
   simp only [Option.map_some,Option.some.injEq,Prod.mk.injEq] at hi
   have e2:fs[i]?=some f:=by simpa using e
   have hx:=hf i f e2
   have hi2:i<xs.length:=by rw [hlen]; exact (Array.getElem?_eq_some_iff.1 e2).1
   rw [hi.1,hi.2] at hx
   exact ⟨xs[i],by rw [hx]; simp [hi2]⟩
 ·cases ht
theorem open_sls {α:Type} {R:Heap→List Value→α→Prop} {Pr:α→Prop} {t e:TypeId} {sz fuel:Nat} {cs:List Value} {x:DataW H×List MemPlace} (ht:P.underlying t=some (.slice e)) (hc:P.cellsOf e=sz) (hz:0<sz)
  (el:∀ n cs' y,DataW.trod enc P W base spare held n e cs'=some y→∃ a,R (HW W) cs' a∧Pr a) (h:DataW.trod enc P W base spare held fuel t cs=some x) :
  ∃ p c l,cs=[.slice p l.length c]∧Sls R sz (HW W) (.slice p l.length c) l∧∀ a∈l,Pr a:=by
 rcases Go.Deep.open_slice ht h with ⟨rfl,_⟩ | ⟨a,len,cap,m,n,D,Pl,rfl,_,hl,hm,hmm,_,hx⟩
 ·exact ⟨none,0,[],rfl,Sls.nil _,fun a ha=>by cases ha⟩
 ·rw [hc] at hx
  obtain ⟨l,hll,hs,hp⟩:=sls_open (R:=R) (W:=W) (base:=base) (a:=a) (sz:=sz) hz hl Pr (fun i hi=>by
   obtain ⟨cs',h1,h2⟩:=hx i (by rw [hmm]; split<;>omega)
   obtain ⟨b,hb1,hb2⟩:=el _ _ _ h2
   exact ⟨_,b,h1,hb1,hb2⟩)
  subst hll
  exact ⟨some a,cap,l,rfl,hs,hp⟩
end
end Go.Z
end
section
namespace Go.Z
open Go Go.RowKit Go.Proofs
section
variable {H:Type} {enc:TypeId×Value→H} {W:World} {base:Nat} {spare:Nat→Bool} {held:Bool} {fuel:Nat} {x:DataW H×List MemPlace}
theorem wf26 {n:Int} (h:(Lit.int .u8 n).wf=true):0≤n∧n≤255:=by
 simp only [Lit.wf,Bool.and_eq_true,decide_eq_true_eq] at h
 have h1:=h.1
 have h2:=h.2
 simp [IntKind.min,IntKind.max,IntKind.signed,IntKind.bits] at h1 h2
 exact ⟨h1,by omega⟩
set_option maxRecDepth 100000 in
theorem open_a4 {cs:List Value} (h:DataW.trod enc Tryz.prog W base spare held fuel 88 cs=some x):∃ a,A4Int8R (HW W) cs a:=by
 have hlen:cs.length=4:=by
  obtain ⟨xs,m,_,_,hl,_,_⟩:=DataW.trod_array (n:=4) (e:=57) (by kernel_rfl) h
  rw [hl]; kernel_rfl
 match cs,hlen with
 | [a,b,c,d],_=>
  obtain ⟨y0,y1,y2,y3,n,_,h0,h1,h2,h3⟩:=Go.ChangeShapes.trod_array4 (e:=57) (by kernel_rfl) (by kernel_rfl) h
  obtain ⟨z0,e0,_⟩:=DataW.trod_int (k:=.i8) (by kernel_rfl) h0
  obtain ⟨z1,e1,_⟩:=DataW.trod_int (k:=.i8) (by kernel_rfl) h1
  obtain ⟨z2,e2,_⟩:=DataW.trod_int (k:=.i8) (by kernel_rfl) h2
  obtain ⟨z3,e3,_⟩:=DataW.trod_int (k:=.i8) (by kernel_rfl) h3
  simp at e0 e1 e2 e3
  subst e0 e1 e2 e3
  exact ⟨(z0,z1,z2,z3),rfl⟩
set_option maxRecDepth 100000 in
theorem open_raw26 {cs:List Value} (h:DataW.trod enc Tryz.prog W base spare held fuel 24 cs=some x):∃ x:R26Raw,R26RawR (HW W) cs x:=by
 obtain ⟨hlen,n,hf⟩:=open_fields (fl:=[(5,0),(22,1)]) (by kernel_rfl) h
 obtain ⟨y0,g0⟩:=hf 0 _ _ rfl
 obtain ⟨y1,g1⟩:=hf 1 _ _ rfl
 have c46:Tryz.prog.cellsOf 24=2:=by kernel_rfl
 have c5:Tryz.prog.cellsOf 5=1:=by kernel_rfl
 have c28:Tryz.prog.cellsOf 22=1:=by kernel_rfl
 rw [c46] at hlen
 match cs,hlen with
 | [a,b],_=>
  clear hf
  rw [c5] at g0
  rw [c28] at g1
  obtain ⟨u,e0,_,w0⟩:=DataW.trod_int (k:=.u8) (by kernel_rfl) g0
  obtain ⟨p,k,l,e2,hs,_⟩:=open_sls (R:=A4Int8R) (Pr:=fun _=>True) (e:=88) (sz:=4) (by kernel_rfl) (by kernel_rfl) (by decide) (fun n cs' y hy=>by
   obtain ⟨a,ha⟩:=open_a4 hy
   exact ⟨a,ha,trivial⟩) g1
  simp at e0 e2
  subst e0 e2
  exact ⟨⟨u,l⟩,p,_,k,rfl,hs⟩
end
theorem R26RawR.agg {h:Heap} {v:Value} {x:R26Raw} (r:R26RawR h v.cells.toList x):AggV R26RawR h v x:=by
 obtain ⟨p,n,c,e,s⟩:=r
 refine ⟨_,?_,p,n,c,rfl,s⟩
 cases v<;>simp [Value.cells] at e
 rename_i cs
 have:cs=⟨[.int .u8 x.S,.slice p n c]⟩:=Array.ext' e
 rw [this]
end Go.Z
end
section
namespace Go.Z
open Go Go.RowKit Go.Proofs
section
variable {H:Type} {enc:TypeId×Value→H} {W:World} {base:Nat} {spare:Nat→Bool} {held:Bool} {fuel:Nat} {x:DataW H×List MemPlace}
set_option maxRecDepth 100000 in
theorem open_a3 {cs:List Value} (h:DataW.trod enc Tryz.prog W base spare held fuel 84 cs=some x):∃ a:Int×Int×Int,A3Uint8R (HW W) cs a∧(0≤a.1∧a.1≤255)∧(0≤a.2.1∧a.2.1≤255)∧0≤a.2.2∧a.2.2≤255:=by
 have hlen:cs.length=3:=by
  obtain ⟨xs,m,_,_,hl,_,_⟩:=DataW.trod_array (n:=3) (e:=5) (by kernel_rfl) h
  rw [hl]; kernel_rfl
 match cs,hlen with
 | [a,b,c],_=>
  obtain ⟨y0,y1,y2,n,_,h0,h1,h2⟩:=Go.ChangeShapes.trod_array3 (e:=5) (by kernel_rfl) (by kernel_rfl) h
  obtain ⟨z0,e0,_,w0⟩:=DataW.trod_int (k:=.u8) (by kernel_rfl) h0
  obtain ⟨z1,e1,_,w1⟩:=DataW.trod_int (k:=.u8) (by kernel_rfl) h1
  obtain ⟨z2,e2,_,w2⟩:=DataW.trod_int (k:=.u8) (by kernel_rfl) h2
  simp at e0 e1 e2
  subst e0 e1 e2
  exact ⟨(z0,z1,z2),rfl,wf26 w0,wf26 w1,wf26 w2⟩
theorem open_ints {cs:List Value} (h:DataW.trod enc Tryz.prog W base spare held fuel 70 cs=some x):∃ p c,∃ l:List Int,cs=[.slice p l.length c]∧Sls (KR .i8) 1 (HW W) (.slice p l.length c) l:=by
 obtain ⟨p,c,l,e,hs,_⟩:=open_sls (R:=KR .i8) (Pr:=fun _=>True) (e:=57) (sz:=1) (by kernel_rfl) (by kernel_rfl) (by decide) (fun n cs' y hy=>by
  obtain ⟨z,e,_⟩:=DataW.trod_int (k:=.i8) (by kernel_rfl) hy
  exact ⟨z,e,trivial⟩) h
 exact ⟨p,c,l,e,hs⟩
end
theorem cells_slice3 {v:Value} {p:Option Addr} {n c:Nat} (h:v.cells.toList=[.slice p n c]) (hv:∃ a l k,v=.slice a l k):v=.slice p n c:=by
 obtain ⟨a,l,k,rfl⟩:=hv
 simpa [Value.cells] using h
theorem A3Uint8R.agg {h:Heap} {v:Value} {x:Int×Int×Int} (r:A3Uint8R h v.cells.toList x):AggV A3Uint8R h v x:=by
 have e:v.cells.toList=[.int .u8 x.1,.int .u8 x.2.1,.int .u8 x.2.2]:=r
 refine ⟨_,?_,rfl⟩
 cases v<;>simp [Value.cells] at e
 rename_i cs
 have:cs=⟨[.int .u8 x.1,.int .u8 x.2.1,.int .u8 x.2.2]⟩:=Array.ext' e
 rw [this]
end Go.Z
end
section
namespace Go.Proofs.YtcnhddiedfifmaaGreat
open Go
theorem cf_laid:laidOutB Tryz.pinned.checked.prog=true:=by kernel_rfl
theorem cf_maps:mapsRowed Tryz.pinned.checked.prog=true:=by kernel_rfl
theorem cf_heard:Tryz.pinned.checked.prog.stopsHeard=true:=by kernel_rfl
theorem cf_enter:Tryz.pinned.checked.prog.mayEnter=true:=by kernel_rfl
end Go.Proofs.YtcnhddiedfifmaaGreat
end
