/- Texts of ours, joined: M1W, M2W. -/
import Derived.Test.YtcnhddiedfifmaaGreatMD4
import Derived.Test.YtcnhddiedfifmaaGreatMD1
import Derived.Test.YtcnhddiedfifmaaGreatMD3
set_option linter.unusedSimpArgs false
set_option linter.unusedVariables false
set_option linter.unusedSectionVars false
set_option linter.deprecated false
set_option maxHeartbeats 4000000
section
namespace Go.Z
open Go Go.RowKit Go.Proofs
theorem r05_New_own {rr : Option Nat} {nn : Nat} {w0 : World} {h0 h : Heap} {L : Own} {x0 : Int} {x1 : Int} {r : TMat} (hm : M.r05_New x0 x1 = some r) :
    FnIn ⟨Tryz.prog, rr, nn, w0, h0⟩ 217 #[.int .i64 x0, .int .i64 x1] h (L) fun v h' L' => ∃ (b0_2 : Nat) (hs0_2 : List Value) (n0_2 c0_2 : Nat) (M0_2 : Own), v = .agg ⟨[.int .i64 r.Rows, .int .i64 r.Cols, .slice (some ⟨b0_2, 0, none⟩) n0_2 c0_2]⟩ ∧ OwnLL IntR 75 2 h' hs0_2 c0_2 r.A M0_2 ∧ n0_2 = r.A.length ∧ L' = [(b0_2, row 151 hs0_2)] ++ (M0_2 ++ (L)) := by
 refine FnIn.intro (args := [_, _]) Tryz.func217 rfl rfl (lB rfl) <| SR <| o_al fun t => N0 <| SR <| o_bs [] (by decide) rfl fun u => JL.fact (fun h => OwnLL IntR 75 2 h [] 0 ([] : List (List Int)) []) (OwnLL.emp _ _) fun C => oq (aS rfl) <| N0 <| Sq <| SR <| oq (aI rfl) <| N0 <| Jb ?_
 obtain ⟨_, hm⟩ := rngN_some hm
 refine J.loopK (α := Int × (List (List Int)) × Nat × (List Value) × Nat × Nat × Own) (fun ⟨a, g, d, b, f, e, c⟩ h' L' => (OwnLL IntR 75 2 h' b e g c ∧ f = g.length) ∧ 0 ≤ a ∧ forN (M.r05_New_b1 x1) (M.r05_New_k1 x0 x1) x0 a g = some r ∧ Sp ([(d, row 151 b)] ++ (c ++ ((t, row 163 [.int .i64 0, .int .i64 0, .slice none 0 0]) :: L))) L') [(0, .int _ _), (1, .int _ _), (4, .pointer _)] ⟨rfl, rfl, rfl, trivial⟩ (fun ⟨a, g, d, b, f, e, c⟩ => [(5, .slice (some ⟨d, 0, none⟩) f e), (6, .int .i64 a)]) (fun ⟨a, g, d, b, f, e, c⟩ => (x0 - a).toNat) ⟨0, ([] : List (List Int)), u, [], 0, 0, []⟩ ⟨⟨OwnLL.mono C, rfl⟩, Int.le_refl _, hm, ii⟩ ⟨rfl, rfl, trivial⟩ ?_
 rintro ⟨a, g, d, b, f, e, c⟩ _ _ _ _ ⟨⟨n, j⟩, l, hm, k⟩
 refine J.sp k <| Sq <| SR <| oq (mI rfl) <| oq (mI rfl) <| oq (q_lss rfl rfl) <| N0 ?_
 by_cases i : a < x0
 · obtain ⟨_, hm, o⟩ := forN_lt i hm
   unfold M.r05_New_b1 at hm
   refine jT rfl (dT i) ?_
   have B : -9223372036854775808 ≤ a + 1 ∧ a + 1 ≤ 9223372036854775807 := by omega
   refine Js <| Sq <| Jb <| bE hm fun _ y hm => bE hm fun m z hm => Rg <| oq (mS rfl) <| oq (mI rfl) <| o_mkO (R := IntR) rfl rfl y (IntR.zero0 _) fun _ _ s p => o_bs [.slice _ _ _] (by decide) rfl fun _ => o_appLL rfl j rfl (OwnLL.mono n) (Om p) ii z fun w q x D => oq (aS rfl) <| N0 <| Rg <| oq (mI rfl) <| oq (q_add rfl rfl (wi64 B)) <| oq (aI rfl) <| N0 <| have hm := inl_onward hm o; ?_
   exact ⟨⟨a + 1, m, w, q, m.length, x, (s ++ c)⟩, rfl, ⟨rfl, rfl, rfl, trivial⟩, ⟨rfl, rfl, trivial⟩, ⟨⟨OwnLL.mono D, rfl⟩, Int.le_trans l (Int.le_of_lt (Int.lt_succ _)), hm, ii⟩, (muN i), ii⟩
 · replace hm := forN_ge i hm
   unfold M.r05_New_k1 at hm
   refine jF rfl (dF i) <| Jx <| SR <| oq (mI rfl) <| oq (mI rfl) <| oq (mS rfl) <| oq (q_bd [.int _ _, .int _ _, .slice _ _ _] rfl) ?_
   refine Sc [.int _ _, .int _ _, .slice _ _ _] [.int _ _, .int _ _, .slice _ _ _] rfl rfl rfl rfl rfl ia rfl rfl <| N0 <| Jr ?_
   cases hm
   exact ret_okS (fn := Tryz.f217) (L2 := [(d, row 151 b)] ++ (c ++ (L))) rfl (.agg rfl ii ii .nil) ii ⟨d, b, f, e, c, rfl, OwnLL.mono n, j, rfl⟩
theorem r05_Identity_own {rr : Option Nat} {nn : Nat} {w0 : World} {h0 h : Heap} {L : Own} {x0 : Int} {r : TMat} (hm : M.r05_Identity x0 = some r) :
    FnIn ⟨Tryz.prog, rr, nn, w0, h0⟩ 232 #[.int .i64 x0] h (L) fun v h' L' => ∃ (b0_2 : Nat) (hs0_2 : List Value) (n0_2 c0_2 : Nat) (M0_2 : Own), v = .agg ⟨[.int .i64 r.Rows, .int .i64 r.Cols, .slice (some ⟨b0_2, 0, none⟩) n0_2 c0_2]⟩ ∧ OwnLL IntR 75 2 h' hs0_2 c0_2 r.A M0_2 ∧ n0_2 = r.A.length ∧ L' = [(b0_2, row 151 hs0_2)] ++ (M0_2 ++ (L)) := by
 refine FnIn.intro (args := [_]) Tryz.func232 rfl rfl (lB rfl) <| SR <| o_al fun V => N0 <| Sq <| bE hm fun o Y hm => Rg <| oq (mI rfl) <| oq (mI rfl) <| o_calll (r05_New_own Y) fun _ _ _ _ ae => ?_
 obtain ⟨W, P, ac, X, U, rfl, ag, N, rfl⟩ := ae
 refine o_al fun D => Sc [.int _ _, .int _ _, .slice _ _ _] [.int _ _, .int _ _, .slice _ _ _] rfl rfl rfl rfl rfl ia rfl rfl <| N0 <| Sq <| SR <| oq (aI rfl) <| N0 <| Jb ?_
 obtain ⟨_, hm⟩ := rngN_some hm
 refine J.loopK (α := Int × (List (List Int)) × Nat × (List Value) × Nat × Nat × Own) (fun ⟨b, j, d, c, g, f, k⟩ h' L' => (OwnLL IntR 75 2 h' c f j k ∧ g = j.length) ∧ 0 ≤ b ∧ forN M.r05_Identity_b1 (M.r05_Identity_k1 o) x0 b j = some r ∧ Sp ([(d, row 151 c)] ++ (k ++ ((V, row 163 [.int .i64 0, .int .i64 0, .slice none 0 0]) :: (D, row 163 [.int .i64 o.Rows, .int .i64 o.Cols, .slice (some ⟨d, 0, none⟩) g f]) :: L))) L') [(0, .int _ _), (2, .pointer _), (3, .pointer _)] ⟨rfl, rfl, rfl, trivial⟩ (fun ⟨b, j, d, c, g, f, k⟩ => [(4, .int .i64 b)]) (fun ⟨b, j, d, c, g, f, k⟩ => (x0 - b).toNat) ⟨0, o.A, W, P, ac, X, U⟩ ⟨⟨OwnLL.mono ag, N⟩, Int.le_refl _, hm, ii⟩ ⟨rfl, trivial⟩ ?_
 rintro ⟨b, j, d, c, g, f, k⟩ _ _ _ _ ⟨⟨z, n⟩, C, hm, w⟩
 refine J.sp w <| Sq <| SR <| oq (mI rfl) <| oq (mI rfl) <| oq (q_lss rfl rfl) <| N0 ?_
 by_cases l : b < x0
 · obtain ⟨_, hm, H⟩ := forN_lt l hm
   unfold M.r05_Identity_b1 at hm
   refine jT rfl (dT l) ?_
   have ab : -9223372036854775808 ≤ b + 1 ∧ b + 1 ≤ 9223372036854775807 := by omega
   refine Js <| Sq <| Jb <| nE hm fun _ F s K y hm => ?_
   obtain ⟨_, ad, _, q, O⟩ := OwnLL.hdr z y
   refine bE hm fun B Z hm => nE hm fun _ _ t u Q hm => ?_
   obtain ⟨_, _, _, E, rfl, _, R, I, G, _, T⟩ := OwnLL.cell z y q Q
   obtain ⟨_, _, _, _, rfl, _⟩ := IntR.op G
   refine J.drawB [D, d] [] <| Dc 0 rfl (q_fa rfl) <| Dl 1 rfl (q_ld rfl ii rfl) <| Dc 2 rfl (mI rfl) <| Dc 3 rfl (q_ian rfl rfl s (by rw [show g = _ from n]; exact K)) <| Dl 4 rfl (q_ld rfl ii (hdr_at q)) <| Dc 5 rfl (mI rfl) <| Do 6 <| Xe rfl rfl <| oc (rof_fn Z) fun _ _ _ af => ?_
   obtain ⟨_, _, _, _, rfl, aa⟩ := af.op
   refine NE <| Dc 7 rfl (q_ian rfl rfl t (by rw [show ad = _ from O]; exact u)) <| Do 8 <| Xe rfl rfl <| o_stLL0 (us1 := [_, _]) (ps := [_, _]) (a := B) Sz.i rfl rfl rfl rfl (OwnC.mono R) ii u I rfl (lB rfl) rfl (Mo.up aa) (setL_eq t) fun p S => JL.fact (fun h => OwnLL IntR 75 2 h c f (setL j b (setL F b B)) (E (row 75 p))) (by rw [setL_eq s]; exact T _ _ _ ii S setL_len (fun e x => Mo.m e x)) fun ah => NE <| Dd <| Rg <| oq (mI rfl) <| oq (q_add rfl rfl (wi64 ab)) <| oq (aI rfl) <| N0 <| have hm := inl_onward hm H; ?_
   exact ⟨⟨b + 1, (setL j b (setL F b B)), d, c, g, f, (E (row 75 p))⟩, rfl, ⟨rfl, rfl, rfl, trivial⟩, ⟨rfl, trivial⟩, ⟨⟨OwnLL.mono ah, (setL_hn n)⟩, Int.le_trans C (Int.le_of_lt (Int.lt_succ _)), hm, ii⟩, (muN l), ii⟩
 · replace hm := forN_ge l hm
   unfold M.r05_Identity_k1 at hm
   refine jF rfl (dF l) <| Jx <| SR <| oq (q_lda (vs := [_, _, _]) rfl ii ⟨rfl, rfl, rfl, trivial⟩) <| Sc [.int _ _, .int _ _, .slice _ _ _] [.int _ _, .int _ _, .slice _ _ _] rfl rfl rfl rfl rfl ia rfl rfl <| N0 <| Jr ?_
   cases hm
   exact ret_okS (fn := Tryz.f232) (L2 := [(d, row 151 c)] ++ (k ++ (L))) rfl (.agg rfl ii ii .nil) ii ⟨d, c, g, f, k, rfl, OwnLL.mono z, n, rfl⟩
theorem r05_Scale_own {rr : Option Nat} {nn : Nat} {w0 : World} {h0 h : Heap} {L : Own} {x0 : TMat} {x1 : Int} {v0 : Value} {v1 : Value} (r0 : AggV TMatR h v0 x0) (r1 : IntAt h v1 x1) {r : TMat} (hm : M.r05_Scale x0 x1 = some r) :
    FnIn ⟨Tryz.prog, rr, nn, w0, h0⟩ 252 #[v0, v1] h (L) fun v h' L' => ∃ (b0_2 : Nat) (hs0_2 : List Value) (n0_2 c0_2 : Nat) (M0_2 : Own), v = .agg ⟨[.int .i64 r.Rows, .int .i64 r.Cols, .slice (some ⟨b0_2, 0, none⟩) n0_2 c0_2]⟩ ∧ OwnLL IntR 75 2 h' hs0_2 c0_2 r.A M0_2 ∧ n0_2 = r.A.length ∧ L' = [(b0_2, row 151 hs0_2)] ++ (M0_2 ++ (L)) := by
 obtain ⟨_, rfl, aq, ao, al, rfl, O⟩ := r0
 obtain ⟨an, ar, ap, am, rfl, aR⟩ := r1.op
 refine FnIn.intro (args := [_, _]) Tryz.func252 rfl rfl (lB rfl) <| SR <| o_bx (v := .agg ⟨[.int _ _, .int _ _, .slice _ _ _]⟩) rfl rfl fun H => o_bx (v := .agg ⟨[.bool _, .slice _ _ _]⟩) rfl rfl fun I => o_al fun ak => N0 <| Sq <| bE hm fun u aQ hm => Rg <| oq (q_fa rfl) <| oq (q_ld rfl ia rfl) <| oq (q_fa rfl) <| oq (q_ld rfl ia rfl) <| o_calll (r05_New_own aQ) fun _ _ _ _ aY => ?_
 obtain ⟨aO, aJ, aV, aP, aN, rfl, aZ, aG, rfl⟩ := aY
 refine o_al fun K => Sc [.int _ _, .int _ _, .slice _ _ _] [.int _ _, .int _ _, .slice _ _ _] rfl rfl rfl rfl rfl ia rfl rfl <| N0 <| Sq <| SR <| oq (aI rfl) <| N0 <| Jb ?_
 obtain ⟨_, hm⟩ := rngN_some hm
 refine J.loopK (α := Int × (List (List Int)) × Nat × (List Value) × Nat × Nat × Own) (fun ⟨b, s, k, d, q, p, j⟩ h' L' => (OwnLL IntR 75 2 h' d p s j ∧ q = s.length) ∧ 0 ≤ b ∧ forN (M.r05_Scale_b2 x0 x1) (M.r05_Scale_k2 u) x0.Rows b s = some r ∧ Sp ([(k, row 151 d)] ++ (j ++ ((H, row 163 [.int .i64 x0.Rows, .int .i64 x0.Cols, .slice aq ao al]) :: (I, row 75 [.bool an, .slice ar ap am]) :: (ak, row 163 [.int .i64 0, .int .i64 0, .slice none 0 0]) :: (K, row 163 [.int .i64 u.Rows, .int .i64 u.Cols, .slice (some ⟨k, 0, none⟩) q p]) :: L))) L') [(2, .pointer _), (3, .pointer _), (4, .pointer _), (5, .pointer _)] ⟨rfl, rfl, rfl, rfl, trivial⟩ (fun ⟨b, s, k, d, q, p, j⟩ => [(6, .int .i64 b)]) (fun ⟨b, s, k, d, q, p, j⟩ => (x0.Rows - b).toNat) ⟨0, u.A, aO, aJ, aV, aP, aN⟩ ⟨⟨OwnLL.mono aZ, aG⟩, Int.le_refl _, hm, ii⟩ ⟨rfl, trivial⟩ ?_
 rintro ⟨b, s, k, d, q, p, j⟩ _ _ _ _ ⟨⟨au, S⟩, ae, hm, T⟩
 refine J.sp T <| Sq <| SR <| oq (mI rfl) <| oq (q_fa rfl) <| oq (q_ld rfl ia rfl) <| oq (q_lss rfl rfl) <| N0 ?_
 by_cases w : b < x0.Rows
 · obtain ⟨aX, hm, aC⟩ := forN_lt w hm
   unfold M.r05_Scale_b2 at hm
   refine jT rfl (dT w) ?_
   have aT : -9223372036854775808 ≤ b + 1 ∧ b + 1 ≤ 9223372036854775807 := by omega
   refine Js <| Sq <| Jb <| SR <| oq (aI rfl) <| N0 <| Jb ?_
   obtain ⟨_, hm⟩ := rngN_some hm
   refine J.loopK (α := Int × (List (List Int)) × Nat × (List Value) × Nat × Nat × Own) (fun ⟨c, g, l, f, o, n, t⟩ h' L' => (OwnLL IntR 75 2 h' f n g t ∧ o = g.length) ∧ 0 ≤ c ∧ forN (M.r05_Scale_b1 x0 x1 b) M.r05_Scale_k1 x0.Cols c g = some aX ∧ Sp ([(l, row 151 f)] ++ (t ++ ((H, row 163 [.int .i64 x0.Rows, .int .i64 x0.Cols, .slice aq ao al]) :: (I, row 75 [.bool an, .slice ar ap am]) :: (ak, row 163 [.int .i64 0, .int .i64 0, .slice none 0 0]) :: (K, row 163 [.int .i64 u.Rows, .int .i64 u.Cols, .slice (some ⟨l, 0, none⟩) o n]) :: L))) L') [(2, .pointer _), (3, .pointer _), (4, .pointer _), (5, .pointer _), (6, .int _ _)] ⟨rfl, rfl, rfl, rfl, rfl, trivial⟩ (fun ⟨c, g, l, f, o, n, t⟩ => [(7, .int .i64 c)]) (fun ⟨c, g, l, f, o, n, t⟩ => (x0.Cols - c).toNat) ⟨0, s, k, d, q, p, j⟩ ⟨⟨OwnLL.mono au, S⟩, Int.le_refl _, hm, ii⟩ ⟨rfl, trivial⟩ ?_
   rintro ⟨c, g, l, f, o, n, t⟩ _ _ _ _ ⟨⟨W, B⟩, af, hm, U⟩
   refine J.sp U <| Sq <| SR <| oq (mI rfl) <| oq (q_fa rfl) <| oq (q_ld rfl ia rfl) <| oq (q_lss rfl rfl) <| N0 ?_
   by_cases y : c < x0.Cols
   · obtain ⟨_, hm, aD⟩ := forN_lt y hm
     unfold M.r05_Scale_b1 at hm
     refine jT rfl (dT y) ?_
     have aU : -9223372036854775808 ≤ c + 1 ∧ c + 1 ≤ 9223372036854775807 := by omega
     refine Js <| Sq <| Jb <| nE hm fun _ av Q aF V hm => ?_
     obtain ⟨_, aW, _, P, aH⟩ := OwnLL.hdr W V
     refine nE hm fun _ _ aA R aK hm => ?_
     obtain ⟨_, _, rfl⟩ := Sls.op O R
     refine aE O aK fun _ aa X => ?_
     obtain ⟨_, _, _, rfl, z⟩ := X
     refine nE hm fun _ _ ac F ag hm => ?_
     obtain ⟨_, _, rfl⟩ := Sls.op z F
     refine aE z ag fun _ ab Y => ?_
     obtain ⟨_, _, _, _, rfl, ay⟩ := IntR.op Y
     refine bE hm fun C ax hm => nE hm fun _ _ E G ah hm => ?_
     obtain ⟨_, _, _, N, rfl, _, ai, ad, Z, _, aw⟩ := OwnLL.cell W V P ah
     obtain ⟨_, _, _, _, rfl, _⟩ := IntR.op Z
     refine J.drawB [K, l, H, I] [] <| Dc 0 rfl (q_fa rfl) <| Dl 1 rfl (q_ld rfl ii rfl) <| Dc 2 rfl (mI rfl) <| Dc 3 rfl (q_ian rfl rfl Q (by rw [show o = _ from B]; exact aF)) <| Dl 4 rfl (q_ld rfl ii (hdr_at P)) <| Dc 5 rfl (mI rfl) <| Dc 6 rfl (q_fa rfl) <| Dl 7 rfl (q_ld rfl ii rfl) <| Dc 8 rfl (mI rfl) <| Dc 9 rfl (q_ian rfl rfl aA (ln O R)) <| Dl 10 rfl (q_ldf rfl aa) <| Dc 11 rfl (mI rfl) <| Dc 12 rfl (q_ian rfl rfl ac (ln z F)) <| Dl 13 rfl (q_ldfa rfl ab) <| Dl 14 rfl (q_lda (vs := [_, _]) rfl ii ⟨rfl, rfl, trivial⟩) <| Do 15 <| Xe rfl rfl <| oc (rmul_fn (iu ay) (iu aR) ax) fun _ _ _ aL => ?_
     obtain ⟨_, _, _, _, rfl, az⟩ := aL.op
     refine NE <| Dc 16 rfl (q_ian rfl rfl E (by rw [show aW = _ from aH]; exact G)) <| Do 17 <| Xe rfl rfl <| o_stLL0 (us1 := [_, _]) (ps := [_, _]) (a := C) Sz.i rfl rfl rfl rfl (OwnC.mono ai) ii G ad rfl (lB rfl) rfl (Mo.up az) (setL_eq E) fun D aj => JL.fact (fun h => OwnLL IntR 75 2 h f n (setL g b (setL av c C)) (N (row 75 D))) (by rw [setL_eq Q]; exact aw _ _ _ ii aj setL_len (fun e x => Mo.m e x)) fun aM => NE <| Dd <| Rg <| oq (mI rfl) <| oq (q_add rfl rfl (wi64 aU)) <| oq (aI rfl) <| N0 <| have hm := inl_onward hm aD; ?_
     exact ⟨⟨c + 1, (setL g b (setL av c C)), l, f, o, n, (N (row 75 D))⟩, rfl, ⟨rfl, rfl, rfl, rfl, rfl, trivial⟩, ⟨rfl, trivial⟩, ⟨⟨OwnLL.mono aM, (setL_hn B)⟩, Int.le_trans af (Int.le_of_lt (Int.lt_succ _)), hm, ii⟩, (muN y), ii⟩
   · replace hm := forN_ge y hm
     unfold M.r05_Scale_k1 at hm
     refine jF rfl (dF y) <| Jx <| Rg <| oq (mI rfl) <| oq (q_add rfl rfl (wi64 aT)) <| oq (aI rfl) <| N0 <| have hm := inl_onward hm aC; ?_
     exact ⟨⟨b + 1, g, l, f, o, n, t⟩, rfl, ⟨rfl, rfl, rfl, rfl, trivial⟩, ⟨rfl, trivial⟩, ⟨⟨OwnLL.mono W, B⟩, Int.le_trans ae (Int.le_of_lt (Int.lt_succ _)), hm, ii⟩, (muN w), ii⟩
 · replace hm := forN_ge w hm
   unfold M.r05_Scale_k2 at hm
   refine jF rfl (dF w) <| Jx <| SR <| oq (q_lda (vs := [_, _, _]) rfl ii ⟨rfl, rfl, rfl, trivial⟩) <| Sc [.int _ _, .int _ _, .slice _ _ _] [.int _ _, .int _ _, .slice _ _ _] rfl rfl rfl rfl rfl ia rfl rfl <| N0 <| Jr ?_
   cases hm
   exact ret_okS (fn := Tryz.f252) (L2 := [(k, row 151 d)] ++ (j ++ (L))) rfl (.agg rfl ii ii .nil) ii ⟨k, d, q, p, j, rfl, OwnLL.mono au, S, rfl⟩
theorem r05_Copied_own {rr : Option Nat} {nn : Nat} {w0 : World} {h0 h : Heap} {L : Own} {x0 : TMat} {v0 : Value} (r0 : AggV TMatR h v0 x0) {r : TMat} (hm : M.r05_Copied x0 = some r) :
    FnIn ⟨Tryz.prog, rr, nn, w0, h0⟩ 231 #[v0] h (L) fun v h' L' => ∃ (b0_2 : Nat) (hs0_2 : List Value) (n0_2 c0_2 : Nat) (M0_2 : Own), v = .agg ⟨[.int .i64 r.Rows, .int .i64 r.Cols, .slice (some ⟨b0_2, 0, none⟩) n0_2 c0_2]⟩ ∧ OwnLL IntR 75 2 h' hs0_2 c0_2 r.A M0_2 ∧ n0_2 = r.A.length ∧ L' = [(b0_2, row 151 hs0_2)] ++ (M0_2 ++ (L)) := by
 obtain ⟨_, rfl, _, _, _, rfl, j⟩ := r0
 refine FnIn.intro (args := [_]) Tryz.func231 rfl rfl (lB rfl) <| SR <| o_bx (v := .agg ⟨[.int _ _, .int _ _, .slice _ _ _]⟩) rfl rfl fun e => o_al fun _ => N0 <| Sq <| bE hm fun _ g hm => bE hm fun _ i hm => J.drawB [e] [] <| Dl 0 rfl (q_lda (vs := [_, _, _]) rfl ii ⟨rfl, rfl, rfl, trivial⟩) <| Do 1 <| Xe rfl rfl <| oc (rof_fn g) fun _ _ _ m => ?_
 obtain ⟨_, _, _, _, rfl, k⟩ := m.op
 refine NE <| Do 2 <| Xe rfl rfl <| o_calll (r05_Scale_own (x0 := x0) ⟨_, rfl, ⟨_, _, _, rfl, Sm j⟩⟩ (iu k) i) fun _ _ _ _ n => ?_
 obtain ⟨c, a, l, f, b, rfl, o, d, rfl⟩ := n
 refine NE <| Do 3 <| Xe rfl rfl <| Sc [.int _ _, .int _ _, .slice _ _ _] [.int _ _, .int _ _, .slice _ _ _] rfl rfl rfl rfl rfl ia rfl rfl <| NE <| Dd <| Jr ?_
 cases hm
 exact ret_okS (fn := Tryz.f231) (L2 := [(c, row 151 a)] ++ (b ++ (L))) rfl (.agg rfl ii ii .nil) ii ⟨c, a, l, f, b, rfl, OwnLL.mono o, d, rfl⟩
theorem r12_Start_own {rr : Option Nat} {nn : Nat} {w0 : World} {h0 h : Heap} {L : Own} {x0 : TMat} {v0 : Value} (r0 : AggV TMatR h v0 x0) {r : R12Work} (hm : M.r12_Start x0 = some r) :
    FnIn ⟨Tryz.prog, rr, nn, w0, h0⟩ 240 #[v0] h (L) fun v h' L' => ∃ (b0_2 : Nat) (hs0_2 : List Value) (n0_2 c0_2 : Nat) (M0_2 : Own) (b0_5 : Nat) (hs0_5 : List Value) (n0_5 c0_5 : Nat) (M0_5 : Own) (b0_8 : Nat) (hs0_8 : List Value) (n0_8 c0_8 : Nat) (M0_8 : Own) (bx0 : Nat), v = .pointer (some ⟨bx0, 0, none⟩) ∧ OwnLL IntR 75 2 h' hs0_2 c0_2 r.M.A M0_2 ∧ n0_2 = r.M.A.length ∧ OwnLL IntR 75 2 h' hs0_5 c0_5 r.U.A M0_5 ∧ n0_5 = r.U.A.length ∧ OwnLL IntR 75 2 h' hs0_8 c0_8 r.V.A M0_8 ∧ n0_8 = r.V.A.length ∧ L' = [(b0_2, row 151 hs0_2)] ++ (M0_2 ++ ([(b0_5, row 151 hs0_5)] ++ (M0_5 ++ ([(b0_8, row 151 hs0_8)] ++ (M0_8 ++ ([(bx0, row 301 [.int .i64 r.M.Rows, .int .i64 r.M.Cols, .slice (some ⟨b0_2, 0, none⟩) n0_2 c0_2, .int .i64 r.U.Rows, .int .i64 r.U.Cols, .slice (some ⟨b0_5, 0, none⟩) n0_5 c0_5, .int .i64 r.V.Rows, .int .i64 r.V.Cols, .slice (some ⟨b0_8, 0, none⟩) n0_8 c0_8])] ++ (L))))))) := by
 obtain ⟨_, rfl, _, _, _, rfl, E⟩ := r0
 refine FnIn.intro (args := [_]) Tryz.func240 rfl rfl (lB rfl) <| SR <| o_bx (v := .agg ⟨[.int _ _, .int _ _, .slice _ _ _]⟩) rfl rfl fun z => oq (q_asv (v := .pointer _) rfl) <| N0 <| Sq <| bE hm fun s B hm => bE hm fun t C hm => bE hm fun u D hm => J.drawB [z] [] <| Dl 0 rfl (q_lda (vs := [_, _, _]) rfl ii ⟨rfl, rfl, rfl, trivial⟩) <| Dc 2 rfl (q_fa rfl) <| Dl 3 rfl (q_ld rfl ii rfl) <| Dc 5 rfl (q_fa rfl) <| Dl 6 rfl (q_ld rfl ii rfl) <| Do 1 <| Xe rfl rfl <| o_calll (r05_Copied_own (x0 := x0) ⟨_, rfl, ⟨_, _, _, rfl, Sm E⟩⟩ B) fun _ _ _ _ F => ?_
 obtain ⟨a, d, o, l, g, rfl, I, w, rfl⟩ := F
 refine NE <| Do 4 <| Xe rfl rfl <| o_calll (r05_Identity_own C) fun _ _ _ _ G => ?_
 obtain ⟨b, e, p, m, i, rfl, K, x, rfl⟩ := G
 refine NE <| Do 7 <| Xe rfl rfl <| o_calll (r05_Identity_own D) fun _ _ _ _ H => ?_
 obtain ⟨c, f, q, n, j, rfl, N, y, rfl⟩ := H
 refine NE <| Dc 8 rfl (q_bd [.int _ _, .int _ _, .slice _ _ _, .int _ _, .int _ _, .slice _ _ _, .int _ _, .int _ _, .slice _ _ _] rfl) <| Do 9 <| Xe rfl rfl <| o_bx (v := .agg ⟨[.int _ _, .int _ _, .slice _ _ _, .int _ _, .int _ _, .slice _ _ _, .int _ _, .int _ _, .slice _ _ _]⟩) rfl rfl fun k => NE <| Dc 10 rfl (q_asv (v := .pointer _) rfl) <| Dd <| Jr ?_
 cases hm
 exact ret_okS (fn := Tryz.f240) (L2 := [(a, row 151 d)] ++ (g ++ ([(b, row 151 e)] ++ (i ++ ([(c, row 151 f)] ++ (j ++ ([(k, row 301 [.int .i64 s.Rows, .int .i64 s.Cols, .slice (some ⟨a, 0, none⟩) o l, .int .i64 t.Rows, .int .i64 t.Cols, .slice (some ⟨b, 0, none⟩) p m, .int .i64 u.Rows, .int .i64 u.Cols, .slice (some ⟨c, 0, none⟩) q n])] ++ (L)))))))) rfl (.tmp rfl .nil) ii ⟨a, d, o, l, g, b, e, p, m, i, c, f, q, n, j, k, rfl, OwnLL.mono I, w, OwnLL.mono K, x, OwnLL.mono N, y, rfl⟩
theorem r12_Work_AddTo_own {rr : Option Nat} {nn : Nat} {w0 : World} {h0 h : Heap} {L : Own} {x0 : R12Work} {x1 : Int} {x2 : Int} {x3 : Int} {bb0_2 : Nat} {hs0_2 : List Value} {nn0_2 cc0_2 : Nat} {MM0_2 : Own} {bb0_5 : Nat} {hs0_5 : List Value} {nn0_5 cc0_5 : Nat} {MM0_5 : Own} {bb0_8 : Nat} {hs0_8 : List Value} {nn0_8 cc0_8 : Nat} {MM0_8 : Own} {b0_ : Nat} {v3 : Value} (ww0_2 : OwnLL IntR 75 2 h hs0_2 cc0_2 x0.M.A MM0_2) (hn0_2 : nn0_2 = x0.M.A.length) (ww0_5 : OwnLL IntR 75 2 h hs0_5 cc0_5 x0.U.A MM0_5) (hn0_5 : nn0_5 = x0.U.A.length) (ww0_8 : OwnLL IntR 75 2 h hs0_8 cc0_8 x0.V.A MM0_8) (hn0_8 : nn0_8 = x0.V.A.length) (r3 : IntAt h v3 x3) {r : R12Work} (hm : M.r12_Work_AddTo x0 x1 x2 x3 = some r) :
    FnIn ⟨Tryz.prog, rr, nn, w0, h0⟩ 242 #[.pointer (some ⟨b0_, 0, none⟩), .int .i64 x1, .int .i64 x2, v3] h (([(bb0_2, row 151 hs0_2)] ++ (MM0_2 ++ ([(bb0_5, row 151 hs0_5)] ++ (MM0_5 ++ ([(bb0_8, row 151 hs0_8)] ++ (MM0_8 ++ ((b0_, row 301 [.int .i64 x0.M.Rows, .int .i64 x0.M.Cols, .slice (some ⟨bb0_2, 0, none⟩) nn0_2 cc0_2, .int .i64 x0.U.Rows, .int .i64 x0.U.Cols, .slice (some ⟨bb0_5, 0, none⟩) nn0_5 cc0_5, .int .i64 x0.V.Rows, .int .i64 x0.V.Cols, .slice (some ⟨bb0_8, 0, none⟩) nn0_8 cc0_8]) :: []))))))) ++ L) fun v h' L' => ∃ (b0_2 : Nat) (hs0_2 : List Value) (n0_2 c0_2 : Nat) (M0_2 : Own) (b0_5 : Nat) (hs0_5 : List Value) (n0_5 c0_5 : Nat) (M0_5 : Own) (b0_8 : Nat) (hs0_8 : List Value) (n0_8 c0_8 : Nat) (M0_8 : Own), v = .tuple ⟨[]⟩ ∧ OwnLL IntR 75 2 h' hs0_2 c0_2 r.M.A M0_2 ∧ n0_2 = r.M.A.length ∧ OwnLL IntR 75 2 h' hs0_5 c0_5 r.U.A M0_5 ∧ n0_5 = r.U.A.length ∧ OwnLL IntR 75 2 h' hs0_8 c0_8 r.V.A M0_8 ∧ n0_8 = r.V.A.length ∧ L' = [(b0_2, row 151 hs0_2)] ++ (M0_2 ++ ([(b0_5, row 151 hs0_5)] ++ (M0_5 ++ ([(b0_8, row 151 hs0_8)] ++ (M0_8 ++ ([(b0_, row 301 [.int .i64 r.M.Rows, .int .i64 r.M.Cols, .slice (some ⟨b0_2, 0, none⟩) n0_2 c0_2, .int .i64 r.U.Rows, .int .i64 r.U.Cols, .slice (some ⟨b0_5, 0, none⟩) n0_5 c0_5, .int .i64 r.V.Rows, .int .i64 r.V.Cols, .slice (some ⟨b0_8, 0, none⟩) n0_8 c0_8])] ++ (L))))))) := by
 obtain ⟨aH, aV, aU, aC, rfl, aF⟩ := r3.op
 refine FnIn.intro (args := [_, _, _, _]) Tryz.func242 rfl rfl (lB rfl) <| J.eqL (L0 := [(bb0_2, row 151 hs0_2)] ++ (MM0_2 ++ ([(bb0_5, row 151 hs0_5)] ++ (MM0_5 ++ ([(bb0_8, row 151 hs0_8)] ++ (MM0_8 ++ ((b0_, row 301 [.int .i64 x0.M.Rows, .int .i64 x0.M.Cols, .slice (some ⟨bb0_2, 0, none⟩) nn0_2 cc0_2, .int .i64 x0.U.Rows, .int .i64 x0.U.Cols, .slice (some ⟨bb0_5, 0, none⟩) nn0_5 cc0_5, .int .i64 x0.V.Rows, .int .i64 x0.V.Cols, .slice (some ⟨bb0_8, 0, none⟩) nn0_8 cc0_8]) :: L))))))) (by simp) <| SR <| o_bx (v := .agg ⟨[.bool _, .slice _ _ _]⟩) rfl rfl fun P => N0 <| Sq <| SR <| oq (aI rfl) <| N0 <| Jb ?_
 obtain ⟨_, hm⟩ := rngN_some hm
 refine J.loopK (α := Int × (List (List Int)) × Nat × (List Value) × Nat × Nat × Own) (fun ⟨q, B, n, k, s, y, D⟩ h' L' => (OwnLL IntR 75 2 h' k y B D ∧ s = B.length) ∧ 0 ≤ q ∧ forN (M.r12_Work_AddTo_b3 x1 x2 x3) (M.r12_Work_AddTo_k3 x0 x1 x2 x3) x0.M.Cols q B = some r ∧ Sp ([(n, row 151 k)] ++ (D ++ ([(bb0_5, row 151 hs0_5)] ++ (MM0_5 ++ ([(bb0_8, row 151 hs0_8)] ++ (MM0_8 ++ ((b0_, row 301 [.int .i64 x0.M.Rows, .int .i64 x0.M.Cols, .slice (some ⟨n, 0, none⟩) s y, .int .i64 x0.U.Rows, .int .i64 x0.U.Cols, .slice (some ⟨bb0_5, 0, none⟩) nn0_5 cc0_5, .int .i64 x0.V.Rows, .int .i64 x0.V.Cols, .slice (some ⟨bb0_8, 0, none⟩) nn0_8 cc0_8]) :: (P, row 75 [.bool aH, .slice aV aU aC]) :: L))))))) L') [(0, .pointer _), (1, .int _ _), (2, .int _ _), (7, .pointer _)] ⟨rfl, rfl, rfl, rfl, trivial⟩ (fun ⟨q, B, n, k, s, y, D⟩ => [(8, .int .i64 q)]) (fun ⟨q, B, n, k, s, y, D⟩ => (x0.M.Cols - q).toNat) ⟨0, x0.M.A, bb0_2, hs0_2, nn0_2, cc0_2, MM0_2⟩ ⟨⟨OwnLL.mono ww0_2, hn0_2⟩, Int.le_refl _, hm, ii⟩ ⟨rfl, trivial⟩ ?_
 rintro ⟨q, B, n, k, s, y, D⟩ _ _ _ _ ⟨⟨ab, N⟩, bc, hm, aP⟩
 refine J.sp aP <| Sq <| SR <| oq (mI rfl) <| oq (q_mvv (v := .pointer _) rfl) <| oq (q_nil rfl) <| oq (q_fa rfl) <| oq (q_fa rfl) <| oq (q_ld rfl ia rfl) <| oq (q_lss rfl rfl) <| N0 ?_
 by_cases aa : q < x0.M.Cols
 · obtain ⟨_, hm, bS⟩ := forN_lt aa hm
   unfold M.r12_Work_AddTo_b3 at hm
   refine jT rfl (dT aa) ?_
   have ci : -9223372036854775808 ≤ q + 1 ∧ q + 1 ≤ 9223372036854775807 := by omega
   refine Js <| Sq <| Jb <| nE hm fun _ bo ad aL aQ hm => ?_
   obtain ⟨_, bn, _, ac, aO⟩ := OwnLL.hdr ab aQ
   refine nE hm fun _ _ ae af bY hm => ?_
   obtain ⟨cf, _, _, bm, rfl, _, b3, aK, bO, _, ce⟩ := OwnLL.cell ab aQ ac bY
   obtain ⟨_, _, _, _, rfl, ch⟩ := IntR.op bO
   refine nE hm fun _ _ bQ bV aR hm => ?_
   obtain ⟨_, cj, _, aJ, bX⟩ := OwnLL.hdr ab aR
   refine nE hm fun _ _ bR bW bZ hm => ?_
   obtain ⟨cg, _, _, _, rfl, _, _, bU, bP, _, _⟩ := OwnLL.cell ab aR aJ bZ
   obtain ⟨_, _, _, _, rfl, bB⟩ := IntR.op bP
   refine bE hm fun _ bu hm => bE hm fun ai bv hm => J.drawB [b0_, n, cf, P, cg] [35] <| Dc 0 rfl (q_mvv (v := .pointer _) rfl) <| Dc 1 rfl (q_nil rfl) <| Dc 2 rfl (q_fa rfl) <| Dc 3 rfl (q_fa rfl) <| Dl 4 rfl (q_ld rfl ii rfl) <| Dc 5 rfl (mI rfl) <| Dc 6 rfl (q_ian rfl rfl ad (by rw [show s = _ from N]; exact aL)) <| Dl 7 rfl (q_ld rfl ii (hdr_at ac)) <| Dc 8 rfl (mI rfl) <| Dc 9 rfl (q_mvv (v := .pointer _) rfl) <| Dc 10 rfl (q_nil rfl) <| Dc 11 rfl (q_fa rfl) <| Dc 12 rfl (q_fa rfl) <| Dl 13 rfl (q_ld rfl ii rfl) <| Dc 14 rfl (mI rfl) <| Dc 15 rfl (q_ian rfl rfl ad (by rw [show s = _ from N]; exact aL)) <| Dl 16 rfl (q_ld rfl ii (hdr_at ac)) <| Dc 17 rfl (mI rfl) <| Dc 18 rfl (q_ian rfl rfl ae (by rw [show bn = _ from aO]; exact af)) <| Dl 19 rfl (q_ldOa0 rfl ii aK) <| Dl 20 rfl (q_lda (vs := [_, _]) rfl ii ⟨rfl, rfl, trivial⟩) <| Dc 21 rfl (q_mvv (v := .pointer _) rfl) <| Dc 22 rfl (q_nil rfl) <| Dc 23 rfl (q_fa rfl) <| Dc 24 rfl (q_fa rfl) <| Dl 25 rfl (q_ld rfl ii rfl) <| Dc 26 rfl (mI rfl) <| Dc 27 rfl (q_ian rfl rfl bQ (by rw [show s = _ from N]; exact bV)) <| Dl 28 rfl (q_ld rfl ii (hdr_at aJ)) <| Dc 29 rfl (mI rfl) <| Dc 30 rfl (q_ian rfl rfl bR (by rw [show cj = _ from bX]; exact bW)) <| Dl 31 rfl (q_ldOa0 rfl ii bU) <| Do 32 <| Xe rfl rfl <| oc (rmul_fn (iu aF) (iu bB) bu) fun _ _ _ b4 => ?_
   obtain ⟨_, _, _, _, rfl, bC⟩ := b4.op
   refine NE <| Do 33 <| Xe rfl rfl <| oc (radd_fn (iu ch) (iu bC) bv) fun _ _ _ b5 => ?_
   obtain ⟨_, _, _, _, rfl, bD⟩ := b5.op
   refine NE <| Dc 34 rfl (q_ian rfl rfl ae (by rw [show bn = _ from aO]; exact af)) <| Do 35 <| Xm rfl rfl <| o_stLL0 (us1 := [_, _]) (ps := [_, _]) (a := ai) Sz.i rfl rfl rfl rfl (OwnC.mono b3) ii af aK rfl (lB rfl) rfl (Mo.up bD) (setL_eq ae) fun al bi => JL.fact (fun h => OwnLL IntR 75 2 h k y (setL B x1 (setL bo q ai)) (bm (row 75 al))) (by rw [setL_eq ad]; exact ce _ _ _ ii bi setL_len (fun e x => Mo.m e x)) fun ca => NF <| Dd <| Rg <| oq (mI rfl) <| oq (q_add rfl rfl (wi64 ci)) <| oq (aI rfl) <| N0 <| have hm := inl_onward hm bS; ?_
   exact ⟨⟨q + 1, (setL B x1 (setL bo q ai)), n, k, s, y, (bm (row 75 al))⟩, rfl, ⟨rfl, rfl, rfl, rfl, trivial⟩, ⟨rfl, trivial⟩, ⟨⟨OwnLL.mono ca, (setL_hn N)⟩, Int.le_trans bc (Int.le_of_lt (Int.lt_succ _)), hm, ii⟩, (muN aa), ii⟩
 · replace hm := forN_ge aa hm
   unfold M.r12_Work_AddTo_k3 at hm
   refine jF rfl (dF aa) <| Jx <| Sq <| SR <| oq (aI rfl) <| N0 <| Jb ?_
   obtain ⟨_, hm⟩ := rngN_some hm
   refine J.loopK (α := Int × (List (List Int)) × Nat × (List Value) × Nat × Nat × Own) (fun ⟨b, u, f, d, g, p, w⟩ h' L' => (OwnLL IntR 75 2 h' d p u w ∧ g = u.length) ∧ 0 ≤ b ∧ forN (M.r12_Work_AddTo_b2 x1 x2 x3) (M.r12_Work_AddTo_k2 x0 x1 x2 x3 B) x0.U.Cols b u = some r ∧ Sp ([(n, row 151 k)] ++ (D ++ ([(f, row 151 d)] ++ (w ++ ([(bb0_8, row 151 hs0_8)] ++ (MM0_8 ++ ((b0_, row 301 [.int .i64 x0.M.Rows, .int .i64 x0.M.Cols, .slice (some ⟨n, 0, none⟩) s y, .int .i64 x0.U.Rows, .int .i64 x0.U.Cols, .slice (some ⟨f, 0, none⟩) g p, .int .i64 x0.V.Rows, .int .i64 x0.V.Cols, .slice (some ⟨bb0_8, 0, none⟩) nn0_8 cc0_8]) :: (P, row 75 [.bool aH, .slice aV aU aC]) :: L))))))) L') [(0, .pointer _), (1, .int _ _), (2, .int _ _), (7, .pointer _)] ⟨rfl, rfl, rfl, rfl, trivial⟩ (fun ⟨b, u, f, d, g, p, w⟩ => [(9, .int .i64 b)]) (fun ⟨b, u, f, d, g, p, w⟩ => (x0.U.Cols - b).toNat) ⟨0, x0.U.A, bb0_5, hs0_5, nn0_5, cc0_5, MM0_5⟩ ⟨⟨OwnLL.mono ww0_5, hn0_5⟩, Int.le_refl _, hm, ii⟩ ⟨rfl, trivial⟩ ?_
   rintro ⟨b, u, f, d, g, p, w⟩ _ _ _ _ ⟨⟨O, E⟩, aM, hm, az⟩
   refine J.sp az <| Sq <| SR <| oq (mI rfl) <| oq (q_mvv (v := .pointer _) rfl) <| oq (q_nil rfl) <| oq (q_fa rfl) <| oq (q_fa rfl) <| oq (q_ld rfl ia rfl) <| oq (q_lss rfl rfl) <| N0 ?_
   by_cases I : b < x0.U.Cols
   · obtain ⟨_, hm, a5⟩ := forN_lt I hm
     unfold M.r12_Work_AddTo_b2 at hm
     refine jT rfl (dT I) ?_
     have b0 : -9223372036854775808 ≤ b + 1 ∧ b + 1 ≤ 9223372036854775807 := by omega
     refine Js <| Sq <| Jb <| nE hm fun _ aW R ar av hm => ?_
     obtain ⟨_, aT, _, Q, au⟩ := OwnLL.hdr O av
     refine nE hm fun _ _ S W be hm => ?_
     obtain ⟨br, _, _, aD, rfl, _, bj, ap, aY, _, bp⟩ := OwnLL.cell O av Q be
     obtain ⟨_, _, _, _, rfl, bG⟩ := IntR.op aY
     refine nE hm fun _ _ a2 a9 aw hm => ?_
     obtain ⟨_, b2, _, ao, bd⟩ := OwnLL.hdr O aw
     refine nE hm fun _ _ a3 ba bf hm => ?_
     obtain ⟨bs, _, _, _, rfl, _, _, a6, aZ, _, _⟩ := OwnLL.cell O aw ao bf
     obtain ⟨_, _, _, _, rfl, bH⟩ := IntR.op aZ
     refine bE hm fun _ bw hm => bE hm fun aj bx hm => J.drawB [b0_, f, br, P, bs] [35] <| Dc 0 rfl (q_mvv (v := .pointer _) rfl) <| Dc 1 rfl (q_nil rfl) <| Dc 2 rfl (q_fa rfl) <| Dc 3 rfl (q_fa rfl) <| Dl 4 rfl (q_ld rfl ii rfl) <| Dc 5 rfl (mI rfl) <| Dc 6 rfl (q_ian rfl rfl R (by rw [show g = _ from E]; exact ar)) <| Dl 7 rfl (q_ld rfl ii (hdr_at Q)) <| Dc 8 rfl (mI rfl) <| Dc 9 rfl (q_mvv (v := .pointer _) rfl) <| Dc 10 rfl (q_nil rfl) <| Dc 11 rfl (q_fa rfl) <| Dc 12 rfl (q_fa rfl) <| Dl 13 rfl (q_ld rfl ii rfl) <| Dc 14 rfl (mI rfl) <| Dc 15 rfl (q_ian rfl rfl R (by rw [show g = _ from E]; exact ar)) <| Dl 16 rfl (q_ld rfl ii (hdr_at Q)) <| Dc 17 rfl (mI rfl) <| Dc 18 rfl (q_ian rfl rfl S (by rw [show aT = _ from au]; exact W)) <| Dl 19 rfl (q_ldOa0 rfl ii ap) <| Dl 20 rfl (q_lda (vs := [_, _]) rfl ii ⟨rfl, rfl, trivial⟩) <| Dc 21 rfl (q_mvv (v := .pointer _) rfl) <| Dc 22 rfl (q_nil rfl) <| Dc 23 rfl (q_fa rfl) <| Dc 24 rfl (q_fa rfl) <| Dl 25 rfl (q_ld rfl ii rfl) <| Dc 26 rfl (mI rfl) <| Dc 27 rfl (q_ian rfl rfl a2 (by rw [show g = _ from E]; exact a9)) <| Dl 28 rfl (q_ld rfl ii (hdr_at ao)) <| Dc 29 rfl (mI rfl) <| Dc 30 rfl (q_ian rfl rfl a3 (by rw [show b2 = _ from bd]; exact ba)) <| Dl 31 rfl (q_ldOa0 rfl ii a6) <| Do 32 <| Xe rfl rfl <| oc (rmul_fn (iu aF) (iu bH) bw) fun _ _ _ b6 => ?_
     obtain ⟨_, _, _, _, rfl, bI⟩ := b6.op
     refine NE <| Do 33 <| Xe rfl rfl <| oc (radd_fn (iu bG) (iu bI) bx) fun _ _ _ b7 => ?_
     obtain ⟨_, _, _, _, rfl, bJ⟩ := b7.op
     refine NE <| Dc 34 rfl (q_ian rfl rfl S (by rw [show aT = _ from au]; exact W)) <| Do 35 <| Xm rfl rfl <| o_stLL0 (us1 := [_, _]) (ps := [_, _]) (a := aj) Sz.i rfl rfl rfl rfl (OwnC.mono bj) ii W ap rfl (lB rfl) rfl (Mo.up bJ) (setL_eq S) fun am bk => JL.fact (fun h => OwnLL IntR 75 2 h d p (setL u x1 (setL aW b aj)) (aD (row 75 am))) (by rw [setL_eq R]; exact bp _ _ _ ii bk setL_len (fun e x => Mo.m e x)) fun cb => NF <| Dd <| Rg <| oq (mI rfl) <| oq (q_add rfl rfl (wi64 b0)) <| oq (aI rfl) <| N0 <| have hm := inl_onward hm a5; ?_
     exact ⟨⟨b + 1, (setL u x1 (setL aW b aj)), f, d, g, p, (aD (row 75 am))⟩, rfl, ⟨rfl, rfl, rfl, rfl, trivial⟩, ⟨rfl, trivial⟩, ⟨⟨OwnLL.mono cb, (setL_hn E)⟩, Int.le_trans aM (Int.le_of_lt (Int.lt_succ _)), hm, ii⟩, (muN I), ii⟩
   · replace hm := forN_ge I hm
     unfold M.r12_Work_AddTo_k2 at hm
     refine jF rfl (dF I) <| Jx <| SR <| oq (aI rfl) <| N0 <| Jb ?_
     obtain ⟨_, hm⟩ := rngN_some hm
     refine J.loopK (α := Int × (List (List Int)) × Nat × (List Value) × Nat × Nat × Own) (fun ⟨c, z, o, j, l, t, C⟩ h' L' => (OwnLL IntR 75 2 h' j t z C ∧ l = z.length) ∧ 0 ≤ c ∧ forN (M.r12_Work_AddTo_b1 x1 x2 x3) (M.r12_Work_AddTo_k1 x0 B u) x0.V.Rows c z = some r ∧ Sp ([(n, row 151 k)] ++ (D ++ ([(f, row 151 d)] ++ (w ++ ([(o, row 151 j)] ++ (C ++ ((b0_, row 301 [.int .i64 x0.M.Rows, .int .i64 x0.M.Cols, .slice (some ⟨n, 0, none⟩) s y, .int .i64 x0.U.Rows, .int .i64 x0.U.Cols, .slice (some ⟨f, 0, none⟩) g p, .int .i64 x0.V.Rows, .int .i64 x0.V.Cols, .slice (some ⟨o, 0, none⟩) l t]) :: (P, row 75 [.bool aH, .slice aV aU aC]) :: L))))))) L') [(0, .pointer _), (1, .int _ _), (2, .int _ _), (7, .pointer _)] ⟨rfl, rfl, rfl, rfl, trivial⟩ (fun ⟨c, z, o, j, l, t, C⟩ => [(10, .int .i64 c)]) (fun ⟨c, z, o, j, l, t, C⟩ => (x0.V.Rows - c).toNat) ⟨0, x0.V.A, bb0_8, hs0_8, nn0_8, cc0_8, MM0_8⟩ ⟨⟨OwnLL.mono ww0_8, hn0_8⟩, Int.le_refl _, hm, ii⟩ ⟨rfl, trivial⟩ ?_
     rintro ⟨c, z, o, j, l, t, C⟩ _ _ _ _ ⟨⟨ah, F⟩, aN, hm, aA⟩
     refine J.sp aA <| Sq <| SR <| oq (mI rfl) <| oq (q_mvv (v := .pointer _) rfl) <| oq (q_nil rfl) <| oq (q_fa rfl) <| oq (q_fa rfl) <| oq (q_ld rfl ia rfl) <| oq (q_lss rfl rfl) <| N0 ?_
     by_cases K : c < x0.V.Rows
     · obtain ⟨_, hm, a7⟩ := forN_lt K hm
       unfold M.r12_Work_AddTo_b1 at hm
       refine jT rfl (dT K) ?_
       have b1 : -9223372036854775808 ≤ c + 1 ∧ c + 1 ≤ 9223372036854775807 := by omega
       refine Js <| Sq <| Jb <| nE hm fun _ aX H X ax hm => ?_
       obtain ⟨_, ag, _, G, Z⟩ := OwnLL.hdr ah ax
       refine nE hm fun _ _ T Y bg hm => ?_
       obtain ⟨bt, _, _, aG, rfl, _, ay, aq, a0, _, bq⟩ := OwnLL.cell ah ax G bg
       obtain ⟨_, _, _, _, rfl, bK⟩ := IntR.op a0
       refine nE hm fun _ _ a4 bb bh hm => ?_
       obtain ⟨_, a8, a1, _⟩ := OwnC.get ay bh
       obtain ⟨_, _, _, _, rfl, bL⟩ := IntR.op a1
       refine bE hm fun _ bz hm => bE hm fun ak bA hm => J.drawB [b0_, o, bt, P] [35] <| Dc 0 rfl (q_mvv (v := .pointer _) rfl) <| Dc 1 rfl (q_nil rfl) <| Dc 2 rfl (q_fa rfl) <| Dc 3 rfl (q_fa rfl) <| Dl 4 rfl (q_ld rfl ii rfl) <| Dc 5 rfl (mI rfl) <| Dc 6 rfl (q_ian rfl rfl H (by rw [show l = _ from F]; exact X)) <| Dl 7 rfl (q_ld rfl ii (hdr_at G)) <| Dc 8 rfl (mI rfl) <| Dc 9 rfl (q_mvv (v := .pointer _) rfl) <| Dc 10 rfl (q_nil rfl) <| Dc 11 rfl (q_fa rfl) <| Dc 12 rfl (q_fa rfl) <| Dl 13 rfl (q_ld rfl ii rfl) <| Dc 14 rfl (mI rfl) <| Dc 15 rfl (q_ian rfl rfl H (by rw [show l = _ from F]; exact X)) <| Dl 16 rfl (q_ld rfl ii (hdr_at G)) <| Dc 17 rfl (mI rfl) <| Dc 18 rfl (q_ian rfl rfl T (by rw [show ag = _ from Z]; exact Y)) <| Dl 19 rfl (q_ldOa0 rfl ii aq) <| Dl 20 rfl (q_lda (vs := [_, _]) rfl ii ⟨rfl, rfl, trivial⟩) <| Dc 21 rfl (q_mvv (v := .pointer _) rfl) <| Dc 22 rfl (q_nil rfl) <| Dc 23 rfl (q_fa rfl) <| Dc 24 rfl (q_fa rfl) <| Dl 25 rfl (q_ld rfl ii rfl) <| Dc 26 rfl (mI rfl) <| Dc 27 rfl (q_ian rfl rfl H (by rw [show l = _ from F]; exact X)) <| Dl 28 rfl (q_ld rfl ii (hdr_at G)) <| Dc 29 rfl (mI rfl) <| Dc 30 rfl (q_ian rfl rfl a4 (by rw [show ag = _ from Z]; exact bb)) <| Dl 31 rfl (q_ldOa0 rfl ii a8) <| Do 32 <| Xe rfl rfl <| oc (rmul_fn (iu aF) (iu bL) bz) fun _ _ _ b8 => ?_
       obtain ⟨_, _, _, _, rfl, bM⟩ := b8.op
       refine NE <| Do 33 <| Xe rfl rfl <| oc (r01_Sub_fn (iu bK) (iu bM) bA) fun _ _ _ b9 => ?_
       obtain ⟨_, _, _, _, rfl, bN⟩ := b9.op
       refine NE <| Dc 34 rfl (q_ian rfl rfl T (by rw [show ag = _ from Z]; exact Y)) <| Do 35 <| Xm rfl rfl <| o_stLL0 (us1 := [_, _]) (ps := [_, _]) (a := ak) Sz.i rfl rfl rfl rfl (OwnC.mono ay) ii Y aq rfl (lB rfl) rfl (Mo.up bN) (setL_eq T) fun an bl => JL.fact (fun h => OwnLL IntR 75 2 h j t (setL z c (setL aX x2 ak)) (aG (row 75 an))) (by rw [setL_eq H]; exact bq _ _ _ ii bl setL_len (fun e x => Mo.m e x)) fun cd => NF <| Dd <| Rg <| oq (mI rfl) <| oq (q_add rfl rfl (wi64 b1)) <| oq (aI rfl) <| N0 <| have hm := inl_onward hm a7; ?_
       exact ⟨⟨c + 1, (setL z c (setL aX x2 ak)), o, j, l, t, (aG (row 75 an))⟩, rfl, ⟨rfl, rfl, rfl, rfl, trivial⟩, ⟨rfl, trivial⟩, ⟨⟨OwnLL.mono cd, (setL_hn F)⟩, Int.le_trans aN (Int.le_of_lt (Int.lt_succ _)), hm, ii⟩, (muN K), ii⟩
     · replace hm := forN_ge K hm
       unfold M.r12_Work_AddTo_k1 at hm
       refine jF rfl (dF K) <| Jx ?_
       cases hm
       exact ret_okS (fn := Tryz.f242) (L2 := [(n, row 151 k)] ++ (D ++ ([(f, row 151 d)] ++ (w ++ ([(o, row 151 j)] ++ (C ++ ([(b0_, row 301 [.int .i64 x0.M.Rows, .int .i64 x0.M.Cols, .slice (some ⟨n, 0, none⟩) s y, .int .i64 x0.U.Rows, .int .i64 x0.U.Cols, .slice (some ⟨f, 0, none⟩) g p, .int .i64 x0.V.Rows, .int .i64 x0.V.Cols, .slice (some ⟨o, 0, none⟩) l t])] ++ (L)))))))) rfl .nil ii ⟨n, k, s, y, D, f, d, g, p, w, o, j, l, t, C, rfl, OwnLL.mono ab, N, OwnLL.mono O, E, OwnLL.mono ah, F, rfl⟩
theorem r12_Work_Swap_own {rr : Option Nat} {nn : Nat} {w0 : World} {h0 h : Heap} {L : Own} {x0 : R12Work} {x1 : Int} {x2 : Int} {bb0_2 : Nat} {hs0_2 : List Value} {nn0_2 cc0_2 : Nat} {MM0_2 : Own} {bb0_5 : Nat} {hs0_5 : List Value} {nn0_5 cc0_5 : Nat} {MM0_5 : Own} {bb0_8 : Nat} {hs0_8 : List Value} {nn0_8 cc0_8 : Nat} {MM0_8 : Own} {b0_ : Nat} (ww0_2 : OwnLL IntR 75 2 h hs0_2 cc0_2 x0.M.A MM0_2) (hn0_2 : nn0_2 = x0.M.A.length) (ww0_5 : OwnLL IntR 75 2 h hs0_5 cc0_5 x0.U.A MM0_5) (hn0_5 : nn0_5 = x0.U.A.length) (ww0_8 : OwnLL IntR 75 2 h hs0_8 cc0_8 x0.V.A MM0_8) (hn0_8 : nn0_8 = x0.V.A.length) {r : R12Work} (hm : M.r12_Work_Swap x0 x1 x2 = some r) :
    FnIn ⟨Tryz.prog, rr, nn, w0, h0⟩ 243 #[.pointer (some ⟨b0_, 0, none⟩), .int .i64 x1, .int .i64 x2] h (([(bb0_2, row 151 hs0_2)] ++ (MM0_2 ++ ([(bb0_5, row 151 hs0_5)] ++ (MM0_5 ++ ([(bb0_8, row 151 hs0_8)] ++ (MM0_8 ++ ((b0_, row 301 [.int .i64 x0.M.Rows, .int .i64 x0.M.Cols, .slice (some ⟨bb0_2, 0, none⟩) nn0_2 cc0_2, .int .i64 x0.U.Rows, .int .i64 x0.U.Cols, .slice (some ⟨bb0_5, 0, none⟩) nn0_5 cc0_5, .int .i64 x0.V.Rows, .int .i64 x0.V.Cols, .slice (some ⟨bb0_8, 0, none⟩) nn0_8 cc0_8]) :: []))))))) ++ L) fun v h' L' => ∃ (b0_2 : Nat) (hs0_2 : List Value) (n0_2 c0_2 : Nat) (M0_2 : Own) (b0_5 : Nat) (hs0_5 : List Value) (n0_5 c0_5 : Nat) (M0_5 : Own) (b0_8 : Nat) (hs0_8 : List Value) (n0_8 c0_8 : Nat) (M0_8 : Own), v = .tuple ⟨[]⟩ ∧ OwnLL IntR 75 2 h' hs0_2 c0_2 r.M.A M0_2 ∧ n0_2 = r.M.A.length ∧ OwnLL IntR 75 2 h' hs0_5 c0_5 r.U.A M0_5 ∧ n0_5 = r.U.A.length ∧ OwnLL IntR 75 2 h' hs0_8 c0_8 r.V.A M0_8 ∧ n0_8 = r.V.A.length ∧ L' = [(b0_2, row 151 hs0_2)] ++ (M0_2 ++ ([(b0_5, row 151 hs0_5)] ++ (M0_5 ++ ([(b0_8, row 151 hs0_8)] ++ (M0_8 ++ ([(b0_, row 301 [.int .i64 r.M.Rows, .int .i64 r.M.Cols, .slice (some ⟨b0_2, 0, none⟩) n0_2 c0_2, .int .i64 r.U.Rows, .int .i64 r.U.Cols, .slice (some ⟨b0_5, 0, none⟩) n0_5 c0_5, .int .i64 r.V.Rows, .int .i64 r.V.Cols, .slice (some ⟨b0_8, 0, none⟩) n0_8 c0_8])] ++ (L))))))) := by
 refine FnIn.intro (args := [_, _, _]) Tryz.func243 rfl rfl (lB rfl) <| J.eqL (L0 := [(bb0_2, row 151 hs0_2)] ++ (MM0_2 ++ ([(bb0_5, row 151 hs0_5)] ++ (MM0_5 ++ ([(bb0_8, row 151 hs0_8)] ++ (MM0_8 ++ ((b0_, row 301 [.int .i64 x0.M.Rows, .int .i64 x0.M.Cols, .slice (some ⟨bb0_2, 0, none⟩) nn0_2 cc0_2, .int .i64 x0.U.Rows, .int .i64 x0.U.Cols, .slice (some ⟨bb0_5, 0, none⟩) nn0_5 cc0_5, .int .i64 x0.V.Rows, .int .i64 x0.V.Cols, .slice (some ⟨bb0_8, 0, none⟩) nn0_8 cc0_8]) :: L))))))) (by simp) <| Sq <| nE hm fun Y aY y aq F hm => ?_
 obtain ⟨ah, ac, I, am, _⟩ := OwnLL.hdr ww0_2 F
 refine Rg <| oq (q_mvv (v := .pointer _) rfl) <| oq (q_nil rfl) <| oq (q_fa rfl) <| oq (q_fa rfl) <| oq (q_ld rfl ia rfl) <| oq (mI rfl) <| oq (q_ian rfl rfl y (by rw [show nn0_2 = _ from hn0_2]; exact aq)) <| oq (q_ld rfl ii (hdr_at am)) <| oq (aS rfl) <| N0 <| Sq <| nE hm fun Z aZ z ar s hm => ?_
 obtain ⟨ai, ad, K, an, _⟩ := OwnLL.hdr ww0_2 s
 refine J.drawB [b0_, bb0_2] [15] <| Dc 0 rfl (q_mvv (v := .pointer _) rfl) <| Dc 1 rfl (q_nil rfl) <| Dc 2 rfl (q_fa rfl) <| Dc 3 rfl (q_fa rfl) <| Dl 4 rfl (q_ld rfl ii rfl) <| Dc 5 rfl (mI rfl) <| Dc 6 rfl (q_mvv (v := .pointer _) rfl) <| Dc 7 rfl (q_nil rfl) <| Dc 8 rfl (q_fa rfl) <| Dc 9 rfl (q_fa rfl) <| Dl 10 rfl (q_ld rfl ii rfl) <| Dc 11 rfl (mI rfl) <| Dc 12 rfl (q_ian rfl rfl z (by rw [show nn0_2 = _ from hn0_2]; exact ar)) <| Dl 13 rfl (q_ld rfl ii (hdr_at an)) <| Dc 14 rfl (q_ian rfl rfl y (by rw [show nn0_2 = _ from hn0_2]; exact aq)) <| Do 15 <| Xm rfl rfl <| o_stH rfl rfl ii (OwnLL.hlen ww0_2 F) <| NF <| Dd <| Sq ?_
 obtain ⟨_, _, _, _, _⟩ := OwnLL.hdr ww0_2 s
 refine Rg <| oq (q_mvv (v := .pointer _) rfl) <| oq (q_nil rfl) <| oq (q_fa rfl) <| oq (q_fa rfl) <| oq (q_ld rfl ia rfl) <| oq (mI rfl) <| oq (mS rfl) <| oq (q_ian rfl rfl z (by rw [show nn0_2 = _ from hn0_2]; exact ar)) <| o_stH rfl rfl ii (by rw [List.length_set]; exact OwnLL.hlen ww0_2 s) <| JL.fact (fun h => OwnLL IntR 75 2 h ((hs0_2.set Y (.slice ai ad K)).set Z (.slice ah ac I)) cc0_2 (setL (setL x0.M.A x1 aZ) x2 aY) MM0_2) (by rw [setL_eq z, setL_eq y]; exact OwnLL.swap (OwnLL.mono ww0_2) F s am an) fun bd => N0 <| Sq <| nE hm fun aa a0 B au G hm => ?_
 obtain ⟨aj, ae, N, ao, _⟩ := OwnLL.hdr ww0_5 G
 refine Rg <| oq (q_mvv (v := .pointer _) rfl) <| oq (q_nil rfl) <| oq (q_fa rfl) <| oq (q_fa rfl) <| oq (q_ld rfl ia rfl) <| oq (mI rfl) <| oq (q_ian rfl rfl B (by rw [show nn0_5 = _ from hn0_5]; exact au)) <| oq (q_ld rfl ii (hdr_at ao)) <| oq (aS rfl) <| N0 <| Sq <| nE hm fun ab a1 C av t hm => ?_
 obtain ⟨ak, af, O, ap, _⟩ := OwnLL.hdr ww0_5 t
 refine J.drawB [b0_, bb0_5] [15] <| Dc 0 rfl (q_mvv (v := .pointer _) rfl) <| Dc 1 rfl (q_nil rfl) <| Dc 2 rfl (q_fa rfl) <| Dc 3 rfl (q_fa rfl) <| Dl 4 rfl (q_ld rfl ii rfl) <| Dc 5 rfl (mI rfl) <| Dc 6 rfl (q_mvv (v := .pointer _) rfl) <| Dc 7 rfl (q_nil rfl) <| Dc 8 rfl (q_fa rfl) <| Dc 9 rfl (q_fa rfl) <| Dl 10 rfl (q_ld rfl ii rfl) <| Dc 11 rfl (mI rfl) <| Dc 12 rfl (q_ian rfl rfl C (by rw [show nn0_5 = _ from hn0_5]; exact av)) <| Dl 13 rfl (q_ld rfl ii (hdr_at ap)) <| Dc 14 rfl (q_ian rfl rfl B (by rw [show nn0_5 = _ from hn0_5]; exact au)) <| Do 15 <| Xm rfl rfl <| o_stH rfl rfl ii (OwnLL.hlen ww0_5 G) <| NF <| Dd <| Sq ?_
 obtain ⟨_, _, _, _, _⟩ := OwnLL.hdr ww0_5 t
 refine Rg <| oq (q_mvv (v := .pointer _) rfl) <| oq (q_nil rfl) <| oq (q_fa rfl) <| oq (q_fa rfl) <| oq (q_ld rfl ia rfl) <| oq (mI rfl) <| oq (mS rfl) <| oq (q_ian rfl rfl C (by rw [show nn0_5 = _ from hn0_5]; exact av)) <| o_stH rfl rfl ii (by rw [List.length_set]; exact OwnLL.hlen ww0_5 t) <| JL.fact (fun h => OwnLL IntR 75 2 h ((hs0_5.set aa (.slice ak af O)).set ab (.slice aj ae N)) cc0_5 (setL (setL x0.U.A x1 a1) x2 a0) MM0_5) (by rw [setL_eq C, setL_eq B]; exact OwnLL.swap (OwnLL.mono ww0_5) G t ao ap) fun be => N0 <| SR <| oq (aI rfl) <| N0 <| Jb ?_
 obtain ⟨_, hm⟩ := rngN_some hm
 refine J.loopK (α := Int × (List (List Int)) × Nat × (List Value) × Nat × Nat × Own) (fun ⟨b, j, f, c, d, g, l⟩ h' L' => (OwnLL IntR 75 2 h' c g j l ∧ d = j.length) ∧ 0 ≤ b ∧ forN (M.r12_Work_Swap_b1 x1 x2) (M.r12_Work_Swap_k1 x0 x1 x2 aY aZ a0 a1) x0.V.Rows b j = some r ∧ Sp ([(bb0_2, row 151 ((hs0_2.set Y (.slice ai ad K)).set Z (.slice ah ac I)))] ++ (MM0_2 ++ ([(bb0_5, row 151 ((hs0_5.set aa (.slice ak af O)).set ab (.slice aj ae N)))] ++ (MM0_5 ++ ([(f, row 151 c)] ++ (l ++ ((b0_, row 301 [.int .i64 x0.M.Rows, .int .i64 x0.M.Cols, .slice (some ⟨bb0_2, 0, none⟩) nn0_2 cc0_2, .int .i64 x0.U.Rows, .int .i64 x0.U.Cols, .slice (some ⟨bb0_5, 0, none⟩) nn0_5 cc0_5, .int .i64 x0.V.Rows, .int .i64 x0.V.Cols, .slice (some ⟨f, 0, none⟩) d g]) :: L))))))) L') [(0, .pointer _), (1, .int _ _), (2, .int _ _)] ⟨rfl, rfl, rfl, trivial⟩ (fun ⟨b, j, f, c, d, g, l⟩ => [(7, .int .i64 b)]) (fun ⟨b, j, f, c, d, g, l⟩ => (x0.V.Rows - b).toNat) ⟨0, x0.V.A, bb0_8, hs0_8, nn0_8, cc0_8, MM0_8⟩ ⟨⟨OwnLL.mono ww0_8, hn0_8⟩, Int.le_refl _, hm, ii⟩ ⟨rfl, trivial⟩ ?_
 rintro ⟨b, j, f, c, d, g, l⟩ _ _ _ _ ⟨⟨aA, k⟩, aP, hm, aw⟩
 refine J.sp aw <| Sq <| SR <| oq (mI rfl) <| oq (q_mvv (v := .pointer _) rfl) <| oq (q_nil rfl) <| oq (q_fa rfl) <| oq (q_fa rfl) <| oq (q_ld rfl ia rfl) <| oq (q_lss rfl rfl) <| N0 ?_
 by_cases w : b < x0.V.Rows
 · obtain ⟨_, hm, a9⟩ := forN_lt w hm
   unfold M.r12_Work_Swap_b1 at hm
   refine jT rfl (dT w) ?_
   have bc : -9223372036854775808 ≤ b + 1 ∧ b + 1 ≤ 9223372036854775807 := by omega
   refine Js <| Sq <| Jb <| Sq <| nE hm fun _ aD p D ax hm => ?_
   obtain ⟨_, ay, _, n, E⟩ := OwnLL.hdr aA ax
   refine nE hm fun _ H o q aR hm => ?_
   obtain ⟨a4, _, _, a6, rfl, _, ag, T, aG, _, a2⟩ := OwnLL.cell aA ax n aR
   obtain ⟨_, _, _, _, rfl, a7⟩ := IntR.op aG
   refine Rg <| oq (q_mvv (v := .pointer _) rfl) <| oq (q_nil rfl) <| oq (q_fa rfl) <| oq (q_fa rfl) <| oq (q_ld rfl ia rfl) <| oq (mI rfl) <| oq (q_ian rfl rfl p (by rw [show d = _ from k]; exact D)) <| oq (q_ld rfl ii (hdr_at n)) <| oq (mI rfl) <| oq (q_ian rfl rfl o (by rw [show ay = _ from E]; exact q)) <| oq (q_ldOa0 rfl ii T) <| o_al fun a5 => Sc [.bool _, .slice _ _ _] [.bool _, .slice _ _ _] rfl rfl rfl rfl rfl ia rfl rfl <| N0 <| Sq <| nE hm fun _ u aK aN aT hm => ?_
   obtain ⟨_, aL, aH, _⟩ := OwnC.get ag aT
   obtain ⟨_, _, _, _, rfl, a8⟩ := IntR.op aH
   refine J.drawB [b0_, f, a4] [21] <| Dc 0 rfl (q_mvv (v := .pointer _) rfl) <| Dc 1 rfl (q_nil rfl) <| Dc 2 rfl (q_fa rfl) <| Dc 3 rfl (q_fa rfl) <| Dl 4 rfl (q_ld rfl ii rfl) <| Dc 5 rfl (mI rfl) <| Dc 6 rfl (q_ian rfl rfl p (by rw [show d = _ from k]; exact D)) <| Dl 7 rfl (q_ld rfl ii (hdr_at n)) <| Dc 8 rfl (mI rfl) <| Dc 9 rfl (q_mvv (v := .pointer _) rfl) <| Dc 10 rfl (q_nil rfl) <| Dc 11 rfl (q_fa rfl) <| Dc 12 rfl (q_fa rfl) <| Dl 13 rfl (q_ld rfl ii rfl) <| Dc 14 rfl (mI rfl) <| Dc 15 rfl (q_ian rfl rfl p (by rw [show d = _ from k]; exact D)) <| Dl 16 rfl (q_ld rfl ii (hdr_at n)) <| Dc 17 rfl (mI rfl) <| Dc 18 rfl (q_ian rfl rfl aK (by rw [show ay = _ from E]; exact aN)) <| Dl 19 rfl (q_ldOa0 rfl ii aL) <| Dc 20 rfl (q_ian rfl rfl o (by rw [show ay = _ from E]; exact q)) <| Do 21 <| Xm rfl rfl <| o_stLL0 (us1 := [_, _]) (ps := [_, _]) (a := u) Sz.i rfl rfl rfl rfl (OwnC.mono ag) ii q T rfl (lB rfl) rfl (Mo.up a8) (setL_eq o) fun aF aV => JL.fact (fun h => OwnLL IntR 75 2 h c g (setL j b (setL aD x1 u)) (a6 (row 75 aF))) (by rw [setL_eq p]; exact a2 _ _ _ ii aV setL_len (fun e x => Mo.m e x)) fun az => NF <| Dd <| nE hm fun _ aC R aO X hm => ?_
   obtain ⟨_, ba, _, Q, aQ⟩ := OwnLL.hdr az X
   refine nE hm fun _ _ S W aU hm => ?_
   obtain ⟨_, _, _, al, rfl, _, aW, aM, aJ, _, a3⟩ := OwnLL.cell az X Q aU
   obtain ⟨_, _, _, _, rfl, _⟩ := IntR.op aJ
   refine J.drawB [b0_, f, a5] [] <| Dc 0 rfl (q_mvv (v := .pointer _) rfl) <| Dc 1 rfl (q_nil rfl) <| Dc 2 rfl (q_fa rfl) <| Dc 3 rfl (q_fa rfl) <| Dl 4 rfl (q_ld rfl ii rfl) <| Dc 5 rfl (mI rfl) <| Dc 6 rfl (q_ian rfl rfl R (by rw [show d = _ from (setL_hn k)]; exact aO)) <| Dl 7 rfl (q_ld rfl ii (hdr_at Q)) <| Dc 8 rfl (mI rfl) <| Dl 9 rfl (q_lda (vs := [_, _]) rfl ii ⟨rfl, rfl, trivial⟩) <| Dc 10 rfl (q_ian rfl rfl S (by rw [show ba = _ from aQ]; exact W)) <| Do 11 <| Xe rfl rfl <| o_stLL0 (us1 := [_, _]) (ps := [_, _]) (a := H) Sz.i rfl rfl rfl rfl (OwnC.mono aW) ii W aM rfl (lB rfl) rfl (Mo.up a7) (setL_eq S) fun P aX => JL.fact (fun h => OwnLL IntR 75 2 h c g (setL (setL j b (setL aD x1 u)) b (setL aC x2 H)) (al (row 75 P))) (by rw [setL_eq R]; exact a3 _ _ _ ii aX setL_len (fun e x => Mo.m e x)) fun bb => NE <| Dd <| Rg <| oq (mI rfl) <| oq (q_add rfl rfl (wi64 bc)) <| oq (aI rfl) <| N0 <| have hm := inl_onward hm a9; ?_
   exact ⟨⟨b + 1, (setL (setL j b (setL aD x1 u)) b (setL aC x2 H)), f, c, d, g, (al (row 75 P))⟩, rfl, ⟨rfl, rfl, rfl, trivial⟩, ⟨rfl, trivial⟩, ⟨⟨OwnLL.mono bb, (setL_hn (setL_hn k))⟩, Int.le_trans aP (Int.le_of_lt (Int.lt_succ _)), hm, ii⟩, (muN w), ii⟩
 · replace hm := forN_ge w hm
   unfold M.r12_Work_Swap_k1 at hm
   refine jF rfl (dF w) <| Jx ?_
   cases hm
   exact ret_okS (fn := Tryz.f243) (L2 := [(bb0_2, row 151 ((hs0_2.set Y (.slice ai ad K)).set Z (.slice ah ac I)))] ++ (MM0_2 ++ ([(bb0_5, row 151 ((hs0_5.set aa (.slice ak af O)).set ab (.slice aj ae N)))] ++ (MM0_5 ++ ([(f, row 151 c)] ++ (l ++ ([(b0_, row 301 [.int .i64 x0.M.Rows, .int .i64 x0.M.Cols, .slice (some ⟨bb0_2, 0, none⟩) nn0_2 cc0_2, .int .i64 x0.U.Rows, .int .i64 x0.U.Cols, .slice (some ⟨bb0_5, 0, none⟩) nn0_5 cc0_5, .int .i64 x0.V.Rows, .int .i64 x0.V.Cols, .slice (some ⟨f, 0, none⟩) d g])] ++ (L)))))))) rfl .nil ii ⟨bb0_2, ((hs0_2.set Y (.slice ai ad K)).set Z (.slice ah ac I)), nn0_2, cc0_2, MM0_2, bb0_5, ((hs0_5.set aa (.slice ak af O)).set ab (.slice aj ae N)), nn0_5, cc0_5, MM0_5, f, c, d, g, l, rfl, OwnLL.mono bd, (setL_hn (setL_hn hn0_2)), OwnLL.mono be, (setL_hn (setL_hn hn0_5)), OwnLL.mono aA, k, rfl⟩
theorem r12_Work_Negate_own {rr : Option Nat} {nn : Nat} {w0 : World} {h0 h : Heap} {L : Own} {x0 : R12Work} {x1 : Int} {bb0_2 : Nat} {hs0_2 : List Value} {nn0_2 cc0_2 : Nat} {MM0_2 : Own} {bb0_5 : Nat} {hs0_5 : List Value} {nn0_5 cc0_5 : Nat} {MM0_5 : Own} {bb0_8 : Nat} {hs0_8 : List Value} {nn0_8 cc0_8 : Nat} {MM0_8 : Own} {b0_ : Nat} (ww0_2 : OwnLL IntR 75 2 h hs0_2 cc0_2 x0.M.A MM0_2) (hn0_2 : nn0_2 = x0.M.A.length) (ww0_5 : OwnLL IntR 75 2 h hs0_5 cc0_5 x0.U.A MM0_5) (hn0_5 : nn0_5 = x0.U.A.length) (ww0_8 : OwnLL IntR 75 2 h hs0_8 cc0_8 x0.V.A MM0_8) (hn0_8 : nn0_8 = x0.V.A.length) {r : R12Work} (hm : M.r12_Work_Negate x0 x1 = some r) :
    FnIn ⟨Tryz.prog, rr, nn, w0, h0⟩ 244 #[.pointer (some ⟨b0_, 0, none⟩), .int .i64 x1] h (([(bb0_2, row 151 hs0_2)] ++ (MM0_2 ++ ([(bb0_5, row 151 hs0_5)] ++ (MM0_5 ++ ([(bb0_8, row 151 hs0_8)] ++ (MM0_8 ++ ((b0_, row 301 [.int .i64 x0.M.Rows, .int .i64 x0.M.Cols, .slice (some ⟨bb0_2, 0, none⟩) nn0_2 cc0_2, .int .i64 x0.U.Rows, .int .i64 x0.U.Cols, .slice (some ⟨bb0_5, 0, none⟩) nn0_5 cc0_5, .int .i64 x0.V.Rows, .int .i64 x0.V.Cols, .slice (some ⟨bb0_8, 0, none⟩) nn0_8 cc0_8]) :: []))))))) ++ L) fun v h' L' => ∃ (b0_2 : Nat) (hs0_2 : List Value) (n0_2 c0_2 : Nat) (M0_2 : Own) (b0_5 : Nat) (hs0_5 : List Value) (n0_5 c0_5 : Nat) (M0_5 : Own) (b0_8 : Nat) (hs0_8 : List Value) (n0_8 c0_8 : Nat) (M0_8 : Own), v = .tuple ⟨[]⟩ ∧ OwnLL IntR 75 2 h' hs0_2 c0_2 r.M.A M0_2 ∧ n0_2 = r.M.A.length ∧ OwnLL IntR 75 2 h' hs0_5 c0_5 r.U.A M0_5 ∧ n0_5 = r.U.A.length ∧ OwnLL IntR 75 2 h' hs0_8 c0_8 r.V.A M0_8 ∧ n0_8 = r.V.A.length ∧ L' = [(b0_2, row 151 hs0_2)] ++ (M0_2 ++ ([(b0_5, row 151 hs0_5)] ++ (M0_5 ++ ([(b0_8, row 151 hs0_8)] ++ (M0_8 ++ ([(b0_, row 301 [.int .i64 r.M.Rows, .int .i64 r.M.Cols, .slice (some ⟨b0_2, 0, none⟩) n0_2 c0_2, .int .i64 r.U.Rows, .int .i64 r.U.Cols, .slice (some ⟨b0_5, 0, none⟩) n0_5 c0_5, .int .i64 r.V.Rows, .int .i64 r.V.Cols, .slice (some ⟨b0_8, 0, none⟩) n0_8 c0_8])] ++ (L))))))) := by
 refine FnIn.intro (args := [_, _]) Tryz.func244 rfl rfl (lB rfl) <| J.eqL (L0 := [(bb0_2, row 151 hs0_2)] ++ (MM0_2 ++ ([(bb0_5, row 151 hs0_5)] ++ (MM0_5 ++ ([(bb0_8, row 151 hs0_8)] ++ (MM0_8 ++ ((b0_, row 301 [.int .i64 x0.M.Rows, .int .i64 x0.M.Cols, .slice (some ⟨bb0_2, 0, none⟩) nn0_2 cc0_2, .int .i64 x0.U.Rows, .int .i64 x0.U.Cols, .slice (some ⟨bb0_5, 0, none⟩) nn0_5 cc0_5, .int .i64 x0.V.Rows, .int .i64 x0.V.Cols, .slice (some ⟨bb0_8, 0, none⟩) nn0_8 cc0_8]) :: L))))))) (by simp) <| Sq <| SR <| oq (aI rfl) <| N0 <| Jb ?_
 obtain ⟨_, hm⟩ := rngN_some hm
 refine J.loopK (α := Int × (List (List Int)) × Nat × (List Value) × Nat × Nat × Own) (fun ⟨l, y, f, d, q, s, B⟩ h' L' => (OwnLL IntR 75 2 h' d s y B ∧ q = y.length) ∧ 0 ≤ l ∧ forN (M.r12_Work_Negate_b3 x1) (M.r12_Work_Negate_k3 x0 x1) x0.M.Cols l y = some r ∧ Sp ([(f, row 151 d)] ++ (B ++ ([(bb0_5, row 151 hs0_5)] ++ (MM0_5 ++ ([(bb0_8, row 151 hs0_8)] ++ (MM0_8 ++ ((b0_, row 301 [.int .i64 x0.M.Rows, .int .i64 x0.M.Cols, .slice (some ⟨f, 0, none⟩) q s, .int .i64 x0.U.Rows, .int .i64 x0.U.Cols, .slice (some ⟨bb0_5, 0, none⟩) nn0_5 cc0_5, .int .i64 x0.V.Rows, .int .i64 x0.V.Cols, .slice (some ⟨bb0_8, 0, none⟩) nn0_8 cc0_8]) :: L))))))) L') [(0, .pointer _), (1, .int _ _)] ⟨rfl, rfl, trivial⟩ (fun ⟨l, y, f, d, q, s, B⟩ => [(4, .int .i64 l)]) (fun ⟨l, y, f, d, q, s, B⟩ => (x0.M.Cols - l).toNat) ⟨0, x0.M.A, bb0_2, hs0_2, nn0_2, cc0_2, MM0_2⟩ ⟨⟨OwnLL.mono ww0_2, hn0_2⟩, Int.le_refl _, hm, ii⟩ ⟨rfl, trivial⟩ ?_
 rintro ⟨l, y, f, d, q, s, B⟩ _ _ _ _ ⟨⟨aF, R⟩, aN, hm, ay⟩
 refine J.sp ay <| Sq <| SR <| oq (mI rfl) <| oq (q_mvv (v := .pointer _) rfl) <| oq (q_nil rfl) <| oq (q_fa rfl) <| oq (q_fa rfl) <| oq (q_ld rfl ia rfl) <| oq (q_lss rfl rfl) <| N0 ?_
 by_cases T : l < x0.M.Cols
 · obtain ⟨_, hm, bb⟩ := forN_lt T hm
   unfold M.r12_Work_Negate_b3 at hm
   refine jT rfl (dT T) ?_
   have bq : -9223372036854775808 ≤ l + 1 ∧ l + 1 ≤ 9223372036854775807 := by omega
   refine Js <| Sq <| Jb <| nE hm fun _ aY Y av aA hm => ?_
   obtain ⟨_, aX, _, X, ax⟩ := OwnLL.hdr aF aA
   refine nE hm fun _ _ Z aa bd hm => ?_
   obtain ⟨bm, _, _, aW, rfl, _, bf, au, ba, _, bl⟩ := OwnLL.cell aF aA X bd
   obtain ⟨_, _, _, _, rfl, bo⟩ := IntR.op ba
   refine bE hm fun aJ bn hm => J.drawB [b0_, f, bm] [22] <| Dc 0 rfl (q_mvv (v := .pointer _) rfl) <| Dc 1 rfl (q_nil rfl) <| Dc 2 rfl (q_fa rfl) <| Dc 3 rfl (q_fa rfl) <| Dl 4 rfl (q_ld rfl ii rfl) <| Dc 5 rfl (mI rfl) <| Dc 6 rfl (q_ian rfl rfl Y (by rw [show q = _ from R]; exact av)) <| Dl 7 rfl (q_ld rfl ii (hdr_at X)) <| Dc 8 rfl (mI rfl) <| Dc 9 rfl (q_mvv (v := .pointer _) rfl) <| Dc 10 rfl (q_nil rfl) <| Dc 11 rfl (q_fa rfl) <| Dc 12 rfl (q_fa rfl) <| Dl 13 rfl (q_ld rfl ii rfl) <| Dc 14 rfl (mI rfl) <| Dc 15 rfl (q_ian rfl rfl Y (by rw [show q = _ from R]; exact av)) <| Dl 16 rfl (q_ld rfl ii (hdr_at X)) <| Dc 17 rfl (mI rfl) <| Dc 18 rfl (q_ian rfl rfl Z (by rw [show aX = _ from ax]; exact aa)) <| Dl 19 rfl (q_ldOa0 rfl ii au) <| Do 20 <| Xe rfl rfl <| oc (rneg_fn (iu bo) bn) fun _ _ _ bs => ?_
   obtain ⟨_, _, _, _, rfl, bp⟩ := bs.op
   refine NE <| Dc 21 rfl (q_ian rfl rfl Z (by rw [show aX = _ from ax]; exact aa)) <| Do 22 <| Xm rfl rfl <| o_stLL0 (us1 := [_, _]) (ps := [_, _]) (a := aJ) Sz.i rfl rfl rfl rfl (OwnC.mono bf) ii aa au rfl (lB rfl) rfl (Mo.up bp) (setL_eq Z) fun ap bg => JL.fact (fun h => OwnLL IntR 75 2 h d s (setL y x1 (setL aY l aJ)) (aW (row 75 ap))) (by rw [setL_eq Y]; exact bl _ _ _ ii bg setL_len (fun e x => Mo.m e x)) fun bt => NF <| Dd <| Rg <| oq (mI rfl) <| oq (q_add rfl rfl (wi64 bq)) <| oq (aI rfl) <| N0 <| have hm := inl_onward hm bb; ?_
   exact ⟨⟨l + 1, (setL y x1 (setL aY l aJ)), f, d, q, s, (aW (row 75 ap))⟩, rfl, ⟨rfl, rfl, trivial⟩, ⟨rfl, trivial⟩, ⟨⟨OwnLL.mono bt, (setL_hn R)⟩, Int.le_trans aN (Int.le_of_lt (Int.lt_succ _)), hm, ii⟩, (muN T), ii⟩
 · replace hm := forN_ge T hm
   unfold M.r12_Work_Negate_k3 at hm
   refine jF rfl (dF T) <| Jx <| Sq <| SR <| oq (aI rfl) <| N0 <| Jb ?_
   obtain ⟨_, hm⟩ := rngN_some hm
   refine J.loopK (α := Int × (List (List Int)) × Nat × (List Value) × Nat × Nat × Own) (fun ⟨n, C, p, j, t, w, D⟩ h' L' => (OwnLL IntR 75 2 h' j w C D ∧ t = C.length) ∧ 0 ≤ n ∧ forN (M.r12_Work_Negate_b2 x1) (M.r12_Work_Negate_k2 x0 x1 y) x0.U.Cols n C = some r ∧ Sp ([(f, row 151 d)] ++ (B ++ ([(p, row 151 j)] ++ (D ++ ([(bb0_8, row 151 hs0_8)] ++ (MM0_8 ++ ((b0_, row 301 [.int .i64 x0.M.Rows, .int .i64 x0.M.Cols, .slice (some ⟨f, 0, none⟩) q s, .int .i64 x0.U.Rows, .int .i64 x0.U.Cols, .slice (some ⟨p, 0, none⟩) t w, .int .i64 x0.V.Rows, .int .i64 x0.V.Cols, .slice (some ⟨bb0_8, 0, none⟩) nn0_8 cc0_8]) :: L))))))) L') [(0, .pointer _), (1, .int _ _)] ⟨rfl, rfl, trivial⟩ (fun ⟨n, C, p, j, t, w, D⟩ => [(5, .int .i64 n)]) (fun ⟨n, C, p, j, t, w, D⟩ => (x0.U.Cols - n).toNat) ⟨0, x0.U.A, bb0_5, hs0_5, nn0_5, cc0_5, MM0_5⟩ ⟨⟨OwnLL.mono ww0_5, hn0_5⟩, Int.le_refl _, hm, ii⟩ ⟨rfl, trivial⟩ ?_
   rintro ⟨n, C, p, j, t, w, D⟩ _ _ _ _ ⟨⟨aG, S⟩, aO, hm, az⟩
   refine J.sp az <| Sq <| SR <| oq (mI rfl) <| oq (q_mvv (v := .pointer _) rfl) <| oq (q_nil rfl) <| oq (q_fa rfl) <| oq (q_fa rfl) <| oq (q_ld rfl ia rfl) <| oq (q_lss rfl rfl) <| N0 ?_
   by_cases W : n < x0.U.Cols
   · obtain ⟨_, hm, bc⟩ := forN_lt W hm
     unfold M.r12_Work_Negate_b2 at hm
     refine jT rfl (dT W) ?_
     have br : -9223372036854775808 ≤ n + 1 ∧ n + 1 ≤ 9223372036854775807 := by omega
     refine Js <| Sq <| Jb <| nE hm fun _ aZ I ai am hm => ?_
     obtain ⟨_, aC, _, G, ak⟩ := OwnLL.hdr aG am
     refine nE hm fun _ _ K P aP hm => ?_
     obtain ⟨a2, _, _, aq, rfl, _, aR, ag, aK, _, a0⟩ := OwnLL.cell aG am G aP
     obtain ⟨_, _, _, _, rfl, a6⟩ := IntR.op aK
     refine bE hm fun ac a4 hm => J.drawB [b0_, p, a2] [22] <| Dc 0 rfl (q_mvv (v := .pointer _) rfl) <| Dc 1 rfl (q_nil rfl) <| Dc 2 rfl (q_fa rfl) <| Dc 3 rfl (q_fa rfl) <| Dl 4 rfl (q_ld rfl ii rfl) <| Dc 5 rfl (mI rfl) <| Dc 6 rfl (q_ian rfl rfl I (by rw [show t = _ from S]; exact ai)) <| Dl 7 rfl (q_ld rfl ii (hdr_at G)) <| Dc 8 rfl (mI rfl) <| Dc 9 rfl (q_mvv (v := .pointer _) rfl) <| Dc 10 rfl (q_nil rfl) <| Dc 11 rfl (q_fa rfl) <| Dc 12 rfl (q_fa rfl) <| Dl 13 rfl (q_ld rfl ii rfl) <| Dc 14 rfl (mI rfl) <| Dc 15 rfl (q_ian rfl rfl I (by rw [show t = _ from S]; exact ai)) <| Dl 16 rfl (q_ld rfl ii (hdr_at G)) <| Dc 17 rfl (mI rfl) <| Dc 18 rfl (q_ian rfl rfl K (by rw [show aC = _ from ak]; exact P)) <| Dl 19 rfl (q_ldOa0 rfl ii ag) <| Do 20 <| Xe rfl rfl <| oc (rneg_fn (iu a6) a4) fun _ _ _ bh => ?_
     obtain ⟨_, _, _, _, rfl, a7⟩ := bh.op
     refine NE <| Dc 21 rfl (q_ian rfl rfl K (by rw [show aC = _ from ak]; exact P)) <| Do 22 <| Xm rfl rfl <| o_stLL0 (us1 := [_, _]) (ps := [_, _]) (a := ac) Sz.i rfl rfl rfl rfl (OwnC.mono aR) ii P ag rfl (lB rfl) rfl (Mo.up a7) (setL_eq K) fun ae aT => JL.fact (fun h => OwnLL IntR 75 2 h j w (setL C x1 (setL aZ n ac)) (aq (row 75 ae))) (by rw [setL_eq I]; exact a0 _ _ _ ii aT setL_len (fun e x => Mo.m e x)) fun bj => NF <| Dd <| Rg <| oq (mI rfl) <| oq (q_add rfl rfl (wi64 br)) <| oq (aI rfl) <| N0 <| have hm := inl_onward hm bc; ?_
     exact ⟨⟨n + 1, (setL C x1 (setL aZ n ac)), p, j, t, w, (aq (row 75 ae))⟩, rfl, ⟨rfl, rfl, trivial⟩, ⟨rfl, trivial⟩, ⟨⟨OwnLL.mono bj, (setL_hn S)⟩, Int.le_trans aO (Int.le_of_lt (Int.lt_succ _)), hm, ii⟩, (muN W), ii⟩
   · replace hm := forN_ge W hm
     unfold M.r12_Work_Negate_k2 at hm
     refine jF rfl (dF W) <| Jx <| SR <| oq (aI rfl) <| N0 <| Jb ?_
     obtain ⟨_, hm⟩ := rngN_some hm
     refine J.loopK (α := Int × (List (List Int)) × Nat × (List Value) × Nat × Nat × Own) (fun ⟨b, u, g, c, k, o, z⟩ h' L' => (OwnLL IntR 75 2 h' c o u z ∧ k = u.length) ∧ 0 ≤ b ∧ forN (M.r12_Work_Negate_b1 x1) (M.r12_Work_Negate_k1 x0 y C) x0.V.Rows b u = some r ∧ Sp ([(f, row 151 d)] ++ (B ++ ([(p, row 151 j)] ++ (D ++ ([(g, row 151 c)] ++ (z ++ ((b0_, row 301 [.int .i64 x0.M.Rows, .int .i64 x0.M.Cols, .slice (some ⟨f, 0, none⟩) q s, .int .i64 x0.U.Rows, .int .i64 x0.U.Cols, .slice (some ⟨p, 0, none⟩) t w, .int .i64 x0.V.Rows, .int .i64 x0.V.Cols, .slice (some ⟨g, 0, none⟩) k o]) :: L))))))) L') [(0, .pointer _), (1, .int _ _)] ⟨rfl, rfl, trivial⟩ (fun ⟨b, u, g, c, k, o, z⟩ => [(6, .int .i64 b)]) (fun ⟨b, u, g, c, k, o, z⟩ => (x0.V.Rows - b).toNat) ⟨0, x0.V.A, bb0_8, hs0_8, nn0_8, cc0_8, MM0_8⟩ ⟨⟨OwnLL.mono ww0_8, hn0_8⟩, Int.le_refl _, hm, ii⟩ ⟨rfl, trivial⟩ ?_
     rintro ⟨b, u, g, c, k, o, z⟩ _ _ _ _ ⟨⟨ab, E⟩, aw, hm, ao⟩
     refine J.sp ao <| Sq <| SR <| oq (mI rfl) <| oq (q_mvv (v := .pointer _) rfl) <| oq (q_nil rfl) <| oq (q_fa rfl) <| oq (q_fa rfl) <| oq (q_ld rfl ia rfl) <| oq (q_lss rfl rfl) <| N0 ?_
     by_cases F : b < x0.V.Rows
     · obtain ⟨_, hm, aM⟩ := forN_lt F hm
       unfold M.r12_Work_Negate_b1 at hm
       refine jT rfl (dT F) ?_
       have be : -9223372036854775808 ≤ b + 1 ∧ b + 1 ≤ 9223372036854775807 := by omega
       refine Js <| Sq <| Jb <| nE hm fun _ aH N aj an hm => ?_
       obtain ⟨_, aD, _, H, al⟩ := OwnLL.hdr ab an
       refine nE hm fun _ _ O Q aQ hm => ?_
       obtain ⟨a3, _, _, ar, rfl, _, aU, ah, aL, _, a1⟩ := OwnLL.cell ab an H aQ
       obtain ⟨_, _, _, _, rfl, a8⟩ := IntR.op aL
       refine bE hm fun ad a5 hm => J.drawB [b0_, g, a3] [22] <| Dc 0 rfl (q_mvv (v := .pointer _) rfl) <| Dc 1 rfl (q_nil rfl) <| Dc 2 rfl (q_fa rfl) <| Dc 3 rfl (q_fa rfl) <| Dl 4 rfl (q_ld rfl ii rfl) <| Dc 5 rfl (mI rfl) <| Dc 6 rfl (q_ian rfl rfl N (by rw [show k = _ from E]; exact aj)) <| Dl 7 rfl (q_ld rfl ii (hdr_at H)) <| Dc 8 rfl (mI rfl) <| Dc 9 rfl (q_mvv (v := .pointer _) rfl) <| Dc 10 rfl (q_nil rfl) <| Dc 11 rfl (q_fa rfl) <| Dc 12 rfl (q_fa rfl) <| Dl 13 rfl (q_ld rfl ii rfl) <| Dc 14 rfl (mI rfl) <| Dc 15 rfl (q_ian rfl rfl N (by rw [show k = _ from E]; exact aj)) <| Dl 16 rfl (q_ld rfl ii (hdr_at H)) <| Dc 17 rfl (mI rfl) <| Dc 18 rfl (q_ian rfl rfl O (by rw [show aD = _ from al]; exact Q)) <| Dl 19 rfl (q_ldOa0 rfl ii ah) <| Do 20 <| Xe rfl rfl <| oc (rneg_fn (iu a8) a5) fun _ _ _ bi => ?_
       obtain ⟨_, _, _, _, rfl, a9⟩ := bi.op
       refine NE <| Dc 21 rfl (q_ian rfl rfl O (by rw [show aD = _ from al]; exact Q)) <| Do 22 <| Xm rfl rfl <| o_stLL0 (us1 := [_, _]) (ps := [_, _]) (a := ad) Sz.i rfl rfl rfl rfl (OwnC.mono aU) ii Q ah rfl (lB rfl) rfl (Mo.up a9) (setL_eq O) fun af aV => JL.fact (fun h => OwnLL IntR 75 2 h c o (setL u b (setL aH x1 ad)) (ar (row 75 af))) (by rw [setL_eq N]; exact a1 _ _ _ ii aV setL_len (fun e x => Mo.m e x)) fun bk => NF <| Dd <| Rg <| oq (mI rfl) <| oq (q_add rfl rfl (wi64 be)) <| oq (aI rfl) <| N0 <| have hm := inl_onward hm aM; ?_
       exact ⟨⟨b + 1, (setL u b (setL aH x1 ad)), g, c, k, o, (ar (row 75 af))⟩, rfl, ⟨rfl, rfl, trivial⟩, ⟨rfl, trivial⟩, ⟨⟨OwnLL.mono bk, (setL_hn E)⟩, Int.le_trans aw (Int.le_of_lt (Int.lt_succ _)), hm, ii⟩, (muN F), ii⟩
     · replace hm := forN_ge F hm
       unfold M.r12_Work_Negate_k1 at hm
       refine jF rfl (dF F) <| Jx ?_
       cases hm
       exact ret_okS (fn := Tryz.f244) (L2 := [(f, row 151 d)] ++ (B ++ ([(p, row 151 j)] ++ (D ++ ([(g, row 151 c)] ++ (z ++ ([(b0_, row 301 [.int .i64 x0.M.Rows, .int .i64 x0.M.Cols, .slice (some ⟨f, 0, none⟩) q s, .int .i64 x0.U.Rows, .int .i64 x0.U.Cols, .slice (some ⟨p, 0, none⟩) t w, .int .i64 x0.V.Rows, .int .i64 x0.V.Cols, .slice (some ⟨g, 0, none⟩) k o])] ++ (L)))))))) rfl .nil ii ⟨f, d, q, s, B, p, j, t, w, D, g, c, k, o, z, rfl, OwnLL.mono aF, R, OwnLL.mono aG, S, OwnLL.mono ab, E, rfl⟩
end Go.Z
end
section
namespace Go.Z
open Go Go.RowKit Go.Proofs
theorem r12_Floor_fn {h : Heap} {x0 : Int} {x1 : Int} {v0 : Value} {v1 : Value} (r0 : IntAt h v0 x0) (r1 : IntAt h v1 x1) {r : Int} (hm : M.r12_Floor x0 x1 = some r) :
    Fn Tryz.prog 245 #[v0, v1] h fun v h' => IntAt h' v r := by
 obtain ⟨_, _, _, _, rfl, b⟩ := r0.op
 obtain ⟨_, _, _, _, rfl, c⟩ := r1.op
 refine Fn.intro (args := [_, _]) Tryz.func245 rfl rfl (lB rfl) fun w => ?_
 unfold M.r12_Floor at hm
 refine SR <| o_bx (v := .agg ⟨[.bool _, .slice _ _ _]⟩) rfl rfl fun _ => o_bx (v := .agg ⟨[.bool _, .slice _ _ _]⟩) rfl rfl fun _ => o_al fun _ => N0 <| Sq <| bE hm fun _ a hm => Rg <| oq (q_lda (vs := [_, _]) rfl ii ⟨rfl, rfl, trivial⟩) <| oq (q_lda (vs := [_, _]) rfl ii ⟨rfl, rfl, trivial⟩) <| oc (r01_DivMod_fn (iu b) (iu c) a) fun _ _ _ e => ?_
 obtain ⟨_, _, _, rfl, f, g, i⟩ := e
 obtain ⟨_, _, _, _, rfl, d⟩ := f.op
 obtain ⟨_, _, _, _, rfl, _⟩ := g.op
 cases i
 refine oq q_mv <| oq (q_ex rfl rfl) <| oq (q_ex rfl rfl) <| oq (q_ex rfl rfl) <| o_al fun _ => o_al fun _ => Sc [.bool _, .slice _ _ _] [.bool _, .slice _ _ _] rfl rfl rfl rfl rfl ia rfl rfl <| Sc [.bool _, .slice _ _ _] [.bool _, .slice _ _ _] rfl rfl rfl rfl rfl ia rfl rfl <| oq (aI rfl) <| N0 <| SR <| oq (q_lda (vs := [_, _]) rfl ii ⟨rfl, rfl, trivial⟩) <| Sc [.bool _, .slice _ _ _] [.bool _, .slice _ _ _] rfl rfl rfl rfl rfl ia rfl rfl <| N0 <| Jr ?_
 cases hm
 exact ret_ok (fn := Tryz.f245) rfl (.agg rfl ii ii .nil) (iu d)
theorem r12_Form_fn {h : Heap} {x0 : TMat} {v0 : Value} (r0 : AggV TMatR h v0 x0) {r : THermite} (hm : M.r12_Form x0 = some r) :
    Fn Tryz.prog 211 #[v0] h fun v h' => AggV THermiteR h' v r := by
 obtain ⟨_, rfl, cq, cp, co, rfl, gd⟩ := r0
 refine Fn.intro (args := [_]) Tryz.func211 rfl rfl (lB rfl) fun w => ?_
 unfold M.r12_Form at hm
 refine SR <| o_bx (v := .agg ⟨[.int _ _, .int _ _, .slice _ _ _]⟩) rfl rfl fun cm => o_al fun cn => N0 <| Sq <| bE hm fun bn gc hm => Rg <| oq (q_lda (vs := [_, _, _]) rfl ii ⟨rfl, rfl, rfl, trivial⟩) <| o_calll (r12_Start_own (x0 := x0) ⟨_, rfl, ⟨_, _, _, rfl, Sm gd⟩⟩ gc) fun _ _ _ _ gh => ?_
 obtain ⟨f6, fh, ge, f9, f3, f7, fi, gf, ga, f4, f8, fj, gg, gb, f5, D, rfl, gi, fe, gj, ff, gk, fg, rfl⟩ := gh
 refine oq (q_asv (v := .pointer _) rfl) <| N0 <| SR <| oq (aI rfl) <| N0 <| Sq <| SR <| oq (aI rfl) <| N0 <| Jb ?_
 replace hm := (show iter _ fuel _ = some _ from hm)
 refine J.loopK (α := Nat × Int × Int × (List (List Int)) × Int × Int × (List (List Int)) × Int × Int × (List (List Int)) × Int × Int × Nat × (List Value) × Nat × Nat × Own × Nat × (List Value) × Nat × Nat × Own × Nat × (List Value) × Nat × Nat × Own) (fun ⟨cz, bw, bx, bz, bA, bB, bC, bD, bG, bH, e, H, bh, aZ, cd, b3, bR, bi, a0, ce, b4, bS, bj, a1, cf, b5, bU⟩ h' L' => (OwnLL IntR 75 2 h' aZ b3 bz bR ∧ cd = bz.length) ∧ (OwnLL IntR 75 2 h' a0 b4 bC bS ∧ ce = bC.length) ∧ (OwnLL IntR 75 2 h' a1 b5 bH bU ∧ cf = bH.length) ∧ iter (M.r12_Form_b6 x0) cz (bw, bx, bz, bA, bB, bC, bD, bG, bH, e, H) = some r ∧ Sp ([(bh, row 151 aZ)] ++ (bR ++ ([(bi, row 151 a0)] ++ (bS ++ ([(bj, row 151 a1)] ++ (bU ++ ([(cm, row 163 [.int .i64 x0.Rows, .int .i64 x0.Cols, .slice cq cp co]), (cn, row 265 [.int .i64 0, .int .i64 0, .slice none 0 0, .int .i64 0, .int .i64 0, .slice none 0 0, .int .i64 0, .int .i64 0, .slice none 0 0]), (D, row 301 [.int .i64 bw, .int .i64 bx, .slice (some ⟨bh, 0, none⟩) cd b3, .int .i64 bA, .int .i64 bB, .slice (some ⟨bi, 0, none⟩) ce b4, .int .i64 bD, .int .i64 bG, .slice (some ⟨bj, 0, none⟩) cf b5])]))))))) L') [(1, .pointer _), (2, .pointer _), (3, .pointer _)] ⟨rfl, rfl, rfl, trivial⟩ (fun ⟨cz, bw, bx, bz, bA, bB, bC, bD, bG, bH, e, H, bh, aZ, cd, b3, bR, bi, a0, ce, b4, bS, bj, a1, cf, b5, bU⟩ => [(4, .int .i64 e), (5, .int .i64 H)]) (fun ⟨cz, bw, bx, bz, bA, bB, bC, bD, bG, bH, e, H, bh, aZ, cd, b3, bR, bi, a0, ce, b4, bS, bj, a1, cf, b5, bU⟩ => cz) ⟨fuel, bn.M.Rows, bn.M.Cols, bn.M.A, bn.U.Rows, bn.U.Cols, bn.U.A, bn.V.Rows, bn.V.Cols, bn.V.A, 0, 0, f6, fh, ge, f9, f3, f7, fi, gf, ga, f4, f8, fj, gg, gb, f5⟩ ⟨⟨OwnLL.mono gi, fe⟩, ⟨OwnLL.mono gj, ff⟩, ⟨OwnLL.mono gk, fg⟩, hm, ii⟩ ⟨rfl, rfl, trivial⟩ ?_
 rintro ⟨cz, bw, bx, bz, bA, bB, bC, bD, bG, bH, e, H, bh, aZ, cd, b3, bR, bi, a0, ce, b4, bS, bj, a1, cf, b5, bU⟩ _ _ _ _ ⟨⟨eg, dn⟩, ⟨eh, dp⟩, ⟨ei, dq⟩, hm, dr⟩
 refine J.sp dr ?_
 obtain ⟨ef, da, rfl, hm, cD⟩ := iter_some hm
 unfold M.r12_Form_b6 at hm
 refine Sq <| Sq ?_
 refine J.joinK (α := Bool) (fun db h' L' => (M.r12_Form_j5 x0 bw bx bz bA bB bC bD bG bH e H) db = some da ∧ Sp ([(bh, row 151 aZ)] ++ (bR ++ ([(bi, row 151 a0)] ++ (bS ++ ([(bj, row 151 a1)] ++ (bU ++ ([(cm, row 163 [.int .i64 x0.Rows, .int .i64 x0.Cols, .slice cq cp co]), (cn, row 265 [.int .i64 0, .int .i64 0, .slice none 0 0, .int .i64 0, .int .i64 0, .slice none 0 0, .int .i64 0, .int .i64 0, .slice none 0 0]), (D, row 301 [.int .i64 bw, .int .i64 bx, .slice (some ⟨bh, 0, none⟩) cd b3, .int .i64 bA, .int .i64 bB, .slice (some ⟨bi, 0, none⟩) ce b4, .int .i64 bD, .int .i64 bG, .slice (some ⟨bj, 0, none⟩) cf b5])]))))))) L') [(1, .pointer _), (2, .pointer _), (3, .pointer _), (4, .int _ _), (5, .int _ _)] ⟨rfl, rfl, rfl, rfl, rfl, trivial⟩ (fun db => [(22, .bool db)]) ?_ ?_
 · refine iC hm (fun y hm => ?_) fun y hm => ?_
   · refine Rg <| oq (mI rfl) <| oq (q_fa rfl) <| oq (q_ld rfl ia rfl) <| oq (q_lss rfl rfl) <| oq (mB rfl) <| gT rfl rfl (dT y) <| oq (mI rfl) <| gT rfl rfl (dT y) <| oq (q_fa rfl) <| gT rfl rfl (dT y) <| oq (q_ld rfl ia rfl) <| gT rfl rfl (dT y) <| oq (q_lss rfl rfl) <| oq (pkT rfl (dT y) rfl) <| N0 ?_
     exact ⟨(decide (e < x0.Rows)), rfl, ⟨rfl, rfl, rfl, rfl, rfl, trivial⟩, ⟨rfl, trivial⟩, ⟨hm, ii⟩, ii⟩
   · refine Rg <| oq (mI rfl) <| oq (q_fa rfl) <| oq (q_ld rfl ia rfl) <| oq (q_lss rfl rfl) <| oq (mB rfl) <| gF rfl rfl (dF y) <| gF rfl rfl (dF y) <| gF rfl rfl (dF y) <| gF rfl rfl (dF y) <| oq (pkF rfl (dF y) rfl) <| N0 ?_
     exact ⟨false, rfl, ⟨rfl, rfl, rfl, rfl, rfl, trivial⟩, ⟨rfl, trivial⟩, ⟨hm, ii⟩, ii⟩
 · rintro db _ _ _ _ ⟨hm, ds⟩
   refine J.sp ds ?_
   unfold M.r12_Form_j5 at hm
   refine iC hm (fun dj hm => ?_) fun dj hm => ?_
   · refine jT rfl dj <| Js <| Sq <| Jb <| Sq <| Sq <| kS hm fun ee hm => Rg <| oq (mI rfl) <| oq (q_add rfl rfl (wi64 ee)) <| oq (aI rfl) <| N0 <| Jb ?_
     obtain ⟨_, hm⟩ := rngN_some hm
     refine J.loopK (α := Int × Int × Int × (List (List Int)) × Int × Int × (List (List Int)) × Int × Int × (List (List Int)) × Nat × (List Value) × Nat × Nat × Own × Nat × (List Value) × Nat × Nat × Own × Nat × (List Value) × Nat × Nat × Own) (fun ⟨p, al, am, an, ao, ap, aq, ar, au, av, I, s, C, Y, S, K, t, af, Z, T, L, u, ag, aa, W⟩ h' L' => (OwnLL IntR 75 2 h' s Y an S ∧ C = an.length) ∧ (OwnLL IntR 75 2 h' t Z aq T ∧ af = aq.length) ∧ (OwnLL IntR 75 2 h' u aa av W ∧ ag = av.length) ∧ (e + 1) ≤ p ∧ forN (M.r12_Form_b4 e H) (M.r12_Form_k4 e H) x0.Rows p (al, am, an, ao, ap, aq, ar, au, av) = some da ∧ Sp ([(I, row 151 s)] ++ (S ++ ([(K, row 151 t)] ++ (T ++ ([(L, row 151 u)] ++ (W ++ ([(cm, row 163 [.int .i64 x0.Rows, .int .i64 x0.Cols, .slice cq cp co]), (cn, row 265 [.int .i64 0, .int .i64 0, .slice none 0 0, .int .i64 0, .int .i64 0, .slice none 0 0, .int .i64 0, .int .i64 0, .slice none 0 0]), (D, row 301 [.int .i64 al, .int .i64 am, .slice (some ⟨I, 0, none⟩) C Y, .int .i64 ao, .int .i64 ap, .slice (some ⟨K, 0, none⟩) af Z, .int .i64 ar, .int .i64 au, .slice (some ⟨L, 0, none⟩) ag aa])]))))))) L') [(1, .pointer _), (2, .pointer _), (3, .pointer _), (4, .int _ _), (5, .int _ _)] ⟨rfl, rfl, rfl, rfl, rfl, trivial⟩ (fun ⟨p, al, am, an, ao, ap, aq, ar, au, av, I, s, C, Y, S, K, t, af, Z, T, L, u, ag, aa, W⟩ => [(6, .int .i64 p)]) (fun ⟨p, al, am, an, ao, ap, aq, ar, au, av, I, s, C, Y, S, K, t, af, Z, T, L, u, ag, aa, W⟩ => (x0.Rows - p).toNat) ⟨(e + 1), bw, bx, bz, bA, bB, bC, bD, bG, bH, bh, aZ, cd, b3, bR, bi, a0, ce, b4, bS, bj, a1, cf, b5, bU⟩ ⟨⟨OwnLL.mono eg, dn⟩, ⟨OwnLL.mono eh, dp⟩, ⟨OwnLL.mono ei, dq⟩, Int.le_refl _, hm, ii⟩ ⟨rfl, trivial⟩ ?_
     rintro ⟨p, al, am, an, ao, ap, aq, ar, au, av, I, s, C, Y, S, K, t, af, Z, T, L, u, ag, aa, W⟩ _ _ _ _ ⟨⟨bt, aR⟩, ⟨cx, bM⟩, ⟨cy, bN⟩, dl, hm, dc⟩
     refine J.sp dc <| Sq <| SR <| oq (mI rfl) <| oq (q_fa rfl) <| oq (q_ld rfl ia rfl) <| oq (q_lss rfl rfl) <| N0 ?_
     by_cases bY : p < x0.Rows
     · obtain ⟨fC, hm, dE⟩ := forN_lt bY hm
       unfold M.r12_Form_b4 at hm
       refine jT rfl (dT bY) ?_
       have fk : -9223372036854775808 ≤ p + 1 ∧ p + 1 ≤ 9223372036854775807 := by omega
       refine Js <| Sq <| Jb <| Jb ?_
       replace hm := (show iter _ fuel _ = some _ from hm)
       refine J.loopK (α := Nat × Int × Int × (List (List Int)) × Int × Int × (List (List Int)) × Int × Int × (List (List Int)) × Nat × (List Value) × Nat × Nat × Own × Nat × (List Value) × Nat × Nat × Own × Nat × (List Value) × Nat × Nat × Own) (fun ⟨b8, aL, aM, a4, aN, aO, a5, aP, aQ, a6, x, E, q, aF, ay, N, F, aJ, aG, az, O, G, aK, aH, aA⟩ h' L' => (OwnLL IntR 75 2 h' E aF a4 ay ∧ q = a4.length) ∧ (OwnLL IntR 75 2 h' F aG a5 az ∧ aJ = a5.length) ∧ (OwnLL IntR 75 2 h' G aH a6 aA ∧ aK = a6.length) ∧ iter (M.r12_Form_b1 e H p) b8 (aL, aM, a4, aN, aO, a5, aP, aQ, a6) = some fC ∧ Sp ([(x, row 151 E)] ++ (ay ++ ([(N, row 151 F)] ++ (az ++ ([(O, row 151 G)] ++ (aA ++ ([(cm, row 163 [.int .i64 x0.Rows, .int .i64 x0.Cols, .slice cq cp co]), (cn, row 265 [.int .i64 0, .int .i64 0, .slice none 0 0, .int .i64 0, .int .i64 0, .slice none 0 0, .int .i64 0, .int .i64 0, .slice none 0 0]), (D, row 301 [.int .i64 aL, .int .i64 aM, .slice (some ⟨x, 0, none⟩) q aF, .int .i64 aN, .int .i64 aO, .slice (some ⟨N, 0, none⟩) aJ aG, .int .i64 aP, .int .i64 aQ, .slice (some ⟨O, 0, none⟩) aK aH])]))))))) L') [(1, .pointer _), (2, .pointer _), (3, .pointer _), (4, .int _ _), (5, .int _ _), (6, .int _ _)] ⟨rfl, rfl, rfl, rfl, rfl, rfl, trivial⟩ (fun ⟨b8, aL, aM, a4, aN, aO, a5, aP, aQ, a6, x, E, q, aF, ay, N, F, aJ, aG, az, O, G, aK, aH, aA⟩ => []) (fun ⟨b8, aL, aM, a4, aN, aO, a5, aP, aQ, a6, x, E, q, aF, ay, N, F, aJ, aG, az, O, G, aK, aH, aA⟩ => b8) ⟨fuel, al, am, an, ao, ap, aq, ar, au, av, I, s, C, Y, S, K, t, af, Z, T, L, u, ag, aa, W⟩ ⟨⟨OwnLL.mono bt, aR⟩, ⟨OwnLL.mono cx, bM⟩, ⟨OwnLL.mono cy, bN⟩, hm, ii⟩ trivial ?_
       rintro ⟨b8, aL, aM, a4, aN, aO, a5, aP, aQ, a6, x, E, q, aF, ay, N, F, aJ, aG, az, O, G, aK, aH, aA⟩ _ _ _ _ ⟨⟨bg, ab⟩, ⟨cE, cv⟩, ⟨cF, cw⟩, hm, dd⟩
       refine J.sp dd ?_
       obtain ⟨fp, _, rfl, hm, cM⟩ := iter_some hm
       unfold M.r12_Form_b1 at hm
       refine Sq <| Sq <| nE hm fun _ _ cG cQ c5 hm => ?_
       obtain ⟨_, dt, _, cs, cW⟩ := OwnLL.hdr bg c5
       refine nE hm fun _ _ cH cR d9 hm => ?_
       obtain ⟨ev, _, _, _, rfl, _, _, cN, dz, _, _⟩ := OwnLL.cell bg c5 cs d9
       obtain ⟨_, _, _, _, rfl, bo⟩ := IntR.op dz
       refine bE hm fun _ eU hm => Rg <| oq (q_mvv (v := .pointer _) rfl) <| oq (q_nil rfl) <| oq (q_fa rfl) <| oq (q_fa rfl) <| oq (q_ld rfl ia rfl) <| oq (mI rfl) <| oq (q_ian rfl rfl cG (by rw [show q = _ from ab]; exact cQ)) <| oq (q_ld rfl ii (hdr_at cs)) <| oq (mI rfl) <| oq (q_ian rfl rfl cH (by rw [show dt = _ from cW]; exact cR)) <| oq (q_ldOa0 rfl ii cN) <| oc (rsign_fn (iu bo) eU) fun _ _ _ fD => ?_
       cases fD
       refine oq (q_neq rfl rfl) <| N0 <| iC hm (fun cA hm => ?_) fun cA hm => ?_
       · refine jF rfl (dF (fun z => z cA)) <| Jx <| have hm := inr_onward hm cM; Rg <| oq (mI rfl) <| oq (q_add rfl rfl (wi64 fk)) <| oq (aI rfl) <| N0 <| have hm := inl_onward hm dE; ?_
         exact ⟨⟨p + 1, aL, aM, a4, aN, aO, a5, aP, aQ, a6, x, E, q, aF, ay, N, F, aJ, aG, az, O, G, aK, aH, aA⟩, rfl, ⟨rfl, rfl, rfl, rfl, rfl, trivial⟩, ⟨rfl, trivial⟩, ⟨⟨OwnLL.mono bg, ab⟩, ⟨OwnLL.mono cE, cv⟩, ⟨OwnLL.mono cF, cw⟩, Int.le_trans dl (Int.le_of_lt (Int.lt_succ _)), hm, ii⟩, (muN bY), ii⟩
       · refine jT rfl (dT cA) <| Js <| Jb <| Sq <| Sq <| nE hm fun _ _ cI cS c6 hm => ?_
         obtain ⟨_, du, _, ct, cX⟩ := OwnLL.hdr bg c6
         refine nE hm fun _ _ cJ cT ea hm => ?_
         obtain ⟨ew, _, _, _, rfl, _, _, cO, dA, _, _⟩ := OwnLL.cell bg c6 ct ea
         obtain ⟨_, _, _, _, rfl, bp⟩ := IntR.op dA
         refine bE hm fun f2 eV hm => Rg <| oq (q_mvv (v := .pointer _) rfl) <| oq (q_nil rfl) <| oq (q_fa rfl) <| oq (q_fa rfl) <| oq (q_ld rfl ia rfl) <| oq (mI rfl) <| oq (q_ian rfl rfl cI (by rw [show q = _ from ab]; exact cS)) <| oq (q_ld rfl ii (hdr_at ct)) <| oq (mI rfl) <| oq (q_ian rfl rfl cJ (by rw [show du = _ from cX]; exact cT)) <| oq (q_ldOa0 rfl ii cO) <| oc (rsign_fn (iu bp) eV) fun _ _ _ fE => ?_
         cases fE
         refine oq (q_neq rfl rfl) <| N0 ?_
         by_cases cr : f2 = 0
         focus
          replace hm := ite_T cr hm
          refine jF rfl (dF (fun z => z cr)) <| Js <| bE hm fun R eW hm => Rg <| oq (q_mvv (v := .pointer _) rfl) <| oq (mI rfl) <| oq (mI rfl) <| o_callio ([(x, row 151 E)] ++ (ay ++ ([(N, row 151 F)] ++ (az ++ ([(O, row 151 G)] ++ (aA ++ ([(D, row 301 [.int .i64 aL, .int .i64 aM, .slice (some ⟨x, 0, none⟩) q aF, .int .i64 aN, .int .i64 aO, .slice (some ⟨N, 0, none⟩) aJ aG, .int .i64 aP, .int .i64 aQ, .slice (some ⟨O, 0, none⟩) aK aH])] ++ ([])))))))) (r12_Work_Swap_own (OwnLL.mono bg) ab (OwnLL.mono cE) cv (OwnLL.mono cF) cw eW) fun _ _ _ _ dw => ?_
         rotate_left
         focus
          replace hm := ite_F cr hm
          refine jT rfl (dT cr) <| Sq <| bE hm fun _ b6 hm => J.drawB [D, x, ew, ev] [] <| Dc 0 rfl (q_mvv (v := .pointer _) rfl) <| Dc 1 rfl (q_nil rfl) <| Dc 2 rfl (q_fa rfl) <| Dc 3 rfl (q_fa rfl) <| Dl 4 rfl (q_ld rfl ii rfl) <| Dc 5 rfl (mI rfl) <| Dc 6 rfl (q_ian rfl rfl cI (by rw [show q = _ from ab]; exact cS)) <| Dl 7 rfl (q_ld rfl ii (hdr_at ct)) <| Dc 8 rfl (mI rfl) <| Dc 9 rfl (q_ian rfl rfl cJ (by rw [show du = _ from cX]; exact cT)) <| Dl 10 rfl (q_ldOa0 rfl ii cO) <| Dc 11 rfl (q_mvv (v := .pointer _) rfl) <| Dc 12 rfl (q_nil rfl) <| Dc 13 rfl (q_fa rfl) <| Dc 14 rfl (q_fa rfl) <| Dl 15 rfl (q_ld rfl ii rfl) <| Dc 16 rfl (mI rfl) <| Dc 17 rfl (q_ian rfl rfl cG (by rw [show q = _ from ab]; exact cQ)) <| Dl 18 rfl (q_ld rfl ii (hdr_at cs)) <| Dc 19 rfl (mI rfl) <| Dc 20 rfl (q_ian rfl rfl cH (by rw [show dt = _ from cW]; exact cR)) <| Dl 21 rfl (q_ldOa0 rfl ii cN) ?_
          refine Da [22, 27, 28] ⟨?_, ?_, ?_, trivial⟩
          focus
           refine Xe rfl rfl <| oc (r01_DivMod_fn (iu bp) (iu bo) b6) fun _ _ _ ah => ?_
           obtain ⟨_, _, _, rfl, ai, aj, ak⟩ := ah
           obtain ⟨_, _, _, _, rfl, b7⟩ := ai.op
           obtain ⟨_, _, _, _, rfl, _⟩ := aj.op
           cases ak
           refine NE <| Dc 23 rfl (q_mv) <| Dc 24 rfl (q_ex rfl rfl) <| Dc 25 rfl (q_ex rfl rfl) <| Dc 26 rfl (q_ex rfl rfl) ?_
           refine Da [27, 28] ⟨?_, ?_, trivial⟩
           focus
            refine Xe rfl rfl <| o_al fun _ => NE <| Do 28 ?_
           rotate_left
           focus
            refine Xe rfl rfl <| o_al fun _ => NE <| Do 27 ?_
           rotate_left
           all_goals
            refine Xe rfl rfl <| o_al fun _ => NE ?_
          rotate_left 2
          focus
           refine Xe rfl rfl <| o_al fun _ => NE ?_
           refine Da [22, 28] ⟨?_, ?_, trivial⟩
           focus
            refine Xe rfl rfl <| oc (r01_DivMod_fn (iu bp) (iu bo) b6) fun _ _ _ ah => ?_
            obtain ⟨_, _, _, rfl, ai, aj, ak⟩ := ah
            obtain ⟨_, _, _, _, rfl, b7⟩ := ai.op
            obtain ⟨_, _, _, _, rfl, _⟩ := aj.op
            cases ak
            refine NE <| Dc 23 rfl (q_mv) <| Dc 24 rfl (q_ex rfl rfl) <| Dc 25 rfl (q_ex rfl rfl) <| Dc 26 rfl (q_ex rfl rfl) <| Do 28 <| Xe rfl rfl <| o_al fun _ => NE ?_
           rotate_left
           focus
            refine Xe rfl rfl <| o_al fun _ => NE <| Do 22 <| Xe rfl rfl <| oc (r01_DivMod_fn (iu bp) (iu bo) b6) fun _ _ _ ah => ?_
            obtain ⟨_, _, _, rfl, ai, aj, ak⟩ := ah
            obtain ⟨_, _, _, _, rfl, b7⟩ := ai.op
            obtain ⟨_, _, _, _, rfl, _⟩ := aj.op
            cases ak
            refine NE <| Dc 23 rfl (q_mv) <| Dc 24 rfl (q_ex rfl rfl) <| Dc 25 rfl (q_ex rfl rfl) <| Dc 26 rfl (q_ex rfl rfl) ?_
           rotate_left
          rotate_left 2
          focus
           refine Xe rfl rfl <| o_al fun _ => NE ?_
           refine Da [22, 27] ⟨?_, ?_, trivial⟩
           focus
            refine Xe rfl rfl <| oc (r01_DivMod_fn (iu bp) (iu bo) b6) fun _ _ _ ah => ?_
            obtain ⟨_, _, _, rfl, ai, aj, ak⟩ := ah
            obtain ⟨_, _, _, _, rfl, b7⟩ := ai.op
            obtain ⟨_, _, _, _, rfl, _⟩ := aj.op
            cases ak
            refine NE <| Dc 23 rfl (q_mv) <| Dc 24 rfl (q_ex rfl rfl) <| Dc 25 rfl (q_ex rfl rfl) <| Dc 26 rfl (q_ex rfl rfl) <| Do 27 <| Xe rfl rfl <| o_al fun _ => NE ?_
           rotate_left
           focus
            refine Xe rfl rfl <| o_al fun _ => NE <| Do 22 <| Xe rfl rfl <| oc (r01_DivMod_fn (iu bp) (iu bo) b6) fun _ _ _ ah => ?_
            obtain ⟨_, _, _, rfl, ai, aj, ak⟩ := ah
            obtain ⟨_, _, _, _, rfl, b7⟩ := ai.op
            obtain ⟨_, _, _, _, rfl, _⟩ := aj.op
            cases ak
            refine NE <| Dc 23 rfl (q_mv) <| Dc 24 rfl (q_ex rfl rfl) <| Dc 25 rfl (q_ex rfl rfl) <| Dc 26 rfl (q_ex rfl rfl) ?_
           rotate_left
          rotate_left 2
          all_goals
           refine Do 29 <| Xe rfl rfl <| Sc [.bool _, .slice _ _ _] [.bool _, .slice _ _ _] rfl rfl rfl rfl rfl ia rfl rfl <| NE <| Do 30 <| Xe rfl rfl <| Sc [.bool _, .slice _ _ _] [.bool _, .slice _ _ _] rfl rfl rfl rfl rfl ia rfl rfl <| NE <| Dc 31 rfl (aI rfl) <| Dd <| bE hm fun _ eX hm => bE hm fun bv eY hm => Rg <| oq (q_mvv (v := .pointer _) rfl) <| oq (mI rfl) <| oq (mI rfl) <| oq (q_lda (vs := [_, _]) rfl ii ⟨rfl, rfl, trivial⟩) <| oc (rneg_fn (iu b7) eX) fun _ _ _ fF => ?_
           obtain ⟨_, _, _, _, rfl, e6⟩ := fF.op
           refine o_callio ([(x, row 151 E)] ++ (ay ++ ([(N, row 151 F)] ++ (az ++ ([(O, row 151 G)] ++ (aA ++ ([(D, row 301 [.int .i64 aL, .int .i64 aM, .slice (some ⟨x, 0, none⟩) q aF, .int .i64 aN, .int .i64 aO, .slice (some ⟨N, 0, none⟩) aJ aG, .int .i64 aP, .int .i64 aQ, .slice (some ⟨O, 0, none⟩) aK aH])] ++ ([])))))))) (r12_Work_AddTo_own (OwnLL.mono bg) ab (OwnLL.mono cE) cv (OwnLL.mono cF) cw (iu e6) eY) fun _ _ _ _ fG => ?_
           obtain ⟨dg, d0, ft, eL, em, dh, d1, fu, eM, en, di, d2, fv, eN, eo, rfl, fQ, dK, fR, dL, fS, dM, rfl⟩ := fG
           refine N0 <| bE hm fun R eZ hm => Rg <| oq (q_mvv (v := .pointer _) rfl) <| oq (mI rfl) <| oq (mI rfl) <| o_callio ([(dg, row 151 d0)] ++ (em ++ ([(dh, row 151 d1)] ++ (en ++ ([(di, row 151 d2)] ++ (eo ++ ([(D, row 301 [.int .i64 bv.M.Rows, .int .i64 bv.M.Cols, .slice (some ⟨dg, 0, none⟩) ft eL, .int .i64 bv.U.Rows, .int .i64 bv.U.Cols, .slice (some ⟨dh, 0, none⟩) fu eM, .int .i64 bv.V.Rows, .int .i64 bv.V.Cols, .slice (some ⟨di, 0, none⟩) fv eN])] ++ ([])))))))) (r12_Work_Swap_own (OwnLL.mono fQ) dK (OwnLL.mono fR) dL (OwnLL.mono fS) dM eZ) fun _ _ _ _ dw => ?_
         rotate_left 6
         all_goals
          obtain ⟨ex, dX, fq, eI, ej, ey, dY, fr, eJ, ek, ez, dZ, fs, eK, el, rfl, fN, dH, fO, dI, fP, dJ, rfl⟩ := dw
          refine N0 <| have hm := inl_onward hm cM; ?_
          exact ⟨⟨fp, R.M.Rows, R.M.Cols, R.M.A, R.U.Rows, R.U.Cols, R.U.A, R.V.Rows, R.V.Cols, R.V.A, ex, dX, fq, eI, ej, ey, dY, fr, eJ, ek, ez, dZ, fs, eK, el⟩, rfl, ⟨rfl, rfl, rfl, rfl, rfl, rfl, trivial⟩, trivial, ⟨⟨OwnLL.mono fN, dH⟩, ⟨OwnLL.mono fO, dI⟩, ⟨OwnLL.mono fP, dJ⟩, hm, ii⟩, (Nat.lt_succ_self _), ii⟩
     · replace hm := forN_ge bY hm
       unfold M.r12_Form_k4 at hm
       refine jF rfl (dF bY) <| Jx <| Sq <| Sq <| nE hm fun _ _ cK cU c7 hm => ?_
       obtain ⟨_, dv, _, cu, cY⟩ := OwnLL.hdr bt c7
       refine nE hm fun _ _ cL cV eb hm => ?_
       obtain ⟨_, _, _, _, rfl, _, _, cP, dB, _, _⟩ := OwnLL.cell bt c7 cu eb
       obtain ⟨_, _, _, _, rfl, dk⟩ := IntR.op dB
       refine bE hm fun _ e0 hm => Rg <| oq (q_mvv (v := .pointer _) rfl) <| oq (q_nil rfl) <| oq (q_fa rfl) <| oq (q_fa rfl) <| oq (q_ld rfl ia rfl) <| oq (mI rfl) <| oq (q_ian rfl rfl cK (by rw [show C = _ from aR]; exact cU)) <| oq (q_ld rfl ii (hdr_at cu)) <| oq (mI rfl) <| oq (q_ian rfl rfl cL (by rw [show dv = _ from cY]; exact cV)) <| oq (q_ldOa0 rfl ii cP) <| oc (rsign_fn (iu dk) e0) fun _ _ _ fH => ?_
       cases fH
       refine oq (q_eql rfl rfl) <| N0 <| iC hm (fun cB hm => ?_) fun cB hm => ?_
       · refine jT rfl (dT cB) <| Jx <| kS hm fun fl hm => Rg <| oq (mI rfl) <| oq (q_add rfl rfl (wi64 fl)) <| oq (aI rfl) <| N0 <| have hm := inl_onward hm cD; ?_
         exact ⟨⟨ef, al, am, an, ao, ap, aq, ar, au, av, e, H + 1, I, s, C, Y, S, K, t, af, Z, T, L, u, ag, aa, W⟩, rfl, ⟨rfl, rfl, rfl, trivial⟩, ⟨rfl, rfl, trivial⟩, ⟨⟨OwnLL.mono bt, aR⟩, ⟨OwnLL.mono cx, bM⟩, ⟨OwnLL.mono cy, bN⟩, hm, ii⟩, (Nat.lt_succ_self _), ii⟩
       · refine jF rfl (dF cB) <| Js <| Sq ?_
         refine J.joinK (α := Int × Int × (List (List Int)) × Int × Int × (List (List Int)) × Int × Int × (List (List Int)) × Nat × (List Value) × Nat × Nat × Own × Nat × (List Value) × Nat × Nat × Own × Nat × (List Value) × Nat × Nat × Own) (fun ⟨cg, ch, bq, ci, cj, br, ck, cl, bs, bV, bk, b9, bZ, bO, bW, bl, ca, b0, bP, bX, bm, cb, b1, bQ⟩ h' L' => (OwnLL IntR 75 2 h' bk bZ bq bO ∧ b9 = bq.length) ∧ (OwnLL IntR 75 2 h' bl b0 br bP ∧ ca = br.length) ∧ (OwnLL IntR 75 2 h' bm b1 bs bQ ∧ cb = bs.length) ∧ (M.r12_Form_j3 e H) cg ch bq ci cj br ck cl bs = some da ∧ Sp ([(bV, row 151 bk)] ++ (bO ++ ([(bW, row 151 bl)] ++ (bP ++ ([(bX, row 151 bm)] ++ (bQ ++ ([(cm, row 163 [.int .i64 x0.Rows, .int .i64 x0.Cols, .slice cq cp co]), (cn, row 265 [.int .i64 0, .int .i64 0, .slice none 0 0, .int .i64 0, .int .i64 0, .slice none 0 0, .int .i64 0, .int .i64 0, .slice none 0 0]), (D, row 301 [.int .i64 cg, .int .i64 ch, .slice (some ⟨bV, 0, none⟩) b9 bZ, .int .i64 ci, .int .i64 cj, .slice (some ⟨bW, 0, none⟩) ca b0, .int .i64 ck, .int .i64 cl, .slice (some ⟨bX, 0, none⟩) cb b1])]))))))) L') [(1, .pointer _), (2, .pointer _), (3, .pointer _), (4, .int _ _), (5, .int _ _)] ⟨rfl, rfl, rfl, rfl, rfl, trivial⟩ (fun ⟨cg, ch, bq, ci, cj, br, ck, cl, bs, bV, bk, b9, bZ, bO, bW, bl, ca, b0, bP, bX, bm, cb, b1, bQ⟩ => []) ?_ ?_
         · refine Sq <| bE hm fun _ e4 hm => Rg <| oq (q_mvv (v := .pointer _) rfl) <| oq (q_nil rfl) <| oq (q_fa rfl) <| oq (q_fa rfl) <| oq (q_ld rfl ia rfl) <| oq (mI rfl) <| oq (q_ian rfl rfl cK (by rw [show C = _ from aR]; exact cU)) <| oq (q_ld rfl ii (hdr_at cu)) <| oq (mI rfl) <| oq (q_ian rfl rfl cL (by rw [show dv = _ from cY]; exact cV)) <| oq (q_ldOa0 rfl ii cP) <| oc (rsign_fn (iu dk) e4) fun _ _ _ fL => ?_
           cases fL
           refine oq (q_lss rfl rfl) <| N0 <| iC hm (fun cC hm => ?_) fun cC hm => ?_
           · refine jT rfl (dT cC) <| bE hm fun ax e5 hm => Rg <| oq (q_mvv (v := .pointer _) rfl) <| oq (mI rfl) <| o_callio ([(I, row 151 s)] ++ (S ++ ([(K, row 151 t)] ++ (T ++ ([(L, row 151 u)] ++ (W ++ ([(D, row 301 [.int .i64 al, .int .i64 am, .slice (some ⟨I, 0, none⟩) C Y, .int .i64 ao, .int .i64 ap, .slice (some ⟨K, 0, none⟩) af Z, .int .i64 ar, .int .i64 au, .slice (some ⟨L, 0, none⟩) ag aa])] ++ ([])))))))) (r12_Work_Negate_own (OwnLL.mono bt) aR (OwnLL.mono cx) bM (OwnLL.mono cy) bN e5) fun _ _ _ _ fM => ?_
             obtain ⟨eF, d6, fz, eR, es, eG, d7, fA, eS, et, eH, d8, fB, eT, eu, rfl, fZ, dU, f0, dV, f1, dW, rfl⟩ := fM
             refine N0 ?_
             exact ⟨⟨ax.M.Rows, ax.M.Cols, ax.M.A, ax.U.Rows, ax.U.Cols, ax.U.A, ax.V.Rows, ax.V.Cols, ax.V.A, eF, d6, fz, eR, es, eG, d7, fA, eS, et, eH, d8, fB, eT, eu⟩, rfl, ⟨rfl, rfl, rfl, rfl, rfl, trivial⟩, trivial, ⟨⟨OwnLL.mono fZ, dU⟩, ⟨OwnLL.mono f0, dV⟩, ⟨OwnLL.mono f1, dW⟩, hm, ii⟩, ii⟩
           · refine jF rfl (dF cC) <| Js ?_
             exact ⟨⟨al, am, an, ao, ap, aq, ar, au, av, I, s, C, Y, S, K, t, af, Z, T, L, u, ag, aa, W⟩, rfl, ⟨rfl, rfl, rfl, rfl, rfl, trivial⟩, trivial, ⟨⟨OwnLL.mono bt, aR⟩, ⟨OwnLL.mono cx, bM⟩, ⟨OwnLL.mono cy, bN⟩, hm, ii⟩, ii⟩
         · rintro ⟨cg, ch, bq, ci, cj, br, ck, cl, bs, bV, bk, b9, bZ, bO, bW, bl, ca, b0, bP, bX, bm, cb, b1, bQ⟩ _ _ _ _ ⟨⟨fT, dN⟩, ⟨fU, dO⟩, ⟨fV, dP⟩, hm, de⟩
           refine J.sp de ?_
           unfold M.r12_Form_j3 at hm
           refine Sq <| SR <| oq (aI rfl) <| N0 <| Jb ?_
           obtain ⟨_, hm⟩ := rngN_some hm
           refine J.loopK (α := Int × Int × Int × (List (List Int)) × Int × Int × (List (List Int)) × Int × Int × (List (List Int)) × Nat × (List Value) × Nat × Nat × Own × Nat × (List Value) × Nat × Nat × Own × Nat × (List Value) × Nat × Nat × Own) (fun ⟨B, a7, a8, a9, ba, bb, bc, bd, be, bf, X, ac, d, aW, aT, aC, ad, a2, aX, aU, aD, ae, a3, aY, aV⟩ h' L' => (OwnLL IntR 75 2 h' ac aW a9 aT ∧ d = a9.length) ∧ (OwnLL IntR 75 2 h' ad aX bc aU ∧ a2 = bc.length) ∧ (OwnLL IntR 75 2 h' ae aY bf aV ∧ a3 = bf.length) ∧ 0 ≤ B ∧ forN (M.r12_Form_b2 e H) (M.r12_Form_k2 e H) e B (a7, a8, a9, ba, bb, bc, bd, be, bf) = some da ∧ Sp ([(X, row 151 ac)] ++ (aT ++ ([(aC, row 151 ad)] ++ (aU ++ ([(aD, row 151 ae)] ++ (aV ++ ([(cm, row 163 [.int .i64 x0.Rows, .int .i64 x0.Cols, .slice cq cp co]), (cn, row 265 [.int .i64 0, .int .i64 0, .slice none 0 0, .int .i64 0, .int .i64 0, .slice none 0 0, .int .i64 0, .int .i64 0, .slice none 0 0]), (D, row 301 [.int .i64 a7, .int .i64 a8, .slice (some ⟨X, 0, none⟩) d aW, .int .i64 ba, .int .i64 bb, .slice (some ⟨aC, 0, none⟩) a2 aX, .int .i64 bd, .int .i64 be, .slice (some ⟨aD, 0, none⟩) a3 aY])]))))))) L') [(1, .pointer _), (2, .pointer _), (3, .pointer _), (4, .int _ _), (5, .int _ _)] ⟨rfl, rfl, rfl, rfl, rfl, trivial⟩ (fun ⟨B, a7, a8, a9, ba, bb, bc, bd, be, bf, X, ac, d, aW, aT, aC, ad, a2, aX, aU, aD, ae, a3, aY, aV⟩ => [(10, .int .i64 B)]) (fun ⟨B, a7, a8, a9, ba, bb, bc, bd, be, bf, X, ac, d, aW, aT, aC, ad, a2, aX, aU, aD, ae, a3, aY, aV⟩ => (e - B).toNat) ⟨0, cg, ch, bq, ci, cj, br, ck, cl, bs, bV, bk, b9, bZ, bO, bW, bl, ca, b0, bP, bX, bm, cb, b1, bQ⟩ ⟨⟨OwnLL.mono fT, dN⟩, ⟨OwnLL.mono fU, dO⟩, ⟨OwnLL.mono fV, dP⟩, Int.le_refl _, hm, ii⟩ ⟨rfl, trivial⟩ ?_
           rintro ⟨B, a7, a8, a9, ba, bb, bc, bd, be, bf, X, ac, d, aW, aT, aC, ad, a2, aX, aU, aD, ae, a3, aY, aV⟩ _ _ _ _ ⟨⟨bu, m⟩, ⟨dx, cZ⟩, ⟨dy, c4⟩, dm, hm, df⟩
           refine J.sp df <| Sq <| SR <| oq (mI rfl) <| oq (mI rfl) <| oq (q_lss rfl rfl) <| N0 ?_
           by_cases b2 : B < e
           · obtain ⟨_, hm, dG⟩ := forN_lt b2 hm
             unfold M.r12_Form_b2 at hm
             refine jT rfl (dT b2) ?_
             have fm : -9223372036854775808 ≤ B + 1 ∧ B + 1 ≤ 9223372036854775807 := by omega
             refine Js <| Sq <| Jb <| nE hm fun _ _ bI bK c8 hm => ?_
             obtain ⟨_, P, _, f, n⟩ := OwnLL.hdr bu c8
             refine nE hm fun _ _ i k ec hm => ?_
             obtain ⟨eA, _, _, _, rfl, _, _, a, dC, _, _⟩ := OwnLL.cell bu c8 f ec
             obtain ⟨_, _, _, _, rfl, e7⟩ := IntR.op dC
             refine nE hm fun _ _ bJ bL c9 hm => ?_
             obtain ⟨_, Q, _, g, o⟩ := OwnLL.hdr bu c9
             refine nE hm fun _ _ j l ed hm => ?_
             obtain ⟨eB, _, _, _, rfl, _, _, c, dD, _, _⟩ := OwnLL.cell bu c9 g ed
             obtain ⟨_, _, _, _, rfl, e8⟩ := IntR.op dD
             refine bE hm fun _ e1 hm => bE hm fun _ e2 hm => bE hm fun aw e3 hm => J.drawB [D, X, eA, eB] [27] <| Dc 0 rfl (q_mvv (v := .pointer _) rfl) <| Dc 1 rfl (mI rfl) <| Dc 2 rfl (mI rfl) <| Dc 3 rfl (q_mvv (v := .pointer _) rfl) <| Dc 4 rfl (q_nil rfl) <| Dc 5 rfl (q_fa rfl) <| Dc 6 rfl (q_fa rfl) <| Dc 8 rfl (mI rfl) <| Dc 11 rfl (mI rfl) <| Dc 14 rfl (q_mvv (v := .pointer _) rfl) <| Dc 15 rfl (q_nil rfl) <| Dc 16 rfl (q_fa rfl) <| Dc 17 rfl (q_fa rfl) <| Dc 19 rfl (mI rfl) <| Dc 22 rfl (mI rfl) ?_
             refine Da [7, 18] ⟨?_, ?_, trivial⟩
             focus
              refine Xe rfl rfl <| oq (q_ld rfl ia rfl) <| NE <| Dc 9 rfl (q_ian rfl rfl bI (by rw [show d = _ from m]; exact bK)) ?_
              refine Da [10, 18] ⟨?_, ?_, trivial⟩
              focus
               refine Xe rfl rfl <| oq (q_ld rfl ii (hdr_at f)) <| NE <| Dc 12 rfl (q_ian rfl rfl i (by rw [show P = _ from n]; exact k)) ?_
               refine Da [13, 18] ⟨?_, ?_, trivial⟩
               focus
                refine Xe rfl rfl <| oq (q_ldOa0 rfl ii a) <| NE <| Do 18 <| Xe rfl rfl <| oq (q_ld rfl ia rfl) <| NE <| Dc 20 rfl (q_ian rfl rfl bJ (by rw [show d = _ from m]; exact bL)) <| Do 21 <| Xe rfl rfl <| oq (q_ld rfl ii (hdr_at g)) <| NE <| Dc 23 rfl (q_ian rfl rfl j (by rw [show Q = _ from o]; exact l)) <| Do 24 <| Xe rfl rfl <| oq (q_ldOa0 rfl ii c) ?_
               rotate_left
               focus
                refine Xe rfl rfl <| oq (q_ld rfl ia rfl) <| NE <| Dc 20 rfl (q_ian rfl rfl bJ (by rw [show d = _ from m]; exact bL)) ?_
                refine Da [13, 21] ⟨?_, ?_, trivial⟩
                focus
                 refine Xe rfl rfl <| oq (q_ldOa0 rfl ii a) <| NE <| Do 21 <| Xe rfl rfl <| oq (q_ld rfl ii (hdr_at g)) <| NE <| Dc 23 rfl (q_ian rfl rfl j (by rw [show Q = _ from o]; exact l)) <| Do 24 <| Xe rfl rfl <| oq (q_ldOa0 rfl ii c) ?_
                rotate_left
                focus
                 refine Xe rfl rfl <| oq (q_ld rfl ii (hdr_at g)) <| NE <| Dc 23 rfl (q_ian rfl rfl j (by rw [show Q = _ from o]; exact l)) ?_
                 refine Da [13, 24] ⟨?_, ?_, trivial⟩
                 focus
                  refine Xe rfl rfl <| oq (q_ldOa0 rfl ii a) <| NE <| Do 24 <| Xe rfl rfl <| oq (q_ldOa0 rfl ii c) ?_
                 rotate_left
                 focus
                  refine Xe rfl rfl <| oq (q_ldOa0 rfl ii c) <| NE <| Do 13 <| Xe rfl rfl <| oq (q_ldOa0 rfl ii a) ?_
                 rotate_left
                rotate_left 2
               rotate_left 3
              rotate_left 4
              focus
               refine Xe rfl rfl <| oq (q_ld rfl ia rfl) <| NE <| Dc 20 rfl (q_ian rfl rfl bJ (by rw [show d = _ from m]; exact bL)) ?_
               refine Da [10, 21] ⟨?_, ?_, trivial⟩
               focus
                refine Xe rfl rfl <| oq (q_ld rfl ii (hdr_at f)) <| NE <| Dc 12 rfl (q_ian rfl rfl i (by rw [show P = _ from n]; exact k)) ?_
                refine Da [13, 21] ⟨?_, ?_, trivial⟩
                focus
                 refine Xe rfl rfl <| oq (q_ldOa0 rfl ii a) <| NE <| Do 21 <| Xe rfl rfl <| oq (q_ld rfl ii (hdr_at g)) <| NE <| Dc 23 rfl (q_ian rfl rfl j (by rw [show Q = _ from o]; exact l)) <| Do 24 <| Xe rfl rfl <| oq (q_ldOa0 rfl ii c) ?_
                rotate_left
                focus
                 refine Xe rfl rfl <| oq (q_ld rfl ii (hdr_at g)) <| NE <| Dc 23 rfl (q_ian rfl rfl j (by rw [show Q = _ from o]; exact l)) ?_
                 refine Da [13, 24] ⟨?_, ?_, trivial⟩
                 focus
                  refine Xe rfl rfl <| oq (q_ldOa0 rfl ii a) <| NE <| Do 24 <| Xe rfl rfl <| oq (q_ldOa0 rfl ii c) ?_
                 rotate_left
                 focus
                  refine Xe rfl rfl <| oq (q_ldOa0 rfl ii c) <| NE <| Do 13 <| Xe rfl rfl <| oq (q_ldOa0 rfl ii a) ?_
                 rotate_left
                rotate_left 2
               rotate_left 3
               focus
                refine Xe rfl rfl <| oq (q_ld rfl ii (hdr_at g)) <| NE <| Dc 23 rfl (q_ian rfl rfl j (by rw [show Q = _ from o]; exact l)) ?_
                refine Da [10, 24] ⟨?_, ?_, trivial⟩
                focus
                 refine Xe rfl rfl <| oq (q_ld rfl ii (hdr_at f)) <| NE <| Dc 12 rfl (q_ian rfl rfl i (by rw [show P = _ from n]; exact k)) ?_
                 refine Da [13, 24] ⟨?_, ?_, trivial⟩
                 focus
                  refine Xe rfl rfl <| oq (q_ldOa0 rfl ii a) <| NE <| Do 24 <| Xe rfl rfl <| oq (q_ldOa0 rfl ii c) ?_
                 rotate_left
                 focus
                  refine Xe rfl rfl <| oq (q_ldOa0 rfl ii c) <| NE <| Do 13 <| Xe rfl rfl <| oq (q_ldOa0 rfl ii a) ?_
                 rotate_left
                rotate_left 2
                focus
                 refine Xe rfl rfl <| oq (q_ldOa0 rfl ii c) <| NE <| Do 10 <| Xe rfl rfl <| oq (q_ld rfl ii (hdr_at f)) <| NE <| Dc 12 rfl (q_ian rfl rfl i (by rw [show P = _ from n]; exact k)) <| Do 13 <| Xe rfl rfl <| oq (q_ldOa0 rfl ii a) ?_
                rotate_left
               rotate_left 3
              rotate_left 6
             rotate_left 10
             focus
              refine Xe rfl rfl <| oq (q_ld rfl ia rfl) <| NE <| Dc 20 rfl (q_ian rfl rfl bJ (by rw [show d = _ from m]; exact bL)) ?_
              refine Da [7, 21] ⟨?_, ?_, trivial⟩
              focus
               refine Xe rfl rfl <| oq (q_ld rfl ia rfl) <| NE <| Dc 9 rfl (q_ian rfl rfl bI (by rw [show d = _ from m]; exact bK)) ?_
               refine Da [10, 21] ⟨?_, ?_, trivial⟩
               focus
                refine Xe rfl rfl <| oq (q_ld rfl ii (hdr_at f)) <| NE <| Dc 12 rfl (q_ian rfl rfl i (by rw [show P = _ from n]; exact k)) ?_
                refine Da [13, 21] ⟨?_, ?_, trivial⟩
                focus
                 refine Xe rfl rfl <| oq (q_ldOa0 rfl ii a) <| NE <| Do 21 <| Xe rfl rfl <| oq (q_ld rfl ii (hdr_at g)) <| NE <| Dc 23 rfl (q_ian rfl rfl j (by rw [show Q = _ from o]; exact l)) <| Do 24 <| Xe rfl rfl <| oq (q_ldOa0 rfl ii c) ?_
                rotate_left
                focus
                 refine Xe rfl rfl <| oq (q_ld rfl ii (hdr_at g)) <| NE <| Dc 23 rfl (q_ian rfl rfl j (by rw [show Q = _ from o]; exact l)) ?_
                 refine Da [13, 24] ⟨?_, ?_, trivial⟩
                 focus
                  refine Xe rfl rfl <| oq (q_ldOa0 rfl ii a) <| NE <| Do 24 <| Xe rfl rfl <| oq (q_ldOa0 rfl ii c) ?_
                 rotate_left
                 focus
                  refine Xe rfl rfl <| oq (q_ldOa0 rfl ii c) <| NE <| Do 13 <| Xe rfl rfl <| oq (q_ldOa0 rfl ii a) ?_
                 rotate_left
                rotate_left 2
               rotate_left 3
               focus
                refine Xe rfl rfl <| oq (q_ld rfl ii (hdr_at g)) <| NE <| Dc 23 rfl (q_ian rfl rfl j (by rw [show Q = _ from o]; exact l)) ?_
                refine Da [10, 24] ⟨?_, ?_, trivial⟩
                focus
                 refine Xe rfl rfl <| oq (q_ld rfl ii (hdr_at f)) <| NE <| Dc 12 rfl (q_ian rfl rfl i (by rw [show P = _ from n]; exact k)) ?_
                 refine Da [13, 24] ⟨?_, ?_, trivial⟩
                 focus
                  refine Xe rfl rfl <| oq (q_ldOa0 rfl ii a) <| NE <| Do 24 <| Xe rfl rfl <| oq (q_ldOa0 rfl ii c) ?_
                 rotate_left
                 focus
                  refine Xe rfl rfl <| oq (q_ldOa0 rfl ii c) <| NE <| Do 13 <| Xe rfl rfl <| oq (q_ldOa0 rfl ii a) ?_
                 rotate_left
                rotate_left 2
                focus
                 refine Xe rfl rfl <| oq (q_ldOa0 rfl ii c) <| NE <| Do 10 <| Xe rfl rfl <| oq (q_ld rfl ii (hdr_at f)) <| NE <| Dc 12 rfl (q_ian rfl rfl i (by rw [show P = _ from n]; exact k)) <| Do 13 <| Xe rfl rfl <| oq (q_ldOa0 rfl ii a) ?_
                rotate_left
               rotate_left 3
              rotate_left 6
              focus
               refine Xe rfl rfl <| oq (q_ld rfl ii (hdr_at g)) <| NE <| Dc 23 rfl (q_ian rfl rfl j (by rw [show Q = _ from o]; exact l)) ?_
               refine Da [7, 24] ⟨?_, ?_, trivial⟩
               focus
                refine Xe rfl rfl <| oq (q_ld rfl ia rfl) <| NE <| Dc 9 rfl (q_ian rfl rfl bI (by rw [show d = _ from m]; exact bK)) ?_
                refine Da [10, 24] ⟨?_, ?_, trivial⟩
                focus
                 refine Xe rfl rfl <| oq (q_ld rfl ii (hdr_at f)) <| NE <| Dc 12 rfl (q_ian rfl rfl i (by rw [show P = _ from n]; exact k)) ?_
                 refine Da [13, 24] ⟨?_, ?_, trivial⟩
                 focus
                  refine Xe rfl rfl <| oq (q_ldOa0 rfl ii a) <| NE <| Do 24 <| Xe rfl rfl <| oq (q_ldOa0 rfl ii c) ?_
                 rotate_left
                 focus
                  refine Xe rfl rfl <| oq (q_ldOa0 rfl ii c) <| NE <| Do 13 <| Xe rfl rfl <| oq (q_ldOa0 rfl ii a) ?_
                 rotate_left
                rotate_left 2
                focus
                 refine Xe rfl rfl <| oq (q_ldOa0 rfl ii c) <| NE <| Do 10 <| Xe rfl rfl <| oq (q_ld rfl ii (hdr_at f)) <| NE <| Dc 12 rfl (q_ian rfl rfl i (by rw [show P = _ from n]; exact k)) <| Do 13 <| Xe rfl rfl <| oq (q_ldOa0 rfl ii a) ?_
                rotate_left
               rotate_left 3
               focus
                refine Xe rfl rfl <| oq (q_ldOa0 rfl ii c) <| NE <| Do 7 <| Xe rfl rfl <| oq (q_ld rfl ia rfl) <| NE <| Dc 9 rfl (q_ian rfl rfl bI (by rw [show d = _ from m]; exact bK)) <| Do 10 <| Xe rfl rfl <| oq (q_ld rfl ii (hdr_at f)) <| NE <| Dc 12 rfl (q_ian rfl rfl i (by rw [show P = _ from n]; exact k)) <| Do 13 <| Xe rfl rfl <| oq (q_ldOa0 rfl ii a) ?_
               rotate_left
              rotate_left 4
             rotate_left 10
             all_goals
              refine NE <| Do 25 <| Xe rfl rfl <| oc (r12_Floor_fn (iu e7) (iu e8) e1) fun _ _ _ fI => ?_
              obtain ⟨_, _, _, _, rfl, e9⟩ := fI.op
              refine NE <| Do 26 <| Xe rfl rfl <| oc (rneg_fn (iu e9) e2) fun _ _ _ fJ => ?_
              obtain ⟨_, _, _, _, rfl, fa⟩ := fJ.op
              refine NE <| Do 27 <| Xm rfl rfl <| o_callio ([(X, row 151 ac)] ++ (aT ++ ([(aC, row 151 ad)] ++ (aU ++ ([(aD, row 151 ae)] ++ (aV ++ ([(D, row 301 [.int .i64 a7, .int .i64 a8, .slice (some ⟨X, 0, none⟩) d aW, .int .i64 ba, .int .i64 bb, .slice (some ⟨aC, 0, none⟩) a2 aX, .int .i64 bd, .int .i64 be, .slice (some ⟨aD, 0, none⟩) a3 aY])] ++ ([])))))))) (r12_Work_AddTo_own (OwnLL.mono bu) m (OwnLL.mono dx) cZ (OwnLL.mono dy) c4 (iu fa) e3) fun _ _ _ _ fK => ?_
              obtain ⟨eC, d3, fw, eO, ep, eD, d4, fx, eP, eq, eE, d5, fy, eQ, er, rfl, fW, dQ, fX, dR, fY, dS, rfl⟩ := fK
              refine NF <| Dd <| Rg <| oq (mI rfl) <| oq (q_add rfl rfl (wi64 fm)) <| oq (aI rfl) <| N0 <| have hm := inl_onward hm dG; ?_
              exact ⟨⟨B + 1, aw.M.Rows, aw.M.Cols, aw.M.A, aw.U.Rows, aw.U.Cols, aw.U.A, aw.V.Rows, aw.V.Cols, aw.V.A, eC, d3, fw, eO, ep, eD, d4, fx, eP, eq, eE, d5, fy, eQ, er⟩, rfl, ⟨rfl, rfl, rfl, rfl, rfl, trivial⟩, ⟨rfl, trivial⟩, ⟨⟨OwnLL.mono fW, dQ⟩, ⟨OwnLL.mono fX, dR⟩, ⟨OwnLL.mono fY, dS⟩, Int.le_trans dm (Int.le_of_lt (Int.lt_succ _)), hm, ii⟩, (muN b2), ii⟩
           · replace hm := forN_ge b2 hm
             unfold M.r12_Form_k2 at hm
             refine jF rfl (dF b2) <| Jx <| Rg <| oq (mI rfl) <| oq (q_add rfl rfl (wi64 ee)) <| oq (aI rfl) <| N0 <| kS hm fun fo hm => Rg <| oq (mI rfl) <| oq (q_add rfl rfl (wi64 fo)) <| oq (aI rfl) <| N0 <| have hm := inl_onward hm cD; ?_
             exact ⟨⟨ef, a7, a8, a9, ba, bb, bc, bd, be, bf, e + 1, H + 1, X, ac, d, aW, aT, aC, ad, a2, aX, aU, aD, ae, a3, aY, aV⟩, rfl, ⟨rfl, rfl, rfl, trivial⟩, ⟨rfl, rfl, trivial⟩, ⟨⟨OwnLL.mono bu, m⟩, ⟨OwnLL.mono dx, cZ⟩, ⟨OwnLL.mono dy, c4⟩, hm, ii⟩, (Nat.lt_succ_self _), ii⟩
   · refine jF rfl (nT dj) <| Jx <| have hm := inr_onward hm cD; Sq <| J.drawB [D] [] <| Dc 0 rfl (q_mvv (v := .pointer _) rfl) <| Dc 1 rfl (q_nil rfl) <| Dc 2 rfl (q_fa rfl) <| Dl 3 rfl (q_lda (vs := [_, _, _]) rfl ii ⟨rfl, rfl, rfl, trivial⟩) <| Dc 4 rfl (q_mvv (v := .pointer _) rfl) <| Dc 5 rfl (q_nil rfl) <| Dc 6 rfl (q_fa rfl) <| Dl 7 rfl (q_lda (vs := [_, _, _]) rfl ii ⟨rfl, rfl, rfl, trivial⟩) <| Dc 8 rfl (q_mvv (v := .pointer _) rfl) <| Dc 9 rfl (q_nil rfl) <| Dc 10 rfl (q_fa rfl) <| Dl 11 rfl (q_lda (vs := [_, _, _]) rfl ii ⟨rfl, rfl, rfl, trivial⟩) <| Dc 12 rfl (q_bd [.int _ _, .int _ _, .slice _ _ _, .int _ _, .int _ _, .slice _ _ _, .int _ _, .int _ _, .slice _ _ _] rfl) <| Do 13 <| Xe rfl rfl <| Sc [.int _ _, .int _ _, .slice _ _ _, .int _ _, .int _ _, .slice _ _ _, .int _ _, .int _ _, .slice _ _ _] [.int _ _, .int _ _, .slice _ _ _, .int _ _, .int _ _, .slice _ _ _, .int _ _, .int _ _, .slice _ _ _] rfl rfl rfl rfl rfl ia rfl rfl <| NE <| Dd <| J.fzLL (b := bh) (T2 := 151) (OwnLL.mono eg) dn fun _ _ fb => J.fzLL (b := bi) (T2 := 151) (OwnLL.mono eh) dp fun _ _ fc => J.fzLL (b := bj) (T2 := 151) (OwnLL.mono ei) dq fun _ _ fd => Jr ?_
     cases hm
     exact ret_ok (fn := Tryz.f211) rfl (.agg rfl ii ii .nil) ⟨_, rfl, ⟨_, _, _, _, _, _, _, _, _, rfl, Sm fb, Sm fc, Sm fd⟩⟩
theorem r12_Pivot_fn {h : Heap} {x0 : List Int} {v0 : Value} (r0 : Sls IntR 2 h v0 x0) {r : Int} (hm : M.r12_Pivot x0 = some r) :
    Fn Tryz.prog 246 #[v0] h fun v h' => v = .int .i64 r := by
 obtain ⟨_, _, _, rfl, d⟩ := r0.op3
 refine Fn.intro (args := [_]) Tryz.func246 rfl rfl (lB rfl) fun w => ?_
 unfold M.r12_Pivot at hm
 refine SR <| oq (aI rfl) <| N0 <| Sq <| SR <| oq (aI rfl) <| N0 <| Jb ?_
 obtain ⟨_, hm⟩ := rngL_some hm
 refine J.loopK (α := Nat) (fun a h' L' => forL M.r12_Pivot_b1 M.r12_Pivot_k1 (List.drop a x0) a () = some r ∧ Sp ([]) L') [(0, .slice _ _ _)] ⟨rfl, trivial⟩ (fun a => [(3, .int .i64 (a : Int))]) (fun a => x0.length - a) 0 ⟨hm, ii⟩ ⟨rfl, trivial⟩ ?_
 rintro a _ _ _ _ ⟨hm, g⟩
 refine J.sp g <| Sq <| SR <| oq (mI rfl) <| oq (mS rfl) <| oq (q_lenE (k := x0.length) rfl (Sls.len d)) <| oq (q_lss rfl rfl) <| N0 ?_
 by_cases c : (a : Int) < (x0.length : Int)
 · obtain ⟨_, _, b, l, hm, f⟩ := forL_cons c hm
   unfold M.r12_Pivot_b1 at hm
   refine jT rfl (dT c) ?_
   have o : -9223372036854775808 ≤ (a : Int) + 1 ∧ (a : Int) + 1 ≤ 9223372036854775807 := by omega
   refine Js <| Sq <| Jb <| Sq ?_
   obtain ⟨_, _, rfl⟩ := Sls.op d b
   refine aE d l fun _ j i => ?_
   obtain ⟨_, _, _, _, rfl, n⟩ := IntR.op i
   refine bE hm fun _ m hm => Rg <| oq (mS rfl) <| oq (mI rfl) <| oq (q_ian rfl rfl rfl (ln d b)) <| oq (q_ldfa rfl j) <| oc (rsign_fn (iu n) m) fun _ _ _ p => ?_
   cases p
   refine oq (q_neq rfl rfl) <| N0 <| iC hm (fun e hm => ?_) fun e hm => ?_
   · refine jF rfl (dF (fun z => z e)) <| Js <| Rg <| oq (mI rfl) <| oq (q_add rfl rfl (wi64 o)) <| oq (aI rfl) <| N0 <| have hm := inl_onward hm f; ?_
     exact ⟨(a + 1), rfl, ⟨rfl, trivial⟩, ⟨rfl, trivial⟩, ⟨hm, ii⟩, (muL b), ii⟩
   · refine jT rfl (dT e) <| SR <| oq (mI rfl) <| oq (aI rfl) <| N0 <| have hm := inr_onward hm f; Jr ?_
     cases hm
     exact ret_ok (fn := Tryz.f246) rfl (.tmp rfl .nil) rfl
 · replace hm := forL_nil c hm
   unfold M.r12_Pivot_k1 at hm
   refine jF rfl (dF c) <| Jx <| SR <| oq (aI rfl) <| N0 <| Jr ?_
   cases hm
   exact ret_ok (fn := Tryz.f246) rfl (.tmp rfl .nil) rfl
theorem r12_Rank_fn {h : Heap} {x0 : TMat} {v0 : Value} (r0 : AggV TMatR h v0 x0) {r : Int} (hm : M.r12_Rank x0 = some r) :
    Fn Tryz.prog 212 #[v0] h fun v h' => v = .int .i64 r := by
 obtain ⟨_, rfl, y, x, q, rfl, f⟩ := r0
 refine Fn.intro (args := [_]) Tryz.func212 rfl rfl (lB rfl) fun w => ?_
 unfold M.r12_Rank at hm
 refine SR <| o_bx (v := .agg ⟨[.int _ _, .int _ _, .slice _ _ _]⟩) rfl rfl fun p => oq (aI rfl) <| N0 <| SR <| oq (aI rfl) <| N0 <| Sq <| SR <| oq (aI rfl) <| N0 <| Jb ?_
 obtain ⟨_, hm⟩ := rngN_some hm
 refine J.loopK (α := Int × Int) (fun ⟨a, b⟩ h' L' => 0 ≤ a ∧ forN (M.r12_Rank_b1 x0) M.r12_Rank_k1 x0.Rows a b = some r ∧ Sp ([(p, row 163 [.int .i64 x0.Rows, .int .i64 x0.Cols, .slice y x q])]) L') [(1, .pointer _)] ⟨rfl, trivial⟩ (fun ⟨a, b⟩ => [(3, .int .i64 b), (4, .int .i64 a)]) (fun ⟨a, b⟩ => (x0.Rows - a).toNat) ⟨0, 0⟩ ⟨Int.le_refl _, hm, ii⟩ ⟨rfl, rfl, trivial⟩ ?_
 rintro ⟨a, b⟩ _ _ _ _ ⟨d, hm, j⟩
 refine J.sp j <| Sq <| SR <| oq (mI rfl) <| oq (q_fa rfl) <| oq (q_ld rfl ia rfl) <| oq (q_lss rfl rfl) <| N0 ?_
 by_cases c : a < x0.Rows
 · obtain ⟨_, hm, g⟩ := forN_lt c hm
   unfold M.r12_Rank_b1 at hm
   refine jT rfl (dT c) ?_
   have k : -9223372036854775808 ≤ a + 1 ∧ a + 1 ≤ 9223372036854775807 := by omega
   refine Js <| Sq <| Jb <| Sq <| nE hm fun _ _ n i o hm => ?_
   obtain ⟨_, _, rfl⟩ := Sls.op f i
   refine aE f o fun _ m l => ?_
   obtain ⟨_, _, _, rfl, t⟩ := l
   refine bE hm fun _ s hm => Rg <| oq (q_fa rfl) <| oq (q_ld rfl ia rfl) <| oq (mI rfl) <| oq (q_ian rfl rfl n (ln f i)) <| oq (q_ldf rfl m) <| oc (r12_Pivot_fn (Sm t) s) fun _ _ _ z => ?_
   cases z
   refine oq (q_geq rfl rfl) <| N0 <| iC hm (fun e hm => ?_) fun e hm => ?_
   · refine jT rfl (dT e) <| kS hm fun u hm => Rg <| oq (mI rfl) <| oq (q_add rfl rfl (wi64 u)) <| oq (aI rfl) <| N0 <| Rg <| oq (mI rfl) <| oq (q_add rfl rfl (wi64 k)) <| oq (aI rfl) <| N0 <| have hm := inl_onward hm g; ?_
     exact ⟨⟨a + 1, b + 1⟩, rfl, ⟨rfl, trivial⟩, ⟨rfl, rfl, trivial⟩, ⟨Int.le_trans d (Int.le_of_lt (Int.lt_succ _)), hm, ii⟩, (muN c), ii⟩
   · refine jF rfl (dF e) <| Js <| Rg <| oq (mI rfl) <| oq (q_add rfl rfl (wi64 k)) <| oq (aI rfl) <| N0 <| have hm := inl_onward hm g; ?_
     exact ⟨⟨a + 1, b⟩, rfl, ⟨rfl, trivial⟩, ⟨rfl, rfl, trivial⟩, ⟨Int.le_trans d (Int.le_of_lt (Int.lt_succ _)), hm, ii⟩, (muN c), ii⟩
 · replace hm := forN_ge c hm
   unfold M.r12_Rank_k1 at hm
   refine jF rfl (dF c) <| Jx <| SR <| oq (mI rfl) <| oq (aI rfl) <| N0 <| Jr ?_
   cases hm
   exact ret_ok (fn := Tryz.f212) rfl (.tmp rfl .nil) rfl
theorem r12_Top_fn {h : Heap} {x0 : TMat} {x1 : Int} {v0 : Value} (r0 : AggV TMatR h v0 x0) {r : TMat} (hm : M.r12_Top x0 x1 = some r) :
    Fn Tryz.prog 214 #[v0, .int .i64 x1] h fun v h' => AggV TMatR h' v r := by
 obtain ⟨_, rfl, _, _, _, rfl, c⟩ := r0
 refine Fn.intro (args := [_, _]) Tryz.func214 rfl rfl (lB rfl) fun w => ?_
 unfold M.r12_Top at hm
 refine SR <| o_bx (v := .agg ⟨[.int _ _, .int _ _, .slice _ _ _]⟩) rfl rfl fun a => o_al fun _ => N0 <| Sq <| bE hm fun _ b hm => ?_
 obtain ⟨_, _, d, e⟩ := Sls.cutH c b
 refine J.drawB [a] [] <| Dc 0 rfl (mI rfl) <| Dc 1 rfl (q_fa rfl) <| Dl 2 rfl (q_ld rfl ii rfl) <| Dc 3 rfl (q_fa rfl) <| Dl 4 rfl (q_ld rfl ii rfl) <| Dc 5 rfl (mI rfl) <| Dc 6 rfl (q_cutH rfl rfl e) <| Dc 7 rfl (q_bd [.int _ _, .int _ _, .slice _ _ _] rfl) <| Do 8 <| Xe rfl rfl <| Sc [.int _ _, .int _ _, .slice _ _ _] [.int _ _, .int _ _, .slice _ _ _] rfl rfl rfl rfl rfl ia rfl rfl <| NE <| Dd <| Jr ?_
 cases hm
 exact ret_ok (fn := Tryz.f214) rfl (.agg rfl ii ii .nil) ⟨_, rfl, ⟨_, _, _, rfl, Sm d⟩⟩
theorem r12_Basis_fn {h : Heap} {x0 : TMat} {v0 : Value} (r0 : AggV TMatR h v0 x0) {r : TMat} (hm : M.r12_Basis x0 = some r) :
    Fn Tryz.prog 166 #[v0] h fun v h' => AggV TMatR h' v r := by
 obtain ⟨_, rfl, _, _, _, rfl, g⟩ := r0
 refine Fn.intro (args := [_]) Tryz.func166 rfl rfl (lB rfl) fun w => ?_
 unfold M.r12_Basis at hm
 refine SR <| o_bx (v := .agg ⟨[.int _ _, .int _ _, .slice _ _ _]⟩) rfl rfl fun _ => o_al fun _ => N0 <| Sq <| bE hm fun b d hm => Rg <| oq (q_lda (vs := [_, _, _]) rfl ii ⟨rfl, rfl, rfl, trivial⟩) <| oc (r12_Form_fn (x0 := x0) ⟨_, rfl, ⟨_, _, _, rfl, Sm g⟩⟩ d) fun _ _ _ j => ?_
 obtain ⟨_, rfl, _, _, _, _, _, _, _, _, _, rfl, a, _, _⟩ := j
 refine o_al fun c => Sc [.int _ _, .int _ _, .slice _ _ _, .int _ _, .int _ _, .slice _ _ _, .int _ _, .int _ _, .slice _ _ _] [.int _ _, .int _ _, .slice _ _ _, .int _ _, .int _ _, .slice _ _ _, .int _ _, .int _ _, .slice _ _ _] rfl rfl rfl rfl rfl ia rfl rfl <| N0 <| Sq <| bE hm fun _ e hm => bE hm fun _ f hm => J.drawB [c] [] <| Dc 0 rfl (q_fa rfl) <| Dl 1 rfl (q_lda (vs := [_, _, _]) rfl ii ⟨rfl, rfl, rfl, trivial⟩) <| Dc 2 rfl (q_fa rfl) <| Dl 3 rfl (q_lda (vs := [_, _, _]) rfl ii ⟨rfl, rfl, rfl, trivial⟩) <| Do 4 <| Xe rfl rfl <| oc (r12_Rank_fn (x0 := b.H) ⟨_, rfl, ⟨_, _, _, rfl, Sm a⟩⟩ e) fun _ _ _ k => ?_
 cases k
 refine NE <| Do 5 <| Xe rfl rfl <| oc (r12_Top_fn (x0 := b.H) ⟨_, rfl, ⟨_, _, _, rfl, Sm a⟩⟩ f) fun _ _ _ l => ?_
 obtain ⟨_, rfl, _, _, _, rfl, i⟩ := l
 refine NE <| Do 6 <| Xe rfl rfl <| Sc [.int _ _, .int _ _, .slice _ _ _] [.int _ _, .int _ _, .slice _ _ _] rfl rfl rfl rfl rfl ia rfl rfl <| NE <| Dd <| Jr ?_
 cases hm
 exact ret_ok (fn := Tryz.f166) rfl (.agg rfl ii ii .nil) ⟨_, rfl, ⟨_, _, _, rfl, Sm i⟩⟩
theorem r15_Left_fn {h : Heap} {x0 : TMat} {v0 : Value} (r0 : AggV TMatR h v0 x0) {r : TMat} (hm : M.r15_Left x0 = some r) :
    Fn Tryz.prog 163 #[v0] h fun v h' => AggV TMatR h' v r := by
 obtain ⟨_, rfl, _, _, _, rfl, g⟩ := r0
 refine Fn.intro (args := [_]) Tryz.func163 rfl rfl (lB rfl) fun w => ?_
 unfold M.r15_Left at hm
 refine SR <| o_bx (v := .agg ⟨[.int _ _, .int _ _, .slice _ _ _]⟩) rfl rfl fun a => o_al fun _ => N0 <| Sq <| bE hm fun s c hm => Rg <| oq (q_lda (vs := [_, _, _]) rfl ii ⟨rfl, rfl, rfl, trivial⟩) <| oc (r12_Form_fn (x0 := x0) ⟨_, rfl, ⟨_, _, _, rfl, Sm g⟩⟩ c) fun _ _ _ o => ?_
 obtain ⟨_, rfl, _, _, _, _, _, _, _, _, _, rfl, i, j, _⟩ := o
 refine o_al fun b => Sc [.int _ _, .int _ _, .slice _ _ _, .int _ _, .int _ _, .slice _ _ _, .int _ _, .int _ _, .slice _ _ _] [.int _ _, .int _ _, .slice _ _ _, .int _ _, .int _ _, .slice _ _ _, .int _ _, .int _ _, .slice _ _ _] rfl rfl rfl rfl rfl ia rfl rfl <| N0 <| Sq <| bE hm fun t d hm => Rg <| oq (q_fa rfl) <| oq (q_lda (vs := [_, _, _]) rfl ii ⟨rfl, rfl, rfl, trivial⟩) <| oc (r12_Rank_fn (x0 := s.H) ⟨_, rfl, ⟨_, _, _, rfl, Sm i⟩⟩ d) fun _ _ _ p => ?_
 cases p
 refine oq (aI rfl) <| N0 <| Sq <| kS hm fun m hm => bE hm fun n e hm => ?_
 obtain ⟨_, _, k, u⟩ := Sls.cutL j e
 refine J.drawB [a, b] [] <| Dc 0 rfl (q_fa rfl) <| Dl 1 rfl (q_ld rfl ii rfl) <| Dc 2 rfl (mI rfl) <| Dc 3 rfl (q_sub rfl rfl (wi64 m)) <| Dc 4 rfl (q_fa rfl) <| Dl 5 rfl (q_ld rfl ii rfl) <| Dc 6 rfl (q_fa rfl) <| Dc 7 rfl (q_fa rfl) <| Dl 8 rfl (q_ld rfl ii rfl) <| Dc 9 rfl (mI rfl) <| Dc 10 rfl (q_cutL rfl rfl u) <| Dc 11 rfl (q_bd [.int _ _, .int _ _, .slice _ _ _] rfl) <| Do 12 <| Xe rfl rfl <| o_al fun _ => NE <| Do 13 <| Xe rfl rfl <| Sc [.int _ _, .int _ _, .slice _ _ _] [.int _ _, .int _ _, .slice _ _ _] rfl rfl rfl rfl rfl ia rfl rfl <| NE <| Dd <| Sq <| bE hm fun _ f hm => Rg <| oq (q_lda (vs := [_, _, _]) rfl ii ⟨rfl, rfl, rfl, trivial⟩) <| oc (r12_Basis_fn (x0 := (TMat.mk (x0.Rows - t) x0.Rows n)) ⟨_, rfl, ⟨_, _, _, rfl, Sm k⟩⟩ f) fun _ _ _ q => ?_
 obtain ⟨_, rfl, _, _, _, rfl, l⟩ := q
 refine Sc [.int _ _, .int _ _, .slice _ _ _] [.int _ _, .int _ _, .slice _ _ _] rfl rfl rfl rfl rfl ia rfl rfl <| N0 <| Jr ?_
 cases hm
 exact ret_ok (fn := Tryz.f163) rfl (.agg rfl ii ii .nil) ⟨_, rfl, ⟨_, _, _, rfl, Sm l⟩⟩
end Go.Z
end
