/- The law SparseMerges, walked. -/
import Derived.Test.YtjdfhlkpfjhjoaaCoef
set_option linter.unusedSimpArgs false
set_option linter.unusedVariables false
namespace Go.Z
open Go Go.RowKit Go.Proofs
theorem keep_len (t : Int × Int) : (keep t).length ≤ 1 := by unfold keep; split <;> simp
theorem merge_len (k : Int) : ∀ (n : Nat) (a b : List (Int × Int)), a.length + b.length ≤ n → (mergeL k a b).length ≤ a.length + b.length := by
  intro n
  induction n with
  | zero =>
    intro a b hn
    obtain rfl : a = [] := List.eq_nil_of_length_eq_zero (by omega)
    obtain rfl : b = [] := List.eq_nil_of_length_eq_zero (by omega)
    rw [mergeL]; simp
  | succ n ih =>
    intro a b hn
    match a, b with
    | [], [] => rw [mergeL]; simp
    | [], u :: m =>
      have := ih [] m (by simp at hn ⊢; omega)
      have h2 := keep_len (u.1, 0 + k * u.2)
      rw [mergeL_nb, List.length_append]; simp at this h2 ⊢; omega
    | t :: l, [] =>
      have := ih l [] (by simp at hn ⊢; omega)
      have h2 := keep_len (t.1, t.2 + k * 0)
      rw [mergeL_an, List.length_append]; simp at this h2 ⊢; omega
    | t :: l, u :: m =>
      rcases Int.lt_trichotomy t.1 u.1 with e | e | e
      · have := ih l (u :: m) (by simp at hn ⊢; omega)
        have h2 := keep_len (t.1, t.2 + k * 0)
        rw [mergeL_lt k t u l m e, List.length_append]; simp at this h2 ⊢; omega
      · have := ih l m (by simp at hn ⊢; omega)
        have h2 := keep_len (t.1, t.2 + k * u.2)
        rw [mergeL_eq k t u l m e, List.length_append]; simp at this h2 ⊢; omega
      · have := ih (t :: l) m (by simp at hn ⊢; omega)
        have h2 := keep_len (u.1, 0 + k * u.2)
        rw [mergeL_gt k t u l m e, List.length_append]; simp at this h2 ⊢; omega
section
variable {x i j : Int} {a b : List (Int × Int)} (sa : so x a) (sb : so x b)
include sa sb
theorem merge_back : mergeL (-i) (mergeL i a b) b = a := so_ext (so_merge (so_merge sa sb) sb) sa fun c => by
  rw [co_merge (so_merge sa sb) sb, co_merge sa sb, Int.neg_mul]; omega
theorem merge_add : mergeL j (mergeL i a b) b = mergeL (i + j) a b := so_ext (so_merge (so_merge sa sb) sb) (so_merge sa sb) fun c => by
  rw [co_merge (so_merge sa sb) sb, co_merge sa sb, co_merge sa sb, Int.add_mul]; omega
end
theorem merge_one {x : Int} {a : List (Int × Int)} (sa : so x a) : mergeL 1 [] a = a := so_ext (so_merge (show so x [] from trivial) sa) sa fun c => by
  rw [co_merge (show so x [] from trivial) sa]; show (0 : Int) + 1 * co a c = co a c; omega
theorem merge_minus {x : Int} {a : List (Int × Int)} (sa : so x a) : mergeL (-1) a a = [] := so_ext (x := x) (so_merge sa sa) trivial fun c => by
  rw [co_merge sa sa]; show co a c + -1 * co a c = 0; omega
set_option maxHeartbeats 4000000 in
theorem law_merges {h : Heap} {v1 v2 : Value} {l m : List Int} {k0 k1 : Int} (hl : BytesAt h v1 l) (hm : BytesAt h v2 m) (hk0 : -128 ≤ k0 ∧ k0 ≤ 127) (hk1 : -128 ≤ k1 ∧ k1 ≤ 127) :
    Fn Try.prog 4 #[v1, v2, .agg ⟨[.int .i8 k0, .int .i8 k1]⟩] h fun r _ => r = .bool true := by
  obtain ⟨a, ea⟩ : ∃ a, a = sprow (vecL l 6) := ⟨_, rfl⟩
  have sa : so (-1) a := by rw [ea]; exact so_sprow _
  have wa : below 6 a := by
    have := below_sprow (vecL l 6)
    rw [vecL_len] at this; rw [ea]; exact this
  have na : ∀ t ∈ a, t.2.natAbs ≤ 9 := fun t ht => vecL_bnd l 6 _ (mem_sprow _ t (by rw [← ea]; exact ht))
  have la : a.length ≤ 6 := by
    have := sprow_len (vecL l 6)
    rw [vecL_len] at this; rw [ea]; exact this
  have fa : ∀ t ∈ a, Fit t.2 := fun t ht => fit64 (by have := na t ht; omega)
  have qa : ∀ t ∈ a, t.2.natAbs < 2147483648 := fun t ht => by have := na t ht; omega
  obtain ⟨b, eb⟩ : ∃ b, b = sprow (vecL m 6) := ⟨_, rfl⟩
  have sb : so (-1) b := by rw [eb]; exact so_sprow _
  have wb : below 6 b := by
    have := below_sprow (vecL m 6)
    rw [vecL_len] at this; rw [eb]; exact this
  have nb : ∀ t ∈ b, t.2.natAbs ≤ 9 := fun t ht => vecL_bnd m 6 _ (mem_sprow _ t (by rw [← eb]; exact ht))
  have lb : b.length ≤ 6 := by
    have := sprow_len (vecL m 6)
    rw [vecL_len] at this; rw [eb]; exact this
  have fb : ∀ t ∈ b, Fit t.2 := fun t ht => fit64 (by have := nb t ht; omega)
  have qb : ∀ t ∈ b, t.2.natAbs < 2147483648 := fun t ht => by have := nb t ht; omega
  obtain ⟨c, ec⟩ : ∃ c, c = mergeL k0 a b := ⟨_, rfl⟩
  have sc : so (-1) c := by rw [ec]; exact so_merge sa sb
  have wc : below 6 c := by rw [ec]; exact below_merge sa sb wa wb
  have nc : ∀ t ∈ c, t.2.natAbs ≤ 9 + 128 * 9 := by rw [ec]; exact merge_bnd sa sb na nb (by omega)
  have lc2 : c.length ≤ 12 := by
    have := merge_len k0 _ a b (Nat.le_refl _)
    rw [ec]; omega
  have fc : ∀ t ∈ c, Fit t.2 := fun t ht => fit64 (by have := nc t ht; omega)
  have qc : ∀ t ∈ c, t.2.natAbs < 2147483648 := fun t ht => by have := nc t ht; omega
  refine Fn.intro (args := [_, _, _]) Try.func4 rfl rfl (Nat.le_of_ble_eq_true rfl) fun w => ?_
  refine J.seq ?_
  refine J.region ?_
  refine o_bx rfl rfl (fun b5 => ?_)
  refine o_q (q_as) ?_
  refine JL.nil ?_
  refine J.seq ?_
  refine J.region ?_
  refine o_call (sanity_fn) (fun v14 hv14 sv14 ev14 => ?_)
  subst ev14
  first | refine o_q (q_asv (v := .bool _) rfl) ?_ | refine o_q (q_as) ?_
  refine JL.nil ?_
  refine J.seq ?_
  refine J.region ?_
  first | refine o_q (q_mvv (v := .slice _ _ _) rfl) ?_ | refine o_q (q_mv) ?_
  refine o_call (vec_fn (n := 6) hl.mono (by decide)) (fun v16 h16 s16 r16 => ?_)
  refine o_call (row_fn r16 (by rw [vecL_len]; decide) (fun z hz => fit64 (by have := vecL_bnd l 6 z hz; omega))) (fun v17 h17 s17 ra => ?_)
  rw [← ea] at ra
  obtain ⟨pa, ca, rfl, hca⟩ := ra.out
  first | refine o_q (q_asv (v := .slice _ _ _) rfl) ?_ | refine o_q (q_as) ?_
  refine JL.nil ?_
  refine J.seq ?_
  refine J.region ?_
  first | refine o_q (q_mvv (v := .slice _ _ _) rfl) ?_ | refine o_q (q_mv) ?_
  refine o_call (vec_fn (n := 6) hm.mono (by decide)) (fun v19 h19 s19 r19 => ?_)
  refine o_call (row_fn r19 (by rw [vecL_len]; decide) (fun z hz => fit64 (by have := vecL_bnd m 6 z hz; omega))) (fun v20 h20 s20 rb => ?_)
  rw [← eb] at rb
  obtain ⟨pb, cb, rfl, hcb⟩ := rb.out
  first | refine o_q (q_asv (v := .slice _ _ _) rfl) ?_ | refine o_q (q_as) ?_
  refine JL.nil ?_
  refine J.seq ?_
  refine J.region ?_
  refine o_q (q_ja (n := 2) (e := 29) (by kernel_rfl) rfl rfl (by decide)) ?_
  refine o_q (q_ld (v := .int .i8 k0) rfl inferInstance rfl) ?_
  refine o_q (q_cv (c := k0) rfl (wi64 (by omega))) ?_
  refine o_call (of_fn (by omega)) (fun v24 h24 s24 r24 => ?_)
  obtain ⟨p24, n24, rfl, l24, m24⟩ := r24.out
  refine o_al (fun b10 => ?_)
  refine o_stw (vs := [_, _]) rfl rfl rfl inferInstance rfl rfl ?_
  refine JL.nil ?_
  refine J.seq ?_
  refine J.region ?_
  refine o_q (q_ja (n := 2) (e := 29) (by kernel_rfl) rfl rfl (by decide)) ?_
  refine o_q (q_ld (v := .int .i8 k1) rfl inferInstance rfl) ?_
  refine o_q (q_cv (c := k1) rfl (wi64 (by omega))) ?_
  refine o_call (of_fn (by omega)) (fun v28 h28 s28 r28 => ?_)
  obtain ⟨p28, n28, rfl, l28, m28⟩ := r28.out
  refine o_al (fun b11 => ?_)
  refine o_stw (vs := [_, _]) rfl rfl rfl inferInstance rfl rfl ?_
  refine JL.nil ?_
  refine J.seq ?_
  refine J.region ?_
  first | refine o_q (q_mvv (v := .slice _ _ _) rfl) ?_ | refine o_q (q_mv) ?_
  first | refine o_q (q_mvv (v := .slice _ _ _) rfl) ?_ | refine o_q (q_mv) ?_
  refine o_q (q_lda (vs := [_, _]) rfl inferInstance ⟨rfl, rfl, trivial⟩) ?_
  refine o_call (merge_fn ra.mono rb.mono ⟨_, rfl, m24.mono⟩ (by omega) (by omega) qa qb (by omega)) (fun v32 h32 s32 r32 => ?_)
  rw [← ec] at r32
  obtain ⟨pc, cc, rfl, hcc⟩ := r32.out
  first | refine o_q (q_asv (v := .slice _ _ _) rfl) ?_ | refine o_q (q_as) ?_
  refine JL.nil ?_
  refine J.seq ?_
  refine J.region ?_
  first | refine o_q (q_mvv (v := .slice _ _ _) rfl) ?_ | refine o_q (q_mv) ?_
  refine o_call (Fn.mono (R' := fun v _ => v = .bool true) (validrow_fn (cols := 6) r32.mono (by decide) (by rw [List.length_map]; omega) (fun t ht => (by
    obtain ⟨u, hu, rfl⟩ := List.mem_map.1 ht
    exact Nat.le_trans (fc u hu) (by decide)))) (fun _ _ _ e => e.trans (congrArg Value.bool ((okRow_cr 6 c (-1)).trans (okR_so sc wc))))) (fun v34 h34 s34 e34 => ?_)
  subst e34
  first | refine o_q (q_asv (v := .bool _) rfl) ?_ | refine o_q (q_as) ?_
  refine JL.nil ?_
  refine J.seq ?_
  refine J.drawA [] ?_
  first | refine JD.calc 0 (by kernel_rfl) rfl trivial ss_sub (q_mvv (v := .bool _) rfl) ?_ | refine JD.calc 0 (by kernel_rfl) rfl trivial ss_sub (q_mv) ?_
  first | refine JD.calc 1 (by kernel_rfl) rfl trivial ss_sub (q_mvv (v := .bool _) rfl) ?_ | refine JD.calc 1 (by kernel_rfl) rfl trivial ss_sub (q_mv) ?_
  first | refine JD.calc 2 (by kernel_rfl) rfl ⟨_, rfl, rfl⟩ ss_sub (q_mvv (v := .bool _) rfl) ?_ | refine JD.calc 2 (by kernel_rfl) rfl ⟨_, rfl, rfl⟩ ss_sub (q_mv) ?_
  first | refine JD.calc 3 (by kernel_rfl) rfl trivial ss_sub (q_pickTv (v := .bool _) rfl rfl rfl) ?_ | refine JD.calc 3 (by kernel_rfl) rfl trivial ss_sub (q_pickT rfl rfl) ?_
  first | refine JD.calc 4 (by kernel_rfl) rfl trivial ss_sub (q_mvv (v := .bool _) rfl) ?_ | refine JD.calc 4 (by kernel_rfl) rfl trivial ss_sub (q_mv) ?_
  first | refine JD.calc 5 (by kernel_rfl) rfl ⟨_, rfl, rfl⟩ ss_sub (q_mvv (v := .slice _ _ _) rfl) ?_ | refine JD.calc 5 (by kernel_rfl) rfl ⟨_, rfl, rfl⟩ ss_sub (q_mv) ?_
  first | refine JD.calc 6 (by kernel_rfl) rfl ⟨_, rfl, rfl⟩ ss_sub (q_mvv (v := .slice _ _ _) rfl) ?_ | refine JD.calc 6 (by kernel_rfl) rfl ⟨_, rfl, rfl⟩ ss_sub (q_mv) ?_
  first | refine JD.calc 7 (by kernel_rfl) rfl ⟨_, rfl, rfl⟩ ss_sub (q_mvv (v := .slice _ _ _) rfl) ?_ | refine JD.calc 7 (by kernel_rfl) rfl ⟨_, rfl, rfl⟩ ss_sub (q_mv) ?_
  refine JD.load 8 (by kernel_rfl) rfl ⟨_, rfl, rfl⟩ (q_lda (vs := [_, _]) rfl inferInstance ⟨rfl, rfl, trivial⟩) ?_
  refine JD.one 9 (by kernel_rfl) ?_
  refine JX.eff rfl rfl ⟨_, rfl, rfl⟩ ?_
  refine o_call (merger_fn ra.mono rb.mono ⟨_, rfl, m24.mono⟩ (by omega) (by omega) qa qb (by omega)) (fun v44 h44 s44 r44 => ?_)
  rw [← ec] at r44
  refine JL.nil ⟨rfl, inferInstance, inferInstance, ?_⟩
  refine JD.one 10 (by kernel_rfl) ?_
  refine JX.eff rfl rfl ⟨_, rfl, rfl⟩ ?_
  refine o_call (Fn.mono (R' := fun v _ => v = .bool true) (samerow_fn r32.mono r44.mono (by omega) (by omega) fc fc) (fun _ _ _ e => e.trans (congrArg Value.bool (decide_eq_true rfl)))) (fun v45 h45 s45 e45 => ?_)
  subst e45
  refine JL.nil ⟨rfl, inferInstance, inferInstance, ?_⟩
  first | refine JD.calc 11 (by kernel_rfl) rfl trivial ss_sub (q_pickTv (v := .bool _) rfl rfl rfl) ?_ | refine JD.calc 11 (by kernel_rfl) rfl trivial ss_sub (q_pickT rfl rfl) ?_
  first | refine JD.calc 12 (by kernel_rfl) rfl trivial ss_sub (q_mvv (v := .bool _) rfl) ?_ | refine JD.calc 12 (by kernel_rfl) rfl trivial ss_sub (q_mv) ?_
  first | refine JD.calc 13 (by kernel_rfl) rfl ⟨_, rfl, rfl⟩ ss_sub (q_mvv (v := .slice _ _ _) rfl) ?_ | refine JD.calc 13 (by kernel_rfl) rfl ⟨_, rfl, rfl⟩ ss_sub (q_mv) ?_
  first | refine JD.calc 14 (by kernel_rfl) rfl ⟨_, rfl, rfl⟩ ss_sub (q_mvv (v := .slice _ _ _) rfl) ?_ | refine JD.calc 14 (by kernel_rfl) rfl ⟨_, rfl, rfl⟩ ss_sub (q_mv) ?_
  refine JD.load 15 (by kernel_rfl) rfl ⟨_, rfl, rfl⟩ (q_lda (vs := [_, _]) rfl inferInstance ⟨rfl, rfl, trivial⟩) ?_
  first | refine JD.calc 18 (by kernel_rfl) rfl ⟨_, rfl, rfl⟩ ss_sub (q_mvv (v := .slice _ _ _) rfl) ?_ | refine JD.calc 18 (by kernel_rfl) rfl ⟨_, rfl, rfl⟩ ss_sub (q_mv) ?_
  refine JD.one 16 (by kernel_rfl) ?_
  refine JX.eff rfl rfl ⟨_, rfl, rfl⟩ ?_
  refine o_call (neg_fn (z := k0) ⟨_, rfl, m24.mono⟩ (fit64 (by omega))) (fun v51 h51 s51 r51 => ?_)
  refine JL.nil ⟨rfl, inferInstance, inferInstance, ?_⟩
  refine JD.one 17 (by kernel_rfl) ?_
  refine JX.eff rfl rfl ⟨_, rfl, rfl⟩ ?_
  refine o_call (merge_fn r32.mono rb.mono r51.mono (by omega) (by omega) qc qb (by omega)) (fun v52 h52 s52 r52 => ?_)
  rw [ec, merge_back sa sb] at r52
  refine JL.nil ⟨rfl, inferInstance, inferInstance, ?_⟩
  refine JD.one 19 (by kernel_rfl) ?_
  refine JX.eff rfl rfl ⟨_, rfl, rfl⟩ ?_
  refine o_call (Fn.mono (R' := fun v _ => v = .bool true) (samerow_fn r52.mono ra.mono (by omega) (by omega) fa fa) (fun _ _ _ e => e.trans (congrArg Value.bool (decide_eq_true rfl)))) (fun v54 h54 s54 e54 => ?_)
  subst e54
  refine JL.nil ⟨rfl, inferInstance, inferInstance, ?_⟩
  first | refine JD.calc 20 (by kernel_rfl) rfl trivial ss_sub (q_pickTv (v := .bool _) rfl rfl rfl) ?_ | refine JD.calc 20 (by kernel_rfl) rfl trivial ss_sub (q_pickT rfl rfl) ?_
  first | refine JD.calc 21 (by kernel_rfl) rfl trivial ss_sub (q_mvv (v := .bool _) rfl) ?_ | refine JD.calc 21 (by kernel_rfl) rfl trivial ss_sub (q_mv) ?_
  first | refine JD.calc 22 (by kernel_rfl) rfl ⟨_, rfl, rfl⟩ ss_sub (q_mvv (v := .slice _ _ _) rfl) ?_ | refine JD.calc 22 (by kernel_rfl) rfl ⟨_, rfl, rfl⟩ ss_sub (q_mv) ?_
  first | refine JD.calc 23 (by kernel_rfl) rfl ⟨_, rfl, rfl⟩ ss_sub (q_mvv (v := .slice _ _ _) rfl) ?_ | refine JD.calc 23 (by kernel_rfl) rfl ⟨_, rfl, rfl⟩ ss_sub (q_mv) ?_
  refine JD.load 24 (by kernel_rfl) rfl ⟨_, rfl, rfl⟩ (q_lda (vs := [_, _]) rfl inferInstance ⟨rfl, rfl, trivial⟩) ?_
  first | refine JD.calc 26 (by kernel_rfl) rfl ⟨_, rfl, rfl⟩ ss_sub (q_mvv (v := .slice _ _ _) rfl) ?_ | refine JD.calc 26 (by kernel_rfl) rfl ⟨_, rfl, rfl⟩ ss_sub (q_mv) ?_
  first | refine JD.calc 27 (by kernel_rfl) rfl ⟨_, rfl, rfl⟩ ss_sub (q_mvv (v := .slice _ _ _) rfl) ?_ | refine JD.calc 27 (by kernel_rfl) rfl ⟨_, rfl, rfl⟩ ss_sub (q_mv) ?_
  refine JD.load 28 (by kernel_rfl) rfl ⟨_, rfl, rfl⟩ (q_lda (vs := [_, _]) rfl inferInstance ⟨rfl, rfl, trivial⟩) ?_
  refine JD.load 29 (by kernel_rfl) rfl ⟨_, rfl, rfl⟩ (q_lda (vs := [_, _]) rfl inferInstance ⟨rfl, rfl, trivial⟩) ?_
  refine JD.one 25 (by kernel_rfl) ?_
  refine JX.eff rfl rfl ⟨_, rfl, rfl⟩ ?_
  refine o_call (merge_fn r32.mono rb.mono ⟨_, rfl, m28.mono⟩ (by omega) (by omega) qc qb (by omega)) (fun v60 h60 s60 r60 => ?_)
  rw [ec, merge_add sa sb] at r60
  refine JL.nil ⟨rfl, inferInstance, inferInstance, ?_⟩
  refine JD.one 30 (by kernel_rfl) ?_
  refine JX.eff rfl rfl ⟨_, rfl, rfl⟩ ?_
  refine o_call (addr_fn (x := k0) (y := k1) ⟨_, rfl, m24.mono⟩ ⟨_, rfl, m28.mono⟩ (fit64 (by omega)) (fit64 (by omega))) (fun v65 h65 s65 r65 => ?_)
  refine JL.nil ⟨rfl, inferInstance, inferInstance, ?_⟩
  refine JD.one 31 (by kernel_rfl) ?_
  refine JX.eff rfl rfl ⟨_, rfl, rfl⟩ ?_
  refine o_call (merge_fn ra.mono rb.mono r65.mono (by omega) (by omega) qa qb (by omega)) (fun v66 h66 s66 r66 => ?_)
  refine JL.nil ⟨rfl, inferInstance, inferInstance, ?_⟩
  refine JD.one 32 (by kernel_rfl) ?_
  refine JX.eff rfl rfl ⟨_, rfl, rfl⟩ ?_
  have ld := merge_len (k0 + k1) _ a b (Nat.le_refl _)
  have nd := merge_bnd (k := k0 + k1) (K := 256) sa sb na nb (by omega)
  have fd : ∀ t ∈ mergeL (k0 + k1) a b, Fit t.2 := fun t ht => fit64 (by have := nd t ht; omega)
  refine o_call (Fn.mono (R' := fun v _ => v = .bool true) (samerow_fn r60.mono r66.mono (by omega) (by omega) fd fd) (fun _ _ _ e => e.trans (congrArg Value.bool (decide_eq_true rfl)))) (fun v67 h67 s67 e67 => ?_)
  subst e67
  refine JL.nil ⟨rfl, inferInstance, inferInstance, ?_⟩
  first | refine JD.calc 33 (by kernel_rfl) rfl trivial ss_sub (q_pickTv (v := .bool _) rfl rfl rfl) ?_ | refine JD.calc 33 (by kernel_rfl) rfl trivial ss_sub (q_pickT rfl rfl) ?_
  first | refine JD.calc 34 (by kernel_rfl) rfl trivial ss_sub (q_mvv (v := .bool _) rfl) ?_ | refine JD.calc 34 (by kernel_rfl) rfl trivial ss_sub (q_mv) ?_
  first | refine JD.calc 35 (by kernel_rfl) rfl ⟨_, rfl, rfl⟩ ss_sub (q_mvv (v := .slice _ _ _) rfl) ?_ | refine JD.calc 35 (by kernel_rfl) rfl ⟨_, rfl, rfl⟩ ss_sub (q_mv) ?_
  first | refine JD.calc 38 (by kernel_rfl) rfl ⟨_, rfl, rfl⟩ ss_sub (q_mvv (v := .slice _ _ _) rfl) ?_ | refine JD.calc 38 (by kernel_rfl) rfl ⟨_, rfl, rfl⟩ ss_sub (q_mv) ?_
  refine JD.one 36 (by kernel_rfl) ?_
  refine JX.eff rfl rfl ⟨_, rfl, rfl⟩ ?_
  refine o_call (of_fn (by omega)) (fun v71 h71 s71 r71 => ?_)
  obtain ⟨p71, n71, rfl, l71, m71⟩ := r71.out
  refine JL.nil ⟨rfl, inferInstance, inferInstance, ?_⟩
  refine JD.one 37 (by kernel_rfl) ?_
  refine JX.eff rfl rfl ⟨_, rfl, rfl⟩ ?_
  refine o_call (merge_fn (a := []) (Sls.nil _) ra.mono ⟨_, rfl, m71.mono⟩ (by decide) (by omega) (fun t ht => (by cases ht)) qa (by decide)) (fun v72 h72 s72 r72 => ?_)
  rw [merge_one sa] at r72
  refine JL.nil ⟨rfl, inferInstance, inferInstance, ?_⟩
  refine JD.one 39 (by kernel_rfl) ?_
  refine JX.eff rfl rfl ⟨_, rfl, rfl⟩ ?_
  refine o_call (Fn.mono (R' := fun v _ => v = .bool true) (samerow_fn r72.mono ra.mono (by omega) (by omega) fa fa) (fun _ _ _ e => e.trans (congrArg Value.bool (decide_eq_true rfl)))) (fun v74 h74 s74 e74 => ?_)
  subst e74
  refine JL.nil ⟨rfl, inferInstance, inferInstance, ?_⟩
  first | refine JD.calc 40 (by kernel_rfl) rfl trivial ss_sub (q_pickTv (v := .bool _) rfl rfl rfl) ?_ | refine JD.calc 40 (by kernel_rfl) rfl trivial ss_sub (q_pickT rfl rfl) ?_
  first | refine JD.calc 41 (by kernel_rfl) rfl trivial ss_sub (q_mvv (v := .bool _) rfl) ?_ | refine JD.calc 41 (by kernel_rfl) rfl trivial ss_sub (q_mv) ?_
  first | refine JD.calc 42 (by kernel_rfl) rfl ⟨_, rfl, rfl⟩ ss_sub (q_mvv (v := .slice _ _ _) rfl) ?_ | refine JD.calc 42 (by kernel_rfl) rfl ⟨_, rfl, rfl⟩ ss_sub (q_mv) ?_
  first | refine JD.calc 43 (by kernel_rfl) rfl ⟨_, rfl, rfl⟩ ss_sub (q_mvv (v := .slice _ _ _) rfl) ?_ | refine JD.calc 43 (by kernel_rfl) rfl ⟨_, rfl, rfl⟩ ss_sub (q_mv) ?_
  refine JD.one 44 (by kernel_rfl) ?_
  refine JX.eff rfl rfl ⟨_, rfl, rfl⟩ ?_
  refine o_call (of_fn (by omega)) (fun v79 h79 s79 r79 => ?_)
  obtain ⟨p79, n79, rfl, l79, m79⟩ := r79.out
  refine JL.nil ⟨rfl, inferInstance, inferInstance, ?_⟩
  refine JD.one 45 (by kernel_rfl) ?_
  refine JX.eff rfl rfl ⟨_, rfl, rfl⟩ ?_
  refine o_call (merge_fn ra.mono ra.mono ⟨_, rfl, m79.mono⟩ (by omega) (by omega) qa qa (by decide)) (fun v80 h80 s80 r80 => ?_)
  rw [merge_minus sa] at r80
  obtain ⟨pz, cz, rfl, hcz⟩ := r80.out
  refine JL.nil ⟨rfl, inferInstance, inferInstance, ?_⟩
  refine JD.calc 46 (by kernel_rfl) rfl ⟨_, rfl, rfl⟩ ss_sub (q_len rfl) ?_
  refine JD.calc 47 (by kernel_rfl) rfl ⟨_, rfl, rfl⟩ ss_sub (q_eql rfl rfl) ?_
  first | refine JD.calc 48 (by kernel_rfl) rfl trivial ss_sub (q_pickTv (v := .bool _) rfl rfl rfl) ?_ | refine JD.calc 48 (by kernel_rfl) rfl trivial ss_sub (q_pickT rfl rfl) ?_
  first | refine JD.calc 49 (by kernel_rfl) rfl trivial ss_sub (q_asv (v := .bool _) rfl) ?_ | refine JD.calc 49 (by kernel_rfl) rfl trivial ss_sub (q_as) ?_
  refine JD.done (by kernel_rfl) ?_ _
  refine J.ret ?_
  exact ret_ok (fn := Try.f4) rfl (.tmp rfl .nil) (congrArg Value.bool (decide_eq_true rfl))
end Go.Z
