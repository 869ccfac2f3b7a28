/- Texts of ours, joined: Sp5, Sp6. -/
import Derived.Test.YtjdfhlkpfjhjoaaX7
section
set_option linter.unusedSimpArgs false
set_option linter.unusedVariables false
/- Merge of the sparse matrices, walked: a range over a function. -/
set_option linter.unusedSimpArgs false
set_option linter.unusedVariables false
namespace Go.Z
open Go Go.RowKit Go.Proofs
theorem both_fn {rr : Option Nat} {nn : Nat} {w0 : World} {h0 : Heap} {L : Own} {h : Heap} {pa pb : Option Addr} {na ca nb cb : Nat} :
    FnIn ⟨Try.prog, rr, nn, w0, h0⟩ 49 #[.slice pa na ca, .slice pb nb cb] h L fun r _ L' => ∃ b2 b3, r = .func (.func 65) #[] #[.pointer (some ⟨b2, 0, none⟩), .pointer (some ⟨b3, 0, none⟩)] ∧ L' = (b3, row 26 [.slice pb nb cb]) :: (b2, row 26 [.slice pa na ca]) :: L := by
  refine FnIn.intro (args := [_, _]) Try.func49 rfl rfl (Nat.le_of_ble_eq_true rfl) ?_
  refine J.seq ?_
  refine J.region ?_
  first | refine o_bx (v := .slice _ _ _) rfl rfl (fun b2 => ?_) | refine o_bx rfl rfl (fun b2 => ?_)
  first | refine o_bx (v := .slice _ _ _) rfl rfl (fun b3 => ?_) | refine o_bx rfl rfl (fun b3 => ?_)
  refine o_q (q_as) ?_
  refine JL.nil ?_
  refine J.seq ?_
  refine J.region ?_
  refine o_q (q_mf) ?_
  first | refine o_q (q_asv (v := .func _ _ _) rfl) ?_ | refine o_q (q_as) ?_
  refine JL.nil ?_
  refine J.ret ?_
  exact ret_okL rfl (.tmp rfl .nil) ⟨_, _, rfl, rfl⟩
set_option maxHeartbeats 8000000 in
theorem merge_fn {h : Heap} {va vb vk : Value} {a b : List (Int × Int)} {k : Int} (ha : RowAt h va (cr a)) (hb : RowAt h vb (cr b)) (hk : IntAt h vk k) (hla : a.length ≤ 1000000) (hlb : b.length ≤ 1000000) (hba : ∀ t ∈ a, t.2.natAbs < 2147483648) (hbb : ∀ t ∈ b, t.2.natAbs < 2147483648) (hkk : k.natAbs < 2147483648) :
    Fn Try.prog 15 #[va, vb, vk] h fun r h' => RowAt h' r (cr (mergeL k a b)) := by
  obtain ⟨pa, ca, rfl, hca⟩ := ha.out
  obtain ⟨pb, cb, rfl, hcb⟩ := hb.out
  obtain ⟨pk, ck, rfl, hck, hkm⟩ := hk.out
  have el : (cr a).length = a.length := List.length_map ..
  have em : (cr b).length = b.length := List.length_map ..
  rw [el] at ha hca ⊢
  rw [em] at hb hcb ⊢
  have hk2 := hk
  refine Fn.introM (args := [_, _, _]) Try.func15 rfl rfl (Nat.le_of_ble_eq_true rfl) fun w => ?_
  refine J.seq ?_
  refine J.region ?_
  first | refine o_bx (v := .agg _) rfl rfl (fun b5 => ?_) | refine o_bx rfl rfl (fun b5 => ?_)
  refine o_q (q_as) ?_
  refine JL.nil ?_
  refine J.seq ?_
  refine J.region ?_
  refine o_al (fun b7 => ?_)
  refine JL.nil ?_
  refine J.seq ?_
  refine J.seq ?_
  refine J.region ?_
  first | refine o_q (q_mvv (v := .slice _ _ _) rfl) ?_ | refine o_q (q_mv) ?_
  first | refine o_q (q_mvv (v := .slice _ _ _) rfl) ?_ | refine o_q (q_mv) ?_
  refine o_calll both_fn (fun v12 h12 L12 s12 hv12 => ?_)
  obtain ⟨b2, b3, rfl, rfl⟩ := hv12
  refine JL.nil ?_
  refine J.block ?_
  refine J.rangeFunc rfl rfl (fun fn tms lid D OB hOB htm => ?_)
  refine FnIn.intro (args := [_, _, _]) Try.func65 rfl rfl (Nat.le_of_ble_eq_true rfl) ?_
  refine J.block ?_
  -- loop 0: kept [0, 1, 2], said []
  first | refine J.loopK (α := List (Int × Int) × List (Int × Int) × List (Int × Int) × List Value × Option Addr × Nat × Option Addr × Nat × Option Addr × Nat × Own) (fun ⟨l, m, done, xs, pv, cv, pl, cl, pm, cm, Lb⟩ h' L' => RowAt h' (.slice pl l.length cl) (cr l) ∧ RowAt h' (.slice pm m.length cm) (cr m) ∧ OwnS 71 3 (.slice pv done.length cv) done.length xs Lb ∧ Cells TermR 3 h' xs (cr done) ∧ mergeL k a b = done ++ mergeL k l m ∧ done.length + l.length + m.length ≤ 2000000 ∧ (∀ t ∈ l, t.2.natAbs < 2147483648) ∧ (∀ t ∈ m, t.2.natAbs < 2147483648) ∧ List.Sublist ((lid, OB .ready) :: (D, .deferred (some [])) :: (b3, row 26 [.slice pm m.length cm]) :: (b2, row 26 [.slice pl l.length cl]) :: (Lb ++ [(b7, row 26 [.slice pv done.length cv]), (b5, row 37 [.bool (decide (k < 0)), .slice pk (limbs k.natAbs).length ck])])) L') [(0, .func _ _ _), (1, _), (2, _)] ⟨rfl, rfl, rfl, trivial⟩ (fun _ => []) (fun x => x.1.length + x.2.1.length) ((a, b, [], [], none, 0, pa, ca, pb, cb, [])) ⟨ha.mono, hb.mono, OwnS.nil _ _, Cells.nil, rfl, (by simp; omega), hba, hbb, List.Sublist.refl _⟩ trivial ?_ | refine J.loopK (α := List (Int × Int) × List (Int × Int) × List (Int × Int) × List Value × Option Addr × Nat × Option Addr × Nat × Option Addr × Nat × Own) (fun ⟨l, m, done, xs, pv, cv, pl, cl, pm, cm, Lb⟩ h' L' => RowAt h' (.slice pl l.length cl) (cr l) ∧ RowAt h' (.slice pm m.length cm) (cr m) ∧ OwnS 71 3 (.slice pv done.length cv) done.length xs Lb ∧ Cells TermR 3 h' xs (cr done) ∧ mergeL k a b = done ++ mergeL k l m ∧ done.length + l.length + m.length ≤ 2000000 ∧ (∀ t ∈ l, t.2.natAbs < 2147483648) ∧ (∀ t ∈ m, t.2.natAbs < 2147483648) ∧ List.Sublist ((lid, OB .ready) :: (D, .deferred (some [])) :: (b3, row 26 [.slice pm m.length cm]) :: (b2, row 26 [.slice pl l.length cl]) :: (Lb ++ [(b7, row 26 [.slice pv done.length cv]), (b5, row 37 [.bool (decide (k < 0)), .slice pk (limbs k.natAbs).length ck])])) L') [(0, _), (1, _), (2, _)] ⟨rfl, rfl, rfl, trivial⟩ (fun _ => []) (fun x => x.1.length + x.2.1.length) ((a, b, [], [], none, 0, pa, ca, pb, cb, [])) ⟨ha.mono, hb.mono, OwnS.nil _ _, Cells.nil, rfl, (by simp; omega), hba, hbb, List.Sublist.refl _⟩ trivial ?_
  rintro ⟨l, m, done, xs, pv, cv, pl, cl, pm, cm, Lb⟩ σ h1 L1 s1 ⟨hl, hm, ho, hcs, hmg, hsz, hbl, hbm, hsub⟩
  refine J.sub hsub ?_
  refine J.seq ?_
  refine J.seq ?_
  rcases l with _ | ⟨a1, l⟩ <;> rcases m with _ | ⟨b1, m⟩
  ·
    refine J.region ?_
    refine o_q (q_ld rfl inferInstance rfl) ?_
    refine o_q (q_len rfl) ?_
    refine o_q (q_gtr rfl rfl) ?_
    first | refine o_q (q_mvv (v := .bool _) rfl) ?_ | refine o_q (q_mv) ?_
    refine JL.guardT rfl rfl (decide_eq_false (by simp)) ?_
    refine o_q (q_ld rfl inferInstance rfl) ?_
    refine JL.guardT rfl rfl (decide_eq_false (by simp)) ?_
    refine o_q (q_len rfl) ?_
    refine JL.guardT rfl rfl (decide_eq_false (by simp)) ?_
    refine o_q (q_gtr rfl rfl) ?_
    first | refine o_q (q_pickFv (v := .bool _) rfl (decide_eq_false (by simp)) rfl) ?_ | refine o_q (q_pickF rfl (decide_eq_false (by simp))) ?_
    refine JL.nil ?_
    refine J.condF rfl (decide_eq_false (by simp)) ?_
    refine J.exit ?_
    show retQL _ _ _ _ _ _ _ _ _
    refine ret_okL (fn := Try.f65) rfl .nil ?_
    refine ⟨_, inferInstance, ?_⟩
    refine J.seq ?_
    refine J.fzS ho (fun h9 s9 hs9 => ?_)
    refine J.region ?_
    refine o_q (q_ld rfl inferInstance rfl) ?_
    first | refine o_q (q_asv (v := .slice _ _ _) rfl) ?_ | refine o_q (q_as) ?_
    refine JL.nil ?_
    refine J.ret ?_
    refine ret_okM (fn := Try.f15) rfl (.tmp rfl .nil) ?_
    rw [hmg, mergeL, List.append_nil]
    exact Sls.of hs9 hcs.mono (by simp)
  ·
    obtain ⟨ky, oy, qy, ny, rfl, hcy0, hcy1, hcy, hny, hmy⟩ := Sls.term hm (rfl : (cr (b1 :: m))[0]? = some (tm b1))
    have hl2 := hl
    have hm2 := Sls.drop (k := 1) hm (by simp)
    have hyv : IntAt h1 (.agg ⟨[.bool (decide (b1.2 < 0)), .slice qy (limbs b1.2.natAbs).length ny]⟩) b1.2 := ⟨_, rfl, hmy⟩
    have fyv : b1.2.natAbs < 2147483648 := hbm b1 (by simp)
    have htv := IntAt.zero h1
    have ftv : (0 : Int).natAbs < 2147483648 := by decide
    have hstep := mergeL_nb k b1 m
    have hcol : (b1.1 : Int) = b1.1 := rfl
    refine J.region ?_
    refine o_q (q_ld rfl inferInstance rfl) ?_
    refine o_q (q_len rfl) ?_
    refine o_q (q_gtr rfl rfl) ?_
    first | refine o_q (q_mvv (v := .bool _) rfl) ?_ | refine o_q (q_mv) ?_
    refine JL.guardT rfl rfl (decide_eq_false (by simp)) ?_
    refine o_q (q_ld rfl inferInstance rfl) ?_
    refine JL.guardT rfl rfl (decide_eq_false (by simp)) ?_
    refine o_q (q_len rfl) ?_
    refine JL.guardT rfl rfl (decide_eq_false (by simp)) ?_
    refine o_q (q_gtr rfl rfl) ?_
    first | refine o_q (q_pickFv (v := .bool _) rfl (decide_eq_false (by simp)) rfl) ?_ | refine o_q (q_pickF rfl (decide_eq_false (by simp))) ?_
    refine JL.nil ?_
    refine J.condT rfl (decide_eq_true (by rw [List.length_cons]; omega)) ?_
    refine J.skip ?_
    refine J.block ?_
    refine J.seq ?_
    refine J.region ?_
    first | refine o_q (q_bd [.int _ _, .bool _, .slice _ _ _] rfl) ?_ | refine o_q (q_bd [_, _, _] rfl) ?_
    first | refine o_q (q_bd [.bool _, .slice _ _ _] rfl) ?_ | refine o_q (q_bd [_, _] rfl) ?_
    refine o_al (fun b4 => ?_)
    refine o_al (fun b5 => ?_)
    refine o_stw (vs := [_, _, _]) rfl rfl rfl inferInstance rfl rfl ?_
    refine o_stw (vs := [_, _]) rfl rfl rfl inferInstance rfl rfl ?_
    refine JL.nil ?_
    refine J.seq ?_
    refine J.drawA [] ?_
    refine JD.load 0 (by kernel_rfl) rfl trivial (q_ld rfl inferInstance rfl) ?_
    refine JD.calc 1 (by kernel_rfl) rfl trivial ss_sub (q_len rfl) ?_
    refine JD.calc 2 (by kernel_rfl) rfl trivial ss_sub (q_eql rfl rfl) ?_
    first | refine JD.calc 3 (by kernel_rfl) rfl trivial ss_sub (q_mvv (v := .bool _) rfl) ?_ | refine JD.calc 3 (by kernel_rfl) rfl trivial ss_sub (q_mv) ?_
    refine JD.load 4 (by kernel_rfl) rfl ⟨_, rfl, (congrArg Value.bool (decide_eq_false (by rw [List.length_cons]; omega)))⟩ (q_ld rfl inferInstance rfl) ?_
    refine JD.calc 5 (by kernel_rfl) rfl ⟨_, rfl, (congrArg Value.bool (decide_eq_false (by rw [List.length_cons]; omega)))⟩ ss_sub (q_len rfl) ?_
    refine JD.calc 6 (by kernel_rfl) rfl ⟨_, rfl, (congrArg Value.bool (decide_eq_false (by rw [List.length_cons]; omega)))⟩ ss_sub (q_gtr rfl rfl) ?_
    first | refine JD.calc 7 (by kernel_rfl) rfl ⟨_, rfl, (congrArg Value.bool (decide_eq_false (by rw [List.length_cons]; omega)))⟩ ss_sub (q_mvv (v := .bool _) rfl) ?_ | refine JD.calc 7 (by kernel_rfl) rfl ⟨_, rfl, (congrArg Value.bool (decide_eq_false (by rw [List.length_cons]; omega)))⟩ ss_sub (q_mv) ?_
    refine JD.pass 8 (by kernel_rfl) rfl rfl (congrArg Value.bool (decide_eq_false (by simp))) ss_sub ?_
    refine JD.pass 9 (by kernel_rfl) rfl rfl (congrArg Value.bool (decide_eq_false (by simp))) ss_sub ?_
    refine JD.pass 10 (by kernel_rfl) rfl rfl (congrArg Value.bool (decide_eq_false (by simp))) ss_sub ?_
    refine JD.pass 11 (by kernel_rfl) rfl rfl (congrArg Value.bool (decide_eq_false (by simp))) ss_sub ?_
    refine JD.pass 12 (by kernel_rfl) rfl rfl (congrArg Value.bool (decide_eq_false (by simp))) ss_sub ?_
    refine JD.pass 13 (by kernel_rfl) rfl rfl (congrArg Value.bool (decide_eq_false (by simp))) ss_sub ?_
    refine JD.pass 14 (by kernel_rfl) rfl rfl (congrArg Value.bool (decide_eq_false (by simp))) ss_sub ?_
    refine JD.pass 15 (by kernel_rfl) rfl rfl (congrArg Value.bool (decide_eq_false (by simp))) ss_sub ?_
    refine JD.pass 16 (by kernel_rfl) rfl rfl (congrArg Value.bool (decide_eq_false (by simp))) ss_sub ?_
    refine JD.calc 17 (by kernel_rfl) rfl ⟨_, rfl, (congrArg Value.bool (decide_eq_false (by rw [List.length_cons]; omega)))⟩ ss_sub (q_pickF rfl (decide_eq_false (by simp))) ?_
    first | refine JD.calc 18 (by kernel_rfl) rfl trivial ss_sub (q_pickFv (v := .bool _) rfl (decide_eq_false (by rw [List.length_cons]; omega)) rfl) ?_ | refine JD.calc 18 (by kernel_rfl) rfl trivial ss_sub (q_pickF rfl (decide_eq_false (by rw [List.length_cons]; omega))) ?_
    first | refine JD.calc 19 (by kernel_rfl) rfl trivial ss_sub (q_asv (v := .bool _) rfl) ?_ | refine JD.calc 19 (by kernel_rfl) rfl trivial ss_sub (q_as) ?_
    refine JD.done (by kernel_rfl) ?_ _
    refine J.seq ?_
    refine J.drawA [] ?_
    refine JD.load 0 (by kernel_rfl) rfl trivial (q_ld rfl inferInstance rfl) ?_
    refine JD.calc 1 (by kernel_rfl) rfl trivial ss_sub (q_len rfl) ?_
    refine JD.calc 2 (by kernel_rfl) rfl trivial ss_sub (q_eql rfl rfl) ?_
    first | refine JD.calc 3 (by kernel_rfl) rfl trivial ss_sub (q_mvv (v := .bool _) rfl) ?_ | refine JD.calc 3 (by kernel_rfl) rfl trivial ss_sub (q_mv) ?_
    refine JD.pass 4 (by kernel_rfl) rfl rfl (congrArg Value.bool (decide_eq_true (by simp))) ss_sub ?_
    refine JD.pass 5 (by kernel_rfl) rfl rfl (congrArg Value.bool (decide_eq_true (by simp))) ss_sub ?_
    refine JD.pass 6 (by kernel_rfl) rfl rfl (congrArg Value.bool (decide_eq_true (by simp))) ss_sub ?_
    refine JD.pass 7 (by kernel_rfl) rfl rfl (congrArg Value.bool (decide_eq_true (by simp))) ss_sub ?_
    refine JD.passU 8 (by kernel_rfl) rfl rfl rfl ss_sub ?_
    refine JD.passU 9 (by kernel_rfl) rfl rfl rfl ss_sub ?_
    refine JD.passU 10 (by kernel_rfl) rfl rfl rfl ss_sub ?_
    refine JD.passU 11 (by kernel_rfl) rfl rfl rfl ss_sub ?_
    refine JD.passU 12 (by kernel_rfl) rfl rfl rfl ss_sub ?_
    refine JD.passU 13 (by kernel_rfl) rfl rfl rfl ss_sub ?_
    refine JD.passU 14 (by kernel_rfl) rfl rfl rfl ss_sub ?_
    refine JD.passU 15 (by kernel_rfl) rfl rfl rfl ss_sub ?_
    refine JD.passU 16 (by kernel_rfl) rfl rfl rfl ss_sub ?_
    refine JD.pass 17 (by kernel_rfl) rfl rfl (congrArg Value.bool (decide_eq_true (by simp))) ss_sub ?_
    refine JD.calc 18 (by kernel_rfl) rfl trivial ss_sub (q_pickT rfl (decide_eq_true (by simp))) ?_
    first | refine JD.calc 19 (by kernel_rfl) rfl trivial ss_sub (q_asv (v := .bool _) rfl) ?_ | refine JD.calc 19 (by kernel_rfl) rfl trivial ss_sub (q_as) ?_
    refine JD.done (by kernel_rfl) ?_ _
    refine J.seq ?_
    refine J.seq ?_
    refine J.region ?_
    first | refine o_q (q_mvv (v := .bool _) rfl) ?_ | refine o_q (q_mv) ?_
    refine JL.nil ?_
    refine J.condT rfl rfl ?_
    refine J.draw ([(b3, row 26 [.slice (some ⟨ky, oy, none⟩) (b1 :: m).length cm])]) [13] ?_
    refine JD.load 0 (by kernel_rfl) rfl trivial (q_ld rfl inferInstance rfl) ?_
    refine JD.calc 1 (by kernel_rfl) rfl trivial ss_sub (q_ia rfl rfl (by rw [List.length_cons]; omega)) ?_
    refine JD.calc 2 (by kernel_rfl) rfl trivial ss_sub (q_fa rfl) ?_
    refine JD.load 3 (by kernel_rfl) rfl trivial (q_ldf rfl hcy0) ?_
    refine JD.load 4 (by kernel_rfl) rfl trivial (q_ld rfl inferInstance rfl) ?_
    refine JD.calc 5 (by kernel_rfl) rfl trivial ss_sub (q_ia rfl rfl (by rw [List.length_cons]; omega)) ?_
    refine JD.calc 6 (by kernel_rfl) rfl trivial ss_sub (q_fa rfl) ?_
    refine JD.load 7 (by kernel_rfl) rfl trivial (q_ldfa rfl hcy1) ?_
    refine JD.load 8 (by kernel_rfl) rfl trivial (q_ld rfl inferInstance rfl) ?_
    refine JD.calc 9 (by kernel_rfl) rfl trivial ss_sub (q_slL rfl rfl (by rw [List.length_cons]; omega)) ?_
    refine JD.calc 10 (by kernel_rfl) rfl trivial ss_sub (q_fa rfl) ?_
    refine JD.one 11 (by kernel_rfl) ?_
    refine JX.eff rfl rfl trivial ?_
    first | refine o_st1 (v := .int _ _) rfl rfl rfl inferInstance (by first | decide | simp) ?_ | refine o_st1 rfl rfl rfl inferInstance (by first | decide | simp) ?_
    refine JL.nil ⟨rfl, inferInstance, inferInstance, ?_⟩
    refine JD.one 12 (by kernel_rfl) ?_
    refine JX.eff rfl rfl trivial ?_
    refine o_stw (vs := [_, _]) rfl rfl rfl inferInstance rfl rfl ?_
    refine JL.nil ⟨rfl, inferInstance, inferInstance, ?_⟩
    refine JD.one 13 (by kernel_rfl) ?_
    refine JX.mut rfl rfl trivial ?_
    first | refine o_st1 (v := .slice _ _ _) rfl rfl rfl inferInstance (by first | decide | simp) ?_ | refine o_st1 rfl rfl rfl inferInstance (by first | decide | simp) ?_
    refine JL.nil ⟨rfl, ?_⟩
    refine JD.done (by kernel_rfl) ?_ _
    refine J.seq ?_
    refine J.seq ?_
    refine J.region ?_
    first | refine o_q (q_mvv (v := .bool _) rfl) ?_ | refine o_q (q_mv) ?_
    refine JL.nil ?_
    refine J.condF rfl rfl ?_
    refine J.skip ?_
    refine J.seq ?_
    refine J.region ?_
    first | refine o_q (q_mvv (v := .func _ _ _) rfl) ?_ | refine o_q (q_mv) ?_
    refine o_q (q_lda (vs := [_, _, _]) rfl inferInstance ⟨rfl, rfl, rfl, trivial⟩) ?_
    refine o_q (q_lda (vs := [_, _]) rfl inferInstance ⟨rfl, rfl, trivial⟩) ?_
    refine o_yield rfl hOB htm inferInstance rfl rfl ?_
    refine J.seq ?_
    refine J.region ?_
    refine o_al (fun b8 => ?_)
    refine o_stw (vs := [_, _, _]) rfl rfl rfl inferInstance rfl rfl ?_
    refine JL.nil ?_
    refine J.region ?_
    refine o_al (fun b9 => ?_)
    refine o_stw (vs := [_, _]) rfl rfl rfl inferInstance rfl rfl ?_
    refine JL.nil ?_
    refine ⟨rfl, _, inferInstance, ?_⟩
    refine J.block ?_
    refine J.seq ?_
    refine J.drawA [7] ?_
    refine JD.calc 0 (by kernel_rfl) rfl trivial ss_sub (q_fa rfl) ?_
    refine JD.load 1 (by kernel_rfl) rfl trivial (q_lda (vs := [_, _]) rfl inferInstance ⟨rfl, rfl, trivial⟩) ?_
    refine JD.load 2 (by kernel_rfl) rfl trivial (q_lda (vs := [_, _]) rfl inferInstance ⟨rfl, rfl, trivial⟩) ?_
    refine JD.load 3 (by kernel_rfl) rfl trivial (q_lda (vs := [_, _]) rfl inferInstance ⟨rfl, rfl, trivial⟩) ?_
    refine JD.one 4 (by kernel_rfl) ?_
    refine JX.eff rfl rfl trivial ?_
    refine o_call (mul_fn hk2.mono hyv.mono (fit64 (by omega)) (fit64 (by omega))) (fun v19 h19 s19 hr19 => ?_)
    have hky := Nat.mul_le_mul (Nat.le_of_lt_succ hkk) (Nat.le_of_lt_succ fyv)
    rw [← Int.natAbs_mul] at hky
    have hky2 := Int.natAbs_add_le
    refine JL.nil ⟨rfl, inferInstance, inferInstance, ?_⟩
    refine JD.one 5 (by kernel_rfl) ?_
    refine JX.eff rfl rfl trivial ?_
    refine o_call (add_fn htv.mono hr19.mono (fit64 (by omega)) (fit64 (by omega))) (fun v20 h20 s20 hr20 => ?_)
    obtain ⟨pz, cz, rfl, hcz, hmz⟩ := hr20.out
    refine JL.nil ⟨rfl, inferInstance, inferInstance, ?_⟩
    refine JD.calc 6 (by kernel_rfl) rfl trivial ss_sub (q_fa rfl) ?_
    refine JD.one 7 (by kernel_rfl) ?_
    refine JX.mut rfl rfl trivial ?_
    refine o_sta (vs := [_, _]) rfl rfl rfl inferInstance rfl (by first | decide | simp) ?_
    refine JL.nil ⟨rfl, ?_⟩
    refine JD.done (by kernel_rfl) ?_ _
    refine J.seq ?_
    refine J.region ?_
    refine o_q (q_fa rfl) ?_
    refine o_q (q_lda (vs := [_, _]) rfl inferInstance ⟨rfl, rfl, trivial⟩) ?_
    refine o_call (sign_fn ⟨_, rfl, hmz.mono⟩ (Nat.le_trans (fit64 (by have := Int.natAbs_add_le; omega)) (by decide))) (fun v24 h24 s24 e24 => ?_)
    subst e24
    refine o_q (q_neq rfl rfl) ?_
    refine JL.nil ?_
    refine J.condD rfl (fun c2 => ?_) (fun c2 => ?_)
    ·
      have hnz := fun e => c2 ((sgn_zero _).2 e)
      refine J.region ?_
      refine o_q (q_ld rfl inferInstance rfl) ?_
      refine o_q (q_lda (vs := [_, _, _]) rfl inferInstance ⟨rfl, rfl, rfl, trivial⟩) ?_
      first | refine o_bs [.int _ _, .bool _, .slice _ _ _] (by decide) rfl (fun b28 => ?_) | refine o_bs [_, _, _] (by decide) rfl (fun b28 => ?_)
      refine o_app (m := 1) rfl rfl ho inferInstance (src_own inferInstance (LookN.all _) rfl (by simp [plain])) (by omega) (fun v29 L29 ho29 => ?_)
      obtain ⟨p29, c29, rfl⟩ := ho29.out
      first | refine o_st1 (v := .slice _ _ _) rfl rfl rfl inferInstance (by first | decide | simp) ?_ | refine o_st1 rfl rfl rfl inferInstance (by first | decide | simp) ?_
      refine JL.nil ?_
      refine ⟨rfl, _, inferInstance, ?_⟩
      refine o_q (q_not rfl) ?_
      refine JL.nil ?_
      refine J.condF rfl rfl ?_
      refine J.skip ?_
      first
        | exact ⟨([], m, done ++ [(b1.1, 0 + k * b1.2)], _, p29, c29, _, _, _, _, L29), rfl, ⟨rfl, rfl, rfl, trivial⟩, trivial, ⟨hl2.mono, hm2.mono, (by rw [List.length_append]; exact ho29), (by rw [show cr (done ++ [(b1.1, 0 + k * b1.2)]) = cr done ++ [tm (b1.1, 0 + k * b1.2)] by simp [cr]]; exact hcs.mono.snoc rfl ⟨_, _, rfl, hcz, hmz.mono⟩), (by rw [hmg, hstep, keep_pos hnz, List.append_assoc]), (by simp at hsz ⊢; omega), (fun t ht => hbl t (by simp [ht])), (fun t ht => hbm t (by simp [ht])), (by rw [List.length_append]; repeat' first | exact List.Sublist.refl _ | apply List.Sublist.cons_cons | apply List.Sublist.append (List.Sublist.refl _) | apply List.Sublist.cons)⟩, by simp only [List.length_cons, List.length_nil]; omega, inferInstance⟩
        | exact ⟨([], m, done, xs, pv, cv, _, _, _, _, Lb), rfl, ⟨rfl, rfl, rfl, trivial⟩, trivial, ⟨hl2.mono, hm2.mono, ho, hcs.mono, (by rw [hmg, hstep, keep_zero hnz, List.nil_append]), (by simp at hsz ⊢; omega), (fun t ht => hbl t (by simp [ht])), (fun t ht => hbm t (by simp [ht])), (by repeat' first | exact List.Sublist.refl _ | apply List.Sublist.cons_cons | apply List.Sublist.append (List.Sublist.refl _) | apply List.Sublist.cons)⟩, by simp only [List.length_cons, List.length_nil]; omega, inferInstance⟩
    ·
      have hnz := (sgn_zero _).1 (Classical.not_not.1 c2)
      refine J.skip ?_
      refine ⟨rfl, _, inferInstance, ?_⟩
      refine o_q (q_not rfl) ?_
      refine JL.nil ?_
      refine J.condF rfl rfl ?_
      refine J.skip ?_
      first
        | exact ⟨([], m, done ++ [(b1.1, 0 + k * b1.2)], _, p29, c29, _, _, _, _, L29), rfl, ⟨rfl, rfl, rfl, trivial⟩, trivial, ⟨hl2.mono, hm2.mono, (by rw [List.length_append]; exact ho29), (by rw [show cr (done ++ [(b1.1, 0 + k * b1.2)]) = cr done ++ [tm (b1.1, 0 + k * b1.2)] by simp [cr]]; exact hcs.mono.snoc rfl ⟨_, _, rfl, hcz, hmz.mono⟩), (by rw [hmg, hstep, keep_pos hnz, List.append_assoc]), (by simp at hsz ⊢; omega), (fun t ht => hbl t (by simp [ht])), (fun t ht => hbm t (by simp [ht])), (by rw [List.length_append]; repeat' first | exact List.Sublist.refl _ | apply List.Sublist.cons_cons | apply List.Sublist.append (List.Sublist.refl _) | apply List.Sublist.cons)⟩, by simp only [List.length_cons, List.length_nil]; omega, inferInstance⟩
        | exact ⟨([], m, done, xs, pv, cv, _, _, _, _, Lb), rfl, ⟨rfl, rfl, rfl, trivial⟩, trivial, ⟨hl2.mono, hm2.mono, ho, hcs.mono, (by rw [hmg, hstep, keep_zero hnz, List.nil_append]), (by simp at hsz ⊢; omega), (fun t ht => hbl t (by simp [ht])), (fun t ht => hbm t (by simp [ht])), (by repeat' first | exact List.Sublist.refl _ | apply List.Sublist.cons_cons | apply List.Sublist.append (List.Sublist.refl _) | apply List.Sublist.cons)⟩, by simp only [List.length_cons, List.length_nil]; omega, inferInstance⟩
  ·
    obtain ⟨kx, ox, qx, nx, rfl, hcx0, hcx1, hcx, hnx, hmx⟩ := Sls.term hl (rfl : (cr (a1 :: l))[0]? = some (tm a1))
    have hl2 := Sls.drop (k := 1) hl (by simp)
    have hm2 := hm
    have hyv := IntAt.zero h1
    have fyv : (0 : Int).natAbs < 2147483648 := by decide
    have htv : IntAt h1 (.agg ⟨[.bool (decide (a1.2 < 0)), .slice qx (limbs a1.2.natAbs).length nx]⟩) a1.2 := ⟨_, rfl, hmx⟩
    have ftv : a1.2.natAbs < 2147483648 := hbl a1 (by simp)
    have hstep := mergeL_an k a1 l
    refine J.region ?_
    refine o_q (q_ld rfl inferInstance rfl) ?_
    refine o_q (q_len rfl) ?_
    refine o_q (q_gtr rfl rfl) ?_
    first | refine o_q (q_mvv (v := .bool _) rfl) ?_ | refine o_q (q_mv) ?_
    refine JL.guardF rfl rfl (decide_eq_true (by rw [List.length_cons]; omega)) rfl ?_
    refine JL.guardF rfl rfl (decide_eq_true (by rw [List.length_cons]; omega)) rfl ?_
    refine JL.guardF rfl rfl (decide_eq_true (by rw [List.length_cons]; omega)) rfl ?_
    refine o_q (q_pickT rfl (decide_eq_true (by rw [List.length_cons]; omega))) ?_
    refine JL.nil ?_
    refine J.condT rfl rfl ?_
    refine J.skip ?_
    refine J.block ?_
    refine J.seq ?_
    refine J.region ?_
    first | refine o_q (q_bd [.int _ _, .bool _, .slice _ _ _] rfl) ?_ | refine o_q (q_bd [_, _, _] rfl) ?_
    first | refine o_q (q_bd [.bool _, .slice _ _ _] rfl) ?_ | refine o_q (q_bd [_, _] rfl) ?_
    refine o_al (fun b4 => ?_)
    refine o_al (fun b5 => ?_)
    refine o_stw (vs := [_, _, _]) rfl rfl rfl inferInstance rfl rfl ?_
    refine o_stw (vs := [_, _]) rfl rfl rfl inferInstance rfl rfl ?_
    refine JL.nil ?_
    refine J.seq ?_
    refine J.drawA [] ?_
    refine JD.load 0 (by kernel_rfl) rfl trivial (q_ld rfl inferInstance rfl) ?_
    refine JD.calc 1 (by kernel_rfl) rfl trivial ss_sub (q_len rfl) ?_
    refine JD.calc 2 (by kernel_rfl) rfl trivial ss_sub (q_eql rfl rfl) ?_
    first | refine JD.calc 3 (by kernel_rfl) rfl trivial ss_sub (q_mvv (v := .bool _) rfl) ?_ | refine JD.calc 3 (by kernel_rfl) rfl trivial ss_sub (q_mv) ?_
    refine JD.pass 4 (by kernel_rfl) rfl rfl (congrArg Value.bool (decide_eq_true (by simp))) ss_sub ?_
    refine JD.pass 5 (by kernel_rfl) rfl rfl (congrArg Value.bool (decide_eq_true (by simp))) ss_sub ?_
    refine JD.pass 6 (by kernel_rfl) rfl rfl (congrArg Value.bool (decide_eq_true (by simp))) ss_sub ?_
    refine JD.pass 7 (by kernel_rfl) rfl rfl (congrArg Value.bool (decide_eq_true (by simp))) ss_sub ?_
    refine JD.passU 8 (by kernel_rfl) rfl rfl rfl ss_sub ?_
    refine JD.passU 9 (by kernel_rfl) rfl rfl rfl ss_sub ?_
    refine JD.passU 10 (by kernel_rfl) rfl rfl rfl ss_sub ?_
    refine JD.passU 11 (by kernel_rfl) rfl rfl rfl ss_sub ?_
    refine JD.passU 12 (by kernel_rfl) rfl rfl rfl ss_sub ?_
    refine JD.passU 13 (by kernel_rfl) rfl rfl rfl ss_sub ?_
    refine JD.passU 14 (by kernel_rfl) rfl rfl rfl ss_sub ?_
    refine JD.passU 15 (by kernel_rfl) rfl rfl rfl ss_sub ?_
    refine JD.passU 16 (by kernel_rfl) rfl rfl rfl ss_sub ?_
    refine JD.pass 17 (by kernel_rfl) rfl rfl (congrArg Value.bool (decide_eq_true (by simp))) ss_sub ?_
    refine JD.calc 18 (by kernel_rfl) rfl trivial ss_sub (q_pickT rfl (decide_eq_true (by simp))) ?_
    first | refine JD.calc 19 (by kernel_rfl) rfl trivial ss_sub (q_asv (v := .bool _) rfl) ?_ | refine JD.calc 19 (by kernel_rfl) rfl trivial ss_sub (q_as) ?_
    refine JD.done (by kernel_rfl) ?_ _
    refine J.seq ?_
    refine J.drawA [] ?_
    refine JD.load 0 (by kernel_rfl) rfl trivial (q_ld rfl inferInstance rfl) ?_
    refine JD.calc 1 (by kernel_rfl) rfl trivial ss_sub (q_len rfl) ?_
    refine JD.calc 2 (by kernel_rfl) rfl trivial ss_sub (q_eql rfl rfl) ?_
    first | refine JD.calc 3 (by kernel_rfl) rfl trivial ss_sub (q_mvv (v := .bool _) rfl) ?_ | refine JD.calc 3 (by kernel_rfl) rfl trivial ss_sub (q_mv) ?_
    refine JD.load 4 (by kernel_rfl) rfl ⟨_, rfl, (congrArg Value.bool (decide_eq_false (by rw [List.length_cons]; omega)))⟩ (q_ld rfl inferInstance rfl) ?_
    refine JD.calc 5 (by kernel_rfl) rfl ⟨_, rfl, (congrArg Value.bool (decide_eq_false (by rw [List.length_cons]; omega)))⟩ ss_sub (q_len rfl) ?_
    refine JD.calc 6 (by kernel_rfl) rfl ⟨_, rfl, (congrArg Value.bool (decide_eq_false (by rw [List.length_cons]; omega)))⟩ ss_sub (q_gtr rfl rfl) ?_
    first | refine JD.calc 7 (by kernel_rfl) rfl ⟨_, rfl, (congrArg Value.bool (decide_eq_false (by rw [List.length_cons]; omega)))⟩ ss_sub (q_mvv (v := .bool _) rfl) ?_ | refine JD.calc 7 (by kernel_rfl) rfl ⟨_, rfl, (congrArg Value.bool (decide_eq_false (by rw [List.length_cons]; omega)))⟩ ss_sub (q_mv) ?_
    refine JD.pass 8 (by kernel_rfl) rfl rfl (congrArg Value.bool (decide_eq_false (by simp))) ss_sub ?_
    refine JD.pass 9 (by kernel_rfl) rfl rfl (congrArg Value.bool (decide_eq_false (by simp))) ss_sub ?_
    refine JD.pass 10 (by kernel_rfl) rfl rfl (congrArg Value.bool (decide_eq_false (by simp))) ss_sub ?_
    refine JD.pass 11 (by kernel_rfl) rfl rfl (congrArg Value.bool (decide_eq_false (by simp))) ss_sub ?_
    refine JD.pass 12 (by kernel_rfl) rfl rfl (congrArg Value.bool (decide_eq_false (by simp))) ss_sub ?_
    refine JD.pass 13 (by kernel_rfl) rfl rfl (congrArg Value.bool (decide_eq_false (by simp))) ss_sub ?_
    refine JD.pass 14 (by kernel_rfl) rfl rfl (congrArg Value.bool (decide_eq_false (by simp))) ss_sub ?_
    refine JD.pass 15 (by kernel_rfl) rfl rfl (congrArg Value.bool (decide_eq_false (by simp))) ss_sub ?_
    refine JD.pass 16 (by kernel_rfl) rfl rfl (congrArg Value.bool (decide_eq_false (by simp))) ss_sub ?_
    refine JD.calc 17 (by kernel_rfl) rfl ⟨_, rfl, (congrArg Value.bool (decide_eq_false (by rw [List.length_cons]; omega)))⟩ ss_sub (q_pickF rfl (decide_eq_false (by simp))) ?_
    first | refine JD.calc 18 (by kernel_rfl) rfl trivial ss_sub (q_pickFv (v := .bool _) rfl (decide_eq_false (by rw [List.length_cons]; omega)) rfl) ?_ | refine JD.calc 18 (by kernel_rfl) rfl trivial ss_sub (q_pickF rfl (decide_eq_false (by rw [List.length_cons]; omega))) ?_
    first | refine JD.calc 19 (by kernel_rfl) rfl trivial ss_sub (q_asv (v := .bool _) rfl) ?_ | refine JD.calc 19 (by kernel_rfl) rfl trivial ss_sub (q_as) ?_
    refine JD.done (by kernel_rfl) ?_ _
    refine J.seq ?_
    refine J.seq ?_
    refine J.region ?_
    first | refine o_q (q_mvv (v := .bool _) rfl) ?_ | refine o_q (q_mv) ?_
    refine JL.nil ?_
    refine J.condF rfl rfl ?_
    refine J.skip ?_
    refine J.seq ?_
    refine J.seq ?_
    refine J.region ?_
    first | refine o_q (q_mvv (v := .bool _) rfl) ?_ | refine o_q (q_mv) ?_
    refine JL.nil ?_
    refine J.condT rfl rfl ?_
    refine J.draw ([(b2, row 26 [.slice (some ⟨kx, ox, none⟩) (a1 :: l).length cl])]) [6] ?_
    refine JD.load 0 (by kernel_rfl) rfl trivial (q_ld rfl inferInstance rfl) ?_
    refine JD.calc 1 (by kernel_rfl) rfl trivial ss_sub (q_ia rfl rfl (by rw [List.length_cons]; omega)) ?_
    refine JD.load 2 (by kernel_rfl) rfl trivial (q_ldfa rfl hcx) ?_
    refine JD.load 3 (by kernel_rfl) rfl trivial (q_ld rfl inferInstance rfl) ?_
    refine JD.calc 4 (by kernel_rfl) rfl trivial ss_sub (q_slL rfl rfl (by rw [List.length_cons]; omega)) ?_
    refine JD.one 5 (by kernel_rfl) ?_
    refine JX.eff rfl rfl trivial ?_
    refine o_stw (vs := [_, _, _]) rfl rfl rfl inferInstance rfl rfl ?_
    refine JL.nil ⟨rfl, inferInstance, inferInstance, ?_⟩
    refine JD.one 6 (by kernel_rfl) ?_
    refine JX.mut rfl rfl trivial ?_
    first | refine o_st1 (v := .slice _ _ _) rfl rfl rfl inferInstance (by first | decide | simp) ?_ | refine o_st1 rfl rfl rfl inferInstance (by first | decide | simp) ?_
    refine JL.nil ⟨rfl, ?_⟩
    refine JD.done (by kernel_rfl) ?_ _
    refine J.seq ?_
    refine J.region ?_
    first | refine o_q (q_mvv (v := .func _ _ _) rfl) ?_ | refine o_q (q_mv) ?_
    refine o_q (q_lda (vs := [_, _, _]) rfl inferInstance ⟨rfl, rfl, rfl, trivial⟩) ?_
    refine o_q (q_lda (vs := [_, _]) rfl inferInstance ⟨rfl, rfl, trivial⟩) ?_
    refine o_yield rfl hOB htm inferInstance rfl rfl ?_
    refine J.seq ?_
    refine J.region ?_
    refine o_al (fun b8 => ?_)
    refine o_stw (vs := [_, _, _]) rfl rfl rfl inferInstance rfl rfl ?_
    refine JL.nil ?_
    refine J.region ?_
    refine o_al (fun b9 => ?_)
    refine o_stw (vs := [_, _]) rfl rfl rfl inferInstance rfl rfl ?_
    refine JL.nil ?_
    refine ⟨rfl, _, inferInstance, ?_⟩
    refine J.block ?_
    refine J.seq ?_
    refine J.drawA [7] ?_
    refine JD.calc 0 (by kernel_rfl) rfl trivial ss_sub (q_fa rfl) ?_
    refine JD.load 1 (by kernel_rfl) rfl trivial (q_lda (vs := [_, _]) rfl inferInstance ⟨rfl, rfl, trivial⟩) ?_
    refine JD.load 2 (by kernel_rfl) rfl trivial (q_lda (vs := [_, _]) rfl inferInstance ⟨rfl, rfl, trivial⟩) ?_
    refine JD.load 3 (by kernel_rfl) rfl trivial (q_lda (vs := [_, _]) rfl inferInstance ⟨rfl, rfl, trivial⟩) ?_
    refine JD.one 4 (by kernel_rfl) ?_
    refine JX.eff rfl rfl trivial ?_
    refine o_call (mul_fn hk2.mono hyv.mono (fit64 (by omega)) (fit64 (by omega))) (fun v19 h19 s19 hr19 => ?_)
    have hky := Nat.mul_le_mul (Nat.le_of_lt_succ hkk) (Nat.le_of_lt_succ fyv)
    rw [← Int.natAbs_mul] at hky
    have hky2 := Int.natAbs_add_le
    refine JL.nil ⟨rfl, inferInstance, inferInstance, ?_⟩
    refine JD.one 5 (by kernel_rfl) ?_
    refine JX.eff rfl rfl trivial ?_
    refine o_call (add_fn htv.mono hr19.mono (fit64 (by omega)) (fit64 (by omega))) (fun v20 h20 s20 hr20 => ?_)
    obtain ⟨pz, cz, rfl, hcz, hmz⟩ := hr20.out
    refine JL.nil ⟨rfl, inferInstance, inferInstance, ?_⟩
    refine JD.calc 6 (by kernel_rfl) rfl trivial ss_sub (q_fa rfl) ?_
    refine JD.one 7 (by kernel_rfl) ?_
    refine JX.mut rfl rfl trivial ?_
    refine o_sta (vs := [_, _]) rfl rfl rfl inferInstance rfl (by first | decide | simp) ?_
    refine JL.nil ⟨rfl, ?_⟩
    refine JD.done (by kernel_rfl) ?_ _
    refine J.seq ?_
    refine J.region ?_
    refine o_q (q_fa rfl) ?_
    refine o_q (q_lda (vs := [_, _]) rfl inferInstance ⟨rfl, rfl, trivial⟩) ?_
    refine o_call (sign_fn ⟨_, rfl, hmz.mono⟩ (Nat.le_trans (fit64 (by have := Int.natAbs_add_le; omega)) (by decide))) (fun v24 h24 s24 e24 => ?_)
    subst e24
    refine o_q (q_neq rfl rfl) ?_
    refine JL.nil ?_
    refine J.condD rfl (fun c2 => ?_) (fun c2 => ?_)
    ·
      have hnz := fun e => c2 ((sgn_zero _).2 e)
      refine J.region ?_
      refine o_q (q_ld rfl inferInstance rfl) ?_
      refine o_q (q_lda (vs := [_, _, _]) rfl inferInstance ⟨rfl, rfl, rfl, trivial⟩) ?_
      first | refine o_bs [.int _ _, .bool _, .slice _ _ _] (by decide) rfl (fun b28 => ?_) | refine o_bs [_, _, _] (by decide) rfl (fun b28 => ?_)
      refine o_app (m := 1) rfl rfl ho inferInstance (src_own inferInstance (LookN.all _) rfl (by simp [plain])) (by omega) (fun v29 L29 ho29 => ?_)
      obtain ⟨p29, c29, rfl⟩ := ho29.out
      first | refine o_st1 (v := .slice _ _ _) rfl rfl rfl inferInstance (by first | decide | simp) ?_ | refine o_st1 rfl rfl rfl inferInstance (by first | decide | simp) ?_
      refine JL.nil ?_
      refine ⟨rfl, _, inferInstance, ?_⟩
      refine o_q (q_not rfl) ?_
      refine JL.nil ?_
      refine J.condF rfl rfl ?_
      refine J.skip ?_
      first
        | exact ⟨(l, [], done ++ [(a1.1, a1.2 + k * 0)], _, p29, c29, _, _, _, _, L29), rfl, ⟨rfl, rfl, rfl, trivial⟩, trivial, ⟨hl2.mono, hm2.mono, (by rw [List.length_append]; exact ho29), (by rw [show cr (done ++ [(a1.1, a1.2 + k * 0)]) = cr done ++ [tm (a1.1, a1.2 + k * 0)] by simp [cr]]; exact hcs.mono.snoc rfl ⟨_, _, rfl, hcz, hmz.mono⟩), (by rw [hmg, hstep, keep_pos hnz, List.append_assoc]), (by simp at hsz ⊢; omega), (fun t ht => hbl t (by simp [ht])), (fun t ht => hbm t (by simp [ht])), (by rw [List.length_append]; repeat' first | exact List.Sublist.refl _ | apply List.Sublist.cons_cons | apply List.Sublist.append (List.Sublist.refl _) | apply List.Sublist.cons)⟩, by simp only [List.length_cons, List.length_nil]; omega, inferInstance⟩
        | exact ⟨(l, [], done, xs, pv, cv, _, _, _, _, Lb), rfl, ⟨rfl, rfl, rfl, trivial⟩, trivial, ⟨hl2.mono, hm2.mono, ho, hcs.mono, (by rw [hmg, hstep, keep_zero hnz, List.nil_append]), (by simp at hsz ⊢; omega), (fun t ht => hbl t (by simp [ht])), (fun t ht => hbm t (by simp [ht])), (by repeat' first | exact List.Sublist.refl _ | apply List.Sublist.cons_cons | apply List.Sublist.append (List.Sublist.refl _) | apply List.Sublist.cons)⟩, by simp only [List.length_cons, List.length_nil]; omega, inferInstance⟩
    ·
      have hnz := (sgn_zero _).1 (Classical.not_not.1 c2)
      refine J.skip ?_
      refine ⟨rfl, _, inferInstance, ?_⟩
      refine o_q (q_not rfl) ?_
      refine JL.nil ?_
      refine J.condF rfl rfl ?_
      refine J.skip ?_
      first
        | exact ⟨(l, [], done ++ [(a1.1, a1.2 + k * 0)], _, p29, c29, _, _, _, _, L29), rfl, ⟨rfl, rfl, rfl, trivial⟩, trivial, ⟨hl2.mono, hm2.mono, (by rw [List.length_append]; exact ho29), (by rw [show cr (done ++ [(a1.1, a1.2 + k * 0)]) = cr done ++ [tm (a1.1, a1.2 + k * 0)] by simp [cr]]; exact hcs.mono.snoc rfl ⟨_, _, rfl, hcz, hmz.mono⟩), (by rw [hmg, hstep, keep_pos hnz, List.append_assoc]), (by simp at hsz ⊢; omega), (fun t ht => hbl t (by simp [ht])), (fun t ht => hbm t (by simp [ht])), (by rw [List.length_append]; repeat' first | exact List.Sublist.refl _ | apply List.Sublist.cons_cons | apply List.Sublist.append (List.Sublist.refl _) | apply List.Sublist.cons)⟩, by simp only [List.length_cons, List.length_nil]; omega, inferInstance⟩
        | exact ⟨(l, [], done, xs, pv, cv, _, _, _, _, Lb), rfl, ⟨rfl, rfl, rfl, trivial⟩, trivial, ⟨hl2.mono, hm2.mono, ho, hcs.mono, (by rw [hmg, hstep, keep_zero hnz, List.nil_append]), (by simp at hsz ⊢; omega), (fun t ht => hbl t (by simp [ht])), (fun t ht => hbm t (by simp [ht])), (by repeat' first | exact List.Sublist.refl _ | apply List.Sublist.cons_cons | apply List.Sublist.append (List.Sublist.refl _) | apply List.Sublist.cons)⟩, by simp only [List.length_cons, List.length_nil]; omega, inferInstance⟩
  ·
    obtain ⟨kx, ox, qx, nx, rfl, hcx0, hcx1, hcx, hnx, hmx⟩ := Sls.term hl (rfl : (cr (a1 :: l))[0]? = some (tm a1))
    obtain ⟨ky, oy, qy, ny, rfl, hcy0, hcy1, hcy, hny, hmy⟩ := Sls.term hm (rfl : (cr (b1 :: m))[0]? = some (tm b1))
    refine J.region ?_
    refine o_q (q_ld rfl inferInstance rfl) ?_
    refine o_q (q_len rfl) ?_
    refine o_q (q_gtr rfl rfl) ?_
    first | refine o_q (q_mvv (v := .bool _) rfl) ?_ | refine o_q (q_mv) ?_
    refine JL.guardF rfl rfl (decide_eq_true (by rw [List.length_cons]; omega)) rfl ?_
    refine JL.guardF rfl rfl (decide_eq_true (by rw [List.length_cons]; omega)) rfl ?_
    refine JL.guardF rfl rfl (decide_eq_true (by rw [List.length_cons]; omega)) rfl ?_
    refine o_q (q_pickT rfl (decide_eq_true (by rw [List.length_cons]; omega))) ?_
    refine JL.nil ?_
    refine J.condT rfl rfl ?_
    refine J.skip ?_
    refine J.block ?_
    refine J.seq ?_
    refine J.region ?_
    first | refine o_q (q_bd [.int _ _, .bool _, .slice _ _ _] rfl) ?_ | refine o_q (q_bd [_, _, _] rfl) ?_
    first | refine o_q (q_bd [.bool _, .slice _ _ _] rfl) ?_ | refine o_q (q_bd [_, _] rfl) ?_
    refine o_al (fun b4 => ?_)
    refine o_al (fun b5 => ?_)
    refine o_stw (vs := [_, _, _]) rfl rfl rfl inferInstance rfl rfl ?_
    refine o_stw (vs := [_, _]) rfl rfl rfl inferInstance rfl rfl ?_
    refine JL.nil ?_
    refine J.seq ?_
    rcases (show a1.1 < b1.1 ∨ a1.1 = b1.1 ∨ b1.1 < a1.1 by omega) with q1 | q1 | q1
    ·
      have hl2 := Sls.drop (k := 1) hl (by simp)
      have hm2 := hm
      have hyv := IntAt.zero h1
      have fyv : (0 : Int).natAbs < 2147483648 := by decide
      have htv : IntAt h1 (.agg ⟨[.bool (decide (a1.2 < 0)), .slice qx (limbs a1.2.natAbs).length nx]⟩) a1.2 := ⟨_, rfl, hmx⟩
      have ftv : a1.2.natAbs < 2147483648 := hbl a1 (by simp)
      have hstep := mergeL_lt k a1 b1 l m q1
      refine J.drawA [] ?_
      refine JD.load 0 (by kernel_rfl) rfl trivial (q_ld rfl inferInstance rfl) ?_
      refine JD.calc 1 (by kernel_rfl) rfl trivial ss_sub (q_len rfl) ?_
      refine JD.calc 2 (by kernel_rfl) rfl trivial ss_sub (q_eql rfl rfl) ?_
      first | refine JD.calc 3 (by kernel_rfl) rfl trivial ss_sub (q_mvv (v := .bool _) rfl) ?_ | refine JD.calc 3 (by kernel_rfl) rfl trivial ss_sub (q_mv) ?_
      refine JD.load 4 (by kernel_rfl) rfl ⟨_, rfl, (congrArg Value.bool (decide_eq_false (by rw [List.length_cons]; omega)))⟩ (q_ld rfl inferInstance rfl) ?_
      refine JD.calc 5 (by kernel_rfl) rfl ⟨_, rfl, (congrArg Value.bool (decide_eq_false (by rw [List.length_cons]; omega)))⟩ ss_sub (q_len rfl) ?_
      refine JD.calc 6 (by kernel_rfl) rfl ⟨_, rfl, (congrArg Value.bool (decide_eq_false (by rw [List.length_cons]; omega)))⟩ ss_sub (q_gtr rfl rfl) ?_
      first | refine JD.calc 7 (by kernel_rfl) rfl ⟨_, rfl, (congrArg Value.bool (decide_eq_false (by rw [List.length_cons]; omega)))⟩ ss_sub (q_mvv (v := .bool _) rfl) ?_ | refine JD.calc 7 (by kernel_rfl) rfl ⟨_, rfl, (congrArg Value.bool (decide_eq_false (by rw [List.length_cons]; omega)))⟩ ss_sub (q_mv) ?_
      refine JD.load 8 (by kernel_rfl) rfl ⟨_, rfl, (congrArg Value.bool (decide_eq_true (by rw [List.length_cons]; omega)))⟩ (q_ld rfl inferInstance rfl) ?_
      refine JD.calc 9 (by kernel_rfl) rfl ⟨_, rfl, (congrArg Value.bool (decide_eq_true (by rw [List.length_cons]; omega)))⟩ ss_sub (q_ia rfl rfl (by rw [List.length_cons]; omega)) ?_
      refine JD.calc 10 (by kernel_rfl) rfl ⟨_, rfl, (congrArg Value.bool (decide_eq_true (by rw [List.length_cons]; omega)))⟩ ss_sub (q_fa rfl) ?_
      refine JD.load 11 (by kernel_rfl) rfl ⟨_, rfl, (congrArg Value.bool (decide_eq_true (by rw [List.length_cons]; omega)))⟩ (q_ldf rfl hcx0) ?_
      refine JD.load 12 (by kernel_rfl) rfl ⟨_, rfl, (congrArg Value.bool (decide_eq_true (by rw [List.length_cons]; omega)))⟩ (q_ld rfl inferInstance rfl) ?_
      refine JD.calc 13 (by kernel_rfl) rfl ⟨_, rfl, (congrArg Value.bool (decide_eq_true (by rw [List.length_cons]; omega)))⟩ ss_sub (q_ia rfl rfl (by rw [List.length_cons]; omega)) ?_
      refine JD.calc 14 (by kernel_rfl) rfl ⟨_, rfl, (congrArg Value.bool (decide_eq_true (by rw [List.length_cons]; omega)))⟩ ss_sub (q_fa rfl) ?_
      refine JD.load 15 (by kernel_rfl) rfl ⟨_, rfl, (congrArg Value.bool (decide_eq_true (by rw [List.length_cons]; omega)))⟩ (q_ldf rfl hcy0) ?_
      refine JD.calc 16 (by kernel_rfl) rfl ⟨_, rfl, (congrArg Value.bool (decide_eq_true (by rw [List.length_cons]; omega)))⟩ ss_sub (q_leq rfl rfl) ?_
      first | refine JD.calc 17 (by kernel_rfl) rfl ⟨_, rfl, (congrArg Value.bool (decide_eq_false (by rw [List.length_cons]; omega)))⟩ ss_sub (q_pickTv (v := .bool _) rfl (decide_eq_true (by rw [List.length_cons]; omega)) rfl) ?_ | refine JD.calc 17 (by kernel_rfl) rfl ⟨_, rfl, (congrArg Value.bool (decide_eq_false (by rw [List.length_cons]; omega)))⟩ ss_sub (q_pickT rfl (decide_eq_true (by rw [List.length_cons]; omega))) ?_
      first | refine JD.calc 18 (by kernel_rfl) rfl trivial ss_sub (q_pickFv (v := .bool _) rfl (decide_eq_false (by rw [List.length_cons]; omega)) rfl) ?_ | refine JD.calc 18 (by kernel_rfl) rfl trivial ss_sub (q_pickF rfl (decide_eq_false (by rw [List.length_cons]; omega))) ?_
      first | refine JD.calc 19 (by kernel_rfl) rfl trivial ss_sub (q_asv (v := .bool _) rfl) ?_ | refine JD.calc 19 (by kernel_rfl) rfl trivial ss_sub (q_as) ?_
      refine JD.done (by kernel_rfl) ?_ _
      refine J.seq ?_
      refine J.drawA [] ?_
      refine JD.load 0 (by kernel_rfl) rfl trivial (q_ld rfl inferInstance rfl) ?_
      refine JD.calc 1 (by kernel_rfl) rfl trivial ss_sub (q_len rfl) ?_
      refine JD.calc 2 (by kernel_rfl) rfl trivial ss_sub (q_eql rfl rfl) ?_
      first | refine JD.calc 3 (by kernel_rfl) rfl trivial ss_sub (q_mvv (v := .bool _) rfl) ?_ | refine JD.calc 3 (by kernel_rfl) rfl trivial ss_sub (q_mv) ?_
      refine JD.load 4 (by kernel_rfl) rfl ⟨_, rfl, (congrArg Value.bool (decide_eq_false (by rw [List.length_cons]; omega)))⟩ (q_ld rfl inferInstance rfl) ?_
      refine JD.calc 5 (by kernel_rfl) rfl ⟨_, rfl, (congrArg Value.bool (decide_eq_false (by rw [List.length_cons]; omega)))⟩ ss_sub (q_len rfl) ?_
      refine JD.calc 6 (by kernel_rfl) rfl ⟨_, rfl, (congrArg Value.bool (decide_eq_false (by rw [List.length_cons]; omega)))⟩ ss_sub (q_gtr rfl rfl) ?_
      first | refine JD.calc 7 (by kernel_rfl) rfl ⟨_, rfl, (congrArg Value.bool (decide_eq_false (by rw [List.length_cons]; omega)))⟩ ss_sub (q_mvv (v := .bool _) rfl) ?_ | refine JD.calc 7 (by kernel_rfl) rfl ⟨_, rfl, (congrArg Value.bool (decide_eq_false (by rw [List.length_cons]; omega)))⟩ ss_sub (q_mv) ?_
      refine JD.load 8 (by kernel_rfl) rfl ⟨_, rfl, (congrArg Value.bool (decide_eq_true (by rw [List.length_cons]; omega)))⟩ (q_ld rfl inferInstance rfl) ?_
      refine JD.calc 9 (by kernel_rfl) rfl ⟨_, rfl, (congrArg Value.bool (decide_eq_true (by rw [List.length_cons]; omega)))⟩ ss_sub (q_ia rfl rfl (by rw [List.length_cons]; omega)) ?_
      refine JD.calc 10 (by kernel_rfl) rfl ⟨_, rfl, (congrArg Value.bool (decide_eq_true (by rw [List.length_cons]; omega)))⟩ ss_sub (q_fa rfl) ?_
      refine JD.load 11 (by kernel_rfl) rfl ⟨_, rfl, (congrArg Value.bool (decide_eq_true (by rw [List.length_cons]; omega)))⟩ (q_ldf rfl hcy0) ?_
      refine JD.load 12 (by kernel_rfl) rfl ⟨_, rfl, (congrArg Value.bool (decide_eq_true (by rw [List.length_cons]; omega)))⟩ (q_ld rfl inferInstance rfl) ?_
      refine JD.calc 13 (by kernel_rfl) rfl ⟨_, rfl, (congrArg Value.bool (decide_eq_true (by rw [List.length_cons]; omega)))⟩ ss_sub (q_ia rfl rfl (by rw [List.length_cons]; omega)) ?_
      refine JD.calc 14 (by kernel_rfl) rfl ⟨_, rfl, (congrArg Value.bool (decide_eq_true (by rw [List.length_cons]; omega)))⟩ ss_sub (q_fa rfl) ?_
      refine JD.load 15 (by kernel_rfl) rfl ⟨_, rfl, (congrArg Value.bool (decide_eq_true (by rw [List.length_cons]; omega)))⟩ (q_ldf rfl hcx0) ?_
      refine JD.calc 16 (by kernel_rfl) rfl ⟨_, rfl, (congrArg Value.bool (decide_eq_true (by rw [List.length_cons]; omega)))⟩ ss_sub (q_leq rfl rfl) ?_
      first | refine JD.calc 17 (by kernel_rfl) rfl ⟨_, rfl, (congrArg Value.bool (decide_eq_false (by rw [List.length_cons]; omega)))⟩ ss_sub (q_pickTv (v := .bool _) rfl (decide_eq_true (by rw [List.length_cons]; omega)) rfl) ?_ | refine JD.calc 17 (by kernel_rfl) rfl ⟨_, rfl, (congrArg Value.bool (decide_eq_false (by rw [List.length_cons]; omega)))⟩ ss_sub (q_pickT rfl (decide_eq_true (by rw [List.length_cons]; omega))) ?_
      first | refine JD.calc 18 (by kernel_rfl) rfl trivial ss_sub (q_pickFv (v := .bool _) rfl (decide_eq_false (by rw [List.length_cons]; omega)) rfl) ?_ | refine JD.calc 18 (by kernel_rfl) rfl trivial ss_sub (q_pickF rfl (decide_eq_false (by rw [List.length_cons]; omega))) ?_
      first | refine JD.calc 19 (by kernel_rfl) rfl trivial ss_sub (q_asv (v := .bool _) rfl) ?_ | refine JD.calc 19 (by kernel_rfl) rfl trivial ss_sub (q_as) ?_
      refine JD.done (by kernel_rfl) ?_ _
      refine J.seq ?_
      refine J.seq ?_
      refine J.region ?_
      first | refine o_q (q_mvv (v := .bool _) rfl) ?_ | refine o_q (q_mv) ?_
      refine JL.nil ?_
      refine J.condF rfl (decide_eq_false (by show ¬ b1.1 ≤ a1.1; omega)) ?_
      refine J.skip ?_
      refine J.seq ?_
      refine J.seq ?_
      refine J.region ?_
      first | refine o_q (q_mvv (v := .bool _) rfl) ?_ | refine o_q (q_mv) ?_
      refine JL.nil ?_
      refine J.condT rfl (decide_eq_true (by show a1.1 ≤ b1.1; omega)) ?_
      refine J.draw ([(b2, row 26 [.slice (some ⟨kx, ox, none⟩) (a1 :: l).length cl])]) [6] ?_
      refine JD.load 0 (by kernel_rfl) rfl trivial (q_ld rfl inferInstance rfl) ?_
      refine JD.calc 1 (by kernel_rfl) rfl trivial ss_sub (q_ia rfl rfl (by rw [List.length_cons]; omega)) ?_
      refine JD.load 2 (by kernel_rfl) rfl trivial (q_ldfa rfl hcx) ?_
      refine JD.load 3 (by kernel_rfl) rfl trivial (q_ld rfl inferInstance rfl) ?_
      refine JD.calc 4 (by kernel_rfl) rfl trivial ss_sub (q_slL rfl rfl (by rw [List.length_cons]; omega)) ?_
      refine JD.one 5 (by kernel_rfl) ?_
      refine JX.eff rfl rfl trivial ?_
      refine o_stw (vs := [_, _, _]) rfl rfl rfl inferInstance rfl rfl ?_
      refine JL.nil ⟨rfl, inferInstance, inferInstance, ?_⟩
      refine JD.one 6 (by kernel_rfl) ?_
      refine JX.mut rfl rfl trivial ?_
      first | refine o_st1 (v := .slice _ _ _) rfl rfl rfl inferInstance (by first | decide | simp) ?_ | refine o_st1 rfl rfl rfl inferInstance (by first | decide | simp) ?_
      refine JL.nil ⟨rfl, ?_⟩
      refine JD.done (by kernel_rfl) ?_ _
      refine J.seq ?_
      refine J.region ?_
      first | refine o_q (q_mvv (v := .func _ _ _) rfl) ?_ | refine o_q (q_mv) ?_
      refine o_q (q_lda (vs := [_, _, _]) rfl inferInstance ⟨rfl, rfl, rfl, trivial⟩) ?_
      refine o_q (q_lda (vs := [_, _]) rfl inferInstance ⟨rfl, rfl, trivial⟩) ?_
      refine o_yield rfl hOB htm inferInstance rfl rfl ?_
      refine J.seq ?_
      refine J.region ?_
      refine o_al (fun b8 => ?_)
      refine o_stw (vs := [_, _, _]) rfl rfl rfl inferInstance rfl rfl ?_
      refine JL.nil ?_
      refine J.region ?_
      refine o_al (fun b9 => ?_)
      refine o_stw (vs := [_, _]) rfl rfl rfl inferInstance rfl rfl ?_
      refine JL.nil ?_
      refine ⟨rfl, _, inferInstance, ?_⟩
      refine J.block ?_
      refine J.seq ?_
      refine J.drawA [7] ?_
      refine JD.calc 0 (by kernel_rfl) rfl trivial ss_sub (q_fa rfl) ?_
      refine JD.load 1 (by kernel_rfl) rfl trivial (q_lda (vs := [_, _]) rfl inferInstance ⟨rfl, rfl, trivial⟩) ?_
      refine JD.load 2 (by kernel_rfl) rfl trivial (q_lda (vs := [_, _]) rfl inferInstance ⟨rfl, rfl, trivial⟩) ?_
      refine JD.load 3 (by kernel_rfl) rfl trivial (q_lda (vs := [_, _]) rfl inferInstance ⟨rfl, rfl, trivial⟩) ?_
      refine JD.one 4 (by kernel_rfl) ?_
      refine JX.eff rfl rfl trivial ?_
      refine o_call (mul_fn hk2.mono hyv.mono (fit64 (by omega)) (fit64 (by omega))) (fun v19 h19 s19 hr19 => ?_)
      have hky := Nat.mul_le_mul (Nat.le_of_lt_succ hkk) (Nat.le_of_lt_succ fyv)
      rw [← Int.natAbs_mul] at hky
      have hky2 := Int.natAbs_add_le
      refine JL.nil ⟨rfl, inferInstance, inferInstance, ?_⟩
      refine JD.one 5 (by kernel_rfl) ?_
      refine JX.eff rfl rfl trivial ?_
      refine o_call (add_fn htv.mono hr19.mono (fit64 (by omega)) (fit64 (by omega))) (fun v20 h20 s20 hr20 => ?_)
      obtain ⟨pz, cz, rfl, hcz, hmz⟩ := hr20.out
      refine JL.nil ⟨rfl, inferInstance, inferInstance, ?_⟩
      refine JD.calc 6 (by kernel_rfl) rfl trivial ss_sub (q_fa rfl) ?_
      refine JD.one 7 (by kernel_rfl) ?_
      refine JX.mut rfl rfl trivial ?_
      refine o_sta (vs := [_, _]) rfl rfl rfl inferInstance rfl (by first | decide | simp) ?_
      refine JL.nil ⟨rfl, ?_⟩
      refine JD.done (by kernel_rfl) ?_ _
      refine J.seq ?_
      refine J.region ?_
      refine o_q (q_fa rfl) ?_
      refine o_q (q_lda (vs := [_, _]) rfl inferInstance ⟨rfl, rfl, trivial⟩) ?_
      refine o_call (sign_fn ⟨_, rfl, hmz.mono⟩ (Nat.le_trans (fit64 (by have := Int.natAbs_add_le; omega)) (by decide))) (fun v24 h24 s24 e24 => ?_)
      subst e24
      refine o_q (q_neq rfl rfl) ?_
      refine JL.nil ?_
      refine J.condD rfl (fun c2 => ?_) (fun c2 => ?_)
      ·
        have hnz := fun e => c2 ((sgn_zero _).2 e)
        refine J.region ?_
        refine o_q (q_ld rfl inferInstance rfl) ?_
        refine o_q (q_lda (vs := [_, _, _]) rfl inferInstance ⟨rfl, rfl, rfl, trivial⟩) ?_
        first | refine o_bs [.int _ _, .bool _, .slice _ _ _] (by decide) rfl (fun b28 => ?_) | refine o_bs [_, _, _] (by decide) rfl (fun b28 => ?_)
        refine o_app (m := 1) rfl rfl ho inferInstance (src_own inferInstance (LookN.all _) rfl (by simp [plain])) (by omega) (fun v29 L29 ho29 => ?_)
        obtain ⟨p29, c29, rfl⟩ := ho29.out
        first | refine o_st1 (v := .slice _ _ _) rfl rfl rfl inferInstance (by first | decide | simp) ?_ | refine o_st1 rfl rfl rfl inferInstance (by first | decide | simp) ?_
        refine JL.nil ?_
        refine ⟨rfl, _, inferInstance, ?_⟩
        refine o_q (q_not rfl) ?_
        refine JL.nil ?_
        refine J.condF rfl rfl ?_
        refine J.skip ?_
        first
          | exact ⟨(l, b1 :: m, done ++ [(a1.1, a1.2 + k * 0)], _, p29, c29, _, _, _, _, L29), rfl, ⟨rfl, rfl, rfl, trivial⟩, trivial, ⟨hl2.mono, hm2.mono, (by rw [List.length_append]; exact ho29), (by rw [show cr (done ++ [(a1.1, a1.2 + k * 0)]) = cr done ++ [tm (a1.1, a1.2 + k * 0)] by simp [cr]]; exact hcs.mono.snoc rfl ⟨_, _, rfl, hcz, hmz.mono⟩), (by rw [hmg, hstep, keep_pos hnz, List.append_assoc]), (by simp at hsz ⊢; omega), (fun t ht => hbl t (by simp [ht])), (fun t ht => hbm t (by simp [ht])), (by rw [List.length_append]; repeat' first | exact List.Sublist.refl _ | apply List.Sublist.cons_cons | apply List.Sublist.append (List.Sublist.refl _) | apply List.Sublist.cons)⟩, by simp only [List.length_cons, List.length_nil]; omega, inferInstance⟩
          | exact ⟨(l, b1 :: m, done, xs, pv, cv, _, _, _, _, Lb), rfl, ⟨rfl, rfl, rfl, trivial⟩, trivial, ⟨hl2.mono, hm2.mono, ho, hcs.mono, (by rw [hmg, hstep, keep_zero hnz, List.nil_append]), (by simp at hsz ⊢; omega), (fun t ht => hbl t (by simp [ht])), (fun t ht => hbm t (by simp [ht])), (by repeat' first | exact List.Sublist.refl _ | apply List.Sublist.cons_cons | apply List.Sublist.append (List.Sublist.refl _) | apply List.Sublist.cons)⟩, by simp only [List.length_cons, List.length_nil]; omega, inferInstance⟩
      ·
        have hnz := (sgn_zero _).1 (Classical.not_not.1 c2)
        refine J.skip ?_
        refine ⟨rfl, _, inferInstance, ?_⟩
        refine o_q (q_not rfl) ?_
        refine JL.nil ?_
        refine J.condF rfl rfl ?_
        refine J.skip ?_
        first
          | exact ⟨(l, b1 :: m, done ++ [(a1.1, a1.2 + k * 0)], _, p29, c29, _, _, _, _, L29), rfl, ⟨rfl, rfl, rfl, trivial⟩, trivial, ⟨hl2.mono, hm2.mono, (by rw [List.length_append]; exact ho29), (by rw [show cr (done ++ [(a1.1, a1.2 + k * 0)]) = cr done ++ [tm (a1.1, a1.2 + k * 0)] by simp [cr]]; exact hcs.mono.snoc rfl ⟨_, _, rfl, hcz, hmz.mono⟩), (by rw [hmg, hstep, keep_pos hnz, List.append_assoc]), (by simp at hsz ⊢; omega), (fun t ht => hbl t (by simp [ht])), (fun t ht => hbm t (by simp [ht])), (by rw [List.length_append]; repeat' first | exact List.Sublist.refl _ | apply List.Sublist.cons_cons | apply List.Sublist.append (List.Sublist.refl _) | apply List.Sublist.cons)⟩, by simp only [List.length_cons, List.length_nil]; omega, inferInstance⟩
          | exact ⟨(l, b1 :: m, done, xs, pv, cv, _, _, _, _, Lb), rfl, ⟨rfl, rfl, rfl, trivial⟩, trivial, ⟨hl2.mono, hm2.mono, ho, hcs.mono, (by rw [hmg, hstep, keep_zero hnz, List.nil_append]), (by simp at hsz ⊢; omega), (fun t ht => hbl t (by simp [ht])), (fun t ht => hbm t (by simp [ht])), (by repeat' first | exact List.Sublist.refl _ | apply List.Sublist.cons_cons | apply List.Sublist.append (List.Sublist.refl _) | apply List.Sublist.cons)⟩, by simp only [List.length_cons, List.length_nil]; omega, inferInstance⟩
    ·
      have hl2 := Sls.drop (k := 1) hl (by simp)
      have hm2 := Sls.drop (k := 1) hm (by simp)
      have hyv : IntAt h1 (.agg ⟨[.bool (decide (b1.2 < 0)), .slice qy (limbs b1.2.natAbs).length ny]⟩) b1.2 := ⟨_, rfl, hmy⟩
      have fyv : b1.2.natAbs < 2147483648 := hbm b1 (by simp)
      have htv : IntAt h1 (.agg ⟨[.bool (decide (a1.2 < 0)), .slice qx (limbs a1.2.natAbs).length nx]⟩) a1.2 := ⟨_, rfl, hmx⟩
      have ftv : a1.2.natAbs < 2147483648 := hbl a1 (by simp)
      have hstep := mergeL_eq k a1 b1 l m q1
      refine J.drawA [] ?_
      refine JD.load 0 (by kernel_rfl) rfl trivial (q_ld rfl inferInstance rfl) ?_
      refine JD.calc 1 (by kernel_rfl) rfl trivial ss_sub (q_len rfl) ?_
      refine JD.calc 2 (by kernel_rfl) rfl trivial ss_sub (q_eql rfl rfl) ?_
      first | refine JD.calc 3 (by kernel_rfl) rfl trivial ss_sub (q_mvv (v := .bool _) rfl) ?_ | refine JD.calc 3 (by kernel_rfl) rfl trivial ss_sub (q_mv) ?_
      refine JD.load 4 (by kernel_rfl) rfl ⟨_, rfl, (congrArg Value.bool (decide_eq_false (by rw [List.length_cons]; omega)))⟩ (q_ld rfl inferInstance rfl) ?_
      refine JD.calc 5 (by kernel_rfl) rfl ⟨_, rfl, (congrArg Value.bool (decide_eq_false (by rw [List.length_cons]; omega)))⟩ ss_sub (q_len rfl) ?_
      refine JD.calc 6 (by kernel_rfl) rfl ⟨_, rfl, (congrArg Value.bool (decide_eq_false (by rw [List.length_cons]; omega)))⟩ ss_sub (q_gtr rfl rfl) ?_
      first | refine JD.calc 7 (by kernel_rfl) rfl ⟨_, rfl, (congrArg Value.bool (decide_eq_false (by rw [List.length_cons]; omega)))⟩ ss_sub (q_mvv (v := .bool _) rfl) ?_ | refine JD.calc 7 (by kernel_rfl) rfl ⟨_, rfl, (congrArg Value.bool (decide_eq_false (by rw [List.length_cons]; omega)))⟩ ss_sub (q_mv) ?_
      refine JD.load 8 (by kernel_rfl) rfl ⟨_, rfl, (congrArg Value.bool (decide_eq_true (by rw [List.length_cons]; omega)))⟩ (q_ld rfl inferInstance rfl) ?_
      refine JD.calc 9 (by kernel_rfl) rfl ⟨_, rfl, (congrArg Value.bool (decide_eq_true (by rw [List.length_cons]; omega)))⟩ ss_sub (q_ia rfl rfl (by rw [List.length_cons]; omega)) ?_
      refine JD.calc 10 (by kernel_rfl) rfl ⟨_, rfl, (congrArg Value.bool (decide_eq_true (by rw [List.length_cons]; omega)))⟩ ss_sub (q_fa rfl) ?_
      refine JD.load 11 (by kernel_rfl) rfl ⟨_, rfl, (congrArg Value.bool (decide_eq_true (by rw [List.length_cons]; omega)))⟩ (q_ldf rfl hcx0) ?_
      refine JD.load 12 (by kernel_rfl) rfl ⟨_, rfl, (congrArg Value.bool (decide_eq_true (by rw [List.length_cons]; omega)))⟩ (q_ld rfl inferInstance rfl) ?_
      refine JD.calc 13 (by kernel_rfl) rfl ⟨_, rfl, (congrArg Value.bool (decide_eq_true (by rw [List.length_cons]; omega)))⟩ ss_sub (q_ia rfl rfl (by rw [List.length_cons]; omega)) ?_
      refine JD.calc 14 (by kernel_rfl) rfl ⟨_, rfl, (congrArg Value.bool (decide_eq_true (by rw [List.length_cons]; omega)))⟩ ss_sub (q_fa rfl) ?_
      refine JD.load 15 (by kernel_rfl) rfl ⟨_, rfl, (congrArg Value.bool (decide_eq_true (by rw [List.length_cons]; omega)))⟩ (q_ldf rfl hcy0) ?_
      refine JD.calc 16 (by kernel_rfl) rfl ⟨_, rfl, (congrArg Value.bool (decide_eq_true (by rw [List.length_cons]; omega)))⟩ ss_sub (q_leq rfl rfl) ?_
      first | refine JD.calc 17 (by kernel_rfl) rfl ⟨_, rfl, (congrArg Value.bool (decide_eq_false (by rw [List.length_cons]; omega)))⟩ ss_sub (q_pickTv (v := .bool _) rfl (decide_eq_true (by rw [List.length_cons]; omega)) rfl) ?_ | refine JD.calc 17 (by kernel_rfl) rfl ⟨_, rfl, (congrArg Value.bool (decide_eq_false (by rw [List.length_cons]; omega)))⟩ ss_sub (q_pickT rfl (decide_eq_true (by rw [List.length_cons]; omega))) ?_
      first | refine JD.calc 18 (by kernel_rfl) rfl trivial ss_sub (q_pickFv (v := .bool _) rfl (decide_eq_false (by rw [List.length_cons]; omega)) rfl) ?_ | refine JD.calc 18 (by kernel_rfl) rfl trivial ss_sub (q_pickF rfl (decide_eq_false (by rw [List.length_cons]; omega))) ?_
      first | refine JD.calc 19 (by kernel_rfl) rfl trivial ss_sub (q_asv (v := .bool _) rfl) ?_ | refine JD.calc 19 (by kernel_rfl) rfl trivial ss_sub (q_as) ?_
      refine JD.done (by kernel_rfl) ?_ _
      refine J.seq ?_
      refine J.drawA [] ?_
      refine JD.load 0 (by kernel_rfl) rfl trivial (q_ld rfl inferInstance rfl) ?_
      refine JD.calc 1 (by kernel_rfl) rfl trivial ss_sub (q_len rfl) ?_
      refine JD.calc 2 (by kernel_rfl) rfl trivial ss_sub (q_eql rfl rfl) ?_
      first | refine JD.calc 3 (by kernel_rfl) rfl trivial ss_sub (q_mvv (v := .bool _) rfl) ?_ | refine JD.calc 3 (by kernel_rfl) rfl trivial ss_sub (q_mv) ?_
      refine JD.load 4 (by kernel_rfl) rfl ⟨_, rfl, (congrArg Value.bool (decide_eq_false (by rw [List.length_cons]; omega)))⟩ (q_ld rfl inferInstance rfl) ?_
      refine JD.calc 5 (by kernel_rfl) rfl ⟨_, rfl, (congrArg Value.bool (decide_eq_false (by rw [List.length_cons]; omega)))⟩ ss_sub (q_len rfl) ?_
      refine JD.calc 6 (by kernel_rfl) rfl ⟨_, rfl, (congrArg Value.bool (decide_eq_false (by rw [List.length_cons]; omega)))⟩ ss_sub (q_gtr rfl rfl) ?_
      first | refine JD.calc 7 (by kernel_rfl) rfl ⟨_, rfl, (congrArg Value.bool (decide_eq_false (by rw [List.length_cons]; omega)))⟩ ss_sub (q_mvv (v := .bool _) rfl) ?_ | refine JD.calc 7 (by kernel_rfl) rfl ⟨_, rfl, (congrArg Value.bool (decide_eq_false (by rw [List.length_cons]; omega)))⟩ ss_sub (q_mv) ?_
      refine JD.load 8 (by kernel_rfl) rfl ⟨_, rfl, (congrArg Value.bool (decide_eq_true (by rw [List.length_cons]; omega)))⟩ (q_ld rfl inferInstance rfl) ?_
      refine JD.calc 9 (by kernel_rfl) rfl ⟨_, rfl, (congrArg Value.bool (decide_eq_true (by rw [List.length_cons]; omega)))⟩ ss_sub (q_ia rfl rfl (by rw [List.length_cons]; omega)) ?_
      refine JD.calc 10 (by kernel_rfl) rfl ⟨_, rfl, (congrArg Value.bool (decide_eq_true (by rw [List.length_cons]; omega)))⟩ ss_sub (q_fa rfl) ?_
      refine JD.load 11 (by kernel_rfl) rfl ⟨_, rfl, (congrArg Value.bool (decide_eq_true (by rw [List.length_cons]; omega)))⟩ (q_ldf rfl hcy0) ?_
      refine JD.load 12 (by kernel_rfl) rfl ⟨_, rfl, (congrArg Value.bool (decide_eq_true (by rw [List.length_cons]; omega)))⟩ (q_ld rfl inferInstance rfl) ?_
      refine JD.calc 13 (by kernel_rfl) rfl ⟨_, rfl, (congrArg Value.bool (decide_eq_true (by rw [List.length_cons]; omega)))⟩ ss_sub (q_ia rfl rfl (by rw [List.length_cons]; omega)) ?_
      refine JD.calc 14 (by kernel_rfl) rfl ⟨_, rfl, (congrArg Value.bool (decide_eq_true (by rw [List.length_cons]; omega)))⟩ ss_sub (q_fa rfl) ?_
      refine JD.load 15 (by kernel_rfl) rfl ⟨_, rfl, (congrArg Value.bool (decide_eq_true (by rw [List.length_cons]; omega)))⟩ (q_ldf rfl hcx0) ?_
      refine JD.calc 16 (by kernel_rfl) rfl ⟨_, rfl, (congrArg Value.bool (decide_eq_true (by rw [List.length_cons]; omega)))⟩ ss_sub (q_leq rfl rfl) ?_
      first | refine JD.calc 17 (by kernel_rfl) rfl ⟨_, rfl, (congrArg Value.bool (decide_eq_false (by rw [List.length_cons]; omega)))⟩ ss_sub (q_pickTv (v := .bool _) rfl (decide_eq_true (by rw [List.length_cons]; omega)) rfl) ?_ | refine JD.calc 17 (by kernel_rfl) rfl ⟨_, rfl, (congrArg Value.bool (decide_eq_false (by rw [List.length_cons]; omega)))⟩ ss_sub (q_pickT rfl (decide_eq_true (by rw [List.length_cons]; omega))) ?_
      first | refine JD.calc 18 (by kernel_rfl) rfl trivial ss_sub (q_pickFv (v := .bool _) rfl (decide_eq_false (by rw [List.length_cons]; omega)) rfl) ?_ | refine JD.calc 18 (by kernel_rfl) rfl trivial ss_sub (q_pickF rfl (decide_eq_false (by rw [List.length_cons]; omega))) ?_
      first | refine JD.calc 19 (by kernel_rfl) rfl trivial ss_sub (q_asv (v := .bool _) rfl) ?_ | refine JD.calc 19 (by kernel_rfl) rfl trivial ss_sub (q_as) ?_
      refine JD.done (by kernel_rfl) ?_ _
      refine J.seq ?_
      refine J.seq ?_
      refine J.region ?_
      first | refine o_q (q_mvv (v := .bool _) rfl) ?_ | refine o_q (q_mv) ?_
      refine JL.nil ?_
      refine J.condT rfl (decide_eq_true (by show b1.1 ≤ a1.1; omega)) ?_
      refine J.draw ([(b3, row 26 [.slice (some ⟨ky, oy, none⟩) (b1 :: m).length cm])]) [13] ?_
      refine JD.load 0 (by kernel_rfl) rfl trivial (q_ld rfl inferInstance rfl) ?_
      refine JD.calc 1 (by kernel_rfl) rfl trivial ss_sub (q_ia rfl rfl (by rw [List.length_cons]; omega)) ?_
      refine JD.calc 2 (by kernel_rfl) rfl trivial ss_sub (q_fa rfl) ?_
      refine JD.load 3 (by kernel_rfl) rfl trivial (q_ldf rfl hcy0) ?_
      refine JD.load 4 (by kernel_rfl) rfl trivial (q_ld rfl inferInstance rfl) ?_
      refine JD.calc 5 (by kernel_rfl) rfl trivial ss_sub (q_ia rfl rfl (by rw [List.length_cons]; omega)) ?_
      refine JD.calc 6 (by kernel_rfl) rfl trivial ss_sub (q_fa rfl) ?_
      refine JD.load 7 (by kernel_rfl) rfl trivial (q_ldfa rfl hcy1) ?_
      refine JD.load 8 (by kernel_rfl) rfl trivial (q_ld rfl inferInstance rfl) ?_
      refine JD.calc 9 (by kernel_rfl) rfl trivial ss_sub (q_slL rfl rfl (by rw [List.length_cons]; omega)) ?_
      refine JD.calc 10 (by kernel_rfl) rfl trivial ss_sub (q_fa rfl) ?_
      refine JD.one 11 (by kernel_rfl) ?_
      refine JX.eff rfl rfl trivial ?_
      first | refine o_st1 (v := .int _ _) rfl rfl rfl inferInstance (by first | decide | simp) ?_ | refine o_st1 rfl rfl rfl inferInstance (by first | decide | simp) ?_
      refine JL.nil ⟨rfl, inferInstance, inferInstance, ?_⟩
      refine JD.one 12 (by kernel_rfl) ?_
      refine JX.eff rfl rfl trivial ?_
      refine o_stw (vs := [_, _]) rfl rfl rfl inferInstance rfl rfl ?_
      refine JL.nil ⟨rfl, inferInstance, inferInstance, ?_⟩
      refine JD.one 13 (by kernel_rfl) ?_
      refine JX.mut rfl rfl trivial ?_
      first | refine o_st1 (v := .slice _ _ _) rfl rfl rfl inferInstance (by first | decide | simp) ?_ | refine o_st1 rfl rfl rfl inferInstance (by first | decide | simp) ?_
      refine JL.nil ⟨rfl, ?_⟩
      refine JD.done (by kernel_rfl) ?_ _
      refine J.seq ?_
      refine J.seq ?_
      refine J.region ?_
      first | refine o_q (q_mvv (v := .bool _) rfl) ?_ | refine o_q (q_mv) ?_
      refine JL.nil ?_
      refine J.condT rfl (decide_eq_true (by show a1.1 ≤ b1.1; omega)) ?_
      refine J.draw ([(b2, row 26 [.slice (some ⟨kx, ox, none⟩) (a1 :: l).length cl])]) [6] ?_
      refine JD.load 0 (by kernel_rfl) rfl trivial (q_ld rfl inferInstance rfl) ?_
      refine JD.calc 1 (by kernel_rfl) rfl trivial ss_sub (q_ia rfl rfl (by rw [List.length_cons]; omega)) ?_
      refine JD.load 2 (by kernel_rfl) rfl trivial (q_ldfa rfl hcx) ?_
      refine JD.load 3 (by kernel_rfl) rfl trivial (q_ld rfl inferInstance rfl) ?_
      refine JD.calc 4 (by kernel_rfl) rfl trivial ss_sub (q_slL rfl rfl (by rw [List.length_cons]; omega)) ?_
      refine JD.one 5 (by kernel_rfl) ?_
      refine JX.eff rfl rfl trivial ?_
      refine o_stw (vs := [_, _, _]) rfl rfl rfl inferInstance rfl rfl ?_
      refine JL.nil ⟨rfl, inferInstance, inferInstance, ?_⟩
      refine JD.one 6 (by kernel_rfl) ?_
      refine JX.mut rfl rfl trivial ?_
      first | refine o_st1 (v := .slice _ _ _) rfl rfl rfl inferInstance (by first | decide | simp) ?_ | refine o_st1 rfl rfl rfl inferInstance (by first | decide | simp) ?_
      refine JL.nil ⟨rfl, ?_⟩
      refine JD.done (by kernel_rfl) ?_ _
      refine J.seq ?_
      refine J.region ?_
      first | refine o_q (q_mvv (v := .func _ _ _) rfl) ?_ | refine o_q (q_mv) ?_
      refine o_q (q_lda (vs := [_, _, _]) rfl inferInstance ⟨rfl, rfl, rfl, trivial⟩) ?_
      refine o_q (q_lda (vs := [_, _]) rfl inferInstance ⟨rfl, rfl, trivial⟩) ?_
      refine o_yield rfl hOB htm inferInstance rfl rfl ?_
      refine J.seq ?_
      refine J.region ?_
      refine o_al (fun b8 => ?_)
      refine o_stw (vs := [_, _, _]) rfl rfl rfl inferInstance rfl rfl ?_
      refine JL.nil ?_
      refine J.region ?_
      refine o_al (fun b9 => ?_)
      refine o_stw (vs := [_, _]) rfl rfl rfl inferInstance rfl rfl ?_
      refine JL.nil ?_
      refine ⟨rfl, _, inferInstance, ?_⟩
      refine J.block ?_
      refine J.seq ?_
      refine J.drawA [7] ?_
      refine JD.calc 0 (by kernel_rfl) rfl trivial ss_sub (q_fa rfl) ?_
      refine JD.load 1 (by kernel_rfl) rfl trivial (q_lda (vs := [_, _]) rfl inferInstance ⟨rfl, rfl, trivial⟩) ?_
      refine JD.load 2 (by kernel_rfl) rfl trivial (q_lda (vs := [_, _]) rfl inferInstance ⟨rfl, rfl, trivial⟩) ?_
      refine JD.load 3 (by kernel_rfl) rfl trivial (q_lda (vs := [_, _]) rfl inferInstance ⟨rfl, rfl, trivial⟩) ?_
      refine JD.one 4 (by kernel_rfl) ?_
      refine JX.eff rfl rfl trivial ?_
      refine o_call (mul_fn hk2.mono hyv.mono (fit64 (by omega)) (fit64 (by omega))) (fun v19 h19 s19 hr19 => ?_)
      have hky := Nat.mul_le_mul (Nat.le_of_lt_succ hkk) (Nat.le_of_lt_succ fyv)
      rw [← Int.natAbs_mul] at hky
      have hky2 := Int.natAbs_add_le
      refine JL.nil ⟨rfl, inferInstance, inferInstance, ?_⟩
      refine JD.one 5 (by kernel_rfl) ?_
      refine JX.eff rfl rfl trivial ?_
      refine o_call (add_fn htv.mono hr19.mono (fit64 (by omega)) (fit64 (by omega))) (fun v20 h20 s20 hr20 => ?_)
      obtain ⟨pz, cz, rfl, hcz, hmz⟩ := hr20.out
      refine JL.nil ⟨rfl, inferInstance, inferInstance, ?_⟩
      refine JD.calc 6 (by kernel_rfl) rfl trivial ss_sub (q_fa rfl) ?_
      refine JD.one 7 (by kernel_rfl) ?_
      refine JX.mut rfl rfl trivial ?_
      refine o_sta (vs := [_, _]) rfl rfl rfl inferInstance rfl (by first | decide | simp) ?_
      refine JL.nil ⟨rfl, ?_⟩
      refine JD.done (by kernel_rfl) ?_ _
      refine J.seq ?_
      refine J.region ?_
      refine o_q (q_fa rfl) ?_
      refine o_q (q_lda (vs := [_, _]) rfl inferInstance ⟨rfl, rfl, trivial⟩) ?_
      refine o_call (sign_fn ⟨_, rfl, hmz.mono⟩ (Nat.le_trans (fit64 (by have := Int.natAbs_add_le; omega)) (by decide))) (fun v24 h24 s24 e24 => ?_)
      subst e24
      refine o_q (q_neq rfl rfl) ?_
      refine JL.nil ?_
      refine J.condD rfl (fun c2 => ?_) (fun c2 => ?_)
      ·
        have hnz := fun e => c2 ((sgn_zero _).2 e)
        refine J.region ?_
        refine o_q (q_ld rfl inferInstance rfl) ?_
        refine o_q (q_lda (vs := [_, _, _]) rfl inferInstance ⟨rfl, rfl, rfl, trivial⟩) ?_
        first | refine o_bs [.int _ _, .bool _, .slice _ _ _] (by decide) rfl (fun b28 => ?_) | refine o_bs [_, _, _] (by decide) rfl (fun b28 => ?_)
        refine o_app (m := 1) rfl rfl ho inferInstance (src_own inferInstance (LookN.all _) rfl (by simp [plain])) (by omega) (fun v29 L29 ho29 => ?_)
        obtain ⟨p29, c29, rfl⟩ := ho29.out
        first | refine o_st1 (v := .slice _ _ _) rfl rfl rfl inferInstance (by first | decide | simp) ?_ | refine o_st1 rfl rfl rfl inferInstance (by first | decide | simp) ?_
        refine JL.nil ?_
        refine ⟨rfl, _, inferInstance, ?_⟩
        refine o_q (q_not rfl) ?_
        refine JL.nil ?_
        refine J.condF rfl rfl ?_
        refine J.skip ?_
        first
          | exact ⟨(l, m, done ++ [(a1.1, a1.2 + k * b1.2)], _, p29, c29, _, _, _, _, L29), rfl, ⟨rfl, rfl, rfl, trivial⟩, trivial, ⟨hl2.mono, hm2.mono, (by rw [List.length_append]; exact ho29), (by rw [show cr (done ++ [(a1.1, a1.2 + k * b1.2)]) = cr done ++ [tm (a1.1, a1.2 + k * b1.2)] by simp [cr]]; exact hcs.mono.snoc rfl ⟨_, _, rfl, hcz, hmz.mono⟩), (by rw [hmg, hstep, keep_pos hnz, List.append_assoc]), (by simp at hsz ⊢; omega), (fun t ht => hbl t (by simp [ht])), (fun t ht => hbm t (by simp [ht])), (by rw [List.length_append]; repeat' first | exact List.Sublist.refl _ | apply List.Sublist.cons_cons | apply List.Sublist.append (List.Sublist.refl _) | apply List.Sublist.cons)⟩, by simp only [List.length_cons, List.length_nil]; omega, inferInstance⟩
          | exact ⟨(l, m, done, xs, pv, cv, _, _, _, _, Lb), rfl, ⟨rfl, rfl, rfl, trivial⟩, trivial, ⟨hl2.mono, hm2.mono, ho, hcs.mono, (by rw [hmg, hstep, keep_zero hnz, List.nil_append]), (by simp at hsz ⊢; omega), (fun t ht => hbl t (by simp [ht])), (fun t ht => hbm t (by simp [ht])), (by repeat' first | exact List.Sublist.refl _ | apply List.Sublist.cons_cons | apply List.Sublist.append (List.Sublist.refl _) | apply List.Sublist.cons)⟩, by simp only [List.length_cons, List.length_nil]; omega, inferInstance⟩
      ·
        have hnz := (sgn_zero _).1 (Classical.not_not.1 c2)
        refine J.skip ?_
        refine ⟨rfl, _, inferInstance, ?_⟩
        refine o_q (q_not rfl) ?_
        refine JL.nil ?_
        refine J.condF rfl rfl ?_
        refine J.skip ?_
        first
          | exact ⟨(l, m, done ++ [(a1.1, a1.2 + k * b1.2)], _, p29, c29, _, _, _, _, L29), rfl, ⟨rfl, rfl, rfl, trivial⟩, trivial, ⟨hl2.mono, hm2.mono, (by rw [List.length_append]; exact ho29), (by rw [show cr (done ++ [(a1.1, a1.2 + k * b1.2)]) = cr done ++ [tm (a1.1, a1.2 + k * b1.2)] by simp [cr]]; exact hcs.mono.snoc rfl ⟨_, _, rfl, hcz, hmz.mono⟩), (by rw [hmg, hstep, keep_pos hnz, List.append_assoc]), (by simp at hsz ⊢; omega), (fun t ht => hbl t (by simp [ht])), (fun t ht => hbm t (by simp [ht])), (by rw [List.length_append]; repeat' first | exact List.Sublist.refl _ | apply List.Sublist.cons_cons | apply List.Sublist.append (List.Sublist.refl _) | apply List.Sublist.cons)⟩, by simp only [List.length_cons, List.length_nil]; omega, inferInstance⟩
          | exact ⟨(l, m, done, xs, pv, cv, _, _, _, _, Lb), rfl, ⟨rfl, rfl, rfl, trivial⟩, trivial, ⟨hl2.mono, hm2.mono, ho, hcs.mono, (by rw [hmg, hstep, keep_zero hnz, List.nil_append]), (by simp at hsz ⊢; omega), (fun t ht => hbl t (by simp [ht])), (fun t ht => hbm t (by simp [ht])), (by repeat' first | exact List.Sublist.refl _ | apply List.Sublist.cons_cons | apply List.Sublist.append (List.Sublist.refl _) | apply List.Sublist.cons)⟩, by simp only [List.length_cons, List.length_nil]; omega, inferInstance⟩
    ·
      have hl2 := hl
      have hm2 := Sls.drop (k := 1) hm (by simp)
      have hyv : IntAt h1 (.agg ⟨[.bool (decide (b1.2 < 0)), .slice qy (limbs b1.2.natAbs).length ny]⟩) b1.2 := ⟨_, rfl, hmy⟩
      have fyv : b1.2.natAbs < 2147483648 := hbm b1 (by simp)
      have htv := IntAt.zero h1
      have ftv : (0 : Int).natAbs < 2147483648 := by decide
      have hstep := mergeL_gt k a1 b1 l m q1
      refine J.drawA [] ?_
      refine JD.load 0 (by kernel_rfl) rfl trivial (q_ld rfl inferInstance rfl) ?_
      refine JD.calc 1 (by kernel_rfl) rfl trivial ss_sub (q_len rfl) ?_
      refine JD.calc 2 (by kernel_rfl) rfl trivial ss_sub (q_eql rfl rfl) ?_
      first | refine JD.calc 3 (by kernel_rfl) rfl trivial ss_sub (q_mvv (v := .bool _) rfl) ?_ | refine JD.calc 3 (by kernel_rfl) rfl trivial ss_sub (q_mv) ?_
      refine JD.load 4 (by kernel_rfl) rfl ⟨_, rfl, (congrArg Value.bool (decide_eq_false (by rw [List.length_cons]; omega)))⟩ (q_ld rfl inferInstance rfl) ?_
      refine JD.calc 5 (by kernel_rfl) rfl ⟨_, rfl, (congrArg Value.bool (decide_eq_false (by rw [List.length_cons]; omega)))⟩ ss_sub (q_len rfl) ?_
      refine JD.calc 6 (by kernel_rfl) rfl ⟨_, rfl, (congrArg Value.bool (decide_eq_false (by rw [List.length_cons]; omega)))⟩ ss_sub (q_gtr rfl rfl) ?_
      first | refine JD.calc 7 (by kernel_rfl) rfl ⟨_, rfl, (congrArg Value.bool (decide_eq_false (by rw [List.length_cons]; omega)))⟩ ss_sub (q_mvv (v := .bool _) rfl) ?_ | refine JD.calc 7 (by kernel_rfl) rfl ⟨_, rfl, (congrArg Value.bool (decide_eq_false (by rw [List.length_cons]; omega)))⟩ ss_sub (q_mv) ?_
      refine JD.load 8 (by kernel_rfl) rfl ⟨_, rfl, (congrArg Value.bool (decide_eq_true (by rw [List.length_cons]; omega)))⟩ (q_ld rfl inferInstance rfl) ?_
      refine JD.calc 9 (by kernel_rfl) rfl ⟨_, rfl, (congrArg Value.bool (decide_eq_true (by rw [List.length_cons]; omega)))⟩ ss_sub (q_ia rfl rfl (by rw [List.length_cons]; omega)) ?_
      refine JD.calc 10 (by kernel_rfl) rfl ⟨_, rfl, (congrArg Value.bool (decide_eq_true (by rw [List.length_cons]; omega)))⟩ ss_sub (q_fa rfl) ?_
      refine JD.load 11 (by kernel_rfl) rfl ⟨_, rfl, (congrArg Value.bool (decide_eq_true (by rw [List.length_cons]; omega)))⟩ (q_ldf rfl hcx0) ?_
      refine JD.load 12 (by kernel_rfl) rfl ⟨_, rfl, (congrArg Value.bool (decide_eq_true (by rw [List.length_cons]; omega)))⟩ (q_ld rfl inferInstance rfl) ?_
      refine JD.calc 13 (by kernel_rfl) rfl ⟨_, rfl, (congrArg Value.bool (decide_eq_true (by rw [List.length_cons]; omega)))⟩ ss_sub (q_ia rfl rfl (by rw [List.length_cons]; omega)) ?_
      refine JD.calc 14 (by kernel_rfl) rfl ⟨_, rfl, (congrArg Value.bool (decide_eq_true (by rw [List.length_cons]; omega)))⟩ ss_sub (q_fa rfl) ?_
      refine JD.load 15 (by kernel_rfl) rfl ⟨_, rfl, (congrArg Value.bool (decide_eq_true (by rw [List.length_cons]; omega)))⟩ (q_ldf rfl hcy0) ?_
      refine JD.calc 16 (by kernel_rfl) rfl ⟨_, rfl, (congrArg Value.bool (decide_eq_true (by rw [List.length_cons]; omega)))⟩ ss_sub (q_leq rfl rfl) ?_
      first | refine JD.calc 17 (by kernel_rfl) rfl ⟨_, rfl, (congrArg Value.bool (decide_eq_false (by rw [List.length_cons]; omega)))⟩ ss_sub (q_pickTv (v := .bool _) rfl (decide_eq_true (by rw [List.length_cons]; omega)) rfl) ?_ | refine JD.calc 17 (by kernel_rfl) rfl ⟨_, rfl, (congrArg Value.bool (decide_eq_false (by rw [List.length_cons]; omega)))⟩ ss_sub (q_pickT rfl (decide_eq_true (by rw [List.length_cons]; omega))) ?_
      first | refine JD.calc 18 (by kernel_rfl) rfl trivial ss_sub (q_pickFv (v := .bool _) rfl (decide_eq_false (by rw [List.length_cons]; omega)) rfl) ?_ | refine JD.calc 18 (by kernel_rfl) rfl trivial ss_sub (q_pickF rfl (decide_eq_false (by rw [List.length_cons]; omega))) ?_
      first | refine JD.calc 19 (by kernel_rfl) rfl trivial ss_sub (q_asv (v := .bool _) rfl) ?_ | refine JD.calc 19 (by kernel_rfl) rfl trivial ss_sub (q_as) ?_
      refine JD.done (by kernel_rfl) ?_ _
      refine J.seq ?_
      refine J.drawA [] ?_
      refine JD.load 0 (by kernel_rfl) rfl trivial (q_ld rfl inferInstance rfl) ?_
      refine JD.calc 1 (by kernel_rfl) rfl trivial ss_sub (q_len rfl) ?_
      refine JD.calc 2 (by kernel_rfl) rfl trivial ss_sub (q_eql rfl rfl) ?_
      first | refine JD.calc 3 (by kernel_rfl) rfl trivial ss_sub (q_mvv (v := .bool _) rfl) ?_ | refine JD.calc 3 (by kernel_rfl) rfl trivial ss_sub (q_mv) ?_
      refine JD.load 4 (by kernel_rfl) rfl ⟨_, rfl, (congrArg Value.bool (decide_eq_false (by rw [List.length_cons]; omega)))⟩ (q_ld rfl inferInstance rfl) ?_
      refine JD.calc 5 (by kernel_rfl) rfl ⟨_, rfl, (congrArg Value.bool (decide_eq_false (by rw [List.length_cons]; omega)))⟩ ss_sub (q_len rfl) ?_
      refine JD.calc 6 (by kernel_rfl) rfl ⟨_, rfl, (congrArg Value.bool (decide_eq_false (by rw [List.length_cons]; omega)))⟩ ss_sub (q_gtr rfl rfl) ?_
      first | refine JD.calc 7 (by kernel_rfl) rfl ⟨_, rfl, (congrArg Value.bool (decide_eq_false (by rw [List.length_cons]; omega)))⟩ ss_sub (q_mvv (v := .bool _) rfl) ?_ | refine JD.calc 7 (by kernel_rfl) rfl ⟨_, rfl, (congrArg Value.bool (decide_eq_false (by rw [List.length_cons]; omega)))⟩ ss_sub (q_mv) ?_
      refine JD.load 8 (by kernel_rfl) rfl ⟨_, rfl, (congrArg Value.bool (decide_eq_true (by rw [List.length_cons]; omega)))⟩ (q_ld rfl inferInstance rfl) ?_
      refine JD.calc 9 (by kernel_rfl) rfl ⟨_, rfl, (congrArg Value.bool (decide_eq_true (by rw [List.length_cons]; omega)))⟩ ss_sub (q_ia rfl rfl (by rw [List.length_cons]; omega)) ?_
      refine JD.calc 10 (by kernel_rfl) rfl ⟨_, rfl, (congrArg Value.bool (decide_eq_true (by rw [List.length_cons]; omega)))⟩ ss_sub (q_fa rfl) ?_
      refine JD.load 11 (by kernel_rfl) rfl ⟨_, rfl, (congrArg Value.bool (decide_eq_true (by rw [List.length_cons]; omega)))⟩ (q_ldf rfl hcy0) ?_
      refine JD.load 12 (by kernel_rfl) rfl ⟨_, rfl, (congrArg Value.bool (decide_eq_true (by rw [List.length_cons]; omega)))⟩ (q_ld rfl inferInstance rfl) ?_
      refine JD.calc 13 (by kernel_rfl) rfl ⟨_, rfl, (congrArg Value.bool (decide_eq_true (by rw [List.length_cons]; omega)))⟩ ss_sub (q_ia rfl rfl (by rw [List.length_cons]; omega)) ?_
      refine JD.calc 14 (by kernel_rfl) rfl ⟨_, rfl, (congrArg Value.bool (decide_eq_true (by rw [List.length_cons]; omega)))⟩ ss_sub (q_fa rfl) ?_
      refine JD.load 15 (by kernel_rfl) rfl ⟨_, rfl, (congrArg Value.bool (decide_eq_true (by rw [List.length_cons]; omega)))⟩ (q_ldf rfl hcx0) ?_
      refine JD.calc 16 (by kernel_rfl) rfl ⟨_, rfl, (congrArg Value.bool (decide_eq_true (by rw [List.length_cons]; omega)))⟩ ss_sub (q_leq rfl rfl) ?_
      first | refine JD.calc 17 (by kernel_rfl) rfl ⟨_, rfl, (congrArg Value.bool (decide_eq_false (by rw [List.length_cons]; omega)))⟩ ss_sub (q_pickTv (v := .bool _) rfl (decide_eq_true (by rw [List.length_cons]; omega)) rfl) ?_ | refine JD.calc 17 (by kernel_rfl) rfl ⟨_, rfl, (congrArg Value.bool (decide_eq_false (by rw [List.length_cons]; omega)))⟩ ss_sub (q_pickT rfl (decide_eq_true (by rw [List.length_cons]; omega))) ?_
      first | refine JD.calc 18 (by kernel_rfl) rfl trivial ss_sub (q_pickFv (v := .bool _) rfl (decide_eq_false (by rw [List.length_cons]; omega)) rfl) ?_ | refine JD.calc 18 (by kernel_rfl) rfl trivial ss_sub (q_pickF rfl (decide_eq_false (by rw [List.length_cons]; omega))) ?_
      first | refine JD.calc 19 (by kernel_rfl) rfl trivial ss_sub (q_asv (v := .bool _) rfl) ?_ | refine JD.calc 19 (by kernel_rfl) rfl trivial ss_sub (q_as) ?_
      refine JD.done (by kernel_rfl) ?_ _
      refine J.seq ?_
      refine J.seq ?_
      refine J.region ?_
      first | refine o_q (q_mvv (v := .bool _) rfl) ?_ | refine o_q (q_mv) ?_
      refine JL.nil ?_
      refine J.condT rfl (decide_eq_true (by show b1.1 ≤ a1.1; omega)) ?_
      refine J.draw ([(b3, row 26 [.slice (some ⟨ky, oy, none⟩) (b1 :: m).length cm])]) [13] ?_
      refine JD.load 0 (by kernel_rfl) rfl trivial (q_ld rfl inferInstance rfl) ?_
      refine JD.calc 1 (by kernel_rfl) rfl trivial ss_sub (q_ia rfl rfl (by rw [List.length_cons]; omega)) ?_
      refine JD.calc 2 (by kernel_rfl) rfl trivial ss_sub (q_fa rfl) ?_
      refine JD.load 3 (by kernel_rfl) rfl trivial (q_ldf rfl hcy0) ?_
      refine JD.load 4 (by kernel_rfl) rfl trivial (q_ld rfl inferInstance rfl) ?_
      refine JD.calc 5 (by kernel_rfl) rfl trivial ss_sub (q_ia rfl rfl (by rw [List.length_cons]; omega)) ?_
      refine JD.calc 6 (by kernel_rfl) rfl trivial ss_sub (q_fa rfl) ?_
      refine JD.load 7 (by kernel_rfl) rfl trivial (q_ldfa rfl hcy1) ?_
      refine JD.load 8 (by kernel_rfl) rfl trivial (q_ld rfl inferInstance rfl) ?_
      refine JD.calc 9 (by kernel_rfl) rfl trivial ss_sub (q_slL rfl rfl (by rw [List.length_cons]; omega)) ?_
      refine JD.calc 10 (by kernel_rfl) rfl trivial ss_sub (q_fa rfl) ?_
      refine JD.one 11 (by kernel_rfl) ?_
      refine JX.eff rfl rfl trivial ?_
      first | refine o_st1 (v := .int _ _) rfl rfl rfl inferInstance (by first | decide | simp) ?_ | refine o_st1 rfl rfl rfl inferInstance (by first | decide | simp) ?_
      refine JL.nil ⟨rfl, inferInstance, inferInstance, ?_⟩
      refine JD.one 12 (by kernel_rfl) ?_
      refine JX.eff rfl rfl trivial ?_
      refine o_stw (vs := [_, _]) rfl rfl rfl inferInstance rfl rfl ?_
      refine JL.nil ⟨rfl, inferInstance, inferInstance, ?_⟩
      refine JD.one 13 (by kernel_rfl) ?_
      refine JX.mut rfl rfl trivial ?_
      first | refine o_st1 (v := .slice _ _ _) rfl rfl rfl inferInstance (by first | decide | simp) ?_ | refine o_st1 rfl rfl rfl inferInstance (by first | decide | simp) ?_
      refine JL.nil ⟨rfl, ?_⟩
      refine JD.done (by kernel_rfl) ?_ _
      refine J.seq ?_
      refine J.seq ?_
      refine J.region ?_
      first | refine o_q (q_mvv (v := .bool _) rfl) ?_ | refine o_q (q_mv) ?_
      refine JL.nil ?_
      refine J.condF rfl (decide_eq_false (by show ¬ a1.1 ≤ b1.1; omega)) ?_
      refine J.skip ?_
      refine J.seq ?_
      refine J.region ?_
      first | refine o_q (q_mvv (v := .func _ _ _) rfl) ?_ | refine o_q (q_mv) ?_
      refine o_q (q_lda (vs := [_, _, _]) rfl inferInstance ⟨rfl, rfl, rfl, trivial⟩) ?_
      refine o_q (q_lda (vs := [_, _]) rfl inferInstance ⟨rfl, rfl, trivial⟩) ?_
      refine o_yield rfl hOB htm inferInstance rfl rfl ?_
      refine J.seq ?_
      refine J.region ?_
      refine o_al (fun b8 => ?_)
      refine o_stw (vs := [_, _, _]) rfl rfl rfl inferInstance rfl rfl ?_
      refine JL.nil ?_
      refine J.region ?_
      refine o_al (fun b9 => ?_)
      refine o_stw (vs := [_, _]) rfl rfl rfl inferInstance rfl rfl ?_
      refine JL.nil ?_
      refine ⟨rfl, _, inferInstance, ?_⟩
      refine J.block ?_
      refine J.seq ?_
      refine J.drawA [7] ?_
      refine JD.calc 0 (by kernel_rfl) rfl trivial ss_sub (q_fa rfl) ?_
      refine JD.load 1 (by kernel_rfl) rfl trivial (q_lda (vs := [_, _]) rfl inferInstance ⟨rfl, rfl, trivial⟩) ?_
      refine JD.load 2 (by kernel_rfl) rfl trivial (q_lda (vs := [_, _]) rfl inferInstance ⟨rfl, rfl, trivial⟩) ?_
      refine JD.load 3 (by kernel_rfl) rfl trivial (q_lda (vs := [_, _]) rfl inferInstance ⟨rfl, rfl, trivial⟩) ?_
      refine JD.one 4 (by kernel_rfl) ?_
      refine JX.eff rfl rfl trivial ?_
      refine o_call (mul_fn hk2.mono hyv.mono (fit64 (by omega)) (fit64 (by omega))) (fun v19 h19 s19 hr19 => ?_)
      have hky := Nat.mul_le_mul (Nat.le_of_lt_succ hkk) (Nat.le_of_lt_succ fyv)
      rw [← Int.natAbs_mul] at hky
      have hky2 := Int.natAbs_add_le
      refine JL.nil ⟨rfl, inferInstance, inferInstance, ?_⟩
      refine JD.one 5 (by kernel_rfl) ?_
      refine JX.eff rfl rfl trivial ?_
      refine o_call (add_fn htv.mono hr19.mono (fit64 (by omega)) (fit64 (by omega))) (fun v20 h20 s20 hr20 => ?_)
      obtain ⟨pz, cz, rfl, hcz, hmz⟩ := hr20.out
      refine JL.nil ⟨rfl, inferInstance, inferInstance, ?_⟩
      refine JD.calc 6 (by kernel_rfl) rfl trivial ss_sub (q_fa rfl) ?_
      refine JD.one 7 (by kernel_rfl) ?_
      refine JX.mut rfl rfl trivial ?_
      refine o_sta (vs := [_, _]) rfl rfl rfl inferInstance rfl (by first | decide | simp) ?_
      refine JL.nil ⟨rfl, ?_⟩
      refine JD.done (by kernel_rfl) ?_ _
      refine J.seq ?_
      refine J.region ?_
      refine o_q (q_fa rfl) ?_
      refine o_q (q_lda (vs := [_, _]) rfl inferInstance ⟨rfl, rfl, trivial⟩) ?_
      refine o_call (sign_fn ⟨_, rfl, hmz.mono⟩ (Nat.le_trans (fit64 (by have := Int.natAbs_add_le; omega)) (by decide))) (fun v24 h24 s24 e24 => ?_)
      subst e24
      refine o_q (q_neq rfl rfl) ?_
      refine JL.nil ?_
      refine J.condD rfl (fun c2 => ?_) (fun c2 => ?_)
      ·
        have hnz := fun e => c2 ((sgn_zero _).2 e)
        refine J.region ?_
        refine o_q (q_ld rfl inferInstance rfl) ?_
        refine o_q (q_lda (vs := [_, _, _]) rfl inferInstance ⟨rfl, rfl, rfl, trivial⟩) ?_
        first | refine o_bs [.int _ _, .bool _, .slice _ _ _] (by decide) rfl (fun b28 => ?_) | refine o_bs [_, _, _] (by decide) rfl (fun b28 => ?_)
        refine o_app (m := 1) rfl rfl ho inferInstance (src_own inferInstance (LookN.all _) rfl (by simp [plain])) (by omega) (fun v29 L29 ho29 => ?_)
        obtain ⟨p29, c29, rfl⟩ := ho29.out
        first | refine o_st1 (v := .slice _ _ _) rfl rfl rfl inferInstance (by first | decide | simp) ?_ | refine o_st1 rfl rfl rfl inferInstance (by first | decide | simp) ?_
        refine JL.nil ?_
        refine ⟨rfl, _, inferInstance, ?_⟩
        refine o_q (q_not rfl) ?_
        refine JL.nil ?_
        refine J.condF rfl rfl ?_
        refine J.skip ?_
        first
          | exact ⟨(a1 :: l, m, done ++ [(b1.1, 0 + k * b1.2)], _, p29, c29, _, _, _, _, L29), rfl, ⟨rfl, rfl, rfl, trivial⟩, trivial, ⟨hl2.mono, hm2.mono, (by rw [List.length_append]; exact ho29), (by rw [show cr (done ++ [(b1.1, 0 + k * b1.2)]) = cr done ++ [tm (b1.1, 0 + k * b1.2)] by simp [cr]]; exact hcs.mono.snoc rfl ⟨_, _, rfl, hcz, hmz.mono⟩), (by rw [hmg, hstep, keep_pos hnz, List.append_assoc]), (by simp at hsz ⊢; omega), (fun t ht => hbl t (by simp [ht])), (fun t ht => hbm t (by simp [ht])), (by rw [List.length_append]; repeat' first | exact List.Sublist.refl _ | apply List.Sublist.cons_cons | apply List.Sublist.append (List.Sublist.refl _) | apply List.Sublist.cons)⟩, by simp only [List.length_cons, List.length_nil]; omega, inferInstance⟩
          | exact ⟨(a1 :: l, m, done, xs, pv, cv, _, _, _, _, Lb), rfl, ⟨rfl, rfl, rfl, trivial⟩, trivial, ⟨hl2.mono, hm2.mono, ho, hcs.mono, (by rw [hmg, hstep, keep_zero hnz, List.nil_append]), (by simp at hsz ⊢; omega), (fun t ht => hbl t (by simp [ht])), (fun t ht => hbm t (by simp [ht])), (by repeat' first | exact List.Sublist.refl _ | apply List.Sublist.cons_cons | apply List.Sublist.append (List.Sublist.refl _) | apply List.Sublist.cons)⟩, by simp only [List.length_cons, List.length_nil]; omega, inferInstance⟩
      ·
        have hnz := (sgn_zero _).1 (Classical.not_not.1 c2)
        refine J.skip ?_
        refine ⟨rfl, _, inferInstance, ?_⟩
        refine o_q (q_not rfl) ?_
        refine JL.nil ?_
        refine J.condF rfl rfl ?_
        refine J.skip ?_
        first
          | exact ⟨(a1 :: l, m, done ++ [(b1.1, 0 + k * b1.2)], _, p29, c29, _, _, _, _, L29), rfl, ⟨rfl, rfl, rfl, trivial⟩, trivial, ⟨hl2.mono, hm2.mono, (by rw [List.length_append]; exact ho29), (by rw [show cr (done ++ [(b1.1, 0 + k * b1.2)]) = cr done ++ [tm (b1.1, 0 + k * b1.2)] by simp [cr]]; exact hcs.mono.snoc rfl ⟨_, _, rfl, hcz, hmz.mono⟩), (by rw [hmg, hstep, keep_pos hnz, List.append_assoc]), (by simp at hsz ⊢; omega), (fun t ht => hbl t (by simp [ht])), (fun t ht => hbm t (by simp [ht])), (by rw [List.length_append]; repeat' first | exact List.Sublist.refl _ | apply List.Sublist.cons_cons | apply List.Sublist.append (List.Sublist.refl _) | apply List.Sublist.cons)⟩, by simp only [List.length_cons, List.length_nil]; omega, inferInstance⟩
          | exact ⟨(a1 :: l, m, done, xs, pv, cv, _, _, _, _, Lb), rfl, ⟨rfl, rfl, rfl, trivial⟩, trivial, ⟨hl2.mono, hm2.mono, ho, hcs.mono, (by rw [hmg, hstep, keep_zero hnz, List.nil_append]), (by simp at hsz ⊢; omega), (fun t ht => hbl t (by simp [ht])), (fun t ht => hbm t (by simp [ht])), (by repeat' first | exact List.Sublist.refl _ | apply List.Sublist.cons_cons | apply List.Sublist.append (List.Sublist.refl _) | apply List.Sublist.cons)⟩, by simp only [List.length_cons, List.length_nil]; omega, inferInstance⟩
end Go.Z
end
section
set_option linter.unusedSimpArgs false
set_option linter.unusedVariables false
/- The functions of the sparse matrices, walked: refusals, From. -/
set_option linter.unusedSimpArgs false
set_option linter.unusedVariables false
namespace Go.Z
open Go Go.RowKit Go.Proofs
/-- The value of an empty matrix. -/
abbrev noSparse : Value := .agg ⟨[.int .i64 0, .int .i64 0, .slice none 0 0]⟩
/-- The stored elements of a row. -/
def sprow (v : List Int) : List (Int × Int) := (v.zipIdx.filter (fun p => decide (p.1 ≠ 0))).map fun p => ((p.2 : Int), p.1)
theorem sprow_snoc (v : List Int) (z : Int) : sprow (v ++ [z]) = sprow v ++ keep ((v.length : Int), z) := by
  unfold sprow
  rw [List.zipIdx_append, List.filter_append, List.map_append]
  congr 1
  by_cases h : z = 0
  · rw [keep_zero h]; simp [h]
  · rw [keep_pos h]; simp [h]
theorem sprow_succ {v : List Int} {j : Nat} {z : Int} (h : v[j]? = some z) : sprow (v.take (j + 1)) = sprow (v.take j) ++ keep ((j : Int), z) := by
  have hj : j < v.length := (List.getElem?_eq_some_iff.1 h).1
  rw [List.take_add_one, h]
  simp only [Option.toList]
  rw [sprow_snoc, List.length_take, Nat.min_eq_left (Nat.le_of_lt hj)]
theorem sprow_len (v : List Int) : (sprow v).length ≤ v.length := by
  unfold sprow
  rw [List.length_map]
  exact Nat.le_trans (List.length_filter_le _ _) (by simp)
theorem insert_err1 {h : Heap} {rows cols i : Int} {p pr : Option Addr} {n c nr kr : Nat} (hi : i < 0 ∨ (0 ≤ i ∧ rows < i)) :
    Fn Try.prog 23 #[.agg ⟨[.int .i64 rows, .int .i64 cols, .slice p n c]⟩, .int .i64 i, .slice pr nr kr] h fun r _ => r = .tuple ⟨[noSparse, .int .i64 1]⟩ := by
  refine Fn.intro (args := [_, _, _]) Try.func23 rfl rfl (Nat.le_of_ble_eq_true rfl) fun w => ?_
  refine J.seq ?_
  refine J.region ?_
  first | refine o_bx (v := .agg _) rfl rfl (fun b3 => ?_) | refine o_bx rfl rfl (fun b3 => ?_)
  refine o_al (fun b6 => ?_)
  refine o_q (q_as) ?_
  refine JL.nil ?_
  refine J.seq ?_
  refine J.block ?_
  refine J.seq ?_
  rcases hi with q1 | ⟨q1, q2⟩
  ·
    refine J.region ?_
    first | refine o_q (q_mvv (v := .int _ _) rfl) ?_ | refine o_q (q_mv) ?_
    refine o_q (q_lss rfl rfl) ?_
    first | refine o_q (q_mvv (v := .bool _) rfl) ?_ | refine o_q (q_mv) ?_
    refine JL.guardF rfl rfl (decide_eq_true q1) rfl ?_
    refine JL.guardF rfl rfl (decide_eq_true q1) rfl ?_
    refine JL.guardF rfl rfl (decide_eq_true q1) rfl ?_
    refine JL.guardF rfl rfl (decide_eq_true q1) rfl ?_
    refine o_q (q_pickT rfl (decide_eq_true q1)) ?_
    first | refine o_q (q_asv (v := .bool _) rfl) ?_ | refine o_q (q_as) ?_
    refine JL.nil ?_
    refine J.condT rfl rfl ?_
    refine J.seq ?_
    refine J.region ?_
    first | refine o_q (q_bd [.int _ _, .int _ _, .slice _ _ _] rfl) ?_ | refine o_q (q_bd [_, _, _] rfl) ?_
    refine o_stw (vs := [_, _, _]) rfl rfl rfl inferInstance rfl rfl ?_
    refine o_q (q_as) ?_
    refine JL.nil ?_
    refine J.ret ?_
    exact ret_ok (fn := Try.f23) rfl (.agg rfl inferInstance inferInstance (.tmp rfl .nil)) rfl
  ·
    refine J.region ?_
    first | refine o_q (q_mvv (v := .int _ _) rfl) ?_ | refine o_q (q_mv) ?_
    refine o_q (q_lss rfl rfl) ?_
    first | refine o_q (q_mvv (v := .bool _) rfl) ?_ | refine o_q (q_mv) ?_
    refine JL.guardT rfl rfl (decide_eq_false (by omega)) ?_
    first | refine o_q (q_mvv (v := .int _ _) rfl) ?_ | refine o_q (q_mv) ?_
    refine JL.guardT rfl rfl (decide_eq_false (by omega)) ?_
    refine o_q (q_fa rfl) ?_
    refine JL.guardT rfl rfl (decide_eq_false (by omega)) ?_
    refine o_q (q_ld rfl inferInstance rfl) ?_
    refine JL.guardT rfl rfl (decide_eq_false (by omega)) ?_
    refine o_q (q_gtr rfl rfl) ?_
    first | refine o_q (q_pickFv (v := .bool _) rfl (decide_eq_false (by omega)) rfl) ?_ | refine o_q (q_pickF rfl (decide_eq_false (by omega))) ?_
    first | refine o_q (q_asv (v := .bool _) rfl) ?_ | refine o_q (q_as) ?_
    refine JL.nil ?_
    refine J.condT rfl (decide_eq_true q2) ?_
    refine J.seq ?_
    refine J.region ?_
    first | refine o_q (q_bd [.int _ _, .int _ _, .slice _ _ _] rfl) ?_ | refine o_q (q_bd [_, _, _] rfl) ?_
    refine o_stw (vs := [_, _, _]) rfl rfl rfl inferInstance rfl rfl ?_
    refine o_q (q_as) ?_
    refine JL.nil ?_
    refine J.ret ?_
    exact ret_ok (fn := Try.f23) rfl (.agg rfl inferInstance inferInstance (.tmp rfl .nil)) rfl
theorem insert_err2 {h : Heap} {rows cols i : Int} {p : Option Addr} {n c : Nat} {vr : Value} {l : List RT} {t : RT} (hr : RowAt h vr l) (hi : 0 ≤ i ∧ i ≤ rows) (hl : 0 < l.length) (hl2 : l.length ≤ 1000000) (ht : l[l.length - 1]? = some t) (hc : cols ≤ t.1) :
    Fn Try.prog 23 #[.agg ⟨[.int .i64 rows, .int .i64 cols, .slice p n c]⟩, .int .i64 i, vr] h fun r _ => r = .tuple ⟨[noSparse, .int .i64 50]⟩ := by
  obtain ⟨pr, kr, rfl, hkr⟩ := hr.out
  refine Fn.intro (args := [_, _, _]) Try.func23 rfl rfl (Nat.le_of_ble_eq_true rfl) fun w => ?_
  refine J.seq ?_
  refine J.region ?_
  first | refine o_bx (v := .agg _) rfl rfl (fun b3 => ?_) | refine o_bx rfl rfl (fun b3 => ?_)
  refine o_al (fun b6 => ?_)
  refine o_q (q_as) ?_
  refine JL.nil ?_
  refine J.seq ?_
  refine J.block ?_
  refine J.seq ?_
  refine J.region ?_
  first | refine o_q (q_mvv (v := .int _ _) rfl) ?_ | refine o_q (q_mv) ?_
  refine o_q (q_lss rfl rfl) ?_
  first | refine o_q (q_mvv (v := .bool _) rfl) ?_ | refine o_q (q_mv) ?_
  refine JL.guardT rfl rfl (decide_eq_false (by omega)) ?_
  first | refine o_q (q_mvv (v := .int _ _) rfl) ?_ | refine o_q (q_mv) ?_
  refine JL.guardT rfl rfl (decide_eq_false (by omega)) ?_
  refine o_q (q_fa rfl) ?_
  refine JL.guardT rfl rfl (decide_eq_false (by omega)) ?_
  refine o_q (q_ld rfl inferInstance rfl) ?_
  refine JL.guardT rfl rfl (decide_eq_false (by omega)) ?_
  refine o_q (q_gtr rfl rfl) ?_
  first | refine o_q (q_pickFv (v := .bool _) rfl (decide_eq_false (by omega)) rfl) ?_ | refine o_q (q_pickF rfl (decide_eq_false (by omega))) ?_
  first | refine o_q (q_asv (v := .bool _) rfl) ?_ | refine o_q (q_as) ?_
  refine JL.nil ?_
  refine J.condF rfl (decide_eq_false (by omega)) ?_
  refine J.seq ?_
  obtain ⟨kx, ox, qx, nx, rfl, hcx0, hcx1, hcx, hnx, hmx⟩ := Sls.term hr ht
  refine J.drawA [] ?_
  first | refine JD.calc 0 (by kernel_rfl) rfl trivial ss_sub (q_mvv (v := .slice _ _ _) rfl) ?_ | refine JD.calc 0 (by kernel_rfl) rfl trivial ss_sub (q_mv) ?_
  refine JD.calc 1 (by kernel_rfl) rfl trivial ss_sub (q_len rfl) ?_
  refine JD.calc 2 (by kernel_rfl) rfl trivial ss_sub (q_gtr rfl rfl) ?_
  first | refine JD.calc 3 (by kernel_rfl) rfl trivial ss_sub (q_mvv (v := .bool _) rfl) ?_ | refine JD.calc 3 (by kernel_rfl) rfl trivial ss_sub (q_mv) ?_
  first | refine JD.calc 4 (by kernel_rfl) rfl ⟨_, rfl, (congrArg Value.bool (decide_eq_true (by omega)))⟩ ss_sub (q_mvv (v := .slice _ _ _) rfl) ?_ | refine JD.calc 4 (by kernel_rfl) rfl ⟨_, rfl, (congrArg Value.bool (decide_eq_true (by omega)))⟩ ss_sub (q_mv) ?_
  first | refine JD.calc 5 (by kernel_rfl) rfl ⟨_, rfl, (congrArg Value.bool (decide_eq_true (by omega)))⟩ ss_sub (q_mvv (v := .slice _ _ _) rfl) ?_ | refine JD.calc 5 (by kernel_rfl) rfl ⟨_, rfl, (congrArg Value.bool (decide_eq_true (by omega)))⟩ ss_sub (q_mv) ?_
  refine JD.calc 6 (by kernel_rfl) rfl ⟨_, rfl, (congrArg Value.bool (decide_eq_true (by omega)))⟩ ss_sub (q_len rfl) ?_
  refine JD.calc 7 (by kernel_rfl) rfl ⟨_, rfl, (congrArg Value.bool (decide_eq_true (by omega)))⟩ ss_sub (q_sub (c := ((l.length - 1 : Nat) : Int)) rfl rfl (by rw [wi64 (by omega)]; omega)) ?_
  refine JD.calc 8 (by kernel_rfl) rfl ⟨_, rfl, (congrArg Value.bool (decide_eq_true (by omega)))⟩ ss_sub (q_ia rfl rfl (by omega)) ?_
  refine JD.calc 9 (by kernel_rfl) rfl ⟨_, rfl, (congrArg Value.bool (decide_eq_true (by omega)))⟩ ss_sub (q_fa rfl) ?_
  refine JD.load 10 (by kernel_rfl) rfl ⟨_, rfl, (congrArg Value.bool (decide_eq_true (by omega)))⟩ (q_ldf rfl hcx0) ?_
  refine JD.calc 11 (by kernel_rfl) rfl ⟨_, rfl, (congrArg Value.bool (decide_eq_true (by omega)))⟩ ss_sub (q_fa rfl) ?_
  refine JD.load 12 (by kernel_rfl) rfl ⟨_, rfl, (congrArg Value.bool (decide_eq_true (by omega)))⟩ (q_ld rfl inferInstance rfl) ?_
  refine JD.calc 13 (by kernel_rfl) rfl ⟨_, rfl, (congrArg Value.bool (decide_eq_true (by omega)))⟩ ss_sub (q_geq rfl rfl) ?_
  first | refine JD.calc 14 (by kernel_rfl) rfl trivial ss_sub (q_pickTv (v := .bool _) rfl (decide_eq_true (by omega)) rfl) ?_ | refine JD.calc 14 (by kernel_rfl) rfl trivial ss_sub (q_pickT rfl (decide_eq_true (by omega))) ?_
  first | refine JD.calc 15 (by kernel_rfl) rfl trivial ss_sub (q_asv (v := .bool _) rfl) ?_ | refine JD.calc 15 (by kernel_rfl) rfl trivial ss_sub (q_as) ?_
  refine JD.done (by kernel_rfl) ?_ _
  refine J.condT rfl (decide_eq_true hc) ?_
  refine J.seq ?_
  refine J.region ?_
  first | refine o_q (q_bd [.int _ _, .int _ _, .slice _ _ _] rfl) ?_ | refine o_q (q_bd [_, _, _] rfl) ?_
  refine o_stw (vs := [_, _, _]) rfl rfl rfl inferInstance rfl rfl ?_
  refine o_q (q_as) ?_
  refine JL.nil ?_
  refine J.ret ?_
  exact ret_ok (fn := Try.f23) rfl (.agg rfl inferInstance inferInstance (.tmp rfl .nil)) rfl
theorem remove_err {h : Heap} {rows cols i : Int} {p : Option Addr} {n c : Nat} (hi : i < 0 ∨ (0 ≤ i ∧ rows ≤ i)) :
    Fn Try.prog 25 #[.agg ⟨[.int .i64 rows, .int .i64 cols, .slice p n c]⟩, .int .i64 i] h fun r _ => r = .tuple ⟨[noSparse, .int .i64 1]⟩ := by
  refine Fn.intro (args := [_, _]) Try.func25 rfl rfl (Nat.le_of_ble_eq_true rfl) fun w => ?_
  refine J.seq ?_
  refine J.region ?_
  first | refine o_bx (v := .agg _) rfl rfl (fun b2 => ?_) | refine o_bx rfl rfl (fun b2 => ?_)
  refine o_al (fun b4 => ?_)
  refine o_q (q_as) ?_
  refine JL.nil ?_
  refine J.seq ?_
  refine J.seq ?_
  rcases hi with q1 | ⟨q1, q2⟩
  ·
    refine J.region ?_
    first | refine o_q (q_mvv (v := .int _ _) rfl) ?_ | refine o_q (q_mv) ?_
    refine o_q (q_lss rfl rfl) ?_
    first | refine o_q (q_mvv (v := .bool _) rfl) ?_ | refine o_q (q_mv) ?_
    refine JL.guardF rfl rfl (decide_eq_true q1) rfl ?_
    refine JL.guardF rfl rfl (decide_eq_true q1) rfl ?_
    refine JL.guardF rfl rfl (decide_eq_true q1) rfl ?_
    refine JL.guardF rfl rfl (decide_eq_true q1) rfl ?_
    refine o_q (q_pickT rfl (decide_eq_true q1)) ?_
    refine JL.nil ?_
    refine J.condT rfl rfl ?_
    refine J.seq ?_
    refine J.region ?_
    first | refine o_q (q_bd [.int _ _, .int _ _, .slice _ _ _] rfl) ?_ | refine o_q (q_bd [_, _, _] rfl) ?_
    refine o_stw (vs := [_, _, _]) rfl rfl rfl inferInstance rfl rfl ?_
    refine o_q (q_as) ?_
    refine JL.nil ?_
    refine J.ret ?_
    exact ret_ok (fn := Try.f25) rfl (.agg rfl inferInstance inferInstance (.tmp rfl .nil)) rfl
  ·
    refine J.region ?_
    first | refine o_q (q_mvv (v := .int _ _) rfl) ?_ | refine o_q (q_mv) ?_
    refine o_q (q_lss rfl rfl) ?_
    first | refine o_q (q_mvv (v := .bool _) rfl) ?_ | refine o_q (q_mv) ?_
    refine JL.guardT rfl rfl (decide_eq_false (by omega)) ?_
    first | refine o_q (q_mvv (v := .int _ _) rfl) ?_ | refine o_q (q_mv) ?_
    refine JL.guardT rfl rfl (decide_eq_false (by omega)) ?_
    refine o_q (q_fa rfl) ?_
    refine JL.guardT rfl rfl (decide_eq_false (by omega)) ?_
    refine o_q (q_ld rfl inferInstance rfl) ?_
    refine JL.guardT rfl rfl (decide_eq_false (by omega)) ?_
    refine o_q (q_geq rfl rfl) ?_
    first | refine o_q (q_pickFv (v := .bool _) rfl (decide_eq_false (by omega)) rfl) ?_ | refine o_q (q_pickF rfl (decide_eq_false (by omega))) ?_
    refine JL.nil ?_
    refine J.condT rfl (decide_eq_true q2) ?_
    refine J.seq ?_
    refine J.region ?_
    first | refine o_q (q_bd [.int _ _, .int _ _, .slice _ _ _] rfl) ?_ | refine o_q (q_bd [_, _, _] rfl) ?_
    refine o_stw (vs := [_, _, _]) rfl rfl rfl inferInstance rfl rfl ?_
    refine o_q (q_as) ?_
    refine JL.nil ?_
    refine J.ret ?_
    exact ret_ok (fn := Try.f25) rfl (.agg rfl inferInstance inferInstance (.tmp rfl .nil)) rfl
theorem mul_err {h : Heap} {rows cols r2 c2 : Int} {p p2 : Option Addr} {n c n2 k2 : Nat} (hi : cols ≠ r2) :
    Fn Try.prog 29 #[.agg ⟨[.int .i64 rows, .int .i64 cols, .slice p n c]⟩, .agg ⟨[.int .i64 r2, .int .i64 c2, .slice p2 n2 k2]⟩] h fun r _ => r = .tuple ⟨[noSparse, .int .i64 50]⟩ := by
  refine Fn.intro (args := [_, _]) Try.func29 rfl rfl (Nat.le_of_ble_eq_true rfl) fun w => ?_
  refine J.seq ?_
  refine J.region ?_
  first | refine o_bx (v := .agg _) rfl rfl (fun b2 => ?_) | refine o_bx rfl rfl (fun b2 => ?_)
  first | refine o_bx (v := .agg _) rfl rfl (fun b3 => ?_) | refine o_bx rfl rfl (fun b3 => ?_)
  refine o_al (fun b4 => ?_)
  refine o_q (q_as) ?_
  refine JL.nil ?_
  refine J.seq ?_
  refine J.seq ?_
  refine J.region ?_
  refine o_q (q_fa rfl) ?_
  refine o_q (q_ld rfl inferInstance rfl) ?_
  refine o_q (q_fa rfl) ?_
  refine o_q (q_ld rfl inferInstance rfl) ?_
  refine o_q (q_neq rfl rfl) ?_
  refine JL.nil ?_
  refine J.condT rfl (decide_eq_true hi) ?_
  refine J.seq ?_
  refine J.region ?_
  first | refine o_q (q_bd [.int _ _, .int _ _, .slice _ _ _] rfl) ?_ | refine o_q (q_bd [_, _, _] rfl) ?_
  refine o_stw (vs := [_, _, _]) rfl rfl rfl inferInstance rfl rfl ?_
  refine o_q (q_as) ?_
  refine JL.nil ?_
  refine J.ret ?_
  exact ret_ok (fn := Try.f29) rfl (.agg rfl inferInstance inferInstance (.tmp rfl .nil)) rfl
theorem times_err {h : Heap} {rows cols : Int} {p p2 : Option Addr} {n c n2 k2 : Nat} (hi : (n2 : Int) ≠ rows) :
    Fn Try.prog 31 #[.slice p2 n2 k2, .agg ⟨[.int .i64 rows, .int .i64 cols, .slice p n c]⟩] h fun r _ => r = .tuple ⟨[.slice none 0 0, .int .i64 50]⟩ := by
  refine Fn.intro (args := [_, _]) Try.func31 rfl rfl (Nat.le_of_ble_eq_true rfl) fun w => ?_
  refine J.seq ?_
  refine J.region ?_
  first | refine o_bx (v := .agg _) rfl rfl (fun b3 => ?_) | refine o_bx rfl rfl (fun b3 => ?_)
  refine o_q (q_as) ?_
  refine o_q (q_as) ?_
  refine JL.nil ?_
  refine J.seq ?_
  refine J.seq ?_
  refine J.region ?_
  first | refine o_q (q_mvv (v := .slice _ _ _) rfl) ?_ | refine o_q (q_mv) ?_
  refine o_q (q_len rfl) ?_
  refine o_q (q_fa rfl) ?_
  refine o_q (q_ld rfl inferInstance rfl) ?_
  refine o_q (q_neq rfl rfl) ?_
  refine JL.nil ?_
  refine J.condT rfl (decide_eq_true hi) ?_
  refine J.seq ?_
  refine J.region ?_
  refine o_q (q_as) ?_
  refine o_q (q_as) ?_
  refine JL.nil ?_
  refine J.ret ?_
  exact ret_ok (fn := Try.f31) rfl (.tmp rfl (.tmp rfl .nil)) rfl
set_option maxHeartbeats 4000000 in
theorem from_fn {h : Heap} {v : Value} {rows cols : Int} {A : List (List Int)} (ha : MatAt h v rows cols A) (hA : A.length ≤ 1000000) (hAr : ∀ r ∈ A, r.length ≤ 1000000) (hF : ∀ r ∈ A, ∀ z ∈ r, Fit z) :
    Fn Try.prog 33 #[v] h fun r h' => SparseAt h' r rows cols (crs (A.map sprow)) := by
  obtain ⟨pA, cA, rfl, hM⟩ := ha
  refine Fn.intro (args := [_]) Try.func33 rfl rfl (Nat.le_of_ble_eq_true rfl) fun w => ?_
  refine J.seq ?_
  refine J.region ?_
  first | refine o_bx (v := .agg _) rfl rfl (fun b1 => ?_) | refine o_bx rfl rfl (fun b1 => ?_)
  refine o_al (fun b2 => ?_)
  refine JL.nil ?_
  refine J.seq ?_
  refine J.region ?_
  refine o_q (q_fa rfl) ?_
  refine o_q (q_ld rfl inferInstance rfl) ?_
  refine o_q (q_fa rfl) ?_
  refine o_q (q_ld rfl inferInstance rfl) ?_
  first | refine o_q (q_bd [.int _ _, .int _ _, .slice _ _ _] rfl) ?_ | refine o_q (q_bd [_, _, _] rfl) ?_
  refine o_al (fun b3 => ?_)
  refine o_stw (vs := [_, _, _]) rfl rfl rfl inferInstance rfl rfl ?_
  refine JL.nil ?_
  -- cut: kept [2, 3], said []
  first | refine J.cutK (α := List Value × Option Addr × Nat × Own) (fun ⟨ys, pL, cL, Lb⟩ h' L' => OwnS 26 1 (.slice pL A.length cL) A.length ys Lb ∧ Cells (One RowAt) 1 h' ys (crs (A.map sprow)) ∧ List.Sublist (Lb ++ [(b3, row 24 [.int .i64 rows, .int .i64 cols, .slice pL A.length cL]), (b2, row 24 [.int .i64 0, .int .i64 0, .slice none 0 0])]) L') [(2, .pointer _), (3, .pointer _)] ⟨rfl, rfl, trivial⟩ (fun _ => []) ?_ ?_ | refine J.cutK (α := List Value × Option Addr × Nat × Own) (fun ⟨ys, pL, cL, Lb⟩ h' L' => OwnS 26 1 (.slice pL A.length cL) A.length ys Lb ∧ Cells (One RowAt) 1 h' ys (crs (A.map sprow)) ∧ List.Sublist (Lb ++ [(b3, row 24 [.int .i64 rows, .int .i64 cols, .slice pL A.length cL]), (b2, row 24 [.int .i64 0, .int .i64 0, .slice none 0 0])]) L') [(2, _), (3, _)] ⟨rfl, rfl, trivial⟩ (fun _ => []) ?_ ?_
  ·
    refine J.seq ?_
    refine J.region ?_
    refine o_q (q_fa rfl) ?_
    refine o_q (q_ld rfl inferInstance rfl) ?_
    refine o_q (q_len rfl) ?_
    refine o_q (q_mv) ?_
    refine JL.nil ?_
    refine J.block ?_
    -- loop 0: kept [2, 3, 15, 16], said [17]
    first | refine J.loopK (α := Nat × List Value × Option Addr × Nat × Own) (fun ⟨i, ys, pL, cL, Lb⟩ h' L' => i ≤ A.length ∧ OwnS 26 1 (.slice pL i cL) i ys Lb ∧ Cells (One RowAt) 1 h' ys (crs ((A.take i).map sprow)) ∧ List.Sublist (Lb ++ [(b3, row 24 [.int .i64 rows, .int .i64 cols, .slice pL i cL]), (b2, row 24 [.int .i64 0, .int .i64 0, .slice none 0 0]), (b1, row 50 [.int .i64 rows, .int .i64 cols, .slice pA A.length cA])]) L') [(2, .pointer _), (3, .pointer _), (15, .slice _ _ _), (16, .int _ _)] ⟨rfl, rfl, rfl, rfl, trivial⟩ (fun ⟨i, ys, pL, cL, Lb⟩ => [(17, .int .i64 (i : Int))]) (fun x => A.length - x.1) ((0, [], none, 0, [])) ⟨by omega, OwnS.nil _ _, Cells.nil, List.Sublist.refl _⟩ ⟨rfl, trivial⟩ ?_ | refine J.loopK (α := Nat × List Value × Option Addr × Nat × Own) (fun ⟨i, ys, pL, cL, Lb⟩ h' L' => i ≤ A.length ∧ OwnS 26 1 (.slice pL i cL) i ys Lb ∧ Cells (One RowAt) 1 h' ys (crs ((A.take i).map sprow)) ∧ List.Sublist (Lb ++ [(b3, row 24 [.int .i64 rows, .int .i64 cols, .slice pL i cL]), (b2, row 24 [.int .i64 0, .int .i64 0, .slice none 0 0]), (b1, row 50 [.int .i64 rows, .int .i64 cols, .slice pA A.length cA])]) L') [(2, _), (3, _), (15, _), (16, _)] ⟨rfl, rfl, rfl, rfl, trivial⟩ (fun ⟨i, ys, pL, cL, Lb⟩ => [(17, .int .i64 (i : Int))]) (fun x => A.length - x.1) ((0, [], none, 0, [])) ⟨by omega, OwnS.nil _ _, Cells.nil, List.Sublist.refl _⟩ ⟨rfl, trivial⟩ ?_
    rintro ⟨i, ys, pL, cL, Lb⟩ σ h1 L1 s1 ⟨hi, ho, hcs, hsub⟩
    refine J.sub hsub ?_
    refine J.seq ?_
    refine J.region ?_
    refine o_q (q_lss rfl rfl) ?_
    refine JL.nil ?_
    refine J.seq ?_
    refine J.condD rfl (fun c0 => ?_) (fun c0 => ?_)
    ·
      obtain ⟨w1, hw⟩ := lt_get (show i < A.length by omega)
      obtain ⟨kr, or, qr, mr, nr, rfl, hcr, hrr⟩ := Sls.row hM hw
      have mw := List.mem_of_getElem? hw
      have wl := hAr w1 mw
      obtain ⟨pw, cw, ew, hcw⟩ := hrr.out
      cases ew
      refine J.skip ?_
      refine J.seq ?_
      refine J.block ?_
      refine J.seq ?_
      refine J.region ?_
      refine o_q (q_ia rfl rfl (by omega)) ?_
      refine o_q (q_ldf rfl hcr) ?_
      first | refine o_q (q_asv (v := .slice _ _ _) rfl) ?_ | refine o_q (q_as) ?_
      refine JL.nil ?_
      refine J.seq ?_
      refine J.region ?_
      refine o_q (q_as) ?_
      refine JL.nil ?_
      -- cut: kept [2, 3, 15, 16, 17], said [6]
      first | refine J.cutK (α := List Value × Option Addr × Nat × Own) (fun ⟨xs, pv, cv, Lv⟩ h' L' => OwnS 71 3 (.slice pv (sprow w1).length cv) (sprow w1).length xs Lv ∧ Cells TermR 3 h' xs (cr (sprow w1)) ∧ List.Sublist (Lv ++ (Lb ++ [(b3, row 24 [.int .i64 rows, .int .i64 cols, .slice pL i cL]), (b2, row 24 [.int .i64 0, .int .i64 0, .slice none 0 0]), (b1, row 50 [.int .i64 rows, .int .i64 cols, .slice (some ⟨kr, or, none⟩) A.length cA])])) L') [(2, .pointer _), (3, .pointer _), (15, .slice _ _ _), (16, .int _ _), (17, .int _ _)] ⟨rfl, rfl, rfl, rfl, rfl, trivial⟩ (fun ⟨xs, pv, cv, Lv⟩ => [(6, .slice pv (sprow w1).length cv)]) ?_ ?_ | refine J.cutK (α := List Value × Option Addr × Nat × Own) (fun ⟨xs, pv, cv, Lv⟩ h' L' => OwnS 71 3 (.slice pv (sprow w1).length cv) (sprow w1).length xs Lv ∧ Cells TermR 3 h' xs (cr (sprow w1)) ∧ List.Sublist (Lv ++ (Lb ++ [(b3, row 24 [.int .i64 rows, .int .i64 cols, .slice pL i cL]), (b2, row 24 [.int .i64 0, .int .i64 0, .slice none 0 0]), (b1, row 50 [.int .i64 rows, .int .i64 cols, .slice (some ⟨kr, or, none⟩) A.length cA])])) L') [(2, _), (3, _), (15, _), (16, _), (17, _)] ⟨rfl, rfl, rfl, rfl, rfl, trivial⟩ (fun ⟨xs, pv, cv, Lv⟩ => [(6, .slice pv (sprow w1).length cv)]) ?_ ?_
      ·
        refine J.seq ?_
        refine J.region ?_
        first | refine o_q (q_mvv (v := .slice _ _ _) rfl) ?_ | refine o_q (q_mv) ?_
        refine o_q (q_len rfl) ?_
        refine o_q (q_mv) ?_
        refine JL.nil ?_
        refine J.block ?_
        -- loop 1: kept [2, 3, 15, 16, 17, 21, 22], said [6, 23]
        first | refine J.loopK (α := Nat × List Value × Option Addr × Nat × Own) (fun ⟨j, xs, pv, cv, Lv⟩ h' L' => j ≤ w1.length ∧ OwnS 71 3 (.slice pv (sprow (w1.take j)).length cv) (sprow (w1.take j)).length xs Lv ∧ Cells TermR 3 h' xs (cr (sprow (w1.take j))) ∧ List.Sublist (Lv ++ (Lb ++ [(b3, row 24 [.int .i64 rows, .int .i64 cols, .slice pL i cL]), (b2, row 24 [.int .i64 0, .int .i64 0, .slice none 0 0]), (b1, row 50 [.int .i64 rows, .int .i64 cols, .slice (some ⟨kr, or, none⟩) A.length cA])])) L') [(2, .pointer _), (3, .pointer _), (15, .slice _ _ _), (16, .int _ _), (17, .int _ _), (21, .slice _ _ _), (22, .int _ _)] ⟨rfl, rfl, rfl, rfl, rfl, rfl, rfl, trivial⟩ (fun ⟨j, xs, pv, cv, Lv⟩ => [(6, .slice pv (sprow (w1.take j)).length cv), (23, .int .i64 (j : Int))]) (fun x => w1.length - x.1) ((0, [], none, 0, [])) ⟨by omega, OwnS.nil _ _, Cells.nil, List.Sublist.refl _⟩ ⟨rfl, rfl, trivial⟩ ?_ | refine J.loopK (α := Nat × List Value × Option Addr × Nat × Own) (fun ⟨j, xs, pv, cv, Lv⟩ h' L' => j ≤ w1.length ∧ OwnS 71 3 (.slice pv (sprow (w1.take j)).length cv) (sprow (w1.take j)).length xs Lv ∧ Cells TermR 3 h' xs (cr (sprow (w1.take j))) ∧ List.Sublist (Lv ++ (Lb ++ [(b3, row 24 [.int .i64 rows, .int .i64 cols, .slice pL i cL]), (b2, row 24 [.int .i64 0, .int .i64 0, .slice none 0 0]), (b1, row 50 [.int .i64 rows, .int .i64 cols, .slice (some ⟨kr, or, none⟩) A.length cA])])) L') [(2, _), (3, _), (15, _), (16, _), (17, _), (21, _), (22, _)] ⟨rfl, rfl, rfl, rfl, rfl, rfl, rfl, trivial⟩ (fun ⟨j, xs, pv, cv, Lv⟩ => [(6, .slice pv (sprow (w1.take j)).length cv), (23, .int .i64 (j : Int))]) (fun x => w1.length - x.1) ((0, [], none, 0, [])) ⟨by omega, OwnS.nil _ _, Cells.nil, List.Sublist.refl _⟩ ⟨rfl, rfl, trivial⟩ ?_
        rintro ⟨j, xs, pv, cv, Lv⟩ σ2 h2 L2 s2 ⟨hj, hov, hcv, hsub2⟩
        refine J.sub hsub2 ?_
        refine J.seq ?_
        refine J.region ?_
        refine o_q (q_lss rfl rfl) ?_
        refine JL.nil ?_
        refine J.seq ?_
        refine J.condD rfl (fun c1 => ?_) (fun c1 => ?_)
        ·
          obtain ⟨z, hz⟩ := lt_get (show j < w1.length by omega)
          obtain ⟨kx, ox, qx, nx, rfl, hcx, hnx, hmx⟩ := Sls.int hrr hz
          have hfz := hF w1 mw z (List.mem_of_getElem? hz)
          have hsl := sprow_len (w1.take j)
          rw [List.length_take] at hsl
          have hst := sprow_succ hz
          refine J.skip ?_
          refine J.seq ?_
          refine J.block ?_
          refine J.seq ?_
          refine J.region ?_
          first | refine o_q (q_mvv (v := .int _ _) rfl) ?_ | refine o_q (q_mv) ?_
          refine o_q (q_ia rfl rfl (by omega)) ?_
          refine o_q (q_ldfa rfl hcx) ?_
          refine o_al (fun b8 => ?_)
          first | refine o_q (q_asv (v := .int _ _) rfl) ?_ | refine o_q (q_as) ?_
          refine o_stw (vs := [_, _]) rfl rfl rfl inferInstance rfl rfl ?_
          refine JL.nil ?_
          refine J.seq ?_
          refine J.region ?_
          refine o_q (q_lda (vs := [_, _]) rfl inferInstance ⟨rfl, rfl, trivial⟩) ?_
          refine o_call (sign_fn ⟨_, rfl, hmx.mono⟩ (Nat.le_trans hfz (by decide))) (fun v29 hv29 sv29 ev29 => ?_)
          subst ev29
          refine o_q (q_neq rfl rfl) ?_
          refine JL.nil ?_
          refine J.condD rfl (fun c2 => ?_) (fun c2 => ?_)
          ·
            have hnz := fun e => c2 ((sgn_zero z).2 e)
            refine J.region ?_
            first | refine o_q (q_mvv (v := .slice _ _ _) rfl) ?_ | refine o_q (q_mv) ?_
            first | refine o_q (q_mvv (v := .int _ _) rfl) ?_ | refine o_q (q_mv) ?_
            refine o_q (q_lda (vs := [_, _]) rfl inferInstance ⟨rfl, rfl, trivial⟩) ?_
            first | refine o_q (q_bd [.int _ _, .bool _, .slice _ _ _] rfl) ?_ | refine o_q (q_bd [_, _, _] rfl) ?_
            first | refine o_bs [.int _ _, .bool _, .slice _ _ _] (by decide) rfl (fun b35 => ?_) | refine o_bs [_, _, _] (by decide) rfl (fun b35 => ?_)
            refine o_app (m := 1) rfl rfl hov inferInstance (src_own inferInstance (LookN.all _) rfl (by simp [plain])) (by omega) (fun v36 L36 ho36 => ?_)
            obtain ⟨p36, c36, rfl⟩ := ho36.out
            first | refine o_q (q_asv (v := .slice _ _ _) rfl) ?_ | refine o_q (q_as) ?_
            refine JL.nil ?_
            refine J.region ?_
            refine o_q (q_add (c := ((j + 1 : Nat) : Int)) rfl rfl (by rw [wi64 (by omega)]; omega)) ?_
            first | refine o_q (q_mvv (v := .int _ _) rfl) ?_ | refine o_q (q_mv) ?_
            refine JL.nil ?_
            first
              | (rw [keep_pos hnz] at hst; exact ⟨(j + 1, _, p36, c36, L36), rfl, ⟨rfl, rfl, rfl, rfl, rfl, rfl, rfl, trivial⟩, ⟨(by rw [hst, List.length_append] <;> rfl), rfl, trivial⟩, ⟨by omega, (by rw [hst, List.length_append]; exact ho36), (by rw [hst, show cr (sprow (w1.take j) ++ [((j : Int), z)]) = cr (sprow (w1.take j)) ++ [tm ((j : Int), z)] by simp [cr]]; exact hcv.mono.snoc rfl ⟨_, _, rfl, hnx, hmx.mono⟩), (by repeat' first | exact List.Sublist.refl _ | apply List.Sublist.cons_cons | apply List.Sublist.append (List.Sublist.refl _) | apply List.Sublist.cons)⟩, by show w1.length - (j + 1) < w1.length - j; omega, inferInstance⟩)
              | (rw [keep_zero hnz, List.append_nil] at hst; exact ⟨(j + 1, xs, pv, cv, Lv), rfl, ⟨rfl, rfl, rfl, rfl, rfl, rfl, rfl, trivial⟩, ⟨(by rw [hst] <;> rfl), rfl, trivial⟩, ⟨by omega, (by rw [hst]; exact hov), (by rw [hst]; exact hcv.mono), (by repeat' first | exact List.Sublist.refl _ | apply List.Sublist.cons_cons | apply List.Sublist.append (List.Sublist.refl _) | apply List.Sublist.cons)⟩, by show w1.length - (j + 1) < w1.length - j; omega, inferInstance⟩)
          ·
            have hnz := (sgn_zero z).1 (Classical.not_not.1 c2)
            refine J.skip ?_
            refine J.region ?_
            refine o_q (q_add (c := ((j + 1 : Nat) : Int)) rfl rfl (by rw [wi64 (by omega)]; omega)) ?_
            first | refine o_q (q_mvv (v := .int _ _) rfl) ?_ | refine o_q (q_mv) ?_
            refine JL.nil ?_
            first
              | (rw [keep_pos hnz] at hst; exact ⟨(j + 1, _, p36, c36, L36), rfl, ⟨rfl, rfl, rfl, rfl, rfl, rfl, rfl, trivial⟩, ⟨(by rw [hst, List.length_append] <;> rfl), rfl, trivial⟩, ⟨by omega, (by rw [hst, List.length_append]; exact ho36), (by rw [hst, show cr (sprow (w1.take j) ++ [((j : Int), z)]) = cr (sprow (w1.take j)) ++ [tm ((j : Int), z)] by simp [cr]]; exact hcv.mono.snoc rfl ⟨_, _, rfl, hnx, hmx.mono⟩), (by repeat' first | exact List.Sublist.refl _ | apply List.Sublist.cons_cons | apply List.Sublist.append (List.Sublist.refl _) | apply List.Sublist.cons)⟩, by show w1.length - (j + 1) < w1.length - j; omega, inferInstance⟩)
              | (rw [keep_zero hnz, List.append_nil] at hst; exact ⟨(j + 1, xs, pv, cv, Lv), rfl, ⟨rfl, rfl, rfl, rfl, rfl, rfl, rfl, trivial⟩, ⟨(by rw [hst] <;> rfl), rfl, trivial⟩, ⟨by omega, (by rw [hst]; exact hov), (by rw [hst]; exact hcv.mono), (by repeat' first | exact List.Sublist.refl _ | apply List.Sublist.cons_cons | apply List.Sublist.append (List.Sublist.refl _) | apply List.Sublist.cons)⟩, by show w1.length - (j + 1) < w1.length - j; omega, inferInstance⟩)
        ·
          refine J.exit ?_
          obtain rfl : j = w1.length := by omega
          rw [List.take_length] at hov hcv
          exact ⟨(xs, pv, cv, Lv), rfl, ⟨rfl, rfl, rfl, rfl, rfl, trivial⟩, ⟨(by rw [show sprow w1 = sprow (w1.take w1.length) by rw [List.take_length]] <;> rfl), trivial⟩, ⟨hov, hcv, (by repeat' first | exact List.Sublist.refl _ | apply List.Sublist.cons_cons | apply List.Sublist.append (List.Sublist.refl _) | apply List.Sublist.cons)⟩, inferInstance⟩
      ·
        rintro ⟨xs, pv, cv, Lv⟩ σ8 h8 L8 s8 ⟨hov, hcv, hsub8⟩
        refine J.sub hsub8 ?_
        refine J.fzS hov (fun h10 s10 hs10 => ?_)
        have hrow : RowAt h10 (.slice pv (sprow w1).length cv) (cr (sprow w1)) := Sls.of hs10 hcv.mono (by simp)
        refine J.region ?_
        refine o_q (q_fa rfl) ?_
        refine o_q (q_ld rfl inferInstance rfl) ?_
        first | refine o_q (q_mvv (v := .slice _ _ _) rfl) ?_ | refine o_q (q_mv) ?_
        first | refine o_bs [.slice _ _ _] (by decide) rfl (fun b41 => ?_) | refine o_bs [_] (by decide) rfl (fun b41 => ?_)
        refine o_app (m := 1) rfl rfl ho inferInstance (src_own inferInstance (LookN.all _) rfl (by simp [plain])) (by omega) (fun v42 L42 ho42 => ?_)
        obtain ⟨p42, c42, rfl⟩ := ho42.out
        refine o_q (q_fa rfl) ?_
        first | refine o_st1 (v := .slice _ _ _) rfl rfl rfl inferInstance (by first | decide | simp) ?_ | refine o_st1 rfl rfl rfl inferInstance (by first | decide | simp) ?_
        refine JL.nil ?_
        refine J.region ?_
        refine o_q (q_add (c := ((i + 1 : Nat) : Int)) rfl rfl (by rw [wi64 (by omega)]; omega)) ?_
        first | refine o_q (q_mvv (v := .int _ _) rfl) ?_ | refine o_q (q_mv) ?_
        refine JL.nil ?_
        have hcs2 : Cells (One RowAt) 1 h10 (ys ++ [.slice pv (sprow w1).length cv]) (crs ((A.take (i + 1)).map sprow)) := by
          rw [List.take_add_one, hw]
          simp only [Option.toList, List.map_append, crs, List.map_cons, List.map_nil]
          exact hcs.mono.snoc rfl ⟨_, _, _, rfl, hrow⟩
        exact ⟨(i + 1, _, p42, c42, L42), rfl, ⟨rfl, rfl, rfl, rfl, trivial⟩, ⟨rfl, trivial⟩, ⟨by omega, ho42, hcs2.mono, (by repeat' first | exact List.Sublist.refl _ | apply List.Sublist.cons_cons | apply List.Sublist.append (List.Sublist.refl _) | apply List.Sublist.cons)⟩, by show A.length - (i + 1) < A.length - i; omega, inferInstance⟩
    ·
      refine J.exit ?_
      obtain rfl : i = A.length := by omega
      rw [List.take_length] at hcs
      exact ⟨(ys, pL, cL, Lb), rfl, ⟨rfl, rfl, trivial⟩, trivial, ⟨ho, hcs, by repeat' first | exact List.Sublist.refl _ | apply List.Sublist.cons_cons | apply List.Sublist.append (List.Sublist.refl _) | apply List.Sublist.cons | exact List.nil_sublist _⟩, inferInstance⟩
  ·
    rintro ⟨ys, pL, cL, Lb⟩ σ9 h9 L9 s9 ⟨ho, hcs, hsub⟩
    refine J.sub hsub ?_
    refine J.seq ?_
    refine J.fzS ho (fun h11 s11 hs11 => ?_)
    refine J.region ?_
    refine o_q (q_lda (vs := [_, _, _]) rfl inferInstance ⟨rfl, rfl, rfl, trivial⟩) ?_
    refine o_stw (vs := [_, _, _]) rfl rfl rfl inferInstance rfl rfl ?_
    refine JL.nil ?_
    refine J.ret ?_
    refine ret_ok (fn := Try.f33) rfl (.agg rfl inferInstance inferInstance .nil) ?_
    have hel : (crs (A.map sprow)).length = A.length := by simp
    refine ⟨pL, cL, by rw [hel]; rfl, ?_⟩
    rw [hel]
    exact Sls.of hs11 hcs.mono (by simp)
end Go.Z
end
