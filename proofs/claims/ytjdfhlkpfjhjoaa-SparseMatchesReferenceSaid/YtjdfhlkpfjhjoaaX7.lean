/- Texts of ours, joined: Sp3, Merge. -/
import Derived.Test.YtjdfhlkpfjhjoaaX6
section
set_option linter.unusedSimpArgs false
set_option linter.unusedVariables false
/- The functions of the sparse matrices and of their reference: equality, counting, single terms. -/
set_option linter.unusedSimpArgs false
set_option linter.unusedVariables false
namespace Go.Z
open Go Go.RowKit Go.Proofs
theorem map_get {α β : Type} {f : α → β} {l : List α} {i : Nat} {a : α} (h : l[i]? = some a) : (l.map f)[i]? = some (f a) := by rw [List.getElem?_map, h]; rfl
theorem take_eq_succ {α : Type} {l m : List α} {i : Nat} {a : α} (h : l.take i = m.take i) (hl : l[i]? = some a) (hm : m[i]? = some a) : l.take (i + 1) = m.take (i + 1) := by
  rw [List.take_add_one, List.take_add_one, h, hl, hm]
theorem ne_of_get {α : Type} {l m : List α} {i : Nat} {a b : α} (hl : l[i]? = some a) (hm : m[i]? = some b) (h : a ≠ b) : l ≠ m := fun e => by subst e; rw [hl] at hm; cases hm; exact h rfl
theorem eq_of_take {α : Type} {l m : List α} {i : Nat} (h : l.take i = m.take i) (hl : l.length ≤ i) (hm : m.length ≤ i) : l = m := by rwa [List.take_of_length_le hl, List.take_of_length_le hm] at h
/-- A canonical row. -/
abbrev cr (l : List (Int × Int)) : List RT := l.map tm
abbrev crs (L : List (List (Int × Int))) : List (List RT) := L.map cr
theorem samerow_fn {h : Heap} {va vb : Value} {l m : List (Int × Int)} (ha : RowAt h va (cr l)) (hb : RowAt h vb (cr m)) (hl : l.length ≤ 1000000) (hm : m.length ≤ 1000000) (fl : ∀ t ∈ l, Fit t.2) (fm : ∀ t ∈ m, Fit t.2) :
    Fn Try.prog 17 #[va, vb] h fun r _ => r = .bool (decide (l = m)) := by
  obtain ⟨pa, ca, rfl, hca⟩ := ha.out
  obtain ⟨pb, cb, rfl, hcb⟩ := hb.out
  have el : (cr l).length = l.length := List.length_map ..
  have em : (cr m).length = m.length := List.length_map ..
  refine Fn.intro (args := [_, _]) Try.func17 rfl rfl (Nat.le_of_ble_eq_true rfl) fun w => ?_
  refine J.seq ?_
  refine J.region ?_
  refine o_q (q_as) ?_
  refine JL.nil ?_
  refine J.seq ?_
  refine J.seq ?_
  refine J.region ?_
  first | refine o_q (q_mvv (v := .slice _ _ _) rfl) ?_ | refine o_q (q_mv) ?_
  refine o_q (q_len rfl) ?_
  first | refine o_q (q_mvv (v := .slice _ _ _) rfl) ?_ | refine o_q (q_mv) ?_
  refine o_q (q_len rfl) ?_
  refine o_q (q_neq rfl rfl) ?_
  refine JL.nil ?_
  refine J.condD rfl (fun c0 => ?_) (fun c0 => ?_)
  ·
    refine J.seq ?_
    refine J.region ?_
    refine o_q (q_as) ?_
    refine JL.nil ?_
    refine J.ret ?_
    exact ret_ok (fn := Try.f17) rfl (.tmp rfl .nil) (congrArg Value.bool (decide_eq_false (fun e => c0 (by rw [e]))).symm)
  ·
    have hlen : l.length = m.length := by omega
    refine J.skip ?_
    -- cut: kept [], said []
    first | refine J.cutK (α := Unit) (fun _ h' L' => l = m ∧ [] = L') [] trivial (fun _ => []) ?_ ?_ | refine J.cutK (α := Unit) (fun _ h' L' => l = m ∧ [] = L') [] trivial (fun _ => []) ?_ ?_
    ·
      refine J.seq ?_
      refine J.region ?_
      refine o_q (q_as) ?_
      refine JL.nil ?_
      refine J.block ?_
      -- loop 0: kept [0, 1], said [5]
      first | refine J.loopK (α := Nat) (fun i h' L' => i ≤ l.length ∧ l.take i = m.take i ∧ [] = L') [(0, .slice _ _ _), (1, .slice _ _ _)] ⟨rfl, rfl, trivial⟩ (fun i => [(5, .int .i64 (i : Int))]) (fun i => l.length - i) (0) ⟨by omega, by simp, rfl⟩ ⟨rfl, trivial⟩ ?_ | refine J.loopK (α := Nat) (fun i h' L' => i ≤ l.length ∧ l.take i = m.take i ∧ [] = L') [(0, _), (1, _)] ⟨rfl, rfl, trivial⟩ (fun i => [(5, .int .i64 (i : Int))]) (fun i => l.length - i) (0) ⟨by omega, by simp, rfl⟩ ⟨rfl, trivial⟩ ?_
      rintro i σ h1 L1 s1 ⟨hi, hI, rfl⟩
      refine J.seq ?_
      refine J.seq ?_
      refine J.region ?_
      first | refine o_q (q_mvv (v := .int _ _) rfl) ?_ | refine o_q (q_mv) ?_
      first | refine o_q (q_mvv (v := .slice _ _ _) rfl) ?_ | refine o_q (q_mv) ?_
      refine o_q (q_len rfl) ?_
      refine o_q (q_lss rfl rfl) ?_
      refine JL.nil ?_
      refine J.condD rfl (fun c1 => ?_) (fun c1 => ?_)
      ·
        obtain ⟨t, ht⟩ := lt_get (show i < l.length by omega)
        obtain ⟨u, hu⟩ := lt_get (show i < m.length by omega)
        obtain ⟨kx, ox, qx, nx, rfl, hcx0, hcx1, hcx, hnx, hmx⟩ := Sls.term ha (map_get (f := tm) ht)
        obtain ⟨ky, oy, qy, ny, rfl, hcy0, hcy1, hcy, hny, hmy⟩ := Sls.term hb (map_get (f := tm) hu)
        refine J.skip ?_
        refine J.seq ?_
        refine J.block ?_
        refine J.seq ?_
        rcases (show t.1 ≠ u.1 ∨ t.1 = u.1 by omega) with q1 | q1
        ·
          refine J.drawA [] ?_
          first | refine JD.calc 0 (by kernel_rfl) rfl trivial ss_sub (q_mvv (v := .slice _ _ _) rfl) ?_ | refine JD.calc 0 (by kernel_rfl) rfl trivial ss_sub (q_mv) ?_
          first | refine JD.calc 1 (by kernel_rfl) rfl trivial ss_sub (q_mvv (v := .int _ _) rfl) ?_ | refine JD.calc 1 (by kernel_rfl) rfl trivial ss_sub (q_mv) ?_
          refine JD.calc 2 (by kernel_rfl) rfl trivial ss_sub (q_ia rfl rfl (by omega)) ?_
          refine JD.calc 3 (by kernel_rfl) rfl trivial ss_sub (q_fa rfl) ?_
          refine JD.load 4 (by kernel_rfl) rfl trivial (q_ldf rfl hcx0) ?_
          first | refine JD.calc 5 (by kernel_rfl) rfl trivial ss_sub (q_mvv (v := .slice _ _ _) rfl) ?_ | refine JD.calc 5 (by kernel_rfl) rfl trivial ss_sub (q_mv) ?_
          first | refine JD.calc 6 (by kernel_rfl) rfl trivial ss_sub (q_mvv (v := .int _ _) rfl) ?_ | refine JD.calc 6 (by kernel_rfl) rfl trivial ss_sub (q_mv) ?_
          refine JD.calc 7 (by kernel_rfl) rfl trivial ss_sub (q_ia rfl rfl (by omega)) ?_
          refine JD.calc 8 (by kernel_rfl) rfl trivial ss_sub (q_fa rfl) ?_
          refine JD.load 9 (by kernel_rfl) rfl trivial (q_ldf rfl hcy0) ?_
          refine JD.calc 10 (by kernel_rfl) rfl trivial ss_sub (q_neq rfl rfl) ?_
          first | refine JD.calc 11 (by kernel_rfl) rfl trivial ss_sub (q_mvv (v := .bool _) rfl) ?_ | refine JD.calc 11 (by kernel_rfl) rfl trivial ss_sub (q_mv) ?_
          refine JD.pass 12 (by kernel_rfl) rfl rfl (congrArg Value.bool (decide_eq_true q1)) ss_sub ?_
          refine JD.pass 13 (by kernel_rfl) rfl rfl (congrArg Value.bool (decide_eq_true q1)) ss_sub ?_
          refine JD.pass 14 (by kernel_rfl) rfl rfl (congrArg Value.bool (decide_eq_true q1)) ss_sub ?_
          refine JD.pass 15 (by kernel_rfl) rfl rfl (congrArg Value.bool (decide_eq_true q1)) ss_sub ?_
          refine JD.pass 16 (by kernel_rfl) rfl rfl (congrArg Value.bool (decide_eq_true q1)) ss_sub ?_
          refine JD.pass 17 (by kernel_rfl) rfl rfl (congrArg Value.bool (decide_eq_true q1)) ss_sub ?_
          refine JD.pass 18 (by kernel_rfl) rfl rfl (congrArg Value.bool (decide_eq_true q1)) ss_sub ?_
          refine JD.pass 19 (by kernel_rfl) rfl rfl (congrArg Value.bool (decide_eq_true q1)) ss_sub ?_
          refine JD.pass 20 (by kernel_rfl) rfl rfl (congrArg Value.bool (decide_eq_true q1)) ss_sub ?_
          refine JD.pass 21 (by kernel_rfl) rfl rfl (congrArg Value.bool (decide_eq_true q1)) ss_sub ?_
          refine JD.pass 22 (by kernel_rfl) rfl rfl (congrArg Value.bool (decide_eq_true q1)) ss_sub ?_
          refine JD.pass 23 (by kernel_rfl) rfl rfl (congrArg Value.bool (decide_eq_true q1)) ss_sub ?_
          refine JD.calc 24 (by kernel_rfl) rfl trivial ss_sub (q_pickT rfl (decide_eq_true q1)) ?_
          refine JD.done (by kernel_rfl) ?_ _
          refine J.condT rfl rfl ?_
          refine J.seq ?_
          refine J.region ?_
          refine o_q (q_as) ?_
          refine JL.nil ?_
          refine J.ret ?_
          exact ret_ok (fn := Try.f17) rfl (.tmp rfl .nil) (congrArg Value.bool (decide_eq_false (ne_of_get ht hu (fun e => q1 (by rw [e])))).symm)
        ·
          refine J.drawA [] ?_
          first | refine JD.calc 0 (by kernel_rfl) rfl trivial ss_sub (q_mvv (v := .slice _ _ _) rfl) ?_ | refine JD.calc 0 (by kernel_rfl) rfl trivial ss_sub (q_mv) ?_
          first | refine JD.calc 1 (by kernel_rfl) rfl trivial ss_sub (q_mvv (v := .int _ _) rfl) ?_ | refine JD.calc 1 (by kernel_rfl) rfl trivial ss_sub (q_mv) ?_
          refine JD.calc 2 (by kernel_rfl) rfl trivial ss_sub (q_ia rfl rfl (by omega)) ?_
          refine JD.calc 3 (by kernel_rfl) rfl trivial ss_sub (q_fa rfl) ?_
          refine JD.load 4 (by kernel_rfl) rfl trivial (q_ldf rfl hcx0) ?_
          first | refine JD.calc 5 (by kernel_rfl) rfl trivial ss_sub (q_mvv (v := .slice _ _ _) rfl) ?_ | refine JD.calc 5 (by kernel_rfl) rfl trivial ss_sub (q_mv) ?_
          first | refine JD.calc 6 (by kernel_rfl) rfl trivial ss_sub (q_mvv (v := .int _ _) rfl) ?_ | refine JD.calc 6 (by kernel_rfl) rfl trivial ss_sub (q_mv) ?_
          refine JD.calc 7 (by kernel_rfl) rfl trivial ss_sub (q_ia rfl rfl (by omega)) ?_
          refine JD.calc 8 (by kernel_rfl) rfl trivial ss_sub (q_fa rfl) ?_
          refine JD.load 9 (by kernel_rfl) rfl trivial (q_ldf rfl hcy0) ?_
          refine JD.calc 10 (by kernel_rfl) rfl trivial ss_sub (q_neq rfl rfl) ?_
          first | refine JD.calc 11 (by kernel_rfl) rfl trivial ss_sub (q_mvv (v := .bool _) rfl) ?_ | refine JD.calc 11 (by kernel_rfl) rfl trivial ss_sub (q_mv) ?_
          first | refine JD.calc 12 (by kernel_rfl) rfl ⟨_, rfl, (congrArg Value.bool (decide_eq_false (fun e => e q1)))⟩ ss_sub (q_mvv (v := .slice _ _ _) rfl) ?_ | refine JD.calc 12 (by kernel_rfl) rfl ⟨_, rfl, (congrArg Value.bool (decide_eq_false (fun e => e q1)))⟩ ss_sub (q_mv) ?_
          first | refine JD.calc 13 (by kernel_rfl) rfl ⟨_, rfl, (congrArg Value.bool (decide_eq_false (fun e => e q1)))⟩ ss_sub (q_mvv (v := .int _ _) rfl) ?_ | refine JD.calc 13 (by kernel_rfl) rfl ⟨_, rfl, (congrArg Value.bool (decide_eq_false (fun e => e q1)))⟩ ss_sub (q_mv) ?_
          refine JD.calc 14 (by kernel_rfl) rfl ⟨_, rfl, (congrArg Value.bool (decide_eq_false (fun e => e q1)))⟩ ss_sub (q_ia rfl rfl (by omega)) ?_
          refine JD.calc 15 (by kernel_rfl) rfl ⟨_, rfl, (congrArg Value.bool (decide_eq_false (fun e => e q1)))⟩ ss_sub (q_fa rfl) ?_
          refine JD.load 16 (by kernel_rfl) rfl ⟨_, rfl, (congrArg Value.bool (decide_eq_false (fun e => e q1)))⟩ (q_ldfa rfl hcx1) ?_
          first | refine JD.calc 17 (by kernel_rfl) rfl ⟨_, rfl, (congrArg Value.bool (decide_eq_false (fun e => e q1)))⟩ ss_sub (q_mvv (v := .slice _ _ _) rfl) ?_ | refine JD.calc 17 (by kernel_rfl) rfl ⟨_, rfl, (congrArg Value.bool (decide_eq_false (fun e => e q1)))⟩ ss_sub (q_mv) ?_
          first | refine JD.calc 18 (by kernel_rfl) rfl ⟨_, rfl, (congrArg Value.bool (decide_eq_false (fun e => e q1)))⟩ ss_sub (q_mvv (v := .int _ _) rfl) ?_ | refine JD.calc 18 (by kernel_rfl) rfl ⟨_, rfl, (congrArg Value.bool (decide_eq_false (fun e => e q1)))⟩ ss_sub (q_mv) ?_
          refine JD.calc 19 (by kernel_rfl) rfl ⟨_, rfl, (congrArg Value.bool (decide_eq_false (fun e => e q1)))⟩ ss_sub (q_ia rfl rfl (by omega)) ?_
          refine JD.calc 20 (by kernel_rfl) rfl ⟨_, rfl, (congrArg Value.bool (decide_eq_false (fun e => e q1)))⟩ ss_sub (q_fa rfl) ?_
          refine JD.load 21 (by kernel_rfl) rfl ⟨_, rfl, (congrArg Value.bool (decide_eq_false (fun e => e q1)))⟩ (q_ldfa rfl hcy1) ?_
          refine JD.one 22 (by kernel_rfl) ?_
          refine JX.eff rfl rfl ⟨_, rfl, (congrArg Value.bool (decide_eq_false (fun e => e q1)))⟩ ?_
          refine o_call (same_fn ⟨_, rfl, hmx.mono⟩ ⟨_, rfl, hmy.mono⟩ (fl t (List.mem_of_getElem? ht)) (fm u (List.mem_of_getElem? hu))) (fun v1 hv1 sv1 ev1 => ?_)
          subst ev1
          refine JL.nil ⟨rfl, inferInstance, inferInstance, ?_⟩
          refine JD.calc 23 (by kernel_rfl) rfl ⟨_, rfl, (congrArg Value.bool (decide_eq_false (fun e => e q1)))⟩ ss_sub (q_not rfl) ?_
          first | refine JD.calc 24 (by kernel_rfl) rfl trivial ss_sub (q_pickFv (v := .bool _) rfl (decide_eq_false (fun e => e q1)) rfl) ?_ | refine JD.calc 24 (by kernel_rfl) rfl trivial ss_sub (q_pickF rfl (decide_eq_false (fun e => e q1))) ?_
          refine JD.done (by kernel_rfl) ?_ _
          refine J.cond rfl (fun c2 => ?_) (fun c2 => ?_)
          ·
            refine J.seq ?_
            refine J.region ?_
            refine o_q (q_as) ?_
            refine JL.nil ?_
            refine J.ret ?_
            exact ret_ok (fn := Try.f17) rfl (.tmp rfl .nil) (congrArg Value.bool (decide_eq_false (ne_of_get ht hu (fun e => by simp [e] at c2))).symm)
          ·
            have htu : t = u := Prod.ext q1 (by simpa using c2)
            subst htu
            refine J.skip ?_
            refine J.region ?_
            first | refine o_q (q_mvv (v := .int _ _) rfl) ?_ | refine o_q (q_mv) ?_
            refine o_q (q_add (c := ((i + 1 : Nat) : Int)) rfl rfl (by rw [wi64 (by omega)]; omega)) ?_
            first | refine o_q (q_asv (v := .int _ _) rfl) ?_ | refine o_q (q_as) ?_
            refine JL.nil ?_
            exact ⟨i + 1, rfl, ⟨rfl, rfl, trivial⟩, ⟨rfl, trivial⟩, ⟨by omega, take_eq_succ hI ht hu, rfl⟩, by omega, inferInstance⟩
      ·
        refine J.exit ?_
        exact ⟨(), rfl, trivial, trivial, ⟨eq_of_take hI (by omega) (by omega), rfl⟩, inferInstance⟩
    ·
      rintro _ σ9 h9 L9 s9 ⟨hok, rfl⟩
      refine J.seq ?_
      refine J.region ?_
      refine o_q (q_as) ?_
      refine JL.nil ?_
      refine J.ret ?_
      exact ret_ok (fn := Try.f17) rfl (.tmp rfl .nil) (congrArg Value.bool (decide_eq_true (hok)).symm)
theorem samevec_fn {h : Heap} {va vb : Value} {l m : List Int} (ha : VecAt h va l) (hb : VecAt h vb m) (hl : l.length ≤ 1000000) (hm : m.length ≤ 1000000) (fl : ∀ t ∈ l, Fit t) (fm : ∀ t ∈ m, Fit t) :
    Fn Try.prog 35 #[va, vb] h fun r _ => r = .bool (decide (l = m)) := by
  obtain ⟨pa, ca, rfl, hca⟩ := ha.out
  obtain ⟨pb, cb, rfl, hcb⟩ := hb.out
  refine Fn.intro (args := [_, _]) Try.func35 rfl rfl (Nat.le_of_ble_eq_true rfl) fun w => ?_
  refine J.seq ?_
  refine J.region ?_
  refine o_q (q_as) ?_
  refine JL.nil ?_
  refine J.seq ?_
  refine J.seq ?_
  refine J.region ?_
  first | refine o_q (q_mvv (v := .slice _ _ _) rfl) ?_ | refine o_q (q_mv) ?_
  refine o_q (q_len rfl) ?_
  first | refine o_q (q_mvv (v := .slice _ _ _) rfl) ?_ | refine o_q (q_mv) ?_
  refine o_q (q_len rfl) ?_
  refine o_q (q_neq rfl rfl) ?_
  refine JL.nil ?_
  refine J.condD rfl (fun c0 => ?_) (fun c0 => ?_)
  ·
    refine J.seq ?_
    refine J.region ?_
    refine o_q (q_as) ?_
    refine JL.nil ?_
    refine J.ret ?_
    exact ret_ok (fn := Try.f35) rfl (.tmp rfl .nil) (congrArg Value.bool (decide_eq_false (fun e => c0 (by rw [e]))).symm)
  ·
    have hlen : l.length = m.length := by omega
    refine J.skip ?_
    -- cut: kept [], said []
    first | refine J.cutK (α := Unit) (fun _ h' L' => l = m ∧ [] = L') [] trivial (fun _ => []) ?_ ?_ | refine J.cutK (α := Unit) (fun _ h' L' => l = m ∧ [] = L') [] trivial (fun _ => []) ?_ ?_
    ·
      refine J.seq ?_
      refine J.region ?_
      refine o_q (q_as) ?_
      refine JL.nil ?_
      refine J.block ?_
      -- loop 0: kept [0, 1], said [5]
      first | refine J.loopK (α := Nat) (fun i h' L' => i ≤ l.length ∧ l.take i = m.take i ∧ [] = L') [(0, .slice _ _ _), (1, .slice _ _ _)] ⟨rfl, rfl, trivial⟩ (fun i => [(5, .int .i64 (i : Int))]) (fun i => l.length - i) (0) ⟨by omega, by simp, rfl⟩ ⟨rfl, trivial⟩ ?_ | refine J.loopK (α := Nat) (fun i h' L' => i ≤ l.length ∧ l.take i = m.take i ∧ [] = L') [(0, _), (1, _)] ⟨rfl, rfl, trivial⟩ (fun i => [(5, .int .i64 (i : Int))]) (fun i => l.length - i) (0) ⟨by omega, by simp, rfl⟩ ⟨rfl, trivial⟩ ?_
      rintro i σ h1 L1 s1 ⟨hi, hI, rfl⟩
      refine J.seq ?_
      refine J.seq ?_
      refine J.region ?_
      first | refine o_q (q_mvv (v := .int _ _) rfl) ?_ | refine o_q (q_mv) ?_
      first | refine o_q (q_mvv (v := .slice _ _ _) rfl) ?_ | refine o_q (q_mv) ?_
      refine o_q (q_len rfl) ?_
      refine o_q (q_lss rfl rfl) ?_
      refine JL.nil ?_
      refine J.condD rfl (fun c1 => ?_) (fun c1 => ?_)
      ·
        obtain ⟨t, ht⟩ := lt_get (show i < l.length by omega)
        obtain ⟨u, hu⟩ := lt_get (show i < m.length by omega)
        obtain ⟨kx, ox, qx, nx, rfl, hcx, hnx, hmx⟩ := Sls.int ha ht
        obtain ⟨ky, oy, qy, ny, rfl, hcy, hny, hmy⟩ := Sls.int hb hu
        refine J.skip ?_
        refine J.seq ?_
        refine J.block ?_
        refine J.seq ?_
        refine J.drawA [] ?_
        first | refine JD.calc 0 (by kernel_rfl) rfl trivial ss_sub (q_mvv (v := .slice _ _ _) rfl) ?_ | refine JD.calc 0 (by kernel_rfl) rfl trivial ss_sub (q_mv) ?_
        first | refine JD.calc 1 (by kernel_rfl) rfl trivial ss_sub (q_mvv (v := .int _ _) rfl) ?_ | refine JD.calc 1 (by kernel_rfl) rfl trivial ss_sub (q_mv) ?_
        refine JD.calc 2 (by kernel_rfl) rfl trivial ss_sub (q_ia rfl rfl (by omega)) ?_
        refine JD.load 3 (by kernel_rfl) rfl trivial (q_ldfa rfl hcx) ?_
        first | refine JD.calc 4 (by kernel_rfl) rfl trivial ss_sub (q_mvv (v := .slice _ _ _) rfl) ?_ | refine JD.calc 4 (by kernel_rfl) rfl trivial ss_sub (q_mv) ?_
        first | refine JD.calc 5 (by kernel_rfl) rfl trivial ss_sub (q_mvv (v := .int _ _) rfl) ?_ | refine JD.calc 5 (by kernel_rfl) rfl trivial ss_sub (q_mv) ?_
        refine JD.calc 6 (by kernel_rfl) rfl trivial ss_sub (q_ia rfl rfl (by omega)) ?_
        refine JD.load 7 (by kernel_rfl) rfl trivial (q_ldfa rfl hcy) ?_
        refine JD.one 8 (by kernel_rfl) ?_
        refine JX.eff rfl rfl trivial ?_
        refine o_call (same_fn ⟨_, rfl, hmx.mono⟩ ⟨_, rfl, hmy.mono⟩ (fl t (List.mem_of_getElem? ht)) (fm u (List.mem_of_getElem? hu))) (fun v1 hv1 sv1 ev1 => ?_)
        subst ev1
        refine JL.nil ⟨rfl, inferInstance, inferInstance, ?_⟩
        refine JD.calc 9 (by kernel_rfl) rfl trivial ss_sub (q_not rfl) ?_
        refine JD.done (by kernel_rfl) ?_ _
        refine J.cond rfl (fun c2 => ?_) (fun c2 => ?_)
        ·
          refine J.seq ?_
          refine J.region ?_
          refine o_q (q_as) ?_
          refine JL.nil ?_
          refine J.ret ?_
          exact ret_ok (fn := Try.f35) rfl (.tmp rfl .nil) (congrArg Value.bool (decide_eq_false (ne_of_get ht hu (fun e => by simp [e] at c2))).symm)
        ·
          have htu : t = u := by simpa using c2
          subst htu
          refine J.skip ?_
          refine J.region ?_
          first | refine o_q (q_mvv (v := .int _ _) rfl) ?_ | refine o_q (q_mv) ?_
          refine o_q (q_add (c := ((i + 1 : Nat) : Int)) rfl rfl (by rw [wi64 (by omega)]; omega)) ?_
          first | refine o_q (q_asv (v := .int _ _) rfl) ?_ | refine o_q (q_as) ?_
          refine JL.nil ?_
          exact ⟨i + 1, rfl, ⟨rfl, rfl, trivial⟩, ⟨rfl, trivial⟩, ⟨by omega, take_eq_succ hI ht hu, rfl⟩, by omega, inferInstance⟩
      ·
        refine J.exit ?_
        exact ⟨(), rfl, trivial, trivial, ⟨eq_of_take hI (by omega) (by omega), rfl⟩, inferInstance⟩
    ·
      rintro _ σ9 h9 L9 s9 ⟨hok, rfl⟩
      refine J.seq ?_
      refine J.region ?_
      refine o_q (q_as) ?_
      refine JL.nil ?_
      refine J.ret ?_
      exact ret_ok (fn := Try.f35) rfl (.tmp rfl .nil) (congrArg Value.bool (decide_eq_true (hok)).symm)
theorem equals_fn {h : Heap} {va vb : Value} {ra rb ka kb : Int} {l m : List (List (Int × Int))} (ha : SparseAt h va ra ka (crs l)) (hb : SparseAt h vb rb kb (crs m)) (hl : l.length ≤ 1000000) (hm : m.length ≤ 1000000) (hlr : ∀ r ∈ l, r.length ≤ 1000000) (hmr : ∀ r ∈ m, r.length ≤ 1000000) (fl : ∀ r ∈ l, ∀ t ∈ r, Fit t.2) (fm : ∀ r ∈ m, ∀ t ∈ r, Fit t.2) :
    Fn Try.prog 27 #[va, vb] h fun r _ => r = .bool (decide (ra = rb ∧ ka = kb ∧ l = m)) := by
  obtain ⟨pa, ca, rfl, hA⟩ := ha
  obtain ⟨pb, cb, rfl, hB⟩ := hb
  have el : (crs l).length = l.length := List.length_map ..
  have em : (crs m).length = m.length := List.length_map ..
  refine Fn.intro (args := [_, _]) Try.func27 rfl rfl (Nat.le_of_ble_eq_true rfl) fun w => ?_
  refine J.seq ?_
  refine J.region ?_
  first | refine o_bx (v := .agg _) rfl rfl (fun b2 => ?_) | refine o_bx rfl rfl (fun b2 => ?_)
  first | refine o_bx (v := .agg _) rfl rfl (fun b3 => ?_) | refine o_bx rfl rfl (fun b3 => ?_)
  refine o_q (q_as) ?_
  refine JL.nil ?_
  refine J.seq ?_
  refine J.seq ?_
  rcases (show ra ≠ rb ∨ (ra = rb ∧ ka ≠ kb) ∨ (ra = rb ∧ ka = kb) by omega) with q1 | ⟨q1, q2⟩ | ⟨q1, q2⟩
  ·
    refine J.region ?_
    refine o_q (q_fa rfl) ?_
    refine o_q (q_ld rfl inferInstance rfl) ?_
    refine o_q (q_fa rfl) ?_
    refine o_q (q_ld rfl inferInstance rfl) ?_
    refine o_q (q_neq rfl rfl) ?_
    first | refine o_q (q_mvv (v := .bool _) rfl) ?_ | refine o_q (q_mv) ?_
    refine JL.guardF rfl rfl (decide_eq_true q1) rfl ?_
    refine JL.guardF rfl rfl (decide_eq_true q1) rfl ?_
    refine JL.guardF rfl rfl (decide_eq_true q1) rfl ?_
    refine JL.guardF rfl rfl (decide_eq_true q1) rfl ?_
    refine JL.guardF rfl rfl (decide_eq_true q1) rfl ?_
    refine o_q (q_pickT rfl (decide_eq_true q1)) ?_
    first | refine o_q (q_mvv (v := .bool _) rfl) ?_ | refine o_q (q_mv) ?_
    refine JL.guardF rfl rfl rfl rfl ?_
    refine JL.guardF rfl rfl rfl rfl ?_
    refine JL.guardF rfl rfl rfl rfl ?_
    refine JL.guardF rfl rfl rfl rfl ?_
    refine JL.guardF rfl rfl rfl rfl ?_
    refine JL.guardF rfl rfl rfl rfl ?_
    refine JL.guardF rfl rfl rfl rfl ?_
    refine o_q (q_pickT rfl rfl) ?_
    refine JL.nil ?_
    refine J.condT rfl rfl ?_
    refine J.seq ?_
    refine J.region ?_
    refine o_q (q_as) ?_
    refine JL.nil ?_
    refine J.ret ?_
    exact ret_ok (fn := Try.f27) rfl (.tmp rfl .nil) (congrArg Value.bool (decide_eq_false (fun e => q1 e.1)).symm)
  ·
    refine J.region ?_
    refine o_q (q_fa rfl) ?_
    refine o_q (q_ld rfl inferInstance rfl) ?_
    refine o_q (q_fa rfl) ?_
    refine o_q (q_ld rfl inferInstance rfl) ?_
    refine o_q (q_neq rfl rfl) ?_
    first | refine o_q (q_mvv (v := .bool _) rfl) ?_ | refine o_q (q_mv) ?_
    refine JL.guardT rfl rfl (decide_eq_false (fun e => e q1)) ?_
    refine o_q (q_fa rfl) ?_
    refine JL.guardT rfl rfl (decide_eq_false (fun e => e q1)) ?_
    refine o_q (q_ld rfl inferInstance rfl) ?_
    refine JL.guardT rfl rfl (decide_eq_false (fun e => e q1)) ?_
    refine o_q (q_fa rfl) ?_
    refine JL.guardT rfl rfl (decide_eq_false (fun e => e q1)) ?_
    refine o_q (q_ld rfl inferInstance rfl) ?_
    refine JL.guardT rfl rfl (decide_eq_false (fun e => e q1)) ?_
    refine o_q (q_neq rfl rfl) ?_
    first | refine o_q (q_pickFv (v := .bool _) rfl (decide_eq_false (fun e => e q1)) rfl) ?_ | refine o_q (q_pickF rfl (decide_eq_false (fun e => e q1))) ?_
    first | refine o_q (q_mvv (v := .bool _) rfl) ?_ | refine o_q (q_mv) ?_
    refine JL.guardF rfl rfl (decide_eq_true q2) rfl ?_
    refine JL.guardF rfl rfl (decide_eq_true q2) rfl ?_
    refine JL.guardF rfl rfl (decide_eq_true q2) rfl ?_
    refine JL.guardF rfl rfl (decide_eq_true q2) rfl ?_
    refine JL.guardF rfl rfl (decide_eq_true q2) rfl ?_
    refine JL.guardF rfl rfl (decide_eq_true q2) rfl ?_
    refine JL.guardF rfl rfl (decide_eq_true q2) rfl ?_
    refine o_q (q_pickT rfl (decide_eq_true q2)) ?_
    refine JL.nil ?_
    refine J.condT rfl rfl ?_
    refine J.seq ?_
    refine J.region ?_
    refine o_q (q_as) ?_
    refine JL.nil ?_
    refine J.ret ?_
    exact ret_ok (fn := Try.f27) rfl (.tmp rfl .nil) (congrArg Value.bool (decide_eq_false (fun e => q2 e.2.1)).symm)
  ·
    refine J.region ?_
    refine o_q (q_fa rfl) ?_
    refine o_q (q_ld rfl inferInstance rfl) ?_
    refine o_q (q_fa rfl) ?_
    refine o_q (q_ld rfl inferInstance rfl) ?_
    refine o_q (q_neq rfl rfl) ?_
    first | refine o_q (q_mvv (v := .bool _) rfl) ?_ | refine o_q (q_mv) ?_
    refine JL.guardT rfl rfl (decide_eq_false (fun e => e q1)) ?_
    refine o_q (q_fa rfl) ?_
    refine JL.guardT rfl rfl (decide_eq_false (fun e => e q1)) ?_
    refine o_q (q_ld rfl inferInstance rfl) ?_
    refine JL.guardT rfl rfl (decide_eq_false (fun e => e q1)) ?_
    refine o_q (q_fa rfl) ?_
    refine JL.guardT rfl rfl (decide_eq_false (fun e => e q1)) ?_
    refine o_q (q_ld rfl inferInstance rfl) ?_
    refine JL.guardT rfl rfl (decide_eq_false (fun e => e q1)) ?_
    refine o_q (q_neq rfl rfl) ?_
    first | refine o_q (q_pickFv (v := .bool _) rfl (decide_eq_false (fun e => e q1)) rfl) ?_ | refine o_q (q_pickF rfl (decide_eq_false (fun e => e q1))) ?_
    first | refine o_q (q_mvv (v := .bool _) rfl) ?_ | refine o_q (q_mv) ?_
    refine JL.guardT rfl rfl (decide_eq_false (fun e => e q2)) ?_
    refine o_q (q_fa rfl) ?_
    refine JL.guardT rfl rfl (decide_eq_false (fun e => e q2)) ?_
    refine o_q (q_ld rfl inferInstance rfl) ?_
    refine JL.guardT rfl rfl (decide_eq_false (fun e => e q2)) ?_
    refine o_q (q_len rfl) ?_
    refine JL.guardT rfl rfl (decide_eq_false (fun e => e q2)) ?_
    refine o_q (q_fa rfl) ?_
    refine JL.guardT rfl rfl (decide_eq_false (fun e => e q2)) ?_
    refine o_q (q_ld rfl inferInstance rfl) ?_
    refine JL.guardT rfl rfl (decide_eq_false (fun e => e q2)) ?_
    refine o_q (q_len rfl) ?_
    refine JL.guardT rfl rfl (decide_eq_false (fun e => e q2)) ?_
    refine o_q (q_neq rfl rfl) ?_
    first | refine o_q (q_pickFv (v := .bool _) rfl (decide_eq_false (fun e => e q2)) rfl) ?_ | refine o_q (q_pickF rfl (decide_eq_false (fun e => e q2))) ?_
    refine JL.nil ?_
    refine J.condD rfl (fun c0 => ?_) (fun c0 => ?_)
    ·
      refine J.seq ?_
      refine J.region ?_
      refine o_q (q_as) ?_
      refine JL.nil ?_
      refine J.ret ?_
      exact ret_ok (fn := Try.f27) rfl (.tmp rfl .nil) (congrArg Value.bool (decide_eq_false (fun e => c0 (by rw [e.2.2]))).symm)
    ·
      have hlen : l.length = m.length := by omega
      refine J.skip ?_
      -- cut: kept [], said []
      first | refine J.cutK (α := Unit) (fun _ h' L' => l = m ∧ [(b3, row 24 [.int .i64 rb, .int .i64 kb, .slice pb (crs m).length cb]), (b2, row 24 [.int .i64 ra, .int .i64 ka, .slice pa (crs l).length ca])] = L') [] trivial (fun _ => []) ?_ ?_ | refine J.cutK (α := Unit) (fun _ h' L' => l = m ∧ [(b3, row 24 [.int .i64 rb, .int .i64 kb, .slice pb (crs m).length cb]), (b2, row 24 [.int .i64 ra, .int .i64 ka, .slice pa (crs l).length ca])] = L') [] trivial (fun _ => []) ?_ ?_
      ·
        refine J.seq ?_
        refine J.region ?_
        refine o_q (q_as) ?_
        refine JL.nil ?_
        refine J.block ?_
        -- loop 0: kept [2, 3], said [5]
        first | refine J.loopK (α := Nat) (fun i h' L' => i ≤ l.length ∧ l.take i = m.take i ∧ [(b3, row 24 [.int .i64 rb, .int .i64 kb, .slice pb (crs m).length cb]), (b2, row 24 [.int .i64 ra, .int .i64 ka, .slice pa (crs l).length ca])] = L') [(2, .pointer _), (3, .pointer _)] ⟨rfl, rfl, trivial⟩ (fun i => [(5, .int .i64 (i : Int))]) (fun i => l.length - i) (0) ⟨by omega, by simp, rfl⟩ ⟨rfl, trivial⟩ ?_ | refine J.loopK (α := Nat) (fun i h' L' => i ≤ l.length ∧ l.take i = m.take i ∧ [(b3, row 24 [.int .i64 rb, .int .i64 kb, .slice pb (crs m).length cb]), (b2, row 24 [.int .i64 ra, .int .i64 ka, .slice pa (crs l).length ca])] = L') [(2, _), (3, _)] ⟨rfl, rfl, trivial⟩ (fun i => [(5, .int .i64 (i : Int))]) (fun i => l.length - i) (0) ⟨by omega, by simp, rfl⟩ ⟨rfl, trivial⟩ ?_
        rintro i σ h1 L1 s1 ⟨hi, hI, rfl⟩
        refine J.seq ?_
        refine J.seq ?_
        refine J.region ?_
        first | refine o_q (q_mvv (v := .int _ _) rfl) ?_ | refine o_q (q_mv) ?_
        refine o_q (q_fa rfl) ?_
        refine o_q (q_ld rfl inferInstance rfl) ?_
        refine o_q (q_len rfl) ?_
        refine o_q (q_lss rfl rfl) ?_
        refine JL.nil ?_
        refine J.condD rfl (fun c1 => ?_) (fun c1 => ?_)
        ·
          obtain ⟨r, hr⟩ := lt_get (show i < l.length by omega)
          obtain ⟨u, hu⟩ := lt_get (show i < m.length by omega)
          obtain ⟨kx, ox, qx, mx, nx, rfl, hcx, hrx⟩ := Sls.row hA (map_get (f := cr) hr)
          obtain ⟨ky, oy, qy, my, ny, rfl, hcy, hry⟩ := Sls.row hB (map_get (f := cr) hu)
          have mr := List.mem_of_getElem? hr
          have mu := List.mem_of_getElem? hu
          refine J.skip ?_
          refine J.seq ?_
          refine J.block ?_
          refine J.seq ?_
          refine J.drawA [] ?_
          refine JD.calc 0 (by kernel_rfl) rfl trivial ss_sub (q_fa rfl) ?_
          refine JD.load 1 (by kernel_rfl) rfl trivial (q_ld rfl inferInstance rfl) ?_
          first | refine JD.calc 2 (by kernel_rfl) rfl trivial ss_sub (q_mvv (v := .int _ _) rfl) ?_ | refine JD.calc 2 (by kernel_rfl) rfl trivial ss_sub (q_mv) ?_
          refine JD.calc 3 (by kernel_rfl) rfl trivial ss_sub (q_ia rfl rfl (by omega)) ?_
          refine JD.load 4 (by kernel_rfl) rfl trivial (q_ldf rfl hcx) ?_
          refine JD.calc 5 (by kernel_rfl) rfl trivial ss_sub (q_fa rfl) ?_
          refine JD.load 6 (by kernel_rfl) rfl trivial (q_ld rfl inferInstance rfl) ?_
          first | refine JD.calc 7 (by kernel_rfl) rfl trivial ss_sub (q_mvv (v := .int _ _) rfl) ?_ | refine JD.calc 7 (by kernel_rfl) rfl trivial ss_sub (q_mv) ?_
          refine JD.calc 8 (by kernel_rfl) rfl trivial ss_sub (q_ia rfl rfl (by omega)) ?_
          refine JD.load 9 (by kernel_rfl) rfl trivial (q_ldf rfl hcy) ?_
          refine JD.one 10 (by kernel_rfl) ?_
          refine JX.eff rfl rfl trivial ?_
          refine o_call (samerow_fn hrx.mono hry.mono (hlr r mr) (hmr u mu) (fl r mr) (fm u mu)) (fun v1 hv1 sv1 ev1 => ?_)
          subst ev1
          refine JL.nil ⟨rfl, inferInstance, inferInstance, ?_⟩
          refine JD.calc 11 (by kernel_rfl) rfl trivial ss_sub (q_not rfl) ?_
          refine JD.done (by kernel_rfl) ?_ _
          refine J.cond rfl (fun c2 => ?_) (fun c2 => ?_)
          ·
            refine J.seq ?_
            refine J.region ?_
            refine o_q (q_as) ?_
            refine JL.nil ?_
            refine J.ret ?_
            exact ret_ok (fn := Try.f27) rfl (.tmp rfl .nil) (congrArg Value.bool (decide_eq_false (fun e => ne_of_get hr hu (fun e => by simp [e] at c2) e.2.2)).symm)
          ·
            have htu : r = u := by simpa using c2
            subst htu
            refine J.skip ?_
            refine J.region ?_
            first | refine o_q (q_mvv (v := .int _ _) rfl) ?_ | refine o_q (q_mv) ?_
            refine o_q (q_add (c := ((i + 1 : Nat) : Int)) rfl rfl (by rw [wi64 (by omega)]; omega)) ?_
            first | refine o_q (q_asv (v := .int _ _) rfl) ?_ | refine o_q (q_as) ?_
            refine JL.nil ?_
            exact ⟨i + 1, rfl, ⟨rfl, rfl, trivial⟩, ⟨rfl, trivial⟩, ⟨by omega, take_eq_succ hI hr hu, rfl⟩, by omega, inferInstance⟩
        ·
          refine J.exit ?_
          exact ⟨(), rfl, trivial, trivial, ⟨eq_of_take hI (by omega) (by omega), rfl⟩, inferInstance⟩
      ·
        rintro _ σ9 h9 L9 s9 ⟨hok, rfl⟩
        refine J.seq ?_
        refine J.region ?_
        refine o_q (q_as) ?_
        refine JL.nil ?_
        refine J.ret ?_
        exact ret_ok (fn := Try.f27) rfl (.tmp rfl .nil) (congrArg Value.bool (decide_eq_true (⟨q1, q2, hok⟩)).symm)
def nz {α : Type} (L : List (List α)) : Nat := (L.map List.length).sum
theorem nz_succ {α : Type} {L : List (List α)} {i : Nat} {r : List α} (h : L[i]? = some r) : nz (L.take (i + 1)) = nz (L.take i) + r.length := by
  rw [List.take_add_one, h]; simp [nz]
theorem nz_le {α : Type} {L : List (List α)} (h : ∀ r ∈ L, r.length ≤ 1000000) (i : Nat) : nz (L.take i) ≤ i * 1000000 := by
  induction i with
  | zero => simp [nz]
  | succ i ih =>
    rcases Nat.lt_or_ge i L.length with h1 | h1
    · obtain ⟨r, hr⟩ := lt_get h1
      rw [nz_succ hr]
      have := h r (List.mem_of_getElem? hr); omega
    · rw [List.take_of_length_le (by omega)]; rw [List.take_of_length_le h1] at ih; exact Nat.le_trans ih (Nat.mul_le_mul_right _ (Nat.le_succ i))
theorem nonzero_fn {h : Heap} {va : Value} {ra ka : Int} {l : List (List RT)} (ha : SparseAt h va ra ka l) (hl : l.length ≤ 1000000) (hlr : ∀ r ∈ l, r.length ≤ 1000000) :
    Fn Try.prog 39 #[va] h fun r _ => r = .int .i64 ((nz l : Nat) : Int) := by
  obtain ⟨pa, ca, rfl, hA⟩ := ha
  refine Fn.intro (args := [_]) Try.func39 rfl rfl (Nat.le_of_ble_eq_true rfl) fun w => ?_
  refine J.seq ?_
  refine J.region ?_
  first | refine o_bx (v := .agg _) rfl rfl (fun b1 => ?_) | refine o_bx rfl rfl (fun b1 => ?_)
  refine o_q (q_as) ?_
  refine JL.nil ?_
  refine J.seq ?_
  refine J.region ?_
  refine o_q (q_as) ?_
  refine JL.nil ?_
  -- cut: kept [], said [3]
  first | refine J.cutK (α := Unit) (fun _ h' L' => [(b1, row 24 [.int .i64 ra, .int .i64 ka, .slice pa l.length ca])] = L') [] trivial (fun _ => [(3, .int .i64 ((nz l : Nat) : Int))]) ?_ ?_ | refine J.cutK (α := Unit) (fun _ h' L' => [(b1, row 24 [.int .i64 ra, .int .i64 ka, .slice pa l.length ca])] = L') [] trivial (fun _ => [(3, .int .i64 ((nz l : Nat) : Int))]) ?_ ?_
  ·
    refine J.seq ?_
    refine J.region ?_
    refine o_q (q_fa rfl) ?_
    refine o_q (q_ld rfl inferInstance rfl) ?_
    refine o_q (q_len rfl) ?_
    refine o_q (q_mv) ?_
    refine JL.nil ?_
    refine J.block ?_
    -- loop 0: kept [7, 8], said [3, 9]
    first | refine J.loopK (α := Nat) (fun i h' L' => i ≤ l.length ∧ [(b1, row 24 [.int .i64 ra, .int .i64 ka, .slice pa l.length ca])] = L') [(7, .slice _ _ _), (8, .int _ _)] ⟨rfl, rfl, trivial⟩ (fun i => [(3, .int .i64 ((nz (l.take i) : Nat) : Int)), (9, .int .i64 (i : Int))]) (fun i => l.length - i) (0) ⟨by omega, rfl⟩ ⟨rfl, rfl, trivial⟩ ?_ | refine J.loopK (α := Nat) (fun i h' L' => i ≤ l.length ∧ [(b1, row 24 [.int .i64 ra, .int .i64 ka, .slice pa l.length ca])] = L') [(7, _), (8, _)] ⟨rfl, rfl, trivial⟩ (fun i => [(3, .int .i64 ((nz (l.take i) : Nat) : Int)), (9, .int .i64 (i : Int))]) (fun i => l.length - i) (0) ⟨by omega, rfl⟩ ⟨rfl, rfl, trivial⟩ ?_
    rintro i σ h1 L1 s1 ⟨hi, rfl⟩
    refine J.seq ?_
    refine J.region ?_
    refine o_q (q_lss rfl rfl) ?_
    refine JL.nil ?_
    refine J.seq ?_
    refine J.condD rfl (fun c0 => ?_) (fun c0 => ?_)
    ·
      obtain ⟨r, hr⟩ := lt_get (show i < l.length by omega)
      obtain ⟨kx, ox, qx, mx, nx, rfl, hcx, hrx⟩ := Sls.row hA hr
      have mr := hlr r (List.mem_of_getElem? hr)
      have hle := nz_le hlr i
      obtain ⟨px, cx, ex, hcx2⟩ := hrx.out
      cases ex
      refine J.skip ?_
      refine J.seq ?_
      refine J.block ?_
      refine J.seq ?_
      refine J.region ?_
      refine o_q (q_ia rfl rfl (by omega)) ?_
      refine o_q (q_ldf rfl hcx) ?_
      first | refine o_q (q_asv (v := .slice _ _ _) rfl) ?_ | refine o_q (q_as) ?_
      refine JL.nil ?_
      refine J.region ?_
      first | refine o_q (q_mvv (v := .int _ _) rfl) ?_ | refine o_q (q_mv) ?_
      first | refine o_q (q_mvv (v := .slice _ _ _) rfl) ?_ | refine o_q (q_mv) ?_
      refine o_q (q_len rfl) ?_
      refine o_q (q_add (c := ((nz (l.take i) + r.length : Nat) : Int)) rfl rfl (by rw [wi64 (by omega)]; omega)) ?_
      first | refine o_q (q_asv (v := .int _ _) rfl) ?_ | refine o_q (q_as) ?_
      refine JL.nil ?_
      refine J.region ?_
      refine o_q (q_add (c := ((i + 1 : Nat) : Int)) rfl rfl (by rw [wi64 (by omega)]; omega)) ?_
      first | refine o_q (q_mvv (v := .int _ _) rfl) ?_ | refine o_q (q_mv) ?_
      refine JL.nil ?_
      exact ⟨i + 1, rfl, ⟨rfl, rfl, trivial⟩, ⟨(by rw [nz_succ hr] <;> rfl), rfl, trivial⟩, ⟨by omega, rfl⟩, by omega, inferInstance⟩
    ·
      refine J.exit ?_
      exact ⟨(), rfl, trivial, ⟨(by rw [show nz l = nz (l.take i) by rw [List.take_of_length_le (by omega)]] <;> rfl), trivial⟩, rfl, inferInstance⟩
  ·
    rintro _ σ9 h9 L9 s9 rfl
    refine J.seq ?_
    refine J.region ?_
    first | refine o_q (q_mvv (v := .int _ _) rfl) ?_ | refine o_q (q_mv) ?_
    first | refine o_q (q_asv (v := .int _ _) rfl) ?_ | refine o_q (q_as) ?_
    refine JL.nil ?_
    refine J.ret ?_
    exact ret_ok (fn := Try.f39) rfl (.tmp rfl .nil) rfl
theorem term_fn {h : Heap} {c z : Int} (hz : -9223372036854775808 ≤ z ∧ z ≤ 9223372036854775807) :
    Fn Try.prog 43 #[.int .i64 c, .int .i64 z] h fun r h' => TermAt h' r (c, z) := by
  refine Fn.intro (args := [_, _]) Try.func43 rfl rfl (Nat.le_of_ble_eq_true rfl) fun w => ?_
  refine J.seq ?_
  refine J.region ?_
  refine o_al (fun b4 => ?_)
  refine JL.nil ?_
  refine J.seq ?_
  refine J.region ?_
  first | refine o_q (q_mvv (v := .int _ _) rfl) ?_ | refine o_q (q_mv) ?_
  first | refine o_q (q_mvv (v := .int _ _) rfl) ?_ | refine o_q (q_mv) ?_
  refine o_call (of_fn hz) (fun r h1 s1 hr => ?_)
  obtain ⟨pr, nr, rfl, _, hm⟩ := hr.out
  first | refine o_q (q_bd [.int _ _, .bool _, .slice _ _ _] rfl) ?_ | refine o_q (q_bd [_, _, _] rfl) ?_
  refine o_stw (vs := [_, _, _]) rfl rfl rfl inferInstance rfl rfl ?_
  refine JL.nil ?_
  refine J.ret ?_
  exact ret_ok (fn := Try.f43) rfl (.agg rfl inferInstance inferInstance .nil) ⟨_, _, rfl, hm⟩
end Go.Z
end
section
set_option linter.unusedSimpArgs false
set_option linter.unusedVariables false
/- Plain laws about rows: merging. No program is named here. -/
set_option linter.unusedSimpArgs false
set_option linter.unusedVariables false
namespace Go.Z
def keep (t : Int × Int) : List (Int × Int) := if t.2 = 0 then [] else [t]
def mergeL (k : Int) : List (Int × Int) → List (Int × Int) → List (Int × Int)
  | [], [] => []
  | [], b :: m => keep (b.1, 0 + k * b.2) ++ mergeL k [] m
  | a :: l, [] => keep (a.1, a.2 + k * 0) ++ mergeL k l []
  | a :: l, b :: m =>
    if a.1 = b.1 then keep (a.1, a.2 + k * b.2) ++ mergeL k l m
    else if a.1 < b.1 then keep (a.1, a.2 + k * 0) ++ mergeL k l (b :: m)
    else keep (b.1, 0 + k * b.2) ++ mergeL k (a :: l) m
termination_by a b => a.length + b.length
theorem mergeL_nb (k : Int) (b : Int × Int) (m : List (Int × Int)) : mergeL k [] (b :: m) = keep (b.1, 0 + k * b.2) ++ mergeL k [] m := by rw [mergeL]
theorem mergeL_an (k : Int) (a : Int × Int) (l : List (Int × Int)) : mergeL k (a :: l) [] = keep (a.1, a.2 + k * 0) ++ mergeL k l [] := by rw [mergeL]
theorem mergeL_eq (k : Int) (a b : Int × Int) (l m : List (Int × Int)) (h : a.1 = b.1) : mergeL k (a :: l) (b :: m) = keep (a.1, a.2 + k * b.2) ++ mergeL k l m := by rw [mergeL, if_pos h]
theorem mergeL_lt (k : Int) (a b : Int × Int) (l m : List (Int × Int)) (h : a.1 < b.1) : mergeL k (a :: l) (b :: m) = keep (a.1, a.2 + k * 0) ++ mergeL k l (b :: m) := by rw [mergeL, if_neg (by omega), if_pos h]
theorem mergeL_gt (k : Int) (a b : Int × Int) (l m : List (Int × Int)) (h : b.1 < a.1) : mergeL k (a :: l) (b :: m) = keep (b.1, 0 + k * b.2) ++ mergeL k (a :: l) m := by rw [mergeL, if_neg (by omega), if_neg (by omega)]
theorem keep_pos {c v : Int} (h : ¬ v = 0) : keep (c, v) = [(c, v)] := if_neg h
theorem keep_zero {c v : Int} (h : v = 0) : keep (c, v) = [] := if_pos h
end Go.Z
end
