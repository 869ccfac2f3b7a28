/- The functions of package integer, walked: signs, validity, comparison, sums, differences, products. -/
import Derived.Test.YtjdfhlkpfjhjoaaInt2
set_option linter.unusedSimpArgs false
set_option linter.unusedVariables false
namespace Go.Z
open Go Go.RowKit Go.Proofs
/-- The sign, from the parts. -/
def sgn (neg : Bool) (l : List Nat) : Int := if l.length = 0 then 0 else if neg then -1 else 1
/-- Whether the parts are canonical. -/
def canon (neg : Bool) (l : List Nat) : Bool := if l.length = 0 then !neg else decide (l.getD (l.length - 1) 0 ≠ 0)
theorem sgn_int (z : Int) : sgn (decide (z < 0)) (limbs z.natAbs) = z.sign := by
  unfold sgn
  have h0 : (limbs z.natAbs).length = 0 ↔ z = 0 := by rw [List.length_eq_zero_iff, limbs_nil_iff]; omega
  simp only [h0]
  rcases (show z < 0 ∨ z = 0 ∨ 0 < z by omega) with h | h | h
  · rw [if_neg (by omega), if_pos (by simpa using h), Int.sign_eq_neg_one_of_neg h]
  · subst h; rfl
  · rw [if_neg (by omega), if_neg (by simp; omega), Int.sign_eq_one_of_pos h]
theorem sgn_zero (z : Int) : sgn (decide (z < 0)) (limbs z.natAbs) = 0 ↔ z = 0 := by rw [sgn_int, Int.sign_eq_zero_iff_zero]
theorem sign_fn {h : Heap} {v : Value} {neg : Bool} {l : List Nat} (hv : RawAt h v neg l) (hN : l.length ≤ 9223372036854775807) :
    Fn Try.prog 45 #[v] h fun r _ => r = .int .i64 (sgn neg l) := by
  obtain ⟨p, c, rfl, hc, hm⟩ := hv.out
  unfold sgn
  refine Fn.intro (args := [_]) Try.func45 rfl rfl (Nat.le_of_ble_eq_true rfl) fun w => ?_
  refine J.seq ?_
  refine J.region ?_
  first | refine o_bx (v := .agg _) rfl rfl (fun b1 => ?_) | refine o_bx rfl rfl (fun b1 => ?_)
  refine o_q (q_as) ?_
  refine JL.nil ?_
  refine J.seq ?_
  refine J.block ?_
  refine J.seq ?_
  refine J.region ?_
  refine o_q (q_fa rfl) ?_
  refine o_q (q_ld rfl inferInstance rfl) ?_
  refine o_q (q_len rfl) ?_
  refine o_q (q_eql rfl rfl) ?_
  first | refine o_q (q_asv (v := .bool _) rfl) ?_ | refine o_q (q_as) ?_
  refine JL.nil ?_
  refine J.condD rfl (fun c0 => ?_) (fun c0 => ?_)
  ·
    refine J.seq ?_
    refine J.region ?_
    refine o_q (q_as) ?_
    refine JL.nil ?_
    refine J.ret ?_
    exact ret_ok (fn := Try.f45) rfl (.tmp rfl .nil) (by rw [if_pos (by omega)] <;> rfl)
  ·
    refine J.seq ?_
    refine J.region ?_
    refine o_q (q_fa rfl) ?_
    refine o_q (q_ld rfl inferInstance rfl) ?_
    first | refine o_q (q_asv (v := .bool _) rfl) ?_ | refine o_q (q_as) ?_
    refine JL.nil ?_
    refine J.cond rfl (fun c1 => ?_) (fun c1 => ?_)
    ·
      refine J.seq ?_
      refine J.region ?_
      refine o_q (q_as) ?_
      refine JL.nil ?_
      refine J.ret ?_
      exact ret_ok (fn := Try.f45) rfl (.tmp rfl .nil) (by rw [if_neg (by omega), if_pos c1] <;> rfl)
    ·
      refine J.skip ?_
      refine J.seq ?_
      refine J.region ?_
      refine o_q (q_as) ?_
      refine JL.nil ?_
      refine J.ret ?_
      exact ret_ok (fn := Try.f45) rfl (.tmp rfl .nil) (by rw [if_neg (by omega), if_neg (by rw [c1]; decide)] <;> rfl)
theorem signr_fn {h : Heap} {v : Value} {neg : Bool} {l : List Nat} (hv : RawAt h v neg l) (hN : l.length ≤ 9223372036854775807) :
    Fn Try.prog 46 #[v] h fun r _ => r = .int .i64 (sgn neg l) := by
  obtain ⟨p, c, rfl, hc, hm⟩ := hv.out
  unfold sgn
  refine Fn.intro (args := [_]) Try.func46 rfl rfl (Nat.le_of_ble_eq_true rfl) fun w => ?_
  refine J.seq ?_
  refine J.region ?_
  first | refine o_bx (v := .agg _) rfl rfl (fun b1 => ?_) | refine o_bx rfl rfl (fun b1 => ?_)
  refine o_q (q_as) ?_
  refine JL.nil ?_
  refine J.seq ?_
  refine J.seq ?_
  refine J.region ?_
  refine o_q (q_fa rfl) ?_
  refine o_q (q_ld rfl inferInstance rfl) ?_
  refine o_q (q_len rfl) ?_
  refine o_q (q_eql rfl rfl) ?_
  refine JL.nil ?_
  refine J.condD rfl (fun c0 => ?_) (fun c0 => ?_)
  ·
    refine J.seq ?_
    refine J.region ?_
    refine o_q (q_as) ?_
    refine JL.nil ?_
    refine J.ret ?_
    exact ret_ok (fn := Try.f46) rfl (.tmp rfl .nil) (by rw [if_pos (by omega)] <;> rfl)
  ·
    refine J.skip ?_
    refine J.seq ?_
    refine J.seq ?_
    refine J.region ?_
    refine o_q (q_fa rfl) ?_
    refine o_q (q_ld rfl inferInstance rfl) ?_
    refine JL.nil ?_
    refine J.cond rfl (fun c1 => ?_) (fun c1 => ?_)
    ·
      refine J.seq ?_
      refine J.region ?_
      refine o_q (q_as) ?_
      refine JL.nil ?_
      refine J.ret ?_
      exact ret_ok (fn := Try.f46) rfl (.tmp rfl .nil) (by rw [if_neg (by omega), if_pos c1] <;> rfl)
    ·
      refine J.skip ?_
      refine J.seq ?_
      refine J.region ?_
      refine o_q (q_as) ?_
      refine JL.nil ?_
      refine J.ret ?_
      exact ret_ok (fn := Try.f46) rfl (.tmp rfl .nil) (by rw [if_neg (by omega), if_neg (by rw [c1]; decide)] <;> rfl)
theorem validr_fn {h : Heap} {v : Value} {neg : Bool} {l : List Nat} (hv : RawAt h v neg l) (hN : l.length ≤ 9223372036854775807) :
    Fn Try.prog 52 #[v] h fun r _ => r = .bool (canon neg l) := by
  obtain ⟨p, c, rfl, hc, hm⟩ := hv.out
  unfold canon
  refine Fn.intro (args := [_]) Try.func52 rfl rfl (Nat.le_of_ble_eq_true rfl) fun w => ?_
  refine J.seq ?_
  refine J.region ?_
  first | refine o_bx (v := .agg _) rfl rfl (fun b1 => ?_) | refine o_bx rfl rfl (fun b1 => ?_)
  refine o_q (q_as) ?_
  refine JL.nil ?_
  refine J.seq ?_
  refine J.seq ?_
  refine J.region ?_
  refine o_q (q_fa rfl) ?_
  refine o_q (q_ld rfl inferInstance rfl) ?_
  refine o_q (q_len rfl) ?_
  refine o_q (q_eql rfl rfl) ?_
  refine JL.nil ?_
  refine J.condD rfl (fun c0 => ?_) (fun c0 => ?_)
  ·
    refine J.seq ?_
    refine J.region ?_
    refine o_q (q_fa rfl) ?_
    refine o_q (q_ld rfl inferInstance rfl) ?_
    refine o_q (q_not rfl) ?_
    first | refine o_q (q_asv (v := .bool _) rfl) ?_ | refine o_q (q_as) ?_
    refine JL.nil ?_
    refine J.ret ?_
    exact ret_ok (fn := Try.f52) rfl (.tmp rfl .nil) (by rw [if_pos (by omega)] <;> rfl)
  ·
    refine J.skip ?_
    refine J.seq ?_
    refine J.region ?_
    refine o_q (q_fa rfl) ?_
    refine o_q (q_ld rfl inferInstance rfl) ?_
    refine o_q (q_fa rfl) ?_
    refine o_q (q_ld rfl inferInstance rfl) ?_
    refine o_q (q_len rfl) ?_
    refine o_q (q_sub (c := ((l.length - 1 : Nat) : Int)) rfl rfl (by rw [wi64 (by omega)]; omega)) ?_
    obtain ⟨kx, ox, x, rfl, hx, lx, hcx⟩ := MagAt.limb (j := l.length - 1) hm (by omega)
    refine o_q (q_ia rfl rfl (by omega)) ?_
    refine o_q (q_ldf rfl hcx) ?_
    refine o_q (q_neq rfl rfl) ?_
    first | refine o_q (q_asv (v := .bool _) rfl) ?_ | refine o_q (q_as) ?_
    refine JL.nil ?_
    refine J.ret ?_
    refine ret_ok (fn := Try.f52) rfl (.tmp rfl .nil) ?_
    rw [if_neg (by omega), getD_some hx]
    exact congrArg Value.bool (decide_eq_decide.2 (by omega))
theorem valid_fn {h : Heap} {v : Value} {neg : Bool} {l : List Nat} (hv : RawAt h v neg l) (hN : l.length ≤ 9223372036854775807) :
    Fn Try.prog 44 #[v] h fun r _ => r = .bool (canon neg l) := by
  obtain ⟨p, c, rfl, hc, hm⟩ := hv.out
  unfold canon
  refine Fn.intro (args := [_]) Try.func44 rfl rfl (Nat.le_of_ble_eq_true rfl) fun w => ?_
  refine J.seq ?_
  refine J.region ?_
  first | refine o_bx (v := .agg _) rfl rfl (fun b1 => ?_) | refine o_bx rfl rfl (fun b1 => ?_)
  refine o_q (q_as) ?_
  refine JL.nil ?_
  refine J.seq ?_
  refine J.region ?_
  refine o_q (q_fa rfl) ?_
  refine o_q (q_ld rfl inferInstance rfl) ?_
  refine o_q (q_len rfl) ?_
  first | refine o_q (q_asv (v := .int _ _) rfl) ?_ | refine o_q (q_as) ?_
  refine JL.nil ?_
  refine J.seq ?_
  rcases Nat.eq_zero_or_pos l.length with c0 | c0
  cases neg
  ·
    refine J.region ?_
    first | refine o_q (q_mvv (v := .int _ _) rfl) ?_ | refine o_q (q_mv) ?_
    refine o_q (q_eql rfl rfl) ?_
    first | refine o_q (q_mvv (v := .bool _) rfl) ?_ | refine o_q (q_mv) ?_
    refine JL.guardT rfl rfl (decide_eq_true (by omega)) ?_
    refine o_q (q_fa rfl) ?_
    refine JL.guardT rfl rfl (decide_eq_true (by omega)) ?_
    refine o_q (q_ld rfl inferInstance rfl) ?_
    refine JL.guardT rfl rfl (decide_eq_true (by omega)) ?_
    refine o_q (q_not rfl) ?_
    first | refine o_q (q_pickTv (v := .bool _) rfl (decide_eq_true (by omega)) rfl) ?_ | refine o_q (q_pickT rfl (decide_eq_true (by omega))) ?_
    first | refine o_q (q_mvv (v := .bool _) rfl) ?_ | refine o_q (q_mv) ?_
    refine JL.guardF rfl rfl rfl rfl ?_
    refine JL.guardF rfl rfl rfl rfl ?_
    refine JL.guardF rfl rfl rfl rfl ?_
    refine JL.guardU rfl rfl rfl ?_
    refine JL.guardU rfl rfl rfl ?_
    refine JL.guardU rfl rfl rfl ?_
    refine JL.guardU rfl rfl rfl ?_
    refine JL.guardU rfl rfl rfl ?_
    refine JL.guardU rfl rfl rfl ?_
    refine JL.guardU rfl rfl rfl ?_
    refine JL.guardF rfl rfl rfl rfl ?_
    refine o_q (q_pickT rfl rfl) ?_
    first | refine o_q (q_asv (v := .bool _) rfl) ?_ | refine o_q (q_as) ?_
    refine JL.nil ?_
    refine J.ret ?_
    exact ret_ok (fn := Try.f44) rfl (.tmp rfl .nil) (by rw [if_pos c0] <;> rfl)
  ·
    refine J.region ?_
    first | refine o_q (q_mvv (v := .int _ _) rfl) ?_ | refine o_q (q_mv) ?_
    refine o_q (q_eql rfl rfl) ?_
    first | refine o_q (q_mvv (v := .bool _) rfl) ?_ | refine o_q (q_mv) ?_
    refine JL.guardT rfl rfl (decide_eq_true (by omega)) ?_
    refine o_q (q_fa rfl) ?_
    refine JL.guardT rfl rfl (decide_eq_true (by omega)) ?_
    refine o_q (q_ld rfl inferInstance rfl) ?_
    refine JL.guardT rfl rfl (decide_eq_true (by omega)) ?_
    refine o_q (q_not rfl) ?_
    first | refine o_q (q_pickTv (v := .bool _) rfl (decide_eq_true (by omega)) rfl) ?_ | refine o_q (q_pickT rfl (decide_eq_true (by omega))) ?_
    first | refine o_q (q_mvv (v := .bool _) rfl) ?_ | refine o_q (q_mv) ?_
    refine JL.guardT rfl rfl rfl ?_
    first | refine o_q (q_mvv (v := .int _ _) rfl) ?_ | refine o_q (q_mv) ?_
    refine JL.guardT rfl rfl rfl ?_
    refine o_q (q_gtr rfl rfl) ?_
    refine JL.guardT rfl rfl rfl ?_
    first | refine o_q (q_mvv (v := .bool _) rfl) ?_ | refine o_q (q_mv) ?_
    refine JL.guardF rfl rfl (decide_eq_false (by omega)) rfl ?_
    refine JL.guardF rfl rfl (decide_eq_false (by omega)) rfl ?_
    refine JL.guardF rfl rfl (decide_eq_false (by omega)) rfl ?_
    refine JL.guardF rfl rfl (decide_eq_false (by omega)) rfl ?_
    refine JL.guardF rfl rfl (decide_eq_false (by omega)) rfl ?_
    refine JL.guardF rfl rfl (decide_eq_false (by omega)) rfl ?_
    refine JL.guardF rfl rfl (decide_eq_false (by omega)) rfl ?_
    refine JL.guardT rfl rfl rfl ?_
    refine o_q (q_pickF rfl (decide_eq_false (by omega))) ?_
    first | refine o_q (q_pickFv (v := .bool _) rfl rfl rfl) ?_ | refine o_q (q_pickF rfl rfl) ?_
    first | refine o_q (q_asv (v := .bool _) rfl) ?_ | refine o_q (q_as) ?_
    refine JL.nil ?_
    refine J.ret ?_
    exact ret_ok (fn := Try.f44) rfl (.tmp rfl .nil) (by rw [if_pos c0] <;> rfl)
  ·
    refine J.region ?_
    first | refine o_q (q_mvv (v := .int _ _) rfl) ?_ | refine o_q (q_mv) ?_
    refine o_q (q_eql rfl rfl) ?_
    first | refine o_q (q_mvv (v := .bool _) rfl) ?_ | refine o_q (q_mv) ?_
    refine JL.guardF rfl rfl (decide_eq_false (by omega)) rfl ?_
    refine JL.guardF rfl rfl (decide_eq_false (by omega)) rfl ?_
    refine JL.guardF rfl rfl (decide_eq_false (by omega)) rfl ?_
    refine o_q (q_pickF rfl (decide_eq_false (by omega))) ?_
    first | refine o_q (q_mvv (v := .bool _) rfl) ?_ | refine o_q (q_mv) ?_
    refine JL.guardT rfl rfl rfl ?_
    first | refine o_q (q_mvv (v := .int _ _) rfl) ?_ | refine o_q (q_mv) ?_
    refine JL.guardT rfl rfl rfl ?_
    refine o_q (q_gtr rfl rfl) ?_
    refine JL.guardT rfl rfl rfl ?_
    first | refine o_q (q_mvv (v := .bool _) rfl) ?_ | refine o_q (q_mv) ?_
    refine JL.guardT rfl rfl (decide_eq_true (by omega)) ?_
    refine o_q (q_fa rfl) ?_
    refine JL.guardT rfl rfl (decide_eq_true (by omega)) ?_
    refine o_q (q_ld rfl inferInstance rfl) ?_
    refine JL.guardT rfl rfl (decide_eq_true (by omega)) ?_
    first | refine o_q (q_mvv (v := .int _ _) rfl) ?_ | refine o_q (q_mv) ?_
    refine JL.guardT rfl rfl (decide_eq_true (by omega)) ?_
    refine o_q (q_sub (c := ((l.length - 1 : Nat) : Int)) rfl rfl (by rw [wi64 (by omega)]; omega)) ?_
    refine JL.guardT rfl rfl (decide_eq_true (by omega)) ?_
    obtain ⟨kx, ox, x, rfl, hx, lx, hcx⟩ := MagAt.limb (j := l.length - 1) hm (by omega)
    refine o_q (q_ia rfl rfl (by omega)) ?_
    refine JL.guardT rfl rfl (decide_eq_true (by omega)) ?_
    refine o_q (q_ldf rfl hcx) ?_
    refine JL.guardT rfl rfl (decide_eq_true (by omega)) ?_
    refine o_q (q_neq rfl rfl) ?_
    refine JL.guardT rfl rfl rfl ?_
    first | refine o_q (q_pickTv (v := .bool _) rfl (decide_eq_true (by omega)) rfl) ?_ | refine o_q (q_pickT rfl (decide_eq_true (by omega))) ?_
    first | refine o_q (q_pickFv (v := .bool _) rfl rfl rfl) ?_ | refine o_q (q_pickF rfl rfl) ?_
    first | refine o_q (q_asv (v := .bool _) rfl) ?_ | refine o_q (q_as) ?_
    refine JL.nil ?_
    refine J.ret ?_
    refine ret_ok (fn := Try.f44) rfl (.tmp rfl .nil) ?_
    rw [if_neg (by omega), getD_some hx]
    exact congrArg Value.bool (decide_eq_decide.2 (by omega))
theorem nani_fn {h : Heap} {a : Int} :
    Fn Try.prog 83 #[.int .i64 a] h fun r _ => r = .bool false := by
  refine Fn.intro (args := [_]) Try.func83 rfl rfl (Nat.le_of_ble_eq_true rfl) fun w => ?_
  refine J.seq ?_
  refine J.region ?_
  refine o_q (q_as) ?_
  refine JL.nil ?_
  refine J.seq ?_
  refine J.region ?_
  first | refine o_q (q_mvv (v := .int _ _) rfl) ?_ | refine o_q (q_mv) ?_
  first | refine o_q (q_mvv (v := .int _ _) rfl) ?_ | refine o_q (q_mv) ?_
  refine o_q (q_neq rfl rfl) ?_
  first | refine o_q (q_asv (v := .bool _) rfl) ?_ | refine o_q (q_as) ?_
  refine JL.nil ?_
  refine J.ret ?_
  exact ret_ok (fn := Try.f83) rfl (.tmp rfl .nil) (congrArg Value.bool (decide_eq_false (by omega)))
def cmp3 (a b : Int) : Int := if a < b then -1 else if b < a then 1 else 0
theorem cmpi_fn {h : Heap} {a b : Int} :
    Fn Try.prog 73 #[.int .i64 a, .int .i64 b] h fun r _ => r = .int .i64 (cmp3 a b) := by
  refine Fn.intro (args := [_, _]) Try.func73 rfl rfl (Nat.le_of_ble_eq_true rfl) fun w => ?_
  refine J.seq ?_
  refine J.region ?_
  refine o_q (q_as) ?_
  refine JL.nil ?_
  refine J.seq ?_
  refine J.region ?_
  first | refine o_q (q_mvv (v := .int _ _) rfl) ?_ | refine o_q (q_mv) ?_
  refine o_call nani_fn (fun v1 hv1 sv1 ev1 => ?_)
  subst ev1
  first | refine o_q (q_asv (v := .bool _) rfl) ?_ | refine o_q (q_as) ?_
  refine JL.nil ?_
  refine J.seq ?_
  refine J.region ?_
  first | refine o_q (q_mvv (v := .int _ _) rfl) ?_ | refine o_q (q_mv) ?_
  refine o_call nani_fn (fun v2 hv2 sv2 ev2 => ?_)
  subst ev2
  first | refine o_q (q_asv (v := .bool _) rfl) ?_ | refine o_q (q_as) ?_
  refine JL.nil ?_
  refine J.seq ?_
  refine J.seq ?_
  refine J.region ?_
  first | refine o_q (q_mvv (v := .bool _) rfl) ?_ | refine o_q (q_mv) ?_
  refine JL.nil ?_
  refine J.condF rfl rfl ?_
  refine J.skip ?_
  refine J.seq ?_
  refine J.seq ?_
  refine J.region ?_
  first | refine o_q (q_mvv (v := .bool _) rfl) ?_ | refine o_q (q_mv) ?_
  refine JL.nil ?_
  refine J.condF rfl rfl ?_
  refine J.skip ?_
  refine J.seq ?_
  refine J.seq ?_
  refine J.region ?_
  first | refine o_q (q_mvv (v := .int _ _) rfl) ?_ | refine o_q (q_mv) ?_
  first | refine o_q (q_mvv (v := .int _ _) rfl) ?_ | refine o_q (q_mv) ?_
  refine o_q (q_lss rfl rfl) ?_
  refine JL.nil ?_
  refine J.condD rfl (fun c3 => ?_) (fun c3 => ?_)
  ·
    refine J.seq ?_
    refine J.region ?_
    refine o_q (q_as) ?_
    refine JL.nil ?_
    refine J.ret ?_
    refine ret_ok (fn := Try.f73) rfl (.tmp rfl .nil) ?_
    show Value.int _ _ = Value.int _ (cmp3 a b)
    unfold cmp3
    rw [if_pos c3]
  ·
    refine J.skip ?_
    refine J.seq ?_
    refine J.seq ?_
    refine J.region ?_
    first | refine o_q (q_mvv (v := .int _ _) rfl) ?_ | refine o_q (q_mv) ?_
    first | refine o_q (q_mvv (v := .int _ _) rfl) ?_ | refine o_q (q_mv) ?_
    refine o_q (q_gtr rfl rfl) ?_
    refine JL.nil ?_
    refine J.condD rfl (fun c4 => ?_) (fun c4 => ?_)
    ·
      refine J.seq ?_
      refine J.region ?_
      refine o_q (q_as) ?_
      refine JL.nil ?_
      refine J.ret ?_
      refine ret_ok (fn := Try.f73) rfl (.tmp rfl .nil) ?_
      show Value.int _ _ = Value.int _ (cmp3 a b)
      unfold cmp3
      rw [if_neg c3, if_pos c4]
    ·
      refine J.skip ?_
      refine J.seq ?_
      refine J.region ?_
      refine o_q (q_as) ?_
      refine JL.nil ?_
      refine J.ret ?_
      refine ret_ok (fn := Try.f73) rfl (.tmp rfl .nil) ?_
      show Value.int _ _ = Value.int _ (cmp3 a b)
      unfold cmp3
      rw [if_neg c3, if_neg c4]
theorem nanu_fn {h : Heap} {a : Int} :
    Fn Try.prog 84 #[.int .u32 a] h fun r _ => r = .bool false := by
  refine Fn.intro (args := [_]) Try.func84 rfl rfl (Nat.le_of_ble_eq_true rfl) fun w => ?_
  refine J.seq ?_
  refine J.region ?_
  refine o_q (q_as) ?_
  refine JL.nil ?_
  refine J.seq ?_
  refine J.region ?_
  first | refine o_q (q_mvv (v := .int _ _) rfl) ?_ | refine o_q (q_mv) ?_
  first | refine o_q (q_mvv (v := .int _ _) rfl) ?_ | refine o_q (q_mv) ?_
  refine o_q (q_neq rfl rfl) ?_
  first | refine o_q (q_asv (v := .bool _) rfl) ?_ | refine o_q (q_as) ?_
  refine JL.nil ?_
  refine J.ret ?_
  exact ret_ok (fn := Try.f84) rfl (.tmp rfl .nil) (congrArg Value.bool (decide_eq_false (by omega)))
theorem cmpu_fn {h : Heap} {a b : Int} :
    Fn Try.prog 78 #[.int .u32 a, .int .u32 b] h fun r _ => r = .int .i64 (cmp3 a b) := by
  refine Fn.intro (args := [_, _]) Try.func78 rfl rfl (Nat.le_of_ble_eq_true rfl) fun w => ?_
  refine J.seq ?_
  refine J.region ?_
  refine o_q (q_as) ?_
  refine JL.nil ?_
  refine J.seq ?_
  refine J.region ?_
  first | refine o_q (q_mvv (v := .int _ _) rfl) ?_ | refine o_q (q_mv) ?_
  refine o_call nanu_fn (fun v1 hv1 sv1 ev1 => ?_)
  subst ev1
  first | refine o_q (q_asv (v := .bool _) rfl) ?_ | refine o_q (q_as) ?_
  refine JL.nil ?_
  refine J.seq ?_
  refine J.region ?_
  first | refine o_q (q_mvv (v := .int _ _) rfl) ?_ | refine o_q (q_mv) ?_
  refine o_call nanu_fn (fun v2 hv2 sv2 ev2 => ?_)
  subst ev2
  first | refine o_q (q_asv (v := .bool _) rfl) ?_ | refine o_q (q_as) ?_
  refine JL.nil ?_
  refine J.seq ?_
  refine J.seq ?_
  refine J.region ?_
  first | refine o_q (q_mvv (v := .bool _) rfl) ?_ | refine o_q (q_mv) ?_
  refine JL.nil ?_
  refine J.condF rfl rfl ?_
  refine J.skip ?_
  refine J.seq ?_
  refine J.seq ?_
  refine J.region ?_
  first | refine o_q (q_mvv (v := .bool _) rfl) ?_ | refine o_q (q_mv) ?_
  refine JL.nil ?_
  refine J.condF rfl rfl ?_
  refine J.skip ?_
  refine J.seq ?_
  refine J.seq ?_
  refine J.region ?_
  first | refine o_q (q_mvv (v := .int _ _) rfl) ?_ | refine o_q (q_mv) ?_
  first | refine o_q (q_mvv (v := .int _ _) rfl) ?_ | refine o_q (q_mv) ?_
  refine o_q (q_lss rfl rfl) ?_
  refine JL.nil ?_
  refine J.condD rfl (fun c3 => ?_) (fun c3 => ?_)
  ·
    refine J.seq ?_
    refine J.region ?_
    refine o_q (q_as) ?_
    refine JL.nil ?_
    refine J.ret ?_
    refine ret_ok (fn := Try.f78) rfl (.tmp rfl .nil) ?_
    show Value.int _ _ = Value.int _ (cmp3 a b)
    unfold cmp3
    rw [if_pos c3]
  ·
    refine J.skip ?_
    refine J.seq ?_
    refine J.seq ?_
    refine J.region ?_
    first | refine o_q (q_mvv (v := .int _ _) rfl) ?_ | refine o_q (q_mv) ?_
    first | refine o_q (q_mvv (v := .int _ _) rfl) ?_ | refine o_q (q_mv) ?_
    refine o_q (q_gtr rfl rfl) ?_
    refine JL.nil ?_
    refine J.condD rfl (fun c4 => ?_) (fun c4 => ?_)
    ·
      refine J.seq ?_
      refine J.region ?_
      refine o_q (q_as) ?_
      refine JL.nil ?_
      refine J.ret ?_
      refine ret_ok (fn := Try.f78) rfl (.tmp rfl .nil) ?_
      show Value.int _ _ = Value.int _ (cmp3 a b)
      unfold cmp3
      rw [if_neg c3, if_pos c4]
    ·
      refine J.skip ?_
      refine J.seq ?_
      refine J.region ?_
      refine o_q (q_as) ?_
      refine JL.nil ?_
      refine J.ret ?_
      refine ret_ok (fn := Try.f78) rfl (.tmp rfl .nil) ?_
      show Value.int _ _ = Value.int _ (cmp3 a b)
      unfold cmp3
      rw [if_neg c3, if_neg c4]
theorem add32_fn {h : Heap} {x y c : Nat} (hx : x < 4294967296) (hy : y < 4294967296) (hc : c < 4294967296) :
    Fn Try.prog 77 #[.int .u32 (x : Int), .int .u32 (y : Int), .int .u32 (c : Int)] h fun r _ => r = .tuple ⟨[.int .u32 (((x + y + c) % 4294967296 : Nat) : Int), .int .u32 (((x + y + c) / 4294967296 : Nat) : Int)]⟩ := by
  refine Fn.intro (args := [_, _, _]) Try.func77 rfl rfl (Nat.le_of_ble_eq_true rfl) fun w => ?_
  refine J.seq ?_
  refine J.region ?_
  refine o_q (q_as) ?_
  refine o_q (q_as) ?_
  refine JL.nil ?_
  refine J.seq ?_
  refine J.region ?_
  first | refine o_q (q_mvv (v := .int _ _) rfl) ?_ | refine o_q (q_mv) ?_
  refine o_q (q_cv (c := (x : Int)) rfl (wu64 (by omega))) ?_
  first | refine o_q (q_mvv (v := .int _ _) rfl) ?_ | refine o_q (q_mv) ?_
  refine o_q (q_cv (c := (y : Int)) rfl (wu64 (by omega))) ?_
  refine o_q (q_add (c := ((x + y : Nat) : Int)) rfl rfl (by rw [wu64 (by omega)]; omega)) ?_
  first | refine o_q (q_mvv (v := .int _ _) rfl) ?_ | refine o_q (q_mv) ?_
  refine o_q (q_cv (c := (c : Int)) rfl (wu64 (by omega))) ?_
  refine o_q (q_add (c := ((x + y + c : Nat) : Int)) rfl rfl (by rw [wu64 (by omega)]; omega)) ?_
  first | refine o_q (q_asv (v := .int _ _) rfl) ?_ | refine o_q (q_as) ?_
  refine JL.nil ?_
  refine J.seq ?_
  refine J.region ?_
  first | refine o_q (q_mvv (v := .int _ _) rfl) ?_ | refine o_q (q_mv) ?_
  refine o_q (q_cv (c := (((x + y + c) % 4294967296 : Nat) : Int)) rfl (by rw [IntKind.wrap_u32]; omega)) ?_
  first | refine o_q (q_asv (v := .int _ _) rfl) ?_ | refine o_q (q_as) ?_
  refine JL.nil ?_
  refine J.seq ?_
  refine J.region ?_
  first | refine o_q (q_mvv (v := .int _ _) rfl) ?_ | refine o_q (q_mv) ?_
  refine o_q (q_shr (c := (((x + y + c) / 4294967296 : Nat) : Int)) rfl rfl (by decide) (by simp only [IntKind.bits]; exact fd32 _)) ?_
  refine o_q (q_cv (c := (((x + y + c) / 4294967296 : Nat) : Int)) rfl (wu32 (by omega))) ?_
  first | refine o_q (q_asv (v := .int _ _) rfl) ?_ | refine o_q (q_as) ?_
  refine JL.nil ?_
  refine J.ret ?_
  exact ret_ok (fn := Try.f77) rfl (.tmp rfl (.tmp rfl .nil)) rfl
theorem fd31 (n : Nat) : Int.fdiv (n : Int) 2147483648 = ((n / 2147483648 : Nat) : Int) := by
  rw [Int.fdiv_eq_ediv_of_nonneg _ (by decide)]; rfl
theorem sub32_fn {h : Heap} {x y c : Nat} (hx : x < 4294967296) (hy : y < 4294967296) (hc : c ≤ 1) :
    Fn Try.prog 79 #[.int .u32 (x : Int), .int .u32 (y : Int), .int .u32 (c : Int)] h fun r _ => r = .tuple ⟨[.int .u32 (((x + 4294967296 * 2 - y - c) % 4294967296 : Nat) : Int), .int .u32 ((if x < y + c then 1 else 0 : Nat) : Int)]⟩ := by
  obtain ⟨d, hd⟩ : ∃ d, (x + 4294967296 * 2 - y - c) % 4294967296 = d := ⟨_, rfl⟩
  have hdl : d < 4294967296 := by omega
  have hbr := borrow hx hy hdl hc hd
  rw [hd]
  have p1 : x ^^^ y < 4294967296 := Nat.xor_lt_two_pow (n := 32) hx hy
  have p2 : 4294967295 ^^^ x < 4294967296 := Nat.xor_lt_two_pow (n := 32) (by decide) hx
  have p3 : 4294967295 ^^^ (x ^^^ y) < 4294967296 := Nat.xor_lt_two_pow (n := 32) (by decide) p1
  have p4 : (4294967295 ^^^ x) &&& y < 4294967296 := Nat.and_lt_two_pow (n := 32) _ hy
  have p5 : (4294967295 ^^^ (x ^^^ y)) &&& d < 4294967296 := Nat.and_lt_two_pow (n := 32) _ hdl
  refine Fn.intro (args := [_, _, _]) Try.func79 rfl rfl (Nat.le_of_ble_eq_true rfl) fun w => ?_
  refine J.seq ?_
  refine J.region ?_
  refine o_q (q_as) ?_
  refine o_q (q_as) ?_
  refine JL.nil ?_
  refine J.seq ?_
  refine J.region ?_
  first | refine o_q (q_mvv (v := .int _ _) rfl) ?_ | refine o_q (q_mv) ?_
  first | refine o_q (q_mvv (v := .int _ _) rfl) ?_ | refine o_q (q_mv) ?_
  refine o_q (q_sub (c := (((x + 4294967296 - y) % 4294967296 : Nat) : Int)) rfl rfl (by rw [IntKind.wrap_u32]; omega)) ?_
  first | refine o_q (q_mvv (v := .int _ _) rfl) ?_ | refine o_q (q_mv) ?_
  refine o_q (q_sub (c := (d : Int)) rfl rfl (by rw [IntKind.wrap_u32]; omega)) ?_
  first | refine o_q (q_asv (v := .int _ _) rfl) ?_ | refine o_q (q_as) ?_
  refine JL.nil ?_
  refine J.seq ?_
  refine J.region ?_
  first | refine o_q (q_mvv (v := .int _ _) rfl) ?_ | refine o_q (q_mv) ?_
  refine o_q (q_com32 rfl hx) ?_
  first | refine o_q (q_mvv (v := .int _ _) rfl) ?_ | refine o_q (q_mv) ?_
  refine o_q (q_and32 rfl rfl p2 hy) ?_
  first | refine o_q (q_mvv (v := .int _ _) rfl) ?_ | refine o_q (q_mv) ?_
  first | refine o_q (q_mvv (v := .int _ _) rfl) ?_ | refine o_q (q_mv) ?_
  refine o_q (q_xor32 rfl rfl hx hy) ?_
  refine o_q (q_com32 rfl p1) ?_
  first | refine o_q (q_mvv (v := .int _ _) rfl) ?_ | refine o_q (q_mv) ?_
  refine o_q (q_and32 rfl rfl p3 hdl) ?_
  refine o_q (q_or32 rfl rfl p4 p5) ?_
  refine o_q (q_shr (c := ((if x < y + c then 1 else 0 : Nat) : Int)) rfl rfl (by decide) (by rw [← hbr]; simp only [IntKind.bits]; exact fd31 _)) ?_
  first | refine o_q (q_asv (v := .int _ _) rfl) ?_ | refine o_q (q_as) ?_
  refine JL.nil ?_
  refine J.ret ?_
  exact ret_ok (fn := Try.f79) rfl (.tmp rfl (.tmp rfl .nil)) rfl
end Go.Z
