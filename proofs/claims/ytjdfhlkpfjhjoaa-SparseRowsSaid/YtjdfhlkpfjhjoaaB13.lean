/- The calculus beneath the proofs: a nil slice that is made longer by zeros, capacities. No program is named here. -/
import Derived.Test.YtjdfhlkpfjhjoaaB12
set_option linter.unusedSimpArgs false
set_option linter.unusedVariables false
namespace Go.Z
open Go Go.RowKit
variable {C : Cfg} {Q Q' : Post} {ds : List Deferred} {ρ : Env} {h : Heap} {L : Own} {ops : Array Oper} {rest : List Oper}
variable {d : Nat} {ty : TypeId} {pos : String} {after : Array Edge} {S : World → Prop}
theorem q_cap {x : Operand} {T e : TypeId} [hu : Sl C.P T e] {p : Option Addr} {n c : Nat} (hx : ρ.ev x = .slice p n c) : Qr C ρ S (.call { callee := .builtin .cap, args := #[x], argTypes := #[T] }) ty (.int .i64 (c : Int)) := ⟨rfl, fun w _ => by
  simp [go_sem, hx, Builtin.cap_, und_run hu.u, Result.andThen]⟩
theorem run_append_zeros {P : Program} (w : World) (t tx ty e : TypeId) (i : TypeInfo) (z : Value) (k : IntKind) (ht : P.underlying t = some (.slice e)) (hk : P.underlying tx = some (.int k)) (hi : P.info? e = some i) (hz : i.zero = some z) (n : Nat) (q : IntKind)
    (hn : 0 < n) (hsz : 0 < i.size) (hb : 0 < i.bytes) (h48 : n * i.bytes ≤ 281474976710656) (h63 : (n : Int) ≤ 9223372036854775807) (hfit : Builtin.nextslicecap n 0 * i.bytes ≤ 281474976710656) :
    (Builtin.append_ #[t, tx] ty #[.slice none 0 0, .int q (n : Int)]).run P w =
      .ok (.slice (some ⟨w.heap.size, 0, none⟩) n (grownCap w n 0 e))
        (w.drew.alloc (.cells (Builtin.zeroCells z.cells n ++ Builtin.zeroCells z.cells (grownCap w n 0 e - n)) e)) := by
  have hw : IntKind.i64.wrap (n : Int) = (n : Int) := wi64 (by omega)
  have h0 : ¬ ((n : Int) < 0) := by omega
  have h1 : ¬ (281474976710656 < (n : Int) * (i.bytes : Int)) := by
    rw [← Int.natCast_mul]; omega
  have h2 : ¬ (n * i.size = 0) := by
    have := Nat.mul_pos hn hsz; omega
  have h3 : ¬ (n ≤ 0) := by omega
  have h4 : ¬ (281474976710656 < Builtin.nextslicecap n 0 * i.bytes) := by omega
  have h5 : ¬ (9223372036854775807 < (n : Int)) := by omega
  have h6 : ¬ n = 0 := by omega
  have h7 : ¬ i.size = 0 := by omega
  simp [Builtin.append_, run_underlying ht, run_underlying hk, sizeOf, typeInfo, zeroValue, hi, hz, asInt, asIntOf, hw, h0, h1, h2, h3, h4, h5, h6, h7, Question.forced, Builtin.firstCells, loadCells, loadCellsFrom, newRow, grownCap]
theorem o_appZ {x y : Operand} {T T' e sz by' n : Nat} {z : List Value} {kk q : IntKind} [hu : Sl C.P T e] [hk : Kd C.P T' kk] [hs : Sz C.P e sz] [hb : By C.P e by'] [hz : Zv C.P e z]
    (hx : ρ.ev x = .slice none 0 0) (hy : ρ.ev y = .int q (n : Int)) (hn0 : 0 < n) (hlen : n ≤ 1000000000)
    (k : ∀ b c sp, n ≤ c → sp.length = c * sz → JL C ops Q rest ds (ρ.set d (.slice (some ⟨b, 0, none⟩) n c)) h ((b, row e sp) :: L)) (hn : Nat.blt d C.n = true := by rfl) (hzl : z.length = sz := by rfl) (hsz : 0 < sz := by decide) (hby : (Nat.ble by' 100000 && Nat.blt 0 by') = true := by rfl) :
    JL C ops Q (⟨some d, .call { callee := .builtin .append, args := #[x, y], argTypes := #[T, T'] }, ty, pos, after, none⟩ :: rest) ds ρ h L :=
  JL.val rfl rfl rfl hn fun w hst => by
    obtain ⟨i, hi1, hi2⟩ := hb.i
    obtain ⟨i2, hi3, hi4⟩ := hs.i
    obtain ⟨i3, zv, hi5, hi6, hi7⟩ := hz.i
    have e1 : i2 = i := by rw [hi1] at hi3; cases hi3; rfl
    have e2 : i3 = i := by rw [hi1] at hi5; cases hi5; rfl
    subst e1 e2
    simp only [Bool.and_eq_true] at hby
    have hb1 := Nat.le_of_ble_eq_true hby.1
    have hb2 : 0 < by' := by simpa [Nat.blt_eq] using hby.2
    have hzs : zv.cells.size = sz := by rw [hi7]; exact hzl
    have hm : n * by' ≤ 140737488355328 := by
      calc n * by' ≤ 1000000000 * 100000 := Nat.mul_le_mul hlen hb1
        _ ≤ 140737488355328 := by decide
    have hfit : Builtin.nextslicecap n 0 * i3.bytes ≤ 281474976710656 := growslice_fits (by omega) (by rw [hi2]; exact hm)
    have hr := run_append_zeros (P := C.P) w T T' ty e i3 zv kk hu.u hk.u hi1 hi6 n q hn0 (by omega) (by omega) (by rw [hi2]; omega) (by omega) hfit
    have hge : n ≤ grownCap w n 0 e := grownCap_ge w n 0 e
    refine ⟨_, h, _, _, ?_, (hst.drew).alloc (row e (Builtin.zeroCells zv.cells n ++ Builtin.zeroCells zv.cells (grownCap w n 0 e - n)).toList), k _ (grownCap w n 0 e) _ hge ?_⟩
    · have hm : (#[x, y] : Array Operand).map ρ.ev = #[.slice none 0 0, .int q (n : Int)] := by simp [hx, hy]
      simp only [execOp, resolve, hm]
      exact run_v hr
    · rw [Array.length_toList, Array.size_append, size_zeroCells, size_zeroCells, hzs, ← Nat.add_mul]
      congr 1; omega
end Go.Z
