/- The calculus beneath the proofs: append to a slice that is written no more and has no room. No program is named here. -/
import Derived.Test.YtjdfhlkpfjhjoaaB11
set_option linter.unusedSimpArgs false
set_option linter.unusedVariables false
namespace Go.Z
open Go Go.RowKit
variable {C : Cfg} {Q Q' : Post} {ds : List Deferred} {ρ : Env} {h : Heap} {L : Own} {ops : Array Oper} {rest : List Oper}
variable {d : Nat} {ty : TypeId} {pos : String} {after : Array Edge} {S : World → Prop}

theorem run_appendF {P : Program} {w0 w : World} {h0 h : Heap} {L : Own} {T T' e sz by' n m : Nat} {z xs us : List Value} {p : Option Addr} {y : Value} {ty : TypeId} [hu : Sl P T e] [hs : Sz P e sz] [hb : By P e by'] [hz : Zv P e z]
    (hzl : z.length = sz) (hst : St w0 h0 h L w) (s : SlAt h (.slice p n n) n sz xs) (hby : by' ≤ 100000) (hlen : n + m ≤ 1000000000) (src : Src P sz T' y m us w) :
    ∃ v' h' w', (Builtin.append_ #[T, T'] ty #[.slice p n n, y]).run P w = .ok v' w' ∧ Step h h' ∧ SlAt h' v' (n + m) sz (xs ++ us) ∧ St w0 h0 h' L w' := by
  obtain ⟨i, hi1, hi2⟩ := hb.i
  obtain ⟨i2, hi3, hi4⟩ := hs.i
  obtain ⟨i3, zv, hi5, hi6, hi7⟩ := hz.i
  have e1 : i2 = i := by rw [hi1] at hi3; cases hi3; rfl
  have e2 : i3 = i := by rw [hi1] at hi5; cases hi5; rfl
  subst e1 e2
  have hus := src.newsLen
  have hxl : xs.length = n * sz := by obtain ⟨_, _, _, _, h3, _⟩ := s; exact h3
  have hxu : (xs ++ us).length = (n + m) * sz := by rw [List.length_append, hxl, hus, Nat.add_mul]
  have hsrc : Src P i3.size T' y m us w := hi4.symm ▸ src
  have hzs : zv.cells.size = sz := by rw [hi7]; exact hzl
  rcases Nat.eq_zero_or_pos m with rfl | hm
  · obtain rfl : us = [] := List.eq_nil_of_length_eq_zero (by simpa using hus)
    have hr := run_append_nothing (P := P) w T T' ty e i3 hu.u hi1 p n n (Nat.le_refl _) y hsrc
    exact ⟨_, h, w, hr, ⟨fun _ _ x => x⟩, by simpa using s, hst⟩
  · have hold : (Builtin.firstCells i3.size n (.slice p n n)).run P w.drew = .ok xs.toArray w.drew := by
      obtain ⟨p', c', e, _, _, h4⟩ := s
      cases e
      rcases h4 with ⟨rfl, _⟩ | ⟨b, o, rfl, l, T0, fr, hb, hl⟩
      · obtain rfl : xs = [] := List.eq_nil_of_length_eq_zero (by simpa using hxl)
        cases p <;> simp [Builtin.firstCells, loadCells, loadCellsFrom, Sem.run, Pure.pure]
      · have hb2 : w.drew.heap[b]? = some (.cells ⟨l⟩ T0 fr) := hst.fro b _ hb
        simp only [Builtin.firstCells]
        rw [hi4, ← hxl]
        exact run_loadCells hb2 hl
    have hfit : Builtin.nextslicecap (n + m) n * i3.bytes ≤ 281474976710656 := growslice_fits (by omega) (by
      rw [hi2]
      calc (n + m) * by' ≤ 1000000000 * 100000 := Nat.mul_le_mul hlen hby
        _ ≤ 140737488355328 := by decide)
    have hr := run_append_grow_src (P := P) w T T' ty e i3 zv hu.u hi1 hi6 p n n xs hold y m us hsrc (by omega) (by omega) hfit
    have hge := grownCap_ge w (n + m) n e
    have hst' : St w0 h0 h L w.drew := hst.drew
    have hobj : row e ((xs ++ us) ++ (Builtin.zeroCells zv.cells (grownCap w (n + m) n e - (n + m))).toList) = .cells ((xs ++ us).toArray ++ Builtin.zeroCells zv.cells (grownCap w (n + m) n e - (n + m))) e := by
      unfold row
      congr 1
      apply Array.ext'
      simp
    have h1 := hst'.alloc (row e ((xs ++ us) ++ (Builtin.zeroCells zv.cells (grownCap w (n + m) n e - (n + m))).toList))
    have hsz : w.drew.heap.size = w.heap.size := rfl
    rw [hsz] at h1
    obtain ⟨f1, f2⟩ := h1.freeze
    refine ⟨_, _, _, hr, f2, ⟨_, _, rfl, hge, hxu, .inr ⟨w.heap.size, 0, rfl, _, e, _, by simp only [if_true]; rfl, ?_⟩⟩, ?_⟩
    · exact LookN.of_get (vs := xs ++ us) (o := 0) fun j u hj => by simpa [List.getElem?_append_left (List.getElem?_eq_some_iff.1 hj).1] using (by rw [List.getElem?_append_left (List.getElem?_eq_some_iff.1 hj).1]; exact hj : ((xs ++ us) ++ (Builtin.zeroCells zv.cells (grownCap w (n + m) n e - (n + m))).toList)[j]? = some u)
    · rw [← hobj]; exact f1
theorem o_appF {x y : Operand} {T T' e sz by' n m : Nat} {z xs us : List Value} {p : Option Addr} {u : Value} [hu : Sl C.P T e] [hs : Sz C.P e sz] [hb : By C.P e by'] [hz : Zv C.P e z]
    (hx : ρ.ev x = .slice p n n) (hy : ρ.ev y = u) (s : SlAt h (.slice p n n) n sz xs) (src : ∀ w, St C.w0 C.h0 h L w → Src C.P sz T' u m us w) (hlen : n + m ≤ 1000000000)
    (k : ∀ v' h', Step h h' → SlAt h' v' (n + m) sz (xs ++ us) → JL C ops Q rest ds (ρ.set d v') h' L) (hn : Nat.blt d C.n = true := by rfl) (hzl : z.length = sz := by rfl) (hby : Nat.ble by' 100000 = true := by rfl) :
    JL C ops Q (⟨some d, .call { callee := .builtin .append, args := #[x, y], argTypes := #[T, T'] }, ty, pos, after, none⟩ :: rest) ds ρ h L :=
  JL.val rfl rfl rfl hn fun w hst => by
    obtain ⟨v', h', w', h1, h2, h3, h4⟩ := run_appendF (T := T) (T' := T') (e := e) (ty := ty) hzl hst s (Nat.le_of_ble_eq_true hby) hlen (src w hst)
    refine ⟨v', h', L, w', ?_, h4, k v' h' h2 h3⟩
    have hx' : (Builtin.append_ #[T, T'] ty #[ρ.ev x, ρ.ev y]).run C.P w = .ok v' w' := by rw [hx, hy]; exact h1
    have hm : (#[x, y] : Array Operand).map ρ.ev = #[ρ.ev x, ρ.ev y] := by simp
    simp only [execOp, resolve, hm]
    exact run_v hx'
end Go.Z
