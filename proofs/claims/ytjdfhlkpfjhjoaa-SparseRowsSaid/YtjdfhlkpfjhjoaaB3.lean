/- The calculus beneath the proofs: the rules for operations that only reckon, read or write what is known. No program is named here. -/
import Derived.Test.YtjdfhlkpfjhjoaaB2
set_option linter.unusedSimpArgs false
set_option linter.unusedVariables false
namespace Go.Z
open Go Go.RowKit

/-! ### What is known of a type -/
class Sl (P : Program) (T : TypeId) (e : outParam TypeId) : Prop where u : P.underlying T = some (.slice e)
class Sz (P : Program) (T : TypeId) (n : outParam Nat) : Prop where i : ∃ i, P.info? T = some i ∧ i.size = n
class By (P : Program) (T : TypeId) (n : outParam Nat) : Prop where i : ∃ i, P.info? T = some i ∧ i.bytes = n
class Zv (P : Program) (T : TypeId) (z : outParam (List Value)) : Prop where i : ∃ i v, P.info? T = some i ∧ i.zero = some v ∧ v.cells = ⟨z⟩
class Kd (P : Program) (T : TypeId) (k : outParam IntKind) : Prop where u : P.underlying T = some (.int k)
class Bl (P : Program) (T : TypeId) : Prop where u : P.underlying T = some .bool
/-- Of one cell. -/
class Pr (P : Program) (T : TypeId) : Prop where u : ∃ d, P.underlying T = some d ∧ (match d with | .struct _ | .array _ _ => false | _ => true) = true
/-- A struct or an array, of n cells. -/
class Ag1 (P : Program) (T : TypeId) (n : outParam Nat) : Prop where
  u : ∃ d, P.underlying T = some d ∧ (match d with | .struct _ | .array _ _ => true | _ => false) = true
  i : ∃ i, P.info? T = some i ∧ i.size = n
/-- Field f of the struct T begins at off. -/
class Fo (P : Program) (T : TypeId) (f : Nat) (off : outParam Nat) : Prop where
  u : ∃ fs fd i, P.underlying T = some (.struct fs) ∧ fs[f]? = some fd ∧ fd.offset = off ∧ P.info? fd.type = some i ∧ (i.size == 0) = false
class Ent (P : Program) (f : FuncId) : Prop where e : ∀ args w, (callFunc f args).run P w = .ok (.enter f args) w

abbrev row (T : TypeId) (l : List Value) : Obj := .cells ⟨l⟩ T (0, 0)

variable {C : Cfg} {Q Q' : Post} {ds : List Deferred} {ρ : Env} {h : Heap} {L : Own} {ops : Array Oper} {rest : List Oper}
variable {d : Nat} {ty : TypeId} {pos : String} {after : Array Edge} {S : World → Prop}

theorem sz_of {P : Program} {T n : Nat} (h : (P.info? T).map (·.size) = some n) : Sz P T n := ⟨by
  cases e : P.info? T with
  | none => rw [e] at h; cases h
  | some i => rw [e] at h; exact ⟨i, rfl, by simpa using h⟩⟩
theorem by_of {P : Program} {T n : Nat} (h : (P.info? T).map (·.bytes) = some n) : By P T n := ⟨by
  cases e : P.info? T with
  | none => rw [e] at h; cases h
  | some i => rw [e] at h; exact ⟨i, rfl, by simpa using h⟩⟩
theorem zv_of {P : Program} {T : Nat} {z : List Value} (h : (P.info? T).bind (fun i => i.zero.map (·.cells.toList)) = some z) : Zv P T z := ⟨by
  cases e : P.info? T with
  | none => rw [e] at h; cases h
  | some i =>
    rw [e] at h
    cases ez : i.zero with
    | none => simp [ez] at h
    | some v => simp [ez] at h; exact ⟨i, v, rfl, ez, by rw [← h]⟩⟩
theorem pr_of {P : Program} {T : Nat} (h : (P.underlying T).map (fun d => match d with | .struct _ | .array _ _ => false | _ => true) = some true) : Pr P T := ⟨by
  cases e : P.underlying T with
  | none => rw [e] at h; cases h
  | some d => rw [e] at h; exact ⟨d, rfl, by simpa using h⟩⟩
theorem ag_of {P : Program} {T n : Nat} (h : (P.underlying T).map (fun d => match d with | .struct _ | .array _ _ => true | _ => false) = some true) (hs : (P.info? T).map (·.size) = some n) : Ag1 P T n := ⟨by
  cases e : P.underlying T with
  | none => rw [e] at h; cases h
  | some d => rw [e] at h; exact ⟨d, rfl, by simpa using h⟩, (sz_of hs).i⟩
def foCheck (P : Program) (T f : Nat) : Option (Nat × Nat) :=
  match P.underlying T with
  | some (.struct fs) => match fs[f]? with
    | some fd => match P.info? fd.type with
      | some i => some (fd.offset, i.size)
      | none => none
    | none => none
  | _ => none
theorem fo_of {P : Program} {T f off : Nat} (n : Nat) (h : foCheck P T f = some (off, n)) (hn : (n == 0) = false) : Fo P T f off := ⟨by
  unfold foCheck at h
  split at h
  · rename_i fs hu
    split at h
    · rename_i fd hf
      split at h
      · rename_i i hi
        simp at h
        exact ⟨fs, fd, i, hu, hf, h.1, hi, by rw [h.2]; exact hn⟩
      · cases h
    · cases h
  · cases h⟩
theorem ent_of {P : Program} {f : FuncId} {fn : Func} (hf : P.funcs[f]? = some fn) (h : (fn.body.isNone || fn.name == "runtime.NumGoroutine") = false) : Ent P f := ⟨fun args w => by
  simp only [Bool.or_eq_false_iff] at h
  have h1 : ¬ fn.name = "runtime.NumGoroutine" := by simpa using h.2
  have h2 : ¬ fn.body = none := fun e => by simp [e] at h
  simp [callFunc, program, Sem.run, bind, Sem.bind, hf, h1, h2, pure]⟩
theorem run_isAgg {P : Program} {T : TypeId} {w : World} (hp : Pr P T) : (isAgg T).run P w = .ok false w := by
  obtain ⟨d, hd, hm⟩ := hp.u
  simp only [isAgg, underlying, program, bind, Sem.bind, Sem.run, hd, pure]
  cases d <;> simp_all [Sem.run, Sem.bind]
theorem run_isAgg1 {P : Program} {T n : TypeId} {w : World} (hp : Ag1 P T n) : (isAgg T).run P w = .ok true w := by
  obtain ⟨d, hd, hm⟩ := hp.u
  simp only [isAgg, underlying, program, bind, Sem.bind, Sem.run, hd, pure]
  cases d <;> simp_all [Sem.run, Sem.bind]


theorem wrap_in {k : IntKind} {n : Int} (h : k.min ≤ n ∧ n ≤ k.max) : k.wrap n = n := by
  cases k <;> simp only [IntKind.min, IntKind.max, IntKind.signed, IntKind.bits, if_true, Bool.false_eq_true, if_false] at h <;> simp only [IntKind.wrap, IntKind.signed, IntKind.bits] <;> simp at h ⊢ <;> omega

theorem wi64 {n : Int} (h : -9223372036854775808 ≤ n ∧ n ≤ 9223372036854775807) : IntKind.i64.wrap n = n := IntWalk.i64_in n h
theorem wu32 {n : Int} (h : 0 ≤ n ∧ n ≤ 4294967295) : IntKind.u32.wrap n = n := IntWalk.u32_in n h
theorem wu64 {n : Int} (h : 0 ≤ n ∧ n ≤ 18446744073709551615) : IntKind.u64.wrap n = n := by rw [IntKind.wrap_u64]; omega
theorem q_len {x : Operand} {T e : TypeId} [hu : Sl C.P T e] {p : Option Addr} {n c : Nat} (hx : ρ.ev x = .slice p n c) : Qr C ρ S (.call { callee := .builtin .len, args := #[x], argTypes := #[T] }) ty (.int .i64 (n : Int)) := ⟨rfl, fun w _ => by simp [go_sem, hx, hu.u]⟩

section ints
variable {x y : Operand} {T T' : TypeId} {q : IntKind} {a b c : Int}
theorem q_pickT {c x y : Operand} {b : Bool} (hc : ρ.ev c = .bool b) (hb : b = true) : Qr C ρ S (.pick c x y) ty (ρ.ev x) := ⟨rfl, fun w _ => by subst hb; simp [go_sem, hc]⟩
theorem q_pickF {c x y : Operand} {b : Bool} (hc : ρ.ev c = .bool b) (hb : b = false) : Qr C ρ S (.pick c x y) ty (ρ.ev y) := ⟨rfl, fun w _ => by subst hb; simp [go_sem, hc]⟩
theorem q_pick {c x y : Operand} {b : Bool} {v : Value} (hc : ρ.ev c = .bool b) (hv : (if b then ρ.ev x else ρ.ev y) = v) : Qr C ρ S (.pick c x y) ty v := ⟨rfl, fun w _ => by subst hv; simp [go_sem, hc]⟩

/- arithmetic: c is what the sum comes to -/
theorem q_add (hx : ρ.ev x = .int q a) (hy : ρ.ev y = .int q b) (hc : q.wrap (a + b) = c) : Qr C ρ S (.binOp .add T x y T') ty (.int q c) := ⟨rfl, fun w _ => by subst hc; simp [go_sem, hx, hy]⟩
theorem q_sub (hx : ρ.ev x = .int q a) (hy : ρ.ev y = .int q b) (hc : q.wrap (a - b) = c) : Qr C ρ S (.binOp .sub T x y T') ty (.int q c) := ⟨rfl, fun w _ => by subst hc; simp [go_sem, hx, hy]⟩
theorem q_mul (hx : ρ.ev x = .int q a) (hy : ρ.ev y = .int q b) (hc : q.wrap (a * b) = c) : Qr C ρ S (.binOp .mul T x y T') ty (.int q c) := ⟨rfl, fun w _ => by subst hc; simp [go_sem, hx, hy]⟩
theorem q_quo (hx : ρ.ev x = .int q a) (hy : ρ.ev y = .int q b) (h0 : b ≠ 0) (hc : q.wrap (a.tdiv b) = c) : Qr C ρ S (.binOp .quo T x y T') ty (.int q c) := ⟨rfl, fun w _ => by subst hc; simp [go_sem, hx, hy, h0]⟩
theorem q_rem (hx : ρ.ev x = .int q a) (hy : ρ.ev y = .int q b) (h0 : b ≠ 0) (hc : a.tmod b = c) : Qr C ρ S (.binOp .rem T x y T') ty (.int q c) := ⟨rfl, fun w _ => by subst hc; simp [go_sem, hx, hy, h0]⟩
theorem q_shr {q' : IntKind} (hx : ρ.ev x = .int q a) (hy : ρ.ev y = .int q' b) (h0 : 0 ≤ b) (hc : a.fdiv (2 ^ min b.toNat q.bits) = c) : Qr C ρ S (.binOp .shr T x y T') ty (.int q c) := ⟨rfl, fun w _ => by
      have hb : ¬ b < 0 := by omega
      subst hc; simp [execOp, eqGuard, binOp, Op.shift, hx, hy, hb, Sem.run, bind, Sem.bind, pure]⟩
theorem q_shl {q' : IntKind} (hx : ρ.ev x = .int q a) (hy : ρ.ev y = .int q' b) (h0 : 0 ≤ b) (hc : q.wrap (a * 2 ^ min b.toNat q.bits) = c) : Qr C ρ S (.binOp .shl T x y T') ty (.int q c) := ⟨rfl, fun w _ => by
      have hb : ¬ b < 0 := by omega
      subst hc; simp [execOp, eqGuard, binOp, Op.shift, hx, hy, hb, Sem.run, bind, Sem.bind, pure]⟩
theorem q_neg (hx : ρ.ev x = .int q a) (hc : q.wrap (0 - a) = c) : Qr C ρ S (.unOp .neg T x) ty (.int q c) := ⟨rfl, fun w _ => by subst hc; simp [execOp, Op.unary, Op.intArith, hx, Sem.run, bind, Sem.bind, pure]⟩
theorem q_not {b : Bool} (hx : ρ.ev x = .bool b) : Qr C ρ S (.unOp .not T x) ty (.bool (!b)) := ⟨rfl, fun w _ => by simp [execOp, Op.unary, hx, Sem.run, bind, Sem.bind, pure]⟩
theorem q_cv {T' : TypeId} {q' q0 : IntKind} [hu : Kd C.P T' q'] [hT : Kd C.P T q0] (hx : ρ.ev x = .int q a) (hc : q'.wrap a = c) : Qr C ρ S (.convert T T' x) ty (.int q' c) := ⟨rfl, fun w _ => by
      subst hc; simp [execOp, convert, underlying, program, hx, hT.u, hu.u, Conv.intToInt, Sem.run, bind, Sem.bind, pure]⟩

/- comparisons -/
theorem q_lss (hx : ρ.ev x = .int q a) (hy : ρ.ev y = .int q b) : Qr C ρ S (.binOp .lss T x y T') ty (.bool (decide (a < b))) := ⟨rfl, fun w _ => by simp [go_sem, hx, hy]⟩
theorem q_leq (hx : ρ.ev x = .int q a) (hy : ρ.ev y = .int q b) : Qr C ρ S (.binOp .leq T x y T') ty (.bool (decide (a ≤ b))) := ⟨rfl, fun w _ => by simp [go_sem, hx, hy]⟩
theorem q_gtr (hx : ρ.ev x = .int q a) (hy : ρ.ev y = .int q b) : Qr C ρ S (.binOp .gtr T x y T') ty (.bool (decide (b < a))) := ⟨rfl, fun w _ => by simp [go_sem, hx, hy]⟩
theorem q_geq (hx : ρ.ev x = .int q a) (hy : ρ.ev y = .int q b) : Qr C ρ S (.binOp .geq T x y T') ty (.bool (decide (b ≤ a))) := ⟨rfl, fun w _ => by simp [go_sem, hx, hy]⟩
theorem q_eql (hx : ρ.ev x = .int q a) (hy : ρ.ev y = .int q b) : Qr C ρ S (.binOp .eql T x y T') ty (.bool (decide (a = b))) := ⟨rfl, fun w _ => by
      have e : (a == b) = decide (a = b) := rfl
      simp [go_sem, hx, hy, e]⟩
theorem q_neq (hx : ρ.ev x = .int q a) (hy : ρ.ev y = .int q b) : Qr C ρ S (.binOp .neq T x y T') ty (.bool (decide (a ≠ b))) := ⟨rfl, fun w _ => by
      have e : (a != b) = decide (a ≠ b) := by by_cases h : a = b <;> simp [h]
      simp [go_sem, hx, hy, e]⟩
theorem run_equal_bool {P : Program} {T : TypeId} [hu : Bl P T] (a b : Bool) (w : World) : (Op.equal T (.bool a) (.bool b)).run P w = .ok (a == b) w := by
  unfold Op.equal
  rw [show Op.maxDepth = 9999 + 1 from rfl]
  unfold Op.equalIn
  simp [underlying, program, hu.u, Sem.run, bind, Sem.bind, pure]
theorem q_beq {a b : Bool} [hu : Bl C.P T] (hx : ρ.ev x = .bool a) (hy : ρ.ev y = .bool b) : Qr C ρ S (.binOp .eql T x y T') ty (.bool (a == b)) := ⟨rfl, fun w _ => by
      have := run_equal_bool (P := C.P) (T := T) a b w
      simp only [go_sem, hx, hy]
      simp [binOp, this, Sem.run_bind, Result.andThen, Sem.run, pure]⟩
theorem q_bne {a b : Bool} [hu : Bl C.P T] (hx : ρ.ev x = .bool a) (hy : ρ.ev y = .bool b) : Qr C ρ S (.binOp .neq T x y T') ty (.bool (!(a == b))) := ⟨rfl, fun w _ => by
      have := run_equal_bool (P := C.P) (T := T) a b w
      simp only [go_sem, hx, hy]
      simp [binOp, this, Sem.run_bind, Result.andThen, Sem.run, pure]⟩
theorem q_ex {vs : List Value} {i : Nat} {v : Value} (hx : ρ.ev x = .tuple ⟨vs⟩) (hv : vs[i]? = some v) : Qr C ρ S (.extract x i) ty v := ⟨rfl, fun w _ => by
      simp [execOp, Instr.extract, hx, hv, Sem.run, bind, Sem.bind, pure]⟩
end ints

section addresses
variable {x y : Operand} {T T' : TypeId} {b o : Nat}
theorem q_fa {f off : Nat} [hf : Fo C.P T f off] (hx : ρ.ev x = .pointer (some ⟨b, o, none⟩)) : Qr C ρ S (.fieldAddr T x f) ty (.pointer (some ⟨b, o + off, none⟩)) := ⟨rfl, fun w _ => by
      obtain ⟨fs, fd, i, h1, h2, h3, h4, h5⟩ := hf.u
      have ha : (Addr.mk b o none).add off = ⟨b, o + off, none⟩ := by unfold Addr.add; split <;> simp_all
      simp [execOp, Instr.fieldAt, Instr.sureAddr, underlying, program, hx, h1, h2, fieldPlace, sizeOf, typeInfo, h4, Sem.run, bind, Sem.bind, pure]
      simp at h5
      simp [h5, h3, ha, Sem.run, Sem.bind]⟩
theorem q_nil {a : Addr} (hx : ρ.ev x = .pointer (some a)) : Qr C ρ S (.nilCheck x) ty (.pointer (some a)) := ⟨rfl, fun w _ => by
      simp [execOp, hx, Sem.run, bind, Sem.bind, pure]⟩
/-- An element's address. -/
theorem q_ia {e sz n c : Nat} {q : IntKind} {j : Int} [hu : Sl C.P T e] [hs : Sz C.P e sz] (hx : ρ.ev x = .slice (some ⟨b, o, none⟩) n c) (hy : ρ.ev y = .int q j) (hj : 0 ≤ j ∧ j < (n : Int)) : Qr C ρ S (.indexAddr T x y) ty (.pointer (some ⟨b, o + j.toNat * sz, none⟩)) := ⟨rfl, fun w _ => by
      obtain ⟨i, h1, h2⟩ := hs.i
      have ha : (Addr.mk b o none).add (j.toNat * sz) = ⟨b, o + j.toNat * sz, none⟩ := by unfold Addr.add; split <;> simp_all
      simp [execOp, Instr.indexAt, asIntOf, underlying, program, hx, hy, hu.u, hj, sizeOf, typeInfo, h1, h2, ha, Sem.run, bind, Sem.bind, pure]⟩
/-- An element's address in a variable that is an array. -/
theorem q_ja {e sz n : Nat} {q : IntKind} {j : Int} [hs : Sz C.P e sz] (hu : C.P.underlying T = some (.array n e)) (hx : ρ.ev x = .pointer (some ⟨b, o, none⟩)) (hy : ρ.ev y = .int q j) (hj : 0 ≤ j ∧ j < (n : Int)) : Qr C ρ S (.indexAddr T x y) ty (.pointer (some ⟨b, o + j.toNat * sz, none⟩)) := ⟨rfl, fun w _ => by
      obtain ⟨i, h1, h2⟩ := hs.i
      have ha : (Addr.mk b o none).add (j.toNat * sz) = ⟨b, o + j.toNat * sz, none⟩ := by unfold Addr.add; split <;> simp_all
      simp [execOp, Instr.indexAt, Instr.sureAddr, asIntOf, underlying, program, hx, hy, hu, hj, sizeOf, typeInfo, h1, h2, ha, Sem.run, bind, Sem.bind, pure]⟩
end addresses
end Go.Z
