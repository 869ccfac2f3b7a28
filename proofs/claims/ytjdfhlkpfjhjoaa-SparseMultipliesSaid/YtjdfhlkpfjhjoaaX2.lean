/- Texts of ours, joined: B2, B3, B4, B5, B6, B7, B8, B9, B10. -/
import Derived.Test.YtjdfhlkpfjhjoaaX1
import Derived.Deep.Upon
import Derived.Laws.CopyOwn
section
set_option linter.unusedSimpArgs false
set_option linter.unusedVariables false
/- The calculus beneath the proofs: lists of operations, guards, and one rule for each kind of operation that makes no block. No program is named here. -/
namespace Go.Z
open Go Go.RowKit

def wpL (r : Option Nat) (P : Program) (ops : Array Oper) (Q : Exit → Act → World → Prop) : List Oper → Act → World → Prop
  | [], a, w => Q .normal a w
  | o :: rest, a, w => if Region.wanted o (yielded ops a.tmps) then o.wpIn (fen r) 0 P a w (wpL r P ops Q rest) Q else wpL r P ops Q rest (a.put o.dst undef) w

theorem wpOpsIn_eq {r : Option Nat} {P : Program} {ops : Array Oper} {Q : Exit → Act → World → Prop} (l : List Oper) : ∀ k, (∀ j, l[j]? = ops[k + j]?) → ∀ a w, wpL r P ops Q l a w → wpOpsIn (fen r) 0 P ops Q (List.range' k l.length) a w := by
  induction l with
  | nil => intro k _ a w h; simpa [wpOpsIn, wpL] using h
  | cons o l ih =>
    intro k h a w hw
    have h0 : ops[k]? = some o := by simpa using (h 0).symm
    have ih' := ih (k + 1) (fun j => by have := h (j + 1); simpa [Nat.add_assoc, Nat.add_comm 1 j] using this)
    simp only [List.length_cons, List.range'_succ, wpOpsIn, h0]
    simp only [wpL] at hw
    split
    · rename_i hx; rw [if_pos hx] at hw
      refine ⟨hw.1, ?_⟩
      have := hw.2
      generalize (o.semAt (fen r).round a.eval).run P w = res at this ⊢
      cases res with
      | ok nx w' =>
        cases nx <;> simp only [Oper.uponIn] at this ⊢ <;>
          first
            | exact ih' _ _ this
            | exact ⟨this.1, CallsIn.mono this.2 (fun e w'' he => by cases e <;> first | exact ih' _ _ he | exact he)⟩
            | exact ⟨this.1, RowsIn.mono this.2 (fun _ _ he => ih' _ _ he)⟩
            | exact ⟨this.1, RoundIn.mono this.2 (fun e w'' he => by cases e <;> first | exact ih' _ _ he | exact he)⟩
      | halt x w' => cases x <;> simp only [Oper.uponIn] at this ⊢ <;> exact this
    · rename_i hx; rw [if_neg hx] at hw
      exact ⟨fun _ _ => trivial, ih' _ _ hw⟩

def JL (C : Cfg) (ops : Array Oper) (Q : Post) (rest : List Oper) (ds : List Deferred) (ρ : Env) (h : Heap) (L : Own) : Prop :=
  ∀ a w, Ag C.n ds a ρ → St C.w0 C.h0 h L w → wpL C.r C.P ops (lift C Q) rest a w

variable {C : Cfg} {Q Q' : Post} {ds : List Deferred} {ρ : Env} {h : Heap} {L : Own} {ops : Array Oper} {rest : List Oper}

theorem J.region {id : Nat} {l : List Oper} (hj : JL C l.toArray Q l ds ρ h L) : J C (.region id l.toArray false) Q ds ρ h L := fun a w ha hs => by
  refine wpIn_region ?_
  have := wpOpsIn_eq l 0 (fun j => by simp) a w (hj a w ha hs)
  simpa [List.range_eq_range'] using this

theorem JL.nil (hq : Q .normal ds ρ h L) : JL C ops Q [] ds ρ h L := fun _ _ ha hs => ⟨_, _, _, _, ha, hs, hq⟩

/-- A deferring statement is none of these. -/
def calm : Op → Bool
  | .defer _ => false
  | _ => true
theorem semAt_calm {r : Option Nat} {ρ : Operand → Value} {o : Oper} (hc : calm o.op = true) : o.semAt r ρ = execOp ρ o :=
  Oper.semAt_eq _ _ _ fun c e => by rw [e] at hc; cases hc

theorem JL.step {o : Oper} (hg : o.guard = none) (hc : calm o.op = true)
    (run : ∀ a w, Ag C.n ds a ρ → St C.w0 C.h0 h L w → o.uponIn (fen C.r) 0 C.P a (wpL C.r C.P ops (lift C Q) rest) (lift C Q) ((execOp ρ.ev o).run C.P w)) :
    JL C ops Q (o :: rest) ds ρ h L := fun a w ha hs => by
  simp only [wpL, Region.wanted, hg, if_true]
  exact ⟨fun _ _ => trivial, by rw [semAt_calm hc, ha.eval]; exact run a w ha hs⟩

/-- An operation that gives a value. -/
theorem JL.val {o : Oper} {d : Nat} (hg : o.guard = none) (hc : calm o.op = true) (hd : o.dst = some d) (hn : Nat.blt d C.n = true)
    (run : ∀ w, St C.w0 C.h0 h L w → ∃ v h' L' w', (execOp ρ.ev o).run C.P w = .ok (.value v) w' ∧ St C.w0 C.h0 h' L' w' ∧ JL C ops Q rest ds (ρ.set d v) h' L') :
    JL C ops Q (o :: rest) ds ρ h L := JL.step hg hc fun a w ha hs => by
  obtain ⟨v, h', L', w', hr, hs', hk⟩ := run w hs
  rw [hr, Oper.uponIn_value, hd]
  exact hk _ _ (ha.put hn v) hs'

/-- One that gives a value and leaves the memory as it is. -/
theorem JL.pure {o : Oper} {d : Nat} {v : Value} (hg : o.guard = none) (hc : calm o.op = true) (hd : o.dst = some d) (hn : Nat.blt d C.n = true)
    (run : ∀ w, St C.w0 C.h0 h L w → (execOp ρ.ev o).run C.P w = .ok (.value v) w) (k : JL C ops Q rest ds (ρ.set d v) h L) :
    JL C ops Q (o :: rest) ds ρ h L := JL.val hg hc hd hn fun w hs => ⟨v, h, L, w, run w hs, hs, k⟩

/-- One that gives none. -/
theorem JL.unit {o : Oper} (hg : o.guard = none) (hc : calm o.op = true) (hd : o.dst = none)
    (run : ∀ w, St C.w0 C.h0 h L w → ∃ h' L' w', (execOp ρ.ev o).run C.P w = .ok .skip w' ∧ St C.w0 C.h0 h' L' w' ∧ JL C ops Q rest ds ρ h' L') :
    JL C ops Q (o :: rest) ds ρ h L := JL.step hg hc fun a w ha hs => by
  obtain ⟨h', L', w', hr, hs', hk⟩ := run w hs
  rw [hr, Oper.uponIn_skip, hd]
  exact hk _ _ (ha.putNone undef) hs'

theorem yielded_eq {n : Nat} {a : Act} (ha : Ag n ds a ρ) {j t : Nat} {b : Bool} (hj : (ops[j]?).bind (·.dst) = some t) (hb : ρ t = .bool b) : yielded ops a.tmps j = some b := by
  have hg := ha.get t
  rw [hb] at hg
  have hlt : t < a.tmps.size := by
    rcases Nat.lt_or_ge t a.tmps.size with h | h
    · exact h
    · simp [Array.getElem?_eq_none h, undef] at hg
  simp only [yielded, hj, Option.bind_some]
  simp [hlt] at hg
  simp [hlt, hg]

section guards
variable {dst : Option Tmp} {op : Op} {ty : TypeId} {pos : String} {after : Array Edge}
theorem JL.guardT {j t : Nat} {b want : Bool} (hj : (ops[j]?).bind (·.dst) = some t) (hb : ρ t = .bool b) (hw : b = want)
    (k : JL C ops Q (⟨dst, op, ty, pos, after, none⟩ :: rest) ds ρ h L) : JL C ops Q (⟨dst, op, ty, pos, after, some (j, want)⟩ :: rest) ds ρ h L := fun a w ha hs => by
  have := k a w ha hs
  have hw1 : Region.wanted ⟨dst, op, ty, pos, after, some (j, want)⟩ (yielded ops a.tmps) = true := by
    simp only [Region.wanted]; rw [yielded_eq ha hj hb, hw]; simp
  have hw0 : Region.wanted ⟨dst, op, ty, pos, after, none⟩ (yielded ops a.tmps) = true := rfl
  simp only [wpL] at this ⊢
  rw [if_pos hw1]
  rw [if_pos hw0] at this
  exact this
theorem JL.guardF {j t d : Nat} {b want : Bool} (hj : (ops[j]?).bind (·.dst) = some t) (hb : ρ t = .bool b) (hw : b = !want) (hn : Nat.blt d C.n = true)
    (k : JL C ops Q rest ds (ρ.set d undef) h L) : JL C ops Q (⟨some d, op, ty, pos, after, some (j, want)⟩ :: rest) ds ρ h L := fun a w ha hs => by
  have hw1 : ¬ Region.wanted ⟨some d, op, ty, pos, after, some (j, want)⟩ (yielded ops a.tmps) = true := by
    simp only [Region.wanted]; rw [yielded_eq ha hj hb, hw]; cases want <;> simp
  simp only [wpL]
  rw [if_neg hw1]
  exact k _ _ (ha.put hn undef) hs
end guards

/-- The worlds in which h is frozen and L owned, and perhaps more. -/
def SS (C : Cfg) (h : Heap) (L : Own) : World → Prop := fun w => ∃ h' L', Ext h h' ∧ (∀ p ∈ L, p ∈ L') ∧ St C.w0 C.h0 h' L' w
/-- The operation yields v in every world that meets S, and leaves it as it is. -/
def Qr (C : Cfg) (ρ : Env) (S : World → Prop) (op : Op) (ty : TypeId) (v : Value) : Prop :=
  calm op = true ∧ ∀ w, S w → (execOp ρ.ev ⟨none, op, ty, "", #[], none⟩).run C.P w = .ok (.value v) w

section ops
variable {d : Nat} {ty : TypeId} {pos : String} {after : Array Edge} {op : Op} {S : World → Prop}
theorem Qr.exec {v : Value} (q : Qr C ρ S op ty v) {dst : Option Tmp} {g : Option (Nat × Bool)} {w : World} (hw : S w) : (execOp ρ.ev ⟨dst, op, ty, pos, after, g⟩).run C.P w = .ok (.value v) w := q.2 w hw
theorem o_q {v : Value} (q : Qr C ρ (SS C h L) op ty v) (k : JL C ops Q rest ds (ρ.set d v) h L) (hn : Nat.blt d C.n = true := by rfl) : JL C ops Q (⟨some d, op, ty, pos, after, none⟩ :: rest) ds ρ h L :=
  JL.pure rfl q.1 rfl hn (fun w hs => q.exec ⟨h, L, Ext.refl h, fun _ hp => hp, hs⟩) k
theorem q_mv {x : Operand} : Qr C ρ S (.move x) ty (ρ.ev x) := ⟨rfl, fun _ _ => rfl⟩
theorem q_as {x : Operand} : Qr C ρ S (.assign x) ty (ρ.ev x) := ⟨rfl, fun _ _ => rfl⟩
end ops
end Go.Z
end
section
set_option linter.unusedSimpArgs false
set_option linter.unusedVariables false
/- The calculus beneath the proofs: the rules for operations that only reckon, read or write what is known. No program is named here. -/
set_option linter.unusedSimpArgs false
set_option linter.unusedVariables false
namespace Go.Z
open Go Go.RowKit

/-! ### What is known of a type -/
class Sl (P : Program) (T : TypeId) (e : outParam TypeId) : Prop where u : P.underlying T = some (.slice e)
class Sz (P : Program) (T : TypeId) (n : outParam Nat) : Prop where i : ∃ i, P.info? T = some i ∧ i.size = n
class By (P : Program) (T : TypeId) (n : outParam Nat) : Prop where i : ∃ i, P.info? T = some i ∧ i.bytes = n
class Zv (P : Program) (T : TypeId) (z : outParam (List Value)) : Prop where i : ∃ i v, P.info? T = some i ∧ i.zero = some v ∧ v.cells = ⟨z⟩
class Kd (P : Program) (T : TypeId) (k : outParam IntKind) : Prop where u : P.underlying T = some (.int k)
class Bl (P : Program) (T : TypeId) : Prop where u : P.underlying T = some .bool
/-- Of one cell. -/
class Pr (P : Program) (T : TypeId) : Prop where u : ∃ d, P.underlying T = some d ∧ (match d with | .struct _ | .array _ _ => false | _ => true) = true
/-- A struct or an array, of n cells. -/
class Ag1 (P : Program) (T : TypeId) (n : outParam Nat) : Prop where
  u : ∃ d, P.underlying T = some d ∧ (match d with | .struct _ | .array _ _ => true | _ => false) = true
  i : ∃ i, P.info? T = some i ∧ i.size = n
/-- Field f of the struct T begins at off. -/
class Fo (P : Program) (T : TypeId) (f : Nat) (off : outParam Nat) : Prop where
  u : ∃ fs fd i, P.underlying T = some (.struct fs) ∧ fs[f]? = some fd ∧ fd.offset = off ∧ P.info? fd.type = some i ∧ (i.size == 0) = false
class Ent (P : Program) (f : FuncId) : Prop where e : ∀ args w, (callFunc f args).run P w = .ok (.enter f args) w

abbrev row (T : TypeId) (l : List Value) : Obj := .cells ⟨l⟩ T (0, 0)

variable {C : Cfg} {Q Q' : Post} {ds : List Deferred} {ρ : Env} {h : Heap} {L : Own} {ops : Array Oper} {rest : List Oper}
variable {d : Nat} {ty : TypeId} {pos : String} {after : Array Edge} {S : World → Prop}

theorem sz_of {P : Program} {T n : Nat} (h : (P.info? T).map (·.size) = some n) : Sz P T n := ⟨by
  cases e : P.info? T with
  | none => rw [e] at h; cases h
  | some i => rw [e] at h; exact ⟨i, rfl, by simpa using h⟩⟩
theorem by_of {P : Program} {T n : Nat} (h : (P.info? T).map (·.bytes) = some n) : By P T n := ⟨by
  cases e : P.info? T with
  | none => rw [e] at h; cases h
  | some i => rw [e] at h; exact ⟨i, rfl, by simpa using h⟩⟩
theorem zv_of {P : Program} {T : Nat} {z : List Value} (h : (P.info? T).bind (fun i => i.zero.map (·.cells.toList)) = some z) : Zv P T z := ⟨by
  cases e : P.info? T with
  | none => rw [e] at h; cases h
  | some i =>
    rw [e] at h
    cases ez : i.zero with
    | none => simp [ez] at h
    | some v => simp [ez] at h; exact ⟨i, v, rfl, ez, by rw [← h]⟩⟩
theorem pr_of {P : Program} {T : Nat} (h : (P.underlying T).map (fun d => match d with | .struct _ | .array _ _ => false | _ => true) = some true) : Pr P T := ⟨by
  cases e : P.underlying T with
  | none => rw [e] at h; cases h
  | some d => rw [e] at h; exact ⟨d, rfl, by simpa using h⟩⟩
theorem ag_of {P : Program} {T n : Nat} (h : (P.underlying T).map (fun d => match d with | .struct _ | .array _ _ => true | _ => false) = some true) (hs : (P.info? T).map (·.size) = some n) : Ag1 P T n := ⟨by
  cases e : P.underlying T with
  | none => rw [e] at h; cases h
  | some d => rw [e] at h; exact ⟨d, rfl, by simpa using h⟩, (sz_of hs).i⟩
def foCheck (P : Program) (T f : Nat) : Option (Nat × Nat) :=
  match P.underlying T with
  | some (.struct fs) => match fs[f]? with
    | some fd => match P.info? fd.type with
      | some i => some (fd.offset, i.size)
      | none => none
    | none => none
  | _ => none
theorem fo_of {P : Program} {T f off : Nat} (n : Nat) (h : foCheck P T f = some (off, n)) (hn : (n == 0) = false) : Fo P T f off := ⟨by
  unfold foCheck at h
  split at h
  · rename_i fs hu
    split at h
    · rename_i fd hf
      split at h
      · rename_i i hi
        simp at h
        exact ⟨fs, fd, i, hu, hf, h.1, hi, by rw [h.2]; exact hn⟩
      · cases h
    · cases h
  · cases h⟩
theorem ent_of {P : Program} {f : FuncId} {fn : Func} (hf : P.funcs[f]? = some fn) (h : (fn.body.isNone || fn.name == "runtime.NumGoroutine") = false) : Ent P f := ⟨fun args w => by
  simp only [Bool.or_eq_false_iff] at h
  have h1 : ¬ fn.name = "runtime.NumGoroutine" := by simpa using h.2
  have h2 : ¬ fn.body = none := fun e => by simp [e] at h
  simp [callFunc, program, Sem.run, bind, Sem.bind, hf, h1, h2, pure]⟩
theorem run_isAgg {P : Program} {T : TypeId} {w : World} (hp : Pr P T) : (isAgg T).run P w = .ok false w := by
  obtain ⟨d, hd, hm⟩ := hp.u
  simp only [isAgg, underlying, program, bind, Sem.bind, Sem.run, hd, pure]
  cases d <;> simp_all [Sem.run, Sem.bind]
theorem run_isAgg1 {P : Program} {T n : TypeId} {w : World} (hp : Ag1 P T n) : (isAgg T).run P w = .ok true w := by
  obtain ⟨d, hd, hm⟩ := hp.u
  simp only [isAgg, underlying, program, bind, Sem.bind, Sem.run, hd, pure]
  cases d <;> simp_all [Sem.run, Sem.bind]


theorem wrap_in {k : IntKind} {n : Int} (h : k.min ≤ n ∧ n ≤ k.max) : k.wrap n = n := by
  cases k <;> simp only [IntKind.min, IntKind.max, IntKind.signed, IntKind.bits, if_true, Bool.false_eq_true, if_false] at h <;> simp only [IntKind.wrap, IntKind.signed, IntKind.bits] <;> simp at h ⊢ <;> omega

theorem wi64 {n : Int} (h : -9223372036854775808 ≤ n ∧ n ≤ 9223372036854775807) : IntKind.i64.wrap n = n := IntWalk.i64_in n h
theorem wu32 {n : Int} (h : 0 ≤ n ∧ n ≤ 4294967295) : IntKind.u32.wrap n = n := IntWalk.u32_in n h
theorem wu64 {n : Int} (h : 0 ≤ n ∧ n ≤ 18446744073709551615) : IntKind.u64.wrap n = n := by rw [IntKind.wrap_u64]; omega
theorem q_len {x : Operand} {T e : TypeId} [hu : Sl C.P T e] {p : Option Addr} {n c : Nat} (hx : ρ.ev x = .slice p n c) : Qr C ρ S (.call { callee := .builtin .len, args := #[x], argTypes := #[T] }) ty (.int .i64 (n : Int)) := ⟨rfl, fun w _ => by simp [go_sem, hx, hu.u]⟩

section ints
variable {x y : Operand} {T T' : TypeId} {q : IntKind} {a b c : Int}
theorem q_pickT {c x y : Operand} {b : Bool} (hc : ρ.ev c = .bool b) (hb : b = true) : Qr C ρ S (.pick c x y) ty (ρ.ev x) := ⟨rfl, fun w _ => by subst hb; simp [go_sem, hc]⟩
theorem q_pickF {c x y : Operand} {b : Bool} (hc : ρ.ev c = .bool b) (hb : b = false) : Qr C ρ S (.pick c x y) ty (ρ.ev y) := ⟨rfl, fun w _ => by subst hb; simp [go_sem, hc]⟩
theorem q_pick {c x y : Operand} {b : Bool} {v : Value} (hc : ρ.ev c = .bool b) (hv : (if b then ρ.ev x else ρ.ev y) = v) : Qr C ρ S (.pick c x y) ty v := ⟨rfl, fun w _ => by subst hv; simp [go_sem, hc]⟩

/- arithmetic: c is what the sum comes to -/
theorem q_add (hx : ρ.ev x = .int q a) (hy : ρ.ev y = .int q b) (hc : q.wrap (a + b) = c) : Qr C ρ S (.binOp .add T x y T') ty (.int q c) := ⟨rfl, fun w _ => by subst hc; simp [go_sem, hx, hy]⟩
theorem q_sub (hx : ρ.ev x = .int q a) (hy : ρ.ev y = .int q b) (hc : q.wrap (a - b) = c) : Qr C ρ S (.binOp .sub T x y T') ty (.int q c) := ⟨rfl, fun w _ => by subst hc; simp [go_sem, hx, hy]⟩
theorem q_mul (hx : ρ.ev x = .int q a) (hy : ρ.ev y = .int q b) (hc : q.wrap (a * b) = c) : Qr C ρ S (.binOp .mul T x y T') ty (.int q c) := ⟨rfl, fun w _ => by subst hc; simp [go_sem, hx, hy]⟩
theorem q_quo (hx : ρ.ev x = .int q a) (hy : ρ.ev y = .int q b) (h0 : b ≠ 0) (hc : q.wrap (a.tdiv b) = c) : Qr C ρ S (.binOp .quo T x y T') ty (.int q c) := ⟨rfl, fun w _ => by subst hc; simp [go_sem, hx, hy, h0]⟩
theorem q_rem (hx : ρ.ev x = .int q a) (hy : ρ.ev y = .int q b) (h0 : b ≠ 0) (hc : a.tmod b = c) : Qr C ρ S (.binOp .rem T x y T') ty (.int q c) := ⟨rfl, fun w _ => by subst hc; simp [go_sem, hx, hy, h0]⟩
theorem q_shr {q' : IntKind} (hx : ρ.ev x = .int q a) (hy : ρ.ev y = .int q' b) (h0 : 0 ≤ b) (hc : a.fdiv (2 ^ min b.toNat q.bits) = c) : Qr C ρ S (.binOp .shr T x y T') ty (.int q c) := ⟨rfl, fun w _ => by
      have hb : ¬ b < 0 := by omega
      subst hc; simp [execOp, eqGuard, binOp, Op.shift, hx, hy, hb, Sem.run, bind, Sem.bind, pure]⟩
theorem q_shl {q' : IntKind} (hx : ρ.ev x = .int q a) (hy : ρ.ev y = .int q' b) (h0 : 0 ≤ b) (hc : q.wrap (a * 2 ^ min b.toNat q.bits) = c) : Qr C ρ S (.binOp .shl T x y T') ty (.int q c) := ⟨rfl, fun w _ => by
      have hb : ¬ b < 0 := by omega
      subst hc; simp [execOp, eqGuard, binOp, Op.shift, hx, hy, hb, Sem.run, bind, Sem.bind, pure]⟩
theorem q_neg (hx : ρ.ev x = .int q a) (hc : q.wrap (0 - a) = c) : Qr C ρ S (.unOp .neg T x) ty (.int q c) := ⟨rfl, fun w _ => by subst hc; simp [execOp, Op.unary, Op.intArith, hx, Sem.run, bind, Sem.bind, pure]⟩
theorem q_not {b : Bool} (hx : ρ.ev x = .bool b) : Qr C ρ S (.unOp .not T x) ty (.bool (!b)) := ⟨rfl, fun w _ => by simp [execOp, Op.unary, hx, Sem.run, bind, Sem.bind, pure]⟩
theorem q_cv {T' : TypeId} {q' q0 : IntKind} [hu : Kd C.P T' q'] [hT : Kd C.P T q0] (hx : ρ.ev x = .int q a) (hc : q'.wrap a = c) : Qr C ρ S (.convert T T' x) ty (.int q' c) := ⟨rfl, fun w _ => by
      subst hc; simp [execOp, convert, underlying, program, hx, hT.u, hu.u, Conv.intToInt, Sem.run, bind, Sem.bind, pure]⟩

/- comparisons -/
theorem q_lss (hx : ρ.ev x = .int q a) (hy : ρ.ev y = .int q b) : Qr C ρ S (.binOp .lss T x y T') ty (.bool (decide (a < b))) := ⟨rfl, fun w _ => by simp [go_sem, hx, hy]⟩
theorem q_leq (hx : ρ.ev x = .int q a) (hy : ρ.ev y = .int q b) : Qr C ρ S (.binOp .leq T x y T') ty (.bool (decide (a ≤ b))) := ⟨rfl, fun w _ => by simp [go_sem, hx, hy]⟩
theorem q_gtr (hx : ρ.ev x = .int q a) (hy : ρ.ev y = .int q b) : Qr C ρ S (.binOp .gtr T x y T') ty (.bool (decide (b < a))) := ⟨rfl, fun w _ => by simp [go_sem, hx, hy]⟩
theorem q_geq (hx : ρ.ev x = .int q a) (hy : ρ.ev y = .int q b) : Qr C ρ S (.binOp .geq T x y T') ty (.bool (decide (b ≤ a))) := ⟨rfl, fun w _ => by simp [go_sem, hx, hy]⟩
theorem q_eql (hx : ρ.ev x = .int q a) (hy : ρ.ev y = .int q b) : Qr C ρ S (.binOp .eql T x y T') ty (.bool (decide (a = b))) := ⟨rfl, fun w _ => by
      have e : (a == b) = decide (a = b) := rfl
      simp [go_sem, hx, hy, e]⟩
theorem q_neq (hx : ρ.ev x = .int q a) (hy : ρ.ev y = .int q b) : Qr C ρ S (.binOp .neq T x y T') ty (.bool (decide (a ≠ b))) := ⟨rfl, fun w _ => by
      have e : (a != b) = decide (a ≠ b) := by by_cases h : a = b <;> simp [h]
      simp [go_sem, hx, hy, e]⟩
theorem run_equal_bool {P : Program} {T : TypeId} [hu : Bl P T] (a b : Bool) (w : World) : (Op.equal T (.bool a) (.bool b)).run P w = .ok (a == b) w := by
  unfold Op.equal
  rw [show Op.maxDepth = 9999 + 1 from rfl]
  unfold Op.equalIn
  simp [underlying, program, hu.u, Sem.run, bind, Sem.bind, pure]
theorem q_beq {a b : Bool} [hu : Bl C.P T] (hx : ρ.ev x = .bool a) (hy : ρ.ev y = .bool b) : Qr C ρ S (.binOp .eql T x y T') ty (.bool (a == b)) := ⟨rfl, fun w _ => by
      have := run_equal_bool (P := C.P) (T := T) a b w
      simp only [go_sem, hx, hy]
      simp [binOp, this, Sem.run_bind, Result.andThen, Sem.run, pure]⟩
theorem q_bne {a b : Bool} [hu : Bl C.P T] (hx : ρ.ev x = .bool a) (hy : ρ.ev y = .bool b) : Qr C ρ S (.binOp .neq T x y T') ty (.bool (!(a == b))) := ⟨rfl, fun w _ => by
      have := run_equal_bool (P := C.P) (T := T) a b w
      simp only [go_sem, hx, hy]
      simp [binOp, this, Sem.run_bind, Result.andThen, Sem.run, pure]⟩
theorem q_ex {vs : List Value} {i : Nat} {v : Value} (hx : ρ.ev x = .tuple ⟨vs⟩) (hv : vs[i]? = some v) : Qr C ρ S (.extract x i) ty v := ⟨rfl, fun w _ => by
      simp [execOp, Instr.extract, hx, hv, Sem.run, bind, Sem.bind, pure]⟩
end ints

section addresses
variable {x y : Operand} {T T' : TypeId} {b o : Nat}
theorem q_fa {f off : Nat} [hf : Fo C.P T f off] (hx : ρ.ev x = .pointer (some ⟨b, o, none⟩)) : Qr C ρ S (.fieldAddr T x f) ty (.pointer (some ⟨b, o + off, none⟩)) := ⟨rfl, fun w _ => by
      obtain ⟨fs, fd, i, h1, h2, h3, h4, h5⟩ := hf.u
      have ha : (Addr.mk b o none).add off = ⟨b, o + off, none⟩ := by unfold Addr.add; split <;> simp_all
      simp [execOp, Instr.fieldAt, Instr.sureAddr, underlying, program, hx, h1, h2, fieldPlace, sizeOf, typeInfo, h4, Sem.run, bind, Sem.bind, pure]
      simp at h5
      simp [h5, h3, ha, Sem.run, Sem.bind]⟩
theorem q_nil {a : Addr} (hx : ρ.ev x = .pointer (some a)) : Qr C ρ S (.nilCheck x) ty (.pointer (some a)) := ⟨rfl, fun w _ => by
      simp [execOp, hx, Sem.run, bind, Sem.bind, pure]⟩
/-- An element's address. -/
theorem q_ia {e sz n c : Nat} {q : IntKind} {j : Int} [hu : Sl C.P T e] [hs : Sz C.P e sz] (hx : ρ.ev x = .slice (some ⟨b, o, none⟩) n c) (hy : ρ.ev y = .int q j) (hj : 0 ≤ j ∧ j < (n : Int)) : Qr C ρ S (.indexAddr T x y) ty (.pointer (some ⟨b, o + j.toNat * sz, none⟩)) := ⟨rfl, fun w _ => by
      obtain ⟨i, h1, h2⟩ := hs.i
      have ha : (Addr.mk b o none).add (j.toNat * sz) = ⟨b, o + j.toNat * sz, none⟩ := by unfold Addr.add; split <;> simp_all
      simp [execOp, Instr.indexAt, asIntOf, underlying, program, hx, hy, hu.u, hj, sizeOf, typeInfo, h1, h2, ha, Sem.run, bind, Sem.bind, pure]⟩
/-- An element's address in a variable that is an array. -/
theorem q_ja {e sz n : Nat} {q : IntKind} {j : Int} [hs : Sz C.P e sz] (hu : C.P.underlying T = some (.array n e)) (hx : ρ.ev x = .pointer (some ⟨b, o, none⟩)) (hy : ρ.ev y = .int q j) (hj : 0 ≤ j ∧ j < (n : Int)) : Qr C ρ S (.indexAddr T x y) ty (.pointer (some ⟨b, o + j.toNat * sz, none⟩)) := ⟨rfl, fun w _ => by
      obtain ⟨i, h1, h2⟩ := hs.i
      have ha : (Addr.mk b o none).add (j.toNat * sz) = ⟨b, o + j.toNat * sz, none⟩ := by unfold Addr.add; split <;> simp_all
      simp [execOp, Instr.indexAt, Instr.sureAddr, asIntOf, underlying, program, hx, hy, hu, hj, sizeOf, typeInfo, h1, h2, ha, Sem.run, bind, Sem.bind, pure]⟩
end addresses
end Go.Z
end
section
set_option linter.unusedSimpArgs false
set_option linter.unusedVariables false
/- The calculus beneath the proofs: the rules for loads, stores, new variables and calls. No program is named here. -/
set_option linter.unusedSimpArgs false
set_option linter.unusedVariables false
namespace Go.Z
open Go Go.RowKit

variable {C : Cfg} {Q Q' : Post} {ds : List Deferred} {ρ : Env} {h : Heap} {L : Own} {ops : Array Oper} {rest : List Oper}
variable {d : Nat} {ty : TypeId} {pos : String} {after : Array Edge} {S : World → Prop}

/-- From place o on the list reads vs. -/
def LookN (l : List Value) (o : Nat) : List Value → Prop
  | [] => True
  | v :: vs => l[o]? = some v ∧ LookN l (o + 1) vs
/-- vs is laid from place o on. -/
def setN (l : List Value) (o : Nat) : List Value → List Value
  | [] => l
  | v :: vs => setN (l.set o v) (o + 1) vs

theorem LookN.self : ∀ (p l : List Value), LookN (p ++ l) p.length l
  | _, [] => trivial
  | p, v :: vs => ⟨by simp, by have := LookN.self (p ++ [v]) vs; simpa using this⟩
theorem LookN.all (l : List Value) : LookN l 0 l := by simpa using LookN.self [] l
theorem LookN.get {l : List Value} : ∀ {vs : List Value} {o : Nat}, LookN l o vs → ∀ j v, vs[j]? = some v → l[o + j]? = some v
  | [], _, _, j, v, hv => by simp at hv
  | x :: vs, o, ⟨h1, h2⟩, 0, v, hv => by simp at hv; subst hv; simpa using h1
  | x :: vs, o, ⟨h1, h2⟩, j + 1, v, hv => by
    have := LookN.get h2 j v (by simpa using hv)
    rw [show o + (j + 1) = o + 1 + j by omega]; exact this

theorem cell_of {w : World} {b o : Nat} {l : List Value} {T : TypeId} {fr : Nat × Nat} {v : Value} (hb : w.heap[b]? = some (.cells ⟨l⟩ T fr)) (hv : l[o]? = some v) : w.cell? ⟨b, o, none⟩ = some v := by
  simp [World.cell?, hb, hv]
theorem add_none (b o n : Nat) : (Addr.mk b o none).add n = ⟨b, o + n, none⟩ := by unfold Addr.add; split <;> simp_all

theorem run_loadFrom {P : Program} {w : World} {b o : Nat} {l : List Value} {T : TypeId} {fr : Nat × Nat} (hb : w.heap[b]? = some (.cells ⟨l⟩ T fr)) :
    ∀ (vs : List Value) (i : Nat) (acc : Array Value), LookN l (o + i) vs → (loadCellsFrom ⟨b, o, none⟩ i vs.length acc).run P w = .ok (acc ++ ⟨vs⟩) w
  | [], i, acc, _ => by simp [loadCellsFrom, Sem.run, pure]
  | v :: vs, i, acc, ⟨h1, h2⟩ => by
    have hc := cell_of hb h1
    have ih := run_loadFrom (P := P) hb vs (i + 1) (acc.push v) h2
    simp only [List.length_cons, loadCellsFrom, load, add_none, bind, Sem.bind, Sem.run, hc, ih]
    simp
theorem run_loadCells {P : Program} {w : World} {b o : Nat} {l vs : List Value} {T : TypeId} {fr : Nat × Nat} (hb : w.heap[b]? = some (.cells ⟨l⟩ T fr)) (hl : LookN l o vs) :
    (loadCells ⟨b, o, none⟩ vs.length).run P w = .ok ⟨vs⟩ w := by
  rw [loadCells, run_loadFrom hb vs 0 #[] hl]; simp

theorem run_loadVar {P : Program} {w : World} {b o : Nat} {l : List Value} {T T' : TypeId} {fr : Nat × Nat} {v : Value} (hp : Pr P T) (hb : w.heap[b]? = some (.cells ⟨l⟩ T' fr)) (hv : l[o]? = some v) :
    (loadVar T ⟨b, o, none⟩).run P w = .ok v w := by
  simp [loadVar, run_isAgg hp, Result.andThen, load, Sem.run, cell_of hb hv]
theorem run_sizeOf {P : Program} {T n : Nat} {w : World} (hs : ∃ i, P.info? T = some i ∧ i.size = n) : (sizeOf T).run P w = .ok n w := by
  obtain ⟨i, h1, h2⟩ := hs
  simp [sizeOf, typeInfo, program, Sem.run, bind, pure, Sem.bind, h1, h2]
theorem run_loadVarA {P : Program} {w : World} {b o : Nat} {l vs : List Value} {T T' : TypeId} {fr : Nat × Nat} (hp : Ag1 P T vs.length) (hb : w.heap[b]? = some (.cells ⟨l⟩ T' fr)) (hv : LookN l o vs) :
    (loadVar T ⟨b, o, none⟩).run P w = .ok (.agg ⟨vs⟩) w := by
  simp [loadVar, run_isAgg1 hp, run_sizeOf hp.i, Result.andThen, Sem.run, run_loadCells hb hv]

/-- One cell, or what a struct's cells cannot be. -/
def plain : Value → Bool
  | .agg _ => false
  | .tuple _ => false
  | _ => true

theorem heap_setCell_same {w : World} {b o : Nat} {l : List Value} {T : TypeId} {v : Value} (hb : w.heap[b]? = some (row T l)) : (w.setCell ⟨b, o, none⟩ v).heap[b]? = some (row T (l.set o v)) := by
  obtain ⟨hlt, he⟩ := Array.getElem?_eq_some_iff.1 hb
  simp only [World.setCell]
  rw [Array.getElem?_modify]
  simp [hb]
theorem run_storeCells {P : Program} : ∀ (vs : List Value) (i : Nat) {w : World} {b o : Nat} {l : List Value} {T : TypeId}, w.heap[b]? = some (row T l) → o + i + vs.length ≤ l.length → (∀ v ∈ vs, plain v = true) →
    ∃ w', (storeCells ⟨b, o, none⟩ vs i).run P w = .ok () w' ∧ w'.os = w.os ∧ w'.tape = w.tape ∧ w'.output = w.output ∧ w'.heap.size = w.heap.size ∧ w'.heap[b]? = some (row T (setN l (o + i) vs)) ∧ ∀ k, k ≠ b → w'.heap[k]? = w.heap[k]?
  | [], i, w, b, o, l, T, hb, _, _ => ⟨w, by simp [storeCells, Sem.run, pure], rfl, rfl, rfl, rfl, hb, fun _ _ => rfl⟩
  | v :: vs, i, w, b, o, l, T, hb, hlen, hpl => by
    simp only [List.length_cons] at hlen
    have hlt : o + i < l.length := by omega
    have hc : w.cell? ⟨b, o + i, none⟩ = some l[o + i] := cell_of hb (by simp [hlt])
    have hf : w.frozen? ⟨b, o + i, none⟩ = false := by simp [World.frozen?, hb]
    have hb2 := heap_setCell_same (o := o + i) (v := v) hb
    obtain ⟨w', h1, h2, h3, h4, h5, h6, h7⟩ := run_storeCells (P := P) vs (i + 1) (o := o) hb2 (by simp; omega) (fun u hu => hpl u (List.mem_cons_of_mem _ hu))
    refine ⟨w', ?_, h2, h3, h4, by rw [h5]; simp [World.setCell], h6, fun k hk => (h7 k hk).trans (Below.heap_setCell _ _ _ _ hk)⟩
    have hp := hpl v (List.mem_cons_self ..)
    have : (store ((Addr.mk b o none).add i) v).run P w = .ok () (w.setCell ⟨b, o + i, none⟩ v) := by
      rw [add_none]
      cases v <;> simp_all [store, Sem.run, plain]
    simp [storeCells, Sem.run_bind, this, Result.andThen, h1]

/-- Block b among the owned ones: what it holds, and the owned ones with something else in its place. -/
class At (L : Own) (b : Nat) (o : outParam Obj) (f : outParam (Obj → Own)) : Prop where
  e : ∃ L1 L2, L = L1 ++ (b, o) :: L2 ∧ ∀ o', f o' = L1 ++ (b, o') :: L2
instance At.head {L : Own} {b : Nat} {o : Obj} : At ((b, o) :: L) b o (fun o' => (b, o') :: L) := ⟨[], L, rfl, fun _ => rfl⟩
instance At.tail {L : Own} {p : Nat × Obj} {b : Nat} {o : Obj} {f : Obj → Own} [a : At L b o f] : At (p :: L) b o (fun o' => p :: f o') := by
  obtain ⟨L1, L2, h1, h2⟩ := a.e
  exact ⟨p :: L1, L2, by rw [h1]; rfl, fun o' => by rw [h2]; rfl⟩
instance At.app {L M : Own} {b : Nat} {o : Obj} {f : Obj → Own} [a : At L b o f] : At (M ++ L) b o (fun o' => M ++ f o') := by
  obtain ⟨L1, L2, h1, h2⟩ := a.e
  exact ⟨M ++ L1, L2, by rw [h1, List.append_assoc], fun o' => by rw [h2, List.append_assoc]⟩

theorem At.heap {L : Own} {b : Nat} {o : Obj} {f : Obj → Own} (a : At L b o f) {w0 w : World} {h0 h : Heap} (s : St w0 h0 h L w) : w.heap[b]? = some o := by
  obtain ⟨L1, L2, rfl, _⟩ := a.e
  exact (s.own (b, o) (by simp)).2.1
theorem At.upd {L : Own} {b : Nat} {o : Obj} {f : Obj → Own} (a : At L b o f) {w0 w w' : World} {h0 h : Heap} (s : St w0 h0 h L w) {o' : Obj}
    (hos : w'.os = w.os) (ht : w'.tape = w.tape) (hout : w'.output = w.output) (hsz : w'.heap.size = w.heap.size)
    (hb : w'.heap[b]? = some o') (hne : ∀ k, k ≠ b → w'.heap[k]? = w.heap[k]?) : St w0 h0 h (f o') w' := by
  obtain ⟨L1, L2, rfl, hf⟩ := a.e
  rw [hf]
  exact s.upd hos ht hout hsz hb hne

/-- Frozen cells that are known. -/
def CellN (h : Heap) (b o : Nat) (vs : List Value) : Prop := ∃ l T fr, h b = some (.cells ⟨l⟩ T fr) ∧ LookN l o vs
theorem CellN.mono {h h' : Heap} {b o : Nat} {vs : List Value} (c : CellN h b o vs) (e : Ext h h') : CellN h' b o vs :=
  let ⟨l, T, fr, x, y⟩ := c; ⟨l, T, fr, e.le _ _ x, y⟩

section loads
variable {x y : Operand} {T T' : TypeId} {b o : Nat}
theorem At.heapS {L : Own} {b : Nat} {o : Obj} {f : Obj → Own} (a : At L b o f) {w : World} (s : SS C h L w) : w.heap[b]? = some o := by
  obtain ⟨h', L', _, hl, hs⟩ := s
  obtain ⟨L1, L2, rfl, _⟩ := a.e
  exact (hs.own (b, o) (hl _ (by simp))).2.1
theorem CellN.heapS {h1 : Heap} [e : Ext h1 h] {b o : Nat} {vs : List Value} (c : CellN h1 b o vs) {w : World} (s : SS C h L w) : ∃ l T fr, w.heap[b]? = some (.cells ⟨l⟩ T fr) ∧ LookN l o vs := by
  obtain ⟨h', L', he, _, hs⟩ := s
  obtain ⟨l, T, fr, x, y⟩ := c
  exact ⟨l, T, fr, hs.fro _ _ (he.le _ _ (e.le _ _ x)), y⟩
/-- A cell of an owned block. -/
theorem q_ld {l : List Value} {fr : Nat × Nat} {v : Value} {f : Obj → Own} [hp : Pr C.P T] (hx : ρ.ev x = .pointer (some ⟨b, o, none⟩)) (a : At L b (.cells ⟨l⟩ T' fr) f) (hv : l[o]? = some v) : Qr C ρ (SS C h L) (.load T x) ty v :=
  ⟨rfl, fun w hs => by simp [execOp, hx, Instr.loadAt, Instr.sureAddr, run_loadVar hp (a.heapS hs) hv, Sem.run_bind, Result.andThen, Sem.run, pure]⟩
/-- A struct or array in an owned block. -/
theorem q_lda {l vs : List Value} {fr : Nat × Nat} {f : Obj → Own} [hp : Ag1 C.P T vs.length] (hx : ρ.ev x = .pointer (some ⟨b, o, none⟩)) (a : At L b (.cells ⟨l⟩ T' fr) f) (hv : LookN l o vs) : Qr C ρ (SS C h L) (.load T x) ty (.agg ⟨vs⟩) :=
  ⟨rfl, fun w hs => by simp [execOp, hx, Instr.loadAt, Instr.sureAddr, run_loadVarA hp (a.heapS hs) hv, Sem.run_bind, Result.andThen, Sem.run, pure]⟩
/-- A variable that is a struct or array, whole. -/
theorem q_ldw {l : List Value} {fr : Nat × Nat} {f : Obj → Own} {n : Nat} [hp : Ag1 C.P T n] (hx : ρ.ev x = .pointer (some ⟨b, 0, none⟩)) (a : At L b (.cells ⟨l⟩ T' fr) f) (hv : l.length = n) : Qr C ρ (SS C h L) (.load T x) ty (.agg ⟨l⟩) := by
  subst hv
  exact q_lda hx a (LookN.all l)
/-- A frozen cell. -/
theorem q_ldf {h1 : Heap} {v : Value} [hp : Pr C.P T] [e : Ext h1 h] (hx : ρ.ev x = .pointer (some ⟨b, o, none⟩)) (hv : CellN h1 b o [v]) : Qr C ρ (SS C h L) (.load T x) ty v :=
  ⟨rfl, fun w hs => by
    obtain ⟨l, T', fr, hb, hl⟩ := hv.heapS hs
    simp [execOp, hx, Instr.loadAt, Instr.sureAddr, run_loadVar hp hb hl.1, Sem.run_bind, Result.andThen, Sem.run, pure]⟩
theorem q_ldfa {h1 : Heap} {vs : List Value} [hp : Ag1 C.P T vs.length] [e : Ext h1 h] (hx : ρ.ev x = .pointer (some ⟨b, o, none⟩)) (hv : CellN h1 b o vs) : Qr C ρ (SS C h L) (.load T x) ty (.agg ⟨vs⟩) :=
  ⟨rfl, fun w hs => by
    obtain ⟨l, T', fr, hb, hl⟩ := hv.heapS hs
    simp [execOp, hx, Instr.loadAt, Instr.sureAddr, run_loadVarA hp hb hl, Sem.run_bind, Result.andThen, Sem.run, pure]⟩
end loads

section stores
variable {x y : Operand} {T T' : TypeId} {b o : Nat}
/-- A store of the value whose cells are vs. -/
theorem o_st {l vs : List Value} {v : Value} {f : Obj → Own} (hs : ∃ i, C.P.info? T = some i ∧ i.size = vs.length) (hx : ρ.ev x = .pointer (some ⟨b, o, none⟩)) (hy : ρ.ev y = v) (hv : v.cells = ⟨vs⟩) (hpl : ∀ u ∈ vs, plain u = true)
    (a : At L b (row T' l) f) (hlen : o + vs.length ≤ l.length) (k : JL C ops Q rest ds ρ h (f (row T' (setN l o vs)))) :
    JL C ops Q (⟨none, .store T x y, ty, pos, after, none⟩ :: rest) ds ρ h L :=
  JL.unit rfl rfl rfl fun w hst => by
    obtain ⟨w', h1, h2, h3, h4, h5, h6, h7⟩ := run_storeCells (P := C.P) vs 0 (o := o) (a.heap hst) (by omega) hpl
    refine ⟨h, _, w', ?_, a.upd hst h2 h3 h4 h5 h6 h7, k⟩
    have hz : (Instr.storeAt T (ρ.ev x) (ρ.ev y)).run C.P w = .ok () w' := by
      rw [hx, hy]
      simp [Instr.storeAt, Instr.sureAddr, storeVar, hv, run_sizeOf hs, Sem.run_bind, Result.andThen, Sem.run, pure, h1]
    simp [execOp, hz, Sem.run_bind, Result.andThen, Sem.run, pure]
/-- Of one cell. -/
theorem o_st1 {l : List Value} {v : Value} {f : Obj → Own} [hs : Sz C.P T 1] (hx : ρ.ev x = .pointer (some ⟨b, o, none⟩)) (hy : ρ.ev y = v) (hpl : plain v = true)
    (a : At L b (row T' l) f) (hlen : o < l.length) (k : JL C ops Q rest ds ρ h (f (row T' (l.set o v)))) :
    JL C ops Q (⟨none, .store T x y, ty, pos, after, none⟩ :: rest) ds ρ h L :=
  o_st (vs := [v]) hs.i hx hy (by cases v <;> first | rfl | cases hpl) (by simpa using hpl) a (by simp; omega) k
/-- A whole variable that is a struct or array. -/
theorem o_stw {l vs : List Value} {f : Obj → Own} {n : Nat} [hs : Sz C.P T n] (hx : ρ.ev x = .pointer (some ⟨b, 0, none⟩)) (hy : ρ.ev y = .agg ⟨vs⟩) (hpl' : vs.all plain = true)
    (a : At L b (row T' l) f) (hl : l.length = n) (hv : vs.length = n) (k : JL C ops Q rest ds ρ h (f (row T' vs))) :
    JL C ops Q (⟨none, .store T x y, ty, pos, after, none⟩ :: rest) ds ρ h L := by
  have hpl : ∀ u ∈ vs, plain u = true := List.all_eq_true.1 hpl'
  have key : ∀ (vs p l : List Value), l.length = p.length + vs.length → (∀ j, j < p.length → l[j]? = p[j]?) → setN l p.length vs = p ++ vs := by
    intro vs
    induction vs with
    | nil =>
      intro p l hl hp
      simp only [setN, List.append_nil]
      refine List.ext_getElem? fun j => ?_
      rcases Nat.lt_or_ge j p.length with hj | hj
      · exact hp j hj
      · simp at hl; rw [List.getElem?_eq_none (by omega), List.getElem?_eq_none hj]
    | cons v vs ih =>
      intro p l hl hp
      have := ih (p ++ [v]) (l.set p.length v) (by simp at hl ⊢; omega) (fun j hj => by
        simp at hj
        by_cases e : j = p.length
        · have hlt : p.length < l.length := by rw [hl]; simp
          subst e; simp [hlt]
        · rw [List.getElem?_set_ne (by omega), hp j (by omega)]; rw [List.getElem?_append_left (by omega)])
      simpa [setN] using this
  have := key vs [] l (by simp only [List.length_nil]; omega) (by simp)
  refine o_st (vs := vs) (by obtain ⟨i, h1, h2⟩ := hs.i; exact ⟨i, h1, by omega⟩) hx hy rfl hpl a (by omega) ?_
  simpa using this ▸ k
end stores

section news
variable {x y : Operand} {T T' : TypeId}
theorem run_newRow {P : Program} {w : World} (T : TypeId) (cs : Array Value) : (newRow T cs).run P w = .ok ⟨w.heap.size, 0, none⟩ (w.alloc (.cells cs T)) := rfl
/-- A new variable, zero. -/
theorem o_al {z : List Value} [hz : Zv C.P T z] (k : ∀ b, JL C ops Q rest ds (ρ.set d (.pointer (some ⟨b, 0, none⟩))) h ((b, row T z) :: L)) (hn : Nat.blt d C.n = true := by rfl) :
    JL C ops Q (⟨some d, .alloc T, ty, pos, after, none⟩ :: rest) ds ρ h L :=
  JL.val rfl rfl rfl hn fun w hs => by
    obtain ⟨i, v, h1, h2, h3⟩ := hz.i
    refine ⟨_, h, _, w.alloc (row T z), ?_, hs.alloc _, k _⟩
    have hz : (zeroValue T).run C.P w = .ok v w := by simp [zeroValue, typeInfo, program, h1, h2, Sem.run_bind, Result.andThen, Sem.run, pure]
    simp [execOp, Instr.alloc, hz, h3, newVar, run_newRow, Sem.run_bind, Result.andThen, Sem.run, pure]
/-- A new variable that holds a value. -/
theorem o_bx {v : Value} {vs : List Value} (hx : ρ.ev x = v) (hv : v.cells = ⟨vs⟩) (k : ∀ b, JL C ops Q rest ds (ρ.set d (.pointer (some ⟨b, 0, none⟩))) h ((b, row T vs) :: L)) (hn : Nat.blt d C.n = true := by rfl) :
    JL C ops Q (⟨some d, .box T x, ty, pos, after, none⟩ :: rest) ds ρ h L :=
  JL.val rfl rfl rfl hn fun w hs => by
    refine ⟨_, h, _, w.alloc (row T vs), ?_, hs.alloc _, k _⟩
    simp [execOp, Instr.box, hx, hv, newVar, run_newRow, Sem.run_bind, Result.andThen, Sem.run, pure]
end news

/-! ### Calls -/
theorem JL.enter {o : Oper} {f : FuncId} {args : Array Value} (hg : o.guard = none) (hc : calm o.op = true) {d : Nat} (hd : o.dst = some d) (hn : Nat.blt d C.n = true)
    (run : ∀ w, St C.w0 C.h0 h L w → (execOp ρ.ev o).run C.P w = .ok (.enter f args) w)
    (hcall : ∀ w, St C.w0 C.h0 h L w → Calls C.P f args w fun e w' => ∃ v h' L', e = .returned v ∧ St C.w0 C.h0 h' L' w' ∧ JL C ops Q rest ds (ρ.set d v) h' L') :
    JL C ops Q (o :: rest) ds ρ h L := JL.step hg hc fun a w ha hs => by
  rw [run w hs, Oper.uponIn_enter]
  refine ⟨fun hx => (by simp [fen] at hx), ?_⟩
  have hin : CallsIn Fence.wide (0 - 1) C.P f args w _ := callsIn_wide.2 (hcall w hs)
  refine ⟨trivial, fun cs hr => ?_⟩
  obtain ⟨e, w', fr, ⟨v, h', L', rfl, hst, hk⟩, hsteps, hfn, hl⟩ := hin.2 cs (room_wide _)
  refine ⟨.returned v, w', fr, ?_, hsteps, hfn, hl⟩
  show wpL C.r C.P ops (lift C Q) rest (a.put o.dst v) w'
  rw [hd]
  exact hk _ _ (ha.put hn v) hst

theorem Fn.use {P : Program} {f : FuncId} {args : Array Value} {h : Heap} {R : Value → Heap → Prop} (hf : Fn P f args h R) {w0 w : World} {h0 : Heap} {L : Own} (s : St w0 h0 h L w) :
    Calls P f args w fun e w' => ∃ v h', e = .returned v ∧ Step h h' ∧ St w0 h0 h' L w' ∧ R v h' := by
  refine (hf w s.fro).mono ?_
  rintro e w' ⟨v, h', rfl, hb, he, hold, hfro, hR⟩
  refine ⟨v, h', rfl, he.toStep, ⟨s.below.trans (hb.mono s.below.size), fun b o x => he.le b o (s.ge b o x), fun b hb' => (hold b (Nat.lt_of_lt_of_le hb' s.below.size)).trans (s.old b hb'), hfro, fun p hp => ?_, s.nd⟩, hR⟩
  have hlt := s.ownLt hp
  exact ⟨(s.own p hp).1, (hb.block _ hlt).trans (s.own p hp).2.1, (hold _ hlt).trans (s.own p hp).2.2⟩

section calls
variable {f : FuncId} {R : Value → Heap → Prop}
theorem run_resolve_func {P : Program} {w : World} {ρ : Operand → Value} {xs : List Operand} {ts : Array TypeId} {ty : TypeId} [he : Ent P f] :
    (do let d ← resolve ρ { callee := .value (.func f), args := ⟨xs⟩, argTypes := ts } ty; invoke d.target d.args : Sem Next).run P w = .ok (.enter f ⟨xs.map ρ⟩) w ∨ ρ (.func f) ≠ .func (.func f) #[] #[] := by
  by_cases hr : ρ (.func f) = .func (.func f) #[] #[]
  · left
    simp [resolve, Deferred.ofValue, hr, invoke, he.e, Sem.run_bind, Result.andThen, Sem.run, pure]
  · exact .inr hr
/-- A call of a function. -/
theorem o_call {xs : List Operand} {ts : Array TypeId} [he : Ent C.P f] (hf : Fn C.P f (List.toArray (xs.map ρ.ev)) h R)
    (k : ∀ v h', Step h h' → R v h' → JL C ops Q rest ds (ρ.set d v) h' L) (hn : Nat.blt d C.n = true := by rfl) :
    JL C ops Q (⟨some d, .call { callee := .value (.func f), args := ⟨xs⟩, argTypes := ts }, ty, pos, after, none⟩ :: rest) ds ρ h L :=
  JL.enter rfl rfl rfl hn (fun w _ => by
      have := run_resolve_func (P := C.P) (w := w) (ρ := ρ.ev) (f := f) (xs := xs) (ts := ts) (ty := ty)
      rcases this with h | h
      · simpa [execOp] using h
      · exact absurd rfl h) fun w hs => (hf.use hs).mono fun e w' ⟨v, h', a, b, c, r⟩ => ⟨v, h', L, a, c, k v h' b r⟩
end calls
end Go.Z
end
section
set_option linter.unusedSimpArgs false
set_option linter.unusedVariables false
/- The calculus beneath the proofs: results of a function; slices, frozen and owned; make, append, copy, slice expressions. No program is named here. -/
set_option linter.unusedSimpArgs false
set_option linter.unusedVariables false
namespace Go.Z
open Go Go.RowKit

variable {C : Cfg} {Q Q' : Post} {ds : List Deferred} {ρ : Env} {h : Heap} {L : Own} {ops : Array Oper} {rest : List Oper}
variable {d : Nat} {ty : TypeId} {pos : String} {after : Array Edge}

/-! ### Results -/
/-- What a result variable gives. -/
inductive ResV (P : Program) (ρ : Env) (L : Own) : List ResultVar → List Value → Prop
  | nil : ResV P ρ L [] []
  | tmp {t : Tmp} {v : Value} {rs : List ResultVar} {vs : List Value} (e : ρ t = v) (r : ResV P ρ L rs vs) : ResV P ρ L (.tmp t :: rs) (v :: vs)
  | agg {t : Tmp} {T T' : TypeId} {b : Nat} {l : List Value} {f : Obj → Own} {fr : Nat × Nat} {rs : List ResultVar} {vs : List Value} (e : ρ t = .pointer (some ⟨b, 0, none⟩)) (a : At L b (.cells ⟨l⟩ T' fr) f)
      (g : Ag1 P T l.length) (r : ResV P ρ L rs vs) : ResV P ρ L (.cell t T :: rs) (.agg ⟨l⟩ :: vs)
  | one {t : Tmp} {T T' : TypeId} {b : Nat} {v : Value} {f : Obj → Own} {fr : Nat × Nat} {rs : List ResultVar} {vs : List Value} (e : ρ t = .pointer (some ⟨b, 0, none⟩)) (a : At L b (.cells ⟨[v]⟩ T' fr) f)
      (g : Pr P T) (r : ResV P ρ L rs vs) : ResV P ρ L (.cell t T :: rs) (v :: vs)

def pack : List Value → Value
  | [v] => v
  | vs => .tuple ⟨vs⟩

def resSem (tmps : Array Value) : ResultVar → Sem Value
  | .tmp t => Pure.pure (tmps.getD t undef)
  | .cell a t => do loadVar t (← asAddr (tmps.getD a undef))

theorem resV_run {P : Program} {ρ : Env} {L : Own} {n : Nat} {w0 w : World} {h0 h : Heap} {a : Act} {ds : List Deferred} (ha : Ag n ds a ρ) (hs : St w0 h0 h L w) :
    ∀ {rs : List ResultVar} {vs : List Value}, ResV P ρ L rs vs → (rs.mapM (resSem a.tmps)).run P w = .ok vs w := by
  intro rs vs r
  induction r with
  | nil => simp [Sem.run, Pure.pure]
  | tmp e r ih =>
    have hg := ha.get
    simp only [List.mapM_cons, resSem, hg, e]
    simp [Sem.run_bind, Sem.run, Pure.pure, Result.andThen, ih]
  | agg e b g r ih =>
    have hg := ha.get
    have hl := run_loadVarA g (b.heap hs) (LookN.all _)
    simp only [List.mapM_cons, resSem, hg, e]
    simp [Sem.run_bind, Sem.run, Pure.pure, Result.andThen, ih, asAddr, hl]
  | one e b g r ih =>
    have hg := ha.get
    have hl := run_loadVar g (b.heap hs) (o := 0) rfl
    simp only [List.mapM_cons, resSem, hg, e]
    simp [Sem.run_bind, Sem.run, Pure.pure, Result.andThen, ih, asAddr, hl]

theorem results_eq {fn : Func} {rs : List ResultVar} (hr : fn.results = ⟨rs⟩) (tmps : Array Value) : results fn tmps = (do
    let vs ← rs.toArray.mapM (resSem tmps)
    Pure.pure (if h : vs.size = 1 then vs[0] else .tuple vs) : Sem Value) := by
  unfold results
  rw [hr]
  rfl

theorem RetR.of {fn : Func} {rs : List ResultVar} {vs : List Value} (hr : fn.results = ⟨rs⟩) (r : ResV C.P ρ L rs vs) : RetR C fn ρ h L (pack vs) := fun a w ds ha hs => by
  have h1 := resV_run (P := C.P) ha hs r
  rw [results_eq hr, List.mapM_toArray]
  have : (Sem.run C.P (List.toArray <$> List.mapM (resSem a.tmps) rs) w) = .ok vs.toArray w := by rw [Sem.run_map, h1]; rfl
  rw [Sem.run_bind, this]
  cases vs with
  | nil => simp [Result.andThen, Sem.run, Pure.pure, pack]
  | cons v vs => cases vs <;> simp [Result.andThen, Sem.run, Pure.pure, pack]

/-- The end of a function. -/
theorem ret_ok {fn : Func} {rs : List ResultVar} {vs : List Value} {R : Value → Heap → Prop} {e : Exit} (hr : fn.results = ⟨rs⟩) (r : ResV C.P ρ L rs vs) (hR : R (pack vs) h) (he : e = .normal ∨ e = .ret := by first | exact Or.inr rfl | exact Or.inl rfl) :
    retQ C fn R e [] ρ h L := ⟨he, rfl, _, RetR.of hr r, hR⟩
end Go.Z
end
section
set_option linter.unusedSimpArgs false
set_option linter.unusedVariables false
/- The calculus beneath the proofs: structs and slices that are built, slice expressions, make, append, copy. No program is named here. -/
set_option linter.unusedSimpArgs false
set_option linter.unusedVariables false
namespace Go.Z
open Go Go.RowKit

variable {C : Cfg} {Q Q' : Post} {ds : List Deferred} {ρ : Env} {h : Heap} {L : Own} {ops : Array Oper} {rest : List Oper}
variable {d : Nat} {ty : TypeId} {pos : String} {after : Array Edge} {S : World → Prop}

theorem run_v {P : Program} {s : Sem Value} {w w' : World} {v : Value} (hs : s.run P w = .ok v w') : (do Pure.pure (Next.value (← s)) : Sem Next).run P w = .ok (.value v) w' := by
  rw [Sem.run_bind, hs]; rfl
theorem run_u {P : Program} {s : Sem Unit} {w w' : World} (hs : s.run P w = .ok () w') : (do s; Pure.pure Next.skip : Sem Next).run P w = .ok .skip w' := by
  rw [Sem.run_bind, hs]; rfl
def cellsL : Value → List Value
  | .agg cs => cs.toList
  | v => [v]
theorem cells_cellsL (v : Value) : v.cells = ⟨cellsL v⟩ := by cases v <;> rfl

/-- 'fill' on lists. -/
def fillL (pl : Nat → Option (Nat × Nat)) (l : List Value) : List (Nat × Value) → Option (List Value)
  | [] => some l
  | (i, v) :: r => match pl i with
    | none => none
    | some (off, sz) => bif Nat.beq (cellsL v).length sz && Nat.ble (off + sz) l.length then fillL pl (setN l off (cellsL v)) r else none

theorem length_setN : ∀ (vs l : List Value) (o : Nat), (setN l o vs).length = l.length
  | [], _, _ => rfl
  | v :: vs, l, o => by rw [setN, length_setN vs]; simp
theorem foldl_set (l : List Value) (off : Nat) : ∀ (vs : List Value) (k : Nat), ((vs.zipIdx k).foldl (fun cs (p : Value × Nat) => cs.setIfInBounds (off + p.2) p.1) (Array.mk l)) = Array.mk (setN l (off + k) vs)
  | [], _ => rfl
  | v :: vs, k => by
    simp only [List.zipIdx_cons, List.foldl_cons]
    have := foldl_set (l.set (off + k) v) off vs (k + 1)
    rw [show (Array.mk l).setIfInBounds (off + k) v = Array.mk (l.set (off + k) v) from List.setIfInBounds_toArray l (off + k) v]
    rw [this]; rfl
theorem fill_fillL (pl : Nat → Option (Nat × Nat)) : ∀ (ps : List (Nat × Value)) (l cs : List Value), fillL pl l ps = some cs → Instr.fill pl ⟨l⟩ ps = some ⟨cs⟩
  | [], l, cs, h => by simp [fillL] at h; subst h; rfl
  | (i, v) :: r, l, cs, h => by
    simp only [fillL] at h
    simp only [Instr.fill]
    cases e : pl i with
    | none => rw [e] at h; cases h
    | some q =>
      obtain ⟨off, sz⟩ := q
      rw [e] at h
      simp only at h ⊢
      cases hb : (Nat.beq (cellsL v).length sz && Nat.ble (off + sz) l.length) with
      | false => rw [hb] at h; cases h
      | true =>
        rw [hb] at h
        simp only [cond_true] at h
        simp only [Bool.and_eq_true] at hb
        have h1 := Nat.eq_of_beq_eq_true hb.1
        have h2 := Nat.le_of_ble_eq_true hb.2
        rw [cells_cellsL]
        have hsz : (Array.mk (cellsL v)).size = sz := h1
        rw [hsz]
        rw [if_neg (by simp; omega)]
        have hz : (Array.mk (cellsL v)).zipIdx = ⟨(cellsL v).zipIdx⟩ := by simp
        have := foldl_set l off (cellsL v) 0
        rw [hz]
        rw [← Array.foldl_toList]
        simp only [Nat.add_zero] at this
        rw [this]
        exact fill_fillL pl r _ _ h

/-- A struct type: where its fields lie, and its zero. -/
class StF (P : Program) (T : TypeId) (pl : outParam (List (Nat × Nat))) (z : outParam (List Value)) : Prop where
  run : ∀ w, ∃ fs v, P.underlying T = some (.struct fs) ∧ (fs.mapM (fun f => do Pure.pure (f.offset, ← sizeOf f.type)) : Sem _).run P w = .ok ⟨pl⟩ w ∧ (zeroValue T).run P w = .ok v w ∧ v.cells = ⟨z⟩
def stfCheck (P : Program) (T : TypeId) : Option (List (Nat × Nat)) :=
  match P.underlying T with
  | some (.struct fs) => fs.toList.mapM fun f => (P.info? f.type).map fun i => (f.offset, i.size)
  | _ => none
theorem stf_of {P : Program} {T : TypeId} {pl : List (Nat × Nat)} {z : List Value} (h : stfCheck P T = some pl) (hz : Zv P T z) : StF P T pl z := ⟨fun w => by
  unfold stfCheck at h
  split at h
  · rename_i fs hu
    obtain ⟨i, v, h1, h2, h3⟩ := hz.i
    refine ⟨fs, v, hu, ?_, by simp [zeroValue, typeInfo, program, h1, h2, Sem.run_bind, Result.andThen, Sem.run, Pure.pure], h3⟩
    have key : ∀ (l : List Field) (pl : List (Nat × Nat)), l.mapM (fun f => (P.info? f.type).map fun i => (f.offset, i.size)) = some pl → (l.mapM (fun f => do Pure.pure (f.offset, ← sizeOf f.type)) : Sem _).run P w = .ok pl w := by
      intro l
      induction l with
      | nil => intro pl h; simp at h; subst h; simp [Sem.run, Pure.pure]
      | cons f l ih =>
        intro pl h
        simp only [List.mapM_cons] at h ⊢
        cases e1 : P.info? f.type with
        | none => simp [e1] at h
        | some j =>
          cases e2 : l.mapM (fun f => (P.info? f.type).map fun i => (f.offset, i.size)) with
          | none => simp [e1, e2] at h
          | some r =>
            simp [e1, e2] at h
            subst h
            have hs := run_sizeOf (P := P) (w := w) ⟨j, e1, rfl⟩
            have := ih r e2
            rw [Sem.run_bind, Sem.run_bind, hs]
            simp only [Result.andThen, Sem.run, Pure.pure]
            rw [Sem.run_bind]
            simp only [Pure.pure] at this
            rw [this]
            simp [Result.andThen, Sem.run]
    have := key fs.toList pl h
    rw [← Array.toArray_toList (xs := fs), List.mapM_toArray, Sem.run_map, this]
    rfl
  · cases h⟩

section builds
variable {x y : Operand} {T T' : TypeId}
theorem q_bd {ps : List (Nat × Operand)} {pl : List (Nat × Nat)} {z : List Value} (cells : List Value) [hs : StF C.P T pl z] (hc : fillL (fun i => pl[i]?) z (ps.map fun p => (p.1, ρ.ev p.2)) = some cells) : Qr C ρ S (.build T ⟨ps⟩) ty (.agg ⟨cells⟩) := ⟨rfl, fun w _ => by
    obtain ⟨fs, v, h1, h2, h3, h4⟩ := hs.run w
    have hu : (underlying T).run C.P w = .ok (.struct fs) w := by simp [underlying, program, h1, Sem.run, bind, Sem.bind, Pure.pure]
    have hf := fill_fillL _ _ _ _ hc
    have hp : (fun (x : Nat) => (Array.mk pl)[x]?) = fun i => pl[i]? := by funext i; simp
    have hm : (Array.mk ps).map (fun (p : Nat × Operand) => (p.1, ρ.ev p.2)) = ⟨ps.map fun p => (p.1, ρ.ev p.2)⟩ := by simp
    have hr : (Instr.build T ((Array.mk ps).map (fun (p : Nat × Operand) => (p.1, ρ.ev p.2)))).run C.P w = .ok (.agg ⟨cells⟩) w := by
      rw [hm]
      simp only [Instr.build, bind]
      rw [Sem.run_bind', h3]
      simp only [Result.andThen]
      rw [Sem.run_bind', hu]
      simp only [Result.andThen]
      rw [Sem.run_bind']
      simp only [bind] at h2
      rw [h2]
      simp only [Result.andThen, h4, hp, hf, Sem.run, Pure.pure]
    exact run_v hr⟩

/-- A slice that is written out. -/
theorem und_run {P : Program} {T : TypeId} {u : TypeDesc} {w : World} (h : P.underlying T = some u) : (underlying T).run P w = .ok u w := by
  simp [underlying, program, h, Sem.run, bind, Sem.bind, Pure.pure]
theorem zero_run {P : Program} {T : TypeId} {z : List Value} (hz : Zv P T z) (w : World) : ∃ v, (zeroValue T).run P w = .ok v w ∧ v.cells = ⟨z⟩ := by
  obtain ⟨i, v, h1, h2, h3⟩ := hz.i
  exact ⟨v, by simp [zeroValue, typeInfo, program, h1, h2, Sem.run_bind, Result.andThen, Sem.run, Pure.pure], h3⟩
theorem flat_get (z : List Value) : ∀ (n j : Nat), j < n * z.length → (List.replicate n z).flatten[j]? = z[j % z.length]?
  | 0, j, h => by simp at h
  | n + 1, j, h => by
    rw [List.replicate_succ, List.flatten_cons]
    rcases Nat.lt_or_ge j z.length with hj | hj
    · rw [List.getElem?_append_left hj, Nat.mod_eq_of_lt hj]
    · rw [List.getElem?_append_right hj, flat_get z n (j - z.length) (by rw [Nat.add_mul] at h; omega), ← Nat.mod_eq_sub_mod hj]
theorem flat_len (z : List Value) (n : Nat) : (List.replicate n z).flatten.length = n * z.length := by simp
theorem zeros_eq (z : List Value) (N n : Nat) (hN : N = n * z.length) : (Array.range N).map ((Array.mk z)[· % (Array.mk z).size]!) = ⟨(List.replicate n z).flatten⟩ := by
  subst hN
  apply Array.ext
  · simp
  · intro i h1 h2
    have hi : i < n * z.length := by simpa using h1
    have hz : 0 < z.length := by rcases Nat.eq_zero_or_pos z.length with e | e; (rw [e] at hi; simp at hi); exact e
    have := flat_get z n i hi
    rw [List.getElem?_eq_getElem (by simpa using hi), List.getElem?_eq_getElem (Nat.mod_lt _ hz)] at this
    simp at this ⊢
    rw [this]
    simp [Nat.mod_lt _ hz]
theorem o_bs {ps : List (Nat × Operand)} {n e sz : Nat} {z : List Value} (cells : List Value) [hu : Sl C.P T e] [hs : Sz C.P e sz] [hz : Zv C.P e z] (hN : n * sz ≤ 10000)
    (hc : fillL (fun i => some (i * sz, sz)) ((List.replicate n z).flatten) (ps.map fun p => (p.1, ρ.ev p.2)) = some cells)
    (k : ∀ b, JL C ops Q rest ds (ρ.set d (.slice (some ⟨b, 0, none⟩) n n)) h ((b, row e cells) :: L)) (hn : Nat.blt d C.n = true := by rfl) (hzl : z.length = sz := by rfl) :
    JL C ops Q (⟨some d, .buildSlice T n ⟨ps⟩, ty, pos, after, none⟩ :: rest) ds ρ h L :=
  JL.val rfl rfl rfl hn fun w hst => by
    refine ⟨_, h, _, w.alloc (row e cells), run_v ?_, hst.alloc _, k _⟩
    obtain ⟨v, hz1, hz2⟩ := zero_run hz w
    have hm : (Array.mk ps).map (fun (p : Nat × Operand) => (p.1, ρ.ev p.2)) = ⟨ps.map fun p => (p.1, ρ.ev p.2)⟩ := by simp
    have hf := fill_fillL _ _ _ _ hc
    rw [hm]
    have h24 : ¬ n * sz > 2 ^ 24 := by omega
    simp only [Instr.buildSlice, bind]
    rw [Sem.run_bind', und_run hu.u]
    simp only [Result.andThen]
    rw [Sem.run_bind', run_sizeOf hs.i]
    simp only [Result.andThen, h24, if_false, Pure.pure]
    by_cases h0 : n * sz = 0
    · have hfl : (List.replicate n z).flatten = [] := List.eq_nil_of_length_eq_zero (by rw [flat_len, hzl]; exact h0)
      rw [hfl] at hf
      have e0 : ∀ f : Nat → Value, (Array.range 0).map f = ⟨[]⟩ := fun f => by simp
      simp only [h0, if_true, e0]
      rw [show (Sem.pure (α := Array Value) #[]).bind = fun f => f #[] from rfl]
      simp only [e0, hf]
      rw [Sem.run_bind', run_newRow]
      rfl
    · simp only [h0, if_false]
      rw [Sem.run_bind', hz1]
      simp only [Result.andThen]
      rw [Sem.run_bind']
      simp only [Sem.run, hz2, Result.andThen]
      rw [zeros_eq z (n * sz) n (by rw [hzl]), hf]
      simp only []
      rw [Sem.run_bind', run_newRow]
      rfl
end builds

/-! ### Slices -/
/-- A frozen slice of n elements of sz cells each: its cells. -/
def SlAt (h : Heap) (v : Value) (n sz : Nat) (cs : List Value) : Prop :=
  ∃ p c, v = .slice p n c ∧ n ≤ c ∧ cs.length = n * sz ∧ ((n = 0 ∧ ∀ a, p = some a → True) ∨ ∃ b o, p = some ⟨b, o, none⟩ ∧ CellN h b o cs)
theorem SlAt.mono {h h' : Heap} {v : Value} {n sz : Nat} {cs : List Value} (s : SlAt h v n sz cs) [e : Ext h h'] : SlAt h' v n sz cs := by
  obtain ⟨p, c, h1, h2, h3, h4⟩ := s
  exact ⟨p, c, h1, h2, h3, h4.imp id fun ⟨b, o, x, y⟩ => ⟨b, o, x, y.mono e⟩⟩
theorem SlAt.nil (h : Heap) (sz : Nat) : SlAt h (.slice none 0 0) 0 sz [] := ⟨none, 0, rfl, Nat.le_refl _, by simp, .inl ⟨rfl, fun _ e => by cases e⟩⟩
theorem CellN.cell {h : Heap} {b o : Nat} {cs : List Value} (c : CellN h b o cs) {j : Nat} {v : Value} (hv : cs[j]? = some v) : CellN h b (o + j) [v] := by
  obtain ⟨l, T, fr, h1, h2⟩ := c
  exact ⟨l, T, fr, h1, h2.get j v hv, trivial⟩
theorem LookN.of_get {l : List Value} : ∀ {vs : List Value} {o : Nat}, (∀ j v, vs[j]? = some v → l[o + j]? = some v) → LookN l o vs
  | [], _, _ => trivial
  | v :: vs, o, hg => ⟨by simpa using hg 0 v (by simp), LookN.of_get fun j u hu => by
      have := hg (j + 1) u (by simpa using hu); rw [show o + 1 + j = o + (j + 1) by omega]; exact this⟩
theorem CellN.part {h : Heap} {b o : Nat} {cs ds : List Value} (c : CellN h b o cs) {j : Nat} (hd : ∀ i v, ds[i]? = some v → cs[j + i]? = some v) : CellN h b (o + j) ds := by
  obtain ⟨l, T, fr, h1, h2⟩ := c
  exact ⟨l, T, fr, h1, LookN.of_get fun i v hv => by rw [Nat.add_assoc]; exact h2.get _ _ (hd i v hv)⟩
/-- The cells of element i. -/
theorem SlAt.elem {h : Heap} {p : Option Addr} {n c sz : Nat} {cs : List Value} (s : SlAt h (.slice p n c) n sz cs) {i : Nat} (hi : i < n) :
    ∃ b o, p = some ⟨b, o, none⟩ ∧ CellN h b (o + i * sz) ((cs.drop (i * sz)).take sz) := by
  obtain ⟨p', c', h1, h2, h3, h4⟩ := s
  cases h1
  rcases h4 with ⟨rfl, _⟩ | ⟨b, o, rfl, hc⟩
  · exact absurd hi (Nat.not_lt_zero _)
  · refine ⟨b, o, rfl, hc.part fun j v hv => ?_⟩
    rw [List.getElem?_take] at hv
    split at hv
    · rw [List.getElem?_drop] at hv; exact hv
    · cases hv

section slices
variable {x lo hi mx : Operand} {T e : TypeId} {p : Option Addr} {n c : Nat}
theorem map_add0 (p : Option Addr) (sz : Nat) : p.map (·.add (0 * sz)) = p := by
  rw [Nat.zero_mul]; cases p <;> simp [Addr.add]
theorem run_sb {P : Program} {w : World} {v : Value} {q : IntKind} {j : Int} {y : Nat} {code : BoundsCode} (hv : v = .int q j) (h0 : 0 ≤ j) (h1 : j ≤ (y : Int)) : (Instr.sliceBound v y code).run P w = .ok j.toNat w := by
  subst hv
  simp [Instr.sliceBound, asIntOf, h0, h1, Sem.run, bind, Sem.bind, Pure.pure]
theorem sliceAt_run {P : Program} [hu : Sl P T e] (v : Value) (a b m : Option Value) (w : World) : (Instr.sliceAt T v a b m).run P w = (Instr.slice T v a b m).run P w := by
  simp only [Instr.sliceAt, bind]
  rw [Sem.run_bind', und_run hu.u]
  rfl
theorem slice_run {P : Program} {sz : Nat} [hu : Sl P T e] [hs : Sz P e sz] {a b m : Option Value} {l hh mm : Nat} {w : World}
    (hb : (Instr.sliceBounds true n c a b m).run P w = .ok (l, hh, mm) w) : (Instr.slice T (.slice p n c) a b m).run P w = .ok (.slice (if mm = l then p else p.map (·.add (l * sz))) (hh - l) (mm - l)) w := by
  simp only [Instr.slice, bind]
  rw [Sem.run_bind', und_run hu.u]
  simp only [Result.andThen]
  rw [Sem.run_bind', hb]
  simp only [Result.andThen]
  rw [Sem.run_bind', run_sizeOf hs.i]
  rfl
/-- 's[:hi:mx]' -/
theorem q_slHM {sz : Nat} [hu : Sl C.P T e] [hs : Sz C.P e sz] {q q' : IntKind} {j m : Int} (hx : ρ.ev x = .slice p n c) (hh : ρ.ev hi = .int q j) (hm : ρ.ev mx = .int q' m) (hb : 0 ≤ j ∧ j ≤ m ∧ m ≤ (c : Int)) : Qr C ρ S (.slice T x none (some hi) (some mx)) ty (.slice p j.toNat m.toNat) := ⟨rfl, fun w _ => run_v (by
    simp only [Option.map]
    rw [sliceAt_run, hx]
    rw [slice_run (l := 0) (hh := j.toNat) (mm := m.toNat)]
    · rw [map_add0]; simp
    · simp only [Instr.sliceBounds, bind, hh, hm]
      rw [Sem.run_bind', run_sb rfl (by omega) hb.2.2]
      simp only [Result.andThen]
      rw [Sem.run_bind', run_sb rfl hb.1 (by omega)]
      simp [Result.andThen, Sem.run, Sem.bind, Pure.pure])⟩
/-- 's[:hi]' -/
theorem q_slH {sz : Nat} [hu : Sl C.P T e] [hs : Sz C.P e sz] {q : IntKind} {j : Int} (hx : ρ.ev x = .slice p n c) (hh : ρ.ev hi = .int q j) (hb : 0 ≤ j ∧ j ≤ (c : Int)) : Qr C ρ S (.slice T x none (some hi) none) ty (.slice p j.toNat c) := ⟨rfl, fun w _ => run_v (by
    simp only [Option.map]
    rw [sliceAt_run, hx]
    rw [slice_run (l := 0) (hh := j.toNat) (mm := c)]
    · rw [map_add0]; simp
    · simp only [Instr.sliceBounds, bind, hh]
      simp only [Pure.pure, Sem.bind, if_true]
      rw [Sem.run_bind', run_sb rfl hb.1 hb.2]
      simp [Result.andThen, Sem.run, Sem.bind, Pure.pure])⟩
/-- 's[lo:]' -/
theorem q_slL {sz : Nat} [hu : Sl C.P T e] [hs : Sz C.P e sz] {q : IntKind} {j : Int} (hx : ρ.ev x = .slice p n c) (hl : ρ.ev lo = .int q j) (hb : 0 ≤ j ∧ j ≤ (n : Int)) : Qr C ρ S (.slice T x (some lo) none none) ty (.slice (if c = j.toNat then p else p.map (·.add (j.toNat * sz))) (n - j.toNat) (c - j.toNat)) := ⟨rfl, fun w _ => run_v (by
    simp only [Option.map]
    rw [sliceAt_run, hx]
    refine slice_run (l := j.toNat) (hh := n) (mm := c) ?_
    simp only [Instr.sliceBounds, bind, hl]
    rw [show (Pure.pure c : Sem Nat).bind = fun f => f c from rfl]
    try simp only []
    rw [show (Pure.pure n : Sem Nat).bind = fun f => f n from rfl]
    try simp only [Option.isSome, Bool.false_eq_true, if_false]
    rw [Sem.run_bind', run_sb rfl hb.1 hb.2]
    simp [Result.andThen, Sem.run, Sem.bind, Pure.pure])⟩
/-- 's[lo:hi]' -/
theorem q_slLH {sz : Nat} [hu : Sl C.P T e] [hs : Sz C.P e sz] {q q' : IntKind} {i j : Int} (hx : ρ.ev x = .slice p n c) (hl : ρ.ev lo = .int q i) (hh : ρ.ev hi = .int q' j) (hb : 0 ≤ i ∧ i ≤ j ∧ j ≤ (c : Int)) : Qr C ρ S (.slice T x (some lo) (some hi) none) ty (.slice (if c = i.toNat then p else p.map (·.add (i.toNat * sz))) (j.toNat - i.toNat) (c - i.toNat)) := ⟨rfl, fun w _ => run_v (by
    simp only [Option.map]
    rw [sliceAt_run, hx]
    refine slice_run (l := i.toNat) (hh := j.toNat) (mm := c) ?_
    simp only [Instr.sliceBounds, bind, hl, hh]
    rw [show (Pure.pure c : Sem Nat).bind = fun f => f c from rfl]
    try simp only [Option.isSome, Bool.false_eq_true, if_false, if_true]
    rw [Sem.run_bind', run_sb rfl (by omega) hb.2.2]
    simp only [Result.andThen]
    rw [Sem.run_bind', run_sb rfl hb.1 (by omega)]
    simp [Result.andThen, Sem.run, Sem.bind, Pure.pure])⟩
end slices
theorem SlAt.drop {h : Heap} {p : Option Addr} {n c sz k : Nat} {cs : List Value} (s : SlAt h (.slice p n c) n sz cs) (hk : k ≤ n) :
    SlAt h (.slice (if c = k then p else p.map (·.add (k * sz))) (n - k) (c - k)) (n - k) sz (cs.drop (k * sz)) := by
  obtain ⟨p', c', h1, h2, h3, h4⟩ := s
  cases h1
  refine ⟨_, _, rfl, by omega, by rw [List.length_drop, h3, Nat.sub_mul], ?_⟩
  rcases h4 with ⟨rfl, hp⟩ | ⟨b, o, rfl, hc⟩
  · refine .inl ⟨by omega, fun a ha => ?_⟩
    have hk0 : k = 0 := by omega
    subst hk0
    rw [map_add0] at ha
    simp only [ite_self] at ha
    trivial
  · by_cases e : c = k
    · have hn : n = k := by omega
      refine .inl ⟨by omega, fun a ha => ?_⟩
      trivial
    · refine .inr ⟨b, o + k * sz, by rw [if_neg e]; simp [add_none], hc.part fun i v hv => ?_⟩
      rw [List.getElem?_drop] at hv; exact hv
theorem SlAt.take {h : Heap} {p : Option Addr} {n c sz k m : Nat} {cs : List Value} (s : SlAt h (.slice p n c) n sz cs) (hk : k ≤ n) (hm : k ≤ m) :
    SlAt h (.slice p k m) k sz (cs.take (k * sz)) := by
  obtain ⟨p', c', h1, h2, h3, h4⟩ := s
  cases h1
  refine ⟨_, _, rfl, hm, by rw [List.length_take, h3]; exact Nat.min_eq_left (Nat.mul_le_mul_right _ hk), ?_⟩
  rcases h4 with ⟨rfl, hp⟩ | ⟨b, o, rfl, hc⟩
  · exact .inl ⟨by omega, hp⟩
  · have : CellN h b (o + 0) (cs.take (k * sz)) := hc.part fun i v hv => ?_
    · exact .inr ⟨b, o, rfl, this⟩
    rw [List.getElem?_take] at hv
    split at hv
    · simpa using hv
    · cases hv
end Go.Z
end
section
set_option linter.unusedSimpArgs false
set_option linter.unusedVariables false
/- The calculus beneath the proofs: slices of the activation's own: make, append, copy. No program is named here. -/
set_option linter.unusedSimpArgs false
set_option linter.unusedVariables false
namespace Go.Z
open Go Go.RowKit

variable {C : Cfg} {Q Q' : Post} {ds : List Deferred} {ρ : Env} {h : Heap} {L : Own} {ops : Array Oper} {rest : List Oper}
variable {d : Nat} {ty : TypeId} {pos : String} {after : Array Edge}

theorem St.of {w0 : World} {h0 h : Heap} {L L' : Own} {w : World} (s : St w0 h0 h L w) (hm : ∀ p ∈ L', p ∈ L) (nd : (L'.map (·.1)).Nodup) : St w0 h0 h L' w :=
  ⟨s.below, s.ge, s.old, s.fro, fun p hp => s.own p (hm p hp), nd⟩
theorem St.sub {w0 : World} {h0 h : Heap} {L L' : Own} {w : World} (s : St w0 h0 h L w) (hs : L'.Sublist L) : St w0 h0 h L' w :=
  s.of (fun p hp => hs.subset hp) ((hs.map _).nodup s.nd)
theorem J.sub {c : Code} {L' : Own} (hs : L'.Sublist L) (hj : J C c Q ds ρ h L') : J C c Q ds ρ h L := fun a w ha hst => hj a w ha (hst.sub hs)
theorem JL.sub {L' : Own} (hs : L'.Sublist L) (hj : JL C ops Q rest ds ρ h L') : JL C ops Q rest ds ρ h L := fun a w ha hst => hj a w ha (hst.sub hs)
theorem JL.perm {L' : Own} (hp : L.Perm L') (hj : JL C ops Q rest ds ρ h L') : JL C ops Q rest ds ρ h L := fun a w ha hst => hj a w ha (hst.perm hp)

/-- A slice of the activation's own: n elements of sz cells, whose cells are xs; Lb: its block. -/
def OwnS (T : TypeId) (sz : Nat) (v : Value) (n : Nat) (xs : List Value) (Lb : Own) : Prop :=
  xs.length = n * sz ∧ ((∃ p, v = .slice p 0 0 ∧ (∀ a : Addr, p = some a → a.spot = none) ∧ n = 0 ∧ Lb = []) ∨ ∃ b c sp, v = .slice (some ⟨b, 0, none⟩) n c ∧ Lb = [(b, row T (xs ++ sp))] ∧ n ≤ c ∧ (xs ++ sp).length = c * sz)
theorem OwnS.nil (T : TypeId) (sz : Nat) : OwnS T sz (.slice none 0 0) 0 [] [] := ⟨by simp, .inl ⟨none, rfl, fun _ e => (by cases e), rfl, rfl⟩⟩
theorem OwnS.lit {T : TypeId} {sz n : Nat} {b : Nat} {xs : List Value} (hl : xs.length = n * sz) : OwnS T sz (.slice (some ⟨b, 0, none⟩) n n) n xs [(b, row T xs)] :=
  ⟨hl, .inr ⟨b, n, [], rfl, by simp, Nat.le_refl _, by simpa using hl⟩⟩

/-- The part Lb among the owned blocks, and the owned blocks with something else in its place. -/
class AtS (L Lb : Own) (f : outParam (Own → Own)) : Prop where
  e : ∃ L1 L2, L = L1 ++ (Lb ++ L2) ∧ ∀ x, f x = L1 ++ (x ++ L2)
instance (priority := 1100) AtS.self {Lb : Own} : AtS Lb Lb (fun x => x) := ⟨[], [], by simp, by simp⟩
instance AtS.head {Lb L2 : Own} : AtS (Lb ++ L2) Lb (fun x => x ++ L2) := ⟨[], L2, rfl, fun _ => rfl⟩
instance AtS.tail {L Lb : Own} {p : Nat × Obj} {f : Own → Own} [a : AtS L Lb f] : AtS (p :: L) Lb (fun x => p :: f x) := by
  obtain ⟨L1, L2, h1, h2⟩ := a.e
  exact ⟨p :: L1, L2, by rw [h1]; rfl, fun x => by rw [h2]; rfl⟩
instance AtS.app {L M Lb : Own} {f : Own → Own} [a : AtS L Lb f] : AtS (M ++ L) Lb (fun x => M ++ f x) := by
  obtain ⟨L1, L2, h1, h2⟩ := a.e
  exact ⟨M ++ L1, L2, by rw [h1, List.append_assoc], fun x => by rw [h2, List.append_assoc]⟩

section make
variable {x y : Operand} {T e : TypeId}
/-- 'make([]T, n, m)' -/
theorem o_mk {sz by' : Nat} {z : List Value} {q q' : IntKind} {n m : Nat} {a b : Int} [hu : Sl C.P T e] [hs : Sz C.P e sz] [hb : By C.P e by'] [hz : Zv C.P e z] (hx : ρ.ev x = .int q a) (hy : ρ.ev y = .int q' b)
    (ha : a = (n : Int)) (hb' : b = (m : Int)) (hnm : n ≤ m) (hm : m * by' ≤ 140737488355328) (hm2 : m ≤ 1000000000000000)
    (k : ∀ g, JL C ops Q rest ds (ρ.set d (.slice (some ⟨g, 0, none⟩) n m)) h ((g, row e (List.replicate m z).flatten) :: L)) (hn : Nat.blt d C.n = true := by rfl) (hzl : z.length = sz := by rfl) :
    JL C ops Q (⟨some d, .makeSlice T x y, ty, pos, after, none⟩ :: rest) ds ρ h L :=
  JL.val rfl rfl rfl hn fun w hst => by
    refine ⟨_, h, _, w.alloc (row e (List.replicate m z).flatten), run_v ?_, hst.alloc _, k _⟩
    subst ha hb'
    obtain ⟨i, hi1, hi2⟩ := hb.i
    obtain ⟨i2, hi3, hi4⟩ := hs.i
    obtain ⟨i3, v, hi5, hi6, hi7⟩ := hz.i
    have e1 : i2 = i := by rw [hi1] at hi3; cases hi3; rfl
    have e2 : i3 = i := by rw [hi1] at hi5; cases hi5; rfl
    subst e1 e2
    have hr := run_make (P := C.P) w T e i3 v hu.u hi1 hi6 q q' (n : Int) (m : Int) (by omega) (by omega) (by
      rw [hi2, Int.mul_comm]
      have : ((m * by' : Nat) : Int) ≤ ((140737488355328 : Nat) : Int) := Int.ofNat_le.2 hm
      rw [Int.natCast_mul] at this
      omega) (by omega)
    rw [hx, hy, hr]
    have : madeCells v.cells ((m : Int).toNat * i3.size) = ⟨(List.replicate m z).flatten⟩ := by
      unfold madeCells
      rw [hi7, Int.toNat_natCast, hi4]
      exact zeros_eq z (m * sz) m (by rw [hzl])
    rw [this]
    rfl
end make

theorem setN_append (us : List Value) : ∀ (xs sp : List Value), us.length ≤ sp.length → setN (xs ++ sp) xs.length us = xs ++ (us ++ sp.drop us.length) := by
  induction us with
  | nil => intro xs sp _; simp [setN]
  | cons u us ih =>
    intro xs sp hl
    cases sp with
    | nil => simp at hl
    | cons s sp =>
      have := ih (xs ++ [u]) sp (by simpa using hl)
      simp only [setN]
      have hs : (xs ++ s :: sp).set xs.length u = (xs ++ [u]) ++ sp := by simp
      rw [hs, show xs.length + 1 = (xs ++ [u]).length by simp, this]
      simp
theorem plain_one {u : Value} (h : plain u = true) : u.oneCell' = true := by cases u <;> first | rfl | cases h

theorem cells_of_row {w : World} {b o : Nat} {l us : List Value} {T : TypeId} {fr : Nat × Nat} (hb : w.heap[b]? = some (.cells ⟨l⟩ T fr)) (hl : LookN l o us) : ∀ j u, us[j]? = some u → w.cell? ((⟨b, o, none⟩ : Addr).add j) = some u := fun j u hu => by
  rw [add_none]
  exact cell_of hb (hl.get j u hu)

/-- What 'append' does, at a slice of one's own. -/
theorem run_append {P : Program} {w0 w : World} {h0 h : Heap} {L Lb : Own} {f : Own → Own} {T T' e sz by' n m : Nat} {z xs us : List Value} {v y : Value} {ty : TypeId} [hu : Sl P T e] [hs : Sz P e sz] [hb : By P e by'] [hz : Zv P e z]
    (hzl : z.length = sz) (hst : St w0 h0 h L w) (a : AtS L Lb f) (ho : OwnS e sz v n xs Lb) (hpl : ∀ u ∈ us, plain u = true) (hby : by' ≤ 100000) (hlen : n + m ≤ 1000000000)
    (src : Src P sz T' y m us w) :
    ∃ v' Lb' w', (Builtin.append_ #[T, T'] ty #[v, y]).run P w = .ok v' w' ∧ OwnS e sz v' (n + m) (xs ++ us) Lb' ∧ St w0 h0 h (f Lb') w' := by
  obtain ⟨hxl, hv⟩ := ho
  obtain ⟨i, hi1, hi2⟩ := hb.i
  obtain ⟨i2, hi3, hi4⟩ := hs.i
  obtain ⟨i3, zv, hi5, hi6, hi7⟩ := hz.i
  have e1 : i2 = i := by rw [hi1] at hi3; cases hi3; rfl
  have e2 : i3 = i := by rw [hi1] at hi5; cases hi5; rfl
  subst e1 e2
  have hus := src.newsLen
  have hxu : (xs ++ us).length = (n + m) * sz := by rw [List.length_append, hxl, hus, Nat.add_mul]
  obtain ⟨L1, L2, hL, hf⟩ := a.e
  have hsrc : Src P i3.size T' y m us w := hi4.symm ▸ src
  have hzs : zv.cells.size = sz := by rw [hi7]; exact hzl
  -- growing
  have grow : ∀ p c, v = .slice p n c → n ≤ c → c < n + m → (Builtin.firstCells i3.size n (.slice p n c)).run P w.drew = .ok xs.toArray w.drew →
      ∃ v' Lb' w', (Builtin.append_ #[T, T'] ty #[v, y]).run P w = .ok v' w' ∧ OwnS e sz v' (n + m) (xs ++ us) Lb' ∧ St w0 h0 h (f Lb') w' := by
    intro p c hvp _ hc hold
    have hfit : Builtin.nextslicecap (n + m) c * i3.bytes ≤ 281474976710656 := growslice_fits hc (by
      rw [hi2]
      calc (n + m) * by' ≤ 1000000000 * 100000 := Nat.mul_le_mul hlen hby
        _ ≤ 140737488355328 := by decide)
    have hr := run_append_grow_src (P := P) w T T' ty e i3 zv hu.u hi1 hi6 p n c xs hold y m us hsrc hc (by omega) hfit
    rw [← hvp] at hr
    have hge := grownCap_ge w (n + m) c e
    refine ⟨_, [(w.heap.size, row e ((xs ++ us) ++ (Builtin.zeroCells zv.cells (grownCap w (n + m) c e - (n + m))).toList))], _, hr, ⟨hxu, .inr ⟨_, _, _, rfl, rfl, hge, ?_⟩⟩, ?_⟩
    · rw [List.length_append, hxu, Array.length_toList, size_zeroCells, hzs, ← Nat.add_mul]
      congr 1; omega
    · have hst' : St w0 h0 h L w.drew := hst.drew
      have h1 := hst'.alloc (row e ((xs ++ us) ++ (Builtin.zeroCells zv.cells (grownCap w (n + m) c e - (n + m))).toList))
      have hobj : row e ((xs ++ us) ++ (Builtin.zeroCells zv.cells (grownCap w (n + m) c e - (n + m))).toList) = .cells ((xs ++ us).toArray ++ Builtin.zeroCells zv.cells (grownCap w (n + m) c e - (n + m))) e := by
        unfold row
        congr 1
        apply Array.ext'
        simp
      rw [hobj] at h1 ⊢
      rw [hf]
      clear hr hobj
      generalize Obj.cells ((xs ++ us).toArray ++ Builtin.zeroCells zv.cells (grownCap w (n + m) c e - (n + m))) e = O at h1 ⊢
      have hsz : w.drew.heap.size = w.heap.size := rfl
      rw [hsz] at h1
      refine St.of (h1.perm (L' := L1 ++ ([(w.heap.size, O)] ++ (Lb ++ L2))) ?_) (fun q hq => ?_) ?_
      · rw [hL]
        exact (List.perm_middle).symm
      · simp only [List.mem_append, List.mem_singleton] at hq ⊢
        rcases hq with h | h | h
        · exact .inl h
        · exact .inr (.inl h)
        · exact .inr (.inr (.inr h))
      · have nd := h1.nd
        rw [hL] at nd
        have : (L1 ++ ([(w.heap.size, O)] ++ L2)).Perm ((w.heap.size, O) :: (L1 ++ L2)) := List.perm_middle
        refine ((this.map _).nodup_iff).2 (List.Sublist.nodup (List.Sublist.map _ (List.Sublist.cons_cons _ ?_)) nd)
        exact List.Sublist.append (List.Sublist.refl _) (List.sublist_append_right _ _)
  rcases hv with ⟨p, rfl, hpn, rfl, rfl⟩ | ⟨b, c, sp, rfl, rfl, hnc, hlen2⟩
  · obtain rfl : xs = [] := List.eq_nil_of_length_eq_zero (by simpa using hxl)
    rcases Nat.eq_zero_or_pos m with rfl | hm
    · obtain rfl : us = [] := List.eq_nil_of_length_eq_zero (by simpa using hus)
      have hr := run_append_nothing (P := P) w T T' ty e i3 hu.u hi1 p 0 0 (Nat.le_refl _) y hsrc
      exact ⟨_, [], w, hr, ⟨by simp, .inl ⟨p, rfl, hpn, rfl, rfl⟩⟩, by rw [hf, ← hL]; exact hst⟩
    · refine grow p 0 rfl (Nat.le_refl _) (by omega) ?_
      cases p <;> simp [Builtin.firstCells, loadCells, loadCellsFrom, Sem.run, Pure.pure]
  · have hat : At L b (row e (xs ++ sp)) (fun o => L1 ++ ((b, o) :: L2)) := ⟨L1, L2, by rw [hL]; rfl, fun _ => rfl⟩
    have hrow := hat.heap hst
    by_cases hfit : n + m ≤ c
    · have husp : us.length ≤ sp.length := by
        rw [List.length_append, hxl] at hlen2
        have : (n + m) * sz ≤ c * sz := Nat.mul_le_mul_right _ hfit
        rw [Nat.add_mul] at this; omega
      obtain ⟨w', g1, g2, g3, g4, g5, g6, g7⟩ := run_storeCells (P := P) us 0 (o := n * sz) hrow (by rw [List.length_append, hxl]; omega) hpl
      refine ⟨.slice (some ⟨b, 0, none⟩) (n + m) c, [(b, row e ((xs ++ us) ++ sp.drop us.length))], w', ?_, ⟨hxu, .inr ⟨b, c, _, rfl, rfl, hfit, ?_⟩⟩, ?_⟩
      · rcases src.kind with ⟨e', hk⟩ | hk <;> simp [Builtin.append_, run_underlying hu.u, run_underlying hk, sizeOf, typeInfo, hi1, hi4, src.len, hfit, src.cells, add_none, g1]
      · rw [List.length_append, List.length_append, List.length_drop]
        rw [List.length_append] at hlen2; omega
      · have := hat.upd hst (o' := row e ((xs ++ us) ++ sp.drop us.length)) g2 g3 g4 g5 (by
          rw [g6]; simp only [Nat.add_zero]
          rw [← hxl, setN_append us xs sp husp, List.append_assoc]) g7
        rw [hf]; exact this
    · refine grow _ c rfl hnc (by omega) ?_
      have hx : (Builtin.firstCells sz n (.slice (some ⟨b, 0, none⟩) n c)).run P w.drew = .ok xs.toArray w.drew := by
        have hb2 : w.drew.heap[b]? = some (row e (xs ++ sp)) := hrow
        simp only [Builtin.firstCells, ← hxl]
        exact run_loadCells hb2 (by simpa using LookN.of_get (vs := xs) (o := 0) fun j u hj => by simpa [List.getElem?_append_left (List.getElem?_eq_some_iff.1 hj).1] using hj)
      rw [hi4]; exact hx

section appends
variable {x y : Operand} {T T' e : TypeId}
/-- 'append', from whatever source. -/
theorem o_app {Lb : Own} {f : Own → Own} {sz by' n m : Nat} {z xs us : List Value} {v u : Value} [hu : Sl C.P T e] [hs : Sz C.P e sz] [hb : By C.P e by'] [hz : Zv C.P e z]
    (hx : ρ.ev x = v) (hy : ρ.ev y = u) (ho : OwnS e sz v n xs Lb) (a : AtS L Lb f) (src : ∀ w, St C.w0 C.h0 h L w → Src C.P sz T' u m us w) (hlen : n + m ≤ 1000000000)
    (k : ∀ v' Lb', OwnS e sz v' (n + m) (xs ++ us) Lb' → JL C ops Q rest ds (ρ.set d v') h (f Lb')) (hn : Nat.blt d C.n = true := by rfl) (hzl : z.length = sz := by rfl) (hby : Nat.ble by' 100000 = true := by rfl) :
    JL C ops Q (⟨some d, .call { callee := .builtin .append, args := #[x, y], argTypes := #[T, T'] }, ty, pos, after, none⟩ :: rest) ds ρ h L :=
  JL.val rfl rfl rfl hn fun w hst => by
    have hpl : ∀ u ∈ us, plain u = true := fun u hu => by
      have := (src w hst).one u hu
      cases u <;> first | rfl | cases this
    obtain ⟨v', Lb', w', h1, h2, h3⟩ := run_append (T := T) (T' := T') (e := e) (ty := ty) hzl hst a ho hpl (Nat.le_of_ble_eq_true hby) hlen (src w hst)
    refine ⟨v', h, _, w', ?_, h3, k v' Lb' h2⟩
    have hx' : (Builtin.append_ #[T, T'] ty #[ρ.ev x, ρ.ev y]).run C.P w = .ok v' w' := by rw [hx, hy]; exact h1
    have hm : (#[x, y] : Array Operand).map ρ.ev = #[ρ.ev x, ρ.ev y] := by simp
    simp only [execOp, resolve, hm]
    exact run_v hx'
theorem src_own {b o n c sz e' : Nat} {l us : List Value} {T0 : TypeId} {fr : Nat × Nat} {f : Obj → Own} [hu : Sl C.P T' e'] (a : At L b (.cells ⟨l⟩ T0 fr) f) (hl : LookN l o us) (hlen : us.length = n * sz) (hpl : ∀ u ∈ us, plain u = true) :
    ∀ w, St C.w0 C.h0 h L w → Src C.P sz T' (.slice (some ⟨b, o, none⟩) n c) n us w := fun w hst =>
  Src.ofSlice w hu.u _ n c us hlen (cells_of_row (a.heap hst) hl) (fun u hu => plain_one (hpl u hu))
theorem src_fro {n sz e' : Nat} {us : List Value} {v : Value} {h1 : Heap} [hu : Sl C.P T' e'] [hx : Ext h1 h] (s : SlAt h1 v n sz us) (hpl : ∀ u ∈ us, plain u = true) :
    ∀ w, St C.w0 C.h0 h L w → Src C.P sz T' v n us w := fun w hst => by
  obtain ⟨p, c, rfl, _, hl, hp⟩ := s
  rcases hp with ⟨rfl, _⟩ | ⟨b, o, rfl, hc⟩
  · obtain rfl : us = [] := List.eq_nil_of_length_eq_zero (by simpa using hl)
    cases p with
    | none => exact Src.ofNil w hu.u c
    | some a => exact Src.ofSlice w hu.u a 0 c [] (by simp) (fun j u hj => by simp at hj) (fun u hu => by cases hu)
  · obtain ⟨l, T0, fr, hb, hlk⟩ := hc.mono hx
    exact Src.ofSlice w hu.u _ n c us hl (cells_of_row (hst.fro _ _ hb) hlk) (fun u hu => plain_one (hpl u hu))
end appends

section copies
variable {x y : Operand} {T T' e : TypeId}
/-- 'copy' into a slice of one's own. -/
theorem o_cp {b o n c m : Nat} {sz : Nat} {l us : List Value} {u : Value} {T0 : TypeId} {f : Obj → Own} [hu : Sl C.P T e] [hs : Sz C.P e sz] (hx : ρ.ev x = .slice (some ⟨b, o, none⟩) n c) (hy : ρ.ev y = u)
    (a : At L b (row T0 l) f) (src : ∀ w, St C.w0 C.h0 h L w → Src C.P sz T' u m us w) (hmn : m ≤ n) (hlen : o + us.length ≤ l.length)
    (k : JL C ops Q rest ds (ρ.set d (.int .i64 (m : Int))) h (f (row T0 (setN l o us)))) (hn : Nat.blt d C.n = true := by rfl) :
    JL C ops Q (⟨some d, .call { callee := .builtin .copy, args := #[x, y], argTypes := #[T, T'] }, ty, pos, after, none⟩ :: rest) ds ρ h L :=
  JL.val rfl rfl rfl hn fun w hst => by
    have hsr := src w hst
    have hpl : ∀ u ∈ us, plain u = true := fun u hu => by
      have := hsr.one u hu
      cases u <;> first | rfl | cases this
    obtain ⟨w', g1, g2, g3, g4, g5, g6, g7⟩ := run_storeCells (P := C.P) us 0 (o := o) (a.heap hst) (by omega) hpl
    refine ⟨_, h, _, w', ?_, a.upd hst g2 g3 g4 g5 g6 g7, k⟩
    have hmin : Nat.min m n = m := Nat.min_eq_left hmn
    have h1 : (Builtin.copy_ #[T, T'] ty #[ρ.ev x, ρ.ev y]).run C.P w = .ok (.int .i64 (m : Int)) w' := by
      rw [hx, hy]
      simp [Builtin.copy_, run_underlying hu.u, hsr.len, run_sizeOf hs.i, hmin, hsr.cells, g1, goInt]
    have hm : (#[x, y] : Array Operand).map ρ.ev = #[ρ.ev x, ρ.ev y] := by simp
    simp only [execOp, resolve, hm]
    exact run_v h1
end copies
end Go.Z
end
section
set_option linter.unusedSimpArgs false
set_option linter.unusedVariables false
/- The calculus beneath the proofs: a region whose order is drawn. An operation that only reckons or reads may be taken first; the others are walked in every order that may come up. No program is named here. -/
set_option linter.unusedSimpArgs false
set_option linter.unusedVariables false
namespace Go.Z
open Go Go.RowKit

section low
variable {r : Option Nat} {P : Program} {ops : Array Oper} {Q : Exit → Act → World → Prop}

/-- Whatever order is picked from here on; S holds behind every operation that is carried out, till one of M is. -/
def wpAnyS (r : Option Nat) (P : Program) (ops : Array Oper) (Q : Exit → Act → World → Prop) : Nat → (World → Prop) → List Nat → Array Bool → Act → World → Prop
  | 0, _, _, listed, a, w => Region.ready .any ops listed = [] ∧ Q .normal a w
  | fuel + 1, S, M, listed, a, w => (Region.ready .any ops listed = [] → Q .normal a w) ∧
    ∀ i ∈ Region.ready .any ops listed, wpOpIn (fen r) 0 P ops Q i (fun a' w' =>
      (i ∈ M → wpAnyS r P ops Q fuel (fun _ => True) [] (listed.setIfInBounds i true) a' w') ∧
      (i ∉ M → S w' ∧ wpAnyS r P ops Q fuel S M (listed.setIfInBounds i true) a' w')) a w

theorem wpAny_of_S : ∀ (fuel : Nat) {S : World → Prop} {M : List Nat} {listed : Array Bool} {a : Act} {w : World}, wpAnyS r P ops Q fuel S M listed a w → wpAnyIn (fen r) 0 P .any ops Q fuel listed a w
  | 0, _, _, _, _, _, h => h
  | fuel + 1, S, M, listed, a, w, h => ⟨h.1, fun i hi => wpOpIn_mono (fun a' w' hk => by
      by_cases hm : i ∈ M
      · exact wpAny_of_S fuel (hk.1 hm)
      · exact wpAny_of_S fuel (hk.2 hm).2) (h.2 i hi)⟩
theorem wpAnyS.mono : ∀ (fuel : Nat) {S S' : World → Prop} {M : List Nat} {listed : Array Bool} {a : Act} {w : World}, (∀ w, S w → S' w) → wpAnyS r P ops Q fuel S M listed a w → wpAnyS r P ops Q fuel S' M listed a w
  | 0, _, _, _, _, _, _, _, h => h
  | fuel + 1, S, S', M, listed, a, w, hS, h => ⟨h.1, fun i hi => wpOpIn_mono (fun a' w' hk => ⟨hk.1, fun hm => ⟨hS _ (hk.2 hm).1, wpAnyS.mono fuel hS (hk.2 hm).2⟩⟩) (h.2 i hi)⟩

/-- What operation o yields in every world that meets S. -/
def YS (P : Program) (ops : Array Oper) (S : World → Prop) (o : Oper) (v : Value) (a : Act) : Prop :=
  (Region.wanted o (yielded ops a.tmps) = true ∧ ∀ w, S w → (execOp a.eval o).run P w = .ok (.value v) w) ∨
  (Region.wanted o (yielded ops a.tmps) = false ∧ v = undef)
theorem YS.wpOp {S : World → Prop} {i : Nat} {o : Oper} {v : Value} {a : Act} (hi : ops[i]? = some o) (hc : calm o.op = true) (hy : YS P ops S o v a) {K : Act → World → Prop} {w : World} (hS : S w)
    (h : K (a.put o.dst v) w) : wpOpIn (fen r) 0 P ops Q i K a w := by
  unfold wpOpIn
  simp only [hi]
  rcases hy with ⟨hw, hv⟩ | ⟨hw, rfl⟩
  · simp only [hw, if_true, Oper.wpIn, semAt_calm hc, hv w hS, Oper.uponIn]; exact ⟨fun _ _ => trivial, h⟩
  · simp only [hw, Bool.false_eq_true, if_false]; exact ⟨fun _ _ => trivial, h⟩
theorem YS.of_same {S : World → Prop} {o : Oper} {v : Value} {a a' : Act} (hy : YS P ops S o v a) (he : execOp a'.eval o = execOp a.eval o)
    (hw : Region.wanted o (yielded ops a'.tmps) = Region.wanted o (yielded ops a.tmps)) : YS P ops S o v a' := by
  unfold YS at *
  rw [he, hw]
  exact hy
theorem wpOp_putS {S : World → Prop} {j : Nat} {oi oj : Oper} {v : Value} (hj : ops[j]? = some oj) (hap : oi.apart ops oj = true) (hci : calm oi.op = true) (hcj : calm oj.op = true)
    (hsi : ∀ cs b, oi.op ≠ .select cs b) (hsj : ∀ cs b, oj.op ≠ .select cs b)
    (hQ : ∀ c a w, Q (.panic c) a w → False) (hO : ∀ a w, Q .outgrown a w → False) {K : Act → World → Prop} {a : Act} {w : World}
    (hy : YS P ops S oi v a) (h : wpOpIn (fen r) 0 P ops Q j K (a.put oi.dst v) w) :
    wpOpIn (fen r) 0 P ops Q j (fun a' w' => YS P ops S oi v a' ∧ K (a'.put oi.dst v) w') a w := by
  obtain ⟨h1, h2, h3⟩ := Oper.apart_spec hap
  have keep : ∀ (a : Act), YS P ops S oi v a → ∀ u, YS P ops S oi v (a.put oj.dst u) := fun a hy u =>
    hy.of_same (execOp_put oi hsi a oj.dst u h3) (wanted_put oi a oj.dst u h3)
  have keepD : ∀ d, YS P ops S oi v { a with defers := d :: a.defers } := fun d => hy.of_same rfl rfl
  unfold wpOpIn at *
  simp only [hj] at *
  rw [wanted_put oj a oi.dst v h1] at h
  split
  · rename_i hw
    simp only [hw, if_true] at h
    unfold Oper.wpIn at *
    refine ⟨fun _ _ => trivial, ?_⟩
    have h := h.2
    rw [semAt_calm hcj, execOp_put oj hsj a oi.dst v h1] at h
    rw [semAt_calm hcj]
    generalize (execOp a.eval oj).run P w = r at *
    cases r with
    | ok x w' =>
      cases x <;> simp only [Oper.uponIn] at h ⊢
      case value u => exact ⟨keep a hy u, by rw [← Act.put_comm a v u h2]; exact h⟩
      case skip => exact ⟨keep a hy _, by rw [← Act.put_comm a v undef h2]; exact h⟩
      case defer d =>
        refine ⟨keep _ (keepD d) _, ?_⟩
        rw [← Act.put_comm _ v undef h2, ← Act.put_defers]
        exact h
      case enter f args =>
        refine ⟨h.1, CallsIn.mono h.2 fun e w'' he => ?_⟩
        cases e with
        | returned u => exact ⟨keep a hy u, by rw [← Act.put_comm a v u h2]; exact he⟩
        | panicked c => exact (hQ _ _ _ he).elim
        | outgrown => exact he
      case row row args => exact ⟨h.1, RowsIn.mono h.2 fun u w'' he => ⟨keep a hy u, by rw [← Act.put_comm a v u h2]; exact he⟩⟩
      case round l f tmps assign body =>
        refine ⟨h.1, RoundIn.mono h.2 fun e w'' he => ?_⟩
        cases e with
        | returned u => exact ⟨keep a hy u, by rw [← Act.put_comm a v u h2]; exact he⟩
        | panicked c => exact (hQ _ _ _ he).elim
        | outgrown => exact he
    | halt x w' =>
      cases x <;> simp only [Oper.uponIn] at h ⊢
      case panic u => exact (hQ _ _ _ h).elim
  · rename_i hw
    simp only [hw] at h
    exact ⟨fun _ _ => trivial, keep a hy _, by rw [← Act.put_comm a v undef h2]; exact h.2⟩

/-- The closed conditions under which operation i may be taken first: it may come up; whoever else has not come up waits for it or is apart from it; no select, no defer in the region; whoever is in M waits for it. -/
def takeOk (ops : Array Oper) (listed : Array Bool) (M : List Nat) (i : Nat) : Bool :=
  Region.noSelect ops && ops.all (fun o => calm o.op) && Region.free .any ops listed i && (Region.ready .any ops listed).contains i &&
  M.all fun m => match ops[m]? with
    | some o => o.after.any fun e => Region.binds .any e && e.on == i
    | none => true

theorem wpAnyS_take {i : Nat} {oi : Oper} {v : Value} (hi : ops[i]? = some oi) (hsel : Region.noSelect ops = true) (hcalm : ∀ (j : Nat) (o : Oper), ops[j]? = some o → calm o.op = true)
    (hQ : ∀ c a w, Q (.panic c) a w → False) (hO : ∀ a w, Q .outgrown a w → False) {S : World → Prop} {M : List Nat} (hM : ∀ m ∈ M, ∀ o, ops[m]? = some o → ∃ e ∈ o.after, Region.binds .any e = true ∧ e.on = i) :
    ∀ (fuel : Nat) (listed : Array Bool) (a : Act) (w : World),
      (∀ j oj, ops[j]? = some oj → j ≠ i → listed.getD j true = false → (∀ e ∈ oj.after, Region.binds .any e = true → e.on ≠ i) → oi.apart ops oj = true) →
      i ∈ Region.ready .any ops listed → i ∉ M → YS P ops S oi v a → S w →
      wpAnyS r P ops Q fuel S M (listed.setIfInBounds i true) (a.put oi.dst v) w → wpAnyS r P ops Q (fuel + 1) S M listed a w := by
  have hs := Region.noSelect_spec hsel
  intro fuel
  induction fuel with
  | zero =>
    intro listed a w _ hr hiM hy hS H
    refine ⟨fun h => (by rw [h] at hr; cases hr), fun j hj => ?_⟩
    by_cases hji : j = i
    · subst hji; exact hy.wpOp hi (hcalm _ _ hi) hS ⟨fun h => absurd h hiM, fun _ => ⟨hS, H⟩⟩
    · have := ready_mono hj hji
      rw [H.1] at this
      cases this
  | succ fuel ih =>
    intro listed a w hfree hr hiM hy hS H
    refine ⟨fun h => (by rw [h] at hr; cases hr), fun j hj => ?_⟩
    by_cases hji : j = i
    · subst hji; exact hy.wpOp hi (hcalm _ _ hi) hS ⟨fun h => absurd h hiM, fun _ => ⟨hS, H⟩⟩
    · have h1 := H.2 j (ready_mono hj hji)
      obtain ⟨hjun, oj, hoj, hall⟩ := mem_ready.1 hj
      have hnot : ∀ e ∈ oj.after, Region.binds .any e = true → e.on ≠ i := fun e he hb heq => by
        have h1 := hall e he hb
        have h0 := (mem_ready.1 hr).1
        rw [heq] at h1
        rcases Nat.lt_or_ge i listed.size with h' | h'
        · simp [h'] at h0 h1; rw [h0] at h1; cases h1
        · simp [Array.getElem?_eq_none h'] at h1
      have hjM : j ∉ M := fun hm => by
        obtain ⟨e, he, hb, hon⟩ := hM j hm oj hoj
        exact hnot e he hb hon
      have h2 := wpOp_putS (P := P) hoj (hfree j oj hoj hji hjun hnot) (hcalm _ _ hi) (hcalm _ _ hoj) (fun cs b => hs i oi cs b hi) (fun cs b => hs j oj cs b hoj) hQ hO hy h1
      have hfree' : ∀ k ok, ops[k]? = some ok → k ≠ i → (listed.setIfInBounds j true).getD k true = false →
          (∀ e ∈ ok.after, Region.binds .any e = true → e.on ≠ i) → oi.apart ops ok = true := fun k ok hk hki hun hno => by
        refine hfree k ok hk hki ?_ hno
        by_cases hjk : j = k
        · subst hjk; exact hjun
        · rw [getD_set_ne true hjk] at hun; exact hun
      refine wpOpIn_mono (fun a' w' h3 => ⟨fun h => absurd h hjM, fun _ => ⟨(h3.2.2 hjM).1, ih (listed.setIfInBounds j true) a' w' hfree' (ready_mono hr (Ne.symm hji)) hiM h3.1 (h3.2.2 hjM).1 ?_⟩⟩) h2
      rw [Array.setIfInBounds_comm _ _ hji]
      exact (h3.2.2 hjM).2

/-- An operation that yields in whatever world. -/
theorem wpAnyS_pure {i : Nat} {oi : Oper} {v : Value} (hi : ops[i]? = some oi) (hsel : Region.noSelect ops = true) (hcalm : ∀ (j : Nat) (o : Oper), ops[j]? = some o → calm o.op = true)
    (hQ : ∀ c a w, Q (.panic c) a w → False) (hO : ∀ a w, Q .outgrown a w → False) :
    ∀ (fuel : Nat) (S : World → Prop) (M : List Nat) (listed : Array Bool) (a : Act) (w : World),
      (∀ j oj, ops[j]? = some oj → j ≠ i → listed.getD j true = false → (∀ e ∈ oj.after, Region.binds .any e = true → e.on ≠ i) → oi.apart ops oj = true) →
      i ∈ Region.ready .any ops listed → i ∉ M → YS P ops (fun _ => True) oi v a → S w →
      wpAnyS r P ops Q fuel S M (listed.setIfInBounds i true) (a.put oi.dst v) w → wpAnyS r P ops Q (fuel + 1) S M listed a w := by
  have hs := Region.noSelect_spec hsel
  intro fuel
  induction fuel with
  | zero =>
    intro S M listed a w _ hr hiM hy hS H
    refine ⟨fun h => (by rw [h] at hr; cases hr), fun j hj => ?_⟩
    by_cases hji : j = i
    · subst hji; exact hy.wpOp hi (hcalm _ _ hi) trivial ⟨fun h => absurd h hiM, fun _ => ⟨hS, H⟩⟩
    · have := ready_mono hj hji
      rw [H.1] at this
      cases this
  | succ fuel ih =>
    intro S M listed a w hfree hr hiM hy hS H
    refine ⟨fun h => (by rw [h] at hr; cases hr), fun j hj => ?_⟩
    by_cases hji : j = i
    · subst hji; exact hy.wpOp hi (hcalm _ _ hi) trivial ⟨fun h => absurd h hiM, fun _ => ⟨hS, H⟩⟩
    · have h1 := H.2 j (ready_mono hj hji)
      obtain ⟨hjun, oj, hoj, hall⟩ := mem_ready.1 hj
      have hnot : ∀ e ∈ oj.after, Region.binds .any e = true → e.on ≠ i := fun e he hb heq => by
        have h1 := hall e he hb
        have h0 := (mem_ready.1 hr).1
        rw [heq] at h1
        rcases Nat.lt_or_ge i listed.size with h' | h'
        · simp [h'] at h0 h1; rw [h0] at h1; cases h1
        · simp [Array.getElem?_eq_none h'] at h1
      have h2 := wpOp_putS (P := P) hoj (hfree j oj hoj hji hjun hnot) (hcalm _ _ hi) (hcalm _ _ hoj) (fun cs b => hs i oi cs b hi) (fun cs b => hs j oj cs b hoj) hQ hO hy h1
      have hfree' : ∀ k ok, ops[k]? = some ok → k ≠ i → (listed.setIfInBounds j true).getD k true = false →
          (∀ e ∈ ok.after, Region.binds .any e = true → e.on ≠ i) → oi.apart ops ok = true := fun k ok hk hki hun hno => by
        refine hfree k ok hk hki ?_ hno
        by_cases hjk : j = k
        · subst hjk; exact hjun
        · rw [getD_set_ne true hjk] at hun; exact hun
      refine wpOpIn_mono (fun a' w' h3 => ⟨fun hm => ?_, fun hm => ⟨(h3.2.2 hm).1, ih S M (listed.setIfInBounds j true) a' w' hfree' (ready_mono hr (Ne.symm hji)) hiM h3.1 (h3.2.2 hm).1 ?_⟩⟩) h2
      · refine ih (fun _ => True) [] (listed.setIfInBounds j true) a' w' hfree' (ready_mono hr (Ne.symm hji)) (by simp) h3.1 trivial ?_
        rw [Array.setIfInBounds_comm _ _ hji]
        exact h3.2.1 hm
      · rw [Array.setIfInBounds_comm _ _ hji]
        exact (h3.2.2 hm).2
end low
end Go.Z
end
section
set_option linter.unusedSimpArgs false
set_option linter.unusedVariables false
/- The calculus beneath the proofs: the rules for a region whose order is drawn. No program is named here. -/
set_option linter.unusedSimpArgs false
set_option linter.unusedVariables false
namespace Go.Z
open Go Go.RowKit

variable {C : Cfg} {Q Q' : Post} {ds : List Deferred} {ρ : Env} {h : Heap} {L Ls : Own} {ops : Array Oper} {rest : List Oper} {S : World → Prop} {M : List Nat} {listed : Array Bool} {fuel : Nat}

/-- One list of blocks within another. -/
class Sb (a b : Own) : Prop where s : a.Sublist b
instance (priority := 1200) Sb.refl (a : Own) : Sb a a := ⟨List.Sublist.refl a⟩
instance (priority := 1150) Sb.nil (b : Own) : Sb [] b := ⟨List.nil_sublist b⟩
instance (priority := 1100) Sb.both {a b : Own} {x : Nat × Obj} [h : Sb a b] : Sb (x :: a) (x :: b) := ⟨List.Sublist.cons_cons x h.s⟩
instance Sb.skip {a b : Own} {x : Nat × Obj} [h : Sb a b] : Sb a (x :: b) := ⟨List.Sublist.cons x h.s⟩
instance Sb.app {a b c : Own} [h : Sb a b] : Sb a (c ++ b) := ⟨h.s.trans (List.sublist_append_right _ _)⟩
instance Sb.bothA {a b c : Own} [h : Sb a b] : Sb (c ++ a) (c ++ b) := ⟨List.Sublist.append (List.Sublist.refl c) h.s⟩

/-- The model takes any order that the edges allow. -/
class Mix (P : Program) : Prop where m : P.follows .mixedOrders = true

@[reducible] def noP (Q : Post) : Post
  | .panic _, _, _, _, _ => False
  | .outgrown, _, _, _, _ => False
  | e, ds, ρ, h, L => Q e ds ρ h L
theorem noP_panic {c : List PanicEntry} {a : Act} {w : World} (h : lift C (noP Q) (.panic c) a w) : False := by
  obtain ⟨_, _, _, _, _, _, h⟩ := h; exact h
theorem noP_out {a : Act} {w : World} (h : lift C (noP Q) .outgrown a w) : False := by
  obtain ⟨_, _, _, _, _, _, h⟩ := h; exact h
theorem noP_lift {e : Exit} {a : Act} {w : World} (h : lift C (noP Q) e a w) : lift C Q e a w := by
  obtain ⟨ds, ρ, h', L', h1, h2, h3⟩ := h
  refine ⟨ds, ρ, h', L', h1, h2, ?_⟩
  cases e <;> first | exact h3 | exact h3.elim

def JD (C : Cfg) (ops : Array Oper) (Q : Post) (S : World → Prop) (M : List Nat) (fuel : Nat) (listed : Array Bool) (ds : List Deferred) (ρ : Env) (h : Heap) (L : Own) : Prop :=
  ∀ a w, Ag C.n ds a ρ → St C.w0 C.h0 h L w → wpAnyS C.r C.P ops (lift C (noP Q)) fuel S M listed a w

/-- The beginning: M: the operations that change what is read here; Ls: the owned blocks that are read. -/
theorem J.draw {id : Nat} {l : List Oper} (Ls : Own) (M : List Nat) [hm : Mix C.P] (k : JD C l.toArray Q (SS C h Ls) M l.length (Array.replicate l.length false) ds ρ h L) :
    J C (.region id l.toArray true) Q ds ρ h L := fun a w ha hs =>
  wpIn_mono (wpIn_region_any hm.m (wpAny_of_S _ (k a _ ⟨ha.size, ha.defers, ha.get⟩ hs.drew))) fun _ _ _ => noP_lift

theorem J.drawA {id : Nat} {l : List Oper} (M : List Nat) [hm : Mix C.P] (k : JD C l.toArray Q (SS C h L) M l.length (Array.replicate l.length false) ds ρ h L) :
    J C (.region id l.toArray true) Q ds ρ h L := J.draw L M k
/-- The guard holds. -/
def WantT (ops : Array Oper) (ρ : Env) : Option (Nat × Bool) → Prop
  | none => True
  | some (j, want) => ∃ t, (ops[j]?).bind (·.dst) = some t ∧ ρ t = .bool want
theorem WantT.wanted {n : Nat} {a : Act} {o : Oper} (ha : Ag n ds a ρ) (h : WantT ops ρ o.guard) : Region.wanted o (yielded ops a.tmps) = true := by
  unfold Region.wanted
  cases hg : o.guard with
  | none => rfl
  | some p =>
    obtain ⟨j, want⟩ := p
    rw [hg] at h
    obtain ⟨t, ht, hv⟩ := h
    simp [yielded_eq ha ht hv]

theorem Array.any_eq_true_iff_exists_mem' {α : Type} {p : α → Bool} {xs : Array α} : xs.any p = true ↔ ∃ x ∈ xs, p x = true := by
  rw [← Array.any_toList, List.any_eq_true]; simp
theorem all_calm (h : ops.all (fun o => calm o.op) = true) (j : Nat) (o : Oper) (hj : ops[j]? = some o) : calm o.op = true :=
  Array.all_eq_true_iff_forall_mem.1 h o (Array.mem_of_getElem? hj)

section takes
variable {i : Nat} {d : Nat} {op : Op} {ty : TypeId} {pos : String} {after : Array Edge} {g : Option (Nat × Bool)} {v : Value}
/-- An operation that reads is taken first. -/
theorem JD.load (i : Nat) (chk : (takeOk ops listed M i && !M.contains i) = true) (ho : ops[i]? = some ⟨some d, op, ty, pos, after, g⟩) (hg : WantT ops ρ g) [sub : Sb Ls L]
    (q : Qr C ρ (SS C h Ls) op ty v) (k : JD C ops Q (SS C h Ls) M fuel (listed.setIfInBounds i true) ds (ρ.set d v) h L) (hn : Nat.blt d C.n = true := by rfl) :
    JD C ops Q (SS C h Ls) M (fuel + 1) listed ds ρ h L := fun a w ha hs => by
  simp only [takeOk, Bool.and_eq_true, Bool.not_eq_true'] at chk
  obtain ⟨⟨⟨⟨⟨c1, c2⟩, c3⟩, c4⟩, c5⟩, c6⟩ := chk
  have hSS : SS C h Ls w := ⟨h, L, Ext.refl h, fun _ hp => sub.s.subset hp, hs⟩
  refine wpAnyS_take ho c1 (all_calm c2) (fun _ _ _ => noP_panic) (fun _ _ => noP_out) (fun m hm o hmo => ?_) fuel listed a w (Region.free_spec ho c3) (by simpa using c4) (by simpa using c6) (.inl ⟨WantT.wanted ha hg, fun w' hw' => ?_⟩) hSS (k _ _ (ha.put hn v) hs)
  · have := List.all_eq_true.1 c5 m hm
    rw [hmo] at this
    obtain ⟨e, he, hx⟩ := Array.any_eq_true_iff_exists_mem'.1 this
    simp only [Bool.and_eq_true, beq_iff_eq] at hx
    exact ⟨e, he, hx.1, hx.2⟩
  · rw [ha.eval]; exact q.exec hw'
/-- An operation that only reckons is taken first. -/
theorem JD.calc (i : Nat) (chk : (takeOk ops listed [] i && !M.contains i) = true) (ho : ops[i]? = some ⟨some d, op, ty, pos, after, g⟩) (hg : WantT ops ρ g) (hS : ∀ w, St C.w0 C.h0 h L w → S w)
    (q : Qr C ρ (fun _ => True) op ty v) (k : JD C ops Q S M fuel (listed.setIfInBounds i true) ds (ρ.set d v) h L) (hn : Nat.blt d C.n = true := by rfl) :
    JD C ops Q S M (fuel + 1) listed ds ρ h L := fun a w ha hs => by
  simp only [takeOk, Bool.and_eq_true, Bool.not_eq_true'] at chk
  obtain ⟨⟨⟨⟨⟨c1, c2⟩, c3⟩, c4⟩, c5⟩, c6⟩ := chk
  exact wpAnyS_pure ho c1 (all_calm c2) (fun _ _ _ => noP_panic) (fun _ _ => noP_out) fuel S M listed a w (Region.free_spec ho c3) (by simpa using c4) (by simpa using c6)
    (.inl ⟨WantT.wanted ha hg, fun w' _ => by rw [ha.eval]; exact q.exec trivial⟩) (hS _ hs) (k _ _ (ha.put hn v) hs)
/-- An operation whose guard fails is passed over first. -/
theorem JD.pass (i : Nat) {j t : Nat} {want : Bool} (chk : (takeOk ops listed [] i && !M.contains i) = true) (ho : ops[i]? = some ⟨some d, op, ty, pos, after, some (j, want)⟩)
    (hj : (ops[j]?).bind (·.dst) = some t) (hb : ρ t = .bool (!want)) (hS : ∀ w, St C.w0 C.h0 h L w → S w)
    (k : JD C ops Q S M fuel (listed.setIfInBounds i true) ds (ρ.set d undef) h L) (hn : Nat.blt d C.n = true := by rfl) :
    JD C ops Q S M (fuel + 1) listed ds ρ h L := fun a w ha hs => by
  simp only [takeOk, Bool.and_eq_true, Bool.not_eq_true'] at chk
  obtain ⟨⟨⟨⟨⟨c1, c2⟩, c3⟩, c4⟩, c5⟩, c6⟩ := chk
  refine wpAnyS_pure ho c1 (all_calm c2) (fun _ _ _ => noP_panic) (fun _ _ => noP_out) fuel S M listed a w (Region.free_spec ho c3) (by simpa using c4) (by simpa using c6)
    (.inr ⟨?_, rfl⟩) (hS _ hs) (k _ _ (ha.put hn undef) hs)
  simp only [Region.wanted]; rw [yielded_eq ha hj hb]; cases want <;> rfl
theorem ss_top : ∀ w, St C.w0 C.h0 h L w → (fun _ : World => True) w := fun _ _ => trivial
theorem ss_sub [sub : Sb Ls L] : ∀ w, St C.w0 C.h0 h L w → SS C h Ls w := fun w hs => ⟨h, L, Ext.refl h, fun _ hp => sub.s.subset hp, hs⟩
end takes

/-- Operation i comes up now. -/
def JX (C : Cfg) (ops : Array Oper) (Q : Post) (S : World → Prop) (M : List Nat) (fuel : Nat) (listed : Array Bool) (ds : List Deferred) (ρ : Env) (h : Heap) (L : Own) (i : Nat) : Prop :=
  ∀ a w, Ag C.n ds a ρ → St C.w0 C.h0 h L w → wpOpIn (fen C.r) 0 C.P ops (lift C (noP Q)) i (fun a' w' =>
      (i ∈ M → wpAnyS C.r C.P ops (lift C (noP Q)) fuel (fun _ => True) [] (listed.setIfInBounds i true) a' w') ∧
      (i ∉ M → S w' ∧ wpAnyS C.r C.P ops (lift C (noP Q)) fuel S M (listed.setIfInBounds i true) a' w')) a w

theorem wpOp_of_JL {i : Nat} {o : Oper} {K : List Deferred → Env → Heap → Own → Prop} {K2 : Act → World → Prop} {Q2 : Exit → Act → World → Prop} (ho : ops[i]? = some o) (hg : WantT ops ρ o.guard)
    (k : JL C ops (fun e ds' ρ' h' L' => e = .normal ∧ K ds' ρ' h' L') [{ o with guard := none }] ds ρ h L) {a : Act} {w : World} (ha : Ag C.n ds a ρ) (hs : St C.w0 C.h0 h L w)
    (hK : ∀ a w ds ρ h L, Ag C.n ds a ρ → St C.w0 C.h0 h L w → K ds ρ h L → K2 a w) : wpOpIn (fen C.r) 0 C.P ops Q2 i K2 a w := by
  have hk := k a w ha hs
  have hw0 : Region.wanted { o with guard := none } (yielded ops a.tmps) = true := rfl
  simp only [wpL] at hk
  rw [if_pos hw0] at hk
  unfold wpOpIn
  simp only [ho]
  rw [if_pos (WantT.wanted ha hg)]
  refine ⟨fun _ _ => trivial, ?_⟩
  have h2 := hk.2
  have hsem : (o.semAt (fen C.r).round a.eval) = (({ o with guard := none } : Oper).semAt (fen C.r).round a.eval) := rfl
  rw [hsem]
  generalize (({ o with guard := none } : Oper).semAt (fen C.r).round a.eval).run C.P w = res at h2 ⊢
  have conv : ∀ a w, lift C (fun e ds' ρ' h' L' => e = .normal ∧ K ds' ρ' h' L') .normal a w → K2 a w := fun a w ⟨ds, ρ, h, L, x, y, _, z⟩ => hK a w ds ρ h L x y z
  have nop : ∀ e a w, e ≠ Exit.normal → lift C (fun e ds' ρ' h' L' => e = .normal ∧ K ds' ρ' h' L') e a w → False := fun e a w hne ⟨_, _, _, _, _, _, x, _⟩ => hne x
  cases res with
  | ok nx w' =>
    cases nx <;> simp only [Oper.uponIn] at h2 ⊢
    case value v => exact conv _ _ h2
    case skip => exact conv _ _ h2
    case defer dd => exact conv _ _ h2
    case enter f args => exact ⟨h2.1, CallsIn.mono h2.2 fun e w'' he => by cases e <;> first | exact conv _ _ he | exact (nop _ _ _ (by simp) he).elim | (obtain ⟨_, _, he⟩ := he; exact (nop _ _ _ (by simp) he).elim)⟩
    case row row args => exact ⟨h2.1, RowsIn.mono h2.2 fun v w'' he => conv _ _ he⟩
    case round l f tmps assign body => exact ⟨h2.1, RoundIn.mono h2.2 fun e w'' he => by cases e <;> first | exact conv _ _ he | exact (nop _ _ _ (by simp) he).elim | (obtain ⟨_, _, he⟩ := he; exact (nop _ _ _ (by simp) he).elim)⟩
  | halt x w' =>
    cases x <;> simp only [Oper.uponIn] at h2 ⊢
    case panic u => exact (nop _ _ _ (by simp) h2).elim

theorem JX.eff {i : Nat} {o : Oper} (ho : ops[i]? = some o) (hM : M.contains i = false) (hg : WantT ops ρ o.guard)
    (k : JL C ops (fun e ds' ρ' h' L' => e = .normal ∧ Ext h h' ∧ Sb Ls L' ∧ JD C ops Q (SS C h' Ls) M fuel (listed.setIfInBounds i true) ds' ρ' h' L') [{ o with guard := none }] ds ρ h L) :
    JX C ops Q (SS C h Ls) M fuel listed ds ρ h L i := fun a w ha hs =>
  wpOp_of_JL ho hg k ha hs fun a w ds' ρ' h' L' x y ⟨e, sub, kd⟩ => by
    have hmono : ∀ w, SS C h' Ls w → SS C h Ls w := fun w ⟨h2, L2, e2, s2, st⟩ => ⟨h2, L2, ⟨fun b o hb => e2.le b o (e.le b o hb)⟩, s2, st⟩
    exact ⟨fun hm => absurd (by simpa using hm) (by simpa using hM), fun _ => ⟨hmono _ ⟨h', L', Ext.refl h', fun _ hp => sub.s.subset hp, y⟩, (kd a w x y).mono _ hmono⟩⟩
theorem JX.mut {i : Nat} {o : Oper} (ho : ops[i]? = some o) (hM : M.contains i = true) (hg : WantT ops ρ o.guard)
    (k : JL C ops (fun e ds' ρ' h' L' => e = .normal ∧ JD C ops Q (fun _ => True) [] fuel (listed.setIfInBounds i true) ds' ρ' h' L') [{ o with guard := none }] ds ρ h L) :
    JX C ops Q S M fuel listed ds ρ h L i := fun a w ha hs =>
  wpOp_of_JL ho hg k ha hs fun a w ds' ρ' h' L' x y kd => And.intro (fun _ => kd a w x y) (fun hm => absurd (by simpa using hM) hm)
/-- Behind a change nothing more is read: whatever is left may come up. -/
theorem JX.free {i : Nat} {o : Oper} (ho : ops[i]? = some o) (hg : WantT ops ρ o.guard)
    (k : JL C ops (fun e ds' ρ' h' L' => e = .normal ∧ JD C ops Q (fun _ => True) [] fuel (listed.setIfInBounds i true) ds' ρ' h' L') [{ o with guard := none }] ds ρ h L) :
    JX C ops Q (fun _ => True) [] fuel listed ds ρ h L i := fun a w ha hs =>
  wpOp_of_JL ho hg k ha hs fun a w ds' ρ' h' L' x y kd => And.intro (fun hm => (by cases hm)) (fun _ => And.intro trivial (kd a w x y))

/-- Whichever of rs comes up. -/
def AllX (f : Nat → Prop) : List Nat → Prop
  | [] => True
  | i :: rs => f i ∧ AllX f rs
theorem JD.all (rs : List Nat) (hr : Region.ready .any ops listed = rs) (hne : rs.isEmpty = false) (k : AllX (JX C ops Q S M fuel listed ds ρ h L) rs) : JD C ops Q S M (fuel + 1) listed ds ρ h L := fun a w ha hs => by
  refine ⟨fun h0 => ?_, fun i hi => ?_⟩
  · rw [hr] at h0; subst h0; cases hne
  · rw [hr] at hi
    have : ∀ rs : List Nat, AllX (JX C ops Q S M fuel listed ds ρ h L) rs → ∀ i ∈ rs, JX C ops Q S M fuel listed ds ρ h L i := fun rs => by
      induction rs with
      | nil => intro _ i hi; cases hi
      | cons x rs ih =>
        intro k i hi
        rcases List.mem_cons.1 hi with rfl | hi
        · exact k.1
        · exact ih k.2 i hi
    exact this rs k i hi a w ha hs
theorem JD.one (i : Nat) (hr : Region.ready .any ops listed = [i]) (k : JX C ops Q S M fuel listed ds ρ h L i) : JD C ops Q S M (fuel + 1) listed ds ρ h L := JD.all [i] hr rfl ⟨k, trivial⟩
theorem JD.done (hr : Region.ready .any ops listed = []) (k : Q .normal ds ρ h L) : ∀ fuel, JD C ops Q S M fuel listed ds ρ h L
  | 0 => fun a w ha hs => ⟨hr, ds, ρ, h, L, ha, hs, k⟩
  | _ + 1 => fun a w ha hs => ⟨fun _ => ⟨ds, ρ, h, L, ha, hs, k⟩, by rw [hr]; simp⟩
theorem JD.weak {S' : World → Prop} (hS : ∀ w, S' w → S w) (k : JD C ops Q S' M fuel listed ds ρ h L) : JD C ops Q S M fuel listed ds ρ h L := fun a w ha hs => (k a w ha hs).mono _ hS
end Go.Z
end
section
set_option linter.unusedSimpArgs false
set_option linter.unusedVariables false
/- The calculus beneath the proofs: freezing of owned blocks, operations on bits. No program is named here. -/
set_option linter.unusedSimpArgs false
set_option linter.unusedVariables false
namespace Go.Z
open Go Go.RowKit

variable {C : Cfg} {Q Q' : Post} {ds : List Deferred} {ρ : Env} {h : Heap} {L : Own} {ops : Array Oper} {rest : List Oper}
variable {d : Nat} {ty : TypeId} {pos : String} {after : Array Edge} {S : World → Prop}

instance (priority := 900) AtS.one {p : Nat × Obj} {L2 : Own} : AtS (p :: L2) [p] (fun x => x ++ L2) := ⟨[], L2, rfl, fun _ => rfl⟩

theorem AtS.perm {L Lb : Own} {f : Own → Own} (a : AtS L Lb f) : L.Perm (Lb ++ f []) := by
  obtain ⟨L1, L2, h1, h2⟩ := a.e
  rw [h1, h2]
  simp only [List.nil_append]
  rw [← List.append_assoc, ← List.append_assoc]
  exact List.Perm.append_right _ List.perm_append_comm

theorem JL.fz1 {b : Nat} {o : Obj} (k : ∀ h', Step h h' → h' b = some o → JL C ops Q rest ds ρ h' L) : JL C ops Q rest ds ρ h ((b, o) :: L) :=
  fun a w ha hs => k _ hs.freeze.2 (by simp) a w ha hs.freeze.1
/-- A block of one's own is written no more. -/
theorem JL.fz {f : Own → Own} (b : Nat) {o : Obj} {g : Obj → Own} [q0 : At L b o g] [a : AtS L [(b, o)] f] (k : ∀ h', Step h h' → h' b = some o → JL C ops Q rest ds ρ h' (f [])) : JL C ops Q rest ds ρ h L :=
  JL.perm a.perm (JL.fz1 k)
theorem J.fz {c : Code} {f : Own → Own} (b : Nat) {o : Obj} {g : Obj → Own} [q0 : At L b o g] [a : AtS L [(b, o)] f] (k : ∀ h', Step h h' → h' b = some o → J C c Q ds ρ h' (f [])) : J C c Q ds ρ h L :=
  J.perm a.perm (J.freeze k)
/-- A slice of one's own is written no more. -/
theorem OwnS.split {T : TypeId} {sz n : Nat} {v : Value} {xs : List Value} {Lb : Own} (o : OwnS T sz v n xs Lb) :
    (Lb = [] ∧ ∀ h, SlAt h v n sz xs) ∨ ∃ b ob, Lb = [(b, ob)] ∧ ∀ h : Heap, h b = some ob → SlAt h v n sz xs := by
  obtain ⟨h1, h2⟩ := o
  rcases h2 with ⟨p, rfl, hp, rfl, rfl⟩ | ⟨b, c, sp, rfl, rfl, h3, h4⟩
  · obtain rfl : xs = [] := List.eq_nil_of_length_eq_zero (by simpa using h1)
    exact .inl ⟨rfl, fun h => ⟨p, 0, rfl, Nat.le_refl _, by simp, .inl ⟨rfl, fun _ _ => trivial⟩⟩⟩
  · refine .inr ⟨b, _, rfl, fun h hb => ⟨_, c, rfl, h3, h1, .inr ⟨b, 0, rfl, _, T, _, hb, ?_⟩⟩⟩
    exact LookN.of_get (vs := xs) (o := 0) fun j u hj => by simpa [List.getElem?_append_left (List.getElem?_eq_some_iff.1 hj).1] using hj
theorem AtS.emp {L : Own} {f : Own → Own} (a : AtS L [] f) : L = f [] := by
  obtain ⟨L1, L2, h1, h2⟩ := a.e
  rw [h1, h2]
theorem JL.fzS {T : TypeId} {sz n : Nat} {v : Value} {xs : List Value} {Lb : Own} {f : Own → Own} (o : OwnS T sz v n xs Lb) [a : AtS L Lb f]
    (k : ∀ h', Step h h' → SlAt h' v n sz xs → JL C ops Q rest ds ρ h' (f [])) : JL C ops Q rest ds ρ h L := by
  rcases o.split with ⟨rfl, hs⟩ | ⟨b, ob, rfl, hs⟩
  · rw [a.emp]; exact k h ⟨fun _ _ x => x⟩ (hs h)
  · exact JL.perm a.perm (JL.fz1 fun h' st hb => k h' st (hs h' hb))
theorem J.fzS {c : Code} {T : TypeId} {sz n : Nat} {v : Value} {xs : List Value} {Lb : Own} {f : Own → Own} (o : OwnS T sz v n xs Lb) [a : AtS L Lb f]
    (k : ∀ h', Step h h' → SlAt h' v n sz xs → J C c Q ds ρ h' (f [])) : J C c Q ds ρ h L := by
  rcases o.split with ⟨rfl, hs⟩ | ⟨b, ob, rfl, hs⟩
  · rw [a.emp]; exact k h ⟨fun _ _ x => x⟩ (hs h)
  · exact J.perm a.perm (J.freeze fun h' st hb => k h' st (hs h' hb))
theorem OwnS.out {T : TypeId} {sz n : Nat} {v : Value} {xs : List Value} {Lb : Own} (o : OwnS T sz v n xs Lb) : ∃ p c, v = .slice p n c := by
  rcases o.2 with ⟨p, rfl, _, rfl, rfl⟩ | ⟨b, c, sp, rfl, rfl, _, _⟩
  · exact ⟨_, _, rfl⟩
  · exact ⟨_, _, rfl⟩
theorem SlAt.out {h : Heap} {n sz : Nat} {v : Value} {xs : List Value} (o : SlAt h v n sz xs) : ∃ p c, v = .slice p n c := by
  obtain ⟨p, c, rfl, _⟩ := o; exact ⟨p, c, rfl⟩

/-! ### Bits -/
section bits
variable {x y : Operand} {T T' : TypeId} {a b : Nat} {c : Int}
theorem ofNat32 {a : Nat} (ha : a < 4294967296) : (BitVec.ofNat 32 a).toNat = a := by
  rw [BitVec.toNat_ofNat]; exact Nat.mod_eq_of_lt ha
theorem ofInt32 {a : Nat} (ha : a < 4294967296) : (BitVec.ofInt 32 (a : Int)).toNat = a := by
  rw [BitVec.ofInt_natCast, BitVec.toNat_ofNat]; exact Nat.mod_eq_of_lt ha
theorem q_xor32 (hx : ρ.ev x = .int .u32 (a : Int)) (hy : ρ.ev y = .int .u32 (b : Int)) (ha : a < 4294967296) (hb : b < 4294967296) : Qr C ρ S (.binOp .xor T x y T') ty (.int .u32 ((a ^^^ b : Nat) : Int)) := ⟨rfl, fun w _ => by
  have h1 := ofInt32 ha
  have h2 := ofInt32 hb
  have h3 : a ^^^ b < 2 ^ 32 := Nat.xor_lt_two_pow ha hb
  have hw : IntKind.u32.wrap ((a ^^^ b : Nat) : Int) = ((a ^^^ b : Nat) : Int) := wu32 (by omega)
  simp [execOp, eqGuard, binOp, Op.intBits, hx, hy, IntKind.bits, h1, h2, hw, Sem.run, bind, Sem.bind, pure]
  exact (congrArg (fun n : Nat => IntKind.u32.wrap (n : Int)) (show (BitVec.ofNat 32 a ^^^ BitVec.ofNat 32 b).toNat = a ^^^ b by rw [BitVec.toNat_xor, ofNat32 ha, ofNat32 hb])).trans hw⟩
theorem q_and32 (hx : ρ.ev x = .int .u32 (a : Int)) (hy : ρ.ev y = .int .u32 (b : Int)) (ha : a < 4294967296) (hb : b < 4294967296) : Qr C ρ S (.binOp .and T x y T') ty (.int .u32 ((a &&& b : Nat) : Int)) := ⟨rfl, fun w _ => by
  have h1 := ofInt32 ha
  have h2 := ofInt32 hb
  have h3 : a &&& b < 2 ^ 32 := Nat.and_lt_two_pow a hb
  have hw : IntKind.u32.wrap ((a &&& b : Nat) : Int) = ((a &&& b : Nat) : Int) := wu32 (by omega)
  simp [execOp, eqGuard, binOp, Op.intBits, hx, hy, IntKind.bits, h1, h2, hw, Sem.run, bind, Sem.bind, pure]
  exact (congrArg (fun n : Nat => IntKind.u32.wrap (n : Int)) (show (BitVec.ofNat 32 a &&& BitVec.ofNat 32 b).toNat = a &&& b by rw [BitVec.toNat_and, ofNat32 ha, ofNat32 hb])).trans hw⟩
theorem q_or32 (hx : ρ.ev x = .int .u32 (a : Int)) (hy : ρ.ev y = .int .u32 (b : Int)) (ha : a < 4294967296) (hb : b < 4294967296) : Qr C ρ S (.binOp .or T x y T') ty (.int .u32 ((a ||| b : Nat) : Int)) := ⟨rfl, fun w _ => by
  have h1 := ofInt32 ha
  have h2 := ofInt32 hb
  have h3 : a ||| b < 2 ^ 32 := Nat.or_lt_two_pow ha hb
  have hw : IntKind.u32.wrap ((a ||| b : Nat) : Int) = ((a ||| b : Nat) : Int) := wu32 (by omega)
  simp [execOp, eqGuard, binOp, Op.intBits, hx, hy, IntKind.bits, h1, h2, hw, Sem.run, bind, Sem.bind, pure]
  exact (congrArg (fun n : Nat => IntKind.u32.wrap (n : Int)) (show (BitVec.ofNat 32 a ||| BitVec.ofNat 32 b).toNat = a ||| b by rw [BitVec.toNat_or, ofNat32 ha, ofNat32 hb])).trans hw⟩
theorem q_com32 (hx : ρ.ev x = .int .u32 (a : Int)) (ha : a < 4294967296) : Qr C ρ S (.unOp .xor T x) ty (.int .u32 ((4294967295 ^^^ a : Nat) : Int)) := ⟨rfl, fun w _ => by
  have h1 := ofInt32 ha
  have h2 : (BitVec.ofInt 32 4294967295).toNat = 4294967295 := by decide
  have h3 : 4294967295 ^^^ a < 2 ^ 32 := Nat.xor_lt_two_pow (by decide) ha
  have hw : IntKind.u32.wrap ((4294967295 ^^^ a : Nat) : Int) = ((4294967295 ^^^ a : Nat) : Int) := wu32 (by omega)
  have hm : IntKind.u32.max = 4294967295 := by decide
  simp [execOp, Op.unary, Op.intBits, hx, IntKind.bits, IntKind.signed, hm, BitVec.toNat_xor, h1, h2, hw, Sem.run, bind, Sem.bind, pure]
  exact (congrArg (fun n : Nat => IntKind.u32.wrap (n : Int)) (show (4294967295#32 ^^^ BitVec.ofNat 32 a).toNat = 4294967295 ^^^ a by rw [BitVec.toNat_xor, ofNat32 ha]; rfl)).trans hw⟩
end bits
/-! ### A guard that was itself passed over -/
theorem yielded_none {n : Nat} {a : Act} (ha : Ag n ds a ρ) {j t : Nat} (hj : (ops[j]?).bind (·.dst) = some t) (hb : ρ t = undef) : yielded ops a.tmps j = none := by
  have hg := ha.get t
  rw [hb] at hg
  simp only [yielded, hj, Option.bind_some]
  rcases Nat.lt_or_ge t a.tmps.size with h | h
  · simp [h] at hg; simp [h, hg, undef]
  · simp [h]
theorem JL.guardU {op : Op} {j t d : Nat} {want : Bool} (hj : (ops[j]?).bind (·.dst) = some t) (hb : ρ t = undef) (hn : Nat.blt d C.n = true)
    (k : JL C ops Q rest ds (ρ.set d undef) h L) : JL C ops Q (⟨some d, op, ty, pos, after, some (j, want)⟩ :: rest) ds ρ h L := fun a w ha hs => by
  have hw1 : ¬ Region.wanted ⟨some d, op, ty, pos, after, some (j, want)⟩ (yielded ops a.tmps) = true := by
    simp only [Region.wanted]; rw [yielded_none ha hj hb]; simp
  simp only [wpL]
  rw [if_neg hw1]
  exact k _ _ (ha.put hn undef) hs
theorem JD.passU {M : List Nat} {listed : Array Bool} {fuel : Nat} {op : Op} (i : Nat) {j t : Nat} {want : Bool} (chk : (takeOk ops listed [] i && !M.contains i) = true) (ho : ops[i]? = some ⟨some d, op, ty, pos, after, some (j, want)⟩)
    (hj : (ops[j]?).bind (·.dst) = some t) (hb : ρ t = undef) (hS : ∀ w, St C.w0 C.h0 h L w → S w)
    (k : JD C ops Q S M fuel (listed.setIfInBounds i true) ds (ρ.set d undef) h L) (hn : Nat.blt d C.n = true := by rfl) :
    JD C ops Q S M (fuel + 1) listed ds ρ h L := fun a w ha hs => by
  simp only [takeOk, Bool.and_eq_true, Bool.not_eq_true'] at chk
  obtain ⟨⟨⟨⟨⟨c1, c2⟩, c3⟩, c4⟩, c5⟩, c6⟩ := chk
  refine wpAnyS_pure ho c1 (all_calm c2) (fun _ _ _ => noP_panic) (fun _ _ => noP_out) fuel S M listed a w (Region.free_spec ho c3) (by simpa using c4) (by simpa using c6)
    (.inr ⟨?_, rfl⟩) (hS _ hs) (k _ _ (ha.put hn undef) hs)
  simp only [Region.wanted]; rw [yielded_none ha hj hb]; rfl
/-! ### Values said in their form, so that environments stay small -/
theorem q_mvv {x : Operand} {v : Value} (hv : ρ.ev x = v) : Qr C ρ S (.move x) ty v := ⟨rfl, fun _ _ => by subst hv; rfl⟩
theorem q_asv {x : Operand} {v : Value} (hv : ρ.ev x = v) : Qr C ρ S (.assign x) ty v := ⟨rfl, fun _ _ => by subst hv; rfl⟩
theorem q_pickTv {c x y : Operand} {b : Bool} {v : Value} (hc : ρ.ev c = .bool b) (hb : b = true) (hv : ρ.ev x = v) : Qr C ρ S (.pick c x y) ty v := by subst hv; exact q_pickT hc hb
theorem q_pickFv {c x y : Operand} {b : Bool} {v : Value} (hc : ρ.ev c = .bool b) (hb : b = false) (hv : ρ.ev y = v) : Qr C ρ S (.pick c x y) ty v := by subst hv; exact q_pickF hc hb
theorem keep_of {ρ : Env} : ∀ {kv : List (Nat × Value)}, Has ρ kv → keepOf ρ (kv.map (·.1)) = kv
  | [], _ => rfl
  | (t, v) :: l, ⟨e, hl⟩ => by simp only [List.map_cons, keepOf, keep_of hl, e]
theorem J.loopK {α : Type} {c : Code} (I : α → Heap → Own → Prop) (kv : List (Nat × Value)) (hk : Has ρ kv) (sl : α → List (Nat × Value)) (μ : α → Nat) (x0 : α)
    (h0 : I x0 h L) (hs : Has ρ (sl x0))
    (round : ∀ x σ h' L', Step h h' → I x h' L' →
      J C c (thenQ (fun ds' ρ' h'' L'' => ∃ x', ds' = ds ∧ Has ρ' kv ∧ Has ρ' (sl x') ∧ I x' h'' L'' ∧ μ x' < μ x ∧ Ext h h'') Q) ds
        (setAll (setAll σ kv) (sl x)) h' L') : J C (.loop c) Q ds ρ h L := by
  have := J.loop (C := C) (Q := Q) (ds := ds) (ρ := ρ) (c := c) I (kv.map (·.1)) sl μ x0 h0 hs
  rw [keep_of hk] at this
  exact this round
theorem J.cutK {α : Type} {x y : Code} (I : α → Heap → Own → Prop) (kv : List (Nat × Value)) (hk : Has ρ kv) (sl : α → List (Nat × Value))
    (hx : J C x (thenQ (fun ds' ρ' h' L' => ∃ z, ds' = ds ∧ Has ρ' kv ∧ Has ρ' (sl z) ∧ I z h' L' ∧ Ext h h') Q) ds ρ h L)
    (hy : ∀ z σ h' L', Step h h' → I z h' L' → J C y Q ds (setAll (setAll σ kv) (sl z)) h' L') : J C (.seq x y) Q ds ρ h L := by
  have := J.cutS (C := C) (Q := Q) (ds := ds) (ρ := ρ) (x := x) (y := y) (h := h) (L := L) I (kv.map (·.1)) sl
  rw [keep_of hk] at this
  exact this hx hy
end Go.Z
end
