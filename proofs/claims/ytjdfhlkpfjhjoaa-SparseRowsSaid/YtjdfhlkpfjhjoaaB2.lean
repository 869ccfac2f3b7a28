/- The calculus beneath the proofs: lists of operations, guards, and one rule for each kind of operation that makes no block. No program is named here. -/
import Derived.Test.YtjdfhlkpfjhjoaaB1
namespace Go.Z
open Go Go.RowKit

def wpL (r : Option Nat) (P : Program) (ops : Array Oper) (Q : Exit → Act → World → Prop) : List Oper → Act → World → Prop
  | [], a, w => Q .normal a w
  | o :: rest, a, w => if Region.wanted o (yielded ops a.tmps) then o.wpIn (fen r) 0 P a w (wpL r P ops Q rest) Q else wpL r P ops Q rest (a.put o.dst undef) w

theorem wpOpsIn_eq {r : Option Nat} {P : Program} {ops : Array Oper} {Q : Exit → Act → World → Prop} (l : List Oper) : ∀ k, (∀ j, l[j]? = ops[k + j]?) → ∀ a w, wpL r P ops Q l a w → wpOpsIn (fen r) 0 P ops Q (List.range' k l.length) a w := by
  induction l with
  | nil => intro k _ a w h; simpa [wpOpsIn, wpL] using h
  | cons o l ih =>
    intro k h a w hw
    have h0 : ops[k]? = some o := by simpa using (h 0).symm
    have ih' := ih (k + 1) (fun j => by have := h (j + 1); simpa [Nat.add_assoc, Nat.add_comm 1 j] using this)
    simp only [List.length_cons, List.range'_succ, wpOpsIn, h0]
    simp only [wpL] at hw
    split
    · rename_i hx; rw [if_pos hx] at hw
      refine ⟨hw.1, ?_⟩
      have := hw.2
      generalize (o.semAt (fen r).round a.eval).run P w = res at this ⊢
      cases res with
      | ok nx w' =>
        cases nx <;> simp only [Oper.uponIn] at this ⊢ <;>
          first
            | exact ih' _ _ this
            | exact ⟨this.1, CallsIn.mono this.2 (fun e w'' he => by cases e <;> first | exact ih' _ _ he | exact he)⟩
            | exact ⟨this.1, RowsIn.mono this.2 (fun _ _ he => ih' _ _ he)⟩
            | exact ⟨this.1, RoundIn.mono this.2 (fun e w'' he => by cases e <;> first | exact ih' _ _ he | exact he)⟩
      | halt x w' => cases x <;> simp only [Oper.uponIn] at this ⊢ <;> exact this
    · rename_i hx; rw [if_neg hx] at hw
      exact ⟨fun _ _ => trivial, ih' _ _ hw⟩

def JL (C : Cfg) (ops : Array Oper) (Q : Post) (rest : List Oper) (ds : List Deferred) (ρ : Env) (h : Heap) (L : Own) : Prop :=
  ∀ a w, Ag C.n ds a ρ → St C.w0 C.h0 h L w → wpL C.r C.P ops (lift C Q) rest a w

variable {C : Cfg} {Q Q' : Post} {ds : List Deferred} {ρ : Env} {h : Heap} {L : Own} {ops : Array Oper} {rest : List Oper}

theorem J.region {id : Nat} {l : List Oper} (hj : JL C l.toArray Q l ds ρ h L) : J C (.region id l.toArray false) Q ds ρ h L := fun a w ha hs => by
  refine wpIn_region ?_
  have := wpOpsIn_eq l 0 (fun j => by simp) a w (hj a w ha hs)
  simpa [List.range_eq_range'] using this

theorem JL.nil (hq : Q .normal ds ρ h L) : JL C ops Q [] ds ρ h L := fun _ _ ha hs => ⟨_, _, _, _, ha, hs, hq⟩

/-- A deferring statement is none of these. -/
def calm : Op → Bool
  | .defer _ => false
  | _ => true
theorem semAt_calm {r : Option Nat} {ρ : Operand → Value} {o : Oper} (hc : calm o.op = true) : o.semAt r ρ = execOp ρ o :=
  Oper.semAt_eq _ _ _ fun c e => by rw [e] at hc; cases hc

theorem JL.step {o : Oper} (hg : o.guard = none) (hc : calm o.op = true)
    (run : ∀ a w, Ag C.n ds a ρ → St C.w0 C.h0 h L w → o.uponIn (fen C.r) 0 C.P a (wpL C.r C.P ops (lift C Q) rest) (lift C Q) ((execOp ρ.ev o).run C.P w)) :
    JL C ops Q (o :: rest) ds ρ h L := fun a w ha hs => by
  simp only [wpL, Region.wanted, hg, if_true]
  exact ⟨fun _ _ => trivial, by rw [semAt_calm hc, ha.eval]; exact run a w ha hs⟩

/-- An operation that gives a value. -/
theorem JL.val {o : Oper} {d : Nat} (hg : o.guard = none) (hc : calm o.op = true) (hd : o.dst = some d) (hn : Nat.blt d C.n = true)
    (run : ∀ w, St C.w0 C.h0 h L w → ∃ v h' L' w', (execOp ρ.ev o).run C.P w = .ok (.value v) w' ∧ St C.w0 C.h0 h' L' w' ∧ JL C ops Q rest ds (ρ.set d v) h' L') :
    JL C ops Q (o :: rest) ds ρ h L := JL.step hg hc fun a w ha hs => by
  obtain ⟨v, h', L', w', hr, hs', hk⟩ := run w hs
  rw [hr, Oper.uponIn_value, hd]
  exact hk _ _ (ha.put hn v) hs'

/-- One that gives a value and leaves the memory as it is. -/
theorem JL.pure {o : Oper} {d : Nat} {v : Value} (hg : o.guard = none) (hc : calm o.op = true) (hd : o.dst = some d) (hn : Nat.blt d C.n = true)
    (run : ∀ w, St C.w0 C.h0 h L w → (execOp ρ.ev o).run C.P w = .ok (.value v) w) (k : JL C ops Q rest ds (ρ.set d v) h L) :
    JL C ops Q (o :: rest) ds ρ h L := JL.val hg hc hd hn fun w hs => ⟨v, h, L, w, run w hs, hs, k⟩

/-- One that gives none. -/
theorem JL.unit {o : Oper} (hg : o.guard = none) (hc : calm o.op = true) (hd : o.dst = none)
    (run : ∀ w, St C.w0 C.h0 h L w → ∃ h' L' w', (execOp ρ.ev o).run C.P w = .ok .skip w' ∧ St C.w0 C.h0 h' L' w' ∧ JL C ops Q rest ds ρ h' L') :
    JL C ops Q (o :: rest) ds ρ h L := JL.step hg hc fun a w ha hs => by
  obtain ⟨h', L', w', hr, hs', hk⟩ := run w hs
  rw [hr, Oper.uponIn_skip, hd]
  exact hk _ _ (ha.putNone undef) hs'

theorem yielded_eq {n : Nat} {a : Act} (ha : Ag n ds a ρ) {j t : Nat} {b : Bool} (hj : (ops[j]?).bind (·.dst) = some t) (hb : ρ t = .bool b) : yielded ops a.tmps j = some b := by
  have hg := ha.get t
  rw [hb] at hg
  have hlt : t < a.tmps.size := by
    rcases Nat.lt_or_ge t a.tmps.size with h | h
    · exact h
    · simp [Array.getElem?_eq_none h, undef] at hg
  simp only [yielded, hj, Option.bind_some]
  simp [hlt] at hg
  simp [hlt, hg]

section guards
variable {dst : Option Tmp} {op : Op} {ty : TypeId} {pos : String} {after : Array Edge}
theorem JL.guardT {j t : Nat} {b want : Bool} (hj : (ops[j]?).bind (·.dst) = some t) (hb : ρ t = .bool b) (hw : b = want)
    (k : JL C ops Q (⟨dst, op, ty, pos, after, none⟩ :: rest) ds ρ h L) : JL C ops Q (⟨dst, op, ty, pos, after, some (j, want)⟩ :: rest) ds ρ h L := fun a w ha hs => by
  have := k a w ha hs
  have hw1 : Region.wanted ⟨dst, op, ty, pos, after, some (j, want)⟩ (yielded ops a.tmps) = true := by
    simp only [Region.wanted]; rw [yielded_eq ha hj hb, hw]; simp
  have hw0 : Region.wanted ⟨dst, op, ty, pos, after, none⟩ (yielded ops a.tmps) = true := rfl
  simp only [wpL] at this ⊢
  rw [if_pos hw1]
  rw [if_pos hw0] at this
  exact this
theorem JL.guardF {j t d : Nat} {b want : Bool} (hj : (ops[j]?).bind (·.dst) = some t) (hb : ρ t = .bool b) (hw : b = !want) (hn : Nat.blt d C.n = true)
    (k : JL C ops Q rest ds (ρ.set d undef) h L) : JL C ops Q (⟨some d, op, ty, pos, after, some (j, want)⟩ :: rest) ds ρ h L := fun a w ha hs => by
  have hw1 : ¬ Region.wanted ⟨some d, op, ty, pos, after, some (j, want)⟩ (yielded ops a.tmps) = true := by
    simp only [Region.wanted]; rw [yielded_eq ha hj hb, hw]; cases want <;> simp
  simp only [wpL]
  rw [if_neg hw1]
  exact k _ _ (ha.put hn undef) hs
end guards

/-- The worlds in which h is frozen and L owned, and perhaps more. -/
def SS (C : Cfg) (h : Heap) (L : Own) : World → Prop := fun w => ∃ h' L', Ext h h' ∧ L.Sublist L' ∧ St C.w0 C.h0 h' L' w
/-- The operation yields v in every world that meets S, and leaves it as it is. -/
def Qr (C : Cfg) (ρ : Env) (S : World → Prop) (op : Op) (ty : TypeId) (v : Value) : Prop :=
  calm op = true ∧ ∀ w, S w → (execOp ρ.ev ⟨none, op, ty, "", #[], none⟩).run C.P w = .ok (.value v) w

section ops
variable {d : Nat} {ty : TypeId} {pos : String} {after : Array Edge} {op : Op} {S : World → Prop}
theorem Qr.exec {v : Value} (q : Qr C ρ S op ty v) {dst : Option Tmp} {g : Option (Nat × Bool)} {w : World} (hw : S w) : (execOp ρ.ev ⟨dst, op, ty, pos, after, g⟩).run C.P w = .ok (.value v) w := q.2 w hw
theorem o_q {v : Value} (q : Qr C ρ (SS C h L) op ty v) (k : JL C ops Q rest ds (ρ.set d v) h L) (hn : Nat.blt d C.n = true := by rfl) : JL C ops Q (⟨some d, op, ty, pos, after, none⟩ :: rest) ds ρ h L :=
  JL.pure rfl q.1 rfl hn (fun w hs => q.exec ⟨h, L, Ext.refl h, List.Sublist.refl L, hs⟩) k
theorem q_mv {x : Operand} : Qr C ρ S (.move x) ty (ρ.ev x) := ⟨rfl, fun _ _ => rfl⟩
theorem q_as {x : Operand} : Qr C ρ S (.assign x) ty (ρ.ev x) := ⟨rfl, fun _ _ => rfl⟩
end ops
end Go.Z
