/- The calculus beneath the proofs: a region whose order is drawn. An operation that only reckons or reads may be taken first; the others are walked in every order that may come up. No program is named here. -/
import Derived.Test.YtjdfhlkpfjhjoaaB7
set_option linter.unusedSimpArgs false
set_option linter.unusedVariables false
namespace Go.Z
open Go Go.RowKit

section low
variable {r : Option Nat} {P : Program} {ops : Array Oper} {Q : Exit → Act → World → Prop}

/-- Whatever order is picked from here on; S holds behind every operation that is carried out, till one of M is. -/
def wpAnyS (r : Option Nat) (P : Program) (ops : Array Oper) (Q : Exit → Act → World → Prop) : Nat → (World → Prop) → List Nat → Array Bool → Act → World → Prop
  | 0, _, _, listed, a, w => Region.ready .any ops listed = [] ∧ Q .normal a w
  | fuel + 1, S, M, listed, a, w => (Region.ready .any ops listed = [] → Q .normal a w) ∧
    ∀ i ∈ Region.ready .any ops listed, wpOpIn (fen r) 0 P ops Q i (fun a' w' =>
      (i ∈ M → wpAnyS r P ops Q fuel (fun _ => True) [] (listed.setIfInBounds i true) a' w') ∧
      (i ∉ M → S w' ∧ wpAnyS r P ops Q fuel S M (listed.setIfInBounds i true) a' w')) a w

theorem wpAny_of_S : ∀ (fuel : Nat) {S : World → Prop} {M : List Nat} {listed : Array Bool} {a : Act} {w : World}, wpAnyS r P ops Q fuel S M listed a w → wpAnyIn (fen r) 0 P .any ops Q fuel listed a w
  | 0, _, _, _, _, _, h => h
  | fuel + 1, S, M, listed, a, w, h => ⟨h.1, fun i hi => wpOpIn_mono (fun a' w' hk => by
      by_cases hm : i ∈ M
      · exact wpAny_of_S fuel (hk.1 hm)
      · exact wpAny_of_S fuel (hk.2 hm).2) (h.2 i hi)⟩
theorem wpAnyS.mono : ∀ (fuel : Nat) {S S' : World → Prop} {M : List Nat} {listed : Array Bool} {a : Act} {w : World}, (∀ w, S w → S' w) → wpAnyS r P ops Q fuel S M listed a w → wpAnyS r P ops Q fuel S' M listed a w
  | 0, _, _, _, _, _, _, _, h => h
  | fuel + 1, S, S', M, listed, a, w, hS, h => ⟨h.1, fun i hi => wpOpIn_mono (fun a' w' hk => ⟨hk.1, fun hm => ⟨hS _ (hk.2 hm).1, wpAnyS.mono fuel hS (hk.2 hm).2⟩⟩) (h.2 i hi)⟩

/-- What operation o yields in every world that meets S. -/
def YS (P : Program) (ops : Array Oper) (S : World → Prop) (o : Oper) (v : Value) (a : Act) : Prop :=
  (Region.wanted o (yielded ops a.tmps) = true ∧ ∀ w, S w → (execOp a.eval o).run P w = .ok (.value v) w) ∨
  (Region.wanted o (yielded ops a.tmps) = false ∧ v = undef)
theorem YS.wpOp {S : World → Prop} {i : Nat} {o : Oper} {v : Value} {a : Act} (hi : ops[i]? = some o) (hc : calm o.op = true) (hy : YS P ops S o v a) {K : Act → World → Prop} {w : World} (hS : S w)
    (h : K (a.put o.dst v) w) : wpOpIn (fen r) 0 P ops Q i K a w := by
  unfold wpOpIn
  simp only [hi]
  rcases hy with ⟨hw, hv⟩ | ⟨hw, rfl⟩
  · simp only [hw, if_true, Oper.wpIn, semAt_calm hc, hv w hS, Oper.uponIn]; exact ⟨fun _ _ => trivial, h⟩
  · simp only [hw, Bool.false_eq_true, if_false]; exact ⟨fun _ _ => trivial, h⟩
theorem YS.of_same {S : World → Prop} {o : Oper} {v : Value} {a a' : Act} (hy : YS P ops S o v a) (he : execOp a'.eval o = execOp a.eval o)
    (hw : Region.wanted o (yielded ops a'.tmps) = Region.wanted o (yielded ops a.tmps)) : YS P ops S o v a' := by
  unfold YS at *
  rw [he, hw]
  exact hy
theorem wpOp_putS {S : World → Prop} {j : Nat} {oi oj : Oper} {v : Value} (hj : ops[j]? = some oj) (hap : oi.apart ops oj = true) (hci : calm oi.op = true) (hcj : calm oj.op = true)
    (hsi : ∀ cs b, oi.op ≠ .select cs b) (hsj : ∀ cs b, oj.op ≠ .select cs b)
    (hQ : ∀ c a w, Q (.panic c) a w → False) (hO : ∀ a w, Q .outgrown a w → False) {K : Act → World → Prop} {a : Act} {w : World}
    (hy : YS P ops S oi v a) (h : wpOpIn (fen r) 0 P ops Q j K (a.put oi.dst v) w) :
    wpOpIn (fen r) 0 P ops Q j (fun a' w' => YS P ops S oi v a' ∧ K (a'.put oi.dst v) w') a w := by
  obtain ⟨h1, h2, h3⟩ := Oper.apart_spec hap
  have keep : ∀ (a : Act), YS P ops S oi v a → ∀ u, YS P ops S oi v (a.put oj.dst u) := fun a hy u =>
    hy.of_same (execOp_put oi hsi a oj.dst u h3) (wanted_put oi a oj.dst u h3)
  have keepD : ∀ d, YS P ops S oi v { a with defers := d :: a.defers } := fun d => hy.of_same rfl rfl
  unfold wpOpIn at *
  simp only [hj] at *
  rw [wanted_put oj a oi.dst v h1] at h
  split
  · rename_i hw
    simp only [hw, if_true] at h
    unfold Oper.wpIn at *
    refine ⟨fun _ _ => trivial, ?_⟩
    have h := h.2
    rw [semAt_calm hcj, execOp_put oj hsj a oi.dst v h1] at h
    rw [semAt_calm hcj]
    generalize (execOp a.eval oj).run P w = r at *
    cases r with
    | ok x w' =>
      cases x <;> simp only [Oper.uponIn] at h ⊢
      case value u => exact ⟨keep a hy u, by rw [← Act.put_comm a v u h2]; exact h⟩
      case skip => exact ⟨keep a hy _, by rw [← Act.put_comm a v undef h2]; exact h⟩
      case defer d =>
        refine ⟨keep _ (keepD d) _, ?_⟩
        rw [← Act.put_comm _ v undef h2, ← Act.put_defers]
        exact h
      case enter f args =>
        refine ⟨h.1, CallsIn.mono h.2 fun e w'' he => ?_⟩
        cases e with
        | returned u => exact ⟨keep a hy u, by rw [← Act.put_comm a v u h2]; exact he⟩
        | panicked c => exact (hQ _ _ _ he).elim
        | outgrown => exact he
      case row row args => exact ⟨h.1, RowsIn.mono h.2 fun u w'' he => ⟨keep a hy u, by rw [← Act.put_comm a v u h2]; exact he⟩⟩
      case round l f tmps assign body =>
        refine ⟨h.1, RoundIn.mono h.2 fun e w'' he => ?_⟩
        cases e with
        | returned u => exact ⟨keep a hy u, by rw [← Act.put_comm a v u h2]; exact he⟩
        | panicked c => exact (hQ _ _ _ he).elim
        | outgrown => exact he
    | halt x w' =>
      cases x <;> simp only [Oper.uponIn] at h ⊢
      case panic u => exact (hQ _ _ _ h).elim
  · rename_i hw
    simp only [hw] at h
    exact ⟨fun _ _ => trivial, keep a hy _, by rw [← Act.put_comm a v undef h2]; exact h.2⟩

/-- The closed conditions under which operation i may be taken first: it may come up; whoever else has not come up waits for it or is apart from it; no select, no defer in the region; whoever is in M waits for it. -/
def takeOk (ops : Array Oper) (listed : Array Bool) (M : List Nat) (i : Nat) : Bool :=
  Region.noSelect ops && ops.all (fun o => calm o.op) && Region.free .any ops listed i && (Region.ready .any ops listed).contains i &&
  M.all fun m => match ops[m]? with
    | some o => o.after.any fun e => Region.binds .any e && e.on == i
    | none => true

theorem wpAnyS_take {i : Nat} {oi : Oper} {v : Value} (hi : ops[i]? = some oi) (hsel : Region.noSelect ops = true) (hcalm : ∀ (j : Nat) (o : Oper), ops[j]? = some o → calm o.op = true)
    (hQ : ∀ c a w, Q (.panic c) a w → False) (hO : ∀ a w, Q .outgrown a w → False) {S : World → Prop} {M : List Nat} (hM : ∀ m ∈ M, ∀ o, ops[m]? = some o → ∃ e ∈ o.after, Region.binds .any e = true ∧ e.on = i) :
    ∀ (fuel : Nat) (listed : Array Bool) (a : Act) (w : World),
      (∀ j oj, ops[j]? = some oj → j ≠ i → listed.getD j true = false → (∀ e ∈ oj.after, Region.binds .any e = true → e.on ≠ i) → oi.apart ops oj = true) →
      i ∈ Region.ready .any ops listed → i ∉ M → YS P ops S oi v a → S w →
      wpAnyS r P ops Q fuel S M (listed.setIfInBounds i true) (a.put oi.dst v) w → wpAnyS r P ops Q (fuel + 1) S M listed a w := by
  have hs := Region.noSelect_spec hsel
  intro fuel
  induction fuel with
  | zero =>
    intro listed a w _ hr hiM hy hS H
    refine ⟨fun h => (by rw [h] at hr; cases hr), fun j hj => ?_⟩
    by_cases hji : j = i
    · subst hji; exact hy.wpOp hi (hcalm _ _ hi) hS ⟨fun h => absurd h hiM, fun _ => ⟨hS, H⟩⟩
    · have := ready_mono hj hji
      rw [H.1] at this
      cases this
  | succ fuel ih =>
    intro listed a w hfree hr hiM hy hS H
    refine ⟨fun h => (by rw [h] at hr; cases hr), fun j hj => ?_⟩
    by_cases hji : j = i
    · subst hji; exact hy.wpOp hi (hcalm _ _ hi) hS ⟨fun h => absurd h hiM, fun _ => ⟨hS, H⟩⟩
    · have h1 := H.2 j (ready_mono hj hji)
      obtain ⟨hjun, oj, hoj, hall⟩ := mem_ready.1 hj
      have hnot : ∀ e ∈ oj.after, Region.binds .any e = true → e.on ≠ i := fun e he hb heq => by
        have h1 := hall e he hb
        have h0 := (mem_ready.1 hr).1
        rw [heq] at h1
        rcases Nat.lt_or_ge i listed.size with h' | h'
        · simp [h'] at h0 h1; rw [h0] at h1; cases h1
        · simp [Array.getElem?_eq_none h'] at h1
      have hjM : j ∉ M := fun hm => by
        obtain ⟨e, he, hb, hon⟩ := hM j hm oj hoj
        exact hnot e he hb hon
      have h2 := wpOp_putS (P := P) hoj (hfree j oj hoj hji hjun hnot) (hcalm _ _ hi) (hcalm _ _ hoj) (fun cs b => hs i oi cs b hi) (fun cs b => hs j oj cs b hoj) hQ hO hy h1
      have hfree' : ∀ k ok, ops[k]? = some ok → k ≠ i → (listed.setIfInBounds j true).getD k true = false →
          (∀ e ∈ ok.after, Region.binds .any e = true → e.on ≠ i) → oi.apart ops ok = true := fun k ok hk hki hun hno => by
        refine hfree k ok hk hki ?_ hno
        by_cases hjk : j = k
        · subst hjk; exact hjun
        · rw [getD_set_ne true hjk] at hun; exact hun
      refine wpOpIn_mono (fun a' w' h3 => ⟨fun h => absurd h hjM, fun _ => ⟨(h3.2.2 hjM).1, ih (listed.setIfInBounds j true) a' w' hfree' (ready_mono hr (Ne.symm hji)) hiM h3.1 (h3.2.2 hjM).1 ?_⟩⟩) h2
      rw [Array.setIfInBounds_comm _ _ hji]
      exact (h3.2.2 hjM).2

/-- An operation that yields in whatever world. -/
theorem wpAnyS_pure {i : Nat} {oi : Oper} {v : Value} (hi : ops[i]? = some oi) (hsel : Region.noSelect ops = true) (hcalm : ∀ (j : Nat) (o : Oper), ops[j]? = some o → calm o.op = true)
    (hQ : ∀ c a w, Q (.panic c) a w → False) (hO : ∀ a w, Q .outgrown a w → False) :
    ∀ (fuel : Nat) (S : World → Prop) (M : List Nat) (listed : Array Bool) (a : Act) (w : World),
      (∀ j oj, ops[j]? = some oj → j ≠ i → listed.getD j true = false → (∀ e ∈ oj.after, Region.binds .any e = true → e.on ≠ i) → oi.apart ops oj = true) →
      i ∈ Region.ready .any ops listed → i ∉ M → YS P ops (fun _ => True) oi v a → S w →
      wpAnyS r P ops Q fuel S M (listed.setIfInBounds i true) (a.put oi.dst v) w → wpAnyS r P ops Q (fuel + 1) S M listed a w := by
  have hs := Region.noSelect_spec hsel
  intro fuel
  induction fuel with
  | zero =>
    intro S M listed a w _ hr hiM hy hS H
    refine ⟨fun h => (by rw [h] at hr; cases hr), fun j hj => ?_⟩
    by_cases hji : j = i
    · subst hji; exact hy.wpOp hi (hcalm _ _ hi) trivial ⟨fun h => absurd h hiM, fun _ => ⟨hS, H⟩⟩
    · have := ready_mono hj hji
      rw [H.1] at this
      cases this
  | succ fuel ih =>
    intro S M listed a w hfree hr hiM hy hS H
    refine ⟨fun h => (by rw [h] at hr; cases hr), fun j hj => ?_⟩
    by_cases hji : j = i
    · subst hji; exact hy.wpOp hi (hcalm _ _ hi) trivial ⟨fun h => absurd h hiM, fun _ => ⟨hS, H⟩⟩
    · have h1 := H.2 j (ready_mono hj hji)
      obtain ⟨hjun, oj, hoj, hall⟩ := mem_ready.1 hj
      have hnot : ∀ e ∈ oj.after, Region.binds .any e = true → e.on ≠ i := fun e he hb heq => by
        have h1 := hall e he hb
        have h0 := (mem_ready.1 hr).1
        rw [heq] at h1
        rcases Nat.lt_or_ge i listed.size with h' | h'
        · simp [h'] at h0 h1; rw [h0] at h1; cases h1
        · simp [Array.getElem?_eq_none h'] at h1
      have h2 := wpOp_putS (P := P) hoj (hfree j oj hoj hji hjun hnot) (hcalm _ _ hi) (hcalm _ _ hoj) (fun cs b => hs i oi cs b hi) (fun cs b => hs j oj cs b hoj) hQ hO hy h1
      have hfree' : ∀ k ok, ops[k]? = some ok → k ≠ i → (listed.setIfInBounds j true).getD k true = false →
          (∀ e ∈ ok.after, Region.binds .any e = true → e.on ≠ i) → oi.apart ops ok = true := fun k ok hk hki hun hno => by
        refine hfree k ok hk hki ?_ hno
        by_cases hjk : j = k
        · subst hjk; exact hjun
        · rw [getD_set_ne true hjk] at hun; exact hun
      refine wpOpIn_mono (fun a' w' h3 => ⟨fun hm => ?_, fun hm => ⟨(h3.2.2 hm).1, ih S M (listed.setIfInBounds j true) a' w' hfree' (ready_mono hr (Ne.symm hji)) hiM h3.1 (h3.2.2 hm).1 ?_⟩⟩) h2
      · refine ih (fun _ => True) [] (listed.setIfInBounds j true) a' w' hfree' (ready_mono hr (Ne.symm hji)) (by simp) h3.1 trivial ?_
        rw [Array.setIfInBounds_comm _ _ hji]
        exact h3.2.1 hm
      · rw [Array.setIfInBounds_comm _ _ hji]
        exact (h3.2.2 hm).2
end low
end Go.Z
