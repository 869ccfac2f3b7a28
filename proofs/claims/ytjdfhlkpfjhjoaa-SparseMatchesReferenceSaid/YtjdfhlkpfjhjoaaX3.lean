/- Texts of ours, joined: B8, B9, B10, Limbs, Limbs2, R1, B11, R2, R3, B12, R4, B13, G1. -/
import Derived.Test.YtjdfhlkpfjhjoaaX2
import Derived.RangeFuncRecord
import Derived.RangeFuncLeaves
import Derived.Test.YtjdfhlkpfjhjoaaX1
section
set_option linter.unusedSimpArgs false
set_option linter.unusedVariables false
/- The calculus beneath the proofs: a region whose order is drawn. An operation that only reckons or reads may be taken first; the others are walked in every order that may come up. No program is named here. -/
set_option linter.unusedSimpArgs false
set_option linter.unusedVariables false
namespace Go.Z
open Go Go.RowKit

section low
variable {r : Option Nat} {P : Program} {ops : Array Oper} {Q : Exit → Act → World → Prop}

/-- Whatever order is picked from here on; S holds behind every operation that is carried out, till one of M is. -/
def wpAnyS (r : Option Nat) (P : Program) (ops : Array Oper) (Q : Exit → Act → World → Prop) : Nat → (World → Prop) → List Nat → Array Bool → Act → World → Prop
  | 0, _, _, listed, a, w => Region.ready .any ops listed = [] ∧ Q .normal a w
  | fuel + 1, S, M, listed, a, w => (Region.ready .any ops listed = [] → Q .normal a w) ∧
    ∀ i ∈ Region.ready .any ops listed, wpOpIn (fen r) 0 P ops Q i (fun a' w' =>
      (i ∈ M → wpAnyS r P ops Q fuel (fun _ => True) [] (listed.setIfInBounds i true) a' w') ∧
      (i ∉ M → S w' ∧ wpAnyS r P ops Q fuel S M (listed.setIfInBounds i true) a' w')) a w

theorem wpAny_of_S : ∀ (fuel : Nat) {S : World → Prop} {M : List Nat} {listed : Array Bool} {a : Act} {w : World}, wpAnyS r P ops Q fuel S M listed a w → wpAnyIn (fen r) 0 P .any ops Q fuel listed a w
  | 0, _, _, _, _, _, h => h
  | fuel + 1, S, M, listed, a, w, h => ⟨h.1, fun i hi => wpOpIn_mono (fun a' w' hk => by
      by_cases hm : i ∈ M
      · exact wpAny_of_S fuel (hk.1 hm)
      · exact wpAny_of_S fuel (hk.2 hm).2) (h.2 i hi)⟩
theorem wpAnyS.mono : ∀ (fuel : Nat) {S S' : World → Prop} {M : List Nat} {listed : Array Bool} {a : Act} {w : World}, (∀ w, S w → S' w) → wpAnyS r P ops Q fuel S M listed a w → wpAnyS r P ops Q fuel S' M listed a w
  | 0, _, _, _, _, _, _, _, h => h
  | fuel + 1, S, S', M, listed, a, w, hS, h => ⟨h.1, fun i hi => wpOpIn_mono (fun a' w' hk => ⟨hk.1, fun hm => ⟨hS _ (hk.2 hm).1, wpAnyS.mono fuel hS (hk.2 hm).2⟩⟩) (h.2 i hi)⟩

/-- What operation o yields in every world that meets S. -/
def YS (P : Program) (ops : Array Oper) (S : World → Prop) (o : Oper) (v : Value) (a : Act) : Prop :=
  (Region.wanted o (yielded ops a.tmps) = true ∧ ∀ w, S w → (execOp a.eval o).run P w = .ok (.value v) w) ∨
  (Region.wanted o (yielded ops a.tmps) = false ∧ v = undef)
theorem YS.wpOp {S : World → Prop} {i : Nat} {o : Oper} {v : Value} {a : Act} (hi : ops[i]? = some o) (hc : calm o.op = true) (hy : YS P ops S o v a) {K : Act → World → Prop} {w : World} (hS : S w)
    (h : K (a.put o.dst v) w) : wpOpIn (fen r) 0 P ops Q i K a w := by
  unfold wpOpIn
  simp only [hi]
  rcases hy with ⟨hw, hv⟩ | ⟨hw, rfl⟩
  · simp only [hw, if_true, Oper.wpIn, semAt_calm hc, hv w hS, Oper.uponIn]; exact ⟨fun _ _ => trivial, h⟩
  · simp only [hw, Bool.false_eq_true, if_false]; exact ⟨fun _ _ => trivial, h⟩
theorem YS.of_same {S : World → Prop} {o : Oper} {v : Value} {a a' : Act} (hy : YS P ops S o v a) (he : execOp a'.eval o = execOp a.eval o)
    (hw : Region.wanted o (yielded ops a'.tmps) = Region.wanted o (yielded ops a.tmps)) : YS P ops S o v a' := by
  unfold YS at *
  rw [he, hw]
  exact hy
theorem wpOp_putS {S : World → Prop} {j : Nat} {oi oj : Oper} {v : Value} (hj : ops[j]? = some oj) (hap : oi.apart ops oj = true) (hci : calm oi.op = true) (hcj : calm oj.op = true)
    (hsi : ∀ cs b, oi.op ≠ .select cs b) (hsj : ∀ cs b, oj.op ≠ .select cs b)
    (hQ : ∀ c a w, Q (.panic c) a w → False) (hO : ∀ a w, Q .outgrown a w → False) {K : Act → World → Prop} {a : Act} {w : World}
    (hy : YS P ops S oi v a) (h : wpOpIn (fen r) 0 P ops Q j K (a.put oi.dst v) w) :
    wpOpIn (fen r) 0 P ops Q j (fun a' w' => YS P ops S oi v a' ∧ K (a'.put oi.dst v) w') a w := by
  obtain ⟨h1, h2, h3⟩ := Oper.apart_spec hap
  have keep : ∀ (a : Act), YS P ops S oi v a → ∀ u, YS P ops S oi v (a.put oj.dst u) := fun a hy u =>
    hy.of_same (execOp_put oi hsi a oj.dst u h3) (wanted_put oi a oj.dst u h3)
  have keepD : ∀ d, YS P ops S oi v { a with defers := d :: a.defers } := fun d => hy.of_same rfl rfl
  unfold wpOpIn at *
  simp only [hj] at *
  rw [wanted_put oj a oi.dst v h1] at h
  split
  · rename_i hw
    simp only [hw, if_true] at h
    unfold Oper.wpIn at *
    refine ⟨fun _ _ => trivial, ?_⟩
    have h := h.2
    rw [semAt_calm hcj, execOp_put oj hsj a oi.dst v h1] at h
    rw [semAt_calm hcj]
    generalize (execOp a.eval oj).run P w = r at *
    cases r with
    | ok x w' =>
      cases x <;> simp only [Oper.uponIn] at h ⊢
      case value u => exact ⟨keep a hy u, by rw [← Act.put_comm a v u h2]; exact h⟩
      case skip => exact ⟨keep a hy _, by rw [← Act.put_comm a v undef h2]; exact h⟩
      case defer d =>
        refine ⟨keep _ (keepD d) _, ?_⟩
        rw [← Act.put_comm _ v undef h2, ← Act.put_defers]
        exact h
      case enter f args =>
        refine ⟨h.1, CallsIn.mono h.2 fun e w'' he => ?_⟩
        cases e with
        | returned u => exact ⟨keep a hy u, by rw [← Act.put_comm a v u h2]; exact he⟩
        | panicked c => exact (hQ _ _ _ he).elim
        | outgrown => exact he
      case row row args => exact ⟨h.1, RowsIn.mono h.2 fun u w'' he => ⟨keep a hy u, by rw [← Act.put_comm a v u h2]; exact he⟩⟩
      case round l f tmps assign body =>
        refine ⟨h.1, RoundIn.mono h.2 fun e w'' he => ?_⟩
        cases e with
        | returned u => exact ⟨keep a hy u, by rw [← Act.put_comm a v u h2]; exact he⟩
        | panicked c => exact (hQ _ _ _ he).elim
        | outgrown => exact he
    | halt x w' =>
      cases x <;> simp only [Oper.uponIn] at h ⊢
      case panic u => exact (hQ _ _ _ h).elim
  · rename_i hw
    simp only [hw] at h
    exact ⟨fun _ _ => trivial, keep a hy _, by rw [← Act.put_comm a v undef h2]; exact h.2⟩

/-- The closed conditions under which operation i may be taken first: it may come up; whoever else has not come up waits for it or is apart from it; no select, no defer in the region; whoever is in M waits for it. -/
def takeOk (ops : Array Oper) (listed : Array Bool) (M : List Nat) (i : Nat) : Bool :=
  Region.noSelect ops && ops.all (fun o => calm o.op) && Region.free .any ops listed i && (Region.ready .any ops listed).contains i &&
  M.all fun m => match ops[m]? with
    | some o => o.after.any fun e => Region.binds .any e && e.on == i
    | none => true

theorem wpAnyS_take {i : Nat} {oi : Oper} {v : Value} (hi : ops[i]? = some oi) (hsel : Region.noSelect ops = true) (hcalm : ∀ (j : Nat) (o : Oper), ops[j]? = some o → calm o.op = true)
    (hQ : ∀ c a w, Q (.panic c) a w → False) (hO : ∀ a w, Q .outgrown a w → False) {S : World → Prop} {M : List Nat} (hM : ∀ m ∈ M, ∀ o, ops[m]? = some o → ∃ e ∈ o.after, Region.binds .any e = true ∧ e.on = i) :
    ∀ (fuel : Nat) (listed : Array Bool) (a : Act) (w : World),
      (∀ j oj, ops[j]? = some oj → j ≠ i → listed.getD j true = false → (∀ e ∈ oj.after, Region.binds .any e = true → e.on ≠ i) → oi.apart ops oj = true) →
      i ∈ Region.ready .any ops listed → i ∉ M → YS P ops S oi v a → S w →
      wpAnyS r P ops Q fuel S M (listed.setIfInBounds i true) (a.put oi.dst v) w → wpAnyS r P ops Q (fuel + 1) S M listed a w := by
  have hs := Region.noSelect_spec hsel
  intro fuel
  induction fuel with
  | zero =>
    intro listed a w _ hr hiM hy hS H
    refine ⟨fun h => (by rw [h] at hr; cases hr), fun j hj => ?_⟩
    by_cases hji : j = i
    · subst hji; exact hy.wpOp hi (hcalm _ _ hi) hS ⟨fun h => absurd h hiM, fun _ => ⟨hS, H⟩⟩
    · have := ready_mono hj hji
      rw [H.1] at this
      cases this
  | succ fuel ih =>
    intro listed a w hfree hr hiM hy hS H
    refine ⟨fun h => (by rw [h] at hr; cases hr), fun j hj => ?_⟩
    by_cases hji : j = i
    · subst hji; exact hy.wpOp hi (hcalm _ _ hi) hS ⟨fun h => absurd h hiM, fun _ => ⟨hS, H⟩⟩
    · have h1 := H.2 j (ready_mono hj hji)
      obtain ⟨hjun, oj, hoj, hall⟩ := mem_ready.1 hj
      have hnot : ∀ e ∈ oj.after, Region.binds .any e = true → e.on ≠ i := fun e he hb heq => by
        have h1 := hall e he hb
        have h0 := (mem_ready.1 hr).1
        rw [heq] at h1
        rcases Nat.lt_or_ge i listed.size with h' | h'
        · simp [h'] at h0 h1; rw [h0] at h1; cases h1
        · simp [Array.getElem?_eq_none h'] at h1
      have hjM : j ∉ M := fun hm => by
        obtain ⟨e, he, hb, hon⟩ := hM j hm oj hoj
        exact hnot e he hb hon
      have h2 := wpOp_putS (P := P) hoj (hfree j oj hoj hji hjun hnot) (hcalm _ _ hi) (hcalm _ _ hoj) (fun cs b => hs i oi cs b hi) (fun cs b => hs j oj cs b hoj) hQ hO hy h1
      have hfree' : ∀ k ok, ops[k]? = some ok → k ≠ i → (listed.setIfInBounds j true).getD k true = false →
          (∀ e ∈ ok.after, Region.binds .any e = true → e.on ≠ i) → oi.apart ops ok = true := fun k ok hk hki hun hno => by
        refine hfree k ok hk hki ?_ hno
        by_cases hjk : j = k
        · subst hjk; exact hjun
        · rw [getD_set_ne true hjk] at hun; exact hun
      refine wpOpIn_mono (fun a' w' h3 => ⟨fun h => absurd h hjM, fun _ => ⟨(h3.2.2 hjM).1, ih (listed.setIfInBounds j true) a' w' hfree' (ready_mono hr (Ne.symm hji)) hiM h3.1 (h3.2.2 hjM).1 ?_⟩⟩) h2
      rw [Array.setIfInBounds_comm _ _ hji]
      exact (h3.2.2 hjM).2

/-- An operation that yields in whatever world. -/
theorem wpAnyS_pure {i : Nat} {oi : Oper} {v : Value} (hi : ops[i]? = some oi) (hsel : Region.noSelect ops = true) (hcalm : ∀ (j : Nat) (o : Oper), ops[j]? = some o → calm o.op = true)
    (hQ : ∀ c a w, Q (.panic c) a w → False) (hO : ∀ a w, Q .outgrown a w → False) :
    ∀ (fuel : Nat) (S : World → Prop) (M : List Nat) (listed : Array Bool) (a : Act) (w : World),
      (∀ j oj, ops[j]? = some oj → j ≠ i → listed.getD j true = false → (∀ e ∈ oj.after, Region.binds .any e = true → e.on ≠ i) → oi.apart ops oj = true) →
      i ∈ Region.ready .any ops listed → i ∉ M → YS P ops (fun _ => True) oi v a → S w →
      wpAnyS r P ops Q fuel S M (listed.setIfInBounds i true) (a.put oi.dst v) w → wpAnyS r P ops Q (fuel + 1) S M listed a w := by
  have hs := Region.noSelect_spec hsel
  intro fuel
  induction fuel with
  | zero =>
    intro S M listed a w _ hr hiM hy hS H
    refine ⟨fun h => (by rw [h] at hr; cases hr), fun j hj => ?_⟩
    by_cases hji : j = i
    · subst hji; exact hy.wpOp hi (hcalm _ _ hi) trivial ⟨fun h => absurd h hiM, fun _ => ⟨hS, H⟩⟩
    · have := ready_mono hj hji
      rw [H.1] at this
      cases this
  | succ fuel ih =>
    intro S M listed a w hfree hr hiM hy hS H
    refine ⟨fun h => (by rw [h] at hr; cases hr), fun j hj => ?_⟩
    by_cases hji : j = i
    · subst hji; exact hy.wpOp hi (hcalm _ _ hi) trivial ⟨fun h => absurd h hiM, fun _ => ⟨hS, H⟩⟩
    · have h1 := H.2 j (ready_mono hj hji)
      obtain ⟨hjun, oj, hoj, hall⟩ := mem_ready.1 hj
      have hnot : ∀ e ∈ oj.after, Region.binds .any e = true → e.on ≠ i := fun e he hb heq => by
        have h1 := hall e he hb
        have h0 := (mem_ready.1 hr).1
        rw [heq] at h1
        rcases Nat.lt_or_ge i listed.size with h' | h'
        · simp [h'] at h0 h1; rw [h0] at h1; cases h1
        · simp [Array.getElem?_eq_none h'] at h1
      have h2 := wpOp_putS (P := P) hoj (hfree j oj hoj hji hjun hnot) (hcalm _ _ hi) (hcalm _ _ hoj) (fun cs b => hs i oi cs b hi) (fun cs b => hs j oj cs b hoj) hQ hO hy h1
      have hfree' : ∀ k ok, ops[k]? = some ok → k ≠ i → (listed.setIfInBounds j true).getD k true = false →
          (∀ e ∈ ok.after, Region.binds .any e = true → e.on ≠ i) → oi.apart ops ok = true := fun k ok hk hki hun hno => by
        refine hfree k ok hk hki ?_ hno
        by_cases hjk : j = k
        · subst hjk; exact hjun
        · rw [getD_set_ne true hjk] at hun; exact hun
      refine wpOpIn_mono (fun a' w' h3 => ⟨fun hm => ?_, fun hm => ⟨(h3.2.2 hm).1, ih S M (listed.setIfInBounds j true) a' w' hfree' (ready_mono hr (Ne.symm hji)) hiM h3.1 (h3.2.2 hm).1 ?_⟩⟩) h2
      · refine ih (fun _ => True) [] (listed.setIfInBounds j true) a' w' hfree' (ready_mono hr (Ne.symm hji)) (by simp) h3.1 trivial ?_
        rw [Array.setIfInBounds_comm _ _ hji]
        exact h3.2.1 hm
      · rw [Array.setIfInBounds_comm _ _ hji]
        exact (h3.2.2 hm).2
end low
end Go.Z
end
section
set_option linter.unusedSimpArgs false
set_option linter.unusedVariables false
/- The calculus beneath the proofs: the rules for a region whose order is drawn. No program is named here. -/
set_option linter.unusedSimpArgs false
set_option linter.unusedVariables false
namespace Go.Z
open Go Go.RowKit

variable {C : Cfg} {Q Q' : Post} {ds : List Deferred} {ρ : Env} {h : Heap} {L Ls : Own} {ops : Array Oper} {rest : List Oper} {S : World → Prop} {M : List Nat} {listed : Array Bool} {fuel : Nat}

/-- One list of blocks within another. -/
class Sb (a b : Own) : Prop where s : a.Sublist b
instance (priority := 1200) Sb.refl (a : Own) : Sb a a := ⟨List.Sublist.refl a⟩
instance (priority := 1150) Sb.nil (b : Own) : Sb [] b := ⟨List.nil_sublist b⟩
instance (priority := 1100) Sb.both {a b : Own} {x : Nat × Obj} [h : Sb a b] : Sb (x :: a) (x :: b) := ⟨List.Sublist.cons_cons x h.s⟩
instance Sb.skip {a b : Own} {x : Nat × Obj} [h : Sb a b] : Sb a (x :: b) := ⟨List.Sublist.cons x h.s⟩
instance Sb.app {a b c : Own} [h : Sb a b] : Sb a (c ++ b) := ⟨h.s.trans (List.sublist_append_right _ _)⟩
instance Sb.bothA {a b c : Own} [h : Sb a b] : Sb (c ++ a) (c ++ b) := ⟨List.Sublist.append (List.Sublist.refl c) h.s⟩

/-- The model takes any order that the edges allow. -/
class Mix (P : Program) : Prop where m : P.follows .mixedOrders = true

@[reducible] def noP (Q : Post) : Post
  | .panic _, _, _, _, _ => False
  | .outgrown, _, _, _, _ => False
  | e, ds, ρ, h, L => Q e ds ρ h L
theorem noP_panic {c : List PanicEntry} {a : Act} {w : World} (h : lift C (noP Q) (.panic c) a w) : False := by
  obtain ⟨_, _, _, _, _, _, h⟩ := h; exact h
theorem noP_out {a : Act} {w : World} (h : lift C (noP Q) .outgrown a w) : False := by
  obtain ⟨_, _, _, _, _, _, h⟩ := h; exact h
theorem noP_lift {e : Exit} {a : Act} {w : World} (h : lift C (noP Q) e a w) : lift C Q e a w := by
  obtain ⟨ds, ρ, h', L', h1, h2, h3⟩ := h
  refine ⟨ds, ρ, h', L', h1, h2, ?_⟩
  cases e <;> first | exact h3 | exact h3.elim

def JD (C : Cfg) (ops : Array Oper) (Q : Post) (S : World → Prop) (M : List Nat) (fuel : Nat) (listed : Array Bool) (ds : List Deferred) (ρ : Env) (h : Heap) (L : Own) : Prop :=
  ∀ a w, Ag C.n ds a ρ → St C.w0 C.h0 h L w → wpAnyS C.r C.P ops (lift C (noP Q)) fuel S M listed a w

/-- The beginning: M: the operations that change what is read here; Ls: the owned blocks that are read. -/
theorem J.draw {id : Nat} {l : List Oper} (Ls : Own) (M : List Nat) [hm : Mix C.P] (k : JD C l.toArray Q (SS C h Ls) M l.length (Array.replicate l.length false) ds ρ h L) :
    J C (.region id l.toArray true) Q ds ρ h L := fun a w ha hs =>
  wpIn_mono (wpIn_region_any hm.m (wpAny_of_S _ (k a _ ⟨ha.size, ha.defers, ha.get⟩ hs.drew))) fun _ _ _ => noP_lift

theorem J.drawA {id : Nat} {l : List Oper} (M : List Nat) [hm : Mix C.P] (k : JD C l.toArray Q (SS C h L) M l.length (Array.replicate l.length false) ds ρ h L) :
    J C (.region id l.toArray true) Q ds ρ h L := J.draw L M k
/-- The guard holds. -/
def WantT (ops : Array Oper) (ρ : Env) : Option (Nat × Bool) → Prop
  | none => True
  | some (j, want) => ∃ t, (ops[j]?).bind (·.dst) = some t ∧ ρ t = .bool want
theorem WantT.wanted {n : Nat} {a : Act} {o : Oper} (ha : Ag n ds a ρ) (h : WantT ops ρ o.guard) : Region.wanted o (yielded ops a.tmps) = true := by
  unfold Region.wanted
  cases hg : o.guard with
  | none => rfl
  | some p =>
    obtain ⟨j, want⟩ := p
    rw [hg] at h
    obtain ⟨t, ht, hv⟩ := h
    simp [yielded_eq ha ht hv]

theorem Array.any_eq_true_iff_exists_mem' {α : Type} {p : α → Bool} {xs : Array α} : xs.any p = true ↔ ∃ x ∈ xs, p x = true := by
  rw [← Array.any_toList, List.any_eq_true]; simp
theorem all_calm (h : ops.all (fun o => calm o.op) = true) (j : Nat) (o : Oper) (hj : ops[j]? = some o) : calm o.op = true :=
  Array.all_eq_true_iff_forall_mem.1 h o (Array.mem_of_getElem? hj)

section takes
variable {i : Nat} {d : Nat} {op : Op} {ty : TypeId} {pos : String} {after : Array Edge} {g : Option (Nat × Bool)} {v : Value}
/-- An operation that reads is taken first. -/
theorem JD.load (i : Nat) (chk : (takeOk ops listed M i && !M.contains i) = true) (ho : ops[i]? = some ⟨some d, op, ty, pos, after, g⟩) (hg : WantT ops ρ g) [sub : Sb Ls L]
    (q : Qr C ρ (SS C h Ls) op ty v) (k : JD C ops Q (SS C h Ls) M fuel (listed.setIfInBounds i true) ds (ρ.set d v) h L) (hn : Nat.blt d C.n = true := by rfl) :
    JD C ops Q (SS C h Ls) M (fuel + 1) listed ds ρ h L := fun a w ha hs => by
  simp only [takeOk, Bool.and_eq_true, Bool.not_eq_true'] at chk
  obtain ⟨⟨⟨⟨⟨c1, c2⟩, c3⟩, c4⟩, c5⟩, c6⟩ := chk
  have hSS : SS C h Ls w := ⟨h, L, Ext.refl h, fun _ hp => sub.s.subset hp, hs⟩
  refine wpAnyS_take ho c1 (all_calm c2) (fun _ _ _ => noP_panic) (fun _ _ => noP_out) (fun m hm o hmo => ?_) fuel listed a w (Region.free_spec ho c3) (by simpa using c4) (by simpa using c6) (.inl ⟨WantT.wanted ha hg, fun w' hw' => ?_⟩) hSS (k _ _ (ha.put hn v) hs)
  · have := List.all_eq_true.1 c5 m hm
    rw [hmo] at this
    obtain ⟨e, he, hx⟩ := Array.any_eq_true_iff_exists_mem'.1 this
    simp only [Bool.and_eq_true, beq_iff_eq] at hx
    exact ⟨e, he, hx.1, hx.2⟩
  · rw [ha.eval]; exact q.exec hw'
/-- An operation that only reckons is taken first. -/
theorem JD.calc (i : Nat) (chk : (takeOk ops listed [] i && !M.contains i) = true) (ho : ops[i]? = some ⟨some d, op, ty, pos, after, g⟩) (hg : WantT ops ρ g) (hS : ∀ w, St C.w0 C.h0 h L w → S w)
    (q : Qr C ρ (fun _ => True) op ty v) (k : JD C ops Q S M fuel (listed.setIfInBounds i true) ds (ρ.set d v) h L) (hn : Nat.blt d C.n = true := by rfl) :
    JD C ops Q S M (fuel + 1) listed ds ρ h L := fun a w ha hs => by
  simp only [takeOk, Bool.and_eq_true, Bool.not_eq_true'] at chk
  obtain ⟨⟨⟨⟨⟨c1, c2⟩, c3⟩, c4⟩, c5⟩, c6⟩ := chk
  exact wpAnyS_pure ho c1 (all_calm c2) (fun _ _ _ => noP_panic) (fun _ _ => noP_out) fuel S M listed a w (Region.free_spec ho c3) (by simpa using c4) (by simpa using c6)
    (.inl ⟨WantT.wanted ha hg, fun w' _ => by rw [ha.eval]; exact q.exec trivial⟩) (hS _ hs) (k _ _ (ha.put hn v) hs)
/-- An operation whose guard fails is passed over first. -/
theorem JD.pass (i : Nat) {j t : Nat} {want : Bool} (chk : (takeOk ops listed [] i && !M.contains i) = true) (ho : ops[i]? = some ⟨some d, op, ty, pos, after, some (j, want)⟩)
    (hj : (ops[j]?).bind (·.dst) = some t) (hb : ρ t = .bool (!want)) (hS : ∀ w, St C.w0 C.h0 h L w → S w)
    (k : JD C ops Q S M fuel (listed.setIfInBounds i true) ds (ρ.set d undef) h L) (hn : Nat.blt d C.n = true := by rfl) :
    JD C ops Q S M (fuel + 1) listed ds ρ h L := fun a w ha hs => by
  simp only [takeOk, Bool.and_eq_true, Bool.not_eq_true'] at chk
  obtain ⟨⟨⟨⟨⟨c1, c2⟩, c3⟩, c4⟩, c5⟩, c6⟩ := chk
  refine wpAnyS_pure ho c1 (all_calm c2) (fun _ _ _ => noP_panic) (fun _ _ => noP_out) fuel S M listed a w (Region.free_spec ho c3) (by simpa using c4) (by simpa using c6)
    (.inr ⟨?_, rfl⟩) (hS _ hs) (k _ _ (ha.put hn undef) hs)
  simp only [Region.wanted]; rw [yielded_eq ha hj hb]; cases want <;> rfl
theorem ss_top : ∀ w, St C.w0 C.h0 h L w → (fun _ : World => True) w := fun _ _ => trivial
theorem ss_sub [sub : Sb Ls L] : ∀ w, St C.w0 C.h0 h L w → SS C h Ls w := fun w hs => ⟨h, L, Ext.refl h, fun _ hp => sub.s.subset hp, hs⟩
end takes

/-- Operation i comes up now. -/
def JX (C : Cfg) (ops : Array Oper) (Q : Post) (S : World → Prop) (M : List Nat) (fuel : Nat) (listed : Array Bool) (ds : List Deferred) (ρ : Env) (h : Heap) (L : Own) (i : Nat) : Prop :=
  ∀ a w, Ag C.n ds a ρ → St C.w0 C.h0 h L w → wpOpIn (fen C.r) 0 C.P ops (lift C (noP Q)) i (fun a' w' =>
      (i ∈ M → wpAnyS C.r C.P ops (lift C (noP Q)) fuel (fun _ => True) [] (listed.setIfInBounds i true) a' w') ∧
      (i ∉ M → S w' ∧ wpAnyS C.r C.P ops (lift C (noP Q)) fuel S M (listed.setIfInBounds i true) a' w')) a w

theorem wpOp_of_JL {i : Nat} {o : Oper} {K : List Deferred → Env → Heap → Own → Prop} {K2 : Act → World → Prop} {Q2 : Exit → Act → World → Prop} (ho : ops[i]? = some o) (hg : WantT ops ρ o.guard)
    (k : JL C ops (fun e ds' ρ' h' L' => e = .normal ∧ K ds' ρ' h' L') [{ o with guard := none }] ds ρ h L) {a : Act} {w : World} (ha : Ag C.n ds a ρ) (hs : St C.w0 C.h0 h L w)
    (hK : ∀ a w ds ρ h L, Ag C.n ds a ρ → St C.w0 C.h0 h L w → K ds ρ h L → K2 a w) : wpOpIn (fen C.r) 0 C.P ops Q2 i K2 a w := by
  have hk := k a w ha hs
  have hw0 : Region.wanted { o with guard := none } (yielded ops a.tmps) = true := rfl
  simp only [wpL] at hk
  rw [if_pos hw0] at hk
  unfold wpOpIn
  simp only [ho]
  rw [if_pos (WantT.wanted ha hg)]
  refine ⟨fun _ _ => trivial, ?_⟩
  have h2 := hk.2
  have hsem : (o.semAt (fen C.r).round a.eval) = (({ o with guard := none } : Oper).semAt (fen C.r).round a.eval) := rfl
  rw [hsem]
  generalize (({ o with guard := none } : Oper).semAt (fen C.r).round a.eval).run C.P w = res at h2 ⊢
  have conv : ∀ a w, lift C (fun e ds' ρ' h' L' => e = .normal ∧ K ds' ρ' h' L') .normal a w → K2 a w := fun a w ⟨ds, ρ, h, L, x, y, _, z⟩ => hK a w ds ρ h L x y z
  have nop : ∀ e a w, e ≠ Exit.normal → lift C (fun e ds' ρ' h' L' => e = .normal ∧ K ds' ρ' h' L') e a w → False := fun e a w hne ⟨_, _, _, _, _, _, x, _⟩ => hne x
  cases res with
  | ok nx w' =>
    cases nx <;> simp only [Oper.uponIn] at h2 ⊢
    case value v => exact conv _ _ h2
    case skip => exact conv _ _ h2
    case defer dd => exact conv _ _ h2
    case enter f args => exact ⟨h2.1, CallsIn.mono h2.2 fun e w'' he => by cases e <;> first | exact conv _ _ he | exact (nop _ _ _ (by simp) he).elim | (obtain ⟨_, _, he⟩ := he; exact (nop _ _ _ (by simp) he).elim)⟩
    case row row args => exact ⟨h2.1, RowsIn.mono h2.2 fun v w'' he => conv _ _ he⟩
    case round l f tmps assign body => exact ⟨h2.1, RoundIn.mono h2.2 fun e w'' he => by cases e <;> first | exact conv _ _ he | exact (nop _ _ _ (by simp) he).elim | (obtain ⟨_, _, he⟩ := he; exact (nop _ _ _ (by simp) he).elim)⟩
  | halt x w' =>
    cases x <;> simp only [Oper.uponIn] at h2 ⊢
    case panic u => exact (nop _ _ _ (by simp) h2).elim

theorem JX.eff {i : Nat} {o : Oper} (ho : ops[i]? = some o) (hM : M.contains i = false) (hg : WantT ops ρ o.guard)
    (k : JL C ops (fun e ds' ρ' h' L' => e = .normal ∧ Ext h h' ∧ Sb Ls L' ∧ JD C ops Q (SS C h' Ls) M fuel (listed.setIfInBounds i true) ds' ρ' h' L') [{ o with guard := none }] ds ρ h L) :
    JX C ops Q (SS C h Ls) M fuel listed ds ρ h L i := fun a w ha hs =>
  wpOp_of_JL ho hg k ha hs fun a w ds' ρ' h' L' x y ⟨e, sub, kd⟩ => by
    have hmono : ∀ w, SS C h' Ls w → SS C h Ls w := fun w ⟨h2, L2, e2, s2, st⟩ => ⟨h2, L2, ⟨fun b o hb => e2.le b o (e.le b o hb)⟩, s2, st⟩
    exact ⟨fun hm => absurd (by simpa using hm) (by simpa using hM), fun _ => ⟨hmono _ ⟨h', L', Ext.refl h', fun _ hp => sub.s.subset hp, y⟩, (kd a w x y).mono _ hmono⟩⟩
theorem JX.mut {i : Nat} {o : Oper} (ho : ops[i]? = some o) (hM : M.contains i = true) (hg : WantT ops ρ o.guard)
    (k : JL C ops (fun e ds' ρ' h' L' => e = .normal ∧ JD C ops Q (fun _ => True) [] fuel (listed.setIfInBounds i true) ds' ρ' h' L') [{ o with guard := none }] ds ρ h L) :
    JX C ops Q S M fuel listed ds ρ h L i := fun a w ha hs =>
  wpOp_of_JL ho hg k ha hs fun a w ds' ρ' h' L' x y kd => And.intro (fun _ => kd a w x y) (fun hm => absurd (by simpa using hM) hm)
/-- Behind a change nothing more is read: whatever is left may come up. -/
theorem JX.free {i : Nat} {o : Oper} (ho : ops[i]? = some o) (hg : WantT ops ρ o.guard)
    (k : JL C ops (fun e ds' ρ' h' L' => e = .normal ∧ JD C ops Q (fun _ => True) [] fuel (listed.setIfInBounds i true) ds' ρ' h' L') [{ o with guard := none }] ds ρ h L) :
    JX C ops Q (fun _ => True) [] fuel listed ds ρ h L i := fun a w ha hs =>
  wpOp_of_JL ho hg k ha hs fun a w ds' ρ' h' L' x y kd => And.intro (fun hm => (by cases hm)) (fun _ => And.intro trivial (kd a w x y))

/-- Whichever of rs comes up. -/
def AllX (f : Nat → Prop) : List Nat → Prop
  | [] => True
  | i :: rs => f i ∧ AllX f rs
theorem JD.all (rs : List Nat) (hr : Region.ready .any ops listed = rs) (hne : rs.isEmpty = false) (k : AllX (JX C ops Q S M fuel listed ds ρ h L) rs) : JD C ops Q S M (fuel + 1) listed ds ρ h L := fun a w ha hs => by
  refine ⟨fun h0 => ?_, fun i hi => ?_⟩
  · rw [hr] at h0; subst h0; cases hne
  · rw [hr] at hi
    have : ∀ rs : List Nat, AllX (JX C ops Q S M fuel listed ds ρ h L) rs → ∀ i ∈ rs, JX C ops Q S M fuel listed ds ρ h L i := fun rs => by
      induction rs with
      | nil => intro _ i hi; cases hi
      | cons x rs ih =>
        intro k i hi
        rcases List.mem_cons.1 hi with rfl | hi
        · exact k.1
        · exact ih k.2 i hi
    exact this rs k i hi a w ha hs
theorem JD.one (i : Nat) (hr : Region.ready .any ops listed = [i]) (k : JX C ops Q S M fuel listed ds ρ h L i) : JD C ops Q S M (fuel + 1) listed ds ρ h L := JD.all [i] hr rfl ⟨k, trivial⟩
theorem JD.done (hr : Region.ready .any ops listed = []) (k : Q .normal ds ρ h L) : ∀ fuel, JD C ops Q S M fuel listed ds ρ h L
  | 0 => fun a w ha hs => ⟨hr, ds, ρ, h, L, ha, hs, k⟩
  | _ + 1 => fun a w ha hs => ⟨fun _ => ⟨ds, ρ, h, L, ha, hs, k⟩, by rw [hr]; simp⟩
theorem JD.weak {S' : World → Prop} (hS : ∀ w, S' w → S w) (k : JD C ops Q S' M fuel listed ds ρ h L) : JD C ops Q S M fuel listed ds ρ h L := fun a w ha hs => (k a w ha hs).mono _ hS
end Go.Z
end
section
set_option linter.unusedSimpArgs false
set_option linter.unusedVariables false
/- The calculus beneath the proofs: freezing of owned blocks, operations on bits. No program is named here. -/
set_option linter.unusedSimpArgs false
set_option linter.unusedVariables false
namespace Go.Z
open Go Go.RowKit

variable {C : Cfg} {Q Q' : Post} {ds : List Deferred} {ρ : Env} {h : Heap} {L : Own} {ops : Array Oper} {rest : List Oper}
variable {d : Nat} {ty : TypeId} {pos : String} {after : Array Edge} {S : World → Prop}

instance (priority := 900) AtS.one {p : Nat × Obj} {L2 : Own} : AtS (p :: L2) [p] (fun x => x ++ L2) := ⟨[], L2, rfl, fun _ => rfl⟩

theorem AtS.perm {L Lb : Own} {f : Own → Own} (a : AtS L Lb f) : L.Perm (Lb ++ f []) := by
  obtain ⟨L1, L2, h1, h2⟩ := a.e
  rw [h1, h2]
  simp only [List.nil_append]
  rw [← List.append_assoc, ← List.append_assoc]
  exact List.Perm.append_right _ List.perm_append_comm

theorem JL.fz1 {b : Nat} {o : Obj} (k : ∀ h', Step h h' → h' b = some o → JL C ops Q rest ds ρ h' L) : JL C ops Q rest ds ρ h ((b, o) :: L) :=
  fun a w ha hs => k _ hs.freeze.2 (by simp) a w ha hs.freeze.1
/-- A block of one's own is written no more. -/
theorem JL.fz {f : Own → Own} (b : Nat) {o : Obj} {g : Obj → Own} [q0 : At L b o g] [a : AtS L [(b, o)] f] (k : ∀ h', Step h h' → h' b = some o → JL C ops Q rest ds ρ h' (f [])) : JL C ops Q rest ds ρ h L :=
  JL.perm a.perm (JL.fz1 k)
theorem J.fz {c : Code} {f : Own → Own} (b : Nat) {o : Obj} {g : Obj → Own} [q0 : At L b o g] [a : AtS L [(b, o)] f] (k : ∀ h', Step h h' → h' b = some o → J C c Q ds ρ h' (f [])) : J C c Q ds ρ h L :=
  J.perm a.perm (J.freeze k)
/-- A slice of one's own is written no more. -/
theorem OwnS.split {T : TypeId} {sz n : Nat} {v : Value} {xs : List Value} {Lb : Own} (o : OwnS T sz v n xs Lb) :
    (Lb = [] ∧ ∀ h, SlAt h v n sz xs) ∨ ∃ b ob, Lb = [(b, ob)] ∧ ∀ h : Heap, h b = some ob → SlAt h v n sz xs := by
  obtain ⟨h1, h2⟩ := o
  rcases h2 with ⟨p, rfl, hp, rfl, rfl⟩ | ⟨b, c, sp, rfl, rfl, h3, h4⟩
  · obtain rfl : xs = [] := List.eq_nil_of_length_eq_zero (by simpa using h1)
    exact .inl ⟨rfl, fun h => ⟨p, 0, rfl, Nat.le_refl _, by simp, .inl ⟨rfl, fun _ _ => trivial⟩⟩⟩
  · refine .inr ⟨b, _, rfl, fun h hb => ⟨_, c, rfl, h3, h1, .inr ⟨b, 0, rfl, _, T, _, hb, ?_⟩⟩⟩
    exact LookN.of_get (vs := xs) (o := 0) fun j u hj => by simpa [List.getElem?_append_left (List.getElem?_eq_some_iff.1 hj).1] using hj
theorem AtS.emp {L : Own} {f : Own → Own} (a : AtS L [] f) : L = f [] := by
  obtain ⟨L1, L2, h1, h2⟩ := a.e
  rw [h1, h2]
theorem JL.fzS {T : TypeId} {sz n : Nat} {v : Value} {xs : List Value} {Lb : Own} {f : Own → Own} (o : OwnS T sz v n xs Lb) [a : AtS L Lb f]
    (k : ∀ h', Step h h' → SlAt h' v n sz xs → JL C ops Q rest ds ρ h' (f [])) : JL C ops Q rest ds ρ h L := by
  rcases o.split with ⟨rfl, hs⟩ | ⟨b, ob, rfl, hs⟩
  · rw [a.emp]; exact k h ⟨fun _ _ x => x⟩ (hs h)
  · exact JL.perm a.perm (JL.fz1 fun h' st hb => k h' st (hs h' hb))
theorem J.fzS {c : Code} {T : TypeId} {sz n : Nat} {v : Value} {xs : List Value} {Lb : Own} {f : Own → Own} (o : OwnS T sz v n xs Lb) [a : AtS L Lb f]
    (k : ∀ h', Step h h' → SlAt h' v n sz xs → J C c Q ds ρ h' (f [])) : J C c Q ds ρ h L := by
  rcases o.split with ⟨rfl, hs⟩ | ⟨b, ob, rfl, hs⟩
  · rw [a.emp]; exact k h ⟨fun _ _ x => x⟩ (hs h)
  · exact J.perm a.perm (J.freeze fun h' st hb => k h' st (hs h' hb))
theorem OwnS.out {T : TypeId} {sz n : Nat} {v : Value} {xs : List Value} {Lb : Own} (o : OwnS T sz v n xs Lb) : ∃ p c, v = .slice p n c := by
  rcases o.2 with ⟨p, rfl, _, rfl, rfl⟩ | ⟨b, c, sp, rfl, rfl, _, _⟩
  · exact ⟨_, _, rfl⟩
  · exact ⟨_, _, rfl⟩
theorem SlAt.out {h : Heap} {n sz : Nat} {v : Value} {xs : List Value} (o : SlAt h v n sz xs) : ∃ p c, v = .slice p n c := by
  obtain ⟨p, c, rfl, _⟩ := o; exact ⟨p, c, rfl⟩

/-! ### Bits -/
section bits
variable {x y : Operand} {T T' : TypeId} {a b : Nat} {c : Int}
theorem ofNat32 {a : Nat} (ha : a < 4294967296) : (BitVec.ofNat 32 a).toNat = a := by
  rw [BitVec.toNat_ofNat]; exact Nat.mod_eq_of_lt ha
theorem ofInt32 {a : Nat} (ha : a < 4294967296) : (BitVec.ofInt 32 (a : Int)).toNat = a := by
  rw [BitVec.ofInt_natCast, BitVec.toNat_ofNat]; exact Nat.mod_eq_of_lt ha
theorem q_xor32 (hx : ρ.ev x = .int .u32 (a : Int)) (hy : ρ.ev y = .int .u32 (b : Int)) (ha : a < 4294967296) (hb : b < 4294967296) : Qr C ρ S (.binOp .xor T x y T') ty (.int .u32 ((a ^^^ b : Nat) : Int)) := ⟨rfl, fun w _ => by
  have h1 := ofInt32 ha
  have h2 := ofInt32 hb
  have h3 : a ^^^ b < 2 ^ 32 := Nat.xor_lt_two_pow ha hb
  have hw : IntKind.u32.wrap ((a ^^^ b : Nat) : Int) = ((a ^^^ b : Nat) : Int) := wu32 (by omega)
  simp [execOp, eqGuard, binOp, Op.intBits, hx, hy, IntKind.bits, h1, h2, hw, Sem.run, bind, Sem.bind, pure]
  exact (congrArg (fun n : Nat => IntKind.u32.wrap (n : Int)) (show (BitVec.ofNat 32 a ^^^ BitVec.ofNat 32 b).toNat = a ^^^ b by rw [BitVec.toNat_xor, ofNat32 ha, ofNat32 hb])).trans hw⟩
theorem q_and32 (hx : ρ.ev x = .int .u32 (a : Int)) (hy : ρ.ev y = .int .u32 (b : Int)) (ha : a < 4294967296) (hb : b < 4294967296) : Qr C ρ S (.binOp .and T x y T') ty (.int .u32 ((a &&& b : Nat) : Int)) := ⟨rfl, fun w _ => by
  have h1 := ofInt32 ha
  have h2 := ofInt32 hb
  have h3 : a &&& b < 2 ^ 32 := Nat.and_lt_two_pow a hb
  have hw : IntKind.u32.wrap ((a &&& b : Nat) : Int) = ((a &&& b : Nat) : Int) := wu32 (by omega)
  simp [execOp, eqGuard, binOp, Op.intBits, hx, hy, IntKind.bits, h1, h2, hw, Sem.run, bind, Sem.bind, pure]
  exact (congrArg (fun n : Nat => IntKind.u32.wrap (n : Int)) (show (BitVec.ofNat 32 a &&& BitVec.ofNat 32 b).toNat = a &&& b by rw [BitVec.toNat_and, ofNat32 ha, ofNat32 hb])).trans hw⟩
theorem q_or32 (hx : ρ.ev x = .int .u32 (a : Int)) (hy : ρ.ev y = .int .u32 (b : Int)) (ha : a < 4294967296) (hb : b < 4294967296) : Qr C ρ S (.binOp .or T x y T') ty (.int .u32 ((a ||| b : Nat) : Int)) := ⟨rfl, fun w _ => by
  have h1 := ofInt32 ha
  have h2 := ofInt32 hb
  have h3 : a ||| b < 2 ^ 32 := Nat.or_lt_two_pow ha hb
  have hw : IntKind.u32.wrap ((a ||| b : Nat) : Int) = ((a ||| b : Nat) : Int) := wu32 (by omega)
  simp [execOp, eqGuard, binOp, Op.intBits, hx, hy, IntKind.bits, h1, h2, hw, Sem.run, bind, Sem.bind, pure]
  exact (congrArg (fun n : Nat => IntKind.u32.wrap (n : Int)) (show (BitVec.ofNat 32 a ||| BitVec.ofNat 32 b).toNat = a ||| b by rw [BitVec.toNat_or, ofNat32 ha, ofNat32 hb])).trans hw⟩
theorem q_com32 (hx : ρ.ev x = .int .u32 (a : Int)) (ha : a < 4294967296) : Qr C ρ S (.unOp .xor T x) ty (.int .u32 ((4294967295 ^^^ a : Nat) : Int)) := ⟨rfl, fun w _ => by
  have h1 := ofInt32 ha
  have h2 : (BitVec.ofInt 32 4294967295).toNat = 4294967295 := by decide
  have h3 : 4294967295 ^^^ a < 2 ^ 32 := Nat.xor_lt_two_pow (by decide) ha
  have hw : IntKind.u32.wrap ((4294967295 ^^^ a : Nat) : Int) = ((4294967295 ^^^ a : Nat) : Int) := wu32 (by omega)
  have hm : IntKind.u32.max = 4294967295 := by decide
  simp [execOp, Op.unary, Op.intBits, hx, IntKind.bits, IntKind.signed, hm, BitVec.toNat_xor, h1, h2, hw, Sem.run, bind, Sem.bind, pure]
  exact (congrArg (fun n : Nat => IntKind.u32.wrap (n : Int)) (show (4294967295#32 ^^^ BitVec.ofNat 32 a).toNat = 4294967295 ^^^ a by rw [BitVec.toNat_xor, ofNat32 ha]; rfl)).trans hw⟩
end bits
/-! ### A guard that was itself passed over -/
theorem yielded_none {n : Nat} {a : Act} (ha : Ag n ds a ρ) {j t : Nat} (hj : (ops[j]?).bind (·.dst) = some t) (hb : ρ t = undef) : yielded ops a.tmps j = none := by
  have hg := ha.get t
  rw [hb] at hg
  simp only [yielded, hj, Option.bind_some]
  rcases Nat.lt_or_ge t a.tmps.size with h | h
  · simp [h] at hg; simp [h, hg, undef]
  · simp [h]
theorem JL.guardU {op : Op} {j t d : Nat} {want : Bool} (hj : (ops[j]?).bind (·.dst) = some t) (hb : ρ t = undef) (hn : Nat.blt d C.n = true)
    (k : JL C ops Q rest ds (ρ.set d undef) h L) : JL C ops Q (⟨some d, op, ty, pos, after, some (j, want)⟩ :: rest) ds ρ h L := fun a w ha hs => by
  have hw1 : ¬ Region.wanted ⟨some d, op, ty, pos, after, some (j, want)⟩ (yielded ops a.tmps) = true := by
    simp only [Region.wanted]; rw [yielded_none ha hj hb]; simp
  simp only [wpL]
  rw [if_neg hw1]
  exact k _ _ (ha.put hn undef) hs
theorem JD.passU {M : List Nat} {listed : Array Bool} {fuel : Nat} {op : Op} (i : Nat) {j t : Nat} {want : Bool} (chk : (takeOk ops listed [] i && !M.contains i) = true) (ho : ops[i]? = some ⟨some d, op, ty, pos, after, some (j, want)⟩)
    (hj : (ops[j]?).bind (·.dst) = some t) (hb : ρ t = undef) (hS : ∀ w, St C.w0 C.h0 h L w → S w)
    (k : JD C ops Q S M fuel (listed.setIfInBounds i true) ds (ρ.set d undef) h L) (hn : Nat.blt d C.n = true := by rfl) :
    JD C ops Q S M (fuel + 1) listed ds ρ h L := fun a w ha hs => by
  simp only [takeOk, Bool.and_eq_true, Bool.not_eq_true'] at chk
  obtain ⟨⟨⟨⟨⟨c1, c2⟩, c3⟩, c4⟩, c5⟩, c6⟩ := chk
  refine wpAnyS_pure ho c1 (all_calm c2) (fun _ _ _ => noP_panic) (fun _ _ => noP_out) fuel S M listed a w (Region.free_spec ho c3) (by simpa using c4) (by simpa using c6)
    (.inr ⟨?_, rfl⟩) (hS _ hs) (k _ _ (ha.put hn undef) hs)
  simp only [Region.wanted]; rw [yielded_none ha hj hb]; rfl
/-! ### Values said in their form, so that environments stay small -/
theorem q_mvv {x : Operand} {v : Value} (hv : ρ.ev x = v) : Qr C ρ S (.move x) ty v := ⟨rfl, fun _ _ => by subst hv; rfl⟩
theorem q_asv {x : Operand} {v : Value} (hv : ρ.ev x = v) : Qr C ρ S (.assign x) ty v := ⟨rfl, fun _ _ => by subst hv; rfl⟩
theorem q_pickTv {c x y : Operand} {b : Bool} {v : Value} (hc : ρ.ev c = .bool b) (hb : b = true) (hv : ρ.ev x = v) : Qr C ρ S (.pick c x y) ty v := by subst hv; exact q_pickT hc hb
theorem q_pickFv {c x y : Operand} {b : Bool} {v : Value} (hc : ρ.ev c = .bool b) (hb : b = false) (hv : ρ.ev y = v) : Qr C ρ S (.pick c x y) ty v := by subst hv; exact q_pickF hc hb
theorem keep_of {ρ : Env} : ∀ {kv : List (Nat × Value)}, Has ρ kv → keepOf ρ (kv.map (·.1)) = kv
  | [], _ => rfl
  | (t, v) :: l, ⟨e, hl⟩ => by simp only [List.map_cons, keepOf, keep_of hl, e]
theorem J.loopK {α : Type} {c : Code} (I : α → Heap → Own → Prop) (kv : List (Nat × Value)) (hk : Has ρ kv) (sl : α → List (Nat × Value)) (μ : α → Nat) (x0 : α)
    (h0 : I x0 h L) (hs : Has ρ (sl x0))
    (round : ∀ x σ h' L', Step h h' → I x h' L' →
      J C c (thenQ (fun ds' ρ' h'' L'' => ∃ x', ds' = ds ∧ Has ρ' kv ∧ Has ρ' (sl x') ∧ I x' h'' L'' ∧ μ x' < μ x ∧ Ext h h'') Q) ds
        (setAll (setAll σ kv) (sl x)) h' L') : J C (.loop c) Q ds ρ h L := by
  have := J.loop (C := C) (Q := Q) (ds := ds) (ρ := ρ) (c := c) I (kv.map (·.1)) sl μ x0 h0 hs
  rw [keep_of hk] at this
  exact this round
theorem J.cutK {α : Type} {x y : Code} (I : α → Heap → Own → Prop) (kv : List (Nat × Value)) (hk : Has ρ kv) (sl : α → List (Nat × Value))
    (hx : J C x (thenQ (fun ds' ρ' h' L' => ∃ z, ds' = ds ∧ Has ρ' kv ∧ Has ρ' (sl z) ∧ I z h' L' ∧ Ext h h') Q) ds ρ h L)
    (hy : ∀ z σ h' L', Step h h' → I z h' L' → J C y Q ds (setAll (setAll σ kv) (sl z)) h' L') : J C (.seq x y) Q ds ρ h L := by
  have := J.cutS (C := C) (Q := Q) (ds := ds) (ρ := ρ) (x := x) (y := y) (h := h) (L := L) I (kv.map (·.1)) sl
  rw [keep_of hk] at this
  exact this hx hy
end Go.Z
end
section
set_option linter.unusedSimpArgs false
set_option linter.unusedVariables false
/- Plain arithmetic on lists of limbs to the base 2^32: value, trimming, the limbs of a number. No program is named here. -/
set_option linter.unusedSimpArgs false
set_option linter.unusedVariables false
namespace Go.Z

abbrev Bs : Nat := 4294967296
def val : List Nat → Nat
  | [] => 0
  | x :: l => x + Bs * val l
def Bd (l : List Nat) : Prop := ∀ x ∈ l, x < Bs
def limbs (n : Nat) : List Nat := if h : n = 0 then [] else n % Bs :: limbs (n / Bs)
termination_by n
decreasing_by exact Nat.div_lt_self (Nat.pos_of_ne_zero h) (by decide)
def trim : List Nat → List Nat
  | [] => []
  | x :: l => match trim l with
    | [] => if x = 0 then [] else [x]
    | y :: r => x :: y :: r

theorem limbs_zero : limbs 0 = [] := by rw [limbs]; simp
theorem limbs_pos {n : Nat} (h : n ≠ 0) : limbs n = n % Bs :: limbs (n / Bs) := by rw [limbs]; simp [h]
theorem val_limbs (n : Nat) : val (limbs n) = n := by
  induction n using Nat.strongRecOn with
  | _ n ih =>
    by_cases h : n = 0
    · subst h; rw [limbs_zero]; rfl
    · rw [limbs_pos h, val, ih _ (Nat.div_lt_self (Nat.pos_of_ne_zero h) (by decide))]
      exact Nat.mod_add_div n Bs
theorem bd_limbs (n : Nat) : Bd (limbs n) := by
  induction n using Nat.strongRecOn with
  | _ n ih =>
    by_cases h : n = 0
    · subst h; rw [limbs_zero]; intro x hx; cases hx
    · rw [limbs_pos h]
      intro x hx
      rcases List.mem_cons.1 hx with rfl | hx
      · exact Nat.mod_lt _ (by decide)
      · exact ih _ (Nat.div_lt_self (Nat.pos_of_ne_zero h) (by decide)) x hx
theorem Bd.tail {x : Nat} {l : List Nat} (h : Bd (x :: l)) : Bd l := fun y hy => h y (List.mem_cons_of_mem _ hy)
theorem Bd.head {x : Nat} {l : List Nat} (h : Bd (x :: l)) : x < Bs := h x (List.mem_cons_self ..)
theorem val_lt {l : List Nat} (h : Bd l) : val l < Bs ^ l.length := by
  induction l with
  | nil => simp [val]
  | cons x l ih =>
    have h1 := h.head
    have h2 := ih h.tail
    simp only [val, List.length_cons, Nat.pow_succ]
    have : Bs * val l + Bs ≤ Bs * Bs ^ l.length := by
      rw [← Nat.mul_succ]; exact Nat.mul_le_mul_left _ h2
    rw [Nat.mul_comm (Bs ^ l.length)]; omega
theorem trim_nil_iff {l : List Nat} (hb : Bd l) : trim l = [] ↔ val l = 0 := by
  induction l with
  | nil => simp [trim, val]
  | cons x l ih =>
    have ih := ih hb.tail
    simp only [trim, val]
    cases e : trim l with
    | nil =>
      have hv := ih.1 e
      by_cases hx : x = 0 <;> simp [hx, hv]
    | cons y r =>
      simp only [reduceCtorEq, false_iff]
      have : val l ≠ 0 := fun h => by rw [ih.2 h] at e; cases e
      have : 0 < Bs * val l := Nat.mul_pos (by decide) (Nat.pos_of_ne_zero this)
      omega
theorem trim_eq {l : List Nat} (hb : Bd l) : trim l = limbs (val l) := by
  induction l with
  | nil => rw [val, limbs_zero]; rfl
  | cons x l ih =>
    have ih := ih hb.tail
    have hx := hb.head
    have hd : (x + Bs * val l) / Bs = val l := by rw [Nat.add_mul_div_left _ _ (by decide), Nat.div_eq_of_lt hx, Nat.zero_add]
    have hm : (x + Bs * val l) % Bs = x := by rw [Nat.add_mul_mod_self_left, Nat.mod_eq_of_lt hx]
    simp only [trim, val]
    cases e : trim l with
    | nil =>
      have hv := (trim_nil_iff hb.tail).1 e
      by_cases h0 : x = 0
      · simp [h0, hv, limbs_zero]
      · have : x + Bs * val l ≠ 0 := by omega
        rw [limbs_pos this, hd, hm, hv, limbs_zero]; simp [h0]
    | cons y r =>
      have hv : val l ≠ 0 := fun h => by rw [(trim_nil_iff hb.tail).2 h] at e; cases e
      have : x + Bs * val l ≠ 0 := by
        have : 0 < Bs * val l := Nat.mul_pos (by decide) (Nat.pos_of_ne_zero hv)
        omega
      rw [limbs_pos this, hd, hm, ← ih, e]
theorem trim_limbs (n : Nat) : trim (limbs n) = limbs n := by rw [trim_eq (bd_limbs n), val_limbs]
/-- Zeros from m on, and none before: the trimmed list. -/
theorem take_trim : ∀ {l : List Nat} {m : Nat}, m ≤ l.length → (∀ j x, m ≤ j → l[j]? = some x → x = 0) → (∀ x, 0 < m → l[m - 1]? = some x → x ≠ 0) → l.take m = trim l
  | [], m, hm, _, _ => by simp at hm; subst hm; rfl
  | x :: l, 0, _, hz, _ => by
    have ih := take_trim (l := l) (m := 0) (Nat.zero_le _) (fun j y _ hj => hz (j + 1) y (Nat.zero_le _) (by simpa using hj)) (fun _ h => absurd h (Nat.lt_irrefl _))
    simp only [List.take_zero] at ih ⊢
    have := hz 0 x (Nat.le_refl _) (by simp)
    simp [trim, ← ih, this]
  | x :: l, m + 1, hm, hz, hl => by
    have ih := take_trim (l := l) (m := m) (by simpa using hm) (fun j y hj hy => hz (j + 1) y (by omega) (by simpa using hy)) (fun y hm0 hy => hl y (by omega) (by
      obtain ⟨k, rfl⟩ : ∃ k, m = k + 1 := ⟨m - 1, by omega⟩
      simpa using hy))
    simp only [List.take_succ_cons, trim, ← ih]
    cases e : l.take m with
    | nil =>
      have hx : x ≠ 0 := by
        have hl0 : m = 0 := by
          cases m with
          | zero => rfl
          | succ k => cases l with
            | nil => simp at hm
            | cons a b => simp at e
        subst hl0
        exact hl x (by omega) (by simp)
      simp [hx]
    | cons y r => rfl
theorem val_append (l m : List Nat) : val (l ++ m) = val l + Bs ^ l.length * val m := by
  induction l with
  | nil => simp [val]
  | cons x l ih =>
    simp only [List.cons_append, val, ih, List.length_cons, Nat.pow_succ]
    rw [Nat.mul_add, Nat.mul_comm (Bs ^ l.length) Bs, Nat.mul_assoc]; omega
theorem val_take_trim {l : List Nat} (hb : Bd l) : val (trim l) = val l := by rw [trim_eq hb, val_limbs]
theorem Bd.take {l : List Nat} (h : Bd l) (k : Nat) : Bd (l.take k) := fun x hx => h x (List.mem_of_mem_take hx)
theorem Bd.get {l : List Nat} (h : Bd l) {j x : Nat} (hj : l[j]? = some x) : x < Bs := h x (List.mem_of_getElem? hj)
theorem limbs_len_pos {n : Nat} (h : n ≠ 0) : 0 < (limbs n).length := by rw [limbs_pos h]; simp
theorem limbs_nil_iff {n : Nat} : limbs n = [] ↔ n = 0 := by
  constructor
  · intro h
    by_cases e : n = 0
    · exact e
    · rw [limbs_pos e] at h; cases h
  · intro h; rw [h]; exact limbs_zero
end Go.Z
end
section
set_option linter.unusedSimpArgs false
set_option linter.unusedVariables false
/- Plain arithmetic on lists of limbs: sums, differences, products and comparisons, limb by limb. No program is named here. -/
set_option linter.unusedSimpArgs false
set_option linter.unusedVariables false
namespace Go.Z

theorem getD_some {l : List Nat} {i x : Nat} (h : l[i]? = some x) : l.getD i 0 = x := by simp [h]
theorem getD_none {l : List Nat} {i : Nat} (h : l.length ≤ i) : l.getD i 0 = 0 := by simp [h]
theorem val_snoc (xs : List Nat) (d : Nat) : val (xs ++ [d]) = val xs + Bs ^ xs.length * d := by rw [val_append]; simp [val]
theorem val_take_succ (l : List Nat) (i : Nat) : val (l.take (i + 1)) = val (l.take i) + Bs ^ i * l.getD i 0 := by
  rcases Nat.lt_or_ge i l.length with h | h
  · have hx : l[i]? = some l[i] := by simp [h]
    rw [List.take_add_one, hx, getD_some hx]
    simp only [Option.toList]
    rw [val_snoc, List.length_take, Nat.min_eq_left (Nat.le_of_lt h)]
  · rw [List.take_of_length_le (by omega), List.take_of_length_le h, getD_none h]; simp
theorem val_set {l : List Nat} {j old : Nat} (d : Nat) : l[j]? = some old → val (l.set j d) + Bs ^ j * old = val l + Bs ^ j * d := by
  induction l generalizing j with
  | nil => intro h; simp at h
  | cons x l ih =>
    cases j with
    | zero => intro h; simp at h; subst h; simp [val]; omega
    | succ j =>
      intro h
      have := ih (j := j) (by simpa using h)
      simp only [List.set_cons_succ, val, Nat.pow_succ]
      have e1 : Bs ^ j * Bs * old = Bs * (Bs ^ j * old) := by rw [Nat.mul_comm (Bs ^ j) Bs, Nat.mul_assoc]
      have e2 : Bs ^ j * Bs * d = Bs * (Bs ^ j * d) := by rw [Nat.mul_comm (Bs ^ j) Bs, Nat.mul_assoc]
      rw [e1, e2, Nat.add_assoc, ← Nat.mul_add, this, Nat.mul_add, Nat.add_assoc]
theorem Bd.set {l : List Nat} (h : Bd l) {j d : Nat} (hd : d < Bs) : Bd (l.set j d) := fun x hx => by
  rcases List.mem_or_eq_of_mem_set hx with h1 | rfl
  · exact h x h1
  · exact hd
theorem Bd.snoc {l : List Nat} (h : Bd l) {d : Nat} (hd : d < Bs) : Bd (l ++ [d]) := fun x hx => by
  rcases List.mem_append.1 hx with h1 | h1
  · exact h x h1
  · simp at h1; subst h1; exact hd
theorem Bd.nil : Bd [] := fun _ h => by cases h
theorem Bd.rep0 (n : Nat) : Bd (List.replicate n 0) := fun x hx => by rw [(List.mem_replicate.1 hx).2]; decide
theorem val_rep0 (n : Nat) : val (List.replicate n 0) = 0 := by
  induction n with
  | zero => rfl
  | succ n ih => simp [List.replicate_succ, val, ih]
theorem val_le_pow {l : List Nat} (h : Bd l) {k : Nat} (hk : l.length ≤ k) : val l < Bs ^ k := Nat.lt_of_lt_of_le (val_lt h) (Nat.pow_le_pow_right (by decide) hk)
theorem limbs_len {n k : Nat} : (limbs n).length ≤ k ↔ n < Bs ^ k := by
  induction k generalizing n with
  | zero =>
    simp only [Nat.le_zero_eq, List.length_eq_zero_iff, limbs_nil_iff, Nat.pow_zero]; omega
  | succ k ih =>
    by_cases h : n = 0
    · subst h; simp [limbs_zero]; exact Nat.pow_pos (by decide)
    · rw [limbs_pos h, List.length_cons, Nat.add_le_add_iff_right, ih, Nat.pow_succ, Nat.div_lt_iff_lt_mul (by decide)]
theorem limbs_len_lt {x y : Nat} (h : (limbs x).length < (limbs y).length) : x < y := by
  have h1 : x < Bs ^ (limbs x).length := limbs_len.1 (Nat.le_refl _)
  have h2 : ¬ y < Bs ^ (limbs x).length := fun h3 => by have := limbs_len.2 h3; omega
  omega
theorem limbs_inj {x y : Nat} (h : limbs x = limbs y) : x = y := by rw [← val_limbs x, h, val_limbs]
theorem digit (P s : Nat) : P * (s % Bs) + P * Bs * (s / Bs) = P * s := by
  rw [Nat.mul_assoc, ← Nat.mul_add, Nat.mod_add_div]
theorem val_split (l : List Nat) (k : Nat) (hk : k ≤ l.length) : val l = val (l.take k) + Bs ^ k * val (l.drop k) := by
  have := val_append (l.take k) (l.drop k)
  rw [List.take_append_drop, List.length_take, Nat.min_eq_left hk] at this
  exact this
/-- The first limbs that differ, from above, decide. -/
theorem val_lt_of {a b : List Nat} {i x y : Nat} (ha : Bd a) (hb : Bd b) (hab : a.drop (i + 1) = b.drop (i + 1)) (hx : a[i]? = some x) (hy : b[i]? = some y) (h : x < y) : val a < val b := by
  have hai : i < a.length := (List.getElem?_eq_some_iff.1 hx).1
  have hbi : i < b.length := (List.getElem?_eq_some_iff.1 hy).1
  rw [val_split a (i + 1) hai, val_split b (i + 1) hbi, hab, val_take_succ, val_take_succ, getD_some hx, getD_some hy]
  have h1 : val (a.take i) < Bs ^ i := val_le_pow (ha.take i) (by rw [List.length_take]; omega)
  have h2 : Bs ^ i * x + Bs ^ i ≤ Bs ^ i * y := by rw [← Nat.mul_succ]; exact Nat.mul_le_mul_left _ h
  omega

/-! ### Steps of the loops -/
theorem plus_step {a b xs : List Nat} {i cy : Nat} (hl : xs.length = i) (hv : val xs + Bs ^ i * cy = val (a.take i) + val (b.take i)) :
    val (xs ++ [(cy + a.getD i 0 + b.getD i 0) % Bs]) + Bs ^ (i + 1) * ((cy + a.getD i 0 + b.getD i 0) / Bs) = val (a.take (i + 1)) + val (b.take (i + 1)) := by
  rw [val_snoc, hl, val_take_succ, val_take_succ, Nat.pow_succ]
  have := digit (Bs ^ i) (cy + a.getD i 0 + b.getD i 0)
  rw [Nat.mul_add, Nat.mul_add] at this
  omega
theorem minus_step {a b xs : List Nat} {i bw d e : Nat} (hl : xs.length = i) (hv : val xs + val (b.take i) = val (a.take i) + Bs ^ i * bw) (hd : d + bw + b.getD i 0 = a.getD i 0 + Bs * e) :
    val (xs ++ [d]) + val (b.take (i + 1)) = val (a.take (i + 1)) + Bs ^ (i + 1) * e := by
  rw [val_snoc, hl, val_take_succ, val_take_succ, Nat.pow_succ]
  have h1 : Bs ^ i * (d + bw + b.getD i 0) = Bs ^ i * (a.getD i 0 + Bs * e) := by rw [hd]
  rw [Nat.mul_add, Nat.mul_add, Nat.mul_add, ← Nat.mul_assoc] at h1
  omega
theorem minus_end {a b xs : List Nat} {bw : Nat} (hx : Bd xs) (hl : xs.length = a.length) (hv : val xs + val b = val a + Bs ^ a.length * bw) (hba : val b ≤ val a) : val xs = val a - val b := by
  have h1 := val_lt hx
  rw [hl] at h1
  rcases Nat.eq_zero_or_pos bw with rfl | hb
  · omega
  · have : Bs ^ a.length * 1 ≤ Bs ^ a.length * bw := Nat.mul_le_mul_left _ hb
    omega
/-- One limb of the product of a row. -/
theorem mul_step {out : List Nat} {i k cy x y o W : Nat} (ho : out[i + k]? = some o) (hv : val out + Bs ^ (i + k) * cy = W) :
    val (out.set (i + k) ((cy + o + x * y) % Bs)) + Bs ^ (i + (k + 1)) * ((cy + o + x * y) / Bs) = W + Bs ^ i * x * (Bs ^ k * y) := by
  have h1 := val_set ((cy + o + x * y) % Bs) ho
  have h2 := digit (Bs ^ (i + k)) (cy + o + x * y)
  rw [Nat.mul_add, Nat.mul_add] at h2
  have h3 : Bs ^ i * x * (Bs ^ k * y) = Bs ^ (i + k) * (x * y) := by
    rw [Nat.pow_add, Nat.mul_assoc, Nat.mul_assoc, Nat.mul_left_comm x]
  rw [← Nat.add_assoc, Nat.pow_succ, h3]
  omega
theorem carry_lt {cy o x y : Nat} (h1 : cy < Bs) (h2 : o < Bs) (h3 : x < Bs) (h4 : y < Bs) : cy + o + x * y < 18446744073709551616 ∧ (cy + o + x * y) / Bs < Bs := by
  have hB : Bs = 4294967296 := rfl
  have : x * y ≤ 4294967295 * 4294967295 := Nat.mul_le_mul (by omega) (by omega)
  have : cy + o + x * y < 18446744073709551616 := by omega
  exact ⟨this, by rw [Nat.div_lt_iff_lt_mul (by decide), hB]; exact this⟩
theorem val_take_le (l : List Nat) (k : Nat) : val (l.take k) ≤ val l := by
  rcases Nat.lt_or_ge k l.length with h | h
  · rw [val_split l k (Nat.le_of_lt h)]; exact Nat.le_add_right _ _
  · rw [List.take_of_length_le h]; exact Nat.le_refl _
/-- A carry at this place leaves room for it. -/
theorem mul_bound {a b out : List Nat} {i k cy : Nat} (ha : Bd a) (hb : Bd b) (hi : i < a.length) (hv : val out + Bs ^ (i + k) * cy = val (a.take i) * val b + Bs ^ i * a.getD i 0 * val (b.take k)) (hc : 0 < cy) : k < b.length + 1 := by
  have h1 : Bs ^ i * a.getD i 0 * val (b.take k) ≤ Bs ^ i * a.getD i 0 * val b := Nat.mul_le_mul_left _ (val_take_le b k)
  have h2 : val (a.take (i + 1)) * val b = val (a.take i) * val b + Bs ^ i * a.getD i 0 * val b := by rw [val_take_succ, Nat.add_mul]
  have h3 : val (a.take (i + 1)) * val b < Bs ^ (i + 1) * Bs ^ b.length := Nat.mul_lt_mul_of_lt_of_le (val_le_pow (ha.take _) (by rw [List.length_take]; omega)) (Nat.le_of_lt (val_lt hb)) (Nat.pow_pos (by decide))
  rw [← Nat.pow_add] at h3
  have h4 : Bs ^ (i + k) * 1 ≤ Bs ^ (i + k) * cy := Nat.mul_le_mul_left _ hc
  have h5 : Bs ^ (i + k) < Bs ^ (i + 1 + b.length) := by omega
  have := (Nat.pow_lt_pow_iff_right (by decide : 1 < Bs)).1 h5
  omega
theorem mul_sign (x y : Int) : (if (!(decide (x < 0) == decide (y < 0))) = true then -((x.natAbs * y.natAbs : Nat) : Int) else ((x.natAbs * y.natAbs : Nat) : Int)) = x * y := by
  rcases (show x < 0 ∨ 0 ≤ x by omega) with hx | hx <;> rcases (show y < 0 ∨ 0 ≤ y by omega) with hy | hy
  · obtain ⟨a, rfl⟩ : ∃ a : Nat, x = -(a : Int) := ⟨x.natAbs, by omega⟩
    obtain ⟨b, rfl⟩ : ∃ b : Nat, y = -(b : Int) := ⟨y.natAbs, by omega⟩
    rw [decide_eq_true hx, decide_eq_true hy]; simp [Int.neg_mul, Int.mul_neg]
  · obtain ⟨a, rfl⟩ : ∃ a : Nat, x = -(a : Int) := ⟨x.natAbs, by omega⟩
    obtain ⟨b, rfl⟩ : ∃ b : Nat, y = (b : Int) := ⟨y.natAbs, by omega⟩
    rw [decide_eq_true hx, decide_eq_false (show ¬ ((b : Int) < 0) by omega)]; simp [Int.neg_mul, Int.mul_neg]
  · obtain ⟨a, rfl⟩ : ∃ a : Nat, x = (a : Int) := ⟨x.natAbs, by omega⟩
    obtain ⟨b, rfl⟩ : ∃ b : Nat, y = -(b : Int) := ⟨y.natAbs, by omega⟩
    rw [decide_eq_true hy, decide_eq_false (show ¬ ((a : Int) < 0) by omega)]; simp [Int.neg_mul, Int.mul_neg]
  · obtain ⟨a, rfl⟩ : ∃ a : Nat, x = (a : Int) := ⟨x.natAbs, by omega⟩
    obtain ⟨b, rfl⟩ : ∃ b : Nat, y = (b : Int) := ⟨y.natAbs, by omega⟩
    simp [show ¬ ((a : Int) < 0) by omega, show ¬ ((b : Int) < 0) by omega]
/-- The highest bit. -/
theorem bit31 {x : Nat} (h : x < 4294967296) : x / 2147483648 = (x.testBit 31).toNat := by
  rw [Nat.toNat_testBit]
  have : x / 2 ^ 31 < 2 := by rw [Nat.div_lt_iff_lt_mul (by decide)]; exact h
  rw [Nat.mod_eq_of_lt this]
theorem tb31 {x : Nat} (h : x < 4294967296) : x.testBit 31 = decide (2147483648 ≤ x) := by
  have h1 := bit31 h
  cases hb : x.testBit 31 with
  | false => rw [hb] at h1; simp at h1; simp; omega
  | true => rw [hb] at h1; simp at h1; simp; omega
theorem borrow {x y c d : Nat} (hx : x < 4294967296) (hy : y < 4294967296) (hd : d < 4294967296) (hc : c ≤ 1) (he : (x + 4294967296 * 2 - y - c) % 4294967296 = d) :
    (((4294967295 ^^^ x) &&& y) ||| ((4294967295 ^^^ (x ^^^ y)) &&& d)) / 2147483648 = if x < y + c then 1 else 0 := by
  have hxy : x ^^^ y < 2 ^ 32 := Nat.xor_lt_two_pow hx hy
  have h1 : 4294967295 ^^^ x < 2 ^ 32 := Nat.xor_lt_two_pow (by decide) hx
  have h2 : 4294967295 ^^^ (x ^^^ y) < 2 ^ 32 := Nat.xor_lt_two_pow (by decide) hxy
  have h3 : ((4294967295 ^^^ x) &&& y) ||| ((4294967295 ^^^ (x ^^^ y)) &&& d) < 2 ^ 32 := Nat.or_lt_two_pow (Nat.and_lt_two_pow _ hy) (Nat.and_lt_two_pow _ hd)
  rw [bit31 h3]
  simp only [Nat.testBit_or, Nat.testBit_and, Nat.testBit_xor]
  rw [tb31 hx, tb31 hy, tb31 hd, show (4294967295 : Nat).testBit 31 = true by decide]
  by_cases a1 : 2147483648 ≤ x <;> by_cases a2 : 2147483648 ≤ y <;> by_cases a3 : 2147483648 ≤ d <;> by_cases a4 : x < y + c <;> simp [a1, a2, a3, a4] <;> omega
/-- A step of a sum in place. -/
theorem plus2_step {a b out : List Nat} {i cy : Nat} (hl : i < out.length) (hv : val (out.take i) + Bs ^ i * cy = val (a.take i) + val (b.take i)) :
    val ((out.set i ((a.getD i 0 + b.getD i 0 + cy) % Bs)).take (i + 1)) + Bs ^ (i + 1) * ((a.getD i 0 + b.getD i 0 + cy) / Bs) = val (a.take (i + 1)) + val (b.take (i + 1)) := by
  rw [val_take_succ, val_take_succ, val_take_succ, Nat.pow_succ]
  have h1 : (out.set i ((a.getD i 0 + b.getD i 0 + cy) % Bs)).getD i 0 = (a.getD i 0 + b.getD i 0 + cy) % Bs := by simp [List.getElem?_set_self hl]
  rw [h1, List.take_set_of_le (Nat.le_refl i)]
  have := digit (Bs ^ i) (a.getD i 0 + b.getD i 0 + cy)
  rw [Nat.mul_add, Nat.mul_add] at this
  omega
theorem minus2_step {a b out : List Nat} {i bw d e : Nat} (hl : i < out.length) (hv : val (out.take i) + val (b.take i) = val (a.take i) + Bs ^ i * bw) (hd : d + bw + b.getD i 0 = a.getD i 0 + Bs * e) :
    val ((out.set i d).take (i + 1)) + val (b.take (i + 1)) = val (a.take (i + 1)) + Bs ^ (i + 1) * e := by
  rw [val_take_succ, val_take_succ, val_take_succ, Nat.pow_succ]
  have h0 : (out.set i d).getD i 0 = d := by simp [List.getElem?_set_self hl]
  rw [h0, List.take_set_of_le (Nat.le_refl i)]
  have h1 : Bs ^ i * (d + bw + b.getD i 0) = Bs ^ i * (a.getD i 0 + Bs * e) := by rw [hd]
  rw [Nat.mul_add, Nat.mul_add, Nat.mul_add, ← Nat.mul_assoc] at h1
  omega
end Go.Z
end
section
set_option linter.unusedSimpArgs false
set_option linter.unusedVariables false
/- How the program's integers read: limbs in frozen memory. -/
set_option linter.unusedSimpArgs false
set_option linter.unusedVariables false
namespace Go.Z
open Go Go.RowKit

theorem fd32 (n : Nat) : Int.fdiv (n : Int) 4294967296 = ((n / 4294967296 : Nat) : Int) := by
  rw [Int.fdiv_eq_ediv_of_nonneg _ (by decide)]; rfl
theorem td32 (n : Nat) : Int.tdiv (n : Int) 4294967296 = ((n / 4294967296 : Nat) : Int) := rfl

def u32s (l : List Nat) : List Value := l.map fun x : Nat => Value.int .u32 (x : Int)
theorem u32s_len (l : List Nat) : (u32s l).length = l.length := by simp [u32s]
theorem u32s_get {l : List Nat} {j x : Nat} (h : l[j]? = some x) : (u32s l)[j]? = some (.int .u32 (x : Int)) := by simp [u32s, h]
theorem u32s_plain (l : List Nat) : ∀ u ∈ u32s l, plain u = true := fun u hu => by
  obtain ⟨x, _, rfl⟩ := List.mem_map.1 hu; rfl
theorem u32s_take (l : List Nat) (k : Nat) : (u32s l).take k = u32s (l.take k) := by simp [u32s, List.map_take]
theorem u32s_append (l m : List Nat) : u32s (l ++ m) = u32s l ++ u32s m := by simp [u32s]
theorem u32s_set (l : List Nat) (k x : Nat) : (u32s l).set k (.int .u32 (x : Int)) = u32s (l.set k x) := by simp [u32s, List.map_set]
theorem u32s_rep (n : Nat) : List.replicate n (Value.int .u32 0) = u32s (List.replicate n 0) := by simp [u32s]

/-- A slice of limbs. -/
def MagAt (h : Heap) (v : Value) (l : List Nat) : Prop := SlAt h v l.length 1 (u32s l) ∧ Bd l
/-- An integer. -/
def IntAt (h : Heap) (v : Value) (z : Int) : Prop := ∃ m, v = .agg ⟨[.bool (decide (z < 0)), m]⟩ ∧ MagAt h m (limbs z.natAbs)

theorem MagAt.mono {h h' : Heap} {v : Value} {l : List Nat} (m : MagAt h v l) [e : Ext h h'] : MagAt h' v l := ⟨m.1.mono, m.2⟩
theorem IntAt.mono {h h' : Heap} {v : Value} {z : Int} (m : IntAt h v z) [e : Ext h h'] : IntAt h' v z := let ⟨x, a, b⟩ := m; ⟨x, a, b.mono⟩
theorem MagAt.nil (h : Heap) : MagAt h (.slice none 0 0) [] := ⟨SlAt.nil h 1, fun _ hx => by cases hx⟩
/-- The slice itself. -/
theorem MagAt.out {h : Heap} {v : Value} {l : List Nat} (m : MagAt h v l) : ∃ p c, v = .slice p l.length c ∧ l.length ≤ c := let ⟨⟨p, c, a, b, _⟩, _⟩ := m; ⟨p, c, a, b⟩
/-- The limb at j. -/
theorem MagAt.limb {h : Heap} {p : Option Addr} {n c : Nat} {l : List Nat} (m : MagAt h (.slice p n c) l) {j : Nat} (hj : j < n) :
    ∃ b o x, p = some ⟨b, o, none⟩ ∧ l[j]? = some x ∧ x < 4294967296 ∧ CellN h b (o + j * 1) [.int .u32 (x : Int)] := by
  obtain ⟨⟨p', c', h1, h2, h3, h4⟩, hb⟩ := m
  cases h1
  rcases h4 with ⟨h0, _⟩ | ⟨b, o, rfl, hc⟩
  · omega
  · have hx : l[j]? = some l[j] := by simp [hj]
    exact ⟨b, o, l[j], rfl, hx, hb.get hx, by simpa using hc.cell (u32s_get hx)⟩
theorem MagAt.take {h : Heap} {p : Option Addr} {c k m : Nat} {l : List Nat} (s : MagAt h (.slice p l.length c) l) (hk : k ≤ l.length) (hm : k ≤ m) : MagAt h (.slice p k m) (l.take k) := by
  have := s.1.take hk hm
  refine ⟨?_, s.2.take k⟩
  rw [Nat.mul_one, u32s_take] at this
  rw [List.length_take, Nat.min_eq_left hk]
  exact this
/-- A block of one's own that is freezed. -/
theorem MagAt.froze {h : Heap} {b : Nat} {l : List Nat} {T : TypeId} (hb : h b = some (row T (u32s l))) (hl : Bd l) {c : Nat} (hc : l.length ≤ c) : MagAt h (.slice (some ⟨b, 0, none⟩) l.length c) l :=
  ⟨⟨_, c, rfl, hc, by rw [u32s_len, Nat.mul_one], .inr ⟨b, 0, rfl, _, T, _, hb, LookN.all _⟩⟩, hl⟩
/-- The parts of an integer. -/
theorem IntAt.out {h : Heap} {v : Value} {z : Int} (m : IntAt h v z) : ∃ p c, v = .agg ⟨[.bool (decide (z < 0)), .slice p (limbs z.natAbs).length c]⟩ ∧ (limbs z.natAbs).length ≤ c ∧ MagAt h (.slice p (limbs z.natAbs).length c) (limbs z.natAbs) := by
  obtain ⟨x, rfl, hm⟩ := m
  obtain ⟨p, c, rfl, hc⟩ := hm.out
  exact ⟨p, c, rfl, hc, hm⟩
theorem IntAt.in {h : Heap} {p : Option Addr} {n c : Nat} {z : Int} (m : MagAt h (.slice p n c) (limbs z.natAbs)) : IntAt h (.agg ⟨[.bool (decide (z < 0)), .slice p n c]⟩) z := ⟨_, rfl, m⟩
/-- A slice of one's own, freezed, is a slice of limbs. -/
theorem MagAt.of {h : Heap} {v : Value} {l : List Nat} {n : Nat} (s : SlAt h v n 1 (u32s l)) (hb : Bd l) : MagAt h v l := by
  obtain rfl : n = l.length := by
    obtain ⟨p, c, _, _, h3, _⟩ := s
    rw [u32s_len, Nat.mul_one] at h3; exact h3.symm
  exact ⟨s, hb⟩
/-- Any integer, canonical or not. -/
def RawAt (h : Heap) (v : Value) (neg : Bool) (l : List Nat) : Prop := ∃ m, v = .agg ⟨[.bool neg, m]⟩ ∧ MagAt h m l
theorem RawAt.mono {h h' : Heap} {v : Value} {neg : Bool} {l : List Nat} (m : RawAt h v neg l) [e : Ext h h'] : RawAt h' v neg l := let ⟨x, a, b⟩ := m; ⟨x, a, b.mono⟩
theorem IntAt.raw {h : Heap} {v : Value} {z : Int} (m : IntAt h v z) : RawAt h v (decide (z < 0)) (limbs z.natAbs) := m
theorem RawAt.out {h : Heap} {v : Value} {neg : Bool} {l : List Nat} (m : RawAt h v neg l) : ∃ p c, v = .agg ⟨[.bool neg, .slice p l.length c]⟩ ∧ l.length ≤ c ∧ MagAt h (.slice p l.length c) l := by
  obtain ⟨x, rfl, hm⟩ := m
  obtain ⟨p, c, rfl, hc⟩ := hm.out
  exact ⟨p, c, rfl, hc, hm⟩
theorem IntAt.mk {h : Heap} {m : Value} {l : List Nat} {neg : Bool} (hm : MagAt h m l) (hl : trim l = l) : IntAt h (.agg ⟨[.bool (neg && decide (l ≠ [])), m]⟩) (if neg then -(val l : Int) else (val l : Int)) := by
  have hv : limbs (val l) = l := by rw [← trim_eq hm.2, hl]
  have h0 : l = [] ↔ val l = 0 := by rw [← hl, trim_nil_iff hm.2, hl]
  have hb : (neg && decide (l ≠ [])) = decide ((if neg then -(val l : Int) else (val l : Int)) < 0) := by
    cases neg
    · simp
    · simp only [Bool.true_and, if_true]
      refine decide_eq_decide.2 ⟨fun h1 => ?_, fun h1 h2 => ?_⟩
      · have h3 : val l ≠ 0 := fun e => h1 (h0.2 e)
        omega
      · have h3 := h0.1 h2
        omega
  rw [hb]
  refine ⟨m, rfl, ?_⟩
  · have : (if neg then -(val l : Int) else (val l : Int)).natAbs = val l := by cases neg <;> simp
    rw [this, hv]; exact hm
theorem MagAt.frozeN {h : Heap} {b : Nat} {l : List Nat} {T : TypeId} (hb : h b = some (row T (u32s l))) (hl : Bd l) {n c : Nat} (hn : l.length = n) (hc : n ≤ c) : MagAt h (.slice (some ⟨b, 0, none⟩) n c) l := by
  subst hn; exact MagAt.froze hb hl hc
theorem flat1 (m : Nat) : (List.replicate m [Value.int .u32 0]).flatten = u32s (List.replicate m 0) := by
  rw [← u32s_rep]
  induction m with
  | zero => rfl
  | succ m ih => simp [List.replicate_succ, ih]
theorem set_own (out : List Nat) (j d : Nat) : (u32s out).set (0 + ((j : Nat) : Int).toNat * 1) (.int .u32 (d : Int)) = u32s (out.set j d) := by
  show (u32s out).set (0 + j * 1) _ = _
  rw [Nat.mul_one, Nat.zero_add, u32s_set]
theorem get_own {out : List Nat} {j o : Nat} (h : out[j]? = some o) : (u32s out)[0 + ((j : Nat) : Int).toNat * 1]? = some (.int .u32 (o : Int)) := by
  show (u32s out)[0 + j * 1]? = _
  rw [Nat.mul_one, Nat.zero_add]; exact u32s_get h
theorem len_own (out : List Nat) (j : Nat) (h : j < out.length) : 0 + ((j : Nat) : Int).toNat * 1 < (u32s out).length := by
  show 0 + j * 1 < _
  rw [u32s_len]; omega
theorem has_limb {out : List Nat} (hb : Bd out) {j : Nat} (h : j < out.length) : ∃ o, out[j]? = some o ∧ o < 4294967296 := ⟨out[j], by simp [h], hb _ (List.getElem_mem h)⟩
/-- Of at most a million limbs. -/
def Fit (z : Int) : Prop := (limbs z.natAbs).length ≤ 1000000
theorem fitk (k : Nat) {z : Int} (h : z.natAbs < Bs ^ k) (hk : k ≤ 1000000) : Fit z := Nat.le_trans (limbs_len.2 h) hk
theorem fit64 {z : Int} (h : z.natAbs < 18446744073709551616) : Fit z := fitk 2 h (by decide)
theorem bd_abs (z : Int) : Bd (limbs z.natAbs) := bd_limbs _
theorem same3 (x y : Int) : (decide (x < 0) == decide (y < 0)) = false ∨ ((decide (x < 0) == decide (y < 0)) = true ∧ decide (x.natAbs < y.natAbs) = true) ∨ ((decide (x < 0) == decide (y < 0)) = true ∧ decide (x.natAbs < y.natAbs) = false) := by
  cases (decide (x < 0) == decide (y < 0)) <;> cases decide (x.natAbs < y.natAbs) <;> simp
theorem sign_eq {x y : Int} (h : (decide (x < 0) == decide (y < 0)) = true) : (x < 0 ↔ y < 0) := by simpa using h
theorem sign_ne {x y : Int} (h : (decide (x < 0) == decide (y < 0)) = false) : ¬ (x < 0 ↔ y < 0) := by simpa using h
end Go.Z
end
section
set_option linter.unusedSimpArgs false
set_option linter.unusedVariables false
/- The calculus beneath the proofs: functions as values, calls that may write the caller's own blocks, ranges over functions. No program is named here. -/
set_option linter.unusedSimpArgs false
set_option linter.unusedVariables false
namespace Go.Z
open Go Go.RowKit

variable {C : Cfg} {Q Q' : Post} {ds : List Deferred} {ρ : Env} {h : Heap} {L : Own} {ops : Array Oper} {rest : List Oper}
variable {d : Nat} {ty : TypeId} {pos : String} {after : Array Edge} {S : World → Prop}

theorem q_mf {f : Go.Fn} {fs cs : List Operand} : Qr C ρ S (.makeFunc f ⟨fs⟩ ⟨cs⟩) ty (.func f ⟨fs.map ρ.ev⟩ ⟨cs.map ρ.ev⟩) := ⟨rfl, fun w _ => by
  simp [execOp, Instr.makeFunc, Sem.run, bind, Sem.bind, pure]⟩

/-! ### A call that may write the caller's own blocks -/
def FnIn (C : Cfg) (f : FuncId) (args : Array Value) (h : Heap) (L : Own) (R : Value → Heap → Own → Prop) : Prop :=
  ∀ w, St C.w0 C.h0 h L w → Calls C.P f args w fun e w' => ∃ v h' L', e = .returned v ∧ Ext h h' ∧ St C.w0 C.h0 h' L' w' ∧ R v h' L'
structure retQL (C : Cfg) (fn : Func) (h0 : Heap) (R : Value → Heap → Own → Prop) (e : Exit) (ds : List Deferred) (ρ : Env) (h : Heap) (L : Own) : Prop where
  ok : (e = .normal ∨ e = .ret) ∧ ds = [] ∧ Ext h0 h ∧ ∃ v, RetR C fn ρ h L v ∧ ∃ L2, (∃ rest, L.Perm (L2 ++ rest)) ∧ R v h L2
theorem ret_okL {fn : Func} {rs : List ResultVar} {vs : List Value} {h0 : Heap} {R : Value → Heap → Own → Prop} {e : Exit} (hr : fn.results = ⟨rs⟩) [hx : Ext h0 h] (r : ResV C.P ρ L rs vs) (hR : R (pack vs) h L) (he : e = .normal ∨ e = .ret := by first | exact Or.inr rfl | exact Or.inl rfl) :
    retQL C fn h0 R e [] ρ h L := ⟨⟨he, rfl, hx, _, RetR.of hr r, L, ⟨[], by simp⟩, hR⟩⟩
theorem argAg {n : Nat} {args : List Value} {k : Nat} (hn : k = n) (hl : args.length ≤ n) : Ag n [] { tmps := args.toArray ++ Array.replicate (k - args.toArray.size) undef, defers := [] } (argEnv args) := by
  refine ⟨?_, rfl, fun t => ?_⟩
  · simp [hn]; omega
  · simp only [argEnv, List.getD_eq_getElem?_getD]
    rcases Nat.lt_or_ge t args.length with ht | ht
    · simp [Array.getElem?_append, ht]
    · by_cases h2 : t - args.length < k - args.length
      · simp [Array.getElem?_append, Nat.not_lt.2 ht, List.getElem?_eq_none ht, h2]
      · simp [Array.getElem?_append, Nat.not_lt.2 ht, List.getElem?_eq_none ht, h2]
theorem FnIn.intro {f : FuncId} {fn : Func} {c : Code} {args : List Value} {R : Value → Heap → Own → Prop} {n : Nat} (hf : C.P.funcs[f]? = some fn) (hb : fn.body = some c) (hn : fn.ntmps = n) (hl : args.length ≤ n)
    (hj : J ⟨C.P, none, n, C.w0, C.h0⟩ c (retQL ⟨C.P, none, n, C.w0, C.h0⟩ fn h R) [] (argEnv args) h L) : FnIn C f args.toArray h L R := by
  intro w hw
  refine (callsIn_wide (n := 0)).1 (callsIn_of_wp hf hb trivial (wpIn_mono (hj _ w (argAg hn hl) hw) ?_))
  rintro e a' w' ⟨ds, ρ, h', L', h1, h2, ⟨he, rfl, hx, v, hv, L2, ⟨rest, hp⟩, hR⟩⟩
  have hres := hv a' w' _ h1 h2
  have post : a'.defers = [] ∧ ∃ v, (results fn a'.tmps).run C.P w' = .ok v w' ∧ ∃ v1 h' L', Ending.returned v = .returned v1 ∧ Ext h h' ∧ St C.w0 C.h0 h' L' w' ∧ R v1 h' L' :=
    ⟨h1.defers, v, hres, v, h', L2, rfl, hx, (h2.perm hp).sub (List.sublist_append_left _ _), hR⟩
  rcases he with rfl | rfl
  · exact post
  · exact post
theorem run_call_val {P : Program} {f : FuncId} {w : World} {ρ : Operand → Value} {x : Operand} {xs : List Operand} {ts : Array TypeId} {ty : TypeId} {fs cap : List Value} [he : Ent P f] (hx : ρ x = .func (.func f) ⟨fs⟩ ⟨cap⟩) :
    (do let d ← resolve ρ { callee := .value x, args := ⟨xs⟩, argTypes := ts } ty; invoke d.target d.args : Sem Next).run P w = .ok (.enter f (List.toArray (fs ++ xs.map ρ ++ cap))) w := by
  simp [resolve, Deferred.ofValue, hx, invoke, Sem.run_bind, Result.andThen, Sem.run, pure]
  have := he.e (List.toArray (fs ++ xs.map ρ ++ cap)) w
  simpa [Sem.run] using this
section calls
variable {f : FuncId}
/-- A call of a function value. -/
theorem o_callv {R : Value → Heap → Prop} {x : Operand} {xs : List Operand} {ts : Array TypeId} {fs cap : List Value} [he : Ent C.P f] (hx : ρ.ev x = .func (.func f) ⟨fs⟩ ⟨cap⟩) (hf : Fn C.P f (List.toArray (fs ++ xs.map ρ.ev ++ cap)) h R)
    (k : ∀ v h', Step h h' → R v h' → JL C ops Q rest ds (ρ.set d v) h' L) (hn : Nat.blt d C.n = true := by rfl) :
    JL C ops Q (⟨some d, .call { callee := .value x, args := ⟨xs⟩, argTypes := ts }, ty, pos, after, none⟩ :: rest) ds ρ h L :=
  JL.enter rfl rfl rfl hn (fun w _ => by simpa [execOp] using run_call_val (P := C.P) (w := w) (ts := ts) (ty := ty) (xs := xs) hx) fun w hs => (hf.use hs).mono fun e w' ⟨v, h', a, b, c, r⟩ => ⟨v, h', L, a, c, k v h' b r⟩
/-- A call that may write the caller's own blocks. -/
theorem o_calll {R : Value → Heap → Own → Prop} {xs : List Operand} {ts : Array TypeId} [he : Ent C.P f] (hf : FnIn C f (List.toArray (xs.map ρ.ev)) h L R)
    (k : ∀ v h' L', Step h h' → R v h' L' → JL C ops Q rest ds (ρ.set d v) h' L') (hn : Nat.blt d C.n = true := by rfl) :
    JL C ops Q (⟨some d, .call { callee := .value (.func f), args := ⟨xs⟩, argTypes := ts }, ty, pos, after, none⟩ :: rest) ds ρ h L :=
  JL.enter rfl rfl rfl hn (fun w _ => by
      have := run_call_val (P := C.P) (f := f) (w := w) (ρ := ρ.ev) (x := .func f) (xs := xs) (ts := ts) (ty := ty) (fs := []) (cap := []) rfl
      simpa [execOp] using this) fun w hs => (hf w hs).mono fun e w' ⟨v, h', L', a, b, c, r⟩ => ⟨v, h', L', a, c, k v h' L' b.toStep r⟩
end calls

/-! ### A range over a function -/
/-- A loop's record. -/
def recO (fn : FuncId) (tm : Array Value) (ps : Array Tmp) (assign body : Code) (D : Nat) (st : LoopState) : Obj :=
  .loop { state := st, pending := none, fn, tmps := tm, params := ps, assign, body, defers := D }
/-- The temporaries read as ρ. -/
def TmOf (n : Nat) (ρ : Env) (tm : Array Value) : Prop := tm.size = n ∧ ∀ t, tm.getD t undef = ρ t

theorem AtS.heap1 {L : Own} {b : Nat} {o : Obj} {f : Own → Own} (a : AtS L [(b, o)] f) {w0 w : World} {h0 h : Heap} (s : St w0 h0 h L w) : w.heap[b]? = some o := by
  obtain ⟨L1, L2, rfl, _⟩ := a.e
  exact (s.own (b, o) (by simp)).2.1
theorem putObj_rest (w : World) (b : Nat) (o : Obj) : (w.putObj b o).os = w.os ∧ (w.putObj b o).tape = w.tape ∧ (w.putObj b o).output = w.output ∧ (w.putObj b o).heap.size = w.heap.size := ⟨rfl, rfl, rfl, by simp⟩
theorem AtS.gone {L : Own} {b : Nat} {o o' : Obj} {f : Own → Own} (a : AtS L [(b, o)] f) {w0 w : World} {h0 h : Heap} (s : St w0 h0 h L w) : St w0 h0 h (f []) (w.putObj b o') := by
  obtain ⟨L1, L2, rfl, hf⟩ := a.e
  rw [hf]
  have hb : b < w.heap.size := (Array.getElem?_eq_some_iff.1 ((s.own (b, o) (by simp)).2.1)).1
  have h1 : St w0 h0 h (L1 ++ (b, o') :: L2) (w.putObj b o') := s.upd (o := o) rfl rfl rfl (by simp) (World.putObj_heap_same hb) fun k hk => World.putObj_heap_other hk
  refine h1.sub ?_
  exact List.Sublist.append (List.Sublist.refl _) (List.Sublist.cons _ (List.Sublist.refl _))
theorem At.put {L : Own} {b : Nat} {o o' : Obj} {f : Obj → Own} (a : At L b o f) {w0 w : World} {h0 h : Heap} (s : St w0 h0 h L w) : St w0 h0 h (f o') (w.putObj b o') := by
  have hb : b < w.heap.size := (Array.getElem?_eq_some_iff.1 (a.heap s)).1
  exact a.upd s rfl rfl rfl (by simp) (World.putObj_heap_same hb) fun k hk => World.putObj_heap_other hk

theorem J.rangeFunc {g : Operand} {ps : Array Tmp} {assign body : Code} {gf : FuncId} {cap : List Value} (hr : C.r = none) (hg : ρ.ev g = .func (.func gf) #[] ⟨cap⟩) [he : Ent C.P gf]
    (k : ∀ (fn : FuncId) (tm : Array Value) (l D : Nat) (OB : LoopState → Obj), (∀ st, OB st = recO fn tm ps assign body D st) → TmOf C.n ρ tm → FnIn C gf (List.toArray (.func (.yield l) #[] #[] :: cap)) h ((l, OB .ready) :: (D, .deferred (some [])) :: L)
      (fun _ h' L' => ∃ f1, ∃ _ : AtS L' [(l, OB .ready)] f1, Q .normal ({ target := .collected D, args := #[] } :: ds) ρ h' (f1 []))) :
    J C (.rangeFunc g ps assign body) Q ds ρ h L := fun a w ha hs => by
  have hro : (fen C.r).round = none := hr
  refine wpIn_rangeFunc fun fn _ => ?_
  have hs1 : St C.w0 C.h0 h ((w.heap.size + 1, recO fn a.tmps ps assign body w.heap.size .ready) :: (w.heap.size, .deferred (some [])) :: L) ((w.alloc (.deferred (some []))).alloc (recO fn a.tmps ps assign body w.heap.size .ready)) := by
    have := (hs.alloc (.deferred (some []))).alloc (recO fn a.tmps ps assign body w.heap.size .ready)
    rwa [World.size_alloc] at this
  have hk := k fn a.tmps (w.heap.size + 1) w.heap.size (recO fn a.tmps ps assign body w.heap.size) (fun _ => rfl) ⟨ha.size, ha.get⟩ _ hs1
  obtain ⟨W, hW⟩ : ∃ W, (w.alloc (.deferred (some []))).alloc (recO fn a.tmps ps assign body w.heap.size .ready) = W := ⟨_, rfl⟩
  rw [hW] at hk
  have hev : a.eval g = .func (.func gf) #[] ⟨cap⟩ := by rw [ha.eval]; exact hg
  refine ⟨w.heap.size + 1, [{ target := .collected w.heap.size, args := #[] }], W, { target := .fn (.func gf) ⟨cap⟩, args := #[.func (.yield (w.heap.size + 1)) #[] #[]] }, W, gf, List.toArray (.func (.yield (w.heap.size + 1)) #[] #[] :: cap), W, ?_, ?_, ?_, ?_, fun hx => (by simp [fen] at hx), ?_⟩
  · rw [hro, ← hW]; exact run_enterLoop_outer _ _ _ _ _
  · simp only [resolve, hev]
    simp [go_sem]
  · intro f' hf'; simp [fen]
  · have := he.e (List.toArray (.func (.yield (w.heap.size + 1)) #[] #[] :: cap)) W
    simpa [invoke, go_sem] using this
  · have hw : fen C.r = Fence.wide := by rw [hr]; rfl
    rw [hw]
    refine callsIn_wide.2 (hk.mono ?_)
    rintro e w' ⟨v, h', L', rfl, hx, hst, f1, hat, hq⟩
    refine ⟨none, _, run_endLoop (hat.heap1 hst) (by simp), ?_⟩
    exact ⟨_, ρ, h', f1 [], ⟨ha.size, by simp [ha.defers], ha.get⟩, hat.gone hst, hq⟩

/-- A round's temporaries: the parameters are set. -/
def setZip (ρ : Env) : List Nat → List Value → Env
  | p :: ps, v :: vs => setZip (ρ.set p v) ps vs
  | _, _ => ρ
theorem zip_ag {n : Nat} {ρ : Env} : ∀ (ps : List Nat) (vs : List Value) (tm : Array Value), TmOf n ρ tm → (ps.all fun p => Nat.blt p n) = true → Ag n [] { tmps := (ps.zip vs).foldl (fun t (p : Nat × Value) => t.setIfInBounds p.1 p.2) tm, defers := [] } (setZip ρ ps vs)
  | [], vs, tm, h, _ => ⟨h.1, rfl, h.2⟩
  | p :: ps, [], tm, h, _ => ⟨h.1, rfl, h.2⟩
  | p :: ps, v :: vs, tm, h, hp => by
    simp only [List.all_cons, Bool.and_eq_true] at hp
    have h1 : Ag n [] { tmps := tm, defers := [] } ρ := ⟨h.1, rfl, h.2⟩
    have h2 := h1.put hp.1 v
    exact zip_ag ps vs (tm.setIfInBounds p v) ⟨h2.size, h2.get⟩ hp.2

theorem o_yield {x : Operand} {xs : List Operand} {ts : Array TypeId} {l fn D n' : Nat} {tm : Array Value} {pl : List Nat} {assign body : Code} {f : Obj → Own} {ρ0 : Env} (hx : ρ.ev x = .func (.yield l) #[] #[]) {OB : LoopState → Obj} (hOB : ∀ st, OB st = recO fn tm ⟨pl⟩ assign body D st) (htm : TmOf n' ρ0 tm)
    (a : At L l (OB .ready) f) (hlen : xs.length = pl.length) (hp : (pl.all fun p => Nat.blt p n') = true)
    (k : J ⟨C.P, some l, n', C.w0, C.h0⟩ assign (fun e ds1 ρ1 h1 L1 => e = .normal ∧ ∃ f1, ∃ _ : At L1 l (OB .ready) f1,
      J ⟨C.P, some l, n', C.w0, C.h0⟩ body (fun e2 ds2 ρ2 h2 L2 => e2 = .normal ∧ ∃ f2, ∃ _ : At L2 l (OB .busy) f2, JL C ops Q rest ds (ρ.set d (.bool true)) h2 (f2 (OB .ready))) ds1 ρ1 h1 (f1 (OB .busy)))
      [] (setZip ρ0 pl (xs.map ρ.ev)) h L) (hn : Nat.blt d C.n = true := by rfl) :
    JL C ops Q (⟨some d, .call { callee := .value x, args := ⟨xs⟩, argTypes := ts }, ty, pos, after, none⟩ :: rest) ds ρ h L := by
  obtain rfl : OB = recO fn tm ⟨pl⟩ assign body D := funext hOB
  refine JL.step rfl rfl fun act w ha hs => ?_
  have hy := run_yield (P := C.P) (args := (List.toArray (xs.map ρ.ev))) (a.heap hs) (by simp [hlen])
  have hrun : (execOp ρ.ev ⟨some d, .call { callee := .value x, args := ⟨xs⟩, argTypes := ts }, ty, pos, after, none⟩).run C.P w =
      .ok (.round l fn (((⟨pl⟩ : Array Tmp).zip (List.toArray (xs.map ρ.ev))).foldl (fun tmps (t, a) => tmps.setIfInBounds t a) tm) assign body) w := by
    simp only [execOp, resolve, hx, Deferred.ofValue, Sem.run_bind, Sem.run_pure, Result.andThen, invoke]
    simpa [recO] using hy
  rw [hrun, Oper.uponIn_round]
  refine ⟨fun hx => (by simp [fen] at hx), ?_⟩
  have hz : ((⟨pl⟩ : Array Tmp).zip (List.toArray (xs.map ρ.ev))).foldl (fun tmps (t, a) => tmps.setIfInBounds t a) tm = (pl.zip (xs.map ρ.ev)).foldl (fun t (p : Nat × Value) => t.setIfInBounds p.1 p.2) tm := by
    rw [← Array.foldl_toList]; simp
  rw [hz]
  refine roundIn_of_wpIn trivial ?_
  have hk := k _ w (zip_ag pl (xs.map ρ.ev) tm htm hp) hs
  refine wpIn_mono hk ?_
  rintro e a1 w1 ⟨ds1, ρ1, h1, L1, ag1, st1, rfl, f1, at1, kb⟩
  refine ⟨_, run_beginRound (at1.heap st1) rfl, ?_⟩
  refine wpIn_mono (kb a1 _ ag1 (at1.put st1)) ?_
  rintro e a2 w2 ⟨ds2, ρ2, h2, L2, ag2, st2, rfl, f2, at2, kr⟩
  refine ⟨_, _, run_endRound none (at2.heap st2), ?_⟩
  exact kr _ _ (ha.put hn (.bool true)) (at2.put st2)

/-! ### A function that holds such a loop -/
structure retQM (C : Cfg) (fn : Func) (R : Value → Heap → Prop) (e : Exit) (ds : List Deferred) (ρ : Env) (h : Heap) (L : Own) : Prop where
  ok : (e = .normal ∨ e = .ret) ∧ ∃ D f, ds = [{ target := .collected D, args := #[] }] ∧ At L D (.deferred (some [])) f ∧ ∃ v, RetR C fn ρ h (f (.deferred none)) v ∧ R v h
theorem ret_okM {fn : Func} {rs : List ResultVar} {vs : List Value} {R : Value → Heap → Prop} {e : Exit} {D : Nat} {f : Obj → Own} (hr : fn.results = ⟨rs⟩) [a : At L D (.deferred (some [])) f] (r : ResV C.P ρ (f (.deferred none)) rs vs) (hR : R (pack vs) h) (he : e = .normal ∨ e = .ret := by first | exact Or.inr rfl | exact Or.inl rfl) :
    retQM C fn R e [{ target := .collected D, args := #[] }] ρ h L := ⟨⟨he, D, f, rfl, a, _, RetR.of hr r, hR⟩⟩
theorem Fn.introM {P : Program} {f : FuncId} {fn : Func} {c : Code} {args : List Value} {h : Heap} {R : Value → Heap → Prop} {n : Nat} (hf : P.funcs[f]? = some fn) (hb : fn.body = some c)
    (hn : fn.ntmps = n) (hl : args.length ≤ n)
    (hj : ∀ w, J ⟨P, none, n, w, h⟩ c (retQM ⟨P, none, n, w, h⟩ fn R) [] (argEnv args) h []) : Fn P f args.toArray h R := by
  intro w hw
  refine (callsIn_wide (n := 0)).1 (callsIn_of_wp_marks hf hb trivial (wpIn_mono (hj w _ w (argAg hn hl) ⟨Below.refl _ _, fun _ _ x => x, fun _ _ => rfl, hw, fun _ hp => (by cases hp), by simp⟩) ?_))
  rintro e a' w' ⟨ds, ρ, h', L', h1, h2, ⟨he, D, g, rfl, at1, v, hv, hR⟩⟩
  have st3 : St w h h' (g (.deferred none)) (w'.putObj D (.deferred none)) := at1.put h2
  have htk := run_takeDeferred (P := P) (at1.heap h2)
  have post : LeavesInM Fence.wide 0 P fn a'.tmps (fun e w' => ∃ v h', e = .returned v ∧ Below w.heap.size w w' ∧ Ext h h' ∧ (∀ b, b < w.heap.size → h' b = h b) ∧ (∀ b o, h' b = some o → w'.heap[b]? = some o) ∧ R v h') a'.defers .returning w' := by
    rw [h1.defers]
    refine ⟨by simp, .inl ⟨D, _, rfl, htk, ?_⟩⟩
    have hres := hv { a' with defers := [] } _ [] ⟨h1.size, rfl, h1.get⟩ st3
    exact ⟨v, hres, v, h', rfl, st3.below, ⟨st3.ge⟩, st3.old, st3.fro, hR⟩
  rcases he with rfl | rfl
  · exact post
  · exact post
/-- A store of a struct or array within a variable. -/
theorem o_sta {x y : Operand} {T T' : TypeId} {b o n : Nat} {l vs : List Value} {f : Obj → Own} [hs : Sz C.P T n] (hx : ρ.ev x = .pointer (some ⟨b, o, none⟩)) (hy : ρ.ev y = .agg ⟨vs⟩) (hpl' : vs.all plain = true)
    (a : At L b (row T' l) f) (hv : vs.length = n) (hlen : o + n ≤ l.length) (k : JL C ops Q rest ds ρ h (f (row T' (setN l o vs)))) :
    JL C ops Q (⟨none, .store T x y, ty, pos, after, none⟩ :: rest) ds ρ h L := by
  subst hv
  exact o_st hs.i hx hy rfl (List.all_eq_true.1 hpl') a hlen k
end Go.Z
end
section
set_option linter.unusedSimpArgs false
set_option linter.unusedVariables false
/- How rows, vectors and matrices read: slices of elements of several cells in frozen memory. -/
set_option linter.unusedSimpArgs false
set_option linter.unusedVariables false
namespace Go.Z
open Go Go.RowKit

/-- Elements of sz cells each, laid one behind the other. -/
def Cells {α : Type} (R : Heap → List Value → α → Prop) (sz : Nat) (h : Heap) (cs : List Value) (l : List α) : Prop :=
  cs.length = l.length * sz ∧ ∀ i a, l[i]? = some a → R h ((cs.drop (i * sz)).take sz) a
/-- A slice of such elements. -/
def Sls {α : Type} (R : Heap → List Value → α → Prop) (sz : Nat) (h : Heap) (v : Value) (l : List α) : Prop :=
  ∃ cs, SlAt h v l.length sz cs ∧ Cells R sz h cs l
class Mo {α : Type} (R : Heap → List Value → α → Prop) : Prop where m : ∀ {h h' : Heap} {cs : List Value} {a : α}, Ext h h' → R h cs a → R h' cs a
class Pl {α : Type} (R : Heap → List Value → α → Prop) : Prop where p : ∀ {h : Heap} {cs : List Value} {a : α}, R h cs a → ∀ u ∈ cs, plain u = true
theorem Cells.mono {α : Type} {R : Heap → List Value → α → Prop} [mo : Mo R] {sz : Nat} {h h' : Heap} {cs : List Value} {l : List α} (c : Cells R sz h cs l) [e : Ext h h'] : Cells R sz h' cs l :=
  ⟨c.1, fun i a hi => mo.m e (c.2 i a hi)⟩
theorem Sls.mono {α : Type} {R : Heap → List Value → α → Prop} [mo : Mo R] {sz : Nat} {h h' : Heap} {v : Value} {l : List α} (c : Sls R sz h v l) [e : Ext h h'] : Sls R sz h' v l :=
  let ⟨cs, a, b⟩ := c; ⟨cs, a.mono, b.mono⟩
theorem Cells.nil {α : Type} {R : Heap → List Value → α → Prop} {sz : Nat} {h : Heap} : Cells R sz h [] [] := ⟨by simp, fun i a hi => by simp at hi⟩
theorem Cells.snoc {α : Type} {R : Heap → List Value → α → Prop} {sz : Nat} {h : Heap} {cs us : List Value} {l : List α} {a : α} (c : Cells R sz h cs l) (hu : us.length = sz) (ha : R h us a) : Cells R sz h (cs ++ us) (l ++ [a]) := by
  refine ⟨by simp [c.1, hu, Nat.add_mul], fun i x hi => ?_⟩
  rcases Nat.lt_or_ge i l.length with h1 | h1
  · rw [List.getElem?_append_left h1] at hi
    have := c.2 i x hi
    have h2 : i * sz + sz ≤ cs.length := by rw [c.1, ← Nat.succ_mul]; exact Nat.mul_le_mul_right _ h1
    rw [List.drop_append_of_le_length (by omega), List.take_append_of_le_length (by rw [List.length_drop]; omega)]
    exact this
  · rw [List.getElem?_append_right h1] at hi
    have h3 : i = l.length := by
      rcases Nat.lt_or_ge (i - l.length) 1 with h4 | h4
      · omega
      · rw [List.getElem?_eq_none (by simpa using h4)] at hi; cases hi
    subst h3
    simp at hi; subst hi
    rw [← c.1, List.drop_left, List.take_of_length_le (by omega)]
    exact ha
theorem Sls.of {α : Type} {R : Heap → List Value → α → Prop} {sz : Nat} {h : Heap} {v : Value} {l : List α} {n : Nat} {cs : List Value} (s : SlAt h v n sz cs) (c : Cells R sz h cs l) (hn : n = l.length) : Sls R sz h v l := by
  subst hn; exact ⟨cs, s, c⟩
theorem Sls.nil {α : Type} {R : Heap → List Value → α → Prop} {sz : Nat} (h : Heap) : Sls R sz h (.slice none 0 0) [] := ⟨[], SlAt.nil h sz, Cells.nil⟩
theorem Sls.out {α : Type} {R : Heap → List Value → α → Prop} {sz : Nat} {h : Heap} {v : Value} {l : List α} (s : Sls R sz h v l) : ∃ p c, v = .slice p l.length c ∧ l.length ≤ c := by
  obtain ⟨cs, ⟨p, c, rfl, h1, _⟩, _⟩ := s; exact ⟨p, c, rfl, h1⟩
theorem Sls.get {α : Type} {R : Heap → List Value → α → Prop} {sz : Nat} {h : Heap} {p : Option Addr} {n c : Nat} {l : List α} (s : Sls R sz h (.slice p n c) l) {i : Nat} {a : α} (hi : l[i]? = some a) :
    ∃ b o us, p = some ⟨b, o, none⟩ ∧ CellN h b (o + i * sz) us ∧ R h us a ∧ us.length = sz := by
  obtain ⟨cs, h1, h2⟩ := s
  have hlt : i < l.length := (List.getElem?_eq_some_iff.1 hi).1
  have hn : n = l.length := by obtain ⟨p', c', e, _⟩ := h1; cases e; rfl
  subst hn
  obtain ⟨b, o, rfl, hc⟩ := h1.elem hlt
  refine ⟨b, o, _, rfl, hc, h2.2 i a hi, ?_⟩
  rw [List.length_take, List.length_drop, h2.1]
  have : i * sz + sz ≤ l.length * sz := by rw [← Nat.succ_mul]; exact Nat.mul_le_mul_right _ hlt
  omega
/-- The cells of the whole, to be copied. -/
theorem Sls.cells {α : Type} {R : Heap → List Value → α → Prop} {sz : Nat} {h : Heap} {v : Value} {l : List α} (s : Sls R sz h v l) : ∃ cs, SlAt h v l.length sz cs ∧ Cells R sz h cs l := s

/-- A term: column, sign, limbs; canonical or not. -/
abbrev RT := Int × Bool × List Nat
def TermR (h : Heap) (cs : List Value) (t : RT) : Prop := ∃ p c, cs = [.int .i64 t.1, .bool t.2.1, .slice p t.2.2.length c] ∧ t.2.2.length ≤ c ∧ MagAt h (.slice p t.2.2.length c) t.2.2
def IntR (h : Heap) (cs : List Value) (z : Int) : Prop := ∃ p c, cs = [.bool (decide (z < 0)), .slice p (limbs z.natAbs).length c] ∧ (limbs z.natAbs).length ≤ c ∧ MagAt h (.slice p (limbs z.natAbs).length c) (limbs z.natAbs)
def One {α : Type} (P : Heap → Value → α → Prop) (h : Heap) (cs : List Value) (a : α) : Prop := ∃ p n c, cs = [.slice p n c] ∧ P h (.slice p n c) a
abbrev RowAt := Sls TermR 3
abbrev VecAt := Sls IntR 2
abbrev RowsAt := Sls (One RowAt) 1
abbrev VecsAt := Sls (One VecAt) 1
instance : Mo TermR := ⟨fun e ⟨p, c, a, b, d⟩ => ⟨p, c, a, b, d.mono (e := e)⟩⟩
instance : Mo IntR := ⟨fun e ⟨p, c, a, b, d⟩ => ⟨p, c, a, b, d.mono (e := e)⟩⟩
instance {α : Type} {R : Heap → List Value → α → Prop} {sz : Nat} [mo : Mo R] : Mo (One (Sls R sz)) := ⟨fun e ⟨p, n, c, a, b⟩ => ⟨p, n, c, a, b.mono (e := e)⟩⟩
instance : Pl TermR := ⟨fun ⟨p, c, a, b, d⟩ u hu => by subst a; simp at hu; rcases hu with rfl | rfl | rfl <;> rfl⟩
instance : Pl IntR := ⟨fun ⟨p, c, a, b, d⟩ u hu => by subst a; simp at hu; rcases hu with rfl | rfl <;> rfl⟩
instance {α : Type} {P : Heap → Value → α → Prop} : Pl (One P) := ⟨fun ⟨p, n, c, a, b⟩ u hu => by subst a; simp at hu; subst hu; rfl⟩

/-- The parts of a term of a row. -/
theorem Sls.term {h : Heap} {p : Option Addr} {n c : Nat} {l : List RT} (s : RowAt h (.slice p n c) l) {i : Nat} {t : RT} (hi : l[i]? = some t) :
    ∃ b o q k, p = some ⟨b, o, none⟩ ∧ CellN h b (o + i * 3 + 0) [.int .i64 t.1] ∧ CellN h b (o + i * 3 + 1) [.bool t.2.1, .slice q t.2.2.length k] ∧ CellN h b (o + i * 3) [.int .i64 t.1, .bool t.2.1, .slice q t.2.2.length k] ∧
      t.2.2.length ≤ k ∧ MagAt h (.slice q t.2.2.length k) t.2.2 := by
  obtain ⟨b, o, us, rfl, hc, ⟨q, k, rfl, hk, hm⟩, _⟩ := s.get hi
  exact ⟨b, o, q, k, rfl, hc.cell (j := 0) rfl, hc.part (j := 1) (fun i v hv => by
    match i, hv with
    | 0, hv => simpa using hv
    | 1, hv => simpa using hv
    | n + 2, hv => simp at hv), hc, hk, hm⟩
theorem Sls.int {h : Heap} {p : Option Addr} {n c : Nat} {l : List Int} (s : VecAt h (.slice p n c) l) {i : Nat} {z : Int} (hi : l[i]? = some z) :
    ∃ b o q k, p = some ⟨b, o, none⟩ ∧ CellN h b (o + i * 2) [.bool (decide (z < 0)), .slice q (limbs z.natAbs).length k] ∧ (limbs z.natAbs).length ≤ k ∧ MagAt h (.slice q (limbs z.natAbs).length k) (limbs z.natAbs) := by
  obtain ⟨b, o, us, rfl, hc, ⟨q, k, rfl, hk, hm⟩, _⟩ := s.get hi
  exact ⟨b, o, q, k, rfl, hc, hk, hm⟩
theorem Sls.row {α : Type} {P : Heap → Value → List α → Prop} {h : Heap} {p : Option Addr} {n c : Nat} {l : List (List α)} (s : Sls (One P) 1 h (.slice p n c) l) {i : Nat} {r : List α} (hi : l[i]? = some r) :
    ∃ b o q m k, p = some ⟨b, o, none⟩ ∧ CellN h b (o + i * 1) [.slice q m k] ∧ P h (.slice q m k) r := by
  obtain ⟨b, o, us, rfl, hc, ⟨q, m, k, rfl, hm⟩, _⟩ := s.get hi
  exact ⟨b, o, q, m, k, rfl, hc, hm⟩
theorem lt_get {α : Type} {l : List α} {i : Nat} (h : i < l.length) : ∃ a, l[i]? = some a := ⟨l[i], by simp [h]⟩
/-- A matrix of rows. -/
def SparseAt (h : Heap) (v : Value) (rows cols : Int) (L : List (List RT)) : Prop := ∃ p c, v = .agg ⟨[.int .i64 rows, .int .i64 cols, .slice p L.length c]⟩ ∧ RowsAt h (.slice p L.length c) L
def MatAt (h : Heap) (v : Value) (rows cols : Int) (A : List (List Int)) : Prop := ∃ p c, v = .agg ⟨[.int .i64 rows, .int .i64 cols, .slice p A.length c]⟩ ∧ VecsAt h (.slice p A.length c) A
theorem SparseAt.mono {h h' : Heap} {v : Value} {r c : Int} {L : List (List RT)} (s : SparseAt h v r c L) [e : Ext h h'] : SparseAt h' v r c L := let ⟨p, k, a, b⟩ := s; ⟨p, k, a, b.mono⟩
theorem MatAt.mono {h h' : Heap} {v : Value} {r c : Int} {L : List (List Int)} (s : MatAt h v r c L) [e : Ext h h'] : MatAt h' v r c L := let ⟨p, k, a, b⟩ := s; ⟨p, k, a, b.mono⟩
/-- A canonical term. -/
def tm (t : Int × Int) : RT := (t.1, decide (t.2 < 0), limbs t.2.natAbs)
def TermAt (h : Heap) (v : Value) (t : Int × Int) : Prop := ∃ p c, v = .agg ⟨[.int .i64 t.1, .bool (decide (t.2 < 0)), .slice p (limbs t.2.natAbs).length c]⟩ ∧ MagAt h (.slice p (limbs t.2.natAbs).length c) (limbs t.2.natAbs)
theorem Sls.drop {α : Type} {R : Heap → List Value → α → Prop} {sz : Nat} {h : Heap} {p : Option Addr} {n c k : Nat} {l : List α} (s : Sls R sz h (.slice p n c) l) (hk : k ≤ l.length) :
    Sls R sz h (.slice (if c = k then p else p.map (·.add (k * sz))) (n - k) (c - k)) (l.drop k) := by
  obtain ⟨cs, h1, h2⟩ := s
  have hn : n = l.length := by obtain ⟨p', c', e, _⟩ := h1; cases e; rfl
  subst hn
  refine ⟨cs.drop (k * sz), by rw [List.length_drop]; exact h1.drop hk, by rw [List.length_drop, List.length_drop, h2.1, Nat.sub_mul], fun i a hi => ?_⟩
  rw [List.getElem?_drop] at hi
  have := h2.2 _ _ hi
  rw [List.drop_drop, ← Nat.add_mul]; exact this
theorem IntAt.zero (h : Heap) : IntAt h (.agg ⟨[.bool false, .slice none 0 0]⟩) 0 := ⟨_, rfl, by
  have : limbs (0 : Int).natAbs = [] := limbs_zero
  rw [this]; exact MagAt.nil h⟩
end Go.Z
end
section
set_option linter.unusedSimpArgs false
set_option linter.unusedVariables false
/- Elements within blocks of one's own: reading and writing one of them. -/
set_option linter.unusedSimpArgs false
set_option linter.unusedVariables false
namespace Go.Z
open Go Go.RowKit
theorem setN_eq {l vs : List Value} {o : Nat} (h : o + vs.length ≤ l.length) : setN l o vs = l.take o ++ (vs ++ (l.drop o).drop vs.length) := by
  have hl : (l.take o).length = o := by rw [List.length_take]; omega
  have := setN_append vs (l.take o) (l.drop o) (by rw [List.length_drop]; omega)
  rwa [List.take_append_drop, hl] at this
theorem setN_get {l vs : List Value} {o : Nat} (h : o + vs.length ≤ l.length) (k : Nat) : (setN l o vs)[k]? = if k < o then l[k]? else if k < o + vs.length then vs[k - o]? else l[k]? := by
  rw [setN_eq h]
  have hl : (l.take o).length = o := by rw [List.length_take]; omega
  by_cases h1 : k < o
  · rw [if_pos h1, List.getElem?_append_left (by omega), List.getElem?_take, if_pos h1]
  · rw [if_neg h1, List.getElem?_append_right (by omega), hl]
    by_cases h2 : k < o + vs.length
    · rw [if_pos h2, List.getElem?_append_left (by omega)]
    · rw [if_neg h2, List.getElem?_append_right (by omega), List.getElem?_drop, List.getElem?_drop]
      congr 1; omega
theorem part_ext {cs ds : List Value} {i sz : Nat} (h : ∀ k, k < sz → cs[i * sz + k]? = ds[i * sz + k]?) : (cs.drop (i * sz)).take sz = (ds.drop (i * sz)).take sz := by
  refine List.ext_getElem? fun k => ?_
  rw [List.getElem?_take, List.getElem?_take]
  by_cases hk : k < sz
  · rw [if_pos hk, if_pos hk, List.getElem?_drop, List.getElem?_drop]; exact h k hk
  · rw [if_neg hk, if_neg hk]
variable {α : Type} {R : Heap → List Value → α → Prop} {sz : Nat} {h : Heap} {cs us : List Value} {l : List α} {a : α}
theorem Cells.look (c : Cells R sz h cs l) {i : Nat} (hi : l[i]? = some a) : ∃ us, LookN cs (0 + i * sz) us ∧ R h us a ∧ us.length = sz := by
  have hlt : i < l.length := (List.getElem?_eq_some_iff.1 hi).1
  have h2 : i * sz + sz ≤ cs.length := by rw [c.1, ← Nat.succ_mul]; exact Nat.mul_le_mul_right _ hlt
  refine ⟨_, LookN.of_get fun j v hv => ?_, c.2 i a hi, by rw [List.length_take, List.length_drop]; omega⟩
  rw [List.getElem?_take] at hv
  split at hv
  · rw [List.getElem?_drop] at hv; rw [Nat.zero_add]; exact hv
  · cases hv
theorem Cells.set (c : Cells R sz h cs l) {j : Nat} (hj : j < l.length) (hu : us.length = sz) (ha : R h us a) : Cells R sz h (setN cs (0 + j * sz) us) (l.set j a) := by
  have h2 : j * sz + sz ≤ cs.length := by rw [c.1, ← Nat.succ_mul]; exact Nat.mul_le_mul_right _ hj
  have hle : (0 + j * sz) + us.length ≤ cs.length := by omega
  refine ⟨by rw [length_setN, List.length_set]; exact c.1, fun i x hi => ?_⟩
  by_cases e : i = j
  · subst e
    rw [List.getElem?_set_self hj] at hi
    cases hi
    have : ((setN cs (0 + i * sz) us).drop (i * sz)).take sz = us := by
      refine List.ext_getElem? fun k => ?_
      rw [List.getElem?_take]
      by_cases hk : k < sz
      · rw [if_pos hk, List.getElem?_drop, setN_get hle, if_neg (by omega), if_pos (by omega)]
        congr 1; omega
      · rw [if_neg hk, List.getElem?_eq_none (by omega)]
    rw [this]; exact ha
  · rw [List.getElem?_set_ne (Ne.symm e)] at hi
    have := c.2 i x hi
    rw [part_ext (ds := cs)]
    · exact this
    · intro k hk
      rw [setN_get hle]
      rcases Nat.lt_or_ge i j with h3 | h3
      · have : (i + 1) * sz ≤ j * sz := Nat.mul_le_mul_right _ h3
        rw [Nat.succ_mul] at this
        rw [if_pos (by omega)]
      · have : (j + 1) * sz ≤ i * sz := Nat.mul_le_mul_right _ (by omega)
        rw [Nat.succ_mul] at this
        rw [if_neg (by omega), if_neg (by omega)]
theorem Cells.rep {z : List Value} (hz : z.length = sz) (ha : R h z a) : ∀ n, Cells R sz h (List.replicate n z).flatten (List.replicate n a)
  | 0 => Cells.nil
  | n + 1 => by
    rw [List.replicate_succ', List.replicate_succ', List.flatten_append]
    simpa using (Cells.rep hz ha n).snoc hz ha
theorem IntR.zero (h : Heap) : IntR h [.bool false, .slice none 0 0] 0 := by
  have e : limbs (0 : Int).natAbs = [] := limbs_zero
  refine ⟨none, 0, ?_, ?_, ?_⟩
  · rw [e]; rfl
  · rw [e]; exact Nat.le_refl _
  · rw [e]; exact MagAt.nil h
end Go.Z
end
section
set_option linter.unusedSimpArgs false
set_option linter.unusedVariables false
/- The calculus beneath the proofs: append to a slice that is written no more and has no room. No program is named here. -/
set_option linter.unusedSimpArgs false
set_option linter.unusedVariables false
namespace Go.Z
open Go Go.RowKit
variable {C : Cfg} {Q Q' : Post} {ds : List Deferred} {ρ : Env} {h : Heap} {L : Own} {ops : Array Oper} {rest : List Oper}
variable {d : Nat} {ty : TypeId} {pos : String} {after : Array Edge} {S : World → Prop}

theorem run_appendF {P : Program} {w0 w : World} {h0 h : Heap} {L : Own} {T T' e sz by' n m : Nat} {z xs us : List Value} {p : Option Addr} {y : Value} {ty : TypeId} [hu : Sl P T e] [hs : Sz P e sz] [hb : By P e by'] [hz : Zv P e z]
    (hzl : z.length = sz) (hst : St w0 h0 h L w) (s : SlAt h (.slice p n n) n sz xs) (hby : by' ≤ 100000) (hlen : n + m ≤ 1000000000) (src : Src P sz T' y m us w) :
    ∃ v' h' w', (Builtin.append_ #[T, T'] ty #[.slice p n n, y]).run P w = .ok v' w' ∧ Step h h' ∧ SlAt h' v' (n + m) sz (xs ++ us) ∧ St w0 h0 h' L w' := by
  obtain ⟨i, hi1, hi2⟩ := hb.i
  obtain ⟨i2, hi3, hi4⟩ := hs.i
  obtain ⟨i3, zv, hi5, hi6, hi7⟩ := hz.i
  have e1 : i2 = i := by rw [hi1] at hi3; cases hi3; rfl
  have e2 : i3 = i := by rw [hi1] at hi5; cases hi5; rfl
  subst e1 e2
  have hus := src.newsLen
  have hxl : xs.length = n * sz := by obtain ⟨_, _, _, _, h3, _⟩ := s; exact h3
  have hxu : (xs ++ us).length = (n + m) * sz := by rw [List.length_append, hxl, hus, Nat.add_mul]
  have hsrc : Src P i3.size T' y m us w := hi4.symm ▸ src
  have hzs : zv.cells.size = sz := by rw [hi7]; exact hzl
  rcases Nat.eq_zero_or_pos m with rfl | hm
  · obtain rfl : us = [] := List.eq_nil_of_length_eq_zero (by simpa using hus)
    have hr := run_append_nothing (P := P) w T T' ty e i3 hu.u hi1 p n n (Nat.le_refl _) y hsrc
    exact ⟨_, h, w, hr, ⟨fun _ _ x => x⟩, by simpa using s, hst⟩
  · have hold : (Builtin.firstCells i3.size n (.slice p n n)).run P w.drew = .ok xs.toArray w.drew := by
      obtain ⟨p', c', e, _, _, h4⟩ := s
      cases e
      rcases h4 with ⟨rfl, _⟩ | ⟨b, o, rfl, l, T0, fr, hb, hl⟩
      · obtain rfl : xs = [] := List.eq_nil_of_length_eq_zero (by simpa using hxl)
        cases p <;> simp [Builtin.firstCells, loadCells, loadCellsFrom, Sem.run, Pure.pure]
      · have hb2 : w.drew.heap[b]? = some (.cells ⟨l⟩ T0 fr) := hst.fro b _ hb
        simp only [Builtin.firstCells]
        rw [hi4, ← hxl]
        exact run_loadCells hb2 hl
    have hfit : Builtin.nextslicecap (n + m) n * i3.bytes ≤ 281474976710656 := growslice_fits (by omega) (by
      rw [hi2]
      calc (n + m) * by' ≤ 1000000000 * 100000 := Nat.mul_le_mul hlen hby
        _ ≤ 140737488355328 := by decide)
    have hr := run_append_grow_src (P := P) w T T' ty e i3 zv hu.u hi1 hi6 p n n xs hold y m us hsrc (by omega) (by omega) hfit
    have hge := grownCap_ge w (n + m) n e
    have hst' : St w0 h0 h L w.drew := hst.drew
    have hobj : row e ((xs ++ us) ++ (Builtin.zeroCells zv.cells (grownCap w (n + m) n e - (n + m))).toList) = .cells ((xs ++ us).toArray ++ Builtin.zeroCells zv.cells (grownCap w (n + m) n e - (n + m))) e := by
      unfold row
      congr 1
      apply Array.ext'
      simp
    have h1 := hst'.alloc (row e ((xs ++ us) ++ (Builtin.zeroCells zv.cells (grownCap w (n + m) n e - (n + m))).toList))
    have hsz : w.drew.heap.size = w.heap.size := rfl
    rw [hsz] at h1
    obtain ⟨f1, f2⟩ := h1.freeze
    refine ⟨_, _, _, hr, f2, ⟨_, _, rfl, hge, hxu, .inr ⟨w.heap.size, 0, rfl, _, e, _, by simp only [if_true]; rfl, ?_⟩⟩, ?_⟩
    · exact LookN.of_get (vs := xs ++ us) (o := 0) fun j u hj => by simpa [List.getElem?_append_left (List.getElem?_eq_some_iff.1 hj).1] using (by rw [List.getElem?_append_left (List.getElem?_eq_some_iff.1 hj).1]; exact hj : ((xs ++ us) ++ (Builtin.zeroCells zv.cells (grownCap w (n + m) n e - (n + m))).toList)[j]? = some u)
    · rw [← hobj]; exact f1
theorem o_appF {x y : Operand} {T T' e sz by' n m : Nat} {z xs us : List Value} {p : Option Addr} {u : Value} [hu : Sl C.P T e] [hs : Sz C.P e sz] [hb : By C.P e by'] [hz : Zv C.P e z]
    (hx : ρ.ev x = .slice p n n) (hy : ρ.ev y = u) (s : SlAt h (.slice p n n) n sz xs) (src : ∀ w, St C.w0 C.h0 h L w → Src C.P sz T' u m us w) (hlen : n + m ≤ 1000000000)
    (k : ∀ v' h', Step h h' → SlAt h' v' (n + m) sz (xs ++ us) → JL C ops Q rest ds (ρ.set d v') h' L) (hn : Nat.blt d C.n = true := by rfl) (hzl : z.length = sz := by rfl) (hby : Nat.ble by' 100000 = true := by rfl) :
    JL C ops Q (⟨some d, .call { callee := .builtin .append, args := #[x, y], argTypes := #[T, T'] }, ty, pos, after, none⟩ :: rest) ds ρ h L :=
  JL.val rfl rfl rfl hn fun w hst => by
    obtain ⟨v', h', w', h1, h2, h3, h4⟩ := run_appendF (T := T) (T' := T') (e := e) (ty := ty) hzl hst s (Nat.le_of_ble_eq_true hby) hlen (src w hst)
    refine ⟨v', h', L, w', ?_, h4, k v' h' h2 h3⟩
    have hx' : (Builtin.append_ #[T, T'] ty #[ρ.ev x, ρ.ev y]).run C.P w = .ok v' w' := by rw [hx, hy]; exact h1
    have hm : (#[x, y] : Array Operand).map ρ.ev = #[ρ.ev x, ρ.ev y] := by simp
    simp only [execOp, resolve, hm]
    exact run_v hx'
end Go.Z
end
section
set_option linter.unusedSimpArgs false
set_option linter.unusedVariables false
/- Parts of slices of elements: beginnings, ends, one behind the other. -/
set_option linter.unusedSimpArgs false
set_option linter.unusedVariables false
namespace Go.Z
open Go Go.RowKit
variable {α : Type} {R : Heap → List Value → α → Prop} {sz : Nat} {h : Heap} {cs ds : List Value} {l m : List α} {a : α}
theorem Cells.append (c : Cells R sz h cs l) (e : Cells R sz h ds m) : Cells R sz h (cs ++ ds) (l ++ m) := by
  refine ⟨by simp [c.1, e.1, Nat.add_mul], fun i x hi => ?_⟩
  rcases Nat.lt_or_ge i l.length with h1 | h1
  · rw [List.getElem?_append_left h1] at hi
    have h2 : (i + 1) * sz ≤ l.length * sz := Nat.mul_le_mul_right _ h1
    rw [Nat.succ_mul, ← c.1] at h2
    rw [List.drop_append_of_le_length (by omega), List.take_append_of_le_length (by rw [List.length_drop]; omega)]
    exact c.2 i x hi
  · rw [List.getElem?_append_right h1] at hi
    have h3 : i * sz = cs.length + (i - l.length) * sz := by rw [c.1, ← Nat.add_mul]; congr 1; omega
    rw [h3, List.drop_append, List.drop_eq_nil_of_le (by omega), List.nil_append, Nat.add_sub_cancel_left]
    exact e.2 _ x hi
theorem Cells.take (c : Cells R sz h cs l) {k : Nat} (hk : k ≤ l.length) : Cells R sz h (cs.take (k * sz)) (l.take k) := by
  have h0 : k * sz ≤ cs.length := by rw [c.1]; exact Nat.mul_le_mul_right _ hk
  refine ⟨by rw [List.length_take, List.length_take, Nat.min_eq_left h0, Nat.min_eq_left hk], fun i x hi => ?_⟩
  rw [List.getElem?_take] at hi
  split at hi
  · rename_i hik
    have h2 : (i + 1) * sz ≤ k * sz := Nat.mul_le_mul_right _ hik
    rw [Nat.succ_mul] at h2
    rw [part_ext (ds := cs)]
    · exact c.2 i x hi
    · intro j hj
      rw [List.getElem?_take, if_pos (by omega)]
  · cases hi
theorem Cells.drop (c : Cells R sz h cs l) (k : Nat) : Cells R sz h (cs.drop (k * sz)) (l.drop k) := by
  refine ⟨by rw [List.length_drop, List.length_drop, c.1, Nat.sub_mul], fun i x hi => ?_⟩
  rw [List.getElem?_drop] at hi
  have := c.2 _ x hi
  rw [List.drop_drop, ← Nat.add_mul]; exact this
end Go.Z
end
section
set_option linter.unusedSimpArgs false
set_option linter.unusedVariables false
/- The calculus beneath the proofs: a nil slice that is made longer by zeros, capacities. No program is named here. -/
set_option linter.unusedSimpArgs false
set_option linter.unusedVariables false
namespace Go.Z
open Go Go.RowKit
variable {C : Cfg} {Q Q' : Post} {ds : List Deferred} {ρ : Env} {h : Heap} {L : Own} {ops : Array Oper} {rest : List Oper}
variable {d : Nat} {ty : TypeId} {pos : String} {after : Array Edge} {S : World → Prop}
theorem q_cap {x : Operand} {T e : TypeId} [hu : Sl C.P T e] {p : Option Addr} {n c : Nat} (hx : ρ.ev x = .slice p n c) : Qr C ρ S (.call { callee := .builtin .cap, args := #[x], argTypes := #[T] }) ty (.int .i64 (c : Int)) := ⟨rfl, fun w _ => by
  simp [go_sem, hx, Builtin.cap_, und_run hu.u, Result.andThen]⟩
theorem run_append_zeros {P : Program} (w : World) (t tx ty e : TypeId) (i : TypeInfo) (z : Value) (k : IntKind) (ht : P.underlying t = some (.slice e)) (hk : P.underlying tx = some (.int k)) (hi : P.info? e = some i) (hz : i.zero = some z) (n : Nat) (q : IntKind)
    (hn : 0 < n) (hsz : 0 < i.size) (hb : 0 < i.bytes) (h48 : n * i.bytes ≤ 281474976710656) (h63 : (n : Int) ≤ 9223372036854775807) (hfit : Builtin.nextslicecap n 0 * i.bytes ≤ 281474976710656) :
    (Builtin.append_ #[t, tx] ty #[.slice none 0 0, .int q (n : Int)]).run P w =
      .ok (.slice (some ⟨w.heap.size, 0, none⟩) n (grownCap w n 0 e))
        (w.drew.alloc (.cells (Builtin.zeroCells z.cells n ++ Builtin.zeroCells z.cells (grownCap w n 0 e - n)) e)) := by
  have hw : IntKind.i64.wrap (n : Int) = (n : Int) := wi64 (by omega)
  have h0 : ¬ ((n : Int) < 0) := by omega
  have h1 : ¬ (281474976710656 < (n : Int) * (i.bytes : Int)) := by
    rw [← Int.natCast_mul]; omega
  have h2 : ¬ (n * i.size = 0) := by
    have := Nat.mul_pos hn hsz; omega
  have h3 : ¬ (n ≤ 0) := by omega
  have h4 : ¬ (281474976710656 < Builtin.nextslicecap n 0 * i.bytes) := by omega
  have h5 : ¬ (9223372036854775807 < (n : Int)) := by omega
  have h6 : ¬ n = 0 := by omega
  have h7 : ¬ i.size = 0 := by omega
  simp [Builtin.append_, run_underlying ht, run_underlying hk, sizeOf, typeInfo, zeroValue, hi, hz, asInt, asIntOf, hw, h0, h1, h2, h3, h4, h5, h6, h7, Question.forced, Builtin.firstCells, loadCells, loadCellsFrom, newRow, grownCap]
theorem o_appZ {x y : Operand} {T T' e sz by' n : Nat} {z : List Value} {kk q : IntKind} [hu : Sl C.P T e] [hk : Kd C.P T' kk] [hs : Sz C.P e sz] [hb : By C.P e by'] [hz : Zv C.P e z]
    (hx : ρ.ev x = .slice none 0 0) (hy : ρ.ev y = .int q (n : Int)) (hn0 : 0 < n) (hlen : n ≤ 1000000000)
    (k : ∀ b c sp, n ≤ c → sp.length = c * sz → JL C ops Q rest ds (ρ.set d (.slice (some ⟨b, 0, none⟩) n c)) h ((b, row e sp) :: L)) (hn : Nat.blt d C.n = true := by rfl) (hzl : z.length = sz := by rfl) (hsz : 0 < sz := by decide) (hby : (Nat.ble by' 100000 && Nat.blt 0 by') = true := by rfl) :
    JL C ops Q (⟨some d, .call { callee := .builtin .append, args := #[x, y], argTypes := #[T, T'] }, ty, pos, after, none⟩ :: rest) ds ρ h L :=
  JL.val rfl rfl rfl hn fun w hst => by
    obtain ⟨i, hi1, hi2⟩ := hb.i
    obtain ⟨i2, hi3, hi4⟩ := hs.i
    obtain ⟨i3, zv, hi5, hi6, hi7⟩ := hz.i
    have e1 : i2 = i := by rw [hi1] at hi3; cases hi3; rfl
    have e2 : i3 = i := by rw [hi1] at hi5; cases hi5; rfl
    subst e1 e2
    simp only [Bool.and_eq_true] at hby
    have hb1 := Nat.le_of_ble_eq_true hby.1
    have hb2 : 0 < by' := by simpa [Nat.blt_eq] using hby.2
    have hzs : zv.cells.size = sz := by rw [hi7]; exact hzl
    have hm : n * by' ≤ 140737488355328 := by
      calc n * by' ≤ 1000000000 * 100000 := Nat.mul_le_mul hlen hb1
        _ ≤ 140737488355328 := by decide
    have hfit : Builtin.nextslicecap n 0 * i3.bytes ≤ 281474976710656 := growslice_fits (by omega) (by rw [hi2]; exact hm)
    have hr := run_append_zeros (P := C.P) w T T' ty e i3 zv kk hu.u hk.u hi1 hi6 n q hn0 (by omega) (by omega) (by rw [hi2]; omega) (by omega) hfit
    have hge : n ≤ grownCap w n 0 e := grownCap_ge w n 0 e
    refine ⟨_, h, _, _, ?_, (hst.drew).alloc (row e (Builtin.zeroCells zv.cells n ++ Builtin.zeroCells zv.cells (grownCap w n 0 e - n)).toList), k _ (grownCap w n 0 e) _ hge ?_⟩
    · have hm : (#[x, y] : Array Operand).map ρ.ev = #[.slice none 0 0, .int q (n : Int)] := by simp [hx, hy]
      simp only [execOp, resolve, hm]
      exact run_v hr
    · rw [Array.length_toList, Array.size_append, size_zeroCells, size_zeroCells, hzs, ← Nat.add_mul]
      congr 1; omega
end Go.Z
end
section
set_option linter.unusedSimpArgs false
set_option linter.unusedVariables false
/- The calculus beneath the proofs: lists that a function builds and changes, in words that a printed walk uses. No program is named here. -/
set_option linter.unusedSimpArgs false
set_option linter.unusedVariables false
namespace Go.Z
open Go Go.RowKit

variable {C : Cfg} {Q Q' : Post} {ds : List Deferred} {ρ : Env} {h h1 h2 : Heap} {L L' Lb : Own} {ops : Array Oper} {rest : List Oper}
variable {d : Nat} {ty : TypeId} {pos : String} {after : Array Edge} {S : World → Prop}

/-! ### Owned blocks, picked out -/
/-- Lb is among L; what is left is L'. -/
class Rem (L Lb : Own) (L' : outParam Own) : Prop where p : L.Perm (Lb ++ L')
instance (priority := 1300) Rem.nil {L : Own} : Rem L [] L := ⟨List.Perm.refl _⟩
instance (priority := 1250) Rem.self {Lb : Own} : Rem Lb Lb [] := ⟨by simp⟩
instance (priority := 1200) Rem.head {Lb L2 : Own} : Rem (Lb ++ L2) Lb L2 := ⟨List.Perm.refl _⟩
instance (priority := 1200) Rem.one {p : Nat × Obj} {L2 : Own} : Rem (p :: L2) [p] L2 := ⟨List.Perm.refl _⟩
instance Rem.tail {L Lb L' : Own} {p : Nat × Obj} [a : Rem L Lb L'] : Rem (p :: L) Lb (p :: L') := ⟨(a.p.cons p).trans List.perm_middle.symm⟩
instance Rem.app {L M Lb L' : Own} [a : Rem L Lb L'] : Rem (M ++ L) Lb (M ++ L') := ⟨by
  refine (List.Perm.append_left M a.p).trans ?_
  rw [← List.append_assoc, ← List.append_assoc]
  exact List.Perm.append_right _ List.perm_append_comm⟩
/-- All of a is among L. -/
class Sp (a L : Own) : Prop where p : ∃ rest, L.Perm (a ++ rest)
instance (priority := 1300) Sp.refl {L : Own} : Sp L L := ⟨[], by simp⟩
instance (priority := 1250) Sp.nil {L : Own} : Sp [] L := ⟨L, List.Perm.refl _⟩
instance Sp.cons {L L' a : Own} {x : Nat × Obj} [r : Rem L [x] L'] [s : Sp a L'] : Sp (x :: a) L := by
  obtain ⟨rest, h⟩ := s.p
  exact ⟨rest, r.p.trans (List.Perm.cons x h)⟩
instance Sp.app {L Lb L' a : Own} [r : Rem L Lb L'] [s : Sp a L'] : Sp (Lb ++ a) L := by
  obtain ⟨rest, h⟩ := s.p
  exact ⟨rest, r.p.trans (by rw [List.append_assoc]; exact List.Perm.append_left Lb h)⟩
theorem J.sp {c : Code} {a : Own} (s : Sp a L) (k : J C c Q ds ρ h a) : J C c Q ds ρ h L := by
  obtain ⟨rest, hp⟩ := s.p
  exact J.perm hp (J.sub (List.sublist_append_left _ _) k)
theorem JL.sp {a : Own} (s : Sp a L) (k : JL C ops Q rest ds ρ h a) : JL C ops Q rest ds ρ h L := by
  obtain ⟨r, hp⟩ := s.p
  exact JL.perm hp (JL.sub (List.sublist_append_left _ _) k)
instance (priority := 900) At.appl {L M : Own} {b : Nat} {o : Obj} {f : Obj → Own} [a : At M b o f] : At (M ++ L) b o (fun o' => f o' ++ L) := by
  obtain ⟨L1, L2, h1, h2⟩ := a.e
  exact ⟨L1, L2 ++ L, by rw [h1]; simp, fun o' => by rw [h2]; simp⟩

/-! ### Lists that are owned -/
section own
variable {α : Type} {R : Heap → List Value → α → Prop} {T : TypeId} {sz n k c o : Nat} {v : Value} {l m l' : List α} {a a' : α} {p : Option Addr} {cs us xs : List Value}
def OwnL (R : Heap → List Value → α → Prop) (T : TypeId) (sz : Nat) (h : Heap) (v : Value) (l : List α) (Lb : Own) : Prop := ∃ xs, OwnS T sz v l.length xs Lb ∧ Cells R sz h xs l
theorem OwnL.mono [Mo R] (w : OwnL R T sz h1 v l Lb) [e : Ext h1 h] : OwnL R T sz h v l Lb := let ⟨xs, a, b⟩ := w; ⟨xs, a, b.mono⟩
theorem OwnL.nil (h : Heap) : OwnL R T sz h (.slice none 0 0) [] [] := ⟨[], OwnS.nil T sz, Cells.nil⟩
theorem OwnL.lit {b : Nat} (h : Heap) (hl : xs.length = n * sz) (hc : Cells R sz h xs l) (hn : l.length = n) : OwnL R T sz h (.slice (some ⟨b, 0, none⟩) n n) l [(b, row T xs)] := by
  subst hn; exact ⟨xs, OwnS.lit hl, hc⟩
theorem OwnL.out (w : OwnL R T sz h v l Lb) : ∃ p c, v = .slice p l.length c := by
  obtain ⟨xs, a, _⟩ := w; exact a.out
theorem OwnL.len (w : OwnL R T sz h (.slice p n c) l Lb) : n = l.length := by
  obtain ⟨p, c, e⟩ := w.out; cases e; rfl
theorem Sls.len (w : Sls R sz h (.slice p n c) l) : n = l.length := by
  obtain ⟨p, c, e, _⟩ := w.out; cases e; rfl
theorem OwnL.fro (w : OwnL R T sz h v l Lb) : (Lb = [] ∧ Sls R sz h v l) ∨ ∃ b ob, Lb = [(b, ob)] ∧ ∀ h' : Heap, h' b = some ob → SlAt h' v l.length sz (Classical.choose w) := by
  have hw := Classical.choose_spec w
  rcases hw.1.split with ⟨e, hs⟩ | ⟨b, ob, e, hs⟩
  · exact .inl ⟨e, ⟨_, hs h, hw.2⟩⟩
  · exact .inr ⟨b, ob, e, hs⟩
theorem JL.fzO [Mo R] (w : OwnL R T sz h v l Lb) [r : Rem L Lb L'] (k : ∀ h', Step h h' → Sls R sz h' v l → JL C ops Q rest ds ρ h' L') : JL C ops Q rest ds ρ h L := by
  obtain ⟨xs, ho, hc⟩ := w
  rcases ho.split with ⟨rfl, hs⟩ | ⟨b, ob, rfl, hs⟩
  · exact JL.perm r.p (k h ⟨fun _ _ x => x⟩ ⟨xs, hs h, hc⟩)
  · exact JL.perm r.p (JL.fz1 fun h' st hb => k h' st ⟨xs, hs h' hb, hc.mono⟩)
theorem J.fzO [Mo R] {c : Code} (w : OwnL R T sz h v l Lb) [r : Rem L Lb L'] (k : ∀ h', Step h h' → Sls R sz h' v l → J C c Q ds ρ h' L') : J C c Q ds ρ h L := by
  obtain ⟨xs, ho, hc⟩ := w
  rcases ho.split with ⟨rfl, hs⟩ | ⟨b, ob, rfl, hs⟩
  · exact J.perm r.p (k h ⟨fun _ _ x => x⟩ ⟨xs, hs h, hc⟩)
  · exact J.perm r.p (J.freeze fun h' st hb => k h' st ⟨xs, hs h' hb, hc.mono⟩)
/-- A variable of one's own is written no more. -/
theorem J.fzB {c : Code} (b : Nat) {ob : Obj} [r : Rem L [(b, ob)] L'] (k : ∀ h', Step h h' → h' b = some ob → J C c Q ds ρ h' L') : J C c Q ds ρ h L :=
  J.perm r.p (J.freeze k)
theorem JL.fzB (b : Nat) {ob : Obj} [r : Rem L [(b, ob)] L'] (k : ∀ h', Step h h' → h' b = some ob → JL C ops Q rest ds ρ h' L') : JL C ops Q rest ds ρ h L :=
  JL.perm r.p (JL.fz1 k)

/-- The cells of a list's block, with what lies behind. -/
def OwnC (R : Heap → List Value → α → Prop) (sz : Nat) (h : Heap) (cs : List Value) (l : List α) (c : Nat) : Prop := l.length ≤ c ∧ cs.length = c * sz ∧ Cells R sz h (cs.take (l.length * sz)) l
theorem OwnC.mono [Mo R] (w : OwnC R sz h1 cs l c) [e : Ext h1 h] : OwnC R sz h cs l c := ⟨w.1, w.2.1, w.2.2.mono⟩
theorem OwnL.blk (w : OwnL R T sz h (.slice p n c) l Lb) (hk : k < l.length) : ∃ b cs, p = some ⟨b, 0, none⟩ ∧ Lb = [(b, row T cs)] ∧ n = l.length ∧ OwnC R sz h cs l c := by
  have hn := w.len
  subst hn
  obtain ⟨xs, ⟨h1, h2⟩, hc⟩ := w
  rcases h2 with ⟨q, e, _, h3, _⟩ | ⟨b, c', sp, e, rfl, h3, h4⟩
  · omega
  · cases e
    refine ⟨b, _, rfl, rfl, rfl, h3, h4, ?_⟩
    rw [List.take_left' h1]; exact hc
theorem OwnC.own {b : Nat} (w : OwnC R sz h cs l c) (hn : n = l.length) : OwnL R T sz h (.slice (some ⟨b, 0, none⟩) n c) l [(b, row T cs)] := by
  subst hn
  obtain ⟨h1, h2, h3⟩ := w
  refine ⟨cs.take (l.length * sz), ⟨?_, .inr ⟨b, c, cs.drop (l.length * sz), rfl, by rw [List.take_append_drop], h1, by rw [List.take_append_drop]; exact h2⟩⟩, h3⟩
  rw [List.length_take, h2]; exact Nat.min_eq_left (Nat.mul_le_mul_right _ h1)
theorem OwnC.get (w : OwnC R sz h cs l c) (hx : l[k]? = some a) : ∃ us, LookN cs (0 + k * sz) us ∧ R h us a ∧ us.length = sz := by
  obtain ⟨us, h1, h2, h3⟩ := w.2.2.look hx
  refine ⟨us, LookN.of_get fun j u hj => ?_, h2, h3⟩
  have := h1.get j u hj
  rw [List.getElem?_take] at this
  split at this
  · exact this
  · cases this
theorem OwnC.put {j : Nat} (w : OwnC R sz h cs l c) (hk : k < l.length) (hl : LookN cs (0 + k * sz) xs) (hx : xs.length = sz) (hj : j + us.length ≤ sz) (ha : R h (setN xs j us) a) : OwnC R sz h (setN cs (0 + k * sz + j) us) (l.set k a) c := by
  obtain ⟨h1, h2, h3⟩ := w
  have hle : k * sz + sz ≤ l.length * sz := by rw [← Nat.succ_mul]; exact Nat.mul_le_mul_right _ hk
  have hlc : l.length * sz ≤ c * sz := Nat.mul_le_mul_right _ h1
  refine ⟨by rw [List.length_set]; exact h1, by rw [length_setN]; exact h2, ?_⟩
  rw [List.length_set]
  have key : (setN cs (0 + k * sz + j) us).take (l.length * sz) = setN (cs.take (l.length * sz)) (0 + k * sz) (setN xs j us) := by
    have hlt : (cs.take (l.length * sz)).length = l.length * sz := by rw [List.length_take, h2]; exact Nat.min_eq_left hlc
    refine List.ext_getElem? fun i => ?_
    rw [List.getElem?_take, setN_get (by rw [h2]; omega), setN_get (by rw [length_setN, hlt, hx]; omega), length_setN, hx]
    by_cases hi : i < l.length * sz
    · rw [if_pos hi, List.getElem?_take, if_pos hi]
      by_cases h5 : i < 0 + k * sz
      · rw [if_pos (by omega), if_pos h5]
      · rw [if_neg h5]
        by_cases h6 : i < 0 + k * sz + sz
        · rw [if_pos h6, setN_get (by omega)]
          have hg : i - (0 + k * sz) < xs.length := by omega
          have := hl.get (i - (0 + k * sz)) _ (List.getElem?_eq_getElem hg)
          rw [show 0 + k * sz + (i - (0 + k * sz)) = i by omega] at this
          rw [List.getElem?_eq_getElem hg]
          by_cases h7 : i < 0 + k * sz + j
          · have g1 : i - (0 + k * sz) < j := by omega
            simp only [h7, g1, if_true, this]
          · have g1 : ¬ i - (0 + k * sz) < j := by omega
            by_cases h8 : i < 0 + k * sz + j + us.length
            · have g2 : i - (0 + k * sz) < j + us.length := by omega
              have g3 : i - (0 + k * sz + j) = i - (0 + k * sz) - j := by omega
              simp only [h7, g1, h8, g2, if_true, if_false, g3]
            · have g2 : ¬ i - (0 + k * sz) < j + us.length := by omega
              simp only [h7, g1, h8, g2, if_false, this]
        · rw [if_neg h6, if_neg (by omega), if_neg (by omega)]
    · rw [if_neg hi, if_neg (by omega), if_neg (by omega), List.getElem?_eq_none (by omega)]
  rw [key]
  exact h3.set hk (by rw [length_setN]; exact hx) ha
end own
end Go.Z
end
