/- The calculus beneath the proofs: the rules for a region whose order is drawn. No program is named here. -/
import Derived.Test.YtjdfhlkpfjhjoaaB8
set_option linter.unusedSimpArgs false
set_option linter.unusedVariables false
namespace Go.Z
open Go Go.RowKit

variable {C : Cfg} {Q Q' : Post} {ds : List Deferred} {ρ : Env} {h : Heap} {L Ls : Own} {ops : Array Oper} {rest : List Oper} {S : World → Prop} {M : List Nat} {listed : Array Bool} {fuel : Nat}

/-- One list of blocks within another. -/
class Sb (a b : Own) : Prop where s : a.Sublist b
instance (priority := 1200) Sb.refl (a : Own) : Sb a a := ⟨List.Sublist.refl a⟩
instance (priority := 1150) Sb.nil (b : Own) : Sb [] b := ⟨List.nil_sublist b⟩
instance (priority := 1100) Sb.both {a b : Own} {x : Nat × Obj} [h : Sb a b] : Sb (x :: a) (x :: b) := ⟨List.Sublist.cons_cons x h.s⟩
instance Sb.skip {a b : Own} {x : Nat × Obj} [h : Sb a b] : Sb a (x :: b) := ⟨List.Sublist.cons x h.s⟩
instance Sb.app {a b c : Own} [h : Sb a b] : Sb a (c ++ b) := ⟨h.s.trans (List.sublist_append_right _ _)⟩
instance Sb.bothA {a b c : Own} [h : Sb a b] : Sb (c ++ a) (c ++ b) := ⟨List.Sublist.append (List.Sublist.refl c) h.s⟩

/-- The model takes any order that the edges allow. -/
class Mix (P : Program) : Prop where m : P.follows .mixedOrders = true

@[reducible] def noP (Q : Post) : Post
  | .panic _, _, _, _, _ => False
  | .outgrown, _, _, _, _ => False
  | e, ds, ρ, h, L => Q e ds ρ h L
theorem noP_panic {c : List PanicEntry} {a : Act} {w : World} (h : lift C (noP Q) (.panic c) a w) : False := by
  obtain ⟨_, _, _, _, _, _, h⟩ := h; exact h
theorem noP_out {a : Act} {w : World} (h : lift C (noP Q) .outgrown a w) : False := by
  obtain ⟨_, _, _, _, _, _, h⟩ := h; exact h
theorem noP_lift {e : Exit} {a : Act} {w : World} (h : lift C (noP Q) e a w) : lift C Q e a w := by
  obtain ⟨ds, ρ, h', L', h1, h2, h3⟩ := h
  refine ⟨ds, ρ, h', L', h1, h2, ?_⟩
  cases e <;> first | exact h3 | exact h3.elim

def JD (C : Cfg) (ops : Array Oper) (Q : Post) (S : World → Prop) (M : List Nat) (fuel : Nat) (listed : Array Bool) (ds : List Deferred) (ρ : Env) (h : Heap) (L : Own) : Prop :=
  ∀ a w, Ag C.n ds a ρ → St C.w0 C.h0 h L w → wpAnyS C.r C.P ops (lift C (noP Q)) fuel S M listed a w

/-- The beginning: M: the operations that change what is read here; Ls: the owned blocks that are read. -/
theorem J.draw {id : Nat} {l : List Oper} (Ls : Own) (M : List Nat) [hm : Mix C.P] (k : JD C l.toArray Q (SS C h Ls) M l.length (Array.replicate l.length false) ds ρ h L) :
    J C (.region id l.toArray true) Q ds ρ h L := fun a w ha hs =>
  wpIn_mono (wpIn_region_any hm.m (wpAny_of_S _ (k a _ ⟨ha.size, ha.defers, ha.get⟩ hs.drew))) fun _ _ _ => noP_lift

theorem J.drawA {id : Nat} {l : List Oper} (M : List Nat) [hm : Mix C.P] (k : JD C l.toArray Q (SS C h L) M l.length (Array.replicate l.length false) ds ρ h L) :
    J C (.region id l.toArray true) Q ds ρ h L := J.draw L M k
/-- The guard holds. -/
def WantT (ops : Array Oper) (ρ : Env) : Option (Nat × Bool) → Prop
  | none => True
  | some (j, want) => ∃ t, (ops[j]?).bind (·.dst) = some t ∧ ρ t = .bool want
theorem WantT.wanted {n : Nat} {a : Act} {o : Oper} (ha : Ag n ds a ρ) (h : WantT ops ρ o.guard) : Region.wanted o (yielded ops a.tmps) = true := by
  unfold Region.wanted
  cases hg : o.guard with
  | none => rfl
  | some p =>
    obtain ⟨j, want⟩ := p
    rw [hg] at h
    obtain ⟨t, ht, hv⟩ := h
    simp [yielded_eq ha ht hv]

theorem Array.any_eq_true_iff_exists_mem' {α : Type} {p : α → Bool} {xs : Array α} : xs.any p = true ↔ ∃ x ∈ xs, p x = true := by
  rw [← Array.any_toList, List.any_eq_true]; simp
theorem all_calm (h : ops.all (fun o => calm o.op) = true) (j : Nat) (o : Oper) (hj : ops[j]? = some o) : calm o.op = true :=
  Array.all_eq_true_iff_forall_mem.1 h o (Array.mem_of_getElem? hj)

section takes
variable {i : Nat} {d : Nat} {op : Op} {ty : TypeId} {pos : String} {after : Array Edge} {g : Option (Nat × Bool)} {v : Value}
/-- An operation that reads is taken first. -/
theorem JD.load (i : Nat) (chk : (takeOk ops listed M i && !M.contains i) = true) (ho : ops[i]? = some ⟨some d, op, ty, pos, after, g⟩) (hg : WantT ops ρ g) [sub : Sb Ls L]
    (q : Qr C ρ (SS C h Ls) op ty v) (k : JD C ops Q (SS C h Ls) M fuel (listed.setIfInBounds i true) ds (ρ.set d v) h L) (hn : Nat.blt d C.n = true := by rfl) :
    JD C ops Q (SS C h Ls) M (fuel + 1) listed ds ρ h L := fun a w ha hs => by
  simp only [takeOk, Bool.and_eq_true, Bool.not_eq_true'] at chk
  obtain ⟨⟨⟨⟨⟨c1, c2⟩, c3⟩, c4⟩, c5⟩, c6⟩ := chk
  have hSS : SS C h Ls w := ⟨h, L, Ext.refl h, sub.s, hs⟩
  refine wpAnyS_take ho c1 (all_calm c2) (fun _ _ _ => noP_panic) (fun _ _ => noP_out) (fun m hm o hmo => ?_) fuel listed a w (Region.free_spec ho c3) (by simpa using c4) (by simpa using c6) (.inl ⟨WantT.wanted ha hg, fun w' hw' => ?_⟩) hSS (k _ _ (ha.put hn v) hs)
  · have := List.all_eq_true.1 c5 m hm
    rw [hmo] at this
    obtain ⟨e, he, hx⟩ := Array.any_eq_true_iff_exists_mem'.1 this
    simp only [Bool.and_eq_true, beq_iff_eq] at hx
    exact ⟨e, he, hx.1, hx.2⟩
  · rw [ha.eval]; exact q.exec hw'
/-- An operation that only reckons is taken first. -/
theorem JD.calc (i : Nat) (chk : (takeOk ops listed [] i && !M.contains i) = true) (ho : ops[i]? = some ⟨some d, op, ty, pos, after, g⟩) (hg : WantT ops ρ g) (hS : ∀ w, St C.w0 C.h0 h L w → S w)
    (q : Qr C ρ (fun _ => True) op ty v) (k : JD C ops Q S M fuel (listed.setIfInBounds i true) ds (ρ.set d v) h L) (hn : Nat.blt d C.n = true := by rfl) :
    JD C ops Q S M (fuel + 1) listed ds ρ h L := fun a w ha hs => by
  simp only [takeOk, Bool.and_eq_true, Bool.not_eq_true'] at chk
  obtain ⟨⟨⟨⟨⟨c1, c2⟩, c3⟩, c4⟩, c5⟩, c6⟩ := chk
  exact wpAnyS_pure ho c1 (all_calm c2) (fun _ _ _ => noP_panic) (fun _ _ => noP_out) fuel S M listed a w (Region.free_spec ho c3) (by simpa using c4) (by simpa using c6)
    (.inl ⟨WantT.wanted ha hg, fun w' _ => by rw [ha.eval]; exact q.exec trivial⟩) (hS _ hs) (k _ _ (ha.put hn v) hs)
/-- An operation whose guard fails is passed over first. -/
theorem JD.pass (i : Nat) {j t : Nat} {want : Bool} (chk : (takeOk ops listed [] i && !M.contains i) = true) (ho : ops[i]? = some ⟨some d, op, ty, pos, after, some (j, want)⟩)
    (hj : (ops[j]?).bind (·.dst) = some t) (hb : ρ t = .bool (!want)) (hS : ∀ w, St C.w0 C.h0 h L w → S w)
    (k : JD C ops Q S M fuel (listed.setIfInBounds i true) ds (ρ.set d undef) h L) (hn : Nat.blt d C.n = true := by rfl) :
    JD C ops Q S M (fuel + 1) listed ds ρ h L := fun a w ha hs => by
  simp only [takeOk, Bool.and_eq_true, Bool.not_eq_true'] at chk
  obtain ⟨⟨⟨⟨⟨c1, c2⟩, c3⟩, c4⟩, c5⟩, c6⟩ := chk
  refine wpAnyS_pure ho c1 (all_calm c2) (fun _ _ _ => noP_panic) (fun _ _ => noP_out) fuel S M listed a w (Region.free_spec ho c3) (by simpa using c4) (by simpa using c6)
    (.inr ⟨?_, rfl⟩) (hS _ hs) (k _ _ (ha.put hn undef) hs)
  simp only [Region.wanted]; rw [yielded_eq ha hj hb]; cases want <;> rfl
theorem ss_top : ∀ w, St C.w0 C.h0 h L w → (fun _ : World => True) w := fun _ _ => trivial
theorem ss_sub [sub : Sb Ls L] : ∀ w, St C.w0 C.h0 h L w → SS C h Ls w := fun w hs => ⟨h, L, Ext.refl h, sub.s, hs⟩
end takes

/-- Operation i comes up now. -/
def JX (C : Cfg) (ops : Array Oper) (Q : Post) (S : World → Prop) (M : List Nat) (fuel : Nat) (listed : Array Bool) (ds : List Deferred) (ρ : Env) (h : Heap) (L : Own) (i : Nat) : Prop :=
  ∀ a w, Ag C.n ds a ρ → St C.w0 C.h0 h L w → wpOpIn (fen C.r) 0 C.P ops (lift C (noP Q)) i (fun a' w' =>
      (i ∈ M → wpAnyS C.r C.P ops (lift C (noP Q)) fuel (fun _ => True) [] (listed.setIfInBounds i true) a' w') ∧
      (i ∉ M → S w' ∧ wpAnyS C.r C.P ops (lift C (noP Q)) fuel S M (listed.setIfInBounds i true) a' w')) a w

theorem wpOp_of_JL {i : Nat} {o : Oper} {K : List Deferred → Env → Heap → Own → Prop} {K2 : Act → World → Prop} {Q2 : Exit → Act → World → Prop} (ho : ops[i]? = some o) (hg : WantT ops ρ o.guard)
    (k : JL C ops (fun e ds' ρ' h' L' => e = .normal ∧ K ds' ρ' h' L') [{ o with guard := none }] ds ρ h L) {a : Act} {w : World} (ha : Ag C.n ds a ρ) (hs : St C.w0 C.h0 h L w)
    (hK : ∀ a w ds ρ h L, Ag C.n ds a ρ → St C.w0 C.h0 h L w → K ds ρ h L → K2 a w) : wpOpIn (fen C.r) 0 C.P ops Q2 i K2 a w := by
  have hk := k a w ha hs
  have hw0 : Region.wanted { o with guard := none } (yielded ops a.tmps) = true := rfl
  simp only [wpL] at hk
  rw [if_pos hw0] at hk
  unfold wpOpIn
  simp only [ho]
  rw [if_pos (WantT.wanted ha hg)]
  refine ⟨fun _ _ => trivial, ?_⟩
  have h2 := hk.2
  have hsem : (o.semAt (fen C.r).round a.eval) = (({ o with guard := none } : Oper).semAt (fen C.r).round a.eval) := rfl
  rw [hsem]
  generalize (({ o with guard := none } : Oper).semAt (fen C.r).round a.eval).run C.P w = res at h2 ⊢
  have conv : ∀ a w, lift C (fun e ds' ρ' h' L' => e = .normal ∧ K ds' ρ' h' L') .normal a w → K2 a w := fun a w ⟨ds, ρ, h, L, x, y, _, z⟩ => hK a w ds ρ h L x y z
  have nop : ∀ e a w, e ≠ Exit.normal → lift C (fun e ds' ρ' h' L' => e = .normal ∧ K ds' ρ' h' L') e a w → False := fun e a w hne ⟨_, _, _, _, _, _, x, _⟩ => hne x
  cases res with
  | ok nx w' =>
    cases nx <;> simp only [Oper.uponIn] at h2 ⊢
    case value v => exact conv _ _ h2
    case skip => exact conv _ _ h2
    case defer dd => exact conv _ _ h2
    case enter f args => exact ⟨h2.1, CallsIn.mono h2.2 fun e w'' he => by cases e <;> first | exact conv _ _ he | exact (nop _ _ _ (by simp) he).elim | (obtain ⟨_, _, he⟩ := he; exact (nop _ _ _ (by simp) he).elim)⟩
    case row row args => exact ⟨h2.1, RowsIn.mono h2.2 fun v w'' he => conv _ _ he⟩
    case round l f tmps assign body => exact ⟨h2.1, RoundIn.mono h2.2 fun e w'' he => by cases e <;> first | exact conv _ _ he | exact (nop _ _ _ (by simp) he).elim | (obtain ⟨_, _, he⟩ := he; exact (nop _ _ _ (by simp) he).elim)⟩
  | halt x w' =>
    cases x <;> simp only [Oper.uponIn] at h2 ⊢
    case panic u => exact (nop _ _ _ (by simp) h2).elim

theorem JX.eff {i : Nat} {o : Oper} (ho : ops[i]? = some o) (hM : M.contains i = false) (hg : WantT ops ρ o.guard)
    (k : JL C ops (fun e ds' ρ' h' L' => e = .normal ∧ Ext h h' ∧ Sb Ls L' ∧ JD C ops Q (SS C h' Ls) M fuel (listed.setIfInBounds i true) ds' ρ' h' L') [{ o with guard := none }] ds ρ h L) :
    JX C ops Q (SS C h Ls) M fuel listed ds ρ h L i := fun a w ha hs =>
  wpOp_of_JL ho hg k ha hs fun a w ds' ρ' h' L' x y ⟨e, sub, kd⟩ => by
    have hmono : ∀ w, SS C h' Ls w → SS C h Ls w := fun w ⟨h2, L2, e2, s2, st⟩ => ⟨h2, L2, ⟨fun b o hb => e2.le b o (e.le b o hb)⟩, s2, st⟩
    exact ⟨fun hm => absurd (by simpa using hm) (by simpa using hM), fun _ => ⟨hmono _ ⟨h', L', Ext.refl h', sub.s, y⟩, (kd a w x y).mono _ hmono⟩⟩
theorem JX.mut {i : Nat} {o : Oper} (ho : ops[i]? = some o) (hM : M.contains i = true) (hg : WantT ops ρ o.guard)
    (k : JL C ops (fun e ds' ρ' h' L' => e = .normal ∧ JD C ops Q (fun _ => True) [] fuel (listed.setIfInBounds i true) ds' ρ' h' L') [{ o with guard := none }] ds ρ h L) :
    JX C ops Q S M fuel listed ds ρ h L i := fun a w ha hs =>
  wpOp_of_JL ho hg k ha hs fun a w ds' ρ' h' L' x y kd => And.intro (fun _ => kd a w x y) (fun hm => absurd (by simpa using hM) hm)
/-- Behind a change nothing more is read: whatever is left may come up. -/
theorem JX.free {i : Nat} {o : Oper} (ho : ops[i]? = some o) (hg : WantT ops ρ o.guard)
    (k : JL C ops (fun e ds' ρ' h' L' => e = .normal ∧ JD C ops Q (fun _ => True) [] fuel (listed.setIfInBounds i true) ds' ρ' h' L') [{ o with guard := none }] ds ρ h L) :
    JX C ops Q (fun _ => True) [] fuel listed ds ρ h L i := fun a w ha hs =>
  wpOp_of_JL ho hg k ha hs fun a w ds' ρ' h' L' x y kd => And.intro (fun hm => (by cases hm)) (fun _ => And.intro trivial (kd a w x y))

/-- Whichever of rs comes up. -/
def AllX (f : Nat → Prop) : List Nat → Prop
  | [] => True
  | i :: rs => f i ∧ AllX f rs
theorem JD.all (rs : List Nat) (hr : Region.ready .any ops listed = rs) (hne : rs.isEmpty = false) (k : AllX (JX C ops Q S M fuel listed ds ρ h L) rs) : JD C ops Q S M (fuel + 1) listed ds ρ h L := fun a w ha hs => by
  refine ⟨fun h0 => ?_, fun i hi => ?_⟩
  · rw [hr] at h0; subst h0; cases hne
  · rw [hr] at hi
    have : ∀ rs : List Nat, AllX (JX C ops Q S M fuel listed ds ρ h L) rs → ∀ i ∈ rs, JX C ops Q S M fuel listed ds ρ h L i := fun rs => by
      induction rs with
      | nil => intro _ i hi; cases hi
      | cons x rs ih =>
        intro k i hi
        rcases List.mem_cons.1 hi with rfl | hi
        · exact k.1
        · exact ih k.2 i hi
    exact this rs k i hi a w ha hs
theorem JD.one (i : Nat) (hr : Region.ready .any ops listed = [i]) (k : JX C ops Q S M fuel listed ds ρ h L i) : JD C ops Q S M (fuel + 1) listed ds ρ h L := JD.all [i] hr rfl ⟨k, trivial⟩
theorem JD.done (hr : Region.ready .any ops listed = []) (k : Q .normal ds ρ h L) : ∀ fuel, JD C ops Q S M fuel listed ds ρ h L
  | 0 => fun a w ha hs => ⟨hr, ds, ρ, h, L, ha, hs, k⟩
  | _ + 1 => fun a w ha hs => ⟨fun _ => ⟨ds, ρ, h, L, ha, hs, k⟩, by rw [hr]; simp⟩
theorem JD.weak {S' : World → Prop} (hS : ∀ w, S' w → S w) (k : JD C ops Q S' M fuel listed ds ρ h L) : JD C ops Q S M fuel listed ds ρ h L := fun a w ha hs => (k a w ha hs).mono _ hS
end Go.Z
