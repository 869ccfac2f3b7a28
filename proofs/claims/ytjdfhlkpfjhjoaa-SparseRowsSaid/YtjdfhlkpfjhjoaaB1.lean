/- The calculus beneath the proofs: states of a Go activation as (environment of temporaries, frozen heap, owned blocks), and the structural rules of its judgement. No program is named here. -/
import Derived.WalkKit
import Derived.RangeFuncLeaves
import Derived.OrdersIn
import Derived.LoopNIn
namespace Go.Z
open Go Go.RowKit

/-- Temporaries by number. -/
abbrev Env := Nat → Value
def Env.set (ρ : Env) (t : Nat) (v : Value) : Env := fun s => bif Nat.beq s t then v else ρ s
def Env.ev (ρ : Env) : Operand → Value
  | .tmp t => ρ t
  | .const v => v
  | .global g => .pointer (some ⟨g, 0, none⟩)
  | .func f => .func (.func f) #[] #[]

theorem Env.set_eq (ρ : Env) (t : Nat) (v : Value) : ρ.set t v t = v := by simp [Env.set]
theorem beq_ff {s t : Nat} (h : s ≠ t) : Nat.beq s t = false := by
  cases e : Nat.beq s t with
  | false => rfl
  | true => exact absurd (Nat.eq_of_beq_eq_true e) h
theorem Env.set_ne (ρ : Env) {t s : Nat} (v : Value) (h : s ≠ t) : ρ.set t v s = ρ s := by
  simp [Env.set, beq_ff h]

/-- Frozen blocks that are known; owned blocks, by number. -/
abbrev Heap := Nat → Option Obj
abbrev Own := List (Nat × Obj)

class Step (h h' : Heap) : Prop where
  le : ∀ b o, h b = some o → h' b = some o
class Ext (h h' : Heap) : Prop where
  le : ∀ b o, h b = some o → h' b = some o
instance Ext.refl (h : Heap) : Ext h h := ⟨fun _ _ x => x⟩
set_option synthInstance.checkSynthOrder false in
instance Ext.step {a b c : Heap} [s : Step b c] [e : Ext a b] : Ext a c := ⟨fun x o h => s.le x o (e.le x o h)⟩
theorem Ext.toStep {a b : Heap} (e : Ext a b) : Step a b := ⟨e.le⟩

/-- The activation's temporaries read as ρ; its deferred calls are ds. -/
structure Ag (n : Nat) (ds : List Deferred) (a : Act) (ρ : Env) : Prop where
  size : a.tmps.size = n
  defers : a.defers = ds
  get : ∀ t, a.tmps.getD t undef = ρ t

theorem Ag.eval {n : Nat} {ds : List Deferred} {a : Act} {ρ : Env} (h : Ag n ds a ρ) : a.eval = ρ.ev := by
  funext x
  cases x with
  | tmp t => exact h.get t
  | _ => rfl

theorem Ag.put {n : Nat} {ds : List Deferred} {a : Act} {ρ : Env} (h : Ag n ds a ρ) {d : Nat} (hd : Nat.blt d n = true) (v : Value) : Ag n ds (a.put (some d) v) (ρ.set d v) := by
  refine ⟨by simp [Act.put, h.size], h.defers, fun t => ?_⟩
  have hd' : d < a.tmps.size := by rw [h.size]; simpa [Nat.blt_eq] using hd
  by_cases e : t = d
  · subst e; rw [Env.set_eq]; simp [Act.put, hd']
  · rw [Env.set_ne _ _ e, ← h.get t]; simp [Act.put, Array.getElem?_setIfInBounds_ne (Ne.symm e)]

theorem Ag.putNone {n : Nat} {ds : List Deferred} {a : Act} {ρ : Env} (h : Ag n ds a ρ) (v : Value) : Ag n ds (a.put none v) ρ := h

/-- The machine's memory w, as it has grown from w0, where h0 was known: h is frozen in it, L is owned. -/
structure St (w0 : World) (h0 h : Heap) (L : Own) (w : World) : Prop where
  below : Below w0.heap.size w0 w
  ge : ∀ b o, h0 b = some o → h b = some o
  old : ∀ b, b < w0.heap.size → h b = h0 b
  fro : ∀ b o, h b = some o → w.heap[b]? = some o
  own : ∀ p ∈ L, w0.heap.size ≤ p.1 ∧ w.heap[p.1]? = some p.2 ∧ h p.1 = none
  nd : (L.map (·.1)).Nodup

theorem St.lt {w0 : World} {h0 h : Heap} {L : Own} {w : World} (s : St w0 h0 h L w) {b : Nat} {o : Obj} (hb : h b = some o) : b < w.heap.size :=
  (Array.getElem?_eq_some_iff.1 (s.fro b o hb)).1
theorem St.ownLt {w0 : World} {h0 h : Heap} {L : Own} {w : World} (s : St w0 h0 h L w) {p : Nat × Obj} (hp : p ∈ L) : p.1 < w.heap.size :=
  (Array.getElem?_eq_some_iff.1 (s.own p hp).2.1).1

theorem St.drew {w0 : World} {h0 h : Heap} {L : Own} {w : World} (s : St w0 h0 h L w) : St w0 h0 h L { w with drawn := w.drawn + 1 } :=
  ⟨⟨s.below.os, s.below.tape, s.below.output, s.below.size, s.below.block⟩, s.ge, s.old, s.fro, s.own, s.nd⟩

/-- What is known of the memory beside these is forgotten. -/
theorem St.drop {w0 : World} {h0 h : Heap} {p : Nat × Obj} {L : Own} {w : World} (s : St w0 h0 h (p :: L) w) : St w0 h0 h L w :=
  ⟨s.below, s.ge, s.old, s.fro, fun q hq => s.own q (List.mem_cons_of_mem _ hq), (List.nodup_cons.1 (by simpa using s.nd)).2⟩

/-- A new block. -/
theorem St.alloc {w0 : World} {h0 h : Heap} {L : Own} {w : World} (s : St w0 h0 h L w) (o : Obj) : St w0 h0 h ((w.heap.size, o) :: L) (w.alloc o) := by
  have hn : ∀ k, k < w.heap.size → (w.alloc o).heap[k]? = w.heap[k]? := fun k hk => Below.heap_alloc w o k hk
  refine ⟨s.below.alloc s.below.size o, s.ge, s.old, fun b o' hb => (hn b (s.lt hb)).trans (s.fro b o' hb), fun p hp => ?_, ?_⟩
  · rcases List.mem_cons.1 hp with rfl | hp
    · refine ⟨s.below.size, by show (w.heap.push o)[w.heap.size]? = some o; simp, ?_⟩
      cases e : h w.heap.size with
      | none => rfl
      | some o' => exact absurd (s.lt e) (Nat.lt_irrefl _)
    · exact ⟨(s.own p hp).1, (hn _ (s.ownLt hp)).trans (s.own p hp).2.1, (s.own p hp).2.2⟩
  · simp only [List.map_cons, List.nodup_cons]
    refine ⟨fun hm => ?_, s.nd⟩
    obtain ⟨p, hp, e⟩ := List.mem_map.1 hm
    have := s.ownLt hp
    omega

/-- The block at the head of the owned ones is freezed. -/
theorem St.freeze {w0 : World} {h0 h : Heap} {L : Own} {w : World} {b : Nat} {o : Obj} (s : St w0 h0 h ((b, o) :: L) w) :
    St w0 h0 (fun x => if x = b then some o else h x) L w ∧ Step h (fun x => if x = b then some o else h x) := by
  obtain ⟨hb1, hb2, hb3⟩ := s.own (b, o) (List.mem_cons_self ..)
  have hnd : b ∉ L.map (·.1) ∧ (L.map (·.1)).Nodup := List.nodup_cons.1 (by simpa using s.nd)
  refine ⟨⟨s.below, fun x o' hx => ?_, fun x hx => ?_, fun x o' hx => ?_, fun p hp => ?_, hnd.2⟩, ⟨fun x o' hx => ?_⟩⟩
  · have := s.ge x o' hx
    by_cases e : x = b
    · subst e; simp only at hb3; rw [this] at hb3; cases hb3
    · simp [e, this]
  · have : x ≠ b := by simp only at hb1; omega
    simp [this, s.old x hx]
  · by_cases e : x = b
    · subst e; simp only [if_true] at hx; cases hx; exact hb2
    · simp only [e, if_false] at hx; exact s.fro x o' hx
  · have hne : p.1 ≠ b := fun e => hnd.1 (e ▸ List.mem_map_of_mem hp)
    have := s.own p (List.mem_cons_of_mem _ hp)
    exact ⟨this.1, this.2.1, by simp [hne, this.2.2]⟩
  · by_cases e : x = b
    · subst e; simp only at hb3; rw [hx] at hb3; cases hb3
    · simp [e, hx]

/-- An order of the owned blocks is none. -/
theorem St.perm {w0 : World} {h0 h : Heap} {L L' : Own} {w : World} (s : St w0 h0 h L w) (p : L.Perm L') : St w0 h0 h L' w :=
  ⟨s.below, s.ge, s.old, s.fro, fun q hq => s.own q (p.mem_iff.2 hq), (p.map _).nodup_iff.1 s.nd⟩

/-- A change of one owned block alone. -/
theorem St.upd {w0 : World} {h0 h : Heap} {L1 L2 : Own} {w w' : World} {b : Nat} {o o' : Obj} (s : St w0 h0 h (L1 ++ (b, o) :: L2) w)
    (hos : w'.os = w.os) (ht : w'.tape = w.tape) (hout : w'.output = w.output) (hsz : w'.heap.size = w.heap.size)
    (hb : w'.heap[b]? = some o') (hne : ∀ k, k ≠ b → w'.heap[k]? = w.heap[k]?) : St w0 h0 h (L1 ++ (b, o') :: L2) w' := by
  have hm : (b, o) ∈ L1 ++ (b, o) :: L2 := by simp
  obtain ⟨hb1, hb2, hb3⟩ := s.own _ hm
  have hnd := s.nd
  refine ⟨⟨hos.trans s.below.os, ht.trans s.below.tape, hout.trans s.below.output, by rw [hsz]; exact s.below.size, fun k hk => ?_⟩, s.ge, s.old, fun x ox hx => ?_, fun p hp => ?_, ?_⟩
  · rw [hne k (by simp only at hb1; omega)]; exact s.below.block k hk
  · rw [hne x (fun e => by subst e; rw [hx] at hb3; cases hb3)]; exact s.fro x ox hx
  · rcases List.mem_append.1 hp with h | h
    · have hpb : p.1 ≠ b := fun e => by
        have hx : b ∈ L1.map (·.1) := e ▸ List.mem_map_of_mem h
        rw [List.map_append, List.nodup_append] at hnd
        exact hnd.2.2 b hx b (by simp) rfl
      have := s.own p (List.mem_append_left _ h)
      exact ⟨this.1, (hne _ hpb).trans this.2.1, this.2.2⟩
    · rcases List.mem_cons.1 h with rfl | h
      · exact ⟨hb1, hb, hb3⟩
      · have hpb : p.1 ≠ b := fun e => by
          have hx : b ∈ L2.map (·.1) := e ▸ List.mem_map_of_mem h
          rw [List.map_append, List.nodup_append] at hnd
          have := hnd.2.1
          simp only [List.map_cons, List.nodup_cons] at this
          exact this.1 hx
        have := s.own p (List.mem_append_right _ (List.mem_cons_of_mem _ h))
        exact ⟨this.1, (hne _ hpb).trans this.2.1, this.2.2⟩
  · simpa using hnd

/-- The fence under which everything is walked: any function, any depth; in a round of a range over a function or not. -/
def fen (r : Option Nat) : Fence := { fn := fun _ => True, depth := none, alive := false, round := r }
theorem fen_none : fen none = Fence.wide := rfl

/-- What stays the same while one activation is walked: program, round, number of temporaries, memory and frozen blocks at the beginning. -/
structure Cfg where
  P : Program
  r : Option Nat
  n : Nat
  w0 : World
  h0 : Heap

abbrev Post := Exit → List Deferred → Env → Heap → Own → Prop

def lift (C : Cfg) (Q : Post) : Exit → Act → World → Prop := fun e a w =>
  ∃ ds ρ h L, Ag C.n ds a ρ ∧ St C.w0 C.h0 h L w ∧ Q e ds ρ h L

def J (C : Cfg) (c : Code) (Q : Post) (ds : List Deferred) (ρ : Env) (h : Heap) (L : Own) : Prop :=
  ∀ a w, Ag C.n ds a ρ → St C.w0 C.h0 h L w → c.wpIn (fen C.r) 0 C.P (lift C Q) a w

@[reducible] def thenQ (K : List Deferred → Env → Heap → Own → Prop) (Q : Post) : Post
  | .normal, ds, ρ, h, L => K ds ρ h L
  | e, ds, ρ, h, L => Q e ds ρ h L
@[reducible] def inB (id : Nat) (Q : Post) : Post
  | .exit id', ds, ρ, h, L => bif Nat.beq id' id then Q .normal ds ρ h L else Q (.exit id') ds ρ h L
  | e, ds, ρ, h, L => Q e ds ρ h L

variable {C : Cfg} {Q Q' : Post} {ds : List Deferred} {ρ : Env} {h : Heap} {L : Own}

theorem J.mono {c : Code} (hj : J C c Q ds ρ h L) (hq : ∀ e ds ρ h L, Q e ds ρ h L → Q' e ds ρ h L) : J C c Q' ds ρ h L :=
  fun a w ha hs => wpIn_mono (hj a w ha hs) fun _ _ _ ⟨ds, ρ, h, L, x, y, z⟩ => ⟨ds, ρ, h, L, x, y, hq _ _ _ _ _ z⟩

theorem J.seq {x y : Code} (hx : J C x (thenQ (J C y Q) Q) ds ρ h L) : J C (.seq x y) Q ds ρ h L := fun a w ha hs => by
  refine wpIn_seq (wpIn_mono (hx a w ha hs) ?_)
  rintro e a' w' ⟨ds', ρ', h', L', h1, h2, h3⟩
  cases e <;> first | exact h3 a' w' h1 h2 | exact ⟨ds', ρ', h', L', h1, h2, h3⟩
theorem J.skip (hq : Q .normal ds ρ h L) : J C .skip Q ds ρ h L := fun _ _ ha hs => wpIn_skip ⟨_, _, _, _, ha, hs, hq⟩
theorem J.label {l : Nat} (hq : Q .normal ds ρ h L) : J C (.label l) Q ds ρ h L := fun _ _ ha hs => wpIn_label ⟨_, _, _, _, ha, hs, hq⟩
theorem J.exit {id : Nat} (hq : Q (.exit id) ds ρ h L) : J C (.exit id) Q ds ρ h L := fun _ _ ha hs => wpIn_exit ⟨_, _, _, _, ha, hs, hq⟩
theorem J.ret (hq : Q .ret ds ρ h L) : J C .ret Q ds ρ h L := fun _ _ ha hs => wpIn_ret ⟨_, _, _, _, ha, hs, hq⟩
theorem J.cond {c : Operand} {x y : Code} {t : Bool} (hc : ρ.ev c = .bool t) (ht : t = true → J C x Q ds ρ h L) (hf : t = false → J C y Q ds ρ h L) :
    J C (.cond c x y) Q ds ρ h L := fun a w ha hs => by
  have hc' : a.eval c = .bool t := by rw [ha.eval]; exact hc
  cases t
  · exact wpIn_cond_false hc' (hf rfl a w ha hs)
  · exact wpIn_cond_true hc' (ht rfl a w ha hs)
theorem J.condT {c : Operand} {x y : Code} {t : Bool} (hc : ρ.ev c = .bool t) (ht : t = true) (hx : J C x Q ds ρ h L) : J C (.cond c x y) Q ds ρ h L :=
  J.cond hc (fun _ => hx) (fun e => by rw [ht] at e; cases e)
theorem J.condF {c : Operand} {x y : Code} {t : Bool} (hc : ρ.ev c = .bool t) (ht : t = false) (hx : J C y Q ds ρ h L) : J C (.cond c x y) Q ds ρ h L :=
  J.cond hc (fun e => by rw [ht] at e; cases e) (fun _ => hx)
/-- The test is a decision of p. -/
theorem J.condD {c : Operand} {x y : Code} {p : Prop} [Decidable p] (hc : ρ.ev c = .bool (decide p)) (ht : p → J C x Q ds ρ h L) (hf : ¬ p → J C y Q ds ρ h L) :
    J C (.cond c x y) Q ds ρ h L := J.cond hc (fun e => ht (of_decide_eq_true e)) (fun e => hf (of_decide_eq_false e))
theorem J.block {id : Nat} {c : Code} (hj : J C c (inB id Q) ds ρ h L) : J C (.block id c) Q ds ρ h L := fun a w ha hs => by
  refine wpIn_block (wpIn_mono (hj a w ha hs) ?_)
  rintro e a' w' ⟨ds', ρ', h', L', h1, h2, h3⟩
  cases e with
  | exit id' =>
    by_cases e : id' = id
    · subst e; simp only [inB, Nat.beq_refl, cond_true] at h3
      simp only [Exit.inBlock, if_true]; exact ⟨ds', ρ', h', L', h1, h2, h3⟩
    · simp only [inB, beq_ff e, cond_false] at h3
      simp only [Exit.inBlock, e, if_false]; exact ⟨ds', ρ', h', L', h1, h2, h3⟩
  | _ => exact ⟨ds', ρ', h', L', h1, h2, h3⟩
theorem stepR_scope {P : Program} {b : Frame} {a : Act} {k : List Item} {cs : List Frame} {w : World} {c : Code} :
    step P (lone (b.atR a (.code (.scope c) :: k)) cs w) = .next (lone (b.atR a (.code c :: .inScope c :: k)) cs w) :=
  step_lone_go (by simp [stepG, stepG.exec, Frame.atR])
theorem stepR_inScope {P : Program} {b : Frame} {a : Act} {k : List Item} {cs : List Frame} {w : World} {c : Code} :
    step P (lone (b.atR a (.inScope c :: k)) cs w) = .next (lone (b.atR a k) cs w) :=
  step_lone_go (by simp [stepG, stepG.exec, Frame.atR])
theorem wpIn_scope {F : Fence} {n : Nat} {P : Program} {c : Code} {Q : Exit → Act → World → Prop} {a : Act} {w : World}
    (hg : ∀ l a w, Q (.goto l) a w → False) (h : c.wpIn F n P Q a w) : (Code.scope c).wpIn F n P Q a w := by
  intro b k cs hro hb hr
  have h0 : (lone (b.atR a (.code (.scope c) :: k)) cs w).fenced P F := fenced_calm hb hr rfl
  obtain ⟨e, a₁, w₁, hq, harr⟩ := h b (.inScope c :: k) cs hro hb hr
  cases e with
  | normal => exact ⟨.normal, a₁, w₁, hq, .head h0 stepR_scope (StepsIn.trans harr (.one (fenced_calm hb hr rfl) stepR_inScope))⟩
  | exit id =>
    have hx : exitTo id (.inScope c :: k) = exitTo id k := by simp [exitTo]
    exact ⟨_, a₁, w₁, hq, fun k' hk => .head h0 stepR_scope (harr.1 k' (by rw [hx]; exact hk)),
      fun hr' hk => let ⟨k₁, h1, h2⟩ := harr.2 hr' (by rw [hx]; exact hk); ⟨k₁, h1, .head h0 stepR_scope h2⟩⟩
  | goto l => exact (hg _ _ _ hq).elim
  | ret => exact ⟨_, a₁, w₁, hq, .of_steps (.one h0 stepR_scope) harr⟩
  | panic ch => exact ⟨_, a₁, w₁, hq, .of_steps (.one h0 stepR_scope) harr⟩
  | outgrown => exact ⟨_, a₁, w₁, hq, .of_steps (.one h0 stepR_scope) harr⟩
@[reducible] def noGo (Q : Post) : Post
  | .goto _, _, _, _, _ => False
  | e, ds, ρ, h, L => Q e ds ρ h L
theorem J.scope {c : Code} (hj : J C c (noGo Q) ds ρ h L) : J C (.scope c) Q ds ρ h L := fun a w ha hs => by
  refine wpIn_mono (wpIn_scope (Q := lift C (noGo Q)) (fun l a w ⟨_, _, _, _, _, _, x⟩ => x) (hj a w ha hs)) ?_
  rintro e a' w' ⟨ds', ρ', h', L', h1, h2, h3⟩
  cases e with
  | goto l => exact h3.elim
  | _ => exact ⟨ds', ρ', h', L', h1, h2, h3⟩

/-- A loop: the slots of 'keep' hold what they held at its beginning; those of 'live x' hold what x says; 'I x' speaks of the owned blocks and the frozen ones; x goes down. -/
def setAll (ρ : Env) : List (Nat × Value) → Env
  | [] => ρ
  | (t, v) :: l => (setAll ρ l).set t v
def Has (ρ : Env) : List (Nat × Value) → Prop
  | [] => True
  | (t, v) :: l => ρ t = v ∧ Has ρ l
theorem setAll_self : ∀ (ρ : Env) (l : List (Nat × Value)), Has ρ l → setAll ρ l = ρ
  | _, [], _ => rfl
  | ρ, (t, v) :: l, ⟨e, hl⟩ => by
    rw [setAll, setAll_self ρ l hl]
    funext s
    by_cases e' : s = t
    · subst e'; rw [Env.set_eq, e]
    · rw [Env.set_ne _ _ e']

def keepOf (ρ : Env) : List Nat → List (Nat × Value)
  | [] => []
  | t :: l => (t, ρ t) :: keepOf ρ l

theorem J.loop {α : Type} {c : Code} (I : α → Heap → Own → Prop) (keep : List Nat) (sl : α → List (Nat × Value)) (μ : α → Nat) (x0 : α)
    (h0 : I x0 h L) (hs : Has ρ (sl x0))
    (round : ∀ x σ h' L', Step h h' → I x h' L' →
      J C c (thenQ (fun ds' ρ' h'' L'' => ∃ x', ds' = ds ∧ Has ρ' (keepOf ρ keep) ∧ Has ρ' (sl x') ∧ I x' h'' L'' ∧ μ x' < μ x ∧ Ext h h'') Q) ds
        (setAll (setAll σ (keepOf ρ keep)) (sl x)) h' L') : J C (.loop c) Q ds ρ h L := by
  have hk : ∀ l : List Nat, Has ρ (keepOf ρ l) := fun l => by induction l with
    | nil => trivial
    | cons t l ih => exact ⟨rfl, ih⟩
  have key : ∀ m x ρ' h' L', μ x < m → Ext h h' → Has ρ' (keepOf ρ keep) → Has ρ' (sl x) → I x h' L' → ∀ a w, Ag C.n ds a ρ' → St C.w0 C.h0 h' L' w →
      Code.roundsIn (fen C.r) 0 C.P c (lift C Q) m a w := by
    intro m
    induction m with
    | zero => intro x _ _ _ hm; exact absurd hm (Nat.not_lt_zero _)
    | succ m ih =>
      intro x ρ' h' L' hm hx hk' hsl hI a w ha hst
      have hj := round x ρ' h' L' hx.toStep hI
      rw [setAll_self _ _ hk', setAll_self _ _ hsl] at hj
      refine wpIn_mono (hj a w ha hst) ?_
      rintro e a' w' ⟨ds', ρ2, h2, L2, g1, g2, g3⟩
      cases e with
      | normal =>
        obtain ⟨x', rfl, e1, e2, e3, e4, e5⟩ := g3
        exact ih x' ρ2 h2 L2 (by omega) e5 e1 e2 e3 a' w' g1 g2
      | _ => exact ⟨_, _, _, _, g1, g2, g3⟩
  exact fun a w ha hst => wpIn_loop_rounds (μ x0 + 1) (key (μ x0 + 1) x0 ρ h L (Nat.lt_succ_self _) inferInstance (hk keep) hs h0 a w ha hst)

/-- A post between two pieces of code. -/
theorem J.cut {x y : Code} (K : List Deferred → Env → Heap → Own → Prop) (hx : J C x (thenQ K Q) ds ρ h L) (hy : ∀ ds ρ h L, K ds ρ h L → J C y Q ds ρ h L) :
    J C (.seq x y) Q ds ρ h L :=
  J.seq (hx.mono fun e ds ρ h L q => by cases e <;> first | exact hy _ _ _ _ q | exact q)

/-- A post between two pieces of code, in a loop's words. -/
theorem J.cutS {α : Type} {x y : Code} (I : α → Heap → Own → Prop) (keep : List Nat) (sl : α → List (Nat × Value))
    (hx : J C x (thenQ (fun ds' ρ' h' L' => ∃ z, ds' = ds ∧ Has ρ' (keepOf ρ keep) ∧ Has ρ' (sl z) ∧ I z h' L' ∧ Ext h h') Q) ds ρ h L)
    (hy : ∀ z σ h' L', Step h h' → I z h' L' → J C y Q ds (setAll (setAll σ (keepOf ρ keep)) (sl z)) h' L') : J C (.seq x y) Q ds ρ h L :=
  J.cut _ hx fun ds' ρ' h' L' ⟨z, e, k1, k2, k3, k4⟩ => by
    subst e
    have := hy z ρ' h' L' k4.toStep k3
    rwa [setAll_self _ _ k1, setAll_self _ _ k2] at this

theorem J.drop {c : Code} {p : Nat × Obj} (hj : J C c Q ds ρ h L) : J C c Q ds ρ h (p :: L) := fun a w ha hs => hj a w ha hs.drop
theorem J.freeze {c : Code} {b : Nat} {o : Obj} (hj : ∀ h', Step h h' → h' b = some o → J C c Q ds ρ h' L) : J C c Q ds ρ h ((b, o) :: L) :=
  fun a w ha hs => hj _ hs.freeze.2 (by simp) a w ha hs.freeze.1
theorem J.perm {c : Code} {L' : Own} (hp : L.Perm L') (hj : J C c Q ds ρ h L') : J C c Q ds ρ h L := fun a w ha hs => hj a w ha (hs.perm hp)

/-- What a call gives: a value and frozen blocks of which R speaks; whatever was there before stays. -/
def Fn (P : Program) (f : FuncId) (args : Array Value) (h : Heap) (R : Value → Heap → Prop) : Prop :=
  ∀ w, (∀ b o, h b = some o → w.heap[b]? = some o) → Calls P f args w fun e w' => ∃ v h', e = .returned v ∧ Below w.heap.size w w' ∧ Ext h h' ∧
    (∀ b, b < w.heap.size → h' b = h b) ∧ (∀ b o, h' b = some o → w'.heap[b]? = some o) ∧ R v h'

theorem Fn.mono {P : Program} {f : FuncId} {args : Array Value} {h : Heap} {R R' : Value → Heap → Prop} (hf : Fn P f args h R) (hr : ∀ v h', Ext h h' → R v h' → R' v h') : Fn P f args h R' :=
  fun w hw => (hf w hw).mono fun _ _ ⟨v, h', a, b, c, d, e, f⟩ => ⟨v, h', a, b, c, d, e, hr _ _ c f⟩

def argEnv (l : List Value) : Env := fun t => l.getD t undef

theorem results_run {P : Program} {n : Nat} {ds : List Deferred} {a : Act} {ρ : Env} {w : World} {fn : Func} {t : Tmp} (ha : Ag n ds a ρ) (hr : fn.results = #[.tmp t]) :
    (results fn a.tmps).run P w = .ok (ρ t) w := by
  rw [results_tmp hr, ha.get]

def RetR (C : Cfg) (fn : Func) (ρ : Env) (h : Heap) (L : Own) (v : Value) : Prop :=
  ∀ a w ds, Ag C.n ds a ρ → St C.w0 C.h0 h L w → (results fn a.tmps).run C.P w = .ok v w

/-- What the body of a function must come to. -/
def retQ (C : Cfg) (fn : Func) (R : Value → Heap → Prop) : Post := fun e ds ρ h L =>
  (e = .normal ∨ e = .ret) ∧ ds = [] ∧ ∃ v, RetR C fn ρ h L v ∧ R v h

theorem Fn.intro {P : Program} {f : FuncId} {fn : Func} {c : Code} {args : List Value} {h : Heap} {R : Value → Heap → Prop} {n : Nat} (hf : P.funcs[f]? = some fn) (hb : fn.body = some c)
    (hn : fn.ntmps = n) (hl : args.length ≤ n)
    (hj : ∀ w, J ⟨P, none, n, w, h⟩ c (retQ ⟨P, none, n, w, h⟩ fn R) [] (argEnv args) h []) : Fn P f args.toArray h R := by
  intro w hw
  refine (callsIn_wide (n := 0)).1 (callsIn_of_wp hf hb trivial (wpIn_mono (hj w _ w ⟨?_, rfl, fun t => ?_⟩ ⟨Below.refl _ _, fun _ _ x => x, fun _ _ => rfl, hw, fun _ hp => (by cases hp), by simp⟩) ?_))
  · simp [hn]; omega
  · simp only [argEnv, List.getD_eq_getElem?_getD]
    rcases Nat.lt_or_ge t args.length with ht | ht
    · simp [Array.getElem?_append, ht]
    · by_cases h2 : t - args.length < fn.ntmps - args.length
      · simp [Array.getElem?_append, Nat.not_lt.2 ht, List.getElem?_eq_none ht, h2]
      · simp [Array.getElem?_append, Nat.not_lt.2 ht, List.getElem?_eq_none ht, h2]
  · rintro e a' w' ⟨ds, ρ, h', L, h1, h2, he, rfl, v, hv, hR⟩
    have hres := hv a' w' _ h1 h2
    have post : a'.defers = [] ∧ ∃ v, (results fn a'.tmps).run P w' = .ok v w' ∧ ∃ v1 h', Ending.returned v = .returned v1 ∧ Below w.heap.size w w' ∧ Ext h h' ∧
      (∀ b, b < w.heap.size → h' b = h b) ∧ (∀ b o, h' b = some o → w'.heap[b]? = some o) ∧ R v1 h' :=
      ⟨h1.defers, v, hres, v, h', rfl, h2.below, ⟨h2.ge⟩, h2.old, h2.fro, hR⟩
    rcases he with rfl | rfl
    · exact post
    · exact post
end Go.Z
