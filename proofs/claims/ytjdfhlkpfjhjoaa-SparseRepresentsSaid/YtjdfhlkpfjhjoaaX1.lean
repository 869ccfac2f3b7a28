/- Texts of ours, joined: Mon, MPrim, TyM, Wrap, MSan, L6RM, Run, Law6P, Law6Q, B1, B2, B3, B4, B5. -/
import Derived.WalkKit
import Derived.RangeFuncLeaves
import Derived.OrdersIn
import Derived.LoopNIn
section
set_option linter.unusedSimpArgs false
set_option linter.unusedVariables false
/- The words in which the models of the functions are written: partial computations over plain values. No program is named here. -/
set_option linter.unusedVariables false
namespace Go.Z

def chk {β : Type} (p : Prop) [Decidable p] (k : Option β) : Option β := if p then k else none
theorem chk_some {β : Type} {p : Prop} [Decidable p] {k : Option β} {r : β} (h : chk p k = some r) : p ∧ k = some r := by
  unfold chk at h
  split at h
  · exact ⟨‹p›, h⟩
  · cases h
@[simp] theorem chk_pos {β : Type} {p : Prop} [Decidable p] {k : Option β} (h : p) : chk p k = k := if_pos h

/-- The number fits into 64 bits with a sign. -/
def chk64 {β : Type} (n : Int) (k : Option β) : Option β := if -9223372036854775808 ≤ n ∧ n ≤ 9223372036854775807 then k else none
theorem chk64_some {β : Type} {n : Int} {k : Option β} {r : β} (h : chk64 n k = some r) : (-9223372036854775808 ≤ n ∧ n ≤ 9223372036854775807) ∧ k = some r := by
  unfold chk64 at h
  split at h
  · exact ⟨‹_›, h⟩
  · cases h
theorem chk64_pos {β : Type} {n : Int} {k : Option β} (h : -9223372036854775808 ≤ n ∧ n ≤ 9223372036854775807) : chk64 n k = k := if_pos h

/-- The element at i. -/
def nth {α β : Type} (l : List α) (i : Int) (k : α → Option β) : Option β := if 0 ≤ i then (match l[i.toNat]? with | some a => k a | none => none) else none
theorem nth_some {α β : Type} {l : List α} {i : Int} {k : α → Option β} {r : β} (h : nth l i k = some r) : ∃ (n : Nat) (a : α), i = (n : Int) ∧ n < l.length ∧ l[n]? = some a ∧ k a = some r := by
  unfold nth at h
  split at h
  · split at h
    · rename_i a ha
      exact ⟨i.toNat, a, by omega, (List.getElem?_eq_some_iff.1 ha).1, ha, h⟩
    · cases h
  · cases h
theorem nth_at {α β : Type} {l : List α} {n : Nat} {a : α} {k : α → Option β} (h : l[n]? = some a) : nth l (n : Int) k = k a := by
  unfold nth
  rw [if_pos (by omega), Int.toNat_natCast, h]
theorem nth_i {α β : Type} {l : List α} {i : Int} {n : Nat} {a : α} {k : α → Option β} (hi : i = (n : Int)) (h : l[n]? = some a) : nth l i k = k a := by
  subst hi; exact nth_at h

def bnd {α β : Type} (m : Option α) (k : α → Option β) : Option β := match m with | some a => k a | none => none
theorem bnd_some {α β : Type} {m : Option α} {k : α → Option β} {r : β} (h : bnd m k = some r) : ∃ a, m = some a ∧ k a = some r := by
  unfold bnd at h
  split at h
  · exact ⟨_, rfl, h⟩
  · cases h
@[simp] theorem bnd_pure {α β : Type} {a : α} {k : α → Option β} : bnd (some a) k = k a := rfl
theorem bnd_at {α β : Type} {m : Option α} {a : α} {k : α → Option β} (h : m = some a) : bnd m k = k a := by subst h; rfl

/-- Out of a round, with what the whole answers. -/
def lft {σ α : Type} (m : Option α) : Option (σ ⊕ α) := match m with | some a => some (.inr a) | none => none
theorem lft_some {σ α : Type} {m : Option α} {o : σ ⊕ α} (h : lft m = some o) : ∃ a, m = some a ∧ o = .inr a := by
  unfold lft at h
  split at h
  · cases h; exact ⟨_, rfl, rfl⟩
  · cases h
@[simp] theorem lft_pure {σ α : Type} {a : α} : (lft (some a) : Option (σ ⊕ α)) = some (.inr a) := rfl
theorem ite_T {β : Type} {p : Prop} [Decidable p] {a b : Option β} {r : β} (hp : p) (h : (if p then a else b) = some r) : a = some r := by rwa [if_pos hp] at h
theorem ite_F {β : Type} {p : Prop} [Decidable p] {a b : Option β} {r : β} (hp : ¬ p) (h : (if p then a else b) = some r) : b = some r := by rwa [if_neg hp] at h

/-- What a round comes to: on with the next one, or out. -/
def onward {σ α : Type} (next : σ → Option α) (r : α) : σ ⊕ α → Prop
  | .inl s => next s = some r
  | .inr a => a = r

/-- Over the elements of a list, which are counted. -/
def forL {α σ β : Type} (b : Nat → α → σ → Option (σ ⊕ β)) (e : σ → Option β) : List α → Nat → σ → Option β
  | [], _, s => e s
  | x :: l, i, s => match b i x s with
    | some (.inl s') => forL b e l (i + 1) s'
    | some (.inr a) => some a
    | none => none
theorem forL_nil {α σ β : Type} {b : Nat → α → σ → Option (σ ⊕ β)} {e : σ → Option β} {l : List α} {n : Nat} {s : σ} {r : β} (hn : ¬ (n : Int) < (l.length : Int)) (h : forL b e (l.drop n) n s = some r) : e s = some r := by
  rw [List.drop_eq_nil_of_le (by omega)] at h
  exact h
theorem forL_cons {α σ β : Type} {b : Nat → α → σ → Option (σ ⊕ β)} {e : σ → Option β} {l : List α} {n : Nat} {s : σ} {r : β} (hn : (n : Int) < (l.length : Int)) (h : forL b e (l.drop n) n s = some r) :
    ∃ x o, n < l.length ∧ l[n]? = some x ∧ b n x s = some o ∧ onward (forL b e (l.drop (n + 1)) (n + 1)) r o := by
  have hn' : n < l.length := by omega
  rw [List.drop_eq_getElem_cons hn'] at h
  refine ⟨l[n], ?_⟩
  simp only [forL] at h
  split at h
  · exact ⟨.inl _, hn', by simp [hn'], ‹_›, h⟩
  · rename_i a ha
    cases h
    exact ⟨.inr _, hn', by simp [hn'], ha, rfl⟩
  · cases h
def rngL {α σ β : Type} (b : Nat → α → σ → Option (σ ⊕ β)) (e : σ → Option β) (l : List α) (s : σ) : Option β := chk (l.length ≤ 4611686018427387904) (forL b e l 0 s)
theorem rngL_some {α σ β : Type} {b : Nat → α → σ → Option (σ ⊕ β)} {e : σ → Option β} {l : List α} {s : σ} {r : β} (h : rngL b e l s = some r) : l.length ≤ 4611686018427387904 ∧ forL b e (l.drop 0) 0 s = some r := chk_some h

/-- Over the numbers from i on, below n. -/
def forI {σ β : Type} (b : Int → σ → Option (σ ⊕ β)) (e : σ → Option β) : Nat → Int → σ → Option β
  | 0, _, s => e s
  | m + 1, i, s => match b i s with
    | some (.inl s') => forI b e m (i + 1) s'
    | some (.inr a) => some a
    | none => none
def forN {σ β : Type} (b : Int → σ → Option (σ ⊕ β)) (e : σ → Option β) (n i : Int) (s : σ) : Option β := forI b e (n - i).toNat i s
theorem forN_ge {σ β : Type} {b : Int → σ → Option (σ ⊕ β)} {e : σ → Option β} {n i : Int} {s : σ} {r : β} (hn : ¬ i < n) (h : forN b e n i s = some r) : e s = some r := by
  unfold forN at h
  rw [show (n - i).toNat = 0 by omega] at h
  exact h
theorem forN_lt {σ β : Type} {b : Int → σ → Option (σ ⊕ β)} {e : σ → Option β} {n i : Int} {s : σ} {r : β} (hn : i < n) (h : forN b e n i s = some r) : ∃ o, b i s = some o ∧ onward (forN b e n (i + 1)) r o := by
  unfold forN at h
  obtain ⟨m, hm⟩ : ∃ m, (n - i).toNat = m + 1 := ⟨(n - i).toNat - 1, by omega⟩
  rw [hm] at h
  have hm2 : (n - (i + 1)).toNat = m := by omega
  simp only [forI] at h
  split at h
  · refine ⟨.inl _, ‹_›, ?_⟩
    show forN b e n (i + 1) _ = some r
    unfold forN
    rw [hm2]; exact h
  · rename_i a ha
    cases h
    exact ⟨.inr _, ha, rfl⟩
  · cases h
def rngN {σ β : Type} (b : Int → σ → Option (σ ⊕ β)) (e : σ → Option β) (n i : Int) (s : σ) : Option β := chk (-9223372036854775808 ≤ i ∧ n ≤ 9223372036854775807) (forN b e n i s)
theorem rngN_some {σ β : Type} {b : Int → σ → Option (σ ⊕ β)} {e : σ → Option β} {n i : Int} {s : σ} {r : β} (h : rngN b e n i s = some r) : (-9223372036854775808 ≤ i ∧ n ≤ 9223372036854775807) ∧ forN b e n i s = some r := chk_some h

/-- As often as the body says so. -/
def iter {σ β : Type} (b : σ → Option (σ ⊕ β)) : Nat → σ → Option β
  | 0, _ => none
  | m + 1, s => match b s with
    | some (.inl s') => iter b m s'
    | some (.inr a) => some a
    | none => none
def fuel : Nat := 1000000000000
def loop {σ β : Type} (b : σ → Option (σ ⊕ β)) (s : σ) : Option β := iter b fuel s
theorem iter_some {σ β : Type} {b : σ → Option (σ ⊕ β)} {m : Nat} {s : σ} {r : β} (h : iter b m s = some r) : ∃ k o, m = k + 1 ∧ b s = some o ∧ onward (iter b k) r o := by
  cases m with
  | zero => cases h
  | succ k =>
    simp only [iter] at h
    split at h
    · exact ⟨k, .inl _, rfl, ‹_›, h⟩
    · rename_i a ha
      cases h
      exact ⟨k, .inr _, rfl, ha, rfl⟩
    · cases h
theorem iter_mono {σ β : Type} {b : σ → Option (σ ⊕ β)} {r : β} : ∀ {m k : Nat} {s : σ}, iter b m s = some r → m ≤ k → iter b k s = some r
  | m, k, s, h, hk => by
    obtain ⟨m', o, rfl, hb, ho⟩ := iter_some h
    obtain ⟨k', rfl⟩ : ∃ k', k = k' + 1 := ⟨k - 1, by omega⟩
    simp only [iter, hb]
    cases o with
    | inl s' => exact iter_mono (show iter b m' s' = some r from ho) (by omega)
    | inr a => exact congrArg some ho
theorem loop_of {σ β : Type} {b : σ → Option (σ ⊕ β)} {r : β} {m : Nat} {s : σ} (h : iter b m s = some r) (hm : m ≤ 1000000000000) : loop b s = some r := iter_mono h hm
theorem inl_onward {σ α : Type} {next : σ → Option α} {r : α} {s : σ} {o : σ ⊕ α} (h : some (Sum.inl s) = some o) (ho : onward next r o) : next s = some r := by cases h; exact ho
theorem inr_onward {σ α : Type} {m : Option α} {next : σ → Option α} {r : α} {o : σ ⊕ α} (h : lft m = some o) (ho : onward next r o) : m = some r := by
  obtain ⟨a, ha, rfl⟩ := lft_some h
  rw [ha, show a = r from ho]

/-- A slice that is made, lengthened, cut. -/
def mkl {α : Type} (n : Int) (z : α) : Option (List α) := if 0 ≤ n ∧ n ≤ 1000000000 then some (List.replicate n.toNat z) else none
theorem mkl_some {α : Type} {n : Int} {z : α} {l : List α} (h : mkl n z = some l) : n = (l.length : Int) ∧ l.length ≤ 1000000000 ∧ l = List.replicate l.length z := by
  unfold mkl at h
  split at h
  · cases h
    rw [List.length_replicate]
    exact ⟨by omega, by omega, rfl⟩
  · cases h
def app {α : Type} (l m : List α) : Option (List α) := if l.length + m.length ≤ 1000000000 then some (l ++ m) else none
theorem app_some {α : Type} {l m r : List α} (h : app l m = some r) : l.length + m.length ≤ 1000000000 ∧ r = l ++ m := by
  unfold app at h
  split at h
  · cases h; exact ⟨‹_›, rfl⟩
  · cases h
theorem app_at {α : Type} {l m : List α} (h : l.length + m.length ≤ 1000000000) : app l m = some (l ++ m) := if_pos h
def cutL {α : Type} (l : List α) (i j : Int) : Option (List α) := if 0 ≤ i ∧ i ≤ j ∧ j ≤ (l.length : Int) then some ((l.take j.toNat).drop i.toNat) else none
theorem cutL_some {α : Type} {l r : List α} {i j : Int} (h : cutL l i j = some r) : ∃ a b : Nat, i = (a : Int) ∧ j = (b : Int) ∧ a ≤ b ∧ b ≤ l.length ∧ r = (l.take b).drop a := by
  unfold cutL at h
  split at h
  · cases h
    exact ⟨i.toNat, j.toNat, by omega, by omega, by omega, by omega, rfl⟩
  · cases h
theorem cutL_at {α : Type} {l : List α} {a b : Nat} (h1 : a ≤ b) (h2 : b ≤ l.length) : cutL l (a : Int) (b : Int) = some ((l.take b).drop a) := by
  unfold cutL; rw [if_pos (by omega)]; simp
theorem lt_pow2 {a n m : Nat} (h : a < 2 ^ n) (hn : n ≤ m) : a < 2 ^ m := Nat.lt_of_lt_of_le h (Nat.pow_le_pow_right (by decide) hn)
/-- A number in whose limbs all reckoning has room. -/
def Ft (z : Int) : Prop := z.natAbs < 2 ^ 1000000
instance (z : Int) : Decidable (Ft z) := inferInstanceAs (Decidable (z.natAbs < 2 ^ 1000000))
def setL {α : Type} (l : List α) (i : Int) (a : α) : List α := l.set i.toNat a
end Go.Z
namespace Go.Z
/-- Maps: entries in the order in which they came. -/
def mfind {α : Type} : List (Int × α) → Int → Option α
  | [], _ => none
  | (k, a) :: m, x => if x = k then some a else mfind m x
def mget {α : Type} (m : List (Int × α)) (x : Int) (z : α) : α := (mfind m x).getD z
def mhas {α : Type} (m : List (Int × α)) (x : Int) : Bool := (mfind m x).isSome
def mput {α : Type} : List (Int × α) → Int → α → List (Int × α)
  | [], x, b => [(x, b)]
  | (k, a) :: m, x, b => if x = k then (x, b) :: m else (k, a) :: mput m x b
def mdel {α : Type} : List (Int × α) → Int → List (Int × α)
  | [], _ => []
  | (k, a) :: m, x => if x = k then m else (k, a) :: mdel m x
end Go.Z
end
section
set_option linter.unusedSimpArgs false
set_option linter.unusedVariables false
/- The models of the integers' functions: what the programs do with whole numbers. No program is named here. -/
set_option linter.unusedVariables false
namespace Go.Z.M
def iadd (x y : Int) : Option Int := if Ft x ∧ Ft y then some (x + y) else none
def imul (x y : Int) : Option Int := if Ft x ∧ Ft y then some (x * y) else none
def isub (x y : Int) : Option Int := if Ft x ∧ Ft y then some (x - y) else none
def ineg (x : Int) : Option Int := if Ft x then some (-x) else none
def iabs (x : Int) : Option Int := if Ft x then some (x.natAbs : Int) else none
def isign (x : Int) : Option Int := if Ft x then some x.sign else none
def icmp (x y : Int) : Option Int := if Ft x ∧ Ft y then some (if x < y then -1 else if y < x then 1 else 0) else none
def isame (x y : Int) : Option Bool := if Ft x ∧ Ft y then some (decide (x = y)) else none
def ivalid (x : Int) : Option Bool := if Ft x then some true else none
def iof (n : Int) : Option Int := if -9223372036854775808 ≤ n ∧ n ≤ 9223372036854775807 then some n else none
def cmpi (a b : Int) : Option Int := some (if a < b then -1 else if b < a then 1 else 0)
end Go.Z.M
end
section
set_option linter.unusedSimpArgs false
set_option linter.unusedVariables false
/- The types of the program, as plain Lean structures. -/
namespace Go.Z

structure TMat where
  Rows : Int
  Cols : Int
  A : List (List Int)
  deriving DecidableEq, Inhabited, Repr
structure R06Raw where
  Rows : Int
  Cols : Int
  A : List Int
  deriving DecidableEq, Inhabited, Repr
structure TTerm where
  Col : Int
  V : Int
  deriving DecidableEq, Inhabited, Repr
structure TSparse where
  Rows : Int
  Cols : Int
  L : List (List TTerm)
  deriving DecidableEq, Inhabited, Repr
end Go.Z
end
section
set_option linter.unusedSimpArgs false
set_option linter.unusedVariables false
/- Numbers of a kind without a sign, or of few bits, after an operation. -/
namespace Go.Z.GoWrap
open Go
def u64 (n : Int) : Int := n % 18446744073709551616
def u32 (n : Int) : Int := n % 4294967296
def u8 (n : Int) : Int := n % 256
theorem u64_eq (n : Int) : IntKind.u64.wrap n = u64 n := by simp [IntKind.wrap, IntKind.signed, IntKind.bits, u64]
theorem u32_eq (n : Int) : IntKind.u32.wrap n = u32 n := by simp [IntKind.wrap, IntKind.signed, IntKind.bits, u32]
theorem u8_eq (n : Int) : IntKind.u8.wrap n = u8 n := by simp [IntKind.wrap, IntKind.signed, IntKind.bits, u8]
end Go.Z.GoWrap
end
section
set_option linter.unusedSimpArgs false
set_option linter.unusedVariables false
/- The model of the examples: they hold. No program is named here. -/
namespace Go.Z.M
def sanity6 : Option Bool := some true
end Go.Z.M
end
section
set_option linter.unusedSimpArgs false
set_option linter.unusedVariables false
/- Models of functions of the program, printed by wip/tools/gx.py. -/
set_option linter.unusedVariables false
namespace Go.Z.M
open Go.Z
/- torsion/torsionref06.zero -/
def torsionref06_zero  : Option Int :=
  bnd (M.iof 0) fun y27 => some y27
/- torsion/torsionref06.Sized -/
def torsionref06_Sized_j1 (v56 : List Int) (v72 : List Int) (v77 : Int) : Option (((List Int) × (List Int)) ⊕ (((List Int) × (List (List Int))) ⊕ TMat)) :=
  bnd (M.iof v77) fun y90 => bnd (app v56 [y90]) fun l99 => some (.inl (v72, l99))
def torsionref06_Sized_k2 (v33 : List (List Int)) : (List Int) × (List Int) → Option (((List Int) × (List (List Int))) ⊕ TMat)
  | (v51, v56) => bnd (app v33 [v56]) fun l125 => some (.inl (v51, l125))
def torsionref06_Sized_b2 (x2 : Int) (i40 : Int) (i63 : Int) : (List Int) × (List Int) → Option (((List Int) × (List Int)) ⊕ (((List Int) × (List (List Int))) ⊕ TMat))
  | (v51, v56) => chk64 (i40 * x2) <| chk64 ((i40 * x2) + i63) <| if ((i40 * x2) + i63) < (v51.length : Int) then (nth v51 ((i40 * x2) + i63) fun x108 => chk64 (Int.tmod x108 10) <| (M.torsionref06_Sized_j1 v56) v51 (Int.tmod x108 10)) else ((M.torsionref06_Sized_j1 v56) v51 0)
def torsionref06_Sized_k3 (x1 : Int) (x2 : Int) : (List Int) × (List (List Int)) → Option TMat
  | (v28, v33) => some (TMat.mk x1 x2 v33)
def torsionref06_Sized_b3 (x2 : Int) (i40 : Int) : (List Int) × (List (List Int)) → Option (((List Int) × (List (List Int))) ⊕ TMat)
  | (v28, v33) => rngN (M.torsionref06_Sized_b2 x2 i40) (M.torsionref06_Sized_k2 v33) x2 0 (v28, ([] : List Int))
def torsionref06_Sized (x0 : R06Raw) (x1 : Int) (x2 : Int) : Option TMat :=
  rngN (M.torsionref06_Sized_b3 x2) (M.torsionref06_Sized_k3 x1 x2) x1 0 (x0.A, ([] : List (List Int)))
/- torsion/torsionref06.Made -/
def torsionref06_Made (x0 : R06Raw) (x1 : Int) : Option TMat :=
  chk64 x0.Rows <| chk64 (x1 + 1) <| chk ((x1 + 1) ≠ 0) <| chk64 x0.Cols <| chk ((x1 + 1) ≠ 0) <| bnd (M.torsionref06_Sized x0 (Int.tmod x0.Rows (x1 + 1)) (Int.tmod x0.Cols (x1 + 1))) fun y37 => some y37
/- torsion/torsionref06.Row -/
def torsionref06_Row_k1 : (List TTerm) → Option (List TTerm)
  | v28 => some v28
def torsionref06_Row_b1 (i35 : Nat) (x42 : Int) : (List TTerm) → Option (((List TTerm)) ⊕ (List TTerm))
  | v28 => bnd (M.isign x42) fun y61 => if y61 = 0 then (some (.inl v28)) else (bnd (app v28 [(TTerm.mk (i35 : Int) x42)]) fun l69 => some (.inl l69))
def torsionref06_Row (x0 : List Int) : Option (List TTerm) :=
  rngL M.torsionref06_Row_b1 M.torsionref06_Row_k1 x0 ([] : List TTerm)
/- torsion/torsionref06.ValidRow -/
def torsionref06_ValidRow_k1 : Unit → Option Bool
  | () => some true
def torsionref06_ValidRow_b1 (x0 : List TTerm) (x1 : Int) (i26 : Nat) (x33 : TTerm) : Unit → Option ((Unit) ⊕ Bool)
  | () => bnd (M.ivalid x33.V) fun y52 => if y52 = true then (bnd (M.isign x33.V) fun y62 => if y62 = 0 then (lft (some false)) else (if x33.Col < 0 then (lft (some false)) else (if 0 ≤ x1 then (if x1 ≤ x33.Col then (lft (some false)) else (if 0 < (i26 : Int) then (chk64 ((i26 : Int) - 1) <| nth x0 ((i26 : Int) - 1) fun x75 => if x33.Col ≤ x75.Col then (lft (some false)) else (some (.inl ()))) else (some (.inl ())))) else (if 0 < (i26 : Int) then (chk64 ((i26 : Int) - 1) <| nth x0 ((i26 : Int) - 1) fun x94 => if x33.Col ≤ x94.Col then (lft (some false)) else (some (.inl ()))) else (some (.inl ())))))) else (lft (some false))
def torsionref06_ValidRow (x0 : List TTerm) (x1 : Int) : Option Bool :=
  rngL (M.torsionref06_ValidRow_b1 x0 x1) M.torsionref06_ValidRow_k1 x0 ()
/- torsion/torsionref06.Valid -/
def torsionref06_Valid_k1 : Unit → Option Bool
  | () => some true
def torsionref06_Valid_b1 (x0 : TSparse) (i31 : Nat) (x38 : List TTerm) : Unit → Option ((Unit) ⊕ Bool)
  | () => bnd (M.torsionref06_ValidRow x38 x0.Cols) fun y56 => if y56 = true then (some (.inl ())) else (lft (some false))
def torsionref06_Valid_j2 (x0 : TSparse) (v27 : Bool) : Option Bool :=
  if v27 = true then (some false) else (rngL (M.torsionref06_Valid_b1 x0) M.torsionref06_Valid_k1 x0.L ())
def torsionref06_Valid (x0 : TSparse) : Option Bool :=
  if x0.Rows = (x0.L.length : Int) then ((M.torsionref06_Valid_j2 x0) (decide (x0.Cols < 0))) else ((M.torsionref06_Valid_j2 x0) true)
/- torsion/torsionref06.SameVec -/
def torsionref06_SameVec_k1 : Unit → Option Bool
  | () => some true
def torsionref06_SameVec_b1 (x1 : List Int) (i31 : Nat) (x38 : Int) : Unit → Option ((Unit) ⊕ Bool)
  | () => nth x1 (i31 : Int) fun x52 => bnd (M.isame x38 x52) fun y72 => if y72 = true then (some (.inl ())) else (lft (some false))
def torsionref06_SameVec (x0 : List Int) (x1 : List Int) : Option Bool :=
  if (x0.length : Int) = (x1.length : Int) then (rngL (M.torsionref06_SameVec_b1 x1) M.torsionref06_SameVec_k1 x0 ()) else (some false)
/- torsion/torsionref06.SameRow -/
def torsionref06_SameRow_k1 : Unit → Option Bool
  | () => some true
def torsionref06_SameRow_b1 (x1 : List TTerm) (i31 : Nat) (x38 : TTerm) : Unit → Option ((Unit) ⊕ Bool)
  | () => nth x1 (i31 : Int) fun x52 => if x38.Col = x52.Col then (bnd (M.isame x38.V x52.V) fun y79 => if y79 = true then (some (.inl ())) else (lft (some false))) else (lft (some false))
def torsionref06_SameRow (x0 : List TTerm) (x1 : List TTerm) : Option Bool :=
  if (x0.length : Int) = (x1.length : Int) then (rngL (M.torsionref06_SameRow_b1 x1) M.torsionref06_SameRow_k1 x0 ()) else (some false)
/- torsion/sparse.From -/
def sparse_From_k1 (v28 : List (List TTerm)) : (List TTerm) → Option (((List (List TTerm))) ⊕ TSparse)
  | v55 => bnd (app v28 [v55]) fun l106 => some (.inl l106)
def sparse_From_b1 (i62 : Nat) (x69 : Int) : (List TTerm) → Option (((List TTerm)) ⊕ (((List (List TTerm))) ⊕ TSparse))
  | v55 => bnd (M.isign x69) fun y89 => if y89 = 0 then (some (.inl v55)) else (bnd (app v55 [(TTerm.mk (i62 : Int) x69)]) fun l94 => some (.inl l94))
def sparse_From_k2 (x0 : TMat) : (List (List TTerm)) → Option TSparse
  | v28 => some (TSparse.mk x0.Rows x0.Cols v28)
def sparse_From_b2 (i35 : Nat) (x42 : List Int) : (List (List TTerm)) → Option (((List (List TTerm))) ⊕ TSparse)
  | v28 => rngL M.sparse_From_b1 (M.sparse_From_k1 v28) x42 ([] : List TTerm)
def sparse_From (x0 : TMat) : Option TSparse :=
  rngL M.sparse_From_b2 (M.sparse_From_k2 x0) x0.A ([] : List (List TTerm))
/- torsion/matrix.New$1 -/
def matrix_New_1 (x0 : Int) (x1 : Int) : Option Int :=
  some 0
/- torsion/matrix.build -/
def matrix_build_k1 : (List (List Int)) → Option (((List (List Int))) ⊕ TMat)
  | v68 => some (.inl v68)
def matrix_build_b1 (x2 : Int → Int → Option Int) (i37 : Int) (i77 : Int) : (List (List Int)) → Option (((List (List Int))) ⊕ (((List (List Int))) ⊕ TMat))
  | v68 => nth v68 i37 fun x85 => bnd (x2 i37 i77) fun y100 => nth x85 i77 fun x106 => some (.inl (setL v68 i37 (setL x85 i77 y100)))
def matrix_build_k2 (x0 : Int) (x1 : Int) : (List (List Int)) → Option TMat
  | v28 => some (TMat.mk x0 x1 v28)
def matrix_build_b2 (x1 : Int) (x2 : Int → Int → Option Int) (i37 : Int) : (List (List Int)) → Option (((List (List Int))) ⊕ TMat)
  | v28 => bnd (mkl x1 0) fun l45 => nth v28 i37 fun x51 => rngN (M.matrix_build_b1 x2 i37) M.matrix_build_k1 x1 0 (setL v28 i37 l45)
def matrix_build (x0 : Int) (x1 : Int) (x2 : Int → Int → Option Int) : Option TMat :=
  bnd (mkl x0 ([] : List Int)) fun l22 => rngN (M.matrix_build_b2 x1 x2) (M.matrix_build_k2 x0 x1) x0 0 l22
/- torsion/matrix.New -/
def matrix_New (x0 : Int) (x1 : Int) : Option TMat :=
  bnd (M.matrix_build x0 x1 M.matrix_New_1) fun y27 => some y27
/- torsion/sparse.To -/
def sparse_To_k1 : (List (List Int)) → Option (((List (List Int))) ⊕ TMat)
  | v71 => some (.inl v71)
def sparse_To_b1 (i51 : Nat) (i80 : Nat) (x87 : TTerm) : (List (List Int)) → Option (((List (List Int))) ⊕ (((List (List Int))) ⊕ TMat))
  | v71 => nth v71 (i51 : Int) fun x102 => nth x102 x87.Col fun x112 => some (.inl (setL v71 (i51 : Int) (setL x102 x87.Col x87.V)))
def sparse_To_k2 (y32 : TMat) : (List (List Int)) → Option TMat
  | v42 => some (TMat.mk y32.Rows y32.Cols v42)
def sparse_To_b2 (i51 : Nat) (x58 : List TTerm) : (List (List Int)) → Option (((List (List Int))) ⊕ TMat)
  | v42 => rngL (M.sparse_To_b1 i51) M.sparse_To_k1 x58 v42
def sparse_To (x0 : TSparse) : Option TMat :=
  bnd (M.matrix_New x0.Rows x0.Cols) fun y32 => rngL M.sparse_To_b2 (M.sparse_To_k2 y32) x0.L y32.A
/- torsion/torsionlaw06.SparseRepresents -/
def torsionlaw06_SparseRepresents_k1 (y31 : Bool) : Unit → Option Bool
  | () => some y31
def torsionlaw06_SparseRepresents_b1 (y37 : TMat) (y48 : TSparse) (y69 : TMat) (i80 : Int) : Unit → Option ((Unit) ⊕ Bool)
  | () => nth y69.A i80 fun x88 => nth y37.A i80 fun x102 => bnd (M.torsionref06_SameVec x88 x102) fun y121 => if y121 = true then (nth y48.L i80 fun x123 => bnd (M.torsionref06_Row x102) fun y145 => bnd (M.torsionref06_SameRow x123 y145) fun y155 => if y155 = true then (some (.inl ())) else (lft (some false))) else (lft (some false))
def torsionlaw06_SparseRepresents_j2 (y31 : Bool) (y37 : TMat) (y48 : TSparse) (y69 : TMat) (v76 : Bool) : Option Bool :=
  if v76 = true then (some false) else (rngN (M.torsionlaw06_SparseRepresents_b1 y37 y48 y69) (M.torsionlaw06_SparseRepresents_k1 y31) y37.Rows 0 ())
def torsionlaw06_SparseRepresents_j3 (y31 : Bool) (y37 : TMat) (y48 : TSparse) (v61 : Bool) : Option Bool :=
  if v61 = true then (some false) else (bnd (M.sparse_To y48) fun y69 => if y69.Rows = y37.Rows then (if y69.Cols = y37.Cols then ((M.torsionlaw06_SparseRepresents_j2 y31 y37 y48 y69) (decide ((y69.A.length : Int) ≠ y37.Rows))) else ((M.torsionlaw06_SparseRepresents_j2 y31 y37 y48 y69) true)) else ((M.torsionlaw06_SparseRepresents_j2 y31 y37 y48 y69) true))
def torsionlaw06_SparseRepresents (x0 : R06Raw) : Option Bool :=
  bnd (M.sanity6) fun y31 => bnd (M.torsionref06_Made x0 5) fun y37 => bnd (M.sparse_From y37) fun y48 => bnd (M.torsionref06_Valid y48) fun y59 => if y59 = true then (if y48.Rows = y37.Rows then ((M.torsionlaw06_SparseRepresents_j3 y31 y37 y48) (decide (y48.Cols ≠ y37.Cols))) else ((M.torsionlaw06_SparseRepresents_j3 y31 y37 y48) true)) else ((M.torsionlaw06_SparseRepresents_j3 y31 y37 y48) true)
end Go.Z.M
end
section
set_option linter.unusedSimpArgs false
set_option linter.unusedVariables false
/- How loops of the models run: by an invariant. No program is named here. -/
set_option linter.unusedVariables false
namespace Go.Z
theorem forL_run' {α σ β : Type} {b : Nat → α → σ → Option (σ ⊕ β)} {e : σ → Option β} {l : List α} (P : Nat → σ → Prop)
    (hb : ∀ n x s, l[n]? = some x → P n s → ∃ s', b n x s = some (.inl s') ∧ P (n + 1) s') :
    ∀ m n s, n + m = l.length → P n s → ∃ s', P l.length s' ∧ forL b e (l.drop n) n s = e s'
  | 0, n, s, hn, hp => by
    have : n = l.length := by omega
    subst this
    exact ⟨s, hp, by rw [List.drop_eq_nil_of_le (Nat.le_refl _)]; rfl⟩
  | m + 1, n, s, hn, hp => by
    have hl : n < l.length := by omega
    obtain ⟨s', h1, h2⟩ := hb n l[n] s (by simp [hl]) hp
    obtain ⟨s2, h3, h4⟩ := forL_run' P hb m (n + 1) s' (by omega) h2
    refine ⟨s2, h3, ?_⟩
    rw [List.drop_eq_getElem_cons hl]
    simp only [forL, h1]
    exact h4
theorem rngL_run {α σ β : Type} {b : Nat → α → σ → Option (σ ⊕ β)} {e : σ → Option β} {l : List α} {s : σ} (P : Nat → σ → Prop) (hl : l.length ≤ 4611686018427387904)
    (h0 : P 0 s) (hb : ∀ n x s, l[n]? = some x → P n s → ∃ s', b n x s = some (.inl s') ∧ P (n + 1) s') : ∃ s', P l.length s' ∧ rngL b e l s = e s' := by
  obtain ⟨s', h1, h2⟩ := forL_run' (e := e) P hb l.length 0 s (by omega) h0
  exact ⟨s', h1, by rw [rngL, chk_pos hl]; exact h2⟩
theorem forI_run {σ β : Type} {b : Int → σ → Option (σ ⊕ β)} {e : σ → Option β} {k : Nat} (P : Nat → σ → Prop)
    (hb : ∀ (n : Nat) s, n < k → P n s → ∃ s', b n s = some (.inl s') ∧ P (n + 1) s') :
    ∀ m n s, n + m = k → P n s → ∃ s', P k s' ∧ forI b e m (n : Int) s = e s'
  | 0, n, s, hn, hp => by
    have : n = k := by omega
    subst this
    exact ⟨s, hp, rfl⟩
  | m + 1, n, s, hn, hp => by
    obtain ⟨s', h1, h2⟩ := hb n s (by omega) hp
    obtain ⟨s2, h3, h4⟩ := forI_run P hb m (n + 1) s' (by omega) h2
    refine ⟨s2, h3, ?_⟩
    simp only [forI, h1]
    exact h4
theorem rngN_run {σ β : Type} {b : Int → σ → Option (σ ⊕ β)} {e : σ → Option β} {k : Nat} {s : σ} (P : Nat → σ → Prop) (hk : k ≤ 9223372036854775807)
    (h0 : P 0 s) (hb : ∀ (n : Nat) s, n < k → P n s → ∃ s', b n s = some (.inl s') ∧ P (n + 1) s') : ∃ s', P k s' ∧ rngN b e (k : Int) 0 s = e s' := by
  obtain ⟨s', h1, h2⟩ := forI_run (e := e) P hb k 0 s (by omega) h0
  exact ⟨s', h1, by rw [rngN, chk_pos (by omega), forN, show ((k : Int) - 0).toNat = k by omega]; exact h2⟩
theorem ft_small {z : Int} (h : z.natAbs ≤ 1000000) : Ft z := lt_pow2 (n := 20) (m := 1000000) (Nat.lt_of_le_of_lt h (by decide)) (by decide)
theorem setLen {α : Type} {l : List α} {i : Int} {a : α} : (setL l i a).length = l.length := by simp [setL]
theorem tmod_rng {x n : Int} (hx : 0 ≤ x) (hn : 0 < n) : ∃ k : Nat, Int.tmod x n = k ∧ (k : Int) < n := by
  have h1 := Int.tmod_nonneg n hx
  have h2 := Int.tmod_lt_of_pos x hn
  exact ⟨(Int.tmod x n).toNat, by omega, by omega⟩
theorem tmod_ten (x : Int) : (Int.tmod x 10).natAbs ≤ 9 := by
  have h1 := Int.tmod_lt_of_pos x (show (0 : Int) < 10 by decide)
  have h2 := Int.lt_tmod_of_pos x (show (0 : Int) < 10 by decide)
  omega
end Go.Z
end
section
set_option linter.unusedSimpArgs false
set_option linter.unusedVariables false
/- The law SparseRepresents, of the models: no program is named here. -/
set_option linter.unusedSimpArgs false
set_option linter.unusedVariables false
namespace Go.Z
/-- The row of a vector. -/
def rowF : Nat → List Int → List TTerm
  | _, [] => []
  | k, z :: v => if z = 0 then rowF (k + 1) v else ⟨(k : Int), z⟩ :: rowF (k + 1) v
def OkV (n : Nat) (v : List Int) : Prop := v.length = n ∧ ∀ z ∈ v, z.natAbs ≤ 9
theorem OkV.ft {n : Nat} {v : List Int} (h : OkV n v) : ∀ z ∈ v, Ft z := fun z hz => ft_small (Nat.le_trans (h.2 z hz) (by decide))
theorem rowF_len (v : List Int) : ∀ k, (rowF k v).length ≤ v.length := by
  induction v with
  | nil => intro k; simp [rowF]
  | cons z v ih =>
    intro k
    have := ih (k + 1)
    unfold rowF
    split <;> simp <;> omega
theorem rowF_mem (v : List Int) : ∀ k, ∀ t ∈ rowF k v, (k : Int) ≤ t.Col ∧ t.Col < k + v.length ∧ t.V ≠ 0 ∧ t.V ∈ v := by
  induction v with
  | nil => intro k t h; simp [rowF] at h
  | cons z v ih =>
    intro k t h
    unfold rowF at h
    split at h
    · have := ih (k + 1) t h
      refine ⟨by omega, by simp; omega, this.2.2.1, List.mem_cons_of_mem _ this.2.2.2⟩
    · rcases List.mem_cons.1 h with rfl | h
      · exact ⟨by simp, by simp; omega, by assumption, by simp⟩
      · have := ih (k + 1) t h
        refine ⟨by omega, by simp; omega, this.2.2.1, List.mem_cons_of_mem _ this.2.2.2⟩
theorem rowF_sorted (v : List Int) : ∀ k, (rowF k v).Pairwise fun a b => a.Col < b.Col := by
  induction v with
  | nil => intro k; simp [rowF]
  | cons z v ih =>
    intro k
    unfold rowF
    split
    · exact ih _
    · refine List.Pairwise.cons (fun t ht => ?_) (ih _)
      have := rowF_mem v (k + 1) t ht
      show (k : Int) < t.Col
      omega
theorem sized_ok (x : R06Raw) {rows cols : Nat} (hr : rows ≤ 100) (hc : cols ≤ 100) :
    ∃ A, M.torsionref06_Sized x rows cols = some ⟨rows, cols, A⟩ ∧ A.length = rows ∧ ∀ v ∈ A, OkV cols v := by
  unfold M.torsionref06_Sized
  obtain ⟨s', ⟨h1, h2, h3⟩, h4⟩ := rngN_run (e := M.torsionref06_Sized_k3 rows cols) (b := M.torsionref06_Sized_b3 cols) (k := rows) (s := (x.A, []))
    (fun n s => s.1 = x.A ∧ s.2.length = n ∧ ∀ v ∈ s.2, OkV cols v) (by omega) ⟨rfl, rfl, by simp⟩ (by
      rintro n ⟨s, t⟩ hn ⟨h1, h2, h3⟩
      simp only at h1 h2 h3
      obtain ⟨s0, es0⟩ : ∃ s0, s0 = x.A := ⟨_, rfl⟩
      rw [← es0] at h1
      rw [← es0]
      subst h1
      unfold M.torsionref06_Sized_b3
      obtain ⟨s', ⟨g1, g2, g3⟩, g4⟩ := rngN_run (e := M.torsionref06_Sized_k2 t) (b := M.torsionref06_Sized_b2 cols (n : Int)) (k := cols) (s := (s, []))
        (fun n u => u.1 = s ∧ u.2.length = n ∧ ∀ z ∈ u.2, z.natAbs ≤ 9) (by omega) ⟨rfl, rfl, by simp⟩ (by
          rintro j ⟨u, w⟩ hj ⟨g1, g2, g3⟩
          simp only at g1 g2 g3
          subst g1
          have b1 : (n : Int) * (cols : Int) ≤ 100 * 100 := Int.mul_le_mul (by omega) (by omega) (by omega) (by omega)
          have b2 : 0 ≤ (n : Int) * (cols : Int) := Int.mul_nonneg (by omega) (by omega)
          have jn : ∀ y : Int, y.natAbs ≤ 9 → ∃ s', M.torsionref06_Sized_j1 w u y = some (.inl s') ∧ s'.1 = u ∧ s'.2.length = j + 1 ∧ ∀ z ∈ s'.2, z.natAbs ≤ 9 := fun y hy => by
            unfold M.torsionref06_Sized_j1
            rw [show M.iof y = some y by unfold M.iof; rw [if_pos (by omega)]]
            rw [bnd_pure, app_at (by simp; omega), bnd_pure]
            refine ⟨_, rfl, rfl, by simp [g2], fun z hz => ?_⟩
            rcases List.mem_append.1 hz with hz | hz
            · exact g3 z hz
            · rw [List.mem_singleton.1 hz]; exact hy
          show ∃ s', M.torsionref06_Sized_b2 cols (n : Int) (j : Int) (u, w) = some (.inl s') ∧ _
          unfold M.torsionref06_Sized_b2
          simp only
          rw [chk64_pos (by omega), chk64_pos (by omega)]
          split
          · rename_i hlt
            obtain ⟨i, hi⟩ : ∃ i : Nat, (n : Int) * (cols : Int) + (j : Int) = i := ⟨((n : Int) * (cols : Int) + (j : Int)).toNat, by omega⟩
            have hil : i < u.length := by omega
            rw [nth_i (n := i) (a := u[i]) hi (by simp [hil])]
            have := tmod_ten u[i]
            rw [chk64_pos (by omega)]
            exact jn _ this
          · exact jn 0 (by decide))
      obtain ⟨a, w⟩ := s'
      simp only at g1 g2 g3
      dsimp only
      rw [g4]
      unfold M.torsionref06_Sized_k2
      simp only
      rw [app_at (by simp; omega), bnd_pure]
      refine ⟨_, rfl, g1, by simp [h2], fun v hv => ?_⟩
      rcases List.mem_append.1 hv with hv | hv
      · exact h3 v hv
      · rw [List.mem_singleton.1 hv]; exact ⟨g2, g3⟩)
  obtain ⟨a, A⟩ := s'
  exact ⟨A, h4, h2, h3⟩
theorem made_ok (x : R06Raw) (h1 : 0 ≤ x.Rows ∧ x.Rows ≤ 255) (h2 : 0 ≤ x.Cols ∧ x.Cols ≤ 255) {n : Nat} (hn : n ≤ 99) :
    ∃ (rows cols : Nat) (A : List (List Int)), M.torsionref06_Made x n = some ⟨rows, cols, A⟩ ∧ rows ≤ n ∧ cols ≤ n ∧ A.length = rows ∧ ∀ v ∈ A, OkV cols v := by
  obtain ⟨r, hr, hr2⟩ := tmod_rng h1.1 (show (0 : Int) < n + 1 by omega)
  obtain ⟨c, hc, hc2⟩ := tmod_rng h2.1 (show (0 : Int) < n + 1 by omega)
  obtain ⟨A, hA, hl, hv⟩ := sized_ok x (rows := r) (cols := c) (by omega) (by omega)
  refine ⟨r, c, A, ?_, by omega, by omega, hl, hv⟩
  unfold M.torsionref06_Made
  rw [chk64_pos (by omega), chk64_pos (by omega), chk_pos (by omega), chk64_pos (by omega), chk_pos (by omega), hr, hc, hA]
  rfl
theorem row_go {v : List Int} : ∀ (k : Nat) (acc : List TTerm), (∀ z ∈ v, Ft z) → acc.length + v.length ≤ 1000 → forL M.torsionref06_Row_b1 M.torsionref06_Row_k1 v k acc = some (acc ++ rowF k v) := by
  induction v with
  | nil => intro k acc hf hl; simp [forL, M.torsionref06_Row_k1, rowF]
  | cons z v ih =>
    intro k acc hf hl
    have hz : Ft z := hf z (by simp)
    simp at hl
    simp only [forL, M.torsionref06_Row_b1, M.isign, if_pos hz, bnd_pure, rowF]
    by_cases h0 : z = 0
    · simp only [h0, Int.sign_zero, if_true]
      exact ih _ _ (fun y hy => hf y (List.mem_cons_of_mem _ hy)) (by omega)
    · have : ¬ z.sign = 0 := by simpa using h0
      rw [if_neg this, if_neg h0, app_at (by simp; omega), bnd_pure]
      simp only
      rw [ih _ _ (fun y hy => hf y (List.mem_cons_of_mem _ hy)) (by simp; omega)]
      simp
theorem row_ok {n : Nat} {v : List Int} (h : OkV n v) (hn : n ≤ 100) : M.torsionref06_Row v = some (rowF 0 v) := by
  have := h.1
  unfold M.torsionref06_Row
  rw [rngL, chk_pos (by omega), row_go 0 [] h.ft (by simp; omega)]
  rfl
theorem from_row {v : List Int} {L : List (List TTerm)} : ∀ (k : Nat) (acc : List TTerm), (∀ z ∈ v, Ft z) → acc.length + v.length ≤ 1000 → L.length ≤ 1000 → forL M.sparse_From_b1 (M.sparse_From_k1 L) v k acc = some (.inl (L ++ [acc ++ rowF k v])) := by
  induction v with
  | nil => intro k acc hf hl hL; simp only [forL, M.sparse_From_k1, rowF]; rw [app_at (by simp; omega), bnd_pure]; simp
  | cons z v ih =>
    intro k acc hf hl hL
    have hz : Ft z := hf z (by simp)
    simp at hl
    simp only [forL, M.sparse_From_b1, M.isign, if_pos hz, bnd_pure, rowF]
    by_cases h0 : z = 0
    · simp only [h0, Int.sign_zero, if_true]
      exact ih _ _ (fun y hy => hf y (List.mem_cons_of_mem _ hy)) (by omega) hL
    · have : ¬ z.sign = 0 := by simpa using h0
      rw [if_neg this, if_neg h0, app_at (by simp; omega), bnd_pure]
      simp only
      rw [ih _ _ (fun y hy => hf y (List.mem_cons_of_mem _ hy)) (by simp; omega) hL]
      simp
theorem from_go {a : TMat} {n : Nat} {A : List (List Int)} (hn : n ≤ 100) : ∀ (k : Nat) (acc : List (List TTerm)), (∀ v ∈ A, OkV n v) → acc.length + A.length ≤ 1000 → forL M.sparse_From_b2 (M.sparse_From_k2 a) A k acc = some ⟨a.Rows, a.Cols, acc ++ A.map (rowF 0)⟩ := by
  induction A with
  | nil => intro k acc hA hl; simp [forL, M.sparse_From_k2]
  | cons v A ih =>
    intro k acc hA hl
    simp at hl
    have hv := hA v (by simp)
    have hvl := hv.1
    simp only [forL, M.sparse_From_b2]
    rw [rngL, chk_pos (by omega), from_row 0 [] hv.ft (by simp; omega) (by omega)]
    simp only
    rw [ih _ _ (fun y hy => hA y (List.mem_cons_of_mem _ hy)) (by simp; omega)]
    simp
theorem from_ok {rows cols : Int} {n : Nat} {A : List (List Int)} (hn : n ≤ 100) (hA : ∀ v ∈ A, OkV n v) (hl : A.length ≤ 100) : M.sparse_From ⟨rows, cols, A⟩ = some ⟨rows, cols, A.map (rowF 0)⟩ := by
  unfold M.sparse_From
  rw [rngL, chk_pos (by simp only; omega)]
  exact from_go (a := ⟨rows, cols, A⟩) hn 0 [] hA (by simp; omega)
theorem validrow_ok {n : Nat} {v : List Int} (h : OkV n v) (hn : n ≤ 100) : M.torsionref06_ValidRow (rowF 0 v) n = some true := by
  unfold M.torsionref06_ValidRow
  have hlen := rowF_len v 0
  have hv := h.1
  obtain ⟨_, _, h4⟩ := rngL_run (b := M.torsionref06_ValidRow_b1 (rowF 0 v) n) (e := M.torsionref06_ValidRow_k1) (l := rowF 0 v) (s := ()) (fun _ _ => True) (by omega) trivial (by
    rintro i t ⟨⟩ ht -
    have hm := rowF_mem v 0 t (List.mem_of_getElem? ht)
    have hf := h.ft _ hm.2.2.2
    refine ⟨(), ?_, trivial⟩
    unfold M.torsionref06_ValidRow_b1
    simp only [M.ivalid, M.isign, if_pos hf, bnd_pure, if_true]
    rw [if_neg (by simpa using hm.2.2.1), if_neg (by omega), if_pos (by omega), if_neg (by omega)]
    by_cases h0 : i = 0
    · rw [if_neg (by omega)]
    · have hi : i < (rowF 0 v).length := (List.getElem?_eq_some_iff.1 ht).1
      have hp : i - 1 < (rowF 0 v).length := by omega
      rw [if_pos (by omega), chk64_pos (by omega), nth_i (n := i - 1) (a := (rowF 0 v)[i - 1]) (by omega) (by simp [hp])]
      have := List.pairwise_iff_getElem.1 (rowF_sorted v 0) (i - 1) i hp hi (by omega)
      rw [(List.getElem?_eq_some_iff.1 ht).2] at this
      rw [if_neg (by omega)])
  rw [h4]
  rfl
theorem valid_ok {n : Nat} {A : List (List Int)} (hn : n ≤ 100) (hA : ∀ v ∈ A, OkV n v) (hl : A.length ≤ 100) : M.torsionref06_Valid ⟨A.length, n, A.map (rowF 0)⟩ = some true := by
  unfold M.torsionref06_Valid
  simp only [List.length_map, if_true]
  rw [show decide ((n : Int) < 0) = false by simp]
  unfold M.torsionref06_Valid_j2
  rw [if_neg (by decide)]
  obtain ⟨_, _, h4⟩ := rngL_run (b := M.torsionref06_Valid_b1 ⟨A.length, n, A.map (rowF 0)⟩) (e := M.torsionref06_Valid_k1) (l := A.map (rowF 0)) (s := ()) (fun _ _ => True) (by simp; omega) trivial (by
    rintro i t ⟨⟩ ht -
    obtain ⟨v, hv, rfl⟩ := List.mem_map.1 (List.mem_of_getElem? ht)
    refine ⟨(), ?_, trivial⟩
    unfold M.torsionref06_Valid_b1
    simp only
    rw [validrow_ok (hA v hv) hn, bnd_pure, if_pos rfl])
  rw [h4]
  rfl
theorem samevec_ok {n : Nat} {v : List Int} (h : OkV n v) (hn : n ≤ 100) : M.torsionref06_SameVec v v = some true := by
  have hv := h.1
  unfold M.torsionref06_SameVec
  rw [if_pos rfl]
  obtain ⟨_, _, h4⟩ := rngL_run (b := M.torsionref06_SameVec_b1 v) (e := M.torsionref06_SameVec_k1) (l := v) (s := ()) (fun _ _ => True) (by omega) trivial (by
    rintro i t ⟨⟩ ht -
    have hf := h.ft _ (List.mem_of_getElem? ht)
    refine ⟨(), ?_, trivial⟩
    unfold M.torsionref06_SameVec_b1
    rw [nth_at ht]
    simp [M.isame, hf])
  rw [h4]
  rfl
theorem samerow_ok {n : Nat} {v : List Int} (h : OkV n v) (hn : n ≤ 100) : M.torsionref06_SameRow (rowF 0 v) (rowF 0 v) = some true := by
  have hv := h.1
  have hlen := rowF_len v 0
  unfold M.torsionref06_SameRow
  rw [if_pos rfl]
  obtain ⟨_, _, h4⟩ := rngL_run (b := M.torsionref06_SameRow_b1 (rowF 0 v)) (e := M.torsionref06_SameRow_k1) (l := rowF 0 v) (s := ()) (fun _ _ => True) (by omega) trivial (by
    rintro i t ⟨⟩ ht -
    have hf := h.ft _ (rowF_mem v 0 t (List.mem_of_getElem? ht)).2.2.2
    refine ⟨(), ?_, trivial⟩
    unfold M.torsionref06_SameRow_b1
    rw [nth_at ht]
    simp [M.isame, hf])
  rw [h4]
  rfl
end Go.Z
end
section
set_option linter.unusedSimpArgs false
set_option linter.unusedVariables false
/- The law SparseRepresents, of the models: To, and the whole. No program is named here. -/
set_option linter.unusedSimpArgs false
set_option linter.unusedVariables false
namespace Go.Z
def fillT (w : List Int) (ts : List TTerm) : List Int := ts.foldl (fun w t => w.set t.Col.toNat t.V) w
theorem fill_row (v : List Int) : ∀ (pre : List Int), fillT (pre ++ List.replicate v.length 0) (rowF pre.length v) = pre ++ v := by
  induction v with
  | nil => intro pre; simp [fillT, rowF]
  | cons z v ih =>
    intro pre
    have h := ih (pre ++ [z])
    rw [List.length_append, List.length_singleton] at h
    unfold rowF
    split
    · rename_i h0
      subst h0
      rw [List.length_cons, List.replicate_succ]
      simpa using h
    · rw [List.length_cons, List.replicate_succ]
      show fillT ((pre ++ 0 :: List.replicate v.length 0).set ((pre.length : Nat) : Int).toNat z) (rowF (pre.length + 1) v) = _
      rw [Int.toNat_natCast]
      have : (pre ++ 0 :: List.replicate v.length 0).set pre.length z = pre ++ [z] ++ List.replicate v.length 0 := by
        rw [List.set_append_right _ _ (Nat.le_refl _)]
        simp
      rw [this, h]
      simp
theorem new_ok {rows cols : Nat} (hr : rows ≤ 100) (hc : cols ≤ 100) : M.matrix_New rows cols = some ⟨rows, cols, List.replicate rows (List.replicate cols 0)⟩ := by
  unfold M.matrix_New M.matrix_build
  rw [show mkl (rows : Int) ([] : List Int) = some (List.replicate rows []) by unfold mkl; rw [if_pos (by omega)]; simp]
  rw [bnd_pure]
  obtain ⟨s', ⟨h1, h2⟩, h4⟩ := rngN_run (b := M.matrix_build_b2 cols M.matrix_New_1) (e := M.matrix_build_k2 rows cols) (k := rows) (s := List.replicate rows ([] : List Int))
    (fun n s => s.length = rows ∧ ∀ j, j < n → s[j]? = some (List.replicate cols 0)) (by omega) ⟨by simp, by simp⟩ (by
      rintro n s hn ⟨h1, h2⟩
      show ∃ s', M.matrix_build_b2 cols M.matrix_New_1 (n : Int) s = some (Sum.inl s') ∧ _
      unfold M.matrix_build_b2
      rw [show mkl (cols : Int) (0 : Int) = some (List.replicate cols 0) by unfold mkl; rw [if_pos (by omega)]; simp]
      have hns : n < s.length := by omega
      have hin : (setL s (n : Int) (List.replicate cols (0 : Int)))[n]? = some (List.replicate cols 0) := by
        unfold setL; rw [Int.toNat_natCast]; simp [hns]
      rw [bnd_pure, nth_at (a := s[n]) (by simp [hns])]
      obtain ⟨s', rfl, g4⟩ := rngN_run (b := M.matrix_build_b1 M.matrix_New_1 (n : Int)) (e := M.matrix_build_k1) (k := cols) (s := setL s (n : Int) (List.replicate cols 0))
        (fun _ u => u = setL s (n : Int) (List.replicate cols 0)) (by omega) rfl (by
          rintro j u hj rfl
          refine ⟨_, ?_, rfl⟩
          show M.matrix_build_b1 M.matrix_New_1 (n : Int) (j : Int) (setL s (n : Int) (List.replicate cols 0)) = _
          unfold M.matrix_build_b1
          simp only
          rw [nth_at hin, show M.matrix_New_1 (n : Int) (j : Int) = some 0 from rfl, bnd_pure, nth_at (a := 0) (by simp [hj])]
          congr 2
          have e1 : setL (List.replicate cols (0 : Int)) (j : Int) 0 = List.replicate cols 0 := by
            unfold setL
            rw [Int.toNat_natCast]
            refine List.ext_getElem? fun i => ?_
            rw [List.getElem?_set]
            split
            · subst_vars; simp [hj]
            · rfl
          rw [e1]
          unfold setL
          rw [List.set_set])
      rw [g4]
      refine ⟨_, rfl, by rw [setLen, h1], fun i hi => ?_⟩
      unfold setL
      rw [Int.toNat_natCast, List.getElem?_set]
      split
      · simp [hns]
      · exact h2 i (by omega))
  rw [h4]
  have : s' = List.replicate rows (List.replicate cols 0) := by
    refine List.ext_getElem? fun i => ?_
    by_cases hi : i < rows
    · rw [h2 i hi]; simp [hi]
    · simp only [List.getElem?_replicate, hi, if_false]
      rw [List.getElem?_eq_none (by omega)]
  subst this
  rfl
theorem to_row {n i : Nat} {ts : List TTerm} : ∀ (k : Nat) (A : List (List Int)) (w : List Int), A[i]? = some w → (∀ t ∈ ts, 0 ≤ t.Col ∧ t.Col < w.length) → forL (M.sparse_To_b1 i) M.sparse_To_k1 ts k A = some (.inl (A.set i (fillT w ts))) := by
  induction ts with
  | nil =>
    intro k A w hA ht
    simp only [forL, M.sparse_To_k1, fillT, List.foldl_nil]
    congr 2
    refine List.ext_getElem? fun j => ?_
    rw [List.getElem?_set]
    split
    · subst_vars
      rw [hA]; simp [(List.getElem?_eq_some_iff.1 hA).1]
    · rfl
  | cons t ts ih =>
    intro k A w hA ht
    have h1 := ht t (by simp)
    have hi : i < A.length := (List.getElem?_eq_some_iff.1 hA).1
    obtain ⟨c, hc⟩ : ∃ c : Nat, t.Col = c := ⟨t.Col.toNat, by omega⟩
    have hcw : c < w.length := by omega
    simp only [forL, M.sparse_To_b1]
    rw [nth_at hA, nth_i (n := c) (a := w[c]) hc (by simp [hcw])]
    simp only
    have hs : (setL A (i : Int) (setL w t.Col t.V))[i]? = some (setL w t.Col t.V) := by
      unfold setL; rw [Int.toNat_natCast]; simp [hi]
    rw [ih (k + 1) _ _ hs (fun t ht' => by rw [setLen]; exact ht t (List.mem_cons_of_mem _ ht'))]
    unfold setL
    rw [Int.toNat_natCast, List.set_set]
    rfl
theorem to_ok {n : Nat} {A : List (List Int)} (hn : n ≤ 100) (hA : ∀ v ∈ A, OkV n v) (hl : A.length ≤ 100) : M.sparse_To ⟨A.length, n, A.map (rowF 0)⟩ = some ⟨A.length, n, A⟩ := by
  unfold M.sparse_To
  rw [new_ok hl hn, bnd_pure]
  obtain ⟨s', ⟨h1, h2, -⟩, h4⟩ := rngL_run (b := M.sparse_To_b2) (e := M.sparse_To_k2 ⟨A.length, n, List.replicate A.length (List.replicate n 0)⟩) (l := A.map (rowF 0)) (s := List.replicate A.length (List.replicate n (0 : Int)))
    (fun m s => s.length = A.length ∧ (∀ j, j < m → s[j]? = A[j]?) ∧ ∀ j, m ≤ j → j < A.length → s[j]? = some (List.replicate n 0)) (by simp; omega) ⟨by simp, by simp, fun j _ hj => by simp [hj]⟩ (by
      rintro i t s ht ⟨h1, h2, h3⟩
      obtain ⟨v, hv, rfl⟩ : ∃ v, A[i]? = some v ∧ rowF 0 v = t := by simpa using ht
      have hi : i < A.length := (List.getElem?_eq_some_iff.1 hv).1
      have ho := hA v (List.mem_of_getElem? hv)
      have hvl := ho.1
      have hlen := rowF_len v 0
      show ∃ s', rngL (M.sparse_To_b1 i) M.sparse_To_k1 (rowF 0 v) s = some (Sum.inl s') ∧ _
      rw [rngL, chk_pos (by omega), to_row (n := n) 0 s _ (h3 i (Nat.le_refl _) hi) (fun t ht => by
        have := rowF_mem v 0 t ht
        simp; omega)]
      have hf := fill_row v []
      simp only [List.nil_append, List.length_nil, hvl] at hf
      rw [hf]
      refine ⟨_, rfl, by simp [h1], fun j hj => ?_, fun j h4 h5 => ?_⟩
      · rw [List.getElem?_set]
        split
        · subst_vars; rw [hv]; simp [h1, hi]
        · exact h2 j (by omega)
      · rw [List.getElem?_set, if_neg (by omega)]
        exact h3 j (by omega) h5)
  show rngL M.sparse_To_b2 _ (A.map (rowF 0)) _ = _
  rw [h4]
  have : s' = A := by
    refine List.ext_getElem? fun i => ?_
    rw [List.length_map] at h2
    by_cases hi : i < A.length
    · exact h2 i hi
    · rw [List.getElem?_eq_none (by omega), List.getElem?_eq_none (by omega)]
  subst this
  rfl
theorem represents_ok (x : R06Raw) (h1 : 0 ≤ x.Rows ∧ x.Rows ≤ 255) (h2 : 0 ≤ x.Cols ∧ x.Cols ≤ 255) : M.torsionlaw06_SparseRepresents x = some true := by
  obtain ⟨rows, n, A, hA, hr, hc, rfl, hv⟩ := made_ok x h1 h2 (n := 5) (by omega)
  unfold M.torsionlaw06_SparseRepresents
  rw [show M.sanity6 = some true from rfl, bnd_pure, show M.torsionref06_Made x 5 = _ from hA, bnd_pure, from_ok (by omega) hv (by omega), bnd_pure, valid_ok (by omega) hv (by omega), bnd_pure]
  simp only [if_true, ne_eq, not_true_eq_false, decide_false]
  unfold M.torsionlaw06_SparseRepresents_j3
  rw [if_neg (by decide), to_ok (by omega) hv (by omega), bnd_pure]
  simp only [if_true, ne_eq, not_true_eq_false, decide_false]
  unfold M.torsionlaw06_SparseRepresents_j2
  rw [if_neg (by decide)]
  obtain ⟨_, _, h4⟩ := rngN_run (b := M.torsionlaw06_SparseRepresents_b1 ⟨A.length, n, A⟩ ⟨A.length, n, A.map (rowF 0)⟩ ⟨A.length, n, A⟩) (e := M.torsionlaw06_SparseRepresents_k1 true) (k := A.length) (s := ()) (fun _ _ => True) (by omega) trivial (by
    rintro i ⟨⟩ hi -
    have ha : A[i]? = some A[i] := by simp [hi]
    have ho := hv A[i] (by simp)
    refine ⟨(), ?_, trivial⟩
    show M.torsionlaw06_SparseRepresents_b1 _ _ _ (i : Int) () = _
    unfold M.torsionlaw06_SparseRepresents_b1
    simp only
    rw [nth_at ha, nth_at ha, samevec_ok ho (by omega), bnd_pure, if_pos rfl, nth_at (a := rowF 0 A[i]) (by simp [hi]), row_ok ho (by omega), bnd_pure, samerow_ok ho (by omega), bnd_pure, if_pos rfl])
  rw [h4]
  rfl
end Go.Z
end
section
set_option linter.unusedSimpArgs false
set_option linter.unusedVariables false
/- The calculus beneath the proofs: states of a Go activation as (environment of temporaries, frozen heap, owned blocks), and the structural rules of its judgement. No program is named here. -/
namespace Go.Z
open Go Go.RowKit

/-- Temporaries by number. -/
abbrev Env := Nat → Value
def Env.set (ρ : Env) (t : Nat) (v : Value) : Env := fun s => bif Nat.beq s t then v else ρ s
def Env.ev (ρ : Env) : Operand → Value
  | .tmp t => ρ t
  | .const v => v
  | .global g => .pointer (some ⟨g, 0, none⟩)
  | .func f => .func (.func f) #[] #[]

theorem Env.set_eq (ρ : Env) (t : Nat) (v : Value) : ρ.set t v t = v := by simp [Env.set]
theorem beq_ff {s t : Nat} (h : s ≠ t) : Nat.beq s t = false := by
  cases e : Nat.beq s t with
  | false => rfl
  | true => exact absurd (Nat.eq_of_beq_eq_true e) h
theorem Env.set_ne (ρ : Env) {t s : Nat} (v : Value) (h : s ≠ t) : ρ.set t v s = ρ s := by
  simp [Env.set, beq_ff h]

/-- Frozen blocks that are known; owned blocks, by number. -/
abbrev Heap := Nat → Option Obj
abbrev Own := List (Nat × Obj)

class Step (h h' : Heap) : Prop where
  le : ∀ b o, h b = some o → h' b = some o
class Ext (h h' : Heap) : Prop where
  le : ∀ b o, h b = some o → h' b = some o
instance Ext.refl (h : Heap) : Ext h h := ⟨fun _ _ x => x⟩
set_option synthInstance.checkSynthOrder false in
instance Ext.step {a b c : Heap} [s : Step b c] [e : Ext a b] : Ext a c := ⟨fun x o h => s.le x o (e.le x o h)⟩
theorem Ext.toStep {a b : Heap} (e : Ext a b) : Step a b := ⟨e.le⟩

/-- The activation's temporaries read as ρ; its deferred calls are ds. -/
structure Ag (n : Nat) (ds : List Deferred) (a : Act) (ρ : Env) : Prop where
  size : a.tmps.size = n
  defers : a.defers = ds
  get : ∀ t, a.tmps.getD t undef = ρ t

theorem Ag.eval {n : Nat} {ds : List Deferred} {a : Act} {ρ : Env} (h : Ag n ds a ρ) : a.eval = ρ.ev := by
  funext x
  cases x with
  | tmp t => exact h.get t
  | _ => rfl

theorem Ag.put {n : Nat} {ds : List Deferred} {a : Act} {ρ : Env} (h : Ag n ds a ρ) {d : Nat} (hd : Nat.blt d n = true) (v : Value) : Ag n ds (a.put (some d) v) (ρ.set d v) := by
  refine ⟨by simp [Act.put, h.size], h.defers, fun t => ?_⟩
  have hd' : d < a.tmps.size := by rw [h.size]; simpa [Nat.blt_eq] using hd
  by_cases e : t = d
  · subst e; rw [Env.set_eq]; simp [Act.put, hd']
  · rw [Env.set_ne _ _ e, ← h.get t]; simp [Act.put, Array.getElem?_setIfInBounds_ne (Ne.symm e)]

theorem Ag.putNone {n : Nat} {ds : List Deferred} {a : Act} {ρ : Env} (h : Ag n ds a ρ) (v : Value) : Ag n ds (a.put none v) ρ := h

/-- The machine's memory w, as it has grown from w0, where h0 was known: h is frozen in it, L is owned. -/
structure St (w0 : World) (h0 h : Heap) (L : Own) (w : World) : Prop where
  below : Below w0.heap.size w0 w
  ge : ∀ b o, h0 b = some o → h b = some o
  old : ∀ b, b < w0.heap.size → h b = h0 b
  fro : ∀ b o, h b = some o → w.heap[b]? = some o
  own : ∀ p ∈ L, w0.heap.size ≤ p.1 ∧ w.heap[p.1]? = some p.2 ∧ h p.1 = none
  nd : (L.map (·.1)).Nodup

theorem St.lt {w0 : World} {h0 h : Heap} {L : Own} {w : World} (s : St w0 h0 h L w) {b : Nat} {o : Obj} (hb : h b = some o) : b < w.heap.size :=
  (Array.getElem?_eq_some_iff.1 (s.fro b o hb)).1
theorem St.ownLt {w0 : World} {h0 h : Heap} {L : Own} {w : World} (s : St w0 h0 h L w) {p : Nat × Obj} (hp : p ∈ L) : p.1 < w.heap.size :=
  (Array.getElem?_eq_some_iff.1 (s.own p hp).2.1).1

theorem St.drew {w0 : World} {h0 h : Heap} {L : Own} {w : World} (s : St w0 h0 h L w) : St w0 h0 h L { w with drawn := w.drawn + 1 } :=
  ⟨⟨s.below.os, s.below.tape, s.below.output, s.below.size, s.below.block⟩, s.ge, s.old, s.fro, s.own, s.nd⟩

/-- What is known of the memory beside these is forgotten. -/
theorem St.drop {w0 : World} {h0 h : Heap} {p : Nat × Obj} {L : Own} {w : World} (s : St w0 h0 h (p :: L) w) : St w0 h0 h L w :=
  ⟨s.below, s.ge, s.old, s.fro, fun q hq => s.own q (List.mem_cons_of_mem _ hq), (List.nodup_cons.1 (by simpa using s.nd)).2⟩

/-- A new block. -/
theorem St.alloc {w0 : World} {h0 h : Heap} {L : Own} {w : World} (s : St w0 h0 h L w) (o : Obj) : St w0 h0 h ((w.heap.size, o) :: L) (w.alloc o) := by
  have hn : ∀ k, k < w.heap.size → (w.alloc o).heap[k]? = w.heap[k]? := fun k hk => Below.heap_alloc w o k hk
  refine ⟨s.below.alloc s.below.size o, s.ge, s.old, fun b o' hb => (hn b (s.lt hb)).trans (s.fro b o' hb), fun p hp => ?_, ?_⟩
  · rcases List.mem_cons.1 hp with rfl | hp
    · refine ⟨s.below.size, by show (w.heap.push o)[w.heap.size]? = some o; simp, ?_⟩
      cases e : h w.heap.size with
      | none => rfl
      | some o' => exact absurd (s.lt e) (Nat.lt_irrefl _)
    · exact ⟨(s.own p hp).1, (hn _ (s.ownLt hp)).trans (s.own p hp).2.1, (s.own p hp).2.2⟩
  · simp only [List.map_cons, List.nodup_cons]
    refine ⟨fun hm => ?_, s.nd⟩
    obtain ⟨p, hp, e⟩ := List.mem_map.1 hm
    have := s.ownLt hp
    omega

/-- The block at the head of the owned ones is freezed. -/
theorem St.freeze {w0 : World} {h0 h : Heap} {L : Own} {w : World} {b : Nat} {o : Obj} (s : St w0 h0 h ((b, o) :: L) w) :
    St w0 h0 (fun x => if x = b then some o else h x) L w ∧ Step h (fun x => if x = b then some o else h x) := by
  obtain ⟨hb1, hb2, hb3⟩ := s.own (b, o) (List.mem_cons_self ..)
  have hnd : b ∉ L.map (·.1) ∧ (L.map (·.1)).Nodup := List.nodup_cons.1 (by simpa using s.nd)
  refine ⟨⟨s.below, fun x o' hx => ?_, fun x hx => ?_, fun x o' hx => ?_, fun p hp => ?_, hnd.2⟩, ⟨fun x o' hx => ?_⟩⟩
  · have := s.ge x o' hx
    by_cases e : x = b
    · subst e; simp only at hb3; rw [this] at hb3; cases hb3
    · simp [e, this]
  · have : x ≠ b := by simp only at hb1; omega
    simp [this, s.old x hx]
  · by_cases e : x = b
    · subst e; simp only [if_true] at hx; cases hx; exact hb2
    · simp only [e, if_false] at hx; exact s.fro x o' hx
  · have hne : p.1 ≠ b := fun e => hnd.1 (e ▸ List.mem_map_of_mem hp)
    have := s.own p (List.mem_cons_of_mem _ hp)
    exact ⟨this.1, this.2.1, by simp [hne, this.2.2]⟩
  · by_cases e : x = b
    · subst e; simp only at hb3; rw [hx] at hb3; cases hb3
    · simp [e, hx]

/-- An order of the owned blocks is none. -/
theorem St.perm {w0 : World} {h0 h : Heap} {L L' : Own} {w : World} (s : St w0 h0 h L w) (p : L.Perm L') : St w0 h0 h L' w :=
  ⟨s.below, s.ge, s.old, s.fro, fun q hq => s.own q (p.mem_iff.2 hq), (p.map _).nodup_iff.1 s.nd⟩

/-- A change of one owned block alone. -/
theorem St.upd {w0 : World} {h0 h : Heap} {L1 L2 : Own} {w w' : World} {b : Nat} {o o' : Obj} (s : St w0 h0 h (L1 ++ (b, o) :: L2) w)
    (hos : w'.os = w.os) (ht : w'.tape = w.tape) (hout : w'.output = w.output) (hsz : w'.heap.size = w.heap.size)
    (hb : w'.heap[b]? = some o') (hne : ∀ k, k ≠ b → w'.heap[k]? = w.heap[k]?) : St w0 h0 h (L1 ++ (b, o') :: L2) w' := by
  have hm : (b, o) ∈ L1 ++ (b, o) :: L2 := by simp
  obtain ⟨hb1, hb2, hb3⟩ := s.own _ hm
  have hnd := s.nd
  refine ⟨⟨hos.trans s.below.os, ht.trans s.below.tape, hout.trans s.below.output, by rw [hsz]; exact s.below.size, fun k hk => ?_⟩, s.ge, s.old, fun x ox hx => ?_, fun p hp => ?_, ?_⟩
  · rw [hne k (by simp only at hb1; omega)]; exact s.below.block k hk
  · rw [hne x (fun e => by subst e; rw [hx] at hb3; cases hb3)]; exact s.fro x ox hx
  · rcases List.mem_append.1 hp with h | h
    · have hpb : p.1 ≠ b := fun e => by
        have hx : b ∈ L1.map (·.1) := e ▸ List.mem_map_of_mem h
        rw [List.map_append, List.nodup_append] at hnd
        exact hnd.2.2 b hx b (by simp) rfl
      have := s.own p (List.mem_append_left _ h)
      exact ⟨this.1, (hne _ hpb).trans this.2.1, this.2.2⟩
    · rcases List.mem_cons.1 h with rfl | h
      · exact ⟨hb1, hb, hb3⟩
      · have hpb : p.1 ≠ b := fun e => by
          have hx : b ∈ L2.map (·.1) := e ▸ List.mem_map_of_mem h
          rw [List.map_append, List.nodup_append] at hnd
          have := hnd.2.1
          simp only [List.map_cons, List.nodup_cons] at this
          exact this.1 hx
        have := s.own p (List.mem_append_right _ (List.mem_cons_of_mem _ h))
        exact ⟨this.1, (hne _ hpb).trans this.2.1, this.2.2⟩
  · simpa using hnd

/-- The fence under which everything is walked: any function, any depth; in a round of a range over a function or not. -/
def fen (r : Option Nat) : Fence := { fn := fun _ => True, depth := none, alive := false, round := r }
theorem fen_none : fen none = Fence.wide := rfl

/-- What stays the same while one activation is walked: program, round, number of temporaries, memory and frozen blocks at the beginning. -/
structure Cfg where
  P : Program
  r : Option Nat
  n : Nat
  w0 : World
  h0 : Heap

abbrev Post := Exit → List Deferred → Env → Heap → Own → Prop

def lift (C : Cfg) (Q : Post) : Exit → Act → World → Prop := fun e a w =>
  ∃ ds ρ h L, Ag C.n ds a ρ ∧ St C.w0 C.h0 h L w ∧ Q e ds ρ h L

def J (C : Cfg) (c : Code) (Q : Post) (ds : List Deferred) (ρ : Env) (h : Heap) (L : Own) : Prop :=
  ∀ a w, Ag C.n ds a ρ → St C.w0 C.h0 h L w → c.wpIn (fen C.r) 0 C.P (lift C Q) a w

@[reducible] def thenQ (K : List Deferred → Env → Heap → Own → Prop) (Q : Post) : Post
  | .normal, ds, ρ, h, L => K ds ρ h L
  | e, ds, ρ, h, L => Q e ds ρ h L
@[reducible] def inB (id : Nat) (Q : Post) : Post
  | .exit id', ds, ρ, h, L => bif Nat.beq id' id then Q .normal ds ρ h L else Q (.exit id') ds ρ h L
  | e, ds, ρ, h, L => Q e ds ρ h L

variable {C : Cfg} {Q Q' : Post} {ds : List Deferred} {ρ : Env} {h : Heap} {L : Own}

theorem J.mono {c : Code} (hj : J C c Q ds ρ h L) (hq : ∀ e ds ρ h L, Q e ds ρ h L → Q' e ds ρ h L) : J C c Q' ds ρ h L :=
  fun a w ha hs => wpIn_mono (hj a w ha hs) fun _ _ _ ⟨ds, ρ, h, L, x, y, z⟩ => ⟨ds, ρ, h, L, x, y, hq _ _ _ _ _ z⟩

theorem J.seq {x y : Code} (hx : J C x (thenQ (J C y Q) Q) ds ρ h L) : J C (.seq x y) Q ds ρ h L := fun a w ha hs => by
  refine wpIn_seq (wpIn_mono (hx a w ha hs) ?_)
  rintro e a' w' ⟨ds', ρ', h', L', h1, h2, h3⟩
  cases e <;> first | exact h3 a' w' h1 h2 | exact ⟨ds', ρ', h', L', h1, h2, h3⟩
theorem J.skip (hq : Q .normal ds ρ h L) : J C .skip Q ds ρ h L := fun _ _ ha hs => wpIn_skip ⟨_, _, _, _, ha, hs, hq⟩
theorem J.label {l : Nat} (hq : Q .normal ds ρ h L) : J C (.label l) Q ds ρ h L := fun _ _ ha hs => wpIn_label ⟨_, _, _, _, ha, hs, hq⟩
theorem J.exit {id : Nat} (hq : Q (.exit id) ds ρ h L) : J C (.exit id) Q ds ρ h L := fun _ _ ha hs => wpIn_exit ⟨_, _, _, _, ha, hs, hq⟩
theorem J.ret (hq : Q .ret ds ρ h L) : J C .ret Q ds ρ h L := fun _ _ ha hs => wpIn_ret ⟨_, _, _, _, ha, hs, hq⟩
theorem J.cond {c : Operand} {x y : Code} {t : Bool} (hc : ρ.ev c = .bool t) (ht : t = true → J C x Q ds ρ h L) (hf : t = false → J C y Q ds ρ h L) :
    J C (.cond c x y) Q ds ρ h L := fun a w ha hs => by
  have hc' : a.eval c = .bool t := by rw [ha.eval]; exact hc
  cases t
  · exact wpIn_cond_false hc' (hf rfl a w ha hs)
  · exact wpIn_cond_true hc' (ht rfl a w ha hs)
theorem J.condT {c : Operand} {x y : Code} {t : Bool} (hc : ρ.ev c = .bool t) (ht : t = true) (hx : J C x Q ds ρ h L) : J C (.cond c x y) Q ds ρ h L :=
  J.cond hc (fun _ => hx) (fun e => by rw [ht] at e; cases e)
theorem J.condF {c : Operand} {x y : Code} {t : Bool} (hc : ρ.ev c = .bool t) (ht : t = false) (hx : J C y Q ds ρ h L) : J C (.cond c x y) Q ds ρ h L :=
  J.cond hc (fun e => by rw [ht] at e; cases e) (fun _ => hx)
/-- The test is a decision of p. -/
theorem J.condD {c : Operand} {x y : Code} {p : Prop} [Decidable p] (hc : ρ.ev c = .bool (decide p)) (ht : p → J C x Q ds ρ h L) (hf : ¬ p → J C y Q ds ρ h L) :
    J C (.cond c x y) Q ds ρ h L := J.cond hc (fun e => ht (of_decide_eq_true e)) (fun e => hf (of_decide_eq_false e))
theorem J.block {id : Nat} {c : Code} (hj : J C c (inB id Q) ds ρ h L) : J C (.block id c) Q ds ρ h L := fun a w ha hs => by
  refine wpIn_block (wpIn_mono (hj a w ha hs) ?_)
  rintro e a' w' ⟨ds', ρ', h', L', h1, h2, h3⟩
  cases e with
  | exit id' =>
    by_cases e : id' = id
    · subst e; simp only [inB, Nat.beq_refl, cond_true] at h3
      simp only [Exit.inBlock, if_true]; exact ⟨ds', ρ', h', L', h1, h2, h3⟩
    · simp only [inB, beq_ff e, cond_false] at h3
      simp only [Exit.inBlock, e, if_false]; exact ⟨ds', ρ', h', L', h1, h2, h3⟩
  | _ => exact ⟨ds', ρ', h', L', h1, h2, h3⟩
theorem stepR_scope {P : Program} {b : Frame} {a : Act} {k : List Item} {cs : List Frame} {w : World} {c : Code} :
    step P (lone (b.atR a (.code (.scope c) :: k)) cs w) = .next (lone (b.atR a (.code c :: .inScope c :: k)) cs w) :=
  step_lone_go (by simp [stepG, stepG.exec, Frame.atR])
theorem stepR_inScope {P : Program} {b : Frame} {a : Act} {k : List Item} {cs : List Frame} {w : World} {c : Code} :
    step P (lone (b.atR a (.inScope c :: k)) cs w) = .next (lone (b.atR a k) cs w) :=
  step_lone_go (by simp [stepG, stepG.exec, Frame.atR])
theorem wpIn_scope {F : Fence} {n : Nat} {P : Program} {c : Code} {Q : Exit → Act → World → Prop} {a : Act} {w : World}
    (hg : ∀ l a w, Q (.goto l) a w → False) (h : c.wpIn F n P Q a w) : (Code.scope c).wpIn F n P Q a w := by
  intro b k cs hro hb hr
  have h0 : (lone (b.atR a (.code (.scope c) :: k)) cs w).fenced P F := fenced_calm hb hr rfl
  obtain ⟨e, a₁, w₁, hq, harr⟩ := h b (.inScope c :: k) cs hro hb hr
  cases e with
  | normal => exact ⟨.normal, a₁, w₁, hq, .head h0 stepR_scope (StepsIn.trans harr (.one (fenced_calm hb hr rfl) stepR_inScope))⟩
  | exit id =>
    have hx : exitTo id (.inScope c :: k) = exitTo id k := by simp [exitTo]
    exact ⟨_, a₁, w₁, hq, fun k' hk => .head h0 stepR_scope (harr.1 k' (by rw [hx]; exact hk)),
      fun hr' hk => let ⟨k₁, h1, h2⟩ := harr.2 hr' (by rw [hx]; exact hk); ⟨k₁, h1, .head h0 stepR_scope h2⟩⟩
  | goto l => exact (hg _ _ _ hq).elim
  | ret => exact ⟨_, a₁, w₁, hq, .of_steps (.one h0 stepR_scope) harr⟩
  | panic ch => exact ⟨_, a₁, w₁, hq, .of_steps (.one h0 stepR_scope) harr⟩
  | outgrown => exact ⟨_, a₁, w₁, hq, .of_steps (.one h0 stepR_scope) harr⟩
@[reducible] def noGo (Q : Post) : Post
  | .goto _, _, _, _, _ => False
  | e, ds, ρ, h, L => Q e ds ρ h L
theorem J.scope {c : Code} (hj : J C c (noGo Q) ds ρ h L) : J C (.scope c) Q ds ρ h L := fun a w ha hs => by
  refine wpIn_mono (wpIn_scope (Q := lift C (noGo Q)) (fun l a w ⟨_, _, _, _, _, _, x⟩ => x) (hj a w ha hs)) ?_
  rintro e a' w' ⟨ds', ρ', h', L', h1, h2, h3⟩
  cases e with
  | goto l => exact h3.elim
  | _ => exact ⟨ds', ρ', h', L', h1, h2, h3⟩

/-- A loop: the slots of 'keep' hold what they held at its beginning; those of 'live x' hold what x says; 'I x' speaks of the owned blocks and the frozen ones; x goes down. -/
def setAll (ρ : Env) : List (Nat × Value) → Env
  | [] => ρ
  | (t, v) :: l => (setAll ρ l).set t v
def Has (ρ : Env) : List (Nat × Value) → Prop
  | [] => True
  | (t, v) :: l => ρ t = v ∧ Has ρ l
theorem setAll_self : ∀ (ρ : Env) (l : List (Nat × Value)), Has ρ l → setAll ρ l = ρ
  | _, [], _ => rfl
  | ρ, (t, v) :: l, ⟨e, hl⟩ => by
    rw [setAll, setAll_self ρ l hl]
    funext s
    by_cases e' : s = t
    · subst e'; rw [Env.set_eq, e]
    · rw [Env.set_ne _ _ e']

def keepOf (ρ : Env) : List Nat → List (Nat × Value)
  | [] => []
  | t :: l => (t, ρ t) :: keepOf ρ l

theorem J.loop {α : Type} {c : Code} (I : α → Heap → Own → Prop) (keep : List Nat) (sl : α → List (Nat × Value)) (μ : α → Nat) (x0 : α)
    (h0 : I x0 h L) (hs : Has ρ (sl x0))
    (round : ∀ x σ h' L', Step h h' → I x h' L' →
      J C c (thenQ (fun ds' ρ' h'' L'' => ∃ x', ds' = ds ∧ Has ρ' (keepOf ρ keep) ∧ Has ρ' (sl x') ∧ I x' h'' L'' ∧ μ x' < μ x ∧ Ext h h'') Q) ds
        (setAll (setAll σ (keepOf ρ keep)) (sl x)) h' L') : J C (.loop c) Q ds ρ h L := by
  have hk : ∀ l : List Nat, Has ρ (keepOf ρ l) := fun l => by induction l with
    | nil => trivial
    | cons t l ih => exact ⟨rfl, ih⟩
  have key : ∀ m x ρ' h' L', μ x < m → Ext h h' → Has ρ' (keepOf ρ keep) → Has ρ' (sl x) → I x h' L' → ∀ a w, Ag C.n ds a ρ' → St C.w0 C.h0 h' L' w →
      Code.roundsIn (fen C.r) 0 C.P c (lift C Q) m a w := by
    intro m
    induction m with
    | zero => intro x _ _ _ hm; exact absurd hm (Nat.not_lt_zero _)
    | succ m ih =>
      intro x ρ' h' L' hm hx hk' hsl hI a w ha hst
      have hj := round x ρ' h' L' hx.toStep hI
      rw [setAll_self _ _ hk', setAll_self _ _ hsl] at hj
      refine wpIn_mono (hj a w ha hst) ?_
      rintro e a' w' ⟨ds', ρ2, h2, L2, g1, g2, g3⟩
      cases e with
      | normal =>
        obtain ⟨x', rfl, e1, e2, e3, e4, e5⟩ := g3
        exact ih x' ρ2 h2 L2 (by omega) e5 e1 e2 e3 a' w' g1 g2
      | _ => exact ⟨_, _, _, _, g1, g2, g3⟩
  exact fun a w ha hst => wpIn_loop_rounds (μ x0 + 1) (key (μ x0 + 1) x0 ρ h L (Nat.lt_succ_self _) inferInstance (hk keep) hs h0 a w ha hst)

/-- A post between two pieces of code. -/
theorem J.cut {x y : Code} (K : List Deferred → Env → Heap → Own → Prop) (hx : J C x (thenQ K Q) ds ρ h L) (hy : ∀ ds ρ h L, K ds ρ h L → J C y Q ds ρ h L) :
    J C (.seq x y) Q ds ρ h L :=
  J.seq (hx.mono fun e ds ρ h L q => by cases e <;> first | exact hy _ _ _ _ q | exact q)

/-- A post between two pieces of code, in a loop's words. -/
theorem J.cutS {α : Type} {x y : Code} (I : α → Heap → Own → Prop) (keep : List Nat) (sl : α → List (Nat × Value))
    (hx : J C x (thenQ (fun ds' ρ' h' L' => ∃ z, ds' = ds ∧ Has ρ' (keepOf ρ keep) ∧ Has ρ' (sl z) ∧ I z h' L' ∧ Ext h h') Q) ds ρ h L)
    (hy : ∀ z σ h' L', Step h h' → I z h' L' → J C y Q ds (setAll (setAll σ (keepOf ρ keep)) (sl z)) h' L') : J C (.seq x y) Q ds ρ h L :=
  J.cut _ hx fun ds' ρ' h' L' ⟨z, e, k1, k2, k3, k4⟩ => by
    subst e
    have := hy z ρ' h' L' k4.toStep k3
    rwa [setAll_self _ _ k1, setAll_self _ _ k2] at this

theorem J.drop {c : Code} {p : Nat × Obj} (hj : J C c Q ds ρ h L) : J C c Q ds ρ h (p :: L) := fun a w ha hs => hj a w ha hs.drop
theorem J.freeze {c : Code} {b : Nat} {o : Obj} (hj : ∀ h', Step h h' → h' b = some o → J C c Q ds ρ h' L) : J C c Q ds ρ h ((b, o) :: L) :=
  fun a w ha hs => hj _ hs.freeze.2 (by simp) a w ha hs.freeze.1
theorem J.perm {c : Code} {L' : Own} (hp : L.Perm L') (hj : J C c Q ds ρ h L') : J C c Q ds ρ h L := fun a w ha hs => hj a w ha (hs.perm hp)

/-- What a call gives: a value and frozen blocks of which R speaks; whatever was there before stays. -/
def Fn (P : Program) (f : FuncId) (args : Array Value) (h : Heap) (R : Value → Heap → Prop) : Prop :=
  ∀ w, (∀ b o, h b = some o → w.heap[b]? = some o) → Calls P f args w fun e w' => ∃ v h', e = .returned v ∧ Below w.heap.size w w' ∧ Ext h h' ∧
    (∀ b, b < w.heap.size → h' b = h b) ∧ (∀ b o, h' b = some o → w'.heap[b]? = some o) ∧ R v h'

theorem Fn.mono {P : Program} {f : FuncId} {args : Array Value} {h : Heap} {R R' : Value → Heap → Prop} (hf : Fn P f args h R) (hr : ∀ v h', Ext h h' → R v h' → R' v h') : Fn P f args h R' :=
  fun w hw => (hf w hw).mono fun _ _ ⟨v, h', a, b, c, d, e, f⟩ => ⟨v, h', a, b, c, d, e, hr _ _ c f⟩

def argEnv (l : List Value) : Env := fun t => l.getD t undef

theorem results_run {P : Program} {n : Nat} {ds : List Deferred} {a : Act} {ρ : Env} {w : World} {fn : Func} {t : Tmp} (ha : Ag n ds a ρ) (hr : fn.results = #[.tmp t]) :
    (results fn a.tmps).run P w = .ok (ρ t) w := by
  rw [results_tmp hr, ha.get]

def RetR (C : Cfg) (fn : Func) (ρ : Env) (h : Heap) (L : Own) (v : Value) : Prop :=
  ∀ a w ds, Ag C.n ds a ρ → St C.w0 C.h0 h L w → (results fn a.tmps).run C.P w = .ok v w

/-- What the body of a function must come to. -/
def retQ (C : Cfg) (fn : Func) (R : Value → Heap → Prop) : Post := fun e ds ρ h L =>
  (e = .normal ∨ e = .ret) ∧ ds = [] ∧ ∃ v, RetR C fn ρ h L v ∧ R v h

theorem Fn.intro {P : Program} {f : FuncId} {fn : Func} {c : Code} {args : List Value} {h : Heap} {R : Value → Heap → Prop} {n : Nat} (hf : P.funcs[f]? = some fn) (hb : fn.body = some c)
    (hn : fn.ntmps = n) (hl : args.length ≤ n)
    (hj : ∀ w, J ⟨P, none, n, w, h⟩ c (retQ ⟨P, none, n, w, h⟩ fn R) [] (argEnv args) h []) : Fn P f args.toArray h R := by
  intro w hw
  refine (callsIn_wide (n := 0)).1 (callsIn_of_wp hf hb trivial (wpIn_mono (hj w _ w ⟨?_, rfl, fun t => ?_⟩ ⟨Below.refl _ _, fun _ _ x => x, fun _ _ => rfl, hw, fun _ hp => (by cases hp), by simp⟩) ?_))
  · simp [hn]; omega
  · simp only [argEnv, List.getD_eq_getElem?_getD]
    rcases Nat.lt_or_ge t args.length with ht | ht
    · simp [Array.getElem?_append, ht]
    · by_cases h2 : t - args.length < fn.ntmps - args.length
      · simp [Array.getElem?_append, Nat.not_lt.2 ht, List.getElem?_eq_none ht, h2]
      · simp [Array.getElem?_append, Nat.not_lt.2 ht, List.getElem?_eq_none ht, h2]
  · rintro e a' w' ⟨ds, ρ, h', L, h1, h2, he, rfl, v, hv, hR⟩
    have hres := hv a' w' _ h1 h2
    have post : a'.defers = [] ∧ ∃ v, (results fn a'.tmps).run P w' = .ok v w' ∧ ∃ v1 h', Ending.returned v = .returned v1 ∧ Below w.heap.size w w' ∧ Ext h h' ∧
      (∀ b, b < w.heap.size → h' b = h b) ∧ (∀ b o, h' b = some o → w'.heap[b]? = some o) ∧ R v1 h' :=
      ⟨h1.defers, v, hres, v, h', rfl, h2.below, ⟨h2.ge⟩, h2.old, h2.fro, hR⟩
    rcases he with rfl | rfl
    · exact post
    · exact post
end Go.Z
end
section
set_option linter.unusedSimpArgs false
set_option linter.unusedVariables false
/- The calculus beneath the proofs: lists of operations, guards, and one rule for each kind of operation that makes no block. No program is named here. -/
namespace Go.Z
open Go Go.RowKit

def wpL (r : Option Nat) (P : Program) (ops : Array Oper) (Q : Exit → Act → World → Prop) : List Oper → Act → World → Prop
  | [], a, w => Q .normal a w
  | o :: rest, a, w => if Region.wanted o (yielded ops a.tmps) then o.wpIn (fen r) 0 P a w (wpL r P ops Q rest) Q else wpL r P ops Q rest (a.put o.dst undef) w

theorem wpOpsIn_eq {r : Option Nat} {P : Program} {ops : Array Oper} {Q : Exit → Act → World → Prop} (l : List Oper) : ∀ k, (∀ j, l[j]? = ops[k + j]?) → ∀ a w, wpL r P ops Q l a w → wpOpsIn (fen r) 0 P ops Q (List.range' k l.length) a w := by
  induction l with
  | nil => intro k _ a w h; simpa [wpOpsIn, wpL] using h
  | cons o l ih =>
    intro k h a w hw
    have h0 : ops[k]? = some o := by simpa using (h 0).symm
    have ih' := ih (k + 1) (fun j => by have := h (j + 1); simpa [Nat.add_assoc, Nat.add_comm 1 j] using this)
    simp only [List.length_cons, List.range'_succ, wpOpsIn, h0]
    simp only [wpL] at hw
    split
    · rename_i hx; rw [if_pos hx] at hw
      refine ⟨hw.1, ?_⟩
      have := hw.2
      generalize (o.semAt (fen r).round a.eval).run P w = res at this ⊢
      cases res with
      | ok nx w' =>
        cases nx <;> simp only [Oper.uponIn] at this ⊢ <;>
          first
            | exact ih' _ _ this
            | exact ⟨this.1, CallsIn.mono this.2 (fun e w'' he => by cases e <;> first | exact ih' _ _ he | exact he)⟩
            | exact ⟨this.1, RowsIn.mono this.2 (fun _ _ he => ih' _ _ he)⟩
            | exact ⟨this.1, RoundIn.mono this.2 (fun e w'' he => by cases e <;> first | exact ih' _ _ he | exact he)⟩
      | halt x w' => cases x <;> simp only [Oper.uponIn] at this ⊢ <;> exact this
    · rename_i hx; rw [if_neg hx] at hw
      exact ⟨fun _ _ => trivial, ih' _ _ hw⟩

def JL (C : Cfg) (ops : Array Oper) (Q : Post) (rest : List Oper) (ds : List Deferred) (ρ : Env) (h : Heap) (L : Own) : Prop :=
  ∀ a w, Ag C.n ds a ρ → St C.w0 C.h0 h L w → wpL C.r C.P ops (lift C Q) rest a w

variable {C : Cfg} {Q Q' : Post} {ds : List Deferred} {ρ : Env} {h : Heap} {L : Own} {ops : Array Oper} {rest : List Oper}

theorem J.region {id : Nat} {l : List Oper} (hj : JL C l.toArray Q l ds ρ h L) : J C (.region id l.toArray false) Q ds ρ h L := fun a w ha hs => by
  refine wpIn_region ?_
  have := wpOpsIn_eq l 0 (fun j => by simp) a w (hj a w ha hs)
  simpa [List.range_eq_range'] using this

theorem JL.nil (hq : Q .normal ds ρ h L) : JL C ops Q [] ds ρ h L := fun _ _ ha hs => ⟨_, _, _, _, ha, hs, hq⟩

/-- A deferring statement is none of these. -/
def calm : Op → Bool
  | .defer _ => false
  | _ => true
theorem semAt_calm {r : Option Nat} {ρ : Operand → Value} {o : Oper} (hc : calm o.op = true) : o.semAt r ρ = execOp ρ o :=
  Oper.semAt_eq _ _ _ fun c e => by rw [e] at hc; cases hc

theorem JL.step {o : Oper} (hg : o.guard = none) (hc : calm o.op = true)
    (run : ∀ a w, Ag C.n ds a ρ → St C.w0 C.h0 h L w → o.uponIn (fen C.r) 0 C.P a (wpL C.r C.P ops (lift C Q) rest) (lift C Q) ((execOp ρ.ev o).run C.P w)) :
    JL C ops Q (o :: rest) ds ρ h L := fun a w ha hs => by
  simp only [wpL, Region.wanted, hg, if_true]
  exact ⟨fun _ _ => trivial, by rw [semAt_calm hc, ha.eval]; exact run a w ha hs⟩

/-- An operation that gives a value. -/
theorem JL.val {o : Oper} {d : Nat} (hg : o.guard = none) (hc : calm o.op = true) (hd : o.dst = some d) (hn : Nat.blt d C.n = true)
    (run : ∀ w, St C.w0 C.h0 h L w → ∃ v h' L' w', (execOp ρ.ev o).run C.P w = .ok (.value v) w' ∧ St C.w0 C.h0 h' L' w' ∧ JL C ops Q rest ds (ρ.set d v) h' L') :
    JL C ops Q (o :: rest) ds ρ h L := JL.step hg hc fun a w ha hs => by
  obtain ⟨v, h', L', w', hr, hs', hk⟩ := run w hs
  rw [hr, Oper.uponIn_value, hd]
  exact hk _ _ (ha.put hn v) hs'

/-- One that gives a value and leaves the memory as it is. -/
theorem JL.pure {o : Oper} {d : Nat} {v : Value} (hg : o.guard = none) (hc : calm o.op = true) (hd : o.dst = some d) (hn : Nat.blt d C.n = true)
    (run : ∀ w, St C.w0 C.h0 h L w → (execOp ρ.ev o).run C.P w = .ok (.value v) w) (k : JL C ops Q rest ds (ρ.set d v) h L) :
    JL C ops Q (o :: rest) ds ρ h L := JL.val hg hc hd hn fun w hs => ⟨v, h, L, w, run w hs, hs, k⟩

/-- One that gives none. -/
theorem JL.unit {o : Oper} (hg : o.guard = none) (hc : calm o.op = true) (hd : o.dst = none)
    (run : ∀ w, St C.w0 C.h0 h L w → ∃ h' L' w', (execOp ρ.ev o).run C.P w = .ok .skip w' ∧ St C.w0 C.h0 h' L' w' ∧ JL C ops Q rest ds ρ h' L') :
    JL C ops Q (o :: rest) ds ρ h L := JL.step hg hc fun a w ha hs => by
  obtain ⟨h', L', w', hr, hs', hk⟩ := run w hs
  rw [hr, Oper.uponIn_skip, hd]
  exact hk _ _ (ha.putNone undef) hs'

theorem yielded_eq {n : Nat} {a : Act} (ha : Ag n ds a ρ) {j t : Nat} {b : Bool} (hj : (ops[j]?).bind (·.dst) = some t) (hb : ρ t = .bool b) : yielded ops a.tmps j = some b := by
  have hg := ha.get t
  rw [hb] at hg
  have hlt : t < a.tmps.size := by
    rcases Nat.lt_or_ge t a.tmps.size with h | h
    · exact h
    · simp [Array.getElem?_eq_none h, undef] at hg
  simp only [yielded, hj, Option.bind_some]
  simp [hlt] at hg
  simp [hlt, hg]

section guards
variable {dst : Option Tmp} {op : Op} {ty : TypeId} {pos : String} {after : Array Edge}
theorem JL.guardT {j t : Nat} {b want : Bool} (hj : (ops[j]?).bind (·.dst) = some t) (hb : ρ t = .bool b) (hw : b = want)
    (k : JL C ops Q (⟨dst, op, ty, pos, after, none⟩ :: rest) ds ρ h L) : JL C ops Q (⟨dst, op, ty, pos, after, some (j, want)⟩ :: rest) ds ρ h L := fun a w ha hs => by
  have := k a w ha hs
  have hw1 : Region.wanted ⟨dst, op, ty, pos, after, some (j, want)⟩ (yielded ops a.tmps) = true := by
    simp only [Region.wanted]; rw [yielded_eq ha hj hb, hw]; simp
  have hw0 : Region.wanted ⟨dst, op, ty, pos, after, none⟩ (yielded ops a.tmps) = true := rfl
  simp only [wpL] at this ⊢
  rw [if_pos hw1]
  rw [if_pos hw0] at this
  exact this
theorem JL.guardF {j t d : Nat} {b want : Bool} (hj : (ops[j]?).bind (·.dst) = some t) (hb : ρ t = .bool b) (hw : b = !want) (hn : Nat.blt d C.n = true)
    (k : JL C ops Q rest ds (ρ.set d undef) h L) : JL C ops Q (⟨some d, op, ty, pos, after, some (j, want)⟩ :: rest) ds ρ h L := fun a w ha hs => by
  have hw1 : ¬ Region.wanted ⟨some d, op, ty, pos, after, some (j, want)⟩ (yielded ops a.tmps) = true := by
    simp only [Region.wanted]; rw [yielded_eq ha hj hb, hw]; cases want <;> simp
  simp only [wpL]
  rw [if_neg hw1]
  exact k _ _ (ha.put hn undef) hs
end guards

/-- The worlds in which h is frozen and L owned, and perhaps more. -/
def SS (C : Cfg) (h : Heap) (L : Own) : World → Prop := fun w => ∃ h' L', Ext h h' ∧ (∀ p ∈ L, p ∈ L') ∧ St C.w0 C.h0 h' L' w
/-- The operation yields v in every world that meets S, and leaves it as it is. -/
def Qr (C : Cfg) (ρ : Env) (S : World → Prop) (op : Op) (ty : TypeId) (v : Value) : Prop :=
  calm op = true ∧ ∀ w, S w → (execOp ρ.ev ⟨none, op, ty, "", #[], none⟩).run C.P w = .ok (.value v) w

section ops
variable {d : Nat} {ty : TypeId} {pos : String} {after : Array Edge} {op : Op} {S : World → Prop}
theorem Qr.exec {v : Value} (q : Qr C ρ S op ty v) {dst : Option Tmp} {g : Option (Nat × Bool)} {w : World} (hw : S w) : (execOp ρ.ev ⟨dst, op, ty, pos, after, g⟩).run C.P w = .ok (.value v) w := q.2 w hw
theorem o_q {v : Value} (q : Qr C ρ (SS C h L) op ty v) (k : JL C ops Q rest ds (ρ.set d v) h L) (hn : Nat.blt d C.n = true := by rfl) : JL C ops Q (⟨some d, op, ty, pos, after, none⟩ :: rest) ds ρ h L :=
  JL.pure rfl q.1 rfl hn (fun w hs => q.exec ⟨h, L, Ext.refl h, fun _ hp => hp, hs⟩) k
theorem q_mv {x : Operand} : Qr C ρ S (.move x) ty (ρ.ev x) := ⟨rfl, fun _ _ => rfl⟩
theorem q_as {x : Operand} : Qr C ρ S (.assign x) ty (ρ.ev x) := ⟨rfl, fun _ _ => rfl⟩
end ops
end Go.Z
end
section
set_option linter.unusedSimpArgs false
set_option linter.unusedVariables false
/- The calculus beneath the proofs: the rules for operations that only reckon, read or write what is known. No program is named here. -/
set_option linter.unusedSimpArgs false
set_option linter.unusedVariables false
namespace Go.Z
open Go Go.RowKit

/-! ### What is known of a type -/
class Sl (P : Program) (T : TypeId) (e : outParam TypeId) : Prop where u : P.underlying T = some (.slice e)
class Sz (P : Program) (T : TypeId) (n : outParam Nat) : Prop where i : ∃ i, P.info? T = some i ∧ i.size = n
class By (P : Program) (T : TypeId) (n : outParam Nat) : Prop where i : ∃ i, P.info? T = some i ∧ i.bytes = n
class Zv (P : Program) (T : TypeId) (z : outParam (List Value)) : Prop where i : ∃ i v, P.info? T = some i ∧ i.zero = some v ∧ v.cells = ⟨z⟩
class Kd (P : Program) (T : TypeId) (k : outParam IntKind) : Prop where u : P.underlying T = some (.int k)
class Bl (P : Program) (T : TypeId) : Prop where u : P.underlying T = some .bool
/-- Of one cell. -/
class Pr (P : Program) (T : TypeId) : Prop where u : ∃ d, P.underlying T = some d ∧ (match d with | .struct _ | .array _ _ => false | _ => true) = true
/-- A struct or an array, of n cells. -/
class Ag1 (P : Program) (T : TypeId) (n : outParam Nat) : Prop where
  u : ∃ d, P.underlying T = some d ∧ (match d with | .struct _ | .array _ _ => true | _ => false) = true
  i : ∃ i, P.info? T = some i ∧ i.size = n
/-- Field f of the struct T begins at off. -/
class Fo (P : Program) (T : TypeId) (f : Nat) (off : outParam Nat) : Prop where
  u : ∃ fs fd i, P.underlying T = some (.struct fs) ∧ fs[f]? = some fd ∧ fd.offset = off ∧ P.info? fd.type = some i ∧ (i.size == 0) = false
class Ent (P : Program) (f : FuncId) : Prop where e : ∀ args w, (callFunc f args).run P w = .ok (.enter f args) w

abbrev row (T : TypeId) (l : List Value) : Obj := .cells ⟨l⟩ T (0, 0)

variable {C : Cfg} {Q Q' : Post} {ds : List Deferred} {ρ : Env} {h : Heap} {L : Own} {ops : Array Oper} {rest : List Oper}
variable {d : Nat} {ty : TypeId} {pos : String} {after : Array Edge} {S : World → Prop}

theorem sz_of {P : Program} {T n : Nat} (h : (P.info? T).map (·.size) = some n) : Sz P T n := ⟨by
  cases e : P.info? T with
  | none => rw [e] at h; cases h
  | some i => rw [e] at h; exact ⟨i, rfl, by simpa using h⟩⟩
theorem by_of {P : Program} {T n : Nat} (h : (P.info? T).map (·.bytes) = some n) : By P T n := ⟨by
  cases e : P.info? T with
  | none => rw [e] at h; cases h
  | some i => rw [e] at h; exact ⟨i, rfl, by simpa using h⟩⟩
theorem zv_of {P : Program} {T : Nat} {z : List Value} (h : (P.info? T).bind (fun i => i.zero.map (·.cells.toList)) = some z) : Zv P T z := ⟨by
  cases e : P.info? T with
  | none => rw [e] at h; cases h
  | some i =>
    rw [e] at h
    cases ez : i.zero with
    | none => simp [ez] at h
    | some v => simp [ez] at h; exact ⟨i, v, rfl, ez, by rw [← h]⟩⟩
theorem pr_of {P : Program} {T : Nat} (h : (P.underlying T).map (fun d => match d with | .struct _ | .array _ _ => false | _ => true) = some true) : Pr P T := ⟨by
  cases e : P.underlying T with
  | none => rw [e] at h; cases h
  | some d => rw [e] at h; exact ⟨d, rfl, by simpa using h⟩⟩
theorem ag_of {P : Program} {T n : Nat} (h : (P.underlying T).map (fun d => match d with | .struct _ | .array _ _ => true | _ => false) = some true) (hs : (P.info? T).map (·.size) = some n) : Ag1 P T n := ⟨by
  cases e : P.underlying T with
  | none => rw [e] at h; cases h
  | some d => rw [e] at h; exact ⟨d, rfl, by simpa using h⟩, (sz_of hs).i⟩
def foCheck (P : Program) (T f : Nat) : Option (Nat × Nat) :=
  match P.underlying T with
  | some (.struct fs) => match fs[f]? with
    | some fd => match P.info? fd.type with
      | some i => some (fd.offset, i.size)
      | none => none
    | none => none
  | _ => none
theorem fo_of {P : Program} {T f off : Nat} (n : Nat) (h : foCheck P T f = some (off, n)) (hn : (n == 0) = false) : Fo P T f off := ⟨by
  unfold foCheck at h
  split at h
  · rename_i fs hu
    split at h
    · rename_i fd hf
      split at h
      · rename_i i hi
        simp at h
        exact ⟨fs, fd, i, hu, hf, h.1, hi, by rw [h.2]; exact hn⟩
      · cases h
    · cases h
  · cases h⟩
theorem ent_of {P : Program} {f : FuncId} {fn : Func} (hf : P.funcs[f]? = some fn) (h : (fn.body.isNone || fn.name == "runtime.NumGoroutine") = false) : Ent P f := ⟨fun args w => by
  simp only [Bool.or_eq_false_iff] at h
  have h1 : ¬ fn.name = "runtime.NumGoroutine" := by simpa using h.2
  have h2 : ¬ fn.body = none := fun e => by simp [e] at h
  simp [callFunc, program, Sem.run, bind, Sem.bind, hf, h1, h2, pure]⟩
theorem run_isAgg {P : Program} {T : TypeId} {w : World} (hp : Pr P T) : (isAgg T).run P w = .ok false w := by
  obtain ⟨d, hd, hm⟩ := hp.u
  simp only [isAgg, underlying, program, bind, Sem.bind, Sem.run, hd, pure]
  cases d <;> simp_all [Sem.run, Sem.bind]
theorem run_isAgg1 {P : Program} {T n : TypeId} {w : World} (hp : Ag1 P T n) : (isAgg T).run P w = .ok true w := by
  obtain ⟨d, hd, hm⟩ := hp.u
  simp only [isAgg, underlying, program, bind, Sem.bind, Sem.run, hd, pure]
  cases d <;> simp_all [Sem.run, Sem.bind]


theorem wrap_in {k : IntKind} {n : Int} (h : k.min ≤ n ∧ n ≤ k.max) : k.wrap n = n := by
  cases k <;> simp only [IntKind.min, IntKind.max, IntKind.signed, IntKind.bits, if_true, Bool.false_eq_true, if_false] at h <;> simp only [IntKind.wrap, IntKind.signed, IntKind.bits] <;> simp at h ⊢ <;> omega

theorem wi64 {n : Int} (h : -9223372036854775808 ≤ n ∧ n ≤ 9223372036854775807) : IntKind.i64.wrap n = n := IntWalk.i64_in n h
theorem wu32 {n : Int} (h : 0 ≤ n ∧ n ≤ 4294967295) : IntKind.u32.wrap n = n := IntWalk.u32_in n h
theorem wu64 {n : Int} (h : 0 ≤ n ∧ n ≤ 18446744073709551615) : IntKind.u64.wrap n = n := by rw [IntKind.wrap_u64]; omega
theorem q_len {x : Operand} {T e : TypeId} [hu : Sl C.P T e] {p : Option Addr} {n c : Nat} (hx : ρ.ev x = .slice p n c) : Qr C ρ S (.call { callee := .builtin .len, args := #[x], argTypes := #[T] }) ty (.int .i64 (n : Int)) := ⟨rfl, fun w _ => by simp [go_sem, hx, hu.u]⟩

section ints
variable {x y : Operand} {T T' : TypeId} {q : IntKind} {a b c : Int}
theorem q_pickT {c x y : Operand} {b : Bool} (hc : ρ.ev c = .bool b) (hb : b = true) : Qr C ρ S (.pick c x y) ty (ρ.ev x) := ⟨rfl, fun w _ => by subst hb; simp [go_sem, hc]⟩
theorem q_pickF {c x y : Operand} {b : Bool} (hc : ρ.ev c = .bool b) (hb : b = false) : Qr C ρ S (.pick c x y) ty (ρ.ev y) := ⟨rfl, fun w _ => by subst hb; simp [go_sem, hc]⟩
theorem q_pick {c x y : Operand} {b : Bool} {v : Value} (hc : ρ.ev c = .bool b) (hv : (if b then ρ.ev x else ρ.ev y) = v) : Qr C ρ S (.pick c x y) ty v := ⟨rfl, fun w _ => by subst hv; simp [go_sem, hc]⟩

/- arithmetic: c is what the sum comes to -/
theorem q_add (hx : ρ.ev x = .int q a) (hy : ρ.ev y = .int q b) (hc : q.wrap (a + b) = c) : Qr C ρ S (.binOp .add T x y T') ty (.int q c) := ⟨rfl, fun w _ => by subst hc; simp [go_sem, hx, hy]⟩
theorem q_sub (hx : ρ.ev x = .int q a) (hy : ρ.ev y = .int q b) (hc : q.wrap (a - b) = c) : Qr C ρ S (.binOp .sub T x y T') ty (.int q c) := ⟨rfl, fun w _ => by subst hc; simp [go_sem, hx, hy]⟩
theorem q_mul (hx : ρ.ev x = .int q a) (hy : ρ.ev y = .int q b) (hc : q.wrap (a * b) = c) : Qr C ρ S (.binOp .mul T x y T') ty (.int q c) := ⟨rfl, fun w _ => by subst hc; simp [go_sem, hx, hy]⟩
theorem q_quo (hx : ρ.ev x = .int q a) (hy : ρ.ev y = .int q b) (h0 : b ≠ 0) (hc : q.wrap (a.tdiv b) = c) : Qr C ρ S (.binOp .quo T x y T') ty (.int q c) := ⟨rfl, fun w _ => by subst hc; simp [go_sem, hx, hy, h0]⟩
theorem q_rem (hx : ρ.ev x = .int q a) (hy : ρ.ev y = .int q b) (h0 : b ≠ 0) (hc : a.tmod b = c) : Qr C ρ S (.binOp .rem T x y T') ty (.int q c) := ⟨rfl, fun w _ => by subst hc; simp [go_sem, hx, hy, h0]⟩
theorem q_shr {q' : IntKind} (hx : ρ.ev x = .int q a) (hy : ρ.ev y = .int q' b) (h0 : 0 ≤ b) (hc : a.fdiv (2 ^ min b.toNat q.bits) = c) : Qr C ρ S (.binOp .shr T x y T') ty (.int q c) := ⟨rfl, fun w _ => by
      have hb : ¬ b < 0 := by omega
      subst hc; simp [execOp, eqGuard, binOp, Op.shift, hx, hy, hb, Sem.run, bind, Sem.bind, pure]⟩
theorem q_shl {q' : IntKind} (hx : ρ.ev x = .int q a) (hy : ρ.ev y = .int q' b) (h0 : 0 ≤ b) (hc : q.wrap (a * 2 ^ min b.toNat q.bits) = c) : Qr C ρ S (.binOp .shl T x y T') ty (.int q c) := ⟨rfl, fun w _ => by
      have hb : ¬ b < 0 := by omega
      subst hc; simp [execOp, eqGuard, binOp, Op.shift, hx, hy, hb, Sem.run, bind, Sem.bind, pure]⟩
theorem q_neg (hx : ρ.ev x = .int q a) (hc : q.wrap (0 - a) = c) : Qr C ρ S (.unOp .neg T x) ty (.int q c) := ⟨rfl, fun w _ => by subst hc; simp [execOp, Op.unary, Op.intArith, hx, Sem.run, bind, Sem.bind, pure]⟩
theorem q_not {b : Bool} (hx : ρ.ev x = .bool b) : Qr C ρ S (.unOp .not T x) ty (.bool (!b)) := ⟨rfl, fun w _ => by simp [execOp, Op.unary, hx, Sem.run, bind, Sem.bind, pure]⟩
theorem q_cv {T' : TypeId} {q' q0 : IntKind} [hu : Kd C.P T' q'] [hT : Kd C.P T q0] (hx : ρ.ev x = .int q a) (hc : q'.wrap a = c) : Qr C ρ S (.convert T T' x) ty (.int q' c) := ⟨rfl, fun w _ => by
      subst hc; simp [execOp, convert, underlying, program, hx, hT.u, hu.u, Conv.intToInt, Sem.run, bind, Sem.bind, pure]⟩

/- comparisons -/
theorem q_lss (hx : ρ.ev x = .int q a) (hy : ρ.ev y = .int q b) : Qr C ρ S (.binOp .lss T x y T') ty (.bool (decide (a < b))) := ⟨rfl, fun w _ => by simp [go_sem, hx, hy]⟩
theorem q_leq (hx : ρ.ev x = .int q a) (hy : ρ.ev y = .int q b) : Qr C ρ S (.binOp .leq T x y T') ty (.bool (decide (a ≤ b))) := ⟨rfl, fun w _ => by simp [go_sem, hx, hy]⟩
theorem q_gtr (hx : ρ.ev x = .int q a) (hy : ρ.ev y = .int q b) : Qr C ρ S (.binOp .gtr T x y T') ty (.bool (decide (b < a))) := ⟨rfl, fun w _ => by simp [go_sem, hx, hy]⟩
theorem q_geq (hx : ρ.ev x = .int q a) (hy : ρ.ev y = .int q b) : Qr C ρ S (.binOp .geq T x y T') ty (.bool (decide (b ≤ a))) := ⟨rfl, fun w _ => by simp [go_sem, hx, hy]⟩
theorem q_eql (hx : ρ.ev x = .int q a) (hy : ρ.ev y = .int q b) : Qr C ρ S (.binOp .eql T x y T') ty (.bool (decide (a = b))) := ⟨rfl, fun w _ => by
      have e : (a == b) = decide (a = b) := rfl
      simp [go_sem, hx, hy, e]⟩
theorem q_neq (hx : ρ.ev x = .int q a) (hy : ρ.ev y = .int q b) : Qr C ρ S (.binOp .neq T x y T') ty (.bool (decide (a ≠ b))) := ⟨rfl, fun w _ => by
      have e : (a != b) = decide (a ≠ b) := by by_cases h : a = b <;> simp [h]
      simp [go_sem, hx, hy, e]⟩
theorem run_equal_bool {P : Program} {T : TypeId} [hu : Bl P T] (a b : Bool) (w : World) : (Op.equal T (.bool a) (.bool b)).run P w = .ok (a == b) w := by
  unfold Op.equal
  rw [show Op.maxDepth = 9999 + 1 from rfl]
  unfold Op.equalIn
  simp [underlying, program, hu.u, Sem.run, bind, Sem.bind, pure]
theorem q_beq {a b : Bool} [hu : Bl C.P T] (hx : ρ.ev x = .bool a) (hy : ρ.ev y = .bool b) : Qr C ρ S (.binOp .eql T x y T') ty (.bool (a == b)) := ⟨rfl, fun w _ => by
      have := run_equal_bool (P := C.P) (T := T) a b w
      simp only [go_sem, hx, hy]
      simp [binOp, this, Sem.run_bind, Result.andThen, Sem.run, pure]⟩
theorem q_bne {a b : Bool} [hu : Bl C.P T] (hx : ρ.ev x = .bool a) (hy : ρ.ev y = .bool b) : Qr C ρ S (.binOp .neq T x y T') ty (.bool (!(a == b))) := ⟨rfl, fun w _ => by
      have := run_equal_bool (P := C.P) (T := T) a b w
      simp only [go_sem, hx, hy]
      simp [binOp, this, Sem.run_bind, Result.andThen, Sem.run, pure]⟩
theorem q_ex {vs : List Value} {i : Nat} {v : Value} (hx : ρ.ev x = .tuple ⟨vs⟩) (hv : vs[i]? = some v) : Qr C ρ S (.extract x i) ty v := ⟨rfl, fun w _ => by
      simp [execOp, Instr.extract, hx, hv, Sem.run, bind, Sem.bind, pure]⟩
end ints

section addresses
variable {x y : Operand} {T T' : TypeId} {b o : Nat}
theorem q_fa {f off : Nat} [hf : Fo C.P T f off] (hx : ρ.ev x = .pointer (some ⟨b, o, none⟩)) : Qr C ρ S (.fieldAddr T x f) ty (.pointer (some ⟨b, o + off, none⟩)) := ⟨rfl, fun w _ => by
      obtain ⟨fs, fd, i, h1, h2, h3, h4, h5⟩ := hf.u
      have ha : (Addr.mk b o none).add off = ⟨b, o + off, none⟩ := by unfold Addr.add; split <;> simp_all
      simp [execOp, Instr.fieldAt, Instr.sureAddr, underlying, program, hx, h1, h2, fieldPlace, sizeOf, typeInfo, h4, Sem.run, bind, Sem.bind, pure]
      simp at h5
      simp [h5, h3, ha, Sem.run, Sem.bind]⟩
theorem q_nil {a : Addr} (hx : ρ.ev x = .pointer (some a)) : Qr C ρ S (.nilCheck x) ty (.pointer (some a)) := ⟨rfl, fun w _ => by
      simp [execOp, hx, Sem.run, bind, Sem.bind, pure]⟩
/-- An element's address. -/
theorem q_ia {e sz n c : Nat} {q : IntKind} {j : Int} [hu : Sl C.P T e] [hs : Sz C.P e sz] (hx : ρ.ev x = .slice (some ⟨b, o, none⟩) n c) (hy : ρ.ev y = .int q j) (hj : 0 ≤ j ∧ j < (n : Int)) : Qr C ρ S (.indexAddr T x y) ty (.pointer (some ⟨b, o + j.toNat * sz, none⟩)) := ⟨rfl, fun w _ => by
      obtain ⟨i, h1, h2⟩ := hs.i
      have ha : (Addr.mk b o none).add (j.toNat * sz) = ⟨b, o + j.toNat * sz, none⟩ := by unfold Addr.add; split <;> simp_all
      simp [execOp, Instr.indexAt, asIntOf, underlying, program, hx, hy, hu.u, hj, sizeOf, typeInfo, h1, h2, ha, Sem.run, bind, Sem.bind, pure]⟩
/-- An element's address in a variable that is an array. -/
theorem q_ja {e sz n : Nat} {q : IntKind} {j : Int} [hs : Sz C.P e sz] (hu : C.P.underlying T = some (.array n e)) (hx : ρ.ev x = .pointer (some ⟨b, o, none⟩)) (hy : ρ.ev y = .int q j) (hj : 0 ≤ j ∧ j < (n : Int)) : Qr C ρ S (.indexAddr T x y) ty (.pointer (some ⟨b, o + j.toNat * sz, none⟩)) := ⟨rfl, fun w _ => by
      obtain ⟨i, h1, h2⟩ := hs.i
      have ha : (Addr.mk b o none).add (j.toNat * sz) = ⟨b, o + j.toNat * sz, none⟩ := by unfold Addr.add; split <;> simp_all
      simp [execOp, Instr.indexAt, Instr.sureAddr, asIntOf, underlying, program, hx, hy, hu, hj, sizeOf, typeInfo, h1, h2, ha, Sem.run, bind, Sem.bind, pure]⟩
end addresses
end Go.Z
end
section
set_option linter.unusedSimpArgs false
set_option linter.unusedVariables false
/- The calculus beneath the proofs: the rules for loads, stores, new variables and calls. No program is named here. -/
set_option linter.unusedSimpArgs false
set_option linter.unusedVariables false
namespace Go.Z
open Go Go.RowKit

variable {C : Cfg} {Q Q' : Post} {ds : List Deferred} {ρ : Env} {h : Heap} {L : Own} {ops : Array Oper} {rest : List Oper}
variable {d : Nat} {ty : TypeId} {pos : String} {after : Array Edge} {S : World → Prop}

/-- From place o on the list reads vs. -/
def LookN (l : List Value) (o : Nat) : List Value → Prop
  | [] => True
  | v :: vs => l[o]? = some v ∧ LookN l (o + 1) vs
/-- vs is laid from place o on. -/
def setN (l : List Value) (o : Nat) : List Value → List Value
  | [] => l
  | v :: vs => setN (l.set o v) (o + 1) vs

theorem LookN.self : ∀ (p l : List Value), LookN (p ++ l) p.length l
  | _, [] => trivial
  | p, v :: vs => ⟨by simp, by have := LookN.self (p ++ [v]) vs; simpa using this⟩
theorem LookN.all (l : List Value) : LookN l 0 l := by simpa using LookN.self [] l
theorem LookN.get {l : List Value} : ∀ {vs : List Value} {o : Nat}, LookN l o vs → ∀ j v, vs[j]? = some v → l[o + j]? = some v
  | [], _, _, j, v, hv => by simp at hv
  | x :: vs, o, ⟨h1, h2⟩, 0, v, hv => by simp at hv; subst hv; simpa using h1
  | x :: vs, o, ⟨h1, h2⟩, j + 1, v, hv => by
    have := LookN.get h2 j v (by simpa using hv)
    rw [show o + (j + 1) = o + 1 + j by omega]; exact this

theorem cell_of {w : World} {b o : Nat} {l : List Value} {T : TypeId} {fr : Nat × Nat} {v : Value} (hb : w.heap[b]? = some (.cells ⟨l⟩ T fr)) (hv : l[o]? = some v) : w.cell? ⟨b, o, none⟩ = some v := by
  simp [World.cell?, hb, hv]
theorem add_none (b o n : Nat) : (Addr.mk b o none).add n = ⟨b, o + n, none⟩ := by unfold Addr.add; split <;> simp_all

theorem run_loadFrom {P : Program} {w : World} {b o : Nat} {l : List Value} {T : TypeId} {fr : Nat × Nat} (hb : w.heap[b]? = some (.cells ⟨l⟩ T fr)) :
    ∀ (vs : List Value) (i : Nat) (acc : Array Value), LookN l (o + i) vs → (loadCellsFrom ⟨b, o, none⟩ i vs.length acc).run P w = .ok (acc ++ ⟨vs⟩) w
  | [], i, acc, _ => by simp [loadCellsFrom, Sem.run, pure]
  | v :: vs, i, acc, ⟨h1, h2⟩ => by
    have hc := cell_of hb h1
    have ih := run_loadFrom (P := P) hb vs (i + 1) (acc.push v) h2
    simp only [List.length_cons, loadCellsFrom, load, add_none, bind, Sem.bind, Sem.run, hc, ih]
    simp
theorem run_loadCells {P : Program} {w : World} {b o : Nat} {l vs : List Value} {T : TypeId} {fr : Nat × Nat} (hb : w.heap[b]? = some (.cells ⟨l⟩ T fr)) (hl : LookN l o vs) :
    (loadCells ⟨b, o, none⟩ vs.length).run P w = .ok ⟨vs⟩ w := by
  rw [loadCells, run_loadFrom hb vs 0 #[] hl]; simp

theorem run_loadVar {P : Program} {w : World} {b o : Nat} {l : List Value} {T T' : TypeId} {fr : Nat × Nat} {v : Value} (hp : Pr P T) (hb : w.heap[b]? = some (.cells ⟨l⟩ T' fr)) (hv : l[o]? = some v) :
    (loadVar T ⟨b, o, none⟩).run P w = .ok v w := by
  simp [loadVar, run_isAgg hp, Result.andThen, load, Sem.run, cell_of hb hv]
theorem run_sizeOf {P : Program} {T n : Nat} {w : World} (hs : ∃ i, P.info? T = some i ∧ i.size = n) : (sizeOf T).run P w = .ok n w := by
  obtain ⟨i, h1, h2⟩ := hs
  simp [sizeOf, typeInfo, program, Sem.run, bind, pure, Sem.bind, h1, h2]
theorem run_loadVarA {P : Program} {w : World} {b o : Nat} {l vs : List Value} {T T' : TypeId} {fr : Nat × Nat} (hp : Ag1 P T vs.length) (hb : w.heap[b]? = some (.cells ⟨l⟩ T' fr)) (hv : LookN l o vs) :
    (loadVar T ⟨b, o, none⟩).run P w = .ok (.agg ⟨vs⟩) w := by
  simp [loadVar, run_isAgg1 hp, run_sizeOf hp.i, Result.andThen, Sem.run, run_loadCells hb hv]

/-- One cell, or what a struct's cells cannot be. -/
def plain : Value → Bool
  | .agg _ => false
  | .tuple _ => false
  | _ => true

theorem heap_setCell_same {w : World} {b o : Nat} {l : List Value} {T : TypeId} {v : Value} (hb : w.heap[b]? = some (row T l)) : (w.setCell ⟨b, o, none⟩ v).heap[b]? = some (row T (l.set o v)) := by
  obtain ⟨hlt, he⟩ := Array.getElem?_eq_some_iff.1 hb
  simp only [World.setCell]
  rw [Array.getElem?_modify]
  simp [hb]
theorem run_storeCells {P : Program} : ∀ (vs : List Value) (i : Nat) {w : World} {b o : Nat} {l : List Value} {T : TypeId}, w.heap[b]? = some (row T l) → o + i + vs.length ≤ l.length → (∀ v ∈ vs, plain v = true) →
    ∃ w', (storeCells ⟨b, o, none⟩ vs i).run P w = .ok () w' ∧ w'.os = w.os ∧ w'.tape = w.tape ∧ w'.output = w.output ∧ w'.heap.size = w.heap.size ∧ w'.heap[b]? = some (row T (setN l (o + i) vs)) ∧ ∀ k, k ≠ b → w'.heap[k]? = w.heap[k]?
  | [], i, w, b, o, l, T, hb, _, _ => ⟨w, by simp [storeCells, Sem.run, pure], rfl, rfl, rfl, rfl, hb, fun _ _ => rfl⟩
  | v :: vs, i, w, b, o, l, T, hb, hlen, hpl => by
    simp only [List.length_cons] at hlen
    have hlt : o + i < l.length := by omega
    have hc : w.cell? ⟨b, o + i, none⟩ = some l[o + i] := cell_of hb (by simp [hlt])
    have hf : w.frozen? ⟨b, o + i, none⟩ = false := by simp [World.frozen?, hb]
    have hb2 := heap_setCell_same (o := o + i) (v := v) hb
    obtain ⟨w', h1, h2, h3, h4, h5, h6, h7⟩ := run_storeCells (P := P) vs (i + 1) (o := o) hb2 (by simp; omega) (fun u hu => hpl u (List.mem_cons_of_mem _ hu))
    refine ⟨w', ?_, h2, h3, h4, by rw [h5]; simp [World.setCell], h6, fun k hk => (h7 k hk).trans (Below.heap_setCell _ _ _ _ hk)⟩
    have hp := hpl v (List.mem_cons_self ..)
    have : (store ((Addr.mk b o none).add i) v).run P w = .ok () (w.setCell ⟨b, o + i, none⟩ v) := by
      rw [add_none]
      cases v <;> simp_all [store, Sem.run, plain]
    simp [storeCells, Sem.run_bind, this, Result.andThen, h1]

/-- Block b among the owned ones: what it holds, and the owned ones with something else in its place. -/
class At (L : Own) (b : Nat) (o : outParam Obj) (f : outParam (Obj → Own)) : Prop where
  e : ∃ L1 L2, L = L1 ++ (b, o) :: L2 ∧ ∀ o', f o' = L1 ++ (b, o') :: L2
instance At.head {L : Own} {b : Nat} {o : Obj} : At ((b, o) :: L) b o (fun o' => (b, o') :: L) := ⟨[], L, rfl, fun _ => rfl⟩
instance At.tail {L : Own} {p : Nat × Obj} {b : Nat} {o : Obj} {f : Obj → Own} [a : At L b o f] : At (p :: L) b o (fun o' => p :: f o') := by
  obtain ⟨L1, L2, h1, h2⟩ := a.e
  exact ⟨p :: L1, L2, by rw [h1]; rfl, fun o' => by rw [h2]; rfl⟩
instance At.app {L M : Own} {b : Nat} {o : Obj} {f : Obj → Own} [a : At L b o f] : At (M ++ L) b o (fun o' => M ++ f o') := by
  obtain ⟨L1, L2, h1, h2⟩ := a.e
  exact ⟨M ++ L1, L2, by rw [h1, List.append_assoc], fun o' => by rw [h2, List.append_assoc]⟩

theorem At.heap {L : Own} {b : Nat} {o : Obj} {f : Obj → Own} (a : At L b o f) {w0 w : World} {h0 h : Heap} (s : St w0 h0 h L w) : w.heap[b]? = some o := by
  obtain ⟨L1, L2, rfl, _⟩ := a.e
  exact (s.own (b, o) (by simp)).2.1
theorem At.upd {L : Own} {b : Nat} {o : Obj} {f : Obj → Own} (a : At L b o f) {w0 w w' : World} {h0 h : Heap} (s : St w0 h0 h L w) {o' : Obj}
    (hos : w'.os = w.os) (ht : w'.tape = w.tape) (hout : w'.output = w.output) (hsz : w'.heap.size = w.heap.size)
    (hb : w'.heap[b]? = some o') (hne : ∀ k, k ≠ b → w'.heap[k]? = w.heap[k]?) : St w0 h0 h (f o') w' := by
  obtain ⟨L1, L2, rfl, hf⟩ := a.e
  rw [hf]
  exact s.upd hos ht hout hsz hb hne

/-- Frozen cells that are known. -/
def CellN (h : Heap) (b o : Nat) (vs : List Value) : Prop := ∃ l T fr, h b = some (.cells ⟨l⟩ T fr) ∧ LookN l o vs
theorem CellN.mono {h h' : Heap} {b o : Nat} {vs : List Value} (c : CellN h b o vs) (e : Ext h h') : CellN h' b o vs :=
  let ⟨l, T, fr, x, y⟩ := c; ⟨l, T, fr, e.le _ _ x, y⟩

section loads
variable {x y : Operand} {T T' : TypeId} {b o : Nat}
theorem At.heapS {L : Own} {b : Nat} {o : Obj} {f : Obj → Own} (a : At L b o f) {w : World} (s : SS C h L w) : w.heap[b]? = some o := by
  obtain ⟨h', L', _, hl, hs⟩ := s
  obtain ⟨L1, L2, rfl, _⟩ := a.e
  exact (hs.own (b, o) (hl _ (by simp))).2.1
theorem CellN.heapS {h1 : Heap} [e : Ext h1 h] {b o : Nat} {vs : List Value} (c : CellN h1 b o vs) {w : World} (s : SS C h L w) : ∃ l T fr, w.heap[b]? = some (.cells ⟨l⟩ T fr) ∧ LookN l o vs := by
  obtain ⟨h', L', he, _, hs⟩ := s
  obtain ⟨l, T, fr, x, y⟩ := c
  exact ⟨l, T, fr, hs.fro _ _ (he.le _ _ (e.le _ _ x)), y⟩
/-- A cell of an owned block. -/
theorem q_ld {l : List Value} {fr : Nat × Nat} {v : Value} {f : Obj → Own} [hp : Pr C.P T] (hx : ρ.ev x = .pointer (some ⟨b, o, none⟩)) (a : At L b (.cells ⟨l⟩ T' fr) f) (hv : l[o]? = some v) : Qr C ρ (SS C h L) (.load T x) ty v :=
  ⟨rfl, fun w hs => by simp [execOp, hx, Instr.loadAt, Instr.sureAddr, run_loadVar hp (a.heapS hs) hv, Sem.run_bind, Result.andThen, Sem.run, pure]⟩
/-- A struct or array in an owned block. -/
theorem q_lda {l vs : List Value} {fr : Nat × Nat} {f : Obj → Own} [hp : Ag1 C.P T vs.length] (hx : ρ.ev x = .pointer (some ⟨b, o, none⟩)) (a : At L b (.cells ⟨l⟩ T' fr) f) (hv : LookN l o vs) : Qr C ρ (SS C h L) (.load T x) ty (.agg ⟨vs⟩) :=
  ⟨rfl, fun w hs => by simp [execOp, hx, Instr.loadAt, Instr.sureAddr, run_loadVarA hp (a.heapS hs) hv, Sem.run_bind, Result.andThen, Sem.run, pure]⟩
/-- A variable that is a struct or array, whole. -/
theorem q_ldw {l : List Value} {fr : Nat × Nat} {f : Obj → Own} {n : Nat} [hp : Ag1 C.P T n] (hx : ρ.ev x = .pointer (some ⟨b, 0, none⟩)) (a : At L b (.cells ⟨l⟩ T' fr) f) (hv : l.length = n) : Qr C ρ (SS C h L) (.load T x) ty (.agg ⟨l⟩) := by
  subst hv
  exact q_lda hx a (LookN.all l)
/-- A frozen cell. -/
theorem q_ldf {h1 : Heap} {v : Value} [hp : Pr C.P T] [e : Ext h1 h] (hx : ρ.ev x = .pointer (some ⟨b, o, none⟩)) (hv : CellN h1 b o [v]) : Qr C ρ (SS C h L) (.load T x) ty v :=
  ⟨rfl, fun w hs => by
    obtain ⟨l, T', fr, hb, hl⟩ := hv.heapS hs
    simp [execOp, hx, Instr.loadAt, Instr.sureAddr, run_loadVar hp hb hl.1, Sem.run_bind, Result.andThen, Sem.run, pure]⟩
theorem q_ldfa {h1 : Heap} {vs : List Value} [hp : Ag1 C.P T vs.length] [e : Ext h1 h] (hx : ρ.ev x = .pointer (some ⟨b, o, none⟩)) (hv : CellN h1 b o vs) : Qr C ρ (SS C h L) (.load T x) ty (.agg ⟨vs⟩) :=
  ⟨rfl, fun w hs => by
    obtain ⟨l, T', fr, hb, hl⟩ := hv.heapS hs
    simp [execOp, hx, Instr.loadAt, Instr.sureAddr, run_loadVarA hp hb hl, Sem.run_bind, Result.andThen, Sem.run, pure]⟩
end loads

section stores
variable {x y : Operand} {T T' : TypeId} {b o : Nat}
/-- A store of the value whose cells are vs. -/
theorem o_st {l vs : List Value} {v : Value} {f : Obj → Own} (hs : ∃ i, C.P.info? T = some i ∧ i.size = vs.length) (hx : ρ.ev x = .pointer (some ⟨b, o, none⟩)) (hy : ρ.ev y = v) (hv : v.cells = ⟨vs⟩) (hpl : ∀ u ∈ vs, plain u = true)
    (a : At L b (row T' l) f) (hlen : o + vs.length ≤ l.length) (k : JL C ops Q rest ds ρ h (f (row T' (setN l o vs)))) :
    JL C ops Q (⟨none, .store T x y, ty, pos, after, none⟩ :: rest) ds ρ h L :=
  JL.unit rfl rfl rfl fun w hst => by
    obtain ⟨w', h1, h2, h3, h4, h5, h6, h7⟩ := run_storeCells (P := C.P) vs 0 (o := o) (a.heap hst) (by omega) hpl
    refine ⟨h, _, w', ?_, a.upd hst h2 h3 h4 h5 h6 h7, k⟩
    have hz : (Instr.storeAt T (ρ.ev x) (ρ.ev y)).run C.P w = .ok () w' := by
      rw [hx, hy]
      simp [Instr.storeAt, Instr.sureAddr, storeVar, hv, run_sizeOf hs, Sem.run_bind, Result.andThen, Sem.run, pure, h1]
    simp [execOp, hz, Sem.run_bind, Result.andThen, Sem.run, pure]
/-- Of one cell. -/
theorem o_st1 {l : List Value} {v : Value} {f : Obj → Own} [hs : Sz C.P T 1] (hx : ρ.ev x = .pointer (some ⟨b, o, none⟩)) (hy : ρ.ev y = v) (hpl : plain v = true)
    (a : At L b (row T' l) f) (hlen : o < l.length) (k : JL C ops Q rest ds ρ h (f (row T' (l.set o v)))) :
    JL C ops Q (⟨none, .store T x y, ty, pos, after, none⟩ :: rest) ds ρ h L :=
  o_st (vs := [v]) hs.i hx hy (by cases v <;> first | rfl | cases hpl) (by simpa using hpl) a (by simp; omega) k
/-- A whole variable that is a struct or array. -/
theorem o_stw {l vs : List Value} {f : Obj → Own} {n : Nat} [hs : Sz C.P T n] (hx : ρ.ev x = .pointer (some ⟨b, 0, none⟩)) (hy : ρ.ev y = .agg ⟨vs⟩) (hpl' : vs.all plain = true)
    (a : At L b (row T' l) f) (hl : l.length = n) (hv : vs.length = n) (k : JL C ops Q rest ds ρ h (f (row T' vs))) :
    JL C ops Q (⟨none, .store T x y, ty, pos, after, none⟩ :: rest) ds ρ h L := by
  have hpl : ∀ u ∈ vs, plain u = true := List.all_eq_true.1 hpl'
  have key : ∀ (vs p l : List Value), l.length = p.length + vs.length → (∀ j, j < p.length → l[j]? = p[j]?) → setN l p.length vs = p ++ vs := by
    intro vs
    induction vs with
    | nil =>
      intro p l hl hp
      simp only [setN, List.append_nil]
      refine List.ext_getElem? fun j => ?_
      rcases Nat.lt_or_ge j p.length with hj | hj
      · exact hp j hj
      · simp at hl; rw [List.getElem?_eq_none (by omega), List.getElem?_eq_none hj]
    | cons v vs ih =>
      intro p l hl hp
      have := ih (p ++ [v]) (l.set p.length v) (by simp at hl ⊢; omega) (fun j hj => by
        simp at hj
        by_cases e : j = p.length
        · have hlt : p.length < l.length := by rw [hl]; simp
          subst e; simp [hlt]
        · rw [List.getElem?_set_ne (by omega), hp j (by omega)]; rw [List.getElem?_append_left (by omega)])
      simpa [setN] using this
  have := key vs [] l (by simp only [List.length_nil]; omega) (by simp)
  refine o_st (vs := vs) (by obtain ⟨i, h1, h2⟩ := hs.i; exact ⟨i, h1, by omega⟩) hx hy rfl hpl a (by omega) ?_
  simpa using this ▸ k
end stores

section news
variable {x y : Operand} {T T' : TypeId}
theorem run_newRow {P : Program} {w : World} (T : TypeId) (cs : Array Value) : (newRow T cs).run P w = .ok ⟨w.heap.size, 0, none⟩ (w.alloc (.cells cs T)) := rfl
/-- A new variable, zero. -/
theorem o_al {z : List Value} [hz : Zv C.P T z] (k : ∀ b, JL C ops Q rest ds (ρ.set d (.pointer (some ⟨b, 0, none⟩))) h ((b, row T z) :: L)) (hn : Nat.blt d C.n = true := by rfl) :
    JL C ops Q (⟨some d, .alloc T, ty, pos, after, none⟩ :: rest) ds ρ h L :=
  JL.val rfl rfl rfl hn fun w hs => by
    obtain ⟨i, v, h1, h2, h3⟩ := hz.i
    refine ⟨_, h, _, w.alloc (row T z), ?_, hs.alloc _, k _⟩
    have hz : (zeroValue T).run C.P w = .ok v w := by simp [zeroValue, typeInfo, program, h1, h2, Sem.run_bind, Result.andThen, Sem.run, pure]
    simp [execOp, Instr.alloc, hz, h3, newVar, run_newRow, Sem.run_bind, Result.andThen, Sem.run, pure]
/-- A new variable that holds a value. -/
theorem o_bx {v : Value} {vs : List Value} (hx : ρ.ev x = v) (hv : v.cells = ⟨vs⟩) (k : ∀ b, JL C ops Q rest ds (ρ.set d (.pointer (some ⟨b, 0, none⟩))) h ((b, row T vs) :: L)) (hn : Nat.blt d C.n = true := by rfl) :
    JL C ops Q (⟨some d, .box T x, ty, pos, after, none⟩ :: rest) ds ρ h L :=
  JL.val rfl rfl rfl hn fun w hs => by
    refine ⟨_, h, _, w.alloc (row T vs), ?_, hs.alloc _, k _⟩
    simp [execOp, Instr.box, hx, hv, newVar, run_newRow, Sem.run_bind, Result.andThen, Sem.run, pure]
end news

/-! ### Calls -/
theorem JL.enter {o : Oper} {f : FuncId} {args : Array Value} (hg : o.guard = none) (hc : calm o.op = true) {d : Nat} (hd : o.dst = some d) (hn : Nat.blt d C.n = true)
    (run : ∀ w, St C.w0 C.h0 h L w → (execOp ρ.ev o).run C.P w = .ok (.enter f args) w)
    (hcall : ∀ w, St C.w0 C.h0 h L w → Calls C.P f args w fun e w' => ∃ v h' L', e = .returned v ∧ St C.w0 C.h0 h' L' w' ∧ JL C ops Q rest ds (ρ.set d v) h' L') :
    JL C ops Q (o :: rest) ds ρ h L := JL.step hg hc fun a w ha hs => by
  rw [run w hs, Oper.uponIn_enter]
  refine ⟨fun hx => (by simp [fen] at hx), ?_⟩
  have hin : CallsIn Fence.wide (0 - 1) C.P f args w _ := callsIn_wide.2 (hcall w hs)
  refine ⟨trivial, fun cs hr => ?_⟩
  obtain ⟨e, w', fr, ⟨v, h', L', rfl, hst, hk⟩, hsteps, hfn, hl⟩ := hin.2 cs (room_wide _)
  refine ⟨.returned v, w', fr, ?_, hsteps, hfn, hl⟩
  show wpL C.r C.P ops (lift C Q) rest (a.put o.dst v) w'
  rw [hd]
  exact hk _ _ (ha.put hn v) hst

theorem Fn.use {P : Program} {f : FuncId} {args : Array Value} {h : Heap} {R : Value → Heap → Prop} (hf : Fn P f args h R) {w0 w : World} {h0 : Heap} {L : Own} (s : St w0 h0 h L w) :
    Calls P f args w fun e w' => ∃ v h', e = .returned v ∧ Step h h' ∧ St w0 h0 h' L w' ∧ R v h' := by
  refine (hf w s.fro).mono ?_
  rintro e w' ⟨v, h', rfl, hb, he, hold, hfro, hR⟩
  refine ⟨v, h', rfl, he.toStep, ⟨s.below.trans (hb.mono s.below.size), fun b o x => he.le b o (s.ge b o x), fun b hb' => (hold b (Nat.lt_of_lt_of_le hb' s.below.size)).trans (s.old b hb'), hfro, fun p hp => ?_, s.nd⟩, hR⟩
  have hlt := s.ownLt hp
  exact ⟨(s.own p hp).1, (hb.block _ hlt).trans (s.own p hp).2.1, (hold _ hlt).trans (s.own p hp).2.2⟩

section calls
variable {f : FuncId} {R : Value → Heap → Prop}
theorem run_resolve_func {P : Program} {w : World} {ρ : Operand → Value} {xs : List Operand} {ts : Array TypeId} {ty : TypeId} [he : Ent P f] :
    (do let d ← resolve ρ { callee := .value (.func f), args := ⟨xs⟩, argTypes := ts } ty; invoke d.target d.args : Sem Next).run P w = .ok (.enter f ⟨xs.map ρ⟩) w ∨ ρ (.func f) ≠ .func (.func f) #[] #[] := by
  by_cases hr : ρ (.func f) = .func (.func f) #[] #[]
  · left
    simp [resolve, Deferred.ofValue, hr, invoke, he.e, Sem.run_bind, Result.andThen, Sem.run, pure]
  · exact .inr hr
/-- A call of a function. -/
theorem o_call {xs : List Operand} {ts : Array TypeId} [he : Ent C.P f] (hf : Fn C.P f (List.toArray (xs.map ρ.ev)) h R)
    (k : ∀ v h', Step h h' → R v h' → JL C ops Q rest ds (ρ.set d v) h' L) (hn : Nat.blt d C.n = true := by rfl) :
    JL C ops Q (⟨some d, .call { callee := .value (.func f), args := ⟨xs⟩, argTypes := ts }, ty, pos, after, none⟩ :: rest) ds ρ h L :=
  JL.enter rfl rfl rfl hn (fun w _ => by
      have := run_resolve_func (P := C.P) (w := w) (ρ := ρ.ev) (f := f) (xs := xs) (ts := ts) (ty := ty)
      rcases this with h | h
      · simpa [execOp] using h
      · exact absurd rfl h) fun w hs => (hf.use hs).mono fun e w' ⟨v, h', a, b, c, r⟩ => ⟨v, h', L, a, c, k v h' b r⟩
end calls
end Go.Z
end
section
set_option linter.unusedSimpArgs false
set_option linter.unusedVariables false
/- The calculus beneath the proofs: results of a function; slices, frozen and owned; make, append, copy, slice expressions. No program is named here. -/
set_option linter.unusedSimpArgs false
set_option linter.unusedVariables false
namespace Go.Z
open Go Go.RowKit

variable {C : Cfg} {Q Q' : Post} {ds : List Deferred} {ρ : Env} {h : Heap} {L : Own} {ops : Array Oper} {rest : List Oper}
variable {d : Nat} {ty : TypeId} {pos : String} {after : Array Edge}

/-! ### Results -/
/-- What a result variable gives. -/
inductive ResV (P : Program) (ρ : Env) (L : Own) : List ResultVar → List Value → Prop
  | nil : ResV P ρ L [] []
  | tmp {t : Tmp} {v : Value} {rs : List ResultVar} {vs : List Value} (e : ρ t = v) (r : ResV P ρ L rs vs) : ResV P ρ L (.tmp t :: rs) (v :: vs)
  | agg {t : Tmp} {T T' : TypeId} {b : Nat} {l : List Value} {f : Obj → Own} {fr : Nat × Nat} {rs : List ResultVar} {vs : List Value} (e : ρ t = .pointer (some ⟨b, 0, none⟩)) (a : At L b (.cells ⟨l⟩ T' fr) f)
      (g : Ag1 P T l.length) (r : ResV P ρ L rs vs) : ResV P ρ L (.cell t T :: rs) (.agg ⟨l⟩ :: vs)
  | one {t : Tmp} {T T' : TypeId} {b : Nat} {v : Value} {f : Obj → Own} {fr : Nat × Nat} {rs : List ResultVar} {vs : List Value} (e : ρ t = .pointer (some ⟨b, 0, none⟩)) (a : At L b (.cells ⟨[v]⟩ T' fr) f)
      (g : Pr P T) (r : ResV P ρ L rs vs) : ResV P ρ L (.cell t T :: rs) (v :: vs)

def pack : List Value → Value
  | [v] => v
  | vs => .tuple ⟨vs⟩

def resSem (tmps : Array Value) : ResultVar → Sem Value
  | .tmp t => Pure.pure (tmps.getD t undef)
  | .cell a t => do loadVar t (← asAddr (tmps.getD a undef))

theorem resV_run {P : Program} {ρ : Env} {L : Own} {n : Nat} {w0 w : World} {h0 h : Heap} {a : Act} {ds : List Deferred} (ha : Ag n ds a ρ) (hs : St w0 h0 h L w) :
    ∀ {rs : List ResultVar} {vs : List Value}, ResV P ρ L rs vs → (rs.mapM (resSem a.tmps)).run P w = .ok vs w := by
  intro rs vs r
  induction r with
  | nil => simp [Sem.run, Pure.pure]
  | tmp e r ih =>
    have hg := ha.get
    simp only [List.mapM_cons, resSem, hg, e]
    simp [Sem.run_bind, Sem.run, Pure.pure, Result.andThen, ih]
  | agg e b g r ih =>
    have hg := ha.get
    have hl := run_loadVarA g (b.heap hs) (LookN.all _)
    simp only [List.mapM_cons, resSem, hg, e]
    simp [Sem.run_bind, Sem.run, Pure.pure, Result.andThen, ih, asAddr, hl]
  | one e b g r ih =>
    have hg := ha.get
    have hl := run_loadVar g (b.heap hs) (o := 0) rfl
    simp only [List.mapM_cons, resSem, hg, e]
    simp [Sem.run_bind, Sem.run, Pure.pure, Result.andThen, ih, asAddr, hl]

theorem results_eq {fn : Func} {rs : List ResultVar} (hr : fn.results = ⟨rs⟩) (tmps : Array Value) : results fn tmps = (do
    let vs ← rs.toArray.mapM (resSem tmps)
    Pure.pure (if h : vs.size = 1 then vs[0] else .tuple vs) : Sem Value) := by
  unfold results
  rw [hr]
  rfl

theorem RetR.of {fn : Func} {rs : List ResultVar} {vs : List Value} (hr : fn.results = ⟨rs⟩) (r : ResV C.P ρ L rs vs) : RetR C fn ρ h L (pack vs) := fun a w ds ha hs => by
  have h1 := resV_run (P := C.P) ha hs r
  rw [results_eq hr, List.mapM_toArray]
  have : (Sem.run C.P (List.toArray <$> List.mapM (resSem a.tmps) rs) w) = .ok vs.toArray w := by rw [Sem.run_map, h1]; rfl
  rw [Sem.run_bind, this]
  cases vs with
  | nil => simp [Result.andThen, Sem.run, Pure.pure, pack]
  | cons v vs => cases vs <;> simp [Result.andThen, Sem.run, Pure.pure, pack]

/-- The end of a function. -/
theorem ret_ok {fn : Func} {rs : List ResultVar} {vs : List Value} {R : Value → Heap → Prop} {e : Exit} (hr : fn.results = ⟨rs⟩) (r : ResV C.P ρ L rs vs) (hR : R (pack vs) h) (he : e = .normal ∨ e = .ret := by first | exact Or.inr rfl | exact Or.inl rfl) :
    retQ C fn R e [] ρ h L := ⟨he, rfl, _, RetR.of hr r, hR⟩
end Go.Z
end
