/- Plain arithmetic on lists of limbs to the base 2^32: value, trimming, the limbs of a number. No program is named here. -/
import Derived.Test.YtjdfhlkpfjhjoaaB10
set_option linter.unusedSimpArgs false
set_option linter.unusedVariables false
namespace Go.Z

abbrev Bs : Nat := 4294967296
def val : List Nat → Nat
  | [] => 0
  | x :: l => x + Bs * val l
def Bd (l : List Nat) : Prop := ∀ x ∈ l, x < Bs
def limbs (n : Nat) : List Nat := if h : n = 0 then [] else n % Bs :: limbs (n / Bs)
termination_by n
decreasing_by exact Nat.div_lt_self (Nat.pos_of_ne_zero h) (by decide)
def trim : List Nat → List Nat
  | [] => []
  | x :: l => match trim l with
    | [] => if x = 0 then [] else [x]
    | y :: r => x :: y :: r

theorem limbs_zero : limbs 0 = [] := by rw [limbs]; simp
theorem limbs_pos {n : Nat} (h : n ≠ 0) : limbs n = n % Bs :: limbs (n / Bs) := by rw [limbs]; simp [h]
theorem val_limbs (n : Nat) : val (limbs n) = n := by
  induction n using Nat.strongRecOn with
  | _ n ih =>
    by_cases h : n = 0
    · subst h; rw [limbs_zero]; rfl
    · rw [limbs_pos h, val, ih _ (Nat.div_lt_self (Nat.pos_of_ne_zero h) (by decide))]
      exact Nat.mod_add_div n Bs
theorem bd_limbs (n : Nat) : Bd (limbs n) := by
  induction n using Nat.strongRecOn with
  | _ n ih =>
    by_cases h : n = 0
    · subst h; rw [limbs_zero]; intro x hx; cases hx
    · rw [limbs_pos h]
      intro x hx
      rcases List.mem_cons.1 hx with rfl | hx
      · exact Nat.mod_lt _ (by decide)
      · exact ih _ (Nat.div_lt_self (Nat.pos_of_ne_zero h) (by decide)) x hx
theorem Bd.tail {x : Nat} {l : List Nat} (h : Bd (x :: l)) : Bd l := fun y hy => h y (List.mem_cons_of_mem _ hy)
theorem Bd.head {x : Nat} {l : List Nat} (h : Bd (x :: l)) : x < Bs := h x (List.mem_cons_self ..)
theorem val_lt {l : List Nat} (h : Bd l) : val l < Bs ^ l.length := by
  induction l with
  | nil => simp [val]
  | cons x l ih =>
    have h1 := h.head
    have h2 := ih h.tail
    simp only [val, List.length_cons, Nat.pow_succ]
    have : Bs * val l + Bs ≤ Bs * Bs ^ l.length := by
      rw [← Nat.mul_succ]; exact Nat.mul_le_mul_left _ h2
    rw [Nat.mul_comm (Bs ^ l.length)]; omega
theorem trim_nil_iff {l : List Nat} (hb : Bd l) : trim l = [] ↔ val l = 0 := by
  induction l with
  | nil => simp [trim, val]
  | cons x l ih =>
    have ih := ih hb.tail
    simp only [trim, val]
    cases e : trim l with
    | nil =>
      have hv := ih.1 e
      by_cases hx : x = 0 <;> simp [hx, hv]
    | cons y r =>
      simp only [reduceCtorEq, false_iff]
      have : val l ≠ 0 := fun h => by rw [ih.2 h] at e; cases e
      have : 0 < Bs * val l := Nat.mul_pos (by decide) (Nat.pos_of_ne_zero this)
      omega
theorem trim_eq {l : List Nat} (hb : Bd l) : trim l = limbs (val l) := by
  induction l with
  | nil => rw [val, limbs_zero]; rfl
  | cons x l ih =>
    have ih := ih hb.tail
    have hx := hb.head
    have hd : (x + Bs * val l) / Bs = val l := by rw [Nat.add_mul_div_left _ _ (by decide), Nat.div_eq_of_lt hx, Nat.zero_add]
    have hm : (x + Bs * val l) % Bs = x := by rw [Nat.add_mul_mod_self_left, Nat.mod_eq_of_lt hx]
    simp only [trim, val]
    cases e : trim l with
    | nil =>
      have hv := (trim_nil_iff hb.tail).1 e
      by_cases h0 : x = 0
      · simp [h0, hv, limbs_zero]
      · have : x + Bs * val l ≠ 0 := by omega
        rw [limbs_pos this, hd, hm, hv, limbs_zero]; simp [h0]
    | cons y r =>
      have hv : val l ≠ 0 := fun h => by rw [(trim_nil_iff hb.tail).2 h] at e; cases e
      have : x + Bs * val l ≠ 0 := by
        have : 0 < Bs * val l := Nat.mul_pos (by decide) (Nat.pos_of_ne_zero hv)
        omega
      rw [limbs_pos this, hd, hm, ← ih, e]
theorem trim_limbs (n : Nat) : trim (limbs n) = limbs n := by rw [trim_eq (bd_limbs n), val_limbs]
/-- Zeros from m on, and none before: the trimmed list. -/
theorem take_trim : ∀ {l : List Nat} {m : Nat}, m ≤ l.length → (∀ j x, m ≤ j → l[j]? = some x → x = 0) → (∀ x, 0 < m → l[m - 1]? = some x → x ≠ 0) → l.take m = trim l
  | [], m, hm, _, _ => by simp at hm; subst hm; rfl
  | x :: l, 0, _, hz, _ => by
    have ih := take_trim (l := l) (m := 0) (Nat.zero_le _) (fun j y _ hj => hz (j + 1) y (Nat.zero_le _) (by simpa using hj)) (fun _ h => absurd h (Nat.lt_irrefl _))
    simp only [List.take_zero] at ih ⊢
    have := hz 0 x (Nat.le_refl _) (by simp)
    simp [trim, ← ih, this]
  | x :: l, m + 1, hm, hz, hl => by
    have ih := take_trim (l := l) (m := m) (by simpa using hm) (fun j y hj hy => hz (j + 1) y (by omega) (by simpa using hy)) (fun y hm0 hy => hl y (by omega) (by
      obtain ⟨k, rfl⟩ : ∃ k, m = k + 1 := ⟨m - 1, by omega⟩
      simpa using hy))
    simp only [List.take_succ_cons, trim, ← ih]
    cases e : l.take m with
    | nil =>
      have hx : x ≠ 0 := by
        have hl0 : m = 0 := by
          cases m with
          | zero => rfl
          | succ k => cases l with
            | nil => simp at hm
            | cons a b => simp at e
        subst hl0
        exact hl x (by omega) (by simp)
      simp [hx]
    | cons y r => rfl
theorem val_append (l m : List Nat) : val (l ++ m) = val l + Bs ^ l.length * val m := by
  induction l with
  | nil => simp [val]
  | cons x l ih =>
    simp only [List.cons_append, val, ih, List.length_cons, Nat.pow_succ]
    rw [Nat.mul_add, Nat.mul_comm (Bs ^ l.length) Bs, Nat.mul_assoc]; omega
theorem val_take_trim {l : List Nat} (hb : Bd l) : val (trim l) = val l := by rw [trim_eq hb, val_limbs]
theorem Bd.take {l : List Nat} (h : Bd l) (k : Nat) : Bd (l.take k) := fun x hx => h x (List.mem_of_mem_take hx)
theorem Bd.get {l : List Nat} (h : Bd l) {j x : Nat} (hj : l[j]? = some x) : x < Bs := h x (List.mem_of_getElem? hj)
theorem limbs_len_pos {n : Nat} (h : n ≠ 0) : 0 < (limbs n).length := by rw [limbs_pos h]; simp
theorem limbs_nil_iff {n : Nat} : limbs n = [] ↔ n = 0 := by
  constructor
  · intro h
    by_cases e : n = 0
    · exact e
    · rw [limbs_pos e] at h; cases h
  · intro h; rw [h]; exact limbs_zero
end Go.Z
