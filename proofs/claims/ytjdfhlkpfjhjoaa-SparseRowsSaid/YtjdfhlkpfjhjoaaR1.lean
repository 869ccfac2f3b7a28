/- How the program's integers read: limbs in frozen memory. -/
import Derived.Test.YtjdfhlkpfjhjoaaLimbs2
set_option linter.unusedSimpArgs false
set_option linter.unusedVariables false
namespace Go.Z
open Go Go.RowKit

theorem fd32 (n : Nat) : Int.fdiv (n : Int) 4294967296 = ((n / 4294967296 : Nat) : Int) := by
  rw [Int.fdiv_eq_ediv_of_nonneg _ (by decide)]; rfl
theorem td32 (n : Nat) : Int.tdiv (n : Int) 4294967296 = ((n / 4294967296 : Nat) : Int) := rfl

def u32s (l : List Nat) : List Value := l.map fun x : Nat => Value.int .u32 (x : Int)
theorem u32s_len (l : List Nat) : (u32s l).length = l.length := by simp [u32s]
theorem u32s_get {l : List Nat} {j x : Nat} (h : l[j]? = some x) : (u32s l)[j]? = some (.int .u32 (x : Int)) := by simp [u32s, h]
theorem u32s_plain (l : List Nat) : ∀ u ∈ u32s l, plain u = true := fun u hu => by
  obtain ⟨x, _, rfl⟩ := List.mem_map.1 hu; rfl
theorem u32s_take (l : List Nat) (k : Nat) : (u32s l).take k = u32s (l.take k) := by simp [u32s, List.map_take]
theorem u32s_append (l m : List Nat) : u32s (l ++ m) = u32s l ++ u32s m := by simp [u32s]
theorem u32s_set (l : List Nat) (k x : Nat) : (u32s l).set k (.int .u32 (x : Int)) = u32s (l.set k x) := by simp [u32s, List.map_set]
theorem u32s_rep (n : Nat) : List.replicate n (Value.int .u32 0) = u32s (List.replicate n 0) := by simp [u32s]

/-- A slice of limbs. -/
def MagAt (h : Heap) (v : Value) (l : List Nat) : Prop := SlAt h v l.length 1 (u32s l) ∧ Bd l
/-- An integer. -/
def IntAt (h : Heap) (v : Value) (z : Int) : Prop := ∃ m, v = .agg ⟨[.bool (decide (z < 0)), m]⟩ ∧ MagAt h m (limbs z.natAbs)

theorem MagAt.mono {h h' : Heap} {v : Value} {l : List Nat} (m : MagAt h v l) [e : Ext h h'] : MagAt h' v l := ⟨m.1.mono, m.2⟩
theorem IntAt.mono {h h' : Heap} {v : Value} {z : Int} (m : IntAt h v z) [e : Ext h h'] : IntAt h' v z := let ⟨x, a, b⟩ := m; ⟨x, a, b.mono⟩
theorem MagAt.nil (h : Heap) : MagAt h (.slice none 0 0) [] := ⟨SlAt.nil h 1, fun _ hx => by cases hx⟩
/-- The slice itself. -/
theorem MagAt.out {h : Heap} {v : Value} {l : List Nat} (m : MagAt h v l) : ∃ p c, v = .slice p l.length c ∧ l.length ≤ c := let ⟨⟨p, c, a, b, _⟩, _⟩ := m; ⟨p, c, a, b⟩
/-- The limb at j. -/
theorem MagAt.limb {h : Heap} {p : Option Addr} {n c : Nat} {l : List Nat} (m : MagAt h (.slice p n c) l) {j : Nat} (hj : j < n) :
    ∃ b o x, p = some ⟨b, o, none⟩ ∧ l[j]? = some x ∧ x < 4294967296 ∧ CellN h b (o + j * 1) [.int .u32 (x : Int)] := by
  obtain ⟨⟨p', c', h1, h2, h3, h4⟩, hb⟩ := m
  cases h1
  rcases h4 with ⟨h0, _⟩ | ⟨b, o, rfl, hc⟩
  · omega
  · have hx : l[j]? = some l[j] := by simp [hj]
    exact ⟨b, o, l[j], rfl, hx, hb.get hx, by simpa using hc.cell (u32s_get hx)⟩
theorem MagAt.take {h : Heap} {p : Option Addr} {c k m : Nat} {l : List Nat} (s : MagAt h (.slice p l.length c) l) (hk : k ≤ l.length) (hm : k ≤ m) : MagAt h (.slice p k m) (l.take k) := by
  have := s.1.take hk hm
  refine ⟨?_, s.2.take k⟩
  rw [Nat.mul_one, u32s_take] at this
  rw [List.length_take, Nat.min_eq_left hk]
  exact this
/-- A block of one's own that is freezed. -/
theorem MagAt.froze {h : Heap} {b : Nat} {l : List Nat} {T : TypeId} (hb : h b = some (row T (u32s l))) (hl : Bd l) {c : Nat} (hc : l.length ≤ c) : MagAt h (.slice (some ⟨b, 0, none⟩) l.length c) l :=
  ⟨⟨_, c, rfl, hc, by rw [u32s_len, Nat.mul_one], .inr ⟨b, 0, rfl, _, T, _, hb, LookN.all _⟩⟩, hl⟩
/-- The parts of an integer. -/
theorem IntAt.out {h : Heap} {v : Value} {z : Int} (m : IntAt h v z) : ∃ p c, v = .agg ⟨[.bool (decide (z < 0)), .slice p (limbs z.natAbs).length c]⟩ ∧ (limbs z.natAbs).length ≤ c ∧ MagAt h (.slice p (limbs z.natAbs).length c) (limbs z.natAbs) := by
  obtain ⟨x, rfl, hm⟩ := m
  obtain ⟨p, c, rfl, hc⟩ := hm.out
  exact ⟨p, c, rfl, hc, hm⟩
theorem IntAt.in {h : Heap} {p : Option Addr} {n c : Nat} {z : Int} (m : MagAt h (.slice p n c) (limbs z.natAbs)) : IntAt h (.agg ⟨[.bool (decide (z < 0)), .slice p n c]⟩) z := ⟨_, rfl, m⟩
/-- A slice of one's own, freezed, is a slice of limbs. -/
theorem MagAt.of {h : Heap} {v : Value} {l : List Nat} {n : Nat} (s : SlAt h v n 1 (u32s l)) (hb : Bd l) : MagAt h v l := by
  obtain rfl : n = l.length := by
    obtain ⟨p, c, _, _, h3, _⟩ := s
    rw [u32s_len, Nat.mul_one] at h3; exact h3.symm
  exact ⟨s, hb⟩
/-- Any integer, canonical or not. -/
def RawAt (h : Heap) (v : Value) (neg : Bool) (l : List Nat) : Prop := ∃ m, v = .agg ⟨[.bool neg, m]⟩ ∧ MagAt h m l
theorem RawAt.mono {h h' : Heap} {v : Value} {neg : Bool} {l : List Nat} (m : RawAt h v neg l) [e : Ext h h'] : RawAt h' v neg l := let ⟨x, a, b⟩ := m; ⟨x, a, b.mono⟩
theorem IntAt.raw {h : Heap} {v : Value} {z : Int} (m : IntAt h v z) : RawAt h v (decide (z < 0)) (limbs z.natAbs) := m
theorem RawAt.out {h : Heap} {v : Value} {neg : Bool} {l : List Nat} (m : RawAt h v neg l) : ∃ p c, v = .agg ⟨[.bool neg, .slice p l.length c]⟩ ∧ l.length ≤ c ∧ MagAt h (.slice p l.length c) l := by
  obtain ⟨x, rfl, hm⟩ := m
  obtain ⟨p, c, rfl, hc⟩ := hm.out
  exact ⟨p, c, rfl, hc, hm⟩
theorem IntAt.mk {h : Heap} {m : Value} {l : List Nat} {neg : Bool} (hm : MagAt h m l) (hl : trim l = l) : IntAt h (.agg ⟨[.bool (neg && decide (l ≠ [])), m]⟩) (if neg then -(val l : Int) else (val l : Int)) := by
  have hv : limbs (val l) = l := by rw [← trim_eq hm.2, hl]
  have h0 : l = [] ↔ val l = 0 := by rw [← hl, trim_nil_iff hm.2, hl]
  have hb : (neg && decide (l ≠ [])) = decide ((if neg then -(val l : Int) else (val l : Int)) < 0) := by
    cases neg
    · simp
    · simp only [Bool.true_and, if_true]
      refine decide_eq_decide.2 ⟨fun h1 => ?_, fun h1 h2 => ?_⟩
      · have h3 : val l ≠ 0 := fun e => h1 (h0.2 e)
        omega
      · have h3 := h0.1 h2
        omega
  rw [hb]
  refine ⟨m, rfl, ?_⟩
  · have : (if neg then -(val l : Int) else (val l : Int)).natAbs = val l := by cases neg <;> simp
    rw [this, hv]; exact hm
theorem MagAt.frozeN {h : Heap} {b : Nat} {l : List Nat} {T : TypeId} (hb : h b = some (row T (u32s l))) (hl : Bd l) {n c : Nat} (hn : l.length = n) (hc : n ≤ c) : MagAt h (.slice (some ⟨b, 0, none⟩) n c) l := by
  subst hn; exact MagAt.froze hb hl hc
theorem flat1 (m : Nat) : (List.replicate m [Value.int .u32 0]).flatten = u32s (List.replicate m 0) := by
  rw [← u32s_rep]
  induction m with
  | zero => rfl
  | succ m ih => simp [List.replicate_succ, ih]
theorem set_own (out : List Nat) (j d : Nat) : (u32s out).set (0 + ((j : Nat) : Int).toNat * 1) (.int .u32 (d : Int)) = u32s (out.set j d) := by
  show (u32s out).set (0 + j * 1) _ = _
  rw [Nat.mul_one, Nat.zero_add, u32s_set]
theorem get_own {out : List Nat} {j o : Nat} (h : out[j]? = some o) : (u32s out)[0 + ((j : Nat) : Int).toNat * 1]? = some (.int .u32 (o : Int)) := by
  show (u32s out)[0 + j * 1]? = _
  rw [Nat.mul_one, Nat.zero_add]; exact u32s_get h
theorem len_own (out : List Nat) (j : Nat) (h : j < out.length) : 0 + ((j : Nat) : Int).toNat * 1 < (u32s out).length := by
  show 0 + j * 1 < _
  rw [u32s_len]; omega
theorem has_limb {out : List Nat} (hb : Bd out) {j : Nat} (h : j < out.length) : ∃ o, out[j]? = some o ∧ o < 4294967296 := ⟨out[j], by simp [h], hb _ (List.getElem_mem h)⟩
/-- Of at most a million limbs. -/
def Fit (z : Int) : Prop := (limbs z.natAbs).length ≤ 1000000
theorem fitk (k : Nat) {z : Int} (h : z.natAbs < Bs ^ k) (hk : k ≤ 1000000) : Fit z := Nat.le_trans (limbs_len.2 h) hk
theorem fit64 {z : Int} (h : z.natAbs < 18446744073709551616) : Fit z := fitk 2 h (by decide)
theorem bd_abs (z : Int) : Bd (limbs z.natAbs) := bd_limbs _
theorem same3 (x y : Int) : (decide (x < 0) == decide (y < 0)) = false ∨ ((decide (x < 0) == decide (y < 0)) = true ∧ decide (x.natAbs < y.natAbs) = true) ∨ ((decide (x < 0) == decide (y < 0)) = true ∧ decide (x.natAbs < y.natAbs) = false) := by
  cases (decide (x < 0) == decide (y < 0)) <;> cases decide (x.natAbs < y.natAbs) <;> simp
theorem sign_eq {x y : Int} (h : (decide (x < 0) == decide (y < 0)) = true) : (x < 0 ↔ y < 0) := by simpa using h
theorem sign_ne {x y : Int} (h : (decide (x < 0) == decide (y < 0)) = false) : ¬ (x < 0 ↔ y < 0) := by simpa using h
end Go.Z
