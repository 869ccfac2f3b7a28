/- Texts of ours, joined: B6, B7, B8, B9, B10, Limbs, Limbs2, R1, B11. -/
import Derived.Test.YtjdfhlkpfjhjoaaX1
import Derived.Deep.Upon
import Derived.Laws.CopyOwn
import Derived.RangeFuncRecord
import Derived.RangeFuncLeaves
section
set_option linter.unusedSimpArgs false
set_option linter.unusedVariables false
/- The calculus beneath the proofs: structs and slices that are built, slice expressions, make, append, copy. No program is named here. -/
set_option linter.unusedSimpArgs false
set_option linter.unusedVariables false
namespace Go.Z
open Go Go.RowKit

variable {C : Cfg} {Q Q' : Post} {ds : List Deferred} {ρ : Env} {h : Heap} {L : Own} {ops : Array Oper} {rest : List Oper}
variable {d : Nat} {ty : TypeId} {pos : String} {after : Array Edge} {S : World → Prop}

theorem run_v {P : Program} {s : Sem Value} {w w' : World} {v : Value} (hs : s.run P w = .ok v w') : (do Pure.pure (Next.value (← s)) : Sem Next).run P w = .ok (.value v) w' := by
  rw [Sem.run_bind, hs]; rfl
theorem run_u {P : Program} {s : Sem Unit} {w w' : World} (hs : s.run P w = .ok () w') : (do s; Pure.pure Next.skip : Sem Next).run P w = .ok .skip w' := by
  rw [Sem.run_bind, hs]; rfl
def cellsL : Value → List Value
  | .agg cs => cs.toList
  | v => [v]
theorem cells_cellsL (v : Value) : v.cells = ⟨cellsL v⟩ := by cases v <;> rfl

/-- 'fill' on lists. -/
def fillL (pl : Nat → Option (Nat × Nat)) (l : List Value) : List (Nat × Value) → Option (List Value)
  | [] => some l
  | (i, v) :: r => match pl i with
    | none => none
    | some (off, sz) => bif Nat.beq (cellsL v).length sz && Nat.ble (off + sz) l.length then fillL pl (setN l off (cellsL v)) r else none

theorem length_setN : ∀ (vs l : List Value) (o : Nat), (setN l o vs).length = l.length
  | [], _, _ => rfl
  | v :: vs, l, o => by rw [setN, length_setN vs]; simp
theorem foldl_set (l : List Value) (off : Nat) : ∀ (vs : List Value) (k : Nat), ((vs.zipIdx k).foldl (fun cs (p : Value × Nat) => cs.setIfInBounds (off + p.2) p.1) (Array.mk l)) = Array.mk (setN l (off + k) vs)
  | [], _ => rfl
  | v :: vs, k => by
    simp only [List.zipIdx_cons, List.foldl_cons]
    have := foldl_set (l.set (off + k) v) off vs (k + 1)
    rw [show (Array.mk l).setIfInBounds (off + k) v = Array.mk (l.set (off + k) v) from List.setIfInBounds_toArray l (off + k) v]
    rw [this]; rfl
theorem fill_fillL (pl : Nat → Option (Nat × Nat)) : ∀ (ps : List (Nat × Value)) (l cs : List Value), fillL pl l ps = some cs → Instr.fill pl ⟨l⟩ ps = some ⟨cs⟩
  | [], l, cs, h => by simp [fillL] at h; subst h; rfl
  | (i, v) :: r, l, cs, h => by
    simp only [fillL] at h
    simp only [Instr.fill]
    cases e : pl i with
    | none => rw [e] at h; cases h
    | some q =>
      obtain ⟨off, sz⟩ := q
      rw [e] at h
      simp only at h ⊢
      cases hb : (Nat.beq (cellsL v).length sz && Nat.ble (off + sz) l.length) with
      | false => rw [hb] at h; cases h
      | true =>
        rw [hb] at h
        simp only [cond_true] at h
        simp only [Bool.and_eq_true] at hb
        have h1 := Nat.eq_of_beq_eq_true hb.1
        have h2 := Nat.le_of_ble_eq_true hb.2
        rw [cells_cellsL]
        have hsz : (Array.mk (cellsL v)).size = sz := h1
        rw [hsz]
        rw [if_neg (by simp; omega)]
        have hz : (Array.mk (cellsL v)).zipIdx = ⟨(cellsL v).zipIdx⟩ := by simp
        have := foldl_set l off (cellsL v) 0
        rw [hz]
        rw [← Array.foldl_toList]
        simp only [Nat.add_zero] at this
        rw [this]
        exact fill_fillL pl r _ _ h

/-- A struct type: where its fields lie, and its zero. -/
class StF (P : Program) (T : TypeId) (pl : outParam (List (Nat × Nat))) (z : outParam (List Value)) : Prop where
  run : ∀ w, ∃ fs v, P.underlying T = some (.struct fs) ∧ (fs.mapM (fun f => do Pure.pure (f.offset, ← sizeOf f.type)) : Sem _).run P w = .ok ⟨pl⟩ w ∧ (zeroValue T).run P w = .ok v w ∧ v.cells = ⟨z⟩
def stfCheck (P : Program) (T : TypeId) : Option (List (Nat × Nat)) :=
  match P.underlying T with
  | some (.struct fs) => fs.toList.mapM fun f => (P.info? f.type).map fun i => (f.offset, i.size)
  | _ => none
theorem stf_of {P : Program} {T : TypeId} {pl : List (Nat × Nat)} {z : List Value} (h : stfCheck P T = some pl) (hz : Zv P T z) : StF P T pl z := ⟨fun w => by
  unfold stfCheck at h
  split at h
  · rename_i fs hu
    obtain ⟨i, v, h1, h2, h3⟩ := hz.i
    refine ⟨fs, v, hu, ?_, by simp [zeroValue, typeInfo, program, h1, h2, Sem.run_bind, Result.andThen, Sem.run, Pure.pure], h3⟩
    have key : ∀ (l : List Field) (pl : List (Nat × Nat)), l.mapM (fun f => (P.info? f.type).map fun i => (f.offset, i.size)) = some pl → (l.mapM (fun f => do Pure.pure (f.offset, ← sizeOf f.type)) : Sem _).run P w = .ok pl w := by
      intro l
      induction l with
      | nil => intro pl h; simp at h; subst h; simp [Sem.run, Pure.pure]
      | cons f l ih =>
        intro pl h
        simp only [List.mapM_cons] at h ⊢
        cases e1 : P.info? f.type with
        | none => simp [e1] at h
        | some j =>
          cases e2 : l.mapM (fun f => (P.info? f.type).map fun i => (f.offset, i.size)) with
          | none => simp [e1, e2] at h
          | some r =>
            simp [e1, e2] at h
            subst h
            have hs := run_sizeOf (P := P) (w := w) ⟨j, e1, rfl⟩
            have := ih r e2
            rw [Sem.run_bind, Sem.run_bind, hs]
            simp only [Result.andThen, Sem.run, Pure.pure]
            rw [Sem.run_bind]
            simp only [Pure.pure] at this
            rw [this]
            simp [Result.andThen, Sem.run]
    have := key fs.toList pl h
    rw [← Array.toArray_toList (xs := fs), List.mapM_toArray, Sem.run_map, this]
    rfl
  · cases h⟩

section builds
variable {x y : Operand} {T T' : TypeId}
theorem q_bd {ps : List (Nat × Operand)} {pl : List (Nat × Nat)} {z : List Value} (cells : List Value) [hs : StF C.P T pl z] (hc : fillL (fun i => pl[i]?) z (ps.map fun p => (p.1, ρ.ev p.2)) = some cells) : Qr C ρ S (.build T ⟨ps⟩) ty (.agg ⟨cells⟩) := ⟨rfl, fun w _ => by
    obtain ⟨fs, v, h1, h2, h3, h4⟩ := hs.run w
    have hu : (underlying T).run C.P w = .ok (.struct fs) w := by simp [underlying, program, h1, Sem.run, bind, Sem.bind, Pure.pure]
    have hf := fill_fillL _ _ _ _ hc
    have hp : (fun (x : Nat) => (Array.mk pl)[x]?) = fun i => pl[i]? := by funext i; simp
    have hm : (Array.mk ps).map (fun (p : Nat × Operand) => (p.1, ρ.ev p.2)) = ⟨ps.map fun p => (p.1, ρ.ev p.2)⟩ := by simp
    have hr : (Instr.build T ((Array.mk ps).map (fun (p : Nat × Operand) => (p.1, ρ.ev p.2)))).run C.P w = .ok (.agg ⟨cells⟩) w := by
      rw [hm]
      simp only [Instr.build, bind]
      rw [Sem.run_bind', h3]
      simp only [Result.andThen]
      rw [Sem.run_bind', hu]
      simp only [Result.andThen]
      rw [Sem.run_bind']
      simp only [bind] at h2
      rw [h2]
      simp only [Result.andThen, h4, hp, hf, Sem.run, Pure.pure]
    exact run_v hr⟩

/-- A slice that is written out. -/
theorem und_run {P : Program} {T : TypeId} {u : TypeDesc} {w : World} (h : P.underlying T = some u) : (underlying T).run P w = .ok u w := by
  simp [underlying, program, h, Sem.run, bind, Sem.bind, Pure.pure]
theorem zero_run {P : Program} {T : TypeId} {z : List Value} (hz : Zv P T z) (w : World) : ∃ v, (zeroValue T).run P w = .ok v w ∧ v.cells = ⟨z⟩ := by
  obtain ⟨i, v, h1, h2, h3⟩ := hz.i
  exact ⟨v, by simp [zeroValue, typeInfo, program, h1, h2, Sem.run_bind, Result.andThen, Sem.run, Pure.pure], h3⟩
theorem flat_get (z : List Value) : ∀ (n j : Nat), j < n * z.length → (List.replicate n z).flatten[j]? = z[j % z.length]?
  | 0, j, h => by simp at h
  | n + 1, j, h => by
    rw [List.replicate_succ, List.flatten_cons]
    rcases Nat.lt_or_ge j z.length with hj | hj
    · rw [List.getElem?_append_left hj, Nat.mod_eq_of_lt hj]
    · rw [List.getElem?_append_right hj, flat_get z n (j - z.length) (by rw [Nat.add_mul] at h; omega), ← Nat.mod_eq_sub_mod hj]
theorem flat_len (z : List Value) (n : Nat) : (List.replicate n z).flatten.length = n * z.length := by simp
theorem zeros_eq (z : List Value) (N n : Nat) (hN : N = n * z.length) : (Array.range N).map ((Array.mk z)[· % (Array.mk z).size]!) = ⟨(List.replicate n z).flatten⟩ := by
  subst hN
  apply Array.ext
  · simp
  · intro i h1 h2
    have hi : i < n * z.length := by simpa using h1
    have hz : 0 < z.length := by rcases Nat.eq_zero_or_pos z.length with e | e; (rw [e] at hi; simp at hi); exact e
    have := flat_get z n i hi
    rw [List.getElem?_eq_getElem (by simpa using hi), List.getElem?_eq_getElem (Nat.mod_lt _ hz)] at this
    simp at this ⊢
    rw [this]
    simp [Nat.mod_lt _ hz]
theorem o_bs {ps : List (Nat × Operand)} {n e sz : Nat} {z : List Value} (cells : List Value) [hu : Sl C.P T e] [hs : Sz C.P e sz] [hz : Zv C.P e z] (hN : n * sz ≤ 10000)
    (hc : fillL (fun i => some (i * sz, sz)) ((List.replicate n z).flatten) (ps.map fun p => (p.1, ρ.ev p.2)) = some cells)
    (k : ∀ b, JL C ops Q rest ds (ρ.set d (.slice (some ⟨b, 0, none⟩) n n)) h ((b, row e cells) :: L)) (hn : Nat.blt d C.n = true := by rfl) (hzl : z.length = sz := by rfl) :
    JL C ops Q (⟨some d, .buildSlice T n ⟨ps⟩, ty, pos, after, none⟩ :: rest) ds ρ h L :=
  JL.val rfl rfl rfl hn fun w hst => by
    refine ⟨_, h, _, w.alloc (row e cells), run_v ?_, hst.alloc _, k _⟩
    obtain ⟨v, hz1, hz2⟩ := zero_run hz w
    have hm : (Array.mk ps).map (fun (p : Nat × Operand) => (p.1, ρ.ev p.2)) = ⟨ps.map fun p => (p.1, ρ.ev p.2)⟩ := by simp
    have hf := fill_fillL _ _ _ _ hc
    rw [hm]
    have h24 : ¬ n * sz > 2 ^ 24 := by omega
    simp only [Instr.buildSlice, bind]
    rw [Sem.run_bind', und_run hu.u]
    simp only [Result.andThen]
    rw [Sem.run_bind', run_sizeOf hs.i]
    simp only [Result.andThen, h24, if_false, Pure.pure]
    by_cases h0 : n * sz = 0
    · have hfl : (List.replicate n z).flatten = [] := List.eq_nil_of_length_eq_zero (by rw [flat_len, hzl]; exact h0)
      rw [hfl] at hf
      have e0 : ∀ f : Nat → Value, (Array.range 0).map f = ⟨[]⟩ := fun f => by simp
      simp only [h0, if_true, e0]
      rw [show (Sem.pure (α := Array Value) #[]).bind = fun f => f #[] from rfl]
      simp only [e0, hf]
      rw [Sem.run_bind', run_newRow]
      rfl
    · simp only [h0, if_false]
      rw [Sem.run_bind', hz1]
      simp only [Result.andThen]
      rw [Sem.run_bind']
      simp only [Sem.run, hz2, Result.andThen]
      rw [zeros_eq z (n * sz) n (by rw [hzl]), hf]
      simp only []
      rw [Sem.run_bind', run_newRow]
      rfl
end builds

/-! ### Slices -/
/-- A frozen slice of n elements of sz cells each: its cells. -/
def SlAt (h : Heap) (v : Value) (n sz : Nat) (cs : List Value) : Prop :=
  ∃ p c, v = .slice p n c ∧ n ≤ c ∧ cs.length = n * sz ∧ ((n = 0 ∧ ∀ a, p = some a → True) ∨ ∃ b o, p = some ⟨b, o, none⟩ ∧ CellN h b o cs)
theorem SlAt.mono {h h' : Heap} {v : Value} {n sz : Nat} {cs : List Value} (s : SlAt h v n sz cs) [e : Ext h h'] : SlAt h' v n sz cs := by
  obtain ⟨p, c, h1, h2, h3, h4⟩ := s
  exact ⟨p, c, h1, h2, h3, h4.imp id fun ⟨b, o, x, y⟩ => ⟨b, o, x, y.mono e⟩⟩
theorem SlAt.nil (h : Heap) (sz : Nat) : SlAt h (.slice none 0 0) 0 sz [] := ⟨none, 0, rfl, Nat.le_refl _, by simp, .inl ⟨rfl, fun _ e => by cases e⟩⟩
theorem CellN.cell {h : Heap} {b o : Nat} {cs : List Value} (c : CellN h b o cs) {j : Nat} {v : Value} (hv : cs[j]? = some v) : CellN h b (o + j) [v] := by
  obtain ⟨l, T, fr, h1, h2⟩ := c
  exact ⟨l, T, fr, h1, h2.get j v hv, trivial⟩
theorem LookN.of_get {l : List Value} : ∀ {vs : List Value} {o : Nat}, (∀ j v, vs[j]? = some v → l[o + j]? = some v) → LookN l o vs
  | [], _, _ => trivial
  | v :: vs, o, hg => ⟨by simpa using hg 0 v (by simp), LookN.of_get fun j u hu => by
      have := hg (j + 1) u (by simpa using hu); rw [show o + 1 + j = o + (j + 1) by omega]; exact this⟩
theorem CellN.part {h : Heap} {b o : Nat} {cs ds : List Value} (c : CellN h b o cs) {j : Nat} (hd : ∀ i v, ds[i]? = some v → cs[j + i]? = some v) : CellN h b (o + j) ds := by
  obtain ⟨l, T, fr, h1, h2⟩ := c
  exact ⟨l, T, fr, h1, LookN.of_get fun i v hv => by rw [Nat.add_assoc]; exact h2.get _ _ (hd i v hv)⟩
/-- The cells of element i. -/
theorem SlAt.elem {h : Heap} {p : Option Addr} {n c sz : Nat} {cs : List Value} (s : SlAt h (.slice p n c) n sz cs) {i : Nat} (hi : i < n) :
    ∃ b o, p = some ⟨b, o, none⟩ ∧ CellN h b (o + i * sz) ((cs.drop (i * sz)).take sz) := by
  obtain ⟨p', c', h1, h2, h3, h4⟩ := s
  cases h1
  rcases h4 with ⟨rfl, _⟩ | ⟨b, o, rfl, hc⟩
  · exact absurd hi (Nat.not_lt_zero _)
  · refine ⟨b, o, rfl, hc.part fun j v hv => ?_⟩
    rw [List.getElem?_take] at hv
    split at hv
    · rw [List.getElem?_drop] at hv; exact hv
    · cases hv

section slices
variable {x lo hi mx : Operand} {T e : TypeId} {p : Option Addr} {n c : Nat}
theorem map_add0 (p : Option Addr) (sz : Nat) : p.map (·.add (0 * sz)) = p := by
  rw [Nat.zero_mul]; cases p <;> simp [Addr.add]
theorem run_sb {P : Program} {w : World} {v : Value} {q : IntKind} {j : Int} {y : Nat} {code : BoundsCode} (hv : v = .int q j) (h0 : 0 ≤ j) (h1 : j ≤ (y : Int)) : (Instr.sliceBound v y code).run P w = .ok j.toNat w := by
  subst hv
  simp [Instr.sliceBound, asIntOf, h0, h1, Sem.run, bind, Sem.bind, Pure.pure]
theorem sliceAt_run {P : Program} [hu : Sl P T e] (v : Value) (a b m : Option Value) (w : World) : (Instr.sliceAt T v a b m).run P w = (Instr.slice T v a b m).run P w := by
  simp only [Instr.sliceAt, bind]
  rw [Sem.run_bind', und_run hu.u]
  rfl
theorem slice_run {P : Program} {sz : Nat} [hu : Sl P T e] [hs : Sz P e sz] {a b m : Option Value} {l hh mm : Nat} {w : World}
    (hb : (Instr.sliceBounds true n c a b m).run P w = .ok (l, hh, mm) w) : (Instr.slice T (.slice p n c) a b m).run P w = .ok (.slice (if mm = l then p else p.map (·.add (l * sz))) (hh - l) (mm - l)) w := by
  simp only [Instr.slice, bind]
  rw [Sem.run_bind', und_run hu.u]
  simp only [Result.andThen]
  rw [Sem.run_bind', hb]
  simp only [Result.andThen]
  rw [Sem.run_bind', run_sizeOf hs.i]
  rfl
/-- 's[:hi:mx]' -/
theorem q_slHM {sz : Nat} [hu : Sl C.P T e] [hs : Sz C.P e sz] {q q' : IntKind} {j m : Int} (hx : ρ.ev x = .slice p n c) (hh : ρ.ev hi = .int q j) (hm : ρ.ev mx = .int q' m) (hb : 0 ≤ j ∧ j ≤ m ∧ m ≤ (c : Int)) : Qr C ρ S (.slice T x none (some hi) (some mx)) ty (.slice p j.toNat m.toNat) := ⟨rfl, fun w _ => run_v (by
    simp only [Option.map]
    rw [sliceAt_run, hx]
    rw [slice_run (l := 0) (hh := j.toNat) (mm := m.toNat)]
    · rw [map_add0]; simp
    · simp only [Instr.sliceBounds, bind, hh, hm]
      rw [Sem.run_bind', run_sb rfl (by omega) hb.2.2]
      simp only [Result.andThen]
      rw [Sem.run_bind', run_sb rfl hb.1 (by omega)]
      simp [Result.andThen, Sem.run, Sem.bind, Pure.pure])⟩
/-- 's[:hi]' -/
theorem q_slH {sz : Nat} [hu : Sl C.P T e] [hs : Sz C.P e sz] {q : IntKind} {j : Int} (hx : ρ.ev x = .slice p n c) (hh : ρ.ev hi = .int q j) (hb : 0 ≤ j ∧ j ≤ (c : Int)) : Qr C ρ S (.slice T x none (some hi) none) ty (.slice p j.toNat c) := ⟨rfl, fun w _ => run_v (by
    simp only [Option.map]
    rw [sliceAt_run, hx]
    rw [slice_run (l := 0) (hh := j.toNat) (mm := c)]
    · rw [map_add0]; simp
    · simp only [Instr.sliceBounds, bind, hh]
      simp only [Pure.pure, Sem.bind, if_true]
      rw [Sem.run_bind', run_sb rfl hb.1 hb.2]
      simp [Result.andThen, Sem.run, Sem.bind, Pure.pure])⟩
/-- 's[lo:]' -/
theorem q_slL {sz : Nat} [hu : Sl C.P T e] [hs : Sz C.P e sz] {q : IntKind} {j : Int} (hx : ρ.ev x = .slice p n c) (hl : ρ.ev lo = .int q j) (hb : 0 ≤ j ∧ j ≤ (n : Int)) : Qr C ρ S (.slice T x (some lo) none none) ty (.slice (if c = j.toNat then p else p.map (·.add (j.toNat * sz))) (n - j.toNat) (c - j.toNat)) := ⟨rfl, fun w _ => run_v (by
    simp only [Option.map]
    rw [sliceAt_run, hx]
    refine slice_run (l := j.toNat) (hh := n) (mm := c) ?_
    simp only [Instr.sliceBounds, bind, hl]
    rw [show (Pure.pure c : Sem Nat).bind = fun f => f c from rfl]
    try simp only []
    rw [show (Pure.pure n : Sem Nat).bind = fun f => f n from rfl]
    try simp only [Option.isSome, Bool.false_eq_true, if_false]
    rw [Sem.run_bind', run_sb rfl hb.1 hb.2]
    simp [Result.andThen, Sem.run, Sem.bind, Pure.pure])⟩
/-- 's[lo:hi]' -/
theorem q_slLH {sz : Nat} [hu : Sl C.P T e] [hs : Sz C.P e sz] {q q' : IntKind} {i j : Int} (hx : ρ.ev x = .slice p n c) (hl : ρ.ev lo = .int q i) (hh : ρ.ev hi = .int q' j) (hb : 0 ≤ i ∧ i ≤ j ∧ j ≤ (c : Int)) : Qr C ρ S (.slice T x (some lo) (some hi) none) ty (.slice (if c = i.toNat then p else p.map (·.add (i.toNat * sz))) (j.toNat - i.toNat) (c - i.toNat)) := ⟨rfl, fun w _ => run_v (by
    simp only [Option.map]
    rw [sliceAt_run, hx]
    refine slice_run (l := i.toNat) (hh := j.toNat) (mm := c) ?_
    simp only [Instr.sliceBounds, bind, hl, hh]
    rw [show (Pure.pure c : Sem Nat).bind = fun f => f c from rfl]
    try simp only [Option.isSome, Bool.false_eq_true, if_false, if_true]
    rw [Sem.run_bind', run_sb rfl (by omega) hb.2.2]
    simp only [Result.andThen]
    rw [Sem.run_bind', run_sb rfl hb.1 (by omega)]
    simp [Result.andThen, Sem.run, Sem.bind, Pure.pure])⟩
end slices
theorem SlAt.drop {h : Heap} {p : Option Addr} {n c sz k : Nat} {cs : List Value} (s : SlAt h (.slice p n c) n sz cs) (hk : k ≤ n) :
    SlAt h (.slice (if c = k then p else p.map (·.add (k * sz))) (n - k) (c - k)) (n - k) sz (cs.drop (k * sz)) := by
  obtain ⟨p', c', h1, h2, h3, h4⟩ := s
  cases h1
  refine ⟨_, _, rfl, by omega, by rw [List.length_drop, h3, Nat.sub_mul], ?_⟩
  rcases h4 with ⟨rfl, hp⟩ | ⟨b, o, rfl, hc⟩
  · refine .inl ⟨by omega, fun a ha => ?_⟩
    have hk0 : k = 0 := by omega
    subst hk0
    rw [map_add0] at ha
    simp only [ite_self] at ha
    trivial
  · by_cases e : c = k
    · have hn : n = k := by omega
      refine .inl ⟨by omega, fun a ha => ?_⟩
      trivial
    · refine .inr ⟨b, o + k * sz, by rw [if_neg e]; simp [add_none], hc.part fun i v hv => ?_⟩
      rw [List.getElem?_drop] at hv; exact hv
theorem SlAt.take {h : Heap} {p : Option Addr} {n c sz k m : Nat} {cs : List Value} (s : SlAt h (.slice p n c) n sz cs) (hk : k ≤ n) (hm : k ≤ m) :
    SlAt h (.slice p k m) k sz (cs.take (k * sz)) := by
  obtain ⟨p', c', h1, h2, h3, h4⟩ := s
  cases h1
  refine ⟨_, _, rfl, hm, by rw [List.length_take, h3]; exact Nat.min_eq_left (Nat.mul_le_mul_right _ hk), ?_⟩
  rcases h4 with ⟨rfl, hp⟩ | ⟨b, o, rfl, hc⟩
  · exact .inl ⟨by omega, hp⟩
  · have : CellN h b (o + 0) (cs.take (k * sz)) := hc.part fun i v hv => ?_
    · exact .inr ⟨b, o, rfl, this⟩
    rw [List.getElem?_take] at hv
    split at hv
    · simpa using hv
    · cases hv
end Go.Z
end
section
set_option linter.unusedSimpArgs false
set_option linter.unusedVariables false
/- The calculus beneath the proofs: slices of the activation's own: make, append, copy. No program is named here. -/
set_option linter.unusedSimpArgs false
set_option linter.unusedVariables false
namespace Go.Z
open Go Go.RowKit

variable {C : Cfg} {Q Q' : Post} {ds : List Deferred} {ρ : Env} {h : Heap} {L : Own} {ops : Array Oper} {rest : List Oper}
variable {d : Nat} {ty : TypeId} {pos : String} {after : Array Edge}

theorem St.of {w0 : World} {h0 h : Heap} {L L' : Own} {w : World} (s : St w0 h0 h L w) (hm : ∀ p ∈ L', p ∈ L) (nd : (L'.map (·.1)).Nodup) : St w0 h0 h L' w :=
  ⟨s.below, s.ge, s.old, s.fro, fun p hp => s.own p (hm p hp), nd⟩
theorem St.sub {w0 : World} {h0 h : Heap} {L L' : Own} {w : World} (s : St w0 h0 h L w) (hs : L'.Sublist L) : St w0 h0 h L' w :=
  s.of (fun p hp => hs.subset hp) ((hs.map _).nodup s.nd)
theorem J.sub {c : Code} {L' : Own} (hs : L'.Sublist L) (hj : J C c Q ds ρ h L') : J C c Q ds ρ h L := fun a w ha hst => hj a w ha (hst.sub hs)
theorem JL.sub {L' : Own} (hs : L'.Sublist L) (hj : JL C ops Q rest ds ρ h L') : JL C ops Q rest ds ρ h L := fun a w ha hst => hj a w ha (hst.sub hs)
theorem JL.perm {L' : Own} (hp : L.Perm L') (hj : JL C ops Q rest ds ρ h L') : JL C ops Q rest ds ρ h L := fun a w ha hst => hj a w ha (hst.perm hp)

/-- A slice of the activation's own: n elements of sz cells, whose cells are xs; Lb: its block. -/
def OwnS (T : TypeId) (sz : Nat) (v : Value) (n : Nat) (xs : List Value) (Lb : Own) : Prop :=
  xs.length = n * sz ∧ ((∃ p, v = .slice p 0 0 ∧ (∀ a : Addr, p = some a → a.spot = none) ∧ n = 0 ∧ Lb = []) ∨ ∃ b c sp, v = .slice (some ⟨b, 0, none⟩) n c ∧ Lb = [(b, row T (xs ++ sp))] ∧ n ≤ c ∧ (xs ++ sp).length = c * sz)
theorem OwnS.nil (T : TypeId) (sz : Nat) : OwnS T sz (.slice none 0 0) 0 [] [] := ⟨by simp, .inl ⟨none, rfl, fun _ e => (by cases e), rfl, rfl⟩⟩
theorem OwnS.lit {T : TypeId} {sz n : Nat} {b : Nat} {xs : List Value} (hl : xs.length = n * sz) : OwnS T sz (.slice (some ⟨b, 0, none⟩) n n) n xs [(b, row T xs)] :=
  ⟨hl, .inr ⟨b, n, [], rfl, by simp, Nat.le_refl _, by simpa using hl⟩⟩

/-- The part Lb among the owned blocks, and the owned blocks with something else in its place. -/
class AtS (L Lb : Own) (f : outParam (Own → Own)) : Prop where
  e : ∃ L1 L2, L = L1 ++ (Lb ++ L2) ∧ ∀ x, f x = L1 ++ (x ++ L2)
instance (priority := 1100) AtS.self {Lb : Own} : AtS Lb Lb (fun x => x) := ⟨[], [], by simp, by simp⟩
instance AtS.head {Lb L2 : Own} : AtS (Lb ++ L2) Lb (fun x => x ++ L2) := ⟨[], L2, rfl, fun _ => rfl⟩
instance AtS.tail {L Lb : Own} {p : Nat × Obj} {f : Own → Own} [a : AtS L Lb f] : AtS (p :: L) Lb (fun x => p :: f x) := by
  obtain ⟨L1, L2, h1, h2⟩ := a.e
  exact ⟨p :: L1, L2, by rw [h1]; rfl, fun x => by rw [h2]; rfl⟩
instance AtS.app {L M Lb : Own} {f : Own → Own} [a : AtS L Lb f] : AtS (M ++ L) Lb (fun x => M ++ f x) := by
  obtain ⟨L1, L2, h1, h2⟩ := a.e
  exact ⟨M ++ L1, L2, by rw [h1, List.append_assoc], fun x => by rw [h2, List.append_assoc]⟩

section make
variable {x y : Operand} {T e : TypeId}
/-- 'make([]T, n, m)' -/
theorem o_mk {sz by' : Nat} {z : List Value} {q q' : IntKind} {n m : Nat} {a b : Int} [hu : Sl C.P T e] [hs : Sz C.P e sz] [hb : By C.P e by'] [hz : Zv C.P e z] (hx : ρ.ev x = .int q a) (hy : ρ.ev y = .int q' b)
    (ha : a = (n : Int)) (hb' : b = (m : Int)) (hnm : n ≤ m) (hm : m * by' ≤ 140737488355328) (hm2 : m ≤ 1000000000000000)
    (k : ∀ g, JL C ops Q rest ds (ρ.set d (.slice (some ⟨g, 0, none⟩) n m)) h ((g, row e (List.replicate m z).flatten) :: L)) (hn : Nat.blt d C.n = true := by rfl) (hzl : z.length = sz := by rfl) :
    JL C ops Q (⟨some d, .makeSlice T x y, ty, pos, after, none⟩ :: rest) ds ρ h L :=
  JL.val rfl rfl rfl hn fun w hst => by
    refine ⟨_, h, _, w.alloc (row e (List.replicate m z).flatten), run_v ?_, hst.alloc _, k _⟩
    subst ha hb'
    obtain ⟨i, hi1, hi2⟩ := hb.i
    obtain ⟨i2, hi3, hi4⟩ := hs.i
    obtain ⟨i3, v, hi5, hi6, hi7⟩ := hz.i
    have e1 : i2 = i := by rw [hi1] at hi3; cases hi3; rfl
    have e2 : i3 = i := by rw [hi1] at hi5; cases hi5; rfl
    subst e1 e2
    have hr := run_make (P := C.P) w T e i3 v hu.u hi1 hi6 q q' (n : Int) (m : Int) (by omega) (by omega) (by
      rw [hi2, Int.mul_comm]
      have : ((m * by' : Nat) : Int) ≤ ((140737488355328 : Nat) : Int) := Int.ofNat_le.2 hm
      rw [Int.natCast_mul] at this
      omega) (by omega)
    rw [hx, hy, hr]
    have : madeCells v.cells ((m : Int).toNat * i3.size) = ⟨(List.replicate m z).flatten⟩ := by
      unfold madeCells
      rw [hi7, Int.toNat_natCast, hi4]
      exact zeros_eq z (m * sz) m (by rw [hzl])
    rw [this]
    rfl
end make

theorem setN_append (us : List Value) : ∀ (xs sp : List Value), us.length ≤ sp.length → setN (xs ++ sp) xs.length us = xs ++ (us ++ sp.drop us.length) := by
  induction us with
  | nil => intro xs sp _; simp [setN]
  | cons u us ih =>
    intro xs sp hl
    cases sp with
    | nil => simp at hl
    | cons s sp =>
      have := ih (xs ++ [u]) sp (by simpa using hl)
      simp only [setN]
      have hs : (xs ++ s :: sp).set xs.length u = (xs ++ [u]) ++ sp := by simp
      rw [hs, show xs.length + 1 = (xs ++ [u]).length by simp, this]
      simp
theorem plain_one {u : Value} (h : plain u = true) : u.oneCell' = true := by cases u <;> first | rfl | cases h

theorem cells_of_row {w : World} {b o : Nat} {l us : List Value} {T : TypeId} {fr : Nat × Nat} (hb : w.heap[b]? = some (.cells ⟨l⟩ T fr)) (hl : LookN l o us) : ∀ j u, us[j]? = some u → w.cell? ((⟨b, o, none⟩ : Addr).add j) = some u := fun j u hu => by
  rw [add_none]
  exact cell_of hb (hl.get j u hu)

/-- What 'append' does, at a slice of one's own. -/
theorem run_append {P : Program} {w0 w : World} {h0 h : Heap} {L Lb : Own} {f : Own → Own} {T T' e sz by' n m : Nat} {z xs us : List Value} {v y : Value} {ty : TypeId} [hu : Sl P T e] [hs : Sz P e sz] [hb : By P e by'] [hz : Zv P e z]
    (hzl : z.length = sz) (hst : St w0 h0 h L w) (a : AtS L Lb f) (ho : OwnS e sz v n xs Lb) (hpl : ∀ u ∈ us, plain u = true) (hby : by' ≤ 100000) (hlen : n + m ≤ 1000000000)
    (src : Src P sz T' y m us w) :
    ∃ v' Lb' w', (Builtin.append_ #[T, T'] ty #[v, y]).run P w = .ok v' w' ∧ OwnS e sz v' (n + m) (xs ++ us) Lb' ∧ St w0 h0 h (f Lb') w' := by
  obtain ⟨hxl, hv⟩ := ho
  obtain ⟨i, hi1, hi2⟩ := hb.i
  obtain ⟨i2, hi3, hi4⟩ := hs.i
  obtain ⟨i3, zv, hi5, hi6, hi7⟩ := hz.i
  have e1 : i2 = i := by rw [hi1] at hi3; cases hi3; rfl
  have e2 : i3 = i := by rw [hi1] at hi5; cases hi5; rfl
  subst e1 e2
  have hus := src.newsLen
  have hxu : (xs ++ us).length = (n + m) * sz := by rw [List.length_append, hxl, hus, Nat.add_mul]
  obtain ⟨L1, L2, hL, hf⟩ := a.e
  have hsrc : Src P i3.size T' y m us w := hi4.symm ▸ src
  have hzs : zv.cells.size = sz := by rw [hi7]; exact hzl
  -- growing
  have grow : ∀ p c, v = .slice p n c → n ≤ c → c < n + m → (Builtin.firstCells i3.size n (.slice p n c)).run P w.drew = .ok xs.toArray w.drew →
      ∃ v' Lb' w', (Builtin.append_ #[T, T'] ty #[v, y]).run P w = .ok v' w' ∧ OwnS e sz v' (n + m) (xs ++ us) Lb' ∧ St w0 h0 h (f Lb') w' := by
    intro p c hvp _ hc hold
    have hfit : Builtin.nextslicecap (n + m) c * i3.bytes ≤ 281474976710656 := growslice_fits hc (by
      rw [hi2]
      calc (n + m) * by' ≤ 1000000000 * 100000 := Nat.mul_le_mul hlen hby
        _ ≤ 140737488355328 := by decide)
    have hr := run_append_grow_src (P := P) w T T' ty e i3 zv hu.u hi1 hi6 p n c xs hold y m us hsrc hc (by omega) hfit
    rw [← hvp] at hr
    have hge := grownCap_ge w (n + m) c e
    refine ⟨_, [(w.heap.size, row e ((xs ++ us) ++ (Builtin.zeroCells zv.cells (grownCap w (n + m) c e - (n + m))).toList))], _, hr, ⟨hxu, .inr ⟨_, _, _, rfl, rfl, hge, ?_⟩⟩, ?_⟩
    · rw [List.length_append, hxu, Array.length_toList, size_zeroCells, hzs, ← Nat.add_mul]
      congr 1; omega
    · have hst' : St w0 h0 h L w.drew := hst.drew
      have h1 := hst'.alloc (row e ((xs ++ us) ++ (Builtin.zeroCells zv.cells (grownCap w (n + m) c e - (n + m))).toList))
      have hobj : row e ((xs ++ us) ++ (Builtin.zeroCells zv.cells (grownCap w (n + m) c e - (n + m))).toList) = .cells ((xs ++ us).toArray ++ Builtin.zeroCells zv.cells (grownCap w (n + m) c e - (n + m))) e := by
        unfold row
        congr 1
        apply Array.ext'
        simp
      rw [hobj] at h1 ⊢
      rw [hf]
      clear hr hobj
      generalize Obj.cells ((xs ++ us).toArray ++ Builtin.zeroCells zv.cells (grownCap w (n + m) c e - (n + m))) e = O at h1 ⊢
      have hsz : w.drew.heap.size = w.heap.size := rfl
      rw [hsz] at h1
      refine St.of (h1.perm (L' := L1 ++ ([(w.heap.size, O)] ++ (Lb ++ L2))) ?_) (fun q hq => ?_) ?_
      · rw [hL]
        exact (List.perm_middle).symm
      · simp only [List.mem_append, List.mem_singleton] at hq ⊢
        rcases hq with h | h | h
        · exact .inl h
        · exact .inr (.inl h)
        · exact .inr (.inr (.inr h))
      · have nd := h1.nd
        rw [hL] at nd
        have : (L1 ++ ([(w.heap.size, O)] ++ L2)).Perm ((w.heap.size, O) :: (L1 ++ L2)) := List.perm_middle
        refine ((this.map _).nodup_iff).2 (List.Sublist.nodup (List.Sublist.map _ (List.Sublist.cons_cons _ ?_)) nd)
        exact List.Sublist.append (List.Sublist.refl _) (List.sublist_append_right _ _)
  rcases hv with ⟨p, rfl, hpn, rfl, rfl⟩ | ⟨b, c, sp, rfl, rfl, hnc, hlen2⟩
  · obtain rfl : xs = [] := List.eq_nil_of_length_eq_zero (by simpa using hxl)
    rcases Nat.eq_zero_or_pos m with rfl | hm
    · obtain rfl : us = [] := List.eq_nil_of_length_eq_zero (by simpa using hus)
      have hr := run_append_nothing (P := P) w T T' ty e i3 hu.u hi1 p 0 0 (Nat.le_refl _) y hsrc
      exact ⟨_, [], w, hr, ⟨by simp, .inl ⟨p, rfl, hpn, rfl, rfl⟩⟩, by rw [hf, ← hL]; exact hst⟩
    · refine grow p 0 rfl (Nat.le_refl _) (by omega) ?_
      cases p <;> simp [Builtin.firstCells, loadCells, loadCellsFrom, Sem.run, Pure.pure]
  · have hat : At L b (row e (xs ++ sp)) (fun o => L1 ++ ((b, o) :: L2)) := ⟨L1, L2, by rw [hL]; rfl, fun _ => rfl⟩
    have hrow := hat.heap hst
    by_cases hfit : n + m ≤ c
    · have husp : us.length ≤ sp.length := by
        rw [List.length_append, hxl] at hlen2
        have : (n + m) * sz ≤ c * sz := Nat.mul_le_mul_right _ hfit
        rw [Nat.add_mul] at this; omega
      obtain ⟨w', g1, g2, g3, g4, g5, g6, g7⟩ := run_storeCells (P := P) us 0 (o := n * sz) hrow (by rw [List.length_append, hxl]; omega) hpl
      refine ⟨.slice (some ⟨b, 0, none⟩) (n + m) c, [(b, row e ((xs ++ us) ++ sp.drop us.length))], w', ?_, ⟨hxu, .inr ⟨b, c, _, rfl, rfl, hfit, ?_⟩⟩, ?_⟩
      · rcases src.kind with ⟨e', hk⟩ | hk <;> simp [Builtin.append_, run_underlying hu.u, run_underlying hk, sizeOf, typeInfo, hi1, hi4, src.len, hfit, src.cells, add_none, g1]
      · rw [List.length_append, List.length_append, List.length_drop]
        rw [List.length_append] at hlen2; omega
      · have := hat.upd hst (o' := row e ((xs ++ us) ++ sp.drop us.length)) g2 g3 g4 g5 (by
          rw [g6]; simp only [Nat.add_zero]
          rw [← hxl, setN_append us xs sp husp, List.append_assoc]) g7
        rw [hf]; exact this
    · refine grow _ c rfl hnc (by omega) ?_
      have hx : (Builtin.firstCells sz n (.slice (some ⟨b, 0, none⟩) n c)).run P w.drew = .ok xs.toArray w.drew := by
        have hb2 : w.drew.heap[b]? = some (row e (xs ++ sp)) := hrow
        simp only [Builtin.firstCells, ← hxl]
        exact run_loadCells hb2 (by simpa using LookN.of_get (vs := xs) (o := 0) fun j u hj => by simpa [List.getElem?_append_left (List.getElem?_eq_some_iff.1 hj).1] using hj)
      rw [hi4]; exact hx

section appends
variable {x y : Operand} {T T' e : TypeId}
/-- 'append', from whatever source. -/
theorem o_app {Lb : Own} {f : Own → Own} {sz by' n m : Nat} {z xs us : List Value} {v u : Value} [hu : Sl C.P T e] [hs : Sz C.P e sz] [hb : By C.P e by'] [hz : Zv C.P e z]
    (hx : ρ.ev x = v) (hy : ρ.ev y = u) (ho : OwnS e sz v n xs Lb) (a : AtS L Lb f) (src : ∀ w, St C.w0 C.h0 h L w → Src C.P sz T' u m us w) (hlen : n + m ≤ 1000000000)
    (k : ∀ v' Lb', OwnS e sz v' (n + m) (xs ++ us) Lb' → JL C ops Q rest ds (ρ.set d v') h (f Lb')) (hn : Nat.blt d C.n = true := by rfl) (hzl : z.length = sz := by rfl) (hby : Nat.ble by' 100000 = true := by rfl) :
    JL C ops Q (⟨some d, .call { callee := .builtin .append, args := #[x, y], argTypes := #[T, T'] }, ty, pos, after, none⟩ :: rest) ds ρ h L :=
  JL.val rfl rfl rfl hn fun w hst => by
    have hpl : ∀ u ∈ us, plain u = true := fun u hu => by
      have := (src w hst).one u hu
      cases u <;> first | rfl | cases this
    obtain ⟨v', Lb', w', h1, h2, h3⟩ := run_append (T := T) (T' := T') (e := e) (ty := ty) hzl hst a ho hpl (Nat.le_of_ble_eq_true hby) hlen (src w hst)
    refine ⟨v', h, _, w', ?_, h3, k v' Lb' h2⟩
    have hx' : (Builtin.append_ #[T, T'] ty #[ρ.ev x, ρ.ev y]).run C.P w = .ok v' w' := by rw [hx, hy]; exact h1
    have hm : (#[x, y] : Array Operand).map ρ.ev = #[ρ.ev x, ρ.ev y] := by simp
    simp only [execOp, resolve, hm]
    exact run_v hx'
theorem src_own {b o n c sz e' : Nat} {l us : List Value} {T0 : TypeId} {fr : Nat × Nat} {f : Obj → Own} [hu : Sl C.P T' e'] (a : At L b (.cells ⟨l⟩ T0 fr) f) (hl : LookN l o us) (hlen : us.length = n * sz) (hpl : ∀ u ∈ us, plain u = true) :
    ∀ w, St C.w0 C.h0 h L w → Src C.P sz T' (.slice (some ⟨b, o, none⟩) n c) n us w := fun w hst =>
  Src.ofSlice w hu.u _ n c us hlen (cells_of_row (a.heap hst) hl) (fun u hu => plain_one (hpl u hu))
theorem src_fro {n sz e' : Nat} {us : List Value} {v : Value} {h1 : Heap} [hu : Sl C.P T' e'] [hx : Ext h1 h] (s : SlAt h1 v n sz us) (hpl : ∀ u ∈ us, plain u = true) :
    ∀ w, St C.w0 C.h0 h L w → Src C.P sz T' v n us w := fun w hst => by
  obtain ⟨p, c, rfl, _, hl, hp⟩ := s
  rcases hp with ⟨rfl, _⟩ | ⟨b, o, rfl, hc⟩
  · obtain rfl : us = [] := List.eq_nil_of_length_eq_zero (by simpa using hl)
    cases p with
    | none => exact Src.ofNil w hu.u c
    | some a => exact Src.ofSlice w hu.u a 0 c [] (by simp) (fun j u hj => by simp at hj) (fun u hu => by cases hu)
  · obtain ⟨l, T0, fr, hb, hlk⟩ := hc.mono hx
    exact Src.ofSlice w hu.u _ n c us hl (cells_of_row (hst.fro _ _ hb) hlk) (fun u hu => plain_one (hpl u hu))
end appends

section copies
variable {x y : Operand} {T T' e : TypeId}
/-- 'copy' into a slice of one's own. -/
theorem o_cp {b o n c m : Nat} {sz : Nat} {l us : List Value} {u : Value} {T0 : TypeId} {f : Obj → Own} [hu : Sl C.P T e] [hs : Sz C.P e sz] (hx : ρ.ev x = .slice (some ⟨b, o, none⟩) n c) (hy : ρ.ev y = u)
    (a : At L b (row T0 l) f) (src : ∀ w, St C.w0 C.h0 h L w → Src C.P sz T' u m us w) (hmn : m ≤ n) (hlen : o + us.length ≤ l.length)
    (k : JL C ops Q rest ds (ρ.set d (.int .i64 (m : Int))) h (f (row T0 (setN l o us)))) (hn : Nat.blt d C.n = true := by rfl) :
    JL C ops Q (⟨some d, .call { callee := .builtin .copy, args := #[x, y], argTypes := #[T, T'] }, ty, pos, after, none⟩ :: rest) ds ρ h L :=
  JL.val rfl rfl rfl hn fun w hst => by
    have hsr := src w hst
    have hpl : ∀ u ∈ us, plain u = true := fun u hu => by
      have := hsr.one u hu
      cases u <;> first | rfl | cases this
    obtain ⟨w', g1, g2, g3, g4, g5, g6, g7⟩ := run_storeCells (P := C.P) us 0 (o := o) (a.heap hst) (by omega) hpl
    refine ⟨_, h, _, w', ?_, a.upd hst g2 g3 g4 g5 g6 g7, k⟩
    have hmin : Nat.min m n = m := Nat.min_eq_left hmn
    have h1 : (Builtin.copy_ #[T, T'] ty #[ρ.ev x, ρ.ev y]).run C.P w = .ok (.int .i64 (m : Int)) w' := by
      rw [hx, hy]
      simp [Builtin.copy_, run_underlying hu.u, hsr.len, run_sizeOf hs.i, hmin, hsr.cells, g1, goInt]
    have hm : (#[x, y] : Array Operand).map ρ.ev = #[ρ.ev x, ρ.ev y] := by simp
    simp only [execOp, resolve, hm]
    exact run_v h1
end copies
end Go.Z
end
section
set_option linter.unusedSimpArgs false
set_option linter.unusedVariables false
/- The calculus beneath the proofs: a region whose order is drawn. An operation that only reckons or reads may be taken first; the others are walked in every order that may come up. No program is named here. -/
set_option linter.unusedSimpArgs false
set_option linter.unusedVariables false
namespace Go.Z
open Go Go.RowKit

section low
variable {r : Option Nat} {P : Program} {ops : Array Oper} {Q : Exit → Act → World → Prop}

/-- Whatever order is picked from here on; S holds behind every operation that is carried out, till one of M is. -/
def wpAnyS (r : Option Nat) (P : Program) (ops : Array Oper) (Q : Exit → Act → World → Prop) : Nat → (World → Prop) → List Nat → Array Bool → Act → World → Prop
  | 0, _, _, listed, a, w => Region.ready .any ops listed = [] ∧ Q .normal a w
  | fuel + 1, S, M, listed, a, w => (Region.ready .any ops listed = [] → Q .normal a w) ∧
    ∀ i ∈ Region.ready .any ops listed, wpOpIn (fen r) 0 P ops Q i (fun a' w' =>
      (i ∈ M → wpAnyS r P ops Q fuel (fun _ => True) [] (listed.setIfInBounds i true) a' w') ∧
      (i ∉ M → S w' ∧ wpAnyS r P ops Q fuel S M (listed.setIfInBounds i true) a' w')) a w

theorem wpAny_of_S : ∀ (fuel : Nat) {S : World → Prop} {M : List Nat} {listed : Array Bool} {a : Act} {w : World}, wpAnyS r P ops Q fuel S M listed a w → wpAnyIn (fen r) 0 P .any ops Q fuel listed a w
  | 0, _, _, _, _, _, h => h
  | fuel + 1, S, M, listed, a, w, h => ⟨h.1, fun i hi => wpOpIn_mono (fun a' w' hk => by
      by_cases hm : i ∈ M
      · exact wpAny_of_S fuel (hk.1 hm)
      · exact wpAny_of_S fuel (hk.2 hm).2) (h.2 i hi)⟩
theorem wpAnyS.mono : ∀ (fuel : Nat) {S S' : World → Prop} {M : List Nat} {listed : Array Bool} {a : Act} {w : World}, (∀ w, S w → S' w) → wpAnyS r P ops Q fuel S M listed a w → wpAnyS r P ops Q fuel S' M listed a w
  | 0, _, _, _, _, _, _, _, h => h
  | fuel + 1, S, S', M, listed, a, w, hS, h => ⟨h.1, fun i hi => wpOpIn_mono (fun a' w' hk => ⟨hk.1, fun hm => ⟨hS _ (hk.2 hm).1, wpAnyS.mono fuel hS (hk.2 hm).2⟩⟩) (h.2 i hi)⟩

/-- What operation o yields in every world that meets S. -/
def YS (P : Program) (ops : Array Oper) (S : World → Prop) (o : Oper) (v : Value) (a : Act) : Prop :=
  (Region.wanted o (yielded ops a.tmps) = true ∧ ∀ w, S w → (execOp a.eval o).run P w = .ok (.value v) w) ∨
  (Region.wanted o (yielded ops a.tmps) = false ∧ v = undef)
theorem YS.wpOp {S : World → Prop} {i : Nat} {o : Oper} {v : Value} {a : Act} (hi : ops[i]? = some o) (hc : calm o.op = true) (hy : YS P ops S o v a) {K : Act → World → Prop} {w : World} (hS : S w)
    (h : K (a.put o.dst v) w) : wpOpIn (fen r) 0 P ops Q i K a w := by
  unfold wpOpIn
  simp only [hi]
  rcases hy with ⟨hw, hv⟩ | ⟨hw, rfl⟩
  · simp only [hw, if_true, Oper.wpIn, semAt_calm hc, hv w hS, Oper.uponIn]; exact ⟨fun _ _ => trivial, h⟩
  · simp only [hw, Bool.false_eq_true, if_false]; exact ⟨fun _ _ => trivial, h⟩
theorem YS.of_same {S : World → Prop} {o : Oper} {v : Value} {a a' : Act} (hy : YS P ops S o v a) (he : execOp a'.eval o = execOp a.eval o)
    (hw : Region.wanted o (yielded ops a'.tmps) = Region.wanted o (yielded ops a.tmps)) : YS P ops S o v a' := by
  unfold YS at *
  rw [he, hw]
  exact hy
theorem wpOp_putS {S : World → Prop} {j : Nat} {oi oj : Oper} {v : Value} (hj : ops[j]? = some oj) (hap : oi.apart ops oj = true) (hci : calm oi.op = true) (hcj : calm oj.op = true)
    (hsi : ∀ cs b, oi.op ≠ .select cs b) (hsj : ∀ cs b, oj.op ≠ .select cs b)
    (hQ : ∀ c a w, Q (.panic c) a w → False) (hO : ∀ a w, Q .outgrown a w → False) {K : Act → World → Prop} {a : Act} {w : World}
    (hy : YS P ops S oi v a) (h : wpOpIn (fen r) 0 P ops Q j K (a.put oi.dst v) w) :
    wpOpIn (fen r) 0 P ops Q j (fun a' w' => YS P ops S oi v a' ∧ K (a'.put oi.dst v) w') a w := by
  obtain ⟨h1, h2, h3⟩ := Oper.apart_spec hap
  have keep : ∀ (a : Act), YS P ops S oi v a → ∀ u, YS P ops S oi v (a.put oj.dst u) := fun a hy u =>
    hy.of_same (execOp_put oi hsi a oj.dst u h3) (wanted_put oi a oj.dst u h3)
  have keepD : ∀ d, YS P ops S oi v { a with defers := d :: a.defers } := fun d => hy.of_same rfl rfl
  unfold wpOpIn at *
  simp only [hj] at *
  rw [wanted_put oj a oi.dst v h1] at h
  split
  · rename_i hw
    simp only [hw, if_true] at h
    unfold Oper.wpIn at *
    refine ⟨fun _ _ => trivial, ?_⟩
    have h := h.2
    rw [semAt_calm hcj, execOp_put oj hsj a oi.dst v h1] at h
    rw [semAt_calm hcj]
    generalize (execOp a.eval oj).run P w = r at *
    cases r with
    | ok x w' =>
      cases x <;> simp only [Oper.uponIn] at h ⊢
      case value u => exact ⟨keep a hy u, by rw [← Act.put_comm a v u h2]; exact h⟩
      case skip => exact ⟨keep a hy _, by rw [← Act.put_comm a v undef h2]; exact h⟩
      case defer d =>
        refine ⟨keep _ (keepD d) _, ?_⟩
        rw [← Act.put_comm _ v undef h2, ← Act.put_defers]
        exact h
      case enter f args =>
        refine ⟨h.1, CallsIn.mono h.2 fun e w'' he => ?_⟩
        cases e with
        | returned u => exact ⟨keep a hy u, by rw [← Act.put_comm a v u h2]; exact he⟩
        | panicked c => exact (hQ _ _ _ he).elim
        | outgrown => exact he
      case row row args => exact ⟨h.1, RowsIn.mono h.2 fun u w'' he => ⟨keep a hy u, by rw [← Act.put_comm a v u h2]; exact he⟩⟩
      case round l f tmps assign body =>
        refine ⟨h.1, RoundIn.mono h.2 fun e w'' he => ?_⟩
        cases e with
        | returned u => exact ⟨keep a hy u, by rw [← Act.put_comm a v u h2]; exact he⟩
        | panicked c => exact (hQ _ _ _ he).elim
        | outgrown => exact he
    | halt x w' =>
      cases x <;> simp only [Oper.uponIn] at h ⊢
      case panic u => exact (hQ _ _ _ h).elim
  · rename_i hw
    simp only [hw] at h
    exact ⟨fun _ _ => trivial, keep a hy _, by rw [← Act.put_comm a v undef h2]; exact h.2⟩

/-- The closed conditions under which operation i may be taken first: it may come up; whoever else has not come up waits for it or is apart from it; no select, no defer in the region; whoever is in M waits for it. -/
def takeOk (ops : Array Oper) (listed : Array Bool) (M : List Nat) (i : Nat) : Bool :=
  Region.noSelect ops && ops.all (fun o => calm o.op) && Region.free .any ops listed i && (Region.ready .any ops listed).contains i &&
  M.all fun m => match ops[m]? with
    | some o => o.after.any fun e => Region.binds .any e && e.on == i
    | none => true

theorem wpAnyS_take {i : Nat} {oi : Oper} {v : Value} (hi : ops[i]? = some oi) (hsel : Region.noSelect ops = true) (hcalm : ∀ (j : Nat) (o : Oper), ops[j]? = some o → calm o.op = true)
    (hQ : ∀ c a w, Q (.panic c) a w → False) (hO : ∀ a w, Q .outgrown a w → False) {S : World → Prop} {M : List Nat} (hM : ∀ m ∈ M, ∀ o, ops[m]? = some o → ∃ e ∈ o.after, Region.binds .any e = true ∧ e.on = i) :
    ∀ (fuel : Nat) (listed : Array Bool) (a : Act) (w : World),
      (∀ j oj, ops[j]? = some oj → j ≠ i → listed.getD j true = false → (∀ e ∈ oj.after, Region.binds .any e = true → e.on ≠ i) → oi.apart ops oj = true) →
      i ∈ Region.ready .any ops listed → i ∉ M → YS P ops S oi v a → S w →
      wpAnyS r P ops Q fuel S M (listed.setIfInBounds i true) (a.put oi.dst v) w → wpAnyS r P ops Q (fuel + 1) S M listed a w := by
  have hs := Region.noSelect_spec hsel
  intro fuel
  induction fuel with
  | zero =>
    intro listed a w _ hr hiM hy hS H
    refine ⟨fun h => (by rw [h] at hr; cases hr), fun j hj => ?_⟩
    by_cases hji : j = i
    · subst hji; exact hy.wpOp hi (hcalm _ _ hi) hS ⟨fun h => absurd h hiM, fun _ => ⟨hS, H⟩⟩
    · have := ready_mono hj hji
      rw [H.1] at this
      cases this
  | succ fuel ih =>
    intro listed a w hfree hr hiM hy hS H
    refine ⟨fun h => (by rw [h] at hr; cases hr), fun j hj => ?_⟩
    by_cases hji : j = i
    · subst hji; exact hy.wpOp hi (hcalm _ _ hi) hS ⟨fun h => absurd h hiM, fun _ => ⟨hS, H⟩⟩
    · have h1 := H.2 j (ready_mono hj hji)
      obtain ⟨hjun, oj, hoj, hall⟩ := mem_ready.1 hj
      have hnot : ∀ e ∈ oj.after, Region.binds .any e = true → e.on ≠ i := fun e he hb heq => by
        have h1 := hall e he hb
        have h0 := (mem_ready.1 hr).1
        rw [heq] at h1
        rcases Nat.lt_or_ge i listed.size with h' | h'
        · simp [h'] at h0 h1; rw [h0] at h1; cases h1
        · simp [Array.getElem?_eq_none h'] at h1
      have hjM : j ∉ M := fun hm => by
        obtain ⟨e, he, hb, hon⟩ := hM j hm oj hoj
        exact hnot e he hb hon
      have h2 := wpOp_putS (P := P) hoj (hfree j oj hoj hji hjun hnot) (hcalm _ _ hi) (hcalm _ _ hoj) (fun cs b => hs i oi cs b hi) (fun cs b => hs j oj cs b hoj) hQ hO hy h1
      have hfree' : ∀ k ok, ops[k]? = some ok → k ≠ i → (listed.setIfInBounds j true).getD k true = false →
          (∀ e ∈ ok.after, Region.binds .any e = true → e.on ≠ i) → oi.apart ops ok = true := fun k ok hk hki hun hno => by
        refine hfree k ok hk hki ?_ hno
        by_cases hjk : j = k
        · subst hjk; exact hjun
        · rw [getD_set_ne true hjk] at hun; exact hun
      refine wpOpIn_mono (fun a' w' h3 => ⟨fun h => absurd h hjM, fun _ => ⟨(h3.2.2 hjM).1, ih (listed.setIfInBounds j true) a' w' hfree' (ready_mono hr (Ne.symm hji)) hiM h3.1 (h3.2.2 hjM).1 ?_⟩⟩) h2
      rw [Array.setIfInBounds_comm _ _ hji]
      exact (h3.2.2 hjM).2

/-- An operation that yields in whatever world. -/
theorem wpAnyS_pure {i : Nat} {oi : Oper} {v : Value} (hi : ops[i]? = some oi) (hsel : Region.noSelect ops = true) (hcalm : ∀ (j : Nat) (o : Oper), ops[j]? = some o → calm o.op = true)
    (hQ : ∀ c a w, Q (.panic c) a w → False) (hO : ∀ a w, Q .outgrown a w → False) :
    ∀ (fuel : Nat) (S : World → Prop) (M : List Nat) (listed : Array Bool) (a : Act) (w : World),
      (∀ j oj, ops[j]? = some oj → j ≠ i → listed.getD j true = false → (∀ e ∈ oj.after, Region.binds .any e = true → e.on ≠ i) → oi.apart ops oj = true) →
      i ∈ Region.ready .any ops listed → i ∉ M → YS P ops (fun _ => True) oi v a → S w →
      wpAnyS r P ops Q fuel S M (listed.setIfInBounds i true) (a.put oi.dst v) w → wpAnyS r P ops Q (fuel + 1) S M listed a w := by
  have hs := Region.noSelect_spec hsel
  intro fuel
  induction fuel with
  | zero =>
    intro S M listed a w _ hr hiM hy hS H
    refine ⟨fun h => (by rw [h] at hr; cases hr), fun j hj => ?_⟩
    by_cases hji : j = i
    · subst hji; exact hy.wpOp hi (hcalm _ _ hi) trivial ⟨fun h => absurd h hiM, fun _ => ⟨hS, H⟩⟩
    · have := ready_mono hj hji
      rw [H.1] at this
      cases this
  | succ fuel ih =>
    intro S M listed a w hfree hr hiM hy hS H
    refine ⟨fun h => (by rw [h] at hr; cases hr), fun j hj => ?_⟩
    by_cases hji : j = i
    · subst hji; exact hy.wpOp hi (hcalm _ _ hi) trivial ⟨fun h => absurd h hiM, fun _ => ⟨hS, H⟩⟩
    · have h1 := H.2 j (ready_mono hj hji)
      obtain ⟨hjun, oj, hoj, hall⟩ := mem_ready.1 hj
      have hnot : ∀ e ∈ oj.after, Region.binds .any e = true → e.on ≠ i := fun e he hb heq => by
        have h1 := hall e he hb
        have h0 := (mem_ready.1 hr).1
        rw [heq] at h1
        rcases Nat.lt_or_ge i listed.size with h' | h'
        · simp [h'] at h0 h1; rw [h0] at h1; cases h1
        · simp [Array.getElem?_eq_none h'] at h1
      have h2 := wpOp_putS (P := P) hoj (hfree j oj hoj hji hjun hnot) (hcalm _ _ hi) (hcalm _ _ hoj) (fun cs b => hs i oi cs b hi) (fun cs b => hs j oj cs b hoj) hQ hO hy h1
      have hfree' : ∀ k ok, ops[k]? = some ok → k ≠ i → (listed.setIfInBounds j true).getD k true = false →
          (∀ e ∈ ok.after, Region.binds .any e = true → e.on ≠ i) → oi.apart ops ok = true := fun k ok hk hki hun hno => by
        refine hfree k ok hk hki ?_ hno
        by_cases hjk : j = k
        · subst hjk; exact hjun
        · rw [getD_set_ne true hjk] at hun; exact hun
      refine wpOpIn_mono (fun a' w' h3 => ⟨fun hm => ?_, fun hm => ⟨(h3.2.2 hm).1, ih S M (listed.setIfInBounds j true) a' w' hfree' (ready_mono hr (Ne.symm hji)) hiM h3.1 (h3.2.2 hm).1 ?_⟩⟩) h2
      · refine ih (fun _ => True) [] (listed.setIfInBounds j true) a' w' hfree' (ready_mono hr (Ne.symm hji)) (by simp) h3.1 trivial ?_
        rw [Array.setIfInBounds_comm _ _ hji]
        exact h3.2.1 hm
      · rw [Array.setIfInBounds_comm _ _ hji]
        exact (h3.2.2 hm).2
end low
end Go.Z
end
section
set_option linter.unusedSimpArgs false
set_option linter.unusedVariables false
/- The calculus beneath the proofs: the rules for a region whose order is drawn. No program is named here. -/
set_option linter.unusedSimpArgs false
set_option linter.unusedVariables false
namespace Go.Z
open Go Go.RowKit

variable {C : Cfg} {Q Q' : Post} {ds : List Deferred} {ρ : Env} {h : Heap} {L Ls : Own} {ops : Array Oper} {rest : List Oper} {S : World → Prop} {M : List Nat} {listed : Array Bool} {fuel : Nat}

/-- One list of blocks within another. -/
class Sb (a b : Own) : Prop where s : a.Sublist b
instance (priority := 1200) Sb.refl (a : Own) : Sb a a := ⟨List.Sublist.refl a⟩
instance (priority := 1150) Sb.nil (b : Own) : Sb [] b := ⟨List.nil_sublist b⟩
instance (priority := 1100) Sb.both {a b : Own} {x : Nat × Obj} [h : Sb a b] : Sb (x :: a) (x :: b) := ⟨List.Sublist.cons_cons x h.s⟩
instance Sb.skip {a b : Own} {x : Nat × Obj} [h : Sb a b] : Sb a (x :: b) := ⟨List.Sublist.cons x h.s⟩
instance Sb.app {a b c : Own} [h : Sb a b] : Sb a (c ++ b) := ⟨h.s.trans (List.sublist_append_right _ _)⟩
instance Sb.bothA {a b c : Own} [h : Sb a b] : Sb (c ++ a) (c ++ b) := ⟨List.Sublist.append (List.Sublist.refl c) h.s⟩

/-- The model takes any order that the edges allow. -/
class Mix (P : Program) : Prop where m : P.follows .mixedOrders = true

@[reducible] def noP (Q : Post) : Post
  | .panic _, _, _, _, _ => False
  | .outgrown, _, _, _, _ => False
  | e, ds, ρ, h, L => Q e ds ρ h L
theorem noP_panic {c : List PanicEntry} {a : Act} {w : World} (h : lift C (noP Q) (.panic c) a w) : False := by
  obtain ⟨_, _, _, _, _, _, h⟩ := h; exact h
theorem noP_out {a : Act} {w : World} (h : lift C (noP Q) .outgrown a w) : False := by
  obtain ⟨_, _, _, _, _, _, h⟩ := h; exact h
theorem noP_lift {e : Exit} {a : Act} {w : World} (h : lift C (noP Q) e a w) : lift C Q e a w := by
  obtain ⟨ds, ρ, h', L', h1, h2, h3⟩ := h
  refine ⟨ds, ρ, h', L', h1, h2, ?_⟩
  cases e <;> first | exact h3 | exact h3.elim

def JD (C : Cfg) (ops : Array Oper) (Q : Post) (S : World → Prop) (M : List Nat) (fuel : Nat) (listed : Array Bool) (ds : List Deferred) (ρ : Env) (h : Heap) (L : Own) : Prop :=
  ∀ a w, Ag C.n ds a ρ → St C.w0 C.h0 h L w → wpAnyS C.r C.P ops (lift C (noP Q)) fuel S M listed a w

/-- The beginning: M: the operations that change what is read here; Ls: the owned blocks that are read. -/
theorem J.draw {id : Nat} {l : List Oper} (Ls : Own) (M : List Nat) [hm : Mix C.P] (k : JD C l.toArray Q (SS C h Ls) M l.length (Array.replicate l.length false) ds ρ h L) :
    J C (.region id l.toArray true) Q ds ρ h L := fun a w ha hs =>
  wpIn_mono (wpIn_region_any hm.m (wpAny_of_S _ (k a _ ⟨ha.size, ha.defers, ha.get⟩ hs.drew))) fun _ _ _ => noP_lift

theorem J.drawA {id : Nat} {l : List Oper} (M : List Nat) [hm : Mix C.P] (k : JD C l.toArray Q (SS C h L) M l.length (Array.replicate l.length false) ds ρ h L) :
    J C (.region id l.toArray true) Q ds ρ h L := J.draw L M k
/-- The guard holds. -/
def WantT (ops : Array Oper) (ρ : Env) : Option (Nat × Bool) → Prop
  | none => True
  | some (j, want) => ∃ t, (ops[j]?).bind (·.dst) = some t ∧ ρ t = .bool want
theorem WantT.wanted {n : Nat} {a : Act} {o : Oper} (ha : Ag n ds a ρ) (h : WantT ops ρ o.guard) : Region.wanted o (yielded ops a.tmps) = true := by
  unfold Region.wanted
  cases hg : o.guard with
  | none => rfl
  | some p =>
    obtain ⟨j, want⟩ := p
    rw [hg] at h
    obtain ⟨t, ht, hv⟩ := h
    simp [yielded_eq ha ht hv]

theorem Array.any_eq_true_iff_exists_mem' {α : Type} {p : α → Bool} {xs : Array α} : xs.any p = true ↔ ∃ x ∈ xs, p x = true := by
  rw [← Array.any_toList, List.any_eq_true]; simp
theorem all_calm (h : ops.all (fun o => calm o.op) = true) (j : Nat) (o : Oper) (hj : ops[j]? = some o) : calm o.op = true :=
  Array.all_eq_true_iff_forall_mem.1 h o (Array.mem_of_getElem? hj)

section takes
variable {i : Nat} {d : Nat} {op : Op} {ty : TypeId} {pos : String} {after : Array Edge} {g : Option (Nat × Bool)} {v : Value}
/-- An operation that reads is taken first. -/
theorem JD.load (i : Nat) (chk : (takeOk ops listed M i && !M.contains i) = true) (ho : ops[i]? = some ⟨some d, op, ty, pos, after, g⟩) (hg : WantT ops ρ g) [sub : Sb Ls L]
    (q : Qr C ρ (SS C h Ls) op ty v) (k : JD C ops Q (SS C h Ls) M fuel (listed.setIfInBounds i true) ds (ρ.set d v) h L) (hn : Nat.blt d C.n = true := by rfl) :
    JD C ops Q (SS C h Ls) M (fuel + 1) listed ds ρ h L := fun a w ha hs => by
  simp only [takeOk, Bool.and_eq_true, Bool.not_eq_true'] at chk
  obtain ⟨⟨⟨⟨⟨c1, c2⟩, c3⟩, c4⟩, c5⟩, c6⟩ := chk
  have hSS : SS C h Ls w := ⟨h, L, Ext.refl h, fun _ hp => sub.s.subset hp, hs⟩
  refine wpAnyS_take ho c1 (all_calm c2) (fun _ _ _ => noP_panic) (fun _ _ => noP_out) (fun m hm o hmo => ?_) fuel listed a w (Region.free_spec ho c3) (by simpa using c4) (by simpa using c6) (.inl ⟨WantT.wanted ha hg, fun w' hw' => ?_⟩) hSS (k _ _ (ha.put hn v) hs)
  · have := List.all_eq_true.1 c5 m hm
    rw [hmo] at this
    obtain ⟨e, he, hx⟩ := Array.any_eq_true_iff_exists_mem'.1 this
    simp only [Bool.and_eq_true, beq_iff_eq] at hx
    exact ⟨e, he, hx.1, hx.2⟩
  · rw [ha.eval]; exact q.exec hw'
/-- An operation that only reckons is taken first. -/
theorem JD.calc (i : Nat) (chk : (takeOk ops listed [] i && !M.contains i) = true) (ho : ops[i]? = some ⟨some d, op, ty, pos, after, g⟩) (hg : WantT ops ρ g) (hS : ∀ w, St C.w0 C.h0 h L w → S w)
    (q : Qr C ρ (fun _ => True) op ty v) (k : JD C ops Q S M fuel (listed.setIfInBounds i true) ds (ρ.set d v) h L) (hn : Nat.blt d C.n = true := by rfl) :
    JD C ops Q S M (fuel + 1) listed ds ρ h L := fun a w ha hs => by
  simp only [takeOk, Bool.and_eq_true, Bool.not_eq_true'] at chk
  obtain ⟨⟨⟨⟨⟨c1, c2⟩, c3⟩, c4⟩, c5⟩, c6⟩ := chk
  exact wpAnyS_pure ho c1 (all_calm c2) (fun _ _ _ => noP_panic) (fun _ _ => noP_out) fuel S M listed a w (Region.free_spec ho c3) (by simpa using c4) (by simpa using c6)
    (.inl ⟨WantT.wanted ha hg, fun w' _ => by rw [ha.eval]; exact q.exec trivial⟩) (hS _ hs) (k _ _ (ha.put hn v) hs)
/-- An operation whose guard fails is passed over first. -/
theorem JD.pass (i : Nat) {j t : Nat} {want : Bool} (chk : (takeOk ops listed [] i && !M.contains i) = true) (ho : ops[i]? = some ⟨some d, op, ty, pos, after, some (j, want)⟩)
    (hj : (ops[j]?).bind (·.dst) = some t) (hb : ρ t = .bool (!want)) (hS : ∀ w, St C.w0 C.h0 h L w → S w)
    (k : JD C ops Q S M fuel (listed.setIfInBounds i true) ds (ρ.set d undef) h L) (hn : Nat.blt d C.n = true := by rfl) :
    JD C ops Q S M (fuel + 1) listed ds ρ h L := fun a w ha hs => by
  simp only [takeOk, Bool.and_eq_true, Bool.not_eq_true'] at chk
  obtain ⟨⟨⟨⟨⟨c1, c2⟩, c3⟩, c4⟩, c5⟩, c6⟩ := chk
  refine wpAnyS_pure ho c1 (all_calm c2) (fun _ _ _ => noP_panic) (fun _ _ => noP_out) fuel S M listed a w (Region.free_spec ho c3) (by simpa using c4) (by simpa using c6)
    (.inr ⟨?_, rfl⟩) (hS _ hs) (k _ _ (ha.put hn undef) hs)
  simp only [Region.wanted]; rw [yielded_eq ha hj hb]; cases want <;> rfl
theorem ss_top : ∀ w, St C.w0 C.h0 h L w → (fun _ : World => True) w := fun _ _ => trivial
theorem ss_sub [sub : Sb Ls L] : ∀ w, St C.w0 C.h0 h L w → SS C h Ls w := fun w hs => ⟨h, L, Ext.refl h, fun _ hp => sub.s.subset hp, hs⟩
end takes

/-- Operation i comes up now. -/
def JX (C : Cfg) (ops : Array Oper) (Q : Post) (S : World → Prop) (M : List Nat) (fuel : Nat) (listed : Array Bool) (ds : List Deferred) (ρ : Env) (h : Heap) (L : Own) (i : Nat) : Prop :=
  ∀ a w, Ag C.n ds a ρ → St C.w0 C.h0 h L w → wpOpIn (fen C.r) 0 C.P ops (lift C (noP Q)) i (fun a' w' =>
      (i ∈ M → wpAnyS C.r C.P ops (lift C (noP Q)) fuel (fun _ => True) [] (listed.setIfInBounds i true) a' w') ∧
      (i ∉ M → S w' ∧ wpAnyS C.r C.P ops (lift C (noP Q)) fuel S M (listed.setIfInBounds i true) a' w')) a w

theorem wpOp_of_JL {i : Nat} {o : Oper} {K : List Deferred → Env → Heap → Own → Prop} {K2 : Act → World → Prop} {Q2 : Exit → Act → World → Prop} (ho : ops[i]? = some o) (hg : WantT ops ρ o.guard)
    (k : JL C ops (fun e ds' ρ' h' L' => e = .normal ∧ K ds' ρ' h' L') [{ o with guard := none }] ds ρ h L) {a : Act} {w : World} (ha : Ag C.n ds a ρ) (hs : St C.w0 C.h0 h L w)
    (hK : ∀ a w ds ρ h L, Ag C.n ds a ρ → St C.w0 C.h0 h L w → K ds ρ h L → K2 a w) : wpOpIn (fen C.r) 0 C.P ops Q2 i K2 a w := by
  have hk := k a w ha hs
  have hw0 : Region.wanted { o with guard := none } (yielded ops a.tmps) = true := rfl
  simp only [wpL] at hk
  rw [if_pos hw0] at hk
  unfold wpOpIn
  simp only [ho]
  rw [if_pos (WantT.wanted ha hg)]
  refine ⟨fun _ _ => trivial, ?_⟩
  have h2 := hk.2
  have hsem : (o.semAt (fen C.r).round a.eval) = (({ o with guard := none } : Oper).semAt (fen C.r).round a.eval) := rfl
  rw [hsem]
  generalize (({ o with guard := none } : Oper).semAt (fen C.r).round a.eval).run C.P w = res at h2 ⊢
  have conv : ∀ a w, lift C (fun e ds' ρ' h' L' => e = .normal ∧ K ds' ρ' h' L') .normal a w → K2 a w := fun a w ⟨ds, ρ, h, L, x, y, _, z⟩ => hK a w ds ρ h L x y z
  have nop : ∀ e a w, e ≠ Exit.normal → lift C (fun e ds' ρ' h' L' => e = .normal ∧ K ds' ρ' h' L') e a w → False := fun e a w hne ⟨_, _, _, _, _, _, x, _⟩ => hne x
  cases res with
  | ok nx w' =>
    cases nx <;> simp only [Oper.uponIn] at h2 ⊢
    case value v => exact conv _ _ h2
    case skip => exact conv _ _ h2
    case defer dd => exact conv _ _ h2
    case enter f args => exact ⟨h2.1, CallsIn.mono h2.2 fun e w'' he => by cases e <;> first | exact conv _ _ he | exact (nop _ _ _ (by simp) he).elim | (obtain ⟨_, _, he⟩ := he; exact (nop _ _ _ (by simp) he).elim)⟩
    case row row args => exact ⟨h2.1, RowsIn.mono h2.2 fun v w'' he => conv _ _ he⟩
    case round l f tmps assign body => exact ⟨h2.1, RoundIn.mono h2.2 fun e w'' he => by cases e <;> first | exact conv _ _ he | exact (nop _ _ _ (by simp) he).elim | (obtain ⟨_, _, he⟩ := he; exact (nop _ _ _ (by simp) he).elim)⟩
  | halt x w' =>
    cases x <;> simp only [Oper.uponIn] at h2 ⊢
    case panic u => exact (nop _ _ _ (by simp) h2).elim

theorem JX.eff {i : Nat} {o : Oper} (ho : ops[i]? = some o) (hM : M.contains i = false) (hg : WantT ops ρ o.guard)
    (k : JL C ops (fun e ds' ρ' h' L' => e = .normal ∧ Ext h h' ∧ Sb Ls L' ∧ JD C ops Q (SS C h' Ls) M fuel (listed.setIfInBounds i true) ds' ρ' h' L') [{ o with guard := none }] ds ρ h L) :
    JX C ops Q (SS C h Ls) M fuel listed ds ρ h L i := fun a w ha hs =>
  wpOp_of_JL ho hg k ha hs fun a w ds' ρ' h' L' x y ⟨e, sub, kd⟩ => by
    have hmono : ∀ w, SS C h' Ls w → SS C h Ls w := fun w ⟨h2, L2, e2, s2, st⟩ => ⟨h2, L2, ⟨fun b o hb => e2.le b o (e.le b o hb)⟩, s2, st⟩
    exact ⟨fun hm => absurd (by simpa using hm) (by simpa using hM), fun _ => ⟨hmono _ ⟨h', L', Ext.refl h', fun _ hp => sub.s.subset hp, y⟩, (kd a w x y).mono _ hmono⟩⟩
theorem JX.mut {i : Nat} {o : Oper} (ho : ops[i]? = some o) (hM : M.contains i = true) (hg : WantT ops ρ o.guard)
    (k : JL C ops (fun e ds' ρ' h' L' => e = .normal ∧ JD C ops Q (fun _ => True) [] fuel (listed.setIfInBounds i true) ds' ρ' h' L') [{ o with guard := none }] ds ρ h L) :
    JX C ops Q S M fuel listed ds ρ h L i := fun a w ha hs =>
  wpOp_of_JL ho hg k ha hs fun a w ds' ρ' h' L' x y kd => And.intro (fun _ => kd a w x y) (fun hm => absurd (by simpa using hM) hm)
/-- Behind a change nothing more is read: whatever is left may come up. -/
theorem JX.free {i : Nat} {o : Oper} (ho : ops[i]? = some o) (hg : WantT ops ρ o.guard)
    (k : JL C ops (fun e ds' ρ' h' L' => e = .normal ∧ JD C ops Q (fun _ => True) [] fuel (listed.setIfInBounds i true) ds' ρ' h' L') [{ o with guard := none }] ds ρ h L) :
    JX C ops Q (fun _ => True) [] fuel listed ds ρ h L i := fun a w ha hs =>
  wpOp_of_JL ho hg k ha hs fun a w ds' ρ' h' L' x y kd => And.intro (fun hm => (by cases hm)) (fun _ => And.intro trivial (kd a w x y))

/-- Whichever of rs comes up. -/
def AllX (f : Nat → Prop) : List Nat → Prop
  | [] => True
  | i :: rs => f i ∧ AllX f rs
theorem JD.all (rs : List Nat) (hr : Region.ready .any ops listed = rs) (hne : rs.isEmpty = false) (k : AllX (JX C ops Q S M fuel listed ds ρ h L) rs) : JD C ops Q S M (fuel + 1) listed ds ρ h L := fun a w ha hs => by
  refine ⟨fun h0 => ?_, fun i hi => ?_⟩
  · rw [hr] at h0; subst h0; cases hne
  · rw [hr] at hi
    have : ∀ rs : List Nat, AllX (JX C ops Q S M fuel listed ds ρ h L) rs → ∀ i ∈ rs, JX C ops Q S M fuel listed ds ρ h L i := fun rs => by
      induction rs with
      | nil => intro _ i hi; cases hi
      | cons x rs ih =>
        intro k i hi
        rcases List.mem_cons.1 hi with rfl | hi
        · exact k.1
        · exact ih k.2 i hi
    exact this rs k i hi a w ha hs
theorem JD.one (i : Nat) (hr : Region.ready .any ops listed = [i]) (k : JX C ops Q S M fuel listed ds ρ h L i) : JD C ops Q S M (fuel + 1) listed ds ρ h L := JD.all [i] hr rfl ⟨k, trivial⟩
theorem JD.done (hr : Region.ready .any ops listed = []) (k : Q .normal ds ρ h L) : ∀ fuel, JD C ops Q S M fuel listed ds ρ h L
  | 0 => fun a w ha hs => ⟨hr, ds, ρ, h, L, ha, hs, k⟩
  | _ + 1 => fun a w ha hs => ⟨fun _ => ⟨ds, ρ, h, L, ha, hs, k⟩, by rw [hr]; simp⟩
theorem JD.weak {S' : World → Prop} (hS : ∀ w, S' w → S w) (k : JD C ops Q S' M fuel listed ds ρ h L) : JD C ops Q S M fuel listed ds ρ h L := fun a w ha hs => (k a w ha hs).mono _ hS
end Go.Z
end
section
set_option linter.unusedSimpArgs false
set_option linter.unusedVariables false
/- The calculus beneath the proofs: freezing of owned blocks, operations on bits. No program is named here. -/
set_option linter.unusedSimpArgs false
set_option linter.unusedVariables false
namespace Go.Z
open Go Go.RowKit

variable {C : Cfg} {Q Q' : Post} {ds : List Deferred} {ρ : Env} {h : Heap} {L : Own} {ops : Array Oper} {rest : List Oper}
variable {d : Nat} {ty : TypeId} {pos : String} {after : Array Edge} {S : World → Prop}

instance (priority := 900) AtS.one {p : Nat × Obj} {L2 : Own} : AtS (p :: L2) [p] (fun x => x ++ L2) := ⟨[], L2, rfl, fun _ => rfl⟩

theorem AtS.perm {L Lb : Own} {f : Own → Own} (a : AtS L Lb f) : L.Perm (Lb ++ f []) := by
  obtain ⟨L1, L2, h1, h2⟩ := a.e
  rw [h1, h2]
  simp only [List.nil_append]
  rw [← List.append_assoc, ← List.append_assoc]
  exact List.Perm.append_right _ List.perm_append_comm

theorem JL.fz1 {b : Nat} {o : Obj} (k : ∀ h', Step h h' → h' b = some o → JL C ops Q rest ds ρ h' L) : JL C ops Q rest ds ρ h ((b, o) :: L) :=
  fun a w ha hs => k _ hs.freeze.2 (by simp) a w ha hs.freeze.1
/-- A block of one's own is written no more. -/
theorem JL.fz {f : Own → Own} (b : Nat) {o : Obj} {g : Obj → Own} [q0 : At L b o g] [a : AtS L [(b, o)] f] (k : ∀ h', Step h h' → h' b = some o → JL C ops Q rest ds ρ h' (f [])) : JL C ops Q rest ds ρ h L :=
  JL.perm a.perm (JL.fz1 k)
theorem J.fz {c : Code} {f : Own → Own} (b : Nat) {o : Obj} {g : Obj → Own} [q0 : At L b o g] [a : AtS L [(b, o)] f] (k : ∀ h', Step h h' → h' b = some o → J C c Q ds ρ h' (f [])) : J C c Q ds ρ h L :=
  J.perm a.perm (J.freeze k)
/-- A slice of one's own is written no more. -/
theorem OwnS.split {T : TypeId} {sz n : Nat} {v : Value} {xs : List Value} {Lb : Own} (o : OwnS T sz v n xs Lb) :
    (Lb = [] ∧ ∀ h, SlAt h v n sz xs) ∨ ∃ b ob, Lb = [(b, ob)] ∧ ∀ h : Heap, h b = some ob → SlAt h v n sz xs := by
  obtain ⟨h1, h2⟩ := o
  rcases h2 with ⟨p, rfl, hp, rfl, rfl⟩ | ⟨b, c, sp, rfl, rfl, h3, h4⟩
  · obtain rfl : xs = [] := List.eq_nil_of_length_eq_zero (by simpa using h1)
    exact .inl ⟨rfl, fun h => ⟨p, 0, rfl, Nat.le_refl _, by simp, .inl ⟨rfl, fun _ _ => trivial⟩⟩⟩
  · refine .inr ⟨b, _, rfl, fun h hb => ⟨_, c, rfl, h3, h1, .inr ⟨b, 0, rfl, _, T, _, hb, ?_⟩⟩⟩
    exact LookN.of_get (vs := xs) (o := 0) fun j u hj => by simpa [List.getElem?_append_left (List.getElem?_eq_some_iff.1 hj).1] using hj
theorem AtS.emp {L : Own} {f : Own → Own} (a : AtS L [] f) : L = f [] := by
  obtain ⟨L1, L2, h1, h2⟩ := a.e
  rw [h1, h2]
theorem JL.fzS {T : TypeId} {sz n : Nat} {v : Value} {xs : List Value} {Lb : Own} {f : Own → Own} (o : OwnS T sz v n xs Lb) [a : AtS L Lb f]
    (k : ∀ h', Step h h' → SlAt h' v n sz xs → JL C ops Q rest ds ρ h' (f [])) : JL C ops Q rest ds ρ h L := by
  rcases o.split with ⟨rfl, hs⟩ | ⟨b, ob, rfl, hs⟩
  · rw [a.emp]; exact k h ⟨fun _ _ x => x⟩ (hs h)
  · exact JL.perm a.perm (JL.fz1 fun h' st hb => k h' st (hs h' hb))
theorem J.fzS {c : Code} {T : TypeId} {sz n : Nat} {v : Value} {xs : List Value} {Lb : Own} {f : Own → Own} (o : OwnS T sz v n xs Lb) [a : AtS L Lb f]
    (k : ∀ h', Step h h' → SlAt h' v n sz xs → J C c Q ds ρ h' (f [])) : J C c Q ds ρ h L := by
  rcases o.split with ⟨rfl, hs⟩ | ⟨b, ob, rfl, hs⟩
  · rw [a.emp]; exact k h ⟨fun _ _ x => x⟩ (hs h)
  · exact J.perm a.perm (J.freeze fun h' st hb => k h' st (hs h' hb))
theorem OwnS.out {T : TypeId} {sz n : Nat} {v : Value} {xs : List Value} {Lb : Own} (o : OwnS T sz v n xs Lb) : ∃ p c, v = .slice p n c := by
  rcases o.2 with ⟨p, rfl, _, rfl, rfl⟩ | ⟨b, c, sp, rfl, rfl, _, _⟩
  · exact ⟨_, _, rfl⟩
  · exact ⟨_, _, rfl⟩
theorem SlAt.out {h : Heap} {n sz : Nat} {v : Value} {xs : List Value} (o : SlAt h v n sz xs) : ∃ p c, v = .slice p n c := by
  obtain ⟨p, c, rfl, _⟩ := o; exact ⟨p, c, rfl⟩

/-! ### Bits -/
section bits
variable {x y : Operand} {T T' : TypeId} {a b : Nat} {c : Int}
theorem ofNat32 {a : Nat} (ha : a < 4294967296) : (BitVec.ofNat 32 a).toNat = a := by
  rw [BitVec.toNat_ofNat]; exact Nat.mod_eq_of_lt ha
theorem ofInt32 {a : Nat} (ha : a < 4294967296) : (BitVec.ofInt 32 (a : Int)).toNat = a := by
  rw [BitVec.ofInt_natCast, BitVec.toNat_ofNat]; exact Nat.mod_eq_of_lt ha
theorem q_xor32 (hx : ρ.ev x = .int .u32 (a : Int)) (hy : ρ.ev y = .int .u32 (b : Int)) (ha : a < 4294967296) (hb : b < 4294967296) : Qr C ρ S (.binOp .xor T x y T') ty (.int .u32 ((a ^^^ b : Nat) : Int)) := ⟨rfl, fun w _ => by
  have h1 := ofInt32 ha
  have h2 := ofInt32 hb
  have h3 : a ^^^ b < 2 ^ 32 := Nat.xor_lt_two_pow ha hb
  have hw : IntKind.u32.wrap ((a ^^^ b : Nat) : Int) = ((a ^^^ b : Nat) : Int) := wu32 (by omega)
  simp [execOp, eqGuard, binOp, Op.intBits, hx, hy, IntKind.bits, h1, h2, hw, Sem.run, bind, Sem.bind, pure]
  exact (congrArg (fun n : Nat => IntKind.u32.wrap (n : Int)) (show (BitVec.ofNat 32 a ^^^ BitVec.ofNat 32 b).toNat = a ^^^ b by rw [BitVec.toNat_xor, ofNat32 ha, ofNat32 hb])).trans hw⟩
theorem q_and32 (hx : ρ.ev x = .int .u32 (a : Int)) (hy : ρ.ev y = .int .u32 (b : Int)) (ha : a < 4294967296) (hb : b < 4294967296) : Qr C ρ S (.binOp .and T x y T') ty (.int .u32 ((a &&& b : Nat) : Int)) := ⟨rfl, fun w _ => by
  have h1 := ofInt32 ha
  have h2 := ofInt32 hb
  have h3 : a &&& b < 2 ^ 32 := Nat.and_lt_two_pow a hb
  have hw : IntKind.u32.wrap ((a &&& b : Nat) : Int) = ((a &&& b : Nat) : Int) := wu32 (by omega)
  simp [execOp, eqGuard, binOp, Op.intBits, hx, hy, IntKind.bits, h1, h2, hw, Sem.run, bind, Sem.bind, pure]
  exact (congrArg (fun n : Nat => IntKind.u32.wrap (n : Int)) (show (BitVec.ofNat 32 a &&& BitVec.ofNat 32 b).toNat = a &&& b by rw [BitVec.toNat_and, ofNat32 ha, ofNat32 hb])).trans hw⟩
theorem q_or32 (hx : ρ.ev x = .int .u32 (a : Int)) (hy : ρ.ev y = .int .u32 (b : Int)) (ha : a < 4294967296) (hb : b < 4294967296) : Qr C ρ S (.binOp .or T x y T') ty (.int .u32 ((a ||| b : Nat) : Int)) := ⟨rfl, fun w _ => by
  have h1 := ofInt32 ha
  have h2 := ofInt32 hb
  have h3 : a ||| b < 2 ^ 32 := Nat.or_lt_two_pow ha hb
  have hw : IntKind.u32.wrap ((a ||| b : Nat) : Int) = ((a ||| b : Nat) : Int) := wu32 (by omega)
  simp [execOp, eqGuard, binOp, Op.intBits, hx, hy, IntKind.bits, h1, h2, hw, Sem.run, bind, Sem.bind, pure]
  exact (congrArg (fun n : Nat => IntKind.u32.wrap (n : Int)) (show (BitVec.ofNat 32 a ||| BitVec.ofNat 32 b).toNat = a ||| b by rw [BitVec.toNat_or, ofNat32 ha, ofNat32 hb])).trans hw⟩
theorem q_com32 (hx : ρ.ev x = .int .u32 (a : Int)) (ha : a < 4294967296) : Qr C ρ S (.unOp .xor T x) ty (.int .u32 ((4294967295 ^^^ a : Nat) : Int)) := ⟨rfl, fun w _ => by
  have h1 := ofInt32 ha
  have h2 : (BitVec.ofInt 32 4294967295).toNat = 4294967295 := by decide
  have h3 : 4294967295 ^^^ a < 2 ^ 32 := Nat.xor_lt_two_pow (by decide) ha
  have hw : IntKind.u32.wrap ((4294967295 ^^^ a : Nat) : Int) = ((4294967295 ^^^ a : Nat) : Int) := wu32 (by omega)
  have hm : IntKind.u32.max = 4294967295 := by decide
  simp [execOp, Op.unary, Op.intBits, hx, IntKind.bits, IntKind.signed, hm, BitVec.toNat_xor, h1, h2, hw, Sem.run, bind, Sem.bind, pure]
  exact (congrArg (fun n : Nat => IntKind.u32.wrap (n : Int)) (show (4294967295#32 ^^^ BitVec.ofNat 32 a).toNat = 4294967295 ^^^ a by rw [BitVec.toNat_xor, ofNat32 ha]; rfl)).trans hw⟩
end bits
/-! ### A guard that was itself passed over -/
theorem yielded_none {n : Nat} {a : Act} (ha : Ag n ds a ρ) {j t : Nat} (hj : (ops[j]?).bind (·.dst) = some t) (hb : ρ t = undef) : yielded ops a.tmps j = none := by
  have hg := ha.get t
  rw [hb] at hg
  simp only [yielded, hj, Option.bind_some]
  rcases Nat.lt_or_ge t a.tmps.size with h | h
  · simp [h] at hg; simp [h, hg, undef]
  · simp [h]
theorem JL.guardU {op : Op} {j t d : Nat} {want : Bool} (hj : (ops[j]?).bind (·.dst) = some t) (hb : ρ t = undef) (hn : Nat.blt d C.n = true)
    (k : JL C ops Q rest ds (ρ.set d undef) h L) : JL C ops Q (⟨some d, op, ty, pos, after, some (j, want)⟩ :: rest) ds ρ h L := fun a w ha hs => by
  have hw1 : ¬ Region.wanted ⟨some d, op, ty, pos, after, some (j, want)⟩ (yielded ops a.tmps) = true := by
    simp only [Region.wanted]; rw [yielded_none ha hj hb]; simp
  simp only [wpL]
  rw [if_neg hw1]
  exact k _ _ (ha.put hn undef) hs
theorem JD.passU {M : List Nat} {listed : Array Bool} {fuel : Nat} {op : Op} (i : Nat) {j t : Nat} {want : Bool} (chk : (takeOk ops listed [] i && !M.contains i) = true) (ho : ops[i]? = some ⟨some d, op, ty, pos, after, some (j, want)⟩)
    (hj : (ops[j]?).bind (·.dst) = some t) (hb : ρ t = undef) (hS : ∀ w, St C.w0 C.h0 h L w → S w)
    (k : JD C ops Q S M fuel (listed.setIfInBounds i true) ds (ρ.set d undef) h L) (hn : Nat.blt d C.n = true := by rfl) :
    JD C ops Q S M (fuel + 1) listed ds ρ h L := fun a w ha hs => by
  simp only [takeOk, Bool.and_eq_true, Bool.not_eq_true'] at chk
  obtain ⟨⟨⟨⟨⟨c1, c2⟩, c3⟩, c4⟩, c5⟩, c6⟩ := chk
  refine wpAnyS_pure ho c1 (all_calm c2) (fun _ _ _ => noP_panic) (fun _ _ => noP_out) fuel S M listed a w (Region.free_spec ho c3) (by simpa using c4) (by simpa using c6)
    (.inr ⟨?_, rfl⟩) (hS _ hs) (k _ _ (ha.put hn undef) hs)
  simp only [Region.wanted]; rw [yielded_none ha hj hb]; rfl
/-! ### Values said in their form, so that environments stay small -/
theorem q_mvv {x : Operand} {v : Value} (hv : ρ.ev x = v) : Qr C ρ S (.move x) ty v := ⟨rfl, fun _ _ => by subst hv; rfl⟩
theorem q_asv {x : Operand} {v : Value} (hv : ρ.ev x = v) : Qr C ρ S (.assign x) ty v := ⟨rfl, fun _ _ => by subst hv; rfl⟩
theorem q_pickTv {c x y : Operand} {b : Bool} {v : Value} (hc : ρ.ev c = .bool b) (hb : b = true) (hv : ρ.ev x = v) : Qr C ρ S (.pick c x y) ty v := by subst hv; exact q_pickT hc hb
theorem q_pickFv {c x y : Operand} {b : Bool} {v : Value} (hc : ρ.ev c = .bool b) (hb : b = false) (hv : ρ.ev y = v) : Qr C ρ S (.pick c x y) ty v := by subst hv; exact q_pickF hc hb
theorem keep_of {ρ : Env} : ∀ {kv : List (Nat × Value)}, Has ρ kv → keepOf ρ (kv.map (·.1)) = kv
  | [], _ => rfl
  | (t, v) :: l, ⟨e, hl⟩ => by simp only [List.map_cons, keepOf, keep_of hl, e]
theorem J.loopK {α : Type} {c : Code} (I : α → Heap → Own → Prop) (kv : List (Nat × Value)) (hk : Has ρ kv) (sl : α → List (Nat × Value)) (μ : α → Nat) (x0 : α)
    (h0 : I x0 h L) (hs : Has ρ (sl x0))
    (round : ∀ x σ h' L', Step h h' → I x h' L' →
      J C c (thenQ (fun ds' ρ' h'' L'' => ∃ x', ds' = ds ∧ Has ρ' kv ∧ Has ρ' (sl x') ∧ I x' h'' L'' ∧ μ x' < μ x ∧ Ext h h'') Q) ds
        (setAll (setAll σ kv) (sl x)) h' L') : J C (.loop c) Q ds ρ h L := by
  have := J.loop (C := C) (Q := Q) (ds := ds) (ρ := ρ) (c := c) I (kv.map (·.1)) sl μ x0 h0 hs
  rw [keep_of hk] at this
  exact this round
theorem J.cutK {α : Type} {x y : Code} (I : α → Heap → Own → Prop) (kv : List (Nat × Value)) (hk : Has ρ kv) (sl : α → List (Nat × Value))
    (hx : J C x (thenQ (fun ds' ρ' h' L' => ∃ z, ds' = ds ∧ Has ρ' kv ∧ Has ρ' (sl z) ∧ I z h' L' ∧ Ext h h') Q) ds ρ h L)
    (hy : ∀ z σ h' L', Step h h' → I z h' L' → J C y Q ds (setAll (setAll σ kv) (sl z)) h' L') : J C (.seq x y) Q ds ρ h L := by
  have := J.cutS (C := C) (Q := Q) (ds := ds) (ρ := ρ) (x := x) (y := y) (h := h) (L := L) I (kv.map (·.1)) sl
  rw [keep_of hk] at this
  exact this hx hy
end Go.Z
end
section
set_option linter.unusedSimpArgs false
set_option linter.unusedVariables false
/- Plain arithmetic on lists of limbs to the base 2^32: value, trimming, the limbs of a number. No program is named here. -/
set_option linter.unusedSimpArgs false
set_option linter.unusedVariables false
namespace Go.Z

abbrev Bs : Nat := 4294967296
def val : List Nat → Nat
  | [] => 0
  | x :: l => x + Bs * val l
def Bd (l : List Nat) : Prop := ∀ x ∈ l, x < Bs
def limbs (n : Nat) : List Nat := if h : n = 0 then [] else n % Bs :: limbs (n / Bs)
termination_by n
decreasing_by exact Nat.div_lt_self (Nat.pos_of_ne_zero h) (by decide)
def trim : List Nat → List Nat
  | [] => []
  | x :: l => match trim l with
    | [] => if x = 0 then [] else [x]
    | y :: r => x :: y :: r

theorem limbs_zero : limbs 0 = [] := by rw [limbs]; simp
theorem limbs_pos {n : Nat} (h : n ≠ 0) : limbs n = n % Bs :: limbs (n / Bs) := by rw [limbs]; simp [h]
theorem val_limbs (n : Nat) : val (limbs n) = n := by
  induction n using Nat.strongRecOn with
  | _ n ih =>
    by_cases h : n = 0
    · subst h; rw [limbs_zero]; rfl
    · rw [limbs_pos h, val, ih _ (Nat.div_lt_self (Nat.pos_of_ne_zero h) (by decide))]
      exact Nat.mod_add_div n Bs
theorem bd_limbs (n : Nat) : Bd (limbs n) := by
  induction n using Nat.strongRecOn with
  | _ n ih =>
    by_cases h : n = 0
    · subst h; rw [limbs_zero]; intro x hx; cases hx
    · rw [limbs_pos h]
      intro x hx
      rcases List.mem_cons.1 hx with rfl | hx
      · exact Nat.mod_lt _ (by decide)
      · exact ih _ (Nat.div_lt_self (Nat.pos_of_ne_zero h) (by decide)) x hx
theorem Bd.tail {x : Nat} {l : List Nat} (h : Bd (x :: l)) : Bd l := fun y hy => h y (List.mem_cons_of_mem _ hy)
theorem Bd.head {x : Nat} {l : List Nat} (h : Bd (x :: l)) : x < Bs := h x (List.mem_cons_self ..)
theorem val_lt {l : List Nat} (h : Bd l) : val l < Bs ^ l.length := by
  induction l with
  | nil => simp [val]
  | cons x l ih =>
    have h1 := h.head
    have h2 := ih h.tail
    simp only [val, List.length_cons, Nat.pow_succ]
    have : Bs * val l + Bs ≤ Bs * Bs ^ l.length := by
      rw [← Nat.mul_succ]; exact Nat.mul_le_mul_left _ h2
    rw [Nat.mul_comm (Bs ^ l.length)]; omega
theorem trim_nil_iff {l : List Nat} (hb : Bd l) : trim l = [] ↔ val l = 0 := by
  induction l with
  | nil => simp [trim, val]
  | cons x l ih =>
    have ih := ih hb.tail
    simp only [trim, val]
    cases e : trim l with
    | nil =>
      have hv := ih.1 e
      by_cases hx : x = 0 <;> simp [hx, hv]
    | cons y r =>
      simp only [reduceCtorEq, false_iff]
      have : val l ≠ 0 := fun h => by rw [ih.2 h] at e; cases e
      have : 0 < Bs * val l := Nat.mul_pos (by decide) (Nat.pos_of_ne_zero this)
      omega
theorem trim_eq {l : List Nat} (hb : Bd l) : trim l = limbs (val l) := by
  induction l with
  | nil => rw [val, limbs_zero]; rfl
  | cons x l ih =>
    have ih := ih hb.tail
    have hx := hb.head
    have hd : (x + Bs * val l) / Bs = val l := by rw [Nat.add_mul_div_left _ _ (by decide), Nat.div_eq_of_lt hx, Nat.zero_add]
    have hm : (x + Bs * val l) % Bs = x := by rw [Nat.add_mul_mod_self_left, Nat.mod_eq_of_lt hx]
    simp only [trim, val]
    cases e : trim l with
    | nil =>
      have hv := (trim_nil_iff hb.tail).1 e
      by_cases h0 : x = 0
      · simp [h0, hv, limbs_zero]
      · have : x + Bs * val l ≠ 0 := by omega
        rw [limbs_pos this, hd, hm, hv, limbs_zero]; simp [h0]
    | cons y r =>
      have hv : val l ≠ 0 := fun h => by rw [(trim_nil_iff hb.tail).2 h] at e; cases e
      have : x + Bs * val l ≠ 0 := by
        have : 0 < Bs * val l := Nat.mul_pos (by decide) (Nat.pos_of_ne_zero hv)
        omega
      rw [limbs_pos this, hd, hm, ← ih, e]
theorem trim_limbs (n : Nat) : trim (limbs n) = limbs n := by rw [trim_eq (bd_limbs n), val_limbs]
/-- Zeros from m on, and none before: the trimmed list. -/
theorem take_trim : ∀ {l : List Nat} {m : Nat}, m ≤ l.length → (∀ j x, m ≤ j → l[j]? = some x → x = 0) → (∀ x, 0 < m → l[m - 1]? = some x → x ≠ 0) → l.take m = trim l
  | [], m, hm, _, _ => by simp at hm; subst hm; rfl
  | x :: l, 0, _, hz, _ => by
    have ih := take_trim (l := l) (m := 0) (Nat.zero_le _) (fun j y _ hj => hz (j + 1) y (Nat.zero_le _) (by simpa using hj)) (fun _ h => absurd h (Nat.lt_irrefl _))
    simp only [List.take_zero] at ih ⊢
    have := hz 0 x (Nat.le_refl _) (by simp)
    simp [trim, ← ih, this]
  | x :: l, m + 1, hm, hz, hl => by
    have ih := take_trim (l := l) (m := m) (by simpa using hm) (fun j y hj hy => hz (j + 1) y (by omega) (by simpa using hy)) (fun y hm0 hy => hl y (by omega) (by
      obtain ⟨k, rfl⟩ : ∃ k, m = k + 1 := ⟨m - 1, by omega⟩
      simpa using hy))
    simp only [List.take_succ_cons, trim, ← ih]
    cases e : l.take m with
    | nil =>
      have hx : x ≠ 0 := by
        have hl0 : m = 0 := by
          cases m with
          | zero => rfl
          | succ k => cases l with
            | nil => simp at hm
            | cons a b => simp at e
        subst hl0
        exact hl x (by omega) (by simp)
      simp [hx]
    | cons y r => rfl
theorem val_append (l m : List Nat) : val (l ++ m) = val l + Bs ^ l.length * val m := by
  induction l with
  | nil => simp [val]
  | cons x l ih =>
    simp only [List.cons_append, val, ih, List.length_cons, Nat.pow_succ]
    rw [Nat.mul_add, Nat.mul_comm (Bs ^ l.length) Bs, Nat.mul_assoc]; omega
theorem val_take_trim {l : List Nat} (hb : Bd l) : val (trim l) = val l := by rw [trim_eq hb, val_limbs]
theorem Bd.take {l : List Nat} (h : Bd l) (k : Nat) : Bd (l.take k) := fun x hx => h x (List.mem_of_mem_take hx)
theorem Bd.get {l : List Nat} (h : Bd l) {j x : Nat} (hj : l[j]? = some x) : x < Bs := h x (List.mem_of_getElem? hj)
theorem limbs_len_pos {n : Nat} (h : n ≠ 0) : 0 < (limbs n).length := by rw [limbs_pos h]; simp
theorem limbs_nil_iff {n : Nat} : limbs n = [] ↔ n = 0 := by
  constructor
  · intro h
    by_cases e : n = 0
    · exact e
    · rw [limbs_pos e] at h; cases h
  · intro h; rw [h]; exact limbs_zero
end Go.Z
end
section
set_option linter.unusedSimpArgs false
set_option linter.unusedVariables false
/- Plain arithmetic on lists of limbs: sums, differences, products and comparisons, limb by limb. No program is named here. -/
set_option linter.unusedSimpArgs false
set_option linter.unusedVariables false
namespace Go.Z

theorem getD_some {l : List Nat} {i x : Nat} (h : l[i]? = some x) : l.getD i 0 = x := by simp [h]
theorem getD_none {l : List Nat} {i : Nat} (h : l.length ≤ i) : l.getD i 0 = 0 := by simp [h]
theorem val_snoc (xs : List Nat) (d : Nat) : val (xs ++ [d]) = val xs + Bs ^ xs.length * d := by rw [val_append]; simp [val]
theorem val_take_succ (l : List Nat) (i : Nat) : val (l.take (i + 1)) = val (l.take i) + Bs ^ i * l.getD i 0 := by
  rcases Nat.lt_or_ge i l.length with h | h
  · have hx : l[i]? = some l[i] := by simp [h]
    rw [List.take_add_one, hx, getD_some hx]
    simp only [Option.toList]
    rw [val_snoc, List.length_take, Nat.min_eq_left (Nat.le_of_lt h)]
  · rw [List.take_of_length_le (by omega), List.take_of_length_le h, getD_none h]; simp
theorem val_set {l : List Nat} {j old : Nat} (d : Nat) : l[j]? = some old → val (l.set j d) + Bs ^ j * old = val l + Bs ^ j * d := by
  induction l generalizing j with
  | nil => intro h; simp at h
  | cons x l ih =>
    cases j with
    | zero => intro h; simp at h; subst h; simp [val]; omega
    | succ j =>
      intro h
      have := ih (j := j) (by simpa using h)
      simp only [List.set_cons_succ, val, Nat.pow_succ]
      have e1 : Bs ^ j * Bs * old = Bs * (Bs ^ j * old) := by rw [Nat.mul_comm (Bs ^ j) Bs, Nat.mul_assoc]
      have e2 : Bs ^ j * Bs * d = Bs * (Bs ^ j * d) := by rw [Nat.mul_comm (Bs ^ j) Bs, Nat.mul_assoc]
      rw [e1, e2, Nat.add_assoc, ← Nat.mul_add, this, Nat.mul_add, Nat.add_assoc]
theorem Bd.set {l : List Nat} (h : Bd l) {j d : Nat} (hd : d < Bs) : Bd (l.set j d) := fun x hx => by
  rcases List.mem_or_eq_of_mem_set hx with h1 | rfl
  · exact h x h1
  · exact hd
theorem Bd.snoc {l : List Nat} (h : Bd l) {d : Nat} (hd : d < Bs) : Bd (l ++ [d]) := fun x hx => by
  rcases List.mem_append.1 hx with h1 | h1
  · exact h x h1
  · simp at h1; subst h1; exact hd
theorem Bd.nil : Bd [] := fun _ h => by cases h
theorem Bd.rep0 (n : Nat) : Bd (List.replicate n 0) := fun x hx => by rw [(List.mem_replicate.1 hx).2]; decide
theorem val_rep0 (n : Nat) : val (List.replicate n 0) = 0 := by
  induction n with
  | zero => rfl
  | succ n ih => simp [List.replicate_succ, val, ih]
theorem val_le_pow {l : List Nat} (h : Bd l) {k : Nat} (hk : l.length ≤ k) : val l < Bs ^ k := Nat.lt_of_lt_of_le (val_lt h) (Nat.pow_le_pow_right (by decide) hk)
theorem limbs_len {n k : Nat} : (limbs n).length ≤ k ↔ n < Bs ^ k := by
  induction k generalizing n with
  | zero =>
    simp only [Nat.le_zero_eq, List.length_eq_zero_iff, limbs_nil_iff, Nat.pow_zero]; omega
  | succ k ih =>
    by_cases h : n = 0
    · subst h; simp [limbs_zero]; exact Nat.pow_pos (by decide)
    · rw [limbs_pos h, List.length_cons, Nat.add_le_add_iff_right, ih, Nat.pow_succ, Nat.div_lt_iff_lt_mul (by decide)]
theorem limbs_len_lt {x y : Nat} (h : (limbs x).length < (limbs y).length) : x < y := by
  have h1 : x < Bs ^ (limbs x).length := limbs_len.1 (Nat.le_refl _)
  have h2 : ¬ y < Bs ^ (limbs x).length := fun h3 => by have := limbs_len.2 h3; omega
  omega
theorem limbs_inj {x y : Nat} (h : limbs x = limbs y) : x = y := by rw [← val_limbs x, h, val_limbs]
theorem digit (P s : Nat) : P * (s % Bs) + P * Bs * (s / Bs) = P * s := by
  rw [Nat.mul_assoc, ← Nat.mul_add, Nat.mod_add_div]
theorem val_split (l : List Nat) (k : Nat) (hk : k ≤ l.length) : val l = val (l.take k) + Bs ^ k * val (l.drop k) := by
  have := val_append (l.take k) (l.drop k)
  rw [List.take_append_drop, List.length_take, Nat.min_eq_left hk] at this
  exact this
/-- The first limbs that differ, from above, decide. -/
theorem val_lt_of {a b : List Nat} {i x y : Nat} (ha : Bd a) (hb : Bd b) (hab : a.drop (i + 1) = b.drop (i + 1)) (hx : a[i]? = some x) (hy : b[i]? = some y) (h : x < y) : val a < val b := by
  have hai : i < a.length := (List.getElem?_eq_some_iff.1 hx).1
  have hbi : i < b.length := (List.getElem?_eq_some_iff.1 hy).1
  rw [val_split a (i + 1) hai, val_split b (i + 1) hbi, hab, val_take_succ, val_take_succ, getD_some hx, getD_some hy]
  have h1 : val (a.take i) < Bs ^ i := val_le_pow (ha.take i) (by rw [List.length_take]; omega)
  have h2 : Bs ^ i * x + Bs ^ i ≤ Bs ^ i * y := by rw [← Nat.mul_succ]; exact Nat.mul_le_mul_left _ h
  omega

/-! ### Steps of the loops -/
theorem plus_step {a b xs : List Nat} {i cy : Nat} (hl : xs.length = i) (hv : val xs + Bs ^ i * cy = val (a.take i) + val (b.take i)) :
    val (xs ++ [(cy + a.getD i 0 + b.getD i 0) % Bs]) + Bs ^ (i + 1) * ((cy + a.getD i 0 + b.getD i 0) / Bs) = val (a.take (i + 1)) + val (b.take (i + 1)) := by
  rw [val_snoc, hl, val_take_succ, val_take_succ, Nat.pow_succ]
  have := digit (Bs ^ i) (cy + a.getD i 0 + b.getD i 0)
  rw [Nat.mul_add, Nat.mul_add] at this
  omega
theorem minus_step {a b xs : List Nat} {i bw d e : Nat} (hl : xs.length = i) (hv : val xs + val (b.take i) = val (a.take i) + Bs ^ i * bw) (hd : d + bw + b.getD i 0 = a.getD i 0 + Bs * e) :
    val (xs ++ [d]) + val (b.take (i + 1)) = val (a.take (i + 1)) + Bs ^ (i + 1) * e := by
  rw [val_snoc, hl, val_take_succ, val_take_succ, Nat.pow_succ]
  have h1 : Bs ^ i * (d + bw + b.getD i 0) = Bs ^ i * (a.getD i 0 + Bs * e) := by rw [hd]
  rw [Nat.mul_add, Nat.mul_add, Nat.mul_add, ← Nat.mul_assoc] at h1
  omega
theorem minus_end {a b xs : List Nat} {bw : Nat} (hx : Bd xs) (hl : xs.length = a.length) (hv : val xs + val b = val a + Bs ^ a.length * bw) (hba : val b ≤ val a) : val xs = val a - val b := by
  have h1 := val_lt hx
  rw [hl] at h1
  rcases Nat.eq_zero_or_pos bw with rfl | hb
  · omega
  · have : Bs ^ a.length * 1 ≤ Bs ^ a.length * bw := Nat.mul_le_mul_left _ hb
    omega
/-- One limb of the product of a row. -/
theorem mul_step {out : List Nat} {i k cy x y o W : Nat} (ho : out[i + k]? = some o) (hv : val out + Bs ^ (i + k) * cy = W) :
    val (out.set (i + k) ((cy + o + x * y) % Bs)) + Bs ^ (i + (k + 1)) * ((cy + o + x * y) / Bs) = W + Bs ^ i * x * (Bs ^ k * y) := by
  have h1 := val_set ((cy + o + x * y) % Bs) ho
  have h2 := digit (Bs ^ (i + k)) (cy + o + x * y)
  rw [Nat.mul_add, Nat.mul_add] at h2
  have h3 : Bs ^ i * x * (Bs ^ k * y) = Bs ^ (i + k) * (x * y) := by
    rw [Nat.pow_add, Nat.mul_assoc, Nat.mul_assoc, Nat.mul_left_comm x]
  rw [← Nat.add_assoc, Nat.pow_succ, h3]
  omega
theorem carry_lt {cy o x y : Nat} (h1 : cy < Bs) (h2 : o < Bs) (h3 : x < Bs) (h4 : y < Bs) : cy + o + x * y < 18446744073709551616 ∧ (cy + o + x * y) / Bs < Bs := by
  have hB : Bs = 4294967296 := rfl
  have : x * y ≤ 4294967295 * 4294967295 := Nat.mul_le_mul (by omega) (by omega)
  have : cy + o + x * y < 18446744073709551616 := by omega
  exact ⟨this, by rw [Nat.div_lt_iff_lt_mul (by decide), hB]; exact this⟩
theorem val_take_le (l : List Nat) (k : Nat) : val (l.take k) ≤ val l := by
  rcases Nat.lt_or_ge k l.length with h | h
  · rw [val_split l k (Nat.le_of_lt h)]; exact Nat.le_add_right _ _
  · rw [List.take_of_length_le h]; exact Nat.le_refl _
/-- A carry at this place leaves room for it. -/
theorem mul_bound {a b out : List Nat} {i k cy : Nat} (ha : Bd a) (hb : Bd b) (hi : i < a.length) (hv : val out + Bs ^ (i + k) * cy = val (a.take i) * val b + Bs ^ i * a.getD i 0 * val (b.take k)) (hc : 0 < cy) : k < b.length + 1 := by
  have h1 : Bs ^ i * a.getD i 0 * val (b.take k) ≤ Bs ^ i * a.getD i 0 * val b := Nat.mul_le_mul_left _ (val_take_le b k)
  have h2 : val (a.take (i + 1)) * val b = val (a.take i) * val b + Bs ^ i * a.getD i 0 * val b := by rw [val_take_succ, Nat.add_mul]
  have h3 : val (a.take (i + 1)) * val b < Bs ^ (i + 1) * Bs ^ b.length := Nat.mul_lt_mul_of_lt_of_le (val_le_pow (ha.take _) (by rw [List.length_take]; omega)) (Nat.le_of_lt (val_lt hb)) (Nat.pow_pos (by decide))
  rw [← Nat.pow_add] at h3
  have h4 : Bs ^ (i + k) * 1 ≤ Bs ^ (i + k) * cy := Nat.mul_le_mul_left _ hc
  have h5 : Bs ^ (i + k) < Bs ^ (i + 1 + b.length) := by omega
  have := (Nat.pow_lt_pow_iff_right (by decide : 1 < Bs)).1 h5
  omega
theorem mul_sign (x y : Int) : (if (!(decide (x < 0) == decide (y < 0))) = true then -((x.natAbs * y.natAbs : Nat) : Int) else ((x.natAbs * y.natAbs : Nat) : Int)) = x * y := by
  rcases (show x < 0 ∨ 0 ≤ x by omega) with hx | hx <;> rcases (show y < 0 ∨ 0 ≤ y by omega) with hy | hy
  · obtain ⟨a, rfl⟩ : ∃ a : Nat, x = -(a : Int) := ⟨x.natAbs, by omega⟩
    obtain ⟨b, rfl⟩ : ∃ b : Nat, y = -(b : Int) := ⟨y.natAbs, by omega⟩
    rw [decide_eq_true hx, decide_eq_true hy]; simp [Int.neg_mul, Int.mul_neg]
  · obtain ⟨a, rfl⟩ : ∃ a : Nat, x = -(a : Int) := ⟨x.natAbs, by omega⟩
    obtain ⟨b, rfl⟩ : ∃ b : Nat, y = (b : Int) := ⟨y.natAbs, by omega⟩
    rw [decide_eq_true hx, decide_eq_false (show ¬ ((b : Int) < 0) by omega)]; simp [Int.neg_mul, Int.mul_neg]
  · obtain ⟨a, rfl⟩ : ∃ a : Nat, x = (a : Int) := ⟨x.natAbs, by omega⟩
    obtain ⟨b, rfl⟩ : ∃ b : Nat, y = -(b : Int) := ⟨y.natAbs, by omega⟩
    rw [decide_eq_true hy, decide_eq_false (show ¬ ((a : Int) < 0) by omega)]; simp [Int.neg_mul, Int.mul_neg]
  · obtain ⟨a, rfl⟩ : ∃ a : Nat, x = (a : Int) := ⟨x.natAbs, by omega⟩
    obtain ⟨b, rfl⟩ : ∃ b : Nat, y = (b : Int) := ⟨y.natAbs, by omega⟩
    simp [show ¬ ((a : Int) < 0) by omega, show ¬ ((b : Int) < 0) by omega]
/-- The highest bit. -/
theorem bit31 {x : Nat} (h : x < 4294967296) : x / 2147483648 = (x.testBit 31).toNat := by
  rw [Nat.toNat_testBit]
  have : x / 2 ^ 31 < 2 := by rw [Nat.div_lt_iff_lt_mul (by decide)]; exact h
  rw [Nat.mod_eq_of_lt this]
theorem tb31 {x : Nat} (h : x < 4294967296) : x.testBit 31 = decide (2147483648 ≤ x) := by
  have h1 := bit31 h
  cases hb : x.testBit 31 with
  | false => rw [hb] at h1; simp at h1; simp; omega
  | true => rw [hb] at h1; simp at h1; simp; omega
theorem borrow {x y c d : Nat} (hx : x < 4294967296) (hy : y < 4294967296) (hd : d < 4294967296) (hc : c ≤ 1) (he : (x + 4294967296 * 2 - y - c) % 4294967296 = d) :
    (((4294967295 ^^^ x) &&& y) ||| ((4294967295 ^^^ (x ^^^ y)) &&& d)) / 2147483648 = if x < y + c then 1 else 0 := by
  have hxy : x ^^^ y < 2 ^ 32 := Nat.xor_lt_two_pow hx hy
  have h1 : 4294967295 ^^^ x < 2 ^ 32 := Nat.xor_lt_two_pow (by decide) hx
  have h2 : 4294967295 ^^^ (x ^^^ y) < 2 ^ 32 := Nat.xor_lt_two_pow (by decide) hxy
  have h3 : ((4294967295 ^^^ x) &&& y) ||| ((4294967295 ^^^ (x ^^^ y)) &&& d) < 2 ^ 32 := Nat.or_lt_two_pow (Nat.and_lt_two_pow _ hy) (Nat.and_lt_two_pow _ hd)
  rw [bit31 h3]
  simp only [Nat.testBit_or, Nat.testBit_and, Nat.testBit_xor]
  rw [tb31 hx, tb31 hy, tb31 hd, show (4294967295 : Nat).testBit 31 = true by decide]
  by_cases a1 : 2147483648 ≤ x <;> by_cases a2 : 2147483648 ≤ y <;> by_cases a3 : 2147483648 ≤ d <;> by_cases a4 : x < y + c <;> simp [a1, a2, a3, a4] <;> omega
/-- A step of a sum in place. -/
theorem plus2_step {a b out : List Nat} {i cy : Nat} (hl : i < out.length) (hv : val (out.take i) + Bs ^ i * cy = val (a.take i) + val (b.take i)) :
    val ((out.set i ((a.getD i 0 + b.getD i 0 + cy) % Bs)).take (i + 1)) + Bs ^ (i + 1) * ((a.getD i 0 + b.getD i 0 + cy) / Bs) = val (a.take (i + 1)) + val (b.take (i + 1)) := by
  rw [val_take_succ, val_take_succ, val_take_succ, Nat.pow_succ]
  have h1 : (out.set i ((a.getD i 0 + b.getD i 0 + cy) % Bs)).getD i 0 = (a.getD i 0 + b.getD i 0 + cy) % Bs := by simp [List.getElem?_set_self hl]
  rw [h1, List.take_set_of_le (Nat.le_refl i)]
  have := digit (Bs ^ i) (a.getD i 0 + b.getD i 0 + cy)
  rw [Nat.mul_add, Nat.mul_add] at this
  omega
theorem minus2_step {a b out : List Nat} {i bw d e : Nat} (hl : i < out.length) (hv : val (out.take i) + val (b.take i) = val (a.take i) + Bs ^ i * bw) (hd : d + bw + b.getD i 0 = a.getD i 0 + Bs * e) :
    val ((out.set i d).take (i + 1)) + val (b.take (i + 1)) = val (a.take (i + 1)) + Bs ^ (i + 1) * e := by
  rw [val_take_succ, val_take_succ, val_take_succ, Nat.pow_succ]
  have h0 : (out.set i d).getD i 0 = d := by simp [List.getElem?_set_self hl]
  rw [h0, List.take_set_of_le (Nat.le_refl i)]
  have h1 : Bs ^ i * (d + bw + b.getD i 0) = Bs ^ i * (a.getD i 0 + Bs * e) := by rw [hd]
  rw [Nat.mul_add, Nat.mul_add, Nat.mul_add, ← Nat.mul_assoc] at h1
  omega
end Go.Z
end
section
set_option linter.unusedSimpArgs false
set_option linter.unusedVariables false
/- How the program's integers read: limbs in frozen memory. -/
set_option linter.unusedSimpArgs false
set_option linter.unusedVariables false
namespace Go.Z
open Go Go.RowKit

theorem fd32 (n : Nat) : Int.fdiv (n : Int) 4294967296 = ((n / 4294967296 : Nat) : Int) := by
  rw [Int.fdiv_eq_ediv_of_nonneg _ (by decide)]; rfl
theorem td32 (n : Nat) : Int.tdiv (n : Int) 4294967296 = ((n / 4294967296 : Nat) : Int) := rfl

def u32s (l : List Nat) : List Value := l.map fun x : Nat => Value.int .u32 (x : Int)
theorem u32s_len (l : List Nat) : (u32s l).length = l.length := by simp [u32s]
theorem u32s_get {l : List Nat} {j x : Nat} (h : l[j]? = some x) : (u32s l)[j]? = some (.int .u32 (x : Int)) := by simp [u32s, h]
theorem u32s_plain (l : List Nat) : ∀ u ∈ u32s l, plain u = true := fun u hu => by
  obtain ⟨x, _, rfl⟩ := List.mem_map.1 hu; rfl
theorem u32s_take (l : List Nat) (k : Nat) : (u32s l).take k = u32s (l.take k) := by simp [u32s, List.map_take]
theorem u32s_append (l m : List Nat) : u32s (l ++ m) = u32s l ++ u32s m := by simp [u32s]
theorem u32s_set (l : List Nat) (k x : Nat) : (u32s l).set k (.int .u32 (x : Int)) = u32s (l.set k x) := by simp [u32s, List.map_set]
theorem u32s_rep (n : Nat) : List.replicate n (Value.int .u32 0) = u32s (List.replicate n 0) := by simp [u32s]

/-- A slice of limbs. -/
def MagAt (h : Heap) (v : Value) (l : List Nat) : Prop := SlAt h v l.length 1 (u32s l) ∧ Bd l
/-- An integer. -/
def IntAt (h : Heap) (v : Value) (z : Int) : Prop := ∃ m, v = .agg ⟨[.bool (decide (z < 0)), m]⟩ ∧ MagAt h m (limbs z.natAbs)

theorem MagAt.mono {h h' : Heap} {v : Value} {l : List Nat} (m : MagAt h v l) [e : Ext h h'] : MagAt h' v l := ⟨m.1.mono, m.2⟩
theorem IntAt.mono {h h' : Heap} {v : Value} {z : Int} (m : IntAt h v z) [e : Ext h h'] : IntAt h' v z := let ⟨x, a, b⟩ := m; ⟨x, a, b.mono⟩
theorem MagAt.nil (h : Heap) : MagAt h (.slice none 0 0) [] := ⟨SlAt.nil h 1, fun _ hx => by cases hx⟩
/-- The slice itself. -/
theorem MagAt.out {h : Heap} {v : Value} {l : List Nat} (m : MagAt h v l) : ∃ p c, v = .slice p l.length c ∧ l.length ≤ c := let ⟨⟨p, c, a, b, _⟩, _⟩ := m; ⟨p, c, a, b⟩
/-- The limb at j. -/
theorem MagAt.limb {h : Heap} {p : Option Addr} {n c : Nat} {l : List Nat} (m : MagAt h (.slice p n c) l) {j : Nat} (hj : j < n) :
    ∃ b o x, p = some ⟨b, o, none⟩ ∧ l[j]? = some x ∧ x < 4294967296 ∧ CellN h b (o + j * 1) [.int .u32 (x : Int)] := by
  obtain ⟨⟨p', c', h1, h2, h3, h4⟩, hb⟩ := m
  cases h1
  rcases h4 with ⟨h0, _⟩ | ⟨b, o, rfl, hc⟩
  · omega
  · have hx : l[j]? = some l[j] := by simp [hj]
    exact ⟨b, o, l[j], rfl, hx, hb.get hx, by simpa using hc.cell (u32s_get hx)⟩
theorem MagAt.take {h : Heap} {p : Option Addr} {c k m : Nat} {l : List Nat} (s : MagAt h (.slice p l.length c) l) (hk : k ≤ l.length) (hm : k ≤ m) : MagAt h (.slice p k m) (l.take k) := by
  have := s.1.take hk hm
  refine ⟨?_, s.2.take k⟩
  rw [Nat.mul_one, u32s_take] at this
  rw [List.length_take, Nat.min_eq_left hk]
  exact this
/-- A block of one's own that is freezed. -/
theorem MagAt.froze {h : Heap} {b : Nat} {l : List Nat} {T : TypeId} (hb : h b = some (row T (u32s l))) (hl : Bd l) {c : Nat} (hc : l.length ≤ c) : MagAt h (.slice (some ⟨b, 0, none⟩) l.length c) l :=
  ⟨⟨_, c, rfl, hc, by rw [u32s_len, Nat.mul_one], .inr ⟨b, 0, rfl, _, T, _, hb, LookN.all _⟩⟩, hl⟩
/-- The parts of an integer. -/
theorem IntAt.out {h : Heap} {v : Value} {z : Int} (m : IntAt h v z) : ∃ p c, v = .agg ⟨[.bool (decide (z < 0)), .slice p (limbs z.natAbs).length c]⟩ ∧ (limbs z.natAbs).length ≤ c ∧ MagAt h (.slice p (limbs z.natAbs).length c) (limbs z.natAbs) := by
  obtain ⟨x, rfl, hm⟩ := m
  obtain ⟨p, c, rfl, hc⟩ := hm.out
  exact ⟨p, c, rfl, hc, hm⟩
theorem IntAt.in {h : Heap} {p : Option Addr} {n c : Nat} {z : Int} (m : MagAt h (.slice p n c) (limbs z.natAbs)) : IntAt h (.agg ⟨[.bool (decide (z < 0)), .slice p n c]⟩) z := ⟨_, rfl, m⟩
/-- A slice of one's own, freezed, is a slice of limbs. -/
theorem MagAt.of {h : Heap} {v : Value} {l : List Nat} {n : Nat} (s : SlAt h v n 1 (u32s l)) (hb : Bd l) : MagAt h v l := by
  obtain rfl : n = l.length := by
    obtain ⟨p, c, _, _, h3, _⟩ := s
    rw [u32s_len, Nat.mul_one] at h3; exact h3.symm
  exact ⟨s, hb⟩
/-- Any integer, canonical or not. -/
def RawAt (h : Heap) (v : Value) (neg : Bool) (l : List Nat) : Prop := ∃ m, v = .agg ⟨[.bool neg, m]⟩ ∧ MagAt h m l
theorem RawAt.mono {h h' : Heap} {v : Value} {neg : Bool} {l : List Nat} (m : RawAt h v neg l) [e : Ext h h'] : RawAt h' v neg l := let ⟨x, a, b⟩ := m; ⟨x, a, b.mono⟩
theorem IntAt.raw {h : Heap} {v : Value} {z : Int} (m : IntAt h v z) : RawAt h v (decide (z < 0)) (limbs z.natAbs) := m
theorem RawAt.out {h : Heap} {v : Value} {neg : Bool} {l : List Nat} (m : RawAt h v neg l) : ∃ p c, v = .agg ⟨[.bool neg, .slice p l.length c]⟩ ∧ l.length ≤ c ∧ MagAt h (.slice p l.length c) l := by
  obtain ⟨x, rfl, hm⟩ := m
  obtain ⟨p, c, rfl, hc⟩ := hm.out
  exact ⟨p, c, rfl, hc, hm⟩
theorem IntAt.mk {h : Heap} {m : Value} {l : List Nat} {neg : Bool} (hm : MagAt h m l) (hl : trim l = l) : IntAt h (.agg ⟨[.bool (neg && decide (l ≠ [])), m]⟩) (if neg then -(val l : Int) else (val l : Int)) := by
  have hv : limbs (val l) = l := by rw [← trim_eq hm.2, hl]
  have h0 : l = [] ↔ val l = 0 := by rw [← hl, trim_nil_iff hm.2, hl]
  have hb : (neg && decide (l ≠ [])) = decide ((if neg then -(val l : Int) else (val l : Int)) < 0) := by
    cases neg
    · simp
    · simp only [Bool.true_and, if_true]
      refine decide_eq_decide.2 ⟨fun h1 => ?_, fun h1 h2 => ?_⟩
      · have h3 : val l ≠ 0 := fun e => h1 (h0.2 e)
        omega
      · have h3 := h0.1 h2
        omega
  rw [hb]
  refine ⟨m, rfl, ?_⟩
  · have : (if neg then -(val l : Int) else (val l : Int)).natAbs = val l := by cases neg <;> simp
    rw [this, hv]; exact hm
theorem MagAt.frozeN {h : Heap} {b : Nat} {l : List Nat} {T : TypeId} (hb : h b = some (row T (u32s l))) (hl : Bd l) {n c : Nat} (hn : l.length = n) (hc : n ≤ c) : MagAt h (.slice (some ⟨b, 0, none⟩) n c) l := by
  subst hn; exact MagAt.froze hb hl hc
theorem flat1 (m : Nat) : (List.replicate m [Value.int .u32 0]).flatten = u32s (List.replicate m 0) := by
  rw [← u32s_rep]
  induction m with
  | zero => rfl
  | succ m ih => simp [List.replicate_succ, ih]
theorem set_own (out : List Nat) (j d : Nat) : (u32s out).set (0 + ((j : Nat) : Int).toNat * 1) (.int .u32 (d : Int)) = u32s (out.set j d) := by
  show (u32s out).set (0 + j * 1) _ = _
  rw [Nat.mul_one, Nat.zero_add, u32s_set]
theorem get_own {out : List Nat} {j o : Nat} (h : out[j]? = some o) : (u32s out)[0 + ((j : Nat) : Int).toNat * 1]? = some (.int .u32 (o : Int)) := by
  show (u32s out)[0 + j * 1]? = _
  rw [Nat.mul_one, Nat.zero_add]; exact u32s_get h
theorem len_own (out : List Nat) (j : Nat) (h : j < out.length) : 0 + ((j : Nat) : Int).toNat * 1 < (u32s out).length := by
  show 0 + j * 1 < _
  rw [u32s_len]; omega
theorem has_limb {out : List Nat} (hb : Bd out) {j : Nat} (h : j < out.length) : ∃ o, out[j]? = some o ∧ o < 4294967296 := ⟨out[j], by simp [h], hb _ (List.getElem_mem h)⟩
/-- Of at most a million limbs. -/
def Fit (z : Int) : Prop := (limbs z.natAbs).length ≤ 1000000
theorem fitk (k : Nat) {z : Int} (h : z.natAbs < Bs ^ k) (hk : k ≤ 1000000) : Fit z := Nat.le_trans (limbs_len.2 h) hk
theorem fit64 {z : Int} (h : z.natAbs < 18446744073709551616) : Fit z := fitk 2 h (by decide)
theorem bd_abs (z : Int) : Bd (limbs z.natAbs) := bd_limbs _
theorem same3 (x y : Int) : (decide (x < 0) == decide (y < 0)) = false ∨ ((decide (x < 0) == decide (y < 0)) = true ∧ decide (x.natAbs < y.natAbs) = true) ∨ ((decide (x < 0) == decide (y < 0)) = true ∧ decide (x.natAbs < y.natAbs) = false) := by
  cases (decide (x < 0) == decide (y < 0)) <;> cases decide (x.natAbs < y.natAbs) <;> simp
theorem sign_eq {x y : Int} (h : (decide (x < 0) == decide (y < 0)) = true) : (x < 0 ↔ y < 0) := by simpa using h
theorem sign_ne {x y : Int} (h : (decide (x < 0) == decide (y < 0)) = false) : ¬ (x < 0 ↔ y < 0) := by simpa using h
end Go.Z
end
section
set_option linter.unusedSimpArgs false
set_option linter.unusedVariables false
/- The calculus beneath the proofs: functions as values, calls that may write the caller's own blocks, ranges over functions. No program is named here. -/
set_option linter.unusedSimpArgs false
set_option linter.unusedVariables false
namespace Go.Z
open Go Go.RowKit

variable {C : Cfg} {Q Q' : Post} {ds : List Deferred} {ρ : Env} {h : Heap} {L : Own} {ops : Array Oper} {rest : List Oper}
variable {d : Nat} {ty : TypeId} {pos : String} {after : Array Edge} {S : World → Prop}

theorem q_mf {f : Go.Fn} {fs cs : List Operand} : Qr C ρ S (.makeFunc f ⟨fs⟩ ⟨cs⟩) ty (.func f ⟨fs.map ρ.ev⟩ ⟨cs.map ρ.ev⟩) := ⟨rfl, fun w _ => by
  simp [execOp, Instr.makeFunc, Sem.run, bind, Sem.bind, pure]⟩

/-! ### A call that may write the caller's own blocks -/
def FnIn (C : Cfg) (f : FuncId) (args : Array Value) (h : Heap) (L : Own) (R : Value → Heap → Own → Prop) : Prop :=
  ∀ w, St C.w0 C.h0 h L w → Calls C.P f args w fun e w' => ∃ v h' L', e = .returned v ∧ Ext h h' ∧ St C.w0 C.h0 h' L' w' ∧ R v h' L'
structure retQL (C : Cfg) (fn : Func) (h0 : Heap) (R : Value → Heap → Own → Prop) (e : Exit) (ds : List Deferred) (ρ : Env) (h : Heap) (L : Own) : Prop where
  ok : (e = .normal ∨ e = .ret) ∧ ds = [] ∧ Ext h0 h ∧ ∃ v, RetR C fn ρ h L v ∧ ∃ L2, (∃ rest, L.Perm (L2 ++ rest)) ∧ R v h L2
theorem ret_okL {fn : Func} {rs : List ResultVar} {vs : List Value} {h0 : Heap} {R : Value → Heap → Own → Prop} {e : Exit} (hr : fn.results = ⟨rs⟩) [hx : Ext h0 h] (r : ResV C.P ρ L rs vs) (hR : R (pack vs) h L) (he : e = .normal ∨ e = .ret := by first | exact Or.inr rfl | exact Or.inl rfl) :
    retQL C fn h0 R e [] ρ h L := ⟨⟨he, rfl, hx, _, RetR.of hr r, L, ⟨[], by simp⟩, hR⟩⟩
theorem argAg {n : Nat} {args : List Value} {k : Nat} (hn : k = n) (hl : args.length ≤ n) : Ag n [] { tmps := args.toArray ++ Array.replicate (k - args.toArray.size) undef, defers := [] } (argEnv args) := by
  refine ⟨?_, rfl, fun t => ?_⟩
  · simp [hn]; omega
  · simp only [argEnv, List.getD_eq_getElem?_getD]
    rcases Nat.lt_or_ge t args.length with ht | ht
    · simp [Array.getElem?_append, ht]
    · by_cases h2 : t - args.length < k - args.length
      · simp [Array.getElem?_append, Nat.not_lt.2 ht, List.getElem?_eq_none ht, h2]
      · simp [Array.getElem?_append, Nat.not_lt.2 ht, List.getElem?_eq_none ht, h2]
theorem FnIn.intro {f : FuncId} {fn : Func} {c : Code} {args : List Value} {R : Value → Heap → Own → Prop} {n : Nat} (hf : C.P.funcs[f]? = some fn) (hb : fn.body = some c) (hn : fn.ntmps = n) (hl : args.length ≤ n)
    (hj : J ⟨C.P, none, n, C.w0, C.h0⟩ c (retQL ⟨C.P, none, n, C.w0, C.h0⟩ fn h R) [] (argEnv args) h L) : FnIn C f args.toArray h L R := by
  intro w hw
  refine (callsIn_wide (n := 0)).1 (callsIn_of_wp hf hb trivial (wpIn_mono (hj _ w (argAg hn hl) hw) ?_))
  rintro e a' w' ⟨ds, ρ, h', L', h1, h2, ⟨he, rfl, hx, v, hv, L2, ⟨rest, hp⟩, hR⟩⟩
  have hres := hv a' w' _ h1 h2
  have post : a'.defers = [] ∧ ∃ v, (results fn a'.tmps).run C.P w' = .ok v w' ∧ ∃ v1 h' L', Ending.returned v = .returned v1 ∧ Ext h h' ∧ St C.w0 C.h0 h' L' w' ∧ R v1 h' L' :=
    ⟨h1.defers, v, hres, v, h', L2, rfl, hx, (h2.perm hp).sub (List.sublist_append_left _ _), hR⟩
  rcases he with rfl | rfl
  · exact post
  · exact post
theorem run_call_val {P : Program} {f : FuncId} {w : World} {ρ : Operand → Value} {x : Operand} {xs : List Operand} {ts : Array TypeId} {ty : TypeId} {fs cap : List Value} [he : Ent P f] (hx : ρ x = .func (.func f) ⟨fs⟩ ⟨cap⟩) :
    (do let d ← resolve ρ { callee := .value x, args := ⟨xs⟩, argTypes := ts } ty; invoke d.target d.args : Sem Next).run P w = .ok (.enter f (List.toArray (fs ++ xs.map ρ ++ cap))) w := by
  simp [resolve, Deferred.ofValue, hx, invoke, Sem.run_bind, Result.andThen, Sem.run, pure]
  have := he.e (List.toArray (fs ++ xs.map ρ ++ cap)) w
  simpa [Sem.run] using this
section calls
variable {f : FuncId}
/-- A call of a function value. -/
theorem o_callv {R : Value → Heap → Prop} {x : Operand} {xs : List Operand} {ts : Array TypeId} {fs cap : List Value} [he : Ent C.P f] (hx : ρ.ev x = .func (.func f) ⟨fs⟩ ⟨cap⟩) (hf : Fn C.P f (List.toArray (fs ++ xs.map ρ.ev ++ cap)) h R)
    (k : ∀ v h', Step h h' → R v h' → JL C ops Q rest ds (ρ.set d v) h' L) (hn : Nat.blt d C.n = true := by rfl) :
    JL C ops Q (⟨some d, .call { callee := .value x, args := ⟨xs⟩, argTypes := ts }, ty, pos, after, none⟩ :: rest) ds ρ h L :=
  JL.enter rfl rfl rfl hn (fun w _ => by simpa [execOp] using run_call_val (P := C.P) (w := w) (ts := ts) (ty := ty) (xs := xs) hx) fun w hs => (hf.use hs).mono fun e w' ⟨v, h', a, b, c, r⟩ => ⟨v, h', L, a, c, k v h' b r⟩
/-- A call that may write the caller's own blocks. -/
theorem o_calll {R : Value → Heap → Own → Prop} {xs : List Operand} {ts : Array TypeId} [he : Ent C.P f] (hf : FnIn C f (List.toArray (xs.map ρ.ev)) h L R)
    (k : ∀ v h' L', Step h h' → R v h' L' → JL C ops Q rest ds (ρ.set d v) h' L') (hn : Nat.blt d C.n = true := by rfl) :
    JL C ops Q (⟨some d, .call { callee := .value (.func f), args := ⟨xs⟩, argTypes := ts }, ty, pos, after, none⟩ :: rest) ds ρ h L :=
  JL.enter rfl rfl rfl hn (fun w _ => by
      have := run_call_val (P := C.P) (f := f) (w := w) (ρ := ρ.ev) (x := .func f) (xs := xs) (ts := ts) (ty := ty) (fs := []) (cap := []) rfl
      simpa [execOp] using this) fun w hs => (hf w hs).mono fun e w' ⟨v, h', L', a, b, c, r⟩ => ⟨v, h', L', a, c, k v h' L' b.toStep r⟩
end calls

/-! ### A range over a function -/
/-- A loop's record. -/
def recO (fn : FuncId) (tm : Array Value) (ps : Array Tmp) (assign body : Code) (D : Nat) (st : LoopState) : Obj :=
  .loop { state := st, pending := none, fn, tmps := tm, params := ps, assign, body, defers := D }
/-- The temporaries read as ρ. -/
def TmOf (n : Nat) (ρ : Env) (tm : Array Value) : Prop := tm.size = n ∧ ∀ t, tm.getD t undef = ρ t

theorem AtS.heap1 {L : Own} {b : Nat} {o : Obj} {f : Own → Own} (a : AtS L [(b, o)] f) {w0 w : World} {h0 h : Heap} (s : St w0 h0 h L w) : w.heap[b]? = some o := by
  obtain ⟨L1, L2, rfl, _⟩ := a.e
  exact (s.own (b, o) (by simp)).2.1
theorem putObj_rest (w : World) (b : Nat) (o : Obj) : (w.putObj b o).os = w.os ∧ (w.putObj b o).tape = w.tape ∧ (w.putObj b o).output = w.output ∧ (w.putObj b o).heap.size = w.heap.size := ⟨rfl, rfl, rfl, by simp⟩
theorem AtS.gone {L : Own} {b : Nat} {o o' : Obj} {f : Own → Own} (a : AtS L [(b, o)] f) {w0 w : World} {h0 h : Heap} (s : St w0 h0 h L w) : St w0 h0 h (f []) (w.putObj b o') := by
  obtain ⟨L1, L2, rfl, hf⟩ := a.e
  rw [hf]
  have hb : b < w.heap.size := (Array.getElem?_eq_some_iff.1 ((s.own (b, o) (by simp)).2.1)).1
  have h1 : St w0 h0 h (L1 ++ (b, o') :: L2) (w.putObj b o') := s.upd (o := o) rfl rfl rfl (by simp) (World.putObj_heap_same hb) fun k hk => World.putObj_heap_other hk
  refine h1.sub ?_
  exact List.Sublist.append (List.Sublist.refl _) (List.Sublist.cons _ (List.Sublist.refl _))
theorem At.put {L : Own} {b : Nat} {o o' : Obj} {f : Obj → Own} (a : At L b o f) {w0 w : World} {h0 h : Heap} (s : St w0 h0 h L w) : St w0 h0 h (f o') (w.putObj b o') := by
  have hb : b < w.heap.size := (Array.getElem?_eq_some_iff.1 (a.heap s)).1
  exact a.upd s rfl rfl rfl (by simp) (World.putObj_heap_same hb) fun k hk => World.putObj_heap_other hk

theorem J.rangeFunc {g : Operand} {ps : Array Tmp} {assign body : Code} {gf : FuncId} {cap : List Value} (hr : C.r = none) (hg : ρ.ev g = .func (.func gf) #[] ⟨cap⟩) [he : Ent C.P gf]
    (k : ∀ (fn : FuncId) (tm : Array Value) (l D : Nat) (OB : LoopState → Obj), (∀ st, OB st = recO fn tm ps assign body D st) → TmOf C.n ρ tm → FnIn C gf (List.toArray (.func (.yield l) #[] #[] :: cap)) h ((l, OB .ready) :: (D, .deferred (some [])) :: L)
      (fun _ h' L' => ∃ f1, ∃ _ : AtS L' [(l, OB .ready)] f1, Q .normal ({ target := .collected D, args := #[] } :: ds) ρ h' (f1 []))) :
    J C (.rangeFunc g ps assign body) Q ds ρ h L := fun a w ha hs => by
  have hro : (fen C.r).round = none := hr
  refine wpIn_rangeFunc fun fn _ => ?_
  have hs1 : St C.w0 C.h0 h ((w.heap.size + 1, recO fn a.tmps ps assign body w.heap.size .ready) :: (w.heap.size, .deferred (some [])) :: L) ((w.alloc (.deferred (some []))).alloc (recO fn a.tmps ps assign body w.heap.size .ready)) := by
    have := (hs.alloc (.deferred (some []))).alloc (recO fn a.tmps ps assign body w.heap.size .ready)
    rwa [World.size_alloc] at this
  have hk := k fn a.tmps (w.heap.size + 1) w.heap.size (recO fn a.tmps ps assign body w.heap.size) (fun _ => rfl) ⟨ha.size, ha.get⟩ _ hs1
  obtain ⟨W, hW⟩ : ∃ W, (w.alloc (.deferred (some []))).alloc (recO fn a.tmps ps assign body w.heap.size .ready) = W := ⟨_, rfl⟩
  rw [hW] at hk
  have hev : a.eval g = .func (.func gf) #[] ⟨cap⟩ := by rw [ha.eval]; exact hg
  refine ⟨w.heap.size + 1, [{ target := .collected w.heap.size, args := #[] }], W, { target := .fn (.func gf) ⟨cap⟩, args := #[.func (.yield (w.heap.size + 1)) #[] #[]] }, W, gf, List.toArray (.func (.yield (w.heap.size + 1)) #[] #[] :: cap), W, ?_, ?_, ?_, ?_, fun hx => (by simp [fen] at hx), ?_⟩
  · rw [hro, ← hW]; exact run_enterLoop_outer _ _ _ _ _
  · simp only [resolve, hev]
    simp [go_sem]
  · intro f' hf'; simp [fen]
  · have := he.e (List.toArray (.func (.yield (w.heap.size + 1)) #[] #[] :: cap)) W
    simpa [invoke, go_sem] using this
  · have hw : fen C.r = Fence.wide := by rw [hr]; rfl
    rw [hw]
    refine callsIn_wide.2 (hk.mono ?_)
    rintro e w' ⟨v, h', L', rfl, hx, hst, f1, hat, hq⟩
    refine ⟨none, _, run_endLoop (hat.heap1 hst) (by simp), ?_⟩
    exact ⟨_, ρ, h', f1 [], ⟨ha.size, by simp [ha.defers], ha.get⟩, hat.gone hst, hq⟩

/-- A round's temporaries: the parameters are set. -/
def setZip (ρ : Env) : List Nat → List Value → Env
  | p :: ps, v :: vs => setZip (ρ.set p v) ps vs
  | _, _ => ρ
theorem zip_ag {n : Nat} {ρ : Env} : ∀ (ps : List Nat) (vs : List Value) (tm : Array Value), TmOf n ρ tm → (ps.all fun p => Nat.blt p n) = true → Ag n [] { tmps := (ps.zip vs).foldl (fun t (p : Nat × Value) => t.setIfInBounds p.1 p.2) tm, defers := [] } (setZip ρ ps vs)
  | [], vs, tm, h, _ => ⟨h.1, rfl, h.2⟩
  | p :: ps, [], tm, h, _ => ⟨h.1, rfl, h.2⟩
  | p :: ps, v :: vs, tm, h, hp => by
    simp only [List.all_cons, Bool.and_eq_true] at hp
    have h1 : Ag n [] { tmps := tm, defers := [] } ρ := ⟨h.1, rfl, h.2⟩
    have h2 := h1.put hp.1 v
    exact zip_ag ps vs (tm.setIfInBounds p v) ⟨h2.size, h2.get⟩ hp.2

theorem o_yield {x : Operand} {xs : List Operand} {ts : Array TypeId} {l fn D n' : Nat} {tm : Array Value} {pl : List Nat} {assign body : Code} {f : Obj → Own} {ρ0 : Env} (hx : ρ.ev x = .func (.yield l) #[] #[]) {OB : LoopState → Obj} (hOB : ∀ st, OB st = recO fn tm ⟨pl⟩ assign body D st) (htm : TmOf n' ρ0 tm)
    (a : At L l (OB .ready) f) (hlen : xs.length = pl.length) (hp : (pl.all fun p => Nat.blt p n') = true)
    (k : J ⟨C.P, some l, n', C.w0, C.h0⟩ assign (fun e ds1 ρ1 h1 L1 => e = .normal ∧ ∃ f1, ∃ _ : At L1 l (OB .ready) f1,
      J ⟨C.P, some l, n', C.w0, C.h0⟩ body (fun e2 ds2 ρ2 h2 L2 => e2 = .normal ∧ ∃ f2, ∃ _ : At L2 l (OB .busy) f2, JL C ops Q rest ds (ρ.set d (.bool true)) h2 (f2 (OB .ready))) ds1 ρ1 h1 (f1 (OB .busy)))
      [] (setZip ρ0 pl (xs.map ρ.ev)) h L) (hn : Nat.blt d C.n = true := by rfl) :
    JL C ops Q (⟨some d, .call { callee := .value x, args := ⟨xs⟩, argTypes := ts }, ty, pos, after, none⟩ :: rest) ds ρ h L := by
  obtain rfl : OB = recO fn tm ⟨pl⟩ assign body D := funext hOB
  refine JL.step rfl rfl fun act w ha hs => ?_
  have hy := run_yield (P := C.P) (args := (List.toArray (xs.map ρ.ev))) (a.heap hs) (by simp [hlen])
  have hrun : (execOp ρ.ev ⟨some d, .call { callee := .value x, args := ⟨xs⟩, argTypes := ts }, ty, pos, after, none⟩).run C.P w =
      .ok (.round l fn (((⟨pl⟩ : Array Tmp).zip (List.toArray (xs.map ρ.ev))).foldl (fun tmps (t, a) => tmps.setIfInBounds t a) tm) assign body) w := by
    simp only [execOp, resolve, hx, Deferred.ofValue, Sem.run_bind, Sem.run_pure, Result.andThen, invoke]
    simpa [recO] using hy
  rw [hrun, Oper.uponIn_round]
  refine ⟨fun hx => (by simp [fen] at hx), ?_⟩
  have hz : ((⟨pl⟩ : Array Tmp).zip (List.toArray (xs.map ρ.ev))).foldl (fun tmps (t, a) => tmps.setIfInBounds t a) tm = (pl.zip (xs.map ρ.ev)).foldl (fun t (p : Nat × Value) => t.setIfInBounds p.1 p.2) tm := by
    rw [← Array.foldl_toList]; simp
  rw [hz]
  refine roundIn_of_wpIn trivial ?_
  have hk := k _ w (zip_ag pl (xs.map ρ.ev) tm htm hp) hs
  refine wpIn_mono hk ?_
  rintro e a1 w1 ⟨ds1, ρ1, h1, L1, ag1, st1, rfl, f1, at1, kb⟩
  refine ⟨_, run_beginRound (at1.heap st1) rfl, ?_⟩
  refine wpIn_mono (kb a1 _ ag1 (at1.put st1)) ?_
  rintro e a2 w2 ⟨ds2, ρ2, h2, L2, ag2, st2, rfl, f2, at2, kr⟩
  refine ⟨_, _, run_endRound none (at2.heap st2), ?_⟩
  exact kr _ _ (ha.put hn (.bool true)) (at2.put st2)

/-! ### A function that holds such a loop -/
structure retQM (C : Cfg) (fn : Func) (R : Value → Heap → Prop) (e : Exit) (ds : List Deferred) (ρ : Env) (h : Heap) (L : Own) : Prop where
  ok : (e = .normal ∨ e = .ret) ∧ ∃ D f, ds = [{ target := .collected D, args := #[] }] ∧ At L D (.deferred (some [])) f ∧ ∃ v, RetR C fn ρ h (f (.deferred none)) v ∧ R v h
theorem ret_okM {fn : Func} {rs : List ResultVar} {vs : List Value} {R : Value → Heap → Prop} {e : Exit} {D : Nat} {f : Obj → Own} (hr : fn.results = ⟨rs⟩) [a : At L D (.deferred (some [])) f] (r : ResV C.P ρ (f (.deferred none)) rs vs) (hR : R (pack vs) h) (he : e = .normal ∨ e = .ret := by first | exact Or.inr rfl | exact Or.inl rfl) :
    retQM C fn R e [{ target := .collected D, args := #[] }] ρ h L := ⟨⟨he, D, f, rfl, a, _, RetR.of hr r, hR⟩⟩
theorem Fn.introM {P : Program} {f : FuncId} {fn : Func} {c : Code} {args : List Value} {h : Heap} {R : Value → Heap → Prop} {n : Nat} (hf : P.funcs[f]? = some fn) (hb : fn.body = some c)
    (hn : fn.ntmps = n) (hl : args.length ≤ n)
    (hj : ∀ w, J ⟨P, none, n, w, h⟩ c (retQM ⟨P, none, n, w, h⟩ fn R) [] (argEnv args) h []) : Fn P f args.toArray h R := by
  intro w hw
  refine (callsIn_wide (n := 0)).1 (callsIn_of_wp_marks hf hb trivial (wpIn_mono (hj w _ w (argAg hn hl) ⟨Below.refl _ _, fun _ _ x => x, fun _ _ => rfl, hw, fun _ hp => (by cases hp), by simp⟩) ?_))
  rintro e a' w' ⟨ds, ρ, h', L', h1, h2, ⟨he, D, g, rfl, at1, v, hv, hR⟩⟩
  have st3 : St w h h' (g (.deferred none)) (w'.putObj D (.deferred none)) := at1.put h2
  have htk := run_takeDeferred (P := P) (at1.heap h2)
  have post : LeavesInM Fence.wide 0 P fn a'.tmps (fun e w' => ∃ v h', e = .returned v ∧ Below w.heap.size w w' ∧ Ext h h' ∧ (∀ b, b < w.heap.size → h' b = h b) ∧ (∀ b o, h' b = some o → w'.heap[b]? = some o) ∧ R v h') a'.defers .returning w' := by
    rw [h1.defers]
    refine ⟨by simp, .inl ⟨D, _, rfl, htk, ?_⟩⟩
    have hres := hv { a' with defers := [] } _ [] ⟨h1.size, rfl, h1.get⟩ st3
    exact ⟨v, hres, v, h', rfl, st3.below, ⟨st3.ge⟩, st3.old, st3.fro, hR⟩
  rcases he with rfl | rfl
  · exact post
  · exact post
/-- A store of a struct or array within a variable. -/
theorem o_sta {x y : Operand} {T T' : TypeId} {b o n : Nat} {l vs : List Value} {f : Obj → Own} [hs : Sz C.P T n] (hx : ρ.ev x = .pointer (some ⟨b, o, none⟩)) (hy : ρ.ev y = .agg ⟨vs⟩) (hpl' : vs.all plain = true)
    (a : At L b (row T' l) f) (hv : vs.length = n) (hlen : o + n ≤ l.length) (k : JL C ops Q rest ds ρ h (f (row T' (setN l o vs)))) :
    JL C ops Q (⟨none, .store T x y, ty, pos, after, none⟩ :: rest) ds ρ h L := by
  subst hv
  exact o_st hs.i hx hy rfl (List.all_eq_true.1 hpl') a hlen k
end Go.Z
end
