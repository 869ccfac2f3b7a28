/- The calculus beneath the proofs: structs and slices that are built, slice expressions, make, append, copy. No program is named here. -/
import Derived.Test.YtjdfhlkpfjhjoaaB5
set_option linter.unusedSimpArgs false
set_option linter.unusedVariables false
namespace Go.Z
open Go Go.RowKit

variable {C : Cfg} {Q Q' : Post} {ds : List Deferred} {ρ : Env} {h : Heap} {L : Own} {ops : Array Oper} {rest : List Oper}
variable {d : Nat} {ty : TypeId} {pos : String} {after : Array Edge} {S : World → Prop}

theorem run_v {P : Program} {s : Sem Value} {w w' : World} {v : Value} (hs : s.run P w = .ok v w') : (do Pure.pure (Next.value (← s)) : Sem Next).run P w = .ok (.value v) w' := by
  rw [Sem.run_bind, hs]; rfl
theorem run_u {P : Program} {s : Sem Unit} {w w' : World} (hs : s.run P w = .ok () w') : (do s; Pure.pure Next.skip : Sem Next).run P w = .ok .skip w' := by
  rw [Sem.run_bind, hs]; rfl
def cellsL : Value → List Value
  | .agg cs => cs.toList
  | v => [v]
theorem cells_cellsL (v : Value) : v.cells = ⟨cellsL v⟩ := by cases v <;> rfl

/-- 'fill' on lists. -/
def fillL (pl : Nat → Option (Nat × Nat)) (l : List Value) : List (Nat × Value) → Option (List Value)
  | [] => some l
  | (i, v) :: r => match pl i with
    | none => none
    | some (off, sz) => bif Nat.beq (cellsL v).length sz && Nat.ble (off + sz) l.length then fillL pl (setN l off (cellsL v)) r else none

theorem length_setN : ∀ (vs l : List Value) (o : Nat), (setN l o vs).length = l.length
  | [], _, _ => rfl
  | v :: vs, l, o => by rw [setN, length_setN vs]; simp
theorem foldl_set (l : List Value) (off : Nat) : ∀ (vs : List Value) (k : Nat), ((vs.zipIdx k).foldl (fun cs (p : Value × Nat) => cs.setIfInBounds (off + p.2) p.1) (Array.mk l)) = Array.mk (setN l (off + k) vs)
  | [], _ => rfl
  | v :: vs, k => by
    simp only [List.zipIdx_cons, List.foldl_cons]
    have := foldl_set (l.set (off + k) v) off vs (k + 1)
    rw [show (Array.mk l).setIfInBounds (off + k) v = Array.mk (l.set (off + k) v) from List.setIfInBounds_toArray l (off + k) v]
    rw [this]; rfl
theorem fill_fillL (pl : Nat → Option (Nat × Nat)) : ∀ (ps : List (Nat × Value)) (l cs : List Value), fillL pl l ps = some cs → Instr.fill pl ⟨l⟩ ps = some ⟨cs⟩
  | [], l, cs, h => by simp [fillL] at h; subst h; rfl
  | (i, v) :: r, l, cs, h => by
    simp only [fillL] at h
    simp only [Instr.fill]
    cases e : pl i with
    | none => rw [e] at h; cases h
    | some q =>
      obtain ⟨off, sz⟩ := q
      rw [e] at h
      simp only at h ⊢
      cases hb : (Nat.beq (cellsL v).length sz && Nat.ble (off + sz) l.length) with
      | false => rw [hb] at h; cases h
      | true =>
        rw [hb] at h
        simp only [cond_true] at h
        simp only [Bool.and_eq_true] at hb
        have h1 := Nat.eq_of_beq_eq_true hb.1
        have h2 := Nat.le_of_ble_eq_true hb.2
        rw [cells_cellsL]
        have hsz : (Array.mk (cellsL v)).size = sz := h1
        rw [hsz]
        rw [if_neg (by simp; omega)]
        have hz : (Array.mk (cellsL v)).zipIdx = ⟨(cellsL v).zipIdx⟩ := by simp
        have := foldl_set l off (cellsL v) 0
        rw [hz]
        rw [← Array.foldl_toList]
        simp only [Nat.add_zero] at this
        rw [this]
        exact fill_fillL pl r _ _ h

/-- A struct type: where its fields lie, and its zero. -/
class StF (P : Program) (T : TypeId) (pl : outParam (List (Nat × Nat))) (z : outParam (List Value)) : Prop where
  run : ∀ w, ∃ fs v, P.underlying T = some (.struct fs) ∧ (fs.mapM (fun f => do Pure.pure (f.offset, ← sizeOf f.type)) : Sem _).run P w = .ok ⟨pl⟩ w ∧ (zeroValue T).run P w = .ok v w ∧ v.cells = ⟨z⟩
def stfCheck (P : Program) (T : TypeId) : Option (List (Nat × Nat)) :=
  match P.underlying T with
  | some (.struct fs) => fs.toList.mapM fun f => (P.info? f.type).map fun i => (f.offset, i.size)
  | _ => none
theorem stf_of {P : Program} {T : TypeId} {pl : List (Nat × Nat)} {z : List Value} (h : stfCheck P T = some pl) (hz : Zv P T z) : StF P T pl z := ⟨fun w => by
  unfold stfCheck at h
  split at h
  · rename_i fs hu
    obtain ⟨i, v, h1, h2, h3⟩ := hz.i
    refine ⟨fs, v, hu, ?_, by simp [zeroValue, typeInfo, program, h1, h2, Sem.run_bind, Result.andThen, Sem.run, Pure.pure], h3⟩
    have key : ∀ (l : List Field) (pl : List (Nat × Nat)), l.mapM (fun f => (P.info? f.type).map fun i => (f.offset, i.size)) = some pl → (l.mapM (fun f => do Pure.pure (f.offset, ← sizeOf f.type)) : Sem _).run P w = .ok pl w := by
      intro l
      induction l with
      | nil => intro pl h; simp at h; subst h; simp [Sem.run, Pure.pure]
      | cons f l ih =>
        intro pl h
        simp only [List.mapM_cons] at h ⊢
        cases e1 : P.info? f.type with
        | none => simp [e1] at h
        | some j =>
          cases e2 : l.mapM (fun f => (P.info? f.type).map fun i => (f.offset, i.size)) with
          | none => simp [e1, e2] at h
          | some r =>
            simp [e1, e2] at h
            subst h
            have hs := run_sizeOf (P := P) (w := w) ⟨j, e1, rfl⟩
            have := ih r e2
            rw [Sem.run_bind, Sem.run_bind, hs]
            simp only [Result.andThen, Sem.run, Pure.pure]
            rw [Sem.run_bind]
            simp only [Pure.pure] at this
            rw [this]
            simp [Result.andThen, Sem.run]
    have := key fs.toList pl h
    rw [← Array.toArray_toList (xs := fs), List.mapM_toArray, Sem.run_map, this]
    rfl
  · cases h⟩

section builds
variable {x y : Operand} {T T' : TypeId}
theorem q_bd {ps : List (Nat × Operand)} {pl : List (Nat × Nat)} {z : List Value} (cells : List Value) [hs : StF C.P T pl z] (hc : fillL (fun i => pl[i]?) z (ps.map fun p => (p.1, ρ.ev p.2)) = some cells) : Qr C ρ S (.build T ⟨ps⟩) ty (.agg ⟨cells⟩) := ⟨rfl, fun w _ => by
    obtain ⟨fs, v, h1, h2, h3, h4⟩ := hs.run w
    have hu : (underlying T).run C.P w = .ok (.struct fs) w := by simp [underlying, program, h1, Sem.run, bind, Sem.bind, Pure.pure]
    have hf := fill_fillL _ _ _ _ hc
    have hp : (fun (x : Nat) => (Array.mk pl)[x]?) = fun i => pl[i]? := by funext i; simp
    have hm : (Array.mk ps).map (fun (p : Nat × Operand) => (p.1, ρ.ev p.2)) = ⟨ps.map fun p => (p.1, ρ.ev p.2)⟩ := by simp
    have hr : (Instr.build T ((Array.mk ps).map (fun (p : Nat × Operand) => (p.1, ρ.ev p.2)))).run C.P w = .ok (.agg ⟨cells⟩) w := by
      rw [hm]
      simp only [Instr.build, bind]
      rw [Sem.run_bind', h3]
      simp only [Result.andThen]
      rw [Sem.run_bind', hu]
      simp only [Result.andThen]
      rw [Sem.run_bind']
      simp only [bind] at h2
      rw [h2]
      simp only [Result.andThen, h4, hp, hf, Sem.run, Pure.pure]
    exact run_v hr⟩

/-- A slice that is written out. -/
theorem und_run {P : Program} {T : TypeId} {u : TypeDesc} {w : World} (h : P.underlying T = some u) : (underlying T).run P w = .ok u w := by
  simp [underlying, program, h, Sem.run, bind, Sem.bind, Pure.pure]
theorem zero_run {P : Program} {T : TypeId} {z : List Value} (hz : Zv P T z) (w : World) : ∃ v, (zeroValue T).run P w = .ok v w ∧ v.cells = ⟨z⟩ := by
  obtain ⟨i, v, h1, h2, h3⟩ := hz.i
  exact ⟨v, by simp [zeroValue, typeInfo, program, h1, h2, Sem.run_bind, Result.andThen, Sem.run, Pure.pure], h3⟩
theorem flat_get (z : List Value) : ∀ (n j : Nat), j < n * z.length → (List.replicate n z).flatten[j]? = z[j % z.length]?
  | 0, j, h => by simp at h
  | n + 1, j, h => by
    rw [List.replicate_succ, List.flatten_cons]
    rcases Nat.lt_or_ge j z.length with hj | hj
    · rw [List.getElem?_append_left hj, Nat.mod_eq_of_lt hj]
    · rw [List.getElem?_append_right hj, flat_get z n (j - z.length) (by rw [Nat.add_mul] at h; omega), ← Nat.mod_eq_sub_mod hj]
theorem flat_len (z : List Value) (n : Nat) : (List.replicate n z).flatten.length = n * z.length := by simp
theorem zeros_eq (z : List Value) (N n : Nat) (hN : N = n * z.length) : (Array.range N).map ((Array.mk z)[· % (Array.mk z).size]!) = ⟨(List.replicate n z).flatten⟩ := by
  subst hN
  apply Array.ext
  · simp
  · intro i h1 h2
    have hi : i < n * z.length := by simpa using h1
    have hz : 0 < z.length := by rcases Nat.eq_zero_or_pos z.length with e | e; (rw [e] at hi; simp at hi); exact e
    have := flat_get z n i hi
    rw [List.getElem?_eq_getElem (by simpa using hi), List.getElem?_eq_getElem (Nat.mod_lt _ hz)] at this
    simp at this ⊢
    rw [this]
    simp [Nat.mod_lt _ hz]
theorem o_bs {ps : List (Nat × Operand)} {n e sz : Nat} {z : List Value} (cells : List Value) [hu : Sl C.P T e] [hs : Sz C.P e sz] [hz : Zv C.P e z] (hN : n * sz ≤ 10000)
    (hc : fillL (fun i => some (i * sz, sz)) ((List.replicate n z).flatten) (ps.map fun p => (p.1, ρ.ev p.2)) = some cells)
    (k : ∀ b, JL C ops Q rest ds (ρ.set d (.slice (some ⟨b, 0, none⟩) n n)) h ((b, row e cells) :: L)) (hn : Nat.blt d C.n = true := by rfl) (hzl : z.length = sz := by rfl) :
    JL C ops Q (⟨some d, .buildSlice T n ⟨ps⟩, ty, pos, after, none⟩ :: rest) ds ρ h L :=
  JL.val rfl rfl rfl hn fun w hst => by
    refine ⟨_, h, _, w.alloc (row e cells), run_v ?_, hst.alloc _, k _⟩
    obtain ⟨v, hz1, hz2⟩ := zero_run hz w
    have hm : (Array.mk ps).map (fun (p : Nat × Operand) => (p.1, ρ.ev p.2)) = ⟨ps.map fun p => (p.1, ρ.ev p.2)⟩ := by simp
    have hf := fill_fillL _ _ _ _ hc
    rw [hm]
    have h24 : ¬ n * sz > 2 ^ 24 := by omega
    simp only [Instr.buildSlice, bind]
    rw [Sem.run_bind', und_run hu.u]
    simp only [Result.andThen]
    rw [Sem.run_bind', run_sizeOf hs.i]
    simp only [Result.andThen, h24, if_false, Pure.pure]
    by_cases h0 : n * sz = 0
    · have hfl : (List.replicate n z).flatten = [] := List.eq_nil_of_length_eq_zero (by rw [flat_len, hzl]; exact h0)
      rw [hfl] at hf
      have e0 : ∀ f : Nat → Value, (Array.range 0).map f = ⟨[]⟩ := fun f => by simp
      simp only [h0, if_true, e0]
      rw [show (Sem.pure (α := Array Value) #[]).bind = fun f => f #[] from rfl]
      simp only [e0, hf]
      rw [Sem.run_bind', run_newRow]
      rfl
    · simp only [h0, if_false]
      rw [Sem.run_bind', hz1]
      simp only [Result.andThen]
      rw [Sem.run_bind']
      simp only [Sem.run, hz2, Result.andThen]
      rw [zeros_eq z (n * sz) n (by rw [hzl]), hf]
      simp only []
      rw [Sem.run_bind', run_newRow]
      rfl
end builds

/-! ### Slices -/
/-- A frozen slice of n elements of sz cells each: its cells. -/
def SlAt (h : Heap) (v : Value) (n sz : Nat) (cs : List Value) : Prop :=
  ∃ p c, v = .slice p n c ∧ n ≤ c ∧ cs.length = n * sz ∧ ((n = 0 ∧ ∀ a, p = some a → True) ∨ ∃ b o, p = some ⟨b, o, none⟩ ∧ CellN h b o cs)
theorem SlAt.mono {h h' : Heap} {v : Value} {n sz : Nat} {cs : List Value} (s : SlAt h v n sz cs) [e : Ext h h'] : SlAt h' v n sz cs := by
  obtain ⟨p, c, h1, h2, h3, h4⟩ := s
  exact ⟨p, c, h1, h2, h3, h4.imp id fun ⟨b, o, x, y⟩ => ⟨b, o, x, y.mono e⟩⟩
theorem SlAt.nil (h : Heap) (sz : Nat) : SlAt h (.slice none 0 0) 0 sz [] := ⟨none, 0, rfl, Nat.le_refl _, by simp, .inl ⟨rfl, fun _ e => by cases e⟩⟩
theorem CellN.cell {h : Heap} {b o : Nat} {cs : List Value} (c : CellN h b o cs) {j : Nat} {v : Value} (hv : cs[j]? = some v) : CellN h b (o + j) [v] := by
  obtain ⟨l, T, fr, h1, h2⟩ := c
  exact ⟨l, T, fr, h1, h2.get j v hv, trivial⟩
theorem LookN.of_get {l : List Value} : ∀ {vs : List Value} {o : Nat}, (∀ j v, vs[j]? = some v → l[o + j]? = some v) → LookN l o vs
  | [], _, _ => trivial
  | v :: vs, o, hg => ⟨by simpa using hg 0 v (by simp), LookN.of_get fun j u hu => by
      have := hg (j + 1) u (by simpa using hu); rw [show o + 1 + j = o + (j + 1) by omega]; exact this⟩
theorem CellN.part {h : Heap} {b o : Nat} {cs ds : List Value} (c : CellN h b o cs) {j : Nat} (hd : ∀ i v, ds[i]? = some v → cs[j + i]? = some v) : CellN h b (o + j) ds := by
  obtain ⟨l, T, fr, h1, h2⟩ := c
  exact ⟨l, T, fr, h1, LookN.of_get fun i v hv => by rw [Nat.add_assoc]; exact h2.get _ _ (hd i v hv)⟩
/-- The cells of element i. -/
theorem SlAt.elem {h : Heap} {p : Option Addr} {n c sz : Nat} {cs : List Value} (s : SlAt h (.slice p n c) n sz cs) {i : Nat} (hi : i < n) :
    ∃ b o, p = some ⟨b, o, none⟩ ∧ CellN h b (o + i * sz) ((cs.drop (i * sz)).take sz) := by
  obtain ⟨p', c', h1, h2, h3, h4⟩ := s
  cases h1
  rcases h4 with ⟨rfl, _⟩ | ⟨b, o, rfl, hc⟩
  · exact absurd hi (Nat.not_lt_zero _)
  · refine ⟨b, o, rfl, hc.part fun j v hv => ?_⟩
    rw [List.getElem?_take] at hv
    split at hv
    · rw [List.getElem?_drop] at hv; exact hv
    · cases hv

section slices
variable {x lo hi mx : Operand} {T e : TypeId} {p : Option Addr} {n c : Nat}
theorem map_add0 (p : Option Addr) (sz : Nat) : p.map (·.add (0 * sz)) = p := by
  rw [Nat.zero_mul]; cases p <;> simp [Addr.add]
theorem run_sb {P : Program} {w : World} {v : Value} {q : IntKind} {j : Int} {y : Nat} {code : BoundsCode} (hv : v = .int q j) (h0 : 0 ≤ j) (h1 : j ≤ (y : Int)) : (Instr.sliceBound v y code).run P w = .ok j.toNat w := by
  subst hv
  simp [Instr.sliceBound, asIntOf, h0, h1, Sem.run, bind, Sem.bind, Pure.pure]
theorem sliceAt_run {P : Program} [hu : Sl P T e] (v : Value) (a b m : Option Value) (w : World) : (Instr.sliceAt T v a b m).run P w = (Instr.slice T v a b m).run P w := by
  simp only [Instr.sliceAt, bind]
  rw [Sem.run_bind', und_run hu.u]
  rfl
theorem slice_run {P : Program} {sz : Nat} [hu : Sl P T e] [hs : Sz P e sz] {a b m : Option Value} {l hh mm : Nat} {w : World}
    (hb : (Instr.sliceBounds true n c a b m).run P w = .ok (l, hh, mm) w) : (Instr.slice T (.slice p n c) a b m).run P w = .ok (.slice (if mm = l then p else p.map (·.add (l * sz))) (hh - l) (mm - l)) w := by
  simp only [Instr.slice, bind]
  rw [Sem.run_bind', und_run hu.u]
  simp only [Result.andThen]
  rw [Sem.run_bind', hb]
  simp only [Result.andThen]
  rw [Sem.run_bind', run_sizeOf hs.i]
  rfl
/-- 's[:hi:mx]' -/
theorem q_slHM {sz : Nat} [hu : Sl C.P T e] [hs : Sz C.P e sz] {q q' : IntKind} {j m : Int} (hx : ρ.ev x = .slice p n c) (hh : ρ.ev hi = .int q j) (hm : ρ.ev mx = .int q' m) (hb : 0 ≤ j ∧ j ≤ m ∧ m ≤ (c : Int)) : Qr C ρ S (.slice T x none (some hi) (some mx)) ty (.slice p j.toNat m.toNat) := ⟨rfl, fun w _ => run_v (by
    simp only [Option.map]
    rw [sliceAt_run, hx]
    rw [slice_run (l := 0) (hh := j.toNat) (mm := m.toNat)]
    · rw [map_add0]; simp
    · simp only [Instr.sliceBounds, bind, hh, hm]
      rw [Sem.run_bind', run_sb rfl (by omega) hb.2.2]
      simp only [Result.andThen]
      rw [Sem.run_bind', run_sb rfl hb.1 (by omega)]
      simp [Result.andThen, Sem.run, Sem.bind, Pure.pure])⟩
/-- 's[:hi]' -/
theorem q_slH {sz : Nat} [hu : Sl C.P T e] [hs : Sz C.P e sz] {q : IntKind} {j : Int} (hx : ρ.ev x = .slice p n c) (hh : ρ.ev hi = .int q j) (hb : 0 ≤ j ∧ j ≤ (c : Int)) : Qr C ρ S (.slice T x none (some hi) none) ty (.slice p j.toNat c) := ⟨rfl, fun w _ => run_v (by
    simp only [Option.map]
    rw [sliceAt_run, hx]
    rw [slice_run (l := 0) (hh := j.toNat) (mm := c)]
    · rw [map_add0]; simp
    · simp only [Instr.sliceBounds, bind, hh]
      simp only [Pure.pure, Sem.bind, if_true]
      rw [Sem.run_bind', run_sb rfl hb.1 hb.2]
      simp [Result.andThen, Sem.run, Sem.bind, Pure.pure])⟩
/-- 's[lo:]' -/
theorem q_slL {sz : Nat} [hu : Sl C.P T e] [hs : Sz C.P e sz] {q : IntKind} {j : Int} (hx : ρ.ev x = .slice p n c) (hl : ρ.ev lo = .int q j) (hb : 0 ≤ j ∧ j ≤ (n : Int)) : Qr C ρ S (.slice T x (some lo) none none) ty (.slice (if c = j.toNat then p else p.map (·.add (j.toNat * sz))) (n - j.toNat) (c - j.toNat)) := ⟨rfl, fun w _ => run_v (by
    simp only [Option.map]
    rw [sliceAt_run, hx]
    refine slice_run (l := j.toNat) (hh := n) (mm := c) ?_
    simp only [Instr.sliceBounds, bind, hl]
    rw [show (Pure.pure c : Sem Nat).bind = fun f => f c from rfl]
    try simp only []
    rw [show (Pure.pure n : Sem Nat).bind = fun f => f n from rfl]
    try simp only [Option.isSome, Bool.false_eq_true, if_false]
    rw [Sem.run_bind', run_sb rfl hb.1 hb.2]
    simp [Result.andThen, Sem.run, Sem.bind, Pure.pure])⟩
/-- 's[lo:hi]' -/
theorem q_slLH {sz : Nat} [hu : Sl C.P T e] [hs : Sz C.P e sz] {q q' : IntKind} {i j : Int} (hx : ρ.ev x = .slice p n c) (hl : ρ.ev lo = .int q i) (hh : ρ.ev hi = .int q' j) (hb : 0 ≤ i ∧ i ≤ j ∧ j ≤ (c : Int)) : Qr C ρ S (.slice T x (some lo) (some hi) none) ty (.slice (if c = i.toNat then p else p.map (·.add (i.toNat * sz))) (j.toNat - i.toNat) (c - i.toNat)) := ⟨rfl, fun w _ => run_v (by
    simp only [Option.map]
    rw [sliceAt_run, hx]
    refine slice_run (l := i.toNat) (hh := j.toNat) (mm := c) ?_
    simp only [Instr.sliceBounds, bind, hl, hh]
    rw [show (Pure.pure c : Sem Nat).bind = fun f => f c from rfl]
    try simp only [Option.isSome, Bool.false_eq_true, if_false, if_true]
    rw [Sem.run_bind', run_sb rfl (by omega) hb.2.2]
    simp only [Result.andThen]
    rw [Sem.run_bind', run_sb rfl hb.1 (by omega)]
    simp [Result.andThen, Sem.run, Sem.bind, Pure.pure])⟩
end slices
theorem SlAt.drop {h : Heap} {p : Option Addr} {n c sz k : Nat} {cs : List Value} (s : SlAt h (.slice p n c) n sz cs) (hk : k ≤ n) :
    SlAt h (.slice (if c = k then p else p.map (·.add (k * sz))) (n - k) (c - k)) (n - k) sz (cs.drop (k * sz)) := by
  obtain ⟨p', c', h1, h2, h3, h4⟩ := s
  cases h1
  refine ⟨_, _, rfl, by omega, by rw [List.length_drop, h3, Nat.sub_mul], ?_⟩
  rcases h4 with ⟨rfl, hp⟩ | ⟨b, o, rfl, hc⟩
  · refine .inl ⟨by omega, fun a ha => ?_⟩
    have hk0 : k = 0 := by omega
    subst hk0
    rw [map_add0] at ha
    simp only [ite_self] at ha
    trivial
  · by_cases e : c = k
    · have hn : n = k := by omega
      refine .inl ⟨by omega, fun a ha => ?_⟩
      trivial
    · refine .inr ⟨b, o + k * sz, by rw [if_neg e]; simp [add_none], hc.part fun i v hv => ?_⟩
      rw [List.getElem?_drop] at hv; exact hv
theorem SlAt.take {h : Heap} {p : Option Addr} {n c sz k m : Nat} {cs : List Value} (s : SlAt h (.slice p n c) n sz cs) (hk : k ≤ n) (hm : k ≤ m) :
    SlAt h (.slice p k m) k sz (cs.take (k * sz)) := by
  obtain ⟨p', c', h1, h2, h3, h4⟩ := s
  cases h1
  refine ⟨_, _, rfl, hm, by rw [List.length_take, h3]; exact Nat.min_eq_left (Nat.mul_le_mul_right _ hk), ?_⟩
  rcases h4 with ⟨rfl, hp⟩ | ⟨b, o, rfl, hc⟩
  · exact .inl ⟨by omega, hp⟩
  · have : CellN h b (o + 0) (cs.take (k * sz)) := hc.part fun i v hv => ?_
    · exact .inr ⟨b, o, rfl, this⟩
    rw [List.getElem?_take] at hv
    split at hv
    · simpa using hv
    · cases hv
end Go.Z
