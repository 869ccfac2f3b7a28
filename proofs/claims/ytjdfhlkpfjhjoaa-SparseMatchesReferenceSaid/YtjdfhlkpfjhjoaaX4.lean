/- Texts of ours, joined: G2, G3, TyW, Ty, Int. -/
import Derived.Test.YtjdfhlkpfjhjoaaX3
import Derived.Test.YtjdfhlkpfjhjoaaX1
import Derived.Test.YtjdfhlkpfjhjoaaProg
section
set_option linter.unusedSimpArgs false
set_option linter.unusedVariables false
/- The calculus beneath the proofs: the rules that a printed walk uses for lists, elements and results. No program is named here. -/
set_option linter.unusedSimpArgs false
set_option linter.unusedVariables false
namespace Go.Z
open Go Go.RowKit

variable {C : Cfg} {Q Q' : Post} {ds : List Deferred} {ρ : Env} {h h1 h2 : Heap} {L L' Lb : Own} {ops : Array Oper} {rest : List Oper}
variable {d : Nat} {ty : TypeId} {pos : String} {after : Array Edge} {S : World → Prop}

theorem LookN.part {l us : List Value} {o j k : Nat} (hl : LookN l o us) : LookN l (o + j) ((us.drop j).take k) :=
  LookN.of_get fun i v hv => by
    rw [List.getElem?_take] at hv
    split at hv
    · rw [List.getElem?_drop] at hv
      rw [Nat.add_assoc]; exact hl.get _ _ hv
    · cases hv
theorem CellN.sub {b o j k : Nat} {us : List Value} (c : CellN h b o us) : CellN h b (o + j) ((us.drop j).take k) := by
  obtain ⟨l, T, fr, x, y⟩ := c
  exact ⟨l, T, fr, x, y.part⟩
theorem Cells.cons {α : Type} {R : Heap → List Value → α → Prop} {sz : Nat} {cs us : List Value} {l : List α} {a : α} (hu : us.length = sz) (ha : R h us a) (c : Cells R sz h cs l) : Cells R sz h (us ++ cs) (a :: l) := by
  have := (Cells.nil (R := R) (sz := sz) (h := h)).snoc hu ha
  simpa using this.append c
theorem Cells.plain {α : Type} {R : Heap → List Value → α → Prop} [pl : Pl R] {sz : Nat} {cs : List Value} {l : List α} (c : Cells R sz h cs l) : ∀ u ∈ cs, plain u = true := fun u hu => by
  obtain ⟨i, hi⟩ := List.mem_iff_getElem?.1 hu
  have hlt : i < cs.length := (List.getElem?_eq_some_iff.1 hi).1
  rw [c.1] at hlt
  have hsz : 0 < sz := by rcases Nat.eq_zero_or_pos sz with e | e; (subst e; simp at hlt); exact e
  have hq : i / sz < l.length := (Nat.div_lt_iff_lt_mul hsz).2 hlt
  obtain ⟨a, ha⟩ := lt_get hq
  refine pl.p (c.2 _ _ ha) u (List.mem_iff_getElem?.2 ⟨i % sz, ?_⟩)
  rw [List.getElem?_take, if_pos (Nat.mod_lt _ hsz), List.getElem?_drop, Nat.mul_comm, Nat.div_add_mod]
  exact hi

section
variable {x y : Operand} {T T' e : TypeId} {b o n c m : Nat} {p : Option Addr}
theorem q_lenE [hu : Sl C.P T e] {k : Nat} (hx : ρ.ev x = .slice p n c) (hn : n = k) : Qr C ρ S (.call { callee := .builtin .len, args := #[x], argTypes := #[T] }) ty (.int .i64 (k : Int)) := by subst hn; exact q_len hx
theorem q_ian {sz : Nat} {q : IntKind} {j : Int} [hu : Sl C.P T e] [hs : Sz C.P e sz] (hx : ρ.ev x = .slice (some ⟨b, o, none⟩) m c) (hy : ρ.ev y = .int q j) (hj : j = (n : Int)) (hn : n < m) : Qr C ρ S (.indexAddr T x y) ty (.pointer (some ⟨b, o + n * sz, none⟩)) := by
  subst hj
  have := q_ia (C := C) (T := T) (e := e) (sz := sz) (S := S) (ty := ty) hx hy (by omega)
  rwa [Int.toNat_natCast] at this
/-- Cells of an element of a block of one's own. -/
theorem q_ldO {l us : List Value} {fr : Nat × Nat} {v : Value} {f : Obj → Own} {j : Nat} [hp : Pr C.P T] (hx : ρ.ev x = .pointer (some ⟨b, o + j, none⟩)) (a : At L b (.cells ⟨l⟩ T' fr) f) (hl : LookN l o us) (hv : us[j]? = some v) : Qr C ρ (SS C h L) (.load T x) ty v :=
  q_ld hx a (hl.get j v hv)
theorem q_ldO0 {l us : List Value} {fr : Nat × Nat} {v : Value} {f : Obj → Own} [hp : Pr C.P T] (hx : ρ.ev x = .pointer (some ⟨b, o, none⟩)) (a : At L b (.cells ⟨l⟩ T' fr) f) (hl : LookN l o us) (hv : us[0]? = some v) : Qr C ρ (SS C h L) (.load T x) ty v :=
  q_ld hx a (hl.get 0 v hv)
theorem q_ldOa {l us vs : List Value} {fr : Nat × Nat} {f : Obj → Own} {j : Nat} [hp : Ag1 C.P T vs.length] (hx : ρ.ev x = .pointer (some ⟨b, o + j, none⟩)) (a : At L b (.cells ⟨l⟩ T' fr) f) (hl : LookN l o us) (hv : (us.drop j).take vs.length = vs) : Qr C ρ (SS C h L) (.load T x) ty (.agg ⟨vs⟩) :=
  q_lda hx a (by rw [← hv]; exact hl.part)
theorem q_ldOa0 {l us : List Value} {fr : Nat × Nat} {f : Obj → Own} [hp : Ag1 C.P T us.length] (hx : ρ.ev x = .pointer (some ⟨b, o, none⟩)) (a : At L b (.cells ⟨l⟩ T' fr) f) (hl : LookN l o us) : Qr C ρ (SS C h L) (.load T x) ty (.agg ⟨us⟩) :=
  q_lda hx a hl
theorem q_ldfs {us vs : List Value} {j : Nat} [hp : Ag1 C.P T vs.length] [e : Ext h1 h] (hx : ρ.ev x = .pointer (some ⟨b, o + j, none⟩)) (hc : CellN h1 b o us) (hv : (us.drop j).take vs.length = vs) : Qr C ρ (SS C h L) (.load T x) ty (.agg ⟨vs⟩) :=
  q_ldfa hx (by rw [← hv]; exact hc.sub)
section lists
variable {α : Type} {R : Heap → List Value → α → Prop} {sz by' k : Nat} {z us cs xs : List Value} {l l' l2 : List α} {a a' : α} {v : Value} {f : Obj → Own}
/-- append of a list that is written no more. -/
theorem o_appO [mo : Mo R] [pl : Pl R] {e' : TypeId} [hu : Sl C.P T e] [hu' : Sl C.P T' e'] [hs : Sz C.P e sz] [hb : By C.P e by'] [hz : Zv C.P e z] {u : Value}
    (hx : ρ.ev x = v) (hy : ρ.ev y = u) (ho : OwnL R e sz h v l Lb) [r : Rem L Lb L'] [e1 : Ext h1 h] (hs2 : Sls R sz h1 u l2) (hm : app l l2 = some l')
    (k : ∀ p c Lb', OwnL R e sz h (.slice p l'.length c) l' Lb' → JL C ops Q rest ds (ρ.set d (.slice p l'.length c)) h (Lb' ++ L')) (hn : Nat.blt d C.n = true := by rfl) (hzl : z.length = sz := by rfl) (hby : Nat.ble by' 100000 = true := by rfl) :
    JL C ops Q (⟨some d, .call { callee := .builtin .append, args := #[x, y], argTypes := #[T, T'] }, ty, pos, after, none⟩ :: rest) ds ρ h L := by
  obtain ⟨hlen, rfl⟩ := app_some hm
  obtain ⟨xs, hox, hcx⟩ := ho
  obtain ⟨cs, hsl, hcc⟩ := hs2
  refine JL.perm r.p (o_app (e := e) hx hy hox ⟨[], L', rfl, fun _ => rfl⟩ (src_fro hsl hcc.plain) hlen (fun v' Lb' ho' => ?_) hn hzl hby)
  have hl2 : l.length + l2.length = (l ++ l2).length := by simp
  rw [hl2] at ho'
  have hw : OwnL R e sz h v' (l ++ l2) Lb' := ⟨_, ho', hcx.append hcc.mono⟩
  obtain ⟨p, c, rfl⟩ := hw.out
  exact k p c Lb' hw
/-- append of elements that are written out. -/
theorem o_appB [mo : Mo R] [pl : Pl R] {e' T0 : TypeId} {fr : Nat × Nat} [hu : Sl C.P T e] [hu' : Sl C.P T' e'] [hs : Sz C.P e sz] [hb : By C.P e by'] [hz : Zv C.P e z] {cc : Nat}
    (hx : ρ.ev x = v) (hy : ρ.ev y = .slice (some ⟨b, 0, none⟩) l2.length cc) (ho : OwnL R e sz h v l Lb) [r : Rem L Lb L'] (a : At L' b (.cells ⟨us⟩ T0 fr) f) (hcc : Cells R sz h us l2) (hm : app l l2 = some l')
    (k : ∀ p c Lb', OwnL R e sz h (.slice p l'.length c) l' Lb' → JL C ops Q rest ds (ρ.set d (.slice p l'.length c)) h (Lb' ++ L')) (hn : Nat.blt d C.n = true := by rfl) (hzl : z.length = sz := by rfl) (hby : Nat.ble by' 100000 = true := by rfl) :
    JL C ops Q (⟨some d, .call { callee := .builtin .append, args := #[x, y], argTypes := #[T, T'] }, ty, pos, after, none⟩ :: rest) ds ρ h L := by
  obtain ⟨hlen, rfl⟩ := app_some hm
  obtain ⟨xs, hox, hcx⟩ := ho
  have a2 : At (Lb ++ L') b (.cells ⟨us⟩ T0 fr) (fun o' => Lb ++ f o') := inferInstance
  refine JL.perm r.p (o_app (e := e) hx hy hox ⟨[], L', rfl, fun _ => rfl⟩ (src_own a2 (LookN.all _) hcc.1 hcc.plain) hlen (fun v' Lb' ho' => ?_) hn hzl hby)
  have hl2 : l.length + l2.length = (l ++ l2).length := by simp
  rw [hl2] at ho'
  have hw : OwnL R e sz h v' (l ++ l2) Lb' := ⟨_, ho', hcx.append hcc⟩
  obtain ⟨p, c, rfl⟩ := hw.out
  exact k p c Lb' hw
/-- make -/
theorem o_mkO {q q' : IntKind} {i : Int} {z0 : α} [hu : Sl C.P T e] [hs : Sz C.P e sz] [hb : By C.P e by'] [hz : Zv C.P e z] (hx : ρ.ev x = .int q i) (hy : ρ.ev y = .int q' i) (hm : mkl i z0 = some l) (hR : R h z z0)
    (k : ∀ p c Lb, OwnL R e sz h (.slice p l.length c) l Lb → JL C ops Q rest ds (ρ.set d (.slice p l.length c)) h (Lb ++ L)) (hn : Nat.blt d C.n = true := by rfl) (hzl : z.length = sz := by rfl) (hby : Nat.ble by' 100000 = true := by rfl) :
    JL C ops Q (⟨some d, .makeSlice T x y, ty, pos, after, none⟩ :: rest) ds ρ h L := by
  obtain ⟨h1, h2, h3⟩ := mkl_some hm
  have hb3 : l.length * by' ≤ 140737488355328 := Nat.le_trans (Nat.mul_le_mul h2 (Nat.le_of_ble_eq_true hby)) (by decide)
  have hx' : ρ.ev x = .int q (l.length : Int) := by rw [hx, h1]
  have hy' : ρ.ev y = .int q' (l.length : Int) := by rw [hy, h1]
  refine o_mk (n := l.length) (m := l.length) hx' hy' rfl rfl (Nat.le_refl _) hb3 (by omega) (fun g => ?_) hn hzl
  refine k _ _ [(g, _)] (OwnL.lit h ?_ ?_ rfl)
  · rw [flat_len, hzl]
  · have := Cells.rep (R := R) (sz := sz) (h := h) hzl hR l.length
    rwa [← h3] at this
/-- A store into an element of a list of one's own. -/
theorem o_stO {T0 : TypeId} {ps us1 : List Value} {j : Nat} (hs : ∃ i, C.P.info? T = some i ∧ i.size = ps.length) (hx : ρ.ev x = .pointer (some ⟨b, 0 + k * sz + j, none⟩)) (hy : ρ.ev y = v) (hv : v.cells = ⟨ps⟩) (hpl : ps.all plain = true)
    (oc : OwnC R sz h cs l c) (A : At L b (row T0 cs) f) (hk : k < l.length) (hl : LookN cs (0 + k * sz) xs) (hxs : xs.length = sz) (hj : j + ps.length ≤ sz) (he : setN xs j ps = us1) (hR : R h us1 a) (hl2 : l2 = l.set k a)
    (kk : ∀ cs', OwnC R sz h cs' l2 c → JL C ops Q rest ds ρ h (f (row T0 cs'))) :
    JL C ops Q (⟨none, .store T x y, ty, pos, after, none⟩ :: rest) ds ρ h L := by
  have hle : k * sz + sz ≤ l.length * sz := by rw [← Nat.succ_mul]; exact Nat.mul_le_mul_right _ hk
  have hlc : l.length * sz ≤ c * sz := Nat.mul_le_mul_right _ oc.1
  have h2 := oc.2.1
  subst hl2
  exact o_st hs hx hy hv (List.all_eq_true.1 hpl) A (by omega) (kk _ (oc.put hk hl hxs hj (by rw [he]; exact hR)))
end lists
end
/-- A store into a variable of one's own, the outcome written out. -/
theorem o_stc {x y : Operand} {T T' : TypeId} {b o : Nat} {l vs l' : List Value} {v : Value} {f : Obj → Own} {n : Nat} [hs : Sz C.P T n] (hx : ρ.ev x = .pointer (some ⟨b, o, none⟩)) (hy : ρ.ev y = v) (hv : v.cells = ⟨vs⟩) (hn : vs.length = n) (hpl : vs.all plain = true)
    (a : At L b (row T' l) f) (hlen : Nat.ble (o + vs.length) l.length = true) (he : setN l o vs = l') (k : JL C ops Q rest ds ρ h (f (row T' l'))) :
    JL C ops Q (⟨none, .store T x y, ty, pos, after, none⟩ :: rest) ds ρ h L := by
  subst hn he
  exact o_st hs.i hx hy hv (List.all_eq_true.1 hpl) a (Nat.le_of_ble_eq_true hlen) k
theorem lt_bs {a n k : Nat} (h : a < 2 ^ n) (hk : n ≤ 32 * k) : a < Bs ^ k := by
  have : Bs = 2 ^ 32 := rfl
  rw [this, ← Nat.pow_mul]; exact lt_pow2 h hk
theorem fit_of {z : Int} {n k : Nat} (h : z.natAbs < 2 ^ n) (hk : n ≤ 32 * k) (h2 : k ≤ 1000000) : Fit z := fitk k (lt_bs h hk) h2
theorem ft_fit {z : Int} (h : Ft z) : Fit z := fit_of (n := 1000000) (k := 31250) h (by decide) (by decide)
/-- Values that are structs. -/
def AggV {α : Type} (R : Heap → List Value → α → Prop) (h : Heap) (v : Value) (x : α) : Prop := ∃ cs, v = .agg ⟨cs⟩ ∧ R h cs x
theorem AggV.mono {α : Type} {R : Heap → List Value → α → Prop} [mo : Mo R] {v : Value} {x : α} (w : AggV R h1 v x) [e : Ext h1 h] : AggV R h v x := let ⟨cs, a, b⟩ := w; ⟨cs, a, mo.m e b⟩
theorem Mo.up {α : Type} {R : Heap → List Value → α → Prop} [mo : Mo R] {cs : List Value} {x : α} (w : R h1 cs x) [e : Ext h1 h] : R h cs x := mo.m e w
/-- Elements of one cell. -/
def KR (k : IntKind) (h : Heap) (cs : List Value) (x : Int) : Prop := cs = [.int k x]
def BR (h : Heap) (cs : List Value) (x : Bool) : Prop := cs = [.bool x]
instance {k : IntKind} : Mo (KR k) := ⟨fun e a => a⟩
instance {k : IntKind} : Pl (KR k) := ⟨fun {h cs x} a u hu => by unfold KR at a; subst a; simp at hu; subst hu; rfl⟩
instance : Mo BR := ⟨fun e a => a⟩
instance : Pl BR := ⟨fun {h cs x} a u hu => by unfold BR at a; subst a; simp at hu; subst hu; rfl⟩
abbrev LR {α : Type} (R : Heap → List Value → α → Prop) (sz : Nat) := One (Sls R sz)
/-- An element of a frozen list whose place is known. -/
theorem Sls.at {α : Type} {R : Heap → List Value → α → Prop} {sz b o n c i : Nat} {l : List α} {a : α} (s : Sls R sz h (.slice (some ⟨b, o, none⟩) n c) l) (hi : l[i]? = some a) : ∃ us, CellN h b (o + i * sz) us ∧ R h us a := by
  obtain ⟨b', o', us, e, h1, h2, _⟩ := s.get hi
  cases e
  exact ⟨us, h1, h2⟩
theorem Sls.op {α : Type} {R : Heap → List Value → α → Prop} {sz n c i : Nat} {p : Option Addr} {l : List α} (s : Sls R sz h (.slice p n c) l) (hi : i < l.length) : ∃ b o, p = some ⟨b, o, none⟩ := by
  obtain ⟨a, ha⟩ := lt_get hi
  obtain ⟨b', o', us, e, h1, h2, _⟩ := s.get ha
  exact ⟨b', o', e⟩
end Go.Z
end
section
set_option linter.unusedSimpArgs false
set_option linter.unusedVariables false
/- The calculus beneath the proofs: opening of values, regions whose order is drawn, joins, the counters of loops: in the words that a printed walk uses. No program is named here. -/
set_option linter.unusedSimpArgs false
set_option linter.unusedVariables false
namespace Go.Z
open Go Go.RowKit

variable {C : Cfg} {Q Q' : Post} {ds : List Deferred} {ρ : Env} {h h1 h2 : Heap} {L L' Ls Lb : Own} {ops : Array Oper} {rest : List Oper}
variable {d : Nat} {ty : TypeId} {pos : String} {after : Array Edge} {S : World → Prop} {M : List Nat} {listed : Array Bool} {fuel : Nat}

theorem KR.op {k : IntKind} {cs : List Value} {x : Int} (w : KR k h cs x) : cs = [.int k x] := w
theorem BR.op {cs : List Value} {x : Bool} (w : BR h cs x) : cs = [.bool x] := w
theorem IntR.op {cs : List Value} {z : Int} (w : IntR h cs z) : ∃ (g : Bool) (p : Option Addr) (n c : Nat), cs = [.bool g, .slice p n c] ∧ IntR h [.bool g, .slice p n c] z := by
  obtain ⟨p, c, rfl, h1, h2⟩ := w
  exact ⟨_, p, _, c, rfl, p, c, rfl, h1, h2⟩
theorem IntAt.op {v : Value} {z : Int} (w : IntAt h v z) : ∃ (g : Bool) (p : Option Addr) (n c : Nat), v = .agg ⟨[.bool g, .slice p n c]⟩ ∧ IntR h [.bool g, .slice p n c] z := by
  obtain ⟨p, c, rfl, h1, h2⟩ := w.out
  exact ⟨_, p, _, c, rfl, p, c, rfl, h1, h2⟩
theorem IntR.at {g : Bool} {p : Option Addr} {n c : Nat} {z : Int} (w : IntR h [.bool g, .slice p n c] z) : IntAt h (.agg ⟨[.bool g, .slice p n c]⟩) z := by
  obtain ⟨p', c', e, h1, h2⟩ := w
  cases e
  exact IntAt.in h2
theorem IntR.zero0 (h : Heap) : IntR h [.bool false, .slice none 0 0] 0 := IntR.zero h
theorem Sls.op3 {α : Type} {R : Heap → List Value → α → Prop} {sz : Nat} {v : Value} {l : List α} (s : Sls R sz h v l) : ∃ p n c, v = .slice p n c ∧ Sls R sz h (.slice p n c) l := by
  obtain ⟨p, c, rfl, _⟩ := s.out; exact ⟨p, _, c, rfl, s⟩
theorem CellN.cell0 {b o : Nat} {us : List Value} {v : Value} (c : CellN h b o us) (hv : us[0]? = some v) : CellN h b o [v] := c.cell (j := 0) hv

/-! ### Slice expressions -/
section
variable {α : Type} {R : Heap → List Value → α → Prop} {sz n c : Nat} {p : Option Addr} {l l' : List α} {i j : Int}
structure CutV (p : Option Addr) (n c sz : Nat) (i j : Int) (p' : Option Addr) (n' c' : Nat) : Prop where
  ok : 0 ≤ i ∧ i ≤ j ∧ j ≤ (n : Int) ∧ n ≤ c
  p : p' = if c = i.toNat then p else p.map (·.add (i.toNat * sz))
  n : n' = j.toNat - i.toNat
  c : c' = c - i.toNat
theorem Sls.takeC (s : Sls R sz h (.slice p n c) l) {k : Nat} (hk : k ≤ l.length) : Sls R sz h (.slice p k c) (l.take k) := by
  obtain ⟨cs, h1, h2⟩ := s
  have hn : n = l.length := by obtain ⟨p', c', e, _⟩ := h1; cases e; rfl
  subst hn
  have hc : l.length ≤ c := by obtain ⟨p', c', e, h3, _⟩ := h1; cases e; exact h3
  have hl : (l.take k).length = k := by rw [List.length_take]; omega
  refine ⟨cs.take (k * sz), ?_, h2.take hk⟩
  rw [hl]; exact h1.take hk (by omega)
theorem Sls.cutLH (s : Sls R sz h (.slice p n c) l) (hc : cutL l i j = some l') : ∃ p' c', Sls R sz h (.slice p' l'.length c') l' ∧ CutV p n c sz i j p' l'.length c' := by
  obtain ⟨a, b, rfl, rfl, h1, h2, rfl⟩ := cutL_some hc
  have hn := s.len
  have hcap : n ≤ c := by obtain ⟨p', c', e, h3⟩ := s.out; cases e; exact h3
  have hlen : ((l.take b).drop a).length = b - a := by rw [List.length_drop, List.length_take]; omega
  have h3 := (s.takeC h2).drop (k := a) (by rw [List.length_take]; omega)
  refine ⟨_, c - a, ?_, ⟨by omega, rfl, by rw [hlen]; omega, by simp⟩⟩
  rw [hlen]; simpa using h3
theorem Sls.cutL (s : Sls R sz h (.slice p n c) l) (hc : cutL l i (l.length : Int) = some l') : ∃ p' c', Sls R sz h (.slice p' l'.length c') l' ∧ CutV p n c sz i (n : Int) p' l'.length c' := by
  have := s.cutLH hc
  rwa [← s.len] at this
theorem Sls.cutH (s : Sls R sz h (.slice p n c) l) (hc : Z.cutL l 0 j = some l') : ∃ p' c', Sls R sz h (.slice p' l'.length c') l' ∧ CutV p n c sz 0 j p' l'.length c' := s.cutLH hc
end
section
variable {x lo hi : Operand} {T e : TypeId} {p p' : Option Addr} {n c n' c' sz : Nat} {i j : Int} {q q' : IntKind}
theorem q_cutLH [hu : Sl C.P T e] [hs : Sz C.P e sz] (hx : ρ.ev x = .slice p n c) (hl : ρ.ev lo = .int q i) (hh : ρ.ev hi = .int q' j) (v : CutV p n c sz i j p' n' c') : Qr C ρ S (.slice T x (some lo) (some hi) none) ty (.slice p' n' c') := by
  obtain ⟨h1, rfl, rfl, rfl⟩ := v
  exact q_slLH hx hl hh (by omega)
theorem q_cutL [hu : Sl C.P T e] [hs : Sz C.P e sz] (hx : ρ.ev x = .slice p n c) (hl : ρ.ev lo = .int q i) (v : CutV p n c sz i (n : Int) p' n' c') : Qr C ρ S (.slice T x (some lo) none none) ty (.slice p' n' c') := by
  obtain ⟨h1, rfl, rfl, rfl⟩ := v
  have := q_slL (C := C) (T := T) (e := e) (S := S) (ty := ty) (sz := sz) hx hl (by omega)
  simpa using this
theorem q_cutH [hu : Sl C.P T e] [hs : Sz C.P e sz] (hx : ρ.ev x = .slice p n c) (hh : ρ.ev hi = .int q' j) (v : CutV p n c sz 0 j p' n' c') : Qr C ρ S (.slice T x none (some hi) none) ty (.slice p' n' c') := by
  obtain ⟨h1, rfl, rfl, rfl⟩ := v
  have := q_slH (C := C) (T := T) (e := e) (S := S) (ty := ty) (sz := sz) hx hh (by omega)
  have e2 : ∀ c : Nat, (if c = (0 : Int).toNat then p else p.map (·.add ((0 : Int).toNat * sz))) = p := fun c => by
    rw [show (0 : Int).toNat * sz = 0 * sz from rfl, map_add0]; simp
  rw [e2]; simpa using this
end

/-! ### Stores into elements -/
theorem setL_hn {α : Type} {n : Nat} {i : Int} {l : List α} {a : α} (hn : n = l.length) : n = (setL l i a).length := by unfold setL; rw [List.length_set]; exact hn
theorem setL_eq {α : Type} {n : Nat} {i : Int} {l : List α} {a : α} (hi : i = (n : Int)) : setL l i a = l.set n a := by subst hi; unfold setL; rw [Int.toNat_natCast]
theorem o_stO0 {α : Type} {R : Heap → List Value → α → Prop} {x y : Operand} {T T0 : TypeId} {b sz k c : Nat} {cs xs ps us1 : List Value} {l l2 : List α} {a : α} {v : Value} {f : Obj → Own} (hs : ∃ i, C.P.info? T = some i ∧ i.size = ps.length) (hx : ρ.ev x = .pointer (some ⟨b, 0 + k * sz, none⟩)) (hy : ρ.ev y = v) (hv : v.cells = ⟨ps⟩) (hpl : ps.all plain = true)
    (oc : OwnC R sz h cs l c) (A : At L b (row T0 cs) f) (hk : k < l.length) (hl : LookN cs (0 + k * sz) xs) (hxs : xs.length = sz) (hj : 0 + ps.length ≤ sz) (he : setN xs 0 ps = us1) (hR : R h us1 a) (hl2 : l2 = l.set k a)
    (kk : ∀ cs', OwnC R sz h cs' l2 c → JL C ops Q rest ds ρ h (f (row T0 cs'))) :
    JL C ops Q (⟨none, .store T x y, ty, pos, after, none⟩ :: rest) ds ρ h L := o_stO (j := 0) hs hx hy hv hpl oc A hk hl hxs hj he hR hl2 kk

/-! ### Regions whose order is drawn -/
/-- The owned blocks of these numbers. -/
class Pk (L : Own) (bs : List Nat) (out : outParam Own) : Prop where m : ∀ p ∈ out, p ∈ L
instance Pk.nil {L : Own} : Pk L [] [] := ⟨fun _ hp => by cases hp⟩
instance Pk.cons {L out : Own} {b : Nat} {bs : List Nat} {o : Obj} {f : Obj → Own} [a : At L b o f] [k : Pk L bs out] : Pk L (b :: bs) ((b, o) :: out) := ⟨fun p hp => by
  rcases List.mem_cons.1 hp with rfl | hp
  · obtain ⟨L1, L2, rfl, _⟩ := a.e; simp
  · exact k.m p hp⟩
class Sub (a L : Own) : Prop where m : ∀ p ∈ a, p ∈ L
instance Sub.nil {L : Own} : Sub [] L := ⟨fun _ hp => by cases hp⟩
instance Sub.cons {L a : Own} {b : Nat} {o : Obj} {f : Obj → Own} [q : At L b o f] [k : Sub a L] : Sub ((b, o) :: a) L := ⟨fun p hp => by
  rcases List.mem_cons.1 hp with rfl | hp
  · obtain ⟨L1, L2, rfl, _⟩ := q.e; simp
  · exact k.m p hp⟩
theorem J.drawB {id : Nat} {l : List Oper} (bs : List Nat) (M : List Nat) [hm : Mix C.P] [pk : Pk L bs Ls] (k : JD C l.toArray Q (SS C h Ls) M l.length (Array.replicate l.length false) ds ρ h L) :
    J C (.region id l.toArray true) Q ds ρ h L := fun a w ha hs =>
  wpIn_mono (wpIn_region_any hm.m (wpAny_of_S _ (k a _ ⟨ha.size, ha.defers, ha.get⟩ hs.drew))) fun _ _ _ => noP_lift
theorem ss_subB [sub : Sub Ls L] : ∀ w, St C.w0 C.h0 h L w → SS C h Ls w := fun w hs => ⟨h, L, Ext.refl h, sub.m, hs⟩
section takes
variable {i : Nat} {op : Op} {g : Option (Nat × Bool)} {v : Value}
theorem JD.loadB (i : Nat) (chk : (takeOk ops listed M i && !M.contains i) = true) (ho : ops[i]? = some ⟨some d, op, ty, pos, after, g⟩) (hg : WantT ops ρ g) [sub : Sub Ls L]
    (q : Qr C ρ (SS C h Ls) op ty v) (k : JD C ops Q (SS C h Ls) M fuel (listed.setIfInBounds i true) ds (ρ.set d v) h L) (hn : Nat.blt d C.n = true := by rfl) :
    JD C ops Q (SS C h Ls) M (fuel + 1) listed ds ρ h L := fun a w ha hs => by
  simp only [takeOk, Bool.and_eq_true, Bool.not_eq_true'] at chk
  obtain ⟨⟨⟨⟨⟨c1, c2⟩, c3⟩, c4⟩, c5⟩, c6⟩ := chk
  have hSS : SS C h Ls w := ⟨h, L, Ext.refl h, sub.m, hs⟩
  refine wpAnyS_take ho c1 (all_calm c2) (fun _ _ _ => noP_panic) (fun _ _ => noP_out) (fun m hm o hmo => ?_) fuel listed a w (Region.free_spec ho c3) (by simpa using c4) (by simpa using c6) (.inl ⟨WantT.wanted ha hg, fun w' hw' => ?_⟩) hSS (k _ _ (ha.put hn v) hs)
  · have := List.all_eq_true.1 c5 m hm
    rw [hmo] at this
    obtain ⟨e, he, hx⟩ := Array.any_eq_true_iff_exists_mem'.1 this
    simp only [Bool.and_eq_true, beq_iff_eq] at hx
    exact ⟨e, he, hx.1, hx.2⟩
  · rw [ha.eval]; exact q.exec hw'
theorem JX.effB {o : Oper} (ho : ops[i]? = some o) (hM : M.contains i = false) (hg : WantT ops ρ o.guard)
    (k : JL C ops (fun e ds' ρ' h' L' => e = .normal ∧ Ext h h' ∧ Sub Ls L' ∧ JD C ops Q (SS C h' Ls) M fuel (listed.setIfInBounds i true) ds' ρ' h' L') [{ o with guard := none }] ds ρ h L) :
    JX C ops Q (SS C h Ls) M fuel listed ds ρ h L i := fun a w ha hs =>
  wpOp_of_JL ho hg k ha hs fun a w ds' ρ' h' L' x y ⟨e, sub, kd⟩ => by
    have hmono : ∀ w, SS C h' Ls w → SS C h Ls w := fun w ⟨h2, L2, e2, s2, st⟩ => ⟨h2, L2, ⟨fun b o hb => e2.le b o (e.le b o hb)⟩, s2, st⟩
    exact ⟨fun hm => absurd (by simpa using hm) (by simpa using hM), fun _ => ⟨hmono _ ⟨h', L', Ext.refl h', sub.m, y⟩, (kd a w x y).mono _ hmono⟩⟩
end takes

/-! ### Joins and loops -/
theorem J.joinK {α : Type} {x : Code} {K : List Deferred → Env → Heap → Own → Prop} (I : α → Heap → Own → Prop) (kv : List (Nat × Value)) (hk : Has ρ kv) (sl : α → List (Nat × Value))
    (hx : J C x (thenQ (fun ds' ρ' h' L' => ∃ z, ds' = ds ∧ Has ρ' kv ∧ Has ρ' (sl z) ∧ I z h' L' ∧ Ext h h') Q) ds ρ h L)
    (hy : ∀ z σ h' L', Step h h' → I z h' L' → K ds (setAll (setAll σ kv) (sl z)) h' L') : J C x (thenQ K Q) ds ρ h L := by
  refine hx.mono fun e ds' ρ' h' L' q => ?_
  cases e with
  | normal =>
    obtain ⟨z, rfl, k1, k2, k3, k4⟩ := q
    have := hy z ρ' h' L' k4.toStep k3
    rwa [setAll_self _ _ k1, setAll_self _ _ k2] at this
  | _ => exact q
theorem ret_okS {fn : Func} {rs : List ResultVar} {vs : List Value} {h0 : Heap} {L2 : Own} {R : Value → Heap → Own → Prop} {e : Exit} (hr : fn.results = ⟨rs⟩) [hx : Ext h0 h] (r : ResV C.P ρ L rs vs) (sp : Sp L2 L) (hR : R (pack vs) h L2) (he : e = .normal ∨ e = .ret := by first | exact Or.inr rfl | exact Or.inl rfl) :
    retQL C fn h0 R e [] ρ h L := ⟨⟨he, rfl, hx, _, RetR.of hr r, L2, sp.p, hR⟩⟩
theorem JL.fact (P : Heap → Prop) (hp : P h) (k : P h → JL C ops Q rest ds ρ h L) : JL C ops Q rest ds ρ h L := k hp
theorem muL {i n : Nat} (h : i < n) : n - (i + 1) < n - i := by omega
theorem muN {i n : Int} (h : i < n) : (n - (i + 1)).toNat < (n - i).toNat := by omega
end Go.Z
end
section
set_option linter.unusedSimpArgs false
set_option linter.unusedVariables false
/- How values of the program's types lie in memory. -/
set_option linter.unusedVariables false
set_option linter.unusedSimpArgs false
namespace Go.Z
open Go Go.RowKit
def TMatR (h : Heap) (cs : List Value) (x : TMat) : Prop := ∃ (p2 : Option Addr) (n2 c2 : Nat), cs = [.int .i64 x.Rows, .int .i64 x.Cols, .slice p2 n2 c2] ∧ Sls (LR IntR 2) 1 h (.slice p2 n2 c2) x.A
instance : Mo TMatR := ⟨fun e ⟨v0, v1, v2, a, f0⟩ => ⟨v0, v1, v2, a, f0.mono (e := e)⟩⟩
instance : Pl TMatR := ⟨fun ⟨v0, v1, v2, a, _⟩ u hu => by subst a; simp at hu; rcases hu with rfl | rfl | rfl <;> rfl⟩
def R06RawR (h : Heap) (cs : List Value) (x : R06Raw) : Prop := ∃ (p2 : Option Addr) (n2 c2 : Nat), cs = [.int .u8 x.Rows, .int .u8 x.Cols, .slice p2 n2 c2] ∧ Sls (KR .i8) 1 h (.slice p2 n2 c2) x.A
instance : Mo R06RawR := ⟨fun e ⟨v0, v1, v2, a, f0⟩ => ⟨v0, v1, v2, a, f0.mono (e := e)⟩⟩
instance : Pl R06RawR := ⟨fun ⟨v0, v1, v2, a, _⟩ u hu => by subst a; simp at hu; rcases hu with rfl | rfl | rfl <;> rfl⟩
def TTermR (h : Heap) (cs : List Value) (x : TTerm) : Prop := ∃ (g1 : Bool) (p1 : Option Addr) (n1 c1 : Nat), cs = [.int .i64 x.Col, .bool g1, .slice p1 n1 c1] ∧ IntR h [.bool g1, .slice p1 n1 c1] x.V
instance : Mo TTermR := ⟨fun e ⟨v0, v1, v2, v3, a, f0⟩ => ⟨v0, v1, v2, v3, a, Mo.m e f0⟩⟩
instance : Pl TTermR := ⟨fun ⟨v0, v1, v2, v3, a, _⟩ u hu => by subst a; simp at hu; rcases hu with rfl | rfl | rfl <;> rfl⟩
def TSparseR (h : Heap) (cs : List Value) (x : TSparse) : Prop := ∃ (p2 : Option Addr) (n2 c2 : Nat), cs = [.int .i64 x.Rows, .int .i64 x.Cols, .slice p2 n2 c2] ∧ Sls (LR TTermR 3) 1 h (.slice p2 n2 c2) x.L
instance : Mo TSparseR := ⟨fun e ⟨v0, v1, v2, a, f0⟩ => ⟨v0, v1, v2, a, f0.mono (e := e)⟩⟩
instance : Pl TSparseR := ⟨fun ⟨v0, v1, v2, a, _⟩ u hu => by subst a; simp at hu; rcases hu with rfl | rfl | rfl <;> rfl⟩
end Go.Z
end
section
set_option linter.unusedSimpArgs false
set_option linter.unusedVariables false
/- What the calculus must know of the types and functions of this seat: closed facts, each asked of the kernel. -/
namespace Go.Z
open Go Go.Proofs
instance : Kd Try.prog 2 .i64 := ⟨by kernel_rfl⟩
instance : Pr Try.prog 2 := pr_of (by kernel_rfl)
instance : Sz Try.prog 2 1 := sz_of (by kernel_rfl)
instance : By Try.prog 2 8 := by_of (by kernel_rfl)
instance : Zv Try.prog 2 [.int .i64 0] := zv_of (by kernel_rfl)
instance : Kd Try.prog 3 .i64 := ⟨by kernel_rfl⟩
instance : Pr Try.prog 3 := pr_of (by kernel_rfl)
instance : Sz Try.prog 3 1 := sz_of (by kernel_rfl)
instance : By Try.prog 3 8 := by_of (by kernel_rfl)
instance : Zv Try.prog 3 [.int .i64 0] := zv_of (by kernel_rfl)
instance : Bl Try.prog 4 := ⟨by kernel_rfl⟩
instance : Pr Try.prog 4 := pr_of (by kernel_rfl)
instance : Sz Try.prog 4 1 := sz_of (by kernel_rfl)
instance : By Try.prog 4 1 := by_of (by kernel_rfl)
instance : Zv Try.prog 4 [.bool false] := zv_of (by kernel_rfl)
instance : Kd Try.prog 5 .u8 := ⟨by kernel_rfl⟩
instance : Pr Try.prog 5 := pr_of (by kernel_rfl)
instance : Sz Try.prog 5 1 := sz_of (by kernel_rfl)
instance : By Try.prog 5 1 := by_of (by kernel_rfl)
instance : Zv Try.prog 5 [.int .u8 0] := zv_of (by kernel_rfl)
instance : Pr Try.prog 9 := pr_of (by kernel_rfl)
instance : Sz Try.prog 9 1 := sz_of (by kernel_rfl)
instance : By Try.prog 9 16 := by_of (by kernel_rfl)
instance : Zv Try.prog 9 [.string ⟨#[]⟩] := zv_of (by kernel_rfl)
instance : Sl Try.prog 22 26 := ⟨by kernel_rfl⟩
instance : Pr Try.prog 22 := pr_of (by kernel_rfl)
instance : Sz Try.prog 22 1 := sz_of (by kernel_rfl)
instance : By Try.prog 22 24 := by_of (by kernel_rfl)
instance : Zv Try.prog 22 [.slice none 0 0] := zv_of (by kernel_rfl)
instance : Ag1 Try.prog 24 3 := ag_of (by kernel_rfl) (by kernel_rfl)
instance : Sz Try.prog 24 3 := sz_of (by kernel_rfl)
instance : By Try.prog 24 40 := by_of (by kernel_rfl)
instance : Zv Try.prog 24 [.int .i64 0, .int .i64 0, .slice none 0 0] := zv_of (by kernel_rfl)
instance : StF Try.prog 24 [(0, 1), (1, 1), (2, 1)] [.int .i64 0, .int .i64 0, .slice none 0 0] := stf_of (by kernel_rfl) inferInstance
instance : Fo Try.prog 24 0 0 := fo_of 1 (by kernel_rfl) rfl
instance : Fo Try.prog 24 1 1 := fo_of 1 (by kernel_rfl) rfl
instance : Fo Try.prog 24 2 2 := fo_of 1 (by kernel_rfl) rfl
instance : Sl Try.prog 26 71 := ⟨by kernel_rfl⟩
instance : Pr Try.prog 26 := pr_of (by kernel_rfl)
instance : Sz Try.prog 26 1 := sz_of (by kernel_rfl)
instance : By Try.prog 26 24 := by_of (by kernel_rfl)
instance : Zv Try.prog 26 [.slice none 0 0] := zv_of (by kernel_rfl)
instance : Sl Try.prog 28 29 := ⟨by kernel_rfl⟩
instance : Pr Try.prog 28 := pr_of (by kernel_rfl)
instance : Sz Try.prog 28 1 := sz_of (by kernel_rfl)
instance : By Try.prog 28 24 := by_of (by kernel_rfl)
instance : Zv Try.prog 28 [.slice none 0 0] := zv_of (by kernel_rfl)
instance : Kd Try.prog 29 .i8 := ⟨by kernel_rfl⟩
instance : Pr Try.prog 29 := pr_of (by kernel_rfl)
instance : Sz Try.prog 29 1 := sz_of (by kernel_rfl)
instance : By Try.prog 29 1 := by_of (by kernel_rfl)
instance : Zv Try.prog 29 [.int .i8 0] := zv_of (by kernel_rfl)
instance : Ag1 Try.prog 30 2 := ag_of (by kernel_rfl) (by kernel_rfl)
instance : Sz Try.prog 30 2 := sz_of (by kernel_rfl)
instance : By Try.prog 30 2 := by_of (by kernel_rfl)
instance : Zv Try.prog 30 [.int .i8 0, .int .i8 0] := zv_of (by kernel_rfl)
instance : Sl Try.prog 32 37 := ⟨by kernel_rfl⟩
instance : Pr Try.prog 32 := pr_of (by kernel_rfl)
instance : Sz Try.prog 32 1 := sz_of (by kernel_rfl)
instance : By Try.prog 32 24 := by_of (by kernel_rfl)
instance : Zv Try.prog 32 [.slice none 0 0] := zv_of (by kernel_rfl)
instance : Sl Try.prog 33 37 := ⟨by kernel_rfl⟩
instance : Pr Try.prog 33 := pr_of (by kernel_rfl)
instance : Sz Try.prog 33 1 := sz_of (by kernel_rfl)
instance : By Try.prog 33 24 := by_of (by kernel_rfl)
instance : Zv Try.prog 33 [.slice none 0 0] := zv_of (by kernel_rfl)
instance : Sl Try.prog 35 78 := ⟨by kernel_rfl⟩
instance : Pr Try.prog 35 := pr_of (by kernel_rfl)
instance : Sz Try.prog 35 1 := sz_of (by kernel_rfl)
instance : By Try.prog 35 24 := by_of (by kernel_rfl)
instance : Zv Try.prog 35 [.slice none 0 0] := zv_of (by kernel_rfl)
instance : Ag1 Try.prog 37 2 := ag_of (by kernel_rfl) (by kernel_rfl)
instance : Sz Try.prog 37 2 := sz_of (by kernel_rfl)
instance : By Try.prog 37 32 := by_of (by kernel_rfl)
instance : Zv Try.prog 37 [.bool false, .slice none 0 0] := zv_of (by kernel_rfl)
instance : StF Try.prog 37 [(0, 1), (1, 1)] [.bool false, .slice none 0 0] := stf_of (by kernel_rfl) inferInstance
instance : Fo Try.prog 37 0 0 := fo_of 1 (by kernel_rfl) rfl
instance : Fo Try.prog 37 1 1 := fo_of 1 (by kernel_rfl) rfl
instance : Pr Try.prog 41 := pr_of (by kernel_rfl)
instance : Sz Try.prog 41 1 := sz_of (by kernel_rfl)
instance : By Try.prog 41 8 := by_of (by kernel_rfl)
instance : Zv Try.prog 41 [.nilFunc] := zv_of (by kernel_rfl)
instance : Ag1 Try.prog 46 3 := ag_of (by kernel_rfl) (by kernel_rfl)
instance : Sz Try.prog 46 3 := sz_of (by kernel_rfl)
instance : By Try.prog 46 32 := by_of (by kernel_rfl)
instance : Zv Try.prog 46 [.int .u8 0, .int .u8 0, .slice none 0 0] := zv_of (by kernel_rfl)
instance : StF Try.prog 46 [(0, 1), (1, 1), (2, 1)] [.int .u8 0, .int .u8 0, .slice none 0 0] := stf_of (by kernel_rfl) inferInstance
instance : Fo Try.prog 46 0 0 := fo_of 1 (by kernel_rfl) rfl
instance : Fo Try.prog 46 1 1 := fo_of 1 (by kernel_rfl) rfl
instance : Fo Try.prog 46 2 2 := fo_of 1 (by kernel_rfl) rfl
instance : Sl Try.prog 48 32 := ⟨by kernel_rfl⟩
instance : Pr Try.prog 48 := pr_of (by kernel_rfl)
instance : Sz Try.prog 48 1 := sz_of (by kernel_rfl)
instance : By Try.prog 48 24 := by_of (by kernel_rfl)
instance : Zv Try.prog 48 [.slice none 0 0] := zv_of (by kernel_rfl)
instance : Ag1 Try.prog 50 3 := ag_of (by kernel_rfl) (by kernel_rfl)
instance : Sz Try.prog 50 3 := sz_of (by kernel_rfl)
instance : By Try.prog 50 40 := by_of (by kernel_rfl)
instance : Zv Try.prog 50 [.int .i64 0, .int .i64 0, .slice none 0 0] := zv_of (by kernel_rfl)
instance : StF Try.prog 50 [(0, 1), (1, 1), (2, 1)] [.int .i64 0, .int .i64 0, .slice none 0 0] := stf_of (by kernel_rfl) inferInstance
instance : Fo Try.prog 50 0 0 := fo_of 1 (by kernel_rfl) rfl
instance : Fo Try.prog 50 1 1 := fo_of 1 (by kernel_rfl) rfl
instance : Fo Try.prog 50 2 2 := fo_of 1 (by kernel_rfl) rfl
instance : Kd Try.prog 52 .i64 := ⟨by kernel_rfl⟩
instance : Pr Try.prog 52 := pr_of (by kernel_rfl)
instance : Sz Try.prog 52 1 := sz_of (by kernel_rfl)
instance : By Try.prog 52 8 := by_of (by kernel_rfl)
instance : Zv Try.prog 52 [.int .i64 0] := zv_of (by kernel_rfl)
instance : Ag1 Try.prog 71 3 := ag_of (by kernel_rfl) (by kernel_rfl)
instance : Sz Try.prog 71 3 := sz_of (by kernel_rfl)
instance : By Try.prog 71 40 := by_of (by kernel_rfl)
instance : Zv Try.prog 71 [.int .i64 0, .bool false, .slice none 0 0] := zv_of (by kernel_rfl)
instance : StF Try.prog 71 [(0, 1), (1, 2)] [.int .i64 0, .bool false, .slice none 0 0] := stf_of (by kernel_rfl) inferInstance
instance : Fo Try.prog 71 0 0 := fo_of 1 (by kernel_rfl) rfl
instance : Fo Try.prog 71 1 1 := fo_of 2 (by kernel_rfl) rfl
instance : Kd Try.prog 76 .u64 := ⟨by kernel_rfl⟩
instance : Pr Try.prog 76 := pr_of (by kernel_rfl)
instance : Sz Try.prog 76 1 := sz_of (by kernel_rfl)
instance : By Try.prog 76 8 := by_of (by kernel_rfl)
instance : Zv Try.prog 76 [.int .u64 0] := zv_of (by kernel_rfl)
instance : Kd Try.prog 78 .u32 := ⟨by kernel_rfl⟩
instance : Pr Try.prog 78 := pr_of (by kernel_rfl)
instance : Sz Try.prog 78 1 := sz_of (by kernel_rfl)
instance : By Try.prog 78 4 := by_of (by kernel_rfl)
instance : Zv Try.prog 78 [.int .u32 0] := zv_of (by kernel_rfl)
instance : Kd Try.prog 79 .u64 := ⟨by kernel_rfl⟩
instance : Pr Try.prog 79 := pr_of (by kernel_rfl)
instance : Sz Try.prog 79 1 := sz_of (by kernel_rfl)
instance : By Try.prog 79 8 := by_of (by kernel_rfl)
instance : Zv Try.prog 79 [.int .u64 0] := zv_of (by kernel_rfl)
instance : Pr Try.prog 80 := pr_of (by kernel_rfl)
instance : Sz Try.prog 80 1 := sz_of (by kernel_rfl)
instance : By Try.prog 80 8 := by_of (by kernel_rfl)
instance : Zv Try.prog 80 [.nilFunc] := zv_of (by kernel_rfl)
instance : Pr Try.prog 81 := pr_of (by kernel_rfl)
instance : Sz Try.prog 81 1 := sz_of (by kernel_rfl)
instance : By Try.prog 81 8 := by_of (by kernel_rfl)
instance : Zv Try.prog 81 [.nilFunc] := zv_of (by kernel_rfl)
instance : Pr Try.prog 90 := pr_of (by kernel_rfl)
instance : Sz Try.prog 90 1 := sz_of (by kernel_rfl)
instance : By Try.prog 90 8 := by_of (by kernel_rfl)
instance : Zv Try.prog 90 [.nilFunc] := zv_of (by kernel_rfl)
instance : Pr Try.prog 92 := pr_of (by kernel_rfl)
instance : Sz Try.prog 92 1 := sz_of (by kernel_rfl)
instance : By Try.prog 92 8 := by_of (by kernel_rfl)
instance : Zv Try.prog 92 [.nilFunc] := zv_of (by kernel_rfl)
instance : Sl Try.prog 94 22 := ⟨by kernel_rfl⟩
instance : Pr Try.prog 94 := pr_of (by kernel_rfl)
instance : Sz Try.prog 94 1 := sz_of (by kernel_rfl)
instance : By Try.prog 94 24 := by_of (by kernel_rfl)
instance : Zv Try.prog 94 [.slice none 0 0] := zv_of (by kernel_rfl)
instance : Pr Try.prog 96 := pr_of (by kernel_rfl)
instance : Sz Try.prog 96 1 := sz_of (by kernel_rfl)
instance : By Try.prog 96 8 := by_of (by kernel_rfl)
instance : Zv Try.prog 96 [.map none] := zv_of (by kernel_rfl)
instance : Sl Try.prog 97 3 := ⟨by kernel_rfl⟩
instance : Pr Try.prog 97 := pr_of (by kernel_rfl)
instance : Sz Try.prog 97 1 := sz_of (by kernel_rfl)
instance : By Try.prog 97 24 := by_of (by kernel_rfl)
instance : Zv Try.prog 97 [.slice none 0 0] := zv_of (by kernel_rfl)
instance : Pr Try.prog 99 := pr_of (by kernel_rfl)
instance : Sz Try.prog 99 1 := sz_of (by kernel_rfl)
instance : By Try.prog 99 8 := by_of (by kernel_rfl)
instance : Zv Try.prog 99 [.nilFunc] := zv_of (by kernel_rfl)
instance : Pr Try.prog 100 := pr_of (by kernel_rfl)
instance : Sz Try.prog 100 1 := sz_of (by kernel_rfl)
instance : By Try.prog 100 8 := by_of (by kernel_rfl)
instance : Zv Try.prog 100 [.nilFunc] := zv_of (by kernel_rfl)
instance : Pr Try.prog 102 := pr_of (by kernel_rfl)
instance : Sz Try.prog 102 1 := sz_of (by kernel_rfl)
instance : By Try.prog 102 8 := by_of (by kernel_rfl)
instance : Zv Try.prog 102 [.nilFunc] := zv_of (by kernel_rfl)
instance : Pr Try.prog 104 := pr_of (by kernel_rfl)
instance : Sz Try.prog 104 1 := sz_of (by kernel_rfl)
instance : By Try.prog 104 8 := by_of (by kernel_rfl)
instance : Zv Try.prog 104 [.nilFunc] := zv_of (by kernel_rfl)
instance : Pr Try.prog 111 := pr_of (by kernel_rfl)
instance : Sz Try.prog 111 1 := sz_of (by kernel_rfl)
instance : By Try.prog 111 8 := by_of (by kernel_rfl)
instance : Zv Try.prog 111 [.nilFunc] := zv_of (by kernel_rfl)
instance : Kd Try.prog 117 .i64 := ⟨by kernel_rfl⟩
instance : Pr Try.prog 117 := pr_of (by kernel_rfl)
instance : Sz Try.prog 117 1 := sz_of (by kernel_rfl)
instance : By Try.prog 117 8 := by_of (by kernel_rfl)
instance : Zv Try.prog 117 [.int .i64 0] := zv_of (by kernel_rfl)
instance : Kd Try.prog 126 .u64 := ⟨by kernel_rfl⟩
instance : Pr Try.prog 126 := pr_of (by kernel_rfl)
instance : Sz Try.prog 126 1 := sz_of (by kernel_rfl)
instance : By Try.prog 126 8 := by_of (by kernel_rfl)
instance : Zv Try.prog 126 [.int .u64 0] := zv_of (by kernel_rfl)
instance : Pr Try.prog 130 := pr_of (by kernel_rfl)
instance : Sz Try.prog 130 1 := sz_of (by kernel_rfl)
instance : By Try.prog 130 8 := by_of (by kernel_rfl)
instance : Zv Try.prog 130 [.pointer none] := zv_of (by kernel_rfl)
instance : Pr Try.prog 132 := pr_of (by kernel_rfl)
instance : Sz Try.prog 132 1 := sz_of (by kernel_rfl)
instance : By Try.prog 132 8 := by_of (by kernel_rfl)
instance : Zv Try.prog 132 [.pointer none] := zv_of (by kernel_rfl)
instance : Ent Try.prog 3 := ent_of Try.func3 (by kernel_rfl)
instance : Ent Try.prog 4 := ent_of Try.func4 (by kernel_rfl)
instance : Ent Try.prog 5 := ent_of Try.func5 (by kernel_rfl)
instance : Ent Try.prog 6 := ent_of Try.func6 (by kernel_rfl)
instance : Ent Try.prog 7 := ent_of Try.func7 (by kernel_rfl)
instance : Ent Try.prog 8 := ent_of Try.func8 (by kernel_rfl)
instance : Ent Try.prog 9 := ent_of Try.func9 (by kernel_rfl)
instance : Ent Try.prog 10 := ent_of Try.func10 (by kernel_rfl)
instance : Ent Try.prog 11 := ent_of Try.func11 (by kernel_rfl)
instance : Ent Try.prog 12 := ent_of Try.func12 (by kernel_rfl)
instance : Ent Try.prog 13 := ent_of Try.func13 (by kernel_rfl)
instance : Ent Try.prog 14 := ent_of Try.func14 (by kernel_rfl)
instance : Ent Try.prog 15 := ent_of Try.func15 (by kernel_rfl)
instance : Ent Try.prog 16 := ent_of Try.func16 (by kernel_rfl)
instance : Ent Try.prog 17 := ent_of Try.func17 (by kernel_rfl)
instance : Ent Try.prog 18 := ent_of Try.func18 (by kernel_rfl)
instance : Ent Try.prog 19 := ent_of Try.func19 (by kernel_rfl)
instance : Ent Try.prog 20 := ent_of Try.func20 (by kernel_rfl)
instance : Ent Try.prog 21 := ent_of Try.func21 (by kernel_rfl)
instance : Ent Try.prog 22 := ent_of Try.func22 (by kernel_rfl)
instance : Ent Try.prog 23 := ent_of Try.func23 (by kernel_rfl)
instance : Ent Try.prog 24 := ent_of Try.func24 (by kernel_rfl)
instance : Ent Try.prog 25 := ent_of Try.func25 (by kernel_rfl)
instance : Ent Try.prog 26 := ent_of Try.func26 (by kernel_rfl)
instance : Ent Try.prog 27 := ent_of Try.func27 (by kernel_rfl)
instance : Ent Try.prog 28 := ent_of Try.func28 (by kernel_rfl)
instance : Ent Try.prog 29 := ent_of Try.func29 (by kernel_rfl)
instance : Ent Try.prog 30 := ent_of Try.func30 (by kernel_rfl)
instance : Ent Try.prog 31 := ent_of Try.func31 (by kernel_rfl)
instance : Ent Try.prog 32 := ent_of Try.func32 (by kernel_rfl)
instance : Ent Try.prog 33 := ent_of Try.func33 (by kernel_rfl)
instance : Ent Try.prog 34 := ent_of Try.func34 (by kernel_rfl)
instance : Ent Try.prog 35 := ent_of Try.func35 (by kernel_rfl)
instance : Ent Try.prog 36 := ent_of Try.func36 (by kernel_rfl)
instance : Ent Try.prog 37 := ent_of Try.func37 (by kernel_rfl)
instance : Ent Try.prog 38 := ent_of Try.func38 (by kernel_rfl)
instance : Ent Try.prog 39 := ent_of Try.func39 (by kernel_rfl)
instance : Ent Try.prog 40 := ent_of Try.func40 (by kernel_rfl)
instance : Ent Try.prog 41 := ent_of Try.func41 (by kernel_rfl)
instance : Ent Try.prog 42 := ent_of Try.func42 (by kernel_rfl)
instance : Ent Try.prog 43 := ent_of Try.func43 (by kernel_rfl)
instance : Ent Try.prog 44 := ent_of Try.func44 (by kernel_rfl)
instance : Ent Try.prog 45 := ent_of Try.func45 (by kernel_rfl)
instance : Ent Try.prog 46 := ent_of Try.func46 (by kernel_rfl)
instance : Ent Try.prog 47 := ent_of Try.func47 (by kernel_rfl)
instance : Ent Try.prog 48 := ent_of Try.func48 (by kernel_rfl)
instance : Ent Try.prog 49 := ent_of Try.func49 (by kernel_rfl)
instance : Ent Try.prog 50 := ent_of Try.func50 (by kernel_rfl)
instance : Ent Try.prog 51 := ent_of Try.func51 (by kernel_rfl)
instance : Ent Try.prog 52 := ent_of Try.func52 (by kernel_rfl)
instance : Ent Try.prog 53 := ent_of Try.func53 (by kernel_rfl)
instance : Ent Try.prog 54 := ent_of Try.func54 (by kernel_rfl)
instance : Ent Try.prog 55 := ent_of Try.func55 (by kernel_rfl)
instance : Ent Try.prog 56 := ent_of Try.func56 (by kernel_rfl)
instance : Ent Try.prog 57 := ent_of Try.func57 (by kernel_rfl)
instance : Ent Try.prog 58 := ent_of Try.func58 (by kernel_rfl)
instance : Ent Try.prog 59 := ent_of Try.func59 (by kernel_rfl)
instance : Ent Try.prog 60 := ent_of Try.func60 (by kernel_rfl)
instance : Ent Try.prog 61 := ent_of Try.func61 (by kernel_rfl)
instance : Ent Try.prog 62 := ent_of Try.func62 (by kernel_rfl)
instance : Ent Try.prog 63 := ent_of Try.func63 (by kernel_rfl)
instance : Ent Try.prog 64 := ent_of Try.func64 (by kernel_rfl)
instance : Ent Try.prog 65 := ent_of Try.func65 (by kernel_rfl)
instance : Ent Try.prog 66 := ent_of Try.func66 (by kernel_rfl)
instance : Ent Try.prog 67 := ent_of Try.func67 (by kernel_rfl)
instance : Ent Try.prog 68 := ent_of Try.func68 (by kernel_rfl)
instance : Ent Try.prog 69 := ent_of Try.func69 (by kernel_rfl)
instance : Ent Try.prog 70 := ent_of Try.func70 (by kernel_rfl)
instance : Ent Try.prog 71 := ent_of Try.func71 (by kernel_rfl)
instance : Ent Try.prog 72 := ent_of Try.func72 (by kernel_rfl)
instance : Ent Try.prog 73 := ent_of Try.func73 (by kernel_rfl)
instance : Ent Try.prog 74 := ent_of Try.func74 (by kernel_rfl)
instance : Ent Try.prog 75 := ent_of Try.func75 (by kernel_rfl)
instance : Ent Try.prog 76 := ent_of Try.func76 (by kernel_rfl)
instance : Ent Try.prog 77 := ent_of Try.func77 (by kernel_rfl)
instance : Ent Try.prog 78 := ent_of Try.func78 (by kernel_rfl)
instance : Ent Try.prog 79 := ent_of Try.func79 (by kernel_rfl)
instance : Ent Try.prog 80 := ent_of Try.func80 (by kernel_rfl)
instance : Ent Try.prog 81 := ent_of Try.func81 (by kernel_rfl)
instance : Ent Try.prog 82 := ent_of Try.func82 (by kernel_rfl)
instance : Ent Try.prog 83 := ent_of Try.func83 (by kernel_rfl)
instance : Ent Try.prog 84 := ent_of Try.func84 (by kernel_rfl)
instance : Ent Try.prog 85 := ent_of Try.func85 (by kernel_rfl)
instance : Ent Try.prog 86 := ent_of Try.func86 (by kernel_rfl)
instance : Ent Try.prog 87 := ent_of Try.func87 (by kernel_rfl)
instance : Ent Try.prog 88 := ent_of Try.func88 (by kernel_rfl)
instance : Ent Try.prog 89 := ent_of Try.func89 (by kernel_rfl)
instance : Ent Try.prog 90 := ent_of Try.func90 (by kernel_rfl)
instance : Ent Try.prog 91 := ent_of Try.func91 (by kernel_rfl)
instance : Ent Try.prog 92 := ent_of Try.func92 (by kernel_rfl)
instance : Ent Try.prog 93 := ent_of Try.func93 (by kernel_rfl)
instance : Ent Try.prog 94 := ent_of Try.func94 (by kernel_rfl)
instance : Ent Try.prog 95 := ent_of Try.func95 (by kernel_rfl)
instance : Ent Try.prog 96 := ent_of Try.func96 (by kernel_rfl)
instance : Ent Try.prog 97 := ent_of Try.func97 (by kernel_rfl)
instance : Ent Try.prog 98 := ent_of Try.func98 (by kernel_rfl)
instance : Ent Try.prog 99 := ent_of Try.func99 (by kernel_rfl)
instance : Ent Try.prog 100 := ent_of Try.func100 (by kernel_rfl)
instance : Ent Try.prog 101 := ent_of Try.func101 (by kernel_rfl)
instance : Ent Try.prog 102 := ent_of Try.func102 (by kernel_rfl)
instance : Ent Try.prog 103 := ent_of Try.func103 (by kernel_rfl)
instance : Mix Try.prog := ⟨by kernel_rfl⟩
end Go.Z
end
section
set_option linter.unusedSimpArgs false
set_option linter.unusedVariables false
/- The functions of package integer and of its reference, walked: what each gives, for integers of any size. -/
set_option linter.unusedSimpArgs false
set_option linter.unusedVariables false
namespace Go.Z
open Go Go.RowKit Go.Proofs
theorem norm_fn {h : Heap} {v : Value} {l : List Nat} {neg : Bool} (hv : MagAt h v l) (hN : l.length ≤ 1000000000) :
    Fn Try.prog 66 #[v, .bool neg] h fun r h' => IntAt h' r (if neg then -(val l : Int) else (val l : Int)) := by
  obtain ⟨p, c, rfl, hc⟩ := hv.out
  refine Fn.intro (args := [_, _]) Try.func66 rfl rfl (Nat.le_of_ble_eq_true rfl) fun w => ?_
  refine J.seq ?_
  refine J.region ?_
  refine o_al (fun b4 => ?_)
  refine JL.nil ?_
  refine J.scope ?_
  refine J.seq ?_
  refine J.region ?_
  first | refine o_q (q_mvv (v := .slice _ _ _) rfl) ?_ | refine o_q (q_mv) ?_
  refine o_q (q_len rfl) ?_
  first | refine o_q (q_asv (v := .int _ _) rfl) ?_ | refine o_q (q_as) ?_
  refine JL.nil ?_
  refine J.seq ?_
  refine J.label ?_
  -- cut: kept [0, 1, 4], said [5]
  first | refine J.cutK (α := Nat) (fun m h' L' => m ≤ l.length ∧ l.take m = trim l ∧ L' = [(b4, row 37 [.bool false, .slice none 0 0])]) [(0, .slice _ _ _), (1, .bool _), (4, .pointer _)] ⟨rfl, rfl, rfl, trivial⟩ (fun m => [(5, .int .i64 (m : Int))]) ?_ ?_ | refine J.cutK (α := Nat) (fun m h' L' => m ≤ l.length ∧ l.take m = trim l ∧ L' = [(b4, row 37 [.bool false, .slice none 0 0])]) [(0, _), (1, _), (4, _)] ⟨rfl, rfl, rfl, trivial⟩ (fun m => [(5, .int .i64 (m : Int))]) ?_ ?_
  ·
    refine J.block ?_
    -- loop 0: kept [0, 1, 4], said [5]
    first | refine J.loopK (α := Nat) (fun m h' L' => m ≤ l.length ∧ (∀ j x, m ≤ j → l[j]? = some x → x = 0) ∧ L' = [(b4, row 37 [.bool false, .slice none 0 0])]) [(0, .slice _ _ _), (1, .bool _), (4, .pointer _)] ⟨rfl, rfl, rfl, trivial⟩ (fun m => [(5, .int .i64 (m : Int))]) (fun m => m) (l.length) ⟨Nat.le_refl _, fun j x hj hx => (by rw [List.getElem?_eq_none hj] at hx; cases hx), rfl⟩ ⟨rfl, trivial⟩ ?_ | refine J.loopK (α := Nat) (fun m h' L' => m ≤ l.length ∧ (∀ j x, m ≤ j → l[j]? = some x → x = 0) ∧ L' = [(b4, row 37 [.bool false, .slice none 0 0])]) [(0, _), (1, _), (4, _)] ⟨rfl, rfl, rfl, trivial⟩ (fun m => [(5, .int .i64 (m : Int))]) (fun m => m) (l.length) ⟨Nat.le_refl _, fun j x hj hx => (by rw [List.getElem?_eq_none hj] at hx; cases hx), rfl⟩ ⟨rfl, trivial⟩ ?_
    rintro m σ h1 L1 s1 ⟨hm, hz, rfl⟩
    refine J.seq ?_
    refine J.seq ?_
    refine J.region ?_
    first | refine o_q (q_mvv (v := .int _ _) rfl) ?_ | refine o_q (q_mv) ?_
    refine o_q (q_gtr rfl rfl) ?_
    refine JL.nil ?_
    refine J.condD rfl (fun c0 => ?_) (fun c0 => ?_)
    ·
      refine J.skip ?_
      refine J.block ?_
      refine J.seq ?_
      refine J.seq ?_
      refine J.region ?_
      first | refine o_q (q_mvv (v := .slice _ _ _) rfl) ?_ | refine o_q (q_mv) ?_
      first | refine o_q (q_mvv (v := .int _ _) rfl) ?_ | refine o_q (q_mv) ?_
      refine o_q (q_sub (c := ((m - 1 : Nat) : Int)) rfl rfl (by rw [wi64 (by omega)]; omega)) ?_
      obtain ⟨b, o, x, rfl, hx, hxb, hcell⟩ := MagAt.limb (j := m - 1) hv (by omega)
      refine o_q (q_ia rfl rfl (by omega)) ?_
      refine o_q (q_ldf rfl hcell) ?_
      refine o_q (q_neq rfl rfl) ?_
      refine JL.nil ?_
      refine J.condD rfl (fun hx0 => ?_) (fun hx0 => ?_)
      ·
        refine J.exit ?_
        exact ⟨m, rfl, ⟨rfl, rfl, rfl, trivial⟩, ⟨rfl, trivial⟩, ⟨hm, take_trim hm hz (fun y hy0 hy => by first | (rw [hx] at hy; cases hy; omega) | omega), rfl⟩, inferInstance⟩
      ·
        refine J.skip ?_
        refine J.region ?_
        first | refine o_q (q_mvv (v := .int _ _) rfl) ?_ | refine o_q (q_mv) ?_
        refine o_q (q_sub (c := ((m - 1 : Nat) : Int)) rfl rfl (by rw [wi64 (by omega)]; omega)) ?_
        first | refine o_q (q_asv (v := .int _ _) rfl) ?_ | refine o_q (q_as) ?_
        refine JL.nil ?_
        exact ⟨m - 1, rfl, ⟨rfl, rfl, rfl, trivial⟩, ⟨rfl, trivial⟩, ⟨by omega, fun j y hj hy => by
          rcases Nat.lt_or_ge j m with h2 | h2
          · obtain rfl : j = m - 1 := by omega
            rw [hx] at hy; cases hy; omega
          · exact hz j y h2 hy, rfl⟩, by omega, inferInstance⟩
    ·
      refine J.exit ?_
      exact ⟨m, rfl, ⟨rfl, rfl, rfl, trivial⟩, ⟨rfl, trivial⟩, ⟨hm, take_trim hm hz (fun y hy0 hy => by first | (rw [hx] at hy; cases hy; omega) | omega), rfl⟩, inferInstance⟩
  ·
    rintro m σ2 h2 L2 s2 ⟨hm, ht, rfl⟩
    refine J.seq ?_
    cases neg
    ·
      refine J.region ?_
      first | refine o_q (q_mvv (v := .bool _) rfl) ?_ | refine o_q (q_mv) ?_
      first | refine o_q (q_mvv (v := .bool _) rfl) ?_ | refine o_q (q_mv) ?_
      refine JL.guardF rfl rfl rfl rfl ?_
      refine JL.guardF rfl rfl rfl rfl ?_
      refine o_q (q_pickF rfl rfl) ?_
      first | refine o_q (q_mvv (v := .slice _ _ _) rfl) ?_ | refine o_q (q_mv) ?_
      first | refine o_q (q_mvv (v := .int _ _) rfl) ?_ | refine o_q (q_mv) ?_
      first | refine o_q (q_mvv (v := .int _ _) rfl) ?_ | refine o_q (q_mv) ?_
      refine o_q (q_slHM rfl rfl rfl (by omega)) ?_
      first | refine o_q (q_bd [.bool _, .slice _ _ _] rfl) ?_ | refine o_q (q_bd [_, _] rfl) ?_
      refine o_stw (vs := [_, _]) rfl rfl rfl inferInstance rfl rfl ?_
      refine JL.nil ?_
      refine J.ret ?_
      have hmag : MagAt h2 (.slice p m m) (l.take m) := (hv.take hm (Nat.le_refl m)).mono
      have hi := fun neg => IntAt.mk (neg := neg) hmag (by rw [ht, trim_eq hv.2, trim_limbs])
      simp only [ht, val_take_trim hv.2] at hi
      have hd : decide (0 < (m : Int)) = decide (trim l ≠ []) := by
        rw [← ht]; refine decide_eq_decide.2 ⟨fun h1 h2 => ?_, fun h1 => ?_⟩
        · have := congrArg List.length h2; rw [List.length_take, List.length_nil] at this; omega
        · rcases Nat.eq_zero_or_pos m with h3 | h3
          · subst h3; simp at h1
          · omega
      refine ret_ok (fn := Try.f66) rfl (.agg rfl inferInstance inferInstance .nil) ?_
      first | exact hi false | (have := hi true; rw [Bool.true_and, ← hd] at this; exact this)
    ·
      refine J.region ?_
      first | refine o_q (q_mvv (v := .bool _) rfl) ?_ | refine o_q (q_mv) ?_
      first | refine o_q (q_mvv (v := .bool _) rfl) ?_ | refine o_q (q_mv) ?_
      refine JL.guardT rfl rfl rfl ?_
      first | refine o_q (q_mvv (v := .int _ _) rfl) ?_ | refine o_q (q_mv) ?_
      refine JL.guardT rfl rfl rfl ?_
      refine o_q (q_gtr rfl rfl) ?_
      first | refine o_q (q_pickTv (v := .bool _) rfl rfl rfl) ?_ | refine o_q (q_pickT rfl rfl) ?_
      first | refine o_q (q_mvv (v := .slice _ _ _) rfl) ?_ | refine o_q (q_mv) ?_
      first | refine o_q (q_mvv (v := .int _ _) rfl) ?_ | refine o_q (q_mv) ?_
      first | refine o_q (q_mvv (v := .int _ _) rfl) ?_ | refine o_q (q_mv) ?_
      refine o_q (q_slHM rfl rfl rfl (by omega)) ?_
      first | refine o_q (q_bd [.bool _, .slice _ _ _] rfl) ?_ | refine o_q (q_bd [_, _] rfl) ?_
      refine o_stw (vs := [_, _]) rfl rfl rfl inferInstance rfl rfl ?_
      refine JL.nil ?_
      refine J.ret ?_
      have hmag : MagAt h2 (.slice p m m) (l.take m) := (hv.take hm (Nat.le_refl m)).mono
      have hi := fun neg => IntAt.mk (neg := neg) hmag (by rw [ht, trim_eq hv.2, trim_limbs])
      simp only [ht, val_take_trim hv.2] at hi
      have hd : decide (0 < (m : Int)) = decide (trim l ≠ []) := by
        rw [← ht]; refine decide_eq_decide.2 ⟨fun h1 h2 => ?_, fun h1 => ?_⟩
        · have := congrArg List.length h2; rw [List.length_take, List.length_nil] at this; omega
        · rcases Nat.eq_zero_or_pos m with h3 | h3
          · subst h3; simp at h1
          · omega
      refine ret_ok (fn := Try.f66) rfl (.agg rfl inferInstance inferInstance .nil) ?_
      first | exact hi false | (have := hi true; rw [Bool.true_and, ← hd] at this; exact this)
theorem made_fn {h : Heap} {v : Value} {l : List Nat} {neg : Bool} (hv : MagAt h v l) (hN : l.length ≤ 1000000000) :
    Fn Try.prog 48 #[v, .bool neg] h fun r h' => IntAt h' r (if neg then -(val l : Int) else (val l : Int)) := by
  obtain ⟨p, c, rfl, hc⟩ := hv.out
  refine Fn.intro (args := [_, _]) Try.func48 rfl rfl (Nat.le_of_ble_eq_true rfl) fun w => ?_
  refine J.seq ?_
  refine J.region ?_
  refine o_al (fun b4 => ?_)
  refine JL.nil ?_
  refine J.seq ?_
  refine J.region ?_
  first | refine o_q (q_mvv (v := .slice _ _ _) rfl) ?_ | refine o_q (q_mv) ?_
  refine o_q (q_len rfl) ?_
  first | refine o_q (q_asv (v := .int _ _) rfl) ?_ | refine o_q (q_as) ?_
  refine JL.nil ?_
  -- cut: kept [0, 1, 4], said [5]
  first | refine J.cutK (α := Nat) (fun m h' L' => m ≤ l.length ∧ l.take m = trim l ∧ L' = [(b4, row 37 [.bool false, .slice none 0 0])]) [(0, .slice _ _ _), (1, .bool _), (4, .pointer _)] ⟨rfl, rfl, rfl, trivial⟩ (fun m => [(5, .int .i64 (m : Int))]) ?_ ?_ | refine J.cutK (α := Nat) (fun m h' L' => m ≤ l.length ∧ l.take m = trim l ∧ L' = [(b4, row 37 [.bool false, .slice none 0 0])]) [(0, _), (1, _), (4, _)] ⟨rfl, rfl, rfl, trivial⟩ (fun m => [(5, .int .i64 (m : Int))]) ?_ ?_
  ·
    refine J.block ?_
    -- loop 0: kept [0, 1, 4], said [5]
    first | refine J.loopK (α := Nat) (fun m h' L' => m ≤ l.length ∧ (∀ j x, m ≤ j → l[j]? = some x → x = 0) ∧ L' = [(b4, row 37 [.bool false, .slice none 0 0])]) [(0, .slice _ _ _), (1, .bool _), (4, .pointer _)] ⟨rfl, rfl, rfl, trivial⟩ (fun m => [(5, .int .i64 (m : Int))]) (fun m => m) (l.length) ⟨Nat.le_refl _, fun j x hj hx => (by rw [List.getElem?_eq_none hj] at hx; cases hx), rfl⟩ ⟨rfl, trivial⟩ ?_ | refine J.loopK (α := Nat) (fun m h' L' => m ≤ l.length ∧ (∀ j x, m ≤ j → l[j]? = some x → x = 0) ∧ L' = [(b4, row 37 [.bool false, .slice none 0 0])]) [(0, _), (1, _), (4, _)] ⟨rfl, rfl, rfl, trivial⟩ (fun m => [(5, .int .i64 (m : Int))]) (fun m => m) (l.length) ⟨Nat.le_refl _, fun j x hj hx => (by rw [List.getElem?_eq_none hj] at hx; cases hx), rfl⟩ ⟨rfl, trivial⟩ ?_
    rintro m σ h1 L1 s1 ⟨hm, hz, rfl⟩
    refine J.seq ?_
    refine J.seq ?_
    rcases Nat.eq_zero_or_pos m with hm0 | hm0
    ·
      refine J.region ?_
      first | refine o_q (q_mvv (v := .int _ _) rfl) ?_ | refine o_q (q_mv) ?_
      refine o_q (q_gtr rfl rfl) ?_
      first | refine o_q (q_mvv (v := .bool _) rfl) ?_ | refine o_q (q_mv) ?_
      refine JL.guardF rfl rfl (decide_eq_false (by omega)) rfl ?_
      refine JL.guardF rfl rfl (decide_eq_false (by omega)) rfl ?_
      refine JL.guardF rfl rfl (decide_eq_false (by omega)) rfl ?_
      refine JL.guardF rfl rfl (decide_eq_false (by omega)) rfl ?_
      refine JL.guardF rfl rfl (decide_eq_false (by omega)) rfl ?_
      refine JL.guardF rfl rfl (decide_eq_false (by omega)) rfl ?_
      refine o_q (q_pickF rfl (decide_eq_false (by omega))) ?_
      refine JL.nil ?_
      refine J.condF rfl rfl ?_
      refine J.exit ?_
      exact ⟨m, rfl, ⟨rfl, rfl, rfl, trivial⟩, ⟨rfl, trivial⟩, ⟨hm, take_trim hm hz (fun y hy0 hy => by first | (rw [hx] at hy; cases hy; omega) | omega), rfl⟩, inferInstance⟩
    ·
      refine J.region ?_
      first | refine o_q (q_mvv (v := .int _ _) rfl) ?_ | refine o_q (q_mv) ?_
      refine o_q (q_gtr rfl rfl) ?_
      first | refine o_q (q_mvv (v := .bool _) rfl) ?_ | refine o_q (q_mv) ?_
      refine JL.guardT rfl rfl (decide_eq_true (by omega)) ?_
      first | refine o_q (q_mvv (v := .slice _ _ _) rfl) ?_ | refine o_q (q_mv) ?_
      refine JL.guardT rfl rfl (decide_eq_true (by omega)) ?_
      first | refine o_q (q_mvv (v := .int _ _) rfl) ?_ | refine o_q (q_mv) ?_
      refine JL.guardT rfl rfl (decide_eq_true (by omega)) ?_
      refine o_q (q_sub (c := ((m - 1 : Nat) : Int)) rfl rfl (by rw [wi64 (by omega)]; omega)) ?_
      refine JL.guardT rfl rfl (decide_eq_true (by omega)) ?_
      obtain ⟨b, o, x, rfl, hx, hxb, hcell⟩ := MagAt.limb (j := m - 1) hv (by omega)
      refine o_q (q_ia rfl rfl (by omega)) ?_
      refine JL.guardT rfl rfl (decide_eq_true (by omega)) ?_
      refine o_q (q_ldf rfl hcell) ?_
      refine JL.guardT rfl rfl (decide_eq_true (by omega)) ?_
      refine o_q (q_eql rfl rfl) ?_
      first | refine o_q (q_pickTv (v := .bool _) rfl (decide_eq_true (by omega)) rfl) ?_ | refine o_q (q_pickT rfl (decide_eq_true (by omega))) ?_
      refine JL.nil ?_
      refine J.condD rfl (fun hx0 => ?_) (fun hx0 => ?_)
      ·
        refine J.skip ?_
        refine J.block ?_
        refine J.region ?_
        first | refine o_q (q_mvv (v := .int _ _) rfl) ?_ | refine o_q (q_mv) ?_
        refine o_q (q_sub (c := ((m - 1 : Nat) : Int)) rfl rfl (by rw [wi64 (by omega)]; omega)) ?_
        first | refine o_q (q_asv (v := .int _ _) rfl) ?_ | refine o_q (q_as) ?_
        refine JL.nil ?_
        exact ⟨m - 1, rfl, ⟨rfl, rfl, rfl, trivial⟩, ⟨rfl, trivial⟩, ⟨by omega, fun j y hj hy => by
          rcases Nat.lt_or_ge j m with h2 | h2
          · obtain rfl : j = m - 1 := by omega
            rw [hx] at hy; cases hy; omega
          · exact hz j y h2 hy, rfl⟩, by omega, inferInstance⟩
      ·
        refine J.exit ?_
        exact ⟨m, rfl, ⟨rfl, rfl, rfl, trivial⟩, ⟨rfl, trivial⟩, ⟨hm, take_trim hm hz (fun y hy0 hy => by first | (rw [hx] at hy; cases hy; omega) | omega), rfl⟩, inferInstance⟩
  ·
    rintro m σ2 h2 L2 s2 ⟨hm, ht, rfl⟩
    refine J.seq ?_
    cases neg
    ·
      refine J.region ?_
      first | refine o_q (q_mvv (v := .bool _) rfl) ?_ | refine o_q (q_mv) ?_
      first | refine o_q (q_mvv (v := .bool _) rfl) ?_ | refine o_q (q_mv) ?_
      refine JL.guardF rfl rfl rfl rfl ?_
      refine JL.guardF rfl rfl rfl rfl ?_
      refine o_q (q_pickF rfl rfl) ?_
      refine o_bs [] (by decide) rfl (fun b25 => ?_)
      first | refine o_q (q_mvv (v := .slice _ _ _) rfl) ?_ | refine o_q (q_mv) ?_
      first | refine o_q (q_mvv (v := .int _ _) rfl) ?_ | refine o_q (q_mv) ?_
      refine o_q (q_slH rfl rfl (by omega)) ?_
      have hsl : MagAt h2 (.slice p m c) (l.take m) := (hv.take hm (Nat.le_trans hm hc)).mono
      refine o_app (Lb := [(b25, row 78 [])]) rfl rfl (OwnS.lit (xs := []) (n := 0) rfl) inferInstance (src_fro hsl.1 (u32s_plain _)) (by rw [List.length_take]; omega) (fun v4 L4 ho => ?_)
      obtain ⟨p4, c4, rfl⟩ := ho.out
      refine JL.fzS ho (fun h4 s4 hs4 => ?_)
      first | refine o_q (q_bd [.bool _, .slice _ _ _] rfl) ?_ | refine o_q (q_bd [_, _] rfl) ?_
      refine o_stw (vs := [_, _]) rfl rfl rfl inferInstance rfl rfl ?_
      refine JL.nil ?_
      refine J.ret ?_
      have hmag := MagAt.of (l := l.take m) hs4 (hv.2.take m)
      have hi := fun neg => IntAt.mk (neg := neg) hmag (by rw [ht, trim_eq hv.2, trim_limbs])
      have hvt : val (l.take m) = val l := by rw [ht, val_take_trim hv.2]
      simp only [hvt] at hi
      have hd : decide (0 < (m : Int)) = decide (l.take m ≠ []) := by
        refine decide_eq_decide.2 ⟨fun h1 h2 => ?_, fun h1 => ?_⟩
        · have := congrArg List.length h2; rw [List.length_take, List.length_nil] at this; omega
        · rcases Nat.eq_zero_or_pos m with h3 | h3
          · subst h3; simp at h1
          · omega
      refine ret_ok (fn := Try.f48) rfl (.agg rfl inferInstance inferInstance .nil) ?_
      first | exact hi false | (have := hi true; rw [Bool.true_and, ← hd] at this; exact this)
    ·
      refine J.region ?_
      first | refine o_q (q_mvv (v := .bool _) rfl) ?_ | refine o_q (q_mv) ?_
      first | refine o_q (q_mvv (v := .bool _) rfl) ?_ | refine o_q (q_mv) ?_
      refine JL.guardT rfl rfl rfl ?_
      first | refine o_q (q_mvv (v := .int _ _) rfl) ?_ | refine o_q (q_mv) ?_
      refine JL.guardT rfl rfl rfl ?_
      refine o_q (q_gtr rfl rfl) ?_
      first | refine o_q (q_pickTv (v := .bool _) rfl rfl rfl) ?_ | refine o_q (q_pickT rfl rfl) ?_
      refine o_bs [] (by decide) rfl (fun b25 => ?_)
      first | refine o_q (q_mvv (v := .slice _ _ _) rfl) ?_ | refine o_q (q_mv) ?_
      first | refine o_q (q_mvv (v := .int _ _) rfl) ?_ | refine o_q (q_mv) ?_
      refine o_q (q_slH rfl rfl (by omega)) ?_
      have hsl : MagAt h2 (.slice p m c) (l.take m) := (hv.take hm (Nat.le_trans hm hc)).mono
      refine o_app (Lb := [(b25, row 78 [])]) rfl rfl (OwnS.lit (xs := []) (n := 0) rfl) inferInstance (src_fro hsl.1 (u32s_plain _)) (by rw [List.length_take]; omega) (fun v4 L4 ho => ?_)
      obtain ⟨p4, c4, rfl⟩ := ho.out
      refine JL.fzS ho (fun h4 s4 hs4 => ?_)
      first | refine o_q (q_bd [.bool _, .slice _ _ _] rfl) ?_ | refine o_q (q_bd [_, _] rfl) ?_
      refine o_stw (vs := [_, _]) rfl rfl rfl inferInstance rfl rfl ?_
      refine JL.nil ?_
      refine J.ret ?_
      have hmag := MagAt.of (l := l.take m) hs4 (hv.2.take m)
      have hi := fun neg => IntAt.mk (neg := neg) hmag (by rw [ht, trim_eq hv.2, trim_limbs])
      have hvt : val (l.take m) = val l := by rw [ht, val_take_trim hv.2]
      simp only [hvt] at hi
      have hd : decide (0 < (m : Int)) = decide (l.take m ≠ []) := by
        refine decide_eq_decide.2 ⟨fun h1 h2 => ?_, fun h1 => ?_⟩
        · have := congrArg List.length h2; rw [List.length_take, List.length_nil] at this; omega
        · rcases Nat.eq_zero_or_pos m with h3 | h3
          · subst h3; simp at h1
          · omega
      refine ret_ok (fn := Try.f48) rfl (.agg rfl inferInstance inferInstance .nil) ?_
      first | exact hi false | (have := hi true; rw [Bool.true_and, ← hd] at this; exact this)
theorem of_fn {h : Heap} {n : Int} (hn : -9223372036854775808 ≤ n ∧ n ≤ 9223372036854775807) :
    Fn Try.prog 14 #[.int .i64 n] h fun r h' => IntAt h' r n := by
  refine Fn.intro (args := [_]) Try.func14 rfl rfl (Nat.le_of_ble_eq_true rfl) fun w => ?_
  refine J.seq ?_
  refine J.region ?_
  refine o_al (fun b2 => ?_)
  refine JL.nil ?_
  refine J.seq ?_
  refine J.region ?_
  first | refine o_q (q_mvv (v := .int _ _) rfl) ?_ | refine o_q (q_mv) ?_
  refine o_q (q_cv (c := n % 18446744073709551616) rfl (by rw [IntKind.wrap_u64])) ?_
  first | refine o_q (q_asv (v := .int _ _) rfl) ?_ | refine o_q (q_as) ?_
  refine JL.nil ?_
  -- cut: kept [0, 2], said [3]
  first | refine J.cutK (α := Unit) (fun _ h' L' => L' = [(b2, row 37 [.bool false, .slice none 0 0])]) [(0, .int _ _), (2, .pointer _)] ⟨rfl, rfl, trivial⟩ (fun _ => [(3, .int .u64 (n.natAbs : Int))]) ?_ ?_ | refine J.cutK (α := Unit) (fun _ h' L' => L' = [(b2, row 37 [.bool false, .slice none 0 0])]) [(0, _), (2, _)] ⟨rfl, rfl, trivial⟩ (fun _ => [(3, .int .u64 (n.natAbs : Int))]) ?_ ?_
  ·
    refine J.seq ?_
    refine J.region ?_
    first | refine o_q (q_mvv (v := .int _ _) rfl) ?_ | refine o_q (q_mv) ?_
    refine o_q (q_lss rfl rfl) ?_
    refine JL.nil ?_
    refine J.condD rfl (fun c0 => ?_) (fun c0 => ?_)
    ·
      refine J.region ?_
      first | refine o_q (q_mvv (v := .int _ _) rfl) ?_ | refine o_q (q_mv) ?_
      refine o_q (q_neg (c := -n) rfl (by rw [IntKind.wrap_u64]; omega)) ?_
      first | refine o_q (q_asv (v := .int _ _) rfl) ?_ | refine o_q (q_as) ?_
      refine JL.nil ?_
      exact ⟨(), rfl, ⟨rfl, rfl, trivial⟩, ⟨(by show Value.int _ _ = Value.int _ _; congr 1; omega), trivial⟩, rfl, inferInstance⟩
    ·
      refine J.skip ?_
      exact ⟨(), rfl, ⟨rfl, rfl, trivial⟩, ⟨(by show Value.int _ _ = Value.int _ _; congr 1; omega), trivial⟩, rfl, inferInstance⟩
  ·
    rintro _ σ1 h1 L1 s1 rfl
    refine J.seq ?_
    refine J.region ?_
    first | refine o_q (q_mvv (v := .int _ _) rfl) ?_ | refine o_q (q_mv) ?_
    refine o_q (q_cv (c := ((n.natAbs % 4294967296 : Nat) : Int)) rfl (by rw [IntKind.wrap_u32]; omega)) ?_
    first | refine o_q (q_mvv (v := .int _ _) rfl) ?_ | refine o_q (q_mv) ?_
    refine o_q (q_shr (c := ((n.natAbs / 4294967296 : Nat) : Int)) rfl rfl (by decide) (by simp only [IntKind.bits]; exact fd32 _)) ?_
    refine o_q (q_cv (c := ((n.natAbs / 4294967296 : Nat) : Int)) rfl (wu32 (by omega))) ?_
    first | refine o_bs [.int _ _, .int _ _] (by decide) rfl (fun b15 => ?_) | refine o_bs [_, _] (by decide) rfl (fun b15 => ?_)
    first | refine o_q (q_mvv (v := .int _ _) rfl) ?_ | refine o_q (q_mv) ?_
    refine o_q (q_lss rfl rfl) ?_
    refine JL.fz b15 (fun h2 s2 hb => ?_)
    have hl : Bd [n.natAbs % 4294967296, n.natAbs / 4294967296] := fun x hx => by
      have hB : Bs = 4294967296 := rfl
      simp at hx; omega
    refine o_call (made_fn (MagAt.froze (l := [n.natAbs % 4294967296, n.natAbs / 4294967296]) hb hl (Nat.le_refl _)) (by simp)) (fun r h3 s3 hr => ?_)
    obtain ⟨pr, cr, rfl, _, hm⟩ := hr.out
    refine o_stw (vs := [_, _]) rfl rfl rfl inferInstance rfl rfl ?_
    refine JL.nil ?_
    refine J.ret ?_
    refine ret_ok (fn := Try.f14) rfl (.agg rfl inferInstance inferInstance .nil) ?_
    have hz : (if decide (n < 0) = true then -(val [n.natAbs % 4294967296, n.natAbs / 4294967296] : Int) else (val [n.natAbs % 4294967296, n.natAbs / 4294967296] : Int)) = n := by
      have hv : val [n.natAbs % 4294967296, n.natAbs / 4294967296] = n.natAbs := by
        have hB : Bs = 4294967296 := rfl
        simp only [val, hB]; omega
      rw [hv]; by_cases h : n < 0 <;> simp [h] <;> omega
    rw [hz] at hm ⊢ <;> exact IntAt.in hm
theorem neg_fn {h : Heap} {v : Value} {z : Int} (hv : IntAt h v z) (hz : Fit z) :
    Fn Try.prog 19 #[v] h fun r h' => IntAt h' r (-z) := by
  obtain ⟨p, c, rfl, hc, hm⟩ := hv.out
  refine Fn.intro (args := [_]) Try.func19 rfl rfl (Nat.le_of_ble_eq_true rfl) fun w => ?_
  refine J.seq ?_
  refine J.region ?_
  first | refine o_bx (v := .agg _) rfl rfl (fun b1 => ?_) | refine o_bx rfl rfl (fun b1 => ?_)
  refine o_al (fun b2 => ?_)
  refine JL.nil ?_
  refine J.seq ?_
  refine J.region ?_
  refine o_q (q_fa rfl) ?_
  refine o_q (q_ld rfl inferInstance rfl) ?_
  refine o_q (q_fa rfl) ?_
  refine o_q (q_ld rfl inferInstance rfl) ?_
  refine o_q (q_not rfl) ?_
  refine o_call (made_fn hm (Nat.le_trans hz (by decide))) (fun r h1 s1 hr => ?_)
  rw [show (if (!decide (z < 0)) = true then -(val (limbs z.natAbs) : Int) else ↑(val (limbs z.natAbs))) = -z by rw [val_limbs]; by_cases h : z < 0 <;> simp [h] <;> omega] at hr
  obtain ⟨pr, cr, rfl, _, hm1⟩ := hr.out
  refine o_stw (vs := [_, _]) rfl rfl rfl inferInstance rfl rfl ?_
  refine JL.nil ?_
  refine J.ret ?_
  exact ret_ok (fn := Try.f19) rfl (.agg rfl inferInstance inferInstance .nil) (IntAt.in hm1)
theorem plusr_fn {h : Heap} {va vb : Value} {a b : List Nat} (ha : MagAt h va a) (hb : MagAt h vb b) (la : a.length ≤ 1000001) (lb : b.length ≤ 1000001) :
    Fn Try.prog 55 #[va, vb] h fun r h' => ∃ l, MagAt h' r l ∧ val l = val a + val b ∧ l.length ≤ max a.length b.length + 1 := by
  obtain ⟨pa, ca, rfl, hca⟩ := ha.out
  obtain ⟨pb, cb, rfl, hcb⟩ := hb.out
  refine Fn.intro (args := [_, _]) Try.func55 rfl rfl (Nat.le_of_ble_eq_true rfl) fun w => ?_
  refine J.seq ?_
  refine J.region ?_
  refine o_q (q_as) ?_
  refine JL.nil ?_
  refine J.seq ?_
  refine J.region ?_
  refine o_bs [] (by decide) rfl (fun b8 => ?_)
  first | refine o_q (q_asv (v := .slice _ _ _) rfl) ?_ | refine o_q (q_as) ?_
  refine o_q (q_as) ?_
  refine JL.nil ?_
  -- cut: kept [], said [5]
  first | refine J.cutK (α := List Nat × Value × Own) (fun ⟨xs, v, Lb⟩ h' L' => OwnS 78 1 v xs.length (u32s xs) Lb ∧ Lb = L' ∧ Bd xs ∧ xs.length ≤ max a.length b.length + 1 ∧ val xs = val a + val b) [] trivial (fun ⟨xs, v, Lb⟩ => [(5, v)]) ?_ ?_ | refine J.cutK (α := List Nat × Value × Own) (fun ⟨xs, v, Lb⟩ h' L' => OwnS 78 1 v xs.length (u32s xs) Lb ∧ Lb = L' ∧ Bd xs ∧ xs.length ≤ max a.length b.length + 1 ∧ val xs = val a + val b) [] trivial (fun ⟨xs, v, Lb⟩ => [(5, v)]) ?_ ?_
  ·
    refine J.seq ?_
    refine J.region ?_
    refine o_q (q_as) ?_
    refine JL.nil ?_
    refine J.block ?_
    -- loop 0: kept [0, 1], said [5, 6, 7]
    first | refine J.loopK (α := Nat × Nat × List Nat × Value × Own) (fun ⟨i, cy, xs, v, Lb⟩ h' L' => OwnS 78 1 v i (u32s xs) Lb ∧ Lb = L' ∧ Bd xs ∧ xs.length = i ∧ cy ≤ 1 ∧ (i ≤ max a.length b.length ∨ (cy = 0 ∧ i ≤ max a.length b.length + 1)) ∧ val xs + Bs ^ i * cy = val (a.take i) + val (b.take i)) [(0, .slice _ _ _), (1, .slice _ _ _)] ⟨rfl, rfl, trivial⟩ (fun ⟨i, cy, xs, v, Lb⟩ => [(5, v), (6, .int .u64 (cy : Int)), (7, .int .i64 (i : Int))]) (fun ⟨i, cy, xs, v, Lb⟩ => max a.length b.length + 1 - i) ((0, 0, [], .slice (some ⟨b8, 0, none⟩) 0 0, [(b8, row 78 [])])) ⟨OwnS.lit (xs := []) (n := 0) rfl, rfl, Bd.nil, rfl, by omega, .inl (by omega), by simp [val]⟩ ⟨rfl, rfl, rfl, trivial⟩ ?_ | refine J.loopK (α := Nat × Nat × List Nat × Value × Own) (fun ⟨i, cy, xs, v, Lb⟩ h' L' => OwnS 78 1 v i (u32s xs) Lb ∧ Lb = L' ∧ Bd xs ∧ xs.length = i ∧ cy ≤ 1 ∧ (i ≤ max a.length b.length ∨ (cy = 0 ∧ i ≤ max a.length b.length + 1)) ∧ val xs + Bs ^ i * cy = val (a.take i) + val (b.take i)) [(0, _), (1, _)] ⟨rfl, rfl, trivial⟩ (fun ⟨i, cy, xs, v, Lb⟩ => [(5, v), (6, .int .u64 (cy : Int)), (7, .int .i64 (i : Int))]) (fun ⟨i, cy, xs, v, Lb⟩ => max a.length b.length + 1 - i) ((0, 0, [], .slice (some ⟨b8, 0, none⟩) 0 0, [(b8, row 78 [])])) ⟨OwnS.lit (xs := []) (n := 0) rfl, rfl, Bd.nil, rfl, by omega, .inl (by omega), by simp [val]⟩ ⟨rfl, rfl, rfl, trivial⟩ ?_
    rintro ⟨i, cy, xs, v, Lb⟩ σ h1 L1 s1 ⟨ho, rfl, hxb, hxl, hcr, hi, hv⟩
    -- cut: kept [0, 1, 5, 6, 7], said []
    first | refine J.cutK (α := Unit) (fun _ h' L' => (i < a.length ∨ i < b.length ∨ 0 < cy) ∧ Lb = L') [(0, .slice _ _ _), (1, .slice _ _ _), (5, .slice _ _ _), (6, .int _ _), (7, .int _ _)] ⟨rfl, rfl, rfl, rfl, rfl, trivial⟩ (fun _ => []) ?_ ?_ | refine J.cutK (α := Unit) (fun _ h' L' => (i < a.length ∨ i < b.length ∨ 0 < cy) ∧ Lb = L') [(0, _), (1, _), (5, _), (6, _), (7, _)] ⟨rfl, rfl, rfl, rfl, rfl, trivial⟩ (fun _ => []) ?_ ?_
    ·
      refine J.seq ?_
      rcases Nat.lt_or_ge i a.length with c1 | c1
      rotate_left
      rcases Nat.lt_or_ge i b.length with c2 | c2
      rotate_left
      rcases Nat.eq_zero_or_pos cy with c3 | c3
      ·
        refine J.region ?_
        first | refine o_q (q_mvv (v := .int _ _) rfl) ?_ | refine o_q (q_mv) ?_
        first | refine o_q (q_mvv (v := .slice _ _ _) rfl) ?_ | refine o_q (q_mv) ?_
        refine o_q (q_len rfl) ?_
        refine o_q (q_lss rfl rfl) ?_
        first | refine o_q (q_mvv (v := .bool _) rfl) ?_ | refine o_q (q_mv) ?_
        refine JL.guardT rfl rfl (decide_eq_false (by omega)) ?_
        first | refine o_q (q_mvv (v := .int _ _) rfl) ?_ | refine o_q (q_mv) ?_
        refine JL.guardT rfl rfl (decide_eq_false (by omega)) ?_
        first | refine o_q (q_mvv (v := .slice _ _ _) rfl) ?_ | refine o_q (q_mv) ?_
        refine JL.guardT rfl rfl (decide_eq_false (by omega)) ?_
        refine o_q (q_len rfl) ?_
        refine JL.guardT rfl rfl (decide_eq_false (by omega)) ?_
        refine o_q (q_lss rfl rfl) ?_
        first | refine o_q (q_pickFv (v := .bool _) rfl (decide_eq_false (by omega)) rfl) ?_ | refine o_q (q_pickF rfl (decide_eq_false (by omega))) ?_
        first | refine o_q (q_mvv (v := .bool _) rfl) ?_ | refine o_q (q_mv) ?_
        refine JL.guardT rfl rfl (decide_eq_false (by omega)) ?_
        first | refine o_q (q_mvv (v := .int _ _) rfl) ?_ | refine o_q (q_mv) ?_
        refine JL.guardT rfl rfl (decide_eq_false (by omega)) ?_
        refine o_q (q_gtr rfl rfl) ?_
        first | refine o_q (q_pickFv (v := .bool _) rfl (decide_eq_false (by omega)) rfl) ?_ | refine o_q (q_pickF rfl (decide_eq_false (by omega))) ?_
        refine JL.nil ?_
        refine J.condF rfl (decide_eq_false (by omega)) ?_
        refine J.exit ?_
        exact ⟨(xs, v, _), rfl, trivial, ⟨rfl, trivial⟩, ⟨hxl ▸ ho, rfl, hxb, by omega, (by
          have h1 : cy = 0 := by omega
          rw [h1, List.take_of_length_le (by omega), List.take_of_length_le (by omega)] at hv; omega)⟩, inferInstance⟩
      ·
        refine J.region ?_
        first | refine o_q (q_mvv (v := .int _ _) rfl) ?_ | refine o_q (q_mv) ?_
        first | refine o_q (q_mvv (v := .slice _ _ _) rfl) ?_ | refine o_q (q_mv) ?_
        refine o_q (q_len rfl) ?_
        refine o_q (q_lss rfl rfl) ?_
        first | refine o_q (q_mvv (v := .bool _) rfl) ?_ | refine o_q (q_mv) ?_
        refine JL.guardT rfl rfl (decide_eq_false (by omega)) ?_
        first | refine o_q (q_mvv (v := .int _ _) rfl) ?_ | refine o_q (q_mv) ?_
        refine JL.guardT rfl rfl (decide_eq_false (by omega)) ?_
        first | refine o_q (q_mvv (v := .slice _ _ _) rfl) ?_ | refine o_q (q_mv) ?_
        refine JL.guardT rfl rfl (decide_eq_false (by omega)) ?_
        refine o_q (q_len rfl) ?_
        refine JL.guardT rfl rfl (decide_eq_false (by omega)) ?_
        refine o_q (q_lss rfl rfl) ?_
        first | refine o_q (q_pickFv (v := .bool _) rfl (decide_eq_false (by omega)) rfl) ?_ | refine o_q (q_pickF rfl (decide_eq_false (by omega))) ?_
        first | refine o_q (q_mvv (v := .bool _) rfl) ?_ | refine o_q (q_mv) ?_
        refine JL.guardT rfl rfl (decide_eq_false (by omega)) ?_
        first | refine o_q (q_mvv (v := .int _ _) rfl) ?_ | refine o_q (q_mv) ?_
        refine JL.guardT rfl rfl (decide_eq_false (by omega)) ?_
        refine o_q (q_gtr rfl rfl) ?_
        first | refine o_q (q_pickFv (v := .bool _) rfl (decide_eq_false (by omega)) rfl) ?_ | refine o_q (q_pickF rfl (decide_eq_false (by omega))) ?_
        refine JL.nil ?_
        refine J.condT rfl (decide_eq_true (by omega)) ?_
        refine J.skip ?_
        exact ⟨(), rfl, ⟨rfl, rfl, rfl, rfl, rfl, trivial⟩, trivial, ⟨by omega, rfl⟩, inferInstance⟩
      ·
        refine J.region ?_
        first | refine o_q (q_mvv (v := .int _ _) rfl) ?_ | refine o_q (q_mv) ?_
        first | refine o_q (q_mvv (v := .slice _ _ _) rfl) ?_ | refine o_q (q_mv) ?_
        refine o_q (q_len rfl) ?_
        refine o_q (q_lss rfl rfl) ?_
        first | refine o_q (q_mvv (v := .bool _) rfl) ?_ | refine o_q (q_mv) ?_
        refine JL.guardF rfl rfl (decide_eq_true (by omega)) rfl ?_
        refine JL.guardF rfl rfl (decide_eq_true (by omega)) rfl ?_
        refine JL.guardF rfl rfl (decide_eq_true (by omega)) rfl ?_
        refine JL.guardF rfl rfl (decide_eq_true (by omega)) rfl ?_
        refine o_q (q_pickT rfl (decide_eq_true (by omega))) ?_
        first | refine o_q (q_mvv (v := .bool _) rfl) ?_ | refine o_q (q_mv) ?_
        refine JL.guardF rfl rfl rfl rfl ?_
        refine JL.guardF rfl rfl rfl rfl ?_
        refine o_q (q_pickT rfl rfl) ?_
        refine JL.nil ?_
        refine J.condT rfl rfl ?_
        refine J.skip ?_
        exact ⟨(), rfl, ⟨rfl, rfl, rfl, rfl, rfl, trivial⟩, trivial, ⟨by omega, rfl⟩, inferInstance⟩
      ·
        refine J.region ?_
        first | refine o_q (q_mvv (v := .int _ _) rfl) ?_ | refine o_q (q_mv) ?_
        first | refine o_q (q_mvv (v := .slice _ _ _) rfl) ?_ | refine o_q (q_mv) ?_
        refine o_q (q_len rfl) ?_
        refine o_q (q_lss rfl rfl) ?_
        first | refine o_q (q_mvv (v := .bool _) rfl) ?_ | refine o_q (q_mv) ?_
        refine JL.guardT rfl rfl (decide_eq_false (by omega)) ?_
        first | refine o_q (q_mvv (v := .int _ _) rfl) ?_ | refine o_q (q_mv) ?_
        refine JL.guardT rfl rfl (decide_eq_false (by omega)) ?_
        first | refine o_q (q_mvv (v := .slice _ _ _) rfl) ?_ | refine o_q (q_mv) ?_
        refine JL.guardT rfl rfl (decide_eq_false (by omega)) ?_
        refine o_q (q_len rfl) ?_
        refine JL.guardT rfl rfl (decide_eq_false (by omega)) ?_
        refine o_q (q_lss rfl rfl) ?_
        first | refine o_q (q_pickFv (v := .bool _) rfl (decide_eq_false (by omega)) rfl) ?_ | refine o_q (q_pickF rfl (decide_eq_false (by omega))) ?_
        first | refine o_q (q_mvv (v := .bool _) rfl) ?_ | refine o_q (q_mv) ?_
        refine JL.guardF rfl rfl (decide_eq_true (by omega)) rfl ?_
        refine JL.guardF rfl rfl (decide_eq_true (by omega)) rfl ?_
        refine o_q (q_pickT rfl (decide_eq_true (by omega))) ?_
        refine JL.nil ?_
        refine J.condT rfl rfl ?_
        refine J.skip ?_
        exact ⟨(), rfl, ⟨rfl, rfl, rfl, rfl, rfl, trivial⟩, trivial, ⟨by omega, rfl⟩, inferInstance⟩
    ·
      rintro _ σ2 h2 L2 s2 ⟨hgo, rfl⟩
      refine J.seq ?_
      refine J.block ?_
      -- cut: kept [0, 1, 5, 7], said [6]
      first | refine J.cutK (α := Unit) (fun _ h' L' => a.getD i 0 < 4294967296 ∧ Lb = L') [(0, .slice _ _ _), (1, .slice _ _ _), (5, .slice _ _ _), (7, .int _ _)] ⟨rfl, rfl, rfl, rfl, trivial⟩ (fun _ => [(6, .int .u64 ((cy + a.getD i 0 : Nat) : Int))]) ?_ ?_ | refine J.cutK (α := Unit) (fun _ h' L' => a.getD i 0 < 4294967296 ∧ Lb = L') [(0, _), (1, _), (5, _), (7, _)] ⟨rfl, rfl, rfl, rfl, trivial⟩ (fun _ => [(6, .int .u64 ((cy + a.getD i 0 : Nat) : Int))]) ?_ ?_
      ·
        refine J.seq ?_
        refine J.region ?_
        first | refine o_q (q_mvv (v := .int _ _) rfl) ?_ | refine o_q (q_mv) ?_
        first | refine o_q (q_mvv (v := .slice _ _ _) rfl) ?_ | refine o_q (q_mv) ?_
        refine o_q (q_len rfl) ?_
        refine o_q (q_lss rfl rfl) ?_
        refine JL.nil ?_
        refine J.condD rfl (fun c1 => ?_) (fun c1 => ?_)
        ·
          refine J.region ?_
          first | refine o_q (q_mvv (v := .int _ _) rfl) ?_ | refine o_q (q_mv) ?_
          first | refine o_q (q_mvv (v := .slice _ _ _) rfl) ?_ | refine o_q (q_mv) ?_
          first | refine o_q (q_mvv (v := .int _ _) rfl) ?_ | refine o_q (q_mv) ?_
          obtain ⟨kx, ox, x, rfl, hx, lx, hcx⟩ := MagAt.limb (j := i) ha (by omega)
          have gx := getD_some hx
          refine o_q (q_ia rfl rfl (by omega)) ?_
          refine o_q (q_ldf rfl hcx) ?_
          refine o_q (q_cv (c := (x : Int)) rfl (wu64 (by omega))) ?_
          refine o_q (q_add (c := ((cy + x : Nat) : Int)) rfl rfl (by rw [wu64 (by omega)]; omega)) ?_
          first | refine o_q (q_asv (v := .int _ _) rfl) ?_ | refine o_q (q_as) ?_
          refine JL.nil ?_
          exact ⟨(), rfl, ⟨rfl, rfl, rfl, rfl, trivial⟩, ⟨(by rw [gx] <;> rfl), trivial⟩, ⟨by omega, rfl⟩, inferInstance⟩
        ·
          have gx := getD_none (l := a) (i := i) (by omega)
          refine J.skip ?_
          exact ⟨(), rfl, ⟨rfl, rfl, rfl, rfl, trivial⟩, ⟨(by rw [gx] <;> rfl), trivial⟩, ⟨by omega, rfl⟩, inferInstance⟩
      ·
        rintro _ σ5 h5 L5 s5 ⟨xl, rfl⟩
        -- cut: kept [0, 1, 5, 7], said [6]
        first | refine J.cutK (α := Unit) (fun _ h' L' => b.getD i 0 < 4294967296 ∧ Lb = L') [(0, .slice _ _ _), (1, .slice _ _ _), (5, .slice _ _ _), (7, .int _ _)] ⟨rfl, rfl, rfl, rfl, trivial⟩ (fun _ => [(6, .int .u64 ((cy + a.getD i 0 + b.getD i 0 : Nat) : Int))]) ?_ ?_ | refine J.cutK (α := Unit) (fun _ h' L' => b.getD i 0 < 4294967296 ∧ Lb = L') [(0, _), (1, _), (5, _), (7, _)] ⟨rfl, rfl, rfl, rfl, trivial⟩ (fun _ => [(6, .int .u64 ((cy + a.getD i 0 + b.getD i 0 : Nat) : Int))]) ?_ ?_
        ·
          refine J.seq ?_
          refine J.region ?_
          first | refine o_q (q_mvv (v := .int _ _) rfl) ?_ | refine o_q (q_mv) ?_
          first | refine o_q (q_mvv (v := .slice _ _ _) rfl) ?_ | refine o_q (q_mv) ?_
          refine o_q (q_len rfl) ?_
          refine o_q (q_lss rfl rfl) ?_
          refine JL.nil ?_
          refine J.condD rfl (fun c2 => ?_) (fun c2 => ?_)
          ·
            refine J.region ?_
            first | refine o_q (q_mvv (v := .int _ _) rfl) ?_ | refine o_q (q_mv) ?_
            first | refine o_q (q_mvv (v := .slice _ _ _) rfl) ?_ | refine o_q (q_mv) ?_
            first | refine o_q (q_mvv (v := .int _ _) rfl) ?_ | refine o_q (q_mv) ?_
            obtain ⟨ky, oy, y, rfl, hy, ly, hcy⟩ := MagAt.limb (j := i) hb (by omega)
            have gy := getD_some hy
            refine o_q (q_ia rfl rfl (by omega)) ?_
            refine o_q (q_ldf rfl hcy) ?_
            refine o_q (q_cv (c := (y : Int)) rfl (wu64 (by omega))) ?_
            refine o_q (q_add (c := ((cy + a.getD i 0 + y : Nat) : Int)) rfl rfl (by rw [wu64 (by omega)]; omega)) ?_
            first | refine o_q (q_asv (v := .int _ _) rfl) ?_ | refine o_q (q_as) ?_
            refine JL.nil ?_
            exact ⟨(), rfl, ⟨rfl, rfl, rfl, rfl, trivial⟩, ⟨(by rw [gy] <;> rfl), trivial⟩, ⟨by omega, rfl⟩, inferInstance⟩
          ·
            have gy := getD_none (l := b) (i := i) (by omega)
            refine J.skip ?_
            exact ⟨(), rfl, ⟨rfl, rfl, rfl, rfl, trivial⟩, ⟨(by rw [gy] <;> rfl), trivial⟩, ⟨by omega, rfl⟩, inferInstance⟩
        ·
          rintro _ σ6 h6 L6 s6 ⟨yl, rfl⟩
          refine J.seq ?_
          refine J.region ?_
          first | refine o_q (q_mvv (v := .slice _ _ _) rfl) ?_ | refine o_q (q_mv) ?_
          first | refine o_q (q_mvv (v := .int _ _) rfl) ?_ | refine o_q (q_mv) ?_
          refine o_q (q_cv (c := (((cy + a.getD i 0 + b.getD i 0) % 4294967296 : Nat) : Int)) rfl (by rw [IntKind.wrap_u32]; omega)) ?_
          first | refine o_bs [.int _ _] (by decide) rfl (fun b50 => ?_) | refine o_bs [_] (by decide) rfl (fun b50 => ?_)
          refine o_app (us := [.int .u32 (((cy + a.getD i 0 + b.getD i 0) % 4294967296 : Nat) : Int)]) (m := 1) rfl rfl ho inferInstance (src_own inferInstance (LookN.all _) rfl (by simp [plain])) (by omega) (fun v7 L7 ho7 => ?_)
          first | refine o_q (q_asv (v := .slice _ _ _) rfl) ?_ | refine o_q (q_as) ?_
          refine JL.nil ?_
          refine J.drop ?_
          refine J.region ?_
          first | refine o_q (q_mvv (v := .int _ _) rfl) ?_ | refine o_q (q_mv) ?_
          refine o_q (q_quo (c := (((cy + a.getD i 0 + b.getD i 0) / 4294967296 : Nat) : Int)) rfl rfl (by decide) (by rw [td32, wu64 (by omega)])) ?_
          first | refine o_q (q_asv (v := .int _ _) rfl) ?_ | refine o_q (q_as) ?_
          refine JL.nil ?_
          refine J.region ?_
          first | refine o_q (q_mvv (v := .int _ _) rfl) ?_ | refine o_q (q_mv) ?_
          refine o_q (q_add (c := ((i + 1 : Nat) : Int)) rfl rfl (by rw [wi64 (by omega)]; omega)) ?_
          first | refine o_q (q_asv (v := .int _ _) rfl) ?_ | refine o_q (q_as) ?_
          refine JL.nil ?_
          exact ⟨(i + 1, (cy + a.getD i 0 + b.getD i 0) / 4294967296, xs ++ [(cy + a.getD i 0 + b.getD i 0) % 4294967296], v7, L7), rfl, ⟨rfl, rfl, trivial⟩, ⟨rfl, rfl, rfl, trivial⟩, ⟨by rw [u32s_append]; exact ho7, rfl, hxb.snoc (Nat.mod_lt _ (by decide)), by simp [hxl], by omega, by
            have e1 : a.length ≤ i → a.getD i 0 = 0 := getD_none
            have e2 : b.length ≤ i → b.getD i 0 = 0 := getD_none
            omega, plus_step hxl hv⟩, by show max a.length b.length + 1 - (i + 1) < max a.length b.length + 1 - i; omega, inferInstance⟩
  ·
    rintro ⟨xs, v, Lb⟩ σ4 h4 L4 s4 ⟨ho, rfl, hxb, hxl, hv⟩
    refine J.seq ?_
    refine J.fzS ho (fun h5 s5 hs5 => ?_)
    refine J.region ?_
    first | refine o_q (q_mvv (v := .slice _ _ _) rfl) ?_ | refine o_q (q_mv) ?_
    first | refine o_q (q_asv (v := .slice _ _ _) rfl) ?_ | refine o_q (q_as) ?_
    refine JL.nil ?_
    refine J.ret ?_
    exact ret_ok (fn := Try.f55) rfl (.tmp rfl .nil) ⟨xs, MagAt.of hs5 hxb, hv, hxl⟩
theorem less_fn {h : Heap} {va vb : Value} {x y : Nat} (ha : MagAt h va (limbs x)) (hb : MagAt h vb (limbs y)) (la : (limbs x).length ≤ 1000001) (lb : (limbs y).length ≤ 1000001) :
    Fn Try.prog 56 #[va, vb] h fun r _ => r = .bool (decide (x < y)) := by
  obtain ⟨pa, ca, rfl, hca⟩ := ha.out
  obtain ⟨pb, cb, rfl, hcb⟩ := hb.out
  refine Fn.intro (args := [_, _]) Try.func56 rfl rfl (Nat.le_of_ble_eq_true rfl) fun w => ?_
  refine J.seq ?_
  refine J.region ?_
  refine o_q (q_as) ?_
  refine JL.nil ?_
  refine J.seq ?_
  refine J.seq ?_
  refine J.region ?_
  first | refine o_q (q_mvv (v := .slice _ _ _) rfl) ?_ | refine o_q (q_mv) ?_
  refine o_q (q_len rfl) ?_
  first | refine o_q (q_mvv (v := .slice _ _ _) rfl) ?_ | refine o_q (q_mv) ?_
  refine o_q (q_len rfl) ?_
  refine o_q (q_neq rfl rfl) ?_
  refine JL.nil ?_
  refine J.condD rfl (fun c0 => ?_) (fun c0 => ?_)
  ·
    refine J.seq ?_
    refine J.region ?_
    first | refine o_q (q_mvv (v := .slice _ _ _) rfl) ?_ | refine o_q (q_mv) ?_
    refine o_q (q_len rfl) ?_
    first | refine o_q (q_mvv (v := .slice _ _ _) rfl) ?_ | refine o_q (q_mv) ?_
    refine o_q (q_len rfl) ?_
    refine o_q (q_lss rfl rfl) ?_
    first | refine o_q (q_asv (v := .bool _) rfl) ?_ | refine o_q (q_as) ?_
    refine JL.nil ?_
    refine J.ret ?_
    refine ret_ok (fn := Try.f56) rfl (.tmp rfl .nil) ?_
    refine congrArg Value.bool (decide_eq_decide.2 ⟨fun h1 => limbs_len_lt (by omega), fun h1 => ?_⟩)
    rcases Nat.lt_or_ge (limbs y).length (limbs x).length with h2 | h2
    · have := limbs_len_lt h2; omega
    · omega
  ·
    have heq : (limbs x).length = (limbs y).length := by omega
    refine J.skip ?_
    -- cut: kept [], said []
    first | refine J.cutK (α := Unit) (fun _ h' L' => x = y ∧ [] = L') [] trivial (fun _ => []) ?_ ?_ | refine J.cutK (α := Unit) (fun _ h' L' => x = y ∧ [] = L') [] trivial (fun _ => []) ?_ ?_
    ·
      refine J.seq ?_
      refine J.region ?_
      first | refine o_q (q_mvv (v := .slice _ _ _) rfl) ?_ | refine o_q (q_mv) ?_
      refine o_q (q_len rfl) ?_
      refine o_q (q_sub (c := ((limbs x).length : Int) - 1) rfl rfl (wi64 (by omega))) ?_
      first | refine o_q (q_asv (v := .int _ _) rfl) ?_ | refine o_q (q_as) ?_
      refine JL.nil ?_
      refine J.block ?_
      -- loop 0: kept [0, 1], said [5]
      first | refine J.loopK (α := Int) (fun i h' L' => -1 ≤ i ∧ i < ((limbs x).length : Int) ∧ (limbs x).drop (i + 1).toNat = (limbs y).drop (i + 1).toNat ∧ [] = L') [(0, .slice _ _ _), (1, .slice _ _ _)] ⟨rfl, rfl, trivial⟩ (fun i => [(5, .int .i64 i)]) (fun i => (i + 1).toNat) (((limbs x).length : Int) - 1) ⟨by omega, by omega, by rw [show (((limbs x).length : Int) - 1 + 1).toNat = (limbs x).length by omega, List.drop_length, heq, List.drop_length], rfl⟩ ⟨rfl, trivial⟩ ?_ | refine J.loopK (α := Int) (fun i h' L' => -1 ≤ i ∧ i < ((limbs x).length : Int) ∧ (limbs x).drop (i + 1).toNat = (limbs y).drop (i + 1).toNat ∧ [] = L') [(0, _), (1, _)] ⟨rfl, rfl, trivial⟩ (fun i => [(5, .int .i64 i)]) (fun i => (i + 1).toNat) (((limbs x).length : Int) - 1) ⟨by omega, by omega, by rw [show (((limbs x).length : Int) - 1 + 1).toNat = (limbs x).length by omega, List.drop_length, heq, List.drop_length], rfl⟩ ⟨rfl, trivial⟩ ?_
      rintro i σ h1 L1 s1 ⟨hi0, hi1, hd, rfl⟩
      refine J.seq ?_
      refine J.seq ?_
      refine J.region ?_
      first | refine o_q (q_mvv (v := .int _ _) rfl) ?_ | refine o_q (q_mv) ?_
      refine o_q (q_geq rfl rfl) ?_
      refine JL.nil ?_
      refine J.condD rfl (fun c1 => ?_) (fun c1 => ?_)
      ·
        obtain ⟨j, rfl⟩ := Int.eq_ofNat_of_zero_le c1
        rw [show ((j : Int) + 1).toNat = j + 1 by omega] at hd
        refine J.skip ?_
        refine J.seq ?_
        refine J.block ?_
        refine J.seq ?_
        refine J.drawA [] ?_
        first | refine JD.calc 0 (by kernel_rfl) rfl trivial ss_sub (q_mvv (v := .slice _ _ _) rfl) ?_ | refine JD.calc 0 (by kernel_rfl) rfl trivial ss_sub (q_mv) ?_
        first | refine JD.calc 1 (by kernel_rfl) rfl trivial ss_sub (q_mvv (v := .int _ _) rfl) ?_ | refine JD.calc 1 (by kernel_rfl) rfl trivial ss_sub (q_mv) ?_
        obtain ⟨ku, ou, u, rfl, hu, lu, hcu⟩ := MagAt.limb (j := j) ha (by omega)
        refine JD.calc 2 (by kernel_rfl) rfl trivial ss_sub (q_ia rfl rfl (by omega)) ?_
        refine JD.load 3 (by kernel_rfl) rfl trivial (q_ldf rfl hcu) ?_
        first | refine JD.calc 4 (by kernel_rfl) rfl trivial ss_sub (q_mvv (v := .slice _ _ _) rfl) ?_ | refine JD.calc 4 (by kernel_rfl) rfl trivial ss_sub (q_mv) ?_
        first | refine JD.calc 5 (by kernel_rfl) rfl trivial ss_sub (q_mvv (v := .int _ _) rfl) ?_ | refine JD.calc 5 (by kernel_rfl) rfl trivial ss_sub (q_mv) ?_
        obtain ⟨kw, ow, w, rfl, hw, lw, hcw⟩ := MagAt.limb (j := j) hb (by omega)
        refine JD.calc 6 (by kernel_rfl) rfl trivial ss_sub (q_ia rfl rfl (by omega)) ?_
        refine JD.load 7 (by kernel_rfl) rfl trivial (q_ldf rfl hcw) ?_
        refine JD.calc 8 (by kernel_rfl) rfl trivial ss_sub (q_neq rfl rfl) ?_
        refine JD.done (by kernel_rfl) ?_ _
        refine J.condD rfl (fun c2 => ?_) (fun c2 => ?_)
        ·
          refine J.seq ?_
          refine J.drawA [] ?_
          first | refine JD.calc 0 (by kernel_rfl) rfl trivial ss_sub (q_mvv (v := .slice _ _ _) rfl) ?_ | refine JD.calc 0 (by kernel_rfl) rfl trivial ss_sub (q_mv) ?_
          first | refine JD.calc 1 (by kernel_rfl) rfl trivial ss_sub (q_mvv (v := .int _ _) rfl) ?_ | refine JD.calc 1 (by kernel_rfl) rfl trivial ss_sub (q_mv) ?_
          refine JD.calc 2 (by kernel_rfl) rfl trivial ss_sub (q_ia rfl rfl (by omega)) ?_
          refine JD.load 3 (by kernel_rfl) rfl trivial (q_ldf rfl hcu) ?_
          first | refine JD.calc 4 (by kernel_rfl) rfl trivial ss_sub (q_mvv (v := .slice _ _ _) rfl) ?_ | refine JD.calc 4 (by kernel_rfl) rfl trivial ss_sub (q_mv) ?_
          first | refine JD.calc 5 (by kernel_rfl) rfl trivial ss_sub (q_mvv (v := .int _ _) rfl) ?_ | refine JD.calc 5 (by kernel_rfl) rfl trivial ss_sub (q_mv) ?_
          refine JD.calc 6 (by kernel_rfl) rfl trivial ss_sub (q_ia rfl rfl (by omega)) ?_
          refine JD.load 7 (by kernel_rfl) rfl trivial (q_ldf rfl hcw) ?_
          refine JD.calc 8 (by kernel_rfl) rfl trivial ss_sub (q_lss rfl rfl) ?_
          first | refine JD.calc 9 (by kernel_rfl) rfl trivial ss_sub (q_asv (v := .bool _) rfl) ?_ | refine JD.calc 9 (by kernel_rfl) rfl trivial ss_sub (q_as) ?_
          refine JD.done (by kernel_rfl) ?_ _
          refine J.ret ?_
          refine ret_ok (fn := Try.f56) rfl (.tmp rfl .nil) ?_
          refine congrArg Value.bool (decide_eq_decide.2 ?_)
          have e1 := fun h => val_lt_of (bd_limbs x) (bd_limbs y) hd hu hw h
          have e2 := fun h => val_lt_of (bd_limbs y) (bd_limbs x) hd.symm hw hu h
          rw [val_limbs, val_limbs] at e1 e2
          exact ⟨fun h1 => e1 (by omega), fun h1 => by
            rcases Nat.lt_or_ge u w with h2 | h2
            · omega
            · have := e2 (by omega); omega⟩
        ·
          refine J.skip ?_
          refine J.region ?_
          first | refine o_q (q_mvv (v := .int _ _) rfl) ?_ | refine o_q (q_mv) ?_
          refine o_q (q_sub (c := (j : Int) - 1) rfl rfl (wi64 (by omega))) ?_
          first | refine o_q (q_asv (v := .int _ _) rfl) ?_ | refine o_q (q_as) ?_
          refine JL.nil ?_
          exact ⟨(j : Int) - 1, rfl, ⟨rfl, rfl, trivial⟩, ⟨rfl, trivial⟩, ⟨by omega, by omega, by
            rw [show ((j : Int) - 1 + 1).toNat = j by omega, List.drop_eq_getElem_cons (l := limbs x) (i := j) (by omega), List.drop_eq_getElem_cons (l := limbs y) (i := j) (by omega), hd]
            obtain ⟨_, e1⟩ := List.getElem?_eq_some_iff.1 hu
            obtain ⟨_, e2⟩ := List.getElem?_eq_some_iff.1 hw
            rw [e1, e2, show u = w by omega], rfl⟩, by omega, inferInstance⟩
      ·
        refine J.exit ?_
        exact ⟨(), rfl, trivial, trivial, ⟨limbs_inj (by simpa [show (i + 1).toNat = 0 by omega] using hd), rfl⟩, inferInstance⟩
    ·
      rintro _ σ3 h3 L3 s3 ⟨rfl, rfl⟩
      refine J.seq ?_
      refine J.region ?_
      refine o_q (q_as) ?_
      refine JL.nil ?_
      refine J.ret ?_
      exact ret_ok (fn := Try.f56) rfl (.tmp rfl .nil) (congrArg Value.bool (decide_eq_false (by omega)).symm)
theorem minusr_fn {h : Heap} {va vb : Value} {a b : List Nat} (ha : MagAt h va a) (hb : MagAt h vb b) (la : a.length ≤ 1000001) (lb : b.length ≤ 1000001) (hlen : b.length ≤ a.length) (hba : val b ≤ val a) :
    Fn Try.prog 57 #[va, vb] h fun r h' => ∃ l, MagAt h' r l ∧ val l = val a - val b ∧ l.length = a.length := by
  obtain ⟨pa, ca, rfl, hca⟩ := ha.out
  obtain ⟨pb, cb, rfl, hcb⟩ := hb.out
  refine Fn.intro (args := [_, _]) Try.func57 rfl rfl (Nat.le_of_ble_eq_true rfl) fun w => ?_
  refine J.seq ?_
  refine J.region ?_
  refine o_q (q_as) ?_
  refine JL.nil ?_
  refine J.seq ?_
  refine J.region ?_
  refine o_bs [] (by decide) rfl (fun b9 => ?_)
  first | refine o_q (q_asv (v := .slice _ _ _) rfl) ?_ | refine o_q (q_as) ?_
  refine o_q (q_as) ?_
  refine JL.nil ?_
  -- cut: kept [], said [5]
  first | refine J.cutK (α := List Nat × Value × Own) (fun ⟨xs, v, Lb⟩ h' L' => OwnS 78 1 v xs.length (u32s xs) Lb ∧ Lb = L' ∧ Bd xs ∧ xs.length = a.length ∧ val xs = val a - val b) [] trivial (fun ⟨xs, v, Lb⟩ => [(5, v)]) ?_ ?_ | refine J.cutK (α := List Nat × Value × Own) (fun ⟨xs, v, Lb⟩ h' L' => OwnS 78 1 v xs.length (u32s xs) Lb ∧ Lb = L' ∧ Bd xs ∧ xs.length = a.length ∧ val xs = val a - val b) [] trivial (fun ⟨xs, v, Lb⟩ => [(5, v)]) ?_ ?_
  ·
    refine J.seq ?_
    refine J.region ?_
    refine o_q (q_as) ?_
    refine JL.nil ?_
    refine J.block ?_
    -- loop 0: kept [0, 1], said [5, 6, 7]
    first | refine J.loopK (α := Nat × Nat × List Nat × Value × Own) (fun ⟨i, bw, xs, v, Lb⟩ h' L' => OwnS 78 1 v i (u32s xs) Lb ∧ Lb = L' ∧ Bd xs ∧ xs.length = i ∧ bw ≤ 1 ∧ i ≤ a.length ∧ val xs + val (b.take i) = val (a.take i) + Bs ^ i * bw) [(0, .slice _ _ _), (1, .slice _ _ _)] ⟨rfl, rfl, trivial⟩ (fun ⟨i, bw, xs, v, Lb⟩ => [(5, v), (6, .int .i64 (bw : Int)), (7, .int .i64 (i : Int))]) (fun ⟨i, bw, xs, v, Lb⟩ => a.length - i) ((0, 0, [], .slice (some ⟨b9, 0, none⟩) 0 0, [(b9, row 78 [])])) ⟨OwnS.lit (xs := []) (n := 0) rfl, rfl, Bd.nil, rfl, by omega, by omega, by simp [val]⟩ ⟨rfl, rfl, rfl, trivial⟩ ?_ | refine J.loopK (α := Nat × Nat × List Nat × Value × Own) (fun ⟨i, bw, xs, v, Lb⟩ h' L' => OwnS 78 1 v i (u32s xs) Lb ∧ Lb = L' ∧ Bd xs ∧ xs.length = i ∧ bw ≤ 1 ∧ i ≤ a.length ∧ val xs + val (b.take i) = val (a.take i) + Bs ^ i * bw) [(0, _), (1, _)] ⟨rfl, rfl, trivial⟩ (fun ⟨i, bw, xs, v, Lb⟩ => [(5, v), (6, .int .i64 (bw : Int)), (7, .int .i64 (i : Int))]) (fun ⟨i, bw, xs, v, Lb⟩ => a.length - i) ((0, 0, [], .slice (some ⟨b9, 0, none⟩) 0 0, [(b9, row 78 [])])) ⟨OwnS.lit (xs := []) (n := 0) rfl, rfl, Bd.nil, rfl, by omega, by omega, by simp [val]⟩ ⟨rfl, rfl, rfl, trivial⟩ ?_
    rintro ⟨i, bw, xs, v, Lb⟩ σ h1 L1 s1 ⟨ho, rfl, hxb, hxl, hbw, hi, hv⟩
    refine J.seq ?_
    refine J.seq ?_
    refine J.region ?_
    first | refine o_q (q_mvv (v := .int _ _) rfl) ?_ | refine o_q (q_mv) ?_
    first | refine o_q (q_mvv (v := .slice _ _ _) rfl) ?_ | refine o_q (q_mv) ?_
    refine o_q (q_len rfl) ?_
    refine o_q (q_lss rfl rfl) ?_
    refine JL.nil ?_
    refine J.condD rfl (fun c0 => ?_) (fun c0 => ?_)
    ·
      refine J.skip ?_
      refine J.seq ?_
      refine J.block ?_
      refine J.seq ?_
      refine J.region ?_
      first | refine o_q (q_mvv (v := .slice _ _ _) rfl) ?_ | refine o_q (q_mv) ?_
      first | refine o_q (q_mvv (v := .int _ _) rfl) ?_ | refine o_q (q_mv) ?_
      obtain ⟨kx, ox, x, rfl, hx, lx, hcx⟩ := MagAt.limb (j := i) ha (by omega)
      have gx := getD_some hx
      refine o_q (q_ia rfl rfl (by omega)) ?_
      refine o_q (q_ldf rfl hcx) ?_
      refine o_q (q_cv (c := (x : Int)) rfl (wi64 (by omega))) ?_
      first | refine o_q (q_mvv (v := .int _ _) rfl) ?_ | refine o_q (q_mv) ?_
      refine o_q (q_sub (c := (x : Int) - bw) rfl rfl (wi64 (by omega))) ?_
      first | refine o_q (q_asv (v := .int _ _) rfl) ?_ | refine o_q (q_as) ?_
      refine JL.nil ?_
      -- cut: kept [0, 1, 5, 7], said [8]
      first | refine J.cutK (α := Unit) (fun _ h' L' => b.getD i 0 < 4294967296 ∧ Lb = L') [(0, .slice _ _ _), (1, .slice _ _ _), (5, .slice _ _ _), (7, .int _ _)] ⟨rfl, rfl, rfl, rfl, trivial⟩ (fun _ => [(8, .int .i64 ((x : Int) - bw - (b.getD i 0 : Nat)))]) ?_ ?_ | refine J.cutK (α := Unit) (fun _ h' L' => b.getD i 0 < 4294967296 ∧ Lb = L') [(0, _), (1, _), (5, _), (7, _)] ⟨rfl, rfl, rfl, rfl, trivial⟩ (fun _ => [(8, .int .i64 ((x : Int) - bw - (b.getD i 0 : Nat)))]) ?_ ?_
      ·
        refine J.seq ?_
        refine J.region ?_
        first | refine o_q (q_mvv (v := .int _ _) rfl) ?_ | refine o_q (q_mv) ?_
        first | refine o_q (q_mvv (v := .slice _ _ _) rfl) ?_ | refine o_q (q_mv) ?_
        refine o_q (q_len rfl) ?_
        refine o_q (q_lss rfl rfl) ?_
        refine JL.nil ?_
        refine J.condD rfl (fun c1 => ?_) (fun c1 => ?_)
        ·
          refine J.region ?_
          first | refine o_q (q_mvv (v := .int _ _) rfl) ?_ | refine o_q (q_mv) ?_
          first | refine o_q (q_mvv (v := .slice _ _ _) rfl) ?_ | refine o_q (q_mv) ?_
          first | refine o_q (q_mvv (v := .int _ _) rfl) ?_ | refine o_q (q_mv) ?_
          obtain ⟨ky, oy, y, rfl, hy, ly, hcy⟩ := MagAt.limb (j := i) hb (by omega)
          have gy := getD_some hy
          refine o_q (q_ia rfl rfl (by omega)) ?_
          refine o_q (q_ldf rfl hcy) ?_
          refine o_q (q_cv (c := (y : Int)) rfl (wi64 (by omega))) ?_
          refine o_q (q_sub (c := (x : Int) - bw - y) rfl rfl (wi64 (by omega))) ?_
          first | refine o_q (q_asv (v := .int _ _) rfl) ?_ | refine o_q (q_as) ?_
          refine JL.nil ?_
          exact ⟨(), rfl, ⟨rfl, rfl, rfl, rfl, trivial⟩, ⟨(by rw [gy] <;> first | rfl | (show Value.int _ _ = Value.int _ _; congr 1; omega)), trivial⟩, ⟨by omega, rfl⟩, inferInstance⟩
        ·
          have gy := getD_none (l := b) (i := i) (by omega)
          refine J.skip ?_
          exact ⟨(), rfl, ⟨rfl, rfl, rfl, rfl, trivial⟩, ⟨(by rw [gy] <;> first | rfl | (show Value.int _ _ = Value.int _ _; congr 1; omega)), trivial⟩, ⟨by omega, rfl⟩, inferInstance⟩
      ·
        rintro _ σ6 h6 L6 s6 ⟨yl, rfl⟩
        refine J.seq ?_
        refine J.region ?_
        refine o_q (q_as) ?_
        refine JL.nil ?_
        -- cut: kept [0, 1, 5, 7], said [6, 8]
        first | refine J.cutK (α := Nat × Nat) (fun ⟨d, e⟩ h' L' => d + bw + b.getD i 0 = x + 4294967296 * e ∧ d < 4294967296 ∧ e ≤ 1 ∧ Lb = L') [(0, .slice _ _ _), (1, .slice _ _ _), (5, .slice _ _ _), (7, .int _ _)] ⟨rfl, rfl, rfl, rfl, trivial⟩ (fun ⟨d, e⟩ => [(6, .int .i64 (e : Int)), (8, .int .i64 (d : Int))]) ?_ ?_ | refine J.cutK (α := Nat × Nat) (fun ⟨d, e⟩ h' L' => d + bw + b.getD i 0 = x + 4294967296 * e ∧ d < 4294967296 ∧ e ≤ 1 ∧ Lb = L') [(0, _), (1, _), (5, _), (7, _)] ⟨rfl, rfl, rfl, rfl, trivial⟩ (fun ⟨d, e⟩ => [(6, .int .i64 (e : Int)), (8, .int .i64 (d : Int))]) ?_ ?_
        ·
          refine J.seq ?_
          refine J.region ?_
          first | refine o_q (q_mvv (v := .int _ _) rfl) ?_ | refine o_q (q_mv) ?_
          refine o_q (q_lss rfl rfl) ?_
          refine JL.nil ?_
          refine J.condD rfl (fun c2 => ?_) (fun c2 => ?_)
          ·
            refine J.seq ?_
            refine J.region ?_
            first | refine o_q (q_mvv (v := .int _ _) rfl) ?_ | refine o_q (q_mv) ?_
            refine o_q (q_add (c := (x : Int) - bw - (b.getD i 0 : Nat) + 4294967296) rfl rfl (wi64 (by omega))) ?_
            first | refine o_q (q_asv (v := .int _ _) rfl) ?_ | refine o_q (q_as) ?_
            refine JL.nil ?_
            refine J.region ?_
            refine o_q (q_as) ?_
            refine JL.nil ?_
            first
              | exact ⟨(((x : Int) - bw - (b.getD i 0 : Nat) + 4294967296).toNat, 1), rfl, ⟨rfl, rfl, rfl, rfl, trivial⟩, ⟨rfl, (by show Value.int _ _ = Value.int _ _; congr 1; omega), trivial⟩, ⟨by omega, by omega, by omega, rfl⟩, inferInstance⟩
              | exact ⟨(((x : Int) - bw - (b.getD i 0 : Nat)).toNat, 0), rfl, ⟨rfl, rfl, rfl, rfl, trivial⟩, ⟨rfl, (by show Value.int _ _ = Value.int _ _; congr 1; omega), trivial⟩, ⟨by omega, by omega, by omega, rfl⟩, inferInstance⟩
          ·
            refine J.skip ?_
            first
              | exact ⟨(((x : Int) - bw - (b.getD i 0 : Nat) + 4294967296).toNat, 1), rfl, ⟨rfl, rfl, rfl, rfl, trivial⟩, ⟨rfl, (by show Value.int _ _ = Value.int _ _; congr 1; omega), trivial⟩, ⟨by omega, by omega, by omega, rfl⟩, inferInstance⟩
              | exact ⟨(((x : Int) - bw - (b.getD i 0 : Nat)).toNat, 0), rfl, ⟨rfl, rfl, rfl, rfl, trivial⟩, ⟨rfl, (by show Value.int _ _ = Value.int _ _; congr 1; omega), trivial⟩, ⟨by omega, by omega, by omega, rfl⟩, inferInstance⟩
        ·
          rintro ⟨d, e⟩ σ8 h8 L8 s8 ⟨hd, hdl, he, rfl⟩
          refine J.region ?_
          first | refine o_q (q_mvv (v := .slice _ _ _) rfl) ?_ | refine o_q (q_mv) ?_
          first | refine o_q (q_mvv (v := .int _ _) rfl) ?_ | refine o_q (q_mv) ?_
          refine o_q (q_cv (c := (d : Int)) rfl (wu32 (by omega))) ?_
          first | refine o_bs [.int _ _] (by decide) rfl (fun b41 => ?_) | refine o_bs [_] (by decide) rfl (fun b41 => ?_)
          refine o_app (us := [.int .u32 (d : Int)]) (m := 1) rfl rfl ho inferInstance (src_own inferInstance (LookN.all _) rfl (by simp [plain])) (by omega) (fun v7 L7 ho7 => ?_)
          first | refine o_q (q_asv (v := .slice _ _ _) rfl) ?_ | refine o_q (q_as) ?_
          refine JL.nil ?_
          refine J.drop ?_
          refine J.region ?_
          first | refine o_q (q_mvv (v := .int _ _) rfl) ?_ | refine o_q (q_mv) ?_
          refine o_q (q_add (c := ((i + 1 : Nat) : Int)) rfl rfl (by rw [wi64 (by omega)]; omega)) ?_
          first | refine o_q (q_asv (v := .int _ _) rfl) ?_ | refine o_q (q_as) ?_
          refine JL.nil ?_
          exact ⟨(i + 1, e, xs ++ [d], v7, L7), rfl, ⟨rfl, rfl, trivial⟩, ⟨rfl, rfl, rfl, trivial⟩, ⟨by rw [u32s_append]; exact ho7, rfl, hxb.snoc hdl, by simp [hxl], by omega, by omega, minus_step hxl hv (by rw [gx]; exact hd)⟩, by show a.length - (i + 1) < a.length - i; omega, inferInstance⟩
    ·
      refine J.exit ?_
      exact ⟨(xs, v, _), rfl, trivial, ⟨rfl, trivial⟩, ⟨hxl ▸ ho, rfl, hxb, by omega, (by
        have h1 : i = a.length := by omega
        rw [List.take_of_length_le (by omega), List.take_of_length_le (by omega), h1] at hv
        exact minus_end hxb (by omega) hv hba)⟩, inferInstance⟩
  ·
    rintro ⟨xs, v, Lb⟩ σ4 h4 L4 s4 ⟨ho, rfl, hxb, hxl, hv⟩
    refine J.seq ?_
    refine J.fzS ho (fun h5 s5 hs5 => ?_)
    refine J.region ?_
    first | refine o_q (q_mvv (v := .slice _ _ _) rfl) ?_ | refine o_q (q_mv) ?_
    first | refine o_q (q_asv (v := .slice _ _ _) rfl) ?_ | refine o_q (q_as) ?_
    refine JL.nil ?_
    refine J.ret ?_
    exact ret_ok (fn := Try.f57) rfl (.tmp rfl .nil) ⟨xs, MagAt.of hs5 hxb, hv, hxl⟩
theorem same_fn {h : Heap} {va vb : Value} {x y : Int} (ha : IntAt h va x) (hb : IntAt h vb y) (fa : Fit x) (fb : Fit y) :
    Fn Try.prog 53 #[va, vb] h fun r _ => r = .bool (decide (x = y)) := by
  obtain ⟨pa, ca, rfl, hca, ha⟩ := ha.out
  obtain ⟨pb, cb, rfl, hcb, hb⟩ := hb.out
  refine Fn.intro (args := [_, _]) Try.func53 rfl rfl (Nat.le_of_ble_eq_true rfl) fun w => ?_
  refine J.seq ?_
  refine J.region ?_
  first | refine o_bx (v := .agg _) rfl rfl (fun b2 => ?_) | refine o_bx rfl rfl (fun b2 => ?_)
  first | refine o_bx (v := .agg _) rfl rfl (fun b3 => ?_) | refine o_bx rfl rfl (fun b3 => ?_)
  refine o_q (q_as) ?_
  refine JL.nil ?_
  refine J.seq ?_
  rcases same3 x y with hs | ⟨hs, hl⟩ | ⟨hs, hl⟩
  ·
    refine J.region ?_
    refine o_q (q_fa rfl) ?_
    refine o_q (q_ld rfl inferInstance rfl) ?_
    refine o_q (q_fa rfl) ?_
    refine o_q (q_ld rfl inferInstance rfl) ?_
    refine o_q (q_beq rfl rfl) ?_
    first | refine o_q (q_mvv (v := .bool _) rfl) ?_ | refine o_q (q_mv) ?_
    refine JL.guardF rfl rfl hs rfl ?_
    refine JL.guardF rfl rfl hs rfl ?_
    refine JL.guardF rfl rfl hs rfl ?_
    refine JL.guardF rfl rfl hs rfl ?_
    refine JL.guardF rfl rfl hs rfl ?_
    refine JL.guardF rfl rfl hs rfl ?_
    refine o_q (q_pickF rfl hs) ?_
    first | refine o_q (q_mvv (v := .bool _) rfl) ?_ | refine o_q (q_mv) ?_
    refine JL.guardF rfl rfl rfl rfl ?_
    refine JL.guardF rfl rfl rfl rfl ?_
    refine JL.guardF rfl rfl rfl rfl ?_
    refine JL.guardF rfl rfl rfl rfl ?_
    refine JL.guardF rfl rfl rfl rfl ?_
    refine JL.guardF rfl rfl rfl rfl ?_
    refine o_q (q_pickF rfl rfl) ?_
    first | refine o_q (q_asv (v := .bool _) rfl) ?_ | refine o_q (q_as) ?_
    refine JL.nil ?_
    refine J.ret ?_
    exact ret_ok (fn := Try.f53) rfl (.tmp rfl .nil) (congrArg Value.bool (decide_eq_false (fun h => sign_ne hs (by rw [h]))).symm)
  ·
    refine J.region ?_
    refine o_q (q_fa rfl) ?_
    refine o_q (q_ld rfl inferInstance rfl) ?_
    refine o_q (q_fa rfl) ?_
    refine o_q (q_ld rfl inferInstance rfl) ?_
    refine o_q (q_beq rfl rfl) ?_
    first | refine o_q (q_mvv (v := .bool _) rfl) ?_ | refine o_q (q_mv) ?_
    refine JL.guardT rfl rfl hs ?_
    refine o_q (q_fa rfl) ?_
    refine JL.guardT rfl rfl hs ?_
    refine o_q (q_ld rfl inferInstance rfl) ?_
    refine JL.guardT rfl rfl hs ?_
    refine o_q (q_fa rfl) ?_
    refine JL.guardT rfl rfl hs ?_
    refine o_q (q_ld rfl inferInstance rfl) ?_
    refine JL.guardT rfl rfl hs ?_
    refine o_call (less_fn ha hb (Nat.le_trans fa (by decide)) (Nat.le_trans fb (by decide))) (fun v1 hv1 sv1 ev1 => ?_)
    subst ev1
    refine JL.guardT rfl rfl hs ?_
    refine o_q (q_not rfl) ?_
    first | refine o_q (q_pickTv (v := .bool _) rfl hs rfl) ?_ | refine o_q (q_pickT rfl hs) ?_
    first | refine o_q (q_mvv (v := .bool _) rfl) ?_ | refine o_q (q_mv) ?_
    refine JL.guardF rfl rfl (by rw [hl] <;> rfl) rfl ?_
    refine JL.guardF rfl rfl (by rw [hl] <;> rfl) rfl ?_
    refine JL.guardF rfl rfl (by rw [hl] <;> rfl) rfl ?_
    refine JL.guardF rfl rfl (by rw [hl] <;> rfl) rfl ?_
    refine JL.guardF rfl rfl (by rw [hl] <;> rfl) rfl ?_
    refine JL.guardF rfl rfl (by rw [hl] <;> rfl) rfl ?_
    refine o_q (q_pickF rfl (by rw [hl] <;> rfl)) ?_
    first | refine o_q (q_asv (v := .bool _) rfl) ?_ | refine o_q (q_as) ?_
    refine JL.nil ?_
    refine J.ret ?_
    exact ret_ok (fn := Try.f53) rfl (.tmp rfl .nil) (congrArg Value.bool (decide_eq_false (fun h => by rw [h] at hl; simp at hl)).symm)
  ·
    refine J.region ?_
    refine o_q (q_fa rfl) ?_
    refine o_q (q_ld rfl inferInstance rfl) ?_
    refine o_q (q_fa rfl) ?_
    refine o_q (q_ld rfl inferInstance rfl) ?_
    refine o_q (q_beq rfl rfl) ?_
    first | refine o_q (q_mvv (v := .bool _) rfl) ?_ | refine o_q (q_mv) ?_
    refine JL.guardT rfl rfl hs ?_
    refine o_q (q_fa rfl) ?_
    refine JL.guardT rfl rfl hs ?_
    refine o_q (q_ld rfl inferInstance rfl) ?_
    refine JL.guardT rfl rfl hs ?_
    refine o_q (q_fa rfl) ?_
    refine JL.guardT rfl rfl hs ?_
    refine o_q (q_ld rfl inferInstance rfl) ?_
    refine JL.guardT rfl rfl hs ?_
    refine o_call (less_fn ha hb (Nat.le_trans fa (by decide)) (Nat.le_trans fb (by decide))) (fun v1 hv1 sv1 ev1 => ?_)
    subst ev1
    refine JL.guardT rfl rfl hs ?_
    refine o_q (q_not rfl) ?_
    first | refine o_q (q_pickTv (v := .bool _) rfl hs rfl) ?_ | refine o_q (q_pickT rfl hs) ?_
    first | refine o_q (q_mvv (v := .bool _) rfl) ?_ | refine o_q (q_mv) ?_
    refine JL.guardT rfl rfl (by rw [hl] <;> rfl) ?_
    refine o_q (q_fa rfl) ?_
    refine JL.guardT rfl rfl (by rw [hl] <;> rfl) ?_
    refine o_q (q_ld rfl inferInstance rfl) ?_
    refine JL.guardT rfl rfl (by rw [hl] <;> rfl) ?_
    refine o_q (q_fa rfl) ?_
    refine JL.guardT rfl rfl (by rw [hl] <;> rfl) ?_
    refine o_q (q_ld rfl inferInstance rfl) ?_
    refine JL.guardT rfl rfl (by rw [hl] <;> rfl) ?_
    refine o_call (less_fn hb.mono ha.mono (Nat.le_trans fb (by decide)) (Nat.le_trans fa (by decide))) (fun v2 hv2 sv2 ev2 => ?_)
    subst ev2
    refine JL.guardT rfl rfl (by rw [hl] <;> rfl) ?_
    refine o_q (q_not rfl) ?_
    first | refine o_q (q_pickTv (v := .bool _) rfl (by rw [hl] <;> rfl) rfl) ?_ | refine o_q (q_pickT rfl (by rw [hl] <;> rfl)) ?_
    first | refine o_q (q_asv (v := .bool _) rfl) ?_ | refine o_q (q_as) ?_
    refine JL.nil ?_
    refine J.ret ?_
    refine ret_ok (fn := Try.f53) rfl (.tmp rfl .nil) (congrArg Value.bool ?_)
    have h1 := of_decide_eq_false hl
    have h2 := sign_eq hs
    by_cases h3 : y.natAbs < x.natAbs
    · rw [decide_eq_true h3, decide_eq_false (show ¬ x = y by omega)]; rfl
    · rw [decide_eq_false h3, decide_eq_true (show x = y by omega)]; rfl
theorem addr_fn {h : Heap} {va vb : Value} {x y : Int} (ha : IntAt h va x) (hb : IntAt h vb y) (fa : Fit x) (fb : Fit y) :
    Fn Try.prog 20 #[va, vb] h fun r h' => IntAt h' r (x + y) := by
  obtain ⟨pa, ca, rfl, hca, ha⟩ := ha.out
  obtain ⟨pb, cb, rfl, hcb, hb⟩ := hb.out
  have hlen2 : ∀ {x y : Nat}, x ≤ y → (limbs x).length ≤ (limbs y).length := fun h => limbs_len.2 (Nat.lt_of_le_of_lt h (limbs_len.1 (Nat.le_refl _)))
  refine Fn.intro (args := [_, _]) Try.func20 rfl rfl (Nat.le_of_ble_eq_true rfl) fun w => ?_
  refine J.seq ?_
  refine J.region ?_
  first | refine o_bx (v := .agg _) rfl rfl (fun b2 => ?_) | refine o_bx rfl rfl (fun b2 => ?_)
  first | refine o_bx (v := .agg _) rfl rfl (fun b3 => ?_) | refine o_bx rfl rfl (fun b3 => ?_)
  refine o_al (fun b4 => ?_)
  refine JL.nil ?_
  refine J.seq ?_
  refine J.seq ?_
  refine J.region ?_
  refine o_q (q_fa rfl) ?_
  refine o_q (q_ld rfl inferInstance rfl) ?_
  refine o_q (q_fa rfl) ?_
  refine o_q (q_ld rfl inferInstance rfl) ?_
  refine o_q (q_beq rfl rfl) ?_
  refine JL.nil ?_
  refine J.cond rfl (fun hs => ?_) (fun hs => ?_)
  ·
    have hs2 := sign_eq hs
    have sum_z : (if decide (x < 0) = true then -((x.natAbs + y.natAbs : Nat) : Int) else ((x.natAbs + y.natAbs : Nat) : Int)) = x + y := by
      split <;> simp only [decide_eq_true_eq] at * <;> omega
    refine J.seq ?_
    refine J.drawA [8] ?_
    refine JD.calc 0 (by kernel_rfl) rfl trivial ss_sub (q_fa rfl) ?_
    refine JD.load 1 (by kernel_rfl) rfl trivial (q_ld rfl inferInstance rfl) ?_
    refine JD.calc 2 (by kernel_rfl) rfl trivial ss_sub (q_fa rfl) ?_
    refine JD.load 3 (by kernel_rfl) rfl trivial (q_ld rfl inferInstance rfl) ?_
    refine JD.calc 5 (by kernel_rfl) rfl trivial ss_sub (q_fa rfl) ?_
    refine JD.load 6 (by kernel_rfl) rfl trivial (q_ld rfl inferInstance rfl) ?_
    refine JD.one 4 (by kernel_rfl) ?_
    refine JX.eff rfl rfl trivial ?_
    refine o_call (plusr_fn ha hb (Nat.le_trans fa (by decide)) (Nat.le_trans fb (by decide))) (fun r1 g1 t1 hr => ?_)
    obtain ⟨l, hl, hv, hlen⟩ := hr
    refine JL.nil ⟨rfl, inferInstance, inferInstance, ?_⟩
    refine JD.one 7 (by kernel_rfl) ?_
    refine JX.eff rfl rfl trivial ?_
    refine o_call (made_fn hl (by have := Nat.le_trans fa (by decide : 1000000 ≤ 1000001); have := fa; have := fb; unfold Fit at *; omega)) (fun r2 g2 t2 hr => ?_)
    rw [hv, val_limbs, val_limbs] at hr
    rw [sum_z] at hr
    obtain ⟨pr, cr, rfl, _, hm1⟩ := hr.out
    refine JL.nil ⟨rfl, inferInstance, inferInstance, ?_⟩
    refine JD.one 8 (by kernel_rfl) ?_
    refine JX.mut rfl rfl trivial ?_
    refine o_stw (vs := [_, _]) rfl rfl rfl inferInstance rfl rfl ?_
    refine JL.nil ⟨rfl, ?_⟩
    refine JD.done (by kernel_rfl) ?_ _
    refine J.ret ?_
    exact ret_ok (fn := Try.f20) rfl (.agg rfl inferInstance inferInstance .nil) (IntAt.in hm1)
  ·
    have hs2 := sign_ne hs
    refine J.skip ?_
    refine J.seq ?_
    refine J.seq ?_
    refine J.region ?_
    refine o_q (q_fa rfl) ?_
    refine o_q (q_ld rfl inferInstance rfl) ?_
    refine o_q (q_fa rfl) ?_
    refine o_q (q_ld rfl inferInstance rfl) ?_
    refine o_call (less_fn ha hb (Nat.le_trans fa (by decide)) (Nat.le_trans fb (by decide))) (fun v1 hv1 sv1 ev1 => ?_)
    subst ev1
    refine JL.nil ?_
    refine J.condD rfl (fun c1 => ?_) (fun c1 => ?_)
    ·
      have sum_z : (if decide (y < 0) = true then -((y.natAbs - x.natAbs : Nat) : Int) else ((y.natAbs - x.natAbs : Nat) : Int)) = x + y := by
        split <;> simp only [decide_eq_true_eq] at * <;> omega
      refine J.seq ?_
      refine J.drawA [8] ?_
      refine JD.calc 0 (by kernel_rfl) rfl trivial ss_sub (q_fa rfl) ?_
      refine JD.load 1 (by kernel_rfl) rfl trivial (q_ld rfl inferInstance rfl) ?_
      refine JD.calc 2 (by kernel_rfl) rfl trivial ss_sub (q_fa rfl) ?_
      refine JD.load 3 (by kernel_rfl) rfl trivial (q_ld rfl inferInstance rfl) ?_
      refine JD.calc 5 (by kernel_rfl) rfl trivial ss_sub (q_fa rfl) ?_
      refine JD.load 6 (by kernel_rfl) rfl trivial (q_ld rfl inferInstance rfl) ?_
      refine JD.one 4 (by kernel_rfl) ?_
      refine JX.eff rfl rfl trivial ?_
      refine o_call (minusr_fn hb.mono ha.mono (Nat.le_trans fb (by decide)) (Nat.le_trans fa (by decide)) (hlen2 (by omega)) (by rw [val_limbs, val_limbs]; omega)) (fun r1 g1 t1 hr => ?_)
      obtain ⟨l, hl, hv, hlen⟩ := hr
      refine JL.nil ⟨rfl, inferInstance, inferInstance, ?_⟩
      refine JD.one 7 (by kernel_rfl) ?_
      refine JX.eff rfl rfl trivial ?_
      refine o_call (made_fn hl (by have := Nat.le_trans fa (by decide : 1000000 ≤ 1000001); have := fa; have := fb; unfold Fit at *; omega)) (fun r2 g2 t2 hr => ?_)
      rw [hv, val_limbs, val_limbs] at hr
      rw [sum_z] at hr
      obtain ⟨pr, cr, rfl, _, hm1⟩ := hr.out
      refine JL.nil ⟨rfl, inferInstance, inferInstance, ?_⟩
      refine JD.one 8 (by kernel_rfl) ?_
      refine JX.mut rfl rfl trivial ?_
      refine o_stw (vs := [_, _]) rfl rfl rfl inferInstance rfl rfl ?_
      refine JL.nil ⟨rfl, ?_⟩
      refine JD.done (by kernel_rfl) ?_ _
      refine J.ret ?_
      exact ret_ok (fn := Try.f20) rfl (.agg rfl inferInstance inferInstance .nil) (IntAt.in hm1)
    ·
      have sum_z : (if decide (x < 0) = true then -((x.natAbs - y.natAbs : Nat) : Int) else ((x.natAbs - y.natAbs : Nat) : Int)) = x + y := by
        split <;> simp only [decide_eq_true_eq] at * <;> omega
      refine J.skip ?_
      refine J.seq ?_
      refine J.drawA [8] ?_
      refine JD.calc 0 (by kernel_rfl) rfl trivial ss_sub (q_fa rfl) ?_
      refine JD.load 1 (by kernel_rfl) rfl trivial (q_ld rfl inferInstance rfl) ?_
      refine JD.calc 2 (by kernel_rfl) rfl trivial ss_sub (q_fa rfl) ?_
      refine JD.load 3 (by kernel_rfl) rfl trivial (q_ld rfl inferInstance rfl) ?_
      refine JD.calc 5 (by kernel_rfl) rfl trivial ss_sub (q_fa rfl) ?_
      refine JD.load 6 (by kernel_rfl) rfl trivial (q_ld rfl inferInstance rfl) ?_
      refine JD.one 4 (by kernel_rfl) ?_
      refine JX.eff rfl rfl trivial ?_
      refine o_call (minusr_fn ha.mono hb.mono (Nat.le_trans fa (by decide)) (Nat.le_trans fb (by decide)) (hlen2 (by omega)) (by rw [val_limbs, val_limbs]; omega)) (fun r1 g1 t1 hr => ?_)
      obtain ⟨l, hl, hv, hlen⟩ := hr
      refine JL.nil ⟨rfl, inferInstance, inferInstance, ?_⟩
      refine JD.one 7 (by kernel_rfl) ?_
      refine JX.eff rfl rfl trivial ?_
      refine o_call (made_fn hl (by have := Nat.le_trans fa (by decide : 1000000 ≤ 1000001); have := fa; have := fb; unfold Fit at *; omega)) (fun r2 g2 t2 hr => ?_)
      rw [hv, val_limbs, val_limbs] at hr
      rw [sum_z] at hr
      obtain ⟨pr, cr, rfl, _, hm1⟩ := hr.out
      refine JL.nil ⟨rfl, inferInstance, inferInstance, ?_⟩
      refine JD.one 8 (by kernel_rfl) ?_
      refine JX.mut rfl rfl trivial ?_
      refine o_stw (vs := [_, _]) rfl rfl rfl inferInstance rfl rfl ?_
      refine JL.nil ⟨rfl, ?_⟩
      refine JD.done (by kernel_rfl) ?_ _
      refine J.ret ?_
      exact ret_ok (fn := Try.f20) rfl (.agg rfl inferInstance inferInstance .nil) (IntAt.in hm1)
end Go.Z
end
