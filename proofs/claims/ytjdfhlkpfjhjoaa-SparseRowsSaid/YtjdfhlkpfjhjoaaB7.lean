/- The calculus beneath the proofs: slices of the activation's own: make, append, copy. No program is named here. -/
import Derived.Test.YtjdfhlkpfjhjoaaB6
import Derived.Deep.Upon
import Derived.Laws.CopyOwn
set_option linter.unusedSimpArgs false
set_option linter.unusedVariables false
namespace Go.Z
open Go Go.RowKit

variable {C : Cfg} {Q Q' : Post} {ds : List Deferred} {ρ : Env} {h : Heap} {L : Own} {ops : Array Oper} {rest : List Oper}
variable {d : Nat} {ty : TypeId} {pos : String} {after : Array Edge}

theorem St.of {w0 : World} {h0 h : Heap} {L L' : Own} {w : World} (s : St w0 h0 h L w) (hm : ∀ p ∈ L', p ∈ L) (nd : (L'.map (·.1)).Nodup) : St w0 h0 h L' w :=
  ⟨s.below, s.ge, s.old, s.fro, fun p hp => s.own p (hm p hp), nd⟩
theorem St.sub {w0 : World} {h0 h : Heap} {L L' : Own} {w : World} (s : St w0 h0 h L w) (hs : L'.Sublist L) : St w0 h0 h L' w :=
  s.of (fun p hp => hs.subset hp) ((hs.map _).nodup s.nd)
theorem J.sub {c : Code} {L' : Own} (hs : L'.Sublist L) (hj : J C c Q ds ρ h L') : J C c Q ds ρ h L := fun a w ha hst => hj a w ha (hst.sub hs)
theorem JL.sub {L' : Own} (hs : L'.Sublist L) (hj : JL C ops Q rest ds ρ h L') : JL C ops Q rest ds ρ h L := fun a w ha hst => hj a w ha (hst.sub hs)
theorem JL.perm {L' : Own} (hp : L.Perm L') (hj : JL C ops Q rest ds ρ h L') : JL C ops Q rest ds ρ h L := fun a w ha hst => hj a w ha (hst.perm hp)

/-- A slice of the activation's own: n elements of sz cells, whose cells are xs; Lb: its block. -/
def OwnS (T : TypeId) (sz : Nat) (v : Value) (n : Nat) (xs : List Value) (Lb : Own) : Prop :=
  xs.length = n * sz ∧ ((∃ p, v = .slice p 0 0 ∧ (∀ a : Addr, p = some a → a.spot = none) ∧ n = 0 ∧ Lb = []) ∨ ∃ b c sp, v = .slice (some ⟨b, 0, none⟩) n c ∧ Lb = [(b, row T (xs ++ sp))] ∧ n ≤ c ∧ (xs ++ sp).length = c * sz)
theorem OwnS.nil (T : TypeId) (sz : Nat) : OwnS T sz (.slice none 0 0) 0 [] [] := ⟨by simp, .inl ⟨none, rfl, fun _ e => (by cases e), rfl, rfl⟩⟩
theorem OwnS.lit {T : TypeId} {sz n : Nat} {b : Nat} {xs : List Value} (hl : xs.length = n * sz) : OwnS T sz (.slice (some ⟨b, 0, none⟩) n n) n xs [(b, row T xs)] :=
  ⟨hl, .inr ⟨b, n, [], rfl, by simp, Nat.le_refl _, by simpa using hl⟩⟩

/-- The part Lb among the owned blocks, and the owned blocks with something else in its place. -/
class AtS (L Lb : Own) (f : outParam (Own → Own)) : Prop where
  e : ∃ L1 L2, L = L1 ++ (Lb ++ L2) ∧ ∀ x, f x = L1 ++ (x ++ L2)
instance (priority := 1100) AtS.self {Lb : Own} : AtS Lb Lb (fun x => x) := ⟨[], [], by simp, by simp⟩
instance AtS.head {Lb L2 : Own} : AtS (Lb ++ L2) Lb (fun x => x ++ L2) := ⟨[], L2, rfl, fun _ => rfl⟩
instance AtS.tail {L Lb : Own} {p : Nat × Obj} {f : Own → Own} [a : AtS L Lb f] : AtS (p :: L) Lb (fun x => p :: f x) := by
  obtain ⟨L1, L2, h1, h2⟩ := a.e
  exact ⟨p :: L1, L2, by rw [h1]; rfl, fun x => by rw [h2]; rfl⟩
instance AtS.app {L M Lb : Own} {f : Own → Own} [a : AtS L Lb f] : AtS (M ++ L) Lb (fun x => M ++ f x) := by
  obtain ⟨L1, L2, h1, h2⟩ := a.e
  exact ⟨M ++ L1, L2, by rw [h1, List.append_assoc], fun x => by rw [h2, List.append_assoc]⟩

section make
variable {x y : Operand} {T e : TypeId}
/-- 'make([]T, n, m)' -/
theorem o_mk {sz by' : Nat} {z : List Value} {q q' : IntKind} {n m : Nat} {a b : Int} [hu : Sl C.P T e] [hs : Sz C.P e sz] [hb : By C.P e by'] [hz : Zv C.P e z] (hx : ρ.ev x = .int q a) (hy : ρ.ev y = .int q' b)
    (ha : a = (n : Int)) (hb' : b = (m : Int)) (hnm : n ≤ m) (hm : m * by' ≤ 140737488355328) (hm2 : m ≤ 1000000000000000)
    (k : ∀ g, JL C ops Q rest ds (ρ.set d (.slice (some ⟨g, 0, none⟩) n m)) h ((g, row e (List.replicate m z).flatten) :: L)) (hn : Nat.blt d C.n = true := by rfl) (hzl : z.length = sz := by rfl) :
    JL C ops Q (⟨some d, .makeSlice T x y, ty, pos, after, none⟩ :: rest) ds ρ h L :=
  JL.val rfl rfl rfl hn fun w hst => by
    refine ⟨_, h, _, w.alloc (row e (List.replicate m z).flatten), run_v ?_, hst.alloc _, k _⟩
    subst ha hb'
    obtain ⟨i, hi1, hi2⟩ := hb.i
    obtain ⟨i2, hi3, hi4⟩ := hs.i
    obtain ⟨i3, v, hi5, hi6, hi7⟩ := hz.i
    have e1 : i2 = i := by rw [hi1] at hi3; cases hi3; rfl
    have e2 : i3 = i := by rw [hi1] at hi5; cases hi5; rfl
    subst e1 e2
    have hr := run_make (P := C.P) w T e i3 v hu.u hi1 hi6 q q' (n : Int) (m : Int) (by omega) (by omega) (by
      rw [hi2, Int.mul_comm]
      have : ((m * by' : Nat) : Int) ≤ ((140737488355328 : Nat) : Int) := Int.ofNat_le.2 hm
      rw [Int.natCast_mul] at this
      omega) (by omega)
    rw [hx, hy, hr]
    have : madeCells v.cells ((m : Int).toNat * i3.size) = ⟨(List.replicate m z).flatten⟩ := by
      unfold madeCells
      rw [hi7, Int.toNat_natCast, hi4]
      exact zeros_eq z (m * sz) m (by rw [hzl])
    rw [this]
    rfl
end make

theorem setN_append (us : List Value) : ∀ (xs sp : List Value), us.length ≤ sp.length → setN (xs ++ sp) xs.length us = xs ++ (us ++ sp.drop us.length) := by
  induction us with
  | nil => intro xs sp _; simp [setN]
  | cons u us ih =>
    intro xs sp hl
    cases sp with
    | nil => simp at hl
    | cons s sp =>
      have := ih (xs ++ [u]) sp (by simpa using hl)
      simp only [setN]
      have hs : (xs ++ s :: sp).set xs.length u = (xs ++ [u]) ++ sp := by simp
      rw [hs, show xs.length + 1 = (xs ++ [u]).length by simp, this]
      simp
theorem plain_one {u : Value} (h : plain u = true) : u.oneCell' = true := by cases u <;> first | rfl | cases h

theorem cells_of_row {w : World} {b o : Nat} {l us : List Value} {T : TypeId} {fr : Nat × Nat} (hb : w.heap[b]? = some (.cells ⟨l⟩ T fr)) (hl : LookN l o us) : ∀ j u, us[j]? = some u → w.cell? ((⟨b, o, none⟩ : Addr).add j) = some u := fun j u hu => by
  rw [add_none]
  exact cell_of hb (hl.get j u hu)

/-- What 'append' does, at a slice of one's own. -/
theorem run_append {P : Program} {w0 w : World} {h0 h : Heap} {L Lb : Own} {f : Own → Own} {T T' e sz by' n m : Nat} {z xs us : List Value} {v y : Value} {ty : TypeId} [hu : Sl P T e] [hs : Sz P e sz] [hb : By P e by'] [hz : Zv P e z]
    (hzl : z.length = sz) (hst : St w0 h0 h L w) (a : AtS L Lb f) (ho : OwnS e sz v n xs Lb) (hpl : ∀ u ∈ us, plain u = true) (hby : by' ≤ 100000) (hlen : n + m ≤ 1000000000)
    (src : Src P sz T' y m us w) :
    ∃ v' Lb' w', (Builtin.append_ #[T, T'] ty #[v, y]).run P w = .ok v' w' ∧ OwnS e sz v' (n + m) (xs ++ us) Lb' ∧ St w0 h0 h (f Lb') w' := by
  obtain ⟨hxl, hv⟩ := ho
  obtain ⟨i, hi1, hi2⟩ := hb.i
  obtain ⟨i2, hi3, hi4⟩ := hs.i
  obtain ⟨i3, zv, hi5, hi6, hi7⟩ := hz.i
  have e1 : i2 = i := by rw [hi1] at hi3; cases hi3; rfl
  have e2 : i3 = i := by rw [hi1] at hi5; cases hi5; rfl
  subst e1 e2
  have hus := src.newsLen
  have hxu : (xs ++ us).length = (n + m) * sz := by rw [List.length_append, hxl, hus, Nat.add_mul]
  obtain ⟨L1, L2, hL, hf⟩ := a.e
  have hsrc : Src P i3.size T' y m us w := hi4.symm ▸ src
  have hzs : zv.cells.size = sz := by rw [hi7]; exact hzl
  -- growing
  have grow : ∀ p c, v = .slice p n c → n ≤ c → c < n + m → (Builtin.firstCells i3.size n (.slice p n c)).run P w.drew = .ok xs.toArray w.drew →
      ∃ v' Lb' w', (Builtin.append_ #[T, T'] ty #[v, y]).run P w = .ok v' w' ∧ OwnS e sz v' (n + m) (xs ++ us) Lb' ∧ St w0 h0 h (f Lb') w' := by
    intro p c hvp _ hc hold
    have hfit : Builtin.nextslicecap (n + m) c * i3.bytes ≤ 281474976710656 := growslice_fits hc (by
      rw [hi2]
      calc (n + m) * by' ≤ 1000000000 * 100000 := Nat.mul_le_mul hlen hby
        _ ≤ 140737488355328 := by decide)
    have hr := run_append_grow_src (P := P) w T T' ty e i3 zv hu.u hi1 hi6 p n c xs hold y m us hsrc hc (by omega) hfit
    rw [← hvp] at hr
    have hge := grownCap_ge w (n + m) c e
    refine ⟨_, [(w.heap.size, row e ((xs ++ us) ++ (Builtin.zeroCells zv.cells (grownCap w (n + m) c e - (n + m))).toList))], _, hr, ⟨hxu, .inr ⟨_, _, _, rfl, rfl, hge, ?_⟩⟩, ?_⟩
    · rw [List.length_append, hxu, Array.length_toList, size_zeroCells, hzs, ← Nat.add_mul]
      congr 1; omega
    · have hst' : St w0 h0 h L w.drew := hst.drew
      have h1 := hst'.alloc (row e ((xs ++ us) ++ (Builtin.zeroCells zv.cells (grownCap w (n + m) c e - (n + m))).toList))
      have hobj : row e ((xs ++ us) ++ (Builtin.zeroCells zv.cells (grownCap w (n + m) c e - (n + m))).toList) = .cells ((xs ++ us).toArray ++ Builtin.zeroCells zv.cells (grownCap w (n + m) c e - (n + m))) e := by
        unfold row
        congr 1
        apply Array.ext'
        simp
      rw [hobj] at h1 ⊢
      rw [hf]
      clear hr hobj
      generalize Obj.cells ((xs ++ us).toArray ++ Builtin.zeroCells zv.cells (grownCap w (n + m) c e - (n + m))) e = O at h1 ⊢
      have hsz : w.drew.heap.size = w.heap.size := rfl
      rw [hsz] at h1
      refine St.of (h1.perm (L' := L1 ++ ([(w.heap.size, O)] ++ (Lb ++ L2))) ?_) (fun q hq => ?_) ?_
      · rw [hL]
        exact (List.perm_middle).symm
      · simp only [List.mem_append, List.mem_singleton] at hq ⊢
        rcases hq with h | h | h
        · exact .inl h
        · exact .inr (.inl h)
        · exact .inr (.inr (.inr h))
      · have nd := h1.nd
        rw [hL] at nd
        have : (L1 ++ ([(w.heap.size, O)] ++ L2)).Perm ((w.heap.size, O) :: (L1 ++ L2)) := List.perm_middle
        refine ((this.map _).nodup_iff).2 (List.Sublist.nodup (List.Sublist.map _ (List.Sublist.cons_cons _ ?_)) nd)
        exact List.Sublist.append (List.Sublist.refl _) (List.sublist_append_right _ _)
  rcases hv with ⟨p, rfl, hpn, rfl, rfl⟩ | ⟨b, c, sp, rfl, rfl, hnc, hlen2⟩
  · obtain rfl : xs = [] := List.eq_nil_of_length_eq_zero (by simpa using hxl)
    rcases Nat.eq_zero_or_pos m with rfl | hm
    · obtain rfl : us = [] := List.eq_nil_of_length_eq_zero (by simpa using hus)
      have hr := run_append_nothing (P := P) w T T' ty e i3 hu.u hi1 p 0 0 (Nat.le_refl _) y hsrc
      exact ⟨_, [], w, hr, ⟨by simp, .inl ⟨p, rfl, hpn, rfl, rfl⟩⟩, by rw [hf, ← hL]; exact hst⟩
    · refine grow p 0 rfl (Nat.le_refl _) (by omega) ?_
      cases p <;> simp [Builtin.firstCells, loadCells, loadCellsFrom, Sem.run, Pure.pure]
  · have hat : At L b (row e (xs ++ sp)) (fun o => L1 ++ ((b, o) :: L2)) := ⟨L1, L2, by rw [hL]; rfl, fun _ => rfl⟩
    have hrow := hat.heap hst
    by_cases hfit : n + m ≤ c
    · have husp : us.length ≤ sp.length := by
        rw [List.length_append, hxl] at hlen2
        have : (n + m) * sz ≤ c * sz := Nat.mul_le_mul_right _ hfit
        rw [Nat.add_mul] at this; omega
      obtain ⟨w', g1, g2, g3, g4, g5, g6, g7⟩ := run_storeCells (P := P) us 0 (o := n * sz) hrow (by rw [List.length_append, hxl]; omega) hpl
      refine ⟨.slice (some ⟨b, 0, none⟩) (n + m) c, [(b, row e ((xs ++ us) ++ sp.drop us.length))], w', ?_, ⟨hxu, .inr ⟨b, c, _, rfl, rfl, hfit, ?_⟩⟩, ?_⟩
      · rcases src.kind with ⟨e', hk⟩ | hk <;> simp [Builtin.append_, run_underlying hu.u, run_underlying hk, sizeOf, typeInfo, hi1, hi4, src.len, hfit, src.cells, add_none, g1]
      · rw [List.length_append, List.length_append, List.length_drop]
        rw [List.length_append] at hlen2; omega
      · have := hat.upd hst (o' := row e ((xs ++ us) ++ sp.drop us.length)) g2 g3 g4 g5 (by
          rw [g6]; simp only [Nat.add_zero]
          rw [← hxl, setN_append us xs sp husp, List.append_assoc]) g7
        rw [hf]; exact this
    · refine grow _ c rfl hnc (by omega) ?_
      have hx : (Builtin.firstCells sz n (.slice (some ⟨b, 0, none⟩) n c)).run P w.drew = .ok xs.toArray w.drew := by
        have hb2 : w.drew.heap[b]? = some (row e (xs ++ sp)) := hrow
        simp only [Builtin.firstCells, ← hxl]
        exact run_loadCells hb2 (by simpa using LookN.of_get (vs := xs) (o := 0) fun j u hj => by simpa [List.getElem?_append_left (List.getElem?_eq_some_iff.1 hj).1] using hj)
      rw [hi4]; exact hx

section appends
variable {x y : Operand} {T T' e : TypeId}
/-- 'append', from whatever source. -/
theorem o_app {Lb : Own} {f : Own → Own} {sz by' n m : Nat} {z xs us : List Value} {v u : Value} [hu : Sl C.P T e] [hs : Sz C.P e sz] [hb : By C.P e by'] [hz : Zv C.P e z]
    (hx : ρ.ev x = v) (hy : ρ.ev y = u) (ho : OwnS e sz v n xs Lb) (a : AtS L Lb f) (src : ∀ w, St C.w0 C.h0 h L w → Src C.P sz T' u m us w) (hlen : n + m ≤ 1000000000)
    (k : ∀ v' Lb', OwnS e sz v' (n + m) (xs ++ us) Lb' → JL C ops Q rest ds (ρ.set d v') h (f Lb')) (hn : Nat.blt d C.n = true := by rfl) (hzl : z.length = sz := by rfl) (hby : Nat.ble by' 100000 = true := by rfl) :
    JL C ops Q (⟨some d, .call { callee := .builtin .append, args := #[x, y], argTypes := #[T, T'] }, ty, pos, after, none⟩ :: rest) ds ρ h L :=
  JL.val rfl rfl rfl hn fun w hst => by
    have hpl : ∀ u ∈ us, plain u = true := fun u hu => by
      have := (src w hst).one u hu
      cases u <;> first | rfl | cases this
    obtain ⟨v', Lb', w', h1, h2, h3⟩ := run_append (T := T) (T' := T') (e := e) (ty := ty) hzl hst a ho hpl (Nat.le_of_ble_eq_true hby) hlen (src w hst)
    refine ⟨v', h, _, w', ?_, h3, k v' Lb' h2⟩
    have hx' : (Builtin.append_ #[T, T'] ty #[ρ.ev x, ρ.ev y]).run C.P w = .ok v' w' := by rw [hx, hy]; exact h1
    have hm : (#[x, y] : Array Operand).map ρ.ev = #[ρ.ev x, ρ.ev y] := by simp
    simp only [execOp, resolve, hm]
    exact run_v hx'
theorem src_own {b o n c sz e' : Nat} {l us : List Value} {T0 : TypeId} {fr : Nat × Nat} {f : Obj → Own} [hu : Sl C.P T' e'] (a : At L b (.cells ⟨l⟩ T0 fr) f) (hl : LookN l o us) (hlen : us.length = n * sz) (hpl : ∀ u ∈ us, plain u = true) :
    ∀ w, St C.w0 C.h0 h L w → Src C.P sz T' (.slice (some ⟨b, o, none⟩) n c) n us w := fun w hst =>
  Src.ofSlice w hu.u _ n c us hlen (cells_of_row (a.heap hst) hl) (fun u hu => plain_one (hpl u hu))
theorem src_fro {n sz e' : Nat} {us : List Value} {v : Value} {h1 : Heap} [hu : Sl C.P T' e'] [hx : Ext h1 h] (s : SlAt h1 v n sz us) (hpl : ∀ u ∈ us, plain u = true) :
    ∀ w, St C.w0 C.h0 h L w → Src C.P sz T' v n us w := fun w hst => by
  obtain ⟨p, c, rfl, _, hl, hp⟩ := s
  rcases hp with ⟨rfl, _⟩ | ⟨b, o, rfl, hc⟩
  · obtain rfl : us = [] := List.eq_nil_of_length_eq_zero (by simpa using hl)
    cases p with
    | none => exact Src.ofNil w hu.u c
    | some a => exact Src.ofSlice w hu.u a 0 c [] (by simp) (fun j u hj => by simp at hj) (fun u hu => by cases hu)
  · obtain ⟨l, T0, fr, hb, hlk⟩ := hc.mono hx
    exact Src.ofSlice w hu.u _ n c us hl (cells_of_row (hst.fro _ _ hb) hlk) (fun u hu => plain_one (hpl u hu))
end appends

section copies
variable {x y : Operand} {T T' e : TypeId}
/-- 'copy' into a slice of one's own. -/
theorem o_cp {b o n c m : Nat} {sz : Nat} {l us : List Value} {u : Value} {T0 : TypeId} {f : Obj → Own} [hu : Sl C.P T e] [hs : Sz C.P e sz] (hx : ρ.ev x = .slice (some ⟨b, o, none⟩) n c) (hy : ρ.ev y = u)
    (a : At L b (row T0 l) f) (src : ∀ w, St C.w0 C.h0 h L w → Src C.P sz T' u m us w) (hmn : m ≤ n) (hlen : o + us.length ≤ l.length)
    (k : JL C ops Q rest ds (ρ.set d (.int .i64 (m : Int))) h (f (row T0 (setN l o us)))) (hn : Nat.blt d C.n = true := by rfl) :
    JL C ops Q (⟨some d, .call { callee := .builtin .copy, args := #[x, y], argTypes := #[T, T'] }, ty, pos, after, none⟩ :: rest) ds ρ h L :=
  JL.val rfl rfl rfl hn fun w hst => by
    have hsr := src w hst
    have hpl : ∀ u ∈ us, plain u = true := fun u hu => by
      have := hsr.one u hu
      cases u <;> first | rfl | cases this
    obtain ⟨w', g1, g2, g3, g4, g5, g6, g7⟩ := run_storeCells (P := C.P) us 0 (o := o) (a.heap hst) (by omega) hpl
    refine ⟨_, h, _, w', ?_, a.upd hst g2 g3 g4 g5 g6 g7, k⟩
    have hmin : Nat.min m n = m := Nat.min_eq_left hmn
    have h1 : (Builtin.copy_ #[T, T'] ty #[ρ.ev x, ρ.ev y]).run C.P w = .ok (.int .i64 (m : Int)) w' := by
      rw [hx, hy]
      simp [Builtin.copy_, run_underlying hu.u, hsr.len, run_sizeOf hs.i, hmin, hsr.cells, g1, goInt]
    have hm : (#[x, y] : Array Operand).map ρ.ev = #[ρ.ev x, ρ.ev y] := by simp
    simp only [execOp, resolve, hm]
    exact run_v h1
end copies
end Go.Z
