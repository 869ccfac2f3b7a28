/- The calculus beneath the proofs: the rules for loads, stores, new variables and calls. No program is named here. -/
import Derived.Test.YtjdfhlkpfjhjoaaB3
set_option linter.unusedSimpArgs false
set_option linter.unusedVariables false
namespace Go.Z
open Go Go.RowKit

variable {C : Cfg} {Q Q' : Post} {ds : List Deferred} {ρ : Env} {h : Heap} {L : Own} {ops : Array Oper} {rest : List Oper}
variable {d : Nat} {ty : TypeId} {pos : String} {after : Array Edge} {S : World → Prop}

/-- From place o on the list reads vs. -/
def LookN (l : List Value) (o : Nat) : List Value → Prop
  | [] => True
  | v :: vs => l[o]? = some v ∧ LookN l (o + 1) vs
/-- vs is laid from place o on. -/
def setN (l : List Value) (o : Nat) : List Value → List Value
  | [] => l
  | v :: vs => setN (l.set o v) (o + 1) vs

theorem LookN.self : ∀ (p l : List Value), LookN (p ++ l) p.length l
  | _, [] => trivial
  | p, v :: vs => ⟨by simp, by have := LookN.self (p ++ [v]) vs; simpa using this⟩
theorem LookN.all (l : List Value) : LookN l 0 l := by simpa using LookN.self [] l
theorem LookN.get {l : List Value} : ∀ {vs : List Value} {o : Nat}, LookN l o vs → ∀ j v, vs[j]? = some v → l[o + j]? = some v
  | [], _, _, j, v, hv => by simp at hv
  | x :: vs, o, ⟨h1, h2⟩, 0, v, hv => by simp at hv; subst hv; simpa using h1
  | x :: vs, o, ⟨h1, h2⟩, j + 1, v, hv => by
    have := LookN.get h2 j v (by simpa using hv)
    rw [show o + (j + 1) = o + 1 + j by omega]; exact this

theorem cell_of {w : World} {b o : Nat} {l : List Value} {T : TypeId} {fr : Nat × Nat} {v : Value} (hb : w.heap[b]? = some (.cells ⟨l⟩ T fr)) (hv : l[o]? = some v) : w.cell? ⟨b, o, none⟩ = some v := by
  simp [World.cell?, hb, hv]
theorem add_none (b o n : Nat) : (Addr.mk b o none).add n = ⟨b, o + n, none⟩ := by unfold Addr.add; split <;> simp_all

theorem run_loadFrom {P : Program} {w : World} {b o : Nat} {l : List Value} {T : TypeId} {fr : Nat × Nat} (hb : w.heap[b]? = some (.cells ⟨l⟩ T fr)) :
    ∀ (vs : List Value) (i : Nat) (acc : Array Value), LookN l (o + i) vs → (loadCellsFrom ⟨b, o, none⟩ i vs.length acc).run P w = .ok (acc ++ ⟨vs⟩) w
  | [], i, acc, _ => by simp [loadCellsFrom, Sem.run, pure]
  | v :: vs, i, acc, ⟨h1, h2⟩ => by
    have hc := cell_of hb h1
    have ih := run_loadFrom (P := P) hb vs (i + 1) (acc.push v) h2
    simp only [List.length_cons, loadCellsFrom, load, add_none, bind, Sem.bind, Sem.run, hc, ih]
    simp
theorem run_loadCells {P : Program} {w : World} {b o : Nat} {l vs : List Value} {T : TypeId} {fr : Nat × Nat} (hb : w.heap[b]? = some (.cells ⟨l⟩ T fr)) (hl : LookN l o vs) :
    (loadCells ⟨b, o, none⟩ vs.length).run P w = .ok ⟨vs⟩ w := by
  rw [loadCells, run_loadFrom hb vs 0 #[] hl]; simp

theorem run_loadVar {P : Program} {w : World} {b o : Nat} {l : List Value} {T T' : TypeId} {fr : Nat × Nat} {v : Value} (hp : Pr P T) (hb : w.heap[b]? = some (.cells ⟨l⟩ T' fr)) (hv : l[o]? = some v) :
    (loadVar T ⟨b, o, none⟩).run P w = .ok v w := by
  simp [loadVar, run_isAgg hp, Result.andThen, load, Sem.run, cell_of hb hv]
theorem run_sizeOf {P : Program} {T n : Nat} {w : World} (hs : ∃ i, P.info? T = some i ∧ i.size = n) : (sizeOf T).run P w = .ok n w := by
  obtain ⟨i, h1, h2⟩ := hs
  simp [sizeOf, typeInfo, program, Sem.run, bind, pure, Sem.bind, h1, h2]
theorem run_loadVarA {P : Program} {w : World} {b o : Nat} {l vs : List Value} {T T' : TypeId} {fr : Nat × Nat} (hp : Ag1 P T vs.length) (hb : w.heap[b]? = some (.cells ⟨l⟩ T' fr)) (hv : LookN l o vs) :
    (loadVar T ⟨b, o, none⟩).run P w = .ok (.agg ⟨vs⟩) w := by
  simp [loadVar, run_isAgg1 hp, run_sizeOf hp.i, Result.andThen, Sem.run, run_loadCells hb hv]

/-- One cell, or what a struct's cells cannot be. -/
def plain : Value → Bool
  | .agg _ => false
  | .tuple _ => false
  | _ => true

theorem heap_setCell_same {w : World} {b o : Nat} {l : List Value} {T : TypeId} {v : Value} (hb : w.heap[b]? = some (row T l)) : (w.setCell ⟨b, o, none⟩ v).heap[b]? = some (row T (l.set o v)) := by
  obtain ⟨hlt, he⟩ := Array.getElem?_eq_some_iff.1 hb
  simp only [World.setCell]
  rw [Array.getElem?_modify]
  simp [hb]
theorem run_storeCells {P : Program} : ∀ (vs : List Value) (i : Nat) {w : World} {b o : Nat} {l : List Value} {T : TypeId}, w.heap[b]? = some (row T l) → o + i + vs.length ≤ l.length → (∀ v ∈ vs, plain v = true) →
    ∃ w', (storeCells ⟨b, o, none⟩ vs i).run P w = .ok () w' ∧ w'.os = w.os ∧ w'.tape = w.tape ∧ w'.output = w.output ∧ w'.heap.size = w.heap.size ∧ w'.heap[b]? = some (row T (setN l (o + i) vs)) ∧ ∀ k, k ≠ b → w'.heap[k]? = w.heap[k]?
  | [], i, w, b, o, l, T, hb, _, _ => ⟨w, by simp [storeCells, Sem.run, pure], rfl, rfl, rfl, rfl, hb, fun _ _ => rfl⟩
  | v :: vs, i, w, b, o, l, T, hb, hlen, hpl => by
    simp only [List.length_cons] at hlen
    have hlt : o + i < l.length := by omega
    have hc : w.cell? ⟨b, o + i, none⟩ = some l[o + i] := cell_of hb (by simp [hlt])
    have hf : w.frozen? ⟨b, o + i, none⟩ = false := by simp [World.frozen?, hb]
    have hb2 := heap_setCell_same (o := o + i) (v := v) hb
    obtain ⟨w', h1, h2, h3, h4, h5, h6, h7⟩ := run_storeCells (P := P) vs (i + 1) (o := o) hb2 (by simp; omega) (fun u hu => hpl u (List.mem_cons_of_mem _ hu))
    refine ⟨w', ?_, h2, h3, h4, by rw [h5]; simp [World.setCell], h6, fun k hk => (h7 k hk).trans (Below.heap_setCell _ _ _ _ hk)⟩
    have hp := hpl v (List.mem_cons_self ..)
    have : (store ((Addr.mk b o none).add i) v).run P w = .ok () (w.setCell ⟨b, o + i, none⟩ v) := by
      rw [add_none]
      cases v <;> simp_all [store, Sem.run, plain]
    simp [storeCells, Sem.run_bind, this, Result.andThen, h1]

/-- Block b among the owned ones: what it holds, and the owned ones with something else in its place. -/
class At (L : Own) (b : Nat) (o : outParam Obj) (f : outParam (Obj → Own)) : Prop where
  e : ∃ L1 L2, L = L1 ++ (b, o) :: L2 ∧ ∀ o', f o' = L1 ++ (b, o') :: L2
instance At.head {L : Own} {b : Nat} {o : Obj} : At ((b, o) :: L) b o (fun o' => (b, o') :: L) := ⟨[], L, rfl, fun _ => rfl⟩
instance At.tail {L : Own} {p : Nat × Obj} {b : Nat} {o : Obj} {f : Obj → Own} [a : At L b o f] : At (p :: L) b o (fun o' => p :: f o') := by
  obtain ⟨L1, L2, h1, h2⟩ := a.e
  exact ⟨p :: L1, L2, by rw [h1]; rfl, fun o' => by rw [h2]; rfl⟩
instance At.app {L M : Own} {b : Nat} {o : Obj} {f : Obj → Own} [a : At L b o f] : At (M ++ L) b o (fun o' => M ++ f o') := by
  obtain ⟨L1, L2, h1, h2⟩ := a.e
  exact ⟨M ++ L1, L2, by rw [h1, List.append_assoc], fun o' => by rw [h2, List.append_assoc]⟩

theorem At.heap {L : Own} {b : Nat} {o : Obj} {f : Obj → Own} (a : At L b o f) {w0 w : World} {h0 h : Heap} (s : St w0 h0 h L w) : w.heap[b]? = some o := by
  obtain ⟨L1, L2, rfl, _⟩ := a.e
  exact (s.own (b, o) (by simp)).2.1
theorem At.upd {L : Own} {b : Nat} {o : Obj} {f : Obj → Own} (a : At L b o f) {w0 w w' : World} {h0 h : Heap} (s : St w0 h0 h L w) {o' : Obj}
    (hos : w'.os = w.os) (ht : w'.tape = w.tape) (hout : w'.output = w.output) (hsz : w'.heap.size = w.heap.size)
    (hb : w'.heap[b]? = some o') (hne : ∀ k, k ≠ b → w'.heap[k]? = w.heap[k]?) : St w0 h0 h (f o') w' := by
  obtain ⟨L1, L2, rfl, hf⟩ := a.e
  rw [hf]
  exact s.upd hos ht hout hsz hb hne

/-- Frozen cells that are known. -/
def CellN (h : Heap) (b o : Nat) (vs : List Value) : Prop := ∃ l T fr, h b = some (.cells ⟨l⟩ T fr) ∧ LookN l o vs
theorem CellN.mono {h h' : Heap} {b o : Nat} {vs : List Value} (c : CellN h b o vs) (e : Ext h h') : CellN h' b o vs :=
  let ⟨l, T, fr, x, y⟩ := c; ⟨l, T, fr, e.le _ _ x, y⟩

section loads
variable {x y : Operand} {T T' : TypeId} {b o : Nat}
theorem At.heapS {L : Own} {b : Nat} {o : Obj} {f : Obj → Own} (a : At L b o f) {w : World} (s : SS C h L w) : w.heap[b]? = some o := by
  obtain ⟨h', L', _, hl, hs⟩ := s
  obtain ⟨L1, L2, rfl, _⟩ := a.e
  exact (hs.own (b, o) (hl.subset (by simp))).2.1
theorem CellN.heapS {h1 : Heap} [e : Ext h1 h] {b o : Nat} {vs : List Value} (c : CellN h1 b o vs) {w : World} (s : SS C h L w) : ∃ l T fr, w.heap[b]? = some (.cells ⟨l⟩ T fr) ∧ LookN l o vs := by
  obtain ⟨h', L', he, _, hs⟩ := s
  obtain ⟨l, T, fr, x, y⟩ := c
  exact ⟨l, T, fr, hs.fro _ _ (he.le _ _ (e.le _ _ x)), y⟩
/-- A cell of an owned block. -/
theorem q_ld {l : List Value} {fr : Nat × Nat} {v : Value} {f : Obj → Own} [hp : Pr C.P T] (hx : ρ.ev x = .pointer (some ⟨b, o, none⟩)) (a : At L b (.cells ⟨l⟩ T' fr) f) (hv : l[o]? = some v) : Qr C ρ (SS C h L) (.load T x) ty v :=
  ⟨rfl, fun w hs => by simp [execOp, hx, Instr.loadAt, Instr.sureAddr, run_loadVar hp (a.heapS hs) hv, Sem.run_bind, Result.andThen, Sem.run, pure]⟩
/-- A struct or array in an owned block. -/
theorem q_lda {l vs : List Value} {fr : Nat × Nat} {f : Obj → Own} [hp : Ag1 C.P T vs.length] (hx : ρ.ev x = .pointer (some ⟨b, o, none⟩)) (a : At L b (.cells ⟨l⟩ T' fr) f) (hv : LookN l o vs) : Qr C ρ (SS C h L) (.load T x) ty (.agg ⟨vs⟩) :=
  ⟨rfl, fun w hs => by simp [execOp, hx, Instr.loadAt, Instr.sureAddr, run_loadVarA hp (a.heapS hs) hv, Sem.run_bind, Result.andThen, Sem.run, pure]⟩
/-- A variable that is a struct or array, whole. -/
theorem q_ldw {l : List Value} {fr : Nat × Nat} {f : Obj → Own} {n : Nat} [hp : Ag1 C.P T n] (hx : ρ.ev x = .pointer (some ⟨b, 0, none⟩)) (a : At L b (.cells ⟨l⟩ T' fr) f) (hv : l.length = n) : Qr C ρ (SS C h L) (.load T x) ty (.agg ⟨l⟩) := by
  subst hv
  exact q_lda hx a (LookN.all l)
/-- A frozen cell. -/
theorem q_ldf {h1 : Heap} {v : Value} [hp : Pr C.P T] [e : Ext h1 h] (hx : ρ.ev x = .pointer (some ⟨b, o, none⟩)) (hv : CellN h1 b o [v]) : Qr C ρ (SS C h L) (.load T x) ty v :=
  ⟨rfl, fun w hs => by
    obtain ⟨l, T', fr, hb, hl⟩ := hv.heapS hs
    simp [execOp, hx, Instr.loadAt, Instr.sureAddr, run_loadVar hp hb hl.1, Sem.run_bind, Result.andThen, Sem.run, pure]⟩
theorem q_ldfa {h1 : Heap} {vs : List Value} [hp : Ag1 C.P T vs.length] [e : Ext h1 h] (hx : ρ.ev x = .pointer (some ⟨b, o, none⟩)) (hv : CellN h1 b o vs) : Qr C ρ (SS C h L) (.load T x) ty (.agg ⟨vs⟩) :=
  ⟨rfl, fun w hs => by
    obtain ⟨l, T', fr, hb, hl⟩ := hv.heapS hs
    simp [execOp, hx, Instr.loadAt, Instr.sureAddr, run_loadVarA hp hb hl, Sem.run_bind, Result.andThen, Sem.run, pure]⟩
end loads

section stores
variable {x y : Operand} {T T' : TypeId} {b o : Nat}
/-- A store of the value whose cells are vs. -/
theorem o_st {l vs : List Value} {v : Value} {f : Obj → Own} (hs : ∃ i, C.P.info? T = some i ∧ i.size = vs.length) (hx : ρ.ev x = .pointer (some ⟨b, o, none⟩)) (hy : ρ.ev y = v) (hv : v.cells = ⟨vs⟩) (hpl : ∀ u ∈ vs, plain u = true)
    (a : At L b (row T' l) f) (hlen : o + vs.length ≤ l.length) (k : JL C ops Q rest ds ρ h (f (row T' (setN l o vs)))) :
    JL C ops Q (⟨none, .store T x y, ty, pos, after, none⟩ :: rest) ds ρ h L :=
  JL.unit rfl rfl rfl fun w hst => by
    obtain ⟨w', h1, h2, h3, h4, h5, h6, h7⟩ := run_storeCells (P := C.P) vs 0 (o := o) (a.heap hst) (by omega) hpl
    refine ⟨h, _, w', ?_, a.upd hst h2 h3 h4 h5 h6 h7, k⟩
    have hz : (Instr.storeAt T (ρ.ev x) (ρ.ev y)).run C.P w = .ok () w' := by
      rw [hx, hy]
      simp [Instr.storeAt, Instr.sureAddr, storeVar, hv, run_sizeOf hs, Sem.run_bind, Result.andThen, Sem.run, pure, h1]
    simp [execOp, hz, Sem.run_bind, Result.andThen, Sem.run, pure]
/-- Of one cell. -/
theorem o_st1 {l : List Value} {v : Value} {f : Obj → Own} [hs : Sz C.P T 1] (hx : ρ.ev x = .pointer (some ⟨b, o, none⟩)) (hy : ρ.ev y = v) (hpl : plain v = true)
    (a : At L b (row T' l) f) (hlen : o < l.length) (k : JL C ops Q rest ds ρ h (f (row T' (l.set o v)))) :
    JL C ops Q (⟨none, .store T x y, ty, pos, after, none⟩ :: rest) ds ρ h L :=
  o_st (vs := [v]) hs.i hx hy (by cases v <;> first | rfl | cases hpl) (by simpa using hpl) a (by simp; omega) k
/-- A whole variable that is a struct or array. -/
theorem o_stw {l vs : List Value} {f : Obj → Own} {n : Nat} [hs : Sz C.P T n] (hx : ρ.ev x = .pointer (some ⟨b, 0, none⟩)) (hy : ρ.ev y = .agg ⟨vs⟩) (hpl' : vs.all plain = true)
    (a : At L b (row T' l) f) (hl : l.length = n) (hv : vs.length = n) (k : JL C ops Q rest ds ρ h (f (row T' vs))) :
    JL C ops Q (⟨none, .store T x y, ty, pos, after, none⟩ :: rest) ds ρ h L := by
  have hpl : ∀ u ∈ vs, plain u = true := List.all_eq_true.1 hpl'
  have key : ∀ (vs p l : List Value), l.length = p.length + vs.length → (∀ j, j < p.length → l[j]? = p[j]?) → setN l p.length vs = p ++ vs := by
    intro vs
    induction vs with
    | nil =>
      intro p l hl hp
      simp only [setN, List.append_nil]
      refine List.ext_getElem? fun j => ?_
      rcases Nat.lt_or_ge j p.length with hj | hj
      · exact hp j hj
      · simp at hl; rw [List.getElem?_eq_none (by omega), List.getElem?_eq_none hj]
    | cons v vs ih =>
      intro p l hl hp
      have := ih (p ++ [v]) (l.set p.length v) (by simp at hl ⊢; omega) (fun j hj => by
        simp at hj
        by_cases e : j = p.length
        · have hlt : p.length < l.length := by rw [hl]; simp
          subst e; simp [hlt]
        · rw [List.getElem?_set_ne (by omega), hp j (by omega)]; rw [List.getElem?_append_left (by omega)])
      simpa [setN] using this
  have := key vs [] l (by simp only [List.length_nil]; omega) (by simp)
  refine o_st (vs := vs) (by obtain ⟨i, h1, h2⟩ := hs.i; exact ⟨i, h1, by omega⟩) hx hy rfl hpl a (by omega) ?_
  simpa using this ▸ k
end stores

section news
variable {x y : Operand} {T T' : TypeId}
theorem run_newRow {P : Program} {w : World} (T : TypeId) (cs : Array Value) : (newRow T cs).run P w = .ok ⟨w.heap.size, 0, none⟩ (w.alloc (.cells cs T)) := rfl
/-- A new variable, zero. -/
theorem o_al {z : List Value} [hz : Zv C.P T z] (k : ∀ b, JL C ops Q rest ds (ρ.set d (.pointer (some ⟨b, 0, none⟩))) h ((b, row T z) :: L)) (hn : Nat.blt d C.n = true := by rfl) :
    JL C ops Q (⟨some d, .alloc T, ty, pos, after, none⟩ :: rest) ds ρ h L :=
  JL.val rfl rfl rfl hn fun w hs => by
    obtain ⟨i, v, h1, h2, h3⟩ := hz.i
    refine ⟨_, h, _, w.alloc (row T z), ?_, hs.alloc _, k _⟩
    have hz : (zeroValue T).run C.P w = .ok v w := by simp [zeroValue, typeInfo, program, h1, h2, Sem.run_bind, Result.andThen, Sem.run, pure]
    simp [execOp, Instr.alloc, hz, h3, newVar, run_newRow, Sem.run_bind, Result.andThen, Sem.run, pure]
/-- A new variable that holds a value. -/
theorem o_bx {v : Value} {vs : List Value} (hx : ρ.ev x = v) (hv : v.cells = ⟨vs⟩) (k : ∀ b, JL C ops Q rest ds (ρ.set d (.pointer (some ⟨b, 0, none⟩))) h ((b, row T vs) :: L)) (hn : Nat.blt d C.n = true := by rfl) :
    JL C ops Q (⟨some d, .box T x, ty, pos, after, none⟩ :: rest) ds ρ h L :=
  JL.val rfl rfl rfl hn fun w hs => by
    refine ⟨_, h, _, w.alloc (row T vs), ?_, hs.alloc _, k _⟩
    simp [execOp, Instr.box, hx, hv, newVar, run_newRow, Sem.run_bind, Result.andThen, Sem.run, pure]
end news

/-! ### Calls -/
theorem JL.enter {o : Oper} {f : FuncId} {args : Array Value} (hg : o.guard = none) (hc : calm o.op = true) {d : Nat} (hd : o.dst = some d) (hn : Nat.blt d C.n = true)
    (run : ∀ w, St C.w0 C.h0 h L w → (execOp ρ.ev o).run C.P w = .ok (.enter f args) w)
    (hcall : ∀ w, St C.w0 C.h0 h L w → Calls C.P f args w fun e w' => ∃ v h' L', e = .returned v ∧ St C.w0 C.h0 h' L' w' ∧ JL C ops Q rest ds (ρ.set d v) h' L') :
    JL C ops Q (o :: rest) ds ρ h L := JL.step hg hc fun a w ha hs => by
  rw [run w hs, Oper.uponIn_enter]
  refine ⟨fun hx => (by simp [fen] at hx), ?_⟩
  have hin : CallsIn Fence.wide (0 - 1) C.P f args w _ := callsIn_wide.2 (hcall w hs)
  refine ⟨trivial, fun cs hr => ?_⟩
  obtain ⟨e, w', fr, ⟨v, h', L', rfl, hst, hk⟩, hsteps, hfn, hl⟩ := hin.2 cs (room_wide _)
  refine ⟨.returned v, w', fr, ?_, hsteps, hfn, hl⟩
  show wpL C.r C.P ops (lift C Q) rest (a.put o.dst v) w'
  rw [hd]
  exact hk _ _ (ha.put hn v) hst

theorem Fn.use {P : Program} {f : FuncId} {args : Array Value} {h : Heap} {R : Value → Heap → Prop} (hf : Fn P f args h R) {w0 w : World} {h0 : Heap} {L : Own} (s : St w0 h0 h L w) :
    Calls P f args w fun e w' => ∃ v h', e = .returned v ∧ Step h h' ∧ St w0 h0 h' L w' ∧ R v h' := by
  refine (hf w s.fro).mono ?_
  rintro e w' ⟨v, h', rfl, hb, he, hold, hfro, hR⟩
  refine ⟨v, h', rfl, he.toStep, ⟨s.below.trans (hb.mono s.below.size), fun b o x => he.le b o (s.ge b o x), fun b hb' => (hold b (Nat.lt_of_lt_of_le hb' s.below.size)).trans (s.old b hb'), hfro, fun p hp => ?_, s.nd⟩, hR⟩
  have hlt := s.ownLt hp
  exact ⟨(s.own p hp).1, (hb.block _ hlt).trans (s.own p hp).2.1, (hold _ hlt).trans (s.own p hp).2.2⟩

section calls
variable {f : FuncId} {R : Value → Heap → Prop}
theorem run_resolve_func {P : Program} {w : World} {ρ : Operand → Value} {xs : List Operand} {ts : Array TypeId} {ty : TypeId} [he : Ent P f] :
    (do let d ← resolve ρ { callee := .value (.func f), args := ⟨xs⟩, argTypes := ts } ty; invoke d.target d.args : Sem Next).run P w = .ok (.enter f ⟨xs.map ρ⟩) w ∨ ρ (.func f) ≠ .func (.func f) #[] #[] := by
  by_cases hr : ρ (.func f) = .func (.func f) #[] #[]
  · left
    simp [resolve, Deferred.ofValue, hr, invoke, he.e, Sem.run_bind, Result.andThen, Sem.run, pure]
  · exact .inr hr
/-- A call of a function. -/
theorem o_call {xs : List Operand} {ts : Array TypeId} [he : Ent C.P f] (hf : Fn C.P f (List.toArray (xs.map ρ.ev)) h R)
    (k : ∀ v h', Step h h' → R v h' → JL C ops Q rest ds (ρ.set d v) h' L) (hn : Nat.blt d C.n = true := by rfl) :
    JL C ops Q (⟨some d, .call { callee := .value (.func f), args := ⟨xs⟩, argTypes := ts }, ty, pos, after, none⟩ :: rest) ds ρ h L :=
  JL.enter rfl rfl rfl hn (fun w _ => by
      have := run_resolve_func (P := C.P) (w := w) (ρ := ρ.ev) (f := f) (xs := xs) (ts := ts) (ty := ty)
      rcases this with h | h
      · simpa [execOp] using h
      · exact absurd rfl h) fun w hs => (hf.use hs).mono fun e w' ⟨v, h', a, b, c, r⟩ => ⟨v, h', L, a, c, k v h' b r⟩
end calls
end Go.Z
