/- The calculus beneath the proofs: functions as values, calls that may write the caller's own blocks, ranges over functions. No program is named here. -/
import Derived.Test.YtjdfhlkpfjhjoaaB10
import Derived.RangeFuncRecord
import Derived.RangeFuncLeaves
set_option linter.unusedSimpArgs false
set_option linter.unusedVariables false
namespace Go.Z
open Go Go.RowKit

variable {C : Cfg} {Q Q' : Post} {ds : List Deferred} {ρ : Env} {h : Heap} {L : Own} {ops : Array Oper} {rest : List Oper}
variable {d : Nat} {ty : TypeId} {pos : String} {after : Array Edge} {S : World → Prop}

theorem q_mf {f : Go.Fn} {fs cs : List Operand} : Qr C ρ S (.makeFunc f ⟨fs⟩ ⟨cs⟩) ty (.func f ⟨fs.map ρ.ev⟩ ⟨cs.map ρ.ev⟩) := ⟨rfl, fun w _ => by
  simp [execOp, Instr.makeFunc, Sem.run, bind, Sem.bind, pure]⟩

/-! ### A call that may write the caller's own blocks -/
def FnIn (C : Cfg) (f : FuncId) (args : Array Value) (h : Heap) (L : Own) (R : Value → Heap → Own → Prop) : Prop :=
  ∀ w, St C.w0 C.h0 h L w → Calls C.P f args w fun e w' => ∃ v h' L', e = .returned v ∧ Ext h h' ∧ St C.w0 C.h0 h' L' w' ∧ R v h' L'
structure retQL (C : Cfg) (fn : Func) (h0 : Heap) (R : Value → Heap → Own → Prop) (e : Exit) (ds : List Deferred) (ρ : Env) (h : Heap) (L : Own) : Prop where
  ok : (e = .normal ∨ e = .ret) ∧ ds = [] ∧ Ext h0 h ∧ ∃ v, RetR C fn ρ h L v ∧ R v h L
theorem ret_okL {fn : Func} {rs : List ResultVar} {vs : List Value} {h0 : Heap} {R : Value → Heap → Own → Prop} {e : Exit} (hr : fn.results = ⟨rs⟩) [hx : Ext h0 h] (r : ResV C.P ρ L rs vs) (hR : R (pack vs) h L) (he : e = .normal ∨ e = .ret := by first | exact Or.inr rfl | exact Or.inl rfl) :
    retQL C fn h0 R e [] ρ h L := ⟨⟨he, rfl, hx, _, RetR.of hr r, hR⟩⟩
theorem argAg {n : Nat} {args : List Value} {k : Nat} (hn : k = n) (hl : args.length ≤ n) : Ag n [] { tmps := args.toArray ++ Array.replicate (k - args.toArray.size) undef, defers := [] } (argEnv args) := by
  refine ⟨?_, rfl, fun t => ?_⟩
  · simp [hn]; omega
  · simp only [argEnv, List.getD_eq_getElem?_getD]
    rcases Nat.lt_or_ge t args.length with ht | ht
    · simp [Array.getElem?_append, ht]
    · by_cases h2 : t - args.length < k - args.length
      · simp [Array.getElem?_append, Nat.not_lt.2 ht, List.getElem?_eq_none ht, h2]
      · simp [Array.getElem?_append, Nat.not_lt.2 ht, List.getElem?_eq_none ht, h2]
theorem FnIn.intro {f : FuncId} {fn : Func} {c : Code} {args : List Value} {R : Value → Heap → Own → Prop} {n : Nat} (hf : C.P.funcs[f]? = some fn) (hb : fn.body = some c) (hn : fn.ntmps = n) (hl : args.length ≤ n)
    (hj : J ⟨C.P, none, n, C.w0, C.h0⟩ c (retQL ⟨C.P, none, n, C.w0, C.h0⟩ fn h R) [] (argEnv args) h L) : FnIn C f args.toArray h L R := by
  intro w hw
  refine (callsIn_wide (n := 0)).1 (callsIn_of_wp hf hb trivial (wpIn_mono (hj _ w (argAg hn hl) hw) ?_))
  rintro e a' w' ⟨ds, ρ, h', L', h1, h2, ⟨he, rfl, hx, v, hv, hR⟩⟩
  have hres := hv a' w' _ h1 h2
  have post : a'.defers = [] ∧ ∃ v, (results fn a'.tmps).run C.P w' = .ok v w' ∧ ∃ v1 h' L', Ending.returned v = .returned v1 ∧ Ext h h' ∧ St C.w0 C.h0 h' L' w' ∧ R v1 h' L' :=
    ⟨h1.defers, v, hres, v, h', L', rfl, hx, h2, hR⟩
  rcases he with rfl | rfl
  · exact post
  · exact post
theorem run_call_val {P : Program} {f : FuncId} {w : World} {ρ : Operand → Value} {x : Operand} {xs : List Operand} {ts : Array TypeId} {ty : TypeId} {fs cap : List Value} [he : Ent P f] (hx : ρ x = .func (.func f) ⟨fs⟩ ⟨cap⟩) :
    (do let d ← resolve ρ { callee := .value x, args := ⟨xs⟩, argTypes := ts } ty; invoke d.target d.args : Sem Next).run P w = .ok (.enter f (List.toArray (fs ++ xs.map ρ ++ cap))) w := by
  simp [resolve, Deferred.ofValue, hx, invoke, Sem.run_bind, Result.andThen, Sem.run, pure]
  have := he.e (List.toArray (fs ++ xs.map ρ ++ cap)) w
  simpa [Sem.run] using this
section calls
variable {f : FuncId}
/-- A call of a function value. -/
theorem o_callv {R : Value → Heap → Prop} {x : Operand} {xs : List Operand} {ts : Array TypeId} {fs cap : List Value} [he : Ent C.P f] (hx : ρ.ev x = .func (.func f) ⟨fs⟩ ⟨cap⟩) (hf : Fn C.P f (List.toArray (fs ++ xs.map ρ.ev ++ cap)) h R)
    (k : ∀ v h', Step h h' → R v h' → JL C ops Q rest ds (ρ.set d v) h' L) (hn : Nat.blt d C.n = true := by rfl) :
    JL C ops Q (⟨some d, .call { callee := .value x, args := ⟨xs⟩, argTypes := ts }, ty, pos, after, none⟩ :: rest) ds ρ h L :=
  JL.enter rfl rfl rfl hn (fun w _ => by simpa [execOp] using run_call_val (P := C.P) (w := w) (ts := ts) (ty := ty) (xs := xs) hx) fun w hs => (hf.use hs).mono fun e w' ⟨v, h', a, b, c, r⟩ => ⟨v, h', L, a, c, k v h' b r⟩
/-- A call that may write the caller's own blocks. -/
theorem o_calll {R : Value → Heap → Own → Prop} {xs : List Operand} {ts : Array TypeId} [he : Ent C.P f] (hf : FnIn C f (List.toArray (xs.map ρ.ev)) h L R)
    (k : ∀ v h' L', Step h h' → R v h' L' → JL C ops Q rest ds (ρ.set d v) h' L') (hn : Nat.blt d C.n = true := by rfl) :
    JL C ops Q (⟨some d, .call { callee := .value (.func f), args := ⟨xs⟩, argTypes := ts }, ty, pos, after, none⟩ :: rest) ds ρ h L :=
  JL.enter rfl rfl rfl hn (fun w _ => by
      have := run_call_val (P := C.P) (f := f) (w := w) (ρ := ρ.ev) (x := .func f) (xs := xs) (ts := ts) (ty := ty) (fs := []) (cap := []) rfl
      simpa [execOp] using this) fun w hs => (hf w hs).mono fun e w' ⟨v, h', L', a, b, c, r⟩ => ⟨v, h', L', a, c, k v h' L' b.toStep r⟩
end calls

/-! ### A range over a function -/
/-- A loop's record. -/
def recO (fn : FuncId) (tm : Array Value) (ps : Array Tmp) (assign body : Code) (D : Nat) (st : LoopState) : Obj :=
  .loop { state := st, pending := none, fn, tmps := tm, params := ps, assign, body, defers := D }
/-- The temporaries read as ρ. -/
def TmOf (n : Nat) (ρ : Env) (tm : Array Value) : Prop := tm.size = n ∧ ∀ t, tm.getD t undef = ρ t

theorem AtS.heap1 {L : Own} {b : Nat} {o : Obj} {f : Own → Own} (a : AtS L [(b, o)] f) {w0 w : World} {h0 h : Heap} (s : St w0 h0 h L w) : w.heap[b]? = some o := by
  obtain ⟨L1, L2, rfl, _⟩ := a.e
  exact (s.own (b, o) (by simp)).2.1
theorem putObj_rest (w : World) (b : Nat) (o : Obj) : (w.putObj b o).os = w.os ∧ (w.putObj b o).tape = w.tape ∧ (w.putObj b o).output = w.output ∧ (w.putObj b o).heap.size = w.heap.size := ⟨rfl, rfl, rfl, by simp⟩
theorem AtS.gone {L : Own} {b : Nat} {o o' : Obj} {f : Own → Own} (a : AtS L [(b, o)] f) {w0 w : World} {h0 h : Heap} (s : St w0 h0 h L w) : St w0 h0 h (f []) (w.putObj b o') := by
  obtain ⟨L1, L2, rfl, hf⟩ := a.e
  rw [hf]
  have hb : b < w.heap.size := (Array.getElem?_eq_some_iff.1 ((s.own (b, o) (by simp)).2.1)).1
  have h1 : St w0 h0 h (L1 ++ (b, o') :: L2) (w.putObj b o') := s.upd (o := o) rfl rfl rfl (by simp) (World.putObj_heap_same hb) fun k hk => World.putObj_heap_other hk
  refine h1.sub ?_
  exact List.Sublist.append (List.Sublist.refl _) (List.Sublist.cons _ (List.Sublist.refl _))
theorem At.put {L : Own} {b : Nat} {o o' : Obj} {f : Obj → Own} (a : At L b o f) {w0 w : World} {h0 h : Heap} (s : St w0 h0 h L w) : St w0 h0 h (f o') (w.putObj b o') := by
  have hb : b < w.heap.size := (Array.getElem?_eq_some_iff.1 (a.heap s)).1
  exact a.upd s rfl rfl rfl (by simp) (World.putObj_heap_same hb) fun k hk => World.putObj_heap_other hk

theorem J.rangeFunc {g : Operand} {ps : Array Tmp} {assign body : Code} {gf : FuncId} {cap : List Value} (hr : C.r = none) (hg : ρ.ev g = .func (.func gf) #[] ⟨cap⟩) [he : Ent C.P gf]
    (k : ∀ (fn : FuncId) (tm : Array Value) (l D : Nat) (OB : LoopState → Obj), (∀ st, OB st = recO fn tm ps assign body D st) → TmOf C.n ρ tm → FnIn C gf (List.toArray (.func (.yield l) #[] #[] :: cap)) h ((l, OB .ready) :: (D, .deferred (some [])) :: L)
      (fun _ h' L' => ∃ f1, ∃ _ : AtS L' [(l, OB .ready)] f1, Q .normal ({ target := .collected D, args := #[] } :: ds) ρ h' (f1 []))) :
    J C (.rangeFunc g ps assign body) Q ds ρ h L := fun a w ha hs => by
  have hro : (fen C.r).round = none := hr
  refine wpIn_rangeFunc fun fn _ => ?_
  have hs1 : St C.w0 C.h0 h ((w.heap.size + 1, recO fn a.tmps ps assign body w.heap.size .ready) :: (w.heap.size, .deferred (some [])) :: L) ((w.alloc (.deferred (some []))).alloc (recO fn a.tmps ps assign body w.heap.size .ready)) := by
    have := (hs.alloc (.deferred (some []))).alloc (recO fn a.tmps ps assign body w.heap.size .ready)
    rwa [World.size_alloc] at this
  have hk := k fn a.tmps (w.heap.size + 1) w.heap.size (recO fn a.tmps ps assign body w.heap.size) (fun _ => rfl) ⟨ha.size, ha.get⟩ _ hs1
  obtain ⟨W, hW⟩ : ∃ W, (w.alloc (.deferred (some []))).alloc (recO fn a.tmps ps assign body w.heap.size .ready) = W := ⟨_, rfl⟩
  rw [hW] at hk
  have hev : a.eval g = .func (.func gf) #[] ⟨cap⟩ := by rw [ha.eval]; exact hg
  refine ⟨w.heap.size + 1, [{ target := .collected w.heap.size, args := #[] }], W, { target := .fn (.func gf) ⟨cap⟩, args := #[.func (.yield (w.heap.size + 1)) #[] #[]] }, W, gf, List.toArray (.func (.yield (w.heap.size + 1)) #[] #[] :: cap), W, ?_, ?_, ?_, ?_, fun hx => (by simp [fen] at hx), ?_⟩
  · rw [hro, ← hW]; exact run_enterLoop_outer _ _ _ _ _
  · simp only [resolve, hev]
    simp [go_sem]
  · intro f' hf'; simp [fen]
  · have := he.e (List.toArray (.func (.yield (w.heap.size + 1)) #[] #[] :: cap)) W
    simpa [invoke, go_sem] using this
  · have hw : fen C.r = Fence.wide := by rw [hr]; rfl
    rw [hw]
    refine callsIn_wide.2 (hk.mono ?_)
    rintro e w' ⟨v, h', L', rfl, hx, hst, f1, hat, hq⟩
    refine ⟨none, _, run_endLoop (hat.heap1 hst) (by simp), ?_⟩
    exact ⟨_, ρ, h', f1 [], ⟨ha.size, by simp [ha.defers], ha.get⟩, hat.gone hst, hq⟩

/-- A round's temporaries: the parameters are set. -/
def setZip (ρ : Env) : List Nat → List Value → Env
  | p :: ps, v :: vs => setZip (ρ.set p v) ps vs
  | _, _ => ρ
theorem zip_ag {n : Nat} {ρ : Env} : ∀ (ps : List Nat) (vs : List Value) (tm : Array Value), TmOf n ρ tm → (ps.all fun p => Nat.blt p n) = true → Ag n [] { tmps := (ps.zip vs).foldl (fun t (p : Nat × Value) => t.setIfInBounds p.1 p.2) tm, defers := [] } (setZip ρ ps vs)
  | [], vs, tm, h, _ => ⟨h.1, rfl, h.2⟩
  | p :: ps, [], tm, h, _ => ⟨h.1, rfl, h.2⟩
  | p :: ps, v :: vs, tm, h, hp => by
    simp only [List.all_cons, Bool.and_eq_true] at hp
    have h1 : Ag n [] { tmps := tm, defers := [] } ρ := ⟨h.1, rfl, h.2⟩
    have h2 := h1.put hp.1 v
    exact zip_ag ps vs (tm.setIfInBounds p v) ⟨h2.size, h2.get⟩ hp.2

theorem o_yield {x : Operand} {xs : List Operand} {ts : Array TypeId} {l fn D n' : Nat} {tm : Array Value} {pl : List Nat} {assign body : Code} {f : Obj → Own} {ρ0 : Env} (hx : ρ.ev x = .func (.yield l) #[] #[]) {OB : LoopState → Obj} (hOB : ∀ st, OB st = recO fn tm ⟨pl⟩ assign body D st) (htm : TmOf n' ρ0 tm)
    (a : At L l (OB .ready) f) (hlen : xs.length = pl.length) (hp : (pl.all fun p => Nat.blt p n') = true)
    (k : J ⟨C.P, some l, n', C.w0, C.h0⟩ assign (fun e ds1 ρ1 h1 L1 => e = .normal ∧ ∃ f1, ∃ _ : At L1 l (OB .ready) f1,
      J ⟨C.P, some l, n', C.w0, C.h0⟩ body (fun e2 ds2 ρ2 h2 L2 => e2 = .normal ∧ ∃ f2, ∃ _ : At L2 l (OB .busy) f2, JL C ops Q rest ds (ρ.set d (.bool true)) h2 (f2 (OB .ready))) ds1 ρ1 h1 (f1 (OB .busy)))
      [] (setZip ρ0 pl (xs.map ρ.ev)) h L) (hn : Nat.blt d C.n = true := by rfl) :
    JL C ops Q (⟨some d, .call { callee := .value x, args := ⟨xs⟩, argTypes := ts }, ty, pos, after, none⟩ :: rest) ds ρ h L := by
  obtain rfl : OB = recO fn tm ⟨pl⟩ assign body D := funext hOB
  refine JL.step rfl rfl fun act w ha hs => ?_
  have hy := run_yield (P := C.P) (args := (List.toArray (xs.map ρ.ev))) (a.heap hs) (by simp [hlen])
  have hrun : (execOp ρ.ev ⟨some d, .call { callee := .value x, args := ⟨xs⟩, argTypes := ts }, ty, pos, after, none⟩).run C.P w =
      .ok (.round l fn (((⟨pl⟩ : Array Tmp).zip (List.toArray (xs.map ρ.ev))).foldl (fun tmps (t, a) => tmps.setIfInBounds t a) tm) assign body) w := by
    simp only [execOp, resolve, hx, Deferred.ofValue, Sem.run_bind, Sem.run_pure, Result.andThen, invoke]
    simpa [recO] using hy
  rw [hrun, Oper.uponIn_round]
  refine ⟨fun hx => (by simp [fen] at hx), ?_⟩
  have hz : ((⟨pl⟩ : Array Tmp).zip (List.toArray (xs.map ρ.ev))).foldl (fun tmps (t, a) => tmps.setIfInBounds t a) tm = (pl.zip (xs.map ρ.ev)).foldl (fun t (p : Nat × Value) => t.setIfInBounds p.1 p.2) tm := by
    rw [← Array.foldl_toList]; simp
  rw [hz]
  refine roundIn_of_wpIn trivial ?_
  have hk := k _ w (zip_ag pl (xs.map ρ.ev) tm htm hp) hs
  refine wpIn_mono hk ?_
  rintro e a1 w1 ⟨ds1, ρ1, h1, L1, ag1, st1, rfl, f1, at1, kb⟩
  refine ⟨_, run_beginRound (at1.heap st1) rfl, ?_⟩
  refine wpIn_mono (kb a1 _ ag1 (at1.put st1)) ?_
  rintro e a2 w2 ⟨ds2, ρ2, h2, L2, ag2, st2, rfl, f2, at2, kr⟩
  refine ⟨_, _, run_endRound none (at2.heap st2), ?_⟩
  exact kr _ _ (ha.put hn (.bool true)) (at2.put st2)

/-! ### A function that holds such a loop -/
structure retQM (C : Cfg) (fn : Func) (R : Value → Heap → Prop) (e : Exit) (ds : List Deferred) (ρ : Env) (h : Heap) (L : Own) : Prop where
  ok : (e = .normal ∨ e = .ret) ∧ ∃ D f, ds = [{ target := .collected D, args := #[] }] ∧ At L D (.deferred (some [])) f ∧ ∃ v, RetR C fn ρ h (f (.deferred none)) v ∧ R v h
theorem ret_okM {fn : Func} {rs : List ResultVar} {vs : List Value} {R : Value → Heap → Prop} {e : Exit} {D : Nat} {f : Obj → Own} (hr : fn.results = ⟨rs⟩) [a : At L D (.deferred (some [])) f] (r : ResV C.P ρ (f (.deferred none)) rs vs) (hR : R (pack vs) h) (he : e = .normal ∨ e = .ret := by first | exact Or.inr rfl | exact Or.inl rfl) :
    retQM C fn R e [{ target := .collected D, args := #[] }] ρ h L := ⟨⟨he, D, f, rfl, a, _, RetR.of hr r, hR⟩⟩
theorem Fn.introM {P : Program} {f : FuncId} {fn : Func} {c : Code} {args : List Value} {h : Heap} {R : Value → Heap → Prop} {n : Nat} (hf : P.funcs[f]? = some fn) (hb : fn.body = some c)
    (hn : fn.ntmps = n) (hl : args.length ≤ n)
    (hj : ∀ w, J ⟨P, none, n, w, h⟩ c (retQM ⟨P, none, n, w, h⟩ fn R) [] (argEnv args) h []) : Fn P f args.toArray h R := by
  intro w hw
  refine (callsIn_wide (n := 0)).1 (callsIn_of_wp_marks hf hb trivial (wpIn_mono (hj w _ w (argAg hn hl) ⟨Below.refl _ _, fun _ _ x => x, fun _ _ => rfl, hw, fun _ hp => (by cases hp), by simp⟩) ?_))
  rintro e a' w' ⟨ds, ρ, h', L', h1, h2, ⟨he, D, g, rfl, at1, v, hv, hR⟩⟩
  have st3 : St w h h' (g (.deferred none)) (w'.putObj D (.deferred none)) := at1.put h2
  have htk := run_takeDeferred (P := P) (at1.heap h2)
  have post : LeavesInM Fence.wide 0 P fn a'.tmps (fun e w' => ∃ v h', e = .returned v ∧ Below w.heap.size w w' ∧ Ext h h' ∧ (∀ b, b < w.heap.size → h' b = h b) ∧ (∀ b o, h' b = some o → w'.heap[b]? = some o) ∧ R v h') a'.defers .returning w' := by
    rw [h1.defers]
    refine ⟨by simp, .inl ⟨D, _, rfl, htk, ?_⟩⟩
    have hres := hv { a' with defers := [] } _ [] ⟨h1.size, rfl, h1.get⟩ st3
    exact ⟨v, hres, v, h', rfl, st3.below, ⟨st3.ge⟩, st3.old, st3.fro, hR⟩
  rcases he with rfl | rfl
  · exact post
  · exact post
/-- A store of a struct or array within a variable. -/
theorem o_sta {x y : Operand} {T T' : TypeId} {b o n : Nat} {l vs : List Value} {f : Obj → Own} [hs : Sz C.P T n] (hx : ρ.ev x = .pointer (some ⟨b, o, none⟩)) (hy : ρ.ev y = .agg ⟨vs⟩) (hpl' : vs.all plain = true)
    (a : At L b (row T' l) f) (hv : vs.length = n) (hlen : o + n ≤ l.length) (k : JL C ops Q rest ds ρ h (f (row T' (setN l o vs)))) :
    JL C ops Q (⟨none, .store T x y, ty, pos, after, none⟩ :: rest) ds ρ h L := by
  subst hv
  exact o_st hs.i hx hy rfl (List.all_eq_true.1 hpl') a hlen k
end Go.Z
