/- The calculus beneath the proofs: results of a function; slices, frozen and owned; make, append, copy, slice expressions. No program is named here. -/
import Derived.Test.YtjdfhlkpfjhjoaaB4
set_option linter.unusedSimpArgs false
set_option linter.unusedVariables false
namespace Go.Z
open Go Go.RowKit

variable {C : Cfg} {Q Q' : Post} {ds : List Deferred} {ρ : Env} {h : Heap} {L : Own} {ops : Array Oper} {rest : List Oper}
variable {d : Nat} {ty : TypeId} {pos : String} {after : Array Edge}

/-! ### Results -/
/-- What a result variable gives. -/
inductive ResV (P : Program) (ρ : Env) (L : Own) : List ResultVar → List Value → Prop
  | nil : ResV P ρ L [] []
  | tmp {t : Tmp} {v : Value} {rs : List ResultVar} {vs : List Value} (e : ρ t = v) (r : ResV P ρ L rs vs) : ResV P ρ L (.tmp t :: rs) (v :: vs)
  | agg {t : Tmp} {T T' : TypeId} {b : Nat} {l : List Value} {f : Obj → Own} {fr : Nat × Nat} {rs : List ResultVar} {vs : List Value} (e : ρ t = .pointer (some ⟨b, 0, none⟩)) (a : At L b (.cells ⟨l⟩ T' fr) f)
      (g : Ag1 P T l.length) (r : ResV P ρ L rs vs) : ResV P ρ L (.cell t T :: rs) (.agg ⟨l⟩ :: vs)
  | one {t : Tmp} {T T' : TypeId} {b : Nat} {v : Value} {f : Obj → Own} {fr : Nat × Nat} {rs : List ResultVar} {vs : List Value} (e : ρ t = .pointer (some ⟨b, 0, none⟩)) (a : At L b (.cells ⟨[v]⟩ T' fr) f)
      (g : Pr P T) (r : ResV P ρ L rs vs) : ResV P ρ L (.cell t T :: rs) (v :: vs)

def pack : List Value → Value
  | [v] => v
  | vs => .tuple ⟨vs⟩

def resSem (tmps : Array Value) : ResultVar → Sem Value
  | .tmp t => Pure.pure (tmps.getD t undef)
  | .cell a t => do loadVar t (← asAddr (tmps.getD a undef))

theorem resV_run {P : Program} {ρ : Env} {L : Own} {n : Nat} {w0 w : World} {h0 h : Heap} {a : Act} {ds : List Deferred} (ha : Ag n ds a ρ) (hs : St w0 h0 h L w) :
    ∀ {rs : List ResultVar} {vs : List Value}, ResV P ρ L rs vs → (rs.mapM (resSem a.tmps)).run P w = .ok vs w := by
  intro rs vs r
  induction r with
  | nil => simp [Sem.run, Pure.pure]
  | tmp e r ih =>
    have hg := ha.get
    simp only [List.mapM_cons, resSem, hg, e]
    simp [Sem.run_bind, Sem.run, Pure.pure, Result.andThen, ih]
  | agg e b g r ih =>
    have hg := ha.get
    have hl := run_loadVarA g (b.heap hs) (LookN.all _)
    simp only [List.mapM_cons, resSem, hg, e]
    simp [Sem.run_bind, Sem.run, Pure.pure, Result.andThen, ih, asAddr, hl]
  | one e b g r ih =>
    have hg := ha.get
    have hl := run_loadVar g (b.heap hs) (o := 0) rfl
    simp only [List.mapM_cons, resSem, hg, e]
    simp [Sem.run_bind, Sem.run, Pure.pure, Result.andThen, ih, asAddr, hl]

theorem results_eq {fn : Func} {rs : List ResultVar} (hr : fn.results = ⟨rs⟩) (tmps : Array Value) : results fn tmps = (do
    let vs ← rs.toArray.mapM (resSem tmps)
    Pure.pure (if h : vs.size = 1 then vs[0] else .tuple vs) : Sem Value) := by
  unfold results
  rw [hr]
  rfl

theorem RetR.of {fn : Func} {rs : List ResultVar} {vs : List Value} (hr : fn.results = ⟨rs⟩) (r : ResV C.P ρ L rs vs) : RetR C fn ρ h L (pack vs) := fun a w ds ha hs => by
  have h1 := resV_run (P := C.P) ha hs r
  rw [results_eq hr, List.mapM_toArray]
  have : (Sem.run C.P (List.toArray <$> List.mapM (resSem a.tmps) rs) w) = .ok vs.toArray w := by rw [Sem.run_map, h1]; rfl
  rw [Sem.run_bind, this]
  cases vs with
  | nil => simp [Result.andThen, Sem.run, Pure.pure, pack]
  | cons v vs => cases vs <;> simp [Result.andThen, Sem.run, Pure.pure, pack]

/-- The end of a function. -/
theorem ret_ok {fn : Func} {rs : List ResultVar} {vs : List Value} {R : Value → Heap → Prop} {e : Exit} (hr : fn.results = ⟨rs⟩) (r : ResV C.P ρ L rs vs) (hR : R (pack vs) h) (he : e = .normal ∨ e = .ret := by first | exact Or.inr rfl | exact Or.inl rfl) :
    retQ C fn R e [] ρ h L := ⟨he, rfl, _, RetR.of hr r, hR⟩
end Go.Z
