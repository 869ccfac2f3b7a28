/- Texts of ours, joined: Own4, Own5, Range, MapL, C5, M6M, C6, C7, C8, C9, C10, C11, C12, C13, W5, W6, W7, W8, C14, C15, C16, C17, C18. -/
import Derived.Test.YtcnhddiedfifmaaGreatMD2
import Derived.Laws.StructEq
import Derived.Test.YtcnhddiedfifmaaGreatMD1
set_option linter.unusedSimpArgs false
set_option linter.unusedVariables false
set_option linter.unusedSectionVars false
set_option linter.deprecated false
set_option maxHeartbeats 4000000
section
namespace Go.Z
open Go Go.RowKit
variable {C : Cfg} {Q Q' : Post} {ds : List Deferred} {ρ : Env} {h h1 h2 : Heap} {L L' Ls Lb M : Own} {ops : Array Oper} {rest : List Oper}
variable {d : Nat} {ty : TypeId} {pos : String} {after : Array Edge} {S : World → Prop}
section
variable {α : Type} {R : Heap → List Value → α → Prop} {T T0 e : TypeId} {sz i j k c n m : Nat} {hs : List Value} {rows rows' : List (List α)} {r ri rj : List α} {vi vj : Value} {x y : Operand}
theorem OwnLL.swap (w : OwnLL R T sz h hs c rows M) (hi : rows[i]? = some ri) (hj : rows[j]? = some rj) (hhi : hs[i]? = some vi) (hhj : hs[j]? = some vj) :
  OwnLL R T sz h ((hs.set i vj).set j vi) c ((rows.set i rj).set j ri) M := by
 obtain ⟨D, a1, a2, a3, a4, a5, a6⟩ := w
 have li : i < D.length := by rw [a3]; exact (List.getElem?_eq_some_iff.1 hi).1
 have lj : j < D.length := by rw [a3]; exact (List.getElem?_eq_some_iff.1 hj).1
 obtain ⟨di, hdi⟩ := lt_get li
 obtain ⟨dj, hdj⟩ := lt_get lj
 have vi' : vi = di.v := by have := a5 i di hdi; rw [hhi] at this; exact Option.some.inj this
 have vj' : vj = dj.v := by have := a5 j dj hdj; rw [hhj] at this; exact Option.some.inj this
 have gi : D[i] = di := by rw [List.getElem?_eq_getElem li] at hdi; exact Option.some.inj hdi
 have gj : D[j] = dj := by rw [List.getElem?_eq_getElem lj] at hdj; exact Option.some.inj hdj
 refine ⟨(D.set i dj).set j di, by simpa using a1, by simpa using a2, by simpa using a3, a4.trans ?_, fun k d hk => ?_, fun k d r hk hr => ?_⟩
 ·have := List.set_set_perm li lj
  rw [gi, gj] at this
  exact (this.symm).flatMap_right _
 ·rw [List.getElem?_set] at hk ⊢
  by_cases e1 : j = k
  ·subst e1
   simp only [List.length_set, if_true] at hk ⊢
   rw [if_pos lj] at hk
   have : j < hs.length := by omega
   rw [if_pos this]
   cases hk; rw [vi']
  ·rw [if_neg e1] at hk ⊢
   rw [List.getElem?_set] at hk ⊢
   by_cases e2 : i = k
   ·subst e2
    rw [if_pos rfl, if_pos li] at hk
    have : i < hs.length := by omega
    rw [if_pos rfl, if_pos this]
    cases hk; rw [vj']
   ·rw [if_neg e2] at hk ⊢
    exact a5 k d hk
 ·rw [List.getElem?_set] at hk hr
  by_cases e1 : j = k
  ·subst e1
   simp only [List.length_set, if_true] at hk hr
   rw [if_pos lj] at hk
   rw [if_pos (by omega)] at hr
   cases hk; cases hr; exact a6 i _ _ hdi hi
  ·rw [if_neg e1] at hk hr
   rw [List.getElem?_set] at hk hr
   by_cases e2 : i = k
   ·subst e2
    rw [if_pos rfl, if_pos li] at hk
    rw [if_pos rfl, if_pos (by omega)] at hr
    cases hk; cases hr; exact a6 j _ _ hdj hj
   ·rw [if_neg e2] at hk hr
    exact a6 k d r hk hr
theorem OwnLL.emp (h : Heap) (T : TypeId) : OwnLL R T sz h [] 0 [] [] := OwnLL.mkN h T 0
theorem o_appLL [mo : Mo R] {T1 T1' e' by' : TypeId} {b lb cc c' : Nat} {p : Option Addr} {Li : Own} {fr : Nat × Nat} {f : Obj → Own} [hu : Sl C.P T1 e] [hu' : Sl C.P T1' e'] [hsz : Sz C.P e 1] [hb : By C.P e by'] [hz : Zv C.P e [.slice none 0 0]]
  (hx : ρ.ev x = .slice (some ⟨b, 0, none⟩) n c) (hn0 : n = rows.length) (hy : ρ.ev y = .slice (some ⟨lb, 0, none⟩) 1 cc)
  (w : OwnLL R T sz h hs c rows M) (hr : OwnL R T sz h (.slice p m c') r Li) [r1 : Rem L [(b, row e hs)] L'] (a : At L' lb (.cells ⟨[.slice p m c']⟩ T0 fr) f) (hm : app rows [r] = some rows')
  (k : ∀ b' hs' c2, OwnLL R T sz h hs' c2 rows' (Li ++ M) → JL C ops Q rest ds (ρ.set d (.slice (some ⟨b', 0, none⟩) rows'.length c2)) h ((b', row e hs') :: L')) (hn : Nat.blt d C.n = true := by rfl) (hby : Nat.ble by' 100000 = true := by rfl) :
  JL C ops Q (⟨some d, .call { callee := .builtin .append, args := #[x, y], argTypes := #[T1, T1'] }, ty, pos, after, none⟩ :: rest) ds ρ h L := by
 obtain ⟨hlen, rfl⟩ := app_some hm
 subst hn0
 have w' := w
 obtain ⟨D, a1, a2, a3, a4, a5, a6⟩ := w
 have ht : (hs.take rows.length).length = rows.length := by rw [List.length_take]; omega
 have hox : OwnS e 1 (.slice (some ⟨b, 0, none⟩) rows.length c) rows.length (hs.take rows.length) [(b, row e hs)] :=
  ⟨by rw [ht, Nat.mul_one], .inr ⟨b, c, hs.drop rows.length, rfl, by rw [List.take_append_drop], a1, by rw [List.take_append_drop, a2, Nat.mul_one]⟩⟩
 have a2' : At ([(b, row e hs)] ++ L') lb (.cells ⟨[.slice p m c']⟩ T0 fr) (fun o' => [(b, row e hs)] ++ f o') := inferInstance
 refine JL.perm r1.p (o_app (e := e) (m := 1) (us := [.slice p m c']) hx hy hox ⟨[], L', rfl, fun _ => rfl⟩ (src_own a2' (LookN.all _) (by simp) (by simp [plain])) (by simpa using hlen) (fun v' Lb' ho' => ?_) hn rfl hby)
 obtain ⟨g1, g2⟩ := ho'
 rcases g2 with ⟨_, _, _, g3, _⟩ | ⟨b', c2, sp, rfl, rfl, g3, g4⟩
 ·omega
 have key := w'.snoc (hs' := (hs.take rows.length ++ [.slice p m c']) ++ sp) (c'' := c2) hr g3 (by rw [g4, Nat.mul_one]) (fun i hi => by
   rw [List.append_assoc, List.getElem?_append_left (by omega), List.getElem?_take, if_pos hi]) (by
   rw [List.append_assoc, List.getElem?_append_right (by omega), ht]; simp)
 have hl : (rows ++ [r]).length = rows.length + 1 := by simp
 have := k b' _ c2 key
 rw [hl] at this
 exact this
end
theorem o_callio {f : FuncId} {R : Value → Heap → Own → Prop} {xs : List Operand} {ts : Array TypeId} [he : Ent C.P f] (Li : Own) {L2 : Own} [r : Rem L Li L2] (hf : FnIn C f (List.toArray (xs.map ρ.ev)) h (Li ++ L2) R)
  (k : ∀ v h' L', Step h h' → R v h' L' → JL C ops Q rest ds (ρ.set d v) h' L') (hn : Nat.blt d C.n = true := by rfl) :
  JL C ops Q (⟨some d, .call { callee := .value (.func f), args := ⟨xs⟩, argTypes := ts }, ty, pos, after, none⟩ :: rest) ds ρ h L :=
 JL.perm r.p (o_calll hf k hn)
theorem J.eqL {c : Code} {L0 : Own} (e : L = L0) (k : J C c Q ds ρ h L0) : J C c Q ds ρ h L := by subst e; exact k
theorem JD.perm {M : List Nat} {listed : Array Bool} {fuel : Nat} (hp : L.Perm L') (k : JD C ops Q S M fuel listed ds ρ h L') : JD C ops Q S M fuel listed ds ρ h L := fun a w ha hs => k a w ha (hs.perm hp)
theorem Has.get {σ : Env} : ∀ {l : List (Nat × Value)}, Has σ l → ∀ p ∈ l, σ p.1 = p.2
 | [], _, p, hp => by cases hp
 | (t, v) :: l, ⟨a, b⟩, p, hp => by
  rcases List.mem_cons.1 hp with rfl | hp
  ·exact a
  ·exact Has.get b p hp
theorem Has.mk {σ : Env} : ∀ {l : List (Nat × Value)}, (∀ p ∈ l, σ p.1 = p.2) → Has σ l
 | [], _ => trivial
 | (t, v) :: l, k => ⟨k (t, v) (List.mem_cons_self ..), Has.mk fun p hp => k p (List.mem_cons_of_mem _ hp)⟩
structure FrO where
 i : Nat
 d : Nat
 dep : List (Nat × Nat)
 R : Heap → Value → Own → Prop
def FrO.mo (f : FrO) : Prop := ∀ h h' v Li, Ext h h' → f.R h v Li → f.R h' v Li
def DepQ (fs : List FrO) (h : Heap) (K : Env → Prop) : List (Nat × Nat) → Env → Prop
 | [], σ => K σ
 | (j, t) :: js, σ => ∀ v Lj, (match fs.find? (fun f => Nat.beq f.i j) with | some f => f.R h v Lj | none => True) → DepQ fs h K js (σ.set t v)
def DepO (h : Heap) (K : Env → Own → Prop) : List FrO → Env → Own → Prop
 | [], σ, L => K σ L
 | f :: fs, σ, L => ∀ v Lj, f.R h v Lj → DepO h K fs (σ.set f.d v) (Lj ++ L)
def FreshStep (C : Cfg) (ops : Array Oper) (f : FrO) (o : Oper) (ds : List Deferred) (h : Heap) (L : Own) (σ : Env) : Prop :=
 ∀ K : Post, (∀ v h' Li, Step h h' → f.R h' v Li → JL C ops K [] ds (σ.set f.d v) h' (Li ++ L)) → JL C ops K [o] ds σ h L
def FreshAll (C : Cfg) (ops : Array Oper) (all : List FrO) (ds : List Deferred) (h : Heap) (L : Own) (kv : List (Nat × Value)) : List FrO → Prop
 | [] => True
 | f :: fs => (∃ o, ops[f.i]? = some o ∧ ∀ σ h' Lx, Step h h' → DepQ all h' (fun σ => FreshStep C ops f o ds h' (Lx ++ L) σ) f.dep (setAll σ kv)) ∧ FreshAll C ops all ds h L kv fs
theorem FreshAll.at {all : List FrO} {kv : List (Nat × Value)} : ∀ {fs : List FrO}, FreshAll C ops all ds h L kv fs → ∀ f ∈ fs, ∃ o, ops[f.i]? = some o ∧ ∀ σ h' Lx, Step h h' → DepQ all h' (fun σ => FreshStep C ops f o ds h' (Lx ++ L) σ) f.dep (setAll σ kv)
 | [], _, f, hf => by cases hf
 | g :: fs, w, f, hf => by
  rcases List.mem_cons.1 hf with rfl | hf
  ·exact w.1
  ·exact FreshAll.at w.2 f hf
def FrMo : List FrO → Prop
 | [] => True
 | f :: fs => f.mo ∧ FrMo fs
theorem FrMo.at : ∀ {fs : List FrO}, FrMo fs → ∀ f ∈ fs, f.mo
 | [], _, f, hf => by cases hf
 | g :: fs, w, f, hf => by
  rcases List.mem_cons.1 hf with rfl | hf
  ·exact w.1
  ·exact FrMo.at w.2 f hf
def uniqB : List Nat → Bool
 | [] => true
 | a :: l => !l.contains a && uniqB l
def aft (ops : Array Oper) (i : Nat) : List Nat := match ops[i]? with | some o => (o.after.toList.filter fun e => Region.binds .any e).map (·.on) | none => []
def before (ops : Array Oper) : Nat → List Nat → List Nat
 | 0, l => l
 | n + 1, l => before ops n (l ++ l.flatMap (aft ops))
def frOk (ops : Array Oper) (listed : Array Bool) (M kv : List Nat) (ix : List Nat) (f : Nat × Nat × List (Nat × Nat) × List Nat) : Bool :=
 match ops[f.1]? with
 | some o => o.guard.isNone && (match o.dst with | some t => Nat.beq t f.2.1 | none => false) && !kv.contains f.2.1 && !M.contains f.1 && !listed.getD f.1 true &&
   f.2.2.1.all (fun jt => (aft ops f.1).contains jt.1 && ix.contains jt.1 && f.2.2.2.contains jt.2) && (aft ops f.1).all (fun j => listed.getD j false || (ix.contains j && Nat.blt j f.1))
 | none => false
def freshOk (ops : Array Oper) (listed : Array Bool) (M kv : List Nat) (fs : List (Nat × Nat × List (Nat × Nat))) : Bool :=
 let ix := fs.map (·.1)
 fs.all (fun f => frOk ops listed M kv ix (f.1, f.2.1, f.2.2, f.2.2.map fun jt => jt.2) && f.2.2.all fun jt => fs.any fun g => Nat.beq g.1 jt.1 && Nat.beq g.2.1 jt.2) && uniqB ix && uniqB (fs.map (·.2.1)) &&
 (List.range ops.size).all fun x => listed.getD x true || ix.contains x || ix.all fun i => (before ops ops.size (aft ops x)).contains i
theorem uniqB_map {α : Type} {p : α → Nat} : ∀ {l : List α} {a b : α}, uniqB (l.map p) = true → a ∈ l → b ∈ l → p a = p b → a = b
 | [], a, b, _, ha, _, _ => by cases ha
 | x :: l, a, b, hu, ha, hb, e => by
  simp only [List.map_cons, uniqB, Bool.and_eq_true, Bool.not_eq_true'] at hu
  have hn : ∀ y ∈ l, p y ≠ p x := fun y hy e2 => by
   have hm : (l.map p).contains (p x) = true := by
    rw [← e2]; simp only [List.contains_eq_mem, decide_eq_true_eq]; exact List.mem_map_of_mem hy
   rw [hm] at hu; cases hu.1
  rcases List.mem_cons.1 ha with ha1 | ha1
  ·rcases List.mem_cons.1 hb with hb1 | hb1
   ·rw [ha1, hb1]
   ·exact absurd (by rw [← e, ha1]) (hn b hb1)
  ·rcases List.mem_cons.1 hb with hb1 | hb1
   ·exact absurd (by rw [e, hb1]) (hn a ha1)
   ·exact uniqB_map hu.2 ha1 hb1 e
theorem ready_mem {listed : Array Bool} {i : Nat} (hi : i ∈ Region.ready .any ops listed) : ∃ o, ops[i]? = some o ∧ listed.getD i true = false ∧ ∀ j ∈ aft ops i, listed.getD j false = true := by
 simp only [Region.ready, List.mem_filter, List.mem_range, Bool.and_eq_true, Bool.not_eq_true'] at hi
 obtain ⟨h1, h2, h3⟩ := hi
 have hg : ops[i]? = some ops[i] := by simp [h1]
 refine ⟨ops[i], hg, h2, fun j hj => ?_⟩
 rw [hg] at h3
 simp only [Option.map_some, Option.getD_some] at h3
 simp only [aft, hg, List.mem_map, List.mem_filter] at hj
 obtain ⟨e, ⟨he, hb⟩, rfl⟩ := hj
 have := Array.all_eq_true_iff_forall_mem.1 h3 e (by simpa using he)
 simpa [hb] using this
theorem ready_of {listed : Array Bool} {i : Nat} {o : Oper} (ho : ops[i]? = some o) (h2 : listed.getD i true = false) (h3 : ∀ j ∈ aft ops i, listed.getD j false = true) : i ∈ Region.ready .any ops listed := by
 have hlt := (Array.getElem?_eq_some_iff.1 ho).1
 simp only [Region.ready, List.mem_filter, List.mem_range, Bool.and_eq_true, Bool.not_eq_true']
 refine ⟨hlt, h2, ?_⟩
 rw [ho]
 simp only [Option.map_some, Option.getD_some]
 refine Array.all_eq_true_iff_forall_mem.2 fun e he => ?_
 cases hb : Region.binds .any e with
 | false => simp
 | true =>
  have := h3 e.on (by simp only [aft, ho, List.mem_map, List.mem_filter]; exact ⟨e, ⟨by simpa using he, hb⟩, rfl⟩)
  simpa using this
theorem before_listed {listed : Array Bool} (hd : ∀ i, listed.getD i false = true → ∀ j ∈ aft ops i, listed.getD j false = true) : ∀ (n : Nat) (l : List Nat), (∀ j ∈ l, listed.getD j false = true) → ∀ j ∈ before ops n l, listed.getD j false = true
 | 0, l, hl, j, hj => hl j hj
 | n + 1, l, hl, j, hj => before_listed hd n _ (fun x hx => by
   rcases List.mem_append.1 hx with hx | hx
   ·exact hl x hx
   ·obtain ⟨y, hy, hxy⟩ := List.mem_flatMap.1 hx
    exact hd y (hl y hy) x hxy) j hj
theorem DepQ.use {fs : List FrO} {K : Env → Prop} {σ : Env} : ∀ {js : List (Nat × Nat)}, (∀ jt ∈ js, ∃ Lj, ∀ f, fs.find? (fun f => Nat.beq f.i jt.1) = some f → f.R h (σ jt.2) Lj) → DepQ fs h K js σ → K σ
 | [], _, q => q
 | (j, t) :: js, hj, q => by
  obtain ⟨Lj, hf⟩ := hj (j, t) (List.mem_cons_self ..)
  have := q (σ t) Lj (by
   cases hx : fs.find? (fun f => Nat.beq f.i j) with
   | none => trivial
   | some f => exact hf f hx)
  rw [show σ.set t (σ t) = σ from by
   funext s
   by_cases e : s = t
   ·subst e; rw [Env.set_eq]
   ·rw [Env.set_ne _ _ e]] at this
  exact DepQ.use (fun j' h' => hj j' (List.mem_cons_of_mem _ h')) this
def Came (fs : List FrO) (listed : Array Bool) (h : Heap) (σ : Env) : Own → Prop := fun Lx =>
 ∃ D : FrO → Own, (∀ f ∈ fs, listed.getD f.i false = true → f.R h (σ f.d) (D f)) ∧ Lx.Perm ((fs.filter fun f => listed.getD f.i false).flatMap D)
theorem DepO.use {K : Env → Own → Prop} {σ : Env} {D : FrO → Own} : ∀ {fs : List FrO} {L : Own}, (∀ f ∈ fs, f.R h (σ f.d) (D f)) → DepO h K fs σ L → ∃ L', L'.Perm (fs.flatMap D ++ L) ∧ K σ L'
 | [], L, _, q => ⟨L, by simp, q⟩
 | f :: fs, L, hf, q => by
  have := q (σ f.d) (D f) (hf f (List.mem_cons_self ..))
  rw [show σ.set f.d (σ f.d) = σ from by
   funext s
   by_cases e : s = f.d
   ·subst e; rw [Env.set_eq]
   ·rw [Env.set_ne _ _ e]] at this
  obtain ⟨L', hp, hk⟩ := DepO.use (fun g hg => hf g (List.mem_cons_of_mem _ hg)) this
  refine ⟨L', hp.trans ?_, hk⟩
  rw [List.flatMap_cons, ← List.append_assoc]
  exact List.Perm.append_right _ List.perm_append_comm
def setF (listed : Array Bool) : List Nat → Array Bool
 | [] => listed
 | i :: l => setF (listed.setIfInBounds i true) l
theorem setF_get : ∀ (l : List Nat) (listed : Array Bool) (j : Nat), (setF listed l)[j]? = if j ∈ l ∧ j < listed.size then some true else listed[j]?
 | [], listed, j => by simp [setF]
 | i :: l, listed, j => by
  rw [setF, setF_get l, Array.size_setIfInBounds]
  by_cases hl : j ∈ l
  ·by_cases hs : j < listed.size
   ·rw [if_pos ⟨hl, hs⟩, if_pos ⟨List.mem_cons_of_mem _ hl, hs⟩]
   ·rw [if_neg (fun x => hs x.2), if_neg (fun x => hs x.2), Array.getElem?_eq_none (by simp; omega), Array.getElem?_eq_none (by omega)]
  ·rw [if_neg (fun x => hl x.1)]
   by_cases e : j = i
   ·subst e
    by_cases hs : j < listed.size
    ·rw [if_pos ⟨List.mem_cons_self .., hs⟩, Array.getElem?_setIfInBounds_self_of_lt hs]
    ·rw [if_neg (fun x => hs x.2), Array.getElem?_eq_none (by simp; omega), Array.getElem?_eq_none (by omega)]
   ·rw [if_neg (fun x => by rcases List.mem_cons.1 x.1 with h | h; exact e h; exact hl h), Array.getElem?_setIfInBounds_ne (Ne.symm e)]
theorem JD.fresh {M : List Nat} {listed : Array Bool} {fuel : Nat} (fs : List FrO) (mo : FrMo fs) (kv : List (Nat × Value)) (hk : Has ρ kv) (dn : ∀ i, listed.getD i false = true → ∀ j ∈ aft ops i, listed.getD j false = true) (hsz : listed.size = ops.size)
  (chk : freshOk ops listed M (kv.map (·.1)) (fs.map fun f => (f.i, f.d, f.dep)) = true) [sub : Sub Ls L]
  (steps : FreshAll C ops fs ds h L kv fs)
  (k : ∀ σ h', Step h h' → DepO h' (fun σ L' => JD C ops Q (SS C h' Ls) M fuel (setF listed (fs.map (·.i))) ds σ h' L') fs (setAll σ kv) L) : JD C ops Q (SS C h Ls) M (fuel + fs.length) listed ds ρ h L := by
 simp only [freshOk, Bool.and_eq_true] at chk
 obtain ⟨⟨⟨c1, c2⟩, c3⟩, c4⟩ := chk
 have c2 : uniqB (fs.map (·.i)) = true := by rw [List.map_map] at c2; exact c2
 have c3 : uniqB (fs.map (·.d)) = true := by rw [List.map_map] at c3; exact c3
 have hfr : ∀ f ∈ fs, ∃ o, ops[f.i]? = some o ∧ o.guard = none ∧ o.dst = some f.d ∧ f.d ∉ kv.map (·.1) ∧ M.contains f.i = false ∧ listed.getD f.i true = false ∧
   (∀ jt ∈ f.dep, jt.1 ∈ aft ops f.i ∧ ∃ g ∈ fs, g.i = jt.1 ∧ g.d = jt.2) ∧ ∀ j ∈ aft ops f.i, listed.getD j false = true ∨ ((∃ g ∈ fs, g.i = j) ∧ j < f.i) := fun f hf => by
  have h1 := List.all_eq_true.1 c1 (f.i, f.d, f.dep) (List.mem_map.2 ⟨f, hf, rfl⟩)
  simp only [Bool.and_eq_true] at h1
  obtain ⟨h1, h1b⟩ := h1
  unfold frOk at h1
  cases ho : ops[f.i]? with
  | none => rw [ho] at h1; cases h1
  | some o =>
   rw [ho] at h1
   simp only [Bool.and_eq_true] at h1
   obtain ⟨⟨⟨⟨⟨⟨a1, a2⟩, a3⟩, a4⟩, a5⟩, a6⟩, a7⟩ := h1
   refine ⟨o, rfl, ?_, ?_, ?_, by simpa using a4, by simpa using a5, fun jt hjt => ⟨?_, ?_⟩, fun j hj => ?_⟩
   ·cases hg : o.guard with | none => rfl | some _ => rw [hg] at a1; cases a1
   ·cases hd : o.dst with
    | none => rw [hd] at a2; cases a2
    | some t => rw [hd] at a2; rw [Nat.eq_of_beq_eq_true a2]
   ·intro hm
    have : (kv.map (·.1)).contains f.d = true := by simpa using hm
    rw [this] at a3; cases a3
   ·have := List.all_eq_true.1 a6 jt hjt
    simp only [Bool.and_eq_true] at this
    simpa using this.1.1
   ·have := List.all_eq_true.1 h1b jt hjt
    obtain ⟨g, hg, hb⟩ := List.any_eq_true.1 this
    obtain ⟨g', hg', rfl⟩ := List.mem_map.1 hg
    simp only [Bool.and_eq_true] at hb
    exact ⟨g', hg', Nat.eq_of_beq_eq_true hb.1, Nat.eq_of_beq_eq_true hb.2⟩
   ·have := List.all_eq_true.1 a7 j hj
    simp only [Bool.or_eq_true, Bool.and_eq_true] at this
    refine this.imp id fun ⟨x, y⟩ => ⟨?_, by simpa [Nat.blt_eq] using y⟩
    have hx : j ∈ (fs.map fun f => (f.i, f.d, f.dep)).map (·.1) := by simpa using x
    obtain ⟨q, hq, rfl⟩ := List.mem_map.1 hx
    obtain ⟨g, hg, rfl⟩ := List.mem_map.1 hq
    exact ⟨g, hg, rfl⟩
 have hfind : ∀ g ∈ fs, ∀ f, fs.find? (fun f => Nat.beq f.i g.i) = some f → f = g := fun g hg f hf => by
  have h1 := List.mem_of_find?_eq_some hf
  have h2 := List.find?_some hf
  exact uniqB_map c2 h1 hg (Nat.eq_of_beq_eq_true h2)
 have key : ∀ (n : Nat) (l' : Array Bool) (ρ' : Env) (h' : Heap) (L' : Own), (fs.filter fun f => !l'.getD f.i false).length = n → l'.size = listed.size → (∀ j, (∀ f ∈ fs, f.i ≠ j) → l'[j]? = listed[j]?) → (∀ i, l'.getD i false = true → ∀ j ∈ aft ops i, l'.getD j false = true) →
   Ext h h' → Has ρ' kv → (∃ Lx, L' = Lx ++ L ∧ Came fs l' h' ρ' Lx) → JD C ops Q (SS C h' Ls) M (fuel + n) l' ds ρ' h' L' := by
  intro n
  induction n with
  | zero =>
   rintro l' ρ' h' L' hn hs hout hd hx hkv ⟨Lx, rfl, D, hD, hp⟩
   have hall : ∀ f ∈ fs, l'.getD f.i false = true := fun f hf => by
    have := List.eq_nil_of_length_eq_zero hn
    cases hb : l'.getD f.i false with
    | true => rfl
    | false =>
     have hm : f ∈ fs.filter fun f => !l'.getD f.i false := List.mem_filter.2 ⟨hf, by rw [hb]; rfl⟩
     rw [this] at hm; cases hm
   have hl : l' = setF listed (fs.map (·.i)) := by
    refine Array.ext_getElem? fun j => ?_
    rw [setF_get]
    by_cases hj : j ∈ fs.map (·.i)
    ·obtain ⟨f, hf, rfl⟩ := List.mem_map.1 hj
     have h1 := hall f hf
     rw [Array.getD_eq_getD_getElem?] at h1
     cases hb : l'[f.i]? with
     | none => rw [hb] at h1; cases h1
     | some b =>
      rw [hb] at h1
      have hlt := (Array.getElem?_eq_some_iff.1 hb).1
      rw [if_pos ⟨hj, by omega⟩]
      simp at h1; rw [h1]
    ·rw [if_neg (fun x => hj x.1)]
     exact hout j fun f hf e => hj (List.mem_map.2 ⟨f, hf, e⟩)
   have hq := k ρ' h' hx.toStep
   rw [setAll_self _ _ hkv] at hq
   obtain ⟨L2, hp2, hk2⟩ := DepO.use (fun f hf => hD f hf (hall f hf)) hq
   have hfl : (fs.filter fun f => l'.getD f.i false) = fs := List.filter_eq_self.2 fun f hf => hall f hf
   rw [hfl] at hp
   rw [← hl] at hk2
   refine JD.perm ((List.Perm.append_right L hp).trans hp2.symm) ?_
   exact hk2
  | succ n ih =>
   rintro l' ρ' h' L' hn hs hout hd hx hkv ⟨Lx, rfl, D, hD, hp⟩
   have hour : ∀ i ∈ Region.ready .any ops l', ∃ f ∈ fs, f.i = i := fun i hi => by
    obtain ⟨o, ho, h2, h3⟩ := ready_mem hi
    have hlt := (Array.getElem?_eq_some_iff.1 ho).1
    have := List.all_eq_true.1 c4 i (List.mem_range.2 hlt)
    simp only [Bool.or_eq_true] at this
    by_cases hin : ∃ f ∈ fs, f.i = i
    ·exact hin
    exfalso
    have hni : ∀ f ∈ fs, f.i ≠ i := fun f hf e => hin ⟨f, hf, e⟩
    rcases this with (h5 | h5) | h5
    ·have e := hout i hni
     rw [Array.getD_eq_getD_getElem?] at h2 h5
     rw [e] at h2
     rw [h2] at h5; cases h5
    ·have hx' : i ∈ (fs.map fun f => (f.i, f.d, f.dep)).map (·.1) := by simpa using h5
     obtain ⟨q, hq, rfl⟩ := List.mem_map.1 hx'
     obtain ⟨g, hg, rfl⟩ := List.mem_map.1 hq
     exact hni g hg rfl
    ·have hpos : ∃ f, f ∈ fs.filter fun f => !l'.getD f.i false := by
      cases hf : fs.filter fun f => !l'.getD f.i false with
      | nil => rw [hf] at hn; simp at hn
      | cons f _ => exact ⟨f, by simp⟩
     obtain ⟨f, hf⟩ := hpos
     obtain ⟨hf1, hf2⟩ := List.mem_filter.1 hf
     have h6 := List.all_eq_true.1 h5 f.i (by rw [List.map_map]; exact List.mem_map.2 ⟨f, hf1, rfl⟩)
     have h7 := before_listed hd ops.size (aft ops i) h3 f.i (by simpa using h6)
     rw [h7] at hf2; cases hf2
   have hne : Region.ready .any ops l' ≠ [] := by
    have : ∀ m, ∀ f ∈ fs, f.i < m → l'.getD f.i false = false → Region.ready .any ops l' ≠ [] := by
     intro m
     induction m with
     | zero => intro f _ h; omega
     | succ m ihm =>
      intro f hf hm hb hr
      obtain ⟨o, ho, _, _, _, _, hu, _, ha⟩ := hfr f hf
      by_cases hall : ∀ j ∈ aft ops f.i, l'.getD j false = true
      ·have hlt := (Array.getElem?_eq_some_iff.1 ho).1
       have := ready_of (listed := l') ho (by
        rw [Array.getD_eq_getD_getElem?] at hb ⊢
        have : f.i < l'.size := by omega
        rw [Array.getElem?_eq_getElem this] at hb ⊢
        simpa using hb) hall
       rw [hr] at this; cases this
      ·obtain ⟨j, hj⟩ := Classical.not_forall.1 hall
       obtain ⟨hj1, hj2⟩ := Classical.not_imp.1 hj
       have hj2 : l'.getD j false = false := by simpa using hj2
       rcases ha j hj1 with h8 | ⟨⟨g, hg, rfl⟩, h9⟩
       ·by_cases hin : ∃ g ∈ fs, g.i = j
        ·obtain ⟨g, hg, rfl⟩ := hin
         obtain ⟨o', ho', _, _, _, _, hu', _, _⟩ := hfr g hg
         rw [Array.getD_eq_getD_getElem?] at h8 hu'
         cases hl : listed[g.i]? with
         | none => rw [hl] at h8; cases h8
         | some b => rw [hl] at h8 hu'; simp at h8 hu'; rw [h8] at hu'; cases hu'
        ·have e := hout j fun g hg e => hin ⟨g, hg, e⟩
         rw [Array.getD_eq_getD_getElem?] at h8 hj2
         rw [e] at hj2; rw [h8] at hj2; cases hj2
       ·exact ihm g hg (by omega) hj2 hr
    cases hf : fs.filter fun f => !l'.getD f.i false with
    | nil => rw [hf] at hn; simp at hn
    | cons f r =>
     have hm : f ∈ fs.filter fun f => !l'.getD f.i false := by rw [hf]; simp
     obtain ⟨hf1, hf2⟩ := List.mem_filter.1 hm
     exact this (f.i + 1) f hf1 (by omega) (by simpa using hf2)
   rw [show fuel + (n + 1) = (fuel + n) + 1 by omega]
   refine JD.all _ rfl (by cases hr : Region.ready .any ops l' with | nil => exact absurd hr hne | cons => rfl) ?_
   have hx' : ∀ rs : List Nat, (∀ i ∈ rs, i ∈ Region.ready .any ops l') → AllX (JX C ops Q (SS C h' Ls) M (fuel + n) l' ds ρ' h' (Lx ++ L)) rs := by
    intro rs
    induction rs with
    | nil => intro _; trivial
    | cons i rs ihr =>
     intro hrs
     refine ⟨?_, ihr fun j hj => hrs j (List.mem_cons_of_mem _ hj)⟩
     have hi := hrs i (List.mem_cons_self ..)
     obtain ⟨f, hf, rfl⟩ := hour i hi
     obtain ⟨o, ho, hgn, hod, hdk, hM, hu, hdep, ha⟩ := hfr f hf
     obtain ⟨o2, ho2, hun, h3⟩ := ready_mem hi
     obtain ⟨o3, ho3, hst⟩ := FreshAll.at steps f hf
     obtain rfl : o = o3 := by rw [ho] at ho3; exact Option.some.inj ho3
     have hst := hst ρ' h' Lx hx.toStep
     rw [setAll_self _ _ hkv] at hst
     have hst := DepQ.use (fun jt hjt => by
      obtain ⟨h10, g, hg, e1, e2⟩ := hdep jt hjt
      refine ⟨D g, fun g' hg' => ?_⟩
      rw [← e1] at hg'
      have := hfind g hg g' hg'
      subst this
      rw [← e2]
      exact hD g' hg (by rw [e1]; exact h3 _ h10)) hst
     have ho2 : ({ o with guard := none } : Oper) = o := by cases o; simp only at hgn; subst hgn; rfl
     have hsub : Sub Ls (Lx ++ L) := ⟨fun p hp => List.mem_append_right _ (sub.m p hp)⟩
     have hil : f.i < l'.size := by have := (Array.getElem?_eq_some_iff.1 ho).1; omega
     refine JX.effB ho hM (by rw [hgn]; trivial) ?_
     rw [ho2]
     refine hst _ fun v h'' Li s hv => JL.nil ⟨rfl, ⟨s.le⟩, ⟨fun p hp => List.mem_append_right _ (hsub.m p hp)⟩, ?_⟩
     have hset : ∀ j, (l'.setIfInBounds f.i true).getD j false = if j = f.i then true else l'.getD j false := fun j => by
      rw [Array.getD_eq_getD_getElem?, Array.getD_eq_getD_getElem?]
      by_cases e : j = f.i
      ·subst e; rw [Array.getElem?_setIfInBounds_self_of_lt hil]; simp
      ·rw [Array.getElem?_setIfInBounds_ne (Ne.symm e), if_neg e]
     have hfb : l'.getD f.i false = false := by
      rw [Array.getD_eq_getD_getElem?] at hun ⊢
      rw [Array.getElem?_eq_getElem hil] at hun ⊢
      simpa using hun
     have hnd : ∀ g ∈ fs, g ≠ f → g.d ≠ f.d := fun g hg hne e => hne (uniqB_map c3 hg hf e)
     have hni : ∀ g ∈ fs, g ≠ f → g.i ≠ f.i := fun g hg hne e => hne (uniqB_map c2 hg hf e)
     have hfe : ∀ g ∈ fs, g.i = f.i → g = f := fun g hg e => uniqB_map c2 hg hf e
     refine ih _ _ _ _ ?_ (by simpa using hs) (fun j hj => ?_) (fun i hi j hj => ?_) ⟨fun b o hb => s.le b o (hx.le b o hb)⟩ (Has.mk fun p hp => ?_) ⟨Li ++ Lx, (List.append_assoc ..).symm, fun g => @ite _ (g.i = f.i) (inferInstance) Li (D g), fun g hg hb => ?_, ?_⟩
     ·-- one less
      have hu2 : uniqB (fs.map (·.i)) = true := c2
      have cnt : ∀ l : List FrO, uniqB (l.map (·.i)) = true → f ∈ l → (l.filter fun g => !(l'.setIfInBounds f.i true).getD g.i false).length + 1 = (l.filter fun g => !l'.getD g.i false).length := by
       intro l
       induction l with
       | nil => intro _ h; cases h
       | cons g l ihl =>
        intro hu hm
        simp only [List.map_cons, uniqB, Bool.and_eq_true, Bool.not_eq_true'] at hu
        have same : ∀ l : List FrO, (∀ x ∈ l, x.i ≠ f.i) → (l.filter fun g => !(l'.setIfInBounds f.i true).getD g.i false) = l.filter fun g => !l'.getD g.i false := fun l hl => List.filter_congr fun x hx => by rw [hset, if_neg (hl x hx)]
        rcases List.mem_cons.1 hm with rfl | hm
        ·have hnot : ∀ x ∈ l, x.i ≠ f.i := fun x hx e => by
          have hmm : (l.map (·.i)).contains f.i = true := by rw [← e]; simp only [List.contains_eq_mem, decide_eq_true_eq]; exact List.mem_map_of_mem hx
          rw [hmm] at hu; cases hu.1
         rw [List.filter_cons, List.filter_cons, same l hnot, hset, if_pos rfl, hfb]; simp
        ·have hgi : g.i ≠ f.i := fun e => by
          have hmm : (l.map (·.i)).contains g.i = true := by rw [e]; simp only [List.contains_eq_mem, decide_eq_true_eq]; exact List.mem_map_of_mem hm
          rw [hmm] at hu; cases hu.1
         have := ihl hu.2 hm
         rw [List.filter_cons, List.filter_cons, hset, if_neg hgi]
         split
         ·simp only [List.length_cons]; omega
         ·exact this
      have := cnt fs c2 hf
      omega
     ·rw [Array.getElem?_setIfInBounds_ne (hj f hf)]; exact hout j hj
     ·rw [hset] at hi ⊢
      by_cases e : i = f.i
      ·subst e
       have := h3 j hj
       rw [this]; split <;> rfl
      ·rw [if_neg e] at hi
       have := hd i hi j hj
       rw [this]; split <;> rfl
     ·have hpm : p.1 ∈ kv.map (·.1) := List.mem_map_of_mem hp
      rw [Env.set_ne _ _ (fun e => hdk (by rw [← e]; exact hpm))]
      exact hkv.get p hp
     ·by_cases e : g.i = f.i
      ·have := hfe g hg e
       subst this
       rw [Env.set_eq]; simpa using hv
      ·have hne : g ≠ f := fun e2 => e (by rw [e2])
       rw [Env.set_ne _ _ (hnd g hg hne)]
       rw [hset, if_neg e] at hb
       simp only [e, if_false]
       exact FrMo.at mo g hg h' h'' _ _ ⟨s.le⟩ (hD g hg hb)
     ·-- the blocks
      have cnt : ∀ l : List FrO, uniqB (l.map (·.i)) = true → f ∈ l →
        ((l.filter fun g => (l'.setIfInBounds f.i true).getD g.i false).flatMap fun g => @ite _ (g.i = f.i) (inferInstance) Li (D g)).Perm (Li ++ (l.filter fun g => l'.getD g.i false).flatMap D) := by
       intro l
       induction l with
       | nil => intro _ h; cases h
       | cons g l ihl =>
        intro hu hm
        simp only [List.map_cons, uniqB, Bool.and_eq_true, Bool.not_eq_true'] at hu
        have same : ∀ l : List FrO, (∀ x ∈ l, x.i ≠ f.i) → ((l.filter fun g => (l'.setIfInBounds f.i true).getD g.i false).flatMap fun g => @ite _ (g.i = f.i) (inferInstance) Li (D g)) = (l.filter fun g => l'.getD g.i false).flatMap D := fun l hl => by
         rw [show (l.filter fun g => (l'.setIfInBounds f.i true).getD g.i false) = l.filter fun g => l'.getD g.i false from List.filter_congr fun x hx => by rw [hset, if_neg (hl x hx)]]
         rw [List.flatMap_def, List.flatMap_def, List.map_congr_left fun x hx => ?_]
         rw [if_neg (hl x (List.mem_filter.1 hx).1)]
        rcases List.mem_cons.1 hm with rfl | hm
        ·have hnot : ∀ x ∈ l, x.i ≠ f.i := fun x hx e => by
          have hmm : (l.map (·.i)).contains f.i = true := by rw [← e]; simp only [List.contains_eq_mem, decide_eq_true_eq]; exact List.mem_map_of_mem hx
          rw [hmm] at hu; cases hu.1
         rw [List.filter_cons, List.filter_cons, hset, if_pos rfl, hfb]
         simp only [if_true, Bool.false_eq_true, if_false, List.flatMap_cons]
         rw [same l hnot]
        ·have hgi : g.i ≠ f.i := fun e => by
          have hmm : (l.map (·.i)).contains g.i = true := by rw [e]; simp only [List.contains_eq_mem, decide_eq_true_eq]; exact List.mem_map_of_mem hm
          rw [hmm] at hu; cases hu.1
         have := ihl hu.2 hm
         rw [List.filter_cons, List.filter_cons, hset, if_neg hgi]
         split
         ·simp only [List.flatMap_cons, hgi, if_false]
          refine (List.Perm.append_left _ this).trans ?_
          rw [← List.append_assoc, ← List.append_assoc]
          exact List.Perm.append_right _ List.perm_append_comm
         ·exact this
      exact (List.Perm.append_left Li hp).trans (cnt fs c2 hf).symm
   exact hx' _ fun i hi => hi
 have h0 : (fs.filter fun f => !listed.getD f.i false).length = fs.length := by
  rw [List.filter_eq_self.2 fun f hf => ?_]
  obtain ⟨o, ho, _, _, _, _, hu, _, _⟩ := hfr f hf
  rw [Array.getD_eq_getD_getElem?] at hu ⊢
  cases hl : listed[f.i]? with
  | none => rfl
  | some b => rw [hl] at hu; simp at hu ⊢; exact hu
 refine key fs.length listed ρ h L h0 rfl (fun _ _ => rfl) dn (Ext.refl h) hk ⟨[], rfl, fun _ => [], fun f hf hb => ?_, ?_⟩
 ·obtain ⟨o, ho, _, _, _, _, hu, _, _⟩ := hfr f hf
  rw [Array.getD_eq_getD_getElem?] at hu hb
  cases hl : listed[f.i]? with
  | none => rw [hl] at hb; cases hb
  | some b => rw [hl] at hu hb; simp at hu hb; rw [hb] at hu; cases hu
 ·have : (fs.filter fun f => listed.getD f.i false).flatMap (fun _ => ([] : Own)) = [] := by simp
  rw [this]
def dnOk (ops : Array Oper) (listed : Array Bool) : Bool := Nat.beq listed.size ops.size && (List.range listed.size).all fun i => !listed.getD i false || (aft ops i).all fun j => listed.getD j false
theorem dn_of {listed : Array Bool} (h : dnOk ops listed = true) : (∀ i, listed.getD i false = true → ∀ j ∈ aft ops i, listed.getD j false = true) ∧ listed.size = ops.size := by
 simp only [dnOk, Bool.and_eq_true] at h
 refine ⟨fun i hi j hj => ?_, Nat.eq_of_beq_eq_true h.1⟩
 have hlt : i < listed.size := by
  rw [Array.getD_eq_getD_getElem?] at hi
  rcases Nat.lt_or_ge i listed.size with h | h
  ·exact h
  ·rw [Array.getElem?_eq_none h] at hi; cases hi
 have := List.all_eq_true.1 h.2 i (List.mem_range.2 hlt)
 rw [hi] at this
 simp only [Bool.not_true, Bool.false_or] at this
 exact List.all_eq_true.1 this j hj
end Go.Z
end
section
namespace Go.Z
open Go Go.RowKit
variable {C : Cfg} {Q Q' : Post} {ds : List Deferred} {ρ : Env} {h h1 h2 : Heap} {L L' Ls Lb M : Own} {ops : Array Oper} {rest : List Oper}
variable {d : Nat} {ty : TypeId} {pos : String} {after : Array Edge} {S : World → Prop}
section
variable {x y : Operand} {T T' e : TypeId} {p : Option Addr} {n c : Nat}
theorem run_eqNil {P : Program} [hu : Sl P T e] (p : Option Addr) (n c : Nat) (w : World) : (Op.equal T (.slice p n c) (.slice none 0 0)).run P w = .ok p.isNone w := by
 unfold Op.equal
 rw [show Op.maxDepth = 9999 + 1 from rfl]
 unfold Op.equalIn
 cases p <;> simp [underlying, program, hu.u, Sem.run, bind, Sem.bind, pure]
theorem q_eqNil [hu : Sl C.P T e] (hx : ρ.ev x = .slice p n c) (hy : ρ.ev y = .slice none 0 0) : Qr C ρ S (.binOp .eql T x y T') ty (.bool p.isNone) := ⟨rfl, fun w _ => by
 have := run_eqNil (P := C.P) (T := T) p n c w
 simp only [go_sem, hx, hy]
 simp [binOp, this, Sem.run_bind, Result.andThen, Sem.run, pure]⟩
class EqT (P : Program) (T : TypeId) : Prop where g : P.eqGuardType P.depth T = false
theorem run_eqA2 {P : Program} {T e : TypeId} [ha : Ar P T 2 e] [hk : Kd P e .i64] [hs : Sz P e 1] [hp : Pr P e] (a b a' b' : Int) (w : World) : (Op.equalIn 10000 T (.agg ⟨[.int .i64 a, .int .i64 b]⟩) (.agg ⟨[.int .i64 a', .int .i64 b']⟩)).run P w = .ok (a == a' && b == b') w := by
 have z3 := run_sizeOf (P := P) (w := w) hs.i
 have a3 := run_isAgg (P := P) (w := w) hp
 have u3 : (underlying e).run P w = .ok (.int .i64) w := und_run hk.u
 have e3 : ∀ x y : Int, (Op.equalIn 9999 e (.int .i64 x) (.int .i64 y)).run P w = .ok (x == y) w := fun x y => by
  rw [show (9999 : Nat) = 9998 + 1 from rfl, Op.equalIn]
  simp only [Sem.run_bind, u3, Result.andThen_ok]
  simp [Sem.run, pure]
 rw [show (10000 : Nat) = 9999 + 1 from rfl, Op.equalIn]
 simp only [Sem.run_bind, und_run ha.u, Result.andThen_ok, z3]
 simp only [Std.Legacy.Range.forIn_eq_forIn_range', Std.Legacy.Range.size, Nat.sub_zero, Nat.add_sub_cancel, Nat.div_one, List.range'_succ, List.range'_zero, List.forIn_cons, List.forIn_nil]
 have p0 : ∀ (a b : Int) , (part e #[.int .i64 a, .int .i64 b] (0 * 1)).run P w = .ok (.int .i64 a) w := fun a b => by
  simp [part, a3, Sem.run_bind, Result.andThen, Sem.run, pure]
 have p1 : ∀ (a b : Int) , (part e #[.int .i64 a, .int .i64 b] ((0 + 1) * 1)).run P w = .ok (.int .i64 b) w := fun a b => by
  simp [part, a3, Sem.run_bind, Result.andThen, Sem.run, pure]
 by_cases h1 : a = a'
 ·subst h1
  by_cases h2 : b = b'
  ·subst h2; simp [Sem.run_bind, Result.andThen, p0, p1, e3, Sem.run, pure]
  ·simp [Sem.run_bind, Result.andThen, p0, p1, e3, h2, Sem.run, pure]
 ·simp [Sem.run_bind, Result.andThen, p0, p1, e3, h1, Sem.run, pure]
theorem q_eqA2 {a b a' b' : Int} [ha : Ar C.P T 2 e] [hk : Kd C.P e .i64] [hs : Sz C.P e 1] [hp : Pr C.P e] [hg : EqT C.P T] (hx : ρ.ev x = .agg ⟨[.int .i64 a, .int .i64 b]⟩) (hy : ρ.ev y = .agg ⟨[.int .i64 a', .int .i64 b']⟩) : Qr C ρ S (.binOp .eql T x y T') ty (.bool (a == a' && b == b')) := ⟨rfl, fun w _ => by
 have h1 := run_eqA2 (P := C.P) (T := T) (e := e) a b a' b' w
 have hg := run_eqGuard_agg (P := C.P) (w := w) .eql T x y #[.int .i64 a, .int .i64 b] #[.int .i64 a', .int .i64 b'] hg.g
 have hb := run_eql_struct (P := C.P) (w := w) T #[.int .i64 a, .int .i64 b] #[.int .i64 a', .int .i64 b']
 simp only [execOp, hx, hy]
 refine run_v ?_
 rw [Sem.run_bind, hg]
 simp only [Result.andThen]
 rw [hb, h1]; rfl⟩
end
section
variable {α : Type} {R : Heap → List Value → α → Prop} {T e : TypeId} {sz n c i : Nat} {l : List α} {p : Option Addr} {x : Operand} {z : List Value} {j : Int}
theorem OwnL.cap (w : OwnL R T sz h (.slice p n c) l Lb) : n ≤ c := by
 obtain ⟨xs, ⟨h1, h2⟩, hc⟩ := w
 rcases h2 with ⟨q, e, _⟩ | ⟨b, c', sp, e, _, h3, _⟩ <;> cases e
 ·exact Nat.le_refl _
 ·exact h3
theorem o_clearL [hu : Sl C.P T e] [hs : Sz C.P e sz] [hz : Zv C.P e z] (ho : OwnL R e sz h (.slice p n c) l Lb) [r : Rem L Lb L'] (hi : i ≤ l.length)
  (hx : ρ.ev x = .slice (if c = i then p else p.map (·.add (i * sz))) (n - i) (c - i)) (hzl : z.length = sz) (hzp : z.all plain = true)
  (kk : ∀ Lb', OwnL R e sz h (.slice p i c) (l.take i) Lb' → JL C ops Q rest ds ρ h (Lb' ++ L')) :
  JL C ops Q (⟨none, .call { callee := .builtin .clear, args := #[x], argTypes := #[T] }, ty, pos, after, none⟩ :: rest) ds ρ h L := by
 refine JL.perm r.p ?_
 have hn := ho.len
 subst hn
 obtain ⟨xs, ⟨h1, h2⟩, hc⟩ := ho
 rcases h2 with ⟨q, eq, hq, h3, rfl⟩ | ⟨b, c', sp, eq, rfl, h3, h4⟩
 ·simp only [Value.slice.injEq] at eq
  obtain ⟨rfl, h5, rfl⟩ := eq
  obtain rfl : l = [] := List.eq_nil_of_length_eq_zero h5
  obtain rfl : i = 0 := by simpa using hi
  refine JL.valN rfl rfl rfl fun w hst => ⟨.tuple #[], h, _, w, ?_, hst, kk [] ?_⟩
  ·have hm : (#[x] : Array Operand).map ρ.ev = #[ρ.ev x] := by simp
   simp only [execOp, resolve, hm, hx]
   refine run_v (v := .tuple #[]) ?_
   simp only [List.length_nil, Nat.sub_zero, if_true]
   show (Builtin.clear_ #[T] ty #[.slice p 0 0]).run C.P w = _
   cases p <;> simp [Builtin.clear_, und_run hu.u, Sem.run_bind, Result.andThen, Sem.run, pure]
  ·exact ⟨[], ⟨by simp, .inl ⟨p, rfl, hq, rfl, rfl⟩⟩, Cells.nil⟩
 ·cases eq
  have hxl : xs.length = l.length * sz := h1
  have hic : i ≤ c := by omega
  have key : ∀ w, St C.w0 C.h0 h ([(b, row e (xs ++ sp))] ++ L') w → ∃ w' cs', (Builtin.clear_ #[T] ty #[.slice (if c = i then (some ⟨b, 0, none⟩ : Option Addr) else (some ⟨b, 0, none⟩ : Option Addr).map (·.add (i * sz))) (l.length - i) (c - i)]).run C.P w = .ok (.tuple #[]) w' ∧ St C.w0 C.h0 h ([(b, row e cs')] ++ L') w' ∧ cs'.length = c * sz ∧ cs'.take (i * sz) = xs.take (i * sz) := by
   intro w hst
   have hix : i * sz ≤ xs.length := by rw [hxl]; exact Nat.mul_le_mul_right _ hi
   by_cases hz0 : l.length - i = 0
   ·refine ⟨w, xs ++ sp, ?_, hst, h4, by rw [List.take_append_of_le_length hix]⟩
    rw [hz0]
    split <;> simp [Builtin.clear_, und_run hu.u, Sem.run_bind, Result.andThen, Sem.run, pure]
   ·have hci : ¬ c = i := by omega
    have hb : w.heap[b]? = some (row e (xs ++ sp)) := (hst.own (b, _) (by simp)).2.1
    obtain ⟨v, hv1, hv2⟩ := zero_run (P := C.P) hz w
    have hzc : Builtin.zeroCells v.cells (l.length - i) = ⟨(List.replicate (l.length - i) z).flatten⟩ := by
     rw [hv2]; exact zeros_eq z _ _ rfl
    have hlen : 0 + i * sz + ((List.replicate (l.length - i) z).flatten).length ≤ (xs ++ sp).length := by
     rw [flat_len, hzl, h4, Nat.zero_add, ← Nat.add_mul]; exact Nat.mul_le_mul_right _ (by omega)
    obtain ⟨w', g1, g2, g3, g4, g5, g6, g7⟩ := run_storeCells (P := C.P) ((List.replicate (l.length - i) z).flatten) 0 (o := 0 + i * sz) hb (by omega) (fun u hu2 => by
     obtain ⟨y, hy, hu3⟩ := List.mem_flatten.1 hu2
     rw [(List.mem_replicate.1 hy).2] at hu3
     exact List.all_eq_true.1 hzp u hu3)
    refine ⟨w', _, ?_, St.upd (L1 := []) hst g2 g3 g4 g5 g6 g7, by rw [length_setN]; exact h4, ?_⟩
    ·rw [if_neg hci]
     simp only [Option.map_some, add_none]
     have hne : ∃ m, l.length - i = m + 1 := ⟨l.length - i - 1, by omega⟩
     obtain ⟨m, hm⟩ := hne
     rw [hm] at hzc g1 ⊢
     simp [Builtin.clear_, und_run hu.u, Sem.run_bind, Result.andThen, hv1, hzc]
     rw [Nat.zero_add] at g1
     rw [g1]
    ·refine List.ext_getElem? fun k => ?_
     rw [List.getElem?_take, List.getElem?_take]
     by_cases hk : k < i * sz
     ·rw [if_pos hk, if_pos hk, setN_get (by omega), if_pos (by omega), List.getElem?_append_left (by omega)]
     ·rw [if_neg hk, if_neg hk]
  refine JL.valN rfl rfl rfl fun w hst => ?_
  obtain ⟨w', cs', k1, k2, k3, k4⟩ := key w hst
  refine ⟨.tuple #[], h, _, w', ?_, k2, kk [(b, row e cs')] ?_⟩
  ·have hm : (#[x] : Array Operand).map ρ.ev = #[ρ.ev x] := by simp
   simp only [execOp, resolve, hm, hx]
   exact run_v k1
  ·have hit : (l.take i).length = i := by rw [List.length_take]; omega
   have oc : OwnC R sz h cs' (l.take i) c := ⟨by omega, k3, by
    rw [hit, k4]; exact hc.take hi⟩
   exact oc.own hit.symm
theorem q_tailL [hu : Sl C.P T e] [hs : Sz C.P e sz] {lo : Operand} {q : IntKind} (hx : ρ.ev x = .slice p n c) (hl : ρ.ev lo = .int q j) (hb : 0 ≤ j ∧ j ≤ (n : Int)) : Qr C ρ S (.slice T x (some lo) none none) ty (.slice (if c = j.toNat then p else p.map (·.add (j.toNat * sz))) (n - j.toNat) (c - j.toNat)) := q_slL hx hl hb
theorem q_headL [hu : Sl C.P T e] [hs : Sz C.P e sz] {hi : Operand} {q : IntKind} (hx : ρ.ev x = .slice p n c) (hh : ρ.ev hi = .int q j) (h0 : 0 ≤ j) (hj : j.toNat ≤ c) : Qr C ρ S (.slice T x none (some hi) none) ty (.slice p j.toNat c) := q_slH hx hh ⟨h0, by omega⟩
end
section
variable {α : Type} {VR : Heap → Value → α → Prop} {m m' : List (Int × α)} {z0 : α}
def MapQ (VR : Heap → Value → α → Prop) (h : Heap) (o : Obj) (m : List (Int × α)) : Prop := ∃ m', MapR VR h o m' ∧ ∀ k, mfind m' k = mfind m k
theorem MapQ.look {o : Obj} {z : Value} (w : MapQ VR h o m) (x : Int) (hz : VR h z z0) : ∃ v, VR h v (mget m x z0) ∧ LookM o x z v (mhas m x) := by
 obtain ⟨m', a, b⟩ := w
 obtain ⟨v, h1, h2⟩ := a.look x hz
 refine ⟨v, ?_, ?_⟩
 ·unfold mget at h1 ⊢; rwa [b x] at h1
 ·unfold mhas at h2 ⊢; rwa [b x] at h2
theorem MapR.q {o : Obj} (w : MapR VR h o m) (he : ∀ k, mfind m k = mfind m' k) : MapQ VR h o m' := ⟨m, w, he⟩
end
end Go.Z
end
section
namespace Go.Z
open Go Go.RowKit
variable {C : Cfg} {Q Q' : Post} {ds : List Deferred} {ρ : Env} {h h1 h2 : Heap} {L L' Ls Lb : Own} {ops : Array Oper} {rest : List Oper}
variable {d : Nat} {ty : TypeId} {pos : String} {after : Array Edge} {S : World → Prop}
variable {x : Operand} {T K E : TypeId} {b it : Nat} {es done : List MapEntry} {clk : Nat} {f : Obj → Own}
theorem run_choose {P : Program} {w : World} {n : Nat} (hn : 0 < n) : ∃ i w', i < n ∧ (choose (.mapNext n)).run P w = .ok i w' ∧ (w' = w ∨ w' = w.drew) := by
 by_cases h1 : n ≤ 1
 ·obtain rfl : n = 1 := by omega
  refine ⟨0, w, by omega, ?_, .inl rfl⟩
  rfl
 ·refine ⟨_, w.drew, Nat.mod_lt (w.tape w.drawn (.mapNext n)) hn, ?_, .inr rfl⟩
  simp only [choose, Sem.run, Question.forced, Question.cut, h1, decide_false, Bool.false_eq_true, if_false]
  rfl
def iterO (b clk : Nat) (done : List MapEntry) : Obj := .mapIter (some b) clk (done.map (·.born)).toArray clk
theorem o_range [mp : Mp C.P T K E] (hx : ρ.ev x = .map (some b)) (hb : h b = some (.map ⟨es⟩ clk))
  (k : ∀ it, JL C ops Q rest ds (ρ.set d (.pointer (some ⟨it, 0, none⟩))) h ((it, iterO b clk []) :: L)) (hn : Nat.blt d C.n = true := by rfl) :
  JL C ops Q (⟨some d, .range T x, ty, pos, after, none⟩ :: rest) ds ρ h L :=
 JL.val rfl rfl rfl hn fun w hs => by
  refine ⟨_, h, _, w.alloc (iterO b clk []), ?_, hs.alloc _, k _⟩
  simp only [execOp, hx]
  refine run_v ?_
  simp only [Instr.range, bind]
  rw [Sem.run_bind', und_run mp.u]
  simp only [Result.andThen]
  rw [Sem.run_bind', run_getObj (hs.fro _ _ hb)]
  rfl
theorem left_mem {e : MapEntry} (h : e ∈ es.filter fun e => !(done.map (·.born)).contains e.born) : e ∈ es ∧ e.born ∉ done.map (·.born) := by
 rw [List.mem_filter] at h
 exact ⟨h.1, by simpa using h.2⟩
theorem o_next (hx : ρ.ev x = .pointer (some ⟨it, 0, none⟩)) (hb : h b = some (.map ⟨es⟩ clk)) (bn : Born es clk) (A : At L it (iterO b clk done) f) (hd : ∀ e ∈ done, e ∈ es)
  (k0 : (∀ e ∈ es, e.born ∈ done.map (·.born)) → JL C ops Q rest ds (ρ.set d (.tuple ⟨[.bool false]⟩)) h L)
  (k1 : ∀ e, e ∈ es → e.born ∉ done.map (·.born) → JL C ops Q rest ds (ρ.set d (.tuple ⟨[.bool true, e.key, e.val]⟩)) h (f (iterO b clk (done ++ [e])))) (hn : Nat.blt d C.n = true := by rfl) :
  JL C ops Q (⟨some d, .next x false, ty, pos, after, none⟩ :: rest) ds ρ h L :=
 JL.val rfl rfl rfl hn fun w hs => by
  have hit := A.heap hs
  have hm := hs.fro _ _ hb
  have hold : (es.filter fun e => !(done.map (·.born)).contains e.born).filter (fun e => decide (e.born < clk)) = es.filter fun e => !(done.map (·.born)).contains e.born := by
   refine List.filter_eq_self.2 fun e he => ?_
   have := bn.2 e (left_mem he).1
   simpa using this
  have hnew : (es.filter fun e => !(done.map (·.born)).contains e.born).filter (fun e => decide (clk ≤ e.born)) = [] := by
   refine List.filter_eq_nil_iff.2 fun e he => ?_
   have := bn.2 e (left_mem he).1
   simp; omega
  generalize hl : es.filter (fun e => !(done.map (·.born)).contains e.born) = left at hold hnew
  have hcond : (!(done.map (·.born)).toArray.isEmpty && !(⟨es⟩ : Array MapEntry).isEmpty && (⟨es⟩ : Array MapEntry).all (fun e => decide (e.born ≥ clk))) = false := by
   cases es with
   | nil => simp
   | cons e es =>
    have := bn.2 e (by simp)
    have : decide (clk ≤ e.born) = false := by simpa using this
    simp [this]
  have key : ∃ v h' L' w', (Instr.next (.pointer (some ⟨it, 0, none⟩)) false ty).run C.P w = .ok v w' ∧ St C.w0 C.h0 h' L' w' ∧ JL C ops Q rest ds (ρ.set d v) h' L' := by
   simp only [Instr.next, bind]
   rw [Sem.run_bind', show (getObj it).run C.P w = .ok (iterO b clk done) w by simp [getObj, Sem.run, hit, iterO]]
   simp only [Result.andThen, iterO]
   rw [Sem.run_bind', run_getObj hm]
   simp only [Result.andThen, hcond, Bool.false_eq_true, if_false]
   have harr : ((⟨es⟩ : Array MapEntry).filter fun e => !(done.map (·.born)).toArray.contains e.born) = left.toArray := by
    rw [← hl]; simp
   have e1 : left.toArray.filter (fun e => decide (e.born < clk)) = left.toArray := by simpa using hold
   have e2 : left.toArray.filter (fun e => decide (e.born ≥ clk)) = #[] := by simpa using hnew
   simp only [harr, e1, e2]
   cases left with
   | nil =>
    have hc0 : ((if ([] : List MapEntry).toArray.isEmpty = true then #[none] else #[]) ++ Array.map some (([] : List MapEntry).toArray ++ #[])) = #[none] := by simp
    simp only [hc0]
    refine ⟨_, h, L, w, rfl, hs, k0 fun e he => ?_⟩
    by_cases hm : e.born ∈ done.map (·.born)
    ·exact hm
    ·have : e ∈ es.filter fun e => !(done.map (·.born)).contains e.born := List.mem_filter.2 ⟨he, by simpa using hm⟩
     rw [hl] at this; cases this
   | cons e0 left =>
    have hc : ((if (e0 :: left).toArray.isEmpty = true then #[none] else #[]) ++ Array.map some ((e0 :: left).toArray ++ #[])) = ((e0 :: left).map some).toArray := by simp
    simp only [hc]
    obtain ⟨i, w1, hi, hr, hw⟩ := run_choose (P := C.P) (w := w) (n := (((e0 :: left).map some).toArray).size) (by simp)
    rw [Sem.run_bind', hr]
    simp only [Result.andThen]
    have hi2 : i < (e0 :: left).length := by simpa using hi
    have hget : (((e0 :: left).map some).toArray)[i]? = some (some (e0 :: left)[i]) := by rw [List.getElem?_toArray, List.getElem?_map, List.getElem?_eq_getElem hi2]; rfl
    simp only [hget]
    have hmem : (e0 :: left)[i] ∈ es.filter fun e => !(done.map (·.born)).contains e.born := by rw [hl]; exact List.getElem_mem hi2
    obtain ⟨m1, m2⟩ := left_mem hmem
    generalize (e0 :: left)[i] = e at m1 m2 ⊢
    have hs1 : St C.w0 C.h0 h L w1 := by rcases hw with rfl | rfl; exact hs; exact hs.drew
    have hit1 := A.heap hs1
    rw [Sem.run_bind', show (setObj it (.mapIter (some b) clk ((done.map (·.born)).toArray.push e.born) clk)).run C.P w1 = .ok () (w1.putObj it (.mapIter (some b) clk ((done.map (·.born)).toArray.push e.born) clk)) by
     simp [setObj, Sem.run, hit1, iterO, World.putObj]]
    have hO : (Obj.mapIter (some b) clk ((done.map (·.born)).toArray.push e.born) clk) = iterO b clk (done ++ [e]) := by simp [iterO]
    rw [hO]
    exact ⟨_, h, _, _, rfl, A.put hs1, k1 e m1 m2⟩
  obtain ⟨v, h', L', w', g1, g2, g3⟩ := key
  refine ⟨v, h', L', w', ?_, g2, g3⟩
  simp only [execOp, hx]
  exact run_v g1
theorem find_born {e : MapEntry} : ∀ {es : List MapEntry}, (es.map (·.born)).Nodup → e ∈ es → es.find? (fun x => x.born == e.born) = some e
 | x :: es, hn, he => by
  simp only [List.map_cons, List.nodup_cons] at hn
  rcases List.mem_cons.1 he with rfl | he
  ·simp
  ·have : ¬ x.born = e.born := fun h => hn.1 (h ▸ List.mem_map_of_mem he)
   rw [List.find?_cons_of_neg (by simpa using this)]
   exact find_born hn.2 he
theorem q_entry {e : MapEntry} (hx : ρ.ev x = .pointer (some ⟨it, 0, none⟩)) (hb : h1 b = some (.map ⟨es⟩ clk)) [ex : Ext h1 h] (bn : Born es clk) (A : At L it (iterO b clk (done ++ [e])) f) (he : e ∈ es) :
  Qr C ρ (SS C h L) (.entry x) ty (.tuple ⟨[e.key, e.val]⟩) := ⟨rfl, fun w hs => by
 have hit := A.heapS hs
 have hm : w.heap[b]? = some (.map ⟨es⟩ clk) := by
  obtain ⟨h', L', he', _, st⟩ := hs
  exact st.fro _ _ (he'.le _ _ (ex.le _ _ hb))
 simp only [execOp, hx]
 refine run_v ?_
 simp only [Instr.entry, bind]
 rw [Sem.run_bind', show (getObj it).run C.P w = .ok (iterO b clk (done ++ [e])) w by simp [getObj, Sem.run, hit, iterO]]
 simp only [Result.andThen, iterO]
 have hback : ((done ++ [e]).map (·.born)).toArray.back? = some e.born := by simp
 simp only [hback]
 rw [Sem.run_bind', run_getObj hm]
 have hf : (⟨es⟩ : Array MapEntry).find? (fun x => x.born == e.born) = some e := by
  rw [show (⟨es⟩ : Array MapEntry) = es.toArray from rfl, List.find?_toArray]; exact find_born bn.1 he
 simp only [Result.andThen, bne_self_eq_false, Bool.false_eq_true, if_false, hf]
 rfl⟩
end Go.Z
namespace Go.Z
open Go Go.RowKit
structure retQLM (C : Cfg) (fn : Func) (h0 : Heap) (R : Value → Heap → Own → Prop) (e : Exit) (ds : List Deferred) (ρ : Env) (h : Heap) (L : Own) : Prop where
 ok : (e = .normal ∨ e = .ret) ∧ ∃ D f, ds = [{ target := .collected D, args := #[] }] ∧ At L D (.deferred (some [])) f ∧ Ext h0 h ∧ ∃ v, RetR C fn ρ h (f (.deferred none)) v ∧ ∃ L2, (∃ rest, (f (.deferred none)).Perm (L2 ++ rest)) ∧ R v h L2
theorem ret_okSM {C : Cfg} {fn : Func} {h0 h : Heap} {ρ : Env} {L L2 : Own} {rs : List ResultVar} {vs : List Value} {R : Value → Heap → Own → Prop} {e : Exit} {D : Nat} {f : Obj → Own} (hr : fn.results = ⟨rs⟩) [hx : Ext h0 h] [a : At L D (.deferred (some [])) f] (r : ResV C.P ρ (f (.deferred none)) rs vs) (sp : Sp L2 (f (.deferred none))) (hR : R (pack vs) h L2) (he : e = .normal ∨ e = .ret := by first | exact Or.inr rfl | exact Or.inl rfl) :
  retQLM C fn h0 R e [{ target := .collected D, args := #[] }] ρ h L := ⟨⟨he, D, f, rfl, a, hx, _, RetR.of hr r, L2, sp.p, hR⟩⟩
theorem FnIn.introM {C : Cfg} {L : Own} {h : Heap} {f : FuncId} {fn : Func} {c : Code} {args : List Value} {R : Value → Heap → Own → Prop} {n : Nat} (hf : C.P.funcs[f]? = some fn) (hb : fn.body = some c) (hn : fn.ntmps = n) (hl : args.length ≤ n)
  (hj : J ⟨C.P, none, n, C.w0, C.h0⟩ c (retQLM ⟨C.P, none, n, C.w0, C.h0⟩ fn h R) [] (argEnv args) h L) : FnIn C f args.toArray h L R := by
 intro w hw
 refine (callsIn_wide (n := 0)).1 (callsIn_of_wp_marks hf hb trivial (wpIn_mono (hj _ w (argAg hn hl) hw) ?_))
 rintro e a' w' ⟨ds, ρ, h', L', h1, h2, ⟨he, D, g, rfl, at1, hx, v, hv, L2, ⟨rest, hp⟩, hR⟩⟩
 have st3 : St C.w0 C.h0 h' (g (.deferred none)) (w'.putObj D (.deferred none)) := at1.put h2
 have htk := run_takeDeferred (P := C.P) (at1.heap h2)
 have post : LeavesInM Fence.wide 0 C.P fn a'.tmps (fun e w' => ∃ v h' L', e = .returned v ∧ Ext h h' ∧ St C.w0 C.h0 h' L' w' ∧ R v h' L') a'.defers .returning w' := by
  rw [h1.defers]
  refine ⟨by simp, .inl ⟨D, _, rfl, htk, ?_⟩⟩
  have hres := hv { a' with defers := [] } _ [] ⟨h1.size, rfl, h1.get⟩ st3
  exact ⟨v, hres, v, h', L2, rfl, hx, (st3.perm hp).sub (List.sublist_append_left _ _), hR⟩
 rcases he with rfl | rfl
 ·exact post
 ·exact post
theorem ents_keys {α : Type} {VR : Heap → Value → α → Prop} {h : Heap} : ∀ {es : List MapEntry} {m : List (Int × α)}, EntsR VR h es m → es.map (·.key) = m.map fun p => Value.int .i64 p.1
 | [], [], _ => rfl
 | e :: es, (k, a) :: m, ⟨h1, _, h3⟩ => by simp [h1, ents_keys h3]
 | [], _ :: _, w => w.elim
 | _ :: _, [], w => w.elim
theorem ents_mem {α : Type} {VR : Heap → Value → α → Prop} {h : Heap} {e : MapEntry} {es : List MapEntry} {m : List (Int × α)} (w : EntsR VR h es m) (he : e ∈ es) : ∃ k : Int, e.key = .int .i64 k := by
 have : e.key ∈ es.map (·.key) := List.mem_map_of_mem he
 rw [ents_keys w] at this
 obtain ⟨p, _, hp⟩ := List.mem_map.1 this
 exact ⟨p.1, hp.symm⟩
theorem perm_of_born {done es : List MapEntry} (h1 : (es.map (·.born)).Nodup) (h2 : (done.map (·.born)).Nodup) (h3 : ∀ e ∈ done, e ∈ es) (h4 : ∀ e ∈ es, e.born ∈ done.map (·.born)) : done.Perm es := by
 have inj : ∀ {e e' : MapEntry}, e ∈ es → e' ∈ es → e.born = e'.born → e = e' := fun {e e'} he he' hb => by
  have a := find_born h1 he
  have b := find_born h1 he'
  rw [hb] at a
  rw [a] at b
  exact Option.some.inj b
 refine (List.perm_ext_iff_of_nodup (List.Pairwise.of_map _ (fun a b h e => h (e ▸ rfl)) h2) (List.Pairwise.of_map _ (fun a b h e => h (e ▸ rfl)) h1)).2 fun e => ⟨h3 e, fun he => ?_⟩
 obtain ⟨e', he', hb⟩ := List.mem_map.1 (h4 e he)
 rw [← inj (h3 e' he') he hb]; exact he'
section
variable {C : Cfg} {Q Q' : Post} {ds : List Deferred} {ρ : Env} {h h1 h2 : Heap} {L L' Ls Lb : Own} {ops : Array Oper} {rest : List Oper}
variable {d : Nat} {ty : TypeId} {pos : String} {after : Array Edge} {x : Operand} {T K E : TypeId} {it : Nat} {f : Obj → Own}
def iter0 : Obj := .mapIter none 0 #[] 0
theorem o_range0 [mp : Mp C.P T K E] (hx : ρ.ev x = .map none)
  (k : ∀ it, JL C ops Q rest ds (ρ.set d (.pointer (some ⟨it, 0, none⟩))) h ((it, iter0) :: L)) (hn : Nat.blt d C.n = true := by rfl) :
  JL C ops Q (⟨some d, .range T x, ty, pos, after, none⟩ :: rest) ds ρ h L :=
 JL.val rfl rfl rfl hn fun w hs => by
  refine ⟨_, h, _, w.alloc iter0, ?_, hs.alloc _, k _⟩
  simp only [execOp, hx]
  refine run_v ?_
  simp only [Instr.range, bind]
  rw [Sem.run_bind', und_run mp.u]
  rfl
theorem o_next0 (hx : ρ.ev x = .pointer (some ⟨it, 0, none⟩)) (A : At L it iter0 f)
  (k0 : JL C ops Q rest ds (ρ.set d (.tuple ⟨[.bool false]⟩)) h L) (hn : Nat.blt d C.n = true := by rfl) :
  JL C ops Q (⟨some d, .next x false, ty, pos, after, none⟩ :: rest) ds ρ h L :=
 JL.val rfl rfl rfl hn fun w hs => by
  have hit := A.heap hs
  refine ⟨_, h, L, w, ?_, hs, k0⟩
  simp only [execOp, hx]
  refine run_v ?_
  simp only [Instr.next, bind]
  rw [Sem.run_bind', show (getObj it).run C.P w = .ok iter0 w by simp [getObj, Sem.run, hit, iter0]]
  rfl
end
end Go.Z
end
section
namespace Go.Z
open Go Go.RowKit
theorem mfind_mput {α : Type} (m : List (Int × α)) (x : Int) (b : α) (y : Int) : mfind (mput m x b) y = if y = x then some b else mfind m y := by
 induction m with
 | nil => simp [mput, mfind]
 | cons p m ih =>
  obtain ⟨k, a⟩ := p
  simp only [mput]
  by_cases h : x = k
  ·subst h
   simp only [if_true, mfind]
   split <;> rfl
  ·rw [if_neg h]
   simp only [mfind]
   by_cases h2 : y = k
   ·subst h2; rw [if_pos rfl, if_neg (fun e => h e.symm), if_pos rfl]
   ·rw [if_neg h2, ih, if_neg h2]
theorem mfind_mdel {α : Type} {m : List (Int × α)} (nd : (m.map (·.1)).Nodup) (x y : Int) : mfind (mdel m x) y = if y = x then none else mfind m y := by
 induction m with
 | nil => simp [mdel, mfind]
 | cons p m ih =>
  obtain ⟨k, a⟩ := p
  simp only [List.map_cons, List.nodup_cons] at nd
  simp only [mdel]
  by_cases h : x = k
  ·subst h
   rw [if_pos rfl]
   by_cases h2 : y = x
   ·subst h2
    rw [if_pos rfl]
    have : ∀ (l : List (Int × α)), y ∉ l.map (·.1) → mfind l y = none := fun l => by
     induction l with
     | nil => intro _; rfl
     | cons q l ih2 =>
      intro hq
      simp only [List.map_cons, List.mem_cons, not_or] at hq
      obtain ⟨k2, a2⟩ := q
      simp only [mfind]; rw [if_neg hq.1]; exact ih2 hq.2
    exact this m nd.1
   ·rw [if_neg h2]; simp only [mfind]; rw [if_neg h2]
  ·rw [if_neg h]
   simp only [mfind]
   by_cases h2 : y = k
   ·subst h2; rw [if_pos rfl, if_neg (fun e => h e.symm), if_pos rfl]
   ·rw [if_neg h2, ih nd.2, if_neg h2]
theorem sub_lenM {α : Type} [DecidableEq α] : ∀ {l m : List α}, l.Nodup → (∀ a ∈ l, a ∈ m) → l.length ≤ m.length
 | [], m, _, _ => Nat.zero_le _
 | a :: l, m, hn, hs => by
  rw [List.nodup_cons] at hn
  have ha := hs a (by simp)
  have := sub_lenM (m := m.erase a) hn.2 (fun b hb => (List.mem_erase_of_ne (show b ≠ a from fun e => hn.1 (e ▸ hb))).2 (hs b (List.mem_cons_of_mem _ hb)))
  rw [List.length_erase_of_mem ha] at this
  have := List.length_pos_of_mem ha
  rw [List.length_cons]; omega
theorem born_ltM {es done : List MapEntry} {clk : Nat} {e : MapEntry} (hb : Born es clk) (h1 : ∀ e ∈ done, e ∈ es) (h2 : (done.map (·.born)).Nodup) (he : e ∈ es) (hn : e.born ∉ done.map (·.born)) : done.length < es.length := by
 have := sub_lenM (l := e.born :: done.map (·.born)) (m := es.map (·.born)) (List.nodup_cons.2 ⟨hn, h2⟩) (fun b hb => by
  rcases List.mem_cons.1 hb with rfl | hb
  ·exact List.mem_map_of_mem he
  ·obtain ⟨x, hx, rfl⟩ := List.mem_map.1 hb
   exact List.mem_map_of_mem (h1 x hx))
 simp at this; omega
section
variable {C : Cfg} {Q Q' : Post} {ds : List Deferred} {ρ : Env} {h h1 : Heap} {L : Own} {ops : Array Oper} {rest : List Oper}
variable {d : Nat} {ty : TypeId} {pos : String} {after : Array Edge}
variable {x : Operand} {T K E : TypeId} {b it : Nat} {es done : List MapEntry} {clk : Nat} {f : Obj → Own}
theorem MapF.ents {α : Type} {VR : Heap → Value → α → Prop} {m : List (Int × α)} (w : MapF VR h (.map (some b)) m) : ∃ es clk, h b = some (.map ⟨es⟩ clk) ∧ EntsR VR h es m ∧ Born es clk := by
 rcases w with ⟨e, _⟩ | ⟨b', o, e, hb, es, clk, rfl, h1, h2⟩
 ·cases e
 ·cases e; exact ⟨es, clk, hb, h1, h2⟩
theorem o_rangeE [mp : Mp C.P T K E] (hx : ρ.ev x = .map (some b)) (hb : h1 b = some (.map ⟨es⟩ clk)) [e : Ext h1 h]
  (k : ∀ it, JL C ops Q rest ds (ρ.set d (.pointer (some ⟨it, 0, none⟩))) h ((it, iterO b clk []) :: L)) (hn : Nat.blt d C.n = true := by rfl) :
  JL C ops Q (⟨some d, .range T x, ty, pos, after, none⟩ :: rest) ds ρ h L := o_range hx (e.le _ _ hb) k hn
theorem o_nextE (hx : ρ.ev x = .pointer (some ⟨it, 0, none⟩)) (hb : h1 b = some (.map ⟨es⟩ clk)) [ex : Ext h1 h] (bn : Born es clk) (A : At L it (iterO b clk done) f) (hd : ∀ e ∈ done, e ∈ es)
  (k0 : (∀ e ∈ es, e.born ∈ done.map (·.born)) → JL C ops Q rest ds (ρ.set d (.tuple ⟨[.bool false]⟩)) h L)
  (k1 : ∀ e, e ∈ es → e.born ∉ done.map (·.born) → JL C ops Q rest ds (ρ.set d (.tuple ⟨[.bool true, e.key, e.val]⟩)) h (f (iterO b clk (done ++ [e])))) (hn : Nat.blt d C.n = true := by rfl) :
  JL C ops Q (⟨some d, .next x false, ty, pos, after, none⟩ :: rest) ds ρ h L := o_next hx (ex.le _ _ hb) bn A hd k0 k1 hn
end
theorem ents_memI {h : Heap} {e : MapEntry} : ∀ {es : List MapEntry} {m : List (Int × Int)}, EntsR (VI .i64) h es m → e ∈ es → ∃ k v : Int, e.key = .int .i64 k ∧ e.val = .int .i64 v
 | [], _, _, he => by cases he
 | x :: es, [], w, _ => by cases w
 | x :: es, p :: m, w, he => by
  rcases List.mem_cons.1 he with rfl | he
  ·exact ⟨p.1, p.2, w.1, w.2.1⟩
  ·exact ents_memI w.2.2 he
theorem ents_iff {h : Heap} {k v : Int} : ∀ {es : List MapEntry} {m : List (Int × Int)}, EntsR (VI .i64) h es m → ((∃ e ∈ es, e.key = .int .i64 k ∧ e.val = .int .i64 v) ↔ (k, v) ∈ m)
 | [], [], _ => by simp
 | [], _ :: _, w => by cases w
 | x :: es, [], w => by cases w
 | x :: es, p :: m, w => by
  have ih := ents_iff (k := k) (v := v) w.2.2
  have h1 : x.key = .int .i64 p.1 := w.1
  have h2 : x.val = .int .i64 p.2 := w.2.1
  constructor
  ·rintro ⟨e, he, h3, h4⟩
   rcases List.mem_cons.1 he with rfl | he
   ·rw [h1] at h3; rw [h2] at h4
    injection h3 with _ h3; injection h4 with _ h4
    refine List.mem_cons.2 (.inl ?_)
    exact Prod.ext h3.symm h4.symm
   ·exact List.mem_cons_of_mem _ (ih.1 ⟨e, he, h3, h4⟩)
  ·intro hm
   rcases List.mem_cons.1 hm with rfl | hm
   ·exact ⟨x, by simp, h1, h2⟩
   ·obtain ⟨e, he, h3⟩ := ih.2 hm
    exact ⟨e, List.mem_cons_of_mem _ he, h3⟩
def OnceInv (done : List MapEntry) (mm : List (Int × Bool)) : Prop := ∀ k : Int, ((∃ e ∈ done, e.key = .int .i64 k ∧ e.val = .int .i64 1) → mfind mm k = some true) ∧ (¬(∃ e ∈ done, e.key = .int .i64 k ∧ e.val = .int .i64 1) → mfind mm k = none)
theorem OnceInv.nil : OnceInv [] [] := fun k => ⟨fun ⟨e, he, _⟩ => (by cases he), fun _ => rfl⟩
theorem OnceInv.put {done : List MapEntry} {mm : List (Int × Bool)} {e : MapEntry} {k : Int} (w : OnceInv done mm) (h1 : e.key = .int .i64 k) (h2 : e.val = .int .i64 1) : OnceInv (done ++ [e]) (mput mm k true) := fun y => by
 rw [mfind_mput]
 by_cases hy : y = k
 ·subst hy
  rw [if_pos rfl]
  exact ⟨fun _ => rfl, fun hn => absurd ⟨e, by simp, h1, h2⟩ hn⟩
 ·rw [if_neg hy]
  refine ⟨fun ⟨x, hx, h3, h4⟩ => (w y).1 ?_, fun hn => (w y).2 fun ⟨x, hx, h3⟩ => hn ⟨x, by simp [hx], h3⟩⟩
  rcases List.mem_append.1 hx with hx | hx
  ·exact ⟨x, hx, h3, h4⟩
  ·simp at hx; subst hx
   rw [h1] at h3; injection h3 with _ h3; exact absurd h3.symm hy
theorem OnceInv.skip {done : List MapEntry} {mm : List (Int × Bool)} {e : MapEntry} {k : Int} (w : OnceInv done mm) (h1 : e.key = .int .i64 k) (h2 : e.val ≠ .int .i64 1) : OnceInv (done ++ [e]) mm := fun y => by
 refine ⟨fun ⟨x, hx, h3, h4⟩ => (w y).1 ?_, fun hn => (w y).2 fun ⟨x, hx, h3⟩ => hn ⟨x, by simp [hx], h3⟩⟩
 rcases List.mem_append.1 hx with hx | hx
 ·exact ⟨x, hx, h3, h4⟩
 ·simp at hx; subst hx
  exact absurd h4 h2
theorem mfind_once (m : List (Int × Int)) (k : Int) : ((k, 1) ∈ m → mfind (M.onceOf m) k = some true) ∧ ((k, 1) ∉ m → mfind (M.onceOf m) k = none) := by
 induction m with
 | nil => exact ⟨fun h => (by cases h), fun _ => rfl⟩
 | cons p m ih =>
  obtain ⟨a, v⟩ := p
  unfold M.onceOf at ih ⊢
  by_cases hv : v = 1
  ·subst hv
   rw [List.filter_cons_of_pos (by simp), List.map_cons]
   simp only [mfind]
   by_cases hk : k = a
   ·subst hk; rw [if_pos rfl]; exact ⟨fun _ => rfl, fun h => absurd (by simp) h⟩
   ·rw [if_neg hk]
    refine ⟨fun h => ih.1 ?_, fun h => ih.2 fun h2 => h (List.mem_cons_of_mem _ h2)⟩
    rcases List.mem_cons.1 h with h | h
    ·injection h with h; exact absurd h hk
    ·exact h
  ·rw [List.filter_cons_of_neg (by simpa using hv)]
   refine ⟨fun h => ih.1 ?_, fun h => ih.2 fun h2 => h (List.mem_cons_of_mem _ h2)⟩
   rcases List.mem_cons.1 h with h | h
   ·injection h with _ h; exact absurd h.symm hv
   ·exact h
theorem OnceInv.done {h : Heap} {done es : List MapEntry} {clk : Nat} {mm : List (Int × Bool)} {m : List (Int × Int)} (w : OnceInv done mm) (her : EntsR (VI .i64) h es m) (hb : Born es clk) (h1 : ∀ e ∈ done, e ∈ es) (h2 : (done.map (·.born)).Nodup) (h4 : ∀ e ∈ es, e.born ∈ done.map (·.born)) : ∀ k, mfind mm k = mfind (M.onceOf m) k := fun k => by
 have hp := perm_of_born hb.1 h2 h1 h4
 have e1 : (∃ e ∈ done, e.key = .int .i64 k ∧ e.val = .int .i64 1) ↔ (k, 1) ∈ m := by
  rw [← ents_iff her]
  exact ⟨fun ⟨e, he, x⟩ => ⟨e, hp.mem_iff.1 he, x⟩, fun ⟨e, he, x⟩ => ⟨e, hp.mem_iff.2 he, x⟩⟩
 by_cases hk : (k, (1 : Int)) ∈ m
 ·rw [(w k).1 (e1.2 hk), (mfind_once m k).1 hk]
 ·rw [(w k).2 (fun x => hk (e1.1 x)), (mfind_once m k).2 hk]
end Go.Z
end
section
namespace Go.Z
def KM (m : List (Int × Int)) (g : Int → Int) : Prop := (m.map (·.1)).Nodup ∧ ∀ k, mfind m k = if g k = 0 then none else some (g k)
theorem mfind_mem {α : Type} {m : List (Int × α)} {k : Int} : mfind m k ≠ none ↔ k ∈ m.map (·.1) := by
 induction m with
 | nil => simp [mfind]
 | cons p m ih =>
  obtain ⟨q, a⟩ := p
  rw [mfind]
  by_cases h : k = q
  ·simp [h]
  ·rw [if_neg h, ih]; simp [h]
theorem keys_mput {α : Type} {m : List (Int × α)} {x : Int} {a : α} {k : Int} : k ∈ (mput m x a).map (·.1) ↔ k = x ∨ k ∈ m.map (·.1) := by
 rw [← mfind_mem, ← mfind_mem, mfind_mput]
 by_cases h : k = x <;> simp [h]
theorem nd_mput {α : Type} {x : Int} {a : α} : ∀ {m : List (Int × α)}, (m.map (·.1)).Nodup → ((mput m x a).map (·.1)).Nodup
 | [], _ => by simp [mput]
 | (q, b) :: m, h => by
  rw [mput]
  rw [List.map_cons, List.nodup_cons] at h
  split
  ·rename_i e
   rw [List.map_cons, List.nodup_cons]
   exact ⟨by rw [e]; exact h.1, h.2⟩
  ·rename_i e
   rw [List.map_cons, List.nodup_cons]
   refine ⟨fun hk => ?_, nd_mput h.2⟩
   rcases keys_mput.1 hk with rfl | hk
   ·exact e rfl
   ·exact h.1 hk
theorem mdel_sub {α : Type} {x : Int} : ∀ {m : List (Int × α)}, ((mdel m x).map (·.1)).Sublist (m.map (·.1))
 | [] => List.Sublist.refl _
 | (q, b) :: m => by
  rw [mdel]
  split
  ·exact List.sublist_cons_self _ _
  ·exact List.Sublist.cons_cons _ mdel_sub
theorem KM.get {m : List (Int × Int)} {g : Int → Int} (w : KM m g) (k : Int) : mget m k 0 = g k := by
 unfold mget; rw [w.2 k]
 by_cases h : g k = 0 <;> simp [h]
theorem KM.add {m : List (Int × Int)} {g : Int → Int} (w : KM m g) {i c : Int} (h1 : Ft (g i)) (h2 : Ft c) (h3 : Ft (g i + c)) : ∃ m', M.chains_sum_add m i c = some m' ∧ KM m' fun k => g k + if i = k then c else 0 := by
 unfold M.chains_sum_add
 rw [w.get, iadd_ok h1 h2, bnd_pure, isign_ok h3, bnd_pure]
 by_cases h : g i + c = 0
 ·rw [if_pos ((sign0 _).2 h)]
  refine ⟨_, rfl, w.1.sublist mdel_sub, fun k => ?_⟩
  rw [mfind_mdel w.1, w.2 k]
  by_cases e : k = i
  ·subst e; simp [h]
  ·have e' : ¬ i = k := fun q => e q.symm
   simp [e, e']
 ·rw [if_neg (fun e => h ((sign0 _).1 e))]
  refine ⟨_, rfl, nd_mput w.1, fun k => ?_⟩
  rw [mfind_mput, w.2 k]
  by_cases e : k = i
  ·subst e; simp [h]
  ·have e' : ¬ i = k := fun q => e q.symm
   simp [e, e']
theorem cf_snoc {u : List TFace} {x : TFace} (h : ∀ f ∈ u, f.ID ≠ x.ID) (k : Int) : cf (u ++ [x]) k = cf u k + if x.ID = k then x.C else 0 := by
 induction u with
 | nil => simp [cf]
 | cons f u ih =>
  have h1 := h f (by simp)
  have := ih fun g hg => h g (by simp [hg])
  rw [List.cons_append, cf, cf]
  by_cases e : f.ID = k
  ·rw [if_pos e, if_pos e, if_neg (by omega)]; omega
  ·rw [if_neg e, if_neg e, this]
theorem so_app {l m : List TFace} : ∀ {x : Int}, so x (l ++ m) → ∀ f ∈ l, ∀ g ∈ m, f.ID < g.ID := by
 induction l with
 | nil => intro x _ f hf; cases hf
 | cons t l ih =>
  intro x s f hf g hg
  rcases List.mem_cons.1 hf with rfl | hf
  ·exact (so_lt s.2.2 g (by simp [hg])).1
  ·exact ih s.2.2 f hf g hg
theorem cf_take {l : List TFace} (h : Gd l) {i : Nat} {x : TFace} (hx : l[i]? = some x) (k : Int) : cf (l.take (i + 1)) k = cf (l.take i) k + if x.ID = k then x.C else 0 := by
 rw [List.take_add_one, hx]
 refine cf_snoc (fun f hf => ?_) k
 obtain ⟨z, s⟩ := h
 have : l = l.take i ++ (x :: l.drop (i + 1)) := by rw [← drop_cons hx, List.take_append_drop]
 rw [this] at s
 have := so_app s f hf x (by simp)
 omega
theorem so_map {g : Int → Int} : ∀ {ks : List Int} {x : Int}, (∀ k ∈ ks, x < k) → ks.Pairwise (· < ·) → (∀ k ∈ ks, g k ≠ 0) → so x (ks.map fun k => (⟨k, g k⟩ : TFace))
 | [], _, _, _, _ => trivial
 | k :: ks, x, h1, h2, h3 => by
  rw [List.pairwise_cons] at h2
  exact ⟨h1 k (by simp), h3 k (by simp), so_map h2.1 h2.2 fun y hy => h3 y (by simp [hy])⟩
theorem cf_map {g : Int → Int} (k : Int) : ∀ {ks : List Int}, cf (ks.map fun k => (⟨k, g k⟩ : TFace)) k = if k ∈ ks then g k else 0
 | [] => by simp [cf]
 | q :: ks => by
  rw [List.map_cons, cf, cf_map k]
  by_cases h : q = k
  ·simp [h]
  ·rw [if_neg h]; simp [Ne.symm h]
theorem srtI_sorted {l : List Int} (h : l.Nodup) : (M.srtI l).Pairwise (· < ·) := by
 have h1 : (M.srtI l).Pairwise (fun a b => decide (a ≤ b) = true) := List.pairwise_mergeSort (by intro a b c; simp; omega) (by intro a b; simp; omega) l
 have h2 : (M.srtI l).Nodup := (List.mergeSort_perm l _).nodup_iff.2 h
 refine (h1.and h2).imp fun {a b} h => ?_
 have := h.1; have := h.2
 simp at *; omega
theorem srtI_mem {l : List Int} {k : Int} : k ∈ M.srtI l ↔ k ∈ l := (List.mergeSort_perm l _).mem_iff
theorem srtI_len {l : List Int} : (M.srtI l).length = l.length := (List.mergeSort_perm l _).length_eq
theorem KM.chain {m : List (Int × Int)} {g : Int → Int} (w : KM m g) (lm : m.length ≤ 1000000) : ∃ l, M.chains_sum_chain m = some l ∧ Gd l ∧ ∀ k, cf l k = g k := by
 have hk : ∀ k, k ∈ M.srtI (m.map (·.1)) ↔ g k ≠ 0 := fun k => by
  rw [srtI_mem, ← mfind_mem, w.2 k]
  by_cases h : g k = 0 <;> simp [h]
 refine ⟨(M.srtI (m.map (·.1))).map fun k => (⟨k, g k⟩ : TFace), ?_, ?_, fun k => ?_⟩
 ·unfold M.chains_sum_chain M.skeys
  rw [if_pos lm, bnd_pure]
  have hlen : (M.srtI (m.map (·.1))).length ≤ 1000000 := by rw [srtI_len]; simpa using lm
  rw [rngL_fold (l := M.srtI (m.map (·.1))) (fun (a : List TFace) (k : Int) => a ++ [(⟨k, g k⟩ : TFace)]) (by omega) (fun n x s hx hs => ?_) rfl]
  ·unfold M.chains_sum_chain_k1
   congr 1
   generalize M.srtI (m.map (·.1)) = ks
   have : ∀ (ks : List Int) (a : List TFace), ks.foldl (fun a k => a ++ [(⟨k, g k⟩ : TFace)]) a = a ++ ks.map fun k => (⟨k, g k⟩ : TFace) := by
    intro ks
    induction ks with
    | nil => simp
    | cons k ks ih => intro a; rw [List.foldl_cons, ih]; simp
   simpa using this ks []
  ·have hn : n < (M.srtI (m.map (·.1))).length := (List.getElem?_eq_some_iff.1 hx).1
   have hsl : s.length = n := by
    subst hs
    have : ∀ (ks : List Int) (a : List TFace), (ks.foldl (fun a k => a ++ [(⟨k, g k⟩ : TFace)]) a).length = a.length + ks.length := by
     intro ks
     induction ks with
     | nil => simp
     | cons k ks ih => intro a; rw [List.foldl_cons, ih]; simp; omega
    rw [this]; simp; omega
   unfold M.chains_sum_chain_b1
   dsimp only
   rw [w.get, app_at (by simp; omega), bnd_pure]
 ·cases hks : M.srtI (m.map (·.1)) with
  | nil => exact Gd.nil
  | cons k ks =>
   have hs := srtI_sorted w.1
   rw [hks] at hs hk
   refine ⟨k - 1, so_map (fun y hy => ?_) hs fun y hy => (hk y).1 hy⟩
   rw [List.pairwise_cons] at hs
   rcases List.mem_cons.1 hy with rfl | hy
   ·omega
   ·have := hs.1 y hy; omega
 ·rw [cf_map]
  by_cases h : g k = 0
  ·rw [if_neg (fun e => (hk k).1 e h), h]
  ·rw [if_pos ((hk k).2 h)]
section
variable {S : List Int} {n m k' : Nat} {a b : List TFace} {k : Int}
theorem Ch.take (h : Ch S n a) (i : Nat) : Ch S n (a.take i) := by
 refine ⟨?_, fun f hf => h.2.1 f (List.mem_of_mem_take hf), fun f hf => h.2.2 f (List.mem_of_mem_take hf)⟩
 obtain ⟨z, s⟩ := h.1
 refine ⟨z, ?_⟩
 have : ∀ (l : List TFace) (z : Int) (i : Nat), so z l → so z (l.take i) := by
  intro l
  induction l with
  | nil => intro z i s; simpa using s
  | cons t l ih =>
   intro z i s
   cases i with
   | zero => trivial
   | succ i => exact ⟨s.1, s.2.1, ih _ i s.2.2⟩
 exact this a z i s
theorem Ch.chainsAdd (ha : Ch S n a) (hb : Ch S m b) (hk : k.natAbs < 2 ^ k') (hn : max n (k' + m) + 1 ≤ 1000000) (hS : S.length ≤ 1000000) : M.chains_Add a b k = some (Z.pl a b k) := by
 have la := ha.len
 have lb := hb.len
 unfold M.chains_Add
 refine rngL_eq (fun i s => KM s (cf (a.take i))) _ (by omega) ⟨by simp, fun k => by simp [mfind, cf]⟩ (fun i x s hx hp => .inl ?_) (fun s hp => ?_)
 ·have h1 := ((ha.take i).2.1.cf x.ID)
  have hm := List.mem_of_getElem? hx
  have h2 : Ft (cf (a.take i) x.ID + x.C) := by
   have := ((ha.take (i + 1)).2.1.cf x.ID)
   rw [cf_take ha.1 hx, if_pos rfl] at this
   exact ft_bits this (by omega)
  obtain ⟨m', h3, h4⟩ := hp.add (i := x.ID) (c := x.C) (ft_bits h1 (by omega)) (ha.ft (by omega) x hm) h2
  unfold M.chains_Add_b2
  dsimp only
  rw [h3, bnd_pure]
  refine ⟨m', rfl, ?_⟩
  rw [show cf (a.take (i + 1)) = fun k => cf (a.take i) k + if x.ID = k then x.C else 0 from funext fun k => cf_take ha.1 hx k]
  exact h4
 ·rw [List.take_of_length_le (Nat.le_refl _)] at hp
  unfold M.chains_Add_k2
  have hpl := Gd.pl (k := k) ha.1 hb.1
  refine rngL_eq (fun i s => KM s fun c => cf a c + k * cf (b.take i) c) _ (by omega) (by simpa [cf] using hp) (fun i x s hx hp => .inl ?_) (fun s hp => ?_)
  ·have hm := List.mem_of_getElem? hx
   have e1 : cf (b.take i) x.ID = 0 := by
    refine cf_none fun f hf => ?_
    obtain ⟨z, t⟩ := hb.1
    rw [show b = b.take i ++ (x :: b.drop (i + 1)) by rw [← drop_cons hx, List.take_append_drop]] at t
    have := so_app t f hf x (by simp)
    omega
   have h5 := mul_bits hk (hb.2.1 x hm)
   have h6 := add_bits (ha.2.1.cf x.ID) h5
   obtain ⟨m', h3, h4⟩ := hp.add (i := x.ID) (c := k * x.C) (by rw [e1]; simpa using ft_bits (ha.2.1.cf x.ID) (by omega)) (ft_bits h5 (by omega)) (by rw [e1]; simpa using ft_bits h6 (by omega))
   unfold M.chains_Add_b1
   dsimp only
   rw [imul_ok (ft_bits hk (by omega)) (hb.ft (by omega) x hm), bnd_pure, h3, bnd_pure]
   refine ⟨m', rfl, ?_⟩
   rw [show (fun c => cf a c + k * cf (b.take (i + 1)) c) = fun c => (cf a c + k * cf (b.take i) c) + if x.ID = c then k * x.C else 0 from funext fun c => by
    rw [cf_take hb.1 hx, Int.mul_add]; split <;> omega]
   exact h4
  ·rw [List.take_of_length_le (Nat.le_refl _)] at hp
   have hlen : s.length ≤ 1000000 := by
    have := sub_lenM hp.1 (m := S) fun c hc => by
     rw [← mfind_mem, hp.2 c] at hc
     by_cases e : cf a c = 0
     ·refine cf_in hb.2.2 (c := c) fun e2 => ?_
      simp [e, e2] at hc
     ·exact cf_in ha.2.2 e
    simp at this; omega
   obtain ⟨l, h1, h2, h3⟩ := hp.chain hlen
   unfold M.chains_Add_k1
   dsimp only
   rw [h1, bnd_pure]
   congr 1
   exact h2.ext hpl.1 fun c => by rw [h3, hpl.2]
end
end Go.Z
end
section
namespace Go.Z.M
open Go.Z
def l31_segment  : Option (List TCell) :=
 bnd (M.r25_Point 1) fun y26 => bnd (M.r25_Point 2) fun y36 => bnd (M.r25_Edge 3 1 2) fun y46 => some [y26, y36, y46]
def r31_Apply_k1 : (List TFace) → Option (((List TFace)) ⊕ (List TFace))
 | v52 => some (.inl v52)
def r31_Apply_b1 (x48 : TFace) (i58 : Nat) (x65 : TImage) : (List TFace) → Option (((List TFace)) ⊕ (((List TFace)) ⊕ (List TFace)))
 | v52 => if x65.ID = x48.ID then (bnd (M.r25_Plus v52 x65.X x48.C) fun y100 => some (.inl y100)) else (some (.inl v52))
def r31_Apply_k2 : (List TFace) → Option (List TFace)
 | v35 => some v35
def r31_Apply_b2 (x0 : List TImage) (i41 : Nat) (x48 : TFace) : (List TFace) → Option (((List TFace)) ⊕ (List TFace))
 | v35 => rngL (M.r31_Apply_b1 x48) M.r31_Apply_k1 x0 v35
def r31_Apply (x0 : List TImage) (x1 : List TFace) : Option (List TFace) :=
 rngL (M.r31_Apply_b2 x0) M.r31_Apply_k2 x1 ([] : List TFace)
def l31_sanity_j1 (v356 : Bool) (v365 : Bool) (v561 : Bool) : Option Bool :=
 bnd (M.l31_segment) fun y644 => bnd (M.merge_Shrink y644) fun y654 => if v356 = true then (if v365 = true then (if v561 = true then (if (y654.1.length : Int) = 1 then (if (y654.2.length : Int) = 3 then (bnd (M.merge_Free ([] : List TCell)) fun y677 => some (decide ((y677.length : Int) = 0))) else (some false)) else (some false)) else (some false)) else (some false)) else (some false)
def l31_sanity_j2 (y170 : (List TCell) × (List TImage) × Int) (y350 : (List (Int × Int))) (v356 : Bool) (v365 : Bool) : Option Bool :=
 bnd (M.r25_Point 1) fun y512 => bnd (M.r25_Point 2) fun y522 => bnd (M.r25_Edge 3 1 7) fun y532 => bnd (M.r25_Point 7) fun y542 => bnd (M.r25_Edge 8 7 2) fun y552 => bnd (M.r25_Same y170.1 [y512, y522, y532, y542, y552]) fun y690 => if y690 = true then (bnd (M.r25_Sum [3, 1]) fun y703 => bnd (M.r31_Apply y170.2.1 y703) fun y713 => bnd (M.r25_Sum [3, 1, 8, 1]) fun y729 => bnd (M.r25_SameChain y713 y729) fun y739 => if y739 = true then (if (y350.length : Int) = 2 then (nth y350 0 fun x742 => if (x742.1 == 3 && x742.2 == 1) = true then (nth y350 1 fun x753 => (M.l31_sanity_j1 v356 v365) (x753.1 == 3 && x753.2 == 2)) else ((M.l31_sanity_j1 v356 v365) false)) else ((M.l31_sanity_j1 v356 v365) false)) else ((M.l31_sanity_j1 v356 v365) false)) else ((M.l31_sanity_j1 v356 v365) false)
def l31_sanity_j3 (y58 : (List TCell) × (List TImage) × Int) (y88 : (List TCell) × (List TImage) × Int) (y170 : (List TCell) × (List TImage) × Int) (y350 : (List (Int × Int))) (v356 : Bool) : Option Bool :=
 bnd (M.r25_Point 1) fun y766 => bnd (M.r25_Same y58.1 [y766, (TCell.mk 3 1 ([] : List TFace)), (TCell.mk 5 2 ([] : List TFace))]) fun y782 => if y782 = true then (bnd (M.r25_Sum [4, 1]) fun y795 => bnd (M.r31_Apply y58.2.1 y795) fun y805 => bnd (M.r25_Sum [3, 1]) fun y821 => bnd (M.r25_SameChain y805 y821) fun y831 => if y831 = true then (bnd (M.r25_Point 1) fun y838 => bnd (M.r25_Same y88.1 [y838]) fun y854 => if y854 = true then (bnd (M.r25_Sum [2, 1, 3, 1]) fun y867 => bnd (M.r31_Apply y88.2.1 y867) fun y877 => bnd (M.r25_Sum [1, 1]) fun y893 => bnd (M.r25_SameChain y877 y893) fun y903 => (M.l31_sanity_j2 y170 y350 v356) y903) else ((M.l31_sanity_j2 y170 y350 v356) false)) else ((M.l31_sanity_j2 y170 y350 v356) false)) else ((M.l31_sanity_j2 y170 y350 v356) false)
def l31_sanity  : Option Bool :=
 bnd (M.r25_Point 1) fun y26 => bnd (M.r25_Sum [3, 1, 4, (-1)]) fun y42 => bnd (M.merge_Identify [y26, (TCell.mk 3 1 ([] : List TFace)), (TCell.mk 4 1 ([] : List TFace)), (TCell.mk 5 2 y42)] 3 4) fun y58 => bnd (M.l31_segment) fun y78 => bnd (M.merge_Collapse y78 3 2) fun y88 => bnd (M.r25_Point 1) fun y108 => bnd (M.r25_Sum [1, 2]) fun y124 => bnd (M.merge_Collapse [y108, (TCell.mk 2 1 y124)] 2 1) fun y140 => bnd (M.l31_segment) fun y160 => bnd (M.merge_Subdivide y160 3 (7, 8)) fun y170 => bnd (M.merge_Identify [y26, (TCell.mk 3 1 ([] : List TFace)), (TCell.mk 4 1 ([] : List TFace)), (TCell.mk 5 2 y42)] 1 3) fun y190 => bnd (M.merge_Identify [y26, (TCell.mk 3 1 ([] : List TFace)), (TCell.mk 4 1 ([] : List TFace)), (TCell.mk 5 2 y42)] 3 3) fun y210 => bnd (M.merge_Identify [y26, (TCell.mk 3 1 ([] : List TFace)), (TCell.mk 4 1 ([] : List TFace)), (TCell.mk 5 2 y42)] 3 9) fun y230 => bnd (M.l31_segment) fun y250 => bnd (M.merge_Subdivide y250 1 (7, 8)) fun y260 => bnd (M.l31_segment) fun y280 => bnd (M.merge_Subdivide y280 3 (7, 7)) fun y290 => bnd (M.l31_segment) fun y310 => bnd (M.merge_Collapse y310 3 9) fun y320 => bnd (M.l31_segment) fun y340 => bnd (M.merge_Free y340) fun y350 => if y58.2.2 = 0 then (if y88.2.2 = 0 then (if y140.2.2 = 310 then (if y170.2.2 = 0 then (if y190.2.2 = 260 then (if y210.2.2 = 310 then (if y230.2.2 = 250 then (if y260.2.2 = 260 then (if y290.2.2 = 253 then ((M.l31_sanity_j3 y58 y88 y170 y350) (decide (y320.2.2 = 250))) else ((M.l31_sanity_j3 y58 y88 y170 y350) false)) else ((M.l31_sanity_j3 y58 y88 y170 y350) false)) else ((M.l31_sanity_j3 y58 y88 y170 y350) false)) else ((M.l31_sanity_j3 y58 y88 y170 y350) false)) else ((M.l31_sanity_j3 y58 y88 y170 y350) false)) else ((M.l31_sanity_j3 y58 y88 y170 y350) false)) else ((M.l31_sanity_j3 y58 y88 y170 y350) false)) else ((M.l31_sanity_j3 y58 y88 y170 y350) false)) else ((M.l31_sanity_j3 y58 y88 y170 y350) false)
def l31_known_k1 : (List Int) → Option (List Int)
 | v28 => bnd (app v28 [99]) fun l67 => some l67
def l31_known_b1 (i35 : Nat) (x42 : TCell) : (List Int) → Option (((List Int)) ⊕ (List Int))
 | v28 => bnd (app v28 [x42.ID]) fun l58 => some (.inl l58)
def l31_known (x0 : List TCell) : Option (List Int) :=
 rngL M.l31_known_b1 M.l31_known_k1 x0 ([] : List Int)
def r31_one (x0 : Int) : Option (List TFace) :=
 bnd (M.iof 1) fun y26 => some [(TFace.mk x0 y26)]
def r31_Coefficient_k1 : Unit → Option Int
 | () => some 0
def r31_Coefficient_b1 (x1 : Int) (i27 : Nat) (x34 : TFace) : Unit → Option ((Unit) ⊕ Int)
 | () => if x34.ID = x1 then (lft (some x34.C)) else (some (.inl ()))
def r31_Coefficient (x0 : List TFace) (x1 : Int) : Option Int :=
 rngL (M.r31_Coefficient_b1 x1) M.r31_Coefficient_k1 x0 ()
def r31_replaced_b1 (x1 : Int) (x2 : List TFace) : (List TCell) × Int → Option (((List TCell) × Int) ⊕ (List TCell))
 | (v46, v52) => if v52 < (v46.length : Int) then (nth v46 v52 fun x60 => bnd (M.r31_Coefficient x60.B x1) fun y81 => bnd (M.isign y81) fun y93 => if y93 = 0 then (chk64 (v52 + 1) <| some (.inl (v46, v52 + 1))) else (bnd (M.r25_Plus x60.B x2 y81) fun y101 => chk64 (v52 + 1) <| some (.inl ((setL v46 v52 (TCell.mk x60.ID x60.Dim y101)), v52 + 1)))) else (lft (some v46))
def r31_replaced (x0 : List TCell) (x1 : Int) (x2 : List TFace) : Option (List TCell) :=
 bnd (app ([] : List TCell) x0) fun l32 => loop (M.r31_replaced_b1 x1 x2) (l32, 0)
def r31_Itself_k1 : (List TImage) → Option (List TImage)
 | v28 => some v28
def r31_Itself_b1 (i35 : Nat) (x42 : TCell) : (List TImage) → Option (((List TImage)) ⊕ (List TImage))
 | v28 => bnd (M.r31_one x42.ID) fun y63 => bnd (app v28 [(TImage.mk x42.ID y63)]) fun l71 => some (.inl l71)
def r31_Itself (x0 : List TCell) : Option (List TImage) :=
 rngL M.r31_Itself_b1 M.r31_Itself_k1 x0 ([] : List TImage)
def r31_With_b1 (x1 : Int) (x2 : List TFace) : (List TImage) × Int → Option (((List TImage) × Int) ⊕ (List TImage))
 | (v46, v52) => if v52 < (v46.length : Int) then (nth v46 v52 fun x60 => if x60.ID = x1 then (chk64 (v52 + 1) <| some (.inl ((setL v46 v52 (TImage.mk x60.ID x2)), v52 + 1))) else (chk64 (v52 + 1) <| some (.inl (v46, v52 + 1)))) else (lft (some v46))
def r31_With (x0 : List TImage) (x1 : Int) (x2 : List TFace) : Option (List TImage) :=
 bnd (app ([] : List TImage) x0) fun l32 => loop (M.r31_With_b1 x1 x2) (l32, 0)
def r31_SameMap_k1 : Unit → Option Bool
 | () => some true
def r31_SameMap_b1 (x1 : List TImage) (i31 : Nat) (x38 : TImage) : Unit → Option ((Unit) ⊕ Bool)
 | () => nth x1 (i31 : Int) fun x51 => if x38.ID = x51.ID then (bnd (M.r25_SameChain x38.X x51.X) fun y77 => if y77 = true then (some (.inl ())) else (lft (some false))) else (lft (some false))
def r31_SameMap (x0 : List TImage) (x1 : List TImage) : Option Bool :=
 if (x0.length : Int) = (x1.length : Int) then (rngL (M.r31_SameMap_b1 x1) M.r31_SameMap_k1 x0 ()) else (some false)
def r31_Is (x0 : R31Result) (x1 : List TCell) (x2 : List TImage) : Option Bool :=
 bnd (M.r25_Same x0.C x1) fun y43 => if y43 = true then (bnd (M.r31_SameMap x0.M x2) fun y50 => some y50) else (some false)
def r31_Commutes_b1 (x1 : List TCell) (v56 : Int) (v65 : List TCell) (v70 : List TImage) : Int → Option ((Int) ⊕ (((List TCell) × (List TImage) × Int) ⊕ Bool))
 | v105 => nth v70 v56 fun x112 => if v105 < (x112.X.length : Int) then (nth x112.X v105 fun x130 => bnd (M.r25_Find x1 x130.ID) fun y150 => if y150.2 = true then (nth v65 v56 fun x161 => if y150.1.Dim = x161.Dim then (chk64 (v105 + 1) <| some (.inl (v105 + 1))) else (lft (lft (some false)))) else (lft (lft (some false)))) else (lft (chk64 (v56 + 1) <| some (.inl (v65, v70, v56 + 1))))
def r31_Commutes_j2 (x1 : List TCell) (v56 : Int) (v65 : List TCell) (v70 : List TImage) (v75 : Bool) : Option (((List TCell) × (List TImage) × Int) ⊕ Bool) :=
 if v75 = true then (lft (some false)) else (loop (M.r31_Commutes_b1 x1 v56 v65 v70) 0)
def r31_Commutes_k3 : Unit → Option Bool
 | () => some true
def r31_Commutes_b3 (x1 : List TCell) (v51 : List TImage) (i217 : Nat) (x224 : TCell) : Unit → Option ((Unit) ⊕ Bool)
 | () => nth v51 (i217 : Int) fun x228 => bnd (M.r25_Around x1 x228.X) fun y247 => bnd (M.r31_Apply v51 x224.B) fun y266 => bnd (M.r25_SameChain y247 y266) fun y276 => if y276 = true then (some (.inl ())) else (lft (some false))
def r31_Commutes_b4 (x1 : List TCell) : (List TCell) × (List TImage) × Int → Option (((List TCell) × (List TImage) × Int) ⊕ Bool)
 | (v46, v51, v56) => if v56 < (v46.length : Int) then (nth v51 v56 fun x178 => nth v46 v56 fun x192 => if x178.ID = x192.ID then (bnd (M.r25_ValidChain x178.X) fun y215 => (M.r31_Commutes_j2 x1 v56) v46 v51 (!y215)) else ((M.r31_Commutes_j2 x1 v56) v46 v51 true)) else (lft (rngL (M.r31_Commutes_b3 x1 v51) M.r31_Commutes_k3 v46 ()))
def r31_Commutes (x0 : List TCell) (x1 : List TCell) (x2 : List TImage) : Option Bool :=
 if (x2.length : Int) = (x0.length : Int) then (loop (M.r31_Commutes_b4 x1) (x0, x2, 0)) else (some false)
def r31_placed_b1 (x0 : List TCell) (x1 : TCell) : Int → Option ((Int) ⊕ (List TCell))
 | v30 => if v30 < (x0.length : Int) then (nth x0 v30 fun x39 => if x39.ID < x1.ID then (chk64 (v30 + 1) <| some (.inl (v30 + 1))) else (lft (bnd (cutL x0 0 v30) fun l58 => bnd (app ([] : List TCell) l58) fun l64 => bnd (app l64 [x1]) fun l73 => bnd (cutL x0 v30 (x0.length : Int)) fun l79 => bnd (app l73 l79) fun l85 => some l85))) else (lft (bnd (cutL x0 0 v30) fun l97 => bnd (app ([] : List TCell) l97) fun l103 => bnd (app l103 [x1]) fun l112 => bnd (cutL x0 v30 (x0.length : Int)) fun l118 => bnd (app l112 l118) fun l124 => some l124))
def r31_placed (x0 : List TCell) (x1 : TCell) : Option (List TCell) :=
 loop (M.r31_placed_b1 x0 x1) 0
def r31_Subdivide_b1 (x0 : List TCell) (x1 : Int) (x2 : Int × Int) (y32 : TCell × Bool) (y134 : Int) : (List TFace) × (List TCell) × Int → Option (((List TFace) × (List TCell) × Int) ⊕ R31Result)
 | (v179, v184, v190) => if v190 < (v184.length : Int) then (nth v184 v190 fun x198 => if x198.ID = x1 then (bnd (M.r25_Plus y32.1.B v179 y134) fun y220 => bnd (M.r31_one x2.1) fun y230 => bnd (M.iof 1) fun y240 => bnd (M.r25_Plus y220 y230 y240) fun y251 => chk64 (v190 + 1) <| some (.inl (v179, (setL v184 v190 (TCell.mk x198.ID x198.Dim y251)), v190 + 1))) else (chk64 (v190 + 1) <| some (.inl (v179, v184, v190 + 1)))) else (lft (bnd (M.r31_placed v184 (TCell.mk x2.1 0 ([] : List TFace))) fun y268 => bnd (M.r31_one x2.1) fun y278 => bnd (M.r25_Plus v179 y278 y134) fun y288 => bnd (M.r31_placed y268 (TCell.mk x2.2 1 y288)) fun y298 => bnd (M.r31_Itself x0) fun y308 => bnd (M.r31_one x1) fun y323 => bnd (M.r31_one x2.2) fun y333 => bnd (M.iof 1) fun y343 => bnd (M.r25_Plus y323 y333 y343) fun y354 => bnd (M.r31_With y308 x1 y354) fun y364 => some (R31Result.mk y298 y364 0)))
def r31_Subdivide_k2 (x0 : List TCell) (x1 : Int) (x2 : Int × Int) (y32 : TCell × Bool) : (List TFace) → Option R31Result
 | v82 => bnd (M.iof (-1)) fun y134 => bnd (M.r31_one x2.2) fun y146 => bnd (M.r31_replaced x0 x1 y146) fun y156 => loop (M.r31_Subdivide_b1 x0 x1 x2 y32 y134) (v82, y156, 0)
def r31_Subdivide_b2 (i89 : Nat) (x96 : TFace) : (List TFace) → Option (((List TFace)) ⊕ R31Result)
 | v82 => bnd (M.isign x96.C) fun y115 => if 0 < y115 then (bnd (app v82 [x96]) fun l123 => some (.inl l123)) else (some (.inl v82))
def r31_Subdivide_j3 (x0 : List TCell) (x1 : Int) (x2 : Int × Int) (y32 : TCell × Bool) (v75 : Bool) : Option R31Result :=
 if v75 = true then (some (R31Result.mk ([] : List TCell) ([] : List TImage) 253)) else (if 398 < (x0.length : Int) then (some (R31Result.mk ([] : List TCell) ([] : List TImage) 2)) else (rngL M.r31_Subdivide_b2 (M.r31_Subdivide_k2 x0 x1 x2 y32) y32.1.B ([] : List TFace)))
def r31_Subdivide (x0 : List TCell) (x1 : Int) (x2 : Int × Int) : Option R31Result :=
 bnd (M.r25_Find x0 x1) fun y32 => if y32.2 = true then (if y32.1.Dim = 1 then (bnd (M.r25_Find x0 x2.1) fun y49 => bnd (M.r25_Find x0 x2.2) fun y64 => if y49.2 = true then ((M.r31_Subdivide_j3 x0 x1 x2 y32) true) else (if y64.2 = true then ((M.r31_Subdivide_j3 x0 x1 x2 y32) true) else ((M.r31_Subdivide_j3 x0 x1 x2 y32) (decide (x2.1 = x2.2))))) else (some (R31Result.mk ([] : List TCell) ([] : List TImage) 260))) else (some (R31Result.mk ([] : List TCell) ([] : List TImage) 250))
def l31_MergeSubdivides_k1 (x0 : R26Raw) (y32 : Bool) (y38 : (List TCell)) : Unit → Option Bool
 | () => bnd (M.r26_Made x0) fun y138 => bnd (M.r25_Same y38 y138) fun y148 => if y148 = true then (some y32) else (some false)
def l31_MergeSubdivides_b1 (x1 : Int × Int) (y38 : (List TCell)) (i57 : Nat) (x64 : Int) : Unit → Option ((Unit) ⊕ Bool)
 | () => bnd (M.r31_Subdivide y38 x64 (x1.1, x1.2)) fun y78 => bnd (M.merge_Subdivide y38 x64 (x1.1, x1.2)) fun y93 => if y93.2.2 = y78.E then (bnd (M.r31_Is y78 y93.1 y93.2.1) fun y114 => if y114 = true then (if y93.2.2 = 0 then (bnd (M.r25_Valid y93.1) fun y122 => if y122 = true then (chk64 ((y38.length : Int) + 2) <| if (y93.1.length : Int) = ((y38.length : Int) + 2) then (bnd (M.r31_Commutes y38 y93.1 y93.2.1) fun y131 => if y131 = true then (some (.inl ())) else (lft (some false))) else (lft (some false))) else (lft (some false))) else (some (.inl ()))) else (lft (some false))) else (lft (some false))
def l31_MergeSubdivides (x0 : R26Raw) (x1 : Int × Int) : Option Bool :=
 bnd (M.l31_sanity) fun y32 => bnd (M.r26_Made x0) fun y38 => chk64 x1.1 <| chk64 x1.2 <| bnd (M.l31_known y38) fun y51 => rngL (M.l31_MergeSubdivides_b1 x1 y38) (M.l31_MergeSubdivides_k1 x0 y32 y38) y51 ()
end Go.Z.M
end
section
namespace Go.Z
def bsb {α : Type} (x0 : List α) (x1 : Int) (x2 : α → Int → Option Int) : Int × Int → Option ((Int × Int) ⊕ (Int × Bool))
 | (v25, v26) => if v26 < v25 then (chk64 (v26 + v25) <| chk64 (Int.fdiv (GoWrap.u64 (v26 + v25)) 2) <| nth x0 (Int.fdiv (GoWrap.u64 (v26 + v25)) 2) fun x37 => bnd (x2 x37 x1) fun y56 => if y56 < 0 then (chk64 ((Int.fdiv (GoWrap.u64 (v26 + v25)) 2) + 1) <| some (.inl (v25, (Int.fdiv (GoWrap.u64 (v26 + v25)) 2) + 1))) else (some (.inl (Int.fdiv (GoWrap.u64 (v26 + v25)) 2, v26)))) else (lft (if v26 < (x0.length : Int) then (nth x0 v26 fun x60 => bnd (x2 x60 x1) fun y79 => some (v26, decide (y79 = 0))) else (some (v26, false))))
def Rise {α : Type} (key : α → Int) (l : List α) : Prop := l.Pairwise fun x y => key x < key y
theorem Rise.lt {α : Type} {key : α → Int} {l : List α} (h : Rise key l) {i j : Nat} {x y : α} (hx : l[i]? = some x) (hy : l[j]? = some y) (hij : i < j) : key x < key y := by
 obtain ⟨h1, rfl⟩ := List.getElem?_eq_some_iff.1 hx
 obtain ⟨h2, rfl⟩ := List.getElem?_eq_some_iff.1 hy
 exact List.pairwise_iff_getElem.1 h i j h1 h2 hij
theorem u64_small {n : Nat} (h : n ≤ 100000000000) : GoWrap.u64 (n : Int) = (n : Int) := by
 unfold GoWrap.u64; omega
theorem bs_ok {α : Type} {key : α → Int} {l : List α} {i : Int} {cmp : α → Int → Option Int} (hs : Rise key l) (hc : ∀ x, cmp x i = some (if key x < i then -1 else if i < key x then 1 else 0)) (ll : l.length ≤ 1000000) :
  ∃ j : Nat, loop (bsb l i cmp) ((l.length : Int), 0) = some ((j : Int), decide (i ∈ l.map key)) ∧ (i ∈ l.map key → ∃ x, l[j]? = some x ∧ key x = i) := by
 refine Exists.elim (loop_or (b := bsb l i cmp) (s := ((l.length : Int), 0))
  (fun s => ∃ lo hi : Nat, s = ((hi : Int), (lo : Int)) ∧ lo ≤ hi ∧ hi ≤ l.length ∧ (∀ j x, l[j]? = some x → j < lo → key x < i) ∧ (∀ j x, l[j]? = some x → hi ≤ j → i ≤ key x))
  (fun s => (s.1 - s.2).toNat) (fun r => ∃ j : Nat, r = ((j : Int), decide (i ∈ l.map key)) ∧ (i ∈ l.map key → ∃ x, l[j]? = some x ∧ key x = i))
  ⟨0, l.length, rfl, Nat.zero_le _, Nat.le_refl _, fun j x _ h => by omega, fun j x hx h => by have := (List.getElem?_eq_some_iff.1 hx).1; omega⟩ (by show ((l.length : Int) - 0).toNat < _; omega) ?_) ?_
 rotate_left
 ·rintro r ⟨h1, j, rfl, h2⟩; exact ⟨j, h1, h2⟩
 ·rintro _ ⟨lo, hi, rfl, h1, h2, h3, h4⟩
  unfold bsb
  dsimp only
  by_cases hlt : lo < hi
  ·refine .inl ?_
   obtain ⟨x, hx⟩ := lt_get (l := l) (i := (lo + hi) / 2) (by omega)
   have e1 : ((lo : Int) + (hi : Int)) = ((lo + hi : Nat) : Int) := by omega
   have e2 : Int.fdiv (GoWrap.u64 ((lo : Int) + (hi : Int))) 2 = (((lo + hi) / 2 : Nat) : Int) := by
    rw [e1, u64_small (by omega), Int.fdiv_eq_ediv_of_nonneg _ (by omega)]; omega
   rw [if_pos (by omega), chk64_pos (by omega), e2, chk64_pos (by omega), nth_at hx, hc, bnd_pure]
   by_cases hk : key x < i
   ·rw [if_pos hk, if_pos (by omega), chk64_pos (by omega)]
    refine ⟨_, rfl, ⟨(lo + hi) / 2 + 1, hi, by simp, by omega, h2, fun j y hy hj => ?_, h4⟩, by simp; omega⟩
    rcases Nat.lt_or_eq_of_le (Nat.lt_succ_iff.1 hj) with hj | rfl
    ·have := hs.lt hy hx hj; omega
    ·rw [hx] at hy; rw [← Option.some.inj hy]; exact hk
   ·rw [if_neg hk]
    refine ⟨_, ?_, ⟨lo, (lo + hi) / 2, rfl, by omega, by omega, h3, fun j y hy hj => ?_⟩, by simp; omega⟩
    ·rw [if_neg (by split <;> omega)]
    ·rcases Nat.lt_or_eq_of_le hj with hj | rfl
     ·have := hs.lt hx hy hj; omega
     ·rw [hx] at hy; rw [← Option.some.inj hy]; omega
  ·refine .inr ?_
   have e : lo = hi := by omega
   subst e
   rw [if_neg (by omega)]
   have hno : ∀ x, l[lo]? = some x → key x ≠ i → ¬ i ∈ l.map key := fun x hx hne hm => by
    obtain ⟨y, hy, hk⟩ := List.mem_map.1 hm
    obtain ⟨j, hj⟩ := List.mem_iff_getElem?.1 hy
    have hge := h4 lo x hx (Nat.le_refl _)
    rcases Nat.lt_trichotomy j lo with h | rfl | h
    ·have := h3 j y hj h; omega
    ·rw [hx] at hj; exact hne (by rw [Option.some.inj hj]; exact hk)
    ·have := hs.lt hx hj h; omega
   rcases Nat.lt_or_ge lo l.length with hl | hl
   ·obtain ⟨x, hx⟩ := lt_get hl
    rw [if_pos (by omega), nth_at hx, hc, bnd_pure]
    have hge := h4 lo x hx (Nat.le_refl _)
    refine ⟨_, rfl, lo, ?_, fun hm => ⟨x, hx, ?_⟩⟩
    ·by_cases hk : key x = i
     ·have : i ∈ l.map key := List.mem_map.2 ⟨x, List.mem_of_getElem? hx, hk⟩
      simp [this, hk]
     ·have := hno x hx hk
      rw [if_neg (by omega), if_pos (by omega)]; simp [this]
    ·exact Decidable.byContradiction fun hk => hno x hx hk hm
   ·have hn : ¬ i ∈ l.map key := fun hm => by
     obtain ⟨y, hy, hk⟩ := List.mem_map.1 hm
     obtain ⟨j, hj⟩ := List.mem_iff_getElem?.1 hy
     have h5 := (List.getElem?_eq_some_iff.1 hj).1
     have := h3 j y hj (by omega); omega
    rw [if_neg (by omega)]
    exact ⟨_, rfl, lo, by simp [hn], fun h => absurd h hn⟩
theorem fnd_at {c : List TCell} (hs : Rise TCell.ID c) {x : TCell} {i : Int} (hx : x ∈ c) (hi : x.ID = i) : fnd c i = (x, true) := by
 have : c.find? (fun x => decide (x.ID = i)) = some x := by
  induction c with
  | nil => cases hx
  | cons y c ih =>
   rw [Rise, List.pairwise_cons] at hs
   rcases List.mem_cons.1 hx with rfl | hx
   ·rw [List.find?_cons_of_pos (by simpa using hi)]
   ·rw [List.find?_cons_of_neg (by have := hs.1 x hx; simp; omega)]
    exact ih hs.2 hx
 unfold fnd; rw [this]
theorem fnd_no {c : List TCell} {i : Int} (h : ¬ i ∈ c.map TCell.ID) : fnd c i = (⟨0, 0, []⟩, false) := by
 have : c.find? (fun x => decide (x.ID = i)) = none := by
  rw [List.find?_eq_none]
  intro x hx e
  exact h (List.mem_map.2 ⟨x, hx, by simpa using e⟩)
 unfold fnd; rw [this]
theorem cFind_ok {c : List TCell} {i : Int} (hs : Rise TCell.ID c) (lc : c.length ≤ 1000000) : M.complex_Find c i = some (fnd c i) := by
 unfold M.complex_Find M.complex_place M.slices_BinarySearchFunc_Complex_Cell_int
 rw [show M.slices_BinarySearchFunc_Complex_Cell_int_b1 c i M.complex_place_1 = bsb c i M.complex_place_1 from rfl]
 obtain ⟨j, h1, h2⟩ := bs_ok (cmp := M.complex_place_1) (i := i) hs (fun x => rfl) lc
 rw [h1, bnd_pure, bnd_pure]
 by_cases h : i ∈ c.map TCell.ID
 ·obtain ⟨x, hx, hk⟩ := h2 h
  dsimp only
  rw [if_pos (by simpa using h), nth_at hx, fnd_at hs (List.mem_of_getElem? hx) hk]
 ·dsimp only
  rw [if_neg (by simpa using h), fnd_no h]
theorem Gd.rise {l : List TFace} (h : Gd l) : Rise TFace.ID l := by
 obtain ⟨z, s⟩ := h
 induction l generalizing z with
 | nil => exact List.Pairwise.nil
 | cons f l ih => exact List.Pairwise.cons (fun g hg => (so_lt s.2.2 g hg).1) (ih _ s.2.2)
theorem coef_ok {l : List TFace} {i : Int} (g : Gd l) (ll : l.length ≤ 1000000) : M.merge_coefficient l i = some (cf l i) := by
 unfold M.merge_coefficient M.slices_BinarySearchFunc_Chain_Face_int
 rw [show M.slices_BinarySearchFunc_Chain_Face_int_b1 l i M.merge_coefficient_1 = bsb l i M.merge_coefficient_1 from rfl]
 obtain ⟨j, h1, h2⟩ := bs_ok (cmp := M.merge_coefficient_1) (i := i) g.rise (fun x => rfl) ll
 rw [h1, bnd_pure]
 by_cases h : i ∈ l.map TFace.ID
 ·obtain ⟨x, hx, hk⟩ := h2 h
  dsimp only
  rw [if_pos (by simpa using h), nth_at hx, ← hk, g.cf (List.mem_of_getElem? hx)]
 ·dsimp only
  rw [if_neg (by simpa using h), iof_ok (by decide), bnd_pure, cf_none fun f hf e => h (List.mem_map.2 ⟨f, hf, e⟩)]
theorem Coefficient_ok {l : List TFace} {i : Int} (g : Gd l) (ll : l.length ≤ 1000000) : M.r31_Coefficient l i = some (cf l i) := by
 unfold M.r31_Coefficient
 rw [rngL_find (fun x => decide (x.ID = i)) (fun x => x.C) (by omega) (fun n x hx => by
  unfold M.r31_Coefficient_b1
  by_cases h : x.ID = i <;> simp [h])]
 cases h : l.find? (fun x => decide (x.ID = i)) with
 | none =>
  rw [List.find?_eq_none] at h
  rw [cf_none fun f hf e => h f hf (by simpa using e)]; rfl
 | some x =>
  have h1 := List.mem_of_find?_eq_some h
  have h2 := List.find?_some h
  dsimp only
  rw [← show x.ID = i by simpa using h2, g.cf h1]
end Go.Z
end
section
namespace Go.Z
def lin (c : List TCell) (g F : Int → Int) : Int := (c.map fun y => g y.ID * F y.ID).sum
section
variable {c : List TCell} {g g' F F' : Int → Int}
theorem lin_cons (y : TCell) : lin (y :: c) g F = g y.ID * F y.ID + lin c g F := by simp [lin]
theorem lin_congr (h : ∀ y ∈ c, g y.ID * F y.ID = g' y.ID * F' y.ID) : lin c g F = lin c g' F' := by
 unfold lin; rw [List.map_congr_left h]
theorem lin_zero (h : ∀ y ∈ c, g y.ID * F y.ID = 0) : lin c g F = 0 := by
 induction c with
 | nil => rfl
 | cons y c ih => rw [lin_cons, h y (by simp), ih fun z hz => h z (by simp [hz])]; rfl
theorem lin_addG : lin c (fun i => g i + g' i) F = lin c g F + lin c g' F := by
 induction c with
 | nil => rfl
 | cons y c ih => rw [lin_cons, lin_cons, lin_cons, ih, Int.add_mul]; omega
theorem lin_addF : lin c g (fun i => F i + F' i) = lin c g F + lin c g F' := by
 induction c with
 | nil => rfl
 | cons y c ih => rw [lin_cons, lin_cons, lin_cons, ih, Int.mul_add]; omega
theorem lin_mulG (k : Int) : lin c (fun i => k * g i) F = k * lin c g F := by
 induction c with
 | nil => simp [lin]
 | cons y c ih => rw [lin_cons, lin_cons, ih, Int.mul_add, Int.mul_assoc]
theorem lin_mulF (k : Int) : lin c g (fun i => k * F i) = k * lin c g F := by
 induction c with
 | nil => simp [lin]
 | cons y c ih => rw [lin_cons, lin_cons, ih, Int.mul_add, Int.mul_left_comm]
theorem lin_mulFr (k : Int) : lin c g (fun i => F i * k) = lin c g F * k := by
 rw [show (fun i => F i * k) = fun i => k * F i from funext fun i => Int.mul_comm _ _, lin_mulF, Int.mul_comm]
theorem lin_one (hs : Rise TCell.ID c) {t k : Int} (ht : t ∈ c.map TCell.ID) : lin c (fun i => if t = i then k else 0) F = k * F t := by
 induction c with
 | nil => cases ht
 | cons y c ih =>
  rw [Rise, List.pairwise_cons] at hs
  rw [lin_cons]
  by_cases e : t = y.ID
  ·rw [if_pos e, lin_zero (fun z hz => by rw [if_neg (by have := hs.1 z hz; omega)]; simp), e]; omega
  ·rw [if_neg e, ih hs.2 (by rcases List.mem_cons.1 ht with h | h; exact absurd h e; exact h)]; omega
theorem lin_filter (p : TCell → Bool) (h : ∀ y ∈ c, p y = false → g y.ID * F y.ID = 0) : lin (c.filter p) g F = lin c g F := by
 induction c with
 | nil => rfl
 | cons y c ih =>
  have := ih fun z hz => h z (by simp [hz])
  rw [List.filter_cons]
  cases hp : p y with
  | true => simp only [if_true]; rw [lin_cons, lin_cons, this]
  | false => simp only [Bool.false_eq_true, if_false]; rw [lin_cons, this, h y (by simp) hp]; omega
theorem lin_map (f : TCell → TCell) (h : ∀ y ∈ c, (f y).ID = y.ID) : lin (c.map f) g F = lin c g F := by
 unfold lin; rw [List.map_map]; congr 1
 exact List.map_congr_left fun y hy => by simp [h y hy]
theorem lin_swap (d : List TCell) (A : Int → Int → Int) : lin c g (fun i => lin d (fun j => A i j) F) = lin d (fun j => lin c g fun i => A i j) F := by
 induction c with
 | nil =>
  show (0 : Int) = _
  rw [lin_zero]; intro y _; simp [lin]
 | cons y c ih =>
  rw [lin_cons, ih, ← lin_mulG, ← lin_addG]
  exact lin_congr fun z _ => by rw [lin_cons]
end
theorem sum_lin {c : List TCell} (hs : Rise TCell.ID c) {F : Int → Int} : ∀ {x : List TFace}, Gd x → (∀ f ∈ x, f.ID ∈ c.map TCell.ID) → (x.map fun t => t.C * F t.ID).sum = lin c (cf x) F
 | [], _, _ => by rw [lin_zero (fun y _ => by simp [cf])]; rfl
 | t :: x, g, h => by
  have ih := sum_lin hs (F := F) g.tail fun f hf => h f (by simp [hf])
  rw [List.map_cons, List.sum_cons, ih, ← lin_one hs (k := t.C) (F := F) (h t (by simp)), ← lin_addG]
  refine lin_congr fun y _ => ?_
  congr 1
  rw [cf]
  by_cases e : t.ID = y.ID
  ·rw [if_pos e, if_pos e]
   obtain ⟨_, s⟩ := g
   rw [cf_low s.2.2 (by omega)]; omega
  ·rw [if_neg e, if_neg e]; omega
def bO (c : List TCell) (i : Int) : List TFace := (fnd c i).1.B
theorem bO_at {c : List TCell} (hs : Rise TCell.ID c) {x : TCell} (hx : x ∈ c) : bO c x.ID = x.B := by
 unfold bO; rw [fnd_at hs hx rfl]
structure VC (n : Nat) (c : List TCell) : Prop where
 rise : Rise TCell.ID c
 len : c.length ≤ 400
 ch : ∀ x ∈ c, Ch (c.map TCell.ID) n x.B
 dim : ∀ x ∈ c, 0 ≤ x.Dim ∧ x.Dim ≤ 3
 fdim : ∀ x ∈ c, ∀ f ∈ x.B, ∀ y ∈ c, y.ID = f.ID → y.Dim = x.Dim - 1
 bb : ∀ x ∈ c, ∀ i, lin c (cf x.B) (fun j => cf (bO c j) i) = 0
theorem mem_ids {c : List TCell} {i : Int} : i ∈ c.map TCell.ID ↔ ∃ y ∈ c, y.ID = i := by simp
theorem VC.chB {n : Nat} {c : List TCell} (h : VC n c) (i : Int) : Ch (c.map TCell.ID) n (bO c i) := by
 by_cases e : i ∈ c.map TCell.ID
 ·obtain ⟨y, hy, rfl⟩ := mem_ids.1 e
  rw [bO_at h.rise hy]; exact h.ch y hy
 ·unfold bO; rw [fnd_no e]; exact Ch.nil _ _
theorem VC.cf_ar {n : Nat} {c : List TCell} (h : VC n c) {x : List TFace} (g : Gd x) (hx : ∀ f ∈ x, f.ID ∈ c.map TCell.ID) : Gd (ar c x) ∧ ∀ i, cf (ar c x) i = lin c (cf x) (fun j => cf (bO c j) i) := by
 refine ⟨(cf_fl (B := bO c) (x := x) (fun t _ => (h.chB t.ID).1) 0).1, fun i => ?_⟩
 have h1 := (cf_fl (B := bO c) (x := x) (fun t _ => (h.chB t.ID).1) i).2
 rw [show ar c x = fl (bO c) x from rfl, h1, sum_lin h.rise (F := fun j => cf (bO c j) i) g hx]
theorem Valid_ok {n : Nat} {c : List TCell} (h : VC n c) (hn : 3 * n + 1002 ≤ 1000000) : M.r25_Valid c = some true := by
 have hl := h.len
 have hlm : (c.map TCell.ID).length ≤ 1000000 := by simp; omega
 unfold M.r25_Valid
 rw [if_neg (by omega)]
 refine rngL_eq (fun _ _ => True) _ (by omega) trivial (fun i x s hx _ => .inl ⟨(), ?_, trivial⟩) (fun _ _ => ?_)
 ·have hm := List.mem_of_getElem? hx
  have hi : i < c.length := (List.getElem?_eq_some_iff.1 hx).1
  have hv := (h.ch x hm).valid (by omega) hlm
  unfold M.r25_Valid_b2
  by_cases h0 : 0 < i
  ·obtain ⟨j, rfl⟩ : ∃ j, i = j + 1 := ⟨i - 1, by omega⟩
   obtain ⟨y, hy⟩ := lt_get (l := c) (i := j) (by omega)
   have := h.rise.lt hy hx (by omega)
   rw [if_pos (by omega), chk64_pos (by omega), show ((j + 1 : Nat) : Int) - 1 = (j : Int) by omega, nth_at hy, if_neg (by omega), hv, bnd_pure, if_pos rfl]
  ·rw [if_neg (by omega), hv, bnd_pure, if_pos rfl]
 ·unfold M.r25_Valid_k2
  refine rngL_eq (fun _ _ => True) _ (by omega) trivial (fun i x s hx _ => .inl ⟨(), ?_, trivial⟩) (fun _ _ => rfl)
  have hm := List.mem_of_getElem? hx
  have hch := h.ch x hm
  have hlen := hch.len
  simp only [List.length_map] at hlen
  have hd := h.dim x hm
  unfold M.r25_Valid_b1
  suffices hf : M.r25_Fits c x = some 0 by rw [hf, bnd_pure, if_pos rfl]
  unfold M.r25_Fits
  rw [hch.valid (by omega) hlm, bnd_pure, if_pos rfl]
  have hF : ∀ f ∈ x.B, ∃ y ∈ c, y.ID = f.ID ∧ fnd c f.ID = (y, true) := fun f hf => by
   obtain ⟨y, hy, e⟩ := mem_ids.1 (hch.2.2 f hf)
   exact ⟨y, hy, e, fnd_at h.rise hy e⟩
  refine rngL_eq (fun _ _ => True) _ (by omega) trivial (fun i f s hf _ => .inl ⟨(), ?_, trivial⟩) (fun _ _ => ?_)
  ·obtain ⟨y, _, _, e⟩ := hF f (List.mem_of_getElem? hf)
   unfold M.r25_Fits_b3
   rw [Find_ok (by omega), bnd_pure, e, if_pos rfl]
  ·unfold M.r25_Fits_k3
   rw [if_neg (by omega), decide_eq_false (by omega)]
   unfold M.r25_Fits_j2
   rw [if_neg (by decide)]
   refine rngL_eq (fun _ _ => True) _ (by omega) trivial (fun i f s hf _ => .inl ⟨(), ?_, trivial⟩) (fun _ _ => ?_)
   ·have hm2 := List.mem_of_getElem? hf
    obtain ⟨y, hy, e1, e⟩ := hF f hm2
    unfold M.r25_Fits_b1
    rw [Find_ok (by omega), bnd_pure, e, chk64_pos (by omega), if_pos (h.fdim x hm f hm2 y hy e1)]
   ·unfold M.r25_Fits_k1
    rw [Around_ok (T := c.map TCell.ID) (m := n) (k' := n) (by omega) (fun t _ => h.chB t.ID) hch.2.1 (by omega) (by omega) hlm, bnd_pure]
    have h1 := h.cf_ar hch.1 hch.2.2
    have : ar c x.B = [] := h1.1.nil_iff.2 fun i => by rw [h1.2, h.bb x hm]
    rw [this]; rfl
end Go.Z
end
section
namespace Go.Z
def im (m : List TImage) (i : Int) : List TFace := match m.find? (fun t => decide (t.ID = i)) with | some t => t.X | none => []
theorem im_at {m : List TImage} (hs : Rise TImage.ID m) {t : TImage} (ht : t ∈ m) : im m t.ID = t.X := by
 have : m.find? (fun x => decide (x.ID = t.ID)) = some t := by
  induction m with
  | nil => cases ht
  | cons y c ih =>
   rw [Rise, List.pairwise_cons] at hs
   rcases List.mem_cons.1 ht with rfl | hx
   ·rw [List.find?_cons_of_pos (by simp)]
   ·rw [List.find?_cons_of_neg (by have := hs.1 t hx; simp; omega)]
    exact ih hs.2 hx
 unfold im; rw [this]
theorem im_no {m : List TImage} {i : Int} (h : ¬ i ∈ m.map TImage.ID) : im m i = [] := by
 have : m.find? (fun x => decide (x.ID = i)) = none := by
  rw [List.find?_eq_none]
  intro x hx e
  exact h (List.mem_map.2 ⟨x, hx, by simpa using e⟩)
 unfold im; rw [this]
theorem pl_nil (a : List TFace) (k : Int) : pl a [] k = a := rfl
section
variable {T : List Int} {q k' n : Nat} {x : List TFace} {m : List TImage}
theorem Apply_ok (hs : Rise TImage.ID m) (lm : m.length ≤ 1000000) (hB : ∀ t ∈ x, Ch T q (im m t.ID)) (hx : Bn k' x) (lx : x.length ≤ 100000) (hn : k' + q + x.length + 2 ≤ 1000000) (lT : T.length ≤ 1000000) : M.r31_Apply m x = some (fl (im m) x) := by
 refine fl_run (B := im m) hB hx (by omega) fun n t s ht hs2 => ?_
 unfold M.r31_Apply_b2
 dsimp only
 refine rngL_eq (fun i v => (t.ID ∈ (m.take i).map TImage.ID → v = pl s (im m t.ID) t.C) ∧ (¬ t.ID ∈ (m.take i).map TImage.ID → v = s)) _ (by omega) ⟨by simp, fun _ => rfl⟩ (fun i y v hy hp => .inl ?_) (fun v hp => ?_)
 ·have hm := List.mem_of_getElem? hy
  unfold M.r31_Apply_b1
  dsimp only
  have hmem : t.ID ∈ (m.take (i + 1)).map TImage.ID ↔ t.ID ∈ (m.take i).map TImage.ID ∨ t.ID = y.ID := by
   rw [List.take_add_one, hy, List.map_append, List.mem_append]; simp
  rw [hmem]
  by_cases e : y.ID = t.ID
  ·have hno : ¬ t.ID ∈ (m.take i).map TImage.ID := fun h => by
    obtain ⟨z, hz, e2⟩ := List.mem_map.1 h
    obtain ⟨j, hj⟩ := List.mem_iff_getElem?.1 hz
    have hji : j < i := by
     have := (List.getElem?_eq_some_iff.1 hj).1
     simp at this; omega
    rw [List.getElem?_take_of_lt hji] at hj
    have := hs.lt hj hy hji; omega
   have hp := hp.2 hno
   subst hp
   rw [if_pos e]
   have h1 := im_at hs hm
   rw [e] at h1
   rw [← h1, hs2.plus (hB t ht) (hx t ht) (by omega) lT, bnd_pure]
   exact ⟨_, rfl, fun _ => rfl, fun h => absurd (.inr e.symm) h⟩
  ·rw [if_neg e]
   exact ⟨_, rfl, fun h => hp.1 (h.resolve_right (Ne.symm e)), fun h => hp.2 fun h2 => h (.inl h2)⟩
 ·unfold M.r31_Apply_k1
  dsimp only
  rw [List.take_of_length_le (Nat.le_refl _)] at hp
  by_cases e : t.ID ∈ m.map TImage.ID
  ·rw [hp.1 e]
  ·rw [hp.2 e, im_no e, pl_nil]
theorem apply_ok (hs : Rise TImage.ID m) (lm : m.length ≤ 1000000) (hB : ∀ t ∈ x, Ch T q (im m t.ID)) (hx : Bn k' x) (lx : x.length ≤ 100000) (hn : k' + q + x.length + 2 ≤ 1000000) (lT : T.length ≤ 1000000) (hin : ∀ t ∈ x, t.ID ∈ m.map TImage.ID) : M.merge_apply m x = some (fl (im m) x) := by
 refine fl_run (B := im m) hB hx (by omega) fun n t s ht hs2 => ?_
 unfold M.merge_apply_b1 M.slices_BinarySearchFunc_ChainMap_Image_int
 dsimp only
 rw [show M.slices_BinarySearchFunc_ChainMap_Image_int_b1 m t.ID M.merge_apply_1 = bsb m t.ID M.merge_apply_1 from rfl]
 obtain ⟨j, h1, h2⟩ := bs_ok (cmp := M.merge_apply_1) (i := t.ID) hs (fun x => rfl) lm
 obtain ⟨y, hy, e⟩ := h2 (hin t ht)
 rw [h1, bnd_pure, nth_at hy]
 have h3 := im_at hs (List.mem_of_getElem? hy)
 rw [e] at h3
 rw [← h3, hs2.chainsAdd (hB t ht) (hx t ht) (by omega) lT, bnd_pure]
end
structure Com (n : Nat) (c d : List TCell) (m : List TImage) : Prop where
 ids : m.map TImage.ID = c.map TCell.ID
 ch : ∀ t ∈ m, Ch (d.map TCell.ID) n t.X
 dim : ∀ x ∈ c, ∀ f ∈ im m x.ID, ∀ y ∈ d, y.ID = f.ID → y.Dim = x.Dim
 com : ∀ x ∈ c, ∀ i, lin d (cf (im m x.ID)) (fun j => cf (bO d j) i) = lin c (cf x.B) (fun j => cf (im m j) i)
theorem rise_ids {α β : Type} {f : α → Int} {g : β → Int} {l : List α} {r : List β} (e : l.map f = r.map g) (h : Rise g r) : Rise f l := by
 have h1 : (r.map g).Pairwise (· < ·) := List.pairwise_map.2 h
 rw [← e] at h1
 exact List.pairwise_map.1 h1
section
variable {c d : List TCell} {m : List TImage} {n p q : Nat}
theorem Com.rise (w : Com n c d m) (h : VC p c) : Rise TImage.ID m := rise_ids w.ids h.rise
theorem Com.len (w : Com n c d m) : m.length = c.length := by have := congrArg List.length w.ids; simpa using this
theorem Com.chI (w : Com n c d m) (h : VC p c) (i : Int) : Ch (d.map TCell.ID) n (im m i) := by
 by_cases e : i ∈ m.map TImage.ID
 ·obtain ⟨t, ht, rfl⟩ := List.mem_map.1 e
  rw [im_at (w.rise h) ht]; exact w.ch t ht
 ·rw [im_no e]; exact Ch.nil _ _
theorem Com.cf_fl (w : Com n c d m) (h : VC p c) {x : List TFace} (g : Gd x) (hx : ∀ f ∈ x, f.ID ∈ c.map TCell.ID) : Gd (fl (im m) x) ∧ ∀ i, cf (fl (im m) x) i = lin c (cf x) (fun j => cf (im m j) i) := by
 refine ⟨(Z.cf_fl (B := im m) (x := x) (fun t _ => (w.chI h t.ID).1) 0).1, fun i => ?_⟩
 rw [(Z.cf_fl (B := im m) (x := x) (fun t _ => (w.chI h t.ID).1) i).2, sum_lin h.rise (F := fun j => cf (im m j) i) g hx]
theorem Com.eq (w : Com n c d m) (h : VC p c) (h2 : VC q d) {x : TCell} (hx : x ∈ c) : ar d (im m x.ID) = fl (im m) x.B := by
 have h3 := w.chI h x.ID
 have h4 := h.ch x hx
 have h5 := h2.cf_ar h3.1 h3.2.2
 have h6 := w.cf_fl h h4.1 h4.2.2
 exact h5.1.ext h6.1 fun i => by rw [h5.2, h6.2, w.com x hx]
theorem Commutes_ok (h : VC p c) (h2 : VC q d) (w : Com n c d m) (hb : n + p + q + 1000 ≤ 1000000) : M.r31_Commutes c d m = some true := by
 have hl := h.len
 have hl2 := h2.len
 have hlen := w.len
 have lT : (d.map TCell.ID).length ≤ 1000000 := by simp; omega
 have hat : ∀ (i : Nat) (t : TImage), m[i]? = some t → ∃ x : TCell, c[i]? = some x ∧ x.ID = t.ID ∧ im m x.ID = t.X := fun i t ht => by
  have hi : i < m.length := (List.getElem?_eq_some_iff.1 ht).1
  obtain ⟨x, hx⟩ := lt_get (l := c) (i := i) (by omega)
  have := congrArg (fun l => l[i]?) w.ids
  simp only [List.getElem?_map, ht, hx, Option.map_some, Option.some.injEq] at this
  exact ⟨x, hx, this.symm, by rw [← this]; exact im_at (w.rise h) (List.mem_of_getElem? ht)⟩
 unfold M.r31_Commutes
 rw [if_pos (by omega)]
 refine loop_eq (fun s => s.1 = c ∧ s.2.1 = m ∧ ∃ i : Nat, s.2.2 = (i : Int) ∧ i ≤ c.length) (fun s => c.length - s.2.2.toNat) _ ⟨rfl, rfl, 0, rfl, Nat.zero_le _⟩ (by show c.length - 0 < _; omega) ?_
 rintro ⟨s1, s2, s3⟩ ⟨e1, e2, i, e3, hi⟩
 dsimp only at e1 e2 e3
 subst e1 e2 e3
 unfold M.r31_Commutes_b4
 dsimp only
 by_cases hlt : i < s1.length
 ·refine .inl ?_
  obtain ⟨t, ht⟩ := lt_get (l := s2) (i := i) (by omega)
  obtain ⟨x, hx, e, eX⟩ := hat i t ht
  have hm := List.mem_of_getElem? ht
  have hxm := List.mem_of_getElem? hx
  have hch := w.ch t hm
  rw [if_pos (by omega), nth_at ht, nth_at hx, if_pos e.symm, hch.valid (by omega) lT, bnd_pure]
  unfold M.r31_Commutes_j2
  rw [if_neg (by decide)]
  have hXl := hch.len
  simp only [List.length_map] at hXl
  have key : loop (M.r31_Commutes_b1 d (i : Int) s1 s2) 0 = some (Sum.inl (s1, s2, (i : Int) + 1)) := by
   refine loop_eq (fun s => ∃ j : Nat, s = (j : Int) ∧ j ≤ t.X.length) (fun s => t.X.length - s.toNat) _ ⟨0, rfl, Nat.zero_le _⟩ (by show t.X.length - 0 < _; omega) ?_
   rintro _ ⟨j, rfl, hj⟩
   unfold M.r31_Commutes_b1
   rw [nth_at ht]
   by_cases hjl : j < t.X.length
   ·obtain ⟨f, hf⟩ := lt_get hjl
    have hfm := List.mem_of_getElem? hf
    obtain ⟨y, hy, e1⟩ := mem_ids.1 (hch.2.2 f hfm)
    rw [if_pos (by omega), nth_at hf, Find_ok (by omega), bnd_pure, fnd_at h2.rise hy e1, if_pos rfl, nth_at hx, if_pos (w.dim x hxm f (by rw [eX]; exact hfm) y hy e1), chk64_pos (by omega)]
    refine .inl ⟨_, rfl, ⟨j + 1, by omega, by omega⟩, by omega⟩
   ·rw [if_neg (by omega), chk64_pos (by omega)]
    exact .inr rfl
  refine ⟨_, key, ⟨rfl, rfl, i + 1, by simp, by omega⟩, by simp; omega⟩
 ·refine .inr ?_
  rw [if_neg (by omega)]
  rw [show rngL (M.r31_Commutes_b3 d s2) M.r31_Commutes_k3 s1 () = some true from ?_]
  ·rfl
  refine rngL_eq (fun _ _ => True) _ (by omega) trivial (fun i x s hx _ => .inl ⟨(), ?_, trivial⟩) (fun _ _ => rfl)
  have hxi : i < s1.length := (List.getElem?_eq_some_iff.1 hx).1
  obtain ⟨t, ht⟩ := lt_get (l := s2) (i := i) (by omega)
  obtain ⟨x', hx', e, eX⟩ := hat i t ht
  rw [hx] at hx'
  obtain rfl := Option.some.inj hx'
  have hxm := List.mem_of_getElem? hx
  have hcx := h.ch x hxm
  have hct := w.ch t (List.mem_of_getElem? ht)
  have l1 := hcx.len
  have l2 := hct.len
  simp only [List.length_map] at l1 l2
  unfold M.r31_Commutes_b3
  rw [nth_at ht, Around_ok (T := d.map TCell.ID) (m := q) (k' := n) (by omega) (fun t _ => h2.chB t.ID) hct.2.1 (by omega) (by omega) lT, bnd_pure,
   Apply_ok (T := d.map TCell.ID) (q := n) (k' := p) (w.rise h) (by omega) (fun t _ => w.chI h t.ID) hcx.2.1 (by omega) (by omega) lT, bnd_pure]
  have e1 := w.eq h h2 hxm
  rw [eX] at e1
  have f1 := fl_ch (T := d.map TCell.ID) (m := n) (k' := p) (B := im s2) (x := x.B) (fun t _ => w.chI h t.ID) hcx.2.1
  have l3 := f1.len
  simp only [List.length_map] at l3
  have f2 := f1.ft (by omega)
  rw [e1, same_ok f2 f2 (by omega), bnd_pure, if_pos (by simp)]
end
end Go.Z
end
section
namespace Go.Z
def mp {α β : Type} (f : α → β) (l : List α) (r : List β) (i : Nat) : List β := (l.take i).map f ++ r.drop i
section
variable {α β : Type} {f : α → β} {l : List α} {r : List β} {i : Nat}
theorem mp_zero : mp f l r 0 = r := by simp [mp]
theorem mp_all (h : r.length = l.length) : mp f l r l.length = l.map f := by
 unfold mp; rw [List.take_of_length_le (Nat.le_refl _), List.drop_eq_nil_of_le (by omega), List.append_nil]
theorem mp_len (h : r.length = l.length) (hi : i ≤ l.length) : (mp f l r i).length = l.length := by simp [mp]; omega
theorem mp_get (h : r.length = l.length) {y : β} (hi : r[i]? = some y) : (mp f l r i)[i]? = some y := by
 have h1 := (List.getElem?_eq_some_iff.1 hi).1
 unfold mp
 rw [List.getElem?_append_right (by simp; omega)]
 simp only [List.length_map, List.length_take]
 rw [show i - min i l.length = 0 by omega, List.getElem?_drop]; simpa using hi
theorem mp_set (h : r.length = l.length) {x : α} (hx : l[i]? = some x) : setL (mp f l r i) (i : Int) (f x) = mp f l r (i + 1) := by
 have h1 := (List.getElem?_eq_some_iff.1 hx).1
 obtain ⟨y, hy⟩ := lt_get (l := r) (i := i) (by omega)
 unfold mp setL
 rw [List.take_add_one, hx, List.set_append_right _ _ (by simp; omega), Int.toNat_natCast, drop_cons hy]
 simp only [List.length_map, List.length_take]
 rw [show i - min i l.length = 0 by omega]; simp
theorem mp_same {f : α → α} {x : α} (hx : l[i]? = some x) (e : f x = x) : mp f l l i = mp f l l (i + 1) := by
 unfold mp
 rw [List.take_add_one, hx, drop_cons hx]; simp [e]
end
def dFi {α : Type} (x0 : List α) (x1 : α → Option Bool) : Option (Int × List α) :=
 rngL (fun i25 x32 v21 => nth v21 (i25 : Int) fun x36 => bnd (x1 x36) fun y57 => if y57 = true then (lft (some ((i25 : Int), v21))) else (some (.inl v21))) (fun v21 => some ((-1), v21)) x0 x0
def dFb {α : Type} (x1 : α → Option Bool) : (List α) × Int × Int → Option (((List α) × Int × Int) ⊕ (List α))
 | (v41, v47, v48) => if v48 < (v41.length : Int) then (nth v41 v48 fun x56 => bnd (x1 x56) fun y78 => if y78 = true then (chk64 (v48 + 1) <| some (.inl (v41, v47, v48 + 1))) else (nth v41 v47 fun x81 => chk64 (v47 + 1) <| chk64 (v48 + 1) <| some (.inl ((setL v41 v47 x56), v47 + 1, v48 + 1)))) else (lft (bnd (cutL v41 v47 (v41.length : Int)) fun l97 => some (List.take (v47).toNat v41)))
def dFn {α : Type} (x0 : List α) (x1 : α → Option Bool) : Option (List α) :=
 bnd (dFi x0 x1) fun y26 => if y26.1 = (-1) then (some y26.2) else (chk64 (y26.1 + 1) <| loop (dFb x1) (y26.2, y26.1, y26.1 + 1))
theorem filter_take_all {α : Type} {p : α → Bool} {l : List α} (h : ∀ x ∈ l, p x = true) : l.filter p = l := List.filter_eq_self.2 h
theorem dF_ok {α : Type} {l : List α} {p : α → Option Bool} (pb : α → Bool) (hp : ∀ x ∈ l, p x = some (pb x)) (ll : l.length ≤ 1000000) : dFn l p = some (l.filter fun x => !pb x) := by
 have h1 : (dFi l p = some (-1, l) ∧ ∀ x ∈ l, pb x = false) ∨ ∃ (k : Nat) (x : α), dFi l p = some ((k : Int), l) ∧ l[k]? = some x ∧ pb x = true ∧ ∀ y ∈ l.take k, pb y = false := by
  have := rngL_or (b := fun (i25 : Nat) (x32 : α) (v21 : List α) => nth v21 (i25 : Int) fun x36 => bnd (p x36) fun y57 => if y57 = true then (lft (some ((i25 : Int), v21))) else (some (.inl v21))) (e := fun v21 => some ((-1 : Int), v21)) (l := l) (s := l)
   (fun i v => v = l ∧ ∀ y ∈ l.take i, pb y = false) (fun r => (r = (-1, l) ∧ ∀ x ∈ l, pb x = false) ∨ ∃ (k : Nat) (x : α), r = ((k : Int), l) ∧ l[k]? = some x ∧ pb x = true ∧ ∀ y ∈ l.take k, pb y = false) (by omega) ⟨rfl, by simp⟩
   (fun i x v hx hv => by
    obtain ⟨rfl, hv⟩ := hv
    rw [nth_at hx, hp x (List.mem_of_getElem? hx), bnd_pure]
    cases hb : pb x with
    | true => exact .inr ⟨_, rfl, .inr ⟨i, x, rfl, hx, hb, hv⟩⟩
    | false =>
     refine .inl ⟨_, rfl, rfl, fun y hy => ?_⟩
     rw [List.take_add_one, hx] at hy
     rcases List.mem_append.1 hy with hy | hy
     ·exact hv y hy
     ·simp at hy; rw [hy]; exact hb)
   (fun v hv => by
    obtain ⟨rfl, hv⟩ := hv
    rw [List.take_of_length_le (Nat.le_refl _)] at hv
    exact ⟨_, rfl, .inl ⟨rfl, hv⟩⟩)
  obtain ⟨r, h1, h2⟩ := this
  rcases h2 with ⟨rfl, h2⟩ | ⟨k, x, rfl, h2⟩
  ·exact .inl ⟨h1, h2⟩
  ·exact .inr ⟨k, x, h1, h2⟩
 unfold dFn
 rcases h1 with ⟨h1, h2⟩ | ⟨k, x, h1, hx, hb, hbef⟩
 ·rw [h1, bnd_pure, if_pos rfl, filter_take_all fun x hx => by simp [h2 x hx]]
 ·have hk := (List.getElem?_eq_some_iff.1 hx).1
  rw [h1, bnd_pure, if_neg (by omega), chk64_pos (by simp; omega)]
  refine loop_eq (fun s => ∃ i j : Nat, s.2.1 = (i : Int) ∧ s.2.2 = (j : Int) ∧ i < j ∧ j ≤ l.length ∧ s.1.length = l.length ∧ s.1.take i = (l.take j).filter (fun x => !pb x) ∧ s.1.drop j = l.drop j) (fun s => l.length - s.2.2.toNat) _
   ⟨k, k + 1, rfl, by simp, by omega, by omega, rfl, ?_, rfl⟩ (by show l.length - ((k : Int) + 1).toNat < _; omega) ?_
  ·rw [List.take_add_one, hx, List.filter_append, filter_take_all (l := l.take k) fun x hx => by simp [hbef x hx]]
   simp [hb]
  ·rintro ⟨v, vi, vj⟩ ⟨i, j, e1, e2, hij, hj, hl, h3, h4⟩
   dsimp only at e1 e2 hl h3 h4
   subst e1 e2
   unfold dFb
   dsimp only
   by_cases hjl : j < l.length
   ·refine .inl ?_
    obtain ⟨y, hy⟩ := lt_get hjl
    have hvj : v[j]? = some y := by
     have := congrArg (fun l => l[0]?) h4
     simpa [List.getElem?_drop, hy] using this
    have h5 : v.drop (j + 1) = l.drop (j + 1) := by
     rw [← List.drop_drop, ← List.drop_drop, h4]
    rw [if_pos (by omega), nth_at hvj, hp y (List.mem_of_getElem? hy), bnd_pure]
    cases hb : pb y with
    | true =>
     rw [if_pos rfl, chk64_pos (by omega)]
     refine ⟨_, rfl, ⟨i, j + 1, rfl, by simp, by omega, by omega, hl, ?_, h5⟩, by simp; omega⟩
     rw [h3, List.take_add_one, hy, List.filter_append]; simp [hb]
    | false =>
     obtain ⟨z, hz⟩ := lt_get (l := v) (i := i) (by omega)
     rw [if_neg (by decide), nth_at hz, chk64_pos (by omega), chk64_pos (by omega)]
     refine ⟨_, rfl, ⟨i + 1, j + 1, by simp, by simp, by omega, by omega, by simpa [setL] using hl, ?_, ?_⟩, by simp; omega⟩
     ·unfold setL
      rw [Int.toNat_natCast, List.take_add_one, List.take_set_of_le (Nat.le_refl _), h3, List.take_add_one, hy, List.filter_append]
      rw [List.getElem?_set_self (by omega)]; simp [hb]
     ·unfold setL
      rw [Int.toNat_natCast, List.drop_set_of_lt (by omega), h5]
   ·refine .inr ?_
    have e : j = l.length := by omega
    subst e
    rw [if_neg (by omega), cutL_at (by omega) (Nat.le_refl _), bnd_pure, Int.toNat_natCast, h3, List.take_of_length_le (Nat.le_refl _)]
    rfl
theorem Contains_ok {l : List Int} {v : Int} (ll : l.length ≤ 1000000) : M.slices_Contains_Lint_int l v = some (decide (v ∈ l)) := by
 unfold M.slices_Contains_Lint_int M.slices_Index_Lint_int
 obtain ⟨r, h1, h2⟩ := rngL_or (b := M.slices_Index_Lint_int_b1 v) (e := M.slices_Index_Lint_int_k1) (l := l) (s := ()) (fun i _ => ¬ v ∈ l.take i) (fun r => decide (0 ≤ r) = decide (v ∈ l)) (by omega) (by simp)
  (fun i x s hx hs => by
   unfold M.slices_Index_Lint_int_b1
   by_cases e : v = x
   ·refine .inr ⟨(i : Int), by rw [if_pos e]; rfl, ?_⟩
    have : v ∈ l := by rw [e]; exact List.mem_of_getElem? hx
    simp [this]
   ·refine .inl ⟨(), by rw [if_neg e], ?_⟩
    rw [List.take_add_one, hx]; simp [hs, e])
  (fun s hs => ⟨-1, rfl, by rw [List.take_of_length_le (Nat.le_refl _)] at hs; simp [hs]⟩)
 rw [h1, bnd_pure, h2]
theorem Contains2_ok {l : List (Int × Int)} {v : Int × Int} (ll : l.length ≤ 1000000) : M.slices_Contains_L_2_int_2_int l v = some (decide (v ∈ l)) := by
 unfold M.slices_Contains_L_2_int_2_int M.slices_Index_L_2_int_2_int
 obtain ⟨r, h1, h2⟩ := rngL_or (b := M.slices_Index_L_2_int_2_int_b1 (v.1, v.2)) (e := M.slices_Index_L_2_int_2_int_k1) (l := l) (s := ()) (fun i _ => ¬ v ∈ l.take i) (fun r => decide (0 ≤ r) = decide (v ∈ l)) (by omega) (by simp)
  (fun i x s hx hs => by
   unfold M.slices_Index_L_2_int_2_int_b1
   have hh : ((v.1 == x.1 && v.2 == x.2) = true) ↔ v = x := by
    cases v; cases x; simp
   by_cases e : v = x
   ·refine .inr ⟨(i : Int), by rw [if_pos (hh.2 e)]; rfl, ?_⟩
    have : v ∈ l := by rw [e]; exact List.mem_of_getElem? hx
    simp [this]
   ·refine .inl ⟨(), by rw [if_neg (fun h => e (hh.1 h))], ?_⟩
    rw [List.take_add_one, hx]; simp [hs, e])
  (fun s hs => ⟨-1, rfl, by rw [List.take_of_length_le (Nat.le_refl _)] at hs; simp [hs]⟩)
 rw [h1, bnd_pure, h2]
theorem clone_ok {α : Type} {l : List α} (h : l.length ≤ 1000000) : M.clone l = some l := if_pos (by omega)
theorem without_ok {c : List TCell} {l : List Int} (lc : c.length ≤ 1000000) (ll : l.length ≤ 1000000) : M.merge_without c l = some (c.filter fun x => !decide (x.ID ∈ l)) := by
 unfold M.merge_without
 rw [clone_ok lc, bnd_pure, show M.slices_DeleteFunc_Complex_Cell c (fun a0 => M.merge_without_1 a0 l) = dFn c (fun a0 => M.merge_without_1 a0 l) from rfl,
  dF_ok (fun x => decide (x.ID ∈ l)) (fun x hx => by unfold M.merge_without_1; rw [Contains_ok ll, bnd_pure]) lc, bnd_pure]
end Go.Z
end
section
namespace Go.Z
theorem loop_mp {α : Type} (f : α → α) {l : List α} {b : List α × Int → Option ((List α × Int) ⊕ List α)} (ll : l.length ≤ 1000000)
  (hb : ∀ (i : Nat) x, l[i]? = some x → b (mp f l l i, (i : Int)) = some (.inl (setL (mp f l l i) (i : Int) (f x), (i : Int) + 1)))
  (he : ∀ v : List α, v.length = l.length → b (v, (l.length : Int)) = some (.inr v)) : loop b (l, 0) = some (l.map f) := by
 refine loop_eq (fun s => ∃ i : Nat, s = (mp f l l i, (i : Int)) ∧ i ≤ l.length) (fun s => l.length - s.2.toNat) _ ⟨0, by rw [mp_zero]; rfl, Nat.zero_le _⟩ (by show l.length - 0 < _; omega) ?_
 rintro _ ⟨i, rfl, hi⟩
 by_cases h : i < l.length
 ·obtain ⟨x, hx⟩ := lt_get h
  rw [hb i x hx, mp_set rfl hx]
  exact .inl ⟨_, rfl, ⟨i + 1, by simp, by omega⟩, by simp; omega⟩
 ·have e : i = l.length := by omega
  subst e
  rw [mp_all rfl, he _ (by simp)]; exact .inr rfl
theorem rng_mp {α β γ : Type} (f : α → β) {l : List α} {r : List β} {b : Nat → α → List β → Option (List β ⊕ γ)} {e : List β → Option γ} (ll : l.length ≤ 1000000) (hr : r.length = l.length)
  (hb : ∀ (i : Nat) x, l[i]? = some x → b i x (mp f l r i) = some (.inl (setL (mp f l r i) (i : Int) (f x)))) : rngL b e l r = e (l.map f) := by
 have key : ∀ k i, i + k = l.length → forL b e (l.drop i) i (mp f l r i) = e (l.map f) := by
  intro k
  induction k with
  | zero =>
   intro i hi
   have : i = l.length := by omega
   subst this
   rw [List.drop_eq_nil_of_le (Nat.le_refl _), forL, mp_all hr]
  | succ k ih =>
   intro i hi
   obtain ⟨x, hx⟩ := lt_get (l := l) (i := i) (by omega)
   rw [drop_cons hx, forL, hb i x hx, mp_set hr hx]
   exact ih (i + 1) (by omega)
 have := key l.length 0 (by omega)
 rw [List.drop_zero, mp_zero] at this
 rw [rngL, chk_pos (by omega), this]
def rpl (b : Int) (z : List TFace) (x : TCell) : TCell := if cf x.B b = 0 then x else ⟨x.ID, x.Dim, pl x.B z (cf x.B b)⟩
section
variable {c : List TCell} {S : List Int} {n m : Nat} {a b : Int} {z : List TFace}
theorem replace_ok (hc : ∀ x ∈ c, Ch S n x.B) (hz : Ch S m z) (lS : S.length ≤ 1000000) (hn : n + m + 1 ≤ 1000000) (hn2 : n + 1 ≤ 1000000) (lc : c.length ≤ 1000000) : M.merge_replace c b z = some (c.map (rpl b z)) := by
 unfold M.merge_replace
 rw [clone_ok lc, bnd_pure]
 refine rng_mp (rpl b z) lc rfl fun i x hx => ?_
 have hm := List.mem_of_getElem? hx
 have hch := hc x hm
 have hl := hch.len
 have hb := hch.2.1.cf b
 unfold M.merge_replace_b1
 dsimp only
 rw [nth_at (mp_get rfl hx), coef_ok hch.1 (by omega), bnd_pure, isign_ok (ft_bits hb (by omega)), bnd_pure]
 by_cases h : cf x.B b = 0
 ·rw [if_pos ((sign0 _).2 h), mp_set rfl hx, ← mp_same hx (by unfold rpl; rw [if_pos h])]
 ·rw [if_neg (fun e => h ((sign0 _).1 e)), hch.chainsAdd hz hb (by omega) lS, bnd_pure]
  unfold rpl; rw [if_neg h]
theorem replaced_ok (hc : ∀ x ∈ c, Ch S n x.B) (hz : Ch S m z) (lS : S.length ≤ 1000000) (hn : n + m + 1 ≤ 1000000) (hn2 : n + 1 ≤ 1000000) (lc : c.length ≤ 1000000) : M.r31_replaced c b z = some (c.map (rpl b z)) := by
 unfold M.r31_replaced
 rw [app_at (by simp; omega), bnd_pure, List.nil_append]
 refine loop_mp (rpl b z) lc (fun i x hx => ?_) (fun v hv => ?_)
 ·have hi := (List.getElem?_eq_some_iff.1 hx).1
  have hm := List.mem_of_getElem? hx
  have hch := hc x hm
  have hl := hch.len
  have hb := hch.2.1.cf b
  unfold M.r31_replaced_b1
  dsimp only
  rw [mp_len rfl (by omega), if_pos (by omega), nth_at (mp_get rfl hx), Coefficient_ok hch.1 (by omega), bnd_pure, isign_ok (ft_bits hb (by omega)), bnd_pure]
  by_cases h : cf x.B b = 0
  ·rw [if_pos ((sign0 _).2 h), chk64_pos (by omega), mp_set rfl hx, ← mp_same hx (by unfold rpl; rw [if_pos h])]
  ·rw [if_neg (fun e => h ((sign0 _).1 e)), hch.plus hz hb (by omega) lS, bnd_pure, chk64_pos (by omega)]
   unfold rpl; rw [if_neg h]
 ·unfold M.r31_replaced_b1
  dsimp only
  rw [hv, if_neg (by omega)]; rfl
end
theorem one_ok (i : Int) : M.merge_one i = some [⟨i, 1⟩] := rfl
theorem rone_ok (i : Int) : M.r31_one i = some [⟨i, 1⟩] := rfl
def itf (m : List (Int × List TFace)) (x : TCell) : TImage := ⟨x.ID, (mfind m x.ID).getD [⟨x.ID, 1⟩]⟩
theorem itself_ok {c : List TCell} {m : List (Int × List TFace)} (lc : c.length ≤ 1000000) : M.merge_itself c m = some (c.map (itf m)) := by
 unfold M.merge_itself
 unfold mkl
 rw [if_pos (by omega), bnd_pure]
 refine rng_mp (itf m) lc (by simp) fun i x hx => ?_
 have hi := (List.getElem?_eq_some_iff.1 hx).1
 have hr : (List.replicate (Int.toNat (c.length : Int)) (TImage.mk 0 []))[i]? = some (TImage.mk 0 []) := by
  rw [List.getElem?_replicate, if_pos (by simpa using hi)]
 have hl := mp_len (f := itf m) (l := c) (r := List.replicate (Int.toNat (c.length : Int)) (TImage.mk 0 [])) (i := i) (by simp) (by omega)
 have hg := mp_get (f := itf m) (l := c) (by simp) hr
 unfold M.merge_itself_b1
 dsimp only
 rw [one_ok, bnd_pure, nth_at hg]
 have hset : ∀ (v : List TImage) (t : TImage), i < v.length → (setL v (i : Int) t)[i]? = some t := fun v t h => by
  unfold setL; rw [Int.toNat_natCast, List.getElem?_set_self h]
 cases hf : mfind m x.ID with
 | none =>
  rw [if_neg (by simp [mhas, hf])]
  unfold itf; rw [hf]; rfl
 | some z =>
  rw [if_pos (by simp [mhas, hf]), nth_at (hset _ _ (by omega))]
  unfold itf mget; rw [hf]
  simp [setL, List.set_set]
theorem Itself_ok {c : List TCell} (lc : c.length ≤ 1000000) : M.r31_Itself c = some (c.map (itf [])) := by
 unfold M.r31_Itself
 rw [rngL_fold (l := c) (fun (a : List TImage) (x : TCell) => a ++ [itf [] x]) (by omega) (fun n x s hx hs => ?_) rfl]
 ·unfold M.r31_Itself_k1
  have : ∀ (c : List TCell) (a : List TImage), c.foldl (fun a x => a ++ [itf [] x]) a = a ++ c.map (itf []) := by
   intro c
   induction c with
   | nil => simp
   | cons k ks ih => intro a; rw [List.foldl_cons, ih]; simp
  rw [this]; simp
 ·have hn : n < c.length := (List.getElem?_eq_some_iff.1 hx).1
  have hsl : s.length = n := by
   subst hs
   have : ∀ (c : List TCell) (a : List TImage), (c.foldl (fun a x => a ++ [itf [] x]) a).length = a.length + c.length := by
    intro c
    induction c with
    | nil => simp
    | cons k ks ih => intro a; rw [List.foldl_cons, ih]; simp; omega
   rw [this]; simp; omega
  unfold M.r31_Itself_b1
  dsimp only
  rw [rone_ok, bnd_pure, app_at (by simp; omega), bnd_pure]
  rfl
theorem With_ok {m : List TImage} {i : Int} {z : List TFace} (lm : m.length ≤ 1000000) : M.r31_With m i z = some (m.map fun t => if t.ID = i then ⟨t.ID, z⟩ else t) := by
 unfold M.r31_With
 rw [app_at (by simp; omega), bnd_pure, List.nil_append]
 refine loop_mp (fun t : TImage => if t.ID = i then ⟨t.ID, z⟩ else t) lm (fun j x hx => ?_) (fun v hv => ?_)
 ·have hi := (List.getElem?_eq_some_iff.1 hx).1
  unfold M.r31_With_b1
  dsimp only
  rw [mp_len rfl (by omega), if_pos (by omega), nth_at (mp_get rfl hx)]
  by_cases h : x.ID = i
  ·rw [if_pos h, chk64_pos (by omega), if_pos h]
  ·rw [if_neg h, chk64_pos (by omega), mp_set rfl hx (f := fun t : TImage => if t.ID = i then ⟨t.ID, z⟩ else t), ← mp_same hx (by rw [if_neg h])]
 ·unfold M.r31_With_b1
  dsimp only
  rw [hv, if_neg (by omega)]; rfl
theorem With_itf {c : List TCell} {m : List (Int × List TFace)} {i : Int} {z : List TFace} : (c.map (itf m)).map (fun t => if t.ID = i then (⟨t.ID, z⟩ : TImage) else t) = c.map (itf (mput m i z)) := by
 rw [List.map_map]
 refine List.map_congr_left fun x _ => ?_
 show (if (itf m x).ID = i then _ else _) = _
 unfold itf
 rw [mfind_mput]
 dsimp only
 by_cases h : x.ID = i
 ·rw [if_pos h, if_pos h]; rfl
 ·rw [if_neg h, if_neg h]
theorem SameMap_self {m : List TImage} (lm : m.length ≤ 1000000) (h : ∀ t ∈ m, FtL t.X ∧ t.X.length ≤ 1000000) : M.r31_SameMap m m = some true := by
 unfold M.r31_SameMap
 rw [if_pos rfl]
 refine rngL_eq (fun _ _ => True) _ (by omega) trivial (fun i x s hx _ => .inl ⟨(), ?_, trivial⟩) (fun _ _ => rfl)
 have hm := h x (List.mem_of_getElem? hx)
 unfold M.r31_SameMap_b1
 rw [nth_at hx, if_pos rfl, same_ok hm.1 hm.1 hm.2, bnd_pure, if_pos (by simp)]
end Go.Z
end
section
namespace Go.Z
def dif (a b : Int) : List TFace := pl [⟨a, 1⟩] [⟨b, 1⟩] (-1)
def idC (c : List TCell) (a b : Int) : List TCell := (c.map (rpl b (dif a b))).filter fun x => !decide (x.ID ∈ [b])
def idM (c : List TCell) (a b : Int) : List TImage := c.map (itf (mput [] b [⟨a, 1⟩]))
def idn (c : List TCell) (a b : Int) : List TCell × List TImage × Int :=
 if (fnd c a).2 = true ∧ (fnd c b).2 = true then
  (if (fnd c a).1.Dim = (fnd c b).1.Dim then (if a = b ∨ (fnd c a).1.B ≠ (fnd c b).1.B then ([], [], 310) else (idC c a b, idM c a b, 0)) else ([], [], 260))
 else ([], [], 250)
section
variable {c : List TCell} {n : Nat} {a b : Int}
theorem one_ch {S : List Int} {i : Int} (h : i ∈ S) : Ch S 1 [⟨i, 1⟩] := Ch.one (by decide) (by decide) h
theorem dif_ch {S : List Int} (ha : a ∈ S) (hb : b ∈ S) : Ch S 3 (dif a b) := (one_ch ha).pl (one_ch hb) (k := -1) (k' := 1) (by decide)
theorem pl_minus {S : List Int} {x y : List TFace} (hx : Gd x) (hy : Gd y) : (0 < ((pl x y (-1)).length : Int)) ↔ x ≠ y := by
 have h := Gd.pl (k := -1) hx hy
 constructor
 ·intro h1 e
  subst e
  have : pl x x (-1) = [] := h.1.nil_iff.2 fun i => by rw [h.2]; omega
  rw [this] at h1; simp at h1
 ·intro h1
  have : pl x y (-1) ≠ [] := fun e => h1 (hx.ext hy fun i => by have := (h.1.nil_iff.1 e) i; rw [h.2] at this; omega)
  have := List.length_pos_iff.2 this
  omega
theorem fnd_in {i : Int} (h : VC n c) : (fnd c i).2 = true ↔ i ∈ c.map TCell.ID := by
 by_cases e : i ∈ c.map TCell.ID
 ·obtain ⟨y, hy, e2⟩ := mem_ids.1 e
  rw [fnd_at h.rise hy e2]; simp [e]
 ·rw [fnd_no e]; simp [e]
theorem Identify_ok (h : VC n c) (hn : n + 100 ≤ 1000000) : M.merge_Identify c a b = some (idn c a b) := by
 have hl := h.len
 have hS : (c.map TCell.ID).length ≤ 1000000 := by simp; omega
 unfold M.merge_Identify idn
 rw [cFind_ok h.rise (by omega), bnd_pure, cFind_ok h.rise (by omega), bnd_pure]
 unfold M.merge_Identify_j2
 by_cases ha : (fnd c a).2 = true
 ·rw [if_pos ha]
  by_cases hb : (fnd c b).2 = true
  ·rw [if_pos (show (fnd c a).2 = true ∧ (fnd c b).2 = true from ⟨ha, hb⟩), hb, if_neg (by decide)]
   have hb' := (fnd_in h).1 hb
   have ha' := (fnd_in h).1 ha
   by_cases hd : (fnd c a).1.Dim = (fnd c b).1.Dim
   ·rw [if_pos hd, if_pos hd]
    clear hd
    have go : a ≠ b → M.merge_Identify_j1 c a b false = some (idC c a b, idM c a b, 0) := fun hab => by
     unfold M.merge_Identify_j1
     rw [if_neg (by decide), one_ok, bnd_pure, one_ok, bnd_pure, iof_ok (by decide), bnd_pure, (one_ch ha').chainsAdd (one_ch hb') (k := -1) (k' := 1) (by decide) (by decide) hS, bnd_pure, show pl [⟨a, 1⟩] [⟨b, 1⟩] (-1) = dif a b from rfl,
      replace_ok (S := c.map TCell.ID) (n := n) (m := 3) h.ch (dif_ch ha' hb') hS (by omega) (by omega) (by omega), bnd_pure, without_ok (by simp; omega) (by simp), bnd_pure, bnd_pure, itself_ok (by omega), bnd_pure]
     rfl
    by_cases hab : a = b
    ·rw [if_pos hab, if_pos (.inl hab)]; unfold M.merge_Identify_j1; rw [if_pos rfl]
    ·rw [if_neg hab, iof_ok (by decide), bnd_pure, (h.chB a).chainsAdd (h.chB b) (k := -1) (k' := 1) (by decide) (by omega) hS |> (fun e => show M.chains_Add (fnd c a).1.B (fnd c b).1.B (-1) = some (pl (fnd c a).1.B (fnd c b).1.B (-1)) from e), bnd_pure]
     by_cases hB : (fnd c a).1.B = (fnd c b).1.B
     ·rw [if_neg (by simp [hab, hB]), show decide (0 < ((pl (fnd c a).1.B (fnd c b).1.B (-1)).length : Int)) = false from decide_eq_false (fun e => (pl_minus (S := []) (h.chB a).1 (h.chB b).1).1 e hB)]
      exact go hab
     ·rw [if_pos (.inr hB), show decide (0 < ((pl (fnd c a).1.B (fnd c b).1.B (-1)).length : Int)) = true from decide_eq_true ((pl_minus (S := []) (h.chB a).1 (h.chB b).1).2 hB)]
      unfold M.merge_Identify_j1; rw [if_pos rfl]
   ·rw [if_neg hd, if_neg hd]
  ·have hb2 : (fnd c b).2 = false := by simpa using hb
   rw [if_neg (show ¬ ((fnd c a).2 = true ∧ (fnd c b).2 = true) from fun e => hb e.2), hb2, if_pos (by decide)]
 ·rw [if_neg ha, if_pos rfl, if_neg (fun e => ha e.1)]
end
end Go.Z
end
section
namespace Go.Z
theorem lin_del {c : List TCell} (hs : Rise TCell.ID c) {g : Int → Int} {i k : Int} (h : i ∈ c.map TCell.ID) : lin c g (fun j => if j = i then k else 0) = g i * k := by
 induction c with
 | nil => cases h
 | cons y c ih =>
  rw [Rise, List.pairwise_cons] at hs
  rw [lin_cons]
  by_cases e : y.ID = i
  ·rw [if_pos e, lin_zero (fun z hz => by rw [if_neg (by have := hs.1 z hz; omega)]; simp), e]; omega
  ·rw [if_neg e, ih hs.2 (by rcases List.mem_cons.1 h with h | h; exact absurd h.symm e; exact h)]; omega
theorem lin_del0 {c : List TCell} {g : Int → Int} {i k : Int} (h : ¬ i ∈ c.map TCell.ID) : lin c g (fun j => if j = i then k else 0) = 0 :=
 lin_zero fun y hy => by rw [if_neg (fun e => h (mem_ids.2 ⟨y, hy, e⟩))]; simp
theorem lin_delC {c : List TCell} (hs : Rise TCell.ID c) {x : List TFace} {i : Int} (h : ∀ f ∈ x, f.ID ∈ c.map TCell.ID) : lin c (cf x) (fun j => if j = i then 1 else 0) = cf x i := by
 by_cases e : i ∈ c.map TCell.ID
 ·rw [lin_del hs e]; omega
 ·rw [lin_del0 e]
  exact (Decidable.byContradiction fun e2 => e (cf_in h (c := i) (fun e3 => e2 e3.symm)))
theorem cf_one (t i : Int) : cf [⟨t, 1⟩] i = if t = i then 1 else 0 := by simp [cf]
theorem im_itf {c : List TCell} (hs : Rise TCell.ID c) {m : List (Int × List TFace)} {x : TCell} (hx : x ∈ c) : im (c.map (itf m)) x.ID = (mfind m x.ID).getD [⟨x.ID, 1⟩] := by
 have h1 : Rise TImage.ID (c.map (itf m)) := rise_ids (l := c.map (itf m)) (r := c) (by rw [List.map_map]; rfl) hs
 have := im_at h1 (List.mem_map_of_mem (f := itf m) hx)
 exact this
section
variable {c : List TCell} {n : Nat} {a b : Int}
theorem rpl_id (z : List TFace) (x : TCell) : (rpl b z x).ID = x.ID := by unfold rpl; split <;> rfl
theorem rpl_dim (z : List TFace) (x : TCell) : (rpl b z x).Dim = x.Dim := by unfold rpl; split <;> rfl
theorem rpl_cf {z : List TFace} {x : TCell} (hx : Gd x.B) (hz : Gd z) : Gd (rpl b z x).B ∧ ∀ i, cf (rpl b z x).B i = cf x.B i + cf x.B b * cf z i := by
 unfold rpl
 split
 ·rename_i h; exact ⟨hx, fun i => by rw [h]; omega⟩
 ·exact Gd.pl hx hz
theorem rpl_ch {S : List Int} {m : Nat} {z : List TFace} {x : TCell} (hx : Ch S n x.B) (hz : Ch S m z) : Ch S (n + m + 1) (rpl b z x).B := by
 unfold rpl
 split
 ·exact hx.mono (by omega)
 ·exact (hx.pl hz (hx.2.1.cf b)).mono (by omega)
theorem map_rise {f : TCell → TCell} (hf : ∀ x, (f x).ID = x.ID) (hs : Rise TCell.ID c) : Rise TCell.ID (c.map f) :=
 rise_ids (l := c.map f) (r := c) (by rw [List.map_map]; exact List.map_congr_left fun x _ => hf x) hs
end
end Go.Z
end
section
namespace Go.Z
section
variable {c : List TCell} {n : Nat} {a b : Int} {x : R26Raw}
theorem VC.ftB {d : List TCell} (h : VC n d) (hn : n ≤ 1000000) : (∀ x ∈ d, FtL x.B) ∧ ∀ x ∈ d, x.B.length ≤ 1000000 := ⟨fun x hx => (h.ch x hx).ft hn, fun x hx => by
 have := (h.ch x hx).len; have := h.len; simp at *; omega⟩
theorem Same_self {d : List TCell} (h : VC n d) (hn : n ≤ 1000000) : M.r25_Same d d = some true := by
 rw [Same_ok (h.ftB hn).1 (h.ftB hn).1 (by have := h.len; omega) (h.ftB hn).2]; simp
theorem Com.same {q p : Nat} {d : List TCell} {m : List TImage} (w : Com q c d m) (h : VC n c) (h2 : VC p d) (hq : q ≤ 1000000) : M.r31_SameMap m m = some true :=
 SameMap_self (by have := w.len; have := h.len; omega) fun t ht => ⟨(w.ch t ht).ft hq, by have := (w.ch t ht).len; have := h2.len; simp at *; omega⟩
theorem Is_ok {q p : Nat} {d : List TCell} {m : List TImage} {e : Int} (w : Com q c d m) (h : VC n c) (h2 : VC p d) (hq : q ≤ 1000000) (hp : p ≤ 1000000) : M.r31_Is ⟨d, m, e⟩ d m = some true := by
 unfold M.r31_Is
 rw [Same_self h2 hp, bnd_pure, if_pos rfl, w.same h h2 hq, bnd_pure]
theorem Is_nil {e : Int} : M.r31_Is ⟨[], [], e⟩ [] [] = some true := rfl
theorem known_ok (lc : c.length ≤ 1000000) : M.l31_known c = some (c.map TCell.ID ++ [99]) := by
 unfold M.l31_known
 have hf : ∀ (c : List TCell) (a : List Int), c.foldl (fun (a : List Int) (x : TCell) => a ++ [x.ID]) a = a ++ c.map TCell.ID := by
  intro c
  induction c with
  | nil => simp
  | cons k ks ih => intro a; rw [List.foldl_cons, ih]; simp
 rw [rngL_fold (l := c) (fun (a : List Int) (x : TCell) => a ++ [x.ID]) (by omega) (fun n x s hx hs => ?_) rfl]
 ·unfold M.l31_known_k1
  rw [hf]
  dsimp only
  rw [app_at (by simp; omega), bnd_pure]; simp
 ·have hn : n < c.length := (List.getElem?_eq_some_iff.1 hx).1
  have hsl : s.length = n := by rw [hs, hf]; simp; omega
  unfold M.l31_known_b1
  dsimp only
  rw [app_at (by simp; omega), bnd_pure]
end
end Go.Z
end
section
namespace Go.Z
open Eu
def cel (c : List TCell) (k : Int) : List Int := (c.filter fun x => decide (x.Dim = k)).map TCell.ID
theorem Cells_ok {c : List TCell} {k : Int} (lc : c.length ≤ 1000000) : M.r25_Cells c k = some (cel c k) := by
 unfold M.r25_Cells
 have hf : ∀ (c : List TCell) (a : List Int), c.foldl (fun (a : List Int) (x : TCell) => if x.Dim = k then a ++ [x.ID] else a) a = a ++ cel c k := by
  intro c
  induction c with
  | nil => intro a; simp [cel]
  | cons x c ih =>
   intro a
   rw [List.foldl_cons, ih]
   unfold cel
   rw [List.filter_cons]
   by_cases h : x.Dim = k
   ·rw [if_pos h, if_pos (by simpa using h)]; simp
   ·rw [if_neg h, if_neg (by simpa using h)]
 have hl : ∀ (c : List TCell), (cel c k).length ≤ c.length := fun c => by unfold cel; rw [List.length_map]; exact List.length_filter_le _ _
 rw [rngL_fold (l := c) (fun (a : List Int) (x : TCell) => if x.Dim = k then a ++ [x.ID] else a) (by omega) (fun n x s hx hs => ?_) rfl]
 ·unfold M.r25_Cells_k1
  rw [hf]; simp
 ·have hn : n < c.length := (List.getElem?_eq_some_iff.1 hx).1
  have hsl : s.length ≤ n := by rw [hs, hf]; have := hl (c.take n); simp at *; omega
  unfold M.r25_Cells_b1
  dsimp only
  by_cases h : x.Dim = k
  ·rw [if_pos h, if_pos h, app_at (by simp; omega), bnd_pure]
  ·rw [if_neg h, if_neg h]
def gi (l : List Int) (i : Nat) : Int := l.getD i 0
theorem gi_at {l : List Int} {i : Nat} {x : Int} (h : l[i]? = some x) : gi l i = x := by simp [gi, h]
theorem map_vr (l : List Int) (f : Int → Int) : l.map f = vr l.length fun i => f (gi l i) := by
 refine List.ext_getElem? fun k => ?_
 rw [List.getElem?_map]
 by_cases h : k < l.length
 ·obtain ⟨x, hx⟩ := lt_get h
  rw [vr_get h, hx, gi_at hx]; rfl
 ·rw [List.getElem?_eq_none (by omega), List.getElem?_eq_none (by rw [vr_len]; omega)]; rfl
theorem gi_mem {l : List Int} {i : Nat} (h : i < l.length) : gi l i ∈ l := by
 obtain ⟨x, hx⟩ := lt_get h
 rw [gi_at hx]; exact List.mem_of_getElem? hx
theorem mp_same2 {α β : Type} {f : α → β} {l : List α} {r : List β} {i : Nat} {x : α} (hx : l[i]? = some x) (hr : r[i]? = some (f x)) : mp f l r i = mp f l r (i + 1) := by
 unfold mp
 rw [List.take_add_one, hx, drop_cons hr]; simp
theorem Row_ok {B : List TFace} {ids : List Int} (g : Gd B) (lB : B.length ≤ 1000000) (li : ids.length ≤ 1000000) : M.r25_Row B ids = some (ids.map (cf B)) := by
 unfold M.r25_Row mkl
 rw [if_pos (by omega), bnd_pure]
 have h0 : List.replicate ((ids.length : Nat) : Int).toNat (0 : Int) = ids.map (cf (B.take 0)) := by
  rw [Int.toNat_natCast, List.take_zero]
  exact (show ids.map (fun _ => (0 : Int)) = _ from List.map_const').symm
 rw [h0]
 refine rngL_eq (fun i v => v = ids.map (cf (B.take i))) _ (by omega) rfl (fun i t v ht hv => .inl ?_) (fun v hv => ?_)
 ·subst hv
  refine ⟨ids.map (cf (B.take (i + 1))), ?_, rfl⟩
  unfold M.r25_Row_b2
  dsimp only
  have e0 : cf (B.take i) t.ID = 0 := by
   have h1 := cf_take g ht t.ID
   have h2 : cf (B.take (i + 1)) t.ID = t.C := by
    obtain ⟨z, s⟩ := g
    refine cf_none (l := B.take i) (c := t.ID) (fun f hf e => ?_) |> fun e => by rw [h1, e, if_pos rfl]; omega
    rw [show B = B.take i ++ (t :: B.drop (i + 1)) by rw [← drop_cons ht, List.take_append_drop]] at s
    have := so_app s f hf t (by simp)
    omega
   rw [h1, if_pos rfl] at h2; omega
  have e1 : ids.map (cf (B.take (i + 1))) = ids.map fun k => if k = t.ID then t.C else cf (B.take i) k := by
   refine List.map_congr_left fun k _ => ?_
   rw [cf_take g ht]
   by_cases e : k = t.ID
   ·rw [if_pos e, if_pos e.symm, e, e0]; omega
   ·rw [if_neg e, if_neg (Ne.symm e)]; omega
  rw [e1]
  rw [rng_mp (fun k => if k = t.ID then t.C else cf (B.take i) k) li (by simp) (fun j k hk => ?_)]
  ·rfl
  ·have hr : (ids.map (cf (B.take i)))[j]? = some (cf (B.take i) k) := by rw [List.getElem?_map, hk]; rfl
   have hm := mp_get (f := fun k => if k = t.ID then t.C else cf (B.take i) k) (l := ids) (by simp) hr
   unfold M.r25_Row_b1
   dsimp only
   by_cases e : k = t.ID
   ·rw [if_pos e, nth_at hm, if_pos e]
   ·rw [if_neg e]
    have h3 := mp_set (f := fun k => if k = t.ID then t.C else cf (B.take i) k) (r := ids.map (cf (B.take i))) (by simp) hk
    rw [h3, ← mp_same2 hk (by rw [hr]; simp [e])]
 ·rw [List.take_of_length_le (Nat.le_refl _)] at hv
  rw [hv]; rfl
def bmat (c : List TCell) (k : Int) : Fam := fun i j => cf (bO c (gi (cel c k) i)) (gi (cel c (k - 1)) j)
theorem cel_mem {c : List TCell} {k i : Int} : i ∈ cel c k ↔ ∃ x ∈ c, x.Dim = k ∧ x.ID = i := by
 unfold cel
 simp [List.mem_filter, and_assoc]
theorem cel_len (c : List TCell) (k : Int) : (cel c k).length ≤ c.length := by unfold cel; rw [List.length_map]; exact List.length_filter_le _ _
section
variable {c : List TCell} {n : Nat} {k : Int}
theorem Boundary_ok (h : VC n c) (hk : 0 ≤ k ∧ k ≤ 10) : M.r25_Boundary c k = some ⟨(cel c k).length, (cel c (k - 1)).length, mx (cel c k).length (cel c (k - 1)).length (bmat c k)⟩ := by
 have hl := h.len
 have l1 := cel_len c k
 have l2 := cel_len c (k - 1)
 unfold M.r25_Boundary
 rw [Cells_ok (by omega), bnd_pure, chk64_pos (by omega), Cells_ok (by omega), bnd_pure]
 have hf : ∀ (ids : List Int) (a : List (List Int)), ids.foldl (fun (a : List (List Int)) (i : Int) => a ++ [(cel c (k - 1)).map (cf (bO c i))]) a = a ++ ids.map fun i => (cel c (k - 1)).map (cf (bO c i)) := by
  intro ids
  induction ids with
  | nil => simp
  | cons x ids ih => intro a; rw [List.foldl_cons, ih]; simp
 rw [rngL_fold (l := cel c k) (fun (a : List (List Int)) (i : Int) => a ++ [(cel c (k - 1)).map (cf (bO c i))]) (by omega) (fun i x s hx hs => ?_) rfl]
 ·unfold M.r25_Boundary_k1
  rw [hf]
  dsimp only
  congr 2
  rw [List.nil_append]
  unfold mx bmat
  refine List.ext_getElem? fun j => ?_
  rw [List.getElem?_map, List.getElem?_map]
  by_cases hj : j < (cel c k).length
  ·obtain ⟨x, hx⟩ := lt_get hj
   rw [hx, List.getElem?_range hj]
   show some (List.map (cf (bO c x)) (cel c (k - 1))) = some (vr (cel c (k - 1)).length fun j' => cf (bO c (gi (cel c k) j)) (gi (cel c (k - 1)) j'))
   rw [gi_at hx, map_vr]
  ·rw [List.getElem?_eq_none (by omega), List.getElem?_eq_none (by simp; omega)]; rfl
 ·have hi : i < (cel c k).length := (List.getElem?_eq_some_iff.1 hx).1
  have hsl : s.length ≤ i := by rw [hs, hf]; simp; omega
  unfold M.r25_Boundary_b1
  dsimp only
  rw [Find_ok (by omega), bnd_pure]
  have := h.chB x
  have hlB := this.len
  rw [List.length_map] at hlB
  rw [show M.r25_Row (fnd c x).1.B (cel c (k - 1)) = some ((cel c (k - 1)).map (cf (bO c x))) from Row_ok (B := bO c x) this.1 (by omega) (by omega), bnd_pure, app_at (by simp; omega), bnd_pure]
def sm (n : Nat) (h : Nat → Int) : Int := ((List.range n).map h).sum
theorem sm_succ (n : Nat) (h : Nat → Int) : sm (n + 1) h = sm n h + h n := by unfold sm; rw [List.range_succ, List.map_append, List.sum_append]; simp
theorem sm_congr {n : Nat} {f g : Nat → Int} (h : ∀ i, i < n → f i = g i) : sm n f = sm n g := by
 unfold sm; rw [List.map_congr_left fun i hi => h i (List.mem_range.1 hi)]
theorem sm_lin (n : Nat) (f g : Nat → Int) (k : Int) : sm n (fun i => f i + k * g i) = sm n f + k * sm n g := by
 induction n with
 | zero => simp [sm]
 | succ n ih => rw [sm_succ, sm_succ, sm_succ, ih, Int.mul_add]; omega
theorem sm_zero {n : Nat} {f : Nat → Int} (h : ∀ i, i < n → f i = 0) : sm n f = 0 := by
 induction n with
 | zero => rfl
 | succ n ih => rw [sm_succ, ih fun i hi => h i (by omega), h n (by omega)]; rfl
theorem sm_del {n i : Nat} (hi : i < n) (g : Nat → Int) : sm n (fun j => if j = i then g j else 0) = g i := by
 induction n with
 | zero => omega
 | succ n ih =>
  rw [sm_succ]
  by_cases e : n = i
  ·rw [if_pos e, sm_zero (fun j hj => by rw [if_neg (by omega)]), e]; omega
  ·rw [if_neg e, ih (by omega)]; omega
def Ann (n m : Nat) (A : Fam) (f : Nat → Int) : Prop := ∀ j, j < m → sm n (fun i => f i * A i j) = 0
def Qu (n m : Nat) (A : Fam) (f : Nat → Int) : Prop := ∀ j, j < m → f j = sm n fun i => f (m + i) * A i j
theorem Ann.lin (n m : Nat) (A : Fam) : LinQ (Ann n m A) := fun f g k hf hg j hj => by
 rw [show (fun i => (f i + k * g i) * A i j) = fun i => f i * A i j + k * (g i * A i j) from funext fun i => by rw [Int.add_mul, Int.mul_assoc], sm_lin, hf j hj, hg j hj]; simp
theorem Qu.lin (n m : Nat) (A : Fam) : LinQ (Qu n m A) := fun f g k hf hg j hj => by
 show f j + k * g j = sm n fun i => (f (m + i) + k * g (m + i)) * A i j
 rw [show (fun i => (f (m + i) + k * g (m + i)) * A i j) = fun i => f (m + i) * A i j + k * (g (m + i) * A i j) from funext fun i => by rw [Int.add_mul, Int.mul_assoc], sm_lin, ← hf j hj, ← hg j hj]
theorem Qu.aug {n m : Nat} (A : Fam) {i : Nat} (hi : i < n) : Qu n m A (Z.aug m A i) := fun j hj => by
 rw [sm_congr (g := fun i' => if i' = i then A i' j else 0) fun i' hi' => ?_, sm_del hi]
 ·unfold Z.aug; rw [if_pos hj]
 ·unfold Z.aug
  rw [if_neg (show ¬ m + i' < m by omega)]
  by_cases e : i' = i
  ·rw [if_pos e, if_pos (by omega)]; omega
  ·rw [if_neg e, if_neg (by omega)]; omega
structure Cyc (c : List TCell) (k : Int) (n : Nat) (y : List TFace) : Prop where
 ch : Ch (cel c k) n y
 z : ∀ t, lin c (cf y) (fun j => cf (bO c j) t) = 0
theorem cel_sub {i : Int} (h : i ∈ cel c k) : i ∈ c.map TCell.ID := by
 obtain ⟨x, hx, _, e⟩ := cel_mem.1 h
 exact mem_ids.2 ⟨x, hx, e⟩
theorem cel_nd (h : VC n c) : (cel c k).Nodup := by
 have h1 : ((c.filter fun x => decide (x.Dim = k)).map TCell.ID).Pairwise (· < ·) := List.pairwise_map.2 (h.rise.filter _)
 exact h1.imp fun {a b} h => by omega
theorem gi_inj (h : VC n c) {i j : Nat} (hi : i < (cel c k).length) (hj : j < (cel c k).length) (e : gi (cel c k) i = gi (cel c k) j) : i = j := by
 obtain ⟨x, hx⟩ := lt_get hi
 obtain ⟨y, hy⟩ := lt_get hj
 rw [gi_at hx, gi_at hy] at e
 subst e
 exact (List.getElem?_inj hi (cel_nd h)).1 (hx.trans hy.symm)
theorem Of_ok (h : VC n c) {b : Nat} (hb : b + 2 ≤ 1000000) {f : Nat → Int} (hf : ∀ i, i < (cel c k).length → (f i).natAbs ≤ 2 ^ b) (ha : Ann (cel c k).length (cel c (k - 1)).length (bmat c k) f) :
  ∃ y, M.r26_Of c k (vr (cel c k).length f) = some y ∧ Cyc c k (b + 1) y := by
 have hl := h.len
 have l1 := cel_len c k
 have key : ∃ y, M.r26_Chain c k (vr (cel c k).length f) = some (y, 0) ∧ Gd y ∧ ∀ t, cf y t = sm (cel c k).length fun i => if gi (cel c k) i = t then f i else 0 := by
  unfold M.r26_Chain
  rw [Cells_ok (by omega), bnd_pure, vr_len, if_pos rfl]
  have hpt : ∀ i, i ≤ (cel c k).length → ∀ t, (sm i fun i => if gi (cel c k) i = t then f i else 0).natAbs < 2 ^ (b + 1) := fun i hi t => by
   by_cases e : ∃ j, j < i ∧ gi (cel c k) j = t
   ·obtain ⟨j, hj, rfl⟩ := e
    rw [sm_congr (g := fun i => if i = j then f i else 0) fun i' hi' => ?_, sm_del hj]
    ·have := hf j (by omega)
     rw [Nat.pow_succ]
     have := Nat.two_pow_pos b
     omega
    ·by_cases e : i' = j
     ·rw [if_pos e, if_pos (by rw [e])]
     ·rw [if_neg e, if_neg (fun e2 => e (gi_inj h (by omega) (by omega) e2))]
   ·rw [sm_zero fun j hj => if_neg fun e2 => e ⟨j, hj, e2⟩]
    exact Nat.two_pow_pos _
  obtain ⟨r, h1, y, h2⟩ := rngL_or (b := M.r26_Chain_b1 (cel c k)) (e := M.r26_Chain_k1) (l := vr (cel c k).length f) (s := ([] : List TFace)) (fun i v => Gd v ∧ v.length ≤ i ∧ ∀ t, cf v t = sm i fun i => if gi (cel c k) i = t then f i else 0)
   (fun r => ∃ y, r = (y, 0) ∧ Gd y ∧ ∀ t, cf y t = sm (cel c k).length fun i => if gi (cel c k) i = t then f i else 0) (by rw [vr_len]; omega) ⟨Gd.nil, Nat.zero_le _, fun t => rfl⟩
   (fun i x v hx hv => by
    obtain ⟨hg, hlen, hc⟩ := hv
    have hi : i < (cel c k).length := by have := (List.getElem?_eq_some_iff.1 hx).1; rw [vr_len] at this; exact this
    rw [vr_get hi] at hx
    obtain rfl := Option.some.inj hx
    obtain ⟨z, hz⟩ := lt_get hi
    have hbn : Bn (b + 1) v := Bn.of_cf hg fun t => by rw [hc t]; exact hpt i (by omega) t
    have hfi : (f i).natAbs < 2 ^ (b + 1) := by
     have := hf i hi
     have := Nat.two_pow_pos b
     rw [Nat.pow_succ]; omega
    have hgi := hg.insA (f := ⟨z, f i⟩)
    refine .inl ⟨insA ⟨z, f i⟩ v, ?_, hgi.1, ?_, fun t => ?_⟩
    ·unfold M.r26_Chain_b1
     dsimp only
     rw [nth_at hz, insert_ok hg (hbn.ft (by omega)) (ft_bits hfi (by omega)) (fun t ht => ft_bits (add_bits (hbn t ht) hfi) (by omega)) (by omega), bnd_pure]
    ·have := len_insA ⟨z, f i⟩ v; omega
    ·rw [hgi.2, hc, sm_succ, gi_at hz])
   (fun v hv => by
    rw [vr_len] at hv
    exact ⟨_, rfl, v, rfl, hv.1, hv.2.2⟩)
  obtain ⟨rfl, h3⟩ := h2
  exact ⟨y, h1, h3⟩
 obtain ⟨y, h1, hg, hc⟩ := key
 refine ⟨y, by unfold M.r26_Of; rw [h1, bnd_pure], ⟨hg, Bn.of_cf hg fun t => ?_, fun g hg2 => ?_⟩, fun t => ?_⟩
 ·rw [hc t]
  by_cases e : ∃ j, j < (cel c k).length ∧ gi (cel c k) j = t
  ·obtain ⟨j, hj, rfl⟩ := e
   rw [sm_congr (g := fun i => if i = j then f i else 0) fun i' hi' => ?_, sm_del hj]
   ·have := hf j (by omega)
    rw [Nat.pow_succ]
    have := Nat.two_pow_pos b
    omega
   ·by_cases e : i' = j
    ·rw [if_pos e, if_pos (by rw [e])]
    ·rw [if_neg e, if_neg (fun e2 => e (gi_inj h (by omega) (by omega) e2))]
  ·rw [sm_zero fun j hj => if_neg fun e2 => e ⟨j, hj, e2⟩]
   exact Nat.two_pow_pos _
 ·have h2 := hg.ne hg2
  rw [← hg.cf hg2, hc] at h2
  refine Decidable.byContradiction fun e => h2 (sm_zero fun j hj => if_neg fun e2 => e ?_)
  rw [← e2]; exact gi_mem hj
 ·have hlin : ∀ (i : Nat), i ≤ (cel c k).length → ∀ F : Int → Int, lin c (fun t => sm i fun i => if gi (cel c k) i = t then f i else 0) F = sm i fun i => f i * F (gi (cel c k) i) := by
   intro i
   induction i with
   | zero => intro _ F; exact lin_zero fun y _ => by simp [sm]
   | succ i ih =>
    intro hi F
    rw [show (fun t => sm (i + 1) fun i => if gi (cel c k) i = t then f i else 0) = fun t => (sm i fun i => if gi (cel c k) i = t then f i else 0) + (if gi (cel c k) i = t then f i else 0) from funext fun t => sm_succ .., lin_addG, ih (by omega), sm_succ, lin_one h.rise (cel_sub (gi_mem (by omega)))]
  rw [show cf y = fun t => sm (cel c k).length fun i => if gi (cel c k) i = t then f i else 0 from funext hc, hlin _ (Nat.le_refl _)]
  by_cases e : t ∈ cel c (k - 1)
  ·obtain ⟨j, hj⟩ := List.mem_iff_getElem?.1 e
   have := ha j (List.getElem?_eq_some_iff.1 hj).1
   unfold bmat at this
   rw [gi_at hj] at this
   exact this
  ·refine sm_zero fun i hi => ?_
   obtain ⟨x, hx, hd, e2⟩ := cel_mem.1 (gi_mem hi)
   rw [← e2, bO_at h.rise hx, cf_none fun g hg e3 => e ?_, Int.mul_zero]
   obtain ⟨w, hw, e4⟩ := mem_ids.1 ((h.ch x hx).2.2 g hg)
   exact cel_mem.2 ⟨w, hw, by rw [h.fdim x hx g hg w hw e4, hd], by omega⟩
end
end Go.Z
end
section
namespace Go.Z
open Eu
section
variable {c : List TCell} {n : Nat} {k : Int}
def lbc (N M b L : Nat) : Prop := bok N M b ∧ L < 999000 ∧ ∀ top, top ≤ N → top ≤ M → (bsq N b top).1 < 999000 ∧ (bsq N b top).2.1 < 999000 ∧ bok (N - top) N (bsq N b top).1 ∧ ∀ t, t ≤ N - top → t ≤ N → (bsq (N - top) (bsq N b top).1 t).1 < 999000 ∧ (bsq (N - top) (bsq N b top).1 t).2.1 ≤ L
theorem Cycles_ok (h : VC n c) (hk : 0 ≤ k ∧ k ≤ 10) {b L : Nat} (hb : ∀ x ∈ c, x.Dim = k → Bn b x.B) (hb0 : b ≤ 999000) (hL : lbc (cel c k).length (cel c (k - 1)).length b L) : ∃ ys, M.r26_Cycles c k = some ys ∧ ∀ y ∈ ys, Cyc c k (L + 1) y := by
 have hl := h.len
 have l1 := cel_len c k
 have l2 := cel_len c (k - 1)
 obtain ⟨g1, g2, g3⟩ := hL
 unfold M.r26_Cycles
 rw [if_neg (by omega), Boundary_ok h hk, bnd_pure]
 have hent : ∀ i, i < (cel c k).length → ∀ j, j < (cel c (k - 1)).length → (bmat c k i j).natAbs ≤ 2 ^ b := fun i hi j hj => by
  obtain ⟨x, hx, hd, e⟩ := cel_mem.1 (gi_mem hi)
  unfold bmat
  rw [← e, bO_at h.rise hx]
  exact Nat.le_of_lt ((hb x hx hd).cf _)
 obtain ⟨r, top, t, F, e1, h1, h2, h3, h4, rfl, h5, h6⟩ := Left_ok (Q := Qu (cel c k).length (cel c (k - 1)).length (bmat c k)) (P := Ann (cel c k).length (cel c (k - 1)).length (bmat c k)) (n := (cel c k).length) (m := (cel c (k - 1)).length) (b0 := b) (A := bmat c k) (Qu.lin _ _ _) (Ann.lin _ _ _) (by omega) (by omega) hb0 hent (fun i hi => Qu.aug _ hi) g1
  (fun top h1 h2 => ⟨(g3 top h1 h2).1, (g3 top h1 h2).2.1⟩) (fun top h1 h2 => ⟨(g3 top h1 h2).2.2.1, fun t h3 h4 => ⟨((g3 top h1 h2).2.2.2 t h3 h4).1, by have := ((g3 top h1 h2).2.2.2 t h3 h4).2; omega⟩⟩)
  (fun f hf h0 j hj => by rw [← hf j hj]; exact h0 j hj) (fun f g hfg hf j hj => by rw [← hf j hj]; exact (sm_congr fun i hi => by rw [hfg i hi]).symm)
 rw [e1, bnd_pure]
 have hL2 := ((g3 top h1 h2).2.2.2 r h3 h4).2
 refine rngN_or (fun i v => v.length ≤ i ∧ ∀ y ∈ v, Cyc c k (L + 1) y) _ (K := (r : Int)) (I := 0) (k := r) (i := 0) rfl rfl (by omega) (Nat.zero_le _) ⟨Nat.zero_le _, fun y hy => by cases hy⟩ (fun i v hi hv => .inl ?_) (fun v hv => ⟨v, rfl, hv.2⟩)
 obtain ⟨y, e2, hy⟩ := Of_ok (b := L) h (by omega) (f := F i) (fun j hj => le_pow (h6 i hi j hj) hL2) (h5 i hi)
 unfold M.r26_Cycles_b1
 dsimp only
 rw [nth_at (mx_get hi), e2, bnd_pure, app_at (by have := hv.1; simp; omega), bnd_pure]
 refine ⟨_, rfl, by have := hv.1; simp; omega, fun z hz => ?_⟩
 rcases List.mem_append.1 hz with hz | hz
 ·exact hv.2 z hz
 ·simp at hz; rw [hz]; exact hy
theorem Add26_ok {S : List Int} {m k' : Nat} {a b : List TFace} {κ : Int} (ha : Ch S n a) (hb : Ch S m b) (hk : κ.natAbs < 2 ^ k') (hn : max n (k' + m) + 2 ≤ 1000000) (hS : S.length ≤ 100000) : M.r26_Add a b κ = some (pl a b κ) := by
 have la := ha.len
 have lb := hb.len
 unfold M.r26_Add
 rw [rngL_fold (l := b) (fun (acc : List TFace) (t : TFace) => insA ⟨t.ID, κ * t.C⟩ acc) (by omega) (fun i t s ht hs => ?_) rfl]
 ·rfl
 ·have hm := List.mem_of_getElem? ht
  have hch : Ch S (max n (k' + m) + 1) s := by rw [hs]; exact ha.pl (hb.take i) hk
  have hc := mul_bits hk (hb.2.1 t hm)
  have hls := hch.len
  unfold M.r26_Add_b1
  dsimp only
  rw [imul_ok (ft_bits hk (by omega)) (hb.ft (by omega) t hm), bnd_pure, insert_ok hch.1 (hch.ft (by omega)) (ft_bits hc (by omega)) (fun u hu => ft_bits (add_bits (hch.2.1 u hu) hc) (by omega)) (by omega), bnd_pure]
theorem Cyc.nil (c : List TCell) (k : Int) (n : Nat) : Cyc c k n [] := ⟨Ch.nil _ _, fun t => lin_zero fun y _ => by simp [cf]⟩
theorem Cyc.add {m k' : Nat} {a y : List TFace} {κ : Int} (ha : Cyc c k n a) (hy : Cyc c k m y) (hk : κ.natAbs < 2 ^ k') : Cyc c k (max n (k' + m) + 1) (pl a y κ) := by
 refine ⟨ha.ch.pl hy.ch hk, fun t => ?_⟩
 rw [show cf (pl a y κ) = fun i => cf a i + κ * cf y i from funext (Gd.pl ha.ch.1 hy.ch.1).2, lin_addG, lin_mulG, ha.z, hy.z]; simp
theorem snoc_VC {d : Int} {t : Int} {y : List TFace} (h : VC n c) (hl : c.length ≤ 300) (hd : 0 ≤ d ∧ d ≤ 3) (ht : ∀ x ∈ c, x.ID < t) (hy : Cyc c (d - 1) n y) : VC n (c ++ [⟨t, d, y⟩]) := by
 have hno : ¬ t ∈ c.map TCell.ID := fun e => by
  obtain ⟨x, hx, e⟩ := mem_ids.1 e
  have := ht x hx; omega
 have hr : Rise TCell.ID (c ++ [⟨t, d, y⟩]) := by
  unfold Rise
  rw [List.pairwise_append]
  exact ⟨h.rise, List.pairwise_singleton _ _, fun x hx z hz => by simp at hz; subst hz; exact ht x hx⟩
 have hz : ∀ x ∈ c, cf x.B t = 0 := fun x hx => cf_none fun f hf e => hno (by rw [← e]; exact (h.ch x hx).2.2 f hf)
 have hzy : cf y t = 0 := cf_none fun f hf e => hno (by rw [← e]; exact cel_sub (hy.ch.2.2 f hf))
 have hB : ∀ z ∈ c, bO (c ++ [⟨t, d, y⟩]) z.ID = bO c z.ID := fun z hz => by
  rw [bO_at hr (List.mem_append_left _ hz), bO_at h.rise hz]
 have hlin : ∀ (g : Int → Int) (i : Int), g t = 0 → lin (c ++ [⟨t, d, y⟩]) g (fun j => cf (bO (c ++ [⟨t, d, y⟩]) j) i) = lin c g (fun j => cf (bO c j) i) := fun g i hg => by
  have e3 : lin c g (fun j => cf (bO (c ++ [⟨t, d, y⟩]) j) i) = lin c g (fun j => cf (bO c j) i) := lin_congr fun z hz => by rw [hB z hz]
  rw [← e3]
  unfold lin
  rw [List.map_append, List.sum_append]
  simp [hg]
 refine ⟨hr, by simp; omega, ?_, ?_, ?_, ?_⟩
 ·intro x hx
  rcases List.mem_append.1 hx with hx | hx
  ·exact (h.ch x hx).sub fun i hi => by simp at hi ⊢; exact .inl hi
  ·simp at hx; subst hx
   exact hy.ch.sub fun i hi => by have := cel_sub hi; simp at this ⊢; exact .inl this
 ·intro x hx
  rcases List.mem_append.1 hx with hx | hx
  ·exact h.dim x hx
  ·simp at hx; subst hx; exact hd
 ·intro x hx f hf z hz2 e
  rcases List.mem_append.1 hx with hx | hx
  ·rcases List.mem_append.1 hz2 with hz2 | hz2
   ·exact h.fdim x hx f hf z hz2 e
   ·simp at hz2; subst hz2
    exact absurd ((h.ch x hx).2.2 f hf) (by rw [← e]; exact hno)
  ·simp at hx; subst hx
   obtain ⟨w, hw, hwd, hwi⟩ := cel_mem.1 (hy.ch.2.2 f hf)
   rcases List.mem_append.1 hz2 with hz2 | hz2
   ·have h8 := fnd_at h.rise hz2 e
    rw [fnd_at h.rise hw hwi] at h8
    rw [← (Prod.mk.inj h8).1]; exact hwd
   ·simp at hz2; subst hz2
    exact absurd (cel_sub (hy.ch.2.2 f hf)) (by rw [← e]; exact hno)
 ·intro x hx i
  rcases List.mem_append.1 hx with hx | hx
  ·rw [hlin _ _ (hz x hx)]; exact h.bb x hx i
  ·simp at hx; subst hx
   rw [hlin _ _ hzy]; exact hy.z i
theorem tmod4 (x : Int) : -4 < Int.tmod x 4 ∧ Int.tmod x 4 < 4 := by
 have h1 := Int.tmod_lt_of_pos x (show (0 : Int) < 4 by decide)
 have h2 := Int.lt_tmod_of_pos x (show (0 : Int) < 4 by decide)
 exact ⟨by omega, h1⟩
theorem Grown_ok {x : Int × Int × Int × Int} (h : VC n c) (hl : c.length ≤ 300) {b L : Nat} (hid : ∀ y ∈ c, y.ID.natAbs ≤ 1000) (hn : L + 10 ≤ n) (hn2 : n ≤ 900000)
  (hL : Int.tmod (GoWrap.u8 x.1) 4 ≠ 0 → (∀ y ∈ c, y.Dim = Int.tmod (GoWrap.u8 x.1) 4 - 1 → Bn b y.B) ∧ b ≤ 999000 ∧ lbc (cel c (Int.tmod (GoWrap.u8 x.1) 4 - 1)).length (cel c (Int.tmod (GoWrap.u8 x.1) 4 - 1 - 1)).length b L) :
  ∃ t y, M.r26_Grown c x = some (c ++ [⟨t, Int.tmod (GoWrap.u8 x.1) 4, y⟩]) ∧ VC n (c ++ [⟨t, Int.tmod (GoWrap.u8 x.1) 4, y⟩]) ∧ Bn (L + 6) y ∧ (∃ z : Int, z.natAbs ≤ 1000 ∧ (z = 0 ∨ ∃ w ∈ c, z = w.ID) ∧ z < t ∧ t ≤ z + 2) ∧ (Int.tmod (GoWrap.u8 x.1) 4 = 0 → y = []) := by
 have hu : 0 ≤ GoWrap.u8 x.1 ∧ GoWrap.u8 x.1 < 256 := by unfold GoWrap.u8; omega
 have h4 := tmod4 (GoWrap.u8 x.1)
 have hd0 : 0 ≤ Int.tmod (GoWrap.u8 x.1) 4 := Int.tmod_nonneg 4 hu.1
 generalize hd : Int.tmod (GoWrap.u8 x.1) 4 = d at *
 have hcyc : ∃ ys, M.r26_Cycles c (d - 1) = some ys ∧ (∀ y ∈ ys, Cyc c (d - 1) (L + 1) y) ∧ (d = 0 → ys = []) := by
  by_cases e : d = 0
  ·refine ⟨[], ?_, fun y hy => (nomatch hy), fun _ => rfl⟩
   unfold M.r26_Cycles
   rw [if_pos (by omega)]
  ·obtain ⟨h1, h2, h3⟩ := hL e
   obtain ⟨ys, h5, h6⟩ := Cycles_ok h (k := d - 1) (by omega) h1 h2 h3
   exact ⟨ys, h5, h6, fun e2 => absurd e2 e⟩
 obtain ⟨ys, e1, hys, hys0⟩ := hcyc
 have hS : (cel c (d - 1)).length ≤ 100000 := by have := cel_len c (d - 1); omega
 unfold M.r26_Grown
 rw [hd, chk64_pos (by omega), chk64_pos (by omega), e1, bnd_pure]
 have key : ∃ r, loop (M.r26_Grown_b3 c x ys) ([], 0) = some r ∧ ∃ t y, r = c ++ [⟨t, d, y⟩] ∧ Cyc c (d - 1) (L + 6) y ∧ (∃ z : Int, z.natAbs ≤ 1000 ∧ (z = 0 ∨ ∃ w ∈ c, z = w.ID) ∧ z < t ∧ t ≤ z + 2) ∧ (∀ w ∈ c, w.ID < t) ∧ (d = 0 → y = []) := by
  refine loop_or (fun s => ∃ i : Nat, s.2 = (i : Int) ∧ i ≤ 3 ∧ Cyc c (d - 1) (L + 3 + i) s.1 ∧ (d = 0 → s.1 = [])) (fun s => 3 - s.2.toNat) _ ⟨0, rfl, by omega, Cyc.nil _ _ _, fun _ => rfl⟩ (by show 3 - 0 < _; omega) ?_
  rintro ⟨v, iv⟩ ⟨i, e2, hi, hv, hv0⟩
  dsimp only at e2 hv hv0
  subst e2
  have fin : ∃ r, M.r26_Grown_j2 c x ys v (i : Int) false = some (.inr r) ∧ ∃ t y, r = c ++ [⟨t, d, y⟩] ∧ Cyc c (d - 1) (L + 6) y ∧ (∃ z : Int, z.natAbs ≤ 1000 ∧ (z = 0 ∨ ∃ w ∈ c, z = w.ID) ∧ z < t ∧ t ≤ z + 2) ∧ (∀ w ∈ c, w.ID < t) ∧ (d = 0 → y = []) := by
   have hv6 : Cyc c (d - 1) (L + 6) v := ⟨hv.ch.mono (by omega), hv.z⟩
   have j1 : ∀ t, M.r26_Grown_j1 x v c t = some (c ++ [⟨t, d, v⟩]) := fun t => by
    unfold M.r26_Grown_j1
    rw [app_at (by simp; omega), bnd_pure, List.nil_append, app_at (by simp; omega), bnd_pure, hd]
   unfold M.r26_Grown_j2
   rw [if_neg (by decide)]
   by_cases hc : c = []
   ·subst hc
    rw [if_neg (by simp), j1]
    exact ⟨_, rfl, 1, v, rfl, hv6, ⟨0, by omega, .inl rfl, by omega, by omega⟩, fun w hw => (nomatch hw), hv0⟩
   ·have hpos := List.length_pos_iff.2 hc
    obtain ⟨q, hq⟩ : ∃ q, c.length = q + 1 := ⟨c.length - 1, by omega⟩
    obtain ⟨z, hz⟩ := lt_get (l := c) (i := q) (by omega)
    have hzm := List.mem_of_getElem? hz
    have hzi := hid z hzm
    have hlast : ∀ w ∈ c, w.ID ≤ z.ID := fun w hw => by
     obtain ⟨i, hi⟩ := List.mem_iff_getElem?.1 hw
     have h1 := (List.getElem?_eq_some_iff.1 hi).1
     rcases Nat.lt_or_eq_of_le (show i ≤ q by omega) with h2 | rfl
     ·have := h.rise.lt hi hz h2; omega
     ·rw [hz] at hi; rw [Option.some.inj hi]; exact Int.le_refl _
    have hdiv : 0 ≤ GoWrap.u8 (Int.tdiv (GoWrap.u8 x.1) 128) ∧ GoWrap.u8 (Int.tdiv (GoWrap.u8 x.1) 128) ≤ 1 := by
     rw [Int.tdiv_eq_ediv_of_nonneg hu.1]
     unfold GoWrap.u8 at hu ⊢; omega
    generalize GoWrap.u8 (Int.tdiv (GoWrap.u8 x.1) 128) = s at *
    rw [if_pos (by omega), chk64_pos (by omega), show (c.length : Int) - 1 = (q : Int) by omega, nth_at hz, chk64_pos (by omega), chk64_pos (by omega), chk64_pos (by omega), j1]
    exact ⟨_, rfl, z.ID + 1 + s, v, rfl, hv6, ⟨z.ID, hzi, .inr ⟨z, hzm, rfl⟩, by omega, by omega⟩, fun w hw => by have := hlast w hw; omega, hv0⟩
  unfold M.r26_Grown_b3
  dsimp only
  by_cases hlt : i < ys.length
  ·rw [if_pos (by omega)]
   by_cases h3 : i < 3
   ·refine .inl ?_
    obtain ⟨y, hy⟩ := lt_get hlt
    have hym := List.mem_of_getElem? hy
    rw [decide_eq_true (by omega)]
    unfold M.r26_Grown_j2
    obtain ⟨κ, hκ⟩ := lt_get (l := [x.1, x.2.1, x.2.2.1, x.2.2.2]) (i := i + 1) (by simp; omega)
    have hm4 := tmod4 κ
    rw [if_pos rfl, nth_at hy, chk64_pos (by omega), show (i : Int) + 1 = ((i + 1 : Nat) : Int) by simp, nth_at hκ, chk64_pos (by omega), iof_ok (by omega), bnd_pure,
     Add26_ok (S := cel c (d - 1)) (m := L + 1) (k' := 2) hv.ch (hys y hym).ch (by omega) (by omega) hS, bnd_pure]
    refine ⟨_, rfl, ⟨i + 1, rfl, by omega, ?_, fun e => ?_⟩, by show 3 - ((i + 1 : Nat) : Int).toNat < 3 - ((i : Nat) : Int).toNat; omega⟩
    ·have := hv.add (hys y hym) (κ := Int.tmod κ 4) (k' := 2) (by omega)
     exact ⟨this.ch.mono (by omega), this.z⟩
    ·rw [hys0 e] at hlt; simp at hlt
   ·rw [decide_eq_false (by omega)]; exact .inr fin
  ·rw [if_neg (by omega)]; exact .inr fin
 obtain ⟨r, h5, t, y, rfl, h6, h7, h8, h9⟩ := key
 exact ⟨t, y, h5, snoc_VC h hl (by omega) h8 ⟨h6.ch.mono (by omega), h6.z⟩, h6.ch.2.1, h7, h9⟩
end
end Go.Z
end
section
namespace Go.Z
open Eu
abbrev Stt := List Nat × List Nat
def bokB (n m b : Nat) : Bool := (List.range (min n m)).all fun t => decide ((bsq n b t).1 + (n - t - 1) * ((bsq n b t).1 + 4) + 2 * (bsq n b t).1 + (bsq n b t).2.1 + 20 ≤ 999000 ∧ (bsq n b t).2.2 + (n - t - 1) * ((bsq n b t).1 + 4) + 2 * (bsq n b t).1 + (bsq n b t).2.1 + n + 20 ≤ 999000)
theorem bokB_ok {n m b : Nat} (h : bokB n m b = true) : bok n m b := fun t h1 h2 =>
 of_decide_eq_true (List.all_eq_true.1 h t (List.mem_range.2 (by omega)))
def lbcB (N M b L : Nat) : Bool := bokB N M b && decide (L < 999000) && (List.range (min N M + 1)).all fun top => decide ((bsq N b top).1 < 999000) && decide ((bsq N b top).2.1 < 999000) && bokB (N - top) N (bsq N b top).1 &&
 (List.range (min (N - top) N + 1)).all fun t => decide ((bsq (N - top) (bsq N b top).1 t).1 < 999000) && decide ((bsq (N - top) (bsq N b top).1 t).2.1 ≤ L)
theorem lbcB_ok {N M b L : Nat} (h : lbcB N M b L = true) : lbc N M b L := by
 unfold lbcB at h
 rw [Bool.and_eq_true, Bool.and_eq_true] at h
 obtain ⟨⟨h1, h2⟩, h3⟩ := h
 refine ⟨bokB_ok h1, of_decide_eq_true h2, fun top h4 h5 => ?_⟩
 have h6 := List.all_eq_true.1 h3 top (List.mem_range.2 (by omega))
 rw [Bool.and_eq_true, Bool.and_eq_true, Bool.and_eq_true] at h6
 obtain ⟨⟨⟨h7, h8⟩, h9⟩, h10⟩ := h6
 refine ⟨of_decide_eq_true h7, of_decide_eq_true h8, bokB_ok h9, fun t h11 h12 => ?_⟩
 have h13 := List.all_eq_true.1 h10 t (List.mem_range.2 (by omega))
 rw [Bool.and_eq_true] at h13
 exact ⟨of_decide_eq_true h13.1, of_decide_eq_true h13.2⟩
def lbv (N M b : Nat) : Nat := ((List.range (min N M + 1)).map fun top => ((List.range (N - top + 1)).map fun t => (bsq (N - top) (bsq N b top).1 t).2.1).foldl max 0).foldl max 0
def cN (st : Stt) (d : Nat) : Nat := st.1.getD (d - 1) 0
def cM (st : Stt) (d : Nat) : Nat := if d ≤ 1 then 0 else st.1.getD (d - 2) 0
def cb (st : Stt) (d : Nat) : Nat := st.2.getD (d - 1) 0
def growSt (st : Stt) (d : Nat) : Stt := (st.1.set d (st.1.getD d 0 + 1), if d = 0 then st.2 else st.2.set d (max (st.2.getD d 0) (lbv (cN st d) (cM st d) (cb st d) + 6)))
def okSt (st : Stt) (d : Nat) : Bool := decide (d = 0) || (lbcB (cN st d) (cM st d) (cb st d) (lbv (cN st d) (cM st d) (cb st d)) && decide (lbv (cN st d) (cM st d) (cb st d) + 10 ≤ 160000) && decide (cb st d ≤ 999000))
def wst (st : Stt) : Nat := st.1.getD 0 0 * st.2.getD 0 0 + st.1.getD 1 0 * st.2.getD 1 0 + st.1.getD 2 0 * st.2.getD 2 0 + st.1.getD 3 0 * st.2.getD 3 0
def okSeq : Nat → Stt → Bool
 | 0, st => decide (wst st ≤ 310000)
 | k + 1, st => okSeq k st && [0, 1, 2, 3].all fun d => okSt st d && okSeq k (growSt st d)
theorem okSeq_w : ∀ {k : Nat} {st : Stt}, okSeq k st = true → wst st ≤ 310000
 | 0, _, h => of_decide_eq_true h
 | k + 1, st, h => by
  rw [okSeq, Bool.and_eq_true] at h
  exact okSeq_w h.1
def bw (x : TCell) : Nat := x.B.foldr (fun f m => max (Nat.log2 f.C.natAbs + 1) m) 0
def wt (c : List TCell) : Nat := (c.map bw).sum
theorem bw_Bn (x : TCell) : Bn (bw x) x.B := by
 unfold bw
 generalize x.B = l
 induction l with
 | nil => exact Bn.nil _
 | cons f l ih =>
  intro g hg
  rcases List.mem_cons.1 hg with rfl | hg
  ·refine lt_pow2 (n := Nat.log2 g.C.natAbs + 1) ?_ (Nat.le_max_left _ _)
   exact Nat.lt_log2_self
  ·exact lt_pow2 (ih g hg) (Nat.le_max_right _ _)
theorem bw_le {x : TCell} {b : Nat} (hb : 0 < b) (h : Bn b x.B) : bw x ≤ b := by
 unfold bw
 revert h
 generalize x.B = l
 intro h
 induction l with
 | nil => exact Nat.zero_le _
 | cons f l ih =>
  refine Nat.max_le.2 ⟨?_, ih fun g hg => h g (by simp [hg])⟩
  have h1 := h f (by simp)
  by_cases h0 : f.C.natAbs = 0
  ·rw [h0]; simp; omega
  ·have := (Nat.log2_lt h0).2 h1
   omega
structure Inv (c : List TCell) (u : Nat) (st : Stt) : Prop where
 vc : VC 160000 c
 len : c.length ≤ u
 id : ∀ y ∈ c, 0 ≤ y.ID ∧ y.ID ≤ (u : Int)
 l4 : st.1.length = 4 ∧ st.2.length = 4
 cnt : ∀ k : Nat, k < 4 → (cel c (k : Int)).length = st.1.getD k 0
 bit : ∀ x ∈ c, ∀ k : Nat, x.Dim = (k : Int) → Bn (st.2.getD k 0) x.B
theorem cel_neg {n : Nat} {c : List TCell} (h : VC n c) {k : Int} (hk : k < 0) : cel c k = [] := by
 unfold cel
 rw [List.filter_eq_nil_iff.2 fun x hx => by have := (h.dim x hx).1; simp; omega]; rfl
theorem Inv.grow {c : List TCell} {u : Nat} {st : Stt} (w : Inv c u st) (hu : u ≤ 100) {x : Int × Int × Int × Int} (hok : ∀ d : Nat, d < 4 → okSt st d = true) : ∃ c' d, d < 4 ∧ M.r26_Grown c x = some c' ∧ Inv c' (u + 2) (growSt st d) := by
 have hu8 : 0 ≤ GoWrap.u8 x.1 := by unfold GoWrap.u8; omega
 have h4 := tmod4 (GoWrap.u8 x.1)
 have hd0 : 0 ≤ Int.tmod (GoWrap.u8 x.1) 4 := Int.tmod_nonneg 4 hu8
 obtain ⟨d, hd⟩ : ∃ d : Nat, Int.tmod (GoWrap.u8 x.1) 4 = (d : Int) := ⟨(Int.tmod (GoWrap.u8 x.1) 4).toNat, by omega⟩
 have hd4 : d < 4 := by omega
 have hk := hok d hd4
 obtain ⟨L, hL, hLlt⟩ : ∃ L, (d ≠ 0 → L = lbv (cN st d) (cM st d) (cb st d)) ∧ L + 10 ≤ 160000 := by
  by_cases e : d = 0
  ·exact ⟨0, fun h => absurd e h, by omega⟩
  ·refine ⟨_, fun _ => rfl, ?_⟩
   unfold okSt at hk
   rw [Bool.or_eq_true, Bool.and_eq_true, Bool.and_eq_true] at hk
   rcases hk with hk | hk
   ·exact absurd (of_decide_eq_true hk) e
   ·exact of_decide_eq_true hk.1.2
 obtain ⟨t, y, e1, e2, e3, ⟨z, hz1, hz2, hz3, hz4⟩, e5⟩ := Grown_ok (x := x) (b := cb st d) (L := L) w.vc (by have := w.len; omega) (fun y hy => by have := w.id y hy; omega) hLlt (by omega) (fun hne => by
  rw [hd] at hne ⊢
  have e : d ≠ 0 := by omega
  unfold okSt at hk
  rw [Bool.or_eq_true, Bool.and_eq_true, Bool.and_eq_true] at hk
  rcases hk with hk | hk
  ·exact absurd (of_decide_eq_true hk) e
  ·have hc1 : (cel c ((d : Int) - 1)).length = cN st d := by
    rw [show (d : Int) - 1 = ((d - 1 : Nat) : Int) by omega]; exact w.cnt (d - 1) (by omega)
   have hc2 : (cel c ((d : Int) - 1 - 1)).length = cM st d := by
    unfold cM
    by_cases e2 : d ≤ 1
    ·rw [if_pos e2, cel_neg w.vc (by omega)]; rfl
    ·rw [if_neg e2, show (d : Int) - 1 - 1 = ((d - 2 : Nat) : Int) by omega]; exact w.cnt (d - 2) (by omega)
   rw [hc1, hc2, hL e]
   exact ⟨fun y hy hyd => w.bit y hy (d - 1) (by omega), of_decide_eq_true hk.2, lbcB_ok hk.1.1⟩)
 rw [hd] at e1 e2 e5
 refine ⟨_, d, hd4, e1, e2, ?_, ?_, ?_, ?_, ?_⟩
 ·have := w.len; simp; omega
 ·intro v hv
  rcases List.mem_append.1 hv with hv | hv
  ·have := w.id v hv; omega
  ·simp at hv; subst hv
   show 0 ≤ t ∧ t ≤ _
   rcases hz2 with rfl | ⟨q, hq, rfl⟩
   ·omega
   ·have := w.id q hq; omega
 ·have := w.l4
  unfold growSt
  refine ⟨by simpa using this.1, ?_⟩
  dsimp only
  split
  ·exact this.2
  ·simpa using this.2
 ·intro k hk4
  have := w.cnt k hk4
  have hl := w.l4
  unfold growSt
  dsimp only
  have hcel : (cel (c ++ [⟨t, (d : Int), y⟩]) (k : Int)).length = (cel c (k : Int)).length + if d = k then 1 else 0 := by
   unfold cel
   rw [List.filter_append, List.map_append, List.length_append]
   congr 1
   by_cases e : d = k
   ·rw [if_pos e, List.filter_cons_of_pos (by simp [e])]; rfl
   ·rw [if_neg e, List.filter_cons_of_neg (by simp; omega)]; rfl
  rw [hcel, this, List.getD_eq_getElem?_getD, List.getD_eq_getElem?_getD, List.getElem?_set]
  by_cases e : d = k
  ·subst e; simp [hl.1, hk4]
  ·rw [if_neg e, if_neg e]; rfl
 ·intro v hv k hvk
  have hl := w.l4
  have hge : ∀ j : Nat, st.2.getD j 0 ≤ (growSt st d).2.getD j 0 := fun j => by
   unfold growSt
   dsimp only
   split
   ·exact Nat.le_refl _
   ·rw [List.getD_eq_getElem?_getD, List.getD_eq_getElem?_getD, List.getElem?_set]
    by_cases e : d = j
    ·subst e
     by_cases e2 : d < st.2.length
     ·rw [if_pos rfl, if_pos e2]
      simp only [Option.getD_some, List.getD_eq_getElem?_getD]; exact Nat.le_max_left _ _
     ·rw [if_pos rfl, if_neg e2, List.getElem?_eq_none (by omega)]; exact Nat.le_refl _
    ·rw [if_neg e]; exact Nat.le_refl _
  rcases List.mem_append.1 hv with hv | hv
  ·exact (w.bit v hv k hvk).mono (hge k)
  ·simp at hv; subst hv
   have hkd : d = k := by simp at hvk; omega
   subst hkd
   by_cases e : d = 0
   ·rw [e5 (by omega)]; exact Bn.nil _
   ·refine e3.mono ?_
    unfold growSt
    dsimp only
    rw [if_neg e, List.getD_eq_getElem?_getD, List.getElem?_set, if_pos rfl, if_pos (by omega), hL e]
    exact Nat.le_max_right _ _
theorem Inv.wt {c : List TCell} {u : Nat} {st : Stt} (w : Inv c u st) : Z.wt c ≤ wst st + c.length := by
 have key : ∀ (l : List TCell), (∀ x ∈ l, (0 ≤ x.Dim ∧ x.Dim ≤ 3) ∧ ∀ k : Nat, x.Dim = (k : Int) → bw x ≤ st.2.getD k 0 + 1) →
   Z.wt l ≤ (cel l 0).length * st.2.getD 0 0 + (cel l 1).length * st.2.getD 1 0 + (cel l 2).length * st.2.getD 2 0 + (cel l 3).length * st.2.getD 3 0 + l.length := by
  intro l
  induction l with
  | nil => intro _; exact Nat.zero_le _
  | cons x l ih =>
   intro h
   have h1 := ih fun y hy => h y (by simp [hy])
   obtain ⟨hd, hb⟩ := h x (by simp)
   have hcel : ∀ k : Int, (cel (x :: l) k).length = (cel l k).length + if x.Dim = k then 1 else 0 := fun k => by
    unfold cel
    rw [List.filter_cons]
    by_cases e : x.Dim = k
    ·rw [if_pos e, if_pos (by simpa using e)]; simp
    ·rw [if_neg e, if_neg (by simpa using e)]; simp
   have hw : Z.wt (x :: l) = bw x + Z.wt l := by unfold Z.wt; simp
   rw [hw, hcel, hcel, hcel, hcel, List.length_cons]
   have : x.Dim = 0 ∨ x.Dim = 1 ∨ x.Dim = 2 ∨ x.Dim = 3 := by omega
   rcases this with e | e | e | e
   ·have := hb 0 e
    clear hb ih h
    generalize st.2.getD 0 0 = b0 at *
    generalize st.2.getD 1 0 = b1 at *
    generalize st.2.getD 2 0 = b2 at *
    generalize st.2.getD 3 0 = b3 at *
    rw [e]; simp [Nat.add_mul]; omega
   ·have := hb 1 e
    clear hb ih h
    generalize st.2.getD 0 0 = b0 at *
    generalize st.2.getD 1 0 = b1 at *
    generalize st.2.getD 2 0 = b2 at *
    generalize st.2.getD 3 0 = b3 at *
    rw [e]; simp [Nat.add_mul]; omega
   ·have := hb 2 e
    clear hb ih h
    generalize st.2.getD 0 0 = b0 at *
    generalize st.2.getD 1 0 = b1 at *
    generalize st.2.getD 2 0 = b2 at *
    generalize st.2.getD 3 0 = b3 at *
    rw [e]; simp [Nat.add_mul]; omega
   ·have := hb 3 e
    clear hb ih h
    generalize st.2.getD 0 0 = b0 at *
    generalize st.2.getD 1 0 = b1 at *
    generalize st.2.getD 2 0 = b2 at *
    generalize st.2.getD 3 0 = b3 at *
    rw [e]; simp [Nat.add_mul]; omega
 have h := key c fun x hx => ⟨w.vc.dim x hx, fun k hk => bw_le (by omega) ((w.bit x hx k hk).mono (by omega))⟩
 have c0 := w.cnt 0 (by omega)
 have c1 := w.cnt 1 (by omega)
 have c2 := w.cnt 2 (by omega)
 have c3 := w.cnt 3 (by omega)
 unfold wst
 rw [← c0, ← c1, ← c2, ← c3]
 exact h
theorem okSeq_step {k : Nat} {st : Stt} (h : okSeq (k + 1) st = true) : (∀ d : Nat, d < 4 → okSt st d = true) ∧ ∀ d : Nat, d < 4 → okSeq k (growSt st d) = true := by
 rw [okSeq, Bool.and_eq_true] at h
 have h1 : ∀ d : Nat, d < 4 → okSt st d = true ∧ okSeq k (growSt st d) = true := fun d hd => by
  have := List.all_eq_true.1 h.2 d (by simp; omega)
  rwa [Bool.and_eq_true] at this
 exact ⟨fun d hd => (h1 d hd).1, fun d hd => (h1 d hd).2⟩
theorem Made_loop {x : R26Raw} {c : List TCell} {st : Stt} (w : Inv c 20 st) (hok : okSeq 4 st = true) : ∃ c', loop (M.r26_Made_b2 x) (c, 0) = some c' ∧ VC 160000 c' ∧ c'.length ≤ 30 ∧ (∀ y ∈ c', 0 ≤ y.ID ∧ y.ID ≤ 30) ∧ wt c' ≤ 310030 := by
 refine loop_or (fun s => ∃ (i : Nat) (st : Stt), s.2 = (i : Int) ∧ i ≤ 4 ∧ Inv s.1 (20 + 2 * i) st ∧ okSeq (4 - i) st = true) (fun s => 4 - s.2.toNat) _ ⟨0, st, rfl, by omega, w, hok⟩ (by show 4 - 0 < _; omega) ?_
 rintro ⟨v, iv⟩ ⟨i, st, e2, hi, hv, ho⟩
 dsimp only at e2 hv
 subst e2
 have fin : ∃ r, M.r26_Made_j1 x v (i : Int) false = some (.inr r) ∧ VC 160000 r ∧ r.length ≤ 30 ∧ (∀ y ∈ r, 0 ≤ y.ID ∧ y.ID ≤ 30) ∧ wt r ≤ 310030 := by
  refine ⟨v, rfl, hv.vc, by have := hv.len; omega, fun y hy => ?_, ?_⟩
  ·have := hv.id y hy; omega
  ·have h1 := hv.wt; have h2 := okSeq_w ho; have := hv.len; omega
 unfold M.r26_Made_b2
 dsimp only
 by_cases hlt : i < x.L.length
 ·rw [if_pos (by omega)]
  by_cases h4 : i < 4
  ·rw [decide_eq_true (by omega)]
   refine .inl ?_
   obtain ⟨y, hy⟩ := lt_get hlt
   obtain ⟨j, hj⟩ : ∃ j, 4 - i = j + 1 := ⟨3 - i, by omega⟩
   rw [hj] at ho
   obtain ⟨h1, h2⟩ := okSeq_step ho
   obtain ⟨c', d, hd, e3, e4⟩ := hv.grow (by omega) (x := (y.1, y.2.1, y.2.2.1, y.2.2.2)) h1
   unfold M.r26_Made_j1
   rw [if_pos rfl, nth_at hy, e3, bnd_pure, chk64_pos (by omega)]
   exact ⟨_, rfl, ⟨i + 1, growSt st d, by simp, by omega, e4, by rw [show 4 - (i + 1) = j by omega]; exact h2 d hd⟩, by show 4 - ((i : Int) + 1).toNat < 4 - ((i : Nat) : Int).toNat; omega⟩
  ·rw [decide_eq_false (by omega)]; exact .inr fin
 ·rw [if_neg (by omega)]; exact .inr fin
instance decSo : ∀ (x : Int) (l : List TFace), Decidable (so x l)
 | _, [] => inferInstanceAs (Decidable True)
 | x, f :: l => by
  unfold so
  have := decSo f.ID l
  exact inferInstance
def VCs (c : List TCell) (st : Stt) : Prop := (c.map TCell.ID).Pairwise (· < ·) ∧ c.length ≤ 20 ∧ (∀ x ∈ c, so (-1) x.B ∧ (∀ f ∈ x.B, f.C.natAbs < 2 ^ (st.2.getD x.Dim.toNat 0)) ∧ st.2.getD x.Dim.toNat 0 ≤ 3 ∧ (∀ f ∈ x.B, f.ID ∈ c.map TCell.ID) ∧ (0 ≤ x.Dim ∧ x.Dim ≤ 3) ∧ 0 ≤ x.ID ∧ x.ID ≤ 20) ∧
 (∀ x ∈ c, ∀ f ∈ x.B, ∀ y ∈ c, y.ID = f.ID → y.Dim = x.Dim - 1) ∧ (∀ x ∈ c, ∀ y ∈ c, lin c (cf x.B) (fun j => cf (bO c j) y.ID) = 0) ∧ (st.1.length = 4 ∧ st.2.length = 4) ∧ (cel c 0).length = st.1.getD 0 0 ∧ (cel c 1).length = st.1.getD 1 0 ∧ (cel c 2).length = st.1.getD 2 0 ∧ (cel c 3).length = st.1.getD 3 0
instance (c : List TCell) (st : Stt) : Decidable (VCs c st) := by unfold VCs; exact inferInstance
theorem VCs.inv {c : List TCell} {st : Stt} (h : VCs c st) : Inv c 20 st := by
 obtain ⟨h1, h2, h3, h4, h5, h6, h7, h8, h9, h10⟩ := h
 have hr : Rise TCell.ID c := List.pairwise_map.1 h1
 have hch : ∀ x ∈ c, Ch (c.map TCell.ID) 160000 x.B := fun x hx => by
  obtain ⟨a1, a2, a3, a4, _⟩ := h3 x hx
  exact ⟨⟨_, a1⟩, fun f hf => lt_pow2 (m := 160000) (a2 f hf) (by omega), a4⟩
 have hz : ∀ j t, ¬ t ∈ c.map TCell.ID → cf (bO c j) t = 0 := fun j t ht => by
  by_cases e : j ∈ c.map TCell.ID
  ·obtain ⟨y, hy, rfl⟩ := mem_ids.1 e
   rw [bO_at hr hy]
   exact cf_none fun f hf e2 => ht (by rw [← e2]; exact (hch y hy).2.2 f hf)
  ·unfold bO; rw [fnd_no e]; rfl
 refine ⟨⟨hr, by omega, hch, fun x hx => (h3 x hx).2.2.2.2.1, h4, fun x hx i => ?_⟩, h2, fun x hx => (h3 x hx).2.2.2.2.2, h6, ?_, fun x hx k hk => ?_⟩
 ·by_cases e : i ∈ c.map TCell.ID
  ·obtain ⟨y, hy, rfl⟩ := mem_ids.1 e
   exact h5 x hx y hy
  ·exact lin_zero fun y _ => by rw [hz _ _ e, Int.mul_zero]
 ·intro k hk
  match k, hk with
  | 0, _ => exact h7
  | 1, _ => exact h8
  | 2, _ => exact h9
  | 3, _ => exact h10
 ·have := (h3 x hx).2.1
  rw [hk] at this
  exact this
def spaces : List (List TCell × Stt) := [
 ([], ([0, 0, 0, 0], [1, 1, 3, 1])),
 ([⟨1, 0, []⟩], ([1, 0, 0, 0], [1, 1, 3, 1])),
 ([⟨1, 0, []⟩, ⟨7, 0, []⟩], ([2, 0, 0, 0], [1, 1, 3, 1])),
 ([⟨1, 0, []⟩, ⟨2, 0, []⟩, ⟨3, 1, [⟨1, -1⟩, ⟨2, 1⟩]⟩], ([2, 1, 0, 0], [1, 1, 3, 1])),
 ([⟨1, 0, []⟩, ⟨2, 1, []⟩], ([1, 1, 0, 0], [1, 1, 3, 1])),
 ([⟨1, 0, []⟩, ⟨2, 0, []⟩, ⟨3, 0, []⟩, ⟨4, 1, [⟨1, -1⟩, ⟨2, 1⟩]⟩, ⟨5, 1, [⟨2, -1⟩, ⟨3, 1⟩]⟩, ⟨6, 1, [⟨1, 1⟩, ⟨3, -1⟩]⟩], ([3, 3, 0, 0], [1, 1, 3, 1])),
 ([⟨1, 0, []⟩, ⟨2, 0, []⟩, ⟨3, 0, []⟩, ⟨4, 1, [⟨1, -1⟩, ⟨2, 1⟩]⟩, ⟨5, 1, [⟨2, -1⟩, ⟨3, 1⟩]⟩, ⟨6, 1, [⟨1, 1⟩, ⟨3, -1⟩]⟩, ⟨9, 2, [⟨4, 1⟩, ⟨5, 1⟩, ⟨6, 1⟩]⟩], ([3, 3, 1, 0], [1, 1, 3, 1])),
 ([⟨1, 0, []⟩, ⟨2, 2, []⟩], ([1, 0, 1, 0], [1, 1, 3, 1])),
 ([⟨1, 0, []⟩, ⟨2, 1, []⟩, ⟨3, 1, []⟩, ⟨4, 2, []⟩], ([1, 2, 1, 0], [1, 1, 3, 1])),
 ([⟨1, 0, []⟩, ⟨2, 1, []⟩, ⟨3, 2, [⟨2, 2⟩]⟩], ([1, 1, 1, 0], [1, 1, 3, 1])),
 ([⟨1, 0, []⟩, ⟨2, 1, []⟩, ⟨3, 1, []⟩, ⟨4, 2, [⟨2, 2⟩]⟩], ([1, 2, 1, 0], [1, 1, 3, 1])),
 ([⟨1, 0, []⟩, ⟨2, 1, []⟩, ⟨3, 2, [⟨2, 3⟩]⟩, ⟨4, 3, []⟩], ([1, 1, 1, 1], [1, 1, 3, 1])),
 ([⟨1, 0, []⟩, ⟨2, 1, []⟩, ⟨3, 2, [⟨2, 4⟩]⟩, ⟨4, 2, [⟨2, 6⟩]⟩], ([1, 1, 2, 0], [1, 1, 3, 1])),
 ([⟨1, 0, []⟩, ⟨2, 1, []⟩, ⟨3, 0, []⟩, ⟨5, 1, []⟩, ⟨6, 2, [⟨5, 2⟩]⟩], ([2, 2, 1, 0], [1, 1, 3, 1]))]
theorem spaces_ok : ∀ p ∈ spaces, VCs p.1 p.2 := by decide +kernel
end Go.Z
end
section
namespace Go.Z
theorem okSeq_spaces : ∀ p ∈ spaces, okSeq 4 p.2 = true := by decide +kernel
theorem Space_mod (x : Int) : M.r26_Space x = M.r26_Space (Int.tmod x 14) := by
 unfold M.r26_Space
 rw [show Int.tmod (Int.tmod x 14) 14 = Int.tmod x 14 from Int.tmod_tmod _ _]
theorem Space_ok (x : Int) : ∃ p ∈ spaces, M.r26_Space x = some p.1 := by
 rw [Space_mod]
 have h1 := Int.tmod_lt_of_pos x (show (0 : Int) < 14 by decide)
 have h2 := Int.lt_tmod_of_pos x (show (0 : Int) < 14 by decide)
 have key : ∀ k : Fin 27, ∃ p ∈ spaces, M.r26_Space ((k.val : Int) - 13) = some p.1 := by
  intro k
  have : (spaces.any fun p => match M.r26_Space ((k.val : Int) - 13) with | some c => decide (c = p.1) | none => false) = true := by
   revert k; decide +kernel
  obtain ⟨p, hp, h3⟩ := List.any_eq_true.1 this
  refine ⟨p, hp, ?_⟩
  split at h3
  ·rename_i c e
   rw [e, of_decide_eq_true h3]
  ·cases h3
 generalize Int.tmod x 14 = k at *
 obtain ⟨j, hj⟩ : ∃ j : Fin 27, k = (j.val : Int) - 13 := ⟨⟨(k + 13).toNat, by omega⟩, by show k = (((k + 13).toNat : Nat) : Int) - 13; omega⟩
 rw [hj]
 exact key j
theorem Made_ok (x : R26Raw) : ∃ c, M.r26_Made x = some c ∧ VC 160000 c ∧ c.length ≤ 30 ∧ (∀ y ∈ c, 0 ≤ y.ID ∧ y.ID ≤ 30) ∧ wt c ≤ 310030 := by
 obtain ⟨p, hp, h1⟩ := Space_ok x.S
 obtain ⟨c, h2, h3⟩ := Made_loop (x := x) (spaces_ok p hp).inv (okSeq_spaces p hp)
 exact ⟨c, by unfold M.r26_Made; rw [h1, bnd_pure]; exact h2, h3⟩
end Go.Z
end
section
namespace Go.Z
def us (c : List TCell) (i : Int) : Nat := (c.filter fun x => decide (cf x.B i ≠ 0)).length
theorem us_snoc (c : List TCell) (x : TCell) (i : Int) : us (c ++ [x]) i = us c i + if cf x.B i ≠ 0 then 1 else 0 := by
 unfold us
 rw [List.filter_append, List.length_append]
 by_cases h : cf x.B i ≠ 0
 ·rw [if_pos h, List.filter_cons_of_pos (by simpa using h)]; rfl
 ·rw [if_neg h, List.filter_cons_of_neg (by simpa using h)]; rfl
theorem us_take {c : List TCell} {i : Nat} {x : TCell} (hx : c[i]? = some x) (k : Int) : us (c.take (i + 1)) k = us (c.take i) k + if cf x.B k ≠ 0 then 1 else 0 := by
 rw [List.take_add_one, hx]; exact us_snoc _ _ _
theorem us_zero {c : List TCell} {i : Int} : us c i = 0 ↔ ∀ x ∈ c, cf x.B i = 0 := by
 unfold us
 rw [List.length_eq_zero_iff, List.filter_eq_nil_iff]
 constructor
 ·intro h x hx
  have := h x hx
  simpa using this
 ·intro h x hx
  simp [h x hx]
theorem us_le (c : List TCell) (i : Int) : us c i ≤ c.length := List.length_filter_le _ _
theorem KM.put {m : List (Int × Int)} {g : Int → Int} (w : KM m g) {i : Int} (h : g i + 1 ≠ 0) : KM (mput m i (g i + 1)) fun k => g k + if i = k then 1 else 0 := by
 refine ⟨nd_mput w.1, fun k => ?_⟩
 rw [mfind_mput, w.2 k]
 by_cases e : k = i
 ·subst e; simp [h]
 ·have e' : ¬ i = k := fun q => e q.symm
  simp [e, e']
section
variable {c : List TCell} {n : Nat}
theorem uses_ok (h : VC n c) : ∃ m, M.merge_uses c = some m ∧ KM m fun k => (us c k : Int) := by
 have hl := h.len
 unfold M.merge_uses
 refine rngL_or (fun i m => KM m fun k => (us (c.take i) k : Int)) _ (by omega) ⟨by simp, fun k => by simp [mfind, us]⟩ (fun i x m hx hm => .inl ?_) (fun m hm => ⟨m, rfl, by rwa [List.take_of_length_le (Nat.le_refl _)] at hm⟩)
 have hi := (List.getElem?_eq_some_iff.1 hx).1
 have hch := h.ch x (List.mem_of_getElem? hx)
 have hlB := hch.len
 rw [List.length_map] at hlB
 unfold M.merge_uses_b2
 dsimp only
 obtain ⟨r, h1, m', rfl, h2⟩ := rngL_or (b := M.merge_uses_b1) (e := M.merge_uses_k1) (l := x.B) (s := m) (fun j m => KM m fun k => (us (c.take i) k : Int) + if cf (x.B.take j) k ≠ 0 then 1 else 0) (fun r => ∃ m', r = Sum.inl m' ∧ KM m' fun k => (us (c.take (i + 1)) k : Int)) (by omega)
  (by
   rw [show (fun k => (us (c.take i) k : Int) + if cf (x.B.take 0) k ≠ 0 then 1 else 0) = fun k => (us (c.take i) k : Int) from funext fun k => by simp [cf]]
   exact hm)
  (fun j t m ht hm => .inl (by
   have e0 : cf (x.B.take j) t.ID = 0 := by
    obtain ⟨z, s⟩ := hch.1
    refine cf_none fun f hf e => ?_
    rw [show x.B = x.B.take j ++ (t :: x.B.drop (j + 1)) by rw [← drop_cons ht, List.take_append_drop]] at s
    have := so_app s f hf t (by simp)
    omega
   have hb : us (c.take i) t.ID ≤ 400 := by have := us_le (c.take i) t.ID; simp at this; omega
   have hg := hm.get t.ID
   rw [e0, if_neg (by simp), Int.add_zero] at hg
   have hp := hm.put (i := t.ID) (by rw [e0]; simp; omega)
   rw [e0, if_neg (by simp), Int.add_zero] at hp
   unfold M.merge_uses_b1
   dsimp only
   rw [hg, chk64_pos (by omega)]
   refine ⟨_, rfl, ?_⟩
   rw [show (fun k => (us (c.take i) k : Int) + if cf (x.B.take (j + 1)) k ≠ 0 then 1 else 0) = fun k => ((us (c.take i) k : Int) + if cf (x.B.take j) k ≠ 0 then 1 else 0) + if t.ID = k then 1 else 0 from funext fun k => by
    have htC := hch.1.ne (List.mem_of_getElem? ht)
    rw [cf_take hch.1 ht]
    by_cases e : t.ID = k
    ·subst e; rw [e0]; simp [htC]
    ·simp [e]]
   exact hp))
  (fun m hm => ⟨_, rfl, m, rfl, by
   rw [List.take_of_length_le (Nat.le_refl _)] at hm
   rw [show (fun k => (us (c.take (i + 1)) k : Int)) = fun k => (us (c.take i) k : Int) + if cf x.B k ≠ 0 then 1 else 0 from funext fun k => by
    rw [us_take hx]; split <;> simp]
   exact hm⟩)
 exact ⟨m', h1, h2⟩
theorem mem_find {m : List (Int × Int)} (hn : (m.map (·.1)).Nodup) {k a : Int} : (k, a) ∈ m ↔ mfind m k = some a := by
 induction m with
 | nil => simp [mfind]
 | cons p m ih =>
  obtain ⟨q, b⟩ := p
  rw [List.map_cons, List.nodup_cons] at hn
  rw [mfind, List.mem_cons, ih hn.2]
  by_cases e : k = q
  ·subst e
   rw [if_pos rfl]
   constructor
   ·rintro (h | h)
    ·rw [(Prod.mk.inj h).2]
    ·exact absurd (mfind_mem.1 (by rw [h]; simp)) hn.1
   ·intro h; left; rw [Option.some.inj h]
  ·rw [if_neg e]
   constructor
   ·rintro (h | h)
    ·exact absurd (Prod.mk.inj h).1 e
    ·exact h
   ·exact .inr
theorem once_ok {m : List (Int × Int)} (w : KM m fun k => (us c k : Int)) (k : Int) : mget (M.onceOf m) k false = decide (us c k = 1) := by
 have h1 := mfind_once m k
 have h2 : (k, (1 : Int)) ∈ m ↔ us c k = 1 := by
  rw [mem_find w.1, w.2 k]
  by_cases e : (us c k : Int) = 0
  ·rw [if_pos e]; simp; omega
  ·rw [if_neg e]; simp; omega
 unfold mget
 by_cases e : us c k = 1
 ·rw [h1.1 (h2.2 e), decide_eq_true e]; rfl
 ·rw [h1.2 (fun e2 => e (h2.1 e2)), decide_eq_false e]; rfl
def frb (c : List TCell) (f : TFace) : Bool := decide (us c f.ID = 1 ∧ f.C.natAbs = 1)
def frx (c : List TCell) (x : TCell) : List (Int × Int) := if 0 < us c x.ID then [] else (x.B.filter (frb c)).map fun f => (x.ID, f.ID)
def fre (c : List TCell) : List (Int × Int) := c.flatMap (frx c)
theorem frx_len (x : TCell) : (frx c x).length ≤ x.B.length := by
 unfold frx
 split
 ·exact Nat.zero_le _
 ·rw [List.length_map]; exact List.length_filter_le _ _
theorem VC.lenB (h : VC n c) {x : TCell} (hx : x ∈ c) : x.B.length ≤ 400 := by
 have := (h.ch x hx).len; rw [List.length_map] at this; have := h.len; omega
theorem flat_take {c d : List TCell} {i : Nat} {x : TCell} (hx : d[i]? = some x) : (d.take (i + 1)).flatMap (frx c) = (d.take i).flatMap (frx c) ++ frx c x := by
 rw [List.take_add_one, hx, List.flatMap_append]; simp
theorem flatF_len (h : VC n c) (i : Nat) : ((c.take i).flatMap (frx c)).length ≤ 400 * 400 := by
 have key : ∀ l : List TCell, (∀ x ∈ l, x ∈ c) → (l.flatMap (frx c)).length ≤ 400 * l.length := by
  intro l
  induction l with
  | nil => intro _; simp
  | cons x l ih =>
   intro hl
   have h1 := ih fun y hy => hl y (by simp [hy])
   have h2 := frx_len (c := c) x
   have h3 := h.lenB (hl x (by simp))
   rw [List.flatMap_cons, List.length_append, List.length_cons]; omega
 have := key (c.take i) fun x hx => List.mem_of_mem_take hx
 have h2 := h.len
 have h3 : (c.take i).length ≤ 400 := by simp; omega
 exact Nat.le_trans this (Nat.mul_le_mul_left _ h3)
theorem filt_take {α : Type} {p : α → Bool} {l : List α} {i : Nat} {x : α} (hx : l[i]? = some x) : (l.take (i + 1)).filter p = (l.take i).filter p ++ if p x = true then [x] else [] := by
 rw [List.take_add_one, hx, List.filter_append]
 simp only [Option.toList_some, List.filter_cons, List.filter_nil]
theorem icmp_ok {x y : Int} (hx : Ft x) (hy : Ft y) : M.icmp x y = some (if x < y then -1 else if y < x then 1 else 0) := if_pos ⟨hx, hy⟩
theorem iabs_ok {x : Int} (hx : Ft x) : M.iabs x = some (x.natAbs : Int) := if_pos hx
theorem ft1 : Ft 1 := ft_one
theorem Free_ok (h : VC n c) (hn : n ≤ 1000000) : M.merge_Free c = some (fre c) := by
 have hl := h.len
 obtain ⟨m, e1, w⟩ := uses_ok h
 unfold M.merge_Free
 rw [e1, bnd_pure]
 refine rngL_eq (fun i v => v = (c.take i).flatMap (frx c)) _ (by omega) rfl (fun i x v hx hv => .inl ?_) (fun v hv => by
  rw [List.take_of_length_le (Nat.le_refl _)] at hv; rw [hv]; rfl)
 subst hv
 have hm := List.mem_of_getElem? hx
 have hch := h.ch x hm
 have hlB := h.lenB hm
 have hfl := flatF_len h i
 rw [flat_take hx]
 unfold M.merge_Free_b3
 dsimp only
 rw [w.get, show frx c x = if 0 < us c x.ID then [] else (x.B.filter (frb c)).map fun f => (x.ID, f.ID) from rfl]
 by_cases hu : 0 < us c x.ID
 ·rw [if_pos (by omega), if_pos hu]; exact ⟨_, rfl, by simp⟩
 ·rw [if_neg (by omega), if_neg hu]
  refine ⟨_, ?_, rfl⟩
  refine rngL_eq (fun j v => v = (c.take i).flatMap (frx c) ++ ((x.B.take j).filter (frb c)).map fun f => (x.ID, f.ID)) _ (by omega) (by simp) (fun j t v ht hv => .inl ?_) (fun v hv => by
   rw [List.take_of_length_le (Nat.le_refl _)] at hv; rw [hv]; rfl)
  subst hv
  have htm := List.mem_of_getElem? ht
  have ft := hch.ft hn t htm
  have hlen : (((x.B.take j).filter (frb c)).map fun f => (x.ID, f.ID)).length ≤ 400 := by
   rw [List.length_map]; exact Nat.le_trans (List.length_filter_le _ _) (by simp; omega)
  rw [filt_take ht]
  unfold M.merge_Free_b2
  dsimp only
  rw [once_ok w]
  have app1 : app ((c.take i).flatMap (frx c) ++ ((x.B.take j).filter (frb c)).map fun f => (x.ID, f.ID)) [(x.ID, t.ID)] = some ((c.take i).flatMap (frx c) ++ (((x.B.take j).filter (frb c)).map fun f => (x.ID, f.ID)) ++ [(x.ID, t.ID)]) := app_at (by rw [List.length_append]; simp only [List.length_cons, List.length_nil]; omega)
  by_cases hu1 : us c t.ID = 1
  ·rw [if_pos (decide_eq_true hu1), iabs_ok ft, bnd_pure, iof_ok (by decide), bnd_pure, icmp_ok (show Ft ((t.C.natAbs : Nat) : Int) from ft) ft1, bnd_pure]
   unfold M.merge_Free_j1
   by_cases h1 : t.C.natAbs = 1
   ·rw [if_pos (by simp [h1]), app1, bnd_pure, if_pos (show frb c t = true from decide_eq_true ⟨hu1, h1⟩)]
    exact ⟨_, rfl, by simp⟩
   ·rw [if_neg (by
     simp only [decide_eq_true_eq]
     split
     ·decide
     ·rename_i h2
      split
      ·decide
      ·omega), if_neg (show ¬ frb c t = true from fun e => h1 (of_decide_eq_true e).2)]
    exact ⟨_, rfl, by simp⟩
  ·rw [if_neg (by simpa using hu1)]
   unfold M.merge_Free_j1
   rw [if_neg (by decide), if_neg (show ¬ frb c t = true from fun e => hu1 (of_decide_eq_true e).1)]
   exact ⟨_, rfl, by simp⟩
end
end Go.Z
end
section
namespace Go.Z
def colZ (c : List TCell) (a b : Int) : List TFace := pl [] (pl (bO c a) [⟨b, 1⟩] (-(cf (bO c a) b))) (-(cf (bO c a) b))
def colC (c : List TCell) (a b : Int) : List TCell := c.filter fun x => !decide (x.ID ∈ [a, b])
def colM (c : List TCell) (a b : Int) : List TImage := c.map (itf (mput (mput [] a []) b (colZ c a b)))
def col (c : List TCell) (a b : Int) : List TCell × List TImage × Int :=
 if (fnd c a).2 = true ∧ (fnd c b).2 = true then (if (a, b) ∈ fre c then (colC c a b, colM c a b, 0) else ([], [], 310)) else ([], [], 250)
section
variable {c : List TCell} {n : Nat} {a b : Int}
def FreeP (c : List TCell) (a b : Int) : Prop := us c b = 1 ∧ us c a = 0 ∧ (cf (bO c a) b).natAbs = 1
theorem mem_fre (h : VC n c) : (a, b) ∈ fre c ↔ a ∈ c.map TCell.ID ∧ FreeP c a b := by
 unfold fre
 rw [List.mem_flatMap]
 constructor
 ·rintro ⟨x, hx, h1⟩
  unfold frx at h1
  split at h1
  ·cases h1
  ·obtain ⟨f, hf, e⟩ := List.mem_map.1 h1
   obtain ⟨hf1, hf2⟩ := List.mem_filter.1 hf
   obtain ⟨rfl, rfl⟩ := Prod.mk.inj e
   have h3 := of_decide_eq_true hf2
   refine ⟨mem_ids.2 ⟨x, hx, rfl⟩, h3.1, by omega, ?_⟩
   rw [bO_at h.rise hx, (h.ch x hx).1.cf hf1]; exact h3.2
 ·rintro ⟨ha, h1, h2, h3⟩
  obtain ⟨x, hx, rfl⟩ := mem_ids.1 ha
  refine ⟨x, hx, ?_⟩
  rw [bO_at h.rise hx] at h3
  obtain ⟨f, hf, e1, e2⟩ := cf_ne (l := x.B) (c := b) (by omega)
  unfold frx
  rw [if_neg (by omega)]
  exact List.mem_map.2 ⟨f, List.mem_filter.2 ⟨hf, decide_eq_true ⟨by rw [e1]; exact h1, by rw [e2]; exact h3⟩⟩, by rw [e1]⟩
theorem us_one (h1 : us c b = 1) {x y : TCell} (hx : x ∈ c) (hy : y ∈ c) (h2 : cf x.B b ≠ 0) (h3 : cf y.B b ≠ 0) : x = y := by
 unfold us at h1
 obtain ⟨z, hz⟩ := List.length_eq_one_iff.1 h1
 have e1 : x ∈ c.filter fun x => decide (cf x.B b ≠ 0) := List.mem_filter.2 ⟨hx, decide_eq_true h2⟩
 have e2 : y ∈ c.filter fun x => decide (cf x.B b ≠ 0) := List.mem_filter.2 ⟨hy, decide_eq_true h3⟩
 rw [hz] at e1 e2
 simp at e1 e2
 rw [e1, e2]
theorem collapse_ok (h : VC n c) (hn : 3 * n + 20 ≤ 1000000) (hb : b ∈ c.map TCell.ID) (hab : a ≠ b) : M.merge_collapse c a b = some (colC c a b, colM c a b) := by
 have hl := h.len
 have hS : (c.map TCell.ID).length ≤ 1000000 := by rw [List.length_map]; omega
 have hB := h.chB a
 have hlB := hB.len
 rw [List.length_map] at hlB
 have hk := hB.2.1.cf b
 have hk' : (-(cf (bO c a) b)).natAbs < 2 ^ n := by rw [Int.natAbs_neg]; exact hk
 unfold M.merge_collapse
 rw [cFind_ok h.rise (by omega), bnd_pure, show M.merge_coefficient (fnd c a).1.B b = some (cf (bO c a) b) from coef_ok (l := bO c a) hB.1 (by omega), bnd_pure, one_ok, bnd_pure, ineg_ok (ft_bits hk (by omega)), bnd_pure,
  show M.chains_Add (fnd c a).1.B [⟨b, 1⟩] (-(cf (bO c a) b)) = some (pl (bO c a) [⟨b, 1⟩] (-(cf (bO c a) b))) from hB.chainsAdd (one_ch hb) hk' (by omega) hS, bnd_pure, bnd_pure,
  (Ch.nil (c.map TCell.ID) 0).chainsAdd (hB.pl (one_ch hb) hk') hk' (by omega) hS, bnd_pure, without_ok (by omega) (by simp), bnd_pure]
 unfold M.neq
 rw [if_neg hab, itself_ok (by omega), bnd_pure]
 rfl
theorem FreeP.ne (w : FreeP c a b) : a ≠ b := fun e => by
 obtain ⟨h1, h2, _⟩ := w
 rw [e] at h2; omega
theorem FreeP.mem (h : VC n c) (w : FreeP c a b) : b ∈ c.map TCell.ID := cf_in (h.chB a).2.2 (c := b) (by have := w.2.2; omega)
theorem Collapse_ok (h : VC n c) (hn : 3 * n + 20 ≤ 1000000) : M.merge_Collapse c a b = some (col c a b) := by
 have hl := h.len
 unfold M.merge_Collapse col
 have b1 : ∀ (i : Nat) (y x : Int) (v : List Int), v[i]? = some x → M.merge_Collapse_b1 c i y v = if (fnd c x).2 = true then some (.inl v) else some (.inr ([], [], 250)) := fun i y x v hx => by
  unfold M.merge_Collapse_b1
  dsimp only
  rw [nth_at hx, cFind_ok h.rise (by omega), bnd_pure]
  by_cases e : (fnd c x).2 = true
  ·rw [if_pos e, if_pos e]
  ·rw [if_neg e, if_neg e]; rfl
 unfold rngL
 rw [chk_at (by simp), forL, b1 0 a a [a, b] rfl]
 by_cases ha : (fnd c a).2 = true
 ·rw [if_pos ha]
  dsimp only
  rw [forL, b1 (0 + 1) b b [a, b] rfl]
  by_cases hb : (fnd c b).2 = true
  ·rw [if_pos hb, if_pos ⟨ha, hb⟩]
   dsimp only
   rw [forL]
   unfold M.merge_Collapse_k1
   dsimp only
   have hfl : (fre c).length ≤ 1000000 := by
    have := flatF_len h c.length
    rw [List.take_of_length_le (Nat.le_refl _)] at this
    unfold fre; omega
   rw [Free_ok h (by omega), bnd_pure, Contains2_ok hfl, bnd_pure]
   by_cases hf : (a, b) ∈ fre c
   ·have hfp := (mem_fre h).1 hf
    rw [if_pos (decide_eq_true hf), if_pos hf, collapse_ok h hn ((fnd_in h).1 hb) hfp.2.ne, bnd_pure]
   ·rw [if_neg (by simpa using hf), if_neg hf]
  ·rw [if_neg hb, if_neg (fun e => hb e.2)]
 ·rw [if_neg ha, if_neg (fun e => ha e.1)]
theorem colC_mem {x : TCell} : x ∈ colC c a b ↔ x ∈ c ∧ x.ID ≠ a ∧ x.ID ≠ b := by
 unfold colC; rw [List.mem_filter]; simp
theorem colC_ids {i : Int} : i ∈ (colC c a b).map TCell.ID ↔ i ∈ c.map TCell.ID ∧ i ≠ a ∧ i ≠ b := by
 rw [mem_ids, mem_ids]
 constructor
 ·rintro ⟨y, hy, rfl⟩
  have := colC_mem.1 hy
  exact ⟨⟨y, this.1, rfl⟩, this.2⟩
 ·rintro ⟨⟨x, hx, rfl⟩, h⟩
  exact ⟨x, colC_mem.2 ⟨hx, h⟩, rfl⟩
theorem colC_rise (h : VC n c) : Rise TCell.ID (colC c a b) := h.rise.filter _
theorem colC_bO (h : VC n c) {i : Int} (ha : i ≠ a) (hb : i ≠ b) : bO (colC c a b) i = bO c i := by
 by_cases e : i ∈ c.map TCell.ID
 ·obtain ⟨x, hx, rfl⟩ := mem_ids.1 e
  rw [bO_at h.rise hx, bO_at (colC_rise h) (colC_mem.2 ⟨hx, ha, hb⟩)]
 ·unfold bO
  rw [fnd_no e, fnd_no (fun e2 => e (colC_ids.1 e2).1)]
theorem colC_lin (h : VC n c) {g : Int → Int} (h1 : g a = 0) (h2 : g b = 0) (i : Int) : lin (colC c a b) g (fun j => cf (bO (colC c a b) j) i) = lin c g (fun j => cf (bO c j) i) := by
 rw [show lin (colC c a b) g (fun j => cf (bO (colC c a b) j) i) = lin (colC c a b) g (fun j => cf (bO c j) i) from lin_congr fun y hy => by
  have := colC_mem.1 hy
  rw [colC_bO h this.2.1 this.2.2]]
 unfold colC
 refine lin_filter _ fun y _ hp => ?_
 have : y.ID = a ∨ y.ID = b := by
  have hp : ¬ y.ID = a → y.ID = b := by simpa using hp
  by_cases e : y.ID = a
  ·exact .inl e
  ·exact .inr (hp e)
 rcases this with e | e
 ·rw [e, h1, Int.zero_mul]
 ·rw [e, h2, Int.zero_mul]
theorem Collapse_law (h : VC n c) (ha : a ∈ c.map TCell.ID) (w : FreeP c a b) {k : Nat} (hk : Bn k (bO c a)) : VC n (colC c a b) ∧ Com (k + 6) c (colC c a b) (colM c a b) := by
 have hb := w.mem h
 have hab := w.ne
 obtain ⟨xa, hxa, rfl⟩ := mem_ids.1 ha
 obtain ⟨xb, hxb, rfl⟩ := mem_ids.1 hb
 obtain ⟨w1, w2, w3⟩ := w
 have hBa := bO_at h.rise hxa
 have hBb := bO_at h.rise hxb
 have za : ∀ x ∈ c, cf x.B xa.ID = 0 := us_zero.1 w2
 have zb : ∀ x ∈ c, x.ID ≠ xa.ID → cf x.B xb.ID = 0 := fun x hx hne => Decidable.byContradiction fun e => hne (by
  rw [us_one w1 hx hxa e (by rw [hBa] at w3; omega)])
 have hcha := h.ch xa hxa
 have hdb : xb.Dim = xa.Dim - 1 := by
  rw [hBa] at w3
  obtain ⟨f, hf, e, _⟩ := cf_ne (l := xa.B) (c := xb.ID) (by omega)
  exact h.fdim xa hxa f hf xb hxb e.symm
 have hZ1 : Ch (c.map TCell.ID) (max k 2 + 1) (pl (bO c xa.ID) [⟨xb.ID, 1⟩] (-(cf (bO c xa.ID) xb.ID))) := by
  have := Ch.pl (k := -(cf (bO c xa.ID) xb.ID)) (k' := 1) (⟨(h.chB xa.ID).1, hk, (h.chB xa.ID).2.2⟩ : Ch (c.map TCell.ID) k (bO c xa.ID)) (one_ch hb) (by rw [Int.natAbs_neg, w3]; decide)
  exact this
 have hZ : Ch (c.map TCell.ID) (k + 6) (colZ c xa.ID xb.ID) := by
  have := (Ch.nil (c.map TCell.ID) 0).pl hZ1 (k := -(cf (bO c xa.ID) xb.ID)) (k' := 1) (by rw [Int.natAbs_neg, w3]; decide)
  exact this.mono (by omega)
 have cfZ : ∀ i, cf (colZ c xa.ID xb.ID) i = (if xb.ID = i then 1 else 0) - cf (bO c xa.ID) xb.ID * cf xa.B i := fun i => by
  have e1 := (Gd.pl (k := -(cf (bO c xa.ID) xb.ID)) Gd.nil hZ1.1).2 i
  have e2 := (Gd.pl (k := -(cf (bO c xa.ID) xb.ID)) (h.chB xa.ID).1 (Gd.one (i := xb.ID) (c := 1) (by decide))).2 i
  unfold colZ
  rw [e1, e2, hBa, cf_one]
  rw [hBa] at w3
  have : cf xa.B xb.ID = 1 ∨ cf xa.B xb.ID = -1 := by omega
  rcases this with e | e <;> rw [e] <;> simp only [cf] <;> split <;> omega
 have Zb : cf (colZ c xa.ID xb.ID) xb.ID = 0 := by
  rw [cfZ, if_pos rfl, hBa]
  rw [hBa] at w3
  have : cf xa.B xb.ID = 1 ∨ cf xa.B xb.ID = -1 := by omega
  rcases this with e | e <;> rw [e] <;> rfl
 have Za : cf (colZ c xa.ID xb.ID) xa.ID = 0 := by
  rw [cfZ, if_neg (Ne.symm hab), za xa hxa]; simp
 have himg : ∀ x ∈ c, im (colM c xa.ID xb.ID) x.ID = if x.ID = xb.ID then colZ c xa.ID xb.ID else if x.ID = xa.ID then [] else [⟨x.ID, 1⟩] := fun x hx => by
  unfold colM
  rw [im_itf h.rise hx, mfind_mput]
  by_cases e : x.ID = xb.ID
  ·rw [if_pos e, if_pos e]; rfl
  ·rw [if_neg e, if_neg e]
   simp only [mput, mfind]
   split <;> rfl
 have hZd : Ch ((colC c xa.ID xb.ID).map TCell.ID) (k + 6) (colZ c xa.ID xb.ID) := ⟨hZ.1, hZ.2.1, fun f hf => colC_ids.2 ⟨hZ.2.2 f hf, fun e => by
  have := hZ.1.ne hf
  rw [← hZ.1.cf hf, e, Za] at this; exact this rfl, fun e => by
  have := hZ.1.ne hf
  rw [← hZ.1.cf hf, e, Zb] at this; exact this rfl⟩⟩
 have fin : ∀ x ∈ c, x.ID ≠ xa.ID → ∀ f ∈ x.B, f.ID ∈ (colC c xa.ID xb.ID).map TCell.ID := fun x hx hne f hf => by
  have hch := h.ch x hx
  refine colC_ids.2 ⟨hch.2.2 f hf, fun e => ?_, fun e => ?_⟩
  ·have := hch.1.ne hf
   rw [← hch.1.cf hf, e, za x hx] at this; exact this rfl
  ·have := hch.1.ne hf
   rw [← hch.1.cf hf, e, zb x hx hne] at this; exact this rfl
 constructor
 ·refine ⟨colC_rise h, Nat.le_trans (List.length_filter_le _ _) h.len, fun x hx => ?_, fun x hx => h.dim x (colC_mem.1 hx).1, fun x hx f hf y hy e => h.fdim x (colC_mem.1 hx).1 f hf y (colC_mem.1 hy).1 e, fun x hx i => ?_⟩
  ·obtain ⟨h1, h2, h3⟩ := colC_mem.1 hx
   exact ⟨(h.ch x h1).1, (h.ch x h1).2.1, fin x h1 h2⟩
  ·obtain ⟨h1, h2, h3⟩ := colC_mem.1 hx
   rw [colC_lin h (za x h1) (zb x h1 h2)]; exact h.bb x h1 i
 ·refine ⟨by unfold colM; rw [List.map_map]; rfl, fun t ht => ?_, fun x hx f hf y hy e => ?_, fun x hx i => ?_⟩
  ·obtain ⟨x, hx, rfl⟩ := List.mem_map.1 ht
   have e1 : (itf (mput (mput [] xa.ID []) xb.ID (colZ c xa.ID xb.ID)) x).X = im (colM c xa.ID xb.ID) x.ID := (im_itf h.rise hx).symm
   rw [e1, himg x hx]
   split
   ·exact hZd
   ·split
    ·exact Ch.nil _ _
    ·rename_i h1 h2
     exact (one_ch (colC_ids.2 ⟨mem_ids.2 ⟨x, hx, rfl⟩, h2, h1⟩)).mono (by omega)
  ·rw [himg x hx] at hf
   have hy' := (colC_mem.1 hy).1
   split at hf
   ·rename_i e1
    have h8 := fnd_at h.rise hx e1
    rw [fnd_at h.rise hxb rfl] at h8
    rw [← (Prod.mk.inj h8).1, hdb]
    have h2 := hZ.1.ne hf
    rw [← hZ.1.cf hf, cfZ, if_neg (fun e => (colC_ids.1 (hZd.2.2 f hf)).2.2 e.symm)] at h2
    obtain ⟨g, hg, e3, _⟩ := cf_ne (l := xa.B) (c := f.ID) (fun e => by rw [e] at h2; simp at h2)
    exact h.fdim xa hxa g hg y hy' (by omega)
   ·split at hf
    ·cases hf
    ·have hf : f = ⟨x.ID, 1⟩ := by simpa using hf
     rw [hf] at e
     have h8 := fnd_at h.rise hy' (i := x.ID) e
     rw [fnd_at h.rise hx rfl] at h8
     rw [(Prod.mk.inj h8).1]
  ·have hchx := h.ch x hx
   have hR : lin c (cf x.B) (fun j => cf (im (colM c xa.ID xb.ID) j) i) = cf x.B i + cf x.B xb.ID * (cf (colZ c xa.ID xb.ID) i - if xb.ID = i then 1 else 0) := by
    rw [lin_congr (g' := cf x.B) (F' := fun j => (if j = i then 1 else 0) + (if j = xb.ID then (cf (colZ c xa.ID xb.ID) i - if xb.ID = i then 1 else 0) else 0)) (fun y hy => ?_), lin_addF, lin_delC h.rise hchx.2.2, lin_del h.rise hb]
    by_cases e : y.ID = xb.ID
    ·congr 1
     rw [himg y hy, if_pos e, if_pos e, e]; omega
    ·by_cases e2 : y.ID = xa.ID
     ·rw [e2, za x hx]; simp
     ·congr 1
      rw [himg y hy, if_neg e, if_neg e2, if_neg e, cf_one]; omega
   rw [hR, himg x hx]
   by_cases e : x.ID = xb.ID
   ·rw [if_pos e, colC_lin h Za Zb, zb x hx (by rw [e]; exact Ne.symm hab), Int.zero_mul, Int.add_zero]
    have h8 := fnd_at h.rise hx e
    rw [fnd_at h.rise hxb rfl] at h8
    rw [← (Prod.mk.inj h8).1]
    rw [show cf (colZ c xa.ID xb.ID) = fun j => (if xb.ID = j then 1 else 0) + (-(cf (bO c xa.ID) xb.ID)) * cf xa.B j from funext fun j => by rw [cfZ, Int.neg_mul]; rfl, lin_addG, lin_mulG, lin_one h.rise hb, h.bb xa hxa, hBb]; simp
   ·rw [if_neg e]
    by_cases e2 : x.ID = xa.ID
    ·have h8 := fnd_at h.rise hx e2
     rw [fnd_at h.rise hxa rfl] at h8
     rw [if_pos e2, ← (Prod.mk.inj h8).1, cfZ, lin_zero (fun y _ => by simp [cf]), hBa]
     rw [hBa] at w3
     have : cf xa.B xb.ID = 1 ∨ cf xa.B xb.ID = -1 := by omega
     rcases this with e | e <;> rw [e] <;> omega
    ·rw [if_neg e2, zb x hx e2, Int.zero_mul, Int.add_zero, show cf [⟨x.ID, 1⟩] = fun j => if x.ID = j then 1 else 0 from funext fun j => cf_one _ j, lin_one (colC_rise h) (colC_ids.2 ⟨mem_ids.2 ⟨x, hx, rfl⟩, e2, e⟩), colC_bO h e2 e, bO_at h.rise hx]; omega
end
end Go.Z
end
section
namespace Go.Z
def cmp (m m2 : List TImage) : List TImage := m.map fun t => ⟨t.ID, fl (im m2) t.X⟩
theorem im_cmp (m m2 : List TImage) (i : Int) : im (cmp m m2) i = fl (im m2) (im m i) := by
 unfold im cmp
 rw [List.find?_map]
 rw [show ((fun t : TImage => decide (t.ID = i)) ∘ fun t : TImage => (⟨t.ID, fl (im m2) t.X⟩ : TImage)) = fun t : TImage => decide (t.ID = i) from rfl]
 cases m.find? (fun t => decide (t.ID = i)) <;> rfl
section
variable {c d e : List TCell} {m m2 : List TImage} {n p q B : Nat}
theorem lin_ne {c : List TCell} {g F : Int → Int} (h : lin c g F ≠ 0) : ∃ y ∈ c, g y.ID ≠ 0 ∧ F y.ID ≠ 0 := by
 refine Decidable.byContradiction fun hn => h (lin_zero fun y hy => ?_)
 by_cases e1 : g y.ID = 0
 ·rw [e1, Int.zero_mul]
 ·by_cases e2 : F y.ID = 0
  ·rw [e2, Int.mul_zero]
  ·exact absurd ⟨y, hy, e1, e2⟩ hn
theorem Com.comp (w : Com n c d m) (w2 : Com p d e m2) {a b : Nat} (h : VC a c) (h2 : VC b d) (hl : d.length ≤ q) : Com (n + p + q) c e (cmp m m2) := by
 have hX : ∀ i, Ch (d.map TCell.ID) n (im m i) := fun i => w.chI h i
 have hfl : ∀ i, Gd (fl (im m2) (im m i)) ∧ ∀ j, cf (fl (im m2) (im m i)) j = lin d (cf (im m i)) (fun k => cf (im m2 k) j) := fun i => w2.cf_fl h2 (hX i).1 (hX i).2.2
 refine ⟨by unfold cmp; rw [List.map_map]; exact w.ids, fun t ht => ?_, fun x hx f hf y hy e1 => ?_, fun x hx i => ?_⟩
 ·obtain ⟨t, ht0, rfl⟩ := List.mem_map.1 ht
  have h1 := w.ch t ht0
  have := fl_ch (T := e.map TCell.ID) (m := p) (k' := n) (B := im m2) (x := t.X) (fun u _ => w2.chI h2 u.ID) h1.2.1
  have hlen := h1.len
  rw [List.length_map] at hlen
  exact this.mono (by omega)
 ·rw [im_cmp] at hf
  have h1 := hfl x.ID
  have h3 := h1.1.ne hf
  rw [← h1.1.cf hf, h1.2] at h3
  obtain ⟨z, hz, h4, h5⟩ := lin_ne h3
  obtain ⟨f1, hf1, e2, _⟩ := cf_ne h4
  obtain ⟨f2, hf2, e3, _⟩ := cf_ne h5
  have h6 := w.dim x hx f1 hf1 z hz e2.symm
  have h7 := w2.dim z hz f2 hf2 y hy (by omega)
  omega
 ·rw [im_cmp, show cf (fl (im m2) (im m x.ID)) = fun j => lin d (cf (im m x.ID)) (fun k => cf (im m2 k) j) from funext (hfl x.ID).2, ← lin_swap (c := d) (d := e) (A := fun k j => cf (im m2 k) j)]
  rw [lin_congr (g' := cf (im m x.ID)) (F' := fun k => lin d (cf (bO d k)) (fun j => cf (im m2 j) i)) fun y hy => by rw [w2.com y hy i, bO_at h2.rise hy], lin_swap (c := d) (d := d) (A := fun k j => cf (bO d k) j)]
  rw [lin_congr (g' := fun j => lin c (cf x.B) (fun k => cf (im m k) j)) (F' := fun j => cf (im m2 j) i) fun y _ => by rw [w.com x hx], ← lin_swap (c := c) (d := d) (A := fun k j => cf (im m k) j)]
  exact lin_congr fun y _ => by rw [im_cmp, (hfl y.ID).2]
theorem Com.refl (h : VC n c) : Com 1 c c (c.map (itf [])) := by
 have himg : ∀ x ∈ c, im (c.map (itf [])) x.ID = [⟨x.ID, 1⟩] := fun x hx => by rw [im_itf h.rise hx]; rfl
 refine ⟨by rw [List.map_map]; rfl, fun t ht => ?_, fun x hx f hf y hy e => ?_, fun x hx i => ?_⟩
 ·obtain ⟨x, hx, rfl⟩ := List.mem_map.1 ht
  exact one_ch (mem_ids.2 ⟨x, hx, rfl⟩)
 ·rw [himg x hx] at hf
  have hf : f = ⟨x.ID, 1⟩ := by simpa using hf
  rw [hf] at e
  have h8 := fnd_at h.rise hy (i := x.ID) e
  rw [fnd_at h.rise hx rfl] at h8
  rw [(Prod.mk.inj h8).1]
 ·rw [himg x hx, show cf [⟨x.ID, 1⟩] = fun j => if x.ID = j then 1 else 0 from funext fun j => cf_one _ j, lin_one h.rise (mem_ids.2 ⟨x, hx, rfl⟩), bO_at h.rise hx]
  rw [lin_congr (g' := cf x.B) (F' := fun j => if j = i then 1 else 0) fun y hy => by rw [himg y hy, cf_one], lin_delC h.rise (h.ch x hx).2.2]; omega
def shr (c : List TCell) (m : List TImage) : Nat → List TCell × List TImage
 | 0 => (c, m)
 | k + 1 => match fre c with
  | [] => (c, m)
  | p :: _ => shr (colC c p.1 p.2) (cmp m (colM c p.1 p.2)) k
structure SI (n : Nat) (c d : List TCell) (m : List TImage) (B : Nat) : Prop where
 vc : VC n d
 com : Com B c d m
 w : B + wt d + 50 * d.length ≤ 320000
 len : d.length ≤ 30
theorem wt_filter {p : TCell → Bool} {x : TCell} (hx : x ∈ c) (hp : p x = false) : wt (c.filter p) + bw x ≤ wt c := by
 have hle : ∀ c : List TCell, wt (c.filter p) ≤ wt c := by
  intro c
  induction c with
  | nil => exact Nat.le_refl _
  | cons y c ih =>
   unfold wt at ih ⊢
   rw [List.filter_cons]
   split
   ·simp; omega
   ·simp; omega
 induction c with
 | nil => cases hx
 | cons y c ih =>
  rcases List.mem_cons.1 hx with rfl | hx
  ·have := hle c
   rw [List.filter_cons_of_neg (by rw [hp]; decide)]
   unfold wt at this ⊢; simp; omega
  ·have := ih hx
   unfold wt at this ⊢
   rw [List.filter_cons]
   split
   ·simp; omega
   ·simp; omega
theorem SI.step (h : VC n c) (w : SI n c d m B) {a b : Int} (hf : (a, b) ∈ fre d) : ∃ B', SI n c (colC d a b) (cmp m (colM d a b)) B' ∧ (colC d a b).length < d.length := by
 have hfp := (mem_fre w.vc).1 hf
 obtain ⟨xa, hxa, rfl⟩ := mem_ids.1 hfp.1
 have hlaw := Collapse_law (k := bw xa) w.vc hfp.1 hfp.2 (by rw [bO_at w.vc.rise hxa]; exact bw_Bn xa)
 have hwt := wt_filter (p := fun x => !decide (x.ID ∈ [xa.ID, b])) hxa (by simp)
 have hlen : (colC d xa.ID b).length < d.length := by
  unfold colC
  refine Nat.lt_of_le_of_ne (List.length_filter_le _ _) fun e => ?_
  have := (List.length_filter_eq_length_iff.1 e) xa hxa
  simp at this
 have := w.w
 have := w.len
 refine ⟨B + (bw xa + 6) + 30, ⟨hlaw.1, w.com.comp hlaw.2 h w.vc (by omega), ?_, by omega⟩, hlen⟩
 show B + (bw xa + 6) + 30 + wt (d.filter fun x => !decide (x.ID ∈ [xa.ID, b])) + 50 * (colC d xa.ID b).length ≤ 320000
 omega
theorem SI.init (h : VC n c) (hw : wt c ≤ 310030) (hl : c.length ≤ 30) : SI n c c (c.map (itf [])) 1 := ⟨h, Com.refl h, by omega, hl⟩
theorem SI.app (h : VC n c) (hn : n ≤ 160000) (w : SI n c d m B) {a b : Int} (hf : (a, b) ∈ fre d) {t : TImage} (ht : t ∈ m) : M.merge_apply (colM d a b) t.X = some (fl (im (colM d a b)) t.X) ∧ M.r31_Apply (colM d a b) t.X = some (fl (im (colM d a b)) t.X) := by
 have hfp := (mem_fre w.vc).1 hf
 obtain ⟨xa, hxa, rfl⟩ := mem_ids.1 hfp.1
 have hlaw := Collapse_law (k := n) w.vc hfp.1 hfp.2 (w.vc.chB _).2.1
 have hX := w.com.ch t ht
 have hXl := hX.len
 rw [List.length_map] at hXl
 have h1 := w.w
 have h2 := w.len
 have hml : (colM d xa.ID b).length = d.length := by unfold colM; simp
 have hT : ((colC d xa.ID b).map TCell.ID).length ≤ 1000000 := by rw [List.length_map]; have := hlaw.1.len; omega
 refine ⟨apply_ok (T := (colC d xa.ID b).map TCell.ID) (q := n + 6) (k' := B) (hlaw.2.rise w.vc) (by omega) (fun u _ => hlaw.2.chI w.vc u.ID) hX.2.1 (by omega) (by omega) hT (fun u hu => ?_), Apply_ok (T := (colC d xa.ID b).map TCell.ID) (q := n + 6) (k' := B) (hlaw.2.rise w.vc) (by omega) (fun u _ => hlaw.2.chI w.vc u.ID) hX.2.1 (by omega) (by omega) hT⟩
 rw [hlaw.2.ids]; exact hX.2.2 u hu
theorem shr_round (h : VC n c) (w : SI n c d m B) {k : Nat} {r : List TCell × List TImage} (hk : d.length ≤ k) (hr : shr d m k = r) {a b : Int} {l : List (Int × Int)} (hf : fre d = (a, b) :: l) : ∃ k', shr (colC d a b) (cmp m (colM d a b)) k' = r ∧ (colC d a b).length ≤ k' := by
 obtain ⟨B', w', hl⟩ := w.step h (a := a) (b := b) (by rw [hf]; simp)
 cases k with
 | zero => omega
 | succ k =>
  unfold shr at hr
  rw [hf] at hr
  exact ⟨k, hr, by omega⟩
theorem Shrink_ok (h : VC n c) (hn : n ≤ 160000) (hw : wt c ≤ 310030) (hl : c.length ≤ 30) : M.merge_Shrink c = some (shr c (c.map (itf [])) 30) := by
 unfold M.merge_Shrink
 rw [itself_ok (by omega), bnd_pure, Free_ok h (by omega), bnd_pure]
 refine loop_eq (fun s => ∃ d m B k, s = (d, m, fre d) ∧ SI n c d m B ∧ d.length ≤ k ∧ shr d m k = shr c (c.map (itf [])) 30) (fun s => s.1.length) _ ⟨c, c.map (itf []), 1, 30, rfl, SI.init h hw hl, hl, rfl⟩ (by show c.length < _; omega) ?_
 rintro _ ⟨d, m, B, k, rfl, w, hk, hr⟩
 unfold M.merge_Shrink_b2
 dsimp only
 cases hf : fre d with
 | nil =>
  refine .inr ?_
  rw [if_neg (by simp)]
  have : shr d m k = (d, m) := by
   cases k with
   | zero => rfl
   | succ k => unfold shr; rw [hf]
  rw [← hr, this]; rfl
 | cons p l =>
  obtain ⟨a, b⟩ := p
  have hmem : (a, b) ∈ fre d := by rw [hf]; simp
  have hfp := (mem_fre w.vc).1 hmem
  obtain ⟨B', w', hlt⟩ := w.step h hmem
  obtain ⟨k', h1, h2⟩ := shr_round h w hk hr hf
  refine .inl ⟨(colC d a b, cmp m (colM d a b), fre (colC d a b)), ?_, ⟨_, _, B', k', rfl, w', h2, h1⟩, hlt⟩
  rw [if_pos (by simp only [List.length_cons]; omega)]
  show nth ((a, b) :: l) ((0 : Nat) : Int) _ = _
  rw [nth_at (a := (a, b)) rfl]
  dsimp only
  rw [collapse_ok w.vc (by omega) (hfp.2.mem w.vc) hfp.2.ne, bnd_pure]
  have hmlen := w.com.len
  have hcl := h.len
  rw [rng_mp (fun t : TImage => (⟨t.ID, fl (im (colM d a b)) t.X⟩ : TImage)) (by omega) rfl fun i t ht => ?_]
  ·unfold M.merge_Shrink_k1
   dsimp only
   rw [Free_ok w'.vc (by omega), bnd_pure]; rfl
  ·unfold M.merge_Shrink_b1
   dsimp only
   rw [nth_at (mp_get rfl ht), (w.app h hn hmem (List.mem_of_getElem? ht)).1, bnd_pure]
end
end Go.Z
end
section
namespace Go.Z
def ins (x : TCell) : List TCell → List TCell
 | [] => [x]
 | y :: l => if y.ID < x.ID then y :: ins x l else x :: y :: l
def pos (B : List TFace) : List TFace := B.filter fun f => !decide (f.C < 0)
def subB (c : List TCell) (e p : Int) : List TFace := pl (pl (bO c e) (pos (bO c e)) (-1)) [⟨p, 1⟩] 1
def subF (c : List TCell) (e p h : Int) (x : TCell) : TCell := if x.ID = e then ⟨x.ID, x.Dim, subB c e p⟩ else rpl e [⟨h, 1⟩] x
def subC (c : List TCell) (e p h : Int) : List TCell := ins ⟨h, 1, pl (pos (bO c e)) [⟨p, 1⟩] (-1)⟩ (ins ⟨p, 0, []⟩ (c.map (subF c e p h)))
def subM (c : List TCell) (e h : Int) : List TImage := c.map (itf (mput [] e (pl [⟨e, 1⟩] [⟨h, 1⟩] 1)))
def sub (c : List TCell) (e p h : Int) : List TCell × List TImage × Int :=
 if (fnd c e).2 = true then (if (fnd c e).1.Dim = 1 then (if (fnd c p).2 = true ∨ (fnd c h).2 = true ∨ p = h then ([], [], 253) else if 398 < c.length then ([], [], 2) else (subC c e p h, subM c e h, 0)) else ([], [], 260)) else ([], [], 250)
theorem ins_perm (x : TCell) (l : List TCell) : (ins x l).Perm (x :: l) := by
 induction l with
 | nil => exact List.Perm.refl _
 | cons y l ih =>
  unfold ins
  split
  ·exact (ih.cons y).trans (List.Perm.swap x y l)
  ·exact List.Perm.refl _
theorem ins_rise {x : TCell} {l : List TCell} (h : Rise TCell.ID l) (hx : ∀ y ∈ l, y.ID ≠ x.ID) : Rise TCell.ID (ins x l) := by
 induction l with
 | nil => exact List.pairwise_singleton _ _
 | cons y l ih =>
  rw [Rise, List.pairwise_cons] at h
  unfold ins
  split
  ·rename_i hlt
   refine List.Pairwise.cons (fun z hz => ?_) (ih h.2 fun z hz => hx z (by simp [hz]))
   rcases List.mem_cons.1 ((ins_perm x l).mem_iff.1 hz) with rfl | hz
   ·exact hlt
   ·exact h.1 z hz
  ·rename_i hlt
   have := hx y (by simp)
   refine List.Pairwise.cons (fun z hz => ?_) (List.Pairwise.cons h.1 h.2)
   rcases List.mem_cons.1 hz with rfl | hz
   ·omega
   ·have := h.1 z hz; omega
theorem rise_uniq {l m : List TCell} (hp : l.Perm m) (h1 : Rise TCell.ID l) (h2 : Rise TCell.ID m) : l = m := by
 induction l generalizing m with
 | nil => exact (List.nil_perm.1 hp).symm
 | cons x l ih =>
  cases m with
  | nil => exact absurd hp.symm (by simp)
  | cons y m =>
   rw [Rise, List.pairwise_cons] at h1 h2
   have e : x = y := by
    have hx := hp.mem_iff.1 (List.mem_cons_self (a := x) (l := l))
    have hy := hp.mem_iff.2 (List.mem_cons_self (a := y) (l := m))
    rcases List.mem_cons.1 hx with h | h
    ·exact h
    ·rcases List.mem_cons.1 hy with h' | h'
     ·exact h'.symm
     ·have a1 := h2.1 x h
      have a2 := h1.1 y h'
      omega
   subst e
   rw [ih (List.perm_cons x |>.1 hp) h1.2 h2.2]
theorem sortC_ok {l : List TCell} {d : List TCell} (h0 : 0 < l.length) (hl : l.length ≤ 1000000) (hp : d.Perm l) (hr : Rise TCell.ID d) : M.sortC l = some d := by
 have hnd : (d.map TCell.ID).Nodup := (List.pairwise_map.2 hr : (d.map TCell.ID).Pairwise (· < ·)).imp fun {a b} h => by omega
 have hnl : (l.map TCell.ID).Nodup := (hp.map TCell.ID).nodup_iff.1 hnd
 unfold M.sortC
 rw [if_pos ⟨h0, hl, hnl⟩]
 congr 1
 have hs : (l.mergeSort fun x y => decide (x.ID ≤ y.ID)).Pairwise (fun a b => decide (a.ID ≤ b.ID) = true) := List.pairwise_mergeSort (by intro a b c; simp; omega) (by intro a b; simp; omega) l
 have hpm := List.mergeSort_perm l fun x y => decide (x.ID ≤ y.ID)
 refine rise_uniq (hpm.trans hp.symm) ?_ hr
 have hn2 : ((l.mergeSort fun x y => decide (x.ID ≤ y.ID)).map TCell.ID).Pairwise (· ≠ ·) := (hpm.map TCell.ID).nodup_iff.2 hnl
 have hn3 := List.pairwise_map.1 hn2
 refine (hs.and hn3).imp fun {a b} h => ?_
 have h1 := of_decide_eq_true h.1
 have h2 := h.2
 omega
section
variable {c : List TCell} {n : Nat} {e p h : Int}
theorem pos_so {l : List TFace} : ∀ {x : Int}, so x l → so x (pos l) := by
 induction l with
 | nil => intro x s; exact s
 | cons t l ih =>
  intro x s
  unfold pos
  rw [List.filter_cons]
  split
  ·exact ⟨s.1, s.2.1, ih s.2.2⟩
  ·exact so_mono (by have := s.1; omega) (ih s.2.2)
theorem pos_ch {S : List Int} {l : List TFace} (w : Ch S n l) : Ch S n (pos l) := by
 obtain ⟨z, s⟩ := w.1
 exact ⟨⟨z, pos_so s⟩, fun f hf => w.2.1 f (List.mem_filter.1 hf).1, fun f hf => w.2.2 f (List.mem_filter.1 hf).1⟩
theorem subF_id (x : TCell) : (subF c e p h x).ID = x.ID := by
 unfold subF; split
 ·rfl
 ·exact rpl_id _ _
theorem ids_map : (c.map (subF c e p h)).map TCell.ID = c.map TCell.ID := by
 rw [List.map_map]; exact List.map_congr_left fun x _ => subF_id x
theorem subC_perm : (subC c e p h).Perm (c.map (subF c e p h) ++ [⟨p, 0, []⟩, ⟨h, 1, pl (pos (bO c e)) [⟨p, 1⟩] (-1)⟩]) := by
 unfold subC
 refine (ins_perm _ _).trans (((ins_perm _ _).cons _).trans ?_)
 refine (List.Perm.swap _ _ _).trans ?_
 exact List.perm_append_comm (l₁ := [(⟨p, 0, []⟩ : TCell), ⟨h, 1, pl (pos (bO c e)) [⟨p, 1⟩] (-1)⟩]) (l₂ := c.map (subF c e p h))
theorem subC_rise (w : VC n c) (h1 : ¬ p ∈ c.map TCell.ID) (h2 : ¬ h ∈ c.map TCell.ID) (h3 : p ≠ h) : Rise TCell.ID (subC c e p h) := by
 have hr : Rise TCell.ID (c.map (subF c e p h)) := map_rise (fun x => subF_id x) w.rise
 have hm : ∀ y ∈ c.map (subF c e p h), y.ID ∈ c.map TCell.ID := fun y hy => by rw [← ids_map (c := c) (e := e) (p := p) (h := h)]; exact mem_ids.2 ⟨y, hy, rfl⟩
 refine ins_rise (ins_rise hr fun y hy e => h1 (by rw [← show y.ID = p from e]; exact hm y hy)) fun y hy e => ?_
 rcases List.mem_cons.1 ((ins_perm _ _).mem_iff.1 hy) with rfl | hy
 ·exact h3 e
 ·exact h2 (by rw [← show y.ID = h from e]; exact hm y hy)
theorem Subdivide_ok (w : VC n c) (hn : n + 100 ≤ 1000000) : M.merge_Subdivide c e (p, h) = some (sub c e p h) := by
 have hl := w.len
 have hS : (p :: h :: c.map TCell.ID).length ≤ 1000000 := by simp; omega
 have sS : ∀ x ∈ c.map TCell.ID, x ∈ p :: h :: c.map TCell.ID := fun x hx => by simp only [List.mem_cons]; exact .inr (.inr hx)
 have pS : p ∈ p :: h :: c.map TCell.ID := by simp
 have hhS : h ∈ p :: h :: c.map TCell.ID := by simp
 unfold M.merge_Subdivide sub
 dsimp only
 rw [cFind_ok w.rise (by omega), bnd_pure, cFind_ok w.rise (by omega), bnd_pure, cFind_ok w.rise (by omega), bnd_pure]
 by_cases he : (fnd c e).2 = true
 ·rw [if_pos he, if_pos he]
  by_cases hd : (fnd c e).1.Dim = 1
  ·rw [if_pos hd, if_pos hd]
   have j2t : M.merge_Subdivide_j2 c e (p, h) (fnd c e) true = some ([], [], 253) := by
    unfold M.merge_Subdivide_j2; rw [if_pos rfl]
   by_cases hp : (fnd c p).2 = true
   ·rw [if_pos hp, if_pos (.inl hp), j2t]
   ·rw [if_neg hp]
    by_cases hh : (fnd c h).2 = true
    ·rw [if_pos hh, if_pos (.inr (.inl hh)), j2t]
    ·rw [if_neg hh]
     by_cases hph : p = h
     ·rw [decide_eq_true hph, if_pos (.inr (.inr hph)), j2t]
     ·rw [decide_eq_false hph, if_neg (by simp [hp, hh, hph])]
      unfold M.merge_Subdivide_j2
      rw [if_neg (by decide)]
      by_cases h398 : 398 < c.length
      ·rw [if_pos (by omega), if_pos h398]
      ·rw [if_neg (by omega), if_neg h398]
       dsimp only
       have heS := sS e ((fnd_in w).1 he)
       have hB := (w.chB e).sub sS
       have hlB := (w.chB e).len
       rw [List.length_map] at hlB
       have hP := pos_ch hB
       have h1 := hB.pl hP (k := -1) (k' := 1) (by decide)
       have hdel : M.slices_DeleteFunc_Chain_Face (fnd c e).1.B M.merge_Subdivide_1 = some (pos (bO c e)) := by
        rw [show M.slices_DeleteFunc_Chain_Face (fnd c e).1.B M.merge_Subdivide_1 = dFn (bO c e) M.merge_Subdivide_1 from rfl,
         dF_ok (fun f : TFace => decide (f.C < 0)) (fun f hf => by
          unfold M.merge_Subdivide_1
          rw [isign_ok (hB.ft (by omega) f hf), bnd_pure]
          congr 1
          rw [decide_eq_decide]
          exact Int.sign_neg_iff) (by omega)]
        rfl
       rw [one_ok, bnd_pure, iof_ok (by decide), bnd_pure, show M.clone (fnd c e).1.B = some (fnd c e).1.B from clone_ok (l := bO c e) (by omega), bnd_pure, hdel, bnd_pure, one_ok, bnd_pure,
        replace_ok (S := p :: h :: c.map TCell.ID) (n := n) (m := 1) (fun x hx => (w.ch x hx).sub sS) (one_ch hhS) hS (by omega) (by omega) (by omega), bnd_pure]
       have hloop : rngL (M.merge_Subdivide_b1 e (fnd c e) [⟨p, 1⟩] (-1)) (M.merge_Subdivide_k1 c e (p, h) [⟨p, 1⟩] (-1)) (c.map (rpl e [⟨h, 1⟩])) (pos (bO c e), c.map (rpl e [⟨h, 1⟩])) = M.merge_Subdivide_k1 c e (p, h) [⟨p, 1⟩] (-1) (pos (bO c e), c.map (subF c e p h)) := by
        have key : ∀ k i, i + k = (c.map (rpl e [⟨h, 1⟩])).length → forL (M.merge_Subdivide_b1 e (fnd c e) [⟨p, 1⟩] (-1)) (M.merge_Subdivide_k1 c e (p, h) [⟨p, 1⟩] (-1)) ((c.map (rpl e [⟨h, 1⟩])).drop i) i (pos (bO c e), mp (subF c e p h) c (c.map (rpl e [⟨h, 1⟩])) i) = M.merge_Subdivide_k1 c e (p, h) [⟨p, 1⟩] (-1) (pos (bO c e), c.map (subF c e p h)) := by
         intro k
         induction k with
         | zero =>
          intro i hi
          rw [List.length_map] at hi
          have : i = c.length := by omega
          subst this
          rw [List.drop_eq_nil_of_le (by rw [List.length_map]; omega), forL, mp_all (by simp)]
         | succ k ih =>
          intro i hi
          rw [List.length_map] at hi
          obtain ⟨x, hx⟩ := lt_get (l := c) (i := i) (by omega)
          have hxr : (c.map (rpl e [⟨h, 1⟩]))[i]? = some (rpl e [⟨h, 1⟩] x) := by rw [List.getElem?_map, hx]; rfl
          have hg := mp_get (f := subF c e p h) (l := c) (by simp) hxr
          have hb : M.merge_Subdivide_b1 e (fnd c e) [⟨p, 1⟩] (-1) i (rpl e [⟨h, 1⟩] x) (pos (bO c e), mp (subF c e p h) c (c.map (rpl e [⟨h, 1⟩])) i) = some (.inl (pos (bO c e), mp (subF c e p h) c (c.map (rpl e [⟨h, 1⟩])) (i + 1))) := by
           unfold M.merge_Subdivide_b1
           dsimp only
           rw [nth_at hg, rpl_id]
           by_cases hxe : x.ID = e
           ·rw [if_pos hxe, show M.chains_Add (fnd c e).1.B (pos (bO c e)) (-1) = some (pl (bO c e) (pos (bO c e)) (-1)) from hB.chainsAdd hP (k' := 1) (by decide) (by omega) hS, bnd_pure, iof_ok (by decide), bnd_pure,
             h1.chainsAdd (one_ch pS) (k := 1) (k' := 1) (by decide) (by omega) hS, bnd_pure, ← mp_set (by simp) hx, rpl_dim]
            unfold subF
            rw [if_pos hxe]; rfl
           ·rw [if_neg hxe, ← mp_same2 hx (by rw [hxr]; unfold subF; rw [if_neg hxe])]
          rw [drop_cons hxr, forL, hb]
          exact ih (i + 1) (by rw [List.length_map]; omega)
        have := key (c.map (rpl e [⟨h, 1⟩])).length 0 (by omega)
        rw [List.drop_zero, mp_zero] at this
        unfold rngL
        rw [chk_at (by rw [List.length_map]; omega), this]
       rw [hloop]
       have hpn : ¬ p ∈ c.map TCell.ID := fun e2 => hp ((fnd_in w).2 e2)
       have hhn : ¬ h ∈ c.map TCell.ID := fun e2 => hh ((fnd_in w).2 e2)
       unfold M.merge_Subdivide_k1
       dsimp only
       rw [hP.chainsAdd (one_ch pS) (k := -1) (k' := 1) (by decide) (by omega) hS, bnd_pure, app_at (by simp; omega), bnd_pure,
        sortC_ok (by simp) (by simp; omega) (subC_perm (c := c) (e := e) (p := p) (h := h)) (subC_rise w hpn hhn hph), bnd_pure, one_ok, bnd_pure, one_ok, bnd_pure, iof_ok (by decide), bnd_pure,
        (one_ch heS).chainsAdd (one_ch hhS) (k := 1) (k' := 1) (by decide) (by decide) hS, bnd_pure, itself_ok (by omega), bnd_pure]
       rfl
  ·rw [if_neg hd, if_neg hd]
 ·rw [if_neg he, if_neg he]
end
end Go.Z
end
section
namespace Go.Z
def kSan : List TCell := [⟨1, 0, []⟩, ⟨3, 1, []⟩, ⟨4, 1, []⟩, ⟨5, 2, [⟨3, 1⟩, ⟨4, -1⟩]⟩]
def kT : List TCell := [⟨1, 0, []⟩, ⟨2, 1, [⟨1, 2⟩]⟩]
def kG : List TCell := [⟨1, 0, []⟩, ⟨2, 0, []⟩, ⟨3, 1, [⟨1, -1⟩, ⟨2, 1⟩]⟩]
theorem kS_VC : VC 160000 kSan := (VCs.inv (c := kSan) (st := ([1, 2, 1, 0], [1, 1, 3, 1])) (by decide +kernel)).vc
theorem kT_VC : VC 160000 kT := (VCs.inv (c := kT) (st := ([1, 1, 0, 0], [1, 2, 3, 1])) (by decide +kernel)).vc
theorem kG_VC : VC 160000 kG := (VCs.inv (c := kG) (st := ([2, 1, 0, 0], [1, 1, 3, 1])) (by decide +kernel)).vc
theorem kG_wt : wt kG ≤ 310030 := by decide +kernel
theorem seg_ok : M.l31_segment = some kG := by kernel_rfl
theorem j1_ok : M.l31_sanity_j1 true true true = some true := by
 unfold M.l31_sanity_j1
 rw [seg_ok, bnd_pure, Shrink_ok kG_VC (by omega) kG_wt (by decide), bnd_pure]
 kernel_rfl
theorem sanity_ok : M.l31_sanity = some true := by
 unfold M.l31_sanity
 rw [show M.r25_Point 1 = some ⟨1, 0, []⟩ from rfl, bnd_pure, show M.r25_Sum [3, 1, 4, -1] = some [⟨3, 1⟩, ⟨4, -1⟩] from by kernel_rfl, bnd_pure,
  show ([⟨1, 0, []⟩, TCell.mk 3 1 [], TCell.mk 4 1 [], TCell.mk 5 2 [⟨3, 1⟩, ⟨4, -1⟩]] : List TCell) = kSan from rfl,
  Identify_ok kS_VC (by omega), bnd_pure, seg_ok, bnd_pure, Collapse_ok kG_VC (by omega), bnd_pure, bnd_pure, show M.r25_Sum [1, 2] = some [⟨1, 2⟩] from by kernel_rfl, bnd_pure,
  show ([⟨1, 0, []⟩, TCell.mk 2 1 [⟨1, 2⟩]] : List TCell) = kT from rfl, Collapse_ok kT_VC (by omega), bnd_pure, bnd_pure, Subdivide_ok kG_VC (by omega), bnd_pure,
  Identify_ok kS_VC (by omega), bnd_pure, Identify_ok kS_VC (by omega), bnd_pure, Identify_ok kS_VC (by omega), bnd_pure, bnd_pure, Subdivide_ok kG_VC (by omega), bnd_pure, bnd_pure, Subdivide_ok kG_VC (by omega), bnd_pure, bnd_pure, Collapse_ok kG_VC (by omega), bnd_pure, bnd_pure, Free_ok kG_VC (by omega), bnd_pure]
 refine Eq.trans ?_ j1_ok
 kernel_rfl
end Go.Z
end
