/- Texts of ours, joined: Range, Keys, SortK, Sorted. -/
import Derived.Test.YtjdfhlkpfjhjoaaX9
import Derived.Test.YtjdfhlkpfjhjoaaX4
import Derived.Test.YtjdfhlkpfjhjoaaX1
import Derived.Shelf.SlSortCmp.NoneTotal
import Derived.Shelf.SlicesG.Cmp
import Derived.Shelf.SlGeneric
import Derived.Ground.SlsfProg
import Derived.Ground.SlgcProg
section
set_option linter.unusedSimpArgs false
set_option linter.unusedVariables false
/- The calculus beneath the proofs: a range over a map, in whatever order. No program is named here. -/
set_option linter.unusedSimpArgs false
set_option linter.unusedVariables false
namespace Go.Z
open Go Go.RowKit
variable {C : Cfg} {Q Q' : Post} {ds : List Deferred} {ρ : Env} {h h1 h2 : Heap} {L L' Ls Lb : Own} {ops : Array Oper} {rest : List Oper}
variable {d : Nat} {ty : TypeId} {pos : String} {after : Array Edge} {S : World → Prop}
variable {x : Operand} {T K E : TypeId} {b it : Nat} {es done : List MapEntry} {clk : Nat} {f : Obj → Own}

theorem run_choose {P : Program} {w : World} {n : Nat} (hn : 0 < n) : ∃ i w', i < n ∧ (choose (.mapNext n)).run P w = .ok i w' ∧ (w' = w ∨ w' = w.drew) := by
  by_cases h1 : n ≤ 1
  · obtain rfl : n = 1 := by omega
    refine ⟨0, w, by omega, ?_, .inl rfl⟩
    rfl
  · refine ⟨_, w.drew, Nat.mod_lt (w.tape w.drawn (.mapNext n)) hn, ?_, .inr rfl⟩
    simp only [choose, Sem.run, Question.forced, Question.cut, h1, decide_false, Bool.false_eq_true, if_false]
    rfl
def iterO (b clk : Nat) (done : List MapEntry) : Obj := .mapIter (some b) clk (done.map (·.born)).toArray clk
theorem o_range [mp : Mp C.P T K E] (hx : ρ.ev x = .map (some b)) (hb : h b = some (.map ⟨es⟩ clk))
    (k : ∀ it, JL C ops Q rest ds (ρ.set d (.pointer (some ⟨it, 0, none⟩))) h ((it, iterO b clk []) :: L)) (hn : Nat.blt d C.n = true := by rfl) :
    JL C ops Q (⟨some d, .range T x, ty, pos, after, none⟩ :: rest) ds ρ h L :=
  JL.val rfl rfl rfl hn fun w hs => by
    refine ⟨_, h, _, w.alloc (iterO b clk []), ?_, hs.alloc _, k _⟩
    simp only [execOp, hx]
    refine run_v ?_
    simp only [Instr.range, bind]
    rw [Sem.run_bind', und_run mp.u]
    simp only [Result.andThen]
    rw [Sem.run_bind', run_getObj (hs.fro _ _ hb)]
    rfl
theorem left_mem {e : MapEntry} (h : e ∈ es.filter fun e => !(done.map (·.born)).contains e.born) : e ∈ es ∧ e.born ∉ done.map (·.born) := by
  rw [List.mem_filter] at h
  exact ⟨h.1, by simpa using h.2⟩
theorem o_next (hx : ρ.ev x = .pointer (some ⟨it, 0, none⟩)) (hb : h b = some (.map ⟨es⟩ clk)) (bn : Born es clk) (A : At L it (iterO b clk done) f) (hd : ∀ e ∈ done, e ∈ es)
    (k0 : (∀ e ∈ es, e.born ∈ done.map (·.born)) → JL C ops Q rest ds (ρ.set d (.tuple ⟨[.bool false]⟩)) h L)
    (k1 : ∀ e, e ∈ es → e.born ∉ done.map (·.born) → JL C ops Q rest ds (ρ.set d (.tuple ⟨[.bool true, e.key, e.val]⟩)) h (f (iterO b clk (done ++ [e])))) (hn : Nat.blt d C.n = true := by rfl) :
    JL C ops Q (⟨some d, .next x false, ty, pos, after, none⟩ :: rest) ds ρ h L :=
  JL.val rfl rfl rfl hn fun w hs => by
    have hit := A.heap hs
    have hm := hs.fro _ _ hb
    have hold : (es.filter fun e => !(done.map (·.born)).contains e.born).filter (fun e => decide (e.born < clk)) = es.filter fun e => !(done.map (·.born)).contains e.born := by
      refine List.filter_eq_self.2 fun e he => ?_
      have := bn.2 e (left_mem he).1
      simpa using this
    have hnew : (es.filter fun e => !(done.map (·.born)).contains e.born).filter (fun e => decide (clk ≤ e.born)) = [] := by
      refine List.filter_eq_nil_iff.2 fun e he => ?_
      have := bn.2 e (left_mem he).1
      simp; omega
    generalize hl : es.filter (fun e => !(done.map (·.born)).contains e.born) = left at hold hnew
    have hcond : (!(done.map (·.born)).toArray.isEmpty && !(⟨es⟩ : Array MapEntry).isEmpty && (⟨es⟩ : Array MapEntry).all (fun e => decide (e.born ≥ clk))) = false := by
      cases es with
      | nil => simp
      | cons e es =>
        have := bn.2 e (by simp)
        have : decide (clk ≤ e.born) = false := by simpa using this
        simp [this]
    have key : ∃ v h' L' w', (Instr.next (.pointer (some ⟨it, 0, none⟩)) false ty).run C.P w = .ok v w' ∧ St C.w0 C.h0 h' L' w' ∧ JL C ops Q rest ds (ρ.set d v) h' L' := by
      simp only [Instr.next, bind]
      rw [Sem.run_bind', show (getObj it).run C.P w = .ok (iterO b clk done) w by simp [getObj, Sem.run, hit, iterO]]
      simp only [Result.andThen, iterO]
      rw [Sem.run_bind', run_getObj hm]
      simp only [Result.andThen, hcond, Bool.false_eq_true, if_false]
      have harr : ((⟨es⟩ : Array MapEntry).filter fun e => !(done.map (·.born)).toArray.contains e.born) = left.toArray := by
        rw [← hl]; simp
      have e1 : left.toArray.filter (fun e => decide (e.born < clk)) = left.toArray := by simpa using hold
      have e2 : left.toArray.filter (fun e => decide (e.born ≥ clk)) = #[] := by simpa using hnew
      simp only [harr, e1, e2]
      cases left with
      | nil =>
        have hc0 : ((if ([] : List MapEntry).toArray.isEmpty = true then #[none] else #[]) ++ Array.map some (([] : List MapEntry).toArray ++ #[])) = #[none] := by simp
        simp only [hc0]
        refine ⟨_, h, L, w, rfl, hs, k0 fun e he => ?_⟩
        by_cases hm : e.born ∈ done.map (·.born)
        · exact hm
        · have : e ∈ es.filter fun e => !(done.map (·.born)).contains e.born := List.mem_filter.2 ⟨he, by simpa using hm⟩
          rw [hl] at this; cases this
      | cons e0 left =>
        have hc : ((if (e0 :: left).toArray.isEmpty = true then #[none] else #[]) ++ Array.map some ((e0 :: left).toArray ++ #[])) = ((e0 :: left).map some).toArray := by simp
        simp only [hc]
        obtain ⟨i, w1, hi, hr, hw⟩ := run_choose (P := C.P) (w := w) (n := (((e0 :: left).map some).toArray).size) (by simp)
        rw [Sem.run_bind', hr]
        simp only [Result.andThen]
        have hi2 : i < (e0 :: left).length := by simpa using hi
        have hget : (((e0 :: left).map some).toArray)[i]? = some (some (e0 :: left)[i]) := by rw [List.getElem?_toArray, List.getElem?_map, List.getElem?_eq_getElem hi2]; rfl
        simp only [hget]
        have hmem : (e0 :: left)[i] ∈ es.filter fun e => !(done.map (·.born)).contains e.born := by rw [hl]; exact List.getElem_mem hi2
        obtain ⟨m1, m2⟩ := left_mem hmem
        generalize (e0 :: left)[i] = e at m1 m2 ⊢
        have hs1 : St C.w0 C.h0 h L w1 := by rcases hw with rfl | rfl; exact hs; exact hs.drew
        have hit1 := A.heap hs1
        rw [Sem.run_bind', show (setObj it (.mapIter (some b) clk ((done.map (·.born)).toArray.push e.born) clk)).run C.P w1 = .ok () (w1.putObj it (.mapIter (some b) clk ((done.map (·.born)).toArray.push e.born) clk)) by
          simp [setObj, Sem.run, hit1, iterO, World.putObj]]
        have hO : (Obj.mapIter (some b) clk ((done.map (·.born)).toArray.push e.born) clk) = iterO b clk (done ++ [e]) := by simp [iterO]
        rw [hO]
        exact ⟨_, h, _, _, rfl, A.put hs1, k1 e m1 m2⟩
    obtain ⟨v, h', L', w', g1, g2, g3⟩ := key
    refine ⟨v, h', L', w', ?_, g2, g3⟩
    simp only [execOp, hx]
    exact run_v g1
theorem find_born {e : MapEntry} : ∀ {es : List MapEntry}, (es.map (·.born)).Nodup → e ∈ es → es.find? (fun x => x.born == e.born) = some e
  | x :: es, hn, he => by
    simp only [List.map_cons, List.nodup_cons] at hn
    rcases List.mem_cons.1 he with rfl | he
    · simp
    · have : ¬ x.born = e.born := fun h => hn.1 (h ▸ List.mem_map_of_mem he)
      rw [List.find?_cons_of_neg (by simpa using this)]
      exact find_born hn.2 he
theorem q_entry {e : MapEntry} (hx : ρ.ev x = .pointer (some ⟨it, 0, none⟩)) (hb : h1 b = some (.map ⟨es⟩ clk)) [ex : Ext h1 h] (bn : Born es clk) (A : At L it (iterO b clk (done ++ [e])) f) (he : e ∈ es) :
    Qr C ρ (SS C h L) (.entry x) ty (.tuple ⟨[e.key, e.val]⟩) := ⟨rfl, fun w hs => by
  have hit := A.heapS hs
  have hm : w.heap[b]? = some (.map ⟨es⟩ clk) := by
    obtain ⟨h', L', he', _, st⟩ := hs
    exact st.fro _ _ (he'.le _ _ (ex.le _ _ hb))
  simp only [execOp, hx]
  refine run_v ?_
  simp only [Instr.entry, bind]
  rw [Sem.run_bind', show (getObj it).run C.P w = .ok (iterO b clk (done ++ [e])) w by simp [getObj, Sem.run, hit, iterO]]
  simp only [Result.andThen, iterO]
  have hback : ((done ++ [e]).map (·.born)).toArray.back? = some e.born := by simp
  simp only [hback]
  rw [Sem.run_bind', run_getObj hm]
  have hf : (⟨es⟩ : Array MapEntry).find? (fun x => x.born == e.born) = some e := by
    rw [show (⟨es⟩ : Array MapEntry) = es.toArray from rfl, List.find?_toArray]; exact find_born bn.1 he
  simp only [Result.andThen, bne_self_eq_false, Bool.false_eq_true, if_false, hf]
  rfl⟩
end Go.Z
namespace Go.Z
open Go Go.RowKit
structure retQLM (C : Cfg) (fn : Func) (h0 : Heap) (R : Value → Heap → Own → Prop) (e : Exit) (ds : List Deferred) (ρ : Env) (h : Heap) (L : Own) : Prop where
  ok : (e = .normal ∨ e = .ret) ∧ ∃ D f, ds = [{ target := .collected D, args := #[] }] ∧ At L D (.deferred (some [])) f ∧ Ext h0 h ∧ ∃ v, RetR C fn ρ h (f (.deferred none)) v ∧ ∃ L2, (∃ rest, (f (.deferred none)).Perm (L2 ++ rest)) ∧ R v h L2
theorem ret_okSM {C : Cfg} {fn : Func} {h0 h : Heap} {ρ : Env} {L L2 : Own} {rs : List ResultVar} {vs : List Value} {R : Value → Heap → Own → Prop} {e : Exit} {D : Nat} {f : Obj → Own} (hr : fn.results = ⟨rs⟩) [hx : Ext h0 h] [a : At L D (.deferred (some [])) f] (r : ResV C.P ρ (f (.deferred none)) rs vs) (sp : Sp L2 (f (.deferred none))) (hR : R (pack vs) h L2) (he : e = .normal ∨ e = .ret := by first | exact Or.inr rfl | exact Or.inl rfl) :
    retQLM C fn h0 R e [{ target := .collected D, args := #[] }] ρ h L := ⟨⟨he, D, f, rfl, a, hx, _, RetR.of hr r, L2, sp.p, hR⟩⟩
theorem FnIn.introM {C : Cfg} {L : Own} {h : Heap} {f : FuncId} {fn : Func} {c : Code} {args : List Value} {R : Value → Heap → Own → Prop} {n : Nat} (hf : C.P.funcs[f]? = some fn) (hb : fn.body = some c) (hn : fn.ntmps = n) (hl : args.length ≤ n)
    (hj : J ⟨C.P, none, n, C.w0, C.h0⟩ c (retQLM ⟨C.P, none, n, C.w0, C.h0⟩ fn h R) [] (argEnv args) h L) : FnIn C f args.toArray h L R := by
  intro w hw
  refine (callsIn_wide (n := 0)).1 (callsIn_of_wp_marks hf hb trivial (wpIn_mono (hj _ w (argAg hn hl) hw) ?_))
  rintro e a' w' ⟨ds, ρ, h', L', h1, h2, ⟨he, D, g, rfl, at1, hx, v, hv, L2, ⟨rest, hp⟩, hR⟩⟩
  have st3 : St C.w0 C.h0 h' (g (.deferred none)) (w'.putObj D (.deferred none)) := at1.put h2
  have htk := run_takeDeferred (P := C.P) (at1.heap h2)
  have post : LeavesInM Fence.wide 0 C.P fn a'.tmps (fun e w' => ∃ v h' L', e = .returned v ∧ Ext h h' ∧ St C.w0 C.h0 h' L' w' ∧ R v h' L') a'.defers .returning w' := by
    rw [h1.defers]
    refine ⟨by simp, .inl ⟨D, _, rfl, htk, ?_⟩⟩
    have hres := hv { a' with defers := [] } _ [] ⟨h1.size, rfl, h1.get⟩ st3
    exact ⟨v, hres, v, h', L2, rfl, hx, (st3.perm hp).sub (List.sublist_append_left _ _), hR⟩
  rcases he with rfl | rfl
  · exact post
  · exact post
/-- The keys of a map, in some order. -/
structure KeysOf {α : Type} (VR : Heap → Value → α → Prop) (h : Heap) (b : Nat) (m : List (Int × α)) (es : List MapEntry) (clk : Nat) : Prop where
  hb : h b = some (.map ⟨es⟩ clk)
  er : EntsR VR h es m
  bn : Born es clk
theorem ents_keys {α : Type} {VR : Heap → Value → α → Prop} {h : Heap} : ∀ {es : List MapEntry} {m : List (Int × α)}, EntsR VR h es m → es.map (·.key) = m.map fun p => Value.int .i64 p.1
  | [], [], _ => rfl
  | e :: es, (k, a) :: m, ⟨h1, _, h3⟩ => by simp [h1, ents_keys h3]
  | [], _ :: _, w => w.elim
  | _ :: _, [], w => w.elim
theorem ents_mem {α : Type} {VR : Heap → Value → α → Prop} {h : Heap} {e : MapEntry} {es : List MapEntry} {m : List (Int × α)} (w : EntsR VR h es m) (he : e ∈ es) : ∃ k : Int, e.key = .int .i64 k := by
  have : e.key ∈ es.map (·.key) := List.mem_map_of_mem he
  rw [ents_keys w] at this
  obtain ⟨p, _, hp⟩ := List.mem_map.1 this
  exact ⟨p.1, hp.symm⟩
theorem perm_of_born {done es : List MapEntry} (h1 : (es.map (·.born)).Nodup) (h2 : (done.map (·.born)).Nodup) (h3 : ∀ e ∈ done, e ∈ es) (h4 : ∀ e ∈ es, e.born ∈ done.map (·.born)) : done.Perm es := by
  have inj : ∀ {e e' : MapEntry}, e ∈ es → e' ∈ es → e.born = e'.born → e = e' := fun {e e'} he he' hb => by
    have a := find_born h1 he
    have b := find_born h1 he'
    rw [hb] at a
    rw [a] at b
    exact Option.some.inj b
  refine (List.perm_ext_iff_of_nodup (List.Pairwise.of_map _ (fun a b h e => h (e ▸ rfl)) h2) (List.Pairwise.of_map _ (fun a b h e => h (e ▸ rfl)) h1)).2 fun e => ⟨h3 e, fun he => ?_⟩
  obtain ⟨e', he', hb⟩ := List.mem_map.1 (h4 e he)
  rw [← inj (h3 e' he') he hb]; exact he'
section
variable {C : Cfg} {Q Q' : Post} {ds : List Deferred} {ρ : Env} {h h1 h2 : Heap} {L L' Ls Lb : Own} {ops : Array Oper} {rest : List Oper}
variable {d : Nat} {ty : TypeId} {pos : String} {after : Array Edge} {x : Operand} {T K E : TypeId} {it : Nat} {f : Obj → Own}
def iter0 : Obj := .mapIter none 0 #[] 0
theorem o_range0 [mp : Mp C.P T K E] (hx : ρ.ev x = .map none)
    (k : ∀ it, JL C ops Q rest ds (ρ.set d (.pointer (some ⟨it, 0, none⟩))) h ((it, iter0) :: L)) (hn : Nat.blt d C.n = true := by rfl) :
    JL C ops Q (⟨some d, .range T x, ty, pos, after, none⟩ :: rest) ds ρ h L :=
  JL.val rfl rfl rfl hn fun w hs => by
    refine ⟨_, h, _, w.alloc iter0, ?_, hs.alloc _, k _⟩
    simp only [execOp, hx]
    refine run_v ?_
    simp only [Instr.range, bind]
    rw [Sem.run_bind', und_run mp.u]
    rfl
theorem o_next0 (hx : ρ.ev x = .pointer (some ⟨it, 0, none⟩)) (A : At L it iter0 f)
    (k0 : JL C ops Q rest ds (ρ.set d (.tuple ⟨[.bool false]⟩)) h L) (hn : Nat.blt d C.n = true := by rfl) :
    JL C ops Q (⟨some d, .next x false, ty, pos, after, none⟩ :: rest) ds ρ h L :=
  JL.val rfl rfl rfl hn fun w hs => by
    have hit := A.heap hs
    refine ⟨_, h, L, w, ?_, hs, k0⟩
    simp only [execOp, hx]
    refine run_v ?_
    simp only [Instr.next, bind]
    rw [Sem.run_bind', show (getObj it).run C.P w = .ok iter0 w by simp [getObj, Sem.run, hit, iter0]]
    rfl
end
end Go.Z
end
section
set_option linter.unusedSimpArgs false
set_option linter.unusedVariables false
/- The keys of a map, collected into a slice, in whatever order. -/
set_option linter.unusedSimpArgs false
set_option linter.unusedVariables false
namespace Go.Z
open Go Go.RowKit Go.Proofs
/-- A function that yields the keys of a map. -/
def KeysV {α : Type} (VR : Heap → Value → α → Prop) (h : Heap) (v : Value) (m : List (Int × α)) : Prop := ∃ bb q, v = .func (.func 82) ⟨[]⟩ ⟨[.pointer (some ⟨bb, 0, none⟩)]⟩ ∧ CellN h bb 0 [.map q] ∧ MapF VR h (.map q) m
theorem KeysV.mono {α : Type} {VR : Heap → Value → α → Prop} [MoV VR] {h1 h : Heap} {v : Value} {m : List (Int × α)} (w : KeysV VR h1 v m) [e : Ext h1 h] : KeysV VR h v m := let ⟨bb, b, p, q, r⟩ := w; ⟨bb, b, p, q.mono e, r.mono⟩
theorem sub_len {α : Type} [DecidableEq α] : ∀ {l m : List α}, l.Nodup → (∀ a ∈ l, a ∈ m) → l.length ≤ m.length
  | [], m, _, _ => Nat.zero_le _
  | a :: l, m, hn, hs => by
    rw [List.nodup_cons] at hn
    have ha := hs a (by simp)
    have := sub_len (m := m.erase a) hn.2 (fun b hb => (List.mem_erase_of_ne (show b ≠ a from fun e => hn.1 (e ▸ hb))).2 (hs b (List.mem_cons_of_mem _ hb)))
    rw [List.length_erase_of_mem ha] at this
    have := List.length_pos_of_mem ha
    rw [List.length_cons]; omega
theorem born_lt {es done : List MapEntry} {clk : Nat} {e : MapEntry} (hb : Born es clk) (h1 : ∀ e ∈ done, e ∈ es) (h2 : (done.map (·.born)).Nodup) (he : e ∈ es) (hn : e.born ∉ done.map (·.born)) : done.length < es.length := by
  have := sub_len (l := e.born :: done.map (·.born)) (m := es.map (·.born)) (List.nodup_cons.2 ⟨hn, h2⟩) (fun b hb => by
    rcases List.mem_cons.1 hb with rfl | hb
    · exact List.mem_map_of_mem he
    · obtain ⟨x, hx, rfl⟩ := List.mem_map.1 hb
      exact List.mem_map_of_mem (h1 x hx))
  simp at this; omega
def theInt : Value → Int
  | .int _ z => z
  | _ => 0
theorem keys_perm {α : Type} {VR : Heap → Value → α → Prop} {h : Heap} {es done : List MapEntry} {clk : Nat} {m : List (Int × α)} {ks : List Int} (w : EntsR VR h es m) (hb : Born es clk) (h1 : ∀ e ∈ done, e ∈ es) (h2 : (done.map (·.born)).Nodup) (h3 : done.map (·.key) = ks.map (Value.int .i64)) (h4 : ∀ e ∈ es, e.born ∈ done.map (·.born)) : ks.Perm (m.map (·.1)) := by
  have a := ((perm_of_born hb.1 h2 h1 h4).map (·.key)).map theInt
  rw [h3, ents_keys w, List.map_map, List.map_map] at a
  simpa [theInt, Function.comp_def] using a
set_option maxHeartbeats 4000000 in
theorem appendSeq_own {rr : Option Nat} {nn : Nat} {w0 : World} {h0 : Heap} {L : Own} {α : Type} {VR : Heap → Value → α → Prop} {h : Heap} {m : List (Int × α)} {bb : Nat} {q : Option Nat} (hcb : CellN h bb 0 [.map q]) (hmf : ∃ b o, Value.map q = .map (some b) ∧ h b = some o ∧ MapR VR h o m) (hm : m.length ≤ 1000000) :
    FnIn ⟨Try.prog, rr, nn, w0, h0⟩ 85 #[.slice none 0 0, .func (.func 82) ⟨[]⟩ ⟨[.pointer (some ⟨bb, 0, none⟩)]⟩] h L fun r h' L' => ∃ ks p n c M, r = .slice p n c ∧ ks.Perm (m.map (·.1)) ∧ OwnL (KR .i64) 3 1 h' (.slice p n c) ks M ∧ L' = M ++ L := by
  obtain ⟨b, _, eq, hkb, es, clk, rfl, her, hbn⟩ := hmf
  cases eq
  refine FnIn.introM (args := [_, _]) Try.func85 rfl rfl (Nat.le_of_ble_eq_true rfl) ?_
  refine J.seq ?_
  refine J.region ?_
  first | refine o_bx (v := .slice _ _ _) rfl rfl (fun b2 => ?_) | refine o_bx rfl rfl (fun b2 => ?_)
  refine o_q (q_as) ?_
  refine JL.nil ?_
  refine J.seq ?_
  refine J.seq ?_
  refine J.region ?_
  first | refine o_q (q_mvv (v := .func _ _ _) rfl) ?_ | refine o_q (q_mv) ?_
  refine JL.nil ?_
  refine J.block ?_
  refine J.rangeFunc rfl rfl (fun fn tms lid D OB hOB htm => ?_)
  refine FnIn.intro (args := [_, _]) Try.func82 rfl rfl (Nat.le_of_ble_eq_true rfl) ?_
  refine J.seq ?_
  refine J.region ?_
  refine o_q (q_ldf rfl hcb) ?_
  refine o_range rfl hkb (fun it => ?_)
  refine JL.nil ?_
  refine J.block ?_
  -- loop 0: kept [0, 5], said []
  first | refine J.loopK (α := List MapEntry × List Int × Option Addr × Nat × Nat × Own) (fun ⟨done, ks, pv, nv, cv, Lb⟩ h' L' => (∀ e ∈ done, e ∈ es) ∧ (done.map (·.born)).Nodup ∧ done.map (·.key) = ks.map (Value.int .i64) ∧ (OwnL (KR .i64) 3 1 h' (.slice pv nv cv) ks Lb ∧ ks.length = done.length) ∧ Sp ((lid, OB .ready) :: (D, .deferred (some [])) :: (it, iterO b clk done) :: (b2, row 97 [.slice pv nv cv]) :: (Lb ++ L)) L') [(0, .func _ _ _), (5, _)] ⟨rfl, rfl, trivial⟩ (fun _ => []) (fun x => es.length - x.1.length) (([], [], none, 0, 0, [])) ⟨fun e he => (by cases he), by simp, rfl, ⟨OwnL.nil _, rfl⟩, inferInstance⟩ trivial ?_ | refine J.loopK (α := List MapEntry × List Int × Option Addr × Nat × Nat × Own) (fun ⟨done, ks, pv, nv, cv, Lb⟩ h' L' => (∀ e ∈ done, e ∈ es) ∧ (done.map (·.born)).Nodup ∧ done.map (·.key) = ks.map (Value.int .i64) ∧ (OwnL (KR .i64) 3 1 h' (.slice pv nv cv) ks Lb ∧ ks.length = done.length) ∧ Sp ((lid, OB .ready) :: (D, .deferred (some [])) :: (it, iterO b clk done) :: (b2, row 97 [.slice pv nv cv]) :: (Lb ++ L)) L') [(0, _), (5, _)] ⟨rfl, rfl, trivial⟩ (fun _ => []) (fun x => es.length - x.1.length) (([], [], none, 0, 0, [])) ⟨fun e he => (by cases he), by simp, rfl, ⟨OwnL.nil _, rfl⟩, inferInstance⟩ trivial ?_
  rintro ⟨done, ks, pv, nv, cv, Lb⟩ σ h1 L1 s1 ⟨hd1, hd2, hd3, ⟨ho, hd4⟩, hsp⟩
  refine J.sp hsp ?_
  refine J.seq ?_
  refine J.region ?_
  refine o_next rfl (Ext.le (h := h) (h' := h1) _ _ hkb) hbn inferInstance hd1 (fun hall => ?_) (fun e he1 he2 => ?_)
  ·
    refine o_q (q_ex rfl rfl) ?_
    refine JL.nil ?_
    refine J.seq ?_
    refine J.condF rfl rfl ?_
    refine J.exit ?_
    have hperm := keys_perm her hbn hd1 hd2 hd3 hall
    show retQL _ _ _ _ _ _ _ _ _
    refine ret_okL (fn := Try.f82) rfl .nil ?_
    refine ⟨_, inferInstance, ?_⟩
    refine J.seq ?_
    refine J.region ?_
    refine o_q (q_ld rfl inferInstance rfl) ?_
    refine o_q (q_asv (v := .slice _ _ _) rfl) ?_
    refine JL.nil ?_
    refine J.ret ?_
    exact ret_okSM (fn := Try.f85) (L2 := Lb ++ L) rfl (.tmp rfl .nil) inferInstance ⟨ks, pv, nv, cv, Lb, rfl, hperm, OwnL.mono ho, rfl⟩
  skip
  refine o_q (q_ex rfl rfl) ?_
  refine JL.nil ?_
  refine J.seq ?_
  refine J.condT rfl rfl ?_
  refine J.skip ?_
  refine J.block ?_
  refine J.seq ?_
  refine J.region ?_
  refine o_q (q_entry rfl hkb hbn inferInstance he1) ?_
  obtain ⟨kx, hkx⟩ := ents_mem her he1
  refine o_q (q_ex (v := .int .i64 kx) rfl (by rw [← hkx]; rfl)) ?_
  first | refine o_q (q_asv (v := .int _ _) rfl) ?_ | refine o_q (q_as) ?_
  refine JL.nil ?_
  refine J.seq ?_
  refine J.region ?_
  first | refine o_q (q_mvv (v := .func _ _ _) rfl) ?_ | refine o_q (q_mv) ?_
  first | refine o_q (q_mvv (v := .int _ _) rfl) ?_ | refine o_q (q_mv) ?_
  refine o_yield rfl hOB htm inferInstance rfl rfl ?_
  refine J.region ?_
  refine o_q (q_as) ?_
  refine JL.nil ?_
  refine ⟨rfl, _, inferInstance, ?_⟩
  refine J.block ?_
  refine J.region ?_
  refine o_q (q_ld rfl inferInstance rfl) ?_
  first | refine o_q (q_mvv (v := .int _ _) rfl) ?_ | refine o_q (q_mv) ?_
  first | refine o_bs [.int _ _] (by decide) rfl (fun b10 => ?_) | refine o_bs [_] (by decide) rfl (fun b10 => ?_)
  obtain ⟨l9, e9⟩ : ∃ l9, ks.length + 1 ≤ 1000000000 ∧ l9 = ks ++ [kx] := ⟨_, by have := born_lt hbn hd1 hd2 he1 he2; have := ents_len her; omega, rfl⟩
  refine JL.fact (fun h => Cells (KR .i64) 1 h [.int .i64 kx] [kx]) (Cells.cons (R := KR .i64) (us := [.int .i64 kx]) rfl rfl Cells.nil) (fun hc9 => ?_)
  refine o_appB (R := KR .i64) (l2 := [kx]) rfl rfl (OwnL.mono ho) inferInstance hc9 (show app ks [kx] = some l9 from by rw [e9.2]; exact app_at e9.1) (fun p9 c9 L9 ho9 => ?_)
  first | refine o_st1 (v := .slice _ _ _) rfl rfl rfl inferInstance (by first | decide | simp) ?_ | refine o_st1 rfl rfl rfl inferInstance (by first | decide | simp) ?_
  refine JL.nil ?_
  refine ⟨rfl, _, inferInstance, ?_⟩
  refine o_q (q_not rfl) ?_
  refine JL.nil ?_
  refine J.condF rfl rfl ?_
  refine J.skip ?_
  exact ⟨(done ++ [e], l9, p9, _, c9, L9), rfl, ⟨rfl, rfl, trivial⟩, trivial, ⟨(fun x hx => by rcases List.mem_append.1 hx with hx | hx; exact hd1 x hx; simp at hx; subst hx; exact he1), (by rw [List.map_append, List.nodup_append]; exact ⟨hd2, by simp, fun a ha b hb => by simp at hb; subst hb; exact fun hab => he2 (hab ▸ ha)⟩), (by rw [e9.2, List.map_append, List.map_append, hd3, List.map_cons, hkx]; rfl), ⟨OwnL.mono ho9, by rw [e9.2]; simp [hd4]⟩, (by show Sp ((lid, OB .ready) :: (D, .deferred (some [])) :: (it, iterO b clk (done ++ [e])) :: (b2, row 97 [.slice p9 l9.length c9]) :: (L9 ++ L)) (L9 ++ (b10, row 3 [.int .i64 kx]) :: (lid, OB .ready) :: (D, .deferred (some [])) :: (it, iterO b clk (done ++ [e])) :: (b2, row 97 [.slice p9 l9.length c9]) :: L); infer_instance)⟩, (by have := born_lt hbn hd1 hd2 he1 he2; simp; omega), inferInstance⟩
  -- unused hints: end
set_option maxHeartbeats 4000000 in
theorem appendSeq0_own {rr : Option Nat} {nn : Nat} {w0 : World} {h0 : Heap} {L : Own} {α : Type} {VR : Heap → Value → α → Prop} {h : Heap} {bb : Nat} (hcb : CellN h bb 0 [.map none]) :
    FnIn ⟨Try.prog, rr, nn, w0, h0⟩ 85 #[.slice none 0 0, .func (.func 82) ⟨[]⟩ ⟨[.pointer (some ⟨bb, 0, none⟩)]⟩] h L fun r h' L' => ∃ ks p n c M, r = .slice p n c ∧ ks.Perm (([] : List (Int × α)).map (·.1)) ∧ OwnL (KR .i64) 3 1 h' (.slice p n c) ks M ∧ L' = M ++ L := by
  refine FnIn.introM (args := [_, _]) Try.func85 rfl rfl (Nat.le_of_ble_eq_true rfl) ?_
  refine J.seq ?_
  refine J.region ?_
  first | refine o_bx (v := .slice _ _ _) rfl rfl (fun b2 => ?_) | refine o_bx rfl rfl (fun b2 => ?_)
  refine o_q (q_as) ?_
  refine JL.nil ?_
  refine J.seq ?_
  refine J.seq ?_
  refine J.region ?_
  first | refine o_q (q_mvv (v := .func _ _ _) rfl) ?_ | refine o_q (q_mv) ?_
  refine JL.nil ?_
  refine J.block ?_
  refine J.rangeFunc rfl rfl (fun fn tms lid D OB hOB htm => ?_)
  refine FnIn.intro (args := [_, _]) Try.func82 rfl rfl (Nat.le_of_ble_eq_true rfl) ?_
  refine J.seq ?_
  refine J.region ?_
  refine o_q (q_ldf rfl hcb) ?_
  refine o_range0 rfl (fun it => ?_)
  refine JL.nil ?_
  refine J.block ?_
  -- loop 0: kept [0, 5], said []
  first | refine J.loopK (α := Unit) (fun _ h' L' => Sp ((lid, OB .ready) :: (D, .deferred (some [])) :: (it, iter0) :: (b2, row 97 [.slice none 0 0]) :: L) L') [(0, .func _ _ _), (5, _)] ⟨rfl, rfl, trivial⟩ (fun _ => []) (fun _ => 0) (()) inferInstance trivial ?_ | refine J.loopK (α := Unit) (fun _ h' L' => Sp ((lid, OB .ready) :: (D, .deferred (some [])) :: (it, iter0) :: (b2, row 97 [.slice none 0 0]) :: L) L') [(0, _), (5, _)] ⟨rfl, rfl, trivial⟩ (fun _ => []) (fun _ => 0) (()) inferInstance trivial ?_
  rintro ⟨⟩ σ h1 L1 s1 hsp
  refine J.sp hsp ?_
  refine J.seq ?_
  refine J.region ?_
  refine o_next0 rfl inferInstance ?_
  refine o_q (q_ex rfl rfl) ?_
  refine JL.nil ?_
  refine J.seq ?_
  refine J.condF rfl rfl ?_
  refine J.exit ?_
  show retQL _ _ _ _ _ _ _ _ _
  refine ret_okL (fn := Try.f82) rfl .nil ?_
  refine ⟨_, inferInstance, ?_⟩
  refine J.seq ?_
  refine J.region ?_
  refine o_q (q_ld rfl inferInstance rfl) ?_
  first | refine o_q (q_asv (v := .slice _ _ _) rfl) ?_ | refine o_q (q_as) ?_
  refine JL.nil ?_
  refine J.ret ?_
  exact ret_okSM (fn := Try.f85) (L2 := L) rfl (.tmp rfl .nil) inferInstance ⟨[], none, 0, 0, [], rfl, List.Perm.refl _, OwnL.nil _, rfl⟩
  -- unused hints: after0
section
variable {rr : Option Nat} {nn : Nat} {w0 : World} {h0 : Heap} {L : Own} {α : Type} {VR : Heap → Value → α → Prop} {h : Heap} {v : Value} {m : List (Int × α)}
theorem keysSeq_own (r1 : KeysV VR h v m) (hm : m.length ≤ 1000000) :
    FnIn ⟨Try.prog, rr, nn, w0, h0⟩ 85 #[.slice none 0 0, v] h L fun r h' L' => ∃ ks p n c M, r = .slice p n c ∧ ks.Perm (m.map (·.1)) ∧ OwnL (KR .i64) 3 1 h' (.slice p n c) ks M ∧ L' = M ++ L := by
  obtain ⟨bb, q, rfl, hcb, hmf⟩ := r1
  rcases hmf with ⟨e, rfl⟩ | hmf
  · cases e; exact appendSeq0_own (α := α) (VR := VR) hcb
  · exact appendSeq_own hcb hmf hm
end
theorem keys_fn {α : Type} {VR : Heap → Value → α → Prop} [MoV VR] {h : Heap} {v : Value} {m : List (Int × α)} (r1 : MapF VR h v m) :
    Fn Try.prog 72 #[v] h fun r h' => KeysV VR h' r m := by
  obtain ⟨q, rfl, r1⟩ := r1.op
  refine Fn.intro (args := [_]) Try.func72 rfl rfl (Nat.le_of_ble_eq_true rfl) fun w => ?_
  refine J.seq ?_
  refine J.region ?_
  refine o_bx rfl rfl (fun b1 => ?_)
  refine JL.fz b1 (fun hh1 ss1 hb1 => ?_)
  refine o_q (q_as) ?_
  refine JL.nil ?_
  refine J.seq ?_
  refine J.region ?_
  refine o_q (q_mf) ?_
  first | refine o_q (q_asv (v := .func _ _ _) rfl) ?_ | refine o_q (q_as) ?_
  refine JL.nil ?_
  refine J.ret ?_
  exact ret_ok (fn := Try.f72) rfl (.tmp rfl .nil) ⟨_, _, rfl, ⟨_, _, _, hb1, LookN.all _⟩, r1.mono⟩
theorem collect_own {rr : Option Nat} {nn : Nat} {w0 : World} {h0 : Heap} {L : Own} {α : Type} {VR : Heap → Value → α → Prop} {h : Heap} {v : Value} {m : List (Int × α)} (r1 : KeysV VR h v m) (hm : m.length ≤ 1000000) :
    FnIn ⟨Try.prog, rr, nn, w0, h0⟩ 80 #[v] h L fun r h' L' => ∃ ks p n c M, r = .slice p n c ∧ ks.Perm (m.map (·.1)) ∧ OwnL (KR .i64) 3 1 h' (.slice p n c) ks M ∧ L' = M ++ L := by
  obtain ⟨bb, q, rfl, r2, r3⟩ := r1
  refine FnIn.intro (args := [_]) Try.func80 rfl rfl (Nat.le_of_ble_eq_true rfl) ?_
  refine J.seq ?_
  refine J.region ?_
  refine o_q (q_as) ?_
  refine JL.nil ?_
  refine J.seq ?_
  refine J.region ?_
  first | refine o_q (q_mvv (v := .func _ _ _) rfl) ?_ | refine o_q (q_mv) ?_
  refine o_calll (keysSeq_own (VR := VR) ⟨bb, q, rfl, r2, r3⟩ hm) (fun v4 h4 L4 s4 r4 => ?_)
  obtain ⟨ks, p, n, c, M, rfl, hp, ho, rfl⟩ := r4
  first | refine o_q (q_asv (v := .slice _ _ _) rfl) ?_ | refine o_q (q_as) ?_
  refine JL.nil ?_
  refine J.ret ?_
  exact ret_okS (fn := Try.f80) (L2 := M ++ L) rfl (.tmp rfl .nil) inferInstance ⟨ks, p, n, c, M, rfl, hp, OwnL.mono ho, rfl⟩
end Go.Z
end
section
set_option linter.unusedSimpArgs false
set_option linter.unusedVariables false
/- Sorting an owned slice of whole numbers: the library's contract of slices.SortFunc in the words of our calculus. -/
set_option linter.unusedSimpArgs false
set_option linter.unusedVariables false
namespace Go.Proofs
open Go.Shelf Go.RowKit Go.Lib Go.Sort
def Try.sortInt_ren : Go.Shelf.Ren := ⟨fun | 6 => 81 | 15 => 87 | 14 => 86 | 28 => 96 | 29 => 97 | 20 => 88 | 21 => 89 | 22 => 90 | 23 => 91 | 24 => 92 | 25 => 93 | 26 => 94 | 27 => 95 | 46 => 98 | 47 => 99 | 48 => 100 | 49 => 101 | 50 => 102 | 57 => 103 | n => n, fun | 22 => 97 | 24 => 3 | 25 => 102 | 3 => 3 | 39 => 79 | 0 => 0 | 53 => 78 | 55 => 76 | 4 => 4 | 46 => 118 | 45 => 117 | 50 => 122 | 5 => 5 | 9 => 9 | 66 => 126 | 70 => 130 | 76 => 132 | 77 => 133 | n => n, fun | n => n⟩
theorem Try.sortInt : Go.Proofs.SlLaysF.n6 Try.prog Try.sortInt_ren := {
  mixed := by kernel_rfl
  f6 := ⟨Try.f81.name, by decide, Try.func81.trans (congrArg some (by kernel_rfl))⟩
  f14 := ⟨Try.f86.name, by decide, Try.func86.trans (congrArg some (by kernel_rfl))⟩
  f15 := Try.func87.trans (congrArg some (by kernel_rfl))
  f20 := ⟨Try.f88.name, by decide, Try.func88.trans (congrArg some (by kernel_rfl))⟩
  f21 := ⟨Try.f89.name, by decide, Try.func89.trans (congrArg some (by kernel_rfl))⟩
  f22 := ⟨Try.f90.name, by decide, Try.func90.trans (congrArg some (by kernel_rfl))⟩
  f23 := ⟨Try.f91.name, by decide, Try.func91.trans (congrArg some (by kernel_rfl))⟩
  f24 := ⟨Try.f92.name, by decide, Try.func92.trans (congrArg some (by kernel_rfl))⟩
  f25 := ⟨Try.f93.name, by decide, Try.func93.trans (congrArg some (by kernel_rfl))⟩
  f26 := ⟨Try.f94.name, by decide, Try.func94.trans (congrArg some (by kernel_rfl))⟩
  f27 := ⟨Try.f95.name, by decide, Try.func95.trans (congrArg some (by kernel_rfl))⟩
  f28 := Try.func96.trans (congrArg some (by kernel_rfl))
  f29 := Try.func97.trans (congrArg some (by kernel_rfl))
  f46 := ⟨Try.f98.name, by decide, Try.func98.trans (congrArg some (by kernel_rfl))⟩
  f47 := Try.func99.trans (congrArg some (by kernel_rfl))
  f48 := Try.func100.trans (congrArg some (by kernel_rfl))
  f49 := ⟨Try.f101.name, by decide, Try.func101.trans (congrArg some (by kernel_rfl))⟩
  f50 := ⟨Try.f102.name, by decide, Try.func102.trans (congrArg some (by kernel_rfl))⟩
  f57 := ⟨Try.f103.name, by decide, Try.func103.trans (congrArg some (by kernel_rfl))⟩
  t0 := Try.underlying0
  a0 := Try.isAgg0
  z0 := Try.sizeOf0
  v0 := Try.zeroValue0
  t3 := Try.underlying3
  a3 := Try.isAgg3
  z3 := Try.sizeOf3
  v3 := Try.zeroValue3
  t4 := Try.underlying4
  a4 := Try.isAgg4
  z4 := Try.sizeOf4
  v4 := Try.zeroValue4
  t5 := Try.underlying5
  a5 := Try.isAgg5
  z5 := Try.sizeOf5
  v5 := Try.zeroValue5
  t9 := Try.underlying9
  a9 := Try.isAgg9
  z9 := Try.sizeOf9
  v9 := Try.zeroValue9
  t22 := Try.underlying97
  a22 := Try.isAgg97
  z22 := Try.sizeOf97
  v22 := Try.zeroValue97
  a24 := Try.isAgg3
  z24 := Try.sizeOf3
  t25 := Try.underlying102
  a25 := Try.isAgg102
  z25 := Try.sizeOf102
  v25 := Try.zeroValue102
  t39 := Try.underlying79
  a39 := Try.isAgg79
  z39 := Try.sizeOf79
  v39 := Try.zeroValue79
  t45 := Try.underlying117
  a45 := Try.isAgg117
  z45 := Try.sizeOf117
  v45 := Try.zeroValue117
  t46 := Try.underlying118
  a46 := Try.isAgg118
  z46 := Try.sizeOf118
  v46 := Try.zeroValue118
  t50 := Try.underlying122
  a50 := Try.isAgg122
  z50 := Try.sizeOf122
  v50 := Try.zeroValue122
  t53 := Try.underlying78
  a53 := Try.isAgg78
  z53 := Try.sizeOf78
  v53 := Try.zeroValue78
  t55 := Try.underlying76
  a55 := Try.isAgg76
  z55 := Try.sizeOf76
  v55 := Try.zeroValue76
  t66 := Try.underlying126
  a66 := Try.isAgg126
  z66 := Try.sizeOf126
  v66 := Try.zeroValue126
  t70 := Try.underlying130
  a70 := Try.isAgg130
  z70 := Try.sizeOf130
  v70 := Try.zeroValue130
  t76 := Try.underlying132
  a76 := Try.isAgg132
  z76 := Try.sizeOf132
  v76 := Try.zeroValue132
  t77 := Try.underlying133
  a77 := Try.isAgg133
  z77 := Try.sizeOf133
  v77 := Try.zeroValue133 }
def Try.cmpInt_ren : Go.Shelf.Ren := ⟨fun | 5 => 73 | 7 => 83 | n => n, fun | 22 => 3 | 3 => 3 | 4 => 4 | n => n, fun | n => n⟩
theorem Try.cmpInt : Go.Proofs.SlLaysC2.n5 Try.prog Try.cmpInt_ren := {
  mixed := by kernel_rfl
  f5 := ⟨Try.f73.name, by decide, Try.func73.trans (congrArg some (by kernel_rfl))⟩
  f7 := ⟨Try.f83.name, by decide, Try.func83.trans (congrArg some (by kernel_rfl))⟩
  t3 := Try.underlying3
  a3 := Try.isAgg3
  z3 := Try.sizeOf3
  v3 := Try.zeroValue3
  t4 := Try.underlying4
  a4 := Try.isAgg4
  z4 := Try.sizeOf4
  v4 := Try.zeroValue4
  t22 := Try.underlying3
  a22 := Try.isAgg3
  z22 := Try.sizeOf3
  v22 := Try.zeroValue3 }
end Go.Proofs
namespace Go.Z
open Go Go.RowKit Go.Proofs Go.Sort
variable {h h1 : Heap}
theorem lt_int (x y : Int) : ltOf Lib.compareInt x y = decide (x < y) := by
  have : Lib.compareInt x y < 0 ↔ x < y := by
    unfold Lib.compareInt
    by_cases a : x < y
    · rw [if_pos a]; simp [a]
    · rw [if_neg a]
      by_cases b : x > y
      · rw [if_pos b]; simp [a]
      · rw [if_neg b]; simp [a]
  exact decide_eq_decide.2 this
theorem srt_eq (l : List Int) : (l.mergeSort fun x y => !(ltOf Lib.compareInt y x)) = M.srtI l := by
  unfold M.srtI
  congr 1
  funext x y
  rw [lt_int]
  by_cases a : y < x
  · have : ¬ x ≤ y := by omega
    simp [a, this]
  · have : x ≤ y := by omega
    simp [a, this]
theorem swo_int : SWO (ltOf Lib.compareInt) := by
  refine ⟨fun x => ?_, fun x y z => ?_, fun x y z => ?_⟩ <;> simp only [lt_int, decide_eq_true_eq, decide_eq_false_iff_not] <;> omega
theorem tot_int (x y : Int) (h1 : ltOf Lib.compareInt x y = false) (h2 : ltOf Lib.compareInt y x = false) : x = y := by
  simp only [lt_int, decide_eq_false_iff_not] at h1 h2
  omega
theorem St.grow {w0 : World} {h0 h : Heap} {L : Own} {w : World} (s : St w0 h0 h L w) (os : Array Obj) : St w0 h0 h L (Sort.grow w os) := by
  have hn : ∀ k, k < w.heap.size → (Sort.grow w os).heap[k]? = w.heap[k]? := fun k hk => heap_grow_old w os hk
  refine ⟨⟨s.below.os, s.below.tape, s.below.output, ?_, fun k hk => ?_⟩, s.ge, s.old, fun b o hb => (hn b (s.lt hb)).trans (s.fro b o hb), fun p hp => ⟨(s.own p hp).1, (hn _ (s.ownLt hp)).trans (s.own p hp).2.1, (s.own p hp).2.2⟩, s.nd⟩
  · have := s.below.size
    simp [Sort.grow]; omega
  · have := s.below.size
    rw [hn k (by omega)]; exact s.below.block k hk
theorem St.ahead {w0 : World} {h0 h : Heap} {L : Own} {w : World} (s : St w0 h0 h L w) (n : Nat) : St w0 h0 h L (Sort.ahead w n) :=
  ⟨⟨s.below.os, s.below.tape, s.below.output, s.below.size, s.below.block⟩, s.ge, s.old, s.fro, s.own, s.nd⟩
theorem ints_cells : ∀ {xs : List Value} {ks : List Int}, Cells (KR .i64) 1 h xs ks → xs = ks.map (Value.int .i64) := by
  intro xs ks hc
  refine List.ext_getElem? fun i => ?_
  have hl := hc.1
  by_cases hi : i < ks.length
  · obtain ⟨x, hx⟩ := lt_get hi
    have h2 : (xs.drop (i * 1)).take 1 = [.int .i64 x] := hc.2 i x hx
    have h3 := congrArg (fun l => l[0]?) h2
    simp only [Nat.mul_one, List.getElem?_take, List.getElem?_drop, Nat.add_zero] at h3
    rw [List.getElem?_map, hx]
    simpa using h3
  · rw [List.getElem?_eq_none (by omega), List.getElem?_eq_none (by simp; omega)]
theorem cells_ints (h : Heap) : ∀ ks : List Int, Cells (KR .i64) 1 h (ks.map (Value.int .i64)) ks
  | [] => Cells.nil
  | k :: ks => Cells.cons (R := KR .i64) (us := [.int .i64 k]) rfl rfl (cells_ints h ks)
theorem put_ints (d : List Int) (ks sp : List Value) (hd : d.length = ks.length) : putCells (Value.int .i64) 0 d.toArray ⟨ks ++ sp⟩ = ⟨d.map (Value.int .i64) ++ sp⟩ := by
  unfold putCells
  refine Array.ext' ?_
  rw [Array.toList_mapIdx]
  refine List.ext_getElem? fun i => ?_
  rw [List.getElem?_mapIdx]
  by_cases hi : i < d.length
  · rw [List.getElem?_append_left (by omega), List.getElem?_append_left (by simp; omega)]
    simp [hi, show i < ks.length by omega]
  · rw [List.getElem?_append_right (by omega), List.getElem?_append_right (by simp; omega)]
    have : ¬ i < ks.length := by omega
    simp [this, hd]
section
variable {rr : Option Nat} {nn : Nat} {w0 : World} {h0 : Heap} {L Lk : Own} {p : Option Addr} {n c : Nat} {ks : List Int}
set_option maxRecDepth 100000 in
theorem sort_in (ho : OwnL (KR .i64) 3 1 h (.slice p n c) ks Lk) (hks : ks.length ≤ 1000000) :
    FnIn ⟨Try.prog, rr, nn, w0, h0⟩ 81 #[.slice p n c, .func (.func 73) #[] #[]] h (Lk ++ L) fun v h' L' => v = .tuple #[] ∧ ∃ M', OwnL (KR .i64) 3 1 h' (.slice p n c) (M.srtI ks) M' ∧ L' = M' ++ L := by
  intro w hs
  obtain ⟨xs, ⟨hx1, hx2⟩, hc⟩ := ho
  have hxs := ints_cells hc
  subst hxs
  rcases hx2 with ⟨q, e, hq, h3, rfl⟩ | ⟨b, c', sp, e, rfl, h3, h4⟩
  · cases e
    obtain rfl := List.eq_nil_of_length_eq_zero h3
    refine (AnyF.slices_SortFunc_none (P := Try.prog) (ρ := Try.sortInt_ren) { Try.sortInt with } p 0 _ w).mono ?_
    rintro e w' ⟨rfl, rfl⟩
    refine ⟨_, h, L, rfl, Ext.refl h, hs, rfl, [], ?_, rfl⟩
    rw [show M.srtI ([] : List Int) = [] from by simp [M.srtI]]
    exact ⟨[], ⟨rfl, .inl ⟨p, rfl, hq, rfl, rfl⟩⟩, Cells.nil⟩
  · cases e
    have hb : w.heap[b]? = some (row 3 (ks.map (Value.int .i64) ++ sp)) := (hs.own (b, _) (by simp)).2.1
    have hbl : b < w.heap.size := (Array.getElem?_eq_some_iff.1 hb).1
    have H : Holds (Value.int .i64) w b 0 ks.toArray := fun j hj => by
      have hj' : j < ks.length := by simpa using hj
      constructor
      · simp [World.cell?, hb, row, hj', List.getElem?_append]
      · simp [World.frozen?, hb, row]
    have eg : ∀ args w, (callFunc 73 args).run Try.prog w = .ok (.enter 73 args) w := enters_of Try.func73 (by kernel_rfl) rfl
    have cmp : CmpReads Try.prog 73 #[] (Value.int .i64) Lib.compareInt b 0 ks.toArray.size w := fun m os dk hs x y => by
      refine (AnyG.cmp_Compare_int Try.cmpInt x y _).mono ?_
      rintro e w' ⟨rfl, rfl⟩
      exact ⟨rfl, 0, rfl⟩
    have key := Any.slices_SortFunc_total Try.sortInt (Value.int .i64) (fun _ => rfl) Lib.compareInt swo_int 73 #[] b 0 c ks.toArray w eg cmp.lays H hbl (by simp; omega) tot_int
    rw [List.size_toArray, List.toList_toArray, srt_eq] at key
    refine key.mono ?_
    rintro e w' ⟨rfl, n, os, rfl⟩
    have hlen : (M.srtI ks).length = ks.length := by simp [M.srtI]
    have st := (hs.ahead n)
    have st2 : St w0 h0 h ([(b, row 3 ((M.srtI ks).map (Value.int .i64) ++ sp))] ++ L) (putRow (Value.int .i64) (Sort.ahead w n) b 0 (M.srtI ks).toArray) := by
      refine St.upd (L1 := []) (L2 := L) st rfl rfl rfl (by simp) ?_ (fun k hk => ?_)
      · simp only [putRow, mapBlock, Array.getElem?_modify, Sort.ahead, hb]
        simp only [if_true, Option.map_some, row, onCells]
        rw [put_ints _ _ _ (by simp [hlen])]
      · simp only [putRow, mapBlock, Array.getElem?_modify, Sort.ahead]
        rw [if_neg (fun e => hk e.symm)]
    refine ⟨_, h, _, rfl, Ext.refl h, st2.grow os, rfl, _, ⟨_, ⟨?_, .inr ⟨b, c, sp, ?_, rfl, ?_, ?_⟩⟩, cells_ints h _⟩, rfl⟩
    · simp
    · rw [hlen]
    · rw [hlen]; exact h3
    · simpa [hlen] using h4
end
end Go.Z
end
section
set_option linter.unusedSimpArgs false
set_option linter.unusedVariables false
/- The keys of a map, sorted. -/
set_option linter.unusedSimpArgs false
set_option linter.unusedVariables false
namespace Go.Z
open Go Go.RowKit Go.Proofs
theorem srtI_perm {l m : List Int} (p : l.Perm m) : M.srtI l = M.srtI m := by
  have tr : ∀ a b c : Int, decide (a ≤ b) = true → decide (b ≤ c) = true → decide (a ≤ c) = true := by intro a b c h1 h2; simp at h1 h2 ⊢; omega
  have to : ∀ a b : Int, (decide (a ≤ b) || decide (b ≤ a)) = true := by intro a b; simp; omega
  have a := List.pairwise_mergeSort (le := fun x y : Int => decide (x ≤ y)) tr to l
  have b := List.pairwise_mergeSort (le := fun x y : Int => decide (x ≤ y)) tr to m
  have q : (M.srtI l).Perm (M.srtI m) := (List.mergeSort_perm l _).trans (p.trans (List.mergeSort_perm m _).symm)
  exact q.eq_of_pairwise (le := fun x y => decide (x ≤ y) = true) (fun x y _ _ h1 h2 => by simp at h1 h2; omega) a b
theorem sorted_fn {α : Type} {VR : Heap → Value → α → Prop} {h : Heap} {v : Value} {m : List (Int × α)} {r : List Int} (r1 : KeysV VR h v m) (hm : M.skeys m = some r) :
    Fn Try.prog 71 #[v, .func (.func 73) #[] #[]] h fun v h' => Sls (KR .i64) 1 h' v r := by
  obtain ⟨bb, q, rfl, r2, r3⟩ := r1
  obtain ⟨hm1, rfl⟩ : m.length ≤ 1000000 ∧ r = M.srtI (m.map (·.1)) := by
    unfold M.skeys at hm; split at hm
    · exact ⟨‹_›, (Option.some.inj hm).symm⟩
    · cases hm
  refine Fn.intro (args := [_, _]) Try.func71 rfl rfl (Nat.le_of_ble_eq_true rfl) fun w => ?_
  refine J.seq ?_
  refine J.region ?_
  refine o_q (q_as) ?_
  refine JL.nil ?_
  refine J.seq ?_
  refine J.region ?_
  first | refine o_q (q_mvv (v := .func _ _ _) rfl) ?_ | refine o_q (q_mv) ?_
  refine o_calll (collect_own (VR := VR) ⟨bb, q, rfl, r2, r3⟩ hm1) (fun v4 h4 L4 s4 r4 => ?_)
  obtain ⟨ks, p, n, c, M1, rfl, hp, ho, rfl⟩ := r4
  first | refine o_q (q_asv (v := .slice _ _ _) rfl) ?_ | refine o_q (q_as) ?_
  refine JL.nil ?_
  refine J.seq ?_
  refine J.region ?_
  first | refine o_q (q_mvv (v := .slice _ _ _) rfl) ?_ | refine o_q (q_mv) ?_
  first | refine o_q (q_mvv (v := .func _ _ _) rfl) ?_ | refine o_q (q_mv) ?_
  refine o_calll (sort_in (L := []) ho (by rw [hp.length_eq, List.length_map]; exact hm1)) (fun v5 h5 L5 s5 r5 => ?_)
  obtain ⟨rfl, M2, ho2, rfl⟩ := r5
  refine JL.fzO ho2 (fun h6 s6 f6 => ?_)
  rw [srtI_perm hp] at f6
  refine JL.nil ?_
  refine J.seq ?_
  refine J.region ?_
  first | refine o_q (q_mvv (v := .slice _ _ _) rfl) ?_ | refine o_q (q_mv) ?_
  first | refine o_q (q_asv (v := .slice _ _ _) rfl) ?_ | refine o_q (q_as) ?_
  refine JL.nil ?_
  refine J.ret ?_
  exact ret_ok (fn := Try.f71) rfl (.tmp rfl .nil) f6.mono
end Go.Z
end
