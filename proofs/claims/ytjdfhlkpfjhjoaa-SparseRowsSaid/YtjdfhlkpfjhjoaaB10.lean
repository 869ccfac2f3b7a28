/- The calculus beneath the proofs: freezing of owned blocks, operations on bits. No program is named here. -/
import Derived.Test.YtjdfhlkpfjhjoaaB9
set_option linter.unusedSimpArgs false
set_option linter.unusedVariables false
namespace Go.Z
open Go Go.RowKit

variable {C : Cfg} {Q Q' : Post} {ds : List Deferred} {ρ : Env} {h : Heap} {L : Own} {ops : Array Oper} {rest : List Oper}
variable {d : Nat} {ty : TypeId} {pos : String} {after : Array Edge} {S : World → Prop}

instance (priority := 900) AtS.one {p : Nat × Obj} {L2 : Own} : AtS (p :: L2) [p] (fun x => x ++ L2) := ⟨[], L2, rfl, fun _ => rfl⟩

theorem AtS.perm {L Lb : Own} {f : Own → Own} (a : AtS L Lb f) : L.Perm (Lb ++ f []) := by
  obtain ⟨L1, L2, h1, h2⟩ := a.e
  rw [h1, h2]
  simp only [List.nil_append]
  rw [← List.append_assoc, ← List.append_assoc]
  exact List.Perm.append_right _ List.perm_append_comm

theorem JL.fz1 {b : Nat} {o : Obj} (k : ∀ h', Step h h' → h' b = some o → JL C ops Q rest ds ρ h' L) : JL C ops Q rest ds ρ h ((b, o) :: L) :=
  fun a w ha hs => k _ hs.freeze.2 (by simp) a w ha hs.freeze.1
/-- A block of one's own is written no more. -/
theorem JL.fz {f : Own → Own} (b : Nat) {o : Obj} {g : Obj → Own} [q0 : At L b o g] [a : AtS L [(b, o)] f] (k : ∀ h', Step h h' → h' b = some o → JL C ops Q rest ds ρ h' (f [])) : JL C ops Q rest ds ρ h L :=
  JL.perm a.perm (JL.fz1 k)
theorem J.fz {c : Code} {f : Own → Own} (b : Nat) {o : Obj} {g : Obj → Own} [q0 : At L b o g] [a : AtS L [(b, o)] f] (k : ∀ h', Step h h' → h' b = some o → J C c Q ds ρ h' (f [])) : J C c Q ds ρ h L :=
  J.perm a.perm (J.freeze k)
/-- A slice of one's own is written no more. -/
theorem OwnS.split {T : TypeId} {sz n : Nat} {v : Value} {xs : List Value} {Lb : Own} (o : OwnS T sz v n xs Lb) :
    (Lb = [] ∧ ∀ h, SlAt h v n sz xs) ∨ ∃ b ob, Lb = [(b, ob)] ∧ ∀ h : Heap, h b = some ob → SlAt h v n sz xs := by
  obtain ⟨h1, h2⟩ := o
  rcases h2 with ⟨p, rfl, hp, rfl, rfl⟩ | ⟨b, c, sp, rfl, rfl, h3, h4⟩
  · obtain rfl : xs = [] := List.eq_nil_of_length_eq_zero (by simpa using h1)
    exact .inl ⟨rfl, fun h => ⟨p, 0, rfl, Nat.le_refl _, by simp, .inl ⟨rfl, fun _ _ => trivial⟩⟩⟩
  · refine .inr ⟨b, _, rfl, fun h hb => ⟨_, c, rfl, h3, h1, .inr ⟨b, 0, rfl, _, T, _, hb, ?_⟩⟩⟩
    exact LookN.of_get (vs := xs) (o := 0) fun j u hj => by simpa [List.getElem?_append_left (List.getElem?_eq_some_iff.1 hj).1] using hj
theorem AtS.emp {L : Own} {f : Own → Own} (a : AtS L [] f) : L = f [] := by
  obtain ⟨L1, L2, h1, h2⟩ := a.e
  rw [h1, h2]
theorem JL.fzS {T : TypeId} {sz n : Nat} {v : Value} {xs : List Value} {Lb : Own} {f : Own → Own} (o : OwnS T sz v n xs Lb) [a : AtS L Lb f]
    (k : ∀ h', Step h h' → SlAt h' v n sz xs → JL C ops Q rest ds ρ h' (f [])) : JL C ops Q rest ds ρ h L := by
  rcases o.split with ⟨rfl, hs⟩ | ⟨b, ob, rfl, hs⟩
  · rw [a.emp]; exact k h ⟨fun _ _ x => x⟩ (hs h)
  · exact JL.perm a.perm (JL.fz1 fun h' st hb => k h' st (hs h' hb))
theorem J.fzS {c : Code} {T : TypeId} {sz n : Nat} {v : Value} {xs : List Value} {Lb : Own} {f : Own → Own} (o : OwnS T sz v n xs Lb) [a : AtS L Lb f]
    (k : ∀ h', Step h h' → SlAt h' v n sz xs → J C c Q ds ρ h' (f [])) : J C c Q ds ρ h L := by
  rcases o.split with ⟨rfl, hs⟩ | ⟨b, ob, rfl, hs⟩
  · rw [a.emp]; exact k h ⟨fun _ _ x => x⟩ (hs h)
  · exact J.perm a.perm (J.freeze fun h' st hb => k h' st (hs h' hb))
theorem OwnS.out {T : TypeId} {sz n : Nat} {v : Value} {xs : List Value} {Lb : Own} (o : OwnS T sz v n xs Lb) : ∃ p c, v = .slice p n c := by
  rcases o.2 with ⟨p, rfl, _, rfl, rfl⟩ | ⟨b, c, sp, rfl, rfl, _, _⟩
  · exact ⟨_, _, rfl⟩
  · exact ⟨_, _, rfl⟩
theorem SlAt.out {h : Heap} {n sz : Nat} {v : Value} {xs : List Value} (o : SlAt h v n sz xs) : ∃ p c, v = .slice p n c := by
  obtain ⟨p, c, rfl, _⟩ := o; exact ⟨p, c, rfl⟩

/-! ### Bits -/
section bits
variable {x y : Operand} {T T' : TypeId} {a b : Nat} {c : Int}
theorem ofNat32 {a : Nat} (ha : a < 4294967296) : (BitVec.ofNat 32 a).toNat = a := by
  rw [BitVec.toNat_ofNat]; exact Nat.mod_eq_of_lt ha
theorem ofInt32 {a : Nat} (ha : a < 4294967296) : (BitVec.ofInt 32 (a : Int)).toNat = a := by
  rw [BitVec.ofInt_natCast, BitVec.toNat_ofNat]; exact Nat.mod_eq_of_lt ha
theorem q_xor32 (hx : ρ.ev x = .int .u32 (a : Int)) (hy : ρ.ev y = .int .u32 (b : Int)) (ha : a < 4294967296) (hb : b < 4294967296) : Qr C ρ S (.binOp .xor T x y T') ty (.int .u32 ((a ^^^ b : Nat) : Int)) := ⟨rfl, fun w _ => by
  have h1 := ofInt32 ha
  have h2 := ofInt32 hb
  have h3 : a ^^^ b < 2 ^ 32 := Nat.xor_lt_two_pow ha hb
  have hw : IntKind.u32.wrap ((a ^^^ b : Nat) : Int) = ((a ^^^ b : Nat) : Int) := wu32 (by omega)
  simp [execOp, eqGuard, binOp, Op.intBits, hx, hy, IntKind.bits, h1, h2, hw, Sem.run, bind, Sem.bind, pure]
  exact (congrArg (fun n : Nat => IntKind.u32.wrap (n : Int)) (show (BitVec.ofNat 32 a ^^^ BitVec.ofNat 32 b).toNat = a ^^^ b by rw [BitVec.toNat_xor, ofNat32 ha, ofNat32 hb])).trans hw⟩
theorem q_and32 (hx : ρ.ev x = .int .u32 (a : Int)) (hy : ρ.ev y = .int .u32 (b : Int)) (ha : a < 4294967296) (hb : b < 4294967296) : Qr C ρ S (.binOp .and T x y T') ty (.int .u32 ((a &&& b : Nat) : Int)) := ⟨rfl, fun w _ => by
  have h1 := ofInt32 ha
  have h2 := ofInt32 hb
  have h3 : a &&& b < 2 ^ 32 := Nat.and_lt_two_pow a hb
  have hw : IntKind.u32.wrap ((a &&& b : Nat) : Int) = ((a &&& b : Nat) : Int) := wu32 (by omega)
  simp [execOp, eqGuard, binOp, Op.intBits, hx, hy, IntKind.bits, h1, h2, hw, Sem.run, bind, Sem.bind, pure]
  exact (congrArg (fun n : Nat => IntKind.u32.wrap (n : Int)) (show (BitVec.ofNat 32 a &&& BitVec.ofNat 32 b).toNat = a &&& b by rw [BitVec.toNat_and, ofNat32 ha, ofNat32 hb])).trans hw⟩
theorem q_or32 (hx : ρ.ev x = .int .u32 (a : Int)) (hy : ρ.ev y = .int .u32 (b : Int)) (ha : a < 4294967296) (hb : b < 4294967296) : Qr C ρ S (.binOp .or T x y T') ty (.int .u32 ((a ||| b : Nat) : Int)) := ⟨rfl, fun w _ => by
  have h1 := ofInt32 ha
  have h2 := ofInt32 hb
  have h3 : a ||| b < 2 ^ 32 := Nat.or_lt_two_pow ha hb
  have hw : IntKind.u32.wrap ((a ||| b : Nat) : Int) = ((a ||| b : Nat) : Int) := wu32 (by omega)
  simp [execOp, eqGuard, binOp, Op.intBits, hx, hy, IntKind.bits, h1, h2, hw, Sem.run, bind, Sem.bind, pure]
  exact (congrArg (fun n : Nat => IntKind.u32.wrap (n : Int)) (show (BitVec.ofNat 32 a ||| BitVec.ofNat 32 b).toNat = a ||| b by rw [BitVec.toNat_or, ofNat32 ha, ofNat32 hb])).trans hw⟩
theorem q_com32 (hx : ρ.ev x = .int .u32 (a : Int)) (ha : a < 4294967296) : Qr C ρ S (.unOp .xor T x) ty (.int .u32 ((4294967295 ^^^ a : Nat) : Int)) := ⟨rfl, fun w _ => by
  have h1 := ofInt32 ha
  have h2 : (BitVec.ofInt 32 4294967295).toNat = 4294967295 := by decide
  have h3 : 4294967295 ^^^ a < 2 ^ 32 := Nat.xor_lt_two_pow (by decide) ha
  have hw : IntKind.u32.wrap ((4294967295 ^^^ a : Nat) : Int) = ((4294967295 ^^^ a : Nat) : Int) := wu32 (by omega)
  have hm : IntKind.u32.max = 4294967295 := by decide
  simp [execOp, Op.unary, Op.intBits, hx, IntKind.bits, IntKind.signed, hm, BitVec.toNat_xor, h1, h2, hw, Sem.run, bind, Sem.bind, pure]
  exact (congrArg (fun n : Nat => IntKind.u32.wrap (n : Int)) (show (4294967295#32 ^^^ BitVec.ofNat 32 a).toNat = 4294967295 ^^^ a by rw [BitVec.toNat_xor, ofNat32 ha]; rfl)).trans hw⟩
end bits
/-! ### A guard that was itself passed over -/
theorem yielded_none {n : Nat} {a : Act} (ha : Ag n ds a ρ) {j t : Nat} (hj : (ops[j]?).bind (·.dst) = some t) (hb : ρ t = undef) : yielded ops a.tmps j = none := by
  have hg := ha.get t
  rw [hb] at hg
  simp only [yielded, hj, Option.bind_some]
  rcases Nat.lt_or_ge t a.tmps.size with h | h
  · simp [h] at hg; simp [h, hg, undef]
  · simp [h]
theorem JL.guardU {op : Op} {j t d : Nat} {want : Bool} (hj : (ops[j]?).bind (·.dst) = some t) (hb : ρ t = undef) (hn : Nat.blt d C.n = true)
    (k : JL C ops Q rest ds (ρ.set d undef) h L) : JL C ops Q (⟨some d, op, ty, pos, after, some (j, want)⟩ :: rest) ds ρ h L := fun a w ha hs => by
  have hw1 : ¬ Region.wanted ⟨some d, op, ty, pos, after, some (j, want)⟩ (yielded ops a.tmps) = true := by
    simp only [Region.wanted]; rw [yielded_none ha hj hb]; simp
  simp only [wpL]
  rw [if_neg hw1]
  exact k _ _ (ha.put hn undef) hs
theorem JD.passU {M : List Nat} {listed : Array Bool} {fuel : Nat} {op : Op} (i : Nat) {j t : Nat} {want : Bool} (chk : (takeOk ops listed [] i && !M.contains i) = true) (ho : ops[i]? = some ⟨some d, op, ty, pos, after, some (j, want)⟩)
    (hj : (ops[j]?).bind (·.dst) = some t) (hb : ρ t = undef) (hS : ∀ w, St C.w0 C.h0 h L w → S w)
    (k : JD C ops Q S M fuel (listed.setIfInBounds i true) ds (ρ.set d undef) h L) (hn : Nat.blt d C.n = true := by rfl) :
    JD C ops Q S M (fuel + 1) listed ds ρ h L := fun a w ha hs => by
  simp only [takeOk, Bool.and_eq_true, Bool.not_eq_true'] at chk
  obtain ⟨⟨⟨⟨⟨c1, c2⟩, c3⟩, c4⟩, c5⟩, c6⟩ := chk
  refine wpAnyS_pure ho c1 (all_calm c2) (fun _ _ _ => noP_panic) (fun _ _ => noP_out) fuel S M listed a w (Region.free_spec ho c3) (by simpa using c4) (by simpa using c6)
    (.inr ⟨?_, rfl⟩) (hS _ hs) (k _ _ (ha.put hn undef) hs)
  simp only [Region.wanted]; rw [yielded_none ha hj hb]; rfl
/-! ### Values said in their form, so that environments stay small -/
theorem q_mvv {x : Operand} {v : Value} (hv : ρ.ev x = v) : Qr C ρ S (.move x) ty v := ⟨rfl, fun _ _ => by subst hv; rfl⟩
theorem q_asv {x : Operand} {v : Value} (hv : ρ.ev x = v) : Qr C ρ S (.assign x) ty v := ⟨rfl, fun _ _ => by subst hv; rfl⟩
theorem q_pickTv {c x y : Operand} {b : Bool} {v : Value} (hc : ρ.ev c = .bool b) (hb : b = true) (hv : ρ.ev x = v) : Qr C ρ S (.pick c x y) ty v := by subst hv; exact q_pickT hc hb
theorem q_pickFv {c x y : Operand} {b : Bool} {v : Value} (hc : ρ.ev c = .bool b) (hb : b = false) (hv : ρ.ev y = v) : Qr C ρ S (.pick c x y) ty v := by subst hv; exact q_pickF hc hb
theorem keep_of {ρ : Env} : ∀ {kv : List (Nat × Value)}, Has ρ kv → keepOf ρ (kv.map (·.1)) = kv
  | [], _ => rfl
  | (t, v) :: l, ⟨e, hl⟩ => by simp only [List.map_cons, keepOf, keep_of hl, e]
theorem J.loopK {α : Type} {c : Code} (I : α → Heap → Own → Prop) (kv : List (Nat × Value)) (hk : Has ρ kv) (sl : α → List (Nat × Value)) (μ : α → Nat) (x0 : α)
    (h0 : I x0 h L) (hs : Has ρ (sl x0))
    (round : ∀ x σ h' L', Step h h' → I x h' L' →
      J C c (thenQ (fun ds' ρ' h'' L'' => ∃ x', ds' = ds ∧ Has ρ' kv ∧ Has ρ' (sl x') ∧ I x' h'' L'' ∧ μ x' < μ x ∧ Ext h h'') Q) ds
        (setAll (setAll σ kv) (sl x)) h' L') : J C (.loop c) Q ds ρ h L := by
  have := J.loop (C := C) (Q := Q) (ds := ds) (ρ := ρ) (c := c) I (kv.map (·.1)) sl μ x0 h0 hs
  rw [keep_of hk] at this
  exact this round
theorem J.cutK {α : Type} {x y : Code} (I : α → Heap → Own → Prop) (kv : List (Nat × Value)) (hk : Has ρ kv) (sl : α → List (Nat × Value))
    (hx : J C x (thenQ (fun ds' ρ' h' L' => ∃ z, ds' = ds ∧ Has ρ' kv ∧ Has ρ' (sl z) ∧ I z h' L' ∧ Ext h h') Q) ds ρ h L)
    (hy : ∀ z σ h' L', Step h h' → I z h' L' → J C y Q ds (setAll (setAll σ kv) (sl z)) h' L') : J C (.seq x y) Q ds ρ h L := by
  have := J.cutS (C := C) (Q := Q) (ds := ds) (ρ := ρ) (x := x) (y := y) (h := h) (L := L) I (kv.map (·.1)) sl
  rw [keep_of hk] at this
  exact this hx hy
end Go.Z
