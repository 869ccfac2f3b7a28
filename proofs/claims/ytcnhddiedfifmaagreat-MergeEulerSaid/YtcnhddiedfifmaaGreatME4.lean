/- Texts of ours, joined: Tz, Ty, Int, Int2, Int3, Int4, Int5, RowLaw, IntLaw, Prim1, Int6, Prim2, Prim3, Ty2, DMW, M1W. -/
import Derived.Test.YtcnhddiedfifmaaGreatME2
import Derived.Test.YtcnhddiedfifmaaGreatME1
import Derived.Test.YtcnhddiedfifmaaGreatProg
import Derived.Test.YtcnhddiedfifmaaGreatME3
set_option linter.unusedSimpArgs false
set_option linter.unusedVariables false
set_option linter.unusedSectionVars false
set_option linter.deprecated false
set_option maxHeartbeats 4000000
section
namespace Go.Z
open Go Go.RowKit
theorem dT {p:Prop} [Decidable p] (h:p):decide p=true:=decide_eq_true h
theorem dF {p:Prop} [Decidable p] (h:¬ p):decide p=false:=decide_eq_false h
theorem nT {b:Bool} (h:¬ b=true):b=false:=eq_false_of_ne_true h
theorem bF {b:Bool} (h:b=false):(!b)=true:=congrArg Bool.not h
theorem bT {b:Bool} (h:b=true):(!b)=false:=congrArg Bool.not h
theorem lB {a b:Nat} (h:Nat.ble a b=true):a≤b:=Nat.le_of_ble_eq_true h
abbrev ii:=@inferInstance
section
variable {C:Cfg} {Q Q':Post} {ds:List Deferred} {ρ:Env} {h h0 h1 h2:Heap} {L L' Ls Lb:Own} {ops:Array Oper} {rest:List Oper}
variable {d:Nat} {ty:TypeId} {pos:String} {after:Array Edge} {S:World→Prop} {M:List Nat} {listed:Array Bool} {fuel:Nat} {op:Op} {v:Value}
theorem Sq {x y:Code} (hx:J C x (thenQ (J C y Q) Q) ds ρ h L):J C (.seq x y) Q ds ρ h L:=J.seq hx
theorem Rg {id:Nat} {l:List Oper} (hj:JL C l.toArray Q l ds ρ h L):J C (.region id l.toArray false) Q ds ρ h L:=J.region hj
theorem SR {id:Nat} {l:List Oper} {y:Code} (hj:JL C l.toArray (thenQ (J C y Q) Q) l ds ρ h L):J C (.seq (.region id l.toArray false) y) Q ds ρ h L:=J.seq (J.region hj)
theorem oq (q:Qr C ρ (SS C h L) op ty v) (k:JL C ops Q rest ds (ρ.set d v) h L) (hn:Nat.blt d C.n=true:=by rfl):JL C ops Q (⟨some d,op,ty,pos,after,none⟩::rest) ds ρ h L:=o_q q k hn
theorem oc {f:FuncId} {R:Value→Heap→Prop} {xs:List Operand} {ts:Array TypeId} [he:Ent C.P f] (hf:Fn C.P f (List.toArray (xs.map ρ.ev)) h R)
  (k:∀ v h',Step h h'→R v h'→JL C ops Q rest ds (ρ.set d v) h' L) (hn:Nat.blt d C.n=true:=by rfl) :
  JL C ops Q (⟨some d,.call { callee:=.value (.func f),args:=⟨xs⟩,argTypes:=ts },ty,pos,after,none⟩::rest) ds ρ h L:=o_call hf k hn
theorem N0 (hq:Q .normal ds ρ h L):JL C ops Q [] ds ρ h L:=JL.nil hq
theorem gT {dst:Option Nat} {j t:Nat} {b want:Bool} (hj:(ops[j]?).bind (·.dst)=some t) (hb:ρ t=.bool b) (hw:b=want)
  (k:JL C ops Q (⟨dst,op,ty,pos,after,none⟩::rest) ds ρ h L):JL C ops Q (⟨dst,op,ty,pos,after,some (j,want)⟩::rest) ds ρ h L:=JL.guardT hj hb hw k
theorem gF {j t:Nat} {b want:Bool} (hj:(ops[j]?).bind (·.dst)=some t) (hb:ρ t=.bool b) (hw:b=!want)
  (k:JL C ops Q rest ds (ρ.set d undef) h L) (hn:Nat.blt d C.n=true:=by rfl):JL C ops Q (⟨some d,op,ty,pos,after,some (j,want)⟩::rest) ds ρ h L:=JL.guardF hj hb hw hn k
theorem jT {c:Operand} {x y:Code} {t:Bool} (hc:ρ.ev c=.bool t) (ht:t=true) (hx:J C x Q ds ρ h L):J C (.cond c x y) Q ds ρ h L:=J.condT hc ht hx
theorem jF {c:Operand} {x y:Code} {t:Bool} (hc:ρ.ev c=.bool t) (ht:t=false) (hx:J C y Q ds ρ h L):J C (.cond c x y) Q ds ρ h L:=J.condF hc ht hx
theorem Jb {id:Nat} {c:Code} (hj:J C c (inB id Q) ds ρ h L):J C (.block id c) Q ds ρ h L:=J.block hj
theorem Js (hq:Q .normal ds ρ h L):J C .skip Q ds ρ h L:=J.skip hq
theorem Jx {id:Nat} (hq:Q (.exit id) ds ρ h L):J C (.exit id) Q ds ρ h L:=J.exit hq
theorem Jr (hq:Q .ret ds ρ h L):J C .ret Q ds ρ h L:=J.ret hq
theorem ia {b:Nat} {o:Obj} {f:Obj→Own} [a:At L b o f]:At L b o f:=a
theorem mI {x:Operand} {k:IntKind} {n:Int} (h:ρ.ev x=.int k n):Qr C ρ S (.move x) ty (.int k n):=q_mvv h
theorem mS {x:Operand} {p:Option Addr} {n c:Nat} (h:ρ.ev x=.slice p n c):Qr C ρ S (.move x) ty (.slice p n c):=q_mvv h
theorem mB {x:Operand} {b:Bool} (h:ρ.ev x=.bool b):Qr C ρ S (.move x) ty (.bool b):=q_mvv h
theorem aI {x:Operand} {k:IntKind} {n:Int} (h:ρ.ev x=.int k n):Qr C ρ S (.assign x) ty (.int k n):=q_asv h
theorem aS {x:Operand} {p:Option Addr} {n c:Nat} (h:ρ.ev x=.slice p n c):Qr C ρ S (.assign x) ty (.slice p n c):=q_asv h
theorem aB {x:Operand} {b:Bool} (h:ρ.ev x=.bool b):Qr C ρ S (.assign x) ty (.bool b):=q_asv h
theorem NE {lst:Array Bool} [e:Ext h0 h] [s:Sub Ls L] (k:JD C ops Q (SS C h Ls) M fuel lst ds ρ h L) :
  JL C ops (fun e ds' ρ' h' L'=>e=.normal∧Ext h0 h'∧Sub Ls L'∧JD C ops Q (SS C h' Ls) M fuel lst ds' ρ' h' L') [] ds ρ h L:=JL.nil ⟨rfl,e,s,k⟩
theorem NS {lst:Array Bool} [e:Ext h0 h] [s:Sb Ls L] (k:JD C ops Q (SS C h Ls) M fuel lst ds ρ h L) :
  JL C ops (fun e ds' ρ' h' L'=>e=.normal∧Ext h0 h'∧Sb Ls L'∧JD C ops Q (SS C h' Ls) M fuel lst ds' ρ' h' L') [] ds ρ h L:=JL.nil ⟨rfl,e,s,k⟩
theorem NF {lst:Array Bool} (k:JD C ops Q S M fuel lst ds ρ h L) :
  JL C ops (fun e ds' ρ' h' L'=>e=.normal∧JD C ops Q S M fuel lst ds' ρ' h' L') [] ds ρ h L:=JL.nil ⟨rfl,k⟩
theorem Dc (i:Nat) (ho:ops[i]?=some ⟨some d,op,ty,pos,after,none⟩) [sub:Sub Ls L] (q:Qr C ρ (fun _=>True) op ty v)
  (k:JD C ops Q (SS C h Ls) M fuel (listed.setIfInBounds i true) ds (ρ.set d v) h L) (chk:(takeOk ops listed [] i && !M.contains i)=true:=by kernel_rfl) (hn:Nat.blt d C.n=true:=by rfl) :
  JD C ops Q (SS C h Ls) M (fuel+1) listed ds ρ h L:=JD.calc i chk ho trivial ss_subB q k hn
theorem Dg (i:Nat) {j t:Nat} {b want:Bool} (ho:ops[i]?=some ⟨some d,op,ty,pos,after,some (j,want)⟩) (hj:(ops[j]?).bind (·.dst)=some t) (hb:ρ t=.bool b) (hw:b=want) [sub:Sub Ls L] (q:Qr C ρ (fun _=>True) op ty v)
  (k:JD C ops Q (SS C h Ls) M fuel (listed.setIfInBounds i true) ds (ρ.set d v) h L) (chk:(takeOk ops listed [] i && !M.contains i)=true:=by kernel_rfl) (hn:Nat.blt d C.n=true:=by rfl) :
  JD C ops Q (SS C h Ls) M (fuel+1) listed ds ρ h L:=JD.calc i chk ho ⟨_,hj,by rw [hb,hw]⟩ ss_subB q k hn
theorem Dl (i:Nat) (ho:ops[i]?=some ⟨some d,op,ty,pos,after,none⟩) [sub:Sub Ls L] (q:Qr C ρ (SS C h Ls) op ty v)
  (k:JD C ops Q (SS C h Ls) M fuel (listed.setIfInBounds i true) ds (ρ.set d v) h L) (chk:(takeOk ops listed M i && !M.contains i)=true:=by kernel_rfl) (hn:Nat.blt d C.n=true:=by rfl) :
  JD C ops Q (SS C h Ls) M (fuel+1) listed ds ρ h L:=JD.loadB i chk ho trivial q k hn
theorem Dm (i:Nat) {j t:Nat} {b want:Bool} (ho:ops[i]?=some ⟨some d,op,ty,pos,after,some (j,want)⟩) (hj:(ops[j]?).bind (·.dst)=some t) (hb:ρ t=.bool b) (hw:b=want) [sub:Sub Ls L] (q:Qr C ρ (SS C h Ls) op ty v)
  (k:JD C ops Q (SS C h Ls) M fuel (listed.setIfInBounds i true) ds (ρ.set d v) h L) (chk:(takeOk ops listed M i && !M.contains i)=true:=by kernel_rfl) (hn:Nat.blt d C.n=true:=by rfl) :
  JD C ops Q (SS C h Ls) M (fuel+1) listed ds ρ h L:=JD.loadB i chk ho ⟨_,hj,by rw [hb,hw]⟩ q k hn
theorem Du (i:Nat) {j t:Nat} {want:Bool} (ho:ops[i]?=some ⟨some d,op,ty,pos,after,some (j,want)⟩) (hj:(ops[j]?).bind (·.dst)=some t) (hb:ρ t=undef) [sub:Sub Ls L]
  (k:JD C ops Q (SS C h Ls) M fuel (listed.setIfInBounds i true) ds (ρ.set d undef) h L) (chk:(takeOk ops listed [] i && !M.contains i)=true:=by kernel_rfl) (hn:Nat.blt d C.n=true:=by rfl) :
  JD C ops Q (SS C h Ls) M (fuel+1) listed ds ρ h L:=JD.passU i chk ho hj hb ss_subB k hn
theorem Dp (i:Nat) {j t:Nat} {b want:Bool} (ho:ops[i]?=some ⟨some d,op,ty,pos,after,some (j,want)⟩) (hj:(ops[j]?).bind (·.dst)=some t) (hb:ρ t=.bool b) (hw:b=!want) [sub:Sub Ls L]
  (k:JD C ops Q (SS C h Ls) M fuel (listed.setIfInBounds i true) ds (ρ.set d undef) h L) (chk:(takeOk ops listed [] i && !M.contains i)=true:=by kernel_rfl) (hn:Nat.blt d C.n=true:=by rfl) :
  JD C ops Q (SS C h Ls) M (fuel+1) listed ds ρ h L:=JD.pass i chk ho hj (by rw [hb,hw]) ss_subB k hn
theorem Dd (k:Q .normal ds ρ h L) (hr:Region.ready .any ops listed=[]:=by kernel_rfl):JD C ops Q S M fuel listed ds ρ h L:=JD.done hr k _
theorem Do (i:Nat) (k:JX C ops Q S M fuel listed ds ρ h L i) (hr:Region.ready .any ops listed=[i]:=by kernel_rfl):JD C ops Q S M (fuel+1) listed ds ρ h L:=JD.one i hr k
theorem Da (rs:List Nat) (k:AllX (JX C ops Q S M fuel listed ds ρ h L) rs) (hr:Region.ready .any ops listed=rs:=by kernel_rfl) (hne:rs.isEmpty=false:=by rfl):JD C ops Q S M (fuel+1) listed ds ρ h L:=JD.all rs hr hne k
theorem Xe {i:Nat} {dst:Option Nat} (ho:ops[i]?=some ⟨dst,op,ty,pos,after,none⟩) (hM:M.contains i=false)
  (k:JL C ops (fun e ds' ρ' h' L'=>e=.normal∧Ext h h'∧Sub Ls L'∧JD C ops Q (SS C h' Ls) M fuel (listed.setIfInBounds i true) ds' ρ' h' L') [⟨dst,op,ty,pos,after,none⟩] ds ρ h L) :
  JX C ops Q (SS C h Ls) M fuel listed ds ρ h L i:=JX.effB ho hM trivial k
theorem Xg {i:Nat} {dst:Option Nat} {j t:Nat} {b want:Bool} (ho:ops[i]?=some ⟨dst,op,ty,pos,after,some (j,want)⟩) (hM:M.contains i=false) (hj:(ops[j]?).bind (·.dst)=some t) (hb:ρ t=.bool b) (hw:b=want)
  (k:JL C ops (fun e ds' ρ' h' L'=>e=.normal∧Ext h h'∧Sub Ls L'∧JD C ops Q (SS C h' Ls) M fuel (listed.setIfInBounds i true) ds' ρ' h' L') [⟨dst,op,ty,pos,after,none⟩] ds ρ h L) :
  JX C ops Q (SS C h Ls) M fuel listed ds ρ h L i:=JX.effB ho hM ⟨_,hj,by rw [hb,hw]⟩ k
theorem Xm {i:Nat} {dst:Option Nat} (ho:ops[i]?=some ⟨dst,op,ty,pos,after,none⟩) (hM:M.contains i=true)
  (k:JL C ops (fun e ds' ρ' h' L'=>e=.normal∧JD C ops Q (fun _=>True) [] fuel (listed.setIfInBounds i true) ds' ρ' h' L') [⟨dst,op,ty,pos,after,none⟩] ds ρ h L) :
  JX C ops Q S M fuel listed ds ρ h L i:=JX.mut ho hM trivial k
theorem Xf {i:Nat} {dst:Option Nat} (ho:ops[i]?=some ⟨dst,op,ty,pos,after,none⟩)
  (k:JL C ops (fun e ds' ρ' h' L'=>e=.normal∧JD C ops Q (fun _=>True) [] fuel (listed.setIfInBounds i true) ds' ρ' h' L') [⟨dst,op,ty,pos,after,none⟩] ds ρ h L) :
  JX C ops Q (fun _=>True) [] fuel listed ds ρ h L i:=JX.free ho trivial k
theorem Sc (vs l':List Value) {x y:Operand} {T T':TypeId} {b o:Nat} {l:List Value} {v:Value} {f:Obj→Own} {n:Nat} [hs:Sz C.P T n] (hx:ρ.ev x=.pointer (some ⟨b,o,none⟩)) (hy:ρ.ev y=v) (hv:v.cells=⟨vs⟩) (hn:vs.length=n) (hpl:vs.all plain=true)
  (a:At L b (row T' l) f) (hlen:Nat.ble (o+vs.length) l.length=true) (he:setN l o vs=l') (k:JL C ops Q rest ds ρ h (f (row T' l'))) :
  JL C ops Q (⟨none,.store T x y,ty,pos,after,none⟩::rest) ds ρ h L:=o_stc hx hy hv hn hpl a hlen he k
end
section
variable {C:Cfg} {Q:Post} {ds:List Deferred} {ρ:Env} {h h1:Heap} {L:Own} {ops:Array Oper} {rest:List Oper} {α:Type} {R:Heap→List Value→α→Prop} {T:TypeId} {b:Nat} {xs cs:List Value} {l:List α} {a:α}
theorem LT (R:Heap→List Value→α→Prop) (sz n:Nat) (l:List α) (hc:Cells R sz h xs l) (k:Cells R sz h xs l→OwnL R T sz h (.slice (some ⟨b,0,none⟩) n n) l [(b,row T xs)]→JL C ops Q rest ds ρ h ((b,row T xs)::L)) (hl:xs.length=n*sz:=by rfl) (hn:l.length=n:=by rfl) :
  JL C ops Q rest ds ρ h ((b,row T xs)::L):=k hc (OwnL.lit _ hl hc hn)
theorem c1 {u:Value} (ha:R h [u] a) (c:Cells R 1 h cs l):Cells R 1 h (u::cs) (a::l):=Cells.cons (us:=[u]) rfl ha c
theorem c2 {u v:Value} (ha:R h [u,v] a) (c:Cells R 2 h cs l):Cells R 2 h (u::v::cs) (a::l):=Cells.cons (us:=[u,v]) rfl ha c
theorem c3 {u v w:Value} (ha:R h [u,v,w] a) (c:Cells R 3 h cs l):Cells R 3 h (u::v::w::cs) (a::l):=Cells.cons (us:=[u,v,w]) rfl ha c
theorem c0 {sz:Nat}:Cells R sz h [] []:=Cells.nil
theorem ln {sz n c k:Nat} {p:Option Addr} (s:Sls R sz h (.slice p n c) l) (hl:k<l.length):k<n:=by rw [Sls.len s]; exact hl
theorem Sm [mo:Mo R] {sz:Nat} {v:Value} (c:Sls R sz h1 v l) [e:Ext h1 h]:Sls R sz h v l:=c.mono
theorem Om [mo:Mo R] {sz:Nat} {v:Value} {Lb:Own} (c:OwnL R T sz h1 v l Lb) [e:Ext h1 h]:OwnL R T sz h v l Lb:=c.mono
theorem iu {g:Bool} {p:Option Addr} {n c:Nat} {z:Int} (w:IntR h1 [.bool g,.slice p n c] z) [e:Ext h1 h]:IntAt h (.agg ⟨[.bool g,.slice p n c]⟩) z:=IntR.at (Mo.up w)
theorem aE {sz o n c i:Nat} {G:Prop} (s:Sls R sz h (.slice (some ⟨b,o,none⟩) n c) l) (hi:l[i]?=some a) (k:∀ us,CellN h b (o+i*sz) us→R h us a→G):G:=
 let ⟨us,x,y⟩:=Sls.at s hi; k us x y
end
section
variable {α β:Type} {r:β} {G:Prop}
theorem bE {m:Option α} {f:α→Option β} (hm:bnd m f=some r) (k:∀ y,m=some y→f y=some r→G):G:=let ⟨y,e,q⟩:=bnd_some hm; k y e q
theorem kE {p:Prop} [Decidable p] {m:Option β} (hm:chk p m=some r) (k:p→m=some r→G):G:=let ⟨y,e⟩:=chk_some hm; k y e
theorem kS {n:Int} {m:Option β} (hm:chk64 n m=some r) (k:(-9223372036854775808≤n∧n≤9223372036854775807)→m=some r→G):G:=let ⟨y,e⟩:=chk64_some hm; k y e
theorem nE {l:List α} {i:Int} {f:α→Option β} (hm:nth l i f=some r) (k:∀ (n:Nat) (a:α),i=(n:Int)→n<l.length→l[n]?=some a→f a=some r→G):G:=let ⟨n,a,x,y,z,q⟩:=nth_some hm; k n a x y z q
theorem iC {p:Prop} {_:Decidable p} {a b:Option β} (hm:(if p then a else b)=some r) (k1:p→a=some r→G) (k2:¬ p→b=some r→G):G:=
 if c:p then k1 c (ite_T c hm) else k2 c (ite_F c hm)
end
theorem pkT {C:Cfg} {ρ:Env} {S:World→Prop} {ty:TypeId} {c x y:Operand} {b k:Bool} (hc:ρ.ev c=.bool b) (hb:b=true) (hv:ρ.ev x=.bool k):Qr C ρ S (.pick c x y) ty (.bool k):=q_pickTv hc hb hv
theorem pkF {C:Cfg} {ρ:Env} {S:World→Prop} {ty:TypeId} {c x y:Operand} {b k:Bool} (hc:ρ.ev c=.bool b) (hb:b=false) (hv:ρ.ev y=.bool k):Qr C ρ S (.pick c x y) ty (.bool k):=q_pickFv hc hb hv
end Go.Z
end
section
namespace Go.Z
open Go Go.Proofs
instance:Kd Tryz.prog 2 .i64:=⟨by kernel_rfl⟩
instance:Pr Tryz.prog 2:=pr_of (by kernel_rfl)
instance:Sz Tryz.prog 2 1:=sz_of (by kernel_rfl)
instance:Zv Tryz.prog 2 [.int .i64 0]:=zv_of (by kernel_rfl)
instance:Kd Tryz.prog 3 .i64:=⟨by kernel_rfl⟩
instance:Pr Tryz.prog 3:=pr_of (by kernel_rfl)
instance:Sz Tryz.prog 3 1:=sz_of (by kernel_rfl)
instance:By Tryz.prog 3 8:=by_of (by kernel_rfl)
instance:Zv Tryz.prog 3 [.int .i64 0]:=zv_of (by kernel_rfl)
instance:Bl Tryz.prog 4:=⟨by kernel_rfl⟩
instance:Pr Tryz.prog 4:=pr_of (by kernel_rfl)
instance:Kd Tryz.prog 5 .u8:=⟨by kernel_rfl⟩
instance:Pr Tryz.prog 5:=pr_of (by kernel_rfl)
instance:Sz Tryz.prog 5 1:=sz_of (by kernel_rfl)
instance:Sl Tryz.prog 22 88:=⟨by kernel_rfl⟩
instance:Pr Tryz.prog 22:=pr_of (by kernel_rfl)
instance:Ag1 Tryz.prog 24 2:=ag_of (by kernel_rfl) (by kernel_rfl)
instance:Fo Tryz.prog 24 0 0:=fo_of 1 (by kernel_rfl) rfl
instance:Fo Tryz.prog 24 1 1:=fo_of 1 (by kernel_rfl) rfl
instance:Sl Tryz.prog 27 47:=⟨by kernel_rfl⟩
instance:Pr Tryz.prog 27:=pr_of (by kernel_rfl)
instance:Sl Tryz.prog 29 3:=⟨by kernel_rfl⟩
instance:Pr Tryz.prog 29:=pr_of (by kernel_rfl)
instance:Sz Tryz.prog 29 1:=sz_of (by kernel_rfl)
instance:Sl Tryz.prog 32 131:=⟨by kernel_rfl⟩
instance:Pr Tryz.prog 32:=pr_of (by kernel_rfl)
instance:Pr Tryz.prog 33:=pr_of (by kernel_rfl)
instance:Sz Tryz.prog 35 3:=sz_of (by kernel_rfl)
instance:By Tryz.prog 35 56:=by_of (by kernel_rfl)
instance:Zv Tryz.prog 35 [.slice none 0 0,.slice none 0 0,.int .i64 0]:=zv_of (by kernel_rfl)
instance:StF Tryz.prog 35 [(0,1),(1,1),(2,1)] [.slice none 0 0,.slice none 0 0,.int .i64 0]:=stf_of (by kernel_rfl) inferInstance
instance:Fo Tryz.prog 35 0 0:=fo_of 1 (by kernel_rfl) rfl
instance:Fo Tryz.prog 35 1 1:=fo_of 1 (by kernel_rfl) rfl
instance:Fo Tryz.prog 35 2 2:=fo_of 1 (by kernel_rfl) rfl
instance:Sl Tryz.prog 45 133:=⟨by kernel_rfl⟩
instance:Pr Tryz.prog 45:=pr_of (by kernel_rfl)
instance:Sz Tryz.prog 45 1:=sz_of (by kernel_rfl)
instance:By Tryz.prog 45 24:=by_of (by kernel_rfl)
instance:Zv Tryz.prog 45 [.slice none 0 0]:=zv_of (by kernel_rfl)
instance:Ag1 Tryz.prog 47 3:=ag_of (by kernel_rfl) (by kernel_rfl)
instance:Sz Tryz.prog 47 3:=sz_of (by kernel_rfl)
instance:By Tryz.prog 47 40:=by_of (by kernel_rfl)
instance:Zv Tryz.prog 47 [.int .i64 0,.int .i64 0,.slice none 0 0]:=zv_of (by kernel_rfl)
instance:StF Tryz.prog 47 [(0,1),(1,1),(2,1)] [.int .i64 0,.int .i64 0,.slice none 0 0]:=stf_of (by kernel_rfl) inferInstance
instance:Fo Tryz.prog 47 0 0:=fo_of 1 (by kernel_rfl) rfl
instance:Fo Tryz.prog 47 1 1:=fo_of 1 (by kernel_rfl) rfl
instance:Fo Tryz.prog 47 2 2:=fo_of 1 (by kernel_rfl) rfl
instance:Sl Tryz.prog 55 59:=⟨by kernel_rfl⟩
instance:Kd Tryz.prog 57 .i8:=⟨by kernel_rfl⟩
instance:Pr Tryz.prog 57:=pr_of (by kernel_rfl)
instance:Sz Tryz.prog 57 1:=sz_of (by kernel_rfl)
instance:Ag1 Tryz.prog 59 2:=ag_of (by kernel_rfl) (by kernel_rfl)
instance:Sz Tryz.prog 59 2:=sz_of (by kernel_rfl)
instance:By Tryz.prog 59 16:=by_of (by kernel_rfl)
instance:Zv Tryz.prog 59 [.int .i64 0,.int .i64 0]:=zv_of (by kernel_rfl)
instance:Sl Tryz.prog 63 35:=⟨by kernel_rfl⟩
instance:Sl Tryz.prog 70 57:=⟨by kernel_rfl⟩
instance:Sl Tryz.prog 73 180:=⟨by kernel_rfl⟩
instance:Pr Tryz.prog 73:=pr_of (by kernel_rfl)
instance:Ag1 Tryz.prog 75 2:=ag_of (by kernel_rfl) (by kernel_rfl)
instance:Sz Tryz.prog 75 2:=sz_of (by kernel_rfl)
instance:By Tryz.prog 75 32:=by_of (by kernel_rfl)
instance:Zv Tryz.prog 75 [.bool false,.slice none 0 0]:=zv_of (by kernel_rfl)
instance:StF Tryz.prog 75 [(0,1),(1,1)] [.bool false,.slice none 0 0]:=stf_of (by kernel_rfl) inferInstance
instance:Fo Tryz.prog 75 0 0:=fo_of 1 (by kernel_rfl) rfl
instance:Fo Tryz.prog 75 1 1:=fo_of 1 (by kernel_rfl) rfl
instance:Ag1 Tryz.prog 88 4:=ag_of (by kernel_rfl) (by kernel_rfl)
instance:Sz Tryz.prog 88 4:=sz_of (by kernel_rfl)
instance:Ag1 Tryz.prog 131 2:=ag_of (by kernel_rfl) (by kernel_rfl)
instance:Sz Tryz.prog 131 2:=sz_of (by kernel_rfl)
instance:By Tryz.prog 131 32:=by_of (by kernel_rfl)
instance:Zv Tryz.prog 131 [.int .i64 0,.slice none 0 0]:=zv_of (by kernel_rfl)
instance:StF Tryz.prog 131 [(0,1),(1,1)] [.int .i64 0,.slice none 0 0]:=stf_of (by kernel_rfl) inferInstance
instance:Fo Tryz.prog 131 0 0:=fo_of 1 (by kernel_rfl) rfl
instance:Fo Tryz.prog 131 1 1:=fo_of 1 (by kernel_rfl) rfl
instance:Ag1 Tryz.prog 133 3:=ag_of (by kernel_rfl) (by kernel_rfl)
instance:Sz Tryz.prog 133 3:=sz_of (by kernel_rfl)
instance:By Tryz.prog 133 40:=by_of (by kernel_rfl)
instance:Zv Tryz.prog 133 [.int .i64 0,.bool false,.slice none 0 0]:=zv_of (by kernel_rfl)
instance:StF Tryz.prog 133 [(0,1),(1,2)] [.int .i64 0,.bool false,.slice none 0 0]:=stf_of (by kernel_rfl) inferInstance
instance:Fo Tryz.prog 133 0 0:=fo_of 1 (by kernel_rfl) rfl
instance:Fo Tryz.prog 133 1 1:=fo_of 2 (by kernel_rfl) rfl
instance:Sl Tryz.prog 134 2:=⟨by kernel_rfl⟩
instance:Sl Tryz.prog 151 75:=⟨by kernel_rfl⟩
instance:Pr Tryz.prog 151:=pr_of (by kernel_rfl)
instance:Sz Tryz.prog 151 1:=sz_of (by kernel_rfl)
instance:By Tryz.prog 151 24:=by_of (by kernel_rfl)
instance:Zv Tryz.prog 151 [.slice none 0 0]:=zv_of (by kernel_rfl)
instance:Sl Tryz.prog 156 45:=⟨by kernel_rfl⟩
instance:Sl Tryz.prog 161 151:=⟨by kernel_rfl⟩
instance:Pr Tryz.prog 161:=pr_of (by kernel_rfl)
instance:Sz Tryz.prog 161 1:=sz_of (by kernel_rfl)
instance:Ag1 Tryz.prog 163 3:=ag_of (by kernel_rfl) (by kernel_rfl)
instance:Sz Tryz.prog 163 3:=sz_of (by kernel_rfl)
instance:Zv Tryz.prog 163 [.int .i64 0,.int .i64 0,.slice none 0 0]:=zv_of (by kernel_rfl)
instance:StF Tryz.prog 163 [(0,1),(1,1),(2,1)] [.int .i64 0,.int .i64 0,.slice none 0 0]:=stf_of (by kernel_rfl) inferInstance
instance:Fo Tryz.prog 163 0 0:=fo_of 1 (by kernel_rfl) rfl
instance:Fo Tryz.prog 163 1 1:=fo_of 1 (by kernel_rfl) rfl
instance:Fo Tryz.prog 163 2 2:=fo_of 1 (by kernel_rfl) rfl
instance:Sl Tryz.prog 165 75:=⟨by kernel_rfl⟩
instance:Kd Tryz.prog 178 .u64:=⟨by kernel_rfl⟩
instance:Kd Tryz.prog 180 .u32:=⟨by kernel_rfl⟩
instance:Pr Tryz.prog 180:=pr_of (by kernel_rfl)
instance:Sz Tryz.prog 180 1:=sz_of (by kernel_rfl)
instance:By Tryz.prog 180 4:=by_of (by kernel_rfl)
instance:Zv Tryz.prog 180 [.int .u32 0]:=zv_of (by kernel_rfl)
instance:Kd Tryz.prog 181 .u64:=⟨by kernel_rfl⟩
instance:Pr Tryz.prog 199:=pr_of (by kernel_rfl)
instance:Ag1 Tryz.prog 265 9:=ag_of (by kernel_rfl) (by kernel_rfl)
instance:Sz Tryz.prog 265 9:=sz_of (by kernel_rfl)
instance:Zv Tryz.prog 265 [.int .i64 0,.int .i64 0,.slice none 0 0,.int .i64 0,.int .i64 0,.slice none 0 0,.int .i64 0,.int .i64 0,.slice none 0 0]:=zv_of (by kernel_rfl)
instance:StF Tryz.prog 265 [(0,3),(3,3),(6,3)] [.int .i64 0,.int .i64 0,.slice none 0 0,.int .i64 0,.int .i64 0,.slice none 0 0,.int .i64 0,.int .i64 0,.slice none 0 0]:=stf_of (by kernel_rfl) inferInstance
instance:Fo Tryz.prog 265 0 0:=fo_of 3 (by kernel_rfl) rfl
instance:Fo Tryz.prog 265 1 3:=fo_of 3 (by kernel_rfl) rfl
instance:Zv Tryz.prog 301 [.int .i64 0,.int .i64 0,.slice none 0 0,.int .i64 0,.int .i64 0,.slice none 0 0,.int .i64 0,.int .i64 0,.slice none 0 0]:=zv_of (by kernel_rfl)
instance:StF Tryz.prog 301 [(0,3),(3,3),(6,3)] [.int .i64 0,.int .i64 0,.slice none 0 0,.int .i64 0,.int .i64 0,.slice none 0 0,.int .i64 0,.int .i64 0,.slice none 0 0]:=stf_of (by kernel_rfl) inferInstance
instance:Fo Tryz.prog 301 0 0:=fo_of 3 (by kernel_rfl) rfl
instance:Fo Tryz.prog 301 1 3:=fo_of 3 (by kernel_rfl) rfl
instance:Fo Tryz.prog 301 2 6:=fo_of 3 (by kernel_rfl) rfl
instance:Ent Tryz.prog 15:=ent_of Tryz.func15 (by kernel_rfl)
instance:Ent Tryz.prog 16:=ent_of Tryz.func16 (by kernel_rfl)
instance:Ent Tryz.prog 19:=ent_of Tryz.func19 (by kernel_rfl)
instance:Ent Tryz.prog 21:=ent_of Tryz.func21 (by kernel_rfl)
instance:Ent Tryz.prog 22:=ent_of Tryz.func22 (by kernel_rfl)
instance:Ent Tryz.prog 23:=ent_of Tryz.func23 (by kernel_rfl)
instance:Ent Tryz.prog 24:=ent_of Tryz.func24 (by kernel_rfl)
instance:Ent Tryz.prog 25:=ent_of Tryz.func25 (by kernel_rfl)
instance:Ent Tryz.prog 26:=ent_of Tryz.func26 (by kernel_rfl)
instance:Ent Tryz.prog 27:=ent_of Tryz.func27 (by kernel_rfl)
instance:Ent Tryz.prog 29:=ent_of Tryz.func29 (by kernel_rfl)
instance:Ent Tryz.prog 31:=ent_of Tryz.func31 (by kernel_rfl)
instance:Ent Tryz.prog 32:=ent_of Tryz.func32 (by kernel_rfl)
instance:Ent Tryz.prog 35:=ent_of Tryz.func35 (by kernel_rfl)
instance:Ent Tryz.prog 36:=ent_of Tryz.func36 (by kernel_rfl)
instance:Ent Tryz.prog 38:=ent_of Tryz.func38 (by kernel_rfl)
instance:Ent Tryz.prog 41:=ent_of Tryz.func41 (by kernel_rfl)
instance:Ent Tryz.prog 42:=ent_of Tryz.func42 (by kernel_rfl)
instance:Ent Tryz.prog 43:=ent_of Tryz.func43 (by kernel_rfl)
instance:Ent Tryz.prog 44:=ent_of Tryz.func44 (by kernel_rfl)
instance:Ent Tryz.prog 62:=ent_of Tryz.func62 (by kernel_rfl)
instance:Ent Tryz.prog 63:=ent_of Tryz.func63 (by kernel_rfl)
instance:Ent Tryz.prog 64:=ent_of Tryz.func64 (by kernel_rfl)
instance:Ent Tryz.prog 65:=ent_of Tryz.func65 (by kernel_rfl)
instance:Ent Tryz.prog 66:=ent_of Tryz.func66 (by kernel_rfl)
instance:Ent Tryz.prog 67:=ent_of Tryz.func67 (by kernel_rfl)
instance:Ent Tryz.prog 73:=ent_of Tryz.func73 (by kernel_rfl)
instance:Ent Tryz.prog 74:=ent_of Tryz.func74 (by kernel_rfl)
instance:Ent Tryz.prog 75:=ent_of Tryz.func75 (by kernel_rfl)
instance:Ent Tryz.prog 76:=ent_of Tryz.func76 (by kernel_rfl)
instance:Ent Tryz.prog 77:=ent_of Tryz.func77 (by kernel_rfl)
instance:Ent Tryz.prog 78:=ent_of Tryz.func78 (by kernel_rfl)
instance:Ent Tryz.prog 79:=ent_of Tryz.func79 (by kernel_rfl)
instance:Ent Tryz.prog 81:=ent_of Tryz.func81 (by kernel_rfl)
instance:Ent Tryz.prog 82:=ent_of Tryz.func82 (by kernel_rfl)
instance:Ent Tryz.prog 83:=ent_of Tryz.func83 (by kernel_rfl)
instance:Ent Tryz.prog 84:=ent_of Tryz.func84 (by kernel_rfl)
instance:Ent Tryz.prog 85:=ent_of Tryz.func85 (by kernel_rfl)
instance:Ent Tryz.prog 86:=ent_of Tryz.func86 (by kernel_rfl)
instance:Ent Tryz.prog 89:=ent_of Tryz.func89 (by kernel_rfl)
instance:Ent Tryz.prog 90:=ent_of Tryz.func90 (by kernel_rfl)
instance:Ent Tryz.prog 91:=ent_of Tryz.func91 (by kernel_rfl)
instance:Ent Tryz.prog 92:=ent_of Tryz.func92 (by kernel_rfl)
instance:Ent Tryz.prog 94:=ent_of Tryz.func94 (by kernel_rfl)
instance:Ent Tryz.prog 95:=ent_of Tryz.func95 (by kernel_rfl)
instance:Ent Tryz.prog 96:=ent_of Tryz.func96 (by kernel_rfl)
instance:Ent Tryz.prog 97:=ent_of Tryz.func97 (by kernel_rfl)
instance:Ent Tryz.prog 98:=ent_of Tryz.func98 (by kernel_rfl)
instance:Ent Tryz.prog 100:=ent_of Tryz.func100 (by kernel_rfl)
instance:Ent Tryz.prog 101:=ent_of Tryz.func101 (by kernel_rfl)
instance:Ent Tryz.prog 105:=ent_of Tryz.func105 (by kernel_rfl)
instance:Ent Tryz.prog 106:=ent_of Tryz.func106 (by kernel_rfl)
instance:Ent Tryz.prog 107:=ent_of Tryz.func107 (by kernel_rfl)
instance:Ent Tryz.prog 108:=ent_of Tryz.func108 (by kernel_rfl)
instance:Ent Tryz.prog 109:=ent_of Tryz.func109 (by kernel_rfl)
instance:Ent Tryz.prog 110:=ent_of Tryz.func110 (by kernel_rfl)
instance:Ent Tryz.prog 113:=ent_of Tryz.func113 (by kernel_rfl)
instance:Ent Tryz.prog 115:=ent_of Tryz.func115 (by kernel_rfl)
instance:Ent Tryz.prog 116:=ent_of Tryz.func116 (by kernel_rfl)
instance:Ent Tryz.prog 119:=ent_of Tryz.func119 (by kernel_rfl)
instance:Ent Tryz.prog 120:=ent_of Tryz.func120 (by kernel_rfl)
instance:Ent Tryz.prog 121:=ent_of Tryz.func121 (by kernel_rfl)
instance:Ent Tryz.prog 122:=ent_of Tryz.func122 (by kernel_rfl)
instance:Ent Tryz.prog 136:=ent_of Tryz.func136 (by kernel_rfl)
instance:Ent Tryz.prog 137:=ent_of Tryz.func137 (by kernel_rfl)
instance:Ent Tryz.prog 138:=ent_of Tryz.func138 (by kernel_rfl)
instance:Ent Tryz.prog 139:=ent_of Tryz.func139 (by kernel_rfl)
instance:Ent Tryz.prog 140:=ent_of Tryz.func140 (by kernel_rfl)
instance:Ent Tryz.prog 141:=ent_of Tryz.func141 (by kernel_rfl)
instance:Ent Tryz.prog 142:=ent_of Tryz.func142 (by kernel_rfl)
instance:Ent Tryz.prog 143:=ent_of Tryz.func143 (by kernel_rfl)
instance:Ent Tryz.prog 144:=ent_of Tryz.func144 (by kernel_rfl)
instance:Ent Tryz.prog 145:=ent_of Tryz.func145 (by kernel_rfl)
instance:Ent Tryz.prog 146:=ent_of Tryz.func146 (by kernel_rfl)
instance:Ent Tryz.prog 147:=ent_of Tryz.func147 (by kernel_rfl)
instance:Ent Tryz.prog 148:=ent_of Tryz.func148 (by kernel_rfl)
instance:Ent Tryz.prog 149:=ent_of Tryz.func149 (by kernel_rfl)
instance:Ent Tryz.prog 150:=ent_of Tryz.func150 (by kernel_rfl)
instance:Ent Tryz.prog 151:=ent_of Tryz.func151 (by kernel_rfl)
instance:Ent Tryz.prog 152:=ent_of Tryz.func152 (by kernel_rfl)
instance:Ent Tryz.prog 153:=ent_of Tryz.func153 (by kernel_rfl)
instance:Ent Tryz.prog 154:=ent_of Tryz.func154 (by kernel_rfl)
instance:Ent Tryz.prog 155:=ent_of Tryz.func155 (by kernel_rfl)
instance:Ent Tryz.prog 156:=ent_of Tryz.func156 (by kernel_rfl)
instance:Ent Tryz.prog 157:=ent_of Tryz.func157 (by kernel_rfl)
instance:Ent Tryz.prog 158:=ent_of Tryz.func158 (by kernel_rfl)
instance:Ent Tryz.prog 163:=ent_of Tryz.func163 (by kernel_rfl)
instance:Ent Tryz.prog 164:=ent_of Tryz.func164 (by kernel_rfl)
instance:Ent Tryz.prog 165:=ent_of Tryz.func165 (by kernel_rfl)
instance:Ent Tryz.prog 166:=ent_of Tryz.func166 (by kernel_rfl)
instance:Ent Tryz.prog 167:=ent_of Tryz.func167 (by kernel_rfl)
instance:Ent Tryz.prog 168:=ent_of Tryz.func168 (by kernel_rfl)
instance:Ent Tryz.prog 169:=ent_of Tryz.func169 (by kernel_rfl)
instance:Ent Tryz.prog 174:=ent_of Tryz.func174 (by kernel_rfl)
instance:Ent Tryz.prog 176:=ent_of Tryz.func176 (by kernel_rfl)
instance:Ent Tryz.prog 177:=ent_of Tryz.func177 (by kernel_rfl)
instance:Ent Tryz.prog 178:=ent_of Tryz.func178 (by kernel_rfl)
instance:Ent Tryz.prog 186:=ent_of Tryz.func186 (by kernel_rfl)
instance:Ent Tryz.prog 187:=ent_of Tryz.func187 (by kernel_rfl)
instance:Ent Tryz.prog 188:=ent_of Tryz.func188 (by kernel_rfl)
instance:Ent Tryz.prog 189:=ent_of Tryz.func189 (by kernel_rfl)
instance:Ent Tryz.prog 190:=ent_of Tryz.func190 (by kernel_rfl)
instance:Ent Tryz.prog 191:=ent_of Tryz.func191 (by kernel_rfl)
instance:Ent Tryz.prog 192:=ent_of Tryz.func192 (by kernel_rfl)
instance:Ent Tryz.prog 193:=ent_of Tryz.func193 (by kernel_rfl)
instance:Ent Tryz.prog 194:=ent_of Tryz.func194 (by kernel_rfl)
instance:Ent Tryz.prog 195:=ent_of Tryz.func195 (by kernel_rfl)
instance:Ent Tryz.prog 196:=ent_of Tryz.func196 (by kernel_rfl)
instance:Ent Tryz.prog 210:=ent_of Tryz.func210 (by kernel_rfl)
instance:Ent Tryz.prog 211:=ent_of Tryz.func211 (by kernel_rfl)
instance:Ent Tryz.prog 212:=ent_of Tryz.func212 (by kernel_rfl)
instance:Ent Tryz.prog 213:=ent_of Tryz.func213 (by kernel_rfl)
instance:Ent Tryz.prog 214:=ent_of Tryz.func214 (by kernel_rfl)
instance:Ent Tryz.prog 215:=ent_of Tryz.func215 (by kernel_rfl)
instance:Ent Tryz.prog 217:=ent_of Tryz.func217 (by kernel_rfl)
instance:Ent Tryz.prog 220:=ent_of Tryz.func220 (by kernel_rfl)
instance:Ent Tryz.prog 221:=ent_of Tryz.func221 (by kernel_rfl)
instance:Ent Tryz.prog 222:=ent_of Tryz.func222 (by kernel_rfl)
instance:Ent Tryz.prog 223:=ent_of Tryz.func223 (by kernel_rfl)
instance:Ent Tryz.prog 224:=ent_of Tryz.func224 (by kernel_rfl)
instance:Ent Tryz.prog 225:=ent_of Tryz.func225 (by kernel_rfl)
instance:Ent Tryz.prog 231:=ent_of Tryz.func231 (by kernel_rfl)
instance:Ent Tryz.prog 232:=ent_of Tryz.func232 (by kernel_rfl)
instance:Ent Tryz.prog 240:=ent_of Tryz.func240 (by kernel_rfl)
instance:Ent Tryz.prog 241:=ent_of Tryz.func241 (by kernel_rfl)
instance:Ent Tryz.prog 242:=ent_of Tryz.func242 (by kernel_rfl)
instance:Ent Tryz.prog 243:=ent_of Tryz.func243 (by kernel_rfl)
instance:Ent Tryz.prog 244:=ent_of Tryz.func244 (by kernel_rfl)
instance:Ent Tryz.prog 245:=ent_of Tryz.func245 (by kernel_rfl)
instance:Ent Tryz.prog 246:=ent_of Tryz.func246 (by kernel_rfl)
instance:Ent Tryz.prog 247:=ent_of Tryz.func247 (by kernel_rfl)
instance:Ent Tryz.prog 248:=ent_of Tryz.func248 (by kernel_rfl)
instance:Ent Tryz.prog 249:=ent_of Tryz.func249 (by kernel_rfl)
instance:Ent Tryz.prog 252:=ent_of Tryz.func252 (by kernel_rfl)
instance:Ent Tryz.prog 257:=ent_of Tryz.func257 (by kernel_rfl)
instance:Ent Tryz.prog 267:=ent_of Tryz.func267 (by kernel_rfl)
instance:Ent Tryz.prog 268:=ent_of Tryz.func268 (by kernel_rfl)
instance:Mix Tryz.prog:=⟨by kernel_rfl⟩
end Go.Z
end
section
namespace Go.Z
open Go Go.RowKit Go.Proofs
theorem norm_fn {h:Heap} {v:Value} {l:List Nat} {neg:Bool} (hv:MagAt h v l) (hN:l.length≤1000000000) :
    Fn Tryz.prog 142 #[v,.bool neg] h fun r h'=>IntAt h' r (if neg then -(val l:Int) else (val l:Int)):=by
 obtain ⟨p,c,rfl,hc⟩:=hv.out
 refine Fn.intro (args:=[_,_]) Tryz.func142 rfl rfl (lB rfl) fun w=>SR<|o_al fun b4=>N0<|J.scope<|SR<|oq (mS rfl)<|oq (q_len rfl)<|oq (aI rfl)<|N0<|Sq<|J.label ?_
 refine J.cutK (α:=Nat) (fun m h' L'=>m≤l.length∧l.take m=trim l∧L'=[(b4,row 75 [.bool false,.slice none 0 0])]) [(0,.slice _ _ _),(1,.bool _),(4,.pointer _)] ⟨rfl,rfl,rfl,trivial⟩ (fun m=>[(5,.int .i64 (m:Int))]) ?_ ?_
 · refine Jb ?_
   refine J.loopK (α:=Nat) (fun m h' L'=>m≤l.length∧(∀ j x,m≤j→l[j]?=some x→x=0)∧L'=[(b4,row 75 [.bool false,.slice none 0 0])]) [(0,.slice _ _ _),(1,.bool _),(4,.pointer _)] ⟨rfl,rfl,rfl,trivial⟩ (fun m=>[(5,.int .i64 (m:Int))]) (fun m=>m) (l.length) ⟨Nat.le_refl _,fun j x hj hx=>(by rw [List.getElem?_eq_none hj] at hx; cases hx),rfl⟩ ⟨rfl,trivial⟩ ?_
   rintro m σ h1 L1 s1 ⟨hm,hz,rfl⟩
   refine Sq<|SR<|oq (mI rfl)<|oq (q_gtr rfl rfl)<|N0 ?_
   refine J.condD rfl (fun c0=>?_) (fun c0=>?_)
   · refine Js<|Jb<|Sq<|SR<|oq (mS rfl)<|oq (mI rfl)<|oq (q_sub (c:=((m-1:Nat):Int)) rfl rfl (by rw [wi64 (by omega)]; omega)) ?_
     obtain ⟨b,o,x,rfl,hx,hxb,hcell⟩:=MagAt.limb (j:=m-1) hv (by omega)
     refine oq (q_ia rfl rfl (by omega))<|oq (q_ldf rfl hcell)<|oq (q_neq rfl rfl)<|N0 ?_
     refine J.condD rfl (fun hx0=>?_) (fun hx0=>?_)
     · refine Jx ?_
       exact ⟨m,rfl,⟨rfl,rfl,rfl,trivial⟩,⟨rfl,trivial⟩,⟨hm,take_trim hm hz (fun y hy0 hy=>by first | (rw [hx] at hy; cases hy; omega) | omega),rfl⟩,ii⟩
     · refine Js<|Rg<|oq (mI rfl)<|oq (q_sub (c:=((m-1:Nat):Int)) rfl rfl (by rw [wi64 (by omega)]; omega))<|oq (aI rfl)<|N0 ?_
       exact ⟨m-1,rfl,⟨rfl,rfl,rfl,trivial⟩,⟨rfl,trivial⟩,⟨by omega,fun j y hj hy=>by
         rcases Nat.lt_or_ge j m with h2 | h2
         · obtain rfl:j=m-1:=by omega
           rw [hx] at hy; cases hy; omega
         · exact hz j y h2 hy,rfl⟩,by omega,ii⟩
   · refine Jx ?_
     exact ⟨m,rfl,⟨rfl,rfl,rfl,trivial⟩,⟨rfl,trivial⟩,⟨hm,take_trim hm hz (fun y hy0 hy=>by first | (rw [hx] at hy; cases hy; omega) | omega),rfl⟩,ii⟩
 · rintro m σ2 h2 L2 s2 ⟨hm,ht,rfl⟩
   refine Sq ?_
   cases neg
   focus
    refine Rg<|oq (mB rfl)<|oq (mB rfl)<|gF rfl rfl rfl<|gF rfl rfl rfl<|oq (q_pickF rfl rfl) ?_
   rotate_left
   focus
    refine Rg<|oq (mB rfl)<|oq (mB rfl)<|gT rfl rfl rfl<|oq (mI rfl)<|gT rfl rfl rfl<|oq (q_gtr rfl rfl)<|oq (pkT rfl rfl rfl) ?_
   rotate_left
   all_goals
    refine oq (mS rfl)<|oq (mI rfl)<|oq (mI rfl)<|oq (q_slHM rfl rfl rfl (by omega))<|oq (q_bd [.bool _,.slice _ _ _] rfl) ?_
    refine o_stw (vs:=[_,_]) rfl rfl rfl ii rfl rfl<|N0<|Jr ?_
    have hmag:MagAt h2 (.slice p m m) (l.take m):=(hv.take hm (Nat.le_refl m)).mono
    have hi:=fun neg=>IntAt.mk (neg:=neg) hmag (by rw [ht,trim_eq hv.2,trim_limbs])
    simp only [ht,val_take_trim hv.2] at hi
    have hd:decide (0<(m:Int))=decide (trim l≠[]):=by
      rw [← ht]; refine decide_eq_decide.2 ⟨fun h1 h2=>?_,fun h1=>?_⟩
      · have:=congrArg List.length h2; rw [List.length_take,List.length_nil] at this; omega
      · rcases Nat.eq_zero_or_pos m with h3 | h3
        · subst h3; simp at h1
        · omega
    refine ret_ok (fn:=Tryz.f142) rfl (.agg rfl ii ii .nil) ?_
    first | exact hi false | (have:=hi true; rw [Bool.true_and,← hd] at this; exact this)
theorem made_fn {h:Heap} {v:Value} {l:List Nat} {neg:Bool} (hv:MagAt h v l) (hN:l.length≤1000000000) :
    Fn Tryz.prog 121 #[v,.bool neg] h fun r h'=>IntAt h' r (if neg then -(val l:Int) else (val l:Int)):=by
 obtain ⟨p,c,rfl,hc⟩:=hv.out
 refine Fn.intro (args:=[_,_]) Tryz.func121 rfl rfl (lB rfl) fun w=>SR<|o_al fun b4=>N0<|SR<|oq (mS rfl)<|oq (q_len rfl)<|oq (aI rfl)<|N0 ?_
 refine J.cutK (α:=Nat) (fun m h' L'=>m≤l.length∧l.take m=trim l∧L'=[(b4,row 75 [.bool false,.slice none 0 0])]) [(0,.slice _ _ _),(1,.bool _),(4,.pointer _)] ⟨rfl,rfl,rfl,trivial⟩ (fun m=>[(5,.int .i64 (m:Int))]) ?_ ?_
 · refine Jb ?_
   refine J.loopK (α:=Nat) (fun m h' L'=>m≤l.length∧(∀ j x,m≤j→l[j]?=some x→x=0)∧L'=[(b4,row 75 [.bool false,.slice none 0 0])]) [(0,.slice _ _ _),(1,.bool _),(4,.pointer _)] ⟨rfl,rfl,rfl,trivial⟩ (fun m=>[(5,.int .i64 (m:Int))]) (fun m=>m) (l.length) ⟨Nat.le_refl _,fun j x hj hx=>(by rw [List.getElem?_eq_none hj] at hx; cases hx),rfl⟩ ⟨rfl,trivial⟩ ?_
   rintro m σ h1 L1 s1 ⟨hm,hz,rfl⟩
   refine Sq<|Sq ?_
   rcases Nat.eq_zero_or_pos m with hm0 | hm0
   · refine Rg<|oq (mI rfl)<|oq (q_gtr rfl rfl)<|oq (mB rfl)<|gF rfl rfl (dF (by omega))<|gF rfl rfl (dF (by omega))<|gF rfl rfl (dF (by omega))<|gF rfl rfl (dF (by omega))<|gF rfl rfl (dF (by omega))<|gF rfl rfl (dF (by omega))<|oq (q_pickF rfl (dF (by omega)))<|N0<|jF rfl rfl<|Jx ?_
     exact ⟨m,rfl,⟨rfl,rfl,rfl,trivial⟩,⟨rfl,trivial⟩,⟨hm,take_trim hm hz (fun y hy0 hy=>by first | (rw [hx] at hy; cases hy; omega) | omega),rfl⟩,ii⟩
   · refine Rg<|oq (mI rfl)<|oq (q_gtr rfl rfl)<|oq (mB rfl)<|gT rfl rfl (dT (by omega))<|oq (mS rfl)<|gT rfl rfl (dT (by omega))<|oq (mI rfl)<|gT rfl rfl (dT (by omega))<|oq (q_sub (c:=((m-1:Nat):Int)) rfl rfl (by rw [wi64 (by omega)]; omega))<|gT rfl rfl (dT (by omega)) ?_
     obtain ⟨b,o,x,rfl,hx,hxb,hcell⟩:=MagAt.limb (j:=m-1) hv (by omega)
     refine oq (q_ia rfl rfl (by omega))<|gT rfl rfl (dT (by omega))<|oq (q_ldf rfl hcell)<|gT rfl rfl (dT (by omega))<|oq (q_eql rfl rfl)<|oq (pkT rfl (dT (by omega)) rfl)<|N0 ?_
     refine J.condD rfl (fun hx0=>?_) (fun hx0=>?_)
     · refine Js<|Jb<|Rg<|oq (mI rfl)<|oq (q_sub (c:=((m-1:Nat):Int)) rfl rfl (by rw [wi64 (by omega)]; omega))<|oq (aI rfl)<|N0 ?_
       exact ⟨m-1,rfl,⟨rfl,rfl,rfl,trivial⟩,⟨rfl,trivial⟩,⟨by omega,fun j y hj hy=>by
         rcases Nat.lt_or_ge j m with h2 | h2
         · obtain rfl:j=m-1:=by omega
           rw [hx] at hy; cases hy; omega
         · exact hz j y h2 hy,rfl⟩,by omega,ii⟩
     · refine Jx ?_
       exact ⟨m,rfl,⟨rfl,rfl,rfl,trivial⟩,⟨rfl,trivial⟩,⟨hm,take_trim hm hz (fun y hy0 hy=>by first | (rw [hx] at hy; cases hy; omega) | omega),rfl⟩,ii⟩
 · rintro m σ2 h2 L2 s2 ⟨hm,ht,rfl⟩
   refine Sq ?_
   cases neg
   focus
    refine Rg<|oq (mB rfl)<|oq (mB rfl)<|gF rfl rfl rfl<|gF rfl rfl rfl<|oq (q_pickF rfl rfl) ?_
   rotate_left
   focus
    refine Rg<|oq (mB rfl)<|oq (mB rfl)<|gT rfl rfl rfl<|oq (mI rfl)<|gT rfl rfl rfl<|oq (q_gtr rfl rfl)<|oq (pkT rfl rfl rfl) ?_
   rotate_left
   all_goals
    refine o_bs [] (by decide) rfl fun b25=>oq (mS rfl)<|oq (mI rfl)<|oq (q_slH rfl rfl (by omega)) ?_
    have hsl:MagAt h2 (.slice p m c) (l.take m):=(hv.take hm (Nat.le_trans hm hc)).mono
    refine o_app (Lb:=[(b25,row 180 [])]) rfl rfl (OwnS.lit (xs:=[]) (n:=0) rfl) ii (src_fro hsl.1 (u32s_plain _)) (by rw [List.length_take]; omega) fun v4 L4 ho=>?_
    obtain ⟨p4,c4,rfl⟩:=ho.out
    refine JL.fzS ho fun h4 s4 hs4=>oq (q_bd [.bool _,.slice _ _ _] rfl) ?_
    refine o_stw (vs:=[_,_]) rfl rfl rfl ii rfl rfl<|N0<|Jr ?_
    have hmag:=MagAt.of (l:=l.take m) hs4 (hv.2.take m)
    have hi:=fun neg=>IntAt.mk (neg:=neg) hmag (by rw [ht,trim_eq hv.2,trim_limbs])
    have hvt:val (l.take m)=val l:=by rw [ht,val_take_trim hv.2]
    simp only [hvt] at hi
    have hd:decide (0<(m:Int))=decide (l.take m≠[]):=by
      refine decide_eq_decide.2 ⟨fun h1 h2=>?_,fun h1=>?_⟩
      · have:=congrArg List.length h2; rw [List.length_take,List.length_nil] at this; omega
      · rcases Nat.eq_zero_or_pos m with h3 | h3
        · subst h3; simp at h1
        · omega
    refine ret_ok (fn:=Tryz.f121) rfl (.agg rfl ii ii .nil) ?_
    first | exact hi false | (have:=hi true; rw [Bool.true_and,← hd] at this; exact this)
theorem of_fn {h:Heap} {n:Int} (hn:-9223372036854775808≤n∧n≤9223372036854775807) :
    Fn Tryz.prog 42 #[.int .i64 n] h fun r h'=>IntAt h' r n:=by
 refine Fn.intro (args:=[_]) Tryz.func42 rfl rfl (lB rfl) fun w=>SR<|o_al fun b2=>N0<|SR<|oq (mI rfl)<|oq (q_cv (c:=n % 18446744073709551616) rfl (by rw [IntKind.wrap_u64]))<|oq (aI rfl)<|N0 ?_
 refine J.cutK (α:=Unit) (fun _ h' L'=>L'=[(b2,row 75 [.bool false,.slice none 0 0])]) [(0,.int _ _),(2,.pointer _)] ⟨rfl,rfl,trivial⟩ (fun _=>[(3,.int .u64 (n.natAbs:Int))]) ?_ ?_
 · refine SR<|oq (mI rfl)<|oq (q_lss rfl rfl)<|N0 ?_
   refine J.condD rfl (fun c0=>?_) (fun c0=>?_)
   focus
    refine Rg<|oq (mI rfl)<|oq (q_neg (c:=-n) rfl (by rw [IntKind.wrap_u64]; omega))<|oq (aI rfl)<|N0 ?_
   rotate_left
   focus
    refine Js ?_
   rotate_left
   all_goals
    exact ⟨(),rfl,⟨rfl,rfl,trivial⟩,⟨(by show Value.int _ _=Value.int _ _; congr 1; omega),trivial⟩,rfl,ii⟩
 · rintro _ σ1 h1 L1 s1 rfl
   refine SR<|oq (mI rfl)<|oq (q_cv (c:=((n.natAbs % 4294967296:Nat):Int)) rfl (by rw [IntKind.wrap_u32]; omega))<|oq (mI rfl)<|oq (q_shr (c:=((n.natAbs / 4294967296:Nat):Int)) rfl rfl (by decide) (by simp only [IntKind.bits]; exact fd32 _))<|oq (q_cv (c:=((n.natAbs / 4294967296:Nat):Int)) rfl (wu32 (by omega)))<|o_bs [.int _ _,.int _ _] (by decide) rfl fun b15=>oq (mI rfl)<|oq (q_lss rfl rfl)<|JL.fz b15 fun h2 s2 hb=>?_
   have hl:Bd [n.natAbs % 4294967296,n.natAbs / 4294967296]:=fun x hx=>by
     have hB:Bs=4294967296:=rfl
     simp at hx; omega
   refine oc (made_fn (MagAt.froze (l:=[n.natAbs % 4294967296,n.natAbs / 4294967296]) hb hl (Nat.le_refl _)) (by simp)) fun r h3 s3 hr=>?_
   obtain ⟨pr,cr,rfl,_,hm⟩:=hr.out
   refine o_stw (vs:=[_,_]) rfl rfl rfl ii rfl rfl<|N0<|Jr<|ret_ok (fn:=Tryz.f42) rfl (.agg rfl ii ii .nil) ?_
   have hz:(if decide (n<0)=true then -(val [n.natAbs % 4294967296,n.natAbs / 4294967296]:Int) else (val [n.natAbs % 4294967296,n.natAbs / 4294967296]:Int))=n:=by
     have hv:val [n.natAbs % 4294967296,n.natAbs / 4294967296]=n.natAbs:=by
       have hB:Bs=4294967296:=rfl
       simp only [val,hB]; omega
     rw [hv]; by_cases h:n<0<;>simp [h]<;>omega
   rw [hz] at hm ⊢<;>exact IntAt.in hm
theorem neg_fn {h:Heap} {v:Value} {z:Int} (hv:IntAt h v z) (hz:Fit z) :
    Fn Tryz.prog 153 #[v] h fun r h'=>IntAt h' r (-z):=by
 obtain ⟨p,c,rfl,hc,hm⟩:=hv.out
 refine Fn.intro (args:=[_]) Tryz.func153 rfl rfl (lB rfl) fun w=>SR<|o_bx (v:=.agg _) rfl rfl fun b1=>o_al fun b2=>N0<|SR<|oq (q_fa rfl)<|oq (q_ld rfl ia rfl)<|oq (q_fa rfl)<|oq (q_ld rfl ia rfl)<|oq (q_not rfl)<|oc (made_fn hm (Nat.le_trans hz (by decide))) fun r h1 s1 hr=>?_
 rw [show (if (!decide (z<0))=true then -(val (limbs z.natAbs):Int) else ↑(val (limbs z.natAbs)))=-z by rw [val_limbs]; by_cases h:z<0<;>simp [h]<;>omega] at hr
 obtain ⟨pr,cr,rfl,_,hm1⟩:=hr.out
 exact o_stw (vs:=[_,_]) rfl rfl rfl ii rfl rfl<|N0<|Jr<|ret_ok (fn:=Tryz.f153) rfl (.agg rfl ii ii .nil) (IntAt.in hm1)
theorem plusr_fn {h:Heap} {va vb:Value} {a b:List Nat} (ha:MagAt h va a) (hb:MagAt h vb b) (la:a.length≤1000001) (lb:b.length≤1000001) :
    Fn Tryz.prog 176 #[va,vb] h fun r h'=>∃ l,MagAt h' r l∧val l=val a+val b∧l.length≤max a.length b.length+1:=by
 obtain ⟨pa,ca,rfl,hca⟩:=ha.out
 obtain ⟨pb,cb,rfl,hcb⟩:=hb.out
 refine Fn.intro (args:=[_,_]) Tryz.func176 rfl rfl (lB rfl) fun w=>SR<|oq q_as<|N0<|SR<|o_bs [] (by decide) rfl fun b8=>oq (aS rfl)<|oq q_as<|N0 ?_
 refine J.cutK (α:=List Nat×Value×Own) (fun ⟨xs,v,Lb⟩ h' L'=>OwnS 180 1 v xs.length (u32s xs) Lb∧Lb=L'∧Bd xs∧xs.length≤max a.length b.length+1∧val xs=val a+val b) [] trivial (fun ⟨xs,v,Lb⟩=>[(5,v)]) ?_ ?_
 · refine SR<|oq q_as<|N0<|Jb ?_
   refine J.loopK (α:=Nat×Nat×List Nat×Value×Own) (fun ⟨i,cy,xs,v,Lb⟩ h' L'=>OwnS 180 1 v i (u32s xs) Lb∧Lb=L'∧Bd xs∧xs.length=i∧cy≤1∧(i≤max a.length b.length∨(cy=0∧i≤max a.length b.length+1))∧val xs+Bs^i*cy=val (a.take i)+val (b.take i)) [(0,.slice _ _ _),(1,.slice _ _ _)] ⟨rfl,rfl,trivial⟩ (fun ⟨i,cy,xs,v,Lb⟩=>[(5,v),(6,.int .u64 (cy:Int)),(7,.int .i64 (i:Int))]) (fun ⟨i,cy,xs,v,Lb⟩=>max a.length b.length+1-i) ((0,0,[],.slice (some ⟨b8,0,none⟩) 0 0,[(b8,row 180 [])])) ⟨OwnS.lit (xs:=[]) (n:=0) rfl,rfl,Bd.nil,rfl,by omega,.inl (by omega),by simp [val]⟩ ⟨rfl,rfl,rfl,trivial⟩ ?_
   rintro ⟨i,cy,xs,v,Lb⟩ σ h1 L1 s1 ⟨ho,rfl,hxb,hxl,hcr,hi,hv⟩
   refine J.cutK (α:=Unit) (fun _ h' L'=>(i<a.length∨i<b.length∨0<cy)∧Lb=L') [(0,_),(1,_),(5,_),(6,_),(7,_)] ⟨rfl,rfl,rfl,rfl,rfl,trivial⟩ (fun _=>[]) ?_ ?_
   · refine Sq ?_
     rcases Nat.lt_or_ge i a.length with c1 | c1
     rotate_left
     rcases Nat.lt_or_ge i b.length with c2 | c2
     rotate_left
     rcases Nat.eq_zero_or_pos cy with c3 | c3
     · refine Rg<|oq (mI rfl)<|oq (mS rfl)<|oq (q_len rfl)<|oq (q_lss rfl rfl)<|oq (mB rfl)<|gT rfl rfl (dF (by omega))<|oq (mI rfl)<|gT rfl rfl (dF (by omega))<|oq (mS rfl)<|gT rfl rfl (dF (by omega))<|oq (q_len rfl)<|gT rfl rfl (dF (by omega))<|oq (q_lss rfl rfl)<|oq (pkF rfl (dF (by omega)) rfl)<|oq (mB rfl)<|gT rfl rfl (dF (by omega))<|oq (mI rfl)<|gT rfl rfl (dF (by omega))<|oq (q_gtr rfl rfl)<|oq (pkF rfl (dF (by omega)) rfl)<|N0<|jF rfl (dF (by omega))<|Jx ?_
       exact ⟨(xs,v,_),rfl,trivial,⟨rfl,trivial⟩,⟨hxl ▸ ho,rfl,hxb,by omega,(by
         have h1:cy=0:=by omega
         rw [h1,List.take_of_length_le (by omega),List.take_of_length_le (by omega)] at hv; omega)⟩,ii⟩
     focus
      refine Rg<|oq (mI rfl)<|oq (mS rfl)<|oq (q_len rfl)<|oq (q_lss rfl rfl)<|oq (mB rfl)<|gT rfl rfl (dF (by omega))<|oq (mI rfl)<|gT rfl rfl (dF (by omega))<|oq (mS rfl)<|gT rfl rfl (dF (by omega))<|oq (q_len rfl)<|gT rfl rfl (dF (by omega))<|oq (q_lss rfl rfl)<|oq (pkF rfl (dF (by omega)) rfl)<|oq (mB rfl)<|gT rfl rfl (dF (by omega))<|oq (mI rfl)<|gT rfl rfl (dF (by omega))<|oq (q_gtr rfl rfl)<|oq (pkF rfl (dF (by omega)) rfl)<|N0<|jT rfl (dT (by omega)) ?_
     rotate_left
     focus
      refine Rg<|oq (mI rfl)<|oq (mS rfl)<|oq (q_len rfl)<|oq (q_lss rfl rfl)<|oq (mB rfl)<|gF rfl rfl (dT (by omega))<|gF rfl rfl (dT (by omega))<|gF rfl rfl (dT (by omega))<|gF rfl rfl (dT (by omega))<|oq (q_pickT rfl (dT (by omega)))<|oq (mB rfl)<|gF rfl rfl rfl<|gF rfl rfl rfl<|oq (q_pickT rfl rfl)<|N0<|jT rfl rfl ?_
     rotate_left
     focus
      refine Rg<|oq (mI rfl)<|oq (mS rfl)<|oq (q_len rfl)<|oq (q_lss rfl rfl)<|oq (mB rfl)<|gT rfl rfl (dF (by omega))<|oq (mI rfl)<|gT rfl rfl (dF (by omega))<|oq (mS rfl)<|gT rfl rfl (dF (by omega))<|oq (q_len rfl)<|gT rfl rfl (dF (by omega))<|oq (q_lss rfl rfl)<|oq (pkF rfl (dF (by omega)) rfl)<|oq (mB rfl)<|gF rfl rfl (dT (by omega))<|gF rfl rfl (dT (by omega))<|oq (q_pickT rfl (dT (by omega)))<|N0<|jT rfl rfl ?_
     rotate_left
     all_goals
      refine Js ?_
      exact ⟨(),rfl,⟨rfl,rfl,rfl,rfl,rfl,trivial⟩,trivial,⟨by omega,rfl⟩,ii⟩
   · rintro _ σ2 h2 L2 s2 ⟨hgo,rfl⟩
     refine Sq<|Jb ?_
     refine J.cutK (α:=Unit) (fun _ h' L'=>a.getD i 0<4294967296∧Lb=L') [(0,_),(1,_),(5,_),(7,_)] ⟨rfl,rfl,rfl,rfl,trivial⟩ (fun _=>[(6,.int .u64 ((cy+a.getD i 0:Nat):Int))]) ?_ ?_
     · refine SR<|oq (mI rfl)<|oq (mS rfl)<|oq (q_len rfl)<|oq (q_lss rfl rfl)<|N0 ?_
       refine J.condD rfl (fun c1=>?_) (fun c1=>?_)
       · refine Rg<|oq (mI rfl)<|oq (mS rfl)<|oq (mI rfl) ?_
         obtain ⟨kx,ox,x,rfl,hx,lx,hcx⟩:=MagAt.limb (j:=i) ha (by omega)
         have gx:=getD_some hx
         refine oq (q_ia rfl rfl (by omega))<|oq (q_ldf rfl hcx)<|oq (q_cv (c:=(x:Int)) rfl (wu64 (by omega)))<|oq (q_add (c:=((cy+x:Nat):Int)) rfl rfl (by rw [wu64 (by omega)]; omega))<|oq (aI rfl)<|N0 ?_
         exact ⟨(),rfl,⟨rfl,rfl,rfl,rfl,trivial⟩,⟨(by rw [gx]<;>rfl),trivial⟩,⟨by omega,rfl⟩,ii⟩
       · have gx:=getD_none (l:=a) (i:=i) (by omega)
         refine Js ?_
         exact ⟨(),rfl,⟨rfl,rfl,rfl,rfl,trivial⟩,⟨(by rw [gx]<;>rfl),trivial⟩,⟨by omega,rfl⟩,ii⟩
     · rintro _ σ5 h5 L5 s5 ⟨xl,rfl⟩
       refine J.cutK (α:=Unit) (fun _ h' L'=>b.getD i 0<4294967296∧Lb=L') [(0,_),(1,_),(5,_),(7,_)] ⟨rfl,rfl,rfl,rfl,trivial⟩ (fun _=>[(6,.int .u64 ((cy+a.getD i 0+b.getD i 0:Nat):Int))]) ?_ ?_
       · refine SR<|oq (mI rfl)<|oq (mS rfl)<|oq (q_len rfl)<|oq (q_lss rfl rfl)<|N0 ?_
         refine J.condD rfl (fun c2=>?_) (fun c2=>?_)
         · refine Rg<|oq (mI rfl)<|oq (mS rfl)<|oq (mI rfl) ?_
           obtain ⟨ky,oy,y,rfl,hy,ly,hcy⟩:=MagAt.limb (j:=i) hb (by omega)
           have gy:=getD_some hy
           refine oq (q_ia rfl rfl (by omega))<|oq (q_ldf rfl hcy)<|oq (q_cv (c:=(y:Int)) rfl (wu64 (by omega)))<|oq (q_add (c:=((cy+a.getD i 0+y:Nat):Int)) rfl rfl (by rw [wu64 (by omega)]; omega))<|oq (aI rfl)<|N0 ?_
           exact ⟨(),rfl,⟨rfl,rfl,rfl,rfl,trivial⟩,⟨(by rw [gy]<;>rfl),trivial⟩,⟨by omega,rfl⟩,ii⟩
         · have gy:=getD_none (l:=b) (i:=i) (by omega)
           refine Js ?_
           exact ⟨(),rfl,⟨rfl,rfl,rfl,rfl,trivial⟩,⟨(by rw [gy]<;>rfl),trivial⟩,⟨by omega,rfl⟩,ii⟩
       · rintro _ σ6 h6 L6 s6 ⟨yl,rfl⟩
         refine SR<|oq q_mv<|oq (mI rfl)<|oq (q_cv (c:=(((cy+a.getD i 0+b.getD i 0) % 4294967296:Nat):Int)) rfl (by rw [IntKind.wrap_u32]; omega))<|o_bs [.int _ _] (by decide) rfl fun b50=>o_app (us:=[.int .u32 (((cy+a.getD i 0+b.getD i 0) % 4294967296:Nat):Int)]) (m:=1) rfl rfl ho ii (src_own ii (LookN.all _) rfl (by simp [plain])) (by omega) fun v7 L7 ho7=>oq q_as<|N0<|J.drop<|Rg<|oq (mI rfl)<|oq (q_quo (c:=(((cy+a.getD i 0+b.getD i 0) / 4294967296:Nat):Int)) rfl rfl (by decide) (by rw [td32,wu64 (by omega)]))<|oq (aI rfl)<|N0<|Rg<|oq (mI rfl)<|oq (q_add (c:=((i+1:Nat):Int)) rfl rfl (by rw [wi64 (by omega)]; omega))<|oq (aI rfl)<|N0 ?_
         exact ⟨(i+1,(cy+a.getD i 0+b.getD i 0) / 4294967296,xs++[(cy+a.getD i 0+b.getD i 0) % 4294967296],v7,L7),rfl,⟨rfl,rfl,trivial⟩,⟨rfl,rfl,rfl,trivial⟩,⟨by rw [u32s_append]; exact ho7,rfl,hxb.snoc (Nat.mod_lt _ (by decide)),by simp [hxl],by omega,by
           have e1:a.length≤i→a.getD i 0=0:=getD_none
           have e2:b.length≤i→b.getD i 0=0:=getD_none
           omega,plus_step hxl hv⟩,by show max a.length b.length+1-(i+1)<max a.length b.length+1-i; omega,ii⟩
 · rintro ⟨xs,v,Lb⟩ σ4 h4 L4 s4 ⟨ho,rfl,hxb,hxl,hv⟩
   exact Sq<|J.fzS ho fun h5 s5 hs5=>Rg<|oq q_mv<|oq q_as<|N0<|Jr<|ret_ok (fn:=Tryz.f176) rfl (.tmp rfl .nil) ⟨xs,MagAt.of hs5 hxb,hv,hxl⟩
theorem less_fn {h:Heap} {va vb:Value} {x y:Nat} (ha:MagAt h va (limbs x)) (hb:MagAt h vb (limbs y)) (la:(limbs x).length≤1000001) (lb:(limbs y).length≤1000001) :
    Fn Tryz.prog 115 #[va,vb] h fun r _=>r=.bool (decide (x<y)):=by
 obtain ⟨pa,ca,rfl,hca⟩:=ha.out
 obtain ⟨pb,cb,rfl,hcb⟩:=hb.out
 refine Fn.intro (args:=[_,_]) Tryz.func115 rfl rfl (lB rfl) fun w=>SR<|oq q_as<|N0<|Sq<|SR<|oq (mS rfl)<|oq (q_len rfl)<|oq (mS rfl)<|oq (q_len rfl)<|oq (q_neq rfl rfl)<|N0 ?_
 refine J.condD rfl (fun c0=>?_) (fun c0=>?_)
 · refine SR<|oq (mS rfl)<|oq (q_len rfl)<|oq (mS rfl)<|oq (q_len rfl)<|oq (q_lss rfl rfl)<|oq (aB rfl)<|N0<|Jr<|ret_ok (fn:=Tryz.f115) rfl (.tmp rfl .nil) ?_
   refine congrArg Value.bool (decide_eq_decide.2 ⟨fun h1=>limbs_len_lt (by omega),fun h1=>?_⟩)
   rcases Nat.lt_or_ge (limbs y).length (limbs x).length with h2 | h2
   · have:=limbs_len_lt h2; omega
   · omega
 · have heq:(limbs x).length=(limbs y).length:=by omega
   refine Js ?_
   refine J.cutK (α:=Unit) (fun _ h' L'=>x=y∧[]=L') [] trivial (fun _=>[]) ?_ ?_
   · refine SR<|oq (mS rfl)<|oq (q_len rfl)<|oq (q_sub (c:=((limbs x).length:Int)-1) rfl rfl (wi64 (by omega)))<|oq (aI rfl)<|N0<|Jb ?_
     refine J.loopK (α:=Int) (fun i h' L'=>-1≤i∧i<((limbs x).length:Int)∧(limbs x).drop (i+1).toNat=(limbs y).drop (i+1).toNat∧[]=L') [(0,.slice _ _ _),(1,.slice _ _ _)] ⟨rfl,rfl,trivial⟩ (fun i=>[(5,.int .i64 i)]) (fun i=>(i+1).toNat) (((limbs x).length:Int)-1) ⟨by omega,by omega,by rw [show (((limbs x).length:Int)-1+1).toNat=(limbs x).length by omega,List.drop_length,heq,List.drop_length],rfl⟩ ⟨rfl,trivial⟩ ?_
     rintro i σ h1 L1 s1 ⟨hi0,hi1,hd,rfl⟩
     refine Sq<|SR<|oq (mI rfl)<|oq (q_geq rfl rfl)<|N0 ?_
     refine J.condD rfl (fun c1=>?_) (fun c1=>?_)
     · obtain ⟨j,rfl⟩:=Int.eq_ofNat_of_zero_le c1
       rw [show ((j:Int)+1).toNat=j+1 by omega] at hd
       refine Js<|Sq<|Jb<|Sq<|J.drawA []<|JD.calc 0 (by kernel_rfl) rfl trivial ss_sub (mS rfl)<|JD.calc 1 (by kernel_rfl) rfl trivial ss_sub (mI rfl) ?_
       obtain ⟨ku,ou,u,rfl,hu,lu,hcu⟩:=MagAt.limb (j:=j) ha (by omega)
       refine JD.calc 2 (by kernel_rfl) rfl trivial ss_sub (q_ia rfl rfl (by omega))<|JD.load 3 (by kernel_rfl) rfl trivial (q_ldf rfl hcu)<|JD.calc 4 (by kernel_rfl) rfl trivial ss_sub (mS rfl)<|JD.calc 5 (by kernel_rfl) rfl trivial ss_sub (mI rfl) ?_
       obtain ⟨kw,ow,w,rfl,hw,lw,hcw⟩:=MagAt.limb (j:=j) hb (by omega)
       refine JD.calc 6 (by kernel_rfl) rfl trivial ss_sub (q_ia rfl rfl (by omega))<|JD.load 7 (by kernel_rfl) rfl trivial (q_ldf rfl hcw)<|JD.calc 8 (by kernel_rfl) rfl trivial ss_sub (q_neq rfl rfl)<|Dd ?_
       refine J.condD rfl (fun c2=>?_) (fun c2=>?_)
       · refine Sq<|J.drawA []<|JD.calc 0 (by kernel_rfl) rfl trivial ss_sub (mS rfl)<|JD.calc 1 (by kernel_rfl) rfl trivial ss_sub (mI rfl)<|JD.calc 2 (by kernel_rfl) rfl trivial ss_sub (q_ia rfl rfl (by omega))<|JD.load 3 (by kernel_rfl) rfl trivial (q_ldf rfl hcu)<|JD.calc 4 (by kernel_rfl) rfl trivial ss_sub (mS rfl)<|JD.calc 5 (by kernel_rfl) rfl trivial ss_sub (mI rfl)<|JD.calc 6 (by kernel_rfl) rfl trivial ss_sub (q_ia rfl rfl (by omega))<|JD.load 7 (by kernel_rfl) rfl trivial (q_ldf rfl hcw)<|JD.calc 8 (by kernel_rfl) rfl trivial ss_sub (q_lss rfl rfl)<|JD.calc 9 (by kernel_rfl) rfl trivial ss_sub (aB rfl)<|Dd<|Jr<|ret_ok (fn:=Tryz.f115) rfl (.tmp rfl .nil) ?_
         refine congrArg Value.bool (decide_eq_decide.2 ?_)
         have e1:=fun h=>val_lt_of (bd_limbs x) (bd_limbs y) hd hu hw h
         have e2:=fun h=>val_lt_of (bd_limbs y) (bd_limbs x) hd.symm hw hu h
         rw [val_limbs,val_limbs] at e1 e2
         exact ⟨fun h1=>e1 (by omega),fun h1=>by
           rcases Nat.lt_or_ge u w with h2 | h2
           · omega
           · have:=e2 (by omega); omega⟩
       · refine Js<|Rg<|oq (mI rfl)<|oq (q_sub (c:=(j:Int)-1) rfl rfl (wi64 (by omega)))<|oq (aI rfl)<|N0 ?_
         exact ⟨(j:Int)-1,rfl,⟨rfl,rfl,trivial⟩,⟨rfl,trivial⟩,⟨by omega,by omega,by
           rw [show ((j:Int)-1+1).toNat=j by omega,List.drop_eq_getElem_cons (l:=limbs x) (i:=j) (by omega),List.drop_eq_getElem_cons (l:=limbs y) (i:=j) (by omega),hd]
           obtain ⟨_,e1⟩:=List.getElem?_eq_some_iff.1 hu
           obtain ⟨_,e2⟩:=List.getElem?_eq_some_iff.1 hw
           rw [e1,e2,show u=w by omega],rfl⟩,by omega,ii⟩
     · refine Jx ?_
       exact ⟨(),rfl,trivial,trivial,⟨limbs_inj (by simpa [show (i+1).toNat=0 by omega] using hd),rfl⟩,ii⟩
   · rintro _ σ3 h3 L3 s3 ⟨rfl,rfl⟩
     exact SR<|oq q_as<|N0<|Jr<|ret_ok (fn:=Tryz.f115) rfl (.tmp rfl .nil) (congrArg Value.bool (dF (by omega)).symm)
theorem minusr_fn {h:Heap} {va vb:Value} {a b:List Nat} (ha:MagAt h va a) (hb:MagAt h vb b) (la:a.length≤1000001) (lb:b.length≤1000001) (hlen:b.length≤a.length) (hba:val b≤val a) :
    Fn Tryz.prog 177 #[va,vb] h fun r h'=>∃ l,MagAt h' r l∧val l=val a-val b∧l.length=a.length:=by
 obtain ⟨pa,ca,rfl,hca⟩:=ha.out
 obtain ⟨pb,cb,rfl,hcb⟩:=hb.out
 refine Fn.intro (args:=[_,_]) Tryz.func177 rfl rfl (lB rfl) fun w=>SR<|oq q_as<|N0<|SR<|o_bs [] (by decide) rfl fun b9=>oq (aS rfl)<|oq q_as<|N0 ?_
 refine J.cutK (α:=List Nat×Value×Own) (fun ⟨xs,v,Lb⟩ h' L'=>OwnS 180 1 v xs.length (u32s xs) Lb∧Lb=L'∧Bd xs∧xs.length=a.length∧val xs=val a-val b) [] trivial (fun ⟨xs,v,Lb⟩=>[(5,v)]) ?_ ?_
 · refine SR<|oq q_as<|N0<|Jb ?_
   refine J.loopK (α:=Nat×Nat×List Nat×Value×Own) (fun ⟨i,bw,xs,v,Lb⟩ h' L'=>OwnS 180 1 v i (u32s xs) Lb∧Lb=L'∧Bd xs∧xs.length=i∧bw≤1∧i≤a.length∧val xs+val (b.take i)=val (a.take i)+Bs^i*bw) [(0,.slice _ _ _),(1,.slice _ _ _)] ⟨rfl,rfl,trivial⟩ (fun ⟨i,bw,xs,v,Lb⟩=>[(5,v),(6,.int .i64 (bw:Int)),(7,.int .i64 (i:Int))]) (fun ⟨i,bw,xs,v,Lb⟩=>a.length-i) ((0,0,[],.slice (some ⟨b9,0,none⟩) 0 0,[(b9,row 180 [])])) ⟨OwnS.lit (xs:=[]) (n:=0) rfl,rfl,Bd.nil,rfl,by omega,by omega,by simp [val]⟩ ⟨rfl,rfl,rfl,trivial⟩ ?_
   rintro ⟨i,bw,xs,v,Lb⟩ σ h1 L1 s1 ⟨ho,rfl,hxb,hxl,hbw,hi,hv⟩
   refine Sq<|SR<|oq (mI rfl)<|oq (mS rfl)<|oq (q_len rfl)<|oq (q_lss rfl rfl)<|N0 ?_
   refine J.condD rfl (fun c0=>?_) (fun c0=>?_)
   · refine Js<|Sq<|Jb<|SR<|oq (mS rfl)<|oq (mI rfl) ?_
     obtain ⟨kx,ox,x,rfl,hx,lx,hcx⟩:=MagAt.limb (j:=i) ha (by omega)
     have gx:=getD_some hx
     refine oq (q_ia rfl rfl (by omega))<|oq (q_ldf rfl hcx)<|oq (q_cv (c:=(x:Int)) rfl (wi64 (by omega)))<|oq (mI rfl)<|oq (q_sub (c:=(x:Int)-bw) rfl rfl (wi64 (by omega)))<|oq (aI rfl)<|N0 ?_
     refine J.cutK (α:=Unit) (fun _ h' L'=>b.getD i 0<4294967296∧Lb=L') [(0,_),(1,_),(5,_),(7,_)] ⟨rfl,rfl,rfl,rfl,trivial⟩ (fun _=>[(8,.int .i64 ((x:Int)-bw-(b.getD i 0:Nat)))]) ?_ ?_
     · refine SR<|oq (mI rfl)<|oq (mS rfl)<|oq (q_len rfl)<|oq (q_lss rfl rfl)<|N0 ?_
       refine J.condD rfl (fun c1=>?_) (fun c1=>?_)
       focus
        refine Rg<|oq (mI rfl)<|oq (mS rfl)<|oq (mI rfl) ?_
        obtain ⟨ky,oy,y,rfl,hy,ly,hcy⟩:=MagAt.limb (j:=i) hb (by omega)
        have gy:=getD_some hy
        refine oq (q_ia rfl rfl (by omega))<|oq (q_ldf rfl hcy)<|oq (q_cv (c:=(y:Int)) rfl (wi64 (by omega)))<|oq (q_sub (c:=(x:Int)-bw-y) rfl rfl (wi64 (by omega)))<|oq (aI rfl)<|N0 ?_
       rotate_left
       focus
        have gy:=getD_none (l:=b) (i:=i) (by omega)
        refine Js ?_
       rotate_left
       all_goals
        exact ⟨(),rfl,⟨rfl,rfl,rfl,rfl,trivial⟩,⟨(by rw [gy]<;>first | rfl | (show Value.int _ _=Value.int _ _; congr 1; omega)),trivial⟩,⟨by omega,rfl⟩,ii⟩
     · rintro _ σ6 h6 L6 s6 ⟨yl,rfl⟩
       refine SR<|oq q_as<|N0 ?_
       refine J.cutK (α:=Nat×Nat) (fun ⟨d,e⟩ h' L'=>d+bw+b.getD i 0=x+4294967296*e∧d<4294967296∧e≤1∧Lb=L') [(0,_),(1,_),(5,_),(7,_)] ⟨rfl,rfl,rfl,rfl,trivial⟩ (fun ⟨d,e⟩=>[(6,.int .i64 (e:Int)),(8,.int .i64 (d:Int))]) ?_ ?_
       · refine SR<|oq (mI rfl)<|oq (q_lss rfl rfl)<|N0 ?_
         refine J.condD rfl (fun c2=>?_) (fun c2=>?_)
         focus
          refine SR<|oq (mI rfl)<|oq (q_add (c:=(x:Int)-bw-(b.getD i 0:Nat)+4294967296) rfl rfl (wi64 (by omega)))<|oq (aI rfl)<|N0<|Rg<|oq q_as<|N0 ?_
         rotate_left
         focus
          refine Js ?_
         rotate_left
         all_goals
          first
            | exact ⟨(((x:Int)-bw-(b.getD i 0:Nat)+4294967296).toNat,1),rfl,⟨rfl,rfl,rfl,rfl,trivial⟩,⟨rfl,(by show Value.int _ _=Value.int _ _; congr 1; omega),trivial⟩,⟨by omega,by omega,by omega,rfl⟩,ii⟩
            | exact ⟨(((x:Int)-bw-(b.getD i 0:Nat)).toNat,0),rfl,⟨rfl,rfl,rfl,rfl,trivial⟩,⟨rfl,(by show Value.int _ _=Value.int _ _; congr 1; omega),trivial⟩,⟨by omega,by omega,by omega,rfl⟩,ii⟩
       · rintro ⟨d,e⟩ σ8 h8 L8 s8 ⟨hd,hdl,he,rfl⟩
         refine Rg<|oq q_mv<|oq (mI rfl)<|oq (q_cv (c:=(d:Int)) rfl (wu32 (by omega)))<|o_bs [.int _ _] (by decide) rfl fun b41=>o_app (us:=[.int .u32 (d:Int)]) (m:=1) rfl rfl ho ii (src_own ii (LookN.all _) rfl (by simp [plain])) (by omega) fun v7 L7 ho7=>oq q_as<|N0<|J.drop<|Rg<|oq (mI rfl)<|oq (q_add (c:=((i+1:Nat):Int)) rfl rfl (by rw [wi64 (by omega)]; omega))<|oq (aI rfl)<|N0 ?_
         exact ⟨(i+1,e,xs++[d],v7,L7),rfl,⟨rfl,rfl,trivial⟩,⟨rfl,rfl,rfl,trivial⟩,⟨by rw [u32s_append]; exact ho7,rfl,hxb.snoc hdl,by simp [hxl],by omega,by omega,minus_step hxl hv (by rw [gx]; exact hd)⟩,by show a.length-(i+1)<a.length-i; omega,ii⟩
   · refine Jx ?_
     exact ⟨(xs,v,_),rfl,trivial,⟨rfl,trivial⟩,⟨hxl ▸ ho,rfl,hxb,by omega,(by
       have h1:i=a.length:=by omega
       rw [List.take_of_length_le (by omega),List.take_of_length_le (by omega),h1] at hv
       exact minus_end hxb (by omega) hv hba)⟩,ii⟩
 · rintro ⟨xs,v,Lb⟩ σ4 h4 L4 s4 ⟨ho,rfl,hxb,hxl,hv⟩
   exact Sq<|J.fzS ho fun h5 s5 hs5=>Rg<|oq q_mv<|oq q_as<|N0<|Jr<|ret_ok (fn:=Tryz.f177) rfl (.tmp rfl .nil) ⟨xs,MagAt.of hs5 hxb,hv,hxl⟩
theorem same_fn {h:Heap} {va vb:Value} {x y:Int} (ha:IntAt h va x) (hb:IntAt h vb y) (fa:Fit x) (fb:Fit y) :
    Fn Tryz.prog 38 #[va,vb] h fun r _=>r=.bool (decide (x=y)):=by
 obtain ⟨pa,ca,rfl,hca,ha⟩:=ha.out
 obtain ⟨pb,cb,rfl,hcb,hb⟩:=hb.out
 refine Fn.intro (args:=[_,_]) Tryz.func38 rfl rfl (lB rfl) fun w=>SR<|o_bx (v:=.agg _) rfl rfl fun b2=>o_bx (v:=.agg _) rfl rfl fun b3=>oq q_as<|N0<|Sq ?_
 rcases same3 x y with hs | ⟨hs,hl⟩ | ⟨hs,hl⟩
 · exact Rg<|oq (q_fa rfl)<|oq (q_ld rfl ia rfl)<|oq (q_fa rfl)<|oq (q_ld rfl ia rfl)<|oq (q_beq rfl rfl)<|oq (mB rfl)<|gF rfl rfl hs<|gF rfl rfl hs<|gF rfl rfl hs<|gF rfl rfl hs<|gF rfl rfl hs<|gF rfl rfl hs<|oq (q_pickF rfl hs)<|oq (mB rfl)<|gF rfl rfl rfl<|gF rfl rfl rfl<|gF rfl rfl rfl<|gF rfl rfl rfl<|gF rfl rfl rfl<|gF rfl rfl rfl<|oq (q_pickF rfl rfl)<|oq (aB rfl)<|N0<|Jr<|ret_ok (fn:=Tryz.f38) rfl (.tmp rfl .nil) (congrArg Value.bool (dF (fun h=>sign_ne hs (by rw [h]))).symm)
 · refine Rg<|oq (q_fa rfl)<|oq (q_ld rfl ia rfl)<|oq (q_fa rfl)<|oq (q_ld rfl ia rfl)<|oq (q_beq rfl rfl)<|oq (mB rfl)<|gT rfl rfl hs<|oq (q_fa rfl)<|gT rfl rfl hs<|oq (q_ld rfl ia rfl)<|gT rfl rfl hs<|oq (q_fa rfl)<|gT rfl rfl hs<|oq (q_ld rfl ia rfl)<|gT rfl rfl hs<|oc (less_fn ha hb (Nat.le_trans fa (by decide)) (Nat.le_trans fb (by decide))) fun v1 hv1 sv1 ev1=>?_
   subst ev1
   exact gT rfl rfl hs<|oq (q_not rfl)<|oq (pkT rfl hs rfl)<|oq (mB rfl)<|gF rfl rfl (by rw [hl]<;>rfl)<|gF rfl rfl (by rw [hl]<;>rfl)<|gF rfl rfl (by rw [hl]<;>rfl)<|gF rfl rfl (by rw [hl]<;>rfl)<|gF rfl rfl (by rw [hl]<;>rfl)<|gF rfl rfl (by rw [hl]<;>rfl)<|oq (q_pickF rfl (by rw [hl]<;>rfl))<|oq (aB rfl)<|N0<|Jr<|ret_ok (fn:=Tryz.f38) rfl (.tmp rfl .nil) (congrArg Value.bool (dF (fun h=>by rw [h] at hl; simp at hl)).symm)
 · refine Rg<|oq (q_fa rfl)<|oq (q_ld rfl ia rfl)<|oq (q_fa rfl)<|oq (q_ld rfl ia rfl)<|oq (q_beq rfl rfl)<|oq (mB rfl)<|gT rfl rfl hs<|oq (q_fa rfl)<|gT rfl rfl hs<|oq (q_ld rfl ia rfl)<|gT rfl rfl hs<|oq (q_fa rfl)<|gT rfl rfl hs<|oq (q_ld rfl ia rfl)<|gT rfl rfl hs<|oc (less_fn ha hb (Nat.le_trans fa (by decide)) (Nat.le_trans fb (by decide))) fun v1 hv1 sv1 ev1=>?_
   subst ev1
   refine gT rfl rfl hs<|oq (q_not rfl)<|oq (pkT rfl hs rfl)<|oq (mB rfl)<|gT rfl rfl (by rw [hl]<;>rfl)<|oq (q_fa rfl)<|gT rfl rfl (by rw [hl]<;>rfl)<|oq (q_ld rfl ia rfl)<|gT rfl rfl (by rw [hl]<;>rfl)<|oq (q_fa rfl)<|gT rfl rfl (by rw [hl]<;>rfl)<|oq (q_ld rfl ia rfl)<|gT rfl rfl (by rw [hl]<;>rfl)<|oc (less_fn hb.mono ha.mono (Nat.le_trans fb (by decide)) (Nat.le_trans fa (by decide))) fun v2 hv2 sv2 ev2=>?_
   subst ev2
   refine gT rfl rfl (by rw [hl]<;>rfl)<|oq (q_not rfl)<|oq (pkT rfl (by rw [hl]<;>rfl) rfl)<|oq (aB rfl)<|N0<|Jr ?_
   refine ret_ok (fn:=Tryz.f38) rfl (.tmp rfl .nil) (congrArg Value.bool ?_)
   have h1:=of_decide_eq_false hl
   have h2:=sign_eq hs
   by_cases h3:y.natAbs<x.natAbs
   · rw [dT h3,dF (show ¬ x=y by omega)]; rfl
   · rw [dF h3,dT (show x=y by omega)]; rfl
theorem addr_fn {h:Heap} {va vb:Value} {x y:Int} (ha:IntAt h va x) (hb:IntAt h vb y) (fa:Fit x) (fb:Fit y) :
    Fn Tryz.prog 120 #[va,vb] h fun r h'=>IntAt h' r (x+y):=by
 obtain ⟨pa,ca,rfl,hca,ha⟩:=ha.out
 obtain ⟨pb,cb,rfl,hcb,hb⟩:=hb.out
 have hlen2:∀ {x y:Nat},x≤y→(limbs x).length≤(limbs y).length:=fun h=>limbs_len.2 (Nat.lt_of_le_of_lt h (limbs_len.1 (Nat.le_refl _)))
 refine Fn.intro (args:=[_,_]) Tryz.func120 rfl rfl (lB rfl) fun w=>SR<|o_bx (v:=.agg _) rfl rfl fun b2=>o_bx (v:=.agg _) rfl rfl fun b3=>o_al fun b4=>N0<|Sq<|SR<|oq (q_fa rfl)<|oq (q_ld rfl ia rfl)<|oq (q_fa rfl)<|oq (q_ld rfl ia rfl)<|oq (q_beq rfl rfl)<|N0 ?_
 refine J.cond rfl (fun hs=>?_) (fun hs=>?_)
 focus
  have hs2:=sign_eq hs
  have sum_z:(if decide (x<0)=true then -((x.natAbs+y.natAbs:Nat):Int) else ((x.natAbs+y.natAbs:Nat):Int))=x+y:=by
    split<;>simp only [decide_eq_true_eq] at *<;>omega
  refine Sq<|J.drawA [8]<|JD.calc 0 (by kernel_rfl) rfl trivial ss_sub (q_fa rfl)<|JD.load 1 (by kernel_rfl) rfl trivial (q_ld rfl ii rfl)<|JD.calc 2 (by kernel_rfl) rfl trivial ss_sub (q_fa rfl)<|JD.load 3 (by kernel_rfl) rfl trivial (q_ld rfl ii rfl)<|JD.calc 5 (by kernel_rfl) rfl trivial ss_sub (q_fa rfl)<|JD.load 6 (by kernel_rfl) rfl trivial (q_ld rfl ii rfl)<|Do 4<|JX.eff rfl rfl trivial<|oc (plusr_fn ha hb (Nat.le_trans fa (by decide)) (Nat.le_trans fb (by decide))) fun r1 g1 t1 hr=>?_
 rotate_left
 focus
  have hs2:=sign_ne hs
  refine Js<|Sq<|SR<|oq (q_fa rfl)<|oq (q_ld rfl ia rfl)<|oq (q_fa rfl)<|oq (q_ld rfl ia rfl)<|oc (less_fn ha hb (Nat.le_trans fa (by decide)) (Nat.le_trans fb (by decide))) fun v1 hv1 sv1 ev1=>?_
  subst ev1
  refine N0 ?_
  refine J.condD rfl (fun c1=>?_) (fun c1=>?_)
  focus
   have sum_z:(if decide (y<0)=true then -((y.natAbs-x.natAbs:Nat):Int) else ((y.natAbs-x.natAbs:Nat):Int))=x+y:=by
     split<;>simp only [decide_eq_true_eq] at *<;>omega
   refine Sq<|J.drawA [8]<|JD.calc 0 (by kernel_rfl) rfl trivial ss_sub (q_fa rfl)<|JD.load 1 (by kernel_rfl) rfl trivial (q_ld rfl ii rfl)<|JD.calc 2 (by kernel_rfl) rfl trivial ss_sub (q_fa rfl)<|JD.load 3 (by kernel_rfl) rfl trivial (q_ld rfl ii rfl)<|JD.calc 5 (by kernel_rfl) rfl trivial ss_sub (q_fa rfl)<|JD.load 6 (by kernel_rfl) rfl trivial (q_ld rfl ii rfl)<|Do 4<|JX.eff rfl rfl trivial<|oc (minusr_fn hb.mono ha.mono (Nat.le_trans fb (by decide)) (Nat.le_trans fa (by decide)) (hlen2 (by omega)) (by rw [val_limbs,val_limbs]; omega)) fun r1 g1 t1 hr=>?_
  rotate_left
  focus
   have sum_z:(if decide (x<0)=true then -((x.natAbs-y.natAbs:Nat):Int) else ((x.natAbs-y.natAbs:Nat):Int))=x+y:=by
     split<;>simp only [decide_eq_true_eq] at *<;>omega
   refine Js<|Sq<|J.drawA [8]<|JD.calc 0 (by kernel_rfl) rfl trivial ss_sub (q_fa rfl)<|JD.load 1 (by kernel_rfl) rfl trivial (q_ld rfl ii rfl)<|JD.calc 2 (by kernel_rfl) rfl trivial ss_sub (q_fa rfl)<|JD.load 3 (by kernel_rfl) rfl trivial (q_ld rfl ii rfl)<|JD.calc 5 (by kernel_rfl) rfl trivial ss_sub (q_fa rfl)<|JD.load 6 (by kernel_rfl) rfl trivial (q_ld rfl ii rfl)<|Do 4<|JX.eff rfl rfl trivial<|oc (minusr_fn ha.mono hb.mono (Nat.le_trans fa (by decide)) (Nat.le_trans fb (by decide)) (hlen2 (by omega)) (by rw [val_limbs,val_limbs]; omega)) fun r1 g1 t1 hr=>?_
  rotate_left
 rotate_left 2
 all_goals
  obtain ⟨l,hl,hv,hlen⟩:=hr
  refine NS<|Do 7<|JX.eff rfl rfl trivial<|oc (made_fn hl (by have:=Nat.le_trans fa (by decide:1000000≤1000001); have:=fa; have:=fb; unfold Fit at *; omega)) fun r2 g2 t2 hr=>?_
  rw [hv,val_limbs,val_limbs] at hr
  rw [sum_z] at hr
  obtain ⟨pr,cr,rfl,_,hm1⟩:=hr.out
  exact NS<|Do 8<|Xm rfl rfl<|o_stw (vs:=[_,_]) rfl rfl rfl ii rfl rfl<|NF<|Dd<|Jr<|ret_ok (fn:=Tryz.f120) rfl (.agg rfl ii ii .nil) (IntAt.in hm1)
end Go.Z
end
section
namespace Go.Z
open Go Go.RowKit Go.Proofs
theorem mulr_fn {h:Heap} {va vb:Value} {x y:Int} (ha:IntAt h va x) (hb:IntAt h vb y) (fa:Fit x) (fb:Fit y) :
    Fn Tryz.prog 119 #[va,vb] h fun r h'=>IntAt h' r (x*y):=by
 obtain ⟨pa,ca,rfl,hca,ha⟩:=ha.out
 obtain ⟨pb,cb,rfl,hcb,hb⟩:=hb.out
 have la:=fa
 have lb:=fb
 unfold Fit at la lb
 refine Fn.intro (args:=[_,_]) Tryz.func119 rfl rfl (lB rfl) fun w=>SR<|o_bx (v:=.agg _) rfl rfl fun b2=>o_bx (v:=.agg _) rfl rfl fun b3=>o_al fun b4=>N0<|SR<|oq (q_fa rfl)<|oq (q_ld rfl ia rfl)<|oq (q_len rfl)<|oq (q_fa rfl)<|oq (q_ld rfl ia rfl)<|oq (q_len rfl)<|oq (q_add rfl rfl (wi64 (by omega)))<|oq (q_add rfl rfl (wi64 (by omega)))<|o_mk (n:=(limbs x.natAbs).length+(limbs y.natAbs).length+1) (m:=(limbs x.natAbs).length+(limbs y.natAbs).length+1) rfl rfl (by omega) (by omega) (Nat.le_refl _) (by omega) (by omega) fun b17=>oq (aS rfl)<|N0 ?_
 refine J.cutK (α:=List Nat) (fun out h' L'=>out.length=(limbs x.natAbs).length+(limbs y.natAbs).length+1∧Bd out∧val out=val (limbs x.natAbs)*val (limbs y.natAbs)∧[(b17,row 180 (u32s out)),(b4,row 75 [.bool false,.slice none 0 0]),(b3,row 75 [.bool (decide (y<0)),.slice pb (limbs y.natAbs).length cb]),(b2,row 75 [.bool (decide (x<0)),.slice pa (limbs x.natAbs).length ca])]=L') [(2,.pointer _),(3,.pointer _),(4,.pointer _),(5,.slice _ _ _)] ⟨rfl,rfl,rfl,rfl,trivial⟩ (fun _=>[]) ?_ ?_
 · refine SR<|oq q_as<|N0<|Jb ?_
   refine J.loopK (α:=Nat×List Nat) (fun ⟨i,out⟩ h' L'=>i≤(limbs x.natAbs).length∧out.length=(limbs x.natAbs).length+(limbs y.natAbs).length+1∧Bd out∧val out=val ((limbs x.natAbs).take i)*val (limbs y.natAbs)∧[(b17,row 180 (u32s out)),(b4,row 75 [.bool false,.slice none 0 0]),(b3,row 75 [.bool (decide (y<0)),.slice pb (limbs y.natAbs).length cb]),(b2,row 75 [.bool (decide (x<0)),.slice pa (limbs x.natAbs).length ca])]=L') [(2,.pointer _),(3,.pointer _),(4,.pointer _),(5,.slice _ _ _)] ⟨rfl,rfl,rfl,rfl,trivial⟩ (fun ⟨i,out⟩=>[(6,.int .i64 (i:Int))]) (fun ⟨i,out⟩=>(limbs x.natAbs).length-i) ((0,List.replicate ((limbs x.natAbs).length+(limbs y.natAbs).length+1) 0)) ⟨by omega,by simp,Bd.rep0 _,by simp [val_rep0,val],by rw [flat1]⟩ ⟨rfl,trivial⟩ ?_
   rintro ⟨i,out⟩ σ h1 L1 s1 ⟨hi,hol,hob,hov,rfl⟩
   refine Sq<|SR<|oq (mI rfl)<|oq (q_fa rfl)<|oq (q_ld rfl ia rfl)<|oq (q_len rfl)<|oq (q_lss rfl rfl)<|N0 ?_
   refine J.condD rfl (fun c0=>?_) (fun c0=>?_)
   · have c0':i<(limbs x.natAbs).length:=by omega
     refine Js ?_
     refine J.cutK (α:=List Nat) (fun out h' L'=>out.length=(limbs x.natAbs).length+(limbs y.natAbs).length+1∧Bd out∧val out=val ((limbs x.natAbs).take (i+1))*val (limbs y.natAbs)∧[(b17,row 180 (u32s out)),(b4,row 75 [.bool false,.slice none 0 0]),(b3,row 75 [.bool (decide (y<0)),.slice pb (limbs y.natAbs).length cb]),(b2,row 75 [.bool (decide (x<0)),.slice pa (limbs x.natAbs).length ca])]=L') [(2,.pointer _),(3,.pointer _),(4,.pointer _),(5,.slice _ _ _),(6,.int _ _)] ⟨rfl,rfl,rfl,rfl,rfl,trivial⟩ (fun _=>[]) ?_ ?_
     · refine Jb<|SR<|oq q_as<|N0<|SR<|oq q_as<|N0<|Jb ?_
       refine J.loopK (α:=Nat×Nat×List Nat) (fun ⟨k,cy,out⟩ h' L'=>k≤(limbs y.natAbs).length+1∧cy<4294967296∧out.length=(limbs x.natAbs).length+(limbs y.natAbs).length+1∧Bd out∧val out+Bs^(i+k)*cy=val ((limbs x.natAbs).take i)*val (limbs y.natAbs)+Bs^i*(limbs x.natAbs).getD i 0*val ((limbs y.natAbs).take k)∧[(b17,row 180 (u32s out)),(b4,row 75 [.bool false,.slice none 0 0]),(b3,row 75 [.bool (decide (y<0)),.slice pb (limbs y.natAbs).length cb]),(b2,row 75 [.bool (decide (x<0)),.slice pa (limbs x.natAbs).length ca])]=L') [(2,.pointer _),(3,.pointer _),(4,.pointer _),(5,.slice _ _ _),(6,.int _ _)] ⟨rfl,rfl,rfl,rfl,rfl,trivial⟩ (fun ⟨k,cy,out⟩=>[(7,.int .u64 (cy:Int)),(8,.int .i64 (k:Int))]) (fun ⟨k,cy,out⟩=>(limbs y.natAbs).length+2-k) ((0,0,out)) ⟨by omega,by omega,hol,hob,by simp [hov,val],rfl⟩ ⟨rfl,rfl,trivial⟩ ?_
       rintro ⟨k,cy,out⟩ σ2 h2 L2 s2 ⟨hk,hcl,hol,hob,hv,rfl⟩
       refine J.cutK (α:=Unit) (fun _ h' L'=>(k<(limbs y.natAbs).length∨0<cy)∧[(b17,row 180 (u32s out)),(b4,row 75 [.bool false,.slice none 0 0]),(b3,row 75 [.bool (decide (y<0)),.slice pb (limbs y.natAbs).length cb]),(b2,row 75 [.bool (decide (x<0)),.slice pa (limbs x.natAbs).length ca])]=L') [(2,.pointer _),(3,.pointer _),(4,.pointer _),(5,.slice _ _ _),(6,.int _ _),(7,.int _ _),(8,.int _ _)] ⟨rfl,rfl,rfl,rfl,rfl,rfl,rfl,trivial⟩ (fun _=>[]) ?_ ?_
       · refine Sq ?_
         rcases Nat.lt_or_ge k (limbs y.natAbs).length with c1 | c1
         rotate_left
         rcases Nat.eq_zero_or_pos cy with c3 | c3
         · refine Rg<|oq (mI rfl)<|oq (q_fa rfl)<|oq (q_ld rfl ia rfl)<|oq (q_len rfl)<|oq (q_lss rfl rfl)<|oq (mB rfl)<|gT rfl rfl (dF (by omega))<|oq (mI rfl)<|gT rfl rfl (dF (by omega))<|oq (q_gtr rfl rfl)<|oq (pkF rfl (dF (by omega)) rfl)<|N0<|jF rfl (dF (by omega))<|Jx ?_
           exact ⟨out,rfl,⟨rfl,rfl,rfl,rfl,rfl,trivial⟩,trivial,⟨hol,hob,(by
             have h1:cy=0:=by omega
             rw [h1,List.take_of_length_le (l:=(limbs y.natAbs)) (by omega)] at hv
             rw [val_take_succ,Nat.add_mul]; omega),rfl⟩,ii⟩
         focus
          refine Rg<|oq (mI rfl)<|oq (q_fa rfl)<|oq (q_ld rfl ia rfl)<|oq (q_len rfl)<|oq (q_lss rfl rfl)<|oq (mB rfl)<|gT rfl rfl (dF (by omega))<|oq (mI rfl)<|gT rfl rfl (dF (by omega))<|oq (q_gtr rfl rfl)<|oq (pkF rfl (dF (by omega)) rfl)<|N0<|jT rfl (dT (by omega)) ?_
         rotate_left
         focus
          refine Rg<|oq (mI rfl)<|oq (q_fa rfl)<|oq (q_ld rfl ia rfl)<|oq (q_len rfl)<|oq (q_lss rfl rfl)<|oq (mB rfl)<|gF rfl rfl (dT (by omega))<|gF rfl rfl (dT (by omega))<|oq (q_pickT rfl (dT (by omega)))<|N0<|jT rfl rfl ?_
         rotate_left
         all_goals
          refine Js ?_
          exact ⟨(),rfl,⟨rfl,rfl,rfl,rfl,rfl,rfl,rfl,trivial⟩,trivial,⟨by omega,rfl⟩,ii⟩
       · rintro _ σ3 h3 L3 s3 ⟨hgo,rfl⟩
         refine Sq<|Jb<|Sq ?_
         have hkb:k<(limbs y.natAbs).length+1:=by
           rcases hgo with h | h
           · omega
           · exact mul_bound (bd_abs x) (bd_abs y) c0' hv h
         obtain ⟨o,ho,hol2⟩:=has_limb (j:=i+k) hob (by omega)
         refine Rg<|oq (mI rfl)<|oq (mS rfl)<|oq (mI rfl)<|oq (mI rfl)<|oq (q_add (c:=((i+k:Nat):Int)) rfl rfl (by rw [wi64 (by omega)]; omega))<|oq (q_ia rfl rfl (by omega))<|oq (q_ld (v:=.int .u32 (o:Int)) rfl ii (get_own ho))<|oq (q_cv (c:=(o:Int)) rfl (wu64 (by omega)))<|oq (q_add (c:=((cy+o:Nat):Int)) rfl rfl (by rw [wu64 (by omega)]; omega))<|oq (aI rfl)<|N0 ?_
         refine J.cutK (α:=Nat) (fun s h' L'=>s=cy+o+(limbs x.natAbs).getD i 0*(limbs y.natAbs).getD k 0∧s<18446744073709551616∧s / Bs<Bs∧[(b17,row 180 (u32s out)),(b4,row 75 [.bool false,.slice none 0 0]),(b3,row 75 [.bool (decide (y<0)),.slice pb (limbs y.natAbs).length cb]),(b2,row 75 [.bool (decide (x<0)),.slice pa (limbs x.natAbs).length ca])]=L') [(2,.pointer _),(3,.pointer _),(4,.pointer _),(5,.slice _ _ _),(6,.int _ _),(8,.int _ _)] ⟨rfl,rfl,rfl,rfl,rfl,rfl,trivial⟩ (fun s=>[(7,.int .u64 (s:Int))]) ?_ ?_
         · refine SR<|oq (mI rfl)<|oq (q_fa rfl)<|oq (q_ld rfl ia rfl)<|oq (q_len rfl)<|oq (q_lss rfl rfl)<|N0 ?_
           refine J.condD rfl (fun c2=>?_) (fun c2=>?_)
           focus
            refine J.drawA []<|JD.calc 0 (by kernel_rfl) rfl trivial ss_sub (mI rfl)<|JD.calc 1 (by kernel_rfl) rfl trivial ss_sub (q_fa rfl)<|JD.load 2 (by kernel_rfl) rfl trivial (q_ld rfl ii rfl)<|JD.calc 3 (by kernel_rfl) rfl trivial ss_sub (mI rfl) ?_
            obtain ⟨ku,ou,u,rfl,hu,lu,hcu⟩:=MagAt.limb (j:=i) ha (by omega)
            have gu:=getD_some hu
            refine JD.calc 4 (by kernel_rfl) rfl trivial ss_sub (q_ia rfl rfl (by omega))<|JD.load 5 (by kernel_rfl) rfl trivial (q_ldf rfl hcu)<|JD.calc 6 (by kernel_rfl) rfl trivial ss_sub (q_cv (c:=(u:Int)) rfl (wu64 (by omega)))<|JD.calc 7 (by kernel_rfl) rfl trivial ss_sub (q_fa rfl)<|JD.load 8 (by kernel_rfl) rfl trivial (q_ld rfl ii rfl)<|JD.calc 9 (by kernel_rfl) rfl trivial ss_sub (mI rfl) ?_
            obtain ⟨kw,ow,w,rfl,hw,lw,hcw⟩:=MagAt.limb (j:=k) hb (by omega)
            have gw:=getD_some hw
            refine JD.calc 10 (by kernel_rfl) rfl trivial ss_sub (q_ia rfl rfl (by omega))<|JD.load 11 (by kernel_rfl) rfl trivial (q_ldf rfl hcw) ?_
            have hcar:=carry_lt hcl hol2 lu lw
            refine JD.calc 12 (by kernel_rfl) rfl trivial ss_sub (q_cv (c:=(w:Int)) rfl (wu64 (by omega)))<|JD.calc 13 (by kernel_rfl) rfl trivial ss_sub (q_mul (c:=((u*w:Nat):Int)) rfl rfl (by rw [← Int.natCast_mul,wu64 (by omega)]))<|JD.calc 14 (by kernel_rfl) rfl trivial ss_sub (q_add (c:=((cy+o+u*w:Nat):Int)) rfl rfl (by rw [wu64 (by omega)]; omega))<|JD.calc 15 (by kernel_rfl) rfl trivial ss_sub (aI rfl)<|Dd ?_
           rotate_left
           focus
            have gy:=getD_none (l:=(limbs y.natAbs)) (i:=k) (by omega)
            refine Js ?_
           rotate_left
           all_goals
            first
              | exact ⟨cy+o+u*w,rfl,⟨rfl,rfl,rfl,rfl,rfl,rfl,trivial⟩,⟨rfl,trivial⟩,⟨by rw [gu,gw],hcar.1,hcar.2,rfl⟩,ii⟩
              | exact ⟨cy+o,rfl,⟨rfl,rfl,rfl,rfl,rfl,rfl,trivial⟩,⟨rfl,trivial⟩,⟨by rw [gy]; rfl,by omega,by have hB:Bs=4294967296:=rfl; rw [hB]; omega,rfl⟩,ii⟩
         · rintro s σ5 h5 L5 s5 ⟨hs,hs1,hs2,rfl⟩
           have hB:Bs=4294967296:=rfl
           refine SR<|oq (mS rfl)<|oq (mI rfl)<|oq (mI rfl)<|oq (q_add (c:=((i+k:Nat):Int)) rfl rfl (by rw [wi64 (by omega)]; omega))<|oq (mI rfl)<|oq (q_cv (c:=((s % 4294967296:Nat):Int)) rfl (by rw [IntKind.wrap_u32]; omega))<|oq (q_ia rfl rfl (by omega))<|o_st1 (v:=.int _ _) rfl rfl rfl ii (len_own _ _ (by omega))<|N0<|Rg<|oq (mI rfl)<|oq (q_quo (c:=((s / 4294967296:Nat):Int)) rfl rfl (by decide) (by rw [td32,wu64 (by omega)]))<|oq (aI rfl)<|N0<|Rg<|oq (mI rfl)<|oq (q_add (c:=((k+1:Nat):Int)) rfl rfl (by rw [wi64 (by omega)]; omega))<|oq (aI rfl)<|N0 ?_
           exact ⟨(k+1,s / 4294967296,out.set (i+k) (s % 4294967296)),rfl,⟨rfl,rfl,rfl,rfl,rfl,trivial⟩,⟨rfl,rfl,trivial⟩,⟨by omega,by omega,by simp [hol],hob.set (Nat.mod_lt _ (by decide)),(by
             have:=mul_step (x:=(limbs x.natAbs).getD i 0) (y:=(limbs y.natAbs).getD k 0) ho hv
             rw [← hs] at this
             rw [val_take_succ,Nat.mul_add]; exact this.trans (Nat.add_assoc _ _ _)),(by rw [← set_own]<;>rfl)⟩,by show (limbs y.natAbs).length+2-(k+1)<(limbs y.natAbs).length+2-k; omega,ii⟩
     · rintro out σ8 h8 L8 s8 ⟨hol,hob,hov,rfl⟩
       refine Rg<|oq (mI rfl)<|oq (q_add (c:=((i+1:Nat):Int)) rfl rfl (by rw [wi64 (by omega)]; omega))<|oq (aI rfl)<|N0 ?_
       exact ⟨(i+1,out),rfl,⟨rfl,rfl,rfl,rfl,trivial⟩,⟨rfl,trivial⟩,⟨by omega,hol,hob,hov,rfl⟩,by show (limbs x.natAbs).length-(i+1)<(limbs x.natAbs).length-i; omega,ii⟩
   · refine Jx ?_
     exact ⟨out,rfl,⟨rfl,rfl,rfl,rfl,trivial⟩,trivial,⟨hol,hob,(by rw [hov,List.take_of_length_le (by omega)]),rfl⟩,ii⟩
 · rintro out σ9 h9 L9 s9 ⟨hol,hob,hov,rfl⟩
   refine SR<|oq (mS rfl)<|oq (q_fa rfl)<|oq (q_ld rfl ia rfl)<|oq (q_fa rfl)<|oq (q_ld rfl ia rfl)<|oq (q_bne rfl rfl)<|JL.fz b17 fun h10 s10 hb10=>oc (made_fn (MagAt.frozeN hb10 hob hol (Nat.le_refl _)) (by omega)) fun r h11 s11 hr=>?_
   rw [hov,val_limbs,val_limbs,mul_sign] at hr
   obtain ⟨pr,cr,rfl,_,hm1⟩:=hr.out
   exact o_stw (vs:=[_,_]) rfl rfl rfl ii rfl rfl<|N0<|Jr<|ret_ok (fn:=Tryz.f119) rfl (.agg rfl ii ii .nil) (IntAt.in hm1)
end Go.Z
end
section
namespace Go.Z
open Go Go.RowKit Go.Proofs
def sgn (neg:Bool) (l:List Nat):Int:=if l.length=0 then 0 else if neg then -1 else 1
def canon (neg:Bool) (l:List Nat):Bool:=if l.length=0 then !neg else decide (l.getD (l.length-1) 0≠0)
theorem sgn_int (z:Int):sgn (decide (z<0)) (limbs z.natAbs)=z.sign:=by
 unfold sgn
 have h0:(limbs z.natAbs).length=0↔z=0:=by rw [List.length_eq_zero_iff,limbs_nil_iff]; omega
 simp only [h0]
 rcases (show z<0∨z=0∨0<z by omega) with h | h | h
 · rw [if_neg (by omega),if_pos (by simpa using h),Int.sign_eq_neg_one_of_neg h]
 · subst h; rfl
 · rw [if_neg (by omega),if_neg (by simp; omega),Int.sign_eq_one_of_pos h]
theorem sign_fn {h:Heap} {v:Value} {neg:Bool} {l:List Nat} (hv:RawAt h v neg l) (hN:l.length≤9223372036854775807) :
    Fn Tryz.prog 97 #[v] h fun r _=>r=.int .i64 (sgn neg l):=by
 obtain ⟨p,c,rfl,hc,hm⟩:=hv.out
 unfold sgn
 refine Fn.intro (args:=[_]) Tryz.func97 rfl rfl (lB rfl) fun w=>SR<|o_bx (v:=.agg _) rfl rfl fun b1=>oq q_as<|N0<|Sq<|Jb<|SR<|oq (q_fa rfl)<|oq (q_ld rfl ia rfl)<|oq (q_len rfl)<|oq (q_eql rfl rfl)<|oq (aB rfl)<|N0 ?_
 refine J.condD rfl (fun c0=>?_) (fun c0=>?_)
 · exact SR<|oq q_as<|N0<|Jr<|ret_ok (fn:=Tryz.f97) rfl (.tmp rfl .nil) (by rw [if_pos (by omega)]<;>rfl)
 · refine SR<|oq (q_fa rfl)<|oq (q_ld rfl ia rfl)<|oq (aB rfl)<|N0 ?_
   refine J.cond rfl (fun c1=>?_) (fun c1=>?_)
   · exact SR<|oq q_as<|N0<|Jr<|ret_ok (fn:=Tryz.f97) rfl (.tmp rfl .nil) (by rw [if_neg (by omega),if_pos c1]<;>rfl)
   · exact Js<|SR<|oq q_as<|N0<|Jr<|ret_ok (fn:=Tryz.f97) rfl (.tmp rfl .nil) (by rw [if_neg (by omega),if_neg (by rw [c1]; decide)]<;>rfl)
theorem signr_fn {h:Heap} {v:Value} {neg:Bool} {l:List Nat} (hv:RawAt h v neg l) (hN:l.length≤9223372036854775807) :
    Fn Tryz.prog 92 #[v] h fun r _=>r=.int .i64 (sgn neg l):=by
 obtain ⟨p,c,rfl,hc,hm⟩:=hv.out
 unfold sgn
 refine Fn.intro (args:=[_]) Tryz.func92 rfl rfl (lB rfl) fun w=>SR<|o_bx (v:=.agg _) rfl rfl fun b1=>oq q_as<|N0<|Sq<|SR<|oq (q_fa rfl)<|oq (q_ld rfl ia rfl)<|oq (q_len rfl)<|oq (q_eql rfl rfl)<|N0 ?_
 refine J.condD rfl (fun c0=>?_) (fun c0=>?_)
 · exact SR<|oq q_as<|N0<|Jr<|ret_ok (fn:=Tryz.f92) rfl (.tmp rfl .nil) (by rw [if_pos (by omega)]<;>rfl)
 · refine Js<|Sq<|SR<|oq (q_fa rfl)<|oq (q_ld rfl ia rfl)<|N0 ?_
   refine J.cond rfl (fun c1=>?_) (fun c1=>?_)
   · exact SR<|oq q_as<|N0<|Jr<|ret_ok (fn:=Tryz.f92) rfl (.tmp rfl .nil) (by rw [if_neg (by omega),if_pos c1]<;>rfl)
   · exact Js<|SR<|oq q_as<|N0<|Jr<|ret_ok (fn:=Tryz.f92) rfl (.tmp rfl .nil) (by rw [if_neg (by omega),if_neg (by rw [c1]; decide)]<;>rfl)
theorem validr_fn {h:Heap} {v:Value} {neg:Bool} {l:List Nat} (hv:RawAt h v neg l) (hN:l.length≤9223372036854775807) :
    Fn Tryz.prog 148 #[v] h fun r _=>r=.bool (canon neg l):=by
 obtain ⟨p,c,rfl,hc,hm⟩:=hv.out
 unfold canon
 refine Fn.intro (args:=[_]) Tryz.func148 rfl rfl (lB rfl) fun w=>SR<|o_bx (v:=.agg _) rfl rfl fun b1=>oq q_as<|N0<|Sq<|SR<|oq (q_fa rfl)<|oq (q_ld rfl ia rfl)<|oq (q_len rfl)<|oq (q_eql rfl rfl)<|N0 ?_
 refine J.condD rfl (fun c0=>?_) (fun c0=>?_)
 · exact SR<|oq (q_fa rfl)<|oq (q_ld rfl ia rfl)<|oq (q_not rfl)<|oq (aB rfl)<|N0<|Jr<|ret_ok (fn:=Tryz.f148) rfl (.tmp rfl .nil) (by rw [if_pos (by omega)]<;>rfl)
 · refine Js<|SR<|oq (q_fa rfl)<|oq (q_ld rfl ia rfl)<|oq (q_fa rfl)<|oq (q_ld rfl ia rfl)<|oq (q_len rfl)<|oq (q_sub (c:=((l.length-1:Nat):Int)) rfl rfl (by rw [wi64 (by omega)]; omega)) ?_
   obtain ⟨kx,ox,x,rfl,hx,lx,hcx⟩:=MagAt.limb (j:=l.length-1) hm (by omega)
   refine oq (q_ia rfl rfl (by omega))<|oq (q_ldf rfl hcx)<|oq (q_neq rfl rfl)<|oq (aB rfl)<|N0<|Jr<|ret_ok (fn:=Tryz.f148) rfl (.tmp rfl .nil) ?_
   rw [if_neg (by omega),getD_some hx]
   exact congrArg Value.bool (decide_eq_decide.2 (by omega))
theorem nani_fn {h:Heap} {a:Int} :
    Fn Tryz.prog 158 #[.int .i64 a] h fun r _=>r=.bool false:=by
 exact Fn.intro (args:=[_]) Tryz.func158 rfl rfl (lB rfl) fun w=>SR<|oq q_as<|N0<|SR<|oq (mI rfl)<|oq (mI rfl)<|oq (q_neq rfl rfl)<|oq (aB rfl)<|N0<|Jr<|ret_ok (fn:=Tryz.f158) rfl (.tmp rfl .nil) (congrArg Value.bool (dF (by omega)))
def cmp3 (a b:Int):Int:=if a<b then -1 else if b<a then 1 else 0
theorem cmpi_fn {h:Heap} {a b:Int} :
    Fn Tryz.prog 100 #[.int .i64 a,.int .i64 b] h fun r _=>r=.int .i64 (cmp3 a b):=by
 refine Fn.intro (args:=[_,_]) Tryz.func100 rfl rfl (lB rfl) fun w=>SR<|oq q_as<|N0<|SR<|oq (mI rfl)<|oc nani_fn fun v1 hv1 sv1 ev1=>?_
 subst ev1
 refine oq (aB rfl)<|N0<|SR<|oq (mI rfl)<|oc nani_fn fun v2 hv2 sv2 ev2=>?_
 subst ev2
 refine oq (aB rfl)<|N0<|Sq<|SR<|oq (mB rfl)<|N0<|jF rfl rfl<|Js<|Sq<|SR<|oq (mB rfl)<|N0<|jF rfl rfl<|Js<|Sq<|SR<|oq (mI rfl)<|oq (mI rfl)<|oq (q_lss rfl rfl)<|N0 ?_
 refine J.condD rfl (fun c3=>?_) (fun c3=>?_)
 · refine SR<|oq q_as<|N0<|Jr<|ret_ok (fn:=Tryz.f100) rfl (.tmp rfl .nil) ?_
   show Value.int _ _=Value.int _ (cmp3 a b)
   unfold cmp3
   rw [if_pos c3]
 · refine Js<|Sq<|SR<|oq (mI rfl)<|oq (mI rfl)<|oq (q_gtr rfl rfl)<|N0 ?_
   refine J.condD rfl (fun c4=>?_) (fun c4=>?_)
   · refine SR<|oq q_as<|N0<|Jr<|ret_ok (fn:=Tryz.f100) rfl (.tmp rfl .nil) ?_
     show Value.int _ _=Value.int _ (cmp3 a b)
     unfold cmp3
     rw [if_neg c3,if_pos c4]
   · refine Js<|SR<|oq q_as<|N0<|Jr<|ret_ok (fn:=Tryz.f100) rfl (.tmp rfl .nil) ?_
     show Value.int _ _=Value.int _ (cmp3 a b)
     unfold cmp3
     rw [if_neg c3,if_neg c4]
theorem nanu_fn {h:Heap} {a:Int} :
    Fn Tryz.prog 225 #[.int .u32 a] h fun r _=>r=.bool false:=by
 exact Fn.intro (args:=[_]) Tryz.func225 rfl rfl (lB rfl) fun w=>SR<|oq q_as<|N0<|SR<|oq (mI rfl)<|oq (mI rfl)<|oq (q_neq rfl rfl)<|oq (aB rfl)<|N0<|Jr<|ret_ok (fn:=Tryz.f225) rfl (.tmp rfl .nil) (congrArg Value.bool (dF (by omega)))
theorem cmpu_fn {h:Heap} {a b:Int} :
    Fn Tryz.prog 196 #[.int .u32 a,.int .u32 b] h fun r _=>r=.int .i64 (cmp3 a b):=by
 refine Fn.intro (args:=[_,_]) Tryz.func196 rfl rfl (lB rfl) fun w=>SR<|oq q_as<|N0<|SR<|oq (mI rfl)<|oc nanu_fn fun v1 hv1 sv1 ev1=>?_
 subst ev1
 refine oq (aB rfl)<|N0<|SR<|oq (mI rfl)<|oc nanu_fn fun v2 hv2 sv2 ev2=>?_
 subst ev2
 refine oq (aB rfl)<|N0<|Sq<|SR<|oq (mB rfl)<|N0<|jF rfl rfl<|Js<|Sq<|SR<|oq (mB rfl)<|N0<|jF rfl rfl<|Js<|Sq<|SR<|oq (mI rfl)<|oq (mI rfl)<|oq (q_lss rfl rfl)<|N0 ?_
 refine J.condD rfl (fun c3=>?_) (fun c3=>?_)
 · refine SR<|oq q_as<|N0<|Jr<|ret_ok (fn:=Tryz.f196) rfl (.tmp rfl .nil) ?_
   show Value.int _ _=Value.int _ (cmp3 a b)
   unfold cmp3
   rw [if_pos c3]
 · refine Js<|Sq<|SR<|oq (mI rfl)<|oq (mI rfl)<|oq (q_gtr rfl rfl)<|N0 ?_
   refine J.condD rfl (fun c4=>?_) (fun c4=>?_)
   · refine SR<|oq q_as<|N0<|Jr<|ret_ok (fn:=Tryz.f196) rfl (.tmp rfl .nil) ?_
     show Value.int _ _=Value.int _ (cmp3 a b)
     unfold cmp3
     rw [if_neg c3,if_pos c4]
   · refine Js<|SR<|oq q_as<|N0<|Jr<|ret_ok (fn:=Tryz.f196) rfl (.tmp rfl .nil) ?_
     show Value.int _ _=Value.int _ (cmp3 a b)
     unfold cmp3
     rw [if_neg c3,if_neg c4]
theorem add32_fn {h:Heap} {x y c:Nat} (hx:x<4294967296) (hy:y<4294967296) (hc:c<4294967296) :
    Fn Tryz.prog 247 #[.int .u32 (x:Int),.int .u32 (y:Int),.int .u32 (c:Int)] h fun r _=>r=.tuple ⟨[.int .u32 (((x+y+c) % 4294967296:Nat):Int),.int .u32 (((x+y+c) / 4294967296:Nat):Int)]⟩:=by
 exact Fn.intro (args:=[_,_,_]) Tryz.func247 rfl rfl (lB rfl) fun w=>SR<|oq q_as<|oq q_as<|N0<|SR<|oq (mI rfl)<|oq (q_cv (c:=(x:Int)) rfl (wu64 (by omega)))<|oq (mI rfl)<|oq (q_cv (c:=(y:Int)) rfl (wu64 (by omega)))<|oq (q_add (c:=((x+y:Nat):Int)) rfl rfl (by rw [wu64 (by omega)]; omega))<|oq (mI rfl)<|oq (q_cv (c:=(c:Int)) rfl (wu64 (by omega)))<|oq (q_add (c:=((x+y+c:Nat):Int)) rfl rfl (by rw [wu64 (by omega)]; omega))<|oq (aI rfl)<|N0<|SR<|oq (mI rfl)<|oq (q_cv (c:=(((x+y+c) % 4294967296:Nat):Int)) rfl (by rw [IntKind.wrap_u32]; omega))<|oq (aI rfl)<|N0<|SR<|oq (mI rfl)<|oq (q_shr (c:=(((x+y+c) / 4294967296:Nat):Int)) rfl rfl (by decide) (by simp only [IntKind.bits]; exact fd32 _))<|oq (q_cv (c:=(((x+y+c) / 4294967296:Nat):Int)) rfl (wu32 (by omega)))<|oq (aI rfl)<|N0<|Jr<|ret_ok (fn:=Tryz.f247) rfl (.tmp rfl (.tmp rfl .nil)) rfl
theorem fd31 (n:Nat):Int.fdiv (n:Int) 2147483648=((n / 2147483648:Nat):Int):=by
 rw [Int.fdiv_eq_ediv_of_nonneg _ (by decide)]; rfl
theorem sub32_fn {h:Heap} {x y c:Nat} (hx:x<4294967296) (hy:y<4294967296) (hc:c≤1) :
    Fn Tryz.prog 248 #[.int .u32 (x:Int),.int .u32 (y:Int),.int .u32 (c:Int)] h fun r _=>r=.tuple ⟨[.int .u32 (((x+4294967296*2-y-c) % 4294967296:Nat):Int),.int .u32 ((if x<y+c then 1 else 0:Nat):Int)]⟩:=by
 obtain ⟨d,hd⟩:∃ d,(x+4294967296*2-y-c) % 4294967296=d:=⟨_,rfl⟩
 have hdl:d<4294967296:=by omega
 have hbr:=borrow hx hy hdl hc hd
 rw [hd]
 have p1:x ^^^ y<4294967296:=Nat.xor_lt_two_pow (n:=32) hx hy
 have p2:4294967295 ^^^ x<4294967296:=Nat.xor_lt_two_pow (n:=32) (by decide) hx
 have p3:4294967295 ^^^ (x ^^^ y)<4294967296:=Nat.xor_lt_two_pow (n:=32) (by decide) p1
 have p4:(4294967295 ^^^ x) &&& y<4294967296:=Nat.and_lt_two_pow (n:=32) _ hy
 have p5:(4294967295 ^^^ (x ^^^ y)) &&& d<4294967296:=Nat.and_lt_two_pow (n:=32) _ hdl
 exact Fn.intro (args:=[_,_,_]) Tryz.func248 rfl rfl (lB rfl) fun w=>SR<|oq q_as<|oq q_as<|N0<|SR<|oq (mI rfl)<|oq (mI rfl)<|oq (q_sub (c:=(((x+4294967296-y) % 4294967296:Nat):Int)) rfl rfl (by rw [IntKind.wrap_u32]; omega))<|oq (mI rfl)<|oq (q_sub (c:=(d:Int)) rfl rfl (by rw [IntKind.wrap_u32]; omega))<|oq (aI rfl)<|N0<|SR<|oq (mI rfl)<|oq (q_com32 rfl hx)<|oq (mI rfl)<|oq (q_and32 rfl rfl p2 hy)<|oq (mI rfl)<|oq (mI rfl)<|oq (q_xor32 rfl rfl hx hy)<|oq (q_com32 rfl p1)<|oq (mI rfl)<|oq (q_and32 rfl rfl p3 hdl)<|oq (q_or32 rfl rfl p4 p5)<|oq (q_shr (c:=((if x<y+c then 1 else 0:Nat):Int)) rfl rfl (by decide) (by rw [← hbr]; simp only [IntKind.bits]; exact fd31 _))<|oq (aI rfl)<|N0<|Jr<|ret_ok (fn:=Tryz.f248) rfl (.tmp rfl (.tmp rfl .nil)) rfl
end Go.Z
end
section
namespace Go.Z
open Go Go.RowKit Go.Proofs
theorem cmp3_zero {a b:Int}:cmp3 a b=0↔a=b:=by unfold cmp3; split<;>(try split)<;>omega
theorem cmp3_neg {a b:Int}:cmp3 a b<0↔a<b:=by unfold cmp3; split<;>(try split)<;>omega
theorem cmp3_lt {a b:Int} (h:a<b):cmp3 a b=-1:=by unfold cmp3; rw [if_pos h]
theorem cmp3_gt {a b:Int} (h:b<a):cmp3 a b=1:=by unfold cmp3; rw [if_neg (by omega),if_pos h]
theorem setN_u32s (m:List Nat):∀ (l:List Nat) (o:Nat),Bd l→Bd m→∃ out,setN (u32s l) o (u32s m)=u32s out∧out.length=l.length∧Bd out:=by
 induction m with
 | nil=>exact fun l o hl _=>⟨l,rfl,rfl,hl⟩
 | cons x m ih=>
  intro l o hl hm
  obtain ⟨out,h1,h2,h3⟩:=ih (l.set o x) (o+1) (hl.set hm.head) hm.tail
  refine ⟨out,?_,by rw [h2,List.length_set],h3⟩
  rw [← h1,← u32s_set]; rfl
theorem val_last {out:List Nat} {n d:Nat} (hl:out.length=n+1):val (out.set n d)=val (out.take n)+Bs^n*d:=by
 have h1:=val_take_succ (out.set n d) n
 rw [List.take_of_length_le (by rw [List.length_set]; omega),List.take_set_of_le (Nat.le_refl n)] at h1
 rw [h1]; simp [List.getElem?_set_self (show n<out.length by omega)]
theorem compare_fn {h:Heap} {va vb:Value} {x y:Nat} (ha:MagAt h va (limbs x)) (hb:MagAt h vb (limbs y)) (la:(limbs x).length≤1000001) (lb:(limbs y).length≤1000001) :
    Fn Tryz.prog 154 #[va,vb] h fun r _=>r=.int .i64 (cmp3 (x:Int) (y:Int)):=by
 obtain ⟨pa,ca,rfl,hca⟩:=ha.out
 obtain ⟨pb,cb,rfl,hcb⟩:=hb.out
 refine Fn.intro (args:=[_,_]) Tryz.func154 rfl rfl (lB rfl) fun w=>SR<|oq q_as<|N0<|Sq<|SR<|oq (mS rfl)<|oq (q_len rfl)<|oq (mS rfl)<|oq (q_len rfl)<|oc cmpi_fn fun v1 hv1 sv1 ev1=>?_
 subst ev1
 refine oq (aI rfl)<|N0<|SR<|oq (mI rfl)<|oq (q_neq rfl rfl)<|N0 ?_
 refine J.condD rfl (fun c0=>?_) (fun c0=>?_)
 · refine SR<|oq (mI rfl)<|oq (aI rfl)<|N0<|Jr<|ret_ok (fn:=Tryz.f154) rfl (.tmp rfl .nil)<|congrArg (Value.int .i64) ?_
   rcases Nat.lt_trichotomy (limbs x).length (limbs y).length with h2 | h2 | h2
   · have:=limbs_len_lt h2; rw [cmp3_lt (by omega),cmp3_lt (by omega)]
   · exact absurd (cmp3_zero.2 (by omega)) c0
   · have:=limbs_len_lt h2; rw [cmp3_gt (by omega),cmp3_gt (by omega)]
 · have heq:(limbs x).length=(limbs y).length:=by
     have:=cmp3_zero.1 (Classical.not_not.1 c0); omega
   refine Js ?_
   refine J.cutK (α:=Unit) (fun _ h' L'=>x=y∧[]=L') [] trivial (fun _=>[]) ?_ ?_
   · refine SR<|oq (mS rfl)<|oq (q_len rfl)<|oq (q_sub (c:=((limbs x).length:Int)-1) rfl rfl (wi64 (by omega)))<|oq (aI rfl)<|N0<|Jb ?_
     refine J.loopK (α:=Int) (fun i h' L'=>-1≤i∧i<((limbs x).length:Int)∧(limbs x).drop (i+1).toNat=(limbs y).drop (i+1).toNat∧[]=L') [(0,.slice _ _ _),(1,.slice _ _ _)] ⟨rfl,rfl,trivial⟩ (fun i=>[(6,.int .i64 i)]) (fun i=>(i+1).toNat) (((limbs x).length:Int)-1) ⟨by omega,by omega,by rw [show (((limbs x).length:Int)-1+1).toNat=(limbs x).length by omega,List.drop_length,heq,List.drop_length],rfl⟩ ⟨rfl,trivial⟩ ?_
     rintro i σ h1 L1 s1 ⟨hi0,hi1,hd,rfl⟩
     refine Sq<|SR<|oq (mI rfl)<|oq (q_geq rfl rfl)<|N0 ?_
     refine J.condD rfl (fun c1=>?_) (fun c1=>?_)
     · obtain ⟨j,rfl⟩:=Int.eq_ofNat_of_zero_le c1
       rw [show ((j:Int)+1).toNat=j+1 by omega] at hd
       refine Js<|Sq<|Jb<|Sq<|J.drawA []<|JD.calc 0 (by kernel_rfl) rfl trivial ss_sub (mS rfl)<|JD.calc 1 (by kernel_rfl) rfl trivial ss_sub (mI rfl) ?_
       obtain ⟨ku,ou,u,rfl,hu,lu,hcu⟩:=MagAt.limb (j:=j) ha (by omega)
       refine JD.calc 2 (by kernel_rfl) rfl trivial ss_sub (q_ia rfl rfl (by omega))<|JD.load 3 (by kernel_rfl) rfl trivial (q_ldf rfl hcu)<|JD.calc 4 (by kernel_rfl) rfl trivial ss_sub (mS rfl)<|JD.calc 5 (by kernel_rfl) rfl trivial ss_sub (mI rfl) ?_
       obtain ⟨kw,ow,w,rfl,hw,lw,hcw⟩:=MagAt.limb (j:=j) hb (by omega)
       refine JD.calc 6 (by kernel_rfl) rfl trivial ss_sub (q_ia rfl rfl (by omega))<|JD.load 7 (by kernel_rfl) rfl trivial (q_ldf rfl hcw)<|Do 8<|JX.eff rfl rfl trivial<|oc cmpu_fn fun v2 hv2 sv2 ev2=>?_
       subst ev2
       refine NS<|JD.calc 9 (by kernel_rfl) rfl trivial ss_sub (aI rfl)<|Dd<|SR<|oq (mI rfl)<|oq (q_neq rfl rfl)<|N0 ?_
       refine J.condD rfl (fun c2=>?_) (fun c2=>?_)
       · refine SR<|oq (mI rfl)<|oq (aI rfl)<|N0<|Jr<|ret_ok (fn:=Tryz.f154) rfl (.tmp rfl .nil)<|congrArg (Value.int .i64) ?_
         have e1:=fun h=>val_lt_of (bd_limbs x) (bd_limbs y) hd hu hw h
         have e2:=fun h=>val_lt_of (bd_limbs y) (bd_limbs x) hd.symm hw hu h
         rw [val_limbs,val_limbs] at e1 e2
         rcases Nat.lt_trichotomy u w with h2 | h2 | h2
         · have:=e1 h2; rw [cmp3_lt (by omega),cmp3_lt (by omega)]
         · exact absurd (cmp3_zero.2 (by omega)) c2
         · have:=e2 h2; rw [cmp3_gt (by omega),cmp3_gt (by omega)]
       · have huw:=cmp3_zero.1 (Classical.not_not.1 c2)
         refine Js<|Rg<|oq (mI rfl)<|oq (q_sub (c:=(j:Int)-1) rfl rfl (wi64 (by omega)))<|oq (aI rfl)<|N0 ?_
         exact ⟨(j:Int)-1,rfl,⟨rfl,rfl,trivial⟩,⟨rfl,trivial⟩,⟨by omega,by omega,by
           rw [show ((j:Int)-1+1).toNat=j by omega,List.drop_eq_getElem_cons (l:=limbs x) (i:=j) (by omega),List.drop_eq_getElem_cons (l:=limbs y) (i:=j) (by omega),hd]
           obtain ⟨_,e1⟩:=List.getElem?_eq_some_iff.1 hu
           obtain ⟨_,e2⟩:=List.getElem?_eq_some_iff.1 hw
           rw [e1,e2,show u=w by omega],rfl⟩,by omega,ii⟩
     · refine Jx ?_
       exact ⟨(),rfl,trivial,trivial,⟨limbs_inj (by simpa [show (i+1).toNat=0 by omega] using hd),rfl⟩,ii⟩
   · rintro _ σ3 h3 L3 s3 ⟨rfl,rfl⟩
     exact SR<|oq q_as<|N0<|Jr<|ret_ok (fn:=Tryz.f154) rfl (.tmp rfl .nil) (congrArg (Value.int .i64) (cmp3_zero.2 rfl).symm)
theorem cmp_fn {h:Heap} {va vb:Value} {x y:Int} (ha:IntAt h va x) (hb:IntAt h vb y) (fa:Fit x) (fb:Fit y) :
    Fn Tryz.prog 90 #[va,vb] h fun r _=>r=.int .i64 (cmp3 x y):=by
 obtain ⟨pa,ca,rfl,hca,ha⟩:=ha.out
 obtain ⟨pb,cb,rfl,hcb,hb⟩:=hb.out
 refine Fn.intro (args:=[_,_]) Tryz.func90 rfl rfl (lB rfl) fun w=>SR<|o_bx (v:=.agg _) rfl rfl fun b2=>o_bx (v:=.agg _) rfl rfl fun b3=>oq q_as<|N0<|Sq<|Jb<|Sq ?_
 rcases (show x<0∨0≤x by omega) with hx | hx
 rcases (show y<0∨0≤y by omega) with hy | hy
 focus
  refine Rg<|oq (q_fa rfl)<|oq (q_ld rfl ia rfl)<|oq (mB rfl)<|gT rfl rfl (dT hx)<|oq (q_fa rfl)<|gT rfl rfl (dT hx)<|oq (q_ld rfl ia rfl)<|gT rfl rfl (dT hx)<|oq (q_not rfl)<|oq (pkT rfl (dT hx) rfl)<|oq (aB rfl)<|N0<|jF rfl (by rw [dT hy]<;>rfl)<|SR<|oq (q_fa rfl)<|oq (q_ld rfl ia rfl)<|oq (mB rfl)<|gT rfl rfl (dT hy)<|oq (q_fa rfl)<|gT rfl rfl (dT hy)<|oq (q_ld rfl ia rfl)<|gT rfl rfl (dT hy)<|oq (q_not rfl)<|oq (pkT rfl (dT hy) rfl)<|oq (aB rfl)<|N0<|jF rfl (by rw [dT hx]<;>rfl)<|SR<|oq (q_fa rfl)<|oq (q_ld rfl ia rfl)<|oq (aB rfl)<|N0<|jT rfl (dT hx)<|SR<|oq (q_fa rfl)<|oq (q_ld rfl ia rfl)<|oq (q_fa rfl)<|oq (q_ld rfl ia rfl)<|oc (compare_fn hb ha (Nat.le_trans fb (by decide)) (Nat.le_trans fa (by decide))) fun v1 hv1 sv1 ev1=>?_
  subst ev1
  refine oq (aI rfl) ?_
 rotate_left
 focus
  refine Rg<|oq (q_fa rfl)<|oq (q_ld rfl ia rfl)<|oq (mB rfl)<|gT rfl rfl (dT hx)<|oq (q_fa rfl)<|gT rfl rfl (dT hx)<|oq (q_ld rfl ia rfl)<|gT rfl rfl (dT hx)<|oq (q_not rfl)<|oq (pkT rfl (dT hx) rfl)<|oq (aB rfl)<|N0<|jT rfl (by rw [dF (show ¬ y<0 by omega)]<;>rfl)<|SR<|oq q_as ?_
 rotate_left
 focus
  refine Rg<|oq (q_fa rfl)<|oq (q_ld rfl ia rfl)<|oq (mB rfl)<|gF rfl rfl (dF (show ¬ x<0 by omega))<|gF rfl rfl (dF (show ¬ x<0 by omega))<|gF rfl rfl (dF (show ¬ x<0 by omega))<|oq (q_pickF rfl (dF (show ¬ x<0 by omega)))<|oq (aB rfl)<|N0<|jF rfl rfl<|Sq ?_
  rcases (show y<0∨0≤y by omega) with hy | hy
  focus
   refine Rg<|oq (q_fa rfl)<|oq (q_ld rfl ia rfl)<|oq (mB rfl)<|gT rfl rfl (dT hy)<|oq (q_fa rfl)<|gT rfl rfl (dT hy)<|oq (q_ld rfl ia rfl)<|gT rfl rfl (dT hy)<|oq (q_not rfl)<|oq (pkT rfl (dT hy) rfl)<|oq (aB rfl)<|N0<|jT rfl (by rw [dF (show ¬ x<0 by omega)]<;>rfl)<|SR<|oq q_as ?_
  rotate_left
  focus
   refine Rg<|oq (q_fa rfl)<|oq (q_ld rfl ia rfl)<|oq (mB rfl)<|gF rfl rfl (dF (show ¬ y<0 by omega))<|gF rfl rfl (dF (show ¬ y<0 by omega))<|gF rfl rfl (dF (show ¬ y<0 by omega))<|oq (q_pickF rfl (dF (show ¬ y<0 by omega)))<|oq (aB rfl)<|N0<|jF rfl rfl<|SR<|oq (q_fa rfl)<|oq (q_ld rfl ia rfl)<|oq (aB rfl)<|N0<|jF rfl (dF (show ¬ x<0 by omega))<|Js<|SR<|oq (q_fa rfl)<|oq (q_ld rfl ia rfl)<|oq (q_fa rfl)<|oq (q_ld rfl ia rfl)<|oc (compare_fn ha hb (Nat.le_trans fa (by decide)) (Nat.le_trans fb (by decide))) fun v1 hv1 sv1 ev1=>?_
   subst ev1
   refine oq (aI rfl) ?_
  rotate_left
 rotate_left 2
 all_goals
  refine N0<|Jr<|ret_ok (fn:=Tryz.f90) rfl (.tmp rfl .nil)<|congrArg (Value.int .i64) ?_
  simp only [cmp3] at *
  split<;>(try split)<;>(try split)<;>(try split)<;>omega
theorem plus_fn {h:Heap} {va vb:Value} {a b:List Nat} (ha:MagAt h va a) (hb:MagAt h vb b) (la:a.length≤1000001) (lb:b.length≤1000001) :
    Fn Tryz.prog 220 #[va,vb] h fun r h'=>∃ l,MagAt h' r l∧val l=val a+val b∧l.length≤max a.length b.length+1:=by
 obtain ⟨pa,ca,rfl,hca⟩:=ha.out
 obtain ⟨pb,cb,rfl,hcb⟩:=hb.out
 refine Fn.intro (args:=[_,_]) Tryz.func220 rfl rfl (lB rfl) fun w=>SR<|oq q_as<|N0 ?_
 refine J.cutK (α:=List Nat×List Nat×Value×Value) (fun ⟨A,B,vA,vB⟩ h' L'=>MagAt h' vA A∧MagAt h' vB B∧val A+val B=val a+val b∧B.length≤A.length∧A.length≤max a.length b.length∧[]=L') [] trivial (fun ⟨A,B,vA,vB⟩=>[(0,vA),(1,vB)]) ?_ ?_
 · refine SR<|oq (mS rfl)<|oq (q_len rfl)<|oq (mS rfl)<|oq (q_len rfl)<|oq (q_lss rfl rfl)<|N0 ?_
   refine J.condD rfl (fun c0=>?_) (fun c0=>?_)
   focus
    refine Rg<|oq (mS rfl)<|oq (mS rfl)<|oq (aS rfl)<|oq (aS rfl)<|N0 ?_
   rotate_left
   focus
    refine Js ?_
   rotate_left
   all_goals
    first
      | exact ⟨(b,a,_,_),rfl,trivial,⟨rfl,rfl,trivial⟩,⟨hb,ha,by omega,by omega,by omega,rfl⟩,ii⟩
      | exact ⟨(a,b,_,_),rfl,trivial,⟨rfl,rfl,trivial⟩,⟨ha,hb,by omega,by omega,by omega,rfl⟩,ii⟩
 · rintro ⟨A,B,vA,vB⟩ σ1 h1 L1 s1 ⟨hA,hB,hsum,hBA,hAm,rfl⟩
   obtain ⟨pA,cA,rfl,hcA⟩:=hA.out
   obtain ⟨pB,cB,rfl,hcB⟩:=hB.out
   refine SR<|oq (mS rfl)<|oq (q_len rfl)<|oq (q_add rfl rfl (wi64 (by omega)))<|o_mk (n:=A.length+1) (m:=A.length+1) rfl rfl (by omega) (by omega) (Nat.le_refl _) (by omega) (by omega) fun b19=>oq (aS rfl)<|N0<|SR<|oq (mS rfl)<|oq (mS rfl) ?_
   rw [flat1]
   obtain ⟨out0,ho1,ho2,ho3⟩:=setN_u32s A (List.replicate (A.length+1) 0) 0 (Bd.rep0 _) hA.2
   rw [List.length_replicate] at ho2
   refine o_cp (m:=A.length) (us:=u32s A) rfl rfl ii (src_fro hA.1 (u32s_plain _)) (by omega) (by rw [u32s_len,u32s_len,List.length_replicate]; omega) ?_
   rw [ho1]
   refine N0<|SR<|oq q_as<|N0 ?_
   refine J.cutK (α:=Nat×List Nat) (fun ⟨cy,out⟩ h' L'=>cy≤1∧out.length=A.length+1∧Bd out∧val (out.take A.length)+Bs^A.length*cy=val A+val B∧[(b19,row 180 (u32s out))]=L') [(0,.slice _ _ _),(5,.slice _ _ _)] ⟨rfl,rfl,trivial⟩ (fun ⟨cy,out⟩=>[(6,.int .u32 (cy:Int))]) ?_ ?_
   · refine SR<|oq (mS rfl)<|oq (q_len rfl)<|oq q_mv<|N0<|Jb ?_
     refine J.loopK (α:=Nat×Nat×List Nat) (fun ⟨i,cy,out⟩ h' L'=>i≤A.length∧cy≤1∧out.length=A.length+1∧Bd out∧val (out.take i)+Bs^i*cy=val (A.take i)+val (B.take i)∧[(b19,row 180 (u32s out))]=L') [(0,.slice _ _ _),(1,.slice _ _ _),(5,.slice _ _ _),(24,.int _ _)] ⟨rfl,rfl,rfl,rfl,trivial⟩ (fun ⟨i,cy,out⟩=>[(6,.int .u32 (cy:Int)),(25,.int .i64 (i:Int))]) (fun ⟨i,cy,out⟩=>A.length-i) ((0,0,out0)) ⟨by omega,by omega,ho2,ho3,by simp [val],rfl⟩ ⟨rfl,rfl,trivial⟩ ?_
     rintro ⟨i,cy,out⟩ σ2 h2 L2 s2 ⟨hi,hcr,hol,hob,hv,rfl⟩
     refine SR<|oq (q_lss rfl rfl)<|N0<|Sq ?_
     refine J.condD rfl (fun c1=>?_) (fun c1=>?_)
     · refine Js<|Sq<|Jb<|SR<|oq (mI rfl)<|oq (aI rfl)<|N0<|SR<|oq q_as<|N0 ?_
       refine J.cutK (α:=Unit) (fun _ h' L'=>B.getD i 0<4294967296∧[(b19,row 180 (u32s out))]=L') [(0,.slice _ _ _),(1,.slice _ _ _),(5,.slice _ _ _),(6,.int _ _),(7,.int _ _),(24,.int _ _),(25,.int _ _)] ⟨rfl,rfl,rfl,rfl,rfl,rfl,rfl,trivial⟩ (fun _=>[(8,.int .u32 ((B.getD i 0:Nat):Int))]) ?_ ?_
       · refine SR<|oq (mI rfl)<|oq (mS rfl)<|oq (q_len rfl)<|oq (q_lss rfl rfl)<|N0 ?_
         refine J.condD rfl (fun c2=>?_) (fun c2=>?_)
         focus
          refine Rg<|oq (mS rfl)<|oq (mI rfl) ?_
          obtain ⟨ky,oy,y,rfl,hy,ly,hcy⟩:=MagAt.limb (j:=i) hB (by omega)
          have gy:=getD_some hy
          refine oq (q_ia rfl rfl (by omega))<|oq (q_ldf rfl hcy)<|oq (aI rfl)<|N0 ?_
         rotate_left
         focus
          have gy:=getD_none (l:=B) (i:=i) (by omega)
          refine Js ?_
         rotate_left
         all_goals
          exact ⟨(),rfl,⟨rfl,rfl,rfl,rfl,rfl,rfl,rfl,trivial⟩,⟨(by rw [gy]<;>rfl),trivial⟩,⟨by omega,rfl⟩,ii⟩
       · rintro _ σ3 h3 L3 s3 ⟨yl,rfl⟩
         refine Rg<|oq (mS rfl)<|oq (mI rfl)<|oq (mS rfl)<|oq (mI rfl) ?_
         obtain ⟨kx,ox,x,rfl,hx,lx,hcx⟩:=MagAt.limb (j:=i) hA (by omega)
         have gx:=getD_some hx
         refine oq (q_ia rfl rfl (by omega))<|oq (q_ldf rfl hcx)<|oq (mI rfl)<|oq (mI rfl)<|oc (add32_fn lx yl (by omega)) fun v8 h8 s8 e8=>?_
         subst e8
         refine oq q_mv<|oq (q_ex rfl rfl)<|oq (q_ex rfl rfl)<|oq (q_ia rfl rfl (by omega))<|o_st1 (v:=.int _ _) rfl rfl rfl ii (len_own _ _ (by omega))<|oq (aI rfl)<|N0<|Rg<|oq (q_add (c:=((i+1:Nat):Int)) rfl rfl (by rw [wi64 (by omega)]; omega))<|oq (mI rfl)<|N0 ?_
         have hB:Bs=4294967296:=rfl
         exact ⟨(i+1,(x+B.getD i 0+cy) / 4294967296,out.set i ((x+B.getD i 0+cy) % 4294967296)),rfl,⟨rfl,rfl,rfl,rfl,trivial⟩,⟨rfl,rfl,trivial⟩,⟨by omega,by omega,by simp [hol],hob.set (Nat.mod_lt _ (by decide)),(by
           have:=plus2_step (i:=i) (by omega) hv; rw [gx] at this; exact this),(by rw [← set_own]<;>rfl)⟩,by show A.length-(i+1)<A.length-i; omega,ii⟩
     · refine Jx ?_
       exact ⟨(cy,out),rfl,⟨rfl,rfl,trivial⟩,⟨rfl,trivial⟩,⟨hcr,hol,hob,(by
         have h1:i=A.length:=by omega
         rw [List.take_of_length_le (l:=A) (by omega),List.take_of_length_le (l:=B) (by omega),h1] at hv; exact hv),rfl⟩,ii⟩
   · rintro ⟨cy,out⟩ σ6 h6 L6 s6 ⟨hcr,hol,hob,hv,rfl⟩
     refine SR<|oq (mS rfl)<|oq (mS rfl)<|oq (q_len rfl)<|oq (mI rfl)<|oq (q_ia rfl rfl (by omega))<|o_st1 (v:=.int _ _) rfl rfl rfl ii (len_own _ _ (by omega))<|N0<|Sq ?_
     rw [set_own]
     exact J.fz b19 fun h9 s9 hb9=>Rg<|oq (mS rfl)<|oq (aS rfl)<|N0<|Jr<|ret_ok (fn:=Tryz.f220) rfl (.tmp rfl .nil) ⟨_,MagAt.frozeN hb9 (hob.set (by have hB:Bs=4294967296:=rfl; omega)) (by simp [hol]) (Nat.le_refl _),(by rw [val_last hol,hv,hsum]),(by simp [hol]; omega)⟩
theorem minus_fn {h:Heap} {va vb:Value} {a b:List Nat} (ha:MagAt h va a) (hb:MagAt h vb b) (la:a.length≤1000001) (lb:b.length≤1000001) (hlen:b.length≤a.length) (hba:val b≤val a) :
    Fn Tryz.prog 221 #[va,vb] h fun r h'=>∃ l,MagAt h' r l∧val l=val a-val b∧l.length=a.length:=by
 obtain ⟨pa,ca,rfl,hca⟩:=ha.out
 obtain ⟨pb,cb,rfl,hcb⟩:=hb.out
 refine Fn.intro (args:=[_,_]) Tryz.func221 rfl rfl (lB rfl) fun w=>SR<|oq q_as<|N0<|SR<|oq (mS rfl)<|oq (q_len rfl)<|o_mk (n:=a.length) (m:=a.length) rfl rfl (by omega) (by omega) (Nat.le_refl _) (by omega) (by omega) fun b11=>oq (aS rfl)<|N0<|Sq ?_
 rw [flat1]
 refine Rg<|oq q_as<|N0 ?_
 refine J.cutK (α:=List Nat) (fun out h' L'=>out.length=a.length∧Bd out∧val out=val a-val b∧[(b11,row 180 (u32s out))]=L') [(5,.slice _ _ _)] ⟨rfl,trivial⟩ (fun _=>[]) ?_ ?_
 · refine SR<|oq (mS rfl)<|oq (q_len rfl)<|oq q_mv<|N0<|Jb ?_
   refine J.loopK (α:=Nat×Nat×List Nat) (fun ⟨i,bw,out⟩ h' L'=>i≤a.length∧bw≤1∧out.length=a.length∧Bd out∧val (out.take i)+val (b.take i)=val (a.take i)+Bs^i*bw∧[(b11,row 180 (u32s out))]=L') [(0,.slice _ _ _),(1,.slice _ _ _),(5,.slice _ _ _),(13,.int _ _)] ⟨rfl,rfl,rfl,rfl,trivial⟩ (fun ⟨i,bw,out⟩=>[(6,.int .u32 (bw:Int)),(14,.int .i64 (i:Int))]) (fun ⟨i,bw,out⟩=>a.length-i) ((0,0,List.replicate a.length 0)) ⟨by omega,by omega,by simp,Bd.rep0 _,by simp [val],rfl⟩ ⟨rfl,rfl,trivial⟩ ?_
   rintro ⟨i,bw,out⟩ σ2 h2 L2 s2 ⟨hi,hcr,hol,hob,hv,rfl⟩
   refine SR<|oq (q_lss rfl rfl)<|N0<|Sq ?_
   refine J.condD rfl (fun c0=>?_) (fun c0=>?_)
   · refine Js<|Sq<|Jb<|SR<|oq (mI rfl)<|oq (aI rfl)<|N0<|SR<|oq q_as<|N0 ?_
     refine J.cutK (α:=Unit) (fun _ h' L'=>b.getD i 0<4294967296∧[(b11,row 180 (u32s out))]=L') [(0,.slice _ _ _),(1,.slice _ _ _),(5,.slice _ _ _),(6,.int _ _),(7,.int _ _),(13,.int _ _),(14,.int _ _)] ⟨rfl,rfl,rfl,rfl,rfl,rfl,rfl,trivial⟩ (fun _=>[(8,.int .u32 ((b.getD i 0:Nat):Int))]) ?_ ?_
     · refine SR<|oq (mI rfl)<|oq (mS rfl)<|oq (q_len rfl)<|oq (q_lss rfl rfl)<|N0 ?_
       refine J.condD rfl (fun c1=>?_) (fun c1=>?_)
       focus
        refine Rg<|oq (mS rfl)<|oq (mI rfl) ?_
        obtain ⟨ky,oy,y,rfl,hy,ly,hcy⟩:=MagAt.limb (j:=i) hb (by omega)
        have gy:=getD_some hy
        refine oq (q_ia rfl rfl (by omega))<|oq (q_ldf rfl hcy)<|oq (aI rfl)<|N0 ?_
       rotate_left
       focus
        have gy:=getD_none (l:=b) (i:=i) (by omega)
        refine Js ?_
       rotate_left
       all_goals
        exact ⟨(),rfl,⟨rfl,rfl,rfl,rfl,rfl,rfl,rfl,trivial⟩,⟨(by rw [gy]<;>rfl),trivial⟩,⟨by omega,rfl⟩,ii⟩
     · rintro _ σ3 h3 L3 s3 ⟨yl,rfl⟩
       refine Rg<|oq (mS rfl)<|oq (mI rfl)<|oq (mS rfl)<|oq (mI rfl) ?_
       obtain ⟨kx,ox,x,rfl,hx,lx,hcx⟩:=MagAt.limb (j:=i) ha (by omega)
       have gx:=getD_some hx
       refine oq (q_ia rfl rfl (by omega))<|oq (q_ldf rfl hcx)<|oq (mI rfl)<|oq (mI rfl)<|oc (sub32_fn lx yl hcr) fun v8 h8 s8 e8=>?_
       subst e8
       refine oq q_mv<|oq (q_ex rfl rfl)<|oq (q_ex rfl rfl)<|oq (q_ia rfl rfl (by omega))<|o_st1 (v:=.int _ _) rfl rfl rfl ii (len_own _ _ (by omega))<|oq (aI rfl)<|N0<|Rg<|oq (q_add (c:=((i+1:Nat):Int)) rfl rfl (by rw [wi64 (by omega)]; omega))<|oq (mI rfl)<|N0 ?_
       have hB:Bs=4294967296:=rfl
       exact ⟨(i+1,(if x<b.getD i 0+bw then 1 else 0),out.set i ((x+4294967296*2-b.getD i 0-bw) % 4294967296)),rfl,⟨rfl,rfl,rfl,rfl,trivial⟩,⟨rfl,rfl,trivial⟩,⟨by omega,by split<;>omega,by simp [hol],hob.set (Nat.mod_lt _ (by decide)),(by
         refine minus2_step (i:=i) (by omega) hv ?_
         rw [gx,hB]; split<;>omega),(by rw [← set_own]<;>rfl)⟩,by show a.length-(i+1)<a.length-i; omega,ii⟩
   · refine Jx ?_
     exact ⟨out,rfl,⟨rfl,trivial⟩,trivial,⟨hol,hob,(by
       have h1:i=a.length:=by omega
       rw [List.take_of_length_le (l:=out) (by omega),List.take_of_length_le (l:=a) (by omega),List.take_of_length_le (l:=b) (by omega),h1] at hv
       exact minus_end hob hol hv hba),rfl⟩,ii⟩
 · rintro out σ6 h6 L6 s6 ⟨hol,hob,hv,rfl⟩
   exact Sq<|J.fz b11 fun h9 s9 hb9=>Rg<|oq (mS rfl)<|oq (aS rfl)<|N0<|Jr<|ret_ok (fn:=Tryz.f221) rfl (.tmp rfl .nil) ⟨_,MagAt.frozeN hb9 hob hol (Nat.le_refl _),hv,hol⟩
theorem add_fn {h:Heap} {va vb:Value} {x y:Int} (ha:IntAt h va x) (hb:IntAt h vb y) (fa:Fit x) (fb:Fit y) :
    Fn Tryz.prog 188 #[va,vb] h fun r h'=>IntAt h' r (x+y):=by
 obtain ⟨pa,ca,rfl,hca,ha⟩:=ha.out
 obtain ⟨pb,cb,rfl,hcb,hb⟩:=hb.out
 have hlen2:∀ {x y:Nat},x≤y→(limbs x).length≤(limbs y).length:=fun h=>limbs_len.2 (Nat.lt_of_le_of_lt h (limbs_len.1 (Nat.le_refl _)))
 refine Fn.intro (args:=[_,_]) Tryz.func188 rfl rfl (lB rfl) fun w=>SR<|o_bx (v:=.agg _) rfl rfl fun b2=>o_bx (v:=.agg _) rfl rfl fun b3=>o_al fun b4=>N0<|Sq<|Jb<|SR<|oq (q_fa rfl)<|oq (q_ld rfl ia rfl)<|oq (q_fa rfl)<|oq (q_ld rfl ia rfl)<|oq (q_beq rfl rfl)<|oq (aB rfl)<|N0 ?_
 refine J.cond rfl (fun hs=>?_) (fun hs=>?_)
 focus
  have hs2:=sign_eq hs
  have sum_z:(if decide (x<0)=true then -((x.natAbs+y.natAbs:Nat):Int) else ((x.natAbs+y.natAbs:Nat):Int))=x+y:=by
    split<;>simp only [decide_eq_true_eq] at *<;>omega
  refine Sq<|J.drawA [8]<|JD.calc 0 (by kernel_rfl) rfl trivial ss_sub (q_fa rfl)<|JD.load 1 (by kernel_rfl) rfl trivial (q_ld rfl ii rfl)<|JD.calc 2 (by kernel_rfl) rfl trivial ss_sub (q_fa rfl)<|JD.load 3 (by kernel_rfl) rfl trivial (q_ld rfl ii rfl)<|JD.calc 5 (by kernel_rfl) rfl trivial ss_sub (q_fa rfl)<|JD.load 6 (by kernel_rfl) rfl trivial (q_ld rfl ii rfl)<|Do 4<|JX.eff rfl rfl trivial<|oc (plus_fn ha hb (Nat.le_trans fa (by decide)) (Nat.le_trans fb (by decide))) fun r1 g1 t1 hr=>?_
 rotate_left
 focus
  have hs2:=sign_ne hs
  refine SR<|oq (q_fa rfl)<|oq (q_ld rfl ia rfl)<|oq (q_fa rfl)<|oq (q_ld rfl ia rfl)<|oc (compare_fn ha hb (Nat.le_trans fa (by decide)) (Nat.le_trans fb (by decide))) fun v1 hv1 sv1 ev1=>?_
  subst ev1
  refine oq (q_lss rfl rfl)<|oq (aB rfl)<|N0 ?_
  refine J.condD rfl (fun c1=>?_) (fun c1=>?_)
  focus
   have c2:=cmp3_neg.1 c1
   have sum_z:(if decide (y<0)=true then -((y.natAbs-x.natAbs:Nat):Int) else ((y.natAbs-x.natAbs:Nat):Int))=x+y:=by
     split<;>simp only [decide_eq_true_eq] at *<;>omega
   refine Sq<|J.drawA [8]<|JD.calc 0 (by kernel_rfl) rfl trivial ss_sub (q_fa rfl)<|JD.load 1 (by kernel_rfl) rfl trivial (q_ld rfl ii rfl)<|JD.calc 2 (by kernel_rfl) rfl trivial ss_sub (q_fa rfl)<|JD.load 3 (by kernel_rfl) rfl trivial (q_ld rfl ii rfl)<|JD.calc 5 (by kernel_rfl) rfl trivial ss_sub (q_fa rfl)<|JD.load 6 (by kernel_rfl) rfl trivial (q_ld rfl ii rfl)<|Do 4<|JX.eff rfl rfl trivial<|oc (minus_fn hb.mono ha.mono (Nat.le_trans fb (by decide)) (Nat.le_trans fa (by decide)) (hlen2 (by omega)) (by rw [val_limbs,val_limbs]; omega)) fun r1 g1 t1 hr=>?_
  rotate_left
  focus
   have c2:¬ x.natAbs<y.natAbs:=fun h=>c1 (cmp3_neg.2 (by omega))
   have sum_z:(if decide (x<0)=true then -((x.natAbs-y.natAbs:Nat):Int) else ((x.natAbs-y.natAbs:Nat):Int))=x+y:=by
     split<;>simp only [decide_eq_true_eq] at *<;>omega
   refine Js<|Sq<|J.drawA [8]<|JD.calc 0 (by kernel_rfl) rfl trivial ss_sub (q_fa rfl)<|JD.load 1 (by kernel_rfl) rfl trivial (q_ld rfl ii rfl)<|JD.calc 2 (by kernel_rfl) rfl trivial ss_sub (q_fa rfl)<|JD.load 3 (by kernel_rfl) rfl trivial (q_ld rfl ii rfl)<|JD.calc 5 (by kernel_rfl) rfl trivial ss_sub (q_fa rfl)<|JD.load 6 (by kernel_rfl) rfl trivial (q_ld rfl ii rfl)<|Do 4<|JX.eff rfl rfl trivial<|oc (minus_fn ha.mono hb.mono (Nat.le_trans fa (by decide)) (Nat.le_trans fb (by decide)) (hlen2 (by omega)) (by rw [val_limbs,val_limbs]; omega)) fun r1 g1 t1 hr=>?_
  rotate_left
 rotate_left 2
 all_goals
  obtain ⟨l,hl,hv,hlen⟩:=hr
  refine NS<|Do 7<|JX.eff rfl rfl trivial<|oc (norm_fn hl (by have:=Nat.le_trans fa (by decide:1000000≤1000001); have:=fa; have:=fb; unfold Fit at *; omega)) fun r2 g2 t2 hr=>?_
  rw [hv,val_limbs,val_limbs] at hr
  rw [sum_z] at hr
  obtain ⟨pr,cr,rfl,_,hm1⟩:=hr.out
  exact NS<|Do 8<|Xm rfl rfl<|o_stw (vs:=[_,_]) rfl rfl rfl ii rfl rfl<|NF<|Dd<|Jr<|ret_ok (fn:=Tryz.f188) rfl (.agg rfl ii ii .nil) (IntAt.in hm1)
end Go.Z
end
section
namespace Go.Z
open Go Go.RowKit Go.Proofs
theorem mul_fn {h:Heap} {va vb:Value} {x y:Int} (ha:IntAt h va x) (hb:IntAt h vb y) (fa:Fit x) (fb:Fit y) :
    Fn Tryz.prog 140 #[va,vb] h fun r h'=>IntAt h' r (x*y):=by
 obtain ⟨pa,ca,rfl,hca,ha⟩:=ha.out
 obtain ⟨pb,cb,rfl,hcb,hb⟩:=hb.out
 have la:=fa
 have lb:=fb
 unfold Fit at la lb
 refine Fn.intro (args:=[_,_]) Tryz.func140 rfl rfl (lB rfl) fun w=>SR<|o_bx (v:=.agg _) rfl rfl fun b2=>o_bx (v:=.agg _) rfl rfl fun b3=>o_al fun b4=>N0<|SR<|oq (q_fa rfl)<|oq (q_ld rfl ia rfl)<|oq (q_len rfl)<|oq (q_fa rfl)<|oq (q_ld rfl ia rfl)<|oq (q_len rfl)<|oq (q_add rfl rfl (wi64 (by omega)))<|o_mk (n:=(limbs x.natAbs).length+(limbs y.natAbs).length) (m:=(limbs x.natAbs).length+(limbs y.natAbs).length) rfl rfl (by omega) (by omega) (Nat.le_refl _) (by omega) (by omega) fun b18=>oq (aS rfl)<|N0 ?_
 refine J.cutK (α:=List Nat) (fun out h' L'=>out.length=(limbs x.natAbs).length+(limbs y.natAbs).length∧Bd out∧val out=val (limbs x.natAbs)*val (limbs y.natAbs)∧[(b18,row 180 (u32s out)),(b4,row 75 [.bool false,.slice none 0 0]),(b3,row 75 [.bool (decide (y<0)),.slice pb (limbs y.natAbs).length cb]),(b2,row 75 [.bool (decide (x<0)),.slice pa (limbs x.natAbs).length ca])]=L') [(2,.pointer _),(3,.pointer _),(4,.pointer _),(5,.slice _ _ _)] ⟨rfl,rfl,rfl,rfl,trivial⟩ (fun _=>[]) ?_ ?_
 · refine SR<|oq (q_fa rfl)<|oq (q_ld rfl ia rfl)<|oq (q_len rfl)<|oq q_mv<|N0<|Jb ?_
   refine J.loopK (α:=Nat×List Nat) (fun ⟨i,out⟩ h' L'=>i≤(limbs x.natAbs).length∧out.length=(limbs x.natAbs).length+(limbs y.natAbs).length∧Bd out∧val out=val ((limbs x.natAbs).take i)*val (limbs y.natAbs)∧(∀ j,i+(limbs y.natAbs).length≤j→j<(limbs x.natAbs).length+(limbs y.natAbs).length→out[j]?=some 0)∧[(b18,row 180 (u32s out)),(b4,row 75 [.bool false,.slice none 0 0]),(b3,row 75 [.bool (decide (y<0)),.slice pb (limbs y.natAbs).length cb]),(b2,row 75 [.bool (decide (x<0)),.slice pa (limbs x.natAbs).length ca])]=L') [(2,.pointer _),(3,.pointer _),(4,.pointer _),(5,.slice _ _ _),(20,.slice _ _ _),(21,.int _ _)] ⟨rfl,rfl,rfl,rfl,rfl,rfl,trivial⟩ (fun ⟨i,out⟩=>[(22,.int .i64 (i:Int))]) (fun ⟨i,out⟩=>(limbs x.natAbs).length-i) ((0,List.replicate ((limbs x.natAbs).length+(limbs y.natAbs).length) 0)) ⟨by omega,by simp,Bd.rep0 _,by simp [val_rep0,val],fun j _ hj=>by simp [hj],by rw [flat1]⟩ ⟨rfl,trivial⟩ ?_
   rintro ⟨i,out⟩ σ h1 L1 s1 ⟨hi,hol,hob,hov,hz,rfl⟩
   refine SR<|oq (q_lss rfl rfl)<|N0<|Sq ?_
   refine J.condD rfl (fun c0=>?_) (fun c0=>?_)
   · have c0':i<(limbs x.natAbs).length:=by omega
     refine Js<|Sq<|Jb<|SR<|oq (mI rfl) ?_
     obtain ⟨ku,ou,u,rfl,hu,lu,hcu⟩:=MagAt.limb (j:=i) ha (by omega)
     have gu:=getD_some hu
     refine oq (q_ia rfl rfl (by omega))<|oq (q_ldf rfl hcu)<|oq (aI rfl)<|oq (aI rfl)<|N0<|SR<|oq q_as<|N0 ?_
     refine J.cutK (α:=Nat×List Nat) (fun ⟨cy,out⟩ h' L'=>cy<4294967296∧out.length=(limbs x.natAbs).length+(limbs y.natAbs).length∧Bd out∧val out+Bs^(i+(limbs y.natAbs).length)*cy=val ((limbs x.natAbs).take (i+1))*val (limbs y.natAbs)∧(∀ j,i+(limbs y.natAbs).length≤j→j<(limbs x.natAbs).length+(limbs y.natAbs).length→out[j]?=some 0)∧[(b18,row 180 (u32s out)),(b4,row 75 [.bool false,.slice none 0 0]),(b3,row 75 [.bool (decide (y<0)),.slice pb (limbs y.natAbs).length cb]),(b2,row 75 [.bool (decide (x<0)),.slice (some ⟨ku,ou,none⟩) (limbs x.natAbs).length ca])]=L') [(2,.pointer _),(3,.pointer _),(4,.pointer _),(5,.slice _ _ _),(6,.int _ _),(20,.slice _ _ _),(21,.int _ _),(22,.int _ _)] ⟨rfl,rfl,rfl,rfl,rfl,rfl,rfl,rfl,trivial⟩ (fun ⟨cy,out⟩=>[(8,.int .u64 (cy:Int))]) ?_ ?_
     · refine SR<|oq (q_fa rfl)<|oq (q_ld rfl ia rfl)<|oq (q_len rfl)<|oq q_mv<|N0<|Jb ?_
       refine J.loopK (α:=Nat×Nat×List Nat) (fun ⟨k,cy,out⟩ h' L'=>k≤(limbs y.natAbs).length∧cy<4294967296∧out.length=(limbs x.natAbs).length+(limbs y.natAbs).length∧Bd out∧val out+Bs^(i+k)*cy=val ((limbs x.natAbs).take i)*val (limbs y.natAbs)+Bs^i*u*val ((limbs y.natAbs).take k)∧(∀ j,i+(limbs y.natAbs).length≤j→j<(limbs x.natAbs).length+(limbs y.natAbs).length→out[j]?=some 0)∧[(b18,row 180 (u32s out)),(b4,row 75 [.bool false,.slice none 0 0]),(b3,row 75 [.bool (decide (y<0)),.slice pb (limbs y.natAbs).length cb]),(b2,row 75 [.bool (decide (x<0)),.slice (some ⟨ku,ou,none⟩) (limbs x.natAbs).length ca])]=L') [(2,.pointer _),(3,.pointer _),(4,.pointer _),(5,.slice _ _ _),(6,.int _ _),(7,.int _ _),(20,.slice _ _ _),(21,.int _ _),(22,.int _ _),(28,.slice _ _ _),(29,.int _ _)] ⟨rfl,rfl,rfl,rfl,rfl,rfl,rfl,rfl,rfl,rfl,rfl,trivial⟩ (fun ⟨k,cy,out⟩=>[(8,.int .u64 (cy:Int)),(30,.int .i64 (k:Int))]) (fun ⟨k,cy,out⟩=>(limbs y.natAbs).length-k) ((0,0,out)) ⟨by omega,by omega,hol,hob,by simp [hov,val],hz,rfl⟩ ⟨rfl,rfl,trivial⟩ ?_
       rintro ⟨k,cy,out⟩ σ2 h2 L2 s2 ⟨hk,hcl,hol,hob,hv,hz,rfl⟩
       refine SR<|oq (q_lss rfl rfl)<|N0<|Sq ?_
       refine J.condD rfl (fun c1=>?_) (fun c1=>?_)
       · refine Js<|Sq<|Jb<|SR<|oq (mI rfl) ?_
         obtain ⟨kw,ow,w,rfl,hw,lw,hcw⟩:=MagAt.limb (j:=k) hb (by omega)
         have gw:=getD_some hw
         refine oq (q_ia rfl rfl (by omega))<|oq (q_ldf rfl hcw)<|oq (aI rfl)<|oq (aI rfl)<|N0<|Sq ?_
         obtain ⟨o,ho,hol2⟩:=has_limb (j:=i+k) hob (by omega)
         have hcar:=carry_lt hcl hol2 lu lw
         have hB:Bs=4294967296:=rfl
         refine Rg<|oq (mI rfl)<|oq (mI rfl)<|oq (q_cv (c:=(u:Int)) rfl (wu64 (by omega)))<|oq (mI rfl)<|oq (q_cv (c:=(w:Int)) rfl (wu64 (by omega)))<|oq (q_mul (c:=((u*w:Nat):Int)) rfl rfl (by rw [← Int.natCast_mul,wu64 (by omega)]))<|oq (mS rfl)<|oq (mI rfl)<|oq (mI rfl)<|oq (q_add (c:=((i+k:Nat):Int)) rfl rfl (by rw [wi64 (by omega)]; omega))<|oq (q_ia rfl rfl (by omega))<|oq (q_ld (v:=.int .u32 (o:Int)) rfl ii (get_own ho))<|oq (q_cv (c:=(o:Int)) rfl (wu64 (by omega)))<|oq (q_add (c:=((o+u*w:Nat):Int)) rfl rfl (by rw [wu64 (by omega)]; omega))<|oq (q_add (c:=((cy+o+u*w:Nat):Int)) rfl rfl (by rw [wu64 (by omega)]; omega))<|oq (aI rfl)<|N0<|SR<|oq (mS rfl)<|oq (mI rfl)<|oq (mI rfl)<|oq (q_add (c:=((i+k:Nat):Int)) rfl rfl (by rw [wi64 (by omega)]; omega))<|oq (mI rfl)<|oq (q_cv (c:=(((cy+o+u*w) % 4294967296:Nat):Int)) rfl (by rw [IntKind.wrap_u32]; omega))<|oq (q_ia rfl rfl (by omega))<|o_st1 (v:=.int _ _) rfl rfl rfl ii (len_own _ _ (by omega))<|N0<|Rg<|oq (mI rfl)<|oq (q_shr (c:=(((cy+o+u*w) / 4294967296:Nat):Int)) rfl rfl (by decide) (by simp only [IntKind.bits]; exact fd32 _))<|oq (aI rfl)<|N0<|Rg<|oq (q_add (c:=((k+1:Nat):Int)) rfl rfl (by rw [wi64 (by omega)]; omega))<|oq (mI rfl)<|N0 ?_
         exact ⟨(k+1,(cy+o+u*w) / 4294967296,out.set (i+k) ((cy+o+u*w) % 4294967296)),rfl,⟨rfl,rfl,rfl,rfl,rfl,rfl,rfl,rfl,rfl,rfl,rfl,trivial⟩,⟨rfl,rfl,trivial⟩,⟨by omega,hcar.2,by simp [hol],hob.set (Nat.mod_lt _ (by decide)),(by
           have:=mul_step (x:=u) (y:=w) ho hv
           rw [val_take_succ,gw,Nat.mul_add]; exact this.trans (Nat.add_assoc _ _ _)),(fun j h1 h2=>by rw [List.getElem?_set_ne (by omega)]; exact hz j h1 h2),(by rw [← set_own]<;>rfl)⟩,by show (limbs y.natAbs).length-(k+1)<(limbs y.natAbs).length-k; omega,ii⟩
       · refine Jx ?_
         exact ⟨(cy,out),rfl,⟨rfl,rfl,rfl,rfl,rfl,rfl,rfl,rfl,trivial⟩,⟨rfl,trivial⟩,⟨hcl,hol,hob,(by
           have h1:k=(limbs y.natAbs).length:=by omega
           rw [h1,List.take_of_length_le (l:=(limbs y.natAbs)) (by omega)] at hv
           rw [val_take_succ,Nat.add_mul,gu]; exact hv),hz,rfl⟩,ii⟩
     · rintro ⟨cy,out⟩ σ8 h8 L8 s8 ⟨hcl,hol,hob,hv,hz,rfl⟩
       refine Rg<|oq (mS rfl)<|oq (mI rfl)<|oq (q_fa rfl)<|oq (q_ld rfl ia rfl)<|oq (q_len rfl)<|oq (q_add (c:=((i+(limbs y.natAbs).length:Nat):Int)) rfl rfl (by rw [wi64 (by omega)]; omega))<|oq (mI rfl)<|oq (q_cv (c:=(cy:Int)) rfl (wu32 (by omega)))<|oq (q_ia rfl rfl (by omega))<|o_st1 (v:=.int _ _) rfl rfl rfl ii (len_own _ _ (by omega))<|N0<|Rg<|oq (q_add (c:=((i+1:Nat):Int)) rfl rfl (by rw [wi64 (by omega)]; omega))<|oq (mI rfl)<|N0 ?_
       exact ⟨(i+1,out.set (i+(limbs y.natAbs).length) cy),rfl,⟨rfl,rfl,rfl,rfl,rfl,rfl,trivial⟩,⟨rfl,trivial⟩,⟨by omega,by simp [hol],hob.set hcl,(by
         have:=val_set cy (hz (i+(limbs y.natAbs).length) (by omega) (by omega))
         rw [← hv,← this]; simp),(fun j h1 h2=>by rw [List.getElem?_set_ne (by omega)]; exact hz j (by omega) h2),(by rw [← set_own]<;>rfl)⟩,by show (limbs x.natAbs).length-(i+1)<(limbs x.natAbs).length-i; omega,ii⟩
   · refine Jx ?_
     exact ⟨out,rfl,⟨rfl,rfl,rfl,rfl,trivial⟩,trivial,⟨hol,hob,(by rw [hov,List.take_of_length_le (by omega)]),rfl⟩,ii⟩
 · rintro out σ9 h9 L9 s9 ⟨hol,hob,hov,rfl⟩
   refine SR<|oq (mS rfl)<|oq (q_fa rfl)<|oq (q_ld rfl ia rfl)<|oq (q_fa rfl)<|oq (q_ld rfl ia rfl)<|oq (q_bne rfl rfl)<|JL.fz b18 fun h10 s10 hb10=>oc (norm_fn (MagAt.frozeN hb10 hob hol (Nat.le_refl _)) (by omega)) fun r h11 s11 hr=>?_
   rw [hov,val_limbs,val_limbs,mul_sign] at hr
   obtain ⟨pr,cr,rfl,_,hm1⟩:=hr.out
   exact o_stw (vs:=[_,_]) rfl rfl rfl ii rfl rfl<|N0<|Jr<|ret_ok (fn:=Tryz.f140) rfl (.agg rfl ii ii .nil) (IntAt.in hm1)
end Go.Z
end
section
namespace Go.Z
def lc (l:List RT) (i:Nat):Int:=if i=0 then -1 else (l.getD (i-1) (0,false,[])).1
end Go.Z
end
section
namespace Go.Z
open Go
section
variable {α:Type} {R:Heap→List Value→α→Prop} {sz:Nat} {h:Heap} {b:Nat} {T:TypeId}
end
theorem limbs_last {n:Nat} (h:n≠0):(limbs n).getD ((limbs n).length-1) 0≠0:=by
 induction n using Nat.strongRecOn with
 | _ n ih=>
  rw [limbs_pos h]
  by_cases h2:n / Bs=0
  ·rw [h2,limbs_zero]
   have hB:Bs=4294967296:=rfl
   simp only [List.length_cons,List.length_nil]
   show n % Bs≠0
   rw [hB] at h2 ⊢; omega
  ·have:=ih _ (Nat.div_lt_self (Nat.pos_of_ne_zero h) (by decide)) h2
   have hl:=limbs_len_pos h2
   simp only [List.length_cons]
   obtain ⟨k,hk⟩:∃ k,(limbs (n / Bs)).length=k+1:=⟨(limbs (n / Bs)).length-1,by omega⟩
   rw [hk] at this ⊢
   simpa using this
theorem canon_int (z:Int):canon (decide (z<0)) (limbs z.natAbs)=true:=by
 unfold canon
 by_cases h:z=0
 ·subst h; rw [show limbs (0:Int).natAbs=[] from limbs_zero]; rfl
 ·have h1:z.natAbs≠0:=by omega
  have:=limbs_len_pos h1
  rw [if_neg (by omega)]
  exact decide_eq_true (limbs_last h1)
end Go.Z
end
section
namespace Go.Z
open Go Go.RowKit Go.Proofs
variable {h:Heap} {v1 v2:Value} {x y:Int}
theorem of_if {α:Type} {p:Prop} [Decidable p] {a:α} {r:α} (h:(if p then some a else none)=some r):p∧a=r:=by
 split at h
 ·exact ⟨‹_›,Option.some.inj h⟩
 ·cases h
theorem of_if2 {α:Type} {p:Prop} [Decidable p] {a:α} {r:α} (h:(if p then some a else none)=some r):p∧r=a:=⟨(of_if h).1,(of_if h).2.symm⟩
theorem raw_len (z:Int) (h:Ft z):(limbs z.natAbs).length≤9223372036854775807:=Nat.le_trans (ft_fit h) (by decide)
theorem rof_fn {r:Int} (hm:M.iof x=some r):Fn Tryz.prog 42 #[.int .i64 x] h fun v h'=>IntAt h' v r:=by
 obtain ⟨h1,rfl⟩:=of_if2 hm; exact of_fn h1
theorem rsign_fn (r1:IntAt h v1 x) {r:Int} (hm:M.isign x=some r):Fn Tryz.prog 92 #[v1] h fun v h'=>v=.int .i64 r:=by
 obtain ⟨h1,rfl⟩:=of_if2 hm; have:=signr_fn (r1.raw) (raw_len x h1); rw [sgn_int] at this; exact this
theorem sign_fn' (r1:IntAt h v1 x) {r:Int} (hm:M.isign x=some r):Fn Tryz.prog 97 #[v1] h fun v h'=>v=.int .i64 r:=by
 obtain ⟨h1,rfl⟩:=of_if2 hm; have:=sign_fn (r1.raw) (raw_len x h1); rw [sgn_int] at this; exact this
theorem radd_fn (r1:IntAt h v1 x) (r2:IntAt h v2 y) {r:Int} (hm:M.iadd x y=some r):Fn Tryz.prog 120 #[v1,v2] h fun v h'=>IntAt h' v r:=by
 obtain ⟨⟨h1,h2⟩,rfl⟩:=of_if2 hm; exact addr_fn r1 r2 (ft_fit h1) (ft_fit h2)
theorem add_fn' (r1:IntAt h v1 x) (r2:IntAt h v2 y) {r:Int} (hm:M.iadd x y=some r):Fn Tryz.prog 188 #[v1,v2] h fun v h'=>IntAt h' v r:=by
 obtain ⟨⟨h1,h2⟩,rfl⟩:=of_if2 hm; exact add_fn r1 r2 (ft_fit h1) (ft_fit h2)
theorem rmul_fn (r1:IntAt h v1 x) (r2:IntAt h v2 y) {r:Int} (hm:M.imul x y=some r):Fn Tryz.prog 119 #[v1,v2] h fun v h'=>IntAt h' v r:=by
 obtain ⟨⟨h1,h2⟩,rfl⟩:=of_if2 hm; exact mulr_fn r1 r2 (ft_fit h1) (ft_fit h2)
theorem mul_fn' (r1:IntAt h v1 x) (r2:IntAt h v2 y) {r:Int} (hm:M.imul x y=some r):Fn Tryz.prog 140 #[v1,v2] h fun v h'=>IntAt h' v r:=by
 obtain ⟨⟨h1,h2⟩,rfl⟩:=of_if2 hm; exact mul_fn r1 r2 (ft_fit h1) (ft_fit h2)
theorem rneg_fn (r1:IntAt h v1 x) {r:Int} (hm:M.ineg x=some r):Fn Tryz.prog 153 #[v1] h fun v h'=>IntAt h' v r:=by
 obtain ⟨h1,rfl⟩:=of_if2 hm; exact neg_fn r1 (ft_fit h1)
theorem rsame_fn (r1:IntAt h v1 x) (r2:IntAt h v2 y) {r:Bool} (hm:M.isame x y=some r):Fn Tryz.prog 38 #[v1,v2] h fun v h'=>v=.bool r:=by
 obtain ⟨⟨h1,h2⟩,rfl⟩:=of_if2 hm; exact same_fn r1 r2 (ft_fit h1) (ft_fit h2)
theorem cmp_fn' (r1:IntAt h v1 x) (r2:IntAt h v2 y) {r:Int} (hm:M.icmp x y=some r):Fn Tryz.prog 90 #[v1,v2] h fun v h'=>v=.int .i64 r:=by
 obtain ⟨⟨h1,h2⟩,rfl⟩:=of_if2 hm; exact cmp_fn r1 r2 (ft_fit h1) (ft_fit h2)
theorem cmpi_fn' {r:Int} (hm:M.cmpi x y=some r):Fn Tryz.prog 100 #[.int .i64 x,.int .i64 y] h fun v h'=>v=.int .i64 r:=by
 obtain rfl:=Option.some.inj hm; exact cmpi_fn
theorem rvalid_fn (r1:IntAt h v1 x) {r:Bool} (hm:M.ivalid x=some r):Fn Tryz.prog 148 #[v1] h fun v h'=>v=.bool r:=by
 obtain ⟨h1,rfl⟩:=of_if2 hm; have:=validr_fn (r1.raw) (raw_len x h1); rw [canon_int] at this; exact this
end Go.Z
end
section
namespace Go.Z
open Go Go.RowKit Go.Proofs
theorem ofp_fn {h:Heap} {n:Int} (hn:-9223372036854775808≤n∧n≤9223372036854775807) :
    Fn Tryz.prog 75 #[.int .i64 n] h fun r h'=>IntAt h' r n:=by
 refine Fn.intro (args:=[_]) Tryz.func75 rfl rfl (lB rfl) fun w=>SR<|o_al fun b2=>N0<|SR<|oq (mI rfl)<|oq (q_cv (c:=n % 18446744073709551616) rfl (by rw [IntKind.wrap_u64]))<|oq (aI rfl)<|N0 ?_
 refine J.cutK (α:=Unit) (fun _ h' L'=>L'=[(b2,row 75 [.bool false,.slice none 0 0])]) [(0,.int _ _),(2,.pointer _)] ⟨rfl,rfl,trivial⟩ (fun _=>[(3,.int .u64 (n.natAbs:Int))]) ?_ ?_
 · refine SR<|oq (mI rfl)<|oq (q_lss rfl rfl)<|N0 ?_
   refine J.condD rfl (fun c0=>?_) (fun c0=>?_)
   focus
    refine Rg<|oq (mI rfl)<|oq (q_neg (c:=-n) rfl (by rw [IntKind.wrap_u64]; omega))<|oq (aI rfl)<|N0 ?_
   rotate_left
   focus
    refine Js ?_
   rotate_left
   all_goals
    exact ⟨(),rfl,⟨rfl,rfl,trivial⟩,⟨(by show Value.int _ _=Value.int _ _; congr 1; omega),trivial⟩,rfl,ii⟩
 · rintro _ σ1 h1 L1 s1 rfl
   refine SR<|oq (mI rfl)<|oq (q_cv (c:=((n.natAbs % 4294967296:Nat):Int)) rfl (by rw [IntKind.wrap_u32]; omega))<|oq (mI rfl)<|oq (q_shr (c:=((n.natAbs / 4294967296:Nat):Int)) rfl rfl (by decide) (by simp only [IntKind.bits]; exact fd32 _))<|oq (q_cv (c:=((n.natAbs / 4294967296:Nat):Int)) rfl (wu32 (by omega)))<|o_bs [.int _ _,.int _ _] (by decide) rfl fun b15=>oq (mI rfl)<|oq (q_lss rfl rfl)<|JL.fz b15 fun h2 s2 hb=>?_
   have hl:Bd [n.natAbs % 4294967296,n.natAbs / 4294967296]:=fun x hx=>by
     have hB:Bs=4294967296:=rfl
     simp at hx; omega
   refine oc (norm_fn (MagAt.froze (l:=[n.natAbs % 4294967296,n.natAbs / 4294967296]) hb hl (Nat.le_refl _)) (by simp)) fun r h3 s3 hr=>?_
   obtain ⟨pr,cr,rfl,_,hm⟩:=hr.out
   refine o_stw (vs:=[_,_]) rfl rfl rfl ii rfl rfl<|N0<|Jr<|ret_ok (fn:=Tryz.f75) rfl (.agg rfl ii ii .nil) ?_
   have hz:(if decide (n<0)=true then -(val [n.natAbs % 4294967296,n.natAbs / 4294967296]:Int) else (val [n.natAbs % 4294967296,n.natAbs / 4294967296]:Int))=n:=by
     have hv:val [n.natAbs % 4294967296,n.natAbs / 4294967296]=n.natAbs:=by
       have hB:Bs=4294967296:=rfl
       simp only [val,hB]; omega
     rw [hv]; by_cases h:n<0<;>simp [h]<;>omega
   rw [hz] at hm ⊢<;>exact IntAt.in hm
theorem absr_fn {h:Heap} {v:Value} {z:Int} (hv:IntAt h v z) (hz:Fit z) :
    Fn Tryz.prog 195 #[v] h fun r h'=>IntAt h' r (z.natAbs:Int):=by
 obtain ⟨p,c,rfl,hc,hm⟩:=hv.out
 refine Fn.intro (args:=[_]) Tryz.func195 rfl rfl (lB rfl) fun w=>SR<|o_bx (v:=.agg _) rfl rfl fun b1=>o_al fun b2=>N0<|SR<|oq (q_fa rfl)<|oq (q_ld rfl ia rfl)<|oc (made_fn hm (Nat.le_trans hz (by decide))) fun r h1 s1 hr=>?_
 rw [show (if false=true then -(val (limbs z.natAbs):Int) else ↑(val (limbs z.natAbs)))=(z.natAbs:Int) by rw [val_limbs]; rfl] at hr
 obtain ⟨pr,cr,rfl,_,hm1⟩:=hr.out
 exact o_stw (vs:=[_,_]) rfl rfl rfl ii rfl rfl<|N0<|Jr<|ret_ok (fn:=Tryz.f195) rfl (.agg rfl ii ii .nil) (IntAt.in hm1)
end Go.Z
end
section
namespace Go.Z
open Go Go.RowKit Go.Proofs
variable {h:Heap} {v1 v2:Value} {x y:Int}
theorem of_fn'' {r:Int} (hm:M.iof x=some r):Fn Tryz.prog 75 #[.int .i64 x] h fun v h'=>IntAt h' v r:=by
 obtain ⟨h1,rfl⟩:=of_if2 hm; exact ofp_fn h1
theorem rabs_fn (r1:IntAt h v1 x) {r:Int} (hm:M.iabs x=some r):Fn Tryz.prog 195 #[v1] h fun v h'=>IntAt h' v r:=by
 obtain ⟨h1,rfl⟩:=of_if2 hm; exact absr_fn r1 (ft_fit h1)
end Go.Z
end
section
namespace Go.Z
open Go Go.RowKit Go.Proofs
variable {h:Heap} {v1 v2:Value} {x y:Int}
theorem u32s_cells (h:Heap) (l:List Nat):Cells (KR .u32) 1 h (u32s l) (l.map fun x:Nat=>(x:Int)):=by
 refine ⟨by simp [u32s],fun i a hi=>?_⟩
 rw [List.getElem?_map] at hi
 cases hl:l[i]? with
 | none=>rw [hl] at hi; cases hi
 | some x=>
  rw [hl] at hi; cases hi
  show _=[Value.int .u32 (x:Int)]
  have hu:=u32s_get hl
  have hlt:=(List.getElem?_eq_some_iff.1 hu).1
  refine List.ext_getElem? fun j=>?_
  rw [List.getElem?_take]
  rcases Nat.eq_zero_or_pos j with rfl | hj
  ·rw [if_pos (by decide),List.getElem?_drop,Nat.mul_one,Nat.add_zero,hu]; rfl
  ·rw [if_neg (by omega),List.getElem?_eq_none (by simp; omega)]
theorem MagAt.sls {v:Value} {l:List Nat} (m:MagAt h v l):Sls (KR .u32) 1 h v (l.map fun x:Nat=>(x:Int)):=
 ⟨u32s l,by have:=m.1; rwa [List.length_map],u32s_cells h l⟩
theorem Sls.mag {v:Value} {l:List Nat} (hb:Bd l) (s:Sls (KR .u32) 1 h v (l.map fun x:Nat=>(x:Int))):MagAt h v l:=by
 obtain ⟨cs,h1,h2⟩:=s
 have e:cs=u32s l:=by
  refine List.ext_getElem? fun j=>?_
  have hlen:cs.length=l.length:=by have:=h2.1; simpa using this
  cases hl:l[j]? with
  | none=>
   have:l.length≤j:=List.getElem?_eq_none_iff.1 hl
   rw [List.getElem?_eq_none (by omega),List.getElem?_eq_none (by rw [u32s_len]; omega)]
  | some x=>
   have hx:(l.map fun x:Nat=>(x:Int))[j]?=some (x:Int):=by rw [List.getElem?_map,hl]; rfl
   have:=h2.2 j _ hx
   have h3:((cs.drop (j*1)).take 1)[0]?=some (Value.int .u32 (x:Int)):=by rw [show _=[Value.int .u32 (x:Int)] from this]; rfl
   rw [List.getElem?_take,if_pos (by decide),List.getElem?_drop,Nat.mul_one,Nat.add_zero] at h3
   rw [h3,u32s_get hl]
 subst e
 exact ⟨by rwa [List.length_map] at h1,hb⟩
theorem IntR.parts {g:Bool} {p:Option Addr} {n c:Nat} {z:Int} (w:IntR h [.bool g,.slice p n c] z):g=decide (z<0)∧Sls (KR .u32) 1 h (.slice p n c) (M.lmg z):=by
 obtain ⟨p',c',e,h1,h2⟩:=w
 cases e
 exact ⟨rfl,h2.sls⟩
theorem lmade_fn {l:List Int} {b:Bool} (r1:Sls (KR .u32) 1 h v1 l) {r:Int} (hm:M.lmade l b=some r):Fn Tryz.prog 121 #[v1,.bool b] h fun v h'=>IntAt h' v r:=by
 obtain ⟨⟨h1,h2⟩,rfl⟩:=of_if2 hm
 obtain ⟨hb,he⟩:=lok_spec h1
 have hm':=Sls.mag hb (he.symm ▸ r1)
 exact made_fn hm' (by simpa using h2)
theorem lless_fn {a b:List Int} (r1:Sls (KR .u32) 1 h v1 a) (r2:Sls (KR .u32) 1 h v2 b) {r:Bool} (hm:M.lless a b=some r):Fn Tryz.prog 115 #[v1,v2] h fun v h'=>v=.bool r:=by
 obtain ⟨⟨⟨h1,h2⟩,h3,h4⟩,rfl⟩:=of_if2 hm
 have m1:=Sls.mag (l:=limbs (M.lval a)) (bd_limbs _) (by rw [h1] at r1; simpa [M.lmg,lval_lmg] using r1)
 have m2:=Sls.mag (l:=limbs (M.lval b)) (bd_limbs _) (by rw [h3] at r2; simpa [M.lmg,lval_lmg] using r2)
 have e1:a.length=(limbs (M.lval a)).length:=by
  have:=congrArg List.length h1; simpa [M.lmg] using this
 have e2:b.length=(limbs (M.lval b)).length:=by
  have:=congrArg List.length h3; simpa [M.lmg] using this
 exact less_fn m1 m2 (by omega) (by omega)
end Go.Z
end
section
namespace Go.Z
open Go Go.Proofs
instance:EqT Tryz.prog 59:=⟨by kernel_rfl⟩
instance:Ar Tryz.prog 59 2 3:=⟨by kernel_rfl⟩
instance:Ar Tryz.prog 84 3 5:=⟨by kernel_rfl⟩
instance:Ar Tryz.prog 88 4 57:=⟨by kernel_rfl⟩
instance:Mp Tryz.prog 126 3 45:=⟨by kernel_rfl,by kernel_rfl⟩
instance:Mp Tryz.prog 137 3 3:=⟨by kernel_rfl,by kernel_rfl⟩
instance:Mp Tryz.prog 139 3 4:=⟨by kernel_rfl,by kernel_rfl⟩
instance:Mp Tryz.prog 199 3 75:=⟨by kernel_rfl,by kernel_rfl⟩
instance:Zw Tryz.prog 3 (.int .i64 0):=zw_of (by kernel_rfl)
instance:Zw Tryz.prog 4 (.bool false):=zw_of (by kernel_rfl)
instance:Zw Tryz.prog 45 (.slice none 0 0):=zw_of (by kernel_rfl)
instance:Zw Tryz.prog 75 (.agg ⟨[.bool false,.slice none 0 0]⟩):=zw_of (by kernel_rfl)
end Go.Z
end
section
namespace Go.Z
open Go Go.RowKit Go.Proofs
theorem r01_Sub_fn {h:Heap} {x0:Int} {x1:Int} {v0:Value} {v1:Value} (r0:IntAt h v0 x0) (r1:IntAt h v1 x1) {r:Int} (hm:M.r01_Sub x0 x1=some r) :
    Fn Tryz.prog 210 #[v0,v1] h fun v h'=>IntAt h' v r:=by
 obtain ⟨_,_,_,_,rfl,e⟩:=r0.op
 obtain ⟨_,_,_,_,rfl,f⟩:=r1.op
 refine Fn.intro (args:=[_,_]) Tryz.func210 rfl rfl (lB rfl) fun w=>?_
 unfold M.r01_Sub at hm
 refine SR<|o_bx (v:=.agg ⟨[.bool _,.slice _ _ _]⟩) rfl rfl fun a=>o_bx (v:=.agg ⟨[.bool _,.slice _ _ _]⟩) rfl rfl fun b=>o_al fun _=>N0<|Sq<|bE hm fun _ c hm=>bE hm fun _ d hm=>J.drawB [a,b] []<|Dl 0 rfl (q_lda (vs:=[_,_]) rfl ii ⟨rfl,rfl,trivial⟩)<|Dl 1 rfl (q_lda (vs:=[_,_]) rfl ii ⟨rfl,rfl,trivial⟩)<|Do 2<|Xe rfl rfl<|oc (rneg_fn (iu f) c) fun _ _ _ j=>?_
 obtain ⟨_,_,_,_,rfl,g⟩:=j.op
 refine NE<|Do 3<|Xe rfl rfl<|oc (radd_fn (iu e) (iu g) d) fun _ _ _ k=>?_
 obtain ⟨_,_,_,_,rfl,i⟩:=k.op
 refine NE<|Do 4<|Xe rfl rfl<|Sc [.bool _,.slice _ _ _] [.bool _,.slice _ _ _] rfl rfl rfl rfl rfl ia rfl rfl<|NE<|Dd<|Jr ?_
 cases hm
 exact ret_ok (fn:=Tryz.f210) rfl (.agg rfl ii ii .nil) (iu i)
theorem r01_short_fn {h:Heap} {x0:List Int} {x1:Int} {v0:Value} (r0:Sls (KR .u32) 1 h v0 x0) {r:(List Int)×Int} (hm:M.r01_short x0 x1=some r) :
    Fn Tryz.prog 267 #[v0,.int .u32 x1] h fun v h'=>∃ u0 u1,v=.tuple ⟨[u0,u1]⟩∧Sls (KR .u32) 1 h' u0 r.1∧u1=.int .u32 r.2:=by
 obtain ⟨_,_,_,rfl,j⟩:=r0.op3
 refine Fn.intro (args:=[_,_]) Tryz.func267 rfl rfl (lB rfl) fun w=>?_
 unfold M.r01_short at hm
 refine SR<|oq (aS rfl)<|oq (aI rfl)<|N0<|Sq<|bE hm fun B Q hm=>Rg<|oq (mS rfl)<|oq (q_lenE (k:=x0.length) rfl (Sls.len j))<|o_mkO (R:=(KR .u32)) rfl rfl Q rfl fun ab P O I=>oq (aS rfl)<|oq (aI rfl)<|N0<|Sq<|Sq<|kS hm fun T hm=>Rg<|oq (mS rfl)<|oq (q_lenE (k:=x0.length) rfl (Sls.len j))<|oq (q_sub rfl rfl (wi64 T))<|oq (aI rfl)<|N0<|Jb ?_
 replace hm:=(show iter _ fuel _=some _ from hm)
 refine J.loopK (α:=Nat×(List Int)×Int×Int×(Option Addr)×Nat×Nat×Own) (fun ⟨l,f,b,c,m,e,d,g⟩ h' L'=>OwnL (KR .u32) 180 1 h' (.slice m e d) f g∧iter (M.r01_short_b1 x0 x1) l (f,b,c)=some r∧Sp (g++([])) L') [(0,.slice _ _ _),(1,.int _ _)] ⟨rfl,rfl,trivial⟩ (fun ⟨l,f,b,c,m,e,d,g⟩=>[(6,.slice m e d),(7,.int .u64 b),(8,.int .i64 c)]) (fun ⟨l,f,b,c,m,e,d,g⟩=>l) ⟨fuel,B,0,(x0.length:Int)-1,ab,B.length,P,O⟩ ⟨(Om I),hm,ii⟩ ⟨rfl,rfl,rfl,trivial⟩ ?_
 rintro ⟨l,f,b,c,m,e,d,g⟩ _ _ _ _ ⟨A,hm,u⟩
 refine J.sp u ?_
 obtain ⟨aa,_,rfl,hm,q⟩:=iter_some hm
 unfold M.r01_short_b1 at hm
 refine Sq<|SR<|oq (mI rfl)<|oq (q_geq rfl rfl)<|N0<|iC hm (fun o hm=>?_) fun o hm=>?_
 · refine jT rfl (dT o)<|Js<|Sq<|Jb<|Sq<|nE hm fun _ y G s K hm=>?_
   obtain ⟨_,_,rfl⟩:=Sls.op j s
   refine aE j K fun _ F D=>?_
   obtain rfl:=KR.op D
   refine kE hm fun U hm=>Rg<|oq (mI rfl)<|oq (q_mul rfl rfl (GoWrap.u64_eq _))<|oq (mS rfl)<|oq (mI rfl)<|oq (q_ian rfl rfl G (ln j s))<|oq (q_ldf rfl F)<|oq (q_cv rfl (wu64 U))<|oq (q_add rfl rfl (GoWrap.u64_eq _))<|oq (aI rfl)<|N0<|Sq<|kE hm fun V hm=>kE hm fun W hm=>nE hm fun _ _ p n L hm=>?_
   obtain ⟨z,_,rfl,rfl,t,x⟩:=OwnL.blk A n
   obtain ⟨_,H,E,_⟩:=OwnC.get x L
   obtain rfl:=KR.op E
   refine Rg<|oq (mS rfl)<|oq (mI rfl)<|oq (mI rfl)<|oq (mI rfl)<|oq (q_cv rfl (wu64 V))<|oq (q_quo rfl rfl W (GoWrap.u64_eq _))<|oq (q_cv rfl (GoWrap.u32_eq _))<|oq (q_ian rfl rfl p (by rw [t]; exact n))<|o_stO0 (us1:=[_]) (ps:=[_]) (a:=GoWrap.u32 (GoWrap.u64 (Int.tdiv (GoWrap.u64 ((GoWrap.u64 (b*4294967296))+y)) x1))) Sz.i rfl rfl rfl rfl (OwnC.mono x) ii n H rfl (lB rfl) rfl rfl (setL_eq p) fun C N=>N0<|kE hm fun X hm=>kE hm fun Y hm=>Rg<|oq (mI rfl)<|oq (mI rfl)<|oq (q_cv rfl (wu64 X))<|oq (q_rem rfl rfl Y rfl)<|oq (aI rfl)<|N0<|kS hm fun Z hm=>Rg<|oq (mI rfl)<|oq (q_sub rfl rfl (wi64 Z))<|oq (aI rfl)<|N0<|have hm:=inl_onward hm q; ?_
   exact ⟨⟨aa,(setL f c (GoWrap.u32 (GoWrap.u64 (Int.tdiv (GoWrap.u64 ((GoWrap.u64 (b*4294967296))+y)) x1)))),Int.tmod (GoWrap.u64 ((GoWrap.u64 (b*4294967296))+y)) x1,c-1,(some ⟨z,0,none⟩),e,d,[(z,row 180 C)]⟩,rfl,⟨rfl,rfl,trivial⟩,⟨rfl,rfl,rfl,trivial⟩,⟨(OwnC.own (OwnC.mono N) (setL_hn t)),hm,ii⟩,(Nat.lt_succ_self _),ii⟩
 · refine jF rfl (dF o)<|Jx<|have hm:=inr_onward hm q; SR<|oq (mS rfl)<|oq (mI rfl)<|oq (q_cv rfl (GoWrap.u32_eq _))<|oq (aS rfl)<|oq (aI rfl)<|N0<|J.fzO (R:=(KR .u32)) (Om A) fun _ _ S=>Jr ?_
   cases hm
   exact ret_ok (fn:=Tryz.f267) rfl (.tmp rfl (.tmp rfl .nil)) ⟨_,_,rfl,(Sm S),rfl⟩
theorem r01_estimate_fn {h:Heap} {x0:List Int} {x1:List Int} {v0:Value} {v1:Value} (r0:Sls (KR .u32) 1 h v0 x0) (r1:Sls (KR .u32) 1 h v1 x1) {r:Int} (hm:M.r01_estimate x0 x1=some r) :
    Fn Tryz.prog 268 #[v0,v1] h fun v h'=>IntAt h' v r:=by
 obtain ⟨_,_,_,rfl,a⟩:=r0.op3
 obtain ⟨_,_,_,rfl,b⟩:=r1.op3
 refine Fn.intro (args:=[_,_]) Tryz.func268 rfl rfl (lB rfl) fun w=>?_
 unfold M.r01_estimate at hm
 refine SR<|o_al fun _=>N0<|Sq<|kS hm fun T hm=>kS hm fun U hm=>nE hm fun _ j E e L hm=>?_
 obtain ⟨_,_,rfl⟩:=Sls.op b e
 refine aE b L fun _ A u=>?_
 obtain rfl:=KR.op u
 refine kE hm fun V hm=>J.drawB [] []<|Dc 0 rfl (mS rfl)<|Dc 1 rfl (q_lenE (k:=x0.length) rfl (Sls.len a))<|Dc 2 rfl (mS rfl)<|Dc 3 rfl (q_lenE (k:=x1.length) rfl (Sls.len b))<|Dc 4 rfl (q_sub rfl rfl (wi64 T))<|Dc 5 rfl (mS rfl)<|Dc 6 rfl (q_lenE (k:=x0.length) rfl (Sls.len a))<|Dc 7 rfl (mS rfl)<|Dc 8 rfl (mS rfl)<|Dc 9 rfl (q_lenE (k:=x1.length) rfl (Sls.len b))<|Dc 10 rfl (q_sub rfl rfl (wi64 U))<|Dc 11 rfl (q_ian rfl rfl E (ln b e))<|Dl 12 rfl (q_ldf rfl A)<|Dc 13 rfl (q_cv rfl (wu64 V))<|Dc 14 rfl (q_add rfl rfl (GoWrap.u64_eq _))<|Dc 15 rfl (aI rfl)<|Dc 16 rfl (aI rfl)<|Dc 17 rfl (aI rfl)<|Dd<|Sq<|SR<|oq (mI rfl)<|oq (q_eql rfl rfl)<|N0 ?_
 by_cases d:((x0.length:Int)-(x1.length:Int))=0
 focus
  replace hm:=ite_T d hm
  refine jT rfl (dT d)<|Sq<|kS hm fun W hm=>nE hm fun _ _ F f N hm=>?_
  obtain ⟨_,_,rfl⟩:=Sls.op a f
  refine aE a N fun _ B x=>?_
  obtain rfl:=KR.op x
  refine kE hm fun X hm=>kE hm fun Y hm=>kS hm fun Z hm=>bE hm fun _ Q hm=>Rg<|oq (mS rfl)<|oq (mI rfl)<|oq (q_sub rfl rfl (wi64 W))<|oq (q_ian rfl rfl F (ln a f))<|oq (q_ldf rfl B)<|oq (q_cv rfl (wu64 X))<|oq (mI rfl)<|oq (q_quo rfl rfl Y (GoWrap.u64_eq _))<|oq (q_max rfl rfl)<|oq (q_cv rfl (wi64 Z))<|oc (rof_fn Q) fun _ _ _ i=>?_
 rotate_left
 focus
  replace hm:=ite_F d hm
  refine jF rfl (dF d)<|Js<|Sq<|kS hm fun aa hm=>nE hm fun _ l G g O hm=>?_
  obtain ⟨_,_,rfl⟩:=Sls.op a g
  refine aE a O fun _ C y=>?_
  obtain rfl:=KR.op y
  refine kE hm fun ab hm=>kS hm fun ac hm=>nE hm fun _ m H I P hm=>aE a P fun _ D z=>?_
  obtain rfl:=KR.op z
  refine kE hm fun ad hm=>kE hm fun ae hm=>J.drawB [] []<|Dc 0 rfl (mS rfl)<|Dc 1 rfl (mI rfl)<|Dc 2 rfl (q_sub rfl rfl (wi64 aa))<|Dc 3 rfl (q_ian rfl rfl G (ln a g))<|Dl 4 rfl (q_ldf rfl C)<|Dc 5 rfl (q_cv rfl (wu64 ab))<|Dc 6 rfl (q_mul rfl rfl (GoWrap.u64_eq _))<|Dc 7 rfl (mS rfl)<|Dc 8 rfl (mI rfl)<|Dc 9 rfl (q_sub rfl rfl (wi64 ac))<|Dc 10 rfl (q_ian rfl rfl H (ln a I))<|Dl 11 rfl (q_ldf rfl D)<|Dc 12 rfl (q_cv rfl (wu64 ad))<|Dc 13 rfl (q_add rfl rfl (GoWrap.u64_eq _))<|Dc 14 rfl (mI rfl)<|Dc 15 rfl (q_quo rfl rfl ae (GoWrap.u64_eq _))<|Dc 16 rfl (aI rfl)<|Dd<|Sq<|kS hm fun af hm=>bE hm fun _ S hm=>Rg<|oq (mI rfl)<|oq (q_sub rfl rfl (wi64 af))<|o_mkO (R:=(KR .u32)) rfl rfl S rfl fun _ _ _ K=>oq (aS rfl)<|N0<|Sq<|bE hm fun _ p hm=>bE hm fun _ q hm=>Rg<|oq (mS rfl)<|oq (mI rfl)<|oq (q_cv rfl (GoWrap.u32_eq _))<|oq (mI rfl)<|oq (q_shr (c:=Int.fdiv (GoWrap.u64 (Int.tdiv (GoWrap.u64 ((GoWrap.u64 (l*4294967296))+m)) (GoWrap.u64 (j+1)))) 4294967296) rfl rfl (by decide) rfl)<|oq (q_cv rfl (GoWrap.u32_eq _)) ?_
  refine o_bs [.int _ _,.int _ _] (by decide) rfl fun _=>LT (KR .u32) 1 2 [GoWrap.u32 (GoWrap.u64 (Int.tdiv (GoWrap.u64 ((GoWrap.u64 (l*4294967296))+m)) (GoWrap.u64 (j+1)))),GoWrap.u32 (Int.fdiv (GoWrap.u64 (Int.tdiv (GoWrap.u64 ((GoWrap.u64 (l*4294967296))+m)) (GoWrap.u64 (j+1)))) 4294967296)] (c1 rfl (c1 rfl c0)) fun n _=>o_appB (R:=(KR .u32)) rfl rfl (Om K) ii n p fun _ _ _ o=>JL.fzO (R:=(KR .u32)) (Om o) fun _ _ s=>oc (lmade_fn (Sm s) q) fun _ _ _ i=>?_
 rotate_left
 all_goals
  obtain ⟨_,_,_,_,rfl,t⟩:=i.op
  refine Sc [.bool _,.slice _ _ _] [.bool _,.slice _ _ _] rfl rfl rfl rfl rfl ia rfl rfl<|N0<|Jr ?_
  cases hm
  exact ret_ok (fn:=Tryz.f268) rfl (.agg rfl ii ii .nil) (iu t)
theorem r01_divide_fn {h:Heap} {x0:List Int} {x1:List Int} {v0:Value} {v1:Value} (r0:Sls (KR .u32) 1 h v0 x0) (r1:Sls (KR .u32) 1 h v1 x1) {r:Int×Int} (hm:M.r01_divide x0 x1=some r) :
    Fn Tryz.prog 257 #[v0,v1] h fun v h'=>∃ u0 u1,v=.tuple ⟨[u0,u1]⟩∧IntAt h' u0 r.1∧IntAt h' u1 r.2:=by
 obtain ⟨_,_,_,rfl,aH⟩:=r0.op3
 obtain ⟨_,_,_,rfl,c⟩:=r1.op3
 refine Fn.intro (args:=[_,_]) Tryz.func257 rfl rfl (lB rfl) fun w=>?_
 unfold M.r01_divide at hm
 refine SR<|o_al fun aF=>o_al fun aG=>N0<|Sq<|SR<|oq (mS rfl)<|oq (q_lenE (k:=x1.length) rfl (Sls.len c))<|oq (q_eql rfl rfl)<|N0<|iC hm (fun ae hm=>?_) fun ae hm=>?_
 · refine jT rfl (dT ae)<|Sq<|nE hm fun _ _ bv am bz hm=>?_
   obtain ⟨_,_,rfl⟩:=Sls.op c am
   refine aE c bz fun _ bu bt=>?_
   obtain rfl:=KR.op bt
   refine bE hm fun cu cg hm=>Rg<|oq (mS rfl)<|oq (mS rfl)<|oq (q_ian rfl rfl bv (ln c am))<|oq (q_ldf rfl bu)<|oc (r01_short_fn (Sm aH) cg) fun _ _ _ cp=>?_
   obtain ⟨_,_,rfl,cq,cr⟩:=cp
   obtain ⟨_,_,_,rfl,cj⟩:=cq.op3
   cases cr
   refine oq q_mv<|oq (q_ex rfl rfl)<|oq (q_ex rfl rfl)<|oq (aS rfl)<|oq (aI rfl)<|N0<|Sq<|bE hm fun _ ch hm=>bE hm fun _ ci hm=>Rg<|oq (mS rfl)<|oc (lmade_fn (Sm cj) ch) fun _ _ _ cs=>?_
   obtain ⟨_,_,_,_,rfl,ck⟩:=cs.op
   refine oq (mI rfl)<|o_bs [.int _ _] (by decide) rfl fun _=>LT (KR .u32) 1 1 [cu.2] (c1 rfl c0) fun _ bx=>JL.fzO (R:=(KR .u32)) (Om bx) fun _ _ cl=>oc (lmade_fn (Sm cl) ci) fun _ _ _ ct=>?_
   obtain ⟨_,_,_,_,rfl,cm⟩:=ct.op
   refine Sc [.bool _,.slice _ _ _] [.bool _,.slice _ _ _] rfl rfl rfl rfl rfl ia rfl rfl<|Sc [.bool _,.slice _ _ _] [.bool _,.slice _ _ _] rfl rfl rfl rfl rfl ia rfl rfl<|N0<|Jr ?_
   cases hm
   exact ret_ok (fn:=Tryz.f257) rfl (.agg rfl ii ii (.agg rfl ii ii .nil)) ⟨_,_,rfl,(iu ck),(iu cm)⟩
 · refine jF rfl (dF ae)<|Js<|SR<|oq (aI rfl)<|N0<|Sq<|Jb ?_
   replace hm:=(show iter _ fuel _=some _ from hm)
   refine J.loopK (α:=Nat×Int) (fun ⟨O,l⟩ h' L'=>iter (M.r01_divide_b2 x0 x1) O l=some r∧Sp ([(aF,row 75 [.bool false,.slice none 0 0]),(aG,row 75 [.bool false,.slice none 0 0])]) L') [(0,.slice _ _ _),(1,.slice _ _ _),(4,.pointer _),(5,.pointer _)] ⟨rfl,rfl,rfl,rfl,trivial⟩ (fun ⟨O,l⟩=>[(8,.int .u32 l)]) (fun ⟨O,l⟩=>O) ⟨fuel,1⟩ ⟨hm,ii⟩ ⟨rfl,trivial⟩ ?_
   rintro ⟨O,l⟩ _ _ _ _ ⟨hm,ao⟩
   refine J.sp ao ?_
   obtain ⟨co,_,rfl,hm,al⟩:=iter_some hm
   unfold M.r01_divide_b2 at hm
   refine Sq<|Sq<|kS hm fun cn hm=>nE hm fun _ _ bw an bA hm=>?_
   obtain ⟨_,_,rfl⟩:=Sls.op c an
   refine aE c bA fun _ aC ap=>?_
   obtain rfl:=KR.op ap
   refine kE hm fun bB hm=>kE hm fun bC hm=>Rg<|oq (mS rfl)<|oq (mS rfl)<|oq (q_lenE (k:=x1.length) rfl (Sls.len c))<|oq (q_sub rfl rfl (wi64 cn))<|oq (q_ian rfl rfl bw (ln c an))<|oq (q_ldf rfl aC)<|oq (q_cv rfl (wu64 bB))<|oq (mI rfl)<|oq (q_cv rfl (wu64 bC))<|oq (q_mul rfl rfl (GoWrap.u64_eq _))<|oq (q_lss rfl rfl)<|N0<|iC hm (fun P hm=>?_) fun P hm=>?_
   · refine jT rfl (dT P)<|Js<|Jb<|Rg<|oq (mI rfl)<|oq (q_mul rfl rfl (GoWrap.u32_eq _))<|oq (aI rfl)<|N0<|have hm:=inl_onward hm al; ?_
     exact ⟨⟨co,GoWrap.u32 (2*l)⟩,rfl,⟨rfl,rfl,rfl,rfl,trivial⟩,⟨rfl,trivial⟩,⟨hm,ii⟩,(Nat.lt_succ_self _),ii⟩
   · refine jF rfl (dF P)<|Jx<|have hm:=inr_onward hm al; Sq<|bE hm fun _ aZ hm=>Rg<|oq (mI rfl)<|o_bs [.int _ _] (by decide) rfl fun _=>LT (KR .u32) 1 1 [l] (c1 rfl c0) fun _ aD=>JL.fzO (R:=(KR .u32)) (Om aD) fun _ _ bb=>oc (lmade_fn (Sm bb) aZ) fun _ _ _ bW=>?_
     obtain ⟨_,_,_,_,rfl,af⟩:=bW.op
     refine o_al fun aT=>Sc [.bool _,.slice _ _ _] [.bool _,.slice _ _ _] rfl rfl rfl rfl rfl ia rfl rfl<|N0<|Sq<|bE hm fun X a0 hm=>bE hm fun Y a1 hm=>bE hm fun Z a2 hm=>bE hm fun aa a3 hm=>J.drawB [aT] []<|Dc 0 rfl (mS rfl)<|Dl 2 rfl (q_lda (vs:=[_,_]) rfl ii ⟨rfl,rfl,trivial⟩)<|Dc 4 rfl (mS rfl)<|Dl 6 rfl (q_lda (vs:=[_,_]) rfl ii ⟨rfl,rfl,trivial⟩)<|Dc 8 rfl (q_bd [.bool _,.slice _ _ _] rfl) ?_
     refine JD.fresh (fuel:=3) [{ i:=1,d:=49,dep:=[],R:=fun h v Li=>(IntAt h v X)∧Li=[] },
         { i:=3,d:=51,dep:=[(1,49)],R:=fun h v Li=>(IntAt h v Y)∧Li=[] },
         { i:=5,d:=53,dep:=[],R:=fun h v Li=>(IntAt h v Z)∧Li=[] },
         { i:=7,d:=55,dep:=[(5,53)],R:=fun h v Li=>(IntAt h v aa)∧Li=[] },
         { i:=9,d:=10,dep:=[],R:=fun h v Li=>∃ b,v=.pointer (some ⟨b,0,none⟩)∧Li=[(b,row 75 [.bool false,.slice none 0 0])] },
         { i:=10,d:=11,dep:=[],R:=fun h v Li=>∃ b,v=.pointer (some ⟨b,0,none⟩)∧Li=[(b,row 75 [.bool false,.slice none 0 0])] },
         { i:=11,d:=12,dep:=[],R:=fun h v Li=>∃ b,v=.pointer (some ⟨b,0,none⟩)∧Li=[(b,row 75 [.bool false,.slice none 0 0])] }] ⟨fun _ _ _ _ e ⟨q,y⟩=>⟨IntAt.mono (e:=e) q,y⟩,fun _ _ _ _ e ⟨q,y⟩=>⟨IntAt.mono (e:=e) q,y⟩,fun _ _ _ _ e ⟨q,y⟩=>⟨IntAt.mono (e:=e) q,y⟩,fun _ _ _ _ e ⟨q,y⟩=>⟨IntAt.mono (e:=e) q,y⟩,fun _ _ _ _ _ q=>q,fun _ _ _ _ _ q=>q,fun _ _ _ _ _ q=>q,trivial⟩ [(0,.slice _ _ _),(1,.slice _ _ _),(4,.pointer _),(5,.pointer _),(8,.int _ _),(9,.pointer _),(48,.slice _ _ _),(50,.agg ⟨[.bool _,.slice _ _ _]⟩),(52,.slice _ _ _),(54,.agg ⟨[.bool _,.slice _ _ _]⟩),(56,.agg ⟨[.bool _,.slice _ _ _]⟩)] ⟨rfl,rfl,rfl,rfl,rfl,rfl,rfl,rfl,rfl,rfl,rfl,trivial⟩ (dn_of (by kernel_rfl)).1 (dn_of (by kernel_rfl)).2 (by kernel_rfl) ⟨⟨_,rfl,?_⟩,⟨_,rfl,?_⟩,⟨_,rfl,?_⟩,⟨_,rfl,?_⟩,⟨_,rfl,?_⟩,⟨_,rfl,?_⟩,⟨_,rfl,?_⟩,trivial⟩ ?_
     · intro cC cR cv cW
       intro cK bD
       refine oc (lmade_fn (Sm aH) a0) fun G bn b6 E=>?_
       exact bD G bn [] b6 ⟨E,rfl⟩
     · intro cD br cw cX
       intro G aJ aq
       obtain ⟨E,rfl⟩:=(show (IntAt br G X)∧aJ=[] from aq)
       obtain ⟨_,_,_,_,rfl,ag⟩:=E.op
       intro cL bG
       refine oc (rmul_fn (iu ag) (iu af) a1) fun V bo b7 T=>?_
       exact bG V bo [] b7 ⟨T,rfl⟩
     · intro cE cS cx cY
       intro cM bH
       refine oc (lmade_fn (Sm c) a2) fun H bp b8 F=>?_
       exact bH H bp [] b8 ⟨F,rfl⟩
     · intro cF bs cy cZ
       intro H aK ar
       obtain ⟨F,rfl⟩:=(show (IntAt bs H Z)∧aK=[] from ar)
       obtain ⟨_,_,_,_,rfl,ah⟩:=F.op
       intro cN bI
       refine oc (rmul_fn (iu ah) (iu af) a3) fun W bq b9 U=>?_
       exact bI W bq [] b9 ⟨U,rfl⟩
     · intro cG cT cz c4
       intro cO bJ
       refine o_al fun m=>?_
       exact bJ _ _ [(m,_)] (Ext.refl _).toStep ⟨m,rfl,rfl⟩
     · intro cH cU cA c5
       intro cP bK
       refine o_al fun n=>?_
       exact bK _ _ [(n,_)] (Ext.refl _).toStep ⟨n,rfl,rfl⟩
     · intro cI cV cB c6
       intro cQ bL
       refine o_al fun o=>?_
       exact bL _ _ [(o,_)] (Ext.refl _).toStep ⟨o,rfl,rfl⟩
     intro cJ L c7
     intro G aL au
     obtain ⟨E,rfl⟩:=(show (IntAt L G X)∧aL=[] from au)
     obtain ⟨_,_,_,_,rfl,ag⟩:=E.op
     intro V aM av
     obtain ⟨T,rfl⟩:=(show (IntAt L V Y)∧aM=[] from av)
     obtain ⟨bj,bR,bN,aV,rfl,bc⟩:=T.op
     intro H aN aw
     obtain ⟨F,rfl⟩:=(show (IntAt L H Z)∧aN=[] from aw)
     obtain ⟨_,_,_,_,rfl,ah⟩:=F.op
     intro W aO ax
     obtain ⟨U,rfl⟩:=(show (IntAt L W aa)∧aO=[] from ax)
     obtain ⟨bk,bS,bO,aW,rfl,bd⟩:=U.op
     intro ca aP ay
     obtain ⟨m,rfl,rfl⟩:=(show ∃ b,ca=.pointer (some ⟨b,0,none⟩)∧aP=[(b,row 75 [.bool false,.slice none 0 0])] from ay)
     intro cb aQ az
     obtain ⟨n,rfl,rfl⟩:=(show ∃ b,cb=.pointer (some ⟨b,0,none⟩)∧aQ=[(b,row 75 [.bool false,.slice none 0 0])] from az)
     intro cd aR aA
     obtain ⟨o,rfl,rfl⟩:=(show ∃ b,cd=.pointer (some ⟨b,0,none⟩)∧aR=[(b,row 75 [.bool false,.slice none 0 0])] from aA)
     refine Do 12<|Xe rfl rfl<|Sc [.bool _,.slice _ _ _] [.bool _,.slice _ _ _] rfl rfl rfl rfl rfl ia rfl rfl<|NE<|Do 13<|Xe rfl rfl<|Sc [.bool _,.slice _ _ _] [.bool _,.slice _ _ _] rfl rfl rfl rfl rfl ia rfl rfl<|NE<|Do 14<|Xe rfl rfl<|Sc [.bool _,.slice _ _ _] [.bool _,.slice _ _ _] rfl rfl rfl rfl rfl ia rfl rfl<|NE<|Dd<|Sq<|Jb ?_
     replace hm:=(show iter _ fuel _=some _ from hm)
     refine J.loopK (α:=Nat×Int×Int×Int×Bool×(Option Addr)×Nat×Nat×Bool×(Option Addr)×Nat×Nat×Bool×(Option Addr)×Nat×Nat) (fun ⟨z,I,a,K,t,C,A,p,u,j,g,f,x,D,B,s⟩ h' L'=>IntR h' [.bool t,.slice C A p] I∧IntR h' [.bool u,.slice j g f] a∧IntR h' [.bool x,.slice D B s] K∧iter (M.r01_divide_b1 l) z (I,a,K)=some r∧Sp ([(aF,row 75 [.bool false,.slice none 0 0]),(aG,row 75 [.bool false,.slice none 0 0]),(m,row 75 [.bool t,.slice C A p]),(n,row 75 [.bool u,.slice j g f]),(o,row 75 [.bool x,.slice D B s])]) L') [(4,.pointer _),(5,.pointer _),(8,.int _ _),(10,.pointer _),(11,.pointer _),(12,.pointer _)] ⟨rfl,rfl,rfl,rfl,rfl,rfl,trivial⟩ (fun ⟨z,I,a,K,t,C,A,p,u,j,g,f,x,D,B,s⟩=>[]) (fun ⟨z,I,a,K,t,C,A,p,u,j,g,f,x,D,B,s⟩=>z) ⟨fuel,Y,aa,0,bj,bR,bN,aV,bk,bS,bO,aW,false,none,0,0⟩ ⟨(Mo.up bc),(Mo.up bd),(IntR.zero0 _),hm,ii⟩ trivial ?_
     rintro ⟨z,I,a,K,t,C,A,p,u,j,g,f,x,D,B,s⟩ _ _ _ _ ⟨ai,S,aj,hm,ad⟩
     refine J.sp ad ?_
     obtain ⟨bM,_,rfl,hm,ab⟩:=iter_some hm
     unfold M.r01_divide_b1 at hm
     refine Sq<|Sq ?_
     obtain ⟨rfl,N⟩:=IntR.parts ai
     obtain ⟨rfl,ac⟩:=IntR.parts S
     refine bE hm fun _ a4 hm=>Rg<|oq (q_fa rfl)<|oq (q_ld rfl ia rfl)<|oq (q_fa rfl)<|oq (q_ld rfl ia rfl)<|oc (lless_fn (Sm N) (Sm ac) a4) fun _ _ _ bX=>?_
     cases bX
     refine oq (q_not rfl)<|N0<|iC hm (fun Q hm=>?_) fun Q hm=>?_
     · refine jF rfl (bT (Q))<|Jx<|have hm:=inr_onward hm ab; Sq<|bE hm fun _ a5 hm=>Rg<|oq (q_fa rfl)<|oq (q_ld rfl ia rfl)<|oq (mI rfl)<|oc (r01_short_fn (Sm N) a5) fun _ _ _ bY=>?_
       obtain ⟨_,_,rfl,bZ,b0⟩:=bY
       obtain ⟨_,_,_,rfl,be⟩:=bZ.op3
       cases b0
       refine oq q_mv<|oq (q_ex rfl rfl)<|oq (q_ex rfl rfl)<|oq (aS rfl)<|oq (aI rfl)<|N0<|Sq<|bE hm fun _ a6 hm=>J.drawB [o] []<|Dl 0 rfl (q_lda (vs:=[_,_]) rfl ii ⟨rfl,rfl,trivial⟩)<|Dc 1 rfl (mS rfl)<|Do 2<|Xe rfl rfl<|oc (lmade_fn (Sm be) a6) fun _ _ _ b1=>?_
       obtain ⟨_,_,_,_,rfl,bf⟩:=b1.op
       refine NE<|Do 3<|Xe rfl rfl<|Sc [.bool _,.slice _ _ _] [.bool _,.slice _ _ _] rfl rfl rfl rfl rfl ia rfl rfl<|NE<|Do 4<|Xe rfl rfl<|Sc [.bool _,.slice _ _ _] [.bool _,.slice _ _ _] rfl rfl rfl rfl rfl ia rfl rfl<|NE<|Dd<|Jr ?_
       cases hm
       exact ret_ok (fn:=Tryz.f257) rfl (.agg rfl ii ii (.agg rfl ii ii .nil)) ⟨_,_,rfl,(iu aj),(iu bf)⟩
     · refine jT rfl (bF ((nT Q)))<|Js<|Jb<|Sq<|bE hm fun _ a7 hm=>Rg<|oq (q_fa rfl)<|oq (q_ld rfl ia rfl)<|oq (q_fa rfl)<|oq (q_ld rfl ia rfl)<|oc (r01_estimate_fn (Sm N) (Sm ac) a7) fun _ _ _ b2=>?_
       obtain ⟨_,_,_,_,rfl,ak⟩:=b2.op
       refine o_al fun aU=>Sc [.bool _,.slice _ _ _] [.bool _,.slice _ _ _] rfl rfl rfl rfl rfl ia rfl rfl<|N0<|Sq<|bE hm fun ce a8 hm=>Rg<|oq (q_lda (vs:=[_,_]) rfl ii ⟨rfl,rfl,trivial⟩)<|oq (q_lda (vs:=[_,_]) rfl ii ⟨rfl,rfl,trivial⟩)<|oc (radd_fn (iu aj) (iu ak) a8) fun _ _ _ b3=>?_
       obtain ⟨bl,bU,bP,aX,rfl,bg⟩:=b3.op
       refine Sc [.bool _,.slice _ _ _] [.bool _,.slice _ _ _] rfl rfl rfl rfl rfl ia rfl rfl<|N0<|bE hm fun _ a9 hm=>bE hm fun cf ba hm=>J.drawB [m,aU,n] [5]<|Dl 0 rfl (q_lda (vs:=[_,_]) rfl ii ⟨rfl,rfl,trivial⟩)<|Dl 1 rfl (q_lda (vs:=[_,_]) rfl ii ⟨rfl,rfl,trivial⟩)<|Dl 2 rfl (q_lda (vs:=[_,_]) rfl ii ⟨rfl,rfl,trivial⟩)<|Do 3<|Xe rfl rfl<|oc (rmul_fn (iu ak) (iu S) a9) fun _ _ _ b4=>?_
       obtain ⟨_,_,_,_,rfl,bh⟩:=b4.op
       refine NE<|Do 4<|Xe rfl rfl<|oc (r01_Sub_fn (iu ai) (iu bh) ba) fun _ _ _ b5=>?_
       obtain ⟨bm,bV,bQ,aY,rfl,bi⟩:=b5.op
       refine NE<|Do 5<|Xm rfl rfl<|Sc [.bool _,.slice _ _ _] [.bool _,.slice _ _ _] rfl rfl rfl rfl rfl ia rfl rfl<|NF<|Dd<|have hm:=inl_onward hm ab; ?_
       exact ⟨⟨bM,cf,a,ce,bm,bV,bQ,aY,decide (a<0),j,g,f,bl,bU,bP,aX⟩,rfl,⟨rfl,rfl,rfl,rfl,rfl,rfl,trivial⟩,trivial,⟨(Mo.up bi),(Mo.up S),(Mo.up bg),hm,ii⟩,(Nat.lt_succ_self _),ii⟩
theorem r01_DivMod_fn {h:Heap} {x0:Int} {x1:Int} {v0:Value} {v1:Value} (r0:IntAt h v0 x0) (r1:IntAt h v1 x1) {r:Int×Int×Int} (hm:M.r01_DivMod x0 x1=some r) :
    Fn Tryz.prog 241 #[v0,v1] h fun v h'=>∃ u0 u1 u2,v=.tuple ⟨[u0,u1,u2]⟩∧IntAt h' u0 r.1∧IntAt h' u1 r.2.1∧u2=.int .i64 r.2.2:=by
 obtain ⟨_,_,_,_,rfl,aQ⟩:=r0.op
 obtain ⟨_,_,_,_,rfl,aR⟩:=r1.op
 refine Fn.intro (args:=[_,_]) Tryz.func241 rfl rfl (lB rfl) fun w=>?_
 unfold M.r01_DivMod at hm
 refine SR<|o_bx (v:=.agg ⟨[.bool _,.slice _ _ _]⟩) rfl rfl fun G=>o_bx (v:=.agg ⟨[.bool _,.slice _ _ _]⟩) rfl rfl fun t=>o_al fun O=>o_al fun P=>oq (aI rfl)<|N0<|Sq ?_
 obtain ⟨rfl,c⟩:=IntR.parts aQ
 refine bE hm fun g o hm=>?_
 obtain ⟨rfl,av⟩:=IntR.parts aR
 refine bE hm fun i aN hm=>J.drawB [G,t] [10,11]<|Dc 0 rfl (q_fa rfl)<|Dl 1 rfl (q_ld rfl ii rfl)<|Dc 2 rfl (q_fa rfl)<|Dl 3 rfl (q_ld rfl ii rfl)<|Dc 5 rfl (q_fa rfl)<|Dc 7 rfl (q_fa rfl) ?_
 refine Da [4,6,8] ⟨?_,?_,?_,trivial⟩
 focus
  refine Xe rfl rfl<|oc (lmade_fn (Sm c) o) fun _ _ _ b=>?_
  obtain ⟨_,f,e,d,rfl,p⟩:=b.op
  refine NE ?_
  refine Da [6,8] ⟨?_,?_,trivial⟩
  focus
   refine Xe rfl rfl<|oq (q_ld rfl ia rfl)<|NE<|Do 8 ?_
  rotate_left
  focus
   refine Xe rfl rfl<|oq (q_ld rfl ia rfl)<|NE<|Do 6 ?_
  rotate_left
  all_goals
   refine Xe rfl rfl<|oq (q_ld rfl ia rfl) ?_
 rotate_left 2
 focus
  refine Xe rfl rfl<|oq (q_ld rfl ia rfl)<|NE ?_
  refine Da [4,8] ⟨?_,?_,trivial⟩
  focus
   refine Xe rfl rfl<|oc (lmade_fn (Sm c) o) fun _ _ _ b=>?_
   obtain ⟨_,f,e,d,rfl,p⟩:=b.op
   refine NE<|Do 8<|Xe rfl rfl<|oq (q_ld rfl ia rfl) ?_
  rotate_left
  focus
   refine Xe rfl rfl<|oq (q_ld rfl ia rfl)<|NE<|Do 4<|Xe rfl rfl<|oc (lmade_fn (Sm c) o) fun _ _ _ b=>?_
   obtain ⟨_,f,e,d,rfl,p⟩:=b.op
  rotate_left
 rotate_left 2
 focus
  refine Xe rfl rfl<|oq (q_ld rfl ia rfl)<|NE ?_
  refine Da [4,6] ⟨?_,?_,trivial⟩
  focus
   refine Xe rfl rfl<|oc (lmade_fn (Sm c) o) fun _ _ _ b=>?_
   obtain ⟨_,f,e,d,rfl,p⟩:=b.op
   refine NE<|Do 6<|Xe rfl rfl<|oq (q_ld rfl ia rfl) ?_
  rotate_left
  focus
   refine Xe rfl rfl<|oq (q_ld rfl ia rfl)<|NE<|Do 4<|Xe rfl rfl<|oc (lmade_fn (Sm c) o) fun _ _ _ b=>?_
   obtain ⟨_,f,e,d,rfl,p⟩:=b.op
  rotate_left
 rotate_left 2
 all_goals
  refine NE<|Do 9<|Xe rfl rfl<|oc (lmade_fn (Sm av) aN) fun _ _ _ aT=>?_
  obtain ⟨_,ab,Y,Q,rfl,T⟩:=aT.op
  refine NE<|Do 10<|Xm rfl rfl<|Sc [.bool _,.slice _ _ _] [.bool _,.slice _ _ _] rfl rfl rfl rfl rfl ia rfl rfl<|NF<|Do 11<|Xf rfl<|Sc [.bool _,.slice _ _ _] [.bool _,.slice _ _ _] rfl rfl rfl rfl rfl ia rfl rfl<|NF<|Dd<|Sq<|Sq<|bE hm fun _ aO hm=>Rg<|oq (q_lda (vs:=[_,_]) rfl ii ⟨rfl,rfl,trivial⟩)<|oc (rsign_fn (iu T) aO) fun _ _ _ aU=>?_
  cases aU
  refine oq (q_eql rfl rfl)<|N0<|iC hm (fun H hm=>?_) fun H hm=>?_
  · refine jT rfl (dT H)<|SR<|oq (q_bd [.bool _,.slice _ _ _] rfl) ?_
    refine oq (q_bd [.bool _,.slice _ _ _] rfl) ?_
    refine Sc [.bool _,.slice _ _ _] [.bool _,.slice _ _ _] rfl rfl rfl rfl rfl ia rfl rfl<|Sc [.bool _,.slice _ _ _] [.bool _,.slice _ _ _] rfl rfl rfl rfl rfl ia rfl rfl<|oq (aI rfl)<|N0<|Jr ?_
    cases hm
    exact ret_ok (fn:=Tryz.f241) rfl (.agg rfl ii ii (.agg rfl ii ii (.tmp rfl .nil))) ⟨_,_,_,rfl,(IntR.at (IntR.zero0 _)),(IntR.at (IntR.zero0 _)),rfl⟩
  · refine jF rfl (dF H)<|Js<|Sq ?_
    obtain ⟨rfl,aw⟩:=IntR.parts p
    obtain ⟨rfl,L⟩:=IntR.parts T
    refine bE hm fun N aP hm=>Rg<|oq (q_fa rfl)<|oq (q_ld rfl ia rfl)<|oq (q_fa rfl)<|oq (q_ld rfl ia rfl)<|oc (r01_divide_fn (Sm aw) (Sm L) aP) fun _ _ _ aV=>?_
    obtain ⟨_,_,rfl,aW,aX⟩:=aV
    obtain ⟨W,ac,Z,R,rfl,U⟩:=aW.op
    obtain ⟨X,ad,aa,S,rfl,K⟩:=aX.op
    refine oq q_mv<|oq (q_ex rfl rfl)<|oq (q_ex rfl rfl)<|o_al fun m=>o_al fun n=>Sc [.bool _,.slice _ _ _] [.bool _,.slice _ _ _] rfl rfl rfl rfl rfl ia rfl rfl<|Sc [.bool _,.slice _ _ _] [.bool _,.slice _ _ _] rfl rfl rfl rfl rfl ia rfl rfl<|N0<|Sq ?_
    refine J.joinK (α:=Int×Int×Bool×(Option Addr)×Nat×Nat×Bool×(Option Addr)×Nat×Nat) (fun ⟨C,D,x,A,z,u,y,B,k,j⟩ h' L'=>IntR h' [.bool x,.slice A z u] C∧IntR h' [.bool y,.slice B k j] D∧(M.r01_DivMod_j1 g i) C D=some r∧Sp ([(G,row 75 [.bool (decide (g<0)),.slice f e d]),(t,row 75 [.bool (decide (i<0)),.slice ab Y Q]),(O,row 75 [.bool false,.slice none 0 0]),(P,row 75 [.bool false,.slice none 0 0]),(m,row 75 [.bool x,.slice A z u]),(n,row 75 [.bool y,.slice B k j])]) L') [(2,.pointer _),(3,.pointer _),(4,.pointer _),(5,.pointer _),(7,.pointer _),(8,.pointer _)] ⟨rfl,rfl,rfl,rfl,rfl,rfl,trivial⟩ (fun ⟨C,D,x,A,z,u,y,B,k,j⟩=>[]) ?_ ?_
    · refine Sq ?_
      refine J.joinK (α:=Bool) (fun l h' L'=>(M.r01_DivMod_j2 g i N) l=some r∧Sp ([(G,row 75 [.bool (decide (g<0)),.slice f e d]),(t,row 75 [.bool (decide (i<0)),.slice ab Y Q]),(O,row 75 [.bool false,.slice none 0 0]),(P,row 75 [.bool false,.slice none 0 0]),(m,row 75 [.bool W,.slice ac Z R]),(n,row 75 [.bool X,.slice ad aa S])]) L') [(2,.pointer _),(3,.pointer _),(4,.pointer _),(5,.pointer _),(7,.pointer _),(8,.pointer _)] ⟨rfl,rfl,rfl,rfl,rfl,rfl,trivial⟩ (fun l=>[(38,.bool l)]) ?_ ?_
      · refine iC hm (fun a hm=>?_) fun a hm=>?_
        · refine bE hm fun aM al hm=>Rg<|oq (q_fa rfl)<|oq (q_ld rfl ia rfl)<|oq (mB rfl)<|gT rfl rfl (dT a)<|oq (q_lda (vs:=[_,_]) rfl ii ⟨rfl,rfl,trivial⟩)<|gT rfl rfl (dT a)<|oc (rsign_fn (iu K) al) fun _ _ _ aJ=>?_
          cases aJ
          refine gT rfl rfl (dT a)<|oq (q_gtr rfl rfl)<|oq (pkT rfl (dT a) rfl)<|N0 ?_
          exact ⟨(decide (0<aM)),rfl,⟨rfl,rfl,rfl,rfl,rfl,rfl,trivial⟩,⟨rfl,trivial⟩,⟨hm,ii⟩,ii⟩
        · refine Rg<|oq (q_fa rfl)<|oq (q_ld rfl ia rfl)<|oq (mB rfl)<|gF rfl rfl (dF a)<|gF rfl rfl (dF a)<|gF rfl rfl (dF a)<|oq (pkF rfl (dF a) rfl)<|N0 ?_
          exact ⟨false,rfl,⟨rfl,rfl,rfl,rfl,rfl,rfl,trivial⟩,⟨rfl,trivial⟩,⟨hm,ii⟩,ii⟩
      · rintro l _ _ _ _ ⟨hm,F⟩
        refine J.sp F ?_
        unfold M.r01_DivMod_j2 at hm
        refine iC hm (fun s hm=>?_) fun s hm=>?_
        · refine jT rfl s<|Sq<|bE hm fun _ ah hm=>bE hm fun aK ai hm=>J.drawB [m] [3]<|Dl 0 rfl (q_lda (vs:=[_,_]) rfl ii ⟨rfl,rfl,trivial⟩)<|Do 1<|Xe rfl rfl<|oc (rof_fn ah) fun _ _ _ aD=>?_
          obtain ⟨_,_,_,_,rfl,an⟩:=aD.op
          refine NE<|Do 2<|Xe rfl rfl<|oc (radd_fn (iu U) (iu an) ai) fun _ _ _ aF=>?_
          obtain ⟨ar,az,ax,ae,rfl,ao⟩:=aF.op
          refine NE<|Do 3<|Xm rfl rfl<|Sc [.bool _,.slice _ _ _] [.bool _,.slice _ _ _] rfl rfl rfl rfl rfl ia rfl rfl<|NF<|Dd<|bE hm fun _ aj hm=>bE hm fun aL ak hm=>J.drawB [t,n] [5]<|Dc 0 rfl (q_fa rfl)<|Dl 1 rfl (q_ld rfl ii rfl)<|Dl 3 rfl (q_lda (vs:=[_,_]) rfl ii ⟨rfl,rfl,trivial⟩)<|Do 2<|Xe rfl rfl<|oc (lmade_fn (Sm L) aj) fun _ _ _ aG=>?_
          obtain ⟨_,_,_,_,rfl,ap⟩:=aG.op
          refine NE<|Do 4<|Xe rfl rfl<|oc (r01_Sub_fn (iu ap) (iu K) ak) fun _ _ _ aH=>?_
          obtain ⟨au,aA,ay,af,rfl,aq⟩:=aH.op
          refine NE<|Do 5<|Xm rfl rfl<|Sc [.bool _,.slice _ _ _] [.bool _,.slice _ _ _] rfl rfl rfl rfl rfl ia rfl rfl<|NF<|Dd ?_
          exact ⟨⟨aK,aL,ar,az,ax,ae,au,aA,ay,af⟩,rfl,⟨rfl,rfl,rfl,rfl,rfl,rfl,trivial⟩,trivial,⟨(Mo.up ao),(Mo.up aq),hm,ii⟩,ii⟩
        · refine jF rfl (nT s)<|Js ?_
          exact ⟨⟨N.1,N.2,W,ac,Z,R,X,ad,aa,S⟩,rfl,⟨rfl,rfl,rfl,rfl,rfl,rfl,trivial⟩,trivial,⟨(Mo.up U),(Mo.up K),hm,ii⟩,ii⟩
    · rintro ⟨C,D,x,A,z,u,y,B,k,j⟩ _ _ _ _ ⟨V,I,hm,E⟩
      refine J.sp E ?_
      unfold M.r01_DivMod_j1 at hm
      refine Sq<|SR<|oq (q_fa rfl)<|oq (q_ld rfl ia rfl)<|oq (q_fa rfl)<|oq (q_ld rfl ia rfl)<|oq (q_bne rfl rfl)<|N0<|iC hm (fun q hm=>?_) fun q hm=>?_
      · refine jF rfl (congrArg Bool.not (show ((decide (g<0)) == (decide (i<0)))=true from q))<|Js<|Sq<|J.drawB [m,n] []<|Dl 0 rfl (q_lda (vs:=[_,_]) rfl ii ⟨rfl,rfl,trivial⟩)<|Dl 1 rfl (q_lda (vs:=[_,_]) rfl ii ⟨rfl,rfl,trivial⟩)<|Do 2<|Xe rfl rfl<|Sc [.bool _,.slice _ _ _] [.bool _,.slice _ _ _] rfl rfl rfl rfl rfl ia rfl rfl<|NE<|Do 3<|Xe rfl rfl<|Sc [.bool _,.slice _ _ _] [.bool _,.slice _ _ _] rfl rfl rfl rfl rfl ia rfl rfl<|NE<|Dc 4 rfl (aI rfl)<|Dd<|Jr ?_
        cases hm
        exact ret_ok (fn:=Tryz.f241) rfl (.agg rfl ii ii (.agg rfl ii ii (.tmp rfl .nil))) ⟨_,_,_,rfl,(iu V),(iu I),rfl⟩
      · refine jT rfl (congrArg Bool.not (show ((decide (g<0)) == (decide (i<0)))=false from (nT q)))<|bE hm fun _ ag hm=>Rg<|oq (q_lda (vs:=[_,_]) rfl ii ⟨rfl,rfl,trivial⟩)<|oc (rneg_fn (iu V) ag) fun _ _ _ aC=>?_
        obtain ⟨_,_,_,_,rfl,am⟩:=aC.op
        refine Sc [.bool _,.slice _ _ _] [.bool _,.slice _ _ _] rfl rfl rfl rfl rfl ia rfl rfl<|N0<|Sq<|J.drawB [m,n] []<|Dl 0 rfl (q_lda (vs:=[_,_]) rfl ii ⟨rfl,rfl,trivial⟩)<|Dl 1 rfl (q_lda (vs:=[_,_]) rfl ii ⟨rfl,rfl,trivial⟩)<|Do 2<|Xe rfl rfl<|Sc [.bool _,.slice _ _ _] [.bool _,.slice _ _ _] rfl rfl rfl rfl rfl ia rfl rfl<|NE<|Do 3<|Xe rfl rfl<|Sc [.bool _,.slice _ _ _] [.bool _,.slice _ _ _] rfl rfl rfl rfl rfl ia rfl rfl<|NE<|Dc 4 rfl (aI rfl)<|Dd<|Jr ?_
        cases hm
        exact ret_ok (fn:=Tryz.f241) rfl (.agg rfl ii ii (.agg rfl ii ii (.tmp rfl .nil))) ⟨_,_,_,rfl,(iu am),(iu I),rfl⟩
end Go.Z
end
section
namespace Go.Z
open Go Go.RowKit Go.Proofs
theorem r05_New_own {rr:Option Nat} {nn:Nat} {w0:World} {h0 h:Heap} {L:Own} {x0:Int} {x1:Int} {r:TMat} (hm:M.r05_New x0 x1=some r) :
    FnIn ⟨Tryz.prog,rr,nn,w0,h0⟩ 217 #[.int .i64 x0,.int .i64 x1] h (L) fun v h' L'=>∃ (b0_2:Nat) (hs0_2:List Value) (n0_2 c0_2:Nat) (M0_2:Own),v=.agg ⟨[.int .i64 r.Rows,.int .i64 r.Cols,.slice (some ⟨b0_2,0,none⟩) n0_2 c0_2]⟩∧OwnLL IntR 75 2 h' hs0_2 c0_2 r.A M0_2∧n0_2=r.A.length∧L'=[(b0_2,row 151 hs0_2)]++(M0_2++(L)):=by
 refine FnIn.intro (args:=[_,_]) Tryz.func217 rfl rfl (lB rfl)<|SR<|o_al fun t=>N0<|SR<|o_bs [] (by decide) rfl fun u=>JL.fact (fun h=>OwnLL IntR 75 2 h [] 0 ([]:List (List Int)) []) (OwnLL.emp _ _) fun C=>oq (aS rfl)<|N0<|Sq<|SR<|oq (aI rfl)<|N0<|Jb ?_
 obtain ⟨_,hm⟩:=rngN_some hm
 refine J.loopK (α:=Int×(List (List Int))×Nat×(List Value)×Nat×Nat×Own) (fun ⟨a,g,d,b,f,e,c⟩ h' L'=>(OwnLL IntR 75 2 h' b e g c∧f=g.length)∧0≤a∧forN (M.r05_New_b1 x1) (M.r05_New_k1 x0 x1) x0 a g=some r∧Sp ([(d,row 151 b)]++(c++((t,row 163 [.int .i64 0,.int .i64 0,.slice none 0 0])::L))) L') [(0,.int _ _),(1,.int _ _),(4,.pointer _)] ⟨rfl,rfl,rfl,trivial⟩ (fun ⟨a,g,d,b,f,e,c⟩=>[(5,.slice (some ⟨d,0,none⟩) f e),(6,.int .i64 a)]) (fun ⟨a,g,d,b,f,e,c⟩=>(x0-a).toNat) ⟨0,([]:List (List Int)),u,[],0,0,[]⟩ ⟨⟨OwnLL.mono C,rfl⟩,Int.le_refl _,hm,ii⟩ ⟨rfl,rfl,trivial⟩ ?_
 rintro ⟨a,g,d,b,f,e,c⟩ _ _ _ _ ⟨⟨n,j⟩,l,hm,k⟩
 refine J.sp k<|Sq<|SR<|oq (mI rfl)<|oq (mI rfl)<|oq (q_lss rfl rfl)<|N0 ?_
 by_cases i:a<x0
 · obtain ⟨_,hm,o⟩:=forN_lt i hm
   unfold M.r05_New_b1 at hm
   refine jT rfl (dT i) ?_
   have B:-9223372036854775808≤a+1∧a+1≤9223372036854775807:=by omega
   refine Js<|Sq<|Jb<|bE hm fun _ y hm=>bE hm fun m z hm=>Rg<|oq (mS rfl)<|oq (mI rfl)<|o_mkO (R:=IntR) rfl rfl y (IntR.zero0 _) fun _ _ s p=>o_bs [.slice _ _ _] (by decide) rfl fun _=>o_appLL rfl j rfl (OwnLL.mono n) (Om p) ii z fun w q x D=>oq (aS rfl)<|N0<|Rg<|oq (mI rfl)<|oq (q_add rfl rfl (wi64 B))<|oq (aI rfl)<|N0<|have hm:=inl_onward hm o; ?_
   exact ⟨⟨a+1,m,w,q,m.length,x,(s++c)⟩,rfl,⟨rfl,rfl,rfl,trivial⟩,⟨rfl,rfl,trivial⟩,⟨⟨OwnLL.mono D,rfl⟩,Int.le_trans l (Int.le_of_lt (Int.lt_succ _)),hm,ii⟩,(muN i),ii⟩
 · replace hm:=forN_ge i hm
   unfold M.r05_New_k1 at hm
   refine jF rfl (dF i)<|Jx<|SR<|oq (mI rfl)<|oq (mI rfl)<|oq (mS rfl)<|oq (q_bd [.int _ _,.int _ _,.slice _ _ _] rfl) ?_
   refine Sc [.int _ _,.int _ _,.slice _ _ _] [.int _ _,.int _ _,.slice _ _ _] rfl rfl rfl rfl rfl ia rfl rfl<|N0<|Jr ?_
   cases hm
   exact ret_okS (fn:=Tryz.f217) (L2:=[(d,row 151 b)]++(c++(L))) rfl (.agg rfl ii ii .nil) ii ⟨d,b,f,e,c,rfl,OwnLL.mono n,j,rfl⟩
theorem r05_Identity_own {rr:Option Nat} {nn:Nat} {w0:World} {h0 h:Heap} {L:Own} {x0:Int} {r:TMat} (hm:M.r05_Identity x0=some r) :
    FnIn ⟨Tryz.prog,rr,nn,w0,h0⟩ 232 #[.int .i64 x0] h (L) fun v h' L'=>∃ (b0_2:Nat) (hs0_2:List Value) (n0_2 c0_2:Nat) (M0_2:Own),v=.agg ⟨[.int .i64 r.Rows,.int .i64 r.Cols,.slice (some ⟨b0_2,0,none⟩) n0_2 c0_2]⟩∧OwnLL IntR 75 2 h' hs0_2 c0_2 r.A M0_2∧n0_2=r.A.length∧L'=[(b0_2,row 151 hs0_2)]++(M0_2++(L)):=by
 refine FnIn.intro (args:=[_]) Tryz.func232 rfl rfl (lB rfl)<|SR<|o_al fun V=>N0<|Sq<|bE hm fun o Y hm=>Rg<|oq (mI rfl)<|oq (mI rfl)<|o_calll (r05_New_own Y) fun _ _ _ _ ae=>?_
 obtain ⟨W,P,ac,X,U,rfl,ag,N,rfl⟩:=ae
 refine o_al fun D=>Sc [.int _ _,.int _ _,.slice _ _ _] [.int _ _,.int _ _,.slice _ _ _] rfl rfl rfl rfl rfl ia rfl rfl<|N0<|Sq<|SR<|oq (aI rfl)<|N0<|Jb ?_
 obtain ⟨_,hm⟩:=rngN_some hm
 refine J.loopK (α:=Int×(List (List Int))×Nat×(List Value)×Nat×Nat×Own) (fun ⟨b,j,d,c,g,f,k⟩ h' L'=>(OwnLL IntR 75 2 h' c f j k∧g=j.length)∧0≤b∧forN M.r05_Identity_b1 (M.r05_Identity_k1 o) x0 b j=some r∧Sp ([(d,row 151 c)]++(k++((V,row 163 [.int .i64 0,.int .i64 0,.slice none 0 0])::(D,row 163 [.int .i64 o.Rows,.int .i64 o.Cols,.slice (some ⟨d,0,none⟩) g f])::L))) L') [(0,.int _ _),(2,.pointer _),(3,.pointer _)] ⟨rfl,rfl,rfl,trivial⟩ (fun ⟨b,j,d,c,g,f,k⟩=>[(4,.int .i64 b)]) (fun ⟨b,j,d,c,g,f,k⟩=>(x0-b).toNat) ⟨0,o.A,W,P,ac,X,U⟩ ⟨⟨OwnLL.mono ag,N⟩,Int.le_refl _,hm,ii⟩ ⟨rfl,trivial⟩ ?_
 rintro ⟨b,j,d,c,g,f,k⟩ _ _ _ _ ⟨⟨z,n⟩,C,hm,w⟩
 refine J.sp w<|Sq<|SR<|oq (mI rfl)<|oq (mI rfl)<|oq (q_lss rfl rfl)<|N0 ?_
 by_cases l:b<x0
 · obtain ⟨_,hm,H⟩:=forN_lt l hm
   unfold M.r05_Identity_b1 at hm
   refine jT rfl (dT l) ?_
   have ab:-9223372036854775808≤b+1∧b+1≤9223372036854775807:=by omega
   refine Js<|Sq<|Jb<|nE hm fun _ F s K y hm=>?_
   obtain ⟨_,ad,_,q,O⟩:=OwnLL.hdr z y
   refine bE hm fun B Z hm=>nE hm fun _ _ t u Q hm=>?_
   obtain ⟨_,_,_,E,rfl,_,R,I,G,_,T⟩:=OwnLL.cell z y q Q
   obtain ⟨_,_,_,_,rfl,_⟩:=IntR.op G
   refine J.drawB [D,d] []<|Dc 0 rfl (q_fa rfl)<|Dl 1 rfl (q_ld rfl ii rfl)<|Dc 2 rfl (mI rfl)<|Dc 3 rfl (q_ian rfl rfl s (by rw [show g=_ from n]; exact K))<|Dl 4 rfl (q_ld rfl ii (hdr_at q))<|Dc 5 rfl (mI rfl)<|Do 6<|Xe rfl rfl<|oc (rof_fn Z) fun _ _ _ af=>?_
   obtain ⟨_,_,_,_,rfl,aa⟩:=af.op
   refine NE<|Dc 7 rfl (q_ian rfl rfl t (by rw [show ad=_ from O]; exact u))<|Do 8<|Xe rfl rfl<|o_stLL0 (us1:=[_,_]) (ps:=[_,_]) (a:=B) Sz.i rfl rfl rfl rfl (OwnC.mono R) ii u I rfl (lB rfl) rfl (Mo.up aa) (setL_eq t) fun p S=>JL.fact (fun h=>OwnLL IntR 75 2 h c f (setL j b (setL F b B)) (E (row 75 p))) (by rw [setL_eq s]; exact T _ _ _ ii S setL_len (fun e x=>Mo.m e x)) fun ah=>NE<|Dd<|Rg<|oq (mI rfl)<|oq (q_add rfl rfl (wi64 ab))<|oq (aI rfl)<|N0<|have hm:=inl_onward hm H; ?_
   exact ⟨⟨b+1,(setL j b (setL F b B)),d,c,g,f,(E (row 75 p))⟩,rfl,⟨rfl,rfl,rfl,trivial⟩,⟨rfl,trivial⟩,⟨⟨OwnLL.mono ah,(setL_hn n)⟩,Int.le_trans C (Int.le_of_lt (Int.lt_succ _)),hm,ii⟩,(muN l),ii⟩
 · replace hm:=forN_ge l hm
   unfold M.r05_Identity_k1 at hm
   refine jF rfl (dF l)<|Jx<|SR<|oq (q_lda (vs:=[_,_,_]) rfl ii ⟨rfl,rfl,rfl,trivial⟩)<|Sc [.int _ _,.int _ _,.slice _ _ _] [.int _ _,.int _ _,.slice _ _ _] rfl rfl rfl rfl rfl ia rfl rfl<|N0<|Jr ?_
   cases hm
   exact ret_okS (fn:=Tryz.f232) (L2:=[(d,row 151 c)]++(k++(L))) rfl (.agg rfl ii ii .nil) ii ⟨d,c,g,f,k,rfl,OwnLL.mono z,n,rfl⟩
theorem r05_Scale_own {rr:Option Nat} {nn:Nat} {w0:World} {h0 h:Heap} {L:Own} {x0:TMat} {x1:Int} {v0:Value} {v1:Value} (r0:AggV TMatR h v0 x0) (r1:IntAt h v1 x1) {r:TMat} (hm:M.r05_Scale x0 x1=some r) :
    FnIn ⟨Tryz.prog,rr,nn,w0,h0⟩ 252 #[v0,v1] h (L) fun v h' L'=>∃ (b0_2:Nat) (hs0_2:List Value) (n0_2 c0_2:Nat) (M0_2:Own),v=.agg ⟨[.int .i64 r.Rows,.int .i64 r.Cols,.slice (some ⟨b0_2,0,none⟩) n0_2 c0_2]⟩∧OwnLL IntR 75 2 h' hs0_2 c0_2 r.A M0_2∧n0_2=r.A.length∧L'=[(b0_2,row 151 hs0_2)]++(M0_2++(L)):=by
 obtain ⟨_,rfl,aq,ao,al,rfl,O⟩:=r0
 obtain ⟨an,ar,ap,am,rfl,aR⟩:=r1.op
 refine FnIn.intro (args:=[_,_]) Tryz.func252 rfl rfl (lB rfl)<|SR<|o_bx (v:=.agg ⟨[.int _ _,.int _ _,.slice _ _ _]⟩) rfl rfl fun H=>o_bx (v:=.agg ⟨[.bool _,.slice _ _ _]⟩) rfl rfl fun I=>o_al fun ak=>N0<|Sq<|bE hm fun u aQ hm=>Rg<|oq (q_fa rfl)<|oq (q_ld rfl ia rfl)<|oq (q_fa rfl)<|oq (q_ld rfl ia rfl)<|o_calll (r05_New_own aQ) fun _ _ _ _ aY=>?_
 obtain ⟨aO,aJ,aV,aP,aN,rfl,aZ,aG,rfl⟩:=aY
 refine o_al fun K=>Sc [.int _ _,.int _ _,.slice _ _ _] [.int _ _,.int _ _,.slice _ _ _] rfl rfl rfl rfl rfl ia rfl rfl<|N0<|Sq<|SR<|oq (aI rfl)<|N0<|Jb ?_
 obtain ⟨_,hm⟩:=rngN_some hm
 refine J.loopK (α:=Int×(List (List Int))×Nat×(List Value)×Nat×Nat×Own) (fun ⟨b,s,k,d,q,p,j⟩ h' L'=>(OwnLL IntR 75 2 h' d p s j∧q=s.length)∧0≤b∧forN (M.r05_Scale_b2 x0 x1) (M.r05_Scale_k2 u) x0.Rows b s=some r∧Sp ([(k,row 151 d)]++(j++((H,row 163 [.int .i64 x0.Rows,.int .i64 x0.Cols,.slice aq ao al])::(I,row 75 [.bool an,.slice ar ap am])::(ak,row 163 [.int .i64 0,.int .i64 0,.slice none 0 0])::(K,row 163 [.int .i64 u.Rows,.int .i64 u.Cols,.slice (some ⟨k,0,none⟩) q p])::L))) L') [(2,.pointer _),(3,.pointer _),(4,.pointer _),(5,.pointer _)] ⟨rfl,rfl,rfl,rfl,trivial⟩ (fun ⟨b,s,k,d,q,p,j⟩=>[(6,.int .i64 b)]) (fun ⟨b,s,k,d,q,p,j⟩=>(x0.Rows-b).toNat) ⟨0,u.A,aO,aJ,aV,aP,aN⟩ ⟨⟨OwnLL.mono aZ,aG⟩,Int.le_refl _,hm,ii⟩ ⟨rfl,trivial⟩ ?_
 rintro ⟨b,s,k,d,q,p,j⟩ _ _ _ _ ⟨⟨au,S⟩,ae,hm,T⟩
 refine J.sp T<|Sq<|SR<|oq (mI rfl)<|oq (q_fa rfl)<|oq (q_ld rfl ia rfl)<|oq (q_lss rfl rfl)<|N0 ?_
 by_cases w:b<x0.Rows
 · obtain ⟨aX,hm,aC⟩:=forN_lt w hm
   unfold M.r05_Scale_b2 at hm
   refine jT rfl (dT w) ?_
   have aT:-9223372036854775808≤b+1∧b+1≤9223372036854775807:=by omega
   refine Js<|Sq<|Jb<|SR<|oq (aI rfl)<|N0<|Jb ?_
   obtain ⟨_,hm⟩:=rngN_some hm
   refine J.loopK (α:=Int×(List (List Int))×Nat×(List Value)×Nat×Nat×Own) (fun ⟨c,g,l,f,o,n,t⟩ h' L'=>(OwnLL IntR 75 2 h' f n g t∧o=g.length)∧0≤c∧forN (M.r05_Scale_b1 x0 x1 b) M.r05_Scale_k1 x0.Cols c g=some aX∧Sp ([(l,row 151 f)]++(t++((H,row 163 [.int .i64 x0.Rows,.int .i64 x0.Cols,.slice aq ao al])::(I,row 75 [.bool an,.slice ar ap am])::(ak,row 163 [.int .i64 0,.int .i64 0,.slice none 0 0])::(K,row 163 [.int .i64 u.Rows,.int .i64 u.Cols,.slice (some ⟨l,0,none⟩) o n])::L))) L') [(2,.pointer _),(3,.pointer _),(4,.pointer _),(5,.pointer _),(6,.int _ _)] ⟨rfl,rfl,rfl,rfl,rfl,trivial⟩ (fun ⟨c,g,l,f,o,n,t⟩=>[(7,.int .i64 c)]) (fun ⟨c,g,l,f,o,n,t⟩=>(x0.Cols-c).toNat) ⟨0,s,k,d,q,p,j⟩ ⟨⟨OwnLL.mono au,S⟩,Int.le_refl _,hm,ii⟩ ⟨rfl,trivial⟩ ?_
   rintro ⟨c,g,l,f,o,n,t⟩ _ _ _ _ ⟨⟨W,B⟩,af,hm,U⟩
   refine J.sp U<|Sq<|SR<|oq (mI rfl)<|oq (q_fa rfl)<|oq (q_ld rfl ia rfl)<|oq (q_lss rfl rfl)<|N0 ?_
   by_cases y:c<x0.Cols
   · obtain ⟨_,hm,aD⟩:=forN_lt y hm
     unfold M.r05_Scale_b1 at hm
     refine jT rfl (dT y) ?_
     have aU:-9223372036854775808≤c+1∧c+1≤9223372036854775807:=by omega
     refine Js<|Sq<|Jb<|nE hm fun _ av Q aF V hm=>?_
     obtain ⟨_,aW,_,P,aH⟩:=OwnLL.hdr W V
     refine nE hm fun _ _ aA R aK hm=>?_
     obtain ⟨_,_,rfl⟩:=Sls.op O R
     refine aE O aK fun _ aa X=>?_
     obtain ⟨_,_,_,rfl,z⟩:=X
     refine nE hm fun _ _ ac F ag hm=>?_
     obtain ⟨_,_,rfl⟩:=Sls.op z F
     refine aE z ag fun _ ab Y=>?_
     obtain ⟨_,_,_,_,rfl,ay⟩:=IntR.op Y
     refine bE hm fun C ax hm=>nE hm fun _ _ E G ah hm=>?_
     obtain ⟨_,_,_,N,rfl,_,ai,ad,Z,_,aw⟩:=OwnLL.cell W V P ah
     obtain ⟨_,_,_,_,rfl,_⟩:=IntR.op Z
     refine J.drawB [K,l,H,I] []<|Dc 0 rfl (q_fa rfl)<|Dl 1 rfl (q_ld rfl ii rfl)<|Dc 2 rfl (mI rfl)<|Dc 3 rfl (q_ian rfl rfl Q (by rw [show o=_ from B]; exact aF))<|Dl 4 rfl (q_ld rfl ii (hdr_at P))<|Dc 5 rfl (mI rfl)<|Dc 6 rfl (q_fa rfl)<|Dl 7 rfl (q_ld rfl ii rfl)<|Dc 8 rfl (mI rfl)<|Dc 9 rfl (q_ian rfl rfl aA (ln O R))<|Dl 10 rfl (q_ldf rfl aa)<|Dc 11 rfl (mI rfl)<|Dc 12 rfl (q_ian rfl rfl ac (ln z F))<|Dl 13 rfl (q_ldfa rfl ab)<|Dl 14 rfl (q_lda (vs:=[_,_]) rfl ii ⟨rfl,rfl,trivial⟩)<|Do 15<|Xe rfl rfl<|oc (rmul_fn (iu ay) (iu aR) ax) fun _ _ _ aL=>?_
     obtain ⟨_,_,_,_,rfl,az⟩:=aL.op
     refine NE<|Dc 16 rfl (q_ian rfl rfl E (by rw [show aW=_ from aH]; exact G))<|Do 17<|Xe rfl rfl<|o_stLL0 (us1:=[_,_]) (ps:=[_,_]) (a:=C) Sz.i rfl rfl rfl rfl (OwnC.mono ai) ii G ad rfl (lB rfl) rfl (Mo.up az) (setL_eq E) fun D aj=>JL.fact (fun h=>OwnLL IntR 75 2 h f n (setL g b (setL av c C)) (N (row 75 D))) (by rw [setL_eq Q]; exact aw _ _ _ ii aj setL_len (fun e x=>Mo.m e x)) fun aM=>NE<|Dd<|Rg<|oq (mI rfl)<|oq (q_add rfl rfl (wi64 aU))<|oq (aI rfl)<|N0<|have hm:=inl_onward hm aD; ?_
     exact ⟨⟨c+1,(setL g b (setL av c C)),l,f,o,n,(N (row 75 D))⟩,rfl,⟨rfl,rfl,rfl,rfl,rfl,trivial⟩,⟨rfl,trivial⟩,⟨⟨OwnLL.mono aM,(setL_hn B)⟩,Int.le_trans af (Int.le_of_lt (Int.lt_succ _)),hm,ii⟩,(muN y),ii⟩
   · replace hm:=forN_ge y hm
     unfold M.r05_Scale_k1 at hm
     refine jF rfl (dF y)<|Jx<|Rg<|oq (mI rfl)<|oq (q_add rfl rfl (wi64 aT))<|oq (aI rfl)<|N0<|have hm:=inl_onward hm aC; ?_
     exact ⟨⟨b+1,g,l,f,o,n,t⟩,rfl,⟨rfl,rfl,rfl,rfl,trivial⟩,⟨rfl,trivial⟩,⟨⟨OwnLL.mono W,B⟩,Int.le_trans ae (Int.le_of_lt (Int.lt_succ _)),hm,ii⟩,(muN w),ii⟩
 · replace hm:=forN_ge w hm
   unfold M.r05_Scale_k2 at hm
   refine jF rfl (dF w)<|Jx<|SR<|oq (q_lda (vs:=[_,_,_]) rfl ii ⟨rfl,rfl,rfl,trivial⟩)<|Sc [.int _ _,.int _ _,.slice _ _ _] [.int _ _,.int _ _,.slice _ _ _] rfl rfl rfl rfl rfl ia rfl rfl<|N0<|Jr ?_
   cases hm
   exact ret_okS (fn:=Tryz.f252) (L2:=[(k,row 151 d)]++(j++(L))) rfl (.agg rfl ii ii .nil) ii ⟨k,d,q,p,j,rfl,OwnLL.mono au,S,rfl⟩
theorem r05_Copied_own {rr:Option Nat} {nn:Nat} {w0:World} {h0 h:Heap} {L:Own} {x0:TMat} {v0:Value} (r0:AggV TMatR h v0 x0) {r:TMat} (hm:M.r05_Copied x0=some r) :
    FnIn ⟨Tryz.prog,rr,nn,w0,h0⟩ 231 #[v0] h (L) fun v h' L'=>∃ (b0_2:Nat) (hs0_2:List Value) (n0_2 c0_2:Nat) (M0_2:Own),v=.agg ⟨[.int .i64 r.Rows,.int .i64 r.Cols,.slice (some ⟨b0_2,0,none⟩) n0_2 c0_2]⟩∧OwnLL IntR 75 2 h' hs0_2 c0_2 r.A M0_2∧n0_2=r.A.length∧L'=[(b0_2,row 151 hs0_2)]++(M0_2++(L)):=by
 obtain ⟨_,rfl,_,_,_,rfl,j⟩:=r0
 refine FnIn.intro (args:=[_]) Tryz.func231 rfl rfl (lB rfl)<|SR<|o_bx (v:=.agg ⟨[.int _ _,.int _ _,.slice _ _ _]⟩) rfl rfl fun e=>o_al fun _=>N0<|Sq<|bE hm fun _ g hm=>bE hm fun _ i hm=>J.drawB [e] []<|Dl 0 rfl (q_lda (vs:=[_,_,_]) rfl ii ⟨rfl,rfl,rfl,trivial⟩)<|Do 1<|Xe rfl rfl<|oc (rof_fn g) fun _ _ _ m=>?_
 obtain ⟨_,_,_,_,rfl,k⟩:=m.op
 refine NE<|Do 2<|Xe rfl rfl<|o_calll (r05_Scale_own (x0:=x0) ⟨_,rfl,⟨_,_,_,rfl,Sm j⟩⟩ (iu k) i) fun _ _ _ _ n=>?_
 obtain ⟨c,a,l,f,b,rfl,o,d,rfl⟩:=n
 refine NE<|Do 3<|Xe rfl rfl<|Sc [.int _ _,.int _ _,.slice _ _ _] [.int _ _,.int _ _,.slice _ _ _] rfl rfl rfl rfl rfl ia rfl rfl<|NE<|Dd<|Jr ?_
 cases hm
 exact ret_okS (fn:=Tryz.f231) (L2:=[(c,row 151 a)]++(b++(L))) rfl (.agg rfl ii ii .nil) ii ⟨c,a,l,f,b,rfl,OwnLL.mono o,d,rfl⟩
theorem r12_Start_own {rr:Option Nat} {nn:Nat} {w0:World} {h0 h:Heap} {L:Own} {x0:TMat} {v0:Value} (r0:AggV TMatR h v0 x0) {r:R12Work} (hm:M.r12_Start x0=some r) :
    FnIn ⟨Tryz.prog,rr,nn,w0,h0⟩ 240 #[v0] h (L) fun v h' L'=>∃ (b0_2:Nat) (hs0_2:List Value) (n0_2 c0_2:Nat) (M0_2:Own) (b0_5:Nat) (hs0_5:List Value) (n0_5 c0_5:Nat) (M0_5:Own) (b0_8:Nat) (hs0_8:List Value) (n0_8 c0_8:Nat) (M0_8:Own) (bx0:Nat),v=.pointer (some ⟨bx0,0,none⟩)∧OwnLL IntR 75 2 h' hs0_2 c0_2 r.M.A M0_2∧n0_2=r.M.A.length∧OwnLL IntR 75 2 h' hs0_5 c0_5 r.U.A M0_5∧n0_5=r.U.A.length∧OwnLL IntR 75 2 h' hs0_8 c0_8 r.V.A M0_8∧n0_8=r.V.A.length∧L'=[(b0_2,row 151 hs0_2)]++(M0_2++([(b0_5,row 151 hs0_5)]++(M0_5++([(b0_8,row 151 hs0_8)]++(M0_8++([(bx0,row 301 [.int .i64 r.M.Rows,.int .i64 r.M.Cols,.slice (some ⟨b0_2,0,none⟩) n0_2 c0_2,.int .i64 r.U.Rows,.int .i64 r.U.Cols,.slice (some ⟨b0_5,0,none⟩) n0_5 c0_5,.int .i64 r.V.Rows,.int .i64 r.V.Cols,.slice (some ⟨b0_8,0,none⟩) n0_8 c0_8])]++(L))))))):=by
 obtain ⟨_,rfl,_,_,_,rfl,E⟩:=r0
 refine FnIn.intro (args:=[_]) Tryz.func240 rfl rfl (lB rfl)<|SR<|o_bx (v:=.agg ⟨[.int _ _,.int _ _,.slice _ _ _]⟩) rfl rfl fun z=>oq (q_asv (v:=.pointer _) rfl)<|N0<|Sq<|bE hm fun s B hm=>bE hm fun t C hm=>bE hm fun u D hm=>J.drawB [z] []<|Dl 0 rfl (q_lda (vs:=[_,_,_]) rfl ii ⟨rfl,rfl,rfl,trivial⟩)<|Dc 2 rfl (q_fa rfl)<|Dl 3 rfl (q_ld rfl ii rfl)<|Dc 5 rfl (q_fa rfl)<|Dl 6 rfl (q_ld rfl ii rfl)<|Do 1<|Xe rfl rfl<|o_calll (r05_Copied_own (x0:=x0) ⟨_,rfl,⟨_,_,_,rfl,Sm E⟩⟩ B) fun _ _ _ _ F=>?_
 obtain ⟨a,d,o,l,g,rfl,I,w,rfl⟩:=F
 refine NE<|Do 4<|Xe rfl rfl<|o_calll (r05_Identity_own C) fun _ _ _ _ G=>?_
 obtain ⟨b,e,p,m,i,rfl,K,x,rfl⟩:=G
 refine NE<|Do 7<|Xe rfl rfl<|o_calll (r05_Identity_own D) fun _ _ _ _ H=>?_
 obtain ⟨c,f,q,n,j,rfl,N,y,rfl⟩:=H
 refine NE<|Dc 8 rfl (q_bd [.int _ _,.int _ _,.slice _ _ _,.int _ _,.int _ _,.slice _ _ _,.int _ _,.int _ _,.slice _ _ _] rfl)<|Do 9<|Xe rfl rfl<|o_bx (v:=.agg ⟨[.int _ _,.int _ _,.slice _ _ _,.int _ _,.int _ _,.slice _ _ _,.int _ _,.int _ _,.slice _ _ _]⟩) rfl rfl fun k=>NE<|Dc 10 rfl (q_asv (v:=.pointer _) rfl)<|Dd<|Jr ?_
 cases hm
 exact ret_okS (fn:=Tryz.f240) (L2:=[(a,row 151 d)]++(g++([(b,row 151 e)]++(i++([(c,row 151 f)]++(j++([(k,row 301 [.int .i64 s.Rows,.int .i64 s.Cols,.slice (some ⟨a,0,none⟩) o l,.int .i64 t.Rows,.int .i64 t.Cols,.slice (some ⟨b,0,none⟩) p m,.int .i64 u.Rows,.int .i64 u.Cols,.slice (some ⟨c,0,none⟩) q n])]++(L)))))))) rfl (.tmp rfl .nil) ii ⟨a,d,o,l,g,b,e,p,m,i,c,f,q,n,j,k,rfl,OwnLL.mono I,w,OwnLL.mono K,x,OwnLL.mono N,y,rfl⟩
theorem r12_Work_AddTo_own {rr:Option Nat} {nn:Nat} {w0:World} {h0 h:Heap} {L:Own} {x0:R12Work} {x1:Int} {x2:Int} {x3:Int} {bb0_2:Nat} {hs0_2:List Value} {nn0_2 cc0_2:Nat} {MM0_2:Own} {bb0_5:Nat} {hs0_5:List Value} {nn0_5 cc0_5:Nat} {MM0_5:Own} {bb0_8:Nat} {hs0_8:List Value} {nn0_8 cc0_8:Nat} {MM0_8:Own} {b0_:Nat} {v3:Value} (ww0_2:OwnLL IntR 75 2 h hs0_2 cc0_2 x0.M.A MM0_2) (hn0_2:nn0_2=x0.M.A.length) (ww0_5:OwnLL IntR 75 2 h hs0_5 cc0_5 x0.U.A MM0_5) (hn0_5:nn0_5=x0.U.A.length) (ww0_8:OwnLL IntR 75 2 h hs0_8 cc0_8 x0.V.A MM0_8) (hn0_8:nn0_8=x0.V.A.length) (r3:IntAt h v3 x3) {r:R12Work} (hm:M.r12_Work_AddTo x0 x1 x2 x3=some r) :
    FnIn ⟨Tryz.prog,rr,nn,w0,h0⟩ 242 #[.pointer (some ⟨b0_,0,none⟩),.int .i64 x1,.int .i64 x2,v3] h (([(bb0_2,row 151 hs0_2)]++(MM0_2++([(bb0_5,row 151 hs0_5)]++(MM0_5++([(bb0_8,row 151 hs0_8)]++(MM0_8++((b0_,row 301 [.int .i64 x0.M.Rows,.int .i64 x0.M.Cols,.slice (some ⟨bb0_2,0,none⟩) nn0_2 cc0_2,.int .i64 x0.U.Rows,.int .i64 x0.U.Cols,.slice (some ⟨bb0_5,0,none⟩) nn0_5 cc0_5,.int .i64 x0.V.Rows,.int .i64 x0.V.Cols,.slice (some ⟨bb0_8,0,none⟩) nn0_8 cc0_8])::[])))))))++L) fun v h' L'=>∃ (b0_2:Nat) (hs0_2:List Value) (n0_2 c0_2:Nat) (M0_2:Own) (b0_5:Nat) (hs0_5:List Value) (n0_5 c0_5:Nat) (M0_5:Own) (b0_8:Nat) (hs0_8:List Value) (n0_8 c0_8:Nat) (M0_8:Own),v=.tuple ⟨[]⟩∧OwnLL IntR 75 2 h' hs0_2 c0_2 r.M.A M0_2∧n0_2=r.M.A.length∧OwnLL IntR 75 2 h' hs0_5 c0_5 r.U.A M0_5∧n0_5=r.U.A.length∧OwnLL IntR 75 2 h' hs0_8 c0_8 r.V.A M0_8∧n0_8=r.V.A.length∧L'=[(b0_2,row 151 hs0_2)]++(M0_2++([(b0_5,row 151 hs0_5)]++(M0_5++([(b0_8,row 151 hs0_8)]++(M0_8++([(b0_,row 301 [.int .i64 r.M.Rows,.int .i64 r.M.Cols,.slice (some ⟨b0_2,0,none⟩) n0_2 c0_2,.int .i64 r.U.Rows,.int .i64 r.U.Cols,.slice (some ⟨b0_5,0,none⟩) n0_5 c0_5,.int .i64 r.V.Rows,.int .i64 r.V.Cols,.slice (some ⟨b0_8,0,none⟩) n0_8 c0_8])]++(L))))))):=by
 obtain ⟨aH,aV,aU,aC,rfl,aF⟩:=r3.op
 refine FnIn.intro (args:=[_,_,_,_]) Tryz.func242 rfl rfl (lB rfl)<|J.eqL (L0:=[(bb0_2,row 151 hs0_2)]++(MM0_2++([(bb0_5,row 151 hs0_5)]++(MM0_5++([(bb0_8,row 151 hs0_8)]++(MM0_8++((b0_,row 301 [.int .i64 x0.M.Rows,.int .i64 x0.M.Cols,.slice (some ⟨bb0_2,0,none⟩) nn0_2 cc0_2,.int .i64 x0.U.Rows,.int .i64 x0.U.Cols,.slice (some ⟨bb0_5,0,none⟩) nn0_5 cc0_5,.int .i64 x0.V.Rows,.int .i64 x0.V.Cols,.slice (some ⟨bb0_8,0,none⟩) nn0_8 cc0_8])::L))))))) (by simp)<|SR<|o_bx (v:=.agg ⟨[.bool _,.slice _ _ _]⟩) rfl rfl fun P=>N0<|Sq<|SR<|oq (aI rfl)<|N0<|Jb ?_
 obtain ⟨_,hm⟩:=rngN_some hm
 refine J.loopK (α:=Int×(List (List Int))×Nat×(List Value)×Nat×Nat×Own) (fun ⟨q,B,n,k,s,y,D⟩ h' L'=>(OwnLL IntR 75 2 h' k y B D∧s=B.length)∧0≤q∧forN (M.r12_Work_AddTo_b3 x1 x2 x3) (M.r12_Work_AddTo_k3 x0 x1 x2 x3) x0.M.Cols q B=some r∧Sp ([(n,row 151 k)]++(D++([(bb0_5,row 151 hs0_5)]++(MM0_5++([(bb0_8,row 151 hs0_8)]++(MM0_8++((b0_,row 301 [.int .i64 x0.M.Rows,.int .i64 x0.M.Cols,.slice (some ⟨n,0,none⟩) s y,.int .i64 x0.U.Rows,.int .i64 x0.U.Cols,.slice (some ⟨bb0_5,0,none⟩) nn0_5 cc0_5,.int .i64 x0.V.Rows,.int .i64 x0.V.Cols,.slice (some ⟨bb0_8,0,none⟩) nn0_8 cc0_8])::(P,row 75 [.bool aH,.slice aV aU aC])::L))))))) L') [(0,.pointer _),(1,.int _ _),(2,.int _ _),(7,.pointer _)] ⟨rfl,rfl,rfl,rfl,trivial⟩ (fun ⟨q,B,n,k,s,y,D⟩=>[(8,.int .i64 q)]) (fun ⟨q,B,n,k,s,y,D⟩=>(x0.M.Cols-q).toNat) ⟨0,x0.M.A,bb0_2,hs0_2,nn0_2,cc0_2,MM0_2⟩ ⟨⟨OwnLL.mono ww0_2,hn0_2⟩,Int.le_refl _,hm,ii⟩ ⟨rfl,trivial⟩ ?_
 rintro ⟨q,B,n,k,s,y,D⟩ _ _ _ _ ⟨⟨ab,N⟩,bc,hm,aP⟩
 refine J.sp aP<|Sq<|SR<|oq (mI rfl)<|oq (q_mvv (v:=.pointer _) rfl)<|oq (q_nil rfl)<|oq (q_fa rfl)<|oq (q_fa rfl)<|oq (q_ld rfl ia rfl)<|oq (q_lss rfl rfl)<|N0 ?_
 by_cases aa:q<x0.M.Cols
 · obtain ⟨_,hm,bS⟩:=forN_lt aa hm
   unfold M.r12_Work_AddTo_b3 at hm
   refine jT rfl (dT aa) ?_
   have ci:-9223372036854775808≤q+1∧q+1≤9223372036854775807:=by omega
   refine Js<|Sq<|Jb<|nE hm fun _ bo ad aL aQ hm=>?_
   obtain ⟨_,bn,_,ac,aO⟩:=OwnLL.hdr ab aQ
   refine nE hm fun _ _ ae af bY hm=>?_
   obtain ⟨cf,_,_,bm,rfl,_,b3,aK,bO,_,ce⟩:=OwnLL.cell ab aQ ac bY
   obtain ⟨_,_,_,_,rfl,ch⟩:=IntR.op bO
   refine nE hm fun _ _ bQ bV aR hm=>?_
   obtain ⟨_,cj,_,aJ,bX⟩:=OwnLL.hdr ab aR
   refine nE hm fun _ _ bR bW bZ hm=>?_
   obtain ⟨cg,_,_,_,rfl,_,_,bU,bP,_,_⟩:=OwnLL.cell ab aR aJ bZ
   obtain ⟨_,_,_,_,rfl,bB⟩:=IntR.op bP
   refine bE hm fun _ bu hm=>bE hm fun ai bv hm=>J.drawB [b0_,n,cf,P,cg] [35]<|Dc 0 rfl (q_mvv (v:=.pointer _) rfl)<|Dc 1 rfl (q_nil rfl)<|Dc 2 rfl (q_fa rfl)<|Dc 3 rfl (q_fa rfl)<|Dl 4 rfl (q_ld rfl ii rfl)<|Dc 5 rfl (mI rfl)<|Dc 6 rfl (q_ian rfl rfl ad (by rw [show s=_ from N]; exact aL))<|Dl 7 rfl (q_ld rfl ii (hdr_at ac))<|Dc 8 rfl (mI rfl)<|Dc 9 rfl (q_mvv (v:=.pointer _) rfl)<|Dc 10 rfl (q_nil rfl)<|Dc 11 rfl (q_fa rfl)<|Dc 12 rfl (q_fa rfl)<|Dl 13 rfl (q_ld rfl ii rfl)<|Dc 14 rfl (mI rfl)<|Dc 15 rfl (q_ian rfl rfl ad (by rw [show s=_ from N]; exact aL))<|Dl 16 rfl (q_ld rfl ii (hdr_at ac))<|Dc 17 rfl (mI rfl)<|Dc 18 rfl (q_ian rfl rfl ae (by rw [show bn=_ from aO]; exact af))<|Dl 19 rfl (q_ldOa0 rfl ii aK)<|Dl 20 rfl (q_lda (vs:=[_,_]) rfl ii ⟨rfl,rfl,trivial⟩)<|Dc 21 rfl (q_mvv (v:=.pointer _) rfl)<|Dc 22 rfl (q_nil rfl)<|Dc 23 rfl (q_fa rfl)<|Dc 24 rfl (q_fa rfl)<|Dl 25 rfl (q_ld rfl ii rfl)<|Dc 26 rfl (mI rfl)<|Dc 27 rfl (q_ian rfl rfl bQ (by rw [show s=_ from N]; exact bV))<|Dl 28 rfl (q_ld rfl ii (hdr_at aJ))<|Dc 29 rfl (mI rfl)<|Dc 30 rfl (q_ian rfl rfl bR (by rw [show cj=_ from bX]; exact bW))<|Dl 31 rfl (q_ldOa0 rfl ii bU)<|Do 32<|Xe rfl rfl<|oc (rmul_fn (iu aF) (iu bB) bu) fun _ _ _ b4=>?_
   obtain ⟨_,_,_,_,rfl,bC⟩:=b4.op
   refine NE<|Do 33<|Xe rfl rfl<|oc (radd_fn (iu ch) (iu bC) bv) fun _ _ _ b5=>?_
   obtain ⟨_,_,_,_,rfl,bD⟩:=b5.op
   refine NE<|Dc 34 rfl (q_ian rfl rfl ae (by rw [show bn=_ from aO]; exact af))<|Do 35<|Xm rfl rfl<|o_stLL0 (us1:=[_,_]) (ps:=[_,_]) (a:=ai) Sz.i rfl rfl rfl rfl (OwnC.mono b3) ii af aK rfl (lB rfl) rfl (Mo.up bD) (setL_eq ae) fun al bi=>JL.fact (fun h=>OwnLL IntR 75 2 h k y (setL B x1 (setL bo q ai)) (bm (row 75 al))) (by rw [setL_eq ad]; exact ce _ _ _ ii bi setL_len (fun e x=>Mo.m e x)) fun ca=>NF<|Dd<|Rg<|oq (mI rfl)<|oq (q_add rfl rfl (wi64 ci))<|oq (aI rfl)<|N0<|have hm:=inl_onward hm bS; ?_
   exact ⟨⟨q+1,(setL B x1 (setL bo q ai)),n,k,s,y,(bm (row 75 al))⟩,rfl,⟨rfl,rfl,rfl,rfl,trivial⟩,⟨rfl,trivial⟩,⟨⟨OwnLL.mono ca,(setL_hn N)⟩,Int.le_trans bc (Int.le_of_lt (Int.lt_succ _)),hm,ii⟩,(muN aa),ii⟩
 · replace hm:=forN_ge aa hm
   unfold M.r12_Work_AddTo_k3 at hm
   refine jF rfl (dF aa)<|Jx<|Sq<|SR<|oq (aI rfl)<|N0<|Jb ?_
   obtain ⟨_,hm⟩:=rngN_some hm
   refine J.loopK (α:=Int×(List (List Int))×Nat×(List Value)×Nat×Nat×Own) (fun ⟨b,u,f,d,g,p,w⟩ h' L'=>(OwnLL IntR 75 2 h' d p u w∧g=u.length)∧0≤b∧forN (M.r12_Work_AddTo_b2 x1 x2 x3) (M.r12_Work_AddTo_k2 x0 x1 x2 x3 B) x0.U.Cols b u=some r∧Sp ([(n,row 151 k)]++(D++([(f,row 151 d)]++(w++([(bb0_8,row 151 hs0_8)]++(MM0_8++((b0_,row 301 [.int .i64 x0.M.Rows,.int .i64 x0.M.Cols,.slice (some ⟨n,0,none⟩) s y,.int .i64 x0.U.Rows,.int .i64 x0.U.Cols,.slice (some ⟨f,0,none⟩) g p,.int .i64 x0.V.Rows,.int .i64 x0.V.Cols,.slice (some ⟨bb0_8,0,none⟩) nn0_8 cc0_8])::(P,row 75 [.bool aH,.slice aV aU aC])::L))))))) L') [(0,.pointer _),(1,.int _ _),(2,.int _ _),(7,.pointer _)] ⟨rfl,rfl,rfl,rfl,trivial⟩ (fun ⟨b,u,f,d,g,p,w⟩=>[(9,.int .i64 b)]) (fun ⟨b,u,f,d,g,p,w⟩=>(x0.U.Cols-b).toNat) ⟨0,x0.U.A,bb0_5,hs0_5,nn0_5,cc0_5,MM0_5⟩ ⟨⟨OwnLL.mono ww0_5,hn0_5⟩,Int.le_refl _,hm,ii⟩ ⟨rfl,trivial⟩ ?_
   rintro ⟨b,u,f,d,g,p,w⟩ _ _ _ _ ⟨⟨O,E⟩,aM,hm,az⟩
   refine J.sp az<|Sq<|SR<|oq (mI rfl)<|oq (q_mvv (v:=.pointer _) rfl)<|oq (q_nil rfl)<|oq (q_fa rfl)<|oq (q_fa rfl)<|oq (q_ld rfl ia rfl)<|oq (q_lss rfl rfl)<|N0 ?_
   by_cases I:b<x0.U.Cols
   · obtain ⟨_,hm,a5⟩:=forN_lt I hm
     unfold M.r12_Work_AddTo_b2 at hm
     refine jT rfl (dT I) ?_
     have b0:-9223372036854775808≤b+1∧b+1≤9223372036854775807:=by omega
     refine Js<|Sq<|Jb<|nE hm fun _ aW R ar av hm=>?_
     obtain ⟨_,aT,_,Q,au⟩:=OwnLL.hdr O av
     refine nE hm fun _ _ S W be hm=>?_
     obtain ⟨br,_,_,aD,rfl,_,bj,ap,aY,_,bp⟩:=OwnLL.cell O av Q be
     obtain ⟨_,_,_,_,rfl,bG⟩:=IntR.op aY
     refine nE hm fun _ _ a2 a9 aw hm=>?_
     obtain ⟨_,b2,_,ao,bd⟩:=OwnLL.hdr O aw
     refine nE hm fun _ _ a3 ba bf hm=>?_
     obtain ⟨bs,_,_,_,rfl,_,_,a6,aZ,_,_⟩:=OwnLL.cell O aw ao bf
     obtain ⟨_,_,_,_,rfl,bH⟩:=IntR.op aZ
     refine bE hm fun _ bw hm=>bE hm fun aj bx hm=>J.drawB [b0_,f,br,P,bs] [35]<|Dc 0 rfl (q_mvv (v:=.pointer _) rfl)<|Dc 1 rfl (q_nil rfl)<|Dc 2 rfl (q_fa rfl)<|Dc 3 rfl (q_fa rfl)<|Dl 4 rfl (q_ld rfl ii rfl)<|Dc 5 rfl (mI rfl)<|Dc 6 rfl (q_ian rfl rfl R (by rw [show g=_ from E]; exact ar))<|Dl 7 rfl (q_ld rfl ii (hdr_at Q))<|Dc 8 rfl (mI rfl)<|Dc 9 rfl (q_mvv (v:=.pointer _) rfl)<|Dc 10 rfl (q_nil rfl)<|Dc 11 rfl (q_fa rfl)<|Dc 12 rfl (q_fa rfl)<|Dl 13 rfl (q_ld rfl ii rfl)<|Dc 14 rfl (mI rfl)<|Dc 15 rfl (q_ian rfl rfl R (by rw [show g=_ from E]; exact ar))<|Dl 16 rfl (q_ld rfl ii (hdr_at Q))<|Dc 17 rfl (mI rfl)<|Dc 18 rfl (q_ian rfl rfl S (by rw [show aT=_ from au]; exact W))<|Dl 19 rfl (q_ldOa0 rfl ii ap)<|Dl 20 rfl (q_lda (vs:=[_,_]) rfl ii ⟨rfl,rfl,trivial⟩)<|Dc 21 rfl (q_mvv (v:=.pointer _) rfl)<|Dc 22 rfl (q_nil rfl)<|Dc 23 rfl (q_fa rfl)<|Dc 24 rfl (q_fa rfl)<|Dl 25 rfl (q_ld rfl ii rfl)<|Dc 26 rfl (mI rfl)<|Dc 27 rfl (q_ian rfl rfl a2 (by rw [show g=_ from E]; exact a9))<|Dl 28 rfl (q_ld rfl ii (hdr_at ao))<|Dc 29 rfl (mI rfl)<|Dc 30 rfl (q_ian rfl rfl a3 (by rw [show b2=_ from bd]; exact ba))<|Dl 31 rfl (q_ldOa0 rfl ii a6)<|Do 32<|Xe rfl rfl<|oc (rmul_fn (iu aF) (iu bH) bw) fun _ _ _ b6=>?_
     obtain ⟨_,_,_,_,rfl,bI⟩:=b6.op
     refine NE<|Do 33<|Xe rfl rfl<|oc (radd_fn (iu bG) (iu bI) bx) fun _ _ _ b7=>?_
     obtain ⟨_,_,_,_,rfl,bJ⟩:=b7.op
     refine NE<|Dc 34 rfl (q_ian rfl rfl S (by rw [show aT=_ from au]; exact W))<|Do 35<|Xm rfl rfl<|o_stLL0 (us1:=[_,_]) (ps:=[_,_]) (a:=aj) Sz.i rfl rfl rfl rfl (OwnC.mono bj) ii W ap rfl (lB rfl) rfl (Mo.up bJ) (setL_eq S) fun am bk=>JL.fact (fun h=>OwnLL IntR 75 2 h d p (setL u x1 (setL aW b aj)) (aD (row 75 am))) (by rw [setL_eq R]; exact bp _ _ _ ii bk setL_len (fun e x=>Mo.m e x)) fun cb=>NF<|Dd<|Rg<|oq (mI rfl)<|oq (q_add rfl rfl (wi64 b0))<|oq (aI rfl)<|N0<|have hm:=inl_onward hm a5; ?_
     exact ⟨⟨b+1,(setL u x1 (setL aW b aj)),f,d,g,p,(aD (row 75 am))⟩,rfl,⟨rfl,rfl,rfl,rfl,trivial⟩,⟨rfl,trivial⟩,⟨⟨OwnLL.mono cb,(setL_hn E)⟩,Int.le_trans aM (Int.le_of_lt (Int.lt_succ _)),hm,ii⟩,(muN I),ii⟩
   · replace hm:=forN_ge I hm
     unfold M.r12_Work_AddTo_k2 at hm
     refine jF rfl (dF I)<|Jx<|SR<|oq (aI rfl)<|N0<|Jb ?_
     obtain ⟨_,hm⟩:=rngN_some hm
     refine J.loopK (α:=Int×(List (List Int))×Nat×(List Value)×Nat×Nat×Own) (fun ⟨c,z,o,j,l,t,C⟩ h' L'=>(OwnLL IntR 75 2 h' j t z C∧l=z.length)∧0≤c∧forN (M.r12_Work_AddTo_b1 x1 x2 x3) (M.r12_Work_AddTo_k1 x0 B u) x0.V.Rows c z=some r∧Sp ([(n,row 151 k)]++(D++([(f,row 151 d)]++(w++([(o,row 151 j)]++(C++((b0_,row 301 [.int .i64 x0.M.Rows,.int .i64 x0.M.Cols,.slice (some ⟨n,0,none⟩) s y,.int .i64 x0.U.Rows,.int .i64 x0.U.Cols,.slice (some ⟨f,0,none⟩) g p,.int .i64 x0.V.Rows,.int .i64 x0.V.Cols,.slice (some ⟨o,0,none⟩) l t])::(P,row 75 [.bool aH,.slice aV aU aC])::L))))))) L') [(0,.pointer _),(1,.int _ _),(2,.int _ _),(7,.pointer _)] ⟨rfl,rfl,rfl,rfl,trivial⟩ (fun ⟨c,z,o,j,l,t,C⟩=>[(10,.int .i64 c)]) (fun ⟨c,z,o,j,l,t,C⟩=>(x0.V.Rows-c).toNat) ⟨0,x0.V.A,bb0_8,hs0_8,nn0_8,cc0_8,MM0_8⟩ ⟨⟨OwnLL.mono ww0_8,hn0_8⟩,Int.le_refl _,hm,ii⟩ ⟨rfl,trivial⟩ ?_
     rintro ⟨c,z,o,j,l,t,C⟩ _ _ _ _ ⟨⟨ah,F⟩,aN,hm,aA⟩
     refine J.sp aA<|Sq<|SR<|oq (mI rfl)<|oq (q_mvv (v:=.pointer _) rfl)<|oq (q_nil rfl)<|oq (q_fa rfl)<|oq (q_fa rfl)<|oq (q_ld rfl ia rfl)<|oq (q_lss rfl rfl)<|N0 ?_
     by_cases K:c<x0.V.Rows
     · obtain ⟨_,hm,a7⟩:=forN_lt K hm
       unfold M.r12_Work_AddTo_b1 at hm
       refine jT rfl (dT K) ?_
       have b1:-9223372036854775808≤c+1∧c+1≤9223372036854775807:=by omega
       refine Js<|Sq<|Jb<|nE hm fun _ aX H X ax hm=>?_
       obtain ⟨_,ag,_,G,Z⟩:=OwnLL.hdr ah ax
       refine nE hm fun _ _ T Y bg hm=>?_
       obtain ⟨bt,_,_,aG,rfl,_,ay,aq,a0,_,bq⟩:=OwnLL.cell ah ax G bg
       obtain ⟨_,_,_,_,rfl,bK⟩:=IntR.op a0
       refine nE hm fun _ _ a4 bb bh hm=>?_
       obtain ⟨_,a8,a1,_⟩:=OwnC.get ay bh
       obtain ⟨_,_,_,_,rfl,bL⟩:=IntR.op a1
       refine bE hm fun _ bz hm=>bE hm fun ak bA hm=>J.drawB [b0_,o,bt,P] [35]<|Dc 0 rfl (q_mvv (v:=.pointer _) rfl)<|Dc 1 rfl (q_nil rfl)<|Dc 2 rfl (q_fa rfl)<|Dc 3 rfl (q_fa rfl)<|Dl 4 rfl (q_ld rfl ii rfl)<|Dc 5 rfl (mI rfl)<|Dc 6 rfl (q_ian rfl rfl H (by rw [show l=_ from F]; exact X))<|Dl 7 rfl (q_ld rfl ii (hdr_at G))<|Dc 8 rfl (mI rfl)<|Dc 9 rfl (q_mvv (v:=.pointer _) rfl)<|Dc 10 rfl (q_nil rfl)<|Dc 11 rfl (q_fa rfl)<|Dc 12 rfl (q_fa rfl)<|Dl 13 rfl (q_ld rfl ii rfl)<|Dc 14 rfl (mI rfl)<|Dc 15 rfl (q_ian rfl rfl H (by rw [show l=_ from F]; exact X))<|Dl 16 rfl (q_ld rfl ii (hdr_at G))<|Dc 17 rfl (mI rfl)<|Dc 18 rfl (q_ian rfl rfl T (by rw [show ag=_ from Z]; exact Y))<|Dl 19 rfl (q_ldOa0 rfl ii aq)<|Dl 20 rfl (q_lda (vs:=[_,_]) rfl ii ⟨rfl,rfl,trivial⟩)<|Dc 21 rfl (q_mvv (v:=.pointer _) rfl)<|Dc 22 rfl (q_nil rfl)<|Dc 23 rfl (q_fa rfl)<|Dc 24 rfl (q_fa rfl)<|Dl 25 rfl (q_ld rfl ii rfl)<|Dc 26 rfl (mI rfl)<|Dc 27 rfl (q_ian rfl rfl H (by rw [show l=_ from F]; exact X))<|Dl 28 rfl (q_ld rfl ii (hdr_at G))<|Dc 29 rfl (mI rfl)<|Dc 30 rfl (q_ian rfl rfl a4 (by rw [show ag=_ from Z]; exact bb))<|Dl 31 rfl (q_ldOa0 rfl ii a8)<|Do 32<|Xe rfl rfl<|oc (rmul_fn (iu aF) (iu bL) bz) fun _ _ _ b8=>?_
       obtain ⟨_,_,_,_,rfl,bM⟩:=b8.op
       refine NE<|Do 33<|Xe rfl rfl<|oc (r01_Sub_fn (iu bK) (iu bM) bA) fun _ _ _ b9=>?_
       obtain ⟨_,_,_,_,rfl,bN⟩:=b9.op
       refine NE<|Dc 34 rfl (q_ian rfl rfl T (by rw [show ag=_ from Z]; exact Y))<|Do 35<|Xm rfl rfl<|o_stLL0 (us1:=[_,_]) (ps:=[_,_]) (a:=ak) Sz.i rfl rfl rfl rfl (OwnC.mono ay) ii Y aq rfl (lB rfl) rfl (Mo.up bN) (setL_eq T) fun an bl=>JL.fact (fun h=>OwnLL IntR 75 2 h j t (setL z c (setL aX x2 ak)) (aG (row 75 an))) (by rw [setL_eq H]; exact bq _ _ _ ii bl setL_len (fun e x=>Mo.m e x)) fun cd=>NF<|Dd<|Rg<|oq (mI rfl)<|oq (q_add rfl rfl (wi64 b1))<|oq (aI rfl)<|N0<|have hm:=inl_onward hm a7; ?_
       exact ⟨⟨c+1,(setL z c (setL aX x2 ak)),o,j,l,t,(aG (row 75 an))⟩,rfl,⟨rfl,rfl,rfl,rfl,trivial⟩,⟨rfl,trivial⟩,⟨⟨OwnLL.mono cd,(setL_hn F)⟩,Int.le_trans aN (Int.le_of_lt (Int.lt_succ _)),hm,ii⟩,(muN K),ii⟩
     · replace hm:=forN_ge K hm
       unfold M.r12_Work_AddTo_k1 at hm
       refine jF rfl (dF K)<|Jx ?_
       cases hm
       exact ret_okS (fn:=Tryz.f242) (L2:=[(n,row 151 k)]++(D++([(f,row 151 d)]++(w++([(o,row 151 j)]++(C++([(b0_,row 301 [.int .i64 x0.M.Rows,.int .i64 x0.M.Cols,.slice (some ⟨n,0,none⟩) s y,.int .i64 x0.U.Rows,.int .i64 x0.U.Cols,.slice (some ⟨f,0,none⟩) g p,.int .i64 x0.V.Rows,.int .i64 x0.V.Cols,.slice (some ⟨o,0,none⟩) l t])]++(L)))))))) rfl .nil ii ⟨n,k,s,y,D,f,d,g,p,w,o,j,l,t,C,rfl,OwnLL.mono ab,N,OwnLL.mono O,E,OwnLL.mono ah,F,rfl⟩
theorem r12_Work_Swap_own {rr:Option Nat} {nn:Nat} {w0:World} {h0 h:Heap} {L:Own} {x0:R12Work} {x1:Int} {x2:Int} {bb0_2:Nat} {hs0_2:List Value} {nn0_2 cc0_2:Nat} {MM0_2:Own} {bb0_5:Nat} {hs0_5:List Value} {nn0_5 cc0_5:Nat} {MM0_5:Own} {bb0_8:Nat} {hs0_8:List Value} {nn0_8 cc0_8:Nat} {MM0_8:Own} {b0_:Nat} (ww0_2:OwnLL IntR 75 2 h hs0_2 cc0_2 x0.M.A MM0_2) (hn0_2:nn0_2=x0.M.A.length) (ww0_5:OwnLL IntR 75 2 h hs0_5 cc0_5 x0.U.A MM0_5) (hn0_5:nn0_5=x0.U.A.length) (ww0_8:OwnLL IntR 75 2 h hs0_8 cc0_8 x0.V.A MM0_8) (hn0_8:nn0_8=x0.V.A.length) {r:R12Work} (hm:M.r12_Work_Swap x0 x1 x2=some r) :
    FnIn ⟨Tryz.prog,rr,nn,w0,h0⟩ 243 #[.pointer (some ⟨b0_,0,none⟩),.int .i64 x1,.int .i64 x2] h (([(bb0_2,row 151 hs0_2)]++(MM0_2++([(bb0_5,row 151 hs0_5)]++(MM0_5++([(bb0_8,row 151 hs0_8)]++(MM0_8++((b0_,row 301 [.int .i64 x0.M.Rows,.int .i64 x0.M.Cols,.slice (some ⟨bb0_2,0,none⟩) nn0_2 cc0_2,.int .i64 x0.U.Rows,.int .i64 x0.U.Cols,.slice (some ⟨bb0_5,0,none⟩) nn0_5 cc0_5,.int .i64 x0.V.Rows,.int .i64 x0.V.Cols,.slice (some ⟨bb0_8,0,none⟩) nn0_8 cc0_8])::[])))))))++L) fun v h' L'=>∃ (b0_2:Nat) (hs0_2:List Value) (n0_2 c0_2:Nat) (M0_2:Own) (b0_5:Nat) (hs0_5:List Value) (n0_5 c0_5:Nat) (M0_5:Own) (b0_8:Nat) (hs0_8:List Value) (n0_8 c0_8:Nat) (M0_8:Own),v=.tuple ⟨[]⟩∧OwnLL IntR 75 2 h' hs0_2 c0_2 r.M.A M0_2∧n0_2=r.M.A.length∧OwnLL IntR 75 2 h' hs0_5 c0_5 r.U.A M0_5∧n0_5=r.U.A.length∧OwnLL IntR 75 2 h' hs0_8 c0_8 r.V.A M0_8∧n0_8=r.V.A.length∧L'=[(b0_2,row 151 hs0_2)]++(M0_2++([(b0_5,row 151 hs0_5)]++(M0_5++([(b0_8,row 151 hs0_8)]++(M0_8++([(b0_,row 301 [.int .i64 r.M.Rows,.int .i64 r.M.Cols,.slice (some ⟨b0_2,0,none⟩) n0_2 c0_2,.int .i64 r.U.Rows,.int .i64 r.U.Cols,.slice (some ⟨b0_5,0,none⟩) n0_5 c0_5,.int .i64 r.V.Rows,.int .i64 r.V.Cols,.slice (some ⟨b0_8,0,none⟩) n0_8 c0_8])]++(L))))))):=by
 refine FnIn.intro (args:=[_,_,_]) Tryz.func243 rfl rfl (lB rfl)<|J.eqL (L0:=[(bb0_2,row 151 hs0_2)]++(MM0_2++([(bb0_5,row 151 hs0_5)]++(MM0_5++([(bb0_8,row 151 hs0_8)]++(MM0_8++((b0_,row 301 [.int .i64 x0.M.Rows,.int .i64 x0.M.Cols,.slice (some ⟨bb0_2,0,none⟩) nn0_2 cc0_2,.int .i64 x0.U.Rows,.int .i64 x0.U.Cols,.slice (some ⟨bb0_5,0,none⟩) nn0_5 cc0_5,.int .i64 x0.V.Rows,.int .i64 x0.V.Cols,.slice (some ⟨bb0_8,0,none⟩) nn0_8 cc0_8])::L))))))) (by simp)<|Sq<|nE hm fun Y aY y aq F hm=>?_
 obtain ⟨ah,ac,I,am,_⟩:=OwnLL.hdr ww0_2 F
 refine Rg<|oq (q_mvv (v:=.pointer _) rfl)<|oq (q_nil rfl)<|oq (q_fa rfl)<|oq (q_fa rfl)<|oq (q_ld rfl ia rfl)<|oq (mI rfl)<|oq (q_ian rfl rfl y (by rw [show nn0_2=_ from hn0_2]; exact aq))<|oq (q_ld rfl ii (hdr_at am))<|oq (aS rfl)<|N0<|Sq<|nE hm fun Z aZ z ar s hm=>?_
 obtain ⟨ai,ad,K,an,_⟩:=OwnLL.hdr ww0_2 s
 refine J.drawB [b0_,bb0_2] [15]<|Dc 0 rfl (q_mvv (v:=.pointer _) rfl)<|Dc 1 rfl (q_nil rfl)<|Dc 2 rfl (q_fa rfl)<|Dc 3 rfl (q_fa rfl)<|Dl 4 rfl (q_ld rfl ii rfl)<|Dc 5 rfl (mI rfl)<|Dc 6 rfl (q_mvv (v:=.pointer _) rfl)<|Dc 7 rfl (q_nil rfl)<|Dc 8 rfl (q_fa rfl)<|Dc 9 rfl (q_fa rfl)<|Dl 10 rfl (q_ld rfl ii rfl)<|Dc 11 rfl (mI rfl)<|Dc 12 rfl (q_ian rfl rfl z (by rw [show nn0_2=_ from hn0_2]; exact ar))<|Dl 13 rfl (q_ld rfl ii (hdr_at an))<|Dc 14 rfl (q_ian rfl rfl y (by rw [show nn0_2=_ from hn0_2]; exact aq))<|Do 15<|Xm rfl rfl<|o_stH rfl rfl ii (OwnLL.hlen ww0_2 F)<|NF<|Dd<|Sq ?_
 obtain ⟨_,_,_,_,_⟩:=OwnLL.hdr ww0_2 s
 refine Rg<|oq (q_mvv (v:=.pointer _) rfl)<|oq (q_nil rfl)<|oq (q_fa rfl)<|oq (q_fa rfl)<|oq (q_ld rfl ia rfl)<|oq (mI rfl)<|oq (mS rfl)<|oq (q_ian rfl rfl z (by rw [show nn0_2=_ from hn0_2]; exact ar))<|o_stH rfl rfl ii (by rw [List.length_set]; exact OwnLL.hlen ww0_2 s)<|JL.fact (fun h=>OwnLL IntR 75 2 h ((hs0_2.set Y (.slice ai ad K)).set Z (.slice ah ac I)) cc0_2 (setL (setL x0.M.A x1 aZ) x2 aY) MM0_2) (by rw [setL_eq z,setL_eq y]; exact OwnLL.swap (OwnLL.mono ww0_2) F s am an) fun bd=>N0<|Sq<|nE hm fun aa a0 B au G hm=>?_
 obtain ⟨aj,ae,N,ao,_⟩:=OwnLL.hdr ww0_5 G
 refine Rg<|oq (q_mvv (v:=.pointer _) rfl)<|oq (q_nil rfl)<|oq (q_fa rfl)<|oq (q_fa rfl)<|oq (q_ld rfl ia rfl)<|oq (mI rfl)<|oq (q_ian rfl rfl B (by rw [show nn0_5=_ from hn0_5]; exact au))<|oq (q_ld rfl ii (hdr_at ao))<|oq (aS rfl)<|N0<|Sq<|nE hm fun ab a1 C av t hm=>?_
 obtain ⟨ak,af,O,ap,_⟩:=OwnLL.hdr ww0_5 t
 refine J.drawB [b0_,bb0_5] [15]<|Dc 0 rfl (q_mvv (v:=.pointer _) rfl)<|Dc 1 rfl (q_nil rfl)<|Dc 2 rfl (q_fa rfl)<|Dc 3 rfl (q_fa rfl)<|Dl 4 rfl (q_ld rfl ii rfl)<|Dc 5 rfl (mI rfl)<|Dc 6 rfl (q_mvv (v:=.pointer _) rfl)<|Dc 7 rfl (q_nil rfl)<|Dc 8 rfl (q_fa rfl)<|Dc 9 rfl (q_fa rfl)<|Dl 10 rfl (q_ld rfl ii rfl)<|Dc 11 rfl (mI rfl)<|Dc 12 rfl (q_ian rfl rfl C (by rw [show nn0_5=_ from hn0_5]; exact av))<|Dl 13 rfl (q_ld rfl ii (hdr_at ap))<|Dc 14 rfl (q_ian rfl rfl B (by rw [show nn0_5=_ from hn0_5]; exact au))<|Do 15<|Xm rfl rfl<|o_stH rfl rfl ii (OwnLL.hlen ww0_5 G)<|NF<|Dd<|Sq ?_
 obtain ⟨_,_,_,_,_⟩:=OwnLL.hdr ww0_5 t
 refine Rg<|oq (q_mvv (v:=.pointer _) rfl)<|oq (q_nil rfl)<|oq (q_fa rfl)<|oq (q_fa rfl)<|oq (q_ld rfl ia rfl)<|oq (mI rfl)<|oq (mS rfl)<|oq (q_ian rfl rfl C (by rw [show nn0_5=_ from hn0_5]; exact av))<|o_stH rfl rfl ii (by rw [List.length_set]; exact OwnLL.hlen ww0_5 t)<|JL.fact (fun h=>OwnLL IntR 75 2 h ((hs0_5.set aa (.slice ak af O)).set ab (.slice aj ae N)) cc0_5 (setL (setL x0.U.A x1 a1) x2 a0) MM0_5) (by rw [setL_eq C,setL_eq B]; exact OwnLL.swap (OwnLL.mono ww0_5) G t ao ap) fun be=>N0<|SR<|oq (aI rfl)<|N0<|Jb ?_
 obtain ⟨_,hm⟩:=rngN_some hm
 refine J.loopK (α:=Int×(List (List Int))×Nat×(List Value)×Nat×Nat×Own) (fun ⟨b,j,f,c,d,g,l⟩ h' L'=>(OwnLL IntR 75 2 h' c g j l∧d=j.length)∧0≤b∧forN (M.r12_Work_Swap_b1 x1 x2) (M.r12_Work_Swap_k1 x0 x1 x2 aY aZ a0 a1) x0.V.Rows b j=some r∧Sp ([(bb0_2,row 151 ((hs0_2.set Y (.slice ai ad K)).set Z (.slice ah ac I)))]++(MM0_2++([(bb0_5,row 151 ((hs0_5.set aa (.slice ak af O)).set ab (.slice aj ae N)))]++(MM0_5++([(f,row 151 c)]++(l++((b0_,row 301 [.int .i64 x0.M.Rows,.int .i64 x0.M.Cols,.slice (some ⟨bb0_2,0,none⟩) nn0_2 cc0_2,.int .i64 x0.U.Rows,.int .i64 x0.U.Cols,.slice (some ⟨bb0_5,0,none⟩) nn0_5 cc0_5,.int .i64 x0.V.Rows,.int .i64 x0.V.Cols,.slice (some ⟨f,0,none⟩) d g])::L))))))) L') [(0,.pointer _),(1,.int _ _),(2,.int _ _)] ⟨rfl,rfl,rfl,trivial⟩ (fun ⟨b,j,f,c,d,g,l⟩=>[(7,.int .i64 b)]) (fun ⟨b,j,f,c,d,g,l⟩=>(x0.V.Rows-b).toNat) ⟨0,x0.V.A,bb0_8,hs0_8,nn0_8,cc0_8,MM0_8⟩ ⟨⟨OwnLL.mono ww0_8,hn0_8⟩,Int.le_refl _,hm,ii⟩ ⟨rfl,trivial⟩ ?_
 rintro ⟨b,j,f,c,d,g,l⟩ _ _ _ _ ⟨⟨aA,k⟩,aP,hm,aw⟩
 refine J.sp aw<|Sq<|SR<|oq (mI rfl)<|oq (q_mvv (v:=.pointer _) rfl)<|oq (q_nil rfl)<|oq (q_fa rfl)<|oq (q_fa rfl)<|oq (q_ld rfl ia rfl)<|oq (q_lss rfl rfl)<|N0 ?_
 by_cases w:b<x0.V.Rows
 · obtain ⟨_,hm,a9⟩:=forN_lt w hm
   unfold M.r12_Work_Swap_b1 at hm
   refine jT rfl (dT w) ?_
   have bc:-9223372036854775808≤b+1∧b+1≤9223372036854775807:=by omega
   refine Js<|Sq<|Jb<|Sq<|nE hm fun _ aD p D ax hm=>?_
   obtain ⟨_,ay,_,n,E⟩:=OwnLL.hdr aA ax
   refine nE hm fun _ H o q aR hm=>?_
   obtain ⟨a4,_,_,a6,rfl,_,ag,T,aG,_,a2⟩:=OwnLL.cell aA ax n aR
   obtain ⟨_,_,_,_,rfl,a7⟩:=IntR.op aG
   refine Rg<|oq (q_mvv (v:=.pointer _) rfl)<|oq (q_nil rfl)<|oq (q_fa rfl)<|oq (q_fa rfl)<|oq (q_ld rfl ia rfl)<|oq (mI rfl)<|oq (q_ian rfl rfl p (by rw [show d=_ from k]; exact D))<|oq (q_ld rfl ii (hdr_at n))<|oq (mI rfl)<|oq (q_ian rfl rfl o (by rw [show ay=_ from E]; exact q))<|oq (q_ldOa0 rfl ii T)<|o_al fun a5=>Sc [.bool _,.slice _ _ _] [.bool _,.slice _ _ _] rfl rfl rfl rfl rfl ia rfl rfl<|N0<|Sq<|nE hm fun _ u aK aN aT hm=>?_
   obtain ⟨_,aL,aH,_⟩:=OwnC.get ag aT
   obtain ⟨_,_,_,_,rfl,a8⟩:=IntR.op aH
   refine J.drawB [b0_,f,a4] [21]<|Dc 0 rfl (q_mvv (v:=.pointer _) rfl)<|Dc 1 rfl (q_nil rfl)<|Dc 2 rfl (q_fa rfl)<|Dc 3 rfl (q_fa rfl)<|Dl 4 rfl (q_ld rfl ii rfl)<|Dc 5 rfl (mI rfl)<|Dc 6 rfl (q_ian rfl rfl p (by rw [show d=_ from k]; exact D))<|Dl 7 rfl (q_ld rfl ii (hdr_at n))<|Dc 8 rfl (mI rfl)<|Dc 9 rfl (q_mvv (v:=.pointer _) rfl)<|Dc 10 rfl (q_nil rfl)<|Dc 11 rfl (q_fa rfl)<|Dc 12 rfl (q_fa rfl)<|Dl 13 rfl (q_ld rfl ii rfl)<|Dc 14 rfl (mI rfl)<|Dc 15 rfl (q_ian rfl rfl p (by rw [show d=_ from k]; exact D))<|Dl 16 rfl (q_ld rfl ii (hdr_at n))<|Dc 17 rfl (mI rfl)<|Dc 18 rfl (q_ian rfl rfl aK (by rw [show ay=_ from E]; exact aN))<|Dl 19 rfl (q_ldOa0 rfl ii aL)<|Dc 20 rfl (q_ian rfl rfl o (by rw [show ay=_ from E]; exact q))<|Do 21<|Xm rfl rfl<|o_stLL0 (us1:=[_,_]) (ps:=[_,_]) (a:=u) Sz.i rfl rfl rfl rfl (OwnC.mono ag) ii q T rfl (lB rfl) rfl (Mo.up a8) (setL_eq o) fun aF aV=>JL.fact (fun h=>OwnLL IntR 75 2 h c g (setL j b (setL aD x1 u)) (a6 (row 75 aF))) (by rw [setL_eq p]; exact a2 _ _ _ ii aV setL_len (fun e x=>Mo.m e x)) fun az=>NF<|Dd<|nE hm fun _ aC R aO X hm=>?_
   obtain ⟨_,ba,_,Q,aQ⟩:=OwnLL.hdr az X
   refine nE hm fun _ _ S W aU hm=>?_
   obtain ⟨_,_,_,al,rfl,_,aW,aM,aJ,_,a3⟩:=OwnLL.cell az X Q aU
   obtain ⟨_,_,_,_,rfl,_⟩:=IntR.op aJ
   refine J.drawB [b0_,f,a5] []<|Dc 0 rfl (q_mvv (v:=.pointer _) rfl)<|Dc 1 rfl (q_nil rfl)<|Dc 2 rfl (q_fa rfl)<|Dc 3 rfl (q_fa rfl)<|Dl 4 rfl (q_ld rfl ii rfl)<|Dc 5 rfl (mI rfl)<|Dc 6 rfl (q_ian rfl rfl R (by rw [show d=_ from (setL_hn k)]; exact aO))<|Dl 7 rfl (q_ld rfl ii (hdr_at Q))<|Dc 8 rfl (mI rfl)<|Dl 9 rfl (q_lda (vs:=[_,_]) rfl ii ⟨rfl,rfl,trivial⟩)<|Dc 10 rfl (q_ian rfl rfl S (by rw [show ba=_ from aQ]; exact W))<|Do 11<|Xe rfl rfl<|o_stLL0 (us1:=[_,_]) (ps:=[_,_]) (a:=H) Sz.i rfl rfl rfl rfl (OwnC.mono aW) ii W aM rfl (lB rfl) rfl (Mo.up a7) (setL_eq S) fun P aX=>JL.fact (fun h=>OwnLL IntR 75 2 h c g (setL (setL j b (setL aD x1 u)) b (setL aC x2 H)) (al (row 75 P))) (by rw [setL_eq R]; exact a3 _ _ _ ii aX setL_len (fun e x=>Mo.m e x)) fun bb=>NE<|Dd<|Rg<|oq (mI rfl)<|oq (q_add rfl rfl (wi64 bc))<|oq (aI rfl)<|N0<|have hm:=inl_onward hm a9; ?_
   exact ⟨⟨b+1,(setL (setL j b (setL aD x1 u)) b (setL aC x2 H)),f,c,d,g,(al (row 75 P))⟩,rfl,⟨rfl,rfl,rfl,trivial⟩,⟨rfl,trivial⟩,⟨⟨OwnLL.mono bb,(setL_hn (setL_hn k))⟩,Int.le_trans aP (Int.le_of_lt (Int.lt_succ _)),hm,ii⟩,(muN w),ii⟩
 · replace hm:=forN_ge w hm
   unfold M.r12_Work_Swap_k1 at hm
   refine jF rfl (dF w)<|Jx ?_
   cases hm
   exact ret_okS (fn:=Tryz.f243) (L2:=[(bb0_2,row 151 ((hs0_2.set Y (.slice ai ad K)).set Z (.slice ah ac I)))]++(MM0_2++([(bb0_5,row 151 ((hs0_5.set aa (.slice ak af O)).set ab (.slice aj ae N)))]++(MM0_5++([(f,row 151 c)]++(l++([(b0_,row 301 [.int .i64 x0.M.Rows,.int .i64 x0.M.Cols,.slice (some ⟨bb0_2,0,none⟩) nn0_2 cc0_2,.int .i64 x0.U.Rows,.int .i64 x0.U.Cols,.slice (some ⟨bb0_5,0,none⟩) nn0_5 cc0_5,.int .i64 x0.V.Rows,.int .i64 x0.V.Cols,.slice (some ⟨f,0,none⟩) d g])]++(L)))))))) rfl .nil ii ⟨bb0_2,((hs0_2.set Y (.slice ai ad K)).set Z (.slice ah ac I)),nn0_2,cc0_2,MM0_2,bb0_5,((hs0_5.set aa (.slice ak af O)).set ab (.slice aj ae N)),nn0_5,cc0_5,MM0_5,f,c,d,g,l,rfl,OwnLL.mono bd,(setL_hn (setL_hn hn0_2)),OwnLL.mono be,(setL_hn (setL_hn hn0_5)),OwnLL.mono aA,k,rfl⟩
theorem r12_Work_Negate_own {rr:Option Nat} {nn:Nat} {w0:World} {h0 h:Heap} {L:Own} {x0:R12Work} {x1:Int} {bb0_2:Nat} {hs0_2:List Value} {nn0_2 cc0_2:Nat} {MM0_2:Own} {bb0_5:Nat} {hs0_5:List Value} {nn0_5 cc0_5:Nat} {MM0_5:Own} {bb0_8:Nat} {hs0_8:List Value} {nn0_8 cc0_8:Nat} {MM0_8:Own} {b0_:Nat} (ww0_2:OwnLL IntR 75 2 h hs0_2 cc0_2 x0.M.A MM0_2) (hn0_2:nn0_2=x0.M.A.length) (ww0_5:OwnLL IntR 75 2 h hs0_5 cc0_5 x0.U.A MM0_5) (hn0_5:nn0_5=x0.U.A.length) (ww0_8:OwnLL IntR 75 2 h hs0_8 cc0_8 x0.V.A MM0_8) (hn0_8:nn0_8=x0.V.A.length) {r:R12Work} (hm:M.r12_Work_Negate x0 x1=some r) :
    FnIn ⟨Tryz.prog,rr,nn,w0,h0⟩ 244 #[.pointer (some ⟨b0_,0,none⟩),.int .i64 x1] h (([(bb0_2,row 151 hs0_2)]++(MM0_2++([(bb0_5,row 151 hs0_5)]++(MM0_5++([(bb0_8,row 151 hs0_8)]++(MM0_8++((b0_,row 301 [.int .i64 x0.M.Rows,.int .i64 x0.M.Cols,.slice (some ⟨bb0_2,0,none⟩) nn0_2 cc0_2,.int .i64 x0.U.Rows,.int .i64 x0.U.Cols,.slice (some ⟨bb0_5,0,none⟩) nn0_5 cc0_5,.int .i64 x0.V.Rows,.int .i64 x0.V.Cols,.slice (some ⟨bb0_8,0,none⟩) nn0_8 cc0_8])::[])))))))++L) fun v h' L'=>∃ (b0_2:Nat) (hs0_2:List Value) (n0_2 c0_2:Nat) (M0_2:Own) (b0_5:Nat) (hs0_5:List Value) (n0_5 c0_5:Nat) (M0_5:Own) (b0_8:Nat) (hs0_8:List Value) (n0_8 c0_8:Nat) (M0_8:Own),v=.tuple ⟨[]⟩∧OwnLL IntR 75 2 h' hs0_2 c0_2 r.M.A M0_2∧n0_2=r.M.A.length∧OwnLL IntR 75 2 h' hs0_5 c0_5 r.U.A M0_5∧n0_5=r.U.A.length∧OwnLL IntR 75 2 h' hs0_8 c0_8 r.V.A M0_8∧n0_8=r.V.A.length∧L'=[(b0_2,row 151 hs0_2)]++(M0_2++([(b0_5,row 151 hs0_5)]++(M0_5++([(b0_8,row 151 hs0_8)]++(M0_8++([(b0_,row 301 [.int .i64 r.M.Rows,.int .i64 r.M.Cols,.slice (some ⟨b0_2,0,none⟩) n0_2 c0_2,.int .i64 r.U.Rows,.int .i64 r.U.Cols,.slice (some ⟨b0_5,0,none⟩) n0_5 c0_5,.int .i64 r.V.Rows,.int .i64 r.V.Cols,.slice (some ⟨b0_8,0,none⟩) n0_8 c0_8])]++(L))))))):=by
 refine FnIn.intro (args:=[_,_]) Tryz.func244 rfl rfl (lB rfl)<|J.eqL (L0:=[(bb0_2,row 151 hs0_2)]++(MM0_2++([(bb0_5,row 151 hs0_5)]++(MM0_5++([(bb0_8,row 151 hs0_8)]++(MM0_8++((b0_,row 301 [.int .i64 x0.M.Rows,.int .i64 x0.M.Cols,.slice (some ⟨bb0_2,0,none⟩) nn0_2 cc0_2,.int .i64 x0.U.Rows,.int .i64 x0.U.Cols,.slice (some ⟨bb0_5,0,none⟩) nn0_5 cc0_5,.int .i64 x0.V.Rows,.int .i64 x0.V.Cols,.slice (some ⟨bb0_8,0,none⟩) nn0_8 cc0_8])::L))))))) (by simp)<|Sq<|SR<|oq (aI rfl)<|N0<|Jb ?_
 obtain ⟨_,hm⟩:=rngN_some hm
 refine J.loopK (α:=Int×(List (List Int))×Nat×(List Value)×Nat×Nat×Own) (fun ⟨l,y,f,d,q,s,B⟩ h' L'=>(OwnLL IntR 75 2 h' d s y B∧q=y.length)∧0≤l∧forN (M.r12_Work_Negate_b3 x1) (M.r12_Work_Negate_k3 x0 x1) x0.M.Cols l y=some r∧Sp ([(f,row 151 d)]++(B++([(bb0_5,row 151 hs0_5)]++(MM0_5++([(bb0_8,row 151 hs0_8)]++(MM0_8++((b0_,row 301 [.int .i64 x0.M.Rows,.int .i64 x0.M.Cols,.slice (some ⟨f,0,none⟩) q s,.int .i64 x0.U.Rows,.int .i64 x0.U.Cols,.slice (some ⟨bb0_5,0,none⟩) nn0_5 cc0_5,.int .i64 x0.V.Rows,.int .i64 x0.V.Cols,.slice (some ⟨bb0_8,0,none⟩) nn0_8 cc0_8])::L))))))) L') [(0,.pointer _),(1,.int _ _)] ⟨rfl,rfl,trivial⟩ (fun ⟨l,y,f,d,q,s,B⟩=>[(4,.int .i64 l)]) (fun ⟨l,y,f,d,q,s,B⟩=>(x0.M.Cols-l).toNat) ⟨0,x0.M.A,bb0_2,hs0_2,nn0_2,cc0_2,MM0_2⟩ ⟨⟨OwnLL.mono ww0_2,hn0_2⟩,Int.le_refl _,hm,ii⟩ ⟨rfl,trivial⟩ ?_
 rintro ⟨l,y,f,d,q,s,B⟩ _ _ _ _ ⟨⟨aF,R⟩,aN,hm,ay⟩
 refine J.sp ay<|Sq<|SR<|oq (mI rfl)<|oq (q_mvv (v:=.pointer _) rfl)<|oq (q_nil rfl)<|oq (q_fa rfl)<|oq (q_fa rfl)<|oq (q_ld rfl ia rfl)<|oq (q_lss rfl rfl)<|N0 ?_
 by_cases T:l<x0.M.Cols
 · obtain ⟨_,hm,bb⟩:=forN_lt T hm
   unfold M.r12_Work_Negate_b3 at hm
   refine jT rfl (dT T) ?_
   have bq:-9223372036854775808≤l+1∧l+1≤9223372036854775807:=by omega
   refine Js<|Sq<|Jb<|nE hm fun _ aY Y av aA hm=>?_
   obtain ⟨_,aX,_,X,ax⟩:=OwnLL.hdr aF aA
   refine nE hm fun _ _ Z aa bd hm=>?_
   obtain ⟨bm,_,_,aW,rfl,_,bf,au,ba,_,bl⟩:=OwnLL.cell aF aA X bd
   obtain ⟨_,_,_,_,rfl,bo⟩:=IntR.op ba
   refine bE hm fun aJ bn hm=>J.drawB [b0_,f,bm] [22]<|Dc 0 rfl (q_mvv (v:=.pointer _) rfl)<|Dc 1 rfl (q_nil rfl)<|Dc 2 rfl (q_fa rfl)<|Dc 3 rfl (q_fa rfl)<|Dl 4 rfl (q_ld rfl ii rfl)<|Dc 5 rfl (mI rfl)<|Dc 6 rfl (q_ian rfl rfl Y (by rw [show q=_ from R]; exact av))<|Dl 7 rfl (q_ld rfl ii (hdr_at X))<|Dc 8 rfl (mI rfl)<|Dc 9 rfl (q_mvv (v:=.pointer _) rfl)<|Dc 10 rfl (q_nil rfl)<|Dc 11 rfl (q_fa rfl)<|Dc 12 rfl (q_fa rfl)<|Dl 13 rfl (q_ld rfl ii rfl)<|Dc 14 rfl (mI rfl)<|Dc 15 rfl (q_ian rfl rfl Y (by rw [show q=_ from R]; exact av))<|Dl 16 rfl (q_ld rfl ii (hdr_at X))<|Dc 17 rfl (mI rfl)<|Dc 18 rfl (q_ian rfl rfl Z (by rw [show aX=_ from ax]; exact aa))<|Dl 19 rfl (q_ldOa0 rfl ii au)<|Do 20<|Xe rfl rfl<|oc (rneg_fn (iu bo) bn) fun _ _ _ bs=>?_
   obtain ⟨_,_,_,_,rfl,bp⟩:=bs.op
   refine NE<|Dc 21 rfl (q_ian rfl rfl Z (by rw [show aX=_ from ax]; exact aa))<|Do 22<|Xm rfl rfl<|o_stLL0 (us1:=[_,_]) (ps:=[_,_]) (a:=aJ) Sz.i rfl rfl rfl rfl (OwnC.mono bf) ii aa au rfl (lB rfl) rfl (Mo.up bp) (setL_eq Z) fun ap bg=>JL.fact (fun h=>OwnLL IntR 75 2 h d s (setL y x1 (setL aY l aJ)) (aW (row 75 ap))) (by rw [setL_eq Y]; exact bl _ _ _ ii bg setL_len (fun e x=>Mo.m e x)) fun bt=>NF<|Dd<|Rg<|oq (mI rfl)<|oq (q_add rfl rfl (wi64 bq))<|oq (aI rfl)<|N0<|have hm:=inl_onward hm bb; ?_
   exact ⟨⟨l+1,(setL y x1 (setL aY l aJ)),f,d,q,s,(aW (row 75 ap))⟩,rfl,⟨rfl,rfl,trivial⟩,⟨rfl,trivial⟩,⟨⟨OwnLL.mono bt,(setL_hn R)⟩,Int.le_trans aN (Int.le_of_lt (Int.lt_succ _)),hm,ii⟩,(muN T),ii⟩
 · replace hm:=forN_ge T hm
   unfold M.r12_Work_Negate_k3 at hm
   refine jF rfl (dF T)<|Jx<|Sq<|SR<|oq (aI rfl)<|N0<|Jb ?_
   obtain ⟨_,hm⟩:=rngN_some hm
   refine J.loopK (α:=Int×(List (List Int))×Nat×(List Value)×Nat×Nat×Own) (fun ⟨n,C,p,j,t,w,D⟩ h' L'=>(OwnLL IntR 75 2 h' j w C D∧t=C.length)∧0≤n∧forN (M.r12_Work_Negate_b2 x1) (M.r12_Work_Negate_k2 x0 x1 y) x0.U.Cols n C=some r∧Sp ([(f,row 151 d)]++(B++([(p,row 151 j)]++(D++([(bb0_8,row 151 hs0_8)]++(MM0_8++((b0_,row 301 [.int .i64 x0.M.Rows,.int .i64 x0.M.Cols,.slice (some ⟨f,0,none⟩) q s,.int .i64 x0.U.Rows,.int .i64 x0.U.Cols,.slice (some ⟨p,0,none⟩) t w,.int .i64 x0.V.Rows,.int .i64 x0.V.Cols,.slice (some ⟨bb0_8,0,none⟩) nn0_8 cc0_8])::L))))))) L') [(0,.pointer _),(1,.int _ _)] ⟨rfl,rfl,trivial⟩ (fun ⟨n,C,p,j,t,w,D⟩=>[(5,.int .i64 n)]) (fun ⟨n,C,p,j,t,w,D⟩=>(x0.U.Cols-n).toNat) ⟨0,x0.U.A,bb0_5,hs0_5,nn0_5,cc0_5,MM0_5⟩ ⟨⟨OwnLL.mono ww0_5,hn0_5⟩,Int.le_refl _,hm,ii⟩ ⟨rfl,trivial⟩ ?_
   rintro ⟨n,C,p,j,t,w,D⟩ _ _ _ _ ⟨⟨aG,S⟩,aO,hm,az⟩
   refine J.sp az<|Sq<|SR<|oq (mI rfl)<|oq (q_mvv (v:=.pointer _) rfl)<|oq (q_nil rfl)<|oq (q_fa rfl)<|oq (q_fa rfl)<|oq (q_ld rfl ia rfl)<|oq (q_lss rfl rfl)<|N0 ?_
   by_cases W:n<x0.U.Cols
   · obtain ⟨_,hm,bc⟩:=forN_lt W hm
     unfold M.r12_Work_Negate_b2 at hm
     refine jT rfl (dT W) ?_
     have br:-9223372036854775808≤n+1∧n+1≤9223372036854775807:=by omega
     refine Js<|Sq<|Jb<|nE hm fun _ aZ I ai am hm=>?_
     obtain ⟨_,aC,_,G,ak⟩:=OwnLL.hdr aG am
     refine nE hm fun _ _ K P aP hm=>?_
     obtain ⟨a2,_,_,aq,rfl,_,aR,ag,aK,_,a0⟩:=OwnLL.cell aG am G aP
     obtain ⟨_,_,_,_,rfl,a6⟩:=IntR.op aK
     refine bE hm fun ac a4 hm=>J.drawB [b0_,p,a2] [22]<|Dc 0 rfl (q_mvv (v:=.pointer _) rfl)<|Dc 1 rfl (q_nil rfl)<|Dc 2 rfl (q_fa rfl)<|Dc 3 rfl (q_fa rfl)<|Dl 4 rfl (q_ld rfl ii rfl)<|Dc 5 rfl (mI rfl)<|Dc 6 rfl (q_ian rfl rfl I (by rw [show t=_ from S]; exact ai))<|Dl 7 rfl (q_ld rfl ii (hdr_at G))<|Dc 8 rfl (mI rfl)<|Dc 9 rfl (q_mvv (v:=.pointer _) rfl)<|Dc 10 rfl (q_nil rfl)<|Dc 11 rfl (q_fa rfl)<|Dc 12 rfl (q_fa rfl)<|Dl 13 rfl (q_ld rfl ii rfl)<|Dc 14 rfl (mI rfl)<|Dc 15 rfl (q_ian rfl rfl I (by rw [show t=_ from S]; exact ai))<|Dl 16 rfl (q_ld rfl ii (hdr_at G))<|Dc 17 rfl (mI rfl)<|Dc 18 rfl (q_ian rfl rfl K (by rw [show aC=_ from ak]; exact P))<|Dl 19 rfl (q_ldOa0 rfl ii ag)<|Do 20<|Xe rfl rfl<|oc (rneg_fn (iu a6) a4) fun _ _ _ bh=>?_
     obtain ⟨_,_,_,_,rfl,a7⟩:=bh.op
     refine NE<|Dc 21 rfl (q_ian rfl rfl K (by rw [show aC=_ from ak]; exact P))<|Do 22<|Xm rfl rfl<|o_stLL0 (us1:=[_,_]) (ps:=[_,_]) (a:=ac) Sz.i rfl rfl rfl rfl (OwnC.mono aR) ii P ag rfl (lB rfl) rfl (Mo.up a7) (setL_eq K) fun ae aT=>JL.fact (fun h=>OwnLL IntR 75 2 h j w (setL C x1 (setL aZ n ac)) (aq (row 75 ae))) (by rw [setL_eq I]; exact a0 _ _ _ ii aT setL_len (fun e x=>Mo.m e x)) fun bj=>NF<|Dd<|Rg<|oq (mI rfl)<|oq (q_add rfl rfl (wi64 br))<|oq (aI rfl)<|N0<|have hm:=inl_onward hm bc; ?_
     exact ⟨⟨n+1,(setL C x1 (setL aZ n ac)),p,j,t,w,(aq (row 75 ae))⟩,rfl,⟨rfl,rfl,trivial⟩,⟨rfl,trivial⟩,⟨⟨OwnLL.mono bj,(setL_hn S)⟩,Int.le_trans aO (Int.le_of_lt (Int.lt_succ _)),hm,ii⟩,(muN W),ii⟩
   · replace hm:=forN_ge W hm
     unfold M.r12_Work_Negate_k2 at hm
     refine jF rfl (dF W)<|Jx<|SR<|oq (aI rfl)<|N0<|Jb ?_
     obtain ⟨_,hm⟩:=rngN_some hm
     refine J.loopK (α:=Int×(List (List Int))×Nat×(List Value)×Nat×Nat×Own) (fun ⟨b,u,g,c,k,o,z⟩ h' L'=>(OwnLL IntR 75 2 h' c o u z∧k=u.length)∧0≤b∧forN (M.r12_Work_Negate_b1 x1) (M.r12_Work_Negate_k1 x0 y C) x0.V.Rows b u=some r∧Sp ([(f,row 151 d)]++(B++([(p,row 151 j)]++(D++([(g,row 151 c)]++(z++((b0_,row 301 [.int .i64 x0.M.Rows,.int .i64 x0.M.Cols,.slice (some ⟨f,0,none⟩) q s,.int .i64 x0.U.Rows,.int .i64 x0.U.Cols,.slice (some ⟨p,0,none⟩) t w,.int .i64 x0.V.Rows,.int .i64 x0.V.Cols,.slice (some ⟨g,0,none⟩) k o])::L))))))) L') [(0,.pointer _),(1,.int _ _)] ⟨rfl,rfl,trivial⟩ (fun ⟨b,u,g,c,k,o,z⟩=>[(6,.int .i64 b)]) (fun ⟨b,u,g,c,k,o,z⟩=>(x0.V.Rows-b).toNat) ⟨0,x0.V.A,bb0_8,hs0_8,nn0_8,cc0_8,MM0_8⟩ ⟨⟨OwnLL.mono ww0_8,hn0_8⟩,Int.le_refl _,hm,ii⟩ ⟨rfl,trivial⟩ ?_
     rintro ⟨b,u,g,c,k,o,z⟩ _ _ _ _ ⟨⟨ab,E⟩,aw,hm,ao⟩
     refine J.sp ao<|Sq<|SR<|oq (mI rfl)<|oq (q_mvv (v:=.pointer _) rfl)<|oq (q_nil rfl)<|oq (q_fa rfl)<|oq (q_fa rfl)<|oq (q_ld rfl ia rfl)<|oq (q_lss rfl rfl)<|N0 ?_
     by_cases F:b<x0.V.Rows
     · obtain ⟨_,hm,aM⟩:=forN_lt F hm
       unfold M.r12_Work_Negate_b1 at hm
       refine jT rfl (dT F) ?_
       have be:-9223372036854775808≤b+1∧b+1≤9223372036854775807:=by omega
       refine Js<|Sq<|Jb<|nE hm fun _ aH N aj an hm=>?_
       obtain ⟨_,aD,_,H,al⟩:=OwnLL.hdr ab an
       refine nE hm fun _ _ O Q aQ hm=>?_
       obtain ⟨a3,_,_,ar,rfl,_,aU,ah,aL,_,a1⟩:=OwnLL.cell ab an H aQ
       obtain ⟨_,_,_,_,rfl,a8⟩:=IntR.op aL
       refine bE hm fun ad a5 hm=>J.drawB [b0_,g,a3] [22]<|Dc 0 rfl (q_mvv (v:=.pointer _) rfl)<|Dc 1 rfl (q_nil rfl)<|Dc 2 rfl (q_fa rfl)<|Dc 3 rfl (q_fa rfl)<|Dl 4 rfl (q_ld rfl ii rfl)<|Dc 5 rfl (mI rfl)<|Dc 6 rfl (q_ian rfl rfl N (by rw [show k=_ from E]; exact aj))<|Dl 7 rfl (q_ld rfl ii (hdr_at H))<|Dc 8 rfl (mI rfl)<|Dc 9 rfl (q_mvv (v:=.pointer _) rfl)<|Dc 10 rfl (q_nil rfl)<|Dc 11 rfl (q_fa rfl)<|Dc 12 rfl (q_fa rfl)<|Dl 13 rfl (q_ld rfl ii rfl)<|Dc 14 rfl (mI rfl)<|Dc 15 rfl (q_ian rfl rfl N (by rw [show k=_ from E]; exact aj))<|Dl 16 rfl (q_ld rfl ii (hdr_at H))<|Dc 17 rfl (mI rfl)<|Dc 18 rfl (q_ian rfl rfl O (by rw [show aD=_ from al]; exact Q))<|Dl 19 rfl (q_ldOa0 rfl ii ah)<|Do 20<|Xe rfl rfl<|oc (rneg_fn (iu a8) a5) fun _ _ _ bi=>?_
       obtain ⟨_,_,_,_,rfl,a9⟩:=bi.op
       refine NE<|Dc 21 rfl (q_ian rfl rfl O (by rw [show aD=_ from al]; exact Q))<|Do 22<|Xm rfl rfl<|o_stLL0 (us1:=[_,_]) (ps:=[_,_]) (a:=ad) Sz.i rfl rfl rfl rfl (OwnC.mono aU) ii Q ah rfl (lB rfl) rfl (Mo.up a9) (setL_eq O) fun af aV=>JL.fact (fun h=>OwnLL IntR 75 2 h c o (setL u b (setL aH x1 ad)) (ar (row 75 af))) (by rw [setL_eq N]; exact a1 _ _ _ ii aV setL_len (fun e x=>Mo.m e x)) fun bk=>NF<|Dd<|Rg<|oq (mI rfl)<|oq (q_add rfl rfl (wi64 be))<|oq (aI rfl)<|N0<|have hm:=inl_onward hm aM; ?_
       exact ⟨⟨b+1,(setL u b (setL aH x1 ad)),g,c,k,o,(ar (row 75 af))⟩,rfl,⟨rfl,rfl,trivial⟩,⟨rfl,trivial⟩,⟨⟨OwnLL.mono bk,(setL_hn E)⟩,Int.le_trans aw (Int.le_of_lt (Int.lt_succ _)),hm,ii⟩,(muN F),ii⟩
     · replace hm:=forN_ge F hm
       unfold M.r12_Work_Negate_k1 at hm
       refine jF rfl (dF F)<|Jx ?_
       cases hm
       exact ret_okS (fn:=Tryz.f244) (L2:=[(f,row 151 d)]++(B++([(p,row 151 j)]++(D++([(g,row 151 c)]++(z++([(b0_,row 301 [.int .i64 x0.M.Rows,.int .i64 x0.M.Cols,.slice (some ⟨f,0,none⟩) q s,.int .i64 x0.U.Rows,.int .i64 x0.U.Cols,.slice (some ⟨p,0,none⟩) t w,.int .i64 x0.V.Rows,.int .i64 x0.V.Cols,.slice (some ⟨g,0,none⟩) k o])]++(L)))))))) rfl .nil ii ⟨f,d,q,s,B,p,j,t,w,D,g,c,k,o,z,rfl,OwnLL.mono aF,R,OwnLL.mono aG,S,OwnLL.mono ab,E,rfl⟩
end Go.Z
end
