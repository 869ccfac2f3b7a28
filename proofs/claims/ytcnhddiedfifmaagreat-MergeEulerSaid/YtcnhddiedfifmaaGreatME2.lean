/- Texts of ours, joined: Eu, D2, W1, W2, W3, W4, C3, C4, R1, B11, R2, R3, B12, R4, B13, G1, G2, G3, Maps, Maps2, Own2, Own3, Arr, Own4, Own5, Range, MapL. -/
import Derived.Test.YtcnhddiedfifmaaGreatME1
import Derived.RangeFuncRecord
import Derived.RangeFuncLeaves
import Derived.Laws.StructEq
set_option linter.unusedSimpArgs false
set_option linter.unusedVariables false
set_option linter.unusedSectionVars false
set_option linter.deprecated false
set_option maxHeartbeats 4000000
section
namespace Go.Z.Eu
abbrev Fam:=Nat→Nat→Int
def radd (F:Fam) (i:Nat) (k:Int) (j:Nat):Fam:=fun i' c=>if i'=i then F i c+k*F j c else F i' c
def rswp (F:Fam) (i j:Nat):Fam:=fun i'=>if i'=i then F j else if i'=j then F i else F i'
def rneg (F:Fam) (i:Nat):Fam:=fun i' c=>if i'=i then -F i c else F i' c
theorem step_row (a b x y:Int) (hb:b≠0):y.natAbs*(a % b).natAbs+(x-a / b*y).natAbs*b.natAbs≤x.natAbs*b.natAbs+y.natAbs*(a.natAbs+2*(a % b).natAbs):=by
 have h1:(x-a / b*y)*b=x*b-(a-a % b)*y:=by
  have:=Int.emod_add_mul_ediv a b
  have h2:a-a % b=b*(a / b):=by omega
  rw [h2,Int.sub_mul,Int.mul_assoc,Int.mul_comm (a / b) (y*b),Int.mul_assoc y b (a / b),Int.mul_comm y (b*(a / b))]
 have h3:((x-a / b*y)*b).natAbs≤x.natAbs*b.natAbs+(a-a % b).natAbs*y.natAbs:=by
  rw [h1]
  calc (x*b-(a-a % b)*y).natAbs≤(x*b).natAbs+((a-a % b)*y).natAbs:=Int.natAbs_sub_le ..
   _=_:=by rw [Int.natAbs_mul,Int.natAbs_mul]
 rw [Int.natAbs_mul] at h3
 have h4:(a-a % b).natAbs≤a.natAbs+(a % b).natAbs:=Int.natAbs_sub_le ..
 have h5:(a-a % b).natAbs*y.natAbs≤(a.natAbs+(a % b).natAbs)*y.natAbs:=Nat.mul_le_mul_right _ h4
 have h6:(a.natAbs+(a % b).natAbs)*y.natAbs+y.natAbs*(a % b).natAbs=y.natAbs*(a.natAbs+2*(a % b).natAbs):=by
  rw [Nat.mul_comm _ y.natAbs,← Nat.mul_add]; congr 1; omega
 omega
theorem step_row0 (a b x y:Int) (ha:0≤a) (hb:b≠0):y.natAbs*(a % b).natAbs+(x-a / b*y).natAbs*b.natAbs≤x.natAbs*b.natAbs+y.natAbs*a.natAbs:=by
 have h1:(x-a / b*y)*b=x*b-(a-a % b)*y:=by
  have:=Int.emod_add_mul_ediv a b
  have h2:a-a % b=b*(a / b):=by omega
  rw [h2,Int.sub_mul,Int.mul_assoc,Int.mul_comm (a / b) (y*b),Int.mul_assoc y b (a / b),Int.mul_comm y (b*(a / b))]
 have h3:((x-a / b*y)*b).natAbs≤x.natAbs*b.natAbs+(a-a % b).natAbs*y.natAbs:=by
  rw [h1]
  calc (x*b-(a-a % b)*y).natAbs≤(x*b).natAbs+((a-a % b)*y).natAbs:=Int.natAbs_sub_le ..
   _=_:=by rw [Int.natAbs_mul,Int.natAbs_mul]
 rw [Int.natAbs_mul] at h3
 have h7:a % b≤a:=by
  have:=Int.emod_nonneg a hb
  rcases Int.lt_or_le a b.natAbs with h | h
  ·have:a % b=a:=by
    rcases Int.le_total 0 b with h0 | h0
    ·exact Int.emod_eq_of_lt ha (by omega)
    ·rw [← Int.emod_neg]; exact Int.emod_eq_of_lt ha (by omega)
   omega
  ·have:=Int.emod_lt a hb
   omega
 have h8:=Int.emod_nonneg a hb
 have h4:(a-a % b).natAbs=a.natAbs-(a % b).natAbs:=by omega
 have h9:(a % b).natAbs≤a.natAbs:=by omega
 have h6:(a.natAbs-(a % b).natAbs)*y.natAbs+y.natAbs*(a % b).natAbs=y.natAbs*a.natAbs:=by
  rw [Nat.mul_comm _ y.natAbs,← Nat.mul_add]; congr 1; omega
 rw [h4] at h3
 omega
theorem qb_le (a b:Int) (hb:b≠0):(a / b).natAbs*b.natAbs+(a % b).natAbs≤a.natAbs+2*(a % b).natAbs:=by
 have:=Int.emod_add_mul_ediv a b
 have h2:a / b*b=a-a % b:=by rw [Int.mul_comm]; omega
 have h3:(a / b).natAbs*b.natAbs=(a-a % b).natAbs:=by rw [← Int.natAbs_mul,h2]
 have h4:(a-a % b).natAbs≤a.natAbs+(a % b).natAbs:=Int.natAbs_sub_le ..
 omega
theorem mod_le {a b:Int} (ha:0≤a) (hb:b≠0):a % b≤a:=by
 have:=Int.emod_nonneg a hb
 rcases Int.lt_or_le a b.natAbs with h | h
 ·have:a % b=a:=by
   rcases Int.le_total 0 b with h0 | h0
   ·exact Int.emod_eq_of_lt ha (by omega)
   ·rw [← Int.emod_neg]; exact Int.emod_eq_of_lt ha (by omega)
  omega
 ·have:=Int.emod_lt a hb
  omega
theorem qb_le0 (a b:Int) (ha:0≤a) (hb:b≠0):(a / b).natAbs*b.natAbs+(a % b).natAbs=a.natAbs:=by
 have:=Int.emod_add_mul_ediv a b
 have h2:a / b*b=a-a % b:=by rw [Int.mul_comm]; omega
 have h3:(a / b).natAbs*b.natAbs=(a-a % b).natAbs:=by rw [← Int.natAbs_mul,h2]
 have h7:=mod_le ha hb
 have h8:=Int.emod_nonneg a hb
 omega
theorem step_col (a b s t:Int) (w:Nat) (hw:(a / b).natAbs*b.natAbs+(a % b).natAbs≤w):(t+a / b*s).natAbs*b.natAbs+s.natAbs*(a % b).natAbs≤s.natAbs*w+t.natAbs*b.natAbs:=by
 have h1:((t+a / b*s)*b).natAbs≤t.natAbs*b.natAbs+(a / b).natAbs*b.natAbs*s.natAbs:=by
  rw [Int.add_mul]
  calc (t*b+a / b*s*b).natAbs≤(t*b).natAbs+(a / b*s*b).natAbs:=Int.natAbs_add_le ..
   _=_:=by rw [Int.natAbs_mul,Int.natAbs_mul,Int.natAbs_mul,Nat.mul_right_comm]
 rw [Int.natAbs_mul] at h1
 have h2:=Nat.mul_le_mul_left s.natAbs hw
 rw [Nat.mul_add] at h2
 rw [Nat.mul_comm _ s.natAbs] at h1
 omega
def mu (a b:Int):Nat:=if b=0 then 0 else if a<0 then Nat.log2 (a.natAbs*b.natAbs)+2 else Nat.log2 (a.natAbs*b.natAbs)+1
theorem log2_half {m n:Nat} (hm:m≠0) (h:2*m≤n):Nat.log2 m<Nat.log2 n:=by
 have hn:n≠0:=by omega
 rw [Nat.lt_iff_add_one_le,Nat.le_log2 hn,Nat.pow_succ]
 have:=Nat.log2_self_le hm
 omega
theorem mu_lt (a b:Int) (h0:0<b) (hlt:b.natAbs<a.natAbs):mu b (a % b)<mu a b:=by
 have hb:b≠0:=by omega
 have r0:=Int.emod_nonneg a hb
 have r1:=Int.emod_lt a hb
 unfold mu
 rw [if_neg hb,if_neg (show ¬ b<0 by omega)]
 split
 ·split<;>omega
 ·rename_i hr
  split
  ·have:Nat.log2 (b.natAbs*(a % b).natAbs)≤Nat.log2 (a.natAbs*b.natAbs):=by
    have hne:a.natAbs*b.natAbs≠0:=Nat.mul_ne_zero (by omega) (by omega)
    have hne2:b.natAbs*(a % b).natAbs≠0:=Nat.mul_ne_zero (by omega) (by omega)
    rw [Nat.le_log2 hne]
    refine Nat.le_trans (Nat.log2_self_le hne2) ?_
    rw [Nat.mul_comm]
    exact Nat.mul_le_mul (by omega) (Nat.le_refl _)
   omega
  ·have h1:=qb_le0 a b (by omega) hb
   have hq:1≤(a / b).natAbs:=by
    rcases Nat.eq_zero_or_pos (a / b).natAbs with h | h
    ·rw [h,Nat.zero_mul] at h1; omega
    ·exact h
   have h2:b.natAbs≤(a / b).natAbs*b.natAbs:=Nat.le_mul_of_pos_left _ hq
   have h3:2*(a % b).natAbs≤a.natAbs:=by omega
   have:=log2_half (m:=b.natAbs*(a % b).natAbs) (n:=a.natAbs*b.natAbs) (Nat.mul_ne_zero (by omega) (by omega)) (by
    rw [Nat.mul_comm a.natAbs,Nat.mul_left_comm]
    exact Nat.mul_le_mul_left _ h3)
   omega
theorem radd_at (F:Fam) (i j:Nat) (k:Int) (c:Nat):radd F i k j i c=F i c+k*F j c:=by simp [radd]
theorem radd_ne {F:Fam} {i i' j:Nat} {k:Int} (h:i'≠i):radd F i k j i'=F i':=by funext c; simp [radd,h]
theorem rswp_l (F:Fam) (i j:Nat):rswp F i j i=F j:=by simp [rswp]
theorem rswp_r {F:Fam} {i j:Nat} (h:i≠j):rswp F i j j=F i:=by simp [rswp,Ne.symm h]
theorem rswp_ne {F:Fam} {i j i':Nat} (h:i'≠i) (h2:i'≠j):rswp F i j i'=F i':=by simp [rswp,h,h2]
theorem rneg_at (F:Fam) (i c:Nat):rneg F i i c=-F i c:=by simp [rneg]
theorem rneg_ne {F:Fam} {i i':Nat} (h:i'≠i):rneg F i i'=F i':=by funext c; simp [rneg,h]
def wt (a:Int):Nat:=if a<0 then 4 else 12
theorem wt_le (a:Int):wt a≤12:=by unfold wt; split<;>omega
structure EI (top i c mn n B BG E:Nat) (F G:Fam):Prop where
 b0:0≤F i c
 lt:(F i c).natAbs<(F top c).natAbs
 aE:(F top c).natAbs≤E
 P:∀ j,j<mn→(F top j).natAbs*(F i c).natAbs+(F i j).natAbs*(F top c).natAbs≤wt (F top c)*(B*E)
 T:∀ j,j<mn→(F top j).natAbs≤12*(B*E)
 PG:∀ r,r<n→(G top r).natAbs*(F top c).natAbs+(G i r).natAbs*(F i c).natAbs≤wt (F top c)*(BG*E)
 TG:∀ r,r<n→(G i r).natAbs≤12*(BG*E)
def stF (F:Fam) (top i c:Nat):Fam:=rswp (radd F top (-(F top c / F i c)) i) top i
def stG (F G:Fam) (top i c:Nat):Fam:=rswp (radd G i (F top c / F i c) top) top i
section
variable {top i c mn n B BG E:Nat} {F G:Fam}
theorem stF_top (h:top≠i):stF F top i c top=F i:=by rw [stF,rswp_l,radd_ne (Ne.symm h)]
theorem stF_i (h:top≠i) (j:Nat):stF F top i c i j=F top j-F top c / F i c*F i j:=by rw [stF,rswp_r h,radd_at,Int.neg_mul]; rfl
theorem stF_c (h:top≠i):stF F top i c i c=F top c % F i c:=by
 rw [stF_i h]; have:=Int.emod_add_mul_ediv (F top c) (F i c); rw [Int.mul_comm]; omega
theorem stG_top (h:top≠i) (r:Nat):stG F G top i c top r=G i r+F top c / F i c*G top r:=by rw [stG,rswp_l,radd_at]
theorem stG_i (h:top≠i):stG F G top i c i=G top:=by rw [stG,rswp_r h,radd_ne h]
theorem EI.row (w:EI top i c mn n B BG E F G) {j:Nat} (hj:j<mn):(F i j).natAbs≤12*(B*E):=by
 have h1:=w.P j hj
 have h2:=w.lt
 have h3:(F i j).natAbs≤(F i j).natAbs*(F top c).natAbs:=Nat.le_mul_of_pos_right _ (by omega)
 have h4:=Nat.mul_le_mul_right (B*E) (wt_le (F top c))
 omega
theorem EI.colG (w:EI top i c mn n B BG E F G) {r:Nat} (hr:r<n):(G top r).natAbs≤12*(BG*E):=by
 have h1:=w.PG r hr
 have h2:=w.lt
 have h3:(G top r).natAbs≤(G top r).natAbs*(F top c).natAbs:=Nat.le_mul_of_pos_right _ (by omega)
 have h4:=Nat.mul_le_mul_right (BG*E) (wt_le (F top c))
 omega
theorem EI.step (w:EI top i c mn n B BG E F G) (h:top≠i) (hb:F i c≠0):EI top i c mn n B BG E (stF F top i c) (stG F G top i c):=by
 have b0:=w.b0
 have lt:=w.lt
 have r0:=Int.emod_nonneg (F top c) hb
 have r1:=Int.emod_lt (F top c) hb
 have hw:wt (F i c)=12:=by unfold wt; rw [if_neg (by omega)]
 have hK:∀ X:Nat,(F top c<0→3*(wt (F top c)*X)≤12*X):=fun X ha=>by unfold wt; rw [if_pos ha]; omega
 have key:∀ (s t X:Nat),s*(F top c).natAbs+t*(F i c).natAbs≤wt (F top c)*X→(F top c<0→s*(F top c).natAbs+2*(s*(F top c % F i c).natAbs)+t*(F i c).natAbs≤12*X)∧(¬ F top c<0→s*(F top c).natAbs+t*(F i c).natAbs≤12*X):=fun s t X hX=>by
  refine ⟨fun ha=>?_,fun ha=>?_⟩
  ·have:=hK X ha
   have h5:s*(F top c % F i c).natAbs≤s*(F top c).natAbs:=Nat.mul_le_mul_left _ (by omega)
   omega
  ·exact Nat.le_trans hX (Nat.mul_le_mul_right _ (wt_le _))
 refine ⟨?_,?_,?_,fun j hj=>?_,fun j hj=>?_,fun r hr=>?_,fun r hr=>?_⟩
 ·rw [stF_c h]; exact r0
 ·rw [stF_c h,stF_top h]; omega
 ·rw [stF_top h]; exact Nat.le_trans (by omega) w.aE
 ·rw [stF_c h,stF_top h,stF_i h,hw]
  have hP:=w.P j hj
  have hk:=key (F i j).natAbs (F top j).natAbs (B*E) (by rw [Nat.add_comm]; exact hP)
  by_cases ha:F top c<0
  ·have h1:=step_row (F top c) (F i c) (F top j) (F i j) hb
   have h2:=hk.1 ha
   rw [Nat.mul_add,Nat.mul_left_comm _ 2] at h1
   omega
  ·have h1:=step_row0 (F top c) (F i c) (F top j) (F i j) (by omega) hb
   have h2:=hk.2 ha
   omega
 ·rw [stF_top h]; exact w.row hj
 ·rw [stF_c h,stF_top h,stG_top h,stG_i h,hw]
  have hP:=w.PG r hr
  have hk:=key (G top r).natAbs (G i r).natAbs (BG*E) hP
  by_cases ha:F top c<0
  ·have h1:=step_col (F top c) (F i c) (G top r) (G i r) _ (qb_le _ _ hb)
   have h2:=hk.1 ha
   rw [Nat.mul_add,Nat.mul_left_comm _ 2] at h1
   omega
  ·have h1:=step_col (F top c) (F i c) (G top r) (G i r) _ (Nat.le_of_eq (qb_le0 _ _ (by omega) hb))
   have h2:=hk.2 ha
   omega
 ·rw [stG_i h]; exact w.colG hr
theorem EI.mu (w:EI top i c mn n B BG E F G) (h:top≠i) (hb:F i c≠0):Eu.mu (stF F top i c top c) (stF F top i c i c)<Eu.mu (F top c) (F i c):=by
 rw [stF_top h,stF_c h]
 exact mu_lt _ _ (by have:=w.b0; omega) w.lt
theorem EI.init (h:top≠i) (hb:F i c≠0) (hc:c<mn) (hF:∀ j,j<mn→(F top j).natAbs≤B∧(F i j).natAbs≤B) (hG:∀ r,r<n→(G top r).natAbs≤BG∧(G i r).natAbs≤BG) (ha:(F top c).natAbs≤E) (hbE:(F i c).natAbs≤E) :
  EI top i c mn n B BG E (stF F top i c) (stG F G top i c):=by
 have r0:=Int.emod_nonneg (F top c) hb
 have r1:=Int.emod_lt (F top c) hb
 have hE:1≤E:=by omega
 have w4:∀ x X:Nat,x≤4*X→x≤wt (F i c)*X:=fun x X hx=>by
  unfold wt; split<;>omega
 have hBE:∀ X:Nat,X≤12*(X*E):=fun X=>by
  have:=Nat.le_mul_of_pos_right X hE; omega
 refine ⟨?_,?_,?_,fun j hj=>?_,fun j hj=>?_,fun r hr=>?_,fun r hr=>?_⟩
 ·rw [stF_c h]; exact r0
 ·rw [stF_c h,stF_top h]; omega
 ·rw [stF_top h]; exact hbE
 ·rw [stF_c h,stF_top h,stF_i h]
  refine w4 _ _ ?_
  obtain ⟨h1,h2⟩:=hF j hj
  have h3:=step_row (F top c) (F i c) (F top j) (F i j) hb
  have h4:(F top j).natAbs*(F i c).natAbs≤B*E:=Nat.mul_le_mul h1 hbE
  have h5:(F i j).natAbs*((F top c).natAbs+2*(F top c % F i c).natAbs)≤B*(3*E):=Nat.mul_le_mul h2 (by omega)
  rw [Nat.mul_left_comm] at h5
  omega
 ·rw [stF_top h]; exact Nat.le_trans (hF j hj).2 (hBE B)
 ·rw [stF_c h,stF_top h,stG_top h,stG_i h]
  refine w4 _ _ ?_
  obtain ⟨h1,h2⟩:=hG r hr
  have h3:=step_col (F top c) (F i c) (G top r) (G i r) _ (qb_le _ _ hb)
  have h4:(G i r).natAbs*(F i c).natAbs≤BG*E:=Nat.mul_le_mul h2 hbE
  have h5:(G top r).natAbs*((F top c).natAbs+2*(F top c % F i c).natAbs)≤BG*(3*E):=Nat.mul_le_mul h1 (by omega)
  rw [Nat.mul_left_comm] at h5
  omega
 ·rw [stG_i h]; exact Nat.le_trans (hG r hr).1 (hBE BG)
theorem EI.init0 (h:top≠i) (hb:F i c≠0) (h0:F top c=0) (hF:∀ j,j<mn→(F top j).natAbs≤B∧(F i j).natAbs≤B) (hG:∀ r,r<n→(G top r).natAbs≤BG∧(G i r).natAbs≤BG) (hbE:(F i c).natAbs≤E) :
  EI top i c mn n B BG E (rswp F top i) (rswp G top i):=by
 have hE:1≤E:=by omega
 have hw:∀ (x y X Y:Nat),x≤X→y≤Y→Y=E→x*y≤wt (F i c)*(X*E):=fun x y X Y hx hy e=>by
  subst e
  have:=Nat.mul_le_mul hx hy
  unfold wt; split<;>omega
 have hBE:∀ X:Nat,X≤12*(X*E):=fun X=>by
  have:=Nat.le_mul_of_pos_right X hE; omega
 refine ⟨?_,?_,?_,fun j hj=>?_,fun j hj=>?_,fun r hr=>?_,fun r hr=>?_⟩<;>simp only [rswp_l,rswp_r h,h0]
 ·exact Int.le_refl _
 ·simp; omega
 ·exact hbE
 ·have:=hw _ _ _ _ (hF j hj).1 hbE rfl
  simpa using this
 ·exact Nat.le_trans (hF j hj).2 (hBE B)
 ·have:=hw _ _ _ _ (hG r hr).2 hbE rfl
  simpa using this
 ·exact Nat.le_trans (hG r hr).1 (hBE BG)
end
end Go.Z.Eu
end
section
namespace Go.Z
theorem bs_pow (k:Nat):Bs^k=2^(32*k):=by rw [Nat.pow_mul]
theorem bs_ft {r:Nat} (h:Ft (r:Int)):r<Bs^1000000:=by
 obtain ⟨k,hk⟩:∃ k,k=1000000:=⟨_,rfl⟩
 obtain ⟨e,he⟩:∃ e,e=16000000:=⟨_,rfl⟩
 rw [← hk,bs_pow]
 exact lt_pow2 (ft_to he h) (by omega)
theorem limbs_ft {n:Nat} (h:Ft (n:Int)):(limbs n).length≤500000:=by
 obtain ⟨k,hk⟩:∃ k,k=500000:=⟨_,rfl⟩
 rw [← hk]
 refine limbs_len.2 ?_
 rw [bs_pow]
 exact ft_to (by omega) h
theorem lmade_up {l:List Nat} (hb:Bd l) (hl:l.length≤1000000):M.lmade (up l) false=some ((val l:Nat):Int):=by
 unfold M.lmade
 rw [if_pos ⟨lok_map hb,by simp [up]; omega⟩,if_neg (by decide),lval_map]
theorem lmade_lmg {x:Int} (h:Ft x) (b:Bool):M.lmade (M.lmg x) b=some (if b=true then -((x.natAbs:Nat):Int) else ((x.natAbs:Nat):Int)):=by
 have:=limbs_ft (n:=x.natAbs) h
 unfold M.lmade
 rw [if_pos ⟨lok_lmg x,by unfold M.lmg; simp; omega⟩,lval_lmg]
theorem lless_ok {r d:Nat} (hr:Ft (r:Int)) (hd:Ft (d:Int)):M.lless (M.lmg r) (M.lmg d)=some (decide (r<d)):=by
 have h1:=limbs_ft hr
 have h2:=limbs_ft hd
 have hv:∀ n:Nat,M.lmg (n:Int)=M.lmg (M.lval (M.lmg (n:Int))):=fun n=>by rw [lval_lmg]; rfl
 unfold M.lless
 rw [if_pos ⟨⟨hv r,by unfold M.lmg; simp; omega⟩,hv d,by unfold M.lmg; simp; omega⟩,lval_lmg,lval_lmg]; rfl
theorem Ft.le {n m:Nat} (h:Ft (n:Int)) (hm:m≤n):Ft (m:Int):=Nat.lt_of_le_of_lt hm h
def Fs (z:Int):Prop:=z.natAbs<2^15999900
theorem fs_of {z:Int} {e:Nat} (he:e=15999900) (h:z.natAbs<2^e):Fs z:=by subst he; exact h
theorem fs_to {z:Int} {e:Nat} (he:e=15999900) (h:Fs z):z.natAbs<2^e:=by subst he; exact h
theorem fs_one:Fs 1:=by
 obtain ⟨e,he⟩:∃ e,e=15999900:=⟨_,rfl⟩
 exact fs_of he (Nat.one_lt_two_pow (by omega))
theorem Fs.ft {z:Int} (h:Fs z):Ft z:=by
 obtain ⟨e,he⟩:∃ e,e=15999900:=⟨_,rfl⟩
 exact ft_big (fs_to he h) (by omega)
theorem Fs.le {n m:Nat} (h:Fs (n:Int)) (hm:m≤n):Fs (m:Int):=Nat.lt_of_le_of_lt hm h
theorem Fs.mul {n m:Nat} (h:Fs (n:Int)) (hm:m<4294967296):Ft ((n*m:Nat):Int):=by
 obtain ⟨e,he⟩:∃ e,e=15999900:=⟨_,rfl⟩
 have h':n<2^e:=fs_to he h
 have:n*m<2^e*2^32:=Nat.mul_lt_mul'' h' hm
 rw [← Nat.pow_add] at this
 exact ft_big (z:=((n*m:Nat):Int)) this (by omega)
theorem Fs.succ {n:Nat} (h:Fs (n:Int)):Ft ((n+1:Nat):Int):=by
 obtain ⟨e,he⟩:∃ e,e=15999900:=⟨_,rfl⟩
 have this:n+1≤2^e:=fs_to he h
 exact ft_big (n:=e+1) (z:=((n+1:Nat):Int)) (Nat.lt_of_le_of_lt this (Nat.pow_lt_pow_right (by decide) (by omega))) (by omega)
def mz (r:Nat):Nat:=if r=0 then 0 else Nat.log2 (r*r*r)+1
theorem mz_lt {r r':Nat} (h:4*r'<3*r):mz r'<mz r:=by
 unfold mz
 rw [if_neg (show ¬ r=0 by omega)]
 split
 ·omega
 ·rename_i h0
  have h1:16*(r'*r')≤9*(r*r):=by
   have:=Nat.mul_le_mul (show 4*r'≤3*r by omega) (show 4*r'≤3*r by omega)
   have e1:4*r'*(4*r')=16*(r'*r'):=by rw [Nat.mul_mul_mul_comm]
   have e2:3*r*(3*r)=9*(r*r):=by rw [Nat.mul_mul_mul_comm]
   omega
  have h2:64*(r'*r'*r')≤27*(r*r*r):=by
   have:=Nat.mul_le_mul h1 (show 4*r'≤3*r by omega)
   have e1:16*(r'*r')*(4*r')=64*(r'*r'*r'):=by rw [Nat.mul_mul_mul_comm]
   have e2:9*(r*r)*(3*r)=27*(r*r*r):=by rw [Nat.mul_mul_mul_comm]
   omega
  have hp:r'*r'*r'≠0:=Nat.mul_ne_zero (Nat.mul_ne_zero h0 h0) h0
  have:=Eu.log2_half (m:=r'*r'*r') (n:=r*r*r) hp (by omega)
  omega
theorem mz_bound {r:Nat} (h:Ft (r:Int)):mz r<1000000000000:=by
 unfold mz
 split
 ·omega
 ·rename_i h0
  have hp:r*r*r≠0:=Nat.mul_ne_zero (Nat.mul_ne_zero h0 h0) h0
  obtain ⟨e,he⟩:∃ e,e=16000000:=⟨_,rfl⟩
  have h':r<2^e:=ft_to he h
  have h3:r*r*r<2^(e+e+e):=by
   have h1:r*r≤2^e*2^e:=Nat.mul_le_mul (Nat.le_of_lt h') (Nat.le_of_lt h')
   have h2:r*r*r<2^e*2^e*2^e:=Nat.mul_lt_mul_of_le_of_lt h1 h' (Nat.mul_pos (Nat.two_pow_pos _) (Nat.two_pow_pos _))
   rw [← Nat.pow_add,← Nat.pow_add] at h2
   exact h2
  have:=(Nat.log2_lt hp).2 h3
  clear h3
  omega
theorem divide_ok {a b:Nat} (ha:Fs (a:Int)) (hb:Fs (b:Int)) (h0:0<b):M.r01_divide (M.lmg a) (M.lmg b)=some (((a / b:Nat):Int),((a % b:Nat):Int)):=by
 have hB:Bs=4294967296:=rfl
 have ha':Ft (a:Int):=ha.ft
 have hb':Ft (b:Int):=hb.ft
 have la:=limbs_ft ha'
 have lb:=limbs_ft hb'
 have la2:(M.lmg (a:Int)).length=(limbs a).length:=by simp [M.lmg]
 have lb2:(M.lmg (b:Int)).length=(limbs b).length:=by simp [M.lmg]
 obtain ⟨m,hm,hmt,hD0,hDB⟩:=limbs_top (n:=b) (by omega)
 unfold M.r01_divide
 rw [lb2,hm]
 by_cases h1:m=0
 ·subst h1
  rw [if_pos (by decide),lmg_nat,lmg_nat]
  simp only [Nat.pow_zero,Nat.div_one] at hmt hDB
  obtain ⟨q,e1,e2,e3,e4⟩:=short_ok (a:=limbs a) (d:=b) (bd_limbs a) (by omega) h0 (by omega)
  show nth (up (limbs b)) ((0:Nat):Int) _=_
  rw [nth_at (up_get hmt),e1,bnd_pure]
  dsimp only
  rw [lmade_up e2 (by omega),bnd_pure,val_limbs,show [((a % b:Nat):Int)]=up [a % b] from rfl,lmade_up (fun x hx=>by simp at hx; subst hx; have:=Nat.mod_lt a h0; omega) (by simp),bnd_pure,e4,val_limbs]
  simp [val]
 ·rw [if_neg (by omega)]
  generalize hDD:b / Bs^m=D at *
  refine loop_eq (fun s=>∃ f:Nat,s=(f:Int)∧1≤f∧f≤4294967295) (fun s=>4294967296-s.toNat) _ ⟨1,rfl,by omega,by omega⟩ (by decide) ?_
  rintro _ ⟨f,rfl,hf1,hf2⟩
  unfold M.r01_divide_b2
  have hprod:D*f<18446744073709551616:=by
   have:=Nat.mul_le_mul (show D≤4294967296 by omega) hf2
   omega
  rw [lb2,hm,chk64_pos (by omega),show ((m+1:Nat):Int)-1=(m:Int) by omega,lmg_nat b,nth_at (up_get hmt),chk_at (by omega),chk_at (by omega),show ((D:Int)*(f:Int))=((D*f:Nat):Int) by simp,u64_n hprod]
  have hfD:f≤D*f:=Nat.le_mul_of_pos_left _ hD0
  by_cases hlt:D*f<2147483648
  ·rw [if_pos (by omega),show (2:Int)*(f:Int)=((2*f:Nat):Int) by omega,u32_n (by omega)]
   exact .inl ⟨_,rfl,⟨2*f,rfl,by omega,by omega⟩,by simp; omega⟩
  ·refine .inr ?_
   rw [if_neg (by omega)]
   have efl:[(f:Int)]=up [f]:=rfl
   have haf':Ft ((a*f:Nat):Int):=ha.mul (by omega)
   have hbf':Ft ((b*f:Nat):Int):=hb.mul (by omega)
   have hff:Ft (f:Int):=Ft.le (n:=1*f) (Fs.mul (n:=1) fs_one (by omega)) (by omega)
   rw [efl,lmade_up (fun x hx=>by simp at hx; subst hx; omega) (by simp),bnd_pure,lmg_nat a,lmade_up (bd_limbs a) (by omega),bnd_pure,val_limbs,show val [f]=f by simp [val],
    imul_ok ha' hff,bnd_pure,lmade_up (bd_limbs b) (by omega),bnd_pure,val_limbs,imul_ok hb' hff,bnd_pure]
   rw [show lft (loop (M.r01_divide_b1 (f:Int)) ((a:Int)*(f:Int),(b:Int)*(f:Int),0))=some (Sum.inr (((a / b:Nat):Int),((a % b:Nat):Int))) from ?_]
   rw [show loop (M.r01_divide_b1 (f:Int)) ((a:Int)*(f:Int),(b:Int)*(f:Int),0)=some (((a / b:Nat):Int),((a % b:Nat):Int)) from ?_]
   ·rfl
   have hbf0:0<b*f:=Nat.mul_pos h0 hf1
   refine loop_eq (fun s=>∃ r q:Nat,s=((r:Int),((b*f:Nat):Int),(q:Int))∧r+q*(b*f)=a*f) (fun s=>mz s.1.toNat) _ ⟨a*f,0,by simp,by simp⟩ (by
    show mz ((a:Int)*(f:Int)).toNat<_
    rw [show ((a:Int)*(f:Int)).toNat=a*f by rw [show (a:Int)*(f:Int)=((a*f:Nat):Int) by simp]; exact Int.toNat_natCast _]
    exact mz_bound haf') ?_
   rintro _ ⟨r,q,rfl,hrq⟩
   have hra:r≤a*f:=by omega
   have hqa:q≤a*f:=by
    have:q≤q*(b*f):=Nat.le_mul_of_pos_right _ hbf0
    omega
   have hr':Ft (r:Int):=haf'.le hra
   have hq':Ft (q:Int):=haf'.le hqa
   unfold M.r01_divide_b1
   dsimp only
   rw [lless_ok hr' hbf',bnd_pure]
   by_cases hrd:r<b*f
   ·refine .inr ?_
    obtain ⟨w,e1,e2,e3,e4⟩:=short_ok (a:=limbs r) (d:=f) (bd_limbs r) (by have:=limbs_ft hr'; omega) hf1 (by omega)
    rw [if_pos (by simpa using hrd),lmg_nat,e1,bnd_pure]
    dsimp only
    rw [lmade_up e2 (by have:=limbs_ft hr'; omega),bnd_pure,e4,val_limbs]
    have hq1:a*f / (b*f)=q:=by
     rw [← hrq,Nat.add_mul_div_right _ _ hbf0,Nat.div_eq_of_lt hrd,Nat.zero_add]
    have hr1:a*f % (b*f)=r:=by
     rw [← hrq,Nat.add_mul_mod_self_right,Nat.mod_eq_of_lt hrd]
    rw [Nat.mul_div_mul_right _ _ hf1] at hq1
    rw [Nat.mul_mod_mul_right] at hr1
    rw [hq1,← hr1,Nat.mul_div_cancel _ hf1]; rfl
   ·refine .inl ?_
    obtain ⟨e,h2,h3,h4⟩:=estimate_ok (r:=r) (d:=b*f) hbf0 (by omega) (bs_ft hr')
    have he:e≤r:=by
     have:e≤e*(b*f):=Nat.le_mul_of_pos_right _ hbf0
     omega
    have hsum:r-e*(b*f)+(q+e)*(b*f)=a*f:=by rw [Nat.add_mul]; omega
    rw [if_neg (by simpa using hrd),h2,bnd_pure,iadd_ok hq' (hr'.le he),bnd_pure,imul_ok (hr'.le he) hbf',bnd_pure,show (e:Int)*((b*f:Nat):Int)=((e*(b*f):Nat):Int) by simp,
     isub_ok hr' (hr'.le h3),bnd_pure]
    refine ⟨_,rfl,⟨r-e*(b*f),q+e,?_,hsum⟩,?_⟩
    ·rw [show (r:Int)-((e*(b*f):Nat):Int)=((r-e*(b*f):Nat):Int) by omega]; simp
    ·show mz ((r:Int)-((e*(b*f):Nat):Int)).toNat<mz ((r:Int)).toNat
     rw [show ((r:Int)-((e*(b*f):Nat):Int)).toNat=r-e*(b*f) by omega,Int.toNat_natCast]
     exact mz_lt (by omega)
theorem DivMod_ok {x y:Int} (hx:Fs x) (hy:Fs y) (h0:y≠0):M.r01_DivMod x y=some (x / y,x % y,0):=by
 have fx:Ft x:=hx.ft
 have fy:Ft y:=hy.ft
 have hsg:∀ z:Int,Ft z→M.lmade (M.lmg z) (decide (z<0))=some z:=fun z hz=>by
  rw [lmade_lmg hz]
  by_cases h:z<0
  ·rw [if_pos (decide_eq_true h)]; congr 1; omega
  ·rw [if_neg (by simpa using h)]; congr 1; omega
 unfold M.r01_DivMod
 rw [hsg x fx,bnd_pure,hsg y fy,bnd_pure,isign_ok fy,bnd_pure,if_neg (fun e=>h0 ((sign0 y).1 e))]
 have hq:M.lmg x=M.lmg (x.natAbs:Int):=rfl
 have hq2:M.lmg y=M.lmg (y.natAbs:Int):=rfl
 have hpos:0<y.natAbs:=by omega
 have hxn:Fs (x.natAbs:Int):=hx
 have hyn:Fs (y.natAbs:Int):=hy
 rw [hq,hq2,divide_ok hxn hyn hpos,bnd_pure]
 have hdm:=Nat.div_add_mod x.natAbs y.natAbs
 have hml:=Nat.mod_lt x.natAbs hpos
 have hQ:x.natAbs / y.natAbs≤x.natAbs:=Nat.div_le_self _ _
 have hQ2:Fs ((x.natAbs / y.natAbs:Nat):Int):=hxn.le hQ
 have uniq:∀ (q:Int) (r:Nat),y*q+(r:Int)=x→r<y.natAbs→x / y=q∧x % y=(r:Int):=fun q r h1 h2=>by
  have e1:x % y=(r:Int):=by
   rw [← h1,Int.mul_add_emod_self_left]
   rcases Int.lt_or_le y 0 with h | h
   ·rw [← Int.emod_neg]; exact Int.emod_eq_of_lt (by omega) (by omega)
   ·exact Int.emod_eq_of_lt (by omega) (by omega)
  refine ⟨?_,e1⟩
  have h3:=Int.emod_add_mul_ediv x y
  rw [e1] at h3
  have h4:y*(x / y)=y*q:=by omega
  exact Int.eq_of_mul_eq_mul_left h0 h4
 generalize x.natAbs / y.natAbs=Q at *
 generalize x.natAbs % y.natAbs=R at *
 have hyQ:((y.natAbs*Q:Nat):Int)=(y.natAbs:Int)*(Q:Int):=by simp
 have j1:∀ (q:Nat) (r:Nat),q≤Q+1→(if (decide (x<0) == decide (y<0))=true then (q:Int) else -(q:Int))=x / y→(r:Int)=x % y→M.r01_DivMod_j1 x y (q:Int) (r:Int)=some (x / y,x % y,0):=fun q r hq h1 h2=>by
  unfold M.r01_DivMod_j1
  rw [← h1,← h2]
  by_cases h:(decide (x<0) == decide (y<0))=true
  ·rw [if_pos h,if_pos h]
  ·rw [if_neg h,if_neg h,ineg_ok (hQ2.succ.le hq),bnd_pure]
 have yl:y<0→(y.natAbs:Int)=-y:=fun h=>by omega
 have yg:¬ y<0→(y.natAbs:Int)=y:=fun h=>by omega
 by_cases hx0:x<0
 ·rw [if_pos hx0]
  dsimp only
  rw [isign_ok (hyn.ft.le (Nat.le_of_lt hml)),bnd_pure]
  unfold M.r01_DivMod_j2
  by_cases hR:0<R
  ·rw [if_pos (by rw [decide_eq_true_iff,Int.sign_eq_one_of_pos (by omega)]; decide),iof_ok (by decide),bnd_pure,iadd_ok hQ2.ft ft_one,bnd_pure]
   rw [hq2,lmade_lmg (x:=(y.natAbs:Int)) fy,bnd_pure,if_neg (by decide)]
   have fyn:Ft (y.natAbs:Int):=fy
   have fRn:Ft (R:Int):=hyn.ft.le (Nat.le_of_lt hml)
   rw [show ((((y.natAbs:Int)).natAbs:Nat):Int)=(y.natAbs:Int) by omega,isub_ok fyn fRn,bnd_pure,show (y.natAbs:Int)-(R:Int)=((y.natAbs-R:Nat):Int) by omega,show (Q:Int)+1=((Q+1:Nat):Int) by simp]
   have hu:y*(if (decide (x<0) == decide (y<0))=true then ((Q+1:Nat):Int) else -((Q+1:Nat):Int))+((y.natAbs-R:Nat):Int)=x:=by
    by_cases hy0:y<0
    ·have:=yl hy0
     rw [if_pos (by simp [hx0,hy0])]
     rw [this] at hyQ
     have e:y*((Q+1:Nat):Int)=y*(Q:Int)+y:=by rw [Int.natCast_add,Int.mul_add]; simp
     have e2:-y*(Q:Int)=-(y*(Q:Int)):=Int.neg_mul ..
     omega
    ·have:=yg hy0
     rw [if_neg (by simp [hx0,hy0])]
     rw [this] at hyQ
     have e:y*-((Q+1:Nat):Int)=-(y*(Q:Int))-y:=by rw [Int.natCast_add,Int.mul_neg,Int.mul_add]; simp; omega
     omega
   have:=uniq _ _ hu (by omega)
   exact j1 (Q+1) (y.natAbs-R) (by omega) this.1.symm this.2.symm
  ·have hR0:R=0:=by omega
   subst hR0
   rw [if_neg (by decide)]
   have hu:y*(if (decide (x<0) == decide (y<0))=true then (Q:Int) else -(Q:Int))+((0:Nat):Int)=x:=by
    by_cases hy0:y<0
    ·have:=yl hy0
     rw [if_pos (by simp [hx0,hy0])]
     rw [this] at hyQ
     have e2:-y*(Q:Int)=-(y*(Q:Int)):=Int.neg_mul ..
     omega
    ·have:=yg hy0
     rw [if_neg (by simp [hx0,hy0])]
     rw [this] at hyQ
     have e:y*-(Q:Int)=-(y*(Q:Int)):=by rw [Int.mul_neg]
     omega
   have:=uniq _ _ hu (by omega)
   exact j1 Q 0 (by omega) this.1.symm this.2.symm
 ·rw [if_neg hx0]
  unfold M.r01_DivMod_j2
  rw [if_neg (by decide)]
  have hu:y*(if (decide (x<0) == decide (y<0))=true then (Q:Int) else -(Q:Int))+(R:Int)=x:=by
   by_cases hy0:y<0
   ·have:=yl hy0
    rw [if_neg (by simp [hx0,hy0])]
    rw [this] at hyQ
    have e2:-y*(Q:Int)=-(y*(Q:Int)):=Int.neg_mul ..
    have e:y*-(Q:Int)=-(y*(Q:Int)):=by rw [Int.mul_neg]
    omega
   ·have:=yg hy0
    rw [if_pos (by simp [hx0,hy0])]
    rw [this] at hyQ
    omega
  have:=uniq _ _ hu hml
  exact j1 Q R (by omega) this.1.symm this.2.symm
end Go.Z
end
section
namespace Go.Z
open Eu
def vr (m:Nat) (f:Nat→Int):List Int:=(List.range m).map f
def mx (n m:Nat) (F:Fam):List (List Int):=(List.range n).map fun i=>vr m (F i)
theorem vr_len (m:Nat) (f:Nat→Int):(vr m f).length=m:=by simp [vr]
theorem mx_len (n m:Nat) (F:Fam):(mx n m F).length=n:=by simp [mx]
theorem vr_get {m j:Nat} {f:Nat→Int} (h:j<m):(vr m f)[j]?=some (f j):=by simp [vr,h]
theorem mx_get {n m i:Nat} {F:Fam} (h:i<n):(mx n m F)[i]?=some (vr m (F i)):=by simp [mx,h]
theorem vr_congr {m:Nat} {f g:Nat→Int} (h:∀ j,j<m→f j=g j):vr m f=vr m g:=
 List.map_congr_left fun j hj=>h j (List.mem_range.1 hj)
theorem mx_congr {n m:Nat} {F G:Fam} (h:∀ i,i<n→∀ j,j<m→F i j=G i j):mx n m F=mx n m G:=
 List.map_congr_left fun i hi=>vr_congr (h i (List.mem_range.1 hi))
theorem vr_set (m j:Nat) (f:Nat→Int) (x:Int):setL (vr m f) (j:Int) x=vr m fun k=>if k=j then x else f k:=by
 unfold setL vr
 rw [Int.toNat_natCast]
 refine List.ext_getElem? fun k=>?_
 rw [List.getElem?_set,List.getElem?_map,List.getElem?_map]
 by_cases h:k<m
 ·by_cases e:j=k
  ·subst e; simp [h]
  ·rw [if_neg e]; simp [h,Ne.symm e]
 ·by_cases e:j=k
  ·subst e; simp [h]
  ·rw [if_neg e]; simp [h]
theorem mx_set (n m i:Nat) (F:Fam) (f:Nat→Int):setL (mx n m F) (i:Int) (vr m f)=mx n m fun k=>if k=i then f else F k:=by
 unfold setL mx
 rw [Int.toNat_natCast]
 refine List.ext_getElem? fun k=>?_
 rw [List.getElem?_set,List.getElem?_map,List.getElem?_map]
 by_cases h:k<n
 ·by_cases e:i=k
  ·subst e; simp [h]
  ·rw [if_neg e]; simp [h,Ne.symm e]
 ·by_cases e:i=k
  ·subst e; simp [h]
  ·rw [if_neg e]; simp [h]
def Wk (n m:Nat) (F G:Fam):R12Work:=⟨⟨n,m,mx n m F⟩,⟨n,n,mx n n fun i j=>F i (m+j)⟩,⟨n,n,mx n n fun r c=>G c r⟩⟩
section
variable {n m i j:Nat} {F G:Fam} {k:Int}
def addB {β:Type} (x1 x2 x3:Int) (i36:Int) (v27:List (List Int)):Option ((List (List Int)) ⊕ β):=
 nth v27 x1 fun x44=>nth x44 i36 fun x54=>nth v27 x2 fun x74=>nth x74 i36 fun x84=>bnd (M.imul x3 x84) fun y109=>bnd (M.iadd x54 y109) fun y120=>some (.inl (setL v27 x1 (setL x44 i36 y120)))
theorem add_loop {β:Type} {e:List (List Int)→Option β} (hi:i<n) (hj:j<n) (hij:i≠j) (hm:m≤1000000) (fk:Ft k) (hF:∀ c,c<m→Ft (F i c)∧Ft (F j c)∧Ft (k*F j c)):rngN (addB (i:Int) (j:Int) k) e (m:Int) 0 (mx n m F)=e (mx n m (radd F i k j)):=by
 obtain ⟨s',h1,h2⟩:=rngN_inv (b:=addB (i:Int) (j:Int) k) (e:=e) (s:=mx n m F) (K:=(m:Int)) (I:=0) (k:=m) (i:=0) (fun c v=>v=mx n m fun i' c'=>if i'=i∧c'<c then F i c'+k*F j c' else F i' c') rfl rfl (by omega) (Nat.zero_le _) (by simp) (fun c v _ hc hv=>by
  obtain ⟨f1,f2,f3⟩:=hF c hc
  subst hv
  unfold addB
  rw [nth_at (mx_get hi),nth_at (vr_get hc),nth_at (mx_get hj),nth_at (vr_get hc)]
  simp only [Nat.lt_irrefl,and_false,if_false]
  rw [imul_ok fk f2,bnd_pure,iadd_ok f1 f3,bnd_pure,vr_set,mx_set]
  refine ⟨_,rfl,mx_congr fun i' hi' c' hc'=>?_⟩
  by_cases e:i'=i
  ·subst e
   by_cases e2:c'=c
   ·subst e2; simp
   ·rw [if_pos rfl,if_neg e2]
    by_cases e3:c'<c
    ·have e4:c'<c+1:=by omega
     simp [e3,e4]
    ·have e4:¬ c'<c+1:=by omega
     simp [e3,e4]
  ·rw [if_neg e,if_neg (by omega),if_neg (by omega)])
 rw [h2,h1]
 congr 1
 refine mx_congr fun i' _ c' hc'=>?_
 unfold radd
 by_cases e:i'=i
 ·rw [if_pos ⟨e,hc'⟩,if_pos e]
 ·rw [if_neg (by omega),if_neg e]
theorem AddTo_ok (hi:i<n) (hj:j<n) (hij:i≠j) (hn:n≤1000000) (hm:m≤1000000) (fk:Ft k) (hF:∀ c,c<m+n→Ft (F i c)∧Ft (F j c)∧Ft (k*F j c)) (hG:∀ r,r<n→Ft (G j r)∧Ft (G i r)∧Ft (k*G i r)) :
  M.r12_Work_AddTo (Wk n m F G) (i:Int) (j:Int) k=some (Wk n m (radd F i k j) (radd G j (-k) i)):=by
 unfold M.r12_Work_AddTo
 have e1:M.r12_Work_AddTo_b3 (i:Int) (j:Int) k=addB (i:Int) (j:Int) k:=rfl
 have e2:M.r12_Work_AddTo_b2 (i:Int) (j:Int) k=addB (i:Int) (j:Int) k:=rfl
 rw [e1]
 show rngN (addB (i:Int) (j:Int) k) _ (m:Int) 0 (mx n m F)=_
 rw [add_loop hi hj hij hm fk fun c hc=>hF c (by omega)]
 unfold M.r12_Work_AddTo_k3
 rw [e2]
 show rngN (addB (i:Int) (j:Int) k) _ (n:Int) 0 (mx n n fun i j=>F i (m+j))=_
 rw [add_loop hi hj hij hn fk fun c hc=>hF (m+c) (by omega)]
 unfold M.r12_Work_AddTo_k2
 show rngN _ _ (n:Int) 0 (mx n n fun r c=>G c r)=_
 obtain ⟨s',h1,h2⟩:=rngN_inv (b:=M.r12_Work_AddTo_b1 (i:Int) (j:Int) k) (e:=M.r12_Work_AddTo_k1 (Wk n m F G) (mx n m (radd F i k j)) (mx n n (radd (fun i j=>F i (m+j)) i k j))) (s:=mx n n fun r c=>G c r) (K:=(n:Int)) (I:=0) (k:=n) (i:=0) (fun r v=>v=mx n n fun r' c'=>if r'<r∧c'=j then G j r'+-k*G i r' else G c' r') rfl rfl (by omega) (Nat.zero_le _) (by simp) (fun r v _ hr hv=>by
  obtain ⟨f1,f2,f3⟩:=hG r hr
  subst hv
  unfold M.r12_Work_AddTo_b1
  rw [nth_at (mx_get hr),nth_at (vr_get hj),nth_at (vr_get hi)]
  simp only [Nat.lt_irrefl,false_and,if_false]
  rw [imul_ok fk f2,bnd_pure,isub_ok f1 f3,bnd_pure,vr_set,mx_set]
  refine ⟨_,rfl,mx_congr fun r' hr' c' hc'=>?_⟩
  by_cases e:r'=r
  ·subst e
   by_cases e2:c'=j
   ·subst e2; simp [Int.sub_eq_add_neg,Int.neg_mul]
   ·rw [if_pos rfl,if_neg e2,if_neg (by omega)]
  ·rw [if_neg e]
   by_cases e3:r'<r∧c'=j
   ·rw [if_pos e3,if_pos ⟨by omega,e3.2⟩]
   ·rw [if_neg e3,if_neg (by omega)])
 rw [h2,h1]
 unfold M.r12_Work_AddTo_k1
 dsimp only
 unfold Wk
 dsimp only
 congr 3
 refine mx_congr fun r hr c hc=>?_
 unfold radd
 by_cases e:c=j
 ·rw [if_pos ⟨hr,e⟩,if_pos e]
 ·rw [if_neg (by omega),if_neg e]
theorem Swap_ok (hi:i<n) (hj:j<n) (hij:i≠j) (hn:n≤1000000):M.r12_Work_Swap (Wk n m F G) (i:Int) (j:Int)=some (Wk n m (rswp F i j) (rswp G i j)):=by
 unfold M.r12_Work_Swap
 show nth (mx n m F) (i:Int) (fun x21=>nth (mx n m F) (j:Int) fun x31=>nth (mx n n fun i j=>F i (m+j)) (i:Int) fun x47=>nth (mx n n fun i j=>F i (m+j)) (j:Int) fun x57=>rngN _ _ (n:Int) 0 (mx n n fun r c=>G c r))=_
 rw [nth_at (mx_get hi),nth_at (mx_get hj),nth_at (mx_get hi),nth_at (mx_get hj)]
 obtain ⟨s',h1,h2⟩:=rngN_inv (b:=M.r12_Work_Swap_b1 (i:Int) (j:Int)) (e:=M.r12_Work_Swap_k1 (Wk n m F G) (i:Int) (j:Int) (vr m (F i)) (vr m (F j)) (vr n fun c=>F i (m+c)) (vr n fun c=>F j (m+c))) (s:=mx n n fun r c=>G c r) (K:=(n:Int)) (I:=0) (k:=n) (i:=0) (fun r v=>v=mx n n fun r' c'=>if r'<r then rswp G i j c' r' else G c' r') rfl rfl (by omega) (Nat.zero_le _) (by simp) (fun r v _ hr hv=>by
  subst hv
  unfold M.r12_Work_Swap_b1
  rw [nth_at (mx_get hr),nth_at (vr_get hi),nth_at (vr_get hj),vr_set,mx_set,nth_at (mx_get hr)]
  simp only [Nat.lt_irrefl,if_false,if_true]
  rw [nth_at (vr_get hj),vr_set,mx_set]
  refine ⟨_,rfl,mx_congr fun r' hr' c' hc'=>?_⟩
  by_cases e:r'=r
  ·subst e
   rw [if_pos rfl,if_pos (Nat.lt_succ_self _)]
   unfold rswp
   by_cases e2:c'=j
   ·rw [if_pos e2]
    by_cases e3:c'=i
    ·omega
    ·rw [if_neg e3,if_pos e2]
   ·rw [if_neg e2]
    by_cases e3:c'=i
    ·rw [if_pos e3,if_pos e3]
    ·rw [if_neg e3,if_neg e3,if_neg e2]
  ·rw [if_neg e,if_neg e]
   by_cases e3:r'<r
   ·rw [if_pos e3,if_pos (by omega)]
   ·rw [if_neg e3,if_neg (by omega)])
 rw [h2,h1]
 unfold M.r12_Work_Swap_k1
 unfold Wk
 dsimp only
 rw [mx_set,mx_set,mx_set n n i (fun i j=>F i (m+j)) (fun c=>F j (m+c)),mx_set n n j _ (fun c=>F i (m+c))]
 congr 2
 ·congr 1
  refine mx_congr fun r hr c hc=>?_
  unfold rswp
  by_cases e2:r=j
  ·rw [if_pos e2,if_neg (by omega),if_pos e2]
  ·rw [if_neg e2,if_neg e2]
 ·congr 1
  refine mx_congr fun r hr c hc=>?_
  unfold rswp
  by_cases e2:r=j
  ·rw [if_pos e2,if_neg (by omega),if_pos e2]
  ·rw [if_neg e2,if_neg e2]; split<;>rfl
 ·congr 1
  exact mx_congr fun r hr c hc=>by rw [if_pos hr]
def negB {β:Type} (x1:Int) (i36:Int) (v21:List (List Int)):Option ((List (List Int)) ⊕ β):=
 nth v21 x1 fun x38=>nth x38 i36 fun x48=>bnd (M.ineg x48) fun y73=>some (.inl (setL v21 x1 (setL x38 i36 y73)))
theorem neg_loop {β:Type} {e:List (List Int)→Option β} (hi:i<n) (hm:m≤1000000) (hF:∀ c,c<m→Ft (F i c)):rngN (negB (i:Int)) e (m:Int) 0 (mx n m F)=e (mx n m (rneg F i)):=by
 obtain ⟨s',h1,h2⟩:=rngN_inv (b:=negB (i:Int)) (e:=e) (s:=mx n m F) (K:=(m:Int)) (I:=0) (k:=m) (i:=0) (fun c v=>v=mx n m fun i' c'=>if i'=i∧c'<c then -F i c' else F i' c') rfl rfl (by omega) (Nat.zero_le _) (by simp) (fun c v _ hc hv=>by
  have f1:=hF c hc
  subst hv
  unfold negB
  rw [nth_at (mx_get hi),nth_at (vr_get hc)]
  simp only [Nat.lt_irrefl,and_false,if_false]
  rw [ineg_ok f1,bnd_pure,vr_set,mx_set]
  refine ⟨_,rfl,mx_congr fun i' hi' c' hc'=>?_⟩
  by_cases e:i'=i
  ·subst e
   by_cases e2:c'=c
   ·subst e2; simp
   ·rw [if_pos rfl,if_neg e2]
    by_cases e3:c'<c
    ·have e4:c'<c+1:=by omega
     simp [e3,e4]
    ·have e4:¬ c'<c+1:=by omega
     simp [e3,e4]
  ·rw [if_neg e,if_neg (by omega),if_neg (by omega)])
 rw [h2,h1]
 congr 1
 refine mx_congr fun i' _ c' hc'=>?_
 unfold rneg
 by_cases e:i'=i
 ·rw [if_pos ⟨e,hc'⟩,if_pos e]
 ·rw [if_neg (by omega),if_neg e]
theorem Negate_ok (hi:i<n) (hn:n≤1000000) (hm:m≤1000000) (hF:∀ c,c<m+n→Ft (F i c)) (hG:∀ r,r<n→Ft (G i r)) :
  M.r12_Work_Negate (Wk n m F G) (i:Int)=some (Wk n m (rneg F i) (rneg G i)):=by
 unfold M.r12_Work_Negate
 have e1:M.r12_Work_Negate_b3 (i:Int)=negB (i:Int):=rfl
 have e2:M.r12_Work_Negate_b2 (i:Int)=negB (i:Int):=rfl
 rw [e1]
 show rngN (negB (i:Int)) _ (m:Int) 0 (mx n m F)=_
 rw [neg_loop hi hm fun c hc=>hF c (by omega)]
 unfold M.r12_Work_Negate_k3
 rw [e2]
 show rngN (negB (i:Int)) _ (n:Int) 0 (mx n n fun i j=>F i (m+j))=_
 rw [neg_loop hi hn fun c hc=>hF (m+c) (by omega)]
 unfold M.r12_Work_Negate_k2
 show rngN _ _ (n:Int) 0 (mx n n fun r c=>G c r)=_
 obtain ⟨s',h1,h2⟩:=rngN_inv (b:=M.r12_Work_Negate_b1 (i:Int)) (e:=M.r12_Work_Negate_k1 (Wk n m F G) (mx n m (rneg F i)) (mx n n (rneg (fun i j=>F i (m+j)) i))) (s:=mx n n fun r c=>G c r) (K:=(n:Int)) (I:=0) (k:=n) (i:=0) (fun r v=>v=mx n n fun r' c'=>if r'<r∧c'=i then -G i r' else G c' r') rfl rfl (by omega) (Nat.zero_le _) (by simp) (fun r v _ hr hv=>by
  have f1:=hG r hr
  subst hv
  unfold M.r12_Work_Negate_b1
  rw [nth_at (mx_get hr),nth_at (vr_get hi)]
  simp only [Nat.lt_irrefl,false_and,if_false]
  rw [ineg_ok f1,bnd_pure,vr_set,mx_set]
  refine ⟨_,rfl,mx_congr fun r' hr' c' hc'=>?_⟩
  by_cases e:r'=r
  ·subst e
   by_cases e2:c'=i
   ·subst e2; simp
   ·rw [if_pos rfl,if_neg e2,if_neg (by omega)]
  ·rw [if_neg e]
   by_cases e3:r'<r∧c'=i
   ·rw [if_pos e3,if_pos ⟨by omega,e3.2⟩]
   ·rw [if_neg e3,if_neg (by omega)])
 rw [h2,h1]
 unfold M.r12_Work_Negate_k1
 dsimp only
 unfold Wk
 dsimp only
 congr 3
 refine mx_congr fun r hr c hc=>?_
 unfold rneg
 by_cases e:c=i
 ·rw [if_pos ⟨hr,e⟩,if_pos e]
 ·rw [if_neg (by omega),if_neg e]
end
end Go.Z
end
section
namespace Go.Z
open Eu
def LinQ (Q:(Nat→Int)→Prop):Prop:=∀ f g k,Q f→Q g→Q fun j=>f j+k*g j
theorem LinQ.neg {Q:(Nat→Int)→Prop} (h:LinQ Q) {f:Nat→Int} (hf:Q f):Q fun j=>-f j:=by
 have:=h f f (-2) hf hf
 rwa [show (fun j=>f j+-2*f j)=fun j=>-f j from funext fun j=>by omega] at this
def Rv (n:Nat) (F F':Fam):Prop:=∀ P:(Nat→Int)→Prop,LinQ P→(∀ k,k<n→P (F' k))→∀ k,k<n→P (F k)
theorem Rv.refl (n:Nat) (F:Fam):Rv n F F:=fun _ _ h=>h
theorem Rv.trans {n:Nat} {F F' F2:Fam} (a:Rv n F F') (b:Rv n F' F2):Rv n F F2:=fun P hP h=>a P hP (b P hP h)
theorem Rv.swp {n i j:Nat} {F:Fam} (hi:i<n) (hj:j<n) (hij:i≠j):Rv n F (rswp F i j):=fun P hP h k hk=>by
 by_cases e:k=i
 ·subst e; have:=h j hj; rwa [rswp_r hij] at this
 ·by_cases e2:k=j
  ·subst e2; have:=h i hi; rwa [rswp_l] at this
  ·have:=h k hk; rwa [rswp_ne e e2] at this
theorem Rv.add {n i j:Nat} {F:Fam} {q:Int} (hi:i<n) (hj:j<n) (hij:i≠j):Rv n F (radd F i q j):=fun P hP h k hk=>by
 by_cases e:k=i
 ·subst e
  have h1:=h k hi
  have h2:=h j hj
  rw [radd_ne (Ne.symm hij)] at h2
  have h3:=hP _ _ (-q) h1 h2
  rwa [show (fun c=>radd F k q j k c+-q*F j c)=F k from funext fun c=>by rw [radd_at,Int.neg_mul]; omega] at h3
 ·have:=h k hk; rwa [radd_ne e] at this
theorem Rv.neg {n i:Nat} {F:Fam} (hi:i<n):Rv n F (rneg F i):=fun P hP h k hk=>by
 by_cases e:k=i
 ·subst e
  have h1:=hP.neg (h k hi)
  rwa [show (fun c=>-rneg F k k c)=F k from funext fun c=>by rw [rneg_at,Int.neg_neg]] at h1
 ·have:=h k hk; rwa [rneg_ne e] at this
abbrev T9:=Int×Int×List (List Int)×Int×Int×List (List Int)×Int×Int×List (List Int)
abbrev T11:=Int×Int×List (List Int)×Int×Int×List (List Int)×Int×Int×List (List Int)×Int×Int
def tw (w:R12Work):T9:=(w.M.Rows,w.M.Cols,w.M.A,w.U.Rows,w.U.Cols,w.U.A,w.V.Rows,w.V.Cols,w.V.A)
def tf (w:R12Work) (t c:Int):T11:=(w.M.Rows,w.M.Cols,w.M.A,w.U.Rows,w.U.Cols,w.U.A,w.V.Rows,w.V.Cols,w.V.A,t,c)
theorem fs_pow {z:Int} {x:Nat} (h:z.natAbs≤2^x) (hx:x<15999900):Fs z:=by
 obtain ⟨e,he⟩:∃ e,e=15999900:=⟨_,rfl⟩
 exact fs_of he (Nat.lt_of_le_of_lt h (Nat.pow_lt_pow_right (by decide) (by omega)))
theorem ft_pow {z:Int} {x:Nat} (h:z.natAbs≤2^x) (hx:x<16000000):Ft z:=by
 obtain ⟨e,he⟩:∃ e,e=16000000:=⟨_,rfl⟩
 exact ft_of he (Nat.lt_of_le_of_lt h (Nat.pow_lt_pow_right (by decide) (by omega)))
theorem le_pow {z:Nat} {x y:Nat} (h:z≤2^x) (hx:x≤y):z≤2^y:=Nat.le_trans h (Nat.pow_le_pow_right (by decide) hx)
theorem mul_pow {x y:Int} {p q:Nat} (hx:x.natAbs≤2^p) (hy:y.natAbs≤2^q):(x*y).natAbs≤2^(p+q):=by
 rw [Int.natAbs_mul,Nat.pow_add]; exact Nat.mul_le_mul hx hy
theorem add_pow {x y:Int} {p:Nat} (hx:x.natAbs≤2^p) (hy:y.natAbs≤2^p):(x+y).natAbs≤2^(p+1):=by
 have:=Int.natAbs_add_le x y
 rw [Nat.pow_succ]; omega
theorem twelve (x e:Nat):12*(2^x*2^e)≤2^(x+e+4):=by
 rw [Nat.pow_add,Nat.pow_add]
 have:12*(2^x*2^e)≤16*(2^x*2^e):=Nat.mul_le_mul_right _ (by omega)
 rw [Nat.mul_comm] at this
 simpa [Nat.mul_comm] using this
theorem quo_le {x y:Int} (hy:y≠0):(x / y).natAbs≤x.natAbs+(x % y).natAbs:=by
 have:=qb_le x y hy
 have h2:(x / y).natAbs≤(x / y).natAbs*y.natAbs:=Nat.le_mul_of_pos_right _ (by omega)
 have h3:(x / y).natAbs*y.natAbs+(x % y).natAbs≤x.natAbs+2*(x % y).natAbs:=this
 omega
section
variable {Q:(Nat→Int)→Prop} {n m:Nat} {top i c b v x y:Nat} {F G:Fam}
structure ER (Q:(Nat→Int)→Prop) (n m top i c x y b:Nat) (F G F' G':Fam):Prop where
 fr:∀ k,k≠top→k≠i→F' k=F k∧G' k=G k
 q:Q (F' top)∧Q (F' i)
 z:∀ j,j<c→F' top j=0∧F' i j=0
 z0:F' i c=0
 bd:∀ j,j<m+n→(F' top j).natAbs≤2^(x+b+4)∧(F' i j).natAbs≤2^(x+b+4)
 bg:∀ r,r<n→(G' top r).natAbs≤2^(y+b+4)∧(G' i r).natAbs≤2^(y+b+4)
 hd:(F' top c).natAbs≤2^b
 nz:F' top c=0→F'=F∧G'=G
 rv:Rv n F F'
theorem ft0:Ft 0:=by
 obtain ⟨e,he⟩:∃ e,e=16000000:=⟨_,rfl⟩
 exact ft_of he (Nat.two_pow_pos _)
section
variable (hi:i<n) (ht:top<n) (hc:c<m)
include hi ht hc
theorem b1_zero (f:Ft (F i c)) (h:F i c=0):M.r12_Form_b1 (top:Int) (c:Int) (i:Int) (tw (Wk n m F G))=some (.inr (.inl (tw (Wk n m F G)))):=by
 unfold M.r12_Form_b1 tw Wk
 dsimp only
 rw [nth_at (mx_get hi),nth_at (vr_get hc),isign_ok f,bnd_pure,if_pos ((sign0 _).2 h)]; rfl
theorem b1_swap (hti:top≠i) (hn:n≤1000000) (f:Ft (F i c)) (h:F i c≠0) (h2:F top c=0):M.r12_Form_b1 (top:Int) (c:Int) (i:Int) (tw (Wk n m F G))=some (.inl (tw (Wk n m (rswp F top i) (rswp G top i)))):=by
 have e:=Swap_ok (F:=F) (G:=G) (m:=m) ht hi hti hn
 unfold M.r12_Form_b1 tw
 unfold Wk at e ⊢
 dsimp only
 rw [nth_at (mx_get hi),nth_at (vr_get hc),isign_ok f,bnd_pure,if_neg (fun e=>h ((sign0 _).1 e)),nth_at (mx_get ht),nth_at (vr_get hc),isign_ok (by rw [h2]; exact ft0),bnd_pure,if_pos ((sign0 _).2 h2),e,bnd_pure]
theorem b1_div (hti:top≠i) (hn:n≤1000000) (hm:m≤1000000) {X Y b:Nat} (hX:X+b+2≤15999900) (hY:Y+b+2≤15999900) (h:F i c≠0) (h2:F top c≠0) (hb:(F top c).natAbs≤2^b∧(F i c).natAbs≤2^b)
  (hF:∀ j,j<m+n→(F top j).natAbs≤2^X∧(F i j).natAbs≤2^X) (hG:∀ r,r<n→(G top r).natAbs≤2^Y∧(G i r).natAbs≤2^Y) :
  M.r12_Form_b1 (top:Int) (c:Int) (i:Int) (tw (Wk n m F G))=some (.inl (tw (Wk n m (stF F top i c) (stG F G top i c)))):=by
 have f1:Fs (F i c):=fs_pow (x:=b) hb.2 (by omega)
 have f2:Fs (F top c):=fs_pow (x:=b) hb.1 (by omega)
 have hq:(F top c / F i c).natAbs≤2^(b+1):=by
  have h3:=quo_le (x:=F top c) h
  have h4:=Int.emod_lt (F top c) h
  have h5:=Int.emod_nonneg (F top c) h
  rw [Nat.pow_succ]; omega
 have hq':(-(F top c / F i c)).natAbs≤2^(b+1):=by rw [Int.natAbs_neg]; exact hq
 have e:=AddTo_ok (F:=F) (G:=G) (m:=m) (k:=-(F top c / F i c)) ht hi hti hn hm (ft_pow hq' (by omega))
  (fun j hj=>⟨ft_pow (hF j hj).1 (by omega),ft_pow (hF j hj).2 (by omega),ft_pow (mul_pow hq' (hF j hj).2) (by omega)⟩)
  (fun r hr=>⟨ft_pow (hG r hr).2 (by omega),ft_pow (hG r hr).1 (by omega),ft_pow (mul_pow hq' (hG r hr).1) (by omega)⟩)
 rw [Int.neg_neg] at e
 have e2:=Swap_ok (F:=radd F top (-(F top c / F i c)) i) (G:=radd G i (F top c / F i c) top) (m:=m) ht hi hti hn
 unfold M.r12_Form_b1 tw
 have e3:(Wk n m F G).M.A=mx n m F:=rfl
 dsimp only
 rw [e3,nth_at (mx_get hi),nth_at (vr_get hc),isign_ok f1.ft,bnd_pure,if_neg (fun e=>h ((sign0 _).1 e)),nth_at (mx_get ht),nth_at (vr_get hc),isign_ok f2.ft,bnd_pure,if_neg (fun e=>h2 ((sign0 _).1 e)),DivMod_ok f2 f1 h,bnd_pure,ineg_ok (ft_pow hq (by omega)),bnd_pure]
 rw [show (R12Work.mk (TMat.mk (Wk n m F G).M.Rows (Wk n m F G).M.Cols (mx n m F)) (TMat.mk (Wk n m F G).U.Rows (Wk n m F G).U.Cols (Wk n m F G).U.A) (TMat.mk (Wk n m F G).V.Rows (Wk n m F G).V.Cols (Wk n m F G).V.A))=Wk n m F G from rfl,e,bnd_pure,e2,bnd_pure]
 rfl
end
theorem iter_gh {σ β γ:Type} {b:σ→Option (σ ⊕ β)} (P:γ→σ→Prop) (μ:γ→Nat) (R:β→Prop)
  (hb:∀ g s,P g s→(∃ s' g',b s=some (.inl s')∧P g' s'∧μ g'<μ g)∨(∃ r,b s=some (.inr r)∧R r)) :
  ∀ m g s,P g s→μ g<m→∃ r,iter b m s=some r∧R r
 | 0,g,s,_,h=>by omega
 | m+1,g,s,hp,h=>by
  rcases hb g s hp with ⟨s',g',h1,h2,h3⟩ | ⟨r,h1,h2⟩
  ·obtain ⟨r,h4,h5⟩:=iter_gh P μ R hb m g' s' h2 (by omega)
   exact ⟨r,by simp only [iter,h1]; exact h4,h5⟩
  ·exact ⟨r,by simp only [iter,h1],h2⟩
theorem mu_small {a d:Int} (ha:a.natAbs≤2^b) (hd:d.natAbs≤2^b) (hb:b≤16000000):Eu.mu a d<64000000:=by
 unfold Eu.mu
 split
 ·omega
 ·have h1:Nat.log2 (a.natAbs*d.natAbs)≤2*b:=by
   have h2:a.natAbs*d.natAbs≤2^(2*b):=by rw [Nat.two_mul,Nat.pow_add]; exact Nat.mul_le_mul ha hd
   by_cases h0:a.natAbs*d.natAbs=0
   ·rw [h0]; simp
   ·have:Nat.log2 (a.natAbs*d.natAbs)<2*b+1:=(Nat.log2_lt h0).2 (Nat.lt_of_le_of_lt h2 (Nat.pow_lt_pow_right (by decide) (by omega)))
    omega
  split<;>omega
theorem euclid_ok (hQ:LinQ Q) (ht:top<n) (hi:i<n) (hti:top≠i) (hc:c<m) (hn:n≤1000000) (hm:m≤1000000) (hx:x+2*b+20≤15999900) (hy:y+2*b+20≤15999900)
  (q:Q (F top)∧Q (F i)) (z:∀ j,j<c→F top j=0∧F i j=0) (bd:∀ j,j<m+n→(F top j).natAbs≤2^x∧(F i j).natAbs≤2^x) (bg:∀ r,r<n→(G top r).natAbs≤2^y∧(G i r).natAbs≤2^y)
  (hd:(F top c).natAbs≤2^b∧(F i c).natAbs≤2^b) :
  ∃ F' G',loop (M.r12_Form_b1 (top:Int) (c:Int) (i:Int)) (tw (Wk n m F G))=some (.inl (tw (Wk n m F' G')))∧ER Q n m top i c x y b F G F' G':=by
 have stq:∀ F':Fam,Q (F' top)∧Q (F' i)→Q (stF F' top i c top)∧Q (stF F' top i c i):=fun F' h=>by
  refine ⟨by rw [stF_top hti]; exact h.2,?_⟩
  rw [show stF F' top i c i=fun j=>F' top j+(-(F' top c / F' i c))*F' i j from funext fun j=>by rw [stF_i hti,Int.neg_mul]; rfl]
  exact hQ _ _ _ h.1 h.2
 have stz:∀ F':Fam,(∀ j,j<c→F' top j=0∧F' i j=0)→∀ j,j<c→stF F' top i c top j=0∧stF F' top i c i j=0:=fun F' h j hj=>by
  rw [stF_top hti,stF_i hti,(h j hj).1,(h j hj).2]; simp
 have stfr:∀ (F' G':Fam) k,k≠top→k≠i→stF F' top i c k=F' k∧stG F' G' top i c k=G' k:=fun F' G' k h1 h2=>by
  unfold stF stG
  rw [rswp_ne h1 h2,rswp_ne h1 h2,radd_ne h1,radd_ne h2]; exact ⟨rfl,rfl⟩
 have eiF:∀ F' G',EI top i c (m+n) n (2^x) (2^y) (2^b) F' G'→(∀ j,j<m+n→(F' top j).natAbs≤2^(x+b+4)∧(F' i j).natAbs≤2^(x+b+4))∧(∀ r,r<n→(G' top r).natAbs≤2^(y+b+4)∧(G' i r).natAbs≤2^(y+b+4)):=fun F' G' w=>
  ⟨fun j hj=>⟨Nat.le_trans (w.T j hj) (twelve x b),Nat.le_trans (w.row hj) (twelve x b)⟩,fun r hr=>⟨Nat.le_trans (w.colG hr) (twelve y b),Nat.le_trans (w.TG r hr) (twelve y b)⟩⟩
 refine Exists.elim (iter_gh (b:=M.r12_Form_b1 (top:Int) (c:Int) (i:Int)) (γ:=Fam×Fam×Bool)
  (fun g s=>s=tw (Wk n m g.1 g.2.1)∧(∀ k,k≠top→k≠i→g.1 k=F k∧g.2.1 k=G k)∧(Q (g.1 top)∧Q (g.1 i))∧(∀ j,j<c→g.1 top j=0∧g.1 i j=0)∧Rv n F g.1 ∧
   ((g.2.2=true∧g.1=F∧g.2.1=G)∨(g.2.2=false∧EI top i c (m+n) n (2^x) (2^y) (2^b) g.1 g.2.1)))
  (fun g=>if g.2.2=true then 64000000 else Eu.mu (g.1 top c) (g.1 i c))
  (fun r=>∃ F' G',r=.inl (tw (Wk n m F' G'))∧ER Q n m top i c x y b F G F' G') ?_ fuel (F,G,true) (tw (Wk n m F G)) ⟨rfl,fun _ _ _=>⟨rfl,rfl⟩,q,z,Rv.refl _ _,.inl ⟨rfl,rfl,rfl⟩⟩ (by show (64000000:Nat)<1000000000000; omega)) ?_
 ·rintro ⟨F',G',fl⟩ _ ⟨rfl,fr,q',z',rv',hst⟩
  dsimp only at fr q' z' rv' hst ⊢
  rcases hst with ⟨rfl,rfl,rfl⟩ | ⟨rfl,w⟩
  ·-- the first round
   have f1:Ft (F' i c):=ft_pow hd.2 (by omega)
   by_cases h:F' i c=0
   ·refine .inr ⟨_,b1_zero hi ht hc f1 h,F',G',rfl,fun _ _ _=>⟨rfl,rfl⟩,q,z,h,fun j hj=>⟨le_pow (bd j hj).1 (by omega),le_pow (bd j hj).2 (by omega)⟩,fun r hr=>⟨le_pow (bg r hr).1 (by omega),le_pow (bg r hr).2 (by omega)⟩,hd.1,fun _=>⟨rfl,rfl⟩,Rv.refl _ _⟩
   ·refine .inl ?_
    by_cases h2:F' top c=0
    ·have w:=EI.init0 (mn:=m+n) (n:=n) (B:=2^x) (BG:=2^y) (E:=2^b) hti h h2 bd bg hd.2
     refine ⟨_,(rswp F' top i,rswp G' top i,false),b1_swap hi ht hc hti hn f1 h h2,⟨rfl,fun k h1 h2=>⟨rswp_ne h1 h2,rswp_ne h1 h2⟩,⟨by show Q (rswp F' top i top); rw [rswp_l]; exact q.2,by show Q (rswp F' top i i); rw [rswp_r hti]; exact q.1⟩,fun j hj=>⟨by show rswp F' top i top j=0; rw [rswp_l]; exact (z j hj).2,by show rswp F' top i i j=0; rw [rswp_r hti]; exact (z j hj).1⟩,Rv.swp ht hi hti,.inr ⟨rfl,w⟩⟩,?_⟩
     rw [if_pos rfl,if_neg Bool.false_ne_true]
     exact mu_small w.aE (Nat.le_trans (Nat.le_of_lt w.lt) w.aE) (by omega)
    ·have w:=EI.init (mn:=m+n) (n:=n) (B:=2^x) (BG:=2^y) (E:=2^b) hti h (by omega) bd bg hd.1 hd.2
     refine ⟨_,(stF F' top i c,stG F' G' top i c,false),b1_div hi ht hc hti hn hm (X:=x) (Y:=y) (b:=b) (by omega) (by omega) h h2 hd bd bg,⟨rfl,fun k h1 h2=>stfr F' G' k h1 h2,stq _ q,stz _ z,(Rv.add ht hi hti).trans (Rv.swp ht hi hti),.inr ⟨rfl,w⟩⟩,?_⟩
     rw [if_pos rfl,if_neg Bool.false_ne_true]
     exact mu_small w.aE (Nat.le_trans (Nat.le_of_lt w.lt) w.aE) (by omega)
  ·have hb2:(F' top c).natAbs≤2^b∧(F' i c).natAbs≤2^b:=⟨w.aE,Nat.le_trans (Nat.le_of_lt w.lt) w.aE⟩
   have f1:Ft (F' i c):=ft_pow hb2.2 (by omega)
   have h2:F' top c≠0:=by have:=w.lt; omega
   obtain ⟨e1,e2⟩:=eiF F' G' w
   by_cases h:F' i c=0
   ·exact .inr ⟨_,b1_zero hi ht hc f1 h,F',G',rfl,fr,q',z',h,e1,e2,hb2.1,fun e=>absurd e h2,rv'⟩
   ·refine .inl ⟨_,(stF F' top i c,stG F' G' top i c,false),b1_div hi ht hc hti hn hm (X:=x+b+4) (Y:=y+b+4) (b:=b) (by omega) (by omega) h h2 hb2 e1 e2,⟨rfl,fun k h1 h2=>?_,stq _ q',stz _ z',rv'.trans ((Rv.add ht hi hti).trans (Rv.swp ht hi hti)),.inr ⟨rfl,w.step hti h⟩⟩,?_⟩
    ·have:=stfr F' G' k h1 h2
     exact ⟨this.1.trans (fr k h1 h2).1,this.2.trans (fr k h1 h2).2⟩
    ·rw [if_neg Bool.false_ne_true,if_neg Bool.false_ne_true]
     exact w.mu hti h
 ·rintro r ⟨h1,F',G',rfl,h2⟩
  exact ⟨F',G',h1,h2⟩
end
end Go.Z
end
section
namespace Go.Z
open Eu
section
variable {Q:(Nat→Int)→Prop} {n m:Nat} {top i c b a v:Nat} {F G:Fam}
structure HN (c t:Nat) (p:Nat→Nat) (F:Fam):Prop where
 lt:∀ k,k<t→p k<c
 mono:∀ k l,k<l→l<t→p k<p l
 z:∀ k,k<t→∀ j,j<p k→F k j=0
 pos:∀ k,k<t→0<F k (p k)
 red:∀ i k,i<k→k<t→0≤F i (p k)∧F i (p k)<F k (p k)
structure FI (Q:(Nat→Int)→Prop) (n m b a v c top:Nat) (A0 F G:Fam):Prop where
 tn:top≤n
 tc:top≤c
 cm:c≤m
 zero:∀ k,top≤k→k<n→∀ j,j<c→F k j=0
 piv:∀ k,k<top→∃ p,p<c∧F k p≠0
 q:∀ k,k<n→Q (F k)
 lo:∀ k,top≤k→k<n→∀ j,j<m+n→(F k j).natAbs≤2^b
 hi:∀ k,k<top→∀ j,j<m+n→(F k j).natAbs≤2^a
 g:∀ k,k<n→∀ r,r<n→(G k r).natAbs≤2^v
 rv:Rv n A0 F
 hn:∃ p,HN c top p F
structure CI (Q:(Nat→Int)→Prop) (n m b v x y c top i:Nat) (F G F' G':Fam):Prop where
 fr:∀ k,k<top∨i≤k→k≠top→F' k=F k
 q:∀ k,k<n→Q (F' k)
 z:∀ k,top≤k→k<n→∀ j,j<c→F' k j=0
 z0:∀ k,top<k→k<i→F' k c=0
 bd:∀ k,top≤k→k<n→∀ j,j<m+n→(F' k j).natAbs≤2^x
 bg:∀ k,k<n→∀ r,r<n→(G' k r).natAbs≤2^y
 hd:(F' top c).natAbs≤2^b
 nz:F' top c=0→F'=F∧G'=G
 rv:Rv n F F'
theorem CI.step {x y:Nat} {F' G':Fam} (w:CI Q n m b v x y c top i F G F' G') (hQ:LinQ Q) (ht:top<i) (hi:i<n) (hc:c<m) (hn:n≤1000000) (hm:m≤1000000) (hF:(F i c).natAbs≤2^b) (hx:x+2*b+20≤15999900) (hy:y+2*b+20≤15999900) :
  ∃ F2 G2,loop (M.r12_Form_b1 (top:Int) (c:Int) (i:Int)) (tw (Wk n m F' G'))=some (.inl (tw (Wk n m F2 G2)))∧CI Q n m b v (x+b+4) (y+b+4) c top (i+1) F G F2 G2:=by
 obtain ⟨F2,G2,h1,w2⟩:=euclid_ok (F:=F') (G:=G') (b:=b) (x:=x) (y:=y) hQ (show top<n by omega) hi (show top≠i by omega) hc hn hm hx hy ⟨w.q top (by omega),w.q i hi⟩ (fun j hj=>⟨w.z top (Nat.le_refl _) (by omega) j hj,w.z i (by omega) hi j hj⟩)
  (fun j hj=>⟨w.bd top (Nat.le_refl _) (by omega) j hj,w.bd i (by omega) hi j hj⟩) (fun r hr=>⟨w.bg top (by omega) r hr,w.bg i hi r hr⟩) ⟨w.hd,by rw [w.fr i (.inr (Nat.le_refl _)) (by omega)]; exact hF⟩
 have oth:∀ k,k=top∨k=i∨(F2 k=F' k∧G2 k=G' k):=fun k=>by
  by_cases h1:k=top
  ·exact .inl h1
  ·by_cases h2:k=i
   ·exact .inr (.inl h2)
   ·exact .inr (.inr (w2.fr k h1 h2))
 refine ⟨F2,G2,h1,?_,?_,?_,?_,?_,?_,w2.hd,?_,w.rv.trans w2.rv⟩
 ·intro k hk hkt
  rw [(w2.fr k hkt (by omega)).1]
  exact w.fr k (by omega) hkt
 ·intro k hk
  rcases oth k with rfl | rfl | h
  ·exact w2.q.1
  ·exact w2.q.2
  ·rw [h.1]; exact w.q k hk
 ·intro k h1 h2 j hj
  rcases oth k with rfl | rfl | h
  ·exact (w2.z j hj).1
  ·exact (w2.z j hj).2
  ·rw [h.1]; exact w.z k h1 h2 j hj
 ·intro k h1 h2
  rcases oth k with rfl | rfl | h
  ·omega
  ·exact w2.z0
  ·rw [h.1]
   by_cases e:k=i
   ·subst e; rw [← h.1]; exact w2.z0
   ·exact w.z0 k h1 (by omega)
 ·intro k h1 h2 j hj
  rcases oth k with rfl | rfl | h
  ·exact (w2.bd j hj).1
  ·exact (w2.bd j hj).2
  ·rw [h.1]; exact le_pow (w.bd k h1 h2 j hj) (by omega)
 ·intro k h1 r hr
  rcases oth k with rfl | rfl | h
  ·exact (w2.bg r hr).1
  ·exact (w2.bg r hr).2
  ·rw [h.2]; exact le_pow (w.bg k h1 r hr) (by omega)
 ·intro e
  obtain ⟨e1,e2⟩:=w2.nz e
  rw [e1] at e
  obtain ⟨e3,e4⟩:=w.nz e
  exact ⟨e1.trans e3,e2.trans e4⟩
theorem column_ok {A0:Fam} (hQ:LinQ Q) (w:FI Q n m b a v c top A0 F G) (ht:top<n) (hc:c<m) (hn:n≤1000000) (hm:m≤1000000) (hx:b+(n-top-1)*(b+4)+2*b+20≤15999900) (hy:v+(n-top-1)*(b+4)+2*b+20≤15999900) :
  ∃ F' G',rngN (M.r12_Form_b4 (top:Int) (c:Int)) (M.r12_Form_k4 (top:Int) (c:Int)) (n:Int) ((top:Int)+1) (tw (Wk n m F G))=M.r12_Form_k4 (top:Int) (c:Int) (tw (Wk n m F' G')) ∧
   CI Q n m b v (b+(n-top-1)*(b+4)) (v+(n-top-1)*(b+4)) c top n F G F' G':=by
 obtain ⟨s',⟨F',G',e,h1⟩,h2⟩:=rngN_inv (b:=M.r12_Form_b4 (top:Int) (c:Int)) (e:=M.r12_Form_k4 (top:Int) (c:Int)) (s:=tw (Wk n m F G)) (K:=(n:Int)) (I:=(top:Int)+1) (k:=n) (i:=top+1)
  (fun i s=>∃ F' G',s=tw (Wk n m F' G')∧CI Q n m b v (b+(i-top-1)*(b+4)) (v+(i-top-1)*(b+4)) c top i F G F' G') rfl (by simp) (by omega) ht
  ⟨F,G,rfl,fun _ _ _=>rfl,w.q,w.zero,fun k h1 h2=>by omega,fun k h1 h2 j hj=>le_pow (w.lo k h1 h2 j hj) (by omega),fun k h1 r hr=>le_pow (w.g k h1 r hr) (by omega),w.lo top (Nat.le_refl _) ht c (by omega),fun _=>⟨rfl,rfl⟩,Rv.refl _ _⟩
  (fun i s h1 h2 hs=>by
   obtain ⟨F',G',rfl,w1⟩:=hs
   have hle:(i-top-1)*(b+4)≤(n-top-1)*(b+4):=Nat.mul_le_mul_right _ (by omega)
   obtain ⟨F2,G2,e2,w2⟩:=w1.step hQ (by omega) h2 hc hn hm (w.lo i (by omega) h2 c (by omega)) (by omega) (by omega)
   have e3:i+1-top-1=(i-top-1)+1:=by omega
   refine ⟨tw (Wk n m F2 G2),e2,F2,G2,rfl,?_⟩
   rw [e3,Nat.add_mul,Nat.one_mul,← Nat.add_assoc,← Nat.add_assoc,← Nat.add_assoc,← Nat.add_assoc]
   exact w2)
 subst e
 exact ⟨F',G',h2,h1⟩
structure HI (Q:(Nat→Int)→Prop) (n m a x y c top i:Nat) (F F' G':Fam):Prop where
 fr:∀ k,i≤k→F' k=F k
 q:∀ k,k<n→Q (F' k)
 p:∀ k,k<top→∀ j,j<c→F' k j=F k j
 hi:∀ k,k<i→∀ j,j<m+n→(F' k j).natAbs≤2^(a+x+1)
 g:∀ k,k<n→k≠top→∀ r,r<n→(G' k r).natAbs≤2^y
 gt:∀ r,r<n→(G' top r).natAbs≤2^(y+a+1+i)
 rv:Rv n F F'
 rd:∀ k,k<i→F' k c=F k c % F top c
theorem reduce_ok {x y:Nat} (hQ:LinQ Q) (ht:top<n) (hc:c<m) (hn:n≤1000000) (hm:m≤1000000) (hax:a+x+1≤15999000) (hay:y+a+1+n≤15999000) (hpos:F top c≠0)
  (q:∀ k,k<n→Q (F k)) (z:∀ j,j<c→F top j=0) (ba:∀ k,k<top→∀ j,j<m+n→(F k j).natAbs≤2^a) (bt:∀ j,j<m+n→(F top j).natAbs≤2^x) (bg:∀ k,k<n→∀ r,r<n→(G k r).natAbs≤2^y) :
  ∃ F' G',rngN (M.r12_Form_b2 (top:Int) (c:Int)) (M.r12_Form_k2 (top:Int) (c:Int)) (top:Int) 0 (tw (Wk n m F G))=M.r12_Form_k2 (top:Int) (c:Int) (tw (Wk n m F' G'))∧HI Q n m a x y c top top F F' G':=by
 obtain ⟨s',⟨F',G',e,h1⟩,h2⟩:=rngN_inv (b:=M.r12_Form_b2 (top:Int) (c:Int)) (e:=M.r12_Form_k2 (top:Int) (c:Int)) (s:=tw (Wk n m F G)) (K:=(top:Int)) (I:=0) (k:=top) (i:=0)
  (fun i s=>∃ F' G',s=tw (Wk n m F' G')∧HI Q n m a x y c top i F F' G') rfl rfl (by omega) (Nat.zero_le _)
  ⟨F,G,rfl,fun _ _=>rfl,q,fun _ _ _ _=>rfl,fun k h=>by omega,fun k h1 _ r hr=>bg k h1 r hr,fun r hr=>le_pow (bg top ht r hr) (by omega),Rv.refl _ _,fun k h=>by omega⟩
  (fun i s h1 h2 hs=>by
   obtain ⟨F',G',rfl,w⟩:=hs
   have ei:=w.fr i (Nat.le_refl _)
   have et:=w.fr top (by omega)
   have hin:i<n:=by omega
   have bi:=ba i h2
   have bi':∀ j,j<m+n→(F' i j).natAbs≤2^a:=by rw [ei]; exact bi
   have bt':∀ j,j<m+n→(F' top j).natAbs≤2^x:=by rw [et]; exact bt
   have fi:Fs (F' i c):=by rw [ei]; exact fs_pow (bi c (by omega)) (by omega)
   have ft:Fs (F' top c):=by rw [et]; exact fs_pow (bt c (by omega)) (by omega)
   have ht0:F' top c≠0:=by rw [et]; exact hpos
   have hq:(F' i c / F' top c).natAbs≤2^a:=Nat.le_trans (Int.natAbs_ediv_le_natAbs _ _) (by rw [ei]; exact bi c (by omega))
   have hq':(-(F' i c / F' top c)).natAbs≤2^a:=by rw [Int.natAbs_neg]; exact hq
   have e:=AddTo_ok (F:=F') (G:=G') (m:=m) (k:=-(F' i c / F' top c)) hin ht (show i≠top by omega) hn hm (ft_pow hq' (by omega))
    (fun j hj=>⟨ft_pow (bi' j hj) (by omega),ft_pow (bt' j hj) (by omega),ft_pow (mul_pow hq' (bt' j hj)) (by omega)⟩)
    (fun r hr=>⟨ft_pow (w.gt r hr) (by omega),ft_pow (w.g i hin (by omega) r hr) (by omega),ft_pow (mul_pow hq' (w.g i hin (by omega) r hr)) (by omega)⟩)
   rw [Int.neg_neg] at e
   refine ⟨tw (Wk n m (radd F' i (-(F' i c / F' top c)) top) (radd G' top (F' i c / F' top c) i)),?_,_,_,rfl,?_,?_,?_,?_,?_,?_,w.rv.trans (Rv.add hin ht (by omega)),?_⟩
   ·unfold M.r12_Form_b2 tw
    have e3:(Wk n m F' G').M.A=mx n m F':=rfl
    dsimp only
    rw [e3,nth_at (mx_get hin),nth_at (vr_get hc),nth_at (mx_get ht),nth_at (vr_get hc)]
    unfold M.r12_Floor
    rw [DivMod_ok fi ft ht0,bnd_pure,bnd_pure,ineg_ok (ft_pow hq (by omega)),bnd_pure]
    rw [show (R12Work.mk (TMat.mk (Wk n m F' G').M.Rows (Wk n m F' G').M.Cols (mx n m F')) (TMat.mk (Wk n m F' G').U.Rows (Wk n m F' G').U.Cols (Wk n m F' G').U.A) (TMat.mk (Wk n m F' G').V.Rows (Wk n m F' G').V.Cols (Wk n m F' G').V.A))=Wk n m F' G' from rfl,e,bnd_pure]
   ·intro k hk
    rw [radd_ne (by omega)]; exact w.fr k (by omega)
   ·intro k hk
    by_cases e:k=i
    ·subst e
     rw [show radd F' k (-(F' k c / F' top c)) top k=fun j=>F' k j+(-(F' k c / F' top c))*F' top j from funext fun j=>radd_at ..]
     exact hQ _ _ _ (w.q k hk) (w.q top ht)
    ·rw [radd_ne e]; exact w.q k hk
   ·intro k hk j hj
    by_cases e:k=i
    ·subst e
     rw [radd_at,et,z j hj,Int.mul_zero,Int.add_zero]; exact w.p k hk j hj
    ·rw [radd_ne e]; exact w.p k hk j hj
   ·intro k hk j hj
    by_cases e:k=i
    ·subst e
     rw [radd_at]
     exact add_pow (le_pow (bi' j hj) (by omega)) (mul_pow hq' (bt' j hj))
    ·rw [radd_ne e]; exact w.hi k (by omega) j hj
   ·intro k hk hkt r hr
    rw [radd_ne hkt]; exact w.g k hk hkt r hr
   ·intro r hr
    rw [radd_at]
    have:=add_pow (w.gt r hr) (le_pow (mul_pow hq (w.g i hin (by omega) r hr)) (show a+y≤y+a+1+i by omega))
    exact this
   ·intro k hk
    by_cases e:k=i
    ·subst e
     rw [radd_at,ei,et,Int.emod_def,Int.neg_mul,Int.mul_comm (F k c / F top c)]; omega
    ·rw [radd_ne e]; exact w.rd k (by omega))
 subst e
 exact ⟨F',G',h2,h1⟩
theorem form_step {A0:Fam} (hQ:LinQ Q) (w:FI Q n m b a v c top A0 F G) (ht:top<n) (hc:c<m) (hn:n≤1000000) (hm:m≤1000000) (hx:b+(n-top-1)*(b+4)+2*b+a+20≤15999000) (hy:v+(n-top-1)*(b+4)+2*b+a+n+20≤15999000) (x0:TMat) (h0:x0.Rows=(n:Int)) (h1:x0.Cols=(m:Int)) :
  ∃ F' G',(M.r12_Form_b6 x0 (tf (Wk n m F G) top c)=some (.inl (tf (Wk n m F' G') top ((c:Int)+1)))∧FI Q n m b a v (c+1) top A0 F' G') ∨
   (M.r12_Form_b6 x0 (tf (Wk n m F G) top c)=some (.inl (tf (Wk n m F' G') ((top:Int)+1) ((c:Int)+1)))∧FI Q n m (b+(n-top-1)*(b+4)) (a+(b+(n-top-1)*(b+4))+1) (v+(n-top-1)*(b+4)+a+1+top) (c+1) (top+1) A0 F' G'):=by
 obtain ⟨F1,G1,e1,w1⟩:=column_ok hQ w ht hc hn hm (by omega) (by omega)
 have start:M.r12_Form_b6 x0 (tf (Wk n m F G) top c)=M.r12_Form_k4 (top:Int) (c:Int) (tw (Wk n m F1 G1)):=by
  unfold M.r12_Form_b6 tf
  dsimp only
  rw [h1,h0,if_pos (by omega),decide_eq_true (by omega)]
  unfold M.r12_Form_j5
  rw [if_pos rfl,h0,chk64_pos (by omega)]
  exact e1
 rw [start]
 generalize hX:b+(n-top-1)*(b+4)=X at *
 generalize hY:v+(n-top-1)*(b+4)=Y at *
 have f1:Ft (F1 top c):=ft_pow w1.hd (by omega)
 have e3:(Wk n m F1 G1).M.A=mx n m F1:=rfl
 by_cases h:F1 top c=0
 ·obtain ⟨rfl,rfl⟩:=w1.nz h
  refine ⟨F1,G1,.inl ⟨?_,w.tn,by have:=w.tc; omega,by omega,fun k h1 h2 j hj=>?_,fun k hk=>?_,w.q,w.lo,w.hi,w.g,w.rv,?_⟩⟩
  ·unfold M.r12_Form_k4 tw
   dsimp only
   rw [e3,nth_at (mx_get ht),nth_at (vr_get hc),isign_ok f1,bnd_pure,if_pos ((sign0 _).2 h),chk64_pos (by omega)]
   rfl
  ·by_cases e:j=c
   ·subst e
    by_cases e2:k=top
    ·rw [e2]; exact h
    ·exact w1.z0 k (by omega) h2
   ·exact w.zero k h1 h2 j (by omega)
  ·obtain ⟨p,h1,h2⟩:=w.piv k hk
   exact ⟨p,by omega,h2⟩
  ·obtain ⟨p,hp⟩:=w.hn
   exact ⟨p,fun k hk=>by have:=hp.lt k hk; omega,hp.mono,hp.z,hp.pos,hp.red⟩
 ·-- the sign of the head
  obtain ⟨F2,G2,e2,hne,fr2,q2,z2,b2,g2,z02⟩:∃ F2 G2,M.r12_Form_k4 (top:Int) (c:Int) (tw (Wk n m F1 G1))=rngN (M.r12_Form_b2 (top:Int) (c:Int)) (M.r12_Form_k2 (top:Int) (c:Int)) (top:Int) 0 (tw (Wk n m F2 G2))∧0<F2 top c ∧
    (∀ k,k≠top→F2 k=F1 k)∧(∀ k,k<n→Q (F2 k))∧(∀ j,j<c→F2 top j=0)∧(∀ j,j<m+n→(F2 top j).natAbs≤2^X)∧(∀ k,k<n→∀ r,r<n→(G2 k r).natAbs≤2^Y)∧Rv n F1 F2:=by
   by_cases hs:F1 top c<0
   ·have e:=Negate_ok (F:=F1) (G:=G1) (m:=m) ht hn hm (fun j hj=>ft_pow (w1.bd top (Nat.le_refl _) ht j hj) (by omega)) (fun r hr=>ft_pow (w1.bg top ht r hr) (by omega))
    refine ⟨rneg F1 top,rneg G1 top,?_,by rw [rneg_at]; omega,fun k hk=>rneg_ne hk,fun k hk=>?_,fun j hj=>by rw [rneg_at,w1.z top (Nat.le_refl _) ht j hj]; rfl,fun j hj=>by rw [rneg_at,Int.natAbs_neg]; exact w1.bd top (Nat.le_refl _) ht j hj,fun k hk r hr=>?_,Rv.neg ht⟩
    ·unfold M.r12_Form_k4 tw
     dsimp only
     rw [e3,nth_at (mx_get ht),nth_at (vr_get hc),isign_ok f1,bnd_pure,if_neg (fun e=>h ((sign0 _).1 e)),bnd_pure,if_pos (by rw [Int.sign_eq_neg_one_of_neg hs]; decide),
      show (R12Work.mk (TMat.mk (Wk n m F1 G1).M.Rows (Wk n m F1 G1).M.Cols (mx n m F1)) (TMat.mk (Wk n m F1 G1).U.Rows (Wk n m F1 G1).U.Cols (Wk n m F1 G1).U.A) (TMat.mk (Wk n m F1 G1).V.Rows (Wk n m F1 G1).V.Cols (Wk n m F1 G1).V.A))=Wk n m F1 G1 from rfl,e,bnd_pure]
     rfl
    ·by_cases e:k=top
     ·subst e
      rw [show rneg F1 k k=fun j=>-F1 k j from funext fun j=>rneg_at ..]
      exact hQ.neg (w1.q k hk)
     ·rw [rneg_ne e]; exact w1.q k hk
    ·by_cases e:k=top
     ·subst e; rw [rneg_at,Int.natAbs_neg]; exact w1.bg k hk r hr
     ·rw [rneg_ne e]; exact w1.bg k hk r hr
   ·refine ⟨F1,G1,?_,by omega,fun _ _=>rfl,w1.q,w1.z top (Nat.le_refl _) ht,w1.bd top (Nat.le_refl _) ht,w1.bg,Rv.refl _ _⟩
    unfold M.r12_Form_k4 tw
    dsimp only
    rw [e3,nth_at (mx_get ht),nth_at (vr_get hc),isign_ok f1,bnd_pure,if_neg (fun e=>h ((sign0 _).1 e)),bnd_pure,if_neg (by rw [Int.sign_eq_one_of_pos (by omega)]; decide)]
    rfl
  obtain ⟨F3,G3,e4,w3⟩:=reduce_ok (a:=a) (x:=X) (y:=Y) hQ ht hc hn hm (by omega) (by omega) (by omega) q2 z2 (fun k hk j hj=>by rw [fr2 k (by omega),w1.fr k (.inl hk) (by omega)]; exact w.hi k hk j hj) b2 g2
  rw [e2,e4]
  refine ⟨F3,G3,.inr ⟨?_,by omega,by have:=w.tc; omega,by omega,fun k h1 h2 j hj=>?_,fun k hk=>?_,w3.q,fun k h1 h2 j hj=>?_,fun k hk j hj=>?_,fun k hk r hr=>?_,w.rv.trans (w1.rv.trans (z02.trans w3.rv)),?_⟩⟩
  ·unfold M.r12_Form_k2 tw
   dsimp only
   rw [chk64_pos (by omega)]
   rfl
  ·rw [w3.fr k (by omega),fr2 k (by omega)]
   by_cases e:j=c
   ·subst e; exact w1.z0 k (by omega) h2
   ·exact w1.z k (by omega) h2 j (by omega)
  ·by_cases e:k=top
   ·exact ⟨c,by omega,by rw [e,w3.fr top (Nat.le_refl _)]; omega⟩
   ·obtain ⟨p,h1,h2⟩:=w.piv k (by omega)
    refine ⟨p,by omega,?_⟩
    rw [w3.p k (by omega) p h1,fr2 k e,w1.fr k (.inl (by omega)) e]; exact h2
  ·rw [w3.fr k (by omega),fr2 k (by omega)]; exact w1.bd k (by omega) h2 j hj
  ·by_cases e:k=top
   ·rw [e,w3.fr top (Nat.le_refl _)]; exact le_pow (b2 j hj) (by omega)
   ·exact w3.hi k (by omega) j hj
  ·by_cases e:k=top
   ·rw [e]; exact le_pow (w3.gt r hr) (by omega)
   ·exact le_pow (w3.g k hk e r hr) (by omega)
  ·obtain ⟨p,hp⟩:=w.hn
   have et:∀ j,F3 top j=F2 top j:=fun j=>by rw [w3.fr top (Nat.le_refl _)]
   have eo:∀ k,k<top→∀ j,j<c→F3 k j=F k j:=fun k hk j hj=>by rw [w3.p k hk j hj,fr2 k (by omega),w1.fr k (.inl hk) (by omega)]
   refine ⟨fun k=>if k=top then c else p k,fun k hk=>?_,fun k l h1 h2=>?_,fun k hk j hj=>?_,fun k hk=>?_,fun i k h1 h2=>?_⟩
   ·by_cases e:k=top
    ·rw [if_pos e]; omega
    ·rw [if_neg e]; have:=hp.lt k (by omega); omega
   ·rw [if_neg (show ¬ k=top by omega)]
    by_cases e:l=top
    ·rw [if_pos e]; exact hp.lt k (by omega)
    ·rw [if_neg e]; exact hp.mono k l h1 (by omega)
   ·by_cases e:k=top
    ·rw [if_pos e] at hj; rw [e,et]; exact z2 j hj
    ·rw [if_neg e] at hj
     have:=hp.lt k (by omega)
     rw [eo k (by omega) j (by omega)]; exact hp.z k (by omega) j hj
   ·by_cases e:k=top
    ·rw [if_pos e,e,et]; exact hne
    ·rw [if_neg e,eo k (by omega) _ (hp.lt k (by omega))]; exact hp.pos k (by omega)
   ·by_cases e:k=top
    ·subst e
     rw [if_pos rfl,et,w3.rd i h1]
     exact ⟨Int.emod_nonneg _ (by omega),Int.emod_lt_of_pos _ hne⟩
    ·rw [if_neg e,eo k (by omega) _ (hp.lt k (by omega)),eo i (by omega) _ (hp.lt k (by omega))]; exact hp.red i k h1 (by omega)
end
end Go.Z
end
section
namespace Go.Z
open Eu
theorem mx_snoc (i m:Nat) (F:Fam):mx (i+1) m F=mx i m F++[vr m (F i)]:=by
 unfold mx; rw [List.range_succ,List.map_append]; rfl
theorem New_ok {n m:Nat} (hn:n≤1000000) (hm:m≤1000000):M.r05_New n m=some ⟨n,m,mx n m fun _ _=>0⟩:=by
 unfold M.r05_New
 obtain ⟨s',h1,h2⟩:=rngN_inv (b:=M.r05_New_b1 (m:Int)) (e:=M.r05_New_k1 (n:Int) (m:Int)) (s:=([]:List (List Int))) (K:=(n:Int)) (I:=0) (k:=n) (i:=0) (fun i v=>v=mx i m fun _ _=>0) rfl rfl (by omega) (Nat.zero_le _) rfl (fun i v _ hi hv=>by
  subst hv
  unfold M.r05_New_b1 mkl
  rw [if_pos (by omega),bnd_pure,app_at (by rw [mx_len]; simp; omega),bnd_pure]
  refine ⟨_,rfl,?_⟩
  rw [mx_snoc,show List.replicate ((m:Nat):Int).toNat (0:Int)=vr m (fun _=>0) by
   rw [Int.toNat_natCast]; unfold vr; rw [List.map_const',List.length_range]])
 rw [h2,h1]; rfl
theorem Identity_ok {n:Nat} (hn:n≤1000000):M.r05_Identity n=some ⟨n,n,mx n n fun i j=>if j=i then 1 else 0⟩:=by
 unfold M.r05_Identity
 rw [New_ok hn hn,bnd_pure]
 obtain ⟨s',h1,h2⟩:=rngN_inv (b:=M.r05_Identity_b1) (e:=M.r05_Identity_k1 ⟨n,n,mx n n fun _ _=>0⟩) (s:=mx n n fun _ _=>0) (K:=(n:Int)) (I:=0) (k:=n) (i:=0) (fun k v=>v=mx n n fun i j=>if j=i∧i<k then 1 else 0) rfl rfl (by omega) (Nat.zero_le _) (by simp) (fun i v _ hi hv=>by
  subst hv
  unfold M.r05_Identity_b1
  rw [nth_at (mx_get hi),iof_ok (by decide),bnd_pure,nth_at (vr_get hi),vr_set,mx_set]
  refine ⟨_,rfl,mx_congr fun i' hi' j hj=>?_⟩
  by_cases e:i'=i
  ·subst e
   rw [if_pos rfl]
   by_cases e2:j=i'
   ·rw [if_pos e2,if_pos ⟨e2,by omega⟩]
   ·rw [if_neg e2,if_neg (fun h=>e2 h.1),if_neg (fun h=>e2 h.1)]
  ·rw [if_neg e]
   by_cases e2:j=i'∧i'<i
   ·rw [if_pos e2,if_pos ⟨e2.1,by omega⟩]
   ·rw [if_neg e2,if_neg (fun h=>e2 ⟨h.1,by omega⟩)])
 rw [h2,h1]
 unfold M.r05_Identity_k1
 dsimp only
 congr 2
 refine mx_congr fun i hi j hj=>?_
 by_cases e:j=i
 ·rw [if_pos ⟨e,hi⟩,if_pos e]
 ·rw [if_neg (fun h=>e h.1),if_neg e]
theorem Copied_ok {n m:Nat} {A:Fam} (hn:n≤1000000) (hm:m≤1000000) (fA:∀ i,i<n→∀ j,j<m→Ft (A i j)):M.r05_Copied ⟨n,m,mx n m A⟩=some ⟨n,m,mx n m A⟩:=by
 unfold M.r05_Copied
 rw [iof_ok (by decide),bnd_pure]
 have f1:Ft 1:=ft_one
 rw [show M.r05_Scale ⟨n,m,mx n m A⟩ 1=some ⟨n,m,mx n m A⟩ from ?_,bnd_pure]
 unfold M.r05_Scale
 dsimp only
 rw [New_ok hn hm,bnd_pure]
 obtain ⟨s',h1,h2⟩:=rngN_inv (b:=M.r05_Scale_b2 ⟨n,m,mx n m A⟩ 1) (e:=M.r05_Scale_k2 ⟨n,m,mx n m fun _ _=>0⟩) (s:=mx n m fun _ _=>0) (K:=(n:Int)) (I:=0) (k:=n) (i:=0) (fun k v=>v=mx n m fun i j=>if i<k then A i j else 0) rfl rfl (by omega) (Nat.zero_le _) (by simp) (fun i v _ hi hv=>by
  subst hv
  unfold M.r05_Scale_b2
  obtain ⟨s',h1,h2⟩:=rngN_inv (b:=M.r05_Scale_b1 ⟨n,m,mx n m A⟩ 1 (i:Int)) (e:=M.r05_Scale_k1) (s:=mx n m fun i' j=>if i'<i then A i' j else 0) (K:=(m:Int)) (I:=0) (k:=m) (i:=0) (fun k v=>v=mx n m fun i' j=>if i'<i∨(i'=i∧j<k) then A i' j else 0) rfl rfl (by omega) (Nat.zero_le _) (by simp) (fun j v _ hj hv=>by
   subst hv
   unfold M.r05_Scale_b1
   dsimp only
   rw [nth_at (mx_get hi),nth_at (mx_get hi),nth_at (vr_get hj),imul_ok (fA i hi j hj) f1,bnd_pure,nth_at (vr_get hj),vr_set,mx_set]
   refine ⟨_,rfl,mx_congr fun i' hi' j' hj'=>?_⟩
   by_cases e:i'=i
   ·subst e
    rw [if_pos rfl]
    by_cases e2:j'=j
    ·subst e2; rw [if_pos rfl,if_pos (.inr ⟨rfl,by omega⟩),Int.mul_one]
    ·rw [if_neg e2]
     by_cases e3:j'<j
     ·rw [if_pos (.inr ⟨rfl,e3⟩),if_pos (.inr ⟨rfl,by omega⟩)]
     ·rw [if_neg (by omega),if_neg (by omega)]
   ·rw [if_neg e]
    by_cases e3:i'<i
    ·rw [if_pos (.inl e3),if_pos (.inl e3)]
    ·rw [if_neg (by omega),if_neg (by omega)])
  show ∃ s',rngN _ _ (m:Int) 0 _=_∧_
  rw [h2,h1]
  refine ⟨_,rfl,mx_congr fun i' hi' j hj=>?_⟩
  by_cases e3:i'<i+1
  ·rw [if_pos (by omega),if_pos e3]
  ·rw [if_neg (by omega),if_neg e3])
 rw [h2,h1]
 unfold M.r05_Scale_k2
 dsimp only
 congr 2
 exact mx_congr fun i hi j hj=>by rw [if_pos hi]
def aug (m:Nat) (A:Fam):Fam:=fun i j=>if j<m then A i j else if j=m+i then 1 else 0
def idf:Fam:=fun i j=>if j=i then 1 else 0
theorem Start_ok {n m:Nat} {A:Fam} (hn:n≤1000000) (hm:m≤1000000) (fA:∀ i,i<n→∀ j,j<m→Ft (A i j)):M.r12_Start ⟨n,m,mx n m A⟩=some (Wk n m (aug m A) idf):=by
 unfold M.r12_Start
 rw [Copied_ok hn hm fA,bnd_pure]
 dsimp only
 rw [Identity_ok hn,bnd_pure,bnd_pure]
 unfold Wk
 congr 2
 ·congr 1
  exact mx_congr fun i hi j hj=>by unfold aug; rw [if_pos hj]
 ·congr 1
  refine mx_congr fun i hi j hj=>?_
  unfold aug
  rw [if_neg (show ¬ m+j<m by omega)]
  by_cases e:j=i
  ·rw [if_pos e,if_pos (by omega)]
  ·rw [if_neg e,if_neg (by omega)]
 ·congr 1
  refine mx_congr fun i hi j hj=>?_
  unfold idf
  by_cases e:j=i
  ·rw [if_pos e,if_pos e.symm]
  ·rw [if_neg e,if_neg (Ne.symm e)]
def bsq (n b0:Nat):Nat→Nat×Nat×Nat
 | 0=>(b0,0,0)
 | t+1=>
  let s:=bsq n b0 t
  let X:=s.1+(n-t-1)*(s.1+4)
  (X,s.2.1+X+1,s.2.2+(n-t-1)*(s.1+4)+s.2.1+1+t)
def bok (n m b0:Nat):Prop:=∀ t,t<n→t<m→(bsq n b0 t).1+(n-t-1)*((bsq n b0 t).1+4)+2*(bsq n b0 t).1+(bsq n b0 t).2.1+20≤15999000∧(bsq n b0 t).2.2+(n-t-1)*((bsq n b0 t).1+4)+2*(bsq n b0 t).1+(bsq n b0 t).2.1+n+20≤15999000
structure Hf (Q:(Nat→Int)→Prop) (n m b0 top:Nat) (A0 F:Fam):Prop where
 tn:top≤n
 tm:top≤m
 q:∀ k,k<n→Q (F k)
 zero:∀ k,top≤k→k<n→∀ j,j<m→F k j=0
 piv:∀ k,k<top→∃ p,p<m∧F k p≠0
 lo:∀ k,top≤k→k<n→∀ j,j<m+n→(F k j).natAbs≤2^(bsq n b0 top).1
 hi:∀ k,k<top→∀ j,j<m+n→(F k j).natAbs≤2^(bsq n b0 top).2.1
 rv:Rv n A0 F
 hn:∃ p,HN m top p F
section
variable {Q:(Nat→Int)→Prop} {n m b0:Nat} {A:Fam}
theorem Form_ok (hQ:LinQ Q) (hn:n≤100000) (hm:m≤100000) (hb0:b0≤15999000) (hA:∀ i,i<n→∀ j,j<m→(A i j).natAbs≤2^b0) (hq:∀ i,i<n→Q (aug m A i)) (hb:bok n m b0) :
  ∃ top F V,M.r12_Form ⟨n,m,mx n m A⟩=some ⟨⟨n,m,mx n m F⟩,⟨n,n,mx n n fun i j=>F i (m+j)⟩,V⟩∧Hf Q n m b0 top (aug m A) F:=by
 unfold M.r12_Form
 rw [Start_ok (by omega) (by omega) fun i hi j hj=>ft_pow (hA i hi j hj) (by omega),bnd_pure]
 refine Exists.elim (loop_or (b:=M.r12_Form_b6 ⟨n,m,mx n m A⟩) (s:=tf (Wk n m (aug m A) idf) 0 0)
  (fun s=>∃ (c top:Nat) (F G:Fam),s=tf (Wk n m F G) top c∧FI Q n m (bsq n b0 top).1 (bsq n b0 top).2.1 (bsq n b0 top).2.2 c top (aug m A) F G) (fun s=>m-s.2.2.2.2.2.2.2.2.2.2.toNat)
  (fun r=>∃ top F V,r=⟨⟨n,m,mx n m F⟩,⟨n,n,mx n n fun i j=>F i (m+j)⟩,V⟩∧Hf Q n m b0 top (aug m A) F)
  ⟨0,0,aug m A,idf,rfl,Nat.zero_le _,Nat.le_refl _,Nat.zero_le _,fun _ _ _ _ h=>by omega,fun _ h=>by omega,hq,fun k _ hk j hj=>?_,fun _ h=>by omega,fun k _ r _=>?_,Rv.refl _ _,⟨fun k=>k,fun _ h=>by omega,fun _ _ _ h=>by omega,fun _ h=>by omega,fun _ h=>by omega,fun _ _ _ h=>by omega⟩⟩ (by show m-0<_; omega) ?_) ?_
 ·unfold aug
  have h1:1≤2^(bsq n b0 0).1:=Nat.one_le_two_pow
  by_cases e:j<m
  ·rw [if_pos e]; exact hA k hk j e
  ·rw [if_neg e]; split
   ·exact h1
   ·exact Nat.zero_le _
 ·unfold idf
  split
  ·exact Nat.le_refl _
  ·exact Nat.zero_le _
 ·rintro _ ⟨c,top,F,G,rfl,w⟩
  have fin:M.r12_Form_j5 ⟨n,m,mx n m A⟩ (Wk n m F G).M.Rows (Wk n m F G).M.Cols (Wk n m F G).M.A (Wk n m F G).U.Rows (Wk n m F G).U.Cols (Wk n m F G).U.A (Wk n m F G).V.Rows (Wk n m F G).V.Cols (Wk n m F G).V.A top c false=some (.inr ⟨⟨n,m,mx n m F⟩,⟨n,n,mx n n fun i j=>F i (m+j)⟩,(Wk n m F G).V⟩):=rfl
  have hfin:(top=n∨c=m)→Hf Q n m b0 top (aug m A) F:=fun h=>by
   refine ⟨w.tn,Nat.le_trans w.tc w.cm,w.q,fun k h1 h2 j hj=>?_,fun k hk=>?_,w.lo,w.hi,w.rv,?_⟩
   ·rcases h with h | h
    ·omega
    ·exact w.zero k h1 h2 j (by omega)
   ·obtain ⟨p,h1,h2⟩:=w.piv k hk
    exact ⟨p,by have:=w.cm; omega,h2⟩
   ·obtain ⟨p,hp⟩:=w.hn
    exact ⟨p,fun k hk=>by have:=hp.lt k hk; have:=w.cm; omega,hp.mono,hp.z,hp.pos,hp.red⟩
  by_cases hc:c<m
  ·by_cases ht:top<n
   ·refine .inl ?_
    obtain ⟨h1,h2⟩:=hb top ht (by have:=w.tc; omega)
    obtain ⟨F',G',⟨e,w'⟩ | ⟨e,w'⟩⟩:=form_step hQ w ht hc (by omega) (by omega) (by omega) (by omega) ⟨n,m,mx n m A⟩ rfl rfl
    ·exact ⟨_,e,⟨c+1,top,F',G',by simp,w'⟩,by show m-((c:Int)+1).toNat<m-((c:Nat):Int).toNat; omega⟩
    ·exact ⟨_,e,⟨c+1,top+1,F',G',by simp,w'⟩,by show m-((c:Int)+1).toNat<m-((c:Nat):Int).toNat; omega⟩
   ·refine .inr ⟨⟨⟨n,m,mx n m F⟩,⟨n,n,mx n n fun i j=>F i (m+j)⟩,(Wk n m F G).V⟩,?_,top,F,(Wk n m F G).V,rfl,hfin (.inl (by have:=w.tn; omega))⟩
    unfold M.r12_Form_b6 tf
    dsimp only
    rw [if_pos (by omega),decide_eq_false (by omega)]
    exact fin
  ·refine .inr ⟨⟨⟨n,m,mx n m F⟩,⟨n,n,mx n n fun i j=>F i (m+j)⟩,(Wk n m F G).V⟩,?_,top,F,(Wk n m F G).V,rfl,hfin (.inr (by have:=w.cm; omega))⟩
   unfold M.r12_Form_b6 tf
   dsimp only
   rw [if_neg (by omega)]
   exact fin
 ·rintro r ⟨h1,top,F,V,rfl,h2⟩
  exact ⟨top,F,V,h1,h2⟩
theorem Pivot_ok {f:Nat→Int} (hm:m≤1000000) (hf:∀ j,j<m→Ft (f j)):∃ p:Int,M.r12_Pivot (vr m f)=some p∧(0≤p↔∃ j,j<m∧f j≠0):=by
 unfold M.r12_Pivot
 refine rngL_or (fun i _=>∀ j,j<i→f j=0) _ (by rw [vr_len]; omega) (fun j h=>by omega) (fun i x s hx hs=>?_) (fun s hs=>⟨-1,rfl,?_⟩)
 ·have hi:i<m:=by have:=(List.getElem?_eq_some_iff.1 hx).1; rw [vr_len] at this; exact this
  rw [vr_get hi] at hx
  obtain rfl:=Option.some.inj hx
  unfold M.r12_Pivot_b1
  rw [isign_ok (hf i hi),bnd_pure]
  by_cases h:f i=0
  ·rw [if_pos ((sign0 _).2 h)]
   exact .inl ⟨(),rfl,fun j hj=>by
    by_cases e:j=i
    ·rw [e]; exact h
    ·exact hs j (by omega)⟩
  ·rw [if_neg (fun e=>h ((sign0 _).1 e))]
   exact .inr ⟨_,rfl,⟨fun _=>⟨i,hi,h⟩,fun _=>by omega⟩⟩
 ·rw [vr_len] at hs
  exact ⟨fun h=>by omega,fun ⟨j,h1,h2⟩=>absurd (hs j h1) h2⟩
theorem Rank_ok {top:Nat} {A0 F:Fam} (w:Hf Q n m b0 top A0 F) (hn:n≤1000000) (hm:m≤1000000) (h1:(bsq n b0 top).1<16000000) (h2:(bsq n b0 top).2.1<16000000):M.r12_Rank ⟨n,m,mx n m F⟩=some (top:Int):=by
 unfold M.r12_Rank
 obtain ⟨s',e1,e2⟩:=rngN_inv (b:=M.r12_Rank_b1 ⟨n,m,mx n m F⟩) (e:=M.r12_Rank_k1) (s:=0) (K:=(n:Int)) (I:=0) (k:=n) (i:=0) (fun i v=>v=((min i top:Nat):Int)) rfl rfl (by omega) (Nat.zero_le _) (by simp) (fun i v _ hi hv=>by
  subst hv
  unfold M.r12_Rank_b1
  rw [nth_at (mx_get hi)]
  by_cases ht:i<top
  ·obtain ⟨p,h3,h4⟩:=Pivot_ok (f:=F i) hm fun j hj=>ft_pow (w.hi i ht j (by omega)) h2
   rw [h3,bnd_pure,if_pos (h4.2 (w.piv i ht)),chk64_pos (by omega)]
   exact ⟨_,rfl,by omega⟩
  ·obtain ⟨p,h3,h4⟩:=Pivot_ok (f:=F i) hm fun j hj=>ft_pow (w.lo i (by omega) hi j (by omega)) h1
   rw [h3,bnd_pure,if_neg (fun e=>by
    obtain ⟨j,h5,h6⟩:=h4.1 e
    exact h6 (w.zero i (by omega) hi j h5))]
   exact ⟨_,rfl,by omega⟩)
 rw [e2,e1]
 have:=w.tn
 show some _=_
 congr 1; omega
theorem mx_drop (n m top:Nat) (F:Fam):(mx n m F).drop top=mx (n-top) m fun i=>F (top+i):=by
 refine List.ext_getElem? fun k=>?_
 rw [List.getElem?_drop]
 by_cases h:k<n-top
 ·rw [mx_get (by omega),mx_get h]
 ·rw [List.getElem?_eq_none (by rw [mx_len]; omega),List.getElem?_eq_none (by rw [mx_len]; omega)]
theorem mx_take {n m top:Nat} (F:Fam) (h:top≤n):(mx n m F).take top=mx top m F:=by
 refine List.ext_getElem? fun k=>?_
 by_cases hk:k<top
 ·rw [List.getElem?_take_of_lt hk,mx_get (by omega),mx_get hk]
 ·rw [List.getElem?_eq_none (by simp [mx_len]; omega),List.getElem?_eq_none (by rw [mx_len]; omega)]
theorem Left_ok {P:(Nat→Int)→Prop} (hQ:LinQ Q) (hP:LinQ P) (hn:n≤100000) (hm:m≤100000) (hb0:b0≤15999000) (hA:∀ i,i<n→∀ j,j<m→(A i j).natAbs≤2^b0) (hq:∀ i,i<n→Q (aug m A i)) (hb:bok n m b0)
  (h1:∀ top,top≤n→top≤m→(bsq n b0 top).1<15999000∧(bsq n b0 top).2.1<15999000)
  (h2:∀ top,top≤n→top≤m→bok (n-top) n (bsq n b0 top).1∧∀ t,t≤n-top→t≤n→(bsq (n-top) (bsq n b0 top).1 t).1<15999000∧(bsq (n-top) (bsq n b0 top).1 t).2.1<15999000)
  (hQP:∀ f,Q f→(∀ j,j<m→f j=0)→P (fun j=>f (m+j))) (hPP:∀ f g,(∀ j,j<n→f j=g j)→P f→P g) :
  ∃ (r top t:Nat) (F:Fam),M.r15_Left ⟨n,m,mx n m A⟩=some ⟨r,n,mx r n F⟩∧top≤n∧top≤m∧t≤n-top∧t≤n∧r=t∧(∀ k,k<r→P (F k))∧∀ k,k<r→∀ j,j<n→(F k j).natAbs≤2^(bsq (n-top) (bsq n b0 top).1 t).2.1:=by
 obtain ⟨top,F,V,e1,w⟩:=Form_ok hQ hn hm hb0 hA hq hb
 obtain ⟨h3,h4⟩:=h1 top w.tn w.tm
 obtain ⟨h5,h6⟩:=h2 top w.tn w.tm
 unfold M.r15_Left
 rw [e1,bnd_pure,Rank_ok w (by omega) (by omega) (by omega) (by omega),bnd_pure]
 have htn:=w.tn
 dsimp only
 rw [chk64_pos (by omega),mx_len,cutL_at htn (by rw [mx_len]; exact Nat.le_refl _),bnd_pure,List.take_of_length_le (by rw [mx_len]; exact Nat.le_refl _),mx_drop,show (n:Int)-(top:Int)=((n-top:Nat):Int) by omega]
 unfold M.r12_Basis
 have hP2:LinQ (fun f:Nat→Int=>P f):=hP
 obtain ⟨t,F2,V2,e2,w2⟩:=Form_ok (Q:=P) (n:=n-top) (m:=n) (A:=fun i j=>F (top+i) (m+j)) hP (by omega) hn (by omega) (b0:=(bsq n b0 top).1) (fun i hi j hj=>w.lo (top+i) (by omega) (by omega) (m+j) (by omega))
  (fun i hi=>hPP _ _ (fun j hj=>by unfold aug; rw [if_pos hj]) (hQP _ (w.q (top+i) (by omega)) (w.zero (top+i) (by omega) (by omega)))) h5
 obtain ⟨h7,h8⟩:=h6 t w2.tn w2.tm
 rw [e2,bnd_pure,Rank_ok w2 (by omega) (by omega) (by omega) (by omega),bnd_pure]
 unfold M.r12_Top
 dsimp only
 have htn2:=w2.tn
 rw [show cutL (mx (n-top) n F2) 0 (t:Int)=some (((mx (n-top) n F2).take t).drop 0) from cutL_at (a:=0) (Nat.zero_le _) (by rw [mx_len]; exact htn2),bnd_pure,bnd_pure,bnd_pure,List.drop_zero,mx_take _ htn2]
 exact ⟨t,top,t,F2,rfl,w.tn,w.tm,w2.tn,w2.tm,rfl,fun k hk=>w2.q k (by omega),fun k hk j hj=>w2.hi k hk j (by omega)⟩
end
end Go.Z
end
section
namespace Go.Z
def Ch (S:List Int) (n:Nat) (l:List TFace):Prop:=Gd l∧Bn n l∧∀ f∈l,f.ID∈S
theorem len_nd {l:List TFace}:∀ {x:Int} {S:List Int},so x l→(∀ f∈l,f.ID∈S)→l.length≤S.length:=by
 induction l with
 | nil=>intro x S _ _; exact Nat.zero_le _
 | cons t r ih=>
  intro x S s h
  have h1:=h t (by simp)
  have:=ih (S:=S.erase t.ID) s.2.2 (fun f hf=>by
   have h2:=(so_lt s.2.2 f hf).1
   exact (List.mem_erase_of_ne (by omega)).2 (h f (by simp [hf])))
  rw [List.length_erase_of_mem h1] at this
  have:0<S.length:=List.length_pos_of_mem h1
  simp only [List.length_cons]; omega
section
variable {S:List Int} {n m k':Nat} {a b l:List TFace} {k:Int}
theorem Ch.len (h:Ch S n l):l.length≤S.length:=let ⟨_,s⟩:=h.1; len_nd s h.2.2
theorem Ch.mono (h:Ch S n l) (hn:n≤m):Ch S m l:=⟨h.1,h.2.1.mono hn,h.2.2⟩
theorem Ch.sub {T:List Int} (h:Ch S n l) (hs:∀ x∈S,x∈T):Ch T n l:=⟨h.1,h.2.1,fun f hf=>hs _ (h.2.2 f hf)⟩
theorem Ch.nil (S:List Int) (n:Nat):Ch S n []:=⟨Gd.nil,Bn.nil n,fun f hf=>by cases hf⟩
theorem Ch.one {i c:Int} (hc:c≠0) (hb:c.natAbs<2^n) (hi:i∈S):Ch S n [⟨i,c⟩]:=⟨Gd.one hc,fun f hf=>by simp at hf; subst hf; exact hb,fun f hf=>by simp at hf; subst hf; exact hi⟩
theorem Ch.ft (h:Ch S n l) (hn:n≤1000000):FtL l:=h.2.1.ft hn
theorem Ch.ftb (h:Ch S n l) (hn:n≤16000000):FtL l:=h.2.1.ftb hn
theorem cf_in (h:∀ f∈l,f.ID∈S) {c:Int} (hc:cf l c≠0):c∈S:=by
 obtain ⟨f,hf,h1,_⟩:=cf_ne hc
 rw [← h1]; exact h f hf
theorem Ch.pl (ha:Ch S n a) (hb:Ch S m b) (hk:k.natAbs<2^k'):Ch S (max n (k'+m)+1) (Z.pl a b k):=by
 have h:=Gd.pl (k:=k) ha.1 hb.1
 refine ⟨h.1,Bn.pl ha.1 hb.1 ha.2.1 hb.2.1 hk,fun f hf=>?_⟩
 have h1:=h.1.ne hf
 rw [← h.1.cf hf,h.2] at h1
 by_cases e:cf a f.ID=0
 ·refine cf_in hb.2.2 (c:=f.ID) fun e2=>?_
  rw [e,e2] at h1; simp at h1
 ·exact cf_in ha.2.2 e
theorem Ch.plus (ha:Ch S n a) (hb:Ch S m b) (hk:k.natAbs<2^k') (hn:max n (k'+m)+1≤16000000) (hS:S.length≤1000000):M.r25_Plus a b k=some (Z.pl a b k):=by
 refine plus_ok ha.1 hb.1 (ha.ftb (by omega)) (hb.ftb (by omega)) (ft_big hk (by omega)) (fun f hf=>ft_big (mul_bits hk (hb.2.1 f hf)) (by omega)) (fun f hf g hg=>ft_big (add_bits (ha.2.1 f hf) (mul_bits hk (hb.2.1 g hg))) (by omega)) (by have:=ha.len; omega) (by have:=hb.len; omega)
theorem Ch.valid (h:Ch S n l) (hn:n≤1000000) (hS:S.length≤1000000):M.r25_ValidChain l=some true:=by
 have hlen:=h.len
 refine rngL_eq (fun _ _=>True) _ (by omega) trivial (fun i x s hx _=>.inl ⟨(),?_,trivial⟩) (fun s _=>rfl)
 have hm:=List.mem_of_getElem? hx
 have f1:=h.ft hn x hm
 unfold M.r25_ValidChain_b1
 have hi:i<l.length:=(List.getElem?_eq_some_iff.1 hx).1
 rw [show M.ivalid x.C=some true from if_pos f1,bnd_pure,if_pos rfl,isign_ok f1,bnd_pure,if_neg (fun e=>h.1.ne hm ((sign0 _).1 e))]
 by_cases h0:0<i
 ·obtain ⟨j,rfl⟩:∃ j,i=j+1:=⟨i-1,by omega⟩
  obtain ⟨y,hy⟩:=lt_get (l:=l) (i:=j) (by omega)
  rw [if_pos (by omega),chk64_pos (by omega),show ((j+1:Nat):Int)-1=(j:Int) by omega,nth_at hy,if_neg ?_]
  have hd:=h.1.drop j
  rw [drop_cons hy,drop_cons hx] at hd
  have:=hd.head_lt x (by simp)
  omega
 ·rw [if_neg (by omega)]
theorem same_ok (fa:FtL a) (fb:FtL b) (la:a.length≤1000000):M.r25_SameChain a b=some (decide (a=b)):=by
 unfold M.r25_SameChain
 by_cases hl:a.length=b.length
 ·rw [if_pos (by omega)]
  refine rngL_eq (fun i _=>a.take i=b.take i) _ (by omega) (by simp) (fun i x s hx hp=>?_) (fun s hp=>?_)
  ·have hi:i<a.length:=(List.getElem?_eq_some_iff.1 hx).1
   obtain ⟨y,hy⟩:=lt_get (l:=b) (i:=i) (by omega)
   have key:a=b→x=y:=fun e=>by rw [e,hy] at hx; exact (Option.some.inj hx).symm
   unfold M.r25_SameChain_b1
   rw [nth_at hy]
   by_cases h1:x.ID=y.ID
   ·rw [if_pos h1,isame_ok (fa x (List.mem_of_getElem? hx)) (fb y (List.mem_of_getElem? hy)),bnd_pure]
    by_cases h2:x.C=y.C
    ·rw [if_pos (decide_eq_true h2)]
     refine .inl ⟨(),rfl,?_⟩
     rw [List.take_succ,List.take_succ,hp,hx,hy,show x=y by cases x; cases y; simp_all]
    ·rw [if_neg (by simpa using h2),decide_eq_false (fun e=>h2 (by rw [key e]))]; exact .inr rfl
   ·rw [if_neg h1,decide_eq_false (fun e=>h1 (by rw [key e]))]; exact .inr rfl
  ·have:a=b:=by
    have h1:=hp
    rw [List.take_of_length_le (Nat.le_refl _),List.take_of_length_le (by omega)] at h1
    exact h1
   rw [decide_eq_true this]; rfl
 ·rw [if_neg (by omega),decide_eq_false (fun e=>hl (by rw [e]))]
end
theorem forL_find {α β:Type} {b:Nat→α→Unit→Option (Unit ⊕ β)} {e:Unit→Option β} (p:α→Bool) (g:α→β):∀ (l:List α) (n:Nat) (hb:∀ n x,x∈l→b n x ()=if p x=true then some (.inr (g x)) else some (.inl ())),forL b e l n ()=match l.find? p with | some x=>some (g x) | none=>e ()
 | [],n,hb=>rfl
 | x::l,n,hb=>by
  rw [forL,hb n x (by simp),List.find?]
  cases hp:p x with
  | true=>simp
  | false=>simp [hp]; exact forL_find p g l (n+1) fun n y hy=>hb n y (by simp [hy])
theorem rngL_find {α β:Type} {b:Nat→α→Unit→Option (Unit ⊕ β)} {e:Unit→Option β} (p:α→Bool) (g:α→β) {l:List α} (hl:l.length≤4611686018427387904) (hb:∀ n x,x∈l→b n x ()=if p x=true then some (.inr (g x)) else some (.inl ())):rngL b e l ()=match l.find? p with | some x=>some (g x) | none=>e ():=by
 rw [rngL,chk_pos hl,forL_find p g l 0 hb]
def fnd (c:List TCell) (i:Int):TCell×Bool:=match c.find? (fun x=>decide (x.ID=i)) with | some x=>(x,true) | none=>(⟨0,0,[]⟩,false)
theorem Find_ok {c:List TCell} {i:Int} (lc:c.length≤1000000):M.r25_Find c i=some (fnd c i):=by
 unfold M.r25_Find
 rw [rngL_find (fun x=>decide (x.ID=i)) (fun x=>(x,true)) (by omega) (fun n x hx=>by
  unfold M.r25_Find_b1
  by_cases h:x.ID=i<;>simp [h])]
 unfold fnd
 cases c.find? (fun x=>decide (x.ID=i))<;>rfl
def ar (c:List TCell) (x:List TFace):List TFace:=x.foldl (fun a f=>pl a (fnd c f.ID).1.B f.C) []
end Go.Z
end
section
namespace Go.Z
theorem insA_zero {f:TFace} {l:List TFace} (h:f.C=0) (g:Gd l):insA f l=l:=by
 have h1:=g.insA (f:=f)
 refine Gd.ext h1.1 g fun c=>?_
 rw [h1.2,h]; split<;>omega
theorem insA_head {f g:TFace} {l:List TFace} (h:f.C≠0) (e:f.ID<g.ID):insA f (g::l)=f::g::l:=by
 unfold insA; rw [if_pos e,if_neg h]
theorem insA_cons {f g:TFace} {l:List TFace}:insA f (g::l)=if f.ID<g.ID then (if f.C=0 then g::l else f::g::l) else if f.ID=g.ID then (if g.C+f.C=0 then l else ⟨f.ID,g.C+f.C⟩::l) else g::insA f l:=rfl
theorem insA_nil {f:TFace}:insA f []=if f.C=0 then [] else [f]:=rfl
theorem insert_ok {l:List TFace} {f:TFace} (g:Gd l) (fl:FtL l) (ff:Ft f.C) (fs:∀ t∈l,Ft (t.C+f.C)) (ll:l.length≤1000000):M.r26_insert l f=some (insA f l):=by
 unfold M.r26_insert
 rw [isign_ok ff,bnd_pure]
 refine rngL_eq (fun i s=>s.1.length≤i+(if s.2=true then 1 else 0)∧(f.C=0→s.2=true)∧s.1++(if s.2=true then l.drop i else insA f (l.drop i))=insA f l) _ (by omega) ⟨Nat.zero_le _,fun h=>by simp [h],?_⟩ (fun i x s hx hp=>.inl ?_) (fun s hp=>?_)
 ·by_cases h:f.C=0
  ·simp [h,insA_zero h g]
  ·simp [h,sign0]
 ·obtain ⟨out,dn⟩:=s
  obtain ⟨hl,hz,hp⟩:=hp
  dsimp only at hl hz hp
  have hi:i<l.length:=(List.getElem?_eq_some_iff.1 hx).1
  have hd:=drop_cons hx
  rw [hd] at hp
  unfold M.r26_insert_b4
  have happ:∀ y:TFace,∀ o:List TFace,o.length≤i+2→app o [y]=some (o++[y]):=fun y o ho=>app_at (by simp; omega)
  cases dn with
  | true=>
   dsimp only
   rw [if_pos rfl]
   simp only [if_pos] at hl
   unfold M.r26_insert_j3 M.r26_insert_j2
   rw [if_pos rfl,if_neg (by decide),happ x out (by omega),bnd_pure]
   refine ⟨_,rfl,by simp; omega,fun _=>rfl,?_⟩
   simpa using hp
  | false=>
   have hne:f.C≠0:=fun e=>by simpa using hz e
   rw [if_neg (by decide)] at hp hl
   dsimp only
   rw [if_neg (by decide)]
   by_cases h1:f.ID<x.ID
   ·rw [if_pos h1,happ f out (by omega),bnd_pure]
    unfold M.r26_insert_j3 M.r26_insert_j2
    rw [if_pos rfl,if_neg (by decide),app_at (by simp; omega),bnd_pure]
    refine ⟨_,rfl,?_,fun _=>rfl,?_⟩
    ·simp; omega
    ·rw [insA_head hne h1] at hp
     simpa using hp
   ·rw [if_neg h1]
    unfold M.r26_insert_j3 
    rw [if_neg (by decide)]
    unfold M.r26_insert_j2
    by_cases h2:x.ID=f.ID
    ·rw [if_pos (decide_eq_true h2),iadd_ok (fl x (List.mem_of_getElem? hx)) ff,bnd_pure,isign_ok (fs x (List.mem_of_getElem? hx)),bnd_pure]
     rw [insA_cons] at hp
     rw [if_neg h1,if_pos (by omega)] at hp
     by_cases h3:x.C+f.C=0
     ·rw [if_pos ((sign0 _).2 h3)]
      refine ⟨_,rfl,by simp; omega,fun _=>rfl,?_⟩
      simpa [h3] using hp
     ·rw [if_neg (fun e=>h3 ((sign0 _).1 e)),happ _ out (by omega),bnd_pure]
      refine ⟨_,rfl,by simp; omega,fun _=>rfl,?_⟩
      simpa [h3] using hp
    ·rw [if_neg (by simpa using h2),happ x out (by omega),bnd_pure]
     rw [insA_cons] at hp
     rw [if_neg h1,if_neg (by omega)] at hp
     refine ⟨_,rfl,by simp; omega,fun e=>absurd e hne,?_⟩
     simpa using hp
 ·obtain ⟨out,dn⟩:=s
  obtain ⟨hl,hz,hp⟩:=hp
  dsimp only at hl hz hp
  rw [List.drop_eq_nil_of_le (Nat.le_refl _)] at hp
  unfold M.r26_insert_k4
  cases dn with
  | true=>dsimp only; rw [if_pos rfl]; simpa using hp
  | false=>
   have hne:f.C≠0:=fun e=>by simpa using hz e
   rw [if_neg (by decide)] at hp hl
   dsimp only; rw [if_neg (by decide),app_at (by simp; omega),bnd_pure]
   rw [← hp,insA_nil,if_neg hne]
def fl (B:Int→List TFace) (x:List TFace):List TFace:=x.foldl (fun a t=>pl a (B t.ID) t.C) []
section
variable {T:List Int} {m k' n:Nat} {B:Int→List TFace} {x:List TFace}
theorem fl_take (hB:∀ t∈x,Ch T m (B t.ID)) (hx:Bn k' x):∀ i,i≤x.length→Ch T (k'+m+i) (fl B (x.take i))
 | 0,_=>by simpa [fl] using Ch.nil T _
 | i+1,hi=>by
  obtain ⟨t,ht⟩:=lt_get (l:=x) (i:=i) (by omega)
  have hm:=List.mem_of_getElem? ht
  have h1:=fl_take hB hx i (by omega)
  have h2:=h1.pl (hB t hm) (hx t hm)
  have h3:fl B (x.take (i+1))=pl (fl B (x.take i)) (B t.ID) t.C:=by
   unfold fl; rw [List.take_add_one,ht,List.foldl_append]; rfl
  rw [h3]
  exact h2.mono (by omega)
theorem fl_ch (hB:∀ t∈x,Ch T m (B t.ID)) (hx:Bn k' x):Ch T (k'+m+x.length) (fl B x):=by
 have:=fl_take hB hx x.length (Nat.le_refl _)
 rwa [List.take_of_length_le (Nat.le_refl _)] at this
theorem fl_run {β:Type} {b:Nat→TFace→List TFace→Option (List TFace ⊕ β)} {e:List TFace→Option β} (hB:∀ t∈x,Ch T m (B t.ID)) (hx:Bn k' x) (lx:x.length≤1000000)
  (hb:∀ n t s,t∈x→Ch T (k'+m+x.length) s→b n t s=some (.inl (pl s (B t.ID) t.C))):rngL b e x []=e (fl B x):=by
 refine rngL_fold (l:=x) (fun (a:List TFace) (t:TFace)=>pl a (B t.ID) t.C) (by omega) (fun n t s ht hs=>?_) rfl
 have hn:n<x.length:=(List.getElem?_eq_some_iff.1 ht).1
 refine hb n t s (List.mem_of_getElem? ht) ?_
 subst hs
 exact (fl_take hB hx n (by omega)).mono (by omega)
theorem cf_fl (hB:∀ t∈x,Gd (B t.ID)) (c:Int):Gd (fl B x)∧cf (fl B x) c=(x.map fun t=>t.C*cf (B t.ID) c).sum:=by
 have key:∀ (y:List TFace) (a:List TFace),Gd a→(∀ t∈y,Gd (B t.ID))→Gd (y.foldl (fun a t=>pl a (B t.ID) t.C) a)∧cf (y.foldl (fun a t=>pl a (B t.ID) t.C) a) c=cf a c+(y.map fun t=>t.C*cf (B t.ID) c).sum:=by
  intro y
  induction y with
  | nil=>intro a ha _; exact ⟨ha,by simp⟩
  | cons t y ih=>
   intro a ha hy
   have h1:=Gd.pl (k:=t.C) ha (hy t (by simp))
   have h2:=ih _ h1.1 fun u hu=>hy u (by simp [hu])
   refine ⟨h2.1,?_⟩
   rw [List.foldl_cons,h2.2,h1.2,List.map_cons,List.sum_cons]; omega
 have:=key x [] Gd.nil hB
 exact ⟨this.1,by unfold fl; rw [this.2]; simp [cf]⟩
theorem Around_ok {c:List TCell} (lc:c.length≤1000000) (hB:∀ t∈x,Ch T m (fnd c t.ID).1.B) (hx:Bn k' x) (lx:x.length≤100000) (hn:k'+m+x.length+2≤1000000) (lT:T.length≤1000000):M.r25_Around c x=some (ar c x):=by
 refine fl_run (B:=fun i=>(fnd c i).1.B) hB hx (by omega) fun n t s ht hs=>?_
 unfold M.r25_Around_b1
 rw [Find_ok lc,bnd_pure,hs.plus (hB t ht) (hx t ht) (by omega) lT,bnd_pure]
end
end Go.Z
end
section
namespace Go.Z
open Go Go.RowKit
theorem fd32 (n:Nat):Int.fdiv (n:Int) 4294967296=((n / 4294967296:Nat):Int):=by
 rw [Int.fdiv_eq_ediv_of_nonneg _ (by decide)]; rfl
theorem td32 (n:Nat):Int.tdiv (n:Int) 4294967296=((n / 4294967296:Nat):Int):=rfl
def u32s (l:List Nat):List Value:=l.map fun x:Nat=>Value.int .u32 (x:Int)
theorem u32s_len (l:List Nat):(u32s l).length=l.length:=by simp [u32s]
theorem u32s_get {l:List Nat} {j x:Nat} (h:l[j]?=some x):(u32s l)[j]?=some (.int .u32 (x:Int)):=by simp [u32s,h]
theorem u32s_plain (l:List Nat):∀ u∈u32s l,plain u=true:=fun u hu=>by
 obtain ⟨x,_,rfl⟩:=List.mem_map.1 hu; rfl
theorem u32s_take (l:List Nat) (k:Nat):(u32s l).take k=u32s (l.take k):=by simp [u32s,List.map_take]
theorem u32s_append (l m:List Nat):u32s (l++m)=u32s l++u32s m:=by simp [u32s]
theorem u32s_set (l:List Nat) (k x:Nat):(u32s l).set k (.int .u32 (x:Int))=u32s (l.set k x):=by simp [u32s,List.map_set]
theorem u32s_rep (n:Nat):List.replicate n (Value.int .u32 0)=u32s (List.replicate n 0):=by simp [u32s]
def MagAt (h:Heap) (v:Value) (l:List Nat):Prop:=SlAt h v l.length 1 (u32s l)∧Bd l
def IntAt (h:Heap) (v:Value) (z:Int):Prop:=∃ m,v=.agg ⟨[.bool (decide (z<0)),m]⟩∧MagAt h m (limbs z.natAbs)
theorem MagAt.mono {h h':Heap} {v:Value} {l:List Nat} (m:MagAt h v l) [e:Ext h h']:MagAt h' v l:=⟨m.1.mono,m.2⟩
theorem IntAt.mono {h h':Heap} {v:Value} {z:Int} (m:IntAt h v z) [e:Ext h h']:IntAt h' v z:=let ⟨x,a,b⟩:=m; ⟨x,a,b.mono⟩
theorem MagAt.nil (h:Heap):MagAt h (.slice none 0 0) []:=⟨SlAt.nil h 1,fun _ hx=>by cases hx⟩
theorem MagAt.out {h:Heap} {v:Value} {l:List Nat} (m:MagAt h v l):∃ p c,v=.slice p l.length c∧l.length≤c:=let ⟨⟨p,c,a,b,_⟩,_⟩:=m; ⟨p,c,a,b⟩
theorem MagAt.limb {h:Heap} {p:Option Addr} {n c:Nat} {l:List Nat} (m:MagAt h (.slice p n c) l) {j:Nat} (hj:j<n) :
  ∃ b o x,p=some ⟨b,o,none⟩∧l[j]?=some x∧x<4294967296∧CellN h b (o+j*1) [.int .u32 (x:Int)]:=by
 obtain ⟨⟨p',c',h1,h2,h3,h4⟩,hb⟩:=m
 cases h1
 rcases h4 with ⟨h0,_⟩ | ⟨b,o,rfl,hc⟩
 ·omega
 ·have hx:l[j]?=some l[j]:=by simp [hj]
  exact ⟨b,o,l[j],rfl,hx,hb.get hx,by simpa using hc.cell (u32s_get hx)⟩
theorem MagAt.take {h:Heap} {p:Option Addr} {c k m:Nat} {l:List Nat} (s:MagAt h (.slice p l.length c) l) (hk:k≤l.length) (hm:k≤m):MagAt h (.slice p k m) (l.take k):=by
 have:=s.1.take hk hm
 refine ⟨?_,s.2.take k⟩
 rw [Nat.mul_one,u32s_take] at this
 rw [List.length_take,Nat.min_eq_left hk]
 exact this
theorem MagAt.froze {h:Heap} {b:Nat} {l:List Nat} {T:TypeId} (hb:h b=some (row T (u32s l))) (hl:Bd l) {c:Nat} (hc:l.length≤c):MagAt h (.slice (some ⟨b,0,none⟩) l.length c) l:=
 ⟨⟨_,c,rfl,hc,by rw [u32s_len,Nat.mul_one],.inr ⟨b,0,rfl,_,T,_,hb,LookN.all _⟩⟩,hl⟩
theorem IntAt.out {h:Heap} {v:Value} {z:Int} (m:IntAt h v z):∃ p c,v=.agg ⟨[.bool (decide (z<0)),.slice p (limbs z.natAbs).length c]⟩∧(limbs z.natAbs).length≤c∧MagAt h (.slice p (limbs z.natAbs).length c) (limbs z.natAbs):=by
 obtain ⟨x,rfl,hm⟩:=m
 obtain ⟨p,c,rfl,hc⟩:=hm.out
 exact ⟨p,c,rfl,hc,hm⟩
theorem IntAt.in {h:Heap} {p:Option Addr} {n c:Nat} {z:Int} (m:MagAt h (.slice p n c) (limbs z.natAbs)):IntAt h (.agg ⟨[.bool (decide (z<0)),.slice p n c]⟩) z:=⟨_,rfl,m⟩
theorem MagAt.of {h:Heap} {v:Value} {l:List Nat} {n:Nat} (s:SlAt h v n 1 (u32s l)) (hb:Bd l):MagAt h v l:=by
 obtain rfl:n=l.length:=by
  obtain ⟨p,c,_,_,h3,_⟩:=s
  rw [u32s_len,Nat.mul_one] at h3; exact h3.symm
 exact ⟨s,hb⟩
def RawAt (h:Heap) (v:Value) (neg:Bool) (l:List Nat):Prop:=∃ m,v=.agg ⟨[.bool neg,m]⟩∧MagAt h m l
theorem IntAt.raw {h:Heap} {v:Value} {z:Int} (m:IntAt h v z):RawAt h v (decide (z<0)) (limbs z.natAbs):=m
theorem RawAt.out {h:Heap} {v:Value} {neg:Bool} {l:List Nat} (m:RawAt h v neg l):∃ p c,v=.agg ⟨[.bool neg,.slice p l.length c]⟩∧l.length≤c∧MagAt h (.slice p l.length c) l:=by
 obtain ⟨x,rfl,hm⟩:=m
 obtain ⟨p,c,rfl,hc⟩:=hm.out
 exact ⟨p,c,rfl,hc,hm⟩
theorem IntAt.mk {h:Heap} {m:Value} {l:List Nat} {neg:Bool} (hm:MagAt h m l) (hl:trim l=l):IntAt h (.agg ⟨[.bool (neg && decide (l≠[])),m]⟩) (if neg then -(val l:Int) else (val l:Int)):=by
 have hv:limbs (val l)=l:=by rw [← trim_eq hm.2,hl]
 have h0:l=[]↔val l=0:=by rw [← hl,trim_nil_iff hm.2,hl]
 have hb:(neg && decide (l≠[]))=decide ((if neg then -(val l:Int) else (val l:Int))<0):=by
  cases neg
  ·simp
  ·simp only [Bool.true_and,if_true]
   refine decide_eq_decide.2 ⟨fun h1=>?_,fun h1 h2=>?_⟩
   ·have h3:val l≠0:=fun e=>h1 (h0.2 e)
    omega
   ·have h3:=h0.1 h2
    omega
 rw [hb]
 refine ⟨m,rfl,?_⟩
 ·have:(if neg then -(val l:Int) else (val l:Int)).natAbs=val l:=by cases neg<;>simp
  rw [this,hv]; exact hm
theorem MagAt.frozeN {h:Heap} {b:Nat} {l:List Nat} {T:TypeId} (hb:h b=some (row T (u32s l))) (hl:Bd l) {n c:Nat} (hn:l.length=n) (hc:n≤c):MagAt h (.slice (some ⟨b,0,none⟩) n c) l:=by
 subst hn; exact MagAt.froze hb hl hc
theorem flat1 (m:Nat):(List.replicate m [Value.int .u32 0]).flatten=u32s (List.replicate m 0):=by
 rw [← u32s_rep]
 induction m with
 | zero=>rfl
 | succ m ih=>simp [List.replicate_succ,ih]
theorem set_own (out:List Nat) (j d:Nat):(u32s out).set (0+((j:Nat):Int).toNat*1) (.int .u32 (d:Int))=u32s (out.set j d):=by
 show (u32s out).set (0+j*1) _=_
 rw [Nat.mul_one,Nat.zero_add,u32s_set]
theorem get_own {out:List Nat} {j o:Nat} (h:out[j]?=some o):(u32s out)[0+((j:Nat):Int).toNat*1]?=some (.int .u32 (o:Int)):=by
 show (u32s out)[0+j*1]?=_
 rw [Nat.mul_one,Nat.zero_add]; exact u32s_get h
theorem len_own (out:List Nat) (j:Nat) (h:j<out.length):0+((j:Nat):Int).toNat*1<(u32s out).length:=by
 show 0+j*1<_
 rw [u32s_len]; omega
theorem has_limb {out:List Nat} (hb:Bd out) {j:Nat} (h:j<out.length):∃ o,out[j]?=some o∧o<4294967296:=⟨out[j],by simp [h],hb _ (List.getElem_mem h)⟩
def Fit (z:Int):Prop:=(limbs z.natAbs).length≤1000000
theorem fitk (k:Nat) {z:Int} (h:z.natAbs<Bs^k) (hk:k≤1000000):Fit z:=Nat.le_trans (limbs_len.2 h) hk
theorem bd_abs (z:Int):Bd (limbs z.natAbs):=bd_limbs _
theorem same3 (x y:Int):(decide (x<0) == decide (y<0))=false∨((decide (x<0) == decide (y<0))=true∧decide (x.natAbs<y.natAbs)=true)∨((decide (x<0) == decide (y<0))=true∧decide (x.natAbs<y.natAbs)=false):=by
 cases (decide (x<0) == decide (y<0))<;>cases decide (x.natAbs<y.natAbs)<;>simp
theorem sign_eq {x y:Int} (h:(decide (x<0) == decide (y<0))=true):(x<0↔y<0):=by simpa using h
theorem sign_ne {x y:Int} (h:(decide (x<0) == decide (y<0))=false):¬ (x<0↔y<0):=by simpa using h
end Go.Z
end
section
namespace Go.Z
open Go Go.RowKit
variable {C:Cfg} {Q Q':Post} {ds:List Deferred} {ρ:Env} {h:Heap} {L:Own} {ops:Array Oper} {rest:List Oper}
variable {d:Nat} {ty:TypeId} {pos:String} {after:Array Edge} {S:World→Prop}
theorem q_mf {f:Go.Fn} {fs cs:List Operand}:Qr C ρ S (.makeFunc f ⟨fs⟩ ⟨cs⟩) ty (.func f ⟨fs.map ρ.ev⟩ ⟨cs.map ρ.ev⟩):=⟨rfl,fun w _=>by
 simp [execOp,Instr.makeFunc,Sem.run,bind,Sem.bind,pure]⟩
def FnIn (C:Cfg) (f:FuncId) (args:Array Value) (h:Heap) (L:Own) (R:Value→Heap→Own→Prop):Prop:=
 ∀ w,St C.w0 C.h0 h L w→Calls C.P f args w fun e w'=>∃ v h' L',e=.returned v∧Ext h h'∧St C.w0 C.h0 h' L' w'∧R v h' L'
structure retQL (C:Cfg) (fn:Func) (h0:Heap) (R:Value→Heap→Own→Prop) (e:Exit) (ds:List Deferred) (ρ:Env) (h:Heap) (L:Own):Prop where
 ok:(e=.normal∨e=.ret)∧ds=[]∧Ext h0 h∧∃ v,RetR C fn ρ h L v∧∃ L2,(∃ rest,L.Perm (L2++rest))∧R v h L2
theorem ret_okL {fn:Func} {rs:List ResultVar} {vs:List Value} {h0:Heap} {R:Value→Heap→Own→Prop} {e:Exit} (hr:fn.results=⟨rs⟩) [hx:Ext h0 h] (r:ResV C.P ρ L rs vs) (hR:R (pack vs) h L) (he:e=.normal∨e=.ret:=by first | exact Or.inr rfl | exact Or.inl rfl) :
  retQL C fn h0 R e [] ρ h L:=⟨⟨he,rfl,hx,_,RetR.of hr r,L,⟨[],by simp⟩,hR⟩⟩
theorem argAg {n:Nat} {args:List Value} {k:Nat} (hn:k=n) (hl:args.length≤n):Ag n [] { tmps:=args.toArray++Array.replicate (k-args.toArray.size) undef,defers:=[] } (argEnv args):=by
 refine ⟨?_,rfl,fun t=>?_⟩
 ·simp [hn]; omega
 ·simp only [argEnv,List.getD_eq_getElem?_getD]
  rcases Nat.lt_or_ge t args.length with ht | ht
  ·simp [Array.getElem?_append,ht]
  ·by_cases h2:t-args.length<k-args.length
   ·simp [Array.getElem?_append,Nat.not_lt.2 ht,List.getElem?_eq_none ht,h2]
   ·simp [Array.getElem?_append,Nat.not_lt.2 ht,List.getElem?_eq_none ht,h2]
theorem FnIn.intro {f:FuncId} {fn:Func} {c:Code} {args:List Value} {R:Value→Heap→Own→Prop} {n:Nat} (hf:C.P.funcs[f]?=some fn) (hb:fn.body=some c) (hn:fn.ntmps=n) (hl:args.length≤n)
  (hj:J ⟨C.P,none,n,C.w0,C.h0⟩ c (retQL ⟨C.P,none,n,C.w0,C.h0⟩ fn h R) [] (argEnv args) h L):FnIn C f args.toArray h L R:=by
 intro w hw
 refine (callsIn_wide (n:=0)).1 (callsIn_of_wp hf hb trivial (wpIn_mono (hj _ w (argAg hn hl) hw) ?_))
 rintro e a' w' ⟨ds,ρ,h',L',h1,h2,⟨he,rfl,hx,v,hv,L2,⟨rest,hp⟩,hR⟩⟩
 have hres:=hv a' w' _ h1 h2
 have post:a'.defers=[]∧∃ v,(results fn a'.tmps).run C.P w'=.ok v w'∧∃ v1 h' L',Ending.returned v=.returned v1∧Ext h h'∧St C.w0 C.h0 h' L' w'∧R v1 h' L':=
  ⟨h1.defers,v,hres,v,h',L2,rfl,hx,(h2.perm hp).sub (List.sublist_append_left _ _),hR⟩
 rcases he with rfl | rfl
 ·exact post
 ·exact post
theorem run_call_val {P:Program} {f:FuncId} {w:World} {ρ:Operand→Value} {x:Operand} {xs:List Operand} {ts:Array TypeId} {ty:TypeId} {fs cap:List Value} [he:Ent P f] (hx:ρ x=.func (.func f) ⟨fs⟩ ⟨cap⟩) :
  (do let d ← resolve ρ { callee:=.value x,args:=⟨xs⟩,argTypes:=ts } ty; invoke d.target d.args:Sem Next).run P w=.ok (.enter f (List.toArray (fs++xs.map ρ++cap))) w:=by
 simp [resolve,Deferred.ofValue,hx,invoke,Sem.run_bind,Result.andThen,Sem.run,pure]
 have:=he.e (List.toArray (fs++xs.map ρ++cap)) w
 simpa [Sem.run] using this
section calls
variable {f:FuncId}
theorem o_callv {R:Value→Heap→Prop} {x:Operand} {xs:List Operand} {ts:Array TypeId} {fs cap:List Value} [he:Ent C.P f] (hx:ρ.ev x=.func (.func f) ⟨fs⟩ ⟨cap⟩) (hf:Fn C.P f (List.toArray (fs++xs.map ρ.ev++cap)) h R)
  (k:∀ v h',Step h h'→R v h'→JL C ops Q rest ds (ρ.set d v) h' L) (hn:Nat.blt d C.n=true:=by rfl) :
  JL C ops Q (⟨some d,.call { callee:=.value x,args:=⟨xs⟩,argTypes:=ts },ty,pos,after,none⟩::rest) ds ρ h L:=
 JL.enter rfl rfl rfl hn (fun w _=>by simpa [execOp] using run_call_val (P:=C.P) (w:=w) (ts:=ts) (ty:=ty) (xs:=xs) hx) fun w hs=>(hf.use hs).mono fun e w' ⟨v,h',a,b,c,r⟩=>⟨v,h',L,a,c,k v h' b r⟩
theorem o_calll {R:Value→Heap→Own→Prop} {xs:List Operand} {ts:Array TypeId} [he:Ent C.P f] (hf:FnIn C f (List.toArray (xs.map ρ.ev)) h L R)
  (k:∀ v h' L',Step h h'→R v h' L'→JL C ops Q rest ds (ρ.set d v) h' L') (hn:Nat.blt d C.n=true:=by rfl) :
  JL C ops Q (⟨some d,.call { callee:=.value (.func f),args:=⟨xs⟩,argTypes:=ts },ty,pos,after,none⟩::rest) ds ρ h L:=
 JL.enter rfl rfl rfl hn (fun w _=>by
   have:=run_call_val (P:=C.P) (f:=f) (w:=w) (ρ:=ρ.ev) (x:=.func f) (xs:=xs) (ts:=ts) (ty:=ty) (fs:=[]) (cap:=[]) rfl
   simpa [execOp] using this) fun w hs=>(hf w hs).mono fun e w' ⟨v,h',L',a,b,c,r⟩=>⟨v,h',L',a,c,k v h' L' b.toStep r⟩
end calls
def recO (fn:FuncId) (tm:Array Value) (ps:Array Tmp) (assign body:Code) (D:Nat) (st:LoopState):Obj:=
 .loop { state:=st,pending:=none,fn,tmps:=tm,params:=ps,assign,body,defers:=D }
def TmOf (n:Nat) (ρ:Env) (tm:Array Value):Prop:=tm.size=n∧∀ t,tm.getD t undef=ρ t
theorem AtS.heap1 {L:Own} {b:Nat} {o:Obj} {f:Own→Own} (a:AtS L [(b,o)] f) {w0 w:World} {h0 h:Heap} (s:St w0 h0 h L w):w.heap[b]?=some o:=by
 obtain ⟨L1,L2,rfl,_⟩:=a.e
 exact (s.own (b,o) (by simp)).2.1
theorem AtS.gone {L:Own} {b:Nat} {o o':Obj} {f:Own→Own} (a:AtS L [(b,o)] f) {w0 w:World} {h0 h:Heap} (s:St w0 h0 h L w):St w0 h0 h (f []) (w.putObj b o'):=by
 obtain ⟨L1,L2,rfl,hf⟩:=a.e
 rw [hf]
 have hb:b<w.heap.size:=(Array.getElem?_eq_some_iff.1 ((s.own (b,o) (by simp)).2.1)).1
 have h1:St w0 h0 h (L1++(b,o')::L2) (w.putObj b o'):=s.upd (o:=o) rfl rfl rfl (by simp) (World.putObj_heap_same hb) fun k hk=>World.putObj_heap_other hk
 refine h1.sub ?_
 exact List.Sublist.append (List.Sublist.refl _) (List.Sublist.cons _ (List.Sublist.refl _))
theorem At.put {L:Own} {b:Nat} {o o':Obj} {f:Obj→Own} (a:At L b o f) {w0 w:World} {h0 h:Heap} (s:St w0 h0 h L w):St w0 h0 h (f o') (w.putObj b o'):=by
 have hb:b<w.heap.size:=(Array.getElem?_eq_some_iff.1 (a.heap s)).1
 exact a.upd s rfl rfl rfl (by simp) (World.putObj_heap_same hb) fun k hk=>World.putObj_heap_other hk
theorem J.rangeFunc {g:Operand} {ps:Array Tmp} {assign body:Code} {gf:FuncId} {cap:List Value} (hr:C.r=none) (hg:ρ.ev g=.func (.func gf) #[] ⟨cap⟩) [he:Ent C.P gf]
  (k:∀ (fn:FuncId) (tm:Array Value) (l D:Nat) (OB:LoopState→Obj),(∀ st,OB st=recO fn tm ps assign body D st)→TmOf C.n ρ tm→FnIn C gf (List.toArray (.func (.yield l) #[] #[]::cap)) h ((l,OB .ready)::(D,.deferred (some []))::L)
   (fun _ h' L'=>∃ f1,∃ _:AtS L' [(l,OB .ready)] f1,Q .normal ({ target:=.collected D,args:=#[] }::ds) ρ h' (f1 []))) :
  J C (.rangeFunc g ps assign body) Q ds ρ h L:=fun a w ha hs=>by
 have hro:(fen C.r).round=none:=hr
 refine wpIn_rangeFunc fun fn _=>?_
 have hs1:St C.w0 C.h0 h ((w.heap.size+1,recO fn a.tmps ps assign body w.heap.size .ready)::(w.heap.size,.deferred (some []))::L) ((w.alloc (.deferred (some []))).alloc (recO fn a.tmps ps assign body w.heap.size .ready)):=by
  have:=(hs.alloc (.deferred (some []))).alloc (recO fn a.tmps ps assign body w.heap.size .ready)
  rwa [World.size_alloc] at this
 have hk:=k fn a.tmps (w.heap.size+1) w.heap.size (recO fn a.tmps ps assign body w.heap.size) (fun _=>rfl) ⟨ha.size,ha.get⟩ _ hs1
 obtain ⟨W,hW⟩:∃ W,(w.alloc (.deferred (some []))).alloc (recO fn a.tmps ps assign body w.heap.size .ready)=W:=⟨_,rfl⟩
 rw [hW] at hk
 have hev:a.eval g=.func (.func gf) #[] ⟨cap⟩:=by rw [ha.eval]; exact hg
 refine ⟨w.heap.size+1,[{ target:=.collected w.heap.size,args:=#[] }],W,{ target:=.fn (.func gf) ⟨cap⟩,args:=#[.func (.yield (w.heap.size+1)) #[] #[]] },W,gf,List.toArray (.func (.yield (w.heap.size+1)) #[] #[]::cap),W,?_,?_,?_,?_,fun hx=>(by simp [fen] at hx),?_⟩
 ·rw [hro,← hW]; exact run_enterLoop_outer _ _ _ _ _
 ·simp only [resolve,hev]
  simp [go_sem]
 ·intro f' hf'; simp [fen]
 ·have:=he.e (List.toArray (.func (.yield (w.heap.size+1)) #[] #[]::cap)) W
  simpa [invoke,go_sem] using this
 ·have hw:fen C.r=Fence.wide:=by rw [hr]; rfl
  rw [hw]
  refine callsIn_wide.2 (hk.mono ?_)
  rintro e w' ⟨v,h',L',rfl,hx,hst,f1,hat,hq⟩
  refine ⟨none,_,run_endLoop (hat.heap1 hst) (by simp),?_⟩
  exact ⟨_,ρ,h',f1 [],⟨ha.size,by simp [ha.defers],ha.get⟩,hat.gone hst,hq⟩
def setZip (ρ:Env):List Nat→List Value→Env
 | p::ps,v::vs=>setZip (ρ.set p v) ps vs
 | _,_=>ρ
theorem zip_ag {n:Nat} {ρ:Env}:∀ (ps:List Nat) (vs:List Value) (tm:Array Value),TmOf n ρ tm→(ps.all fun p=>Nat.blt p n)=true→Ag n [] { tmps:=(ps.zip vs).foldl (fun t (p:Nat×Value)=>t.setIfInBounds p.1 p.2) tm,defers:=[] } (setZip ρ ps vs)
 | [],vs,tm,h,_=>⟨h.1,rfl,h.2⟩
 | p::ps,[],tm,h,_=>⟨h.1,rfl,h.2⟩
 | p::ps,v::vs,tm,h,hp=>by
  simp only [List.all_cons,Bool.and_eq_true] at hp
  have h1:Ag n [] { tmps:=tm,defers:=[] } ρ:=⟨h.1,rfl,h.2⟩
  have h2:=h1.put hp.1 v
  exact zip_ag ps vs (tm.setIfInBounds p v) ⟨h2.size,h2.get⟩ hp.2
theorem o_yield {x:Operand} {xs:List Operand} {ts:Array TypeId} {l fn D n':Nat} {tm:Array Value} {pl:List Nat} {assign body:Code} {f:Obj→Own} {ρ0:Env} (hx:ρ.ev x=.func (.yield l) #[] #[]) {OB:LoopState→Obj} (hOB:∀ st,OB st=recO fn tm ⟨pl⟩ assign body D st) (htm:TmOf n' ρ0 tm)
  (a:At L l (OB .ready) f) (hlen:xs.length=pl.length) (hp:(pl.all fun p=>Nat.blt p n')=true)
  (k:J ⟨C.P,some l,n',C.w0,C.h0⟩ assign (fun e ds1 ρ1 h1 L1=>e=.normal∧∃ f1,∃ _:At L1 l (OB .ready) f1,
   J ⟨C.P,some l,n',C.w0,C.h0⟩ body (fun e2 ds2 ρ2 h2 L2=>e2=.normal∧∃ f2,∃ _:At L2 l (OB .busy) f2,JL C ops Q rest ds (ρ.set d (.bool true)) h2 (f2 (OB .ready))) ds1 ρ1 h1 (f1 (OB .busy)))
   [] (setZip ρ0 pl (xs.map ρ.ev)) h L) (hn:Nat.blt d C.n=true:=by rfl) :
  JL C ops Q (⟨some d,.call { callee:=.value x,args:=⟨xs⟩,argTypes:=ts },ty,pos,after,none⟩::rest) ds ρ h L:=by
 obtain rfl:OB=recO fn tm ⟨pl⟩ assign body D:=funext hOB
 refine JL.step rfl rfl fun act w ha hs=>?_
 have hy:=run_yield (P:=C.P) (args:=(List.toArray (xs.map ρ.ev))) (a.heap hs) (by simp [hlen])
 have hrun:(execOp ρ.ev ⟨some d,.call { callee:=.value x,args:=⟨xs⟩,argTypes:=ts },ty,pos,after,none⟩).run C.P w =
   .ok (.round l fn (((⟨pl⟩:Array Tmp).zip (List.toArray (xs.map ρ.ev))).foldl (fun tmps (t,a)=>tmps.setIfInBounds t a) tm) assign body) w:=by
  simp only [execOp,resolve,hx,Deferred.ofValue,Sem.run_bind,Sem.run_pure,Result.andThen,invoke]
  simpa [recO] using hy
 rw [hrun,Oper.uponIn_round]
 refine ⟨fun hx=>(by simp [fen] at hx),?_⟩
 have hz:((⟨pl⟩:Array Tmp).zip (List.toArray (xs.map ρ.ev))).foldl (fun tmps (t,a)=>tmps.setIfInBounds t a) tm=(pl.zip (xs.map ρ.ev)).foldl (fun t (p:Nat×Value)=>t.setIfInBounds p.1 p.2) tm:=by
  rw [← Array.foldl_toList]; simp
 rw [hz]
 refine roundIn_of_wpIn trivial ?_
 have hk:=k _ w (zip_ag pl (xs.map ρ.ev) tm htm hp) hs
 refine wpIn_mono hk ?_
 rintro e a1 w1 ⟨ds1,ρ1,h1,L1,ag1,st1,rfl,f1,at1,kb⟩
 refine ⟨_,run_beginRound (at1.heap st1) rfl,?_⟩
 refine wpIn_mono (kb a1 _ ag1 (at1.put st1)) ?_
 rintro e a2 w2 ⟨ds2,ρ2,h2,L2,ag2,st2,rfl,f2,at2,kr⟩
 refine ⟨_,_,run_endRound none (at2.heap st2),?_⟩
 exact kr _ _ (ha.put hn (.bool true)) (at2.put st2)
end Go.Z
end
section
namespace Go.Z
open Go Go.RowKit
def Cells {α:Type} (R:Heap→List Value→α→Prop) (sz:Nat) (h:Heap) (cs:List Value) (l:List α):Prop:=
 cs.length=l.length*sz∧∀ i a,l[i]?=some a→R h ((cs.drop (i*sz)).take sz) a
def Sls {α:Type} (R:Heap→List Value→α→Prop) (sz:Nat) (h:Heap) (v:Value) (l:List α):Prop:=
 ∃ cs,SlAt h v l.length sz cs∧Cells R sz h cs l
class Mo {α:Type} (R:Heap→List Value→α→Prop):Prop where m:∀ {h h':Heap} {cs:List Value} {a:α},Ext h h'→R h cs a→R h' cs a
class Pl {α:Type} (R:Heap→List Value→α→Prop):Prop where p:∀ {h:Heap} {cs:List Value} {a:α},R h cs a→∀ u∈cs,plain u=true
theorem Cells.mono {α:Type} {R:Heap→List Value→α→Prop} [mo:Mo R] {sz:Nat} {h h':Heap} {cs:List Value} {l:List α} (c:Cells R sz h cs l) [e:Ext h h']:Cells R sz h' cs l:=
 ⟨c.1,fun i a hi=>mo.m e (c.2 i a hi)⟩
theorem Sls.mono {α:Type} {R:Heap→List Value→α→Prop} [mo:Mo R] {sz:Nat} {h h':Heap} {v:Value} {l:List α} (c:Sls R sz h v l) [e:Ext h h']:Sls R sz h' v l:=
 let ⟨cs,a,b⟩:=c; ⟨cs,a.mono,b.mono⟩
theorem Cells.nil {α:Type} {R:Heap→List Value→α→Prop} {sz:Nat} {h:Heap}:Cells R sz h [] []:=⟨by simp,fun i a hi=>by simp at hi⟩
theorem Cells.snoc {α:Type} {R:Heap→List Value→α→Prop} {sz:Nat} {h:Heap} {cs us:List Value} {l:List α} {a:α} (c:Cells R sz h cs l) (hu:us.length=sz) (ha:R h us a):Cells R sz h (cs++us) (l++[a]):=by
 refine ⟨by simp [c.1,hu,Nat.add_mul],fun i x hi=>?_⟩
 rcases Nat.lt_or_ge i l.length with h1 | h1
 ·rw [List.getElem?_append_left h1] at hi
  have:=c.2 i x hi
  have h2:i*sz+sz≤cs.length:=by rw [c.1,← Nat.succ_mul]; exact Nat.mul_le_mul_right _ h1
  rw [List.drop_append_of_le_length (by omega),List.take_append_of_le_length (by rw [List.length_drop]; omega)]
  exact this
 ·rw [List.getElem?_append_right h1] at hi
  have h3:i=l.length:=by
   rcases Nat.lt_or_ge (i-l.length) 1 with h4 | h4
   ·omega
   ·rw [List.getElem?_eq_none (by simpa using h4)] at hi; cases hi
  subst h3
  simp at hi; subst hi
  rw [← c.1,List.drop_left,List.take_of_length_le (by omega)]
  exact ha
theorem Sls.nil {α:Type} {R:Heap→List Value→α→Prop} {sz:Nat} (h:Heap):Sls R sz h (.slice none 0 0) []:=⟨[],SlAt.nil h sz,Cells.nil⟩
theorem Sls.out {α:Type} {R:Heap→List Value→α→Prop} {sz:Nat} {h:Heap} {v:Value} {l:List α} (s:Sls R sz h v l):∃ p c,v=.slice p l.length c∧l.length≤c:=by
 obtain ⟨cs,⟨p,c,rfl,h1,_⟩,_⟩:=s; exact ⟨p,c,rfl,h1⟩
theorem Sls.get {α:Type} {R:Heap→List Value→α→Prop} {sz:Nat} {h:Heap} {p:Option Addr} {n c:Nat} {l:List α} (s:Sls R sz h (.slice p n c) l) {i:Nat} {a:α} (hi:l[i]?=some a) :
  ∃ b o us,p=some ⟨b,o,none⟩∧CellN h b (o+i*sz) us∧R h us a∧us.length=sz:=by
 obtain ⟨cs,h1,h2⟩:=s
 have hlt:i<l.length:=(List.getElem?_eq_some_iff.1 hi).1
 have hn:n=l.length:=by obtain ⟨p',c',e,_⟩:=h1; cases e; rfl
 subst hn
 obtain ⟨b,o,rfl,hc⟩:=h1.elem hlt
 refine ⟨b,o,_,rfl,hc,h2.2 i a hi,?_⟩
 rw [List.length_take,List.length_drop,h2.1]
 have:i*sz+sz≤l.length*sz:=by rw [← Nat.succ_mul]; exact Nat.mul_le_mul_right _ hlt
 omega
abbrev RT:=Int×Bool×List Nat
def IntR (h:Heap) (cs:List Value) (z:Int):Prop:=∃ p c,cs=[.bool (decide (z<0)),.slice p (limbs z.natAbs).length c]∧(limbs z.natAbs).length≤c∧MagAt h (.slice p (limbs z.natAbs).length c) (limbs z.natAbs)
def One {α:Type} (P:Heap→Value→α→Prop) (h:Heap) (cs:List Value) (a:α):Prop:=∃ p n c,cs=[.slice p n c]∧P h (.slice p n c) a
instance:Mo IntR:=⟨fun e ⟨p,c,a,b,d⟩=>⟨p,c,a,b,d.mono (e:=e)⟩⟩
instance {α:Type} {R:Heap→List Value→α→Prop} {sz:Nat} [mo:Mo R]:Mo (One (Sls R sz)):=⟨fun e ⟨p,n,c,a,b⟩=>⟨p,n,c,a,b.mono (e:=e)⟩⟩
instance:Pl IntR:=⟨fun ⟨p,c,a,b,d⟩ u hu=>by subst a; simp at hu; rcases hu with rfl | rfl<;>rfl⟩
instance {α:Type} {P:Heap→Value→α→Prop}:Pl (One P):=⟨fun ⟨p,n,c,a,b⟩ u hu=>by subst a; simp at hu; subst hu; rfl⟩
def tm (t:Int×Int):RT:=(t.1,decide (t.2<0),limbs t.2.natAbs)
theorem Sls.drop {α:Type} {R:Heap→List Value→α→Prop} {sz:Nat} {h:Heap} {p:Option Addr} {n c k:Nat} {l:List α} (s:Sls R sz h (.slice p n c) l) (hk:k≤l.length) :
  Sls R sz h (.slice (if c=k then p else p.map (·.add (k*sz))) (n-k) (c-k)) (l.drop k):=by
 obtain ⟨cs,h1,h2⟩:=s
 have hn:n=l.length:=by obtain ⟨p',c',e,_⟩:=h1; cases e; rfl
 subst hn
 refine ⟨cs.drop (k*sz),by rw [List.length_drop]; exact h1.drop hk,by rw [List.length_drop,List.length_drop,h2.1,Nat.sub_mul],fun i a hi=>?_⟩
 rw [List.getElem?_drop] at hi
 have:=h2.2 _ _ hi
 rw [List.drop_drop,← Nat.add_mul]; exact this
end Go.Z
end
section
namespace Go.Z
open Go Go.RowKit
theorem setN_eq {l vs:List Value} {o:Nat} (h:o+vs.length≤l.length):setN l o vs=l.take o++(vs++(l.drop o).drop vs.length):=by
 have hl:(l.take o).length=o:=by rw [List.length_take]; omega
 have:=setN_append vs (l.take o) (l.drop o) (by rw [List.length_drop]; omega)
 rwa [List.take_append_drop,hl] at this
theorem setN_get {l vs:List Value} {o:Nat} (h:o+vs.length≤l.length) (k:Nat):(setN l o vs)[k]?=if k<o then l[k]? else if k<o+vs.length then vs[k-o]? else l[k]?:=by
 rw [setN_eq h]
 have hl:(l.take o).length=o:=by rw [List.length_take]; omega
 by_cases h1:k<o
 ·rw [if_pos h1,List.getElem?_append_left (by omega),List.getElem?_take,if_pos h1]
 ·rw [if_neg h1,List.getElem?_append_right (by omega),hl]
  by_cases h2:k<o+vs.length
  ·rw [if_pos h2,List.getElem?_append_left (by omega)]
  ·rw [if_neg h2,List.getElem?_append_right (by omega),List.getElem?_drop,List.getElem?_drop]
   congr 1; omega
theorem part_ext {cs ds:List Value} {i sz:Nat} (h:∀ k,k<sz→cs[i*sz+k]?=ds[i*sz+k]?):(cs.drop (i*sz)).take sz=(ds.drop (i*sz)).take sz:=by
 refine List.ext_getElem? fun k=>?_
 rw [List.getElem?_take,List.getElem?_take]
 by_cases hk:k<sz
 ·rw [if_pos hk,if_pos hk,List.getElem?_drop,List.getElem?_drop]; exact h k hk
 ·rw [if_neg hk,if_neg hk]
variable {α:Type} {R:Heap→List Value→α→Prop} {sz:Nat} {h:Heap} {cs us:List Value} {l:List α} {a:α}
theorem Cells.look (c:Cells R sz h cs l) {i:Nat} (hi:l[i]?=some a):∃ us,LookN cs (0+i*sz) us∧R h us a∧us.length=sz:=by
 have hlt:i<l.length:=(List.getElem?_eq_some_iff.1 hi).1
 have h2:i*sz+sz≤cs.length:=by rw [c.1,← Nat.succ_mul]; exact Nat.mul_le_mul_right _ hlt
 refine ⟨_,LookN.of_get fun j v hv=>?_,c.2 i a hi,by rw [List.length_take,List.length_drop]; omega⟩
 rw [List.getElem?_take] at hv
 split at hv
 ·rw [List.getElem?_drop] at hv; rw [Nat.zero_add]; exact hv
 ·cases hv
theorem Cells.set (c:Cells R sz h cs l) {j:Nat} (hj:j<l.length) (hu:us.length=sz) (ha:R h us a):Cells R sz h (setN cs (0+j*sz) us) (l.set j a):=by
 have h2:j*sz+sz≤cs.length:=by rw [c.1,← Nat.succ_mul]; exact Nat.mul_le_mul_right _ hj
 have hle:(0+j*sz)+us.length≤cs.length:=by omega
 refine ⟨by rw [length_setN,List.length_set]; exact c.1,fun i x hi=>?_⟩
 by_cases e:i=j
 ·subst e
  rw [List.getElem?_set_self hj] at hi
  cases hi
  have:((setN cs (0+i*sz) us).drop (i*sz)).take sz=us:=by
   refine List.ext_getElem? fun k=>?_
   rw [List.getElem?_take]
   by_cases hk:k<sz
   ·rw [if_pos hk,List.getElem?_drop,setN_get hle,if_neg (by omega),if_pos (by omega)]
    congr 1; omega
   ·rw [if_neg hk,List.getElem?_eq_none (by omega)]
  rw [this]; exact ha
 ·rw [List.getElem?_set_ne (Ne.symm e)] at hi
  have:=c.2 i x hi
  rw [part_ext (ds:=cs)]
  ·exact this
  ·intro k hk
   rw [setN_get hle]
   rcases Nat.lt_or_ge i j with h3 | h3
   ·have:(i+1)*sz≤j*sz:=Nat.mul_le_mul_right _ h3
    rw [Nat.succ_mul] at this
    rw [if_pos (by omega)]
   ·have:(j+1)*sz≤i*sz:=Nat.mul_le_mul_right _ (by omega)
    rw [Nat.succ_mul] at this
    rw [if_neg (by omega),if_neg (by omega)]
theorem Cells.rep {z:List Value} (hz:z.length=sz) (ha:R h z a):∀ n,Cells R sz h (List.replicate n z).flatten (List.replicate n a)
 | 0=>Cells.nil
 | n+1=>by
  rw [List.replicate_succ',List.replicate_succ',List.flatten_append]
  simpa using (Cells.rep hz ha n).snoc hz ha
theorem IntR.zero (h:Heap):IntR h [.bool false,.slice none 0 0] 0:=by
 have e:limbs (0:Int).natAbs=[]:=limbs_zero
 refine ⟨none,0,?_,?_,?_⟩
 ·rw [e]; rfl
 ·rw [e]; exact Nat.le_refl _
 ·rw [e]; exact MagAt.nil h
end Go.Z
end
section
namespace Go.Z
open Go Go.RowKit
variable {C:Cfg} {Q Q':Post} {ds:List Deferred} {ρ:Env} {h:Heap} {L:Own} {ops:Array Oper} {rest:List Oper}
variable {d:Nat} {ty:TypeId} {pos:String} {after:Array Edge} {S:World→Prop}
end Go.Z
end
section
namespace Go.Z
open Go Go.RowKit
variable {α:Type} {R:Heap→List Value→α→Prop} {sz:Nat} {h:Heap} {cs ds:List Value} {l m:List α} {a:α}
theorem Cells.append (c:Cells R sz h cs l) (e:Cells R sz h ds m):Cells R sz h (cs++ds) (l++m):=by
 refine ⟨by simp [c.1,e.1,Nat.add_mul],fun i x hi=>?_⟩
 rcases Nat.lt_or_ge i l.length with h1 | h1
 ·rw [List.getElem?_append_left h1] at hi
  have h2:(i+1)*sz≤l.length*sz:=Nat.mul_le_mul_right _ h1
  rw [Nat.succ_mul,← c.1] at h2
  rw [List.drop_append_of_le_length (by omega),List.take_append_of_le_length (by rw [List.length_drop]; omega)]
  exact c.2 i x hi
 ·rw [List.getElem?_append_right h1] at hi
  have h3:i*sz=cs.length+(i-l.length)*sz:=by rw [c.1,← Nat.add_mul]; congr 1; omega
  rw [h3,List.drop_append,List.drop_eq_nil_of_le (by omega),List.nil_append,Nat.add_sub_cancel_left]
  exact e.2 _ x hi
theorem Cells.take (c:Cells R sz h cs l) {k:Nat} (hk:k≤l.length):Cells R sz h (cs.take (k*sz)) (l.take k):=by
 have h0:k*sz≤cs.length:=by rw [c.1]; exact Nat.mul_le_mul_right _ hk
 refine ⟨by rw [List.length_take,List.length_take,Nat.min_eq_left h0,Nat.min_eq_left hk],fun i x hi=>?_⟩
 rw [List.getElem?_take] at hi
 split at hi
 ·rename_i hik
  have h2:(i+1)*sz≤k*sz:=Nat.mul_le_mul_right _ hik
  rw [Nat.succ_mul] at h2
  rw [part_ext (ds:=cs)]
  ·exact c.2 i x hi
  ·intro j hj
   rw [List.getElem?_take,if_pos (by omega)]
 ·cases hi
end Go.Z
end
section
namespace Go.Z
open Go Go.RowKit
variable {C:Cfg} {Q Q':Post} {ds:List Deferred} {ρ:Env} {h:Heap} {L:Own} {ops:Array Oper} {rest:List Oper}
variable {d:Nat} {ty:TypeId} {pos:String} {after:Array Edge} {S:World→Prop}
end Go.Z
end
section
namespace Go.Z
open Go Go.RowKit
variable {C:Cfg} {Q Q':Post} {ds:List Deferred} {ρ:Env} {h h1 h2:Heap} {L L' Lb:Own} {ops:Array Oper} {rest:List Oper}
variable {d:Nat} {ty:TypeId} {pos:String} {after:Array Edge} {S:World→Prop}
class Rem (L Lb:Own) (L':outParam Own):Prop where p:L.Perm (Lb++L')
instance (priority:=1300) Rem.nil {L:Own}:Rem L [] L:=⟨List.Perm.refl _⟩
instance (priority:=1250) Rem.self {Lb:Own}:Rem Lb Lb []:=⟨by simp⟩
instance (priority:=1200) Rem.head {Lb L2:Own}:Rem (Lb++L2) Lb L2:=⟨List.Perm.refl _⟩
instance (priority:=1200) Rem.one {p:Nat×Obj} {L2:Own}:Rem (p::L2) [p] L2:=⟨List.Perm.refl _⟩
instance Rem.tail {L Lb L':Own} {p:Nat×Obj} [a:Rem L Lb L']:Rem (p::L) Lb (p::L'):=⟨(a.p.cons p).trans List.perm_middle.symm⟩
instance Rem.app {L M Lb L':Own} [a:Rem L Lb L']:Rem (M++L) Lb (M++L'):=⟨by
 refine (List.Perm.append_left M a.p).trans ?_
 rw [← List.append_assoc,← List.append_assoc]
 exact List.Perm.append_right _ List.perm_append_comm⟩
class Sp (a L:Own):Prop where p:∃ rest,L.Perm (a++rest)
instance (priority:=1300) Sp.refl {L:Own}:Sp L L:=⟨[],by simp⟩
instance (priority:=1250) Sp.nil {L:Own}:Sp [] L:=⟨L,List.Perm.refl _⟩
instance Sp.cons {L L' a:Own} {x:Nat×Obj} [r:Rem L [x] L'] [s:Sp a L']:Sp (x::a) L:=by
 obtain ⟨rest,h⟩:=s.p
 exact ⟨rest,r.p.trans (List.Perm.cons x h)⟩
instance Sp.app {L Lb L' a:Own} [r:Rem L Lb L'] [s:Sp a L']:Sp (Lb++a) L:=by
 obtain ⟨rest,h⟩:=s.p
 exact ⟨rest,r.p.trans (by rw [List.append_assoc]; exact List.Perm.append_left Lb h)⟩
theorem J.sp {c:Code} {a:Own} (s:Sp a L) (k:J C c Q ds ρ h a):J C c Q ds ρ h L:=by
 obtain ⟨rest,hp⟩:=s.p
 exact J.perm hp (J.sub (List.sublist_append_left _ _) k)
instance (priority:=900) At.appl {L M:Own} {b:Nat} {o:Obj} {f:Obj→Own} [a:At M b o f]:At (M++L) b o (fun o'=>f o'++L):=by
 obtain ⟨L1,L2,h1,h2⟩:=a.e
 exact ⟨L1,L2++L,by rw [h1]; simp,fun o'=>by rw [h2]; simp⟩
section own
variable {α:Type} {R:Heap→List Value→α→Prop} {T:TypeId} {sz n k c o:Nat} {v:Value} {l m l':List α} {a a':α} {p:Option Addr} {cs us xs:List Value}
def OwnL (R:Heap→List Value→α→Prop) (T:TypeId) (sz:Nat) (h:Heap) (v:Value) (l:List α) (Lb:Own):Prop:=∃ xs,OwnS T sz v l.length xs Lb∧Cells R sz h xs l
theorem OwnL.mono [Mo R] (w:OwnL R T sz h1 v l Lb) [e:Ext h1 h]:OwnL R T sz h v l Lb:=let ⟨xs,a,b⟩:=w; ⟨xs,a,b.mono⟩
theorem OwnL.nil (h:Heap):OwnL R T sz h (.slice none 0 0) [] []:=⟨[],OwnS.nil T sz,Cells.nil⟩
theorem OwnL.lit {b:Nat} (h:Heap) (hl:xs.length=n*sz) (hc:Cells R sz h xs l) (hn:l.length=n):OwnL R T sz h (.slice (some ⟨b,0,none⟩) n n) l [(b,row T xs)]:=by
 subst hn; exact ⟨xs,OwnS.lit hl,hc⟩
theorem OwnL.out (w:OwnL R T sz h v l Lb):∃ p c,v=.slice p l.length c:=by
 obtain ⟨xs,a,_⟩:=w; exact a.out
theorem OwnL.len (w:OwnL R T sz h (.slice p n c) l Lb):n=l.length:=by
 obtain ⟨p,c,e⟩:=w.out; cases e; rfl
theorem Sls.len (w:Sls R sz h (.slice p n c) l):n=l.length:=by
 obtain ⟨p,c,e,_⟩:=w.out; cases e; rfl
theorem JL.fzO [Mo R] (w:OwnL R T sz h v l Lb) [r:Rem L Lb L'] (k:∀ h',Step h h'→Sls R sz h' v l→JL C ops Q rest ds ρ h' L'):JL C ops Q rest ds ρ h L:=by
 obtain ⟨xs,ho,hc⟩:=w
 rcases ho.split with ⟨rfl,hs⟩ | ⟨b,ob,rfl,hs⟩
 ·exact JL.perm r.p (k h ⟨fun _ _ x=>x⟩ ⟨xs,hs h,hc⟩)
 ·exact JL.perm r.p (JL.fz1 fun h' st hb=>k h' st ⟨xs,hs h' hb,hc.mono⟩)
theorem J.fzO [Mo R] {c:Code} (w:OwnL R T sz h v l Lb) [r:Rem L Lb L'] (k:∀ h',Step h h'→Sls R sz h' v l→J C c Q ds ρ h' L'):J C c Q ds ρ h L:=by
 obtain ⟨xs,ho,hc⟩:=w
 rcases ho.split with ⟨rfl,hs⟩ | ⟨b,ob,rfl,hs⟩
 ·exact J.perm r.p (k h ⟨fun _ _ x=>x⟩ ⟨xs,hs h,hc⟩)
 ·exact J.perm r.p (J.freeze fun h' st hb=>k h' st ⟨xs,hs h' hb,hc.mono⟩)
theorem J.fzB {c:Code} (b:Nat) {ob:Obj} [r:Rem L [(b,ob)] L'] (k:∀ h',Step h h'→h' b=some ob→J C c Q ds ρ h' L'):J C c Q ds ρ h L:=
 J.perm r.p (J.freeze k)
theorem JL.fzB (b:Nat) {ob:Obj} [r:Rem L [(b,ob)] L'] (k:∀ h',Step h h'→h' b=some ob→JL C ops Q rest ds ρ h' L'):JL C ops Q rest ds ρ h L:=
 JL.perm r.p (JL.fz1 k)
def OwnC (R:Heap→List Value→α→Prop) (sz:Nat) (h:Heap) (cs:List Value) (l:List α) (c:Nat):Prop:=l.length≤c∧cs.length=c*sz∧Cells R sz h (cs.take (l.length*sz)) l
theorem OwnC.mono [Mo R] (w:OwnC R sz h1 cs l c) [e:Ext h1 h]:OwnC R sz h cs l c:=⟨w.1,w.2.1,w.2.2.mono⟩
theorem OwnL.blk (w:OwnL R T sz h (.slice p n c) l Lb) (hk:k<l.length):∃ b cs,p=some ⟨b,0,none⟩∧Lb=[(b,row T cs)]∧n=l.length∧OwnC R sz h cs l c:=by
 have hn:=w.len
 subst hn
 obtain ⟨xs,⟨h1,h2⟩,hc⟩:=w
 rcases h2 with ⟨q,e,_,h3,_⟩ | ⟨b,c',sp,e,rfl,h3,h4⟩
 ·omega
 ·cases e
  refine ⟨b,_,rfl,rfl,rfl,h3,h4,?_⟩
  rw [List.take_left' h1]; exact hc
theorem OwnC.own {b:Nat} (w:OwnC R sz h cs l c) (hn:n=l.length):OwnL R T sz h (.slice (some ⟨b,0,none⟩) n c) l [(b,row T cs)]:=by
 subst hn
 obtain ⟨h1,h2,h3⟩:=w
 refine ⟨cs.take (l.length*sz),⟨?_,.inr ⟨b,c,cs.drop (l.length*sz),rfl,by rw [List.take_append_drop],h1,by rw [List.take_append_drop]; exact h2⟩⟩,h3⟩
 rw [List.length_take,h2]; exact Nat.min_eq_left (Nat.mul_le_mul_right _ h1)
theorem OwnC.get (w:OwnC R sz h cs l c) (hx:l[k]?=some a):∃ us,LookN cs (0+k*sz) us∧R h us a∧us.length=sz:=by
 obtain ⟨us,h1,h2,h3⟩:=w.2.2.look hx
 refine ⟨us,LookN.of_get fun j u hj=>?_,h2,h3⟩
 have:=h1.get j u hj
 rw [List.getElem?_take] at this
 split at this
 ·exact this
 ·cases this
theorem OwnC.put {j:Nat} (w:OwnC R sz h cs l c) (hk:k<l.length) (hl:LookN cs (0+k*sz) xs) (hx:xs.length=sz) (hj:j+us.length≤sz) (ha:R h (setN xs j us) a):OwnC R sz h (setN cs (0+k*sz+j) us) (l.set k a) c:=by
 obtain ⟨h1,h2,h3⟩:=w
 have hle:k*sz+sz≤l.length*sz:=by rw [← Nat.succ_mul]; exact Nat.mul_le_mul_right _ hk
 have hlc:l.length*sz≤c*sz:=Nat.mul_le_mul_right _ h1
 refine ⟨by rw [List.length_set]; exact h1,by rw [length_setN]; exact h2,?_⟩
 rw [List.length_set]
 have key:(setN cs (0+k*sz+j) us).take (l.length*sz)=setN (cs.take (l.length*sz)) (0+k*sz) (setN xs j us):=by
  have hlt:(cs.take (l.length*sz)).length=l.length*sz:=by rw [List.length_take,h2]; exact Nat.min_eq_left hlc
  refine List.ext_getElem? fun i=>?_
  rw [List.getElem?_take,setN_get (by rw [h2]; omega),setN_get (by rw [length_setN,hlt,hx]; omega),length_setN,hx]
  by_cases hi:i<l.length*sz
  ·rw [if_pos hi,List.getElem?_take,if_pos hi]
   by_cases h5:i<0+k*sz
   ·rw [if_pos (by omega),if_pos h5]
   ·rw [if_neg h5]
    by_cases h6:i<0+k*sz+sz
    ·rw [if_pos h6,setN_get (by omega)]
     have hg:i-(0+k*sz)<xs.length:=by omega
     have:=hl.get (i-(0+k*sz)) _ (List.getElem?_eq_getElem hg)
     rw [show 0+k*sz+(i-(0+k*sz))=i by omega] at this
     rw [List.getElem?_eq_getElem hg]
     by_cases h7:i<0+k*sz+j
     ·have g1:i-(0+k*sz)<j:=by omega
      simp only [h7,g1,if_true,this]
     ·have g1:¬ i-(0+k*sz)<j:=by omega
      by_cases h8:i<0+k*sz+j+us.length
      ·have g2:i-(0+k*sz)<j+us.length:=by omega
       have g3:i-(0+k*sz+j)=i-(0+k*sz)-j:=by omega
       simp only [h7,g1,h8,g2,if_true,if_false,g3]
      ·have g2:¬ i-(0+k*sz)<j+us.length:=by omega
       simp only [h7,g1,h8,g2,if_false,this]
    ·rw [if_neg h6,if_neg (by omega),if_neg (by omega)]
  ·rw [if_neg hi,if_neg (by omega),if_neg (by omega),List.getElem?_eq_none (by omega)]
 rw [key]
 exact h3.set hk (by rw [length_setN]; exact hx) ha
end own
end Go.Z
end
section
namespace Go.Z
open Go Go.RowKit
variable {C:Cfg} {Q Q':Post} {ds:List Deferred} {ρ:Env} {h h1 h2:Heap} {L L' Lb:Own} {ops:Array Oper} {rest:List Oper}
variable {d:Nat} {ty:TypeId} {pos:String} {after:Array Edge} {S:World→Prop}
theorem LookN.part {l us:List Value} {o j k:Nat} (hl:LookN l o us):LookN l (o+j) ((us.drop j).take k):=
 LookN.of_get fun i v hv=>by
  rw [List.getElem?_take] at hv
  split at hv
  ·rw [List.getElem?_drop] at hv
   rw [Nat.add_assoc]; exact hl.get _ _ hv
  ·cases hv
theorem CellN.sub {b o j k:Nat} {us:List Value} (c:CellN h b o us):CellN h b (o+j) ((us.drop j).take k):=by
 obtain ⟨l,T,fr,x,y⟩:=c
 exact ⟨l,T,fr,x,y.part⟩
theorem Cells.cons {α:Type} {R:Heap→List Value→α→Prop} {sz:Nat} {cs us:List Value} {l:List α} {a:α} (hu:us.length=sz) (ha:R h us a) (c:Cells R sz h cs l):Cells R sz h (us++cs) (a::l):=by
 have:=(Cells.nil (R:=R) (sz:=sz) (h:=h)).snoc hu ha
 simpa using this.append c
theorem Cells.plain {α:Type} {R:Heap→List Value→α→Prop} [pl:Pl R] {sz:Nat} {cs:List Value} {l:List α} (c:Cells R sz h cs l):∀ u∈cs,plain u=true:=fun u hu=>by
 obtain ⟨i,hi⟩:=List.mem_iff_getElem?.1 hu
 have hlt:i<cs.length:=(List.getElem?_eq_some_iff.1 hi).1
 rw [c.1] at hlt
 have hsz:0<sz:=by rcases Nat.eq_zero_or_pos sz with e | e; (subst e; simp at hlt); exact e
 have hq:i / sz<l.length:=(Nat.div_lt_iff_lt_mul hsz).2 hlt
 obtain ⟨a,ha⟩:=lt_get hq
 refine pl.p (c.2 _ _ ha) u (List.mem_iff_getElem?.2 ⟨i % sz,?_⟩)
 rw [List.getElem?_take,if_pos (Nat.mod_lt _ hsz),List.getElem?_drop,Nat.mul_comm,Nat.div_add_mod]
 exact hi
section
variable {x y:Operand} {T T' e:TypeId} {b o n c m:Nat} {p:Option Addr}
theorem q_lenE [hu:Sl C.P T e] {k:Nat} (hx:ρ.ev x=.slice p n c) (hn:n=k):Qr C ρ S (.call { callee:=.builtin .len,args:=#[x],argTypes:=#[T] }) ty (.int .i64 (k:Int)):=by subst hn; exact q_len hx
theorem q_ian {sz:Nat} {q:IntKind} {j:Int} [hu:Sl C.P T e] [hs:Sz C.P e sz] (hx:ρ.ev x=.slice (some ⟨b,o,none⟩) m c) (hy:ρ.ev y=.int q j) (hj:j=(n:Int)) (hn:n<m):Qr C ρ S (.indexAddr T x y) ty (.pointer (some ⟨b,o+n*sz,none⟩)):=by
 subst hj
 have:=q_ia (C:=C) (T:=T) (e:=e) (sz:=sz) (S:=S) (ty:=ty) hx hy (by omega)
 rwa [Int.toNat_natCast] at this
theorem q_ldO {l us:List Value} {fr:Nat×Nat} {v:Value} {f:Obj→Own} {j:Nat} [hp:Pr C.P T] (hx:ρ.ev x=.pointer (some ⟨b,o+j,none⟩)) (a:At L b (.cells ⟨l⟩ T' fr) f) (hl:LookN l o us) (hv:us[j]?=some v):Qr C ρ (SS C h L) (.load T x) ty v:=
 q_ld hx a (hl.get j v hv)
theorem q_ldOa0 {l us:List Value} {fr:Nat×Nat} {f:Obj→Own} [hp:Ag1 C.P T us.length] (hx:ρ.ev x=.pointer (some ⟨b,o,none⟩)) (a:At L b (.cells ⟨l⟩ T' fr) f) (hl:LookN l o us):Qr C ρ (SS C h L) (.load T x) ty (.agg ⟨us⟩):=
 q_lda hx a hl
theorem q_ldfs {us vs:List Value} {j:Nat} [hp:Ag1 C.P T vs.length] [e:Ext h1 h] (hx:ρ.ev x=.pointer (some ⟨b,o+j,none⟩)) (hc:CellN h1 b o us) (hv:(us.drop j).take vs.length=vs):Qr C ρ (SS C h L) (.load T x) ty (.agg ⟨vs⟩):=
 q_ldfa hx (by rw [← hv]; exact hc.sub)
section lists
variable {α:Type} {R:Heap→List Value→α→Prop} {sz by' k:Nat} {z us cs xs:List Value} {l l' l2:List α} {a a':α} {v:Value} {f:Obj→Own}
theorem o_appO [mo:Mo R] [pl:Pl R] {e':TypeId} [hu:Sl C.P T e] [hu':Sl C.P T' e'] [hs:Sz C.P e sz] [hb:By C.P e by'] [hz:Zv C.P e z] {u:Value}
  (hx:ρ.ev x=v) (hy:ρ.ev y=u) (ho:OwnL R e sz h v l Lb) [r:Rem L Lb L'] [e1:Ext h1 h] (hs2:Sls R sz h1 u l2) (hm:app l l2=some l')
  (k:∀ p c Lb',OwnL R e sz h (.slice p l'.length c) l' Lb'→JL C ops Q rest ds (ρ.set d (.slice p l'.length c)) h (Lb'++L')) (hn:Nat.blt d C.n=true:=by rfl) (hzl:z.length=sz:=by rfl) (hby:Nat.ble by' 100000=true:=by rfl) :
  JL C ops Q (⟨some d,.call { callee:=.builtin .append,args:=#[x,y],argTypes:=#[T,T'] },ty,pos,after,none⟩::rest) ds ρ h L:=by
 obtain ⟨hlen,rfl⟩:=app_some hm
 obtain ⟨xs,hox,hcx⟩:=ho
 obtain ⟨cs,hsl,hcc⟩:=hs2
 refine JL.perm r.p (o_app (e:=e) hx hy hox ⟨[],L',rfl,fun _=>rfl⟩ (src_fro hsl hcc.plain) hlen (fun v' Lb' ho'=>?_) hn hzl hby)
 have hl2:l.length+l2.length=(l++l2).length:=by simp
 rw [hl2] at ho'
 have hw:OwnL R e sz h v' (l++l2) Lb':=⟨_,ho',hcx.append hcc.mono⟩
 obtain ⟨p,c,rfl⟩:=hw.out
 exact k p c Lb' hw
theorem o_appB [mo:Mo R] [pl:Pl R] {e' T0:TypeId} {fr:Nat×Nat} [hu:Sl C.P T e] [hu':Sl C.P T' e'] [hs:Sz C.P e sz] [hb:By C.P e by'] [hz:Zv C.P e z] {cc:Nat}
  (hx:ρ.ev x=v) (hy:ρ.ev y=.slice (some ⟨b,0,none⟩) l2.length cc) (ho:OwnL R e sz h v l Lb) [r:Rem L Lb L'] (a:At L' b (.cells ⟨us⟩ T0 fr) f) (hcc:Cells R sz h us l2) (hm:app l l2=some l')
  (k:∀ p c Lb',OwnL R e sz h (.slice p l'.length c) l' Lb'→JL C ops Q rest ds (ρ.set d (.slice p l'.length c)) h (Lb'++L')) (hn:Nat.blt d C.n=true:=by rfl) (hzl:z.length=sz:=by rfl) (hby:Nat.ble by' 100000=true:=by rfl) :
  JL C ops Q (⟨some d,.call { callee:=.builtin .append,args:=#[x,y],argTypes:=#[T,T'] },ty,pos,after,none⟩::rest) ds ρ h L:=by
 obtain ⟨hlen,rfl⟩:=app_some hm
 obtain ⟨xs,hox,hcx⟩:=ho
 have a2:At (Lb++L') b (.cells ⟨us⟩ T0 fr) (fun o'=>Lb++f o'):=inferInstance
 refine JL.perm r.p (o_app (e:=e) hx hy hox ⟨[],L',rfl,fun _=>rfl⟩ (src_own a2 (LookN.all _) hcc.1 hcc.plain) hlen (fun v' Lb' ho'=>?_) hn hzl hby)
 have hl2:l.length+l2.length=(l++l2).length:=by simp
 rw [hl2] at ho'
 have hw:OwnL R e sz h v' (l++l2) Lb':=⟨_,ho',hcx.append hcc⟩
 obtain ⟨p,c,rfl⟩:=hw.out
 exact k p c Lb' hw
theorem o_mkO {q q':IntKind} {i:Int} {z0:α} [hu:Sl C.P T e] [hs:Sz C.P e sz] [hb:By C.P e by'] [hz:Zv C.P e z] (hx:ρ.ev x=.int q i) (hy:ρ.ev y=.int q' i) (hm:mkl i z0=some l) (hR:R h z z0)
  (k:∀ p c Lb,OwnL R e sz h (.slice p l.length c) l Lb→JL C ops Q rest ds (ρ.set d (.slice p l.length c)) h (Lb++L)) (hn:Nat.blt d C.n=true:=by rfl) (hzl:z.length=sz:=by rfl) (hby:Nat.ble by' 100000=true:=by rfl) :
  JL C ops Q (⟨some d,.makeSlice T x y,ty,pos,after,none⟩::rest) ds ρ h L:=by
 obtain ⟨h1,h2,h3⟩:=mkl_some hm
 have hb3:l.length*by'≤140737488355328:=Nat.le_trans (Nat.mul_le_mul h2 (Nat.le_of_ble_eq_true hby)) (by decide)
 have hx':ρ.ev x=.int q (l.length:Int):=by rw [hx,h1]
 have hy':ρ.ev y=.int q' (l.length:Int):=by rw [hy,h1]
 refine o_mk (n:=l.length) (m:=l.length) hx' hy' rfl rfl (Nat.le_refl _) hb3 (by omega) (fun g=>?_) hn hzl
 refine k _ _ [(g,_)] (OwnL.lit h ?_ ?_ rfl)
 ·rw [flat_len,hzl]
 ·have:=Cells.rep (R:=R) (sz:=sz) (h:=h) hzl hR l.length
  rwa [← h3] at this
theorem o_stO {T0:TypeId} {ps us1:List Value} {j:Nat} (hs:∃ i,C.P.info? T=some i∧i.size=ps.length) (hx:ρ.ev x=.pointer (some ⟨b,0+k*sz+j,none⟩)) (hy:ρ.ev y=v) (hv:v.cells=⟨ps⟩) (hpl:ps.all plain=true)
  (oc:OwnC R sz h cs l c) (A:At L b (row T0 cs) f) (hk:k<l.length) (hl:LookN cs (0+k*sz) xs) (hxs:xs.length=sz) (hj:j+ps.length≤sz) (he:setN xs j ps=us1) (hR:R h us1 a) (hl2:l2=l.set k a)
  (kk:∀ cs',OwnC R sz h cs' l2 c→JL C ops Q rest ds ρ h (f (row T0 cs'))) :
  JL C ops Q (⟨none,.store T x y,ty,pos,after,none⟩::rest) ds ρ h L:=by
 have hle:k*sz+sz≤l.length*sz:=by rw [← Nat.succ_mul]; exact Nat.mul_le_mul_right _ hk
 have hlc:l.length*sz≤c*sz:=Nat.mul_le_mul_right _ oc.1
 have h2:=oc.2.1
 subst hl2
 exact o_st hs hx hy hv (List.all_eq_true.1 hpl) A (by omega) (kk _ (oc.put hk hl hxs hj (by rw [he]; exact hR)))
end lists
end
theorem o_stc {x y:Operand} {T T':TypeId} {b o:Nat} {l vs l':List Value} {v:Value} {f:Obj→Own} {n:Nat} [hs:Sz C.P T n] (hx:ρ.ev x=.pointer (some ⟨b,o,none⟩)) (hy:ρ.ev y=v) (hv:v.cells=⟨vs⟩) (hn:vs.length=n) (hpl:vs.all plain=true)
  (a:At L b (row T' l) f) (hlen:Nat.ble (o+vs.length) l.length=true) (he:setN l o vs=l') (k:JL C ops Q rest ds ρ h (f (row T' l'))) :
  JL C ops Q (⟨none,.store T x y,ty,pos,after,none⟩::rest) ds ρ h L:=by
 subst hn he
 exact o_st hs.i hx hy hv (List.all_eq_true.1 hpl) a (Nat.le_of_ble_eq_true hlen) k
theorem lt_bs {a n k:Nat} (h:a<2^n) (hk:n≤32*k):a<Bs^k:=by
 have:Bs=2^32:=rfl
 rw [this,← Nat.pow_mul]; exact lt_pow2 h hk
theorem fit_of {z:Int} {n k:Nat} (h:z.natAbs<2^n) (hk:n≤32*k) (h2:k≤1000000):Fit z:=fitk k (lt_bs h hk) h2
theorem ft_fit {z:Int} (h:Ft z):Fit z:=fit_of (n:=16000000) (k:=500000) h (by decide) (by decide)
def AggV {α:Type} (R:Heap→List Value→α→Prop) (h:Heap) (v:Value) (x:α):Prop:=∃ cs,v=.agg ⟨cs⟩∧R h cs x
theorem AggV.mono {α:Type} {R:Heap→List Value→α→Prop} [mo:Mo R] {v:Value} {x:α} (w:AggV R h1 v x) [e:Ext h1 h]:AggV R h v x:=let ⟨cs,a,b⟩:=w; ⟨cs,a,mo.m e b⟩
theorem Mo.up {α:Type} {R:Heap→List Value→α→Prop} [mo:Mo R] {cs:List Value} {x:α} (w:R h1 cs x) [e:Ext h1 h]:R h cs x:=mo.m e w
def KR (k:IntKind) (h:Heap) (cs:List Value) (x:Int):Prop:=cs=[.int k x]
instance {k:IntKind}:Mo (KR k):=⟨fun e a=>a⟩
instance {k:IntKind}:Pl (KR k):=⟨fun {h cs x} a u hu=>by unfold KR at a; subst a; simp at hu; subst hu; rfl⟩
abbrev LR {α:Type} (R:Heap→List Value→α→Prop) (sz:Nat):=One (Sls R sz)
theorem Sls.at {α:Type} {R:Heap→List Value→α→Prop} {sz b o n c i:Nat} {l:List α} {a:α} (s:Sls R sz h (.slice (some ⟨b,o,none⟩) n c) l) (hi:l[i]?=some a):∃ us,CellN h b (o+i*sz) us∧R h us a:=by
 obtain ⟨b',o',us,e,h1,h2,_⟩:=s.get hi
 cases e
 exact ⟨us,h1,h2⟩
theorem Sls.op {α:Type} {R:Heap→List Value→α→Prop} {sz n c i:Nat} {p:Option Addr} {l:List α} (s:Sls R sz h (.slice p n c) l) (hi:i<l.length):∃ b o,p=some ⟨b,o,none⟩:=by
 obtain ⟨a,ha⟩:=lt_get hi
 obtain ⟨b',o',us,e,h1,h2,_⟩:=s.get ha
 exact ⟨b',o',e⟩
end Go.Z
end
section
namespace Go.Z
open Go Go.RowKit
variable {C:Cfg} {Q Q':Post} {ds:List Deferred} {ρ:Env} {h h1 h2:Heap} {L L' Ls Lb:Own} {ops:Array Oper} {rest:List Oper}
variable {d:Nat} {ty:TypeId} {pos:String} {after:Array Edge} {S:World→Prop} {M:List Nat} {listed:Array Bool} {fuel:Nat}
theorem KR.op {k:IntKind} {cs:List Value} {x:Int} (w:KR k h cs x):cs=[.int k x]:=w
theorem IntR.op {cs:List Value} {z:Int} (w:IntR h cs z):∃ (g:Bool) (p:Option Addr) (n c:Nat),cs=[.bool g,.slice p n c]∧IntR h [.bool g,.slice p n c] z:=by
 obtain ⟨p,c,rfl,h1,h2⟩:=w
 exact ⟨_,p,_,c,rfl,p,c,rfl,h1,h2⟩
theorem IntAt.op {v:Value} {z:Int} (w:IntAt h v z):∃ (g:Bool) (p:Option Addr) (n c:Nat),v=.agg ⟨[.bool g,.slice p n c]⟩∧IntR h [.bool g,.slice p n c] z:=by
 obtain ⟨p,c,rfl,h1,h2⟩:=w.out
 exact ⟨_,p,_,c,rfl,p,c,rfl,h1,h2⟩
theorem IntR.at {g:Bool} {p:Option Addr} {n c:Nat} {z:Int} (w:IntR h [.bool g,.slice p n c] z):IntAt h (.agg ⟨[.bool g,.slice p n c]⟩) z:=by
 obtain ⟨p',c',e,h1,h2⟩:=w
 cases e
 exact IntAt.in h2
theorem IntR.zero0 (h:Heap):IntR h [.bool false,.slice none 0 0] 0:=IntR.zero h
theorem Sls.op3 {α:Type} {R:Heap→List Value→α→Prop} {sz:Nat} {v:Value} {l:List α} (s:Sls R sz h v l):∃ p n c,v=.slice p n c∧Sls R sz h (.slice p n c) l:=by
 obtain ⟨p,c,rfl,_⟩:=s.out; exact ⟨p,_,c,rfl,s⟩
section
variable {α:Type} {R:Heap→List Value→α→Prop} {sz n c:Nat} {p:Option Addr} {l l':List α} {i j:Int}
structure CutV (p:Option Addr) (n c sz:Nat) (i j:Int) (p':Option Addr) (n' c':Nat):Prop where
 ok:0≤i∧i≤j∧j≤(n:Int)∧n≤c
 p:p'=if c=i.toNat then p else p.map (·.add (i.toNat*sz))
 n:n'=j.toNat-i.toNat
 c:c'=c-i.toNat
theorem Sls.takeC (s:Sls R sz h (.slice p n c) l) {k:Nat} (hk:k≤l.length):Sls R sz h (.slice p k c) (l.take k):=by
 obtain ⟨cs,h1,h2⟩:=s
 have hn:n=l.length:=by obtain ⟨p',c',e,_⟩:=h1; cases e; rfl
 subst hn
 have hc:l.length≤c:=by obtain ⟨p',c',e,h3,_⟩:=h1; cases e; exact h3
 have hl:(l.take k).length=k:=by rw [List.length_take]; omega
 refine ⟨cs.take (k*sz),?_,h2.take hk⟩
 rw [hl]; exact h1.take hk (by omega)
theorem Sls.cutLH (s:Sls R sz h (.slice p n c) l) (hc:cutL l i j=some l'):∃ p' c',Sls R sz h (.slice p' l'.length c') l'∧CutV p n c sz i j p' l'.length c':=by
 obtain ⟨a,b,rfl,rfl,h1,h2,rfl⟩:=cutL_some hc
 have hn:=s.len
 have hcap:n≤c:=by obtain ⟨p',c',e,h3⟩:=s.out; cases e; exact h3
 have hlen:((l.take b).drop a).length=b-a:=by rw [List.length_drop,List.length_take]; omega
 have h3:=(s.takeC h2).drop (k:=a) (by rw [List.length_take]; omega)
 refine ⟨_,c-a,?_,⟨by omega,rfl,by rw [hlen]; omega,by simp⟩⟩
 rw [hlen]; simpa using h3
theorem Sls.cutL (s:Sls R sz h (.slice p n c) l) (hc:cutL l i (l.length:Int)=some l'):∃ p' c',Sls R sz h (.slice p' l'.length c') l'∧CutV p n c sz i (n:Int) p' l'.length c':=by
 have:=s.cutLH hc
 rwa [← s.len] at this
theorem Sls.cutH (s:Sls R sz h (.slice p n c) l) (hc:Z.cutL l 0 j=some l'):∃ p' c',Sls R sz h (.slice p' l'.length c') l'∧CutV p n c sz 0 j p' l'.length c':=s.cutLH hc
end
section
variable {x lo hi:Operand} {T e:TypeId} {p p':Option Addr} {n c n' c' sz:Nat} {i j:Int} {q q':IntKind}
theorem q_cutL [hu:Sl C.P T e] [hs:Sz C.P e sz] (hx:ρ.ev x=.slice p n c) (hl:ρ.ev lo=.int q i) (v:CutV p n c sz i (n:Int) p' n' c'):Qr C ρ S (.slice T x (some lo) none none) ty (.slice p' n' c'):=by
 obtain ⟨h1,rfl,rfl,rfl⟩:=v
 have:=q_slL (C:=C) (T:=T) (e:=e) (S:=S) (ty:=ty) (sz:=sz) hx hl (by omega)
 simpa using this
theorem q_cutH [hu:Sl C.P T e] [hs:Sz C.P e sz] (hx:ρ.ev x=.slice p n c) (hh:ρ.ev hi=.int q' j) (v:CutV p n c sz 0 j p' n' c'):Qr C ρ S (.slice T x none (some hi) none) ty (.slice p' n' c'):=by
 obtain ⟨h1,rfl,rfl,rfl⟩:=v
 have:=q_slH (C:=C) (T:=T) (e:=e) (S:=S) (ty:=ty) (sz:=sz) hx hh (by omega)
 have e2:∀ c:Nat,(if c=(0:Int).toNat then p else p.map (·.add ((0:Int).toNat*sz)))=p:=fun c=>by
  rw [show (0:Int).toNat*sz=0*sz from rfl,map_add0]; simp
 rw [e2]; simpa using this
end
theorem setL_hn {α:Type} {n:Nat} {i:Int} {l:List α} {a:α} (hn:n=l.length):n=(setL l i a).length:=by unfold setL; rw [List.length_set]; exact hn
theorem setL_eq {α:Type} {n:Nat} {i:Int} {l:List α} {a:α} (hi:i=(n:Int)):setL l i a=l.set n a:=by subst hi; unfold setL; rw [Int.toNat_natCast]
theorem o_stO0 {α:Type} {R:Heap→List Value→α→Prop} {x y:Operand} {T T0:TypeId} {b sz k c:Nat} {cs xs ps us1:List Value} {l l2:List α} {a:α} {v:Value} {f:Obj→Own} (hs:∃ i,C.P.info? T=some i∧i.size=ps.length) (hx:ρ.ev x=.pointer (some ⟨b,0+k*sz,none⟩)) (hy:ρ.ev y=v) (hv:v.cells=⟨ps⟩) (hpl:ps.all plain=true)
  (oc:OwnC R sz h cs l c) (A:At L b (row T0 cs) f) (hk:k<l.length) (hl:LookN cs (0+k*sz) xs) (hxs:xs.length=sz) (hj:0+ps.length≤sz) (he:setN xs 0 ps=us1) (hR:R h us1 a) (hl2:l2=l.set k a)
  (kk:∀ cs',OwnC R sz h cs' l2 c→JL C ops Q rest ds ρ h (f (row T0 cs'))) :
  JL C ops Q (⟨none,.store T x y,ty,pos,after,none⟩::rest) ds ρ h L:=o_stO (j:=0) hs hx hy hv hpl oc A hk hl hxs hj he hR hl2 kk
class Pk (L:Own) (bs:List Nat) (out:outParam Own):Prop where m:∀ p∈out,p∈L
instance Pk.nil {L:Own}:Pk L [] []:=⟨fun _ hp=>by cases hp⟩
instance Pk.cons {L out:Own} {b:Nat} {bs:List Nat} {o:Obj} {f:Obj→Own} [a:At L b o f] [k:Pk L bs out]:Pk L (b::bs) ((b,o)::out):=⟨fun p hp=>by
 rcases List.mem_cons.1 hp with rfl | hp
 ·obtain ⟨L1,L2,rfl,_⟩:=a.e; simp
 ·exact k.m p hp⟩
class Sub (a L:Own):Prop where m:∀ p∈a,p∈L
instance Sub.nil {L:Own}:Sub [] L:=⟨fun _ hp=>by cases hp⟩
instance Sub.cons {L a:Own} {b:Nat} {o:Obj} {f:Obj→Own} [q:At L b o f] [k:Sub a L]:Sub ((b,o)::a) L:=⟨fun p hp=>by
 rcases List.mem_cons.1 hp with rfl | hp
 ·obtain ⟨L1,L2,rfl,_⟩:=q.e; simp
 ·exact k.m p hp⟩
theorem J.drawB {id:Nat} {l:List Oper} (bs:List Nat) (M:List Nat) [hm:Mix C.P] [pk:Pk L bs Ls] (k:JD C l.toArray Q (SS C h Ls) M l.length (Array.replicate l.length false) ds ρ h L) :
  J C (.region id l.toArray true) Q ds ρ h L:=fun a w ha hs=>
 wpIn_mono (wpIn_region_any hm.m (wpAny_of_S _ (k a _ ⟨ha.size,ha.defers,ha.get⟩ hs.drew))) fun _ _ _=>noP_lift
theorem ss_subB [sub:Sub Ls L]:∀ w,St C.w0 C.h0 h L w→SS C h Ls w:=fun w hs=>⟨h,L,Ext.refl h,sub.m,hs⟩
section takes
variable {i:Nat} {op:Op} {g:Option (Nat×Bool)} {v:Value}
theorem JD.loadB (i:Nat) (chk:(takeOk ops listed M i && !M.contains i)=true) (ho:ops[i]?=some ⟨some d,op,ty,pos,after,g⟩) (hg:WantT ops ρ g) [sub:Sub Ls L]
  (q:Qr C ρ (SS C h Ls) op ty v) (k:JD C ops Q (SS C h Ls) M fuel (listed.setIfInBounds i true) ds (ρ.set d v) h L) (hn:Nat.blt d C.n=true:=by rfl) :
  JD C ops Q (SS C h Ls) M (fuel+1) listed ds ρ h L:=fun a w ha hs=>by
 simp only [takeOk,Bool.and_eq_true,Bool.not_eq_true'] at chk
 obtain ⟨⟨⟨⟨⟨c1,c2⟩,c3⟩,c4⟩,c5⟩,c6⟩:=chk
 have hSS:SS C h Ls w:=⟨h,L,Ext.refl h,sub.m,hs⟩
 refine wpAnyS_take ho c1 (all_calm c2) (fun _ _ _=>noP_panic) (fun _ _=>noP_out) (fun m hm o hmo=>?_) fuel listed a w (Region.free_spec ho c3) (by simpa using c4) (by simpa using c6) (.inl ⟨WantT.wanted ha hg,fun w' hw'=>?_⟩) hSS (k _ _ (ha.put hn v) hs)
 ·have:=List.all_eq_true.1 c5 m hm
  rw [hmo] at this
  obtain ⟨e,he,hx⟩:=Array.any_eq_true_iff_exists_mem'.1 this
  simp only [Bool.and_eq_true,beq_iff_eq] at hx
  exact ⟨e,he,hx.1,hx.2⟩
 ·rw [ha.eval]; exact q.exec hw'
theorem JX.effB {o:Oper} (ho:ops[i]?=some o) (hM:M.contains i=false) (hg:WantT ops ρ o.guard)
  (k:JL C ops (fun e ds' ρ' h' L'=>e=.normal∧Ext h h'∧Sub Ls L'∧JD C ops Q (SS C h' Ls) M fuel (listed.setIfInBounds i true) ds' ρ' h' L') [{ o with guard:=none }] ds ρ h L) :
  JX C ops Q (SS C h Ls) M fuel listed ds ρ h L i:=fun a w ha hs=>
 wpOp_of_JL ho hg k ha hs fun a w ds' ρ' h' L' x y ⟨e,sub,kd⟩=>by
  have hmono:∀ w,SS C h' Ls w→SS C h Ls w:=fun w ⟨h2,L2,e2,s2,st⟩=>⟨h2,L2,⟨fun b o hb=>e2.le b o (e.le b o hb)⟩,s2,st⟩
  exact ⟨fun hm=>absurd (by simpa using hm) (by simpa using hM),fun _=>⟨hmono _ ⟨h',L',Ext.refl h',sub.m,y⟩,(kd a w x y).mono _ hmono⟩⟩
end takes
theorem J.joinK {α:Type} {x:Code} {K:List Deferred→Env→Heap→Own→Prop} (I:α→Heap→Own→Prop) (kv:List (Nat×Value)) (hk:Has ρ kv) (sl:α→List (Nat×Value))
  (hx:J C x (thenQ (fun ds' ρ' h' L'=>∃ z,ds'=ds∧Has ρ' kv∧Has ρ' (sl z)∧I z h' L'∧Ext h h') Q) ds ρ h L)
  (hy:∀ z σ h' L',Step h h'→I z h' L'→K ds (setAll (setAll σ kv) (sl z)) h' L'):J C x (thenQ K Q) ds ρ h L:=by
 refine hx.mono fun e ds' ρ' h' L' q=>?_
 cases e with
 | normal=>
  obtain ⟨z,rfl,k1,k2,k3,k4⟩:=q
  have:=hy z ρ' h' L' k4.toStep k3
  rwa [setAll_self _ _ k1,setAll_self _ _ k2] at this
 | _=>exact q
theorem ret_okS {fn:Func} {rs:List ResultVar} {vs:List Value} {h0:Heap} {L2:Own} {R:Value→Heap→Own→Prop} {e:Exit} (hr:fn.results=⟨rs⟩) [hx:Ext h0 h] (r:ResV C.P ρ L rs vs) (sp:Sp L2 L) (hR:R (pack vs) h L2) (he:e=.normal∨e=.ret:=by first | exact Or.inr rfl | exact Or.inl rfl) :
  retQL C fn h0 R e [] ρ h L:=⟨⟨he,rfl,hx,_,RetR.of hr r,L2,sp.p,hR⟩⟩
theorem JL.fact (P:Heap→Prop) (hp:P h) (k:P h→JL C ops Q rest ds ρ h L):JL C ops Q rest ds ρ h L:=k hp
theorem muL {i n:Nat} (h:i<n):n-(i+1)<n-i:=by omega
theorem muN {i n:Int} (h:i<n):(n-(i+1)).toNat<(n-i).toNat:=by omega
end Go.Z
end
section
namespace Go.Z
open Go Go.RowKit
variable {C:Cfg} {Q Q':Post} {ds:List Deferred} {ρ:Env} {h h1 h2:Heap} {L L' Ls Lb:Own} {ops:Array Oper} {rest:List Oper}
variable {d:Nat} {ty:TypeId} {pos:String} {after:Array Edge} {S:World→Prop}
class Mp (P:Program) (T:TypeId) (K E:outParam TypeId):Prop where
 u:P.underlying T=some (.map K E)
 k:P.underlying K=some (.int .i64)
variable {α:Type} {VR:Heap→Value→α→Prop} {m:List (Int×α)} {a z0:α} {k:Int}
def EntsR (VR:Heap→Value→α→Prop) (h:Heap):List MapEntry→List (Int×α)→Prop
 | [],[]=>True
 | e::es,(k,a)::m=>e.key=.int .i64 k∧VR h e.val a∧EntsR VR h es m
 | _,_=>False
def Born (es:List MapEntry) (clk:Nat):Prop:=(es.map (·.born)).Nodup∧∀ e∈es,e.born<clk
def MapR (VR:Heap→Value→α→Prop) (h:Heap) (o:Obj) (m:List (Int×α)):Prop:=∃ es clk,o=.map ⟨es⟩ clk∧EntsR VR h es m∧Born es clk
class MoV (VR:Heap→Value→α→Prop):Prop where m:∀ {h h':Heap} {v:Value} {a:α},Ext h h'→VR h v a→VR h' v a
theorem EntsR.mono [mo:MoV VR] (e:Ext h1 h):∀ {es:List MapEntry} {m:List (Int×α)},EntsR VR h1 es m→EntsR VR h es m
 | [],[],_=>trivial
 | _::_,(_,_)::_,⟨h1,h2,h3⟩=>⟨h1,mo.m e h2,EntsR.mono e h3⟩
 | [],_::_,w=>w.elim
 | _::_,[],w=>w.elim
theorem MapR.mono [mo:MoV VR] {o:Obj} (w:MapR VR h1 o m) [e:Ext h1 h]:MapR VR h o m:=let ⟨es,c,a,b,d⟩:=w; ⟨es,c,a,b.mono e,d⟩
theorem findNow_ents (x:Int):∀ {es:List MapEntry} {m:List (Int×α)} (i:Nat),EntsR VR h es m →
  (mfind m x=none∧Instr.findNow (.int .i64) (.int .i64 x) es i=some none)∨∃ j v a,mfind m x=some a∧Instr.findNow (.int .i64) (.int .i64 x) es i=some (some (i+j,v))∧VR h v a∧es[j]?.map (·.val)=some v
 | [],[],i,_=>.inl ⟨rfl,rfl⟩
 | e::es,(k,a)::m,i,⟨h1,h2,h3⟩=>by
  simp only [Instr.findNow,mfind,h1,Instr.sameNow,if_true]
  by_cases hk:x=k
  ·subst hk
   exact .inr ⟨0,e.val,a,by simp,by simp,h2,by simp⟩
  ·have hb:(x == k)=false:=by simpa using hk
   rcases findNow_ents x (i+1) h3 with ⟨g1,g2⟩ | ⟨j,v,a',g1,g2,g3,g4⟩
   ·exact .inl ⟨by simp [hk,g1],by simp [hb,g2]⟩
   ·exact .inr ⟨j+1,v,a',by simp [hk,g1],by simp [hb,g2]; omega,g3,by simpa using g4⟩
 | [],_::_,_,w=>w.elim
 | _::_,[],_,w=>w.elim
def LookM (o:Obj) (x:Int) (z v:Value) (ok:Bool):Prop:=∃ es clk,o=.map ⟨es⟩ clk∧((Instr.findNow (.int .i64) (.int .i64 x) es 0=some none∧v=z∧ok=false)∨∃ i,Instr.findNow (.int .i64) (.int .i64 x) es 0=some (some (i,v))∧ok=true)
theorem MapR.look {o:Obj} {z:Value} (w:MapR VR h o m) (x:Int) (hz:VR h z z0):∃ v,VR h v (mget m x z0)∧LookM o x z v (mhas m x):=by
 obtain ⟨es,clk,rfl,he,_⟩:=w
 rcases findNow_ents x 0 he with ⟨g1,g2⟩ | ⟨j,v,a,g1,g2,g3,_⟩
 ·exact ⟨z,by simpa [mget,g1] using hz,es,clk,rfl,.inl ⟨g2,rfl,by simp [mhas,g1]⟩⟩
 ·exact ⟨v,by simpa [mget,g1] using g3,es,clk,rfl,.inr ⟨_,g2,by simp [mhas,g1]⟩⟩
theorem run_checkKey {P:Program} {K:TypeId} {w:World} {b:Bool} {x:Int} {n:Nat} (hk:P.underlying K=some (.int .i64)):(Instr.checkKey b (n+1) K (.int .i64 x)).run P w=.ok () w:=by
 simp only [Instr.checkKey,bind]
 rw [Sem.run_bind',und_run hk]
 rfl
theorem run_findKey {P:Program} {K:TypeId} {w:World} {x:Int} {es:List MapEntry} {r:Option (Nat×Value)} (hk:P.underlying K=some (.int .i64)) (hf:Instr.findNow (.int .i64) (.int .i64 x) es 0=some r):(Instr.findKey K (.int .i64 x) es).run P w=.ok r w:=by
 simp only [Instr.findKey,bind]
 rw [Sem.run_bind',und_run hk]
 simp only [Result.andThen,hf]
 rfl
theorem run_getObj {P:Program} {w:World} {b:Nat} {es:Array MapEntry} {clk:Nat} (hb:w.heap[b]?=some (.map es clk)):(getObj b).run P w=.ok (.map es clk) w:=by
 simp [getObj,Sem.run,hb]
theorem run_setObj {P:Program} {w:World} {b:Nat} {o:Obj} {es:Array MapEntry} {clk:Nat} (hb:w.heap[b]?=some (.map es clk)):(setObj b o).run P w=.ok () (w.putObj b o):=by
 simp [setObj,Sem.run,hb,World.putObj]
theorem run_lookup {P:Program} {T K E:TypeId} [mp:Mp P T K E] {w:World} {b:Nat} {o:Obj} {x:Int} {z v:Value} {ok cok:Bool} (hb:w.heap[b]?=some o) (hz:(zeroValue E).run P w=.ok z w) (hl:LookM o x z v ok) :
  (Instr.lookup T (.map (some b)) (.int .i64 x) cok).run P w=.ok (if cok then .tuple ⟨[v,.bool ok]⟩ else v) w:=by
 obtain ⟨es,clk,rfl,hf⟩:=hl
 simp only [Instr.lookup,bind]
 rw [Sem.run_bind',und_run mp.u]
 simp only [Result.andThen]
 rw [Sem.run_bind',run_getObj hb]
 simp only [Result.andThen]
 rw [Sem.run_bind',show (Pure.pure (⟨es⟩:Array MapEntry):Sem (Array MapEntry)).run P w=.ok ⟨es⟩ w from rfl]
 simp only [Result.andThen]
 rw [Sem.run_bind',run_checkKey (n:=9999) mp.k]
 simp only [Result.andThen]
 rw [Sem.run_bind']
 rcases hf with ⟨g,rfl,rfl⟩ | ⟨i,g,rfl⟩
 ·rw [run_findKey mp.k g]
  simp only [Result.andThen]
  rw [Sem.run_bind',hz]
  cases cok<;>rfl
 ·rw [run_findKey mp.k g]
  cases cok<;>rfl
theorem ents_snoc {e:MapEntry} {v:Value}:∀ {es:List MapEntry} {m:List (Int×α)},EntsR VR h es m→e.key=.int .i64 k→VR h e.val a→EntsR VR h (es++[e]) (m++[(k,a)])
 | [],[],_,h1,h2=>⟨h1,h2,trivial⟩
 | _::_,(_,_)::_,⟨g1,g2,g3⟩,h1,h2=>⟨g1,g2,ents_snoc (v:=v) g3 h1 h2⟩
 | [],_::_,w,_,_=>w.elim
 | _::_,[],w,_,_=>w.elim
theorem ents_put (x:Int) {v':Value} (hv:VR h v' a):∀ {es:List MapEntry} {m:List (Int×α)} (i:Nat),EntsR VR h es m →
  (Instr.findNow (.int .i64) (.int .i64 x) es i=some none∧mput m x a=m++[(x,a)]) ∨
  ∃ j v,Instr.findNow (.int .i64) (.int .i64 x) es i=some (some (i+j,v))∧es[j]?.map (·.key)=some (.int .i64 x)∧EntsR VR h (es.modify j fun e=>{ e with key:=.int .i64 x,val:=v' }) (mput m x a)
 | [],[],i,_=>.inl ⟨rfl,rfl⟩
 | e::es,(k,b)::m,i,⟨h1,h2,h3⟩=>by
  simp only [Instr.findNow,mput,h1,Instr.sameNow,if_true]
  by_cases hk:x=k
  ·subst hk
   exact .inr ⟨0,e.val,by simp,by simp [h1],by simp [EntsR,hv,h3]⟩
  ·have hb:(x == k)=false:=by simpa using hk
   rcases ents_put x hv (i+1) h3 with ⟨g1,g2⟩ | ⟨j,v,g1,g2,g3⟩
   ·exact .inl ⟨by simp [hb,g1],by simp [hk,g2]⟩
   ·exact .inr ⟨j+1,v,by simp [hb,g1]; omega,by simpa using g2,by simp only [hk,if_false,List.modify_succ_cons]; exact ⟨h1,h2,g3⟩⟩
 | [],_::_,_,w=>w.elim
 | _::_,[],_,w=>w.elim
theorem ents_del (x:Int):∀ {es:List MapEntry} {m:List (Int×α)} (i:Nat),EntsR VR h es m →
  (Instr.findNow (.int .i64) (.int .i64 x) es i=some none∧mdel m x=m) ∨
  ∃ j v,Instr.findNow (.int .i64) (.int .i64 x) es i=some (some (i+j,v))∧j<es.length∧EntsR VR h (es.eraseIdx j) (mdel m x)
 | [],[],i,_=>.inl ⟨rfl,rfl⟩
 | e::es,(k,b)::m,i,⟨h1,h2,h3⟩=>by
  simp only [Instr.findNow,mdel,h1,Instr.sameNow,if_true]
  by_cases hk:x=k
  ·subst hk
   exact .inr ⟨0,e.val,by simp,by simp,by simp [h3]⟩
  ·have hb:(x == k)=false:=by simpa using hk
   rcases ents_del x (i+1) h3 with ⟨g1,g2⟩ | ⟨j,v,g1,g2,g3⟩
   ·exact .inl ⟨by simp [hb,g1],by simp [hk,g2]⟩
   ·exact .inr ⟨j+1,v,by simp [hb,g1]; omega,by simpa using g2,by simp only [hk,if_false,List.eraseIdx_cons_succ]; exact ⟨h1,h2,g3⟩⟩
 | [],_::_,_,w=>w.elim
 | _::_,[],_,w=>w.elim
theorem ents_len:∀ {es:List MapEntry} {m:List (Int×α)},EntsR VR h es m→es.length=m.length
 | [],[],_=>rfl
 | _::_,(_,_)::_,⟨_,_,h3⟩=>by simp [ents_len h3]
 | [],_::_,w=>w.elim
 | _::_,[],w=>w.elim
theorem Born.snoc {es:List MapEntry} {clk:Nat} {e:MapEntry} (w:Born es clk) (he:e.born=clk):Born (es++[e]) (clk+1):=by
 refine ⟨?_,fun x hx=>?_⟩
 ·rw [List.map_append,List.nodup_append]
  refine ⟨w.1,by simp,fun a ha b hb=>?_⟩
  obtain ⟨x,hx,rfl⟩:=List.mem_map.1 ha
  simp at hb
  have:=w.2 x hx
  omega
 ·rcases List.mem_append.1 hx with h | h
  ·have:=w.2 x h; omega
  ·simp at h; subst h; omega
theorem born_modify {f:MapEntry→MapEntry} (hf:∀ e,(f e).born=e.born):∀ (es:List MapEntry) (j:Nat),(es.modify j f).map (·.born)=es.map (·.born)
 | [],j=>by simp
 | e::es,0=>by simp [hf]
 | e::es,j+1=>by simp [born_modify hf es j]
theorem Born.modify {es:List MapEntry} {clk j:Nat} {f:MapEntry→MapEntry} (w:Born es clk) (hf:∀ e,(f e).born=e.born):Born (es.modify j f) clk:=by
 have e:=born_modify hf es j
 refine ⟨by rw [e]; exact w.1,fun x hx=>?_⟩
 have:x.born∈(es.modify j f).map (·.born):=List.mem_map_of_mem hx
 rw [e] at this
 obtain ⟨y,hy,hyx⟩:=List.mem_map.1 this
 rw [← hyx]; exact w.2 y hy
theorem Born.erase {es:List MapEntry} {clk j:Nat} (w:Born es clk):Born (es.eraseIdx j) clk:=
 ⟨List.Sublist.nodup ((List.eraseIdx_sublist es j).map _) w.1,fun x hx=>w.2 x ((List.eraseIdx_sublist es j).subset hx)⟩
theorem run_update {P:Program} {T K E:TypeId} [mp:Mp P T K E] {w:World} {b:Nat} {o:Obj} {x:Int} {v:Value} (hb:w.heap[b]?=some o) (hm:MapR VR h o m) (hv:VR h v a) :
  ∃ o',(Instr.mapUpdate T (.map (some b)) (.int .i64 x) v).run P w=.ok () (w.putObj b o')∧MapR VR h o' (mput m x a):=by
 obtain ⟨es,clk,rfl,he,hbn⟩:=hm
 simp only [Instr.mapUpdate,bind]
 rw [Sem.run_bind',und_run mp.u]
 simp only [Result.andThen]
 rw [Sem.run_bind',run_getObj hb]
 simp only [Result.andThen]
 rw [Sem.run_bind',run_checkKey (n:=9999) mp.k]
 simp only [Result.andThen]
 rw [Sem.run_bind']
 rcases ents_put x hv 0 he with ⟨g1,g2⟩ | ⟨j,v0,g1,g2,g3⟩
 ·rw [run_findKey mp.k g1]
  simp only [Result.andThen]
  rw [run_setObj hb]
  refine ⟨_,rfl,es++[{ key:=.int .i64 x,val:=v,born:=clk }],clk+1,by simp,?_,?_⟩
  ·rw [g2]
   exact ents_snoc (v:=v) he rfl hv
  ·exact hbn.snoc rfl
 ·rw [run_findKey mp.k g1]
  simp only [Result.andThen]
  have hk:(((⟨es⟩:Array MapEntry)[0+j]?).map (·.key)).getD (.int .i64 x)=.int .i64 x:=by
   simp [g2]
  rw [hk]
  rw [show (Instr.keyThatStays (.int .i64 x) (.int .i64 x))=Pure.pure (.int .i64 x) by simp [Instr.keyThatStays,Instr.sameBits]]
  rw [Sem.run_bind',show (Pure.pure (Value.int .i64 x):Sem Value).run P w=.ok (.int .i64 x) w from rfl]
  simp only [Result.andThen]
  rw [run_setObj hb]
  refine ⟨_,rfl,es.modify j fun e=>{ e with key:=.int .i64 x,val:=v },clk,by simp,g3,hbn.modify fun _=>rfl⟩
theorem run_delete {P:Program} {T K E K':TypeId} [mp:Mp P T K E] {w:World} {b:Nat} {o:Obj} {x:Int} (hb:w.heap[b]?=some o) (hm:MapR VR h o m) :
  ∃ o',(Builtin.delete_ #[T,K'] ty #[.map (some b),.int .i64 x]).run P w=.ok (.tuple #[]) (w.putObj b o')∧MapR VR h o' (mdel m x):=by
 obtain ⟨es,clk,rfl,he,hbn⟩:=hm
 simp only [Builtin.delete_,bind]
 simp only [List.getElem?_toArray,List.getElem?_cons_zero,List.getElem?_cons_succ]
 rw [Sem.run_bind',und_run mp.u]
 simp only [Result.andThen]
 rw [Sem.run_bind',run_getObj hb]
 simp only [Result.andThen]
 rw [Sem.run_bind',run_checkKey (n:=9999) mp.k]
 simp only [Result.andThen]
 rw [Sem.run_bind']
 rcases ents_del x 0 he with ⟨g1,g2⟩ | ⟨j,v0,g1,g2,g3⟩
 ·rw [run_findKey mp.k g1]
  simp only [Result.andThen]
  rw [Sem.run_bind',run_setObj hb]
  exact ⟨_,rfl,es,clk,rfl,by rw [g2]; exact he,hbn⟩
 ·rw [run_findKey mp.k g1]
  simp only [Result.andThen]
  rw [Sem.run_bind',run_setObj hb]
  exact ⟨_,rfl,es.eraseIdx j,clk,by simp [Array.eraseIdxIfInBounds,g2],g3,hbn.erase⟩
end Go.Z
end
section
namespace Go.Z
open Go Go.RowKit
variable {C:Cfg} {Q Q':Post} {ds:List Deferred} {ρ:Env} {h h1 h2:Heap} {L L' Ls Lb:Own} {ops:Array Oper} {rest:List Oper}
variable {d:Nat} {ty:TypeId} {pos:String} {after:Array Edge} {S:World→Prop}
variable {α:Type} {VR:Heap→Value→α→Prop} {m:List (Int×α)} {a z0:α} {k:Int}
class Ar (P:Program) (T:TypeId) (n e:outParam Nat):Prop where u:P.underlying T=some (.array n e)
theorem q_jan {x y:Operand} {T e sz n b o i:Nat} {q:IntKind} {j:Int} [ha:Ar C.P T n e] [hs:Sz C.P e sz] (hx:ρ.ev x=.pointer (some ⟨b,o,none⟩)) (hy:ρ.ev y=.int q j) (hj:j=(i:Int)) (hi:i<n):Qr C ρ S (.indexAddr T x y) ty (.pointer (some ⟨b,o+i*sz,none⟩)):=by
 subst hj
 have:=q_ja (S:=S) (ty:=ty) (C:=C) (T:=T) (e:=e) (sz:=sz) ha.u hx hy (by omega)
 rwa [Int.toNat_natCast] at this
theorem arr_get {k:IntKind} {l:List Int} {n:Nat} {y:Int} (h:l[n]?=some y):(l.map (Value.int k))[0+n*1]?=some (.int k y):=by
 rw [Nat.zero_add,Nat.mul_one,List.getElem?_map,h]; rfl
class Zw (P:Program) (T:TypeId) (v:outParam Value):Prop where i:∃ i,P.info? T=some i∧i.zero=some v
theorem zw_of {P:Program} {T:Nat} {v:Value} (h:(P.info? T).bind (·.zero)=some v):Zw P T v:=⟨by
 cases e:P.info? T with
 | none=>rw [e] at h; cases h
 | some i=>rw [e] at h; exact ⟨i,rfl,h⟩⟩
theorem zw_run {P:Program} {T:TypeId} {v:Value} [z:Zw P T v] (w:World):(zeroValue T).run P w=.ok v w:=by
 obtain ⟨i,h1,h2⟩:=z.i
 simp [zeroValue,typeInfo,program,h1,h2,Sem.run_bind,Result.andThen,Sem.run,Pure.pure]
theorem JL.valN {o:Oper} (hg:o.guard=none) (hc:calm o.op=true) (hd:o.dst=none)
  (run:∀ w,St C.w0 C.h0 h L w→∃ v h' L' w',(execOp ρ.ev o).run C.P w=.ok (.value v) w'∧St C.w0 C.h0 h' L' w'∧JL C ops Q rest ds ρ h' L') :
  JL C ops Q (o::rest) ds ρ h L:=JL.step hg hc fun a w ha hs=>by
 obtain ⟨v,h',L',w',hr,hs',hk⟩:=run w hs
 rw [hr,Oper.uponIn_value,hd]
 exact hk _ _ (ha.putNone v) hs'
def MapF (VR:Heap→Value→α→Prop) (h:Heap) (v:Value) (m:List (Int×α)):Prop:=(v=.map none∧m=[])∨∃ b o,v=.map (some b)∧h b=some o∧MapR VR h o m
theorem MapF.mono [mo:MoV VR] {v:Value} (w:MapF VR h1 v m) [e:Ext h1 h]:MapF VR h v m:=by
 rcases w with w | ⟨b,o,g1,g2,g3⟩
 ·exact .inl w
 ·exact .inr ⟨b,o,g1,e.le _ _ g2,g3.mono⟩
theorem MapF.nil:MapF VR h (.map none) []:=.inl ⟨rfl,rfl⟩
theorem MapF.op {v:Value} (w:MapF VR h v m):∃ q:Option Nat,v=.map q∧MapF VR h (.map q) m:=by
 rcases w with ⟨rfl,rfl⟩ | ⟨b,o,rfl,g2,g3⟩
 ·exact ⟨none,rfl,.inl ⟨rfl,rfl⟩⟩
 ·exact ⟨some b,rfl,.inr ⟨b,o,rfl,g2,g3⟩⟩
def LookF (h:Heap) (q:Option Nat) (x:Int) (z v:Value) (ok:Bool):Prop:=(q=none∧v=z∧ok=false)∨∃ b o,q=some b∧h b=some o∧LookM o x z v ok
theorem MapF.look {q:Option Nat} {z:Value} (w:MapF VR h (.map q) m) (x:Int) (hz:VR h z z0):∃ v,VR h v (mget m x z0)∧LookF h q x z v (mhas m x):=by
 rcases w with ⟨e,rfl⟩ | ⟨b,o,e,g2,g3⟩
 ·cases e; exact ⟨z,by simpa [mget,mfind] using hz,.inl ⟨rfl,rfl,rfl⟩⟩
 ·cases e
  obtain ⟨v,h1,h2⟩:=g3.look x hz
  exact ⟨v,h1,.inr ⟨b,o,rfl,g2,h2⟩⟩
section
variable {x y z:Operand} {T K E:TypeId} {b:Nat} {o:Obj} {f:Obj→Own} {v zv:Value} {ok cok:Bool}
theorem q_look [mp:Mp C.P T K E] [hz:Zw C.P E zv] (hx:ρ.ev x=.map (some b)) (hy:ρ.ev y=.int .i64 k) (A:At L b o f) (hl:LookM o k zv v ok):Qr C ρ (SS C h L) (.lookup T x y false) ty v:=⟨rfl,fun w hs=>by
 have:=run_lookup (P:=C.P) (T:=T) (E:=E) (cok:=false) (A.heapS hs) (zw_run w) hl
 simp only [execOp,hx,hy]
 exact run_v this⟩
theorem run_lookF {P:Program} {T K E:TypeId} [mp:Mp P T K E] {w:World} {q:Option Nat} {x:Int} {z v:Value} {ok cok:Bool} (hh:∀ b o,h b=some o→w.heap[b]?=some o) (hz:(zeroValue E).run P w=.ok z w) (hl:LookF h q x z v ok) :
  (Instr.lookup T (.map q) (.int .i64 x) cok).run P w=.ok (if cok then .tuple ⟨[v,.bool ok]⟩ else v) w:=by
 rcases hl with ⟨rfl,rfl,rfl⟩ | ⟨b,o,rfl,g2,g3⟩
 ·simp only [Instr.lookup,bind]
  rw [Sem.run_bind',und_run mp.u]
  simp only [Result.andThen]
  rw [Sem.run_bind',show (Pure.pure (#[]:Array MapEntry):Sem (Array MapEntry)).run P w=.ok #[] w from rfl]
  simp only [Result.andThen]
  rw [Sem.run_bind',run_checkKey (n:=9999) mp.k]
  simp only [Result.andThen]
  rw [Sem.run_bind']
  rw [run_findKey (r:=none) mp.k rfl]
  simp only [Result.andThen]
  rw [Sem.run_bind',hz]
  cases cok<;>rfl
 ·exact run_lookup (hh _ _ g2) hz g3
theorem ss_heap {h1:Heap} [e:Ext h1 h] {w:World} (s:SS C h L w):∀ b o,h1 b=some o→w.heap[b]?=some o:=fun b o hb=>by
 obtain ⟨h',L',he,_,hs⟩:=s
 exact hs.fro _ _ (he.le _ _ (e.le _ _ hb))
theorem q_lookF [mp:Mp C.P T K E] [hz:Zw C.P E zv] [e:Ext h1 h] {q:Option Nat} (hx:ρ.ev x=.map q) (hy:ρ.ev y=.int .i64 k) (hl:LookF h1 q k zv v ok):Qr C ρ (SS C h L) (.lookup T x y false) ty v:=⟨rfl,fun w hs=>by
 have:=run_lookF (E:=E) (P:=C.P) (T:=T) (cok:=false) (w:=w) (ss_heap hs) (zw_run w) hl
 simp only [execOp,hx,hy]
 exact run_v this⟩
theorem q_lookFOk [mp:Mp C.P T K E] [hz:Zw C.P E zv] [e:Ext h1 h] {q:Option Nat} (hx:ρ.ev x=.map q) (hy:ρ.ev y=.int .i64 k) (hl:LookF h1 q k zv v ok):Qr C ρ (SS C h L) (.lookup T x y true) ty (.tuple ⟨[v,.bool ok]⟩):=⟨rfl,fun w hs=>by
 have:=run_lookF (E:=E) (P:=C.P) (T:=T) (cok:=true) (w:=w) (ss_heap hs) (zw_run w) hl
 simp only [execOp,hx,hy]
 exact run_v this⟩
theorem MapR.nil:MapR VR h (.map #[] 0) []:=⟨[],0,rfl,trivial,by simp [Born]⟩
theorem o_mkMap (k:∀ b o,MapR VR h o []→JL C ops Q rest ds (ρ.set d (.map (some b))) h ((b,o)::L)) (hn:Nat.blt d C.n=true:=by rfl) :
  JL C ops Q (⟨some d,.makeMap T none,ty,pos,after,none⟩::rest) ds ρ h L:=
 JL.val rfl rfl rfl hn fun w hs=>⟨_,h,_,w.alloc (.map #[] 0),by
  simp only [execOp,Option.map_none]
  refine run_v ?_
  rfl,hs.alloc _,k _ _ MapR.nil⟩
theorem o_mapPut [mp:Mp C.P T K E] (hx:ρ.ev x=.map (some b)) (hy:ρ.ev y=.int .i64 k) (hz:ρ.ev z=v) (A:At L b o f) (hm:MapR VR h o m) (hv:VR h v a)
  (kk:∀ o',MapR VR h o' (mput m k a)→JL C ops Q rest ds ρ h (f o')):JL C ops Q (⟨none,.mapUpdate T x y z,ty,pos,after,none⟩::rest) ds ρ h L:=
 JL.unit rfl rfl rfl fun w hs=>by
  obtain ⟨o',g1,g2⟩:=run_update (P:=C.P) (T:=T) (A.heap hs) hm hv
  refine ⟨h,_,_,?_,A.put hs,kk o' g2⟩
  simp only [execOp,hx,hy,hz]
  exact run_u g1
theorem o_mapIns [mp:Mp C.P T K E] (hx:ρ.ev x=.map (some b)) (hy:ρ.ev y=.int .i64 k) (hz:ρ.ev z=v) (A:At L b o f) (hm:MapR VR h o m) (hv:VR h v a)
  (kk:∀ o',MapR VR h o' (mput m k a)→JL C ops Q rest ds ρ h (f o')):JL C ops Q (⟨none,.insert T x y z,ty,pos,after,none⟩::rest) ds ρ h L:=
 JL.unit rfl rfl rfl fun w hs=>by
  obtain ⟨o',g1,g2⟩:=run_update (P:=C.P) (T:=T) (A.heap hs) hm hv
  refine ⟨h,_,_,?_,A.put hs,kk o' g2⟩
  simp only [execOp,hx,hy,hz]
  exact run_u g1
theorem o_mapDel {K':TypeId} [mp:Mp C.P T K E] (hx:ρ.ev x=.map (some b)) (hy:ρ.ev y=.int .i64 k) (A:At L b o f) (hm:MapR VR h o m)
  (kk:∀ o',MapR VR h o' (mdel m k)→JL C ops Q rest ds ρ h (f o')):JL C ops Q (⟨none,.call { callee:=.builtin .delete,args:=#[x,y],argTypes:=#[T,K'] },ty,pos,after,none⟩::rest) ds ρ h L:=
 JL.valN rfl rfl rfl fun w hs=>by
  obtain ⟨o',g1,g2⟩:=run_delete (P:=C.P) (T:=T) (K':=K') (ty:=ty) (A.heap hs) hm
  refine ⟨.tuple #[],h,_,_,?_,A.put hs,kk o' g2⟩
  have hm2:(#[x,y]:Array Operand).map ρ.ev=#[.map (some b),.int .i64 k]:=by simp [hx,hy]
  simp only [execOp,resolve,hm2]
  exact run_v g1
end
theorem JL.fzM (b:Nat) {o:Obj} (w:MapR VR h o m) [mo:MoV VR] [r:Rem L [(b,o)] L'] (k:∀ h',Step h h'→MapF VR h' (.map (some b)) m→JL C ops Q rest ds ρ h' L'):JL C ops Q rest ds ρ h L:=
 JL.fzB b fun h' st hb=>k h' st (.inr ⟨b,o,rfl,hb,w.mono⟩)
theorem J.fzM {c:Code} (b:Nat) {o:Obj} (w:MapR VR h o m) [mo:MoV VR] [r:Rem L [(b,o)] L'] (k:∀ h',Step h h'→MapF VR h' (.map (some b)) m→J C c Q ds ρ h' L'):J C c Q ds ρ h L:=
 J.fzB b fun h' st hb=>k h' st (.inr ⟨b,o,rfl,hb,w.mono⟩)
theorem CellN.row {b:Nat} {l:List Value} {T:TypeId} {fr:Nat×Nat} (hb:h b=some (.cells ⟨l⟩ T fr)):CellN h b 0 l:=⟨l,T,fr,hb,LookN.all l⟩
def BoxF (R:Heap→List Value→α→Prop) (h:Heap) (b:Nat) (x:α):Prop:=∃ cs,CellN h b 0 cs∧R h cs x
def VI (k:IntKind) (h:Heap) (v:Value) (x:Int):Prop:=v=.int k x
def VB (h:Heap) (v:Value) (x:Bool):Prop:=v=.bool x
instance {k:IntKind}:MoV (VI k):=⟨fun _ a=>a⟩
instance:MoV VB:=⟨fun _ a=>a⟩
instance:MoV IntAt:=⟨fun e a=>a.mono (e:=e)⟩
instance {R:Heap→List Value→α→Prop} {sz:Nat} [mo:Mo R]:MoV (Sls R sz):=⟨fun e a=>a.mono (e:=e)⟩
section
variable {x y:Operand} {q:IntKind} {a b:Int}
theorem q_max {T T':TypeId} (hx:ρ.ev x=.int q a) (hy:ρ.ev y=.int q b):Qr C ρ S (.call { callee:=.builtin .max,args:=#[x,y],argTypes:=#[T,T'] }) ty (.int q (max a b)):=⟨rfl,fun w _=>by
 have hm2:(#[x,y]:Array Operand).map ρ.ev=#[.int q a,.int q b]:=by simp [hx,hy]
 simp only [execOp,resolve,hm2]
 refine run_v ?_
 have e:(if b > a then b else a)=max a b:=by split<;>omega
 rw [← e]
 rfl⟩
end
end Go.Z
end
section
namespace Go.Z
open Go Go.RowKit
variable {C:Cfg} {Q Q':Post} {ds:List Deferred} {ρ:Env} {h h1 h2:Heap} {L L' Ls Lb M:Own} {ops:Array Oper} {rest:List Oper}
variable {d:Nat} {ty:TypeId} {pos:String} {after:Array Edge} {S:World→Prop}
structure RowD where
 p:Option Addr
 n:Nat
 c:Nat
 Lb:Own
def RowD.v (d:RowD):Value:=.slice d.p d.n d.c
section
variable {α:Type} {R:Heap→List Value→α→Prop} {T:TypeId} {sz i k c n:Nat} {hs:List Value} {rows:List (List α)} {r:List α} {a:α} {pr:Option Addr} {nr cr:Nat}
def OwnLL (R:Heap→List Value→α→Prop) (T:TypeId) (sz:Nat) (h:Heap) (hs:List Value) (c:Nat) (rows:List (List α)) (M:Own):Prop:=
 ∃ D:List RowD,rows.length≤c∧hs.length=c∧D.length=rows.length∧M.Perm (D.flatMap (·.Lb))∧(∀ (i:Nat) (d:RowD),D[i]?=some d→hs[i]?=some d.v)∧∀ (i:Nat) (d:RowD) (r:List α),D[i]?=some d→rows[i]?=some r→OwnL R T sz h d.v r d.Lb
theorem OwnLL.mono [Mo R] (w:OwnLL R T sz h1 hs c rows M) [e:Ext h1 h]:OwnLL R T sz h hs c rows M:=
 let ⟨D,a1,a2,a3,a4,a5,a6⟩:=w; ⟨D,a1,a2,a3,a4,a5,fun i d r h1 h2=>(a6 i d r h1 h2).mono⟩
theorem OwnLL.hdr (w:OwnLL R T sz h hs c rows M) (hr:rows[i]?=some r):∃ pr nr cr,hs[i]?=some (.slice pr nr cr)∧nr=r.length:=by
 obtain ⟨D,a1,a2,a3,a4,a5,a6⟩:=w
 have hi:i<D.length:=by rw [a3]; exact (List.getElem?_eq_some_iff.1 hr).1
 obtain ⟨d,hd⟩:=lt_get hi
 exact ⟨_,_,_,a5 i d hd,(a6 i d r hd hr).len⟩
theorem flatMap_split {D:List RowD} {d:RowD} (hd:D[i]?=some d) (d':RowD):D.flatMap (·.Lb)=(D.take i).flatMap (·.Lb)++(d.Lb++(D.drop (i+1)).flatMap (·.Lb))∧(D.set i d').flatMap (·.Lb)=(D.take i).flatMap (·.Lb)++(d'.Lb++(D.drop (i+1)).flatMap (·.Lb)):=by
 have hi:i<D.length:=(List.getElem?_eq_some_iff.1 hd).1
 have e:D=D.take i++(d::D.drop (i+1)):=by
  have:=(List.getElem?_eq_some_iff.1 hd).2
  have e2:=List.drop_eq_getElem_cons hi
  rw [this] at e2
  rw [← e2,List.take_append_drop]
 constructor
 ·conv=>lhs; rw [e]
  simp
 ·rw [List.set_eq_take_append_cons_drop,if_pos hi]; simp
theorem OwnLL.cell (w:OwnLL R T sz h hs c rows M) (hr:rows[i]?=some r) (hh:hs[i]?=some (.slice pr nr cr)) (hk:r[k]?=some a) :
  ∃ (b:Nat) (cs us:List Value) (f:Obj→Own),pr=some ⟨b,0,none⟩∧At M b (row T cs) f∧OwnC R sz h cs r cr∧LookN cs (0+k*sz) us∧R h us a∧us.length=sz ∧
   ∀ (h':Heap) (cs':List Value) (r':List α),Ext h h'→OwnC R sz h' cs' r' cr→r'.length=r.length→(∀ {h h':Heap} {cs:List Value} {a:α},Ext h h'→R h cs a→R h' cs a)→OwnLL R T sz h' hs c (rows.set i r') (f (row T cs')):=by
 obtain ⟨D,a1,a2,a3,a4,a5,a6⟩:=w
 have hi:i<D.length:=by rw [a3]; exact (List.getElem?_eq_some_iff.1 hr).1
 obtain ⟨d,hd⟩:=lt_get hi
 have hv:=a5 i d hd
 rw [hh] at hv
 have hdv:Value.slice pr nr cr=d.v:=by simpa using hv
 obtain ⟨dp,dn,dc,dL⟩:=d
 simp only [RowD.v,Value.slice.injEq] at hdv
 obtain ⟨rfl,rfl,rfl⟩:=hdv
 have hrow:=a6 i _ r hd hr
 have hkl:k<r.length:=(List.getElem?_eq_some_iff.1 hk).1
 obtain ⟨b,cs,rfl,rfl,hn,oc⟩:=OwnL.blk hrow hkl
 obtain ⟨us,hl,hR,hus⟩:=oc.get hk
 have hs1:D.flatMap (·.Lb)=(D.take i).flatMap (·.Lb)++((b,row T cs)::(D.drop (i+1)).flatMap (·.Lb)):=(flatMap_split hd ⟨none,0,0,[]⟩).1
 have hmem:(b,row T cs)∈M:=a4.mem_iff.2 (by rw [hs1]; simp)
 obtain ⟨M1,M2,hM⟩:=List.append_of_mem hmem
 refine ⟨b,cs,us,fun o'=>M1++(b,o')::M2,rfl,⟨M1,M2,hM,fun _=>rfl⟩,oc,hl,hR,hus,fun h' cs' r' e oc' hl' mo=>?_⟩
 refine ⟨D.set i ⟨some ⟨b,0,none⟩,nr,cr,[(b,row T cs')]⟩,by rw [List.length_set]; exact a1,a2,by rw [List.length_set,List.length_set]; exact a3,?_,fun j dj hj=>?_,fun j dj rj hj hrj=>?_⟩
 ·rw [(flatMap_split hd ⟨some ⟨b,0,none⟩,nr,cr,[(b,row T cs')]⟩).2]
  rw [hM,hs1] at a4
  have p1:(M1++M2).Perm ((D.take i).flatMap (·.Lb)++(D.drop (i+1)).flatMap (·.Lb)):=
   (List.perm_cons _).1 (List.perm_middle.symm.trans (a4.trans List.perm_middle))
  exact List.perm_middle.trans ((List.Perm.cons _ p1).trans List.perm_middle.symm)
 ·by_cases hij:i=j
  ·subst hij; rw [List.getElem?_set_self hi] at hj; cases hj; exact hh
  ·rw [List.getElem?_set_ne hij] at hj; exact a5 j dj hj
 ·by_cases hij:i=j
  ·subst hij
   have hi':i<rows.length:=(List.getElem?_eq_some_iff.1 hr).1
   rw [List.getElem?_set_self hi] at hj
   rw [List.getElem?_set_self hi'] at hrj
   cases hj; cases hrj
   exact oc'.own (by rw [hn,hl'])
  ·rw [List.getElem?_set_ne hij] at hj hrj
   have:Mo R:=⟨fun e x=>mo e x⟩
   exact (a6 j dj rj hj hrj).mono
theorem flat_one (v:Value):∀ n:Nat,(List.replicate n [v]).flatten=List.replicate n v
 | 0=>rfl
 | n+1=>by rw [List.replicate_succ,List.flatten_cons,flat_one v n]; rfl
theorem OwnLL.mkN (h:Heap) (T:TypeId) (n:Nat):OwnLL R T sz h (List.replicate n [Value.slice none 0 0]).flatten n (List.replicate n []) []:=by
 refine ⟨List.replicate n ⟨none,0,0,[]⟩,by simp,by simp,by simp,?_,fun i d hd=>?_,fun i d r hd hr=>?_⟩
 ·have:(List.replicate n (⟨none,0,0,[]⟩:RowD)).flatMap (·.Lb)=[]:=by
   induction n with
   | zero=>rfl
   | succ n ih=>rw [List.replicate_succ,List.flatMap_cons,ih]; rfl
  rw [this]
 ·rw [List.getElem?_replicate] at hd
  split at hd
  ·cases hd
   rw [flat_one,List.getElem?_replicate,if_pos ‹_›]; rfl
  ·cases hd
 ·rw [List.getElem?_replicate] at hd hr
  split at hd
  ·cases hd
   rw [if_pos ‹_›] at hr
   cases hr
   exact OwnL.nil h
  ·cases hd
end
end Go.Z
end
section
namespace Go.Z
open Go Go.RowKit
variable {C:Cfg} {Q Q':Post} {ds:List Deferred} {ρ:Env} {h h1 h2:Heap} {L L' Ls Lb M:Own} {ops:Array Oper} {rest:List Oper}
variable {d:Nat} {ty:TypeId} {pos:String} {after:Array Edge} {S:World→Prop}
instance (priority:=500) Sp.last {L L' Lb:Own} [r:Rem L Lb L']:Sp Lb L:=⟨L',r.p⟩
instance (priority:=900) Rem.appl {L M Lb M':Own} [a:Rem M Lb M']:Rem (M++L) Lb (M'++L):=⟨by
 rw [← List.append_assoc]; exact List.Perm.append_right _ a.p⟩
instance (priority:=400) Rem.comp {L L1 L2 A B:Own} [a:Rem L A L1] [b:Rem L1 B L2]:Rem L (A++B) L2:=⟨by
 rw [List.append_assoc]; exact a.p.trans (List.Perm.append_left A b.p)⟩
theorem setL_len {α:Type} {i:Int} {l:List α} {a:α}:(setL l i a).length=l.length:=by unfold setL; rw [List.length_set]
theorem hdr_at {hs:List Value} {i:Nat} {v:Value} (h:hs[i]?=some v):hs[0+i*1]?=some v:=by rw [Nat.zero_add,Nat.mul_one]; exact h
section
variable {α:Type} {R:Heap→List Value→α→Prop} {T T0 e:TypeId} {sz i k c n:Nat} {hs:List Value} {rows:List (List α)} {r:List α} {a:α} {pr:Option Addr} {nr cr:Nat} {x y:Operand} {v:Value}
theorem o_stH {T1:TypeId} {f:Obj→Own} {b:Nat} [hs1:Sz C.P T1 1] (hx:ρ.ev x=.pointer (some ⟨b,0+i*1,none⟩)) (hy:ρ.ev y=.slice pr nr cr) (A:At L b (row T0 hs) f) (hi:i<hs.length)
  (k:JL C ops Q rest ds ρ h (f (row T0 (hs.set i (.slice pr nr cr))))):JL C ops Q (⟨none,.store T1 x y,ty,pos,after,none⟩::rest) ds ρ h L:=by
 refine o_st1 hx hy rfl A (by omega) ?_
 rw [Nat.zero_add,Nat.mul_one]; exact k
theorem OwnLL.hlen (w:OwnLL R T sz h hs c rows M) (hr:rows[i]?=some r):i<hs.length:=by
 obtain ⟨D,a1,a2,_⟩:=w
 have:=(List.getElem?_eq_some_iff.1 hr).1
 omega
theorem o_stLL0 {f:Obj→Own} {ps us us1 cs:List Value} {l2:List α} {b:Nat} (hs:∃ i,C.P.info? T=some i∧i.size=ps.length) (hx:ρ.ev x=.pointer (some ⟨b,0+k*sz,none⟩)) (hy:ρ.ev y=v) (hv:v.cells=⟨ps⟩) (hpl:ps.all plain=true)
  (oc:OwnC R sz h cs r cr) (A:At L b (row T0 cs) f) (hk:k<r.length) (hl:LookN cs (0+k*sz) us) (hxs:us.length=sz) (hj:0+ps.length≤sz) (he:setN us 0 ps=us1) (hR:R h us1 a) (hl2:l2=r.set k a)
  (kk:∀ cs',OwnC R sz h cs' l2 cr→JL C ops Q rest ds ρ h (f (row T0 cs'))) :
  JL C ops Q (⟨none,.store T x y,ty,pos,after,none⟩::rest) ds ρ h L:=o_stO0 hs hx hy hv hpl oc A hk hl hxs hj he hR hl2 kk
theorem J.fzL {c:Code}:∀ (M:Own) {h:Heap},(∀ h',Ext h h'→(∀ p∈M,h' p.1=some p.2)→J C c Q ds ρ h' L)→J C c Q ds ρ h (M++L)
 | [],h,k=>k h (Ext.refl h) (fun p hp=>by cases hp)
 | (b,o)::M,h,k=>J.freeze fun h' st hb=>J.fzL M fun h'' e hM=>k h'' ⟨fun x y z=>e.le x y (st.le x y z)⟩ fun p hp=>by
   rcases List.mem_cons.1 hp with rfl | hp
   ·exact e.le _ _ hb
   ·exact hM p hp
theorem OwnL.frozen [Mo R] {l:List α} (w:OwnL R T sz h1 v l Lb) (e:Ext h1 h) (hM:∀ p∈Lb,h p.1=some p.2):Sls R sz h v l:=by
 obtain ⟨xs,ho,hc⟩:=w
 rcases ho.split with ⟨rfl,hs⟩ | ⟨b,ob,rfl,hs⟩
 ·exact ⟨xs,hs h,hc.mono⟩
 ·exact ⟨xs,hs h (hM (b,ob) (by simp)),hc.mono⟩
theorem J.fzLL [mo:Mo R] {cd:Code} {T2 b:Nat} (w:OwnLL R T sz h hs c rows M) (hn:n=rows.length) [r1:Rem L [(b,row T2 hs)] L'] [r2:Rem L' M Lb]
  (k:∀ h',Step h h'→Sls (LR R sz) 1 h' (.slice (some ⟨b,0,none⟩) n c) rows→J C cd Q ds ρ h' Lb):J C cd Q ds ρ h L:=by
 subst hn
 refine J.perm r1.p (J.freeze fun h1 s1 hb=>J.perm r2.p (J.fzL M fun h2 e hM=>k h2 ⟨fun x y z=>e.le x y (s1.le x y z)⟩ ?_))
 obtain ⟨D,a1,a2,a3,a4,a5,a6⟩:=w
 have hb2:=e.le _ _ hb
 have hlen:(hs.take rows.length).length=rows.length:=by rw [List.length_take]; omega
 refine ⟨hs.take rows.length,⟨_,c,rfl,a1,by rw [hlen,Nat.mul_one],.inr ⟨b,0,rfl,hs,T2,_,hb2,?_⟩⟩,by rw [hlen,Nat.mul_one],fun i r hr=>?_⟩
 ·exact LookN.of_get fun j u hj=>by
   rw [List.getElem?_take] at hj
   split at hj
   ·rw [Nat.zero_add]; exact hj
   ·cases hj
 ·have hi:i<rows.length:=(List.getElem?_eq_some_iff.1 hr).1
  obtain ⟨d,hd⟩:=lt_get (show i<D.length by omega)
  have hh:=a5 i d hd
  have hrow:=(a6 i d r hd hr).frozen (h:=h2) ⟨fun x y z=>e.le x y (s1.le x y z)⟩ (fun p hp=>hM p (a4.mem_iff.2 (List.mem_flatMap.2 ⟨d,List.mem_of_getElem? hd,hp⟩)))
  have:((hs.take rows.length).drop (i*1)).take 1=[d.v]:=by
   refine List.ext_getElem? fun j=>?_
   rw [List.getElem?_take]
   rcases Nat.eq_zero_or_pos j with rfl | hj
   ·rw [if_pos (by decide),List.getElem?_drop,List.getElem?_take,if_pos (by omega),Nat.mul_one,Nat.add_zero,hh]; rfl
   ·rw [if_neg (by omega),List.getElem?_eq_none (by simp; omega)]
  rw [this]
  exact ⟨_,_,_,rfl,hrow⟩
theorem OwnLL.snoc [mo:Mo R] {hs':List Value} {p:Option Addr} {m c' c'':Nat} {Li:Own} (w:OwnLL R T sz h hs c rows M) (hr:OwnL R T sz h (.slice p m c') r Li) (h1:rows.length+1≤c'') (h2:hs'.length=c'') (h3:∀ i,i<rows.length→hs'[i]?=hs[i]?) (h4:hs'[rows.length]?=some (.slice p m c')) :
  OwnLL R T sz h hs' c'' (rows++[r]) (Li++M):=by
 obtain ⟨D,a1,a2,a3,a4,a5,a6⟩:=w
 refine ⟨D++[⟨p,m,c',Li⟩],by simp; omega,h2,by simp [a3],?_,fun i d hd=>?_,fun i d r' hd hr'=>?_⟩
 ·rw [List.flatMap_append]
  simp only [List.flatMap_cons,List.flatMap_nil,List.append_nil]
  exact (List.Perm.append_left Li a4).trans List.perm_append_comm
 ·rcases Nat.lt_or_ge i D.length with hi | hi
  ·rw [List.getElem?_append_left hi] at hd
   rw [h3 i (by omega)]; exact a5 i d hd
  ·rw [List.getElem?_append_right hi] at hd
   have:i=D.length:=by
    rcases Nat.lt_or_ge (i-D.length) 1 with h | h
    ·omega
    ·rw [List.getElem?_eq_none (by simpa using h)] at hd; cases hd
   subst this
   simp at hd; subst hd
   rw [a3]; exact h4
 ·rcases Nat.lt_or_ge i D.length with hi | hi
  ·rw [List.getElem?_append_left hi] at hd
   rw [List.getElem?_append_left (by omega)] at hr'
   exact a6 i d r' hd hr'
  ·rw [List.getElem?_append_right hi] at hd
   have:i=D.length:=by
    rcases Nat.lt_or_ge (i-D.length) 1 with h | h
    ·omega
    ·rw [List.getElem?_eq_none (by simpa using h)] at hd; cases hd
   subst this
   simp at hd; subst hd
   rw [a3] at hr'
   simp at hr'; subst hr'
   exact hr
end
end Go.Z
end
section
namespace Go.Z
open Go Go.RowKit
variable {C:Cfg} {ρ:Env} {h:Heap} {ty:TypeId} {S:World→Prop} {T e:TypeId} {n sz:Nat}
theorem q_bda {ps:List (Nat×Operand)} {z:List Value} (cells:List Value) [ha:Ar C.P T n e] [hs:Sz C.P e sz] [hz:Zv C.P T z] (hc:fillL (fun i=>some (i*sz,sz)) z (ps.map fun p=>(p.1,ρ.ev p.2))=some cells):Qr C ρ S (.build T ⟨ps⟩) ty (.agg ⟨cells⟩):=⟨rfl,fun w _=>by
  obtain ⟨v,h3,h4⟩:=zero_run hz w
  have hu:(underlying T).run C.P w=.ok (.array n e) w:=und_run ha.u
  have hf:=fill_fillL _ _ _ _ hc
  have hm:(Array.mk ps).map (fun (p:Nat×Operand)=>(p.1,ρ.ev p.2))=⟨ps.map fun p=>(p.1,ρ.ev p.2)⟩:=by simp
  have hsz:(sizeOf e).run C.P w=.ok sz w:=run_sizeOf hs.i
  have hr:(Instr.build T ((Array.mk ps).map (fun (p:Nat×Operand)=>(p.1,ρ.ev p.2)))).run C.P w=.ok (.agg ⟨cells⟩) w:=by
   rw [hm]
   simp only [Instr.build,bind]
   rw [Sem.run_bind',h3]
   simp only [Result.andThen]
   rw [Sem.run_bind',hu]
   simp only [Result.andThen]
   rw [Sem.run_bind',hsz]
   simp only [Result.andThen,h4,hf,Sem.run,Pure.pure]
  exact run_v hr⟩
end Go.Z
end
section
namespace Go.Z
open Go Go.RowKit
variable {C:Cfg} {Q Q':Post} {ds:List Deferred} {ρ:Env} {h h1 h2:Heap} {L L' Ls Lb M:Own} {ops:Array Oper} {rest:List Oper}
variable {d:Nat} {ty:TypeId} {pos:String} {after:Array Edge} {S:World→Prop}
section
variable {α:Type} {R:Heap→List Value→α→Prop} {T T0 e:TypeId} {sz i j k c n m:Nat} {hs:List Value} {rows rows':List (List α)} {r ri rj:List α} {vi vj:Value} {x y:Operand}
theorem OwnLL.swap (w:OwnLL R T sz h hs c rows M) (hi:rows[i]?=some ri) (hj:rows[j]?=some rj) (hhi:hs[i]?=some vi) (hhj:hs[j]?=some vj) :
  OwnLL R T sz h ((hs.set i vj).set j vi) c ((rows.set i rj).set j ri) M:=by
 obtain ⟨D,a1,a2,a3,a4,a5,a6⟩:=w
 have li:i<D.length:=by rw [a3]; exact (List.getElem?_eq_some_iff.1 hi).1
 have lj:j<D.length:=by rw [a3]; exact (List.getElem?_eq_some_iff.1 hj).1
 obtain ⟨di,hdi⟩:=lt_get li
 obtain ⟨dj,hdj⟩:=lt_get lj
 have vi':vi=di.v:=by have:=a5 i di hdi; rw [hhi] at this; exact Option.some.inj this
 have vj':vj=dj.v:=by have:=a5 j dj hdj; rw [hhj] at this; exact Option.some.inj this
 have gi:D[i]=di:=by rw [List.getElem?_eq_getElem li] at hdi; exact Option.some.inj hdi
 have gj:D[j]=dj:=by rw [List.getElem?_eq_getElem lj] at hdj; exact Option.some.inj hdj
 refine ⟨(D.set i dj).set j di,by simpa using a1,by simpa using a2,by simpa using a3,a4.trans ?_,fun k d hk=>?_,fun k d r hk hr=>?_⟩
 ·have:=List.set_set_perm li lj
  rw [gi,gj] at this
  exact (this.symm).flatMap_right _
 ·rw [List.getElem?_set] at hk ⊢
  by_cases e1:j=k
  ·subst e1
   simp only [List.length_set,if_true] at hk ⊢
   rw [if_pos lj] at hk
   have:j<hs.length:=by omega
   rw [if_pos this]
   cases hk; rw [vi']
  ·rw [if_neg e1] at hk ⊢
   rw [List.getElem?_set] at hk ⊢
   by_cases e2:i=k
   ·subst e2
    rw [if_pos rfl,if_pos li] at hk
    have:i<hs.length:=by omega
    rw [if_pos rfl,if_pos this]
    cases hk; rw [vj']
   ·rw [if_neg e2] at hk ⊢
    exact a5 k d hk
 ·rw [List.getElem?_set] at hk hr
  by_cases e1:j=k
  ·subst e1
   simp only [List.length_set,if_true] at hk hr
   rw [if_pos lj] at hk
   rw [if_pos (by omega)] at hr
   cases hk; cases hr; exact a6 i _ _ hdi hi
  ·rw [if_neg e1] at hk hr
   rw [List.getElem?_set] at hk hr
   by_cases e2:i=k
   ·subst e2
    rw [if_pos rfl,if_pos li] at hk
    rw [if_pos rfl,if_pos (by omega)] at hr
    cases hk; cases hr; exact a6 j _ _ hdj hj
   ·rw [if_neg e2] at hk hr
    exact a6 k d r hk hr
theorem OwnLL.emp (h:Heap) (T:TypeId):OwnLL R T sz h [] 0 [] []:=OwnLL.mkN h T 0
theorem o_appLL [mo:Mo R] {T1 T1' e' by':TypeId} {b lb cc c':Nat} {p:Option Addr} {Li:Own} {fr:Nat×Nat} {f:Obj→Own} [hu:Sl C.P T1 e] [hu':Sl C.P T1' e'] [hsz:Sz C.P e 1] [hb:By C.P e by'] [hz:Zv C.P e [.slice none 0 0]]
  (hx:ρ.ev x=.slice (some ⟨b,0,none⟩) n c) (hn0:n=rows.length) (hy:ρ.ev y=.slice (some ⟨lb,0,none⟩) 1 cc)
  (w:OwnLL R T sz h hs c rows M) (hr:OwnL R T sz h (.slice p m c') r Li) [r1:Rem L [(b,row e hs)] L'] (a:At L' lb (.cells ⟨[.slice p m c']⟩ T0 fr) f) (hm:app rows [r]=some rows')
  (k:∀ b' hs' c2,OwnLL R T sz h hs' c2 rows' (Li++M)→JL C ops Q rest ds (ρ.set d (.slice (some ⟨b',0,none⟩) rows'.length c2)) h ((b',row e hs')::L')) (hn:Nat.blt d C.n=true:=by rfl) (hby:Nat.ble by' 100000=true:=by rfl) :
  JL C ops Q (⟨some d,.call { callee:=.builtin .append,args:=#[x,y],argTypes:=#[T1,T1'] },ty,pos,after,none⟩::rest) ds ρ h L:=by
 obtain ⟨hlen,rfl⟩:=app_some hm
 subst hn0
 have w':=w
 obtain ⟨D,a1,a2,a3,a4,a5,a6⟩:=w
 have ht:(hs.take rows.length).length=rows.length:=by rw [List.length_take]; omega
 have hox:OwnS e 1 (.slice (some ⟨b,0,none⟩) rows.length c) rows.length (hs.take rows.length) [(b,row e hs)]:=
  ⟨by rw [ht,Nat.mul_one],.inr ⟨b,c,hs.drop rows.length,rfl,by rw [List.take_append_drop],a1,by rw [List.take_append_drop,a2,Nat.mul_one]⟩⟩
 have a2':At ([(b,row e hs)]++L') lb (.cells ⟨[.slice p m c']⟩ T0 fr) (fun o'=>[(b,row e hs)]++f o'):=inferInstance
 refine JL.perm r1.p (o_app (e:=e) (m:=1) (us:=[.slice p m c']) hx hy hox ⟨[],L',rfl,fun _=>rfl⟩ (src_own a2' (LookN.all _) (by simp) (by simp [plain])) (by simpa using hlen) (fun v' Lb' ho'=>?_) hn rfl hby)
 obtain ⟨g1,g2⟩:=ho'
 rcases g2 with ⟨_,_,_,g3,_⟩ | ⟨b',c2,sp,rfl,rfl,g3,g4⟩
 ·omega
 have key:=w'.snoc (hs':=(hs.take rows.length++[.slice p m c'])++sp) (c'':=c2) hr g3 (by rw [g4,Nat.mul_one]) (fun i hi=>by
   rw [List.append_assoc,List.getElem?_append_left (by omega),List.getElem?_take,if_pos hi]) (by
   rw [List.append_assoc,List.getElem?_append_right (by omega),ht]; simp)
 have hl:(rows++[r]).length=rows.length+1:=by simp
 have:=k b' _ c2 key
 rw [hl] at this
 exact this
end
theorem o_callio {f:FuncId} {R:Value→Heap→Own→Prop} {xs:List Operand} {ts:Array TypeId} [he:Ent C.P f] (Li:Own) {L2:Own} [r:Rem L Li L2] (hf:FnIn C f (List.toArray (xs.map ρ.ev)) h (Li++L2) R)
  (k:∀ v h' L',Step h h'→R v h' L'→JL C ops Q rest ds (ρ.set d v) h' L') (hn:Nat.blt d C.n=true:=by rfl) :
  JL C ops Q (⟨some d,.call { callee:=.value (.func f),args:=⟨xs⟩,argTypes:=ts },ty,pos,after,none⟩::rest) ds ρ h L:=
 JL.perm r.p (o_calll hf k hn)
theorem J.eqL {c:Code} {L0:Own} (e:L=L0) (k:J C c Q ds ρ h L0):J C c Q ds ρ h L:=by subst e; exact k
theorem JD.perm {M:List Nat} {listed:Array Bool} {fuel:Nat} (hp:L.Perm L') (k:JD C ops Q S M fuel listed ds ρ h L'):JD C ops Q S M fuel listed ds ρ h L:=fun a w ha hs=>k a w ha (hs.perm hp)
theorem Has.get {σ:Env}:∀ {l:List (Nat×Value)},Has σ l→∀ p∈l,σ p.1=p.2
 | [],_,p,hp=>by cases hp
 | (t,v)::l,⟨a,b⟩,p,hp=>by
  rcases List.mem_cons.1 hp with rfl | hp
  ·exact a
  ·exact Has.get b p hp
theorem Has.mk {σ:Env}:∀ {l:List (Nat×Value)},(∀ p∈l,σ p.1=p.2)→Has σ l
 | [],_=>trivial
 | (t,v)::l,k=>⟨k (t,v) (List.mem_cons_self ..),Has.mk fun p hp=>k p (List.mem_cons_of_mem _ hp)⟩
structure FrO where
 i:Nat
 d:Nat
 dep:List (Nat×Nat)
 R:Heap→Value→Own→Prop
def FrO.mo (f:FrO):Prop:=∀ h h' v Li,Ext h h'→f.R h v Li→f.R h' v Li
def DepQ (fs:List FrO) (h:Heap) (K:Env→Prop):List (Nat×Nat)→Env→Prop
 | [],σ=>K σ
 | (j,t)::js,σ=>∀ v Lj,(match fs.find? (fun f=>Nat.beq f.i j) with | some f=>f.R h v Lj | none=>True)→DepQ fs h K js (σ.set t v)
def DepO (h:Heap) (K:Env→Own→Prop):List FrO→Env→Own→Prop
 | [],σ,L=>K σ L
 | f::fs,σ,L=>∀ v Lj,f.R h v Lj→DepO h K fs (σ.set f.d v) (Lj++L)
def FreshStep (C:Cfg) (ops:Array Oper) (f:FrO) (o:Oper) (ds:List Deferred) (h:Heap) (L:Own) (σ:Env):Prop:=
 ∀ K:Post,(∀ v h' Li,Step h h'→f.R h' v Li→JL C ops K [] ds (σ.set f.d v) h' (Li++L))→JL C ops K [o] ds σ h L
def FreshAll (C:Cfg) (ops:Array Oper) (all:List FrO) (ds:List Deferred) (h:Heap) (L:Own) (kv:List (Nat×Value)):List FrO→Prop
 | []=>True
 | f::fs=>(∃ o,ops[f.i]?=some o∧∀ σ h' Lx,Step h h'→DepQ all h' (fun σ=>FreshStep C ops f o ds h' (Lx++L) σ) f.dep (setAll σ kv))∧FreshAll C ops all ds h L kv fs
theorem FreshAll.at {all:List FrO} {kv:List (Nat×Value)}:∀ {fs:List FrO},FreshAll C ops all ds h L kv fs→∀ f∈fs,∃ o,ops[f.i]?=some o∧∀ σ h' Lx,Step h h'→DepQ all h' (fun σ=>FreshStep C ops f o ds h' (Lx++L) σ) f.dep (setAll σ kv)
 | [],_,f,hf=>by cases hf
 | g::fs,w,f,hf=>by
  rcases List.mem_cons.1 hf with rfl | hf
  ·exact w.1
  ·exact FreshAll.at w.2 f hf
def FrMo:List FrO→Prop
 | []=>True
 | f::fs=>f.mo∧FrMo fs
theorem FrMo.at:∀ {fs:List FrO},FrMo fs→∀ f∈fs,f.mo
 | [],_,f,hf=>by cases hf
 | g::fs,w,f,hf=>by
  rcases List.mem_cons.1 hf with rfl | hf
  ·exact w.1
  ·exact FrMo.at w.2 f hf
def uniqB:List Nat→Bool
 | []=>true
 | a::l=>!l.contains a && uniqB l
def aft (ops:Array Oper) (i:Nat):List Nat:=match ops[i]? with | some o=>(o.after.toList.filter fun e=>Region.binds .any e).map (·.on) | none=>[]
def before (ops:Array Oper):Nat→List Nat→List Nat
 | 0,l=>l
 | n+1,l=>before ops n (l++l.flatMap (aft ops))
def frOk (ops:Array Oper) (listed:Array Bool) (M kv:List Nat) (ix:List Nat) (f:Nat×Nat×List (Nat×Nat)×List Nat):Bool:=
 match ops[f.1]? with
 | some o=>o.guard.isNone && (match o.dst with | some t=>Nat.beq t f.2.1 | none=>false) && !kv.contains f.2.1 && !M.contains f.1 && !listed.getD f.1 true &&
   f.2.2.1.all (fun jt=>(aft ops f.1).contains jt.1 && ix.contains jt.1 && f.2.2.2.contains jt.2) && (aft ops f.1).all (fun j=>listed.getD j false || (ix.contains j && Nat.blt j f.1))
 | none=>false
def freshOk (ops:Array Oper) (listed:Array Bool) (M kv:List Nat) (fs:List (Nat×Nat×List (Nat×Nat))):Bool:=
 let ix:=fs.map (·.1)
 fs.all (fun f=>frOk ops listed M kv ix (f.1,f.2.1,f.2.2,f.2.2.map fun jt=>jt.2) && f.2.2.all fun jt=>fs.any fun g=>Nat.beq g.1 jt.1 && Nat.beq g.2.1 jt.2) && uniqB ix && uniqB (fs.map (·.2.1)) &&
 (List.range ops.size).all fun x=>listed.getD x true || ix.contains x || ix.all fun i=>(before ops ops.size (aft ops x)).contains i
theorem uniqB_map {α:Type} {p:α→Nat}:∀ {l:List α} {a b:α},uniqB (l.map p)=true→a∈l→b∈l→p a=p b→a=b
 | [],a,b,_,ha,_,_=>by cases ha
 | x::l,a,b,hu,ha,hb,e=>by
  simp only [List.map_cons,uniqB,Bool.and_eq_true,Bool.not_eq_true'] at hu
  have hn:∀ y∈l,p y≠p x:=fun y hy e2=>by
   have hm:(l.map p).contains (p x)=true:=by
    rw [← e2]; simp only [List.contains_eq_mem,decide_eq_true_eq]; exact List.mem_map_of_mem hy
   rw [hm] at hu; cases hu.1
  rcases List.mem_cons.1 ha with ha1 | ha1
  ·rcases List.mem_cons.1 hb with hb1 | hb1
   ·rw [ha1,hb1]
   ·exact absurd (by rw [← e,ha1]) (hn b hb1)
  ·rcases List.mem_cons.1 hb with hb1 | hb1
   ·exact absurd (by rw [e,hb1]) (hn a ha1)
   ·exact uniqB_map hu.2 ha1 hb1 e
theorem ready_mem {listed:Array Bool} {i:Nat} (hi:i∈Region.ready .any ops listed):∃ o,ops[i]?=some o∧listed.getD i true=false∧∀ j∈aft ops i,listed.getD j false=true:=by
 simp only [Region.ready,List.mem_filter,List.mem_range,Bool.and_eq_true,Bool.not_eq_true'] at hi
 obtain ⟨h1,h2,h3⟩:=hi
 have hg:ops[i]?=some ops[i]:=by simp [h1]
 refine ⟨ops[i],hg,h2,fun j hj=>?_⟩
 rw [hg] at h3
 simp only [Option.map_some,Option.getD_some] at h3
 simp only [aft,hg,List.mem_map,List.mem_filter] at hj
 obtain ⟨e,⟨he,hb⟩,rfl⟩:=hj
 have:=Array.all_eq_true_iff_forall_mem.1 h3 e (by simpa using he)
 simpa [hb] using this
theorem ready_of {listed:Array Bool} {i:Nat} {o:Oper} (ho:ops[i]?=some o) (h2:listed.getD i true=false) (h3:∀ j∈aft ops i,listed.getD j false=true):i∈Region.ready .any ops listed:=by
 have hlt:=(Array.getElem?_eq_some_iff.1 ho).1
 simp only [Region.ready,List.mem_filter,List.mem_range,Bool.and_eq_true,Bool.not_eq_true']
 refine ⟨hlt,h2,?_⟩
 rw [ho]
 simp only [Option.map_some,Option.getD_some]
 refine Array.all_eq_true_iff_forall_mem.2 fun e he=>?_
 cases hb:Region.binds .any e with
 | false=>simp
 | true=>
  have:=h3 e.on (by simp only [aft,ho,List.mem_map,List.mem_filter]; exact ⟨e,⟨by simpa using he,hb⟩,rfl⟩)
  simpa using this
theorem before_listed {listed:Array Bool} (hd:∀ i,listed.getD i false=true→∀ j∈aft ops i,listed.getD j false=true):∀ (n:Nat) (l:List Nat),(∀ j∈l,listed.getD j false=true)→∀ j∈before ops n l,listed.getD j false=true
 | 0,l,hl,j,hj=>hl j hj
 | n+1,l,hl,j,hj=>before_listed hd n _ (fun x hx=>by
   rcases List.mem_append.1 hx with hx | hx
   ·exact hl x hx
   ·obtain ⟨y,hy,hxy⟩:=List.mem_flatMap.1 hx
    exact hd y (hl y hy) x hxy) j hj
theorem DepQ.use {fs:List FrO} {K:Env→Prop} {σ:Env}:∀ {js:List (Nat×Nat)},(∀ jt∈js,∃ Lj,∀ f,fs.find? (fun f=>Nat.beq f.i jt.1)=some f→f.R h (σ jt.2) Lj)→DepQ fs h K js σ→K σ
 | [],_,q=>q
 | (j,t)::js,hj,q=>by
  obtain ⟨Lj,hf⟩:=hj (j,t) (List.mem_cons_self ..)
  have:=q (σ t) Lj (by
   cases hx:fs.find? (fun f=>Nat.beq f.i j) with
   | none=>trivial
   | some f=>exact hf f hx)
  rw [show σ.set t (σ t)=σ from by
   funext s
   by_cases e:s=t
   ·subst e; rw [Env.set_eq]
   ·rw [Env.set_ne _ _ e]] at this
  exact DepQ.use (fun j' h'=>hj j' (List.mem_cons_of_mem _ h')) this
def Came (fs:List FrO) (listed:Array Bool) (h:Heap) (σ:Env):Own→Prop:=fun Lx=>
 ∃ D:FrO→Own,(∀ f∈fs,listed.getD f.i false=true→f.R h (σ f.d) (D f))∧Lx.Perm ((fs.filter fun f=>listed.getD f.i false).flatMap D)
theorem DepO.use {K:Env→Own→Prop} {σ:Env} {D:FrO→Own}:∀ {fs:List FrO} {L:Own},(∀ f∈fs,f.R h (σ f.d) (D f))→DepO h K fs σ L→∃ L',L'.Perm (fs.flatMap D++L)∧K σ L'
 | [],L,_,q=>⟨L,by simp,q⟩
 | f::fs,L,hf,q=>by
  have:=q (σ f.d) (D f) (hf f (List.mem_cons_self ..))
  rw [show σ.set f.d (σ f.d)=σ from by
   funext s
   by_cases e:s=f.d
   ·subst e; rw [Env.set_eq]
   ·rw [Env.set_ne _ _ e]] at this
  obtain ⟨L',hp,hk⟩:=DepO.use (fun g hg=>hf g (List.mem_cons_of_mem _ hg)) this
  refine ⟨L',hp.trans ?_,hk⟩
  rw [List.flatMap_cons,← List.append_assoc]
  exact List.Perm.append_right _ List.perm_append_comm
def setF (listed:Array Bool):List Nat→Array Bool
 | []=>listed
 | i::l=>setF (listed.setIfInBounds i true) l
theorem setF_get:∀ (l:List Nat) (listed:Array Bool) (j:Nat),(setF listed l)[j]?=if j∈l∧j<listed.size then some true else listed[j]?
 | [],listed,j=>by simp [setF]
 | i::l,listed,j=>by
  rw [setF,setF_get l,Array.size_setIfInBounds]
  by_cases hl:j∈l
  ·by_cases hs:j<listed.size
   ·rw [if_pos ⟨hl,hs⟩,if_pos ⟨List.mem_cons_of_mem _ hl,hs⟩]
   ·rw [if_neg (fun x=>hs x.2),if_neg (fun x=>hs x.2),Array.getElem?_eq_none (by simp; omega),Array.getElem?_eq_none (by omega)]
  ·rw [if_neg (fun x=>hl x.1)]
   by_cases e:j=i
   ·subst e
    by_cases hs:j<listed.size
    ·rw [if_pos ⟨List.mem_cons_self ..,hs⟩,Array.getElem?_setIfInBounds_self_of_lt hs]
    ·rw [if_neg (fun x=>hs x.2),Array.getElem?_eq_none (by simp; omega),Array.getElem?_eq_none (by omega)]
   ·rw [if_neg (fun x=>by rcases List.mem_cons.1 x.1 with h | h; exact e h; exact hl h),Array.getElem?_setIfInBounds_ne (Ne.symm e)]
theorem JD.fresh {M:List Nat} {listed:Array Bool} {fuel:Nat} (fs:List FrO) (mo:FrMo fs) (kv:List (Nat×Value)) (hk:Has ρ kv) (dn:∀ i,listed.getD i false=true→∀ j∈aft ops i,listed.getD j false=true) (hsz:listed.size=ops.size)
  (chk:freshOk ops listed M (kv.map (·.1)) (fs.map fun f=>(f.i,f.d,f.dep))=true) [sub:Sub Ls L]
  (steps:FreshAll C ops fs ds h L kv fs)
  (k:∀ σ h',Step h h'→DepO h' (fun σ L'=>JD C ops Q (SS C h' Ls) M fuel (setF listed (fs.map (·.i))) ds σ h' L') fs (setAll σ kv) L):JD C ops Q (SS C h Ls) M (fuel+fs.length) listed ds ρ h L:=by
 simp only [freshOk,Bool.and_eq_true] at chk
 obtain ⟨⟨⟨c1,c2⟩,c3⟩,c4⟩:=chk
 have c2:uniqB (fs.map (·.i))=true:=by rw [List.map_map] at c2; exact c2
 have c3:uniqB (fs.map (·.d))=true:=by rw [List.map_map] at c3; exact c3
 have hfr:∀ f∈fs,∃ o,ops[f.i]?=some o∧o.guard=none∧o.dst=some f.d∧f.d ∉ kv.map (·.1)∧M.contains f.i=false∧listed.getD f.i true=false ∧
   (∀ jt∈f.dep,jt.1∈aft ops f.i∧∃ g∈fs,g.i=jt.1∧g.d=jt.2)∧∀ j∈aft ops f.i,listed.getD j false=true∨((∃ g∈fs,g.i=j)∧j<f.i):=fun f hf=>by
  have h1:=List.all_eq_true.1 c1 (f.i,f.d,f.dep) (List.mem_map.2 ⟨f,hf,rfl⟩)
  simp only [Bool.and_eq_true] at h1
  obtain ⟨h1,h1b⟩:=h1
  unfold frOk at h1
  cases ho:ops[f.i]? with
  | none=>rw [ho] at h1; cases h1
  | some o=>
   rw [ho] at h1
   simp only [Bool.and_eq_true] at h1
   obtain ⟨⟨⟨⟨⟨⟨a1,a2⟩,a3⟩,a4⟩,a5⟩,a6⟩,a7⟩:=h1
   refine ⟨o,rfl,?_,?_,?_,by simpa using a4,by simpa using a5,fun jt hjt=>⟨?_,?_⟩,fun j hj=>?_⟩
   ·cases hg:o.guard with | none=>rfl | some _=>rw [hg] at a1; cases a1
   ·cases hd:o.dst with
    | none=>rw [hd] at a2; cases a2
    | some t=>rw [hd] at a2; rw [Nat.eq_of_beq_eq_true a2]
   ·intro hm
    have:(kv.map (·.1)).contains f.d=true:=by simpa using hm
    rw [this] at a3; cases a3
   ·have:=List.all_eq_true.1 a6 jt hjt
    simp only [Bool.and_eq_true] at this
    simpa using this.1.1
   ·have:=List.all_eq_true.1 h1b jt hjt
    obtain ⟨g,hg,hb⟩:=List.any_eq_true.1 this
    obtain ⟨g',hg',rfl⟩:=List.mem_map.1 hg
    simp only [Bool.and_eq_true] at hb
    exact ⟨g',hg',Nat.eq_of_beq_eq_true hb.1,Nat.eq_of_beq_eq_true hb.2⟩
   ·have:=List.all_eq_true.1 a7 j hj
    simp only [Bool.or_eq_true,Bool.and_eq_true] at this
    refine this.imp id fun ⟨x,y⟩=>⟨?_,by simpa [Nat.blt_eq] using y⟩
    have hx:j∈(fs.map fun f=>(f.i,f.d,f.dep)).map (·.1):=by simpa using x
    obtain ⟨q,hq,rfl⟩:=List.mem_map.1 hx
    obtain ⟨g,hg,rfl⟩:=List.mem_map.1 hq
    exact ⟨g,hg,rfl⟩
 have hfind:∀ g∈fs,∀ f,fs.find? (fun f=>Nat.beq f.i g.i)=some f→f=g:=fun g hg f hf=>by
  have h1:=List.mem_of_find?_eq_some hf
  have h2:=List.find?_some hf
  exact uniqB_map c2 h1 hg (Nat.eq_of_beq_eq_true h2)
 have key:∀ (n:Nat) (l':Array Bool) (ρ':Env) (h':Heap) (L':Own),(fs.filter fun f=>!l'.getD f.i false).length=n→l'.size=listed.size→(∀ j,(∀ f∈fs,f.i≠j)→l'[j]?=listed[j]?)→(∀ i,l'.getD i false=true→∀ j∈aft ops i,l'.getD j false=true) →
   Ext h h'→Has ρ' kv→(∃ Lx,L'=Lx++L∧Came fs l' h' ρ' Lx)→JD C ops Q (SS C h' Ls) M (fuel+n) l' ds ρ' h' L':=by
  intro n
  induction n with
  | zero=>
   rintro l' ρ' h' L' hn hs hout hd hx hkv ⟨Lx,rfl,D,hD,hp⟩
   have hall:∀ f∈fs,l'.getD f.i false=true:=fun f hf=>by
    have:=List.eq_nil_of_length_eq_zero hn
    cases hb:l'.getD f.i false with
    | true=>rfl
    | false=>
     have hm:f∈fs.filter fun f=>!l'.getD f.i false:=List.mem_filter.2 ⟨hf,by rw [hb]; rfl⟩
     rw [this] at hm; cases hm
   have hl:l'=setF listed (fs.map (·.i)):=by
    refine Array.ext_getElem? fun j=>?_
    rw [setF_get]
    by_cases hj:j∈fs.map (·.i)
    ·obtain ⟨f,hf,rfl⟩:=List.mem_map.1 hj
     have h1:=hall f hf
     rw [Array.getD_eq_getD_getElem?] at h1
     cases hb:l'[f.i]? with
     | none=>rw [hb] at h1; cases h1
     | some b=>
      rw [hb] at h1
      have hlt:=(Array.getElem?_eq_some_iff.1 hb).1
      rw [if_pos ⟨hj,by omega⟩]
      simp at h1; rw [h1]
    ·rw [if_neg (fun x=>hj x.1)]
     exact hout j fun f hf e=>hj (List.mem_map.2 ⟨f,hf,e⟩)
   have hq:=k ρ' h' hx.toStep
   rw [setAll_self _ _ hkv] at hq
   obtain ⟨L2,hp2,hk2⟩:=DepO.use (fun f hf=>hD f hf (hall f hf)) hq
   have hfl:(fs.filter fun f=>l'.getD f.i false)=fs:=List.filter_eq_self.2 fun f hf=>hall f hf
   rw [hfl] at hp
   rw [← hl] at hk2
   refine JD.perm ((List.Perm.append_right L hp).trans hp2.symm) ?_
   exact hk2
  | succ n ih=>
   rintro l' ρ' h' L' hn hs hout hd hx hkv ⟨Lx,rfl,D,hD,hp⟩
   have hour:∀ i∈Region.ready .any ops l',∃ f∈fs,f.i=i:=fun i hi=>by
    obtain ⟨o,ho,h2,h3⟩:=ready_mem hi
    have hlt:=(Array.getElem?_eq_some_iff.1 ho).1
    have:=List.all_eq_true.1 c4 i (List.mem_range.2 hlt)
    simp only [Bool.or_eq_true] at this
    by_cases hin:∃ f∈fs,f.i=i
    ·exact hin
    exfalso
    have hni:∀ f∈fs,f.i≠i:=fun f hf e=>hin ⟨f,hf,e⟩
    rcases this with (h5 | h5) | h5
    ·have e:=hout i hni
     rw [Array.getD_eq_getD_getElem?] at h2 h5
     rw [e] at h2
     rw [h2] at h5; cases h5
    ·have hx':i∈(fs.map fun f=>(f.i,f.d,f.dep)).map (·.1):=by simpa using h5
     obtain ⟨q,hq,rfl⟩:=List.mem_map.1 hx'
     obtain ⟨g,hg,rfl⟩:=List.mem_map.1 hq
     exact hni g hg rfl
    ·have hpos:∃ f,f∈fs.filter fun f=>!l'.getD f.i false:=by
      cases hf:fs.filter fun f=>!l'.getD f.i false with
      | nil=>rw [hf] at hn; simp at hn
      | cons f _=>exact ⟨f,by simp⟩
     obtain ⟨f,hf⟩:=hpos
     obtain ⟨hf1,hf2⟩:=List.mem_filter.1 hf
     have h6:=List.all_eq_true.1 h5 f.i (by rw [List.map_map]; exact List.mem_map.2 ⟨f,hf1,rfl⟩)
     have h7:=before_listed hd ops.size (aft ops i) h3 f.i (by simpa using h6)
     rw [h7] at hf2; cases hf2
   have hne:Region.ready .any ops l'≠[]:=by
    have:∀ m,∀ f∈fs,f.i<m→l'.getD f.i false=false→Region.ready .any ops l'≠[]:=by
     intro m
     induction m with
     | zero=>intro f _ h; omega
     | succ m ihm=>
      intro f hf hm hb hr
      obtain ⟨o,ho,_,_,_,_,hu,_,ha⟩:=hfr f hf
      by_cases hall:∀ j∈aft ops f.i,l'.getD j false=true
      ·have hlt:=(Array.getElem?_eq_some_iff.1 ho).1
       have:=ready_of (listed:=l') ho (by
        rw [Array.getD_eq_getD_getElem?] at hb ⊢
        have:f.i<l'.size:=by omega
        rw [Array.getElem?_eq_getElem this] at hb ⊢
        simpa using hb) hall
       rw [hr] at this; cases this
      ·obtain ⟨j,hj⟩:=Classical.not_forall.1 hall
       obtain ⟨hj1,hj2⟩:=Classical.not_imp.1 hj
       have hj2:l'.getD j false=false:=by simpa using hj2
       rcases ha j hj1 with h8 | ⟨⟨g,hg,rfl⟩,h9⟩
       ·by_cases hin:∃ g∈fs,g.i=j
        ·obtain ⟨g,hg,rfl⟩:=hin
         obtain ⟨o',ho',_,_,_,_,hu',_,_⟩:=hfr g hg
         rw [Array.getD_eq_getD_getElem?] at h8 hu'
         cases hl:listed[g.i]? with
         | none=>rw [hl] at h8; cases h8
         | some b=>rw [hl] at h8 hu'; simp at h8 hu'; rw [h8] at hu'; cases hu'
        ·have e:=hout j fun g hg e=>hin ⟨g,hg,e⟩
         rw [Array.getD_eq_getD_getElem?] at h8 hj2
         rw [e] at hj2; rw [h8] at hj2; cases hj2
       ·exact ihm g hg (by omega) hj2 hr
    cases hf:fs.filter fun f=>!l'.getD f.i false with
    | nil=>rw [hf] at hn; simp at hn
    | cons f r=>
     have hm:f∈fs.filter fun f=>!l'.getD f.i false:=by rw [hf]; simp
     obtain ⟨hf1,hf2⟩:=List.mem_filter.1 hm
     exact this (f.i+1) f hf1 (by omega) (by simpa using hf2)
   rw [show fuel+(n+1)=(fuel+n)+1 by omega]
   refine JD.all _ rfl (by cases hr:Region.ready .any ops l' with | nil=>exact absurd hr hne | cons=>rfl) ?_
   have hx':∀ rs:List Nat,(∀ i∈rs,i∈Region.ready .any ops l')→AllX (JX C ops Q (SS C h' Ls) M (fuel+n) l' ds ρ' h' (Lx++L)) rs:=by
    intro rs
    induction rs with
    | nil=>intro _; trivial
    | cons i rs ihr=>
     intro hrs
     refine ⟨?_,ihr fun j hj=>hrs j (List.mem_cons_of_mem _ hj)⟩
     have hi:=hrs i (List.mem_cons_self ..)
     obtain ⟨f,hf,rfl⟩:=hour i hi
     obtain ⟨o,ho,hgn,hod,hdk,hM,hu,hdep,ha⟩:=hfr f hf
     obtain ⟨o2,ho2,hun,h3⟩:=ready_mem hi
     obtain ⟨o3,ho3,hst⟩:=FreshAll.at steps f hf
     obtain rfl:o=o3:=by rw [ho] at ho3; exact Option.some.inj ho3
     have hst:=hst ρ' h' Lx hx.toStep
     rw [setAll_self _ _ hkv] at hst
     have hst:=DepQ.use (fun jt hjt=>by
      obtain ⟨h10,g,hg,e1,e2⟩:=hdep jt hjt
      refine ⟨D g,fun g' hg'=>?_⟩
      rw [← e1] at hg'
      have:=hfind g hg g' hg'
      subst this
      rw [← e2]
      exact hD g' hg (by rw [e1]; exact h3 _ h10)) hst
     have ho2:({ o with guard:=none }:Oper)=o:=by cases o; simp only at hgn; subst hgn; rfl
     have hsub:Sub Ls (Lx++L):=⟨fun p hp=>List.mem_append_right _ (sub.m p hp)⟩
     have hil:f.i<l'.size:=by have:=(Array.getElem?_eq_some_iff.1 ho).1; omega
     refine JX.effB ho hM (by rw [hgn]; trivial) ?_
     rw [ho2]
     refine hst _ fun v h'' Li s hv=>JL.nil ⟨rfl,⟨s.le⟩,⟨fun p hp=>List.mem_append_right _ (hsub.m p hp)⟩,?_⟩
     have hset:∀ j,(l'.setIfInBounds f.i true).getD j false=if j=f.i then true else l'.getD j false:=fun j=>by
      rw [Array.getD_eq_getD_getElem?,Array.getD_eq_getD_getElem?]
      by_cases e:j=f.i
      ·subst e; rw [Array.getElem?_setIfInBounds_self_of_lt hil]; simp
      ·rw [Array.getElem?_setIfInBounds_ne (Ne.symm e),if_neg e]
     have hfb:l'.getD f.i false=false:=by
      rw [Array.getD_eq_getD_getElem?] at hun ⊢
      rw [Array.getElem?_eq_getElem hil] at hun ⊢
      simpa using hun
     have hnd:∀ g∈fs,g≠f→g.d≠f.d:=fun g hg hne e=>hne (uniqB_map c3 hg hf e)
     have hni:∀ g∈fs,g≠f→g.i≠f.i:=fun g hg hne e=>hne (uniqB_map c2 hg hf e)
     have hfe:∀ g∈fs,g.i=f.i→g=f:=fun g hg e=>uniqB_map c2 hg hf e
     refine ih _ _ _ _ ?_ (by simpa using hs) (fun j hj=>?_) (fun i hi j hj=>?_) ⟨fun b o hb=>s.le b o (hx.le b o hb)⟩ (Has.mk fun p hp=>?_) ⟨Li++Lx,(List.append_assoc ..).symm,fun g=>@ite _ (g.i=f.i) (inferInstance) Li (D g),fun g hg hb=>?_,?_⟩
     ·-- one less
      have hu2:uniqB (fs.map (·.i))=true:=c2
      have cnt:∀ l:List FrO,uniqB (l.map (·.i))=true→f∈l→(l.filter fun g=>!(l'.setIfInBounds f.i true).getD g.i false).length+1=(l.filter fun g=>!l'.getD g.i false).length:=by
       intro l
       induction l with
       | nil=>intro _ h; cases h
       | cons g l ihl=>
        intro hu hm
        simp only [List.map_cons,uniqB,Bool.and_eq_true,Bool.not_eq_true'] at hu
        have same:∀ l:List FrO,(∀ x∈l,x.i≠f.i)→(l.filter fun g=>!(l'.setIfInBounds f.i true).getD g.i false)=l.filter fun g=>!l'.getD g.i false:=fun l hl=>List.filter_congr fun x hx=>by rw [hset,if_neg (hl x hx)]
        rcases List.mem_cons.1 hm with rfl | hm
        ·have hnot:∀ x∈l,x.i≠f.i:=fun x hx e=>by
          have hmm:(l.map (·.i)).contains f.i=true:=by rw [← e]; simp only [List.contains_eq_mem,decide_eq_true_eq]; exact List.mem_map_of_mem hx
          rw [hmm] at hu; cases hu.1
         rw [List.filter_cons,List.filter_cons,same l hnot,hset,if_pos rfl,hfb]; simp
        ·have hgi:g.i≠f.i:=fun e=>by
          have hmm:(l.map (·.i)).contains g.i=true:=by rw [e]; simp only [List.contains_eq_mem,decide_eq_true_eq]; exact List.mem_map_of_mem hm
          rw [hmm] at hu; cases hu.1
         have:=ihl hu.2 hm
         rw [List.filter_cons,List.filter_cons,hset,if_neg hgi]
         split
         ·simp only [List.length_cons]; omega
         ·exact this
      have:=cnt fs c2 hf
      omega
     ·rw [Array.getElem?_setIfInBounds_ne (hj f hf)]; exact hout j hj
     ·rw [hset] at hi ⊢
      by_cases e:i=f.i
      ·subst e
       have:=h3 j hj
       rw [this]; split<;>rfl
      ·rw [if_neg e] at hi
       have:=hd i hi j hj
       rw [this]; split<;>rfl
     ·have hpm:p.1∈kv.map (·.1):=List.mem_map_of_mem hp
      rw [Env.set_ne _ _ (fun e=>hdk (by rw [← e]; exact hpm))]
      exact hkv.get p hp
     ·by_cases e:g.i=f.i
      ·have:=hfe g hg e
       subst this
       rw [Env.set_eq]; simpa using hv
      ·have hne:g≠f:=fun e2=>e (by rw [e2])
       rw [Env.set_ne _ _ (hnd g hg hne)]
       rw [hset,if_neg e] at hb
       simp only [e,if_false]
       exact FrMo.at mo g hg h' h'' _ _ ⟨s.le⟩ (hD g hg hb)
     ·-- the blocks
      have cnt:∀ l:List FrO,uniqB (l.map (·.i))=true→f∈l →
        ((l.filter fun g=>(l'.setIfInBounds f.i true).getD g.i false).flatMap fun g=>@ite _ (g.i=f.i) (inferInstance) Li (D g)).Perm (Li++(l.filter fun g=>l'.getD g.i false).flatMap D):=by
       intro l
       induction l with
       | nil=>intro _ h; cases h
       | cons g l ihl=>
        intro hu hm
        simp only [List.map_cons,uniqB,Bool.and_eq_true,Bool.not_eq_true'] at hu
        have same:∀ l:List FrO,(∀ x∈l,x.i≠f.i)→((l.filter fun g=>(l'.setIfInBounds f.i true).getD g.i false).flatMap fun g=>@ite _ (g.i=f.i) (inferInstance) Li (D g))=(l.filter fun g=>l'.getD g.i false).flatMap D:=fun l hl=>by
         rw [show (l.filter fun g=>(l'.setIfInBounds f.i true).getD g.i false)=l.filter fun g=>l'.getD g.i false from List.filter_congr fun x hx=>by rw [hset,if_neg (hl x hx)]]
         rw [List.flatMap_def,List.flatMap_def,List.map_congr_left fun x hx=>?_]
         rw [if_neg (hl x (List.mem_filter.1 hx).1)]
        rcases List.mem_cons.1 hm with rfl | hm
        ·have hnot:∀ x∈l,x.i≠f.i:=fun x hx e=>by
          have hmm:(l.map (·.i)).contains f.i=true:=by rw [← e]; simp only [List.contains_eq_mem,decide_eq_true_eq]; exact List.mem_map_of_mem hx
          rw [hmm] at hu; cases hu.1
         rw [List.filter_cons,List.filter_cons,hset,if_pos rfl,hfb]
         simp only [if_true,Bool.false_eq_true,if_false,List.flatMap_cons]
         rw [same l hnot]
        ·have hgi:g.i≠f.i:=fun e=>by
          have hmm:(l.map (·.i)).contains g.i=true:=by rw [e]; simp only [List.contains_eq_mem,decide_eq_true_eq]; exact List.mem_map_of_mem hm
          rw [hmm] at hu; cases hu.1
         have:=ihl hu.2 hm
         rw [List.filter_cons,List.filter_cons,hset,if_neg hgi]
         split
         ·simp only [List.flatMap_cons,hgi,if_false]
          refine (List.Perm.append_left _ this).trans ?_
          rw [← List.append_assoc,← List.append_assoc]
          exact List.Perm.append_right _ List.perm_append_comm
         ·exact this
      exact (List.Perm.append_left Li hp).trans (cnt fs c2 hf).symm
   exact hx' _ fun i hi=>hi
 have h0:(fs.filter fun f=>!listed.getD f.i false).length=fs.length:=by
  rw [List.filter_eq_self.2 fun f hf=>?_]
  obtain ⟨o,ho,_,_,_,_,hu,_,_⟩:=hfr f hf
  rw [Array.getD_eq_getD_getElem?] at hu ⊢
  cases hl:listed[f.i]? with
  | none=>rfl
  | some b=>rw [hl] at hu; simp at hu ⊢; exact hu
 refine key fs.length listed ρ h L h0 rfl (fun _ _=>rfl) dn (Ext.refl h) hk ⟨[],rfl,fun _=>[],fun f hf hb=>?_,?_⟩
 ·obtain ⟨o,ho,_,_,_,_,hu,_,_⟩:=hfr f hf
  rw [Array.getD_eq_getD_getElem?] at hu hb
  cases hl:listed[f.i]? with
  | none=>rw [hl] at hb; cases hb
  | some b=>rw [hl] at hu hb; simp at hu hb; rw [hb] at hu; cases hu
 ·have:(fs.filter fun f=>listed.getD f.i false).flatMap (fun _=>([]:Own))=[]:=by simp
  rw [this]
def dnOk (ops:Array Oper) (listed:Array Bool):Bool:=Nat.beq listed.size ops.size && (List.range listed.size).all fun i=>!listed.getD i false || (aft ops i).all fun j=>listed.getD j false
theorem dn_of {listed:Array Bool} (h:dnOk ops listed=true):(∀ i,listed.getD i false=true→∀ j∈aft ops i,listed.getD j false=true)∧listed.size=ops.size:=by
 simp only [dnOk,Bool.and_eq_true] at h
 refine ⟨fun i hi j hj=>?_,Nat.eq_of_beq_eq_true h.1⟩
 have hlt:i<listed.size:=by
  rw [Array.getD_eq_getD_getElem?] at hi
  rcases Nat.lt_or_ge i listed.size with h | h
  ·exact h
  ·rw [Array.getElem?_eq_none h] at hi; cases hi
 have:=List.all_eq_true.1 h.2 i (List.mem_range.2 hlt)
 rw [hi] at this
 simp only [Bool.not_true,Bool.false_or] at this
 exact List.all_eq_true.1 this j hj
end Go.Z
end
section
namespace Go.Z
open Go Go.RowKit
variable {C:Cfg} {Q Q':Post} {ds:List Deferred} {ρ:Env} {h h1 h2:Heap} {L L' Ls Lb M:Own} {ops:Array Oper} {rest:List Oper}
variable {d:Nat} {ty:TypeId} {pos:String} {after:Array Edge} {S:World→Prop}
section
variable {x y:Operand} {T T' e:TypeId} {p:Option Addr} {n c:Nat}
theorem run_eqNil {P:Program} [hu:Sl P T e] (p:Option Addr) (n c:Nat) (w:World):(Op.equal T (.slice p n c) (.slice none 0 0)).run P w=.ok p.isNone w:=by
 unfold Op.equal
 rw [show Op.maxDepth=9999+1 from rfl]
 unfold Op.equalIn
 cases p<;>simp [underlying,program,hu.u,Sem.run,bind,Sem.bind,pure]
theorem q_eqNil [hu:Sl C.P T e] (hx:ρ.ev x=.slice p n c) (hy:ρ.ev y=.slice none 0 0):Qr C ρ S (.binOp .eql T x y T') ty (.bool p.isNone):=⟨rfl,fun w _=>by
 have:=run_eqNil (P:=C.P) (T:=T) p n c w
 simp only [go_sem,hx,hy]
 simp [binOp,this,Sem.run_bind,Result.andThen,Sem.run,pure]⟩
class EqT (P:Program) (T:TypeId):Prop where g:P.eqGuardType P.depth T=false
theorem run_eqA2 {P:Program} {T e:TypeId} [ha:Ar P T 2 e] [hk:Kd P e .i64] [hs:Sz P e 1] [hp:Pr P e] (a b a' b':Int) (w:World):(Op.equalIn 10000 T (.agg ⟨[.int .i64 a,.int .i64 b]⟩) (.agg ⟨[.int .i64 a',.int .i64 b']⟩)).run P w=.ok (a == a' && b == b') w:=by
 have z3:=run_sizeOf (P:=P) (w:=w) hs.i
 have a3:=run_isAgg (P:=P) (w:=w) hp
 have u3:(underlying e).run P w=.ok (.int .i64) w:=und_run hk.u
 have e3:∀ x y:Int,(Op.equalIn 9999 e (.int .i64 x) (.int .i64 y)).run P w=.ok (x == y) w:=fun x y=>by
  rw [show (9999:Nat)=9998+1 from rfl,Op.equalIn]
  simp only [Sem.run_bind,u3,Result.andThen_ok]
  simp [Sem.run,pure]
 rw [show (10000:Nat)=9999+1 from rfl,Op.equalIn]
 simp only [Sem.run_bind,und_run ha.u,Result.andThen_ok,z3]
 simp only [Std.Legacy.Range.forIn_eq_forIn_range',Std.Legacy.Range.size,Nat.sub_zero,Nat.add_sub_cancel,Nat.div_one,List.range'_succ,List.range'_zero,List.forIn_cons,List.forIn_nil]
 have p0:∀ (a b:Int) ,(part e #[.int .i64 a,.int .i64 b] (0*1)).run P w=.ok (.int .i64 a) w:=fun a b=>by
  simp [part,a3,Sem.run_bind,Result.andThen,Sem.run,pure]
 have p1:∀ (a b:Int) ,(part e #[.int .i64 a,.int .i64 b] ((0+1)*1)).run P w=.ok (.int .i64 b) w:=fun a b=>by
  simp [part,a3,Sem.run_bind,Result.andThen,Sem.run,pure]
 by_cases h1:a=a'
 ·subst h1
  by_cases h2:b=b'
  ·subst h2; simp [Sem.run_bind,Result.andThen,p0,p1,e3,Sem.run,pure]
  ·simp [Sem.run_bind,Result.andThen,p0,p1,e3,h2,Sem.run,pure]
 ·simp [Sem.run_bind,Result.andThen,p0,p1,e3,h1,Sem.run,pure]
theorem q_eqA2 {a b a' b':Int} [ha:Ar C.P T 2 e] [hk:Kd C.P e .i64] [hs:Sz C.P e 1] [hp:Pr C.P e] [hg:EqT C.P T] (hx:ρ.ev x=.agg ⟨[.int .i64 a,.int .i64 b]⟩) (hy:ρ.ev y=.agg ⟨[.int .i64 a',.int .i64 b']⟩):Qr C ρ S (.binOp .eql T x y T') ty (.bool (a == a' && b == b')):=⟨rfl,fun w _=>by
 have h1:=run_eqA2 (P:=C.P) (T:=T) (e:=e) a b a' b' w
 have hg:=run_eqGuard_agg (P:=C.P) (w:=w) .eql T x y #[.int .i64 a,.int .i64 b] #[.int .i64 a',.int .i64 b'] hg.g
 have hb:=run_eql_struct (P:=C.P) (w:=w) T #[.int .i64 a,.int .i64 b] #[.int .i64 a',.int .i64 b']
 simp only [execOp,hx,hy]
 refine run_v ?_
 rw [Sem.run_bind,hg]
 simp only [Result.andThen]
 rw [hb,h1]; rfl⟩
end
section
variable {α:Type} {R:Heap→List Value→α→Prop} {T e:TypeId} {sz n c i:Nat} {l:List α} {p:Option Addr} {x:Operand} {z:List Value} {j:Int}
theorem OwnL.cap (w:OwnL R T sz h (.slice p n c) l Lb):n≤c:=by
 obtain ⟨xs,⟨h1,h2⟩,hc⟩:=w
 rcases h2 with ⟨q,e,_⟩ | ⟨b,c',sp,e,_,h3,_⟩<;>cases e
 ·exact Nat.le_refl _
 ·exact h3
theorem o_clearL [hu:Sl C.P T e] [hs:Sz C.P e sz] [hz:Zv C.P e z] (ho:OwnL R e sz h (.slice p n c) l Lb) [r:Rem L Lb L'] (hi:i≤l.length)
  (hx:ρ.ev x=.slice (if c=i then p else p.map (·.add (i*sz))) (n-i) (c-i)) (hzl:z.length=sz) (hzp:z.all plain=true)
  (kk:∀ Lb',OwnL R e sz h (.slice p i c) (l.take i) Lb'→JL C ops Q rest ds ρ h (Lb'++L')) :
  JL C ops Q (⟨none,.call { callee:=.builtin .clear,args:=#[x],argTypes:=#[T] },ty,pos,after,none⟩::rest) ds ρ h L:=by
 refine JL.perm r.p ?_
 have hn:=ho.len
 subst hn
 obtain ⟨xs,⟨h1,h2⟩,hc⟩:=ho
 rcases h2 with ⟨q,eq,hq,h3,rfl⟩ | ⟨b,c',sp,eq,rfl,h3,h4⟩
 ·simp only [Value.slice.injEq] at eq
  obtain ⟨rfl,h5,rfl⟩:=eq
  obtain rfl:l=[]:=List.eq_nil_of_length_eq_zero h5
  obtain rfl:i=0:=by simpa using hi
  refine JL.valN rfl rfl rfl fun w hst=>⟨.tuple #[],h,_,w,?_,hst,kk [] ?_⟩
  ·have hm:(#[x]:Array Operand).map ρ.ev=#[ρ.ev x]:=by simp
   simp only [execOp,resolve,hm,hx]
   refine run_v (v:=.tuple #[]) ?_
   simp only [List.length_nil,Nat.sub_zero,if_true]
   show (Builtin.clear_ #[T] ty #[.slice p 0 0]).run C.P w=_
   cases p<;>simp [Builtin.clear_,und_run hu.u,Sem.run_bind,Result.andThen,Sem.run,pure]
  ·exact ⟨[],⟨by simp,.inl ⟨p,rfl,hq,rfl,rfl⟩⟩,Cells.nil⟩
 ·cases eq
  have hxl:xs.length=l.length*sz:=h1
  have hic:i≤c:=by omega
  have key:∀ w,St C.w0 C.h0 h ([(b,row e (xs++sp))]++L') w→∃ w' cs',(Builtin.clear_ #[T] ty #[.slice (if c=i then (some ⟨b,0,none⟩:Option Addr) else (some ⟨b,0,none⟩:Option Addr).map (·.add (i*sz))) (l.length-i) (c-i)]).run C.P w=.ok (.tuple #[]) w'∧St C.w0 C.h0 h ([(b,row e cs')]++L') w'∧cs'.length=c*sz∧cs'.take (i*sz)=xs.take (i*sz):=by
   intro w hst
   have hix:i*sz≤xs.length:=by rw [hxl]; exact Nat.mul_le_mul_right _ hi
   by_cases hz0:l.length-i=0
   ·refine ⟨w,xs++sp,?_,hst,h4,by rw [List.take_append_of_le_length hix]⟩
    rw [hz0]
    split<;>simp [Builtin.clear_,und_run hu.u,Sem.run_bind,Result.andThen,Sem.run,pure]
   ·have hci:¬ c=i:=by omega
    have hb:w.heap[b]?=some (row e (xs++sp)):=(hst.own (b,_) (by simp)).2.1
    obtain ⟨v,hv1,hv2⟩:=zero_run (P:=C.P) hz w
    have hzc:Builtin.zeroCells v.cells (l.length-i)=⟨(List.replicate (l.length-i) z).flatten⟩:=by
     rw [hv2]; exact zeros_eq z _ _ rfl
    have hlen:0+i*sz+((List.replicate (l.length-i) z).flatten).length≤(xs++sp).length:=by
     rw [flat_len,hzl,h4,Nat.zero_add,← Nat.add_mul]; exact Nat.mul_le_mul_right _ (by omega)
    obtain ⟨w',g1,g2,g3,g4,g5,g6,g7⟩:=run_storeCells (P:=C.P) ((List.replicate (l.length-i) z).flatten) 0 (o:=0+i*sz) hb (by omega) (fun u hu2=>by
     obtain ⟨y,hy,hu3⟩:=List.mem_flatten.1 hu2
     rw [(List.mem_replicate.1 hy).2] at hu3
     exact List.all_eq_true.1 hzp u hu3)
    refine ⟨w',_,?_,St.upd (L1:=[]) hst g2 g3 g4 g5 g6 g7,by rw [length_setN]; exact h4,?_⟩
    ·rw [if_neg hci]
     simp only [Option.map_some,add_none]
     have hne:∃ m,l.length-i=m+1:=⟨l.length-i-1,by omega⟩
     obtain ⟨m,hm⟩:=hne
     rw [hm] at hzc g1 ⊢
     simp [Builtin.clear_,und_run hu.u,Sem.run_bind,Result.andThen,hv1,hzc]
     rw [Nat.zero_add] at g1
     rw [g1]
    ·refine List.ext_getElem? fun k=>?_
     rw [List.getElem?_take,List.getElem?_take]
     by_cases hk:k<i*sz
     ·rw [if_pos hk,if_pos hk,setN_get (by omega),if_pos (by omega),List.getElem?_append_left (by omega)]
     ·rw [if_neg hk,if_neg hk]
  refine JL.valN rfl rfl rfl fun w hst=>?_
  obtain ⟨w',cs',k1,k2,k3,k4⟩:=key w hst
  refine ⟨.tuple #[],h,_,w',?_,k2,kk [(b,row e cs')] ?_⟩
  ·have hm:(#[x]:Array Operand).map ρ.ev=#[ρ.ev x]:=by simp
   simp only [execOp,resolve,hm,hx]
   exact run_v k1
  ·have hit:(l.take i).length=i:=by rw [List.length_take]; omega
   have oc:OwnC R sz h cs' (l.take i) c:=⟨by omega,k3,by
    rw [hit,k4]; exact hc.take hi⟩
   exact oc.own hit.symm
theorem q_tailL [hu:Sl C.P T e] [hs:Sz C.P e sz] {lo:Operand} {q:IntKind} (hx:ρ.ev x=.slice p n c) (hl:ρ.ev lo=.int q j) (hb:0≤j∧j≤(n:Int)):Qr C ρ S (.slice T x (some lo) none none) ty (.slice (if c=j.toNat then p else p.map (·.add (j.toNat*sz))) (n-j.toNat) (c-j.toNat)):=q_slL hx hl hb
theorem q_headL [hu:Sl C.P T e] [hs:Sz C.P e sz] {hi:Operand} {q:IntKind} (hx:ρ.ev x=.slice p n c) (hh:ρ.ev hi=.int q j) (h0:0≤j) (hj:j.toNat≤c):Qr C ρ S (.slice T x none (some hi) none) ty (.slice p j.toNat c):=q_slH hx hh ⟨h0,by omega⟩
end
section
variable {α:Type} {VR:Heap→Value→α→Prop} {m m':List (Int×α)} {z0:α}
def MapQ (VR:Heap→Value→α→Prop) (h:Heap) (o:Obj) (m:List (Int×α)):Prop:=∃ m',MapR VR h o m'∧∀ k,mfind m' k=mfind m k
theorem MapQ.look {o:Obj} {z:Value} (w:MapQ VR h o m) (x:Int) (hz:VR h z z0):∃ v,VR h v (mget m x z0)∧LookM o x z v (mhas m x):=by
 obtain ⟨m',a,b⟩:=w
 obtain ⟨v,h1,h2⟩:=a.look x hz
 refine ⟨v,?_,?_⟩
 ·unfold mget at h1 ⊢; rwa [b x] at h1
 ·unfold mhas at h2 ⊢; rwa [b x] at h2
theorem MapR.q {o:Obj} (w:MapR VR h o m) (he:∀ k,mfind m k=mfind m' k):MapQ VR h o m':=⟨m,w,he⟩
end
end Go.Z
end
section
namespace Go.Z
open Go Go.RowKit
variable {C:Cfg} {Q Q':Post} {ds:List Deferred} {ρ:Env} {h h1 h2:Heap} {L L' Ls Lb:Own} {ops:Array Oper} {rest:List Oper}
variable {d:Nat} {ty:TypeId} {pos:String} {after:Array Edge} {S:World→Prop}
variable {x:Operand} {T K E:TypeId} {b it:Nat} {es done:List MapEntry} {clk:Nat} {f:Obj→Own}
theorem run_choose {P:Program} {w:World} {n:Nat} (hn:0<n):∃ i w',i<n∧(choose (.mapNext n)).run P w=.ok i w'∧(w'=w∨w'=w.drew):=by
 by_cases h1:n≤1
 ·obtain rfl:n=1:=by omega
  refine ⟨0,w,by omega,?_,.inl rfl⟩
  rfl
 ·refine ⟨_,w.drew,Nat.mod_lt (w.tape w.drawn (.mapNext n)) hn,?_,.inr rfl⟩
  simp only [choose,Sem.run,Question.forced,Question.cut,h1,decide_false,Bool.false_eq_true,if_false]
  rfl
def iterO (b clk:Nat) (done:List MapEntry):Obj:=.mapIter (some b) clk (done.map (·.born)).toArray clk
theorem o_range [mp:Mp C.P T K E] (hx:ρ.ev x=.map (some b)) (hb:h b=some (.map ⟨es⟩ clk))
  (k:∀ it,JL C ops Q rest ds (ρ.set d (.pointer (some ⟨it,0,none⟩))) h ((it,iterO b clk [])::L)) (hn:Nat.blt d C.n=true:=by rfl) :
  JL C ops Q (⟨some d,.range T x,ty,pos,after,none⟩::rest) ds ρ h L:=
 JL.val rfl rfl rfl hn fun w hs=>by
  refine ⟨_,h,_,w.alloc (iterO b clk []),?_,hs.alloc _,k _⟩
  simp only [execOp,hx]
  refine run_v ?_
  simp only [Instr.range,bind]
  rw [Sem.run_bind',und_run mp.u]
  simp only [Result.andThen]
  rw [Sem.run_bind',run_getObj (hs.fro _ _ hb)]
  rfl
theorem left_mem {e:MapEntry} (h:e∈es.filter fun e=>!(done.map (·.born)).contains e.born):e∈es∧e.born ∉ done.map (·.born):=by
 rw [List.mem_filter] at h
 exact ⟨h.1,by simpa using h.2⟩
theorem o_next (hx:ρ.ev x=.pointer (some ⟨it,0,none⟩)) (hb:h b=some (.map ⟨es⟩ clk)) (bn:Born es clk) (A:At L it (iterO b clk done) f) (hd:∀ e∈done,e∈es)
  (k0:(∀ e∈es,e.born∈done.map (·.born))→JL C ops Q rest ds (ρ.set d (.tuple ⟨[.bool false]⟩)) h L)
  (k1:∀ e,e∈es→e.born ∉ done.map (·.born)→JL C ops Q rest ds (ρ.set d (.tuple ⟨[.bool true,e.key,e.val]⟩)) h (f (iterO b clk (done++[e])))) (hn:Nat.blt d C.n=true:=by rfl) :
  JL C ops Q (⟨some d,.next x false,ty,pos,after,none⟩::rest) ds ρ h L:=
 JL.val rfl rfl rfl hn fun w hs=>by
  have hit:=A.heap hs
  have hm:=hs.fro _ _ hb
  have hold:(es.filter fun e=>!(done.map (·.born)).contains e.born).filter (fun e=>decide (e.born<clk))=es.filter fun e=>!(done.map (·.born)).contains e.born:=by
   refine List.filter_eq_self.2 fun e he=>?_
   have:=bn.2 e (left_mem he).1
   simpa using this
  have hnew:(es.filter fun e=>!(done.map (·.born)).contains e.born).filter (fun e=>decide (clk≤e.born))=[]:=by
   refine List.filter_eq_nil_iff.2 fun e he=>?_
   have:=bn.2 e (left_mem he).1
   simp; omega
  generalize hl:es.filter (fun e=>!(done.map (·.born)).contains e.born)=left at hold hnew
  have hcond:(!(done.map (·.born)).toArray.isEmpty && !(⟨es⟩:Array MapEntry).isEmpty && (⟨es⟩:Array MapEntry).all (fun e=>decide (e.born≥clk)))=false:=by
   cases es with
   | nil=>simp
   | cons e es=>
    have:=bn.2 e (by simp)
    have:decide (clk≤e.born)=false:=by simpa using this
    simp [this]
  have key:∃ v h' L' w',(Instr.next (.pointer (some ⟨it,0,none⟩)) false ty).run C.P w=.ok v w'∧St C.w0 C.h0 h' L' w'∧JL C ops Q rest ds (ρ.set d v) h' L':=by
   simp only [Instr.next,bind]
   rw [Sem.run_bind',show (getObj it).run C.P w=.ok (iterO b clk done) w by simp [getObj,Sem.run,hit,iterO]]
   simp only [Result.andThen,iterO]
   rw [Sem.run_bind',run_getObj hm]
   simp only [Result.andThen,hcond,Bool.false_eq_true,if_false]
   have harr:((⟨es⟩:Array MapEntry).filter fun e=>!(done.map (·.born)).toArray.contains e.born)=left.toArray:=by
    rw [← hl]; simp
   have e1:left.toArray.filter (fun e=>decide (e.born<clk))=left.toArray:=by simpa using hold
   have e2:left.toArray.filter (fun e=>decide (e.born≥clk))=#[]:=by simpa using hnew
   simp only [harr,e1,e2]
   cases left with
   | nil=>
    have hc0:((if ([]:List MapEntry).toArray.isEmpty=true then #[none] else #[])++Array.map some (([]:List MapEntry).toArray++#[]))=#[none]:=by simp
    simp only [hc0]
    refine ⟨_,h,L,w,rfl,hs,k0 fun e he=>?_⟩
    by_cases hm:e.born∈done.map (·.born)
    ·exact hm
    ·have:e∈es.filter fun e=>!(done.map (·.born)).contains e.born:=List.mem_filter.2 ⟨he,by simpa using hm⟩
     rw [hl] at this; cases this
   | cons e0 left=>
    have hc:((if (e0::left).toArray.isEmpty=true then #[none] else #[])++Array.map some ((e0::left).toArray++#[]))=((e0::left).map some).toArray:=by simp
    simp only [hc]
    obtain ⟨i,w1,hi,hr,hw⟩:=run_choose (P:=C.P) (w:=w) (n:=(((e0::left).map some).toArray).size) (by simp)
    rw [Sem.run_bind',hr]
    simp only [Result.andThen]
    have hi2:i<(e0::left).length:=by simpa using hi
    have hget:(((e0::left).map some).toArray)[i]?=some (some (e0::left)[i]):=by rw [List.getElem?_toArray,List.getElem?_map,List.getElem?_eq_getElem hi2]; rfl
    simp only [hget]
    have hmem:(e0::left)[i]∈es.filter fun e=>!(done.map (·.born)).contains e.born:=by rw [hl]; exact List.getElem_mem hi2
    obtain ⟨m1,m2⟩:=left_mem hmem
    generalize (e0::left)[i]=e at m1 m2 ⊢
    have hs1:St C.w0 C.h0 h L w1:=by rcases hw with rfl | rfl; exact hs; exact hs.drew
    have hit1:=A.heap hs1
    rw [Sem.run_bind',show (setObj it (.mapIter (some b) clk ((done.map (·.born)).toArray.push e.born) clk)).run C.P w1=.ok () (w1.putObj it (.mapIter (some b) clk ((done.map (·.born)).toArray.push e.born) clk)) by
     simp [setObj,Sem.run,hit1,iterO,World.putObj]]
    have hO:(Obj.mapIter (some b) clk ((done.map (·.born)).toArray.push e.born) clk)=iterO b clk (done++[e]):=by simp [iterO]
    rw [hO]
    exact ⟨_,h,_,_,rfl,A.put hs1,k1 e m1 m2⟩
  obtain ⟨v,h',L',w',g1,g2,g3⟩:=key
  refine ⟨v,h',L',w',?_,g2,g3⟩
  simp only [execOp,hx]
  exact run_v g1
theorem find_born {e:MapEntry}:∀ {es:List MapEntry},(es.map (·.born)).Nodup→e∈es→es.find? (fun x=>x.born == e.born)=some e
 | x::es,hn,he=>by
  simp only [List.map_cons,List.nodup_cons] at hn
  rcases List.mem_cons.1 he with rfl | he
  ·simp
  ·have:¬ x.born=e.born:=fun h=>hn.1 (h ▸ List.mem_map_of_mem he)
   rw [List.find?_cons_of_neg (by simpa using this)]
   exact find_born hn.2 he
theorem q_entry {e:MapEntry} (hx:ρ.ev x=.pointer (some ⟨it,0,none⟩)) (hb:h1 b=some (.map ⟨es⟩ clk)) [ex:Ext h1 h] (bn:Born es clk) (A:At L it (iterO b clk (done++[e])) f) (he:e∈es) :
  Qr C ρ (SS C h L) (.entry x) ty (.tuple ⟨[e.key,e.val]⟩):=⟨rfl,fun w hs=>by
 have hit:=A.heapS hs
 have hm:w.heap[b]?=some (.map ⟨es⟩ clk):=by
  obtain ⟨h',L',he',_,st⟩:=hs
  exact st.fro _ _ (he'.le _ _ (ex.le _ _ hb))
 simp only [execOp,hx]
 refine run_v ?_
 simp only [Instr.entry,bind]
 rw [Sem.run_bind',show (getObj it).run C.P w=.ok (iterO b clk (done++[e])) w by simp [getObj,Sem.run,hit,iterO]]
 simp only [Result.andThen,iterO]
 have hback:((done++[e]).map (·.born)).toArray.back?=some e.born:=by simp
 simp only [hback]
 rw [Sem.run_bind',run_getObj hm]
 have hf:(⟨es⟩:Array MapEntry).find? (fun x=>x.born == e.born)=some e:=by
  rw [show (⟨es⟩:Array MapEntry)=es.toArray from rfl,List.find?_toArray]; exact find_born bn.1 he
 simp only [Result.andThen,bne_self_eq_false,Bool.false_eq_true,if_false,hf]
 rfl⟩
end Go.Z
namespace Go.Z
open Go Go.RowKit
structure retQLM (C:Cfg) (fn:Func) (h0:Heap) (R:Value→Heap→Own→Prop) (e:Exit) (ds:List Deferred) (ρ:Env) (h:Heap) (L:Own):Prop where
 ok:(e=.normal∨e=.ret)∧∃ D f,ds=[{ target:=.collected D,args:=#[] }]∧At L D (.deferred (some [])) f∧Ext h0 h∧∃ v,RetR C fn ρ h (f (.deferred none)) v∧∃ L2,(∃ rest,(f (.deferred none)).Perm (L2++rest))∧R v h L2
theorem ret_okSM {C:Cfg} {fn:Func} {h0 h:Heap} {ρ:Env} {L L2:Own} {rs:List ResultVar} {vs:List Value} {R:Value→Heap→Own→Prop} {e:Exit} {D:Nat} {f:Obj→Own} (hr:fn.results=⟨rs⟩) [hx:Ext h0 h] [a:At L D (.deferred (some [])) f] (r:ResV C.P ρ (f (.deferred none)) rs vs) (sp:Sp L2 (f (.deferred none))) (hR:R (pack vs) h L2) (he:e=.normal∨e=.ret:=by first | exact Or.inr rfl | exact Or.inl rfl) :
  retQLM C fn h0 R e [{ target:=.collected D,args:=#[] }] ρ h L:=⟨⟨he,D,f,rfl,a,hx,_,RetR.of hr r,L2,sp.p,hR⟩⟩
theorem FnIn.introM {C:Cfg} {L:Own} {h:Heap} {f:FuncId} {fn:Func} {c:Code} {args:List Value} {R:Value→Heap→Own→Prop} {n:Nat} (hf:C.P.funcs[f]?=some fn) (hb:fn.body=some c) (hn:fn.ntmps=n) (hl:args.length≤n)
  (hj:J ⟨C.P,none,n,C.w0,C.h0⟩ c (retQLM ⟨C.P,none,n,C.w0,C.h0⟩ fn h R) [] (argEnv args) h L):FnIn C f args.toArray h L R:=by
 intro w hw
 refine (callsIn_wide (n:=0)).1 (callsIn_of_wp_marks hf hb trivial (wpIn_mono (hj _ w (argAg hn hl) hw) ?_))
 rintro e a' w' ⟨ds,ρ,h',L',h1,h2,⟨he,D,g,rfl,at1,hx,v,hv,L2,⟨rest,hp⟩,hR⟩⟩
 have st3:St C.w0 C.h0 h' (g (.deferred none)) (w'.putObj D (.deferred none)):=at1.put h2
 have htk:=run_takeDeferred (P:=C.P) (at1.heap h2)
 have post:LeavesInM Fence.wide 0 C.P fn a'.tmps (fun e w'=>∃ v h' L',e=.returned v∧Ext h h'∧St C.w0 C.h0 h' L' w'∧R v h' L') a'.defers .returning w':=by
  rw [h1.defers]
  refine ⟨by simp,.inl ⟨D,_,rfl,htk,?_⟩⟩
  have hres:=hv { a' with defers:=[] } _ [] ⟨h1.size,rfl,h1.get⟩ st3
  exact ⟨v,hres,v,h',L2,rfl,hx,(st3.perm hp).sub (List.sublist_append_left _ _),hR⟩
 rcases he with rfl | rfl
 ·exact post
 ·exact post
theorem ents_keys {α:Type} {VR:Heap→Value→α→Prop} {h:Heap}:∀ {es:List MapEntry} {m:List (Int×α)},EntsR VR h es m→es.map (·.key)=m.map fun p=>Value.int .i64 p.1
 | [],[],_=>rfl
 | e::es,(k,a)::m,⟨h1,_,h3⟩=>by simp [h1,ents_keys h3]
 | [],_::_,w=>w.elim
 | _::_,[],w=>w.elim
theorem ents_mem {α:Type} {VR:Heap→Value→α→Prop} {h:Heap} {e:MapEntry} {es:List MapEntry} {m:List (Int×α)} (w:EntsR VR h es m) (he:e∈es):∃ k:Int,e.key=.int .i64 k:=by
 have:e.key∈es.map (·.key):=List.mem_map_of_mem he
 rw [ents_keys w] at this
 obtain ⟨p,_,hp⟩:=List.mem_map.1 this
 exact ⟨p.1,hp.symm⟩
theorem perm_of_born {done es:List MapEntry} (h1:(es.map (·.born)).Nodup) (h2:(done.map (·.born)).Nodup) (h3:∀ e∈done,e∈es) (h4:∀ e∈es,e.born∈done.map (·.born)):done.Perm es:=by
 have inj:∀ {e e':MapEntry},e∈es→e'∈es→e.born=e'.born→e=e':=fun {e e'} he he' hb=>by
  have a:=find_born h1 he
  have b:=find_born h1 he'
  rw [hb] at a
  rw [a] at b
  exact Option.some.inj b
 refine (List.perm_ext_iff_of_nodup (List.Pairwise.of_map _ (fun a b h e=>h (e ▸ rfl)) h2) (List.Pairwise.of_map _ (fun a b h e=>h (e ▸ rfl)) h1)).2 fun e=>⟨h3 e,fun he=>?_⟩
 obtain ⟨e',he',hb⟩:=List.mem_map.1 (h4 e he)
 rw [← inj (h3 e' he') he hb]; exact he'
section
variable {C:Cfg} {Q Q':Post} {ds:List Deferred} {ρ:Env} {h h1 h2:Heap} {L L' Ls Lb:Own} {ops:Array Oper} {rest:List Oper}
variable {d:Nat} {ty:TypeId} {pos:String} {after:Array Edge} {x:Operand} {T K E:TypeId} {it:Nat} {f:Obj→Own}
def iter0:Obj:=.mapIter none 0 #[] 0
theorem o_range0 [mp:Mp C.P T K E] (hx:ρ.ev x=.map none)
  (k:∀ it,JL C ops Q rest ds (ρ.set d (.pointer (some ⟨it,0,none⟩))) h ((it,iter0)::L)) (hn:Nat.blt d C.n=true:=by rfl) :
  JL C ops Q (⟨some d,.range T x,ty,pos,after,none⟩::rest) ds ρ h L:=
 JL.val rfl rfl rfl hn fun w hs=>by
  refine ⟨_,h,_,w.alloc iter0,?_,hs.alloc _,k _⟩
  simp only [execOp,hx]
  refine run_v ?_
  simp only [Instr.range,bind]
  rw [Sem.run_bind',und_run mp.u]
  rfl
theorem o_next0 (hx:ρ.ev x=.pointer (some ⟨it,0,none⟩)) (A:At L it iter0 f)
  (k0:JL C ops Q rest ds (ρ.set d (.tuple ⟨[.bool false]⟩)) h L) (hn:Nat.blt d C.n=true:=by rfl) :
  JL C ops Q (⟨some d,.next x false,ty,pos,after,none⟩::rest) ds ρ h L:=
 JL.val rfl rfl rfl hn fun w hs=>by
  have hit:=A.heap hs
  refine ⟨_,h,L,w,?_,hs,k0⟩
  simp only [execOp,hx]
  refine run_v ?_
  simp only [Instr.next,bind]
  rw [Sem.run_bind',show (getObj it).run C.P w=.ok iter0 w by simp [getObj,Sem.run,hit,iter0]]
  rfl
end
end Go.Z
end
section
namespace Go.Z
open Go Go.RowKit
theorem mfind_mput {α:Type} (m:List (Int×α)) (x:Int) (b:α) (y:Int):mfind (mput m x b) y=if y=x then some b else mfind m y:=by
 induction m with
 | nil=>simp [mput,mfind]
 | cons p m ih=>
  obtain ⟨k,a⟩:=p
  simp only [mput]
  by_cases h:x=k
  ·subst h
   simp only [if_true,mfind]
   split<;>rfl
  ·rw [if_neg h]
   simp only [mfind]
   by_cases h2:y=k
   ·subst h2; rw [if_pos rfl,if_neg (fun e=>h e.symm),if_pos rfl]
   ·rw [if_neg h2,ih,if_neg h2]
theorem mfind_mdel {α:Type} {m:List (Int×α)} (nd:(m.map (·.1)).Nodup) (x y:Int):mfind (mdel m x) y=if y=x then none else mfind m y:=by
 induction m with
 | nil=>simp [mdel,mfind]
 | cons p m ih=>
  obtain ⟨k,a⟩:=p
  simp only [List.map_cons,List.nodup_cons] at nd
  simp only [mdel]
  by_cases h:x=k
  ·subst h
   rw [if_pos rfl]
   by_cases h2:y=x
   ·subst h2
    rw [if_pos rfl]
    have:∀ (l:List (Int×α)),y ∉ l.map (·.1)→mfind l y=none:=fun l=>by
     induction l with
     | nil=>intro _; rfl
     | cons q l ih2=>
      intro hq
      simp only [List.map_cons,List.mem_cons,not_or] at hq
      obtain ⟨k2,a2⟩:=q
      simp only [mfind]; rw [if_neg hq.1]; exact ih2 hq.2
    exact this m nd.1
   ·rw [if_neg h2]; simp only [mfind]; rw [if_neg h2]
  ·rw [if_neg h]
   simp only [mfind]
   by_cases h2:y=k
   ·subst h2; rw [if_pos rfl,if_neg (fun e=>h e.symm),if_pos rfl]
   ·rw [if_neg h2,ih nd.2,if_neg h2]
theorem sub_lenM {α:Type} [DecidableEq α]:∀ {l m:List α},l.Nodup→(∀ a∈l,a∈m)→l.length≤m.length
 | [],m,_,_=>Nat.zero_le _
 | a::l,m,hn,hs=>by
  rw [List.nodup_cons] at hn
  have ha:=hs a (by simp)
  have:=sub_lenM (m:=m.erase a) hn.2 (fun b hb=>(List.mem_erase_of_ne (show b≠a from fun e=>hn.1 (e ▸ hb))).2 (hs b (List.mem_cons_of_mem _ hb)))
  rw [List.length_erase_of_mem ha] at this
  have:=List.length_pos_of_mem ha
  rw [List.length_cons]; omega
theorem born_ltM {es done:List MapEntry} {clk:Nat} {e:MapEntry} (hb:Born es clk) (h1:∀ e∈done,e∈es) (h2:(done.map (·.born)).Nodup) (he:e∈es) (hn:e.born ∉ done.map (·.born)):done.length<es.length:=by
 have:=sub_lenM (l:=e.born::done.map (·.born)) (m:=es.map (·.born)) (List.nodup_cons.2 ⟨hn,h2⟩) (fun b hb=>by
  rcases List.mem_cons.1 hb with rfl | hb
  ·exact List.mem_map_of_mem he
  ·obtain ⟨x,hx,rfl⟩:=List.mem_map.1 hb
   exact List.mem_map_of_mem (h1 x hx))
 simp at this; omega
section
variable {C:Cfg} {Q Q':Post} {ds:List Deferred} {ρ:Env} {h h1:Heap} {L:Own} {ops:Array Oper} {rest:List Oper}
variable {d:Nat} {ty:TypeId} {pos:String} {after:Array Edge}
variable {x:Operand} {T K E:TypeId} {b it:Nat} {es done:List MapEntry} {clk:Nat} {f:Obj→Own}
theorem MapF.ents {α:Type} {VR:Heap→Value→α→Prop} {m:List (Int×α)} (w:MapF VR h (.map (some b)) m):∃ es clk,h b=some (.map ⟨es⟩ clk)∧EntsR VR h es m∧Born es clk:=by
 rcases w with ⟨e,_⟩ | ⟨b',o,e,hb,es,clk,rfl,h1,h2⟩
 ·cases e
 ·cases e; exact ⟨es,clk,hb,h1,h2⟩
theorem o_rangeE [mp:Mp C.P T K E] (hx:ρ.ev x=.map (some b)) (hb:h1 b=some (.map ⟨es⟩ clk)) [e:Ext h1 h]
  (k:∀ it,JL C ops Q rest ds (ρ.set d (.pointer (some ⟨it,0,none⟩))) h ((it,iterO b clk [])::L)) (hn:Nat.blt d C.n=true:=by rfl) :
  JL C ops Q (⟨some d,.range T x,ty,pos,after,none⟩::rest) ds ρ h L:=o_range hx (e.le _ _ hb) k hn
theorem o_nextE (hx:ρ.ev x=.pointer (some ⟨it,0,none⟩)) (hb:h1 b=some (.map ⟨es⟩ clk)) [ex:Ext h1 h] (bn:Born es clk) (A:At L it (iterO b clk done) f) (hd:∀ e∈done,e∈es)
  (k0:(∀ e∈es,e.born∈done.map (·.born))→JL C ops Q rest ds (ρ.set d (.tuple ⟨[.bool false]⟩)) h L)
  (k1:∀ e,e∈es→e.born ∉ done.map (·.born)→JL C ops Q rest ds (ρ.set d (.tuple ⟨[.bool true,e.key,e.val]⟩)) h (f (iterO b clk (done++[e])))) (hn:Nat.blt d C.n=true:=by rfl) :
  JL C ops Q (⟨some d,.next x false,ty,pos,after,none⟩::rest) ds ρ h L:=o_next hx (ex.le _ _ hb) bn A hd k0 k1 hn
end
theorem ents_memI {h:Heap} {e:MapEntry}:∀ {es:List MapEntry} {m:List (Int×Int)},EntsR (VI .i64) h es m→e∈es→∃ k v:Int,e.key=.int .i64 k∧e.val=.int .i64 v
 | [],_,_,he=>by cases he
 | x::es,[],w,_=>by cases w
 | x::es,p::m,w,he=>by
  rcases List.mem_cons.1 he with rfl | he
  ·exact ⟨p.1,p.2,w.1,w.2.1⟩
  ·exact ents_memI w.2.2 he
theorem ents_iff {h:Heap} {k v:Int}:∀ {es:List MapEntry} {m:List (Int×Int)},EntsR (VI .i64) h es m→((∃ e∈es,e.key=.int .i64 k∧e.val=.int .i64 v)↔(k,v)∈m)
 | [],[],_=>by simp
 | [],_::_,w=>by cases w
 | x::es,[],w=>by cases w
 | x::es,p::m,w=>by
  have ih:=ents_iff (k:=k) (v:=v) w.2.2
  have h1:x.key=.int .i64 p.1:=w.1
  have h2:x.val=.int .i64 p.2:=w.2.1
  constructor
  ·rintro ⟨e,he,h3,h4⟩
   rcases List.mem_cons.1 he with rfl | he
   ·rw [h1] at h3; rw [h2] at h4
    injection h3 with _ h3; injection h4 with _ h4
    refine List.mem_cons.2 (.inl ?_)
    exact Prod.ext h3.symm h4.symm
   ·exact List.mem_cons_of_mem _ (ih.1 ⟨e,he,h3,h4⟩)
  ·intro hm
   rcases List.mem_cons.1 hm with rfl | hm
   ·exact ⟨x,by simp,h1,h2⟩
   ·obtain ⟨e,he,h3⟩:=ih.2 hm
    exact ⟨e,List.mem_cons_of_mem _ he,h3⟩
def OnceInv (done:List MapEntry) (mm:List (Int×Bool)):Prop:=∀ k:Int,((∃ e∈done,e.key=.int .i64 k∧e.val=.int .i64 1)→mfind mm k=some true)∧(¬(∃ e∈done,e.key=.int .i64 k∧e.val=.int .i64 1)→mfind mm k=none)
theorem OnceInv.nil:OnceInv [] []:=fun k=>⟨fun ⟨e,he,_⟩=>(by cases he),fun _=>rfl⟩
theorem OnceInv.put {done:List MapEntry} {mm:List (Int×Bool)} {e:MapEntry} {k:Int} (w:OnceInv done mm) (h1:e.key=.int .i64 k) (h2:e.val=.int .i64 1):OnceInv (done++[e]) (mput mm k true):=fun y=>by
 rw [mfind_mput]
 by_cases hy:y=k
 ·subst hy
  rw [if_pos rfl]
  exact ⟨fun _=>rfl,fun hn=>absurd ⟨e,by simp,h1,h2⟩ hn⟩
 ·rw [if_neg hy]
  refine ⟨fun ⟨x,hx,h3,h4⟩=>(w y).1 ?_,fun hn=>(w y).2 fun ⟨x,hx,h3⟩=>hn ⟨x,by simp [hx],h3⟩⟩
  rcases List.mem_append.1 hx with hx | hx
  ·exact ⟨x,hx,h3,h4⟩
  ·simp at hx; subst hx
   rw [h1] at h3; injection h3 with _ h3; exact absurd h3.symm hy
theorem OnceInv.skip {done:List MapEntry} {mm:List (Int×Bool)} {e:MapEntry} {k:Int} (w:OnceInv done mm) (h1:e.key=.int .i64 k) (h2:e.val≠.int .i64 1):OnceInv (done++[e]) mm:=fun y=>by
 refine ⟨fun ⟨x,hx,h3,h4⟩=>(w y).1 ?_,fun hn=>(w y).2 fun ⟨x,hx,h3⟩=>hn ⟨x,by simp [hx],h3⟩⟩
 rcases List.mem_append.1 hx with hx | hx
 ·exact ⟨x,hx,h3,h4⟩
 ·simp at hx; subst hx
  exact absurd h4 h2
theorem mfind_once (m:List (Int×Int)) (k:Int):((k,1)∈m→mfind (M.onceOf m) k=some true)∧((k,1) ∉ m→mfind (M.onceOf m) k=none):=by
 induction m with
 | nil=>exact ⟨fun h=>(by cases h),fun _=>rfl⟩
 | cons p m ih=>
  obtain ⟨a,v⟩:=p
  unfold M.onceOf at ih ⊢
  by_cases hv:v=1
  ·subst hv
   rw [List.filter_cons_of_pos (by simp),List.map_cons]
   simp only [mfind]
   by_cases hk:k=a
   ·subst hk; rw [if_pos rfl]; exact ⟨fun _=>rfl,fun h=>absurd (by simp) h⟩
   ·rw [if_neg hk]
    refine ⟨fun h=>ih.1 ?_,fun h=>ih.2 fun h2=>h (List.mem_cons_of_mem _ h2)⟩
    rcases List.mem_cons.1 h with h | h
    ·injection h with h; exact absurd h hk
    ·exact h
  ·rw [List.filter_cons_of_neg (by simpa using hv)]
   refine ⟨fun h=>ih.1 ?_,fun h=>ih.2 fun h2=>h (List.mem_cons_of_mem _ h2)⟩
   rcases List.mem_cons.1 h with h | h
   ·injection h with _ h; exact absurd h.symm hv
   ·exact h
theorem OnceInv.done {h:Heap} {done es:List MapEntry} {clk:Nat} {mm:List (Int×Bool)} {m:List (Int×Int)} (w:OnceInv done mm) (her:EntsR (VI .i64) h es m) (hb:Born es clk) (h1:∀ e∈done,e∈es) (h2:(done.map (·.born)).Nodup) (h4:∀ e∈es,e.born∈done.map (·.born)):∀ k,mfind mm k=mfind (M.onceOf m) k:=fun k=>by
 have hp:=perm_of_born hb.1 h2 h1 h4
 have e1:(∃ e∈done,e.key=.int .i64 k∧e.val=.int .i64 1)↔(k,1)∈m:=by
  rw [← ents_iff her]
  exact ⟨fun ⟨e,he,x⟩=>⟨e,hp.mem_iff.1 he,x⟩,fun ⟨e,he,x⟩=>⟨e,hp.mem_iff.2 he,x⟩⟩
 by_cases hk:(k,(1:Int))∈m
 ·rw [(w k).1 (e1.2 hk),(mfind_once m k).1 hk]
 ·rw [(w k).2 (fun x=>hk (e1.1 x)),(mfind_once m k).2 hk]
end Go.Z
end
