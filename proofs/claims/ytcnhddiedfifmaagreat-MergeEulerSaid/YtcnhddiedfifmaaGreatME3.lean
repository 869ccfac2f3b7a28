/- Texts of ours, joined: C5, M6M, C6, C7, C8, C9, C10, C11, C12, C13, W5, W6, W7, W8, E1, M7M, E2, Run, E3, E4, C14, C15, C16, C17, C18, C19, C20, E5, E6, E7, TyW. -/
import Derived.Test.YtcnhddiedfifmaaGreatME2
import Derived.Test.YtcnhddiedfifmaaGreatME1
set_option linter.unusedSimpArgs false
set_option linter.unusedVariables false
set_option linter.unusedSectionVars false
set_option linter.deprecated false
set_option maxHeartbeats 4000000
section
namespace Go.Z
def KM (m:List (Int×Int)) (g:Int→Int):Prop:=(m.map (·.1)).Nodup∧∀ k,mfind m k=if g k=0 then none else some (g k)
theorem mfind_mem {α:Type} {m:List (Int×α)} {k:Int}:mfind m k≠none↔k∈m.map (·.1):=by
 induction m with
 | nil=>simp [mfind]
 | cons p m ih=>
  obtain ⟨q,a⟩:=p
  rw [mfind]
  by_cases h:k=q
  ·simp [h]
  ·rw [if_neg h,ih]; simp [h]
theorem keys_mput {α:Type} {m:List (Int×α)} {x:Int} {a:α} {k:Int}:k∈(mput m x a).map (·.1)↔k=x∨k∈m.map (·.1):=by
 rw [← mfind_mem,← mfind_mem,mfind_mput]
 by_cases h:k=x<;>simp [h]
theorem nd_mput {α:Type} {x:Int} {a:α}:∀ {m:List (Int×α)},(m.map (·.1)).Nodup→((mput m x a).map (·.1)).Nodup
 | [],_=>by simp [mput]
 | (q,b)::m,h=>by
  rw [mput]
  rw [List.map_cons,List.nodup_cons] at h
  split
  ·rename_i e
   rw [List.map_cons,List.nodup_cons]
   exact ⟨by rw [e]; exact h.1,h.2⟩
  ·rename_i e
   rw [List.map_cons,List.nodup_cons]
   refine ⟨fun hk=>?_,nd_mput h.2⟩
   rcases keys_mput.1 hk with rfl | hk
   ·exact e rfl
   ·exact h.1 hk
theorem mdel_sub {α:Type} {x:Int}:∀ {m:List (Int×α)},((mdel m x).map (·.1)).Sublist (m.map (·.1))
 | []=>List.Sublist.refl _
 | (q,b)::m=>by
  rw [mdel]
  split
  ·exact List.sublist_cons_self _ _
  ·exact List.Sublist.cons_cons _ mdel_sub
theorem KM.get {m:List (Int×Int)} {g:Int→Int} (w:KM m g) (k:Int):mget m k 0=g k:=by
 unfold mget; rw [w.2 k]
 by_cases h:g k=0<;>simp [h]
theorem KM.add {m:List (Int×Int)} {g:Int→Int} (w:KM m g) {i c:Int} (h1:Ft (g i)) (h2:Ft c) (h3:Ft (g i+c)):∃ m',M.chains_sum_add m i c=some m'∧KM m' fun k=>g k+if i=k then c else 0:=by
 unfold M.chains_sum_add
 rw [w.get,iadd_ok h1 h2,bnd_pure,isign_ok h3,bnd_pure]
 by_cases h:g i+c=0
 ·rw [if_pos ((sign0 _).2 h)]
  refine ⟨_,rfl,w.1.sublist mdel_sub,fun k=>?_⟩
  rw [mfind_mdel w.1,w.2 k]
  by_cases e:k=i
  ·subst e; simp [h]
  ·have e':¬ i=k:=fun q=>e q.symm
   simp [e,e']
 ·rw [if_neg (fun e=>h ((sign0 _).1 e))]
  refine ⟨_,rfl,nd_mput w.1,fun k=>?_⟩
  rw [mfind_mput,w.2 k]
  by_cases e:k=i
  ·subst e; simp [h]
  ·have e':¬ i=k:=fun q=>e q.symm
   simp [e,e']
theorem cf_snoc {u:List TFace} {x:TFace} (h:∀ f∈u,f.ID≠x.ID) (k:Int):cf (u++[x]) k=cf u k+if x.ID=k then x.C else 0:=by
 induction u with
 | nil=>simp [cf]
 | cons f u ih=>
  have h1:=h f (by simp)
  have:=ih fun g hg=>h g (by simp [hg])
  rw [List.cons_append,cf,cf]
  by_cases e:f.ID=k
  ·rw [if_pos e,if_pos e,if_neg (by omega)]; omega
  ·rw [if_neg e,if_neg e,this]
theorem so_app {l m:List TFace}:∀ {x:Int},so x (l++m)→∀ f∈l,∀ g∈m,f.ID<g.ID:=by
 induction l with
 | nil=>intro x _ f hf; cases hf
 | cons t l ih=>
  intro x s f hf g hg
  rcases List.mem_cons.1 hf with rfl | hf
  ·exact (so_lt s.2.2 g (by simp [hg])).1
  ·exact ih s.2.2 f hf g hg
theorem cf_take {l:List TFace} (h:Gd l) {i:Nat} {x:TFace} (hx:l[i]?=some x) (k:Int):cf (l.take (i+1)) k=cf (l.take i) k+if x.ID=k then x.C else 0:=by
 rw [List.take_add_one,hx]
 refine cf_snoc (fun f hf=>?_) k
 obtain ⟨z,s⟩:=h
 have:l=l.take i++(x::l.drop (i+1)):=by rw [← drop_cons hx,List.take_append_drop]
 rw [this] at s
 have:=so_app s f hf x (by simp)
 omega
theorem so_map {g:Int→Int}:∀ {ks:List Int} {x:Int},(∀ k∈ks,x<k)→ks.Pairwise (· < ·)→(∀ k∈ks,g k≠0)→so x (ks.map fun k=>(⟨k,g k⟩:TFace))
 | [],_,_,_,_=>trivial
 | k::ks,x,h1,h2,h3=>by
  rw [List.pairwise_cons] at h2
  exact ⟨h1 k (by simp),h3 k (by simp),so_map h2.1 h2.2 fun y hy=>h3 y (by simp [hy])⟩
theorem cf_map {g:Int→Int} (k:Int):∀ {ks:List Int},cf (ks.map fun k=>(⟨k,g k⟩:TFace)) k=if k∈ks then g k else 0
 | []=>by simp [cf]
 | q::ks=>by
  rw [List.map_cons,cf,cf_map k]
  by_cases h:q=k
  ·simp [h]
  ·rw [if_neg h]; simp [Ne.symm h]
theorem srtI_sorted {l:List Int} (h:l.Nodup):(M.srtI l).Pairwise (· < ·):=by
 have h1:(M.srtI l).Pairwise (fun a b=>decide (a≤b)=true):=List.pairwise_mergeSort (by intro a b c; simp; omega) (by intro a b; simp; omega) l
 have h2:(M.srtI l).Nodup:=(List.mergeSort_perm l _).nodup_iff.2 h
 refine (h1.and h2).imp fun {a b} h=>?_
 have:=h.1; have:=h.2
 simp at *; omega
theorem srtI_mem {l:List Int} {k:Int}:k∈M.srtI l↔k∈l:=(List.mergeSort_perm l _).mem_iff
theorem srtI_len {l:List Int}:(M.srtI l).length=l.length:=(List.mergeSort_perm l _).length_eq
theorem KM.chain {m:List (Int×Int)} {g:Int→Int} (w:KM m g) (lm:m.length≤1000000):∃ l,M.chains_sum_chain m=some l∧Gd l∧∀ k,cf l k=g k:=by
 have hk:∀ k,k∈M.srtI (m.map (·.1))↔g k≠0:=fun k=>by
  rw [srtI_mem,← mfind_mem,w.2 k]
  by_cases h:g k=0<;>simp [h]
 refine ⟨(M.srtI (m.map (·.1))).map fun k=>(⟨k,g k⟩:TFace),?_,?_,fun k=>?_⟩
 ·unfold M.chains_sum_chain M.skeys
  rw [if_pos lm,bnd_pure]
  have hlen:(M.srtI (m.map (·.1))).length≤1000000:=by rw [srtI_len]; simpa using lm
  rw [rngL_fold (l:=M.srtI (m.map (·.1))) (fun (a:List TFace) (k:Int)=>a++[(⟨k,g k⟩:TFace)]) (by omega) (fun n x s hx hs=>?_) rfl]
  ·unfold M.chains_sum_chain_k1
   congr 1
   generalize M.srtI (m.map (·.1))=ks
   have:∀ (ks:List Int) (a:List TFace),ks.foldl (fun a k=>a++[(⟨k,g k⟩:TFace)]) a=a++ks.map fun k=>(⟨k,g k⟩:TFace):=by
    intro ks
    induction ks with
    | nil=>simp
    | cons k ks ih=>intro a; rw [List.foldl_cons,ih]; simp
   simpa using this ks []
  ·have hn:n<(M.srtI (m.map (·.1))).length:=(List.getElem?_eq_some_iff.1 hx).1
   have hsl:s.length=n:=by
    subst hs
    have:∀ (ks:List Int) (a:List TFace),(ks.foldl (fun a k=>a++[(⟨k,g k⟩:TFace)]) a).length=a.length+ks.length:=by
     intro ks
     induction ks with
     | nil=>simp
     | cons k ks ih=>intro a; rw [List.foldl_cons,ih]; simp; omega
    rw [this]; simp; omega
   unfold M.chains_sum_chain_b1
   dsimp only
   rw [w.get,app_at (by simp; omega),bnd_pure]
 ·cases hks:M.srtI (m.map (·.1)) with
  | nil=>exact Gd.nil
  | cons k ks=>
   have hs:=srtI_sorted w.1
   rw [hks] at hs hk
   refine ⟨k-1,so_map (fun y hy=>?_) hs fun y hy=>(hk y).1 hy⟩
   rw [List.pairwise_cons] at hs
   rcases List.mem_cons.1 hy with rfl | hy
   ·omega
   ·have:=hs.1 y hy; omega
 ·rw [cf_map]
  by_cases h:g k=0
  ·rw [if_neg (fun e=>(hk k).1 e h),h]
  ·rw [if_pos ((hk k).2 h)]
section
variable {S:List Int} {n m k':Nat} {a b:List TFace} {k:Int}
theorem Ch.take (h:Ch S n a) (i:Nat):Ch S n (a.take i):=by
 refine ⟨?_,fun f hf=>h.2.1 f (List.mem_of_mem_take hf),fun f hf=>h.2.2 f (List.mem_of_mem_take hf)⟩
 obtain ⟨z,s⟩:=h.1
 refine ⟨z,?_⟩
 have:∀ (l:List TFace) (z:Int) (i:Nat),so z l→so z (l.take i):=by
  intro l
  induction l with
  | nil=>intro z i s; simpa using s
  | cons t l ih=>
   intro z i s
   cases i with
   | zero=>trivial
   | succ i=>exact ⟨s.1,s.2.1,ih _ i s.2.2⟩
 exact this a z i s
theorem Ch.chainsAdd (ha:Ch S n a) (hb:Ch S m b) (hk:k.natAbs<2^k') (hn:max n (k'+m)+1≤1000000) (hS:S.length≤1000000):M.chains_Add a b k=some (Z.pl a b k):=by
 have la:=ha.len
 have lb:=hb.len
 unfold M.chains_Add
 refine rngL_eq (fun i s=>KM s (cf (a.take i))) _ (by omega) ⟨by simp,fun k=>by simp [mfind,cf]⟩ (fun i x s hx hp=>.inl ?_) (fun s hp=>?_)
 ·have h1:=((ha.take i).2.1.cf x.ID)
  have hm:=List.mem_of_getElem? hx
  have h2:Ft (cf (a.take i) x.ID+x.C):=by
   have:=((ha.take (i+1)).2.1.cf x.ID)
   rw [cf_take ha.1 hx,if_pos rfl] at this
   exact ft_bits this (by omega)
  obtain ⟨m',h3,h4⟩:=hp.add (i:=x.ID) (c:=x.C) (ft_bits h1 (by omega)) (ha.ft (by omega) x hm) h2
  unfold M.chains_Add_b2
  dsimp only
  rw [h3,bnd_pure]
  refine ⟨m',rfl,?_⟩
  rw [show cf (a.take (i+1))=fun k=>cf (a.take i) k+if x.ID=k then x.C else 0 from funext fun k=>cf_take ha.1 hx k]
  exact h4
 ·rw [List.take_of_length_le (Nat.le_refl _)] at hp
  unfold M.chains_Add_k2
  have hpl:=Gd.pl (k:=k) ha.1 hb.1
  refine rngL_eq (fun i s=>KM s fun c=>cf a c+k*cf (b.take i) c) _ (by omega) (by simpa [cf] using hp) (fun i x s hx hp=>.inl ?_) (fun s hp=>?_)
  ·have hm:=List.mem_of_getElem? hx
   have e1:cf (b.take i) x.ID=0:=by
    refine cf_none fun f hf=>?_
    obtain ⟨z,t⟩:=hb.1
    rw [show b=b.take i++(x::b.drop (i+1)) by rw [← drop_cons hx,List.take_append_drop]] at t
    have:=so_app t f hf x (by simp)
    omega
   have h5:=mul_bits hk (hb.2.1 x hm)
   have h6:=add_bits (ha.2.1.cf x.ID) h5
   obtain ⟨m',h3,h4⟩:=hp.add (i:=x.ID) (c:=k*x.C) (by rw [e1]; simpa using ft_bits (ha.2.1.cf x.ID) (by omega)) (ft_bits h5 (by omega)) (by rw [e1]; simpa using ft_bits h6 (by omega))
   unfold M.chains_Add_b1
   dsimp only
   rw [imul_ok (ft_bits hk (by omega)) (hb.ft (by omega) x hm),bnd_pure,h3,bnd_pure]
   refine ⟨m',rfl,?_⟩
   rw [show (fun c=>cf a c+k*cf (b.take (i+1)) c)=fun c=>(cf a c+k*cf (b.take i) c)+if x.ID=c then k*x.C else 0 from funext fun c=>by
    rw [cf_take hb.1 hx,Int.mul_add]; split<;>omega]
   exact h4
  ·rw [List.take_of_length_le (Nat.le_refl _)] at hp
   have hlen:s.length≤1000000:=by
    have:=sub_lenM hp.1 (m:=S) fun c hc=>by
     rw [← mfind_mem,hp.2 c] at hc
     by_cases e:cf a c=0
     ·refine cf_in hb.2.2 (c:=c) fun e2=>?_
      simp [e,e2] at hc
     ·exact cf_in ha.2.2 e
    simp at this; omega
   obtain ⟨l,h1,h2,h3⟩:=hp.chain hlen
   unfold M.chains_Add_k1
   dsimp only
   rw [h1,bnd_pure]
   congr 1
   exact h2.ext hpl.1 fun c=>by rw [h3,hpl.2]
end
end Go.Z
end
section
namespace Go.Z.M
open Go.Z
def l31_segment  : Option (List TCell):=
 bnd (M.r25_Point 1) fun y26=>bnd (M.r25_Point 2) fun y36=>bnd (M.r25_Edge 3 1 2) fun y46=>some [y26,y36,y46]
def r31_Apply_k1:(List TFace)→Option (((List TFace)) ⊕ (List TFace))
 | v52=>some (.inl v52)
def r31_Apply_b1 (x48:TFace) (i58:Nat) (x65:TImage):(List TFace)→Option (((List TFace)) ⊕ (((List TFace)) ⊕ (List TFace)))
 | v52=>if x65.ID=x48.ID then (bnd (M.r25_Plus v52 x65.X x48.C) fun y100=>some (.inl y100)) else (some (.inl v52))
def r31_Apply_k2:(List TFace)→Option (List TFace)
 | v35=>some v35
def r31_Apply_b2 (x0:List TImage) (i41:Nat) (x48:TFace):(List TFace)→Option (((List TFace)) ⊕ (List TFace))
 | v35=>rngL (M.r31_Apply_b1 x48) M.r31_Apply_k1 x0 v35
def r31_Apply (x0:List TImage) (x1:List TFace):Option (List TFace):=
 rngL (M.r31_Apply_b2 x0) M.r31_Apply_k2 x1 ([]:List TFace)
def l31_sanity_j1 (v356:Bool) (v365:Bool) (v561:Bool):Option Bool:=
 bnd (M.l31_segment) fun y644=>bnd (M.merge_Shrink y644) fun y654=>if v356=true then (if v365=true then (if v561=true then (if (y654.1.length:Int)=1 then (if (y654.2.length:Int)=3 then (bnd (M.merge_Free ([]:List TCell)) fun y677=>some (decide ((y677.length:Int)=0))) else (some false)) else (some false)) else (some false)) else (some false)) else (some false)
def l31_sanity_j2 (y170:(List TCell)×(List TImage)×Int) (y350:(List (Int×Int))) (v356:Bool) (v365:Bool):Option Bool:=
 bnd (M.r25_Point 1) fun y512=>bnd (M.r25_Point 2) fun y522=>bnd (M.r25_Edge 3 1 7) fun y532=>bnd (M.r25_Point 7) fun y542=>bnd (M.r25_Edge 8 7 2) fun y552=>bnd (M.r25_Same y170.1 [y512,y522,y532,y542,y552]) fun y690=>if y690=true then (bnd (M.r25_Sum [3,1]) fun y703=>bnd (M.r31_Apply y170.2.1 y703) fun y713=>bnd (M.r25_Sum [3,1,8,1]) fun y729=>bnd (M.r25_SameChain y713 y729) fun y739=>if y739=true then (if (y350.length:Int)=2 then (nth y350 0 fun x742=>if (x742.1 == 3 && x742.2 == 1)=true then (nth y350 1 fun x753=>(M.l31_sanity_j1 v356 v365) (x753.1 == 3 && x753.2 == 2)) else ((M.l31_sanity_j1 v356 v365) false)) else ((M.l31_sanity_j1 v356 v365) false)) else ((M.l31_sanity_j1 v356 v365) false)) else ((M.l31_sanity_j1 v356 v365) false)
def l31_sanity_j3 (y58:(List TCell)×(List TImage)×Int) (y88:(List TCell)×(List TImage)×Int) (y170:(List TCell)×(List TImage)×Int) (y350:(List (Int×Int))) (v356:Bool):Option Bool:=
 bnd (M.r25_Point 1) fun y766=>bnd (M.r25_Same y58.1 [y766,(TCell.mk 3 1 ([]:List TFace)),(TCell.mk 5 2 ([]:List TFace))]) fun y782=>if y782=true then (bnd (M.r25_Sum [4,1]) fun y795=>bnd (M.r31_Apply y58.2.1 y795) fun y805=>bnd (M.r25_Sum [3,1]) fun y821=>bnd (M.r25_SameChain y805 y821) fun y831=>if y831=true then (bnd (M.r25_Point 1) fun y838=>bnd (M.r25_Same y88.1 [y838]) fun y854=>if y854=true then (bnd (M.r25_Sum [2,1,3,1]) fun y867=>bnd (M.r31_Apply y88.2.1 y867) fun y877=>bnd (M.r25_Sum [1,1]) fun y893=>bnd (M.r25_SameChain y877 y893) fun y903=>(M.l31_sanity_j2 y170 y350 v356) y903) else ((M.l31_sanity_j2 y170 y350 v356) false)) else ((M.l31_sanity_j2 y170 y350 v356) false)) else ((M.l31_sanity_j2 y170 y350 v356) false)
def l31_sanity  : Option Bool:=
 bnd (M.r25_Point 1) fun y26=>bnd (M.r25_Sum [3,1,4,(-1)]) fun y42=>bnd (M.merge_Identify [y26,(TCell.mk 3 1 ([]:List TFace)),(TCell.mk 4 1 ([]:List TFace)),(TCell.mk 5 2 y42)] 3 4) fun y58=>bnd (M.l31_segment) fun y78=>bnd (M.merge_Collapse y78 3 2) fun y88=>bnd (M.r25_Point 1) fun y108=>bnd (M.r25_Sum [1,2]) fun y124=>bnd (M.merge_Collapse [y108,(TCell.mk 2 1 y124)] 2 1) fun y140=>bnd (M.l31_segment) fun y160=>bnd (M.merge_Subdivide y160 3 (7,8)) fun y170=>bnd (M.merge_Identify [y26,(TCell.mk 3 1 ([]:List TFace)),(TCell.mk 4 1 ([]:List TFace)),(TCell.mk 5 2 y42)] 1 3) fun y190=>bnd (M.merge_Identify [y26,(TCell.mk 3 1 ([]:List TFace)),(TCell.mk 4 1 ([]:List TFace)),(TCell.mk 5 2 y42)] 3 3) fun y210=>bnd (M.merge_Identify [y26,(TCell.mk 3 1 ([]:List TFace)),(TCell.mk 4 1 ([]:List TFace)),(TCell.mk 5 2 y42)] 3 9) fun y230=>bnd (M.l31_segment) fun y250=>bnd (M.merge_Subdivide y250 1 (7,8)) fun y260=>bnd (M.l31_segment) fun y280=>bnd (M.merge_Subdivide y280 3 (7,7)) fun y290=>bnd (M.l31_segment) fun y310=>bnd (M.merge_Collapse y310 3 9) fun y320=>bnd (M.l31_segment) fun y340=>bnd (M.merge_Free y340) fun y350=>if y58.2.2=0 then (if y88.2.2=0 then (if y140.2.2=310 then (if y170.2.2=0 then (if y190.2.2=260 then (if y210.2.2=310 then (if y230.2.2=250 then (if y260.2.2=260 then (if y290.2.2=253 then ((M.l31_sanity_j3 y58 y88 y170 y350) (decide (y320.2.2=250))) else ((M.l31_sanity_j3 y58 y88 y170 y350) false)) else ((M.l31_sanity_j3 y58 y88 y170 y350) false)) else ((M.l31_sanity_j3 y58 y88 y170 y350) false)) else ((M.l31_sanity_j3 y58 y88 y170 y350) false)) else ((M.l31_sanity_j3 y58 y88 y170 y350) false)) else ((M.l31_sanity_j3 y58 y88 y170 y350) false)) else ((M.l31_sanity_j3 y58 y88 y170 y350) false)) else ((M.l31_sanity_j3 y58 y88 y170 y350) false)) else ((M.l31_sanity_j3 y58 y88 y170 y350) false)
def r31_Coefficient_k1:Unit→Option Int
 | ()=>some 0
def r31_Coefficient_b1 (x1:Int) (i27:Nat) (x34:TFace):Unit→Option ((Unit) ⊕ Int)
 | ()=>if x34.ID=x1 then (lft (some x34.C)) else (some (.inl ()))
def r31_Coefficient (x0:List TFace) (x1:Int):Option Int:=
 rngL (M.r31_Coefficient_b1 x1) M.r31_Coefficient_k1 x0 ()
def r31_Commutes_b1 (x1:List TCell) (v56:Int) (v65:List TCell) (v70:List TImage):Int→Option ((Int) ⊕ (((List TCell)×(List TImage)×Int) ⊕ Bool))
 | v105=>nth v70 v56 fun x112=>if v105<(x112.X.length:Int) then (nth x112.X v105 fun x130=>bnd (M.r25_Find x1 x130.ID) fun y150=>if y150.2=true then (nth v65 v56 fun x161=>if y150.1.Dim=x161.Dim then (chk64 (v105+1)<|some (.inl (v105+1))) else (lft (lft (some false)))) else (lft (lft (some false)))) else (lft (chk64 (v56+1)<|some (.inl (v65,v70,v56+1))))
def r31_Commutes_j2 (x1:List TCell) (v56:Int) (v65:List TCell) (v70:List TImage) (v75:Bool):Option (((List TCell)×(List TImage)×Int) ⊕ Bool):=
 if v75=true then (lft (some false)) else (loop (M.r31_Commutes_b1 x1 v56 v65 v70) 0)
def r31_Commutes_k3:Unit→Option Bool
 | ()=>some true
def r31_Commutes_b3 (x1:List TCell) (v51:List TImage) (i217:Nat) (x224:TCell):Unit→Option ((Unit) ⊕ Bool)
 | ()=>nth v51 (i217:Int) fun x228=>bnd (M.r25_Around x1 x228.X) fun y247=>bnd (M.r31_Apply v51 x224.B) fun y266=>bnd (M.r25_SameChain y247 y266) fun y276=>if y276=true then (some (.inl ())) else (lft (some false))
def r31_Commutes_b4 (x1:List TCell):(List TCell)×(List TImage)×Int→Option (((List TCell)×(List TImage)×Int) ⊕ Bool)
 | (v46,v51,v56)=>if v56<(v46.length:Int) then (nth v51 v56 fun x178=>nth v46 v56 fun x192=>if x178.ID=x192.ID then (bnd (M.r25_ValidChain x178.X) fun y215=>(M.r31_Commutes_j2 x1 v56) v46 v51 (!y215)) else ((M.r31_Commutes_j2 x1 v56) v46 v51 true)) else (lft (rngL (M.r31_Commutes_b3 x1 v51) M.r31_Commutes_k3 v46 ()))
def r31_Commutes (x0:List TCell) (x1:List TCell) (x2:List TImage):Option Bool:=
 if (x2.length:Int)=(x0.length:Int) then (loop (M.r31_Commutes_b4 x1) (x0,x2,0)) else (some false)
def r31_IsFree_j1 (x1:Int) (v53:Int) (v63:List TCell) (v68:Int):Option (((List TCell)×Int×Int) ⊕ Bool):=
 nth v63 v53 fun x95=>bnd (M.r31_Coefficient x95.B x1) fun y114=>bnd (M.isign y114) fun y125=>if y125=0 then (chk64 (v53+1)<|some (.inl (v63,v53+1,v68))) else (lft (some false))
def r31_IsFree_b2 (x1:Int) (x2:Int) (y30:TCell×Bool):(List TCell)×Int×Int→Option (((List TCell)×Int×Int) ⊕ Bool)
 | (v48,v53,v54)=>if v53<(v48.length:Int) then (nth v48 v53 fun x128=>bnd (M.r31_Coefficient x128.B x2) fun y147=>bnd (M.isign y147) fun y158=>if y158=0 then ((M.r31_IsFree_j1 x1 v53) v48 v54) else (chk64 (v54+1)<|(M.r31_IsFree_j1 x1 v53) v48 (v54+1))) else (lft (if v54=1 then (bnd (M.r31_Coefficient y30.1.B x2) fun y167=>bnd (M.iabs y167) fun y178=>bnd (M.iof 1) fun y189=>bnd (M.isame y178 y189) fun y200=>some y200) else (some false)))
def r31_IsFree (x0:List TCell) (x1:Int) (x2:Int):Option Bool:=
 bnd (M.r25_Find x0 x1) fun y30=>loop (M.r31_IsFree_b2 x1 x2 y30) (x0,0,0)
def r31_Free_k1:(List (Int×Int))→Option (((List (Int×Int))) ⊕ (List (Int×Int)))
 | v46=>some (.inl v46)
def r31_Free_b1 (x0:List TCell) (x42:TCell) (i53:Nat) (x69:TFace):(List (Int×Int))→Option (((List (Int×Int))) ⊕ (((List (Int×Int))) ⊕ (List (Int×Int))))
 | v46=>bnd (M.r31_IsFree x0 x42.ID x69.ID) fun y94=>if y94=true then (bnd (app v46 [(x42.ID,x69.ID)]) fun l108=>some (.inl l108)) else (some (.inl v46))
def r31_Free_k2:(List (Int×Int))→Option (List (Int×Int))
 | v28=>some v28
def r31_Free_b2 (x0:List TCell) (i35:Nat) (x42:TCell):(List (Int×Int))→Option (((List (Int×Int))) ⊕ (List (Int×Int)))
 | v28=>rngL (M.r31_Free_b1 x0 x42) M.r31_Free_k1 x42.B v28
def r31_Free (x0:List TCell):Option (List (Int×Int)):=
 rngL (M.r31_Free_b2 x0) M.r31_Free_k2 x0 ([]:List (Int×Int))
end Go.Z.M
end
section
namespace Go.Z
def bsb {α:Type} (x0:List α) (x1:Int) (x2:α→Int→Option Int):Int×Int→Option ((Int×Int) ⊕ (Int×Bool))
 | (v25,v26)=>if v26<v25 then (chk64 (v26+v25)<|chk64 (Int.fdiv (GoWrap.u64 (v26+v25)) 2)<|nth x0 (Int.fdiv (GoWrap.u64 (v26+v25)) 2) fun x37=>bnd (x2 x37 x1) fun y56=>if y56<0 then (chk64 ((Int.fdiv (GoWrap.u64 (v26+v25)) 2)+1)<|some (.inl (v25,(Int.fdiv (GoWrap.u64 (v26+v25)) 2)+1))) else (some (.inl (Int.fdiv (GoWrap.u64 (v26+v25)) 2,v26)))) else (lft (if v26<(x0.length:Int) then (nth x0 v26 fun x60=>bnd (x2 x60 x1) fun y79=>some (v26,decide (y79=0))) else (some (v26,false))))
def Rise {α:Type} (key:α→Int) (l:List α):Prop:=l.Pairwise fun x y=>key x<key y
theorem Rise.lt {α:Type} {key:α→Int} {l:List α} (h:Rise key l) {i j:Nat} {x y:α} (hx:l[i]?=some x) (hy:l[j]?=some y) (hij:i<j):key x<key y:=by
 obtain ⟨h1,rfl⟩:=List.getElem?_eq_some_iff.1 hx
 obtain ⟨h2,rfl⟩:=List.getElem?_eq_some_iff.1 hy
 exact List.pairwise_iff_getElem.1 h i j h1 h2 hij
theorem u64_small {n:Nat} (h:n≤100000000000):GoWrap.u64 (n:Int)=(n:Int):=by
 unfold GoWrap.u64; omega
theorem bs_ok {α:Type} {key:α→Int} {l:List α} {i:Int} {cmp:α→Int→Option Int} (hs:Rise key l) (hc:∀ x,cmp x i=some (if key x<i then -1 else if i<key x then 1 else 0)) (ll:l.length≤1000000) :
  ∃ j:Nat,loop (bsb l i cmp) ((l.length:Int),0)=some ((j:Int),decide (i∈l.map key))∧(i∈l.map key→∃ x,l[j]?=some x∧key x=i):=by
 refine Exists.elim (loop_or (b:=bsb l i cmp) (s:=((l.length:Int),0))
  (fun s=>∃ lo hi:Nat,s=((hi:Int),(lo:Int))∧lo≤hi∧hi≤l.length∧(∀ j x,l[j]?=some x→j<lo→key x<i)∧(∀ j x,l[j]?=some x→hi≤j→i≤key x))
  (fun s=>(s.1-s.2).toNat) (fun r=>∃ j:Nat,r=((j:Int),decide (i∈l.map key))∧(i∈l.map key→∃ x,l[j]?=some x∧key x=i))
  ⟨0,l.length,rfl,Nat.zero_le _,Nat.le_refl _,fun j x _ h=>by omega,fun j x hx h=>by have:=(List.getElem?_eq_some_iff.1 hx).1; omega⟩ (by show ((l.length:Int)-0).toNat<_; omega) ?_) ?_
 rotate_left
 ·rintro r ⟨h1,j,rfl,h2⟩; exact ⟨j,h1,h2⟩
 ·rintro _ ⟨lo,hi,rfl,h1,h2,h3,h4⟩
  unfold bsb
  dsimp only
  by_cases hlt:lo<hi
  ·refine .inl ?_
   obtain ⟨x,hx⟩:=lt_get (l:=l) (i:=(lo+hi) / 2) (by omega)
   have e1:((lo:Int)+(hi:Int))=((lo+hi:Nat):Int):=by omega
   have e2:Int.fdiv (GoWrap.u64 ((lo:Int)+(hi:Int))) 2=(((lo+hi) / 2:Nat):Int):=by
    rw [e1,u64_small (by omega),Int.fdiv_eq_ediv_of_nonneg _ (by omega)]; omega
   rw [if_pos (by omega),chk64_pos (by omega),e2,chk64_pos (by omega),nth_at hx,hc,bnd_pure]
   by_cases hk:key x<i
   ·rw [if_pos hk,if_pos (by omega),chk64_pos (by omega)]
    refine ⟨_,rfl,⟨(lo+hi) / 2+1,hi,by simp,by omega,h2,fun j y hy hj=>?_,h4⟩,by simp; omega⟩
    rcases Nat.lt_or_eq_of_le (Nat.lt_succ_iff.1 hj) with hj | rfl
    ·have:=hs.lt hy hx hj; omega
    ·rw [hx] at hy; rw [← Option.some.inj hy]; exact hk
   ·rw [if_neg hk]
    refine ⟨_,?_,⟨lo,(lo+hi) / 2,rfl,by omega,by omega,h3,fun j y hy hj=>?_⟩,by simp; omega⟩
    ·rw [if_neg (by split<;>omega)]
    ·rcases Nat.lt_or_eq_of_le hj with hj | rfl
     ·have:=hs.lt hx hy hj; omega
     ·rw [hx] at hy; rw [← Option.some.inj hy]; omega
  ·refine .inr ?_
   have e:lo=hi:=by omega
   subst e
   rw [if_neg (by omega)]
   have hno:∀ x,l[lo]?=some x→key x≠i→¬ i∈l.map key:=fun x hx hne hm=>by
    obtain ⟨y,hy,hk⟩:=List.mem_map.1 hm
    obtain ⟨j,hj⟩:=List.mem_iff_getElem?.1 hy
    have hge:=h4 lo x hx (Nat.le_refl _)
    rcases Nat.lt_trichotomy j lo with h | rfl | h
    ·have:=h3 j y hj h; omega
    ·rw [hx] at hj; exact hne (by rw [Option.some.inj hj]; exact hk)
    ·have:=hs.lt hx hj h; omega
   rcases Nat.lt_or_ge lo l.length with hl | hl
   ·obtain ⟨x,hx⟩:=lt_get hl
    rw [if_pos (by omega),nth_at hx,hc,bnd_pure]
    have hge:=h4 lo x hx (Nat.le_refl _)
    refine ⟨_,rfl,lo,?_,fun hm=>⟨x,hx,?_⟩⟩
    ·by_cases hk:key x=i
     ·have:i∈l.map key:=List.mem_map.2 ⟨x,List.mem_of_getElem? hx,hk⟩
      simp [this,hk]
     ·have:=hno x hx hk
      rw [if_neg (by omega),if_pos (by omega)]; simp [this]
    ·exact Decidable.byContradiction fun hk=>hno x hx hk hm
   ·have hn:¬ i∈l.map key:=fun hm=>by
     obtain ⟨y,hy,hk⟩:=List.mem_map.1 hm
     obtain ⟨j,hj⟩:=List.mem_iff_getElem?.1 hy
     have h5:=(List.getElem?_eq_some_iff.1 hj).1
     have:=h3 j y hj (by omega); omega
    rw [if_neg (by omega)]
    exact ⟨_,rfl,lo,by simp [hn],fun h=>absurd h hn⟩
theorem fnd_at {c:List TCell} (hs:Rise TCell.ID c) {x:TCell} {i:Int} (hx:x∈c) (hi:x.ID=i):fnd c i=(x,true):=by
 have:c.find? (fun x=>decide (x.ID=i))=some x:=by
  induction c with
  | nil=>cases hx
  | cons y c ih=>
   rw [Rise,List.pairwise_cons] at hs
   rcases List.mem_cons.1 hx with rfl | hx
   ·rw [List.find?_cons_of_pos (by simpa using hi)]
   ·rw [List.find?_cons_of_neg (by have:=hs.1 x hx; simp; omega)]
    exact ih hs.2 hx
 unfold fnd; rw [this]
theorem fnd_no {c:List TCell} {i:Int} (h:¬ i∈c.map TCell.ID):fnd c i=(⟨0,0,[]⟩,false):=by
 have:c.find? (fun x=>decide (x.ID=i))=none:=by
  rw [List.find?_eq_none]
  intro x hx e
  exact h (List.mem_map.2 ⟨x,hx,by simpa using e⟩)
 unfold fnd; rw [this]
theorem cFind_ok {c:List TCell} {i:Int} (hs:Rise TCell.ID c) (lc:c.length≤1000000):M.complex_Find c i=some (fnd c i):=by
 unfold M.complex_Find M.complex_place M.slices_BinarySearchFunc_Complex_Cell_int
 rw [show M.slices_BinarySearchFunc_Complex_Cell_int_b1 c i M.complex_place_1=bsb c i M.complex_place_1 from rfl]
 obtain ⟨j,h1,h2⟩:=bs_ok (cmp:=M.complex_place_1) (i:=i) hs (fun x=>rfl) lc
 rw [h1,bnd_pure,bnd_pure]
 by_cases h:i∈c.map TCell.ID
 ·obtain ⟨x,hx,hk⟩:=h2 h
  dsimp only
  rw [if_pos (by simpa using h),nth_at hx,fnd_at hs (List.mem_of_getElem? hx) hk]
 ·dsimp only
  rw [if_neg (by simpa using h),fnd_no h]
theorem Gd.rise {l:List TFace} (h:Gd l):Rise TFace.ID l:=by
 obtain ⟨z,s⟩:=h
 induction l generalizing z with
 | nil=>exact List.Pairwise.nil
 | cons f l ih=>exact List.Pairwise.cons (fun g hg=>(so_lt s.2.2 g hg).1) (ih _ s.2.2)
theorem coef_ok {l:List TFace} {i:Int} (g:Gd l) (ll:l.length≤1000000):M.merge_coefficient l i=some (cf l i):=by
 unfold M.merge_coefficient M.slices_BinarySearchFunc_Chain_Face_int
 rw [show M.slices_BinarySearchFunc_Chain_Face_int_b1 l i M.merge_coefficient_1=bsb l i M.merge_coefficient_1 from rfl]
 obtain ⟨j,h1,h2⟩:=bs_ok (cmp:=M.merge_coefficient_1) (i:=i) g.rise (fun x=>rfl) ll
 rw [h1,bnd_pure]
 by_cases h:i∈l.map TFace.ID
 ·obtain ⟨x,hx,hk⟩:=h2 h
  dsimp only
  rw [if_pos (by simpa using h),nth_at hx,← hk,g.cf (List.mem_of_getElem? hx)]
 ·dsimp only
  rw [if_neg (by simpa using h),iof_ok (by decide),bnd_pure,cf_none fun f hf e=>h (List.mem_map.2 ⟨f,hf,e⟩)]
theorem Coefficient_ok {l:List TFace} {i:Int} (g:Gd l) (ll:l.length≤1000000):M.r31_Coefficient l i=some (cf l i):=by
 unfold M.r31_Coefficient
 rw [rngL_find (fun x=>decide (x.ID=i)) (fun x=>x.C) (by omega) (fun n x hx=>by
  unfold M.r31_Coefficient_b1
  by_cases h:x.ID=i<;>simp [h])]
 cases h:l.find? (fun x=>decide (x.ID=i)) with
 | none=>
  rw [List.find?_eq_none] at h
  rw [cf_none fun f hf e=>h f hf (by simpa using e)]; rfl
 | some x=>
  have h1:=List.mem_of_find?_eq_some h
  have h2:=List.find?_some h
  dsimp only
  rw [← show x.ID=i by simpa using h2,g.cf h1]
end Go.Z
end
section
namespace Go.Z
def lin (c:List TCell) (g F:Int→Int):Int:=(c.map fun y=>g y.ID*F y.ID).sum
section
variable {c:List TCell} {g g' F F':Int→Int}
theorem lin_cons (y:TCell):lin (y::c) g F=g y.ID*F y.ID+lin c g F:=by simp [lin]
theorem lin_congr (h:∀ y∈c,g y.ID*F y.ID=g' y.ID*F' y.ID):lin c g F=lin c g' F':=by
 unfold lin; rw [List.map_congr_left h]
theorem lin_zero (h:∀ y∈c,g y.ID*F y.ID=0):lin c g F=0:=by
 induction c with
 | nil=>rfl
 | cons y c ih=>rw [lin_cons,h y (by simp),ih fun z hz=>h z (by simp [hz])]; rfl
theorem lin_addG:lin c (fun i=>g i+g' i) F=lin c g F+lin c g' F:=by
 induction c with
 | nil=>rfl
 | cons y c ih=>rw [lin_cons,lin_cons,lin_cons,ih,Int.add_mul]; omega
theorem lin_addF:lin c g (fun i=>F i+F' i)=lin c g F+lin c g F':=by
 induction c with
 | nil=>rfl
 | cons y c ih=>rw [lin_cons,lin_cons,lin_cons,ih,Int.mul_add]; omega
theorem lin_mulG (k:Int):lin c (fun i=>k*g i) F=k*lin c g F:=by
 induction c with
 | nil=>simp [lin]
 | cons y c ih=>rw [lin_cons,lin_cons,ih,Int.mul_add,Int.mul_assoc]
theorem lin_mulF (k:Int):lin c g (fun i=>k*F i)=k*lin c g F:=by
 induction c with
 | nil=>simp [lin]
 | cons y c ih=>rw [lin_cons,lin_cons,ih,Int.mul_add,Int.mul_left_comm]
theorem lin_mulFr (k:Int):lin c g (fun i=>F i*k)=lin c g F*k:=by
 rw [show (fun i=>F i*k)=fun i=>k*F i from funext fun i=>Int.mul_comm _ _,lin_mulF,Int.mul_comm]
theorem lin_one (hs:Rise TCell.ID c) {t k:Int} (ht:t∈c.map TCell.ID):lin c (fun i=>if t=i then k else 0) F=k*F t:=by
 induction c with
 | nil=>cases ht
 | cons y c ih=>
  rw [Rise,List.pairwise_cons] at hs
  rw [lin_cons]
  by_cases e:t=y.ID
  ·rw [if_pos e,lin_zero (fun z hz=>by rw [if_neg (by have:=hs.1 z hz; omega)]; simp),e]; omega
  ·rw [if_neg e,ih hs.2 (by rcases List.mem_cons.1 ht with h | h; exact absurd h e; exact h)]; omega
theorem lin_filter (p:TCell→Bool) (h:∀ y∈c,p y=false→g y.ID*F y.ID=0):lin (c.filter p) g F=lin c g F:=by
 induction c with
 | nil=>rfl
 | cons y c ih=>
  have:=ih fun z hz=>h z (by simp [hz])
  rw [List.filter_cons]
  cases hp:p y with
  | true=>simp only [if_true]; rw [lin_cons,lin_cons,this]
  | false=>simp only [Bool.false_eq_true,if_false]; rw [lin_cons,this,h y (by simp) hp]; omega
theorem lin_map (f:TCell→TCell) (h:∀ y∈c,(f y).ID=y.ID):lin (c.map f) g F=lin c g F:=by
 unfold lin; rw [List.map_map]; congr 1
 exact List.map_congr_left fun y hy=>by simp [h y hy]
theorem lin_swap (d:List TCell) (A:Int→Int→Int):lin c g (fun i=>lin d (fun j=>A i j) F)=lin d (fun j=>lin c g fun i=>A i j) F:=by
 induction c with
 | nil=>
  show (0:Int)=_
  rw [lin_zero]; intro y _; simp [lin]
 | cons y c ih=>
  rw [lin_cons,ih,← lin_mulG,← lin_addG]
  exact lin_congr fun z _=>by rw [lin_cons]
end
theorem sum_lin {c:List TCell} (hs:Rise TCell.ID c) {F:Int→Int}:∀ {x:List TFace},Gd x→(∀ f∈x,f.ID∈c.map TCell.ID)→(x.map fun t=>t.C*F t.ID).sum=lin c (cf x) F
 | [],_,_=>by rw [lin_zero (fun y _=>by simp [cf])]; rfl
 | t::x,g,h=>by
  have ih:=sum_lin hs (F:=F) g.tail fun f hf=>h f (by simp [hf])
  rw [List.map_cons,List.sum_cons,ih,← lin_one hs (k:=t.C) (F:=F) (h t (by simp)),← lin_addG]
  refine lin_congr fun y _=>?_
  congr 1
  rw [cf]
  by_cases e:t.ID=y.ID
  ·rw [if_pos e,if_pos e]
   obtain ⟨_,s⟩:=g
   rw [cf_low s.2.2 (by omega)]; omega
  ·rw [if_neg e,if_neg e]; omega
def bO (c:List TCell) (i:Int):List TFace:=(fnd c i).1.B
theorem bO_at {c:List TCell} (hs:Rise TCell.ID c) {x:TCell} (hx:x∈c):bO c x.ID=x.B:=by
 unfold bO; rw [fnd_at hs hx rfl]
structure VC (n:Nat) (c:List TCell):Prop where
 rise:Rise TCell.ID c
 len:c.length≤400
 ch:∀ x∈c,Ch (c.map TCell.ID) n x.B
 dim:∀ x∈c,0≤x.Dim∧x.Dim≤3
 fdim:∀ x∈c,∀ f∈x.B,∀ y∈c,y.ID=f.ID→y.Dim=x.Dim-1
 bb:∀ x∈c,∀ i,lin c (cf x.B) (fun j=>cf (bO c j) i)=0
theorem mem_ids {c:List TCell} {i:Int}:i∈c.map TCell.ID↔∃ y∈c,y.ID=i:=by simp
theorem VC.chB {n:Nat} {c:List TCell} (h:VC n c) (i:Int):Ch (c.map TCell.ID) n (bO c i):=by
 by_cases e:i∈c.map TCell.ID
 ·obtain ⟨y,hy,rfl⟩:=mem_ids.1 e
  rw [bO_at h.rise hy]; exact h.ch y hy
 ·unfold bO; rw [fnd_no e]; exact Ch.nil _ _
theorem VC.cf_ar {n:Nat} {c:List TCell} (h:VC n c) {x:List TFace} (g:Gd x) (hx:∀ f∈x,f.ID∈c.map TCell.ID):Gd (ar c x)∧∀ i,cf (ar c x) i=lin c (cf x) (fun j=>cf (bO c j) i):=by
 refine ⟨(cf_fl (B:=bO c) (x:=x) (fun t _=>(h.chB t.ID).1) 0).1,fun i=>?_⟩
 have h1:=(cf_fl (B:=bO c) (x:=x) (fun t _=>(h.chB t.ID).1) i).2
 rw [show ar c x=fl (bO c) x from rfl,h1,sum_lin h.rise (F:=fun j=>cf (bO c j) i) g hx]
theorem Valid_ok {n:Nat} {c:List TCell} (h:VC n c) (hn:3*n+1002≤1000000):M.r25_Valid c=some true:=by
 have hl:=h.len
 have hlm:(c.map TCell.ID).length≤1000000:=by simp; omega
 unfold M.r25_Valid
 rw [if_neg (by omega)]
 refine rngL_eq (fun _ _=>True) _ (by omega) trivial (fun i x s hx _=>.inl ⟨(),?_,trivial⟩) (fun _ _=>?_)
 ·have hm:=List.mem_of_getElem? hx
  have hi:i<c.length:=(List.getElem?_eq_some_iff.1 hx).1
  have hv:=(h.ch x hm).valid (by omega) hlm
  unfold M.r25_Valid_b2
  by_cases h0:0<i
  ·obtain ⟨j,rfl⟩:∃ j,i=j+1:=⟨i-1,by omega⟩
   obtain ⟨y,hy⟩:=lt_get (l:=c) (i:=j) (by omega)
   have:=h.rise.lt hy hx (by omega)
   rw [if_pos (by omega),chk64_pos (by omega),show ((j+1:Nat):Int)-1=(j:Int) by omega,nth_at hy,if_neg (by omega),hv,bnd_pure,if_pos rfl]
  ·rw [if_neg (by omega),hv,bnd_pure,if_pos rfl]
 ·unfold M.r25_Valid_k2
  refine rngL_eq (fun _ _=>True) _ (by omega) trivial (fun i x s hx _=>.inl ⟨(),?_,trivial⟩) (fun _ _=>rfl)
  have hm:=List.mem_of_getElem? hx
  have hch:=h.ch x hm
  have hlen:=hch.len
  simp only [List.length_map] at hlen
  have hd:=h.dim x hm
  unfold M.r25_Valid_b1
  suffices hf:M.r25_Fits c x=some 0 by rw [hf,bnd_pure,if_pos rfl]
  unfold M.r25_Fits
  rw [hch.valid (by omega) hlm,bnd_pure,if_pos rfl]
  have hF:∀ f∈x.B,∃ y∈c,y.ID=f.ID∧fnd c f.ID=(y,true):=fun f hf=>by
   obtain ⟨y,hy,e⟩:=mem_ids.1 (hch.2.2 f hf)
   exact ⟨y,hy,e,fnd_at h.rise hy e⟩
  refine rngL_eq (fun _ _=>True) _ (by omega) trivial (fun i f s hf _=>.inl ⟨(),?_,trivial⟩) (fun _ _=>?_)
  ·obtain ⟨y,_,_,e⟩:=hF f (List.mem_of_getElem? hf)
   unfold M.r25_Fits_b3
   rw [Find_ok (by omega),bnd_pure,e,if_pos rfl]
  ·unfold M.r25_Fits_k3
   rw [if_neg (by omega),decide_eq_false (by omega)]
   unfold M.r25_Fits_j2
   rw [if_neg (by decide)]
   refine rngL_eq (fun _ _=>True) _ (by omega) trivial (fun i f s hf _=>.inl ⟨(),?_,trivial⟩) (fun _ _=>?_)
   ·have hm2:=List.mem_of_getElem? hf
    obtain ⟨y,hy,e1,e⟩:=hF f hm2
    unfold M.r25_Fits_b1
    rw [Find_ok (by omega),bnd_pure,e,chk64_pos (by omega),if_pos (h.fdim x hm f hm2 y hy e1)]
   ·unfold M.r25_Fits_k1
    rw [Around_ok (T:=c.map TCell.ID) (m:=n) (k':=n) (by omega) (fun t _=>h.chB t.ID) hch.2.1 (by omega) (by omega) hlm,bnd_pure]
    have h1:=h.cf_ar hch.1 hch.2.2
    have:ar c x.B=[]:=h1.1.nil_iff.2 fun i=>by rw [h1.2,h.bb x hm]
    rw [this]; rfl
end Go.Z
end
section
namespace Go.Z
def im (m:List TImage) (i:Int):List TFace:=match m.find? (fun t=>decide (t.ID=i)) with | some t=>t.X | none=>[]
theorem im_at {m:List TImage} (hs:Rise TImage.ID m) {t:TImage} (ht:t∈m):im m t.ID=t.X:=by
 have:m.find? (fun x=>decide (x.ID=t.ID))=some t:=by
  induction m with
  | nil=>cases ht
  | cons y c ih=>
   rw [Rise,List.pairwise_cons] at hs
   rcases List.mem_cons.1 ht with rfl | hx
   ·rw [List.find?_cons_of_pos (by simp)]
   ·rw [List.find?_cons_of_neg (by have:=hs.1 t hx; simp; omega)]
    exact ih hs.2 hx
 unfold im; rw [this]
theorem im_no {m:List TImage} {i:Int} (h:¬ i∈m.map TImage.ID):im m i=[]:=by
 have:m.find? (fun x=>decide (x.ID=i))=none:=by
  rw [List.find?_eq_none]
  intro x hx e
  exact h (List.mem_map.2 ⟨x,hx,by simpa using e⟩)
 unfold im; rw [this]
theorem pl_nil (a:List TFace) (k:Int):pl a [] k=a:=rfl
section
variable {T:List Int} {q k' n:Nat} {x:List TFace} {m:List TImage}
theorem Apply_ok (hs:Rise TImage.ID m) (lm:m.length≤1000000) (hB:∀ t∈x,Ch T q (im m t.ID)) (hx:Bn k' x) (lx:x.length≤100000) (hn:k'+q+x.length+2≤16000000) (lT:T.length≤1000000):M.r31_Apply m x=some (fl (im m) x):=by
 refine fl_run (B:=im m) hB hx (by omega) fun n t s ht hs2=>?_
 unfold M.r31_Apply_b2
 dsimp only
 refine rngL_eq (fun i v=>(t.ID∈(m.take i).map TImage.ID→v=pl s (im m t.ID) t.C)∧(¬ t.ID∈(m.take i).map TImage.ID→v=s)) _ (by omega) ⟨by simp,fun _=>rfl⟩ (fun i y v hy hp=>.inl ?_) (fun v hp=>?_)
 ·have hm:=List.mem_of_getElem? hy
  unfold M.r31_Apply_b1
  dsimp only
  have hmem:t.ID∈(m.take (i+1)).map TImage.ID↔t.ID∈(m.take i).map TImage.ID∨t.ID=y.ID:=by
   rw [List.take_add_one,hy,List.map_append,List.mem_append]; simp
  rw [hmem]
  by_cases e:y.ID=t.ID
  ·have hno:¬ t.ID∈(m.take i).map TImage.ID:=fun h=>by
    obtain ⟨z,hz,e2⟩:=List.mem_map.1 h
    obtain ⟨j,hj⟩:=List.mem_iff_getElem?.1 hz
    have hji:j<i:=by
     have:=(List.getElem?_eq_some_iff.1 hj).1
     simp at this; omega
    rw [List.getElem?_take_of_lt hji] at hj
    have:=hs.lt hj hy hji; omega
   have hp:=hp.2 hno
   subst hp
   rw [if_pos e]
   have h1:=im_at hs hm
   rw [e] at h1
   rw [← h1,hs2.plus (hB t ht) (hx t ht) (by omega) lT,bnd_pure]
   exact ⟨_,rfl,fun _=>rfl,fun h=>absurd (.inr e.symm) h⟩
  ·rw [if_neg e]
   exact ⟨_,rfl,fun h=>hp.1 (h.resolve_right (Ne.symm e)),fun h=>hp.2 fun h2=>h (.inl h2)⟩
 ·unfold M.r31_Apply_k1
  dsimp only
  rw [List.take_of_length_le (Nat.le_refl _)] at hp
  by_cases e:t.ID∈m.map TImage.ID
  ·rw [hp.1 e]
  ·rw [hp.2 e,im_no e,pl_nil]
theorem apply_ok (hs:Rise TImage.ID m) (lm:m.length≤1000000) (hB:∀ t∈x,Ch T q (im m t.ID)) (hx:Bn k' x) (lx:x.length≤100000) (hn:k'+q+x.length+2≤1000000) (lT:T.length≤1000000) (hin:∀ t∈x,t.ID∈m.map TImage.ID):M.merge_apply m x=some (fl (im m) x):=by
 refine fl_run (B:=im m) hB hx (by omega) fun n t s ht hs2=>?_
 unfold M.merge_apply_b1 M.slices_BinarySearchFunc_ChainMap_Image_int
 dsimp only
 rw [show M.slices_BinarySearchFunc_ChainMap_Image_int_b1 m t.ID M.merge_apply_1=bsb m t.ID M.merge_apply_1 from rfl]
 obtain ⟨j,h1,h2⟩:=bs_ok (cmp:=M.merge_apply_1) (i:=t.ID) hs (fun x=>rfl) lm
 obtain ⟨y,hy,e⟩:=h2 (hin t ht)
 rw [h1,bnd_pure,nth_at hy]
 have h3:=im_at hs (List.mem_of_getElem? hy)
 rw [e] at h3
 rw [← h3,hs2.chainsAdd (hB t ht) (hx t ht) (by omega) lT,bnd_pure]
end
structure Com (n:Nat) (c d:List TCell) (m:List TImage):Prop where
 ids:m.map TImage.ID=c.map TCell.ID
 ch:∀ t∈m,Ch (d.map TCell.ID) n t.X
 dim:∀ x∈c,∀ f∈im m x.ID,∀ y∈d,y.ID=f.ID→y.Dim=x.Dim
 com:∀ x∈c,∀ i,lin d (cf (im m x.ID)) (fun j=>cf (bO d j) i)=lin c (cf x.B) (fun j=>cf (im m j) i)
theorem rise_ids {α β:Type} {f:α→Int} {g:β→Int} {l:List α} {r:List β} (e:l.map f=r.map g) (h:Rise g r):Rise f l:=by
 have h1:(r.map g).Pairwise (· < ·):=List.pairwise_map.2 h
 rw [← e] at h1
 exact List.pairwise_map.1 h1
section
variable {c d:List TCell} {m:List TImage} {n p q:Nat}
theorem Com.rise (w:Com n c d m) (h:VC p c):Rise TImage.ID m:=rise_ids w.ids h.rise
theorem Com.len (w:Com n c d m):m.length=c.length:=by have:=congrArg List.length w.ids; simpa using this
theorem Com.chI (w:Com n c d m) (h:VC p c) (i:Int):Ch (d.map TCell.ID) n (im m i):=by
 by_cases e:i∈m.map TImage.ID
 ·obtain ⟨t,ht,rfl⟩:=List.mem_map.1 e
  rw [im_at (w.rise h) ht]; exact w.ch t ht
 ·rw [im_no e]; exact Ch.nil _ _
theorem Com.cf_fl (w:Com n c d m) (h:VC p c) {x:List TFace} (g:Gd x) (hx:∀ f∈x,f.ID∈c.map TCell.ID):Gd (fl (im m) x)∧∀ i,cf (fl (im m) x) i=lin c (cf x) (fun j=>cf (im m j) i):=by
 refine ⟨(Z.cf_fl (B:=im m) (x:=x) (fun t _=>(w.chI h t.ID).1) 0).1,fun i=>?_⟩
 rw [(Z.cf_fl (B:=im m) (x:=x) (fun t _=>(w.chI h t.ID).1) i).2,sum_lin h.rise (F:=fun j=>cf (im m j) i) g hx]
theorem Com.eq (w:Com n c d m) (h:VC p c) (h2:VC q d) {x:TCell} (hx:x∈c):ar d (im m x.ID)=fl (im m) x.B:=by
 have h3:=w.chI h x.ID
 have h4:=h.ch x hx
 have h5:=h2.cf_ar h3.1 h3.2.2
 have h6:=w.cf_fl h h4.1 h4.2.2
 exact h5.1.ext h6.1 fun i=>by rw [h5.2,h6.2,w.com x hx]
theorem Commutes_ok (h:VC p c) (h2:VC q d) (w:Com n c d m) (hb:n+p+q+1000≤1000000):M.r31_Commutes c d m=some true:=by
 have hl:=h.len
 have hl2:=h2.len
 have hlen:=w.len
 have lT:(d.map TCell.ID).length≤1000000:=by simp; omega
 have hat:∀ (i:Nat) (t:TImage),m[i]?=some t→∃ x:TCell,c[i]?=some x∧x.ID=t.ID∧im m x.ID=t.X:=fun i t ht=>by
  have hi:i<m.length:=(List.getElem?_eq_some_iff.1 ht).1
  obtain ⟨x,hx⟩:=lt_get (l:=c) (i:=i) (by omega)
  have:=congrArg (fun l=>l[i]?) w.ids
  simp only [List.getElem?_map,ht,hx,Option.map_some,Option.some.injEq] at this
  exact ⟨x,hx,this.symm,by rw [← this]; exact im_at (w.rise h) (List.mem_of_getElem? ht)⟩
 unfold M.r31_Commutes
 rw [if_pos (by omega)]
 refine loop_eq (fun s=>s.1=c∧s.2.1=m∧∃ i:Nat,s.2.2=(i:Int)∧i≤c.length) (fun s=>c.length-s.2.2.toNat) _ ⟨rfl,rfl,0,rfl,Nat.zero_le _⟩ (by show c.length-0<_; omega) ?_
 rintro ⟨s1,s2,s3⟩ ⟨e1,e2,i,e3,hi⟩
 dsimp only at e1 e2 e3
 subst e1 e2 e3
 unfold M.r31_Commutes_b4
 dsimp only
 by_cases hlt:i<s1.length
 ·refine .inl ?_
  obtain ⟨t,ht⟩:=lt_get (l:=s2) (i:=i) (by omega)
  obtain ⟨x,hx,e,eX⟩:=hat i t ht
  have hm:=List.mem_of_getElem? ht
  have hxm:=List.mem_of_getElem? hx
  have hch:=w.ch t hm
  rw [if_pos (by omega),nth_at ht,nth_at hx,if_pos e.symm,hch.valid (by omega) lT,bnd_pure]
  unfold M.r31_Commutes_j2
  rw [if_neg (by decide)]
  have hXl:=hch.len
  simp only [List.length_map] at hXl
  have key:loop (M.r31_Commutes_b1 d (i:Int) s1 s2) 0=some (Sum.inl (s1,s2,(i:Int)+1)):=by
   refine loop_eq (fun s=>∃ j:Nat,s=(j:Int)∧j≤t.X.length) (fun s=>t.X.length-s.toNat) _ ⟨0,rfl,Nat.zero_le _⟩ (by show t.X.length-0<_; omega) ?_
   rintro _ ⟨j,rfl,hj⟩
   unfold M.r31_Commutes_b1
   rw [nth_at ht]
   by_cases hjl:j<t.X.length
   ·obtain ⟨f,hf⟩:=lt_get hjl
    have hfm:=List.mem_of_getElem? hf
    obtain ⟨y,hy,e1⟩:=mem_ids.1 (hch.2.2 f hfm)
    rw [if_pos (by omega),nth_at hf,Find_ok (by omega),bnd_pure,fnd_at h2.rise hy e1,if_pos rfl,nth_at hx,if_pos (w.dim x hxm f (by rw [eX]; exact hfm) y hy e1),chk64_pos (by omega)]
    refine .inl ⟨_,rfl,⟨j+1,by omega,by omega⟩,by omega⟩
   ·rw [if_neg (by omega),chk64_pos (by omega)]
    exact .inr rfl
  refine ⟨_,key,⟨rfl,rfl,i+1,by simp,by omega⟩,by simp; omega⟩
 ·refine .inr ?_
  rw [if_neg (by omega)]
  rw [show rngL (M.r31_Commutes_b3 d s2) M.r31_Commutes_k3 s1 ()=some true from ?_]
  ·rfl
  refine rngL_eq (fun _ _=>True) _ (by omega) trivial (fun i x s hx _=>.inl ⟨(),?_,trivial⟩) (fun _ _=>rfl)
  have hxi:i<s1.length:=(List.getElem?_eq_some_iff.1 hx).1
  obtain ⟨t,ht⟩:=lt_get (l:=s2) (i:=i) (by omega)
  obtain ⟨x',hx',e,eX⟩:=hat i t ht
  rw [hx] at hx'
  obtain rfl:=Option.some.inj hx'
  have hxm:=List.mem_of_getElem? hx
  have hcx:=h.ch x hxm
  have hct:=w.ch t (List.mem_of_getElem? ht)
  have l1:=hcx.len
  have l2:=hct.len
  simp only [List.length_map] at l1 l2
  unfold M.r31_Commutes_b3
  rw [nth_at ht,Around_ok (T:=d.map TCell.ID) (m:=q) (k':=n) (by omega) (fun t _=>h2.chB t.ID) hct.2.1 (by omega) (by omega) lT,bnd_pure,
   Apply_ok (T:=d.map TCell.ID) (q:=n) (k':=p) (w.rise h) (by omega) (fun t _=>w.chI h t.ID) hcx.2.1 (by omega) (by omega) lT,bnd_pure]
  have e1:=w.eq h h2 hxm
  rw [eX] at e1
  have f1:=fl_ch (T:=d.map TCell.ID) (m:=n) (k':=p) (B:=im s2) (x:=x.B) (fun t _=>w.chI h t.ID) hcx.2.1
  have l3:=f1.len
  simp only [List.length_map] at l3
  have f2:=f1.ft (by omega)
  rw [e1,same_ok f2 f2 (by omega),bnd_pure,if_pos (by simp)]
end
end Go.Z
end
section
namespace Go.Z
def mp {α β:Type} (f:α→β) (l:List α) (r:List β) (i:Nat):List β:=(l.take i).map f++r.drop i
section
variable {α β:Type} {f:α→β} {l:List α} {r:List β} {i:Nat}
theorem mp_zero:mp f l r 0=r:=by simp [mp]
theorem mp_all (h:r.length=l.length):mp f l r l.length=l.map f:=by
 unfold mp; rw [List.take_of_length_le (Nat.le_refl _),List.drop_eq_nil_of_le (by omega),List.append_nil]
theorem mp_len (h:r.length=l.length) (hi:i≤l.length):(mp f l r i).length=l.length:=by simp [mp]; omega
theorem mp_get (h:r.length=l.length) {y:β} (hi:r[i]?=some y):(mp f l r i)[i]?=some y:=by
 have h1:=(List.getElem?_eq_some_iff.1 hi).1
 unfold mp
 rw [List.getElem?_append_right (by simp; omega)]
 simp only [List.length_map,List.length_take]
 rw [show i-min i l.length=0 by omega,List.getElem?_drop]; simpa using hi
theorem mp_set (h:r.length=l.length) {x:α} (hx:l[i]?=some x):setL (mp f l r i) (i:Int) (f x)=mp f l r (i+1):=by
 have h1:=(List.getElem?_eq_some_iff.1 hx).1
 obtain ⟨y,hy⟩:=lt_get (l:=r) (i:=i) (by omega)
 unfold mp setL
 rw [List.take_add_one,hx,List.set_append_right _ _ (by simp; omega),Int.toNat_natCast,drop_cons hy]
 simp only [List.length_map,List.length_take]
 rw [show i-min i l.length=0 by omega]; simp
theorem mp_same {f:α→α} {x:α} (hx:l[i]?=some x) (e:f x=x):mp f l l i=mp f l l (i+1):=by
 unfold mp
 rw [List.take_add_one,hx,drop_cons hx]; simp [e]
end
def dFi {α:Type} (x0:List α) (x1:α→Option Bool):Option (Int×List α):=
 rngL (fun i25 x32 v21=>nth v21 (i25:Int) fun x36=>bnd (x1 x36) fun y57=>if y57=true then (lft (some ((i25:Int),v21))) else (some (.inl v21))) (fun v21=>some ((-1),v21)) x0 x0
def dFb {α:Type} (x1:α→Option Bool):(List α)×Int×Int→Option (((List α)×Int×Int) ⊕ (List α))
 | (v41,v47,v48)=>if v48<(v41.length:Int) then (nth v41 v48 fun x56=>bnd (x1 x56) fun y78=>if y78=true then (chk64 (v48+1)<|some (.inl (v41,v47,v48+1))) else (nth v41 v47 fun x81=>chk64 (v47+1)<|chk64 (v48+1)<|some (.inl ((setL v41 v47 x56),v47+1,v48+1)))) else (lft (bnd (cutL v41 v47 (v41.length:Int)) fun l97=>some (List.take (v47).toNat v41)))
def dFn {α:Type} (x0:List α) (x1:α→Option Bool):Option (List α):=
 bnd (dFi x0 x1) fun y26=>if y26.1=(-1) then (some y26.2) else (chk64 (y26.1+1)<|loop (dFb x1) (y26.2,y26.1,y26.1+1))
theorem filter_take_all {α:Type} {p:α→Bool} {l:List α} (h:∀ x∈l,p x=true):l.filter p=l:=List.filter_eq_self.2 h
theorem dF_ok {α:Type} {l:List α} {p:α→Option Bool} (pb:α→Bool) (hp:∀ x∈l,p x=some (pb x)) (ll:l.length≤1000000):dFn l p=some (l.filter fun x=>!pb x):=by
 have h1:(dFi l p=some (-1,l)∧∀ x∈l,pb x=false)∨∃ (k:Nat) (x:α),dFi l p=some ((k:Int),l)∧l[k]?=some x∧pb x=true∧∀ y∈l.take k,pb y=false:=by
  have:=rngL_or (b:=fun (i25:Nat) (x32:α) (v21:List α)=>nth v21 (i25:Int) fun x36=>bnd (p x36) fun y57=>if y57=true then (lft (some ((i25:Int),v21))) else (some (.inl v21))) (e:=fun v21=>some ((-1:Int),v21)) (l:=l) (s:=l)
   (fun i v=>v=l∧∀ y∈l.take i,pb y=false) (fun r=>(r=(-1,l)∧∀ x∈l,pb x=false)∨∃ (k:Nat) (x:α),r=((k:Int),l)∧l[k]?=some x∧pb x=true∧∀ y∈l.take k,pb y=false) (by omega) ⟨rfl,by simp⟩
   (fun i x v hx hv=>by
    obtain ⟨rfl,hv⟩:=hv
    rw [nth_at hx,hp x (List.mem_of_getElem? hx),bnd_pure]
    cases hb:pb x with
    | true=>exact .inr ⟨_,rfl,.inr ⟨i,x,rfl,hx,hb,hv⟩⟩
    | false=>
     refine .inl ⟨_,rfl,rfl,fun y hy=>?_⟩
     rw [List.take_add_one,hx] at hy
     rcases List.mem_append.1 hy with hy | hy
     ·exact hv y hy
     ·simp at hy; rw [hy]; exact hb)
   (fun v hv=>by
    obtain ⟨rfl,hv⟩:=hv
    rw [List.take_of_length_le (Nat.le_refl _)] at hv
    exact ⟨_,rfl,.inl ⟨rfl,hv⟩⟩)
  obtain ⟨r,h1,h2⟩:=this
  rcases h2 with ⟨rfl,h2⟩ | ⟨k,x,rfl,h2⟩
  ·exact .inl ⟨h1,h2⟩
  ·exact .inr ⟨k,x,h1,h2⟩
 unfold dFn
 rcases h1 with ⟨h1,h2⟩ | ⟨k,x,h1,hx,hb,hbef⟩
 ·rw [h1,bnd_pure,if_pos rfl,filter_take_all fun x hx=>by simp [h2 x hx]]
 ·have hk:=(List.getElem?_eq_some_iff.1 hx).1
  rw [h1,bnd_pure,if_neg (by omega),chk64_pos (by simp; omega)]
  refine loop_eq (fun s=>∃ i j:Nat,s.2.1=(i:Int)∧s.2.2=(j:Int)∧i<j∧j≤l.length∧s.1.length=l.length∧s.1.take i=(l.take j).filter (fun x=>!pb x)∧s.1.drop j=l.drop j) (fun s=>l.length-s.2.2.toNat) _
   ⟨k,k+1,rfl,by simp,by omega,by omega,rfl,?_,rfl⟩ (by show l.length-((k:Int)+1).toNat<_; omega) ?_
  ·rw [List.take_add_one,hx,List.filter_append,filter_take_all (l:=l.take k) fun x hx=>by simp [hbef x hx]]
   simp [hb]
  ·rintro ⟨v,vi,vj⟩ ⟨i,j,e1,e2,hij,hj,hl,h3,h4⟩
   dsimp only at e1 e2 hl h3 h4
   subst e1 e2
   unfold dFb
   dsimp only
   by_cases hjl:j<l.length
   ·refine .inl ?_
    obtain ⟨y,hy⟩:=lt_get hjl
    have hvj:v[j]?=some y:=by
     have:=congrArg (fun l=>l[0]?) h4
     simpa [List.getElem?_drop,hy] using this
    have h5:v.drop (j+1)=l.drop (j+1):=by
     rw [← List.drop_drop,← List.drop_drop,h4]
    rw [if_pos (by omega),nth_at hvj,hp y (List.mem_of_getElem? hy),bnd_pure]
    cases hb:pb y with
    | true=>
     rw [if_pos rfl,chk64_pos (by omega)]
     refine ⟨_,rfl,⟨i,j+1,rfl,by simp,by omega,by omega,hl,?_,h5⟩,by simp; omega⟩
     rw [h3,List.take_add_one,hy,List.filter_append]; simp [hb]
    | false=>
     obtain ⟨z,hz⟩:=lt_get (l:=v) (i:=i) (by omega)
     rw [if_neg (by decide),nth_at hz,chk64_pos (by omega),chk64_pos (by omega)]
     refine ⟨_,rfl,⟨i+1,j+1,by simp,by simp,by omega,by omega,by simpa [setL] using hl,?_,?_⟩,by simp; omega⟩
     ·unfold setL
      rw [Int.toNat_natCast,List.take_add_one,List.take_set_of_le (Nat.le_refl _),h3,List.take_add_one,hy,List.filter_append]
      rw [List.getElem?_set_self (by omega)]; simp [hb]
     ·unfold setL
      rw [Int.toNat_natCast,List.drop_set_of_lt (by omega),h5]
   ·refine .inr ?_
    have e:j=l.length:=by omega
    subst e
    rw [if_neg (by omega),cutL_at (by omega) (Nat.le_refl _),bnd_pure,Int.toNat_natCast,h3,List.take_of_length_le (Nat.le_refl _)]
    rfl
theorem Contains_ok {l:List Int} {v:Int} (ll:l.length≤1000000):M.slices_Contains_Lint_int l v=some (decide (v∈l)):=by
 unfold M.slices_Contains_Lint_int M.slices_Index_Lint_int
 obtain ⟨r,h1,h2⟩:=rngL_or (b:=M.slices_Index_Lint_int_b1 v) (e:=M.slices_Index_Lint_int_k1) (l:=l) (s:=()) (fun i _=>¬ v∈l.take i) (fun r=>decide (0≤r)=decide (v∈l)) (by omega) (by simp)
  (fun i x s hx hs=>by
   unfold M.slices_Index_Lint_int_b1
   by_cases e:v=x
   ·refine .inr ⟨(i:Int),by rw [if_pos e]; rfl,?_⟩
    have:v∈l:=by rw [e]; exact List.mem_of_getElem? hx
    simp [this]
   ·refine .inl ⟨(),by rw [if_neg e],?_⟩
    rw [List.take_add_one,hx]; simp [hs,e])
  (fun s hs=>⟨-1,rfl,by rw [List.take_of_length_le (Nat.le_refl _)] at hs; simp [hs]⟩)
 rw [h1,bnd_pure,h2]
theorem Contains2_ok {l:List (Int×Int)} {v:Int×Int} (ll:l.length≤1000000):M.slices_Contains_L_2_int_2_int l v=some (decide (v∈l)):=by
 unfold M.slices_Contains_L_2_int_2_int M.slices_Index_L_2_int_2_int
 obtain ⟨r,h1,h2⟩:=rngL_or (b:=M.slices_Index_L_2_int_2_int_b1 (v.1,v.2)) (e:=M.slices_Index_L_2_int_2_int_k1) (l:=l) (s:=()) (fun i _=>¬ v∈l.take i) (fun r=>decide (0≤r)=decide (v∈l)) (by omega) (by simp)
  (fun i x s hx hs=>by
   unfold M.slices_Index_L_2_int_2_int_b1
   have hh:((v.1 == x.1 && v.2 == x.2)=true)↔v=x:=by
    cases v; cases x; simp
   by_cases e:v=x
   ·refine .inr ⟨(i:Int),by rw [if_pos (hh.2 e)]; rfl,?_⟩
    have:v∈l:=by rw [e]; exact List.mem_of_getElem? hx
    simp [this]
   ·refine .inl ⟨(),by rw [if_neg (fun h=>e (hh.1 h))],?_⟩
    rw [List.take_add_one,hx]; simp [hs,e])
  (fun s hs=>⟨-1,rfl,by rw [List.take_of_length_le (Nat.le_refl _)] at hs; simp [hs]⟩)
 rw [h1,bnd_pure,h2]
theorem clone_ok {α:Type} {l:List α} (h:l.length≤1000000):M.clone l=some l:=if_pos (by omega)
theorem without_ok {c:List TCell} {l:List Int} (lc:c.length≤1000000) (ll:l.length≤1000000):M.merge_without c l=some (c.filter fun x=>!decide (x.ID∈l)):=by
 unfold M.merge_without
 rw [clone_ok lc,bnd_pure,show M.slices_DeleteFunc_Complex_Cell c (fun a0=>M.merge_without_1 a0 l)=dFn c (fun a0=>M.merge_without_1 a0 l) from rfl,
  dF_ok (fun x=>decide (x.ID∈l)) (fun x hx=>by unfold M.merge_without_1; rw [Contains_ok ll,bnd_pure]) lc,bnd_pure]
end Go.Z
end
section
namespace Go.Z
theorem rng_mp {α β γ:Type} (f:α→β) {l:List α} {r:List β} {b:Nat→α→List β→Option (List β ⊕ γ)} {e:List β→Option γ} (ll:l.length≤1000000) (hr:r.length=l.length)
  (hb:∀ (i:Nat) x,l[i]?=some x→b i x (mp f l r i)=some (.inl (setL (mp f l r i) (i:Int) (f x)))):rngL b e l r=e (l.map f):=by
 have key:∀ k i,i+k=l.length→forL b e (l.drop i) i (mp f l r i)=e (l.map f):=by
  intro k
  induction k with
  | zero=>
   intro i hi
   have:i=l.length:=by omega
   subst this
   rw [List.drop_eq_nil_of_le (Nat.le_refl _),forL,mp_all hr]
  | succ k ih=>
   intro i hi
   obtain ⟨x,hx⟩:=lt_get (l:=l) (i:=i) (by omega)
   rw [drop_cons hx,forL,hb i x hx,mp_set hr hx]
   exact ih (i+1) (by omega)
 have:=key l.length 0 (by omega)
 rw [List.drop_zero,mp_zero] at this
 rw [rngL,chk_pos (by omega),this]
def rpl (b:Int) (z:List TFace) (x:TCell):TCell:=if cf x.B b=0 then x else ⟨x.ID,x.Dim,pl x.B z (cf x.B b)⟩
section
variable {c:List TCell} {S:List Int} {n m:Nat} {a b:Int} {z:List TFace}
theorem replace_ok (hc:∀ x∈c,Ch S n x.B) (hz:Ch S m z) (lS:S.length≤1000000) (hn:n+m+1≤1000000) (hn2:n+1≤1000000) (lc:c.length≤1000000):M.merge_replace c b z=some (c.map (rpl b z)):=by
 unfold M.merge_replace
 rw [clone_ok lc,bnd_pure]
 refine rng_mp (rpl b z) lc rfl fun i x hx=>?_
 have hm:=List.mem_of_getElem? hx
 have hch:=hc x hm
 have hl:=hch.len
 have hb:=hch.2.1.cf b
 unfold M.merge_replace_b1
 dsimp only
 rw [nth_at (mp_get rfl hx),coef_ok hch.1 (by omega),bnd_pure,isign_ok (ft_bits hb (by omega)),bnd_pure]
 by_cases h:cf x.B b=0
 ·rw [if_pos ((sign0 _).2 h),mp_set rfl hx,← mp_same hx (by unfold rpl; rw [if_pos h])]
 ·rw [if_neg (fun e=>h ((sign0 _).1 e)),hch.chainsAdd hz hb (by omega) lS,bnd_pure]
  unfold rpl; rw [if_neg h]
end
theorem one_ok (i:Int):M.merge_one i=some [⟨i,1⟩]:=rfl
def itf (m:List (Int×List TFace)) (x:TCell):TImage:=⟨x.ID,(mfind m x.ID).getD [⟨x.ID,1⟩]⟩
theorem itself_ok {c:List TCell} {m:List (Int×List TFace)} (lc:c.length≤1000000):M.merge_itself c m=some (c.map (itf m)):=by
 unfold M.merge_itself
 unfold mkl
 rw [if_pos (by omega),bnd_pure]
 refine rng_mp (itf m) lc (by simp) fun i x hx=>?_
 have hi:=(List.getElem?_eq_some_iff.1 hx).1
 have hr:(List.replicate (Int.toNat (c.length:Int)) (TImage.mk 0 []))[i]?=some (TImage.mk 0 []):=by
  rw [List.getElem?_replicate,if_pos (by simpa using hi)]
 have hl:=mp_len (f:=itf m) (l:=c) (r:=List.replicate (Int.toNat (c.length:Int)) (TImage.mk 0 [])) (i:=i) (by simp) (by omega)
 have hg:=mp_get (f:=itf m) (l:=c) (by simp) hr
 unfold M.merge_itself_b1
 dsimp only
 rw [one_ok,bnd_pure,nth_at hg]
 have hset:∀ (v:List TImage) (t:TImage),i<v.length→(setL v (i:Int) t)[i]?=some t:=fun v t h=>by
  unfold setL; rw [Int.toNat_natCast,List.getElem?_set_self h]
 cases hf:mfind m x.ID with
 | none=>
  rw [if_neg (by simp [mhas,hf])]
  unfold itf; rw [hf]; rfl
 | some z=>
  rw [if_pos (by simp [mhas,hf]),nth_at (hset _ _ (by omega))]
  unfold itf mget; rw [hf]
  simp [setL,List.set_set]
end Go.Z
end
section
namespace Go.Z
def dif (a b:Int):List TFace:=pl [⟨a,1⟩] [⟨b,1⟩] (-1)
def idC (c:List TCell) (a b:Int):List TCell:=(c.map (rpl b (dif a b))).filter fun x=>!decide (x.ID∈[b])
def idM (c:List TCell) (a b:Int):List TImage:=c.map (itf (mput [] b [⟨a,1⟩]))
def idn (c:List TCell) (a b:Int):List TCell×List TImage×Int:=
 if (fnd c a).2=true∧(fnd c b).2=true then
  (if (fnd c a).1.Dim=(fnd c b).1.Dim then (if a=b∨(fnd c a).1.B≠(fnd c b).1.B then ([],[],310) else (idC c a b,idM c a b,0)) else ([],[],260))
 else ([],[],250)
section
variable {c:List TCell} {n:Nat} {a b:Int}
theorem one_ch {S:List Int} {i:Int} (h:i∈S):Ch S 1 [⟨i,1⟩]:=Ch.one (by decide) (by decide) h
theorem dif_ch {S:List Int} (ha:a∈S) (hb:b∈S):Ch S 3 (dif a b):=(one_ch ha).pl (one_ch hb) (k:=-1) (k':=1) (by decide)
theorem cf_dif (a b i:Int):cf (dif a b) i=(if a=i then 1 else 0)-(if b=i then 1 else 0):=by
 have h:=(Gd.pl (k:=-1) (Gd.one (i:=a) (c:=1) (by decide)) (Gd.one (i:=b) (c:=1) (by decide))).2 i
 show cf (pl _ _ _) i=_
 rw [h]; simp only [cf]
 split<;>split<;>rfl
theorem pl_minus {S:List Int} {x y:List TFace} (hx:Gd x) (hy:Gd y):(0<((pl x y (-1)).length:Int))↔x≠y:=by
 have h:=Gd.pl (k:=-1) hx hy
 constructor
 ·intro h1 e
  subst e
  have:pl x x (-1)=[]:=h.1.nil_iff.2 fun i=>by rw [h.2]; omega
  rw [this] at h1; simp at h1
 ·intro h1
  have:pl x y (-1)≠[]:=fun e=>h1 (hx.ext hy fun i=>by have:=(h.1.nil_iff.1 e) i; rw [h.2] at this; omega)
  have:=List.length_pos_iff.2 this
  omega
theorem fnd_in {i:Int} (h:VC n c):(fnd c i).2=true↔i∈c.map TCell.ID:=by
 by_cases e:i∈c.map TCell.ID
 ·obtain ⟨y,hy,e2⟩:=mem_ids.1 e
  rw [fnd_at h.rise hy e2]; simp [e]
 ·rw [fnd_no e]; simp [e]
theorem Identify_ok (h:VC n c) (hn:n+100≤1000000):M.merge_Identify c a b=some (idn c a b):=by
 have hl:=h.len
 have hS:(c.map TCell.ID).length≤1000000:=by simp; omega
 unfold M.merge_Identify idn
 rw [cFind_ok h.rise (by omega),bnd_pure,cFind_ok h.rise (by omega),bnd_pure]
 unfold M.merge_Identify_j2
 by_cases ha:(fnd c a).2=true
 ·rw [if_pos ha]
  by_cases hb:(fnd c b).2=true
  ·rw [if_pos (show (fnd c a).2=true∧(fnd c b).2=true from ⟨ha,hb⟩),hb,if_neg (by decide)]
   have hb':=(fnd_in h).1 hb
   have ha':=(fnd_in h).1 ha
   by_cases hd:(fnd c a).1.Dim=(fnd c b).1.Dim
   ·rw [if_pos hd,if_pos hd]
    clear hd
    have go:a≠b→M.merge_Identify_j1 c a b false=some (idC c a b,idM c a b,0):=fun hab=>by
     unfold M.merge_Identify_j1
     rw [if_neg (by decide),one_ok,bnd_pure,one_ok,bnd_pure,iof_ok (by decide),bnd_pure,(one_ch ha').chainsAdd (one_ch hb') (k:=-1) (k':=1) (by decide) (by decide) hS,bnd_pure,show pl [⟨a,1⟩] [⟨b,1⟩] (-1)=dif a b from rfl,
      replace_ok (S:=c.map TCell.ID) (n:=n) (m:=3) h.ch (dif_ch ha' hb') hS (by omega) (by omega) (by omega),bnd_pure,without_ok (by simp; omega) (by simp),bnd_pure,bnd_pure,itself_ok (by omega),bnd_pure]
     rfl
    by_cases hab:a=b
    ·rw [if_pos hab,if_pos (.inl hab)]; unfold M.merge_Identify_j1; rw [if_pos rfl]
    ·rw [if_neg hab,iof_ok (by decide),bnd_pure,(h.chB a).chainsAdd (h.chB b) (k:=-1) (k':=1) (by decide) (by omega) hS |> (fun e=>show M.chains_Add (fnd c a).1.B (fnd c b).1.B (-1)=some (pl (fnd c a).1.B (fnd c b).1.B (-1)) from e),bnd_pure]
     by_cases hB:(fnd c a).1.B=(fnd c b).1.B
     ·rw [if_neg (by simp [hab,hB]),show decide (0<((pl (fnd c a).1.B (fnd c b).1.B (-1)).length:Int))=false from decide_eq_false (fun e=>(pl_minus (S:=[]) (h.chB a).1 (h.chB b).1).1 e hB)]
      exact go hab
     ·rw [if_pos (.inr hB),show decide (0<((pl (fnd c a).1.B (fnd c b).1.B (-1)).length:Int))=true from decide_eq_true ((pl_minus (S:=[]) (h.chB a).1 (h.chB b).1).2 hB)]
      unfold M.merge_Identify_j1; rw [if_pos rfl]
   ·rw [if_neg hd,if_neg hd]
  ·have hb2:(fnd c b).2=false:=by simpa using hb
   rw [if_neg (show ¬ ((fnd c a).2=true∧(fnd c b).2=true) from fun e=>hb e.2),hb2,if_pos (by decide)]
 ·rw [if_neg ha,if_pos rfl,if_neg (fun e=>ha e.1)]
end
end Go.Z
end
section
namespace Go.Z
theorem lin_del {c:List TCell} (hs:Rise TCell.ID c) {g:Int→Int} {i k:Int} (h:i∈c.map TCell.ID):lin c g (fun j=>if j=i then k else 0)=g i*k:=by
 induction c with
 | nil=>cases h
 | cons y c ih=>
  rw [Rise,List.pairwise_cons] at hs
  rw [lin_cons]
  by_cases e:y.ID=i
  ·rw [if_pos e,lin_zero (fun z hz=>by rw [if_neg (by have:=hs.1 z hz; omega)]; simp),e]; omega
  ·rw [if_neg e,ih hs.2 (by rcases List.mem_cons.1 h with h | h; exact absurd h.symm e; exact h)]; omega
theorem lin_del0 {c:List TCell} {g:Int→Int} {i k:Int} (h:¬ i∈c.map TCell.ID):lin c g (fun j=>if j=i then k else 0)=0:=
 lin_zero fun y hy=>by rw [if_neg (fun e=>h (mem_ids.2 ⟨y,hy,e⟩))]; simp
theorem lin_delC {c:List TCell} (hs:Rise TCell.ID c) {x:List TFace} {i:Int} (h:∀ f∈x,f.ID∈c.map TCell.ID):lin c (cf x) (fun j=>if j=i then 1 else 0)=cf x i:=by
 by_cases e:i∈c.map TCell.ID
 ·rw [lin_del hs e]; omega
 ·rw [lin_del0 e]
  exact (Decidable.byContradiction fun e2=>e (cf_in h (c:=i) (fun e3=>e2 e3.symm)))
theorem cf_one (t i:Int):cf [⟨t,1⟩] i=if t=i then 1 else 0:=by simp [cf]
theorem im_itf {c:List TCell} (hs:Rise TCell.ID c) {m:List (Int×List TFace)} {x:TCell} (hx:x∈c):im (c.map (itf m)) x.ID=(mfind m x.ID).getD [⟨x.ID,1⟩]:=by
 have h1:Rise TImage.ID (c.map (itf m)):=rise_ids (l:=c.map (itf m)) (r:=c) (by rw [List.map_map]; rfl) hs
 have:=im_at h1 (List.mem_map_of_mem (f:=itf m) hx)
 exact this
section
variable {c:List TCell} {n:Nat} {a b:Int}
theorem rpl_id (z:List TFace) (x:TCell):(rpl b z x).ID=x.ID:=by unfold rpl; split<;>rfl
theorem rpl_dim (z:List TFace) (x:TCell):(rpl b z x).Dim=x.Dim:=by unfold rpl; split<;>rfl
theorem rpl_cf {z:List TFace} {x:TCell} (hx:Gd x.B) (hz:Gd z):Gd (rpl b z x).B∧∀ i,cf (rpl b z x).B i=cf x.B i+cf x.B b*cf z i:=by
 unfold rpl
 split
 ·rename_i h; exact ⟨hx,fun i=>by rw [h]; omega⟩
 ·exact Gd.pl hx hz
theorem rpl_ch {S:List Int} {m:Nat} {z:List TFace} {x:TCell} (hx:Ch S n x.B) (hz:Ch S m z):Ch S (n+m+1) (rpl b z x).B:=by
 unfold rpl
 split
 ·exact hx.mono (by omega)
 ·exact (hx.pl hz (hx.2.1.cf b)).mono (by omega)
theorem map_rise {f:TCell→TCell} (hf:∀ x,(f x).ID=x.ID) (hs:Rise TCell.ID c):Rise TCell.ID (c.map f):=
 rise_ids (l:=c.map f) (r:=c) (by rw [List.map_map]; exact List.map_congr_left fun x _=>hf x) hs
theorem dif_gd (a b:Int):Gd (dif a b):=(Gd.pl (Gd.one (by decide)) (Gd.one (by decide))).1
theorem lin_dif (h:VC n c) (ha:a∈c.map TCell.ID) (hb:b∈c.map TCell.ID) (F:Int→Int):lin c (cf (dif a b)) F=F a-F b:=by
 rw [show cf (dif a b)=fun i=>(if a=i then 1 else 0)+(if b=i then -1 else 0) from funext fun i=>by rw [cf_dif]; split<;>split<;>rfl,lin_addG,lin_one h.rise ha,lin_one h.rise hb]; omega
theorem idC_mem {y:TCell}:y∈idC c a b↔∃ x∈c,x.ID≠b∧y=rpl b (dif a b) x:=by
 unfold idC
 rw [List.mem_filter,List.mem_map]
 constructor
 ·rintro ⟨⟨x,hx,rfl⟩,h⟩
  exact ⟨x,hx,by simpa [rpl_id] using h,rfl⟩
 ·rintro ⟨x,hx,h,rfl⟩
  exact ⟨⟨x,hx,rfl⟩,by simpa [rpl_id] using h⟩
theorem idC_ids {i:Int}:i∈(idC c a b).map TCell.ID↔i∈c.map TCell.ID∧i≠b:=by
 rw [mem_ids,mem_ids]
 constructor
 ·rintro ⟨y,hy,rfl⟩
  obtain ⟨x,hx,h,rfl⟩:=idC_mem.1 hy
  rw [rpl_id]; exact ⟨⟨x,hx,rfl⟩,h⟩
 ·rintro ⟨⟨x,hx,rfl⟩,h⟩
  exact ⟨_,idC_mem.2 ⟨x,hx,h,rfl⟩,rpl_id _ _⟩
theorem idC_rise (h:VC n c):Rise TCell.ID (idC c a b):=(map_rise (fun x=>rpl_id _ x) h.rise).filter _
theorem idC_bO (h:VC n c) (i j:Int):cf (bO (idC c a b) i) j=if i=b then 0 else cf (bO c i) j+cf (bO c i) b*cf (dif a b) j:=by
 by_cases e:i∈(idC c a b).map TCell.ID
 ·have hi:=(idC_ids.1 e)
  obtain ⟨x,hx,rfl⟩:=mem_ids.1 hi.1
  have:=bO_at (idC_rise h) (idC_mem.2 ⟨x,hx,hi.2,rfl⟩:rpl b (dif a b) x∈idC c a b)
  rw [rpl_id] at this
  rw [this,if_neg hi.2,bO_at h.rise hx,(rpl_cf (h.ch x hx).1 (dif_gd a b)).2]
 ·unfold bO
  rw [fnd_no e]
  by_cases hb:i=b
  ·rw [if_pos hb]; rfl
  ·rw [if_neg hb,fnd_no (fun e2=>e (idC_ids.2 ⟨e2,hb⟩))]; simp [cf]
theorem idC_lin {g F:Int→Int} (h0:g b*F b=0):lin (idC c a b) g F=lin c g F:=by
 unfold idC
 rw [lin_filter _ (fun y _ hp=>by
  have:y.ID=b:=by simpa using hp
  rw [this]; exact h0),lin_map _ (fun y _=>rpl_id _ y)]
theorem Identify_law (h:VC n c) (ha:a∈c.map TCell.ID) (hb:b∈c.map TCell.ID) (hd:(fnd c a).1.Dim=(fnd c b).1.Dim) (hab:a≠b) (hB:bO c a=bO c b):VC (n+4) (idC c a b)∧Com 1 c (idC c a b) (idM c a b):=by
 have gz:Gd (dif a b):=(Gd.pl (Gd.one (by decide)) (Gd.one (by decide))).1
 have hz:=dif_ch (S:=c.map TCell.ID) ha hb
 have zb:cf (dif a b) b=-1:=by rw [cf_dif,if_neg hab,if_pos rfl]; rfl
 obtain ⟨xa,hxa,ea⟩:=mem_ids.1 ha
 obtain ⟨xb,hxb,eb⟩:=mem_ids.1 hb
 rw [fnd_at h.rise hxa ea,fnd_at h.rise hxb eb] at hd
 dsimp only at hd
 have yb:∀ x∈c,cf (rpl b (dif a b) x).B b=0:=fun x hx=>by
  rw [(rpl_cf (h.ch x hx).1 gz).2,zb]; omega
 have hch:∀ x∈c,Ch ((idC c a b).map TCell.ID) (n+4) (rpl b (dif a b) x).B:=fun x hx=>by
  have h1:=rpl_ch (b:=b) (h.ch x hx) hz
  refine ⟨h1.1,h1.2.1.mono (by omega),fun f hf=>idC_ids.2 ⟨h1.2.2 f hf,fun e=>?_⟩⟩
  have h2:=h1.1.ne hf
  rw [← h1.1.cf hf,e,yb x hx] at h2
  exact h2 rfl
 have aD:a∈(idC c a b).map TCell.ID:=idC_ids.2 ⟨ha,hab⟩
 have himg:∀ x∈c,im (idM c a b) x.ID=[⟨if x.ID=b then a else x.ID,1⟩]:=fun x hx=>by
  unfold idM
  rw [im_itf h.rise hx]
  simp only [mput,mfind]
  split<;>rfl
 constructor
 ·refine ⟨idC_rise h,?_,?_,?_,?_,?_⟩
  ·refine Nat.le_trans (List.length_filter_le _ _) ?_
   rw [List.length_map]; exact h.len
  ·intro y hy
   obtain ⟨x,hx,_,rfl⟩:=idC_mem.1 hy
   exact hch x hx
  ·intro y hy
   obtain ⟨x,hx,_,rfl⟩:=idC_mem.1 hy
   rw [rpl_dim]; exact h.dim x hx
  ·intro y hy f hf w hw e
   obtain ⟨x,hx,_,rfl⟩:=idC_mem.1 hy
   obtain ⟨v,hv,hvb,rfl⟩:=idC_mem.1 hw
   rw [rpl_dim,rpl_dim]
   rw [rpl_id] at e
   have h1:=rpl_cf (b:=b) (h.ch x hx).1 gz
   have h2:=h1.1.ne hf
   rw [← h1.1.cf hf,h1.2] at h2
   by_cases e2:cf x.B f.ID=0
   ·have h3:cf x.B b≠0:=fun e3=>by rw [e2,e3] at h2; simp at h2
    obtain ⟨g,hg,eg,_⟩:=cf_ne h3
    have h4:=h.fdim x hx g hg xb hxb (by omega)
    have h5:cf (dif a b) f.ID≠0:=fun e3=>by rw [e2,e3] at h2; simp at h2
    have h6:a=f.ID:=by
     rw [cf_dif,if_neg (show ¬ b=f.ID by omega)] at h5
     exact Decidable.byContradiction fun e=>by rw [if_neg e] at h5; exact h5 rfl
    have h7:v=xa:=by
     have h8:=fnd_at h.rise hv (i:=a) (by omega)
     rw [fnd_at h.rise hxa ea] at h8
     exact (Prod.mk.inj h8).1.symm
    rw [h7,hd,h4]
   ·obtain ⟨g,hg,eg,_⟩:=cf_ne e2
    exact h.fdim x hx g hg v hv (by omega)
  ·intro y hy i
   obtain ⟨x,hx,_,rfl⟩:=idC_mem.1 hy
   have hk:∀ k,lin c (cf (rpl b (dif a b) x).B) (fun j=>cf (bO c j) k)=0:=fun k=>by
    rw [show cf (rpl b (dif a b) x).B=fun i=>cf x.B i+cf x.B b*cf (dif a b) i from funext (rpl_cf (h.ch x hx).1 gz).2,lin_addG,lin_mulG,h.bb x hx,lin_dif h ha hb,hB]; simp
   rw [idC_lin (by rw [yb x hx]; simp),lin_congr (g':=cf (rpl b (dif a b) x).B) (F':=fun j=>cf (bO c j) i+cf (bO c j) b*cf (dif a b) i) (fun y _=>?_),lin_addF,lin_mulFr,hk,hk]
   ·simp
   ·rw [idC_bO h]
    by_cases e:y.ID=b
    ·rw [e,yb x hx]; simp
    ·rw [if_neg e]
 ·refine ⟨by unfold idM; rw [List.map_map]; rfl,?_,?_,?_⟩
  ·intro t ht
   unfold idM at ht
   obtain ⟨x,hx,rfl⟩:=List.mem_map.1 ht
   have:=himg x hx
   rw [show (itf (mput [] b [⟨a,1⟩]) x).X=[⟨if x.ID=b then a else x.ID,1⟩] by
    unfold itf; simp only [mput,mfind]; split<;>rfl]
   refine one_ch ?_
   split
   ·exact aD
   ·rename_i e; exact idC_ids.2 ⟨mem_ids.2 ⟨x,hx,rfl⟩,e⟩
  ·intro x hx f hf y hy e
   rw [himg x hx] at hf
   have hf:f=⟨if x.ID=b then a else x.ID,1⟩:=by simpa using hf
   obtain ⟨v,hv,hvb,rfl⟩:=idC_mem.1 hy
   rw [rpl_dim]
   rw [rpl_id,hf] at e
   dsimp only at e
   by_cases e2:x.ID=b
   ·rw [if_pos e2] at e
    have h8:=fnd_at h.rise hv (i:=a) e
    rw [fnd_at h.rise hxa ea] at h8
    have h9:=fnd_at h.rise hx (i:=b) e2
    rw [fnd_at h.rise hxb eb] at h9
    rw [← (Prod.mk.inj h8).1,← (Prod.mk.inj h9).1,hd]
   ·rw [if_neg e2] at e
    have h8:=fnd_at h.rise hv (i:=x.ID) e
    rw [fnd_at h.rise hx rfl] at h8
    rw [(Prod.mk.inj h8).1]
  ·intro x hx i
   have hch2:=h.ch x hx
   have ht:(if x.ID=b then a else x.ID)∈(idC c a b).map TCell.ID:=by
    split
    ·exact aD
    ·rename_i e; exact idC_ids.2 ⟨mem_ids.2 ⟨x,hx,rfl⟩,e⟩
   have hBt:bO c (if x.ID=b then a else x.ID)=x.B:=by
    split
    ·rename_i e; rw [hB,← e,bO_at h.rise hx]
    ·exact bO_at h.rise hx
   rw [himg x hx,show cf [⟨if x.ID=b then a else x.ID,1⟩]=fun i=>if (if x.ID=b then a else x.ID)=i then 1 else 0 from funext fun i=>cf_one _ i,lin_one (idC_rise h) ht,idC_bO h,if_neg (idC_ids.1 ht).2,hBt]
   rw [lin_congr (g':=cf x.B) (F':=fun j=>(if j=i then 1 else 0)+(if j=b then cf (dif a b) i else 0)) (fun y hy=>?_),lin_addF,lin_delC h.rise hch2.2.2,lin_del h.rise hb]
   ·omega
   ·congr 1
    rw [himg y hy,cf_one,cf_dif]
    by_cases e:y.ID=b
    ·rw [if_pos e,if_pos e,e]; omega
    ·rw [if_neg e,if_neg e]; omega
end
end Go.Z
end
section
namespace Go.Z
section
variable {c:List TCell} {n:Nat} {a b:Int} {x:R26Raw}
theorem idn_cases (h:VC n c) (a b:Int):(∃ e,idn c a b=([],[],e)∧e≠0)∨(idn c a b=(idC c a b,idM c a b,0)∧VC (n+4) (idC c a b)∧Com 1 c (idC c a b) (idM c a b)):=by
 unfold idn
 split
 ·rename_i h1
  split
  ·rename_i h2
   split
   ·exact .inl ⟨_,rfl,by decide⟩
   ·rename_i h3
    have h3:=not_or.1 h3
    refine .inr ⟨rfl,Identify_law h ((fnd_in h).1 h1.1) ((fnd_in h).1 h1.2) h2 h3.1 ?_⟩
    exact Decidable.byContradiction h3.2
  ·exact .inl ⟨_,rfl,by decide⟩
 ·exact .inl ⟨_,rfl,by decide⟩
end
end Go.Z
end
section
namespace Go.Z
open Eu
def cel (c:List TCell) (k:Int):List Int:=(c.filter fun x=>decide (x.Dim=k)).map TCell.ID
theorem Cells_ok {c:List TCell} {k:Int} (lc:c.length≤1000000):M.r25_Cells c k=some (cel c k):=by
 unfold M.r25_Cells
 have hf:∀ (c:List TCell) (a:List Int),c.foldl (fun (a:List Int) (x:TCell)=>if x.Dim=k then a++[x.ID] else a) a=a++cel c k:=by
  intro c
  induction c with
  | nil=>intro a; simp [cel]
  | cons x c ih=>
   intro a
   rw [List.foldl_cons,ih]
   unfold cel
   rw [List.filter_cons]
   by_cases h:x.Dim=k
   ·rw [if_pos h,if_pos (by simpa using h)]; simp
   ·rw [if_neg h,if_neg (by simpa using h)]
 have hl:∀ (c:List TCell),(cel c k).length≤c.length:=fun c=>by unfold cel; rw [List.length_map]; exact List.length_filter_le _ _
 rw [rngL_fold (l:=c) (fun (a:List Int) (x:TCell)=>if x.Dim=k then a++[x.ID] else a) (by omega) (fun n x s hx hs=>?_) rfl]
 ·unfold M.r25_Cells_k1
  rw [hf]; simp
 ·have hn:n<c.length:=(List.getElem?_eq_some_iff.1 hx).1
  have hsl:s.length≤n:=by rw [hs,hf]; have:=hl (c.take n); simp at *; omega
  unfold M.r25_Cells_b1
  dsimp only
  by_cases h:x.Dim=k
  ·rw [if_pos h,if_pos h,app_at (by simp; omega),bnd_pure]
  ·rw [if_neg h,if_neg h]
def gi (l:List Int) (i:Nat):Int:=l.getD i 0
theorem gi_at {l:List Int} {i:Nat} {x:Int} (h:l[i]?=some x):gi l i=x:=by simp [gi,h]
theorem map_vr (l:List Int) (f:Int→Int):l.map f=vr l.length fun i=>f (gi l i):=by
 refine List.ext_getElem? fun k=>?_
 rw [List.getElem?_map]
 by_cases h:k<l.length
 ·obtain ⟨x,hx⟩:=lt_get h
  rw [vr_get h,hx,gi_at hx]; rfl
 ·rw [List.getElem?_eq_none (by omega),List.getElem?_eq_none (by rw [vr_len]; omega)]; rfl
theorem gi_mem {l:List Int} {i:Nat} (h:i<l.length):gi l i∈l:=by
 obtain ⟨x,hx⟩:=lt_get h
 rw [gi_at hx]; exact List.mem_of_getElem? hx
theorem mp_same2 {α β:Type} {f:α→β} {l:List α} {r:List β} {i:Nat} {x:α} (hx:l[i]?=some x) (hr:r[i]?=some (f x)):mp f l r i=mp f l r (i+1):=by
 unfold mp
 rw [List.take_add_one,hx,drop_cons hr]; simp
theorem Row_ok {B:List TFace} {ids:List Int} (g:Gd B) (lB:B.length≤1000000) (li:ids.length≤1000000):M.r25_Row B ids=some (ids.map (cf B)):=by
 unfold M.r25_Row mkl
 rw [if_pos (by omega),bnd_pure]
 have h0:List.replicate ((ids.length:Nat):Int).toNat (0:Int)=ids.map (cf (B.take 0)):=by
  rw [Int.toNat_natCast,List.take_zero]
  exact (show ids.map (fun _=>(0:Int))=_ from List.map_const').symm
 rw [h0]
 refine rngL_eq (fun i v=>v=ids.map (cf (B.take i))) _ (by omega) rfl (fun i t v ht hv=>.inl ?_) (fun v hv=>?_)
 ·subst hv
  refine ⟨ids.map (cf (B.take (i+1))),?_,rfl⟩
  unfold M.r25_Row_b2
  dsimp only
  have e0:cf (B.take i) t.ID=0:=by
   have h1:=cf_take g ht t.ID
   have h2:cf (B.take (i+1)) t.ID=t.C:=by
    obtain ⟨z,s⟩:=g
    refine cf_none (l:=B.take i) (c:=t.ID) (fun f hf e=>?_) |> fun e=>by rw [h1,e,if_pos rfl]; omega
    rw [show B=B.take i++(t::B.drop (i+1)) by rw [← drop_cons ht,List.take_append_drop]] at s
    have:=so_app s f hf t (by simp)
    omega
   rw [h1,if_pos rfl] at h2; omega
  have e1:ids.map (cf (B.take (i+1)))=ids.map fun k=>if k=t.ID then t.C else cf (B.take i) k:=by
   refine List.map_congr_left fun k _=>?_
   rw [cf_take g ht]
   by_cases e:k=t.ID
   ·rw [if_pos e,if_pos e.symm,e,e0]; omega
   ·rw [if_neg e,if_neg (Ne.symm e)]; omega
  rw [e1]
  rw [rng_mp (fun k=>if k=t.ID then t.C else cf (B.take i) k) li (by simp) (fun j k hk=>?_)]
  ·rfl
  ·have hr:(ids.map (cf (B.take i)))[j]?=some (cf (B.take i) k):=by rw [List.getElem?_map,hk]; rfl
   have hm:=mp_get (f:=fun k=>if k=t.ID then t.C else cf (B.take i) k) (l:=ids) (by simp) hr
   unfold M.r25_Row_b1
   dsimp only
   by_cases e:k=t.ID
   ·rw [if_pos e,nth_at hm,if_pos e]
   ·rw [if_neg e]
    have h3:=mp_set (f:=fun k=>if k=t.ID then t.C else cf (B.take i) k) (r:=ids.map (cf (B.take i))) (by simp) hk
    rw [h3,← mp_same2 hk (by rw [hr]; simp [e])]
 ·rw [List.take_of_length_le (Nat.le_refl _)] at hv
  rw [hv]; rfl
def bmat (c:List TCell) (k:Int):Fam:=fun i j=>cf (bO c (gi (cel c k) i)) (gi (cel c (k-1)) j)
theorem cel_mem {c:List TCell} {k i:Int}:i∈cel c k↔∃ x∈c,x.Dim=k∧x.ID=i:=by
 unfold cel
 simp [List.mem_filter,and_assoc]
theorem cel_len (c:List TCell) (k:Int):(cel c k).length≤c.length:=by unfold cel; rw [List.length_map]; exact List.length_filter_le _ _
section
variable {c:List TCell} {n:Nat} {k:Int}
theorem Boundary_ok (h:VC n c) (hk:0≤k∧k≤10):M.r25_Boundary c k=some ⟨(cel c k).length,(cel c (k-1)).length,mx (cel c k).length (cel c (k-1)).length (bmat c k)⟩:=by
 have hl:=h.len
 have l1:=cel_len c k
 have l2:=cel_len c (k-1)
 unfold M.r25_Boundary
 rw [Cells_ok (by omega),bnd_pure,chk64_pos (by omega),Cells_ok (by omega),bnd_pure]
 have hf:∀ (ids:List Int) (a:List (List Int)),ids.foldl (fun (a:List (List Int)) (i:Int)=>a++[(cel c (k-1)).map (cf (bO c i))]) a=a++ids.map fun i=>(cel c (k-1)).map (cf (bO c i)):=by
  intro ids
  induction ids with
  | nil=>simp
  | cons x ids ih=>intro a; rw [List.foldl_cons,ih]; simp
 rw [rngL_fold (l:=cel c k) (fun (a:List (List Int)) (i:Int)=>a++[(cel c (k-1)).map (cf (bO c i))]) (by omega) (fun i x s hx hs=>?_) rfl]
 ·unfold M.r25_Boundary_k1
  rw [hf]
  dsimp only
  congr 2
  rw [List.nil_append]
  unfold mx bmat
  refine List.ext_getElem? fun j=>?_
  rw [List.getElem?_map,List.getElem?_map]
  by_cases hj:j<(cel c k).length
  ·obtain ⟨x,hx⟩:=lt_get hj
   rw [hx,List.getElem?_range hj]
   show some (List.map (cf (bO c x)) (cel c (k-1)))=some (vr (cel c (k-1)).length fun j'=>cf (bO c (gi (cel c k) j)) (gi (cel c (k-1)) j'))
   rw [gi_at hx,map_vr]
  ·rw [List.getElem?_eq_none (by omega),List.getElem?_eq_none (by simp; omega)]; rfl
 ·have hi:i<(cel c k).length:=(List.getElem?_eq_some_iff.1 hx).1
  have hsl:s.length≤i:=by rw [hs,hf]; simp; omega
  unfold M.r25_Boundary_b1
  dsimp only
  rw [Find_ok (by omega),bnd_pure]
  have:=h.chB x
  have hlB:=this.len
  rw [List.length_map] at hlB
  rw [show M.r25_Row (fnd c x).1.B (cel c (k-1))=some ((cel c (k-1)).map (cf (bO c x))) from Row_ok (B:=bO c x) this.1 (by omega) (by omega),bnd_pure,app_at (by simp; omega),bnd_pure]
def sm (n:Nat) (h:Nat→Int):Int:=((List.range n).map h).sum
theorem sm_succ (n:Nat) (h:Nat→Int):sm (n+1) h=sm n h+h n:=by unfold sm; rw [List.range_succ,List.map_append,List.sum_append]; simp
theorem sm_congr {n:Nat} {f g:Nat→Int} (h:∀ i,i<n→f i=g i):sm n f=sm n g:=by
 unfold sm; rw [List.map_congr_left fun i hi=>h i (List.mem_range.1 hi)]
theorem sm_lin (n:Nat) (f g:Nat→Int) (k:Int):sm n (fun i=>f i+k*g i)=sm n f+k*sm n g:=by
 induction n with
 | zero=>simp [sm]
 | succ n ih=>rw [sm_succ,sm_succ,sm_succ,ih,Int.mul_add]; omega
theorem sm_zero {n:Nat} {f:Nat→Int} (h:∀ i,i<n→f i=0):sm n f=0:=by
 induction n with
 | zero=>rfl
 | succ n ih=>rw [sm_succ,ih fun i hi=>h i (by omega),h n (by omega)]; rfl
theorem sm_del {n i:Nat} (hi:i<n) (g:Nat→Int):sm n (fun j=>if j=i then g j else 0)=g i:=by
 induction n with
 | zero=>omega
 | succ n ih=>
  rw [sm_succ]
  by_cases e:n=i
  ·rw [if_pos e,sm_zero (fun j hj=>by rw [if_neg (by omega)]),e]; omega
  ·rw [if_neg e,ih (by omega)]; omega
def Ann (n m:Nat) (A:Fam) (f:Nat→Int):Prop:=∀ j,j<m→sm n (fun i=>f i*A i j)=0
def Qu (n m:Nat) (A:Fam) (f:Nat→Int):Prop:=∀ j,j<m→f j=sm n fun i=>f (m+i)*A i j
theorem Ann.lin (n m:Nat) (A:Fam):LinQ (Ann n m A):=fun f g k hf hg j hj=>by
 rw [show (fun i=>(f i+k*g i)*A i j)=fun i=>f i*A i j+k*(g i*A i j) from funext fun i=>by rw [Int.add_mul,Int.mul_assoc],sm_lin,hf j hj,hg j hj]; simp
theorem Qu.lin (n m:Nat) (A:Fam):LinQ (Qu n m A):=fun f g k hf hg j hj=>by
 show f j+k*g j=sm n fun i=>(f (m+i)+k*g (m+i))*A i j
 rw [show (fun i=>(f (m+i)+k*g (m+i))*A i j)=fun i=>f (m+i)*A i j+k*(g (m+i)*A i j) from funext fun i=>by rw [Int.add_mul,Int.mul_assoc],sm_lin,← hf j hj,← hg j hj]
theorem Qu.aug {n m:Nat} (A:Fam) {i:Nat} (hi:i<n):Qu n m A (Z.aug m A i):=fun j hj=>by
 rw [sm_congr (g:=fun i'=>if i'=i then A i' j else 0) fun i' hi'=>?_,sm_del hi]
 ·unfold Z.aug; rw [if_pos hj]
 ·unfold Z.aug
  rw [if_neg (show ¬ m+i'<m by omega)]
  by_cases e:i'=i
  ·rw [if_pos e,if_pos (by omega)]; omega
  ·rw [if_neg e,if_neg (by omega)]; omega
structure Cyc (c:List TCell) (k:Int) (n:Nat) (y:List TFace):Prop where
 ch:Ch (cel c k) n y
 z:∀ t,lin c (cf y) (fun j=>cf (bO c j) t)=0
theorem cel_sub {i:Int} (h:i∈cel c k):i∈c.map TCell.ID:=by
 obtain ⟨x,hx,_,e⟩:=cel_mem.1 h
 exact mem_ids.2 ⟨x,hx,e⟩
theorem cel_nd (h:VC n c):(cel c k).Nodup:=by
 have h1:((c.filter fun x=>decide (x.Dim=k)).map TCell.ID).Pairwise (· < ·):=List.pairwise_map.2 (h.rise.filter _)
 exact h1.imp fun {a b} h=>by omega
theorem gi_inj (h:VC n c) {i j:Nat} (hi:i<(cel c k).length) (hj:j<(cel c k).length) (e:gi (cel c k) i=gi (cel c k) j):i=j:=by
 obtain ⟨x,hx⟩:=lt_get hi
 obtain ⟨y,hy⟩:=lt_get hj
 rw [gi_at hx,gi_at hy] at e
 subst e
 exact (List.getElem?_inj hi (cel_nd h)).1 (hx.trans hy.symm)
theorem Of_ok (h:VC n c) {b:Nat} (hb:b+2≤16000000) {f:Nat→Int} (hf:∀ i,i<(cel c k).length→(f i).natAbs≤2^b) (ha:Ann (cel c k).length (cel c (k-1)).length (bmat c k) f) :
  ∃ y,M.r26_Of c k (vr (cel c k).length f)=some y∧Cyc c k (b+1) y:=by
 have hl:=h.len
 have l1:=cel_len c k
 have key:∃ y,M.r26_Chain c k (vr (cel c k).length f)=some (y,0)∧Gd y∧∀ t,cf y t=sm (cel c k).length fun i=>if gi (cel c k) i=t then f i else 0:=by
  unfold M.r26_Chain
  rw [Cells_ok (by omega),bnd_pure,vr_len,if_pos rfl]
  have hpt:∀ i,i≤(cel c k).length→∀ t,(sm i fun i=>if gi (cel c k) i=t then f i else 0).natAbs<2^(b+1):=fun i hi t=>by
   by_cases e:∃ j,j<i∧gi (cel c k) j=t
   ·obtain ⟨j,hj,rfl⟩:=e
    rw [sm_congr (g:=fun i=>if i=j then f i else 0) fun i' hi'=>?_,sm_del hj]
    ·have:=hf j (by omega)
     rw [Nat.pow_succ]
     have:=Nat.two_pow_pos b
     omega
    ·by_cases e:i'=j
     ·rw [if_pos e,if_pos (by rw [e])]
     ·rw [if_neg e,if_neg (fun e2=>e (gi_inj h (by omega) (by omega) e2))]
   ·rw [sm_zero fun j hj=>if_neg fun e2=>e ⟨j,hj,e2⟩]
    exact Nat.two_pow_pos _
  obtain ⟨r,h1,y,h2⟩:=rngL_or (b:=M.r26_Chain_b1 (cel c k)) (e:=M.r26_Chain_k1) (l:=vr (cel c k).length f) (s:=([]:List TFace)) (fun i v=>Gd v∧v.length≤i∧∀ t,cf v t=sm i fun i=>if gi (cel c k) i=t then f i else 0)
   (fun r=>∃ y,r=(y,0)∧Gd y∧∀ t,cf y t=sm (cel c k).length fun i=>if gi (cel c k) i=t then f i else 0) (by rw [vr_len]; omega) ⟨Gd.nil,Nat.zero_le _,fun t=>rfl⟩
   (fun i x v hx hv=>by
    obtain ⟨hg,hlen,hc⟩:=hv
    have hi:i<(cel c k).length:=by have:=(List.getElem?_eq_some_iff.1 hx).1; rw [vr_len] at this; exact this
    rw [vr_get hi] at hx
    obtain rfl:=Option.some.inj hx
    obtain ⟨z,hz⟩:=lt_get hi
    have hbn:Bn (b+1) v:=Bn.of_cf hg fun t=>by rw [hc t]; exact hpt i (by omega) t
    have hfi:(f i).natAbs<2^(b+1):=by
     have:=hf i hi
     have:=Nat.two_pow_pos b
     rw [Nat.pow_succ]; omega
    have hgi:=hg.insA (f:=⟨z,f i⟩)
    refine .inl ⟨insA ⟨z,f i⟩ v,?_,hgi.1,?_,fun t=>?_⟩
    ·unfold M.r26_Chain_b1
     dsimp only
     rw [nth_at hz,insert_ok hg (hbn.ftb (by omega)) (ft_big hfi (by omega)) (fun t ht=>ft_big (add_bits (hbn t ht) hfi) (by omega)) (by omega),bnd_pure]
    ·have:=len_insA ⟨z,f i⟩ v; omega
    ·rw [hgi.2,hc,sm_succ,gi_at hz])
   (fun v hv=>by
    rw [vr_len] at hv
    exact ⟨_,rfl,v,rfl,hv.1,hv.2.2⟩)
  obtain ⟨rfl,h3⟩:=h2
  exact ⟨y,h1,h3⟩
 obtain ⟨y,h1,hg,hc⟩:=key
 refine ⟨y,by unfold M.r26_Of; rw [h1,bnd_pure],⟨hg,Bn.of_cf hg fun t=>?_,fun g hg2=>?_⟩,fun t=>?_⟩
 ·rw [hc t]
  by_cases e:∃ j,j<(cel c k).length∧gi (cel c k) j=t
  ·obtain ⟨j,hj,rfl⟩:=e
   rw [sm_congr (g:=fun i=>if i=j then f i else 0) fun i' hi'=>?_,sm_del hj]
   ·have:=hf j (by omega)
    rw [Nat.pow_succ]
    have:=Nat.two_pow_pos b
    omega
   ·by_cases e:i'=j
    ·rw [if_pos e,if_pos (by rw [e])]
    ·rw [if_neg e,if_neg (fun e2=>e (gi_inj h (by omega) (by omega) e2))]
  ·rw [sm_zero fun j hj=>if_neg fun e2=>e ⟨j,hj,e2⟩]
   exact Nat.two_pow_pos _
 ·have h2:=hg.ne hg2
  rw [← hg.cf hg2,hc] at h2
  refine Decidable.byContradiction fun e=>h2 (sm_zero fun j hj=>if_neg fun e2=>e ?_)
  rw [← e2]; exact gi_mem hj
 ·have hlin:∀ (i:Nat),i≤(cel c k).length→∀ F:Int→Int,lin c (fun t=>sm i fun i=>if gi (cel c k) i=t then f i else 0) F=sm i fun i=>f i*F (gi (cel c k) i):=by
   intro i
   induction i with
   | zero=>intro _ F; exact lin_zero fun y _=>by simp [sm]
   | succ i ih=>
    intro hi F
    rw [show (fun t=>sm (i+1) fun i=>if gi (cel c k) i=t then f i else 0)=fun t=>(sm i fun i=>if gi (cel c k) i=t then f i else 0)+(if gi (cel c k) i=t then f i else 0) from funext fun t=>sm_succ ..,lin_addG,ih (by omega),sm_succ,lin_one h.rise (cel_sub (gi_mem (by omega)))]
  rw [show cf y=fun t=>sm (cel c k).length fun i=>if gi (cel c k) i=t then f i else 0 from funext hc,hlin _ (Nat.le_refl _)]
  by_cases e:t∈cel c (k-1)
  ·obtain ⟨j,hj⟩:=List.mem_iff_getElem?.1 e
   have:=ha j (List.getElem?_eq_some_iff.1 hj).1
   unfold bmat at this
   rw [gi_at hj] at this
   exact this
  ·refine sm_zero fun i hi=>?_
   obtain ⟨x,hx,hd,e2⟩:=cel_mem.1 (gi_mem hi)
   rw [← e2,bO_at h.rise hx,cf_none fun g hg e3=>e ?_,Int.mul_zero]
   obtain ⟨w,hw,e4⟩:=mem_ids.1 ((h.ch x hx).2.2 g hg)
   exact cel_mem.2 ⟨w,hw,by rw [h.fdim x hx g hg w hw e4,hd],by omega⟩
end
end Go.Z
end
section
namespace Go.Z
open Eu
section
variable {c:List TCell} {n:Nat} {k:Int}
def lbc (N M b L:Nat):Prop:=bok N M b∧L<15999000∧∀ top,top≤N→top≤M→(bsq N b top).1<15999000∧(bsq N b top).2.1<15999000∧bok (N-top) N (bsq N b top).1∧∀ t,t≤N-top→t≤N→(bsq (N-top) (bsq N b top).1 t).1<15999000∧(bsq (N-top) (bsq N b top).1 t).2.1≤L
theorem Cycles_ok (h:VC n c) (hk:0≤k∧k≤10) {b L:Nat} (hb:∀ x∈c,x.Dim=k→Bn b x.B) (hb0:b≤15999000) (hL:lbc (cel c k).length (cel c (k-1)).length b L):∃ ys,M.r26_Cycles c k=some ys∧ys.length≤400∧∀ y∈ys,Cyc c k (L+1) y:=by
 have hl:=h.len
 have l1:=cel_len c k
 have l2:=cel_len c (k-1)
 obtain ⟨g1,g2,g3⟩:=hL
 unfold M.r26_Cycles
 rw [if_neg (by omega),Boundary_ok h hk,bnd_pure]
 have hent:∀ i,i<(cel c k).length→∀ j,j<(cel c (k-1)).length→(bmat c k i j).natAbs≤2^b:=fun i hi j hj=>by
  obtain ⟨x,hx,hd,e⟩:=cel_mem.1 (gi_mem hi)
  unfold bmat
  rw [← e,bO_at h.rise hx]
  exact Nat.le_of_lt ((hb x hx hd).cf _)
 obtain ⟨r,top,t,F,e1,h1,h2,h3,h4,rfl,h5,h6⟩:=Left_ok (Q:=Qu (cel c k).length (cel c (k-1)).length (bmat c k)) (P:=Ann (cel c k).length (cel c (k-1)).length (bmat c k)) (n:=(cel c k).length) (m:=(cel c (k-1)).length) (b0:=b) (A:=bmat c k) (Qu.lin _ _ _) (Ann.lin _ _ _) (by omega) (by omega) hb0 hent (fun i hi=>Qu.aug _ hi) g1
  (fun top h1 h2=>⟨(g3 top h1 h2).1,(g3 top h1 h2).2.1⟩) (fun top h1 h2=>⟨(g3 top h1 h2).2.2.1,fun t h3 h4=>⟨((g3 top h1 h2).2.2.2 t h3 h4).1,by have:=((g3 top h1 h2).2.2.2 t h3 h4).2; omega⟩⟩)
  (fun f hf h0 j hj=>by rw [← hf j hj]; exact h0 j hj) (fun f g hfg hf j hj=>by rw [← hf j hj]; exact (sm_congr fun i hi=>by rw [hfg i hi]).symm)
 rw [e1,bnd_pure]
 have hL2:=((g3 top h1 h2).2.2.2 r h3 h4).2
 refine rngN_or (fun i v=>v.length≤i∧∀ y∈v,Cyc c k (L+1) y) _ (K:=(r:Int)) (I:=0) (k:=r) (i:=0) rfl rfl (by omega) (Nat.zero_le _) ⟨Nat.zero_le _,fun y hy=>by cases hy⟩ (fun i v hi hv=>.inl ?_) (fun v hv=>⟨v,rfl,by have:=hv.1; omega,hv.2⟩)
 obtain ⟨y,e2,hy⟩:=Of_ok (b:=L) h (by omega) (f:=F i) (fun j hj=>le_pow (h6 i hi j hj) hL2) (h5 i hi)
 unfold M.r26_Cycles_b1
 dsimp only
 rw [nth_at (mx_get hi),e2,bnd_pure,app_at (by have:=hv.1; simp; omega),bnd_pure]
 refine ⟨_,rfl,by have:=hv.1; simp; omega,fun z hz=>?_⟩
 rcases List.mem_append.1 hz with hz | hz
 ·exact hv.2 z hz
 ·simp at hz; rw [hz]; exact hy
theorem Add26_ok {S:List Int} {m k':Nat} {a b:List TFace} {κ:Int} (ha:Ch S n a) (hb:Ch S m b) (hk:κ.natAbs<2^k') (hn:max n (k'+m)+2≤16000000) (hS:S.length≤100000):M.r26_Add a b κ=some (pl a b κ):=by
 have la:=ha.len
 have lb:=hb.len
 unfold M.r26_Add
 rw [rngL_fold (l:=b) (fun (acc:List TFace) (t:TFace)=>insA ⟨t.ID,κ*t.C⟩ acc) (by omega) (fun i t s ht hs=>?_) rfl]
 ·rfl
 ·have hm:=List.mem_of_getElem? ht
  have hch:Ch S (max n (k'+m)+1) s:=by rw [hs]; exact ha.pl (hb.take i) hk
  have hc:=mul_bits hk (hb.2.1 t hm)
  have hls:=hch.len
  unfold M.r26_Add_b1
  dsimp only
  rw [imul_ok (ft_big hk (by omega)) (hb.ftb (by omega) t hm),bnd_pure,insert_ok hch.1 (hch.ftb (by omega)) (ft_big hc (by omega)) (fun u hu=>ft_big (add_bits (hch.2.1 u hu) hc) (by omega)) (by omega),bnd_pure]
theorem Cyc.nil (c:List TCell) (k:Int) (n:Nat):Cyc c k n []:=⟨Ch.nil _ _,fun t=>lin_zero fun y _=>by simp [cf]⟩
theorem Cyc.add {m k':Nat} {a y:List TFace} {κ:Int} (ha:Cyc c k n a) (hy:Cyc c k m y) (hk:κ.natAbs<2^k'):Cyc c k (max n (k'+m)+1) (pl a y κ):=by
 refine ⟨ha.ch.pl hy.ch hk,fun t=>?_⟩
 rw [show cf (pl a y κ)=fun i=>cf a i+κ*cf y i from funext (Gd.pl ha.ch.1 hy.ch.1).2,lin_addG,lin_mulG,ha.z,hy.z]; simp
theorem snoc_VC {d:Int} {t:Int} {y:List TFace} (h:VC n c) (hl:c.length≤300) (hd:0≤d∧d≤3) (ht:∀ x∈c,x.ID<t) (hy:Cyc c (d-1) n y):VC n (c++[⟨t,d,y⟩]):=by
 have hno:¬ t∈c.map TCell.ID:=fun e=>by
  obtain ⟨x,hx,e⟩:=mem_ids.1 e
  have:=ht x hx; omega
 have hr:Rise TCell.ID (c++[⟨t,d,y⟩]):=by
  unfold Rise
  rw [List.pairwise_append]
  exact ⟨h.rise,List.pairwise_singleton _ _,fun x hx z hz=>by simp at hz; subst hz; exact ht x hx⟩
 have hz:∀ x∈c,cf x.B t=0:=fun x hx=>cf_none fun f hf e=>hno (by rw [← e]; exact (h.ch x hx).2.2 f hf)
 have hzy:cf y t=0:=cf_none fun f hf e=>hno (by rw [← e]; exact cel_sub (hy.ch.2.2 f hf))
 have hB:∀ z∈c,bO (c++[⟨t,d,y⟩]) z.ID=bO c z.ID:=fun z hz=>by
  rw [bO_at hr (List.mem_append_left _ hz),bO_at h.rise hz]
 have hlin:∀ (g:Int→Int) (i:Int),g t=0→lin (c++[⟨t,d,y⟩]) g (fun j=>cf (bO (c++[⟨t,d,y⟩]) j) i)=lin c g (fun j=>cf (bO c j) i):=fun g i hg=>by
  have e3:lin c g (fun j=>cf (bO (c++[⟨t,d,y⟩]) j) i)=lin c g (fun j=>cf (bO c j) i):=lin_congr fun z hz=>by rw [hB z hz]
  rw [← e3]
  unfold lin
  rw [List.map_append,List.sum_append]
  simp [hg]
 refine ⟨hr,by simp; omega,?_,?_,?_,?_⟩
 ·intro x hx
  rcases List.mem_append.1 hx with hx | hx
  ·exact (h.ch x hx).sub fun i hi=>by simp at hi ⊢; exact .inl hi
  ·simp at hx; subst hx
   exact hy.ch.sub fun i hi=>by have:=cel_sub hi; simp at this ⊢; exact .inl this
 ·intro x hx
  rcases List.mem_append.1 hx with hx | hx
  ·exact h.dim x hx
  ·simp at hx; subst hx; exact hd
 ·intro x hx f hf z hz2 e
  rcases List.mem_append.1 hx with hx | hx
  ·rcases List.mem_append.1 hz2 with hz2 | hz2
   ·exact h.fdim x hx f hf z hz2 e
   ·simp at hz2; subst hz2
    exact absurd ((h.ch x hx).2.2 f hf) (by rw [← e]; exact hno)
  ·simp at hx; subst hx
   obtain ⟨w,hw,hwd,hwi⟩:=cel_mem.1 (hy.ch.2.2 f hf)
   rcases List.mem_append.1 hz2 with hz2 | hz2
   ·have h8:=fnd_at h.rise hz2 e
    rw [fnd_at h.rise hw hwi] at h8
    rw [← (Prod.mk.inj h8).1]; exact hwd
   ·simp at hz2; subst hz2
    exact absurd (cel_sub (hy.ch.2.2 f hf)) (by rw [← e]; exact hno)
 ·intro x hx i
  rcases List.mem_append.1 hx with hx | hx
  ·rw [hlin _ _ (hz x hx)]; exact h.bb x hx i
  ·simp at hx; subst hx
   rw [hlin _ _ hzy]; exact hy.z i
theorem tmod4 (x:Int):-4<Int.tmod x 4∧Int.tmod x 4<4:=by
 have h1:=Int.tmod_lt_of_pos x (show (0:Int)<4 by decide)
 have h2:=Int.lt_tmod_of_pos x (show (0:Int)<4 by decide)
 exact ⟨by omega,h1⟩
theorem Grown_ok {x:Int×Int×Int×Int} (h:VC n c) (hl:c.length≤300) {b L:Nat} (hid:∀ y∈c,y.ID.natAbs≤1000) (hn:L+10≤n) (hn2:n≤900000)
  (hL:Int.tmod (GoWrap.u8 x.1) 4≠0→(∀ y∈c,y.Dim=Int.tmod (GoWrap.u8 x.1) 4-1→Bn b y.B)∧b≤15999000∧lbc (cel c (Int.tmod (GoWrap.u8 x.1) 4-1)).length (cel c (Int.tmod (GoWrap.u8 x.1) 4-1-1)).length b L) :
  ∃ t y,M.r26_Grown c x=some (c++[⟨t,Int.tmod (GoWrap.u8 x.1) 4,y⟩])∧VC n (c++[⟨t,Int.tmod (GoWrap.u8 x.1) 4,y⟩])∧Bn (L+6) y∧(∃ z:Int,z.natAbs≤1000∧(z=0∨∃ w∈c,z=w.ID)∧z<t∧t≤z+2)∧(Int.tmod (GoWrap.u8 x.1) 4=0→y=[]):=by
 have hu:0≤GoWrap.u8 x.1∧GoWrap.u8 x.1<256:=by unfold GoWrap.u8; omega
 have h4:=tmod4 (GoWrap.u8 x.1)
 have hd0:0≤Int.tmod (GoWrap.u8 x.1) 4:=Int.tmod_nonneg 4 hu.1
 generalize hd:Int.tmod (GoWrap.u8 x.1) 4=d at *
 have hcyc:∃ ys,M.r26_Cycles c (d-1)=some ys∧(∀ y∈ys,Cyc c (d-1) (L+1) y)∧(d=0→ys=[]):=by
  by_cases e:d=0
  ·refine ⟨[],?_,fun y hy=>(nomatch hy),fun _=>rfl⟩
   unfold M.r26_Cycles
   rw [if_pos (by omega)]
  ·obtain ⟨h1,h2,h3⟩:=hL e
   obtain ⟨ys,h5,_,h6⟩:=Cycles_ok h (k:=d-1) (by omega) h1 h2 h3
   exact ⟨ys,h5,h6,fun e2=>absurd e2 e⟩
 obtain ⟨ys,e1,hys,hys0⟩:=hcyc
 have hS:(cel c (d-1)).length≤100000:=by have:=cel_len c (d-1); omega
 unfold M.r26_Grown
 rw [hd,chk64_pos (by omega),chk64_pos (by omega),e1,bnd_pure]
 have key:∃ r,loop (M.r26_Grown_b3 c x ys) ([],0)=some r∧∃ t y,r=c++[⟨t,d,y⟩]∧Cyc c (d-1) (L+6) y∧(∃ z:Int,z.natAbs≤1000∧(z=0∨∃ w∈c,z=w.ID)∧z<t∧t≤z+2)∧(∀ w∈c,w.ID<t)∧(d=0→y=[]):=by
  refine loop_or (fun s=>∃ i:Nat,s.2=(i:Int)∧i≤3∧Cyc c (d-1) (L+3+i) s.1∧(d=0→s.1=[])) (fun s=>3-s.2.toNat) _ ⟨0,rfl,by omega,Cyc.nil _ _ _,fun _=>rfl⟩ (by show 3-0<_; omega) ?_
  rintro ⟨v,iv⟩ ⟨i,e2,hi,hv,hv0⟩
  dsimp only at e2 hv hv0
  subst e2
  have fin:∃ r,M.r26_Grown_j2 c x ys v (i:Int) false=some (.inr r)∧∃ t y,r=c++[⟨t,d,y⟩]∧Cyc c (d-1) (L+6) y∧(∃ z:Int,z.natAbs≤1000∧(z=0∨∃ w∈c,z=w.ID)∧z<t∧t≤z+2)∧(∀ w∈c,w.ID<t)∧(d=0→y=[]):=by
   have hv6:Cyc c (d-1) (L+6) v:=⟨hv.ch.mono (by omega),hv.z⟩
   have j1:∀ t,M.r26_Grown_j1 x v c t=some (c++[⟨t,d,v⟩]):=fun t=>by
    unfold M.r26_Grown_j1
    rw [app_at (by simp; omega),bnd_pure,List.nil_append,app_at (by simp; omega),bnd_pure,hd]
   unfold M.r26_Grown_j2
   rw [if_neg (by decide)]
   by_cases hc:c=[]
   ·subst hc
    rw [if_neg (by simp),j1]
    exact ⟨_,rfl,1,v,rfl,hv6,⟨0,by omega,.inl rfl,by omega,by omega⟩,fun w hw=>(nomatch hw),hv0⟩
   ·have hpos:=List.length_pos_iff.2 hc
    obtain ⟨q,hq⟩:∃ q,c.length=q+1:=⟨c.length-1,by omega⟩
    obtain ⟨z,hz⟩:=lt_get (l:=c) (i:=q) (by omega)
    have hzm:=List.mem_of_getElem? hz
    have hzi:=hid z hzm
    have hlast:∀ w∈c,w.ID≤z.ID:=fun w hw=>by
     obtain ⟨i,hi⟩:=List.mem_iff_getElem?.1 hw
     have h1:=(List.getElem?_eq_some_iff.1 hi).1
     rcases Nat.lt_or_eq_of_le (show i≤q by omega) with h2 | rfl
     ·have:=h.rise.lt hi hz h2; omega
     ·rw [hz] at hi; rw [Option.some.inj hi]; exact Int.le_refl _
    have hdiv:0≤GoWrap.u8 (Int.tdiv (GoWrap.u8 x.1) 128)∧GoWrap.u8 (Int.tdiv (GoWrap.u8 x.1) 128)≤1:=by
     rw [Int.tdiv_eq_ediv_of_nonneg hu.1]
     unfold GoWrap.u8 at hu ⊢; omega
    generalize GoWrap.u8 (Int.tdiv (GoWrap.u8 x.1) 128)=s at *
    rw [if_pos (by omega),chk64_pos (by omega),show (c.length:Int)-1=(q:Int) by omega,nth_at hz,chk64_pos (by omega),chk64_pos (by omega),chk64_pos (by omega),j1]
    exact ⟨_,rfl,z.ID+1+s,v,rfl,hv6,⟨z.ID,hzi,.inr ⟨z,hzm,rfl⟩,by omega,by omega⟩,fun w hw=>by have:=hlast w hw; omega,hv0⟩
  unfold M.r26_Grown_b3
  dsimp only
  by_cases hlt:i<ys.length
  ·rw [if_pos (by omega)]
   by_cases h3:i<3
   ·refine .inl ?_
    obtain ⟨y,hy⟩:=lt_get hlt
    have hym:=List.mem_of_getElem? hy
    rw [decide_eq_true (by omega)]
    unfold M.r26_Grown_j2
    obtain ⟨κ,hκ⟩:=lt_get (l:=[x.1,x.2.1,x.2.2.1,x.2.2.2]) (i:=i+1) (by simp; omega)
    have hm4:=tmod4 κ
    rw [if_pos rfl,nth_at hy,chk64_pos (by omega),show (i:Int)+1=((i+1:Nat):Int) by simp,nth_at hκ,chk64_pos (by omega),iof_ok (by omega),bnd_pure,
     Add26_ok (S:=cel c (d-1)) (m:=L+1) (k':=2) hv.ch (hys y hym).ch (by omega) (by omega) hS,bnd_pure]
    refine ⟨_,rfl,⟨i+1,rfl,by omega,?_,fun e=>?_⟩,by show 3-((i+1:Nat):Int).toNat<3-((i:Nat):Int).toNat; omega⟩
    ·have:=hv.add (hys y hym) (κ:=Int.tmod κ 4) (k':=2) (by omega)
     exact ⟨this.ch.mono (by omega),this.z⟩
    ·rw [hys0 e] at hlt; simp at hlt
   ·rw [decide_eq_false (by omega)]; exact .inr fin
  ·rw [if_neg (by omega)]; exact .inr fin
 obtain ⟨r,h5,t,y,rfl,h6,h7,h8,h9⟩:=key
 exact ⟨t,y,h5,snoc_VC h hl (by omega) h8 ⟨h6.ch.mono (by omega),h6.z⟩,h6.ch.2.1,h7,h9⟩
end
end Go.Z
end
section
namespace Go.Z
open Eu
abbrev Stt:=List Nat×List Nat
def bokB (n m b:Nat):Bool:=(List.range (min n m)).all fun t=>decide ((bsq n b t).1+(n-t-1)*((bsq n b t).1+4)+2*(bsq n b t).1+(bsq n b t).2.1+20≤15999000∧(bsq n b t).2.2+(n-t-1)*((bsq n b t).1+4)+2*(bsq n b t).1+(bsq n b t).2.1+n+20≤15999000)
theorem bokB_ok {n m b:Nat} (h:bokB n m b=true):bok n m b:=fun t h1 h2=>
 of_decide_eq_true (List.all_eq_true.1 h t (List.mem_range.2 (by omega)))
def lbcB (N M b L:Nat):Bool:=bokB N M b && decide (L<15999000) && (List.range (min N M+1)).all fun top=>decide ((bsq N b top).1<15999000) && decide ((bsq N b top).2.1<15999000) && bokB (N-top) N (bsq N b top).1 &&
 (List.range (min (N-top) N+1)).all fun t=>decide ((bsq (N-top) (bsq N b top).1 t).1<15999000) && decide ((bsq (N-top) (bsq N b top).1 t).2.1≤L)
theorem lbcB_ok {N M b L:Nat} (h:lbcB N M b L=true):lbc N M b L:=by
 unfold lbcB at h
 rw [Bool.and_eq_true,Bool.and_eq_true] at h
 obtain ⟨⟨h1,h2⟩,h3⟩:=h
 refine ⟨bokB_ok h1,of_decide_eq_true h2,fun top h4 h5=>?_⟩
 have h6:=List.all_eq_true.1 h3 top (List.mem_range.2 (by omega))
 rw [Bool.and_eq_true,Bool.and_eq_true,Bool.and_eq_true] at h6
 obtain ⟨⟨⟨h7,h8⟩,h9⟩,h10⟩:=h6
 refine ⟨of_decide_eq_true h7,of_decide_eq_true h8,bokB_ok h9,fun t h11 h12=>?_⟩
 have h13:=List.all_eq_true.1 h10 t (List.mem_range.2 (by omega))
 rw [Bool.and_eq_true] at h13
 exact ⟨of_decide_eq_true h13.1,of_decide_eq_true h13.2⟩
def lbv (N M b:Nat):Nat:=((List.range (min N M+1)).map fun top=>((List.range (N-top+1)).map fun t=>(bsq (N-top) (bsq N b top).1 t).2.1).foldl max 0).foldl max 0
def cN (st:Stt) (d:Nat):Nat:=st.1.getD (d-1) 0
def cM (st:Stt) (d:Nat):Nat:=if d≤1 then 0 else st.1.getD (d-2) 0
def cb (st:Stt) (d:Nat):Nat:=st.2.getD (d-1) 0
def growSt (st:Stt) (d:Nat):Stt:=(st.1.set d (st.1.getD d 0+1),if d=0 then st.2 else st.2.set d (max (st.2.getD d 0) (lbv (cN st d) (cM st d) (cb st d)+6)))
def okSt (st:Stt) (d:Nat):Bool:=decide (d=0) || (lbcB (cN st d) (cM st d) (cb st d) (lbv (cN st d) (cM st d) (cb st d)) && decide (lbv (cN st d) (cM st d) (cb st d)+10≤160000) && decide (cb st d≤15999000))
def wst (st:Stt):Nat:=st.1.getD 0 0*st.2.getD 0 0+st.1.getD 1 0*st.2.getD 1 0+st.1.getD 2 0*st.2.getD 2 0+st.1.getD 3 0*st.2.getD 3 0
def okSeq:Nat→Stt→Bool
 | 0,st=>decide (wst st≤310000)
 | k+1,st=>okSeq k st && [0,1,2,3].all fun d=>okSt st d && okSeq k (growSt st d)
theorem okSeq_w:∀ {k:Nat} {st:Stt},okSeq k st=true→wst st≤310000
 | 0,_,h=>of_decide_eq_true h
 | k+1,st,h=>by
  rw [okSeq,Bool.and_eq_true] at h
  exact okSeq_w h.1
def bw (x:TCell):Nat:=x.B.foldr (fun f m=>max (Nat.log2 f.C.natAbs+1) m) 0
def wt (c:List TCell):Nat:=(c.map bw).sum
theorem bw_Bn (x:TCell):Bn (bw x) x.B:=by
 unfold bw
 generalize x.B=l
 induction l with
 | nil=>exact Bn.nil _
 | cons f l ih=>
  intro g hg
  rcases List.mem_cons.1 hg with rfl | hg
  ·refine lt_pow2 (n:=Nat.log2 g.C.natAbs+1) ?_ (Nat.le_max_left _ _)
   exact Nat.lt_log2_self
  ·exact lt_pow2 (ih g hg) (Nat.le_max_right _ _)
theorem bw_le {x:TCell} {b:Nat} (hb:0<b) (h:Bn b x.B):bw x≤b:=by
 unfold bw
 revert h
 generalize x.B=l
 intro h
 induction l with
 | nil=>exact Nat.zero_le _
 | cons f l ih=>
  refine Nat.max_le.2 ⟨?_,ih fun g hg=>h g (by simp [hg])⟩
  have h1:=h f (by simp)
  by_cases h0:f.C.natAbs=0
  ·rw [h0]; simp; omega
  ·have:=(Nat.log2_lt h0).2 h1
   omega
structure Inv (c:List TCell) (u:Nat) (st:Stt):Prop where
 vc:VC 160000 c
 len:c.length≤u
 id:∀ y∈c,0≤y.ID∧y.ID≤(u:Int)
 l4:st.1.length=4∧st.2.length=4
 cnt:∀ k:Nat,k<4→(cel c (k:Int)).length=st.1.getD k 0
 bit:∀ x∈c,∀ k:Nat,x.Dim=(k:Int)→Bn (st.2.getD k 0) x.B
theorem cel_neg {n:Nat} {c:List TCell} (h:VC n c) {k:Int} (hk:k<0):cel c k=[]:=by
 unfold cel
 rw [List.filter_eq_nil_iff.2 fun x hx=>by have:=(h.dim x hx).1; simp; omega]; rfl
theorem Inv.grow {c:List TCell} {u:Nat} {st:Stt} (w:Inv c u st) (hu:u≤100) {x:Int×Int×Int×Int} (hok:∀ d:Nat,d<4→okSt st d=true):∃ c' d,d<4∧M.r26_Grown c x=some c'∧Inv c' (u+2) (growSt st d):=by
 have hu8:0≤GoWrap.u8 x.1:=by unfold GoWrap.u8; omega
 have h4:=tmod4 (GoWrap.u8 x.1)
 have hd0:0≤Int.tmod (GoWrap.u8 x.1) 4:=Int.tmod_nonneg 4 hu8
 obtain ⟨d,hd⟩:∃ d:Nat,Int.tmod (GoWrap.u8 x.1) 4=(d:Int):=⟨(Int.tmod (GoWrap.u8 x.1) 4).toNat,by omega⟩
 have hd4:d<4:=by omega
 have hk:=hok d hd4
 obtain ⟨L,hL,hLlt⟩:∃ L,(d≠0→L=lbv (cN st d) (cM st d) (cb st d))∧L+10≤160000:=by
  by_cases e:d=0
  ·exact ⟨0,fun h=>absurd e h,by omega⟩
  ·refine ⟨_,fun _=>rfl,?_⟩
   unfold okSt at hk
   rw [Bool.or_eq_true,Bool.and_eq_true,Bool.and_eq_true] at hk
   rcases hk with hk | hk
   ·exact absurd (of_decide_eq_true hk) e
   ·exact of_decide_eq_true hk.1.2
 obtain ⟨t,y,e1,e2,e3,⟨z,hz1,hz2,hz3,hz4⟩,e5⟩:=Grown_ok (x:=x) (b:=cb st d) (L:=L) w.vc (by have:=w.len; omega) (fun y hy=>by have:=w.id y hy; omega) hLlt (by omega) (fun hne=>by
  rw [hd] at hne ⊢
  have e:d≠0:=by omega
  unfold okSt at hk
  rw [Bool.or_eq_true,Bool.and_eq_true,Bool.and_eq_true] at hk
  rcases hk with hk | hk
  ·exact absurd (of_decide_eq_true hk) e
  ·have hc1:(cel c ((d:Int)-1)).length=cN st d:=by
    rw [show (d:Int)-1=((d-1:Nat):Int) by omega]; exact w.cnt (d-1) (by omega)
   have hc2:(cel c ((d:Int)-1-1)).length=cM st d:=by
    unfold cM
    by_cases e2:d≤1
    ·rw [if_pos e2,cel_neg w.vc (by omega)]; rfl
    ·rw [if_neg e2,show (d:Int)-1-1=((d-2:Nat):Int) by omega]; exact w.cnt (d-2) (by omega)
   rw [hc1,hc2,hL e]
   exact ⟨fun y hy hyd=>w.bit y hy (d-1) (by omega),of_decide_eq_true hk.2,lbcB_ok hk.1.1⟩)
 rw [hd] at e1 e2 e5
 refine ⟨_,d,hd4,e1,e2,?_,?_,?_,?_,?_⟩
 ·have:=w.len; simp; omega
 ·intro v hv
  rcases List.mem_append.1 hv with hv | hv
  ·have:=w.id v hv; omega
  ·simp at hv; subst hv
   show 0≤t∧t≤_
   rcases hz2 with rfl | ⟨q,hq,rfl⟩
   ·omega
   ·have:=w.id q hq; omega
 ·have:=w.l4
  unfold growSt
  refine ⟨by simpa using this.1,?_⟩
  dsimp only
  split
  ·exact this.2
  ·simpa using this.2
 ·intro k hk4
  have:=w.cnt k hk4
  have hl:=w.l4
  unfold growSt
  dsimp only
  have hcel:(cel (c++[⟨t,(d:Int),y⟩]) (k:Int)).length=(cel c (k:Int)).length+if d=k then 1 else 0:=by
   unfold cel
   rw [List.filter_append,List.map_append,List.length_append]
   congr 1
   by_cases e:d=k
   ·rw [if_pos e,List.filter_cons_of_pos (by simp [e])]; rfl
   ·rw [if_neg e,List.filter_cons_of_neg (by simp; omega)]; rfl
  rw [hcel,this,List.getD_eq_getElem?_getD,List.getD_eq_getElem?_getD,List.getElem?_set]
  by_cases e:d=k
  ·subst e; simp [hl.1,hk4]
  ·rw [if_neg e,if_neg e]; rfl
 ·intro v hv k hvk
  have hl:=w.l4
  have hge:∀ j:Nat,st.2.getD j 0≤(growSt st d).2.getD j 0:=fun j=>by
   unfold growSt
   dsimp only
   split
   ·exact Nat.le_refl _
   ·rw [List.getD_eq_getElem?_getD,List.getD_eq_getElem?_getD,List.getElem?_set]
    by_cases e:d=j
    ·subst e
     by_cases e2:d<st.2.length
     ·rw [if_pos rfl,if_pos e2]
      simp only [Option.getD_some,List.getD_eq_getElem?_getD]; exact Nat.le_max_left _ _
     ·rw [if_pos rfl,if_neg e2,List.getElem?_eq_none (by omega)]; exact Nat.le_refl _
    ·rw [if_neg e]; exact Nat.le_refl _
  rcases List.mem_append.1 hv with hv | hv
  ·exact (w.bit v hv k hvk).mono (hge k)
  ·simp at hv; subst hv
   have hkd:d=k:=by simp at hvk; omega
   subst hkd
   by_cases e:d=0
   ·rw [e5 (by omega)]; exact Bn.nil _
   ·refine e3.mono ?_
    unfold growSt
    dsimp only
    rw [if_neg e,List.getD_eq_getElem?_getD,List.getElem?_set,if_pos rfl,if_pos (by omega),hL e]
    exact Nat.le_max_right _ _
theorem Inv.wt {c:List TCell} {u:Nat} {st:Stt} (w:Inv c u st):Z.wt c≤wst st+c.length:=by
 have key:∀ (l:List TCell),(∀ x∈l,(0≤x.Dim∧x.Dim≤3)∧∀ k:Nat,x.Dim=(k:Int)→bw x≤st.2.getD k 0+1) →
   Z.wt l≤(cel l 0).length*st.2.getD 0 0+(cel l 1).length*st.2.getD 1 0+(cel l 2).length*st.2.getD 2 0+(cel l 3).length*st.2.getD 3 0+l.length:=by
  intro l
  induction l with
  | nil=>intro _; exact Nat.zero_le _
  | cons x l ih=>
   intro h
   have h1:=ih fun y hy=>h y (by simp [hy])
   obtain ⟨hd,hb⟩:=h x (by simp)
   have hcel:∀ k:Int,(cel (x::l) k).length=(cel l k).length+if x.Dim=k then 1 else 0:=fun k=>by
    unfold cel
    rw [List.filter_cons]
    by_cases e:x.Dim=k
    ·rw [if_pos e,if_pos (by simpa using e)]; simp
    ·rw [if_neg e,if_neg (by simpa using e)]; simp
   have hw:Z.wt (x::l)=bw x+Z.wt l:=by unfold Z.wt; simp
   rw [hw,hcel,hcel,hcel,hcel,List.length_cons]
   have:x.Dim=0∨x.Dim=1∨x.Dim=2∨x.Dim=3:=by omega
   rcases this with e | e | e | e
   ·have:=hb 0 e
    clear hb ih h
    generalize st.2.getD 0 0=b0 at *
    generalize st.2.getD 1 0=b1 at *
    generalize st.2.getD 2 0=b2 at *
    generalize st.2.getD 3 0=b3 at *
    rw [e]; simp [Nat.add_mul]; omega
   ·have:=hb 1 e
    clear hb ih h
    generalize st.2.getD 0 0=b0 at *
    generalize st.2.getD 1 0=b1 at *
    generalize st.2.getD 2 0=b2 at *
    generalize st.2.getD 3 0=b3 at *
    rw [e]; simp [Nat.add_mul]; omega
   ·have:=hb 2 e
    clear hb ih h
    generalize st.2.getD 0 0=b0 at *
    generalize st.2.getD 1 0=b1 at *
    generalize st.2.getD 2 0=b2 at *
    generalize st.2.getD 3 0=b3 at *
    rw [e]; simp [Nat.add_mul]; omega
   ·have:=hb 3 e
    clear hb ih h
    generalize st.2.getD 0 0=b0 at *
    generalize st.2.getD 1 0=b1 at *
    generalize st.2.getD 2 0=b2 at *
    generalize st.2.getD 3 0=b3 at *
    rw [e]; simp [Nat.add_mul]; omega
 have h:=key c fun x hx=>⟨w.vc.dim x hx,fun k hk=>bw_le (by omega) ((w.bit x hx k hk).mono (by omega))⟩
 have c0:=w.cnt 0 (by omega)
 have c1:=w.cnt 1 (by omega)
 have c2:=w.cnt 2 (by omega)
 have c3:=w.cnt 3 (by omega)
 unfold wst
 rw [← c0,← c1,← c2,← c3]
 exact h
theorem okSeq_step {k:Nat} {st:Stt} (h:okSeq (k+1) st=true):(∀ d:Nat,d<4→okSt st d=true)∧∀ d:Nat,d<4→okSeq k (growSt st d)=true:=by
 rw [okSeq,Bool.and_eq_true] at h
 have h1:∀ d:Nat,d<4→okSt st d=true∧okSeq k (growSt st d)=true:=fun d hd=>by
  have:=List.all_eq_true.1 h.2 d (by simp; omega)
  rwa [Bool.and_eq_true] at this
 exact ⟨fun d hd=>(h1 d hd).1,fun d hd=>(h1 d hd).2⟩
theorem Made_loop {x:R26Raw} {c:List TCell} {st:Stt} (w:Inv c 20 st) (hok:okSeq 4 st=true):∃ c',loop (M.r26_Made_b2 x) (c,0)=some c'∧VC 160000 c'∧c'.length≤30∧(∀ y∈c',0≤y.ID∧y.ID≤30)∧wt c'≤310030:=by
 refine loop_or (fun s=>∃ (i:Nat) (st:Stt),s.2=(i:Int)∧i≤4∧Inv s.1 (20+2*i) st∧okSeq (4-i) st=true) (fun s=>4-s.2.toNat) _ ⟨0,st,rfl,by omega,w,hok⟩ (by show 4-0<_; omega) ?_
 rintro ⟨v,iv⟩ ⟨i,st,e2,hi,hv,ho⟩
 dsimp only at e2 hv
 subst e2
 have fin:∃ r,M.r26_Made_j1 x v (i:Int) false=some (.inr r)∧VC 160000 r∧r.length≤30∧(∀ y∈r,0≤y.ID∧y.ID≤30)∧wt r≤310030:=by
  refine ⟨v,rfl,hv.vc,by have:=hv.len; omega,fun y hy=>?_,?_⟩
  ·have:=hv.id y hy; omega
  ·have h1:=hv.wt; have h2:=okSeq_w ho; have:=hv.len; omega
 unfold M.r26_Made_b2
 dsimp only
 by_cases hlt:i<x.L.length
 ·rw [if_pos (by omega)]
  by_cases h4:i<4
  ·rw [decide_eq_true (by omega)]
   refine .inl ?_
   obtain ⟨y,hy⟩:=lt_get hlt
   obtain ⟨j,hj⟩:∃ j,4-i=j+1:=⟨3-i,by omega⟩
   rw [hj] at ho
   obtain ⟨h1,h2⟩:=okSeq_step ho
   obtain ⟨c',d,hd,e3,e4⟩:=hv.grow (by omega) (x:=(y.1,y.2.1,y.2.2.1,y.2.2.2)) h1
   unfold M.r26_Made_j1
   rw [if_pos rfl,nth_at hy,e3,bnd_pure,chk64_pos (by omega)]
   exact ⟨_,rfl,⟨i+1,growSt st d,by simp,by omega,e4,by rw [show 4-(i+1)=j by omega]; exact h2 d hd⟩,by show 4-((i:Int)+1).toNat<4-((i:Nat):Int).toNat; omega⟩
  ·rw [decide_eq_false (by omega)]; exact .inr fin
 ·rw [if_neg (by omega)]; exact .inr fin
instance decSo:∀ (x:Int) (l:List TFace),Decidable (so x l)
 | _,[]=>inferInstanceAs (Decidable True)
 | x,f::l=>by
  unfold so
  have:=decSo f.ID l
  exact inferInstance
def VCs (c:List TCell) (st:Stt):Prop:=(c.map TCell.ID).Pairwise (· < ·)∧c.length≤20∧(∀ x∈c,so (-1) x.B∧(∀ f∈x.B,f.C.natAbs<2^(st.2.getD x.Dim.toNat 0))∧st.2.getD x.Dim.toNat 0≤3∧(∀ f∈x.B,f.ID∈c.map TCell.ID)∧(0≤x.Dim∧x.Dim≤3)∧0≤x.ID∧x.ID≤20) ∧
 (∀ x∈c,∀ f∈x.B,∀ y∈c,y.ID=f.ID→y.Dim=x.Dim-1)∧(∀ x∈c,∀ y∈c,lin c (cf x.B) (fun j=>cf (bO c j) y.ID)=0)∧(st.1.length=4∧st.2.length=4)∧(cel c 0).length=st.1.getD 0 0∧(cel c 1).length=st.1.getD 1 0∧(cel c 2).length=st.1.getD 2 0∧(cel c 3).length=st.1.getD 3 0
instance (c:List TCell) (st:Stt):Decidable (VCs c st):=by unfold VCs; exact inferInstance
theorem VCs.inv {c:List TCell} {st:Stt} (h:VCs c st):Inv c 20 st:=by
 obtain ⟨h1,h2,h3,h4,h5,h6,h7,h8,h9,h10⟩:=h
 have hr:Rise TCell.ID c:=List.pairwise_map.1 h1
 have hch:∀ x∈c,Ch (c.map TCell.ID) 160000 x.B:=fun x hx=>by
  obtain ⟨a1,a2,a3,a4,_⟩:=h3 x hx
  exact ⟨⟨_,a1⟩,fun f hf=>lt_pow2 (m:=160000) (a2 f hf) (by omega),a4⟩
 have hz:∀ j t,¬ t∈c.map TCell.ID→cf (bO c j) t=0:=fun j t ht=>by
  by_cases e:j∈c.map TCell.ID
  ·obtain ⟨y,hy,rfl⟩:=mem_ids.1 e
   rw [bO_at hr hy]
   exact cf_none fun f hf e2=>ht (by rw [← e2]; exact (hch y hy).2.2 f hf)
  ·unfold bO; rw [fnd_no e]; rfl
 refine ⟨⟨hr,by omega,hch,fun x hx=>(h3 x hx).2.2.2.2.1,h4,fun x hx i=>?_⟩,h2,fun x hx=>(h3 x hx).2.2.2.2.2,h6,?_,fun x hx k hk=>?_⟩
 ·by_cases e:i∈c.map TCell.ID
  ·obtain ⟨y,hy,rfl⟩:=mem_ids.1 e
   exact h5 x hx y hy
  ·exact lin_zero fun y _=>by rw [hz _ _ e,Int.mul_zero]
 ·intro k hk
  match k,hk with
  | 0,_=>exact h7
  | 1,_=>exact h8
  | 2,_=>exact h9
  | 3,_=>exact h10
 ·have:=(h3 x hx).2.1
  rw [hk] at this
  exact this
def spaces:List (List TCell×Stt):=[
 ([],([0,0,0,0],[1,1,3,1])),
 ([⟨1,0,[]⟩],([1,0,0,0],[1,1,3,1])),
 ([⟨1,0,[]⟩,⟨7,0,[]⟩],([2,0,0,0],[1,1,3,1])),
 ([⟨1,0,[]⟩,⟨2,0,[]⟩,⟨3,1,[⟨1,-1⟩,⟨2,1⟩]⟩],([2,1,0,0],[1,1,3,1])),
 ([⟨1,0,[]⟩,⟨2,1,[]⟩],([1,1,0,0],[1,1,3,1])),
 ([⟨1,0,[]⟩,⟨2,0,[]⟩,⟨3,0,[]⟩,⟨4,1,[⟨1,-1⟩,⟨2,1⟩]⟩,⟨5,1,[⟨2,-1⟩,⟨3,1⟩]⟩,⟨6,1,[⟨1,1⟩,⟨3,-1⟩]⟩],([3,3,0,0],[1,1,3,1])),
 ([⟨1,0,[]⟩,⟨2,0,[]⟩,⟨3,0,[]⟩,⟨4,1,[⟨1,-1⟩,⟨2,1⟩]⟩,⟨5,1,[⟨2,-1⟩,⟨3,1⟩]⟩,⟨6,1,[⟨1,1⟩,⟨3,-1⟩]⟩,⟨9,2,[⟨4,1⟩,⟨5,1⟩,⟨6,1⟩]⟩],([3,3,1,0],[1,1,3,1])),
 ([⟨1,0,[]⟩,⟨2,2,[]⟩],([1,0,1,0],[1,1,3,1])),
 ([⟨1,0,[]⟩,⟨2,1,[]⟩,⟨3,1,[]⟩,⟨4,2,[]⟩],([1,2,1,0],[1,1,3,1])),
 ([⟨1,0,[]⟩,⟨2,1,[]⟩,⟨3,2,[⟨2,2⟩]⟩],([1,1,1,0],[1,1,3,1])),
 ([⟨1,0,[]⟩,⟨2,1,[]⟩,⟨3,1,[]⟩,⟨4,2,[⟨2,2⟩]⟩],([1,2,1,0],[1,1,3,1])),
 ([⟨1,0,[]⟩,⟨2,1,[]⟩,⟨3,2,[⟨2,3⟩]⟩,⟨4,3,[]⟩],([1,1,1,1],[1,1,3,1])),
 ([⟨1,0,[]⟩,⟨2,1,[]⟩,⟨3,2,[⟨2,4⟩]⟩,⟨4,2,[⟨2,6⟩]⟩],([1,1,2,0],[1,1,3,1])),
 ([⟨1,0,[]⟩,⟨2,1,[]⟩,⟨3,0,[]⟩,⟨5,1,[]⟩,⟨6,2,[⟨5,2⟩]⟩],([2,2,1,0],[1,1,3,1]))]
theorem spaces_ok:∀ p∈spaces,VCs p.1 p.2:=by decide +kernel
end Go.Z
end
section
namespace Go.Z
theorem okSeq_spaces:∀ p∈spaces,okSeq 4 p.2=true:=by decide +kernel
theorem Space_mod (x:Int):M.r26_Space x=M.r26_Space (Int.tmod x 14):=by
 unfold M.r26_Space
 rw [show Int.tmod (Int.tmod x 14) 14=Int.tmod x 14 from Int.tmod_tmod _ _]
theorem Space_ok (x:Int):∃ p∈spaces,M.r26_Space x=some p.1:=by
 rw [Space_mod]
 have h1:=Int.tmod_lt_of_pos x (show (0:Int)<14 by decide)
 have h2:=Int.lt_tmod_of_pos x (show (0:Int)<14 by decide)
 have key:∀ k:Fin 27,∃ p∈spaces,M.r26_Space ((k.val:Int)-13)=some p.1:=by
  intro k
  have:(spaces.any fun p=>match M.r26_Space ((k.val:Int)-13) with | some c=>decide (c=p.1) | none=>false)=true:=by
   revert k; decide +kernel
  obtain ⟨p,hp,h3⟩:=List.any_eq_true.1 this
  refine ⟨p,hp,?_⟩
  split at h3
  ·rename_i c e
   rw [e,of_decide_eq_true h3]
  ·cases h3
 generalize Int.tmod x 14=k at *
 obtain ⟨j,hj⟩:∃ j:Fin 27,k=(j.val:Int)-13:=⟨⟨(k+13).toNat,by omega⟩,by show k=(((k+13).toNat:Nat):Int)-13; omega⟩
 rw [hj]
 exact key j
theorem Made_ok (x:R26Raw):∃ c,M.r26_Made x=some c∧VC 160000 c∧c.length≤30∧(∀ y∈c,0≤y.ID∧y.ID≤30)∧wt c≤310030:=by
 obtain ⟨p,hp,h1⟩:=Space_ok x.S
 obtain ⟨c,h2,h3⟩:=Made_loop (x:=x) (spaces_ok p hp).inv (okSeq_spaces p hp)
 exact ⟨c,by unfold M.r26_Made; rw [h1,bnd_pure]; exact h2,h3⟩
end Go.Z
end
section
namespace Go.Z
open Eu
def InL (t m:Nat) (F:Fam) (f:Nat→Int):Prop:=∃ a:Nat→Int,∀ j,j<m→f j=sm t fun k=>a k*F k j
section
variable {t m s:Nat} {F G:Fam} {f g:Nat→Int}
theorem InL.lin (t m:Nat) (F:Fam):LinQ (InL t m F):=fun f g k ⟨a,ha⟩ ⟨b,hb⟩=>⟨fun i=>a i+k*b i,fun j hj=>by
 show f j+k*g j=sm t fun i=>(a i+k*b i)*F i j
 rw [ha j hj,hb j hj,← sm_lin]; exact sm_congr fun i _=>by rw [Int.add_mul,Int.mul_assoc]⟩
theorem sm_one {n i:Nat} (hi:i<n) (h:Nat→Int) (hz:∀ k,k<n→k≠i→h k=0):sm n h=h i:=by
 rw [← sm_del hi h]
 exact sm_congr fun k hk=>by
  by_cases e:k=i
  ·rw [if_pos e]
  ·rw [if_neg e]; exact hz k hk e
theorem InL.row {i:Nat} (hi:i<t):InL t m F (F i):=⟨fun k=>if k=i then 1 else 0,fun j _=>by
 rw [sm_one hi _ fun k _ hk=>by show (if k=i then 1 else 0)*F k j=0; rw [if_neg hk,Int.zero_mul]]
 show F i j=(if i=i then 1 else 0)*F i j
 rw [if_pos rfl,Int.one_mul]⟩
theorem InL.zero:InL t m F (fun _=>0):=⟨fun _=>0,fun j _=>(sm_zero fun i _=>by simp).symm⟩
theorem InL.congr (h:InL t m F f) (e:∀ j,j<m→f j=g j):InL t m F g:=let ⟨a,ha⟩:=h; ⟨a,fun j hj=>by rw [← e j hj]; exact ha j hj⟩
theorem lin_sm {P:(Nat→Int)→Prop} (hP:LinQ P) (h0:P fun _=>0) {a:Nat→Int}:∀ {t:Nat},(∀ k,k<t→P (F k))→P fun j=>sm t fun k=>a k*F k j
 | 0,_=>by
  rw [show (fun j=>sm 0 fun k=>a k*F k j)=fun _=>0 from funext fun j=>by simp [sm]]; exact h0
 | t+1,h=>by
  rw [show (fun j=>sm (t+1) fun k=>a k*F k j)=fun j=>(sm t fun k=>a k*F k j)+a t*F t j from funext fun j=>by rw [sm_succ]]
  exact hP _ _ (a t) (lin_sm hP h0 fun k hk=>h k (by omega)) (h t (by omega))
theorem InL.sub (h:InL t m F f) (hF:∀ k,k<t→InL s m G (F k)):InL s m G f:=by
 obtain ⟨a,ha⟩:=h
 exact (lin_sm (a:=a) (InL.lin s m G) InL.zero hF).congr fun j hj=>(ha j hj).symm
theorem least {P:Nat→Prop} (k:Nat):P k→∃ k,P k∧∀ l,l<k→¬ P l:=
 Nat.strongRecOn k fun k ih h=>Classical.byCases (fun e:∃ l,l<k∧P l=>let ⟨l,h1,h2⟩:=e; ih l h1 h2) (fun e=>⟨k,h,fun l h1 h2=>e ⟨l,h1,h2⟩⟩)
variable {p p':Nat→Nat} {t':Nat} {F':Fam}
theorem HN.lead (w:HN m t p F) (h:InL t m F f):(∀ j,j<m→f j=0)∨∃ k,k<t∧(∀ j,j<p k→f j=0)∧f (p k)≠0∧F k (p k)∣f (p k):=by
 obtain ⟨a,ha⟩:=h
 by_cases hz:∃ k,k<t∧a k≠0
 ·obtain ⟨k1,h1⟩:=hz
  obtain ⟨k,⟨hk,h2⟩,h3⟩:=least (P:=fun k=>k<t∧a k≠0) k1 h1
  have h4:∀ l,l<k→a l=0:=fun l hl=>Classical.byContradiction fun e=>h3 l hl ⟨by omega,e⟩
  have hm:=w.lt k hk
  have e:f (p k)=a k*F k (p k):=by
   rw [ha _ hm,sm_one hk _ fun l hl hlk=>?_]
   by_cases h5:l<k
   ·rw [h4 l h5,Int.zero_mul]
   ·rw [w.z l hl (p k) (w.mono k l (by omega) hl),Int.mul_zero]
  have hp:=w.pos k hk
  refine .inr ⟨k,hk,fun j hj=>?_,?_,?_⟩
  ·rw [ha j (by omega)]
   refine sm_zero fun l hl=>?_
   by_cases h5:l<k
   ·rw [h4 l h5,Int.zero_mul]
   ·have:j<p l:=by
     by_cases e2:l=k
     ·rw [e2]; exact hj
     ·have:=w.mono k l (by omega) hl; omega
    rw [w.z l hl j this,Int.mul_zero]
  ·rw [e]; exact Int.mul_ne_zero h2 (by omega)
  ·rw [e]; exact ⟨a k,Int.mul_comm _ _⟩
 ·refine .inl fun j hj=>?_
  rw [ha j hj]
  exact sm_zero fun k hk=>by
   rw [show a k=0 from Classical.byContradiction fun e=>hz ⟨k,hk,e⟩,Int.zero_mul]
theorem HN.head (w:HN m t p F) (w':HN m t' p' F') {k:Nat} (hk:k<t) (h:InL t' m F' (F k)):∃ l,l<t'∧p' l=p k∧F' l (p' l)∣F k (p k):=by
 have hp:=w.pos k hk
 have hm:=w.lt k hk
 rcases w'.lead h with h1 | ⟨l,hl,h1,h2,h3⟩
 ·have:=h1 (p k) hm; omega
 ·have e:p' l=p k:=by
   have a1:¬ p' l<p k:=fun e=>h2 (w.z k hk _ e)
   have a2:¬ p k<p' l:=fun e=>by have:=h1 _ e; omega
   omega
  exact ⟨l,hl,e,by rw [e] at h3 ⊢; exact h3⟩
theorem HN.heads (w:HN m t p F) (w':HN m t' p' F') (h1:∀ k,k<t→InL t' m F' (F k)) (h2:∀ k,k<t'→InL t m F (F' k)) (k:Nat):k<t→k<t'∧p' k=p k:=
 Nat.strongRecOn k fun k ih hk=>by
  obtain ⟨l,hl,e,_⟩:=w.head w' hk (h1 k hk)
  by_cases a:l<k
  ·obtain ⟨_,e2⟩:=ih l a (by omega)
   have:=w.mono l k a hk
   omega
  ·by_cases b:k<l
   ·have hk':k<t':=by omega
    have:=w'.mono k l b hl
    obtain ⟨q,hq,e2,_⟩:=w'.head w hk' (h2 k hk')
    by_cases c:q<k
    ·obtain ⟨_,e3⟩:=ih q c hq
     have:=w'.mono q k c hk'
     omega
    ·by_cases d:k<q
     ·have:=w.mono k q d hq; omega
     ·have:q=k:=by omega
      subst this; omega
   ·have:l=k:=by omega
    subst this
    exact ⟨hl,e⟩
theorem HN.uniq (w:HN m t p F) (w':HN m t' p' F') (h1:∀ k,k<t→InL t' m F' (F k)) (h2:∀ k,k<t'→InL t m F (F' k)):t=t'∧∀ k,k<t→∀ j,j<m→F k j=F' k j:=by
 have e1:=w.heads w' h1 h2
 have e2:=w'.heads w h2 h1
 have ht:t=t':=by
  by_cases a:t<t'
  ·have:=(e2 t a).1; omega
  ·by_cases b:t'<t
   ·have:=(e1 t' b).1; omega
   ·omega
 subst ht
 have hpiv:∀ k,k<t→F k (p k)=F' k (p k):=fun k hk=>by
  obtain ⟨l,hl,e,d⟩:=w.head w' hk (h1 k hk)
  obtain ⟨l',hl',e',d'⟩:=w'.head w hk (h2 k hk)
  have a1:l=k:=by
   have:=(e1 k hk).2
   by_cases x:l<k
   ·have:=w'.mono l k x hk; omega
   ·by_cases y:k<l
    ·have:=w'.mono k l y hl; omega
    ·omega
  have a2:l'=k:=by
   have:=(e1 k hk).2
   by_cases x:l'<k
   ·have:=w.mono l' k x hk; omega
   ·by_cases y:k<l'
    ·have:=w.mono k l' y hl'; omega
    ·omega
  subst a1
  rw [e] at d
  rw [a2,e] at d'
  have p1:=w.pos l hk
  have p2:=w'.pos l hk
  rw [e] at p2
  have:=Int.le_of_dvd p1 d
  have:=Int.le_of_dvd p2 d'
  omega
 refine ⟨rfl,fun k hk=>?_⟩
 have hd:InL t m F (fun j=>F k j+-1*F' k j):=InL.lin t m F _ _ _ (InL.row hk) (h2 k hk)
 rcases w.lead hd with h | ⟨l,hl,a1,a2,a3⟩
 ·intro j hj
  have:=h j hj
  omega
 ·exfalso
  have el:=(e1 l hl).2
  have ek:=(e1 k hk).2
  by_cases x:l<k
  ·have q1:=w.z k hk (p l) (w.mono l k x hk)
   have q2:=w'.z k hk (p l) (by rw [ek]; exact w.mono l k x hk)
   exact a2 (by rw [q1,q2]; rfl)
  ·by_cases y:k<l
   ·have q1:=w.red k l y hl
    have q2:=w'.red k l y hl
    rw [el,← hpiv l hl] at q2
    have q3:=Nat.le_of_dvd (by omega) (Int.natAbs_dvd_natAbs.2 a3)
    omega
   ·have:l=k:=by omega
    subst this
    exact a2 (by rw [← hpiv l hl]; omega)
end
end Go.Z
end
section
namespace Go.Z.M
open Go.Z
def l31_pieces_b1 (x0:List TCell):Int×(List R31Result)→Option ((Int×(List R31Result)) ⊕ ((List R31Result)×Bool))
 | (v168,v169)=>if v168<(v169.length:Int) then (nth v169 v168 fun x182=>if x182.E=0 then (bnd (M.r25_Valid x182.C) fun y208=>if y208=true then (bnd (M.r31_Commutes x0 x182.C x182.M) fun y215=>if y215=true then (chk64 (v168+1)<|some (.inl (v168+1,v169))) else (lft (some (v169,false)))) else (lft (some (v169,false)))) else (lft (some (v169,false)))) else (lft (some (v169,true)))
def l31_pieces_j2 (x0:List TCell) (v119:List R31Result):Option ((List R31Result)×Bool):=
 loop (M.l31_pieces_b1 x0) (0,v119)
def l31_pieces_j3 (x0:List TCell) (x1:Int) (y43:(List Int)) (v76:List R31Result):Option ((List R31Result)×Bool):=
 if 0<(y43.length:Int) then (chk64 x1<|chk ((y43.length:Int)≠0)<|nth y43 (Int.tmod x1 (y43.length:Int)) fun x233=>bnd (M.merge_Subdivide x0 x233 ((-1),99)) fun y248=>bnd (app v76 [(R31Result.mk y248.1 y248.2.1 y248.2.2)]) fun l266=>(M.l31_pieces_j2 x0) l266) else ((M.l31_pieces_j2 x0) v76)
def l31_pieces (x0:List TCell) (x1:Int):Option ((List R31Result)×Bool):=
 bnd (M.r31_Free x0) fun y33=>bnd (M.r25_Cells x0 1) fun y43=>bnd (M.merge_Shrink x0) fun y53=>bnd (app ([]:List R31Result) [(R31Result.mk y53.1 y53.2 0)]) fun l69=>if 0<(y33.length:Int) then (chk64 x1<|chk ((y33.length:Int)≠0)<|nth y33 (Int.tmod x1 (y33.length:Int)) fun x275=>bnd (M.merge_Collapse x0 x275.1 x275.2) fun y291=>bnd (app l69 [(R31Result.mk y291.1 y291.2.1 y291.2.2)]) fun l309=>(M.l31_pieces_j3 x0 x1 y43) l309) else ((M.l31_pieces_j3 x0 x1 y43) l69)
def r25_Euler_k1:Int→Option Int
 | v25=>some v25
def r25_Euler_b1 (i27:Nat) (x34:TCell):Int→Option ((Int) ⊕ Int)
 | v25=>if (Int.tmod x34.Dim 2)=0 then (chk64 (v25+1)<|some (.inl (v25+1))) else (chk64 (v25-1)<|some (.inl (v25-1)))
def r25_Euler (x0:List TCell):Option Int:=
 rngL M.r25_Euler_b1 M.r25_Euler_k1 x0 0
def r26_Cyclic_j1 (x2:List Int) (y34:(List (List TFace))) (v45:List TFace) (v50:Int) (v59:Bool):Option (((List TFace)×Int) ⊕ (List TFace)):=
 if v59=true then (nth y34 v50 fun x62=>nth x2 v50 fun x76=>chk64 (Int.tmod x76 4)<|bnd (M.iof (Int.tmod x76 4)) fun y92=>bnd (M.r26_Add v45 x62 y92) fun y103=>chk64 (v50+1)<|some (.inl (y103,v50+1))) else (lft (some v45))
def r26_Cyclic_b2 (x2:List Int) (y34:(List (List TFace))):(List TFace)×Int→Option (((List TFace)×Int) ⊕ (List TFace))
 | (v45,v50)=>if v50<(y34.length:Int) then ((M.r26_Cyclic_j1 x2 y34 v45 v50) (decide (v50<(x2.length:Int)))) else ((M.r26_Cyclic_j1 x2 y34 v45 v50) false)
def r26_Cyclic (x0:List TCell) (x1:Int) (x2:List Int):Option (List TFace):=
 bnd (M.r26_Cycles x0 x1) fun y34=>loop (M.r26_Cyclic_b2 x2 y34) (([]:List TFace),0)
def r26_Dim_j1 (v30:Bool) (y58:TCell×Bool) (v70:Bool):Option ((Int×Bool) ⊕ (Int×Int)):=
 if v70=true then (some (.inl (y58.1.Dim,true))) else (some (.inl (y58.1.Dim,v30)))
def r26_Dim_k2:Int×Bool→Option (Int×Int)
 | (v29,v30)=>if v30=true then (some (0,260)) else (some (v29,0))
def r26_Dim_b2 (x0:List TCell) (i32:Nat) (x39:TFace):Int×Bool→Option ((Int×Bool) ⊕ (Int×Int))
 | (v29,v30)=>bnd (M.r25_Find x0 x39.ID) fun y58=>if y58.2=true then (if 0<(i32:Int) then ((M.r26_Dim_j1 v30 y58) (decide (y58.1.Dim≠v29))) else ((M.r26_Dim_j1 v30 y58) false)) else (lft (some (0,250)))
def r26_Dim (x0:List TCell) (x1:List TFace):Option (Int×Int):=
 rngL (M.r26_Dim_b2 x0) M.r26_Dim_k2 x1 ((-1),false)
def r26_Vector_k1 (v55:List Int):Int→Option (((List Int)) ⊕ ((List Int)×Int))
 | v85=>bnd (app v55 [v85]) fun l125=>some (.inl l125)
def r26_Vector_b1 (x69:Int) (i92:Nat) (x99:TFace):Int→Option ((Int) ⊕ (((List Int)) ⊕ ((List Int)×Int)))
 | v85=>if x99.ID=x69 then (some (.inl x99.C)) else (some (.inl v85))
def r26_Vector_k2:(List Int)→Option ((List Int)×Int)
 | v55=>some (v55,0)
def r26_Vector_b2 (x2:List TFace) (i62:Nat) (x69:Int):(List Int)→Option (((List Int)) ⊕ ((List Int)×Int))
 | v55=>bnd (M.iof 0) fun y78=>rngL (M.r26_Vector_b1 x69) (M.r26_Vector_k1 v55) x2 y78
def r26_Vector_j3 (x0:List TCell) (x1:Int) (x2:List TFace):Option ((List Int)×Int):=
 bnd (M.r25_Cells x0 x1) fun y47=>rngL (M.r26_Vector_b2 x2) M.r26_Vector_k2 y47 ([]:List Int)
def r26_Vector (x0:List TCell) (x1:Int) (x2:List TFace):Option ((List Int)×Int):=
 bnd (M.r26_Dim x0 x2) fun y34=>if y34.2=0 then (if 0<(x2.length:Int) then (if y34.1=x1 then ((M.r26_Vector_j3 x0 x1 x2)) else (some (([]:List Int),260))) else ((M.r26_Vector_j3 x0 x1 x2))) else (some (([]:List Int),y34.2))
def r26_Row (x0:List TCell) (x1:Int) (x2:List TFace):Option (List Int):=
 bnd (M.r26_Vector x0 x1 x2) fun y34=>some y34.1
def r05_Row (x0:List Int):Option TMat:=
 some (TMat.mk 1 (x0.length:Int) [x0])
def r05_Stack (x0:TMat) (x1:TMat):Option (TMat×Int):=
 if x0.Cols=x1.Cols then (bnd (M.r05_Copied x0) fun y38=>chk64 (x0.Rows+x1.Rows)<|bnd (M.r05_Copied x1) fun y52=>bnd (app y38.A y52.A) fun l62=>some ((TMat.mk (x0.Rows+x1.Rows) y38.Cols l62),0)) else (some ((TMat.mk 0 0 ([]:List (List Int))),50))
def r16_together (x0:TMat) (x1:TMat):Option TMat:=
 bnd (M.r05_Stack x0 x1) fun y37=>some (TMat.mk y37.1.Rows y37.1.Cols y37.1.A)
def r05_SameVec_k1:Unit→Option Bool
 | ()=>some true
def r05_SameVec_b1 (x1:List Int) (i31:Nat) (x38:Int):Unit→Option ((Unit) ⊕ Bool)
 | ()=>nth x1 (i31:Int) fun x52=>bnd (M.isame x38 x52) fun y72=>if y72=true then (some (.inl ())) else (lft (some false))
def r05_SameVec (x0:List Int) (x1:List Int):Option Bool:=
 if (x0.length:Int)=(x1.length:Int) then (rngL (M.r05_SameVec_b1 x1) M.r05_SameVec_k1 x0 ()) else (some false)
def r05_Same_k1:Unit→Option Bool
 | ()=>some true
def r05_Same_b1 (x1:TMat) (i36:Nat) (x43:List Int):Unit→Option ((Unit) ⊕ Bool)
 | ()=>nth x1.A (i36:Int) fun x56=>bnd (M.r05_SameVec x43 x56) fun y75=>if y75=true then (some (.inl ())) else (lft (some false))
def r05_Same_j2 (x0:TMat) (x1:TMat) (v32:Bool):Option Bool:=
 if v32=true then (some false) else (rngL (M.r05_Same_b1 x1) M.r05_Same_k1 x0.A ())
def r05_Same (x0:TMat) (x1:TMat):Option Bool:=
 if x0.Rows=x1.Rows then (if x0.Cols=x1.Cols then ((M.r05_Same_j2 x0 x1) (decide ((x0.A.length:Int)≠(x1.A.length:Int)))) else ((M.r05_Same_j2 x0 x1) true)) else ((M.r05_Same_j2 x0 x1) true)
def r16_Contains (x0:TMat) (x1:List Int):Option Bool:=
 if (x1.length:Int)=x0.Cols then (bnd (M.r05_Row x1) fun y36=>bnd (M.r16_together x0 y36) fun y46=>bnd (M.r12_Basis y46) fun y56=>bnd (M.r12_Basis x0) fun y66=>bnd (M.r05_Same y56 y66) fun y76=>some y76) else (some false)
def r28_Bounds (x0:List TCell) (x1:List TFace):Option Bool:=
 bnd (M.r26_Dim x0 x1) fun y34=>if (x1.length:Int)=0 then (some true) else (chk64 (y34.1+1)<|bnd (M.r25_Boundary x0 (y34.1+1)) fun y46=>bnd (M.r26_Row x0 y34.1 x1) fun y56=>bnd (M.r16_Contains y46 y56) fun y66=>some y66)
def l31_MergeEuler_j1 (x1:Int×Int×Int) (x2:List Int) (y42:(List TCell)) (y142:(List TCell)×(List TImage)×Int) (v162:Bool):Option ((Unit) ⊕ Bool):=
 if v162=true then (lft (some false)) else (chk64 x1.2.2<|bnd (M.r26_Cyclic y42 (Int.tmod x1.2.2 4) x2) fun y189=>bnd (M.r28_Bounds y42 y189) fun y199=>if y199=true then (bnd (M.r31_Apply y142.2.1 y189) fun y206=>bnd (M.r28_Bounds y142.1 y206) fun y216=>if y216=true then (some (.inl ())) else (lft (some false))) else (some (.inl ())))
def l31_MergeEuler_j2 (x1:Int×Int×Int) (x2:List Int) (y42:(List TCell)) (y67:Int) (y142:(List TCell)×(List TImage)×Int) (v159:Int):Option ((Unit) ⊕ Bool):=
 bnd (M.r25_Valid y142.1) fun y223=>if y223=true then (bnd (M.r31_Commutes y42 y142.1 y142.2.1) fun y230=>if y230=true then (bnd (M.r25_Euler y142.1) fun y237=>chk64 (y67+v159)<|(M.l31_MergeEuler_j1 x1 x2 y42 y142) (decide (y237≠(y67+v159)))) else ((M.l31_MergeEuler_j1 x1 x2 y42 y142) true)) else ((M.l31_MergeEuler_j1 x1 x2 y42 y142) true)
def l31_MergeEuler_k3 (y36:Bool):Unit→Option Bool
 | ()=>some y36
def l31_MergeEuler_b3 (x1:Int×Int×Int) (x2:List Int) (y42:(List TCell)) (y67:Int) (i101:Nat) (x108:TCell):Unit→Option ((Unit) ⊕ Bool)
 | ()=>chk64 x1.2.1<|chk ((y42.length:Int)≠0)<|nth y42 (Int.tmod x1.2.1 (y42.length:Int)) fun x123=>bnd (M.merge_Identify y42 x108.ID x123.ID) fun y142=>if y142.2.2=0 then (if (Int.tmod x108.Dim 2)=0 then ((M.l31_MergeEuler_j2 x1 x2 y42 y67 y142) (-1)) else ((M.l31_MergeEuler_j2 x1 x2 y42 y67 y142) 1)) else (some (.inl ()))
def l31_MergeEuler_k4 (x1:Int×Int×Int) (x2:List Int) (y36:Bool) (y42:(List TCell)) (y67:Int):Unit→Option Bool
 | ()=>rngL (M.l31_MergeEuler_b3 x1 x2 y42 y67) (M.l31_MergeEuler_k3 y36) y42 ()
def l31_MergeEuler_b4 (y67:Int) (i69:Nat) (x76:R31Result):Unit→Option ((Unit) ⊕ Bool)
 | ()=>bnd (M.r25_Euler x76.C) fun y98=>if y98=y67 then (some (.inl ())) else (lft (some false))
def l31_MergeEuler (x0:R26Raw) (x1:Int×Int×Int) (x2:List Int):Option Bool:=
 bnd (M.l31_sanity) fun y36=>bnd (M.r26_Made x0) fun y42=>bnd (M.l31_pieces y42 x1.1) fun y52=>if y52.2=true then (bnd (M.r25_Euler y42) fun y67=>rngL (M.l31_MergeEuler_b4 y67) (M.l31_MergeEuler_k4 x1 x2 y36 y42 y67) y52.1 ()) else (some false)
end Go.Z.M
end
section
namespace Go.Z
open Eu
section
variable {n m b0:Nat} {A:Fam}
def bas (n m b0:Nat):Prop:=b0≤15999000∧bok n m b0∧∀ top,top≤n→top≤m→(bsq n b0 top).1<15999000∧(bsq n b0 top).2.1<15999000
theorem Basis_ok (hn:n≤100000) (hm:m≤100000) (hA:∀ i,i<n→∀ j,j<m→(A i j).natAbs≤2^b0) (hb:bas n m b0) :
  ∃ (top:Nat) (p:Nat→Nat) (F:Fam),M.r12_Basis ⟨n,m,mx n m A⟩=some ⟨top,m,mx top m F⟩∧top≤n∧HN m top p F∧(∀ k,k<top→InL n m A (F k))∧(∀ i,i<n→InL top m F (A i))∧∀ k,k<top→∀ j,j<m→Ft (F k j):=by
 obtain ⟨hb0,hb1,hb2⟩:=hb
 obtain ⟨top,F,V,e1,w⟩:=Form_ok (Q:=InL n m A) (InL.lin n m A) hn hm hb0 hA (fun i hi=>(InL.row hi).congr fun j hj=>by unfold aug; rw [if_pos hj]) hb1
 obtain ⟨h3,h4⟩:=hb2 top w.tn w.tm
 obtain ⟨p,hp⟩:=w.hn
 have htn:=w.tn
 refine ⟨top,p,F,?_,htn,hp,fun k hk=>w.q k (by omega),fun i hi=>?_,fun k hk j hj=>ft_pow (w.hi k hk j (by omega)) (by omega)⟩
 ·unfold M.r12_Basis
  rw [e1,bnd_pure,Rank_ok w (by omega) (by omega) (by omega) (by omega),bnd_pure]
  unfold M.r12_Top
  dsimp only
  rw [show cutL (mx n m F) 0 (top:Int)=some (((mx n m F).take top).drop 0) from cutL_at (a:=0) (Nat.zero_le _) (by rw [mx_len]; exact htn),bnd_pure,bnd_pure,List.drop_zero,mx_take _ htn]
 ·refine (w.rv (InL top m F) (InL.lin top m F) (fun k hk=>?_) i hi).congr fun j hj=>by unfold aug; rw [if_pos hj]
  by_cases h:k<top
  ·exact InL.row h
  ·exact InL.zero.congr fun j hj=>(w.zero k (by omega) hk j hj).symm
theorem SameVec_ok {f g:Nat→Int} (hm:m≤1000000) (hf:∀ j,j<m→Ft (f j)) (hg:∀ j,j<m→Ft (g j)):∃ b,M.r05_SameVec (vr m f) (vr m g)=some b∧(b=true↔∀ j,j<m→f j=g j):=by
 unfold M.r05_SameVec
 rw [vr_len,vr_len,if_pos rfl]
 refine rngL_or (fun i _=>∀ j,j<i→f j=g j) (fun b=>b=true↔∀ j,j<m→f j=g j) (by rw [vr_len]; omega) (fun j h=>by omega) (fun i x s hx hs=>?_) (fun s hs=>⟨true,rfl,?_⟩)
 ·have hi:i<m:=by have:=(List.getElem?_eq_some_iff.1 hx).1; rw [vr_len] at this; exact this
  rw [vr_get hi] at hx
  obtain rfl:=Option.some.inj hx
  unfold M.r05_SameVec_b1
  rw [nth_at (vr_get hi),isame_ok (hf i hi) (hg i hi),bnd_pure]
  by_cases h:f i=g i
  ·rw [decide_eq_true h,if_pos rfl]
   exact .inl ⟨(),rfl,fun j hj=>by
    by_cases e:j=i
    ·rw [e]; exact h
    ·exact hs j (by omega)⟩
  ·rw [decide_eq_false h,if_neg (by decide)]
   exact .inr ⟨false,rfl,(fun e=>nomatch e),fun e=>absurd (e i hi) h⟩
 ·rw [vr_len] at hs
  exact ⟨fun _=>hs,fun _=>rfl⟩
theorem SameM_ok {t t':Nat} {F G:Fam} (ht:t≤1000000) (ht':t'≤1000000) (hm:m≤1000000) (hF:∀ k,k<t→∀ j,j<m→Ft (F k j)) (hG:∀ k,k<t'→∀ j,j<m→Ft (G k j)) :
  ∃ b,M.r05_Same ⟨t,m,mx t m F⟩ ⟨t',m,mx t' m G⟩=some b∧(b=true↔t=t'∧∀ k,k<t→∀ j,j<m→F k j=G k j):=by
 unfold M.r05_Same
 dsimp only
 rw [if_pos (show (m:Int)=(m:Int) from rfl),mx_len,mx_len]
 unfold M.r05_Same_j2
 by_cases e:t=t'
 ·subst e
  rw [if_pos rfl,decide_eq_false (fun h=>h rfl),if_neg (by decide)]
  refine rngL_or (fun i _=>∀ k,k<i→∀ j,j<m→F k j=G k j) (fun b=>b=true↔t=t∧∀ k,k<t→∀ j,j<m→F k j=G k j) (by dsimp only; rw [mx_len]; omega) (fun j h=>by omega) (fun i x s hx hs=>?_) (fun s hs=>⟨true,rfl,?_⟩)
  ·dsimp only at hx
   have hi:i<t:=by have:=(List.getElem?_eq_some_iff.1 hx).1; rw [mx_len] at this; exact this
   rw [mx_get hi] at hx
   obtain rfl:=Option.some.inj hx
   unfold M.r05_Same_b1
   dsimp only
   obtain ⟨b,h1,h2⟩:=SameVec_ok (f:=F i) (g:=G i) hm (hF i hi) (hG i hi)
   rw [nth_at (mx_get hi),h1,bnd_pure]
   by_cases h:b=true
   ·rw [if_pos h]
    exact .inl ⟨(),rfl,fun k hk=>by
     by_cases e:k=i
     ·rw [e]; exact h2.1 h
     ·exact hs k (by omega)⟩
   ·rw [if_neg h]
    exact .inr ⟨false,rfl,(fun e=>nomatch e),fun e=>absurd (h2.2 (e.2 i hi)) h⟩
  ·dsimp only at hs
   rw [mx_len] at hs
   exact ⟨fun _=>⟨rfl,hs⟩,fun _=>rfl⟩
 ·rw [if_neg (by omega),if_pos rfl]
  exact ⟨false,rfl,(fun h=>nomatch h),fun h=>absurd h.1 e⟩
def wr (n:Nat) (A:Fam) (f:Nat→Int):Fam:=fun i=>if i<n then A i else f
theorem mx_wr (f:Nat→Int):mx n m A++[vr m f]=mx (n+1) m (wr n A f):=by
 rw [mx_snoc]
 congr 1
 ·exact mx_congr fun i hi j hj=>by unfold wr; rw [if_pos hi]
 ·unfold wr; rw [if_neg (Nat.lt_irrefl n)]
theorem together_ok {f:Nat→Int} (hn:n≤100000) (hm:m≤100000) (hA:∀ i,i<n→∀ j,j<m→Ft (A i j)) (hf:∀ j,j<m→Ft (f j)) :
  M.r16_together ⟨n,m,mx n m A⟩ ⟨1,m,[vr m f]⟩=some ⟨((n+1:Nat):Int),m,mx (n+1) m (wr n A f)⟩:=by
 unfold M.r16_together M.r05_Stack
 have e:[vr m f]=mx 1 m (fun _=>f):=rfl
 dsimp only
 rw [if_pos rfl,Copied_ok (by omega) (by omega) hA,bnd_pure,chk64_pos (by omega),e,
  show (⟨1,(m:Int),mx 1 m fun _=>f⟩:TMat)=⟨((1:Nat):Int),(m:Int),mx 1 m fun _=>f⟩ from rfl,Copied_ok (n:=1) (by omega) (by omega) (fun _ _=>hf),bnd_pure]
 dsimp only
 rw [← e,app_at (by rw [mx_len]; simp; omega),bnd_pure,bnd_pure,mx_wr]
 rfl
theorem Contains_ok16 {f:Nat→Int} (hn:n≤99000) (hm:m≤99000) (hA:∀ i,i<n→∀ j,j<m→(A i j).natAbs≤2^b0) (hf:∀ j,j<m→(f j).natAbs≤2^b0) (hb:bas n m b0) (hb2:bas (n+1) m b0) :
  ∃ b,M.r16_Contains ⟨n,m,mx n m A⟩ (vr m f)=some b∧(b=true↔InL n m A f):=by
 have hb0:=hb.1
 unfold M.r16_Contains M.r05_Row
 dsimp only
 rw [vr_len,if_pos rfl,bnd_pure,together_ok (by omega) (by omega) (fun i hi j hj=>ft_pow (hA i hi j hj) (by omega)) (fun j hj=>ft_pow (hf j hj) (by omega)),bnd_pure]
 obtain ⟨t,p,F,e1,a1,a2,a3,a4,a5⟩:=Basis_ok (n:=n+1) (m:=m) (A:=wr n A f) (b0:=b0) (by omega) (by omega) (fun i hi j hj=>by
  unfold wr
  by_cases h:i<n
  ·rw [if_pos h]; exact hA i h j hj
  ·rw [if_neg h]; exact hf j hj) hb2
 obtain ⟨t',p',F',e2,b1,b2,b3,b4,b5⟩:=Basis_ok (n:=n) (m:=m) (A:=A) (b0:=b0) (by omega) (by omega) hA hb
 rw [e1,bnd_pure,e2,bnd_pure]
 obtain ⟨b,h1,h2⟩:=SameM_ok (t:=t) (t':=t') (m:=m) (F:=F) (G:=F') (by omega) (by omega) (by omega) a5 b5
 rw [h1,bnd_pure]
 refine ⟨b,rfl,h2.trans ⟨fun ⟨h3,h4⟩=>?_,fun h=>?_⟩⟩
 ·subst h3
  have h5:InL t m F f:=by have:=a4 n (by omega); unfold wr at this; rwa [if_neg (Nat.lt_irrefl n)] at this
  have h6:InL t m F' f:=h5.sub fun k hk=>(InL.row hk).congr fun j hj=>(h4 k hk j hj).symm
  exact h6.sub b3
 ·have r1:∀ i,i<n+1→InL n m A (wr n A f i):=fun i hi=>by
   unfold wr
   by_cases h3:i<n
   ·rw [if_pos h3]; exact InL.row h3
   ·rw [if_neg h3]; exact h
  have r2:∀ i,i<n→InL (n+1) m (wr n A f) (A i):=fun i hi=>(InL.row (show i<n+1 by omega)).congr fun j hj=>by unfold wr; rw [if_pos hi]
  exact a2.uniq b2 (fun k hk=>((a3 k hk).sub r1).sub b4) (fun k hk=>((b3 k hk).sub r2).sub a4)
end
end Go.Z
end
section
namespace Go.Z
theorem forL_run' {α σ β:Type} {b:Nat→α→σ→Option (σ ⊕ β)} {e:σ→Option β} {l:List α} (P:Nat→σ→Prop)
  (hb:∀ n x s,l[n]?=some x→P n s→∃ s',b n x s=some (.inl s')∧P (n+1) s') :
  ∀ m n s,n+m=l.length→P n s→∃ s',P l.length s'∧forL b e (l.drop n) n s=e s'
 | 0,n,s,hn,hp=>by
  have:n=l.length:=by omega
  subst this
  exact ⟨s,hp,by rw [List.drop_eq_nil_of_le (Nat.le_refl _)]; rfl⟩
 | m+1,n,s,hn,hp=>by
  have hl:n<l.length:=by omega
  obtain ⟨s',h1,h2⟩:=hb n l[n] s (by simp [hl]) hp
  obtain ⟨s2,h3,h4⟩:=forL_run' P hb m (n+1) s' (by omega) h2
  refine ⟨s2,h3,?_⟩
  rw [List.drop_eq_getElem_cons hl]
  simp only [forL,h1]
  exact h4
theorem rngL_run {α σ β:Type} {b:Nat→α→σ→Option (σ ⊕ β)} {e:σ→Option β} {l:List α} {s:σ} (P:Nat→σ→Prop) (hl:l.length≤4611686018427387904)
  (h0:P 0 s) (hb:∀ n x s,l[n]?=some x→P n s→∃ s',b n x s=some (.inl s')∧P (n+1) s'):∃ s',P l.length s'∧rngL b e l s=e s':=by
 obtain ⟨s',h1,h2⟩:=forL_run' (e:=e) P hb l.length 0 s (by omega) h0
 exact ⟨s',h1,by rw [rngL,chk_pos hl]; exact h2⟩
end Go.Z
end
section
namespace Go.Z
open Eu
section
variable {c d:List TCell} {n p q:Nat} {k:Int} {m:List TImage} {y:List TFace}
theorem lin_cel {g F:Int→Int} (hz:∀ x∈c,x.Dim≠k→g x.ID*F x.ID=0):lin c g F=sm (cel c k).length fun i=>g (gi (cel c k) i)*F (gi (cel c k) i):=by
 rw [← lin_filter (fun x=>decide (x.Dim=k)) (fun y hy e=>hz y hy (of_decide_eq_false e))]
 have:=congrArg List.sum (map_vr (cel c k) (fun t=>g t*F t))
 unfold lin sm
 unfold vr at this
 rw [← this]
 unfold cel
 rw [List.map_map]; rfl
theorem lin_smG {a:Nat→Int} {g:Nat→Int→Int} {F:Int→Int}:∀ n:Nat,lin c (fun t=>sm n fun i=>a i*g i t) F=sm n fun i=>a i*lin c (g i) F
 | 0=>lin_zero fun y _=>by simp [sm]
 | n+1=>by
  rw [show (fun t=>sm (n+1) fun i=>a i*g i t)=fun t=>(sm n fun i=>a i*g i t)+a n*g n t from funext fun t=>sm_succ ..,lin_addG,lin_mulG,lin_smG n,sm_succ]
def Bnd (c:List TCell) (k:Int) (y:List TFace):Prop:=InL (cel c (k+1)).length (cel c k).length (bmat c (k+1)) fun i=>cf y (gi (cel c k) i)
theorem bmat_at (c:List TCell) (k:Int) (i j:Nat):bmat c (k+1) i j=cf (bO c (gi (cel c (k+1)) i)) (gi (cel c k) j):=by
 unfold bmat; rw [Int.add_sub_cancel]
theorem bO_cel (h:VC n c) {t s:Int} (ht:t∈cel c (k+1)) (hs:cf (bO c t) s≠0):s∈cel c k:=by
 obtain ⟨x,hx,hd,rfl⟩:=cel_mem.1 ht
 rw [bO_at h.rise hx] at hs
 obtain ⟨f,hf,rfl,_⟩:=cf_ne hs
 obtain ⟨y,hy,e⟩:=mem_ids.1 ((h.ch x hx).2.2 f hf)
 have:=h.fdim x hx f hf y hy e
 exact cel_mem.2 ⟨y,hy,by omega,e⟩
theorem gi_onto {l:List Int} {t:Int} (h:t∈l):∃ i,i<l.length∧gi l i=t:=by
 obtain ⟨i,hi⟩:=List.mem_iff_getElem?.1 h
 exact ⟨i,(List.getElem?_eq_some_iff.1 hi).1,gi_at hi⟩
theorem Bnd.all (h:VC n c) (hy:∀ t,cf y t≠0→t∈cel c k) (w:Bnd c k y):∃ a:Nat→Int,∀ t,cf y t=sm (cel c (k+1)).length fun i=>a i*cf (bO c (gi (cel c (k+1)) i)) t:=by
 obtain ⟨a,ha⟩:=w
 refine ⟨a,fun t=>?_⟩
 by_cases ht:t∈cel c k
 ·obtain ⟨j,hj,rfl⟩:=gi_onto ht
  exact (ha j hj).trans (sm_congr fun i _=>by rw [bmat_at])
 ·rw [show cf y t=0 from Classical.byContradiction fun e=>ht (hy t e)]
  exact (sm_zero fun i hi=>by
   rw [show cf (bO c (gi (cel c (k+1)) i)) t=0 from Classical.byContradiction fun e=>ht (bO_cel h (gi_mem hi) e),Int.mul_zero]).symm
theorem Bnd.image (h:VC n c) (h2:VC p d) (w:Com q c d m) (hg:Gd y) (hy:∀ f∈y,f.ID∈cel c k) (hb:Bnd c k y):Bnd d k (fl (im m) y):=by
 obtain ⟨a,ha⟩:=hb.all h fun t e=>cf_in hy e
 have e1:∀ s,cf (fl (im m) y) s=lin d (fun t=>sm (cel c (k+1)).length fun i=>a i*cf (im m (gi (cel c (k+1)) i)) t) (fun j=>cf (bO d j) s):=fun s=>by
  rw [(w.cf_fl h hg fun f hf=>cel_sub (hy f hf)).2 s,show cf y=fun t=>sm (cel c (k+1)).length fun i=>a i*cf (bO c (gi (cel c (k+1)) i)) t from funext ha,lin_smG,lin_smG]
  refine sm_congr fun i hi=>?_
  obtain ⟨x,hx,_,e⟩:=cel_mem.1 (gi_mem hi)
  rw [← e,bO_at h.rise hx,w.com x hx s]
 refine ⟨fun l=>sm (cel c (k+1)).length fun i=>a i*cf (im m (gi (cel c (k+1)) i)) (gi (cel d (k+1)) l),fun j hj=>?_⟩
 show cf (fl (im m) y) (gi (cel d k) j)=sm (cel d (k+1)).length fun l=>(sm (cel c (k+1)).length fun i=>a i*cf (im m (gi (cel c (k+1)) i)) (gi (cel d (k+1)) l))*bmat d (k+1) l j
 rw [e1,lin_cel (k:=k+1) fun x hx hd=>?_]
 ·exact sm_congr fun i _=>by rw [bmat_at]
 ·rw [sm_zero fun i hi=>?_,Int.zero_mul]
  obtain ⟨z,hz,hzd,e⟩:=cel_mem.1 (gi_mem hi)
  rw [← e]
  rw [show cf (im m z.ID) x.ID=0 from Classical.byContradiction fun e2=>?_,Int.mul_zero]
  obtain ⟨f,hf,e3,_⟩:=cf_ne e2
  have:=w.dim z hz f hf x hx e3.symm
  omega
theorem Dim_ok (h:VC n c) (hy:Ch (cel c k) q y):M.r26_Dim c y=some (if y.length=0 then -1 else k,0):=by
 have hl:=h.len
 have l1:=cel_len c k
 have l2:=hy.len
 unfold M.r26_Dim
 refine rngL_eq (fun i s=>s=(if i=0 then -1 else k,false)) _ (by omega) rfl (fun i f s hf hs=>.inl ?_) (fun s hs=>by subst hs; rfl)
 subst hs
 obtain ⟨x,hx,hd,e⟩:=cel_mem.1 (hy.2.2 f (List.mem_of_getElem? hf))
 refine ⟨(k,false),?_,by rw [if_neg (by omega)]⟩
 unfold M.r26_Dim_b2
 dsimp only
 rw [Find_ok (by omega),bnd_pure,fnd_at h.rise hx e,if_pos rfl]
 unfold M.r26_Dim_j1
 by_cases h0:i=0
 ·subst h0
  rw [if_neg (by decide),if_neg (by decide),hd]
 ·rw [if_pos (by omega),if_neg h0,hd,decide_eq_false (fun e=>e rfl),if_neg (by decide)]
theorem Vec_ok (h:VC n c) (hy:Ch (cel c k) q y) (h0:y.length≠0):M.r26_Row c k y=some (vr (cel c k).length fun i=>cf y (gi (cel c k) i)):=by
 have hl:=h.len
 have l1:=cel_len c k
 have l2:=hy.len
 have hg:=hy.1
 have e:M.r26_Vector_j3 c k y=some ((cel c k).map (cf y),0):=by
  unfold M.r26_Vector_j3
  rw [Cells_ok (by omega),bnd_pure]
  have hf:∀ (ids:List Int) (a:List Int),ids.foldl (fun (a:List Int) (i:Int)=>a++[cf y i]) a=a++ids.map fun i=>cf y i:=by
   intro ids
   induction ids with
   | nil=>simp
   | cons x ids ih=>intro a; rw [List.foldl_cons,ih]; simp
  rw [rngL_fold (l:=cel c k) (fun (a:List Int) (i:Int)=>a++[cf y i]) (by omega) (fun i t s ht hs=>?_) rfl]
  ·unfold M.r26_Vector_k2
   rw [hf]; rfl
  ·have hsl:s.length≤i:=by rw [hs,hf]; simp; omega
   have hi:i<(cel c k).length:=(List.getElem?_eq_some_iff.1 ht).1
   unfold M.r26_Vector_b2
   dsimp only
   rw [iof_ok (by decide),bnd_pure]
   have h2:rngL (M.r26_Vector_b1 t) (M.r26_Vector_k1 s) y 0=M.r26_Vector_k1 s (cf y t):=by
    have hb:∀ (i:Nat) (f:TFace) (v:Int),y[i]?=some f→v=cf (y.take i) t→∃ s',M.r26_Vector_b1 t i f v=some (.inl s')∧s'=cf (y.take (i+1)) t:=fun i f v hfy hv=>by
     subst hv
     refine ⟨cf (y.take (i+1)) t,?_,rfl⟩
     unfold M.r26_Vector_b1
     rw [cf_take hg hfy]
     by_cases e:f.ID=t
     ·rw [if_pos e,if_pos e]
      have:cf (y.take i) t=0:=cf_none fun g hg2 e2=>by
       obtain ⟨z,s⟩:=hg
       rw [show y=y.take i++(f::y.drop (i+1)) by rw [← drop_cons hfy,List.take_append_drop]] at s
       have:=so_app s g hg2 f (by simp)
       omega
      rw [this,Int.zero_add]
     ·rw [if_neg e,if_neg e,Int.add_zero]
    obtain ⟨v,hv,h3⟩:=rngL_run (b:=M.r26_Vector_b1 t) (e:=M.r26_Vector_k1 s) (l:=y) (s:=0) (fun i v=>v=cf (y.take i) t) (by omega) rfl hb
    rw [h3,hv,List.take_of_length_le (Nat.le_refl _)]
   rw [h2]
   unfold M.r26_Vector_k1
   dsimp only
   rw [app_at (by simp; omega),bnd_pure]
 unfold M.r26_Row M.r26_Vector
 rw [Dim_ok h hy,bnd_pure,if_neg h0]
 dsimp only
 rw [if_pos rfl,if_pos (by omega),if_pos rfl,e,bnd_pure,map_vr]
theorem Bounds_ok (h:VC n c) (hk:0≤k∧k≤9) (hy:Ch (cel c k) q y) {b0:Nat} (hB:∀ x∈c,x.Dim=k+1→Bn b0 x.B) (hq:q≤b0) (hb:bas (cel c (k+1)).length (cel c k).length b0) (hb2:bas ((cel c (k+1)).length+1) (cel c k).length b0) :
  ∃ b,M.r28_Bounds c y=some b∧(b=true↔y.length=0∨Bnd c k y):=by
 have hl:=h.len
 have l1:=cel_len c k
 have l2:=cel_len c (k+1)
 unfold M.r28_Bounds
 rw [Dim_ok h hy,bnd_pure]
 by_cases h0:y.length=0
 ·rw [if_pos (by omega)]
  exact ⟨true,rfl,fun _=>.inl h0,fun _=>rfl⟩
 ·rw [if_neg (by omega),if_neg h0]
  dsimp only
  rw [chk64_pos (by omega),Boundary_ok h (by omega),bnd_pure,Vec_ok h hy h0,bnd_pure,Int.add_sub_cancel]
  obtain ⟨b,h1,h2⟩:=Contains_ok16 (n:=(cel c (k+1)).length) (m:=(cel c k).length) (A:=bmat c (k+1)) (f:=fun i=>cf y (gi (cel c k) i)) (b0:=b0) (by omega) (by omega)
   (fun i hi j _=>by
    obtain ⟨x,hx,hd,e⟩:=cel_mem.1 (gi_mem hi)
    rw [bmat_at,← e,bO_at h.rise hx]
    exact Nat.le_of_lt ((hB x hx hd).cf _)) (fun j _=>Nat.le_of_lt (lt_pow2 (hy.2.1.cf _) hq)) hb hb2
  rw [h1,bnd_pure]
  exact ⟨b,rfl,h2.trans ⟨fun e=>.inr e,fun e=>e.resolve_left h0⟩⟩
end
end Go.Z
end
section
namespace Go.Z
open Eu
def basB (n m b0:Nat):Bool:=decide (b0≤15999000) && bokB n m b0 && (List.range (min n m+1)).all fun top=>decide ((bsq n b0 top).1<15999000) && decide ((bsq n b0 top).2.1<15999000)
theorem basB_ok {n m b0:Nat} (h:basB n m b0=true):bas n m b0:=by
 unfold basB at h
 rw [Bool.and_eq_true,Bool.and_eq_true] at h
 obtain ⟨⟨h1,h2⟩,h3⟩:=h
 refine ⟨of_decide_eq_true h1,bokB_ok h2,fun top h4 h5=>?_⟩
 have:=List.all_eq_true.1 h3 top (List.mem_range.2 (by omega))
 rw [Bool.and_eq_true] at this
 exact ⟨of_decide_eq_true this.1,of_decide_eq_true this.2⟩
theorem bsq_mono {n b b':Nat} (h:b≤b'):∀ t,(bsq n b t).1≤(bsq n b' t).1∧(bsq n b t).2.1≤(bsq n b' t).2.1∧(bsq n b t).2.2≤(bsq n b' t).2.2
 | 0=>⟨h,Nat.le_refl _,Nat.le_refl _⟩
 | t+1=>by
  obtain ⟨a1,a2,a3⟩:=bsq_mono h t
  have:=Nat.mul_le_mul_left (n-t-1) (Nat.add_le_add_right a1 4)
  unfold bsq
  dsimp only
  generalize (n-t-1)*((bsq n b t).1+4)=p at *
  generalize (n-t-1)*((bsq n b' t).1+4)=p' at *
  exact ⟨by omega,by omega,by omega⟩
theorem bok_mono {n m b b':Nat} (h:b≤b') (w:bok n m b'):bok n m b:=fun t h1 h2=>by
 have w2:=w t h1 h2
 obtain ⟨a1,a2,a3⟩:=bsq_mono (n:=n) h t
 have:=Nat.mul_le_mul_left (n-t-1) (Nat.add_le_add_right a1 4)
 generalize (n-t-1)*((bsq n b t).1+4)=p at *
 generalize (n-t-1)*((bsq n b' t).1+4)=p' at *
 exact ⟨by omega,by omega⟩
theorem bas_mono {n m b b':Nat} (h:b≤b') (w:bas n m b'):bas n m b:=⟨Nat.le_trans h w.1,bok_mono h w.2.1,fun top h1 h2=>by
 have:=w.2.2 top h1 h2
 obtain ⟨a1,a2,_⟩:=bsq_mono (n:=n) h top
 omega⟩
def lbq (N M b:Nat):Prop:=bok N M b∧∀ top,top≤N→top≤M→(bsq N b top).1<15999000∧(bsq N b top).2.1<15999000∧bok (N-top) N (bsq N b top).1∧∀ t,t≤N-top→t≤N→(bsq (N-top) (bsq N b top).1 t).1<15999000∧(bsq (N-top) (bsq N b top).1 t).2.1<15998000
def lbqB (N M b:Nat):Bool:=bokB N M b && (List.range (min N M+1)).all fun top=>decide ((bsq N b top).1<15999000) && decide ((bsq N b top).2.1<15999000) && bokB (N-top) N (bsq N b top).1 &&
 (List.range (min (N-top) N+1)).all fun t=>decide ((bsq (N-top) (bsq N b top).1 t).1<15999000) && decide ((bsq (N-top) (bsq N b top).1 t).2.1<15998000)
theorem lbqB_ok {N M b:Nat} (h:lbqB N M b=true):lbq N M b:=by
 unfold lbqB at h
 rw [Bool.and_eq_true] at h
 refine ⟨bokB_ok h.1,fun top h4 h5=>?_⟩
 have h6:=List.all_eq_true.1 h.2 top (List.mem_range.2 (by omega))
 rw [Bool.and_eq_true,Bool.and_eq_true,Bool.and_eq_true] at h6
 obtain ⟨⟨⟨a1,a2⟩,a3⟩,a4⟩:=h6
 refine ⟨of_decide_eq_true a1,of_decide_eq_true a2,bokB_ok a3,fun t h7 h8=>?_⟩
 have h9:=List.all_eq_true.1 a4 t (List.mem_range.2 (by omega))
 rw [Bool.and_eq_true] at h9
 exact ⟨of_decide_eq_true h9.1,of_decide_eq_true h9.2⟩
theorem lbq_mono {N M b b':Nat} (h:b≤b') (w:lbq N M b'):lbq N M b:=⟨bok_mono h w.1,fun top h1 h2=>by
 obtain ⟨w1,w2,w3,w4⟩:=w.2 top h1 h2
 obtain ⟨a1,a2,_⟩:=bsq_mono (n:=N) h top
 refine ⟨by omega,by omega,bok_mono a1 w3,fun t h3 h4=>?_⟩
 obtain ⟨w5,w6⟩:=w4 t h3 h4
 obtain ⟨a3,a4,_⟩:=bsq_mono (n:=N-top) a1 t
 omega⟩
theorem fmax_le:∀ (l:List Nat) (a:Nat),a≤l.foldl max a∧∀ x∈l,x≤l.foldl max a
 | [],a=>⟨Nat.le_refl _,fun x hx=>nomatch hx⟩
 | y::l,a=>by
  obtain ⟨h1,h2⟩:=fmax_le l (max a y)
  refine ⟨Nat.le_trans (Nat.le_max_left _ _) h1,fun x hx=>?_⟩
  rcases List.mem_cons.1 hx with rfl | hx
  ·exact Nat.le_trans (Nat.le_max_right _ _) h1
  ·exact h2 x hx
theorem fmax_lt {B:Nat}:∀ (l:List Nat) (a:Nat),a<B→(∀ x∈l,x<B)→l.foldl max a<B
 | [],a,h,_=>h
 | y::l,a,h,hl=>fmax_lt l (max a y) (Nat.max_lt.2 ⟨h,hl y (by simp)⟩) fun x hx=>hl x (by simp [hx])
theorem lbq_lbc {N M b:Nat} (w:lbq N M b):lbc N M b (lbv N M b)∧lbv N M b<15998000:=by
 have up:∀ top,top≤N→top≤M→∀ t,t≤N-top→(bsq (N-top) (bsq N b top).1 t).2.1≤lbv N M b:=fun top h1 h2 t h3=>by
  unfold lbv
  refine Nat.le_trans ?_ ((fmax_le _ 0).2 _ (List.mem_map.2 ⟨top,List.mem_range.2 (by omega),rfl⟩))
  exact (fmax_le _ 0).2 _ (List.mem_map.2 ⟨t,List.mem_range.2 (by omega),rfl⟩)
 have lt:lbv N M b<15998000:=by
  unfold lbv
  refine fmax_lt _ _ (by decide) fun x hx=>?_
  obtain ⟨top,h1,rfl⟩:=List.mem_map.1 hx
  have h1:=List.mem_range.1 h1
  refine fmax_lt _ _ (by decide) fun x hx=>?_
  obtain ⟨t,h2,rfl⟩:=List.mem_map.1 hx
  have h2:=List.mem_range.1 h2
  exact ((w.2 top (by omega) (by omega)).2.2.2 t (by omega) (by omega)).2
 refine ⟨⟨w.1,by omega,fun top h1 h2=>?_⟩,lt⟩
 obtain ⟨w1,w2,w3,w4⟩:=w.2 top h1 h2
 exact ⟨w1,w2,w3,fun t h3 h4=>⟨(w4 t h3 h4).1,up top h1 h2 t h3⟩⟩
def tb1 (n:Nat):Nat:=([15998999,5332993,1999870,551685,122125,23558,3889,551,65]:List Nat).getD n 0
def tb2 (n m:Nat):Nat:=(([[15998999,5332993,5332993,5332993,5332993,5332993,5332993,5332993,5332993],[15998999,3999744,1999870,1999870,1999870,1999870,1999870,1999870,1999870],[15998999,3199794,1066595,551685,551685,551685,551685,551685,551685],[15998999,2666494,666620,238786,122125,122125,122125,122125,122125],[15998999,2285566,457110,124019,45190,23558,23558,23558,23558],[15998999,1999870,333308,72389,20070,7427,3889,3889,3889],[15998999,1777661,253948,45838,10160,2846,1054,551,551],[15998999,1599895,199983,30822,5663,1262,351,128,65],[15998999,1454449,161602,21704,3395,624,136,35,10]]:List (List Nat)).getD n []).getD m 0
theorem tb_ok:∀ n∈List.range 9,∀ m∈List.range 9,lbqB n m (tb1 n)=true∧∀ n'∈[n-1,n,n+1],∀ m'∈[m-1,m],basB n' m' (tb2 n m)=true:=by decide +kernel
def cnk (st:Stt) (k:Nat):Nat:=st.1.getD k 0
def cnp (st:Stt) (k:Nat):Nat:=if k=0 then 0 else st.1.getD (k-1) 0
def bik (st:Stt) (k:Nat):Nat:=st.2.getD k 0
def Lk (st:Stt) (k:Nat):Nat:=lbv (cnk st k) (cnp st k) (bik st k)
def b0k (st:Stt) (k:Nat):Nat:=max (bik st (k+1)) (Lk st k)+500
def okFin (st:Stt):Bool:=[0,1,2,3].all fun k=>decide (cnk st k<9) && decide (cnp st k<9) && decide (cnk st (k+1)<9) && decide (bik st k≤tb1 (cnk st k)) && decide (b0k st k≤tb2 (cnk st (k+1)) (cnk st k))
def okSeqP (F:Stt→Bool):Nat→Stt→Bool
 | 0,st=>F st
 | k+1,st=>F st && [0,1,2,3].all fun d=>okSt st d && okSeqP F k (growSt st d)
theorem okSeqP_F {F:Stt→Bool}:∀ {k:Nat} {st:Stt},okSeqP F k st=true→F st=true
 | 0,_,h=>h
 | k+1,st,h=>by
  rw [okSeqP,Bool.and_eq_true] at h
  exact h.1
theorem okSeqP_step {F:Stt→Bool} {k:Nat} {st:Stt} (h:okSeqP F (k+1) st=true):(∀ d:Nat,d<4→okSt st d=true)∧∀ d:Nat,d<4→okSeqP F k (growSt st d)=true:=by
 rw [okSeqP,Bool.and_eq_true] at h
 have h1:∀ d:Nat,d<4→okSt st d=true∧okSeqP F k (growSt st d)=true:=fun d hd=>by
  have:=List.all_eq_true.1 h.2 d (by simp; omega)
  rwa [Bool.and_eq_true] at this
 exact ⟨fun d hd=>(h1 d hd).1,fun d hd=>(h1 d hd).2⟩
theorem Made_loopP {F:Stt→Bool} {x:R26Raw} {c:List TCell} {st:Stt} (w:Inv c 20 st) (hok:okSeqP F 4 st=true):∃ c',loop (M.r26_Made_b2 x) (c,0)=some c'∧∃ st,Inv c' 30 st∧F st=true:=by
 refine loop_or (fun s=>∃ (i:Nat) (st:Stt),s.2=(i:Int)∧i≤4∧Inv s.1 (20+2*i) st∧okSeqP F (4-i) st=true) (fun s=>4-s.2.toNat) _ ⟨0,st,rfl,by omega,w,hok⟩ (by show 4-0<_; omega) ?_
 rintro ⟨v,iv⟩ ⟨i,st,e2,hi,hv,ho⟩
 dsimp only at e2 hv
 subst e2
 have fin:∃ r,M.r26_Made_j1 x v (i:Int) false=some (.inr r)∧∃ st,Inv r 30 st∧F st=true:=by
  exact ⟨v,rfl,st,⟨hv.vc,by have:=hv.len; omega,fun y hy=>by have:=hv.id y hy; omega,hv.l4,hv.cnt,hv.bit⟩,okSeqP_F ho⟩
 unfold M.r26_Made_b2
 dsimp only
 by_cases hlt:i<x.L.length
 ·rw [if_pos (by omega)]
  by_cases h4:i<4
  ·rw [decide_eq_true (by omega)]
   refine .inl ?_
   obtain ⟨y,hy⟩:=lt_get hlt
   obtain ⟨j,hj⟩:∃ j,4-i=j+1:=⟨3-i,by omega⟩
   rw [hj] at ho
   obtain ⟨h1,h2⟩:=okSeqP_step ho
   obtain ⟨c',d,hd,e3,e4⟩:=hv.grow (by omega) (x:=(y.1,y.2.1,y.2.2.1,y.2.2.2)) h1
   unfold M.r26_Made_j1
   rw [if_pos rfl,nth_at hy,e3,bnd_pure,chk64_pos (by omega)]
   exact ⟨_,rfl,⟨i+1,growSt st d,by simp,by omega,e4,by rw [show 4-(i+1)=j by omega]; exact h2 d hd⟩,by show 4-((i:Int)+1).toNat<4-((i:Nat):Int).toNat; omega⟩
  ·rw [decide_eq_false (by omega)]; exact .inr fin
 ·rw [if_neg (by omega)]; exact .inr fin
section
variable {c:List TCell} {st:Stt} {k:Nat}
theorem Inv.cel4 (w:Inv c 30 st) {j:Int} (hj:3<j):(cel c j).length=0:=by
 unfold cel
 rw [List.filter_eq_nil_iff.2 fun x hx=>by have:=(w.vc.dim x hx).2; simp; omega]; rfl
theorem Inv.cn (w:Inv c 30 st) (hk:k≤4):(cel c (k:Int)).length=cnk st k:=by
 by_cases h:k<4
 ·exact w.cnt k h
 ·have:k=4:=by omega
  subst this
  rw [w.cel4 (by decide)]
  unfold cnk
  have:=w.l4.1
  rw [List.getD_eq_getElem?_getD,List.getElem?_eq_none (by omega)]; rfl
theorem Inv.cm (w:Inv c 30 st) (hk:k<4):(cel c ((k:Int)-1)).length=cnp st k:=by
 unfold cnp
 by_cases e:k=0
 ·rw [if_pos e,cel_neg w.vc (by omega)]; rfl
 ·rw [if_neg e,show (k:Int)-1=((k-1:Nat):Int) by omega]; exact w.cnt (k-1) (by omega)
theorem okFin_at (h:okFin st=true) (hk:k<4):lbc (cnk st k) (cnp st k) (bik st k) (Lk st k)∧(bik st k≤15999000∧Lk st k<15998000)∧∀ n m:Nat,n≤cnk st (k+1)+1→cnk st (k+1)-1≤n→m≤cnk st k→cnk st k-1≤m→bas n m (b0k st k):=by
 unfold okFin at h
 have:=List.all_eq_true.1 h k (by simp; omega)
 rw [Bool.and_eq_true,Bool.and_eq_true,Bool.and_eq_true,Bool.and_eq_true] at this
 obtain ⟨⟨⟨⟨h1,h2⟩,h3⟩,h4⟩,h5⟩:=this
 have h1:=of_decide_eq_true h1
 have h2:=of_decide_eq_true h2
 have h3:=of_decide_eq_true h3
 have h4:=of_decide_eq_true h4
 have h5:=of_decide_eq_true h5
 have q1:=lbqB_ok (tb_ok _ (List.mem_range.2 h1) _ (List.mem_range.2 h2)).1
 obtain ⟨q2,q3⟩:=lbq_lbc (lbq_mono h4 q1)
 have q4:tb1 (cnk st k)≤15999000:=by
  have:∀ n∈List.range 9,tb1 n≤15999000:=by decide +kernel
  exact this _ (List.mem_range.2 h1)
 refine ⟨q2,⟨by omega,q3⟩,fun n m a1 a2 a3 a4=>bas_mono h5 (basB_ok ?_)⟩
 exact (tb_ok _ (List.mem_range.2 h3) _ (List.mem_range.2 h1)).2 n (by simp; omega) m (by simp; omega)
theorem Cyclic_ok (w:Inv c 30 st) (ho:okFin st=true) (hk:k<4) {l:List Int}:∃ y,M.r26_Cyclic c (k:Int) l=some y∧Cyc c (k:Int) (Lk st k+450) y:=by
 obtain ⟨h1,h2,h3⟩:=okFin_at ho hk
 have hb:∀ x∈c,x.Dim=(k:Int)→Bn (bik st k) x.B:=fun x hx e=>w.bit x hx k e
 have hL:lbc (cel c (k:Int)).length (cel c ((k:Int)-1)).length (bik st k) (Lk st k):=by rw [w.cn (by omega),w.cm hk]; exact h1
 obtain ⟨ys,e1,hy,hys⟩:=Cycles_ok w.vc (k:=(k:Int)) (by omega) hb h2.1 hL
 have hLb:Lk st k<15999000:=h1.2.1
 have hS:(cel c (k:Int)).length≤100000:=by have:=cel_len c (k:Int); have:=w.len; omega
 unfold M.r26_Cyclic
 rw [e1,bnd_pure]
 refine loop_or (fun s=>∃ i:Nat,s.2=(i:Int)∧i≤ys.length∧Cyc c (k:Int) (Lk st k+3+i) s.1) (fun s=>400-s.2.toNat) (fun y=>Cyc c (k:Int) (Lk st k+450) y) ⟨0,rfl,Nat.zero_le _,Cyc.nil _ _ _⟩ (by show 400-0<_; omega) ?_
 rintro ⟨v,iv⟩ ⟨i,e2,hi,hv⟩
 dsimp only at e2 hv
 subst e2
 have fin:∃ r,M.r26_Cyclic_j1 l ys v (i:Int) false=some (.inr r)∧Cyc c (k:Int) (Lk st k+450) r:=⟨v,rfl,hv.ch.mono (by omega),hv.z⟩
 unfold M.r26_Cyclic_b2
 dsimp only
 by_cases hlt:i<ys.length
 ·rw [if_pos (by omega)]
  by_cases h4:i<l.length
  ·refine .inl ?_
   obtain ⟨y,hy2⟩:=lt_get hlt
   obtain ⟨κ,hκ⟩:=lt_get h4
   have hym:=List.mem_of_getElem? hy2
   have hm4:=tmod4 κ
   rw [decide_eq_true (by omega)]
   unfold M.r26_Cyclic_j1
   rw [if_pos rfl,nth_at hy2,nth_at hκ,chk64_pos (by omega),iof_ok (by omega),bnd_pure,
    Add26_ok (S:=cel c (k:Int)) (m:=Lk st k+1) (k':=2) hv.ch (hys y hym).ch (by omega) (by omega) hS,bnd_pure,chk64_pos (by omega)]
   refine ⟨_,rfl,⟨i+1,rfl,by omega,?_⟩,by show 400-((i:Int)+1).toNat<400-((i:Nat):Int).toNat; omega⟩
   have:=hv.add (hys y hym) (κ:=Int.tmod κ 4) (k':=2) (by omega)
   exact ⟨this.ch.mono (by omega),this.z⟩
  ·rw [decide_eq_false (by omega)]; exact .inr fin
 ·rw [if_neg (by omega)]; exact .inr fin
end
end Go.Z
end
section
namespace Go.Z
def us (c:List TCell) (i:Int):Nat:=(c.filter fun x=>decide (cf x.B i≠0)).length
theorem us_snoc (c:List TCell) (x:TCell) (i:Int):us (c++[x]) i=us c i+if cf x.B i≠0 then 1 else 0:=by
 unfold us
 rw [List.filter_append,List.length_append]
 by_cases h:cf x.B i≠0
 ·rw [if_pos h,List.filter_cons_of_pos (by simpa using h)]; rfl
 ·rw [if_neg h,List.filter_cons_of_neg (by simpa using h)]; rfl
theorem us_take {c:List TCell} {i:Nat} {x:TCell} (hx:c[i]?=some x) (k:Int):us (c.take (i+1)) k=us (c.take i) k+if cf x.B k≠0 then 1 else 0:=by
 rw [List.take_add_one,hx]; exact us_snoc _ _ _
theorem us_zero {c:List TCell} {i:Int}:us c i=0↔∀ x∈c,cf x.B i=0:=by
 unfold us
 rw [List.length_eq_zero_iff,List.filter_eq_nil_iff]
 constructor
 ·intro h x hx
  have:=h x hx
  simpa using this
 ·intro h x hx
  simp [h x hx]
theorem us_le (c:List TCell) (i:Int):us c i≤c.length:=List.length_filter_le _ _
theorem KM.put {m:List (Int×Int)} {g:Int→Int} (w:KM m g) {i:Int} (h:g i+1≠0):KM (mput m i (g i+1)) fun k=>g k+if i=k then 1 else 0:=by
 refine ⟨nd_mput w.1,fun k=>?_⟩
 rw [mfind_mput,w.2 k]
 by_cases e:k=i
 ·subst e; simp [h]
 ·have e':¬ i=k:=fun q=>e q.symm
  simp [e,e']
section
variable {c:List TCell} {n:Nat}
theorem uses_ok (h:VC n c):∃ m,M.merge_uses c=some m∧KM m fun k=>(us c k:Int):=by
 have hl:=h.len
 unfold M.merge_uses
 refine rngL_or (fun i m=>KM m fun k=>(us (c.take i) k:Int)) _ (by omega) ⟨by simp,fun k=>by simp [mfind,us]⟩ (fun i x m hx hm=>.inl ?_) (fun m hm=>⟨m,rfl,by rwa [List.take_of_length_le (Nat.le_refl _)] at hm⟩)
 have hi:=(List.getElem?_eq_some_iff.1 hx).1
 have hch:=h.ch x (List.mem_of_getElem? hx)
 have hlB:=hch.len
 rw [List.length_map] at hlB
 unfold M.merge_uses_b2
 dsimp only
 obtain ⟨r,h1,m',rfl,h2⟩:=rngL_or (b:=M.merge_uses_b1) (e:=M.merge_uses_k1) (l:=x.B) (s:=m) (fun j m=>KM m fun k=>(us (c.take i) k:Int)+if cf (x.B.take j) k≠0 then 1 else 0) (fun r=>∃ m',r=Sum.inl m'∧KM m' fun k=>(us (c.take (i+1)) k:Int)) (by omega)
  (by
   rw [show (fun k=>(us (c.take i) k:Int)+if cf (x.B.take 0) k≠0 then 1 else 0)=fun k=>(us (c.take i) k:Int) from funext fun k=>by simp [cf]]
   exact hm)
  (fun j t m ht hm=>.inl (by
   have e0:cf (x.B.take j) t.ID=0:=by
    obtain ⟨z,s⟩:=hch.1
    refine cf_none fun f hf e=>?_
    rw [show x.B=x.B.take j++(t::x.B.drop (j+1)) by rw [← drop_cons ht,List.take_append_drop]] at s
    have:=so_app s f hf t (by simp)
    omega
   have hb:us (c.take i) t.ID≤400:=by have:=us_le (c.take i) t.ID; simp at this; omega
   have hg:=hm.get t.ID
   rw [e0,if_neg (by simp),Int.add_zero] at hg
   have hp:=hm.put (i:=t.ID) (by rw [e0]; simp; omega)
   rw [e0,if_neg (by simp),Int.add_zero] at hp
   unfold M.merge_uses_b1
   dsimp only
   rw [hg,chk64_pos (by omega)]
   refine ⟨_,rfl,?_⟩
   rw [show (fun k=>(us (c.take i) k:Int)+if cf (x.B.take (j+1)) k≠0 then 1 else 0)=fun k=>((us (c.take i) k:Int)+if cf (x.B.take j) k≠0 then 1 else 0)+if t.ID=k then 1 else 0 from funext fun k=>by
    have htC:=hch.1.ne (List.mem_of_getElem? ht)
    rw [cf_take hch.1 ht]
    by_cases e:t.ID=k
    ·subst e; rw [e0]; simp [htC]
    ·simp [e]]
   exact hp))
  (fun m hm=>⟨_,rfl,m,rfl,by
   rw [List.take_of_length_le (Nat.le_refl _)] at hm
   rw [show (fun k=>(us (c.take (i+1)) k:Int))=fun k=>(us (c.take i) k:Int)+if cf x.B k≠0 then 1 else 0 from funext fun k=>by
    rw [us_take hx]; split<;>simp]
   exact hm⟩)
 exact ⟨m',h1,h2⟩
theorem mem_find {m:List (Int×Int)} (hn:(m.map (·.1)).Nodup) {k a:Int}:(k,a)∈m↔mfind m k=some a:=by
 induction m with
 | nil=>simp [mfind]
 | cons p m ih=>
  obtain ⟨q,b⟩:=p
  rw [List.map_cons,List.nodup_cons] at hn
  rw [mfind,List.mem_cons,ih hn.2]
  by_cases e:k=q
  ·subst e
   rw [if_pos rfl]
   constructor
   ·rintro (h | h)
    ·rw [(Prod.mk.inj h).2]
    ·exact absurd (mfind_mem.1 (by rw [h]; simp)) hn.1
   ·intro h; left; rw [Option.some.inj h]
  ·rw [if_neg e]
   constructor
   ·rintro (h | h)
    ·exact absurd (Prod.mk.inj h).1 e
    ·exact h
   ·exact .inr
theorem once_ok {m:List (Int×Int)} (w:KM m fun k=>(us c k:Int)) (k:Int):mget (M.onceOf m) k false=decide (us c k=1):=by
 have h1:=mfind_once m k
 have h2:(k,(1:Int))∈m↔us c k=1:=by
  rw [mem_find w.1,w.2 k]
  by_cases e:(us c k:Int)=0
  ·rw [if_pos e]; simp; omega
  ·rw [if_neg e]; simp; omega
 unfold mget
 by_cases e:us c k=1
 ·rw [h1.1 (h2.2 e),decide_eq_true e]; rfl
 ·rw [h1.2 (fun e2=>e (h2.1 e2)),decide_eq_false e]; rfl
def frb (c:List TCell) (f:TFace):Bool:=decide (us c f.ID=1∧f.C.natAbs=1)
def frx (c:List TCell) (x:TCell):List (Int×Int):=if 0<us c x.ID then [] else (x.B.filter (frb c)).map fun f=>(x.ID,f.ID)
def fre (c:List TCell):List (Int×Int):=c.flatMap (frx c)
theorem frx_len (x:TCell):(frx c x).length≤x.B.length:=by
 unfold frx
 split
 ·exact Nat.zero_le _
 ·rw [List.length_map]; exact List.length_filter_le _ _
theorem VC.lenB (h:VC n c) {x:TCell} (hx:x∈c):x.B.length≤400:=by
 have:=(h.ch x hx).len; rw [List.length_map] at this; have:=h.len; omega
theorem flat_take {c d:List TCell} {i:Nat} {x:TCell} (hx:d[i]?=some x):(d.take (i+1)).flatMap (frx c)=(d.take i).flatMap (frx c)++frx c x:=by
 rw [List.take_add_one,hx,List.flatMap_append]; simp
theorem flatF_len (h:VC n c) (i:Nat):((c.take i).flatMap (frx c)).length≤400*400:=by
 have key:∀ l:List TCell,(∀ x∈l,x∈c)→(l.flatMap (frx c)).length≤400*l.length:=by
  intro l
  induction l with
  | nil=>intro _; simp
  | cons x l ih=>
   intro hl
   have h1:=ih fun y hy=>hl y (by simp [hy])
   have h2:=frx_len (c:=c) x
   have h3:=h.lenB (hl x (by simp))
   rw [List.flatMap_cons,List.length_append,List.length_cons]; omega
 have:=key (c.take i) fun x hx=>List.mem_of_mem_take hx
 have h2:=h.len
 have h3:(c.take i).length≤400:=by simp; omega
 exact Nat.le_trans this (Nat.mul_le_mul_left _ h3)
theorem filt_take {α:Type} {p:α→Bool} {l:List α} {i:Nat} {x:α} (hx:l[i]?=some x):(l.take (i+1)).filter p=(l.take i).filter p++if p x=true then [x] else []:=by
 rw [List.take_add_one,hx,List.filter_append]
 simp only [Option.toList_some,List.filter_cons,List.filter_nil]
theorem icmp_ok {x y:Int} (hx:Ft x) (hy:Ft y):M.icmp x y=some (if x<y then -1 else if y<x then 1 else 0):=if_pos ⟨hx,hy⟩
theorem iabs_ok {x:Int} (hx:Ft x):M.iabs x=some (x.natAbs:Int):=if_pos hx
theorem ft1:Ft 1:=ft_one
theorem Free_ok (h:VC n c) (hn:n≤1000000):M.merge_Free c=some (fre c):=by
 have hl:=h.len
 obtain ⟨m,e1,w⟩:=uses_ok h
 unfold M.merge_Free
 rw [e1,bnd_pure]
 refine rngL_eq (fun i v=>v=(c.take i).flatMap (frx c)) _ (by omega) rfl (fun i x v hx hv=>.inl ?_) (fun v hv=>by
  rw [List.take_of_length_le (Nat.le_refl _)] at hv; rw [hv]; rfl)
 subst hv
 have hm:=List.mem_of_getElem? hx
 have hch:=h.ch x hm
 have hlB:=h.lenB hm
 have hfl:=flatF_len h i
 rw [flat_take hx]
 unfold M.merge_Free_b3
 dsimp only
 rw [w.get,show frx c x=if 0<us c x.ID then [] else (x.B.filter (frb c)).map fun f=>(x.ID,f.ID) from rfl]
 by_cases hu:0<us c x.ID
 ·rw [if_pos (by omega),if_pos hu]; exact ⟨_,rfl,by simp⟩
 ·rw [if_neg (by omega),if_neg hu]
  refine ⟨_,?_,rfl⟩
  refine rngL_eq (fun j v=>v=(c.take i).flatMap (frx c)++((x.B.take j).filter (frb c)).map fun f=>(x.ID,f.ID)) _ (by omega) (by simp) (fun j t v ht hv=>.inl ?_) (fun v hv=>by
   rw [List.take_of_length_le (Nat.le_refl _)] at hv; rw [hv]; rfl)
  subst hv
  have htm:=List.mem_of_getElem? ht
  have ft:=hch.ft hn t htm
  have hlen:(((x.B.take j).filter (frb c)).map fun f=>(x.ID,f.ID)).length≤400:=by
   rw [List.length_map]; exact Nat.le_trans (List.length_filter_le _ _) (by simp; omega)
  rw [filt_take ht]
  unfold M.merge_Free_b2
  dsimp only
  rw [once_ok w]
  have app1:app ((c.take i).flatMap (frx c)++((x.B.take j).filter (frb c)).map fun f=>(x.ID,f.ID)) [(x.ID,t.ID)]=some ((c.take i).flatMap (frx c)++(((x.B.take j).filter (frb c)).map fun f=>(x.ID,f.ID))++[(x.ID,t.ID)]):=app_at (by rw [List.length_append]; simp only [List.length_cons,List.length_nil]; omega)
  by_cases hu1:us c t.ID=1
  ·rw [if_pos (decide_eq_true hu1),iabs_ok ft,bnd_pure,iof_ok (by decide),bnd_pure,icmp_ok (show Ft ((t.C.natAbs:Nat):Int) from ft) ft1,bnd_pure]
   unfold M.merge_Free_j1
   by_cases h1:t.C.natAbs=1
   ·rw [if_pos (by simp [h1]),app1,bnd_pure,if_pos (show frb c t=true from decide_eq_true ⟨hu1,h1⟩)]
    exact ⟨_,rfl,by simp⟩
   ·rw [if_neg (by
     simp only [decide_eq_true_eq]
     split
     ·decide
     ·rename_i h2
      split
      ·decide
      ·omega),if_neg (show ¬ frb c t=true from fun e=>h1 (of_decide_eq_true e).2)]
    exact ⟨_,rfl,by simp⟩
  ·rw [if_neg (by simpa using hu1)]
   unfold M.merge_Free_j1
   rw [if_neg (by decide),if_neg (show ¬ frb c t=true from fun e=>hu1 (of_decide_eq_true e).1)]
   exact ⟨_,rfl,by simp⟩
theorem IsFree_ok (h:VC n c) (hn:n≤1000000) (a b:Int):M.r31_IsFree c a b=some (decide (us c b=1∧us c a=0∧(cf (bO c a) b).natAbs=1)):=by
 have hl:=h.len
 unfold M.r31_IsFree
 rw [Find_ok (by omega),bnd_pure]
 refine loop_eq (fun s=>∃ i:Nat,s=(c,(i:Int),(us (c.take i) b:Int))∧i≤c.length∧∀ x∈c.take i,cf x.B a=0) (fun s=>c.length-s.2.1.toNat) _ ⟨0,rfl,Nat.zero_le _,by simp⟩ (by show c.length-0<_; omega) ?_
 rintro _ ⟨i,rfl,hi,hz⟩
 have hub:=us_le (c.take i) b
 rw [List.length_take] at hub
 unfold M.r31_IsFree_b2
 dsimp only
 by_cases hlt:i<c.length
 ·obtain ⟨x,hx⟩:=lt_get hlt
  have hm:=List.mem_of_getElem? hx
  have hch:=h.ch x hm
  have hlB:=h.lenB hm
  have j1:∀ u:Int,(∀ s:List TCell×Int×Int,s=(c,(i:Int)+1,u)→u=(us (c.take (i+1)) b:Int)→True)→u=(us (c.take (i+1)) b:Int)→(∃ s',M.r31_IsFree_j1 a (i:Int) c u=some (.inl s')∧(∃ j:Nat,s'=(c,(j:Int),(us (c.take j) b:Int))∧j≤c.length∧∀ x∈c.take j,cf x.B a=0)∧c.length-s'.2.1.toNat<c.length-i)∨M.r31_IsFree_j1 a (i:Int) c u=some (.inr (decide (us c b=1∧us c a=0∧(cf (bO c a) b).natAbs=1))):=fun u _ hu=>by
   unfold M.r31_IsFree_j1
   rw [nth_at hx,Coefficient_ok hch.1 (by omega),bnd_pure,isign_ok (ft_bits (hch.2.1.cf a) hn),bnd_pure]
   by_cases h0:cf x.B a=0
   ·rw [if_pos ((sign0 _).2 h0),chk64_pos (by omega)]
    refine .inl ⟨_,rfl,⟨i+1,by rw [hu]; simp,by omega,fun y hy=>?_⟩,by show c.length-((i:Int)+1).toNat<_; omega⟩
    rw [List.take_add_one,hx] at hy
    rcases List.mem_append.1 hy with hy | hy
    ·exact hz y hy
    ·simp at hy; rw [hy]; exact h0
   ·rw [if_neg (fun e=>h0 ((sign0 _).1 e))]
    refine .inr ?_
    rw [decide_eq_false (fun e=>h0 (us_zero.1 e.2.1 x hm))]; rfl
  rw [if_pos (by omega),nth_at hx,Coefficient_ok hch.1 (by omega),bnd_pure,isign_ok (ft_bits (hch.2.1.cf b) hn),bnd_pure]
  have hut:=us_take hx b
  by_cases h0:cf x.B b=0
  ·rw [if_pos ((sign0 _).2 h0)]
   exact j1 _ (fun _ _ _=>trivial) (by rw [hut,if_neg (by simpa using h0)]; simp)
  ·rw [if_neg (fun e=>h0 ((sign0 _).1 e)),chk64_pos (by omega)]
   exact j1 _ (fun _ _ _=>trivial) (by rw [hut,if_pos h0]; simp)
 ·refine .inr ?_
  have e:i=c.length:=by omega
  subst e
  rw [List.take_of_length_le (Nat.le_refl _)] at *
  rw [if_neg (by omega)]
  have ha:us c a=0:=us_zero.2 hz
  have hB:=h.chB a
  by_cases h1:us c b=1
  ·rw [if_pos (by omega),show M.r31_Coefficient (fnd c a).1.B b=some (cf (bO c a) b) from Coefficient_ok (l:=bO c a) hB.1 (by have:=hB.len; rw [List.length_map] at this; omega),bnd_pure,iabs_ok (ft_bits (hB.2.1.cf b) hn),bnd_pure,iof_ok (by decide),bnd_pure,isame_ok (show Ft (((cf (bO c a) b).natAbs:Nat):Int) from ft_bits (hB.2.1.cf b) hn) ft1,bnd_pure,lft_pure]
   congr 3
   simp only [eq_iff_iff]
   constructor
   ·intro h2; exact ⟨h1,ha,by omega⟩
   ·intro h2; omega
  ·rw [if_neg (by omega),decide_eq_false (fun e=>h1 e.1)]; rfl
theorem rFree_ok (h:VC n c) (hn:n≤1000000):M.r31_Free c=some (fre c):=by
 have hl:=h.len
 unfold M.r31_Free
 refine rngL_eq (fun i v=>v=(c.take i).flatMap (frx c)) _ (by omega) rfl (fun i x v hx hv=>.inl ?_) (fun v hv=>by
  rw [List.take_of_length_le (Nat.le_refl _)] at hv; rw [hv]; rfl)
 subst hv
 have hm:=List.mem_of_getElem? hx
 have hch:=h.ch x hm
 have hlB:=h.lenB hm
 have hfl:=flatF_len h i
 rw [flat_take hx]
 unfold M.r31_Free_b2
 dsimp only
 have hfrx:frx c x=(x.B.filter fun f=>decide (us c f.ID=1∧us c x.ID=0∧f.C.natAbs=1)).map fun f=>(x.ID,f.ID):=by
  unfold frx frb
  by_cases hu:0<us c x.ID
  ·rw [if_pos hu,List.filter_eq_nil_iff.2 fun f _=>by rw [decide_eq_true_iff]; exact fun e=>by have:=e.2.1; omega]; rfl
  ·rw [if_neg hu]
   congr 1
   refine List.filter_congr fun f _=>?_
   have h0:us c x.ID=0:=by omega
   simp [h0]
 rw [hfrx]
 refine ⟨_,?_,rfl⟩
 refine rngL_eq (fun j v=>v=(c.take i).flatMap (frx c)++((x.B.take j).filter fun f=>decide (us c f.ID=1∧us c x.ID=0∧f.C.natAbs=1)).map fun f=>(x.ID,f.ID)) _ (by omega) (by simp) (fun j t v ht hv=>.inl ?_) (fun v hv=>by
  rw [List.take_of_length_le (Nat.le_refl _)] at hv; rw [hv]; rfl)
 subst hv
 have htm:=List.mem_of_getElem? ht
 have hlen:(((x.B.take j).filter fun f=>decide (us c f.ID=1∧us c x.ID=0∧f.C.natAbs=1)).map fun f=>(x.ID,f.ID)).length≤400:=by
  rw [List.length_map]; exact Nat.le_trans (List.length_filter_le _ _) (by simp; omega)
 rw [filt_take ht]
 unfold M.r31_Free_b1
 dsimp only
 rw [IsFree_ok h hn,bnd_pure,bO_at h.rise hm,hch.1.cf htm]
 by_cases hp:us c t.ID=1∧us c x.ID=0∧t.C.natAbs=1
 ·rw [if_pos (decide_eq_true hp),if_pos (decide_eq_true hp),app_at (by rw [List.length_append]; simp only [List.length_cons,List.length_nil]; omega),bnd_pure]
  exact ⟨_,rfl,by simp⟩
 ·rw [if_neg (by simpa using hp),if_neg (by simpa using hp)]
  exact ⟨_,rfl,by simp⟩
end
end Go.Z
end
section
namespace Go.Z
def colZ (c:List TCell) (a b:Int):List TFace:=pl [] (pl (bO c a) [⟨b,1⟩] (-(cf (bO c a) b))) (-(cf (bO c a) b))
def colC (c:List TCell) (a b:Int):List TCell:=c.filter fun x=>!decide (x.ID∈[a,b])
def colM (c:List TCell) (a b:Int):List TImage:=c.map (itf (mput (mput [] a []) b (colZ c a b)))
def col (c:List TCell) (a b:Int):List TCell×List TImage×Int:=
 if (fnd c a).2=true∧(fnd c b).2=true then (if (a,b)∈fre c then (colC c a b,colM c a b,0) else ([],[],310)) else ([],[],250)
section
variable {c:List TCell} {n:Nat} {a b:Int}
def FreeP (c:List TCell) (a b:Int):Prop:=us c b=1∧us c a=0∧(cf (bO c a) b).natAbs=1
theorem mem_fre (h:VC n c):(a,b)∈fre c↔a∈c.map TCell.ID∧FreeP c a b:=by
 unfold fre
 rw [List.mem_flatMap]
 constructor
 ·rintro ⟨x,hx,h1⟩
  unfold frx at h1
  split at h1
  ·cases h1
  ·obtain ⟨f,hf,e⟩:=List.mem_map.1 h1
   obtain ⟨hf1,hf2⟩:=List.mem_filter.1 hf
   obtain ⟨rfl,rfl⟩:=Prod.mk.inj e
   have h3:=of_decide_eq_true hf2
   refine ⟨mem_ids.2 ⟨x,hx,rfl⟩,h3.1,by omega,?_⟩
   rw [bO_at h.rise hx,(h.ch x hx).1.cf hf1]; exact h3.2
 ·rintro ⟨ha,h1,h2,h3⟩
  obtain ⟨x,hx,rfl⟩:=mem_ids.1 ha
  refine ⟨x,hx,?_⟩
  rw [bO_at h.rise hx] at h3
  obtain ⟨f,hf,e1,e2⟩:=cf_ne (l:=x.B) (c:=b) (by omega)
  unfold frx
  rw [if_neg (by omega)]
  exact List.mem_map.2 ⟨f,List.mem_filter.2 ⟨hf,decide_eq_true ⟨by rw [e1]; exact h1,by rw [e2]; exact h3⟩⟩,by rw [e1]⟩
theorem us_one (h1:us c b=1) {x y:TCell} (hx:x∈c) (hy:y∈c) (h2:cf x.B b≠0) (h3:cf y.B b≠0):x=y:=by
 unfold us at h1
 obtain ⟨z,hz⟩:=List.length_eq_one_iff.1 h1
 have e1:x∈c.filter fun x=>decide (cf x.B b≠0):=List.mem_filter.2 ⟨hx,decide_eq_true h2⟩
 have e2:y∈c.filter fun x=>decide (cf x.B b≠0):=List.mem_filter.2 ⟨hy,decide_eq_true h3⟩
 rw [hz] at e1 e2
 simp at e1 e2
 rw [e1,e2]
theorem collapse_ok (h:VC n c) (hn:3*n+20≤1000000) (hb:b∈c.map TCell.ID) (hab:a≠b):M.merge_collapse c a b=some (colC c a b,colM c a b):=by
 have hl:=h.len
 have hS:(c.map TCell.ID).length≤1000000:=by rw [List.length_map]; omega
 have hB:=h.chB a
 have hlB:=hB.len
 rw [List.length_map] at hlB
 have hk:=hB.2.1.cf b
 have hk':(-(cf (bO c a) b)).natAbs<2^n:=by rw [Int.natAbs_neg]; exact hk
 unfold M.merge_collapse
 rw [cFind_ok h.rise (by omega),bnd_pure,show M.merge_coefficient (fnd c a).1.B b=some (cf (bO c a) b) from coef_ok (l:=bO c a) hB.1 (by omega),bnd_pure,one_ok,bnd_pure,ineg_ok (ft_bits hk (by omega)),bnd_pure,
  show M.chains_Add (fnd c a).1.B [⟨b,1⟩] (-(cf (bO c a) b))=some (pl (bO c a) [⟨b,1⟩] (-(cf (bO c a) b))) from hB.chainsAdd (one_ch hb) hk' (by omega) hS,bnd_pure,bnd_pure,
  (Ch.nil (c.map TCell.ID) 0).chainsAdd (hB.pl (one_ch hb) hk') hk' (by omega) hS,bnd_pure,without_ok (by omega) (by simp),bnd_pure]
 unfold M.neq
 rw [if_neg hab,itself_ok (by omega),bnd_pure]
 rfl
theorem FreeP.ne (w:FreeP c a b):a≠b:=fun e=>by
 obtain ⟨h1,h2,_⟩:=w
 rw [e] at h2; omega
theorem FreeP.mem (h:VC n c) (w:FreeP c a b):b∈c.map TCell.ID:=cf_in (h.chB a).2.2 (c:=b) (by have:=w.2.2; omega)
theorem Collapse_ok (h:VC n c) (hn:3*n+20≤1000000):M.merge_Collapse c a b=some (col c a b):=by
 have hl:=h.len
 unfold M.merge_Collapse col
 have b1:∀ (i:Nat) (y x:Int) (v:List Int),v[i]?=some x→M.merge_Collapse_b1 c i y v=if (fnd c x).2=true then some (.inl v) else some (.inr ([],[],250)):=fun i y x v hx=>by
  unfold M.merge_Collapse_b1
  dsimp only
  rw [nth_at hx,cFind_ok h.rise (by omega),bnd_pure]
  by_cases e:(fnd c x).2=true
  ·rw [if_pos e,if_pos e]
  ·rw [if_neg e,if_neg e]; rfl
 unfold rngL
 rw [chk_at (by simp),forL,b1 0 a a [a,b] rfl]
 by_cases ha:(fnd c a).2=true
 ·rw [if_pos ha]
  dsimp only
  rw [forL,b1 (0+1) b b [a,b] rfl]
  by_cases hb:(fnd c b).2=true
  ·rw [if_pos hb,if_pos ⟨ha,hb⟩]
   dsimp only
   rw [forL]
   unfold M.merge_Collapse_k1
   dsimp only
   have hfl:(fre c).length≤1000000:=by
    have:=flatF_len h c.length
    rw [List.take_of_length_le (Nat.le_refl _)] at this
    unfold fre; omega
   rw [Free_ok h (by omega),bnd_pure,Contains2_ok hfl,bnd_pure]
   by_cases hf:(a,b)∈fre c
   ·have hfp:=(mem_fre h).1 hf
    rw [if_pos (decide_eq_true hf),if_pos hf,collapse_ok h hn ((fnd_in h).1 hb) hfp.2.ne,bnd_pure]
   ·rw [if_neg (by simpa using hf),if_neg hf]
  ·rw [if_neg hb,if_neg (fun e=>hb e.2)]
 ·rw [if_neg ha,if_neg (fun e=>ha e.1)]
theorem colC_mem {x:TCell}:x∈colC c a b↔x∈c∧x.ID≠a∧x.ID≠b:=by
 unfold colC; rw [List.mem_filter]; simp
theorem colC_ids {i:Int}:i∈(colC c a b).map TCell.ID↔i∈c.map TCell.ID∧i≠a∧i≠b:=by
 rw [mem_ids,mem_ids]
 constructor
 ·rintro ⟨y,hy,rfl⟩
  have:=colC_mem.1 hy
  exact ⟨⟨y,this.1,rfl⟩,this.2⟩
 ·rintro ⟨⟨x,hx,rfl⟩,h⟩
  exact ⟨x,colC_mem.2 ⟨hx,h⟩,rfl⟩
theorem colC_rise (h:VC n c):Rise TCell.ID (colC c a b):=h.rise.filter _
theorem colC_bO (h:VC n c) {i:Int} (ha:i≠a) (hb:i≠b):bO (colC c a b) i=bO c i:=by
 by_cases e:i∈c.map TCell.ID
 ·obtain ⟨x,hx,rfl⟩:=mem_ids.1 e
  rw [bO_at h.rise hx,bO_at (colC_rise h) (colC_mem.2 ⟨hx,ha,hb⟩)]
 ·unfold bO
  rw [fnd_no e,fnd_no (fun e2=>e (colC_ids.1 e2).1)]
theorem colC_lin (h:VC n c) {g:Int→Int} (h1:g a=0) (h2:g b=0) (i:Int):lin (colC c a b) g (fun j=>cf (bO (colC c a b) j) i)=lin c g (fun j=>cf (bO c j) i):=by
 rw [show lin (colC c a b) g (fun j=>cf (bO (colC c a b) j) i)=lin (colC c a b) g (fun j=>cf (bO c j) i) from lin_congr fun y hy=>by
  have:=colC_mem.1 hy
  rw [colC_bO h this.2.1 this.2.2]]
 unfold colC
 refine lin_filter _ fun y _ hp=>?_
 have:y.ID=a∨y.ID=b:=by
  have hp:¬ y.ID=a→y.ID=b:=by simpa using hp
  by_cases e:y.ID=a
  ·exact .inl e
  ·exact .inr (hp e)
 rcases this with e | e
 ·rw [e,h1,Int.zero_mul]
 ·rw [e,h2,Int.zero_mul]
theorem Collapse_law (h:VC n c) (ha:a∈c.map TCell.ID) (w:FreeP c a b) {k:Nat} (hk:Bn k (bO c a)):VC n (colC c a b)∧Com (k+6) c (colC c a b) (colM c a b):=by
 have hb:=w.mem h
 have hab:=w.ne
 obtain ⟨xa,hxa,rfl⟩:=mem_ids.1 ha
 obtain ⟨xb,hxb,rfl⟩:=mem_ids.1 hb
 obtain ⟨w1,w2,w3⟩:=w
 have hBa:=bO_at h.rise hxa
 have hBb:=bO_at h.rise hxb
 have za:∀ x∈c,cf x.B xa.ID=0:=us_zero.1 w2
 have zb:∀ x∈c,x.ID≠xa.ID→cf x.B xb.ID=0:=fun x hx hne=>Decidable.byContradiction fun e=>hne (by
  rw [us_one w1 hx hxa e (by rw [hBa] at w3; omega)])
 have hcha:=h.ch xa hxa
 have hdb:xb.Dim=xa.Dim-1:=by
  rw [hBa] at w3
  obtain ⟨f,hf,e,_⟩:=cf_ne (l:=xa.B) (c:=xb.ID) (by omega)
  exact h.fdim xa hxa f hf xb hxb e.symm
 have hZ1:Ch (c.map TCell.ID) (max k 2+1) (pl (bO c xa.ID) [⟨xb.ID,1⟩] (-(cf (bO c xa.ID) xb.ID))):=by
  have:=Ch.pl (k:=-(cf (bO c xa.ID) xb.ID)) (k':=1) (⟨(h.chB xa.ID).1,hk,(h.chB xa.ID).2.2⟩:Ch (c.map TCell.ID) k (bO c xa.ID)) (one_ch hb) (by rw [Int.natAbs_neg,w3]; decide)
  exact this
 have hZ:Ch (c.map TCell.ID) (k+6) (colZ c xa.ID xb.ID):=by
  have:=(Ch.nil (c.map TCell.ID) 0).pl hZ1 (k:=-(cf (bO c xa.ID) xb.ID)) (k':=1) (by rw [Int.natAbs_neg,w3]; decide)
  exact this.mono (by omega)
 have cfZ:∀ i,cf (colZ c xa.ID xb.ID) i=(if xb.ID=i then 1 else 0)-cf (bO c xa.ID) xb.ID*cf xa.B i:=fun i=>by
  have e1:=(Gd.pl (k:=-(cf (bO c xa.ID) xb.ID)) Gd.nil hZ1.1).2 i
  have e2:=(Gd.pl (k:=-(cf (bO c xa.ID) xb.ID)) (h.chB xa.ID).1 (Gd.one (i:=xb.ID) (c:=1) (by decide))).2 i
  unfold colZ
  rw [e1,e2,hBa,cf_one]
  rw [hBa] at w3
  have:cf xa.B xb.ID=1∨cf xa.B xb.ID=-1:=by omega
  rcases this with e | e<;>rw [e]<;>simp only [cf]<;>split<;>omega
 have Zb:cf (colZ c xa.ID xb.ID) xb.ID=0:=by
  rw [cfZ,if_pos rfl,hBa]
  rw [hBa] at w3
  have:cf xa.B xb.ID=1∨cf xa.B xb.ID=-1:=by omega
  rcases this with e | e<;>rw [e]<;>rfl
 have Za:cf (colZ c xa.ID xb.ID) xa.ID=0:=by
  rw [cfZ,if_neg (Ne.symm hab),za xa hxa]; simp
 have himg:∀ x∈c,im (colM c xa.ID xb.ID) x.ID=if x.ID=xb.ID then colZ c xa.ID xb.ID else if x.ID=xa.ID then [] else [⟨x.ID,1⟩]:=fun x hx=>by
  unfold colM
  rw [im_itf h.rise hx,mfind_mput]
  by_cases e:x.ID=xb.ID
  ·rw [if_pos e,if_pos e]; rfl
  ·rw [if_neg e,if_neg e]
   simp only [mput,mfind]
   split<;>rfl
 have hZd:Ch ((colC c xa.ID xb.ID).map TCell.ID) (k+6) (colZ c xa.ID xb.ID):=⟨hZ.1,hZ.2.1,fun f hf=>colC_ids.2 ⟨hZ.2.2 f hf,fun e=>by
  have:=hZ.1.ne hf
  rw [← hZ.1.cf hf,e,Za] at this; exact this rfl,fun e=>by
  have:=hZ.1.ne hf
  rw [← hZ.1.cf hf,e,Zb] at this; exact this rfl⟩⟩
 have fin:∀ x∈c,x.ID≠xa.ID→∀ f∈x.B,f.ID∈(colC c xa.ID xb.ID).map TCell.ID:=fun x hx hne f hf=>by
  have hch:=h.ch x hx
  refine colC_ids.2 ⟨hch.2.2 f hf,fun e=>?_,fun e=>?_⟩
  ·have:=hch.1.ne hf
   rw [← hch.1.cf hf,e,za x hx] at this; exact this rfl
  ·have:=hch.1.ne hf
   rw [← hch.1.cf hf,e,zb x hx hne] at this; exact this rfl
 constructor
 ·refine ⟨colC_rise h,Nat.le_trans (List.length_filter_le _ _) h.len,fun x hx=>?_,fun x hx=>h.dim x (colC_mem.1 hx).1,fun x hx f hf y hy e=>h.fdim x (colC_mem.1 hx).1 f hf y (colC_mem.1 hy).1 e,fun x hx i=>?_⟩
  ·obtain ⟨h1,h2,h3⟩:=colC_mem.1 hx
   exact ⟨(h.ch x h1).1,(h.ch x h1).2.1,fin x h1 h2⟩
  ·obtain ⟨h1,h2,h3⟩:=colC_mem.1 hx
   rw [colC_lin h (za x h1) (zb x h1 h2)]; exact h.bb x h1 i
 ·refine ⟨by unfold colM; rw [List.map_map]; rfl,fun t ht=>?_,fun x hx f hf y hy e=>?_,fun x hx i=>?_⟩
  ·obtain ⟨x,hx,rfl⟩:=List.mem_map.1 ht
   have e1:(itf (mput (mput [] xa.ID []) xb.ID (colZ c xa.ID xb.ID)) x).X=im (colM c xa.ID xb.ID) x.ID:=(im_itf h.rise hx).symm
   rw [e1,himg x hx]
   split
   ·exact hZd
   ·split
    ·exact Ch.nil _ _
    ·rename_i h1 h2
     exact (one_ch (colC_ids.2 ⟨mem_ids.2 ⟨x,hx,rfl⟩,h2,h1⟩)).mono (by omega)
  ·rw [himg x hx] at hf
   have hy':=(colC_mem.1 hy).1
   split at hf
   ·rename_i e1
    have h8:=fnd_at h.rise hx e1
    rw [fnd_at h.rise hxb rfl] at h8
    rw [← (Prod.mk.inj h8).1,hdb]
    have h2:=hZ.1.ne hf
    rw [← hZ.1.cf hf,cfZ,if_neg (fun e=>(colC_ids.1 (hZd.2.2 f hf)).2.2 e.symm)] at h2
    obtain ⟨g,hg,e3,_⟩:=cf_ne (l:=xa.B) (c:=f.ID) (fun e=>by rw [e] at h2; simp at h2)
    exact h.fdim xa hxa g hg y hy' (by omega)
   ·split at hf
    ·cases hf
    ·have hf:f=⟨x.ID,1⟩:=by simpa using hf
     rw [hf] at e
     have h8:=fnd_at h.rise hy' (i:=x.ID) e
     rw [fnd_at h.rise hx rfl] at h8
     rw [(Prod.mk.inj h8).1]
  ·have hchx:=h.ch x hx
   have hR:lin c (cf x.B) (fun j=>cf (im (colM c xa.ID xb.ID) j) i)=cf x.B i+cf x.B xb.ID*(cf (colZ c xa.ID xb.ID) i-if xb.ID=i then 1 else 0):=by
    rw [lin_congr (g':=cf x.B) (F':=fun j=>(if j=i then 1 else 0)+(if j=xb.ID then (cf (colZ c xa.ID xb.ID) i-if xb.ID=i then 1 else 0) else 0)) (fun y hy=>?_),lin_addF,lin_delC h.rise hchx.2.2,lin_del h.rise hb]
    by_cases e:y.ID=xb.ID
    ·congr 1
     rw [himg y hy,if_pos e,if_pos e,e]; omega
    ·by_cases e2:y.ID=xa.ID
     ·rw [e2,za x hx]; simp
     ·congr 1
      rw [himg y hy,if_neg e,if_neg e2,if_neg e,cf_one]; omega
   rw [hR,himg x hx]
   by_cases e:x.ID=xb.ID
   ·rw [if_pos e,colC_lin h Za Zb,zb x hx (by rw [e]; exact Ne.symm hab),Int.zero_mul,Int.add_zero]
    have h8:=fnd_at h.rise hx e
    rw [fnd_at h.rise hxb rfl] at h8
    rw [← (Prod.mk.inj h8).1]
    rw [show cf (colZ c xa.ID xb.ID)=fun j=>(if xb.ID=j then 1 else 0)+(-(cf (bO c xa.ID) xb.ID))*cf xa.B j from funext fun j=>by rw [cfZ,Int.neg_mul]; rfl,lin_addG,lin_mulG,lin_one h.rise hb,h.bb xa hxa,hBb]; simp
   ·rw [if_neg e]
    by_cases e2:x.ID=xa.ID
    ·have h8:=fnd_at h.rise hx e2
     rw [fnd_at h.rise hxa rfl] at h8
     rw [if_pos e2,← (Prod.mk.inj h8).1,cfZ,lin_zero (fun y _=>by simp [cf]),hBa]
     rw [hBa] at w3
     have:cf xa.B xb.ID=1∨cf xa.B xb.ID=-1:=by omega
     rcases this with e | e<;>rw [e]<;>omega
    ·rw [if_neg e2,zb x hx e2,Int.zero_mul,Int.add_zero,show cf [⟨x.ID,1⟩]=fun j=>if x.ID=j then 1 else 0 from funext fun j=>cf_one _ j,lin_one (colC_rise h) (colC_ids.2 ⟨mem_ids.2 ⟨x,hx,rfl⟩,e2,e⟩),colC_bO h e2 e,bO_at h.rise hx]; omega
end
end Go.Z
end
section
namespace Go.Z
def cmp (m m2:List TImage):List TImage:=m.map fun t=>⟨t.ID,fl (im m2) t.X⟩
theorem im_cmp (m m2:List TImage) (i:Int):im (cmp m m2) i=fl (im m2) (im m i):=by
 unfold im cmp
 rw [List.find?_map]
 rw [show ((fun t:TImage=>decide (t.ID=i)) ∘ fun t:TImage=>(⟨t.ID,fl (im m2) t.X⟩:TImage))=fun t:TImage=>decide (t.ID=i) from rfl]
 cases m.find? (fun t=>decide (t.ID=i))<;>rfl
section
variable {c d e:List TCell} {m m2:List TImage} {n p q B:Nat}
theorem lin_ne {c:List TCell} {g F:Int→Int} (h:lin c g F≠0):∃ y∈c,g y.ID≠0∧F y.ID≠0:=by
 refine Decidable.byContradiction fun hn=>h (lin_zero fun y hy=>?_)
 by_cases e1:g y.ID=0
 ·rw [e1,Int.zero_mul]
 ·by_cases e2:F y.ID=0
  ·rw [e2,Int.mul_zero]
  ·exact absurd ⟨y,hy,e1,e2⟩ hn
theorem Com.comp (w:Com n c d m) (w2:Com p d e m2) {a b:Nat} (h:VC a c) (h2:VC b d) (hl:d.length≤q):Com (n+p+q) c e (cmp m m2):=by
 have hX:∀ i,Ch (d.map TCell.ID) n (im m i):=fun i=>w.chI h i
 have hfl:∀ i,Gd (fl (im m2) (im m i))∧∀ j,cf (fl (im m2) (im m i)) j=lin d (cf (im m i)) (fun k=>cf (im m2 k) j):=fun i=>w2.cf_fl h2 (hX i).1 (hX i).2.2
 refine ⟨by unfold cmp; rw [List.map_map]; exact w.ids,fun t ht=>?_,fun x hx f hf y hy e1=>?_,fun x hx i=>?_⟩
 ·obtain ⟨t,ht0,rfl⟩:=List.mem_map.1 ht
  have h1:=w.ch t ht0
  have:=fl_ch (T:=e.map TCell.ID) (m:=p) (k':=n) (B:=im m2) (x:=t.X) (fun u _=>w2.chI h2 u.ID) h1.2.1
  have hlen:=h1.len
  rw [List.length_map] at hlen
  exact this.mono (by omega)
 ·rw [im_cmp] at hf
  have h1:=hfl x.ID
  have h3:=h1.1.ne hf
  rw [← h1.1.cf hf,h1.2] at h3
  obtain ⟨z,hz,h4,h5⟩:=lin_ne h3
  obtain ⟨f1,hf1,e2,_⟩:=cf_ne h4
  obtain ⟨f2,hf2,e3,_⟩:=cf_ne h5
  have h6:=w.dim x hx f1 hf1 z hz e2.symm
  have h7:=w2.dim z hz f2 hf2 y hy (by omega)
  omega
 ·rw [im_cmp,show cf (fl (im m2) (im m x.ID))=fun j=>lin d (cf (im m x.ID)) (fun k=>cf (im m2 k) j) from funext (hfl x.ID).2,← lin_swap (c:=d) (d:=e) (A:=fun k j=>cf (im m2 k) j)]
  rw [lin_congr (g':=cf (im m x.ID)) (F':=fun k=>lin d (cf (bO d k)) (fun j=>cf (im m2 j) i)) fun y hy=>by rw [w2.com y hy i,bO_at h2.rise hy],lin_swap (c:=d) (d:=d) (A:=fun k j=>cf (bO d k) j)]
  rw [lin_congr (g':=fun j=>lin c (cf x.B) (fun k=>cf (im m k) j)) (F':=fun j=>cf (im m2 j) i) fun y _=>by rw [w.com x hx],← lin_swap (c:=c) (d:=d) (A:=fun k j=>cf (im m k) j)]
  exact lin_congr fun y _=>by rw [im_cmp,(hfl y.ID).2]
theorem Com.refl (h:VC n c):Com 1 c c (c.map (itf [])):=by
 have himg:∀ x∈c,im (c.map (itf [])) x.ID=[⟨x.ID,1⟩]:=fun x hx=>by rw [im_itf h.rise hx]; rfl
 refine ⟨by rw [List.map_map]; rfl,fun t ht=>?_,fun x hx f hf y hy e=>?_,fun x hx i=>?_⟩
 ·obtain ⟨x,hx,rfl⟩:=List.mem_map.1 ht
  exact one_ch (mem_ids.2 ⟨x,hx,rfl⟩)
 ·rw [himg x hx] at hf
  have hf:f=⟨x.ID,1⟩:=by simpa using hf
  rw [hf] at e
  have h8:=fnd_at h.rise hy (i:=x.ID) e
  rw [fnd_at h.rise hx rfl] at h8
  rw [(Prod.mk.inj h8).1]
 ·rw [himg x hx,show cf [⟨x.ID,1⟩]=fun j=>if x.ID=j then 1 else 0 from funext fun j=>cf_one _ j,lin_one h.rise (mem_ids.2 ⟨x,hx,rfl⟩),bO_at h.rise hx]
  rw [lin_congr (g':=cf x.B) (F':=fun j=>if j=i then 1 else 0) fun y hy=>by rw [himg y hy,cf_one],lin_delC h.rise (h.ch x hx).2.2]; omega
def shr (c:List TCell) (m:List TImage):Nat→List TCell×List TImage
 | 0=>(c,m)
 | k+1=>match fre c with
  | []=>(c,m)
  | p::_=>shr (colC c p.1 p.2) (cmp m (colM c p.1 p.2)) k
structure SI (n:Nat) (c d:List TCell) (m:List TImage) (B:Nat):Prop where
 vc:VC n d
 com:Com B c d m
 w:B+wt d+50*d.length≤320000
 len:d.length≤30
theorem wt_filter {p:TCell→Bool} {x:TCell} (hx:x∈c) (hp:p x=false):wt (c.filter p)+bw x≤wt c:=by
 have hle:∀ c:List TCell,wt (c.filter p)≤wt c:=by
  intro c
  induction c with
  | nil=>exact Nat.le_refl _
  | cons y c ih=>
   unfold wt at ih ⊢
   rw [List.filter_cons]
   split
   ·simp; omega
   ·simp; omega
 induction c with
 | nil=>cases hx
 | cons y c ih=>
  rcases List.mem_cons.1 hx with rfl | hx
  ·have:=hle c
   rw [List.filter_cons_of_neg (by rw [hp]; decide)]
   unfold wt at this ⊢; simp; omega
  ·have:=ih hx
   unfold wt at this ⊢
   rw [List.filter_cons]
   split
   ·simp; omega
   ·simp; omega
theorem SI.step (h:VC n c) (w:SI n c d m B) {a b:Int} (hf:(a,b)∈fre d):∃ B',SI n c (colC d a b) (cmp m (colM d a b)) B'∧(colC d a b).length<d.length:=by
 have hfp:=(mem_fre w.vc).1 hf
 obtain ⟨xa,hxa,rfl⟩:=mem_ids.1 hfp.1
 have hlaw:=Collapse_law (k:=bw xa) w.vc hfp.1 hfp.2 (by rw [bO_at w.vc.rise hxa]; exact bw_Bn xa)
 have hwt:=wt_filter (p:=fun x=>!decide (x.ID∈[xa.ID,b])) hxa (by simp)
 have hlen:(colC d xa.ID b).length<d.length:=by
  unfold colC
  refine Nat.lt_of_le_of_ne (List.length_filter_le _ _) fun e=>?_
  have:=(List.length_filter_eq_length_iff.1 e) xa hxa
  simp at this
 have:=w.w
 have:=w.len
 refine ⟨B+(bw xa+6)+30,⟨hlaw.1,w.com.comp hlaw.2 h w.vc (by omega),?_,by omega⟩,hlen⟩
 show B+(bw xa+6)+30+wt (d.filter fun x=>!decide (x.ID∈[xa.ID,b]))+50*(colC d xa.ID b).length≤320000
 omega
theorem shr_end:∀ (k:Nat) (d:List TCell) (m:List TImage) (B:Nat),VC n c→SI n c d m B→d.length≤k→∃ B',SI n c (shr d m k).1 (shr d m k).2 B'∧fre (shr d m k).1=[]
 | 0,d,m,B,h,w,hk=>by
  have:d=[]:=List.length_eq_zero_iff.1 (by omega)
  subst this
  exact ⟨B,w,rfl⟩
 | k+1,d,m,B,h,w,hk=>by
  unfold shr
  cases hf:fre d with
  | nil=>exact ⟨B,w,hf⟩
  | cons p l=>
   obtain ⟨B',w',hl⟩:=w.step h (a:=p.1) (b:=p.2) (by rw [hf]; simp)
   exact shr_end k _ _ B' h w' (by omega)
theorem SI.init (h:VC n c) (hw:wt c≤310030) (hl:c.length≤30):SI n c c (c.map (itf [])) 1:=⟨h,Com.refl h,by omega,hl⟩
theorem SI.app (h:VC n c) (hn:n≤160000) (w:SI n c d m B) {a b:Int} (hf:(a,b)∈fre d) {t:TImage} (ht:t∈m):M.merge_apply (colM d a b) t.X=some (fl (im (colM d a b)) t.X)∧M.r31_Apply (colM d a b) t.X=some (fl (im (colM d a b)) t.X):=by
 have hfp:=(mem_fre w.vc).1 hf
 obtain ⟨xa,hxa,rfl⟩:=mem_ids.1 hfp.1
 have hlaw:=Collapse_law (k:=n) w.vc hfp.1 hfp.2 (w.vc.chB _).2.1
 have hX:=w.com.ch t ht
 have hXl:=hX.len
 rw [List.length_map] at hXl
 have h1:=w.w
 have h2:=w.len
 have hml:(colM d xa.ID b).length=d.length:=by unfold colM; simp
 have hT:((colC d xa.ID b).map TCell.ID).length≤1000000:=by rw [List.length_map]; have:=hlaw.1.len; omega
 refine ⟨apply_ok (T:=(colC d xa.ID b).map TCell.ID) (q:=n+6) (k':=B) (hlaw.2.rise w.vc) (by omega) (fun u _=>hlaw.2.chI w.vc u.ID) hX.2.1 (by omega) (by omega) hT (fun u hu=>?_),Apply_ok (T:=(colC d xa.ID b).map TCell.ID) (q:=n+6) (k':=B) (hlaw.2.rise w.vc) (by omega) (fun u _=>hlaw.2.chI w.vc u.ID) hX.2.1 (by omega) (by omega) hT⟩
 rw [hlaw.2.ids]; exact hX.2.2 u hu
theorem shr_round (h:VC n c) (w:SI n c d m B) {k:Nat} {r:List TCell×List TImage} (hk:d.length≤k) (hr:shr d m k=r) {a b:Int} {l:List (Int×Int)} (hf:fre d=(a,b)::l):∃ k',shr (colC d a b) (cmp m (colM d a b)) k'=r∧(colC d a b).length≤k':=by
 obtain ⟨B',w',hl⟩:=w.step h (a:=a) (b:=b) (by rw [hf]; simp)
 cases k with
 | zero=>omega
 | succ k=>
  unfold shr at hr
  rw [hf] at hr
  exact ⟨k,hr,by omega⟩
theorem Shrink_ok (h:VC n c) (hn:n≤160000) (hw:wt c≤310030) (hl:c.length≤30):M.merge_Shrink c=some (shr c (c.map (itf [])) 30):=by
 unfold M.merge_Shrink
 rw [itself_ok (by omega),bnd_pure,Free_ok h (by omega),bnd_pure]
 refine loop_eq (fun s=>∃ d m B k,s=(d,m,fre d)∧SI n c d m B∧d.length≤k∧shr d m k=shr c (c.map (itf [])) 30) (fun s=>s.1.length) _ ⟨c,c.map (itf []),1,30,rfl,SI.init h hw hl,hl,rfl⟩ (by show c.length<_; omega) ?_
 rintro _ ⟨d,m,B,k,rfl,w,hk,hr⟩
 unfold M.merge_Shrink_b2
 dsimp only
 cases hf:fre d with
 | nil=>
  refine .inr ?_
  rw [if_neg (by simp)]
  have:shr d m k=(d,m):=by
   cases k with
   | zero=>rfl
   | succ k=>unfold shr; rw [hf]
  rw [← hr,this]; rfl
 | cons p l=>
  obtain ⟨a,b⟩:=p
  have hmem:(a,b)∈fre d:=by rw [hf]; simp
  have hfp:=(mem_fre w.vc).1 hmem
  obtain ⟨B',w',hlt⟩:=w.step h hmem
  obtain ⟨k',h1,h2⟩:=shr_round h w hk hr hf
  refine .inl ⟨(colC d a b,cmp m (colM d a b),fre (colC d a b)),?_,⟨_,_,B',k',rfl,w',h2,h1⟩,hlt⟩
  rw [if_pos (by simp only [List.length_cons]; omega)]
  show nth ((a,b)::l) ((0:Nat):Int) _=_
  rw [nth_at (a:=(a,b)) rfl]
  dsimp only
  rw [collapse_ok w.vc (by omega) (hfp.2.mem w.vc) hfp.2.ne,bnd_pure]
  have hmlen:=w.com.len
  have hcl:=h.len
  rw [rng_mp (fun t:TImage=>(⟨t.ID,fl (im (colM d a b)) t.X⟩:TImage)) (by omega) rfl fun i t ht=>?_]
  ·unfold M.merge_Shrink_k1
   dsimp only
   rw [Free_ok w'.vc (by omega),bnd_pure]; rfl
  ·unfold M.merge_Shrink_b1
   dsimp only
   rw [nth_at (mp_get rfl ht),(w.app h hn hmem (List.mem_of_getElem? ht)).1,bnd_pure]
end
end Go.Z
end
section
namespace Go.Z
def ins (x:TCell):List TCell→List TCell
 | []=>[x]
 | y::l=>if y.ID<x.ID then y::ins x l else x::y::l
def pos (B:List TFace):List TFace:=B.filter fun f=>!decide (f.C<0)
def subB (c:List TCell) (e p:Int):List TFace:=pl (pl (bO c e) (pos (bO c e)) (-1)) [⟨p,1⟩] 1
def subF (c:List TCell) (e p h:Int) (x:TCell):TCell:=if x.ID=e then ⟨x.ID,x.Dim,subB c e p⟩ else rpl e [⟨h,1⟩] x
def subC (c:List TCell) (e p h:Int):List TCell:=ins ⟨h,1,pl (pos (bO c e)) [⟨p,1⟩] (-1)⟩ (ins ⟨p,0,[]⟩ (c.map (subF c e p h)))
def subM (c:List TCell) (e h:Int):List TImage:=c.map (itf (mput [] e (pl [⟨e,1⟩] [⟨h,1⟩] 1)))
def sub (c:List TCell) (e p h:Int):List TCell×List TImage×Int:=
 if (fnd c e).2=true then (if (fnd c e).1.Dim=1 then (if (fnd c p).2=true∨(fnd c h).2=true∨p=h then ([],[],253) else if 398<c.length then ([],[],2) else (subC c e p h,subM c e h,0)) else ([],[],260)) else ([],[],250)
theorem ins_perm (x:TCell) (l:List TCell):(ins x l).Perm (x::l):=by
 induction l with
 | nil=>exact List.Perm.refl _
 | cons y l ih=>
  unfold ins
  split
  ·exact (ih.cons y).trans (List.Perm.swap x y l)
  ·exact List.Perm.refl _
theorem ins_rise {x:TCell} {l:List TCell} (h:Rise TCell.ID l) (hx:∀ y∈l,y.ID≠x.ID):Rise TCell.ID (ins x l):=by
 induction l with
 | nil=>exact List.pairwise_singleton _ _
 | cons y l ih=>
  rw [Rise,List.pairwise_cons] at h
  unfold ins
  split
  ·rename_i hlt
   refine List.Pairwise.cons (fun z hz=>?_) (ih h.2 fun z hz=>hx z (by simp [hz]))
   rcases List.mem_cons.1 ((ins_perm x l).mem_iff.1 hz) with rfl | hz
   ·exact hlt
   ·exact h.1 z hz
  ·rename_i hlt
   have:=hx y (by simp)
   refine List.Pairwise.cons (fun z hz=>?_) (List.Pairwise.cons h.1 h.2)
   rcases List.mem_cons.1 hz with rfl | hz
   ·omega
   ·have:=h.1 z hz; omega
theorem rise_uniq {l m:List TCell} (hp:l.Perm m) (h1:Rise TCell.ID l) (h2:Rise TCell.ID m):l=m:=by
 induction l generalizing m with
 | nil=>exact (List.nil_perm.1 hp).symm
 | cons x l ih=>
  cases m with
  | nil=>exact absurd hp.symm (by simp)
  | cons y m=>
   rw [Rise,List.pairwise_cons] at h1 h2
   have e:x=y:=by
    have hx:=hp.mem_iff.1 (List.mem_cons_self (a:=x) (l:=l))
    have hy:=hp.mem_iff.2 (List.mem_cons_self (a:=y) (l:=m))
    rcases List.mem_cons.1 hx with h | h
    ·exact h
    ·rcases List.mem_cons.1 hy with h' | h'
     ·exact h'.symm
     ·have a1:=h2.1 x h
      have a2:=h1.1 y h'
      omega
   subst e
   rw [ih (List.perm_cons x |>.1 hp) h1.2 h2.2]
theorem sortC_ok {l:List TCell} {d:List TCell} (h0:0<l.length) (hl:l.length≤1000000) (hp:d.Perm l) (hr:Rise TCell.ID d):M.sortC l=some d:=by
 have hnd:(d.map TCell.ID).Nodup:=(List.pairwise_map.2 hr:(d.map TCell.ID).Pairwise (· < ·)).imp fun {a b} h=>by omega
 have hnl:(l.map TCell.ID).Nodup:=(hp.map TCell.ID).nodup_iff.1 hnd
 unfold M.sortC
 rw [if_pos ⟨h0,hl,hnl⟩]
 congr 1
 have hs:(l.mergeSort fun x y=>decide (x.ID≤y.ID)).Pairwise (fun a b=>decide (a.ID≤b.ID)=true):=List.pairwise_mergeSort (by intro a b c; simp; omega) (by intro a b; simp; omega) l
 have hpm:=List.mergeSort_perm l fun x y=>decide (x.ID≤y.ID)
 refine rise_uniq (hpm.trans hp.symm) ?_ hr
 have hn2:((l.mergeSort fun x y=>decide (x.ID≤y.ID)).map TCell.ID).Pairwise (·≠·):=(hpm.map TCell.ID).nodup_iff.2 hnl
 have hn3:=List.pairwise_map.1 hn2
 refine (hs.and hn3).imp fun {a b} h=>?_
 have h1:=of_decide_eq_true h.1
 have h2:=h.2
 omega
section
variable {c:List TCell} {n:Nat} {e p h:Int}
theorem pos_so {l:List TFace}:∀ {x:Int},so x l→so x (pos l):=by
 induction l with
 | nil=>intro x s; exact s
 | cons t l ih=>
  intro x s
  unfold pos
  rw [List.filter_cons]
  split
  ·exact ⟨s.1,s.2.1,ih s.2.2⟩
  ·exact so_mono (by have:=s.1; omega) (ih s.2.2)
theorem pos_ch {S:List Int} {l:List TFace} (w:Ch S n l):Ch S n (pos l):=by
 obtain ⟨z,s⟩:=w.1
 exact ⟨⟨z,pos_so s⟩,fun f hf=>w.2.1 f (List.mem_filter.1 hf).1,fun f hf=>w.2.2 f (List.mem_filter.1 hf).1⟩
theorem subF_id (x:TCell):(subF c e p h x).ID=x.ID:=by
 unfold subF; split
 ·rfl
 ·exact rpl_id _ _
theorem ids_map:(c.map (subF c e p h)).map TCell.ID=c.map TCell.ID:=by
 rw [List.map_map]; exact List.map_congr_left fun x _=>subF_id x
theorem subC_perm:(subC c e p h).Perm (c.map (subF c e p h)++[⟨p,0,[]⟩,⟨h,1,pl (pos (bO c e)) [⟨p,1⟩] (-1)⟩]):=by
 unfold subC
 refine (ins_perm _ _).trans (((ins_perm _ _).cons _).trans ?_)
 refine (List.Perm.swap _ _ _).trans ?_
 exact List.perm_append_comm (l₁:=[(⟨p,0,[]⟩:TCell),⟨h,1,pl (pos (bO c e)) [⟨p,1⟩] (-1)⟩]) (l₂:=c.map (subF c e p h))
theorem subC_rise (w:VC n c) (h1:¬ p∈c.map TCell.ID) (h2:¬ h∈c.map TCell.ID) (h3:p≠h):Rise TCell.ID (subC c e p h):=by
 have hr:Rise TCell.ID (c.map (subF c e p h)):=map_rise (fun x=>subF_id x) w.rise
 have hm:∀ y∈c.map (subF c e p h),y.ID∈c.map TCell.ID:=fun y hy=>by rw [← ids_map (c:=c) (e:=e) (p:=p) (h:=h)]; exact mem_ids.2 ⟨y,hy,rfl⟩
 refine ins_rise (ins_rise hr fun y hy e=>h1 (by rw [← show y.ID=p from e]; exact hm y hy)) fun y hy e=>?_
 rcases List.mem_cons.1 ((ins_perm _ _).mem_iff.1 hy) with rfl | hy
 ·exact h3 e
 ·exact h2 (by rw [← show y.ID=h from e]; exact hm y hy)
theorem Subdivide_ok (w:VC n c) (hn:n+100≤1000000):M.merge_Subdivide c e (p,h)=some (sub c e p h):=by
 have hl:=w.len
 have hS:(p::h::c.map TCell.ID).length≤1000000:=by simp; omega
 have sS:∀ x∈c.map TCell.ID,x∈p::h::c.map TCell.ID:=fun x hx=>by simp only [List.mem_cons]; exact .inr (.inr hx)
 have pS:p∈p::h::c.map TCell.ID:=by simp
 have hhS:h∈p::h::c.map TCell.ID:=by simp
 unfold M.merge_Subdivide sub
 dsimp only
 rw [cFind_ok w.rise (by omega),bnd_pure,cFind_ok w.rise (by omega),bnd_pure,cFind_ok w.rise (by omega),bnd_pure]
 by_cases he:(fnd c e).2=true
 ·rw [if_pos he,if_pos he]
  by_cases hd:(fnd c e).1.Dim=1
  ·rw [if_pos hd,if_pos hd]
   have j2t:M.merge_Subdivide_j2 c e (p,h) (fnd c e) true=some ([],[],253):=by
    unfold M.merge_Subdivide_j2; rw [if_pos rfl]
   by_cases hp:(fnd c p).2=true
   ·rw [if_pos hp,if_pos (.inl hp),j2t]
   ·rw [if_neg hp]
    by_cases hh:(fnd c h).2=true
    ·rw [if_pos hh,if_pos (.inr (.inl hh)),j2t]
    ·rw [if_neg hh]
     by_cases hph:p=h
     ·rw [decide_eq_true hph,if_pos (.inr (.inr hph)),j2t]
     ·rw [decide_eq_false hph,if_neg (by simp [hp,hh,hph])]
      unfold M.merge_Subdivide_j2
      rw [if_neg (by decide)]
      by_cases h398:398<c.length
      ·rw [if_pos (by omega),if_pos h398]
      ·rw [if_neg (by omega),if_neg h398]
       dsimp only
       have heS:=sS e ((fnd_in w).1 he)
       have hB:=(w.chB e).sub sS
       have hlB:=(w.chB e).len
       rw [List.length_map] at hlB
       have hP:=pos_ch hB
       have h1:=hB.pl hP (k:=-1) (k':=1) (by decide)
       have hdel:M.slices_DeleteFunc_Chain_Face (fnd c e).1.B M.merge_Subdivide_1=some (pos (bO c e)):=by
        rw [show M.slices_DeleteFunc_Chain_Face (fnd c e).1.B M.merge_Subdivide_1=dFn (bO c e) M.merge_Subdivide_1 from rfl,
         dF_ok (fun f:TFace=>decide (f.C<0)) (fun f hf=>by
          unfold M.merge_Subdivide_1
          rw [isign_ok (hB.ft (by omega) f hf),bnd_pure]
          congr 1
          rw [decide_eq_decide]
          exact Int.sign_neg_iff) (by omega)]
        rfl
       rw [one_ok,bnd_pure,iof_ok (by decide),bnd_pure,show M.clone (fnd c e).1.B=some (fnd c e).1.B from clone_ok (l:=bO c e) (by omega),bnd_pure,hdel,bnd_pure,one_ok,bnd_pure,
        replace_ok (S:=p::h::c.map TCell.ID) (n:=n) (m:=1) (fun x hx=>(w.ch x hx).sub sS) (one_ch hhS) hS (by omega) (by omega) (by omega),bnd_pure]
       have hloop:rngL (M.merge_Subdivide_b1 e (fnd c e) [⟨p,1⟩] (-1)) (M.merge_Subdivide_k1 c e (p,h) [⟨p,1⟩] (-1)) (c.map (rpl e [⟨h,1⟩])) (pos (bO c e),c.map (rpl e [⟨h,1⟩]))=M.merge_Subdivide_k1 c e (p,h) [⟨p,1⟩] (-1) (pos (bO c e),c.map (subF c e p h)):=by
        have key:∀ k i,i+k=(c.map (rpl e [⟨h,1⟩])).length→forL (M.merge_Subdivide_b1 e (fnd c e) [⟨p,1⟩] (-1)) (M.merge_Subdivide_k1 c e (p,h) [⟨p,1⟩] (-1)) ((c.map (rpl e [⟨h,1⟩])).drop i) i (pos (bO c e),mp (subF c e p h) c (c.map (rpl e [⟨h,1⟩])) i)=M.merge_Subdivide_k1 c e (p,h) [⟨p,1⟩] (-1) (pos (bO c e),c.map (subF c e p h)):=by
         intro k
         induction k with
         | zero=>
          intro i hi
          rw [List.length_map] at hi
          have:i=c.length:=by omega
          subst this
          rw [List.drop_eq_nil_of_le (by rw [List.length_map]; omega),forL,mp_all (by simp)]
         | succ k ih=>
          intro i hi
          rw [List.length_map] at hi
          obtain ⟨x,hx⟩:=lt_get (l:=c) (i:=i) (by omega)
          have hxr:(c.map (rpl e [⟨h,1⟩]))[i]?=some (rpl e [⟨h,1⟩] x):=by rw [List.getElem?_map,hx]; rfl
          have hg:=mp_get (f:=subF c e p h) (l:=c) (by simp) hxr
          have hb:M.merge_Subdivide_b1 e (fnd c e) [⟨p,1⟩] (-1) i (rpl e [⟨h,1⟩] x) (pos (bO c e),mp (subF c e p h) c (c.map (rpl e [⟨h,1⟩])) i)=some (.inl (pos (bO c e),mp (subF c e p h) c (c.map (rpl e [⟨h,1⟩])) (i+1))):=by
           unfold M.merge_Subdivide_b1
           dsimp only
           rw [nth_at hg,rpl_id]
           by_cases hxe:x.ID=e
           ·rw [if_pos hxe,show M.chains_Add (fnd c e).1.B (pos (bO c e)) (-1)=some (pl (bO c e) (pos (bO c e)) (-1)) from hB.chainsAdd hP (k':=1) (by decide) (by omega) hS,bnd_pure,iof_ok (by decide),bnd_pure,
             h1.chainsAdd (one_ch pS) (k:=1) (k':=1) (by decide) (by omega) hS,bnd_pure,← mp_set (by simp) hx,rpl_dim]
            unfold subF
            rw [if_pos hxe]; rfl
           ·rw [if_neg hxe,← mp_same2 hx (by rw [hxr]; unfold subF; rw [if_neg hxe])]
          rw [drop_cons hxr,forL,hb]
          exact ih (i+1) (by rw [List.length_map]; omega)
        have:=key (c.map (rpl e [⟨h,1⟩])).length 0 (by omega)
        rw [List.drop_zero,mp_zero] at this
        unfold rngL
        rw [chk_at (by rw [List.length_map]; omega),this]
       rw [hloop]
       have hpn:¬ p∈c.map TCell.ID:=fun e2=>hp ((fnd_in w).2 e2)
       have hhn:¬ h∈c.map TCell.ID:=fun e2=>hh ((fnd_in w).2 e2)
       unfold M.merge_Subdivide_k1
       dsimp only
       rw [hP.chainsAdd (one_ch pS) (k:=-1) (k':=1) (by decide) (by omega) hS,bnd_pure,app_at (by simp; omega),bnd_pure,
        sortC_ok (by simp) (by simp; omega) (subC_perm (c:=c) (e:=e) (p:=p) (h:=h)) (subC_rise w hpn hhn hph),bnd_pure,one_ok,bnd_pure,one_ok,bnd_pure,iof_ok (by decide),bnd_pure,
        (one_ch heS).chainsAdd (one_ch hhS) (k:=1) (k':=1) (by decide) (by decide) hS,bnd_pure,itself_ok (by omega),bnd_pure]
       rfl
  ·rw [if_neg hd,if_neg hd]
 ·rw [if_neg he,if_neg he]
end
end Go.Z
end
section
namespace Go.Z
def kSan:List TCell:=[⟨1,0,[]⟩,⟨3,1,[]⟩,⟨4,1,[]⟩,⟨5,2,[⟨3,1⟩,⟨4,-1⟩]⟩]
def kT:List TCell:=[⟨1,0,[]⟩,⟨2,1,[⟨1,2⟩]⟩]
def kG:List TCell:=[⟨1,0,[]⟩,⟨2,0,[]⟩,⟨3,1,[⟨1,-1⟩,⟨2,1⟩]⟩]
theorem kS_VC:VC 160000 kSan:=(VCs.inv (c:=kSan) (st:=([1,2,1,0],[1,1,3,1])) (by decide +kernel)).vc
theorem kT_VC:VC 160000 kT:=(VCs.inv (c:=kT) (st:=([1,1,0,0],[1,2,3,1])) (by decide +kernel)).vc
theorem kG_VC:VC 160000 kG:=(VCs.inv (c:=kG) (st:=([2,1,0,0],[1,1,3,1])) (by decide +kernel)).vc
theorem kG_wt:wt kG≤310030:=by decide +kernel
theorem seg_ok:M.l31_segment=some kG:=by kernel_rfl
theorem j1_ok:M.l31_sanity_j1 true true true=some true:=by
 unfold M.l31_sanity_j1
 rw [seg_ok,bnd_pure,Shrink_ok kG_VC (by omega) kG_wt (by decide),bnd_pure]
 kernel_rfl
theorem sanity_ok:M.l31_sanity=some true:=by
 unfold M.l31_sanity
 rw [show M.r25_Point 1=some ⟨1,0,[]⟩ from rfl,bnd_pure,show M.r25_Sum [3,1,4,-1]=some [⟨3,1⟩,⟨4,-1⟩] from by kernel_rfl,bnd_pure,
  show ([⟨1,0,[]⟩,TCell.mk 3 1 [],TCell.mk 4 1 [],TCell.mk 5 2 [⟨3,1⟩,⟨4,-1⟩]]:List TCell)=kSan from rfl,
  Identify_ok kS_VC (by omega),bnd_pure,seg_ok,bnd_pure,Collapse_ok kG_VC (by omega),bnd_pure,bnd_pure,show M.r25_Sum [1,2]=some [⟨1,2⟩] from by kernel_rfl,bnd_pure,
  show ([⟨1,0,[]⟩,TCell.mk 2 1 [⟨1,2⟩]]:List TCell)=kT from rfl,Collapse_ok kT_VC (by omega),bnd_pure,bnd_pure,Subdivide_ok kG_VC (by omega),bnd_pure,
  Identify_ok kS_VC (by omega),bnd_pure,Identify_ok kS_VC (by omega),bnd_pure,Identify_ok kS_VC (by omega),bnd_pure,bnd_pure,Subdivide_ok kG_VC (by omega),bnd_pure,bnd_pure,Subdivide_ok kG_VC (by omega),bnd_pure,bnd_pure,Collapse_ok kG_VC (by omega),bnd_pure,bnd_pure,Free_ok kG_VC (by omega),bnd_pure]
 refine Eq.trans ?_ j1_ok
 kernel_rfl
end Go.Z
end
section
namespace Go.Z
section
variable {c:List TCell} {n:Nat} {e p h:Int}
end
end Go.Z
end
section
namespace Go.Z
theorem lin_perm {c d:List TCell} {g F:Int→Int} (hp:c.Perm d):lin c g F=lin d g F:=by
 induction hp with
 | nil=>rfl
 | cons x _ ih=>rw [lin_cons,lin_cons,ih]
 | swap x y l=>rw [lin_cons,lin_cons,lin_cons,lin_cons]; omega
 | trans _ _ ih1 ih2=>exact ih1.trans ih2
section
variable {c:List TCell} {n:Nat} {e p h:Int}
theorem Subdivide_law (w:VC n c) (he:e∈c.map TCell.ID) (hd:(fnd c e).1.Dim=1) (hp:¬ p∈c.map TCell.ID) (hh:¬ h∈c.map TCell.ID) (hph:p≠h) (hl:c.length≤398):VC (n+5) (subC c e p h)∧Com 3 c (subC c e p h) (subM c e h)∧(subC c e p h).length=c.length+2:=by
 obtain ⟨xe,hxe,rfl⟩:=mem_ids.1 he
 rw [fnd_at w.rise hxe rfl] at hd
 dsimp only at hd
 have hBe:=bO_at w.rise hxe
 have hche:=w.ch xe hxe
 generalize hPp:pos (bO c xe.ID)=P at *
 have hP:Ch (c.map TCell.ID) n P:=by rw [← hPp,hBe]; exact pos_ch hche
 have hPB:∀ f∈P,∃ g∈xe.B,g.ID=f.ID:=fun f hf=>by
  rw [← hPp,hBe] at hf; exact ⟨f,(List.mem_filter.1 hf).1,rfl⟩
 have hperm:(subC c xe.ID p h).Perm (⟨p,0,[]⟩::⟨h,1,pl P [⟨p,1⟩] (-1)⟩::c.map (subF c xe.ID p h)):=by
  have:=subC_perm (c:=c) (e:=xe.ID) (p:=p) (h:=h)
  rw [hPp] at this
  exact this.trans (List.perm_append_comm (l₁:=c.map (subF c xe.ID p h)) (l₂:=[(⟨p,0,[]⟩:TCell),⟨h,1,pl P [⟨p,1⟩] (-1)⟩]))
 have hr:Rise TCell.ID (subC c xe.ID p h):=subC_rise w hp hh hph
 have hlen:(subC c xe.ID p h).length=c.length+2:=by rw [hperm.length_eq]; simp
 have hmem:∀ y,y∈subC c xe.ID p h↔y=⟨p,0,[]⟩∨y=⟨h,1,pl P [⟨p,1⟩] (-1)⟩∨∃ x∈c,subF c xe.ID p h x=y:=fun y=>by
  rw [hperm.mem_iff]; simp
 have hids:∀ i,i∈(subC c xe.ID p h).map TCell.ID↔i=p∨i=h∨i∈c.map TCell.ID:=fun i=>by
  rw [(hperm.map TCell.ID).mem_iff,List.map_cons,List.map_cons,ids_map]; simp
 have pD:p∈(subC c xe.ID p h).map TCell.ID:=(hids p).2 (.inl rfl)
 have hD:h∈(subC c xe.ID p h).map TCell.ID:=(hids h).2 (.inr (.inl rfl))
 have cD:∀ i∈c.map TCell.ID,i∈(subC c xe.ID p h).map TCell.ID:=fun i hi=>(hids i).2 (.inr (.inr hi))
 have chp:Ch ((subC c xe.ID p h).map TCell.ID) 1 [⟨p,1⟩]:=one_ch pD
 have chh:Ch ((subC c xe.ID p h).map TCell.ID) 1 [⟨h,1⟩]:=one_ch hD
 have hP':=hP.sub cD
 have hE':=hche.sub cD
 have pP:cf P p=0:=cf_none fun f hf e2=>hp (by rw [← e2]; exact hP.2.2 f hf)
 have hPh:cf P h=0:=cf_none fun f hf e2=>hh (by rw [← e2]; exact hP.2.2 f hf)
 have cp:∀ x∈c,cf x.B p=0:=fun x hx=>cf_none fun f hf e2=>hp (by rw [← e2]; exact (w.ch x hx).2.2 f hf)
 have ch0:∀ x∈c,cf x.B h=0:=fun x hx=>cf_none fun f hf e2=>hh (by rw [← e2]; exact (w.ch x hx).2.2 f hf)
 have cee:cf xe.B xe.ID=0:=cf_none fun f hf e2=>by
  have:=w.fdim xe hxe f hf xe hxe e2.symm; omega
 have subX:∀ x∈c,x.ID≠xe.ID→subF c xe.ID p h x=rpl xe.ID [⟨h,1⟩] x:=fun x _ hne=>by unfold subF; rw [if_neg hne]
 have subE:subF c xe.ID p h xe=⟨xe.ID,xe.Dim,pl (pl xe.B P (-1)) [⟨p,1⟩] 1⟩:=by
  unfold subF subB; rw [if_pos rfl,hBe,← hPp,hBe]
 have eqE:∀ x∈c,x.ID=xe.ID→x=xe:=fun x hx e2=>by
  have h8:=fnd_at w.rise hx e2
  rw [fnd_at w.rise hxe rfl] at h8
  exact (Prod.mk.inj h8).1.symm
 have cfX:∀ x∈c,x.ID≠xe.ID→Gd (subF c xe.ID p h x).B∧∀ i,cf (subF c xe.ID p h x).B i=cf x.B i+cf x.B xe.ID*(if h=i then 1 else 0):=fun x hx hne=>by
  rw [subX x hx hne]
  have:=rpl_cf (b:=xe.ID) (z:=[⟨h,1⟩]) (w.ch x hx).1 (Gd.one (by decide))
  exact ⟨this.1,fun i=>by rw [this.2,cf_one]⟩
 have g1:=Gd.pl (k:=-1) hche.1 hP.1
 have g2:=Gd.pl (k:=1) g1.1 (Gd.one (i:=p) (c:=1) (by decide))
 have cfE:∀ i,cf (subF c xe.ID p h xe).B i=cf xe.B i-cf P i+(if p=i then 1 else 0):=fun i=>by
  rw [subE]; dsimp only; rw [g2.2,g1.2,cf_one]; omega
 have g3:=Gd.pl (k:=-1) hP.1 (Gd.one (i:=p) (c:=1) (by decide))
 have cfH:∀ i,cf (pl P [⟨p,1⟩] (-1)) i=cf P i-(if p=i then 1 else 0):=fun i=>by rw [g3.2,cf_one]; omega
 have mX:∀ x∈c,subF c xe.ID p h x∈subC c xe.ID p h:=fun x hx=>(hmem _).2 (.inr (.inr ⟨x,hx,rfl⟩))
 have mP:(⟨p,0,[]⟩:TCell)∈subC c xe.ID p h:=(hmem _).2 (.inl rfl)
 have mH:(⟨h,1,pl P [⟨p,1⟩] (-1)⟩:TCell)∈subC c xe.ID p h:=(hmem _).2 (.inr (.inl rfl))
 have bX:∀ x∈c,bO (subC c xe.ID p h) x.ID=(subF c xe.ID p h x).B:=fun x hx=>by
  have:=bO_at hr (mX x hx); rwa [subF_id] at this
 have bP:bO (subC c xe.ID p h) p=[]:=bO_at hr mP
 have bH:bO (subC c xe.ID p h) h=pl P [⟨p,1⟩] (-1):=bO_at hr mH
 have dimF:∀ x,(subF c xe.ID p h x).Dim=x.Dim:=fun x=>by
  unfold subF; split
  ·rfl
  ·exact rpl_dim _ _
 have hG:∀ x∈c,∀ i,cf (bO (subC c xe.ID p h) x.ID) i=cf (bO c x.ID) i+cf (bO c x.ID) xe.ID*(if h=i then 1 else 0)+(if x.ID=xe.ID then (if p=i then 1 else 0)-cf P i else 0):=fun x hx i=>by
  rw [bX x hx,bO_at w.rise hx]
  by_cases e2:x.ID=xe.ID
  ·have:=eqE x hx e2
   subst this
   rw [cfE,cee,if_pos rfl]; omega
  ·rw [(cfX x hx e2).2,if_neg e2]; omega
 have hch:∀ y∈subC c xe.ID p h,Ch ((subC c xe.ID p h).map TCell.ID) (n+5) y.B:=fun y hy=>by
  rcases (hmem y).1 hy with rfl | rfl | ⟨x,hx,rfl⟩
  ·exact Ch.nil _ _
  ·exact (hP'.pl chp (k:=-1) (k':=1) (by decide)).mono (by omega)
  ·by_cases e2:x.ID=xe.ID
   ·have:=eqE x hx e2
    subst this
    rw [subE]
    exact ((hE'.pl hP' (k:=-1) (k':=1) (by decide)).pl chp (k:=1) (k':=1) (by decide)).mono (by omega)
   ·rw [subX x hx e2]
    exact (rpl_ch (b:=xe.ID) ((w.ch x hx).sub cD) chh).mono (by omega)
 have byId:∀ x∈c,∀ y∈subC c xe.ID p h,y.ID=x.ID→y.Dim=x.Dim:=fun x hx y hy e2=>by
  have h8:=fnd_at hr hy e2
  rw [fnd_at hr (mX x hx) (subF_id x)] at h8
  rw [← (Prod.mk.inj h8).1,dimF]
 have idP:∀ y∈subC c xe.ID p h,y.ID=p→y.Dim=0:=fun y hy e2=>by
  have h8:=fnd_at hr hy e2
  rw [fnd_at hr mP rfl] at h8
  rw [← (Prod.mk.inj h8).1]
 have idH:∀ y∈subC c xe.ID p h,y.ID=h→y.Dim=1:=fun y hy e2=>by
  have h8:=fnd_at hr hy e2
  rw [fnd_at hr mH rfl] at h8
  rw [← (Prod.mk.inj h8).1]
 have faceE:∀ i,cf xe.B i≠0→∀ y∈subC c xe.ID p h,y.ID=i→y.Dim=0:=fun i hi y hy e2=>by
  obtain ⟨g,hg,e3,_⟩:=cf_ne hi
  obtain ⟨v,hv,e4⟩:=mem_ids.1 (hche.2.2 g hg)
  have:=w.fdim xe hxe g hg v hv e4
  have:=byId v hv y hy (by omega)
  omega
 have faceP:∀ i,cf P i≠0→∀ y∈subC c xe.ID p h,y.ID=i→y.Dim=0:=fun i hi y hy e2=>by
  obtain ⟨f,hf,e3,_⟩:=cf_ne hi
  obtain ⟨g,hg,e4⟩:=hPB f hf
  refine faceE i ?_ y hy e2
  rw [show i=g.ID by omega,hche.1.cf hg]; exact hche.1.ne hg
 have fdim:∀ y∈subC c xe.ID p h,∀ i,cf y.B i≠0→∀ v∈subC c xe.ID p h,v.ID=i→v.Dim=y.Dim-1:=fun y hy i hi v hv e2=>by
  rcases (hmem y).1 hy with rfl | rfl | ⟨x,hx,rfl⟩
  ·exact absurd rfl hi
  ·dsimp only at hi ⊢
   rw [cfH] at hi
   by_cases e3:p=i
   ·have:=idP v hv (by omega); omega
   ·rw [if_neg e3] at hi
    have:=faceP i (by omega) v hv e2; omega
  ·by_cases e3:x.ID=xe.ID
   ·have:=eqE x hx e3
    subst this
    rw [cfE] at hi
    rw [dimF]
    by_cases e3:p=i
    ·have:=idP v hv (by omega); omega
    ·rw [if_neg e3] at hi
     by_cases e4:cf x.B i=0
     ·have:=faceP i (by omega) v hv e2; omega
     ·have:=faceE i e4 v hv e2; omega
   ·rw [(cfX x hx e3).2] at hi
    rw [dimF]
    by_cases e4:cf x.B i=0
    ·have h5:cf x.B xe.ID≠0:=fun e5=>by rw [e4,e5] at hi; simp at hi
     have e6:h=i:=Decidable.byContradiction fun e6=>by rw [e4,if_neg e6] at hi; simp at hi
     obtain ⟨g,hg,e7,_⟩:=cf_ne h5
     have:=w.fdim x hx g hg xe hxe e7.symm
     have:=idH v hv (by omega); omega
    ·obtain ⟨g,hg,e7,_⟩:=cf_ne e4
     obtain ⟨u,hu,e8⟩:=mem_ids.1 ((w.ch x hx).2.2 g hg)
     have:=w.fdim x hx g hg u hu e8
     have:=byId u hu v hv (by omega); omega
 have vert:∀ y∈subC c xe.ID p h,y.Dim=0→y.B=[]:=fun y hy h0=>by
  rcases (hmem y).1 hy with rfl | rfl | ⟨x,hx,rfl⟩
  ·rfl
  ·simp at h0
  ·rw [dimF] at h0
   have hx0:x.B=[]:=by
    cases hB:x.B with
    | nil=>rfl
    | cons f l=>
     obtain ⟨u,hu,e8⟩:=mem_ids.1 ((w.ch x hx).2.2 f (by rw [hB]; simp))
     have:=w.fdim x hx f (by rw [hB]; simp) u hu e8
     have:=(w.dim u hu).1; omega
   rw [subX x hx (fun e2=>by rw [eqE x hx e2] at h0; omega)]
   unfold rpl
   rw [if_pos (by rw [hx0]; rfl),hx0]
 have linD:∀ g F:Int→Int,lin (subC c xe.ID p h) g F=g p*F p+(g h*F h+lin c g F):=fun g F=>by
  rw [lin_perm hperm,lin_cons,lin_cons,lin_map _ fun y _=>subF_id y]
 refine ⟨⟨hr,by omega,hch,fun y hy=>?_,fun y hy f hf v hv e2=>fdim y hy f.ID (by rw [(hch y hy).1.cf hf]; exact (hch y hy).1.ne hf) v hv e2,fun y hy i=>?_⟩,?_,hlen⟩
 ·rcases (hmem y).1 hy with rfl | rfl | ⟨x,hx,rfl⟩
  ·exact ⟨Int.le_refl _,show (0:Int)≤3 by decide⟩
  ·exact ⟨show (0:Int)≤1 by decide,show (1:Int)≤3 by decide⟩
  ·rw [dimF]; exact w.dim x hx
 ·by_cases h1:y.Dim≤1
  ·-- only vertices lie in the boundary
   refine lin_zero fun v hv=>?_
   by_cases e2:cf y.B v.ID=0
   ·rw [e2,Int.zero_mul]
   ·have h3:=fdim y hy v.ID e2 v hv rfl
    have h4:v.Dim=0:=by
     rcases (hmem v).1 hv with rfl | rfl | ⟨x,hx,rfl⟩
     ·rfl
     ·simp at h3; omega
     ·have:=(w.dim x hx).1; rw [dimF] at h3 ⊢; omega
    rw [bO_at hr hv,vert v hv h4,show cf [] i=0 from rfl,Int.mul_zero]
  ·rcases (hmem y).1 hy with rfl | rfl | ⟨x,hx,rfl⟩
   ·exact absurd (show (0:Int)≤1 by decide) h1
   ·exact absurd (Int.le_refl _) h1
   ·rw [dimF] at h1
    have e3:x.ID≠xe.ID:=fun e2=>by rw [eqE x hx e2] at h1; omega
    have hc:=(cfX x hx e3).2
    rw [linD,hc p,cp x hx,if_neg (Ne.symm hph),hc h,ch0 x hx,if_pos rfl,bH,cfH]
    rw [lin_congr (g':=cf x.B) (F':=fun j=>(cf (bO c j) i+cf (bO c j) xe.ID*(if h=i then 1 else 0))+(if j=xe.ID then (if p=i then 1 else 0)-cf P i else 0)) fun v hv=>by
     rw [hc v.ID,if_neg (fun e2=>hh (by rw [e2]; exact mem_ids.2 ⟨v,hv,rfl⟩)),hG v hv]; simp]
    rw [lin_addF,lin_addF,lin_mulFr,w.bb x hx,w.bb x hx,lin_del w.rise he]
    simp [Int.mul_sub]
    omega
 ·have himg:∀ x∈c,im (subM c xe.ID h) x.ID=if x.ID=xe.ID then pl [⟨xe.ID,1⟩] [⟨h,1⟩] 1 else [⟨x.ID,1⟩]:=fun x hx=>by
   unfold subM
   rw [im_itf w.rise hx]
   simp only [mput,mfind]
   split<;>rfl
  have gE:=Gd.pl (k:=1) (Gd.one (i:=xe.ID) (c:=1) (by decide)) (Gd.one (i:=h) (c:=1) (by decide))
  have chI:∀ x∈c,Ch ((subC c xe.ID p h).map TCell.ID) 3 (im (subM c xe.ID h) x.ID):=fun x hx=>by
   rw [himg x hx]
   split
   ·exact (one_ch (cD _ he)).pl chh (k:=1) (k':=1) (by decide)
   ·exact (one_ch (cD _ (mem_ids.2 ⟨x,hx,rfl⟩))).mono (by omega)
  have cfI:∀ x∈c,∀ i,cf (im (subM c xe.ID h) x.ID) i=(if x.ID=i then 1 else 0)+(if x.ID=xe.ID then (if h=i then 1 else 0) else 0):=fun x hx i=>by
   rw [himg x hx]
   by_cases e2:x.ID=xe.ID
   ·rw [if_pos e2,if_pos e2,gE.2,cf_one,cf_one,e2]; omega
   ·rw [if_neg e2,if_neg e2,cf_one]; omega
  refine ⟨by unfold subM; rw [List.map_map]; rfl,fun t ht=>?_,fun x hx f hf y hy e2=>?_,fun x hx i=>?_⟩
  ·obtain ⟨x,hx,rfl⟩:=List.mem_map.1 ht
   have:=chI x hx
   unfold subM at this
   rw [im_itf w.rise hx] at this
   exact this
  ·have h1:=(chI x hx).1.ne hf
   rw [← (chI x hx).1.cf hf,cfI x hx] at h1
   by_cases e3:x.ID=f.ID
   ·exact byId x hx y hy (by omega)
   ·rw [if_neg e3] at h1
    by_cases e4:x.ID=xe.ID
    ·rw [if_pos e4] at h1
     by_cases e5:h=f.ID
     ·rw [eqE x hx e4,hd]; exact idH y hy (by omega)
     ·rw [if_neg e5] at h1; exact absurd rfl h1
    ·rw [if_neg e4] at h1; exact absurd rfl h1
  ·rw [lin_congr (c:=c) (g:=cf x.B) (g':=cf x.B) (F':=fun j=>(if j=i then 1 else 0)+(if j=xe.ID then (if h=i then 1 else 0) else 0)) fun y hy=>by rw [cfI y hy],lin_addF,lin_delC w.rise (w.ch x hx).2.2,lin_del w.rise he]
   rw [show cf (im (subM c xe.ID h) x.ID)=fun j=>(if x.ID=j then 1 else 0)+(if h=j then (if x.ID=xe.ID then 1 else 0) else 0) from funext fun j=>by rw [cfI x hx]; split<;>split<;>split<;>rfl,lin_addG,lin_one hr (cD _ (mem_ids.2 ⟨x,hx,rfl⟩)),lin_one hr hD,bX x hx,bH]
   by_cases e2:x.ID=xe.ID
   ·have:=eqE x hx e2
    subst this
    rw [cfE,cfH,cee,if_pos rfl]; omega
   ·rw [(cfX x hx e2).2,if_neg e2]; omega
end
end Go.Z
end
section
namespace Go.Z
def sg (x:TCell):Int:=if Int.tmod x.Dim 2=0 then 1 else -1
def eu (c:List TCell):Int:=(c.map sg).sum
theorem eu_cons (x:TCell) (c:List TCell):eu (x::c)=sg x+eu c:=by simp [eu]
theorem eu_app (c d:List TCell):eu (c++d)=eu c+eu d:=by simp [eu]
theorem sg_or (x:TCell):sg x=1∨sg x=-1:=by unfold sg; split<;>simp
theorem eu_le (c:List TCell):-(c.length:Int)≤eu c∧eu c≤c.length:=by
 induction c with
 | nil=>simp [eu]
 | cons x c ih=>
  rw [eu_cons,List.length_cons]
  have:=sg_or x
  omega
theorem Euler_ok {c:List TCell} (lc:c.length≤1000000):M.r25_Euler c=some (eu c):=by
 unfold M.r25_Euler
 refine rngL_eq (fun i v=>v=eu (c.take i)) _ (by omega) rfl (fun i x v hx hv=>.inl ?_) (fun v hv=>?_)
 ·subst hv
  have hi:=(List.getElem?_eq_some_iff.1 hx).1
  have h1:=eu_le (c.take i)
  rw [List.length_take] at h1
  have h2:eu (c.take (i+1))=eu (c.take i)+sg x:=by rw [List.take_add_one,hx,eu_app]; simp [eu]
  refine ⟨eu (c.take (i+1)),?_,rfl⟩
  unfold M.r25_Euler_b1
  dsimp only
  rw [h2]
  unfold sg
  by_cases e:Int.tmod x.Dim 2=0
  ·rw [if_pos e,if_pos e,chk64_pos (by omega)]
  ·rw [if_neg e,if_neg e,chk64_pos (by omega)]; rfl
 ·subst hv
  rw [List.take_of_length_le (Nat.le_refl _)]; rfl
theorem eu_map {f:TCell→TCell} (hf:∀ x,(f x).Dim=x.Dim) (c:List TCell):eu (c.map f)=eu c:=by
 unfold eu
 rw [List.map_map]
 congr 1
 exact List.map_congr_left fun x _=>by show sg (f x)=sg x; unfold sg; rw [hf]
theorem eu_perm {c d:List TCell} (h:c.Perm d):eu c=eu d:=by
 induction h with
 | nil=>rfl
 | cons x _ ih=>rw [eu_cons,eu_cons,ih]
 | swap x y l=>rw [eu_cons,eu_cons,eu_cons,eu_cons]; omega
 | trans _ _ a b=>exact a.trans b
theorem eu_del {c:List TCell} (hs:Rise TCell.ID c) {x:TCell} (hx:x∈c):eu (c.filter fun y=>!decide (y.ID=x.ID))+sg x=eu c:=by
 induction c with
 | nil=>cases hx
 | cons y c ih=>
  have hs2:Rise TCell.ID c:=(List.pairwise_cons.1 hs).2
  have hs1:=(List.pairwise_cons.1 hs).1
  rcases List.mem_cons.1 hx with rfl | hx'
  ·rw [List.filter_cons_of_neg (by simp),List.filter_eq_self.2 fun z hz=>by have:=hs1 z hz; simp; omega,eu_cons]; omega
  ·have:=hs1 x hx'
   rw [List.filter_cons_of_pos (by simp; omega),eu_cons,eu_cons]
   have:=ih hs2 hx'
   omega
theorem sg_next {a b:TCell} (ha:0≤a.Dim∧a.Dim≤3) (hb:0≤b.Dim) (h:b.Dim=a.Dim-1):sg a+sg b=0:=by
 have h1:a.Dim=1∨a.Dim=2∨a.Dim=3:=by omega
 unfold sg
 rw [h]
 rcases h1 with e | e | e<;>rw [e]<;>decide
section
variable {c d:List TCell} {n p:Nat} {a b e h:Int} {m:List TImage} {B:Nat}
theorem filt_two (c:List TCell) (a b:Int):(c.filter fun x=>!decide (x.ID∈[a,b]))=(c.filter fun x=>!decide (x.ID=a)).filter fun x=>!decide (x.ID=b):=by
 rw [List.filter_filter]
 refine List.filter_congr fun x _=>?_
 by_cases h1:x.ID=a<;>by_cases h2:x.ID=b<;>simp [h1,h2]
theorem eu_col (w:VC n c) (ha:a∈c.map TCell.ID) (hf:FreeP c a b):eu (colC c a b)=eu c:=by
 obtain ⟨x,hx,rfl⟩:=mem_ids.1 ha
 obtain ⟨y,hy,rfl⟩:=mem_ids.1 (hf.mem w)
 have hne:=hf.ne
 unfold colC
 rw [filt_two]
 have h1:=eu_del w.rise hx
 have hy2:y∈c.filter fun z=>!decide (z.ID=x.ID):=List.mem_filter.2 ⟨hy,by simp; omega⟩
 have h2:=eu_del (w.rise.filter _) hy2
 have h3:sg x+sg y=0:=by
  have h4:=hf.2.2
  rw [bO_at w.rise hx] at h4
  obtain ⟨f,hf1,hf2,_⟩:=cf_ne (l:=x.B) (c:=y.ID) (by omega)
  exact sg_next (w.dim x hx) (w.dim y hy).1 (w.fdim x hx f hf1 y hy hf2.symm)
 omega
theorem eu_shr (w:VC n c):∀ (k:Nat) (d:List TCell) (m:List TImage) (B:Nat),SI n c d m B→eu (shr d m k).1=eu d
 | 0,d,m,B,_=>rfl
 | k+1,d,m,B,s=>by
  unfold shr
  cases e:fre d with
  | nil=>rfl
  | cons z l=>
   obtain ⟨a,b⟩:=z
   have hf:(a,b)∈fre d:=by rw [e]; simp
   obtain ⟨B',s',_⟩:=s.step w hf
   show eu (shr (colC d a b) (cmp m (colM d a b)) k).1=eu d
   rw [eu_shr w k _ _ _ s']
   obtain ⟨h1,h2⟩:=(mem_fre s.vc).1 hf
   exact eu_col s.vc h1 h2
theorem eu_sub (q:Int):eu (subC c e q h)=eu c:=by
 rw [eu_perm subC_perm,eu_app,eu_map (fun x=>?_)]
 ·simp [eu,sg]
 ·unfold subF; split
  ·rfl
  ·exact rpl_dim _ _
theorem eu_id (w:VC n c) {y:TCell} (hy:y∈c):eu (idC c a y.ID)+sg y=eu c:=by
 unfold idC
 have h1:eu (c.map (rpl y.ID (dif a y.ID)))=eu c:=eu_map (fun x=>rpl_dim _ _) c
 have hr:Rise TCell.ID (c.map (rpl y.ID (dif a y.ID))):=map_rise (fun x=>rpl_id _ x) w.rise
 have hm:rpl y.ID (dif a y.ID) y∈c.map (rpl y.ID (dif a y.ID)):=List.mem_map_of_mem hy
 have h2:=eu_del hr hm
 have h3:sg (rpl y.ID (dif a y.ID) y)=sg y:=by unfold sg; rw [rpl_dim]
 rw [h3,rpl_id] at h2
 rw [← h1,← h2]
 congr 2
 refine List.filter_congr fun x _=>?_
 by_cases e:x.ID=y.ID<;>simp [e]
end
end Go.Z
end
section
namespace Go.Z
open Eu
section
variable {c d:List TCell} {n p q:Nat} {a b:Int} {m:List TImage}
structure Good (c:List TCell) (r:R31Result):Prop where
 ge:r.E=0
 gv:M.r25_Valid r.C=some true
 gc:M.r31_Commutes c r.C r.M=some true
 gl:r.C.length≤1000000
 gu:eu r.C=eu c
theorem good_shr (h:VC n c) (hn:n≤160000) (hw:wt c≤310030) (hl:c.length≤30):Good c ⟨(shr c (c.map (itf [])) 30).1,(shr c (c.map (itf [])) 30).2,0⟩:=by
 obtain ⟨B,w,_⟩:=shr_end 30 c (c.map (itf [])) 1 h (SI.init h hw hl) hl
 have:=w.w
 exact ⟨rfl,Valid_ok w.vc (by omega),Commutes_ok h w.vc w.com (by omega),by have:=w.len; dsimp only; omega,eu_shr h _ _ _ _ (SI.init h hw hl)⟩
theorem good_col (h:VC n c) (hn:n≤160000) (hf:(a,b)∈fre c):M.merge_Collapse c a b=some (colC c a b,colM c a b,0)∧Good c ⟨colC c a b,colM c a b,0⟩:=by
 obtain ⟨h1,h2⟩:=(mem_fre h).1 hf
 obtain ⟨w,k⟩:=Collapse_law h h1 h2 (h.chB a).2.1
 have hl:=w.len
 refine ⟨?_,rfl,Valid_ok w (by omega),Commutes_ok h w k (by omega),by dsimp only; omega,eu_col h h1 h2⟩
 rw [Collapse_ok h (by omega)]
 unfold col
 rw [if_pos ⟨(fnd_in h).2 h1,(fnd_in h).2 (h2.mem h)⟩,if_pos hf]
theorem good_sub (h:VC n c) (hn:n≤160000) (hl:c.length≤30) (hid:∀ y∈c,0≤y.ID∧y.ID≤30) {e:Int} (he:e∈cel c 1):M.merge_Subdivide c e (-1,99)=some (subC c e (-1) 99,subM c e 99,0)∧Good c ⟨subC c e (-1) 99,subM c e 99,0⟩:=by
 obtain ⟨x,hx,hd,rfl⟩:=cel_mem.1 he
 have n1:∀ t:Int,t<0∨30<t→¬ t∈c.map TCell.ID:=fun t ht e2=>by
  obtain ⟨y,hy,e3⟩:=mem_ids.1 e2
  have:=hid y hy; omega
 have hm:x.ID∈c.map TCell.ID:=mem_ids.2 ⟨x,hx,rfl⟩
 have hdim:(fnd c x.ID).1.Dim=1:=by rw [fnd_at h.rise hx rfl]; exact hd
 obtain ⟨w,k,hlen⟩:=Subdivide_law h hm hdim (n1 (-1) (by omega)) (n1 99 (by omega)) (by decide) (by omega)
 refine ⟨?_,rfl,Valid_ok w (by omega),Commutes_ok h w k (by omega),by dsimp only; omega,eu_sub _⟩
 rw [Subdivide_ok h (by omega)]
 unfold sub
 rw [if_pos ((fnd_in h).2 hm),if_pos hdim,if_neg (fun e2=>?_),if_neg (by omega)]
 rcases e2 with e2 | e2 | e2
 ·exact n1 (-1) (by omega) ((fnd_in h).1 e2)
 ·exact n1 99 (by omega) ((fnd_in h).1 e2)
 ·exact absurd e2 (by decide)
theorem good_loop {l:List R31Result} (hl:l.length≤3) (hg:∀ r∈l,Good c r):M.l31_pieces_j2 c l=some (l,true):=by
 unfold M.l31_pieces_j2
 refine loop_eq (fun s=>∃ i:Nat,s.1=(i:Int)∧i≤l.length∧s.2=l) (fun s=>3-s.1.toNat) _ ⟨0,rfl,Nat.zero_le _,rfl⟩ (by show 3-0<_; omega) ?_
 rintro ⟨iv,l'⟩ ⟨i,e1,hi,e2⟩
 dsimp only at e1 e2
 subst e1 e2
 unfold M.l31_pieces_b1
 dsimp only
 by_cases h:i<l'.length
 ·obtain ⟨r,hr⟩:=lt_get h
  have g:=hg r (List.mem_of_getElem? hr)
  refine .inl ⟨((i:Int)+1,l'),?_,⟨i+1,by simp,by omega,rfl⟩,by show 3-((i:Int)+1).toNat<3-((i:Nat):Int).toNat; omega⟩
  rw [if_pos (by omega),nth_at hr,if_pos g.ge,g.gv,bnd_pure,if_pos rfl,g.gc,bnd_pure,if_pos rfl,chk64_pos (by omega)]
 ·refine .inr ?_
  rw [if_neg (by omega)]; rfl
theorem pieces_ok (h:VC n c) (hn:n≤160000) (hw:wt c≤310030) (hl:c.length≤30) (hid:∀ y∈c,0≤y.ID∧y.ID≤30) {at_:Int} (hat:0≤at_∧at_≤255):∃ l,M.l31_pieces c at_=some (l,true)∧l.length≤3∧∀ r∈l,Good c r:=by
 have l1:=cel_len c 1
 have hfl:(fre c).length≤400*400:=by
  have:=flatF_len h c.length
  rwa [List.take_of_length_le (Nat.le_refl _)] at this
 unfold M.l31_pieces
 rw [rFree_ok h (by omega),bnd_pure,Cells_ok (by omega),bnd_pure,Shrink_ok h hn hw hl,bnd_pure,app_at (by simp),bnd_pure,List.nil_append]
 have g0:=good_shr h hn hw hl
 generalize hs:(⟨(shr c (c.map (itf [])) 30).1,(shr c (c.map (itf [])) 30).2,0⟩:R31Result)=r0 at *
 have j3:∀ l:List R31Result,l.length≤2→(∀ r∈l,Good c r)→∃ l',M.l31_pieces_j3 c at_ (cel c 1) l=some (l',true)∧l'.length≤3∧∀ r∈l',Good c r:=fun l hl2 hg=>by
  unfold M.l31_pieces_j3
  by_cases h0:0<(cel c 1).length
  ·have ht1:=Int.tmod_lt_of_pos at_ (show (0:Int)<((cel c 1).length:Int) by omega)
   have ht0:=Int.tmod_nonneg ((cel c 1).length:Int) hat.1
   obtain ⟨i,hi⟩:∃ i:Nat,Int.tmod at_ ((cel c 1).length:Int)=(i:Int):=⟨(Int.tmod at_ ((cel c 1).length:Int)).toNat,by omega⟩
   obtain ⟨e,he⟩:=lt_get (l:=cel c 1) (i:=i) (by omega)
   obtain ⟨h1,h2⟩:=good_sub h hn hl hid (List.mem_of_getElem? he)
   rw [if_pos (by omega),chk64_pos (by omega),chk_pos (by omega),hi,nth_at he,h1,bnd_pure,app_at (by simp; omega),bnd_pure]
   have hg2:∀ r∈l++[⟨subC c e (-1) 99,subM c e 99,0⟩],Good c r:=fun r hr=>by
    rcases List.mem_append.1 hr with hr | hr
    ·exact hg r hr
    ·simp at hr; rw [hr]; exact h2
   exact ⟨_,good_loop (by simp; omega) hg2,by simp; omega,hg2⟩
  ·rw [if_neg (by omega)]
   exact ⟨l,good_loop (by omega) hg,by omega,hg⟩
 by_cases h0:0<(fre c).length
 ·have ht1:=Int.tmod_lt_of_pos at_ (show (0:Int)<((fre c).length:Int) by omega)
  have ht0:=Int.tmod_nonneg ((fre c).length:Int) hat.1
  obtain ⟨i,hi⟩:∃ i:Nat,Int.tmod at_ ((fre c).length:Int)=(i:Int):=⟨(Int.tmod at_ ((fre c).length:Int)).toNat,by omega⟩
  obtain ⟨⟨a,b⟩,he⟩:=lt_get (l:=fre c) (i:=i) (by omega)
  obtain ⟨h1,h2⟩:=good_col h hn (List.mem_of_getElem? he)
  rw [if_pos (by omega),chk64_pos (by omega),chk_pos (by omega),hi,nth_at he]
  dsimp only
  rw [h1,bnd_pure,app_at (by simp),bnd_pure]
  exact j3 _ (by simp) fun r hr=>by
   simp at hr
   rcases hr with rfl | rfl
   ·exact g0
   ·exact h2
 ·rw [if_neg (by omega)]
  exact j3 _ (by simp) fun r hr=>by simp at hr; rw [hr]; exact g0
theorem len_del {l:List TCell} (hs:Rise TCell.ID l) (b:Int):l.length≤(l.filter fun x=>!decide (x.ID=b)).length+1∧(l.filter fun x=>!decide (x.ID=b)).length≤l.length:=by
 refine ⟨?_,List.length_filter_le _ _⟩
 induction l with
 | nil=>simp
 | cons y l ih=>
  have hs2:Rise TCell.ID l:=(List.pairwise_cons.1 hs).2
  have hs1:=(List.pairwise_cons.1 hs).1
  by_cases e:y.ID=b
  ·rw [List.filter_cons_of_neg (by simp [e]),List.filter_eq_self.2 fun z hz=>by have:=hs1 z hz; simp; omega,List.length_cons]; omega
  ·rw [List.filter_cons_of_pos (by simp [e]),List.length_cons,List.length_cons]
   have:=ih hs2; omega
theorem cel_id (h:VC n c) (a b:Int) (j:Int):(cel c j).length≤(cel (idC c a b) j).length+1∧(cel (idC c a b) j).length≤(cel c j).length:=by
 have hr:Rise TCell.ID ((c.map (rpl b (dif a b))).filter fun x=>decide (x.Dim=j)):=(map_rise (fun x=>rpl_id _ x) h.rise).filter _
 have h1:=len_del hr b
 have e1:((c.map (rpl b (dif a b))).filter fun x=>decide (x.Dim=j)).length=(cel c j).length:=by
  unfold cel
  rw [List.length_map,List.filter_map,List.length_map]
  congr 1
  exact List.filter_congr fun x _=>by show decide ((rpl b (dif a b) x).Dim=j)=decide (x.Dim=j); rw [rpl_dim]
 have e2:(cel (idC c a b) j).length=(((c.map (rpl b (dif a b))).filter fun x=>decide (x.Dim=j)).filter fun x=>!decide (x.ID=b)).length:=by
  unfold cel idC
  rw [List.length_map,List.filter_filter,List.filter_filter]
  congr 1
  exact List.filter_congr fun x _=>by simp [Bool.and_comm]
 rw [e1,← e2] at h1
 exact h1
theorem Com.chK (w:Com q c d m) (h:VC n c) {k:Int} {t:Int} (ht:t∈cel c k):Ch (cel d k) q (im m t):=by
 obtain ⟨x,hx,hd,rfl⟩:=cel_mem.1 ht
 obtain ⟨h1,h2,h3⟩:=w.chI h x.ID
 refine ⟨h1,h2,fun f hf=>?_⟩
 obtain ⟨y,hy,e⟩:=mem_ids.1 (h3 f hf)
 exact cel_mem.2 ⟨y,hy,by rw [w.dim x hx f hf y hy e,hd],e⟩
theorem idn_more (h:VC n c) (a b:Int):(∃ e,idn c a b=([],[],e)∧e≠0)∨(idn c a b=(idC c a b,idM c a b,0)∧VC (n+4) (idC c a b)∧Com 1 c (idC c a b) (idM c a b)∧a∈c.map TCell.ID∧b∈c.map TCell.ID∧(fnd c a).1.Dim=(fnd c b).1.Dim):=by
 rcases idn_cases h a b with h1 | ⟨h1,h2,h3⟩
 ·exact .inl h1
 ·unfold idn at h1
  split at h1
  ·rename_i h4
   split at h1
   ·rename_i h5
    refine .inr ⟨?_,h2,h3,(fnd_in h).1 h4.1,(fnd_in h).1 h4.2,h5⟩
    unfold idn
    rw [if_pos h4,if_pos h5]; exact h1
   ·exact absurd (congrArg (fun z=>z.2.2) h1) (show ¬ (260:Int)=0 by decide)
  ·exact absurd (congrArg (fun z=>z.2.2) h1) (show ¬ (250:Int)=0 by decide)
theorem MergeEuler_ok {x:R26Raw} {w3:Int×Int×Int} {v:List Int} {st:Stt} (hs:M.l31_sanity=some true) (hm:M.r26_Made x=some c) (w:Inv c 30 st) (ho:okFin st=true) (hw:wt c≤310030)
  (h1:0≤w3.1∧w3.1≤255) (h2:0≤w3.2.1∧w3.2.1≤255) (h3:0≤w3.2.2∧w3.2.2≤255):M.l31_MergeEuler x w3 v=some true:=by
 have h:=w.vc
 have hl:=w.len
 obtain ⟨l,e1,hl3,hg⟩:=pieces_ok h (Nat.le_refl _) hw hl w.id h1
 have hee:=eu_le c
 unfold M.l31_MergeEuler
 rw [hs,bnd_pure,hm,bnd_pure,e1,bnd_pure,if_pos rfl,Euler_ok (by omega),bnd_pure]
 refine rngL_eq (fun _ _=>True) _ (by dsimp only; omega) trivial (fun i r s hr _=>.inl ⟨(),?_,trivial⟩) (fun _ _=>?_)
 ·have g:=hg r (List.mem_of_getElem? hr)
  unfold M.l31_MergeEuler_b4
  rw [Euler_ok g.gl,bnd_pure,if_pos g.gu]
 unfold M.l31_MergeEuler_k4
 refine rngL_eq (fun _ _=>True) _ (by omega) trivial (fun i ca s hca _=>.inl ⟨(),?_,trivial⟩) (fun _ _=>rfl)
 have hi:=(List.getElem?_eq_some_iff.1 hca).1
 have hcm:=List.mem_of_getElem? hca
 have ht1:=Int.tmod_lt_of_pos w3.2.1 (show (0:Int)<(c.length:Int) by omega)
 have ht0:=Int.tmod_nonneg (c.length:Int) h2.1
 obtain ⟨j,hj⟩:∃ j:Nat,Int.tmod w3.2.1 (c.length:Int)=(j:Int):=⟨(Int.tmod w3.2.1 (c.length:Int)).toNat,by omega⟩
 obtain ⟨cb,hcb⟩:=lt_get (l:=c) (i:=j) (by omega)
 have hbm:=List.mem_of_getElem? hcb
 unfold M.l31_MergeEuler_b3
 rw [chk64_pos (by omega),chk_pos (by omega),hj,nth_at hcb,Identify_ok h (by omega),bnd_pure]
 rcases idn_more h ca.ID cb.ID with ⟨e,h4,h5⟩ | ⟨h4,vd,cd,ha,hb,hdim⟩
 ·rw [h4]; dsimp only; rw [if_neg h5]
 rw [h4]
 dsimp only
 rw [if_pos rfl]
 rw [fnd_at h.rise hcm rfl,fnd_at h.rise hbm rfl] at hdim
 have hdim:ca.Dim=cb.Dim:=hdim
 have hld:=vd.len
 have heu:=eu_id (a:=ca.ID) h hbm
 have j2:∀ u:Int,u=-sg cb→M.l31_MergeEuler_j2 w3 v c (eu c) (idC c ca.ID cb.ID,idM c ca.ID cb.ID,0) u=some (.inl ()):=fun u hu=>by
  have hsg:=sg_or cb
  unfold M.l31_MergeEuler_j2
  dsimp only
  rw [Valid_ok vd (by omega),bnd_pure,if_pos rfl,Commutes_ok h vd cd (by omega),bnd_pure,if_pos rfl,Euler_ok (by omega),bnd_pure,chk64_pos (by omega),decide_eq_false (by omega)]
  unfold M.l31_MergeEuler_j1
  dsimp only
  rw [if_neg (by decide),chk64_pos (by omega)]
  have hk4:=tmod4 w3.2.2
  have hk0:=Int.tmod_nonneg 4 h3.1
  obtain ⟨k,hk⟩:∃ k:Nat,Int.tmod w3.2.2 4=(k:Int):=⟨(Int.tmod w3.2.2 4).toNat,by omega⟩
  have hkl:k<4:=by omega
  obtain ⟨y,e2,hy⟩:=Cyclic_ok w ho hkl (l:=v)
  obtain ⟨o1,⟨o2,o3⟩,o4⟩:=okFin_at ho hkl
  have c1:(cel c ((k:Int)+1)).length=cnk st (k+1):=w.cn (k:=k+1) (by omega)
  have c0:(cel c (k:Int)).length=cnk st k:=w.cn (by omega)
  have bb:∀ z∈c,z.Dim=(k:Int)+1→Bn (bik st (k+1)) z.B:=fun z hz e=>by
   by_cases h5:k+1<4
   ·exact w.bit z hz (k+1) (by simpa using e)
   ·have:=(h.dim z hz).2; omega
  have hb0:b0k st k=max (bik st (k+1)) (Lk st k)+500:=rfl
  obtain ⟨b,e3,hbd⟩:=Bounds_ok h (k:=(k:Int)) (by omega) hy.ch (b0:=b0k st k) (fun z hz e=>(bb z hz e).mono (by omega)) (by omega) (by rw [c1,c0]; exact o4 _ _ (by omega) (by omega) (by omega) (by omega)) (by rw [c1,c0]; exact o4 _ _ (by omega) (by omega) (by omega) (by omega))
  rw [hk,e2,bnd_pure,e3,bnd_pure]
  by_cases hb1:b=true
  ·rw [if_pos hb1]
   have hyl:=hy.ch.len
   have l1:=cel_len c (k:Int)
   have chy:∀ t∈y,Ch (cel (idC c ca.ID cb.ID) (k:Int)) 1 (im (idM c ca.ID cb.ID) t.ID):=fun t ht=>cd.chK h (hy.ch.2.2 t ht)
   have ld:=cel_len (idC c ca.ID cb.ID) (k:Int)
   rw [Apply_ok (T:=cel (idC c ca.ID cb.ID) (k:Int)) (q:=1) (k':=Lk st k+450) (cd.rise h) (by rw [cd.len]; omega) chy hy.ch.2.1 (by omega) (by omega) (by omega),bnd_pure]
   have chi:=fl_ch chy hy.ch.2.1
   obtain ⟨i1,i2⟩:=cel_id h ca.ID cb.ID ((k:Int)+1)
   obtain ⟨i3,i4⟩:=cel_id h ca.ID cb.ID (k:Int)
   have bd:∀ z∈idC c ca.ID cb.ID,z.Dim=(k:Int)+1→Bn (b0k st k) z.B:=fun z hz e=>by
    obtain ⟨z0,hz0,_,rfl⟩:=idC_mem.1 hz
    rw [rpl_dim] at e
    have hc0:Ch (c.map TCell.ID) (bik st (k+1)) z0.B:=⟨(h.ch z0 hz0).1,bb z0 hz0 e,(h.ch z0 hz0).2.2⟩
    exact ((rpl_ch hc0 (dif_ch ha hb)).2.1).mono (by omega)
   obtain ⟨b',e4,hbd'⟩:=Bounds_ok vd (k:=(k:Int)) (by omega) chi (b0:=b0k st k) bd (by omega) (o4 _ _ (by omega) (by omega) (by omega) (by omega)) (o4 _ _ (by omega) (by omega) (by omega) (by omega))
   rw [e4,bnd_pure,if_pos (hbd'.2 ?_)]
   rcases hbd.1 hb1 with h6 | h6
   ·left
    have:y=[]:=List.length_eq_zero_iff.1 h6
    subst this; rfl
   ·exact .inr (h6.image h vd cd hy.ch.1 hy.ch.2.2)
  ·rw [if_neg hb1]
 by_cases hpar:Int.tmod ca.Dim 2=0
 ·rw [if_pos hpar]
  exact j2 _ (by unfold sg; rw [← hdim,if_pos hpar])
 ·rw [if_neg hpar]
  exact j2 _ (by unfold sg; rw [← hdim,if_neg hpar]; rfl)
end
end Go.Z
end
section
namespace Go.Z
theorem okF0:okSeqP okFin 4 ([0,0,0,0],[1,1,3,1])=true:=by decide +kernel
theorem okF1:okSeqP okFin 4 ([1,0,0,0],[1,1,3,1])=true:=by decide +kernel
theorem okF2:okSeqP okFin 4 ([2,0,0,0],[1,1,3,1])=true:=by decide +kernel
theorem okF3:okSeqP okFin 4 ([2,1,0,0],[1,1,3,1])=true:=by decide +kernel
theorem okF4:okSeqP okFin 4 ([1,1,0,0],[1,1,3,1])=true:=by decide +kernel
theorem okF5:okSeqP okFin 4 ([3,3,0,0],[1,1,3,1])=true:=by decide +kernel
theorem okF6:okSeqP okFin 4 ([3,3,1,0],[1,1,3,1])=true:=by decide +kernel
theorem okF7:okSeqP okFin 4 ([1,0,1,0],[1,1,3,1])=true:=by decide +kernel
theorem okF8:okSeqP okFin 4 ([1,2,1,0],[1,1,3,1])=true:=by decide +kernel
theorem okF9:okSeqP okFin 4 ([1,1,1,0],[1,1,3,1])=true:=by decide +kernel
theorem okF10:okSeqP okFin 4 ([1,1,1,1],[1,1,3,1])=true:=by decide +kernel
theorem okF11:okSeqP okFin 4 ([1,1,2,0],[1,1,3,1])=true:=by decide +kernel
theorem okF12:okSeqP okFin 4 ([2,2,1,0],[1,1,3,1])=true:=by decide +kernel
theorem okFin_spaces:∀ p∈spaces,okSeqP okFin 4 p.2=true:=by
 intro p hp
 simp only [spaces,List.mem_cons,List.not_mem_nil,or_false] at hp
 rcases hp with rfl | rfl | rfl | rfl | rfl | rfl | rfl | rfl | rfl | rfl | rfl | rfl | rfl | rfl
 ·exact okF0
 ·exact okF1
 ·exact okF2
 ·exact okF3
 ·exact okF4
 ·exact okF5
 ·exact okF6
 ·exact okF7
 ·exact okF8
 ·exact okF9
 ·exact okF8
 ·exact okF10
 ·exact okF11
 ·exact okF12
theorem Made_fin (x:R26Raw):∃ c,M.r26_Made x=some c∧∃ st,Inv c 30 st∧okFin st=true:=by
 obtain ⟨p,hp,h1⟩:=Space_ok x.S
 obtain ⟨c,h2,h3⟩:=Made_loopP (x:=x) (spaces_ok p hp).inv (okFin_spaces p hp)
 exact ⟨c,by unfold M.r26_Made; rw [h1,bnd_pure]; exact h2,h3⟩
end Go.Z
end
section
namespace Go.Z
open Go Go.RowKit
def TMatR (h:Heap) (cs:List Value) (x:TMat):Prop:=∃ (p2:Option Addr) (n2 c2:Nat),cs=[.int .i64 x.Rows,.int .i64 x.Cols,.slice p2 n2 c2]∧Sls (LR IntR 2) 1 h (.slice p2 n2 c2) x.A
def THermiteR (h:Heap) (cs:List Value) (x:THermite):Prop:=∃ (p2:Option Addr) (n2 c2:Nat) (p5:Option Addr) (n5 c5:Nat) (p8:Option Addr) (n8 c8:Nat),cs=[.int .i64 x.H.Rows,.int .i64 x.H.Cols,.slice p2 n2 c2,.int .i64 x.U.Rows,.int .i64 x.U.Cols,.slice p5 n5 c5,.int .i64 x.V.Rows,.int .i64 x.V.Cols,.slice p8 n8 c8]∧Sls (LR IntR 2) 1 h (.slice p2 n2 c2) x.H.A∧Sls (LR IntR 2) 1 h (.slice p5 n5 c5) x.U.A∧Sls (LR IntR 2) 1 h (.slice p8 n8 c8) x.V.A
def TFaceR (h:Heap) (cs:List Value) (x:TFace):Prop:=∃ (g1:Bool) (p1:Option Addr) (n1 c1:Nat),cs=[.int .i64 x.ID,.bool g1,.slice p1 n1 c1]∧IntR h [.bool g1,.slice p1 n1 c1] x.C
instance:Mo TFaceR:=⟨fun e ⟨v0,v1,v2,v3,a,f0⟩=>⟨v0,v1,v2,v3,a,Mo.m e f0⟩⟩
instance:Pl TFaceR:=⟨fun ⟨v0,v1,v2,v3,a,_⟩ u hu=>by subst a; simp at hu; rcases hu with rfl | rfl | rfl<;>rfl⟩
def TCellR (h:Heap) (cs:List Value) (x:TCell):Prop:=∃ (p2:Option Addr) (n2 c2:Nat),cs=[.int .i64 x.ID,.int .i64 x.Dim,.slice p2 n2 c2]∧Sls TFaceR 3 h (.slice p2 n2 c2) x.B
instance:Mo TCellR:=⟨fun e ⟨v0,v1,v2,a,f0⟩=>⟨v0,v1,v2,a,f0.mono (e:=e)⟩⟩
instance:Pl TCellR:=⟨fun ⟨v0,v1,v2,a,_⟩ u hu=>by subst a; simp at hu; rcases hu with rfl | rfl | rfl<;>rfl⟩
def A4Int8R (h:Heap) (cs:List Value) (x:Int×Int×Int×Int):Prop:=cs=[.int .i8 x.1,.int .i8 x.2.1,.int .i8 x.2.2.1,.int .i8 x.2.2.2]
instance:Mo A4Int8R:=⟨fun e a=>a⟩
def R26RawR (h:Heap) (cs:List Value) (x:R26Raw):Prop:=∃ (p1:Option Addr) (n1 c1:Nat),cs=[.int .u8 x.S,.slice p1 n1 c1]∧Sls A4Int8R 4 h (.slice p1 n1 c1) x.L
def TImageR (h:Heap) (cs:List Value) (x:TImage):Prop:=∃ (p1:Option Addr) (n1 c1:Nat),cs=[.int .i64 x.ID,.slice p1 n1 c1]∧Sls TFaceR 3 h (.slice p1 n1 c1) x.X
instance:Mo TImageR:=⟨fun e ⟨v0,v1,v2,a,f0⟩=>⟨v0,v1,v2,a,f0.mono (e:=e)⟩⟩
def R31ResultR (h:Heap) (cs:List Value) (x:R31Result):Prop:=∃ (p0:Option Addr) (n0 c0:Nat) (p1:Option Addr) (n1 c1:Nat),cs=[.slice p0 n0 c0,.slice p1 n1 c1,.int .i64 x.E]∧Sls TCellR 3 h (.slice p0 n0 c0) x.C∧Sls TImageR 2 h (.slice p1 n1 c1) x.M
instance:Mo R31ResultR:=⟨fun e ⟨v0,v1,v2,v3,v4,v5,a,f0,f1⟩=>⟨v0,v1,v2,v3,v4,v5,a,f0.mono (e:=e),f1.mono (e:=e)⟩⟩
instance:Pl R31ResultR:=⟨fun ⟨v0,v1,v2,v3,v4,v5,a,_,_⟩ u hu=>by subst a; simp at hu; rcases hu with rfl | rfl | rfl<;>rfl⟩
def A2IntR (h:Heap) (cs:List Value) (x:Int×Int):Prop:=cs=[.int .i64 x.1,.int .i64 x.2]
instance:Mo A2IntR:=⟨fun e a=>a⟩
instance:Pl A2IntR:=⟨fun {h cs x} a u hu=>by unfold A2IntR at a; subst a; simp at hu; rcases hu with rfl | rfl<;>rfl⟩
def A3Uint8R (h:Heap) (cs:List Value) (x:Int×Int×Int):Prop:=cs=[.int .u8 x.1,.int .u8 x.2.1,.int .u8 x.2.2]
end Go.Z
end
