/- Own texts, merged. -/
import Derived.Test.YtjcmlflljibikaaGreatDoorS13
set_option linter.unusedVariables false
set_option linter.unusedSimpArgs false
open Nat (reduceAdd reduceSub reduceMul reduceEqDiff reduceLeDiff reduceLT)
namespace Go.Proofs.YtjcmlflljibikaaGreatDoor.Cal
open Go Pl
def svA (o p:List Int) (x B:List (List Int)) (left:Int) (kW kC:Nat):AV:=.agg (.cons (.roI o) (.cons (.roI p) (.cons (.roII x) (.cons (.roII B) (.cons (.int .i64 left) (.cons (.own kW) (.cons (.own kC) .nil)))))))
def Zb7 := Hd.mk (@svA.eq_1)
set_option maxRecDepth 4000 in
set_option maxHeartbeats 4000000 in
theorem Znq {o p:List Int} {x B:List (List Int)} {left:Int} {W C:List Int} {v:Nat} {pl to:Int} (hv:v < o.length) (hW:W.length=o.length) (hC:C.length=o.length) :
  FG Tryz.prog 58 [.own 0,.int .i64 v,.int .i64 pl,.int .i64 to] [(0,some (.box (svA o p x B left 1 2))),(1,some (.ints W)),(2,some (.ints C))] 3 fun g=>g=⟨3,resV [],[(0,some (.box (svA o p x B left 1 2))),(1,some (.ints (W.set v pl))),(2,some (.ints (C.set v (if o.getD v 0=pl then to else -1))))]⟩:=by
 have hC2:(C.set v (-1)).length=o.length:=by rw [List.length_set,hC]
 refine Zc5 htb (fn:=Tryz.f58) (by kernel_rfl) (by kernel_rfl) rfl (Nat.le_of_ble_eq_true rfl) fun hl=>?_
 simp only [lenP,mkL,lim] at hl
 repeat' first|exact gE|refine gS noSp Zb7 [] ?_|refine gO noSp Zb7 [] ?_ ?_|refine gC ?_ ?_<;>intro hb
 ·refine Zc0 rfl rfl (Zbe (⟨3,resV [],[(0,some (.box (svA o p x B left 1 2))),(1,some (.ints (W.set v pl))),(2,some (.ints (C.set v (if o.getD v 0=pl then to else -1))))]⟩) ([]) rfl rfl (Zal rfl) ?_)
  simp only [grR,zE,evp,evx,ev1,evLoad,evStore,evBin,evIf,Zac,forall_const,z38,tb,reduceAdd,reduceSub,reduceMul,reduceEqDiff,reduceLeDiff,reduceLT,Nat.reduceBEq,Nat.reduceBNe,↓reduceIte,reduceIte,svA]
  rw [List.set_set,if_pos hb]
 ·refine Zc0 rfl rfl (Zbe (⟨3,resV [],[(0,some (.box (svA o p x B left 1 2))),(1,some (.ints (W.set v pl))),(2,some (.ints (C.set v (if o.getD v 0=pl then to else -1))))]⟩) ([]) rfl rfl (Zal rfl) ?_)
  simp only [grR,zE,evp,evx,ev1,evLoad,evStore,evBin,evIf,Zac,forall_const,z38,tb,reduceAdd,reduceSub,reduceMul,reduceEqDiff,reduceLeDiff,reduceLT,Nat.reduceBEq,Nat.reduceBNe,↓reduceIte,reduceIte,svA]
  rw [if_neg hb]
def smF (l:List Bool):List Int→Int
 |[] => -1
 |t :: r=>if l.getD t.toNat false=true then t else smF l r
theorem smF_at {l:List Bool}:∀ {row:List Int} {j:Nat},j < row.length→(∀ i,i < j→l.getD (row.getD i 0).toNat false=false)→l.getD (row.getD j 0).toNat false=true→smF l row=row.getD j 0
 |t :: r,0,_,_,h=>if_pos h
 |t :: r,j+1,hj,hn,h=>by
  have h0:l.getD t.toNat false=false:=hn 0 (Nat.succ_pos j)
  unfold smF
  rw [if_neg (by rw [h0];decide)]
  exact smF_at (row:=r) (by simpa using hj) (fun i hi=>hn (i+1) (by omega)) h
theorem smF_none {l:List Bool}:∀ {row:List Int},(∀ i,i < row.length→l.getD (row.getD i 0).toNat false=false)→smF l row = -1
 |[],_=>rfl
 |t :: r,hn=>by
  have h0:l.getD t.toNat false=false:=hn 0 (Nat.succ_pos _)
  unfold smF
  rw [if_neg (by rw [h0];decide)]
  exact smF_none fun i hi=>hn (i+1) (by simpa using hi)
def inN (l:List Bool) (row:List Int):Nat:=row.countP fun t=>l.getD t.toNat false
set_option maxRecDepth 4000 in
set_option maxHeartbeats 4000000 in
theorem some_fg {o p:List Int} {x B:List (List Int)} {left:Int} {W C:List Int} {l:List Bool} {v:Nat} (hv:v < x.length) (hr:∀ j,j < (x.getD v []).length→0≤(x.getD v []).getD j 0∧(x.getD v []).getD j 0 < (l.length:Int)) (h64:(x.getD v []).length≤64) :
  FG Tryz.prog 75 [.own 0,.int .i64 v,.roB l] [(0,some (.box (svA o p x B left 1 2))),(1,some (.ints W)),(2,some (.ints C))] 3 fun g=>g=⟨3,.int .i64 (smF l (x.getD v [])),[(0,some (.box (svA o p x B left 1 2))),(1,some (.ints W)),(2,some (.ints C))]⟩:=by
 refine Zc5 htb (fn:=Tryz.f75) (by kernel_rfl) (by kernel_rfl) rfl (Nat.le_of_ble_eq_true rfl) fun hl=>?_
 simp only [lenP,mkL,lim] at hl
 repeat' first|exact gE|refine gS noSp Zb7 [] ?_|refine gO noSp Zb7 [] ?_ ?_|refine gC ?_ ?_<;>intro hb
 generalize x.getD v []=rw at *
 refine Zag (τ:=Nat) (fun j=>j≤rw.length∧∀ i,i < j→l.getD (rw.getD i 0).toNat false=false) (fun j=>⟨14,[(18,.int .i64 j),(17,.int .i64 rw.length),(16,.roI rw),(6,.int .i64 0),(2,.roB l)],[(0,some (.box (svA o p x B left 1 2))),(1,some (.ints W)),(2,some (.ints C))],[]⟩) (fun j=>rw.length - j) 0 [] ?_ ⟨Nat.zero_le _,fun i hi=>absurd hi (Nat.not_lt_zero i)⟩ ?_
 ·first|exact leZ Zb7|refine leA Zb7 ?_|refine leB Zb7 ?_ ?_
 rintro j ⟨hj,hn⟩
 have hr1:=hr j
 repeat' first|exact gE|refine gS noSp Zb7 [] ?_|refine gO noSp Zb7 [] ?_ ?_|refine gC ?_ ?_<;>intro hb
 ·rw [smF_at (by omega) hn hb]
  refine Zab rfl rfl (Zbe (⟨3,.int .i64 (rw.getD j 0),[(0,some (.box (svA o p x B left 1 2))),(1,some (.ints W)),(2,some (.ints C))]⟩) ([]) rfl rfl (Zal rfl) ?_)
  simp only [grR,zE,evp,evx,ev1,evLoad,evStore,evBin,evIf,Zac,forall_const,z38,tb,reduceAdd,reduceSub,reduceMul,reduceEqDiff,reduceLeDiff,reduceLT,Nat.reduceBEq,Nat.reduceBNe,↓reduceIte,reduceIte,svA]
 ·refine back (j+1) [] ?_ ⟨by omega,fun i hi=>?_⟩ (by omega)
  ·first|exact leZ Zb7|refine leA Zb7 ?_|refine leB Zb7 ?_ ?_
  ·rcases Nat.lt_succ_iff_lt_or_eq.1 hi with h|rfl
   ·exact hn i h
   ·exact hb
 ·have hje:j=rw.length:=by omega
  subst hje
  rw [smF_none hn]
  refine Zab rfl rfl (Zbe (⟨3,.int .i64 (-1),[(0,some (.box (svA o p x B left 1 2))),(1,some (.ints W)),(2,some (.ints C))]⟩) ([]) rfl rfl (Zal rfl) ?_)
  simp only [grR,zE,evp,evx,ev1,evLoad,evStore,evBin,evIf,Zac,forall_const,z38,tb,reduceAdd,reduceSub,reduceMul,reduceEqDiff,reduceLeDiff,reduceLT,Nat.reduceBEq,Nat.reduceBNe,↓reduceIte,reduceIte,svA]
set_option maxRecDepth 4000 in
set_option maxHeartbeats 4000000 in
theorem insd_fg {o p:List Int} {x B:List (List Int)} {left:Int} {W C:List Int} {l:List Bool} {v:Nat} (hv:v < x.length) (hr:∀ j,j < (x.getD v []).length→0≤(x.getD v []).getD j 0∧(x.getD v []).getD j 0 < (l.length:Int)) (h64:(x.getD v []).length≤64) :
  FG Tryz.prog 73 [.own 0,.int .i64 v,.roB l] [(0,some (.box (svA o p x B left 1 2))),(1,some (.ints W)),(2,some (.ints C))] 3 fun g=>g=⟨3,.int .i64 (inN l (x.getD v [])),[(0,some (.box (svA o p x B left 1 2))),(1,some (.ints W)),(2,some (.ints C))]⟩:=by
 refine Zc5 htb (fn:=Tryz.f73) (by kernel_rfl) (by kernel_rfl) rfl (Nat.le_of_ble_eq_true rfl) fun hl=>?_
 simp only [lenP,mkL,lim] at hl
 repeat' first|exact gE|refine gS noSp Zb7 [] ?_|refine gO noSp Zb7 [] ?_ ?_|refine gC ?_ ?_<;>intro hb
 generalize x.getD v []=rw at *
 refine Zag (τ:=Nat) (fun j=>j≤rw.length) (fun j=>⟨15,[(19,.int .i64 j),(18,.int .i64 rw.length),(17,.roI rw),(7,.int .i64 (inN l (rw.take j))),(6,.int .i64 0),(2,.roB l)],[(0,some (.box (svA o p x B left 1 2))),(1,some (.ints W)),(2,some (.ints C))],[]⟩) (fun j=>rw.length - j) 0 [] ?_ (Nat.zero_le _) ?_
 ·first|exact leZ Zb7|refine leA Zb7 ?_|refine leB Zb7 ?_ ?_
  rfl
 intro j hj
 have hr1:=hr j
 have hin:inN l (rw.take j)≤64:=Nat.le_trans List.countP_le_length (by rw [List.length_take];omega)
 have hnx:j < rw.length→inN l (rw.take (j+1))=inN l (rw.take j)+if l.getD (rw.getD j 0).toNat false=true then 1 else 0:=fun h=>by
  unfold inN
  rw [Zff (d:=0) h,List.countP_append,List.countP_cons,List.countP_nil]
  simp
 repeat' first|exact gE|refine gS noSp Zb7 [] ?_|refine gO noSp Zb7 [] ?_ ?_|refine gC ?_ ?_<;>intro hb
 ·refine back (j+1) [] ?_ (by omega) (by omega)
  first|exact leZ Zb7|refine leA Zb7 ?_|refine leB Zb7 ?_ ?_
  rw [hnx (by omega),if_pos hb]
  rfl
 ·refine back (j+1) [] ?_ (by omega) (by omega)
  first|exact leZ Zb7|refine leA Zb7 ?_|refine leB Zb7 ?_ ?_
  rw [hnx (by omega),if_neg (by rw [hb];decide)]
  rfl
 ·have hje:j=rw.length:=by omega
  subst hje
  rw [List.take_length]
  refine Zab rfl rfl (Zbe (⟨3,.int .i64 (inN l rw),[(0,some (.box (svA o p x B left 1 2))),(1,some (.ints W)),(2,some (.ints C))]⟩) ([]) rfl rfl (Zal rfl) ?_)
  simp only [grR,zE,evp,evx,ev1,evLoad,evStore,evBin,evIf,Zac,forall_const,z38,tb,reduceAdd,reduceSub,reduceMul,reduceEqDiff,reduceLeDiff,reduceLT,Nat.reduceBEq,Nat.reduceBNe,↓reduceIte,reduceIte,svA]
open Go Pl
def spMb : Nat→Option Spec
 |55=>some membersS
 |_=>none
theorem Zad : SpOK Tryz.prog spMb:=by
 intro f S h
 unfold spMb at h
 split at h
 ·cases h;exact members_ok
 ·cases h
theorem Ziq {k:List Bool} {n i:Nat} (h:i < (kp k n).length):(kp k n).getD i 0 < n∧k.getD ((kp k n).getD i 0) false=true:=by
 have hm:(kp k n).getD i 0∈kp k n:=by
  rw [List.getD_eq_getElem?_getD,List.getElem?_eq_getElem h];exact List.getElem_mem h
 have:=List.mem_filter.1 hm
 exact ⟨List.mem_range.1 this.1,this.2⟩
def stB (l:List Bool) (f:Nat→Bool) (i:Nat):List Bool:=(List.range l.length).map fun v=>decide (v∈(kp l l.length).take i) && f v
theorem Zjf {l:List Bool} {f:Nat→Bool} {i:Nat}:(stB l f i).length=l.length:=by simp [stB]
theorem Zhg {l:List Bool} {f:Nat→Bool}:List.replicate l.length false=stB l f 0:=List.ext_getElem (by simp [stB]) fun j h1 h2=>by simp [stB]
theorem Zhh {l:List Bool} {f:Nat→Bool} {i:Nat} (h:i < (kp l l.length).length):(stB l f i).set ((kp l l.length).getD i 0) (f ((kp l l.length).getD i 0))=stB l f (i+1):=by
 have hn:(kp l l.length).getD i 0 < l.length:=(Ziq h).1
 refine List.ext_getElem (by simp [stB]) fun j h1 h2=>?_
 rw [List.getElem_set]
 have ht:(kp l l.length).take (i+1)=(kp l l.length).take i++[(kp l l.length).getD i 0]:=Zff (d:=0) h
 by_cases e:(kp l l.length).getD i 0=j
 ·subst e
  rw [if_pos rfl]
  simp only [stB,List.getElem_map,List.getElem_range]
  rw [ht,decide_eq_true (List.mem_append_right _ List.mem_cons_self)];rfl
 ·rw [if_neg e]
  simp only [stB,List.getElem_map,List.getElem_range]
  congr 1
  rw [ht]
  refine decide_eq_decide.2 ⟨fun h=>List.mem_append_left _ h,fun h=>?_⟩
  rcases List.mem_append.1 h with h|h
  ·exact h
  ·exact absurd (List.mem_singleton.1 h).symm e
theorem Zjg {l:List Bool} {f:Nat→Bool}:stB l f (kp l l.length).length=(List.range l.length).map fun v=>l.getD v false && f v:=by
 refine List.map_congr_left fun v hv=>?_
 rw [List.take_length]
 congr 1
 have:v∈kp l l.length↔l.getD v false=true:=⟨fun h=>(List.mem_filter.1 h).2,fun h=>List.mem_filter.2 ⟨hv,h⟩⟩
 by_cases h:l.getD v false=true
 ·rw [h,decide_eq_true (this.2 h)]
 ·rw [Bool.eq_false_iff.2 h,decide_eq_false fun h2=>h (this.1 h2)]
def woL (l b:List Bool):List Bool:=(List.range l.length).map fun v=>l.getD v false && !b.getD v false
def withoutS : Spec
 |[.roB l,.roB b]=>some ⟨l.length≤20000∧b.length=l.length,.roB (woL l b),none⟩
 |_=>none
def Zdl := Hd.mk (And.intro @spMb.eq_1<|@membersS.eq_1)
set_option maxRecDepth 4000 in
set_option maxHeartbeats 4000000 in
theorem without_ok : Zcn Tryz.prog 54 withoutS:=by
 refine Zaw htb (fn:=Tryz.f54) (by kernel_rfl) (by kernel_rfl) rfl (fun args r hS=>?_) (fun args r hS hob hl=>?_)
 ·unfold withoutS at hS;split at hS<;>first|(cases hS;done)|(cases hS;exact Nat.le_of_ble_eq_true rfl)
 unfold withoutS at hS
 split at hS
 case h_2=>cases hS
 rename_i l b
 simp only [Option.some.injEq] at hS
 subst hS
 simp only [lenP,mkL,lim] at hl
 dsimp only at hob
 obtain ⟨hn,hbl⟩:=hob
 have hkl:=Zkb (k:=l) (n:=l.length)
 obtain ⟨F,hF⟩:∃ F:Nat→List Bool,F=stB l fun v => !b.getD v false:=⟨_,rfl⟩
 have hFl:∀ i,(F i).length=l.length:=fun i=>by rw [hF];exact Zjf
 have hFn:∀ i,i < (kp l l.length).length→(F i).set ((kp l l.length).getD i 0) (!b.getD ((kp l l.length).getD i 0) false)=F (i+1):=fun i h=>by rw [hF];exact Zhh h
 repeat' first|exact gE|refine gS Zad Zdl [] ?_|refine gO Zad Zdl [] ?_ ?_|refine gC ?_ ?_<;>intro hb
 refine Zfm ⟨6,[(11,.fn 74 (.cons (.rop (.roB l)) .nil)),(5,.own 5),(3,.rop (.roB b))],[(4,some (.bools (F 0))),(5,some (.box (.own 4)))],[]⟩ [] ?_ ?_
 ·first|exact leZ Zdl|refine leA Zdl ?_|refine leB Zdl ?_ ?_
  rw [hF]
  exact Zhg
 refine Zeb (m:=6) (M:=6) (fun i=>i≤(kp l l.length).length) (fun _:Nat=>False) (fun i=>(((kp l l.length).getD i 0:Nat):Int)) (fun i=>i < (kp l l.length).length) (fun i i'=>i'=i+1) (fun i=>i=0) (fun i=>i=(kp l l.length).length) .ret (fun i=>[(4,some (.bools (F i))),(5,some (.box (.own 4)))]) [] 0 (Zcw l _ _ id fun t h=>h) (Nat.zero_le _) rfl rfl rfl rfl rfl rfl rfl (fun k hk=>by cases hk) (fun t k B _ hk=>Zhm (M:=6) (l:=[(4,some (.bools (F t))),(5,some (.box (.own 4)))]) ⟨⟨rfl,trivial⟩,⟨rfl,rfl⟩,trivial⟩ k B hk) ?_ ?_ ?_
 ·intro lp i hi hg
  obtain ⟨hv1,hv2⟩:=Ziq hg
  have hFn1:=hFn i hg
  generalize hvv:(kp l l.length).getD i 0=v at *
  have hFi:=hFl i
  refine gR Zad Zdl ?_ ?_
  ·first|exact oA|skip
  refine ⟨rfl,?_⟩
  repeat' first|exact gE|refine gS Zad Zdl [] ?_|refine gO Zad Zdl [] ?_ ?_|refine gC ?_ ?_<;>intro hb
  refine ⟨_,i+1,[],rfl,?_,.inl ⟨rfl,hg,rfl⟩⟩
  first|exact leZ Zdl|refine leA Zdl ?_|refine leB Zdl ?_ ?_
  exact hFn1
 ·intro i hi hfin
  have hfin:i=(kp l l.length).length:=hfin
  repeat' first|exact gE|refine gS Zad Zdl [5] ?_|refine gO Zad Zdl [5] ?_ ?_|refine gC ?_ ?_<;>intro hb
  refine Zbb 4 (.roB (F i)) ?_
  repeat' first|exact gE|refine gS Zad Zdl [] ?_|refine gO Zad Zdl [] ?_ ?_|refine gC ?_ ?_<;>intro hb
  refine ⟨_,_,rfl,rfl,fun k hk=>by rw [List.mem_singleton.1 hk];rfl,(by show [6].Nodup;decide),Nat.zero_le _,Zae rfl ?_ rfl⟩
  subst hfin
  show AV.roB (F _)=AV.roB (woL l b)
  rw [hF,Zjg]
  rfl
 ·intro t h;exact h.elim
open Go Pl
def tpL (p:List Int) (ks:List Nat):Int:=ks.foldl (fun m v=>max m (p.getD v 0)) (-1)
theorem tpL_next {p:List Int} {ks:List Nat} {i:Nat} (h:i < ks.length):max (tpL p (ks.take i)) (p.getD (ks.getD i 0) 0)=tpL p (ks.take (i+1)):=by
 rw [Zff (d:=0) h]
 unfold tpL
 rw [List.foldl_append];rfl
def tpP (p:List Int) (l:List Bool):Int:=tpL p (kp l l.length)
def tpU (p:List Int) (l:List Bool):List Bool:=(List.range l.length).map fun v=>l.getD v false && decide (p.getD v 0=tpP p l)
def Zb0 := Hd.mk (And.intro @svA.eq_1<|And.intro @spMb.eq_1<|@membersS.eq_1)
set_option maxRecDepth 4000 in
set_option maxHeartbeats 4000000 in
theorem top_fg {o p:List Int} {x B:List (List Int)} {left:Int} {W C:List Int} {l:List Bool} (hn:l.length≤20000) (hp:p.length=l.length) :
  FG Tryz.prog 51 [.own 0,.roB l] [(0,some (.box (svA o p x B left 1 2))),(1,some (.ints W)),(2,some (.ints C))] 3 fun g=>g=⟨3,resV [.roB (tpU p l),.int .i64 (tpP p l),.bool (decide (0≤tpP p l))],[(0,some (.box (svA o p x B left 1 2))),(1,some (.ints W)),(2,some (.ints C))]⟩:=by
 have hkl:=Zkb (k:=l) (n:=l.length)
 obtain ⟨T,hT⟩:∃ T:Nat→Int,T=fun i=>tpL p ((kp l l.length).take i):=⟨_,rfl⟩
 obtain ⟨F,hF⟩:∃ F:Nat→List Bool,F=stB l fun v=>decide (p.getD v 0=tpP p l):=⟨_,rfl⟩
 have hFl:∀ i,(F i).length=l.length:=fun i=>by rw [hF];exact Zjf
 have hFn:∀ i,i < (kp l l.length).length→(F i).set ((kp l l.length).getD i 0) (decide (p.getD ((kp l l.length).getD i 0) 0=tpP p l))=F (i+1):=fun i h=>by rw [hF];exact Zhh h
 have hTn:∀ i,i < (kp l l.length).length→max (T i) (p.getD ((kp l l.length).getD i 0) 0)=T (i+1):=fun i h=>by rw [hT];exact tpL_next h
 refine Zc5 htb (fn:=Tryz.f51) (by kernel_rfl) (by kernel_rfl) rfl (Nat.le_of_ble_eq_true rfl) fun hl=>?_
 simp only [lenP,mkL,lim] at hl
 repeat' first|exact gE|refine gS Zad Zb0 [] ?_|refine gO Zad Zb0 [] ?_ ?_|refine gC ?_ ?_<;>intro hb
 refine Zfm ⟨11,[(12,.fn 74 (.cons (.rop (.roB l)) .nil)),(7,.own 7),(2,.own 3),(1,.roB l)],[(7,some (.box (.int .i64 (T 0)))),(3,some (.box (.own 0))),(0,some (.box (svA o p x B left 1 2))),(1,some (.ints W)),(2,some (.ints C))],[]⟩ [] ?_ ?_
 ·first|exact leZ Zb0|refine leA Zb0 ?_|refine leB Zb0 ?_ ?_
  rw [hT]
  rfl
 refine Zeb (m:=11) (M:=11) (fun i=>i≤(kp l l.length).length) (fun _:Nat=>False) (fun i=>(((kp l l.length).getD i 0:Nat):Int)) (fun i=>i < (kp l l.length).length) (fun i i'=>i'=i+1) (fun i=>i=0) (fun i=>i=(kp l l.length).length) .ret (fun i=>[(7,some (.box (.int .i64 (T i)))),(3,some (.box (.own 0))),(0,some (.box (svA o p x B left 1 2))),(1,some (.ints W)),(2,some (.ints C))]) [] 0 (Zcw l _ _ id fun t h=>h) (Nat.zero_le _) rfl rfl rfl rfl rfl rfl rfl (fun k hk=>by cases hk) (fun t k B _ hk=>Zhm (M:=11) (l:=[(7,some (.box (.int .i64 (T t)))),(3,some (.box (.own 0))),(0,some (.box (svA o p x _ left 1 2))),(1,some (.ints W)),(2,some (.ints C))]) ⟨⟨rfl,rfl⟩,⟨rfl,rfl⟩,⟨rfl,rfl⟩,⟨rfl,trivial⟩,⟨rfl,trivial⟩,trivial⟩ k B hk) ?_ ?_ ?_
 ·intro lp i hi hg
  obtain ⟨hv1,hv2⟩:=Ziq hg
  have hTn1:=hTn i hg
  generalize hvv:(kp l l.length).getD i 0=v at *
  refine gR Zad Zb0 ?_ ?_
  ·first|exact oA|skip
  refine ⟨rfl,?_⟩
  repeat' first|exact gE|refine gS Zad Zb0 [] ?_|refine gO Zad Zb0 [] ?_ ?_|refine gC ?_ ?_<;>intro hb
  refine ⟨_,i+1,[],rfl,?_,.inl ⟨rfl,hg,rfl⟩⟩
  first|exact leZ Zb0|refine leA Zb0 ?_|refine leB Zb0 ?_ ?_
  exact hTn1
 ·intro i hi hfin
  have hfin:i=(kp l l.length).length:=hfin
  have hTi:T i=tpP p l:=by rw [hT,hfin];show tpL p (List.take _ _)=_;rw [List.take_length];rfl
  rw [hTi]
  generalize htt:tpP p l=tt at *
  repeat' first|exact gE|refine gS Zad Zb0 [] ?_|refine gO Zad Zb0 [] ?_ ?_|refine gC ?_ ?_<;>intro hb
  refine Zfm ⟨19,[(28,.fn 74 (.cons (.rop (.roB l)) .nil)),(9,.own 15),(7,.own 7),(2,.own 3)],[(15,some (.box (.own 14))),(14,some (.bools (F 0))),(11,some .dfr),(7,some (.box (.int .i64 tt))),(3,some (.box (.own 0))),(0,some (.box (svA o p x B left 1 2))),(1,some (.ints W)),(2,some (.ints C))],[11]⟩ [] ?_ ?_
  ·first|exact leZ Zb0|refine leA Zb0 ?_|refine leB Zb0 ?_ ?_
   rw [hF]
   exact Zhg
  refine Zeb (m:=19) (M:=19) (fun i=>i≤(kp l l.length).length) (fun _:Nat=>False) (fun i=>(((kp l l.length).getD i 0:Nat):Int)) (fun i=>i < (kp l l.length).length) (fun i i'=>i'=i+1) (fun i=>i=0) (fun i=>i=(kp l l.length).length) .ret (fun i=>[(15,some (.box (.own 14))),(14,some (.bools (F i))),(11,some .dfr),(7,some (.box (.int .i64 tt))),(3,some (.box (.own 0))),(0,some (.box (svA o p x B left 1 2))),(1,some (.ints W)),(2,some (.ints C))]) [11] 0 (Zcw l _ _ id fun t h=>h) (Nat.zero_le _) rfl rfl rfl rfl rfl rfl rfl (fun k hk=>by rw [List.mem_singleton.1 hk];rfl) (fun t k B _ hk=>Zhm (M:=19) (l:=[(15,some (.box (.own 14))),(14,some (.bools (F t))),(11,some .dfr),(7,some (.box (.int .i64 tt))),(3,some (.box (.own 0))),(0,some (.box (svA o p x _ left 1 2))),(1,some (.ints W)),(2,some (.ints C))]) ⟨⟨rfl,rfl⟩,⟨rfl,trivial⟩,⟨rfl,trivial⟩,⟨rfl,rfl⟩,⟨rfl,rfl⟩,⟨rfl,rfl⟩,⟨rfl,trivial⟩,⟨rfl,trivial⟩,trivial⟩ k B hk) ?_ ?_ ?_
  ·intro lp i hi hg
   obtain ⟨hv1,hv2⟩:=Ziq hg
   have hFn1:=hFn i hg
   generalize hvv:(kp l l.length).getD i 0=v at *
   have hFi:=hFl i
   refine gR Zad Zb0 ?_ ?_
   ·first|exact oA|skip
   refine ⟨rfl,?_⟩
   repeat' first|exact gE|refine gS Zad Zb0 [] ?_|refine gO Zad Zb0 [] ?_ ?_|refine gC ?_ ?_<;>intro hb
   refine ⟨_,i+1,[],rfl,?_,.inl ⟨rfl,hg,rfl⟩⟩
   first|exact leZ Zb0|refine leA Zb0 ?_|refine leB Zb0 ?_ ?_
   exact hFn1
  ·intro i hi hfin
   have hfin:i=(kp l l.length).length:=hfin
   repeat' first|exact gE|refine gS Zad Zb0 [9] ?_|refine gO Zad Zb0 [9] ?_ ?_|refine gC ?_ ?_<;>intro hb
   refine Zbb 14 (.roB (F i)) ?_
   repeat' first|exact gE|refine gS Zad Zb0 [] ?_|refine gO Zad Zb0 [] ?_ ?_|refine gC ?_ ?_<;>intro hb
   have hFe:F i=tpU p l:=by rw [hF,hfin,Zjg,tpU,htt]
   refine ⟨_,_,rfl,rfl,fun k hk=>?_,(by show [19,11].Nodup;decide),by show 3≤20+7;omega,Zbe ⟨3,resV [.roB (tpU p l),.int .i64 tt,.bool (decide (0≤tt))],[(0,some (.box (svA o p x B left 1 2))),(1,some (.ints W)),(2,some (.ints C))]⟩ [] rfl rfl (Zal ?_) ?_⟩
   ·rcases List.mem_cons.1 hk with rfl|hk
    ·rfl
    ·rw [List.mem_singleton.1 hk];rfl
   ·rw [←hFe];rfl
   ·simp only [grR,zE,evp,evx,ev1,evLoad,evStore,evBin,evIf,Zac,forall_const,z38,tb,reduceAdd,reduceSub,reduceMul,reduceEqDiff,reduceLeDiff,reduceLT,Nat.reduceBEq,Nat.reduceBNe,↓reduceIte,reduceIte,svA,spMb,membersS]
  ·intro t h;exact h.elim
 ·intro t h;exact h.elim
open Go Pl
def fiL {α:Type} (y z:α) (n i:Nat):List α:=List.replicate i y++List.replicate (n - i) z
theorem Zlb {α:Type} {y z:α} {n i:Nat} (h:i≤n):(fiL y z n i).length=n:=by simp [fiL];omega
theorem fiL_zero {α:Type} {y z:α} {n:Nat}:fiL y z n 0=List.replicate n z:=by simp [fiL]
theorem fiL_all {α:Type} {y z:α} {n:Nat}:fiL y z n n=List.replicate n y:=by simp [fiL]
theorem fiL_next {α:Type} {y z:α} {n i:Nat} (h:i < n):(fiL y z n i).set i y=fiL y z n (i+1):=by
 refine List.ext_getElem (by rw [List.length_set,Zlb (Nat.le_of_lt h),Zlb h]) fun j h1 h2=>?_
 rw [List.getElem_set]
 simp only [fiL,List.getElem_append,List.length_replicate,List.getElem_replicate]
 by_cases e:i=j
 ·subst e
  rw [if_pos rfl,dif_pos (Nat.lt_succ_self i)]
 ·rw [if_neg e]
  by_cases hj:j < i
  ·rw [dif_pos hj,dif_pos (by omega)]
  ·rw [dif_neg hj,dif_neg (by omega)]
def alzS : Spec
 |[.int .i64 n]=>some ⟨0≤n∧n≤20000,.roB (List.replicate n.toNat true),none⟩
 |_=>none
set_option maxRecDepth 4000 in
set_option maxHeartbeats 4000000 in
theorem alz_ok : Zcn Tryz.prog 15 alzS:=by
 refine Zaw htb (fn:=Tryz.f15) (by kernel_rfl) (by kernel_rfl) rfl (fun args r hS=>?_) (fun args r hS hob hl=>?_)
 ·unfold alzS at hS;split at hS<;>first|(cases hS;done)|(cases hS;exact Nat.le_of_ble_eq_true rfl)
 unfold alzS at hS
 split at hS
 case h_2=>cases hS
 rename_i n
 simp only [Option.some.injEq] at hS
 subst hS
 simp only [lenP,mkL,lim] at hl
 dsimp only at hob
 obtain ⟨hn0,hn⟩:=hob
 obtain ⟨k,rfl⟩:=Int.eq_ofNat_of_zero_le hn0
 rw [Int.toNat_natCast]
 obtain ⟨F,hF⟩:∃ F:Nat→List Bool,F=fiL true false k:=⟨_,rfl⟩
 have hFl:∀ i,i≤k→(F i).length=k:=fun i h=>by rw [hF];exact Zlb h
 have hFn:∀ i,i < k→(F i).set i true=F (i+1):=fun i h=>by rw [hF];exact fiL_next h
 repeat' first|exact gE|refine gS noSp x0 [] ?_|refine gO noSp x0 [] ?_ ?_|refine gC ?_ ?_<;>intro hb
 refine Zag (τ:=Nat) (fun i=>i≤k) (fun i=>⟨6,[(9,.int .i64 i),(8,.int .i64 k),(3,.own 2)],[(2,some (.bools (F i)))],[]⟩) (fun i=>k - i) 0 [] ?_ (Nat.zero_le _) ?_
 ·first|exact leZ x0|refine leA x0 ?_|refine leB x0 ?_ ?_
  ·rw [List.length_replicate]
  ·rw [hF,fiL_zero]
 intro i hi
 have hFi:=hFl i hi
 have hFn1:=hFn i
 repeat' first|exact gE|refine gS noSp x0 [7] ?_|refine gO noSp x0 [7] ?_ ?_|refine gC ?_ ?_<;>intro hb
 ·refine back (i+1) [] ?_ (by omega) (by omega)
  first|exact leZ x0|refine leA x0 ?_|refine leB x0 ?_ ?_
  exact hFn1 (by omega)
 have hie:i=k:=by omega
 subst hie
 refine Zbb 2 (.roB (F i)) ?_
 repeat' first|exact gE|refine gS noSp x0 [] ?_|refine gO noSp x0 [] ?_ ?_|refine gC ?_ ?_<;>intro hb
 refine Zab rfl rfl (Zae rfl ?_ rfl)
 rw [hF,fiL_all]
 rfl
set_option maxRecDepth 4000 in
set_option maxHeartbeats 4000000 in
theorem solverOf_fg {o p:List Int} {x:List (List Int)} (hob:Zau ⟨o,p,x⟩=true) :
  FG Tryz.prog 29 [.agg (.cons (.roI o) (.cons (.roI p) (.cons (.roII x) .nil)))] [] 0 fun g=>g=⟨3,.own 0,[(0,some (.box (svA o p x (Zbf x) 131072 1 2))),(1,some (.ints (List.replicate x.length (-1)))),(2,some (.ints (List.replicate x.length (-1))))]⟩:=by
 have hV:=validB_iff.1 hob
 obtain ⟨hn,hpl,hxl,hpos⟩:=id hV
 simp only [Gm.n] at hn hpl hxl
 have hrl:∀ v,v < x.length→(x.getD v []).length≤64:=fun v h=>by
  obtain ⟨⟨a1,a2,a3,a4,_,a6⟩,_⟩:=hpos v (by simp only [Gm.n];omega)
  exact a6
 have hrb:∀ v,v < x.length→∀ j,j < (x.getD v []).length→0≤(x.getD v []).getD j 0∧(x.getD v []).getD j 0 < o.length:=fun v h j hj=>by
  obtain ⟨_,hr⟩:=hpos v (by simp only [Gm.n];omega)
  exact ⟨(hr j hj).1,(hr j hj).2.1⟩
 have hb4:∀ i t,i≤x.length→(bkI x t i).length≤64 * i:=fun i t hi=>Zjz hrl i hi
 obtain ⟨F,hF⟩:∃ F:Nat→List Int,F=fiL (-1) 0 x.length:=⟨_,rfl⟩
 have hFl:∀ i,i≤x.length→(F i).length=x.length:=fun i h=>by rw [hF];exact Zlb h
 have hFn:∀ i,i < x.length→(F i).set i (-1)=F (i+1):=fun i h=>by rw [hF];exact fiL_next h
 refine Zc5 htb (fn:=Tryz.f29) (by kernel_rfl) (by kernel_rfl) rfl (Nat.le_of_ble_eq_true rfl) fun hl=>?_
 simp only [lenP,mkL,lim] at hl
 repeat' first|exact gE|refine gS noSp x0 [] ?_|refine gO noSp x0 [] ?_ ?_|refine gC ?_ ?_<;>intro hb
 refine Zag (τ:=Nat) (fun i=>i≤x.length) (fun i=>⟨21,[(25,.int .i64 i),(24,.int .i64 x.length),(23,.roII x),(4,.own 15),(1,.rop (.agg (.cons (.roI o) (.cons (.roI p) (.cons (.roII x) .nil)))))],[(15,some (.box (.agg (.cons (.roI o) (.cons (.roI p) (.cons (.roII x) (.cons (.own 8) (.cons (.int .i64 131072) (.cons (.own 10) (.cons (.own 12) .nil)))))))))),(8,some (.rows ((List.range x.length).map fun t=>bkI x t i))),(10,some (.ints (F i))),(12,some (.ints (F i)))],[]⟩) (fun i=>x.length - i) 0 [] ?_ (Nat.zero_le _) ?_
 ·first|exact leZ x0|refine leA x0 ?_|refine leB x0 ?_ ?_
  refine ⟨?_,?_⟩
  ·rw [←hxl]
   refine List.ext_getElem (by simp) fun j h1 h2=>?_
   simp [bkI]
  ·rw [hF,fiL_zero,hxl]
 intro i hi
 have hFi:=hFl i hi
 repeat' first|exact gE|refine gS noSp x0 [13] ?_|refine gO noSp x0 [13] ?_ ?_|refine gC ?_ ?_<;>intro hb
 ·have hil:i < x.length:=by omega
  have hrb:=hrb i hil
  have hrl:=hrl i hil
  have hFn1:=hFn i hil
  have hj0:∀ t,bkJ x t i (x.getD i []).length=bkI x t (i+1):=fun t=>bkJ_all
  have hjs:∀ t j,j < (x.getD i []).length→bkJ x t i (j+1)=if (x.getD i []).getD j 0=(t:Int) then bkJ x t i j++[(i:Int)] else bkJ x t i j:=fun t j h=>bkJ_succ h
  have hjl:∀ t j,(bkJ x t i j).length≤64 * i+64:=fun t j=>by
   have h1:=hb4 i t hi
   have h2:((x.getD i []).take j).count (t:Int)≤((x.getD i []).take j).length:=List.count_le_length
   have h3:((x.getD i []).take j).length≤(x.getD i []).length:=by rw [List.length_take];omega
   simp only [bkJ,List.length_append,List.length_replicate];omega
  generalize hrw:x.getD i []=rw at *
  refine Zag (τ:=Nat) (fun j=>j≤rw.length) (fun j=>⟨21,[(46,.int .i64 j),(45,.int .i64 rw.length),(44,.roI rw),(5,.int .i64 i),(25,.int .i64 i),(24,.int .i64 x.length),(23,.roII x),(4,.own 15),(1,.rop (.agg (.cons (.roI o) (.cons (.roI p) (.cons (.roII x) .nil)))))],[(15,some (.box (.agg (.cons (.roI o) (.cons (.roI p) (.cons (.roII x) (.cons (.own 8) (.cons (.int .i64 131072) (.cons (.own 10) (.cons (.own 12) .nil)))))))))),(8,some (.rows ((List.range x.length).map fun t=>bkJ x t i j))),(10,some (.ints (F (i+1)))),(12,some (.ints (F (i+1))))],[]⟩) (fun j=>rw.length - j) 0 [] ?_ (Nat.zero_le _) ?_
  ·first|exact leZ x0|refine leA x0 ?_|refine leB x0 ?_ ?_
   simp only [bkJ_zero]
   exact ⟨trivial,hFn1⟩
  intro j hj
  have hrb:=hrb j
  have hget:∀ t,t < x.length→((List.range x.length).map fun t=>bkJ x t i j).getD t []=bkJ x t i j:=fun t ht=>by simp [List.getD_eq_getElem?_getD,ht]
  have hlen:((List.range x.length).map fun t=>bkJ x t i j).length=x.length:=by simp
  repeat' first|exact gE|refine gS noSp x0 [13] ?_|refine gO noSp x0 [13] ?_ ?_|refine gC ?_ ?_<;>intro hb
  ·have hjr:j < rw.length:=by omega
   obtain ⟨c1,c2⟩:=hrb hjr
   have h1:=hget (rw.getD j 0).toNat (by omega)
   have h2:=hjl (rw.getD j 0).toNat j
   rw [h1,hlen]
   exact Ob.mk ⟨⟨⟨⟨⟨by omega,by omega⟩,by omega⟩,by omega⟩,by omega,by omega⟩,by omega⟩
  ·have hjr:j < rw.length:=by omega
   obtain ⟨c1,c2⟩:=hrb hjr
   refine back (j+1) [] ?_ (by omega) (by omega)
   first|exact leZ x0|refine leA x0 ?_|refine leB x0 ?_ ?_
   refine Zmr (fun ht=>?_) fun s hs=>?_
   ·rw [hjs _ j hjr,if_pos (by omega),hget _ ht]
   ·rw [hjs _ j hjr,if_neg (by omega)]
  ·have hje:j=rw.length:=by omega
   subst hje
   refine back (i+1) [] ?_ (by omega) (by omega)
   first|exact leZ x0|refine leA x0 ?_|refine leB x0 ?_ ?_
   exact List.map_congr_left fun t _=>hj0 t
 have hie:i=x.length:=by omega
 subst hie
 refine Zbb 8 (.roII ((List.range x.length).map fun t=>bkI x t x.length)) ?_
 repeat' first|exact gE|refine gS noSp x0 [] ?_|refine gO noSp x0 [] ?_ ?_|refine gC ?_ ?_<;>intro hb
 have hFe:F x.length=List.replicate x.length (-1):=by rw [hF,fiL_all]
 refine Zab rfl rfl (Zbe (⟨3,.own 0,[(0,some (.box (svA o p x (Zbf x) 131072 1 2))),(1,some (.ints (List.replicate x.length (-1)))),(2,some (.ints (List.replicate x.length (-1))))]⟩) ([(0,15),(1,10),(2,12)]) rfl rfl (Zal rfl) ?_)
 simp only [grR,zE,evp,evx,ev1,evLoad,evStore,evBin,evIf,Zac,forall_const,z38,tb,reduceAdd,reduceSub,reduceMul,reduceEqDiff,reduceLeDiff,reduceLT,Nat.reduceBEq,Nat.reduceBNe,↓reduceIte,reduceIte]
 exact ⟨⟨rfl,rfl⟩,congrArg (fun l=>some (Blk.ints l)) hFe⟩
open Go Pl
def Zi0 : List PanicEntry:=panicV 73
def xW13f_1 := Hd.mk (@svA.eq_1)
set_option maxRecDepth 4000 in
set_option maxHeartbeats 4000000 in
theorem count_fp {o p:List Int} {x B:List (List Int)} {left:Int} {W C:List Int} (hl0:0≤left) (hl1:left≤131072) :
  FP Tryz.prog 50 [.own 0] [(0,some (.box (svA o p x B left 1 2))),(1,some (.ints W)),(2,some (.ints C))] 3 (fun c=>c=Zi0∧left=0) fun g=>0 < left∧g=⟨3,resV [],[(0,some (.box (svA o p x B (left - 1) 1 2))),(1,some (.ints W)),(2,some (.ints C))]⟩:=by
 refine Zoq htb (fn:=Tryz.f50) (by kernel_rfl) (by kernel_rfl) rfl (Nat.le_of_ble_eq_true rfl) fun hl=>?_
 simp only [lenP,mkL,lim] at hl
 repeat' first|exact gE|refine gS noSp xW13f_1 [2] ?_|refine gO noSp xW13f_1 [2] ?_ ?_|refine gC ?_ ?_<;>intro hb
 ·exact awp_panicS (d1:=14) (d2:=15) (fun w=>by kernel_rfl) (fun w=>by kernel_rfl) ⟨rfl,rfl,rfl⟩ ⟨rfl,rfl,rfl⟩ ⟨rfl,rfl⟩ ⟨rfl,rfl⟩ (panP ⟨rfl,by omega⟩ (fun k hk=>by cases hk) List.nodup_nil)
 ·refine normalP ?_
  refine Zc0 rfl rfl (Zbe ⟨3,resV [],[(0,some (.box (svA o p x B (left - 1) 1 2))),(1,some (.ints W)),(2,some (.ints C))]⟩ [] ⟨by omega,rfl⟩ rfl (Zal rfl) ?_)
  simp only [grR,zE,evp,evx,ev1,evLoad,evStore,evBin,evIf,Zac,forall_const,z38,tb,reduceAdd,reduceSub,reduceMul,reduceEqDiff,reduceLeDiff,reduceLT,Nat.reduceBEq,Nat.reduceBNe,↓reduceIte,reduceIte,svA]
open Go Pl
def Zg4 := Hd.mk (@svA.eq_1)
theorem take1_fg {o p:List Int} {x B:List (List Int)} {left:Int} {W C:List Int} {es:List (Int × Int × Nat)} {c:Nat} {v w:Int} :
  FG Tryz.prog 53 [.int .i64 v,.int .i64 w,.own 3] [(0,some (.box (svA o p x B left 1 2))),(1,some (.ints W)),(2,some (.ints C)),(3,some (.box (.own 4))),(4,some (.mp es c))] 5 fun g=>g=⟨5,resV [],[(0,some (.box (svA o p x B left 1 2))),(1,some (.ints W)),(2,some (.ints C)),(3,some (.box (.own 4))),(4,some (.mp (mput v w c es) (mclk v c es)))]⟩:=by
 refine Zc5 htb (fn:=Tryz.f53) (by kernel_rfl) (by kernel_rfl) rfl (Nat.le_of_ble_eq_true rfl) fun hl=>?_
 simp only [lenP,mkL,lim] at hl
 repeat' first|exact gE|refine gS noSp Zg4 [] ?_|refine gO noSp Zg4 [] ?_ ?_|refine gC ?_ ?_<;>intro hb
 refine Zc0 rfl rfl (Zbe (⟨5,resV [],[(0,some (.box (svA o p x B left 1 2))),(1,some (.ints W)),(2,some (.ints C)),(3,some (.box (.own 4))),(4,some (.mp (mput v w c es) (mclk v c es)))]⟩) ([]) rfl rfl (Zal rfl) ?_)
 simp only [grR,zE,evp,evx,ev1,evLoad,evStore,evBin,evIf,Zac,forall_const,z38,tb,reduceAdd,reduceSub,reduceMul,reduceEqDiff,reduceLeDiff,reduceLT,Nat.reduceBEq,Nat.reduceBNe,↓reduceIte,reduceIte,svA]
theorem take2_fg {o p:List Int} {x B:List (List Int)} {left:Int} {W C:List Int} {pl:Int} {v:Nat} {w:Int} (hv:v < o.length) (hW:W.length=o.length) (hC:C.length=o.length) (hpl:pl=0∨pl=1) :
  FG Tryz.prog 57 [.int .i64 v,.int .i64 w,.own 3,.own 4] [(0,some (.box (svA o p x B left 1 2))),(1,some (.ints W)),(2,some (.ints C)),(3,some (.box (.own 0))),(4,some (.box (.int .i64 pl)))] 5 fun g=>g=⟨5,resV [],[(0,some (.box (svA o p x B left 1 2))),(1,some (.ints (W.set v (1 - pl)))),(2,some (.ints (C.set v (if o.getD v 0=1 - pl then w else -1)))),(3,some (.box (.own 0))),(4,some (.box (.int .i64 pl)))]⟩:=by
 refine Zc5 htb (fn:=Tryz.f57) (by kernel_rfl) (by kernel_rfl) rfl (Nat.le_of_ble_eq_true rfl) fun hl=>?_
 simp only [lenP,mkL,lim] at hl
 refine Za2 ([_,_,_,_,_]) ([]) rfl rfl ?_
 refine gTn noSp Zg4 ?_ ?_
 ·first|exact oA|skip
 refine gCl ([0,1,2]) (Znq (o:=o) (p:=p) (x:=x) (B:=B) (left:=left) (W:=W) (C:=C) (v:=v) (pl:=1 - pl) (to:=w) hv hW hC) Zg4 ?_
 refine gT noSp Zg4 ?_ ?_
 ·first|exact oA|skip
 repeat' first|exact gE|refine gS noSp Zg4 [] ?_|refine gO noSp Zg4 [] ?_ ?_|refine gC ?_ ?_<;>intro hb
 refine Zc0 rfl rfl (Zbe (⟨5,resV [],[(0,some (.box (svA o p x B left 1 2))),(1,some (.ints (W.set v (1 - pl)))),(2,some (.ints (C.set v (if o.getD v 0=1 - pl then w else -1)))),(3,some (.box (.own 0))),(4,some (.box (.int .i64 pl)))]⟩) ([]) rfl rfl (Zal rfl) ?_)
 simp only [grR,zE,evp,evx,ev1,evLoad,evStore,evBin,evIf,Zac,forall_const,z38,tb,reduceAdd,reduceSub,reduceMul,reduceEqDiff,reduceLeDiff,reduceLT,Nat.reduceBEq,Nat.reduceBNe,↓reduceIte,reduceIte,svA]
open Go Pl
def fsL (f:Nat→Int) (ks:List Nat) (W:List Int):List Int:=ks.foldl (fun W v=>W.set v (f v)) W
theorem fsL_len {f:Nat→Int}:∀ {ks:List Nat} {W:List Int},(fsL f ks W).length=W.length
 |[],_=>rfl
 |v :: ks,W=>by
  show (fsL f ks (W.set v (f v))).length=_
  rw [fsL_len,List.length_set]
theorem fsL_snoc {f:Nat→Int} {ks:List Nat} {v:Nat} {W:List Int}:fsL f (ks++[v]) W=(fsL f ks W).set v (f v):=by
 unfold fsL;rw [List.foldl_append];rfl
theorem fsL_next {f:Nat→Int} {ks:List Nat} {i:Nat} {W:List Int} (h:i < ks.length):(fsL f (ks.take i) W).set (ks.getD i 0) (f (ks.getD i 0))=fsL f (ks.take (i+1)) W:=by
 rw [Zff (d:=0) h,fsL_snoc]
theorem Zk9 {f:Nat→Int} {v:Nat}:∀ {ks:List Nat} {W:List Int},(∀ k,k∈ks→k < W.length)→(fsL f ks W).getD v 0=if v∈ks then f v else W.getD v 0
 |[],_,_=>by rw [if_neg List.not_mem_nil];rfl
 |k :: ks,W,h=>by
  have hk:=h k List.mem_cons_self
  show (fsL f ks (W.set k (f k))).getD v 0=_
  rw [Zk9 (ks:=ks) fun j hj=>by rw [List.length_set];exact h j (List.mem_cons_of_mem _ hj),Zb5 hk]
  by_cases hv:v∈ks
  ·rw [if_pos hv,if_pos (List.mem_cons_of_mem _ hv)]
  ·rw [if_neg hv]
   by_cases e:v=k
   ·rw [if_pos e,if_pos (by rw [e];exact List.mem_cons_self),e]
   ·rw [if_neg e,if_neg (by simp only [List.mem_cons,not_or];exact ⟨e,hv⟩)]
def stC (o:List Int) (x:List (List Int)) (u l:List Bool) (pl:Int) (es:List (Int × Int × Nat)) (v:Nat):Int :=
 if o.getD v 0=pl then (if mhas v es=false∨u.getD v false=true then smF l (x.getD v []) else mget v es) else -1
def Zbo := Hd.mk (And.intro @svA.eq_1<|And.intro @spMb.eq_1<|@membersS.eq_1)
set_option maxRecDepth 4000 in
set_option maxHeartbeats 4000000 in
theorem settle_fg {o p:List Int} {x B:List (List Int)} {left:Int} {W C:List Int} {a u l:List Bool} {pl:Int} {es:List (Int × Int × Nat)} {c:Nat} (hn:o.length≤20000) (hxl:x.length=o.length) (hal:a.length=o.length) (hul:u.length=o.length) (hll:l.length=o.length) (hW:W.length=o.length) (hC:C.length=o.length)
  (hr:∀ v,v < o.length→∀ j,j < (x.getD v []).length→0≤(x.getD v []).getD j 0∧(x.getD v []).getD j 0 < (o.length:Int)) (h64:∀ v,v < o.length→(x.getD v []).length≤64) :
  FG Tryz.prog 56 [.own 0,.roB a,.roB u,.roB l,.int .i64 pl,.own 3] [(0,some (.box (svA o p x B left 1 2))),(1,some (.ints W)),(2,some (.ints C)),(3,some (.mp es c))] 4
   fun g=>g=⟨4,resV [],[(0,some (.box (svA o p x B left 1 2))),(1,some (.ints (fsL (fun _=>pl) (kp a o.length) W))),(2,some (.ints (fsL (stC o x u l pl es) (kp a o.length) C))),(3,some (.mp es c))]⟩:=by
 have hkl:=Zkb (k:=a) (n:=a.length)
 rw [←hal] at hn hr h64 hxl hul hll hW hC ⊢
 obtain ⟨FW,hFW⟩:∃ F:Nat→List Int,F=fun i=>fsL (fun _=>pl) ((kp a a.length).take i) W:=⟨_,rfl⟩
 obtain ⟨FC,hFC⟩:∃ F:Nat→List Int,F=fun i=>fsL (stC o x u l pl es) ((kp a a.length).take i) C:=⟨_,rfl⟩
 have hWl:∀ i,(FW i).length=a.length:=fun i=>by rw [hFW];exact fsL_len.trans hW
 have hCl:∀ i,(FC i).length=a.length:=fun i=>by rw [hFC];exact fsL_len.trans hC
 have hWn:∀ i,i < (kp a a.length).length→(FW i).set ((kp a a.length).getD i 0) pl=FW (i+1):=fun i h=>by rw [hFW];exact fsL_next (f:=fun _=>pl) h
 have hCn:∀ i,i < (kp a a.length).length→(FC i).set ((kp a a.length).getD i 0) (stC o x u l pl es ((kp a a.length).getD i 0))=FC (i+1):=fun i h=>by rw [hFC];exact fsL_next h
 refine Zc5 htb (fn:=Tryz.f56) (by kernel_rfl) (by kernel_rfl) rfl (Nat.le_of_ble_eq_true rfl) fun hl=>?_
 simp only [lenP,mkL,lim] at hl
 repeat' first|exact gE|refine gS Zad Zbo [] ?_|refine gO Zad Zbo [] ?_ ?_|refine gC ?_ ?_<;>intro hb
 refine Zfm ⟨11,[(16,.fn 74 (.cons (.rop (.roB a)) .nil)),(11,.own 8),(10,.rop (.int .i64 pl)),(9,.rop (.roB l)),(8,.rop (.roB u)),(6,.own 4)],[(8,some (.box (.own 3))),(4,some (.box (.own 0))),(0,some (.box (svA o p x B left 1 2))),(1,some (.ints (FW 0))),(2,some (.ints (FC 0))),(3,some (.mp es c))],[]⟩ [] ?_ ?_
 ·first|exact leZ Zbo|refine leA Zbo ?_|refine leB Zbo ?_ ?_
  rw [hFW,hFC]
  exact ⟨rfl,rfl⟩
 refine Zeb (m:=11) (M:=11) (fun i=>i≤(kp a a.length).length) (fun _:Nat=>False) (fun i=>(((kp a a.length).getD i 0:Nat):Int)) (fun i=>i < (kp a a.length).length) (fun i i'=>i'=i+1) (fun i=>i=0) (fun i=>i=(kp a a.length).length) .ret (fun i=>[(8,some (.box (.own 3))),(4,some (.box (.own 0))),(0,some (.box (svA o p x B left 1 2))),(1,some (.ints (FW i))),(2,some (.ints (FC i))),(3,some (.mp es c))]) [] 0 (Zcw a _ _ id fun t h=>h) (Nat.zero_le _) rfl rfl rfl rfl rfl rfl rfl (fun k hk=>by cases hk) (fun t k _ _ hk=>Zhm (M:=11) (l:=[(8,some (.box (.own 3))),(4,some (.box (.own 0))),(0,some (.box (svA o p x _ left 1 2))),(1,some (.ints (FW t))),(2,some (.ints (FC t))),(3,some (.mp es c))]) ⟨⟨rfl,rfl⟩,⟨rfl,rfl⟩,⟨rfl,rfl⟩,⟨rfl,trivial⟩,⟨rfl,trivial⟩,⟨rfl,trivial⟩,trivial⟩ k _ hk) ?_ ?_ ?_
 ·intro lp i hi hg
  obtain ⟨hv1,hv2⟩:=Ziq hg
  have hWn1:=hWn i hg
  have hCn1:=hCn i hg
  generalize hvv:(kp a a.length).getD i 0=v at *
  have hWi:=hWl i
  have hCi:=hCl i
  have hrv:=hr v hv1
  have h6v:=h64 v hv1
  refine gR Zad Zbo ?_ ?_
  ·first|exact oA|skip
  refine ⟨rfl,?_⟩
  repeat' first|exact gE|refine gS Zad Zbo [5,6] ?_|refine gO Zad Zbo [5,6] ?_ ?_|refine gC ?_ ?_<;>intro hb
  ·refine Za2 ([_,_,_]) ([_]) rfl rfl ?_
   refine gTn Zad Zbo ?_ ?_
   ·first|exact oA|skip
   refine gCl ([0,1,2]) (some_fg (o:=o) (p:=p) (x:=x) (B:=B) (left:=left) (W:=FW i) (C:=FC i) (l:=l) (v:=v) (by omega) (fun j hj=>⟨(hrv j hj).1,by have:=(hrv j hj).2;omega⟩) h6v) Zbo ?_
   refine gT Zad Zbo ?_ ?_
   ·first|exact oA|skip
   repeat' first|exact gE|refine gS Zad Zbo [6] ?_|refine gO Zad Zbo [6] ?_ ?_|refine gC ?_ ?_<;>intro hb
   refine Za2 ([_,_,_,_]) ([]) rfl rfl ?_
   refine gTn Zad Zbo ?_ ?_
   ·first|exact oA|skip
   refine gCl ([0,1,2]) (Znq (o:=o) (p:=p) (x:=x) (B:=B) (left:=left) (W:=FW i) (C:=FC i) (v:=v) (pl:=pl) (to:=smF l (x.getD v [])) (by omega) (by omega) (by omega)) Zbo ?_
   refine gT Zad Zbo ?_ ?_
   ·first|exact oA|skip
   repeat' first|exact gE|refine gS Zad Zbo [] ?_|refine gO Zad Zbo [] ?_ ?_|refine gC ?_ ?_<;>intro hb
   refine ⟨_,i+1,[],rfl,?_,.inl ⟨rfl,hg,rfl⟩⟩
   have hst:stC o x u l pl es v=if o.getD v 0=pl then smF l (x.getD v []) else -1:=by unfold stC;rw [if_pos hb]
   rw [hst] at hCn1
   first|exact leZ Zbo|refine leA Zbo ?_|refine leB Zbo ?_ ?_
   exact ⟨hWn1,hCn1⟩
  ·refine Za2 ([_,_,_,_]) ([]) rfl rfl ?_
   refine gTn Zad Zbo ?_ ?_
   ·first|exact oA|skip
   refine gCl ([0,1,2]) (Znq (o:=o) (p:=p) (x:=x) (B:=B) (left:=left) (W:=FW i) (C:=FC i) (v:=v) (pl:=pl) (to:=mget v es) (by omega) (by omega) (by omega)) Zbo ?_
   refine gT Zad Zbo ?_ ?_
   ·first|exact oA|skip
   repeat' first|exact gE|refine gS Zad Zbo [] ?_|refine gO Zad Zbo [] ?_ ?_|refine gC ?_ ?_<;>intro hb
   refine ⟨_,i+1,[],rfl,?_,.inl ⟨rfl,hg,rfl⟩⟩
   have hst:stC o x u l pl es v=if o.getD v 0=pl then mget v es else -1:=by unfold stC;rw [if_neg (show ¬ (mhas v es=false∨u.getD v false=true) from by rw [hb.1,hb.2];decide)]
   rw [hst] at hCn1
   first|exact leZ Zbo|refine leA Zbo ?_|refine leB Zbo ?_ ?_
   exact ⟨hWn1,hCn1⟩
 ·intro i hi hfin
  have hfin:i=(kp a a.length).length:=hfin
  have hWe:FW i=fsL (fun _=>pl) (kp a a.length) W:=by rw [hFW,hfin];show fsL _ (List.take _ _) W=_;rw [List.take_length]
  have hCe:FC i=fsL (stC o x u l pl es) (kp a a.length) C:=by rw [hFC,hfin];show fsL _ (List.take _ _) C=_;rw [List.take_length]
  refine ⟨_,_,rfl,rfl,fun k hk=>by rw [List.mem_singleton.1 hk];rfl,(by show [11].Nodup;decide),by show 4≤11+1;omega,Zbe ⟨4,resV [],[(0,some (.box (svA o p x B left 1 2))),(1,some (.ints (fsL (fun _=>pl) (kp a a.length) W))),(2,some (.ints (fsL (stC o x u l pl es) (kp a a.length) C))),(3,some (.mp es c))]⟩ [] rfl rfl (Zal rfl) ?_⟩
  rw [←hWe,←hCe]
  simp only [grR,zE,evp,evx,ev1,evLoad,evStore,evBin,evIf,Zac,forall_const,z38,tb,reduceAdd,reduceSub,reduceMul,reduceEqDiff,reduceLeDiff,reduceLT,Nat.reduceBEq,Nat.reduceBNe,↓reduceIte,reduceIte,svA,spMb,membersS]
 ·intro t h;exact h.elim
open Go Pl
def qo (to:List Bool) (n:Nat) (L:List (Nat × Nat)):List Nat:=kp to n++L.map Prod.fst
theorem Zfz {to:List Bool} {n u w:Nat} {L:List (Nat × Nat)}:qo to n (L++[(u,w)])=qo to n L++[u]:=by
 simp [qo]
noncomputable def lfn (x:List (List Int)) (l:List Bool) (q:List Nat) (i:Nat) (dn:List Nat) (u:Nat):Nat:=((sc x u).filter fun t => !(!l.getD t false || peB q i dn u t)).length
def inM (x:List (List Int)) (l:List Bool) (u:Nat):Nat:=(x.getD u []).countP fun t=>l.getD t.toNat false
theorem inM_is {x:List (List Int)} {l:List Bool} {u:Nat}:inM x l u=((sc x u).filter fun t=>l.getD t false).length:=by
 unfold inM sc
 rw [←List.countP_eq_length_filter,List.countP_map]
 rfl
structure AQ (g:Gm) (p:Int) (to l:List Bool) (L:List (Nat × Nat)) (es:List (Int × Int × Nat)) (i:Nat) (dn:List Nat):Prop where
 nd:(qo to g.own.length L).Nodup
 ql:∀ u,u∈qo to g.own.length L→l.getD u false=true
 iq:i≤(qo to g.own.length L).length
 c0p:∀ u,l.getD u false=true→u ∉ qo to g.own.length L→g.own.getD u 0=p→∀ t,t∈sc g.nxt u→¬ pe (qo to g.own.length L) i dn u t
 c0o:∀ u,l.getD u false=true→u ∉ qo to g.own.length L→g.own.getD u 0≠p→0 < lfn g.nxt l (qo to g.own.length L) i dn u∧(mhas u es=true→mget u es=lfn g.nxt l (qo to g.own.length L) i dn u)∧(mhas u es=false→inM g.nxt l u=lfn g.nxt l (qo to g.own.length L) i dn u)
 tk:∀ j v w,L[j]? = some (v,w)→(g.own.getD v 0=p→w∈sc g.nxt v∧w∈(qo to g.own.length L).take ((kp to g.own.length).length+j))∧(g.own.getD v 0≠p→∀ t,t∈sc g.nxt v→l.getD t false=true→t∈(qo to g.own.length L).take ((kp to g.own.length).length+j))
section
variable {g:Gm} {p:Int} {to l:List Bool} {L:List (Nat × Nat)} {es:List (Int × Int × Nat)} {i w u:Nat} {dn:List Nat} {c:Nat}
theorem Zjs {q q':List Nat} (h1:q'.take i=q.take i) (h2:q'[i]? = some w) (h3:q[i]? = some w) {u':Nat} (hne:u'≠u):lfn g.nxt l q' i (dn++[u]) u'=lfn g.nxt l q i dn u':=by
 unfold lfn
 congr 1
 refine List.filter_congr fun t _=>?_
 rw [peB_congr]
 rw [Zl0 h1 h2 h3]
 exact ⟨fun h=>h.resolve_right (fun h=>hne h.1),.inl⟩
theorem lfn_this {q q':List Nat} (hn:q.Nodup) (h1:q'.take i=q.take i) (h2:q'[i]? = some w) (h3:q[i]? = some w) (hwu:w∈sc g.nxt u) (hlw:l.getD w false=true) (hnd:(sc g.nxt u).Nodup) (hdn:u ∉ dn):(lfn g.nxt l q' i (dn++[u]) u:Int)=lfn g.nxt l q i dn u - 1:=by
 have hv0:¬ pe q i dn u w:=by
  rintro (h|⟨_,h⟩)
  ·exact not_take hn h3 h
  ·exact hdn h
 unfold lfn
 refine cnt_drop (fun t=>?_) (by rw [hlw,peB_false hv0];rfl) hnd hwu
 rw [Bool.eq_iff_iff,Bool.or_eq_true,Bool.or_eq_true,Bool.or_eq_true,pe_iff,pe_iff,Zl0 h1 h2 h3,beq_iff_eq]
 constructor
 ·rintro (h|h|⟨_,h⟩)
  ·exact .inl (.inl h)
  ·exact .inl (.inr h)
  ·exact .inr h
 ·rintro ((h|h)|h)
  ·exact .inl h
  ·exact .inr (.inl h)
  ·exact .inr (.inr ⟨rfl,h⟩)
theorem Zmj {j:Nat} {v w':Nat} (hj:j≤(qo to g.own.length L).length):(qo to g.own.length (L++[(v,w')])).take j=(qo to g.own.length L).take j:=by
 rw [Zfz,List.take_append_of_le_length hj]
theorem AQ_skip (h:AQ g p to l L es i dn) (hq:(qo to g.own.length L)[i]? = some w) (hc:l.getD u false=false∨u∈qo to g.own.length L):AQ g p to l L es i (dn++[u]):=by
 have hne:∀ u',l.getD u' false=true→u' ∉ qo to g.own.length L→u'≠u:=by
  rintro u' h1 h2 rfl
  rcases hc with h|h
  ·rw [h1] at h;cases h
  ·exact h2 h
 refine ⟨h.nd,h.ql,h.iq,fun u' h1 h2 ho t ht hp=>?_,fun u' h1 h2 ho=>?_,h.tk⟩
 ·rw [Zl0 rfl hq hq] at hp
  exact h.c0p u' h1 h2 ho t ht (hp.resolve_right fun hp=>hne u' h1 h2 hp.1)
 ·rw [Zjs rfl hq hq (hne u' h1 h2)]
  exact h.c0o u' h1 h2 ho
theorem Zio (h:AQ g p to l L es i dn) (hq:(qo to g.own.length L)[i]? = some w) (hlu:l.getD u false=true) (hu:u ∉ qo to g.own.length L) (hwu:w∈sc g.nxt u) (hdn:u ∉ dn) {es':List (Int × Int × Nat)}
  (hes:∀ u':Nat,u'≠u→mhas u' es'=mhas u' es∧mget u' es'=mget u' es) (ho:g.own.getD u 0≠p→lfn g.nxt l (qo to g.own.length L) i dn u≤1) (hnd:(sc g.nxt u).Nodup):AQ g p to l (L++[(u,w)]) es' i (dn++[u]):=by
 have hi:i < (qo to g.own.length L).length:=(List.getElem?_eq_some_iff.1 hq).1
 have hlw:l.getD w false=true:=h.ql w (List.mem_of_getElem? hq)
 have h1:(qo to g.own.length (L++[(u,w)])).take i=(qo to g.own.length L).take i:=Zmj (Nat.le_of_lt hi)
 have h2:(qo to g.own.length (L++[(u,w)]))[i]? = some w:=by rw [Zfz,List.getElem?_append_left hi];exact hq
 have hm:∀ u',u'∈qo to g.own.length (L++[(u,w)])↔u'∈qo to g.own.length L∨u'=u:=fun u'=>by rw [Zfz,List.mem_append,List.mem_singleton]
 have hqi:∀ t,pe (qo to g.own.length L) i (dn++[u]) u t→t∈qo to g.own.length L:=by
  rintro t (ht|⟨ht,_⟩)
  ·exact List.mem_of_mem_take ht
  ·exact List.mem_of_getElem? ht
 refine ⟨?_,fun u' hu'=>?_,?_,fun u' a1 a2 a3 t ht hp=>?_,fun u' a1 a2 a3=>?_,fun j v w' hj=>?_⟩
 ·rw [Zfz,List.nodup_append]
  exact ⟨h.nd,by simp,fun a ha b hb e=>hu (by rw [List.mem_singleton] at hb;rw [←hb,←e];exact ha)⟩
 ·rcases (hm u').1 hu' with h3|rfl
  ·exact h.ql u' h3
  ·exact hlu
 ·rw [Zfz,List.length_append];exact Nat.le_trans h.iq (Nat.le_add_right _ _)
 ·rw [hm] at a2
  rw [Zl0 h1 h2 hq] at hp
  exact h.c0p u' a1 (fun e=>a2 (.inl e)) a3 t ht (hp.resolve_right fun hp=>a2 (.inr hp.1))
 ·rw [hm] at a2
  have hne:u'≠u:=fun e=>a2 (.inr e)
  rw [Zjs h1 h2 hq hne,(hes u' hne).1,(hes u' hne).2]
  exact h.c0o u' a1 (fun e=>a2 (.inl e)) a3
 ·have hk:∀ {j},j < L.length→(kp to g.own.length).length+j≤(qo to g.own.length L).length:=fun {j} hj=>by simp only [qo,List.length_append,List.length_map];omega
  rcases Nat.lt_or_ge j L.length with hlt|hge
  ·rw [List.getElem?_append_left hlt] at hj
   rw [Zmj (hk hlt)]
   exact h.tk j v w' hj
  ·rw [List.getElem?_append_right hge] at hj
   have hj0:j=L.length:=by
    have:=(List.getElem?_eq_some_iff.1 hj).1
    simp at this;omega
   subst hj0
   simp only [Nat.sub_self,List.getElem?_cons_zero,Option.some.injEq,Prod.mk.injEq] at hj
   obtain ⟨rfl,rfl⟩:=hj
   have hlen:(kp to g.own.length).length+L.length=(qo to g.own.length L).length:=by simp [qo]
   rw [hlen,Zmj (Nat.le_refl _),List.take_length]
   refine ⟨fun _=>⟨hwu,List.mem_of_getElem? hq⟩,fun a3 t ht hlt=>?_⟩
   have h3:=lfn_this (g:=g) (l:=l) h.nd rfl hq hq hwu hlw hnd hdn
   have h4:=ho a3
   have h5:lfn g.nxt l (qo to g.own.length L) i (dn++[u]) u=0:=by omega
   unfold lfn at h5
   have h6:=List.filter_eq_nil_iff.1 (List.eq_nil_of_length_eq_zero h5) t ht
   rw [hlt] at h6
   simp only [Bool.not_true,Bool.false_or,Bool.not_eq_true',Bool.not_eq_false] at h6
   exact hqi t (pe_iff.1 h6)
theorem Zlx (h:AQ g p to l L es i dn) (hq:(qo to g.own.length L)[i]? = some w) (hu:u ∉ qo to g.own.length L) (hwu:w∈sc g.nxt u) (hdn:u ∉ dn) {es':List (Int × Int × Nat)}
  (hes:∀ u':Nat,u'≠u→mhas u' es'=mhas u' es∧mget u' es'=mget u' es) (hop:g.own.getD u 0≠p) (ho:1 < lfn g.nxt l (qo to g.own.length L) i dn u) (he:mhas u es'=true∧mget u es'=lfn g.nxt l (qo to g.own.length L) i dn u - 1) (hnd:(sc g.nxt u).Nodup):AQ g p to l L es' i (dn++[u]):=by
 have hlw:l.getD w false=true:=h.ql w (List.mem_of_getElem? hq)
 refine ⟨h.nd,h.ql,h.iq,fun u' h1 h2 h3 t ht hp=>?_,fun u' h1 h2 h3=>?_,h.tk⟩
 ·rw [Zl0 rfl hq hq] at hp
  exact h.c0p u' h1 h2 h3 t ht (hp.resolve_right fun hp=>hop (hp.1▸h3))
 ·by_cases hne:u'=u
  ·subst hne
   have h3:=lfn_this (g:=g) (l:=l) h.nd rfl hq hq hwu hlw hnd hdn
   refine ⟨by omega,fun _=>by rw [he.2,h3],fun e=>by rw [he.1] at e;cases e⟩
  ·rw [Zjs rfl hq hq hne,(hes u' hne).1,(hes u' hne).2]
   exact h.c0o u' h1 h2 h3
theorem AQ_end (h:AQ g p to l L es i dn) (hq:(qo to g.own.length L)[i]? = some w) (hall:∀ u,w∈sc g.nxt u→u∈dn):AQ g p to l L es (i+1) []:=by
 have hi:i < (qo to g.own.length L).length:=(List.getElem?_eq_some_iff.1 hq).1
 have hp:∀ u t,t∈sc g.nxt u→(pe (qo to g.own.length L) (i+1) [] u t↔pe (qo to g.own.length L) i dn u t):=fun u t ht=>by
  unfold pe
  have e:(qo to g.own.length L).take (i+1)=(qo to g.own.length L).take i++[w]:=by
   rw [List.take_add_one,hq];rfl
  rw [e,List.mem_append,List.mem_singleton,hq]
  constructor
  ·rintro ((h|rfl)|⟨_,h⟩)
   ·exact .inl h
   ·exact .inr ⟨rfl,hall u ht⟩
   ·cases h
  ·rintro (h|⟨h,_⟩)
   ·exact .inl (.inl h)
   ·cases h;exact .inl (.inr rfl)
 have hl:∀ u,lfn g.nxt l (qo to g.own.length L) (i+1) [] u=lfn g.nxt l (qo to g.own.length L) i dn u:=fun u=>by
  unfold lfn
  congr 1
  refine List.filter_congr fun t ht=>?_
  rw [peB_congr (hp u t ht)]
 refine ⟨h.nd,h.ql,hi,fun u h1 h2 h3 t ht he=>h.c0p u h1 h2 h3 t ht ((hp u t ht).1 he),fun u h1 h2 h3=>?_,h.tk⟩
 rw [hl]
 exact h.c0o u h1 h2 h3
theorem AQ_begin (hto:∀ u,u∈kp to g.own.length→l.getD u false=true) (hT:∀ u,l.getD u false=true→∃ t,t∈sc g.nxt u∧l.getD t false=true):AQ g p to l [] [] 0 []:=by
 have hq:qo to g.own.length []=kp to g.own.length:=by simp [qo]
 have hnp:∀ u t,¬ pe (kp to g.own.length) 0 [] u t:=by
  rintro u t (h|⟨_,h⟩)
  ·simp at h
  ·cases h
 have hl:∀ u,lfn g.nxt l (kp to g.own.length) 0 [] u=inM g.nxt l u:=fun u=>by
  rw [inM_is]
  unfold lfn
  congr 1
  refine List.filter_congr fun t _=>?_
  rw [peB_false (hnp u t)]
  cases l.getD t false<;>rfl
 refine ⟨?_,?_,?_,fun u _ _ _ t _=>?_,fun u h1 _ _=>?_,fun j v w hj=>by cases hj⟩
 ·rw [hq];exact List.Pairwise.filter _ List.nodup_range
 ·rw [hq];exact hto
 ·exact Nat.zero_le _
 ·rw [hq];exact hnp u t
 ·rw [hq,hl]
  obtain ⟨t,ht,hlt⟩:=hT u h1
  refine ⟨?_,(fun e=>by cases e),fun _=>rfl⟩
  rw [inM_is]
  exact List.length_pos_of_mem (List.mem_filter.2 ⟨ht,hlt⟩)
def chL (L:List (Nat × Nat)) (v:Nat):Nat:=((L.find? fun e=>e.1 == v).map Prod.snd).getD 0
theorem Znc : ∀ {L:List (Nat × Nat)} {j v w:Nat},(L.map Prod.fst).Nodup→L[j]? = some (v,w)→chL L v=w
 |[],_,_,_,_,h=>by cases h
 |e :: L,0,v,w,_,h=>by
  simp only [List.getElem?_cons_zero,Option.some.injEq] at h
  subst h
  simp [chL]
 |e :: L,j+1,v,w,hn,h=>by
  simp only [List.getElem?_cons_succ] at h
  rw [List.map_cons,List.nodup_cons] at hn
  have hv:v∈L.map Prod.fst:=List.mem_map.2 ⟨(v,w),List.mem_of_getElem? h,rfl⟩
  have hne:e.1≠v:=fun e2=>hn.1 (e2▸hv)
  have:=Znc hn.2 h
  unfold chL at this ⊢
  rw [List.find?_cons_of_neg (by simpa using hne)]
  exact this
theorem idx_take {q:List Nat} (hn:q.Nodup) {t k:Nat} (h:t∈q.take k):q.idxOf t < k:=by
 obtain ⟨j,hj,e⟩:=List.getElem_of_mem h
 rw [List.length_take] at hj
 rw [List.getElem_take] at e
 subst e
 rw [List.Nodup.idxOf_getElem hn]
 omega
theorem idx_at {q:List Nat} (hn:q.Nodup) {v k:Nat} (h:q[k]? = some v):q.idxOf v=k:=by
 obtain ⟨hk,e⟩:=List.getElem?_eq_some_iff.1 h
 subst e
 exact List.Nodup.idxOf_getElem hn _ _
theorem Zok (h:AQ g p to l L es i dn):(L.map Prod.fst).Nodup:=(List.nodup_append.1 h.nd).2.1
theorem Znh (h:AQ g p to l L es (qo to g.own.length L).length []):Atr (fun v=>g.own.getD v 0) (sc g.nxt) (fun v=>l.getD v false=true) (fun v=>v∈qo to g.own.length L) (fun v=>v∈kp to g.own.length) p (chL L) fun v=>(qo to g.own.length L).idxOf v:=by
 have hpe:∀ u t,pe (qo to g.own.length L) (qo to g.own.length L).length [] u t↔t∈qo to g.own.length L:=fun u t=>by
  unfold pe
  rw [List.take_length]
  exact ⟨fun h=>h.elim id (fun h=>absurd h.2 List.not_mem_nil),.inl⟩
 have hat:∀ v,v∈qo to g.own.length L→¬ v∈kp to g.own.length→∃ j w,L[j]? = some (v,w)∧(qo to g.own.length L)[(kp to g.own.length).length+j]? = some v:=fun v hv hn=>by
  obtain ⟨⟨v',w⟩,hm,rfl⟩:=List.mem_map.1 ((List.mem_append.1 hv).resolve_left hn)
  obtain ⟨j,hj,e⟩:=List.getElem_of_mem hm
  refine ⟨j,w,List.getElem?_eq_some_iff.2 ⟨hj,e⟩,?_⟩
  unfold qo
  rw [List.getElem?_append_right (Nat.le_add_right _ _),Nat.add_sub_cancel_left,List.getElem?_map,List.getElem?_eq_some_iff.2 ⟨hj,e⟩]
  rfl
 refine ⟨fun v hv=>h.ql v hv,fun v hv=>List.mem_append_left _ hv,fun v hv hn ho=>?_,fun v hv hn ho t ht hl=>?_,fun v hv hn ho t ht _ htq=>?_,fun v hv hn ho=>?_⟩
 ·obtain ⟨j,w,hj,hq⟩:=hat v hv hn
  obtain ⟨h1,h2⟩:=(h.tk j v w hj).1 ho
  rw [Znc (Zok h) hj]
  refine ⟨h1,List.mem_of_mem_take h2,?_⟩
  show List.idxOf _ _ < List.idxOf _ _
  rw [idx_at h.nd hq]
  exact idx_take h.nd h2
 ·obtain ⟨j,w,hj,hq⟩:=hat v hv hn
  have h2:=(h.tk j v w hj).2 ho t ht hl
  refine ⟨List.mem_of_mem_take h2,?_⟩
  show List.idxOf _ _ < List.idxOf _ _
  rw [idx_at h.nd hq]
  exact idx_take h.nd h2
 ·exact h.c0p v hv hn ho t ht ((hpe v t).2 htq)
 ·obtain ⟨t,ht⟩:=List.exists_mem_of_length_pos (h.c0o v hv hn ho).1
  obtain ⟨h1,h2⟩:=List.mem_filter.1 ht
  simp only [Bool.not_or,Bool.not_not,Bool.and_eq_true,Bool.not_eq_true'] at h2
  exact ⟨t,h1,h2.1,fun e=>by rw [pe_iff.2 ((hpe v t).2 e)] at h2;cases h2.2⟩
def atB (to:List Bool) (n:Nat) (L:List (Nat × Nat)):List Bool:=(List.range n).map fun v=>decide (v∈qo to n L)
theorem Zlr {n:Nat}:(atB to n L).length=n:=by simp [atB]
theorem Zec {n:Nat} (hu:u < n):(atB to n L).getD u false=true↔u∈qo to n L:=by
 simp [atB,List.getD_eq_getElem?_getD,hu]
theorem Zin {n:Nat} (hu:u < n):(atB to n L).set u true=atB to n (L++[(u,w)]):=by
 refine List.ext_getElem (by simp [atB]) fun j h1 h2=>?_
 rw [List.getElem_set]
 simp only [atB,List.getElem_map,List.getElem_range]
 by_cases e:u=j
 ·subst e
  rw [if_pos rfl,Zfz]
  simp
 ·rw [if_neg e,Zfz]
  simp [Ne.symm e]
theorem Zni {n i:Nat} (h:(qo to n L)[i]? = some w) {u:Nat}:(qo to n (L++[(u,w)]))[i]? = some w:=by
 rw [Zfz,List.getElem?_append_left (List.getElem?_eq_some_iff.1 h).1];exact h
theorem Zig {n i:Nat} (h:(qo to n L)[i]? = some w) {u:Nat}:(qo to n (L++[(u,w)])).drop (i+1)=(qo to n L).drop (i+1)++[u]:=by
 rw [Zfz,List.drop_append_of_le_length (List.getElem?_eq_some_iff.1 h).1]
theorem lfn_le (q:List Nat):lfn g.nxt l q i dn u≤(g.nxt.getD u []).length:=by
 unfold lfn
 refine Nat.le_trans (List.length_filter_le _ _) ?_
 simp [sc]
end
open Go Pl
theorem Zck {l:List Bool} {u n:Nat} (hn:l.length≤n) (h:l.getD u false=true):u < n:=by
 rcases Nat.lt_or_ge u l.length with h2|h2
 ·omega
 ·rw [List.getD_eq_getElem?_getD,List.getElem?_eq_none h2] at h
  cases h
theorem sc_in {x:List (List Int)} {u t:Nat} (h:t∈sc x u):u < x.length:=by
 rcases Nat.lt_or_ge u x.length with h2|h2
 ·exact h2
 ·unfold sc at h
  rw [List.getD_eq_getElem?_getD,List.getElem?_eq_none h2] at h
  cases h
structure AS where
 L:List (Nat × Nat)
 es:List (Int × Int × Nat)
 c:Nat
 i:Nat
def Zaa := Hd.mk (And.intro @svA.eq_1<|And.intro @spMb.eq_1<|@membersS.eq_1)
set_option maxRecDepth 4000 in
set_option maxHeartbeats 4000000 in
theorem attract1_fg {o p:List Int} {x:List (List Int)} {left pl:Int} {to l:List Bool} {W C:List (Nat × Nat)→List Int} {E:List (Nat × Nat)→List (Int × Int × Nat)} {T:List (Nat × Nat)→Nat} (hV:Zc1 ⟨o,p,x⟩) (htl:to.length=o.length) (hll:l.length=o.length)
  (hto:∀ u,u∈kp to o.length→l.getD u false=true) (hTr:∀ u,l.getD u false=true→∃ t,t∈sc x u∧l.getD t false=true)
  (hT:∀ L v w,v < o.length→FG Tryz.prog 53 [.int .i64 (v:Nat),.int .i64 (w:Nat),.own 3] [(0,some (.box (svA o p x (Zbf x) left 1 2))),(1,some (.ints (W L))),(2,some (.ints (C L))),(3,some (.box (.own 4))),(4,some (.mp (E L) (T L)))] 5 fun g=>g=⟨5,resV [],[(0,some (.box (svA o p x (Zbf x) left 1 2))),(1,some (.ints (W (L++[(v,w)])))),(2,some (.ints (C (L++[(v,w)])))),(3,some (.box (.own 4))),(4,some (.mp (E (L++[(v,w)])) (T (L++[(v,w)]))))]⟩) :
  FG Tryz.prog 52 [.own 0,.int .i64 pl,.roB to,.roB l,.fn 53 (.cons (.own 3) .nil)] [(0,some (.box (svA o p x (Zbf x) left 1 2))),(1,some (.ints (W []))),(2,some (.ints (C []))),(3,some (.box (.own 4))),(4,some (.mp (E []) (T [])))] 5
   fun g=>∃ L es,AQ ⟨o,p,x⟩ pl to l L es (qo to o.length L).length []∧g=⟨5,.roB (atB to o.length L),[(0,some (.box (svA o p x (Zbf x) left 1 2))),(1,some (.ints (W L))),(2,some (.ints (C L))),(3,some (.box (.own 4))),(4,some (.mp (E L) (T L)))]⟩:=by
 obtain ⟨b,hb0⟩:∃ b:AS,b=⟨[],[],0,0⟩:=⟨_,rfl⟩
 refine Zc5 htb (fn:=Tryz.f52) (by kernel_rfl) (by kernel_rfl) rfl (Nat.le_of_ble_eq_true rfl) fun hl=>?_
 simp only [lenP,mkL,lim] at hl
 have hkl:=Zkb (k:=to) (n:=to.length)
 obtain ⟨hn,hpl,hxl,hpos⟩:=id hV
 simp only [Gm.n] at hn hpl hxl
 obtain ⟨F0,hF0⟩:∃ F:Nat→List Bool,F=stB to fun _=>true:=⟨_,rfl⟩
 have hF0l:∀ i,(F0 i).length=to.length:=fun i=>by rw [hF0];exact Zjf
 have hF0n:∀ i,i < (kp to to.length).length→(F0 i).set ((kp to to.length).getD i 0) true=F0 (i+1):=fun i h=>by rw [hF0];exact Zhh h
 repeat' first|exact gE|refine gS Zad Zaa [] ?_|refine gO Zad Zaa [] ?_ ?_|refine gC ?_ ?_<;>intro hb
 refine Zft 11 (.ints []) (.own 14) rfl rfl rfl (by first|exact .inl rfl|exact .inr (.inl rfl)|exact .inr (.inr (.inl rfl))|exact .inr (.inr (.inr rfl))) (by simp only [Zai,Zeu,fzE,fzA,fzR,fzB,set1,nbeq,reduceEqDiff,decide_true,decide_false,↓reduceIte,reduceIte,cond_true,cond_false,List.take_length,Option.some.injEq]<;>rfl) rfl ?_
 refine Zfm ⟨16,[(24,.fn 74 (.cons (.rop (.roB to)) .nil)),(12,.own 11),(11,.own 9),(0,.own 0),(1,.int .i64 pl),(3,.roB l),(4,.fn 53 (.cons (.own 3) .nil))],[(11,some (.box (.own 15))),(15,some (.ints [])),(9,some (.box (.own 8))),(8,some (.bools (F0 0))),(0,some (.box (svA o p x (Zbf x) left 1 2))),(1,some (.ints (W b.L))),(2,some (.ints (C b.L))),(3,some (.box (.own 4))),(4,some (.mp (E b.L) (T b.L)))],[]⟩ [(15,14)] ?_ ?_
 ·first|exact leZ Zaa|refine leA Zaa ?_|refine leB Zaa ?_ ?_
  subst hb0
  refine ⟨?_,rfl,rfl,rfl⟩
  rw [hF0,hll,←htl]
  exact Zhg
 refine Zeb (m:=15) (M:=16) (fun i=>i≤(kp to to.length).length) (fun _:Nat=>False) (fun i=>(((kp to to.length).getD i 0:Nat):Int)) (fun i=>i < (kp to to.length).length) (fun i i'=>i'=i+1) (fun i=>i=0) (fun i=>i=(kp to to.length).length) .ret (fun i=>[(11,some (.box (.own 15))),(15,some (.ints (((kp to to.length).take i).map fun v:Nat=>(v:Int)))),(9,some (.box (.own 8))),(8,some (.bools (F0 i))),(0,some (.box (svA o p x (Zbf x) left 1 2))),(1,some (.ints (W b.L))),(2,some (.ints (C b.L))),(3,some (.box (.own 4))),(4,some (.mp (E b.L) (T b.L)))]) [] 0 (Zcw to _ _ id fun t h=>h) (Nat.zero_le _) rfl rfl rfl rfl rfl rfl rfl (fun k hk=>by cases hk) (fun t k _ _ hk=>Zhm (M:=16) (l:=[(11,some (.box (.own 15))),(15,some (.ints (((kp to to.length).take t).map fun v:Nat=>(v:Int)))),(9,some (.box (.own 8))),(8,some (.bools (F0 t))),(0,some (.box (svA o p x (Zbf x) left 1 2))),(1,some (.ints (W b.L))),(2,some (.ints (C b.L))),(3,some (.box (.own 4))),(4,some (.mp (E b.L) (T b.L)))]) ⟨⟨rfl,rfl⟩,⟨rfl,trivial⟩,⟨rfl,rfl⟩,⟨rfl,trivial⟩,⟨rfl,rfl⟩,⟨rfl,trivial⟩,⟨rfl,trivial⟩,⟨rfl,rfl⟩,⟨rfl,trivial⟩,trivial⟩ k _ hk) ?_ ?_ ?_
 ·intro lp i hi hg
  obtain ⟨hv1,hv2⟩:=Ziq hg
  have hFn1:=hF0n i hg
  have hkt:((kp to to.length).take (i+1)).map (fun v:Nat=>(v:Int))=((kp to to.length).take i).map (fun v:Nat=>(v:Int))++[(((kp to to.length).getD i 0:Nat):Int)]:=by rw [Zff (d:=0) hg,List.map_append];rfl
  have hkq:(((kp to to.length).take i).map (fun v:Nat=>(v:Int))).length≤to.length:=by rw [List.length_map,List.length_take];omega
  generalize hvv:(kp to to.length).getD i 0=v at *
  have hFi:=hF0l i
  refine gR Zad Zaa ?_ ?_
  ·first|exact oA|skip
  refine ⟨rfl,?_⟩
  repeat' first|exact gE|refine gS Zad Zaa [] ?_|refine gO Zad Zaa [] ?_ ?_|refine gC ?_ ?_<;>intro hb
  refine ⟨_,i+1,[(15,24)],rfl,?_,.inl ⟨rfl,hg,rfl⟩⟩
  first|exact leZ Zaa|refine leA Zaa ?_|refine leB Zaa ?_ ?_
  exact ⟨hkt.symm,hFn1⟩
 ·intro i hi hfin
  have hfin:i=(kp to to.length).length:=hfin
  repeat' first|exact gE|refine gS Zad Zaa [8] ?_|refine gO Zad Zaa [8] ?_ ?_|refine gC ?_ ?_<;>intro hb
  have hF0e:F0 i=atB to o.length []:=by
   rw [hF0,hfin,Zjg,htl]
   refine List.map_congr_left fun v hv=>?_
   rw [Bool.and_true,Bool.eq_iff_iff,decide_eq_true_iff]
   simp only [qo,List.map_nil,List.append_nil]
   exact ⟨fun h=>List.mem_filter.2 ⟨hv,h⟩,fun h=>(List.mem_filter.1 h).2⟩
  have hq0:(kp to to.length).take i=qo to o.length []:=by rw [hfin,List.take_length,htl];simp [qo]
  have hA0:AQ ⟨o,p,x⟩ pl to l [] [] 0 []:=AQ_begin hto hTr
  rw [hF0e,hq0]
  clear hF0e hq0 hF0n hF0l hF0 hfin hi hkl
  have hbL:b.L=[]:=by rw [hb0]
  refine Zag (τ:=AS) (fun b=>AQ ⟨o,p,x⟩ pl to l b.L b.es b.i []∧∀ k:Nat,0≤mget k b.es∧mget k b.es≤64) (fun b=>⟨19,[(14,.own 17),(12,.own 11),(11,.own 9),(0,.own 0),(1,.int .i64 pl),(3,.roB l),(4,.fn 53 (.cons (.own 3) .nil))],[(17,some (.mp b.es b.c)),(16,some .dfr),(11,some (.box (.own 15))),(15,some (.ints (((qo to o.length b.L).drop b.i).map fun v:Nat=>(v:Int)))),(9,some (.box (.own 8))),(8,some (.bools (atB to o.length b.L))),(0,some (.box (svA o p x (Zbf x) left 1 2))),(1,some (.ints (W b.L))),(2,some (.ints (C b.L))),(3,some (.box (.own 4))),(4,some (.mp (E b.L) (T b.L)))],[16]⟩) (fun b=>o.length - b.i) ⟨[],[],0,0⟩ [] ?_ ⟨hA0,fun k=>⟨Int.le_refl 0,(by decide:(0:Int)≤64)⟩⟩ ?_
  ·rw [hbL]
   first|exact leZ Zaa|refine leA Zaa ?_|refine leB Zaa ?_ ?_
  clear hA0 hbL hb0 b F0
  intro b hA
  have hql:(qo to o.length b.L).length≤o.length:=Zcq _ _ hA.1.nd fun u hu=>Zck (by omega) (hA.1.ql u hu)
  have hiq:b.i≤(qo to o.length b.L).length:=hA.1.iq
  cases hdr:(qo to o.length b.L).drop b.i with
  |nil =>
   have hie:b.i=(qo to o.length b.L).length:=by have:=List.drop_eq_nil_iff.1 hdr;omega
   simp only [List.map_nil]
   repeat' first|exact gE|refine gS Zad Zaa [25] ?_|refine gO Zad Zaa [25] ?_ ?_|refine gC ?_ ?_<;>intro hb
   ·simp at hb
   refine Zbb 8 (.roB (atB to o.length b.L)) ?_
   repeat' first|exact gE|refine gS Zad Zaa [] ?_|refine gO Zad Zaa [] ?_ ?_|refine gC ?_ ?_<;>intro hb
   refine ⟨_,_,rfl,rfl,fun k hk=>by rw [List.mem_singleton.1 hk];rfl,(by show [16].Nodup;decide),by show 5≤22+2;omega,Zbe ⟨5,.roB (atB to o.length b.L),[(0,some (.box (svA o p x (Zbf x) left 1 2))),(1,some (.ints (W b.L))),(2,some (.ints (C b.L))),(3,some (.box (.own 4))),(4,some (.mp (E b.L) (T b.L)))]⟩ [] ⟨b.L,b.es,by rw [←hie];exact hA.1,rfl⟩ rfl (Zal rfl) ?_⟩
   simp only [grR,zE,evp,evx,ev1,evLoad,evStore,evBin,evIf,Zac,forall_const,z38,tb,reduceAdd,reduceSub,reduceMul,reduceEqDiff,reduceLeDiff,reduceLT,Nat.reduceBEq,Nat.reduceBNe,↓reduceIte,reduceIte,svA,spMb,membersS]
  |cons w rest =>
   have hwq:(qo to o.length b.L)[b.i]? = some w:=by
    have h1:((qo to o.length b.L).drop b.i)[0]? = some w:=by rw [hdr];rfl
    rw [List.getElem?_drop] at h1
    exact h1
   have hwn:w < o.length:=Zck (by omega) (hA.1.ql w (List.mem_of_getElem? hwq))
   have hrest:rest=(qo to o.length b.L).drop (b.i+1):=by
    have h1:((qo to o.length b.L).drop b.i).drop 1=rest:=by rw [hdr];rfl
    rw [List.drop_drop] at h1
    exact h1.symm
   have hrl:rest.length≤o.length:=by rw [hrest,List.length_drop];omega
   have hBl:(Zbf x).length=o.length:=by simp [Zbf];exact hxl
   simp only [List.map_cons]
   repeat' first|exact gE|refine gS Zad Zaa [12] ?_|refine gO Zad Zaa [12] ?_ ?_|refine gC ?_ ?_<;>intro hb
   rotate_left
   ·exfalso;omega
   have hbf:=Zj0 hV hwn
   have hba:=Zln hV hwn
   dsimp only at hbf hba
   have hrl6:∀ v,v < o.length→(x.getD v []).length≤64:=fun v h=>by
    obtain ⟨⟨a1,a2,a3,a4,_,a6⟩,_⟩:=hpos v (by simp only [Gm.n];omega)
    exact a6
   have hrb:∀ v,v < o.length→∀ j,j < (x.getD v []).length→0≤(x.getD v []).getD j 0∧(x.getD v []).getD j 0 < (l.length:Int):=fun v h j hj=>by
    obtain ⟨_,hr⟩:=hpos v (by simp only [Gm.n];omega)
    have h1:(x.getD v []).getD j 0 < (o.length:Int):=(hr j hj).2.1
    exact ⟨(hr j hj).1,by omega⟩
   have hrow:((Zbf x).getD w []).length≤64 * o.length:=by
    have h1:=Zlm hV hwn
    dsimp only at h1
    rw [h1]
    exact Zjz (fun v h=>hrl6 v (by omega)) o.length (by omega)
   generalize (Zbf x).getD w []=row at *
   have hq1:List.drop 1 ((w:Int) :: rest.map fun v:Nat=>(v:Int))=((qo to o.length b.L).drop (b.i+1)).map fun v:Nat=>(v:Int):=by rw [←hrest];rfl
   rw [hq1]
   refine Zag (τ:=AS) (fun t=>(t.i≤row.length∧(qo to o.length t.L)[b.i]? = some w)∧AQ ⟨o,p,x⟩ pl to l t.L t.es b.i ((row.take t.i).map Int.toNat)∧∀ k:Nat,0≤mget k t.es∧mget k t.es≤64) (fun t=>⟨38,[(50,.int .i64 t.i),(49,.int .i64 row.length),(48,.roI row),(15,.int .i64 w),(14,.own 17),(12,.own 11),(11,.own 9),(0,.own 0),(1,.int .i64 pl),(3,.roB l),(4,.fn 53 (.cons (.own 3) .nil))],[(17,some (.mp t.es t.c)),(16,some .dfr),(11,some (.box (.own 27))),(27,some (.ints (((qo to o.length t.L).drop (b.i+1)).map fun v:Nat=>(v:Int)))),(9,some (.box (.own 8))),(8,some (.bools (atB to o.length t.L))),(0,some (.box (svA o p x (Zbf x) left 1 2))),(1,some (.ints (W t.L))),(2,some (.ints (C t.L))),(3,some (.box (.own 4))),(4,some (.mp (E t.L) (T t.L)))],[16]⟩) (fun t=>row.length - t.i) ⟨b.L,b.es,b.c,0⟩ [] ?_ ⟨⟨Nat.zero_le _,hwq⟩,hA.1,hA.2⟩ ?_
   ·first|exact leZ Zaa|refine leA Zaa ?_|refine leB Zaa ?_ ?_
   clear hq1 hdr hrest hwq hrl hb hql
   rintro t ⟨⟨hj,hwq⟩,hA,hbd⟩
   have hql:(qo to o.length t.L).length≤o.length:=Zcq _ _ hA.nd fun u hu=>Zck (by omega) (hA.ql u hu)
   have hiq2:b.i < (qo to o.length t.L).length:=(List.getElem?_eq_some_iff.1 hwq).1
   have hdl:(((qo to o.length t.L).drop (b.i+1)).map fun v:Nat=>(v:Int)).length≤o.length:=by rw [List.length_map,List.length_drop];omega
   have hal:(atB to o.length t.L).length=o.length:=by simp [atB]
   by_cases hjl:t.i < row.length
   ·obtain ⟨u,hu⟩:∃ u:Nat,row.getD t.i 0=(u:Int):=⟨_,(hbf t.i hjl).1⟩
    obtain ⟨_,hun,hwu,hud⟩:=hbf t.i hjl
    rw [hu,Int.toNat_natCast] at hun hwu hud
    have hdn:(row.take (t.i+1)).map Int.toNat=(row.take t.i).map Int.toNat++[u]:=by rw [Zff (d:=0) hjl,List.map_append,hu];rfl
    have hnd:=sc_nodup hV hun
    have hbu:=hbd u
    have hwl:=hA.ql w (List.mem_of_getElem? hwq)
    repeat' first|exact gE|refine gS Zad Zaa [14] ?_|refine gO Zad Zaa [14] ?_ ?_|refine gC ?_ ?_<;>intro hb
    rw [hu]
    repeat' first|exact gE|refine gS Zad Zaa [18,19,22] ?_|refine gO Zad Zaa [18,19,22] ?_ ?_|refine gC ?_ ?_<;>intro hb
    ·refine back ⟨t.L,t.es,t.c,t.i+1⟩ [] ?_ ⟨⟨by dsimp only;omega,hwq⟩,?_,hbd⟩ (by dsimp only;omega)
     ·first|exact leZ Zaa|refine leA Zaa ?_|refine leB Zaa ?_ ?_
     ·dsimp only
      rw [hdn]
      exact AQ_skip hA hwq (hb.imp id (Zec hun).1)
    ·rename_i hb2 hop
     obtain ⟨hlu,huo⟩:=hb2
     have huq:u ∉ qo to o.length t.L:=fun h=>by rw [(Zec hun).2 h] at huo;cases huo
     obtain ⟨h0,_,h2⟩:=hA.c0o u hlu huq hop
     have hg2:=h2 hb
     dsimp only at h0 hg2
     have h64:=hrl6 u hun
     have hlf:=lfn_le (g:=⟨o,p,x⟩) (l:=l) (i:=b.i) (u:=u) (dn:=(row.take t.i).map Int.toNat) (qo to o.length t.L)
     dsimp only at hlf
     refine Za2 ([_,_,_,_,_]) ([_]) rfl rfl ?_
     refine gTn Zad Zaa ?_ ?_
     ·first|exact oA|skip
     refine gCl ([0,1,2]) (insd_fg (o:=o) (p:=p) (x:=x) (B:=Zbf x) (left:=left) (W:=W t.L) (C:=C t.L) (l:=l) (v:=u) (by omega) (fun j hj=>hrb u hun j hj) h64) Zaa ?_
     refine gT Zad Zaa ?_ ?_
     ·first|exact oA|skip
     have hin:inN l (x.getD u [])=inM x l u:=rfl
     rw [hin,hg2]
     obtain ⟨e1,he1⟩:∃ e,e=mput (u:Int) (lfn x l (qo to o.length t.L) b.i ((row.take t.i).map Int.toNat) u:Int) t.c t.es:=⟨_,rfl⟩
     obtain ⟨c1,hc1⟩:∃ c,c=mclk (u:Int) t.c t.es:=⟨_,rfl⟩
     rw [←he1,←hc1]
     have hg1:mget u e1=lfn x l (qo to o.length t.L) b.i ((row.take t.i).map Int.toNat) u:=by rw [he1,mget_mput,if_pos rfl]
     have hot:∀ u':Nat,u'≠u→mhas u' e1=mhas u' t.es∧mget u' e1=mget u' t.es:=fun u' hu'=>by
      rw [he1]
      exact ⟨by rw [mhas_mput,if_neg (by omega)],by rw [mget_mput,if_neg (by omega)]⟩
     have hb1:∀ k:Nat,0≤mget k e1∧mget k e1≤64:=fun k=>by
      rw [he1,mget_mput]
      split
      ·omega
      ·exact hbd k
     have hbu1:=hb1 u
     have hes:∀ u':Nat,u'≠u→mhas u' (mput u (mget u (e1) - 1) (c1) (e1))=mhas u' t.es∧mget u' (mput u (mget u (e1) - 1) (c1) (e1))=mget u' t.es:=fun u' hu'=>⟨(mhas_mput.trans (if_neg (by omega))).trans (hot u' hu').1,(mget_mput.trans (if_neg (by omega))).trans (hot u' hu').2⟩
     have heb:∀ k:Nat,0≤mget u (e1) - 1→0≤mget k (mput u (mget u (e1) - 1) (c1) (e1))∧mget k (mput u (mget u (e1) - 1) (c1) (e1))≤64:=fun k h0=>by
      rw [mget_mput]
      split
      ·omega
      ·exact hb1 k
     repeat' first|exact gE|refine gS Zad Zaa [22] ?_|refine gO Zad Zaa [22] ?_ ?_|refine gC ?_ ?_<;>intro hb
     ·rw [mget_mput,if_pos rfl] at hb
      refine back ⟨t.L,mput u (mget u (e1) - 1) (c1) (e1),mclk u (c1) (e1),t.i+1⟩ [] ?_ ⟨⟨by dsimp only;omega,hwq⟩,by dsimp only;rw [hdn];exact Zlx hA hwq huq hwu hud hes hop (by show 1 < lfn x l (qo to o.length t.L) b.i ((row.take t.i).map Int.toNat) u;omega) ⟨by rw [mhas_mput,if_pos rfl],by rw [mget_mput,if_pos rfl,hg1]⟩ hnd,fun k=>heb k (by omega)⟩ (by dsimp only;omega)
      first|exact leZ Zaa|refine leA Zaa ?_|refine leB Zaa ?_ ?_
     ·rw [mget_mput,if_pos rfl] at hb
      refine Za2 ([_,_,_]) ([]) rfl rfl ?_
      refine gTn Zad Zaa ?_ ?_
      ·first|exact oA|skip
      refine gCl ([0,1,2,3,4]) (hT t.L u w hun) Zaa ?_
      refine gT Zad Zaa ?_ ?_
      ·first|exact oA|skip
      repeat' first|exact gE|refine gS Zad Zaa [] ?_|refine gO Zad Zaa [] ?_ ?_|refine gC ?_ ?_<;>intro hb
      refine back ⟨t.L++[(u,w)],mput u (mget u (e1) - 1) (c1) (e1),mclk u (c1) (e1),t.i+1⟩ [(27,98)] ?_ ⟨⟨by dsimp only;omega,Zni hwq⟩,by dsimp only;rw [hdn];exact Zio hA hwq hlu huq hwu hud hes (fun _=>by show lfn x l (qo to o.length t.L) b.i ((row.take t.i).map Int.toNat) u≤1;omega) hnd,fun k=>heb k (by omega)⟩ (by dsimp only;omega)
      first|exact leZ Zaa|refine leA Zaa ?_|refine leB Zaa ?_ ?_
      rw [Zig hwq,List.map_append]
      exact ⟨rfl,Zin hun⟩
    ·rename_i hb2 hop
     obtain ⟨hlu,huo⟩:=hb2
     have huq:u ∉ qo to o.length t.L:=fun h=>by rw [(Zec hun).2 h] at huo;cases huo
     obtain ⟨h0,h1,_⟩:=hA.c0o u hlu huq hop
     have hg1:=h1 hb
     dsimp only at h0 hg1
     have hot:∀ u':Nat,u'≠u→mhas u' t.es=mhas u' t.es∧mget u' t.es=mget u' t.es:=fun u' hu'=>⟨rfl,rfl⟩
     have hb1:=hbd
     have hbu1:=hb1 u
     have hes:∀ u':Nat,u'≠u→mhas u' (mput u (mget u (t.es) - 1) (t.c) (t.es))=mhas u' t.es∧mget u' (mput u (mget u (t.es) - 1) (t.c) (t.es))=mget u' t.es:=fun u' hu'=>⟨(mhas_mput.trans (if_neg (by omega))).trans (hot u' hu').1,(mget_mput.trans (if_neg (by omega))).trans (hot u' hu').2⟩
     have heb:∀ k:Nat,0≤mget u (t.es) - 1→0≤mget k (mput u (mget u (t.es) - 1) (t.c) (t.es))∧mget k (mput u (mget u (t.es) - 1) (t.c) (t.es))≤64:=fun k h0=>by
      rw [mget_mput]
      split
      ·omega
      ·exact hb1 k
     repeat' first|exact gE|refine gS Zad Zaa [22] ?_|refine gO Zad Zaa [22] ?_ ?_|refine gC ?_ ?_<;>intro hb
     ·rw [mget_mput,if_pos rfl] at hb
      refine back ⟨t.L,mput u (mget u (t.es) - 1) (t.c) (t.es),mclk u (t.c) (t.es),t.i+1⟩ [] ?_ ⟨⟨by dsimp only;omega,hwq⟩,by dsimp only;rw [hdn];exact Zlx hA hwq huq hwu hud hes hop (by show 1 < lfn x l (qo to o.length t.L) b.i ((row.take t.i).map Int.toNat) u;omega) ⟨by rw [mhas_mput,if_pos rfl],by rw [mget_mput,if_pos rfl,hg1]⟩ hnd,fun k=>heb k (by omega)⟩ (by dsimp only;omega)
      first|exact leZ Zaa|refine leA Zaa ?_|refine leB Zaa ?_ ?_
     ·rw [mget_mput,if_pos rfl] at hb
      refine Za2 ([_,_,_]) ([]) rfl rfl ?_
      refine gTn Zad Zaa ?_ ?_
      ·first|exact oA|skip
      refine gCl ([0,1,2,3,4]) (hT t.L u w hun) Zaa ?_
      refine gT Zad Zaa ?_ ?_
      ·first|exact oA|skip
      repeat' first|exact gE|refine gS Zad Zaa [] ?_|refine gO Zad Zaa [] ?_ ?_|refine gC ?_ ?_<;>intro hb
      refine back ⟨t.L++[(u,w)],mput u (mget u (t.es) - 1) (t.c) (t.es),mclk u (t.c) (t.es),t.i+1⟩ [(27,92)] ?_ ⟨⟨by dsimp only;omega,Zni hwq⟩,by dsimp only;rw [hdn];exact Zio hA hwq hlu huq hwu hud hes (fun _=>by show lfn x l (qo to o.length t.L) b.i ((row.take t.i).map Int.toNat) u≤1;omega) hnd,fun k=>heb k (by omega)⟩ (by dsimp only;omega)
      first|exact leZ Zaa|refine leA Zaa ?_|refine leB Zaa ?_ ?_
      rw [Zig hwq,List.map_append]
      exact ⟨rfl,Zin hun⟩
    ·rename_i hb2
     have huq:u ∉ qo to o.length t.L:=fun h=>by rw [(Zec hun).2 h] at hb2;cases hb2.2
     refine Za2 ([_,_,_]) ([]) rfl rfl ?_
     refine gTn Zad Zaa ?_ ?_
     ·first|exact oA|skip
     refine gCl ([0,1,2,3,4]) (hT t.L u w hun) Zaa ?_
     refine gT Zad Zaa ?_ ?_
     ·first|exact oA|skip
     repeat' first|exact gE|refine gS Zad Zaa [] ?_|refine gO Zad Zaa [] ?_ ?_|refine gC ?_ ?_<;>intro hb
     refine back ⟨t.L++[(u,w)],t.es,t.c,t.i+1⟩ [(27,73)] ?_ ⟨⟨by dsimp only;omega,Zni hwq⟩,by dsimp only;rw [hdn];exact Zio hA hwq hb2.1 huq hwu hud (fun u' _=>⟨rfl,rfl⟩) (fun h=>absurd hb h) hnd,hbd⟩ (by dsimp only;omega)
     first|exact leZ Zaa|refine leA Zaa ?_|refine leB Zaa ?_ ?_
     rw [Zig hwq,List.map_append]
     exact ⟨rfl,Zin hun⟩
    ·exfalso;omega
   ·have hje:t.i=row.length:=by omega
    repeat' first|exact gE|refine gS Zad Zaa [13] ?_|refine gO Zad Zaa [13] ?_ ?_|refine gC ?_ ?_<;>intro hb
    ·exfalso;omega
    refine back ⟨t.L,t.es,t.c,b.i+1⟩ [(15,27)] ?_ ⟨AQ_end hA hwq fun u hwu=>?_,hbd⟩ (by dsimp only;omega)
    ·first|exact leZ Zaa|refine leA Zaa ?_|refine leB Zaa ?_ ?_
    ·rw [hje,List.take_length]
     exact hba u (by have:u < x.length:=sc_in hwu;omega) hwu
 ·intro t h;exact h.elim
set_option maxRecDepth 4000 in
set_option maxHeartbeats 4000000 in
theorem attract2_fg {o p:List Int} {x:List (List Int)} {left pl:Int} {to l:List Bool} {W C:List (Nat × Nat)→List Int} {pt:Int} (hV:Zc1 ⟨o,p,x⟩) (htl:to.length=o.length) (hll:l.length=o.length)
  (hto:∀ u,u∈kp to o.length→l.getD u false=true) (hTr:∀ u,l.getD u false=true→∃ t,t∈sc x u∧l.getD t false=true)
  (hT:∀ L v w,v < o.length→FG Tryz.prog 57 [.int .i64 (v:Nat),.int .i64 (w:Nat),.own 3,.own 4] [(0,some (.box (svA o p x (Zbf x) left 1 2))),(1,some (.ints (W L))),(2,some (.ints (C L))),(3,some (.box (.own 0))),(4,some (.box (.int .i64 pt)))] 5 fun g=>g=⟨5,resV [],[(0,some (.box (svA o p x (Zbf x) left 1 2))),(1,some (.ints (W (L++[(v,w)])))),(2,some (.ints (C (L++[(v,w)])))),(3,some (.box (.own 0))),(4,some (.box (.int .i64 pt)))]⟩) :
  FG Tryz.prog 52 [.own 0,.int .i64 pl,.roB to,.roB l,.fn 57 (.cons (.own 3) (.cons (.own 4) .nil))] [(0,some (.box (svA o p x (Zbf x) left 1 2))),(1,some (.ints (W []))),(2,some (.ints (C []))),(3,some (.box (.own 0))),(4,some (.box (.int .i64 pt)))] 5
   fun g=>∃ L es,AQ ⟨o,p,x⟩ pl to l L es (qo to o.length L).length []∧g=⟨5,.roB (atB to o.length L),[(0,some (.box (svA o p x (Zbf x) left 1 2))),(1,some (.ints (W L))),(2,some (.ints (C L))),(3,some (.box (.own 0))),(4,some (.box (.int .i64 pt)))]⟩:=by
 obtain ⟨b,hb0⟩:∃ b:AS,b=⟨[],[],0,0⟩:=⟨_,rfl⟩
 refine Zc5 htb (fn:=Tryz.f52) (by kernel_rfl) (by kernel_rfl) rfl (Nat.le_of_ble_eq_true rfl) fun hl=>?_
 simp only [lenP,mkL,lim] at hl
 have hkl:=Zkb (k:=to) (n:=to.length)
 obtain ⟨hn,hpl,hxl,hpos⟩:=id hV
 simp only [Gm.n] at hn hpl hxl
 obtain ⟨F0,hF0⟩:∃ F:Nat→List Bool,F=stB to fun _=>true:=⟨_,rfl⟩
 have hF0l:∀ i,(F0 i).length=to.length:=fun i=>by rw [hF0];exact Zjf
 have hF0n:∀ i,i < (kp to to.length).length→(F0 i).set ((kp to to.length).getD i 0) true=F0 (i+1):=fun i h=>by rw [hF0];exact Zhh h
 repeat' first|exact gE|refine gS Zad Zaa [] ?_|refine gO Zad Zaa [] ?_ ?_|refine gC ?_ ?_<;>intro hb
 refine Zft 11 (.ints []) (.own 14) rfl rfl rfl (by first|exact .inl rfl|exact .inr (.inl rfl)|exact .inr (.inr (.inl rfl))|exact .inr (.inr (.inr rfl))) (by simp only [Zai,Zeu,fzE,fzA,fzR,fzB,set1,nbeq,reduceEqDiff,decide_true,decide_false,↓reduceIte,reduceIte,cond_true,cond_false,List.take_length,Option.some.injEq]<;>rfl) rfl ?_
 refine Zfm ⟨16,[(24,.fn 74 (.cons (.rop (.roB to)) .nil)),(12,.own 11),(11,.own 9),(0,.own 0),(1,.int .i64 pl),(3,.roB l),(4,.fn 57 (.cons (.own 3) (.cons (.own 4) .nil)))],[(11,some (.box (.own 15))),(15,some (.ints [])),(9,some (.box (.own 8))),(8,some (.bools (F0 0))),(0,some (.box (svA o p x (Zbf x) left 1 2))),(1,some (.ints (W b.L))),(2,some (.ints (C b.L))),(3,some (.box (.own 0))),(4,some (.box (.int .i64 pt)))],[]⟩ [(15,14)] ?_ ?_
 ·first|exact leZ Zaa|refine leA Zaa ?_|refine leB Zaa ?_ ?_
  subst hb0
  refine ⟨?_,rfl,rfl⟩
  rw [hF0,hll,←htl]
  exact Zhg
 refine Zeb (m:=15) (M:=16) (fun i=>i≤(kp to to.length).length) (fun _:Nat=>False) (fun i=>(((kp to to.length).getD i 0:Nat):Int)) (fun i=>i < (kp to to.length).length) (fun i i'=>i'=i+1) (fun i=>i=0) (fun i=>i=(kp to to.length).length) .ret (fun i=>[(11,some (.box (.own 15))),(15,some (.ints (((kp to to.length).take i).map fun v:Nat=>(v:Int)))),(9,some (.box (.own 8))),(8,some (.bools (F0 i))),(0,some (.box (svA o p x (Zbf x) left 1 2))),(1,some (.ints (W b.L))),(2,some (.ints (C b.L))),(3,some (.box (.own 0))),(4,some (.box (.int .i64 pt)))]) [] 0 (Zcw to _ _ id fun t h=>h) (Nat.zero_le _) rfl rfl rfl rfl rfl rfl rfl (fun k hk=>by cases hk) (fun t k _ _ hk=>Zhm (M:=16) (l:=[(11,some (.box (.own 15))),(15,some (.ints (((kp to to.length).take t).map fun v:Nat=>(v:Int)))),(9,some (.box (.own 8))),(8,some (.bools (F0 t))),(0,some (.box (svA o p x (Zbf x) left 1 2))),(1,some (.ints (W b.L))),(2,some (.ints (C b.L))),(3,some (.box (.own 0))),(4,some (.box (.int .i64 pt)))]) ⟨⟨rfl,rfl⟩,⟨rfl,trivial⟩,⟨rfl,rfl⟩,⟨rfl,trivial⟩,⟨rfl,rfl⟩,⟨rfl,trivial⟩,⟨rfl,trivial⟩,⟨rfl,rfl⟩,⟨rfl,rfl⟩,trivial⟩ k _ hk) ?_ ?_ ?_
 ·intro lp i hi hg
  obtain ⟨hv1,hv2⟩:=Ziq hg
  have hFn1:=hF0n i hg
  have hkt:((kp to to.length).take (i+1)).map (fun v:Nat=>(v:Int))=((kp to to.length).take i).map (fun v:Nat=>(v:Int))++[(((kp to to.length).getD i 0:Nat):Int)]:=by rw [Zff (d:=0) hg,List.map_append];rfl
  have hkq:(((kp to to.length).take i).map (fun v:Nat=>(v:Int))).length≤to.length:=by rw [List.length_map,List.length_take];omega
  generalize hvv:(kp to to.length).getD i 0=v at *
  have hFi:=hF0l i
  refine gR Zad Zaa ?_ ?_
  ·first|exact oA|skip
  refine ⟨rfl,?_⟩
  repeat' first|exact gE|refine gS Zad Zaa [] ?_|refine gO Zad Zaa [] ?_ ?_|refine gC ?_ ?_<;>intro hb
  refine ⟨_,i+1,[(15,24)],rfl,?_,.inl ⟨rfl,hg,rfl⟩⟩
  first|exact leZ Zaa|refine leA Zaa ?_|refine leB Zaa ?_ ?_
  exact ⟨hkt.symm,hFn1⟩
 ·intro i hi hfin
  have hfin:i=(kp to to.length).length:=hfin
  repeat' first|exact gE|refine gS Zad Zaa [8] ?_|refine gO Zad Zaa [8] ?_ ?_|refine gC ?_ ?_<;>intro hb
  have hF0e:F0 i=atB to o.length []:=by
   rw [hF0,hfin,Zjg,htl]
   refine List.map_congr_left fun v hv=>?_
   rw [Bool.and_true,Bool.eq_iff_iff,decide_eq_true_iff]
   simp only [qo,List.map_nil,List.append_nil]
   exact ⟨fun h=>List.mem_filter.2 ⟨hv,h⟩,fun h=>(List.mem_filter.1 h).2⟩
  have hq0:(kp to to.length).take i=qo to o.length []:=by rw [hfin,List.take_length,htl];simp [qo]
  have hA0:AQ ⟨o,p,x⟩ pl to l [] [] 0 []:=AQ_begin hto hTr
  rw [hF0e,hq0]
  clear hF0e hq0 hF0n hF0l hF0 hfin hi hkl
  have hbL:b.L=[]:=by rw [hb0]
  refine Zag (τ:=AS) (fun b=>AQ ⟨o,p,x⟩ pl to l b.L b.es b.i []∧∀ k:Nat,0≤mget k b.es∧mget k b.es≤64) (fun b=>⟨19,[(14,.own 17),(12,.own 11),(11,.own 9),(0,.own 0),(1,.int .i64 pl),(3,.roB l),(4,.fn 57 (.cons (.own 3) (.cons (.own 4) .nil)))],[(17,some (.mp b.es b.c)),(16,some .dfr),(11,some (.box (.own 15))),(15,some (.ints (((qo to o.length b.L).drop b.i).map fun v:Nat=>(v:Int)))),(9,some (.box (.own 8))),(8,some (.bools (atB to o.length b.L))),(0,some (.box (svA o p x (Zbf x) left 1 2))),(1,some (.ints (W b.L))),(2,some (.ints (C b.L))),(3,some (.box (.own 0))),(4,some (.box (.int .i64 pt)))],[16]⟩) (fun b=>o.length - b.i) ⟨[],[],0,0⟩ [] ?_ ⟨hA0,fun k=>⟨Int.le_refl 0,(by decide:(0:Int)≤64)⟩⟩ ?_
  ·rw [hbL]
   first|exact leZ Zaa|refine leA Zaa ?_|refine leB Zaa ?_ ?_
  clear hA0 hbL hb0 b F0
  intro b hA
  have hql:(qo to o.length b.L).length≤o.length:=Zcq _ _ hA.1.nd fun u hu=>Zck (by omega) (hA.1.ql u hu)
  have hiq:b.i≤(qo to o.length b.L).length:=hA.1.iq
  cases hdr:(qo to o.length b.L).drop b.i with
  |nil =>
   have hie:b.i=(qo to o.length b.L).length:=by have:=List.drop_eq_nil_iff.1 hdr;omega
   simp only [List.map_nil]
   repeat' first|exact gE|refine gS Zad Zaa [25] ?_|refine gO Zad Zaa [25] ?_ ?_|refine gC ?_ ?_<;>intro hb
   ·simp at hb
   refine Zbb 8 (.roB (atB to o.length b.L)) ?_
   repeat' first|exact gE|refine gS Zad Zaa [] ?_|refine gO Zad Zaa [] ?_ ?_|refine gC ?_ ?_<;>intro hb
   refine ⟨_,_,rfl,rfl,fun k hk=>by rw [List.mem_singleton.1 hk];rfl,(by show [16].Nodup;decide),by show 5≤22+2;omega,Zbe ⟨5,.roB (atB to o.length b.L),[(0,some (.box (svA o p x (Zbf x) left 1 2))),(1,some (.ints (W b.L))),(2,some (.ints (C b.L))),(3,some (.box (.own 0))),(4,some (.box (.int .i64 pt)))]⟩ [] ⟨b.L,b.es,by rw [←hie];exact hA.1,rfl⟩ rfl (Zal rfl) ?_⟩
   simp only [grR,zE,evp,evx,ev1,evLoad,evStore,evBin,evIf,Zac,forall_const,z38,tb,reduceAdd,reduceSub,reduceMul,reduceEqDiff,reduceLeDiff,reduceLT,Nat.reduceBEq,Nat.reduceBNe,↓reduceIte,reduceIte,svA,spMb,membersS]
  |cons w rest =>
   have hwq:(qo to o.length b.L)[b.i]? = some w:=by
    have h1:((qo to o.length b.L).drop b.i)[0]? = some w:=by rw [hdr];rfl
    rw [List.getElem?_drop] at h1
    exact h1
   have hwn:w < o.length:=Zck (by omega) (hA.1.ql w (List.mem_of_getElem? hwq))
   have hrest:rest=(qo to o.length b.L).drop (b.i+1):=by
    have h1:((qo to o.length b.L).drop b.i).drop 1=rest:=by rw [hdr];rfl
    rw [List.drop_drop] at h1
    exact h1.symm
   have hrl:rest.length≤o.length:=by rw [hrest,List.length_drop];omega
   have hBl:(Zbf x).length=o.length:=by simp [Zbf];exact hxl
   simp only [List.map_cons]
   repeat' first|exact gE|refine gS Zad Zaa [12] ?_|refine gO Zad Zaa [12] ?_ ?_|refine gC ?_ ?_<;>intro hb
   rotate_left
   ·exfalso;omega
   have hbf:=Zj0 hV hwn
   have hba:=Zln hV hwn
   dsimp only at hbf hba
   have hrl6:∀ v,v < o.length→(x.getD v []).length≤64:=fun v h=>by
    obtain ⟨⟨a1,a2,a3,a4,_,a6⟩,_⟩:=hpos v (by simp only [Gm.n];omega)
    exact a6
   have hrb:∀ v,v < o.length→∀ j,j < (x.getD v []).length→0≤(x.getD v []).getD j 0∧(x.getD v []).getD j 0 < (l.length:Int):=fun v h j hj=>by
    obtain ⟨_,hr⟩:=hpos v (by simp only [Gm.n];omega)
    have h1:(x.getD v []).getD j 0 < (o.length:Int):=(hr j hj).2.1
    exact ⟨(hr j hj).1,by omega⟩
   have hrow:((Zbf x).getD w []).length≤64 * o.length:=by
    have h1:=Zlm hV hwn
    dsimp only at h1
    rw [h1]
    exact Zjz (fun v h=>hrl6 v (by omega)) o.length (by omega)
   generalize (Zbf x).getD w []=row at *
   have hq1:List.drop 1 ((w:Int) :: rest.map fun v:Nat=>(v:Int))=((qo to o.length b.L).drop (b.i+1)).map fun v:Nat=>(v:Int):=by rw [←hrest];rfl
   rw [hq1]
   refine Zag (τ:=AS) (fun t=>(t.i≤row.length∧(qo to o.length t.L)[b.i]? = some w)∧AQ ⟨o,p,x⟩ pl to l t.L t.es b.i ((row.take t.i).map Int.toNat)∧∀ k:Nat,0≤mget k t.es∧mget k t.es≤64) (fun t=>⟨38,[(50,.int .i64 t.i),(49,.int .i64 row.length),(48,.roI row),(15,.int .i64 w),(14,.own 17),(12,.own 11),(11,.own 9),(0,.own 0),(1,.int .i64 pl),(3,.roB l),(4,.fn 57 (.cons (.own 3) (.cons (.own 4) .nil)))],[(17,some (.mp t.es t.c)),(16,some .dfr),(11,some (.box (.own 27))),(27,some (.ints (((qo to o.length t.L).drop (b.i+1)).map fun v:Nat=>(v:Int)))),(9,some (.box (.own 8))),(8,some (.bools (atB to o.length t.L))),(0,some (.box (svA o p x (Zbf x) left 1 2))),(1,some (.ints (W t.L))),(2,some (.ints (C t.L))),(3,some (.box (.own 0))),(4,some (.box (.int .i64 pt)))],[16]⟩) (fun t=>row.length - t.i) ⟨b.L,b.es,b.c,0⟩ [] ?_ ⟨⟨Nat.zero_le _,hwq⟩,hA.1,hA.2⟩ ?_
   ·first|exact leZ Zaa|refine leA Zaa ?_|refine leB Zaa ?_ ?_
   clear hq1 hdr hrest hwq hrl hb hql
   rintro t ⟨⟨hj,hwq⟩,hA,hbd⟩
   have hql:(qo to o.length t.L).length≤o.length:=Zcq _ _ hA.nd fun u hu=>Zck (by omega) (hA.ql u hu)
   have hiq2:b.i < (qo to o.length t.L).length:=(List.getElem?_eq_some_iff.1 hwq).1
   have hdl:(((qo to o.length t.L).drop (b.i+1)).map fun v:Nat=>(v:Int)).length≤o.length:=by rw [List.length_map,List.length_drop];omega
   have hal:(atB to o.length t.L).length=o.length:=by simp [atB]
   by_cases hjl:t.i < row.length
   ·obtain ⟨u,hu⟩:∃ u:Nat,row.getD t.i 0=(u:Int):=⟨_,(hbf t.i hjl).1⟩
    obtain ⟨_,hun,hwu,hud⟩:=hbf t.i hjl
    rw [hu,Int.toNat_natCast] at hun hwu hud
    have hdn:(row.take (t.i+1)).map Int.toNat=(row.take t.i).map Int.toNat++[u]:=by rw [Zff (d:=0) hjl,List.map_append,hu];rfl
    have hnd:=sc_nodup hV hun
    have hbu:=hbd u
    have hwl:=hA.ql w (List.mem_of_getElem? hwq)
    repeat' first|exact gE|refine gS Zad Zaa [14] ?_|refine gO Zad Zaa [14] ?_ ?_|refine gC ?_ ?_<;>intro hb
    rw [hu]
    repeat' first|exact gE|refine gS Zad Zaa [18,19,22] ?_|refine gO Zad Zaa [18,19,22] ?_ ?_|refine gC ?_ ?_<;>intro hb
    ·refine back ⟨t.L,t.es,t.c,t.i+1⟩ [] ?_ ⟨⟨by dsimp only;omega,hwq⟩,?_,hbd⟩ (by dsimp only;omega)
     ·first|exact leZ Zaa|refine leA Zaa ?_|refine leB Zaa ?_ ?_
     ·dsimp only
      rw [hdn]
      exact AQ_skip hA hwq (hb.imp id (Zec hun).1)
    ·rename_i hb2 hop
     obtain ⟨hlu,huo⟩:=hb2
     have huq:u ∉ qo to o.length t.L:=fun h=>by rw [(Zec hun).2 h] at huo;cases huo
     obtain ⟨h0,_,h2⟩:=hA.c0o u hlu huq hop
     have hg2:=h2 hb
     dsimp only at h0 hg2
     have h64:=hrl6 u hun
     have hlf:=lfn_le (g:=⟨o,p,x⟩) (l:=l) (i:=b.i) (u:=u) (dn:=(row.take t.i).map Int.toNat) (qo to o.length t.L)
     dsimp only at hlf
     refine Za2 ([_,_,_,_,_]) ([_]) rfl rfl ?_
     refine gTn Zad Zaa ?_ ?_
     ·first|exact oA|skip
     refine gCl ([0,1,2]) (insd_fg (o:=o) (p:=p) (x:=x) (B:=Zbf x) (left:=left) (W:=W t.L) (C:=C t.L) (l:=l) (v:=u) (by omega) (fun j hj=>hrb u hun j hj) h64) Zaa ?_
     refine gT Zad Zaa ?_ ?_
     ·first|exact oA|skip
     have hin:inN l (x.getD u [])=inM x l u:=rfl
     rw [hin,hg2]
     obtain ⟨e1,he1⟩:∃ e,e=mput (u:Int) (lfn x l (qo to o.length t.L) b.i ((row.take t.i).map Int.toNat) u:Int) t.c t.es:=⟨_,rfl⟩
     obtain ⟨c1,hc1⟩:∃ c,c=mclk (u:Int) t.c t.es:=⟨_,rfl⟩
     rw [←he1,←hc1]
     have hg1:mget u e1=lfn x l (qo to o.length t.L) b.i ((row.take t.i).map Int.toNat) u:=by rw [he1,mget_mput,if_pos rfl]
     have hot:∀ u':Nat,u'≠u→mhas u' e1=mhas u' t.es∧mget u' e1=mget u' t.es:=fun u' hu'=>by
      rw [he1]
      exact ⟨by rw [mhas_mput,if_neg (by omega)],by rw [mget_mput,if_neg (by omega)]⟩
     have hb1:∀ k:Nat,0≤mget k e1∧mget k e1≤64:=fun k=>by
      rw [he1,mget_mput]
      split
      ·omega
      ·exact hbd k
     have hbu1:=hb1 u
     have hes:∀ u':Nat,u'≠u→mhas u' (mput u (mget u (e1) - 1) (c1) (e1))=mhas u' t.es∧mget u' (mput u (mget u (e1) - 1) (c1) (e1))=mget u' t.es:=fun u' hu'=>⟨(mhas_mput.trans (if_neg (by omega))).trans (hot u' hu').1,(mget_mput.trans (if_neg (by omega))).trans (hot u' hu').2⟩
     have heb:∀ k:Nat,0≤mget u (e1) - 1→0≤mget k (mput u (mget u (e1) - 1) (c1) (e1))∧mget k (mput u (mget u (e1) - 1) (c1) (e1))≤64:=fun k h0=>by
      rw [mget_mput]
      split
      ·omega
      ·exact hb1 k
     repeat' first|exact gE|refine gS Zad Zaa [22] ?_|refine gO Zad Zaa [22] ?_ ?_|refine gC ?_ ?_<;>intro hb
     ·rw [mget_mput,if_pos rfl] at hb
      refine back ⟨t.L,mput u (mget u (e1) - 1) (c1) (e1),mclk u (c1) (e1),t.i+1⟩ [] ?_ ⟨⟨by dsimp only;omega,hwq⟩,by dsimp only;rw [hdn];exact Zlx hA hwq huq hwu hud hes hop (by show 1 < lfn x l (qo to o.length t.L) b.i ((row.take t.i).map Int.toNat) u;omega) ⟨by rw [mhas_mput,if_pos rfl],by rw [mget_mput,if_pos rfl,hg1]⟩ hnd,fun k=>heb k (by omega)⟩ (by dsimp only;omega)
      first|exact leZ Zaa|refine leA Zaa ?_|refine leB Zaa ?_ ?_
     ·rw [mget_mput,if_pos rfl] at hb
      refine Za2 ([_,_,_]) ([]) rfl rfl ?_
      refine gTn Zad Zaa ?_ ?_
      ·first|exact oA|skip
      refine gCl ([0,1,2,3,4]) (hT t.L u w hun) Zaa ?_
      refine gT Zad Zaa ?_ ?_
      ·first|exact oA|skip
      repeat' first|exact gE|refine gS Zad Zaa [] ?_|refine gO Zad Zaa [] ?_ ?_|refine gC ?_ ?_<;>intro hb
      refine back ⟨t.L++[(u,w)],mput u (mget u (e1) - 1) (c1) (e1),mclk u (c1) (e1),t.i+1⟩ [(27,98)] ?_ ⟨⟨by dsimp only;omega,Zni hwq⟩,by dsimp only;rw [hdn];exact Zio hA hwq hlu huq hwu hud hes (fun _=>by show lfn x l (qo to o.length t.L) b.i ((row.take t.i).map Int.toNat) u≤1;omega) hnd,fun k=>heb k (by omega)⟩ (by dsimp only;omega)
      first|exact leZ Zaa|refine leA Zaa ?_|refine leB Zaa ?_ ?_
      rw [Zig hwq,List.map_append]
      exact ⟨rfl,Zin hun⟩
    ·rename_i hb2 hop
     obtain ⟨hlu,huo⟩:=hb2
     have huq:u ∉ qo to o.length t.L:=fun h=>by rw [(Zec hun).2 h] at huo;cases huo
     obtain ⟨h0,h1,_⟩:=hA.c0o u hlu huq hop
     have hg1:=h1 hb
     dsimp only at h0 hg1
     have hot:∀ u':Nat,u'≠u→mhas u' t.es=mhas u' t.es∧mget u' t.es=mget u' t.es:=fun u' hu'=>⟨rfl,rfl⟩
     have hb1:=hbd
     have hbu1:=hb1 u
     have hes:∀ u':Nat,u'≠u→mhas u' (mput u (mget u (t.es) - 1) (t.c) (t.es))=mhas u' t.es∧mget u' (mput u (mget u (t.es) - 1) (t.c) (t.es))=mget u' t.es:=fun u' hu'=>⟨(mhas_mput.trans (if_neg (by omega))).trans (hot u' hu').1,(mget_mput.trans (if_neg (by omega))).trans (hot u' hu').2⟩
     have heb:∀ k:Nat,0≤mget u (t.es) - 1→0≤mget k (mput u (mget u (t.es) - 1) (t.c) (t.es))∧mget k (mput u (mget u (t.es) - 1) (t.c) (t.es))≤64:=fun k h0=>by
      rw [mget_mput]
      split
      ·omega
      ·exact hb1 k
     repeat' first|exact gE|refine gS Zad Zaa [22] ?_|refine gO Zad Zaa [22] ?_ ?_|refine gC ?_ ?_<;>intro hb
     ·rw [mget_mput,if_pos rfl] at hb
      refine back ⟨t.L,mput u (mget u (t.es) - 1) (t.c) (t.es),mclk u (t.c) (t.es),t.i+1⟩ [] ?_ ⟨⟨by dsimp only;omega,hwq⟩,by dsimp only;rw [hdn];exact Zlx hA hwq huq hwu hud hes hop (by show 1 < lfn x l (qo to o.length t.L) b.i ((row.take t.i).map Int.toNat) u;omega) ⟨by rw [mhas_mput,if_pos rfl],by rw [mget_mput,if_pos rfl,hg1]⟩ hnd,fun k=>heb k (by omega)⟩ (by dsimp only;omega)
      first|exact leZ Zaa|refine leA Zaa ?_|refine leB Zaa ?_ ?_
     ·rw [mget_mput,if_pos rfl] at hb
      refine Za2 ([_,_,_]) ([]) rfl rfl ?_
      refine gTn Zad Zaa ?_ ?_
      ·first|exact oA|skip
      refine gCl ([0,1,2,3,4]) (hT t.L u w hun) Zaa ?_
      refine gT Zad Zaa ?_ ?_
      ·first|exact oA|skip
      repeat' first|exact gE|refine gS Zad Zaa [] ?_|refine gO Zad Zaa [] ?_ ?_|refine gC ?_ ?_<;>intro hb
      refine back ⟨t.L++[(u,w)],mput u (mget u (t.es) - 1) (t.c) (t.es),mclk u (t.c) (t.es),t.i+1⟩ [(27,92)] ?_ ⟨⟨by dsimp only;omega,Zni hwq⟩,by dsimp only;rw [hdn];exact Zio hA hwq hlu huq hwu hud hes (fun _=>by show lfn x l (qo to o.length t.L) b.i ((row.take t.i).map Int.toNat) u≤1;omega) hnd,fun k=>heb k (by omega)⟩ (by dsimp only;omega)
      first|exact leZ Zaa|refine leA Zaa ?_|refine leB Zaa ?_ ?_
      rw [Zig hwq,List.map_append]
      exact ⟨rfl,Zin hun⟩
    ·rename_i hb2
     have huq:u ∉ qo to o.length t.L:=fun h=>by rw [(Zec hun).2 h] at hb2;cases hb2.2
     refine Za2 ([_,_,_]) ([]) rfl rfl ?_
     refine gTn Zad Zaa ?_ ?_
     ·first|exact oA|skip
     refine gCl ([0,1,2,3,4]) (hT t.L u w hun) Zaa ?_
     refine gT Zad Zaa ?_ ?_
     ·first|exact oA|skip
     repeat' first|exact gE|refine gS Zad Zaa [] ?_|refine gO Zad Zaa [] ?_ ?_|refine gC ?_ ?_<;>intro hb
     refine back ⟨t.L++[(u,w)],t.es,t.c,t.i+1⟩ [(27,73)] ?_ ⟨⟨by dsimp only;omega,Zni hwq⟩,by dsimp only;rw [hdn];exact Zio hA hwq hb2.1 huq hwu hud (fun u' _=>⟨rfl,rfl⟩) (fun h=>absurd hb h) hnd,hbd⟩ (by dsimp only;omega)
     first|exact leZ Zaa|refine leA Zaa ?_|refine leB Zaa ?_ ?_
     rw [Zig hwq,List.map_append]
     exact ⟨rfl,Zin hun⟩
    ·exfalso;omega
   ·have hje:t.i=row.length:=by omega
    repeat' first|exact gE|refine gS Zad Zaa [13] ?_|refine gO Zad Zaa [13] ?_ ?_|refine gC ?_ ?_<;>intro hb
    ·exfalso;omega
    refine back ⟨t.L,t.es,t.c,b.i+1⟩ [(15,27)] ?_ ⟨AQ_end hA hwq fun u hwu=>?_,hbd⟩ (by dsimp only;omega)
    ·first|exact leZ Zaa|refine leA Zaa ?_|refine leB Zaa ?_ ?_
    ·rw [hje,List.take_length]
     exact hba u (by have:u < x.length:=sc_in hwu;omega) hwu
 ·intro t h;exact h.elim
end Go.Proofs.YtjcmlflljibikaaGreatDoor.Cal
