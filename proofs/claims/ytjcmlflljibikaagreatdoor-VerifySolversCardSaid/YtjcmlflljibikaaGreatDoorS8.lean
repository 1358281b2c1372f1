/- Own texts, merged. -/
import Derived.WideLaws
import Derived.WalkSpells
import Derived.Test.YtjcmlflljibikaaGreatDoorS7
set_option linter.unusedVariables false
set_option linter.unusedSimpArgs false
open Nat (reduceAdd reduceSub reduceMul reduceEqDiff reduceLeDiff reduceLT)
namespace Go.Proofs.YtjcmlflljibikaaGreatDoor.Cal
open Go Pl
def badV (n:Nat) (v:Int):Bool:=decide (v < 0∨(n:Int)≤v)
def ply1S : Spec
 |[.int .i64 v,.rop (.agg (.cons (.roI o) (.cons (.roI p) (.cons (.roII x) .nil))))]=>some ⟨True,.bool (badV o.length v),none⟩
 |_=>none
set_option maxRecDepth 4000 in
set_option maxHeartbeats 4000000 in
theorem ply1_ok : Zcn Tryz.prog 47 ply1S:=by
 refine Zaw htb (fn:=Tryz.f47) (by kernel_rfl) (by kernel_rfl) rfl (fun args r hS=>?_) (fun args r hS hob hl=>?_)
 ·unfold ply1S at hS;split at hS<;>first|(cases hS;done)|(cases hS;exact Nat.le_of_ble_eq_true rfl)
 unfold ply1S at hS
 split at hS
 case h_2=>cases hS
 rename_i v o p x
 simp only [Option.some.injEq] at hS
 subst hS
 simp only [lenP,mkL,lim] at hl
 dsimp only at hob
 repeat' first|exact gE|refine gS noSp x0 [] ?_|refine gO noSp x0 [] ?_ ?_|refine gC ?_ ?_<;>intro hb
 refine Zab rfl rfl (Zae rfl ?_ rfl)
 show AV.bool (decide (v < 0) || decide ((o.length:Int)≤v))=AV.bool (badV o.length v)
 unfold badV
 rw [Bool.decide_or]
def nbF (n:Nat) (l:List Int):Nat→Nat→Int
 |_,0 => -1
 |i,k+1=>if badV n (l.getD i 0)=true then i else nbF n l (i+1) k
theorem nbF_iff {n:Nat} {l:List Int}:∀ {k i:Nat},0≤nbF n l i k↔∃ j,i≤j∧j < i+k∧badV n (l.getD j 0)=true
 |0,i=>⟨fun h=>absurd h (by unfold nbF;decide),fun ⟨j,h1,h2,_⟩=>by omega⟩
 |k+1,i=>by
  unfold nbF
  split
  ·rename_i h
   exact ⟨fun _=>⟨i,Nat.le_refl _,by omega,h⟩,fun _=>by omega⟩
  ·rename_i h
   rw [nbF_iff]
   constructor
   ·rintro ⟨j,h1,h2,h3⟩;exact ⟨j,by omega,by omega,h3⟩
   ·rintro ⟨j,h1,h2,h3⟩
    refine ⟨j,?_,by omega,h3⟩
    rcases Nat.lt_or_eq_of_le h1 with h4|h4
    ·exact h4
    ·subst h4;exact absurd h3 h
def idxvS : Spec
 |[.roI l,.fn 47 (.cons (.rop (.agg (.cons (.roI o) (.cons (.roI p) (.cons (.roII x) .nil))))) .nil)]=>some ⟨True,.int .i64 (nbF o.length l 0 l.length),none⟩
 |_=>none
def spIv : Nat→Option Spec
 |47=>some ply1S
 |_=>none
theorem Zkl : SpOK Tryz.prog spIv:=by
 intro f S h
 unfold spIv at h
 split at h
 ·cases h;exact ply1_ok
 ·cases h
def Zfa := Hd.mk (And.intro @spIv.eq_1<|@ply1S.eq_1)
set_option maxRecDepth 4000 in
set_option maxHeartbeats 4000000 in
theorem idxv_ok : Zcn Tryz.prog 72 idxvS:=by
 refine Zaw htb (fn:=Tryz.f72) (by kernel_rfl) (by kernel_rfl) rfl (fun args r hS=>?_) (fun args r hS hob hl=>?_)
 ·unfold idxvS at hS;split at hS<;>first|(cases hS;done)|(cases hS;exact Nat.le_of_ble_eq_true rfl)
 unfold idxvS at hS
 split at hS
 case h_2=>cases hS
 rename_i l o p x
 simp only [Option.some.injEq] at hS
 subst hS
 simp only [lenP,mkL,lim] at hl
 dsimp only at hob
 repeat' first|exact gE|refine gS Zkl Zfa [] ?_|refine gO Zkl Zfa [] ?_ ?_|refine gC ?_ ?_<;>intro hb
 refine Zag (τ:=Nat) (fun i=>i≤l.length∧nbF o.length l i (l.length - i)=nbF o.length l 0 l.length) (fun i=>⟨4,[(8,.int .i64 i),(7,.int .i64 l.length),(0,.roI l),(1,.fn 47 (.cons (.rop (.agg (.cons (.roI o) (.cons (.roI p) (.cons (.roII x) .nil))))) .nil))],[],[]⟩) (fun i=>l.length - i) 0 [] ?_ ⟨Nat.zero_le _,rfl⟩ ?_
 ·first|exact leZ Zfa|refine leA Zfa ?_|refine leB Zfa ?_ ?_
 rintro i ⟨hi,hj⟩
 have hst:i < l.length→nbF o.length l i (l.length - i)=if badV o.length (l.getD i 0)=true then (i:Int) else nbF o.length l (i+1) (l.length - (i+1)):=fun h=>by
  rw [show l.length - i=l.length - (i+1)+1 by omega];rfl
 repeat' first|exact gE|refine gS Zkl Zfa [] ?_|refine gO Zkl Zfa [] ?_ ?_|refine gC ?_ ?_<;>intro hb
 ·refine Zab rfl rfl (Zae rfl ?_ rfl)
  rw [←hj,hst (by omega),if_pos hb]
  rfl
 ·refine back (i+1) [] ?_ ⟨by omega,?_⟩ (by omega)
  ·first|exact leZ Zfa|refine leA Zfa ?_|refine leB Zfa ?_ ?_
  ·rw [←hj,hst (by omega),if_neg]
   intro h
   rw [hb] at h;cases h
 ·refine Zab rfl rfl (Zae rfl ?_ rfl)
  have hin:i=l.length:=by omega
  rw [←hj,hin,Nat.sub_self]
  rfl
def ctvS : Spec
 |[.roI l,.fn 47 (.cons (.rop (.agg (.cons (.roI o) (.cons (.roI p) (.cons (.roII x) .nil))))) .nil)]=>some ⟨True,.bool (decide (0≤nbF o.length l 0 l.length)),none⟩
 |_=>none
def spCv : Nat→Option Spec
 |72=>some idxvS
 |_=>none
theorem spCv_ok : SpOK Tryz.prog spCv:=by
 intro f S h
 unfold spCv at h
 split at h
 ·cases h;exact idxv_ok
 ·cases h
def xW22a_2 := Hd.mk (And.intro @spCv.eq_1<|@idxvS.eq_1)
set_option maxRecDepth 4000 in
set_option maxHeartbeats 4000000 in
theorem ctv_ok : Zcn Tryz.prog 46 ctvS:=by
 refine Zaw htb (fn:=Tryz.f46) (by kernel_rfl) (by kernel_rfl) rfl (fun args r hS=>?_) (fun args r hS hob hl=>?_)
 ·unfold ctvS at hS;split at hS<;>first|(cases hS;done)|(cases hS;exact Nat.le_of_ble_eq_true rfl)
 unfold ctvS at hS
 split at hS
 case h_2=>cases hS
 rename_i l o p x
 simp only [Option.some.injEq] at hS
 subst hS
 simp only [lenP,mkL,lim] at hl
 dsimp only at hob
 repeat' first|exact gE|refine gS spCv_ok xW22a_2 [] ?_|refine gO spCv_ok xW22a_2 [] ?_ ?_|refine gC ?_ ?_<;>intro hb
 refine Zab rfl rfl (Zae rfl ?_ rfl)
 rfl
def plyS : Spec
 |[.agg (.cons (.roI o) (.cons (.roI p) (.cons (.roII x) .nil))),.agg (.cons (.roI s) (.cons (.roI lp) .nil))]=>some ⟨(s.length≤40000∧lp.length≤40000)∧x.length=o.length,.bool (isP ⟨o,p,x⟩ s lp),none⟩
 |_=>none
def spPy : Nat→Option Spec
 |25=>some joiS
 |46=>some ctvS
 |27=>some containsS
 |_=>none
theorem Zbu : SpOK Tryz.prog spPy:=by
 intro f S h
 unfold spPy at h
 split at h
 ·cases h;exact Zhx
 ·cases h;exact ctv_ok
 ·cases h;exact Zhe
 ·cases h
def Za6 := Hd.mk (And.intro @spPy.eq_1<|And.intro @spPy.eq_2<|And.intro @spPy.eq_3<|And.intro @joiS.eq_1<|And.intro @ctvS.eq_1<|@containsS.eq_1)
set_option maxRecDepth 4000 in
set_option maxHeartbeats 4000000 in
theorem ply_ok : Zcn Tryz.prog 24 plyS:=by
 refine Zaw htb (fn:=Tryz.f24) (by kernel_rfl) (by kernel_rfl) rfl (fun args r hS=>?_) (fun args r hS hob hl=>?_)
 ·unfold plyS at hS;split at hS<;>first|(cases hS;done)|(cases hS;exact Nat.le_of_ble_eq_true rfl)
 unfold plyS at hS
 split at hS
 case h_2=>cases hS
 rename_i o p x s lp
 simp only [Option.some.injEq] at hS
 subst hS
 simp only [lenP,mkL,lim] at hl
 dsimp only at hob
 obtain ⟨⟨h1,h2⟩,h3⟩:=hob
 have hal:(s++lp).length=s.length+lp.length:=List.length_append ..
 have hfl:[s,lp].flatten=s++lp:=by simp
 have hfl2:[s,lp].flatten.length≤100000:=by rw [hfl];omega
 have hP:isP ⟨o,p,x⟩ s lp=decide (lp≠[]∧(∀ i,i < (s++lp).length→0≤(s++lp).getD i 0∧(s++lp).getD i 0 < (o.length:Int))∧∀ i:Nat,i < (s++lp).length→aftP (s++lp) lp i∈x.getD ((s++lp).getD i 0).toNat []):=by
  unfold isP
  exact decide_eq_decide.2 Iff.rfl
 repeat' first|exact gE|refine gS Zbu Za6 [2] ?_|refine gO Zbu Za6 [2] ?_ ?_|refine gC ?_ ?_<;>intro hb
 rw [hfl]
 generalize s++lp=L at *
 have hL:L.length≤80000:=by omega
 clear hfl hfl2
 repeat' first|exact gE|refine gS Zbu Za6 [3,4] ?_|refine gO Zbu Za6 [3,4] ?_ ?_|refine gC ?_ ?_<;>intro hb
 ·have hf:isP ⟨o,p,x⟩ s lp=false:=by
   rw [hP]
   refine decide_eq_false fun h=>?_
   rcases hb with hb|hb
   ·exact h.1 (List.length_eq_zero_iff.1 (by omega))
   ·obtain ⟨j,_,hj,hbd⟩:=nbF_iff.1 hb
    have:=h.2.1 j (by omega)
    have hbd:=of_decide_eq_true hbd
    omega
  repeat' first|exact gE|refine gS Zbu Za6 [] ?_|refine gO Zbu Za6 [] ?_ ?_|refine gC ?_ ?_<;>intro hb
  refine Zab rfl rfl (Zae rfl ?_ rfl)
  rw [hf];rfl
 have hl0:0 < lp.length:=by omega
 have hlp:lp≠[]:=List.length_pos_iff.1 hl0
 have hk:∀ j,j < L.length→0≤L.getD j 0∧L.getD j 0 < (o.length:Int):=fun j hj=>by
  have h0:¬ (badV o.length (L.getD j 0)=true):=fun hbd=>by
   have:=nbF_iff.2 ⟨j,Nat.zero_le _,(by omega:j < 0+L.length),hbd⟩
   omega
  unfold badV at h0
  rw [decide_eq_true_eq] at h0
  omega
 clear hb
 repeat' first|exact gE|refine gS Zbu Za6 [] ?_|refine gO Zbu Za6 [] ?_ ?_|refine gC ?_ ?_<;>intro hb
 refine Zag (τ:=Nat) (fun i=>i≤L.length∧∀ j:Nat,j < i→aftP L lp j∈x.getD (L.getD j 0).toNat []) (fun i=>⟨22,[(26,.int .i64 i),(25,.int .i64 L.length),(24,.roI L),(5,.roI L),(3,.rop (.agg (.cons (.roI s) (.cons (.roI lp) .nil)))),(2,.rop (.agg (.cons (.roI o) (.cons (.roI p) (.cons (.roII x) .nil)))))],[],[]⟩) (fun i=>L.length - i) 0 [] ?_ ⟨Nat.zero_le _,fun j hj=>absurd hj (Nat.not_lt_zero j)⟩ ?_
 ·first|exact leZ Za6|refine leA Za6 ?_|refine leB Za6 ?_ ?_
 rintro i ⟨hi,hk2⟩
 have hk1:=hk i
 repeat' first|exact gE|refine gS Zbu Za6 [8] ?_|refine gO Zbu Za6 [8] ?_ ?_|refine gC ?_ ?_<;>intro hb
 ·have hil:i < L.length:=by omega
  have hk1:=hk1 hil
  have hA:aftP L lp i=if (i:Int)+1 < L.length then L.getD ((i:Int)+1).toNat 0 else lp.getD 0 0:=rfl
  have hfin:aftP L lp i ∉ x.getD (L.getD i 0).toNat []→isP ⟨o,p,x⟩ s lp=false:=fun h=>by
   rw [hP]
   exact decide_eq_false fun h2=>h (h2.2.2 i hil)
  have hnew:aftP L lp i∈x.getD (L.getD i 0).toNat []→∀ j:Nat,j < i+1→aftP L lp j∈x.getD (L.getD j 0).toNat []:=fun h j hj=>by
   rcases Nat.lt_succ_iff_lt_or_eq.1 hj with h2|rfl
   ·exact hk2 j h2
   ·exact h
  obtain ⟨A,hAe⟩:∃ A,aftP L lp i=A:=⟨_,rfl⟩
  rw [hAe] at hA hfin hnew
  repeat' first|exact gE|refine gS Zbu Za6 [9,10] ?_|refine gO Zbu Za6 [9,10] ?_ ?_|refine gC ?_ ?_<;>intro hb
  ·rw [if_pos hb] at hA
   have hb1:=hb
   clear hb
   repeat' first|exact gE|refine gS Zbu Za6 [10] ?_|refine gO Zbu Za6 [10] ?_ ?_|refine gC ?_ ?_<;>intro hb
   rw [←hA]
   repeat' first|exact gE|refine gS Zbu Za6 [11,12] ?_|refine gO Zbu Za6 [11,12] ?_ ?_|refine gC ?_ ?_<;>intro hb
   ·repeat' first|exact gE|refine gS Zbu Za6 [] ?_|refine gO Zbu Za6 [] ?_ ?_|refine gC ?_ ?_<;>intro hb
    refine Zab rfl rfl (Zae rfl ?_ rfl)
    rw [hfin hb];rfl
   ·repeat' first|exact gE|refine gS Zbu Za6 [] ?_|refine gO Zbu Za6 [] ?_ ?_|refine gC ?_ ?_<;>intro hb
    refine back (i+1) [] ?_ ⟨by omega,hnew hb⟩ (by omega)
    first|exact leZ Za6|refine leA Za6 ?_|refine leB Za6 ?_ ?_
  ·rw [if_neg (by omega)] at hA
   rw [←hA]
   clear hb
   repeat' first|exact gE|refine gS Zbu Za6 [11,12] ?_|refine gO Zbu Za6 [11,12] ?_ ?_|refine gC ?_ ?_<;>intro hb
   ·repeat' first|exact gE|refine gS Zbu Za6 [] ?_|refine gO Zbu Za6 [] ?_ ?_|refine gC ?_ ?_<;>intro hb
    refine Zab rfl rfl (Zae rfl ?_ rfl)
    rw [hfin hb];rfl
   ·repeat' first|exact gE|refine gS Zbu Za6 [] ?_|refine gO Zbu Za6 [] ?_ ?_|refine gC ?_ ?_<;>intro hb
    refine back (i+1) [] ?_ ⟨by omega,hnew hb⟩ (by omega)
    first|exact leZ Za6|refine leA Za6 ?_|refine leB Za6 ?_ ?_
 have hie:i=L.length:=by omega
 subst hie
 repeat' first|exact gE|refine gS Zbu Za6 [] ?_|refine gO Zbu Za6 [] ?_ ?_|refine gC ?_ ?_<;>intro hb
 refine Zab rfl rfl (Zae rfl ?_ rfl)
 have hf:isP ⟨o,p,x⟩ s lp=true:=by
  rw [hP]
  exact decide_eq_true ⟨hlp,hk,hk2⟩
 rw [hf];rfl
section
open Pl
structure MQ (es:List (Int × Int × Nat)) (L:List (Nat × Nat)):Prop where
 has:∀ v:Nat,mhas v es=decide (v∈L.map Prod.fst)
 get:∀ v u:Nat,(v,u)∈L→mget v es=u
theorem MQ_nil : MQ [] []:=⟨fun v=>rfl,fun v u h=>by cases h⟩
theorem MQ_put {es:List (Int × Int × Nat)} {L:List (Nat × Nat)} {w u c:Nat} (h:MQ es L) (hw:w ∉ L.map Prod.fst):MQ (mput w u c es) (L++[(w,u)]):=by
 refine ⟨fun v=>?_,fun v z hv=>?_⟩
 ·rw [mhas_mput,h.has]
  by_cases e:v=w
  ·subst e;simp
  ·rw [if_neg (by omega)]
   simp [e]
 ·rw [mget_mput]
  rcases List.mem_append.1 hv with hv|hv
  ·have:v≠w:=fun e=>hw (e▸List.mem_map.2 ⟨_,hv,rfl⟩)
   rw [if_neg (by omega)]
   exact h.get v z hv
  ·rw [List.mem_singleton] at hv
   injection hv with h1 h2
   rw [if_pos (by omega),h2]
variable {nx:Nat→List Nat} {thr:Nat→Prop} {n fr:Nat} {L:List (Nat × Nat)} {i j v w u:Nat}
def qF (fr:Nat) (L:List (Nat × Nat)):List Nat:=fr :: L.map Prod.fst
structure RQ (nx:Nat→List Nat) (thr:Nat→Prop) (n fr:Nat) (L:List (Nat × Nat)) (i j:Nat):Prop where
 nd:(L.map Prod.fst).Nodup
 lt:∀ v,v∈qF fr L→v < n
 hi:i≤(qF fr L).length
 ed:∀ (k w u:Nat),L[k]? = some (w,u)→w∈nx u∧thr w∧u∈(qF fr L).take (k+1)
 cl:∀ u,u∈(qF fr L).take i→∀ w,w∈nx u→thr w→w∈L.map Prod.fst
 cj:∀ u,(qF fr L)[i]? = some u→∀ w,w∈(nx u).take j→thr w→w∈L.map Prod.fst
theorem RQ_first (hf:fr < n):RQ nx thr n fr [] 0 0 :=
 ⟨by simp,(fun v hv=>by rw [show qF fr []=[fr] from rfl,List.mem_singleton] at hv;omega),Nat.zero_le _,(fun k w u h=>by simp at h),(fun u h=>by simp at h),(fun u _ w h=>by rw [List.take_zero] at h;cases h)⟩
theorem Zoh (h:RQ nx thr n fr L i j):L.length≤n:=by
 have:=Zcq n _ h.nd fun x hx=>h.lt x (List.mem_cons_of_mem _ hx)
 rwa [List.length_map] at this
theorem Zf7 : (qF fr L).length=L.length+1:=by simp [qF]
theorem RQ_skip (h:RQ nx thr n fr L i j) (hu:(qF fr L)[i]? = some u) (hw:(nx u)[j]? = some w) (hs:w∈L.map Prod.fst∨¬ thr w):RQ nx thr n fr L i (j+1):=by
 refine ⟨h.nd,h.lt,h.hi,h.ed,h.cl,fun u' hu' w' hw' ht=>?_⟩
 obtain rfl:u=u':=by rw [hu] at hu';injection hu'
 rw [List.take_add_one,hw,List.mem_append] at hw'
 rcases hw' with hw'|hw'
 ·exact h.cj u hu w' hw' ht
 ·rw [Option.toList_some,List.mem_singleton] at hw'
  subst hw'
  rcases hs with hs|hs
  ·exact hs
  ·exact absurd ht hs
theorem Zd7 : qF fr (L++[(w,u)])=qF fr L++[w]:=by simp [qF]
theorem Zfv {l:List Nat} {a k:Nat} (h:k≤l.length):(l++[a]).take k=l.take k:=List.take_append_of_le_length h
theorem RQ_add (h:RQ nx thr n fr L i j) (hu:(qF fr L)[i]? = some u) (hw:(nx u)[j]? = some w) (hwn:w < n) (hnew:w ∉ L.map Prod.fst) (ht:thr w):RQ nx thr n fr (L++[(w,u)]) i (j+1):=by
 have hi:i < (qF fr L).length:=(List.getElem?_eq_some_iff.1 hu).1
 have hm:∀ {x},x∈L.map Prod.fst→x∈(L++[(w,u)]).map Prod.fst:=fun {x} hx=>by rw [List.map_append];exact List.mem_append_left _ hx
 refine ⟨?_,fun v hv=>?_,?_,fun k w' u' hk=>?_,fun u' hu' w' hw' ht'=>?_,fun u' hu' w' hw' ht'=>?_⟩
 ·rw [List.map_append,List.nodup_append]
  refine ⟨h.nd,by simp,fun a ha b hb=>?_⟩
  rw [List.map_cons,List.map_nil,List.mem_singleton] at hb
  intro e
  have hb:b=w:=hb
  exact hnew (by rw [←hb,←e];exact ha)
 ·rw [Zd7,List.mem_append,List.mem_singleton] at hv
  rcases hv with hv|rfl
  ·exact h.lt v hv
  ·exact hwn
 ·rw [Zd7,List.length_append];omega
 ·rw [Zd7]
  rcases Nat.lt_or_ge k L.length with hkl|hkl
  ·rw [List.getElem?_append_left hkl] at hk
   obtain ⟨e1,e2,e3⟩:=h.ed k w' u' hk
   rw [Zfv (by rw [Zf7];omega)]
   exact ⟨e1,e2,e3⟩
  ·rw [List.getElem?_append_right hkl] at hk
   have hk0:k - L.length=0:=by
    have:=(List.getElem?_eq_some_iff.1 hk).1
    simp at this;omega
   rw [hk0] at hk
   simp only [List.getElem?_cons_zero,Option.some.injEq,Prod.mk.injEq] at hk
   obtain ⟨rfl,rfl⟩:=hk
   refine ⟨List.mem_of_getElem? hw,ht,?_⟩
   have hkk:k=L.length:=by omega
   subst hkk
   rw [Zfv (by rw [Zf7];exact Nat.le_refl _),List.take_of_length_le (by rw [Zf7];exact Nat.le_refl _)]
   exact List.mem_of_getElem? hu
 ·rw [Zd7,Zfv (by omega)] at hu'
  exact hm (h.cl u' hu' w' hw' ht')
 ·rw [Zd7,List.getElem?_append_left hi,hu] at hu'
  obtain rfl:u=u':=by injection hu'
  rw [List.take_add_one,hw,List.mem_append] at hw'
  rcases hw' with hw'|hw'
  ·exact hm (h.cj u hu w' hw' ht')
  ·rw [Option.toList_some,List.mem_singleton] at hw'
   subst hw'
   rw [List.map_append]
   exact List.mem_append_right _ (by simp)
theorem RQ_next (h:RQ nx thr n fr L i j) (hu:(qF fr L)[i]? = some u) (hj:(nx u).length≤j):RQ nx thr n fr L (i+1) 0:=by
 have hi:i < (qF fr L).length:=(List.getElem?_eq_some_iff.1 hu).1
 refine ⟨h.nd,h.lt,hi,h.ed,fun u' hu' w' hw' ht'=>?_,fun u' _ w' hw'=>by rw [List.take_zero] at hw';cases hw'⟩
 rw [List.take_add_one,hu,List.mem_append] at hu'
 rcases hu' with hu'|hu'
 ·exact h.cl u' hu' w' hw' ht'
 ·rw [Option.toList_some,List.mem_singleton] at hu'
  subst hu'
  exact h.cj u' hu w' (by rw [List.take_of_length_le hj];exact hw') ht'
def RE (nx:Nat→List Nat) (thr:Nat→Prop) (n fr:Nat) (L:List (Nat × Nat)):Prop:=RQ nx thr n fr L (qF fr L).length 0
def SE (nx:Nat→List Nat) (thr:Nat→Prop) (a b:Nat):Prop:=b∈nx a∧thr b
theorem RE_iff (h:RE nx thr n fr L) (w:Nat):w∈L.map Prod.fst↔∃ t,SE nx thr fr t∧Rch (SE nx thr) t w:=by
 constructor
 ·intro hw
  -- by the place of w
  obtain ⟨k,hk,e⟩:=List.getElem_of_mem hw
  have hkl:k < L.length:=by simpa using hk
  induction k using Nat.strongRecOn generalizing w with
  |ind k ih =>
   have hLk:L[k]? = some (w,L[k].2):=by
    rw [List.getElem?_eq_getElem hkl]
    rw [List.getElem_map] at e
    rw [←e]
   obtain ⟨e1,e2,e3⟩:=h.ed k _ _ hLk
   rw [show qF fr L=fr :: L.map Prod.fst from rfl,List.take_succ_cons] at e3
   rcases List.mem_cons.1 e3 with e4|e4
   ·exact ⟨w,⟨e4▸e1,e2⟩,.refl _⟩
   ·obtain ⟨k2,hk2,e5⟩:=List.getElem_of_mem e4
    rw [List.length_take] at hk2
    rw [List.getElem_take] at e5
    obtain ⟨t,t1,t2⟩:=ih k2 (by omega) L[k].2 (by rw [←e5];exact List.getElem_mem _) (by omega) e5 (by simp at hk2;omega)
    exact ⟨t,t1,.step t2 ⟨e1,e2⟩⟩
 ·rintro ⟨t,t1,t2⟩
  have hcl:∀ u,u∈qF fr L→∀ w,w∈nx u→thr w→w∈L.map Prod.fst:=fun u hu=>h.cl u (by rw [List.take_length];exact hu)
  induction t2 with
  |refl=>exact hcl fr List.mem_cons_self t t1.1 t1.2
  |step _ e ih=>exact hcl _ (List.mem_cons_of_mem _ ih) _ e.1 e.2
def Za1 (l:List Nat):List Int:=l.map fun v:Nat=>(v:Int)
end
section
open Go Pl
def Chn (nx:Nat→List Nat):List Nat→Prop
 |[]=>True
 |[_]=>True
 |a :: b :: l=>b∈nx a∧Chn nx (b :: l)
variable {nx:Nat→List Nat}
theorem Zoj : ∀ {l:List Nat},Chn nx l→∀ (k a b:Nat),l[k]? = some a→l[k+1]? = some b→b∈nx a
 |[],_,k,a,b,h,_=>by simp at h
 |[c],_,k,a,b,_,h=>by simp at h
 |c :: d :: l,h,0,a,b,h1,h2=>by
  simp only [List.getElem?_cons_zero,Option.some.injEq,List.getElem?_cons_succ] at h1 h2
  subst h1;subst h2;exact h.1
 |c :: d :: l,h,k+1,a,b,h1,h2=>Zoj (l:=d :: l) h.2 k a b (by simpa using h1) (by simpa using h2)
variable {pr:Nat→Int} {pl:Int} {n:Nat}
end
section
open Go Pl
variable {g:Gm} {W C:List Int}
def nxV (g:Gm) (W C:List Int) (q:Int) (v:Nat):List Int:=if g.own.getD v 0=q∧W.getD v 0=q then [C.getD v 0] else g.nxt.getD v []
def nxVn (g:Gm) (W C:List Int) (q:Int) (v:Nat):List Nat:=(nxV g W C q v).map Int.toNat
theorem Zgx {l:List Nat} {i:Nat}:(Za1 l).getD i 0=((l.getD i 0:Nat):Int):=by
 unfold Za1
 simp only [List.getD_eq_getElem?_getD,List.getElem?_map]
 cases l[i]?<;>rfl
theorem cp_of (hv:Zau g=true) (hc:Zcy g W C=true) {q:Int} {S L:List Nat} (hne:L≠[]) (hlt:∀ z,z∈S++L→z < g.own.length) (hch:Chn (nxVn g W C q) (S++L++[L.headD 0])):isP g (Za1 S) (Za1 L)=true∧folP g W C (Za1 S) (Za1 L) q:=by
 have hG:=gok (validB_iff.1 hv)
 obtain ⟨_,_,hc⟩:=of_decide_eq_true hc
 have hal:Za1 S++Za1 L=Za1 (S++L):=(List.map_append ..).symm
 have hll:(Za1 (S++L)).length=(S++L).length:=List.length_map ..
 have hb:∀ i,i < (S++L).length→(S++L).getD i 0 < g.own.length:=fun i hi=>hlt _ (by
  rw [List.getD_eq_getElem?_getD,List.getElem?_eq_getElem hi];exact List.getElem_mem ..)
 have haf:∀ i:Nat,i < (S++L).length→∃ b:Nat,aftP (Za1 (S++L)) (Za1 L) i=b∧b∈nxVn g W C q ((S++L).getD i 0):=by
  intro i hi
  have e1:(S++L++[L.headD 0])[i]? = some ((S++L).getD i 0):=by
   rw [List.getElem?_append_left hi,List.getD_eq_getElem?_getD,List.getElem?_eq_getElem hi];rfl
  unfold aftP
  rw [hll]
  by_cases h1:i+1 < (S++L).length
  ·rw [if_pos (by omega),show ((i:Int)+1).toNat=i+1 by omega,Zgx]
   refine ⟨_,rfl,Zoj hch i _ _ e1 ?_⟩
   rw [List.getElem?_append_left h1,List.getD_eq_getElem?_getD,List.getElem?_eq_getElem h1];rfl
  ·rw [if_neg (by omega),Zgx]
   refine ⟨_,rfl,Zoj hch i _ _ e1 ?_⟩
   have e2:i+1=(S++L).length:=by omega
   rw [List.getElem?_append_right (by omega),e2,Nat.sub_self]
   cases L with
   |nil=>exact absurd rfl hne
   |cons a L=>rfl
 have hps:∀ i,psP (Za1 (S++L)) i=(S++L).getD i 0:=fun i=>by
  unfold psP
  rw [Zgx,Int.toNat_natCast]
 have hin:∀ v,v < g.own.length→∀ b:Nat,b∈nxVn g W C q v→(b:Int)∈g.nxt.getD v []∧(g.own.getD v 0=q∧W.getD v 0=q→(b:Int)=C.getD v 0):=fun v hvn b hb=>by
  obtain ⟨z,hz,rfl⟩:=List.mem_map.1 hb
  have hnn:∀ z,z∈g.nxt.getD v []→0≤z:=fun z hz=>by
   obtain ⟨k,hk,rfl⟩:=Zdv hz
   exact (hG.at' v hvn k hk).1
  unfold nxV at hz
  split at hz
  ·rename_i h
   have hm:C.getD v 0∈g.nxt.getD v []:=(hc v hvn).2.1 (h.1.trans h.2.symm)
   rw [List.mem_singleton.1 hz,Int.toNat_of_nonneg (hnn _ hm)]
   exact ⟨hm,fun _=>rfl⟩
  ·rename_i h
   rw [Int.toNat_of_nonneg (hnn z hz)]
   exact ⟨hz,fun h2=>absurd h2 h⟩
 refine ⟨isP_iff.2 ⟨fun e=>hne (List.map_eq_nil_iff.1 e),fun i hi=>?_,fun i hi=>?_⟩,fun i hi h=>?_⟩
 ·rw [hal] at hi ⊢
  rw [hll] at hi
  rw [Zgx]
  have:=hb i hi
  omega
 ·rw [hal] at hi ⊢
  rw [hll] at hi
  obtain ⟨b,e,hbn⟩:=haf i hi
  rw [e,hps]
  exact (hin _ (hb i hi) b hbn).1
 ·rw [hal] at hi h ⊢
  rw [hll] at hi
  obtain ⟨b,e,hbn⟩:=haf i hi
  rw [hps] at h ⊢
  rw [e]
  exact (hin _ (hb i hi) b hbn).2 h
structure CpOK (g:Gm) (W C s l:List Int):Prop where
 is:isP g s l=true
 ag:Zee g W C s l=true
 len:s.length+l.length≤2 * g.own.length
theorem chn_orb {nx:Nat→List Nat} {F:Nat→Nat} {u:Nat} (hF:∀ j,orb F u (j+1)∈nx (orb F u j)):∀ (m a:Nat),Chn nx ((List.range' a m).map (orb F u))
 |0,a=>trivial
 |1,a=>trivial
 |m+2,a=>⟨hF a,chn_orb hF (m+1) (a+1)⟩
theorem left_cp (hv:Zau g=true) (hc:Zcy g W C=true) {v u j k:Nat} {F:Nat→Nat} (hvn:v < g.own.length) (hu:u∈nxVn g W C (W.getD v 0) v) (hW:W.getD u 0≠W.getD v 0) (hun:∀ i,orb F u i < g.own.length) (hF:∀ i,orb F u (i+1)∈nxVn g W C (W.getD v 0) (orb F u i)) (hkj:k < j) (hj:j≤g.own.length) (he:orb F u j=orb F u k) :
  CpOK g W C ((v:Int) :: Za1 (((List.range j).map (orb F u)).take k)) (Za1 (((List.range j).map (orb F u)).drop k)):=by
 have e0:(v:Int) :: Za1 (((List.range j).map (orb F u)).take k)=Za1 (v :: ((List.range j).map (orb F u)).take k):=rfl
 rw [e0]
 have hlen:((List.range j).map (orb F u)).length=j:=by simp
 have hdne:((List.range j).map (orb F u)).drop k≠[]:=fun h=>by
  have:=congrArg List.length h
  rw [List.length_drop,hlen] at this
  simp at this
  omega
 have hall:(v :: ((List.range j).map (orb F u)).take k)++((List.range j).map (orb F u)).drop k=v :: (List.range j).map (orb F u):=by
  rw [List.cons_append,List.take_append_drop]
 have hhd:(((List.range j).map (orb F u)).drop k).headD 0=orb F u j:=by
  rw [he,List.headD_eq_head?_getD,List.head?_drop]
  simp [hkj]
 have hr:(List.range j).map (orb F u)++[orb F u j]=(List.range' 0 (j+1)).map (orb F u):=by
  rw [←List.range_eq_range',List.range_succ,List.map_append];rfl
 obtain ⟨h1,h2⟩:=cp_of hv hc (q:=W.getD v 0) (S:=v :: ((List.range j).map (orb F u)).take k) (L:=((List.range j).map (orb F u)).drop k) hdne (fun z hz=>by
  rw [hall] at hz
  rcases List.mem_cons.1 hz with rfl|hz
  ·exact hvn
  ·obtain ⟨i,_,rfl⟩:=List.mem_map.1 hz
   exact hun i) (by
  rw [hall,hhd,List.cons_append,hr]
  have h3:=chn_orb (nx:=nxVn g W C (W.getD v 0)) hF (j+1) 0
  have e:(List.range' 0 (j+1)).map (orb F u)=u :: (List.range' 1 j).map (orb F u):=by
   rw [List.range'_succ];rfl
  rw [e] at h3 ⊢
  exact ⟨hu,h3⟩)
 have hfirst:psP (Za1 (v :: ((List.range j).map (orb F u)).take k)++Za1 (((List.range j).map (orb F u)).drop k)) 0=v:=by
  show (((v:Nat):Int)).toNat=v
  exact Int.toNat_natCast _
 have hsec:Za1 (v :: ((List.range j).map (orb F u)).take k)++Za1 (((List.range j).map (orb F u)).drop k)=Za1 (v :: (List.range j).map (orb F u)):=by
  rw [←hall]
  exact (List.map_append ..).symm
 refine ⟨h1,against_iff.2 ⟨by rw [hfirst];exact h2,.inl ⟨1,?_,?_⟩⟩,?_⟩
 ·rw [hsec]
  show 1 < (List.map _ _).length
  rw [List.length_map,List.length_cons,hlen];omega
 ·rw [hfirst,hsec]
  unfold psP
  rw [Zgx,Int.toNat_natCast]
  have:(v :: (List.range j).map (orb F u)).getD 1 0=u:=by
   cases j with
   |zero=>omega
   |succ j=>simp [List.getD_eq_getElem?_getD,orb]
  rw [this]
  exact hW
 ·show (List.map _ _).length+(List.map _ _).length≤_
  rw [List.length_map,List.length_map,List.length_cons,List.length_take,List.length_drop,hlen]
  omega
theorem lost_cp (hv:Zau g=true) (hc:Zcy g W C=true) {v:Nat} {L:List Nat} (hvn:v < g.own.length) (hL:∃ r,L=v :: r) (hlt:∀ z,z∈L→z < g.own.length) (hnd:L.Nodup) (hch:Chn (nxVn g W C (W.getD v 0)) (L++[v])) (hle:∀ z,z∈L→g.pri.getD z 0≤g.pri.getD v 0) (hp:g.pri.getD v 0 % 2≠W.getD v 0):CpOK g W C [] (Za1 L):=by
 have hG:=gok (validB_iff.1 hv)
 obtain ⟨r,rfl⟩:=hL
 obtain ⟨h1,h2⟩:=cp_of hv hc (q:=W.getD v 0) (S:=[]) (L:=v :: r) (by simp) hlt hch
 have h1:isP g [] (Za1 (v :: r))=true:=h1
 have h2:folP g W C [] (Za1 (v :: r)) (W.getD v 0):=h2
 have hfirst:psP ([]++Za1 (v :: r)) 0=v:=by
  show (((v:Nat):Int)).toNat=v
  exact Int.toNat_natCast _
 refine ⟨h1,against_iff.2 ⟨by rw [hfirst];exact h2,.inr ?_⟩,?_⟩
 ·rw [hfirst]
  have e:(Za1 (v :: r)).foldl (fun a v=>max a (g.pri.getD v.toNat 0)) 0=g.pri.getD v 0:=by
   obtain ⟨m1,m2,m3⟩:=Zjw (f:=fun v=>g.pri.getD v.toNat 0) (l:=Za1 (v :: r)) (a:=0)
   have a1:g.pri.getD v 0≤(Za1 (v :: r)).foldl (fun a v=>max a (g.pri.getD v.toNat 0)) 0:=by
    have:=m1 (v:Int) List.mem_cons_self
    rw [Int.toNat_natCast] at this
    exact this
   refine Int.le_antisymm ?_ a1
   rcases m3 with m3|⟨z,hz,m3⟩
   ·rw [m3];exact (hG.pri v hvn).1
   ·rw [←m3]
    obtain ⟨y,hy,rfl⟩:=List.mem_map.1 hz
    rw [Int.toNat_natCast]
    exact hle y hy
  show (Za1 (v :: r)).foldl (fun a v=>max a (g.pri.getD v.toNat 0)) 0 % 2≠_
  rw [e];exact hp
 ·show 0+(List.map _ _).length≤_
  rw [List.length_map]
  have:=Zcq g.own.length _ hnd hlt
  omega
theorem right_sol (hv:Zau g=true) (hc:Zcy g W C=true) (h1:∀ v,v < g.own.length→∀ u,u∈nxVn g W C (W.getD v 0) v→W.getD u 0=W.getD v 0) (h2:∀ v,v < g.own.length→g.pri.getD v 0 % 2≠W.getD v 0→¬ Cyc (fun a b=>b∈nxVn g W C (W.getD v 0) a) (fun v=>g.pri.getD v 0) v):solB g W C=true:=by
 have hV:=validB_iff.1 hv
 have hG:=gok hV
 obtain ⟨_,_,hcl⟩:=of_decide_eq_true hc
 refine (Zhj hV).2 ⟨hc,fun q hq=>⟨fun v hvn hw ho=>?_,fun v hvn hw ho t ht htn=>?_,fun w hwn hw hp hcy=>?_⟩⟩
 ·have hm:C.getD v 0∈g.nxt.getD v []:=(hcl v hvn).2.1 (ho.trans hw.symm)
  have hmn:(C.getD v 0).toNat∈rws g.nxt v:=List.mem_map.2 ⟨_,hm,rfl⟩
  refine ⟨hmn,hG.row v hvn _ hmn,?_⟩
  have hw:W.getD v 0=q:=hw
  rw [←hw]
  refine h1 v hvn _ ?_
  unfold nxVn nxV
  rw [if_pos ⟨ho.trans hw.symm,rfl⟩]
  exact List.mem_singleton.2 rfl
 ·have hw:W.getD v 0=q:=hw
  show W.getD t 0=q
  rw [←hw]
  refine h1 v hvn t ?_
  unfold nxVn nxV
  rw [if_neg (fun h=>ho (h.1.trans hw))]
  exact ht
 ·have hw:W.getD w 0=q:=hw
  refine h2 w hwn (by rw [hw];exact hp) ?_
  obtain ⟨t,t1,t2⟩:=hcy
  refine Zex t1 t2 fun a b ha hb he=>?_
  show b∈nxVn g W C (W.getD w 0) a
  rw [hw]
  unfold nxVn nxV
  by_cases ho:g.own.getD a 0=q
  ·rw [if_pos ⟨ho,he.1.2⟩]
   exact List.mem_singleton.2 (he.2.2.1 ho)
  ·rw [if_neg (fun h=>ho h.1)]
   exact he.2.2.2 ho
end
open Go Pl
set_option maxRecDepth 4000 in
set_option maxHeartbeats 4000000 in
theorem vwon_ok : Zcn Tryz.prog 26 wonS:=by
 refine Zaw htb (fn:=Tryz.f26) (by kernel_rfl) (by kernel_rfl) rfl (fun args r hS=>?_) (fun args r hS hob hl=>?_)
 ·unfold wonS at hS;split at hS<;>first|(cases hS;done)|(cases hS;exact Nat.le_of_ble_eq_true rfl)
 unfold wonS at hS
 split at hS
 case h_2=>cases hS
 rename_i o p x s lp
 simp only [Option.some.injEq] at hS
 subst hS
 simp only [lenP,mkL,lim] at hl
 dsimp only at hob
 repeat' first|exact gE|refine gS noSp x0 [] ?_|refine gO noSp x0 [] ?_ ?_|refine gC ?_ ?_<;>intro hb
 have hf0:((lp.take 0).foldl (fun a v=>max a (p.getD v.toNat 0)) 0)=0:=rfl
 have hfn:=fun i (hi:i < lp.length)=>(show (lp.take (i+1)).foldl (fun a v=>max a (p.getD v.toNat 0)) 0=max ((lp.take i).foldl (fun a v=>max a (p.getD v.toNat 0)) 0) (p.getD (lp.getD i 0).toNat 0) by rw [Zff (d:=0) hi,List.foldl_append];rfl)
 have hfb:=foldl_max0 (f:=fun v=>p.getD v.toNat 0) (l:=lp) (Int.le_refl 0)
 refine Zag (τ:=Nat) (fun i=>i≤lp.length) (fun i=>⟨8,[(11,.int .i64 i),(10,.int .i64 lp.length),(9,.roI lp),(5,.int .i64 ((lp.take i).foldl (fun a v=>max a (p.getD v.toNat 0)) 0)),(3,.rop (.agg (.cons (.roI s) (.cons (.roI lp) .nil)))),(2,.rop (.agg (.cons (.roI o) (.cons (.roI p) (.cons (.roII x) .nil)))))],[],[]⟩) (fun i=>lp.length - i) 0 [] ?_ (Nat.zero_le _) ?_
 ·first|exact leZ x0|refine leA x0 ?_|refine leB x0 ?_ ?_
  rfl
 intro i hi
 have hob1:=hob i
 have hfn1:=hfn i
 repeat' first|exact gE|refine gS noSp x0 [4,7] ?_|refine gO noSp x0 [4,7] ?_ ?_|refine gC ?_ ?_<;>intro hb
 ·have hil:i < lp.length:=by omega
  have hob1:=hob1 hil
  have hfn1:=hfn1 hil
  repeat' first|exact gE|refine gS noSp x0 [] ?_|refine gO noSp x0 [] ?_ ?_|refine gC ?_ ?_<;>intro hb
  refine back (i+1) [] ?_ (by omega) (by omega)
  first|exact leZ x0|refine leA x0 ?_|refine leB x0 ?_ ?_
  exact hfn1
 have hie:i=lp.length:=by omega
 subst hie
 rw [List.take_length]
 repeat' first|exact gE|refine gS noSp x0 [] ?_|refine gO noSp x0 [] ?_ ?_|refine gC ?_ ?_<;>intro hb
 refine Zab rfl rfl (Zae rfl ?_ rfl)
 rfl
def lvB (W L:List Int) (q:Int) (i:Nat):Bool:=(List.range i).any fun j => !decide (W.getD (psP L j) 0=q)
theorem lvB_s {W L:List Int} {q:Int} {i:Nat}:lvB W L q (i+1)=(lvB W L q i || !decide (W.getD (psP L i) 0=q)):=by
 unfold lvB
 rw [List.range_succ,List.any_append]
 simp
theorem lvB_iff {W L:List Int} {q:Int} {i:Nat}:lvB W L q i=true↔∃ j,j < i∧W.getD (psP L j) 0≠q:=by
 unfold lvB
 simp only [List.any_eq_true,List.mem_range,Bool.not_eq_true',decide_eq_false_iff_not]
theorem agn_b {g:Gm} {W C s l:List Int}:Zee g W C s l=true↔(∀ i:Nat,i < (s++l).length→g.own.getD (psP (s++l) i) 0=W.getD (psP (s++l) 0) 0∧W.getD (psP (s++l) i) 0=W.getD (psP (s++l) 0) 0→aftP (s++l) l i=C.getD (psP (s++l) i) 0)∧(lvB W (s++l) (W.getD (psP (s++l) 0) 0) (s++l).length=true∨wonP g l≠W.getD (psP (s++l) 0) 0):=by
 rw [lvB_iff]
 exact against_iff
open Go Pl
def rvI (l:List Int) (i:Nat):List Int:=(List.range l.length).map fun k=>if k < i∨l.length - 1 - k < i then l.getD (l.length - 1 - k) 0 else l.getD k 0
theorem Zfh {l:List Int} {i:Nat}:(rvI l i).length=l.length:=by simp [rvI]
theorem Zif {l:List Int} {i k:Nat} (h:k < l.length):(rvI l i).getD k 0=if k < i∨l.length - 1 - k < i then l.getD (l.length - 1 - k) 0 else l.getD k 0:=by
 simp [rvI,List.getD_eq_getElem?_getD,h]
theorem rvI_zero {l:List Int}:rvI l 0=l:=by
 refine ext0 Zfh fun j hj=>?_
 rw [Zfh] at hj
 rw [Zif hj,if_neg (by omega)]
theorem rvI_next {l:List Int} {i:Nat} (h:i < l.length - 1 - i):((rvI l i).set i ((rvI l i).getD (l.length - 1 - i) 0)).set (l.length - 1 - i) ((rvI l i).getD i 0)=rvI l (i+1):=by
 refine ext0 (by rw [List.length_set,List.length_set,Zfh,Zfh]) fun j hj=>?_
 rw [List.length_set,List.length_set,Zfh] at hj
 rw [Zif (i:=i+1) hj,Zif (i:=i) (k:=i) (by omega),Zif (i:=i) (k:=l.length - 1 - i) (by omega),if_neg (by omega),if_neg (by omega)]
 have hs:∀ {m:List Int} {a:Nat} {y:Int},a < m.length→(m.set a y).getD j 0=if j=a then y else m.getD j 0:=fun {m a y} ha=>by
  simp only [List.getD_eq_getElem?_getD,List.getElem?_set]
  by_cases e:a=j
  ·subst e;simp [ha]
  ·rw [if_neg e,if_neg (fun h=>e h.symm)]
 rw [hs (by rw [List.length_set,Zfh];omega),hs (by rw [Zfh];omega),Zif hj]
 by_cases e1:j=l.length - 1 - i
 ·subst e1
  rw [if_pos rfl,if_pos (by omega),show l.length - 1 - (l.length - 1 - i)=i by omega]
 ·rw [if_neg e1]
  by_cases e2:j=i
  ·subst e2
   rw [if_pos rfl,if_pos (by omega)]
  ·rw [if_neg e2]
   by_cases e3:j < i∨l.length - 1 - j < i
   ·rw [if_pos e3,if_pos (by omega)]
   ·rw [if_neg e3,if_neg (by omega)]
theorem rvI_end {l:List Int} {i:Nat} (h:l.length - 1 - i≤i):rvI l i=l.reverse:=by
 refine ext0 (by rw [Zfh,List.length_reverse]) fun j hj=>?_
 rw [Zfh] at hj
 rw [Zif hj]
 have e:l.reverse.getD j 0=l.getD (l.length - 1 - j) 0:=by
  rw [List.getD_eq_getElem?_getD,List.getD_eq_getElem?_getD,List.getElem?_reverse hj]
 rw [e]
 split
 ·rfl
 ·have:j=l.length - 1 - j:=by omega
  rw [←this]
set_option maxRecDepth 4000 in
set_option maxHeartbeats 4000000 in
theorem reverse_fg {l:List Int} (hl9:l.length≤1000000000):FG Tryz.prog 84 [.own 0] [(0,some (.ints l))] 1 fun g=>g=⟨1,resV [],[(0,some (.ints l.reverse))]⟩:=by
 refine Zc5 htb (fn:=Tryz.f84) (by kernel_rfl) (by kernel_rfl) rfl (Nat.le_of_ble_eq_true rfl) fun hl=>?_
 simp only [lenP,mkL,lim] at hl
 repeat' first|exact gE|refine gS noSp x0 [] ?_|refine gO noSp x0 [] ?_ ?_|refine gC ?_ ?_<;>intro hb
 refine Zag (τ:=Nat) (fun i=>i≤l.length) (fun i=>⟨6,[(3,.int .i64 ((l.length:Int) - 1 - i)),(2,.int .i64 i),(0,.own 0)],[(0,some (.ints (rvI l i)))],[]⟩) (fun i=>l.length - i) 0 [] ?_ (Nat.zero_le _) ?_
 ·first|exact leZ x0|refine leA x0 ?_|refine leB x0 ?_ ?_
  ·omega
  ·exact rvI_zero.symm
 intro i hi
 have hrl:=Zfh (l:=l) (i:=i)
 have hnx:=@rvI_next l i
 have hen:=@rvI_end l i
 repeat' first|exact gE|refine gS noSp x0 [3,4] ?_|refine gO noSp x0 [3,4] ?_ ?_|refine gC ?_ ?_<;>intro hb
 ·have h2:i < l.length - 1 - i:=by omega
  have hnx:=hnx h2
  have ej:(l.length:Int) - 1 - i=((l.length - 1 - i:Nat):Int):=by omega
  rw [ej]
  clear hen
  repeat' first|exact gE|refine gS noSp x0 [] ?_|refine gO noSp x0 [] ?_ ?_|refine gC ?_ ?_<;>intro hb
  refine back (i+1) [] ?_ (by omega) (by omega)
  first|exact leZ x0|refine leA x0 ?_|refine leB x0 ?_ ?_
  ·omega
  ·exact hnx
 ·rw [hen (by omega)]
  refine Zc0 rfl rfl (Zbe (⟨1,resV [],[(0,some (.ints l.reverse))]⟩) ([]) rfl rfl (Zal rfl) ?_)
  simp only [grR,zE,evp,evx,ev1,evLoad,evStore,evBin,evIf,Zac,forall_const,z38,tb,reduceAdd,reduceSub,reduceMul,reduceEqDiff,reduceLeDiff,reduceLT,Nat.reduceBEq,Nat.reduceBNe,↓reduceIte,reduceIte]
section
open Go Pl
variable {nx:Nat→List Nat} {thr:Nat→Prop} {n fr:Nat} {L:List (Nat × Nat)} {S:List Nat} {ex:List Nat} {u w j:Nat}
structure SQ (nx:Nat→List Nat) (thr:Nat→Prop) (n fr:Nat) (L:List (Nat × Nat)) (S ex:List Nat) (d:Nat):Prop where
 nd:(L.map Prod.fst).Nodup
 lt:∀ v,v∈qF fr L→v < n
 fv:fr ∉ L.map Prod.fst
 ed:∀ (k w u:Nat),L[k]? = some (w,u)→w∈nx u∧thr w∧u∈(qF fr L).take (k+1)
 ss:∀ u,u∈S→u∈qF fr L
 cl:∀ u,u∈qF fr L→u ∉ S→u ∉ ex→∀ w,w∈nx u→thr w→w∈L.map Prod.fst
 ls:S.length+d≤L.length+1
structure SF (nx:Nat→List Nat) (thr:Nat→Prop) (n fr:Nat) (L:List (Nat × Nat)):Prop where
 nd:(L.map Prod.fst).Nodup
 lt:∀ v,v∈qF fr L→v < n
 ed:∀ (k w u:Nat),L[k]? = some (w,u)→w∈nx u∧thr w∧u∈(qF fr L).take (k+1)
 fv:fr∈L.map Prod.fst
theorem Zof {d:Nat} (h:SQ nx thr n fr L S ex d):L.length≤n:=by
 have:=Zcq n _ h.nd fun x hx=>h.lt x (List.mem_cons_of_mem _ hx)
 rwa [List.length_map] at this
theorem SQ_first (hf:fr < n):SQ nx thr n fr [] [fr] [] 0 :=
 ⟨by simp,(fun v hv=>by rw [show qF fr []=[fr] from rfl,List.mem_singleton] at hv;omega),by simp,(fun k w u h=>by simp at h),(fun u h=>h),(fun u h h2=>absurd h h2),Nat.le_refl _⟩
theorem SQ_pop (h:SQ nx thr n fr L (S++[u]) [] 0):SQ nx thr n fr L S [u] 1 :=
 ⟨h.nd,h.lt,h.fv,h.ed,fun v hv=>h.ss v (List.mem_append_left _ hv),fun v hv hs he=>h.cl v hv (fun hm=>by
  rcases List.mem_append.1 hm with hm|hm
  ·exact hs hm
  ·exact he hm) (by simp),by have:=h.ls;simp only [List.length_append,List.length_singleton] at this;omega⟩
theorem SQ_add (h:SQ nx thr n fr L S [u] 1) (hu:u∈qF fr L) (hw:w∈nx u) (hwn:w < n) (hnew:w ∉ L.map Prod.fst) (ht:thr w) (hne:w≠fr):SQ nx thr n fr (L++[(w,u)]) (S++[w]) [u] 1:=by
 have hm:∀ {x},x∈L.map Prod.fst→x∈(L++[(w,u)]).map Prod.fst:=fun {x} hx=>by rw [List.map_append];exact List.mem_append_left _ hx
 refine ⟨?_,fun v hv=>?_,fun hv=>?_,fun k w' u' hk=>?_,fun v hv=>?_,fun u' hu' hs he w' hw' ht'=>?_,?_⟩
 ·rw [List.map_append,List.nodup_append]
  refine ⟨h.nd,by simp,fun a ha b hb=>?_⟩
  rw [List.map_cons,List.map_nil,List.mem_singleton] at hb
  intro e
  have hb:b=w:=hb
  exact hnew (by rw [←hb,←e];exact ha)
 ·rw [Zd7,List.mem_append,List.mem_singleton] at hv
  rcases hv with hv|rfl
  ·exact h.lt v hv
  ·exact hwn
 ·rw [List.map_append,List.mem_append] at hv
  rcases hv with hv|hv
  ·exact h.fv hv
  ·exact hne (List.mem_singleton.1 hv).symm
 ·rw [Zd7]
  rcases Nat.lt_or_ge k L.length with hkl|hkl
  ·rw [List.getElem?_append_left hkl] at hk
   obtain ⟨e1,e2,e3⟩:=h.ed k w' u' hk
   rw [Zfv (by rw [Zf7];omega)]
   exact ⟨e1,e2,e3⟩
  ·rw [List.getElem?_append_right hkl] at hk
   have hk0:k - L.length=0:=by
    have:=(List.getElem?_eq_some_iff.1 hk).1
    simp at this;omega
   rw [hk0] at hk
   simp only [List.getElem?_cons_zero,Option.some.injEq,Prod.mk.injEq] at hk
   obtain ⟨rfl,rfl⟩:=hk
   refine ⟨hw,ht,?_⟩
   have hkk:k=L.length:=by omega
   subst hkk
   rw [Zfv (by rw [Zf7];exact Nat.le_refl _),List.take_of_length_le (by rw [Zf7];exact Nat.le_refl _)]
   exact hu
 ·rw [Zd7]
  rcases List.mem_append.1 hv with hv|hv
  ·exact List.mem_append_left _ (h.ss v hv)
  ·exact List.mem_append_right _ hv
 ·rw [Zd7,List.mem_append] at hu'
  rcases hu' with hu'|hu'
  ·exact hm (h.cl u' hu' (fun h2=>hs (List.mem_append_left _ h2)) he w' hw' ht')
  ·exact absurd (List.mem_append_right _ hu') hs
 ·have:=h.ls
  simp only [List.length_append,List.length_singleton]
  omega
theorem SQ_hit (h:SQ nx thr n fr L S [u] 1) (hu:u∈qF fr L) (hw:fr∈nx u) (hwn:fr < n) (ht:thr fr):SF nx thr n fr (L++[(fr,u)]):=by
 refine ⟨?_,fun v hv=>?_,fun k w' u' hk=>?_,?_⟩
 ·rw [List.map_append,List.nodup_append]
  refine ⟨h.nd,by simp,fun a ha b hb=>?_⟩
  rw [List.map_cons,List.map_nil,List.mem_singleton] at hb
  intro e
  have hb:b=fr:=hb
  exact h.fv (by rw [←hb,←e];exact ha)
 ·rw [Zd7,List.mem_append,List.mem_singleton] at hv
  rcases hv with hv|rfl
  ·exact h.lt v hv
  ·exact hwn
 ·rw [Zd7]
  rcases Nat.lt_or_ge k L.length with hkl|hkl
  ·rw [List.getElem?_append_left hkl] at hk
   obtain ⟨e1,e2,e3⟩:=h.ed k w' u' hk
   rw [Zfv (by rw [Zf7];omega)]
   exact ⟨e1,e2,e3⟩
  ·rw [List.getElem?_append_right hkl] at hk
   have hk0:k - L.length=0:=by
    have:=(List.getElem?_eq_some_iff.1 hk).1
    simp at this;omega
   rw [hk0] at hk
   simp only [List.getElem?_cons_zero,Option.some.injEq,Prod.mk.injEq] at hk
   obtain ⟨rfl,rfl⟩:=hk
   refine ⟨hw,ht,?_⟩
   have hkk:k=L.length:=by omega
   subst hkk
   rw [Zfv (by rw [Zf7];exact Nat.le_refl _),List.take_of_length_le (by rw [Zf7];exact Nat.le_refl _)]
   exact hu
 ·rw [List.map_append];simp
theorem SQ_done (h:SQ nx thr n fr L S [u] 1) (hc:∀ w,w∈nx u→thr w→w∈L.map Prod.fst):SQ nx thr n fr L S [] 0 :=
 ⟨h.nd,h.lt,h.fv,h.ed,h.ss,fun v hv hs _=>by
  by_cases e:v=u
  ·subst e;exact hc
  ·exact h.cl v hv hs (by simpa using e),by have:=h.ls;omega⟩
theorem SQ_no {pri:Nat→Int} (h:SQ nx (fun z=>pri z≤pri fr) n fr L [] [] 0):¬ Cyc (fun a b=>b∈nx a) pri fr:=by
 rintro ⟨t,t1,t2⟩
 have hcl:∀ u,u∈qF fr L→∀ w,w∈nx u→pri w≤pri fr→w∈L.map Prod.fst:=fun u hu=>h.cl u hu (by simp) (by simp)
 have:fr∈L.map Prod.fst:=by
  have key:∀ z,Rch (Low (fun a b=>b∈nx a) pri fr) t z→z∈L.map Prod.fst:=by
   intro z hz
   induction hz with
   |refl=>exact hcl fr List.mem_cons_self t t1.1 t1.2
   |step _ e ih=>exact hcl _ (List.mem_cons_of_mem _ ih) _ e.1 e.2
  exact key fr t2
 exact h.fv this
structure SB (nx:Nat→List Nat) (fr:Nat) (L:List (Nat × Nat)) (u k:Nat) (t:List Nat):Prop where
 kl:k≤L.length
 um:u∈(qF fr L).take (k+1)
 ch:Chn nx (u :: (t.reverse++[fr]))
 nd:t.Nodup
 nt:∀ z,z∈t→z∈L.map Prod.fst∧z≠fr∧z ∉ (L.take k).map Prod.fst
theorem take_qF {k:Nat}:(qF fr L).take (k+1)=fr :: (L.take k).map Prod.fst:=by
 show (fr :: L.map Prod.fst).take (k+1)=_
 rw [List.take_succ_cons,List.map_take]
theorem SB_at (h:SF nx thr n fr L) {w:Nat} (hw:w∈L.map Prod.fst):∃ k u:Nat,L[k]? = some (w,u)∧(w,u)∈L:=by
 obtain ⟨⟨a,u⟩,hm,rfl⟩:=List.mem_map.1 hw
 obtain ⟨k,hk⟩:=List.mem_iff_getElem?.1 hm
 exact ⟨k,u,hk,hm⟩
theorem SB_first (h:SF nx thr n fr L):∃ k u,(fr,u)∈L∧SB nx fr L u k []:=by
 obtain ⟨k,u,hk,hm⟩:=SB_at h h.fv
 have hkl:=(List.getElem?_eq_some_iff.1 hk).1
 obtain ⟨e1,e2,e3⟩:=h.ed k fr u hk
 exact ⟨k,u,hm,by omega,e3,⟨e1,trivial⟩,List.nodup_nil,fun z hz=>by cases hz⟩
theorem SB_next (h:SF nx thr n fr L) {k:Nat} {t:List Nat} (hb:SB nx fr L u k t) (hu:u≠fr):∃ k' u',k' < k∧(u,u')∈L∧SB nx fr L u' k' (t++[u]):=by
 have hum:=hb.um
 rw [take_qF] at hum
 have hum:u∈(L.take k).map Prod.fst:=(List.mem_cons.1 hum).resolve_left hu
 obtain ⟨⟨a,u'⟩,hm,rfl⟩:=List.mem_map.1 hum
 obtain ⟨k',hk⟩:=List.mem_iff_getElem?.1 hm
 have hkl:=(List.getElem?_eq_some_iff.1 hk).1
 rw [List.length_take] at hkl
 rw [List.getElem?_take,if_pos (by omega)] at hk
 obtain ⟨e1,e2,e3⟩:=h.ed k' a u' hk
 refine ⟨k',u',by omega,List.mem_of_getElem? hk,by omega,e3,?_,?_,fun z hz=>?_⟩
 ·rw [List.reverse_append]
  exact ⟨e1,hb.ch⟩
 ·rw [List.nodup_append]
  refine ⟨hb.nd,by simp,fun x hx y hy=>?_⟩
  rw [List.mem_singleton] at hy
  subst hy
  intro e
  subst e
  exact (hb.nt x hx).2.2 hum
 ·rcases List.mem_append.1 hz with hz|hz
  ·obtain ⟨n1,n2,n3⟩:=hb.nt z hz
   refine ⟨n1,n2,fun h2=>n3 ?_⟩
   have:(L.take k').map Prod.fst=((L.take k).map Prod.fst).take k':=by
    rw [←List.map_take,List.take_take,Nat.min_eq_left (by omega)]
   rw [this] at h2
   exact List.mem_of_mem_take h2
  ·rw [List.mem_singleton] at hz
   subst hz
   refine ⟨List.mem_map.2 ⟨_,List.mem_of_getElem? hk,rfl⟩,hu,fun h2=>?_⟩
   obtain ⟨i,hi,e⟩:=List.getElem_of_mem h2
   have hi2:i < k':=by simpa using Nat.lt_of_lt_of_le hi (by simp;omega)
   have hnd:=h.nd
   have hL1:(L.map Prod.fst)[i]? = some z:=by
    rw [List.getElem?_map]
    rw [List.getElem_map,List.getElem_take] at e
    rw [List.getElem?_eq_getElem (by omega)]
    exact congrArg some e
   have hL2:(L.map Prod.fst)[k']? = some z:=by rw [List.getElem?_map,hk];rfl
   have h1:=List.getElem?_eq_some_iff.1 hL1
   have h2:=List.getElem?_eq_some_iff.1 hL2
   obtain ⟨h11,h12⟩:=h1
   obtain ⟨h21,h22⟩:=h2
   rw [List.nodup_iff_pairwise_ne,List.pairwise_iff_getElem] at hnd
   exact hnd i k' h11 h21 hi2 (h12.trans h22.symm)
theorem SB_end (h:SF nx thr n fr L) {k:Nat} {t:List Nat} (hb:SB nx fr L fr k t) (hfr:fr < n):(fr :: t.reverse).Nodup∧Chn nx (fr :: t.reverse++[fr])∧(∀ z,z∈fr :: t.reverse→z < n∧thr z):=by
 refine ⟨?_,hb.ch,fun z hz=>?_⟩
 ·rw [List.nodup_cons]
  refine ⟨fun hm=>?_,List.nodup_iff_pairwise_ne.2 (List.pairwise_reverse.2 ((List.nodup_iff_pairwise_ne.1 hb.nd).imp fun h e=>h e.symm))⟩
  exact (hb.nt fr (List.mem_reverse.1 hm)).2.1 rfl
 ·have hin:z∈L.map Prod.fst:=by
   rcases List.mem_cons.1 hz with rfl|hz
   ·exact h.fv
   ·exact (hb.nt z (List.mem_reverse.1 hz)).1
  obtain ⟨k,u,hk,_⟩:=SB_at h hin
  exact ⟨h.lt z (List.mem_cons_of_mem _ hin),(h.ed k z u hk).2.1⟩
end
open Go Pl
structure LpS where
 L:List (Nat × Nat)
 S:List Nat
 es:List (Int × Int × Nat)
 clk:Nat
structure LbS where
 u:Nat
 k:Nat
 t:List Nat
structure LqS where
 L:List (Nat × Nat)
 S:List Nat
 j:Nat
 es:List (Int × Int × Nat)
 clk:Nat
noncomputable def spLp : Nat→Option Spec
 |28=>some nvS
 |_=>none
theorem Zax : SpOK Tryz.prog spLp:=by
 intro f S h
 unfold spLp at h
 split at h
 ·cases h;exact Zon
 ·cases h
def LpOK (g:Gm) (W C:List Int) (v:Nat) (l:List Nat):Prop:=(∃ r,l=v :: r)∧(∀ z,z∈l→z < g.own.length)∧l.Nodup∧Chn (nxVn g W C (W.getD v 0)) (l++[v])∧∀ z,z∈l→g.pri.getD z 0≤g.pri.getD v 0
def Zak := Hd.mk (And.intro @spLp.eq_1<|@nvS.eq_1)
set_option maxRecDepth 4000 in
set_option maxHeartbeats 4000000 in
theorem loop_fg {o p w c:List Int} {x:List (List Int)} {v:Nat} (hn:o.length≤20000) (hpl:p.length=o.length) (hxl:x.length=o.length) (hwl:w.length=o.length) (hcl:c.length=o.length) (hv:v < o.length)
  (hrow:∀ u,u < o.length→(nvF o w c x (w.getD v 0) u).length≤64∧∀ j,j < (nvF o w c x (w.getD v 0) u).length→0≤(nvF o w c x (w.getD v 0) u).getD j 0∧(nvF o w c x (w.getD v 0) u).getD j 0 < (o.length:Int)) :
  FG Tryz.prog 71 [.agg (.cons (.roI o) (.cons (.roI p) (.cons (.roII x) (.cons (.roI w) (.cons (.roI c) .nil))))),.int .i64 v] [] 0 fun g=>(¬ Cyc (fun a b=>b∈nxVn ⟨o,p,x⟩ w c (w.getD v 0) a) (fun v=>p.getD v 0) v∧g=⟨0,.cst (.slice none 0 0),[]⟩)∨∃ l,LpOK ⟨o,p,x⟩ w c v l∧g=⟨0,.roI (Za1 l),[]⟩:=by
 refine Zc5 htb (fn:=Tryz.f71) (by kernel_rfl) (by kernel_rfl) rfl (Nat.le_of_ble_eq_true rfl) fun hl=>?_
 simp only [lenP,mkL,lim] at hl
 repeat' first|exact gE|refine gS Zax Zak [1] ?_|refine gO Zax Zak [1] ?_ ?_|refine gC ?_ ?_<;>intro hb
 refine gRa Zax Zak (fun _=>false) ?_ ?_
 repeat' first|exact gE|refine gS Zax Zak [3] ?_|refine gO Zax Zak [3] ?_ ?_|refine gC ?_ ?_<;>intro hb
 refine gRa Zax Zak (fun i=>Nat.beq i 1) ?_ ?_
 ·first|exact oA|skip
 refine Zaf ?_
 have hF:∀ u,nxVn ⟨o,p,x⟩ w c (w.getD v 0) u=(nvF o w c x (w.getD v 0) u).map Int.toNat:=fun u=>rfl
 obtain ⟨q,hq⟩:∃ q,w.getD v 0=q:=⟨_,rfl⟩
 obtain ⟨b,hb0⟩:∃ b,p.getD v 0=b:=⟨_,rfl⟩
 rw [hq] at hrow hF
 rw [hq,hb0]
 repeat' first|exact gE|refine gS Zax Zak [4] ?_|refine gO Zax Zak [4] ?_ ?_|refine gC ?_ ?_<;>intro hb
 refine Zag (τ:=LpS) (fun s=>SQ (nxVn ⟨o,p,x⟩ w c q) (fun z=>p.getD z 0≤b) o.length v s.L s.S [] 0∧MQ s.es s.L) (fun s=>⟨21,[(8,.own 19),(7,.own 16),(6,.int .i64 b),(5,.int .i64 q),(4,.cst (.slice none 0 0)),(2,.rop (.agg (.cons (.roI o) (.cons (.roI p) (.cons (.roII x) (.cons (.roI w) (.cons (.roI c) .nil))))))),(1,.int .i64 v)],[(19,some (.ints (Za1 s.S))),(16,some (.mp s.es s.clk))],[]⟩) (fun s=>2 * (o.length - s.L.length)+s.S.length) ⟨[],[v],[],0⟩ [] ?_ ⟨SQ_first hv,MQ_nil⟩ ?_
 ·first|exact leZ Zak|refine leA Zak ?_|refine leB Zak ?_ ?_
  all_goals rfl
 rintro ⟨L,S,es,clk⟩ ⟨hS,hM⟩
 dsimp only at hS hM ⊢
 have hLn:=Zof hS
 have hSl:=hS.ls
 have hcs:(Za1 S).length=S.length:=List.length_map ..
 repeat' first|exact gE|refine gS Zax Zak [5,16] ?_|refine gO Zax Zak [5,16] ?_ ?_|refine gC ?_ ?_<;>intro hb
 ·have hS0:0 < S.length:=by omega
  obtain ⟨S',u,rfl⟩:∃ S' u,S=S'++[u]:=⟨S.dropLast,S.getLast (by intro h;subst h;simp at hS0),(List.dropLast_concat_getLast _).symm⟩
  have hu:=hS.ss u (by simp)
  have hun:=hS.lt u hu
  have hP:=SQ_pop hS
  rw [List.length_append,List.length_singleton] at hSl hcs
  have hg:(Za1 (S'++[u])).getD S'.length 0=(u:Int):=by
   rw [Zgx]
   simp [List.getD_eq_getElem?_getD]
  have htk:(Za1 (S'++[u])).take S'.length=Za1 S':=by
   unfold Za1
   rw [List.map_append,List.take_append_of_le_length (by simp),List.take_of_length_le (by simp)]
  have hci:(((Za1 (S'++[u])).length:Int) - 1).toNat=S'.length:=by omega
  have hrw:=hrow u hun
  repeat' first|exact gE|refine gS Zax Zak [6] ?_|refine gO Zax Zak [6] ?_ ?_|refine gC ?_ ?_<;>intro hb
  rw [hci,hg]
  repeat' first|exact gE|refine gS Zax Zak [7] ?_|refine gO Zax Zak [7] ?_ ?_|refine gC ?_ ?_<;>intro hb
  rw [hci,htk]
  have hat:∀ j,j < (nvF o w c x q u).length→(nxVn ⟨o,p,x⟩ w c q u)[j]? = some ((nvF o w c x q u).getD j 0).toNat:=fun j hj=>by
   rw [hF,List.getElem?_map,List.getD_eq_getElem?_getD,List.getElem?_eq_getElem hj];rfl
  have hxl2:(nxVn ⟨o,p,x⟩ w c q u).length=(nvF o w c x q u).length:=by rw [hF,List.length_map]
  repeat' first|exact gE|refine gS Zax Zak [8] ?_|refine gO Zax Zak [8] ?_ ?_|refine gC ?_ ?_<;>intro hb
  obtain ⟨hr64,hrb⟩:=hrw
  generalize nvF o w c x q u=rw at *
  refine Zag (τ:=LqS) (fun s=>SQ (nxVn ⟨o,p,x⟩ w c q) (fun z=>p.getD z 0≤b) o.length v s.L s.S [u] 1∧MQ s.es s.L∧u∈qF v s.L∧s.j≤rw.length∧(∀ z,z∈(nxVn ⟨o,p,x⟩ w c q u).take s.j→p.getD z 0≤b→z∈s.L.map Prod.fst)∧2 * (o.length - s.L.length)+s.S.length≤2 * (o.length - L.length)+S'.length) (fun s=>⟨43,[(52,.int .i64 s.j),(51,.int .i64 rw.length),(50,.roI rw),(9,.int .i64 u),(8,.own 35),(7,.own 16),(6,.int .i64 b),(5,.int .i64 q),(4,.cst (.slice none 0 0)),(2,.rop (.agg (.cons (.roI o) (.cons (.roI p) (.cons (.roII x) (.cons (.roI w) (.cons (.roI c) .nil))))))),(1,.int .i64 v)],[(35,some (.ints (Za1 s.S))),(16,some (.mp s.es s.clk))],[]⟩) (fun s=>rw.length - s.j) ⟨L,S',0,es,clk⟩ [] ?_ ⟨hP,hM,hu,Nat.zero_le _,(fun z hz=>by rw [List.take_zero] at hz;cases hz),Nat.le_refl _⟩ ?_
  ·first|exact leZ Zak|refine leA Zak ?_|refine leB Zak ?_ ?_
  rintro ⟨L2,S2,j,es2,clk2⟩ ⟨hS2,hM2,hu2,hj,hcj,hmu⟩
  dsimp only at hS2 hM2 hu2 hj hcj hmu ⊢
  have hLn2:=Zof hS2
  have hSl2:=hS2.ls
  have hcs2:(Za1 S2).length=S2.length:=List.length_map ..
  repeat' first|exact gE|refine gS Zax Zak [9,16] ?_|refine gO Zax Zak [9,16] ?_ ?_|refine gC ?_ ?_<;>intro hb
  ·have hjl:j < rw.length:=by omega
   obtain ⟨b1,b2⟩:=hrb j hjl
   obtain ⟨z,hz⟩:=Int.eq_ofNat_of_zero_le b1
   have hjz:=hat j hjl
   rw [hz] at hjz b2
   rw [Int.toNat_natCast] at hjz
   have hzn:z < o.length:=by omega
   have hhas:=hM2.has z
   have hzm:z∈nxVn ⟨o,p,x⟩ w c q u:=List.mem_of_getElem? hjz
   have htj:(nxVn ⟨o,p,x⟩ w c q u).take (j+1)=(nxVn ⟨o,p,x⟩ w c q u).take j++[z]:=by rw [List.take_add_one,hjz];rfl
   repeat' first|exact gE|refine gS Zax Zak [10] ?_|refine gO Zax Zak [10] ?_ ?_|refine gC ?_ ?_<;>intro hb
   rw [hz]
   repeat' first|exact gE|refine gS Zax Zak [12,15] ?_|refine gO Zax Zak [12,15] ?_ ?_|refine gC ?_ ?_<;>intro hb
   ·have hskip:p.getD z 0≤b→z∈L2.map Prod.fst:=fun hle=>by
     rcases hb with hb|hb
     ·rw [hhas] at hb;exact of_decide_eq_true hb
     ·omega
    repeat' first|exact gE|refine gS Zax Zak [] ?_|refine gO Zax Zak [] ?_ ?_|refine gC ?_ ?_<;>intro hb
    refine back ⟨L2,S2,j+1,es2,clk2⟩ [] ?_ ⟨hS2,hM2,hu2,by dsimp only;omega,fun z' hz' hle=>?_,hmu⟩ (by dsimp only;omega)
    ·first|exact leZ Zak|refine leA Zak ?_|refine leB Zak ?_ ?_
    ·rw [show (LqS.mk L2 S2 (j+1) es2 clk2).j=j+1 from rfl,htj] at hz'
     rcases List.mem_append.1 hz' with h|h
     ·exact hcj z' h hle
     ·obtain rfl:=List.mem_singleton.1 h
      exact hskip hle
   ·have hnew:z ∉ L2.map Prod.fst:=fun hm=>by
     rw [hhas,decide_eq_true hm] at hb
     exact absurd hb.1 (by decide)
    have hb1:=hb
    have hM3:=MQ_put (u:=u) (c:=clk2) hM2 hnew
    repeat' first|exact gE|refine gS Zax Zak [14,16] ?_|refine gO Zax Zak [14,16] ?_ ?_|refine gC ?_ ?_<;>intro hb
    ·obtain rfl:z=v:=by omega
     have hSF:=SQ_hit hS2 hu2 hzm hv (by rw [hb0];exact Int.le_refl _)
     generalize mput (z:Int) u clk2 es2=es3 at *
     generalize mclk (z:Int) clk2 es2=clk3 at *
     generalize L2++[(z,u)]=L3 at *
     have hhz:mhas (z:Int) es3=true:=by rw [hM3.has];exact decide_eq_true hSF.fv
     obtain ⟨k0,u0,hm0,hB0⟩:=SB_first hSF
     have hg0:mget (z:Int) es3=u0:=hM3.get z u0 hm0
     repeat' first|exact gE|refine gS Zax Zak [19] ?_|refine gO Zax Zak [19] ?_ ?_|refine gC ?_ ?_<;>intro hb
     ·rw [hhz] at hb;cases hb
     refine gRa Zax Zak (fun i=>Nat.beq i 1) ?_ ?_
     ·first|exact oA|skip
     refine Zaf ?_
     repeat' first|exact gE|refine gS Zax Zak [21] ?_|refine gO Zax Zak [21] ?_ ?_|refine gC ?_ ?_<;>intro hb
     rw [hg0]
     refine Zag (τ:=LbS) (fun s=>SB (nxVn ⟨o,p,x⟩ w c q) z L3 s.u s.k s.t) (fun s=>⟨85,[(17,.int .i64 s.u),(16,.own 84),(7,.own 16),(4,.cst (.slice none 0 0)),(1,.int .i64 z)],[(84,some (.ints (Za1 (z :: s.t)))),(16,some (.mp es3 clk3))],[]⟩) (fun s=>s.k) ⟨u0,k0,[]⟩ [] ?_ hB0 ?_
     ·first|exact leZ Zak|refine leA Zak ?_|refine leB Zak ?_ ?_
      rfl
     rintro ⟨y,k,t⟩ hB
     dsimp only at hB ⊢
     have hct:(Za1 (z :: t)).length=t.length+1:=List.length_map ..
     have htn:t.length≤o.length:=Zcq _ _ hB.nd fun z' hz'=>hSF.lt z' (List.mem_cons_of_mem _ (hB.nt z' hz').1)
     repeat' first|exact gE|refine gS Zax Zak [23,24] ?_|refine gO Zax Zak [23,24] ?_ ?_|refine gC ?_ ?_<;>intro hb
     ·obtain ⟨k',y',hk',hm',hB'⟩:=SB_next hSF hB (by omega)
      have hg':mget (y:Int) es3=y':=hM3.get y y' hm'
      have hca:Za1 (z :: t)++[(y:Int)]=Za1 (z :: (t++[y])):=by unfold Za1;rw [←List.cons_append,List.map_append];rfl
      repeat' first|exact gE|refine gS Zax Zak [] ?_|refine gO Zax Zak [] ?_ ?_|refine gC ?_ ?_<;>intro hb
      refine back ⟨y',k',t++[y]⟩ [(84,91)] ?_ hB' hk'
      first|exact leZ Zak|refine leA Zak ?_|refine leB Zak ?_ ?_
      ·exact hg'.symm
      ·exact hca
     ·obtain rfl:y=z:=by omega
      have hE:=SB_end hSF hB hv
      refine Za2 ([_]) ([]) rfl rfl ?_
      refine gTn Zax Zak ?_ ?_
      ·first|exact oA|skip
      refine gCl ([84]) (reverse_fg (l:=Za1 (y :: t)) (by omega)) Zak ?_
      refine Zcl ?_
      refine Zaf ?_
      have hrv:(Za1 (y :: t)).reverse=Za1 t.reverse++[(y:Int)]:=by unfold Za1;rw [←List.map_reverse,List.reverse_cons,List.map_append];rfl
      rw [hrv]
      have hrl:(Za1 t.reverse++[(y:Int)]).length=t.length+1:=by simp [Za1]
      have hrt:(Za1 t.reverse++[(y:Int)]).take t.length=Za1 t.reverse:=by
       rw [List.take_append_of_le_length (by simp [Za1]),List.take_of_length_le (by simp [Za1])]
      have hrt2:(Za1 t.reverse).length=t.length:=by simp [Za1]
      repeat' first|exact gE|refine gS Zax Zak [25] ?_|refine gO Zax Zak [25] ?_ ?_|refine gC ?_ ?_<;>intro hb
      have hrn:(((Za1 t.reverse++[(y:Int)]).length:Int) - 1).toNat=t.length:=by omega
      refine gRa Zax Zak (fun i=>Nat.beq i 1) ?_ ?_
      ·refine Ob.mk ?_
       rw [hrn,hrt,hrl]
       omega
      refine Zaf ?_
      have hrc:(y:Int) :: Za1 t.reverse=Za1 (y :: t.reverse):=rfl
      rw [hrn,hrt,hrc]
      refine Zbb 96 (.roI (Za1 (y :: t.reverse))) ?_
      repeat' first|exact gE|refine gS Zax Zak [] ?_|refine gO Zax Zak [] ?_ ?_|refine gC ?_ ?_<;>intro hb
      refine Zab rfl rfl (Zbe ⟨0,.roI (Za1 (y :: t.reverse)),[]⟩ [] (.inr ⟨y :: t.reverse,⟨⟨_,rfl⟩,fun z' hz'=>(hE.2.2 z' hz').1,hE.1,?_,fun z' hz'=>?_⟩,rfl⟩) rfl (Zal rfl) trivial)
      ·rw [hq]
       exact hE.2.1
      ·show p.getD z' 0≤p.getD y 0
       rw [hb0]
       exact (hE.2.2 z' hz').2
    ·have hne:z≠v:=by omega
     have hS3:=SQ_add hS2 hu2 hzm hzn hnew hb1.2 hne
     have hL3:=Zof hS3
     have hcs3:Za1 S2++[(z:Int)]=Za1 (S2++[z]):=by unfold Za1;rw [List.map_append];rfl
     repeat' first|exact gE|refine gS Zax Zak [] ?_|refine gO Zax Zak [] ?_ ?_|refine gC ?_ ?_<;>intro hb
     refine back ⟨L2++[(z,u)],S2++[z],j+1,mput z u clk2 es2,mclk z clk2 es2⟩ [(35,76)] ?_ ⟨hS3,hM3,(by rw [Zd7];exact List.mem_append_left _ hu2),by dsimp only;omega,fun z' hz' hle=>?_,?_⟩ (by dsimp only;omega)
     ·first|exact leZ Zak|refine leA Zak ?_|refine leB Zak ?_ ?_
      exact hcs3
     ·rw [show (LqS.mk (L2++[(z,u)]) (S2++[z]) (j+1) (mput z u clk2 es2) (mclk z clk2 es2)).j=j+1 from rfl,htj] at hz'
      show z'∈(L2++[(z,u)]).map Prod.fst
      rw [List.map_append]
      rcases List.mem_append.1 hz' with h|h
      ·exact List.mem_append_left _ (hcj z' h hle)
      ·obtain rfl:=List.mem_singleton.1 h
       exact List.mem_append_right _ (by simp)
     ·dsimp only
      rw [List.length_append,List.length_singleton] at hL3
      simp only [List.length_append,List.length_singleton]
      omega
  have hje:j=rw.length:=by omega
  subst hje
  have hS4:=SQ_done hS2 (fun z hz hle=>hcj z (by rw [List.take_of_length_le (by rw [hxl2];exact Nat.le_refl _)];exact hz) hle)
  refine back ⟨L2,S2,es2,clk2⟩ [(19,35)] ?_ ⟨hS4,hM2⟩ (by dsimp only;rw [List.length_append,List.length_singleton];omega)
  first|exact leZ Zak|refine leA Zak ?_|refine leB Zak ?_ ?_
 have hS0:S=[]:=List.eq_nil_of_length_eq_zero (by omega)
 subst hS0
 have hhv:mhas (v:Int) es=false:=by rw [hM.has];exact decide_eq_false hS.fv
 repeat' first|exact gE|refine gS Zax Zak [18] ?_|refine gO Zax Zak [18] ?_ ?_|refine gC ?_ ?_<;>intro hb
 ·subst hb0
  repeat' first|exact gE|refine gS Zax Zak [] ?_|refine gO Zax Zak [] ?_ ?_|refine gC ?_ ?_<;>intro hb
  refine Zab rfl rfl (Zbe ⟨0,.cst (.slice none 0 0),[]⟩ [] (.inl ⟨?_,rfl⟩) rfl (Zal rfl) trivial)
  exact SQ_no (pri:=fun z=>p.getD z 0) hS
 ·rw [hhv] at hb
  cases hb
open Go
section
variable {P:Program} {N κ:Nat}
theorem Zc7 {o:Oper} {t:List Oper} {m:Nat} {env:List (Nat × AV)} {l:List (Nat × Option Blk)} {ms:List Nat} {val:AV} {rd:List (Nat × Blk)} {wr:List (Nat × Option Blk)} {kn:Option Nat} {Q:Exit→St→Prop}
  (hop:OpSem P o (opv (lke env)) val rd wr kn) (hd:Zdq N [o]=true) (hgd:o.guard=none) (hnd:∀ c,o.op≠.defer c) (hrd:RdIn l rd) (hkn:kn=none∨kn=some m) (hκ:Nat.ble κ m=true)
  (h:awpL P none N κ t (CS.st ⟨m+1,putE o.dst val env,setW wr l,ms⟩) Q):awpL P none N κ (o :: t) (CS.st ⟨m,env,l,ms⟩) Q:=by
 intro n K Z ν w a hg
 have hw:Region.wanted o (yielded #[] a.tmps)=true:=Za8 (by rw [hgd];rfl) _
 simp only [wpListIn,hw,if_true]
 refine ⟨fun f hf=>trivial,?_⟩
 have hf:Fits N ⟨o.dst,[],val,rd,wr,kn⟩ (CS.st ⟨m,env,l,ms⟩):=by
  refine ⟨fun p hp=>(by cases hp),fun p hp=>hrd p hp,fun k hk=>?_,fun d hd2=>?_⟩
  ·have hk:kn=some k:=hk
   rcases hkn with h1|h1
   ·rw [h1] at hk;cases hk
   ·rw [h1] at hk;cases hk
    show Nat.blt m m=false
    cases hb:Nat.blt m m with
    |false=>rfl
    |true=>rw [Nat.blt_eq] at hb;omega
  ·have hd2:o.dst=some d:=hd2
   simp [Zdq,hd2] at hd;exact hd
 refine (Zdd (ro:=none) hnd hop) n K Z ν w a (ltK m) (lkr l) hg.one hg.rs hg.zk hg.kl (fun x _=>⟨Zih hg x,Zhb hg x⟩) hf.rd hf.kn _ _ ?_
 intro y Z' ν' w' hst hν h1 hrs hr hm hz
 have hg2:=hg.next hf hst hν h1 hrs hr hm hz
 have e:(Item.app ⟨o.dst,[],val,rd,wr,kn⟩ (CS.st ⟨m,env,l,ms⟩))=⟨addK (ltK m) kn,lke (putE o.dst val env),lkr (setW wr l),ms⟩:=by
  show St.mk _ _ _ _=St.mk _ _ _ _
  rw [Zho,Zhw];rfl
 rw [e] at hg2
 have hg3:=hg2.widen (μ':=ltK (m+1)) (fun k hk=>by
  rcases hkn with h1|h1
  ·rw [h1] at hk
   have hk:Nat.blt k m=true:=hk
   show Nat.blt k (m+1)=true
   rw [Nat.blt_eq] at hk ⊢;omega
  ·rw [h1] at hk
   have hk:(Nat.blt k m || Nat.beq k m)=true:=hk
   show Nat.blt k (m+1)=true
   rw [Nat.blt_eq]
   rcases Bool.or_eq_true_iff.1 hk with h2|h2
   ·rw [Nat.blt_eq] at h2;omega
   ·have:=Nat.eq_of_beq_eq_true h2;omega)
 have hh:=h n (un K Z') Z' ν' w' _ hg3
 refine Zcc (fun e a2 w2 hp=>?_) hh
 refine hp.trans hst (fun k hk=>hν k ?_)
 have:=Nat.le_of_ble_eq_true hκ
 show Nat.blt k m=true
 rw [Nat.blt_eq];omega
theorem Zhr {o:Oper} {get:Operand→AV} {rd:List (Nat × Blk)} {kn:Nat} {ks:List Nat} {A:List Value→(Nat→Prop)→World→(Nat→Prop)→Prop}
  (h:∀ (K Z:Nat→Prop) (ν:Nat→Value) (w:World) (ev:Operand→Value) (μ:Nat→Bool) (rs:Rs),(∀ k,(ν k).oneCell'=true)→GoodRs K Z w ν μ rs→(∀ x,x∈o.op.operands→R Z w (get x) ν true [ev x]∧men μ (get x)=true)→(∀ p,p∈rd→rs p.1=some p.2) →
   ∃ y,(execOp ev o).run P w=.ok (.value y) w∧y.oneCell'=true∧(∀ k,k∈ks→μ k=true)∧∀ (Z':Nat→Prop) (w':World),(∀ b,Z b→Z' b)→(∀ b,Z b→w'.heap[b]? = w.heap[b]?)→A (y :: ks.map ν) Z' w' (fun _=>False)) :
  OpSem P o get (.own kn) rd [(kn,some (.sem (kn :: ks) A))] (some kn) :=
 ⟨fun K Z ν w ev μ rs h1 hg hzk hkl hx hrd hkn=>by
  have hk2:=hkn kn rfl
  obtain ⟨y,hrun,hy,hks,hA⟩:=h K Z ν w ev μ rs h1 hg hx hrd
  refine ⟨_,w,upN ν kn y,Z,.inl hrun,Step.refl K Z w,Zcd hk2,Zdm h1 hy,?_,?_,Zbz,fun b hb=>hkl b (hzk b hb)⟩
  ·rw [Zbt hzk]
   refine Zew (F:=fun _=>False) hg hzk hkl hk2 (Nat.le_refl _) (fun _ _=>rfl) ?_ (fun k hk=>?_) (fun y hy=>hy.elim)
   ·intro Z' w' hZ hw
    have e:(kn :: ks).map (upN ν kn y)=y :: ks.map ν:=by
     rw [List.map_cons,upN_same]
     exact congrArg _ (List.map_congr_left fun k hk=>Zcd hk2 k (hks k hk))
    rw [e]
    exact hA Z' w' hZ (fun b hb=>hw b (.inl hb))
   ·rcases List.mem_cons.1 hk with rfl|hk
    ·exact Zbz
    ·exact Zci k (hks k hk)
  ·show [_]=[_];rw [upN_same]⟩
theorem opsem_neqnil {o:Oper} {t e yt:Nat} {x:Operand} {get:Operand→AV} {l:List Int} (ho:o.op=.binOp .neq t x (.const (.slice none 0 0)) yt) (ht:P.underlying t=some (.slice e)) (hx:get x=.roI l) (hl:0 < l.length) (hc:get (.const (.slice none 0 0))=.cst (.slice none 0 0)):OpSem P o get (.bool true) [] [] none :=
 Zdb fun K Z ν w ev μ rs hone hg hv hrd=>by
  obtain ⟨rx,_⟩:=hv x (by rw [ho];simp [Op.operands])
  obtain ⟨ry,_⟩:=hv (.const (.slice none 0 0)) (by rw [ho];simp [Op.operands])
  rw [hx] at rx
  rw [hc] at ry
  have hy:=one1 ry
  obtain ⟨A,cap,hcs,_,_,hA⟩:=rx
  injection hcs with hcs _
  obtain ⟨b,f,hA,_⟩:=hA hl
  subst hA
  refine ⟨.bool true,?_,rfl,rfl⟩
  have hq:=run_neq_slice_nil_any (P:=P) w t e (some ⟨b,f,none⟩) l.length cap 0 0 ht
  simp only [execOp,ho,hcs,hy]
  simp [eqGuard,hq,Sem.run_bind,Result.andThen,Sem.run]
theorem opsem_neqnil0 {o:Oper} {t e yt:Nat} {x:Operand} {get:Operand→AV} (ho:o.op=.binOp .neq t x (.const (.slice none 0 0)) yt) (ht:P.underlying t=some (.slice e)) (hx:get x=.cst (.slice none 0 0)) (hc:get (.const (.slice none 0 0))=.cst (.slice none 0 0)):OpSem P o get (.bool false) [] [] none :=
 Zdb fun K Z ν w ev μ rs hone hg hv hrd=>by
  obtain ⟨rx,_⟩:=hv x (by rw [ho];simp [Op.operands])
  obtain ⟨ry,_⟩:=hv (.const (.slice none 0 0)) (by rw [ho];simp [Op.operands])
  rw [hx] at rx
  rw [hc] at ry
  have hx:=one1 rx
  have hy:=one1 ry
  refine ⟨.bool false,?_,rfl,rfl⟩
  have hq:=run_neq_slice_nil_any (P:=P) w t e none 0 0 0 0 ht
  simp only [execOp,ho,hx,hy]
  simp [eqGuard,hq,Sem.run_bind,Result.andThen,Sem.run]
theorem opsem_neqif {o:Oper} {t yt t2 k:Nat} {x:Operand} {get:Operand→AV} {u:AV} (ho:o.op=.binOp .neq t x (.const .nilIface) yt) (ht:P.underlying t=some (.interface (P.methodsAt t))) (hx:get x=.own k) (hc:get (.const .nilIface)=.cst .nilIface):OpSem P o get (.bool true) [(k,.sem [k] (ifA t2 u))] [] none :=
 Zdb fun K Z ν w ev μ rs hone hg hv hrd=>by
  obtain ⟨rx,_⟩:=hv x (by rw [ho];simp [Op.operands])
  obtain ⟨ry,_⟩:=hv (.const .nilIface) (by rw [ho];simp [Op.operands])
  rw [hx] at rx
  rw [hc] at ry
  have hx:=one1 rx
  have hy:=one1 ry
  obtain ⟨Ft,hF⟩:=hg
  obtain ⟨_,_,hs,_⟩:=hF k _ (hrd (k,.sem [k] (ifA t2 u)) (by simp))
  obtain ⟨_,v,hv2,_⟩:=hs Z w (fun _ h=>h) (fun _ _=>rfl)
  have hk:ν k=.iface t2 v:=by simpa using hv2
  refine ⟨.bool true,?_,rfl,rfl⟩
  have hq:=run_neq_held_nil (P:=P) w t t2 v ht
  simp only [execOp,ho,hx,hk,hy]
  simp [eqGuard,hq,Sem.run_bind,Result.andThen,Sem.run]
theorem opsem_neqif0 {o:Oper} {t yt:Nat} {x:Operand} {get:Operand→AV} (ho:o.op=.binOp .neq t x (.const .nilIface) yt) (ht:P.underlying t=some (.interface (P.methodsAt t))) (hx:get x=.cst .nilIface) (hc:get (.const .nilIface)=.cst .nilIface):OpSem P o get (.bool false) [] [] none :=
 Zdb fun K Z ν w ev μ rs hone hg hv hrd=>by
  obtain ⟨rx,_⟩:=hv x (by rw [ho];simp [Op.operands])
  obtain ⟨ry,_⟩:=hv (.const .nilIface) (by rw [ho];simp [Op.operands])
  rw [hx] at rx
  rw [hc] at ry
  have hx:=one1 rx
  have hy:=one1 ry
  refine ⟨.bool false,?_,rfl,rfl⟩
  have hq:=run_neq_nil_nil (P:=P) w t ht
  simp only [execOp,ho,hx,hy]
  simp [eqGuard,hq,Sem.run_bind,Result.andThen,Sem.run]
end
open Go Pl
theorem Zi2 {o p w c:List Int} {x:List (List Int)} (hv:Zau ⟨o,p,x⟩=true) (hc:Zcy ⟨o,p,x⟩ w c=true) (q:Int):∀ u,u < o.length→(nvF o w c x q u).length≤64∧0 < (nvF o w c x q u).length∧∀ j,j < (nvF o w c x q u).length→0≤(nvF o w c x q u).getD j 0∧(nvF o w c x q u).getD j 0 < (o.length:Int):=by
 have hG:=gok (validB_iff.1 hv)
 obtain ⟨hwl,hcl,hcc⟩:=of_decide_eq_true hc
 intro u hu
 have h1:1≤(x.getD u []).length∧(x.getD u []).length≤64:=hG.len u hu
 have hat:∀ k,k < (x.getD u []).length→0≤(x.getD u []).getD k 0∧(x.getD u []).getD k 0 < (o.length:Int):=hG.at' u hu
 unfold nvF
 split
 ·rename_i h
  have hm:c.getD u 0∈x.getD u []:=(hcc u hu).2.1 (h.1.trans h.2.symm)
  obtain ⟨k,hk,e⟩:=Zdv hm
  refine ⟨by simp,by simp,fun j hj=>?_⟩
  have hj0:j=0:=by simpa using hj
  subst hj0
  show 0≤c.getD u 0∧c.getD u 0 < _
  rw [←e]
  exact hat k hk
 ·exact ⟨h1.2,h1.1,hat⟩
def errA (s l:List Int):Blk:=.sem [0] (ifA 59 (.agg (.cons (.roI s) (.cons (.roI l) .nil))))
theorem onN_step {o p w c:List Int} {x:List (List Int)} {q:Int} (hnv:∀ u,u < o.length→(nvF o w c x q u).length≤64∧0 < (nvF o w c x q u).length∧∀ j,j < (nvF o w c x q u).length→0≤(nvF o w c x q u).getD j 0∧(nvF o w c x q u).getD j 0 < (o.length:Int)) {u:Nat} (hu:u < o.length) :
  (∀ i,orb (onN o w c x q) u i < o.length)∧∀ i,orb (onN o w c x q) u (i+1)∈nxVn ⟨o,p,x⟩ w c q (orb (onN o w c x q) u i):=by
 have h1:∀ i,orb (onN o w c x q) u i < o.length:=fun i=>by
  induction i with
  |zero=>exact hu
  |succ i ih =>
   have:=(hnv _ ih).2.2 0 (hnv _ ih).2.1
   show ((nvF o w c x q (orb (onN o w c x q) u i)).getD 0 0).toNat < _
   omega
 refine ⟨h1,fun i=>?_⟩
 have h2:=(hnv _ (h1 i)).2.1
 show ((nvF o w c x q (orb (onN o w c x q) u i)).getD 0 0).toNat∈(nvF o w c x q (orb (onN o w c x q) u i)).map Int.toNat
 refine List.mem_map.2 ⟨_,?_,rfl⟩
 rw [List.getD_eq_getElem?_getD,List.getElem?_eq_getElem h2]
 exact List.getElem_mem _
theorem on_cp {o p w c:List Int} {x:List (List Int)} (hv:Zau ⟨o,p,x⟩=true) (hc:Zcy ⟨o,p,x⟩ w c=true) {v u:Nat} (hvn:v < o.length) (hu:u∈nxVn ⟨o,p,x⟩ w c (w.getD v 0) v) (hun:u < o.length) (hW:w.getD u 0≠w.getD v 0) :
  CpOK ⟨o,p,x⟩ w c ((v:Int) :: onS1 (onN o w c x (w.getD v 0)) u) (onL1 (onN o w c x (w.getD v 0)) u):=by
 obtain ⟨h1,h2⟩:=onN_step (p:=p) (Zi2 hv hc (w.getD v 0)) hun
 obtain ⟨j,k,ha,hj⟩:=again_ex h1
 have:=left_cp hv hc hvn hu hW h1 h2 ha.2.1 hj ha.2.2
 unfold onS1 onL1
 rw [agA_eq ha]
 have e:Za1 ((List.range j).map (orb (onN o w c x (w.getD v 0)) u))=orL (onN o w c x (w.getD v 0)) u j:=by unfold Za1 orL;rw [List.map_map];rfl
 unfold Za1 at this e
 rw [List.map_take,List.map_drop,e] at this
 exact this
noncomputable def spLe : Nat→Option Spec
 |28=>some nvS
 |25=>some joiS
 |70=>some onS
 |_=>none
theorem Zcs : SpOK Tryz.prog spLe:=by
 intro f S h
 unfold spLe at h
 split at h
 ·cases h;exact Zon
 ·cases h;exact Zhx
 ·cases h;exact on_ok
 ·cases h
def Zbj := Hd.mk (And.intro @spLe.eq_1<|And.intro @spLe.eq_2<|And.intro @spLe.eq_3<|And.intro @nvS.eq_1<|And.intro @joiS.eq_1<|@onS.eq_1)
set_option maxRecDepth 4000 in
set_option maxHeartbeats 4000000 in
theorem left_fg {o p w c:List Int} {x:List (List Int)} (hv:Zau ⟨o,p,x⟩=true) (hc:Zcy ⟨o,p,x⟩ w c=true) :
  FG Tryz.prog 44 [.agg (.cons (.roI o) (.cons (.roI p) (.cons (.roII x) (.cons (.roI w) (.cons (.roI c) .nil)))))] [] 0 fun g=>((∀ v,v < o.length→∀ u,u∈nxVn ⟨o,p,x⟩ w c (w.getD v 0) v→w.getD u 0=w.getD v 0)∧g=⟨0,.cst .nilIface,[]⟩)∨∃ s l,CpOK ⟨o,p,x⟩ w c s l∧g=⟨1,.own 0,[(0,some (errA s l))]⟩:=by
 refine Zc5 htb (fn:=Tryz.f44) (by kernel_rfl) (by kernel_rfl) rfl (Nat.le_of_ble_eq_true rfl) fun hl=>?_
 simp only [lenP,mkL,lim] at hl
 have hG:=gok (validB_iff.1 hv)
 obtain ⟨hwl,hcl,hcc⟩:=of_decide_eq_true hc
 have hxl:x.length=o.length:=hG.xl
 have hn:o.length≤20000:=hG.n
 have hwl:w.length=o.length:=hwl
 have hcl:c.length=o.length:=hcl
 clear hcc
 have hnvq:=fun q=>Zi2 hv hc q
 repeat' first|exact gE|refine gS Zcs Zbj [] ?_|refine gO Zcs Zbj [] ?_ ?_|refine gC ?_ ?_<;>intro hb
 refine Zag (τ:=Nat) (fun i=>i≤o.length∧∀ v,v < i→∀ u,u∈nxVn ⟨o,p,x⟩ w c (w.getD v 0) v→w.getD u 0=w.getD v 0) (fun i=>⟨7,[(12,.int .i64 i),(11,.int .i64 w.length),(10,.roI w),(2,.cst .nilIface),(1,.rop (.agg (.cons (.roI o) (.cons (.roI p) (.cons (.roII x) (.cons (.roI w) (.cons (.roI c) .nil)))))))],[],[]⟩) (fun i=>o.length - i) 0 [] ?_ ⟨Nat.zero_le _,fun v h=>absurd h (Nat.not_lt_zero v)⟩ ?_
 ·first|exact leZ Zbj|refine leA Zbj ?_|refine leB Zbj ?_ ?_
 rintro i ⟨hi,hI⟩
 repeat' first|exact gE|refine gS Zcs Zbj [5,12] ?_|refine gO Zcs Zbj [5,12] ?_ ?_|refine gC ?_ ?_<;>intro hb
 ·have hil:i < o.length:=by omega
  obtain ⟨q,hq⟩:∃ q,w.getD i 0=q:=⟨_,rfl⟩
  rw [hq]
  have hrw:=hnvq q i hil
  have hmem:∀ u:Nat,u∈nxVn ⟨o,p,x⟩ w c q i↔∃ j,j < (nvF o w c x q i).length∧((nvF o w c x q i).getD j 0).toNat=u:=fun u=>by
   constructor
   ·intro h
    obtain ⟨z,hz,rfl⟩:=List.mem_map.1 h
    have hz:z∈nvF o w c x q i:=hz
    obtain ⟨j,hj,e⟩:=Zdv hz
    exact ⟨j,hj,by rw [e]⟩
   ·rintro ⟨j,hj,rfl⟩
    refine List.mem_map.2 ⟨_,?_,rfl⟩
    rw [List.getD_eq_getElem?_getD,List.getElem?_eq_getElem hj]
    exact List.getElem_mem _
  generalize nvF o w c x q i=rw at *
  refine Zag (τ:=Nat) (fun j=>j≤rw.length∧∀ j',j' < j→w.getD (rw.getD j' 0).toNat 0=q) (fun j=>⟨19,[(22,.int .i64 j),(21,.int .i64 rw.length),(20,.roI rw),(4,.int .i64 q),(3,.int .i64 i),(12,.int .i64 i),(11,.int .i64 w.length),(10,.roI w),(2,.cst .nilIface),(1,.rop (.agg (.cons (.roI o) (.cons (.roI p) (.cons (.roII x) (.cons (.roI w) (.cons (.roI c) .nil)))))))],[],[]⟩) (fun j=>rw.length - j) 0 [] ?_ ⟨Nat.zero_le _,fun j' h=>absurd h (Nat.not_lt_zero j')⟩ ?_
  ·first|exact leZ Zbj|refine leA Zbj ?_|refine leB Zbj ?_ ?_
  rintro j ⟨hj,hJ⟩
  repeat' first|exact gE|refine gS Zcs Zbj [6,12] ?_|refine gO Zcs Zbj [6,12] ?_ ?_|refine gC ?_ ?_<;>intro hb
  ·have hjl:j < rw.length:=by omega
   obtain ⟨b1,b2⟩:=hrw.2.2 j hjl
   obtain ⟨u,hu⟩:=Int.eq_ofNat_of_zero_le b1
   have hun:u < o.length:=by omega
   have hum:u∈nxVn ⟨o,p,x⟩ w c q i:=(hmem u).2 ⟨j,hjl,by rw [hu];rfl⟩
   repeat' first|exact gE|refine gS Zcs Zbj [7] ?_|refine gO Zcs Zbj [7] ?_ ?_|refine gC ?_ ?_<;>intro hb
   rw [hu]
   repeat' first|exact gE|refine gS Zcs Zbj [8,10] ?_|refine gO Zcs Zbj [8,10] ?_ ?_|refine gC ?_ ?_<;>intro hb
   ·have hcp:=on_cp hv hc hil (by rw [hq];exact hum) hun (by rw [hq];omega)
    rw [hq] at hcp
    repeat' first|exact gE|refine gS Zcs Zbj [9] ?_|refine gO Zcs Zbj [9] ?_ ?_|refine gC ?_ ?_<;>intro hb
    ·refine Ob.mk ?_
     exact ⟨⟨by omega,by omega⟩,hxl,hwl,hcl,hn,fun z hz=>⟨(hnvq q z hz).2.1,(hnvq q z hz).2.2 0 (hnvq q z hz).2.1⟩⟩
    have hcl2:[[(i:Int)],onS1 (onN o w c x q) u].flatten.length≤100000:=by
     have:=hcp.len
     simp only [List.length_cons] at this
     simp only [List.flatten_cons,List.flatten_nil,List.append_nil,List.length_append,List.length_cons,List.length_nil]
     have hn2:(Gm.mk o p x).own.length=o.length:=rfl
     omega
    refine gRa Zcs Zbj (fun _=>false) ?_ ?_
    ·exact Ob.mk hcl2
    refine Zaf ?_
    have hfl:[[(i:Int)],onS1 (onN o w c x q) u].flatten=(i:Int) :: onS1 (onN o w c x q) u:=by simp
    rw [hfl]
    repeat' first|exact gE|refine gS Zcs Zbj [] ?_|refine gO Zcs Zbj [] ?_ ?_|refine gC ?_ ?_<;>intro hb
    refine Zab rfl rfl (Zbe ⟨1,.own 0,[(0,some (errA ((i:Int) :: onS1 (onN o w c x q) u) (onL1 (onN o w c x q) u)))]⟩ [(0,47)] (.inr ⟨_,_,hcp,rfl⟩) rfl (Zal rfl) ?_)
    simp only [grR,errA,zE,evp,evx,ev1,evLoad,evStore,evBin,evIf,Zac,forall_const,z38,tb,reduceAdd,reduceSub,reduceMul,reduceEqDiff,reduceLeDiff,reduceLT,Nat.reduceBEq,Nat.reduceBNe,↓reduceIte,reduceIte,spLe,nvS,joiS,onS]
    intro k hk
    rw [List.mem_singleton.1 hk];rfl
   ·have hWq:w.getD (u:Int).toNat 0=q:=hb
    repeat' first|exact gE|refine gS Zcs Zbj [] ?_|refine gO Zcs Zbj [] ?_ ?_|refine gC ?_ ?_<;>intro hb
    refine back (j+1) [] ?_ ⟨by omega,fun j' hj'=>?_⟩ (by omega)
    ·first|exact leZ Zbj|refine leA Zbj ?_|refine leB Zbj ?_ ?_
    ·rcases Nat.lt_succ_iff_lt_or_eq.1 hj' with h|rfl
     ·exact hJ j' h
     ·rw [hu]
      exact hWq
  have hje:j=rw.length:=by omega
  subst hje
  refine back (i+1) [] ?_ ⟨by omega,fun v hv' u hu=>?_⟩ (by omega)
  ·first|exact leZ Zbj|refine leA Zbj ?_|refine leB Zbj ?_ ?_
  ·rcases Nat.lt_succ_iff_lt_or_eq.1 hv' with h|rfl
   ·exact hI v h u hu
   ·rw [hq] at hu ⊢
    obtain ⟨j',hj',rfl⟩:=(hmem u).1 hu
    exact hJ j' hj'
 ·have hie:i=o.length:=by omega
  subst hie
  repeat' first|exact gE|refine gS Zcs Zbj [] ?_|refine gO Zcs Zbj [] ?_ ?_|refine gC ?_ ?_<;>intro hb
  refine Zab rfl rfl (Zbe ⟨0,.cst .nilIface,[]⟩ [] (.inl ⟨hI,rfl⟩) rfl (Zal rfl) trivial)
def errB (l:List Int):Blk:=.sem [0] (ifA 59 (.agg (.cons (.cst (.slice none 0 0)) (.cons (.roI l) .nil))))
theorem und22 : Tryz.prog.underlying 22=some (.slice 3):=by kernel_rfl
set_option maxRecDepth 4000 in
set_option maxHeartbeats 4000000 in
theorem lost_fg {o p w c:List Int} {x:List (List Int)} (hv:Zau ⟨o,p,x⟩=true) (hc:Zcy ⟨o,p,x⟩ w c=true) :
  FG Tryz.prog 45 [.agg (.cons (.roI o) (.cons (.roI p) (.cons (.roII x) (.cons (.roI w) (.cons (.roI c) .nil)))))] [] 0 fun g=>((∀ v,v < o.length→p.getD v 0 % 2≠w.getD v 0→¬ Cyc (fun a b=>b∈nxVn ⟨o,p,x⟩ w c (w.getD v 0) a) (fun v=>p.getD v 0) v)∧g=⟨0,.cst .nilIface,[]⟩)∨∃ l,CpOK ⟨o,p,x⟩ w c [] l∧g=⟨1,.own 0,[(0,some (errB l))]⟩:=by
 refine Zc5 htb (fn:=Tryz.f45) (by kernel_rfl) (by kernel_rfl) rfl (Nat.le_of_ble_eq_true rfl) fun hl=>?_
 simp only [lenP,mkL,lim] at hl
 have hG:=gok (validB_iff.1 hv)
 obtain ⟨hwl,hcl,hcc⟩:=of_decide_eq_true hc
 have hpl:p.length=o.length:=hG.pl
 have hxl:x.length=o.length:=hG.xl
 have hn:o.length≤20000:=hG.n
 have hwl:w.length=o.length:=hwl
 have hcl:c.length=o.length:=hcl
 clear hcc
 have hpr:∀ v,v < o.length→0≤p.getD v 0:=fun v h=>(hG.pri v h).1
 repeat' first|exact gE|refine gS noSp x0 [] ?_|refine gO noSp x0 [] ?_ ?_|refine gC ?_ ?_<;>intro hb
 refine Zag (τ:=Nat) (fun i=>i≤o.length∧∀ v,v < i→p.getD v 0 % 2≠w.getD v 0→¬ Cyc (fun a b=>b∈nxVn ⟨o,p,x⟩ w c (w.getD v 0) a) (fun v=>p.getD v 0) v) (fun i=>⟨7,[(10,.int .i64 i),(9,.int .i64 w.length),(8,.roI w),(2,.cst .nilIface),(1,.rop (.agg (.cons (.roI o) (.cons (.roI p) (.cons (.roII x) (.cons (.roI w) (.cons (.roI c) .nil)))))))],[],[]⟩) (fun i=>o.length - i) 0 [] ?_ ⟨Nat.zero_le _,fun v h=>absurd h (Nat.not_lt_zero v)⟩ ?_
 ·first|exact leZ x0|refine leA x0 ?_|refine leB x0 ?_ ?_
 rintro i ⟨hi,hI⟩
 have hpi:=hpr i
 repeat' first|exact gE|refine gS noSp x0 [5,9] ?_|refine gO noSp x0 [5,9] ?_ ?_|refine gC ?_ ?_<;>intro hb
 ·refine back (i+1) [] ?_ ⟨by omega,fun v hv'=>?_⟩ (by omega)
  ·first|exact leZ x0|refine leA x0 ?_|refine leB x0 ?_ ?_
  ·rcases Nat.lt_succ_iff_lt_or_eq.1 hv' with h|rfl
   ·exact hI v h
   ·exact fun h=>absurd hb h
 ·have hil:i < o.length:=by omega
  have hbi:=hb
  have hnv:=Zi2 hv hc (w.getD i 0)
  refine Za2 ([_,_]) ([_]) rfl rfl ?_
  refine gTn noSp x0 ?_ ?_
  ·first|exact oA|skip
  refine gCo ([]) (loop_fg hn hpl hxl hwl hcl hil fun u hu=>⟨(hnv u hu).1,(hnv u hu).2.2⟩) x0 ?_;intro gm gv gr hq m' e' l' h
  rcases hq with ⟨hno,hq⟩|⟨L,hL,hq⟩
  ·refine gCf hq h x0 ?_
   refine gT noSp x0 ?_ ?_
   ·first|exact oA|skip
   refine Zaf ?_
   repeat' first|exact gE|refine gS noSp x0 [6] ?_|refine gO noSp x0 [6] ?_ ?_|refine gC ?_ ?_<;>intro hb
   refine Za2 ([_]) ([]) rfl rfl ?_
   refine gTn noSp x0 ?_ ?_
   ·first|exact oA|skip
   refine Zc7 (opsem_neqnil0 rfl und22 rfl rfl) rfl rfl (fun c h=>by cases h) Zan (.inl rfl) rfl ?_
   refine Zcl ?_
   refine Zaf ?_
   refine Zcl ?_
   refine Zaf ?_
   dsimp only [putE,setW,reduceAdd]
   repeat' first|exact gE|refine gS noSp x0 [] ?_|refine gO noSp x0 [] ?_ ?_|refine gC ?_ ?_<;>intro hb
   ·cases hb
   ·refine back (i+1) [] ?_ ⟨by omega,fun v hv'=>?_⟩ (by omega)
    ·first|exact leZ x0|refine leA x0 ?_|refine leB x0 ?_ ?_
    ·rcases Nat.lt_succ_iff_lt_or_eq.1 hv' with h|rfl
     ·exact hI v h
     ·exact fun _=>hno
  ·refine gCf hq h x0 ?_
   refine gT noSp x0 ?_ ?_
   ·first|exact oA|skip
   refine Zaf ?_
   repeat' first|exact gE|refine gS noSp x0 [6] ?_|refine gO noSp x0 [6] ?_ ?_|refine gC ?_ ?_<;>intro hb
   refine Za2 ([_]) ([]) rfl rfl ?_
   refine gTn noSp x0 ?_ ?_
   ·first|exact oA|skip
   have hll:0 < (Za1 L).length:=by
    obtain ⟨r,rfl⟩:=hL.1
    simp [Za1]
   refine Zc7 (opsem_neqnil rfl und22 rfl hll rfl) rfl rfl (fun c h=>by cases h) Zan (.inl rfl) rfl ?_
   refine Zcl ?_
   refine Zaf ?_
   refine Zcl ?_
   refine Zaf ?_
   dsimp only [putE,setW,reduceAdd]
   repeat' first|exact gE|refine gS noSp x0 [] ?_|refine gO noSp x0 [] ?_ ?_|refine gC ?_ ?_<;>intro hb
   ·have hcp:=lost_cp hv hc hil hL.1 hL.2.1 hL.2.2.1 hL.2.2.2.1 hL.2.2.2.2 hbi
    refine Zab rfl rfl (Zbe ⟨1,.own 0,[(0,some (errB (Za1 L)))]⟩ [(0,30)] (.inr ⟨_,hcp,rfl⟩) rfl (Zal rfl) ?_)
    simp only [grR,errB,zE,evp,evx,ev1,evLoad,evStore,evBin,evIf,Zac,forall_const,z38,tb,reduceAdd,reduceSub,reduceMul,reduceEqDiff,reduceLeDiff,reduceLT,Nat.reduceBEq,Nat.reduceBNe,↓reduceIte,reduceIte]
    intro k hk
    rw [List.mem_singleton.1 hk];rfl
   ·cases hb
 ·have hie:i=o.length:=by omega
  subst hie
  repeat' first|exact gE|refine gS noSp x0 [] ?_|refine gO noSp x0 [] ?_ ?_|refine gC ?_ ?_<;>intro hb
  refine Zab rfl rfl (Zbe ⟨0,.cst .nilIface,[]⟩ [] (.inl ⟨hI,rfl⟩) rfl (Zal rfl) trivial)
open Go Pl
noncomputable def ctrR (g:Gm) (w c s l:List Int):Bool × Int:=if Zau g=true then (if Zcy g w c=true∧isP g s l=true then (Zee g w c s l,0) else (false,4)) else (false,1)
noncomputable def ctrS : Spec
 |[.agg (.cons (.roI o) (.cons (.roI p) (.cons (.roII x) .nil))),.agg (.cons (.roI w) (.cons (.roI c) .nil)),.agg (.cons (.roI s) (.cons (.roI lp) .nil))]=>some ⟨s.length≤40000∧lp.length≤40000,.tup (.cons (.bool (ctrR ⟨o,p,x⟩ w c s lp).1) (.cons (.int .i64 (ctrR ⟨o,p,x⟩ w c s lp).2) .nil)),none⟩
 |_=>none
theorem isP_lp {o p s lp:List Int} {x:List (List Int)} (hv:Zau ⟨o,p,x⟩=true) (h:isP ⟨o,p,x⟩ s lp=true):∀ i,i < lp.length→0≤lp.getD i 0∧lp.getD i 0 < (p.length:Int):=fun i hi=>by
 have hpl:p.length=o.length:=(gok (validB_iff.1 hv)).pl
 obtain ⟨_,hat,_⟩:=isP_iff.1 h
 have:=hat (s.length+i) (by rw [List.length_append];omega)
 have e:(s++lp).getD (s.length+i) 0=lp.getD i 0:=by
  rw [List.getD_eq_getElem?_getD,List.getElem?_append_right (by omega),List.getD_eq_getElem?_getD]
  congr 2
  omega
 rw [e] at this
 have h2:lp.getD i 0 < (o.length:Int):=this.2
 exact ⟨this.1,by omega⟩
noncomputable def spWv : Nat→Option Spec
 |13=>some validS
 |21=>some clmS
 |24=>some plyS
 |26=>some wonS
 |25=>some joiS
 |28=>some nvS
 |27=>some containsS
 |_=>none
theorem Za0 : SpOK Tryz.prog spWv:=by
 intro f S h
 unfold spWv at h
 split at h
 ·cases h;exact Zgo
 ·cases h;exact claimOf_ok
 ·cases h;exact ply_ok
 ·cases h;exact vwon_ok
 ·cases h;exact Zhx
 ·cases h;exact Zon
 ·cases h;exact Zhe
 ·cases h
def Zas := Hd.mk (And.intro @spWv.eq_1<|And.intro @spWv.eq_2<|And.intro @spWv.eq_3<|And.intro @spWv.eq_4<|And.intro @spWv.eq_5<|And.intro @spWv.eq_6<|And.intro @spWv.eq_7<|And.intro @validS.eq_1<|And.intro @clmS.eq_1<|And.intro @plyS.eq_1<|And.intro @wonS.eq_1<|And.intro @joiS.eq_1<|And.intro @nvS.eq_1<|@containsS.eq_1)
set_option maxRecDepth 4000 in
set_option maxHeartbeats 4000000 in
theorem vctr_ok : Zcn Tryz.prog 12 ctrS:=by
 refine Zaw htb (fn:=Tryz.f12) (by kernel_rfl) (by kernel_rfl) rfl (fun args r hS=>?_) (fun args r hS hob hl=>?_)
 ·unfold ctrS at hS;split at hS<;>first|(cases hS;done)|(cases hS;exact Nat.le_of_ble_eq_true rfl)
 unfold ctrS at hS
 split at hS
 case h_2=>cases hS
 rename_i o p x w c s lp
 simp only [Option.some.injEq] at hS
 subst hS
 simp only [lenP,mkL,lim] at hl
 dsimp only at hob
 obtain ⟨h1,h2⟩:=hob
 have hor:=clm_or ⟨o,p,x⟩ w c
 repeat' first|exact gE|refine gS Za0 Zas [2] ?_|refine gO Za0 Zas [2] ?_ ?_|refine gC ?_ ?_<;>intro hb
 rcases hor with ⟨hv,hc,he⟩|⟨he,hv⟩|⟨he,hv,hc⟩
 ·rw [he]
  simp only [seI,seII,↓reduceIte]
  have hG:=gok (validB_iff.1 hv)
  have hxl:x.length=o.length:=hG.xl
  have hal:(s++lp).length=s.length+lp.length:=List.length_append ..
  have hfl:[s,lp].flatten=s++lp:=by simp
  have hfl2:[s,lp].flatten.length≤100000:=by rw [hfl];omega
  repeat' first|exact gE|refine gS Za0 Zas [3,4] ?_|refine gO Za0 Zas [3,4] ?_ ?_|refine gC ?_ ?_<;>intro hb
  ·cases hb
  clear hb
  repeat' first|exact gE|refine gS Za0 Zas [5,6] ?_|refine gO Za0 Zas [5,6] ?_ ?_|refine gC ?_ ?_<;>intro hb
  ·have e:ctrR ⟨o,p,x⟩ w c s lp=(false,4):=by
    unfold ctrR
    rw [if_pos hv,if_neg]
    rintro ⟨h3,h4⟩
    rw [hb] at h4
    cases h4
   rw [e]
   repeat' first|exact gE|refine gS Za0 Zas [] ?_|refine gO Za0 Zas [] ?_ ?_|refine gC ?_ ?_<;>intro hb
   refine Zab rfl rfl (Zae rfl ?_ rfl)
   rfl
  have e:ctrR ⟨o,p,x⟩ w c s lp=(Zee ⟨o,p,x⟩ w c s lp,0):=by unfold ctrR;rw [if_pos hv,if_pos ⟨hc,hb⟩]
  rw [e]
  have hag:=@agn_b ⟨o,p,x⟩ w c s lp
  simp only [psP] at hag
  obtain ⟨R,hR⟩:∃ R,Zee ⟨o,p,x⟩ w c s lp=R:=⟨_,rfl⟩
  rw [hR] at hag ⊢
  obtain ⟨hwl,hcl2,hcc⟩:=of_decide_eq_true hc
  have hwl:w.length=o.length:=hwl
  have hcl2:c.length=o.length:=hcl2
  have hpl:p.length=o.length:=hG.pl
  have hn:o.length≤20000:=hG.n
  have hwl2:=isP_lp hv hb
  have hnv:=fun q=>Zi2 hv hc q
  obtain ⟨hne,hat,hmem⟩:=isP_iff.1 hb
  have hl0:0 < lp.length:=List.length_pos_iff.2 hne
  have hat:∀ i,i < (s++lp).length→0≤(s++lp).getD i 0∧(s++lp).getD i 0 < (o.length:Int):=hat
  have hmem:∀ i:Nat,i < (s++lp).length→aftP (s++lp) lp i∈x.getD ((s++lp).getD i 0).toNat []:=hmem
  clear e hb
  repeat' first|exact gE|refine gS Za0 Zas [7] ?_|refine gO Za0 Zas [7] ?_ ?_|refine gC ?_ ?_<;>intro hb
  rw [hfl]
  generalize s++lp=L at *
  have hL:L.length≤80000:=by omega
  have h00:=hat 0 (by omega)
  clear hfl hfl2
  repeat' first|exact gE|refine gS Za0 Zas [9] ?_|refine gO Za0 Zas [9] ?_ ?_|refine gC ?_ ?_<;>intro hb
  ·exact Ob.mk hwl2
  obtain ⟨q,hq⟩:∃ q,w.getD (L.getD 0 0).toNat 0=q:=⟨_,rfl⟩
  rw [hq] at hag ⊢
  obtain ⟨wn,hwn⟩:∃ wn,wonP ⟨o,p,x⟩ lp=wn:=⟨_,rfl⟩
  rw [hwn] at hag ⊢
  have hlv:∀ i,lvB w L q (i+1)=(lvB w L q i || !decide (w.getD (L.getD i 0).toNat 0=q)):=fun i=>lvB_s
  repeat' first|exact gE|refine gS Za0 Zas [] ?_|refine gO Za0 Zas [] ?_ ?_|refine gC ?_ ?_<;>intro hb
  refine Zag (τ:=Nat) (fun i=>i≤L.length∧∀ j:Nat,j < i→o.getD (L.getD j 0).toNat 0=q∧w.getD (L.getD j 0).toNat 0=q→aftP L lp j=c.getD (L.getD j 0).toNat 0) (fun i=>⟨60,[(49,.int .i64 i),(48,.int .i64 L.length),(47,.roI L),(12,.bool (!decide (wn=q) || lvB w L q i)),(11,.int .i64 q),(10,.roI L),(8,.own 11),(5,.rop (.agg (.cons (.roI s) (.cons (.roI lp) .nil)))),(4,.rop (.agg (.cons (.roI w) (.cons (.roI c) .nil)))),(3,.rop (.agg (.cons (.roI o) (.cons (.roI p) (.cons (.roII x) .nil)))))],[(11,some (.box (.agg (.cons (.roI o) (.cons (.roI p) (.cons (.roII x) (.cons (.roI w) (.cons (.roI c) .nil))))))))],[]⟩) (fun i=>L.length - i) 0 [] ?_ ⟨Nat.zero_le _,fun j hj=>absurd hj (Nat.not_lt_zero j)⟩ ?_
  ·first|exact leZ Zas|refine leA Zas ?_|refine leB Zas ?_ ?_
   exact Bool.or_false _
  rintro i ⟨hi,hk⟩
  have hat1:=hat i
  have hlv1:=hlv i
  have hm1:=hmem i
  have hnv:=hnv q
  clear hlv hmem
  repeat' first|exact gE|refine gS Za0 Zas [11,19] ?_|refine gO Za0 Zas [11,19] ?_ ?_|refine gC ?_ ?_<;>intro hb
  ·have hil:i < L.length:=by omega
   have hat1:=hat1 hil
   have hm1:=hm1 hil
   have hA:aftP L lp i=if (i:Int)+1 < L.length then L.getD ((i:Int)+1).toNat 0 else lp.getD 0 0:=rfl
   have hfin:aftP L lp i ∉ nvF o w c x q (L.getD i 0).toNat→R=false:=fun h=>by
    rw [Bool.eq_false_iff]
    intro h2
    refine h ?_
    unfold nvF
    split
    ·rename_i h3
     rw [(hag.1 h2).1 i hil h3]
     exact List.mem_singleton.2 rfl
    ·exact hm1
   have hnew:aftP L lp i∈nvF o w c x q (L.getD i 0).toNat→∀ j:Nat,j < i+1→o.getD (L.getD j 0).toNat 0=q∧w.getD (L.getD j 0).toNat 0=q→aftP L lp j=c.getD (L.getD j 0).toNat 0:=fun h j hj=>by
    rcases Nat.lt_succ_iff_lt_or_eq.1 hj with h2|rfl
    ·exact hk j h2
    ·intro h3
     unfold nvF at h
     rw [if_pos h3] at h
     exact List.mem_singleton.1 h
   obtain ⟨A,hAe⟩:∃ A,aftP L lp i=A:=⟨_,rfl⟩
   rw [hAe] at hA hfin hnew hm1
   have hnl:=(hnv (L.getD i 0).toNat (by omega)).1
   repeat' first|exact gE|refine gS Za0 Zas [14,15] ?_|refine gO Za0 Zas [14,15] ?_ ?_|refine gC ?_ ?_<;>intro hb
   ·rw [if_pos hb] at hA
    have hb1:=hb
    clear hb
    repeat' first|exact gE|refine gS Za0 Zas [15] ?_|refine gO Za0 Zas [15] ?_ ?_|refine gC ?_ ?_<;>intro hb
    rw [←hA]
    repeat' first|exact gE|refine gS Za0 Zas [16,17] ?_|refine gO Za0 Zas [16,17] ?_ ?_|refine gC ?_ ?_<;>intro hb
    ·rw [hfin hb]
     repeat' first|exact gE|refine gS Za0 Zas [] ?_|refine gO Za0 Zas [] ?_ ?_|refine gC ?_ ?_<;>intro hb
     refine Zab rfl rfl (Zae rfl ?_ rfl)
     rfl
    ·have hb2:=hnew hb
     clear hb
     repeat' first|exact gE|refine gS Za0 Zas [] ?_|refine gO Za0 Zas [] ?_ ?_|refine gC ?_ ?_<;>intro hb
     refine back (i+1) [] ?_ ⟨by omega,hb2⟩ (by omega)
     first|exact leZ Zas|refine leA Zas ?_|refine leB Zas ?_ ?_
     rw [hlv1,Bool.or_assoc]
   ·rw [if_neg (by omega)] at hA
    rw [←hA]
    clear hb
    repeat' first|exact gE|refine gS Za0 Zas [16,17] ?_|refine gO Za0 Zas [16,17] ?_ ?_|refine gC ?_ ?_<;>intro hb
    ·rw [hfin hb]
     repeat' first|exact gE|refine gS Za0 Zas [] ?_|refine gO Za0 Zas [] ?_ ?_|refine gC ?_ ?_<;>intro hb
     refine Zab rfl rfl (Zae rfl ?_ rfl)
     rfl
    ·have hb2:=hnew hb
     clear hb
     repeat' first|exact gE|refine gS Za0 Zas [] ?_|refine gO Za0 Zas [] ?_ ?_|refine gC ?_ ?_<;>intro hb
     refine back (i+1) [] ?_ ⟨by omega,hb2⟩ (by omega)
     first|exact leZ Zas|refine leA Zas ?_|refine leB Zas ?_ ?_
     rw [hlv1,Bool.or_assoc]
  ·have hie:i=L.length:=by omega
   subst hie
   have e:R=(!decide (wn=q) || lvB w L q L.length):=by
    rw [Bool.eq_iff_iff,hag,Bool.or_eq_true,Bool.not_eq_true',decide_eq_false_iff_not]
    exact ⟨fun h=>h.2.symm,fun h=>⟨hk,h.symm⟩⟩
   repeat' first|exact gE|refine gS Za0 Zas [] ?_|refine gO Za0 Zas [] ?_ ?_|refine gC ?_ ?_<;>intro hb
   refine Zab rfl rfl (Zae rfl ?_ rfl)
   rw [e]
   rfl
 ·have e:ctrR ⟨o,p,x⟩ w c s lp=(false,1):=by unfold ctrR;rw [if_neg (by rw [hv];decide)]
  rw [e,he]
  repeat' first|exact gE|refine gS Za0 Zas [3,4] ?_|refine gO Za0 Zas [3,4] ?_ ?_|refine gC ?_ ?_<;>intro hb
  ·repeat' first|exact gE|refine gS Za0 Zas [] ?_|refine gO Za0 Zas [] ?_ ?_|refine gC ?_ ?_<;>intro hb
   refine Zab rfl rfl (Zae rfl ?_ rfl)
   rfl
  ·exact absurd hb (by decide)
 ·have e:ctrR ⟨o,p,x⟩ w c s lp=(false,4):=by
   unfold ctrR
   rw [if_pos hv,if_neg]
   rintro ⟨h3,h4⟩
   rw [hc] at h3
   cases h3
  rw [e,he]
  repeat' first|exact gE|refine gS Za0 Zas [3,4] ?_|refine gO Za0 Zas [3,4] ?_ ?_|refine gC ?_ ?_<;>intro hb
  ·repeat' first|exact gE|refine gS Za0 Zas [] ?_|refine gO Za0 Zas [] ?_ ?_|refine gC ?_ ?_<;>intro hb
   refine Zab rfl rfl (Zae rfl ?_ rfl)
   rfl
  ·exact absurd hb (by decide)
end Go.Proofs.YtjcmlflljibikaaGreatDoor.Cal
