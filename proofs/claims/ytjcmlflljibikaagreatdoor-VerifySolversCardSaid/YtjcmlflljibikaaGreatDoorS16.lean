/- Own texts, merged. -/
import Derived.Test.YtjcmlflljibikaaGreatDoorS15
set_option linter.unusedVariables false
set_option linter.unusedSimpArgs false
open Nat (reduceAdd reduceSub reduceMul reduceEqDiff reduceLeDiff reduceLT)
namespace Go.Proofs.YtjcmlflljibikaaGreatDoor.Cal
open Go Pl
def VOK (K:Nat) (D:Int) (v:Vl):Prop:=v.m.length≤1000000∧(Zda v=0→v.m.length=K∧∀ q,0≤v.m.getD q 0∧v.m.getD q 0≤D)
def minV (pl:Int) (l:Nat→Vl) (row:List Int):Vl:=row.foldl (fun out w=>if cmpV pl (l w.toNat) out < 0 then l w.toNat else out) ⟨true,false,[]⟩
def bhV (o p:List Int) (x:List (List Int)) (pl:Int) (st:Vl) (ch:List Int) (l:Nat→Vl) (v:Nat):Vl :=
 Zf8 (if o.getD v 0=pl then (if ch.getD v 0 < 0 then st else l (ch.getD v 0).toNat) else minV pl l (x.getD v [])) (p.getD v 0).toNat
theorem min_next {pl:Int} {l:Nat→Vl} {row:List Int} {i:Nat} (h:i < row.length):minV pl l (row.take (i+1))=if cmpV pl (l (row.getD i 0).toNat) (minV pl l (row.take i)) < 0 then l (row.getD i 0).toNat else minV pl l (row.take i):=by
 unfold minV
 rw [Zff (d:=0) h,List.foldl_append];rfl
theorem Znz {pl:Int} {l:Nat→Vl} {K:Nat} {D:Int}:∀ {row:List Int},(∀ w,w∈row→VOK K D (l w.toNat))→VOK K D (minV pl l row):=by
 intro row
 unfold minV
 generalize h0:(⟨true,false,[]⟩:Vl)=out
 have hout:VOK K D out:=by
  rw [←h0]
  refine ⟨by simp,fun h=>?_⟩
  simp [Zda] at h
 clear h0
 induction row generalizing out with
 |nil=>intro _;exact hout
 |cons a row ih =>
  intro h
  rw [List.foldl_cons]
  refine ih _ ?_ fun w hw=>h w (List.mem_cons_of_mem _ hw)
  split
  ·exact h a List.mem_cons_self
  ·exact hout
theorem Zkh {K:Nat} {D:Int} {v:Vl} {q:Nat} (h:VOK K D v) (hq:q < K):v.e=false→v.n=false→v.m.length≤1000000∧q < v.m.length∧0≤v.m.getD q 0∧v.m.getD q 0≤D:=fun he hn=>by
 have hr:Zda v=0:=by unfold Zda;rw [if_neg (by simp [hn]),if_neg (by simp [he])]
 obtain ⟨h1,h2⟩:=h.2 hr
 exact ⟨h.1,by omega,h2 q⟩
noncomputable def spBh : Nat→Option Spec
 |66=>some compareS
 |82=>some plusS
 |_=>none
theorem Zco : SpOK Tryz.prog spBh:=by
 intro f S h
 unfold spBh at h
 split at h
 ·cases h;exact compare_ok
 ·cases h;exact plus_ok
 ·cases h
def Zbn := Hd.mk (And.intro @spBh.eq_1<|And.intro @spBh.eq_2<|And.intro @compareS.eq_1<|And.intro @plusS.eq_1<|@vlA.eq_1)
set_option maxRecDepth 4000 in
set_option maxHeartbeats 4000000 in
theorem behind_fg {o p:List Int} {x:List (List Int)} {pl:Int} {st:Vl} {ls:List Bool} {ch:List Int} {l:Nat→Vl} {K v:Nat} {D:Int} (hn:o.length≤20000) (hpl:p.length=o.length) (hxl:x.length=o.length) (hcl:ch.length=o.length) (hv:v < o.length) (hD:D≤1000000000000)
  (hp:0≤p.getD v 0∧(p.getD v 0).toNat < K) (hch:ch.getD v 0 < o.length) (hvo:∀ u,u < o.length→VOK K D (l u)) (hst:VOK K D st) (hr:(x.getD v []).length≤64∧∀ j,j < (x.getD v []).length→0≤(x.getD v []).getD j 0∧(x.getD v []).getD j 0 < (o.length:Int)) :
  FG Tryz.prog 65 [.agg (.cons (.roI o) (.cons (.roI p) (.cons (.roII x) (.cons (.int .i64 pl) (.cons (.bool st.e) (.cons (.bool st.n) (.cons (.roI st.m) (.cons (.roB ls) (.cons (.own 1) .nil))))))))),.own 0,.int .i64 v] [(0,some (.avs 3 o.length fun j=>vlA (l j))),(1,some (.ints ch))] 2
   fun g=>g=⟨2,vlA (bhV o p x pl st ch l v),[(0,some (.avs 3 o.length fun j=>vlA (l j))),(1,some (.ints ch))]⟩:=by
 refine Zc5 htb (fn:=Tryz.f65) (by kernel_rfl) (by kernel_rfl) rfl (Nat.le_of_ble_eq_true rfl) fun hl=>?_
 simp only [lenP,mkL,lim] at hl
 have hbh:∀ b,(if o.getD v 0=pl then (if ch.getD v 0 < 0 then st else l (ch.getD v 0).toNat) else minV pl l (x.getD v []))=b→bhV o p x pl st ch l v=Zf8 b (p.getD v 0).toNat:=fun b h=>by unfold bhV;rw [h]
 repeat' first|exact gE|refine gS Zco Zbn [2,5] ?_|refine gO Zco Zbn [2,5] ?_ ?_|refine gC ?_ ?_<;>intro hb
 ·have ho:=hb
  clear hb
  repeat' first|exact gE|refine gS Zco Zbn [3,4] ?_|refine gO Zco Zbn [3,4] ?_ ?_|refine gC ?_ ?_<;>intro hb
  ·have hb1:=hbh st (by rw [if_pos ho,if_pos hb])
   have hpo:=Zkh hst hp.2
   rw [hb1]
   repeat' first|exact gE|refine gS Zco Zbn [] ?_|refine gO Zco Zbn [] ?_ ?_|refine gC ?_ ?_<;>intro hb
   ·refine Ob.mk ⟨⟨by omega,by omega⟩,fun he hn2=>?_⟩
    obtain ⟨a1,a2,a3,a4⟩:=hpo he hn2
    exact ⟨a1,by omega,by omega,a3,by omega⟩
   refine Zab rfl rfl (Zbe (⟨2,vlA (Zf8 st (p.getD v 0).toNat),[(0,some (.avs 3 o.length fun j=>vlA (l j))),(1,some (.ints ch))]⟩) ([]) rfl rfl (Zal rfl) ?_)
   simp only [grR,zE,evp,evx,ev1,evLoad,evStore,evBin,evIf,Zac,forall_const,z38,tb,reduceAdd,reduceSub,reduceMul,reduceEqDiff,reduceLeDiff,reduceLT,Nat.reduceBEq,Nat.reduceBNe,↓reduceIte,reduceIte,spBh,compareS,plusS,vlA]
  ·have hb1:=hbh (l (ch.getD v 0).toNat) (by rw [if_pos ho,if_neg (by omega)])
   have hcv:(ch.getD v 0).toNat < o.length:=by omega
   have hpo:=Zkh (hvo _ hcv) hp.2
   rw [hb1]
   repeat' first|exact gE|refine gS Zco Zbn [] ?_|refine gO Zco Zbn [] ?_ ?_|refine gC ?_ ?_<;>intro hb
   ·refine Ob.mk ⟨⟨⟨⟨⟨⟨by omega,by omega⟩,by omega⟩,by omega,by omega⟩,by omega⟩,by omega,by omega⟩,fun he hn2=>?_⟩
    obtain ⟨a1,a2,a3,a4⟩:=hpo he hn2
    exact ⟨a1,by omega,by omega,a3,by omega⟩
   refine Zab rfl rfl (Zbe (⟨2,vlA (Zf8 (l (ch.getD v 0).toNat) (p.getD v 0).toNat),[(0,some (.avs 3 o.length fun j=>vlA (l j))),(1,some (.ints ch))]⟩) ([]) rfl rfl (Zal rfl) ?_)
   simp only [grR,zE,evp,evx,ev1,evLoad,evStore,evBin,evIf,Zac,forall_const,z38,tb,reduceAdd,reduceSub,reduceMul,reduceEqDiff,reduceLeDiff,reduceLT,Nat.reduceBEq,Nat.reduceBNe,↓reduceIte,reduceIte,spBh,compareS,plusS,vlA]
 have ho:¬ o.getD v 0=pl:=hb
 clear hb
 have hb1:=hbh (minV pl l (x.getD v [])) (by rw [if_neg ho])
 have hmk:∀ i,i≤(x.getD v []).length→VOK K D (minV pl l ((x.getD v []).take i)):=fun i hi=>Znz fun w hw=>by
  obtain ⟨j,hj,rfl⟩:=Zdv (List.mem_of_mem_take hw)
  have:=hr.2 j hj
  exact hvo _ (by omega)
 have hmn:=fun i=>@min_next pl l (x.getD v []) i
 have hm0:minV pl l ((x.getD v []).take 0)=⟨true,false,[]⟩:=rfl
 have hma:minV pl l ((x.getD v []).take (x.getD v []).length)=minV pl l (x.getD v []):=by rw [List.take_length]
 rw [hb1]
 clear hbh hb1
 repeat' first|exact gE|refine gS Zco Zbn [] ?_|refine gO Zco Zbn [] ?_ ?_|refine gC ?_ ?_<;>intro hb
 refine Zlp 14 rfl rfl ?_
 generalize x.getD v []=rw at *
 refine Zag (τ:=Nat) (fun i=>i≤rw.length) (fun i=>⟨24,[(57,.int .i64 i),(56,.int .i64 rw.length),(55,.roI rw),(7,.own 14),(6,.own 3),(3,.own 2),(1,.own 0),(2,.int .i64 v)],[(0,some (.avs 3 o.length fun j=>vlA (l j))),(1,some (.ints ch)),(2,some (.box (.agg (.cons (.roI o) (.cons (.roI p) (.cons (.roII x) (.cons (.int .i64 pl) (.cons (.bool st.e) (.cons (.bool st.n) (.cons (.roI st.m) (.cons (.roB ls) (.cons (.own 1) .nil)))))))))))),(3,some (.box (.agg (.cons (.bool false) (.cons (.bool false) (.cons (.cst (.slice none 0 0)) .nil)))))),(14,some (.box (vlA (minV pl l (rw.take i)))))],[]⟩) (fun i=>rw.length - i) 0 [] ?_ (Nat.zero_le _) ?_
 ·first|exact leZ Zbn|refine leA Zbn ?_|refine leB Zbn ?_ ?_
  rw [hm0]
  rfl
 intro i hi
 have hmk1:=hmk i hi
 have hmn1:=hmn i
 have hr1:=hr.2 i
 clear hmk hmn
 repeat' first|exact gE|refine gS Zco Zbn [9,12] ?_|refine gO Zco Zbn [9,12] ?_ ?_|refine gC ?_ ?_<;>intro hb
 ·have hil:i < rw.length:=by omega
  obtain ⟨c1,c2⟩:=hr1 hil
  have hmn1:=hmn1 hil
  have hw:(rw.getD i 0).toNat < o.length:=by omega
  have hv1:=hvo _ hw
  generalize minV pl l (rw.take i)=mn at *
  generalize rw.getD i 0=w at *
  repeat' first|exact gE|refine gS Zco Zbn [10,11] ?_|refine gO Zco Zbn [10,11] ?_ ?_|refine gC ?_ ?_<;>intro hb
  ·refine Ob.mk ⟨⟨⟨by omega,by omega⟩,by omega⟩,hv1.1,fun h1 h2=>?_⟩
   rw [(hv1.2 h1).1,(hmk1.2 h2).1]
   exact Nat.le_refl _
  ·rw [if_pos hb] at hmn1
   repeat' first|exact gE|refine gS Zco Zbn [] ?_|refine gO Zco Zbn [] ?_ ?_|refine gC ?_ ?_<;>intro hb
   refine back (i+1) [] ?_ (by omega) (by omega)
   first|exact leZ Zbn|refine leA Zbn ?_|refine leB Zbn ?_ ?_
   rw [hmn1]
   exact ⟨rfl,rfl,rfl⟩
  ·rw [if_neg (Int.not_lt.2 hb)] at hmn1
   repeat' first|exact gE|refine gS Zco Zbn [] ?_|refine gO Zco Zbn [] ?_ ?_|refine gC ?_ ?_<;>intro hb
   refine back (i+1) [] ?_ (by omega) (by omega)
   first|exact leZ Zbn|refine leA Zbn ?_|refine leB Zbn ?_ ?_
   rw [hmn1]
   exact ⟨rfl,rfl,rfl⟩
 have hie:i=rw.length:=by omega
 subst hie
 rw [hma] at hmk1 ⊢
 have hpo:=Zkh hmk1 hp.2
 repeat' first|exact gE|refine gS Zco Zbn [] ?_|refine gO Zco Zbn [] ?_ ?_|refine gC ?_ ?_<;>intro hb
 ·refine Ob.mk ⟨⟨by omega,by omega⟩,fun he hn2=>?_⟩
  obtain ⟨a1,a2,a3,a4⟩:=hpo he hn2
  exact ⟨a1,by omega,by omega,a3,by omega⟩
 refine Zab rfl rfl (Zbe (⟨2,vlA (Zf8 (minV pl l rw) (p.getD v 0).toNat),[(0,some (.avs 3 o.length fun j=>vlA (l j))),(1,some (.ints ch))]⟩) ([]) rfl rfl (Zal rfl) ?_)
 simp only [grR,zE,evp,evx,ev1,evLoad,evStore,evBin,evIf,Zac,forall_const,z38,tb,reduceAdd,reduceSub,reduceMul,reduceEqDiff,reduceLeDiff,reduceLT,Nat.reduceBEq,Nat.reduceBNe,↓reduceIte,reduceIte,spBh,compareS,plusS,vlA]
open Go Pl
structure Im where
 o:List Int
 p:List Int
 x:List (List Int)
 pl:Int
 st:Vl
 ls:List Bool
def Im.bh (h:Im) (ch:List Int) (l:Nat→Vl) (v:Nat):Vl:=bhV h.o h.p h.x h.pl h.st ch l v
def Zj8 (h:Im) (ch:List Int) (s:(Nat→Vl) × Bool) (v:Nat):(Nat→Vl) × Bool:=if h.ls.getD v false=false∧cmpV h.pl (h.bh ch s.1 v) (s.1 v) < 0 then (fun j=>if j=v then h.bh ch s.1 v else s.1 j,true) else s
def Zd4 (h:Im) (ch:List Int) (l:Nat→Vl) (i:Nat):(Nat→Vl) × Bool:=(List.range i).foldl (Zj8 h ch) (l,false)
def vIt (h:Im) (ch:List Int):Nat→Nat→Vl
 |0=>fun v=>⟨!h.ls.getD v false,h.ls.getD v false,[]⟩
 |k+1=>(Zd4 h ch (vIt h ch k) h.o.length).1
def VEnd (h:Im) (ch:List Int) (k:Nat):Prop:=k≤20001∧(∀ j,j < k→(Zd4 h ch (vIt h ch j) h.o.length).2=true)∧(Zd4 h ch (vIt h ch k) h.o.length).2=false
theorem Zdr {h:Im} {ch:List Int} {l:Nat→Vl} {i:Nat}:Zd4 h ch l (i+1)=Zj8 h ch (Zd4 h ch l i) i:=by
 unfold Zd4
 rw [List.range_succ,List.foldl_append];rfl
theorem Zid {h:Im} {ch:List Int} {l:Nat→Vl}:∀ {i:Nat},(Zd4 h ch l i).2=false→(Zd4 h ch l i).1=l
 |0,_=>rfl
 |i+1,hh=>by
  rw [Zdr] at hh ⊢
  unfold Zj8 at hh ⊢
  split at hh
  ·cases hh
  ·rename_i h2
   rw [if_neg h2]
   exact Zid hh
theorem Zc8 {K:Nat} {D D':Int} {v:Vl} (h:VOK K D v) (hD:D≤D'):VOK K D' v:=⟨h.1,fun hr=>⟨(h.2 hr).1,fun q=>⟨((h.2 hr).2 q).1,Int.le_trans ((h.2 hr).2 q).2 hD⟩⟩⟩
theorem vok_plus1 {K:Nat} {D:Int} {v:Vl} {q:Nat} (h:VOK K D v):VOK K (D+1) (Zf8 v q):=by
 unfold Zf8
 split
 ·exact Zc8 h (by omega)
 ·rename_i h2
  have he:v.e=false:=by cases hv:v.e with|false=>rfl|true=>exact absurd (.inl hv) h2
  have hn:v.n=false:=by cases hv:v.n with|false=>rfl|true=>exact absurd (.inr hv) h2
  have hr:Zda v=0:=by unfold Zda;rw [if_neg (by simp [hn]),if_neg (by simp [he])]
  obtain ⟨h3,h4⟩:=h.2 hr
  refine ⟨by dsimp only;rw [List.length_set];exact h.1,fun _=>⟨by dsimp only;rw [List.length_set];exact h3,fun q'=>?_⟩⟩
  dsimp only
  have e:(v.m.set q (v.m.getD q 0+1)).getD q' 0=if q'=q∧q < v.m.length then v.m.getD q 0+1 else v.m.getD q' 0:=by
   simp only [List.getD_eq_getElem?_getD,List.getElem?_set]
   by_cases e:q=q'
   ·subst e
    by_cases e2:q < v.m.length
    ·simp [e2]
    ·simp [e2]
   ·rw [if_neg e,if_neg (fun h=>e h.1.symm)]
  rw [e]
  have:=h4 q
  have:=h4 q'
  split<;>omega
structure ImOK (h:Im) (K:Nat):Prop where
 n:h.o.length≤20000
 plen:h.p.length=h.o.length
 xl:h.x.length=h.o.length
 p0:∀ v,v < h.o.length→0≤h.p.getD v 0∧(h.p.getD v 0).toNat < K
 row:∀ v,v < h.o.length→(h.x.getD v []).length≤64∧∀ j,j < (h.x.getD v []).length→0≤(h.x.getD v []).getD j 0∧(h.x.getD v []).getD j 0 < (h.o.length:Int)
 st:VOK K 0 h.st
 ls:h.ls.length=h.o.length
theorem Zor {h:Im} {K:Nat} (H:ImOK h K) {ch:List Int} (hc:∀ v,v < h.o.length→ch.getD v 0 < h.o.length) {l:Nat→Vl} {D:Int} (hD:0≤D) (hl:∀ u,u < h.o.length→VOK K D (l u)) {v:Nat} (hv:v < h.o.length):VOK K (D+1) (h.bh ch l v):=by
 unfold Im.bh bhV
 refine vok_plus1 ?_
 split
 ·split
  ·exact Zc8 H.st hD
  ·have:=hc v hv
   exact hl _ (by omega)
 ·refine Znz fun w hw=>?_
  obtain ⟨j,hj,rfl⟩:=Zdv hw
  have:=(H.row v hv).2 j hj
  exact hl _ (by omega)
theorem Zks {h:Im} {K:Nat} (H:ImOK h K) {ch:List Int} (hc:∀ v,v < h.o.length→ch.getD v 0 < h.o.length) {l:Nat→Vl} {D:Int} (hD:0≤D) (hl:∀ u,u < h.o.length→VOK K D (l u)):∀ {i:Nat},i≤h.o.length→∀ u,u < h.o.length→VOK K (D+i) ((Zd4 h ch l i).1 u)
 |0,_,u,hu=>by
  show VOK K (D+0) (l u)
  rw [Int.add_zero];exact hl u hu
 |i+1,hi,u,hu=>by
  have ih:=Zks H hc hD hl (i:=i) (by omega)
  rw [Zdr]
  unfold Zj8
  split
  ·dsimp only
   split
   ·have:=Zor H hc (show 0≤D+i by omega) ih (v:=i) (by omega)
    rw [show D+((i+1:Nat):Int)=D+i+1 by omega]
    exact this
   ·exact Zc8 (ih u hu) (by omega)
  ·exact Zc8 (ih u hu) (by omega)
theorem Zoo {h:Im} {K:Nat} (H:ImOK h K) {ch:List Int} (hc:∀ v,v < h.o.length→ch.getD v 0 < h.o.length):∀ {k:Nat},∀ u,u < h.o.length→VOK K (k * (h.o.length:Int)) (vIt h ch k u)
 |0,u,hu=>by
  refine ⟨Nat.zero_le _,fun hr=>?_⟩
  exfalso
  have hb:∀ b:Bool,Zda ⟨!b,b,[]⟩≠0:=fun b=>by cases b<;>decide
  exact hb _ hr
 |k+1,u,hu=>by
  have hk:0≤(k:Int) * (h.o.length:Int):=Int.mul_nonneg (by omega) (by omega)
  have:=Zks H hc hk (Zoo H hc (k:=k)) (i:=h.o.length) (Nat.le_refl _) u hu
  rw [show ((k+1:Nat):Int) * (h.o.length:Int)=(k:Int) * h.o.length+h.o.length by rw [Int.natCast_add,Int.add_mul];simp]
  exact this
def viZ (ls:List Bool) (i j:Nat):AV:=if j < i then .agg (.cons (.bool (!ls.getD j false)) (.cons (.bool (ls.getD j false)) (.cons (.cst (.slice none 0 0)) .nil))) else .agg (.cons (.bool false) (.cons (.bool false) (.cons (.cst (.slice none 0 0)) .nil)))
theorem viZ_zero {ls:List Bool}:(fun _=>AV.agg (.cons (.bool false) (.cons (.bool false) (.cons (.cst (.slice none 0 0)) .nil))))=viZ ls 0:=by
 funext j;unfold viZ;rw [if_neg (Nat.not_lt_zero _)]
theorem viZ_self {ls:List Bool} {i:Nat}:viZ ls i i=.agg (.cons (.bool false) (.cons (.bool false) (.cons (.cst (.slice none 0 0)) .nil))):=if_neg (Nat.lt_irrefl _)
theorem viZ_men {μ:Nat→Bool} {ls:List Bool} {i j:Nat}:men μ (viZ ls i j)=true:=by unfold viZ;split<;>rfl
theorem viZ_ren {ρ:Nat→Nat} {ls:List Bool} {i j:Nat}:ren ρ (viZ ls i j)=viZ ls i j:=by unfold viZ;split<;>rfl
theorem viZ_next {ls:List Bool} {i:Nat}:(fun j=>if j=i then AV.agg (.cons (.bool (!ls.getD i false)) (.cons (.bool (ls.getD i false)) (.cons (.cst (.slice none 0 0)) .nil))) else viZ ls i j)=viZ ls (i+1):=by
 funext j
 unfold viZ
 by_cases h:j=i
 ·subst h;rw [if_pos rfl,if_pos (by omega)]
 ·rw [if_neg h]
  by_cases h2:j < i
  ·rw [if_pos h2,if_pos (by omega)]
  ·rw [if_neg h2,if_neg (by omega)]
noncomputable def spVa : Nat→Option Spec
 |66=>some compareS
 |_=>none
theorem Zao : SpOK Tryz.prog spVa:=by
 intro f S h
 unfold spVa at h
 split at h
 ·cases h;exact compare_ok
 ·cases h
structure VaS where
 j:Nat
 c:Bool
def Zaz := Hd.mk (And.intro @spVa.eq_1<|And.intro @compareS.eq_1<|And.intro @vlA.eq_1<|And.intro @viZ_men<|And.intro @viZ_ren<|@viZ_self)
set_option maxRecDepth 4000 in
set_option maxHeartbeats 4000000 in
theorem values_fg {o p:List Int} {x:List (List Int)} {pl:Int} {st:Vl} {ls:List Bool} {ch:List Int} {K k:Nat} (H:ImOK ⟨o,p,x,pl,st,ls⟩ K) (hcl:ch.length=o.length) (hc:∀ v,v < o.length→ch.getD v 0 < o.length) (hk:VEnd ⟨o,p,x,pl,st,ls⟩ ch k) :
  FG Tryz.prog 37 [.agg (.cons (.roI o) (.cons (.roI p) (.cons (.roII x) (.cons (.int .i64 pl) (.cons (.bool st.e) (.cons (.bool st.n) (.cons (.roI st.m) (.cons (.roB ls) (.cons (.own 0) .nil)))))))))] [(0,some (.ints ch))] 1
   fun g=>g=⟨2,.own 1,[(0,some (.ints ch)),(1,some (.avs 3 o.length fun j=>vlA (vIt ⟨o,p,x,pl,st,ls⟩ ch k j)))]⟩:=by
 have hn:o.length≤20000:=H.n
 have hpl:p.length=o.length:=H.plen
 have hxl:x.length=o.length:=H.xl
 have hll:ls.length=o.length:=H.ls
 refine Zc5 htb (fn:=Tryz.f37) (by kernel_rfl) (by kernel_rfl) rfl (Nat.le_of_ble_eq_true rfl) fun hl=>?_
 simp only [lenP,mkL,lim] at hl
 repeat' first|exact gE|refine gS Zao Zaz [] ?_|refine gO Zao Zaz [] ?_ ?_|refine gC ?_ ?_<;>intro hb
 refine Zag (τ:=Nat) (fun i=>i≤o.length) (fun i=>⟨12,[(15,.int .i64 i),(14,.int .i64 o.length),(3,.own 7),(1,.own 1)],[(0,some (.ints ch)),(1,some (.box (.agg (.cons (.roI o) (.cons (.roI p) (.cons (.roII x) (.cons (.int .i64 pl) (.cons (.bool st.e) (.cons (.bool st.n) (.cons (.roI st.m) (.cons (.roB ls) (.cons (.own 0) .nil)))))))))))),(7,some (.avs 3 o.length (viZ ls i)))],[]⟩) (fun i=>o.length - i) 0 [] ?_ (Nat.zero_le _) ?_
 ·first|exact leZ Zaz|refine leA Zaz ?_|refine leB Zaz ?_ ?_
  exact congrArg (Blk.avs 3 o.length) viZ_zero
 intro i hi
 repeat' first|exact gE|refine gS Zao Zaz [5,7] ?_|refine gO Zao Zaz [5,7] ?_ ?_|refine gC ?_ ?_<;>intro hb
 ·have hil:i < o.length:=by omega
  repeat' first|exact gE|refine gS Zao Zaz [] ?_|refine gO Zao Zaz [] ?_ ?_|refine gC ?_ ?_<;>intro hb
  refine back (i+1) [] ?_ (by omega) (by omega)
  first|exact leZ Zaz|refine leA Zaz ?_|refine leB Zaz ?_ ?_
  exact congrArg (Blk.avs 3 o.length) viZ_next
 have hie:i=o.length:=by omega
 subst hie
 refine awp_nroA 7 (fun j=>vlA (vIt ⟨o,p,x,pl,st,ls⟩ ch 0 j)) rfl (fun j hj=>by unfold viZ;rw [if_pos hj];rfl) (by simp only [Zai,Zeu,fzE,fzA,fzR,fzB,set1,nbeq,reduceEqDiff,decide_true,decide_false,↓reduceIte,reduceIte,cond_true,cond_false,List.take_length,Option.some.injEq]<;>rfl) ?_
 have hK:=fun j=>Zoo H hc (k:=j)
 have hP:∀ j,j≤k→∀ i,i≤o.length→∀ u,u < o.length→VOK K 900000000000 ((Zd4 ⟨o,p,x,pl,st,ls⟩ ch (vIt ⟨o,p,x,pl,st,ls⟩ ch j) i).1 u):=fun j hj i hi u hu=>by
  have hj2:j≤20001:=Nat.le_trans hj hk.1
  have h1:(j:Int) * (o.length:Int)≤20001 * 20000:=Int.mul_le_mul (by omega) (by omega) (by omega) (by omega)
  exact Zc8 (Zks H hc (Int.mul_nonneg (by omega) (by omega)) (hK j) hi u hu) (by show (j:Int) * (o.length:Int)+i≤_;omega)
 repeat' first|exact gE|refine gS Zao Zaz [8] ?_|refine gO Zao Zaz [8] ?_ ?_|refine gC ?_ ?_<;>intro hb
 refine Zag (τ:=VaS) (fun s=>s.j≤k+1∧s.c=decide (s.j≤k)) (fun s=>⟨15,[(5,.bool s.c),(3,.own 7),(1,.own 1)],[(0,some (.ints ch)),(1,some (.box (.agg (.cons (.roI o) (.cons (.roI p) (.cons (.roII x) (.cons (.int .i64 pl) (.cons (.bool st.e) (.cons (.bool st.n) (.cons (.roI st.m) (.cons (.roB ls) (.cons (.own 0) .nil)))))))))))),(7,some (.avs 3 o.length fun v=>vlA (vIt ⟨o,p,x,pl,st,ls⟩ ch s.j v)))],[]⟩) (fun s=>k+1 - s.j) ⟨0,true⟩ [] ?_ ⟨Nat.zero_le _,(decide_eq_true (Nat.zero_le _)).symm⟩ ?_
 ·first|exact leZ Zaz|refine leA Zaz ?_|refine leB Zaz ?_ ?_
 rintro ⟨j,c⟩ ⟨hj,hjc⟩
 dsimp only at hj hjc ⊢
 repeat' first|exact gE|refine gS Zao Zaz [11,17] ?_|refine gO Zao Zaz [11,17] ?_ ?_|refine gC ?_ ?_<;>intro hb
 ·have hjk:j≤k:=by rw [hjc] at hb;exact of_decide_eq_true hb
  have hPj:=hP j hjk
  have hnx:(vIt ⟨o,p,x,pl,st,ls⟩ ch (j+1))=(Zd4 ⟨o,p,x,pl,st,ls⟩ ch (vIt ⟨o,p,x,pl,st,ls⟩ ch j) o.length).1:=rfl
  have hfl:(Zd4 ⟨o,p,x,pl,st,ls⟩ ch (vIt ⟨o,p,x,pl,st,ls⟩ ch j) o.length).2=decide (j+1≤k):=by
   rcases Nat.lt_or_ge j k with h|h
   ·rw [decide_eq_true (by omega)];exact hk.2.1 j h
   ·have:j=k:=by omega
    subst this
    rw [decide_eq_false (by omega)];exact hk.2.2
  generalize vIt ⟨o,p,x,pl,st,ls⟩ ch j=L at *
  clear hK hP
  refine Zag (τ:=Nat) (fun i=>i≤o.length) (fun i=>⟨20,[(37,.int .i64 i),(36,.int .i64 o.length),(5,.bool (Zd4 ⟨o,p,x,pl,st,ls⟩ ch L i).2),(3,.own 7),(1,.own 1)],[(0,some (.ints ch)),(1,some (.box (.agg (.cons (.roI o) (.cons (.roI p) (.cons (.roII x) (.cons (.int .i64 pl) (.cons (.bool st.e) (.cons (.bool st.n) (.cons (.roI st.m) (.cons (.roB ls) (.cons (.own 0) .nil)))))))))))),(7,some (.avs 3 o.length fun v=>vlA ((Zd4 ⟨o,p,x,pl,st,ls⟩ ch L i).1 v)))],[]⟩) (fun i=>o.length - i) 0 [] ?_ (Nat.zero_le _) ?_
  ·first|exact leZ Zaz|refine leA Zaz ?_|refine leB Zaz ?_ ?_
   ·rfl
   ·rfl
  intro i hi
  have hPi:=hPj i hi
  have hpn:=@Zdr ⟨o,p,x,pl,st,ls⟩ ch L i
  repeat' first|exact gE|refine gS Zao Zaz [13,17] ?_|refine gO Zao Zaz [13,17] ?_ ?_|refine gC ?_ ?_<;>intro hb
  ·have hil:i < o.length:=by omega
   have hp0:=H.p0 i hil
   have hrow:=H.row i hil
   have hci:=hc i hil
   generalize Zd4 ⟨o,p,x,pl,st,ls⟩ ch L i=s at *
   have hby:VOK K (900000000000+1) (bhV o p x pl st ch s.1 i):=Zor H hc (by decide) hPi hil
   refine Za2 ([_,_,_]) ([_,_]) rfl rfl ?_
   refine gTn Zao Zaz ?_ ?_
   ·first|exact oA|skip
   refine gCl ([7,0]) (behind_fg (o:=o) (p:=p) (x:=x) (pl:=pl) (st:=st) (ls:=ls) (ch:=ch) (l:=s.1) (K:=K) (v:=i) (D:=900000000000) hn hpl hxl hcl hil (by decide) hp0 hci hPi (Zc8 H.st (by decide)) hrow) Zaz ?_
   refine gT Zao Zaz ?_ ?_
   ·first|exact oA|skip
   refine Zaf ?_
   have hst:Zj8 ⟨o,p,x,pl,st,ls⟩ ch s i=if ls.getD i false=false∧cmpV pl (bhV o p x pl st ch s.1 i) (s.1 i) < 0 then (fun j=>if j=i then bhV o p x pl st ch s.1 i else s.1 j,true) else s:=rfl
   rw [hst] at hpn
   clear hst
   have hvi:=hPi i hil
   generalize bhV o p x pl st ch s.1 i=y at *
   repeat' first|exact gE|refine gS Zao Zaz [15,16] ?_|refine gO Zao Zaz [15,16] ?_ ?_|refine gC ?_ ?_<;>intro hb
   ·refine Ob.mk ⟨⟨⟨⟨by omega,by omega⟩,fun h=>⟨h,by omega,by omega⟩⟩,fun h=>⟨h,hil⟩⟩,fun h=>⟨h,hby.1,fun h1 h2=>?_⟩⟩
    rw [(hby.2 h1).1,(hvi.2 h2).1]
    exact Nat.le_refl _
   ·rw [if_pos hb] at hpn
    repeat' first|exact gE|refine gS Zao Zaz [] ?_|refine gO Zao Zaz [] ?_ ?_|refine gC ?_ ?_<;>intro hb
    refine back (i+1) [] ?_ (by omega) (by omega)
    first|exact leZ Zaz|refine leA Zaz ?_|refine leB Zaz ?_ ?_
    ·rw [hpn]
    ·rw [hpn]
     refine congrArg (Blk.avs 3 o.length) (funext fun j=>?_)
     dsimp only
     split<;>rfl
   ·rw [if_neg (fun h=>by
     rcases hb with h2|h2
     ·rw [h.1] at h2;cases h2
     ·exact absurd h.2 (Int.not_lt.2 h2))] at hpn
    repeat' first|exact gE|refine gS Zao Zaz [] ?_|refine gO Zao Zaz [] ?_ ?_|refine gC ?_ ?_<;>intro hb
    refine back (i+1) [] ?_ (by omega) (by omega)
    first|exact leZ Zaz|refine leA Zaz ?_|refine leB Zaz ?_ ?_
    ·rw [hpn]
    ·rw [hpn]
  have hie:i=o.length:=by omega
  subst hie
  repeat' first|exact gE|refine gS Zao Zaz [] ?_|refine gO Zao Zaz [] ?_ ?_|refine gC ?_ ?_<;>intro hb
  refine back ⟨j+1,(Zd4 ⟨o,p,x,pl,st,ls⟩ ch L o.length).2⟩ [] ?_ ⟨by dsimp only;omega,hfl⟩ (by dsimp only;omega)
  first|exact leZ Zaz|refine leA Zaz ?_|refine leB Zaz ?_ ?_
  rw [hnx]
 have hjk:j=k+1:=by
  rw [hjc] at hb
  have:=of_decide_eq_false hb
  omega
 subst hjk
 have hfin:vIt ⟨o,p,x,pl,st,ls⟩ ch (k+1)=vIt ⟨o,p,x,pl,st,ls⟩ ch k:=Zid hk.2.2
 rw [hfin]
 repeat' first|exact gE|refine gS Zao Zaz [] ?_|refine gO Zao Zaz [] ?_ ?_|refine gC ?_ ?_<;>intro hb
 refine Zab rfl rfl (Zbe (⟨2,.own 1,[(0,some (.ints ch)),(1,some (.avs 3 o.length fun j=>vlA (vIt ⟨o,p,x,pl,st,ls⟩ ch k j)))]⟩) ([(1,7)]) rfl rfl (Zal rfl) ?_)
 simp only [grR,zE,evp,evx,ev1,evLoad,evStore,evBin,evIf,Zac,forall_const,z38,tb,reduceAdd,reduceSub,reduceMul,reduceEqDiff,reduceLeDiff,reduceLT,Nat.reduceBEq,Nat.reduceBNe,↓reduceIte,reduceIte,spVa,compareS,vlA,viZ_men,viZ_ren,viZ_self]
open Go Pl
def btIn (pl:Int) (l:Nat→Vl) (row:List Int) (s:Vl × Int × Bool):Vl × Int × Bool:=row.foldl (fun s w=>if 0 < cmpV pl (l w.toNat) s.1 then (l w.toNat,w,true) else s) s
theorem btIn_next {pl:Int} {l:Nat→Vl} {row:List Int} {s:Vl × Int × Bool} {i:Nat} (h:i < row.length):btIn pl l (row.take (i+1)) s=if 0 < cmpV pl (l (row.getD i 0).toNat) (btIn pl l (row.take i) s).1 then (l (row.getD i 0).toNat,row.getD i 0,true) else btIn pl l (row.take i) s:=by
 unfold btIn
 rw [Zff (d:=0) h,List.foldl_append];rfl
def nowV (h:Im) (ch:List Int) (l:Nat→Vl) (v:Nat):Vl:=if 0≤ch.getD v 0 then l (ch.getD v 0).toNat else h.st
def Zl6 (h:Im) (l:Nat→Vl) (s:List Int × Bool) (v:Nat):List Int × Bool :=
 if h.o.getD v 0≠h.pl then s else (s.1.set v (btIn h.pl l (h.x.getD v []) (nowV h s.1 l v,s.1.getD v 0,s.2)).2.1,(btIn h.pl l (h.x.getD v []) (nowV h s.1 l v,s.1.getD v 0,s.2)).2.2)
def Zg1 (h:Im) (l:Nat→Vl) (ch:List Int) (i:Nat):List Int × Bool:=(List.range i).foldl (Zl6 h l) (ch,false)
theorem Zgy {h:Im} {l:Nat→Vl} {ch:List Int} {i:Nat}:Zg1 h l ch (i+1)=Zl6 h l (Zg1 h l ch i) i:=by
 unfold Zg1
 rw [List.range_succ,List.foldl_append];rfl
theorem bStep_len {h:Im} {l:Nat→Vl} {s:List Int × Bool} {v:Nat}:(Zl6 h l s v).1.length=s.1.length:=by
 unfold Zl6
 split
 ·rfl
 ·exact List.length_set
theorem Zh5 {h:Im} {l:Nat→Vl} {ch:List Int}:∀ {i:Nat},(Zg1 h l ch i).1.length=ch.length
 |0=>rfl
 |i+1=>by rw [Zgy,bStep_len,Zh5]
theorem btIn_ch {pl:Int} {l:Nat→Vl} {P:Vl × Int × Bool→Prop}:∀ {row:List Int} {s:Vl × Int × Bool},P s→(∀ s w,w∈row→P s→0 < cmpV pl (l w.toNat) s.1→P (l w.toNat,w,true))→P (btIn pl l row s):=by
 intro row
 induction row with
 |nil=>intro s h _;exact h
 |cons a row ih =>
  intro s h hP
  unfold btIn
  rw [List.foldl_cons]
  refine ih ?_ fun s w hw=>hP s w (List.mem_cons_of_mem _ hw)
  split
  ·rename_i h2
   exact hP s a List.mem_cons_self h h2
  ·exact h
theorem Zlo {h:Im} {l:Nat→Vl} {ch:List Int} {n:Int} (hr:∀ v w,w∈h.x.getD v []→v < ch.length→w < n):∀ {i:Nat},i≤ch.length→(∀ v,v < ch.length→ch.getD v 0 < n)→∀ v,v < ch.length→(Zg1 h l ch i).1.getD v 0 < n
 |0,_,hc=>hc
 |i+1,hi,hc=>fun v hv=>by
  have ih:=Zlo (l:=l) hr (i:=i) (by omega) hc
  rw [Zgy]
  unfold Zl6
  split
  ·exact ih v hv
  ·dsimp only
   have hl:=@Zh5 h l ch i
   have e:∀ y,((Zg1 h l ch i).1.set i y).getD v 0=if v=i then y else (Zg1 h l ch i).1.getD v 0:=fun y=>by
    simp only [List.getD_eq_getElem?_getD,List.getElem?_set]
    by_cases e:i=v
    ·subst e;simp [hl,hv]
    ·rw [if_neg e,if_neg (fun h=>e h.symm)]
   rw [e]
   split
   ·exact btIn_ch (P:=fun s=>s.2.1 < n) (ih i (by omega)) fun s w hw _ _=>hr i w hw (by omega)
   ·exact ih v hv
theorem btIn_ok {pl:Int} {l:Nat→Vl} {K:Nat} {D:Int} {row:List Int} {s:Vl × Int × Bool} (h:VOK K D s.1) (hl:∀ w,w∈row→VOK K D (l w.toNat)):VOK K D (btIn pl l row s).1 :=
 btIn_ch (P:=fun s=>VOK K D s.1) h fun s w hw _ _=>hl w hw
def Zaj := Hd.mk (And.intro @spVa.eq_1<|And.intro @compareS.eq_1<|@vlA.eq_1)
set_option maxRecDepth 4000 in
set_option maxHeartbeats 4000000 in
theorem better_fg {o p:List Int} {x:List (List Int)} {pl:Int} {st:Vl} {ls:List Bool} {ch:List Int} {l:Nat→Vl} {K:Nat} {D:Int} (H:ImOK ⟨o,p,x,pl,st,ls⟩ K) (hD:0≤D) (hcl:ch.length=o.length) (hc:∀ v,v < o.length→ch.getD v 0 < o.length) (hvo:∀ u,u < o.length→VOK K D (l u)) :
  FG Tryz.prog 38 [.agg (.cons (.roI o) (.cons (.roI p) (.cons (.roII x) (.cons (.int .i64 pl) (.cons (.bool st.e) (.cons (.bool st.n) (.cons (.roI st.m) (.cons (.roB ls) (.cons (.own 1) .nil))))))))),.own 0] [(0,some (.avs 3 o.length fun j=>vlA (l j))),(1,some (.ints ch))] 2
   fun g=>g=⟨2,.bool (Zg1 ⟨o,p,x,pl,st,ls⟩ l ch o.length).2,[(0,some (.avs 3 o.length fun j=>vlA (l j))),(1,some (.ints (Zg1 ⟨o,p,x,pl,st,ls⟩ l ch o.length).1))]⟩:=by
 have hn:o.length≤20000:=H.n
 have hxl:x.length=o.length:=H.xl
 have hlt:=fun i hi=>Zlo (h:=⟨o,p,x,pl,st,ls⟩) (l:=l) (ch:=ch) (n:=o.length) (fun v w hw hv=>by
  obtain ⟨j,hj,rfl⟩:=Zdv hw
  exact ((H.row v (by show v < o.length;omega)).2 j hj).2) (i:=i) hi (fun v hv=>hc v (by omega))
 have hbl:=fun i=>@Zh5 ⟨o,p,x,pl,st,ls⟩ l ch i
 have hbn:=fun i=>@Zgy ⟨o,p,x,pl,st,ls⟩ l ch i
 refine Zc5 htb (fn:=Tryz.f38) (by kernel_rfl) (by kernel_rfl) rfl (Nat.le_of_ble_eq_true rfl) fun hl=>?_
 simp only [lenP,mkL,lim] at hl
 repeat' first|exact gE|refine gS Zao Zaj [] ?_|refine gO Zao Zaj [] ?_ ?_|refine gC ?_ ?_<;>intro hb
 refine Zag (τ:=Nat) (fun i=>i≤o.length) (fun i=>⟨12,[(13,.int .i64 i),(12,.int .i64 o.length),(5,.bool (Zg1 ⟨o,p,x,pl,st,ls⟩ l ch i).2),(1,.own 0),(2,.own 2)],[(0,some (.avs 3 o.length fun j=>vlA (l j))),(1,some (.ints (Zg1 ⟨o,p,x,pl,st,ls⟩ l ch i).1)),(2,some (.box (.agg (.cons (.roI o) (.cons (.roI p) (.cons (.roII x) (.cons (.int .i64 pl) (.cons (.bool st.e) (.cons (.bool st.n) (.cons (.roI st.m) (.cons (.roB ls) (.cons (.own 1) .nil))))))))))))],[]⟩) (fun i=>o.length - i) 0 [] ?_ (Nat.zero_le _) ?_
 ·first|exact leZ Zaj|refine leA Zaj ?_|refine leB Zaj ?_ ?_
  ·exact ⟨by omega,rfl⟩
  ·rfl
 intro i hi
 have hlt1:=hlt i (by omega)
 have hbl1:=hbl i
 have hbn1:=hbn i
 clear hlt hbl hbn
 generalize hsd:Zg1 ⟨o,p,x,pl,st,ls⟩ l ch i=s at *
 repeat' first|exact gE|refine gS Zao Zaj [6,7,16] ?_|refine gO Zao Zaj [6,7,16] ?_ ?_|refine gC ?_ ?_<;>intro hb
 ·have hst:Zl6 ⟨o,p,x,pl,st,ls⟩ l s i=s:=if_pos hb
  rw [hst] at hbn1
  refine back (i+1) [] ?_ (by omega) (by omega)
  first|exact leZ Zaj|refine leA Zaj ?_|refine leB Zaj ?_ ?_
  all_goals rw [hbn1]
 ·have hil:i < o.length:=by omega
  have ho:o.getD i 0=pl:=hb
  have hst:Zl6 ⟨o,p,x,pl,st,ls⟩ l s i=(s.1.set i (btIn pl l (x.getD i []) (nowV ⟨o,p,x,pl,st,ls⟩ s.1 l i,s.1.getD i 0,s.2)).2.1,(btIn pl l (x.getD i []) (nowV ⟨o,p,x,pl,st,ls⟩ s.1 l i,s.1.getD i 0,s.2)).2.2):=if_neg (fun h=>h ho)
  rw [hst] at hbn1
  clear hst hb
  have hci:=hlt1 i (by omega)
  have hnw:0≤s.1.getD i 0→nowV ⟨o,p,x,pl,st,ls⟩ s.1 l i=l (s.1.getD i 0).toNat:=fun h=>if_pos h
  have hnw2:s.1.getD i 0 < 0→nowV ⟨o,p,x,pl,st,ls⟩ s.1 l i=st:=fun h=>if_neg (by show ¬ 0≤s.1.getD i 0;omega)
  have hwok:VOK K D (nowV ⟨o,p,x,pl,st,ls⟩ s.1 l i):=by
   by_cases h:0≤s.1.getD i 0
   ·rw [hnw h];exact hvo _ (by omega)
   ·rw [hnw2 (by omega)];exact Zc8 H.st hD
  generalize nowV ⟨o,p,x,pl,st,ls⟩ s.1 l i=now at *
  have hrow:(x.getD i []).length≤64∧∀ j,j < (x.getD i []).length→0≤(x.getD i []).getD j 0∧(x.getD i []).getD j 0 < (o.length:Int):=H.row i hil
  have hsl:s.1.length=ch.length:=hbl1
  have hse:s.1.set i (s.1.getD i 0)=s.1:=by
   refine ext0 List.length_set fun j hj=>?_
   simp only [List.getD_eq_getElem?_getD,List.getElem?_set]
   by_cases e:i=j
   ·subst e
    rw [List.length_set] at hj
    simp [hj]
   ·rw [if_neg e]
  repeat' first|exact gE|refine gS Zao Zaj [8,9,16] ?_|refine gO Zao Zaj [8,9,16] ?_ ?_|refine gC ?_ ?_<;>intro hb
  ·have hnw:=hnw hb
   repeat' first|exact gE|refine gS Zao Zaj [9] ?_|refine gO Zao Zaj [9] ?_ ?_|refine gC ?_ ?_<;>intro hb
   refine Zfm ⟨50,[(7,.own 26),(6,.int .i64 i),(13,.int .i64 i),(12,.int .i64 o.length),(5,.bool s.2),(1,.own 0),(2,.own 2)],[(0,some (.avs 3 o.length fun j=>vlA (l j))),(1,some (.ints s.1)),(2,some (.box (.agg (.cons (.roI o) (.cons (.roI p) (.cons (.roII x) (.cons (.int .i64 pl) (.cons (.bool st.e) (.cons (.bool st.n) (.cons (.roI st.m) (.cons (.roB ls) (.cons (.own 1) .nil)))))))))))),(26,some (.box (vlA now)))],[]⟩ [] ?_ ?_
   ·first|exact leZ Zaj|refine leA Zaj ?_|refine leB Zaj ?_ ?_
    rw [hnw]
    exact ⟨rfl,rfl,rfl⟩
   clear hlt1
   repeat' first|exact gE|refine gS Zao Zaj [10] ?_|refine gO Zao Zaj [10] ?_ ?_|refine gC ?_ ?_<;>intro hb
   generalize x.getD i []=rw at *
   refine Zag (τ:=Nat) (fun j=>j≤rw.length) (fun j=>⟨50,[(48,.int .i64 j),(47,.int .i64 rw.length),(46,.roI rw),(7,.own 26),(6,.int .i64 i),(13,.int .i64 i),(12,.int .i64 o.length),(5,.bool (btIn pl l (rw.take j) (now,s.1.getD i 0,s.2)).2.2),(1,.own 0),(2,.own 2)],[(0,some (.avs 3 o.length fun j=>vlA (l j))),(1,some (.ints (s.1.set i (btIn pl l (rw.take j) (now,s.1.getD i 0,s.2)).2.1))),(2,some (.box (.agg (.cons (.roI o) (.cons (.roI p) (.cons (.roII x) (.cons (.int .i64 pl) (.cons (.bool st.e) (.cons (.bool st.n) (.cons (.roI st.m) (.cons (.roB ls) (.cons (.own 1) .nil)))))))))))),(26,some (.box (vlA (btIn pl l (rw.take j) (now,s.1.getD i 0,s.2)).1)))],[]⟩) (fun j=>rw.length - j) 0 [] ?_ (Nat.zero_le _) ?_
   ·first|exact leZ Zaj|refine leA Zaj ?_|refine leB Zaj ?_ ?_
    ·rfl
    ·exact ⟨hse.symm,rfl,rfl,rfl⟩
   intro j hj
   have hbj:=@btIn_next pl l rw (now,s.1.getD i 0,s.2) j
   have hrj:=hrow.2 j
   have hok:VOK K D (btIn pl l (rw.take j) (now,s.1.getD i 0,s.2)).1:=btIn_ok hwok fun w hw=>by
    obtain ⟨t,ht,rfl⟩:=Zdv (List.mem_of_mem_take hw)
    have:=hrow.2 t ht
    exact hvo _ (by omega)
   repeat' first|exact gE|refine gS Zao Zaj [12,15,15] ?_|refine gO Zao Zaj [12,15,15] ?_ ?_|refine gC ?_ ?_<;>intro hb
   ·have hjl:j < rw.length:=by omega
    obtain ⟨c1,c2⟩:=hrj hjl
    have hbj:=hbj hjl
    have hvw:=hvo (rw.getD j 0).toNat (by omega)
    generalize btIn pl l (rw.take j) (now,s.1.getD i 0,s.2)=r at *
    generalize rw.getD j 0=w at *
    repeat' first|exact gE|refine gS Zao Zaj [13,14,15] ?_|refine gO Zao Zaj [13,14,15] ?_ ?_|refine gC ?_ ?_<;>intro hb
    ·refine Ob.mk ⟨⟨⟨by omega,by omega⟩,by omega⟩,hvw.1,fun h1 h2=>?_⟩
     rw [(hvw.2 h1).1,(hok.2 h2).1]
     exact Nat.le_refl _
    ·rw [if_pos hb] at hbj
     repeat' first|exact gE|refine gS Zao Zaj [] ?_|refine gO Zao Zaj [] ?_ ?_|refine gC ?_ ?_<;>intro hb
     refine back (j+1) [] ?_ (by omega) (by omega)
     first|exact leZ Zaj|refine leA Zaj ?_|refine leB Zaj ?_ ?_
     all_goals rw [hbj]
     exact ⟨by rw [List.set_set],rfl,rfl,rfl⟩
    ·rw [if_neg (Int.not_lt.2 hb)] at hbj
     repeat' first|exact gE|refine gS Zao Zaj [] ?_|refine gO Zao Zaj [] ?_ ?_|refine gC ?_ ?_<;>intro hb
     refine back (j+1) [] ?_ (by omega) (by omega)
     first|exact leZ Zaj|refine leA Zaj ?_|refine leB Zaj ?_ ?_
     all_goals rw [hbj]
     exact ⟨rfl,rfl,rfl,rfl⟩
   have hje:j=rw.length:=by omega
   subst hje
   rw [List.take_length]
   repeat' first|exact gE|refine gS Zao Zaj [] ?_|refine gO Zao Zaj [] ?_ ?_|refine gC ?_ ?_<;>intro hb
   refine back (i+1) [] ?_ (by omega) (by omega)
   first|exact leZ Zaj|refine leA Zaj ?_|refine leB Zaj ?_ ?_
   all_goals rw [hbn1]
  ·have hnw2:=hnw2 (by omega)
   refine Zfm ⟨50,[(7,.own 26),(6,.int .i64 i),(13,.int .i64 i),(12,.int .i64 o.length),(5,.bool s.2),(1,.own 0),(2,.own 2)],[(0,some (.avs 3 o.length fun j=>vlA (l j))),(1,some (.ints s.1)),(2,some (.box (.agg (.cons (.roI o) (.cons (.roI p) (.cons (.roII x) (.cons (.int .i64 pl) (.cons (.bool st.e) (.cons (.bool st.n) (.cons (.roI st.m) (.cons (.roB ls) (.cons (.own 1) .nil)))))))))))),(26,some (.box (vlA now)))],[]⟩ [] ?_ ?_
   ·first|exact leZ Zaj|refine leA Zaj ?_|refine leB Zaj ?_ ?_
    rw [hnw2]
    exact ⟨rfl,rfl,rfl⟩
   clear hlt1
   repeat' first|exact gE|refine gS Zao Zaj [10] ?_|refine gO Zao Zaj [10] ?_ ?_|refine gC ?_ ?_<;>intro hb
   generalize x.getD i []=rw at *
   refine Zag (τ:=Nat) (fun j=>j≤rw.length) (fun j=>⟨50,[(48,.int .i64 j),(47,.int .i64 rw.length),(46,.roI rw),(7,.own 26),(6,.int .i64 i),(13,.int .i64 i),(12,.int .i64 o.length),(5,.bool (btIn pl l (rw.take j) (now,s.1.getD i 0,s.2)).2.2),(1,.own 0),(2,.own 2)],[(0,some (.avs 3 o.length fun j=>vlA (l j))),(1,some (.ints (s.1.set i (btIn pl l (rw.take j) (now,s.1.getD i 0,s.2)).2.1))),(2,some (.box (.agg (.cons (.roI o) (.cons (.roI p) (.cons (.roII x) (.cons (.int .i64 pl) (.cons (.bool st.e) (.cons (.bool st.n) (.cons (.roI st.m) (.cons (.roB ls) (.cons (.own 1) .nil)))))))))))),(26,some (.box (vlA (btIn pl l (rw.take j) (now,s.1.getD i 0,s.2)).1)))],[]⟩) (fun j=>rw.length - j) 0 [] ?_ (Nat.zero_le _) ?_
   ·first|exact leZ Zaj|refine leA Zaj ?_|refine leB Zaj ?_ ?_
    ·rfl
    ·exact ⟨hse.symm,rfl,rfl,rfl⟩
   intro j hj
   have hbj:=@btIn_next pl l rw (now,s.1.getD i 0,s.2) j
   have hrj:=hrow.2 j
   have hok:VOK K D (btIn pl l (rw.take j) (now,s.1.getD i 0,s.2)).1:=btIn_ok hwok fun w hw=>by
    obtain ⟨t,ht,rfl⟩:=Zdv (List.mem_of_mem_take hw)
    have:=hrow.2 t ht
    exact hvo _ (by omega)
   repeat' first|exact gE|refine gS Zao Zaj [12,15,15] ?_|refine gO Zao Zaj [12,15,15] ?_ ?_|refine gC ?_ ?_<;>intro hb
   ·have hjl:j < rw.length:=by omega
    obtain ⟨c1,c2⟩:=hrj hjl
    have hbj:=hbj hjl
    have hvw:=hvo (rw.getD j 0).toNat (by omega)
    generalize btIn pl l (rw.take j) (now,s.1.getD i 0,s.2)=r at *
    generalize rw.getD j 0=w at *
    repeat' first|exact gE|refine gS Zao Zaj [13,14,15] ?_|refine gO Zao Zaj [13,14,15] ?_ ?_|refine gC ?_ ?_<;>intro hb
    ·refine Ob.mk ⟨⟨⟨by omega,by omega⟩,by omega⟩,hvw.1,fun h1 h2=>?_⟩
     rw [(hvw.2 h1).1,(hok.2 h2).1]
     exact Nat.le_refl _
    ·rw [if_pos hb] at hbj
     repeat' first|exact gE|refine gS Zao Zaj [] ?_|refine gO Zao Zaj [] ?_ ?_|refine gC ?_ ?_<;>intro hb
     refine back (j+1) [] ?_ (by omega) (by omega)
     first|exact leZ Zaj|refine leA Zaj ?_|refine leB Zaj ?_ ?_
     all_goals rw [hbj]
     exact ⟨by rw [List.set_set],rfl,rfl,rfl⟩
    ·rw [if_neg (Int.not_lt.2 hb)] at hbj
     repeat' first|exact gE|refine gS Zao Zaj [] ?_|refine gO Zao Zaj [] ?_ ?_|refine gC ?_ ?_<;>intro hb
     refine back (j+1) [] ?_ (by omega) (by omega)
     first|exact leZ Zaj|refine leA Zaj ?_|refine leB Zaj ?_ ?_
     all_goals rw [hbj]
     exact ⟨rfl,rfl,rfl,rfl⟩
   have hje:j=rw.length:=by omega
   subst hje
   rw [List.take_length]
   repeat' first|exact gE|refine gS Zao Zaj [] ?_|refine gO Zao Zaj [] ?_ ?_|refine gC ?_ ?_<;>intro hb
   refine back (i+1) [] ?_ (by omega) (by omega)
   first|exact leZ Zaj|refine leA Zaj ?_|refine leB Zaj ?_ ?_
   all_goals rw [hbn1]
 have hie:i=o.length:=by omega
 subst hie
 rw [hsd]
 repeat' first|exact gE|refine gS Zao Zaj [] ?_|refine gO Zao Zaj [] ?_ ?_|refine gC ?_ ?_<;>intro hb
 refine Zab rfl rfl (Zbe (⟨2,.bool s.2,[(0,some (.avs 3 o.length fun j=>vlA (l j))),(1,some (.ints s.1))]⟩) ([]) rfl rfl (Zal rfl) ?_)
 simp only [grR,zE,evp,evx,ev1,evLoad,evStore,evBin,evIf,Zac,forall_const,z38,tb,reduceAdd,reduceSub,reduceMul,reduceEqDiff,reduceLeDiff,reduceLT,Nat.reduceBEq,Nat.reduceBNe,↓reduceIte,reduceIte,spVa,compareS,vlA]
open Go Pl
def nxtS : Spec
 |[.agg (.cons (.roI o) (.cons (.roI p) (.cons (.roII x) (.cons (.int .i64 pl) (.cons (.roI c) .nil))))),.int .i64 v]=>some ⟨0≤v∧v < o.length∧x.length=o.length∧(o.getD v.toNat 0=pl→v < c.length),.roI (nxF ⟨o,p,x⟩ c pl v.toNat),none⟩
 |_=>none
set_option maxRecDepth 4000 in
set_option maxHeartbeats 4000000 in
theorem next_ok : Zcn Tryz.prog 81 nxtS:=by
 refine Zaw htb (fn:=Tryz.f81) (by kernel_rfl) (by kernel_rfl) rfl (fun args r hS=>?_) (fun args r hS hob hl=>?_)
 ·unfold nxtS at hS;split at hS<;>first|(cases hS;done)|(cases hS;exact Nat.le_of_ble_eq_true rfl)
 unfold nxtS at hS
 split at hS
 case h_2=>cases hS
 rename_i o p x pl c v
 simp only [Option.some.injEq] at hS
 subst hS
 simp only [lenP,mkL,lim] at hl
 dsimp only at hob
 obtain ⟨h0,h1,h2,h3⟩:=hob
 obtain ⟨u,rfl⟩:=Int.eq_ofNat_of_zero_le h0
 rw [Int.toNat_natCast] at h3 ⊢
 have e:nxF ⟨o,p,x⟩ c pl u=if o.getD u 0=pl then [c.getD u 0] else x.getD u []:=rfl
 repeat' first|exact gE|refine gS noSp x0 [2,3] ?_|refine gO noSp x0 [2,3] ?_ ?_|refine gC ?_ ?_<;>intro hb
 ·have h3:=h3 hb
  repeat' first|exact gE|refine gS noSp x0 [] ?_|refine gO noSp x0 [] ?_ ?_|refine gC ?_ ?_<;>intro hb
  refine Zab rfl rfl (Zae rfl ?_ rfl)
  rw [e,if_pos hb]
  rfl
 ·repeat' first|exact gE|refine gS noSp x0 [] ?_|refine gO noSp x0 [] ?_ ?_|refine gC ?_ ?_<;>intro hb
  refine Zab rfl rfl (Zae rfl ?_ rfl)
  rw [e,if_neg hb]
  rfl
open Go Pl
def nxN (o:List Int) (x:List (List Int)) (pl:Int) (c:List Int) (v:Nat):List Nat:=(nxF ⟨o,[],x⟩ c pl v).map Int.toNat
structure RcS where
 L:List (Nat × Nat)
 i:Nat
 es:List (Int × Int × Nat)
 clk:Nat
structure RdS where
 L:List (Nat × Nat)
 j:Nat
 es:List (Int × Int × Nat)
 clk:Nat
noncomputable def spRc : Nat→Option Spec
 |81=>some nxtS
 |_=>none
theorem Za9 : SpOK Tryz.prog spRc:=by
 intro f S h
 unfold spRc at h
 split at h
 ·cases h;exact next_ok
 ·cases h
def Zap := Hd.mk (And.intro @spRc.eq_1<|@nxtS.eq_1)
set_option maxRecDepth 4000 in
set_option maxHeartbeats 4000000 in
theorem reached_fg {o p c:List Int} {x:List (List Int)} {pl:Int} {fr fT:Nat} {X Y:AV} {th:Nat→Bool} (hn:o.length≤20000) (hfr:fr < o.length) (hxl:x.length=o.length) (hcl:∀ v,v < o.length→o.getD v 0=pl→v < c.length)
  (hrow:∀ v,v < o.length→(nxF ⟨o,p,x⟩ c pl v).length≤64∧∀ j,j < (nxF ⟨o,p,x⟩ c pl v).length→0≤(nxF ⟨o,p,x⟩ c pl v).getD j 0∧(nxF ⟨o,p,x⟩ c pl v).getD j 0 < (o.length:Int))
  (hT:∀ w:Nat,w < o.length→FG Tryz.prog fT [.int .i64 w,.rop X,.rop Y] [] 0 (fun g=>g=⟨0,.bool (th w),[]⟩)) :
  FG Tryz.prog 63 [.agg (.cons (.roI o) (.cons (.roI p) (.cons (.roII x) (.cons (.int .i64 pl) (.cons (.roI c) .nil))))),.int .i64 fr,.fn fT (.cons (.rop X) (.cons (.rop Y) .nil))] [] 0 fun g=>∃ (L:List (Nat × Nat)) (es:List (Int × Int × Nat)) (clk:Nat),(RE (nxN o x pl c) (fun w=>th w=true) o.length fr L∧MQ es L)∧g=⟨1,.own 0,[(0,some (.mp es clk))]⟩:=by
 refine Zc5 htb (fn:=Tryz.f63) (by kernel_rfl) (by kernel_rfl) rfl (Nat.le_of_ble_eq_true rfl) fun hl=>?_
 simp only [lenP,mkL,lim] at hl
 repeat' first|exact gE|refine gS Za9 Zap [2] ?_|refine gO Za9 Zap [2] ?_ ?_|refine gC ?_ ?_<;>intro hb
 refine gRa Za9 Zap (fun i=>Nat.beq i 1) ?_ ?_
 ·first|exact oA|skip
 refine Zaf ?_
 repeat' first|exact gE|refine gS Za9 Zap [3] ?_|refine gO Za9 Zap [3] ?_ ?_|refine gC ?_ ?_<;>intro hb
 refine Zag (τ:=RcS) (fun s=>RQ (nxN o x pl c) (fun w=>th w=true) o.length fr s.L s.i 0∧MQ s.es s.L) (fun s=>⟨7,[(8,.own 5),(7,.own 2),(2,.fn fT (.cons (.rop X) (.cons (.rop Y) .nil))),(3,.rop (.agg (.cons (.roI o) (.cons (.roI p) (.cons (.roII x) (.cons (.int .i64 pl) (.cons (.roI c) .nil)))))))],[(5,some (.ints (Za1 ((qF fr s.L).drop s.i)))),(2,some (.mp s.es s.clk))],[]⟩) (fun s=>o.length+1 - s.i) ⟨[],0,[],0⟩ [] ?_ ⟨RQ_first hfr,MQ_nil⟩ ?_
 ·first|exact leZ Zap|refine leA Zap ?_|refine leB Zap ?_ ?_
  rfl
 rintro ⟨L,i,es,clk⟩ ⟨hR,hM⟩
 dsimp only at hR hM ⊢
 have hLn:=Zoh hR
 have hql:=Zf7 (fr:=fr) (L:=L)
 have hcl2:(Za1 ((qF fr L).drop i)).length=L.length+1 - i:=by unfold Za1;rw [List.length_map,List.length_drop,hql]
 repeat' first|exact gE|refine gS Za9 Zap [4,14] ?_|refine gO Za9 Zap [4,14] ?_ ?_|refine gC ?_ ?_<;>intro hb
 ·have hi:i < (qF fr L).length:=by omega
  obtain ⟨u,hu⟩:∃ u,(qF fr L)[i]? = some u:=⟨_,List.getElem?_eq_getElem hi⟩
  have hun:u < o.length:=hR.lt u (List.mem_of_getElem? hu)
  have hg:(Za1 ((qF fr L).drop i)).getD 0 0=(u:Int):=by
   unfold Za1
   rw [List.getD_eq_getElem?_getD,List.getElem?_map,List.getElem?_drop,Nat.add_zero,hu];rfl
  have hdr:List.drop 1 (Za1 ((qF fr L).drop i))=Za1 ((qF fr L).drop (i+1)):=by
   unfold Za1
   rw [←List.map_drop,List.drop_drop]
  have hcu:=hcl u hun
  obtain ⟨hr64,hrb⟩:=hrow u hun
  repeat' first|exact gE|refine gS Za9 Zap [6] ?_|refine gO Za9 Zap [6] ?_ ?_|refine gC ?_ ?_<;>intro hb
  rw [hg,hdr]
  repeat' first|exact gE|refine gS Za9 Zap [7] ?_|refine gO Za9 Zap [7] ?_ ?_|refine gC ?_ ?_<;>intro hb
  have hnx:nxN o x pl c u=(nxF ⟨o,p,x⟩ c pl u).map Int.toNat:=rfl
  have hat:∀ j,j < (nxF ⟨o,p,x⟩ c pl u).length→(nxN o x pl c u)[j]? = some ((nxF ⟨o,p,x⟩ c pl u).getD j 0).toNat:=fun j hj=>by
   rw [hnx,List.getElem?_map,List.getD_eq_getElem?_getD,List.getElem?_eq_getElem hj];rfl
  have hxl2:(nxN o x pl c u).length=(nxF ⟨o,p,x⟩ c pl u).length:=by rw [hnx,List.length_map]
  clear hnx
  generalize nxF ⟨o,p,x⟩ c pl u=rw at *
  refine Zag (τ:=RdS) (fun s=>RQ (nxN o x pl c) (fun w=>th w=true) o.length fr s.L i s.j∧MQ s.es s.L∧(∃ L',s.L=L++L')∧s.j≤rw.length) (fun s=>⟨22,[(29,.int .i64 s.j),(28,.int .i64 rw.length),(27,.roI rw),(8,.own 15),(9,.int .i64 u),(7,.own 2),(2,.fn fT (.cons (.rop X) (.cons (.rop Y) .nil))),(3,.rop (.agg (.cons (.roI o) (.cons (.roI p) (.cons (.roII x) (.cons (.int .i64 pl) (.cons (.roI c) .nil)))))))],[(15,some (.ints (Za1 ((qF fr s.L).drop (i+1))))),(2,some (.mp s.es s.clk))],[]⟩) (fun s=>rw.length - s.j) ⟨L,0,es,clk⟩ [] ?_ ⟨hR,hM,⟨[],by simp⟩,Nat.zero_le _⟩ ?_
  ·first|exact leZ Zap|refine leA Zap ?_|refine leB Zap ?_ ?_
  rintro ⟨L2,j,es2,clk2⟩ ⟨hR2,hM2,⟨L',hLL⟩,hj⟩
  dsimp only at hR2 hM2 hLL hj ⊢
  subst hLL
  have hLn2:=Zoh hR2
  have hu2:(qF fr (L++L'))[i]? = some u:=by
   have:qF fr (L++L')=qF fr L++L'.map Prod.fst:=by simp [qF]
   rw [this,List.getElem?_append_left hi,hu]
  have hlen2:(Za1 ((qF fr (L++L')).drop (i+1))).length≤20001:=by
   unfold Za1
   rw [List.length_map,List.length_drop,Zf7];omega
  repeat' first|exact gE|refine gS Za9 Zap [8,14] ?_|refine gO Za9 Zap [8,14] ?_ ?_|refine gC ?_ ?_<;>intro hb
  ·have hjl:j < rw.length:=by omega
   obtain ⟨b1,b2⟩:=hrb j hjl
   obtain ⟨w,hw⟩:=Int.eq_ofNat_of_zero_le b1
   have hjw:=hat j hjl
   rw [hw] at hjw b2
   rw [Int.toNat_natCast] at hjw
   have hwn:w < o.length:=by omega
   have hT1:=hT w hwn
   have hhas:=hM2.has w
   repeat' first|exact gE|refine gS Za9 Zap [9] ?_|refine gO Za9 Zap [9] ?_ ?_|refine gC ?_ ?_<;>intro hb
   rw [hw]
   repeat' first|exact gE|refine gS Za9 Zap [10] ?_|refine gO Za9 Zap [10] ?_ ?_|refine gC ?_ ?_<;>intro hb
   cases hh:mhas (w:Int) es2 with
   |true =>
    rw [hh] at hhas
    have hin:w∈(L++L').map Prod.fst:=of_decide_eq_true hhas.symm
    have hR3:=RQ_skip hR2 hu2 hjw (.inl hin)
    refine Zfu ?_
    refine Zcz rfl ?_
    dsimp only [noGd]
    refine gTn Za9 Zap ?_ ?_
    ·first|exact oA|skip
    refine Zcz rfl ?_
    dsimp only [noGd]
    refine gTn Za9 Zap ?_ ?_
    ·first|exact oA|skip
    refine Zez rfl rfl rfl rfl rfl ?_
    refine Zez rfl rfl rfl rfl rfl ?_
    refine Zez rfl rfl rfl rfl rfl ?_
    refine Zez rfl rfl rfl rfl rfl ?_
    refine Zcz rfl ?_
    dsimp only [noGd,putE]
    refine gTn Za9 Zap ?_ ?_
    ·first|exact oA|skip
    refine Zg0 ?_
    repeat' first|exact gE|refine gS Za9 Zap [11] ?_|refine gO Za9 Zap [11] ?_ ?_|refine gC ?_ ?_<;>intro hb
    ·refine back ⟨L++L',j+1,es2,clk2⟩ [] ?_ ⟨hR3,hM2,⟨L',rfl⟩,by dsimp only;omega⟩ (by dsimp only;omega)
     first|exact leZ Zap|refine leA Zap ?_|refine leB Zap ?_ ?_
    ·cases hb
   |false =>
    rw [hh] at hhas
    have hni:w ∉ (L++L').map Prod.fst:=of_decide_eq_false hhas.symm
    refine Zfu ?_
    refine Zcz rfl ?_
    dsimp only [noGd]
    refine gTn Za9 Zap ?_ ?_
    ·first|exact oA|skip
    refine Zcz rfl ?_
    dsimp only [noGd]
    refine gTn Za9 Zap ?_ ?_
    ·first|exact oA|skip
    refine Zd1 rfl rfl rfl rfl ?_
    dsimp only [noGd]
    refine gTn Za9 Zap ?_ ?_
    ·first|exact oA|skip
    refine Zd1 rfl rfl rfl rfl ?_
    dsimp only [noGd]
    refine gTn Za9 Zap ?_ ?_
    ·first|exact oA|skip
    refine Zd1 rfl rfl rfl rfl ?_
    dsimp only [noGd]
    refine gCl ([]) (hT1) Zap ?_
    refine Zd1 rfl rfl rfl rfl ?_
    dsimp only [noGd]
    refine gTn Za9 Zap ?_ ?_
    ·first|exact oA|skip
    refine Zcz rfl ?_
    dsimp only [noGd,putE]
    refine gTn Za9 Zap ?_ ?_
    ·first|exact oA|skip
    refine Zg0 ?_
    repeat' first|exact gE|refine gS Za9 Zap [11] ?_|refine gO Za9 Zap [11] ?_ ?_|refine gC ?_ ?_<;>intro hb
    ·have hth:¬ th w=true:=by rw [hb];decide
     have hR3:=RQ_skip hR2 hu2 hjw (.inr hth)
     refine back ⟨L++L',j+1,es2,clk2⟩ [] ?_ ⟨hR3,hM2,⟨L',rfl⟩,by dsimp only;omega⟩ (by dsimp only;omega)
     first|exact leZ Zap|refine leA Zap ?_|refine leB Zap ?_ ?_
    ·have hth:th w=true:=hb
     have hR3:=RQ_add hR2 hu2 hjw hwn hni hth
     have hM3:=MQ_put (u:=u) (c:=clk2) hM2 hni
     have hq3:Za1 ((qF fr (L++L')).drop (i+1))++[(w:Int)]=Za1 ((qF fr (L++L'++[(w,u)])).drop (i+1)):=by
      rw [Zd7,List.drop_append_of_le_length (by simp [qF];simp [qF] at hi;omega)]
      unfold Za1
      rw [List.map_append];rfl
     repeat' first|exact gE|refine gS Za9 Zap [12] ?_|refine gO Za9 Zap [12] ?_ ?_|refine gC ?_ ?_<;>intro hb
     repeat' first|exact gE|refine gS Za9 Zap [] ?_|refine gO Za9 Zap [] ?_ ?_|refine gC ?_ ?_<;>intro hb
     refine back ⟨L++L'++[(w,u)],j+1,mput w u clk2 es2,mclk w clk2 es2⟩ [(15,47)] ?_ ⟨hR3,hM3,⟨L'++[(w,u)],by simp⟩,by dsimp only;omega⟩ (by dsimp only;omega)
     first|exact leZ Zap|refine leA Zap ?_|refine leB Zap ?_ ?_
     exact hq3
  have hje:j=rw.length:=by omega
  subst hje
  have hR4:=RQ_next hR2 hu2 (by rw [hxl2];exact Nat.le_refl _)
  have hLn3:=Zoh hR4
  have hi3:=hR4.hi
  rw [Zf7] at hi3
  refine back ⟨L++L',i+1,es2,clk2⟩ [(5,15)] ?_ ⟨hR4,hM2⟩ (by dsimp only;omega)
  first|exact leZ Zap|refine leA Zap ?_|refine leB Zap ?_ ?_
 have hie:i=(qF fr L).length:=by have:=hR.hi;omega
 subst hie
 repeat' first|exact gE|refine gS Za9 Zap [] ?_|refine gO Za9 Zap [] ?_ ?_|refine gC ?_ ?_<;>intro hb
 refine Zab rfl rfl (Zbe ⟨1,.own 0,[(0,some (.mp es clk))]⟩ [(0,2)] ⟨L,es,clk,⟨hR,hM⟩,rfl⟩ rfl (Zal rfl) ?_)
 simp only [grR,zE,evp,evx,ev1,evLoad,evStore,evBin,evIf,Zac,forall_const,z38,tb,reduceAdd,reduceSub,reduceMul,reduceEqDiff,reduceLeDiff,reduceLT,Nat.reduceBEq,Nat.reduceBNe,↓reduceIte,reduceIte,spRc,nxtS]
section
open Pl
def ctT (F:List Bool):Nat:=F.countP id
theorem ctT_le {F:List Bool}:ctT F≤F.length:=List.countP_le_length
theorem getT {F:List Bool} {v u:Nat} {b:Bool}:(F.set v b).getD u false=if u=v∧v < F.length then b else F.getD u false:=by
 simp only [List.getD_eq_getElem?_getD,List.getElem?_set]
 by_cases h:v=u
 ·subst h
  by_cases h2:v < F.length
  ·simp [h2]
  ·simp [h2]
 ·rw [if_neg h,if_neg (fun h2=>h h2.1.symm)]
variable {E:Nat→Nat→Prop} {n b w:Nat} {O0 O:List Bool} {Q:List Nat}
end
section
open Pl
theorem ctT_up : ∀ {F:List Bool} {v:Nat},v < F.length→F.getD v false=false→ctT (F.set v true)=ctT F+1
 |[],v,h,_=>by cases h
 |b :: F,0,_,h=>by
  have h:b=false:=h
  subst h
  simp [ctT]
 |b :: F,v+1,hl,h=>by
  have h:F.getD v false=false:=h
  have:=ctT_up (by simpa using hl) h
  simp only [ctT,List.set_cons_succ,List.countP_cons] at this ⊢
  omega
def alR (o:List Int) (x:List (List Int)) (pl:Int) (v:Nat):List Int:=if o.getD v 0=pl then [] else (x.getD v []).filter fun w=>decide (o.getD w.toNat 0≠pl)
def alY (o:List Int) (x:List (List Int)) (pl:Int):List (List Int):=(List.range o.length).map (alR o x pl)
def alE (o:List Int) (x:List (List Int)) (pl:Int) (a b:Nat):Prop:=b∈(alR o x pl a).map Int.toNat
def alBs (o p:List Int) (x:List (List Int)) (pl:Int) (v:Nat):Prop:=(o.getD v 0≠pl∧p.getD v 0 % 2≠pl)∧Cyc (alE o x pl) (fun v=>p.getD v 0) v
open Classical in
noncomputable def alLs (o p:List Int) (x:List (List Int)) (pl:Int):List Bool:=(List.range o.length).map fun v=>decide (∃ u,u < o.length∧alBs o p x pl u∧Rch (alE o x pl) v u)
open Classical in
noncomputable def alO (o p:List Int) (x:List (List Int)) (pl:Int):List Bool:=(List.range o.length).map fun v=>decide (alBs o p x pl v)
theorem Zm2 {o:List Int} {x:List (List Int)} {pl:Int}:(alY o x pl).length=o.length:=by simp [alY]
theorem Zls {o p:List Int} {x:List (List Int)} {pl:Int}:(alLs o p x pl).length=o.length:=by simp [alLs]
theorem Zm4 {o p:List Int} {x:List (List Int)} {pl:Int}:(alO o p x pl).length=o.length:=by simp [alO]
theorem Zm3 {o:List Int} {x:List (List Int)} {pl:Int} {v:Nat} (hv:v < o.length):(alY o x pl).getD v []=alR o x pl v:=by simp [alY,List.getD_eq_getElem?_getD,hv]
theorem alO_iff {o p:List Int} {x:List (List Int)} {pl:Int} {v:Nat} (hv:v < o.length):(alO o p x pl).getD v false=true↔alBs o p x pl v:=by
 simp [alO,List.getD_eq_getElem?_getD,hv]
theorem Zh8 {o p:List Int} {x:List (List Int)} {pl:Int} {v:Nat} (hv:v < o.length):(alLs o p x pl).getD v false=true↔∃ u,u < o.length∧alBs o p x pl u∧Rch (alE o x pl) v u:=by
 simp [alLs,List.getD_eq_getElem?_getD,hv]
theorem alR_len {o:List Int} {x:List (List Int)} {pl:Int} {v:Nat}:(alR o x pl v).length≤(x.getD v []).length:=by
 unfold alR
 split
 ·exact Nat.zero_le _
 ·exact List.length_filter_le ..
theorem alR_mem {o:List Int} {x:List (List Int)} {pl:Int} {v:Nat} {w:Int}:w∈alR o x pl v↔o.getD v 0≠pl∧w∈x.getD v []∧o.getD w.toNat 0≠pl:=by
 unfold alR
 split
 ·rename_i h
  constructor
  ·intro h2;cases h2
  ·rintro ⟨h2,_⟩;exact absurd h h2
 ·rename_i h
  rw [List.mem_filter,decide_eq_true_eq]
  exact ⟨fun h2=>⟨h,h2⟩,fun h2=>h2.2⟩
structure AlI (E:Nat→Nat→Prop) (n:Nat) (Bs:Nat→Prop) (O:List Bool):Prop where
 len:O.length=n
 base:∀ v,v < n→Bs v→O.getD v false=true
 snd:∀ v,O.getD v false=true→∃ u,u < n∧Bs u∧Rch E v u
variable {E:Nat→Nat→Prop} {n:Nat} {Bs:Nat→Prop} {O O0:List Bool}
theorem AlI_set (h:AlI E n Bs O) {v w:Nat} (he:E v w) (hw:O.getD w false=true):AlI E n Bs (O.set v true):=by
 refine ⟨by rw [List.length_set];exact h.len,fun u hu hb=>?_,fun u hu=>?_⟩
 ·rw [getT]
  split
  ·rfl
  ·exact h.base u hu hb
 ·rw [getT] at hu
  split at hu
  ·rename_i e
   obtain ⟨z,h1,h2,h3⟩:=h.snd w hw
   rw [e.1]
   exact ⟨z,h1,h2,(Rch.one he).trans h3⟩
  ·exact h.snd u hu
theorem AlI_done {o p:List Int} {x:List (List Int)} {pl:Int} (h:AlI (alE o x pl) o.length (alBs o p x pl) O) (hc:∀ v w,v < o.length→alE o x pl v w→O.getD w false=true→O.getD v false=true) (hE:∀ v w,v < o.length→alE o x pl v w→w < o.length):O=alLs o p x pl:=by
 refine List.ext_getElem (by rw [h.len,Zls]) fun v h1 h2=>?_
 rw [h.len] at h1
 have e1:O[v]'(by rw [h.len];exact h1)=O.getD v false:=by simp [List.getD_eq_getElem?_getD,h.len,h1]
 have e2:(alLs o p x pl)[v]'h2=(alLs o p x pl).getD v false:=by simp only [List.getD_eq_getElem?_getD,List.getElem?_eq_getElem h2,Option.getD_some]
 rw [e1,e2]
 refine Bool.eq_iff_iff.2 ?_
 rw [Zh8 h1]
 constructor
 ·exact h.snd v
 ·rintro ⟨u,hu,hb,hr⟩
  have hlt:∀ z,Rch (alE o x pl) v z→z < o.length:=fun z hz=>Rch.closed (C:=fun a=>a < o.length) (fun a b ha he=>hE a b ha he) hz h1
  have:∀ z,Rch (alE o x pl) v z→O.getD z false=true→O.getD v false=true:=by
   intro z hz
   induction hz with
   |refl=>exact fun h=>h
   |step hz' he ih=>exact fun ho=>ih (hc _ _ (hlt _ hz') he ho)
  exact this u hr (h.base u hu hb)
structure AlP (D:Nat→Nat→Prop) (O0 O:List Bool) (c:Bool):Prop where
 a:c=false→O=O0∧∀ v w,D v w→O.getD w false=true→O.getD v false=true
 b:c=true→ctT O0 < ctT O
def alD (y:List (List Int)) (i j:Nat) (v w:Nat):Prop:=(v < i∧(w:Int)∈y.getD v [])∨(v=i∧(w:Int)∈(y.getD i []).take j)
theorem AlP_first {y:List (List Int)}:AlP (alD y 0 0) O0 O0 false:=by
 refine ⟨fun _=>⟨rfl,?_⟩,fun h=>by cases h⟩
 rintro v w (⟨h,_⟩|⟨_,h⟩)
 ·omega
 ·rw [List.take_zero] at h;cases h
theorem AlP_skip {y:List (List Int)} {c:Bool} {i j:Nat} (h:AlP (alD y i j) O0 O c) (hj:j < (y.getD i []).length) (hw:O.getD ((y.getD i []).getD j 0).toNat false=true→O.getD i false=true):AlP (alD y i (j+1)) O0 O c:=by
 refine ⟨fun hc=>⟨(h.a hc).1,?_⟩,h.b⟩
 rintro v w (h1|⟨rfl,h1⟩) hO
 ·exact (h.a hc).2 v w (.inl h1) hO
 ·rw [Zff (d:=0) hj,List.mem_append] at h1
  rcases h1 with h1|h1
  ·exact (h.a hc).2 _ w (.inr ⟨rfl,h1⟩) hO
  ·rw [List.mem_singleton] at h1
   refine hw ?_
   rw [←h1,Int.toNat_natCast];exact hO
theorem AlP_set {D D':Nat→Nat→Prop} {c:Bool} {v:Nat} (h:AlP D O0 O c) (hv:v < O.length) (hf:O.getD v false=false):AlP D' O0 (O.set v true) true:=by
 refine ⟨(fun h=>by cases h),fun _=>?_⟩
 rw [ctT_up hv hf]
 cases c with
 |true=>exact Nat.lt_succ_of_lt (h.b rfl)
 |false=>rw [(h.a rfl).1];exact Nat.lt_succ_self _
theorem AlP_next {y:List (List Int)} {c:Bool} {i j:Nat} (h:AlP (alD y i j) O0 O c) (hj:(y.getD i []).length≤j):AlP (alD y (i+1) 0) O0 O c:=by
 refine ⟨fun hc=>⟨(h.a hc).1,?_⟩,h.b⟩
 rintro v w (⟨h1,h2⟩|⟨_,h2⟩) hO
 ·rcases Nat.lt_succ_iff_lt_or_eq.1 h1 with h3|rfl
  ·exact (h.a hc).2 v w (.inl ⟨h3,h2⟩) hO
  ·exact (h.a hc).2 _ w (.inr ⟨rfl,by rw [List.take_of_length_le hj];exact h2⟩) hO
 ·rw [List.take_zero] at h2;cases h2
end
open Go Pl
set_option maxRecDepth 4000 in
set_option maxHeartbeats 4000000 in
theorem alone1_fg {o p:List Int} {x:List (List Int)} {q:Int} {w:Nat} (hw:w < p.length):FG Tryz.prog 64 [.int .i64 w,.rop (.agg (.cons (.roI o) (.cons (.roI p) (.cons (.roII x) .nil)))),.rop (.int .i64 q)] [] 0 fun g=>g=⟨0,.bool (decide (p.getD w 0≤q)),[]⟩:=by
 refine Zc5 htb (fn:=Tryz.f64) (by kernel_rfl) (by kernel_rfl) rfl (Nat.le_of_ble_eq_true rfl) fun hl=>?_
 simp only [lenP,mkL,lim] at hl
 repeat' first|exact gE|refine gS noSp x0 [] ?_|refine gO noSp x0 [] ?_ ?_|refine gC ?_ ?_<;>intro hb
 refine Zab rfl rfl (Zbe (⟨0,.bool (decide (p.getD w 0≤q)),[]⟩) ([]) rfl rfl (Zal rfl) ?_)
 simp only [grR,zE,evp,evx,ev1,evLoad,evStore,evBin,evIf,Zac,forall_const,z38,tb,reduceAdd,reduceSub,reduceMul,reduceEqDiff,reduceLeDiff,reduceLT,Nat.reduceBEq,Nat.reduceBNe,↓reduceIte,reduceIte]
structure GmOK (o p:List Int) (x:List (List Int)):Prop where
 n:o.length≤20000
 plen:p.length=o.length
 p0:∀ v,v < o.length→0≤p.getD v 0
 o0:∀ v,v < o.length→0≤o.getD v 0
 xl:x.length=o.length
 row:∀ v,v < o.length→(x.getD v []).length≤64∧∀ j,j < (x.getD v []).length→0≤(x.getD v []).getD j 0∧(x.getD v []).getD j 0 < (o.length:Int)
def alI (o:List Int) (x:List (List Int)) (pl:Int) (i:Nat) (r:List Int):List (List Int):=(List.range o.length).map fun t=>if t < i then alR o x pl t else if t=i then r else []
def alT (o:List Int) (x:List (List Int)) (pl:Int) (i j:Nat):List Int:=((x.getD i []).take j).filter fun w=>decide (o.getD w.toNat 0≠pl)
theorem alI_len {o:List Int} {x:List (List Int)} {pl:Int} {i:Nat} {r:List Int}:(alI o x pl i r).length=o.length:=by simp [alI]
theorem alI_at {o:List Int} {x:List (List Int)} {pl:Int} {i:Nat} {r:List Int} (hi:i < o.length):(alI o x pl i r).getD i []=r:=by simp [alI,List.getD_eq_getElem?_getD,hi]
theorem alI_first {o:List Int} {x:List (List Int)} {pl:Int}:List.replicate o.length []=alI o x pl 0 []:=by
 refine List.ext_getElem (by simp [alI]) fun j h1 h2=>?_
 simp [alI]
theorem alI_last {o:List Int} {x:List (List Int)} {pl:Int} {r:List Int}:alI o x pl o.length r=alY o x pl:=by
 unfold alI alY
 exact List.map_congr_left fun t ht=>if_pos (List.mem_range.1 ht)
theorem alI_next {o:List Int} {x:List (List Int)} {pl:Int} {i:Nat} {r:List Int} (h:r=alR o x pl i):alI o x pl i r=alI o x pl (i+1) []:=by
 unfold alI
 refine List.map_congr_left fun t ht=>?_
 by_cases h1:t < i
 ·rw [if_pos h1,if_pos (by omega)]
 ·rw [if_neg h1]
  by_cases h2:t=i
  ·subst h2;rw [if_pos rfl,if_pos (by omega),h]
  ·rw [if_neg h2,if_neg (by omega)];split<;>rfl
theorem alI_set {o:List Int} {x:List (List Int)} {pl:Int} {i:Nat} {r r':List Int}:(alI o x pl i r).set i r'=alI o x pl i r':=by
 refine Zmr (fun _=>?_) fun s hs=>?_
 ·rw [if_neg (Nat.lt_irrefl _),if_pos rfl]
 ·by_cases h:s < i
  ·rw [if_pos h,if_pos h]
  ·rw [if_neg h,if_neg h,if_neg hs,if_neg hs]
theorem alT_next {o:List Int} {x:List (List Int)} {pl:Int} {i j:Nat} (hj:j < (x.getD i []).length):alT o x pl i (j+1)=if o.getD ((x.getD i []).getD j 0).toNat 0=pl then alT o x pl i j else alT o x pl i j++[(x.getD i []).getD j 0]:=by
 unfold alT
 rw [Zff (d:=0) hj,List.filter_append]
 split
 ·rename_i h
  rw [List.filter_cons_of_neg (by simp only [h,decide_not,decide_true];decide),List.filter_nil,List.append_nil]
 ·rename_i h
  rw [List.filter_cons_of_pos (by simp only [ne_eq,h,not_false_eq_true,decide_true]),List.filter_nil]
theorem alT_len {o:List Int} {x:List (List Int)} {pl:Int} {i j:Nat}:(alT o x pl i j).length≤(x.getD i []).length:=by
 unfold alT
 refine Nat.le_trans (List.length_filter_le ..) ?_
 rw [List.length_take];omega
theorem alT_all {o:List Int} {x:List (List Int)} {pl:Int} {i:Nat} (ho:o.getD i 0≠pl):alT o x pl i (x.getD i []).length=alR o x pl i:=by
 unfold alT alR
 rw [if_neg ho,List.take_length]
structure AlS where
 O:List Bool
 c:Bool
structure AlJ where
 i:Nat
 O:List Bool
 c:Bool
theorem nxF_al {o p:List Int} {x:List (List Int)} {pl:Int} (ho:∀ v,v < o.length→0≤o.getD v 0) (hx:x.length=o.length) (v:Nat):nxF ⟨o,p,alY o x pl⟩ [] (-1) v=alR o x pl v:=by
 unfold nxF
 dsimp only
 rw [if_neg (fun h=>?_)]
 ·rcases Nat.lt_or_ge v o.length with h|h
  ·exact Zm3 h
  ·have h1:(alY o x pl).getD v []=[]:=by rw [List.getD_eq_getElem?_getD,List.getElem?_eq_none (by rw [Zm2];exact h)];rfl
   have h2:x.getD v []=[]:=by rw [List.getD_eq_getElem?_getD,List.getElem?_eq_none (by omega)];rfl
   rw [h1]
   unfold alR
   rw [h2]
   split<;>rfl
 ·rcases Nat.lt_or_ge v o.length with h2|h2
  ·have:=ho v h2;omega
  ·rw [List.getD_eq_getElem?_getD,List.getElem?_eq_none h2] at h
   exact absurd h (by decide)
noncomputable def alS : Spec
 |[.agg (.cons (.roI o) (.cons (.roI p) (.cons (.roII x) .nil))),.int .i64 pl]=>some ⟨GmOK o p x,.roB (alLs o p x pl),none⟩
 |_=>none
set_option maxRecDepth 4000 in
set_option maxHeartbeats 4000000 in
theorem alone_ok : Zcn Tryz.prog 36 alS:=by
 refine Zaw htb (fn:=Tryz.f36) (by kernel_rfl) (by kernel_rfl) rfl (fun args r hS=>?_) (fun args r hS hob hl=>?_)
 ·unfold alS at hS;split at hS<;>first|(cases hS;done)|(cases hS;exact Nat.le_of_ble_eq_true rfl)
 unfold alS at hS
 split at hS
 case h_2=>cases hS
 rename_i o p x pl
 simp only [Option.some.injEq] at hS
 subst hS
 simp only [lenP,mkL,lim] at hl
 dsimp only at hob
 have hG:=hob
 obtain ⟨hn,hpl,hp0,ho0,hxl,hrow⟩:=hob
 repeat' first|exact gE|refine gS noSp x0 [] ?_|refine gO noSp x0 [] ?_ ?_|refine gC ?_ ?_<;>intro hb
 refine Zlp 12 rfl rfl ?_
 refine Zag (τ:=Nat) (fun i=>i≤o.length) (fun i=>⟨18,[(31,.int .i64 i),(30,.int .i64 x.length),(29,.roII x),(5,.own 12),(2,.rop (.agg (.cons (.roI o) (.cons (.roI p) (.cons (.roII x) .nil))))),(0,.agg (.cons (.roI o) (.cons (.roI p) (.cons (.roII x) .nil)))),(1,.int .i64 pl)],[(9,some (.rows (alI o x pl i []))),(12,some (.box (.agg (.cons (.roI o) (.cons (.roI p) (.cons (.own 9) (.cons (.int .i64 (-1)) (.cons (.roI []) .nil))))))))],[]⟩) (fun i=>o.length - i) 0 [] ?_ (Nat.zero_le _) ?_
 ·first|exact leZ x0|refine leA x0 ?_|refine leB x0 ?_ ?_
  exact ⟨alI_first,rfl⟩
 intro i hi
 have hrow1:=hrow i
 have hlen:=fun r=>alI_len (o:=o) (x:=x) (pl:=pl) (i:=i) (r:=r)
 repeat' first|exact gE|refine gS noSp x0 [4,13] ?_|refine gO noSp x0 [4,13] ?_ ?_|refine gC ?_ ?_<;>intro hb
 ·have hil:i < o.length:=by omega
  obtain ⟨hr64,hrb⟩:=hrow1 hil
  have hat:=fun r=>alI_at (x:=x) (pl:=pl) (r:=r) hil
  have hnx:=fun r=>alI_next (o:=o) (x:=x) (pl:=pl) (i:=i) (r:=r)
  have hset:=fun r r'=>alI_set (o:=o) (x:=x) (pl:=pl) (i:=i) (r:=r) (r':=r')
  have hT:=fun j=>alT_next (o:=o) (x:=x) (pl:=pl) (i:=i) (j:=j)
  have hTl:=fun j=>alT_len (o:=o) (x:=x) (pl:=pl) (i:=i) (j:=j)
  have hTa:=alT_all (o:=o) (x:=x) (pl:=pl) (i:=i)
  have hT0:alT o x pl i 0=[]:=rfl
  have hR0:o.getD i 0=pl→[]=alR o x pl i:=fun h=>(if_pos h).symm
  repeat' first|exact gE|refine gS noSp x0 [6,12] ?_|refine gO noSp x0 [6,12] ?_ ?_|refine gC ?_ ?_<;>intro hb
  ·rw [hnx [] (hR0 (by assumption))]
   repeat' first|exact gE|refine gS noSp x0 [] ?_|refine gO noSp x0 [] ?_ ?_|refine gC ?_ ?_<;>intro hb
   refine back (i+1) [] ?_ (by omega) (by omega)
   first|exact leZ x0|refine leA x0 ?_|refine leB x0 ?_ ?_
  ·have hod:o.getD i 0≠pl:=by assumption
   have hTa:=hTa hod
   rw [show alI o x pl i []=alI o x pl i (alT o x pl i 0) from rfl]
   clear hR0
   repeat' first|exact gE|refine gS noSp x0 [7] ?_|refine gO noSp x0 [7] ?_ ?_|refine gC ?_ ?_<;>intro hb
   refine Zag (τ:=Nat) (fun j=>j≤(x.getD i []).length) (fun j=>⟨31,[(45,.int .i64 j),(44,.int .i64 (x.getD i []).length),(43,.roI (x.getD i [])),(6,.int .i64 i),(31,.int .i64 i),(30,.int .i64 x.length),(29,.roII x),(5,.own 12),(2,.rop (.agg (.cons (.roI o) (.cons (.roI p) (.cons (.roII x) .nil))))),(0,.agg (.cons (.roI o) (.cons (.roI p) (.cons (.roII x) .nil)))),(1,.int .i64 pl)],[(9,some (.rows (alI o x pl i (alT o x pl i j)))),(12,some (.box (.agg (.cons (.roI o) (.cons (.roI p) (.cons (.own 9) (.cons (.int .i64 (-1)) (.cons (.roI []) .nil))))))))],[]⟩) (fun j=>(x.getD i []).length - j) 0 [] ?_ (Nat.zero_le _) ?_
   ·first|exact leZ x0|refine leA x0 ?_|refine leB x0 ?_ ?_
   intro j hj
   have hrb:=hrb j
   have hTj:=hT j
   have hTlj:=hTl j
   have hlen:=hlen (alT o x pl i j)
   have hat:=hat (alT o x pl i j)
   have hset:=hset (alT o x pl i j)
   repeat' first|exact gE|refine gS noSp x0 [8,12] ?_|refine gO noSp x0 [8,12] ?_ ?_|refine gC ?_ ?_<;>intro hb
   ·have hjl:j < (x.getD i []).length:=by omega
    obtain ⟨c1,c2⟩:=hrb hjl
    have hTj:=hTj hjl
    clear hT hTl hTa hnx
    repeat' first|exact gE|refine gS noSp x0 [9] ?_|refine gO noSp x0 [9] ?_ ?_|refine gC ?_ ?_<;>intro hb
    generalize (x.getD i []).getD j 0=w at *
    generalize alT o x pl i j=T at *
    generalize hYe:alI o x pl i T=Y at *
    repeat' first|exact gE|refine gS noSp x0 [10,11] ?_|refine gO noSp x0 [10,11] ?_ ?_|refine gC ?_ ?_<;>intro hb
    ·rw [if_neg (by assumption)] at hTj
     repeat' first|exact gE|refine gS noSp x0 [] ?_|refine gO noSp x0 [] ?_ ?_|refine gC ?_ ?_<;>intro hb
     ·rw [hlen,hat]
      exact Ob.mk (by omega)
     refine back (j+1) [] ?_ (by omega) (by omega)
     first|exact leZ x0|refine leA x0 ?_|refine leB x0 ?_ ?_
     rw [hTj,hat]
     exact hset _
    ·rw [if_pos (by assumption)] at hTj
     repeat' first|exact gE|refine gS noSp x0 [] ?_|refine gO noSp x0 [] ?_ ?_|refine gC ?_ ?_<;>intro hb
     refine back (j+1) [] ?_ (by omega) (by omega)
     first|exact leZ x0|refine leA x0 ?_|refine leB x0 ?_ ?_
     rw [hTj,hYe]
   have hje:j=(x.getD i []).length:=by omega
   subst hje
   rw [hTa,hnx _ rfl]
   repeat' first|exact gE|refine gS noSp x0 [] ?_|refine gO noSp x0 [] ?_ ?_|refine gC ?_ ?_<;>intro hb
   refine back (i+1) [] ?_ (by omega) (by omega)
   first|exact leZ x0|refine leA x0 ?_|refine leB x0 ?_ ?_
 have hie:i=o.length:=by omega
 subst hie
 rw [alI_last]
 repeat' first|exact gE|refine gS noSp x0 [13] ?_|refine gO noSp x0 [13] ?_ ?_|refine gC ?_ ?_<;>intro hb
 refine Zbb 9 (.roII (alY o x pl)) ?_
 refine Zbb 12 (.rop (.agg (.cons (.roI o) (.cons (.roI p) (.cons (.roII (alY o x pl)) (.cons (.int .i64 (-1)) (.cons (.roI []) .nil))))))) ?_
 repeat' first|exact gE|refine gS noSp x0 [] ?_|refine gO noSp x0 [] ?_ ?_|refine gC ?_ ?_<;>intro hb
 have hY:=nxF_al (p:=p) (x:=x) (pl:=pl) ho0 hxl
 have hO:=fun v (hv:v < o.length)=>alO_iff (p:=p) (x:=x) (pl:=pl) hv
 have hEA:nxN o (alY o x pl) (-1) []=fun a=>(alR o x pl a).map Int.toNat:=by
  funext a
  unfold nxN
  rw [nxF_al ho0 hxl]
 have hrowA:∀ v,v < o.length→(nxF ⟨o,p,alY o x pl⟩ [] (-1) v).length≤64∧∀ j,j < (nxF ⟨o,p,alY o x pl⟩ [] (-1) v).length→0≤(nxF ⟨o,p,alY o x pl⟩ [] (-1) v).getD j 0∧(nxF ⟨o,p,alY o x pl⟩ [] (-1) v).getD j 0 < (o.length:Int):=by
  intro v hv
  rw [hY v]
  refine ⟨Nat.le_trans alR_len (hrow v hv).1,fun j hj=>?_⟩
  have hm:(alR o x pl v).getD j 0∈alR o x pl v:=by
   rw [List.getD_eq_getElem?_getD,List.getElem?_eq_getElem hj];exact List.getElem_mem ..
  obtain ⟨k,hk,hk2⟩:=Zdv (alR_mem.1 hm).2.1
  rw [←hk2]
  exact (hrow v hv).2 k hk
 refine Zag (τ:=Nat) (fun i=>i≤o.length) (fun i=>⟨28,[(79,.int .i64 i),(78,.int .i64 p.length),(77,.roI p),(10,.own 22),(5,.rop (.agg (.cons (.roI o) (.cons (.roI p) (.cons (.roII (alY o x pl)) (.cons (.int .i64 (-1)) (.cons (.roI []) .nil))))))),(2,.rop (.agg (.cons (.roI o) (.cons (.roI p) (.cons (.roII x) .nil))))),(1,.int .i64 pl)],[(22,some (.bools (mix (fun v=>(alO o p x pl).getD v false) (fun _=>false) o.length i)))],[]⟩) (fun i=>o.length - i) 0 [] ?_ (Nat.zero_le _) ?_
 ·first|exact leZ x0|refine leA x0 ?_|refine leB x0 ?_ ?_
  exact List.ext_getElem (by simp [mix]) fun j h1 h2=>by simp [mix]
 intro i hi
 have hO1:=hO i
 have hp01:=hp0 i
 have hms:=Zfj (f:=fun v=>(alO o p x pl).getD v false) (h:=fun _=>false) (n:=o.length) (i:=i)
 have hmk:=Zk2 (f:=fun v=>(alO o p x pl).getD v false) (h:=fun _=>false) (n:=o.length) (i:=i)
 have hml:=Zfk (f:=fun v=>(alO o p x pl).getD v false) (h:=fun _=>false) (n:=o.length) (i:=i)
 repeat' first|exact gE|refine gS noSp x0 [16,20] ?_|refine gO noSp x0 [16,20] ?_ ?_|refine gC ?_ ?_<;>intro hb
 ·have hil:i < o.length:=by omega
  have hO1:=hO1 hil
  have hp01:=hp01 hil
  repeat' first|exact gE|refine gS noSp x0 [17] ?_|refine gO noSp x0 [17] ?_ ?_|refine gC ?_ ?_<;>intro hb
  refine Zbb 32 (.rop (.int .i64 (p.getD i 0))) ?_
  repeat' first|exact gE|refine gS noSp x0 [18,19] ?_|refine gO noSp x0 [18,19] ?_ ?_|refine gC ?_ ?_<;>intro hb
  ·refine Za2 ([_,_,_,_,_]) ([_,_,_,_,_,_,_]) rfl rfl ?_
   refine gTn noSp x0 ?_ ?_
   ·first|exact oA|skip
   refine gCo ([]) (reached_fg (o:=o) (p:=p) (c:=[]) (x:=alY o x pl) (pl := -1) (th:=fun w=>decide (p.getD w 0≤p.getD i 0)) hn hil Zm2 (fun v hv h=>absurd h (by have:=ho0 v hv;omega)) hrowA (fun w hw=>alone1_fg (by omega))) x0 ?_;intro gm gv gr hq m' e' l' h;obtain ⟨L,es,clk,⟨hE,hM⟩,hq⟩:=hq;refine gCf hq h x0 ?_
   have hth:(fun w=>(decide (p.getD w 0≤p.getD i 0))=true)=fun w=>p.getD w 0≤p.getD i 0:=funext fun w=>by simp
   rw [hth,hEA] at hE
   have hin:i∈L.map Prod.fst↔Cyc (alE o x pl) (fun v=>p.getD v 0) i:=RE_iff hE i
   have hhas:=hM.has i
   refine gT noSp x0 ?_ ?_
   ·first|exact oA|skip
   have hm:(alO o p x pl).getD i false=mhas (i:Int) es:=by
    rw [hhas]
    refine Bool.eq_iff_iff.2 ?_
    rw [hO1,decide_eq_true_eq,hin]
    exact ⟨fun h=>h.2,fun h=>⟨hb,h⟩⟩
   rw [hm] at hms
   rw [hms]
   refine Zfq (Zaf ?_)
   repeat' first|exact gE|refine gS noSp x0 [] ?_|refine gO noSp x0 [] ?_ ?_|refine gC ?_ ?_<;>intro hb
   refine back (i+1) [] ?_ (by omega) (by omega)
   first|exact leZ x0|refine leA x0 ?_|refine leB x0 ?_ ?_
  ·have hf:(alO o p x pl).getD i false=false:=by
    cases h:(alO o p x pl).getD i false with
    |false=>rfl
    |true =>
     have h2:=(hO1.1 h).1
     rcases hb with h3|h3
     ·exact absurd h3 h2.1
     ·exact absurd h3 h2.2
   repeat' first|exact gE|refine gS noSp x0 [] ?_|refine gO noSp x0 [] ?_ ?_|refine gC ?_ ?_<;>intro hb
   refine back (i+1) [] ?_ (by omega) (by omega)
   first|exact leZ x0|refine leA x0 ?_|refine leB x0 ?_ ?_
   exact hmk hf
 have hie:i=o.length:=by omega
 subst hie
 have hO0:(List.range o.length).map (fun v=>(alO o p x pl).getD v false)=alO o p x pl:=by
  have h:=mix_zero (f:=fun _=>false) (x:=alO o p x pl) (d:=false)
  rw [Zm4] at h
  rw [←h]
  refine List.map_congr_left fun v hv=>?_
  rw [h,if_neg (Nat.not_lt_zero _)]
 rw [Zfl,hO0]
 have hI:AlI (alE o x pl) o.length (alBs o p x pl) (alO o p x pl):=⟨Zm4,fun v hv h=>(hO v hv).2 h,fun v h=>by
  have hv:v < o.length:=by
   rcases Nat.lt_or_ge v o.length with h2|h2
   ·exact h2
   ·rw [List.getD_eq_getElem?_getD,List.getElem?_eq_none (by rw [Zm4];exact h2)] at h;cases h
  exact ⟨v,hv,(hO v hv).1 h,.refl _⟩⟩
 have hyl:=Zm2 (o:=o) (x:=x) (pl:=pl)
 have hyE:∀ v w:Nat,v < o.length→(alE o x pl v w↔(w:Int)∈(alY o x pl).getD v []):=fun v w hv=>by
  rw [Zm3 hv]
  unfold alE
  rw [List.mem_map]
  constructor
  ·rintro ⟨z,hz,rfl⟩
   obtain ⟨k,hk,hk2⟩:=Zdv (alR_mem.1 hz).2.1
   rw [Int.toNat_of_nonneg (by rw [←hk2];exact ((hrow v hv).2 k hk).1)]
   exact hz
  ·exact fun h=>⟨w,h,Int.toNat_natCast _⟩
 have hyB:∀ v,v < o.length→((alY o x pl).getD v []).length≤64∧∀ j,j < ((alY o x pl).getD v []).length→0≤((alY o x pl).getD v []).getD j 0∧((alY o x pl).getD v []).getD j 0 < (o.length:Int):=by
  intro v hv
  have h:=hrowA v hv
  rw [hY v] at h
  rw [Zm3 hv]
  exact h
 clear hrowA hY hEA hO0 hO
 generalize alO o p x pl=O0 at *
 generalize alY o x pl=y at *
 repeat' first|exact gE|refine gS noSp x0 [21] ?_|refine gO noSp x0 [21] ?_ ?_|refine gC ?_ ?_<;>intro hb
 refine Zag (τ:=AlS) (fun s=>AlI (alE o x pl) o.length (alBs o p x pl) s.O∧(s.c=false→∀ v w:Nat,v < o.length→(w:Int)∈y.getD v []→s.O.getD w false=true→s.O.getD v false=true)) (fun s=>⟨30,[(13,.bool s.c),(10,.own 22),(5,.rop (.agg (.cons (.roI o) (.cons (.roI p) (.cons (.roII y) (.cons (.int .i64 (-1)) (.cons (.roI []) .nil)))))))],[(22,some (.bools s.O))],[]⟩) (fun s=>2 * (o.length - ctT s.O)+s.c.toNat) ⟨O0,true⟩ [] ?_ ⟨hI,fun h=>by cases h⟩ ?_
 ·first|exact leZ x0|refine leA x0 ?_|refine leB x0 ?_ ?_
 rintro ⟨O,c⟩ ⟨hI,hcl⟩
 dsimp only at hI hcl ⊢
 have hOl:=hI.len
 repeat' first|exact gE|refine gS noSp x0 [22,33] ?_|refine gO noSp x0 [22,33] ?_ ?_|refine gC ?_ ?_<;>intro hb
 ·subst hb
  clear hcl
  have hOn:ctT O≤o.length:=by rw [←hOl];exact ctT_le
  repeat' first|exact gE|refine gS noSp x0 [24] ?_|refine gO noSp x0 [24] ?_ ?_|refine gC ?_ ?_<;>intro hb
  refine Zag (τ:=AlJ) (fun s=>s.i≤o.length∧AlI (alE o x pl) o.length (alBs o p x pl) s.O∧AlP (alD y s.i 0) O s.O s.c) (fun s=>⟨37,[(115,.int .i64 s.i),(114,.int .i64 y.length),(113,.roII y),(13,.bool s.c),(10,.own 22),(5,.rop (.agg (.cons (.roI o) (.cons (.roI p) (.cons (.roII y) (.cons (.int .i64 (-1)) (.cons (.roI []) .nil)))))))],[(22,some (.bools s.O))],[]⟩) (fun s=>o.length - s.i) ⟨0,O,false⟩ [] ?_ ⟨Nat.zero_le _,hI,AlP_first⟩ ?_
  ·first|exact leZ x0|refine leA x0 ?_|refine leB x0 ?_ ?_
  rintro ⟨i,O1,c1⟩ ⟨hi,hI1,hP1⟩
  dsimp only at hi hI1 hP1 ⊢
  have hyB1:=hyB i
  have hyE1:=fun w=>hyE i w
  repeat' first|exact gE|refine gS noSp x0 [25,33] ?_|refine gO noSp x0 [25,33] ?_ ?_|refine gC ?_ ?_<;>intro hb
  ·have hil:i < o.length:=by omega
   obtain ⟨hr64,hrb⟩:=hyB1 hil
   have hyE1:=fun w=>hyE1 w hil
   clear hyB1 hyE hyB
   repeat' first|exact gE|refine gS noSp x0 [27] ?_|refine gO noSp x0 [27] ?_ ?_|refine gC ?_ ?_<;>intro hb
   refine Zag (τ:=AlJ) (fun s=>s.i≤(y.getD i []).length∧AlI (alE o x pl) o.length (alBs o p x pl) s.O∧AlP (alD y i s.i) O s.O s.c) (fun s=>⟨46,[(122,.int .i64 s.i),(121,.int .i64 (y.getD i []).length),(120,.roI (y.getD i [])),(14,.int .i64 i),(115,.int .i64 i),(114,.int .i64 y.length),(113,.roII y),(13,.bool s.c),(10,.own 22),(5,.rop (.agg (.cons (.roI o) (.cons (.roI p) (.cons (.roII y) (.cons (.int .i64 (-1)) (.cons (.roI []) .nil)))))))],[(22,some (.bools s.O))],[]⟩) (fun s=>(y.getD i []).length - s.i) ⟨0,O1,c1⟩ [] ?_ ⟨Nat.zero_le _,hI1,hP1⟩ ?_
   ·first|exact leZ x0|refine leA x0 ?_|refine leB x0 ?_ ?_
   rintro ⟨j,O2,c2⟩ ⟨hj,hI2,hP2⟩
   dsimp only at hj hI2 hP2 ⊢
   have hrb:=hrb j
   have hO2:=hI2.len
   repeat' first|exact gE|refine gS noSp x0 [28,32] ?_|refine gO noSp x0 [28,32] ?_ ?_|refine gC ?_ ?_<;>intro hb
   ·have hjl:j < (y.getD i []).length:=by omega
    obtain ⟨b1,b2⟩:=hrb hjl
    have hsk:=AlP_skip (j:=j) hP2 hjl
    have hed:alE o x pl i ((y.getD i []).getD j 0).toNat:=by
     rw [hyE1,Int.toNat_of_nonneg b1]
     exact getD_mem hjl
    repeat' first|exact gE|refine gS noSp x0 [29] ?_|refine gO noSp x0 [29] ?_ ?_|refine gC ?_ ?_<;>intro hb
    generalize (y.getD i []).getD j 0=w at *
    repeat' first|exact gE|refine gS noSp x0 [30,31] ?_|refine gO noSp x0 [30,31] ?_ ?_|refine gC ?_ ?_<;>intro hb
    ·repeat' first|exact gE|refine gS noSp x0 [] ?_|refine gO noSp x0 [] ?_ ?_|refine gC ?_ ?_<;>intro hb
     refine back ⟨j+1,O2.set i true,true⟩ [] ?_ ⟨by dsimp only;omega,AlI_set hI2 hed hb.1,AlP_set hP2 (by omega) hb.2⟩ (by dsimp only;omega)
     first|exact leZ x0|refine leA x0 ?_|refine leB x0 ?_ ?_
    ·repeat' first|exact gE|refine gS noSp x0 [] ?_|refine gO noSp x0 [] ?_ ?_|refine gC ?_ ?_<;>intro hb
     refine back ⟨j+1,O2,c2⟩ [] ?_ ⟨by dsimp only;omega,hI2,hsk fun h=>?_⟩ (by dsimp only;omega)
     ·first|exact leZ x0|refine leA x0 ?_|refine leB x0 ?_ ?_
     ·rcases hb with h2|h2
      ·rw [h2] at h;cases h
      ·exact h2
   have hje:j=(y.getD i []).length:=by omega
   subst hje
   repeat' first|exact gE|refine gS noSp x0 [] ?_|refine gO noSp x0 [] ?_ ?_|refine gC ?_ ?_<;>intro hb
   refine back ⟨i+1,O2,c2⟩ [] ?_ ⟨by dsimp only;omega,hI2,AlP_next hP2 (Nat.le_refl _)⟩ (by dsimp only;omega)
   first|exact leZ x0|refine leA x0 ?_|refine leB x0 ?_ ?_
  have hie:i=o.length:=by omega
  subst hie
  repeat' first|exact gE|refine gS noSp x0 [] ?_|refine gO noSp x0 [] ?_ ?_|refine gC ?_ ?_<;>intro hb
  have hct:ctT O1≤o.length:=by rw [←hI1.len];exact ctT_le
  refine back ⟨O1,c1⟩ [] ?_ ⟨hI1,fun hc v w hv hw=>(hP1.a hc).2 v w (.inl ⟨hv,hw⟩)⟩ ?_
  ·first|exact leZ x0|refine leA x0 ?_|refine leB x0 ?_ ?_
  ·dsimp only
   cases c1 with
   |true=>have:=hP1.b rfl;simp only [Bool.toNat_true];omega
   |false=>rw [(hP1.a rfl).1];exact Nat.lt_succ_self _
 have hcl:=hcl (by simpa using hb)
 have hfin:O=alLs o p x pl:=AlI_done hI (fun v w hv he=>hcl v w hv ((hyE v w hv).1 he)) (fun v w hv he=>by
  have he:=(hyE v w hv).1 he
  obtain ⟨j,hj,hj2⟩:=Zdv he
  have:=(hyB v hv).2 j hj
  rw [hj2] at this
  omega)
 subst hfin
 repeat' first|exact gE|refine gS noSp x0 [33] ?_|refine gO noSp x0 [33] ?_ ?_|refine gC ?_ ?_<;>intro hb
 refine Zbb 22 (.roB (alLs o p x pl)) ?_
 repeat' first|exact gE|refine gS noSp x0 [] ?_|refine gO noSp x0 [] ?_ ?_|refine gC ?_ ?_<;>intro hb
 refine Zab rfl rfl (Zae rfl ?_ rfl)
 rfl
open Go Pl
def mxI (p:List Int):Int:=p.foldl max 0
theorem mxI_next {p:List Int} {i:Nat} (h:i < p.length):mxI (p.take (i+1))=max (mxI (p.take i)) (p.getD i 0):=by
 unfold mxI
 rw [Zff (d:=0) h,List.foldl_append];rfl
theorem Zny {p:List Int} {B:Int} (hB:0≤B) (h:∀ v,v < p.length→p.getD v 0≤B):∀ i,i≤p.length→0≤mxI (p.take i)∧mxI (p.take i)≤B∧∀ v,v < i→p.getD v 0≤mxI (p.take i)
 |0,_=>⟨Int.le_refl _,hB,fun v hv=>absurd hv (Nat.not_lt_zero _)⟩
 |i+1,hi=>by
  have ih:=Zny hB h i (by omega)
  have h1:=h i (by omega)
  rw [mxI_next (by omega)]
  refine ⟨by omega,by omega,fun v hv=>?_⟩
  rcases Nat.lt_succ_iff_lt_or_eq.1 hv with h2|rfl
  ·have:=ih.2.2 v h2;omega
  ·omega
noncomputable def imB (o p:List Int) (x:List (List Int)) (pl:Int):Im:=⟨o,p,x,pl,⟨false,false,List.replicate (mxI p+1).toNat 0⟩,alLs o p x pl⟩
def bNx (h:Im) (ch:List Int) (k:Nat):List Int × Bool:=Zg1 h (vIt h ch k) ch h.o.length
inductive BRun (h:Im):Nat→List Int→Nat→(Nat→Vl)→List Int→Prop
 |stop {ch:List Int} {k:Nat}:VEnd h ch k→(bNx h ch k).2=false→BRun h 0 ch k (vIt h ch k) (bNx h ch k).1
 |more {r k k':Nat} {ch c:List Int} {l:Nat→Vl}:VEnd h ch k→(bNx h ch k).2=true→BRun h r (bNx h ch k).1 k' l c→BRun h (r+1) ch k l c
theorem Zlv {h:Im} {r k:Nat} {ch c:List Int} {l:Nat→Vl} (H:BRun h r ch k l c):VEnd h ch k∧(((bNx h ch k).2=false∧l=vIt h ch k∧c=(bNx h ch k).1)∨∃ r' k',r=r'+1∧(bNx h ch k).2=true∧BRun h r' (bNx h ch k).1 k' l c):=by
 cases H with
 |stop h1 h2=>exact ⟨h1,.inl ⟨h2,rfl,rfl⟩⟩
 |more h1 h2 h3=>exact ⟨h1,.inr ⟨_,_,rfl,h2,h3⟩⟩
structure BsS where
 r:Nat
 ch:List Int
 k:Nat
noncomputable def spBs : Nat→Option Spec
 |36=>some alS
 |_=>none
theorem Zbh : SpOK Tryz.prog spBs:=by
 intro f S h
 unfold spBs at h
 split at h
 ·cases h;exact alone_ok
 ·cases h
theorem imB_ok {o p:List Int} {x:List (List Int)} {pl:Int} (H:GmOK o p x) (hmx:∀ v,v < p.length→p.getD v 0≤999000):ImOK (imB o p x pl) (mxI p+1).toNat:=by
 have hb:=Zny (p:=p) (B:=999000) (by decide) hmx p.length (Nat.le_refl _)
 rw [List.take_length] at hb
 refine ⟨H.n,H.plen,H.xl,fun v hv=>⟨H.p0 v hv,?_⟩,H.row,⟨?_,fun _=>⟨?_,fun q=>?_⟩⟩,Zls⟩
 ·have:=H.p0 v hv
  have:=hb.2.2 v (by have:=H.plen;have hv:v < o.length:=hv;omega)
  show (p.getD v 0).toNat < _
  omega
 ·show (List.replicate (mxI p+1).toNat (0:Int)).length≤_
  rw [List.length_replicate];omega
 ·show (List.replicate (mxI p+1).toNat (0:Int)).length=_
  rw [List.length_replicate]
 ·show 0≤(List.replicate (mxI p+1).toNat (0:Int)).getD q 0∧(List.replicate (mxI p+1).toNat (0:Int)).getD q 0≤0
  have:(List.replicate (mxI p+1).toNat (0:Int)).getD q 0=0:=by
   simp only [List.getD_eq_getElem?_getD,List.getElem?_replicate]
   split<;>rfl
  rw [this];exact ⟨Int.le_refl _,Int.le_refl _⟩
def Zam := Hd.mk (And.intro @spBs.eq_1<|And.intro @alS.eq_1<|@vlA.eq_1)
set_option maxRecDepth 4000 in
set_option maxHeartbeats 4000000 in
theorem best_fg {o p:List Int} {x:List (List Int)} {pl:Int} {R k:Nat} {L:Nat→Vl} {C:List Int} (H:GmOK o p x) (hmx:∀ v,v < p.length→p.getD v 0≤999000) (hR:BRun (imB o p x pl) R (List.replicate o.length (-1)) k L C) :
  FG Tryz.prog 18 [.agg (.cons (.roI o) (.cons (.roI p) (.cons (.roII x) .nil))),.int .i64 pl] [] 0
   fun g=>g=⟨0,.tup (.cons (.roB ((List.range o.length).map fun v=>(L v).e)) (.cons (.roI C) .nil)),[]⟩:=by
 have hIm:=imB_ok (pl:=pl) H hmx
 have hn:o.length≤20000:=H.n
 have hmb:=Zny (p:=p) (B:=999000) (by decide) hmx
 have hpl:p.length=o.length:=H.plen
 have hp0:=H.p0
 refine Zc5 htb (fn:=Tryz.f18) (by kernel_rfl) (by kernel_rfl) rfl (Nat.le_of_ble_eq_true rfl) fun hl=>?_
 simp only [lenP,mkL,lim] at hl
 repeat' first|exact gE|refine gS Zbh Zam [3] ?_|refine gO Zbh Zam [3] ?_ ?_|refine gC ?_ ?_<;>intro hb
 refine Zag (τ:=Nat) (fun i=>i≤p.length) (fun i=>⟨7,[(17,.int .i64 i),(16,.int .i64 p.length),(15,.roI p),(6,.int .i64 (mxI (p.take i))),(1,.int .i64 pl),(2,.rop (.agg (.cons (.roI o) (.cons (.roI p) (.cons (.roII x) .nil)))))],[],[]⟩) (fun i=>p.length - i) 0 [] ?_ (Nat.zero_le _) ?_
 ·first|exact leZ Zam|refine leA Zam ?_|refine leB Zam ?_ ?_
  rfl
 intro i hi
 have hm1:=mxI_next (p:=p) (i:=i)
 repeat' first|exact gE|refine gS Zbh Zam [4,7] ?_|refine gO Zbh Zam [4,7] ?_ ?_|refine gC ?_ ?_<;>intro hb
 ·have hil:i < p.length:=by omega
  have hm1:=hm1 hil
  repeat' first|exact gE|refine gS Zbh Zam [] ?_|refine gO Zbh Zam [] ?_ ?_|refine gC ?_ ?_<;>intro hb
  refine back (i+1) [] ?_ (by omega) (by omega)
  first|exact leZ Zam|refine leA Zam ?_|refine leB Zam ?_ ?_
  exact hm1
 have hie:i=p.length:=by omega
 subst hie
 have hmp:=hmb p.length (Nat.le_refl _)
 rw [List.take_length] at hmp ⊢
 clear hmb hm1
 refine gRa Zbh Zam (fun i=>Nat.beq i 4) ?_ ?_
 ·first|exact oA|skip
 refine Zaf ?_
 unfold imB at hR hIm
 clear hmp
 generalize (mxI p+1).toNat=K at *
 generalize List.replicate K (0:Int)=sm at *
 generalize alLs o p x pl=al at *
 repeat' first|exact gE|refine gS Zbh Zam [] ?_|refine gO Zbh Zam [] ?_ ?_|refine gC ?_ ?_<;>intro hb
 have hz:List.replicate o.length 0=mix (fun _=>(-1:Int)) (fun _=>0) o.length 0:=List.ext_getElem (by simp [mix]) fun j h1 h2=>by simp [mix]
 refine Zag (τ:=Nat) (fun i=>i≤o.length) (fun i=>⟨28,[(42,.int .i64 i),(41,.int .i64 o.length),(9,.own 22)],[(20,some (.ints (mix (fun _=>(-1:Int)) (fun _=>0) o.length i))),(22,some (.box (.agg (.cons (.roI o) (.cons (.roI p) (.cons (.roII x) (.cons (.int .i64 pl) (.cons (.bool false) (.cons (.bool false) (.cons (.roI sm) (.cons (.roB al) (.cons (.own 20) .nil))))))))))))],[]⟩) (fun i=>o.length - i) 0 [] ?_ (Nat.zero_le _) ?_
 ·first|exact leZ Zam|refine leA Zam ?_|refine leB Zam ?_ ?_
  ·simp
  ·exact hz
 intro i hi
 have hml:(mix (fun _=>(-1:Int)) (fun _=>0) o.length i).length=o.length:=Zfk
 have hms:=Zfj (f:=fun _=>(-1:Int)) (h:=fun _=>0) (n:=o.length) (i:=i)
 repeat' first|exact gE|refine gS Zbh Zam [10,13] ?_|refine gO Zbh Zam [10,13] ?_ ?_|refine gC ?_ ?_<;>intro hb
 ·repeat' first|exact gE|refine gS Zbh Zam [] ?_|refine gO Zbh Zam [] ?_ ?_|refine gC ?_ ?_<;>intro hb
  refine back (i+1) [] ?_ (by omega) (by omega)
  first|exact leZ Zam|refine leA Zam ?_|refine leB Zam ?_ ?_
  exact hms
 have hie:i=o.length:=by omega
 subst hie
 have hall:(List.range o.length).map (fun _=>(-1:Int))=List.replicate o.length (-1):=List.ext_getElem (by simp) fun j h1 h2=>by simp
 rw [Zfl,hall]
 clear hall hz hms hml
 have hc0:(List.replicate o.length (-1:Int)).length=o.length:=List.length_replicate ..
 have hc1:∀ v,v < o.length→(List.replicate o.length (-1:Int)).getD v 0 < o.length:=fun v hv=>by
  have:(List.replicate o.length (-1:Int)).getD v 0 = -1:=by
   simp [List.getD_eq_getElem?_getD,hv]
  omega
 generalize List.replicate o.length (-1:Int)=ch at *
 have hV:=(Zlv hR).1
 refine Za2 ([_]) ([_]) rfl rfl ?_
 refine gTn Zbh Zam ?_ ?_
 ·first|exact oA|skip
 refine gCl ([20]) (values_fg (o:=o) (p:=p) (x:=x) (pl:=pl) (st:=⟨false,false,sm⟩) (ls:=al) (ch:=ch) (K:=K) (k:=k) hIm hc0 hc1 hV) Zam ?_
 refine gT Zbh Zam ?_ ?_
 ·first|exact oA|skip
 refine Zaf ?_
 have hD0:0≤(20001:Int) * (o.length:Int):=Int.mul_nonneg (by decide) (by omega)
 have hvok:∀ (ch:List Int) (k:Nat),(∀ v,v < o.length→ch.getD v 0 < o.length)→k≤20001→∀ u,u < o.length→VOK K (20001 * (o.length:Int)) (vIt ⟨o,p,x,pl,⟨false,false,sm⟩,al⟩ ch k u):=fun ch k hc hk u hu=>Zc8 (Zoo hIm hc (k:=k) u hu) (Int.mul_le_mul_of_nonneg_right (by omega) (by show (0:Int)≤(o.length:Int);omega))
 have hbl:=fun l ch=>@Zh5 ⟨o,p,x,pl,⟨false,false,sm⟩,al⟩ l ch o.length
 have hblt:=fun (l:Nat→Vl) (ch:List Int) (hcl:ch.length=o.length) (hc1:∀ v,v < o.length→ch.getD v 0 < o.length)=>Zlo (h:=⟨o,p,x,pl,⟨false,false,sm⟩,al⟩) (l:=l) (ch:=ch) (n:=o.length) (fun v w hw hv=>by
  obtain ⟨j,hj,rfl⟩:=Zdv hw
  exact ((hIm.row v (by show v < o.length;omega)).2 j hj).2) (i:=o.length) (by omega) (fun v hv=>hc1 v (by omega))
 repeat' first|exact gE|refine gS Zbh Zam [14] ?_|refine gO Zbh Zam [14] ?_ ?_|refine gC ?_ ?_<;>intro hb
 refine Zag (τ:=BsS) (fun s=>BRun ⟨o,p,x,pl,⟨false,false,sm⟩,al⟩ s.r s.ch s.k L C∧s.ch.length=o.length∧∀ v,v < o.length→s.ch.getD v 0 < o.length) (fun s=>⟨31,[(11,.own 30),(9,.own 22)],[(20,some (.ints s.ch)),(30,some (.avs 3 o.length fun j=>vlA (vIt ⟨o,p,x,pl,⟨false,false,sm⟩,al⟩ s.ch s.k j))),(22,some (.box (.agg (.cons (.roI o) (.cons (.roI p) (.cons (.roII x) (.cons (.int .i64 pl) (.cons (.bool false) (.cons (.bool false) (.cons (.roI sm) (.cons (.roB al) (.cons (.own 20) .nil))))))))))))],[]⟩) (fun s=>s.r) ⟨R,ch,k⟩ [] ?_ ⟨hR,hc0,hc1⟩ ?_
 ·first|exact leZ Zam|refine leA Zam ?_|refine leB Zam ?_ ?_
 clear hR hc0 hc1 hV
 clear ch k
 rintro ⟨r,ch,k⟩ ⟨hR,hc0,hc1⟩
 dsimp only at hR hc0 hc1 ⊢
 obtain ⟨hV,hBR⟩:=Zlv hR
 have hvk:=hvok ch k hc1 hV.1
 repeat' first|exact gE|refine gS Zbh Zam [14] ?_|refine gO Zbh Zam [14] ?_ ?_|refine gC ?_ ?_<;>intro hb
 refine Za2 ([_,_]) ([]) rfl rfl ?_
 refine gTn Zbh Zam ?_ ?_
 ·first|exact oA|skip
 refine gCl ([30,20]) (better_fg (o:=o) (p:=p) (x:=x) (pl:=pl) (st:=⟨false,false,sm⟩) (ls:=al) (ch:=ch) (K:=K) hIm hD0 hc0 hc1 hvk) Zam ?_
 refine Zcl ?_
 have hnl:=hbl (vIt ⟨o,p,x,pl,⟨false,false,sm⟩,al⟩ ch k) ch
 have hnt:=hblt (vIt ⟨o,p,x,pl,⟨false,false,sm⟩,al⟩ ch k) ch hc0 hc1
 have hbe:Zg1 ⟨o,p,x,pl,⟨false,false,sm⟩,al⟩ (vIt ⟨o,p,x,pl,⟨false,false,sm⟩,al⟩ ch k) ch o.length=bNx ⟨o,p,x,pl,⟨false,false,sm⟩,al⟩ ch k:=rfl
 rw [hbe] at hnl hnt ⊢
 repeat' first|exact gE|refine gS Zbh Zam [15,16] ?_|refine gO Zbh Zam [15,16] ?_ ?_|refine gC ?_ ?_<;>intro hb
 ·rcases hBR with ⟨h1,h2,h3⟩|⟨r',k',h1,h2,h3⟩
  ·rw [h1] at hb;cases hb
  have hV2:=(Zlv h3).1
  subst h1
  generalize (bNx ⟨o,p,x,pl,⟨false,false,sm⟩,al⟩ ch k).1=ch2 at *
  have hc2:ch2.length=o.length:=by omega
  have hnt2:∀ v,v < o.length→ch2.getD v 0 < o.length:=fun v hv=>hnt v (by omega)
  refine Za2 ([_]) ([_]) rfl rfl ?_
  refine gTn Zbh Zam ?_ ?_
  ·first|exact oA|skip
  refine gCl ([20]) (values_fg (o:=o) (p:=p) (x:=x) (pl:=pl) (st:=⟨false,false,sm⟩) (ls:=al) (ch:=ch2) (K:=K) (k:=k') hIm hc2 hnt2 hV2) Zam ?_
  refine gT Zbh Zam ?_ ?_
  ·first|exact oA|skip
  repeat' first|with_reducible refine Zfq ?_|with_reducible refine Zaf ?_
  refine back ⟨r',ch2,k'⟩ [(30,34)] ?_ ⟨h3,hc2,hnt2⟩ (by dsimp only;omega)
  first|exact leZ Zam|refine leA Zam ?_|refine leB Zam ?_ ?_
 ·rcases hBR with ⟨h1,h2,h3⟩|⟨r',k',h1,h2,h3⟩
  ·rw [←h2,←h3]
   repeat' first|exact gE|refine gS Zbh Zam [] ?_|refine gO Zbh Zam [] ?_ ?_|refine gC ?_ ?_<;>intro hb
   have hz:List.replicate o.length false=mix (fun v=>(L v).e) (fun _=>false) o.length 0:=List.ext_getElem (by simp [mix]) fun j h1 h2=>by simp [mix]
   refine Zag (τ:=Nat) (fun i=>i≤o.length) (fun i=>⟨40,[(62,.int .i64 i),(61,.int .i64 o.length),(12,.own 35),(11,.own 30),(9,.own 22)],[(30,some (.avs 3 o.length fun j=>vlA (L j))),(20,some (.ints C)),(22,some (.box (.agg (.cons (.roI o) (.cons (.roI p) (.cons (.roII x) (.cons (.int .i64 pl) (.cons (.bool false) (.cons (.bool false) (.cons (.roI sm) (.cons (.roB al) (.cons (.own 20) .nil)))))))))))),(35,some (.bools (mix (fun v=>(L v).e) (fun _=>false) o.length i)))],[]⟩) (fun i=>o.length - i) 0 [] ?_ (Nat.zero_le _) ?_
   ·first|exact leZ Zam|refine leA Zam ?_|refine leB Zam ?_ ?_
    ·simp
    ·exact hz
   intro i hi
   have hml:(mix (fun v=>(L v).e) (fun _=>false) o.length i).length=o.length:=Zfk
   have hms:=Zfj (f:=fun v=>(L v).e) (h:=fun _=>false) (n:=o.length) (i:=i)
   clear h2 h3
   repeat' first|exact gE|refine gS Zbh Zam [19,22] ?_|refine gO Zbh Zam [19,22] ?_ ?_|refine gC ?_ ?_<;>intro hb
   ·repeat' first|exact gE|refine gS Zbh Zam [] ?_|refine gO Zbh Zam [] ?_ ?_|refine gC ?_ ?_<;>intro hb
    refine back (i+1) [] ?_ (by omega) (by omega)
    first|exact leZ Zam|refine leA Zam ?_|refine leB Zam ?_ ?_
    exact hms
   have hie:i=o.length:=by omega
   subst hie
   rw [Zfl]
   refine Zbb 35 (.roB ((List.range o.length).map fun v=>(L v).e)) ?_
   refine Zbb 20 (.roI C) ?_
   repeat' first|exact gE|refine gS Zbh Zam [] ?_|refine gO Zbh Zam [] ?_ ?_|refine gC ?_ ?_<;>intro hb
   refine Zab rfl rfl (Zbe (⟨0,.tup (.cons (.roB ((List.range o.length).map fun v=>(L v).e)) (.cons (.roI C) .nil)),[]⟩) ([]) rfl rfl (Zal rfl) ?_)
   simp only [grR,zE,evp,evx,ev1,evLoad,evStore,evBin,evIf,Zac,forall_const,z38,tb,reduceAdd,reduceSub,reduceMul,reduceEqDiff,reduceLeDiff,reduceLT,Nat.reduceBEq,Nat.reduceBNe,↓reduceIte,reduceIte,spBs,alS,vlA]
  ·rw [h2] at hb;cases hb
end Go.Proofs.YtjcmlflljibikaaGreatDoor.Cal
