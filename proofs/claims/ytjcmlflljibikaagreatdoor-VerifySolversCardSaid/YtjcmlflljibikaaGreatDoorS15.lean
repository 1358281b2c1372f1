/- Own texts, merged. -/
import Derived.Test.YtjcmlflljibikaaGreatDoorS14
set_option linter.unusedVariables false
set_option linter.unusedSimpArgs false
open Nat (reduceAdd reduceSub reduceMul reduceEqDiff reduceLeDiff reduceLT)
namespace Go.Proofs.YtjcmlflljibikaaGreatDoor.Cal
open Go Pl
def mpF (L:List (Nat × Nat)):List (Int × Int × Nat) × Nat:=L.foldl (fun s e=>(mput e.1 e.2 s.2 s.1,mclk e.1 s.2 s.1)) ([],0)
theorem Zk0 {L:List (Nat × Nat)} {v w:Nat}:mpF (L++[(v,w)])=(mput v w (mpF L).2 (mpF L).1,mclk v (mpF L).2 (mpF L).1):=by
 unfold mpF;rw [List.foldl_append];rfl
theorem Zf0 : mpF []=([],0):=rfl
def wF (q:Int) (W:List Int) (L:List (Nat × Nat)):List Int:=L.foldl (fun W e=>W.set e.1 q) W
theorem Zip {q:Int} {W:List Int}:wF q W []=W:=rfl
theorem wF_snoc {q:Int} {W:List Int} {L:List (Nat × Nat)} {v w:Nat}:wF q W (L++[(v,w)])=(wF q W L).set v q:=by
 unfold wF;rw [List.foldl_append];rfl
theorem wF_len {q:Int}:∀ {L:List (Nat × Nat)} {W:List Int},(wF q W L).length=W.length
 |[],_=>rfl
 |e :: L,W=>by
  show (wF q (W.set e.1 q) L).length=_
  rw [wF_len,List.length_set]
def cFz (o:List Int) (q:Int) (C:List Int) (L:List (Nat × Nat)):List Int:=L.foldl (fun C e=>C.set e.1 (if o.getD e.1 0=q then (e.2:Int) else -1)) C
theorem Ziu {o:List Int} {q:Int} {C:List Int}:cFz o q C []=C:=rfl
theorem cF_snoc {o:List Int} {q:Int} {C:List Int} {L:List (Nat × Nat)} {v w:Nat}:cFz o q C (L++[(v,w)])=(cFz o q C L).set v (if o.getD v 0=q then (w:Int) else -1):=by
 unfold cFz;rw [List.foldl_append];rfl
theorem cF_len {o:List Int} {q:Int}:∀ {L:List (Nat × Nat)} {C:List Int},(cFz o q C L).length=C.length
 |[],_=>rfl
 |e :: L,C=>by
  show (cFz o q (C.set e.1 _) L).length=_
  rw [cF_len,List.length_set]
def loL (K:List Bool) (W:List Int) (p:Int):List Bool:=(List.range K.length).map fun v=>K.getD v false && !decide (W.getD v 0=p)
inductive ZR (g:Gm):List Bool→List Int→List Int→Int→List Int→List Int→Int→Prop
 |done {K W C left}:tpP g.pri K < 0→0 < left→ZR g K W C left W C (left - 1)
 |all {K W C left L es W1 C1 left1}:0≤tpP g.pri K→0 < left→AQ g (tpP g.pri K % 2) (tpU g.pri K) K L es (qo (tpU g.pri K) g.own.length L).length [] →
   ZR g (woL K (atB (tpU g.pri K) g.own.length L)) W C (left - 1) W1 C1 left1→(∀ v,v∈kp (woL K (atB (tpU g.pri K) g.own.length L)) g.own.length→W1.getD v 0=tpP g.pri K % 2) →
   ZR g K W C left (fsL (fun _=>tpP g.pri K % 2) (kp (atB (tpU g.pri K) g.own.length L) g.own.length) W1) (fsL (stC g.own g.nxt (tpU g.pri K) K (tpP g.pri K % 2) (mpF L).1) (kp (atB (tpU g.pri K) g.own.length L) g.own.length) C1) left1
 |part {K W C left L es W1 C1 left1 L2 es2 W3 C3 left3}:0≤tpP g.pri K→0 < left→AQ g (tpP g.pri K % 2) (tpU g.pri K) K L es (qo (tpU g.pri K) g.own.length L).length [] →
   ZR g (woL K (atB (tpU g.pri K) g.own.length L)) W C (left - 1) W1 C1 left1→(∃ v,v∈kp (woL K (atB (tpU g.pri K) g.own.length L)) g.own.length∧W1.getD v 0≠tpP g.pri K % 2) →
   AQ g (1 - tpP g.pri K % 2) (loL (woL K (atB (tpU g.pri K) g.own.length L)) W1 (tpP g.pri K % 2)) K L2 es2 (qo (loL (woL K (atB (tpU g.pri K) g.own.length L)) W1 (tpP g.pri K % 2)) g.own.length L2).length [] →
   ZR g (woL K (atB (loL (woL K (atB (tpU g.pri K) g.own.length L)) W1 (tpP g.pri K % 2)) g.own.length L2)) (wF (1 - tpP g.pri K % 2) W1 L2) (cFz g.own (1 - tpP g.pri K % 2) C1 L2) left1 W3 C3 left3 →
   ZR g K W C left W3 C3 left3
inductive ZP (g:Gm):List Bool→List Int→List Int→Int→Prop
 |here {K W C}:ZP g K W C 0
 |sub {K W C left L es}:0≤tpP g.pri K→0 < left→AQ g (tpP g.pri K % 2) (tpU g.pri K) K L es (qo (tpU g.pri K) g.own.length L).length [] →
   ZP g (woL K (atB (tpU g.pri K) g.own.length L)) W C (left - 1)→ZP g K W C left
 |rest {K W C left L es W1 C1 left1 L2 es2}:0≤tpP g.pri K→0 < left→AQ g (tpP g.pri K % 2) (tpU g.pri K) K L es (qo (tpU g.pri K) g.own.length L).length [] →
   ZR g (woL K (atB (tpU g.pri K) g.own.length L)) W C (left - 1) W1 C1 left1→(∃ v,v∈kp (woL K (atB (tpU g.pri K) g.own.length L)) g.own.length∧W1.getD v 0≠tpP g.pri K % 2) →
   AQ g (1 - tpP g.pri K % 2) (loL (woL K (atB (tpU g.pri K) g.own.length L)) W1 (tpP g.pri K % 2)) K L2 es2 (qo (loL (woL K (atB (tpU g.pri K) g.own.length L)) W1 (tpP g.pri K % 2)) g.own.length L2).length [] →
   ZP g (woL K (atB (loL (woL K (atB (tpU g.pri K) g.own.length L)) W1 (tpP g.pri K % 2)) g.own.length L2)) (wF (1 - tpP g.pri K % 2) W1 L2) (cFz g.own (1 - tpP g.pri K % 2) C1 L2) left1→ZP g K W C left
theorem Zjd {g:Gm} {K:List Bool} {W C W' C':List Int} {left left':Int} (h:ZR g K W C left W' C' left'):W'.length=W.length∧C'.length=C.length∧0≤left'∧left' < left:=by
 induction h with
 |done h1 h2=>exact ⟨rfl,rfl,by omega,by omega⟩
 |all h1 h2 h3 h4 h5 ih=>exact ⟨fsL_len.trans ih.1,fsL_len.trans ih.2.1,ih.2.2.1,by omega⟩
 |part h1 h2 h3 h4 h5 h6 h7 ih1 ih2=>exact ⟨(ih2.1.trans wF_len).trans ih1.1,(ih2.2.1.trans cF_len).trans ih1.2.1,ih2.2.2.1,by omega⟩
theorem Zf4 {l:List Bool} {v:Nat} (h:l.length≤v):l.getD v false=false:=by
 rw [List.getD_eq_getElem?_getD,List.getElem?_eq_none h];rfl
theorem woL_len {l b:List Bool}:(woL l b).length=l.length:=by simp [woL]
theorem Ziw {l b:List Bool} {v:Nat}:(woL l b).getD v false=(l.getD v false && !b.getD v false):=by
 rcases Nat.lt_or_ge v l.length with h|h
 ·simp [woL,List.getD_eq_getElem?_getD,h]
 ·rw [Zf4 (by rw [woL_len];exact h),Zf4 h];rfl
theorem loL_len {K:List Bool} {W:List Int} {q:Int}:(loL K W q).length=K.length:=by simp [loL]
theorem Zhv {K:List Bool} {W:List Int} {q:Int} {v:Nat}:(loL K W q).getD v false=(K.getD v false && !decide (W.getD v 0=q)):=by
 rcases Nat.lt_or_ge v K.length with h|h
 ·simp [loL,List.getD_eq_getElem?_getD,h]
 ·rw [Zf4 (by rw [loL_len];exact h),Zf4 h];rfl
theorem tpU_len {p:List Int} {K:List Bool}:(tpU p K).length=K.length:=by simp [tpU]
theorem Zdx {p:List Int} {K:List Bool} {v:Nat}:(tpU p K).getD v false=(K.getD v false && decide (p.getD v 0=tpP p K)):=by
 rcases Nat.lt_or_ge v K.length with h|h
 ·simp [tpU,List.getD_eq_getElem?_getD,h]
 ·rw [Zf4 (by rw [tpU_len];exact h),Zf4 h];rfl
theorem Zc3 {l:List Bool} {n v:Nat} (hl:l.length≤n):v∈kp l n↔l.getD v false=true :=
 ⟨fun h=>(List.mem_filter.1 h).2,fun h=>List.mem_filter.2 ⟨List.mem_range.2 (Zck hl h),h⟩⟩
theorem tpL_le {p:List Int}:∀ {ks:List Nat} {a:Int} {v:Nat},v∈ks→p.getD v 0≤ks.foldl (fun m v=>max m (p.getD v 0)) a
 |[],_,_,h=>absurd h List.not_mem_nil
 |k :: ks,a,v,h=>by
  have hmono:∀ (ks:List Nat) (a:Int),a≤ks.foldl (fun m v=>max m (p.getD v 0)) a:=fun ks=>by
   induction ks with
   |nil=>exact fun a=>Int.le_refl a
   |cons k ks ih=>exact fun a=>Int.le_trans (Int.le_max_left _ _) (ih _)
  rcases List.mem_cons.1 h with rfl|h
  ·exact Int.le_trans (Int.le_max_right _ _) (hmono ks _)
  ·exact tpL_le (ks:=ks) h
theorem tpL_at {p:List Int}:∀ {ks:List Nat} {a:Int},ks.foldl (fun m v=>max m (p.getD v 0)) a=a∨∃ v,v∈ks∧p.getD v 0=ks.foldl (fun m v=>max m (p.getD v 0)) a
 |[],a=>.inl rfl
 |k :: ks,a=>by
  rcases tpL_at (p:=p) (ks:=ks) (a:=max a (p.getD k 0)) with h|⟨v,h1,h2⟩
  ·rcases Int.le_total a (p.getD k 0) with h3|h3
   ·exact .inr ⟨k,List.mem_cons_self,by
     show _=ks.foldl _ (max a (p.getD k 0))
     rw [h,Int.max_eq_right h3]⟩
   ·refine .inl ?_
    show ks.foldl _ (max a (p.getD k 0))=a
    rw [h,Int.max_eq_left h3]
  ·exact .inr ⟨v,List.mem_cons_of_mem _ h1,h2⟩
theorem Zly {p:List Int} {K:List Bool} (h:0≤tpP p K):∃ v,v∈kp K K.length∧p.getD v 0=tpP p K:=by
 rcases tpL_at (p:=p) (ks:=kp K K.length) (a := -1) with h1|h1
 ·have:tpP p K = -1:=h1
  omega
 ·exact h1
theorem tp_le {p:List Int} {K:List Bool} {v:Nat} (h:v∈kp K K.length):p.getD v 0≤tpP p K:=tpL_le h
theorem Zem {g:Gm} {q:Int} {to K:List Bool} {L:List (Nat × Nat)} {es:List (Int × Int × Nat)} (hK:K.length=g.own.length) (htl:to.length≤g.own.length) (h:AQ g q to K L es (qo to g.own.length L).length []) (hne:∃ v,to.getD v false=true)
  (hT:∀ u,K.getD u false=true→∃ v,v∈sc g.nxt u∧K.getD v false=true) :
  (∀ u,(woL K (atB to g.own.length L)).getD u false=true→∃ v,v∈sc g.nxt u∧(woL K (atB to g.own.length L)).getD v false=true)∧cntZ g.own.length (fun v=>(woL K (atB to g.own.length L)).getD v false) < cntZ g.own.length (fun v=>K.getD v false):=by
 have hiff:∀ v,(woL K (atB to g.own.length L)).getD v false=true↔K.getD v false=true∧¬ v∈qo to g.own.length L:=fun v=>by
  rw [Ziw,Bool.and_eq_true,Bool.not_eq_true']
  constructor
  ·rintro ⟨h1,h2⟩
   exact ⟨h1,fun hq=>by rw [(Zec (Zck (by omega) h1)).2 hq] at h2;cases h2⟩
  ·rintro ⟨h1,h2⟩
   exact ⟨h1,Bool.eq_false_iff.2 fun hq=>h2 ((Zec (Zck (by omega) h1)).1 hq)⟩
 refine ⟨fun u hu=>?_,?_⟩
 ·obtain ⟨v,h1,h2⟩:=(Znh h).trap hT u ((hiff u).1 hu)
  exact ⟨v,h1,(hiff v).2 h2⟩
 ·obtain ⟨v,hv⟩:=hne
  have hq:v∈qo to g.own.length L:=List.mem_append_left _ ((Zc3 htl).2 hv)
  have hKv:=h.ql v hq
  exact Zn9 (v:=v) (fun u hu=>((hiff u).1 hu).1) (Zck (by omega) hKv) hKv (Bool.eq_false_iff.2 fun e=>((hiff v).1 e).2 hq)
open Go Pl
def spWi : Nat→Option Spec
 |55=>some membersS
 |54=>some withoutS
 |_=>none
theorem Zba : SpOK Tryz.prog spWi:=by
 intro f S h
 unfold spWi at h
 split at h
 ·cases h;exact members_ok
 ·cases h;exact without_ok
 ·cases h
structure ZS where
 K:List Bool
 W:List Int
 C:List Int
 left:Int
structure ZI (g:Gm) (t:ZS):Prop where
 lK:t.K.length=g.own.length
 lW:t.W.length=g.own.length
 lC:t.C.length=g.own.length
 l0:0≤t.left
 l1:t.left≤131072
 tr:∀ u,t.K.getD u false=true→∃ v,v∈sc g.nxt u∧t.K.getD v false=true
def Zar := Hd.mk (And.intro @svA.eq_1<|And.intro @spWi.eq_1<|And.intro @spWi.eq_2<|And.intro @membersS.eq_1<|And.intro @withoutS.eq_1<|And.intro @Zf0<|And.intro @Zip<|@Ziu)
set_option maxRecDepth 4000 in
set_option maxHeartbeats 4000000 in
theorem within_fp {o p:List Int} {x:List (List Int)} (hV:Zc1 ⟨o,p,x⟩):∀ (k:Nat) (s:ZS),ZI ⟨o,p,x⟩ s→cntZ o.length (fun v=>s.K.getD v false) < k →
  FP Tryz.prog 49 [.roB s.K,.own 3,.own 4] [(0,some (.box (svA o p x (Zbf x) s.left 1 2))),(1,some (.ints s.W)),(2,some (.ints s.C)),(3,some (.box (.own 0))),(4,some (.box (.fn 49 (.cons (.own 3) (.cons (.own 4) .nil)))))] 5 (fun c=>c=Zi0∧ZP ⟨o,p,x⟩ s.K s.W s.C s.left)
   fun g=>∃ W' C' l',ZR ⟨o,p,x⟩ s.K s.W s.C s.left W' C' l'∧g=⟨5,resV [],[(0,some (.box (svA o p x (Zbf x) l' 1 2))),(1,some (.ints W')),(2,some (.ints C')),(3,some (.box (.own 0))),(4,some (.box (.fn 49 (.cons (.own 3) (.cons (.own 4) .nil)))))]⟩
 |0,s,_,h=>absurd h (Nat.not_lt_zero _)
 |k+1,s,hs,hk=>by
  obtain ⟨hn,hpl,hxl,hpos⟩:=id hV
  simp only [Gm.n] at hn hpl hxl
  refine Zoq htb (fn:=Tryz.f49) (by kernel_rfl) (by kernel_rfl) rfl (Nat.le_of_ble_eq_true rfl) fun hl=>?_
  simp only [lenP,mkL,lim] at hl
  refine awp_mark0 rfl ?_
  repeat' first|exact gE|refine gS Zba Zar [0] ?_|refine gO Zba Zar [0] ?_ ?_|refine gC ?_ ?_<;>intro hb
  refine Zag (τ:=ZS) (fun t=>ZI ⟨o,p,x⟩ t∧cntZ o.length (fun v=>t.K.getD v false)≤k∧(∀ W' C' l',ZR ⟨o,p,x⟩ t.K t.W t.C t.left W' C' l'→ZR ⟨o,p,x⟩ s.K s.W s.C s.left W' C' l')∧(ZP ⟨o,p,x⟩ t.K t.W t.C t.left→ZP ⟨o,p,x⟩ s.K s.W s.C s.left))
   (fun t=>⟨6,[(0,.roB t.K),(1,.own 3),(2,.own 4)],[(5,some .dfr),(0,some (.box (svA o p x (Zbf x) t.left 1 2))),(1,some (.ints t.W)),(2,some (.ints t.C)),(3,some (.box (.own 0))),(4,some (.box (.fn 49 (.cons (.own 3) (.cons (.own 4) .nil)))))],[5]⟩) (fun t=>cntZ o.length (fun v=>t.K.getD v false)) s [] ?_ ⟨hs,by omega,fun _ _ _ h=>h,id⟩ ?_
  ·first|exact leZ Zar|refine leA Zar ?_|refine leB Zar ?_ ?_
  rintro t ⟨hw,hkk,hR,hP⟩
  have hlK:t.K.length=o.length:=hw.lK
  have hlW:t.W.length=o.length:=hw.lW
  have hlC:t.C.length=o.length:=hw.lC
  have hl0:=hw.l0
  have hl1:=hw.l1
  repeat' first|exact gE|refine gS Zba Zar [0] ?_|refine gO Zba Zar [0] ?_ ?_|refine gC ?_ ?_<;>intro hb
  refine Za2 ([_]) ([]) rfl rfl ?_
  refine gTn Zba Zar ?_ ?_
  ·first|exact oA|skip
  refine Zgz ([0,1,2]) (count_fp (o:=o) (p:=p) (x:=x) (B:=Zbf x) (left:=t.left) (W:=t.W) (C:=t.C) hl0 hl1) rfl rfl rfl rfl rfl rfl rfl rfl rfl (by simp only [rinR,rhoC,zE,evp,evx,ev1,evLoad,evStore,evBin,evIf,Zac,forall_const,z38,tb,reduceAdd,reduceSub,reduceMul,reduceEqDiff,reduceLeDiff,reduceLT,Nat.reduceBEq,Nat.reduceBNe,↓reduceIte,reduceIte,svA,spWi,membersS,withoutS,Zf0,Zip,Ziu]) ?_ ?pan1;intro gm gv gr hq m' e' l' h;obtain ⟨hlp,hq⟩:=hq;simp only [GR.mk.injEq] at hq;obtain ⟨rfl,rfl,rfl⟩:=hq;simp only [rhoC,outR,renR,dels,zE,evp,evx,ev1,evLoad,evStore,evBin,evIf,Zac,forall_const,z38,tb,reduceAdd,reduceSub,reduceMul,reduceEqDiff,reduceLeDiff,reduceLT,Nat.reduceBEq,Nat.reduceBNe,↓reduceIte,reduceIte,svA,spWi,membersS,withoutS,Zf0,Zip,Ziu] at h;obtain ⟨rfl,rfl,rfl⟩:=h;refine Zaf ?_
  case pan1 =>
   rintro c ⟨rfl,h0⟩
   repeat' first|with_reducible refine Zi1 ?_|with_reducible refine Zhq ?_
   exact panP (⟨rfl,hP (h0▸.here)⟩) (fun k hk=>by rw [List.mem_singleton.1 hk];rfl) (by show List.Nodup [5];decide)
  refine gT Zba Zar ?_ ?_
  ·first|exact oA|skip
  repeat' first|exact gE|refine gS Zba Zar [1] ?_|refine gO Zba Zar [1] ?_ ?_|refine gC ?_ ?_<;>intro hb
  refine Za2 ([_,_]) ([_,_,_,_,_,_,_]) rfl rfl ?_
  refine gTn Zba Zar ?_ ?_
  ·first|exact oA|skip
  refine gCl ([0,1,2]) (top_fg (o:=o) (p:=p) (x:=x) (B:=Zbf x) (left:=t.left - 1) (W:=t.W) (C:=t.C) (l:=t.K) (by omega) (by omega)) Zar ?_
  refine gT Zba Zar ?_ ?_
  ·first|exact oA|skip
  repeat' first|exact gE|refine gS Zba Zar [5] ?_|refine gO Zba Zar [5] ?_ ?_|refine gC ?_ ?_<;>intro hb
  ·refine retP ?_
   refine ⟨_,_,rfl,rfl,fun k hk=>by rw [List.mem_singleton.1 hk];rfl,(by show List.Nodup [5];decide),by show 5≤18;omega,Zbe ⟨5,resV [],[(0,some (.box (svA o p x (Zbf x) (t.left - 1) 1 2))),(1,some (.ints t.W)),(2,some (.ints t.C)),(3,some (.box (.own 0))),(4,some (.box (.fn 49 (.cons (.own 3) (.cons (.own 4) .nil)))))]⟩ [] ⟨_,_,_,hR _ _ _ (.done hb hlp),rfl⟩ rfl (Zal rfl) ?_⟩
   simp only [grR,zE,evp,evx,ev1,evLoad,evStore,evBin,evIf,Zac,forall_const,z38,tb,reduceAdd,reduceSub,reduceMul,reduceEqDiff,reduceLeDiff,reduceLT,Nat.reduceBEq,Nat.reduceBNe,↓reduceIte,reduceIte,svA,spWi,membersS,withoutS,Zf0,Zip,Ziu]
  have htp:0≤tpP p t.K:=hb
  have htl:(tpU p t.K).length=o.length:=tpU_len.trans hlK
  refine Za2 ([_,_,_,_,_]) ([_]) rfl rfl ?_
  refine gTn Zba Zar ?_ ?_
  ·first|exact oA|skip
  refine gCo ([0,1,2,23,22]) (attract1_fg (o:=o) (p:=p) (x:=x) (left:=t.left - 1) (pl:=tpP p t.K % 2) (to:=tpU p t.K) (l:=t.K) (W:=fun _=>t.W) (C:=fun _=>t.C) (E:=fun L=>(mpF L).1) (T:=fun L=>(mpF L).2) hV htl hlK (fun u hu=>by have:=(Zc3 (by omega)).1 hu;rw [Zdx,Bool.and_eq_true] at this;exact this.1) hw.tr (fun L v w hv=>by simp only [Zk0];exact take1_fg)) Zar ?_;intro gm gv gr hq m' e' l' h;obtain ⟨L,es,hAQ,hq⟩:=hq;refine gCf hq h Zar ?_
  refine gT Zba Zar ?_ ?_
  ·first|exact oA|skip
  have hne:∃ v,(tpU p t.K).getD v false=true:=by
   obtain ⟨v,h1,h2⟩:=Zly htp
   exact ⟨v,by rw [Zdx,(Zc3 (Nat.le_refl _)).1 h1,h2];simp⟩
  obtain ⟨hsT,hsk⟩:=Zem (g:=⟨o,p,x⟩) hlK (by show (tpU p t.K).length≤o.length;omega) hAQ hne hw.tr
  dsimp only at hsT hsk
  have hal:(atB (tpU p t.K) o.length L).length=o.length:=Zlr
  obtain ⟨sub,hsub⟩:∃ l,l=woL t.K (atB (tpU p t.K) o.length L):=⟨_,rfl⟩
  have hsl:sub.length=o.length:=by rw [hsub];exact woL_len.trans hlK
  have hsI:ZI ⟨o,p,x⟩ ⟨sub,t.W,t.C,t.left - 1⟩:=⟨hsl,hlW,hlC,by dsimp only;omega,by dsimp only;omega,by rw [hsub];exact hsT⟩
  have hsK:cntZ o.length (fun v=>sub.getD v false) < k:=by rw [hsub];omega
  repeat' first|exact gE|refine gS Zba Zar [7] ?_|refine gO Zba Zar [7] ?_ ?_|refine gC ?_ ?_<;>intro hb
  rw [←hsub]
  refine Za2 ([_,_]) ([]) rfl rfl ?_
  refine gTn Zba Zar ?_ ?_
  ·first|exact oA|skip
  refine Zgz ([0,1,2,3,4]) (within_fp hV k ⟨sub,t.W,t.C,t.left - 1⟩ hsI hsK) rfl rfl rfl rfl rfl rfl rfl rfl rfl (by simp only [rinR,rhoC,zE,evp,evx,ev1,evLoad,evStore,evBin,evIf,Zac,forall_const,z38,tb,reduceAdd,reduceSub,reduceMul,reduceEqDiff,reduceLeDiff,reduceLT,Nat.reduceBEq,Nat.reduceBNe,↓reduceIte,reduceIte,svA,spWi,membersS,withoutS,Zf0,Zip,Ziu]) ?_ ?pan2;intro gm gv gr hq m' e' l' h;obtain ⟨W1,C1,left1,hZ,hq⟩:=hq;simp only [GR.mk.injEq] at hq;obtain ⟨rfl,rfl,rfl⟩:=hq;simp only [rhoC,outR,renR,dels,zE,evp,evx,ev1,evLoad,evStore,evBin,evIf,Zac,forall_const,z38,tb,reduceAdd,reduceSub,reduceMul,reduceEqDiff,reduceLeDiff,reduceLT,Nat.reduceBEq,Nat.reduceBNe,↓reduceIte,reduceIte,svA,spWi,membersS,withoutS,Zf0,Zip,Ziu] at h;obtain ⟨rfl,rfl,rfl⟩:=h;refine Zaf ?_
  case pan2 =>
   rintro c ⟨rfl,h0⟩
   repeat' first|with_reducible refine Zi1 ?_|with_reducible refine Zhq ?_
   exact panP (⟨rfl,hP (.sub htp hlp hAQ (hsub▸h0))⟩) (fun k hk=>by rw [List.mem_singleton.1 hk];rfl) (by show List.Nodup [5];decide)
  refine gT Zba Zar ?_ ?_
  ·first|exact oA|skip
  obtain ⟨hW1,hC1,hl1a,hl1b⟩:=Zjd hZ
  dsimp only at hW1 hC1 hl1b
  repeat' first|exact gE|refine gS Zba Zar [14] ?_|refine gO Zba Zar [14] ?_ ?_|refine gC ?_ ?_<;>intro hb
  obtain ⟨pl,hpl2⟩:∃ q,q=tpP p t.K % 2:=⟨_,rfl⟩
  rw [←hpl2]
  have hp01:pl=0∨pl=1:=by omega
  obtain ⟨F,hF⟩:∃ F:Nat→List Bool,F=stB sub fun v => !decide (W1.getD v 0=pl):=⟨_,rfl⟩
  obtain ⟨A,hA⟩:∃ A:Nat→Bool,A=fun i=>((kp sub sub.length).take i).any fun v => !decide (W1.getD v 0=pl):=⟨_,rfl⟩
  have hFl:∀ i,(F i).length=sub.length:=fun i=>by rw [hF];exact Zjf
  have hFn:∀ i,i < (kp sub sub.length).length→(F i).set ((kp sub sub.length).getD i 0) (!decide (W1.getD ((kp sub sub.length).getD i 0) 0=pl))=F (i+1):=fun i h=>by rw [hF];exact Zhh h
  have hAn:∀ i,i < (kp sub sub.length).length→(A i || !decide (W1.getD ((kp sub sub.length).getD i 0) 0=pl))=A (i+1):=fun i h=>by
   rw [hA]
   show _=List.any (List.take (i+1) _) _
   rw [Zff (d:=0) h,List.any_append,List.any_cons,List.any_nil,Bool.or_false]
  refine Zfm ⟨46,[(45,.fn 74 (.cons (.rop (.roB sub)) .nil)),(12,.own 42),(11,.own 40),(10,.roB sub),(9,.roB (atB (tpU p t.K) o.length L)),(8,.own 23),(7,.own 20),(4,.roB (tpU p t.K)),(0,.roB t.K),(1,.own 3),(2,.own 4)],[(42,some (.box (.bool (A 0)))),(40,some (.box (.own 39))),(39,some (.bools (F 0))),(20,some (.box (.int .i64 pl))),(5,some .dfr),(22,some (.mp (mpF L).fst (mpF L).snd)),(23,some (.box (.own 22))),(0,some (.box (svA o p x (Zbf x) left1 1 2))),(1,some (.ints W1)),(2,some (.ints C1)),(3,some (.box (.own 0))),(4,some (.box (.fn 49 (.cons (.own 3) (.cons (.own 4) .nil)))))],[5]⟩ [] ?_ ?_
  ·first|exact leZ Zar|refine leA Zar ?_|refine leB Zar ?_ ?_
   rw [hA,hF]
   exact ⟨rfl,by rw [hlK,←hsl];exact Zhg⟩
  refine Zeb (m:=46) (M:=46) (fun i=>i≤(kp sub sub.length).length) (fun _:Nat=>False) (fun i=>(((kp sub sub.length).getD i 0:Nat):Int)) (fun i=>i < (kp sub sub.length).length) (fun i i'=>i'=i+1) (fun i=>i=0) (fun i=>i=(kp sub sub.length).length) .ret (fun i=>[(42,some (.box (.bool (A i)))),(40,some (.box (.own 39))),(39,some (.bools (F i))),(20,some (.box (.int .i64 pl))),(5,some .dfr),(22,some (.mp (mpF L).fst (mpF L).snd)),(23,some (.box (.own 22))),(0,some (.box (svA o p x (Zbf x) left1 1 2))),(1,some (.ints W1)),(2,some (.ints C1)),(3,some (.box (.own 0))),(4,some (.box (.fn 49 (.cons (.own 3) (.cons (.own 4) .nil)))))]) [5] 0 (Zcw sub _ _ id fun t h=>h) (Nat.zero_le _) rfl rfl rfl rfl rfl rfl rfl (fun k hk=>by rw [List.mem_singleton.1 hk];rfl) (fun t k _ _ hk=>Zhm (M:=46) (l:=[(42,some (.box (.bool (A t)))),(40,some (.box (.own 39))),(39,some (.bools (F t))),(20,some (.box (.int .i64 pl))),(5,some .dfr),(22,some (.mp (mpF L).fst (mpF L).snd)),(23,some (.box (.own 22))),(0,some (.box (svA o p x _ _ 1 2))),(1,some (.ints W1)),(2,some (.ints C1)),(3,some (.box (.own 0))),(4,some (.box (.fn 49 (.cons (.own 3) (.cons (.own 4) .nil)))))]) ⟨⟨rfl,rfl⟩,⟨rfl,rfl⟩,⟨rfl,trivial⟩,⟨rfl,rfl⟩,⟨rfl,trivial⟩,⟨rfl,trivial⟩,⟨rfl,rfl⟩,⟨rfl,rfl⟩,⟨rfl,trivial⟩,⟨rfl,trivial⟩,⟨rfl,rfl⟩,⟨rfl,rfl⟩,trivial⟩ k _ hk) ?_ ?_ ?_
  ·intro lp i hi hg
   obtain ⟨hv1,hv2⟩:=Ziq hg
   have hFn1:=hFn i hg
   have hAn1:=hAn i hg
   generalize hvv:(kp sub sub.length).getD i 0=v at *
   have hFi:=hFl i
   have hgs:((F i).set v (!decide (W1.getD v 0=pl))).getD v false = !decide (W1.getD v 0=pl):=by simp [List.getD_eq_getElem?_getD,hFi,hv1]
   refine gR Zba Zar ?_ ?_
   ·first|exact oA|skip
   refine ⟨rfl,?_⟩
   repeat' first|exact gE|refine gS Zba Zar [] ?_|refine gO Zba Zar [] ?_ ?_|refine gC ?_ ?_<;>intro hb
   refine ⟨_,i+1,[],rfl,?_,.inl ⟨rfl,hg,rfl⟩⟩
   first|exact leZ Zar|refine leA Zar ?_|refine leB Zar ?_ ?_
   rw [hgs]
   exact ⟨hAn1,hFn1⟩
  ·intro i hi hfin
   have hfin:i=(kp sub sub.length).length:=hfin
   repeat' first|exact gE|refine gS Zba Zar [14] ?_|refine gO Zba Zar [14] ?_ ?_|refine gC ?_ ?_<;>intro hb
   refine awp_joinM 46 5 rfl rfl rfl rfl ?_
   simp only [dels,zE,evp,evx,ev1,evLoad,evStore,evBin,evIf,Zac,forall_const,z38,tb,reduceAdd,reduceSub,reduceMul,reduceEqDiff,reduceLeDiff,reduceLT,Nat.reduceBEq,Nat.reduceBNe,↓reduceIte,reduceIte,svA,spWi,membersS,withoutS,Zf0,Zip,Ziu]
   have hFe:F i=loL sub W1 pl:=by rw [hF,hfin,Zjg];rfl
   have hAe:∀ b,A i=b→(kp sub sub.length).any (fun v => !decide (W1.getD v 0=pl))=b:=fun b h=>by
    rw [hA,hfin] at h
    have h:List.any (List.take _ _) _=b:=h
    rwa [List.take_length] at h
   have h6:∀ v,v < o.length→(x.getD v []).length≤64:=fun v h=>by
    obtain ⟨⟨a1,a2,a3,a4,_,a6⟩,_⟩:=hpos v (by simp only [Gm.n];omega)
    exact a6
   have hrb:∀ v,v < o.length→∀ j,j < (x.getD v []).length→0≤(x.getD v []).getD j 0∧(x.getD v []).getD j 0 < (o.length:Int):=fun v h j hj=>by
    obtain ⟨_,hr⟩:=hpos v (by simp only [Gm.n];omega)
    exact ⟨(hr j hj).1,(hr j hj).2.1⟩
   rw [hFe]
   clear hFe hF hFl hFn hAn F
   repeat' first|exact gE|refine gS Zba Zar [15,16] ?_|refine gO Zba Zar [15,16] ?_ ?_|refine gC ?_ ?_<;>intro hb
   ·have hall:∀ v,v∈kp sub o.length→W1.getD v 0=pl:=fun v hv=>by
     have h1:=List.any_eq_false.1 (hAe _ hb) v (by rw [hsl];exact hv)
     simpa using h1
    refine Za2 ([_,_,_,_,_,_]) ([]) rfl rfl ?_
    refine gTn Zba Zar ?_ ?_
    ·first|exact oA|skip
    refine gCl ([0,1,2,22]) (settle_fg (o:=o) (p:=p) (x:=x) (B:=Zbf x) (left:=left1) (W:=W1) (C:=C1) (a:=atB (tpU p t.K) o.length L) (u:=tpU p t.K) (l:=t.K) (pl:=pl) (es:=(mpF L).1) (c:=(mpF L).2) hn hxl hal htl hlK (by omega) (by omega) hrb h6) Zar ?_
    refine gT Zba Zar ?_ ?_
    ·first|exact oA|skip
    repeat' first|exact gE|refine gS Zba Zar [] ?_|refine gO Zba Zar [] ?_ ?_|refine gC ?_ ?_<;>intro hb
    refine retP ?_
    refine ⟨_,_,rfl,rfl,fun k hk=>by rw [List.mem_singleton.1 hk];rfl,(by show List.Nodup [47];decide),by show 5≤56;omega,Zbe ⟨5,resV [],[(0,some (.box (svA o p x (Zbf x) left1 1 2))),(1,some (.ints (fsL (fun _=>pl) (kp (atB (tpU p t.K) o.length L) o.length) W1))),(2,some (.ints (fsL (stC o x (tpU p t.K) t.K pl (mpF L).1) (kp (atB (tpU p t.K) o.length L) o.length) C1))),(3,some (.box (.own 0))),(4,some (.box (.fn 49 (.cons (.own 3) (.cons (.own 4) .nil)))))]⟩ [] ⟨_,_,_,hR _ _ _ (by rw [hpl2];exact .all htp hlp hAQ (hsub▸hZ) (by rw [hsub,hpl2] at hall;exact hall)),rfl⟩ rfl (Zal rfl) ?_⟩
    simp only [grR,zE,evp,evx,ev1,evLoad,evStore,evBin,evIf,Zac,forall_const,z38,tb,reduceAdd,reduceSub,reduceMul,reduceEqDiff,reduceLeDiff,reduceLT,Nat.reduceBEq,Nat.reduceBNe,↓reduceIte,reduceIte,svA,spWi,membersS,withoutS,Zf0,Zip,Ziu]
   ·have hex:∃ v,v∈kp sub o.length∧W1.getD v 0≠pl:=by
     obtain ⟨v,h1,h2⟩:=List.any_eq_true.1 (hAe _ hb)
     exact ⟨v,by rw [←hsl];exact h1,by simpa using h2⟩
    refine Zbb 39 (.roB (loL sub W1 pl)) ?_
    have hll:(loL sub W1 pl).length=o.length:=loL_len.trans hsl
    have hlK2:∀ u,u∈kp (loL sub W1 pl) o.length→t.K.getD u false=true:=fun u hu=>by
     have h1:=(Zc3 (by omega)).1 hu
     rw [Zhv,Bool.and_eq_true] at h1
     have h2:=h1.1
     rw [hsub,Ziw,Bool.and_eq_true] at h2
     exact h2.1
    refine Za2 ([_,_,_,_,_,_]) ([_]) rfl rfl ?_
    refine gTn Zba Zar ?_ ?_
    ·first|exact oA|skip
    refine gCo ([0,1,2,3,20]) (attract2_fg (o:=o) (p:=p) (x:=x) (left:=left1) (pl:=1 - pl) (to:=loL sub W1 pl) (l:=t.K) (W:=wF (1 - pl) W1) (C:=cFz o (1 - pl) C1) (pt:=pl) hV hll hlK hlK2 hw.tr (fun L v w hv=>by simp only [wF_snoc,cF_snoc];exact take2_fg hv (wF_len.trans (by omega)) (cF_len.trans (by omega)) hp01)) Zar ?_;intro gm gv gr hq m' e' l' h;obtain ⟨L2,es2,hAQ2,hq⟩:=hq;refine gCf hq h Zar ?_
    refine gT Zba Zar ?_ ?_
    ·first|exact oA|skip
    have hne2:∃ v,(loL sub W1 pl).getD v false=true:=by
     obtain ⟨v,h1,h2⟩:=hex
     exact ⟨v,by rw [Zhv,(Zc3 (by omega)).1 h1];simpa using h2⟩
    obtain ⟨hrT,hrk⟩:=Zem (g:=⟨o,p,x⟩) hlK (by show (loL sub W1 pl).length≤o.length;omega) hAQ2 hne2 hw.tr
    dsimp only at hrT hrk
    have hal2:(atB (loL sub W1 pl) o.length L2).length=o.length:=Zlr
    repeat' first|exact gE|refine gS Zba Zar [] ?_|refine gO Zba Zar [] ?_ ?_|refine gC ?_ ?_<;>intro hb
    refine back ⟨woL t.K (atB (loL sub W1 pl) o.length L2),wF (1 - pl) W1 L2,cFz o (1 - pl) C1 L2,left1⟩ [(5,47)] ?_ ⟨⟨woL_len.trans hlK,wF_len.trans (hW1.trans hlW),cF_len.trans (hC1.trans hlC),hl1a,by dsimp only;omega,hrT⟩,by dsimp only;omega,fun W' C' l' h=>hR _ _ _ ?_,fun h=>hP ?_⟩ hrk
    ·first|exact leZ Zar|refine leA Zar ?_|refine leB Zar ?_ ?_
    ·rw [hpl2,hsub] at h hex hAQ2
     exact .part htp hlp hAQ (hsub▸hZ) hex hAQ2 h
    ·rw [hpl2,hsub] at h hex hAQ2
     exact .rest htp hlp hAQ (hsub▸hZ) hex hAQ2 h
  ·intro t h;exact h.elim
open Go Pl
def Zic := Hd.mk (@svA.eq_1)
set_option maxRecDepth 4000 in
set_option maxHeartbeats 4000000 in
theorem solve_fp {o p:List Int} {x:List (List Int)} (hV:Zc1 ⟨o,p,x⟩) {s:ZS} (hs:ZI ⟨o,p,x⟩ s) :
  FP Tryz.prog 31 [.own 0,.roB s.K] [(0,some (.box (svA o p x (Zbf x) s.left 1 2))),(1,some (.ints s.W)),(2,some (.ints s.C))] 3 (fun c=>c=Zi0∧ZP ⟨o,p,x⟩ s.K s.W s.C s.left)
   fun g=>∃ W' C' l',ZR ⟨o,p,x⟩ s.K s.W s.C s.left W' C' l'∧g=⟨3,resV [],[(0,some (.box (svA o p x (Zbf x) l' 1 2))),(1,some (.ints W')),(2,some (.ints C'))]⟩:=by
 refine Zoq htb (fn:=Tryz.f31) (by kernel_rfl) (by kernel_rfl) rfl (Nat.le_of_ble_eq_true rfl) fun hl=>?_
 simp only [lenP,mkL,lim] at hl
 repeat' first|exact gE|refine gS noSp Zic [3] ?_|refine gO noSp Zic [3] ?_ ?_|refine gC ?_ ?_<;>intro hb
 refine Za2 ([_,_]) ([]) rfl rfl ?_
 refine gTn noSp Zic ?_ ?_
 ·first|exact oA|skip
 refine Zgz ([0,1,2,3,4]) (within_fp hV (cntZ o.length (fun v=>s.K.getD v false)+1) s hs (Nat.lt_succ_self _)) rfl rfl rfl rfl rfl rfl rfl rfl rfl (by simp only [rinR,rhoC,zE,evp,evx,ev1,evLoad,evStore,evBin,evIf,Zac,forall_const,z38,tb,reduceAdd,reduceSub,reduceMul,reduceEqDiff,reduceLeDiff,reduceLT,Nat.reduceBEq,Nat.reduceBNe,↓reduceIte,reduceIte,svA]) ?_ ?pan1;intro gm gv gr hq m' e' l' h;obtain ⟨W',C',l',hZ,hq⟩:=hq;simp only [GR.mk.injEq] at hq;obtain ⟨rfl,rfl,rfl⟩:=hq;simp only [rhoC,outR,renR,dels,zE,evp,evx,ev1,evLoad,evStore,evBin,evIf,Zac,forall_const,z38,tb,reduceAdd,reduceSub,reduceMul,reduceEqDiff,reduceLeDiff,reduceLT,Nat.reduceBEq,Nat.reduceBNe,↓reduceIte,reduceIte,svA] at h;obtain ⟨rfl,rfl,rfl⟩:=h;refine Zaf ?_
 case pan1 =>
  rintro c hc
  repeat' first|with_reducible refine Zi1 ?_|with_reducible refine Zhq ?_
  exact panP hc (fun k hk=>by cases hk) List.nodup_nil
 refine gT noSp Zic ?_ ?_
 ·first|exact oA|skip
 repeat' first|exact gE|refine gS noSp Zic [] ?_|refine gO noSp Zic [] ?_ ?_|refine gC ?_ ?_<;>intro hb
 refine normalP ?_
 refine Zc0 rfl rfl (Zbe ⟨3,resV [],[(0,some (.box (svA o p x (Zbf x) l' 1 2))),(1,some (.ints W')),(2,some (.ints C'))]⟩ [] ⟨W',C',l',hZ,rfl⟩ rfl (Zal rfl) ?_)
 simp only [grR,zE,evp,evx,ev1,evLoad,evStore,evBin,evIf,Zac,forall_const,z38,tb,reduceAdd,reduceSub,reduceMul,reduceEqDiff,reduceLeDiff,reduceLT,Nat.reduceBEq,Nat.reduceBNe,↓reduceIte,reduceIte,svA]
open Go Pl
section
variable {P:Program} {N κ:Nat} {tb:Nat→Option TI}
theorem awpL_new0 {o1 o2:Oper} {t:List Oper} {ty d s m:Nat} {env:List (Nat × AV)} {l:List (Nat × Option Blk)} {ms:List Nat} {Q:Exit→St→Prop} (h1:o1.op=.alloc ty) (g1:o1.guard=none) (k1:o1.dst=some d) (h2:o2.op=.store ty (.tmp d) (.tmp s)) (g2:o2.guard=none) (k2:o2.dst=none) (hN:Nat.blt d N=true) (hs:lke ((d,.any) :: env) s=.agg .nil)
  (hA:∀ w,(Instr.alloc ty true (.tuple #[])).run P w=.ok (.pointer (some ⟨w.heap.size,0,none⟩)) (w.alloc (.cells #[] ty))) (hS:∀ b w,(Instr.storeAt ty (.pointer (some ⟨b,0,none⟩)) (.agg #[])).run P w=.ok () w)
  (h:awpL P none N κ t (CS.st ⟨m,(d,.any) :: env,l,ms⟩) Q):awpL P none N κ (o1 :: o2 :: t) (CS.st ⟨m,env,l,ms⟩) Q:=by
 intro n K Z ν w a hg
 have hw:∀ (o:Oper) (b:Act),o.guard=none→Region.wanted o (yielded #[] b.tmps)=true:=fun o b ho=>Za8 (by rw [ho];rfl) _
 rw [Nat.blt_eq] at hN
 simp only [wpListIn,hw o1 _ g1,hw o2 _ g2,if_true]
 have r1:(o1.semAt (FF none).round a.eval).run P w=.ok (.value (.pointer (some ⟨w.heap.size,0,none⟩))) (w.alloc (.cells #[] ty)):=by
  rw [Zbq (fun c hc=>by rw [h1] at hc;cases hc)]
  simp [execOp,h1,Sem.run_bind,hA,Result.andThen,Sem.run]
 have hst:=Zds (Z:=Z) hg.kl (.cells #[] ty)
 have hg':Good K Z N (w.alloc (.cells #[] ty)) ν (CS.st ⟨m,env,l,ms⟩) a :=
  ⟨hg.size,hg.one,fun s=>⟨(hg.env s).1,Zbc (fun _ h=>h) (fun b hb=>hst.ext.block b (hg.zk b hb)) (hg.env s).2⟩,hg.rs.mono (fun _ h=>h) (fun b hb=>Zbi _ (hg.kl b (hg.zk b hb))) (by simp) (fun b hb=>.inl hb) (fun b _ hb=>Zbi _ hb),hg.zk,fun b hb=>by have:=hg.kl b hb;simp;omega,hg.ds,hg.ml⟩
 have g3:=Good.setd (o:=o1.dst) (v:=.any) (y:=.pointer (some ⟨w.heap.size,0,none⟩)) hg' (fun d' h=>by rw [k1] at h;cases h;exact hN) ⟨_,rfl⟩ rfl
 have he:(CS.st ⟨m,(d,.any) :: env,l,ms⟩)={ (CS.st ⟨m,env,l,ms⟩) with env:=putO (CS.st ⟨m,env,l,ms⟩).env o1.dst .any }:=by
  rw [k1]
  show St.mk _ _ _ _=St.mk _ _ _ _
  congr 1
 rw [←he] at g3
 have ed:(a.put o1.dst (.pointer (some ⟨w.heap.size,0,none⟩))).eval (.tmp d)=.pointer (some ⟨w.heap.size,0,none⟩):=by
  have:=hg.size
  simp [k1,Act.put,Act.eval,Array.getD_eq_getD_getElem?,this,hN]
 have es:(a.put o1.dst (.pointer (some ⟨w.heap.size,0,none⟩))).eval (.tmp s)=.agg #[]:=by
  have:=Zih (σ:=CS.st ⟨m,(d,.any) :: env,l,ms⟩) g3 (.tmp s)
  rw [show opv (CS.st ⟨m,(d,.any) :: env,l,ms⟩).env (.tmp s)=.agg .nil from hs] at this
  obtain ⟨es,e,r⟩:=this
  rw [show es=[] from r] at e
  exact one1 e
 have r2:(o2.semAt (FF none).round (a.put o1.dst (.pointer (some ⟨w.heap.size,0,none⟩))).eval).run P (w.alloc (.cells #[] ty))=.ok .skip (w.alloc (.cells #[] ty)):=by
  rw [Zbq (fun c hc=>by rw [h2] at hc;cases hc)]
  simp [execOp,h2,Sem.run_bind,ed,es,hS,Result.andThen,Sem.run]
 refine ⟨fun f hf=>trivial,?_⟩
 rw [r1]
 refine ⟨fun f hf=>trivial,?_⟩
 rw [r2,Oper.uponIn_skip]
 have e2:(a.put o1.dst (.pointer (some ⟨w.heap.size,0,none⟩))).put o2.dst undef=a.put o1.dst (.pointer (some ⟨w.heap.size,0,none⟩)):=by rw [k2];rfl
 rw [e2]
 have hh:=h n K Z ν _ _ g3
 refine Zcc (fun e a2 w2 hp=>?_) hh
 obtain ⟨Z',ν',σ',hs,hk,hg2,hq⟩:=hp
 exact ⟨Z',ν',σ',hst.trans (by rw [Zbt hg.zk];exact hs),hk,hg2,hq⟩
theorem Ze8 {o:Oper} {t:List Oper} {d m:Nat} {v:Value} {u:AV} {env:List (Nat × AV)} {l:List (Nat × Option Blk)} {ms:List Nat} {Q:Exit→St→Prop} (hd:o.dst=some d) (hN:Nat.blt d N=true) (hgd:o.guard=none) (hp:∀ c,o.op≠.defer c)
  (hrun:∀ (ρ:Operand→Value) (w:World),(∀ s x,lke env s=.cst x→ρ (.tmp s)=x)→(∀ c,ρ (.const c)=c)→(execOp ρ o).run P w=.ok (.value v) w)
  (hu:∀ Z w ν,R Z w u ν true [v]) (hm:∀ μ,men μ u=true) (h:awpL P none N κ t (CS.st ⟨m,(d,u) :: env,l,ms⟩) Q):awpL P none N κ (o :: t) (CS.st ⟨m,env,l,ms⟩) Q:=by
 intro n K Z ν w a hg
 have hw:Region.wanted o (yielded #[] a.tmps)=true:=Za8 (by rw [hgd];rfl) _
 simp only [wpListIn,hw,if_true]
 refine ⟨fun f hf=>trivial,?_⟩
 have hr:(o.semAt (FF none).round a.eval).run P w=.ok (.value v) w:=by
  rw [Zbq (fun c hc=>absurd hc (hp c))]
  refine hrun a.eval w (fun s x hs=>?_) fun c=>rfl
  have:=Zih (σ:=CS.st ⟨m,env,l,ms⟩) hg (.tmp s)
  rw [show opv (CS.st ⟨m,env,l,ms⟩).env (.tmp s)=.cst x from hs] at this
  exact one1 this
 rw [hr]
 rw [Nat.blt_eq] at hN
 have g1:=Good.setd (o:=o.dst) (v:=u) (y:=v) hg (fun d' h=>by rw [hd] at h;cases h;exact hN) (hu _ _ _) (hm _)
 have he:(CS.st ⟨m,(d,u) :: env,l,ms⟩)={ (CS.st ⟨m,env,l,ms⟩) with env:=putO (CS.st ⟨m,env,l,ms⟩).env o.dst u }:=by
  rw [hd]
  show St.mk _ _ _ _=St.mk _ _ _ _
  congr 1
 rw [←he] at g1
 exact h n K Z ν w _ g1
end
section
variable {F:Fence} {n:Nat} {P:Program} {Q:Exit→Act→List Frame→World→Prop}
theorem recover_pan {o1 o2:Oper} {d1 d2:Nat} {a:Act} {c₀:Frame} {cs:List Frame} {w:World} {v:Value} {older:List PanicEntry} (hF:∀ f,F.fn f) (h1:o1.op=.call ⟨.builtin .recover,#[],#[]⟩) (g1:o1.guard=none) (k1:o1.dst=some d1) (h2:o2.op=.assign (.tmp d1)) (g2:o2.guard=none) (k2:o2.dst=some d2)
  (hs:d1 < a.tmps.size) (hu:c₀.mode=.panicking ({ v,recovered:=false } :: older)) (h:Q .normal ((a.put (some d1) v).put (some d2) v) ({ c₀ with mode:=.panicking ({ v,recovered:=true } :: older) } :: cs) w) :
  wpOpsSIn F n P #[o1,o2] Q (List.range (#[o1,o2]:Array Oper).size) a (c₀ :: cs) w:=by
 have hw:∀ (o:Oper) (b:Act),o.guard=none→Region.wanted o (yielded #[o1,o2] b.tmps)=true:=fun o b ho=>Za8 (by rw [ho];rfl) _
 show wpOpsSIn F n P #[o1,o2] Q [0,1] a (c₀ :: cs) w
 have e0:(#[o1,o2]:Array Oper)[0]? = some o1:=rfl
 have e1:(#[o1,o2]:Array Oper)[1]? = some o2:=rfl
 have r1:(execOp a.eval o1).run P w=.ok .recover w:=by
  simp [execOp,h1,go_sem]
 have ev:(a.put (some d1) v).eval (.tmp d1)=v:=by
  simp [Act.put,Act.eval,Array.getD_eq_getD_getElem?,hs]
 have r2:(execOp (a.put (some d1) v).eval o2).run P w=.ok (.value v) w:=by
  simp only [execOp,h2,ev];rfl
 have hrec:recoverD (c₀ :: cs)=some (v,{ c₀ with mode:=.panicking ({ v,recovered:=true } :: older) } :: cs):=by
  simp only [recoverD,hu]
 simp only [wpOpsSIn,e0,e1,hw o1 _ g1,hw o2 _ g2,if_true,r1,hrec,k1,k2,r2]
 exact ⟨fun f _=>hF f,fun f _=>hF f,h⟩
theorem two_ops {o1 o2:Oper} {a:Act} {cs:List Frame} {w:World} {v1 v2:Value} (hF:∀ f,F.fn f) (g1:o1.guard=none) (g2:o2.guard=none) (r1:(execOp a.eval o1).run P w=.ok (.value v1) w) (r2:(execOp (a.put o1.dst v1).eval o2).run P w=.ok (.value v2) w)
  (h:Q .normal ((a.put o1.dst v1).put o2.dst v2) cs w):wpOpsSIn F n P #[o1,o2] Q (List.range (#[o1,o2]:Array Oper).size) a cs w:=by
 have hw:∀ (o:Oper) (b:Act),o.guard=none→Region.wanted o (yielded #[o1,o2] b.tmps)=true:=fun o b ho=>Za8 (by rw [ho];rfl) _
 show wpOpsSIn F n P #[o1,o2] Q [0,1] a cs w
 have e0:(#[o1,o2]:Array Oper)[0]? = some o1:=rfl
 have e1:(#[o1,o2]:Array Oper)[1]? = some o2:=rfl
 simp only [wpOpsSIn,e0,e1,hw o1 _ g1,hw o2 _ g2,if_true,r1,r2]
 exact ⟨fun f _=>hF f,fun f _=>hF f,h⟩
theorem recover_ret {o1 o2:Oper} {d1 d2:Nat} {a:Act} {c₀:Frame} {cs:List Frame} {w:World} (hF:∀ f,F.fn f) (h1:o1.op=.call ⟨.builtin .recover,#[],#[]⟩) (g1:o1.guard=none) (k1:o1.dst=some d1) (h2:o2.op=.assign (.tmp d1)) (g2:o2.guard=none) (k2:o2.dst=some d2)
  (hs:d1 < a.tmps.size) (hu:c₀.mode=.returning) (h:Q .normal ((a.put (some d1) .nilIface).put (some d2) .nilIface) (c₀ :: cs) w) :
  wpOpsSIn F n P #[o1,o2] Q (List.range (#[o1,o2]:Array Oper).size) a (c₀ :: cs) w:=by
 have hw:∀ (o:Oper) (b:Act),o.guard=none→Region.wanted o (yielded #[o1,o2] b.tmps)=true:=fun o b ho=>Za8 (by rw [ho];rfl) _
 show wpOpsSIn F n P #[o1,o2] Q [0,1] a (c₀ :: cs) w
 have e0:(#[o1,o2]:Array Oper)[0]? = some o1:=rfl
 have e1:(#[o1,o2]:Array Oper)[1]? = some o2:=rfl
 have r1:(execOp a.eval o1).run P w=.ok .recover w:=by
  simp [execOp,h1,go_sem]
 have ev:(a.put (some d1) .nilIface).eval (.tmp d1)=.nilIface:=by
  simp [Act.put,Act.eval,Array.getD_eq_getD_getElem?,hs]
 have r2:(execOp (a.put (some d1) .nilIface).eval o2).run P w=.ok (.value .nilIface) w:=by
  simp only [execOp,h2,ev];rfl
 have hrec:recoverD (c₀ :: cs)=none:=by
  simp only [recoverD,hu]
 simp only [wpOpsSIn,e0,e1,hw o1 _ g1,hw o2 _ g2,if_true,r1,hrec,k1,k2,r2]
 exact ⟨fun f _=>hF f,fun f _=>hF f,h⟩
end
theorem solved1_res (tmps:Array Value) (w:World):(results Tryz.f30 tmps).run Tryz.prog w=.ok (.tuple #[]) w:=by
 have h:Tryz.f30.results = #[]:=rfl
 simp [results,h,Sem.run_bind,Sem.run]
def nilR : AV:=.agg (.cons (.cst (.slice none 0 0)) (.cons (.cst (.slice none 0 0)) .nil))
def refV : Value:=.iface 73 (.agg #[])
set_option maxRecDepth 4000 in
set_option maxHeartbeats 4000000 in
theorem solved1_pan : DPan Tryz.prog 30 (fun c=>c=Zi0) nilR (.int .i64 0) nilR (.int .i64 3):=by
 unfold nilR
 rintro c K Z ν w m k1 k2 l rfl hone hrs hzk hkl hk1 hk2 hne hb1 hb2
 refine callsDIn_of_wpSIn (fn:=Tryz.f30) (by kernel_rfl) rfl trivial fun c₀ cs hu=>?_
 refine wpSIn_seq (wpSIn_region ?_)
 refine recover_pan (fun _=>trivial) rfl rfl rfl rfl rfl rfl (by simp) hu ?_
 refine wpSIn_of_wpIn rfl ?_
 have h1:∀ i,Nat.beq k1 (m+i)=false:=fun i=>beqN (by omega)
 have h2:∀ i,Nat.beq k2 (m+i)=false:=fun i=>beqN (by omega)
 have h3:Nat.beq k1 k2=false:=beqN hne
 have h4:Nat.beq k2 k1=false:=beqN fun h=>hne h.symm
 have h0:Nat.beq k1 m=false:=beqN (by omega)
 have h5:∀ B,lkr (set1 k1 B l) k2=some (.box (.int .i64 0)):=fun B=>by rw [Zf1];exact (if_neg fun h=>hne h.symm).trans hb2
 have hg0:=good_enter (κ:=m) (n:=17) (args:=[.own k1,.own k2]) (rin:=l) (vals := #[ν k1,ν k2]) (Nat.le_of_ble_eq_true rfl) hone ⟨_,_,rfl,rfl,_,_,rfl,rfl,rfl⟩ (by simp only [mkL,men,ltK,Nat.blt_eq,Bool.and_true,Bool.and_eq_true];exact ⟨hk1,hk2⟩) hrs hzk hkl
 have hg1:=Good.setd (o:=some 5) (v:=.cst refV) (y:=refV) hg0 (fun d h=>by cases h;decide) rfl rfl
 have hg2:=Good.setd (o:=some 2) (v:=.cst refV) (y:=refV) hg1 (fun d h=>by cases h;decide) rfl rfl
 have hg:Good K Z 17 w ν (CS.st ⟨m,[(2,.cst refV),(5,.cst refV),(0,.own k1),(1,.own k2)],l,[]⟩) ((({ tmps := #[ν k1,ν k2]++Array.replicate (17 - (#[ν k1,ν k2]:Array Value).size) undef,defers:=[] }:Act).put (some 5) refV).put (some 2) refV):=hg2
 refine wpIn_mono (Q:=Post 17 m K Z w ν fun e s=>e=.normal∧∃ m' env',m≤m'∧s=CS.st ⟨m',env',set1 k2 (.box (.int .i64 3)) (set1 k1 (.box nilR) l),[]⟩) ?_ ?_
 ·suffices hh:awp Tryz.prog none 17 m _ _ _ from hh 0 K Z ν w _ hg
  have hb:∀ w,(binOp .neq 20 refV .nilIface).run Tryz.prog w=.ok (.bool true) w:=fun w=>by kernel_rfl
  have hq:∀ w,(eqGuard .neq 20 (.tmp 6) (.const .nilIface) refV .nilIface).run Tryz.prog w=.ok () w:=fun w=>by kernel_rfl
  have ht:∀ w,(Instr.typeAssert refV 20 73 true).run Tryz.prog w=.ok (.tuple #[.agg #[],.bool true]) w:=fun w=>by kernel_rfl
  have hx0:∀ w,(Instr.extract (.tuple #[.agg #[],.bool true]) 0).run Tryz.prog w=.ok (.agg #[]) w:=fun w=>by kernel_rfl
  have hx1:∀ w,(Instr.extract (.tuple #[.agg #[],.bool true]) 1).run Tryz.prog w=.ok (.bool true) w:=fun w=>by kernel_rfl
  refine Zea (Zcf rfl ?_)
  refine Ze8 rfl rfl rfl (fun c h=>by cases h) (v:=refV) (u:=.cst refV) (fun ρ w h hc=>by simp [execOp,h 2 refV rfl,Sem.run]) (fun _ _ _=>rfl) (fun _=>rfl) ?_
  refine Ze8 rfl rfl rfl (fun c h=>by cases h) (v:=.bool true) (u:=.bool true) (fun ρ w h hc=>by simp [execOp,h 6 refV rfl,hc,Sem.run_bind,hq,hb,Result.andThen,Sem.run]) (fun _ _ _=>rfl) (fun _=>rfl) ?_
  refine Zcl (Zaf ?_)
  refine Zj2 (s:=⟨m,_,l,[]⟩) (b:=true) rfl (fun _=>?_) (fun h=>by cases h)
  refine Zea (Zea ?_)
  refine Zcf rfl ?_
  refine Ze8 rfl rfl rfl (fun c h=>by cases h) (v:=refV) (u:=.cst refV) (fun ρ w h hc=>by simp [execOp,h 2 refV rfl,Sem.run]) (fun _ _ _=>rfl) (fun _=>rfl) ?_
  refine Ze8 rfl rfl rfl (fun c h=>by cases h) (v:=.tuple #[.agg #[],.bool true]) (u:=.cst (.tuple #[.agg #[],.bool true])) (fun ρ w h hc=>by simp [execOp,h 9 refV rfl,hc,Sem.run_bind,ht,Result.andThen,Sem.run]) (fun _ _ _=>rfl) (fun _=>rfl) ?_
  refine Ze8 rfl rfl rfl (fun c h=>by cases h) (v:=.tuple #[.agg #[],.bool true]) (u:=.cst (.tuple #[.agg #[],.bool true])) (fun ρ w h hc=>by simp [execOp,h 10 _ rfl,Sem.run]) (fun _ _ _=>rfl) (fun _=>rfl) ?_
  refine Ze8 rfl rfl rfl (fun c h=>by cases h) (v:=.agg #[]) (u:=.agg .nil) (fun ρ w h hc=>by simp [execOp,h 8 _ rfl,hc,Sem.run_bind,hx0,Result.andThen,Sem.run]) (fun _ _ _=>⟨[],rfl,rfl⟩) (fun _=>rfl) ?_
  refine Ze8 rfl rfl rfl (fun c h=>by cases h) (v:=.bool true) (u:=.cst (.bool true)) (fun ρ w h hc=>by simp [execOp,h 8 _ rfl,hc,Sem.run_bind,hx1,Result.andThen,Sem.run]) (fun _ _ _=>rfl) (fun _=>rfl) ?_
  refine awpL_new0 rfl rfl rfl rfl rfl rfl rfl rfl (fun w=>by kernel_rfl) (fun b w=>by kernel_rfl) ?_
  refine Ze8 rfl rfl rfl (fun c h=>by cases h) (v:=.bool true) (u:=.bool true) (fun ρ w h hc=>by simp [execOp,h 12 _ rfl,Sem.run]) (fun _ _ _=>rfl) (fun _=>rfl) ?_
  refine Zcl (Zaf ?_)
  refine Zea (Zcf rfl ?_)
  refine Zh7 htb hmz noSp fF rfl rfl (Nat.ble_self_eq_true m) ?_
  intro _ _ _ _ h;simp only [zE,evp,evx,ev1,evLoad,evStore,evBin,evIf,Zac,forall_const,z38,tb,reduceAdd,reduceSub,reduceMul,reduceEqDiff,reduceLeDiff,reduceLT,Nat.reduceBEq,Nat.reduceBNe,↓reduceIte,reduceIte,nilR,h5,h0,h1,h2,h3,h4,hb1,hb2,Nat.beq_refl] at h;obtain ⟨rfl,rfl,rfl,rfl⟩:=h;refine ⟨?_,?_⟩
  ·first|((with_reducible refine Ob.mk ?_);first|exact trivial|(intros;omega)|((repeat' first|apply And.intro|(intro a;have b:=a;try simp only [zH] at b))<;>first|assumption|omega|(simp only [zH];omega)))|skip
  refine Zaf ?_
  refine Zj2 (s:=⟨_,_,l,[]⟩) (b:=false) rfl (fun h=>by cases h) (fun _=>?_)
  refine Zja (Zaf ?_)
  refine Zcf rfl ?_
  refine Zh7 htb hmz noSp fF rfl rfl (Nat.ble_eq.symm▸(by omega)) ?_
  intro _ _ _ _ h;simp only [zE,evp,evx,ev1,evLoad,evStore,evBin,evIf,Zac,forall_const,z38,tb,reduceAdd,reduceSub,reduceMul,reduceEqDiff,reduceLeDiff,reduceLT,Nat.reduceBEq,Nat.reduceBNe,↓reduceIte,reduceIte,nilR,h5,h0,h1,h2,h3,h4,hb1,hb2,Nat.beq_refl] at h;obtain ⟨rfl,rfl,rfl,rfl⟩:=h;refine ⟨?_,rfl,_,_,?_,rfl⟩
  ·first|((with_reducible refine Ob.mk ?_);first|exact trivial|(intros;omega)|((repeat' first|apply And.intro|(intro a;have b:=a;try simp only [zH] at b))<;>first|assumption|omega|(simp only [zH];omega)))|skip
  ·omega
 rintro e a' w' ⟨Z',ν',σ',hst,hν,hg',rfl,m',env',hm',rfl⟩
 refine ⟨hg'.ds,_,rfl,.tuple #[],solved1_res _ _,⟨_,rfl⟩,rfl,Z',ν',m',_,hst,hν,hg'.one,hg'.rs,hm',hg'.kl,fun k B hk _=>?_⟩
 show lkr _ k=_
 rw [Zf1,Zf1]
 unfold lkr at hk ⊢
 simp only [lko] at hk
 by_cases e1:k=k1
 ·subst e1
  rw [Nat.beq_refl] at hk
  simp only [if_neg hne,if_true]
  exact hk
 ·rw [beqN e1] at hk
  by_cases e2:k=k2
  ·subst e2
   rw [Nat.beq_refl] at hk
   simp only [if_true]
   exact hk
  ·rw [beqN e2] at hk
   simp only [if_neg e1,if_neg e2]
   exact hk
theorem solved1_ret : DRet Tryz.prog 30:=by
 intro w y z
 refine callsDIn_of_wpSIn (fn:=Tryz.f30) (by kernel_rfl) rfl trivial fun c₀ cs hu=>?_
 refine wpSIn_seq (wpSIn_region ?_)
 refine recover_ret (fun _=>trivial) rfl rfl rfl rfl rfl rfl (by simp) hu ?_
 have hb:∀ w,(binOp .neq 20 .nilIface .nilIface).run Tryz.prog w=.ok (.bool false) w:=fun w=>by kernel_rfl
 have hq:∀ w,(eqGuard .neq 20 (.tmp 6) (.const .nilIface) .nilIface .nilIface).run Tryz.prog w=.ok () w:=fun w=>by kernel_rfl
 refine wpSIn_seq (wpSIn_region ?_)
 refine two_ops (v1:=.nilIface) (v2:=.bool false) (fun _=>trivial) rfl rfl (by kernel_rfl) (by kernel_rfl) ?_
 refine wpSIn_cond (t:=false) (by kernel_rfl) ?_
 simp only [Bool.false_eq_true,if_false]
 refine wpSIn_of_wpIn rfl (wpIn_skip ?_)
 refine ⟨rfl,.returning,?_,.tuple #[],solved1_res _ _,⟨_,rfl⟩,rfl,rfl⟩
 cases c₀
 cases hu
 rfl
open Go Pl
def Zf9 := Hd.mk (@svA.eq_1)
set_option maxRecDepth 4000 in
set_option maxHeartbeats 4000000 in
theorem solved_fg {o p:List Int} {x:List (List Int)} (hob:Zau ⟨o,p,x⟩=true) {K:List Bool} (hs:ZI ⟨o,p,x⟩ ⟨K,List.replicate x.length (-1),List.replicate x.length (-1),131072⟩) :
  FG Tryz.prog 14 [.agg (.cons (.roI o) (.cons (.roI p) (.cons (.roII x) .nil))),.roB K] [] 0 fun g=>∃ (W' C':List Int) (e:Int),((e=0∧∃ l',ZR ⟨o,p,x⟩ K (List.replicate x.length (-1)) (List.replicate x.length (-1)) 131072 W' C' l')∨(e=3∧W'=[]∧C'=[]∧ZP ⟨o,p,x⟩ K (List.replicate x.length (-1)) (List.replicate x.length (-1)) 131072))∧g=⟨0,resV [.agg (.cons (.roI W') (.cons (.roI C') .nil)),.int .i64 e],[]⟩:=by
 have hV:=validB_iff.1 hob
 refine fgd_of htb (fn:=Tryz.f14) (nf:=29) (by kernel_rfl) (by kernel_rfl) rfl (Nat.le_of_ble_eq_true rfl) ⟨Tryz.f30,by kernel_rfl,by kernel_rfl,rfl⟩ solved1_ret solved1_pan fun hl0=>?_
 simp only [lenP,mkL,lim] at hl0
 repeat' first|exact gE|refine gS noSp Zf9 [1] ?_|refine gO noSp Zf9 [1] ?_ ?_|refine gC ?_ ?_<;>intro hb
 refine Za2 ([_]) ([_]) rfl rfl ?_
 refine gTn noSp Zf9 ?_ ?_
 ·first|exact oA|skip
 refine gCl ([]) (solverOf_fg hob) Zf9 ?_
 refine gT noSp Zf9 ?_ ?_
 ·first|exact oA|skip
 refine Zaf (Zea ?_)
 refine awp_defer2 (f:=29) ⟨rfl,rfl,rfl⟩ ⟨rfl,rfl,rfl⟩ rfl rfl rfl rfl (Zaf (Zea ?_))
 refine Za2 ([_,_]) ([]) rfl rfl ?_
 refine gTn noSp Zf9 ?_ ?_
 ·first|exact oA|skip
 refine Zgz ([4,5,6]) (solve_fp hV hs) rfl rfl rfl rfl rfl rfl rfl rfl rfl (by simp only [rinR,rhoC,zE,evp,evx,ev1,evLoad,evStore,evBin,evIf,Zac,forall_const,z38,tb,reduceAdd,reduceSub,reduceMul,reduceEqDiff,reduceLeDiff,reduceLT,Nat.reduceBEq,Nat.reduceBNe,↓reduceIte,reduceIte,svA]) ?_ ?pan1;intro gm gv gr hq m' e' l' h;obtain ⟨W',C',l',hZ,hq⟩:=hq;simp only [GR.mk.injEq] at hq;obtain ⟨rfl,rfl,rfl⟩:=hq;simp only [rhoC,outR,renR,dels,zE,evp,evx,ev1,evLoad,evStore,evBin,evIf,Zac,forall_const,z38,tb,reduceAdd,reduceSub,reduceMul,reduceEqDiff,reduceLeDiff,reduceLT,Nat.reduceBEq,Nat.reduceBNe,↓reduceIte,reduceIte,svA] at h;obtain ⟨rfl,rfl,rfl⟩:=h;refine Zaf ?_
 case pan1 =>
  rintro c ⟨hc1,hc2⟩
  repeat' first|with_reducible refine Zi1 ?_|with_reducible refine Zhq ?_
  refine ⟨hc1,_,_,8,1,2,rfl,rfl,rfl,rfl,rfl,by decide,Nat.zero_le _,fun m=>rfl,Zbe ⟨0,resV [.agg (.cons (.roI []) (.cons (.roI []) .nil)),.int .i64 3],[]⟩ [] ⟨[],[],3,.inr ⟨rfl,rfl,rfl,hc2⟩,rfl⟩ rfl ?_ trivial⟩
  exact Zf3 (Zay (Zel (Zay Zbr (Zay Zbr (Zal rfl)))) (Zal rfl))
 refine Zcl (Zaf (Zea ?_))
 refine Zbb 5 (.roI W') ?_
 refine Zbb 6 (.roI C') ?_
 repeat' first|exact gE|refine gS noSp Zf9 [] ?_|refine gO noSp Zf9 [] ?_ ?_|refine gC ?_ ?_<;>intro hb
 refine ⟨_,_,8,1,2,rfl,rfl,rfl,rfl,Nat.zero_le _,Zbe ⟨0,resV [.agg (.cons (.roI W') (.cons (.roI C') .nil)),.int .i64 0],[]⟩ [] ⟨W',C',0,.inl ⟨rfl,l',hZ⟩,rfl⟩ rfl (Zal rfl) trivial⟩
open Go Pl
theorem snoc_rec {α:Type} {P:List α→Prop} (h0:P []) (h1:∀ L e,P L→P (L++[e])) (L:List α):P L:=by
 have:∀ L:List α,P L.reverse:=fun L=>by
  induction L with
  |nil=>exact h0
  |cons e L ih=>rw [List.reverse_cons];exact h1 _ _ ih
 have h:=this L.reverse
 rwa [List.reverse_reverse] at h
theorem mpF_has {L:List (Nat × Nat)}:∀ v:Nat,mhas v (mpF L).1=decide (v∈L.map Prod.fst):=by
 induction L using snoc_rec with
 |h0=>intro v;simp [Zf0];rfl
 |h1 L e ih =>
  obtain ⟨u,w⟩:=e
  intro v
  rw [Zk0,mhas_mput]
  by_cases h:v=u
  ·subst h;simp
  ·rw [if_neg (by omega),ih v]
   simp [h]
theorem mpF_get {L:List (Nat × Nat)}:(L.map Prod.fst).Nodup→∀ (j v w:Nat),L[j]? = some (v,w)→mget v (mpF L).1=w:=by
 induction L using snoc_rec with
 |h0=>intro _ j v w h;cases h
 |h1 L e ih =>
  obtain ⟨u,z⟩:=e
  intro hn j v w h
  rw [List.map_append,List.nodup_append] at hn
  rw [Zk0,mget_mput]
  rcases Nat.lt_or_ge j L.length with hj|hj
  ·rw [List.getElem?_append_left hj] at h
   have hv:v∈L.map Prod.fst:=List.mem_map.2 ⟨(v,w),List.mem_of_getElem? h,rfl⟩
   have hne:v≠u:=fun e=>hn.2.2 v hv u (by simp) e
   rw [if_neg (by omega)]
   exact ih hn.1 j v w h
  ·rw [List.getElem?_append_right hj] at h
   have hj0:j - L.length=0:=by
    have:=(List.getElem?_eq_some_iff.1 h).1
    simp at this;omega
   rw [hj0] at h
   simp only [List.getElem?_cons_zero,Option.some.injEq,Prod.mk.injEq] at h
   rw [if_pos (by omega),h.2]
theorem wF_getD {q:Int} {v:Nat}:∀ {L:List (Nat × Nat)} {W:List Int},(∀ e,e∈L→e.1 < W.length)→(wF q W L).getD v 0=if v∈L.map Prod.fst then q else W.getD v 0
 |[],W,_=>by
  show W.getD v 0=if v∈([]:List Nat) then q else W.getD v 0
  rw [if_neg List.not_mem_nil]
 |e :: L,W,h=>by
  have he:=h e List.mem_cons_self
  show (wF q (W.set e.1 q) L).getD v 0=_
  rw [wF_getD (L:=L) fun f hf=>by rw [List.length_set];exact h f (List.mem_cons_of_mem _ hf),Zb5 he,List.map_cons]
  by_cases hv:v∈L.map Prod.fst
  ·rw [if_pos hv,if_pos (List.mem_cons_of_mem _ hv)]
  ·rw [if_neg hv]
   by_cases e2:v=e.1
   ·rw [if_pos e2,if_pos (by rw [e2];exact List.mem_cons_self)]
   ·rw [if_neg e2,if_neg (by simp only [List.mem_cons,not_or];exact ⟨e2,hv⟩)]
theorem Znd {o:List Int} {q:Int} {v:Nat}:∀ {L:List (Nat × Nat)} {C:List Int},(∀ e,e∈L→e.1 < C.length)→v ∉ L.map Prod.fst→(cFz o q C L).getD v 0=C.getD v 0
 |[],_,_,_=>rfl
 |e :: L,C,h,hv=>by
  have he:=h e List.mem_cons_self
  rw [List.map_cons,List.mem_cons,not_or] at hv
  show (cFz o q (C.set e.1 _) L).getD v 0=_
  rw [Znd (L:=L) (fun f hf=>by rw [List.length_set];exact h f (List.mem_cons_of_mem _ hf)) hv.2,Zb5 he,if_neg hv.1]
theorem cF_at {o:List Int} {q:Int}:∀ {L:List (Nat × Nat)} {C:List Int},(∀ e,e∈L→e.1 < C.length)→(L.map Prod.fst).Nodup→∀ {j v w:Nat},L[j]? = some (v,w)→(cFz o q C L).getD v 0=if o.getD v 0=q then (w:Int) else -1
 |e :: L,C,h,hn,0,v,w,hj=>by
  have he:=h e List.mem_cons_self
  simp only [List.getElem?_cons_zero,Option.some.injEq] at hj
  subst hj
  rw [List.map_cons,List.nodup_cons] at hn
  show (cFz o q (C.set v _) L).getD v 0=_
  rw [Znd (L:=L) (fun f hf=>by rw [List.length_set];exact h f (List.mem_cons_of_mem _ hf)) hn.1,Zb5 he,if_pos rfl]
 |e :: L,C,h,hn,j+1,v,w,hj=>by
  simp only [List.getElem?_cons_succ] at hj
  rw [List.map_cons,List.nodup_cons] at hn
  show (cFz o q (C.set e.1 _) L).getD v 0=_
  exact cF_at (L:=L) (fun f hf=>by rw [List.length_set];exact h f (List.mem_cons_of_mem _ hf)) hn.2 hj
theorem smF_in {l:List Bool}:∀ {row:List Int},(∃ t,t∈row∧l.getD t.toNat false=true)→smF l row∈row∧l.getD (smF l row).toNat false=true
 |[],h=>by obtain ⟨t,ht,_⟩:=h;cases ht
 |t :: r,h=>by
  unfold smF
  by_cases e:l.getD t.toNat false=true
  ·rw [if_pos e];exact ⟨List.mem_cons_self,e⟩
  ·rw [if_neg e]
   obtain ⟨a,ha,hb⟩:=h
   rcases List.mem_cons.1 ha with rfl|ha
   ·exact absurd hb e
   ·obtain ⟨h1,h2⟩:=smF_in (row:=r) ⟨a,ha,hb⟩
    exact ⟨List.mem_cons_of_mem _ h1,h2⟩
theorem Ziy {g:Gm} {q:Int} {to K:List Bool} {L:List (Nat × Nat)} {es:List (Int × Int × Nat)} (hK:K.length=g.own.length) (h:AQ g q to K L es (qo to g.own.length L).length []) (v:Nat):(woL K (atB to g.own.length L)).getD v false=true↔K.getD v false=true∧¬ v∈qo to g.own.length L:=by
 rw [Ziw,Bool.and_eq_true,Bool.not_eq_true']
 constructor
 ·rintro ⟨h1,h2⟩
  exact ⟨h1,fun hq=>by rw [(Zec (Zck (by omega) h1)).2 hq] at h2;cases h2⟩
 ·rintro ⟨h1,h2⟩
  exact ⟨h1,Bool.eq_false_iff.2 fun hq=>h2 ((Zec (Zck (by omega) h1)).1 hq)⟩
theorem katB_iff {g:Gm} {q:Int} {to K:List Bool} {L:List (Nat × Nat)} {es:List (Int × Int × Nat)} (hK:K.length=g.own.length) (h:AQ g q to K L es (qo to g.own.length L).length []) (v:Nat):v∈kp (atB to g.own.length L) g.own.length↔v∈qo to g.own.length L:=by
 rw [Zc3 (by rw [Zlr];omega)]
 rcases Nat.lt_or_ge v g.own.length with hv|hv
 ·exact Zec hv
 ·exact ⟨fun h2=>(by rw [Zf4 (by rw [Zlr];exact hv)] at h2;cases h2),fun h2=>absurd (Zck (Nat.le_of_eq hK) (h.ql v h2)) (by omega)⟩
structure ZS2 (g:Gm) (K:List Bool) (W C W' C':List Int):Prop where
 outW:∀ v,K.getD v false=false→W'.getD v 0=W.getD v 0
 outC:∀ v,K.getD v false=false→C'.getD v 0=C.getD v 0
 inW:∀ v,K.getD v false=true→W'.getD v 0=0∨W'.getD v 0=1
 inC:∀ v,K.getD v false=true→g.own.getD v 0≠W'.getD v 0→C'.getD v 0 = -1
 inD:∀ v,K.getD v false=true→g.own.getD v 0=W'.getD v 0→0≤C'.getD v 0
 sol:∀ q,q=0∨q=1→Sol (fun v=>g.own.getD v 0) (fun v=>g.pri.getD v 0) (sc g.nxt) (fun v=>K.getD v false=true) (fun v=>W'.getD v 0) (fun v=>(C'.getD v 0).toNat) q
theorem ZR_sol {g:Gm} (hV:Zc1 g) {K:List Bool} {W C W' C':List Int} {left left':Int} (h:ZR g K W C left W' C' left'):K.length=g.own.length→W.length=g.own.length→C.length=g.own.length→(∀ u,K.getD u false=true→∃ v,v∈sc g.nxt u∧K.getD v false=true)→ZS2 g K W C W' C':=by
 obtain ⟨hn,hpl,hxl,hpos⟩:=id hV
 have hown:∀ v,v < g.own.length→g.own.getD v 0=0∨g.own.getD v 0=1:=fun v hv=>by
  obtain ⟨⟨a1,a2,_⟩,_⟩:=hpos v hv
  simp only [Gm.o] at a1 a2
  omega
 have hpri:∀ v,v < g.own.length→0≤g.pri.getD v 0:=fun v hv=>by
  obtain ⟨⟨_,_,a3,_⟩,_⟩:=hpos v hv
  exact a3
 induction h with
 |@done K W C left h1 h2 =>
  intro hK hW hC hT
  have hno:∀ v,¬ K.getD v false=true:=fun v hv=>by
   have hlt:=Zck (Nat.le_of_eq hK) hv
   have:=tp_le (p:=g.pri) ((Zc3 (Nat.le_refl _)).2 hv)
   have:=hpri v hlt
   omega
  exact ⟨fun _ _=>rfl,fun _ _=>rfl,fun v hv=>absurd hv (hno v),fun v hv=>absurd hv (hno v),fun v hv=>absurd hv (hno v),fun q _=>Sol.none hno⟩
 |@all K W C left L es W1 C1 left1 h1 h2 h3 h4 h5 ih =>
  intro hK hW hC hT
  have hne:∃ v,(tpU g.pri K).getD v false=true:=by
   obtain ⟨v,h1,h2⟩:=Zly h1
   exact ⟨v,by rw [Zdx,(Zc3 (Nat.le_refl _)).1 h1,h2];simp⟩
  have hul:(tpU g.pri K).length=g.own.length:=tpU_len.trans hK
  obtain ⟨hsT,_⟩:=Zem hK (Nat.le_of_eq hul) h3 hne hT
  have S:=ih (woL_len.trans hK) hW hC hsT
  obtain ⟨hW1,hC1,_,_⟩:=Zjd h4
  have hri:=Ziy hK h3
  have hki:=katB_iff hK h3
  have hA0:=Znh h3
  have hql:=h3.ql
  have hfst:=Zok h3
  have hqn:∀ v,v∈qo (tpU g.pri K) g.own.length L→v < g.own.length:=fun v hv=>Zck (Nat.le_of_eq hK) (hql v hv)
  have hut:∀ v,v∈kp (tpU g.pri K) g.own.length↔K.getD v false=true∧g.pri.getD v 0=tpP g.pri K:=fun v=>by
   rw [Zc3 (Nat.le_of_eq hul),Zdx,Bool.and_eq_true,decide_eq_true_iff]
  generalize hsb:woL K (atB (tpU g.pri K) g.own.length L)=sub at *
  generalize hp2:tpP g.pri K % 2=p at *
  have hp01:p=0∨p=1:=by omega
  have hfW:∀ v,(fsL (fun _=>p) (kp (atB (tpU g.pri K) g.own.length L) g.own.length) W1).getD v 0=if v∈qo (tpU g.pri K) g.own.length L then p else W1.getD v 0:=fun v=>by
   rw [Zk9 fun k hk=>by rw [hW1,hW];exact hqn k ((hki k).1 hk)]
   by_cases hv:v∈qo (tpU g.pri K) g.own.length L
   ·rw [if_pos hv,if_pos ((hki v).2 hv)]
   ·rw [if_neg hv,if_neg fun h=>hv ((hki v).1 h)]
  have hfC:∀ v,(fsL (stC g.own g.nxt (tpU g.pri K) K p (mpF L).1) (kp (atB (tpU g.pri K) g.own.length L) g.own.length) C1).getD v 0=if v∈qo (tpU g.pri K) g.own.length L then stC g.own g.nxt (tpU g.pri K) K p (mpF L).1 v else C1.getD v 0:=fun v=>by
   rw [Zk9 fun k hk=>by rw [hC1,hC];exact hqn k ((hki k).1 hk)]
   by_cases hv:v∈qo (tpU g.pri K) g.own.length L
   ·rw [if_pos hv,if_pos ((hki v).2 hv)]
   ·rw [if_neg hv,if_neg fun h=>hv ((hki v).1 h)]
  have hWp:∀ v,K.getD v false=true→¬ v∈qo (tpU g.pri K) g.own.length L→W1.getD v 0=p:=fun v hv hq=>h5 v ((Zc3 (by rw [←hsb,woL_len];exact Nat.le_of_eq hK)).2 ((hri v).2 ⟨hv,hq⟩))
  have hWa:∀ v,K.getD v false=true→(fsL (fun _=>p) (kp (atB (tpU g.pri K) g.own.length L) g.own.length) W1).getD v 0=p:=fun v hv=>by
   rw [hfW]
   split
   ·rfl
   ·exact hWp v hv ‹_›
  have hsm:∀ v,K.getD v false=true→smF K (g.nxt.getD v [])∈g.nxt.getD v []∧K.getD (smF K (g.nxt.getD v [])).toNat false=true:=fun v hv=>by
   obtain ⟨t,ht,hk⟩:=hT v hv
   obtain ⟨z,hz,rfl⟩:=List.mem_map.1 ht
   exact smF_in ⟨z,hz,hk⟩
  have hst1:∀ v,v∈kp (tpU g.pri K) g.own.length→g.own.getD v 0=p→stC g.own g.nxt (tpU g.pri K) K p (mpF L).1 v=smF K (g.nxt.getD v []):=fun v hv ho=>by
   unfold stC
   rw [if_pos ho,if_pos (.inr ((Zc3 (Nat.le_of_eq hul)).1 hv))]
  have hst2:∀ v,v∈qo (tpU g.pri K) g.own.length L→¬ v∈kp (tpU g.pri K) g.own.length→g.own.getD v 0=p→stC g.own g.nxt (tpU g.pri K) K p (mpF L).1 v=chL L v:=fun v hv hn ho=>by
   have hm:v∈L.map Prod.fst:=(List.mem_append.1 hv).resolve_left hn
   obtain ⟨⟨v',w⟩,he,rfl⟩:=List.mem_map.1 hm
   obtain ⟨j,hj,e⟩:=List.getElem_of_mem he
   have hj2:L[j]? = some (v',w):=List.getElem?_eq_some_iff.2 ⟨hj,e⟩
   unfold stC
   rw [if_pos ho,if_neg,mpF_get hfst j v' w hj2,Znc hfst hj2]
   rintro (h|h)
   ·rw [mpF_has,decide_eq_true hm] at h;cases h
   ·exact hn ((Zc3 (Nat.le_of_eq hul)).2 h)
  have hpos2:∀ v,v∈qo (tpU g.pri K) g.own.length L→g.own.getD v 0=p→0≤stC g.own g.nxt (tpU g.pri K) K p (mpF L).1 v:=fun v hv ho=>by
   by_cases hn:v∈kp (tpU g.pri K) g.own.length
   ·rw [hst1 v hn ho]
    exact ((Zka hV (hqn v hv)).2 _ (hsm v (hql v hv)).1).1
   ·rw [hst2 v hv hn ho];omega
  have hset:(fun v=>sub.getD v false=true)=fun v=>K.getD v false=true∧¬ v∈qo (tpU g.pri K) g.own.length L:=funext fun v=>propext (hri v)
  have hall:=sol_all (own:=fun v=>g.own.getD v 0) (pri:=fun v=>g.pri.getD v 0) (sx:=sc g.nxt) (K:=fun v=>K.getD v false=true) (A:=fun v=>v∈qo (tpU g.pri K) g.own.length L) (T:=fun v=>v∈kp (tpU g.pri K) g.own.length) (W':=fun v=>W1.getD v 0) (W:=fun v=>(fsL (fun _=>p) (kp (atB (tpU g.pri K) g.own.length L) g.own.length) W1).getD v 0)
   (c:=fun v=>((fsL (stC g.own g.nxt (tpU g.pri K) K p (mpF L).1) (kp (atB (tpU g.pri K) g.own.length L) g.own.length) C1).getD v 0).toNat) (p:=p) hp2
   (fun v hv=>tp_le ((Zc3 (Nat.le_refl _)).2 hv)) hut
   (hA0.congr fun v hv hn ho=>by rw [hfC,if_pos hv,hst2 v hv hn ho];exact Int.toNat_natCast _)
   (fun v hv ho=>by
    have hq:v∈qo (tpU g.pri K) g.own.length L:=List.mem_append_left _ hv
    rw [hfC,if_pos hq,hst1 v hv ho]
    obtain ⟨h8,h9⟩:=hsm v (hql v hq)
    exact ⟨List.mem_map.2 ⟨_,h8,rfl⟩,h9⟩)
   (Sol.congr (c':=fun v=>(C1.getD v 0).toNat) (by rw [←hset];exact S.sol p hp01) fun v hv _ _=>by rw [hfC,if_neg hv.2])
   hWp hWa
  refine ⟨fun v hv=>?_,fun v hv=>?_,fun v hv=>?_,fun v hv ho=>?_,fun v hv ho=>?_,fun q hq=>?_⟩
  ·rw [hfW,if_neg fun h=>by rw [hql v h] at hv;cases hv]
   exact S.outW v (Bool.eq_false_iff.2 fun h=>by rw [((hri v).1 h).1] at hv;cases hv)
  ·rw [hfC,if_neg fun h=>by rw [hql v h] at hv;cases hv]
   exact S.outC v (Bool.eq_false_iff.2 fun h=>by rw [((hri v).1 h).1] at hv;cases hv)
  ·rw [hWa v hv];exact hp01
  ·rw [hWa v hv] at ho
   rw [hfC]
   split
   ·unfold stC;rw [if_neg ho]
   ·have hq:¬ v∈qo (tpU g.pri K) g.own.length L := ‹_›
    exact S.inC v ((hri v).2 ⟨hv,hq⟩) (by rw [hWp v hv hq];exact ho)
  ·rw [hWa v hv] at ho
   rw [hfC]
   split
   ·exact hpos2 v ‹_› ho
   ·have hq:¬ v∈qo (tpU g.pri K) g.own.length L := ‹_›
    exact S.inD v ((hri v).2 ⟨hv,hq⟩) (by rw [hWp v hv hq];exact ho)
  ·by_cases e:q=p
   ·rw [e];exact hall.1
   ·exact hall.2 q e
 |@part K W C left L es W1 C1 left1 L2 es2 W3 C3 left3 h1 h2 h3 h4 h5 h6 h7 ih1 ih2 =>
  intro hK hW hC hT
  have hne:∃ v,(tpU g.pri K).getD v false=true:=by
   obtain ⟨v,h1,h2⟩:=Zly h1
   exact ⟨v,by rw [Zdx,(Zc3 (Nat.le_refl _)).1 h1,h2];simp⟩
  have hul:(tpU g.pri K).length=g.own.length:=tpU_len.trans hK
  obtain ⟨hsT,_⟩:=Zem hK (Nat.le_of_eq hul) h3 hne hT
  have S1:=ih1 (woL_len.trans hK) hW hC hsT
  obtain ⟨hW1,hC1,_,_⟩:=Zjd h4
  have hri:=Ziy hK h3
  have hA0:=Znh h3
  generalize hp2:tpP g.pri K % 2=p at *
  have hp01:p=0∨p=1:=by omega
  generalize hsb:woL K (atB (tpU g.pri K) g.own.length L)=sub at *
  have hsl:sub.length=g.own.length:=by rw [←hsb];exact woL_len.trans hK
  have hlo:∀ v,v∈kp (loL sub W1 p) g.own.length↔sub.getD v false=true∧W1.getD v 0=1 - p:=fun v=>by
   rw [Zc3 (by rw [loL_len];omega),Zhv,Bool.and_eq_true,Bool.not_eq_true',decide_eq_false_iff_not]
   constructor
   ·rintro ⟨h1,h2⟩
    have:=S1.inW v h1
    exact ⟨h1,by omega⟩
   ·rintro ⟨h1,h2⟩
    exact ⟨h1,by omega⟩
  have hne2:∃ v,(loL sub W1 p).getD v false=true:=by
   obtain ⟨v,h8,h9⟩:=h5
   exact ⟨v,by rw [Zhv,(Zc3 (Nat.le_of_eq hsl)).1 h8];simpa using h9⟩
  have hll:(loL sub W1 p).length=g.own.length:=loL_len.trans hsl
  obtain ⟨hrT,_⟩:=Zem hK (Nat.le_of_eq hll) h6 hne2 hT
  have S2:=ih2 (woL_len.trans hK) (wF_len.trans (hW1.trans hW)) (cF_len.trans (hC1.trans hC)) hrT
  have hri2:=Ziy hK h6
  have hB0:=Znh h6
  have hqlB:=h6.ql
  have hfst:=Zok h6
  have hdis:∀ v,v∈kp (loL sub W1 p) g.own.length→¬ v∈L2.map Prod.fst:=fun v hv hm=>(List.nodup_append.1 h6.nd).2.2 v hv v hm rfl
  generalize hkb:woL K (atB (loL sub W1 p) g.own.length L2)=K2 at *
  have hL2:∀ e,e∈L2→e.1 < g.own.length:=fun e he=>Zck (Nat.le_of_eq hK) (hqlB e.1 (List.mem_append_right _ (List.mem_map.2 ⟨e,he,rfl⟩)))
  have hBW:∀ v,K2.getD v false=false→W3.getD v 0=if v∈L2.map Prod.fst then 1 - p else W1.getD v 0:=fun v hv=>by
   rw [S2.outW v hv,wF_getD fun e he=>by rw [hW1,hW];exact hL2 e he]
  have hC1l:∀ e,e∈L2→e.1 < C1.length:=fun e he=>by rw [hC1,hC];exact hL2 e he
  have hnK2:∀ v,v∈qo (loL sub W1 p) g.own.length L2→K2.getD v false=false:=fun v hv=>Bool.eq_false_iff.2 fun h=>((hri2 v).1 h).2 hv
  have hWB:∀ v,v∈qo (loL sub W1 p) g.own.length L2→W3.getD v 0=1 - p:=fun v hv=>by
   rw [hBW v (hnK2 v hv)]
   split
   ·rfl
   ·rename_i hm
    exact ((hlo v).1 ((List.mem_append.1 hv).resolve_right hm)).2
  have hCl:∀ v,v∈kp (loL sub W1 p) g.own.length→C3.getD v 0=C1.getD v 0:=fun v hv=>by
   rw [S2.outC v (hnK2 v (List.mem_append_left _ hv)),Znd hC1l (hdis v hv)]
  have hCt:∀ v,v∈L2.map Prod.fst→C3.getD v 0=if g.own.getD v 0=1 - p then (chL L2 v:Int) else -1:=fun v hv=>by
   obtain ⟨⟨v',w⟩,he,rfl⟩:=List.mem_map.1 hv
   obtain ⟨j,hj,e⟩:=List.getElem_of_mem he
   have hj2:L2[j]? = some (v',w):=List.getElem?_eq_some_iff.2 ⟨hj,e⟩
   rw [S2.outC v' (hnK2 v' (List.mem_append_right _ hv)),cF_at hC1l hfst hj2,Znc hfst hj2]
  have hset:(fun v=>sub.getD v false=true)=fun v=>K.getD v false=true∧¬ v∈qo (tpU g.pri K) g.own.length L:=funext fun v=>propext (hri v)
  have hset2:(fun v=>K2.getD v false=true)=fun v=>K.getD v false=true∧¬ v∈qo (loL sub W1 p) g.own.length L2:=funext fun v=>propext (hri2 v)
  have hq01:1 - p=0∨1 - p=1:=by omega
  have hall:=sol_part (own:=fun v=>g.own.getD v 0) (pri:=fun v=>g.pri.getD v 0) (sx:=sc g.nxt) (K:=fun v=>K.getD v false=true) (A:=fun v=>v∈qo (tpU g.pri K) g.own.length L) (B:=fun v=>v∈qo (loL sub W1 p) g.own.length L2) (W':=fun v=>W1.getD v 0) (W:=fun v=>W3.getD v 0) (W2:=fun v=>W3.getD v 0)
   (c:=fun v=>(C3.getD v 0).toNat) (p:=p) (q:=1 - p) (by omega)
   (fun v hv=>by have:=hown v (Zck (Nat.le_of_eq hK) hv);show g.own.getD v 0=p∨g.own.getD v 0=1 - p;omega) hA0
   (Sol.congr (c':=fun v=>(C1.getD v 0).toNat) (by rw [←hset];exact S1.sol (1 - p) hq01) fun v hv hw _=>by rw [hCl v ((hlo v).2 ⟨(hri v).2 hv,hw⟩)])
   ((hB0.congrT fun v=>(hlo v).trans (and_congr_left' (hri v))).congr fun v hv hn ho=>by
    have hn2:¬ v∈kp (loL sub W1 p) g.own.length:=fun h=>hn (((hlo v).trans (and_congr_left' (hri v))).1 h)
    have ho:g.own.getD v 0=1 - p:=ho
    rw [hCt v ((List.mem_append.1 hv).resolve_left hn2),if_pos ho]
    exact Int.toNat_natCast _)
   (by rw [←hset2];exact S2.sol p hp01) (by rw [←hset2];exact S2.sol (1 - p) hq01) hWB (fun _ _ _=>rfl)
  have hin:∀ v,K.getD v false=true→¬ v∈qo (loL sub W1 p) g.own.length L2→K2.getD v false=true:=fun v hv hn=>(hri2 v).2 ⟨hv,hn⟩
  have hout:∀ v,K.getD v false=false→K2.getD v false=false∧sub.getD v false=false∧¬ v∈L2.map Prod.fst:=fun v hv=>by
   refine ⟨Bool.eq_false_iff.2 fun h=>?_,Bool.eq_false_iff.2 fun h=>?_,fun h=>?_⟩
   ·rw [((hri2 v).1 h).1] at hv;cases hv
   ·rw [((hri v).1 h).1] at hv;cases hv
   ·rw [hqlB v (List.mem_append_right _ h)] at hv;cases hv
  refine ⟨fun v hv=>?_,fun v hv=>?_,fun v hv=>?_,fun v hv ho=>?_,fun v hv ho=>?_,fun q hq=>?_⟩
  ·obtain ⟨a1,a2,a3⟩:=hout v hv
   rw [hBW v a1,if_neg a3]
   exact S1.outW v a2
  ·obtain ⟨a1,a2,a3⟩:=hout v hv
   rw [S2.outC v a1,Znd hC1l a3]
   exact S1.outC v a2
  ·by_cases hb:v∈qo (loL sub W1 p) g.own.length L2
   ·rw [hWB v hb];exact hq01
   ·exact S2.inW v (hin v hv hb)
  ·by_cases hb:v∈qo (loL sub W1 p) g.own.length L2
   ·rw [hWB v hb] at ho
    by_cases hm:v∈L2.map Prod.fst
    ·rw [hCt v hm,if_neg ho]
    ·have hl:=(List.mem_append.1 hb).resolve_right hm
     obtain ⟨b1,b2⟩:=(hlo v).1 hl
     rw [hCl v hl]
     exact S1.inC v b1 (by rw [b2];exact ho)
   ·exact S2.inC v (hin v hv hb) ho
  ·by_cases hb:v∈qo (loL sub W1 p) g.own.length L2
   ·rw [hWB v hb] at ho
    by_cases hm:v∈L2.map Prod.fst
    ·rw [hCt v hm,if_pos ho];omega
    ·have hl:=(List.mem_append.1 hb).resolve_right hm
     obtain ⟨b1,b2⟩:=(hlo v).1 hl
     rw [hCl v hl]
     exact S1.inD v b1 (by rw [b2];exact ho)
   ·exact S2.inD v (hin v hv hb) ho
  ·have:q=p∨q=1 - p:=by omega
   rcases this with e|e
   ·rw [e];exact hall.1
   ·rw [e];exact hall.2
open Go Pl
def ctK (g:Gm) (K:List Bool):Nat:=cntZ g.own.length fun v=>K.getD v false
def BN (g:Gm) (K:List Bool) (c:Int):Prop :=
 (∀ v,¬ K.getD v false=true)∧1≤c∨(∃ a,∀ v,K.getD v false=true→g.pri.getD v 0=a)∧2≤c∨(∃ a b,∀ v,K.getD v false=true→g.pri.getD v 0=a∨g.pri.getD v 0=b)∧3 * (ctK g K:Int)+2≤c∨((2 ^ (ctK g K+1):Nat):Int) - 1≤c
theorem BN_one {g:Gm} {K:List Bool} {c:Int} (h:BN g K c):1≤c:=by
 rcases h with ⟨_,h⟩|⟨_,h⟩|⟨_,h⟩|h
 ·exact h
 ·omega
 ·omega
 ·have:2 ^ 1≤2 ^ (ctK g K+1):=Nat.pow_le_pow_right (by decide) (by omega)
  omega
theorem Zlw {g:Gm} {q:Int} {K:List Bool} {L:List (Nat × Nat)} {es:List (Int × Int × Nat)} (hK:K.length=g.own.length) (h0:0≤tpP g.pri K) (h:AQ g q (tpU g.pri K) K L es (qo (tpU g.pri K) g.own.length L).length [])
  (hT:∀ u,K.getD u false=true→∃ v,v∈sc g.nxt u∧K.getD v false=true) {c:Int} (hb:BN g K c) :
  ∃ c1,BN g (woL K (atB (tpU g.pri K) g.own.length L)) c1∧1+c1≤c∧∀ K2:List Bool,(∀ v,K2.getD v false=true→K.getD v false=true)→ctK g K2 < ctK g K→(∃ v,(woL K (atB (tpU g.pri K) g.own.length L)).getD v false=true)→∃ c2,BN g K2 c2∧1+c1+c2≤c:=by
 have hul:(tpU g.pri K).length=g.own.length:=tpU_len.trans hK
 obtain ⟨v0,hv0,hv1⟩:=Zly h0
 have hK0:=(Zc3 (Nat.le_refl _)).1 hv0
 obtain ⟨hsT,hsk⟩:=Zem hK (Nat.le_of_eq hul) h ⟨v0,by rw [Zdx,hK0,hv1];simp⟩ hT
 have hri:=Ziy hK h
 have hnt:∀ v,(woL K (atB (tpU g.pri K) g.own.length L)).getD v false=true→K.getD v false=true∧g.pri.getD v 0≠tpP g.pri K:=fun v hv=>by
  obtain ⟨a1,a2⟩:=(hri v).1 hv
  exact ⟨a1,fun e=>a2 (List.mem_append_left _ ((Zc3 (Nat.le_of_eq hul)).2 (by rw [Zdx,a1,e];simp)))⟩
 have hct:ctK g (woL K (atB (tpU g.pri K) g.own.length L)) < ctK g K:=hsk
 generalize woL K (atB (tpU g.pri K) g.own.length L)=sub at *
 rcases hb with ⟨hb,_⟩|⟨⟨a,ha⟩,hc⟩|⟨⟨a,b,ha⟩,hc⟩|hc
 ·exact absurd hK0 (hb v0)
 ·have hno:∀ v,¬ sub.getD v false=true:=fun v hv=>(hnt v hv).2 (by rw [ha v (hnt v hv).1,←hv1,ha v0 hK0])
  exact ⟨1,.inl ⟨hno,Int.le_refl 1⟩,by omega,fun K2 _ _ ⟨v,hv⟩=>absurd hv (hno v)⟩
 ·have ht:tpP g.pri K=a∨tpP g.pri K=b:=by rw [←hv1];exact ha v0 hK0
  refine ⟨2,.inr (.inl ⟨⟨if tpP g.pri K=a then b else a,fun v hv=>?_⟩,Int.le_refl 2⟩),by omega,fun K2 hs hl _=>⟨3 * (ctK g K2:Int)+2,.inr (.inr (.inl ⟨⟨a,b,fun v hv=>ha v (hs v hv)⟩,Int.le_refl _⟩)),by omega⟩⟩
  have:=ha v (hnt v hv).1
  have:=(hnt v hv).2
  split<;>omega
 ·have h1:2 ^ (ctK g sub+1)≤2 ^ ctK g K:=Nat.pow_le_pow_right (by decide) hct
  have h4:1≤2 ^ ctK g K:=Nat.one_le_two_pow
  have h2:2 ^ (ctK g K+1)=2 * 2 ^ ctK g K:=by rw [Nat.pow_succ,Nat.mul_comm]
  refine ⟨((2 ^ (ctK g sub+1):Nat):Int) - 1,.inr (.inr (.inr (Int.le_refl _))),by omega,fun K2 hs hl _=>⟨((2 ^ (ctK g K2+1):Nat):Int) - 1,.inr (.inr (.inr (Int.le_refl _))),?_⟩⟩
  have h3:2 ^ (ctK g K2+1)≤2 ^ ctK g K:=Nat.pow_le_pow_right (by decide) hl
  omega
theorem woL_sub {K b:List Bool} {v:Nat} (h:(woL K b).getD v false=true):K.getD v false=true:=by
 rw [Ziw,Bool.and_eq_true] at h;exact h.1
theorem lo_in {K:List Bool} {W:List Int} {p:Int} {n:Nat} (hl:K.length≤n) (h:∃ v,v∈kp K n∧W.getD v 0≠p):(∃ v,(loL K W p).getD v false=true)∧∃ v,K.getD v false=true:=by
 obtain ⟨v,h1,h2⟩:=h
 exact ⟨⟨v,by rw [Zhv,(Zc3 hl).1 h1];simpa using h2⟩,v,(Zc3 hl).1 h1⟩
theorem ZR_cost {g:Gm} {K:List Bool} {W C W' C':List Int} {left left':Int} (h:ZR g K W C left W' C' left'):K.length=g.own.length→(∀ u,K.getD u false=true→∃ v,v∈sc g.nxt u∧K.getD v false=true)→∀ c,BN g K c→left - c≤left':=by
 induction h with
 |done h1 h2=>intro hK hT c hb;have:=BN_one hb;omega
 |@all K W C left L es W1 C1 left1 h1 h2 h3 h4 h5 ih =>
  intro hK hT c hb
  obtain ⟨c1,b1,b2,_⟩:=Zlw hK h1 h3 hT hb
  have hul:(tpU g.pri K).length=g.own.length:=tpU_len.trans hK
  obtain ⟨v0,hv0,hv1⟩:=Zly h1
  have hK0:=(Zc3 (Nat.le_refl _)).1 hv0
  obtain ⟨hsT,_⟩:=Zem hK (Nat.le_of_eq hul) h3 ⟨v0,by rw [Zdx,hK0,hv1];simp⟩ hT
  have:=ih (woL_len.trans hK) hsT c1 b1
  omega
 |@part K W C left L es W1 C1 left1 L2 es2 W3 C3 left3 h1 h2 h3 h4 h5 h6 h7 ih1 ih2 =>
  intro hK hT c hb
  obtain ⟨c1,b1,b2,b3⟩:=Zlw hK h1 h3 hT hb
  have hul:(tpU g.pri K).length=g.own.length:=tpU_len.trans hK
  obtain ⟨v0,hv0,hv1⟩:=Zly h1
  have hK0:=(Zc3 (Nat.le_refl _)).1 hv0
  obtain ⟨hsT,_⟩:=Zem hK (Nat.le_of_eq hul) h3 ⟨v0,by rw [Zdx,hK0,hv1];simp⟩ hT
  obtain ⟨l1,l2⟩:=lo_in (Nat.le_of_eq (woL_len.trans hK)) h5
  obtain ⟨hrT,hrk⟩:=Zem hK (Nat.le_of_eq (loL_len.trans (woL_len.trans hK))) h6 l1 hT
  obtain ⟨c2,d1,d2⟩:=b3 _ (fun v hv=>woL_sub hv) hrk l2
  have e1:=ih1 (woL_len.trans hK) hsT c1 b1
  have e2:=ih2 (woL_len.trans hK) hrT c2 d1
  omega
theorem ZP_cost {g:Gm} {K:List Bool} {W C:List Int} {left:Int} (h:ZP g K W C left):K.length=g.own.length→(∀ u,K.getD u false=true→∃ v,v∈sc g.nxt u∧K.getD v false=true)→∀ c,BN g K c→left < c:=by
 induction h with
 |here=>intro hK hT c hb;have:=BN_one hb;omega
 |@sub K W C left L es h1 h2 h3 h4 ih =>
  intro hK hT c hb
  obtain ⟨c1,b1,b2,_⟩:=Zlw hK h1 h3 hT hb
  have hul:(tpU g.pri K).length=g.own.length:=tpU_len.trans hK
  obtain ⟨v0,hv0,hv1⟩:=Zly h1
  have hK0:=(Zc3 (Nat.le_refl _)).1 hv0
  obtain ⟨hsT,_⟩:=Zem hK (Nat.le_of_eq hul) h3 ⟨v0,by rw [Zdx,hK0,hv1];simp⟩ hT
  have:=ih (woL_len.trans hK) hsT c1 b1
  omega
 |@rest K W C left L es W1 C1 left1 L2 es2 h1 h2 h3 h4 h5 h6 h7 ih =>
  intro hK hT c hb
  obtain ⟨c1,b1,b2,b3⟩:=Zlw hK h1 h3 hT hb
  have hul:(tpU g.pri K).length=g.own.length:=tpU_len.trans hK
  obtain ⟨v0,hv0,hv1⟩:=Zly h1
  have hK0:=(Zc3 (Nat.le_refl _)).1 hv0
  obtain ⟨hsT,_⟩:=Zem hK (Nat.le_of_eq hul) h3 ⟨v0,by rw [Zdx,hK0,hv1];simp⟩ hT
  obtain ⟨l1,l2⟩:=lo_in (Nat.le_of_eq (woL_len.trans hK)) h5
  obtain ⟨hrT,hrk⟩:=Zem hK (Nat.le_of_eq (loL_len.trans (woL_len.trans hK))) h6 l1 hT
  obtain ⟨c2,d1,d2⟩:=b3 _ (fun v hv=>woL_sub hv) hrk l2
  have e1:=ZR_cost h4 (woL_len.trans hK) hsT c1 b1
  have e2:=ih (woL_len.trans hK) hrT c2 d1
  omega
open Go Pl
theorem zK {n v:Nat}:(List.replicate n true).getD v false=true↔v < n:=by
 rw [List.getD_eq_getElem?_getD,List.getElem?_replicate]
 by_cases h:v < n
 ·rw [if_pos h];simp [h]
 ·rw [if_neg h];simp [h]
theorem zT {g:Gm} (hV:Zc1 g):∀ u,(List.replicate g.own.length true).getD u false=true→∃ v,v∈sc g.nxt u∧(List.replicate g.own.length true).getD v false=true:=fun u hu=>by
 have hu:=zK.1 hu
 obtain ⟨⟨_,_,_,_,a5,_⟩,hr⟩:=hV.2.2.2 u hu
 have a5:1≤(g.nxt.getD u []).length:=a5
 obtain ⟨z,hm⟩:=List.exists_mem_of_length_pos (show 0 < (g.nxt.getD u []).length from a5)
 have h2:=(Zka hV hu).2 _ hm
 exact ⟨_,List.mem_map.2 ⟨_,hm,rfl⟩,zK.2 (by omega)⟩
theorem zie_sol {g:Gm} (hV:Zc1 g) {W' C':List Int} {left left':Int} (h:ZR g (List.replicate g.own.length true) (List.replicate g.own.length (-1)) (List.replicate g.own.length (-1)) left W' C' left'):solB g W' C'=true∧W'=winA g:=by
 have S:=ZR_sol hV h List.length_replicate List.length_replicate List.length_replicate (zT hV)
 obtain ⟨hW,hC,_,_⟩:=Zjd h
 rw [List.length_replicate] at hW hC
 have hset:(fun v=>(List.replicate g.own.length true).getD v false=true)=fun v=>v < g.own.length:=funext fun v=>propext zK
 have hsol:=S.sol
 rw [hset] at hsol
 obtain ⟨hw01,c,h0,h1⟩:=Zfd hV
 have hown:∀ v,v < g.own.length→g.own.getD v 0=0∨g.own.getD v 0=1:=fun v hv=>by
  obtain ⟨⟨a1,a2,_⟩,_⟩:=hV.2.2.2 v hv
  simp only [Gm.o] at a1 a2
  omega
 refine ⟨(Zhj hV).2 ⟨decide_eq_true ⟨hW,hC,fun v hv=>⟨S.inW v (zK.2 hv),fun ho=>?_,fun ho=>S.inC v (zK.2 hv) ho⟩⟩,hsol⟩,?_⟩
 ·have h2:=S.inD v (zK.2 hv) ho
  have h3:=(hsol (W'.getD v 0) (S.inW v (zK.2 hv))).mine v hv rfl ho
  obtain ⟨z,hz,e⟩:=List.mem_map.1 h3.1
  have h4:=((Zka hV hv).2 z hz).1
  have:z=C'.getD v 0:=by omega
  rw [←this];exact hz
 ·have hwl:(winA g).length=g.own.length:=by simp [winA,winL]
  refine List.ext_getElem (hW.trans hwl.symm) fun v b1 b2=>?_
  have hv:v < g.own.length:=by omega
  have e1:W'[v]=W'.getD v 0:=by rw [List.getD_eq_getElem?_getD,List.getElem?_eq_getElem b1];rfl
  have e2:(winA g)[v]=(winA g).getD v 0:=by rw [List.getD_eq_getElem?_getD,List.getElem?_eq_getElem b2];rfl
  rw [e1,e2]
  have hx:=hw01 v hv
  rcases S.inW v (zK.2 hv) with e|e
  ·have:=Zes (fun v hv=>hv) (hsol 0 (.inl rfl)) h1 hown hv e
   have:(winA g).getD v 0≠1:=this
   omega
  ·rcases hx with e3|e3
   ·exact absurd e (Zes (fun v hv=>hv) h0 (hsol 1 (.inr rfl)) hown hv e3)
   ·rw [e,e3]
theorem zie_full {g:Gm} (hV:Zc1 g) {W C:List Int} (h:ZP g (List.replicate g.own.length true) W C 131072):16 < g.own.length∧¬ ∃ a b,∀ v,v < g.own.length→g.pri.getD v 0=a∨g.pri.getD v 0=b:=by
 have hc:=ZP_cost h List.length_replicate (zT hV)
 have hn:g.own.length≤20000:=hV.1
 have hk:ctK g (List.replicate g.own.length true)≤g.own.length:=by
  unfold ctK cntZ
  exact Nat.le_trans List.countP_le_length (by rw [List.length_range];omega)
 refine ⟨Nat.lt_of_not_le fun hle=>?_,fun ⟨a,b,hab⟩=>?_⟩
 ·have h1:2 ^ (ctK g (List.replicate g.own.length true)+1)≤2 ^ 17:=Nat.pow_le_pow_right (by decide) (by omega)
  have:=hc 131071 (.inr (.inr (.inr (by omega))))
  omega
 ·have:=hc (3 * (ctK g (List.replicate g.own.length true):Int)+2) (.inr (.inr (.inl ⟨⟨a,b,fun v hv=>hab v (zK.1 hv)⟩,Int.le_refl _⟩)))
  omega
open Go Pl
def zsP (g:Gm) (W C:List Int) (e:Int):Prop:=(Zau g=false∧e=1∧W=[]∧C=[])∨(Zau g=true∧((e=0∧solB g W C=true∧W=winA g)∨(e=3∧W=[]∧C=[]∧16 < g.own.length∧¬ ∃ a b,∀ v,v < g.own.length→g.pri.getD v 0=a∨g.pri.getD v 0=b)))
theorem zs_zi {o p:List Int} {x:List (List Int)} (hV:Zc1 ⟨o,p,x⟩):ZI ⟨o,p,x⟩ ⟨List.replicate o.length true,List.replicate x.length (-1),List.replicate x.length (-1),131072⟩:=by
 have hxl:x.length=o.length:=hV.2.2.1
 refine ⟨List.length_replicate,?_,?_,by show (0:Int)≤131072;decide,by show (131072:Int)≤131072;decide,zT hV⟩
 ·show (List.replicate x.length _).length=o.length
  rw [List.length_replicate,hxl]
 ·show (List.replicate x.length _).length=o.length
  rw [List.length_replicate,hxl]
theorem zs_ans {o p:List Int} {x:List (List Int)} (hV:Zc1 ⟨o,p,x⟩) {W' C':List Int} {e:Int} (hZ:(e=0∧∃ l',ZR ⟨o,p,x⟩ (List.replicate o.length true) (List.replicate x.length (-1)) (List.replicate x.length (-1)) 131072 W' C' l')∨(e=3∧W'=[]∧C'=[]∧ZP ⟨o,p,x⟩ (List.replicate o.length true) (List.replicate x.length (-1)) (List.replicate x.length (-1)) 131072)) :
  (e=0∧solB ⟨o,p,x⟩ W' C'=true∧W'=winA ⟨o,p,x⟩)∨(e=3∧W'=[]∧C'=[]∧16 < o.length∧¬ ∃ a b,∀ v,v < o.length→p.getD v 0=a∨p.getD v 0=b):=by
 have hxl:x.length=o.length:=hV.2.2.1
 rw [hxl] at hZ
 rcases hZ with ⟨h1,l',h2⟩|⟨h1,h2,h3,h4⟩
 ·exact .inl ⟨h1,zie_sol (g:=⟨o,p,x⟩) hV h2⟩
 ·exact .inr ⟨h1,h2,h3,zie_full (g:=⟨o,p,x⟩) hV h4⟩
noncomputable def spZs : Nat→Option Spec
 |13=>some validS
 |15=>some alzS
 |_=>none
theorem Zie : SpOK Tryz.prog spZs:=by
 intro f S h
 unfold spZs at h
 split at h
 ·cases h;exact Zgo
 ·cases h;exact alz_ok
 ·cases h
def Zib := Hd.mk (And.intro @spZs.eq_1<|And.intro @spZs.eq_2<|And.intro @validS.eq_1<|@alzS.eq_1)
set_option maxRecDepth 4000 in
set_option maxHeartbeats 4000000 in
theorem zsolve_fg {o p:List Int} {x:List (List Int)} :
  FG Tryz.prog 6 [.agg (.cons (.roI o) (.cons (.roI p) (.cons (.roII x) .nil)))] [] 0 fun g=>∃ (W' C':List Int) (e:Int),zsP ⟨o,p,x⟩ W' C' e∧g=⟨0,resV [.agg (.cons (.roI W') (.cons (.roI C') .nil)),.int .i64 e],[]⟩:=by
 refine Zc5 htb (fn:=Tryz.f6) (by kernel_rfl) (by kernel_rfl) rfl (Nat.le_of_ble_eq_true rfl) fun hl=>?_
 simp only [lenP,mkL,lim] at hl
 repeat' first|exact gE|refine gS Zie Zib [3] ?_|refine gO Zie Zib [3] ?_ ?_|refine gC ?_ ?_<;>intro hb
 ·have hv:Zau ⟨o,p,x⟩=false:=by cases h:Zau ⟨o,p,x⟩ with|false=>rfl|true=>rw [h] at hb;cases hb
  refine Zab rfl rfl (Zbe ⟨0,resV [.agg (.cons (.roI []) (.cons (.roI []) .nil)),.int .i64 1],[]⟩ [] ⟨[],[],1,.inl ⟨hv,rfl,rfl,rfl⟩,rfl⟩ rfl ?_ trivial)
  exact Zf3 (Zay (Zel (Zay Zbr (Zay Zbr (Zal rfl)))) (Zal rfl))
 have hV:=validB_iff.1 hb
 have hs:=zs_zi hV
 obtain ⟨hn,hpl,hxl,hpos⟩:=id hV
 simp only [Gm.n] at hn hpl hxl
 refine awp_drawD hmo ?_
 refine awpD_text (m:=6) htb hmz Zie (fun _=>false) 0 [] (os:=[_,_,_,_,_]) rfl rfl rfl rfl (by kernel_rfl) (by kernel_rfl) ?_;intro _ _ _ _ h;simp only [zE,evp,evx,ev1,evLoad,evStore,evBin,evIf,Zac,forall_const,z38,tb,reduceAdd,reduceSub,reduceMul,reduceEqDiff,reduceLeDiff,reduceLT,Nat.reduceBEq,Nat.reduceBNe,↓reduceIte,reduceIte,spZs,validS,alzS] at h;obtain ⟨rfl,rfl,rfl,rfl⟩:=h;refine ⟨?_,?_⟩
 ·first|exact oA|skip
 refine awpD_one 5 rfl rfl (by kernel_rfl) (by kernel_rfl) ?_
 refine gCo ([]) (solved_fg hb hs) Zib ?_;intro gm gv gr hq m' e' l' h;obtain ⟨W',C',e,hZ,hq⟩:=hq;refine gCf hq h Zib ?_
 refine awpD_text (m:=5) htb hmz Zie (fun _=>false) 6 [_,_,_,_,_,_] (os:=[_,_,_,_]) rfl rfl rfl rfl (by kernel_rfl) (by kernel_rfl) ?_;intro _ _ _ _ h;simp only [zE,evp,evx,ev1,evLoad,evStore,evBin,evIf,Zac,forall_const,z38,tb,reduceAdd,reduceSub,reduceMul,reduceEqDiff,reduceLeDiff,reduceLT,Nat.reduceBEq,Nat.reduceBNe,↓reduceIte,reduceIte,spZs,validS,alzS] at h;obtain ⟨rfl,rfl,rfl,rfl⟩:=h;refine ⟨?_,?_⟩
 ·first|exact oA|skip
 refine awpD_end rfl ?_
 repeat' first|exact gE|refine gS Zie Zib [] ?_|refine gO Zie Zib [] ?_ ?_|refine gC ?_ ?_<;>intro hb
 refine Zab rfl rfl (Zbe ⟨0,resV [.agg (.cons (.roI W') (.cons (.roI C') .nil)),.int .i64 e],[]⟩ [] ⟨W',C',e,.inr ⟨hb,?_⟩,rfl⟩ rfl (Zal rfl) trivial)
 exact zs_ans hV hZ
open Go Pl
def nanS : Spec
 |[.int .i64 _]=>some ⟨True,.bool false,none⟩
 |_=>none
set_option maxRecDepth 4000 in
set_option maxHeartbeats 4000000 in
theorem nan_ok : Zcn Tryz.prog 85 nanS:=by
 refine Zaw htb (fn:=Tryz.f85) (by kernel_rfl) (by kernel_rfl) rfl (fun args r hS=>?_) (fun args r hS hob hl=>?_)
 ·unfold nanS at hS;split at hS<;>first|(cases hS;done)|(cases hS;exact Nat.le_of_ble_eq_true rfl)
 unfold nanS at hS
 split at hS
 case h_2=>cases hS
 rename_i a
 simp only [Option.some.injEq] at hS
 subst hS
 simp only [lenP,mkL,lim] at hl
 dsimp only at hob
 repeat' first|exact gE|refine gS noSp x0 [] ?_|refine gO noSp x0 [] ?_ ?_|refine gC ?_ ?_<;>intro hb
 refine Zab rfl rfl (Zae rfl ?_ rfl)
 rfl
def sgnI (a b:Int):Int:=if a < b then -1 else if b < a then 1 else 0
def cmpS : Spec
 |[.int .i64 a,.int .i64 b]=>some ⟨True,.int .i64 (sgnI a b),none⟩
 |_=>none
def spCm : Nat→Option Spec
 |85=>some nanS
 |_=>none
theorem spCm_ok : SpOK Tryz.prog spCm:=by
 intro f S h
 unfold spCm at h
 split at h
 ·cases h;exact nan_ok
 ·cases h
def xW18a_1 := Hd.mk (And.intro @spCm.eq_1<|@nanS.eq_1)
set_option maxRecDepth 4000 in
set_option maxHeartbeats 4000000 in
theorem cmp_ok : Zcn Tryz.prog 79 cmpS:=by
 refine Zaw htb (fn:=Tryz.f79) (by kernel_rfl) (by kernel_rfl) rfl (fun args r hS=>?_) (fun args r hS hob hl=>?_)
 ·unfold cmpS at hS;split at hS<;>first|(cases hS;done)|(cases hS;exact Nat.le_of_ble_eq_true rfl)
 unfold cmpS at hS
 split at hS
 case h_2=>cases hS
 rename_i a b
 simp only [Option.some.injEq] at hS
 subst hS
 simp only [lenP,mkL,lim] at hl
 dsimp only at hob
 repeat' first|exact gE|refine gS spCm_ok xW18a_1 [] ?_|refine gO spCm_ok xW18a_1 [] ?_ ?_|refine gC ?_ ?_<;>intro hb
 ·cases hb
 ·rename_i h
  cases h
 ·cases hb
 ·refine Zab rfl rfl (Zae rfl ?_ rfl)
  rw [show sgnI a b = -1 from if_pos hb];rfl
 ·rename_i h
  refine Zab rfl rfl (Zae rfl ?_ rfl)
  rw [show sgnI a b=1 by unfold sgnI;rw [if_neg (by omega),if_pos hb]];rfl
 ·rename_i h
  refine Zab rfl rfl (Zae rfl ?_ rfl)
  rw [show sgnI a b=0 by unfold sgnI;rw [if_neg (by omega),if_neg (by omega)]];rfl
structure Vl where
 e:Bool
 n:Bool
 m:List Int
def vlA (v:Vl):AV:=.agg (.cons (.bool v.e) (.cons (.bool v.n) (.cons (.roI v.m) .nil)))
def Zf8 (v:Vl) (p:Nat):Vl:=if v.e=true∨v.n=true then v else ⟨false,false,v.m.set p (v.m.getD p 0+1)⟩
def Zda (v:Vl):Int:=if v.n=true then -1 else if v.e=true then 1 else 0
def cmpK (pl:Int) (a b:List Int):Nat→Int
 |0=>0
 |k+1=>if sgnI (a.getD k 0) (b.getD k 0)≠0 then (if (k:Int) % 2≠pl then -(sgnI (a.getD k 0) (b.getD k 0)) else sgnI (a.getD k 0) (b.getD k 0)) else cmpK pl a b k
def cmpV (pl:Int) (a b:Vl):Int:=if sgnI (Zda a) (Zda b)≠0∨Zda a≠0 then sgnI (Zda a) (Zda b) else cmpK pl a.m b.m a.m.length
def rankS : Spec
 |[.agg (.cons (.bool e) (.cons (.bool n) (.cons (.roI m) .nil)))]=>some ⟨True,.int .i64 (Zda ⟨e,n,m⟩),none⟩
 |_=>none
set_option maxRecDepth 4000 in
set_option maxHeartbeats 4000000 in
theorem rank_ok : Zcn Tryz.prog 83 rankS:=by
 refine Zaw htb (fn:=Tryz.f83) (by kernel_rfl) (by kernel_rfl) rfl (fun args r hS=>?_) (fun args r hS hob hl=>?_)
 ·unfold rankS at hS;split at hS<;>first|(cases hS;done)|(cases hS;exact Nat.le_of_ble_eq_true rfl)
 unfold rankS at hS
 split at hS
 case h_2=>cases hS
 rename_i e n m
 simp only [Option.some.injEq] at hS
 subst hS
 simp only [lenP,mkL,lim] at hl
 dsimp only at hob
 repeat' first|exact gE|refine gS noSp x0 [] ?_|refine gO noSp x0 [] ?_ ?_|refine gC ?_ ?_<;>intro hb
 ·refine Zab rfl rfl (Zae rfl ?_ rfl)
  rw [show Zda ⟨e,n,m⟩ = -1 from if_pos hb];rfl
 ·rename_i h
  refine Zab rfl rfl (Zae rfl ?_ rfl)
  rw [show Zda ⟨e,n,m⟩=1 by unfold Zda;rw [if_neg (by simp [h]),if_pos hb]];rfl
 ·rename_i h
  refine Zab rfl rfl (Zae rfl ?_ rfl)
  rw [show Zda ⟨e,n,m⟩=0 by unfold Zda;rw [if_neg (by simp [h]),if_neg (by simp [hb])]];rfl
def compareS : Spec
 |[.agg (.cons (.bool e) (.cons (.bool n) (.cons (.roI m) .nil))),.agg (.cons (.bool e') (.cons (.bool n') (.cons (.roI m') .nil))),.int .i64 pl]=>some ⟨m.length≤1000000∧(Zda ⟨e,n,m⟩=0→Zda ⟨e',n',m'⟩=0→m.length≤m'.length),.int .i64 (cmpV pl ⟨e,n,m⟩ ⟨e',n',m'⟩),none⟩
 |_=>none
def spCo : Nat→Option Spec
 |83=>some rankS
 |79=>some cmpS
 |_=>none
theorem Zde : SpOK Tryz.prog spCo:=by
 intro f S h
 unfold spCo at h
 split at h
 ·cases h;exact rank_ok
 ·cases h;exact cmp_ok
 ·cases h
theorem sgn_0 {a b:Int} (h:sgnI a b=0):a=b:=by
 unfold sgnI at h
 split at h
 ·cases h
 ·split at h
  ·cases h
  ·omega
def Zcg := Hd.mk (And.intro @spCo.eq_1<|And.intro @spCo.eq_2<|And.intro @rankS.eq_1<|@cmpS.eq_1)
set_option maxRecDepth 4000 in
set_option maxHeartbeats 4000000 in
theorem compare_ok : Zcn Tryz.prog 66 compareS:=by
 refine Zaw htb (fn:=Tryz.f66) (by kernel_rfl) (by kernel_rfl) rfl (fun args r hS=>?_) (fun args r hS hob hl=>?_)
 ·unfold compareS at hS;split at hS<;>first|(cases hS;done)|(cases hS;exact Nat.le_of_ble_eq_true rfl)
 unfold compareS at hS
 split at hS
 case h_2=>cases hS
 rename_i e n m e' n' m' pl
 simp only [Option.some.injEq] at hS
 subst hS
 simp only [lenP,mkL,lim] at hl
 dsimp only at hob
 obtain ⟨hm6,hmm⟩:=hob
 have hC:cmpV pl ⟨e,n,m⟩ ⟨e',n',m'⟩=if sgnI (Zda ⟨e,n,m⟩) (Zda ⟨e',n',m'⟩)≠0∨Zda ⟨e,n,m⟩≠0 then sgnI (Zda ⟨e,n,m⟩) (Zda ⟨e',n',m'⟩) else cmpK pl m m' m.length:=rfl
 have hs0:=@sgn_0 (Zda ⟨e,n,m⟩) (Zda ⟨e',n',m'⟩)
 repeat' first|exact gE|refine gS Zde Zcg [3,4] ?_|refine gO Zde Zcg [3,4] ?_ ?_|refine gC ?_ ?_<;>intro hb
 ·repeat' first|exact gE|refine gS Zde Zcg [] ?_|refine gO Zde Zcg [] ?_ ?_|refine gC ?_ ?_<;>intro hb
  refine Zab rfl rfl (Zae rfl ?_ rfl)
  rw [hC,if_pos hb]
  rfl
 have hr0:Zda ⟨e,n,m⟩=0:=hb.2
 have hsg:sgnI (Zda ⟨e,n,m⟩) (Zda ⟨e',n',m'⟩)=0:=hb.1
 have hr1:=hs0 hsg
 have hml:=hmm hr0 (by rw [←hr1];exact hr0)
 have hC:cmpV pl ⟨e,n,m⟩ ⟨e',n',m'⟩=cmpK pl m m' m.length:=by rw [hC,if_neg (fun h=>h.elim (fun h=>h hsg) (fun h=>h hr0))]
 rw [hC]
 clear hC hs0 hmm hr1 hsg hr0 hb
 repeat' first|exact gE|refine gS Zde Zcg [] ?_|refine gO Zde Zcg [] ?_ ?_|refine gC ?_ ?_<;>intro hb
 refine Zag (τ:=Nat) (fun k=>k≤m.length∧cmpK pl m m' m.length=cmpK pl m m' k) (fun k=>⟨16,[(8,.int .i64 ((k:Int) - 1)),(4,.rop (.agg (.cons (.bool e') (.cons (.bool n') (.cons (.roI m') .nil))))),(3,.rop (.agg (.cons (.bool e) (.cons (.bool n) (.cons (.roI m) .nil))))),(2,.int .i64 pl)],[],[]⟩) (fun k=>k) m.length [] ?_ ⟨Nat.le_refl _,rfl⟩ ?_
 ·first|exact leZ Zcg|refine leA Zcg ?_|refine leB Zcg ?_ ?_
 rintro k ⟨hk,hck⟩
 repeat' first|exact gE|refine gS Zde Zcg [7,12] ?_|refine gO Zde Zcg [7,12] ?_ ?_|refine gC ?_ ?_<;>intro hb
 ·cases k with
  |zero=>exfalso;omega
  |succ k =>
   have e1:((k+1:Nat):Int) - 1=(k:Int):=by omega
   rw [e1]
   have hcs:cmpK pl m m' (k+1)=if sgnI (m.getD k 0) (m'.getD k 0)≠0 then (if (k:Int) % 2≠pl then -(sgnI (m.getD k 0) (m'.getD k 0)) else sgnI (m.getD k 0) (m'.getD k 0)) else cmpK pl m m' k:=rfl
   have hsr : -1≤sgnI (m.getD k 0) (m'.getD k 0)∧sgnI (m.getD k 0) (m'.getD k 0)≤1:=by unfold sgnI;split<;>(try split)<;>omega
   repeat' first|exact gE|refine gS Zde Zcg [9,6] ?_|refine gO Zde Zcg [9,6] ?_ ?_|refine gC ?_ ?_<;>intro hb
   ·repeat' first|exact gE|refine gS Zde Zcg [] ?_|refine gO Zde Zcg [] ?_ ?_|refine gC ?_ ?_<;>intro hb
    ·refine Zab rfl rfl (Zae rfl ?_ rfl)
     rename_i h
     have hw:IntKind.i64.wrap (-sgnI (m.getD k 0) (m'.getD k 0)) = -sgnI (m.getD k 0) (m'.getD k 0):=by
      rcases (show sgnI (m.getD k 0) (m'.getD k 0) = -1∨sgnI (m.getD k 0) (m'.getD k 0)=0∨sgnI (m.getD k 0) (m'.getD k 0)=1 by omega) with h3|h3|h3<;>rw [h3]<;>rfl
     rw [hck,hcs,if_pos h,if_pos hb,hw];rfl
    ·refine Zab rfl rfl (Zae rfl ?_ rfl)
     rename_i h
     rw [hck,hcs,if_pos h,if_neg (fun h2=>h2 hb)];rfl
   ·have h0:sgnI (m.getD k 0) (m'.getD k 0)=0:=hb
    rw [if_neg (fun h=>h h0)] at hcs
    repeat' first|exact gE|refine gS Zde Zcg [] ?_|refine gO Zde Zcg [] ?_ ?_|refine gC ?_ ?_<;>intro hb
    refine back k [] ?_ ⟨by omega,by rw [hck,hcs]⟩ (by omega)
    first|exact leZ Zcg|refine leA Zcg ?_|refine leB Zcg ?_ ?_
 have hk0:k=0:=by omega
 subst hk0
 repeat' first|exact gE|refine gS Zde Zcg [] ?_|refine gO Zde Zcg [] ?_ ?_|refine gC ?_ ?_<;>intro hb
 refine Zab rfl rfl (Zae rfl ?_ rfl)
 rw [hck]
 rfl
def plusS : Spec
 |[.agg (.cons (.bool e) (.cons (.bool n) (.cons (.roI m) .nil))),.int .i64 p]=>some ⟨e=false→n=false→(m.length≤1000000∧0≤p∧p < m.length∧0≤m.getD p.toNat 0∧m.getD p.toNat 0≤1000000000000),.agg (.cons (.bool (Zf8 ⟨e,n,m⟩ p.toNat).e) (.cons (.bool (Zf8 ⟨e,n,m⟩ p.toNat).n) (.cons (.roI (Zf8 ⟨e,n,m⟩ p.toNat).m) .nil))),none⟩
 |_=>none
set_option maxRecDepth 4000 in
set_option maxHeartbeats 4000000 in
theorem plus_ok : Zcn Tryz.prog 82 plusS:=by
 refine Zaw htb (fn:=Tryz.f82) (by kernel_rfl) (by kernel_rfl) rfl (fun args r hS=>?_) (fun args r hS hob hl=>?_)
 ·unfold plusS at hS;split at hS<;>first|(cases hS;done)|(cases hS;exact Nat.le_of_ble_eq_true rfl)
 unfold plusS at hS
 split at hS
 case h_2=>cases hS
 rename_i e n m p
 simp only [Option.some.injEq] at hS
 subst hS
 simp only [lenP,mkL,lim] at hl
 dsimp only at hob
 repeat' first|exact gE|refine gS noSp x0 [2,3] ?_|refine gO noSp x0 [2,3] ?_ ?_|refine gC ?_ ?_<;>intro hb
 ·repeat' first|exact gE|refine gS noSp x0 [] ?_|refine gO noSp x0 [] ?_ ?_|refine gC ?_ ?_<;>intro hb
  refine Zab rfl rfl (Zae rfl ?_ rfl)
  rw [show Zf8 ⟨e,n,m⟩ p.toNat=⟨e,n,m⟩ from if_pos hb]
  rfl
 have he:e=false:=by cases e with|false=>rfl|true=>simp at hb
 have hne:n=false:=by cases n with|false=>rfl|true=>simp at hb
 subst he hne
 obtain ⟨h1,h2,h3,h4,h5⟩:=hob rfl rfl
 refine gRa noSp x0 (fun i=>Nat.beq i 0) ?_ ?_
 ·first|exact oA|skip
 refine Zaf ?_
 repeat' first|exact gE|refine gS noSp x0 [5] ?_|refine gO noSp x0 [5] ?_ ?_|refine gC ?_ ?_<;>intro hb
 refine Zbb 11 (.roI (m.set p.toNat (m.getD p.toNat 0+1))) ?_
 repeat' first|exact gE|refine gS noSp x0 [] ?_|refine gO noSp x0 [] ?_ ?_|refine gC ?_ ?_<;>intro hb
 refine Zab rfl rfl (Zae rfl ?_ rfl)
 rfl
end Go.Proofs.YtjcmlflljibikaaGreatDoor.Cal
