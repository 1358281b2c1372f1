/- Own texts, merged. -/
import Derived.Test.YtjcmlflljibikaaGreatDoorS10
set_option linter.unusedVariables false
set_option linter.unusedSimpArgs false
open Nat (reduceAdd reduceSub reduceMul reduceEqDiff reduceLeDiff reduceLT)
namespace Go.Proofs.YtjcmlflljibikaaGreatDoor.Cal
open Go
section
variable {P:Program} {ro:Option Nat} {N κ:Nat} {tb:Nat→Option TI} {sp:Nat→Option Spec} {ops:Array Oper}
def memB (D:List Nat) (i:Nat):Bool:=D.any fun j=>Nat.beq j i
theorem memB_iff {D:List Nat} {i:Nat}:memB D i=true↔i∈D:=by
 unfold memB
 rw [List.any_eq_true]
 exact ⟨fun ⟨j,h1,h2⟩=>Nat.eq_of_beq_eq_true h2▸h1,fun h=>⟨i,h,Nat.beq_refl i⟩⟩
theorem memB_false {D:List Nat} {i:Nat}:memB D i=false↔i ∉ D:=by
 cases h:memB D i with
 |true=>simp [memB_iff.1 h]
 |false=>exact ⟨fun _ hh=>(by rw [memB_iff.2 hh] at h;cases h),fun _=>rfl⟩
def awpS (P:Program) (ro:Option Nat) (N κ:Nat) (ops:Array Oper) (D:List Nat) (σ:St) (Q:Exit→St→Prop):Prop :=
 ∀ n K Z ν w a,Good K Z N w ν σ a→∀ (fuel:Nat) (listed:Array Bool),listed.size=ops.size→(∀ i,i < ops.size→listed.getD i true=memB D i)→ops.size≤fuel+D.length →
  wpAnyIn (FF ro) n P .any ops (Post N κ K Z w ν Q) fuel listed a w
theorem Zil {D D':List Nat} {σ:St} {Q:Exit→St→Prop} (hm:∀ i,i∈D↔i∈D') (hl:D.length=D'.length) (h:awpS P ro N κ ops D σ Q):awpS P ro N κ ops D' σ Q :=
 fun n K Z ν w a hg fuel listed h1 h2 h3=>h n K Z ν w a hg fuel listed h1 (fun i hi=>by
  rw [h2 i hi]
  cases e:memB D i with
  |true=>exact memB_iff.2 ((hm i).1 (memB_iff.1 e))
  |false=>exact memB_false.2 fun hh=>memB_false.1 e ((hm i).2 hh)) (by omega)
theorem run_set {Q:Exit→St→Prop} (hA:AncOK ops) {L0:List Nat} {its:Nat→Item} (hop:∀ i,i∈L0→∃ o,ops[i]? = some o∧Zlu P ro N ops o (its i))
  (hap0:∀ i j,i∈L0→j∈L0→j < i→j∈(ancs ops.toList []).getD i []∨Apart (its j) (its i)) :
  ∀ (fuel:Nat) (D L:List Nat) (σ σ':St) (wd:Option (Nat × Item)) (listed:Array Bool),listed.size=ops.size→(∀ i,i < ops.size→listed.getD i true=memB D i)→(∀ i,i∈L→i∈L0)→L.Pairwise (· < ·)→(∀ i,i∈L→i < ops.size∧i ∉ D) →
   ops.size≤fuel+D.length→D.length+L.length+(match wd with|some _=>1|none=>0)≤ops.size→Zj7 ops listed →
   (∀ i,i∈L→∀ o,ops[i]? = some o→∀ p,p∈Zb3 o→p∈D∨p∈L) →
   (∀ i,i < ops.size→i ∉ D→i ∉ L→(∃ it,wd=some (i,it))∨∀ j,j∈L→j∈(ancs ops.toList []).getD i []) →
   (∀ x it,wd=some (x,it)→x < ops.size∧x ∉ D∧x ∉ L∧(∃ o,ops[x]? = some o∧Zlu P ro N ops o it)∧Fits N it σ'∧∀ j,j∈L→Apart (its j) it) →
   Zno κ σ→Zdh N its L σ σ'→awpS P ro N κ ops (D++L) σ' Q→(∀ x it,wd=some (x,it)→awpS P ro N κ ops (D++L++[x]) (it.app σ') Q) →
   ∀ n K Z ν w a,Good K Z N w ν σ a→wpAnyIn (FF ro) n P .any ops (Post N κ K Z w ν Q) fuel listed a w:=by
 intro fuel
 induction fuel with
 |zero =>
  intro D L σ σ' wd listed hsz hD hL0 hpw hLD hfuel hlen hcl hpr hoth hwd hh hr hend hendW n K Z ν w a hg
  obtain rfl:L=[]:=List.eq_nil_of_length_eq_zero (by omega)
  obtain rfl:σ=σ':=hr
  rw [List.append_nil] at hend
  exact hend n K Z ν w a hg 0 listed hsz hD hfuel
 |succ fuel ih =>
  intro D L σ σ' wd listed hsz hD hL0 hpw hLD hfuel hlen hcl hpr hoth hwd hh hr hend hendW n K Z ν w a hg
  cases hLe:L with
  |nil =>
   subst hLe
   obtain rfl:σ=σ':=hr
   rw [List.append_nil] at hend
   exact hend n K Z ν w a hg _ listed hsz hD hfuel
  |cons i0 L1 =>
  have hi0:i0∈L:=hLe▸List.mem_cons_self
  refine ⟨fun hnil=>?_,fun i hi=>?_⟩
  ·exfalso
   obtain ⟨hs,hnd⟩:=hLD i0 hi0
   have:i0∈Region.ready .any ops listed:=Zgr (Array.getElem?_eq_getElem hs) (by rw [hD i0 hs];exact memB_false.2 hnd) fun p hp=>by
    have hpi:=(hA.up i0 hs _ (Array.getElem?_eq_getElem hs)).2 p hp
    refine ⟨by omega,?_⟩
    rw [hD p (by omega)]
    rcases hpr i0 hi0 _ (Array.getElem?_eq_getElem hs) p hp with h|h
    ·exact memB_iff.2 h
    ·exfalso
     rw [hLe] at h hpw
     rcases List.mem_cons.1 h with rfl|h
     ·omega
     ·have:=List.rel_of_pairwise_cons hpw h;omega
   rw [hnil] at this
   cases this
  ·obtain ⟨h1,h2,h3⟩:=Zcv hi
   have hnD:i ∉ D:=memB_false.1 (by rw [←hD i h1];exact h2)
   have hi2:i < listed.size:=by omega
   have hcl':Zj7 ops (listed.setIfInBounds i true):=fun j oj hoj hlj p hp=>by
    rw [Zd5 hi2]
    rcases (Zd5 hi2).1 hlj with rfl|h
    ·exact .inr (h3 oj hoj p hp)
    ·exact .inr (hcl j oj hoj h p hp)
   have hD':∀ j,j < ops.size→(listed.setIfInBounds i true).getD j true=memB (D++[i]) j:=fun j hj=>by
    cases e:memB (D++[i]) j with
    |true =>
     refine (Zd5 hi2).2 ?_
     rcases List.mem_append.1 (memB_iff.1 e) with h|h
     ·exact .inr (by rw [hD j hj];exact memB_iff.2 h)
     ·exact .inl (List.mem_singleton.1 h)
    |false =>
     have:=memB_false.1 e
     rw [List.mem_append,List.mem_singleton,not_or] at this
     exact (Zhk hi2).2 ⟨this.2,by rw [hD j hj];exact memB_false.2 this.1⟩
   by_cases hiL:i∈L
   ·obtain ⟨o,ho,hrun⟩:=hop i (hL0 i hiL)
    clear hLe hi0
    obtain ⟨A,B,rfl⟩:=List.append_of_mem hiL
    have hA1:∀ j,j∈A→j < i:=fun j hj=>by
     rw [List.pairwise_append] at hpw
     exact hpw.2.2 j hj i List.mem_cons_self
    have hap:∀ j,j∈A→Apart (its j) (its i):=by
     intro j hj
     have hjL:=List.mem_append_left (i :: B) hj
     rcases hap0 i j (hL0 i hiL) (hL0 j hjL) (hA1 j hj) with h|h
     ·have hd:=Zc6 hA hcl i h1 o ho (h3 o ho) j h
      rw [hD j (hLD j hjL).1] at hd
      exact absurd (memB_iff.1 hd) (hLD j hjL).2
     ·exact h
    obtain ⟨f1,r1⟩:=Zgs A σ σ' hap hr
    unfold wpOpIn
    simp only [ho]
    refine hrun n K Z ν w a σ hg f1 _ _ ?_
    intro Z1 ν1 w1 a1 hs hν hg1
    have hmem:∀ j,j∈A++B→j∈A++i :: B:=fun j hj=>by
     rcases List.mem_append.1 hj with h|h
     ·exact List.mem_append_left _ h
     ·exact List.mem_append_right _ (List.mem_cons_of_mem _ h)
    have hnd:i ∉ A++B:=by
     have hne:(A++i :: B).Pairwise (· ≠ ·):=hpw.imp fun h=>Nat.ne_of_lt h
     rw [List.pairwise_append] at hne
     intro h
     rcases List.mem_append.1 h with h|h
     ·exact hne.2.2 i h i List.mem_cons_self rfl
     ·exact List.rel_of_pairwise_cons hne.2.1 h rfl
    have hperm:∀ j,j∈D++(A++i :: B)↔j∈D++[i]++(A++B):=fun j=>by
     simp only [List.mem_append,List.mem_cons,List.not_mem_nil,or_false]
     constructor
     ·rintro (h|h|h|h)
      ·exact .inl (.inl h)
      ·exact .inr (.inl h)
      ·exact .inl (.inr h)
      ·exact .inr (.inr h)
     ·rintro ((h|h)|h|h)
      ·exact .inl h
      ·exact .inr (.inr (.inl h))
      ·exact .inr (.inl h)
      ·exact .inr (.inr (.inr h))
    have:=ih (D++[i]) (A++B) _ σ' wd (listed.setIfInBounds i true) (by simpa using hsz) hD' (fun j hj=>hL0 j (hmem j hj)) (hpw.sublist (List.Sublist.append (List.Sublist.refl A) (List.sublist_cons_self i B))) (fun j hj=>⟨(hLD j (hmem j hj)).1,fun h=>by
      rcases List.mem_append.1 h with h|h
      ·exact (hLD j (hmem j hj)).2 h
      ·rw [List.mem_singleton.1 h] at hj;exact hnd hj⟩) (by simp;omega) (by simp at hlen ⊢;omega) hcl' (fun j hj oj hoj p hp=>by
      rcases hpr j (hmem j hj) oj hoj p hp with h|h
      ·exact .inl (List.mem_append_left _ h)
      ·rcases List.mem_append.1 h with h|h
       ·exact .inr (List.mem_append_left _ h)
       ·rcases List.mem_cons.1 h with rfl|h
        ·exact .inl (List.mem_append_right _ (List.mem_singleton.2 rfl))
        ·exact .inr (List.mem_append_right _ h)) (fun j hj hjD hjL=>by
      refine (hoth j hj (fun h=>hjD (List.mem_append_left _ h)) (fun h=>?_)).imp id fun h q hq=>h q (hmem q hq)
      rcases List.mem_append.1 h with h|h
      ·exact hjL (List.mem_append_left _ h)
      ·rcases List.mem_cons.1 h with rfl|h
       ·exact hjD (List.mem_append_right _ (List.mem_singleton.2 rfl))
       ·exact hjL (List.mem_append_right _ h)) (fun x it hx=>by
      obtain ⟨w0,w1,w2,w3,w4,w5⟩:=hwd x it hx
      refine ⟨w0,fun h=>?_,fun h=>w2 (hmem x h),w3,w4,fun j hj=>w5 j (hmem j hj)⟩
      rcases List.mem_append.1 h with h|h
      ·exact w1 h
      ·exact w2 (by rw [List.mem_singleton.1 h];exact List.mem_append_right _ List.mem_cons_self)) (Zgj hh) r1
      (Zil hperm (by simp;omega) hend) (fun x it hx=>Zil (fun j=>by rw [List.mem_append,List.mem_append (s:=D++[i]++(A++B)),hperm]) (by simp;omega) (hendW x it hx)) n _ _ ν1 w1 a1 hg1
    exact run_any.wpAnyIn_mono' this fun e a' w' hp=>hp.trans hs (fun k hk=>hν k (hh k hk))
   ·rcases hoth i h1 hnD hiL with ⟨it,hx⟩|hall
    ·obtain ⟨w0,w1,w2,⟨o,ho,hrun⟩,w4,w5⟩:=hwd i it hx
     -- the operation that may come at any time, taken now
     have hr2:Zdh N (fun j=>if j=i then it else its j) (L++[i]) σ (it.app σ'):=by
      have:∀ (L:List Nat) (σ:St),(∀ j,j∈L→j≠i)→Zdh N its L σ σ'→Zdh N (fun j=>if j=i then it else its j) (L++[i]) σ (it.app σ'):=by
       intro L
       induction L with
       |nil =>
        intro σ _ h
        obtain rfl:σ=σ':=h
        refine ⟨?_,?_⟩
        ·dsimp only;rw [if_pos rfl];exact w4
        ·show ((fun j=>if j=i then it else its j) i).app σ=it.app σ
         have e:(fun j=>if j=i then it else its j) i=it:=if_pos rfl
         rw [e]
       |cons j L ih =>
        intro σ hne h
        obtain ⟨f,h⟩:=h
        have e:(fun j=>if j=i then it else its j) j=its j:=if_neg (hne j List.mem_cons_self)
        exact ⟨by rw [e];exact f,by rw [e];exact ih _ (fun q hq=>hne q (List.mem_cons_of_mem _ hq)) h⟩
      exact this L σ (fun j hj e=>hiL (e▸hj)) hr
     have hr3:=Zgs (B:=[]) L σ (it.app σ') (fun j hj=>by
      have hji:¬ j=i:=fun e=>hiL (e▸hj)
      rw [if_neg hji,if_pos rfl];exact w5 j hj) hr2
     simp only [if_true,List.append_nil] at hr3
     obtain ⟨f1,r1⟩:=hr3
     have r1:Zdh N its L (it.app σ) (it.app σ'):=by
      have:∀ (L:List Nat) (σ:St),(∀ j,j∈L→j≠i)→Zdh N (fun j=>if j=i then it else its j) L σ (it.app σ')→Zdh N its L σ (it.app σ'):=by
       intro L
       induction L with
       |nil=>intro σ _ h;exact h
       |cons j L ih =>
        intro σ hne h
        obtain ⟨f,h⟩:=h
        have e:(fun j=>if j=i then it else its j) j=its j:=if_neg (hne j List.mem_cons_self)
        rw [e] at f h
        exact ⟨f,ih _ (fun q hq=>hne q (List.mem_cons_of_mem _ hq)) h⟩
      exact this L _ (fun j hj e=>hiL (e▸hj)) r1
     unfold wpOpIn
     simp only [ho]
     refine hrun n K Z ν w a σ hg f1 _ _ ?_
     intro Z1 ν1 w1' a1 hs hν hg1
     have hperm:∀ j,j∈D++L++[i]↔j∈D++[i]++L:=fun j=>by
      simp only [List.mem_append,List.mem_cons,List.not_mem_nil,or_false]
      exact or_right_comm
     have hend2:=Zil (P:=P) (ro:=ro) (N:=N) (κ:=κ) (ops:=ops) hperm (by simp only [List.length_append];omega) (hendW i it hx)
     rw [hx] at hlen
     dsimp only at hlen
     have:=ih (D++[i]) L _ (it.app σ') none (listed.setIfInBounds i true) (by simpa using hsz) hD' hL0 hpw (fun j hj=>⟨(hLD j hj).1,fun h=>by
       rcases List.mem_append.1 h with h|h
       ·exact (hLD j hj).2 h
       ·rw [List.mem_singleton.1 h] at hj;exact hiL hj⟩) (by simp;omega) (by simp;omega) hcl' (fun j hj oj hoj p hp=>(hpr j hj oj hoj p hp).imp (List.mem_append_left _) id) (fun j hj hjD hjL=>by
       refine .inr ((hoth j hj (fun h=>hjD (List.mem_append_left _ h)) hjL).resolve_left ?_)
       rintro ⟨it',hx'⟩
       rw [hx] at hx'
       cases hx'
       exact hjD (List.mem_append_right _ (List.mem_singleton.2 rfl))) (fun x it' hx'=>by cases hx') (Zgj hh) r1 hend2 (fun x it' hx'=>by cases hx') n _ _ ν1 w1' a1 hg1
     exact run_any.wpAnyIn_mono' this fun e a' w' hp=>hp.trans hs (fun k hk=>hν k (hh k hk))
    ·exfalso
     have:=Zc6 hA hcl i h1 _ (Array.getElem?_eq_getElem h1) (h3 _ (Array.getElem?_eq_getElem h1)) i0 (hall i0 hi0)
     rw [hD i0 (hLD i0 hi0).1] at this
     exact (hLD i0 hi0).2 (memB_iff.1 this)
def incB : List Nat→Bool
 |a :: b :: t=>Nat.blt a b && incB (b :: t)
 |_=>true
theorem incB_pw : ∀ {l:List Nat},incB l=true→l.Pairwise (· < ·)
 |[],_=>.nil
 |[a],_=>by simp
 |a :: b :: t,h=>by
  simp only [incB,Bool.and_eq_true,Nat.blt_eq] at h
  have ih:=incB_pw h.2
  refine List.pairwise_cons.2 ⟨fun c hc=>?_,ih⟩
  rcases List.mem_cons.1 hc with rfl|hc
  ·exact h.1
  ·exact Nat.lt_trans h.1 (List.rel_of_pairwise_cons ih hc)
def setOK (all:List Oper) (D L ws:List Nat) (l wl:List Item):Bool :=
 let A:=ancs all []
 Zm1 all && incB L && (L.all fun i=>Nat.blt i all.length && !memB D i) && Nat.ble (D.length+L.length+ws.length) all.length &&
 (D.all fun i=>match all[i]? with|some o=>(Zb3 o).all (memB D)|none=>false) && (L.all fun i=>match all[i]? with|some o=>(Zb3 o).all fun p=>memB D p || memB L p|none=>false) &&
 ((List.range all.length).all fun i=>memB D i || memB L i || memB ws i || L.all fun j=>memB (A.getD i []) j) &&
 ((List.range L.length).all fun a=>(List.range a).all fun b=>memB (A.getD (L.getD a 0) []) (L.getD b 0) || Zke (Zby l b) (Zby l a)) &&
 (ws.all fun x=>Nat.blt x all.length && !memB D x && !memB L x && (List.range L.length).all fun b=>Zke (Zby l b) (Zby wl 0))
theorem runsTo_seq {its its':Nat→Item}:∀ {L L':List Nat} {s s':St},L.map its=L'.map its'→Zdh N its L s s'→Zdh N its' L' s s'
 |[],[],_,_,_,h=>h
 |[],_ :: _,_,_,he,_=>by cases he
 |_ :: _,[],_,_,he,_=>by cases he
 |a :: L,b :: L',s,s',he,h=>by
  simp only [List.map_cons,List.cons.injEq] at he
  obtain ⟨f,h⟩:=h
  exact ⟨he.1▸f,by rw [←he.1];exact runsTo_seq he.2 h⟩
theorem Zjb (htb:Zdf P tb) (hmz:∀ t i,tb t=some i→men noK i.zero=true) (hsp:SpOK P sp) (ch:Nat→Bool) (k:Nat) {m:Nat} {all os wos:List Oper} {D:List Nat} (L ws:List Nat) {env:List (Nat × AV)} {l:List (Nat × Option Blk)} {ms:List Nat} {Q:Exit→St→Prop}
  (hos:L.map (fun i=>all[i]?)=os.map some) (hws:ws.map (fun i=>all[i]?)=wos.map some) (hw1:ws.length≤1) (hN:Zdq N os=true) (hNw:Zdq N wos=true) (hκ:Nat.ble κ (m+k)=true)
  (hd:setOK all D L ws (Zb4 tb sp ch m all os k env l).its (Zb4 tb sp ch m all wos (k+os.length) (Zb4 tb sp ch m all os k env l).env (Zb4 tb sp ch m all os k env l).l).its=true)
  (h:∀ m' e' l' ob,evOut tb sp ch m all os k ⟨m+k,env,l,True⟩=⟨m',e',l',ob⟩→Ob ob∧awpS P ro N κ all.toArray (D++L) (CS.st ⟨m',e',l',ms⟩) Q ∧
   (ws≠[]→∀ m2 e2 l2 ob2,evOut tb sp ch m all wos (k+os.length) ⟨m',e',l',True⟩=⟨m2,e2,l2,ob2⟩→Ob ob2∧awpS P ro N κ all.toArray (D++L++ws) (CS.st ⟨m2,e2,l2,ms⟩) Q)):awpS P ro N κ all.toArray D (CS.st ⟨m+k,env,l,ms⟩) Q:=by
 obtain ⟨hob,hq,hq2⟩:=h _ _ _ _ rfl
 obtain ⟨h1,h2,h3,h4⟩:=Zf5 ch m all os k (m+k) env l True hob
 rw [h1,h2,h4] at hq hq2
 have hfresh:∀ j,m+k≤j→ltK (m+k) j=false:=fun j hj=>by show Nat.blt j (m+k)=false;cases hb:Nat.blt j (m+k) with|false=>rfl|true=>rw [Nat.blt_eq] at hb;omega
 obtain ⟨g1,g2,μ',g3,g4,g5⟩:=Zf6 (ro:=ro) (N:=N) htb hmz hsp ch m all ms os k env l (ltK (m+k)) hN hfresh h3
 generalize hE:Zb4 tb sp ch m all os k env l=E at *
 simp only [setOK,Bool.and_eq_true,List.all_eq_true,List.mem_range,Bool.or_eq_true,Bool.not_eq_true',Nat.blt_eq] at hd
 obtain ⟨⟨⟨⟨⟨⟨⟨⟨d1,d2⟩,d3⟩,d4⟩,d5⟩,d6⟩,d7⟩,d8⟩,d9⟩:=hd
 have hA:=Zl7 (ops:=all.toArray) (by simpa using d1)
 have hpw:=incB_pw d2
 have hLlen:L.length=os.length:=by have:=congrArg List.length hos;simpa using this
 have hat:∀ i,i < L.length→all.toArray[L.getD i 0]? = os[i]?:=fun i hi=>by
  have:=congrArg (fun q=>q[i]?) hos
  simp only [List.getElem?_map,List.getElem?_eq_getElem hi,Option.map_some] at this
  rw [List.getElem?_toArray,List.getD_eq_getElem?_getD,List.getElem?_eq_getElem hi,Option.getD_some]
  have hi':i < os.length:=by omega
  rw [List.getElem?_eq_getElem hi'] at this ⊢
  simpa using this
 have hnd:L.Nodup:=hpw.imp fun h=>Nat.ne_of_lt h
 have hidx:∀ i,i∈L→∃ a,a < L.length∧L.getD a 0=i∧L.idxOf i=a:=fun i hi=>by
  have hlt:=List.idxOf_lt_length_of_mem hi
  refine ⟨L.idxOf i,hlt,?_,rfl⟩
  rw [List.getD_eq_getElem?_getD,List.getElem?_eq_getElem hlt,Option.getD_some,List.getElem_idxOf hlt]
 have hidx2:∀ a,a < L.length→L.idxOf (L.getD a 0)=a:=fun a ha=>by
  rw [List.getD_eq_getElem?_getD,List.getElem?_eq_getElem ha,Option.getD_some]
  exact hnd.idxOf_getElem a ha
 have hlt:∀ a b,a < L.length→b < L.length→L.getD b 0 < L.getD a 0→b < a:=fun a b ha hb h=>by
  rcases Nat.lt_or_ge b a with h2|h2
  ·exact h2
  ·exfalso
   rcases Nat.eq_or_lt_of_le h2 with rfl|h3
   ·omega
   ·have:=List.pairwise_iff_getElem.1 hpw a b ha hb h3
    rw [List.getD_eq_getElem?_getD,List.getElem?_eq_getElem hb,Option.getD_some,List.getD_eq_getElem?_getD,List.getElem?_eq_getElem ha,Option.getD_some] at h
    omega
 have hgood:∀ {n:Nat} {K Z:Nat→Prop} {w:World} {ν:Nat→Value} {a:Act} {μ:Nat→Bool} {e:Env} {rs:Rs} {m':Nat},(∀ j,m'≤j→μ j=false)→Good K Z N w ν ⟨μ,e,rs,ms⟩ a→Good K Z N w ν ⟨ltK m',e,rs,ms⟩ a:=fun hμ hg=>hg.widen fun j hj=>by
  show Nat.blt j _=true
  rw [Nat.blt_eq]
  rcases Nat.lt_or_ge j _ with h|h
  ·exact h
  ·rw [hμ j h] at hj;cases hj
 intro n K Z ν w a hg fuel listed hsz hD hfuel
 have hcl:Zj7 all.toArray listed:=fun i o ho hl p hp=>by
  have hi:i < all.toArray.size:=(Array.getElem?_eq_some_iff.1 ho).1
  rw [hD i hi] at hl
  have:=d5 i (memB_iff.1 hl)
  rw [List.getElem?_toArray] at ho
  rw [ho] at this
  dsimp only at this
  rw [List.all_eq_true] at this
  have hpi:=(hA.up i hi o (by rw [List.getElem?_toArray];exact ho)).2 p hp
  rw [hD p (by omega)]
  exact this p hp
 have hseq:Zdh N (fun i=>Zby E.its (L.idxOf i)) L (CS.st ⟨m+k,env,l,ms⟩) ⟨μ',lke E.env,lkr E.l,ms⟩:=by
  refine runsTo_seq ?_ g5
  refine List.ext_getElem (by simp [hLlen]) fun t h1 h2=>?_
  simp only [List.getElem_map,List.getElem_range']
  have ht:t < L.length:=by simpa using h2
  have:=hidx2 t ht
  rw [List.getD_eq_getElem?_getD,List.getElem?_eq_getElem ht,Option.getD_some] at this
  rw [this,show k+1 * t - k=t from by omega]
 have main:∀ wd:Option (Nat × Item),(match wd with|some _=>1|none=>0)=ws.length→(∀ x it,wd=some (x,it)→ws=[x]∧(∃ o,all.toArray[x]? = some o∧Zlu P ro N all.toArray o it)∧Fits N it ⟨μ',lke E.env,lkr E.l,ms⟩∧it=Zby (Zb4 tb sp ch m all wos (k+os.length) E.env E.l).its 0∧awpS P ro N κ all.toArray (D++L++[x]) (it.app ⟨μ',lke E.env,lkr E.l,ms⟩) Q)→(ws=[]∨∃ x it,wd=some (x,it)) →
   wpAnyIn (FF ro) n P .any all.toArray (Post N κ K Z w ν Q) fuel listed a w:=fun wd hwl hwd hwx=>by
  refine run_set hA (L0:=L) (its:=fun i=>Zby E.its (L.idxOf i)) (fun i hi=>?_) (fun i j hi hj hji=>?_) fuel D L (CS.st ⟨m+k,env,l,ms⟩) ⟨μ',lke E.env,lkr E.l,ms⟩ wd listed hsz hD (fun i hi=>hi) hpw (fun i hi=>?_) hfuel (by rw [hwl,List.size_toArray];exact Nat.le_of_ble_eq_true d4) hcl (fun i hi o ho p hp=>?_) (fun i hi hiD hiL=>?_) (fun x it hx=>?_) (fun j hj=>?_) hseq ?_ (fun x it hx=>(hwd x it hx).2.2.2.2) n K Z ν w a hg
  ·obtain ⟨t,ht,he,hx⟩:=hidx i hi
   have:=hat t ht
   rw [he,List.getElem?_eq_getElem (show t < os.length by omega)] at this
   exact ⟨_,this,by rw [hx];exact g2 t _ (List.getElem?_eq_getElem (by omega))⟩
  ·obtain ⟨t,ht,he,hx⟩:=hidx i hi
   obtain ⟨u,hu,he2,hx2⟩:=hidx j hj
   have hut:=hlt t u ht hu (by rw [he,he2];exact hji)
   have:=d8 t ht u hut
   rw [he,he2] at this
   rw [hx,hx2]
   rcases this with h|h
   ·exact .inl (by simpa using memB_iff.1 h)
   ·exact .inr (Zjc h)
  ·obtain ⟨q1,q2⟩:=d3 i hi
   exact ⟨by simpa using q1,memB_false.1 q2⟩
  ·have:=d6 i hi
   rw [List.getElem?_toArray] at ho
   rw [ho] at this
   dsimp only at this
   rw [List.all_eq_true] at this
   have:=this p hp
   rw [Bool.or_eq_true] at this
   exact this.imp memB_iff.1 memB_iff.1
  ·rcases d7 i (by simpa using hi) with ((h|h)|h)|h
   ·exact absurd (memB_iff.1 h) hiD
   ·exact absurd (memB_iff.1 h) hiL
   ·refine .inl ?_
    rcases hwx with h0|⟨x,it,hx⟩
    ·rw [h0] at h;cases h
    ·have:=(hwd x it hx).1
     rw [this] at h
     have:=List.mem_singleton.1 (memB_iff.1 h)
     exact ⟨it,by rw [this];exact hx⟩
   ·exact .inr fun j hj=>by simpa using memB_iff.1 (h j hj)
  ·obtain ⟨q1,q2,q3,q4,q5⟩:=hwd x it hx
   have hq:=d9 x (by rw [q1];exact List.mem_singleton.2 rfl)
   obtain ⟨⟨⟨r1,r2⟩,r3⟩,r4⟩:=hq
   refine ⟨by simpa using r1,memB_false.1 r2,memB_false.1 r3,q2,q3,fun j hj=>?_⟩
   obtain ⟨u,hu,he2,hx2⟩:=hidx j hj
   rw [hx2,q4]
   exact Zjc (r4 u hu)
  ·show Nat.blt j (m+k)=true
   rw [Nat.blt_eq]
   have:=Nat.le_of_ble_eq_true hκ
   omega
  ·intro n K Z ν w a hg
   exact hq n K Z ν w a (hgood (n:=0) g3 hg)
 cases hwe:ws with
 |nil=>exact main none (by rw [hwe];rfl) (fun x it hx=>by cases hx) (.inl hwe)
 |cons x t =>
  obtain rfl:t=[]:=by rw [hwe] at hw1;simp at hw1;exact hw1
  obtain ⟨hob2,hq3⟩:=hq2 (by rw [hwe];simp) _ _ _ _ rfl
  obtain ⟨e1,e2,e3,e4⟩:=Zf5 ch m all wos (k+os.length) (m+k+os.length) E.env E.l True hob2
  rw [e1,e2,e4] at hq3
  obtain ⟨f1,f2,μ2,f3,f4,f5⟩:=Zf6 (ro:=ro) (N:=N) htb hmz hsp ch m all ms wos (k+os.length) E.env E.l μ' hNw (fun j hj=>g3 j (by omega)) e3
  have hwos:∃ o,wos=[o]∧all[x]? = some o:=by
   rw [hwe] at hws
   simp only [List.map_cons,List.map_nil] at hws
   cases hwo:wos with
   |nil=>rw [hwo] at hws;cases hws
   |cons o t =>
    cases t with
    |nil=>rw [hwo] at hws;simp only [List.map_cons,List.map_nil,List.cons.injEq,and_true] at hws;exact ⟨o,rfl,hws⟩
    |cons _ _=>rw [hwo] at hws;simp at hws
  obtain ⟨o,rfl,hox⟩:=hwos
  obtain ⟨ff,f5⟩:=f5
  have hz:∀ q:Nat,q - q=0:=Nat.sub_self
  simp only [hz] at ff f5
  have hst:(Zby (Zb4 tb sp ch m all [o] (k+os.length) E.env E.l).its 0).app ⟨μ',lke E.env,lkr E.l,ms⟩=_:=f5
  refine main (some (x,Zby (Zb4 tb sp ch m all [o] (k+os.length) E.env E.l).its 0)) (by rw [hwe];rfl) (fun x' it hx=>?_) (.inr ⟨_,_,rfl⟩)
  cases hx
  refine ⟨hwe,⟨o,by rw [List.getElem?_toArray];exact hox,f2 0 o rfl⟩,ff,rfl,?_⟩
  rw [hst]
  intro n K Z ν w a hg
  rw [hwe] at hq3
  exact hq3 n K Z ν w a (hgood (n:=0) (fun j hj=>f3 j (by simp only [List.length_cons,List.length_nil] at hj ⊢;omega)) hg)
def brOK (all:List Oper) (D R:List Nat):Bool :=
 let A:=ancs all []
 Zm1 all && (R.all fun i=>Nat.blt i all.length && !memB D i) && Nat.blt D.length all.length &&
 (D.all fun i=>match all[i]? with|some o=>(Zb3 o).all (memB D)|none=>false) && (match R with|[]=>false|i :: _=>match all[i]? with|some o=>(Zb3 o).all (memB D)|none=>false) &&
 ((List.range all.length).all fun i=>memB D i || memB R i || (A.getD i []).any fun j => !memB D j)
theorem Zhf {all:List Oper} {D:List Nat} (R:List Nat) {σ:St} {Q:Exit→St→Prop} (hd:brOK all D R=true)
  (h:∀ i,i∈R→∃ o,all[i]? = some o∧o.guard.isNone=true∧awpL P ro N κ [o] σ (Zfe (fun s=>awpS P ro N κ all.toArray (D++[i]) s Q) Q)):awpS P ro N κ all.toArray D σ Q:=by
 simp only [brOK,Bool.and_eq_true,List.all_eq_true,List.mem_range,Bool.or_eq_true,Bool.not_eq_true',Nat.blt_eq,List.any_eq_true] at hd
 obtain ⟨⟨⟨⟨⟨d1,d2⟩,d3⟩,d4⟩,d5⟩,d6⟩:=hd
 have hA:=Zl7 (ops:=all.toArray) (by simpa using d1)
 intro n K Z ν w a hg fuel listed hsz hD hfuel
 have hcl:Zj7 all.toArray listed:=fun i o ho hl p hp=>by
  have hi:i < all.toArray.size:=(Array.getElem?_eq_some_iff.1 ho).1
  rw [hD i hi] at hl
  have:=d4 i (memB_iff.1 hl)
  rw [List.getElem?_toArray] at ho
  rw [ho] at this
  dsimp only at this
  rw [List.all_eq_true] at this
  have hpi:=(hA.up i hi o (by rw [List.getElem?_toArray];exact ho)).2 p hp
  rw [hD p (by omega)]
  exact this p hp
 cases fuel with
 |zero=>rw [List.size_toArray] at hfuel;omega
 |succ fuel =>
  refine ⟨fun hnil=>?_,fun i hi=>?_⟩
  ·exfalso
   match R,d5,d2 with
   |i :: R,d5,d2 =>
    dsimp only at d5
    obtain ⟨o,ho,_⟩:=h i List.mem_cons_self
    rw [ho] at d5
    dsimp only at d5
    rw [List.all_eq_true] at d5
    obtain ⟨q1,q2⟩:=d2 i List.mem_cons_self
    have hs:i < all.toArray.size:=by simpa using q1
    have ho':all.toArray[i]? = some o:=by rw [List.getElem?_toArray];exact ho
    have:i∈Region.ready .any all.toArray listed:=Zgr ho' (by rw [hD i hs];exact q2) fun p hp=>by
     have hpi:=(hA.up i hs o ho').2 p hp
     exact ⟨by omega,by rw [hD p (by omega)];exact d5 p hp⟩
    rw [hnil] at this
    cases this
  ·obtain ⟨h1,h2,h3⟩:=Zcv hi
   have hnD:memB D i=false:=by rw [←hD i h1];exact h2
   have hi2:i < listed.size:=by omega
   have hiR:i∈R:=by
    rcases d6 i (by simpa using h1) with (h|h)|⟨j,hj,h⟩
    ·rw [hnD] at h;cases h
    ·exact memB_iff.1 h
    ·exfalso
     have hj':j∈(ancs all.toArray.toList []).getD i []:=by simpa using hj
     have:=Zc6 hA hcl i h1 _ (Array.getElem?_eq_getElem h1) (h3 _ (Array.getElem?_eq_getElem h1)) j hj'
     have hji:=((hA.up i h1 _ (Array.getElem?_eq_getElem h1)).1 j hj').2
     rw [hD j (by omega)] at this
     rw [this] at h;cases h
   obtain ⟨o,ho,hgd,hh⟩:=h i hiR
   have ho':all.toArray[i]? = some o:=by rw [List.getElem?_toArray];exact ho
   have hh:=hh n K Z ν w a hg
   have hw0:Region.wanted o (yielded #[] a.tmps)=true:=Za8 hgd _
   simp only [wpListIn,hw0,if_true] at hh
   unfold wpOpIn
   have hw1:Region.wanted o (yielded all.toArray a.tmps)=true:=Za8 hgd _
   simp only [ho',hw1,if_true]
   have h2:o.wpIn (FF ro) n P a w (fun a' w'=>Post N κ K Z w ν (Zfe (fun s=>awpS P ro N κ all.toArray (D++[i]) s Q) Q) .normal a' w') (Post N κ K Z w ν (Zfe (fun s=>awpS P ro N κ all.toArray (D++[i]) s Q) Q)):=hh
   refine Zgf (fun a' w' hp=>?_) (fun e a' w' he hp=>?_) h2
   ·obtain ⟨Z',ν',σ',g1,g2,g3,g4⟩:=hp
    refine run_any.wpAnyIn_mono' (g4 n _ _ ν' w' a' g3 fuel (listed.setIfInBounds i true) (by simpa using hsz) (fun j hj=>?_) (by simp at hfuel ⊢;omega)) fun e a2 w2 hp=>hp.trans g1 g2
    cases e:memB (D++[i]) j with
    |true =>
     refine (Zd5 hi2).2 ?_
     rcases List.mem_append.1 (memB_iff.1 e) with h|h
     ·exact .inr (by rw [hD j hj];exact memB_iff.2 h)
     ·exact .inl (List.mem_singleton.1 h)
    |false =>
     have:=memB_false.1 e
     rw [List.mem_append,List.mem_singleton,not_or] at this
     exact (Zhk hi2).2 ⟨this.2,by rw [hD j hj];exact memB_false.2 this.1⟩
   ·obtain ⟨Z',ν',σ',g1,g2,g3,g4⟩:=hp
    refine ⟨Z',ν',σ',g1,g2,g3,?_⟩
    cases e<;>first|exact absurd rfl he|exact g4
theorem Zlq {D:List Nat} {σ:St} {Q:Exit→St→Prop} (hk:(List.range ops.size).all (memB D)=true) (h:Q .normal σ):awpS P ro N κ ops D σ Q:=by
 rw [List.all_eq_true] at hk
 intro n K Z ν w a hg fuel listed hsz hD hfuel
 have hn:Region.ready .any ops listed=[]:=by
  refine List.eq_nil_iff_forall_not_mem.2 fun i hi=>?_
  obtain ⟨h1,h2,_⟩:=Zcv hi
  rw [hD i h1,hk i (List.mem_range.2 h1)] at h2;cases h2
 cases fuel with
 |zero=>exact ⟨hn,Zc2 hg h⟩
 |succ fuel=>exact ⟨fun _=>Zc2 hg h,fun i hi=>by rw [hn] at hi;cases hi⟩
theorem awp_drawS (hmo:P.follows .mixedOrders=true) {id:Nat} {σ:St} {Q:Exit→St→Prop} (h:awpS P ro N κ ops [] σ Q):awp P ro N κ (.region id ops true) σ Q:=by
 intro n K Z ν w a hg
 refine wpIn_region_any hmo ?_
 have hstep:Step K Z w Z { w with drawn:=w.drawn+1 }:=⟨⟨rfl,rfl,rfl,Nat.le_refl _,fun _ _=>rfl⟩,fun _ h=>h,fun _ h=>.inl h⟩
 have hg1:=hg.drew (w.drawn+1)
 refine run_any.wpAnyIn_mono' (h n K Z ν _ a hg1 ops.size (Array.replicate ops.size false) (by simp) (fun i hi=>by simp [Array.getD_eq_getD_getElem?,Array.getElem?_replicate,hi,memB]) (by simp)) fun e a' w' hp=>?_
 have e:=Post.trans (N:=N) (κ:=κ) (K:=K) (Z:=Z) (w:=w) (ν:=ν) hstep (fun _ _=>rfl) (by rw [Zbt hg.zk];exact hp)
 exact e
end
open Go Pl
theorem exV : Zau ⟨[0,1],[1,2],[[0,1],[0,1]]⟩=true:=by
 refine Zeq ⟨by decide,rfl,rfl,fun v hv=>?_⟩
 have hv:v < 2:=hv
 have:v=0∨v=1:=by omega
 rcases this with rfl|rfl
 ·refine ⟨by decide,fun i hi=>?_⟩
  have hi:i < 2:=hi
  have:i=0∨i=1:=by omega
  rcases this with rfl|rfl<;>exact ⟨by decide,by decide,by decide⟩
 ·refine ⟨by decide,fun i hi=>?_⟩
  have hi:i < 2:=hi
  have:i=0∨i=1:=by omega
  rcases this with rfl|rfl<;>exact ⟨by decide,by decide,by decide⟩
theorem exC : Zcy ⟨[0,1],[1,2],[[0,1],[0,1]]⟩ [1,1] [-1,0]=true:=by
 refine decide_eq_true ⟨rfl,rfl,fun v hv=>?_⟩
 have hv:v < 2:=hv
 have:v=0∨v=1:=by omega
 rcases this with rfl|rfl
 ·exact ⟨.inr rfl,fun h=>absurd h (by decide),fun _=>rfl⟩
 ·exact ⟨.inr rfl,fun _=>by decide,fun h=>absurd rfl h⟩
theorem exNo : solB ⟨[0,1],[1,2],[[0,1],[0,1]]⟩ [1,1] [-1,0]=false:=by
 rw [Bool.eq_false_iff]
 intro h
 have hi:isP ⟨[0,1],[1,2],[[0,1],[0,1]]⟩ [] [0,1]=true:=by decide
 have h1:=sol_no exV h hi
 have h2:Zee ⟨[0,1],[1,2],[[0,1],[0,1]]⟩ [1,1] [-1,0] [] [0,1]=true:=by
  refine against_iff.2 ⟨fun i hi=>?_,.inr (by decide)⟩
  have hi:i < 2:=hi
  have:i=0∨i=1:=by omega
  rcases this with rfl|rfl
  ·exact fun h=>absurd h.1 (by decide)
  ·exact fun _=>by decide
 rw [h1] at h2;cases h2
theorem Zo1 {s l:List Int} {e:Int} (h:chkQ ⟨[0,1],[1,2],[[0,1],[0,1]]⟩ [1,1] [-1,0] s l e):e=8∧(s.length≤4∧l.length≤4)∧ctrR ⟨[0,1],[1,2],[[0,1],[0,1]]⟩ [1,1] [-1,0] s l=(true,0):=by
 rcases h with ⟨h,_⟩|⟨_,h,_⟩|⟨_,_,h,_⟩|⟨_,_,h,e⟩
 ·rw [exV] at h;cases h
 ·rw [exC] at h;cases h
 ·rw [exNo] at h;cases h
 ·have hl:s.length+l.length≤2 * 2:=h.len
  refine ⟨e,⟨by omega,by omega⟩,?_⟩
  unfold ctrR
  rw [if_pos exV,if_pos ⟨exC,h.is⟩,h.ag]
noncomputable def spAx : Nat→Option Spec
 |11=>some exS
 |12=>some ctrS
 |_=>none
theorem Zct : SpOK Tryz.prog spAx:=by
 intro f S h
 unfold spAx at h
 split at h
 ·cases h;exact ex_ok
 ·cases h;exact vctr_ok
 ·cases h
def Zcm := Hd.mk (And.intro @spAx.eq_1<|And.intro @spAx.eq_2<|And.intro @exS.eq_1<|And.intro @ctrS.eq_1<|And.intro @Zbv<|And.intro @Zbx<|And.intro @Zbw<|And.intro @true_and<|@and_true)
set_option maxRecDepth 4000 in
set_option maxHeartbeats 4000000 in
theorem awake16_fg : FG Tryz.prog 5 [] [(0,some glB)] 1 fun g=>g=⟨1,.bool true,[(0,some glB)]⟩:=by
 refine Zc5 htb (fn:=Tryz.f5) (by kernel_rfl) (by kernel_rfl) rfl (Nat.le_of_ble_eq_true rfl) fun hl=>?_
 simp only [lenP,mkL,lim] at hl
 repeat' first|exact gE|refine gS Zct Zcm [2] ?_|refine gO Zct Zcm [2] ?_ ?_|refine gC ?_ ?_<;>intro hb
 refine awp_drawS hmo ?_
 refine Zjb (m:=7) htb hmz Zct (fun _=>false) 0 [0,1] [6] (os:=[_,_]) (wos:=[_]) rfl rfl (Nat.le_of_ble_eq_true rfl) rfl rfl rfl (by kernel_rfl) ?_;intro _ _ _ _ h;simp only [zE,evp,evx,ev1,evLoad,evStore,evBin,evIf,Zac,forall_const,z38,tb,reduceAdd,reduceSub,reduceMul,reduceEqDiff,reduceLeDiff,reduceLT,Nat.reduceBEq,Nat.reduceBNe,↓reduceIte,reduceIte,spAx,exS,ctrS,Zbv,Zbx,Zbw,true_and,and_true] at h;obtain ⟨rfl,rfl,rfl,rfl⟩:=h;refine ⟨?_,?_,?_⟩
 ·first|exact oA|skip
 ·refine Zhf [2,6] (by kernel_rfl) fun i hi=>?_
  simp only [List.mem_cons,List.not_mem_nil,or_false] at hi
  rcases hi with rfl|rfl
  ·refine ⟨_,rfl,rfl,?_⟩
   refine gCo ([0]) (Zi9) Zcm ?_;intro gm gv gr hq m' e' l' h
   obtain ⟨s,l,e,hQ,hq⟩:=hq
   unfold rsA at hq
   refine gCf hq h Zcm ?_
   obtain ⟨rfl,⟨hs4,hl4⟩,hcr⟩:=Zo1 hQ
   refine Zjb (m:=6) htb hmz Zct (fun _=>false) 3 [3,4,5,6,7,8] [] (os:=[_,_,_,_,_,_]) (wos:=[]) rfl rfl (Nat.le_of_ble_eq_true rfl) rfl rfl rfl (by kernel_rfl) ?_;intro _ _ _ _ h;simp only [zE,evp,evx,ev1,evLoad,evStore,evBin,evIf,Zac,forall_const,z38,tb,reduceAdd,reduceSub,reduceMul,reduceEqDiff,reduceLeDiff,reduceLT,Nat.reduceBEq,Nat.reduceBNe,↓reduceIte,reduceIte,spAx,exS,ctrS,Zbv,Zbx,Zbw,true_and,and_true] at h;obtain ⟨rfl,rfl,rfl,rfl⟩:=h;refine ⟨?_,?_,?_⟩
   ·first|exact oA|skip
   ·refine Zlq (by kernel_rfl) ?_
    refine Zaf ?_
    repeat' first|exact gE|refine gS Zct Zcm [4] ?_|refine gO Zct Zcm [4] ?_ ?_|refine gC ?_ ?_<;>intro hb
    rw [hcr]
    repeat' first|exact gE|refine gS Zct Zcm [] ?_|refine gO Zct Zcm [] ?_ ?_|refine gC ?_ ?_<;>intro hb
    refine Zab rfl rfl (Zbe ⟨1,.bool true,[(0,some glB)]⟩ [] rfl rfl (Zal rfl) ?_)
    simp only [grR,zE,evp,evx,ev1,evLoad,evStore,evBin,evIf,Zac,forall_const,z38,tb,reduceAdd,reduceSub,reduceMul,reduceEqDiff,reduceLeDiff,reduceLT,Nat.reduceBEq,Nat.reduceBNe,↓reduceIte,reduceIte,spAx,exS,ctrS,Zbv,Zbx,Zbw,true_and,and_true]
   ·exact fun h=>absurd rfl h
  ·refine ⟨_,rfl,rfl,?_⟩
   refine gTn Zct Zcm ?_ ?_
   ·first|exact oA|skip
   refine Zhf [2] (by kernel_rfl) fun i hi=>?_
   obtain rfl:=List.mem_singleton.1 hi
   refine ⟨_,rfl,rfl,?_⟩
   refine gCo ([0]) (Zi9) Zcm ?_;intro gm gv gr hq m' e' l' h
   obtain ⟨s,l,e,hQ,hq⟩:=hq
   unfold rsA at hq
   refine gCf hq h Zcm ?_
   obtain ⟨rfl,⟨hs4,hl4⟩,hcr⟩:=Zo1 hQ
   refine Zjb (m:=6) htb hmz Zct (fun _=>false) 4 [3,4,5,7,8] [] (os:=[_,_,_,_,_]) (wos:=[]) rfl rfl (Nat.le_of_ble_eq_true rfl) rfl rfl rfl (by kernel_rfl) ?_;intro _ _ _ _ h;simp only [zE,evp,evx,ev1,evLoad,evStore,evBin,evIf,Zac,forall_const,z38,tb,reduceAdd,reduceSub,reduceMul,reduceEqDiff,reduceLeDiff,reduceLT,Nat.reduceBEq,Nat.reduceBNe,↓reduceIte,reduceIte,spAx,exS,ctrS,Zbv,Zbx,Zbw,true_and,and_true] at h;obtain ⟨rfl,rfl,rfl,rfl⟩:=h;refine ⟨?_,?_,?_⟩
   ·first|exact oA|skip
   ·refine Zlq (by kernel_rfl) ?_
    refine Zaf ?_
    repeat' first|exact gE|refine gS Zct Zcm [4] ?_|refine gO Zct Zcm [4] ?_ ?_|refine gC ?_ ?_<;>intro hb
    rw [hcr]
    repeat' first|exact gE|refine gS Zct Zcm [] ?_|refine gO Zct Zcm [] ?_ ?_|refine gC ?_ ?_<;>intro hb
    refine Zab rfl rfl (Zbe ⟨1,.bool true,[(0,some glB)]⟩ [] rfl rfl (Zal rfl) ?_)
    simp only [grR,zE,evp,evx,ev1,evLoad,evStore,evBin,evIf,Zac,forall_const,z38,tb,reduceAdd,reduceSub,reduceMul,reduceEqDiff,reduceLeDiff,reduceLT,Nat.reduceBEq,Nat.reduceBNe,↓reduceIte,reduceIte,spAx,exS,ctrS,Zbv,Zbx,Zbw,true_and,and_true]
   ·exact fun h=>absurd rfl h
 ·intro _ m2 e2 l2 ob2 h;simp only [zE,evp,evx,ev1,evLoad,evStore,evBin,evIf,Zac,forall_const,z38,tb,reduceAdd,reduceSub,reduceMul,reduceEqDiff,reduceLeDiff,reduceLT,Nat.reduceBEq,Nat.reduceBNe,↓reduceIte,reduceIte,spAx,exS,ctrS,Zbv,Zbx,Zbw,true_and,and_true] at h;obtain ⟨rfl,rfl,rfl,rfl⟩:=h;refine ⟨?_,?_⟩
  ·first|exact oA|skip
  refine Zhf [2] (by kernel_rfl) fun i hi=>?_
  obtain rfl:=List.mem_singleton.1 hi
  refine ⟨_,rfl,rfl,?_⟩
  refine gCo ([0]) (Zi9) Zcm ?_;intro gm gv gr hq m' e' l' h
  obtain ⟨s,l,e,hQ,hq⟩:=hq
  unfold rsA at hq
  refine gCf hq h Zcm ?_
  obtain ⟨rfl,⟨hs4,hl4⟩,hcr⟩:=Zo1 hQ
  refine Zjb (m:=6) htb hmz Zct (fun _=>false) 4 [3,4,5,7,8] [] (os:=[_,_,_,_,_]) (wos:=[]) rfl rfl (Nat.le_of_ble_eq_true rfl) rfl rfl rfl (by kernel_rfl) ?_;intro _ _ _ _ h;simp only [zE,evp,evx,ev1,evLoad,evStore,evBin,evIf,Zac,forall_const,z38,tb,reduceAdd,reduceSub,reduceMul,reduceEqDiff,reduceLeDiff,reduceLT,Nat.reduceBEq,Nat.reduceBNe,↓reduceIte,reduceIte,spAx,exS,ctrS,Zbv,Zbx,Zbw,true_and,and_true] at h;obtain ⟨rfl,rfl,rfl,rfl⟩:=h;refine ⟨?_,?_,?_⟩
  ·first|exact oA|skip
  ·refine Zlq (by kernel_rfl) ?_
   refine Zaf ?_
   repeat' first|exact gE|refine gS Zct Zcm [4] ?_|refine gO Zct Zcm [4] ?_ ?_|refine gC ?_ ?_<;>intro hb
   rw [hcr]
   repeat' first|exact gE|refine gS Zct Zcm [] ?_|refine gO Zct Zcm [] ?_ ?_|refine gC ?_ ?_<;>intro hb
   refine Zab rfl rfl (Zbe ⟨1,.bool true,[(0,some glB)]⟩ [] rfl rfl (Zal rfl) ?_)
   simp only [grR,zE,evp,evx,ev1,evLoad,evStore,evBin,evIf,Zac,forall_const,z38,tb,reduceAdd,reduceSub,reduceMul,reduceEqDiff,reduceLeDiff,reduceLT,Nat.reduceBEq,Nat.reduceBNe,↓reduceIte,reduceIte,spAx,exS,ctrS,Zbv,Zbx,Zbw,true_and,and_true]
  ·exact fun h=>absurd rfl h
def gvnS : Spec
 |[.agg (.cons (.roI s) (.cons (.roI l) .nil))]=>some ⟨True,.agg (.cons (.roI s) (.cons (.roI l) .nil)),none⟩
 |_=>none
def smpS : Spec
 |[.agg (.cons (.roI s) (.cons (.roI l) .nil)),.agg (.cons (.roI s2) (.cons (.roI l2) .nil))]=>some ⟨True,.bool (decide (s=s2) && decide (l=l2)),none⟩
 |_=>none
set_option maxRecDepth 4000 in
set_option maxHeartbeats 4000000 in
theorem gtp_ok : Zcn Tryz.prog 20 gvnS:=by
 refine Zaw htb (fn:=Tryz.f20) (by kernel_rfl) (by kernel_rfl) rfl (fun args r hS=>?_) (fun args r hS hob hl=>?_)
 ·unfold gvnS at hS;split at hS<;>first|(cases hS;done)|(cases hS;exact Nat.le_of_ble_eq_true rfl)
 unfold gvnS at hS
 split at hS
 case h_2=>cases hS
 rename_i s l
 simp only [Option.some.injEq] at hS
 subst hS
 simp only [lenP,mkL,lim] at hl
 dsimp only at hob
 repeat' first|exact gE|refine gS noSp x0 [] ?_|refine gO noSp x0 [] ?_ ?_|refine gC ?_ ?_<;>intro hb
 refine Zab rfl rfl (Zae rfl ?_ rfl)
 rfl
noncomputable def spSp : Nat→Option Spec
 |39=>some listS
 |_=>none
theorem spSp_ok : SpOK Tryz.prog spSp:=by
 intro f S h
 unfold spSp at h
 split at h
 ·cases h;exact list_ok
 ·cases h
def xW22d_2 := Hd.mk (And.intro @spSp.eq_1<|@listS.eq_1)
set_option maxRecDepth 4000 in
set_option maxHeartbeats 4000000 in
theorem smp_ok : Zcn Tryz.prog 19 smpS:=by
 refine Zaw htb (fn:=Tryz.f19) (by kernel_rfl) (by kernel_rfl) rfl (fun args r hS=>?_) (fun args r hS hob hl=>?_)
 ·unfold smpS at hS;split at hS<;>first|(cases hS;done)|(cases hS;exact Nat.le_of_ble_eq_true rfl)
 unfold smpS at hS
 split at hS
 case h_2=>cases hS
 rename_i s l s2 l2
 simp only [Option.some.injEq] at hS
 subst hS
 simp only [lenP,mkL,lim] at hl
 dsimp only at hob
 repeat' first|exact gE|refine gS spSp_ok xW22d_2 [] ?_|refine gO spSp_ok xW22d_2 [] ?_ ?_|refine gC ?_ ?_<;>intro hb
 refine Zab rfl rfl (Zae rfl ?_ rfl)
 rfl
open Go
section
variable {P:Program} {ro:Option Nat} {N κ:Nat} {tb:Nat→Option TI} {sp:Nat→Option Spec}
theorem wpOps_seg {F:Fence} {n:Nat} {ops:Array Oper} {Q:Exit→Act→World→Prop} (l:List Oper):∀ k,(∀ j,j < l.length→l[j]? = ops[k+j]?)→wpOpsIn F n P ops Q (List.range' k l.length)=wpListIn F n P ops Q l:=by
 induction l with
 |nil=>intro k _;funext a w;simp [wpOpsIn,wpListIn]
 |cons o l ih =>
  intro k h
  have h0:ops[k]? = some o:=by simpa using (h 0 (by simp)).symm
  have ih':=ih (k+1) (fun j hj=>by have:=h (j+1) (by simpa using hj);simpa [Nat.add_assoc,Nat.add_comm 1 j] using this)
  funext a w
  simp only [List.length_cons,List.range'_succ,wpOpsIn,h0,wpListIn,ih']
theorem awpG_text (htb:Zdf P tb) (hmz:∀ t i,tb t=some i→men noK i.zero=true) (hsp:SpOK P sp) (ch:Nat→Bool) (k:Nat) {m:Nat} {all os post:List Oper} (pre:List Oper) {env:List (Nat × AV)} {l:List (Nat × Option Blk)} {ms:List Nat} {Q:Exit→St→Prop} (hall:all=pre++(os++post)) (hk:pre.length=k) (hN:Zdq N os=true) (hκ:Nat.ble κ (m+k)=true)
  (h:∀ m' e' l' ob,evOut tb sp ch m all os k ⟨m+k,env,l,True⟩=⟨m',e',l',ob⟩→Ob ob∧awpG P ro N κ all.toArray post (CS.st ⟨m',e',l',ms⟩) Q):awpG P ro N κ all.toArray (os++post) (CS.st ⟨m+k,env,l,ms⟩) Q:=by
 obtain ⟨hob,hq⟩:=h _ _ _ _ rfl
 obtain ⟨h1,h2,h3,h4⟩:=Zf5 ch m all os k (m+k) env l True hob
 rw [h1,h2,h4] at hq
 obtain ⟨g1,g2,μ',g3,g4,g5⟩:=Zf6 (ro:=ro) (N:=N) htb hmz hsp ch m all ms os k env l (ltK (m+k)) hN (fun j hj=>by show Nat.blt j (m+k)=false;cases hb:Nat.blt j (m+k) with|false=>rfl|true=>rw [Nat.blt_eq] at hb;omega) h3
 intro n K Z ν w a hg
 refine Zgn (Zcc (Q:=Post N κ K Z w ν fun e s=>e=.normal∧s=⟨μ',lke (Zb4 tb sp ch m all os k env l).env,lkr (Zb4 tb sp ch m all os k env l).l,ms⟩) ?_ ?_)
 ·rintro e a' w' ⟨Z',ν',s',q1,q2,q3,rfl,rfl⟩
  have:=hq n _ _ ν' w' a' (q3.widen fun j hj=>by
   show Nat.blt j (m+k+os.length)=true
   rw [Nat.blt_eq]
   rcases Nat.lt_or_ge j (m+k+os.length) with h|h
   ·exact h
   ·rw [g3 j h] at hj;cases hj)
  exact Zcc (fun e a2 w2 hp=>hp.trans q1 q2) this
 ·rw [←wpOps_seg os k fun j hj=>by rw [List.getElem?_toArray,hall,List.getElem?_append_right (by omega),hk,show k+j - k=j from by omega,List.getElem?_append_left hj]]
  refine Zko (its:=fun x=>Zby (Zb4 tb sp ch m all os k env l).its (x - k)) (σ':=⟨μ',lke (Zb4 tb sp ch m all os k env l).env,lkr (Zb4 tb sp ch m all os k env l).l,ms⟩) ⟨rfl,rfl⟩ (List.range' k os.length) (CS.st ⟨m+k,env,l,ms⟩) (fun i hi=>?_) (fun j hj=>?_) g5 n K Z ν w a hg
  ·rw [List.mem_range'] at hi
   obtain ⟨q,hq,rfl⟩:=hi
   refine ⟨os[q],?_,?_⟩
   ·rw [List.getElem?_toArray,hall,List.getElem?_append_right (by omega),hk,show k+1 * q - k=q from by omega,List.getElem?_append_left hq,List.getElem?_eq_getElem hq]
   ·have:=g2 q _ (List.getElem?_eq_getElem hq)
    rw [show k+1 * q - k=q by omega]
    exact this
  ·show Nat.blt j (m+k)=true
   rw [Nat.blt_eq]
   have:=Nat.le_of_ble_eq_true hκ
   omega
theorem Zep (htb:Zdf P tb) (hmz:∀ t i,tb t=some i→men noK i.zero=true) (hsp:SpOK P sp) (ch:Nat→Bool) (k:Nat) {m:Nat} {all os post:List Oper} (pre:List Oper) {env:List (Nat × AV)} {l:List (Nat × Option Blk)} {ms:List Nat} {Q:Exit→St→Prop} (hall:all=pre++(os++post)) (hk:pre.length=k) (hN:Zdq N os=true) (hκ:Nat.ble κ m=true) (hle:Nat.ble k m=true)
  (h:∀ m' e' l' ob,evOut tb sp ch (m - k) all os k ⟨m,env,l,True⟩=⟨m',e',l',ob⟩→Ob ob∧awpG P ro N κ all.toArray post (CS.st ⟨m',e',l',ms⟩) Q):awpG P ro N κ all.toArray (os++post) (CS.st ⟨m,env,l,ms⟩) Q:=by
 have e:m - k+k=m:=Nat.sub_add_cancel (Nat.le_of_ble_eq_true hle)
 have:=awpG_text (ms:=ms) (Q:=Q) htb hmz hsp ch k (m:=m - k) pre (env:=env) (l:=l) hall hk hN (by rw [e];exact hκ) (by rw [e];exact h)
 rw [e] at this
 exact this
theorem imp_whn {g:Bool} {u v:AV} (h:Imp u v):Imp (.whn g u) (.whn g v):=fun Z w ν cs hr=>⟨fun hg=>h _ _ _ _ (hr.1 hg),hr.2⟩
theorem good_slot {K Z:Nat→Prop} {w:World} {ν:Nat→Value} {m:Nat} {env:List (Nat × AV)} {l:List (Nat × Option Blk)} {ms:List Nat} {a:Act} {s:Nat} {v:AV} (hi:Imp (lke env s) v) (hm:men (ltK m) v=true) (hg:Good K Z N w ν (CS.st ⟨m,env,l,ms⟩) a):Good K Z N w ν (CS.st ⟨m,(s,v) :: env,l,ms⟩) a:=by
 refine ⟨hg.size,hg.one,fun t=>?_,hg.rs,hg.zk,hg.kl,hg.ds,hg.ml⟩
 have:=hg.env t
 show men (ltK m) (lke ((s,v) :: env) t)=true∧R Z w (lke ((s,v) :: env) t) ν true _
 have e:lke ((s,v) :: env) t=if t=s then v else lke env t:=by
  show (match Nat.beq t s with|true=>v|false=>lke env t)=_
  by_cases h:t=s
  ·subst h;simp [Nat.beq_refl]
  ·simp only [beqN h,if_neg h]
 rw [e]
 by_cases h:t=s
 ·subst h
  rw [if_pos rfl]
  exact ⟨hm,hi _ _ _ _ this.2⟩
 ·rw [if_neg h];exact this
theorem Zd2 {ops:Array Oper} {c:List Oper} {m:Nat} {env:List (Nat × AV)} {l:List (Nat × Option Blk)} {ms:List Nat} {Q:Exit→St→Prop} (s:Nat) (v:AV) (hi:Imp (lke env s) v) (hm:men (ltK m) v=true) (h:awpG P ro N κ ops c (CS.st ⟨m,(s,v) :: env,l,ms⟩) Q):awpG P ro N κ ops c (CS.st ⟨m,env,l,ms⟩) Q :=
 fun n K Z ν w a hg=>h n K Z ν w a (good_slot hi hm hg)
end
open Go Pl
def rpr : List Int→Int
 |[]=>1
 |m :: ms=>(m+1) * rpr ms
def wfL : List Int→List Int→Prop
 |[],[]=>True
 |m :: ms,d :: ds=>(0≤d∧d≤m)∧wfL ms ds
 |_,_=>False
def nvl : List Int→List Int→Int
 |_ :: ms,d :: ds=>d * rpr ms+nvl ms ds
 |_,_=>0
def dgl : List Int→Int→List Int
 |[],_=>[]
 |_ :: ms,V=>V / rpr ms :: dgl ms (V % rpr ms)
def posL (ms:List Int):Prop:=∀ m,m∈ms→0≤m
theorem Zdn : ∀ {ms:List Int},posL ms→0 < rpr ms
 |[],_=>by decide
 |m :: ms,h=>by
  have h1:=h m List.mem_cons_self
  have h2:=Zdn (ms:=ms) fun x hx=>h x (List.mem_cons_of_mem _ hx)
  exact Int.mul_pos (by omega) h2
theorem Zga : ∀ {ms l:List Int},wfL ms l→l.length=ms.length
 |[],[],_=>rfl
 |[],_ :: _,h=>h.elim
 |_ :: _,[],h=>h.elim
 |m :: ms,d :: ds,h=>by rw [List.length_cons,List.length_cons,Zga h.2]
theorem Zei : ∀ {ms l:List Int},wfL ms l→posL ms
 |[],_,_=>fun x hx=>absurd hx List.not_mem_nil
 |_ :: _,[],h=>h.elim
 |m :: ms,d :: ds,h=>fun x hx=>by
  rcases List.mem_cons.1 hx with rfl|hx
  ·have:=h.1;omega
  ·exact Zei h.2 x hx
theorem Zg3 : ∀ {ms l:List Int},wfL ms l→0≤nvl ms l∧nvl ms l < rpr ms
 |[],[],_=>⟨Int.le_refl _,by decide⟩
 |[],_ :: _,h=>h.elim
 |_ :: _,[],h=>h.elim
 |m :: ms,d :: ds,h=>by
  obtain ⟨h1,h2⟩:=Zg3 h.2
  have h3:=Zdn (Zei h.2)
  have h4:0≤d * rpr ms:=Int.mul_nonneg h.1.1 (Int.le_of_lt h3)
  have h5:d * rpr ms≤m * rpr ms:=Int.mul_le_mul_of_nonneg_right h.1.2 (Int.le_of_lt h3)
  have h6:(m+1) * rpr ms=m * rpr ms+rpr ms:=by rw [Int.add_mul,Int.one_mul]
  show 0≤d * rpr ms+nvl ms ds∧d * rpr ms+nvl ms ds < (m+1) * rpr ms
  omega
theorem dgl_wf : ∀ {ms:List Int} {V:Int},posL ms→0≤V→V < rpr ms→wfL ms (dgl ms V)∧nvl ms (dgl ms V)=V
 |[],V,_,h1,h2=>⟨trivial,by have h2:V < 1:=h2;show 0=V;omega⟩
 |m :: ms,V,hp,h1,h2=>by
  have hp2:posL ms:=fun x hx=>hp x (List.mem_cons_of_mem _ hx)
  have h3:=Zdn hp2
  have h2:V < (m+1) * rpr ms:=h2
  obtain ⟨i1,i2⟩:=dgl_wf (V:=V % rpr ms) hp2 (Int.emod_nonneg _ (by omega)) (Int.emod_lt_of_pos _ h3)
  have h5:0≤V / rpr ms:=Int.ediv_nonneg h1 (Int.le_of_lt h3)
  have h6:V / rpr ms < m+1:=Int.ediv_lt_of_lt_mul h3 h2
  refine ⟨⟨⟨h5,by omega⟩,i1⟩,?_⟩
  show V / rpr ms * rpr ms+nvl ms (dgl ms (V % rpr ms))=V
  rw [i2,Int.mul_comm];exact Int.mul_ediv_add_emod V (rpr ms)
theorem dgl_nvl : ∀ {ms l:List Int},wfL ms l→dgl ms (nvl ms l)=l
 |[],[],_=>rfl
 |[],_ :: _,h=>h.elim
 |_ :: _,[],h=>h.elim
 |m :: ms,d :: ds,h=>by
  obtain ⟨h1,h2⟩:=Zg3 h.2
  have h3:=Zdn (Zei h.2)
  have h4:(d * rpr ms+nvl ms ds) / rpr ms=d:=by
   rw [Int.add_comm,Int.add_mul_ediv_right _ _ (by omega),Int.ediv_eq_zero_of_lt h1 h2];omega
  have h5:(d * rpr ms+nvl ms ds) % rpr ms=nvl ms ds:=by
   rw [Int.add_comm,Int.add_mul_emod_self_right,Int.emod_eq_of_lt h1 h2]
  show (d * rpr ms+nvl ms ds) / rpr ms :: dgl ms ((d * rpr ms+nvl ms ds) % rpr ms)=d :: ds
  rw [h4,h5,dgl_nvl h.2]
def cmpL : List Int→List Int→Int
 |[],[]=>0
 |[],_ :: _ => -1
 |_ :: _,[]=>1
 |a :: l,b :: r=>if a < b then -1 else if b < a then 1 else cmpL l r
theorem cmp_nv : ∀ {ms a b:List Int},wfL ms a→wfL ms b→(cmpL a b < 0↔nvl ms a < nvl ms b)∧(0 < cmpL a b↔nvl ms b < nvl ms a)
 |[],[],[],_,_=>⟨by show (0:Int) < 0↔(0:Int) < 0;omega,by show (0:Int) < 0↔(0:Int) < 0;omega⟩
 |[],_ :: _,_,h,_=>h.elim
 |[],[],_ :: _,_,h=>h.elim
 |_ :: _,[],_,h,_=>h.elim
 |_ :: _,_ :: _,[],_,h=>h.elim
 |m :: ms,a :: l,b :: r,h1,h2=>by
  obtain ⟨i1,i2⟩:=cmp_nv h1.2 h2.2
  obtain ⟨b1,b2⟩:=Zg3 h1.2
  obtain ⟨b3,b4⟩:=Zg3 h2.2
  have h3:=Zdn (Zei h1.2)
  show ((if a < b then (-1:Int) else if b < a then 1 else cmpL l r) < 0↔a * rpr ms+nvl ms l < b * rpr ms+nvl ms r)∧(0 < (if a < b then (-1:Int) else if b < a then 1 else cmpL l r)↔b * rpr ms+nvl ms r < a * rpr ms+nvl ms l)
  by_cases e:a < b
  ·rw [if_pos e]
   have:(a+1) * rpr ms≤b * rpr ms:=Int.mul_le_mul_of_nonneg_right (by omega) (Int.le_of_lt h3)
   rw [Int.add_mul,Int.one_mul] at this
   omega
  ·rw [if_neg e]
   by_cases e2:b < a
   ·rw [if_pos e2]
    have:(b+1) * rpr ms≤a * rpr ms:=Int.mul_le_mul_of_nonneg_right (by omega) (Int.le_of_lt h3)
    rw [Int.add_mul,Int.one_mul] at this
    omega
   ·rw [if_neg e2]
    obtain rfl:a=b:=by omega
    omega
/-! Digits changed -/
theorem Zg6 : ∀ {ms l:List Int} {i:Nat},wfL ms l→i < ms.length→0≤l.getD i 0∧l.getD i 0≤ms.getD i 0
 |[],_,_,_,h=>absurd h (Nat.not_lt_zero _)
 |_ :: _,[],_,h,_=>h.elim
 |m :: ms,d :: ds,0,h,_=>h.1
 |m :: ms,d :: ds,i+1,h,hi=>Zg6 (i:=i) h.2 (by simpa using hi)
theorem Zkg : ∀ {ms l:List Int} {i:Nat} {x:Int},wfL ms l→0≤x→x≤ms.getD i 0→wfL ms (l.set i x)
 |[],[],_,_,_,_,_=>trivial
 |[],_ :: _,_,_,h,_,_=>h.elim
 |_ :: _,[],_,_,h,_,_=>h.elim
 |m :: ms,d :: ds,0,x,h,h1,h2=>⟨⟨h1,h2⟩,h.2⟩
 |m :: ms,d :: ds,i+1,x,h,h1,h2=>⟨h.1,Zkg (i:=i) h.2 h1 h2⟩
theorem Zkv : ∀ {ms l:List Int} {i:Nat} {x:Int},wfL ms l→i < ms.length→nvl ms (l.set i x)=nvl ms l+(x - l.getD i 0) * rpr (ms.drop (i+1))
 |[],_,_,_,_,h=>absurd h (Nat.not_lt_zero _)
 |_ :: _,[],_,_,h,_=>h.elim
 |m :: ms,d :: ds,0,x,h,_=>by
  show x * rpr ms+nvl ms ds=d * rpr ms+nvl ms ds+(x - d) * rpr ms
  rw [Int.sub_mul];omega
 |m :: ms,d :: ds,i+1,x,h,hi=>by
  have:=Zkv (i:=i) (x:=x) h.2 (by simpa using hi)
  show d * rpr ms+nvl ms (ds.set i x)=d * rpr ms+nvl ms ds+(x - ds.getD i 0) * rpr (ms.drop (i+1))
  rw [this];omega
theorem rpr_drop : ∀ {ms:List Int} {i:Nat},i < ms.length→rpr (ms.drop i)=(ms.getD i 0+1) * rpr (ms.drop (i+1))
 |[],_,h=>absurd h (Nat.not_lt_zero _)
 |m :: ms,0,_=>rfl
 |m :: ms,i+1,h=>rpr_drop (ms:=ms) (i:=i) (by simpa using h)
theorem Zkq : ∀ {ms:List Int} {j:Nat},∃ t,rpr ms=t * rpr (ms.drop j)∧(posL ms→0 < t)
 |ms,0=>⟨1,by simp,fun _=>by decide⟩
 |[],j+1=>⟨1,by simp,fun _=>by decide⟩
 |m :: ms,j+1=>by
  obtain ⟨t,h1,h2⟩:=Zkq (ms:=ms) (j:=j)
  refine ⟨(m+1) * t,?_,fun hp=>Int.mul_pos (by have:=hp m List.mem_cons_self;omega) (h2 fun x hx=>hp x (List.mem_cons_of_mem _ hx))⟩
  show (m+1) * rpr ms=_
  rw [h1,Int.mul_assoc];rfl
theorem Zgw {ms:List Int} {j:Nat} (h:posL ms):posL (ms.drop j):=fun x hx=>h x (List.mem_of_mem_drop hx)
theorem Zkf : ∀ {ms:List Int},posL ms→wfL ms (List.replicate ms.length 0)∧nvl ms (List.replicate ms.length 0)=0
 |[],_=>⟨trivial,rfl⟩
 |m :: ms,h=>by
  obtain ⟨h1,h2⟩:=Zkf (ms:=ms) fun x hx=>h x (List.mem_cons_of_mem _ hx)
  refine ⟨⟨⟨Int.le_refl _,h m List.mem_cons_self⟩,h1⟩,?_⟩
  show 0 * rpr ms+nvl ms (List.replicate ms.length 0)=0
  rw [h2];omega
theorem Znv : ∀ {ms l:List Int} {j:Nat},wfL ms l→j≤ms.length→wfL ms (l.take j++List.replicate (ms.length - j) 0)∧nvl ms (l.take j++List.replicate (ms.length - j) 0)=nvl ms l / rpr (ms.drop j) * rpr (ms.drop j)
 |ms,l,0,h,_=>by
  obtain ⟨h1,h2⟩:=Zkf (Zei h)
  obtain ⟨b1,b2⟩:=Zg3 h
  refine ⟨by simpa using h1,?_⟩
  rw [List.drop_zero,Int.ediv_eq_zero_of_lt b1 b2]
  simpa using h2
 |[],_,j+1,_,h=>absurd h (Nat.not_succ_le_zero _)
 |_ :: _,[],_+1,h,_=>h.elim
 |m :: ms,d :: ds,j+1,h,hj=>by
  obtain ⟨h1,h2⟩:=Znv (j:=j) h.2 (by simpa using hj)
  have e:(m :: ms).length - (j+1)=ms.length - j:=by rw [List.length_cons];omega
  rw [e]
  refine ⟨⟨h.1,h1⟩,?_⟩
  obtain ⟨t,ht,_⟩:=Zkq (ms:=ms) (j:=j)
  have hR:=Zdn (Zgw (j:=j) (Zei h.2))
  show d * rpr ms+nvl ms (ds.take j++List.replicate (ms.length - j) 0)=(d * rpr ms+nvl ms ds) / rpr (ms.drop j) * rpr (ms.drop j)
  rw [h2]
  have:(d * rpr ms+nvl ms ds) / rpr (ms.drop j)=d * t+nvl ms ds / rpr (ms.drop j):=by
   have e2:d * rpr ms+nvl ms ds=nvl ms ds+d * t * rpr (ms.drop j):=by rw [ht,Int.mul_assoc];omega
   rw [e2,Int.add_mul_ediv_right _ _ (by omega)];omega
  rw [this,Int.add_mul,ht,Int.mul_assoc]
/-! Progress -/
def abv (odd:List Int) (q:Int):Nat:=(odd.takeWhile fun o=>decide (q≤o)).length
theorem Zod {odd:List Int} {q:Int}:abv odd q≤odd.length:=(List.takeWhile_sublist _).length_le
theorem Zlt : ∀ {odd:List Int} {q:Int} {j:Nat},j≤abv odd q→((j < odd.length∧q≤odd.getD j 0)↔j < abv odd q)
 |[],q,j,h=>by
  have:abv [] q=0:=rfl
  rw [this];simp
 |o :: odd,q,j,h=>by
  have hc:abv (o :: odd) q=if q≤o then abv odd q+1 else 0:=by
   unfold abv
   by_cases e:q≤o
   ·rw [if_pos e,List.takeWhile_cons,if_pos (decide_eq_true e)];rfl
   ·rw [if_neg e,List.takeWhile_cons,if_neg (by simpa using e)];rfl
  rw [hc] at h ⊢
  by_cases e:q≤o
  ·rw [if_pos e] at h ⊢
   cases j with
   |zero=>exact ⟨fun _=>Nat.succ_pos _,fun _=>⟨Nat.succ_pos _,e⟩⟩
   |succ j =>
    have:=Zlt (odd:=odd) (q:=q) (j:=j) (by omega)
    show (j+1 < odd.length+1∧q≤odd.getD j 0)↔_
    omega
  ·rw [if_neg e] at h ⊢
   obtain rfl:j=0:=by omega
   show (0 < odd.length+1∧q≤o)↔0 < 0
   omega
def Zcu (odd many:List Int) (V q:Int):Int :=
 if V=rpr many then V else if q % 2=0 then V / rpr (many.drop (abv odd q)) * rpr (many.drop (abv odd q)) else V / rpr (many.drop (abv odd q)) * rpr (many.drop (abv odd q))+rpr (many.drop (abv odd q))
theorem ediv_mul_bd {V R t:Int} (hR:0 < R) (h0:0≤V) (h:V < t * R):0≤V / R * R∧V / R * R≤V∧V / R * R+R≤t * R:=by
 have h1:0≤V / R:=Int.ediv_nonneg h0 (Int.le_of_lt hR)
 have h2:V / R < t:=Int.ediv_lt_of_lt_mul hR h
 have h3:0≤V / R * R:=Int.mul_nonneg h1 (Int.le_of_lt hR)
 have h4:=Int.mul_ediv_add_emod V R
 have h5:=Int.emod_nonneg V (b:=R) (by omega)
 have h6:(V / R+1) * R≤t * R:=Int.mul_le_mul_of_nonneg_right (by omega) (Int.le_of_lt hR)
 rw [Int.add_mul,Int.one_mul] at h6
 rw [Int.mul_comm] at h4
 omega
theorem Zhp {odd many:List Int} {V q:Int} (hp:posL many) (h0:0≤V) (h1:V≤rpr many):0≤Zcu odd many V q∧Zcu odd many V q≤rpr many:=by
 unfold Zcu
 by_cases e:V=rpr many
 ·rw [if_pos e];omega
 ·rw [if_neg e]
  obtain ⟨t,ht,_⟩:=Zkq (ms:=many) (j:=abv odd q)
  have hR:=Zdn (Zgw (j:=abv odd q) hp)
  obtain ⟨a1,a2,a3⟩:=ediv_mul_bd (t:=t) hR h0 (by rw [←ht];omega)
  rw [←ht] at a3
  split<;>omega
theorem progV_mono {odd many:List Int} {V W q:Int} (hp:posL many) (h0:0≤V) (h:V≤W) (h1:W≤rpr many):Zcu odd many V q≤Zcu odd many W q:=by
 by_cases e:W=rpr many
 ·have:=(Zhp (odd:=odd) (q:=q) hp h0 (by omega)).2
  have e2:Zcu odd many W q=W:=by unfold Zcu;rw [if_pos e]
  rw [e2];omega
 ·have hR:=Zdn (Zgw (j:=abv odd q) hp)
  unfold Zcu
  rw [if_neg e,if_neg (by omega)]
  have h3:V / rpr (many.drop (abv odd q))≤W / rpr (many.drop (abv odd q)):=Int.ediv_le_ediv hR h
  have h4:=Int.mul_le_mul_of_nonneg_right h3 (Int.le_of_lt hR)
  split<;>omega
def deM (many:List Int) (V:Int):Bool × List Int:=if V=rpr many then (true,[]) else (false,dgl many V)
theorem Zmx {many:List Int}:deM many (rpr many)=(true,[]):=if_pos rfl
theorem Zmy {many l:List Int} (h:wfL many l):deM many (nvl many l)=(false,l):=by
 have:=(Zg3 h).2
 unfold deM
 rw [if_neg (by omega),dgl_nvl h]
theorem Zh2 {many:List Int} {V:Int} (hp:posL many) (h0:0≤V) (h1:V≤rpr many):(V=rpr many∧deM many V=(true,[]))∨(V < rpr many∧wfL many (dgl many V)∧nvl many (dgl many V)=V∧deM many V=(false,dgl many V)):=by
 by_cases e:V=rpr many
 ·exact .inl ⟨e,by rw [e];exact Zmx⟩
 ·obtain ⟨a1,a2⟩:=dgl_wf hp h0 (by omega)
  exact .inr ⟨by omega,a1,a2,by unfold deM;rw [if_neg e]⟩
open Go Pl
def nanS14 : Spec
 |[.int .i64 _]=>some ⟨True,.bool false,none⟩
 |_=>none
set_option maxRecDepth 4000 in
set_option maxHeartbeats 4000000 in
theorem nan_ok14 : Zcn Tryz.prog 85 nanS14:=by
 refine Zaw htb (fn:=Tryz.f85) (by kernel_rfl) (by kernel_rfl) rfl (fun args r hS=>?_) (fun args r hS hob hl=>?_)
 ·unfold nanS14 at hS;split at hS<;>first|(cases hS;done)|(cases hS;exact Nat.le_of_ble_eq_true rfl)
 unfold nanS14 at hS
 split at hS
 case h_2=>cases hS
 rename_i y
 simp only [Option.some.injEq] at hS
 subst hS
 simp only [lenP,mkL,lim] at hl
 dsimp only at hob
 repeat' first|exact gE|refine gS noSp x0 [] ?_|refine gO noSp x0 [] ?_ ?_|refine gC ?_ ?_<;>intro hb
 refine Zab rfl rfl (Zae rfl ?_ rfl)
 rfl
def cmpI (a b:Int):Int:=if a < b then -1 else if b < a then 1 else 0
def cmpS14 : Spec
 |[.int .i64 a,.int .i64 b]=>some ⟨True,.int .i64 (cmpI a b),none⟩
 |_=>none
def spCmp : Nat→Option Spec
 |85=>some nanS14
 |_=>none
theorem spCmp_ok : SpOK Tryz.prog spCmp:=by
 intro f S h
 unfold spCmp at h
 split at h
 ·cases h;exact nan_ok14
 ·cases h
def xW14a_1 := Hd.mk (And.intro @spCmp.eq_1<|@nanS14.eq_1)
set_option maxRecDepth 4000 in
set_option maxHeartbeats 4000000 in
theorem cmp_ok14 : Zcn Tryz.prog 79 cmpS14:=by
 refine Zaw htb (fn:=Tryz.f79) (by kernel_rfl) (by kernel_rfl) rfl (fun args r hS=>?_) (fun args r hS hob hl=>?_)
 ·unfold cmpS14 at hS;split at hS<;>first|(cases hS;done)|(cases hS;exact Nat.le_of_ble_eq_true rfl)
 unfold cmpS14 at hS
 split at hS
 case h_2=>cases hS
 rename_i a b
 simp only [Option.some.injEq] at hS
 subst hS
 simp only [lenP,mkL,lim] at hl
 dsimp only at hob
 repeat' first|exact gE|refine gS spCmp_ok xW14a_1 [] ?_|refine gO spCmp_ok xW14a_1 [] ?_ ?_|refine gC ?_ ?_<;>intro hb
 all_goals try exact absurd ‹false=true› (by decide)
 ·refine Zab rfl rfl (Zae rfl ?_ rfl)
  show AV.int .i64 (-1)=AV.int .i64 (cmpI a b)
  unfold cmpI;rw [if_pos hb]
 ·refine Zab rfl rfl (Zae rfl ?_ rfl)
  show AV.int .i64 1=AV.int .i64 (cmpI a b)
  unfold cmpI;rw [if_neg (by omega),if_pos hb]
 ·refine Zab rfl rfl (Zae rfl ?_ rfl)
  show AV.int .i64 0=AV.int .i64 (cmpI a b)
  unfold cmpI;rw [if_neg (by omega),if_neg (by omega)]
def spL1 : Nat→Option Spec
 |79=>some cmpS14
 |_=>none
theorem spL1_ok : SpOK Tryz.prog spL1:=by
 intro f S h
 unfold spL1 at h
 split at h
 ·cases h;exact cmp_ok14
 ·cases h
def xW14a_2 := Hd.mk (And.intro @spL1.eq_1<|@cmpS14.eq_1)
set_option maxRecDepth 4000 in
set_option maxHeartbeats 4000000 in
theorem less1_ok : Zcn Tryz.prog 78 cmpS14:=by
 refine Zaw htb (fn:=Tryz.f78) (by kernel_rfl) (by kernel_rfl) rfl (fun args r hS=>?_) (fun args r hS hob hl=>?_)
 ·unfold cmpS14 at hS;split at hS<;>first|(cases hS;done)|(cases hS;exact Nat.le_of_ble_eq_true rfl)
 unfold cmpS14 at hS
 split at hS
 case h_2=>cases hS
 rename_i a b
 simp only [Option.some.injEq] at hS
 subst hS
 simp only [lenP,mkL,lim] at hl
 dsimp only at hob
 repeat' first|exact gE|refine gS spL1_ok xW14a_2 [] ?_|refine gO spL1_ok xW14a_2 [] ?_ ?_|refine gC ?_ ?_<;>intro hb
 refine Zab rfl rfl (Zae rfl ?_ rfl)
 rfl
theorem cmpL_step {a b:List Int} {i:Nat} (ha:i < a.length) (hb:i < b.length):cmpL (a.drop i) (b.drop i)=if a.getD i 0 < b.getD i 0 then -1 else if b.getD i 0 < a.getD i 0 then 1 else cmpL (a.drop (i+1)) (b.drop (i+1)):=by
 rw [List.drop_eq_getElem_cons ha,List.drop_eq_getElem_cons hb,List.getD_eq_getElem?_getD,List.getD_eq_getElem?_getD,List.getElem?_eq_getElem ha,List.getElem?_eq_getElem hb]
 rfl
theorem cmpL_end {a b:List Int} {i:Nat} (h:i=min a.length b.length):cmpL (a.drop i) (b.drop i)=cmpI a.length b.length:=by
 unfold cmpI
 by_cases h1:a.length < b.length
 ·have:i=a.length:=by omega
  subst this
  rw [List.drop_length,List.drop_eq_getElem_cons h1,if_pos (by omega)]
  rfl
 ·by_cases h2:b.length < a.length
  ·have:i=b.length:=by omega
   subst this
   rw [List.drop_length,List.drop_eq_getElem_cons h2,if_neg (by omega),if_pos (by omega)]
   rfl
  ·have e:a.length=b.length:=by omega
   have h3:i=a.length:=by omega
   rw [if_neg (by omega),if_neg (by omega),h3,List.drop_length,e,List.drop_length]
   rfl
def compareS14 : Spec
 |[.roI a,.roI b,.fn 78 .nil]=>some ⟨True,.int .i64 (cmpL a b),none⟩
 |_=>none
def spCo14 : Nat→Option Spec
 |79=>some cmpS14
 |78=>some cmpS14
 |_=>none
theorem Zhi : SpOK Tryz.prog spCo14:=by
 intro f S h
 unfold spCo14 at h
 split at h
 ·cases h;exact cmp_ok14
 ·cases h;exact less1_ok
 ·cases h
def Zfb := Hd.mk (And.intro @spCo14.eq_1<|And.intro @spCo14.eq_2<|@cmpS14.eq_1)
set_option maxRecDepth 4000 in
set_option maxHeartbeats 4000000 in
theorem compare_ok14 : Zcn Tryz.prog 77 compareS14:=by
 refine Zaw htb (fn:=Tryz.f77) (by kernel_rfl) (by kernel_rfl) rfl (fun args r hS=>?_) (fun args r hS hob hl=>?_)
 ·unfold compareS14 at hS;split at hS<;>first|(cases hS;done)|(cases hS;exact Nat.le_of_ble_eq_true rfl)
 unfold compareS14 at hS
 split at hS
 case h_2=>cases hS
 rename_i a b
 simp only [Option.some.injEq] at hS
 subst hS
 simp only [lenP,mkL,lim] at hl
 dsimp only at hob
 repeat' first|exact gE|refine gS Zhi Zfb [] ?_|refine gO Zhi Zfb [] ?_ ?_|refine gC ?_ ?_<;>intro hb
 refine Zag (τ:=Nat) (fun i=>i≤min a.length b.length∧cmpL (a.drop i) (b.drop i)=cmpL a b) (fun i=>⟨6,[(14,.int .i64 i),(13,.int .i64 (min a.length b.length:Nat)),(0,.roI a),(1,.roI b),(2,.fn 78 .nil)],[],[]⟩) (fun i=>min a.length b.length - i) 0 [] ?_ ⟨Nat.zero_le _,by simp⟩ ?_
 ·first|exact leZ Zfb|refine leA Zfb ?_|refine leB Zfb ?_ ?_
  omega
 rintro i ⟨hi,hc⟩
 have hst:=@cmpL_step a b i
 have hen:=@cmpL_end a b i
 rw [hc] at hst hen
 repeat' first|exact gE|refine gS Zhi Zfb [] ?_|refine gO Zhi Zfb [] ?_ ?_|refine gC ?_ ?_<;>intro hb
 ·refine Zab rfl rfl (Zae rfl ?_ rfl)
  rw [hst (by omega) (by omega)]
  unfold cmpI at hb ⊢
  split
  ·rfl
  ·rename_i h1
   rw [if_neg h1] at hb
   split
   ·rfl
   ·rename_i h2
    rw [if_neg h2] at hb
    exact absurd rfl hb
 ·refine back (i+1) [] ?_ ⟨by omega,?_⟩ (by omega)
  ·first|exact leZ Zfb|refine leA Zfb ?_|refine leB Zfb ?_ ?_
  ·have hst:=hst (by omega) (by omega)
   unfold cmpI at hb
   by_cases h1:a.getD i 0 < b.getD i 0
   ·rw [if_pos h1] at hb;cases hb
   ·by_cases h2:b.getD i 0 < a.getD i 0
    ·rw [if_neg h1,if_pos h2] at hb;cases hb
    ·rw [if_neg h1,if_neg h2] at hst;exact hst.symm
 ·refine Zab rfl rfl (Zae rfl ?_ rfl)
  rw [hen (by omega)]
  rfl
def Zdc (a b:Bool × List Int):Bool:=if a.1 || b.1 then !a.1 && b.1 else decide (cmpL a.2 b.2 < 0)
theorem Zjt {many:List Int} (hp:posL many) {V W:Int} (h0:0≤V) (h1:V≤rpr many) (h2:0≤W) (h3:W≤rpr many):Zdc (deM many V) (deM many W)=decide (V < W):=by
 unfold Zdc
 rcases Zh2 hp h0 h1 with ⟨a1,a2⟩|⟨a1,a2,a3,a4⟩
 ·rw [a2]
  rcases Zh2 hp h2 h3 with ⟨b1,b2⟩|⟨b1,b2,b3,b4⟩
  ·rw [b2];simp;omega
  ·rw [b4];simp;omega
 ·rw [a4]
  rcases Zh2 hp h2 h3 with ⟨b1,b2⟩|⟨b1,b2,b3,b4⟩
  ·rw [b2];simp;omega
  ·rw [b4]
   have:=(cmp_nv a2 b2).1
   rw [a3,b3] at this
   simp [this]
def lessS : Spec
 |[.agg (.cons (.bool t) (.cons (.roI xs) .nil)),.agg (.cons (.bool t') (.cons (.roI ys) .nil))]=>some ⟨True,.bool (Zdc (t,xs) (t',ys)),none⟩
 |_=>none
def spLe14 : Nat→Option Spec
 |77=>some compareS14
 |_=>none
theorem spLe_ok14 : SpOK Tryz.prog spLe14:=by
 intro f S h
 unfold spLe14 at h
 split at h
 ·cases h;exact compare_ok14
 ·cases h
def xW14a_4 := Hd.mk (And.intro @spLe14.eq_1<|@compareS14.eq_1)
set_option maxRecDepth 4000 in
set_option maxHeartbeats 4000000 in
theorem less_ok : Zcn Tryz.prog 61 lessS:=by
 refine Zaw htb (fn:=Tryz.f61) (by kernel_rfl) (by kernel_rfl) rfl (fun args r hS=>?_) (fun args r hS hob hl=>?_)
 ·unfold lessS at hS;split at hS<;>first|(cases hS;done)|(cases hS;exact Nat.le_of_ble_eq_true rfl)
 unfold lessS at hS
 split at hS
 case h_2=>cases hS
 rename_i t xs t' ys
 simp only [Option.some.injEq] at hS
 subst hS
 simp only [lenP,mkL,lim] at hl
 dsimp only at hob
 repeat' first|exact gE|refine gS spLe_ok14 xW14a_4 [] ?_|refine gO spLe_ok14 xW14a_4 [] ?_ ?_|refine gC ?_ ?_<;>intro hb
 ·refine Zab rfl rfl (Zae rfl ?_ rfl)
  show AV.bool (!t && t')=AV.bool (Zdc (t,xs) (t',ys))
  unfold Zdc
  rw [if_pos (by simpa using hb)]
 ·refine Zab rfl rfl (Zae rfl ?_ rfl)
  show AV.bool (decide (cmpL xs ys < 0))=AV.bool (Zdc (t,xs) (t',ys))
  unfold Zdc
  rw [if_neg (by simpa using hb)]
open Go Pl
def aboveS : Spec
 |[.agg (.cons (.roI odd) (.cons (.roI many) .nil)),.int .i64 q]=>some ⟨True,.int .i64 (abv odd q),none⟩
 |_=>none
set_option maxRecDepth 4000 in
set_option maxHeartbeats 4000000 in
theorem above_ok : Zcn Tryz.prog 80 aboveS:=by
 refine Zaw htb (fn:=Tryz.f80) (by kernel_rfl) (by kernel_rfl) rfl (fun args r hS=>?_) (fun args r hS hob hl=>?_)
 ·unfold aboveS at hS;split at hS<;>first|(cases hS;done)|(cases hS;exact Nat.le_of_ble_eq_true rfl)
 unfold aboveS at hS
 split at hS
 case h_2=>cases hS
 rename_i odd many q
 simp only [Option.some.injEq] at hS
 subst hS
 simp only [lenP,mkL,lim] at hl
 dsimp only at hob
 repeat' first|exact gE|refine gS noSp x0 [] ?_|refine gO noSp x0 [] ?_ ?_|refine gC ?_ ?_<;>intro hb
 refine Zag (τ:=Nat) (fun j=>j≤abv odd q) (fun j=>⟨3,[(5,.int .i64 j),(2,.rop (.agg (.cons (.roI odd) (.cons (.roI many) .nil)))),(1,.int .i64 q)],[],[]⟩) (fun j=>abv odd q - j) 0 [] ?_ (Nat.zero_le _) ?_
 ·first|exact leZ x0|refine leA x0 ?_|refine leB x0 ?_ ?_
 intro j hj
 have hs:=Zlt hj
 have hl:abv odd q≤odd.length:=Zod
 repeat' first|exact gE|refine gS noSp x0 [] ?_|refine gO noSp x0 [] ?_ ?_|refine gC ?_ ?_<;>intro hb
 ·have hjl:j < abv odd q:=hs.1 ⟨by omega,hb.2⟩
  refine back (j+1) [] ?_ (by omega) (by omega)
  first|exact leZ x0|refine leA x0 ?_|refine leB x0 ?_ ?_
 ·refine Zab rfl rfl (Zae rfl ?_ rfl)
  have:j=abv odd q:=by
   refine Nat.le_antisymm hj (Nat.le_of_not_lt fun h=>?_)
   have:=hs.2 h
   rcases hb with h2|h2
   ·omega
   ·omega
  rw [this]
  rfl
def enM (many:List Int) (m:Bool × List Int):Int:=bif m.1 then rpr many else nvl many m.2
def okM (many:List Int) (m:Bool × List Int):Prop:=(m.1=true∧m.2=[])∨(m.1=false∧wfL many m.2)
theorem okM_bd {many:List Int} {m:Bool × List Int} (hp:posL many) (h:okM many m):0≤enM many m∧enM many m≤rpr many:=by
 have:=Zdn hp
 rcases h with ⟨h1,h2⟩|⟨h1,h2⟩
 ·unfold enM;rw [h1];exact ⟨Int.le_of_lt this,Int.le_refl _⟩
 ·have:=Zg3 h2
  unfold enM;rw [h1]
  exact ⟨this.1,Int.le_of_lt this.2⟩
theorem Zo2 {many:List Int} (hp:posL many) {V:Int} (h0:0≤V) (h1:V≤rpr many):enM many (deM many V)=V∧okM many (deM many V):=by
 rcases Zh2 hp h0 h1 with ⟨a1,a2⟩|⟨a1,a2,a3,a4⟩
 ·rw [a2];exact ⟨a1.symm,.inl ⟨rfl,rfl⟩⟩
 ·rw [a4];exact ⟨a3,.inr ⟨rfl,a2⟩⟩
def progS : Spec
 |[.agg (.cons (.roI odd) (.cons (.roI many) .nil)),.agg (.cons (.bool t) (.cons (.roI xs) .nil)),.int .i64 q] =>
  some ⟨odd.length=many.length∧odd.length≤100∧(∀ i,many.getD i 0≤1000000000)∧posL many∧okM many (t,xs)∧0≤q,.agg (.cons (.bool (deM many (Zcu odd many (enM many (t,xs)) q)).1) (.cons (.roI (deM many (Zcu odd many (enM many (t,xs)) q)).2) .nil)),none⟩
 |_=>none
def spPr : Nat→Option Spec
 |80=>some aboveS
 |_=>none
theorem Zch : SpOK Tryz.prog spPr:=by
 intro f S h
 unfold spPr at h
 split at h
 ·cases h;exact above_ok
 ·cases h
theorem cpL_pad {k j:Nat} {xs:List Int} (hx:xs.length=k) (hj:j≤k):cpL (List.replicate k (0:Int)) (xs.take j)=xs.take j++List.replicate (k - j) 0:=by
 unfold cpL
 have h1:(xs.take j).length=j:=by rw [List.length_take];omega
 rw [List.length_replicate,h1,List.drop_replicate,List.take_take,Nat.min_eq_right hj]
structure PI (many:List Int) (X:Int) (i:Nat) (out:List Int):Prop where
 wf:wfL many out
 zr:∀ t,i≤t→out.getD t 0=0
 vl:nvl many out+rpr (many.drop i)=X
theorem PI_up {many:List Int} {X:Int} {i:Nat} {out:List Int} (h:PI many X (i+1) out) (hi:i < many.length) (hlt:out.getD i 0 < many.getD i 0):wfL many (out.set i (out.getD i 0+1))∧nvl many (out.set i (out.getD i 0+1))=X:=by
 have hg:=Zg6 h.wf hi
 refine ⟨Zkg h.wf (by omega) (by omega),?_⟩
 rw [Zkv h.wf hi,show out.getD i 0+1 - out.getD i 0=1 by omega,Int.one_mul]
 exact h.vl
theorem PI_down {many:List Int} {X:Int} {i:Nat} {out:List Int} (h:PI many X (i+1) out) (hi:i < many.length) (hge:¬ out.getD i 0 < many.getD i 0):PI many X i (out.set i 0):=by
 have hg:=Zg6 h.wf hi
 have hol:=Zga h.wf
 have hp:=Zei h.wf
 refine ⟨Zkg h.wf (Int.le_refl _) (by omega),fun t ht=>?_,?_⟩
 ·rw [Zb5 (by omega)]
  split
  ·rfl
  ·exact h.zr t (by omega)
 ·have hv:=h.vl
  have e:out.getD i 0=many.getD i 0:=by omega
  rw [Zkv h.wf hi,rpr_drop hi,e,Int.add_mul,Int.sub_mul]
  omega
theorem PI_top {many:List Int} {X:Int} {out:List Int} (h:PI many X 0 out):X=rpr many:=by
 have e:out=List.replicate many.length 0:=by
  refine List.ext_getElem (by rw [Zga h.wf];simp) fun j h1 h2=>?_
  have:=h.zr j (Nat.zero_le _)
  rw [List.getD_eq_getElem?_getD,List.getElem?_eq_getElem h1] at this
  simpa using this
 have:=(Zkf (Zei h.wf)).2
 have hv:=h.vl
 rw [e,this,List.drop_zero] at hv
 omega
structure PS where
 i:Nat
 out:List Int
def Zbs := Hd.mk (And.intro @spPr.eq_1<|@aboveS.eq_1)
set_option maxRecDepth 4000 in
set_option maxHeartbeats 4000000 in
theorem prog_ok : Zcn Tryz.prog 62 progS:=by
 refine Zaw htb (fn:=Tryz.f62) (by kernel_rfl) (by kernel_rfl) rfl (fun args r hS=>?_) (fun args r hS hob hl=>?_)
 ·unfold progS at hS;split at hS<;>first|(cases hS;done)|(cases hS;exact Nat.le_of_ble_eq_true rfl)
 unfold progS at hS
 split at hS
 case h_2=>cases hS
 rename_i odd many t xs q
 simp only [Option.some.injEq] at hS
 subst hS
 simp only [lenP,mkL,lim] at hl
 dsimp only at hob
 obtain ⟨hl2,hl3,hmb,hp,hok,hq⟩:=hob
 have hj:abv odd q≤odd.length:=Zod
 repeat' first|exact gE|refine gS Zch Zbs [3,3] ?_|refine gO Zch Zbs [3,3] ?_ ?_|refine gC ?_ ?_<;>intro hb
 ·refine Zab rfl rfl (Ze1 rfl ?_ rfl)
  obtain ⟨rfl,rfl⟩:t=true∧xs=[]:=by
   rcases hok with h|h
   ·exact h
   ·have h1:t=false:=h.1
    rw [h1] at hb;cases hb
  have:deM many (Zcu odd many (enM many (true,[])) q)=(true,[]):=by
   have e:enM many (true,[])=rpr many:=rfl
   unfold Zcu
   rw [e,if_pos rfl,Zmx]
  rw [this]
  exact Zel (Zay (Zal rfl) (Zay Zbr (Zal rfl)))
 have hwf:wfL many xs:=by
  rcases hok with h|h
  ·have h1:t=true:=h.1
   rw [h1] at hb;cases hb
  ·exact h.2
 subst hb
 have hxl:=Zga hwf
 have hbd:=Zg3 hwf
 obtain ⟨hw0,hv0⟩:=Znv hwf (j:=abv odd q) (by omega)
 have hen:enM many (false,xs)=nvl many xs:=rfl
 rw [hen]
 have hpv:Zcu odd many (nvl many xs) q=if q % 2=0 then nvl many (xs.take (abv odd q)++List.replicate (many.length - abv odd q) 0) else nvl many (xs.take (abv odd q)++List.replicate (many.length - abv odd q) 0)+rpr (many.drop (abv odd q)):=by
  rw [hv0];unfold Zcu;rw [if_neg (by omega)]
 repeat' first|exact gE|refine gS Zch Zbs [6] ?_|refine gO Zch Zbs [6] ?_ ?_|refine gC ?_ ?_<;>intro hb
 rw [hl2,cpL_pad hxl (by omega)]
 generalize hj2:abv odd q=j at *
 generalize hoo:xs.take j++List.replicate (many.length - j) 0=out at *
 have hol:=Zga hw0
 repeat' first|exact gE|refine gS Zch Zbs [7,8] ?_|refine gO Zch Zbs [7,8] ?_ ?_|refine gC ?_ ?_<;>intro hb
 ·refine Zbb 12 (.roI out) ?_
  repeat' first|exact gE|refine gS Zch Zbs [] ?_|refine gO Zch Zbs [] ?_ ?_|refine gC ?_ ?_<;>intro hb
  refine Zab rfl rfl (Zae rfl ?_ rfl)
  rw [hpv,if_pos hb,Zmy hw0]
  rfl
 have hX:PI many (Zcu odd many (nvl many xs) q) j out:=by
  refine ⟨hw0,fun t ht=>?_,by rw [hpv,if_neg hb]⟩
  rw [←hoo,List.getD_eq_getElem?_getD,List.getElem?_append_right (by rw [List.length_take];omega),List.getElem?_replicate]
  split<;>rfl
 generalize Zcu odd many (nvl many xs) q=X at *
 repeat' first|exact gE|refine gS Zch Zbs [9] ?_|refine gO Zch Zbs [9] ?_ ?_|refine gC ?_ ?_<;>intro hb
 refine Zag (τ:=PS) (fun s=>s.i≤many.length∧PI many X s.i s.out) (fun s=>⟨27,[(9,.int .i64 ((s.i:Int) - 1)),(8,.own 12),(6,.own 2),(3,.rop (.agg (.cons (.roI odd) (.cons (.roI many) .nil))))],
  [(2,some (.box (.agg (.cons (.bool false) (.cons (.cst (Value.slice none 0 0)) .nil))))),(12,some (.ints s.out))],[]⟩) (fun s=>s.i) ⟨j,out⟩ [] ?_ ⟨by dsimp only;omega,hX⟩ ?_
 ·first|exact leZ Zbs|refine leA Zbs ?_|refine leB Zbs ?_ ?_
 clear hX hpv hv0 hw0 hol hoo
 rintro ⟨i,out⟩ ⟨hi,hP⟩
 dsimp only at hi hP ⊢
 have hol:=Zga hP.wf
 repeat' first|exact gE|refine gS Zch Zbs [11,15] ?_|refine gO Zch Zbs [11,15] ?_ ?_|refine gC ?_ ?_<;>intro hb
 ·obtain ⟨i,rfl⟩:∃ k,i=k+1:=⟨i - 1,by omega⟩
  have e:((i+1:Nat):Int) - 1=(i:Int):=by omega
  rw [e]
  repeat' first|exact gE|refine gS Zch Zbs [12,14] ?_|refine gO Zch Zbs [12,14] ?_ ?_|refine gC ?_ ?_<;>intro hb
  ·obtain ⟨u1,u2⟩:=PI_up hP (by omega) hb
   have hmb:=hmb i
   have hg:=Zg6 hP.wf (i:=i) (by omega)
   repeat' first|exact gE|refine gS Zch Zbs [13] ?_|refine gO Zch Zbs [13] ?_ ?_|refine gC ?_ ?_<;>intro hb
   refine Zbb 12 (.roI (out.set i (out.getD i 0+1))) ?_
   repeat' first|exact gE|refine gS Zch Zbs [] ?_|refine gO Zch Zbs [] ?_ ?_|refine gC ?_ ?_<;>intro hb
   refine Zab rfl rfl (Zae rfl ?_ rfl)
   rw [←u2,Zmy u1]
   rfl
  ·have hD:=PI_down hP (by omega) (by omega)
   repeat' first|exact gE|refine gS Zch Zbs [] ?_|refine gO Zch Zbs [] ?_ ?_|refine gC ?_ ?_<;>intro hb
   refine back ⟨i,out.set i 0⟩ [] ?_ ⟨by dsimp only;omega,hD⟩ (by dsimp only;omega)
   first|exact leZ Zbs|refine leA Zbs ?_|refine leB Zbs ?_ ?_
 have hi0:i=0:=by omega
 subst hi0
 repeat' first|exact gE|refine gS Zch Zbs [] ?_|refine gO Zch Zbs [] ?_ ?_|refine gC ?_ ?_<;>intro hb
 refine Zab rfl rfl (Ze1 rfl ?_ rfl)
 rw [PI_top hP,Zmx]
 exact Zel (Zay (Zal rfl) (Zay Zbr (Zal rfl)))
open Go Pl
def mpN (p:List Int):Nat→List (Int × Int × Nat) × Nat
 |0=>([],0)
 |i+1=>(mput (p.getD i 0) (mget (p.getD i 0) (mpN p i).1+1) (mpN p i).2 (mpN p i).1,mclk (p.getD i 0) (mpN p i).2 (mpN p i).1)
theorem Zkz {p:List Int} {k:Int}:∀ {i:Nat},i≤p.length→mget k (mpN p i).1=(((p.take i).count k:Nat):Int)
 |0,_=>by simp [mpN,mget,fnd]
 |i+1,h=>by
  rw [mpN,mget_mput,Zff (d:=0) (by omega),List.count_append,Zkz (i:=i) (by omega),Zkz (i:=i) (by omega)]
  by_cases e:k=p.getD i 0
  ·rw [if_pos e,e,List.count_singleton_self];rfl
  ·rw [if_neg e,List.count_singleton,if_neg (by simp only [beq_iff_eq];exact fun h=>e h.symm)];rfl
def odN (p:List Int):Nat→List Int
 |0=>[]
 |k+1=>if (60 - (k:Int)) % 2=1∧0 < p.count (60 - (k:Int)) then odN p k++[60 - (k:Int)] else odN p k
def mnN (p:List Int) (k:Nat):List Int:=(odN p k).map fun q=>((p.count q:Nat):Int)
theorem odN_yes {p:List Int} {k:Nat} (h:(60 - (k:Int)) % 2=1∧0 < p.count (60 - (k:Int))):odN p (k+1)=odN p k++[60 - (k:Int)]∧mnN p (k+1)=mnN p k++[((p.count (60 - (k:Int)):Nat):Int)]:=by
 have:odN p (k+1)=odN p k++[60 - (k:Int)]:=by rw [odN,if_pos h]
 exact ⟨this,by unfold mnN;rw [this,List.map_append];rfl⟩
theorem odN_no {p:List Int} {k:Nat} (h:¬ ((60 - (k:Int)) % 2=1∧0 < p.count (60 - (k:Int)))):odN p (k+1)=odN p k∧mnN p (k+1)=mnN p k:=by
 have:odN p (k+1)=odN p k:=by rw [odN,if_neg h]
 exact ⟨this,by unfold mnN;rw [this]⟩
theorem Zml {p:List Int}:∀ k,(odN p k).length≤k
 |0=>Nat.le_refl _
 |k+1=>by
  have:=Zml (p:=p) k
  unfold odN
  split
  ·rw [List.length_append,List.length_singleton];omega
  ·omega
theorem mnN_len {p:List Int} {k:Nat}:(mnN p k).length=(odN p k).length:=List.length_map ..
def scaleS : Spec
 |[.agg (.cons (.roI o) (.cons (.roI p) (.cons (.roII x) .nil)))]=>some ⟨p.length≤100000,.agg (.cons (.roI (odN p 61)) (.cons (.roI (mnN p 61)) .nil)),none⟩
 |_=>none
set_option maxRecDepth 4000 in
set_option maxHeartbeats 4000000 in
theorem scale_ok : Zcn Tryz.prog 33 scaleS:=by
 refine Zaw htb (fn:=Tryz.f33) (by kernel_rfl) (by kernel_rfl) rfl (fun args r hS=>?_) (fun args r hS hob hl=>?_)
 ·unfold scaleS at hS;split at hS<;>first|(cases hS;done)|(cases hS;exact Nat.le_of_ble_eq_true rfl)
 unfold scaleS at hS
 split at hS
 case h_2=>cases hS
 rename_i o p x
 simp only [Option.some.injEq] at hS
 subst hS
 simp only [lenP,mkL,lim] at hl
 dsimp only at hob
 repeat' first|exact gE|refine gS noSp x0 [] ?_|refine gO noSp x0 [] ?_ ?_|refine gC ?_ ?_<;>intro hb
 refine Zag (τ:=Nat) (fun i=>i≤p.length) (fun i=>⟨8,[(12,.int .i64 i),(11,.int .i64 p.length),(10,.roI p),(3,.own 2),(2,.own 1),(1,.rop (.agg (.cons (.roI o) (.cons (.roI p) (.cons (.roII x) .nil)))))],
  [(1,some (.box (.agg (.cons (.cst (Value.slice none 0 0)) (.cons (.cst (Value.slice none 0 0)) .nil))))),(2,some (.mp (mpN p i).1 (mpN p i).2))],[]⟩) (fun i=>p.length - i) 0 [] ?_ (Nat.zero_le _) ?_
 ·first|exact leZ x0|refine leA x0 ?_|refine leB x0 ?_ ?_
  rfl
 intro i hi
 have hg:=@Zkz p (p.getD i 0) i hi
 have hcl:(p.take i).count (p.getD i 0)≤p.length:=Nat.le_trans List.count_le_length (by rw [List.length_take];omega)
 repeat' first|exact gE|refine gS noSp x0 [7] ?_|refine gO noSp x0 [7] ?_ ?_|refine gC ?_ ?_<;>intro hb
 ·refine back (i+1) [] ?_ (by omega) (by omega)
  first|exact leZ x0|refine leA x0 ?_|refine leB x0 ?_ ?_
  rfl
 have hie:i=p.length:=by omega
 subst hie
 clear hg hcl
 have hM:∀ k,mget k (mpN p p.length).1=((p.count k:Nat):Int):=fun k=>by rw [Zkz (Nat.le_refl _),List.take_length]
 generalize mpN p p.length=M at *
 obtain ⟨E,C⟩:=M
 dsimp only at hM ⊢
 repeat' first|exact gE|refine gS noSp x0 [] ?_|refine gO noSp x0 [] ?_ ?_|refine gC ?_ ?_<;>intro hb
 refine Zft 9 (.ints []) (.agg (.cons (.own 11) (.cons (.cst (Value.slice none 0 0)) .nil))) rfl rfl rfl (by first|exact .inl rfl|exact .inr (.inl rfl)|exact .inr (.inr (.inl rfl))|exact .inr (.inr (.inr rfl))) (by simp only [Zai,Zeu,fzE,fzA,fzR,fzB,set1,nbeq,reduceEqDiff,decide_true,decide_false,↓reduceIte,reduceIte,cond_true,cond_false,List.take_length,Option.some.injEq]<;>rfl) rfl ?_
 refine Zft 9 (.ints []) (.agg (.cons (.own 11) (.cons (.own 12) .nil))) rfl rfl rfl (by first|exact .inl rfl|exact .inr (.inl rfl)|exact .inr (.inr (.inl rfl))|exact .inr (.inr (.inr rfl))) (by simp only [Zai,Zeu,fzE,fzA,fzR,fzB,set1,nbeq,reduceEqDiff,decide_true,decide_false,↓reduceIte,reduceIte,cond_true,cond_false,List.take_length,Option.some.injEq]<;>rfl) rfl ?_
 refine Zag (τ:=Nat) (fun k=>k≤61) (fun k=>⟨13,[(7,.int .i64 (60 - (k:Int))),(6,.own 9),(3,.own 2),(2,.own 1)],
  [(9,some (.box (.agg (.cons (.own 11) (.cons (.own 12) .nil))))),(11,some (.ints (odN p k))),(12,some (.ints (mnN p k))),(2,some (.mp E C)),(1,some (.box (.agg (.cons (.cst (Value.slice none 0 0)) (.cons (.cst (Value.slice none 0 0)) .nil)))))],[]⟩) (fun k=>61 - k) 0 [] ?_ (Nat.zero_le _) ?_
 ·first|exact leZ x0|refine leA x0 ?_|refine leB x0 ?_ ?_
  ·rfl
  ·exact ⟨rfl,rfl⟩
 intro k hk
 have hM1:=hM (60 - (k:Int))
 have hol:=Zml (p:=p) k
 have hml:=mnN_len (p:=p) (k:=k)
 have hy:=@odN_yes p k
 have hn:=@odN_no p k
 repeat' first|exact gE|refine gS noSp x0 [10,13] ?_|refine gO noSp x0 [10,13] ?_ ?_|refine gC ?_ ?_<;>intro hb
 ·rw [hM1] at hb
  obtain ⟨y1,y2⟩:=hy ⟨hb.1,by omega⟩
  repeat' first|exact gE|refine gS noSp x0 [] ?_|refine gO noSp x0 [] ?_ ?_|refine gC ?_ ?_<;>intro hb
  refine back (k+1) [(11,28),(12,35)] ?_ (by omega) (by omega)
  first|exact leZ x0|refine leA x0 ?_|refine leB x0 ?_ ?_
  ·omega
  ·rw [hM1,y1,y2];exact ⟨rfl,rfl⟩
 ·rw [hM1] at hb
  obtain ⟨y1,y2⟩:=hn (by omega)
  repeat' first|exact gE|refine gS noSp x0 [] ?_|refine gO noSp x0 [] ?_ ?_|refine gC ?_ ?_<;>intro hb
  refine back (k+1) [] ?_ (by omega) (by omega)
  first|exact leZ x0|refine leA x0 ?_|refine leB x0 ?_ ?_
  ·omega
  ·rw [y1,y2];exact ⟨rfl,rfl⟩
 have hk61:k=61:=by omega
 subst hk61
 refine Zbb 11 (.roI (odN p 61)) ?_
 refine Zbb 12 (.roI (mnN p 61)) ?_
 repeat' first|exact gE|refine gS noSp x0 [] ?_|refine gO noSp x0 [] ?_ ?_|refine gC ?_ ?_<;>intro hb
 refine Zab rfl rfl (Zae rfl ?_ rfl)
 rfl
open Go Pl
section
variable (g:Gm) (odd many:List Int)
def askV (l:List Int) (v r:Nat):Int:=Zcu odd many (l.getD ((g.nxt.getD v []).getD r 0).toNat 0) (g.pri.getD v 0)
def bB (l:List Int) (v:Nat):Nat→Int
 |0=>0
 |r+1=>if r=0∨(g.own.getD v 0=0∧askV g odd many l v r < bB l v r)∨(g.own.getD v 0≠0∧bB l v r < askV g odd many l v r) then askV g odd many l v r else bB l v r
def Ze0 (l:List Int) (v:Nat):Int:=bB g odd many l v (g.nxt.getD v []).length
structure LR (l:List Int):Prop where
 len:l.length=g.own.length
 rng:∀ v,v < g.own.length→0≤l.getD v 0∧l.getD v 0≤rpr many
structure Pre (l:List Int):Prop extends LR g many l where
 ok:∀ v,v < g.own.length→Ze0 g odd many l v≤l.getD v 0
structure Least (l:List Int):Prop extends Pre g odd many l where
 low:∀ l',Pre g odd many l'→∀ v,v < g.own.length→l.getD v 0≤l'.getD v 0
open Classical in
noncomputable def Zeh : List Int:=if h:∃ l,Least g odd many l then Classical.choose h else []
end
section
variable {g:Gm} {odd many:List Int}
theorem least_uniq {l l':List Int} (h:Least g odd many l) (h':Least g odd many l'):l=l':=by
 refine List.ext_getElem (by rw [h.len,h'.len]) fun j h1 h2=>?_
 have hj:j < g.own.length:=by rw [←h.len];exact h1
 have a1:=h.low l' h'.toPre j hj
 have a2:=h'.low l h.toPre j hj
 rw [List.getD_eq_getElem?_getD,List.getD_eq_getElem?_getD,List.getElem?_eq_getElem h1,List.getElem?_eq_getElem h2] at a1 a2
 simp only [Option.getD_some] at a1 a2
 omega
theorem leastL_eq {l:List Int} (h:Least g odd many l):Zeh g odd many=l:=by
 have hex:∃ l,Least g odd many l:=⟨l,h⟩
 unfold Zeh
 rw [dif_pos hex]
 exact least_uniq (Classical.choose_spec hex) h
theorem Zj1 {l : List Int} {v : Nat} (h : g.own.getD v 0 = 0) : ∀ {r}, 0 < r → (∀ i, i < r → bB g odd many l v r ≤ askV g odd many l v i) ∧ ∃ i, i < r ∧ bB g odd many l v r = askV g odd many l v i
  | 0, h => absurd h (Nat.lt_irrefl _)
  | r + 1, _ => by
    unfold bB
    by_cases e : r = 0
    · subst e
      rw [if_pos (.inl rfl)]
      exact ⟨fun i hi => by obtain rfl : i = 0 := by omega
                            exact Int.le_refl _, 0, Nat.lt_succ_self _, rfl⟩
    · obtain ⟨h1, i, h2, h3⟩ := Zj1 (l := l) h (r := r) (by omega)
      by_cases e2 : askV g odd many l v r < bB g odd many l v r
      · rw [if_pos (.inr (.inl ⟨h, e2⟩))]
        exact ⟨fun i hi => by
          by_cases e3 : i = r
          · rw [e3]; exact Int.le_refl _
          · have := h1 i (by omega); omega, r, Nat.lt_succ_self _, rfl⟩
      · rw [if_neg (fun h' => h'.elim e fun h' => h'.elim (fun x => e2 x.2) fun x => x.1 h)]
        exact ⟨fun i hi => by
          by_cases e3 : i = r
          · rw [e3]; omega
          · exact h1 i (by omega), i, by omega, h3⟩
theorem Ziv {l : List Int} {v : Nat} (h : g.own.getD v 0 ≠ 0) : ∀ {r}, 0 < r → (∀ i, i < r → askV g odd many l v i ≤ bB g odd many l v r) ∧ ∃ i, i < r ∧ bB g odd many l v r = askV g odd many l v i
  | 0, h => absurd h (Nat.lt_irrefl _)
  | r + 1, _ => by
    unfold bB
    by_cases e : r = 0
    · subst e
      rw [if_pos (.inl rfl)]
      exact ⟨fun i hi => by obtain rfl : i = 0 := by omega
                            exact Int.le_refl _, 0, Nat.lt_succ_self _, rfl⟩
    · obtain ⟨h1, i, h2, h3⟩ := Ziv (l := l) h (r := r) (by omega)
      by_cases e2 : bB g odd many l v r < askV g odd many l v r
      · rw [if_pos (.inr (.inr ⟨h, e2⟩))]
        exact ⟨fun i hi => by
          by_cases e3 : i = r
          · rw [e3]; exact Int.le_refl _
          · have := h1 i (by omega); omega, r, Nat.lt_succ_self _, rfl⟩
      · rw [if_neg (fun h' => h'.elim e fun h' => h'.elim (fun x => h x.1) fun x => e2 x.2)]
        exact ⟨fun i hi => by
          by_cases e3 : i = r
          · rw [e3]; omega
          · exact h1 i (by omega), i, by omega, h3⟩
theorem Znt {x:List (List Int)} {v i:Nat} (hi:i < (x.getD v []).length):((x.getD v []).getD i 0).toNat∈rws x v:=by
 rw [List.getD_eq_getElem?_getD,List.getElem?_eq_getElem hi]
 exact List.mem_map.2 ⟨_,List.getElem_mem hi,rfl⟩
theorem Zll {l:List Int} {v:Nat} (hr:0 < (g.nxt.getD v []).length):∃ i,i < (g.nxt.getD v []).length∧Ze0 g odd many l v=askV g odd many l v i:=by
 by_cases h:g.own.getD v 0=0
 ·exact (Zj1 h hr).2
 ·exact (Ziv h hr).2
theorem Zmz {l:List Int} {v:Nat} (hp:posL many) (hl:LR g many l) (hr:0 < (g.nxt.getD v []).length) (hw:∀ t,t∈rws g.nxt v→t < g.own.length):0≤Ze0 g odd many l v∧Ze0 g odd many l v≤rpr many:=by
 obtain ⟨i,h1,h2⟩:=Zll (odd:=odd) (many:=many) (l:=l) hr
 have h3:=hl.rng _ (hw _ (Znt h1))
 rw [h2]
 exact Zhp hp h3.1 h3.2
theorem best_mono {l l':List Int} {v:Nat} (hp:posL many) (hl:LR g many l) (hl':LR g many l') (hr:0 < (g.nxt.getD v []).length) (hw:∀ t,t∈rws g.nxt v→t < g.own.length) (h:∀ t,t∈rws g.nxt v→l.getD t 0≤l'.getD t 0):Ze0 g odd many l v≤Ze0 g odd many l' v:=by
 have ha:∀ i,i < (g.nxt.getD v []).length→askV g odd many l v i≤askV g odd many l' v i:=fun i hi=>by
  have hm:=Znt (x:=g.nxt) hi
  exact progV_mono hp (hl.rng _ (hw _ hm)).1 (h _ hm) (hl'.rng _ (hw _ hm)).2
 by_cases h0:g.own.getD v 0=0
 ·obtain ⟨a1,_⟩:=Zj1 (odd:=odd) (many:=many) (l:=l) h0 hr
  obtain ⟨_,i,b1,b2⟩:=Zj1 (odd:=odd) (many:=many) (l:=l') h0 hr
  unfold Ze0
  rw [b2]
  exact Int.le_trans (a1 i b1) (ha i b1)
 ·obtain ⟨_,i,b1,b2⟩:=Ziv (odd:=odd) (many:=many) (l:=l) h0 hr
  obtain ⟨a1,_⟩:=Ziv (odd:=odd) (many:=many) (l:=l') h0 hr
  unfold Ze0
  rw [b2]
  exact Int.le_trans (ha i b1) (a1 i b1)
theorem bB_same {l l':List Int} {v:Nat} (h:∀ t,t∈rws g.nxt v→l.getD t 0=l'.getD t 0):∀ {r},r≤(g.nxt.getD v []).length→bB g odd many l v r=bB g odd many l' v r
 |0,_=>rfl
 |r+1,hr=>by
  have e:askV g odd many l v r=askV g odd many l' v r:=by
   unfold askV;rw [h _ (Znt (by omega))]
  unfold bB
  rw [e,bB_same h (r:=r) (by omega)]
/-! Sums -/
theorem Zkj : ∀ {l:List Int} {v:Nat} {x:Int},v < l.length→(l.set v x).sum=l.sum - l.getD v 0+x
 |[],_,_,h=>absurd h (Nat.not_lt_zero _)
 |a :: l,0,x,_=>by
  show x+l.sum=a+l.sum - a+x
  omega
 |a :: l,v+1,x,h=>by
  have:=Zkj (l:=l) (v:=v) (x:=x) (by simpa using h)
  show a+(l.set v x).sum=a+l.sum - l.getD v 0+x
  rw [this];omega
theorem sum_le : ∀ {l:List Int} {P:Int},(∀ x,x∈l→x≤P)→l.sum≤l.length * P
 |[],P,_=>by simp
 |a :: l,P,h=>by
  have h1:=h a List.mem_cons_self
  have h2:=sum_le (l:=l) (P:=P) fun x hx=>h x (List.mem_cons_of_mem _ hx)
  show a+l.sum≤((l.length+1:Nat):Int) * P
  rw [Int.natCast_add,Int.add_mul];simp;omega
theorem LR_sum {l:List Int} (h:LR g many l):l.sum≤g.own.length * rpr many:=by
 rw [←h.len]
 refine sum_le fun x hx=>?_
 obtain ⟨j,hj,rfl⟩:=List.getElem_of_mem hx
 have:=(h.rng j (by rw [←h.len];exact hj)).2
 rw [List.getD_eq_getElem?_getD,List.getElem?_eq_getElem hj] at this
 exact this
theorem LR_set {l:List Int} (h:LR g many l) {v:Nat} {x:Int} (hv:v < g.own.length) (h0:0≤x) (h1:x≤rpr many):LR g many (l.set v x):=by
 refine ⟨by rw [List.length_set];exact h.len,fun u hu=>?_⟩
 rw [Zb5 (by rw [h.len];exact hv)]
 split
 ·exact ⟨h0,h1⟩
 ·exact h.rng u hu
structure QJ (g:Gm) (odd many:List Int) (l:List Int) (th:List Bool) (w:List Nat) (left:Int) (ex:Nat→Prop):Prop where
 lr:LR g many l
 blw:∀ l',Pre g odd many l'→∀ v,v < g.own.length→l.getD v 0≤l'.getD v 0
 tl:th.length=g.own.length
 tw:∀ v,v < g.own.length→(th.getD v false=true↔v∈w)
 wn:w.Nodup
 wb:∀ v,v∈w→v < g.own.length
 st:∀ v,v < g.own.length→v ∉ w→¬ ex v→Ze0 g odd many l v≤l.getD v 0
 lf:1048576 - left≤l.sum
 l2:left≤1048576
structure GOK (g:Gm) (many:List Int):Prop where
 hp:posL many
 hr:∀ v,v < g.own.length→0 < (g.nxt.getD v []).length
 hw:∀ v,v < g.own.length→∀ t,t∈rws g.nxt v→t < g.own.length
variable {l:List Int} {th:List Bool} {w:List Nat} {left:Int} {v:Nat}
theorem QJ_pop (H:QJ g odd many l th (v :: w) left fun _=>False):QJ g odd many l (th.set v false) w left (fun u=>u=v)∧v < g.own.length:=by
 have hv:=H.wb v List.mem_cons_self
 have hnd:=List.nodup_cons.1 H.wn
 refine ⟨{ H with tl:=by rw [List.length_set];exact H.tl,tw:=fun u hu=>?_,wn:=hnd.2,wb:=fun u hu=>H.wb u (List.mem_cons_of_mem _ hu),st:=fun u hu h1 h2=>H.st u hu (fun h=>?_) id },hv⟩
 ·rw [Zb5 (by rw [H.tl];exact hv)]
  by_cases e:u=v
  ·rw [if_pos e,e];exact ⟨fun h=>absurd h (by decide),fun h=>absurd h hnd.1⟩
  ·rw [if_neg e,H.tw u hu,List.mem_cons];exact ⟨fun h=>h.resolve_left e,.inr⟩
 ·rcases List.mem_cons.1 h with h|h
  ·exact h2 h
  ·exact h1 h
theorem QJ_skip (H:QJ g odd many l th w left fun u=>u=v) (h:¬ l.getD v 0 < Ze0 g odd many l v):QJ g odd many l th w left fun _=>False :=
 { H with st:=fun u hu h1 _=>(Classical.em (u=v)).elim (fun e=>by rw [e];omega) fun e=>H.st u hu h1 e }
theorem QJ_raise (hG:GOK g many) (H:QJ g odd many l th w left fun u=>u=v) (hv:v < g.own.length) (h:l.getD v 0 < Ze0 g odd many l v):QJ g odd many (l.set v (Ze0 g odd many l v)) th w (left - 1) fun u=>v∈rws g.nxt u:=by
 have hb:=Zmz (odd:=odd) hG.hp H.lr (hG.hr v hv) (hG.hw v hv)
 have hvl:v < l.length:=by rw [H.lr.len];exact hv
 refine { H with lr:=LR_set H.lr hv hb.1 hb.2,blw:=fun l' hl' u hu=>?_,st:=fun u hu h1 h2=>?_,lf:=?_,l2:=by have:=H.l2;omega }
 ·rw [Zb5 hvl]
  split
  ·rename_i e
   subst e
   exact Int.le_trans (best_mono hG.hp H.lr hl'.toLR (hG.hr u hu) (hG.hw u hu) fun t ht=>H.blw l' hl' t (hG.hw u hu t ht)) (hl'.ok u hu)
  ·exact H.blw l' hl' u hu
 ·have e:Ze0 g odd many (l.set v (Ze0 g odd many l v)) u=Ze0 g odd many l u:=bB_same (fun t ht=>by
   rw [Zb5 hvl,if_neg]
   intro e;subst e;exact h2 ht) (Nat.le_refl _)
  rw [e,Zb5 hvl]
  by_cases e2:u=v
  ·rw [if_pos e2,e2];exact Int.le_refl _
  ·rw [if_neg e2];exact H.st u hu h1 e2
 ·rw [Zkj hvl]
  have:=H.lf
  omega
theorem QJ_push {dn:List Nat} {u:Nat} (H:QJ g odd many l th w left fun t=>v∈rws g.nxt t∧t ∉ dn) (hu:u < g.own.length) (ho:th.getD u false=false):QJ g odd many l (th.set u true) (w++[u]) left fun t=>v∈rws g.nxt t∧t ∉ dn++[u]:=by
 have hul:u < th.length:=by rw [H.tl];exact hu
 have hnw:u ∉ w:=fun h=>by rw [(H.tw u hu).2 h] at ho;cases ho
 refine { H with tl:=by rw [List.length_set];exact H.tl,tw:=fun t ht=>?_,wn:=?_,wb:=fun t ht=>?_,st:=fun t ht h1 h2=>H.st t ht (fun h=>h1 (List.mem_append_left _ h)) (fun h=>h2 ⟨h.1,fun h3=>?_⟩) }
 ·rw [Zb5 hul,List.mem_append,List.mem_singleton]
  by_cases e:t=u
  ·rw [if_pos e];exact ⟨fun _=>.inr e,fun _=>rfl⟩
  ·rw [if_neg e,H.tw t ht];exact ⟨.inl,fun h=>h.resolve_right e⟩
 ·rw [List.nodup_append]
  exact ⟨H.wn,List.pairwise_singleton _ _,fun a ha b hb e=>by rw [List.mem_singleton.1 hb] at e;exact hnw (e▸ha)⟩
 ·rcases List.mem_append.1 ht with h|h
  ·exact H.wb t h
  ·rw [List.mem_singleton.1 h];exact hu
 ·rcases List.mem_append.1 h3 with h3|h3
  ·exact h.2 h3
  ·exact h1 (List.mem_append_right _ h3)
theorem QJ_past {dn:List Nat} {u:Nat} (H:QJ g odd many l th w left fun t=>v∈rws g.nxt t∧t ∉ dn) (hu:u < g.own.length) (ho:th.getD u false=true):QJ g odd many l th w left fun t=>v∈rws g.nxt t∧t ∉ dn++[u] :=
 { H with st:=fun t ht h1 h2=>H.st t ht h1 fun h=>h2 ⟨h.1,fun h3=>(List.mem_append.1 h3).elim h.2 fun h3=>h1 (by rw [List.mem_singleton.1 h3];exact (H.tw u hu).1 ho)⟩ }
theorem QJ_weak {ex ex':Nat→Prop} (H:QJ g odd many l th w left ex) (h:∀ u,u < g.own.length→ex u→ex' u):QJ g odd many l th w left ex':={ H with st:=fun u hu h1 h2=>H.st u hu h1 fun h3=>h2 (h u hu h3) }
theorem QJ_done (H:QJ g odd many l th [] left fun _=>False):Least g odd many l :=
 { H.lr with ok:=fun v hv=>H.st v hv List.not_mem_nil id,low:=H.blw }
def qm (g:Gm) (many l:List Int) (w:List Nat):Nat:=((g.own.length:Int) * rpr many - l.sum).toNat * (g.own.length+1)+w.length
end
end Go.Proofs.YtjcmlflljibikaaGreatDoor.Cal
